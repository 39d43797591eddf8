/- The walks of xid's calls at nil. No condition. -/
import Derived.Test.YtfgkocpmgoaljaaXidC
namespace Go.Proofs.Ytfgkocpmgoaljaa
open Go.RowKit Go.Shelf Xid
attribute [local go_sem] Oper.semAt_some

set_option maxHeartbeats 400000 in
theorem is_nil (id : Int) (w : World) : Calls Try.prog 51 #[.pointer none, .int .i64 id] w fun e w' => e = .returned (.bool false) ∧ w = w' := by
  go_enter Try.func51, Try.ntmps51
  go_wp2
  go_ret
  exact ⟨rfl, rfl⟩

set_option maxHeartbeats 400000 in
theorem begin_nil (id : Int) (w : World) : Calls Try.prog 47 #[.pointer none, .int .i64 id] w fun e w' => e = .returned (.tuple #[.int .i64 0, .int .i64 2]) ∧ w = w' := by
  go_enter Try.func47, Try.ntmps47
  go_wp2_with (go_at_call 51; refine (is_nil _ _).mono ?_; rintro e w' ⟨rfl, rfl⟩)
  go_ret2
  exact ⟨rfl, rfl⟩

set_option maxHeartbeats 400000 in
theorem end_nil (id a b : Int) (w : World) : Calls Try.prog 54 #[.pointer none, .int .i64 id, .int .u8 a, .int .u8 b] w fun e w' => e = .returned (.int .i64 2) ∧ Fr noB w w' := by
  go_enter Try.func54, Try.ntmps54
  go_wp2
  go_ret
  exact ⟨rfl, (((Fr.refl _ _).alloc _).alloc _).alloc _⟩

set_option maxHeartbeats 400000 in
theorem commit_nil (id : Int) (w : World) : Calls Try.prog 34 #[.pointer none, .int .i64 id] w fun e w' => e = .returned (.int .i64 2) ∧ Fr noB w w' := by
  go_enter Try.func34, Try.ntmps34
  go_wp2_with (go_at_call 54; refine (end_nil _ _ _ _).mono ?_; rintro e w' ⟨rfl, hf⟩)
  go_ret
  exact ⟨rfl, hf⟩

set_option maxHeartbeats 400000 in
theorem abort_nil (id : Int) (w : World) : Calls Try.prog 35 #[.pointer none, .int .i64 id] w fun e w' => e = .returned (.int .i64 2) ∧ Fr noB w w' := by
  go_enter Try.func35, Try.ntmps35
  go_wp2_with (go_at_call 54; refine (end_nil _ _ _ _).mono ?_; rintro e w' ⟨rfl, hf⟩)
  go_ret
  exact ⟨rfl, hf⟩

set_option maxHeartbeats 400000 in
theorem state_nil (id : Int) (w : World) : Calls Try.prog 24 #[.pointer none, .int .i64 id] w fun e w' => e = .returned (.int .u8 0) ∧ w = w' := by
  go_enter Try.func24, Try.ntmps24
  go_wp2_with (go_at_call 51; refine (is_nil _ _).mono ?_; rintro e w' ⟨rfl, rfl⟩)
  go_ret
  exact ⟨rfl, rfl⟩

set_option maxHeartbeats 400000 in
theorem last_nil (w : World) : Calls Try.prog 21 #[.pointer none] w fun e w' => e = .returned (.int .i64 0) ∧ w = w' := by
  go_enter Try.func21, Try.ntmps21
  go_wp2_with (go_at_call 51; refine (is_nil _ _).mono ?_; rintro e w' ⟨rfl, rfl⟩)
  go_ret
  exact ⟨rfl, rfl⟩

set_option maxHeartbeats 400000 in
theorem len_nil (w : World) : Calls Try.prog 23 #[.pointer none] w fun e w' => e = .returned (.int .i64 0) ∧ w = w' := by
  go_enter Try.func23, Try.ntmps23
  go_wp2_with (go_at_call 51; refine (is_nil _ _).mono ?_; rintro e w' ⟨rfl, rfl⟩)
  go_ret
  exact ⟨rfl, rfl⟩

set_option maxHeartbeats 400000 in
theorem copy_nil (w : World) : Calls Try.prog 48 #[.pointer none] w fun e w' => e = .returned (.pointer none) ∧ w = w' := by
  go_enter Try.func48, Try.ntmps48
  go_wp2_with (go_at_call 51; refine (is_nil _ _).mono ?_; rintro e w' ⟨rfl, rfl⟩)
  go_ret
  exact ⟨rfl, rfl⟩

set_option maxHeartbeats 400000 in
theorem up_nil (id : Int) (w : World) :
    Calls Try.prog 53 #[.pointer none, .int .i64 id] w fun e w' =>
      e = .returned (.func (.func 60) #[] #[.pointer (some ⟨w.heap.size, 0, none⟩), .pointer (some ⟨w.heap.size + 1, 0, none⟩)]) ∧
      (w.alloc (.cells #[.pointer none] 23)).alloc (.cells #[.int .i64 id] 3) = w' := by
  go_enter Try.func53, Try.ntmps53
  go_wp2
  go_ret
  exact ⟨rfl, rfl⟩

set_option maxHeartbeats 1000000 in
theorem up1_nil (n l Bt Bid : Nat) (hn : 1 ≤ n) (k : Int) (W : World) (h1 : W.cell? ⟨Bt, 0, none⟩ = some (.pointer none)) (h2 : W.cell? ⟨Bid, 0, none⟩ = some (.int .i64 k)) :
    CallsIn Fence.wide n Try.prog 60 (#[.func (.yield l) #[] #[]] ++ #[.pointer (some ⟨Bt, 0, none⟩), .pointer (some ⟨Bid, 0, none⟩)]) W fun e W' => (∃ v, e = .returned v) ∧ W = W' := by
  have hF : ∀ f, Fence.wide.fn f := fun _ => trivial
  refine callsIn_of_wp Try.func60 rfl trivial ?_ rfl
  simp only [Try.ntmps60, List.size_toArray, List.length_cons, List.length_nil, Nat.reduceAdd, Nat.reduceSub, Array.replicate_succ, Array.replicate_zero, List.push_toArray, List.append_toArray, List.nil_append, List.cons_append]
  gi_wp2
  gi_loopw [4] (fun _ wr => W = wr) (fun _ _ => 0)
  case atStart => rfl
  case round =>
    obtain rfl := hrel
    gi_wp2_with (first | (gi_at_call 51; refine (callsIn_wide.2 (is_nil _ _)).mono ?_; rintro e w' ⟨rfl, rfl⟩))
    go_end0
    exact ⟨⟨_, rfl⟩, rfl⟩

set_option maxHeartbeats 1000000 in
theorem top_nil (id : Int) (w : World) :
    Calls Try.prog 26 #[.pointer none, .int .i64 id] w fun e w' => e = .returned (.int .i64 0) ∧ Fr noB w w' := by
  have hF : ∀ f, Fence.wide.fn f := fun _ => trivial
  refine (callsIn_wide (n := 9)).1 ?_
  refine callsIn_of_wp_marks Try.func26 rfl trivial ?_ rfl
  simp only [Try.ntmps26, List.size_toArray, List.length_cons, List.length_nil, Nat.reduceAdd, Nat.reduceSub, Array.replicate_succ, Array.replicate_zero, List.push_toArray, List.append_toArray, List.nil_append, List.cons_append]
  gi_wp2_with (gi_at_call 53; refine (callsIn_wide.2 (up_nil id _)).mono ?_; rintro e w' ⟨rfl, rfl⟩)
  obtain ⟨W0, hW0⟩ : ∃ W0, ((w.alloc (.cells #[.int .i64 0] 3)).alloc (.cells #[.pointer none] 23)).alloc (.cells #[.int .i64 id] 3) = W0 := ⟨_, rfl⟩
  have hsz : W0.heap.size = w.heap.size + 3 := by rw [← hW0]; simp
  have hb0 : W0.heap[w.heap.size]? = some (.cells #[.int .i64 0] 3 (0, 0)) := by rw [← hW0]; exact obj_alloc (obj_alloc (obj_alloc_new _ _) _) _
  have hb1 : W0.heap[w.heap.size + 1]? = some (.cells #[.pointer none] 23 (0, 0)) := by
    rw [← hW0]; have := obj_alloc_new (w.alloc (.cells #[.int .i64 0] 3)) (.cells #[.pointer none] 23); rw [World.size_alloc] at this; exact obj_alloc this _
  have hb2 : W0.heap[w.heap.size + 2]? = some (.cells #[.int .i64 id] 3 (0, 0)) := by
    rw [← hW0]; have := obj_alloc_new ((w.alloc (.cells #[.int .i64 0] 3)).alloc (.cells #[.pointer none] 23)) (.cells #[.int .i64 id] 3); rw [World.size_alloc, World.size_alloc] at this; exact this
  have hf0 : Fr noB w W0 := by rw [← hW0]; exact (((Fr.refl _ _).alloc _).alloc _).alloc _
  rw [hW0]
  clear hW0
  have HSZ := Lib.hid hsz
  refine rf_enter (gf := 60) (lb := #[.pointer (some ⟨w.heap.size + 1, 0, none⟩), .pointer (some ⟨w.heap.size + 1 + 1, 0, none⟩)]) rfl (enters_of Try.func60 (by kernel_rfl) rfl) ?_
  rw [hsz]
  clear hsz
  intro fn hrec
  generalize hrr : rcd fn _ _ _ _ (w.heap.size + 3) = rr at hrec ⊢
  refine (up1_nil 8 (w.heap.size + 3 + 1) (w.heap.size + 1) (w.heap.size + 2) (by omega) id _ ?_ ?_).mono ?_
  · rw [cell_of_obj (obj_alloc (obj_alloc hb1 _) _)]; rfl
  · rw [cell_of_obj (obj_alloc (obj_alloc hb2 _) _)]; rfl
  · rintro e W1 ⟨hv, hW1⟩
    rw [hW1] at hrec
    have htop := obj_alloc (obj_alloc hb0 (.deferred (some []))) (.loop (rr .ready none))
    have hf1 : Fr noB w W1 := by rw [← hW1]; exact (hf0.alloc _).alloc _
    rw [hW1] at htop
    clear hW1
    refine ⟨hv, .inl ⟨hrec, ?_⟩⟩
    have htop' : (W1.putObj (w.heap.size + 3 + 1) (.loop (rr .exhausted none))).heap[w.heap.size]? = some (.cells #[.int .i64 0] 3 (0, 0)) := obj_putObj_other htop _ (by omega)
    have hD' : (W1.putObj (w.heap.size + 3 + 1) (.loop (rr .exhausted none))).heap[w.heap.size + 3]? = some (.deferred (some [])) := obj_putObj_other hrec.defs _ (by omega)
    have hf' : Fr noB w (W1.putObj (w.heap.size + 3 + 1) (.loop (rr .exhausted none))) := hf1.putObj (by omega) _
    have hc' := cell_of_obj htop' 0
    simp at hc'
    clear hrec htop
    generalize W1.putObj (w.heap.size + 3 + 1) (.loop (rr .exhausted none)) = W3 at *
    clear hrr
    gi_wp2
    refine ⟨by simp, .inl ⟨_, _, rfl, run_takeDeferred hD', ?_⟩⟩
    exact ⟨_, results_tmp rfl _ _ _, rfl, hf'.putObj (by omega) _⟩

set_option maxHeartbeats 2000000 in
theorem counts_nil (id : Int) (w : World) :
    Calls Try.prog 28 #[.pointer none, .int .i64 id] w fun e w' => e = .returned (.bool false) ∧ Fr noB w w' := by
  have hF : ∀ f, Fence.wide.fn f := fun _ => trivial
  refine (callsIn_wide (n := 9)).1 ?_
  refine callsIn_of_wp_marks Try.func28 rfl trivial ?_ rfl
  simp only [Try.ntmps28, List.size_toArray, List.length_cons, List.length_nil, Nat.reduceAdd, Nat.reduceSub, Array.replicate_succ, Array.replicate_zero, List.push_toArray, List.append_toArray, List.nil_append, List.cons_append]
  gi_wp2_with (gi_at_call 53; refine (callsIn_wide.2 (up_nil id _)).mono ?_; rintro e w' ⟨rfl, rfl⟩)
  obtain ⟨W0, hW0⟩ : ∃ W0, (((w.alloc (.cells #[.pointer none] 23)).alloc (.cells #[.bool false] 4)).alloc (.cells #[.pointer none] 23)).alloc (.cells #[.int .i64 id] 3) = W0 := ⟨_, rfl⟩
  have hsz : W0.heap.size = w.heap.size + 4 := by rw [← hW0]; simp
  have hb0 : W0.heap[w.heap.size]? = some (.cells #[.pointer none] 23 (0, 0)) := by rw [← hW0]; exact obj_alloc (obj_alloc (obj_alloc (obj_alloc_new _ _) _) _) _
  have hb1 : W0.heap[w.heap.size + 1]? = some (.cells #[.bool false] 4 (0, 0)) := by
    rw [← hW0]; have := obj_alloc_new (w.alloc (.cells #[.pointer none] 23)) (.cells #[.bool false] 4); rw [World.size_alloc] at this; exact obj_alloc (obj_alloc this _) _
  have hb2 : W0.heap[w.heap.size + 2]? = some (.cells #[.pointer none] 23 (0, 0)) := by
    rw [← hW0]; have := obj_alloc_new ((w.alloc (.cells #[.pointer none] 23)).alloc (.cells #[.bool false] 4)) (.cells #[.pointer none] 23); rw [World.size_alloc, World.size_alloc] at this; exact obj_alloc this _
  have hb3 : W0.heap[w.heap.size + 3]? = some (.cells #[.int .i64 id] 3 (0, 0)) := by
    rw [← hW0]; have := obj_alloc_new (((w.alloc (.cells #[.pointer none] 23)).alloc (.cells #[.bool false] 4)).alloc (.cells #[.pointer none] 23)) (.cells #[.int .i64 id] 3); rw [World.size_alloc, World.size_alloc, World.size_alloc] at this; exact this
  have hf0 : Fr noB w W0 := by rw [← hW0]; exact ((((Fr.refl _ _).alloc _).alloc _).alloc _).alloc _
  rw [hW0]
  clear hW0
  have HSZ := Lib.hid hsz
  refine rf_enter (gf := 60) (lb := #[.pointer (some ⟨w.heap.size + 1 + 1, 0, none⟩), .pointer (some ⟨w.heap.size + 1 + 1 + 1, 0, none⟩)]) rfl (enters_of Try.func60 (by kernel_rfl) rfl) ?_
  rw [hsz]
  clear hsz
  intro fn hrec
  generalize hrr : rcd fn _ _ _ _ (w.heap.size + 4) = rr at hrec ⊢
  refine (up1_nil 8 (w.heap.size + 4 + 1) (w.heap.size + 2) (w.heap.size + 3) (by omega) id _ ?_ ?_).mono ?_
  · rw [cell_of_obj (obj_alloc (obj_alloc hb2 _) _)]; rfl
  · rw [cell_of_obj (obj_alloc (obj_alloc hb3 _) _)]; rfl
  · rintro e W1 ⟨hv, hW1⟩
    rw [hW1] at hrec
    have htb := obj_alloc (obj_alloc hb0 (.deferred (some []))) (.loop (rr .ready none))
    have hres := obj_alloc (obj_alloc hb1 (.deferred (some []))) (.loop (rr .ready none))
    have hf1 : Fr noB w W1 := by rw [← hW1]; exact (hf0.alloc _).alloc _
    rw [hW1] at htb hres
    clear hW1
    refine ⟨hv, .inl ⟨hrec, ?_⟩⟩
    have hres' : (W1.putObj (w.heap.size + 4 + 1) (.loop (rr .exhausted none))).heap[w.heap.size + 1]? = some (.cells #[.bool false] 4 (0, 0)) := obj_putObj_other hres _ (by omega)
    have htb' : (W1.putObj (w.heap.size + 4 + 1) (.loop (rr .exhausted none))).heap[w.heap.size]? = some (.cells #[.pointer none] 23 (0, 0)) := obj_putObj_other htb _ (by omega)
    have hD' : (W1.putObj (w.heap.size + 4 + 1) (.loop (rr .exhausted none))).heap[w.heap.size + 4]? = some (.deferred (some [])) := obj_putObj_other hrec.defs _ (by omega)
    have hf' : Fr noB w (W1.putObj (w.heap.size + 4 + 1) (.loop (rr .exhausted none))) := hf1.putObj (by omega) _
    have hc' := cell_of_obj hres' 0
    have hc'' := cell_of_obj htb' 0
    have hz' := frozen_of_obj hres' 0
    simp at hc' hc''
    clear hrec htb hres
    generalize W1.putObj (w.heap.size + 4 + 1) (.loop (rr .exhausted none)) = W3 at *
    clear hrr
    gi_wp2_with (gi_at_call 51; refine (callsIn_wide.2 (is_nil _ _)).mono ?_; rintro e w' ⟨rfl, rfl⟩)
    have hD4 : (W3.setCell ⟨w.heap.size + 1, 0, none⟩ (.bool false)).heap[w.heap.size + 4]? = some (.deferred (some [])) := obj_setCell_other hD' _ _ (by dsimp only; omega)
    have hr4 : (W3.setCell ⟨w.heap.size + 1, 0, none⟩ (.bool false)).heap[w.heap.size + 1]? = some (.cells #[.bool false] 4 (0, 0)) := obj_setCell hres' 0 _
    refine ⟨by simp, .inl ⟨_, _, rfl, run_takeDeferred hD4, ?_⟩⟩
    have hc5 : ((W3.setCell ⟨w.heap.size + 1, 0, none⟩ (.bool false)).putObj (w.heap.size + 4) (.deferred none)).cell? ⟨w.heap.size + 1, 0, none⟩ = some (.bool false) := by
      rw [cell_of_obj (obj_putObj_other hr4 _ (by omega))]; rfl
    exact ⟨.bool false, by simp [results, Try.results28, go_sem, hc5], rfl, (hf'.setCell (fun h => by dsimp only at h; omega) _).putObj (by omega) _⟩

set_option maxHeartbeats 400000 in
theorem number_nil (id : Int) (w : World) : Calls Try.prog 30 #[.pointer none, .int .i64 id] w fun e w' => e = .returned (.int .i64 0) ∧ Fr noB w w' := by
  go_enter Try.func30, Try.ntmps30
  go_wp2_with fail
  refine (counts_nil id _).mono ?_
  rintro e w1 ⟨rfl, hf1⟩
  go_wp2_with fail
  go_ret
  exact ⟨rfl, hf1⟩

end Go.Proofs.Ytfgkocpmgoaljaa
