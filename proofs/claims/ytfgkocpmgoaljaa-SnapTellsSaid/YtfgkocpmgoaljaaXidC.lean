/- The walks of xid's Counts and Number. The conditions: the table lies in memory as its data say. -/
import Derived.Test.YtfgkocpmgoaljaaXidU
namespace Go.Proofs.Ytfgkocpmgoaljaa
open Go.RowKit Go.Shelf Xid
attribute [local go_sem] Oper.semAt_some

/-- Counts' loop, between two rounds. -/
structure JCnt (s p : Nat) (T : List One) (id : Int) (w : World) (rec : LoopState → Option Code → Loop) (k : Int) (W : World) : Prop where
  pre : ∃ pre : List Nat, upL T id.toNat = pre ++ upL T k.toNat ∧ pre.all (fun k => st T k != 3) = true
  tb : W.heap[s]? = some (.cells #[.pointer (some ⟨p, 0, none⟩)] 23 (0, 0))
  res : W.heap[s + 1]? = some (.cells #[.bool false] 4 (0, 0))
  box : W.heap[s + 2]? = some (.cells #[.pointer (some ⟨p, 0, none⟩)] 23 (0, 0))
  ids : W.heap[s + 3]? = some (.cells #[.int .i64 k] 3 (0, 0))
  rcd : Rcd W (s + 4) rec .ready none
  fr : Fr noB w W
/-- Where a round has left. -/
structure XCnt (s : Nat) (T : List One) (id : Int) (w : World) (rec : LoopState → Option Code → Loop) (W : World) : Prop where
  no : countsOf T id = false
  res : W.heap[s + 1]? = some (.cells #[.bool false] 4 (0, 0))
  rcd : Rcd W (s + 4) rec .done (some .ret)
  fr : Fr noB w W

theorem inR_of_upL {T : List One} {id : Int} {k : Nat} (hk : k ∈ upL T id.toNat) : inR T id = true := by
  by_cases hr : 1 ≤ id.toNat ∧ id.toNat ≤ T.length
  · simp [inR, inB]; omega
  · rw [upL_out hr] at hk; cases hk

set_option maxHeartbeats 2000000 in
theorem counts_any (p : Nat) (R : Option Nat) (T : List One) (last : Nat) (id : Int) (w : World) (hT : IsT w p R T last) (hlen : T.length ≤ 1000000) :
    Calls Try.prog 28 #[.pointer (some ⟨p, 0, none⟩), .int .i64 id] w fun e w' => e = .returned (.bool (countsOf T id)) ∧ Fr noB w w' := by
  have hF : ∀ f, Fence.wide.fn f := fun _ => trivial
  refine (callsIn_wide (n := 9)).1 ?_
  refine callsIn_of_wp_marks Try.func28 rfl trivial ?_ rfl
  simp only [Try.ntmps28, List.size_toArray, List.length_cons, List.length_nil, Nat.reduceAdd, Nat.reduceSub, Array.replicate_succ, Array.replicate_zero, List.push_toArray, List.append_toArray, List.nil_append, List.cons_append]
  gi_wp2_with (gi_at_call 53; refine (callsIn_wide.2 (up_any p id _)).mono ?_; rintro e w' ⟨rfl, rfl⟩)
  obtain ⟨W0, hW0⟩ : ∃ W0, (((w.alloc (.cells #[.pointer (some ⟨p, 0, none⟩)] 23)).alloc (.cells #[.bool false] 4)).alloc (.cells #[.pointer (some ⟨p, 0, none⟩)] 23)).alloc (.cells #[.int .i64 id] 3) = W0 := ⟨_, rfl⟩
  have hsz : W0.heap.size = w.heap.size + 4 := by rw [← hW0]; simp
  have hb0 : W0.heap[w.heap.size]? = some (.cells #[.pointer (some ⟨p, 0, none⟩)] 23 (0, 0)) := by rw [← hW0]; exact obj_alloc (obj_alloc (obj_alloc (obj_alloc_new _ _) _) _) _
  have hb1 : W0.heap[w.heap.size + 1]? = some (.cells #[.bool false] 4 (0, 0)) := by
    rw [← hW0]; have := obj_alloc_new (w.alloc (.cells #[.pointer (some ⟨p, 0, none⟩)] 23)) (.cells #[.bool false] 4); rw [World.size_alloc] at this; exact obj_alloc (obj_alloc this _) _
  have hb2 : W0.heap[w.heap.size + 2]? = some (.cells #[.pointer (some ⟨p, 0, none⟩)] 23 (0, 0)) := by
    rw [← hW0]; have := obj_alloc_new ((w.alloc (.cells #[.pointer (some ⟨p, 0, none⟩)] 23)).alloc (.cells #[.bool false] 4)) (.cells #[.pointer (some ⟨p, 0, none⟩)] 23); rw [World.size_alloc, World.size_alloc] at this; exact obj_alloc this _
  have hb3 : W0.heap[w.heap.size + 3]? = some (.cells #[.int .i64 id] 3 (0, 0)) := by
    rw [← hW0]; have := obj_alloc_new (((w.alloc (.cells #[.pointer (some ⟨p, 0, none⟩)] 23)).alloc (.cells #[.bool false] 4)).alloc (.cells #[.pointer (some ⟨p, 0, none⟩)] 23)) (.cells #[.int .i64 id] 3); rw [World.size_alloc, World.size_alloc, World.size_alloc] at this; exact this
  have hf0 : Fr noB w W0 := by rw [← hW0]; exact ((((Fr.refl _ _).alloc _).alloc _).alloc _).alloc _
  rw [hW0]
  clear hW0
  have HSZ := Lib.hid hsz
  refine rf_enter (gf := 60) (lb := #[.pointer (some ⟨w.heap.size + 1 + 1, 0, none⟩), .pointer (some ⟨w.heap.size + 1 + 1 + 1, 0, none⟩)]) rfl (enters_of Try.func60 (by kernel_rfl) rfl) ?_
  rw [hsz]
  clear hsz
  intro fn hrec
  generalize hrr : rcd fn _ _ _ _ (w.heap.size + 4) = rr at hrec ⊢
  refine (up1_in 8 (w.heap.size + 4 + 1) p (w.heap.size + 2) (w.heap.size + 3) (by omega) T hlen (JCnt w.heap.size p T id w rr) (XCnt w.heap.size T id w rr) ?_ ?_ id _ ?_).mono ?_
  · intro k W h
    exact ⟨by rw [cell_of_obj h.box]; rfl, by rw [cell_of_obj h.ids]; rfl, frozen_of_obj h.ids 0, R, last, hT.frN h.fr⟩
  · intro k W h h1 h2
    refine rf_round (hrr ▸ h.rcd.loop) rfl (T := fun W' => Rd p (w.heap.size + 2) (w.heap.size + 3) T k W' ∧ JCnt w.heap.size p T id w rr (par T k.toNat) (W'.setCell ⟨w.heap.size + 3, 0, none⟩ (.int .i64 (par T k.toNat)))) (X := fun c W' => c = .ret ∧ XCnt w.heap.size T id w rr W') (fun W' h => .inl ⟨rfl, h⟩) (fun _ _ h => .inr ⟨rfl, h.2⟩) ?_
    gi_wp2
    refine ⟨hrr ▸ h.rcd.loop, ?_⟩
    obtain ⟨pre, hpre, hall⟩ := h.pre
    obtain ⟨W2, hW2⟩ : ∃ W2, W.putObj (w.heap.size + 4 + 1) (.loop (rr .busy none)) = W2 := ⟨_, rfl⟩
    have hL2 : W2.heap[w.heap.size + 4 + 1]? = some (.loop (rr .busy none)) := by rw [← hW2]; exact World.putObj_heap_same (obj_lt h.rcd.loop)
    have hD2 : W2.heap[w.heap.size + 4]? = some (.deferred (some [])) := by rw [← hW2]; exact obj_putObj_other h.rcd.defs _ (by omega)
    have ht2 : W2.heap[w.heap.size]? = some (.cells #[.pointer (some ⟨p, 0, none⟩)] 23 (0, 0)) := by rw [← hW2]; exact obj_putObj_other h.tb _ (by omega)
    have hr2 : W2.heap[w.heap.size + 1]? = some (.cells #[.bool false] 4 (0, 0)) := by rw [← hW2]; exact obj_putObj_other h.res _ (by omega)
    have hb2 : W2.heap[w.heap.size + 2]? = some (.cells #[.pointer (some ⟨p, 0, none⟩)] 23 (0, 0)) := by rw [← hW2]; exact obj_putObj_other h.box _ (by omega)
    have hi2 : W2.heap[w.heap.size + 3]? = some (.cells #[.int .i64 k] 3 (0, 0)) := by rw [← hW2]; exact obj_putObj_other h.ids _ (by omega)
    have hf2 : Fr noB w W2 := by rw [← hW2]; exact h.fr.putObj (by omega) _
    have hc2 : W2.cell? ⟨w.heap.size, 0, none⟩ = some (.pointer (some ⟨p, 0, none⟩)) := by rw [cell_of_obj ht2]; rfl
    have hc3 : W2.cell? ⟨w.heap.size + 1, 0, none⟩ = some (.bool false) := by rw [cell_of_obj hr2]; rfl
    have hz2 : W2.frozen? ⟨w.heap.size + 1, 0, none⟩ = false := frozen_of_obj hr2 0
    obtain ⟨m, rfl⟩ : ∃ m : Nat, k = (m : Int) + 1 := ⟨(k - 1).toNat, by omega⟩
    have hm : m < T.length := by omega
    have hT2 := hT.frN hf2
    obtain ⟨r, cap, hR0, hne, hd0, hd1, hd2, hd3, _⟩ := hT2.ones hm
    have HR0 := Lib.hid hR0
    rw [hW2]
    clear hW2 hR0
    have e1 : ((m : Int) + 1).toNat = m + 1 := by omega
    rw [e1] at hpre ⊢
    have HPRE := Lib.hid hpre
    have HALL := Lib.hid hall
    clear hpre hrr hall e1
    by_cases h3 : (gt T m).state = 3
    · have hb : (((gt T m).state : Int) == 3) = true := by rw [h3]; rfl
      have H3 := Lib.hid h3
      clear h3
      gi_wp2_with (first | (gi_at_call 52; refine (CallsIn.inRound _ (callsIn_wide.2 (at_any p r _ _ m _ _ hd0 hm (by omega) (by omega)))).mono ?_; rintro e w' ⟨rfl, rfl⟩))
      have hr3 : ((W2.setCell ⟨w.heap.size + 1, 0, none⟩ (.bool false)).putObj (w.heap.size + 4 + 1) (.loop (rr .done (some .ret)))).heap[w.heap.size + 1]? = some (.cells #[.bool false] 4 (0, 0)) :=
        obj_putObj_other (obj_setCell hr2 0 _) _ (by omega)
      refine ⟨obj_setCell_other hL2 _ _ (by dsimp only; omega), rfl, ?_, hr3, ⟨?_, ?_⟩, ?_⟩
      · have hmem : m + 1 ∈ upL T id.toNat := by rw [HPRE.out, upL_in hT.wf (by omega) (by omega)]; simp
        have : (upL T id.toNat).all (fun k => st T k != 3) = false := by
          rw [List.all_eq_false]
          exact ⟨m + 1, hmem, by simp [st, H3.out]⟩
        simp [countsOf, this]
      · exact World.putObj_heap_same (obj_lt (obj_setCell_other hL2 _ _ (by dsimp only; omega)))
      · exact obj_putObj_other (obj_setCell_other hD2 _ _ (by dsimp only; omega)) _ (by omega)
      · exact (hf2.setCell (fun h => by dsimp only at h; omega) _).putObj (by omega) _
    · have hb : (((gt T m).state : Int) == 3) = false := by rw [beq_eq_false_iff_ne]; omega
      have H3 := Lib.hid h3
      clear h3
      gi_wp2_with (first | (gi_at_call 52; refine (CallsIn.inRound _ (callsIn_wide.2 (at_any p r _ _ m _ _ hd0 hm (by omega) (by omega)))).mono ?_; rintro e w' ⟨rfl, rfl⟩))
      have hi3 : (W2.putObj (w.heap.size + 4 + 1) (.loop (rr .ready none))).heap[w.heap.size + 3]? = some (.cells #[.int .i64 ((m : Int) + 1)] 3 (0, 0)) := obj_putObj_other hi2 _ (by omega)
      have hb3 : (W2.putObj (w.heap.size + 4 + 1) (.loop (rr .ready none))).heap[w.heap.size + 2]? = some (.cells #[.pointer (some ⟨p, 0, none⟩)] 23 (0, 0)) := obj_putObj_other hb2 _ (by omega)
      have hf3 : Fr noB w (W2.putObj (w.heap.size + 4 + 1) (.loop (rr .ready none))) := hf2.putObj (by omega) _
      refine ⟨hL2, ⟨by rw [cell_of_obj hb3]; rfl, by rw [cell_of_obj hi3]; rfl, frozen_of_obj hi3 0, R, last, hT.frN hf3⟩, ?_⟩
      refine ⟨⟨pre ++ [m + 1], ?_, ?_⟩, ?_, ?_, obj_setCell_other hb3 _ _ (by dsimp only; omega), obj_setCell hi3 0 _, ⟨?_, ?_⟩, hf3.setCell (fun h => by dsimp only at h; omega) _⟩
      · rw [HPRE.out, upL_in hT.wf (by omega) (by omega), Int.toNat_natCast, List.append_assoc]; rfl
      · rw [List.all_append, HALL.out]; simp [st, H3.out]
      · exact obj_setCell_other (obj_putObj_other ht2 _ (by omega)) _ _ (by dsimp only; omega)
      · exact obj_setCell_other (obj_putObj_other hr2 _ (by omega)) _ _ (by dsimp only; omega)
      · exact obj_setCell_other (World.putObj_heap_same (obj_lt hL2)) _ _ (by dsimp only; omega)
      · exact obj_setCell_other (obj_putObj_other hD2 _ (by omega)) _ _ (by dsimp only; omega)
  · refine ⟨⟨[], rfl, rfl⟩, ?_, ?_, ?_, ?_, hrec, (hf0.alloc _).alloc _⟩
    · exact obj_alloc (obj_alloc hb0 _) _
    · exact obj_alloc (obj_alloc hb1 _) _
    · exact obj_alloc (obj_alloc hb2 _) _
    · exact obj_alloc (obj_alloc hb3 _) _
  · rintro e W1 ⟨hv, ⟨k, hk, hJ⟩ | hX⟩
    · refine ⟨hv, .inl ⟨hJ.rcd, ?_⟩⟩
      obtain ⟨pre, hpre, hall⟩ := hJ.pre
      rw [upL_out (id := k.toNat) (by omega), List.append_nil] at hpre
      have hres' : (W1.putObj (w.heap.size + 4 + 1) (.loop (rr .exhausted none))).heap[w.heap.size + 1]? = some (.cells #[.bool false] 4 (0, 0)) := obj_putObj_other hJ.res _ (by omega)
      have htb' : (W1.putObj (w.heap.size + 4 + 1) (.loop (rr .exhausted none))).heap[w.heap.size]? = some (.cells #[.pointer (some ⟨p, 0, none⟩)] 23 (0, 0)) := obj_putObj_other hJ.tb _ (by omega)
      have hD' : (W1.putObj (w.heap.size + 4 + 1) (.loop (rr .exhausted none))).heap[w.heap.size + 4]? = some (.deferred (some [])) := obj_putObj_other hJ.rcd.defs _ (by omega)
      have hf' : Fr noB w (W1.putObj (w.heap.size + 4 + 1) (.loop (rr .exhausted none))) := hJ.fr.putObj (by omega) _
      have hcnt : countsOf T id = inB T.length id := by
        simp only [countsOf, hpre, hall, Bool.and_true]; rfl
      have HC := Lib.hid hcnt
      have hc' := cell_of_obj hres' 0
      have hc'' := cell_of_obj htb' 0
      have hz' := frozen_of_obj hres' 0
      simp at hc' hc''
      clear hrec
      generalize W1.putObj (w.heap.size + 4 + 1) (.loop (rr .exhausted none)) = W3 at *
      obtain ⟨a0, cap0, hh0, _⟩ := (hT.frN hf').head
      clear hrr hpre hall hcnt
      gi_wp2_with (gi_at_call 51; refine (callsIn_wide.2 (is_any p _ _ _ _ _ hh0)).mono ?_; rintro e w' ⟨rfl, rfl⟩)
      have hD4 : (W3.setCell ⟨w.heap.size + 1, 0, none⟩ (.bool (inB T.length id))).heap[w.heap.size + 4]? = some (.deferred (some [])) := obj_setCell_other hD' _ _ (by dsimp only; omega)
      have hr4 : (W3.setCell ⟨w.heap.size + 1, 0, none⟩ (.bool (inB T.length id))).heap[w.heap.size + 1]? = some (.cells #[.bool (inB T.length id)] 4 (0, 0)) := obj_setCell hres' 0 _
      refine ⟨by simp, .inl ⟨_, _, rfl, run_takeDeferred hD4, ?_⟩⟩
      have hc5 : ((W3.setCell ⟨w.heap.size + 1, 0, none⟩ (.bool (inB T.length id))).putObj (w.heap.size + 4) (.deferred none)).cell? ⟨w.heap.size + 1, 0, none⟩ = some (.bool (inB T.length id)) := by
        rw [cell_of_obj (obj_putObj_other hr4 _ (by omega))]; rfl
      rw [HC.out]
      exact ⟨.bool (inB T.length id), by simp [results, Try.results28, go_sem, hc5], rfl, (hf'.setCell (fun h => by dsimp only at h; omega) _).putObj (by omega) _⟩
    · refine ⟨hv, .inr ⟨.ret, hX.rcd, ?_⟩⟩
      have hres' : (W1.putObj (w.heap.size + 4 + 1) (.loop (rr .exhausted (some .ret)))).heap[w.heap.size + 1]? = some (.cells #[.bool false] 4 (0, 0)) := obj_putObj_other hX.res _ (by omega)
      have hD' : (W1.putObj (w.heap.size + 4 + 1) (.loop (rr .exhausted (some .ret)))).heap[w.heap.size + 4]? = some (.deferred (some [])) := obj_putObj_other hX.rcd.defs _ (by omega)
      have hf' : Fr noB w (W1.putObj (w.heap.size + 4 + 1) (.loop (rr .exhausted (some .ret)))) := hX.fr.putObj (by omega) _
      have HC := Lib.hid hX.no
      clear hrec hX
      generalize W1.putObj (w.heap.size + 4 + 1) (.loop (rr .exhausted (some .ret))) = W3 at *
      clear hrr
      gi_wp2
      refine ⟨by simp, .inl ⟨_, _, rfl, run_takeDeferred hD', ?_⟩⟩
      have hc5 : (W3.putObj (w.heap.size + 4) (.deferred none)).cell? ⟨w.heap.size + 1, 0, none⟩ = some (.bool false) := by
        rw [cell_of_obj (obj_putObj_other hres' _ (by omega))]; rfl
      rw [HC.out]
      exact ⟨.bool false, by simp [results, Try.results28, go_sem, hc5], rfl, hf'.putObj (by omega) _⟩

theorem topOf_in {T : List One} (h : WF T) {id : Int} (hr : inR T id = true) : 1 ≤ topOf T id ∧ topOf T id ≤ T.length := by
  have hr' : 1 ≤ id ∧ id ≤ T.length := by simpa [inR, inB] using hr
  have hm : topOf T id ∈ upL T id.toNat := by
    unfold topOf
    rw [upL_in h (by omega) (by omega), List.getLastD_cons]
    exact List.getLastD_mem_cons ..
  have := mem_upL h hm
  omega

set_option maxHeartbeats 1000000 in
theorem number_any (p : Nat) (R : Option Nat) (T : List One) (last : Nat) (id : Int) (w : World) (hT : IsT w p R T last) (hlen : T.length ≤ 1000000) :
    Calls Try.prog 30 #[.pointer (some ⟨p, 0, none⟩), .int .i64 id] w fun e w' => e = .returned (.int .i64 (numberOf T id)) ∧ Fr noB w w' := by
  by_cases hc : countsOf T id = true
  · have hr : inR T id = true := by
      unfold countsOf at hc; rw [Bool.and_eq_true] at hc; exact hc.1
    obtain ⟨h1, h2⟩ := topOf_in hT.wf hr
    obtain ⟨m, hm⟩ : ∃ m : Nat, topOf T id = m + 1 := ⟨topOf T id - 1, by omega⟩
    have hml : m < T.length := by omega
    have hN : numberOf T id = (gt T m).number := by unfold numberOf; rw [hc, if_pos rfl, hm]; rfl
    have HC := Lib.hid hc; have HM := Lib.hid hm; have HN := Lib.hid hN
    clear hc hr h1 h2 hm hN
    go_enter Try.func30, Try.ntmps30
    go_wp2_with fail
    refine (counts_any p R T last id _ hT hlen).mono ?_
    rintro e w1 ⟨rfl, hf1⟩
    rw [HC.out]
    have hT1 := hT.frN hf1
    go_wp2_with fail
    refine (top_any p R T last id _ hT1 hlen).mono ?_
    rintro e w2 ⟨rfl, hf2⟩
    have hT2 := hT1.frN hf2
    rw [HM.out]
    obtain ⟨r, cap, hR0, hne, hd0, hd1, hd2, hd3, _⟩ := hT2.ones hml
    have HR0 := Lib.hid hR0; clear hR0
    go_wp2_with fail
    refine (at_any p r _ _ m _ _ hd0 hml (by omega) (by omega)).mono ?_
    rintro e w3 ⟨rfl, rfl⟩
    go_wp2_with fail
    go_ret
    exact ⟨ret_int (by rw [HN.out]), hf1.trans hf2⟩
  · have hc' : countsOf T id = false := by simpa using hc
    have hN : numberOf T id = 0 := by unfold numberOf; rw [if_neg hc]
    have HC := Lib.hid hc'; have HN := Lib.hid hN
    clear hc hc' hN
    go_enter Try.func30, Try.ntmps30
    go_wp2_with fail
    refine (counts_any p R T last id _ hT hlen).mono ?_
    rintro e w1 ⟨rfl, hf1⟩
    rw [HC.out]
    go_wp2_with fail
    go_ret
    exact ⟨ret_int (by rw [HN.out]; rfl), hf1⟩

end Go.Proofs.Ytfgkocpmgoaljaa
