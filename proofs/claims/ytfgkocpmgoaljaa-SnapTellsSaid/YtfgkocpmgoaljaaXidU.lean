/- The walks of xid's way up: the iterator, Top, Counts, Number. The conditions: the table lies in memory as its data say. -/
import Derived.Test.YtfgkocpmgoaljaaXidB
import Derived.Test.YtfgkocpmgoaljaaRf
namespace Go.Proofs.Ytfgkocpmgoaljaa
open Go.RowKit Go.Shelf Xid
attribute [local go_sem] Oper.semAt_some

set_option maxHeartbeats 400000 in
theorem up_any (p : Nat) (id : Int) (w : World) :
    Calls Try.prog 53 #[.pointer (some ⟨p, 0, none⟩), .int .i64 id] w fun e w' =>
      e = .returned (.func (.func 60) #[] #[.pointer (some ⟨w.heap.size, 0, none⟩), .pointer (some ⟨w.heap.size + 1, 0, none⟩)]) ∧
      (w.alloc (.cells #[.pointer (some ⟨p, 0, none⟩)] 23)).alloc (.cells #[.int .i64 id] 3) = w' := by
  go_enter Try.func53, Try.ntmps53
  go_wp2
  go_ret
  exact ⟨rfl, rfl⟩

/-- What the iterator reads. -/
structure Rd (p Bt Bid : Nat) (T : List One) (k : Int) (W : World) : Prop where
  t : W.cell? ⟨Bt, 0, none⟩ = some (.pointer (some ⟨p, 0, none⟩))
  id : W.cell? ⟨Bid, 0, none⟩ = some (.int .i64 k)
  fz : W.frozen? ⟨Bid, 0, none⟩ = false
  tab : ∃ R last, IsT W p R T last

set_option maxHeartbeats 1000000 in
theorem up1_in (n l p Bt Bid : Nat) (hn : 1 ≤ n) (T : List One) (hlen : T.length ≤ 1000000) (J : Int → World → Prop) (Jx : World → Prop)
    (hJ : ∀ k W, J k W → Rd p Bt Bid T k W)
    (hY : ∀ k W, J k W → 1 ≤ k → k ≤ T.length → YieldAt Fence.wide (n - 1) Try.prog l #[.int .i64 k] W fun e W' =>
      (e = .returned (.bool true) ∧ Rd p Bt Bid T k W' ∧ J (par T k.toNat) (W'.setCell ⟨Bid, 0, none⟩ (.int .i64 (par T k.toNat)))) ∨ (e = .returned (.bool false) ∧ Jx W'))
    (k0 : Int) (W : World) (h0 : J k0 W) :
    CallsIn Fence.wide n Try.prog 60 (#[.func (.yield l) #[] #[]] ++ #[.pointer (some ⟨Bt, 0, none⟩), .pointer (some ⟨Bid, 0, none⟩)]) W fun e W' => (∃ v, e = .returned v) ∧
      ((∃ k : Int, ¬ (1 ≤ k ∧ k ≤ T.length) ∧ J k W') ∨ Jx W') := by
  have hF : ∀ f, Fence.wide.fn f := fun _ => trivial
  refine callsIn_of_wp Try.func60 rfl trivial ?_ rfl
  simp only [Try.ntmps60, List.size_toArray, List.length_cons, List.length_nil, Nat.reduceAdd, Nat.reduceSub, Array.replicate_succ, Array.replicate_zero, List.push_toArray, List.append_toArray, List.nil_append, List.cons_append]
  gi_wp2
  gi_loopw [4] (fun _ wr => ∃ k : Int, J k wr) (fun _ wr => (intOf ((wr.cell? ⟨Bid, 0, none⟩).getD undef)).toNat)
  case atStart => exact ⟨k0, h0⟩
  case round =>
    obtain ⟨k, hk⟩ := hrel
    have hr := hJ k wr hk
    obtain ⟨R, last, hT⟩ := hr.tab
    obtain ⟨a0, cap0, hh0, _⟩ := hT.head
    have h1 := hr.t
    have h2 := hr.id
    by_cases hin : 1 ≤ k ∧ k ≤ T.length
    · have hd : inB T.length k = true := inB_yes hin
      obtain ⟨fn, tmps, assign, body, hy, hR⟩ := hY k wr hk hin.1 hin.2
      have H2 := Lib.hid h2
      have HIN := Lib.hid hin
      clear hin
      gi_wp2_with (first | (gi_at_call 51; refine (callsIn_wide.2 (is_any p _ _ _ _ _ hh0)).mono ?_; rintro e w' ⟨rfl, rfl⟩; rw [hd]))
      refine hR.mono ?_
      rintro e W3 (⟨rfl, hRd, hJ3⟩ | ⟨rfl, hJx⟩)
      · obtain ⟨R3, last3, hT3⟩ := hRd.tab
        obtain ⟨m, rfl⟩ : ∃ m : Nat, k = (m : Int) + 1 := ⟨(k - 1).toNat, by have := HIN.out; omega⟩
        have hm : m < T.length := by have := HIN.out; omega
        obtain ⟨r, cap, rfl, hne, hc0, hc1, hc2, hc3, _⟩ := hT3.ones hm
        have g1 := hRd.t
        have g2 := hRd.id
        have g3 := hRd.fz
        rw [show ((m : Int) + 1).toNat = m + 1 by omega] at hJ3
        gi_wp2_with (first | (gi_at_call 52; refine (callsIn_wide.2 (at_any p r _ _ m _ _ hc0 hm (by omega) (by omega))).mono ?_; rintro e w' ⟨rfl, rfl⟩))
        go_roundw
        case rel => exact ⟨par T (m + 1), hJ3⟩
        case measure =>
          have e1 : (W3.setCell ⟨Bid, 0, none⟩ (.int .i64 ((gt T m).parent : Nat))).cell? ⟨Bid, 0, none⟩ = some (.int .i64 ((gt T m).parent : Nat)) := (hJ _ _ hJ3).id
          rw [e1, H2.out]
          have := par_lt hT3.wf (id := m + 1) (by omega) (by omega)
          have e2 : par T (m + 1) = (gt T m).parent := rfl
          simp only [Option.getD_some, intOf]
          omega
      · gi_wp2
        go_end0
        exact ⟨⟨_, rfl⟩, .inr hJx⟩
    · have hd : inB T.length k = false := inB_no hin
      have HIN := Lib.hid hin
      clear hin
      gi_wp2_with (first | (gi_at_call 51; refine (callsIn_wide.2 (is_any p _ _ _ _ _ hh0)).mono ?_; rintro e w' ⟨rfl, rfl⟩; rw [hd]))
      go_end0
      exact ⟨⟨_, rfl⟩, .inl ⟨k, HIN.out, hk⟩⟩

/-- Top's loop, between two rounds. -/
structure JTop (s p : Nat) (T : List One) (id : Int) (w : World) (rec : LoopState → Option Code → Loop) (k : Int) (W : World) : Prop where
  tops : ∃ pre, upL T id.toNat = pre ++ upL T k.toNat ∧ W.heap[s]? = some (.cells #[.int .i64 (pre.getLastD 0 : Nat)] 3 (0, 0))
  box : W.heap[s + 1]? = some (.cells #[.pointer (some ⟨p, 0, none⟩)] 23 (0, 0))
  ids : W.heap[s + 2]? = some (.cells #[.int .i64 k] 3 (0, 0))
  rcd : Rcd W (s + 3) rec .ready none
  fr : Fr noB w W

theorem getLastD_snoc (l : List Nat) (x d : Nat) : (l ++ [x]).getLastD d = x := by simp [List.getLastD_eq_getLast?]

set_option maxHeartbeats 1000000 in
theorem top_any (p : Nat) (R : Option Nat) (T : List One) (last : Nat) (id : Int) (w : World) (hT : IsT w p R T last) (hlen : T.length ≤ 1000000) :
    Calls Try.prog 26 #[.pointer (some ⟨p, 0, none⟩), .int .i64 id] w fun e w' => e = .returned (.int .i64 (topOf T id)) ∧ Fr noB w w' := by
  have hF : ∀ f, Fence.wide.fn f := fun _ => trivial
  refine (callsIn_wide (n := 9)).1 ?_
  refine callsIn_of_wp_marks Try.func26 rfl trivial ?_ rfl
  simp only [Try.ntmps26, List.size_toArray, List.length_cons, List.length_nil, Nat.reduceAdd, Nat.reduceSub, Array.replicate_succ, Array.replicate_zero, List.push_toArray, List.append_toArray, List.nil_append, List.cons_append]
  gi_wp2_with (gi_at_call 53; refine (callsIn_wide.2 (up_any p id _)).mono ?_; rintro e w' ⟨rfl, rfl⟩)
  obtain ⟨W0, hW0⟩ : ∃ W0, ((w.alloc (.cells #[.int .i64 0] 3)).alloc (.cells #[.pointer (some ⟨p, 0, none⟩)] 23)).alloc (.cells #[.int .i64 id] 3) = W0 := ⟨_, rfl⟩
  have hsz : W0.heap.size = w.heap.size + 3 := by rw [← hW0]; simp
  have hb0 : W0.heap[w.heap.size]? = some (.cells #[.int .i64 0] 3 (0, 0)) := by rw [← hW0]; exact obj_alloc (obj_alloc (obj_alloc_new _ _) _) _
  have hb1 : W0.heap[w.heap.size + 1]? = some (.cells #[.pointer (some ⟨p, 0, none⟩)] 23 (0, 0)) := by
    rw [← hW0]; have := obj_alloc_new (w.alloc (.cells #[.int .i64 0] 3)) (.cells #[.pointer (some ⟨p, 0, none⟩)] 23); rw [World.size_alloc] at this; exact obj_alloc this _
  have hb2 : W0.heap[w.heap.size + 2]? = some (.cells #[.int .i64 id] 3 (0, 0)) := by
    rw [← hW0]; have := obj_alloc_new ((w.alloc (.cells #[.int .i64 0] 3)).alloc (.cells #[.pointer (some ⟨p, 0, none⟩)] 23)) (.cells #[.int .i64 id] 3); rw [World.size_alloc, World.size_alloc] at this; exact this
  have hf0 : Fr noB w W0 := by rw [← hW0]; exact (((Fr.refl _ _).alloc _).alloc _).alloc _
  rw [hW0]
  clear hW0
  have HSZ := Lib.hid hsz
  refine rf_enter (gf := 60) (lb := #[.pointer (some ⟨w.heap.size + 1, 0, none⟩), .pointer (some ⟨w.heap.size + 1 + 1, 0, none⟩)]) rfl (enters_of Try.func60 (by kernel_rfl) rfl) ?_
  rw [hsz]
  clear hsz
  intro fn hrec
  generalize hrr : rcd fn _ _ _ _ (w.heap.size + 3) = rr at hrec ⊢
  refine (up1_in 8 (w.heap.size + 3 + 1) p (w.heap.size + 1) (w.heap.size + 2) (by omega) T hlen (JTop w.heap.size p T id w rr) (fun _ => False) ?_ ?_ id _ ?_).mono ?_
  · intro k W h
    exact ⟨by rw [cell_of_obj h.box]; rfl, by rw [cell_of_obj h.ids]; rfl, frozen_of_obj h.ids 0, R, last, hT.frN h.fr⟩
  · intro k W h h1 h2
    refine rf_round (hrr ▸ h.rcd.loop) rfl (T := fun W' => Rd p (w.heap.size + 1) (w.heap.size + 2) T k W' ∧ JTop w.heap.size p T id w rr (par T k.toNat) (W'.setCell ⟨w.heap.size + 2, 0, none⟩ (.int .i64 (par T k.toNat)))) (X := fun _ _ => False) (fun W' h => .inl ⟨rfl, h⟩) (fun _ _ h => h.elim) ?_
    gi_wp2
    refine ⟨hrr ▸ h.rcd.loop, ?_⟩
    obtain ⟨pre, hpre, htop⟩ := h.tops
    obtain ⟨W2, hW2⟩ : ∃ W2, W.putObj (w.heap.size + 3 + 1) (.loop (rr .busy none)) = W2 := ⟨_, rfl⟩
    have hL2 : W2.heap[w.heap.size + 3 + 1]? = some (.loop (rr .busy none)) := by rw [← hW2]; exact World.putObj_heap_same (obj_lt h.rcd.loop)
    have hD2 : W2.heap[w.heap.size + 3]? = some (.deferred (some [])) := by rw [← hW2]; exact obj_putObj_other h.rcd.defs _ (by omega)
    have ht2 : W2.heap[w.heap.size]? = some (.cells #[.int .i64 (pre.getLastD 0 : Nat)] 3 (0, 0)) := by rw [← hW2]; exact obj_putObj_other htop _ (by omega)
    have hb2 : W2.heap[w.heap.size + 1]? = some (.cells #[.pointer (some ⟨p, 0, none⟩)] 23 (0, 0)) := by rw [← hW2]; exact obj_putObj_other h.box _ (by omega)
    have hi2 : W2.heap[w.heap.size + 2]? = some (.cells #[.int .i64 k] 3 (0, 0)) := by rw [← hW2]; exact obj_putObj_other h.ids _ (by omega)
    have hf2 : Fr noB w W2 := by rw [← hW2]; exact h.fr.putObj (by omega) _
    have hc2 : W2.cell? ⟨w.heap.size, 0, none⟩ = some (.int .i64 (pre.getLastD 0 : Nat)) := by rw [cell_of_obj ht2]; rfl
    have hz2 : W2.frozen? ⟨w.heap.size, 0, none⟩ = false := frozen_of_obj ht2 0
    rw [hW2]
    clear hW2
    have HPRE := Lib.hid hpre
    clear hpre hrr
    gi_wp2
    have hi3 : ((W2.setCell ⟨w.heap.size, 0, none⟩ (.int .i64 k)).putObj (w.heap.size + 3 + 1) (.loop (rr .ready none))).heap[w.heap.size + 2]? = some (.cells #[.int .i64 k] 3 (0, 0)) :=
      obj_putObj_other (obj_setCell_other hi2 _ _ (by dsimp only; omega)) _ (by omega)
    have hb3 : ((W2.setCell ⟨w.heap.size, 0, none⟩ (.int .i64 k)).putObj (w.heap.size + 3 + 1) (.loop (rr .ready none))).heap[w.heap.size + 1]? = some (.cells #[.pointer (some ⟨p, 0, none⟩)] 23 (0, 0)) :=
      obj_putObj_other (obj_setCell_other hb2 _ _ (by dsimp only; omega)) _ (by omega)
    have ht3 : ((W2.setCell ⟨w.heap.size, 0, none⟩ (.int .i64 k)).putObj (w.heap.size + 3 + 1) (.loop (rr .ready none))).heap[w.heap.size]? = some (.cells #[.int .i64 k] 3 (0, 0)) :=
      obj_putObj_other (obj_setCell ht2 0 _) _ (by omega)
    have hL3 : ((W2.setCell ⟨w.heap.size, 0, none⟩ (.int .i64 k)).putObj (w.heap.size + 3 + 1) (.loop (rr .ready none))).heap[w.heap.size + 3 + 1]? = some (.loop (rr .ready none)) :=
      World.putObj_heap_same (obj_lt (obj_setCell_other hL2 _ _ (by dsimp only; omega)))
    have hD3 : ((W2.setCell ⟨w.heap.size, 0, none⟩ (.int .i64 k)).putObj (w.heap.size + 3 + 1) (.loop (rr .ready none))).heap[w.heap.size + 3]? = some (.deferred (some [])) :=
      obj_putObj_other (obj_setCell_other hD2 _ _ (by dsimp only; omega)) _ (by omega)
    have hf3 : Fr noB w ((W2.setCell ⟨w.heap.size, 0, none⟩ (.int .i64 k)).putObj (w.heap.size + 3 + 1) (.loop (rr .ready none))) := (hf2.setCell (fun h => by dsimp only at h; omega) _).putObj (by omega) _
    refine ⟨obj_setCell_other hL2 _ _ (by dsimp only; omega), ⟨by rw [cell_of_obj hb3]; rfl, by rw [cell_of_obj hi3]; rfl, frozen_of_obj hi3 0, R, last, hT.frN hf3⟩, ?_⟩
    obtain ⟨m, rfl⟩ : ∃ m : Nat, k = (m : Int) := ⟨k.toNat, by omega⟩
    refine ⟨⟨pre ++ [m], ?_, ?_⟩, obj_setCell_other hb3 _ _ (by dsimp only; omega), obj_setCell hi3 0 _, ⟨obj_setCell_other hL3 _ _ (by dsimp only; omega), obj_setCell_other hD3 _ _ (by dsimp only; omega)⟩, hf3.setCell (fun h => by dsimp only at h; omega) _⟩
    · rw [HPRE.out, Int.toNat_natCast, upL_in hT.wf (by omega) (by omega), Int.toNat_natCast, List.append_assoc]; rfl
    · rw [getLastD_snoc]; exact obj_setCell_other ht3 _ _ (by dsimp only; omega)
  · refine ⟨⟨[], rfl, ?_⟩, ?_, ?_, hrec, (hf0.alloc _).alloc _⟩
    · exact obj_alloc (obj_alloc hb0 _) _
    · exact obj_alloc (obj_alloc hb1 _) _
    · exact obj_alloc (obj_alloc hb2 _) _
  · rintro e W1 ⟨hv, ⟨k, hk, hJ⟩ | h⟩
    · refine ⟨hv, .inl ⟨hJ.rcd, ?_⟩⟩
      obtain ⟨pre, hpre, htop⟩ := hJ.tops
      rw [upL_out (id := k.toNat) (by omega), List.append_nil] at hpre
      have htop' : (W1.putObj (w.heap.size + 3 + 1) (.loop (rr .exhausted none))).heap[w.heap.size]? = some (.cells #[.int .i64 (topOf T id)] 3 (0, 0)) := by
        unfold topOf; rw [hpre]; exact obj_putObj_other htop _ (by omega)
      have hD' : (W1.putObj (w.heap.size + 3 + 1) (.loop (rr .exhausted none))).heap[w.heap.size + 3]? = some (.deferred (some [])) := obj_putObj_other hJ.rcd.defs _ (by omega)
      have hf' : Fr noB w (W1.putObj (w.heap.size + 3 + 1) (.loop (rr .exhausted none))) := hJ.fr.putObj (by omega) _
      have hc' := cell_of_obj htop' 0
      simp at hc'
      clear hrec
      generalize W1.putObj (w.heap.size + 3 + 1) (.loop (rr .exhausted none)) = W3 at *
      clear hrr
      gi_wp2
      refine ⟨by simp, .inl ⟨_, _, rfl, run_takeDeferred hD', ?_⟩⟩
      exact ⟨_, results_tmp rfl _ _ _, rfl, hf'.putObj (by omega) _⟩
    · exact h.elim

end Go.Proofs.Ytfgkocpmgoaljaa
