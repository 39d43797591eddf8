/- May a state of roles be? No condition. -/
import Derived.Test.YtffcaapbmkaceaaDoorRpJ
namespace Go.Proofs.YtffcaapbmkaceaaDoor
open Ev Go.RowKit
set_option maxRecDepth 100000
set_option linter.unusedVariables false
/-- A state, handed over. -/
def stA (N : List ByteArray) (I : List (ByteArray × ByteArray)) : AV := .agg [.fz (eL N) N.length [.str], .fz (eL I) I.length [.str, .str]]
def may_cf : Nat → Cfg := cfL [mkC 48 [1, 33, 34, 35] [(1, [])]]
def may_a (N : List ByteArray) (I : List (ByteArray × ByteArray)) : List AV := [stA N I]
noncomputable def may_t (P : Program) (N : List ByteArray) (I : List (ByteArray × ByteArray)) : Br PO :=
(.test (decide ((↑N.length : Int) < 1))
  (.leaf (.fin ⟨Ex.ret, true, [some (AV.v (Value.bool false))], []⟩))
  (.test (decide ((↑N.length : Int) > 16))
    (.leaf (.fin ⟨Ex.ret, true, [some (AV.v (Value.bool false))], []⟩))
    (.test (decide (0 ≤ 0) && decide (0 < (↑N.length : Int)))
      (.test (!(N.getD (Int.toNat 0) default).toList == (⟨#[114, 111, 111, 116]⟩ : ByteArray).toList)
        (.leaf (.fin ⟨Ex.ret, true, [some (AV.v (Value.bool false))], []⟩))
        (.test (decide ¬(dL ByteArray (eL N) N.length).Nodup)
          (.leaf (.fin ⟨Ex.ret, true, [some (AV.v (Value.bool false))], []⟩))
          (.test (decide ¬(dL (ByteArray × ByteArray) (eL I) I.length).Nodup)
            (.leaf (.fin ⟨Ex.ret, true, [some (AV.v (Value.bool false))], []⟩))
            (.leaf (.at 0 (ct P 12 0).1 (ct P 12 0).2 ⟨Ex.normal, true, [some (AV.ptr 65536 0 0), some (AV.fz (eL N) N.length [TK.str]), some (AV.s (Value.int IntKind.i64 (Int.ofNat N.length))), some (AV.v (Value.int IntKind.i64 (0)))], [OS.o (AO.cells [AV.fz (eL N) N.length [TK.str], AV.fz (eL I) I.length [TK.str, TK.str]] 2 65536 true false)]⟩))
          )
        )
      )
      .no
    )
  )
)
theorem may_h (N : List ByteArray) (I : List (ByteArray × ByteArray)) : (ev Tryd.prog mayXs noS 3000 noL 3000 .normal [.c 0 (codeOf Tryd.prog 12)] (params (may_a N I)) Ev.start).map (lookP Tryd.prog (resOf Tryd.prog 12) [] may_cf) = may_t Tryd.prog N I := by kernel_rfl
def may_v0 (N : List ByteArray) (I : List (ByteArray × ByteArray)) (i : Nat) : List AV := [.ptr 65536 0 0, .fz (eL N) N.length [.str], .s (.int .i64 N.length), .s (.int .i64 i)]
def may_o0 (N : List ByteArray) (I : List (ByteArray × ByteArray)) (i : Nat) : List AO := [.cells [.fz (eL N) N.length [.str], .fz (eL I) I.length [.str, .str]] 2 0 true false]
noncomputable def may_t0 (P : Program) (N : List ByteArray) (I : List (ByteArray × ByteArray)) (i : Nat) : Br PO :=
(.test (decide ((↑i : Int) < (↑N.length : Int)))
  (.test (decide (0 ≤ (↑i : Int)) && decide ((↑i : Int) < (↑N.length : Int)))
    (.test (!nameP (N.getD (↑i : Int).toNat default))
      (.leaf (.fin ⟨Ex.ret, true, [some (AV.v (Value.bool false))], []⟩))
      (.leaf (.at 0 (ct P 12 0).1 (ct P 12 0).2 ⟨Ex.normal, true, [some (AV.ptr 65536 0 0), some (AV.fz (eL N) N.length [TK.str]), some (AV.s (Value.int IntKind.i64 (Int.ofNat N.length))), some (AV.s (Value.int IntKind.i64 (IntKind.i64.wrap ((↑i : Int) + 1))))], [OS.o (AO.cells [AV.fz (eL N) N.length [TK.str], AV.fz (eL I) I.length [TK.str, TK.str]] 2 0 true false)]⟩))
    )
    .no
  )
  (.leaf (.fin ⟨Ex.ret, true, [some (AV.s (Value.bool !decide (idxF (badP (dL ByteArray (eL N) N.length)) (dL (ByteArray × ByteArray) (eL I) I.length) ≥ 0)))], []⟩))
)
theorem may_h0 (N : List ByteArray) (I : List (ByteArray × ByteArray)) (i : Nat) (j : Nat → Value) : (ev Tryd.prog mayXs noS 3000 noL 3000 .normal (hd Tryd.prog 12 0) (mkE (may_cf 0) (may_v0 N I i) j) (mkH openB (may_o0 N I i))).map (lookP Tryd.prog (resOf Tryd.prog 12) [] may_cf) = may_t0 Tryd.prog N I i := by kernel_rfl

def rootB : ByteArray := ⟨#[114, 111, 111, 116]⟩
/-- May a state be? -/
def mayP (N : List ByteArray) (I : List (ByteArray × ByteArray)) : Bool := (decide (1 ≤ N.length) && decide (N.length ≤ 16)) && (decide (N.getD 0 default = rootB) && (decide N.Nodup && (decide I.Nodup && (N.all nameP && !I.any (badP N)))))
theorem all_getD {α : Type} [Inhabited α] {p : α → Bool} {L : List α} (h : ∀ k, k < L.length → p (L.getD k default) = true) : L.all p = true := by
  rw [List.all_eq_true]
  intro x hx
  obtain ⟨i, hi, rfl⟩ := List.getElem_of_mem hx
  have := h i hi
  simpa [List.getD_eq_getElem?_getD, hi] using this
theorem may_ok (N : List ByteArray) (I : List (ByteArray × ByteArray)) : OCalls Tryd.prog 12 (may_a N I) (.s (.bool (mayP N I))) [] :=
  floyd ev_mix ev_ok mayXs_ok noSO (by kernel_rfl) [] may_cf (fun i => N.length - i) (fun _ => 0) (may_v0 N I) (may_o0 N I) (fun i => i ≤ N.length ∧ (1 ≤ N.length ∧ N.length ≤ 16 ∧ N.getD 0 default = rootB ∧ N.Nodup ∧ I.Nodup) ∧ ∀ k, k < i → nameP (N.getD k default) = true) (may_t0 _ N I) (may_t _ N I) (may_h N I) (may_h0 N I)
    (by
      refine ⟨fun h => ?_, fun h => ⟨fun h2 => ?_, fun h2 => ⟨fun _ => ⟨fun h3 => ?_, fun h3 => ⟨fun h4 => ?_, fun h4 => ⟨fun h5 => ?_, fun h5 => ?_⟩⟩⟩, fun h3 => ?_⟩⟩⟩
      · simp only [decide_eq_true_eq] at h
        exact ⟨rfl, (.cons _ _ _ _ (by unfold mayP; rw [decide_eq_false (show ¬ 1 ≤ N.length by omega)]; exact .vs _) .nil), .nil⟩
      · simp only [decide_eq_true_eq] at h2
        exact ⟨rfl, (.cons _ _ _ _ (by unfold mayP; rw [decide_eq_false (show ¬ N.length ≤ 16 by omega), Bool.and_false, Bool.false_and]; exact .vs _) .nil), .nil⟩
      · rw [ba_eq, Bool.not_eq_true'] at h3
        exact ⟨rfl, (.cons _ _ _ _ (by unfold mayP; rw [show decide (N.getD 0 default = rootB) = false from h3, Bool.false_and, Bool.and_false]; exact .vs _) .nil), .nil⟩
      · rw [dL_eL, decide_eq_true_eq] at h4
        exact ⟨rfl, (.cons _ _ _ _ (by unfold mayP; rw [decide_eq_false h4, Bool.false_and, Bool.and_false, Bool.and_false]; exact .vs _) .nil), .nil⟩
      · rw [dL_eL, decide_eq_true_eq] at h5
        exact ⟨rfl, (.cons _ _ _ _ (by unfold mayP; rw [decide_eq_false h5, Bool.false_and, Bool.and_false, Bool.and_false, Bool.and_false]; exact .vs _) .nil), .nil⟩
      · rw [dL_eL, decide_eq_false_iff_not, Decidable.not_not] at h4 h5
        rw [ba_eq, Bool.not_eq_false', decide_eq_true_eq] at h3
        simp only [decide_eq_false_iff_not] at h h2
        exact ⟨0, ⟨Nat.zero_le _, ⟨by omega, by omega, h3, h4, h5⟩, fun k hk => absurd hk (Nat.not_lt_zero k)⟩, rfl, rfl, rfl, (.cons _ _ _ _ (.refl _) (.cons _ _ _ _ (.refl _) (.cons _ _ _ _ (.refl _) (.cons _ _ _ _ (.vs _) .nil)))), .cons _ _ _ _ (.cells _ _ _ _ _ _ _ (Les.refl _)) .nil⟩
      · simp only [decide_eq_false_iff_not] at h
        simp only [Bool.and_eq_false_iff, decide_eq_false_iff_not] at h3; omega)
    (by
      intro i ⟨hi, ⟨c1, c2, c3, c4, c5⟩, hn⟩
      refine ⟨fun h => ⟨fun _ => ⟨fun h2 => ?_, fun h2 => ?_⟩, fun h2 => ?_⟩, fun h => ?_⟩
      · simp only [decide_eq_true_eq] at h
        have hx : N.all nameP = false := by
          cases hA : N.all nameP with
          | false => rfl
          | true =>
            have := List.all_eq_true.1 hA _ (getD_mem (L := N) (i := i) (by omega))
            rw [Bool.not_eq_true'] at h2
            exact absurd (this.symm.trans h2) (by simp)
        exact ⟨rfl, (.cons _ _ _ _ (by unfold mayP; rw [hx, Bool.false_and, Bool.and_false, Bool.and_false, Bool.and_false, Bool.and_false]; exact .vs _) .nil), .nil⟩
      · simp only [decide_eq_true_eq] at h
        rw [Bool.not_eq_false'] at h2
        refine ⟨i + 1, ⟨by omega, ⟨c1, c2, c3, c4, c5⟩, fun k hk => ?_⟩, rel_nat (by omega), rfl, rfl, rfl, (.cons _ _ _ _ (.refl _) (.cons _ _ _ _ (.refl _) (.cons _ _ _ _ (.refl _) (.cons _ _ _ _ (.ofEq (by rw [wrap_lt (by omega) (by omega)]; rfl)) .nil)))), .cons _ _ _ _ (.cells _ _ _ _ _ _ _ (Les.refl _)) .nil⟩
        rcases Nat.lt_or_ge k i with c | c
        · exact hn k c
        · obtain rfl : k = i := by omega
          exact h2
      · simp only [decide_eq_true_eq] at h
        simp only [Bool.and_eq_false_iff, decide_eq_false_iff_not] at h2; omega
      · simp only [decide_eq_false_iff_not] at h
        have hA : N.all nameP = true := all_getD fun k hk => hn k (by omega)
        refine ⟨rfl, (.cons _ _ _ _ (.ofEq ?_) .nil), .nil⟩
        rw [dL_eL, dL_eL, idxF_ge]
        unfold mayP
        rw [decide_eq_true c1, decide_eq_true c2, decide_eq_true c3, decide_eq_true c4, decide_eq_true c5, hA]; rfl)
end Go.Proofs.YtffcaapbmkaceaaDoor
