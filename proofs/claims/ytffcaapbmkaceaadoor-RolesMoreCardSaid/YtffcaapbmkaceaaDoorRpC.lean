/- Whether a list holds something twice; the first pair of a state's that may not be. No condition. -/
import Derived.Test.YtffcaapbmkaceaaDoorRpB
namespace Go.Proofs.YtffcaapbmkaceaaDoor
open Ev Go.RowKit
set_option maxRecDepth 100000
set_option linter.unusedVariables false
def twice_cf : Nat → Cfg := cfL [mkC 18 [0, 5, 6, 7] []]
def twice_a (L : List ByteArray) : List AV := [.fz (eL L) L.length [.str]]
noncomputable def twice_t (P : Program) (L : List ByteArray) : Br PO :=
(.leaf (.at 0 (ct P 36 0).1 (ct P 36 0).2 ⟨Ex.normal, true, [some (AV.fz (eL L) L.length [TK.str]), some (AV.fz (eL L) L.length [TK.str]), some (AV.s (Value.int IntKind.i64 (Int.ofNat L.length))), some (AV.v (Value.int IntKind.i64 (0)))], []⟩))
theorem twice_h (L : List ByteArray) : (ev Tryd.prog slX noS 3000 noL 3000 .normal [.c 0 (codeOf Tryd.prog 36)] (params (twice_a L)) Ev.start).map (lookP Tryd.prog (resOf Tryd.prog 36) [] twice_cf) = twice_t Tryd.prog L := by kernel_rfl
def twice_v0 (L : List ByteArray) (i : Nat) : List AV := [.fz (eL L) L.length [.str], .fz (eL L) L.length [.str], .s (.int .i64 L.length), .s (.int .i64 i)]
def twice_o0 (L : List ByteArray) (i : Nat) : List AO := []
noncomputable def twice_t0 (P : Program) (L : List ByteArray) (i : Nat) : Br PO :=
(.test (decide ((↑i : Int) < (↑L.length : Int)))
  (.test (decide (0 ≤ (↑i : Int)) && decide ((↑i : Int) < (↑L.length : Int)))
    (.test (decide (0 ≤ 0) && decide (0 ≤ (↑i : Int)) && decide ((↑i : Int) ≤ (↑L.length : Int)))
      (.test (decide (idxS (dL ByteArray (shiftD (eL L) (Int.toNat 0)) ((↑i : Int) - 0).toNat) (L.getD (↑i : Int).toNat default) ≥ 0))
        (.leaf (.fin ⟨Ex.ret, true, [some (AV.v (Value.bool true))], []⟩))
        (.leaf (.at 0 (ct P 36 0).1 (ct P 36 0).2 ⟨Ex.normal, true, [some (AV.fz (eL L) L.length [TK.str]), some (AV.fz (eL L) L.length [TK.str]), some (AV.s (Value.int IntKind.i64 (Int.ofNat L.length))), some (AV.s (Value.int IntKind.i64 (IntKind.i64.wrap ((↑i : Int) + 1))))], []⟩))
      )
      .no
    )
    .no
  )
  (.leaf (.fin ⟨Ex.ret, true, [some (AV.v (Value.bool false))], []⟩))
)
theorem twice_h0 (L : List ByteArray) (i : Nat) (j : Nat → Value) : (ev Tryd.prog slX noS 3000 noL 3000 .normal (hd Tryd.prog 36 0) (mkE (twice_cf 0) (twice_v0 L i) j) (mkH openB (twice_o0 L i))).map (lookP Tryd.prog (resOf Tryd.prog 36) [] twice_cf) = twice_t0 Tryd.prog L i := by kernel_rfl

theorem twice_ok (L : List ByteArray) : OCalls Tryd.prog 36 (twice_a L) (.s (.bool (decide (¬ L.Nodup)))) [] := OCalls.bnd fun hb =>
  floyd ev_mix ev_ok slX_ok noSO (by kernel_rfl) [] twice_cf (fun i => L.length - i) (fun _ => 0) (twice_v0 L) (twice_o0 L) (fun i => i ≤ L.length ∧ (L.take i).Nodup) (twice_t0 _ L) (twice_t _ L) (twice_h L) (twice_h0 L)
    ⟨0, ⟨Nat.zero_le _, by simp⟩, rfl, rfl, rfl, (.cons _ _ _ _ (.refl _) (.cons _ _ _ _ (.refl _) (.cons _ _ _ _ (.refl _) (.cons _ _ _ _ (.vs _) .nil)))), .nil⟩
    (by
      intro i ⟨hi, hn⟩
      have hL : L.length ≤ 9223372036854775807 := hb.1
      have ht : i ≤ L.length → decide (idxS (dL _ (shiftD (eL L) (Int.toNat 0)) ((i : Int) - 0).toNat) (L.getD (i : Int).toNat default) ≥ 0) = inL (L.getD i default) (L.take i) := fun hi => by
        rw [idxS_ge, show ((i : Int) - 0).toNat = i by omega, show Int.toNat 0 = 0 from rfl, dL_shift L 0 i (by omega)]; simp
      refine ⟨fun h => ⟨fun _ => ⟨fun _ => ⟨fun h2 => ?_, fun h2 => ?_⟩, fun h2 => ?_⟩, fun h2 => ?_⟩, fun h => ?_⟩
      · simp only [decide_eq_true_eq] at h
        have h2 := inL_iff.1 ((ht hi).symm.trans h2)
        exact ⟨rfl, (.cons _ _ _ _ (by rw [decide_eq_true (nodup_hit (by omega) h2)]; exact .vs _) .nil), .nil⟩
      · simp only [decide_eq_true_eq] at h
        have h2 := inL_no.1 ((ht hi).symm.trans h2)
        exact ⟨i + 1, ⟨by omega, nodup_next (by omega) hn h2⟩, rel_nat (by omega), rfl, rfl, rfl, (.cons _ _ _ _ (.refl _) (.cons _ _ _ _ (.refl _) (.cons _ _ _ _ (.refl _) (.cons _ _ _ _ (.ofEq (by rw [wrap_lt (by omega) (by omega)]; rfl)) .nil)))), .nil⟩
      · simp at h h2; omega
      · simp at h h2; omega
      · simp only [decide_eq_false_iff_not] at h
        rw [List.take_of_length_le (by omega)] at hn
        exact ⟨rfl, (.cons _ _ _ _ (by rw [decide_eq_false (fun c => c hn)]; exact .vs _) .nil), .nil⟩)
def twice2_cf : Nat → Cfg := cfL [mkC 18 [0, 5, 6, 7] []]
def twice2_a (L : List (ByteArray × ByteArray)) : List AV := [.fz (eL L) L.length [.str, .str]]
noncomputable def twice2_t (P : Program) (L : List (ByteArray × ByteArray)) : Br PO :=
(.leaf (.at 0 (ct P 37 0).1 (ct P 37 0).2 ⟨Ex.normal, true, [some (AV.fz (eL L) L.length [TK.str, TK.str]), some (AV.fz (eL L) L.length [TK.str, TK.str]), some (AV.s (Value.int IntKind.i64 (Int.ofNat L.length))), some (AV.v (Value.int IntKind.i64 (0)))], []⟩))
theorem twice2_h (L : List (ByteArray × ByteArray)) : (ev Tryd.prog slX noS 3000 noL 3000 .normal [.c 0 (codeOf Tryd.prog 37)] (params (twice2_a L)) Ev.start).map (lookP Tryd.prog (resOf Tryd.prog 37) [] twice2_cf) = twice2_t Tryd.prog L := by kernel_rfl
def twice2_v0 (L : List (ByteArray × ByteArray)) (i : Nat) : List AV := [.fz (eL L) L.length [.str, .str], .fz (eL L) L.length [.str, .str], .s (.int .i64 L.length), .s (.int .i64 i)]
def twice2_o0 (L : List (ByteArray × ByteArray)) (i : Nat) : List AO := []
noncomputable def twice2_t0 (P : Program) (L : List (ByteArray × ByteArray)) (i : Nat) : Br PO :=
(.test (decide ((↑i : Int) < (↑L.length : Int)))
  (.test (decide (0 ≤ (↑i : Int)) && decide ((↑i : Int) < (↑L.length : Int)))
    (.test (decide (0 ≤ 0) && decide (0 ≤ (↑i : Int)) && decide ((↑i : Int) ≤ (↑L.length : Int)))
      (.test (decide (idxS (dL (ByteArray × ByteArray) (shiftD (eL L) (Int.toNat 0)) ((↑i : Int) - 0).toNat) ((L.getD (↑i : Int).toNat default).fst, (L.getD (↑i : Int).toNat default).snd) ≥ 0))
        (.leaf (.fin ⟨Ex.ret, true, [some (AV.v (Value.bool true))], []⟩))
        (.leaf (.at 0 (ct P 37 0).1 (ct P 37 0).2 ⟨Ex.normal, true, [some (AV.fz (eL L) L.length [TK.str, TK.str]), some (AV.fz (eL L) L.length [TK.str, TK.str]), some (AV.s (Value.int IntKind.i64 (Int.ofNat L.length))), some (AV.s (Value.int IntKind.i64 (IntKind.i64.wrap ((↑i : Int) + 1))))], []⟩))
      )
      .no
    )
    .no
  )
  (.leaf (.fin ⟨Ex.ret, true, [some (AV.v (Value.bool false))], []⟩))
)
theorem twice2_h0 (L : List (ByteArray × ByteArray)) (i : Nat) (j : Nat → Value) : (ev Tryd.prog slX noS 3000 noL 3000 .normal (hd Tryd.prog 37 0) (mkE (twice2_cf 0) (twice2_v0 L i) j) (mkH openB (twice2_o0 L i))).map (lookP Tryd.prog (resOf Tryd.prog 37) [] twice2_cf) = twice2_t0 Tryd.prog L i := by kernel_rfl

theorem twice2_ok (L : List (ByteArray × ByteArray)) : OCalls Tryd.prog 37 (twice2_a L) (.s (.bool (decide (¬ L.Nodup)))) [] := OCalls.bnd fun hb =>
  floyd ev_mix ev_ok slX_ok noSO (by kernel_rfl) [] twice2_cf (fun i => L.length - i) (fun _ => 0) (twice2_v0 L) (twice2_o0 L) (fun i => i ≤ L.length ∧ (L.take i).Nodup) (twice2_t0 _ L) (twice2_t _ L) (twice2_h L) (twice2_h0 L)
    ⟨0, ⟨Nat.zero_le _, by simp⟩, rfl, rfl, rfl, (.cons _ _ _ _ (.refl _) (.cons _ _ _ _ (.refl _) (.cons _ _ _ _ (.refl _) (.cons _ _ _ _ (.vs _) .nil)))), .nil⟩
    (by
      intro i ⟨hi, hn⟩
      have hL : L.length ≤ 9223372036854775807 := hb.1
      have ht : i ≤ L.length → decide (idxS (dL _ (shiftD (eL L) (Int.toNat 0)) ((i : Int) - 0).toNat) (L.getD (i : Int).toNat default) ≥ 0) = inL (L.getD i default) (L.take i) := fun hi => by
        rw [idxS_ge, show ((i : Int) - 0).toNat = i by omega, show Int.toNat 0 = 0 from rfl, dL_shift L 0 i (by omega)]; simp
      refine ⟨fun h => ⟨fun _ => ⟨fun _ => ⟨fun h2 => ?_, fun h2 => ?_⟩, fun h2 => ?_⟩, fun h2 => ?_⟩, fun h => ?_⟩
      · simp only [decide_eq_true_eq] at h
        have h2 := inL_iff.1 ((ht hi).symm.trans h2)
        exact ⟨rfl, (.cons _ _ _ _ (by rw [decide_eq_true (nodup_hit (by omega) h2)]; exact .vs _) .nil), .nil⟩
      · simp only [decide_eq_true_eq] at h
        have h2 := inL_no.1 ((ht hi).symm.trans h2)
        exact ⟨i + 1, ⟨by omega, nodup_next (by omega) hn h2⟩, rel_nat (by omega), rfl, rfl, rfl, (.cons _ _ _ _ (.refl _) (.cons _ _ _ _ (.refl _) (.cons _ _ _ _ (.refl _) (.cons _ _ _ _ (.ofEq (by rw [wrap_lt (by omega) (by omega)]; rfl)) .nil)))), .nil⟩
      · simp at h h2; omega
      · simp at h h2; omega
      · simp only [decide_eq_false_iff_not] at h
        rw [List.take_of_length_le (by omega)] at hn
        exact ⟨rfl, (.cons _ _ _ _ (by rw [decide_eq_false (fun c => c hn)]; exact .vs _) .nil), .nil⟩)
def badp_cf : Nat → Cfg := cfL [mkC 19 [0, 1, 7, 8] []]
def badp_a (L : List (ByteArray × ByteArray)) (N : List ByteArray) (g : D) : List AV := [.fz (eL L) L.length [.str, .str], .fn 39 [.fzp (listD [.l (eL N) N.length [.str], g] 2) 1 [.lst, .lst] 0 0]]
noncomputable def badp_t (P : Program) (L : List (ByteArray × ByteArray)) (N : List ByteArray) (g : D) : Br PO :=
(.leaf (.at 0 (ct P 48 0).1 (ct P 48 0).2 ⟨Ex.normal, true, [some (AV.fz (eL L) L.length [TK.str, TK.str]), some (AV.fn 39 [AV.fzp (listD [D.l (eL N) N.length [TK.str], g] 2) 1 [TK.lst, TK.lst] 0 0]), some (AV.s (Value.int IntKind.i64 (Int.ofNat L.length))), some (AV.v (Value.int IntKind.i64 (0)))], []⟩))
theorem badp_h (L : List (ByteArray × ByteArray)) (N : List ByteArray) (g : D) : (ev Tryd.prog slX noS 3000 noL 3000 .normal [.c 0 (codeOf Tryd.prog 48)] (params (badp_a L N g)) Ev.start).map (lookP Tryd.prog (resOf Tryd.prog 48) [] badp_cf) = badp_t Tryd.prog L N g := by kernel_rfl
def badp_v0 (L : List (ByteArray × ByteArray)) (N : List ByteArray) (g : D) (i : Nat) : List AV := [.fz (eL L) L.length [.str, .str], .fn 39 [.fzp (listD [.l (eL N) N.length [.str], g] 2) 1 [.lst, .lst] 0 0], .s (.int .i64 L.length), .s (.int .i64 i)]
def badp_o0 (L : List (ByteArray × ByteArray)) (N : List ByteArray) (g : D) (i : Nat) : List AO := []
noncomputable def badp_t0 (P : Program) (L : List (ByteArray × ByteArray)) (N : List ByteArray) (g : D) (i : Nat) : Br PO :=
(.test (decide ((↑i : Int) < (↑L.length : Int)))
  (.test (decide (0 ≤ (↑i : Int)) && decide ((↑i : Int) < (↑L.length : Int)))
    (.test ((L.getD (↑i : Int).toNat default).fst.toList == (L.getD (↑i : Int).toNat default).snd.toList)
      (.leaf (.fin ⟨Ex.ret, true, [some (AV.s (Value.int IntKind.i64 (Int.ofNat i)))], []⟩))
      (.test (!decide (idxS (dL ByteArray (eL N) N.length) (L.getD (↑i : Int).toNat default).fst ≥ 0))
        (.leaf (.fin ⟨Ex.ret, true, [some (AV.s (Value.int IntKind.i64 (Int.ofNat i)))], []⟩))
        (.test (!decide (idxS (dL ByteArray (eL N) N.length) (L.getD (↑i : Int).toNat default).snd ≥ 0))
          (.leaf (.fin ⟨Ex.ret, true, [some (AV.s (Value.int IntKind.i64 (Int.ofNat i)))], []⟩))
          (.leaf (.at 0 (ct P 48 0).1 (ct P 48 0).2 ⟨Ex.normal, true, [some (AV.fz (eL L) L.length [TK.str, TK.str]), some (AV.fn 39 [AV.fzp (listD [D.l (eL N) N.length [TK.str], g] 2) 1 [TK.lst, TK.lst] 0 0]), some (AV.s (Value.int IntKind.i64 (Int.ofNat L.length))), some (AV.s (Value.int IntKind.i64 (IntKind.i64.wrap ((↑i : Int) + 1))))], []⟩))
        )
      )
    )
    .no
  )
  (.leaf (.fin ⟨Ex.ret, true, [some (AV.v (Value.int IntKind.i64 (Int.negSucc 0)))], []⟩))
)
theorem badp_h0 (L : List (ByteArray × ByteArray)) (N : List ByteArray) (g : D) (i : Nat) (j : Nat → Value) : (ev Tryd.prog slX noS 3000 noL 3000 .normal (hd Tryd.prog 48 0) (mkE (badp_cf 0) (badp_v0 L N g i) j) (mkH openB (badp_o0 L N g i))).map (lookP Tryd.prog (resOf Tryd.prog 48) [] badp_cf) = badp_t0 Tryd.prog L N g i := by kernel_rfl

/-- May a pair not be, over these names? -/
def badP (N : List ByteArray) (p : ByteArray × ByteArray) : Bool := decide (p.1 = p.2) || (!inL p.1 N || !inL p.2 N)
theorem badp_ok (L : List (ByteArray × ByteArray)) (N : List ByteArray) (g : D) : OCalls Tryd.prog 48 (badp_a L N g) (.s (.int .i64 (idxF (badP N) L))) [] := OCalls.bnd fun hb =>
  floyd ev_mix ev_ok slX_ok noSO (by kernel_rfl) [] badp_cf (fun i => L.length - i) (fun _ => 0) (badp_v0 L N g) (badp_o0 L N g) (fun i => i ≤ L.length ∧ ∀ k, k < i → badP N (L.getD k default) = false) (badp_t0 _ L N g) (badp_t _ L N g) (badp_h L N g) (badp_h0 L N g)
    ⟨0, ⟨Nat.zero_le _, fun k h => absurd h (Nat.not_lt_zero k)⟩, rfl, rfl, rfl, (.cons _ _ _ _ (.refl _) (.cons _ _ _ _ (.refl _) (.cons _ _ _ _ (.refl _) (.cons _ _ _ _ (.vs _) .nil)))), .nil⟩
    (by
      intro i ⟨hi, hn⟩
      have hL : L.length ≤ 9223372036854775807 := hb.1
      refine ⟨fun h => ⟨fun _ => ⟨fun h2 => ?_, fun h2 => ⟨fun h3 => ?_, fun h3 => ⟨fun h4 => ?_, fun h4 => ?_⟩⟩⟩, fun h2 => ?_⟩, fun h => ?_⟩
      · simp only [decide_eq_true_eq] at h
        rw [ba_eq] at h2
        have hp : badP N (L.getD i default) = true := by unfold badP; simp at h2; simp [h2]
        exact ⟨rfl, (.cons _ _ _ _ (.ofEq (by rw [idxF_hit (i := i) (by omega) hp hn]; rfl)) .nil), .nil⟩
      · simp only [decide_eq_true_eq] at h
        rw [idxS_ge, dL_eL] at h3
        have hp : badP N (L.getD i default) = true := by unfold badP; simp at h3; simp [h3]
        exact ⟨rfl, (.cons _ _ _ _ (.ofEq (by rw [idxF_hit (i := i) (by omega) hp hn]; rfl)) .nil), .nil⟩
      · simp only [decide_eq_true_eq] at h
        rw [idxS_ge, dL_eL] at h4
        have hp : badP N (L.getD i default) = true := by unfold badP; simp at h4; simp [h4]
        exact ⟨rfl, (.cons _ _ _ _ (.ofEq (by rw [idxF_hit (i := i) (by omega) hp hn]; rfl)) .nil), .nil⟩
      · simp only [decide_eq_true_eq] at h
        rw [ba_eq] at h2
        rw [idxS_ge, dL_eL] at h3 h4
        have hp : badP N (L.getD i default) = false := by unfold badP; simp at h2 h3 h4; simp [h2, h3, h4]
        refine ⟨i + 1, ⟨by omega, fun k hk => ?_⟩, rel_nat (by omega), rfl, rfl, rfl, (.cons _ _ _ _ (.refl _) (.cons _ _ _ _ (.refl _) (.cons _ _ _ _ (.refl _) (.cons _ _ _ _ (.ofEq (by rw [wrap_lt (by omega) (by omega)]; rfl)) .nil)))), .nil⟩
        rcases Nat.lt_or_ge k i with c | c
        · exact hn k c
        · obtain rfl : k = i := by omega
          exact hp
      · simp at h h2; omega
      · simp only [decide_eq_false_iff_not] at h
        exact ⟨rfl, (.cons _ _ _ _ (by rw [idxF_none (fun k hk => hn k (by omega))]; exact .vs _) .nil), .nil⟩)
end Go.Proofs.YtffcaapbmkaceaaDoor
