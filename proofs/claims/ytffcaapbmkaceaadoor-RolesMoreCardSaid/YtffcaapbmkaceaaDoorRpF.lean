/- strings.Trim of a set of bytes. No condition. -/
import Derived.Test.YtffcaapbmkaceaaDoorRpE
import Derived.Test.YtffcaapbmkaceaaDoorPs
namespace Go.Proofs.YtffcaapbmkaceaaDoor
open Ev Go.RowKit
set_option maxRecDepth 100000
set_option linter.unusedVariables false
def trr_cf : Nat → Cfg := cfL [mkC 22 [0, 1] []]
def trr_a (F : Nat → Nat → D) (x : ByteArray) : List AV := [.s (.string x), .fzp F 1 bK 0 0]
noncomputable def trr_t (P : Program) (F : Nat → Nat → D) (x : ByteArray) : Br PO :=
(.leaf (.at 0 (ct P 55 0).1 (ct P 55 0).2 ⟨Ex.normal, true, [some (AV.s (Value.string x)), some (AV.fzp F 1 bK 0 0)], []⟩))
theorem trr_h (F : Nat → Nat → D) (x : ByteArray) : (ev Tryd.prog containsX noS 3000 noL 3000 .normal [.c 0 (codeOf Tryd.prog 55)] (params (trr_a F x)) Ev.start).map (lookP Tryd.prog (resOf Tryd.prog 55) [] trr_cf) = trr_t Tryd.prog F x := by kernel_rfl
def trr_v0 (F : Nat → Nat → D) (x : ByteArray) (z : ByteArray) : List AV := [.s (.string z), .fzp F 1 bK 0 0]
def trr_o0 (F : Nat → Nat → D) (x : ByteArray) (z : ByteArray) : List AO := []
noncomputable def trr_t0 (P : Program) (F : Nat → Nat → D) (x : ByteArray) (z : ByteArray) : Br PO :=
(.test (decide ((↑z.size : Int) > 0))
  (.test (decide (0 ≤ IntKind.i64.wrap ((↑z.size : Int) - 1)) && decide (IntKind.i64.wrap ((↑z.size : Int) - 1) < (↑z.size : Int)))
    (.test (decide (0 ≤ byteAt z (IntKind.i64.wrap ((↑z.size : Int) - 1)).toNat) && decide (byteAt z (IntKind.i64.wrap ((↑z.size : Int) - 1)).toNat < 256))
      (.test (!boolOf (F 0 (byteAt z (IntKind.i64.wrap ((↑z.size : Int) - 1)).toNat).toNat))
        (.leaf (.fin ⟨Ex.ret, true, [some (AV.s (Value.string z))], []⟩))
        (.test (decide (0 ≤ 0) && decide (0 ≤ IntKind.i64.wrap ((↑z.size : Int) - 1)) && decide (IntKind.i64.wrap ((↑z.size : Int) - 1) ≤ (↑z.size : Int)))
          (.leaf (.at 0 (ct P 55 0).1 (ct P 55 0).2 ⟨Ex.normal, true, [some (AV.s (Value.string (z.extract (Int.toNat 0) (IntKind.i64.wrap ((↑z.size : Int) - 1)).toNat))), some (AV.fzp F 1 bK 0 0)], []⟩))
          .no
        )
      )
      .no
    )
    .no
  )
  (.leaf (.fin ⟨Ex.ret, true, [some (AV.s (Value.string z))], []⟩))
)
theorem trr_h0 (F : Nat → Nat → D) (x : ByteArray) (z : ByteArray) (j : Nat → Value) : (ev Tryd.prog containsX noS 3000 noL 3000 .normal (hd Tryd.prog 55 0) (mkE (trr_cf 0) (trr_v0 F x z) j) (mkH openB (trr_o0 F x z))).map (lookP Tryd.prog (resOf Tryd.prog 55) [] trr_cf) = trr_t0 Tryd.prog F x z := by kernel_rfl

def setF (F : Nat → Nat → D) (c : Int) : Bool := boolOf (F 0 c.toNat)
theorem trr_ok (F : Nat → Nat → D) (x : ByteArray) (hx : x.size ≤ 4611686018427387904) : OCalls Tryd.prog 55 (trr_a F x) (.s (.string (trS (setF F) x))) [] :=
  floyd ev_mix ev_ok containsX_ok noSO (by kernel_rfl) [] trr_cf (fun z => z.size) (fun _ => 0) (trr_v0 F x) (trr_o0 F x) (fun z => z.size ≤ x.size ∧ trS (setF F) z = trS (setF F) x) (trr_t0 _ F x) (trr_t _ F x) (trr_h F x) (trr_h0 F x)
    ⟨x, ⟨Nat.le_refl _, rfl⟩, rfl, rfl, rfl, (.cons _ _ _ _ (.refl _) (.cons _ _ _ _ (.refl _) .nil)), .nil⟩
    (by
      intro z ⟨hz, ht⟩
      have hw : 0 < z.size → IntKind.i64.wrap ((z.size : Int) - 1) = ((z.size - 1 : Nat) : Int) := fun h => by rw [wrap_lt (by omega) (by omega)]; omega
      refine ⟨fun h => ?_, fun h => ?_⟩
      · simp only [decide_eq_true_eq] at h
        have h : 0 < z.size := by omega
        rw [hw h]
        refine ⟨fun _ => ⟨fun _ => ⟨fun h2 => ?_, fun h2 => ⟨fun _ => ?_, fun h3 => ?_⟩⟩, fun h3 => ?_⟩, fun h3 => ?_⟩
        · have hs : setF F (byteAt z (z.size - 1)) = false := by simpa [setF] using h2
          exact ⟨rfl, (.cons _ _ _ _ (.ofEq (by rw [← ht, trS_stop h hs])) .nil), .nil⟩
        · have hs : setF F (byteAt z (z.size - 1)) = true := by simpa [setF] using h2
          refine ⟨z.extract 0 (z.size - 1), ⟨by rw [size_extract]; omega, by rw [trS_step h hs, ht]⟩, rel_nat (by rw [size_extract]; omega), rfl, rfl, rfl, (.cons _ _ _ _ (.ofEq rfl) (.cons _ _ _ _ (.refl _) .nil)), .nil⟩
        · first | (simp at h3; done) | (simp at h3; omega)
        · have := byteAt_ge z (((z.size - 1 : Nat) : Int)).toNat
          simp only [Bool.and_eq_false_iff, decide_eq_false_iff_not] at h3; omega
        · simp only [Bool.and_eq_false_iff, decide_eq_false_iff_not] at h3; omega
      · simp only [decide_eq_false_iff_not] at h
        exact ⟨rfl, (.cons _ _ _ _ (.ofEq (by rw [← ht, trS_nil (by omega)])) .nil), .nil⟩)
def trl_cf : Nat → Cfg := cfL [mkC 16 [0, 1] []]
def trl_a (F : Nat → Nat → D) (x : ByteArray) : List AV := [.s (.string x), .fzp F 1 bK 0 0]
noncomputable def trl_t (P : Program) (F : Nat → Nat → D) (x : ByteArray) : Br PO :=
(.leaf (.at 0 (ct P 54 0).1 (ct P 54 0).2 ⟨Ex.normal, true, [some (AV.s (Value.string x)), some (AV.fzp F 1 bK 0 0)], []⟩))
theorem trl_h (F : Nat → Nat → D) (x : ByteArray) : (ev Tryd.prog containsX noS 3000 noL 3000 .normal [.c 0 (codeOf Tryd.prog 54)] (params (trl_a F x)) Ev.start).map (lookP Tryd.prog (resOf Tryd.prog 54) [] trl_cf) = trl_t Tryd.prog F x := by kernel_rfl
def trl_v0 (F : Nat → Nat → D) (x : ByteArray) (z : ByteArray) : List AV := [.s (.string z), .fzp F 1 bK 0 0]
def trl_o0 (F : Nat → Nat → D) (x : ByteArray) (z : ByteArray) : List AO := []
noncomputable def trl_t0 (P : Program) (F : Nat → Nat → D) (x : ByteArray) (z : ByteArray) : Br PO :=
(.test (decide ((↑z.size : Int) > 0))
  (.test (decide (0 ≤ 0) && decide (0 < (↑z.size : Int)))
    (.test (decide (0 ≤ byteAt z (Int.toNat 0)) && decide (byteAt z (Int.toNat 0) < 256))
      (.test (!boolOf (F 0 (byteAt z (Int.toNat 0)).toNat))
        (.leaf (.fin ⟨Ex.ret, true, [some (AV.s (Value.string z))], []⟩))
        (.test (decide (0 ≤ 1) && decide (1 ≤ (↑z.size : Int)) && decide ((↑z.size : Int) ≤ (↑z.size : Int)))
          (.leaf (.at 0 (ct P 54 0).1 (ct P 54 0).2 ⟨Ex.normal, true, [some (AV.s (Value.string (z.extract (Int.toNat 1) (↑z.size : Int).toNat))), some (AV.fzp F 1 bK 0 0)], []⟩))
          .no
        )
      )
      .no
    )
    .no
  )
  (.leaf (.fin ⟨Ex.ret, true, [some (AV.s (Value.string z))], []⟩))
)
theorem trl_h0 (F : Nat → Nat → D) (x : ByteArray) (z : ByteArray) (j : Nat → Value) : (ev Tryd.prog containsX noS 3000 noL 3000 .normal (hd Tryd.prog 54 0) (mkE (trl_cf 0) (trl_v0 F x z) j) (mkH openB (trl_o0 F x z))).map (lookP Tryd.prog (resOf Tryd.prog 54) [] trl_cf) = trl_t0 Tryd.prog F x z := by kernel_rfl

theorem trl_ok (F : Nat → Nat → D) (x : ByteArray) : OCalls Tryd.prog 54 (trl_a F x) (.s (.string (tlS (setF F) x))) [] :=
  floyd ev_mix ev_ok containsX_ok noSO (by kernel_rfl) [] trl_cf (fun z => z.size) (fun _ => 0) (trl_v0 F x) (trl_o0 F x) (fun z => tlS (setF F) z = tlS (setF F) x) (trl_t0 _ F x) (trl_t _ F x) (trl_h F x) (trl_h0 F x)
    ⟨x, rfl, rfl, rfl, rfl, (.cons _ _ _ _ (.refl _) (.cons _ _ _ _ (.refl _) .nil)), .nil⟩
    (by
      intro z ht
      refine ⟨fun h => ?_, fun h => ?_⟩
      · simp only [decide_eq_true_eq] at h
        have h : 0 < z.size := by omega
        refine ⟨fun _ => ⟨fun _ => ⟨fun h2 => ?_, fun h2 => ⟨fun _ => ?_, fun h3 => ?_⟩⟩, fun h3 => ?_⟩, fun h3 => ?_⟩
        · have hs : setF F (byteAt z 0) = false := by simpa [setF] using h2
          exact ⟨rfl, (.cons _ _ _ _ (.ofEq (by rw [← ht, tlS_stop h hs])) .nil), .nil⟩
        · have hs : setF F (byteAt z 0) = true := by simpa [setF] using h2
          refine ⟨z.extract 1 z.size, by rw [tlS_step h hs, ht], rel_nat (by rw [size_extract]; omega), rfl, rfl, rfl, (.cons _ _ _ _ (.ofEq rfl) (.cons _ _ _ _ (.refl _) .nil)), .nil⟩
        · first | (simp at h3; done) | (simp at h3; omega)
        · have := byteAt_ge z (Int.toNat 0)
          simp only [Bool.and_eq_false_iff, decide_eq_false_iff_not] at h3; omega
        · simp only [Bool.and_eq_false_iff, decide_eq_false_iff_not] at h3; omega
      · simp only [decide_eq_false_iff_not] at h
        exact ⟨rfl, (.cons _ _ _ _ (.ofEq (by rw [← ht, tlS_nil (by omega)])) .nil), .nil⟩)
def trimG (k : Nat) (q : (Int → Bool) → ByteArray → ByteArray) : List AV → Option (Br (AV × List AO))
  | [v, .fzp F 1 ks 0 0] => match strV v with
    | some x => bif ksEq bK ks then some (.test (Nat.ble x.size 4611686018427387904) (.leaf (.s (.string (q (setF F) x)), [])) .no) else none
    | _ => none
  | _ => none
def trrX : SumBr := oX 55 (trimG 0 trS)
def trlX : SumBr := oX 54 (trimG 0 tlS)
theorem trrX_ok : SumGO Tryd.prog (sumS trrX) := oX_ok (by kernel_rfl) fun xs B r h hB => by
  unfold trimG at h
  split at h
  · rename_i v F ks
    split at h
    · rename_i x hv
      cases hk : ksEq bK ks with
      | false => rw [hk] at h; cases h
      | true =>
        rw [hk] at h
        cases h
        rcases hB with ⟨h1, hB⟩ | ⟨_, hB⟩
        · cases hB
          rw [← ksEq_eq hk]
          exact (trr_ok F x (by simpa using h1)).leS fun m ys ⟨y, r, e, h1, h2⟩ => by
            letI : Fz := ⟨m, false⟩
            exact ⟨y, r, e, strV_rel hv h1, h2⟩
        · exact hB.elim
    · cases h
  · cases h
theorem trlX_ok : SumGO Tryd.prog (sumS trlX) := oX_ok (by kernel_rfl) fun xs B r h hB => by
  unfold trimG at h
  split at h
  · rename_i v F ks
    split at h
    · rename_i x hv
      cases hk : ksEq bK ks with
      | false => rw [hk] at h; cases h
      | true =>
        rw [hk] at h
        cases h
        rcases hB with ⟨h1, hB⟩ | ⟨_, hB⟩
        · cases hB
          rw [← ksEq_eq hk]
          exact (trl_ok F x).leS fun m ys ⟨y, r, e, h1, h2⟩ => by
            letI : Fz := ⟨m, false⟩
            exact ⟨y, r, e, strV_rel hv h1, h2⟩
        · exact hB.elim
    · cases h
  · cases h
end Go.Proofs.YtffcaapbmkaceaaDoor
