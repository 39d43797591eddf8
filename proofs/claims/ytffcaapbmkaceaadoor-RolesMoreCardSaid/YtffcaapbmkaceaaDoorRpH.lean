/- A text without what may stand in names at its ends. No condition. -/
import Derived.Test.YtffcaapbmkaceaaDoorRpG
namespace Go.Proofs.YtffcaapbmkaceaaDoor
open Ev Go.RowKit
set_option maxRecDepth 100000
set_option linter.unusedVariables false
def othersB : ByteArray := ⟨#[97, 98, 99, 100, 101, 102, 103, 104, 105, 106, 107, 108, 109, 110, 111, 112, 113, 114, 115, 116, 117, 118, 119, 120, 121, 122, 48, 49, 50, 51, 52, 53, 54, 55, 56, 57, 95]⟩
def tblF : Nat → Nat → D := (listD [D.v (Value.bool false), D.v (Value.bool false), D.v (Value.bool false), D.v (Value.bool false), D.v (Value.bool false), D.v (Value.bool false), D.v (Value.bool false), D.v (Value.bool false), D.v (Value.bool false), D.v (Value.bool false), D.v (Value.bool false), D.v (Value.bool false), D.v (Value.bool false), D.v (Value.bool false), D.v (Value.bool false), D.v (Value.bool false), D.v (Value.bool false), D.v (Value.bool false), D.v (Value.bool false), D.v (Value.bool false), D.v (Value.bool false), D.v (Value.bool false), D.v (Value.bool false), D.v (Value.bool false), D.v (Value.bool false), D.v (Value.bool false), D.v (Value.bool false), D.v (Value.bool false), D.v (Value.bool false), D.v (Value.bool false), D.v (Value.bool false), D.v (Value.bool false), D.v (Value.bool false), D.v (Value.bool false), D.v (Value.bool false), D.v (Value.bool false), D.v (Value.bool false), D.v (Value.bool false), D.v (Value.bool false), D.v (Value.bool false), D.v (Value.bool false), D.v (Value.bool false), D.v (Value.bool false), D.v (Value.bool false), D.v (Value.bool false), D.v (Value.bool false), D.v (Value.bool false), D.v (Value.bool false), D.v (Value.bool true), D.v (Value.bool true), D.v (Value.bool true), D.v (Value.bool true), D.v (Value.bool true), D.v (Value.bool true), D.v (Value.bool true), D.v (Value.bool true), D.v (Value.bool true), D.v (Value.bool true), D.v (Value.bool false), D.v (Value.bool false), D.v (Value.bool false), D.v (Value.bool false), D.v (Value.bool false), D.v (Value.bool false), D.v (Value.bool false), D.v (Value.bool false), D.v (Value.bool false), D.v (Value.bool false), D.v (Value.bool false), D.v (Value.bool false), D.v (Value.bool false), D.v (Value.bool false), D.v (Value.bool false), D.v (Value.bool false), D.v (Value.bool false), D.v (Value.bool false), D.v (Value.bool false), D.v (Value.bool false), D.v (Value.bool false), D.v (Value.bool false), D.v (Value.bool false), D.v (Value.bool false), D.v (Value.bool false), D.v (Value.bool false), D.v (Value.bool false), D.v (Value.bool false), D.v (Value.bool false), D.v (Value.bool false), D.v (Value.bool false), D.v (Value.bool false), D.v (Value.bool false), D.v (Value.bool false), D.v (Value.bool false), D.v (Value.bool false), D.v (Value.bool false), D.v (Value.bool true), D.v (Value.bool false), D.v (Value.bool true), D.v (Value.bool true), D.v (Value.bool true), D.v (Value.bool true), D.v (Value.bool true), D.v (Value.bool true), D.v (Value.bool true), D.v (Value.bool true), D.v (Value.bool true), D.v (Value.bool true), D.v (Value.bool true), D.v (Value.bool true), D.v (Value.bool true), D.v (Value.bool true), D.v (Value.bool true), D.v (Value.bool true), D.v (Value.bool true), D.v (Value.bool true), D.v (Value.bool true), D.v (Value.bool true), D.v (Value.bool true), D.v (Value.bool true), D.v (Value.bool true), D.v (Value.bool true), D.v (Value.bool true), D.v (Value.bool true), D.v (Value.bool false), D.v (Value.bool false), D.v (Value.bool false), D.v (Value.bool false), D.v (Value.bool false), D.v (Value.bool false), D.v (Value.bool false), D.v (Value.bool false), D.v (Value.bool false), D.v (Value.bool false), D.v (Value.bool false), D.v (Value.bool false), D.v (Value.bool false), D.v (Value.bool false), D.v (Value.bool false), D.v (Value.bool false), D.v (Value.bool false), D.v (Value.bool false), D.v (Value.bool false), D.v (Value.bool false), D.v (Value.bool false), D.v (Value.bool false), D.v (Value.bool false), D.v (Value.bool false), D.v (Value.bool false), D.v (Value.bool false), D.v (Value.bool false), D.v (Value.bool false), D.v (Value.bool false), D.v (Value.bool false), D.v (Value.bool false), D.v (Value.bool false), D.v (Value.bool false), D.v (Value.bool false), D.v (Value.bool false), D.v (Value.bool false), D.v (Value.bool false), D.v (Value.bool false), D.v (Value.bool false), D.v (Value.bool false), D.v (Value.bool false), D.v (Value.bool false), D.v (Value.bool false), D.v (Value.bool false), D.v (Value.bool false), D.v (Value.bool false), D.v (Value.bool false), D.v (Value.bool false), D.v (Value.bool false), D.v (Value.bool false), D.v (Value.bool false), D.v (Value.bool false), D.v (Value.bool false), D.v (Value.bool false), D.v (Value.bool false), D.v (Value.bool false), D.v (Value.bool false), D.v (Value.bool false), D.v (Value.bool false), D.v (Value.bool false), D.v (Value.bool false), D.v (Value.bool false), D.v (Value.bool false), D.v (Value.bool false), D.v (Value.bool false), D.v (Value.bool false), D.v (Value.bool false), D.v (Value.bool false), D.v (Value.bool false), D.v (Value.bool false), D.v (Value.bool false), D.v (Value.bool false), D.v (Value.bool false), D.v (Value.bool false), D.v (Value.bool false), D.v (Value.bool false), D.v (Value.bool false), D.v (Value.bool false), D.v (Value.bool false), D.v (Value.bool false), D.v (Value.bool false), D.v (Value.bool false), D.v (Value.bool false), D.v (Value.bool false), D.v (Value.bool false), D.v (Value.bool false), D.v (Value.bool false), D.v (Value.bool false), D.v (Value.bool false), D.v (Value.bool false), D.v (Value.bool false), D.v (Value.bool false), D.v (Value.bool false), D.v (Value.bool false), D.v (Value.bool false), D.v (Value.bool false), D.v (Value.bool false), D.v (Value.bool false), D.v (Value.bool false), D.v (Value.bool false), D.v (Value.bool false), D.v (Value.bool false), D.v (Value.bool false), D.v (Value.bool false), D.v (Value.bool false), D.v (Value.bool false), D.v (Value.bool false), D.v (Value.bool false), D.v (Value.bool false), D.v (Value.bool false), D.v (Value.bool false), D.v (Value.bool false), D.v (Value.bool false), D.v (Value.bool false), D.v (Value.bool false), D.v (Value.bool false), D.v (Value.bool false), D.v (Value.bool false), D.v (Value.bool false), D.v (Value.bool false), D.v (Value.bool false), D.v (Value.bool false), D.v (Value.bool false), D.v (Value.bool false), D.v (Value.bool false), D.v (Value.bool false), D.v (Value.bool false), D.v (Value.bool false), D.v (Value.bool false), D.v (Value.bool false), D.v (Value.bool false), D.v (Value.bool false), D.v (Value.bool false)] [TK.bool, TK.bool, TK.bool, TK.bool, TK.bool, TK.bool, TK.bool, TK.bool, TK.bool, TK.bool, TK.bool, TK.bool, TK.bool, TK.bool, TK.bool, TK.bool, TK.bool, TK.bool, TK.bool, TK.bool, TK.bool, TK.bool, TK.bool, TK.bool, TK.bool, TK.bool, TK.bool, TK.bool, TK.bool, TK.bool, TK.bool, TK.bool, TK.bool, TK.bool, TK.bool, TK.bool, TK.bool, TK.bool, TK.bool, TK.bool, TK.bool, TK.bool, TK.bool, TK.bool, TK.bool, TK.bool, TK.bool, TK.bool, TK.bool, TK.bool, TK.bool, TK.bool, TK.bool, TK.bool, TK.bool, TK.bool, TK.bool, TK.bool, TK.bool, TK.bool, TK.bool, TK.bool, TK.bool, TK.bool, TK.bool, TK.bool, TK.bool, TK.bool, TK.bool, TK.bool, TK.bool, TK.bool, TK.bool, TK.bool, TK.bool, TK.bool, TK.bool, TK.bool, TK.bool, TK.bool, TK.bool, TK.bool, TK.bool, TK.bool, TK.bool, TK.bool, TK.bool, TK.bool, TK.bool, TK.bool, TK.bool, TK.bool, TK.bool, TK.bool, TK.bool, TK.bool, TK.bool, TK.bool, TK.bool, TK.bool, TK.bool, TK.bool, TK.bool, TK.bool, TK.bool, TK.bool, TK.bool, TK.bool, TK.bool, TK.bool, TK.bool, TK.bool, TK.bool, TK.bool, TK.bool, TK.bool, TK.bool, TK.bool, TK.bool, TK.bool, TK.bool, TK.bool, TK.bool, TK.bool, TK.bool, TK.bool, TK.bool, TK.bool, TK.bool, TK.bool, TK.bool, TK.bool, TK.bool, TK.bool, TK.bool, TK.bool, TK.bool, TK.bool, TK.bool, TK.bool, TK.bool, TK.bool, TK.bool, TK.bool, TK.bool, TK.bool, TK.bool, TK.bool, TK.bool, TK.bool, TK.bool, TK.bool, TK.bool, TK.bool, TK.bool, TK.bool, TK.bool, TK.bool, TK.bool, TK.bool, TK.bool, TK.bool, TK.bool, TK.bool, TK.bool, TK.bool, TK.bool, TK.bool, TK.bool, TK.bool, TK.bool, TK.bool, TK.bool, TK.bool, TK.bool, TK.bool, TK.bool, TK.bool, TK.bool, TK.bool, TK.bool, TK.bool, TK.bool, TK.bool, TK.bool, TK.bool, TK.bool, TK.bool, TK.bool, TK.bool, TK.bool, TK.bool, TK.bool, TK.bool, TK.bool, TK.bool, TK.bool, TK.bool, TK.bool, TK.bool, TK.bool, TK.bool, TK.bool, TK.bool, TK.bool, TK.bool, TK.bool, TK.bool, TK.bool, TK.bool, TK.bool, TK.bool, TK.bool, TK.bool, TK.bool, TK.bool, TK.bool, TK.bool, TK.bool, TK.bool, TK.bool, TK.bool, TK.bool, TK.bool, TK.bool, TK.bool, TK.bool, TK.bool, TK.bool, TK.bool, TK.bool, TK.bool, TK.bool, TK.bool, TK.bool, TK.bool, TK.bool, TK.bool, TK.bool, TK.bool, TK.bool, TK.bool, TK.bool, TK.bool, TK.bool, TK.bool, TK.bool, TK.bool, TK.bool, TK.bool, TK.bool, TK.bool, TK.bool, TK.bool, TK.bool, TK.bool].length)
def trim_cf : Nat → Cfg := cfL []
def trim_a (s : ByteArray) : List AV := [.s (.string s), .v (.string othersB)]
noncomputable def trim_t (P : Program) (s : ByteArray) : Br PO :=
(.test (s.toList == (⟨#[]⟩ : ByteArray).toList)
  (.leaf (.fin ⟨Ex.ret, true, [some (AV.s (Value.string s))], []⟩))
  (.test (s.size.ble 4611686018427387904)
    (.test ((trS         (setF           tblF)         s).size.ble   4611686018427387904)
      (.leaf (.fin ⟨Ex.ret, true, [some   (AV.s     (Value.string       (tlS         (setF           tblF)         (trS           (setF             tblF)           s))))], []⟩))
      .no
    )
    .no
  )
)
theorem trim_h (s : ByteArray) : (ev Tryd.prog trimX seekT 3000 noL 3000 .normal [.c 0 (codeOf Tryd.prog 47)] (params (trim_a s)) Ev.start).map (lookP Tryd.prog (resOf Tryd.prog 47) [] trim_cf) = trim_t Tryd.prog s := by kernel_rfl

/-- A byte that may stand in a name. -/
def setN (c : Int) : Bool := (decide (97 ≤ c) && decide (c ≤ 122)) || ((decide (48 ≤ c) && decide (c ≤ 57)) || decide (c = 95))
theorem tbl_eq {c : Int} (h0 : 0 ≤ c) (h1 : c < 256) : setF tblF c = setN c := by
  have key : ((List.range 256).all fun n => setF tblF n == setN n) = true := by kernel_rfl
  have := List.all_eq_true.1 key c.toNat (by simp; omega)
  rw [show ((c.toNat : Nat) : Int) = c by omega] at this
  simpa using this
theorem allB_congr {S T : Int → Bool} {z : ByteArray} (h : ∀ c, 0 ≤ c → c < 256 → S c = T c) : allB S z = allB T z := by
  unfold allB
  congr 1
  funext k
  exact h _ (byteAt_ge z k).1 (byteAt_ge z k).2
/-- What is left. -/
def trimN (s : ByteArray) : ByteArray := tlS (setF tblF) (trS (setF tblF) s)
theorem trimN_nil (s : ByteArray) : decide ((trimN s).size = 0) = allB setN s := by
  unfold trimN
  rw [trim_nil]
  exact allB_congr fun c h0 h1 => tbl_eq h0 h1
theorem trN_size (S : Int → Bool) : ∀ (n : Nat) (z : ByteArray), n ≤ z.size → (trN S n z).size ≤ z.size
  | 0, z, _ => Nat.le_refl _
  | n + 1, z, h => by
    unfold trN
    cases S (byteAt z n) with
    | false => exact Nat.le_refl _
    | true =>
      have hs : (z.extract 0 n).size = n := by rw [size_extract]; omega
      have := trN_size S n (z.extract 0 n) (by omega)
      simp only [cond_true]; omega
theorem trim_ok (s : ByteArray) (hs : s.size ≤ 4611686018427387904) : OCalls Tryd.prog 47 (trim_a s) (.s (.string (trimN s))) [] :=
  floyd0 ev_mix ev_ok trimX_ok seekT_ok (by kernel_rfl) [] trim_cf (trim_t _ s) (trim_h s)
    (by
      refine ⟨fun h => ?_, fun _ => ⟨fun _ => ⟨fun _ => ?_, fun h => ?_⟩, fun h => ?_⟩⟩
      · rw [ba_eq, decide_eq_true_eq] at h
        subst h
        exact ⟨rfl, (.cons _ _ _ _ (.ofEq rfl) .nil), .nil⟩
      · exact ⟨rfl, (.cons _ _ _ _ (.ofEq rfl) .nil), .nil⟩
      · have h1 : (trS (setF tblF) s).size ≤ s.size := trN_size (setF tblF) s.size s (Nat.le_refl _)
        have h2 := ble_no h
        exact absurd (Nat.le_trans h1 hs) (by omega)
      · have h2 := ble_no h
        omega)
def eqC : List UInt8 → List UInt8 → Bool
  | [], [] => true
  | a :: r, b :: s => Nat.beq a.toNat b.toNat && eqC r s
  | _, _ => false
theorem eqC_eq : ∀ {a b : List UInt8}, eqC a b = true → a = b
  | [], [], _ => rfl
  | a :: r, b :: s, h => by
    simp only [eqC, Bool.and_eq_true] at h
    have h1 : a.toNat = b.toNat := Nat.eq_of_beq_eq_true h.1
    rw [UInt8.toNat_inj.1 h1, eqC_eq h.2]
  | [], _ :: _, h => by simp [eqC] at h
  | _ :: _, [], h => by simp [eqC] at h
def trimWX : SumBr := oX 47 fun
  | [v, w] => match strV v, strV w with
    | some x, some c => bif eqC c.data.toList othersB.data.toList then some (.test (Nat.ble x.size 4611686018427387904) (.leaf (.s (.string (trimN x)), [])) .no) else none
    | _, _ => none
  | _ => none
theorem trimWX_ok : SumGO Tryd.prog (sumS trimWX) := oX_ok (by kernel_rfl) fun xs B r h hB => by
  split at h
  · rename_i v w
    split at h
    · rename_i x c hv hw
      cases hk : eqC c.data.toList othersB.data.toList with
      | false => rw [hk] at h; cases h
      | true =>
        rw [hk] at h
        cases h
        have hc : c = othersB := ByteArray.ext (Array.toList_inj.1 (eqC_eq hk))
        subst hc
        rcases hB with ⟨h1, hB⟩ | ⟨_, hB⟩
        · cases hB
          exact (trim_ok x (by simpa using h1)).leS fun m ys ⟨y, r, e, h1, ⟨y2, r2, e2, h2, h3⟩⟩ => by
            letI : Fz := ⟨m, false⟩
            exact ⟨y, r, e, strV_rel hv h1, y2, r2, e2, strV_rel hw h2, h3⟩
        · exact hB.elim
    · cases h
  · cases h
end Go.Proofs.YtffcaapbmkaceaaDoor
