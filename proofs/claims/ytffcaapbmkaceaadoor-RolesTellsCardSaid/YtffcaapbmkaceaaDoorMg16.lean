/- The search for a byte, and the cuts, as summaries of what is not known. No condition. -/
import Derived.Test.YtffcaapbmkaceaaDoorMg14
import Derived.Test.YtffcaapbmkaceaaDoorMg15
section
namespace Go.Proofs.YtffcaapbmkaceaaDoor
open Go.RowKit Ev
def seekT : Sum := plT 63 fun
  | [.string a, .int .u8 c] => some (.int .i64 (seekB a.data.toList c.toNat.toUInt8 0))
  | _ => none
theorem seekT_ok : SumGO Tryd.prog seekT := (plT_ok (by kernel_rfl) fun xs v h w => by
  split at h
  · cases h; exact (seek_any _ _ w).mono fun e w' ⟨h1, h2⟩ => ⟨h1, h2 ▸ Fr.refl _ _⟩
  · cases h).open
def trimX : SumBr := orX trrX trlX
theorem trimX_ok : SumGO Tryd.prog (sumS trimX) := orX_open trrX_ok trlX_ok
end Go.Proofs.YtffcaapbmkaceaaDoor
end
section
namespace Go.Proofs.YtffcaapbmkaceaaDoor
open Ev Go.RowKit
set_option maxRecDepth 100000
set_option linter.unusedVariables false
def othersB : ByteArray := ⟨#[97, 98, 99, 100, 101, 102, 103, 104, 105, 106, 107, 108, 109, 110, 111, 112, 113, 114, 115, 116, 117, 118, 119, 120, 121, 122, 48, 49, 50, 51, 52, 53, 54, 55, 56, 57, 95]⟩
def tblF : Nat → Nat → D := (listD [D.v (Value.bool false), D.v (Value.bool false), D.v (Value.bool false), D.v (Value.bool false), D.v (Value.bool false), D.v (Value.bool false), D.v (Value.bool false), D.v (Value.bool false), D.v (Value.bool false), D.v (Value.bool false), D.v (Value.bool false), D.v (Value.bool false), D.v (Value.bool false), D.v (Value.bool false), D.v (Value.bool false), D.v (Value.bool false), D.v (Value.bool false), D.v (Value.bool false), D.v (Value.bool false), D.v (Value.bool false), D.v (Value.bool false), D.v (Value.bool false), D.v (Value.bool false), D.v (Value.bool false), D.v (Value.bool false), D.v (Value.bool false), D.v (Value.bool false), D.v (Value.bool false), D.v (Value.bool false), D.v (Value.bool false), D.v (Value.bool false), D.v (Value.bool false), D.v (Value.bool false), D.v (Value.bool false), D.v (Value.bool false), D.v (Value.bool false), D.v (Value.bool false), D.v (Value.bool false), D.v (Value.bool false), D.v (Value.bool false), D.v (Value.bool false), D.v (Value.bool false), D.v (Value.bool false), D.v (Value.bool false), D.v (Value.bool false), D.v (Value.bool false), D.v (Value.bool false), D.v (Value.bool false), D.v (Value.bool true), D.v (Value.bool true), D.v (Value.bool true), D.v (Value.bool true), D.v (Value.bool true), D.v (Value.bool true), D.v (Value.bool true), D.v (Value.bool true), D.v (Value.bool true), D.v (Value.bool true), D.v (Value.bool false), D.v (Value.bool false), D.v (Value.bool false), D.v (Value.bool false), D.v (Value.bool false), D.v (Value.bool false), D.v (Value.bool false), D.v (Value.bool false), D.v (Value.bool false), D.v (Value.bool false), D.v (Value.bool false), D.v (Value.bool false), D.v (Value.bool false), D.v (Value.bool false), D.v (Value.bool false), D.v (Value.bool false), D.v (Value.bool false), D.v (Value.bool false), D.v (Value.bool false), D.v (Value.bool false), D.v (Value.bool false), D.v (Value.bool false), D.v (Value.bool false), D.v (Value.bool false), D.v (Value.bool false), D.v (Value.bool false), D.v (Value.bool false), D.v (Value.bool false), D.v (Value.bool false), D.v (Value.bool false), D.v (Value.bool false), D.v (Value.bool false), D.v (Value.bool false), D.v (Value.bool false), D.v (Value.bool false), D.v (Value.bool false), D.v (Value.bool false), D.v (Value.bool true), D.v (Value.bool false), D.v (Value.bool true), D.v (Value.bool true), D.v (Value.bool true), D.v (Value.bool true), D.v (Value.bool true), D.v (Value.bool true), D.v (Value.bool true), D.v (Value.bool true), D.v (Value.bool true), D.v (Value.bool true), D.v (Value.bool true), D.v (Value.bool true), D.v (Value.bool true), D.v (Value.bool true), D.v (Value.bool true), D.v (Value.bool true), D.v (Value.bool true), D.v (Value.bool true), D.v (Value.bool true), D.v (Value.bool true), D.v (Value.bool true), D.v (Value.bool true), D.v (Value.bool true), D.v (Value.bool true), D.v (Value.bool true), D.v (Value.bool true), D.v (Value.bool false), D.v (Value.bool false), D.v (Value.bool false), D.v (Value.bool false), D.v (Value.bool false), D.v (Value.bool false), D.v (Value.bool false), D.v (Value.bool false), D.v (Value.bool false), D.v (Value.bool false), D.v (Value.bool false), D.v (Value.bool false), D.v (Value.bool false), D.v (Value.bool false), D.v (Value.bool false), D.v (Value.bool false), D.v (Value.bool false), D.v (Value.bool false), D.v (Value.bool false), D.v (Value.bool false), D.v (Value.bool false), D.v (Value.bool false), D.v (Value.bool false), D.v (Value.bool false), D.v (Value.bool false), D.v (Value.bool false), D.v (Value.bool false), D.v (Value.bool false), D.v (Value.bool false), D.v (Value.bool false), D.v (Value.bool false), D.v (Value.bool false), D.v (Value.bool false), D.v (Value.bool false), D.v (Value.bool false), D.v (Value.bool false), D.v (Value.bool false), D.v (Value.bool false), D.v (Value.bool false), D.v (Value.bool false), D.v (Value.bool false), D.v (Value.bool false), D.v (Value.bool false), D.v (Value.bool false), D.v (Value.bool false), D.v (Value.bool false), D.v (Value.bool false), D.v (Value.bool false), D.v (Value.bool false), D.v (Value.bool false), D.v (Value.bool false), D.v (Value.bool false), D.v (Value.bool false), D.v (Value.bool false), D.v (Value.bool false), D.v (Value.bool false), D.v (Value.bool false), D.v (Value.bool false), D.v (Value.bool false), D.v (Value.bool false), D.v (Value.bool false), D.v (Value.bool false), D.v (Value.bool false), D.v (Value.bool false), D.v (Value.bool false), D.v (Value.bool false), D.v (Value.bool false), D.v (Value.bool false), D.v (Value.bool false), D.v (Value.bool false), D.v (Value.bool false), D.v (Value.bool false), D.v (Value.bool false), D.v (Value.bool false), D.v (Value.bool false), D.v (Value.bool false), D.v (Value.bool false), D.v (Value.bool false), D.v (Value.bool false), D.v (Value.bool false), D.v (Value.bool false), D.v (Value.bool false), D.v (Value.bool false), D.v (Value.bool false), D.v (Value.bool false), D.v (Value.bool false), D.v (Value.bool false), D.v (Value.bool false), D.v (Value.bool false), D.v (Value.bool false), D.v (Value.bool false), D.v (Value.bool false), D.v (Value.bool false), D.v (Value.bool false), D.v (Value.bool false), D.v (Value.bool false), D.v (Value.bool false), D.v (Value.bool false), D.v (Value.bool false), D.v (Value.bool false), D.v (Value.bool false), D.v (Value.bool false), D.v (Value.bool false), D.v (Value.bool false), D.v (Value.bool false), D.v (Value.bool false), D.v (Value.bool false), D.v (Value.bool false), D.v (Value.bool false), D.v (Value.bool false), D.v (Value.bool false), D.v (Value.bool false), D.v (Value.bool false), D.v (Value.bool false), D.v (Value.bool false), D.v (Value.bool false), D.v (Value.bool false), D.v (Value.bool false), D.v (Value.bool false), D.v (Value.bool false), D.v (Value.bool false), D.v (Value.bool false), D.v (Value.bool false), D.v (Value.bool false), D.v (Value.bool false), D.v (Value.bool false), D.v (Value.bool false), D.v (Value.bool false), D.v (Value.bool false), D.v (Value.bool false), D.v (Value.bool false), D.v (Value.bool false), D.v (Value.bool false)] [TK.bool, TK.bool, TK.bool, TK.bool, TK.bool, TK.bool, TK.bool, TK.bool, TK.bool, TK.bool, TK.bool, TK.bool, TK.bool, TK.bool, TK.bool, TK.bool, TK.bool, TK.bool, TK.bool, TK.bool, TK.bool, TK.bool, TK.bool, TK.bool, TK.bool, TK.bool, TK.bool, TK.bool, TK.bool, TK.bool, TK.bool, TK.bool, TK.bool, TK.bool, TK.bool, TK.bool, TK.bool, TK.bool, TK.bool, TK.bool, TK.bool, TK.bool, TK.bool, TK.bool, TK.bool, TK.bool, TK.bool, TK.bool, TK.bool, TK.bool, TK.bool, TK.bool, TK.bool, TK.bool, TK.bool, TK.bool, TK.bool, TK.bool, TK.bool, TK.bool, TK.bool, TK.bool, TK.bool, TK.bool, TK.bool, TK.bool, TK.bool, TK.bool, TK.bool, TK.bool, TK.bool, TK.bool, TK.bool, TK.bool, TK.bool, TK.bool, TK.bool, TK.bool, TK.bool, TK.bool, TK.bool, TK.bool, TK.bool, TK.bool, TK.bool, TK.bool, TK.bool, TK.bool, TK.bool, TK.bool, TK.bool, TK.bool, TK.bool, TK.bool, TK.bool, TK.bool, TK.bool, TK.bool, TK.bool, TK.bool, TK.bool, TK.bool, TK.bool, TK.bool, TK.bool, TK.bool, TK.bool, TK.bool, TK.bool, TK.bool, TK.bool, TK.bool, TK.bool, TK.bool, TK.bool, TK.bool, TK.bool, TK.bool, TK.bool, TK.bool, TK.bool, TK.bool, TK.bool, TK.bool, TK.bool, TK.bool, TK.bool, TK.bool, TK.bool, TK.bool, TK.bool, TK.bool, TK.bool, TK.bool, TK.bool, TK.bool, TK.bool, TK.bool, TK.bool, TK.bool, TK.bool, TK.bool, TK.bool, TK.bool, TK.bool, TK.bool, TK.bool, TK.bool, TK.bool, TK.bool, TK.bool, TK.bool, TK.bool, TK.bool, TK.bool, TK.bool, TK.bool, TK.bool, TK.bool, TK.bool, TK.bool, TK.bool, TK.bool, TK.bool, TK.bool, TK.bool, TK.bool, TK.bool, TK.bool, TK.bool, TK.bool, TK.bool, TK.bool, TK.bool, TK.bool, TK.bool, TK.bool, TK.bool, TK.bool, TK.bool, TK.bool, TK.bool, TK.bool, TK.bool, TK.bool, TK.bool, TK.bool, TK.bool, TK.bool, TK.bool, TK.bool, TK.bool, TK.bool, TK.bool, TK.bool, TK.bool, TK.bool, TK.bool, TK.bool, TK.bool, TK.bool, TK.bool, TK.bool, TK.bool, TK.bool, TK.bool, TK.bool, TK.bool, TK.bool, TK.bool, TK.bool, TK.bool, TK.bool, TK.bool, TK.bool, TK.bool, TK.bool, TK.bool, TK.bool, TK.bool, TK.bool, TK.bool, TK.bool, TK.bool, TK.bool, TK.bool, TK.bool, TK.bool, TK.bool, TK.bool, TK.bool, TK.bool, TK.bool, TK.bool, TK.bool, TK.bool, TK.bool, TK.bool, TK.bool, TK.bool, TK.bool, TK.bool, TK.bool, TK.bool, TK.bool, TK.bool, TK.bool, TK.bool, TK.bool, TK.bool, TK.bool, TK.bool, TK.bool, TK.bool, TK.bool, TK.bool].length)
def trim_cf : Nat → Cfg := cfL []
def trim_a (s : ByteArray) : List AV := [.s (.string s), .v (.string othersB)]
noncomputable def trim_t (P : Program) (s : ByteArray) : Br PO :=
(.test (s.toList == (⟨#[]⟩ : ByteArray).toList)
  (.leaf (.fin ⟨Ex.ret, true, [some (AV.s (Value.string s))], []⟩))
  (.test (s.size.ble 4611686018427387904)
    (.test ((trS         (setF           tblF)         s).size.ble   4611686018427387904)
      (.leaf (.fin ⟨Ex.ret, true, [some   (AV.s     (Value.string       (tlS         (setF           tblF)         (trS           (setF             tblF)           s))))], []⟩))
      .no
    )
    .no
  )
)
theorem trim_h (s : ByteArray) : (ev Tryd.prog trimX seekT 3000 noL 3000 .normal [.c 0 (codeOf Tryd.prog 47)] (params (trim_a s)) Ev.start).map (lookP Tryd.prog (resOf Tryd.prog 47) [] trim_cf) = trim_t Tryd.prog s := by kernel_rfl

/-- A byte that may stand in a name. -/
def setN (c : Int) : Bool := (decide (97 ≤ c) && decide (c ≤ 122)) || ((decide (48 ≤ c) && decide (c ≤ 57)) || decide (c = 95))
theorem tbl_eq {c : Int} (h0 : 0 ≤ c) (h1 : c < 256) : setF tblF c = setN c := by
  have key : ((List.range 256).all fun n => setF tblF n == setN n) = true := by kernel_rfl
  have := List.all_eq_true.1 key c.toNat (by simp; omega)
  rw [show ((c.toNat : Nat) : Int) = c by omega] at this
  simpa using this
theorem allB_congr {S T : Int → Bool} {z : ByteArray} (h : ∀ c, 0 ≤ c → c < 256 → S c = T c) : allB S z = allB T z := by
  unfold allB
  congr 1
  funext k
  exact h _ (byteAt_ge z k).1 (byteAt_ge z k).2
/-- What is left. -/
def trimN (s : ByteArray) : ByteArray := tlS (setF tblF) (trS (setF tblF) s)
theorem trimN_nil (s : ByteArray) : decide ((trimN s).size = 0) = allB setN s := by
  unfold trimN
  rw [trim_nil]
  exact allB_congr fun c h0 h1 => tbl_eq h0 h1
theorem trN_size (S : Int → Bool) : ∀ (n : Nat) (z : ByteArray), n ≤ z.size → (trN S n z).size ≤ z.size
  | 0, z, _ => Nat.le_refl _
  | n + 1, z, h => by
    unfold trN
    cases S (byteAt z n) with
    | false => exact Nat.le_refl _
    | true =>
      have hs : (z.extract 0 n).size = n := by rw [size_extract]; omega
      have := trN_size S n (z.extract 0 n) (by omega)
      simp only [cond_true]; omega
theorem trim_ok (s : ByteArray) (hs : s.size ≤ 4611686018427387904) : OCalls Tryd.prog 47 (trim_a s) (.s (.string (trimN s))) [] :=
  floyd0 ev_mix ev_ok trimX_ok seekT_ok (by kernel_rfl) [] trim_cf (trim_t _ s) (trim_h s)
    (by
      refine ⟨fun h => ?_, fun _ => ⟨fun _ => ⟨fun _ => ?_, fun h => ?_⟩, fun h => ?_⟩⟩
      · rw [ba_eq, decide_eq_true_eq] at h
        subst h
        exact ⟨rfl, (.cons _ _ _ _ (.ofEq rfl) .nil), .nil⟩
      · exact ⟨rfl, (.cons _ _ _ _ (.ofEq rfl) .nil), .nil⟩
      · have h1 : (trS (setF tblF) s).size ≤ s.size := trN_size (setF tblF) s.size s (Nat.le_refl _)
        have h2 := ble_no h
        exact absurd (Nat.le_trans h1 hs) (by omega)
      · have h2 := ble_no h
        omega)
def eqC : List UInt8 → List UInt8 → Bool
  | [], [] => true
  | a :: r, b :: s => Nat.beq a.toNat b.toNat && eqC r s
  | _, _ => false
theorem eqC_eq : ∀ {a b : List UInt8}, eqC a b = true → a = b
  | [], [], _ => rfl
  | a :: r, b :: s, h => by
    simp only [eqC, Bool.and_eq_true] at h
    have h1 : a.toNat = b.toNat := Nat.eq_of_beq_eq_true h.1
    rw [UInt8.toNat_inj.1 h1, eqC_eq h.2]
  | [], _ :: _, h => by simp [eqC] at h
  | _ :: _, [], h => by simp [eqC] at h
def trimWX : SumBr := oX 47 fun
  | [v, w] => match strV v, strV w with
    | some x, some c => bif eqC c.data.toList othersB.data.toList then some (.test (Nat.ble x.size 4611686018427387904) (.leaf (.s (.string (trimN x)), [])) .no) else none
    | _, _ => none
  | _ => none
theorem trimWX_ok : SumGO Tryd.prog (sumS trimWX) := oX_ok (by kernel_rfl) fun xs B r h hB => by
  split at h
  · rename_i v w
    split at h
    · rename_i x c hv hw
      cases hk : eqC c.data.toList othersB.data.toList with
      | false => rw [hk] at h; cases h
      | true =>
        rw [hk] at h
        cases h
        have hc : c = othersB := ByteArray.ext (Array.toList_inj.1 (eqC_eq hk))
        subst hc
        rcases hB with ⟨h1, hB⟩ | ⟨_, hB⟩
        · cases hB
          exact (trim_ok x (by simpa using h1)).leS fun m ys ⟨y, r, e, h1, ⟨y2, r2, e2, h2, h3⟩⟩ => by
            letI : Fz := ⟨m, false⟩
            exact ⟨y, r, e, strV_rel hv h1, y2, r2, e2, strV_rel hw h2, h3⟩
        · exact hB.elim
    · cases h
  · cases h
end Go.Proofs.YtffcaapbmkaceaaDoor
end
section
namespace Go.Proofs.YtffcaapbmkaceaaDoor
open Ev Go.RowKit
set_option maxRecDepth 100000
set_option linter.unusedVariables false
def name_cf : Nat → Cfg := cfL []
def name_a (s : ByteArray) : List AV := [.s (.string s)]
noncomputable def name_t (P : Program) (s : ByteArray) : Br PO :=
(.test (!s.toList == (⟨#[]⟩ : ByteArray).toList)
  (.test (decide ((↑s.size : Int) ≤ 32))
    (.test (decide (0 ≤ 0) && decide (0 ≤ 1) && decide (1 ≤ (↑s.size : Int)))
      (.test ((↑(s.extract (Int.toNat 0) (Int.toNat 1)).size : Int) == 0)
        (.test (s.size.ble 4611686018427387904)
          (.leaf (.fin ⟨Ex.ret, true, [some (AV.s (Value.bool ((trimN s).toList == (⟨#[]⟩ : ByteArray).toList)))], []⟩))
          .no
        )
        (.test ((s.extract (Int.toNat 0) (Int.toNat 1)).toList == (⟨#[97, 98, 99, 100, 101, 102, 103, 104, 105, 106, 107, 108, 109, 110, 111, 112, 113, 114, 115, 116, 117, 118, 119, 120, 121, 122]⟩ : ByteArray).toList)
          (.test (s.size.ble 4611686018427387904)
            (.leaf (.fin ⟨Ex.ret, true, [some (AV.s (Value.bool ((trimN s).toList == (⟨#[]⟩ : ByteArray).toList)))], []⟩))
            .no
          )
          (.test ((↑(s.extract (Int.toNat 0) (Int.toNat 1)).size : Int) == 1)
            (.test (decide (0 ≤ 0) && decide (0 < (↑(s.extract (Int.toNat 0) (Int.toNat 1)).size : Int)))
              (.test (decide (seekB (⟨#[97, 98, 99, 100, 101, 102, 103, 104, 105, 106, 107, 108, 109, 110, 111, 112, 113, 114, 115, 116, 117, 118, 119, 120, 121, 122]⟩ : ByteArray).data.toList (byteAt (s.extract (Int.toNat 0) (Int.toNat 1)) (Int.toNat 0)).toNat.toUInt8 0 ≥ 0))
                (.test (s.size.ble 4611686018427387904)
                  (.leaf (.fin ⟨Ex.ret, true, [some (AV.s (Value.bool ((trimN s).toList == (⟨#[]⟩ : ByteArray).toList)))], []⟩))
                  .no
                )
                (.leaf (.fin ⟨Ex.ret, true, [some (AV.v (Value.bool false))], []⟩))
              )
              .no
            )
            (.test (decide ((↑(s.extract (Int.toNat 0) (Int.toNat 1)).size : Int) ≥ (↑(⟨#[97, 98, 99, 100, 101, 102, 103, 104, 105, 106, 107, 108, 109, 110, 111, 112, 113, 114, 115, 116, 117, 118, 119, 120, 121, 122]⟩ : ByteArray).size : Int)))
              (.leaf (.fin ⟨Ex.ret, true, [some (AV.v (Value.bool false))], []⟩))
              .no
            )
          )
        )
      )
      .no
    )
    (.leaf (.fin ⟨Ex.ret, true, [some (AV.v (Value.bool false))], []⟩))
  )
  (.leaf (.fin ⟨Ex.ret, true, [some (AV.v (Value.bool false))], []⟩))
)
theorem name_h (s : ByteArray) : (ev Tryd.prog trimWX seekT 3000 noL 3000 .normal [.c 0 (codeOf Tryd.prog 30)] (params (name_a s)) Ev.start).map (lookP Tryd.prog (resOf Tryd.prog 30) [] name_cf) = name_t Tryd.prog s := by kernel_rfl

def lowB (c : Int) : Bool := decide (97 ≤ c) && decide (c ≤ 122)
/-- Is a text a name? -/
def nameP (s : ByteArray) : Bool := (decide (1 ≤ s.size) && decide (s.size ≤ 32)) && (lowB (byteAt s 0) && allB setN s)
theorem seek_low {c : Int} (h0 : 0 ≤ c) (h1 : c < 256) : decide (seekB (⟨#[97, 98, 99, 100, 101, 102, 103, 104, 105, 106, 107, 108, 109, 110, 111, 112, 113, 114, 115, 116, 117, 118, 119, 120, 121, 122]⟩ : ByteArray).data.toList c.toNat.toUInt8 0 ≥ 0) = lowB c := by
  have key : ((List.range 256).all fun n => decide (seekB (⟨#[97, 98, 99, 100, 101, 102, 103, 104, 105, 106, 107, 108, 109, 110, 111, 112, 113, 114, 115, 116, 117, 118, 119, 120, 121, 122]⟩ : ByteArray).data.toList n.toUInt8 0 ≥ 0) == lowB n) = true := by kernel_rfl
  have := List.all_eq_true.1 key c.toNat (by simp; omega)
  rw [show ((c.toNat : Nat) : Int) = c by omega] at this
  simpa using this
theorem name_ok (s : ByteArray) : OCalls Tryd.prog 30 (name_a s) (.s (.bool (nameP s))) [] :=
  floyd0 ev_mix ev_ok trimWX_ok seekT_ok (by kernel_rfl) [] name_cf (name_t _ s) (name_h s)
    (by
      have hx : 1 ≤ s.size → (s.extract (Int.toNat 0) (Int.toNat 1)).size = 1 := fun h => by rw [size_extract]; show min 1 s.size - 0 = 1; omega
      refine ⟨fun h => ⟨fun h2 => ⟨fun _ => ?_, fun h3 => ?_⟩, fun h2 => ?_⟩, fun h => ?_⟩
      · rw [ba_eq] at h
        have hs : 1 ≤ s.size := by
          rcases Nat.eq_zero_or_pos s.size with c | c
          · rw [decide_eq_true (ba_nil.2 c)] at h; cases h
          · exact c
        simp only [decide_eq_true_eq] at h2
        refine ⟨fun h3 => ?_, fun _ => ⟨fun h3 => ?_, fun _ => ⟨fun _ => ⟨fun _ => ⟨fun h4 => ⟨fun _ => ?_, fun h5 => ?_⟩, fun h4 => ?_⟩, fun h3 => ?_⟩, fun h3 => ?_⟩⟩⟩
        · rw [hx hs] at h3; cases h3
        · rw [ba_eq, decide_eq_true_eq] at h3
          have := congrArg ByteArray.size h3
          rw [hx hs] at this; cases this
        · have hb := byteAt_ge s 0
          have e : byteAt (s.extract (Int.toNat 0) (Int.toNat 1)) (Int.toNat 0) = byteAt s 0 := byteAt_extract (a := 0) (b := 1) (k := 0) (by omega)
          rw [e, seek_low hb.1 hb.2] at h4
          refine ⟨rfl, (.cons _ _ _ _ (.ofEq ?_) .nil), .nil⟩
          have e2 : decide (trimN s = ⟨#[]⟩) = decide ((trimN s).size = 0) := by simp only [ba_nil]
          rw [ba_eq, e2, trimN_nil]
          unfold nameP
          rw [h4, decide_eq_true hs, decide_eq_true (show s.size ≤ 32 by omega)]; rfl
        · have := ble_no h5; omega
        · have hb := byteAt_ge s 0
          have e : byteAt (s.extract (Int.toNat 0) (Int.toNat 1)) (Int.toNat 0) = byteAt s 0 := byteAt_extract (a := 0) (b := 1) (k := 0) (by omega)
          rw [e, seek_low hb.1 hb.2] at h4
          refine ⟨rfl, (.cons _ _ _ _ ?_ .nil), .nil⟩
          unfold nameP
          rw [h4, Bool.false_and, Bool.and_false]; exact .vs _
        · rw [hx hs] at h3; cases h3
        · rw [hx hs] at h3; cases h3
      · rw [ba_eq] at h
        have hs : 1 ≤ s.size := by
          rcases Nat.eq_zero_or_pos s.size with c | c
          · rw [decide_eq_true (ba_nil.2 c)] at h; cases h
          · exact c
        simp only [Bool.and_eq_false_iff, decide_eq_false_iff_not] at h3; omega
      · simp only [decide_eq_false_iff_not] at h2
        refine ⟨rfl, (.cons _ _ _ _ ?_ .nil), .nil⟩
        unfold nameP
        rw [decide_eq_false (show ¬ s.size ≤ 32 by omega), Bool.and_false, Bool.false_and]; exact .vs _
      · rw [ba_eq] at h
        have hs : s = ⟨#[]⟩ := by simpa using h
        subst hs
        exact ⟨rfl, (.cons _ _ _ _ (.vs _) .nil), .nil⟩)
def nameX : SumBr := oX 30 fun
  | [v] => match strV v with
    | some x => some (.leaf (.s (.bool (nameP x)), []))
    | none => none
  | _ => none
theorem nameX_ok : SumGO Tryd.prog (sumS nameX) := oX_ok (by kernel_rfl) fun xs B r h hB => by
  split at h
  · split at h
    · rename_i v x hv
      cases h
      cases hB
      exact (name_ok x).leS fun m ys ⟨y, r, e, h1, h2⟩ => by
        letI : Fz := ⟨m, false⟩
        exact ⟨y, r, e, strV_rel hv h1, h2⟩
    · cases h
  · cases h
end Go.Proofs.YtffcaapbmkaceaaDoor
end
section
namespace Go.Proofs.YtffcaapbmkaceaaDoor
open Ev Go.RowKit
set_option maxRecDepth 100000
def twiceX : SumBr := oX 36 fun
  | [a] => match asL [.str] a with
    | some (f, n) => some (.leaf (.s (.bool (decide (¬ (dL ByteArray f n).Nodup))), []))
    | none => none
  | _ => none
theorem twiceX_ok : SumGO Tryd.prog (sumS twiceX) := oX_ok (by kernel_rfl) fun xs B r h hB => by
  split at h
  · split at h
    · rename_i a f n ha
      cases h
      cases hB
      exact (twice_ok (dL _ f n)).leS fun m ys ⟨y, r, e, h1, h2⟩ => by
        letI : Fz := ⟨m, false⟩
        exact ⟨y, r, e, asL_rel rfl ha h1, h2⟩
    · cases h
  · cases h
def twice2X : SumBr := oX 37 fun
  | [a] => match asL [.str, .str] a with
    | some (f, n) => some (.leaf (.s (.bool (decide (¬ (dL (ByteArray × ByteArray) f n).Nodup))), []))
    | none => none
  | _ => none
theorem twice2X_ok : SumGO Tryd.prog (sumS twice2X) := oX_ok (by kernel_rfl) fun xs B r h hB => by
  split at h
  · split at h
    · rename_i a f n ha
      cases h
      cases hB
      exact (twice2_ok (dL _ f n)).leS fun m ys ⟨y, r, e, h1, h2⟩ => by
        letI : Fz := ⟨m, false⟩
        exact ⟨y, r, e, asL_rel rfl ha h1, h2⟩
    · cases h
  · cases h
/-- A state in memory, its names as a list. -/
theorem fzp_names [Fz] {F : Nat → Nat → D} {g : Nat → Nat → D} {k : Nat} {ρ : Rho} {y : Value} (hF : F 0 0 = .l g k [.str]) (r : VRel ρ (.fzp F 1 [.lst, .lst] 0 0) y) :
    VRel ρ (.fzp (listD [.l (eL (dL ByteArray g k)) (dL ByteArray g k).length [.str], F 0 1] 2) 1 [.lst, .lst] 0 0) y := by
  obtain ⟨hgc, b, o, ⟨C, e, fr, h1, h2, h3⟩, hlt, rfl⟩ := r
  refine ⟨hgc, b, o, ⟨C, e, fr, h1, h2, fun i c hi hc => ?_⟩, hlt, rfl⟩
  obtain rfl : i = 0 := by omega
  obtain ⟨⟨tk, t1, t2⟩, z, z1, z2⟩ := h3 0 c (by omega) hc
  match c, hc with
  | 0, _ =>
    rw [hF] at t2 z2
    refine ⟨⟨tk, t1, ?_⟩, z, z1, ?_⟩
    · simp at t1; subst t1; rfl
    · have := (fz_eL (α := ByteArray) (ρ := ρ) (y := z) ⟨hgc, z2⟩).2
      rw [dL_length]; exact this
  | 1, _ => exact ⟨⟨tk, t1, t2⟩, z, z1, z2⟩
  | c + 2, hc => simp at hc; omega
def badpX : SumBr := oX 48 fun
  | [a, .fn fid [.fzp F 1 ks 0 0]] => bif Nat.beq fid 39 && ksEq [.lst, .lst] ks then (match asL [.str, .str] a, F 0 0 with
    | some (f, n), .l g k ks' => bif ksEq [.str] ks' then some (.leaf (.s (.int .i64 (idxF (badP (dL _ g k)) (dL _ f n))), [])) else none
    | _, _ => none) else none
  | _ => none
theorem badpX_ok : SumGO Tryd.prog (sumS badpX) := oX_ok (by kernel_rfl) fun xs B r h hB => by
  split at h
  · rename_i a fid F ks
    cases hc : (Nat.beq fid 39 && ksEq [.lst, .lst] ks) with
    | false => rw [hc] at h; cases h
    | true =>
      rw [hc] at h
      simp only [cond_true] at h
      simp only [Bool.and_eq_true] at hc
      have hf := Nat.eq_of_beq_eq_true hc.1
      have hk := ksEq_eq hc.2
      subst hf hk
      split at h
      · rename_i f n g k ks' ha hF
        cases hk : ksEq [.str] ks' with
        | false => rw [hk] at h; cases h
        | true =>
          rw [hk] at h
          have hk := ksEq_eq hk
          subst hk
          cases h
          cases hB
          exact (badp_ok (dL _ f n) (dL _ g k) (F 0 1)).leS fun m ys ⟨y, r, e, h1, ⟨y2, r2, e2, ⟨zs, e3, ⟨y4, r4, e4, h4, h5⟩⟩, h3⟩⟩ => by
            letI : Fz := ⟨m, false⟩
            exact ⟨y, r, e, asL_rel rfl ha h1, y2, r2, e2, ⟨zs, e3, ⟨y4, r4, e4, fzp_names hF h4, h5⟩⟩, h3⟩
      · cases h
  · cases h
def mayXs : SumBr := orX slX (orX twiceX (orX twice2X (orX badpX nameX)))
theorem mayXs_ok : SumGO Tryd.prog (sumS mayXs) := orX_open slX_ok (orX_open twiceX_ok (orX_open twice2X_ok (orX_open badpX_ok nameX_ok)))
end Go.Proofs.YtffcaapbmkaceaaDoor
end
section
namespace Go.Proofs.YtffcaapbmkaceaaDoor
open Ev Go.RowKit
set_option maxRecDepth 100000
set_option linter.unusedVariables false
/-- A state, handed over. -/
def stA (N : List ByteArray) (I : List (ByteArray × ByteArray)) : AV := .agg [.fz (eL N) N.length [.str], .fz (eL I) I.length [.str, .str]]
def may_cf : Nat → Cfg := cfL [mkC 48 [1, 33, 34, 35] [(1, [])]]
def may_a (N : List ByteArray) (I : List (ByteArray × ByteArray)) : List AV := [stA N I]
noncomputable def may_t (P : Program) (N : List ByteArray) (I : List (ByteArray × ByteArray)) : Br PO :=
(.test (decide ((↑N.length : Int) < 1))
  (.leaf (.fin ⟨Ex.ret, true, [some (AV.v (Value.bool false))], []⟩))
  (.test (decide ((↑N.length : Int) > 16))
    (.leaf (.fin ⟨Ex.ret, true, [some (AV.v (Value.bool false))], []⟩))
    (.test (decide (0 ≤ 0) && decide (0 < (↑N.length : Int)))
      (.test (!(N.getD (Int.toNat 0) default).toList == (⟨#[114, 111, 111, 116]⟩ : ByteArray).toList)
        (.leaf (.fin ⟨Ex.ret, true, [some (AV.v (Value.bool false))], []⟩))
        (.test (decide ¬(dL ByteArray (eL N) N.length).Nodup)
          (.leaf (.fin ⟨Ex.ret, true, [some (AV.v (Value.bool false))], []⟩))
          (.test (decide ¬(dL (ByteArray × ByteArray) (eL I) I.length).Nodup)
            (.leaf (.fin ⟨Ex.ret, true, [some (AV.v (Value.bool false))], []⟩))
            (.leaf (.at 0 (ct P 12 0).1 (ct P 12 0).2 ⟨Ex.normal, true, [some (AV.ptr 65536 0 0), some (AV.fz (eL N) N.length [TK.str]), some (AV.s (Value.int IntKind.i64 (Int.ofNat N.length))), some (AV.v (Value.int IntKind.i64 (0)))], [OS.o (AO.cells [AV.fz (eL N) N.length [TK.str], AV.fz (eL I) I.length [TK.str, TK.str]] 2 65536 true false)]⟩))
          )
        )
      )
      .no
    )
  )
)
theorem may_h (N : List ByteArray) (I : List (ByteArray × ByteArray)) : (ev Tryd.prog mayXs noS 3000 noL 3000 .normal [.c 0 (codeOf Tryd.prog 12)] (params (may_a N I)) Ev.start).map (lookP Tryd.prog (resOf Tryd.prog 12) [] may_cf) = may_t Tryd.prog N I := by kernel_rfl
def may_v0 (N : List ByteArray) (I : List (ByteArray × ByteArray)) (i : Nat) : List AV := [.ptr 65536 0 0, .fz (eL N) N.length [.str], .s (.int .i64 N.length), .s (.int .i64 i)]
def may_o0 (N : List ByteArray) (I : List (ByteArray × ByteArray)) (i : Nat) : List AO := [.cells [.fz (eL N) N.length [.str], .fz (eL I) I.length [.str, .str]] 2 0 true false]
noncomputable def may_t0 (P : Program) (N : List ByteArray) (I : List (ByteArray × ByteArray)) (i : Nat) : Br PO :=
(.test (decide ((↑i : Int) < (↑N.length : Int)))
  (.test (decide (0 ≤ (↑i : Int)) && decide ((↑i : Int) < (↑N.length : Int)))
    (.test (!nameP (N.getD (↑i : Int).toNat default))
      (.leaf (.fin ⟨Ex.ret, true, [some (AV.v (Value.bool false))], []⟩))
      (.leaf (.at 0 (ct P 12 0).1 (ct P 12 0).2 ⟨Ex.normal, true, [some (AV.ptr 65536 0 0), some (AV.fz (eL N) N.length [TK.str]), some (AV.s (Value.int IntKind.i64 (Int.ofNat N.length))), some (AV.s (Value.int IntKind.i64 (IntKind.i64.wrap ((↑i : Int) + 1))))], [OS.o (AO.cells [AV.fz (eL N) N.length [TK.str], AV.fz (eL I) I.length [TK.str, TK.str]] 2 0 true false)]⟩))
    )
    .no
  )
  (.leaf (.fin ⟨Ex.ret, true, [some (AV.s (Value.bool !decide (idxF (badP (dL ByteArray (eL N) N.length)) (dL (ByteArray × ByteArray) (eL I) I.length) ≥ 0)))], []⟩))
)
theorem may_h0 (N : List ByteArray) (I : List (ByteArray × ByteArray)) (i : Nat) (j : Nat → Value) : (ev Tryd.prog mayXs noS 3000 noL 3000 .normal (hd Tryd.prog 12 0) (mkE (may_cf 0) (may_v0 N I i) j) (mkH openB (may_o0 N I i))).map (lookP Tryd.prog (resOf Tryd.prog 12) [] may_cf) = may_t0 Tryd.prog N I i := by kernel_rfl

def rootB : ByteArray := ⟨#[114, 111, 111, 116]⟩
/-- May a state be? -/
def mayP (N : List ByteArray) (I : List (ByteArray × ByteArray)) : Bool := (decide (1 ≤ N.length) && decide (N.length ≤ 16)) && (decide (N.getD 0 default = rootB) && (decide N.Nodup && (decide I.Nodup && (N.all nameP && !I.any (badP N)))))
theorem all_getD {α : Type} [Inhabited α] {p : α → Bool} {L : List α} (h : ∀ k, k < L.length → p (L.getD k default) = true) : L.all p = true := by
  rw [List.all_eq_true]
  intro x hx
  obtain ⟨i, hi, rfl⟩ := List.getElem_of_mem hx
  have := h i hi
  simpa [List.getD_eq_getElem?_getD, hi] using this
theorem may_ok (N : List ByteArray) (I : List (ByteArray × ByteArray)) : OCalls Tryd.prog 12 (may_a N I) (.s (.bool (mayP N I))) [] :=
  floyd ev_mix ev_ok mayXs_ok noSO (by kernel_rfl) [] may_cf (fun i => N.length - i) (fun _ => 0) (may_v0 N I) (may_o0 N I) (fun i => i ≤ N.length ∧ (1 ≤ N.length ∧ N.length ≤ 16 ∧ N.getD 0 default = rootB ∧ N.Nodup ∧ I.Nodup) ∧ ∀ k, k < i → nameP (N.getD k default) = true) (may_t0 _ N I) (may_t _ N I) (may_h N I) (may_h0 N I)
    (by
      refine ⟨fun h => ?_, fun h => ⟨fun h2 => ?_, fun h2 => ⟨fun _ => ⟨fun h3 => ?_, fun h3 => ⟨fun h4 => ?_, fun h4 => ⟨fun h5 => ?_, fun h5 => ?_⟩⟩⟩, fun h3 => ?_⟩⟩⟩
      · simp only [decide_eq_true_eq] at h
        exact ⟨rfl, (.cons _ _ _ _ (by unfold mayP; rw [decide_eq_false (show ¬ 1 ≤ N.length by omega)]; exact .vs _) .nil), .nil⟩
      · simp only [decide_eq_true_eq] at h2
        exact ⟨rfl, (.cons _ _ _ _ (by unfold mayP; rw [decide_eq_false (show ¬ N.length ≤ 16 by omega), Bool.and_false, Bool.false_and]; exact .vs _) .nil), .nil⟩
      · rw [ba_eq, Bool.not_eq_true'] at h3
        exact ⟨rfl, (.cons _ _ _ _ (by unfold mayP; rw [show decide (N.getD 0 default = rootB) = false from h3, Bool.false_and, Bool.and_false]; exact .vs _) .nil), .nil⟩
      · rw [dL_eL, decide_eq_true_eq] at h4
        exact ⟨rfl, (.cons _ _ _ _ (by unfold mayP; rw [decide_eq_false h4, Bool.false_and, Bool.and_false, Bool.and_false]; exact .vs _) .nil), .nil⟩
      · rw [dL_eL, decide_eq_true_eq] at h5
        exact ⟨rfl, (.cons _ _ _ _ (by unfold mayP; rw [decide_eq_false h5, Bool.false_and, Bool.and_false, Bool.and_false, Bool.and_false]; exact .vs _) .nil), .nil⟩
      · rw [dL_eL, decide_eq_false_iff_not, Decidable.not_not] at h4 h5
        rw [ba_eq, Bool.not_eq_false', decide_eq_true_eq] at h3
        simp only [decide_eq_false_iff_not] at h h2
        exact ⟨0, ⟨Nat.zero_le _, ⟨by omega, by omega, h3, h4, h5⟩, fun k hk => absurd hk (Nat.not_lt_zero k)⟩, rfl, rfl, rfl, (.cons _ _ _ _ (.refl _) (.cons _ _ _ _ (.refl _) (.cons _ _ _ _ (.refl _) (.cons _ _ _ _ (.vs _) .nil)))), .cons _ _ _ _ (.cells _ _ _ _ _ _ _ (Les.refl _)) .nil⟩
      · simp only [decide_eq_false_iff_not] at h
        simp only [Bool.and_eq_false_iff, decide_eq_false_iff_not] at h3; omega)
    (by
      intro i ⟨hi, ⟨c1, c2, c3, c4, c5⟩, hn⟩
      refine ⟨fun h => ⟨fun _ => ⟨fun h2 => ?_, fun h2 => ?_⟩, fun h2 => ?_⟩, fun h => ?_⟩
      · simp only [decide_eq_true_eq] at h
        have hx : N.all nameP = false := by
          cases hA : N.all nameP with
          | false => rfl
          | true =>
            have := List.all_eq_true.1 hA _ (getD_mem (L := N) (i := i) (by omega))
            rw [Bool.not_eq_true'] at h2
            exact absurd (this.symm.trans h2) (by simp)
        exact ⟨rfl, (.cons _ _ _ _ (by unfold mayP; rw [hx, Bool.false_and, Bool.and_false, Bool.and_false, Bool.and_false, Bool.and_false]; exact .vs _) .nil), .nil⟩
      · simp only [decide_eq_true_eq] at h
        rw [Bool.not_eq_false'] at h2
        refine ⟨i + 1, ⟨by omega, ⟨c1, c2, c3, c4, c5⟩, fun k hk => ?_⟩, rel_nat (by omega), rfl, rfl, rfl, (.cons _ _ _ _ (.refl _) (.cons _ _ _ _ (.refl _) (.cons _ _ _ _ (.refl _) (.cons _ _ _ _ (.ofEq (by rw [wrap_lt (by omega) (by omega)]; rfl)) .nil)))), .cons _ _ _ _ (.cells _ _ _ _ _ _ _ (Les.refl _)) .nil⟩
        rcases Nat.lt_or_ge k i with c | c
        · exact hn k c
        · obtain rfl : k = i := by omega
          exact h2
      · simp only [decide_eq_true_eq] at h
        simp only [Bool.and_eq_false_iff, decide_eq_false_iff_not] at h2; omega
      · simp only [decide_eq_false_iff_not] at h
        have hA : N.all nameP = true := all_getD fun k hk => hn k (by omega)
        refine ⟨rfl, (.cons _ _ _ _ (.ofEq ?_) .nil), .nil⟩
        rw [dL_eL, dL_eL, idxF_ge]
        unfold mayP
        rw [decide_eq_true c1, decide_eq_true c2, decide_eq_true c3, decide_eq_true c4, decide_eq_true c5, hA]; rfl)
end Go.Proofs.YtffcaapbmkaceaaDoor
end
section
namespace Go.Proofs.YtffcaapbmkaceaaDoor
open Ev Go.RowKit
set_option maxRecDepth 100000
set_option linter.unusedVariables false
def stO (N : List ByteArray) (I : List (ByteArray × ByteArray)) : AO := .cells [.fz (eL N) N.length [.str], .fz (eL I) I.length [.str, .str]] 2 0 true false
def is_cf : Nat → Cfg := cfL [mkC 76 [2, 3, 7, 8, 9] [(3, []), (7, [])], mkC 76 [2, 3, 7, 8, 9, 38, 39, 40] [(3, []), (7, [])]]
def is_a (N : List ByteArray) (I : List (ByteArray × ByteArray)) (who to : ByteArray) : List AV := [stA N I, .s (.string who), .s (.string to)]
noncomputable def is_t (P : Program) (N : List ByteArray) (I : List (ByteArray × ByteArray)) (who to : ByteArray) : Br PO :=
(.test (!decide (idxS (dL ByteArray (eL N) N.length) who ≥ 0))
  (.leaf (.fin ⟨Ex.ret, true, [some (AV.v (Value.bool false))], []⟩))
  (.test (!decide (idxS (dL ByteArray (eL N) N.length) to ≥ 0))
    (.leaf (.fin ⟨Ex.ret, true, [some (AV.v (Value.bool false))], []⟩))
    (.leaf (.at 0 (ct P 15 0).1 (ct P 15 0).2 ⟨Ex.normal, true, [some (AV.s (Value.string to)), some (AV.ptr 65536 0 0), some (AV.sl 65537 0 1 (some 1)), some (AV.s (Value.bool (who.toList == to.toList))), some (AV.v (Value.int IntKind.i64 (0)))], [OS.o (AO.cells [AV.fz (eL N) N.length [TK.str], AV.fz (eL I) I.length [TK.str, TK.str]] 2 65536 true false), OS.o (AO.cells [AV.s (Value.string who)] 1 65539 true false)]⟩))
  )
)
theorem is_h (N : List ByteArray) (I : List (ByteArray × ByteArray)) (who to : ByteArray) : (ev Tryd.prog slX noS 3000 noL 3000 .normal [.c 0 (codeOf Tryd.prog 15)] (params (is_a N I who to)) Ev.start).map (lookP Tryd.prog (resOf Tryd.prog 15) [] is_cf) = is_t Tryd.prog N I who to := by kernel_rfl
def is_v0 (N : List ByteArray) (I : List (ByteArray × ByteArray)) (who to : ByteArray) (A : List ByteArray) (fd : Bool) (i : Nat) : List AV := [.s (.string to), .ptr 65536 0 0, .osl 65537 A.length, .s (.bool fd), .s (.int .i64 i)]
def is_o0 (N : List ByteArray) (I : List (ByteArray × ByteArray)) (who to : ByteArray) (A : List ByteArray) (fd : Bool) (i : Nat) : List AO := [stO N I, .rows (eL A) A.length [.str]]
noncomputable def is_t0 (P : Program) (N : List ByteArray) (I : List (ByteArray × ByteArray)) (who to : ByteArray) (A : List ByteArray) (fd : Bool) (i : Nat) : Br PO :=
(.test (decide ((↑i : Int) < (↑A.length : Int)))
  (.test (!fd)
    (.leaf (.at 1 (ct P 15 1).1 (ct P 15 1).2 ⟨Ex.normal, true, [some (AV.s (Value.string to)), some (AV.ptr 65536 0 0), some (AV.osl 65537 A.length), some (AV.s (Value.bool fd)), some (AV.s (Value.int IntKind.i64 (Int.ofNat i))), some (AV.fz (eL I) I.length [TK.str, TK.str]), some (AV.s (Value.int IntKind.i64 (Int.ofNat I.length))), some (AV.v (Value.int IntKind.i64 (0)))], [OS.o (AO.cells [AV.fz (eL N) N.length [TK.str], AV.fz (eL I) I.length [TK.str, TK.str]] 2 0 true false), OS.o (AO.rows (eL A) A.length [TK.str])]⟩))
    (.leaf (.fin ⟨Ex.ret, true, [some (AV.s (Value.bool fd))], []⟩))
  )
  (.leaf (.fin ⟨Ex.ret, true, [some (AV.s (Value.bool fd))], []⟩))
)
theorem is_h0 (N : List ByteArray) (I : List (ByteArray × ByteArray)) (who to : ByteArray) (A : List ByteArray) (fd : Bool) (i : Nat) (j : Nat → Value) : (ev Tryd.prog slX noS 3000 noL 3000 .normal (hd Tryd.prog 15 0) (mkE (is_cf 0) (is_v0 N I who to A fd i) j) (mkH openB (is_o0 N I who to A fd i))).map (lookP Tryd.prog (resOf Tryd.prog 15) [] is_cf) = is_t0 Tryd.prog N I who to A fd i := by kernel_rfl
def is_v1 (N : List ByteArray) (I : List (ByteArray × ByteArray)) (who to : ByteArray) (A : List ByteArray) (fd : Bool) (i j0 : Nat) : List AV := [.s (.string to), .ptr 65536 0 0, .osl 65537 A.length, .s (.bool fd), .s (.int .i64 i), .fz (eL I) I.length [.str, .str], .s (.int .i64 I.length), .s (.int .i64 j0)]
def is_o1 (N : List ByteArray) (I : List (ByteArray × ByteArray)) (who to : ByteArray) (A : List ByteArray) (fd : Bool) (i j0 : Nat) : List AO := [stO N I, .rows (eL A) A.length [.str]]
noncomputable def is_t1 (P : Program) (N : List ByteArray) (I : List (ByteArray × ByteArray)) (who to : ByteArray) (A : List ByteArray) (fd : Bool) (i j0 : Nat) : Br PO :=
(.test (decide ((↑j0 : Int) < (↑I.length : Int)))
  (.test (decide (0 ≤ (↑j0 : Int)) && decide ((↑j0 : Int) < (↑I.length : Int)))
    (.test (decide (0 ≤ (↑i : Int)) && decide ((↑i : Int) < (↑A.length : Int)))
      (.test ((↑i : Int).toNat.blt A.length)
        (.test (!(I.getD (↑j0 : Int).toNat default).fst.toList == (A.getD (↑i : Int).toNat default).toList)
          (.leaf (.at 1 (ct P 15 1).1 (ct P 15 1).2 ⟨Ex.normal, true, [some (AV.s (Value.string to)), some (AV.ptr 65536 0 0), some (AV.osl 65537 A.length), some (AV.s (Value.bool fd)), some (AV.s (Value.int IntKind.i64 (Int.ofNat i))), some (AV.fz (eL I) I.length [TK.str, TK.str]), some (AV.s (Value.int IntKind.i64 (Int.ofNat I.length))), some (AV.s (Value.int IntKind.i64 (IntKind.i64.wrap ((↑j0 : Int) + 1))))], [OS.o (AO.cells [AV.fz (eL N) N.length [TK.str], AV.fz (eL I) I.length [TK.str, TK.str]] 2 0 true false), OS.o (AO.rows (eL A) A.length [TK.str])]⟩))
          (.test (!decide (idxS (dL ByteArray (eL N) N.length) (I.getD (↑j0 : Int).toNat default).snd ≥ 0))
            (.leaf (.at 1 (ct P 15 1).1 (ct P 15 1).2 ⟨Ex.normal, true, [some (AV.s (Value.string to)), some (AV.ptr 65536 0 0), some (AV.osl 65537 A.length), some (AV.s (Value.bool fd)), some (AV.s (Value.int IntKind.i64 (Int.ofNat i))), some (AV.fz (eL I) I.length [TK.str, TK.str]), some (AV.s (Value.int IntKind.i64 (Int.ofNat I.length))), some (AV.s (Value.int IntKind.i64 (IntKind.i64.wrap ((↑j0 : Int) + 1))))], [OS.o (AO.cells [AV.fz (eL N) N.length [TK.str], AV.fz (eL I) I.length [TK.str, TK.str]] 2 0 true false), OS.o (AO.rows (eL A) A.length [TK.str])]⟩))
            (.test (A.length.ble A.length)
              (.test (decide (idxS (dL ByteArray (eL A) A.length) (I.getD (↑j0 : Int).toNat default).snd ≥ 0))
                (.leaf (.at 1 (ct P 15 1).1 (ct P 15 1).2 ⟨Ex.normal, true, [some (AV.s (Value.string to)), some (AV.ptr 65536 0 0), some (AV.osl 65537 A.length), some (AV.s (Value.bool fd)), some (AV.s (Value.int IntKind.i64 (Int.ofNat i))), some (AV.fz (eL I) I.length [TK.str, TK.str]), some (AV.s (Value.int IntKind.i64 (Int.ofNat I.length))), some (AV.s (Value.int IntKind.i64 (IntKind.i64.wrap ((↑j0 : Int) + 1))))], [OS.o (AO.cells [AV.fz (eL N) N.length [TK.str], AV.fz (eL I) I.length [TK.str, TK.str]] 2 0 true false), OS.o (AO.rows (eL A) A.length [TK.str])]⟩))
                (.test ((I.getD (↑j0 : Int).toNat default).snd.toList == to.toList)
                  (.leaf (.fin ⟨Ex.ret, true, [some (AV.s (Value.bool ((I.getD (↑j0 : Int).toNat default).snd.toList == to.toList)))], []⟩))
                  (.test (A.length.beq A.length && (true && (small (1 + A.length) && small (Tryd.prog.types[9].bytes * (1 + A.length)))))
                    (.leaf (.at 1 (ct P 15 1).1 (ct P 15 1).2 ⟨Ex.normal, true, [some (AV.s (Value.string to)), some (AV.ptr 65536 0 0), some (AV.osl 65537 (A.length + 1)), some (AV.s (Value.bool ((I.getD (↑j0 : Int).toNat default).snd.toList == to.toList))), some (AV.s (Value.int IntKind.i64 (Int.ofNat i))), some (AV.fz (eL I) I.length [TK.str, TK.str]), some (AV.s (Value.int IntKind.i64 (Int.ofNat I.length))), some (AV.s (Value.int IntKind.i64 (IntKind.i64.wrap ((↑j0 : Int) + 1))))], [OS.o (AO.cells [AV.fz (eL N) N.length [TK.str], AV.fz (eL I) I.length [TK.str, TK.str]] 2 0 true false), OS.o (AO.rows (catD (eL A) A.length (listD [D.v (Value.string (I.getD (↑j0 : Int).toNat default).snd)] [TK.str].length)) (A.length + 1) [TK.str])]⟩))
                    .no
                  )
                )
              )
              .no
            )
          )
        )
        .no
      )
      .no
    )
    .no
  )
  (.leaf (.at 0 (ct P 15 0).1 (ct P 15 0).2 ⟨Ex.normal, true, [some (AV.s (Value.string to)), some (AV.ptr 65536 0 0), some (AV.osl 65537 A.length), some (AV.s (Value.bool fd)), some (AV.s (Value.int IntKind.i64 (IntKind.i64.wrap ((↑i : Int) + 1))))], [OS.o (AO.cells [AV.fz (eL N) N.length [TK.str], AV.fz (eL I) I.length [TK.str, TK.str]] 2 0 true false), OS.o (AO.rows (eL A) A.length [TK.str])]⟩))
)
theorem is_h1 (N : List ByteArray) (I : List (ByteArray × ByteArray)) (who to : ByteArray) (A : List ByteArray) (fd : Bool) (i j0 : Nat) (j : Nat → Value) : (ev Tryd.prog slX noS 3000 noL 3000 .normal (hd Tryd.prog 15 1) (mkE (is_cf 1) (is_v1 N I who to A fd i j0) j) (mkH openB (is_o1 N I who to A fd i j0))).map (lookP Tryd.prog (resOf Tryd.prog 15) [] is_cf) = is_t1 Tryd.prog N I who to A fd i j0 := by kernel_rfl

/-- Who is reached. -/
inductive Reach (N : List ByteArray) (I : List (ByteArray × ByteArray)) (who : ByteArray) : ByteArray → Prop
  | refl : Reach N I who who
  | step (x y : ByteArray) (h : Reach N I who x) (hi : (x, y) ∈ I) (hn : y ∈ N) : Reach N I who y
open Classical in
noncomputable def isP (N : List ByteArray) (I : List (ByteArray × ByteArray)) (who to : ByteArray) : Bool := decide (who ∈ N ∧ to ∈ N ∧ Reach N I who to)
theorem isP_iff {N : List ByteArray} {I : List (ByteArray × ByteArray)} {who to : ByteArray} : isP N I who to = true ↔ (who ∈ N ∧ to ∈ N ∧ Reach N I who to) := by unfold isP; simp
theorem isP_true {N : List ByteArray} {I : List (ByteArray × ByteArray)} {who to : ByteArray} (h : who ∈ N ∧ to ∈ N ∧ Reach N I who to) : isP N I who to = true := isP_iff.2 h
theorem isP_false {N : List ByteArray} {I : List (ByteArray × ByteArray)} {who to : ByteArray} (h : ¬ (who ∈ N ∧ to ∈ N ∧ Reach N I who to)) : isP N I who to = false := by
  cases hx : isP N I who to with
  | false => rfl
  | true => exact absurd (isP_iff.1 hx) h
inductive IsS where
  | a (A : List ByteArray) (fd : Bool) (i : Nat)
  | b (A : List ByteArray) (fd : Bool) (i j : Nat)
def IsS.pc : IsS → Nat
  | .a _ _ _ => 0
  | .b _ _ _ _ => 1
/-- What holds at the outer loop's head. -/
structure IsJ (N : List ByteArray) (I : List (ByteArray × ByteArray)) (who to : ByteArray) (A : List ByteArray) (i : Nat) : Prop where
  hwho : who ∈ A
  nd : A.Nodup
  sub : ∀ x ∈ A, x ∈ N
  re : ∀ x ∈ A, Reach N I who x
  hi : i ≤ A.length
  cl : ∀ k, k < i → ∀ p ∈ I, p.1 = A.getD k default → p.2 ∈ N → p.2 ∈ A
theorem IsJ.le {N : List ByteArray} {I : List (ByteArray × ByteArray)} {who to : ByteArray} {A : List ByteArray} {i : Nat} (h : IsJ N I who to A i) : A.length ≤ N.length := nodup_le h.nd h.sub
theorem IsJ.app {N : List ByteArray} {I : List (ByteArray × ByteArray)} {who to : ByteArray} {A : List ByteArray} {i : Nat} (h : IsJ N I who to A i) {y : ByteArray} (hy : y ∉ A) (hn : y ∈ N) (hr : Reach N I who y) : IsJ N I who to (A ++ [y]) i := by
  refine ⟨by simp [h.hwho], ?_, fun x hx => ?_, fun x hx => ?_, by simp; have := h.hi; omega, fun k hk p hp he hpn => ?_⟩
  · rw [List.nodup_append]
    refine ⟨h.nd, by simp, fun a ha b hb => ?_⟩
    simp only [List.mem_singleton] at hb
    subst hb
    exact fun e => hy (e ▸ ha)
  · rcases List.mem_append.1 hx with hx | hx
    · exact h.sub x hx
    · simp only [List.mem_singleton] at hx; subst hx; exact hn
  · rcases List.mem_append.1 hx with hx | hx
    · exact h.re x hx
    · simp only [List.mem_singleton] at hx; subst hx; exact hr
  · rw [getD_app (by have := h.hi; omega)] at he
    exact List.mem_append_left _ (h.cl k hk p hp he hpn)
theorem IsJ.end {N : List ByteArray} {I : List (ByteArray × ByteArray)} {who to : ByteArray} {A : List ByteArray} {i : Nat} (h : IsJ N I who to A i) (hi : A.length ≤ i) {x : ByteArray} (hx : Reach N I who x) : x ∈ A := by
  induction hx with
  | refl => exact h.hwho
  | step x y _ hxy hy ih =>
    obtain ⟨k, hk, he⟩ := mem_getD ih
    exact h.cl k (by omega) (x, y) hxy he.symm hy
def IsJs (N : List ByteArray) (I : List (ByteArray × ByteArray)) (who to : ByteArray) : IsS → Prop
  | .a A fd i => (who ∈ N ∧ to ∈ N) ∧ IsJ N I who to A i ∧ (fd = true → Reach N I who to) ∧ (fd = false → to ∉ A)
  | .b A fd i j => (who ∈ N ∧ to ∈ N) ∧ IsJ N I who to A i ∧ (fd = false ∧ to ∉ A) ∧ i < A.length ∧ j ≤ I.length ∧ ∀ q, q < j → (I.getD q default).1 = A.getD i default → (I.getD q default).2 ∈ N → (I.getD q default).2 ∈ A
def IsV (N : List ByteArray) (I : List (ByteArray × ByteArray)) (who to : ByteArray) : IsS → List AV
  | .a A fd i => is_v0 N I who to A fd i
  | .b A fd i j => is_v1 N I who to A fd i j
def IsO (N : List ByteArray) (I : List (ByteArray × ByteArray)) (who to : ByteArray) : IsS → List AO
  | .a A fd i => is_o0 N I who to A fd i
  | .b A fd i j => is_o1 N I who to A fd i j
noncomputable def IsT (P : Program) (N : List ByteArray) (I : List (ByteArray × ByteArray)) (who to : ByteArray) : IsS → Br PO
  | .a A fd i => is_t0 P N I who to A fd i
  | .b A fd i j => is_t1 P N I who to A fd i j
def IsM (n m : Nat) : IsS → Nat × Nat
  | .a _ _ i => (n + 1 - i, m + 1)
  | .b _ _ i j => (n + 1 - i, m - j)
theorem st_le (N : List ByteArray) (I : List (ByteArray × ByteArray)) (fam : Nat) (tip : Bool) : OLe (.o (.cells [.fz (eL N) N.length [.str], .fz (eL I) I.length [.str, .str]] 2 fam tip false)) (stO N I) := .cells _ _ _ _ _ _ _ (Les.refl _)
theorem is_ok (N : List ByteArray) (I : List (ByteArray × ByteArray)) (who to : ByteArray) (hN : N.length ≤ 1000000) : OCalls Tryd.prog 15 (is_a N I who to) (.s (.bool (isP N I who to))) [] := OCalls.bnd fun hb => by
  have hI : I.length ≤ 9223372036854775807 := hb.1.2.1
  refine floyd ev_mix ev_ok slX_ok noSO (by kernel_rfl) [] is_cf (IsM N.length I.length) IsS.pc (IsV N I who to) (IsO N I who to) (IsJs N I who to) (IsT _ N I who to) (is_t _ N I who to) (is_h N I who to) (fun s j => by cases s; exact is_h0 N I who to _ _ _ j; exact is_h1 N I who to _ _ _ _ j) ?_ ?_
  · refine ⟨fun h => ?_, fun h => ⟨fun h2 => ?_, fun h2 => ?_⟩⟩
    · rw [idxS_ge, dL_eL, Bool.not_eq_true'] at h
      exact ⟨rfl, (.cons _ _ _ _ (by rw [isP_false fun c => inL_no.1 h c.1]; exact .vs _) .nil), .nil⟩
    · rw [idxS_ge, dL_eL, Bool.not_eq_true'] at h2
      exact ⟨rfl, (.cons _ _ _ _ (by rw [isP_false fun c => inL_no.1 h2 c.2.1]; exact .vs _) .nil), .nil⟩
    · rw [idxS_ge, dL_eL, Bool.not_eq_false'] at h h2
      have hw := inL_iff.1 h
      have ht := inL_iff.1 h2
      refine ⟨.a [who] (decide (who = to)) 0, ⟨⟨hw, ht⟩, ⟨by simp, by simp, fun x hx => by simp at hx; subst hx; exact hw, fun x hx => by simp at hx; subst hx; exact .refl, by simp, fun k hk => absurd hk (Nat.not_lt_zero k)⟩, fun e => ?_, fun e => ?_⟩, rfl, rfl, rfl, (.cons _ _ _ _ (.refl _) (.cons _ _ _ _ (.refl _) (.cons _ _ _ _ (.sl0 _ _ _) (.cons _ _ _ _ (.ofEq (by rw [ba_eq])) (.cons _ _ _ _ (.vs _) .nil))))), .cons _ _ _ _ (st_le N I _ _) (.cons _ _ _ _ (.row _ [.v (.string who)] _ _ _ 1 [.str] rfl rfl (by omega) fun i c hi hc => ?_) .nil)⟩
      · have e : who = to := by simpa using e
        subst e; exact .refl
      · have e : ¬ who = to := by simpa using e
        simp; exact fun x => e x.symm
      · have : c = 0 := by simp at hc; omega
        subst this
        obtain rfl : i = 0 := by omega
        rfl
  · intro s hs
    cases s with
    | a A fd i =>
      obtain ⟨⟨hw, ht⟩, hJ, hf, hnf⟩ := hs
      refine ⟨fun h => ⟨fun h2 => ?_, fun h2 => ?_⟩, fun h => ?_⟩
      · have hfd : fd = false := by simpa using h2
        simp only [decide_eq_true_eq] at h
        refine ⟨.b A fd i 0, ⟨⟨hw, ht⟩, hJ, ⟨hfd, hnf hfd⟩, by omega, Nat.zero_le _, fun q hq => absurd hq (Nat.not_lt_zero q)⟩, rel_r (by omega), rfl, rfl, rfl, (.cons _ _ _ _ (.refl _) (.cons _ _ _ _ (.refl _) (.cons _ _ _ _ (.refl _) (.cons _ _ _ _ (.refl _) (.cons _ _ _ _ (.refl _) (.cons _ _ _ _ (.refl _) (.cons _ _ _ _ (.refl _) (.cons _ _ _ _ (.vs _) .nil)))))))), .cons _ _ _ _ (st_le N I _ _) (.cons _ _ _ _ (OLe.same _ _ _) .nil)⟩
      · have hfd : fd = true := by simpa using h2
        exact ⟨rfl, (.cons _ _ _ _ (.ofEq (by rw [hfd, isP_true ⟨hw, ht, hf hfd⟩])) .nil), .nil⟩
      · simp only [decide_eq_false_iff_not] at h
        refine ⟨rfl, (.cons _ _ _ _ (.ofEq ?_) .nil), .nil⟩
        cases fd with
        | true => rw [isP_true ⟨hw, ht, hf rfl⟩]
        | false => rw [isP_false fun c => hnf rfl (hJ.end (by omega) c.2.2)]
    | b A fd i j =>
      obtain ⟨⟨hw, ht⟩, hJ, ⟨hfd, hnf⟩, hi, hj, hq⟩ := hs
      have hle := hJ.le
      -- on, with the list as it is
      have next : j < I.length → ((I.getD j default).1 = A.getD i default → (I.getD j default).2 ∈ N → (I.getD j default).2 ∈ A) → ∀ q, q < j + 1 → (I.getD q default).1 = A.getD i default → (I.getD q default).2 ∈ N → (I.getD q default).2 ∈ A := fun hlt h q hq' => by
        rcases Nat.lt_or_ge q j with c | c
        · exact hq q c
        · obtain rfl : q = j := by omega
          exact h
      refine ⟨fun h => ⟨fun _ => ⟨fun _ => ⟨fun _ => ⟨fun h2 => ?_, fun h2 => ⟨fun h3 => ?_, fun h3 => ⟨fun _ => ⟨fun h4 => ?_, fun h4 => ⟨fun h5 => ?_, fun h5 => ⟨fun h6 => ?_, fun h6 => ?_⟩⟩⟩, fun h4 => ?_⟩⟩⟩, fun h2 => ?_⟩, fun h2 => ?_⟩, fun h2 => ?_⟩, fun h => ?_⟩
      · simp only [decide_eq_true_eq] at h
        rw [ba_eq, Bool.not_eq_true', decide_eq_false_iff_not] at h2
        exact ⟨.b A fd i (j + 1), ⟨⟨hw, ht⟩, hJ, ⟨hfd, hnf⟩, hi, by omega, next (by omega) fun e => absurd e h2⟩, rel_r (by omega), rfl, rfl, rfl, (.cons _ _ _ _ (.refl _) (.cons _ _ _ _ (.refl _) (.cons _ _ _ _ (.refl _) (.cons _ _ _ _ (.refl _) (.cons _ _ _ _ (.refl _) (.cons _ _ _ _ (.refl _) (.cons _ _ _ _ (.refl _) (.cons _ _ _ _ (.ofEq (by rw [wrap_lt (by omega) (by omega)]; rfl)) .nil)))))))), .cons _ _ _ _ (st_le N I _ _) (.cons _ _ _ _ (OLe.same _ _ _) .nil)⟩
      · simp only [decide_eq_true_eq] at h
        rw [idxS_ge, dL_eL, Bool.not_eq_true'] at h3
        exact ⟨.b A fd i (j + 1), ⟨⟨hw, ht⟩, hJ, ⟨hfd, hnf⟩, hi, by omega, next (by omega) fun _ e => absurd e (inL_no.1 h3)⟩, rel_r (by omega), rfl, rfl, rfl, (.cons _ _ _ _ (.refl _) (.cons _ _ _ _ (.refl _) (.cons _ _ _ _ (.refl _) (.cons _ _ _ _ (.refl _) (.cons _ _ _ _ (.refl _) (.cons _ _ _ _ (.refl _) (.cons _ _ _ _ (.refl _) (.cons _ _ _ _ (.ofEq (by rw [wrap_lt (by omega) (by omega)]; rfl)) .nil)))))))), .cons _ _ _ _ (st_le N I _ _) (.cons _ _ _ _ (OLe.same _ _ _) .nil)⟩
      · simp only [decide_eq_true_eq] at h
        rw [idxS_ge, dL_eL] at h4
        exact ⟨.b A fd i (j + 1), ⟨⟨hw, ht⟩, hJ, ⟨hfd, hnf⟩, hi, by omega, next (by omega) fun _ _ => inL_iff.1 h4⟩, rel_r (by omega), rfl, rfl, rfl, (.cons _ _ _ _ (.refl _) (.cons _ _ _ _ (.refl _) (.cons _ _ _ _ (.refl _) (.cons _ _ _ _ (.refl _) (.cons _ _ _ _ (.refl _) (.cons _ _ _ _ (.refl _) (.cons _ _ _ _ (.refl _) (.cons _ _ _ _ (.ofEq (by rw [wrap_lt (by omega) (by omega)]; rfl)) .nil)))))))), .cons _ _ _ _ (st_le N I _ _) (.cons _ _ _ _ (OLe.same _ _ _) .nil)⟩
      · simp only [decide_eq_true_eq] at h
        rw [ba_eq, Bool.not_eq_false', decide_eq_true_eq] at h2
        rw [idxS_ge, dL_eL, Bool.not_eq_false'] at h3
        have hp : I.getD j default ∈ I := getD_mem (by omega)
        have hre : Reach N I who (I.getD j default).2 := .step _ _ (hJ.re _ (getD_mem hi)) (by rw [← show (I.getD j default).1 = A.getD i default from h2]; exact hp) (inL_iff.1 h3)
        refine ⟨rfl, (.cons _ _ _ _ (.ofEq ?_) .nil), .nil⟩
        have e : (I.getD j default).2 = to := by rw [ba_eq, decide_eq_true_eq] at h5; exact h5
        rw [isP_true ⟨hw, ht, e ▸ hre⟩]
        exact congrArg (fun b => AV.s (Value.bool b)) h5
      · simp only [decide_eq_true_eq] at h
        rw [ba_eq, Bool.not_eq_false', decide_eq_true_eq] at h2
        rw [idxS_ge, dL_eL, Bool.not_eq_false'] at h3
        rw [idxS_ge, dL_eL] at h4
        have hp : I.getD j default ∈ I := getD_mem (by omega)
        have hre : Reach N I who (I.getD j default).2 := .step _ _ (hJ.re _ (getD_mem hi)) (by rw [← show (I.getD j default).1 = A.getD i default from h2]; exact hp) (inL_iff.1 h3)
        have hne : (I.getD j default).2 ≠ to := by rw [ba_eq, decide_eq_false_iff_not] at h5; exact h5
        have hl : (A ++ [(I.getD j default).2]).length = A.length + 1 := by simp
        refine ⟨.b (A ++ [(I.getD j default).2]) false i (j + 1), ⟨⟨hw, ht⟩, hJ.app (inL_no.1 h4) (inL_iff.1 h3) hre, ⟨rfl, by simp; exact ⟨hnf, fun e => hne e.symm⟩⟩, by omega, by omega, fun q hq' he hn => ?_⟩, rel_r (by omega), rfl, rfl, rfl, (.cons _ _ _ _ (.refl _) (.cons _ _ _ _ (.refl _) (.cons _ _ _ _ (.ofEq (by rw [hl])) (.cons _ _ _ _ (.ofEq (congrArg (fun b => AV.s (Value.bool b)) h5)) (.cons _ _ _ _ (.refl _) (.cons _ _ _ _ (.refl _) (.cons _ _ _ _ (.refl _) (.cons _ _ _ _ (.ofEq (by rw [wrap_lt (by omega) (by omega)]; rfl)) .nil)))))))), .cons _ _ _ _ (st_le N I _ _) (.cons _ _ _ _ (OLe.snoc (x := (I.getD j default).2) fun c hc => ?_) .nil)⟩
        · rw [getD_app hi] at he
          rcases Nat.lt_or_ge q j with c | c
          · exact List.mem_append_left _ (hq q c he hn)
          · obtain rfl : q = j := by omega
            simp
        · have : c = 0 := by simp [Rec.ks] at hc; omega
          subst this; rfl
      · exfalso
        have hB : Tryd.prog.types[9].bytes = 16 := by kernel_rfl
        rw [hB, small_ok (by omega), small_ok (by omega), Nat.beq_refl] at h6
        cases h6
      · have := ble_no h4; omega
      · have := blt_no2 h2
        rw [show ((i : Int)).toNat = i by omega] at this; omega
      · simp only [Bool.and_eq_false_iff, decide_eq_false_iff_not] at h2; omega
      · simp only [decide_eq_true_eq] at h
        simp only [Bool.and_eq_false_iff, decide_eq_false_iff_not] at h2; omega
      · simp only [decide_eq_false_iff_not] at h
        refine ⟨.a A fd (i + 1), (⟨⟨hw, ht⟩, ⟨hJ.hwho, hJ.nd, hJ.sub, hJ.re, by omega, fun k hk p hp he hn => ?_⟩, fun e => (by rw [hfd] at e; cases e), fun _ => hnf⟩ : (who ∈ N ∧ to ∈ N) ∧ IsJ N I who to A (i + 1) ∧ (fd = true → Reach N I who to) ∧ (fd = false → to ∉ A)), rel_l (by omega), rfl, rfl, rfl, (.cons _ _ _ _ (.refl _) (.cons _ _ _ _ (.refl _) (.cons _ _ _ _ (.refl _) (.cons _ _ _ _ (.refl _) (.cons _ _ _ _ (.ofEq (by rw [wrap_lt (by omega) (by omega)]; rfl)) .nil))))), .cons _ _ _ _ (st_le N I _ _) (.cons _ _ _ _ (OLe.same _ _ _) .nil)⟩
        rcases Nat.lt_or_ge k i with c | c
        · exact hJ.cl k c p hp he hn
        · obtain rfl : k = i := by omega
          obtain ⟨q, hq1, rfl⟩ := mem_getD hp
          exact hq q (by omega) he hn
end Go.Proofs.YtffcaapbmkaceaaDoor
end
section
namespace Go.Proofs.YtffcaapbmkaceaaDoor
open Ev Go.RowKit
set_option maxRecDepth 100000
set_option linter.unusedVariables false
def long_cf : Nat → Cfg := cfL [mkC 54 [1, 3] [(1, [])], mkC 54 [1, 4] [(1, [])]]
def long_a (N : List ByteArray) (I : List (ByteArray × ByteArray)) : List AV := [stA N I]
noncomputable def long_t (P : Program) (N : List ByteArray) (I : List (ByteArray × ByteArray)) : Br PO :=
(.test (decide ((↑N.length : Int) > 40))
  (.leaf (.fin ⟨Ex.ret, true, [some (AV.v (Value.bool true))], []⟩))
  (.test (decide ((↑I.length : Int) > 60))
    (.leaf (.fin ⟨Ex.ret, true, [some (AV.v (Value.bool true))], []⟩))
    (.leaf (.at 0 (ct P 14 0).1 (ct P 14 0).2 ⟨Ex.normal, true, [some (AV.ptr 65536 0 0), some (AV.v (Value.int IntKind.i64 (0)))], [OS.o (AO.cells [AV.fz (eL N) N.length [TK.str], AV.fz (eL I) I.length [TK.str, TK.str]] 2 65536 true false)]⟩))
  )
)
theorem long_h (N : List ByteArray) (I : List (ByteArray × ByteArray)) : (ev Tryd.prog noX noS 3000 noL 3000 .normal [.c 0 (codeOf Tryd.prog 14)] (params (long_a N I)) Ev.start).map (lookP Tryd.prog (resOf Tryd.prog 14) [] long_cf) = long_t Tryd.prog N I := by kernel_rfl
def long_v0 (N : List ByteArray) (I : List (ByteArray × ByteArray)) (i : Nat) : List AV := [.ptr 65536 0 0, .s (.int .i64 i)]
def long_o0 (N : List ByteArray) (I : List (ByteArray × ByteArray)) (i : Nat) : List AO := [stO N I]
noncomputable def long_t0 (P : Program) (N : List ByteArray) (I : List (ByteArray × ByteArray)) (i : Nat) : Br PO :=
(.test (decide ((↑i : Int) < (↑N.length : Int)))
  (.test (decide (0 ≤ (↑i : Int)) && decide ((↑i : Int) < (↑N.length : Int)))
    (.test (decide ((↑(N.getD (↑i : Int).toNat default).size : Int) > 200))
      (.leaf (.fin ⟨Ex.ret, true, [some (AV.v (Value.bool true))], []⟩))
      (.leaf (.at 0 (ct P 14 0).1 (ct P 14 0).2 ⟨Ex.normal, true, [some (AV.ptr 65536 0 0), some (AV.s (Value.int IntKind.i64 (IntKind.i64.wrap ((↑i : Int) + 1))))], [OS.o (AO.cells [AV.fz (eL N) N.length [TK.str], AV.fz (eL I) I.length [TK.str, TK.str]] 2 0 true false)]⟩))
    )
    .no
  )
  (.leaf (.at 1 (ct P 14 1).1 (ct P 14 1).2 ⟨Ex.normal, true, [some (AV.ptr 65536 0 0), some (AV.v (Value.int IntKind.i64 (0)))], [OS.o (AO.cells [AV.fz (eL N) N.length [TK.str], AV.fz (eL I) I.length [TK.str, TK.str]] 2 0 true false)]⟩))
)
theorem long_h0 (N : List ByteArray) (I : List (ByteArray × ByteArray)) (i : Nat) (j : Nat → Value) : (ev Tryd.prog noX noS 3000 noL 3000 .normal (hd Tryd.prog 14 0) (mkE (long_cf 0) (long_v0 N I i) j) (mkH openB (long_o0 N I i))).map (lookP Tryd.prog (resOf Tryd.prog 14) [] long_cf) = long_t0 Tryd.prog N I i := by kernel_rfl
def long_v1 (N : List ByteArray) (I : List (ByteArray × ByteArray)) (i : Nat) : List AV := [.ptr 65536 0 0, .s (.int .i64 i)]
def long_o1 (N : List ByteArray) (I : List (ByteArray × ByteArray)) (i : Nat) : List AO := [stO N I]
noncomputable def long_t1 (P : Program) (N : List ByteArray) (I : List (ByteArray × ByteArray)) (i : Nat) : Br PO :=
(.test (decide ((↑i : Int) < (↑I.length : Int)))
  (.test (decide (0 ≤ (↑i : Int)) && decide ((↑i : Int) < (↑I.length : Int)))
    (.test (decide ((↑(I.getD (↑i : Int).toNat default).fst.size : Int) > 200))
      (.leaf (.fin ⟨Ex.ret, true, [some (AV.v (Value.bool true))], []⟩))
      (.test (decide (0 ≤ (↑i : Int)) && decide ((↑i : Int) < (↑I.length : Int)))
        (.test (decide ((↑(I.getD (↑i : Int).toNat default).snd.size : Int) > 200))
          (.leaf (.fin ⟨Ex.ret, true, [some (AV.v (Value.bool true))], []⟩))
          (.leaf (.at 1 (ct P 14 1).1 (ct P 14 1).2 ⟨Ex.normal, true, [some (AV.ptr 65536 0 0), some (AV.s (Value.int IntKind.i64 (IntKind.i64.wrap ((↑i : Int) + 1))))], [OS.o (AO.cells [AV.fz (eL N) N.length [TK.str], AV.fz (eL I) I.length [TK.str, TK.str]] 2 0 true false)]⟩))
        )
        .no
      )
    )
    .no
  )
  (.leaf (.fin ⟨Ex.ret, true, [some (AV.v (Value.bool false))], []⟩))
)
theorem long_h1 (N : List ByteArray) (I : List (ByteArray × ByteArray)) (i : Nat) (j : Nat → Value) : (ev Tryd.prog noX noS 3000 noL 3000 .normal (hd Tryd.prog 14 1) (mkE (long_cf 1) (long_v1 N I i) j) (mkH openB (long_o1 N I i))).map (lookP Tryd.prog (resOf Tryd.prog 14) [] long_cf) = long_t1 Tryd.prog N I i := by kernel_rfl

def bigS (s : ByteArray) : Bool := decide (s.size > 200)
def bigP (p : ByteArray × ByteArray) : Bool := bigS p.1 || bigS p.2
def longP (N : List ByteArray) (I : List (ByteArray × ByteArray)) : Bool := decide (N.length > 40) || (decide (I.length > 60) || (N.any bigS || I.any bigP))
inductive LgS where
  | a (i : Nat)
  | b (i : Nat)
def LgS.pc : LgS → Nat
  | .a _ => 0
  | .b _ => 1
def LgJ (N : List ByteArray) (I : List (ByteArray × ByteArray)) : LgS → Prop
  | .a i => (N.length ≤ 40 ∧ I.length ≤ 60) ∧ i ≤ N.length ∧ ∀ k, k < i → bigS (N.getD k default) = false
  | .b i => (N.length ≤ 40 ∧ I.length ≤ 60) ∧ N.any bigS = false ∧ i ≤ I.length ∧ ∀ k, k < i → bigP (I.getD k default) = false
def LgV (N : List ByteArray) (I : List (ByteArray × ByteArray)) : LgS → List AV
  | .a i => long_v0 N I i
  | .b i => long_v1 N I i
def LgO (N : List ByteArray) (I : List (ByteArray × ByteArray)) : LgS → List AO
  | .a i => long_o0 N I i
  | .b i => long_o1 N I i
noncomputable def LgT (P : Program) (N : List ByteArray) (I : List (ByteArray × ByteArray)) : LgS → Br PO
  | .a i => long_t0 P N I i
  | .b i => long_t1 P N I i
def LgM (n m : Nat) : LgS → Nat × Nat
  | .a i => (1, n - i)
  | .b i => (0, m - i)
theorem bigS_int (s : ByteArray) : decide ((s.size : Int) > 200) = bigS s := by
  unfold bigS
  by_cases h : s.size > 200
  · rw [decide_eq_true h, decide_eq_true (by omega)]
  · rw [decide_eq_false h, decide_eq_false (by omega)]
theorem long_ok (N : List ByteArray) (I : List (ByteArray × ByteArray)) : OCalls Tryd.prog 14 (long_a N I) (.s (.bool (longP N I))) [] := by
  refine floyd ev_mix ev_ok noX_open noSO (by kernel_rfl) [] long_cf (LgM N.length I.length) LgS.pc (LgV N I) (LgO N I) (LgJ N I) (LgT _ N I) (long_t _ N I) (long_h N I) (fun s j => by cases s; exact long_h0 N I _ j; exact long_h1 N I _ j) ?_ ?_
  · refine ⟨fun h => ?_, fun h => ⟨fun h2 => ?_, fun h2 => ?_⟩⟩
    · simp only [decide_eq_true_eq] at h
      exact ⟨rfl, (.cons _ _ _ _ (by unfold longP; rw [decide_eq_true (show N.length > 40 by omega)]; exact .vs _) .nil), .nil⟩
    · simp only [decide_eq_true_eq] at h2
      exact ⟨rfl, (.cons _ _ _ _ (by unfold longP; rw [decide_eq_true (show I.length > 60 by omega), Bool.true_or, Bool.or_true]; exact .vs _) .nil), .nil⟩
    · simp only [decide_eq_false_iff_not] at h h2
      exact ⟨.a 0, ⟨⟨by omega, by omega⟩, Nat.zero_le _, fun k hk => absurd hk (Nat.not_lt_zero k)⟩, rfl, rfl, rfl, (.cons _ _ _ _ (.refl _) (.cons _ _ _ _ (.vs _) .nil)), .cons _ _ _ _ (st_le N I _ _) .nil⟩
  · intro s hs
    cases s with
    | a i =>
      obtain ⟨⟨h1, h2⟩, hi, hn⟩ := hs
      refine ⟨fun h => ⟨fun _ => ⟨fun h3 => ?_, fun h3 => ?_⟩, fun h3 => ?_⟩, fun h => ?_⟩
      · simp only [decide_eq_true_eq] at h
        rw [bigS_int] at h3
        exact ⟨rfl, (.cons _ _ _ _ (by unfold longP; rw [any_true (k := i) (by omega) h3, Bool.true_or, Bool.or_true, Bool.or_true]; exact .vs _) .nil), .nil⟩
      · simp only [decide_eq_true_eq] at h
        rw [bigS_int] at h3
        exact ⟨.a (i + 1), ⟨⟨h1, h2⟩, by omega, upto_next hn h3⟩, rel_r (by omega), rfl, rfl, rfl, (.cons _ _ _ _ (.refl _) (.cons _ _ _ _ (.ofEq (by rw [wrap_lt (by omega) (by omega)]; rfl)) .nil)), .cons _ _ _ _ (st_le N I _ _) .nil⟩
      · simp only [decide_eq_true_eq] at h
        simp only [Bool.and_eq_false_iff, decide_eq_false_iff_not] at h3; omega
      · simp only [decide_eq_false_iff_not] at h
        exact ⟨.b 0, ⟨⟨h1, h2⟩, any_false fun k hk => hn k (by omega), Nat.zero_le _, fun k hk => absurd hk (Nat.not_lt_zero k)⟩, rel_l (by omega), rfl, rfl, rfl, (.cons _ _ _ _ (.refl _) (.cons _ _ _ _ (.vs _) .nil)), .cons _ _ _ _ (st_le N I _ _) .nil⟩
    | b i =>
      obtain ⟨⟨h1, h2⟩, hN, hi, hn⟩ := hs
      refine ⟨fun h => ⟨fun _ => ⟨fun h3 => ?_, fun h3 => ⟨fun _ => ⟨fun h4 => ?_, fun h4 => ?_⟩, fun h4 => ?_⟩⟩, fun h3 => ?_⟩, fun h => ?_⟩
      · simp only [decide_eq_true_eq] at h
        rw [bigS_int] at h3
        have hp : bigP (I.getD i default) = true := by unfold bigP; rw [show bigS (I.getD i default).1 = true from h3]; rfl
        exact ⟨rfl, (.cons _ _ _ _ (by unfold longP; rw [any_true (k := i) (by omega) hp, Bool.or_true, Bool.or_true, Bool.or_true]; exact .vs _) .nil), .nil⟩
      · simp only [decide_eq_true_eq] at h
        rw [bigS_int] at h4
        have hp : bigP (I.getD i default) = true := by unfold bigP; rw [show bigS (I.getD i default).2 = true from h4, Bool.or_true]
        exact ⟨rfl, (.cons _ _ _ _ (by unfold longP; rw [any_true (k := i) (by omega) hp, Bool.or_true, Bool.or_true, Bool.or_true]; exact .vs _) .nil), .nil⟩
      · simp only [decide_eq_true_eq] at h
        rw [bigS_int] at h3 h4
        have hp : bigP (I.getD i default) = false := by unfold bigP; rw [show bigS (I.getD i default).1 = false from h3, show bigS (I.getD i default).2 = false from h4]; rfl
        exact ⟨.b (i + 1), ⟨⟨h1, h2⟩, hN, by omega, upto_next hn hp⟩, rel_r (by omega), rfl, rfl, rfl, (.cons _ _ _ _ (.refl _) (.cons _ _ _ _ (.ofEq (by rw [wrap_lt (by omega) (by omega)]; rfl)) .nil)), .cons _ _ _ _ (st_le N I _ _) .nil⟩
      · simp only [decide_eq_true_eq] at h
        simp only [Bool.and_eq_false_iff, decide_eq_false_iff_not] at h4; omega
      · simp only [decide_eq_true_eq] at h
        simp only [Bool.and_eq_false_iff, decide_eq_false_iff_not] at h3; omega
      · simp only [decide_eq_false_iff_not] at h
        refine ⟨rfl, (.cons _ _ _ _ ?_ .nil), .nil⟩
        unfold longP
        rw [decide_eq_false (show ¬ N.length > 40 by omega), decide_eq_false (show ¬ I.length > 60 by omega), hN, any_false fun k hk => hn k (by omega)]; exact .vs _
/- A state, handed over. -/
def stV : AV → Option (((Nat → Nat → D) × Nat) × ((Nat → Nat → D) × Nat))
  | .agg [a, b] => match asL [.str] a, asL [.str, .str] b with
    | some x, some y => some (x, y)
    | _, _ => none
  | _ => none
theorem stV_rel [Fz] {v : AV} {f g : Nat → Nat → D} {n m : Nat} {ρ : Rho} {y : Value} (hgc : Fz.gc = false) (h : stV v = some ((f, n), (g, m))) (r : VRel ρ v y) : VRel ρ (stA (dL _ f n) (dL _ g m)) y := by
  unfold stV at h
  split at h
  · split at h
    · rename_i a b x z ha hb
      cases h
      obtain ⟨ys, e, y1, r1, e1, h1, y2, r2, e2, h2, h3⟩ := r
      exact ⟨ys, e, y1, r1, e1, asL_rel hgc ha h1, y2, r2, e2, asL_rel hgc hb h2, h3⟩
    · cases h
  · cases h
def longX : SumBr := oX 14 fun
  | [v] => match stV v with
    | some ((f, n), (g, m)) => some (.leaf (.s (.bool (longP (dL _ f n) (dL _ g m))), []))
    | none => none
  | _ => none
theorem longX_ok : SumGO Tryd.prog (sumS longX) := oX_ok (by kernel_rfl) fun xs B r h hB => by
  split at h
  · split at h
    · rename_i v f n g m hv
      cases h
      cases hB
      exact (long_ok (dL _ f n) (dL _ g m)).leS fun m ys ⟨y, r, e, h1, h2⟩ => by
        letI : Fz := ⟨m, false⟩
        exact ⟨y, r, e, stV_rel rfl hv h1, h2⟩
    · cases h
  · cases h
def mayX : SumBr := oX 12 fun
  | [v] => match stV v with
    | some ((f, n), (g, m)) => some (.leaf (.s (.bool (mayP (dL _ f n) (dL _ g m))), []))
    | none => none
  | _ => none
theorem mayX_ok : SumGO Tryd.prog (sumS mayX) := oX_ok (by kernel_rfl) fun xs B r h hB => by
  split at h
  · split at h
    · rename_i v f n g m hv
      cases h
      cases hB
      exact (may_ok (dL _ f n) (dL _ g m)).leS fun m ys ⟨y, r, e, h1, h2⟩ => by
        letI : Fz := ⟨m, false⟩
        exact ⟨y, r, e, stV_rel rfl hv h1, h2⟩
    · cases h
  · cases h
noncomputable def isX : SumBr := oX 15 fun
  | [v, a, b] => match stV v, strV a, strV b with
    | some ((f, n), (g, m)), some x, some y => some (.test (Nat.ble n 1000000) (.leaf (.s (.bool (isP (dL _ f n) (dL _ g m) x y)), [])) .no)
    | _, _, _ => none
  | _ => none
theorem isX_ok : SumGO Tryd.prog (sumS isX) := oX_ok (by kernel_rfl) fun xs B r h hB => by
  split at h
  · split at h
    · rename_i v a b f n g m x y hv ha hb
      cases h
      rcases hB with ⟨hn, hB⟩ | ⟨_, hB⟩
      · cases hB
        exact (is_ok (dL _ f n) (dL _ g m) x y (by rw [dL_length]; simpa using hn)).leS fun m ys ⟨y, r, e, h1, ⟨y2, r2, e2, h2, ⟨y3, r3, e3, h3, h4⟩⟩⟩ => by
          letI : Fz := ⟨m, false⟩
          exact ⟨y, r, e, stV_rel rfl hv h1, y2, r2, e2, strV_rel ha h2, y3, r3, e3, strV_rel hb h3, h4⟩
      · exact hB.elim
    · cases h
  · cases h
def awakeS : Sum := plT 13 fun
  | [] => some (.bool true)
  | _ => none
theorem awakeS_ok : SumGO Tryd.prog awakeS := (plT_ok (by kernel_rfl) fun xs v h w => by
  split at h
  · cases h; exact ro_awake w
  · cases h).open
noncomputable def roX : SumBr := orX longX (orX mayX (orX isX (orX slX nameX)))
theorem roX_ok : SumGO Tryd.prog (sumS roX) := orX_open longX_ok (orX_open mayX_ok (orX_open isX_ok (orX_open slX_ok nameX_ok)))
end Go.Proofs.YtffcaapbmkaceaaDoor
end
section
namespace Go.Proofs.YtffcaapbmkaceaaDoor
open Ev Go.RowKit
set_option maxRecDepth 100000
set_option linter.unusedVariables false
def all_cf : Nat → Cfg := cfL [mkC 31 [1, 2, 5, 9, 10, 11] [(2, []), (5, [])]]
def all_a (N : List ByteArray) (I : List (ByteArray × ByteArray)) (who : ByteArray) : List AV := [stA N I, .s (.string who)]
noncomputable def all_t (P : Program) (N : List ByteArray) (I : List (ByteArray × ByteArray)) (who : ByteArray) : Br PO :=
(.leaf (.at 0 (ct P 18 0).1 (ct P 18 0).2 ⟨Ex.normal, true, [some (AV.s (Value.string who)), some (AV.ptr 65536 0 0), some (AV.v (Value.slice none 0 0)), some (AV.fz (eL N) N.length [TK.str]), some (AV.s (Value.int IntKind.i64 (Int.ofNat N.length))), some (AV.v (Value.int IntKind.i64 (0)))], [OS.o (AO.cells [AV.fz (eL N) N.length [TK.str], AV.fz (eL I) I.length [TK.str, TK.str]] 2 65536 true false), OS.nil]⟩))
theorem all_h (N : List ByteArray) (I : List (ByteArray × ByteArray)) (who : ByteArray) : (ev Tryd.prog roX noS 3000 noL 3000 .normal [.c 0 (codeOf Tryd.prog 18)] (params (all_a N I who)) Ev.start).map (lookP Tryd.prog (resOf Tryd.prog 18) [[]] all_cf) = all_t Tryd.prog N I who := by kernel_rfl
def all_v0 (N : List ByteArray) (I : List (ByteArray × ByteArray)) (who : ByteArray) (A : List ByteArray) (i : Nat) : List AV := [.s (.string who), .ptr 65536 0 0, .osl 65537 A.length, .fz (eL N) N.length [.str], .s (.int .i64 N.length), .s (.int .i64 i)]
def all_o0 (N : List ByteArray) (I : List (ByteArray × ByteArray)) (who : ByteArray) (A : List ByteArray) (i : Nat) : List AO := [stO N I, .rows (eL A) A.length [.str]]
noncomputable def all_t0 (P : Program) (N : List ByteArray) (I : List (ByteArray × ByteArray)) (who : ByteArray) (A : List ByteArray) (i : Nat) : Br PO :=
(.test (decide ((↑i : Int) < (↑N.length : Int)))
  (.test (decide (0 ≤ (↑i : Int)) && decide ((↑i : Int) < (↑N.length : Int)))
    (.test (N.length.ble 1000000)
      (.test (isP (dL ByteArray (eL N) N.length) (dL (ByteArray × ByteArray) (eL I) I.length) who (N.getD (↑i : Int).toNat default))
        (.test (A.length.ble A.length)
          (.test (!decide (idxS (dL ByteArray (eL A) A.length) (N.getD (↑i : Int).toNat default) ≥ 0))
            (.test (A.length.beq A.length && (true && (small (1 + A.length) && small (Tryd.prog.types[9].bytes * (1 + A.length)))))
              (.leaf (.at 0 (ct P 18 0).1 (ct P 18 0).2 ⟨Ex.normal, true, [some (AV.s (Value.string who)), some (AV.ptr 65536 0 0), some (AV.osl 65537 (A.length + 1)), some (AV.fz (eL N) N.length [TK.str]), some (AV.s (Value.int IntKind.i64 (Int.ofNat N.length))), some (AV.s (Value.int IntKind.i64 (IntKind.i64.wrap ((↑i : Int) + 1))))], [OS.o (AO.cells [AV.fz (eL N) N.length [TK.str], AV.fz (eL I) I.length [TK.str, TK.str]] 2 0 true false), OS.o (AO.rows (catD (eL A) A.length (listD [D.v (Value.string (N.getD (↑i : Int).toNat default))] [TK.str].length)) (A.length + 1) [TK.str])]⟩))
              .no
            )
            (.leaf (.at 0 (ct P 18 0).1 (ct P 18 0).2 ⟨Ex.normal, true, [some (AV.s (Value.string who)), some (AV.ptr 65536 0 0), some (AV.osl 65537 A.length), some (AV.fz (eL N) N.length [TK.str]), some (AV.s (Value.int IntKind.i64 (Int.ofNat N.length))), some (AV.s (Value.int IntKind.i64 (IntKind.i64.wrap ((↑i : Int) + 1))))], [OS.o (AO.cells [AV.fz (eL N) N.length [TK.str], AV.fz (eL I) I.length [TK.str, TK.str]] 2 0 true false), OS.o (AO.rows (eL A) A.length [TK.str])]⟩))
          )
          .no
        )
        (.leaf (.at 0 (ct P 18 0).1 (ct P 18 0).2 ⟨Ex.normal, true, [some (AV.s (Value.string who)), some (AV.ptr 65536 0 0), some (AV.osl 65537 A.length), some (AV.fz (eL N) N.length [TK.str]), some (AV.s (Value.int IntKind.i64 (Int.ofNat N.length))), some (AV.s (Value.int IntKind.i64 (IntKind.i64.wrap ((↑i : Int) + 1))))], [OS.o (AO.cells [AV.fz (eL N) N.length [TK.str], AV.fz (eL I) I.length [TK.str, TK.str]] 2 0 true false), OS.o (AO.rows (eL A) A.length [TK.str])]⟩))
      )
      .no
    )
    .no
  )
  (.leaf (.fin ⟨Ex.ret, true, [some (AV.osl 65536 A.length)], [OS.o (AO.rows (eL A) A.length [TK.str])]⟩))
)
theorem all_h0 (N : List ByteArray) (I : List (ByteArray × ByteArray)) (who : ByteArray) (A : List ByteArray) (i : Nat) (j : Nat → Value) : (ev Tryd.prog roX noS 3000 noL 3000 .normal (hd Tryd.prog 18 0) (mkE (all_cf 0) (all_v0 N I who A i) j) (mkH openB (all_o0 N I who A i))).map (lookP Tryd.prog (resOf Tryd.prog 18) [[]] all_cf) = all_t0 Tryd.prog N I who A i := by kernel_rfl

/-- One name more is looked at. -/
noncomputable def allF (N : List ByteArray) (I : List (ByteArray × ByteArray)) (who : ByteArray) (out : List ByteArray) (n : ByteArray) : List ByteArray := bif isP N I who n && !inL n out then out ++ [n] else out
/-- All that a role is. -/
noncomputable def allP (N : List ByteArray) (I : List (ByteArray × ByteArray)) (who : ByteArray) : List ByteArray := N.foldl (allF N I who) []
theorem allF_len (N : List ByteArray) (I : List (ByteArray × ByteArray)) (who : ByteArray) : ∀ (M out : List ByteArray), (M.foldl (allF N I who) out).length ≤ out.length + M.length
  | [], out => Nat.le_refl _
  | n :: M, out => by
    have ih := allF_len N I who M (allF N I who out n)
    have : (allF N I who out n).length ≤ out.length + 1 := by
      unfold allF
      cases isP N I who n && !inL n out <;> simp
    simp only [List.foldl_cons, List.length_cons]; omega
theorem all_ok (N : List ByteArray) (I : List (ByteArray × ByteArray)) (who : ByteArray) (hN : N.length ≤ 1000000) : OCalls Tryd.prog 18 (all_a N I who) (.osl 65536 (allP N I who).length) [.rows (eL (allP N I who)) (allP N I who).length [.str]] := by
  refine floyd ev_mix ev_ok roX_ok noSO (by kernel_rfl) [[]] all_cf (fun i => N.length - i) (fun _ => 0) (fun i => all_v0 N I who ((N.take i).foldl (allF N I who) []) i) (fun i => all_o0 N I who ((N.take i).foldl (allF N I who) []) i) (fun i => i ≤ N.length) (fun i => all_t0 _ N I who ((N.take i).foldl (allF N I who) []) i) (all_t _ N I who) (all_h N I who) (fun i j => all_h0 N I who _ i j) ?_ ?_
  · exact ⟨0, Nat.zero_le _, rfl, rfl, rfl, (.cons _ _ _ _ (.refl _) (.cons _ _ _ _ (.refl _) (.cons _ _ _ _ (.nilv _) (.cons _ _ _ _ (.refl _) (.cons _ _ _ _ (.refl _) (.cons _ _ _ _ (.vs _) .nil)))))), .cons _ _ _ _ (st_le N I _ _) (.cons _ _ _ _ (.nil _ _) .nil)⟩
  · intro i hi
    obtain ⟨A, hA⟩ : ∃ A, A = (N.take i).foldl (allF N I who) [] := ⟨_, rfl⟩
    have hlen : A.length ≤ i := by rw [hA]; have := allF_len N I who (N.take i) []; simp at this; omega
    have hnext : i < N.length → (N.take (i + 1)).foldl (allF N I who) [] = allF N I who A (N.getD i default) := fun h => by rw [take_snoc h, List.foldl_append, ← hA]; rfl
    rw [← hA]
    unfold all_t0
    rw [dL_eL, dL_eL, dL_eL, idxS_ge]
    refine ⟨fun h => ⟨fun _ => ⟨fun _ => ⟨fun h1 => ⟨fun _ => ⟨fun h2 => ⟨fun _ => ?_, fun h3 => ?_⟩, fun h2 => ?_⟩, fun h2 => ?_⟩, fun h1 => ?_⟩, fun h1 => ?_⟩, fun h1 => ?_⟩, fun h => ?_⟩
    · simp only [decide_eq_true_eq] at h
      have hn := hnext (by omega)
      have ha : allF N I who A (N.getD i default) = A ++ [N.getD i default] := by unfold allF; rw [show isP N I who (N.getD i default) = true from h1, show (!inL (N.getD i default) A) = true from h2]; rfl
      rw [ha] at hn
      have hl : (A ++ [N.getD i default]).length = A.length + 1 := by simp
      refine ⟨i + 1, by omega, rel_nat (by omega), rfl, rfl, ?_⟩
      rw [hn]
      exact ⟨rfl, (.cons _ _ _ _ (.refl _) (.cons _ _ _ _ (.refl _) (.cons _ _ _ _ (.ofEq (by rw [hl])) (.cons _ _ _ _ (.refl _) (.cons _ _ _ _ (.refl _) (.cons _ _ _ _ (.ofEq (by rw [wrap_lt (by omega) (by omega)]; rfl)) .nil)))))), .cons _ _ _ _ (st_le N I _ _) (.cons _ _ _ _ (OLe.snoc (x := N.getD i default) fun c hc => by have : c = 0 := (by simp [Rec.ks] at hc; omega); subst this; rfl) .nil)⟩
    · simp only [decide_eq_true_eq] at h
      have hB : Tryd.prog.types[9].bytes = 16 := by kernel_rfl
      rw [hB, small_ok (by omega), small_ok (by omega), Nat.beq_refl] at h3
      cases h3
    · simp only [decide_eq_true_eq] at h
      have hn := hnext (by omega)
      have ha : allF N I who A (N.getD i default) = A := by unfold allF; rw [show (!inL (N.getD i default) A) = false from h2, Bool.and_false]; rfl
      rw [ha] at hn
      refine ⟨i + 1, by omega, rel_nat (by omega), rfl, rfl, ?_⟩
      rw [hn]
      exact ⟨rfl, (.cons _ _ _ _ (.refl _) (.cons _ _ _ _ (.refl _) (.cons _ _ _ _ (.refl _) (.cons _ _ _ _ (.refl _) (.cons _ _ _ _ (.refl _) (.cons _ _ _ _ (.ofEq (by rw [wrap_lt (by omega) (by omega)]; rfl)) .nil)))))), .cons _ _ _ _ (st_le N I _ _) (.cons _ _ _ _ (OLe.same _ _ _) .nil)⟩
    · have := ble_no h2; omega
    · simp only [decide_eq_true_eq] at h
      have hn := hnext (by omega)
      have ha : allF N I who A (N.getD i default) = A := by unfold allF; rw [show isP N I who (N.getD i default) = false from h1, Bool.false_and]; rfl
      rw [ha] at hn
      refine ⟨i + 1, by omega, rel_nat (by omega), rfl, rfl, ?_⟩
      rw [hn]
      exact ⟨rfl, (.cons _ _ _ _ (.refl _) (.cons _ _ _ _ (.refl _) (.cons _ _ _ _ (.refl _) (.cons _ _ _ _ (.refl _) (.cons _ _ _ _ (.refl _) (.cons _ _ _ _ (.ofEq (by rw [wrap_lt (by omega) (by omega)]; rfl)) .nil)))))), .cons _ _ _ _ (st_le N I _ _) (.cons _ _ _ _ (OLe.same _ _ _) .nil)⟩
    · have := ble_no h1; omega
    · simp only [decide_eq_true_eq] at h
      simp only [Bool.and_eq_false_iff, decide_eq_false_iff_not] at h1; omega
    · simp only [decide_eq_false_iff_not] at h
      have he : A = allP N I who := by rw [hA, List.take_of_length_le (by omega)]; rfl
      rw [he]
      exact ⟨rfl, (.cons _ _ _ _ (.refl _) .nil), .cons _ _ _ _ (OLe.same _ _ _) .nil⟩
noncomputable def allX : SumBr := oX 18 fun
  | [v, a] => match stV v, strV a with
    | some ((f, n), (g, m)), some x => some (.test (Nat.ble n 1000000) (.leaf (.osl 65536 (allP (dL _ f n) (dL _ g m) x).length, [.rows (eL (allP (dL _ f n) (dL _ g m) x)) (allP (dL _ f n) (dL _ g m) x).length [.str]])) .no)
    | _, _ => none
  | _ => none
theorem allX_ok : SumGO Tryd.prog (sumS allX) := oX_ok (by kernel_rfl) fun xs B r h hB => by
  split at h
  · split at h
    · rename_i v a f n g m x hv ha
      cases h
      rcases hB with ⟨hn, hB⟩ | ⟨_, hB⟩
      · cases hB
        exact (all_ok (dL _ f n) (dL _ g m) x (by rw [dL_length]; simpa using hn)).leS fun m ys ⟨y, r, e, h1, ⟨y2, r2, e2, h2, h3⟩⟩ => by
          letI : Fz := ⟨m, false⟩
          exact ⟨y, r, e, stV_rel rfl hv h1, y2, r2, e2, strV_rel ha h2, h3⟩
      · exact hB.elim
    · cases h
  · cases h
def texts_cf : Nat → Cfg := cfL [mkC 26 [0, 1, 5] []]
def texts_a (L M : List ByteArray) : List AV := [.fz (eL L) L.length [.str], .fz (eL M) M.length [.str]]
noncomputable def texts_t (P : Program) (L M : List ByteArray) : Br PO :=
(.test ((↑L.length : Int) != (↑M.length : Int))
  (.leaf (.fin ⟨Ex.ret, true, [some (AV.v (Value.bool false))], []⟩))
  (.leaf (.at 0 (ct P 17 0).1 (ct P 17 0).2 ⟨Ex.normal, true, [some (AV.fz (eL L) L.length [TK.str]), some (AV.fz (eL M) M.length [TK.str]), some (AV.v (Value.int IntKind.i64 (0)))], []⟩))
)
theorem texts_h (L M : List ByteArray) : (ev Tryd.prog noX noS 3000 noL 3000 .normal [.c 0 (codeOf Tryd.prog 17)] (params (texts_a L M)) Ev.start).map (lookP Tryd.prog (resOf Tryd.prog 17) [] texts_cf) = texts_t Tryd.prog L M := by kernel_rfl
def texts_v0 (L M : List ByteArray) (i : Nat) : List AV := [.fz (eL L) L.length [.str], .fz (eL M) M.length [.str], .s (.int .i64 i)]
def texts_o0 (L M : List ByteArray) (i : Nat) : List AO := []
noncomputable def texts_t0 (P : Program) (L M : List ByteArray) (i : Nat) : Br PO :=
(.test (decide ((↑i : Int) < (↑L.length : Int)))
  (.test (decide (0 ≤ (↑i : Int)) && decide ((↑i : Int) < (↑L.length : Int)))
    (.test (decide (0 ≤ (↑i : Int)) && decide ((↑i : Int) < (↑M.length : Int)))
      (.test (!(L.getD (↑i : Int).toNat default).toList == (M.getD (↑i : Int).toNat default).toList)
        (.leaf (.fin ⟨Ex.ret, true, [some (AV.v (Value.bool false))], []⟩))
        (.leaf (.at 0 (ct P 17 0).1 (ct P 17 0).2 ⟨Ex.normal, true, [some (AV.fz (eL L) L.length [TK.str]), some (AV.fz (eL M) M.length [TK.str]), some (AV.s (Value.int IntKind.i64 (IntKind.i64.wrap ((↑i : Int) + 1))))], []⟩))
      )
      .no
    )
    .no
  )
  (.leaf (.fin ⟨Ex.ret, true, [some (AV.v (Value.bool true))], []⟩))
)
theorem texts_h0 (L M : List ByteArray) (i : Nat) (j : Nat → Value) : (ev Tryd.prog noX noS 3000 noL 3000 .normal (hd Tryd.prog 17 0) (mkE (texts_cf 0) (texts_v0 L M i) j) (mkH openB (texts_o0 L M i))).map (lookP Tryd.prog (resOf Tryd.prog 17) [] texts_cf) = texts_t0 Tryd.prog L M i := by kernel_rfl

theorem texts_ok (L M : List ByteArray) : OCalls Tryd.prog 17 (texts_a L M) (.s (.bool (decide (L = M)))) [] := OCalls.bnd fun hb =>
  floyd ev_mix ev_ok noX_open noSO (by kernel_rfl) [] texts_cf (fun i => L.length - i) (fun _ => 0) (texts_v0 L M) (texts_o0 L M) (fun i => L.length = M.length ∧ i ≤ L.length ∧ ∀ k, k < i → L.getD k default = M.getD k default) (texts_t0 _ L M) (texts_t _ L M) (texts_h L M) (texts_h0 L M)
    (by
      refine ⟨fun h => ?_, fun h => ?_⟩
      · have hne : L ≠ M := fun e => by subst e; simp at h
        exact ⟨rfl, (.cons _ _ _ _ (by rw [decide_eq_false hne]; exact .vs _) .nil), .nil⟩
      · have hl : L.length = M.length := by simp at h; omega
        exact ⟨0, ⟨hl, Nat.zero_le _, fun k h => absurd h (Nat.not_lt_zero k)⟩, rfl, rfl, rfl, (.cons _ _ _ _ (.refl _) (.cons _ _ _ _ (.refl _) (.cons _ _ _ _ (.vs _) .nil))), .nil⟩)
    (by
      intro i ⟨hl, hi, hn⟩
      have hL : L.length ≤ 9223372036854775807 := hb.1
      refine ⟨fun h => ⟨fun _ => ⟨fun _ => ⟨fun h2 => ?_, fun h2 => ?_⟩, fun h2 => ?_⟩, fun h2 => ?_⟩, fun h => ?_⟩
      · simp only [decide_eq_true_eq] at h
        rw [ba_eq, Bool.not_eq_true', decide_eq_false_iff_not] at h2
        have hne : L ≠ M := fun e => by subst e; exact h2 rfl
        exact ⟨rfl, (.cons _ _ _ _ (by rw [decide_eq_false hne]; exact .vs _) .nil), .nil⟩
      · simp only [decide_eq_true_eq] at h
        rw [ba_eq, Bool.not_eq_false', decide_eq_true_eq] at h2
        exact ⟨i + 1, ⟨hl, by omega, upto_next hn h2⟩, rel_nat (by omega), rfl, rfl, rfl, (.cons _ _ _ _ (.refl _) (.cons _ _ _ _ (.refl _) (.cons _ _ _ _ (.ofEq (by rw [wrap_lt (by omega) (by omega)]; rfl)) .nil))), .nil⟩
      · simp at h h2; omega
      · simp at h h2; omega
      · simp only [decide_eq_false_iff_not] at h
        have he : L = M := eq_getD hl fun k hk => hn k (by omega)
        exact ⟨rfl, (.cons _ _ _ _ (by rw [decide_eq_true he]; exact .vs _) .nil), .nil⟩)
def textsX : SumBr := oX 17 fun
  | [a, b] => match asL [.str] a, asL [.str] b with
    | some (f, n), some (g, m) => some (.leaf (.s (.bool (decide ((dL ByteArray f n) = dL _ g m))), []))
    | _, _ => none
  | _ => none
theorem textsX_ok : SumGO Tryd.prog (sumS textsX) := oX_ok (by kernel_rfl) fun xs B r h hB => by
  split at h
  · split at h
    · rename_i a b f n g k ha hb
      cases h
      cases hB
      exact (texts_ok (dL _ f n) (dL _ g k)).leS fun m ys ⟨y, r, e, h1, ⟨y2, r2, e2, h2, h3⟩⟩ => by
        letI : Fz := ⟨m, false⟩
        exact ⟨y, r, e, asL_rel rfl ha h1, y2, r2, e2, asL_rel rfl hb h2, h3⟩
    · cases h
  · cases h
noncomputable def roX2 : SumBr := orX allX (orX textsX roX)
theorem roX2_ok : SumGO Tryd.prog (sumS roX2) := orX_open allX_ok (orX_open textsX_ok roX_ok)
end Go.Proofs.YtffcaapbmkaceaaDoor
end
