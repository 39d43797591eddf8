/- The library's search for a byte in a string, as a contract and as a summary of the evaluator. No condition. -/
import Derived.Test.YtengccmjlaejfaaDoorMg9
import Derived.Test.YtengccmjlaejfaaDoorProg
import Derived.WalkKit
import Derived.Lib.Bytealg
import Derived.Test.YtengccmjlaejfaaDoorMg11
import Derived.Test.YtengccmjlaejfaaDoorMix
section
namespace Go.Proofs.YtengccmjlaejfaaDoor
open Go.RowKit Ev

/-- The first place of a byte, by one pass. -/
def seekB : List UInt8 → UInt8 → Nat → Int
  | [], _, _ => -1
  | b :: l, c, n => bif b == c then (n : Int) else seekB l c (n + 1)
theorem seekB_eq (c : UInt8) : ∀ (l : List UInt8) (n : Nat), seekB l c n = if Lib.indexByte l c == -1 then -1 else Lib.indexByte l c + n
  | [], n => rfl
  | b :: l, n => by
    unfold seekB Lib.indexByte
    cases hb : b == c with
    | true =>
      have : ((0 : Int) == -1) = false := rfl
      simp [this]
    | false =>
      simp only [cond_false, Bool.false_eq_true, if_false]
      rw [seekB_eq c l (n + 1)]
      have hg := Lib.indexByte_ge l c
      by_cases hi : Lib.indexByte l c = -1
      · simp [hi]
      · have h1 : (Lib.indexByte l c == -1) = false := by simpa using hi
        have h2 : (Lib.indexByte l c + 1 == -1) = false := by simp; omega
        simp only [h1, h2, Bool.false_eq_true, if_false]
        push_cast
        omega
theorem seekB_zero (l : List UInt8) (c : UInt8) : seekB l c 0 = Lib.indexByte l c := by
  rw [seekB_eq]
  split
  · rename_i h; simpa using (by simpa using h : Lib.indexByte l c = -1).symm
  · simp

set_option maxHeartbeats 1000000 in
set_option maxRecDepth 100000 in
theorem seek_any (s : ByteArray) (c : Int) (w : World) :
    Calls Tryd.prog 72 #[.string s, .int .u8 c] w fun e w' => e = .returned (.int .i64 (seekB s.data.toList c.toNat.toUInt8 0)) ∧ w = w' := by
  rw [seekB_zero]
  go_enter Tryd.func72, Tryd.ntmps72
  go_wp2
  rw [run_callFunc_extern Tryd.func88 (by kernel_rfl) (by kernel_rfl) (by kernel_rfl) (e := Extern.BytealgIndexByte.indexByte) (by kernel_rfl), Lib.run_indexByteString]
  simp only [Result.andThen]
  rw [Oper.upon_value]
  go_wp2
  go_ret
  exact ⟨rfl, rfl⟩

def seekS : Sum := plS 72 fun
  | [.string a, .int .u8 c] => some (.int .i64 (seekB a.data.toList c.toNat.toUInt8 0))
  | _ => none
theorem seekS_ok : SumG Tryd.prog seekS := plS_ok (by kernel_rfl) fun xs v h w => by
  split at h
  · cases h; exact (seek_any _ _ w).mono fun e w' ⟨h1, h2⟩ => ⟨h1, h2 ▸ Fr.refl _ _⟩
  · cases h
end Go.Proofs.YtengccmjlaejfaaDoor
end
section
namespace Go.Proofs.YtengccmjlaejfaaDoor
open Ev
def nameT : List (ByteArray × Bool) := [(⟨#[97]⟩, true), (⟨#[97, 49]⟩, true), (⟨#[97, 95, 98]⟩, true), (⟨#[97, 98, 99, 100, 101, 102, 103, 104, 105, 106, 107, 108, 109, 110, 111, 112, 113, 114, 115, 116, 117, 118, 119, 120, 121, 122, 48, 49, 50, 51, 52, 53]⟩, true), (⟨#[116]⟩, true), (⟨#[117]⟩, true), (⟨#[102]⟩, true), (⟨#[110]⟩, true), (⟨#[107]⟩, true), (⟨#[112]⟩, true), (⟨#[115]⟩, true), (⟨#[118]⟩, true), (⟨#[98]⟩, true), (⟨#[99]⟩, true), (⟨#[114, 111, 111, 116]⟩, true), (⟨#[]⟩, false), (⟨#[65]⟩, false), (⟨#[49, 97]⟩, false), (⟨#[95, 97]⟩, false), (⟨#[97, 45, 98]⟩, false), (⟨#[97, 32, 98]⟩, false), (⟨#[0, 0, 0, 0, 0, 0, 0, 0, 0, 0, 0, 0, 0, 0, 0, 0, 0, 0, 0, 0, 0, 0, 0, 0, 0, 0, 0, 0, 0, 0, 0, 0, 0]⟩, false), (⟨#[97, 195, 164]⟩, false), (⟨#[84]⟩, false), (⟨#[88]⟩, false), (⟨#[70]⟩, false)]
set_option maxRecDepth 100000
theorem nameT_ok : (nameT.all fun x => isB x.2 ((sm Tryd.prog seekS 100000).call 7 [.v (.string x.1)] ⟨.leaf, 0, []⟩)) = true := by kernel_rfl
def nameS : Sum := orS (tbS 7 nameT) seekS
theorem nameS_ok : SumG Tryd.prog nameS := orS_ok (tbS_ok ev_mix ev_ok seekS_ok (by kernel_rfl) 100000 nameT_ok) seekS_ok
end Go.Proofs.YtengccmjlaejfaaDoor
end
