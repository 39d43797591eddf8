/- The closed statement of chapter 2, and its examples, by the evaluator. No condition. -/
import Derived.Test.YtcncjghcnofioaaEvS
import Derived.Test.YtcncjghcnofioaaOrd
namespace Go.Proofs.Ytcncjghcnofioaa
open Ev
theorem ev_mix : Try.prog.follows .mixedOrders = true := by kernel_rfl
theorem ev_ok : Try.prog.funcs.all okFunc = true := by kernel_rfl
def cmpS : Sum := plS 95 fun
  | [.string a, .string b] => some (.int .i64 (Lib.compareBytes a.data.toList b.data.toList))
  | _ => none
theorem cmpS_ok : SumG Try.prog cmpS := plS_ok (by kernel_rfl) fun xs v h w => by
  split at h
  · cases h; exact (scmp_any _ _ w).mono fun e w' ⟨h1, h2⟩ => ⟨h1, h2 ▸ Fr.refl _ _⟩
  · cases h
set_option maxRecDepth 100000 in
theorem logicNames_walk (w : World) : Calls Try.prog 6 #[] w fun e w' => e = .returned (.bool true) ∧ Fr noB w w' :=
  calls_true ev_mix ev_ok cmpS_ok 100000 (by kernel_rfl) w
end Go.Proofs.Ytcncjghcnofioaa
