/- The closed statement of chapter 4, and its examples, by the evaluator. No condition. -/
import Derived.Test.YtcncjghcnofioaaEvS
import Derived.Test.YtcncjghcnofioaaProg
namespace Go.Proofs.Ytcncjghcnofioaa
open Ev
theorem sp_mix : Try.prog.follows .mixedOrders = true := by kernel_rfl
theorem sp_ok : Try.prog.funcs.all okFunc = true := by kernel_rfl
set_option maxRecDepth 100000 in
theorem spanAwake_walk (w : World) : Calls Try.prog 46 #[] w fun e w' => e = .returned (.bool true) ∧ Fr noB w w' :=
  calls_true sp_mix sp_ok noS_ok 100000 (by kernel_rfl) w
set_option maxRecDepth 100000 in
theorem spanNames_walk (w : World) : Calls Try.prog 12 #[] w fun e w' => e = .returned (.bool true) ∧ Fr noB w w' :=
  calls_true sp_mix sp_ok noS_ok 100000 (by kernel_rfl) w
end Go.Proofs.Ytcncjghcnofioaa
