/- covenantlaw08.awake comes to true. No condition. -/
import Derived.Test.YtengccmjlaejfaaDoorMg15
import Derived.Test.YtengccmjlaejfaaDoorMg12
namespace Go.Proofs.YtengccmjlaejfaaDoor
open Ev
set_option maxRecDepth 100000
theorem ru_awake (w : World) : Calls Tryd.prog 11 #[] w fun e w' => e = .returned (.bool true) ∧ Fr noB w w' :=
  calls_true ev_mix ev_ok nameS_ok 100000 (by kernel_rfl) w
def awakeS : Sum := plT 11 fun
  | [] => some (.bool true)
  | _ => none
theorem awakeS_ok : SumGO Tryd.prog awakeS := (plT_ok (by kernel_rfl) fun xs v h w => by
  split at h
  · cases h; exact ru_awake w
  · cases h).open
end Go.Proofs.YtengccmjlaejfaaDoor
