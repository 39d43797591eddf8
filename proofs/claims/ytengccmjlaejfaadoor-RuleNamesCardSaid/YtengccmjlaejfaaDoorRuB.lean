/- covenantlaw08.RuleNames comes to true. No condition. -/
import Derived.Test.YtengccmjlaejfaaDoorRuN
namespace Go.Proofs.YtengccmjlaejfaaDoor
open Ev
set_option maxRecDepth 100000
theorem ru_names (w : World) : Calls Tryd.prog 3 #[] w fun e w' => e = .returned (.bool true) ∧ Fr noB w w' :=
  calls_true ev_mix ev_ok nameS_ok 100000 (by kernel_rfl) w
end Go.Proofs.YtengccmjlaejfaaDoor
