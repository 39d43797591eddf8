/- covenantlaw18.awake comes to true. No condition. -/
import Derived.Test.YtffcaapbmkaceaaDoorRoN
namespace Go.Proofs.YtffcaapbmkaceaaDoor
open Ev
set_option maxRecDepth 100000
theorem ro_awake (w : World) : Calls Tryd.prog 13 #[] w fun e w' => e = .returned (.bool true) ∧ Fr noB w w' :=
  calls_true ev_mix ev_ok nameS_ok 100000 (by kernel_rfl) w
end Go.Proofs.YtffcaapbmkaceaaDoor
