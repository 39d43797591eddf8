/- What is to be known of the program. No condition. -/
import Derived.Test.YtffcaapbmkaceaaDoorMg10
import Derived.Test.YtffcaapbmkaceaaDoorProg
namespace Go.Proofs.YtffcaapbmkaceaaDoor
open Ev
theorem ev_mix : Tryd.prog.follows .mixedOrders = true := by kernel_rfl
theorem ev_ok : Tryd.prog.funcs.all okFunc = true := by kernel_rfl
end Go.Proofs.YtffcaapbmkaceaaDoor
