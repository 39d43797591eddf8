/- What is to be known of the program. No condition. -/
import Derived.Test.YtengccmjlaejfaaDoorMg11
import Derived.Test.YtengccmjlaejfaaDoorProg
namespace Go.Proofs.YtengccmjlaejfaaDoor
open Ev
theorem ev_mix : Tryd.prog.follows .mixedOrders = true := by kernel_rfl
theorem ev_ok : Tryd.prog.funcs.all okFunc = true := by kernel_rfl
end Go.Proofs.YtengccmjlaejfaaDoor
