/- What is to be known of the program. No condition. -/
import Derived.Test.YtengccmjlaejfaaMg15
import Derived.Test.YtengccmjlaejfaaProg
namespace Go.Proofs.Ytengccmjlaejfaa
open Ev
theorem ev_mix : Try.prog.follows .mixedOrders = true := by kernel_rfl
theorem ev_ok : Try.prog.funcs.all okFunc = true := by kernel_rfl
end Go.Proofs.Ytengccmjlaejfaa
