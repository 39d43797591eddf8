/- What package rule tells of the names of the examples of chapter 8. No condition. -/
import Derived.Test.YtengccmjlaejfaaDoorEvM2
import Derived.Test.YtengccmjlaejfaaDoorSix
namespace Go.Proofs.YtengccmjlaejfaaDoor
open Ev
theorem ev_mix : Tryd.prog.follows .mixedOrders = true := by kernel_rfl
theorem ev_ok : Tryd.prog.funcs.all okFunc = true := by kernel_rfl
def nameT : List (ByteArray × Bool) := [(⟨#[97]⟩, true), (⟨#[97, 49]⟩, true), (⟨#[97, 95, 98]⟩, true), (⟨#[97, 98, 99, 100, 101, 102, 103, 104, 105, 106, 107, 108, 109, 110, 111, 112, 113, 114, 115, 116, 117, 118, 119, 120, 121, 122, 48, 49, 50, 51, 52, 53]⟩, true), (⟨#[116]⟩, true), (⟨#[117]⟩, true), (⟨#[102]⟩, true), (⟨#[110]⟩, true), (⟨#[107]⟩, true), (⟨#[112]⟩, true), (⟨#[115]⟩, true), (⟨#[118]⟩, true), (⟨#[98]⟩, true), (⟨#[99]⟩, true), (⟨#[114, 111, 111, 116]⟩, true), (⟨#[]⟩, false), (⟨#[65]⟩, false), (⟨#[49, 97]⟩, false), (⟨#[95, 97]⟩, false), (⟨#[97, 45, 98]⟩, false), (⟨#[97, 32, 98]⟩, false), (⟨#[0, 0, 0, 0, 0, 0, 0, 0, 0, 0, 0, 0, 0, 0, 0, 0, 0, 0, 0, 0, 0, 0, 0, 0, 0, 0, 0, 0, 0, 0, 0, 0, 0]⟩, false), (⟨#[97, 195, 164]⟩, false), (⟨#[84]⟩, false), (⟨#[88]⟩, false), (⟨#[70]⟩, false)]
set_option maxRecDepth 100000
theorem nameT_ok : (nameT.all fun x => isB x.2 ((sm Tryd.prog seekS 100000).call 7 [.v (.string x.1)] ⟨.leaf, 0, []⟩)) = true := by kernel_rfl
def nameS : Sum := orS (tbS 7 nameT) seekS
theorem nameS_ok : SumG Tryd.prog nameS := orS_ok (tbS_ok ev_mix ev_ok seekS_ok (by kernel_rfl) 100000 nameT_ok) seekS_ok
end Go.Proofs.YtengccmjlaejfaaDoor
