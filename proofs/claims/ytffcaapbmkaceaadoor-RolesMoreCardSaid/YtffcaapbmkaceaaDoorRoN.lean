/- What package rule tells of the names of the examples of chapter 18. No condition. -/
import Derived.Test.YtffcaapbmkaceaaDoorEvM2
import Derived.Test.YtffcaapbmkaceaaDoorMix
import Derived.Test.YtffcaapbmkaceaaDoorSix
namespace Go.Proofs.YtffcaapbmkaceaaDoor
open Ev
def nameT : List (ByteArray × Bool) := [(⟨#[114, 111, 111, 116]⟩, true), (⟨#[97, 110, 110]⟩, true), (⟨#[115, 116, 97, 102, 102]⟩, true), (⟨#[114, 97]⟩, true), (⟨#[114, 98]⟩, true), (⟨#[114, 99]⟩, true), (⟨#[114, 100]⟩, true), (⟨#[114, 101]⟩, true), (⟨#[114, 102]⟩, true), (⟨#[114, 103]⟩, true), (⟨#[114, 104]⟩, true), (⟨#[114, 105]⟩, true), (⟨#[114, 106]⟩, true), (⟨#[114, 107]⟩, true), (⟨#[114, 108]⟩, true), (⟨#[114, 109]⟩, true), (⟨#[114, 110]⟩, true), (⟨#[114, 111]⟩, true), (⟨#[111, 110, 101, 95, 109, 111, 114, 101]⟩, true), (⟨#[97]⟩, true), (⟨#[88]⟩, false)]
set_option maxRecDepth 100000
theorem nameT_ok : (nameT.all fun x => isB x.2 ((sm Tryd.prog seekS 100000).call 30 [.v (.string x.1)] ⟨.leaf, 0, []⟩)) = true := by kernel_rfl
def nameS : Sum := orS (tbS 30 nameT) seekS
theorem nameS_ok : SumG Tryd.prog nameS := orS_ok (tbS_ok ev_mix ev_ok seekS_ok (by kernel_rfl) 100000 nameT_ok) seekS_ok
end Go.Proofs.YtffcaapbmkaceaaDoor
