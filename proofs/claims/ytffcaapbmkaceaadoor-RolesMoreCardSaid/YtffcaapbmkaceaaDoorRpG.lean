/- The search for a byte, and the cuts, as summaries of what is not known. No condition. -/
import Derived.Test.YtffcaapbmkaceaaDoorRpF
import Derived.Test.YtffcaapbmkaceaaDoorSix
namespace Go.Proofs.YtffcaapbmkaceaaDoor
open Go.RowKit Ev
def seekT : Sum := plT 63 fun
  | [.string a, .int .u8 c] => some (.int .i64 (seekB a.data.toList c.toNat.toUInt8 0))
  | _ => none
theorem seekT_ok : SumGO Tryd.prog seekT := (plT_ok (by kernel_rfl) fun xs v h w => by
  split at h
  · cases h; exact (seek_any _ _ w).mono fun e w' ⟨h1, h2⟩ => ⟨h1, h2 ▸ Fr.refl _ _⟩
  · cases h).open
def trimX : SumBr := orX trrX trlX
theorem trimX_ok : SumGO Tryd.prog (sumS trimX) := orX_open trrX_ok trlX_ok
end Go.Proofs.YtffcaapbmkaceaaDoor
