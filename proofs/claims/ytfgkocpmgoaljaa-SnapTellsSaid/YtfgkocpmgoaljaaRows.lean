/-
  No cell of these rows narrows 'for every input' (looked for: loops, veiled, ifaces, maps, wideKeys, modest, calm, conditions, laid).
  DERIVED. THE GIVEN ROWS OF THIS SEAT. 12 by the template 'for every input the law returns true; each argument reads behind the call as it read before'; 0 by the template 'total and deterministic' (their statements: YtfgkocpmgoaljaaTotals.lean).
  GIVEN WITH THE SEED: the statements are not yours to turn. If you find one false, say at which input.
  Laid BY PROGRAM, IN A SANDBOX (cutbox-rows.mjs): the forced cells as the released guide's own fill.sh prints them over the translation 98dd0ffc9a44c95e… (all of the seat's roots in one cut). By AI agents, Wed Nov 11 2026. No macro, syntax, notation, axiom, sorry.
-/
import Derived.Test.YtfgkocpmgoaljaaChecked
import GoSem.Claim
import GoSem.ClaimJoined
import GoSem.ClaimMapViews
import Derived.JoinedTies
import Derived.KernelRfl
namespace Go.Proofs.Ytfgkocpmgoaljaa
/- THE CELL 'sum', in the pinned program and in every row, IS THE sha256 OF THE DUMP (.gsa) THAT YtfgkocpmgoaljaaProg.lean LOADS. Nothing in Lean hashes anything: it is a label: what it is worth is what the hold of that sum in a sandbox is worth. -/
noncomputable def Try.pinned : Pinned := { name := "ytfgkocpmgoaljaa", sum := "98dd0ffc9a44c95e2e6471ba699e324535f47e8c1e2ea64fc2c70b2b52c0f6c9", checked := Try.checked }
namespace Rows
def none {H : Type} : Left H := { results := [], args := [] }

/-- 'covenantlaw09.XidPlays': WHATEVER THE INPUT: true; the input reads as it did. -/
def xidPlaysSpec : ChangeSpec := { name := "xidPlays", fn := fun _ => fun
  | [d] => { results := [.lit (.bool true)], args := [d] }
  | _ => none }
def xidPlaysRow : OpenClaim := { program := "ytfgkocpmgoaljaa", sum := "98dd0ffc9a44c95e2e6471ba699e324535f47e8c1e2ea64fc2c70b2b52c0f6c9", func := "covenant/covenantlaw09.XidPlays", spec := "xidPlays", unfollowed := true, recurses := true, apart := false }
def XidPlaysSaid : Prop := xidPlaysRow.holds Try.pinned (OpenSpec.ofChange xidPlaysSpec)

/-- ITS FALSE NEIGHBOUR: 'it returns false'. Refute it at one input. -/
def xidPlaysWrong : ChangeSpec := { name := "xidPlays", fn := fun _ => fun
  | [d] => { results := [.lit (.bool false)], args := [d] }
  | _ => none }
def XidPlaysWrongFalsely : Prop := xidPlaysRow.holds Try.pinned (OpenSpec.ofChange xidPlaysWrong)

/-- 'covenantlaw09.XidStays': WHATEVER THE INPUT: true; the input reads as it did. -/
def xidStaysSpec : ChangeSpec := { name := "xidStays", fn := fun _ => fun
  | [d] => { results := [.lit (.bool true)], args := [d] }
  | _ => none }
def xidStaysRow : OpenClaim := { program := "ytfgkocpmgoaljaa", sum := "98dd0ffc9a44c95e2e6471ba699e324535f47e8c1e2ea64fc2c70b2b52c0f6c9", func := "covenant/covenantlaw09.XidStays", spec := "xidStays", unfollowed := true, recurses := true, apart := false }
def XidStaysSaid : Prop := xidStaysRow.holds Try.pinned (OpenSpec.ofChange xidStaysSpec)

/-- ITS FALSE NEIGHBOUR: 'it returns false'. Refute it at one input. -/
def xidStaysWrong : ChangeSpec := { name := "xidStays", fn := fun _ => fun
  | [d] => { results := [.lit (.bool false)], args := [d] }
  | _ => none }
def XidStaysWrongFalsely : Prop := xidStaysRow.holds Try.pinned (OpenSpec.ofChange xidStaysWrong)

/-- 'covenantlaw09.XidNumbers': WHATEVER THE INPUT: true; the input reads as it did. -/
def xidNumbersSpec : ChangeSpec := { name := "xidNumbers", fn := fun _ => fun
  | [d] => { results := [.lit (.bool true)], args := [d] }
  | _ => none }
def xidNumbersRow : OpenClaim := { program := "ytfgkocpmgoaljaa", sum := "98dd0ffc9a44c95e2e6471ba699e324535f47e8c1e2ea64fc2c70b2b52c0f6c9", func := "covenant/covenantlaw09.XidNumbers", spec := "xidNumbers", unfollowed := true, recurses := true, apart := false }
def XidNumbersSaid : Prop := xidNumbersRow.holds Try.pinned (OpenSpec.ofChange xidNumbersSpec)

/-- ITS FALSE NEIGHBOUR: 'it returns false'. Refute it at one input. -/
def xidNumbersWrong : ChangeSpec := { name := "xidNumbers", fn := fun _ => fun
  | [d] => { results := [.lit (.bool false)], args := [d] }
  | _ => none }
def XidNumbersWrongFalsely : Prop := xidNumbersRow.holds Try.pinned (OpenSpec.ofChange xidNumbersWrong)

/-- 'covenantlaw09.XidBelow': WHATEVER THE INPUT: true; the input reads as it did. -/
def xidBelowSpec : ChangeSpec := { name := "xidBelow", fn := fun _ => fun
  | [d] => { results := [.lit (.bool true)], args := [d] }
  | _ => none }
def xidBelowRow : OpenClaim := { program := "ytfgkocpmgoaljaa", sum := "98dd0ffc9a44c95e2e6471ba699e324535f47e8c1e2ea64fc2c70b2b52c0f6c9", func := "covenant/covenantlaw09.XidBelow", spec := "xidBelow", unfollowed := true, recurses := true, apart := false }
def XidBelowSaid : Prop := xidBelowRow.holds Try.pinned (OpenSpec.ofChange xidBelowSpec)

/-- ITS FALSE NEIGHBOUR: 'it returns false'. Refute it at one input. -/
def xidBelowWrong : ChangeSpec := { name := "xidBelow", fn := fun _ => fun
  | [d] => { results := [.lit (.bool false)], args := [d] }
  | _ => none }
def XidBelowWrongFalsely : Prop := xidBelowRow.holds Try.pinned (OpenSpec.ofChange xidBelowWrong)

/-- 'covenantlaw09.XidBack': WHATEVER THE INPUT: true; the input reads as it did. -/
def xidBackSpec : ChangeSpec := { name := "xidBack", fn := fun _ => fun
  | [d1, d2, d3] => { results := [.lit (.bool true)], args := [d1, d2, d3] }
  | _ => none }
def xidBackRow : OpenClaim := { program := "ytfgkocpmgoaljaa", sum := "98dd0ffc9a44c95e2e6471ba699e324535f47e8c1e2ea64fc2c70b2b52c0f6c9", func := "covenant/covenantlaw09.XidBack", spec := "xidBack", unfollowed := true, recurses := true, apart := false }
def XidBackSaid : Prop := xidBackRow.holds Try.pinned (OpenSpec.ofChange xidBackSpec)

/-- ITS FALSE NEIGHBOUR: 'it returns false'. Refute it at one input. -/
def xidBackWrong : ChangeSpec := { name := "xidBack", fn := fun _ => fun
  | [d1, d2, d3] => { results := [.lit (.bool false)], args := [d1, d2, d3] }
  | _ => none }
def XidBackWrongFalsely : Prop := xidBackRow.holds Try.pinned (OpenSpec.ofChange xidBackWrong)

/-- 'covenantlaw10.SnapNames': WHATEVER THE INPUT: true; the input reads as it did. -/
def snapNamesSpec : ChangeSpec := { name := "snapNames", fn := fun _ => fun
  | [] => { results := [.lit (.bool true)], args := [] }
  | _ => none }
def snapNamesRow : OpenClaim := { program := "ytfgkocpmgoaljaa", sum := "98dd0ffc9a44c95e2e6471ba699e324535f47e8c1e2ea64fc2c70b2b52c0f6c9", func := "covenant/covenantlaw10.SnapNames", spec := "snapNames", unfollowed := true, recurses := true, apart := false }
def SnapNamesSaid : Prop := snapNamesRow.holds Try.pinned (OpenSpec.ofChange snapNamesSpec)

/-- ITS FALSE NEIGHBOUR: 'it returns false'. Refute it at one input. -/
def snapNamesWrong : ChangeSpec := { name := "snapNames", fn := fun _ => fun
  | [] => { results := [.lit (.bool false)], args := [] }
  | _ => none }
def SnapNamesWrongFalsely : Prop := snapNamesRow.holds Try.pinned (OpenSpec.ofChange snapNamesWrong)

/-- 'covenantlaw10.SnapTells': WHATEVER THE INPUT: true; the input reads as it did. -/
def snapTellsSpec : ChangeSpec := { name := "snapTells", fn := fun _ => fun
  | [d1, d2, d3, d4] => { results := [.lit (.bool true)], args := [d1, d2, d3, d4] }
  | _ => none }
def snapTellsRow : OpenClaim := { program := "ytfgkocpmgoaljaa", sum := "98dd0ffc9a44c95e2e6471ba699e324535f47e8c1e2ea64fc2c70b2b52c0f6c9", func := "covenant/covenantlaw10.SnapTells", spec := "snapTells", unfollowed := true, recurses := true, apart := false }
def SnapTellsSaid : Prop := snapTellsRow.holds Try.pinned (OpenSpec.ofChange snapTellsSpec)

/-- ITS FALSE NEIGHBOUR: 'it returns false'. Refute it at one input. -/
def snapTellsWrong : ChangeSpec := { name := "snapTells", fn := fun _ => fun
  | [d1, d2, d3, d4] => { results := [.lit (.bool false)], args := [d1, d2, d3, d4] }
  | _ => none }
def SnapTellsWrongFalsely : Prop := snapTellsRow.holds Try.pinned (OpenSpec.ofChange snapTellsWrong)

/-- 'covenantlaw10.SnapStays': WHATEVER THE INPUT: true; the input reads as it did. -/
def snapStaysSpec : ChangeSpec := { name := "snapStays", fn := fun _ => fun
  | [d1, d2] => { results := [.lit (.bool true)], args := [d1, d2] }
  | _ => none }
def snapStaysRow : OpenClaim := { program := "ytfgkocpmgoaljaa", sum := "98dd0ffc9a44c95e2e6471ba699e324535f47e8c1e2ea64fc2c70b2b52c0f6c9", func := "covenant/covenantlaw10.SnapStays", spec := "snapStays", unfollowed := true, recurses := true, apart := false }
def SnapStaysSaid : Prop := snapStaysRow.holds Try.pinned (OpenSpec.ofChange snapStaysSpec)

/-- ITS FALSE NEIGHBOUR: 'it returns false'. Refute it at one input. -/
def snapStaysWrong : ChangeSpec := { name := "snapStays", fn := fun _ => fun
  | [d1, d2] => { results := [.lit (.bool false)], args := [d1, d2] }
  | _ => none }
def SnapStaysWrongFalsely : Prop := snapStaysRow.holds Try.pinned (OpenSpec.ofChange snapStaysWrong)

/-- 'covenantlaw10.SnapMore': WHATEVER THE INPUT: true; the input reads as it did. -/
def snapMoreSpec : ChangeSpec := { name := "snapMore", fn := fun _ => fun
  | [d1, d2, d3] => { results := [.lit (.bool true)], args := [d1, d2, d3] }
  | _ => none }
def snapMoreRow : OpenClaim := { program := "ytfgkocpmgoaljaa", sum := "98dd0ffc9a44c95e2e6471ba699e324535f47e8c1e2ea64fc2c70b2b52c0f6c9", func := "covenant/covenantlaw10.SnapMore", spec := "snapMore", unfollowed := true, recurses := true, apart := false }
def SnapMoreSaid : Prop := snapMoreRow.holds Try.pinned (OpenSpec.ofChange snapMoreSpec)

/-- ITS FALSE NEIGHBOUR: 'it returns false'. Refute it at one input. -/
def snapMoreWrong : ChangeSpec := { name := "snapMore", fn := fun _ => fun
  | [d1, d2, d3] => { results := [.lit (.bool false)], args := [d1, d2, d3] }
  | _ => none }
def SnapMoreWrongFalsely : Prop := snapMoreRow.holds Try.pinned (OpenSpec.ofChange snapMoreWrong)

/-- 'covenantlaw10.SnapOwn': WHATEVER THE INPUT: true; the input reads as it did. -/
def snapOwnSpec : ChangeSpec := { name := "snapOwn", fn := fun _ => fun
  | [d1, d2, d3, d4, d5] => { results := [.lit (.bool true)], args := [d1, d2, d3, d4, d5] }
  | _ => none }
def snapOwnRow : OpenClaim := { program := "ytfgkocpmgoaljaa", sum := "98dd0ffc9a44c95e2e6471ba699e324535f47e8c1e2ea64fc2c70b2b52c0f6c9", func := "covenant/covenantlaw10.SnapOwn", spec := "snapOwn", unfollowed := true, recurses := true, apart := false }
def SnapOwnSaid : Prop := snapOwnRow.holds Try.pinned (OpenSpec.ofChange snapOwnSpec)

/-- ITS FALSE NEIGHBOUR: 'it returns false'. Refute it at one input. -/
def snapOwnWrong : ChangeSpec := { name := "snapOwn", fn := fun _ => fun
  | [d1, d2, d3, d4, d5] => { results := [.lit (.bool false)], args := [d1, d2, d3, d4, d5] }
  | _ => none }
def SnapOwnWrongFalsely : Prop := snapOwnRow.holds Try.pinned (OpenSpec.ofChange snapOwnWrong)

/-- 'covenantlaw09.XidNames': WHATEVER THE INPUT: true; the input reads as it did. -/
def xidNamesSpec : ChangeSpec := { name := "xidNames", fn := fun _ => fun
  | [] => { results := [.lit (.bool true)], args := [] }
  | _ => none }
def xidNamesRow : OpenClaim := { program := "ytfgkocpmgoaljaa", sum := "98dd0ffc9a44c95e2e6471ba699e324535f47e8c1e2ea64fc2c70b2b52c0f6c9", func := "covenant/covenantlaw09.XidNames", spec := "xidNames", unfollowed := true, recurses := true, apart := false }
def XidNamesSaid : Prop := xidNamesRow.holds Try.pinned (OpenSpec.ofChange xidNamesSpec)

/-- ITS FALSE NEIGHBOUR: 'it returns false'. Refute it at one input. -/
def xidNamesWrong : ChangeSpec := { name := "xidNames", fn := fun _ => fun
  | [] => { results := [.lit (.bool false)], args := [] }
  | _ => none }
def XidNamesWrongFalsely : Prop := xidNamesRow.holds Try.pinned (OpenSpec.ofChange xidNamesWrong)

/-- 'covenantlaw09.XidCopies': WHATEVER THE INPUT: true; the input reads as it did. -/
def xidCopiesSpec : ChangeSpec := { name := "xidCopies", fn := fun _ => fun
  | [d1, d2] => { results := [.lit (.bool true)], args := [d1, d2] }
  | _ => none }
def xidCopiesRow : OpenClaim := { program := "ytfgkocpmgoaljaa", sum := "98dd0ffc9a44c95e2e6471ba699e324535f47e8c1e2ea64fc2c70b2b52c0f6c9", func := "covenant/covenantlaw09.XidCopies", spec := "xidCopies", unfollowed := true, recurses := true, apart := false }
def XidCopiesSaid : Prop := xidCopiesRow.holds Try.pinned (OpenSpec.ofChange xidCopiesSpec)

/-- ITS FALSE NEIGHBOUR: 'it returns false'. Refute it at one input. -/
def xidCopiesWrong : ChangeSpec := { name := "xidCopies", fn := fun _ => fun
  | [d1, d2] => { results := [.lit (.bool false)], args := [d1, d2] }
  | _ => none }
def XidCopiesWrongFalsely : Prop := xidCopiesRow.holds Try.pinned (OpenSpec.ofChange xidCopiesWrong)

/- THE SECOND FORM. 'bulk': how many values and letters a reading holds, each counted each time it is reached (what is shared counts as often as it is met; a slice's spare places count too). A statement '..UptoSaid' is the law's where the arguments, and the package variables that the reading takes, are together of bulk at most 1048576: NARROWER than '..Said'. Prove '..Said' where nothing that the law and all that it calls make is longer than what came in: it says more and counts as full. Else prove '..UptoSaid'. A law counts once. -/
mutual
def uptoBulk {H : Type} : DataW H → Nat
  | .lit (.string bytes) => bytes.length + 1
  | .lit _ => 1
  | .nil => 1
  | .ptr d => uptoBulk d + 1
  | .slice elems spare => uptoBulkAll elems + uptoBulkAll spare + 1
  | .agg parts => uptoBulkAll parts + 1
  | .iface _ d => uptoBulk d + 1
  | .map entries => uptoBulkEntries entries + 1
  | .held _ => 1
def uptoBulkAll {H : Type} : List (DataW H) → Nat
  | [] => 0
  | d :: r => uptoBulk d + uptoBulkAll r
def uptoBulkEntries {H : Type} : List (Lit × DataW H) → Nat
  | [] => 0
  | x :: r => uptoBulkEntry x + uptoBulkEntries r
def uptoBulkEntry {H : Type} : Lit × DataW H → Nat
  | (.string bytes, d) => bytes.length + uptoBulk d + 1
  | (_, d) => uptoBulk d + 1
 end
def uptoSmall : (H : Type) → List (DataW H) → Bool := fun _ ds => decide (uptoBulkAll ds ≤ 1048576)
def OpenSpec.upto (s : _root_.Go.ChangeSpec) : _root_.Go.OpenSpec := { _root_.Go.OpenSpec.ofChange s with cond := some uptoSmall }

/-- 'covenantlaw09.XidPlays', WHERE WHAT IT READS IS OF BULK AT MOST 1048576: true; the input reads as it did. -/
def xidPlaysUptoRow : OpenClaim := { program := "ytfgkocpmgoaljaa", sum := "98dd0ffc9a44c95e2e6471ba699e324535f47e8c1e2ea64fc2c70b2b52c0f6c9", func := "covenant/covenantlaw09.XidPlays", spec := "xidPlays", unfollowed := true, recurses := true, apart := false, narrowed := true }
def XidPlaysUptoSaid : Prop := xidPlaysUptoRow.holds Try.pinned (OpenSpec.upto xidPlaysSpec)

/-- 'covenantlaw09.XidStays', WHERE WHAT IT READS IS OF BULK AT MOST 1048576: true; the input reads as it did. -/
def xidStaysUptoRow : OpenClaim := { program := "ytfgkocpmgoaljaa", sum := "98dd0ffc9a44c95e2e6471ba699e324535f47e8c1e2ea64fc2c70b2b52c0f6c9", func := "covenant/covenantlaw09.XidStays", spec := "xidStays", unfollowed := true, recurses := true, apart := false, narrowed := true }
def XidStaysUptoSaid : Prop := xidStaysUptoRow.holds Try.pinned (OpenSpec.upto xidStaysSpec)

/-- 'covenantlaw09.XidNumbers', WHERE WHAT IT READS IS OF BULK AT MOST 1048576: true; the input reads as it did. -/
def xidNumbersUptoRow : OpenClaim := { program := "ytfgkocpmgoaljaa", sum := "98dd0ffc9a44c95e2e6471ba699e324535f47e8c1e2ea64fc2c70b2b52c0f6c9", func := "covenant/covenantlaw09.XidNumbers", spec := "xidNumbers", unfollowed := true, recurses := true, apart := false, narrowed := true }
def XidNumbersUptoSaid : Prop := xidNumbersUptoRow.holds Try.pinned (OpenSpec.upto xidNumbersSpec)

/-- 'covenantlaw09.XidBelow', WHERE WHAT IT READS IS OF BULK AT MOST 1048576: true; the input reads as it did. -/
def xidBelowUptoRow : OpenClaim := { program := "ytfgkocpmgoaljaa", sum := "98dd0ffc9a44c95e2e6471ba699e324535f47e8c1e2ea64fc2c70b2b52c0f6c9", func := "covenant/covenantlaw09.XidBelow", spec := "xidBelow", unfollowed := true, recurses := true, apart := false, narrowed := true }
def XidBelowUptoSaid : Prop := xidBelowUptoRow.holds Try.pinned (OpenSpec.upto xidBelowSpec)

/-- 'covenantlaw09.XidBack', WHERE WHAT IT READS IS OF BULK AT MOST 1048576: true; the input reads as it did. -/
def xidBackUptoRow : OpenClaim := { program := "ytfgkocpmgoaljaa", sum := "98dd0ffc9a44c95e2e6471ba699e324535f47e8c1e2ea64fc2c70b2b52c0f6c9", func := "covenant/covenantlaw09.XidBack", spec := "xidBack", unfollowed := true, recurses := true, apart := false, narrowed := true }
def XidBackUptoSaid : Prop := xidBackUptoRow.holds Try.pinned (OpenSpec.upto xidBackSpec)

/-- 'covenantlaw10.SnapNames', WHERE WHAT IT READS IS OF BULK AT MOST 1048576: true; the input reads as it did. -/
def snapNamesUptoRow : OpenClaim := { program := "ytfgkocpmgoaljaa", sum := "98dd0ffc9a44c95e2e6471ba699e324535f47e8c1e2ea64fc2c70b2b52c0f6c9", func := "covenant/covenantlaw10.SnapNames", spec := "snapNames", unfollowed := true, recurses := true, apart := false, narrowed := true }
def SnapNamesUptoSaid : Prop := snapNamesUptoRow.holds Try.pinned (OpenSpec.upto snapNamesSpec)

/-- 'covenantlaw10.SnapTells', WHERE WHAT IT READS IS OF BULK AT MOST 1048576: true; the input reads as it did. -/
def snapTellsUptoRow : OpenClaim := { program := "ytfgkocpmgoaljaa", sum := "98dd0ffc9a44c95e2e6471ba699e324535f47e8c1e2ea64fc2c70b2b52c0f6c9", func := "covenant/covenantlaw10.SnapTells", spec := "snapTells", unfollowed := true, recurses := true, apart := false, narrowed := true }
def SnapTellsUptoSaid : Prop := snapTellsUptoRow.holds Try.pinned (OpenSpec.upto snapTellsSpec)

/-- 'covenantlaw10.SnapStays', WHERE WHAT IT READS IS OF BULK AT MOST 1048576: true; the input reads as it did. -/
def snapStaysUptoRow : OpenClaim := { program := "ytfgkocpmgoaljaa", sum := "98dd0ffc9a44c95e2e6471ba699e324535f47e8c1e2ea64fc2c70b2b52c0f6c9", func := "covenant/covenantlaw10.SnapStays", spec := "snapStays", unfollowed := true, recurses := true, apart := false, narrowed := true }
def SnapStaysUptoSaid : Prop := snapStaysUptoRow.holds Try.pinned (OpenSpec.upto snapStaysSpec)

/-- 'covenantlaw10.SnapMore', WHERE WHAT IT READS IS OF BULK AT MOST 1048576: true; the input reads as it did. -/
def snapMoreUptoRow : OpenClaim := { program := "ytfgkocpmgoaljaa", sum := "98dd0ffc9a44c95e2e6471ba699e324535f47e8c1e2ea64fc2c70b2b52c0f6c9", func := "covenant/covenantlaw10.SnapMore", spec := "snapMore", unfollowed := true, recurses := true, apart := false, narrowed := true }
def SnapMoreUptoSaid : Prop := snapMoreUptoRow.holds Try.pinned (OpenSpec.upto snapMoreSpec)

/-- 'covenantlaw10.SnapOwn', WHERE WHAT IT READS IS OF BULK AT MOST 1048576: true; the input reads as it did. -/
def snapOwnUptoRow : OpenClaim := { program := "ytfgkocpmgoaljaa", sum := "98dd0ffc9a44c95e2e6471ba699e324535f47e8c1e2ea64fc2c70b2b52c0f6c9", func := "covenant/covenantlaw10.SnapOwn", spec := "snapOwn", unfollowed := true, recurses := true, apart := false, narrowed := true }
def SnapOwnUptoSaid : Prop := snapOwnUptoRow.holds Try.pinned (OpenSpec.upto snapOwnSpec)

/-- 'covenantlaw09.XidNames', WHERE WHAT IT READS IS OF BULK AT MOST 1048576: true; the input reads as it did. -/
def xidNamesUptoRow : OpenClaim := { program := "ytfgkocpmgoaljaa", sum := "98dd0ffc9a44c95e2e6471ba699e324535f47e8c1e2ea64fc2c70b2b52c0f6c9", func := "covenant/covenantlaw09.XidNames", spec := "xidNames", unfollowed := true, recurses := true, apart := false, narrowed := true }
def XidNamesUptoSaid : Prop := xidNamesUptoRow.holds Try.pinned (OpenSpec.upto xidNamesSpec)

/-- 'covenantlaw09.XidCopies', WHERE WHAT IT READS IS OF BULK AT MOST 1048576: true; the input reads as it did. -/
def xidCopiesUptoRow : OpenClaim := { program := "ytfgkocpmgoaljaa", sum := "98dd0ffc9a44c95e2e6471ba699e324535f47e8c1e2ea64fc2c70b2b52c0f6c9", func := "covenant/covenantlaw09.XidCopies", spec := "xidCopies", unfollowed := true, recurses := true, apart := false, narrowed := true }
def XidCopiesUptoSaid : Prop := xidCopiesUptoRow.holds Try.pinned (OpenSpec.upto xidCopiesSpec)

end Rows
end Go.Proofs.Ytfgkocpmgoaljaa
