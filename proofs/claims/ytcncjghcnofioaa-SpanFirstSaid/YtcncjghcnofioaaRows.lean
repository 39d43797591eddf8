/-
  No cell of these rows narrows 'for every input' (looked for: loops, veiled, ifaces, maps, wideKeys, modest, calm, conditions, laid).
  DERIVED. THE GIVEN ROWS OF THIS SEAT. 12 by the template 'for every input the law returns true; each argument reads behind the call as it read before'; 0 by the template 'total and deterministic' (their statements: YtcncjghcnofioaaTotals.lean).
  GIVEN WITH THE SEED: the statements are not yours to turn. If you find one false, say at which input.
  Laid BY PROGRAM, IN A SANDBOX (cutbox-rows.mjs): the forced cells as the released guide's own fill.sh prints them over the translation 2de8a8369fa4d6c0… (all of the seat's roots in one cut). By AI agents, Wed Nov 11 2026. No macro, syntax, notation, axiom, sorry.
-/
import Derived.Test.YtcncjghcnofioaaChecked
import GoSem.Claim
import GoSem.ClaimJoined
import GoSem.ClaimMapViews
import Derived.JoinedTies
import Derived.KernelRfl
namespace Go.Proofs.Ytcncjghcnofioaa
/- THE CELL 'sum', in the pinned program and in every row, IS THE sha256 OF THE DUMP (.gsa) THAT YtcncjghcnofioaaProg.lean LOADS. Nothing in Lean hashes anything: it is a label: what it is worth is what the hold of that sum in a sandbox is worth. -/
noncomputable def Try.pinned : Pinned := { name := "ytcncjghcnofioaa", sum := "2de8a8369fa4d6c084876164682b97f8b9c3b19f728a6b4c6d4cd60c06c81828", checked := Try.checked }
namespace Rows
def none {H : Type} : Left H := { results := [], args := [] }

/-- 'covenantlaw02.LogicOrder': WHATEVER THE INPUT: true; the input reads as it did. -/
def logicOrderSpec : ChangeSpec := { name := "logicOrder", fn := fun _ => fun
  | [d1, d2, d3] => { results := [.lit (.bool true)], args := [d1, d2, d3] }
  | _ => none }
def logicOrderRow : OpenClaim := { program := "ytcncjghcnofioaa", sum := "2de8a8369fa4d6c084876164682b97f8b9c3b19f728a6b4c6d4cd60c06c81828", func := "covenant/covenantlaw02.LogicOrder", spec := "logicOrder", inPlace := ["internal/bytealg.abigen_runtime_cmpstring"], unfollowed := true, recurses := true, apart := false }
def LogicOrderSaid : Prop := logicOrderRow.holds Try.pinned (OpenSpec.ofChange logicOrderSpec)

/-- ITS FALSE NEIGHBOUR: 'it returns false'. Refute it at one input. -/
def logicOrderWrong : ChangeSpec := { name := "logicOrder", fn := fun _ => fun
  | [d1, d2, d3] => { results := [.lit (.bool false)], args := [d1, d2, d3] }
  | _ => none }
def LogicOrderWrongFalsely : Prop := logicOrderRow.holds Try.pinned (OpenSpec.ofChange logicOrderWrong)

/-- 'covenantlaw02.LogicNumbers': WHATEVER THE INPUT: true; the input reads as it did. -/
def logicNumbersSpec : ChangeSpec := { name := "logicNumbers", fn := fun _ => fun
  | [d1, d2] => { results := [.lit (.bool true)], args := [d1, d2] }
  | _ => none }
def logicNumbersRow : OpenClaim := { program := "ytcncjghcnofioaa", sum := "2de8a8369fa4d6c084876164682b97f8b9c3b19f728a6b4c6d4cd60c06c81828", func := "covenant/covenantlaw02.LogicNumbers", spec := "logicNumbers", inPlace := ["internal/bytealg.abigen_runtime_cmpstring"], unfollowed := true, recurses := true, apart := false }
def LogicNumbersSaid : Prop := logicNumbersRow.holds Try.pinned (OpenSpec.ofChange logicNumbersSpec)

/-- ITS FALSE NEIGHBOUR: 'it returns false'. Refute it at one input. -/
def logicNumbersWrong : ChangeSpec := { name := "logicNumbers", fn := fun _ => fun
  | [d1, d2] => { results := [.lit (.bool false)], args := [d1, d2] }
  | _ => none }
def LogicNumbersWrongFalsely : Prop := logicNumbersRow.holds Try.pinned (OpenSpec.ofChange logicNumbersWrong)

/-- 'covenantlaw02.LogicLaws': WHATEVER THE INPUT: true; the input reads as it did. -/
def logicLawsSpec : ChangeSpec := { name := "logicLaws", fn := fun _ => fun
  | [d1, d2, d3] => { results := [.lit (.bool true)], args := [d1, d2, d3] }
  | _ => none }
def logicLawsRow : OpenClaim := { program := "ytcncjghcnofioaa", sum := "2de8a8369fa4d6c084876164682b97f8b9c3b19f728a6b4c6d4cd60c06c81828", func := "covenant/covenantlaw02.LogicLaws", spec := "logicLaws", inPlace := ["internal/bytealg.abigen_runtime_cmpstring"], unfollowed := true, recurses := true, apart := false }
def LogicLawsSaid : Prop := logicLawsRow.holds Try.pinned (OpenSpec.ofChange logicLawsSpec)

/-- ITS FALSE NEIGHBOUR: 'it returns false'. Refute it at one input. -/
def logicLawsWrong : ChangeSpec := { name := "logicLaws", fn := fun _ => fun
  | [d1, d2, d3] => { results := [.lit (.bool false)], args := [d1, d2, d3] }
  | _ => none }
def LogicLawsWrongFalsely : Prop := logicLawsRow.holds Try.pinned (OpenSpec.ofChange logicLawsWrong)

/-- 'covenantlaw02.LogicNames': WHATEVER THE INPUT: true; the input reads as it did. -/
def logicNamesSpec : ChangeSpec := { name := "logicNames", fn := fun _ => fun
  | [] => { results := [.lit (.bool true)], args := [] }
  | _ => none }
def logicNamesRow : OpenClaim := { program := "ytcncjghcnofioaa", sum := "2de8a8369fa4d6c084876164682b97f8b9c3b19f728a6b4c6d4cd60c06c81828", func := "covenant/covenantlaw02.LogicNames", spec := "logicNames", inPlace := ["internal/bytealg.abigen_runtime_cmpstring"], unfollowed := true, recurses := true, apart := false }
def LogicNamesSaid : Prop := logicNamesRow.holds Try.pinned (OpenSpec.ofChange logicNamesSpec)

/-- ITS FALSE NEIGHBOUR: 'it returns false'. Refute it at one input. -/
def logicNamesWrong : ChangeSpec := { name := "logicNames", fn := fun _ => fun
  | [] => { results := [.lit (.bool false)], args := [] }
  | _ => none }
def LogicNamesWrongFalsely : Prop := logicNamesRow.holds Try.pinned (OpenSpec.ofChange logicNamesWrong)

/-- 'covenantlaw02.LogicTells': WHATEVER THE INPUT: true; the input reads as it did. -/
def logicTellsSpec : ChangeSpec := { name := "logicTells", fn := fun _ => fun
  | [d1, d2, d3, d4] => { results := [.lit (.bool true)], args := [d1, d2, d3, d4] }
  | _ => none }
def logicTellsRow : OpenClaim := { program := "ytcncjghcnofioaa", sum := "2de8a8369fa4d6c084876164682b97f8b9c3b19f728a6b4c6d4cd60c06c81828", func := "covenant/covenantlaw02.LogicTells", spec := "logicTells", inPlace := ["internal/bytealg.abigen_runtime_cmpstring"], unfollowed := true, recurses := true, apart := false }
def LogicTellsSaid : Prop := logicTellsRow.holds Try.pinned (OpenSpec.ofChange logicTellsSpec)

/-- ITS FALSE NEIGHBOUR: 'it returns false'. Refute it at one input. -/
def logicTellsWrong : ChangeSpec := { name := "logicTells", fn := fun _ => fun
  | [d1, d2, d3, d4] => { results := [.lit (.bool false)], args := [d1, d2, d3, d4] }
  | _ => none }
def LogicTellsWrongFalsely : Prop := logicTellsRow.holds Try.pinned (OpenSpec.ofChange logicTellsWrong)

/-- 'covenantlaw02.LogicNull': WHATEVER THE INPUT: true; the input reads as it did. -/
def logicNullSpec : ChangeSpec := { name := "logicNull", fn := fun _ => fun
  | [d] => { results := [.lit (.bool true)], args := [d] }
  | _ => none }
def logicNullRow : OpenClaim := { program := "ytcncjghcnofioaa", sum := "2de8a8369fa4d6c084876164682b97f8b9c3b19f728a6b4c6d4cd60c06c81828", func := "covenant/covenantlaw02.LogicNull", spec := "logicNull", inPlace := ["internal/bytealg.abigen_runtime_cmpstring"], unfollowed := true, recurses := true, apart := false }
def LogicNullSaid : Prop := logicNullRow.holds Try.pinned (OpenSpec.ofChange logicNullSpec)

/-- ITS FALSE NEIGHBOUR: 'it returns false'. Refute it at one input. -/
def logicNullWrong : ChangeSpec := { name := "logicNull", fn := fun _ => fun
  | [d] => { results := [.lit (.bool false)], args := [d] }
  | _ => none }
def LogicNullWrongFalsely : Prop := logicNullRow.holds Try.pinned (OpenSpec.ofChange logicNullWrong)

/-- 'covenantlaw04.SpanLists': WHATEVER THE INPUT: true; the input reads as it did. -/
def spanListsSpec : ChangeSpec := { name := "spanLists", fn := fun _ => fun
  | [d1, d2] => { results := [.lit (.bool true)], args := [d1, d2] }
  | _ => none }
def spanListsRow : OpenClaim := { program := "ytcncjghcnofioaa", sum := "2de8a8369fa4d6c084876164682b97f8b9c3b19f728a6b4c6d4cd60c06c81828", func := "covenant/covenantlaw04.SpanLists", spec := "spanLists", unfollowed := true, recurses := true, apart := false }
def SpanListsSaid : Prop := spanListsRow.holds Try.pinned (OpenSpec.ofChange spanListsSpec)

/-- ITS FALSE NEIGHBOUR: 'it returns false'. Refute it at one input. -/
def spanListsWrong : ChangeSpec := { name := "spanLists", fn := fun _ => fun
  | [d1, d2] => { results := [.lit (.bool false)], args := [d1, d2] }
  | _ => none }
def SpanListsWrongFalsely : Prop := spanListsRow.holds Try.pinned (OpenSpec.ofChange spanListsWrong)

/-- 'covenantlaw04.SpanFirst': WHATEVER THE INPUT: true; the input reads as it did. -/
def spanFirstSpec : ChangeSpec := { name := "spanFirst", fn := fun _ => fun
  | [d] => { results := [.lit (.bool true)], args := [d] }
  | _ => none }
def spanFirstRow : OpenClaim := { program := "ytcncjghcnofioaa", sum := "2de8a8369fa4d6c084876164682b97f8b9c3b19f728a6b4c6d4cd60c06c81828", func := "covenant/covenantlaw04.SpanFirst", spec := "spanFirst", unfollowed := true, recurses := true, apart := false }
def SpanFirstSaid : Prop := spanFirstRow.holds Try.pinned (OpenSpec.ofChange spanFirstSpec)

/-- ITS FALSE NEIGHBOUR: 'it returns false'. Refute it at one input. -/
def spanFirstWrong : ChangeSpec := { name := "spanFirst", fn := fun _ => fun
  | [d] => { results := [.lit (.bool false)], args := [d] }
  | _ => none }
def SpanFirstWrongFalsely : Prop := spanFirstRow.holds Try.pinned (OpenSpec.ofChange spanFirstWrong)

/-- 'covenantlaw04.SpanTells': WHATEVER THE INPUT: true; the input reads as it did. -/
def spanTellsSpec : ChangeSpec := { name := "spanTells", fn := fun _ => fun
  | [d1, d2, d3, d4] => { results := [.lit (.bool true)], args := [d1, d2, d3, d4] }
  | _ => none }
def spanTellsRow : OpenClaim := { program := "ytcncjghcnofioaa", sum := "2de8a8369fa4d6c084876164682b97f8b9c3b19f728a6b4c6d4cd60c06c81828", func := "covenant/covenantlaw04.SpanTells", spec := "spanTells", unfollowed := true, recurses := true, apart := false }
def SpanTellsSaid : Prop := spanTellsRow.holds Try.pinned (OpenSpec.ofChange spanTellsSpec)

/-- ITS FALSE NEIGHBOUR: 'it returns false'. Refute it at one input. -/
def spanTellsWrong : ChangeSpec := { name := "spanTells", fn := fun _ => fun
  | [d1, d2, d3, d4] => { results := [.lit (.bool false)], args := [d1, d2, d3, d4] }
  | _ => none }
def SpanTellsWrongFalsely : Prop := spanTellsRow.holds Try.pinned (OpenSpec.ofChange spanTellsWrong)

/-- 'covenantlaw04.SpanNames': WHATEVER THE INPUT: true; the input reads as it did. -/
def spanNamesSpec : ChangeSpec := { name := "spanNames", fn := fun _ => fun
  | [] => { results := [.lit (.bool true)], args := [] }
  | _ => none }
def spanNamesRow : OpenClaim := { program := "ytcncjghcnofioaa", sum := "2de8a8369fa4d6c084876164682b97f8b9c3b19f728a6b4c6d4cd60c06c81828", func := "covenant/covenantlaw04.SpanNames", spec := "spanNames", unfollowed := true, recurses := true, apart := false }
def SpanNamesSaid : Prop := spanNamesRow.holds Try.pinned (OpenSpec.ofChange spanNamesSpec)

/-- ITS FALSE NEIGHBOUR: 'it returns false'. Refute it at one input. -/
def spanNamesWrong : ChangeSpec := { name := "spanNames", fn := fun _ => fun
  | [] => { results := [.lit (.bool false)], args := [] }
  | _ => none }
def SpanNamesWrongFalsely : Prop := spanNamesRow.holds Try.pinned (OpenSpec.ofChange spanNamesWrong)

/-- 'covenantlaw04.SpanBoth': WHATEVER THE INPUT: true; the input reads as it did. -/
def spanBothSpec : ChangeSpec := { name := "spanBoth", fn := fun _ => fun
  | [d1, d2, d3] => { results := [.lit (.bool true)], args := [d1, d2, d3] }
  | _ => none }
def spanBothRow : OpenClaim := { program := "ytcncjghcnofioaa", sum := "2de8a8369fa4d6c084876164682b97f8b9c3b19f728a6b4c6d4cd60c06c81828", func := "covenant/covenantlaw04.SpanBoth", spec := "spanBoth", unfollowed := true, recurses := true, apart := false }
def SpanBothSaid : Prop := spanBothRow.holds Try.pinned (OpenSpec.ofChange spanBothSpec)

/-- ITS FALSE NEIGHBOUR: 'it returns false'. Refute it at one input. -/
def spanBothWrong : ChangeSpec := { name := "spanBoth", fn := fun _ => fun
  | [d1, d2, d3] => { results := [.lit (.bool false)], args := [d1, d2, d3] }
  | _ => none }
def SpanBothWrongFalsely : Prop := spanBothRow.holds Try.pinned (OpenSpec.ofChange spanBothWrong)

/-- 'covenantlaw04.SpanFree': WHATEVER THE INPUT: true; the input reads as it did. -/
def spanFreeSpec : ChangeSpec := { name := "spanFree", fn := fun _ => fun
  | [d1, d2, d3] => { results := [.lit (.bool true)], args := [d1, d2, d3] }
  | _ => none }
def spanFreeRow : OpenClaim := { program := "ytcncjghcnofioaa", sum := "2de8a8369fa4d6c084876164682b97f8b9c3b19f728a6b4c6d4cd60c06c81828", func := "covenant/covenantlaw04.SpanFree", spec := "spanFree", unfollowed := true, recurses := true, apart := false }
def SpanFreeSaid : Prop := spanFreeRow.holds Try.pinned (OpenSpec.ofChange spanFreeSpec)

/-- ITS FALSE NEIGHBOUR: 'it returns false'. Refute it at one input. -/
def spanFreeWrong : ChangeSpec := { name := "spanFree", fn := fun _ => fun
  | [d1, d2, d3] => { results := [.lit (.bool false)], args := [d1, d2, d3] }
  | _ => none }
def SpanFreeWrongFalsely : Prop := spanFreeRow.holds Try.pinned (OpenSpec.ofChange spanFreeWrong)

/- THE SECOND FORM. 'bulk': how many values and letters a reading holds, each counted each time it is reached (what is shared counts as often as it is met; a slice's spare places count too). A statement '..UptoSaid' is the law's where the arguments, and the package variables that the reading takes, are together of bulk at most 1048576: NARROWER than '..Said'. Prove '..Said' where nothing that the law and all that it calls make is longer than what came in: it says more and counts as full. Else prove '..UptoSaid'. A law counts once. -/
mutual
def uptoBulk {H : Type} : DataW H → Nat
  | .lit (.string bytes) => bytes.length + 1
  | .lit _ => 1
  | .nil => 1
  | .ptr d => uptoBulk d + 1
  | .slice elems spare => uptoBulkAll elems + uptoBulkAll spare + 1
  | .agg parts => uptoBulkAll parts + 1
  | .iface _ d => uptoBulk d + 1
  | .map entries => uptoBulkEntries entries + 1
  | .held _ => 1
def uptoBulkAll {H : Type} : List (DataW H) → Nat
  | [] => 0
  | d :: r => uptoBulk d + uptoBulkAll r
def uptoBulkEntries {H : Type} : List (Lit × DataW H) → Nat
  | [] => 0
  | x :: r => uptoBulkEntry x + uptoBulkEntries r
def uptoBulkEntry {H : Type} : Lit × DataW H → Nat
  | (.string bytes, d) => bytes.length + uptoBulk d + 1
  | (_, d) => uptoBulk d + 1
 end
def uptoSmall : (H : Type) → List (DataW H) → Bool := fun _ ds => decide (uptoBulkAll ds ≤ 1048576)
def OpenSpec.upto (s : _root_.Go.ChangeSpec) : _root_.Go.OpenSpec := { _root_.Go.OpenSpec.ofChange s with cond := some uptoSmall }

/-- 'covenantlaw02.LogicOrder', WHERE WHAT IT READS IS OF BULK AT MOST 1048576: true; the input reads as it did. -/
def logicOrderUptoRow : OpenClaim := { program := "ytcncjghcnofioaa", sum := "2de8a8369fa4d6c084876164682b97f8b9c3b19f728a6b4c6d4cd60c06c81828", func := "covenant/covenantlaw02.LogicOrder", spec := "logicOrder", inPlace := ["internal/bytealg.abigen_runtime_cmpstring"], unfollowed := true, recurses := true, apart := false, narrowed := true }
def LogicOrderUptoSaid : Prop := logicOrderUptoRow.holds Try.pinned (OpenSpec.upto logicOrderSpec)

/-- 'covenantlaw02.LogicNumbers', WHERE WHAT IT READS IS OF BULK AT MOST 1048576: true; the input reads as it did. -/
def logicNumbersUptoRow : OpenClaim := { program := "ytcncjghcnofioaa", sum := "2de8a8369fa4d6c084876164682b97f8b9c3b19f728a6b4c6d4cd60c06c81828", func := "covenant/covenantlaw02.LogicNumbers", spec := "logicNumbers", inPlace := ["internal/bytealg.abigen_runtime_cmpstring"], unfollowed := true, recurses := true, apart := false, narrowed := true }
def LogicNumbersUptoSaid : Prop := logicNumbersUptoRow.holds Try.pinned (OpenSpec.upto logicNumbersSpec)

/-- 'covenantlaw02.LogicLaws', WHERE WHAT IT READS IS OF BULK AT MOST 1048576: true; the input reads as it did. -/
def logicLawsUptoRow : OpenClaim := { program := "ytcncjghcnofioaa", sum := "2de8a8369fa4d6c084876164682b97f8b9c3b19f728a6b4c6d4cd60c06c81828", func := "covenant/covenantlaw02.LogicLaws", spec := "logicLaws", inPlace := ["internal/bytealg.abigen_runtime_cmpstring"], unfollowed := true, recurses := true, apart := false, narrowed := true }
def LogicLawsUptoSaid : Prop := logicLawsUptoRow.holds Try.pinned (OpenSpec.upto logicLawsSpec)

/-- 'covenantlaw02.LogicNames', WHERE WHAT IT READS IS OF BULK AT MOST 1048576: true; the input reads as it did. -/
def logicNamesUptoRow : OpenClaim := { program := "ytcncjghcnofioaa", sum := "2de8a8369fa4d6c084876164682b97f8b9c3b19f728a6b4c6d4cd60c06c81828", func := "covenant/covenantlaw02.LogicNames", spec := "logicNames", inPlace := ["internal/bytealg.abigen_runtime_cmpstring"], unfollowed := true, recurses := true, apart := false, narrowed := true }
def LogicNamesUptoSaid : Prop := logicNamesUptoRow.holds Try.pinned (OpenSpec.upto logicNamesSpec)

/-- 'covenantlaw02.LogicTells', WHERE WHAT IT READS IS OF BULK AT MOST 1048576: true; the input reads as it did. -/
def logicTellsUptoRow : OpenClaim := { program := "ytcncjghcnofioaa", sum := "2de8a8369fa4d6c084876164682b97f8b9c3b19f728a6b4c6d4cd60c06c81828", func := "covenant/covenantlaw02.LogicTells", spec := "logicTells", inPlace := ["internal/bytealg.abigen_runtime_cmpstring"], unfollowed := true, recurses := true, apart := false, narrowed := true }
def LogicTellsUptoSaid : Prop := logicTellsUptoRow.holds Try.pinned (OpenSpec.upto logicTellsSpec)

/-- 'covenantlaw02.LogicNull', WHERE WHAT IT READS IS OF BULK AT MOST 1048576: true; the input reads as it did. -/
def logicNullUptoRow : OpenClaim := { program := "ytcncjghcnofioaa", sum := "2de8a8369fa4d6c084876164682b97f8b9c3b19f728a6b4c6d4cd60c06c81828", func := "covenant/covenantlaw02.LogicNull", spec := "logicNull", inPlace := ["internal/bytealg.abigen_runtime_cmpstring"], unfollowed := true, recurses := true, apart := false, narrowed := true }
def LogicNullUptoSaid : Prop := logicNullUptoRow.holds Try.pinned (OpenSpec.upto logicNullSpec)

/-- 'covenantlaw04.SpanLists', WHERE WHAT IT READS IS OF BULK AT MOST 1048576: true; the input reads as it did. -/
def spanListsUptoRow : OpenClaim := { program := "ytcncjghcnofioaa", sum := "2de8a8369fa4d6c084876164682b97f8b9c3b19f728a6b4c6d4cd60c06c81828", func := "covenant/covenantlaw04.SpanLists", spec := "spanLists", unfollowed := true, recurses := true, apart := false, narrowed := true }
def SpanListsUptoSaid : Prop := spanListsUptoRow.holds Try.pinned (OpenSpec.upto spanListsSpec)

/-- 'covenantlaw04.SpanFirst', WHERE WHAT IT READS IS OF BULK AT MOST 1048576: true; the input reads as it did. -/
def spanFirstUptoRow : OpenClaim := { program := "ytcncjghcnofioaa", sum := "2de8a8369fa4d6c084876164682b97f8b9c3b19f728a6b4c6d4cd60c06c81828", func := "covenant/covenantlaw04.SpanFirst", spec := "spanFirst", unfollowed := true, recurses := true, apart := false, narrowed := true }
def SpanFirstUptoSaid : Prop := spanFirstUptoRow.holds Try.pinned (OpenSpec.upto spanFirstSpec)

/-- 'covenantlaw04.SpanTells', WHERE WHAT IT READS IS OF BULK AT MOST 1048576: true; the input reads as it did. -/
def spanTellsUptoRow : OpenClaim := { program := "ytcncjghcnofioaa", sum := "2de8a8369fa4d6c084876164682b97f8b9c3b19f728a6b4c6d4cd60c06c81828", func := "covenant/covenantlaw04.SpanTells", spec := "spanTells", unfollowed := true, recurses := true, apart := false, narrowed := true }
def SpanTellsUptoSaid : Prop := spanTellsUptoRow.holds Try.pinned (OpenSpec.upto spanTellsSpec)

/-- 'covenantlaw04.SpanNames', WHERE WHAT IT READS IS OF BULK AT MOST 1048576: true; the input reads as it did. -/
def spanNamesUptoRow : OpenClaim := { program := "ytcncjghcnofioaa", sum := "2de8a8369fa4d6c084876164682b97f8b9c3b19f728a6b4c6d4cd60c06c81828", func := "covenant/covenantlaw04.SpanNames", spec := "spanNames", unfollowed := true, recurses := true, apart := false, narrowed := true }
def SpanNamesUptoSaid : Prop := spanNamesUptoRow.holds Try.pinned (OpenSpec.upto spanNamesSpec)

/-- 'covenantlaw04.SpanBoth', WHERE WHAT IT READS IS OF BULK AT MOST 1048576: true; the input reads as it did. -/
def spanBothUptoRow : OpenClaim := { program := "ytcncjghcnofioaa", sum := "2de8a8369fa4d6c084876164682b97f8b9c3b19f728a6b4c6d4cd60c06c81828", func := "covenant/covenantlaw04.SpanBoth", spec := "spanBoth", unfollowed := true, recurses := true, apart := false, narrowed := true }
def SpanBothUptoSaid : Prop := spanBothUptoRow.holds Try.pinned (OpenSpec.upto spanBothSpec)

/-- 'covenantlaw04.SpanFree', WHERE WHAT IT READS IS OF BULK AT MOST 1048576: true; the input reads as it did. -/
def spanFreeUptoRow : OpenClaim := { program := "ytcncjghcnofioaa", sum := "2de8a8369fa4d6c084876164682b97f8b9c3b19f728a6b4c6d4cd60c06c81828", func := "covenant/covenantlaw04.SpanFree", spec := "spanFree", unfollowed := true, recurses := true, apart := false, narrowed := true }
def SpanFreeUptoSaid : Prop := spanFreeUptoRow.holds Try.pinned (OpenSpec.upto spanFreeSpec)

end Rows
end Go.Proofs.Ytcncjghcnofioaa
