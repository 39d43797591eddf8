/-
  NARROWER THAN 'FOR EVERY INPUT', by the rows' own cells (each row's printed sentence says how): ExprNamed: loops · ExprPut: loops · ExprTruths: loops · ExprParts: loops · ExprTyped: loops.
  DERIVED. THE GIVEN ROWS OF THIS SEAT. 5 by the template 'for every input the law returns true; each argument reads behind the call as it read before'; 0 by the template 'total and deterministic' (their statements: YtengccmjlaejfaaTotals.lean).
  GIVEN WITH THE SEED: the statements are not yours to turn. If you find one false, say at which input.
  Laid BY PROGRAM, IN A SANDBOX (cutbox-rows.mjs): the forced cells as the released guide's own fill.sh prints them over the translation 77ef929abbed87bd… (all of the seat's roots in one cut). By AI agents, Wed Nov 11 2026. No macro, syntax, notation, axiom, sorry.
-/
import Derived.Test.YtengccmjlaejfaaChecked
import GoSem.Claim
import GoSem.ClaimJoined
import GoSem.ClaimMapViews
import Derived.JoinedTies
import Derived.KernelRfl
namespace Go.Proofs.Ytengccmjlaejfaa
/- THE CELL 'sum', in the pinned program and in every row, IS THE sha256 OF THE DUMP (.gsa) THAT YtengccmjlaejfaaProg.lean LOADS. Nothing in Lean hashes anything: it is a label: what it is worth is what the hold of that sum in a sandbox is worth. -/
noncomputable def Try.pinned : Pinned := { name := "ytengccmjlaejfaa", sum := "77ef929abbed87bd8dcf34aea663137094c784b61d6888c7cb8279168993da86", checked := Try.checked }
namespace Rows
def none {H : Type} : Left H := { results := [], args := [] }

/-- 'covenantlaw03.ExprNamed': WHATEVER THE INPUT: true; the input reads as it did. -/
def exprNamedSpec : ChangeSpec := { name := "exprNamed", fn := fun _ => fun
  | [d1, d2, d3] => { results := [.lit (.bool true)], args := [d1, d2, d3] }
  | _ => none }
def exprNamedRow : OpenClaim := { program := "ytengccmjlaejfaa", sum := "77ef929abbed87bd8dcf34aea663137094c784b61d6888c7cb8279168993da86", func := "covenant/covenantlaw03.ExprNamed", spec := "exprNamed", inPlace := ["internal/bytealg.abigen_runtime_cmpstring"], unfollowed := true, recurses := true, loops := true, apart := false }
def ExprNamedSaid : Prop := exprNamedRow.holds Try.pinned (OpenSpec.ofChange exprNamedSpec)

/-- ITS FALSE NEIGHBOUR: 'it returns false'. Refute it at one input. -/
def exprNamedWrong : ChangeSpec := { name := "exprNamed", fn := fun _ => fun
  | [d1, d2, d3] => { results := [.lit (.bool false)], args := [d1, d2, d3] }
  | _ => none }
def ExprNamedWrongFalsely : Prop := exprNamedRow.holds Try.pinned (OpenSpec.ofChange exprNamedWrong)

/-- 'covenantlaw03.ExprPut': WHATEVER THE INPUT: true; the input reads as it did. -/
def exprPutSpec : ChangeSpec := { name := "exprPut", fn := fun _ => fun
  | [d1, d2] => { results := [.lit (.bool true)], args := [d1, d2] }
  | _ => none }
def exprPutRow : OpenClaim := { program := "ytengccmjlaejfaa", sum := "77ef929abbed87bd8dcf34aea663137094c784b61d6888c7cb8279168993da86", func := "covenant/covenantlaw03.ExprPut", spec := "exprPut", inPlace := ["internal/bytealg.abigen_runtime_cmpstring"], unfollowed := true, recurses := true, loops := true, apart := false }
def ExprPutSaid : Prop := exprPutRow.holds Try.pinned (OpenSpec.ofChange exprPutSpec)

/-- ITS FALSE NEIGHBOUR: 'it returns false'. Refute it at one input. -/
def exprPutWrong : ChangeSpec := { name := "exprPut", fn := fun _ => fun
  | [d1, d2] => { results := [.lit (.bool false)], args := [d1, d2] }
  | _ => none }
def ExprPutWrongFalsely : Prop := exprPutRow.holds Try.pinned (OpenSpec.ofChange exprPutWrong)

/-- 'covenantlaw03.ExprTruths': WHATEVER THE INPUT: true; the input reads as it did. -/
def exprTruthsSpec : ChangeSpec := { name := "exprTruths", fn := fun _ => fun
  | [d1, d2, d3] => { results := [.lit (.bool true)], args := [d1, d2, d3] }
  | _ => none }
def exprTruthsRow : OpenClaim := { program := "ytengccmjlaejfaa", sum := "77ef929abbed87bd8dcf34aea663137094c784b61d6888c7cb8279168993da86", func := "covenant/covenantlaw03.ExprTruths", spec := "exprTruths", inPlace := ["internal/bytealg.abigen_runtime_cmpstring"], unfollowed := true, recurses := true, loops := true, apart := false }
def ExprTruthsSaid : Prop := exprTruthsRow.holds Try.pinned (OpenSpec.ofChange exprTruthsSpec)

/-- ITS FALSE NEIGHBOUR: 'it returns false'. Refute it at one input. -/
def exprTruthsWrong : ChangeSpec := { name := "exprTruths", fn := fun _ => fun
  | [d1, d2, d3] => { results := [.lit (.bool false)], args := [d1, d2, d3] }
  | _ => none }
def ExprTruthsWrongFalsely : Prop := exprTruthsRow.holds Try.pinned (OpenSpec.ofChange exprTruthsWrong)

/-- 'covenantlaw03.ExprParts': WHATEVER THE INPUT: true; the input reads as it did. -/
def exprPartsSpec : ChangeSpec := { name := "exprParts", fn := fun _ => fun
  | [d1, d2] => { results := [.lit (.bool true)], args := [d1, d2] }
  | _ => none }
def exprPartsRow : OpenClaim := { program := "ytengccmjlaejfaa", sum := "77ef929abbed87bd8dcf34aea663137094c784b61d6888c7cb8279168993da86", func := "covenant/covenantlaw03.ExprParts", spec := "exprParts", inPlace := ["internal/bytealg.abigen_runtime_cmpstring"], unfollowed := true, recurses := true, loops := true, apart := false }
def ExprPartsSaid : Prop := exprPartsRow.holds Try.pinned (OpenSpec.ofChange exprPartsSpec)

/-- ITS FALSE NEIGHBOUR: 'it returns false'. Refute it at one input. -/
def exprPartsWrong : ChangeSpec := { name := "exprParts", fn := fun _ => fun
  | [d1, d2] => { results := [.lit (.bool false)], args := [d1, d2] }
  | _ => none }
def ExprPartsWrongFalsely : Prop := exprPartsRow.holds Try.pinned (OpenSpec.ofChange exprPartsWrong)

/-- 'covenantlaw03.ExprTyped': WHATEVER THE INPUT: true; the input reads as it did. -/
def exprTypedSpec : ChangeSpec := { name := "exprTyped", fn := fun _ => fun
  | [d1, d2, d3] => { results := [.lit (.bool true)], args := [d1, d2, d3] }
  | _ => none }
def exprTypedRow : OpenClaim := { program := "ytengccmjlaejfaa", sum := "77ef929abbed87bd8dcf34aea663137094c784b61d6888c7cb8279168993da86", func := "covenant/covenantlaw03.ExprTyped", spec := "exprTyped", inPlace := ["internal/bytealg.abigen_runtime_cmpstring"], unfollowed := true, recurses := true, loops := true, apart := false }
def ExprTypedSaid : Prop := exprTypedRow.holds Try.pinned (OpenSpec.ofChange exprTypedSpec)

/-- ITS FALSE NEIGHBOUR: 'it returns false'. Refute it at one input. -/
def exprTypedWrong : ChangeSpec := { name := "exprTyped", fn := fun _ => fun
  | [d1, d2, d3] => { results := [.lit (.bool false)], args := [d1, d2, d3] }
  | _ => none }
def ExprTypedWrongFalsely : Prop := exprTypedRow.holds Try.pinned (OpenSpec.ofChange exprTypedWrong)

/- THE SECOND FORM. 'bulk': how many values and letters a reading holds, each counted each time it is reached (what is shared counts as often as it is met; a slice's spare places count too). A statement '..UptoSaid' is the law's where the arguments, and the package variables that the reading takes, are together of bulk at most 1048576: NARROWER than '..Said'. Prove '..Said' where nothing that the law and all that it calls make is longer than what came in: it says more and counts as full. Else prove '..UptoSaid'. A law counts once. -/
mutual
def uptoBulk {H : Type} : DataW H → Nat
  | .lit (.string bytes) => bytes.length + 1
  | .lit _ => 1
  | .nil => 1
  | .ptr d => uptoBulk d + 1
  | .slice elems spare => uptoBulkAll elems + uptoBulkAll spare + 1
  | .agg parts => uptoBulkAll parts + 1
  | .iface _ d => uptoBulk d + 1
  | .map entries => uptoBulkEntries entries + 1
  | .held _ => 1
def uptoBulkAll {H : Type} : List (DataW H) → Nat
  | [] => 0
  | d :: r => uptoBulk d + uptoBulkAll r
def uptoBulkEntries {H : Type} : List (Lit × DataW H) → Nat
  | [] => 0
  | x :: r => uptoBulkEntry x + uptoBulkEntries r
def uptoBulkEntry {H : Type} : Lit × DataW H → Nat
  | (.string bytes, d) => bytes.length + uptoBulk d + 1
  | (_, d) => uptoBulk d + 1
 end
def uptoSmall : (H : Type) → List (DataW H) → Bool := fun _ ds => decide (uptoBulkAll ds ≤ 1048576)
def OpenSpec.upto (s : _root_.Go.ChangeSpec) : _root_.Go.OpenSpec := { _root_.Go.OpenSpec.ofChange s with cond := some uptoSmall }

/-- 'covenantlaw03.ExprNamed', WHERE WHAT IT READS IS OF BULK AT MOST 1048576: true; the input reads as it did. -/
def exprNamedUptoRow : OpenClaim := { program := "ytengccmjlaejfaa", sum := "77ef929abbed87bd8dcf34aea663137094c784b61d6888c7cb8279168993da86", func := "covenant/covenantlaw03.ExprNamed", spec := "exprNamed", inPlace := ["internal/bytealg.abigen_runtime_cmpstring"], unfollowed := true, recurses := true, loops := true, apart := false, narrowed := true }
def ExprNamedUptoSaid : Prop := exprNamedUptoRow.holds Try.pinned (OpenSpec.upto exprNamedSpec)

/-- 'covenantlaw03.ExprPut', WHERE WHAT IT READS IS OF BULK AT MOST 1048576: true; the input reads as it did. -/
def exprPutUptoRow : OpenClaim := { program := "ytengccmjlaejfaa", sum := "77ef929abbed87bd8dcf34aea663137094c784b61d6888c7cb8279168993da86", func := "covenant/covenantlaw03.ExprPut", spec := "exprPut", inPlace := ["internal/bytealg.abigen_runtime_cmpstring"], unfollowed := true, recurses := true, loops := true, apart := false, narrowed := true }
def ExprPutUptoSaid : Prop := exprPutUptoRow.holds Try.pinned (OpenSpec.upto exprPutSpec)

/-- 'covenantlaw03.ExprTruths', WHERE WHAT IT READS IS OF BULK AT MOST 1048576: true; the input reads as it did. -/
def exprTruthsUptoRow : OpenClaim := { program := "ytengccmjlaejfaa", sum := "77ef929abbed87bd8dcf34aea663137094c784b61d6888c7cb8279168993da86", func := "covenant/covenantlaw03.ExprTruths", spec := "exprTruths", inPlace := ["internal/bytealg.abigen_runtime_cmpstring"], unfollowed := true, recurses := true, loops := true, apart := false, narrowed := true }
def ExprTruthsUptoSaid : Prop := exprTruthsUptoRow.holds Try.pinned (OpenSpec.upto exprTruthsSpec)

/-- 'covenantlaw03.ExprParts', WHERE WHAT IT READS IS OF BULK AT MOST 1048576: true; the input reads as it did. -/
def exprPartsUptoRow : OpenClaim := { program := "ytengccmjlaejfaa", sum := "77ef929abbed87bd8dcf34aea663137094c784b61d6888c7cb8279168993da86", func := "covenant/covenantlaw03.ExprParts", spec := "exprParts", inPlace := ["internal/bytealg.abigen_runtime_cmpstring"], unfollowed := true, recurses := true, loops := true, apart := false, narrowed := true }
def ExprPartsUptoSaid : Prop := exprPartsUptoRow.holds Try.pinned (OpenSpec.upto exprPartsSpec)

/-- 'covenantlaw03.ExprTyped', WHERE WHAT IT READS IS OF BULK AT MOST 1048576: true; the input reads as it did. -/
def exprTypedUptoRow : OpenClaim := { program := "ytengccmjlaejfaa", sum := "77ef929abbed87bd8dcf34aea663137094c784b61d6888c7cb8279168993da86", func := "covenant/covenantlaw03.ExprTyped", spec := "exprTyped", inPlace := ["internal/bytealg.abigen_runtime_cmpstring"], unfollowed := true, recurses := true, loops := true, apart := false, narrowed := true }
def ExprTypedUptoSaid : Prop := exprTypedUptoRow.holds Try.pinned (OpenSpec.upto exprTypedSpec)

end Rows
end Go.Proofs.Ytengccmjlaejfaa
