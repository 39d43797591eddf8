/-
  NARROWER THAN 'FOR EVERY INPUT', by the rows' own cells (each row's printed sentence says how): RolesNames: laid · RolesOn: laid · RolesAll: laid · RolesMore: laid · RolesTells: laid.
  DERIVED. THE GIVEN ROWS OF THIS SEAT. 5 by the template 'for every input the law returns true; each argument reads behind the call as it read before'; 0 by the template 'total and deterministic' (their statements: YtffcaapbmkaceaaDoorTotals.lean).
  GIVEN WITH THE SEED: the statements are not yours to turn. If you find one false, say at which input.
  Laid BY PROGRAM, IN A SANDBOX (cutbox-rows.mjs): the forced cells as the released guide's own fill.sh prints them over the translation f5646db0867f6414… (all of the seat's roots in one cut). By AI agents, Wed Nov 11 2026. No macro, syntax, notation, axiom, sorry.
-/
import Derived.Test.YtffcaapbmkaceaaDoorChecked
import GoSem.PinnedTables
import GoSem.Claim
import GoSem.ClaimJoined
import GoSem.ClaimMapViews
import Derived.JoinedTies
import Derived.KernelRfl
namespace Go.Proofs.YtffcaapbmkaceaaDoor
/- THE CELL 'sum', in the pinned program and in every row, IS THE sha256 OF THE DUMP (.gsa) THAT YtffcaapbmkaceaaDoorProg.lean LOADS. Nothing in Lean hashes anything: it is a label: what it is worth is what the hold of that sum in a sandbox is worth. -/
noncomputable def Tryd.pinned : Pinned := { name := "ytffcaapbmkaceaadoor", sum := "f5646db0867f641426c521732f25df3a4b231bbe0718f4c7833d5d9e0ced91f1", checked := Tryd.checked }
namespace Rows
def none {H : Type} : Left H := { results := [], args := [] }

/- WHAT THE LISTED PACKAGE-LEVEL VARIABLES READ AS WHEN THE CALL BEGINS. Each datum BY PROGRAM (the guide's laid-datum.mjs) off the statement by which the dump's own 'gosem.cut.vars' lays the variable. In a bare row this is a premise. The card (YtffcaapbmkaceaaDoorCards.lean) ties it to the program's text. -/
def laid_unicode_utf8_acceptRanges {H : Type} : DataW H := .agg [.agg [.lit (.int .u8 128), .lit (.int .u8 191)], .agg [.lit (.int .u8 160), .lit (.int .u8 191)], .agg [.lit (.int .u8 128), .lit (.int .u8 159)], .agg [.lit (.int .u8 144), .lit (.int .u8 191)], .agg [.lit (.int .u8 128), .lit (.int .u8 143)], .agg [.lit (.int .u8 0), .lit (.int .u8 0)], .agg [.lit (.int .u8 0), .lit (.int .u8 0)], .agg [.lit (.int .u8 0), .lit (.int .u8 0)], .agg [.lit (.int .u8 0), .lit (.int .u8 0)], .agg [.lit (.int .u8 0), .lit (.int .u8 0)], .agg [.lit (.int .u8 0), .lit (.int .u8 0)], .agg [.lit (.int .u8 0), .lit (.int .u8 0)], .agg [.lit (.int .u8 0), .lit (.int .u8 0)], .agg [.lit (.int .u8 0), .lit (.int .u8 0)], .agg [.lit (.int .u8 0), .lit (.int .u8 0)], .agg [.lit (.int .u8 0), .lit (.int .u8 0)]]
/-- One of Go's own tables, pinned by name: the form's constant. -/
def laid_unicode_utf8_first : DataW Unit := Go.Pinned.utf8First

/-- 'covenantlaw18.RolesNames': WHATEVER THE INPUT: true; the input reads as it did. -/
def rolesNamesSpec : ChangeSpec := { name := "rolesNames", fn := fun _ => fun
  | [] => { results := [.lit (.bool true)], args := [] }
  | _ => none }
def rolesNamesRow : OpenClaim := { program := "ytffcaapbmkaceaadoor", sum := "f5646db0867f641426c521732f25df3a4b231bbe0718f4c7833d5d9e0ced91f1", func := "covenant/covenantlaw18.RolesNames", spec := "rolesNames", inPlace := ["internal/bytealg.IndexByteString", "internal/bytealg.IndexString"], unfollowed := true, recurses := true, named := ["internal/bytealg.MaxLen", "unicode/utf8.first", "unicode/utf8.acceptRanges"], apart := false, laid := [("unicode/utf8.acceptRanges", laid_unicode_utf8_acceptRanges), ("unicode/utf8.first", laid_unicode_utf8_first)] }
def RolesNamesSaid : Prop := rolesNamesRow.holds Tryd.pinned (OpenSpec.ofChange rolesNamesSpec)

/-- ITS FALSE NEIGHBOUR: 'it returns false'. Refute it at one input. -/
def rolesNamesWrong : ChangeSpec := { name := "rolesNames", fn := fun _ => fun
  | [] => { results := [.lit (.bool false)], args := [] }
  | _ => none }
def RolesNamesWrongFalsely : Prop := rolesNamesRow.holds Tryd.pinned (OpenSpec.ofChange rolesNamesWrong)

/-- 'covenantlaw18.RolesOn': WHATEVER THE INPUT: true; the input reads as it did. -/
def rolesOnSpec : ChangeSpec := { name := "rolesOn", fn := fun _ => fun
  | [d1, d2, d3, d4] => { results := [.lit (.bool true)], args := [d1, d2, d3, d4] }
  | _ => none }
def rolesOnRow : OpenClaim := { program := "ytffcaapbmkaceaadoor", sum := "f5646db0867f641426c521732f25df3a4b231bbe0718f4c7833d5d9e0ced91f1", func := "covenant/covenantlaw18.RolesOn", spec := "rolesOn", inPlace := ["internal/bytealg.IndexByteString", "internal/bytealg.IndexString"], unfollowed := true, recurses := true, named := ["internal/bytealg.MaxLen", "unicode/utf8.first", "unicode/utf8.acceptRanges"], apart := false, laid := [("unicode/utf8.acceptRanges", laid_unicode_utf8_acceptRanges), ("unicode/utf8.first", laid_unicode_utf8_first)] }
def RolesOnSaid : Prop := rolesOnRow.holds Tryd.pinned (OpenSpec.ofChange rolesOnSpec)

/-- ITS FALSE NEIGHBOUR: 'it returns false'. Refute it at one input. -/
def rolesOnWrong : ChangeSpec := { name := "rolesOn", fn := fun _ => fun
  | [d1, d2, d3, d4] => { results := [.lit (.bool false)], args := [d1, d2, d3, d4] }
  | _ => none }
def RolesOnWrongFalsely : Prop := rolesOnRow.holds Tryd.pinned (OpenSpec.ofChange rolesOnWrong)

/-- 'covenantlaw18.RolesAll': WHATEVER THE INPUT: true; the input reads as it did. -/
def rolesAllSpec : ChangeSpec := { name := "rolesAll", fn := fun _ => fun
  | [d1, d2, d3] => { results := [.lit (.bool true)], args := [d1, d2, d3] }
  | _ => none }
def rolesAllRow : OpenClaim := { program := "ytffcaapbmkaceaadoor", sum := "f5646db0867f641426c521732f25df3a4b231bbe0718f4c7833d5d9e0ced91f1", func := "covenant/covenantlaw18.RolesAll", spec := "rolesAll", inPlace := ["internal/bytealg.IndexByteString", "internal/bytealg.IndexString"], unfollowed := true, recurses := true, named := ["internal/bytealg.MaxLen", "unicode/utf8.first", "unicode/utf8.acceptRanges"], apart := false, laid := [("unicode/utf8.acceptRanges", laid_unicode_utf8_acceptRanges), ("unicode/utf8.first", laid_unicode_utf8_first)] }
def RolesAllSaid : Prop := rolesAllRow.holds Tryd.pinned (OpenSpec.ofChange rolesAllSpec)

/-- ITS FALSE NEIGHBOUR: 'it returns false'. Refute it at one input. -/
def rolesAllWrong : ChangeSpec := { name := "rolesAll", fn := fun _ => fun
  | [d1, d2, d3] => { results := [.lit (.bool false)], args := [d1, d2, d3] }
  | _ => none }
def RolesAllWrongFalsely : Prop := rolesAllRow.holds Tryd.pinned (OpenSpec.ofChange rolesAllWrong)

/-- 'covenantlaw18.RolesMore': WHATEVER THE INPUT: true; the input reads as it did. -/
def rolesMoreSpec : ChangeSpec := { name := "rolesMore", fn := fun _ => fun
  | [d1, d2, d3, d4, d5] => { results := [.lit (.bool true)], args := [d1, d2, d3, d4, d5] }
  | _ => none }
def rolesMoreRow : OpenClaim := { program := "ytffcaapbmkaceaadoor", sum := "f5646db0867f641426c521732f25df3a4b231bbe0718f4c7833d5d9e0ced91f1", func := "covenant/covenantlaw18.RolesMore", spec := "rolesMore", inPlace := ["internal/bytealg.IndexByteString", "internal/bytealg.IndexString"], unfollowed := true, recurses := true, named := ["internal/bytealg.MaxLen", "unicode/utf8.first", "unicode/utf8.acceptRanges"], apart := false, laid := [("unicode/utf8.acceptRanges", laid_unicode_utf8_acceptRanges), ("unicode/utf8.first", laid_unicode_utf8_first)] }
def RolesMoreSaid : Prop := rolesMoreRow.holds Tryd.pinned (OpenSpec.ofChange rolesMoreSpec)

/-- ITS FALSE NEIGHBOUR: 'it returns false'. Refute it at one input. -/
def rolesMoreWrong : ChangeSpec := { name := "rolesMore", fn := fun _ => fun
  | [d1, d2, d3, d4, d5] => { results := [.lit (.bool false)], args := [d1, d2, d3, d4, d5] }
  | _ => none }
def RolesMoreWrongFalsely : Prop := rolesMoreRow.holds Tryd.pinned (OpenSpec.ofChange rolesMoreWrong)

/-- 'covenantlaw18.RolesTells': WHATEVER THE INPUT: true; the input reads as it did. -/
def rolesTellsSpec : ChangeSpec := { name := "rolesTells", fn := fun _ => fun
  | [d1, d2, d3] => { results := [.lit (.bool true)], args := [d1, d2, d3] }
  | _ => none }
def rolesTellsRow : OpenClaim := { program := "ytffcaapbmkaceaadoor", sum := "f5646db0867f641426c521732f25df3a4b231bbe0718f4c7833d5d9e0ced91f1", func := "covenant/covenantlaw18.RolesTells", spec := "rolesTells", inPlace := ["internal/bytealg.IndexByteString", "internal/bytealg.IndexString"], unfollowed := true, recurses := true, named := ["internal/bytealg.MaxLen", "unicode/utf8.first", "unicode/utf8.acceptRanges"], apart := false, laid := [("unicode/utf8.acceptRanges", laid_unicode_utf8_acceptRanges), ("unicode/utf8.first", laid_unicode_utf8_first)] }
def RolesTellsSaid : Prop := rolesTellsRow.holds Tryd.pinned (OpenSpec.ofChange rolesTellsSpec)

/-- ITS FALSE NEIGHBOUR: 'it returns false'. Refute it at one input. -/
def rolesTellsWrong : ChangeSpec := { name := "rolesTells", fn := fun _ => fun
  | [d1, d2, d3] => { results := [.lit (.bool false)], args := [d1, d2, d3] }
  | _ => none }
def RolesTellsWrongFalsely : Prop := rolesTellsRow.holds Tryd.pinned (OpenSpec.ofChange rolesTellsWrong)

/- THE SECOND FORM. 'bulk': how many values and letters a reading holds, each counted each time it is reached (what is shared counts as often as it is met; a slice's spare places count too). A statement '..UptoSaid' is the law's where the arguments, and the package variables that the reading takes, are together of bulk at most 1048576: NARROWER than '..Said'. Prove '..Said' where nothing that the law and all that it calls make is longer than what came in: it says more and counts as full. Else prove '..UptoSaid'. A law counts once. -/
mutual
def uptoBulk {H : Type} : DataW H → Nat
  | .lit (.string bytes) => bytes.length + 1
  | .lit _ => 1
  | .nil => 1
  | .ptr d => uptoBulk d + 1
  | .slice elems spare => uptoBulkAll elems + uptoBulkAll spare + 1
  | .agg parts => uptoBulkAll parts + 1
  | .iface _ d => uptoBulk d + 1
  | .map entries => uptoBulkEntries entries + 1
  | .held _ => 1
def uptoBulkAll {H : Type} : List (DataW H) → Nat
  | [] => 0
  | d :: r => uptoBulk d + uptoBulkAll r
def uptoBulkEntries {H : Type} : List (Lit × DataW H) → Nat
  | [] => 0
  | x :: r => uptoBulkEntry x + uptoBulkEntries r
def uptoBulkEntry {H : Type} : Lit × DataW H → Nat
  | (.string bytes, d) => bytes.length + uptoBulk d + 1
  | (_, d) => uptoBulk d + 1
 end
def uptoSmall : (H : Type) → List (DataW H) → Bool := fun _ ds => decide (uptoBulkAll ds ≤ 1048576)
def OpenSpec.upto (s : _root_.Go.ChangeSpec) : _root_.Go.OpenSpec := { _root_.Go.OpenSpec.ofChange s with cond := some uptoSmall }

/-- 'covenantlaw18.RolesNames', WHERE WHAT IT READS IS OF BULK AT MOST 1048576: true; the input reads as it did. -/
def rolesNamesUptoRow : OpenClaim := { program := "ytffcaapbmkaceaadoor", sum := "f5646db0867f641426c521732f25df3a4b231bbe0718f4c7833d5d9e0ced91f1", func := "covenant/covenantlaw18.RolesNames", spec := "rolesNames", inPlace := ["internal/bytealg.IndexByteString", "internal/bytealg.IndexString"], unfollowed := true, recurses := true, named := ["internal/bytealg.MaxLen", "unicode/utf8.first", "unicode/utf8.acceptRanges"], apart := false, laid := [("unicode/utf8.acceptRanges", laid_unicode_utf8_acceptRanges), ("unicode/utf8.first", laid_unicode_utf8_first)], narrowed := true }
def RolesNamesUptoSaid : Prop := rolesNamesUptoRow.holds Tryd.pinned (OpenSpec.upto rolesNamesSpec)

/-- 'covenantlaw18.RolesOn', WHERE WHAT IT READS IS OF BULK AT MOST 1048576: true; the input reads as it did. -/
def rolesOnUptoRow : OpenClaim := { program := "ytffcaapbmkaceaadoor", sum := "f5646db0867f641426c521732f25df3a4b231bbe0718f4c7833d5d9e0ced91f1", func := "covenant/covenantlaw18.RolesOn", spec := "rolesOn", inPlace := ["internal/bytealg.IndexByteString", "internal/bytealg.IndexString"], unfollowed := true, recurses := true, named := ["internal/bytealg.MaxLen", "unicode/utf8.first", "unicode/utf8.acceptRanges"], apart := false, laid := [("unicode/utf8.acceptRanges", laid_unicode_utf8_acceptRanges), ("unicode/utf8.first", laid_unicode_utf8_first)], narrowed := true }
def RolesOnUptoSaid : Prop := rolesOnUptoRow.holds Tryd.pinned (OpenSpec.upto rolesOnSpec)

/-- 'covenantlaw18.RolesAll', WHERE WHAT IT READS IS OF BULK AT MOST 1048576: true; the input reads as it did. -/
def rolesAllUptoRow : OpenClaim := { program := "ytffcaapbmkaceaadoor", sum := "f5646db0867f641426c521732f25df3a4b231bbe0718f4c7833d5d9e0ced91f1", func := "covenant/covenantlaw18.RolesAll", spec := "rolesAll", inPlace := ["internal/bytealg.IndexByteString", "internal/bytealg.IndexString"], unfollowed := true, recurses := true, named := ["internal/bytealg.MaxLen", "unicode/utf8.first", "unicode/utf8.acceptRanges"], apart := false, laid := [("unicode/utf8.acceptRanges", laid_unicode_utf8_acceptRanges), ("unicode/utf8.first", laid_unicode_utf8_first)], narrowed := true }
def RolesAllUptoSaid : Prop := rolesAllUptoRow.holds Tryd.pinned (OpenSpec.upto rolesAllSpec)

/-- 'covenantlaw18.RolesMore', WHERE WHAT IT READS IS OF BULK AT MOST 1048576: true; the input reads as it did. -/
def rolesMoreUptoRow : OpenClaim := { program := "ytffcaapbmkaceaadoor", sum := "f5646db0867f641426c521732f25df3a4b231bbe0718f4c7833d5d9e0ced91f1", func := "covenant/covenantlaw18.RolesMore", spec := "rolesMore", inPlace := ["internal/bytealg.IndexByteString", "internal/bytealg.IndexString"], unfollowed := true, recurses := true, named := ["internal/bytealg.MaxLen", "unicode/utf8.first", "unicode/utf8.acceptRanges"], apart := false, laid := [("unicode/utf8.acceptRanges", laid_unicode_utf8_acceptRanges), ("unicode/utf8.first", laid_unicode_utf8_first)], narrowed := true }
def RolesMoreUptoSaid : Prop := rolesMoreUptoRow.holds Tryd.pinned (OpenSpec.upto rolesMoreSpec)

/-- 'covenantlaw18.RolesTells', WHERE WHAT IT READS IS OF BULK AT MOST 1048576: true; the input reads as it did. -/
def rolesTellsUptoRow : OpenClaim := { program := "ytffcaapbmkaceaadoor", sum := "f5646db0867f641426c521732f25df3a4b231bbe0718f4c7833d5d9e0ced91f1", func := "covenant/covenantlaw18.RolesTells", spec := "rolesTells", inPlace := ["internal/bytealg.IndexByteString", "internal/bytealg.IndexString"], unfollowed := true, recurses := true, named := ["internal/bytealg.MaxLen", "unicode/utf8.first", "unicode/utf8.acceptRanges"], apart := false, laid := [("unicode/utf8.acceptRanges", laid_unicode_utf8_acceptRanges), ("unicode/utf8.first", laid_unicode_utf8_first)], narrowed := true }
def RolesTellsUptoSaid : Prop := rolesTellsUptoRow.holds Tryd.pinned (OpenSpec.upto rolesTellsSpec)

end Rows
end Go.Proofs.YtffcaapbmkaceaaDoor
