/-
  DERIVED. GIVEN WITH THE SEED: THE CARDS: each row of YtengccmjlaejfaaDoorRows.lean that lists a variable, with what it lists TIED to the program's text (the seventh form; the later family's looks); each row that meets fmt, with fmt's text TOLD by the authors' own Lean function (tested against real Go, not proved from fmt's source: count such statements apart). THE CARD IS WHAT COUNTS. Prove the row's statement (the work); the ties are given (YtengccmjlaejfaaDoorTie.lean); close each card by the builder's one call (the guide's Derived/Test/ToyasCard.lean, 'card_holds'). Laid BY PROGRAM, IN A SANDBOX (cutbox-door.mjs). By AI agents, Wed Nov 11 2026. No macro, syntax, notation, axiom, sorry.
-/
import Derived.Test.YtengccmjlaejfaaDoorRows
import GoSem.ClaimSeven
namespace Go.Proofs.YtengccmjlaejfaaDoor
namespace Rows

/-- THE TIED CARD OF 'covenantlaw08.RuleNames'. -/
def ruleNamesCard : Claim7 := { stood := { row := ruleNamesRow, standIns := [], harness := (true, "beb333ce99a1a7dfc74db14fb62d5751325145be3e3bd6948835343b4092d133"), looks := false }, kinds := [], alts := [], laidByText := true, laidKinds := [.data, .pinned], laidTests := true, laidLooks := .later }
def RuleNamesCardSaid : Prop := Claim7.holds Tryd.pinned (.plain (OpenSpec.ofChange ruleNamesSpec)) ruleNamesCard

/-- THE TIED CARD OF 'covenantlaw08.RuleLess'. -/
def ruleLessCard : Claim7 := { stood := { row := ruleLessRow, standIns := [], harness := (true, "beb333ce99a1a7dfc74db14fb62d5751325145be3e3bd6948835343b4092d133"), looks := false }, kinds := [], alts := [], laidByText := true, laidKinds := [.data, .pinned], laidTests := true, laidLooks := .later }
def RuleLessCardSaid : Prop := Claim7.holds Tryd.pinned (.plain (OpenSpec.ofChange ruleLessSpec)) ruleLessCard

/-- THE TIED CARD OF 'covenantlaw08.RuleNamed'. -/
def ruleNamedCard : Claim7 := { stood := { row := ruleNamedRow, standIns := [], harness := (true, "beb333ce99a1a7dfc74db14fb62d5751325145be3e3bd6948835343b4092d133"), looks := false }, kinds := [], alts := [], laidByText := true, laidKinds := [.data, .pinned], laidTests := true, laidLooks := .later }
def RuleNamedCardSaid : Prop := Claim7.holds Tryd.pinned (.plain (OpenSpec.ofChange ruleNamedSpec)) ruleNamedCard

/-- THE TIED CARD OF 'covenantlaw08.RuleSame'. -/
def ruleSameCard : Claim7 := { stood := { row := ruleSameRow, standIns := [], harness := (true, "beb333ce99a1a7dfc74db14fb62d5751325145be3e3bd6948835343b4092d133"), looks := false }, kinds := [], alts := [], laidByText := true, laidKinds := [.data, .pinned], laidTests := true, laidLooks := .later }
def RuleSameCardSaid : Prop := Claim7.holds Tryd.pinned (.plain (OpenSpec.ofChange ruleSameSpec)) ruleSameCard

/-- THE SECOND FORM's CARD OF 'covenantlaw08.RuleNames'. -/
def ruleNamesUptoCard : Claim7 := { stood := { row := ruleNamesUptoRow, standIns := [], harness := (true, "beb333ce99a1a7dfc74db14fb62d5751325145be3e3bd6948835343b4092d133"), looks := false }, kinds := [], alts := [], laidByText := true, laidKinds := [.data, .pinned], laidTests := true, laidLooks := .later }
def RuleNamesUptoCardSaid : Prop := Claim7.holds Tryd.pinned (.plain (OpenSpec.upto ruleNamesSpec)) ruleNamesUptoCard

/-- THE SECOND FORM's CARD OF 'covenantlaw08.RuleLess'. -/
def ruleLessUptoCard : Claim7 := { stood := { row := ruleLessUptoRow, standIns := [], harness := (true, "beb333ce99a1a7dfc74db14fb62d5751325145be3e3bd6948835343b4092d133"), looks := false }, kinds := [], alts := [], laidByText := true, laidKinds := [.data, .pinned], laidTests := true, laidLooks := .later }
def RuleLessUptoCardSaid : Prop := Claim7.holds Tryd.pinned (.plain (OpenSpec.upto ruleLessSpec)) ruleLessUptoCard

/-- THE SECOND FORM's CARD OF 'covenantlaw08.RuleNamed'. -/
def ruleNamedUptoCard : Claim7 := { stood := { row := ruleNamedUptoRow, standIns := [], harness := (true, "beb333ce99a1a7dfc74db14fb62d5751325145be3e3bd6948835343b4092d133"), looks := false }, kinds := [], alts := [], laidByText := true, laidKinds := [.data, .pinned], laidTests := true, laidLooks := .later }
def RuleNamedUptoCardSaid : Prop := Claim7.holds Tryd.pinned (.plain (OpenSpec.upto ruleNamedSpec)) ruleNamedUptoCard

/-- THE SECOND FORM's CARD OF 'covenantlaw08.RuleSame'. -/
def ruleSameUptoCard : Claim7 := { stood := { row := ruleSameUptoRow, standIns := [], harness := (true, "beb333ce99a1a7dfc74db14fb62d5751325145be3e3bd6948835343b4092d133"), looks := false }, kinds := [], alts := [], laidByText := true, laidKinds := [.data, .pinned], laidTests := true, laidLooks := .later }
def RuleSameUptoCardSaid : Prop := Claim7.holds Tryd.pinned (.plain (OpenSpec.upto ruleSameSpec)) ruleSameUptoCard
end Rows
end Go.Proofs.YtengccmjlaejfaaDoor
