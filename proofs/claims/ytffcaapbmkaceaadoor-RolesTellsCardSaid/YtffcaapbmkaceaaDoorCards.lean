/-
  DERIVED. GIVEN WITH THE SEED: THE CARDS: each row of YtffcaapbmkaceaaDoorRows.lean that lists a variable, with what it lists TIED to the program's text (the seventh form; the later family's looks); each row that meets fmt, with fmt's text TOLD by the authors' own Lean function (tested against real Go, not proved from fmt's source: count such statements apart). THE CARD IS WHAT COUNTS. Prove the row's statement (the work); the ties are given (YtffcaapbmkaceaaDoorTie.lean); close each card by the builder's one call (the guide's Derived/Test/ToyasCard.lean, 'card_holds'). Laid BY PROGRAM, IN A SANDBOX (cutbox-door.mjs). By AI agents, Wed Nov 11 2026. No macro, syntax, notation, axiom, sorry.
-/
import Derived.Test.YtffcaapbmkaceaaDoorRows
import GoSem.ClaimSeven
namespace Go.Proofs.YtffcaapbmkaceaaDoor
namespace Rows

/-- THE TIED CARD OF 'covenantlaw18.RolesNames'. -/
def rolesNamesCard : Claim7 := { stood := { row := rolesNamesRow, standIns := [], harness := (true, "49a233b306abe359572f2244a1e64b93b747be6917122f1b385615139d83f187"), looks := false }, kinds := [], alts := [], laidByText := true, laidKinds := [.data, .pinned], laidTests := true, laidLooks := .later }
def RolesNamesCardSaid : Prop := Claim7.holds Tryd.pinned (.plain (OpenSpec.ofChange rolesNamesSpec)) rolesNamesCard

/-- THE TIED CARD OF 'covenantlaw18.RolesOn'. -/
def rolesOnCard : Claim7 := { stood := { row := rolesOnRow, standIns := [], harness := (true, "49a233b306abe359572f2244a1e64b93b747be6917122f1b385615139d83f187"), looks := false }, kinds := [], alts := [], laidByText := true, laidKinds := [.data, .pinned], laidTests := true, laidLooks := .later }
def RolesOnCardSaid : Prop := Claim7.holds Tryd.pinned (.plain (OpenSpec.ofChange rolesOnSpec)) rolesOnCard

/-- THE TIED CARD OF 'covenantlaw18.RolesAll'. -/
def rolesAllCard : Claim7 := { stood := { row := rolesAllRow, standIns := [], harness := (true, "49a233b306abe359572f2244a1e64b93b747be6917122f1b385615139d83f187"), looks := false }, kinds := [], alts := [], laidByText := true, laidKinds := [.data, .pinned], laidTests := true, laidLooks := .later }
def RolesAllCardSaid : Prop := Claim7.holds Tryd.pinned (.plain (OpenSpec.ofChange rolesAllSpec)) rolesAllCard

/-- THE TIED CARD OF 'covenantlaw18.RolesMore'. -/
def rolesMoreCard : Claim7 := { stood := { row := rolesMoreRow, standIns := [], harness := (true, "49a233b306abe359572f2244a1e64b93b747be6917122f1b385615139d83f187"), looks := false }, kinds := [], alts := [], laidByText := true, laidKinds := [.data, .pinned], laidTests := true, laidLooks := .later }
def RolesMoreCardSaid : Prop := Claim7.holds Tryd.pinned (.plain (OpenSpec.ofChange rolesMoreSpec)) rolesMoreCard

/-- THE TIED CARD OF 'covenantlaw18.RolesTells'. -/
def rolesTellsCard : Claim7 := { stood := { row := rolesTellsRow, standIns := [], harness := (true, "49a233b306abe359572f2244a1e64b93b747be6917122f1b385615139d83f187"), looks := false }, kinds := [], alts := [], laidByText := true, laidKinds := [.data, .pinned], laidTests := true, laidLooks := .later }
def RolesTellsCardSaid : Prop := Claim7.holds Tryd.pinned (.plain (OpenSpec.ofChange rolesTellsSpec)) rolesTellsCard

/-- THE SECOND FORM's CARD OF 'covenantlaw18.RolesNames'. -/
def rolesNamesUptoCard : Claim7 := { stood := { row := rolesNamesUptoRow, standIns := [], harness := (true, "49a233b306abe359572f2244a1e64b93b747be6917122f1b385615139d83f187"), looks := false }, kinds := [], alts := [], laidByText := true, laidKinds := [.data, .pinned], laidTests := true, laidLooks := .later }
def RolesNamesUptoCardSaid : Prop := Claim7.holds Tryd.pinned (.plain (OpenSpec.upto rolesNamesSpec)) rolesNamesUptoCard

/-- THE SECOND FORM's CARD OF 'covenantlaw18.RolesOn'. -/
def rolesOnUptoCard : Claim7 := { stood := { row := rolesOnUptoRow, standIns := [], harness := (true, "49a233b306abe359572f2244a1e64b93b747be6917122f1b385615139d83f187"), looks := false }, kinds := [], alts := [], laidByText := true, laidKinds := [.data, .pinned], laidTests := true, laidLooks := .later }
def RolesOnUptoCardSaid : Prop := Claim7.holds Tryd.pinned (.plain (OpenSpec.upto rolesOnSpec)) rolesOnUptoCard

/-- THE SECOND FORM's CARD OF 'covenantlaw18.RolesAll'. -/
def rolesAllUptoCard : Claim7 := { stood := { row := rolesAllUptoRow, standIns := [], harness := (true, "49a233b306abe359572f2244a1e64b93b747be6917122f1b385615139d83f187"), looks := false }, kinds := [], alts := [], laidByText := true, laidKinds := [.data, .pinned], laidTests := true, laidLooks := .later }
def RolesAllUptoCardSaid : Prop := Claim7.holds Tryd.pinned (.plain (OpenSpec.upto rolesAllSpec)) rolesAllUptoCard

/-- THE SECOND FORM's CARD OF 'covenantlaw18.RolesMore'. -/
def rolesMoreUptoCard : Claim7 := { stood := { row := rolesMoreUptoRow, standIns := [], harness := (true, "49a233b306abe359572f2244a1e64b93b747be6917122f1b385615139d83f187"), looks := false }, kinds := [], alts := [], laidByText := true, laidKinds := [.data, .pinned], laidTests := true, laidLooks := .later }
def RolesMoreUptoCardSaid : Prop := Claim7.holds Tryd.pinned (.plain (OpenSpec.upto rolesMoreSpec)) rolesMoreUptoCard

/-- THE SECOND FORM's CARD OF 'covenantlaw18.RolesTells'. -/
def rolesTellsUptoCard : Claim7 := { stood := { row := rolesTellsUptoRow, standIns := [], harness := (true, "49a233b306abe359572f2244a1e64b93b747be6917122f1b385615139d83f187"), looks := false }, kinds := [], alts := [], laidByText := true, laidKinds := [.data, .pinned], laidTests := true, laidLooks := .later }
def RolesTellsUptoCardSaid : Prop := Claim7.holds Tryd.pinned (.plain (OpenSpec.upto rolesTellsSpec)) rolesTellsUptoCard
end Rows
end Go.Proofs.YtffcaapbmkaceaaDoor
