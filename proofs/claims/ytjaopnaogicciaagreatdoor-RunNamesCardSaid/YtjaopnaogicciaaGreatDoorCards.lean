/-
  DERIVED. GIVEN WITH THE SEED: THE CARDS: each row of YtjaopnaogicciaaGreatDoorRows.lean that lists a variable, with what it lists TIED to the program's text (the seventh form; the later family's looks); each row that meets fmt, with fmt's text TOLD by the authors' own Lean function (tested against real Go, not proved from fmt's source: count such statements apart). THE CARD IS WHAT COUNTS. Prove the row's statement (the work); the ties are given (YtjaopnaogicciaaGreatDoorTie.lean); close each card by the builder's one call (the guide's Derived/Test/ToyasCard.lean, 'card_holds'). Laid BY PROGRAM, IN A SANDBOX (cutbox-door.mjs). By AI agents, Wed Nov 11 2026. No macro, syntax, notation, axiom, sorry.
-/
import Derived.Test.YtjaopnaogicciaaGreatDoorRows
import GoSem.ClaimSeven
namespace Go.Proofs.YtjaopnaogicciaaGreatDoor
namespace Rows

/-- THE TIED CARD OF 'beadrolllaw28.ExecNames'. -/
def execNamesCard : Claim7 := { stood := { row := execNamesRow, standIns := [], harness := (true, "38b7ca8952648b2d18ef42986302c1f247fe753251fa4a44d31f95cc107d2d6d"), looks := true }, kinds := [], alts := [], laidByText := true, laidKinds := [.data, .data], laidTests := true, laidLooks := .later }
def ExecNamesCardSaid : Prop := Claim7.holds Tryz.pinned (.plain (OpenSpec.ofChange execNamesSpec)) execNamesCard

/-- THE TIED CARD OF 'beadrolllaw29.NodeNames'. -/
def nodeNamesCard : Claim7 := { stood := { row := nodeNamesRow, standIns := [], harness := (true, "38b7ca8952648b2d18ef42986302c1f247fe753251fa4a44d31f95cc107d2d6d"), looks := true }, kinds := [], alts := [], laidByText := true, laidKinds := [.data], laidTests := true, laidLooks := .later }
def NodeNamesCardSaid : Prop := Claim7.holds Tryz.pinned (.plain (OpenSpec.ofChange nodeNamesSpec)) nodeNamesCard

/-- THE TIED CARD OF 'beadrolllaw31.RunNames'. -/
def runNamesCard : Claim7 := { stood := { row := runNamesRow, standIns := [], harness := (true, "38b7ca8952648b2d18ef42986302c1f247fe753251fa4a44d31f95cc107d2d6d"), looks := true }, kinds := [], alts := [], laidByText := true, laidKinds := [.data], laidTests := true, laidLooks := .later }
def RunNamesCardSaid : Prop := Claim7.holds Tryz.pinned (.plain (OpenSpec.ofChange runNamesSpec)) runNamesCard

/-- THE SECOND FORM's CARD OF 'beadrolllaw28.ExecNames'. -/
def execNamesUptoCard : Claim7 := { stood := { row := execNamesUptoRow, standIns := [], harness := (true, "38b7ca8952648b2d18ef42986302c1f247fe753251fa4a44d31f95cc107d2d6d"), looks := true }, kinds := [], alts := [], laidByText := true, laidKinds := [.data, .data], laidTests := true, laidLooks := .later }
def ExecNamesUptoCardSaid : Prop := Claim7.holds Tryz.pinned (.plain (OpenSpec.upto execNamesSpec)) execNamesUptoCard

/-- THE SECOND FORM's CARD OF 'beadrolllaw29.NodeNames'. -/
def nodeNamesUptoCard : Claim7 := { stood := { row := nodeNamesUptoRow, standIns := [], harness := (true, "38b7ca8952648b2d18ef42986302c1f247fe753251fa4a44d31f95cc107d2d6d"), looks := true }, kinds := [], alts := [], laidByText := true, laidKinds := [.data], laidTests := true, laidLooks := .later }
def NodeNamesUptoCardSaid : Prop := Claim7.holds Tryz.pinned (.plain (OpenSpec.upto nodeNamesSpec)) nodeNamesUptoCard

/-- THE SECOND FORM's CARD OF 'beadrolllaw31.RunNames'. -/
def runNamesUptoCard : Claim7 := { stood := { row := runNamesUptoRow, standIns := [], harness := (true, "38b7ca8952648b2d18ef42986302c1f247fe753251fa4a44d31f95cc107d2d6d"), looks := true }, kinds := [], alts := [], laidByText := true, laidKinds := [.data], laidTests := true, laidLooks := .later }
def RunNamesUptoCardSaid : Prop := Claim7.holds Tryz.pinned (.plain (OpenSpec.upto runNamesSpec)) runNamesUptoCard
end Rows
end Go.Proofs.YtjaopnaogicciaaGreatDoor
