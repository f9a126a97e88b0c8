/-
  DERIVED. GIVEN WITH THE SEED: THE CARDS: each row of YthicobhmmikngaaGreatDoorRows.lean that lists a variable, with what it lists TIED to the program's text (the seventh form; the later family's looks); each row that meets fmt, with fmt's text TOLD by the authors' own Lean function (tested against real Go, not proved from fmt's source: count such statements apart). THE CARD IS WHAT COUNTS. Prove the row's statement (the work); the ties are given (YthicobhmmikngaaGreatDoorTie.lean); close each card by the builder's one call (the guide's Derived/Test/ToyasCard.lean, 'card_holds'). Laid BY PROGRAM, IN A SANDBOX (cutbox-door.mjs). By AI agents, Wed Nov 11 2026. No macro, syntax, notation, axiom, sorry.
-/
import Derived.Test.YthicobhmmikngaaGreatDoorRows
import GoSem.ClaimSeven
namespace Go.Proofs.YthicobhmmikngaaGreatDoor
namespace Rows

/-- THE TIED CARD OF 'beadrolllaw32.TaleNames'. -/
def taleNamesCard : Claim7 := { stood := { row := taleNamesRow, standIns := [], harness := (true, "9277fbebf3b75dc268dc7a59edd20c91f815a3793233483233e6d8f38257848b"), looks := true }, kinds := [], alts := [], laidByText := true, laidKinds := [.data, .data, .data, .data, .sentinel, .sentinel, .data, .pinned], laidTests := true, laidLooks := .later }
def TaleNamesCardSaid : Prop := Claim7.holds Tryz.pinned (.plain (OpenSpec.ofChange taleNamesSpec)) taleNamesCard

/-- THE SECOND FORM's CARD OF 'beadrolllaw32.TaleNames'. -/
def taleNamesUptoCard : Claim7 := { stood := { row := taleNamesUptoRow, standIns := [], harness := (true, "9277fbebf3b75dc268dc7a59edd20c91f815a3793233483233e6d8f38257848b"), looks := true }, kinds := [], alts := [], laidByText := true, laidKinds := [.data, .data, .data, .data, .sentinel, .sentinel, .data, .pinned], laidTests := true, laidLooks := .later }
def TaleNamesUptoCardSaid : Prop := Claim7.holds Tryz.pinned (.plain (OpenSpec.upto taleNamesSpec)) taleNamesUptoCard
end Rows
end Go.Proofs.YthicobhmmikngaaGreatDoor
