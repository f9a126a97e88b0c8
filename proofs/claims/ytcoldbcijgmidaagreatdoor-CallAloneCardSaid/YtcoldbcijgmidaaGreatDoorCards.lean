/-
  DERIVED. GIVEN WITH THE SEED: THE CARDS: each row of YtcoldbcijgmidaaGreatDoorRows.lean that lists a variable, with what it lists TIED to the program's text (the seventh form; the later family's looks); each row that meets fmt, with fmt's text TOLD by the authors' own Lean function (tested against real Go, not proved from fmt's source: count such statements apart). THE CARD IS WHAT COUNTS. Prove the row's statement (the work); the ties are given (YtcoldbcijgmidaaGreatDoorTie.lean); close each card by the builder's one call (the guide's Derived/Test/ToyasCard.lean, 'card_holds'). Laid BY PROGRAM, IN A SANDBOX (cutbox-door.mjs). By AI agents, Wed Nov 11 2026. No macro, syntax, notation, axiom, sorry.
-/
import Derived.Test.YtcoldbcijgmidaaGreatDoorRows
import GoSem.ClaimSeven
namespace Go.Proofs.YtcoldbcijgmidaaGreatDoor
namespace Rows

/-- THE TIED CARD OF 'beadrolllaw27.CallAlone'. -/
def callAloneCard : Claim7 := { stood := { row := callAloneRow, standIns := [], harness := (true, "f67663d06f3781dacf3b331d4a6faaebbdaa3bc82f9de05e65092aa361f563d2"), looks := true }, kinds := [], alts := [], laidByText := true, laidKinds := [.data, .data], laidTests := true, laidLooks := .later }
def CallAloneCardSaid : Prop := Claim7.holds Tryz.pinned (.plain (OpenSpec.ofChange callAloneSpec)) callAloneCard

/-- THE SECOND FORM's CARD OF 'beadrolllaw27.CallAlone'. -/
def callAloneUptoCard : Claim7 := { stood := { row := callAloneUptoRow, standIns := [], harness := (true, "f67663d06f3781dacf3b331d4a6faaebbdaa3bc82f9de05e65092aa361f563d2"), looks := true }, kinds := [], alts := [], laidByText := true, laidKinds := [.data, .data], laidTests := true, laidLooks := .later }
def CallAloneUptoCardSaid : Prop := Claim7.holds Tryz.pinned (.plain (OpenSpec.upto callAloneSpec)) callAloneUptoCard
end Rows
end Go.Proofs.YtcoldbcijgmidaaGreatDoor
