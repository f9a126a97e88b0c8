/-
  DERIVED. GIVEN WITH THE SEED: THE CARDS: each row of YtfliaigjcadegabGreatDoorRows.lean that lists a variable, with what it lists TIED to the program's text (the seventh form; the later family's looks); each row that meets fmt, with fmt's text TOLD by the authors' own Lean function (tested against real Go, not proved from fmt's source: count such statements apart). THE CARD IS WHAT COUNTS. Prove the row's statement (the work); the ties are given (YtfliaigjcadegabGreatDoorTie.lean); close each card by the builder's one call (the guide's Derived/Test/ToyasCard.lean, 'card_holds'). Laid BY PROGRAM, IN A SANDBOX (cutbox-door.mjs). By AI agents, Wed Nov 11 2026. No macro, syntax, notation, axiom, sorry.
-/
import Derived.Test.YtfliaigjcadegabGreatDoorRows
import GoSem.ClaimSeven
namespace Go.Proofs.YtfliaigjcadegabGreatDoor
namespace Rows

/-- THE TIED CARD OF 'beadrolllaw18.ViewTurns'. -/
def viewTurnsCard : Claim7 := { stood := { row := viewTurnsRow, standIns := [], harness := (true, "099bc43e5809b1d01506e48250738e04c9d29041336bbd4f14fd7bfb00a75f1a"), looks := false }, kinds := [], alts := [], laidByText := true, laidKinds := [.data], laidTests := true, laidLooks := .later }
def ViewTurnsCardSaid : Prop := Claim7.holds Tryz.pinned (.plain (OpenSpec.ofChange viewTurnsSpec)) viewTurnsCard

/-- THE TIED CARD OF 'beadrolllaw18.ViewProves'. -/
def viewProvesCard : Claim7 := { stood := { row := viewProvesRow, standIns := [], harness := (true, "099bc43e5809b1d01506e48250738e04c9d29041336bbd4f14fd7bfb00a75f1a"), looks := false }, kinds := [], alts := [], laidByText := true, laidKinds := [.data], laidTests := true, laidLooks := .later }
def ViewProvesCardSaid : Prop := Claim7.holds Tryz.pinned (.plain (OpenSpec.ofChange viewProvesSpec)) viewProvesCard

/-- THE TIED CARD OF 'beadrolllaw27.CallBegins'. -/
def callBeginsCard : Claim7 := { stood := { row := callBeginsRow, standIns := [], harness := (true, "099bc43e5809b1d01506e48250738e04c9d29041336bbd4f14fd7bfb00a75f1a"), looks := false }, kinds := [], alts := [], laidByText := true, laidKinds := [.data], laidTests := true, laidLooks := .later }
def CallBeginsCardSaid : Prop := Claim7.holds Tryz.pinned (.plain (OpenSpec.ofChange callBeginsSpec)) callBeginsCard

/-- THE SECOND FORM's CARD OF 'beadrolllaw18.ViewTurns'. -/
def viewTurnsUptoCard : Claim7 := { stood := { row := viewTurnsUptoRow, standIns := [], harness := (true, "099bc43e5809b1d01506e48250738e04c9d29041336bbd4f14fd7bfb00a75f1a"), looks := false }, kinds := [], alts := [], laidByText := true, laidKinds := [.data], laidTests := true, laidLooks := .later }
def ViewTurnsUptoCardSaid : Prop := Claim7.holds Tryz.pinned (.plain (OpenSpec.upto viewTurnsSpec)) viewTurnsUptoCard

/-- THE SECOND FORM's CARD OF 'beadrolllaw18.ViewProves'. -/
def viewProvesUptoCard : Claim7 := { stood := { row := viewProvesUptoRow, standIns := [], harness := (true, "099bc43e5809b1d01506e48250738e04c9d29041336bbd4f14fd7bfb00a75f1a"), looks := false }, kinds := [], alts := [], laidByText := true, laidKinds := [.data], laidTests := true, laidLooks := .later }
def ViewProvesUptoCardSaid : Prop := Claim7.holds Tryz.pinned (.plain (OpenSpec.upto viewProvesSpec)) viewProvesUptoCard

/-- THE SECOND FORM's CARD OF 'beadrolllaw27.CallBegins'. -/
def callBeginsUptoCard : Claim7 := { stood := { row := callBeginsUptoRow, standIns := [], harness := (true, "099bc43e5809b1d01506e48250738e04c9d29041336bbd4f14fd7bfb00a75f1a"), looks := false }, kinds := [], alts := [], laidByText := true, laidKinds := [.data], laidTests := true, laidLooks := .later }
def CallBeginsUptoCardSaid : Prop := Claim7.holds Tryz.pinned (.plain (OpenSpec.upto callBeginsSpec)) callBeginsUptoCard
end Rows
end Go.Proofs.YtfliaigjcadegabGreatDoor
