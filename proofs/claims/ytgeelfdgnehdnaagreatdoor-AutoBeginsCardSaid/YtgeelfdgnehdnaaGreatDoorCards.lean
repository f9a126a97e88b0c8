/-
  DERIVED. GIVEN WITH THE SEED: THE CARDS: each row of YtgeelfdgnehdnaaGreatDoorRows.lean that lists a variable, with what it lists TIED to the program's text (the seventh form; the later family's looks); each row that meets fmt, with fmt's text TOLD by the authors' own Lean function (tested against real Go, not proved from fmt's source: count such statements apart). THE CARD IS WHAT COUNTS. Prove the row's statement (the work); the ties are given (YtgeelfdgnehdnaaGreatDoorTie.lean); close each card by the builder's one call (the guide's Derived/Test/ToyasCard.lean, 'card_holds'). Laid BY PROGRAM, IN A SANDBOX (cutbox-door.mjs). By AI agents, Wed Nov 11 2026. No macro, syntax, notation, axiom, sorry.
-/
import Derived.Test.YtgeelfdgnehdnaaGreatDoorRows
import GoSem.ClaimSeven
namespace Go.Proofs.YtgeelfdgnehdnaaGreatDoor
namespace Rows

/-- THE TIED CARD OF 'beadrolllaw25.AutoBegins'. -/
def autoBeginsCard : Claim7 := { stood := { row := autoBeginsRow, standIns := [], harness := (true, "616ca171b8c2770a58f52ff9852666828478d516778972f0953b07f574bb9218"), looks := false }, kinds := [], alts := [], laidByText := true, laidKinds := [.data], laidTests := true, laidLooks := .later }
def AutoBeginsCardSaid : Prop := Claim7.holds Tryz.pinned (.plain (OpenSpec.ofChange autoBeginsSpec)) autoBeginsCard

/-- THE TIED CARD OF 'beadrolllaw15.PursePays'. -/
def pursePaysCard : Claim7 := { stood := { row := pursePaysRow, standIns := [], harness := (true, "616ca171b8c2770a58f52ff9852666828478d516778972f0953b07f574bb9218"), looks := false }, kinds := [], alts := [], laidByText := true, laidKinds := [.data], laidTests := true, laidLooks := .later }
def PursePaysCardSaid : Prop := Claim7.holds Tryz.pinned (.plain (OpenSpec.ofChange pursePaysSpec)) pursePaysCard

/-- THE TIED CARD OF 'beadrolllaw27.CallBegins'. -/
def callBeginsCard : Claim7 := { stood := { row := callBeginsRow, standIns := [], harness := (true, "616ca171b8c2770a58f52ff9852666828478d516778972f0953b07f574bb9218"), looks := false }, kinds := [], alts := [], laidByText := true, laidKinds := [.data], laidTests := true, laidLooks := .later }
def CallBeginsCardSaid : Prop := Claim7.holds Tryz.pinned (.plain (OpenSpec.ofChange callBeginsSpec)) callBeginsCard

/-- THE SECOND FORM's CARD OF 'beadrolllaw25.AutoBegins'. -/
def autoBeginsUptoCard : Claim7 := { stood := { row := autoBeginsUptoRow, standIns := [], harness := (true, "616ca171b8c2770a58f52ff9852666828478d516778972f0953b07f574bb9218"), looks := false }, kinds := [], alts := [], laidByText := true, laidKinds := [.data], laidTests := true, laidLooks := .later }
def AutoBeginsUptoCardSaid : Prop := Claim7.holds Tryz.pinned (.plain (OpenSpec.upto autoBeginsSpec)) autoBeginsUptoCard

/-- THE SECOND FORM's CARD OF 'beadrolllaw15.PursePays'. -/
def pursePaysUptoCard : Claim7 := { stood := { row := pursePaysUptoRow, standIns := [], harness := (true, "616ca171b8c2770a58f52ff9852666828478d516778972f0953b07f574bb9218"), looks := false }, kinds := [], alts := [], laidByText := true, laidKinds := [.data], laidTests := true, laidLooks := .later }
def PursePaysUptoCardSaid : Prop := Claim7.holds Tryz.pinned (.plain (OpenSpec.upto pursePaysSpec)) pursePaysUptoCard

/-- THE SECOND FORM's CARD OF 'beadrolllaw27.CallBegins'. -/
def callBeginsUptoCard : Claim7 := { stood := { row := callBeginsUptoRow, standIns := [], harness := (true, "616ca171b8c2770a58f52ff9852666828478d516778972f0953b07f574bb9218"), looks := false }, kinds := [], alts := [], laidByText := true, laidKinds := [.data], laidTests := true, laidLooks := .later }
def CallBeginsUptoCardSaid : Prop := Claim7.holds Tryz.pinned (.plain (OpenSpec.upto callBeginsSpec)) callBeginsUptoCard
end Rows
end Go.Proofs.YtgeelfdgnehdnaaGreatDoor
