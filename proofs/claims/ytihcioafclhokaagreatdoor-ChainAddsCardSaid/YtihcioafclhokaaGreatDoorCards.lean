/-
  DERIVED. GIVEN WITH THE SEED: THE CARDS: each row of YtihcioafclhokaaGreatDoorRows.lean that lists a variable, with what it lists TIED to the program's text (the seventh form; the later family's looks); each row that meets fmt, with fmt's text TOLD by the authors' own Lean function (tested against real Go, not proved from fmt's source: count such statements apart). THE CARD IS WHAT COUNTS. Prove the row's statement (the work); the ties are given (YtihcioafclhokaaGreatDoorTie.lean); close each card by the builder's one call (the guide's Derived/Test/ToyasCard.lean, 'card_holds'). Laid BY PROGRAM, IN A SANDBOX (cutbox-door.mjs). By AI agents, Wed Nov 11 2026. No macro, syntax, notation, axiom, sorry.
-/
import Derived.Test.YtihcioafclhokaaGreatDoorRows
import GoSem.ClaimSeven
namespace Go.Proofs.YtihcioafclhokaaGreatDoor
namespace Rows

/-- THE TIED CARD OF 'beadrolllaw17.ChainTells'. -/
def chainTellsCard : Claim7 := { stood := { row := chainTellsRow, standIns := [], harness := (true, "469031f5105ce77fdc10ba8fae98a1f1445e0c9fe9444387c422e9c9b0f6f3a5"), looks := false }, kinds := [], alts := [], laidByText := true, laidKinds := [.data], laidTests := true, laidLooks := .later }
def ChainTellsCardSaid : Prop := Claim7.holds Tryz.pinned (.plain (OpenSpec.ofChange chainTellsSpec)) chainTellsCard

/-- THE TIED CARD OF 'beadrolllaw17.ChainAdds'. -/
def chainAddsCard : Claim7 := { stood := { row := chainAddsRow, standIns := [], harness := (true, "469031f5105ce77fdc10ba8fae98a1f1445e0c9fe9444387c422e9c9b0f6f3a5"), looks := false }, kinds := [], alts := [], laidByText := true, laidKinds := [.data], laidTests := true, laidLooks := .later }
def ChainAddsCardSaid : Prop := Claim7.holds Tryz.pinned (.plain (OpenSpec.ofChange chainAddsSpec)) chainAddsCard

/-- THE TIED CARD OF 'beadrolllaw18.ViewTurns'. -/
def viewTurnsCard : Claim7 := { stood := { row := viewTurnsRow, standIns := [], harness := (true, "469031f5105ce77fdc10ba8fae98a1f1445e0c9fe9444387c422e9c9b0f6f3a5"), looks := false }, kinds := [], alts := [], laidByText := true, laidKinds := [.data], laidTests := true, laidLooks := .later }
def ViewTurnsCardSaid : Prop := Claim7.holds Tryz.pinned (.plain (OpenSpec.ofChange viewTurnsSpec)) viewTurnsCard

/-- THE TIED CARD OF 'beadrolllaw25.AutoReads'. -/
def autoReadsCard : Claim7 := { stood := { row := autoReadsRow, standIns := [], harness := (true, "469031f5105ce77fdc10ba8fae98a1f1445e0c9fe9444387c422e9c9b0f6f3a5"), looks := false }, kinds := [], alts := [], laidByText := true, laidKinds := [.data], laidTests := true, laidLooks := .later }
def AutoReadsCardSaid : Prop := Claim7.holds Tryz.pinned (.plain (OpenSpec.ofChange autoReadsSpec)) autoReadsCard

/-- THE TIED CARD OF 'beadrolllaw18.ViewReads'. -/
def viewReadsCard : Claim7 := { stood := { row := viewReadsRow, standIns := [], harness := (true, "469031f5105ce77fdc10ba8fae98a1f1445e0c9fe9444387c422e9c9b0f6f3a5"), looks := false }, kinds := [], alts := [], laidByText := true, laidKinds := [.data], laidTests := true, laidLooks := .later }
def ViewReadsCardSaid : Prop := Claim7.holds Tryz.pinned (.plain (OpenSpec.ofChange viewReadsSpec)) viewReadsCard

/-- THE TIED CARD OF 'beadrolllaw27.CallBegins'. -/
def callBeginsCard : Claim7 := { stood := { row := callBeginsRow, standIns := [], harness := (true, "469031f5105ce77fdc10ba8fae98a1f1445e0c9fe9444387c422e9c9b0f6f3a5"), looks := false }, kinds := [], alts := [], laidByText := true, laidKinds := [.data], laidTests := true, laidLooks := .later }
def CallBeginsCardSaid : Prop := Claim7.holds Tryz.pinned (.plain (OpenSpec.ofChange callBeginsSpec)) callBeginsCard

/-- THE SECOND FORM's CARD OF 'beadrolllaw17.ChainTells'. -/
def chainTellsUptoCard : Claim7 := { stood := { row := chainTellsUptoRow, standIns := [], harness := (true, "469031f5105ce77fdc10ba8fae98a1f1445e0c9fe9444387c422e9c9b0f6f3a5"), looks := false }, kinds := [], alts := [], laidByText := true, laidKinds := [.data], laidTests := true, laidLooks := .later }
def ChainTellsUptoCardSaid : Prop := Claim7.holds Tryz.pinned (.plain (OpenSpec.upto chainTellsSpec)) chainTellsUptoCard

/-- THE SECOND FORM's CARD OF 'beadrolllaw17.ChainAdds'. -/
def chainAddsUptoCard : Claim7 := { stood := { row := chainAddsUptoRow, standIns := [], harness := (true, "469031f5105ce77fdc10ba8fae98a1f1445e0c9fe9444387c422e9c9b0f6f3a5"), looks := false }, kinds := [], alts := [], laidByText := true, laidKinds := [.data], laidTests := true, laidLooks := .later }
def ChainAddsUptoCardSaid : Prop := Claim7.holds Tryz.pinned (.plain (OpenSpec.upto chainAddsSpec)) chainAddsUptoCard

/-- THE SECOND FORM's CARD OF 'beadrolllaw18.ViewTurns'. -/
def viewTurnsUptoCard : Claim7 := { stood := { row := viewTurnsUptoRow, standIns := [], harness := (true, "469031f5105ce77fdc10ba8fae98a1f1445e0c9fe9444387c422e9c9b0f6f3a5"), looks := false }, kinds := [], alts := [], laidByText := true, laidKinds := [.data], laidTests := true, laidLooks := .later }
def ViewTurnsUptoCardSaid : Prop := Claim7.holds Tryz.pinned (.plain (OpenSpec.upto viewTurnsSpec)) viewTurnsUptoCard

/-- THE SECOND FORM's CARD OF 'beadrolllaw25.AutoReads'. -/
def autoReadsUptoCard : Claim7 := { stood := { row := autoReadsUptoRow, standIns := [], harness := (true, "469031f5105ce77fdc10ba8fae98a1f1445e0c9fe9444387c422e9c9b0f6f3a5"), looks := false }, kinds := [], alts := [], laidByText := true, laidKinds := [.data], laidTests := true, laidLooks := .later }
def AutoReadsUptoCardSaid : Prop := Claim7.holds Tryz.pinned (.plain (OpenSpec.upto autoReadsSpec)) autoReadsUptoCard

/-- THE SECOND FORM's CARD OF 'beadrolllaw18.ViewReads'. -/
def viewReadsUptoCard : Claim7 := { stood := { row := viewReadsUptoRow, standIns := [], harness := (true, "469031f5105ce77fdc10ba8fae98a1f1445e0c9fe9444387c422e9c9b0f6f3a5"), looks := false }, kinds := [], alts := [], laidByText := true, laidKinds := [.data], laidTests := true, laidLooks := .later }
def ViewReadsUptoCardSaid : Prop := Claim7.holds Tryz.pinned (.plain (OpenSpec.upto viewReadsSpec)) viewReadsUptoCard

/-- THE SECOND FORM's CARD OF 'beadrolllaw27.CallBegins'. -/
def callBeginsUptoCard : Claim7 := { stood := { row := callBeginsUptoRow, standIns := [], harness := (true, "469031f5105ce77fdc10ba8fae98a1f1445e0c9fe9444387c422e9c9b0f6f3a5"), looks := false }, kinds := [], alts := [], laidByText := true, laidKinds := [.data], laidTests := true, laidLooks := .later }
def CallBeginsUptoCardSaid : Prop := Claim7.holds Tryz.pinned (.plain (OpenSpec.upto callBeginsSpec)) callBeginsUptoCard
end Rows
end Go.Proofs.YtihcioafclhokaaGreatDoor
