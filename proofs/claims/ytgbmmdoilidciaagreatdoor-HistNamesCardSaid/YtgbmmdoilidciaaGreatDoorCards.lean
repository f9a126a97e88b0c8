/-
  DERIVED. GIVEN WITH THE SEED: THE CARDS: each row of YtgbmmdoilidciaaGreatDoorRows.lean that lists a variable, with what it lists TIED to the program's text (the seventh form; the later family's looks); each row that meets fmt, with fmt's text TOLD by the authors' own Lean function (tested against real Go, not proved from fmt's source: count such statements apart). THE CARD IS WHAT COUNTS. Prove the row's statement (the work); the ties are given (YtgbmmdoilidciaaGreatDoorTie.lean); close each card by the builder's one call (the guide's Derived/Test/ToyasCard.lean, 'card_holds'). Laid BY PROGRAM, IN A SANDBOX (cutbox-door.mjs). By AI agents, Wed Nov 11 2026. No macro, syntax, notation, axiom, sorry.
-/
import Derived.Test.YtgbmmdoilidciaaGreatDoorRows
import GoSem.ClaimSeven
namespace Go.Proofs.YtgbmmdoilidciaaGreatDoor
namespace Rows

/-- THE TIED CARD OF 'beadrolllaw16.BlockNames'. -/
def blockNamesCard : Claim7 := { stood := { row := blockNamesRow, standIns := [], harness := (true, "ddcde878f7d6e8318b378c594cc8f24ebf57ea6bedb9ce618e66b218a9982380"), looks := true }, kinds := [], alts := [], laidByText := true, laidKinds := [.data], laidTests := true, laidLooks := .later }
def BlockNamesCardSaid : Prop := Claim7.holds Tryz.pinned (.plain (OpenSpec.ofChange blockNamesSpec)) blockNamesCard

/-- THE TIED CARD OF 'beadrolllaw17.ChainNames'. -/
def chainNamesCard : Claim7 := { stood := { row := chainNamesRow, standIns := [], harness := (true, "ddcde878f7d6e8318b378c594cc8f24ebf57ea6bedb9ce618e66b218a9982380"), looks := true }, kinds := [], alts := [], laidByText := true, laidKinds := [.data], laidTests := true, laidLooks := .later }
def ChainNamesCardSaid : Prop := Claim7.holds Tryz.pinned (.plain (OpenSpec.ofChange chainNamesSpec)) chainNamesCard

/-- THE TIED CARD OF 'beadrolllaw18.ViewNames'. -/
def viewNamesCard : Claim7 := { stood := { row := viewNamesRow, standIns := [], harness := (true, "ddcde878f7d6e8318b378c594cc8f24ebf57ea6bedb9ce618e66b218a9982380"), looks := true }, kinds := [], alts := [], laidByText := true, laidKinds := [.data], laidTests := true, laidLooks := .later }
def ViewNamesCardSaid : Prop := Claim7.holds Tryz.pinned (.plain (OpenSpec.ofChange viewNamesSpec)) viewNamesCard

/-- THE TIED CARD OF 'beadrolllaw30.HistNames'. -/
def histNamesCard : Claim7 := { stood := { row := histNamesRow, standIns := [], harness := (true, "ddcde878f7d6e8318b378c594cc8f24ebf57ea6bedb9ce618e66b218a9982380"), looks := true }, kinds := [], alts := [], laidByText := true, laidKinds := [.data, .data], laidTests := true, laidLooks := .later }
def HistNamesCardSaid : Prop := Claim7.holds Tryz.pinned (.plain (OpenSpec.ofChange histNamesSpec)) histNamesCard

/-- THE SECOND FORM's CARD OF 'beadrolllaw16.BlockNames'. -/
def blockNamesUptoCard : Claim7 := { stood := { row := blockNamesUptoRow, standIns := [], harness := (true, "ddcde878f7d6e8318b378c594cc8f24ebf57ea6bedb9ce618e66b218a9982380"), looks := true }, kinds := [], alts := [], laidByText := true, laidKinds := [.data], laidTests := true, laidLooks := .later }
def BlockNamesUptoCardSaid : Prop := Claim7.holds Tryz.pinned (.plain (OpenSpec.upto blockNamesSpec)) blockNamesUptoCard

/-- THE SECOND FORM's CARD OF 'beadrolllaw17.ChainNames'. -/
def chainNamesUptoCard : Claim7 := { stood := { row := chainNamesUptoRow, standIns := [], harness := (true, "ddcde878f7d6e8318b378c594cc8f24ebf57ea6bedb9ce618e66b218a9982380"), looks := true }, kinds := [], alts := [], laidByText := true, laidKinds := [.data], laidTests := true, laidLooks := .later }
def ChainNamesUptoCardSaid : Prop := Claim7.holds Tryz.pinned (.plain (OpenSpec.upto chainNamesSpec)) chainNamesUptoCard

/-- THE SECOND FORM's CARD OF 'beadrolllaw18.ViewNames'. -/
def viewNamesUptoCard : Claim7 := { stood := { row := viewNamesUptoRow, standIns := [], harness := (true, "ddcde878f7d6e8318b378c594cc8f24ebf57ea6bedb9ce618e66b218a9982380"), looks := true }, kinds := [], alts := [], laidByText := true, laidKinds := [.data], laidTests := true, laidLooks := .later }
def ViewNamesUptoCardSaid : Prop := Claim7.holds Tryz.pinned (.plain (OpenSpec.upto viewNamesSpec)) viewNamesUptoCard

/-- THE SECOND FORM's CARD OF 'beadrolllaw30.HistNames'. -/
def histNamesUptoCard : Claim7 := { stood := { row := histNamesUptoRow, standIns := [], harness := (true, "ddcde878f7d6e8318b378c594cc8f24ebf57ea6bedb9ce618e66b218a9982380"), looks := true }, kinds := [], alts := [], laidByText := true, laidKinds := [.data, .data], laidTests := true, laidLooks := .later }
def HistNamesUptoCardSaid : Prop := Claim7.holds Tryz.pinned (.plain (OpenSpec.upto histNamesSpec)) histNamesUptoCard
end Rows
end Go.Proofs.YtgbmmdoilidciaaGreatDoor
