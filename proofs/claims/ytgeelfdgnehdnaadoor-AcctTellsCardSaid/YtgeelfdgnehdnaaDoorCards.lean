/-
  DERIVED. GIVEN WITH THE SEED: THE CARDS: each row of YtgeelfdgnehdnaaDoorRows.lean that lists a variable, with what it lists TIED to the program's text (the seventh form; the later family's looks); each row that meets fmt, with fmt's text TOLD by the authors' own Lean function (tested against real Go, not proved from fmt's source: count such statements apart). THE CARD IS WHAT COUNTS. Prove the row's statement (the work); the ties are given (YtgeelfdgnehdnaaDoorTie.lean); close each card by the builder's one call (the guide's Derived/Test/ToyasCard.lean, 'card_holds'). Laid BY PROGRAM, IN A SANDBOX (cutbox-door.mjs). By AI agents, Wed Nov 11 2026. No macro, syntax, notation, axiom, sorry.
-/
import Derived.Test.YtgeelfdgnehdnaaDoorRows
import GoSem.ClaimSeven
namespace Go.Proofs.YtgeelfdgnehdnaaDoor
namespace Rows

/-- THE TIED CARD OF 'beadrolllaw10.AcctTells'. -/
def acctTellsCard : Claim7 := { stood := { row := acctTellsRow, standIns := [], harness := (true, "8367008cdc09ad50598f273ec3e1f6f06f355d98f53e92de3be6e3050d75b758"), looks := false }, kinds := [], alts := [], laidByText := true, laidKinds := [.data], laidTests := true, laidLooks := .later }
def AcctTellsCardSaid : Prop := Claim7.holds Tryd.pinned (.plain (OpenSpec.ofChange acctTellsSpec)) acctTellsCard

/-- THE TIED CARD OF 'beadrolllaw10.AcctNames'. -/
def acctNamesCard : Claim7 := { stood := { row := acctNamesRow, standIns := [], harness := (true, "8367008cdc09ad50598f273ec3e1f6f06f355d98f53e92de3be6e3050d75b758"), looks := false }, kinds := [], alts := [], laidByText := true, laidKinds := [.data], laidTests := true, laidLooks := .later }
def AcctNamesCardSaid : Prop := Claim7.holds Tryd.pinned (.plain (OpenSpec.ofChange acctNamesSpec)) acctNamesCard

/-- THE TIED CARD OF 'beadrolllaw15.PurseOthers'. -/
def purseOthersCard : Claim7 := { stood := { row := purseOthersRow, standIns := [], harness := (true, "8367008cdc09ad50598f273ec3e1f6f06f355d98f53e92de3be6e3050d75b758"), looks := false }, kinds := [], alts := [], laidByText := true, laidKinds := [.data], laidTests := true, laidLooks := .later }
def PurseOthersCardSaid : Prop := Claim7.holds Tryd.pinned (.plain (OpenSpec.ofChange purseOthersSpec)) purseOthersCard

/-- THE TIED CARD OF 'beadrolllaw15.PurseNames'. -/
def purseNamesCard : Claim7 := { stood := { row := purseNamesRow, standIns := [], harness := (true, "8367008cdc09ad50598f273ec3e1f6f06f355d98f53e92de3be6e3050d75b758"), looks := false }, kinds := [], alts := [], laidByText := true, laidKinds := [.data], laidTests := true, laidLooks := .later }
def PurseNamesCardSaid : Prop := Claim7.holds Tryd.pinned (.plain (OpenSpec.ofChange purseNamesSpec)) purseNamesCard

/-- THE TIED CARD OF 'beadrolllaw15.PurseKeeps'. -/
def purseKeepsCard : Claim7 := { stood := { row := purseKeepsRow, standIns := [], harness := (true, "8367008cdc09ad50598f273ec3e1f6f06f355d98f53e92de3be6e3050d75b758"), looks := false }, kinds := [], alts := [], laidByText := true, laidKinds := [.data], laidTests := true, laidLooks := .later }
def PurseKeepsCardSaid : Prop := Claim7.holds Tryd.pinned (.plain (OpenSpec.ofChange purseKeepsSpec)) purseKeepsCard

/-- THE SECOND FORM's CARD OF 'beadrolllaw10.AcctTells'. -/
def acctTellsUptoCard : Claim7 := { stood := { row := acctTellsUptoRow, standIns := [], harness := (true, "8367008cdc09ad50598f273ec3e1f6f06f355d98f53e92de3be6e3050d75b758"), looks := false }, kinds := [], alts := [], laidByText := true, laidKinds := [.data], laidTests := true, laidLooks := .later }
def AcctTellsUptoCardSaid : Prop := Claim7.holds Tryd.pinned (.plain (OpenSpec.upto acctTellsSpec)) acctTellsUptoCard

/-- THE SECOND FORM's CARD OF 'beadrolllaw10.AcctNames'. -/
def acctNamesUptoCard : Claim7 := { stood := { row := acctNamesUptoRow, standIns := [], harness := (true, "8367008cdc09ad50598f273ec3e1f6f06f355d98f53e92de3be6e3050d75b758"), looks := false }, kinds := [], alts := [], laidByText := true, laidKinds := [.data], laidTests := true, laidLooks := .later }
def AcctNamesUptoCardSaid : Prop := Claim7.holds Tryd.pinned (.plain (OpenSpec.upto acctNamesSpec)) acctNamesUptoCard

/-- THE SECOND FORM's CARD OF 'beadrolllaw15.PurseOthers'. -/
def purseOthersUptoCard : Claim7 := { stood := { row := purseOthersUptoRow, standIns := [], harness := (true, "8367008cdc09ad50598f273ec3e1f6f06f355d98f53e92de3be6e3050d75b758"), looks := false }, kinds := [], alts := [], laidByText := true, laidKinds := [.data], laidTests := true, laidLooks := .later }
def PurseOthersUptoCardSaid : Prop := Claim7.holds Tryd.pinned (.plain (OpenSpec.upto purseOthersSpec)) purseOthersUptoCard

/-- THE SECOND FORM's CARD OF 'beadrolllaw15.PurseNames'. -/
def purseNamesUptoCard : Claim7 := { stood := { row := purseNamesUptoRow, standIns := [], harness := (true, "8367008cdc09ad50598f273ec3e1f6f06f355d98f53e92de3be6e3050d75b758"), looks := false }, kinds := [], alts := [], laidByText := true, laidKinds := [.data], laidTests := true, laidLooks := .later }
def PurseNamesUptoCardSaid : Prop := Claim7.holds Tryd.pinned (.plain (OpenSpec.upto purseNamesSpec)) purseNamesUptoCard

/-- THE SECOND FORM's CARD OF 'beadrolllaw15.PurseKeeps'. -/
def purseKeepsUptoCard : Claim7 := { stood := { row := purseKeepsUptoRow, standIns := [], harness := (true, "8367008cdc09ad50598f273ec3e1f6f06f355d98f53e92de3be6e3050d75b758"), looks := false }, kinds := [], alts := [], laidByText := true, laidKinds := [.data], laidTests := true, laidLooks := .later }
def PurseKeepsUptoCardSaid : Prop := Claim7.holds Tryd.pinned (.plain (OpenSpec.upto purseKeepsSpec)) purseKeepsUptoCard
end Rows
end Go.Proofs.YtgeelfdgnehdnaaDoor
