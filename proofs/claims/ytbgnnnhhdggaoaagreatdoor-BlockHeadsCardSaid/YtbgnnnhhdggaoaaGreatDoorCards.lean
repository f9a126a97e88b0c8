/-
  DERIVED. GIVEN WITH THE SEED: THE CARDS: each row of YtbgnnnhhdggaoaaGreatDoorRows.lean that lists a variable, with what it lists TIED to the program's text (the seventh form; the later family's looks); each row that meets fmt, with fmt's text TOLD by the authors' own Lean function (tested against real Go, not proved from fmt's source: count such statements apart). THE CARD IS WHAT COUNTS. Prove the row's statement (the work); the ties are given (YtbgnnnhhdggaoaaGreatDoorTie.lean); close each card by the builder's one call (the guide's Derived/Test/ToyasCard.lean, 'card_holds'). Laid BY PROGRAM, IN A SANDBOX (cutbox-door.mjs). By AI agents, Wed Nov 11 2026. No macro, syntax, notation, axiom, sorry.
-/
import Derived.Test.YtbgnnnhhdggaoaaGreatDoorRows
import GoSem.ClaimSeven
namespace Go.Proofs.YtbgnnnhhdggaoaaGreatDoor
namespace Rows

/-- THE TIED CARD OF 'beadrolllaw16.BlockApplies'. -/
def blockAppliesCard : Claim7 := { stood := { row := blockAppliesRow, standIns := [], harness := (true, "429d77528ee9b701692b2033f1913e1f9832792de7c18a14213791df5875a626"), looks := false }, kinds := [], alts := [], laidByText := true, laidKinds := [.data], laidTests := true, laidLooks := .later }
def BlockAppliesCardSaid : Prop := Claim7.holds Tryz.pinned (.plain (OpenSpec.ofChange blockAppliesSpec)) blockAppliesCard

/-- THE TIED CARD OF 'beadrolllaw16.BlockHeads'. -/
def blockHeadsCard : Claim7 := { stood := { row := blockHeadsRow, standIns := [], harness := (true, "429d77528ee9b701692b2033f1913e1f9832792de7c18a14213791df5875a626"), looks := false }, kinds := [], alts := [], laidByText := true, laidKinds := [.data], laidTests := true, laidLooks := .later }
def BlockHeadsCardSaid : Prop := Claim7.holds Tryz.pinned (.plain (OpenSpec.ofChange blockHeadsSpec)) blockHeadsCard

/-- THE TIED CARD OF 'beadrolllaw16.BlockParts'. -/
def blockPartsCard : Claim7 := { stood := { row := blockPartsRow, standIns := [], harness := (true, "429d77528ee9b701692b2033f1913e1f9832792de7c18a14213791df5875a626"), looks := false }, kinds := [], alts := [], laidByText := true, laidKinds := [.data], laidTests := true, laidLooks := .later }
def BlockPartsCardSaid : Prop := Claim7.holds Tryz.pinned (.plain (OpenSpec.ofChange blockPartsSpec)) blockPartsCard

/-- THE TIED CARD OF 'beadrolllaw16.BlockKeeps'. -/
def blockKeepsCard : Claim7 := { stood := { row := blockKeepsRow, standIns := [], harness := (true, "429d77528ee9b701692b2033f1913e1f9832792de7c18a14213791df5875a626"), looks := false }, kinds := [], alts := [], laidByText := true, laidKinds := [.data], laidTests := true, laidLooks := .later }
def BlockKeepsCardSaid : Prop := Claim7.holds Tryz.pinned (.plain (OpenSpec.ofChange blockKeepsSpec)) blockKeepsCard

/-- THE SECOND FORM's CARD OF 'beadrolllaw16.BlockApplies'. -/
def blockAppliesUptoCard : Claim7 := { stood := { row := blockAppliesUptoRow, standIns := [], harness := (true, "429d77528ee9b701692b2033f1913e1f9832792de7c18a14213791df5875a626"), looks := false }, kinds := [], alts := [], laidByText := true, laidKinds := [.data], laidTests := true, laidLooks := .later }
def BlockAppliesUptoCardSaid : Prop := Claim7.holds Tryz.pinned (.plain (OpenSpec.upto blockAppliesSpec)) blockAppliesUptoCard

/-- THE SECOND FORM's CARD OF 'beadrolllaw16.BlockHeads'. -/
def blockHeadsUptoCard : Claim7 := { stood := { row := blockHeadsUptoRow, standIns := [], harness := (true, "429d77528ee9b701692b2033f1913e1f9832792de7c18a14213791df5875a626"), looks := false }, kinds := [], alts := [], laidByText := true, laidKinds := [.data], laidTests := true, laidLooks := .later }
def BlockHeadsUptoCardSaid : Prop := Claim7.holds Tryz.pinned (.plain (OpenSpec.upto blockHeadsSpec)) blockHeadsUptoCard

/-- THE SECOND FORM's CARD OF 'beadrolllaw16.BlockParts'. -/
def blockPartsUptoCard : Claim7 := { stood := { row := blockPartsUptoRow, standIns := [], harness := (true, "429d77528ee9b701692b2033f1913e1f9832792de7c18a14213791df5875a626"), looks := false }, kinds := [], alts := [], laidByText := true, laidKinds := [.data], laidTests := true, laidLooks := .later }
def BlockPartsUptoCardSaid : Prop := Claim7.holds Tryz.pinned (.plain (OpenSpec.upto blockPartsSpec)) blockPartsUptoCard

/-- THE SECOND FORM's CARD OF 'beadrolllaw16.BlockKeeps'. -/
def blockKeepsUptoCard : Claim7 := { stood := { row := blockKeepsUptoRow, standIns := [], harness := (true, "429d77528ee9b701692b2033f1913e1f9832792de7c18a14213791df5875a626"), looks := false }, kinds := [], alts := [], laidByText := true, laidKinds := [.data], laidTests := true, laidLooks := .later }
def BlockKeepsUptoCardSaid : Prop := Claim7.holds Tryz.pinned (.plain (OpenSpec.upto blockKeepsSpec)) blockKeepsUptoCard
end Rows
end Go.Proofs.YtbgnnnhhdggaoaaGreatDoor
