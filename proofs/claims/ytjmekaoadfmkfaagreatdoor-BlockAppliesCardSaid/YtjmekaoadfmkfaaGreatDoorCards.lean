/-
  DERIVED. GIVEN WITH THE SEED: THE CARDS: each row of YtjmekaoadfmkfaaGreatDoorRows.lean that lists a variable, with what it lists TIED to the program's text (the seventh form; the later family's looks); each row that meets fmt, with fmt's text TOLD by the authors' own Lean function (tested against real Go, not proved from fmt's source: count such statements apart). THE CARD IS WHAT COUNTS. Prove the row's statement (the work); the ties are given (YtjmekaoadfmkfaaGreatDoorTie.lean); close each card by the builder's one call (the guide's Derived/Test/ToyasCard.lean, 'card_holds'). Laid BY PROGRAM, IN A SANDBOX (cutbox-door.mjs). By AI agents, Wed Nov 11 2026. No macro, syntax, notation, axiom, sorry.
-/
import Derived.Test.YtjmekaoadfmkfaaGreatDoorRows
import GoSem.ClaimSeven
namespace Go.Proofs.YtjmekaoadfmkfaaGreatDoor
namespace Rows

/-- THE TIED CARD OF 'beadrolllaw16.BlockApplies'. -/
def blockAppliesCard : Claim7 := { stood := { row := blockAppliesRow, standIns := [], harness := (true, "bc150b21e725d97ee6fce6a042d46c7f435f27de2285b33de8b8f270d619e9d5"), looks := false }, kinds := [], alts := [], laidByText := true, laidKinds := [.data], laidTests := true, laidLooks := .later }
def BlockAppliesCardSaid : Prop := Claim7.holds Tryz.pinned (.plain (OpenSpec.ofChange blockAppliesSpec)) blockAppliesCard

/-- THE TIED CARD OF 'beadrolllaw16.BlockHeads'. -/
def blockHeadsCard : Claim7 := { stood := { row := blockHeadsRow, standIns := [], harness := (true, "bc150b21e725d97ee6fce6a042d46c7f435f27de2285b33de8b8f270d619e9d5"), looks := false }, kinds := [], alts := [], laidByText := true, laidKinds := [.data], laidTests := true, laidLooks := .later }
def BlockHeadsCardSaid : Prop := Claim7.holds Tryz.pinned (.plain (OpenSpec.ofChange blockHeadsSpec)) blockHeadsCard

/-- THE TIED CARD OF 'beadrolllaw16.BlockParts'. -/
def blockPartsCard : Claim7 := { stood := { row := blockPartsRow, standIns := [], harness := (true, "bc150b21e725d97ee6fce6a042d46c7f435f27de2285b33de8b8f270d619e9d5"), looks := false }, kinds := [], alts := [], laidByText := true, laidKinds := [.data], laidTests := true, laidLooks := .later }
def BlockPartsCardSaid : Prop := Claim7.holds Tryz.pinned (.plain (OpenSpec.ofChange blockPartsSpec)) blockPartsCard

/-- THE TIED CARD OF 'beadrolllaw25.AutoReads'. -/
def autoReadsCard : Claim7 := { stood := { row := autoReadsRow, standIns := [], harness := (true, "bc150b21e725d97ee6fce6a042d46c7f435f27de2285b33de8b8f270d619e9d5"), looks := false }, kinds := [], alts := [], laidByText := true, laidKinds := [.data], laidTests := true, laidLooks := .later }
def AutoReadsCardSaid : Prop := Claim7.holds Tryz.pinned (.plain (OpenSpec.ofChange autoReadsSpec)) autoReadsCard

/-- THE TIED CARD OF 'beadrolllaw18.ViewReads'. -/
def viewReadsCard : Claim7 := { stood := { row := viewReadsRow, standIns := [], harness := (true, "bc150b21e725d97ee6fce6a042d46c7f435f27de2285b33de8b8f270d619e9d5"), looks := false }, kinds := [], alts := [], laidByText := true, laidKinds := [.data], laidTests := true, laidLooks := .later }
def ViewReadsCardSaid : Prop := Claim7.holds Tryz.pinned (.plain (OpenSpec.ofChange viewReadsSpec)) viewReadsCard

/-- THE TIED CARD OF 'beadrolllaw17.ChainAdds'. -/
def chainAddsCard : Claim7 := { stood := { row := chainAddsRow, standIns := [], harness := (true, "bc150b21e725d97ee6fce6a042d46c7f435f27de2285b33de8b8f270d619e9d5"), looks := false }, kinds := [], alts := [], laidByText := true, laidKinds := [.data], laidTests := true, laidLooks := .later }
def ChainAddsCardSaid : Prop := Claim7.holds Tryz.pinned (.plain (OpenSpec.ofChange chainAddsSpec)) chainAddsCard

/-- THE TIED CARD OF 'beadrolllaw17.ChainBack'. -/
def chainBackCard : Claim7 := { stood := { row := chainBackRow, standIns := [], harness := (true, "bc150b21e725d97ee6fce6a042d46c7f435f27de2285b33de8b8f270d619e9d5"), looks := false }, kinds := [], alts := [], laidByText := true, laidKinds := [.data], laidTests := true, laidLooks := .later }
def ChainBackCardSaid : Prop := Claim7.holds Tryz.pinned (.plain (OpenSpec.ofChange chainBackSpec)) chainBackCard

/-- THE TIED CARD OF 'beadrolllaw17.ChainTells'. -/
def chainTellsCard : Claim7 := { stood := { row := chainTellsRow, standIns := [], harness := (true, "bc150b21e725d97ee6fce6a042d46c7f435f27de2285b33de8b8f270d619e9d5"), looks := false }, kinds := [], alts := [], laidByText := true, laidKinds := [.data], laidTests := true, laidLooks := .later }
def ChainTellsCardSaid : Prop := Claim7.holds Tryz.pinned (.plain (OpenSpec.ofChange chainTellsSpec)) chainTellsCard

/-- THE TIED CARD OF 'beadrolllaw17.ChainSound'. -/
def chainSoundCard : Claim7 := { stood := { row := chainSoundRow, standIns := [], harness := (true, "bc150b21e725d97ee6fce6a042d46c7f435f27de2285b33de8b8f270d619e9d5"), looks := false }, kinds := [], alts := [], laidByText := true, laidKinds := [.data], laidTests := true, laidLooks := .later }
def ChainSoundCardSaid : Prop := Claim7.holds Tryz.pinned (.plain (OpenSpec.ofChange chainSoundSpec)) chainSoundCard

/-- THE TIED CARD OF 'beadrolllaw18.ViewTurns'. -/
def viewTurnsCard : Claim7 := { stood := { row := viewTurnsRow, standIns := [], harness := (true, "bc150b21e725d97ee6fce6a042d46c7f435f27de2285b33de8b8f270d619e9d5"), looks := false }, kinds := [], alts := [], laidByText := true, laidKinds := [.data], laidTests := true, laidLooks := .later }
def ViewTurnsCardSaid : Prop := Claim7.holds Tryz.pinned (.plain (OpenSpec.ofChange viewTurnsSpec)) viewTurnsCard

/-- THE TIED CARD OF 'beadrolllaw18.ViewFinal'. -/
def viewFinalCard : Claim7 := { stood := { row := viewFinalRow, standIns := [], harness := (true, "bc150b21e725d97ee6fce6a042d46c7f435f27de2285b33de8b8f270d619e9d5"), looks := false }, kinds := [], alts := [], laidByText := true, laidKinds := [.data], laidTests := true, laidLooks := .later }
def ViewFinalCardSaid : Prop := Claim7.holds Tryz.pinned (.plain (OpenSpec.ofChange viewFinalSpec)) viewFinalCard

/-- THE TIED CARD OF 'beadrolllaw18.ViewDrops'. -/
def viewDropsCard : Claim7 := { stood := { row := viewDropsRow, standIns := [], harness := (true, "bc150b21e725d97ee6fce6a042d46c7f435f27de2285b33de8b8f270d619e9d5"), looks := false }, kinds := [], alts := [], laidByText := true, laidKinds := [.data], laidTests := true, laidLooks := .later }
def ViewDropsCardSaid : Prop := Claim7.holds Tryz.pinned (.plain (OpenSpec.ofChange viewDropsSpec)) viewDropsCard

/-- THE SECOND FORM's CARD OF 'beadrolllaw16.BlockApplies'. -/
def blockAppliesUptoCard : Claim7 := { stood := { row := blockAppliesUptoRow, standIns := [], harness := (true, "bc150b21e725d97ee6fce6a042d46c7f435f27de2285b33de8b8f270d619e9d5"), looks := false }, kinds := [], alts := [], laidByText := true, laidKinds := [.data], laidTests := true, laidLooks := .later }
def BlockAppliesUptoCardSaid : Prop := Claim7.holds Tryz.pinned (.plain (OpenSpec.upto blockAppliesSpec)) blockAppliesUptoCard

/-- THE SECOND FORM's CARD OF 'beadrolllaw16.BlockHeads'. -/
def blockHeadsUptoCard : Claim7 := { stood := { row := blockHeadsUptoRow, standIns := [], harness := (true, "bc150b21e725d97ee6fce6a042d46c7f435f27de2285b33de8b8f270d619e9d5"), looks := false }, kinds := [], alts := [], laidByText := true, laidKinds := [.data], laidTests := true, laidLooks := .later }
def BlockHeadsUptoCardSaid : Prop := Claim7.holds Tryz.pinned (.plain (OpenSpec.upto blockHeadsSpec)) blockHeadsUptoCard

/-- THE SECOND FORM's CARD OF 'beadrolllaw16.BlockParts'. -/
def blockPartsUptoCard : Claim7 := { stood := { row := blockPartsUptoRow, standIns := [], harness := (true, "bc150b21e725d97ee6fce6a042d46c7f435f27de2285b33de8b8f270d619e9d5"), looks := false }, kinds := [], alts := [], laidByText := true, laidKinds := [.data], laidTests := true, laidLooks := .later }
def BlockPartsUptoCardSaid : Prop := Claim7.holds Tryz.pinned (.plain (OpenSpec.upto blockPartsSpec)) blockPartsUptoCard

/-- THE SECOND FORM's CARD OF 'beadrolllaw25.AutoReads'. -/
def autoReadsUptoCard : Claim7 := { stood := { row := autoReadsUptoRow, standIns := [], harness := (true, "bc150b21e725d97ee6fce6a042d46c7f435f27de2285b33de8b8f270d619e9d5"), looks := false }, kinds := [], alts := [], laidByText := true, laidKinds := [.data], laidTests := true, laidLooks := .later }
def AutoReadsUptoCardSaid : Prop := Claim7.holds Tryz.pinned (.plain (OpenSpec.upto autoReadsSpec)) autoReadsUptoCard

/-- THE SECOND FORM's CARD OF 'beadrolllaw18.ViewReads'. -/
def viewReadsUptoCard : Claim7 := { stood := { row := viewReadsUptoRow, standIns := [], harness := (true, "bc150b21e725d97ee6fce6a042d46c7f435f27de2285b33de8b8f270d619e9d5"), looks := false }, kinds := [], alts := [], laidByText := true, laidKinds := [.data], laidTests := true, laidLooks := .later }
def ViewReadsUptoCardSaid : Prop := Claim7.holds Tryz.pinned (.plain (OpenSpec.upto viewReadsSpec)) viewReadsUptoCard

/-- THE SECOND FORM's CARD OF 'beadrolllaw17.ChainAdds'. -/
def chainAddsUptoCard : Claim7 := { stood := { row := chainAddsUptoRow, standIns := [], harness := (true, "bc150b21e725d97ee6fce6a042d46c7f435f27de2285b33de8b8f270d619e9d5"), looks := false }, kinds := [], alts := [], laidByText := true, laidKinds := [.data], laidTests := true, laidLooks := .later }
def ChainAddsUptoCardSaid : Prop := Claim7.holds Tryz.pinned (.plain (OpenSpec.upto chainAddsSpec)) chainAddsUptoCard

/-- THE SECOND FORM's CARD OF 'beadrolllaw17.ChainBack'. -/
def chainBackUptoCard : Claim7 := { stood := { row := chainBackUptoRow, standIns := [], harness := (true, "bc150b21e725d97ee6fce6a042d46c7f435f27de2285b33de8b8f270d619e9d5"), looks := false }, kinds := [], alts := [], laidByText := true, laidKinds := [.data], laidTests := true, laidLooks := .later }
def ChainBackUptoCardSaid : Prop := Claim7.holds Tryz.pinned (.plain (OpenSpec.upto chainBackSpec)) chainBackUptoCard

/-- THE SECOND FORM's CARD OF 'beadrolllaw17.ChainTells'. -/
def chainTellsUptoCard : Claim7 := { stood := { row := chainTellsUptoRow, standIns := [], harness := (true, "bc150b21e725d97ee6fce6a042d46c7f435f27de2285b33de8b8f270d619e9d5"), looks := false }, kinds := [], alts := [], laidByText := true, laidKinds := [.data], laidTests := true, laidLooks := .later }
def ChainTellsUptoCardSaid : Prop := Claim7.holds Tryz.pinned (.plain (OpenSpec.upto chainTellsSpec)) chainTellsUptoCard

/-- THE SECOND FORM's CARD OF 'beadrolllaw17.ChainSound'. -/
def chainSoundUptoCard : Claim7 := { stood := { row := chainSoundUptoRow, standIns := [], harness := (true, "bc150b21e725d97ee6fce6a042d46c7f435f27de2285b33de8b8f270d619e9d5"), looks := false }, kinds := [], alts := [], laidByText := true, laidKinds := [.data], laidTests := true, laidLooks := .later }
def ChainSoundUptoCardSaid : Prop := Claim7.holds Tryz.pinned (.plain (OpenSpec.upto chainSoundSpec)) chainSoundUptoCard

/-- THE SECOND FORM's CARD OF 'beadrolllaw18.ViewTurns'. -/
def viewTurnsUptoCard : Claim7 := { stood := { row := viewTurnsUptoRow, standIns := [], harness := (true, "bc150b21e725d97ee6fce6a042d46c7f435f27de2285b33de8b8f270d619e9d5"), looks := false }, kinds := [], alts := [], laidByText := true, laidKinds := [.data], laidTests := true, laidLooks := .later }
def ViewTurnsUptoCardSaid : Prop := Claim7.holds Tryz.pinned (.plain (OpenSpec.upto viewTurnsSpec)) viewTurnsUptoCard

/-- THE SECOND FORM's CARD OF 'beadrolllaw18.ViewFinal'. -/
def viewFinalUptoCard : Claim7 := { stood := { row := viewFinalUptoRow, standIns := [], harness := (true, "bc150b21e725d97ee6fce6a042d46c7f435f27de2285b33de8b8f270d619e9d5"), looks := false }, kinds := [], alts := [], laidByText := true, laidKinds := [.data], laidTests := true, laidLooks := .later }
def ViewFinalUptoCardSaid : Prop := Claim7.holds Tryz.pinned (.plain (OpenSpec.upto viewFinalSpec)) viewFinalUptoCard

/-- THE SECOND FORM's CARD OF 'beadrolllaw18.ViewDrops'. -/
def viewDropsUptoCard : Claim7 := { stood := { row := viewDropsUptoRow, standIns := [], harness := (true, "bc150b21e725d97ee6fce6a042d46c7f435f27de2285b33de8b8f270d619e9d5"), looks := false }, kinds := [], alts := [], laidByText := true, laidKinds := [.data], laidTests := true, laidLooks := .later }
def ViewDropsUptoCardSaid : Prop := Claim7.holds Tryz.pinned (.plain (OpenSpec.upto viewDropsSpec)) viewDropsUptoCard
end Rows
end Go.Proofs.YtjmekaoadfmkfaaGreatDoor
