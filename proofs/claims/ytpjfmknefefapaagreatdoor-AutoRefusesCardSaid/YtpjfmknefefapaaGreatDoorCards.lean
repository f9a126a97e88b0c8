/-
  DERIVED. GIVEN WITH THE SEED: THE CARDS: each row of YtpjfmknefefapaaGreatDoorRows.lean that lists a variable, with what it lists TIED to the program's text (the seventh form; the later family's looks); each row that meets fmt, with fmt's text TOLD by the authors' own Lean function (tested against real Go, not proved from fmt's source: count such statements apart). THE CARD IS WHAT COUNTS. Prove the row's statement (the work); the ties are given (YtpjfmknefefapaaGreatDoorTie.lean); close each card by the builder's one call (the guide's Derived/Test/ToyasCard.lean, 'card_holds'). Laid BY PROGRAM, IN A SANDBOX (cutbox-door.mjs). By AI agents, Wed Nov 11 2026. No macro, syntax, notation, axiom, sorry.
-/
import Derived.Test.YtpjfmknefefapaaGreatDoorRows
import GoSem.ClaimSeven
namespace Go.Proofs.YtpjfmknefefapaaGreatDoor
namespace Rows

/-- THE TIED CARD OF 'beadrolllaw25.AutoReturns'. -/
def autoReturnsCard : Claim7 := { stood := { row := autoReturnsRow, standIns := [], harness := (true, "fdb09f0f5fb27950da363ec8a4698fe2a510f04fe8fdff96e591ab13e4884c5e"), looks := true }, kinds := [], alts := [], laidByText := true, laidKinds := [.data, .data], laidTests := true, laidLooks := .later }
def AutoReturnsCardSaid : Prop := Claim7.holds Tryz.pinned (.plain (OpenSpec.ofChange autoReturnsSpec)) autoReturnsCard

/-- THE TIED CARD OF 'beadrolllaw25.AutoRefuses'. -/
def autoRefusesCard : Claim7 := { stood := { row := autoRefusesRow, standIns := [], harness := (true, "fdb09f0f5fb27950da363ec8a4698fe2a510f04fe8fdff96e591ab13e4884c5e"), looks := true }, kinds := [], alts := [], laidByText := true, laidKinds := [.data, .data], laidTests := true, laidLooks := .later }
def AutoRefusesCardSaid : Prop := Claim7.holds Tryz.pinned (.plain (OpenSpec.ofChange autoRefusesSpec)) autoRefusesCard

/-- THE TIED CARD OF 'beadrolllaw25.AutoRolls'. -/
def autoRollsCard : Claim7 := { stood := { row := autoRollsRow, standIns := [], harness := (true, "fdb09f0f5fb27950da363ec8a4698fe2a510f04fe8fdff96e591ab13e4884c5e"), looks := true }, kinds := [], alts := [], laidByText := true, laidKinds := [.data, .data], laidTests := true, laidLooks := .later }
def AutoRollsCardSaid : Prop := Claim7.holds Tryz.pinned (.plain (OpenSpec.ofChange autoRollsSpec)) autoRollsCard

/-- THE SECOND FORM's CARD OF 'beadrolllaw25.AutoReturns'. -/
def autoReturnsUptoCard : Claim7 := { stood := { row := autoReturnsUptoRow, standIns := [], harness := (true, "fdb09f0f5fb27950da363ec8a4698fe2a510f04fe8fdff96e591ab13e4884c5e"), looks := true }, kinds := [], alts := [], laidByText := true, laidKinds := [.data, .data], laidTests := true, laidLooks := .later }
def AutoReturnsUptoCardSaid : Prop := Claim7.holds Tryz.pinned (.plain (OpenSpec.upto autoReturnsSpec)) autoReturnsUptoCard

/-- THE SECOND FORM's CARD OF 'beadrolllaw25.AutoRefuses'. -/
def autoRefusesUptoCard : Claim7 := { stood := { row := autoRefusesUptoRow, standIns := [], harness := (true, "fdb09f0f5fb27950da363ec8a4698fe2a510f04fe8fdff96e591ab13e4884c5e"), looks := true }, kinds := [], alts := [], laidByText := true, laidKinds := [.data, .data], laidTests := true, laidLooks := .later }
def AutoRefusesUptoCardSaid : Prop := Claim7.holds Tryz.pinned (.plain (OpenSpec.upto autoRefusesSpec)) autoRefusesUptoCard

/-- THE SECOND FORM's CARD OF 'beadrolllaw25.AutoRolls'. -/
def autoRollsUptoCard : Claim7 := { stood := { row := autoRollsUptoRow, standIns := [], harness := (true, "fdb09f0f5fb27950da363ec8a4698fe2a510f04fe8fdff96e591ab13e4884c5e"), looks := true }, kinds := [], alts := [], laidByText := true, laidKinds := [.data, .data], laidTests := true, laidLooks := .later }
def AutoRollsUptoCardSaid : Prop := Claim7.holds Tryz.pinned (.plain (OpenSpec.upto autoRollsSpec)) autoRollsUptoCard
end Rows
end Go.Proofs.YtpjfmknefefapaaGreatDoor
