/-
  DERIVED. GIVEN WITH THE SEED: THE CARDS: each row of YtflafdhmmcknhaaGreatDoorRows.lean that lists a variable, with what it lists TIED to the program's text (the seventh form; the later family's looks); each row that meets fmt, with fmt's text TOLD by the authors' own Lean function (tested against real Go, not proved from fmt's source: count such statements apart). THE CARD IS WHAT COUNTS. Prove the row's statement (the work); the ties are given (YtflafdhmmcknhaaGreatDoorTie.lean); close each card by the builder's one call (the guide's Derived/Test/ToyasCard.lean, 'card_holds'). Laid BY PROGRAM, IN A SANDBOX (cutbox-door.mjs). By AI agents, Wed Nov 11 2026. No macro, syntax, notation, axiom, sorry.
-/
import Derived.Test.YtflafdhmmcknhaaGreatDoorRows
import GoSem.ClaimSeven
namespace Go.Proofs.YtflafdhmmcknhaaGreatDoor
namespace Rows

/-- THE TIED CARD OF 'watchwordlaw09.ProfilePasswords'. -/
def profilePasswordsCard : Claim7 := { stood := { row := profilePasswordsRow, standIns := [], harness := (true, "de2a22edf215fe625c41b7e8d365a639c59187ba746e8198b0b9af9b69365321"), looks := false }, kinds := [], alts := [], laidByText := true, laidKinds := [.data, .data, .data], laidTests := true, laidLooks := .later }
def ProfilePasswordsCardSaid : Prop := Claim7.holds Tryz.pinned (.plain (OpenSpec.ofChange profilePasswordsSpec)) profilePasswordsCard

/-- THE SECOND FORM's CARD OF 'watchwordlaw09.ProfilePasswords'. -/
def profilePasswordsUptoCard : Claim7 := { stood := { row := profilePasswordsUptoRow, standIns := [], harness := (true, "de2a22edf215fe625c41b7e8d365a639c59187ba746e8198b0b9af9b69365321"), looks := false }, kinds := [], alts := [], laidByText := true, laidKinds := [.data, .data, .data], laidTests := true, laidLooks := .later }
def ProfilePasswordsUptoCardSaid : Prop := Claim7.holds Tryz.pinned (.plain (OpenSpec.upto profilePasswordsSpec)) profilePasswordsUptoCard
end Rows
end Go.Proofs.YtflafdhmmcknhaaGreatDoor
