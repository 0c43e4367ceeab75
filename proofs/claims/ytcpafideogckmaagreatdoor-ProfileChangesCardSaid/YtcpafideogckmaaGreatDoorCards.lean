/-
  DERIVED. GIVEN WITH THE SEED: THE CARDS: each row of YtcpafideogckmaaGreatDoorRows.lean that lists a variable, with what it lists TIED to the program's text (the seventh form; the later family's looks); each row that meets fmt, with fmt's text TOLD by the authors' own Lean function (tested against real Go, not proved from fmt's source: count such statements apart). THE CARD IS WHAT COUNTS. Prove the row's statement (the work); the ties are given (YtcpafideogckmaaGreatDoorTie.lean); close each card by the builder's one call (the guide's Derived/Test/ToyasCard.lean, 'card_holds'). Laid BY PROGRAM, IN A SANDBOX (cutbox-door.mjs). By AI agents, Wed Nov 11 2026. No macro, syntax, notation, axiom, sorry.
-/
import Derived.Test.YtcpafideogckmaaGreatDoorRows
import GoSem.ClaimSeven
namespace Go.Proofs.YtcpafideogckmaaGreatDoor
namespace Rows

/-- THE TIED CARD OF 'watchwordlaw09.ProfileChanges'. -/
def profileChangesCard : Claim7 := { stood := { row := profileChangesRow, standIns := [], harness := (true, "cbba9283b803ca628be13e864cac8677b46d9b2c284bce153a691964b172ec66"), looks := false }, kinds := [], alts := [], laidByText := true, laidKinds := [.data, .data, .data, .data], laidTests := true, laidLooks := .later }
def ProfileChangesCardSaid : Prop := Claim7.holds Tryz.pinned (.plain (OpenSpec.ofChange profileChangesSpec)) profileChangesCard

/-- THE SECOND FORM's CARD OF 'watchwordlaw09.ProfileChanges'. -/
def profileChangesUptoCard : Claim7 := { stood := { row := profileChangesUptoRow, standIns := [], harness := (true, "cbba9283b803ca628be13e864cac8677b46d9b2c284bce153a691964b172ec66"), looks := false }, kinds := [], alts := [], laidByText := true, laidKinds := [.data, .data, .data, .data], laidTests := true, laidLooks := .later }
def ProfileChangesUptoCardSaid : Prop := Claim7.holds Tryz.pinned (.plain (OpenSpec.upto profileChangesSpec)) profileChangesUptoCard
end Rows
end Go.Proofs.YtcpafideogckmaaGreatDoor
