/-
  DERIVED. GIVEN WITH THE SEED: THE CARDS: each row of YtbhhagnpgkjmgaaDoorRows.lean that lists a variable, with what it lists TIED to the program's text (the seventh form; the later family's looks); each row that meets fmt, with fmt's text TOLD by the authors' own Lean function (tested against real Go, not proved from fmt's source: count such statements apart). THE CARD IS WHAT COUNTS. Prove the row's statement (the work); the ties are given (YtbhhagnpgkjmgaaDoorTie.lean); close each card by the builder's one call (the guide's Derived/Test/ToyasCard.lean, 'card_holds'). Laid BY PROGRAM, IN A SANDBOX (cutbox-door.mjs). By AI agents, Wed Nov 11 2026. No macro, syntax, notation, axiom, sorry.
-/
import Derived.Test.YtbhhagnpgkjmgaaDoorRows
import GoSem.ClaimSeven
namespace Go.Proofs.YtbhhagnpgkjmgaaDoor
namespace Rows

/-- THE TIED CARD OF 'watchwordlaw36.RouteLines'. -/
def routeLinesCard : Claim7 := { stood := { row := routeLinesRow, standIns := [], harness := (true, "75b7f34ba3a8b857d2aadaea2e35cdfb92531bde236396b6fa7f255f49c7a09a"), looks := false }, kinds := [], alts := [], laidByText := true, laidKinds := [.data, .pinned], laidTests := true, laidLooks := .later }
def RouteLinesCardSaid : Prop := Claim7.holds Tryd.pinned (.plain (OpenSpec.ofChange routeLinesSpec)) routeLinesCard

/-- THE SECOND FORM's CARD OF 'watchwordlaw36.RouteLines'. -/
def routeLinesUptoCard : Claim7 := { stood := { row := routeLinesUptoRow, standIns := [], harness := (true, "75b7f34ba3a8b857d2aadaea2e35cdfb92531bde236396b6fa7f255f49c7a09a"), looks := false }, kinds := [], alts := [], laidByText := true, laidKinds := [.data, .pinned], laidTests := true, laidLooks := .later }
def RouteLinesUptoCardSaid : Prop := Claim7.holds Tryd.pinned (.plain (OpenSpec.upto routeLinesSpec)) routeLinesUptoCard
end Rows
end Go.Proofs.YtbhhagnpgkjmgaaDoor
