/-
  DERIVED. GIVEN WITH THE SEED: THE CARDS: each row of YtmekechnnfhhkaaDoorRows.lean that lists a variable, with what it lists TIED to the program's text (the seventh form; the later family's looks); each row that meets fmt, with fmt's text TOLD by the authors' own Lean function (tested against real Go, not proved from fmt's source: count such statements apart). THE CARD IS WHAT COUNTS. Prove the row's statement (the work); the ties are given (YtmekechnnfhhkaaDoorTie.lean); close each card by the builder's one call (the guide's Derived/Test/ToyasCard.lean, 'card_holds'). Laid BY PROGRAM, IN A SANDBOX (cutbox-door.mjs). By AI agents, Wed Nov 11 2026. No macro, syntax, notation, axiom, sorry.
-/
import Derived.Test.YtmekechnnfhhkaaDoorRows
import GoSem.ClaimSeven
namespace Go.Proofs.YtmekechnnfhhkaaDoor
namespace Rows

/-- THE TIED CARD OF 'watchwordlaw36.RouteTrusts'. -/
def routeTrustsCard : Claim7 := { stood := { row := routeTrustsRow, standIns := [], harness := (true, "2a18289e13a371dcbce8692c8395722665b58f4e3435a277ed41ac9e2884fa3a"), looks := true }, kinds := [], alts := [], laidByText := true, laidKinds := [.data, .pinned], laidTests := true, laidLooks := .later }
def RouteTrustsCardSaid : Prop := Claim7.holds Tryd.pinned (.plain (OpenSpec.ofChange routeTrustsSpec)) routeTrustsCard

/-- THE SECOND FORM's CARD OF 'watchwordlaw36.RouteTrusts'. -/
def routeTrustsUptoCard : Claim7 := { stood := { row := routeTrustsUptoRow, standIns := [], harness := (true, "2a18289e13a371dcbce8692c8395722665b58f4e3435a277ed41ac9e2884fa3a"), looks := true }, kinds := [], alts := [], laidByText := true, laidKinds := [.data, .pinned], laidTests := true, laidLooks := .later }
def RouteTrustsUptoCardSaid : Prop := Claim7.holds Tryd.pinned (.plain (OpenSpec.upto routeTrustsSpec)) routeTrustsUptoCard
end Rows
end Go.Proofs.YtmekechnnfhhkaaDoor
