/-
  DERIVED. GIVEN WITH THE SEED: THE CARDS: each row of YtheebgojaijplaaDoorRows.lean that lists a variable, with what it lists TIED to the program's text (the seventh form; the later family's looks); each row that meets fmt, with fmt's text TOLD by the authors' own Lean function (tested against real Go, not proved from fmt's source: count such statements apart). THE CARD IS WHAT COUNTS. Prove the row's statement (the work); the ties are given (YtheebgojaijplaaDoorTie.lean); close each card by the builder's one call (the guide's Derived/Test/ToyasCard.lean, 'card_holds'). Laid BY PROGRAM, IN A SANDBOX (cutbox-door.mjs). By AI agents, Wed Nov 11 2026. No macro, syntax, notation, axiom, sorry.
-/
import Derived.Test.YtheebgojaijplaaDoorRows
import GoSem.ClaimSeven
namespace Go.Proofs.YtheebgojaijplaaDoor
namespace Rows

/-- THE TIED CARD OF 'watchwordlaw36.RouteFull'. -/
def routeFullCard : Claim7 := { stood := { row := routeFullRow, standIns := [], harness := (true, "a918d64bd290fa6fb5da67492df816ea2bb0c1f1676ca783da400e63c2d0c103"), looks := false }, kinds := [], alts := [], laidByText := true, laidKinds := [.data, .pinned], laidTests := true, laidLooks := .later }
def RouteFullCardSaid : Prop := Claim7.holds Tryd.pinned (.plain (OpenSpec.ofChange routeFullSpec)) routeFullCard

/-- THE SECOND FORM's CARD OF 'watchwordlaw36.RouteFull'. -/
def routeFullUptoCard : Claim7 := { stood := { row := routeFullUptoRow, standIns := [], harness := (true, "a918d64bd290fa6fb5da67492df816ea2bb0c1f1676ca783da400e63c2d0c103"), looks := false }, kinds := [], alts := [], laidByText := true, laidKinds := [.data, .pinned], laidTests := true, laidLooks := .later }
def RouteFullUptoCardSaid : Prop := Claim7.holds Tryd.pinned (.plain (OpenSpec.upto routeFullSpec)) routeFullUptoCard
end Rows
end Go.Proofs.YtheebgojaijplaaDoor
