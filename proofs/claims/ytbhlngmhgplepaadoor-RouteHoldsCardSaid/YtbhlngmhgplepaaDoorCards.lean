/-
  DERIVED. GIVEN WITH THE SEED: THE CARDS: each row of YtbhlngmhgplepaaDoorRows.lean that lists a variable, with what it lists TIED to the program's text (the seventh form; the later family's looks); each row that meets fmt, with fmt's text TOLD by the authors' own Lean function (tested against real Go, not proved from fmt's source: count such statements apart). THE CARD IS WHAT COUNTS. Prove the row's statement (the work); the ties are given (YtbhlngmhgplepaaDoorTie.lean); close each card by the builder's one call (the guide's Derived/Test/ToyasCard.lean, 'card_holds'). Laid BY PROGRAM, IN A SANDBOX (cutbox-door.mjs). By AI agents, Wed Nov 11 2026. No macro, syntax, notation, axiom, sorry.
-/
import Derived.Test.YtbhlngmhgplepaaDoorRows
import GoSem.ClaimSeven
namespace Go.Proofs.YtbhlngmhgplepaaDoor
namespace Rows

/-- THE TIED CARD OF 'watchwordlaw36.RoutePaths'. -/
def routePathsCard : Claim7 := { stood := { row := routePathsRow, standIns := [], harness := (true, "a461661a17fa43da3e9804e324a31cb9e360f824832deb8173cc645fc15e3a3b"), looks := true }, kinds := [], alts := [], laidByText := true, laidKinds := [.data, .pinned], laidTests := true, laidLooks := .later }
def RoutePathsCardSaid : Prop := Claim7.holds Tryd.pinned (.plain (OpenSpec.ofChange routePathsSpec)) routePathsCard

/-- THE TIED CARD OF 'watchwordlaw36.RouteHolds'. -/
def routeHoldsCard : Claim7 := { stood := { row := routeHoldsRow, standIns := [], harness := (true, "a461661a17fa43da3e9804e324a31cb9e360f824832deb8173cc645fc15e3a3b"), looks := true }, kinds := [], alts := [], laidByText := true, laidKinds := [.data, .pinned], laidTests := true, laidLooks := .later }
def RouteHoldsCardSaid : Prop := Claim7.holds Tryd.pinned (.plain (OpenSpec.ofChange routeHoldsSpec)) routeHoldsCard

/-- THE TIED CARD OF 'watchwordlaw36.RoutePolicies'. -/
def routePoliciesCard : Claim7 := { stood := { row := routePoliciesRow, standIns := [], harness := (true, "a461661a17fa43da3e9804e324a31cb9e360f824832deb8173cc645fc15e3a3b"), looks := true }, kinds := [], alts := [], laidByText := true, laidKinds := [.data, .pinned], laidTests := true, laidLooks := .later }
def RoutePoliciesCardSaid : Prop := Claim7.holds Tryd.pinned (.plain (OpenSpec.ofChange routePoliciesSpec)) routePoliciesCard

/-- THE SECOND FORM's CARD OF 'watchwordlaw36.RoutePaths'. -/
def routePathsUptoCard : Claim7 := { stood := { row := routePathsUptoRow, standIns := [], harness := (true, "a461661a17fa43da3e9804e324a31cb9e360f824832deb8173cc645fc15e3a3b"), looks := true }, kinds := [], alts := [], laidByText := true, laidKinds := [.data, .pinned], laidTests := true, laidLooks := .later }
def RoutePathsUptoCardSaid : Prop := Claim7.holds Tryd.pinned (.plain (OpenSpec.upto routePathsSpec)) routePathsUptoCard

/-- THE SECOND FORM's CARD OF 'watchwordlaw36.RouteHolds'. -/
def routeHoldsUptoCard : Claim7 := { stood := { row := routeHoldsUptoRow, standIns := [], harness := (true, "a461661a17fa43da3e9804e324a31cb9e360f824832deb8173cc645fc15e3a3b"), looks := true }, kinds := [], alts := [], laidByText := true, laidKinds := [.data, .pinned], laidTests := true, laidLooks := .later }
def RouteHoldsUptoCardSaid : Prop := Claim7.holds Tryd.pinned (.plain (OpenSpec.upto routeHoldsSpec)) routeHoldsUptoCard

/-- THE SECOND FORM's CARD OF 'watchwordlaw36.RoutePolicies'. -/
def routePoliciesUptoCard : Claim7 := { stood := { row := routePoliciesUptoRow, standIns := [], harness := (true, "a461661a17fa43da3e9804e324a31cb9e360f824832deb8173cc645fc15e3a3b"), looks := true }, kinds := [], alts := [], laidByText := true, laidKinds := [.data, .pinned], laidTests := true, laidLooks := .later }
def RoutePoliciesUptoCardSaid : Prop := Claim7.holds Tryd.pinned (.plain (OpenSpec.upto routePoliciesSpec)) routePoliciesUptoCard
end Rows
end Go.Proofs.YtbhlngmhgplepaaDoor
