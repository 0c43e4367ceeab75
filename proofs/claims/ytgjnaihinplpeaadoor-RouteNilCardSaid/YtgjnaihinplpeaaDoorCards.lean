/-
  DERIVED. GIVEN WITH THE SEED: THE CARDS: each row of YtgjnaihinplpeaaDoorRows.lean that lists a variable, with what it lists TIED to the program's text (the seventh form; the later family's looks); each row that meets fmt, with fmt's text TOLD by the authors' own Lean function (tested against real Go, not proved from fmt's source: count such statements apart). THE CARD IS WHAT COUNTS. Prove the row's statement (the work); the ties are given (YtgjnaihinplpeaaDoorTie.lean); close each card by the builder's one call (the guide's Derived/Test/ToyasCard.lean, 'card_holds'). Laid BY PROGRAM, IN A SANDBOX (cutbox-door.mjs). By AI agents, Wed Nov 11 2026. No macro, syntax, notation, axiom, sorry.
-/
import Derived.Test.YtgjnaihinplpeaaDoorRows
import GoSem.ClaimSeven
namespace Go.Proofs.YtgjnaihinplpeaaDoor
namespace Rows

/-- THE TIED CARD OF 'watchwordlaw36.RouteHolds'. -/
def routeHoldsCard : Claim7 := { stood := { row := routeHoldsRow, standIns := [], harness := (true, "336dd264cb3c5435b6aa765e210149fdd3e7ffd9c3fbaa9d81ab75c80e6572fe"), looks := true }, kinds := [], alts := [], laidByText := true, laidKinds := [.data, .pinned], laidTests := true, laidLooks := .later }
def RouteHoldsCardSaid : Prop := Claim7.holds Tryd.pinned (.plain (OpenSpec.ofChange routeHoldsSpec)) routeHoldsCard

/-- THE TIED CARD OF 'watchwordlaw36.RouteLines'. -/
def routeLinesCard : Claim7 := { stood := { row := routeLinesRow, standIns := [], harness := (true, "336dd264cb3c5435b6aa765e210149fdd3e7ffd9c3fbaa9d81ab75c80e6572fe"), looks := true }, kinds := [], alts := [], laidByText := true, laidKinds := [.data, .pinned], laidTests := true, laidLooks := .later }
def RouteLinesCardSaid : Prop := Claim7.holds Tryd.pinned (.plain (OpenSpec.ofChange routeLinesSpec)) routeLinesCard

/-- THE TIED CARD OF 'watchwordlaw36.RouteTrusts'. -/
def routeTrustsCard : Claim7 := { stood := { row := routeTrustsRow, standIns := [], harness := (true, "336dd264cb3c5435b6aa765e210149fdd3e7ffd9c3fbaa9d81ab75c80e6572fe"), looks := true }, kinds := [], alts := [], laidByText := true, laidKinds := [.data, .pinned], laidTests := true, laidLooks := .later }
def RouteTrustsCardSaid : Prop := Claim7.holds Tryd.pinned (.plain (OpenSpec.ofChange routeTrustsSpec)) routeTrustsCard

/-- THE TIED CARD OF 'watchwordlaw36.RoutePaths'. -/
def routePathsCard : Claim7 := { stood := { row := routePathsRow, standIns := [], harness := (true, "336dd264cb3c5435b6aa765e210149fdd3e7ffd9c3fbaa9d81ab75c80e6572fe"), looks := true }, kinds := [], alts := [], laidByText := true, laidKinds := [.data, .pinned], laidTests := true, laidLooks := .later }
def RoutePathsCardSaid : Prop := Claim7.holds Tryd.pinned (.plain (OpenSpec.ofChange routePathsSpec)) routePathsCard

/-- THE TIED CARD OF 'watchwordlaw36.RouteFull'. -/
def routeFullCard : Claim7 := { stood := { row := routeFullRow, standIns := [], harness := (true, "336dd264cb3c5435b6aa765e210149fdd3e7ffd9c3fbaa9d81ab75c80e6572fe"), looks := true }, kinds := [], alts := [], laidByText := true, laidKinds := [.data, .pinned], laidTests := true, laidLooks := .later }
def RouteFullCardSaid : Prop := Claim7.holds Tryd.pinned (.plain (OpenSpec.ofChange routeFullSpec)) routeFullCard

/-- THE TIED CARD OF 'watchwordlaw36.RoutePolicies'. -/
def routePoliciesCard : Claim7 := { stood := { row := routePoliciesRow, standIns := [], harness := (true, "336dd264cb3c5435b6aa765e210149fdd3e7ffd9c3fbaa9d81ab75c80e6572fe"), looks := true }, kinds := [], alts := [], laidByText := true, laidKinds := [.data, .pinned], laidTests := true, laidLooks := .later }
def RoutePoliciesCardSaid : Prop := Claim7.holds Tryd.pinned (.plain (OpenSpec.ofChange routePoliciesSpec)) routePoliciesCard

/-- THE TIED CARD OF 'watchwordlaw36.RouteNil'. -/
def routeNilCard : Claim7 := { stood := { row := routeNilRow, standIns := [], harness := (true, "336dd264cb3c5435b6aa765e210149fdd3e7ffd9c3fbaa9d81ab75c80e6572fe"), looks := true }, kinds := [], alts := [], laidByText := true, laidKinds := [.data, .pinned], laidTests := true, laidLooks := .later }
def RouteNilCardSaid : Prop := Claim7.holds Tryd.pinned (.plain (OpenSpec.ofChange routeNilSpec)) routeNilCard

/-- THE SECOND FORM's CARD OF 'watchwordlaw36.RouteHolds'. -/
def routeHoldsUptoCard : Claim7 := { stood := { row := routeHoldsUptoRow, standIns := [], harness := (true, "336dd264cb3c5435b6aa765e210149fdd3e7ffd9c3fbaa9d81ab75c80e6572fe"), looks := true }, kinds := [], alts := [], laidByText := true, laidKinds := [.data, .pinned], laidTests := true, laidLooks := .later }
def RouteHoldsUptoCardSaid : Prop := Claim7.holds Tryd.pinned (.plain (OpenSpec.upto routeHoldsSpec)) routeHoldsUptoCard

/-- THE SECOND FORM's CARD OF 'watchwordlaw36.RouteLines'. -/
def routeLinesUptoCard : Claim7 := { stood := { row := routeLinesUptoRow, standIns := [], harness := (true, "336dd264cb3c5435b6aa765e210149fdd3e7ffd9c3fbaa9d81ab75c80e6572fe"), looks := true }, kinds := [], alts := [], laidByText := true, laidKinds := [.data, .pinned], laidTests := true, laidLooks := .later }
def RouteLinesUptoCardSaid : Prop := Claim7.holds Tryd.pinned (.plain (OpenSpec.upto routeLinesSpec)) routeLinesUptoCard

/-- THE SECOND FORM's CARD OF 'watchwordlaw36.RouteTrusts'. -/
def routeTrustsUptoCard : Claim7 := { stood := { row := routeTrustsUptoRow, standIns := [], harness := (true, "336dd264cb3c5435b6aa765e210149fdd3e7ffd9c3fbaa9d81ab75c80e6572fe"), looks := true }, kinds := [], alts := [], laidByText := true, laidKinds := [.data, .pinned], laidTests := true, laidLooks := .later }
def RouteTrustsUptoCardSaid : Prop := Claim7.holds Tryd.pinned (.plain (OpenSpec.upto routeTrustsSpec)) routeTrustsUptoCard

/-- THE SECOND FORM's CARD OF 'watchwordlaw36.RoutePaths'. -/
def routePathsUptoCard : Claim7 := { stood := { row := routePathsUptoRow, standIns := [], harness := (true, "336dd264cb3c5435b6aa765e210149fdd3e7ffd9c3fbaa9d81ab75c80e6572fe"), looks := true }, kinds := [], alts := [], laidByText := true, laidKinds := [.data, .pinned], laidTests := true, laidLooks := .later }
def RoutePathsUptoCardSaid : Prop := Claim7.holds Tryd.pinned (.plain (OpenSpec.upto routePathsSpec)) routePathsUptoCard

/-- THE SECOND FORM's CARD OF 'watchwordlaw36.RouteFull'. -/
def routeFullUptoCard : Claim7 := { stood := { row := routeFullUptoRow, standIns := [], harness := (true, "336dd264cb3c5435b6aa765e210149fdd3e7ffd9c3fbaa9d81ab75c80e6572fe"), looks := true }, kinds := [], alts := [], laidByText := true, laidKinds := [.data, .pinned], laidTests := true, laidLooks := .later }
def RouteFullUptoCardSaid : Prop := Claim7.holds Tryd.pinned (.plain (OpenSpec.upto routeFullSpec)) routeFullUptoCard

/-- THE SECOND FORM's CARD OF 'watchwordlaw36.RoutePolicies'. -/
def routePoliciesUptoCard : Claim7 := { stood := { row := routePoliciesUptoRow, standIns := [], harness := (true, "336dd264cb3c5435b6aa765e210149fdd3e7ffd9c3fbaa9d81ab75c80e6572fe"), looks := true }, kinds := [], alts := [], laidByText := true, laidKinds := [.data, .pinned], laidTests := true, laidLooks := .later }
def RoutePoliciesUptoCardSaid : Prop := Claim7.holds Tryd.pinned (.plain (OpenSpec.upto routePoliciesSpec)) routePoliciesUptoCard

/-- THE SECOND FORM's CARD OF 'watchwordlaw36.RouteNil'. -/
def routeNilUptoCard : Claim7 := { stood := { row := routeNilUptoRow, standIns := [], harness := (true, "336dd264cb3c5435b6aa765e210149fdd3e7ffd9c3fbaa9d81ab75c80e6572fe"), looks := true }, kinds := [], alts := [], laidByText := true, laidKinds := [.data, .pinned], laidTests := true, laidLooks := .later }
def RouteNilUptoCardSaid : Prop := Claim7.holds Tryd.pinned (.plain (OpenSpec.upto routeNilSpec)) routeNilUptoCard
end Rows
end Go.Proofs.YtgjnaihinplpeaaDoor
