/-
  DERIVED. GIVEN WITH THE SEED: THE CARDS: each row of YtbmgahpjgefjaaaDoorRows.lean that lists a variable, with what it lists TIED to the program's text (the seventh form; the later family's looks); each row that meets fmt, with fmt's text TOLD by the authors' own Lean function (tested against real Go, not proved from fmt's source: count such statements apart). THE CARD IS WHAT COUNTS. Prove the row's statement (the work); the ties are given (YtbmgahpjgefjaaaDoorTie.lean); close each card by the builder's one call (the guide's Derived/Test/ToyasCard.lean, 'card_holds'). Laid BY PROGRAM, IN A SANDBOX (cutbox-door.mjs). By AI agents, Wed Nov 11 2026. No macro, syntax, notation, axiom, sorry.
-/
import Derived.Test.YtbmgahpjgefjaaaDoorRows
import GoSem.ClaimSeven
namespace Go.Proofs.YtbmgahpjgefjaaaDoor
namespace Rows

/-- THE TIED CARD OF 'watchwordlaw09.ProfileLong'. -/
def profileLongCard : Claim7 := { stood := { row := profileLongRow, standIns := [], harness := (true, "095049b518361d02e473d6ff2e805e8af838a70df36883bc7bc2b870db595f81"), looks := false }, kinds := [], alts := [], laidByText := true, laidKinds := [.data, .data], laidTests := true, laidLooks := .later }
def ProfileLongCardSaid : Prop := Claim7.holds Tryd.pinned (.plain (OpenSpec.ofChange profileLongSpec)) profileLongCard

/-- THE TIED CARD OF 'watchwordlaw09.ProfileInverts'. -/
def profileInvertsCard : Claim7 := { stood := { row := profileInvertsRow, standIns := [], harness := (true, "095049b518361d02e473d6ff2e805e8af838a70df36883bc7bc2b870db595f81"), looks := false }, kinds := [], alts := [], laidByText := true, laidKinds := [.data, .data], laidTests := true, laidLooks := .later }
def ProfileInvertsCardSaid : Prop := Claim7.holds Tryd.pinned (.plain (OpenSpec.ofChange profileInvertsSpec)) profileInvertsCard

/-- THE SECOND FORM's CARD OF 'watchwordlaw09.ProfileLong'. -/
def profileLongUptoCard : Claim7 := { stood := { row := profileLongUptoRow, standIns := [], harness := (true, "095049b518361d02e473d6ff2e805e8af838a70df36883bc7bc2b870db595f81"), looks := false }, kinds := [], alts := [], laidByText := true, laidKinds := [.data, .data], laidTests := true, laidLooks := .later }
def ProfileLongUptoCardSaid : Prop := Claim7.holds Tryd.pinned (.plain (OpenSpec.upto profileLongSpec)) profileLongUptoCard

/-- THE SECOND FORM's CARD OF 'watchwordlaw09.ProfileInverts'. -/
def profileInvertsUptoCard : Claim7 := { stood := { row := profileInvertsUptoRow, standIns := [], harness := (true, "095049b518361d02e473d6ff2e805e8af838a70df36883bc7bc2b870db595f81"), looks := false }, kinds := [], alts := [], laidByText := true, laidKinds := [.data, .data], laidTests := true, laidLooks := .later }
def ProfileInvertsUptoCardSaid : Prop := Claim7.holds Tryd.pinned (.plain (OpenSpec.upto profileInvertsSpec)) profileInvertsUptoCard
end Rows
end Go.Proofs.YtbmgahpjgefjaaaDoor
