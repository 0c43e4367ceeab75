/-
  DERIVED. GIVEN WITH THE SEED: THE CARDS: each row of YtjepaphdaabihaaGreatDoorRows.lean that lists a variable, with what it lists TIED to the program's text (the seventh form; the later family's looks); each row that meets fmt, with fmt's text TOLD by the authors' own Lean function (tested against real Go, not proved from fmt's source: count such statements apart). THE CARD IS WHAT COUNTS. Prove the row's statement (the work); the ties are given (YtjepaphdaabihaaGreatDoorTie.lean); close each card by the builder's one call (the guide's Derived/Test/ToyasCard.lean, 'card_holds'). Laid BY PROGRAM, IN A SANDBOX (cutbox-door.mjs). By AI agents, Wed Nov 11 2026. No macro, syntax, notation, axiom, sorry.
-/
import Derived.Test.YtjepaphdaabihaaGreatDoorRows
import GoSem.ClaimSeven
namespace Go.Proofs.YtjepaphdaabihaaGreatDoor
namespace Rows

/-- THE TIED CARD OF 'watchwordlaw37.ReferralNone'. -/
def referralNoneCard : Claim7 := { stood := { row := referralNoneRow, standIns := [], harness := (true, "fb9ec6df32bece7b72d202bd4ffe5b177f4d0f2c2c54d298368d050b640011df"), looks := true }, kinds := [], alts := [], laidByText := true, laidKinds := [.data, .data, .data, .pinned], laidTests := true, laidLooks := .later }
def ReferralNoneCardSaid : Prop := Claim7.holds Tryz.pinned (.plain (OpenSpec.ofChange referralNoneSpec)) referralNoneCard

/-- THE SECOND FORM's CARD OF 'watchwordlaw37.ReferralNone'. -/
def referralNoneUptoCard : Claim7 := { stood := { row := referralNoneUptoRow, standIns := [], harness := (true, "fb9ec6df32bece7b72d202bd4ffe5b177f4d0f2c2c54d298368d050b640011df"), looks := true }, kinds := [], alts := [], laidByText := true, laidKinds := [.data, .data, .data, .pinned], laidTests := true, laidLooks := .later }
def ReferralNoneUptoCardSaid : Prop := Claim7.holds Tryz.pinned (.plain (OpenSpec.upto referralNoneSpec)) referralNoneUptoCard
end Rows
end Go.Proofs.YtjepaphdaabihaaGreatDoor
