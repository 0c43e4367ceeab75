/-
  DERIVED. GIVEN WITH THE SEED: THE CARDS: each row of YtiacmadengmobaaGreatDoorRows.lean that lists a variable, with what it lists TIED to the program's text (the seventh form; the later family's looks); each row that meets fmt, with fmt's text TOLD by the authors' own Lean function (tested against real Go, not proved from fmt's source: count such statements apart). THE CARD IS WHAT COUNTS. Prove the row's statement (the work); the ties are given (YtiacmadengmobaaGreatDoorTie.lean); close each card by the builder's one call (the guide's Derived/Test/ToyasCard.lean, 'card_holds'). Laid BY PROGRAM, IN A SANDBOX (cutbox-door.mjs). By AI agents, Wed Nov 11 2026. No macro, syntax, notation, axiom, sorry.
-/
import Derived.Test.YtiacmadengmobaaGreatDoorRows
import GoSem.ClaimSeven
namespace Go.Proofs.YtiacmadengmobaaGreatDoor
namespace Rows

/-- THE TIED CARD OF 'watchwordlaw37.ReferralFull'. -/
def referralFullCard : Claim7 := { stood := { row := referralFullRow, standIns := [], harness := (true, "97f44cd37346408c7ec22f6e1307c6a2bfc92c19d7c5cb617cd3238569a88745"), looks := false }, kinds := [], alts := [], laidByText := true, laidKinds := [.data, .data, .data, .pinned], laidTests := true, laidLooks := .later }
def ReferralFullCardSaid : Prop := Claim7.holds Tryz.pinned (.plain (OpenSpec.ofChange referralFullSpec)) referralFullCard

/-- THE SECOND FORM's CARD OF 'watchwordlaw37.ReferralFull'. -/
def referralFullUptoCard : Claim7 := { stood := { row := referralFullUptoRow, standIns := [], harness := (true, "97f44cd37346408c7ec22f6e1307c6a2bfc92c19d7c5cb617cd3238569a88745"), looks := false }, kinds := [], alts := [], laidByText := true, laidKinds := [.data, .data, .data, .pinned], laidTests := true, laidLooks := .later }
def ReferralFullUptoCardSaid : Prop := Claim7.holds Tryz.pinned (.plain (OpenSpec.upto referralFullSpec)) referralFullUptoCard
end Rows
end Go.Proofs.YtiacmadengmobaaGreatDoor
