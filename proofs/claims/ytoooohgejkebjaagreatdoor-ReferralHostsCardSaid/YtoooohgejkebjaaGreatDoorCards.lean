/-
  DERIVED. GIVEN WITH THE SEED: THE CARDS: each row of YtoooohgejkebjaaGreatDoorRows.lean that lists a variable, with what it lists TIED to the program's text (the seventh form; the later family's looks); each row that meets fmt, with fmt's text TOLD by the authors' own Lean function (tested against real Go, not proved from fmt's source: count such statements apart). THE CARD IS WHAT COUNTS. Prove the row's statement (the work); the ties are given (YtoooohgejkebjaaGreatDoorTie.lean); close each card by the builder's one call (the guide's Derived/Test/ToyasCard.lean, 'card_holds'). Laid BY PROGRAM, IN A SANDBOX (cutbox-door.mjs). By AI agents, Wed Nov 11 2026. No macro, syntax, notation, axiom, sorry.
-/
import Derived.Test.YtoooohgejkebjaaGreatDoorRows
import GoSem.ClaimSeven
namespace Go.Proofs.YtoooohgejkebjaaGreatDoor
namespace Rows

/-- THE TIED CARD OF 'watchwordlaw37.ReferralHosts'. -/
def referralHostsCard : Claim7 := { stood := { row := referralHostsRow, standIns := [], harness := (true, "bdc4f8a47c9a5f1f6cf38263f3d0e7a975276f8a57ade5bacb056639808db17b"), looks := true }, kinds := [], alts := [], laidByText := true, laidKinds := [.data, .data, .data, .pinned], laidTests := true, laidLooks := .later }
def ReferralHostsCardSaid : Prop := Claim7.holds Tryz.pinned (.plain (OpenSpec.ofChange referralHostsSpec)) referralHostsCard

/-- THE SECOND FORM's CARD OF 'watchwordlaw37.ReferralHosts'. -/
def referralHostsUptoCard : Claim7 := { stood := { row := referralHostsUptoRow, standIns := [], harness := (true, "bdc4f8a47c9a5f1f6cf38263f3d0e7a975276f8a57ade5bacb056639808db17b"), looks := true }, kinds := [], alts := [], laidByText := true, laidKinds := [.data, .data, .data, .pinned], laidTests := true, laidLooks := .later }
def ReferralHostsUptoCardSaid : Prop := Claim7.holds Tryz.pinned (.plain (OpenSpec.upto referralHostsSpec)) referralHostsUptoCard
end Rows
end Go.Proofs.YtoooohgejkebjaaGreatDoor
