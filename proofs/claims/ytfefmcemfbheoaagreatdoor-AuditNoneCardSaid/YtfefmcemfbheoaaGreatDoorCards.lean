/-
  DERIVED. GIVEN WITH THE SEED: THE CARDS: each row of YtfefmcemfbheoaaGreatDoorRows.lean that lists a variable, with what it lists TIED to the program's text (the seventh form; the later family's looks); each row that meets fmt, with fmt's text TOLD by the authors' own Lean function (tested against real Go, not proved from fmt's source: count such statements apart). THE CARD IS WHAT COUNTS. Prove the row's statement (the work); the ties are given (YtfefmcemfbheoaaGreatDoorTie.lean); close each card by the builder's one call (the guide's Derived/Test/ToyasCard.lean, 'card_holds'). Laid BY PROGRAM, IN A SANDBOX (cutbox-door.mjs). By AI agents, Wed Nov 11 2026. No macro, syntax, notation, axiom, sorry.
-/
import Derived.Test.YtfefmcemfbheoaaGreatDoorRows
import GoSem.ClaimSeven
namespace Go.Proofs.YtfefmcemfbheoaaGreatDoor
namespace Rows

/-- THE TIED CARD OF 'watchwordlaw49.AuditNone'. -/
def auditNoneCard : Claim7 := { stood := { row := auditNoneRow, standIns := [], harness := (true, "a8b4e1463f307185c25a918fd2e37b4328f4f91fe8a3cdf3ef9965070414cccf"), looks := false }, kinds := [], alts := [], laidByText := true, laidKinds := [.data, .pinned], laidTests := true, laidLooks := .later }
def AuditNoneCardSaid : Prop := Claim7.holds Tryz.pinned (.plain (OpenSpec.ofChange auditNoneSpec)) auditNoneCard

/-- THE SECOND FORM's CARD OF 'watchwordlaw49.AuditNone'. -/
def auditNoneUptoCard : Claim7 := { stood := { row := auditNoneUptoRow, standIns := [], harness := (true, "a8b4e1463f307185c25a918fd2e37b4328f4f91fe8a3cdf3ef9965070414cccf"), looks := false }, kinds := [], alts := [], laidByText := true, laidKinds := [.data, .pinned], laidTests := true, laidLooks := .later }
def AuditNoneUptoCardSaid : Prop := Claim7.holds Tryz.pinned (.plain (OpenSpec.upto auditNoneSpec)) auditNoneUptoCard
end Rows
end Go.Proofs.YtfefmcemfbheoaaGreatDoor
