/-
  DERIVED. GIVEN WITH THE SEED: THE CARDS: each row of YthkgcljngalafaaDoorRows.lean that lists a variable, with what it lists TIED to the program's text (the seventh form; the later family's looks); each row that meets fmt, with fmt's text TOLD by the authors' own Lean function (tested against real Go, not proved from fmt's source: count such statements apart). THE CARD IS WHAT COUNTS. Prove the row's statement (the work); the ties are given (YthkgcljngalafaaDoorTie.lean); close each card by the builder's one call (the guide's Derived/Test/ToyasCard.lean, 'card_holds'). Laid BY PROGRAM, IN A SANDBOX (cutbox-door.mjs). By AI agents, Wed Nov 11 2026. No macro, syntax, notation, axiom, sorry.
-/
import Derived.Test.YthkgcljngalafaaDoorRows
import GoSem.ClaimSeven
namespace Go.Proofs.YthkgcljngalafaaDoor
namespace Rows

/-- THE TIED CARD OF 'watchwordlaw43.ReplayLoads'. -/
def replayLoadsCard : Claim7 := { stood := { row := replayLoadsRow, standIns := [], harness := (true, "13c7cbe15a54f5d9082f48a2ea0427b9ed41b3ca90918dd368f2025c0be92ac0"), looks := true }, kinds := [], alts := [], laidByText := true, laidKinds := [.data, .data, .data], laidTests := true, laidLooks := .later }
def ReplayLoadsCardSaid : Prop := Claim7.holds Tryd.pinned (.plain (OpenSpec.ofChange replayLoadsSpec)) replayLoadsCard

/-- THE TIED CARD OF 'watchwordlaw43.ReplayOnce'. -/
def replayOnceCard : Claim7 := { stood := { row := replayOnceRow, standIns := [], harness := (true, "13c7cbe15a54f5d9082f48a2ea0427b9ed41b3ca90918dd368f2025c0be92ac0"), looks := true }, kinds := [], alts := [], laidByText := true, laidKinds := [.data, .data, .data], laidTests := true, laidLooks := .later }
def ReplayOnceCardSaid : Prop := Claim7.holds Tryd.pinned (.plain (OpenSpec.ofChange replayOnceSpec)) replayOnceCard

/-- THE TIED CARD OF 'watchwordlaw43.ReplayPlays'. -/
def replayPlaysCard : Claim7 := { stood := { row := replayPlaysRow, standIns := [], harness := (true, "13c7cbe15a54f5d9082f48a2ea0427b9ed41b3ca90918dd368f2025c0be92ac0"), looks := true }, kinds := [], alts := [], laidByText := true, laidKinds := [.data, .data, .data], laidTests := true, laidLooks := .later }
def ReplayPlaysCardSaid : Prop := Claim7.holds Tryd.pinned (.plain (OpenSpec.ofChange replayPlaysSpec)) replayPlaysCard

/-- THE TIED CARD OF 'watchwordlaw43.ReplayLoops'. -/
def replayLoopsCard : Claim7 := { stood := { row := replayLoopsRow, standIns := [], harness := (true, "13c7cbe15a54f5d9082f48a2ea0427b9ed41b3ca90918dd368f2025c0be92ac0"), looks := true }, kinds := [], alts := [], laidByText := true, laidKinds := [.data, .data, .data], laidTests := true, laidLooks := .later }
def ReplayLoopsCardSaid : Prop := Claim7.holds Tryd.pinned (.plain (OpenSpec.ofChange replayLoopsSpec)) replayLoopsCard

/-- THE SECOND FORM's CARD OF 'watchwordlaw43.ReplayLoads'. -/
def replayLoadsUptoCard : Claim7 := { stood := { row := replayLoadsUptoRow, standIns := [], harness := (true, "13c7cbe15a54f5d9082f48a2ea0427b9ed41b3ca90918dd368f2025c0be92ac0"), looks := true }, kinds := [], alts := [], laidByText := true, laidKinds := [.data, .data, .data], laidTests := true, laidLooks := .later }
def ReplayLoadsUptoCardSaid : Prop := Claim7.holds Tryd.pinned (.plain (OpenSpec.upto replayLoadsSpec)) replayLoadsUptoCard

/-- THE SECOND FORM's CARD OF 'watchwordlaw43.ReplayOnce'. -/
def replayOnceUptoCard : Claim7 := { stood := { row := replayOnceUptoRow, standIns := [], harness := (true, "13c7cbe15a54f5d9082f48a2ea0427b9ed41b3ca90918dd368f2025c0be92ac0"), looks := true }, kinds := [], alts := [], laidByText := true, laidKinds := [.data, .data, .data], laidTests := true, laidLooks := .later }
def ReplayOnceUptoCardSaid : Prop := Claim7.holds Tryd.pinned (.plain (OpenSpec.upto replayOnceSpec)) replayOnceUptoCard

/-- THE SECOND FORM's CARD OF 'watchwordlaw43.ReplayPlays'. -/
def replayPlaysUptoCard : Claim7 := { stood := { row := replayPlaysUptoRow, standIns := [], harness := (true, "13c7cbe15a54f5d9082f48a2ea0427b9ed41b3ca90918dd368f2025c0be92ac0"), looks := true }, kinds := [], alts := [], laidByText := true, laidKinds := [.data, .data, .data], laidTests := true, laidLooks := .later }
def ReplayPlaysUptoCardSaid : Prop := Claim7.holds Tryd.pinned (.plain (OpenSpec.upto replayPlaysSpec)) replayPlaysUptoCard

/-- THE SECOND FORM's CARD OF 'watchwordlaw43.ReplayLoops'. -/
def replayLoopsUptoCard : Claim7 := { stood := { row := replayLoopsUptoRow, standIns := [], harness := (true, "13c7cbe15a54f5d9082f48a2ea0427b9ed41b3ca90918dd368f2025c0be92ac0"), looks := true }, kinds := [], alts := [], laidByText := true, laidKinds := [.data, .data, .data], laidTests := true, laidLooks := .later }
def ReplayLoopsUptoCardSaid : Prop := Claim7.holds Tryd.pinned (.plain (OpenSpec.upto replayLoopsSpec)) replayLoopsUptoCard
end Rows
end Go.Proofs.YthkgcljngalafaaDoor
