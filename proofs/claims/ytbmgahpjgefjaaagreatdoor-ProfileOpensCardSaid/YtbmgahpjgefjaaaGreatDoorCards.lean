/-
  DERIVED. GIVEN WITH THE SEED: THE CARDS: each row of YtbmgahpjgefjaaaGreatDoorRows.lean that lists a variable, with what it lists TIED to the program's text (the seventh form; the later family's looks); each row that meets fmt, with fmt's text TOLD by the authors' own Lean function (tested against real Go, not proved from fmt's source: count such statements apart). THE CARD IS WHAT COUNTS. Prove the row's statement (the work); the ties are given (YtbmgahpjgefjaaaGreatDoorTie.lean); close each card by the builder's one call (the guide's Derived/Test/ToyasCard.lean, 'card_holds'). Laid BY PROGRAM, IN A SANDBOX (cutbox-door.mjs). By AI agents, Wed Nov 11 2026. No macro, syntax, notation, axiom, sorry.
-/
import Derived.Test.YtbmgahpjgefjaaaGreatDoorRows
import GoSem.ClaimSeven
namespace Go.Proofs.YtbmgahpjgefjaaaGreatDoor
namespace Rows

/-- THE TIED CARD OF 'watchwordlaw09.ProfileSeals'. -/
def profileSealsCard : Claim7 := { stood := { row := profileSealsRow, standIns := [], harness := (true, "5057ce87785311807cb2474d97f780a5caebacc9723673ef45631cb65d3cfcec"), looks := false }, kinds := [], alts := [], laidByText := true, laidKinds := [.data, .data, .data, .data], laidTests := true, laidLooks := .later }
def ProfileSealsCardSaid : Prop := Claim7.holds Tryz.pinned (.plain (OpenSpec.ofChange profileSealsSpec)) profileSealsCard

/-- THE TIED CARD OF 'watchwordlaw09.ProfileOpens'. -/
def profileOpensCard : Claim7 := { stood := { row := profileOpensRow, standIns := [], harness := (true, "5057ce87785311807cb2474d97f780a5caebacc9723673ef45631cb65d3cfcec"), looks := false }, kinds := [], alts := [], laidByText := true, laidKinds := [.data, .data, .data, .data], laidTests := true, laidLooks := .later }
def ProfileOpensCardSaid : Prop := Claim7.holds Tryz.pinned (.plain (OpenSpec.ofChange profileOpensSpec)) profileOpensCard

/-- THE TIED CARD OF 'watchwordlaw09.ProfileChanges'. -/
def profileChangesCard : Claim7 := { stood := { row := profileChangesRow, standIns := [], harness := (true, "5057ce87785311807cb2474d97f780a5caebacc9723673ef45631cb65d3cfcec"), looks := false }, kinds := [], alts := [], laidByText := true, laidKinds := [.data, .data, .data, .data], laidTests := true, laidLooks := .later }
def ProfileChangesCardSaid : Prop := Claim7.holds Tryz.pinned (.plain (OpenSpec.ofChange profileChangesSpec)) profileChangesCard

/-- THE TIED CARD OF 'watchwordlaw09.ProfileKeys'. -/
def profileKeysCard : Claim7 := { stood := { row := profileKeysRow, standIns := [], harness := (true, "5057ce87785311807cb2474d97f780a5caebacc9723673ef45631cb65d3cfcec"), looks := false }, kinds := [], alts := [], laidByText := true, laidKinds := [.data, .data], laidTests := true, laidLooks := .later }
def ProfileKeysCardSaid : Prop := Claim7.holds Tryz.pinned (.plain (OpenSpec.ofChange profileKeysSpec)) profileKeysCard

/-- THE TIED CARD OF 'watchwordlaw09.ProfileSums'. -/
def profileSumsCard : Claim7 := { stood := { row := profileSumsRow, standIns := [], harness := (true, "5057ce87785311807cb2474d97f780a5caebacc9723673ef45631cb65d3cfcec"), looks := false }, kinds := [], alts := [], laidByText := true, laidKinds := [.data, .data, .data], laidTests := true, laidLooks := .later }
def ProfileSumsCardSaid : Prop := Claim7.holds Tryz.pinned (.plain (OpenSpec.ofChange profileSumsSpec)) profileSumsCard

/-- THE TIED CARD OF 'watchwordlaw09.ProfilePasswords'. -/
def profilePasswordsCard : Claim7 := { stood := { row := profilePasswordsRow, standIns := [], harness := (true, "5057ce87785311807cb2474d97f780a5caebacc9723673ef45631cb65d3cfcec"), looks := false }, kinds := [], alts := [], laidByText := true, laidKinds := [.data, .data, .data], laidTests := true, laidLooks := .later }
def ProfilePasswordsCardSaid : Prop := Claim7.holds Tryz.pinned (.plain (OpenSpec.ofChange profilePasswordsSpec)) profilePasswordsCard

/-- THE TIED CARD OF 'watchwordlaw09.ProfileNames'. -/
def profileNamesCard : Claim7 := { stood := { row := profileNamesRow, standIns := [], harness := (true, "5057ce87785311807cb2474d97f780a5caebacc9723673ef45631cb65d3cfcec"), looks := false }, kinds := [], alts := [], laidByText := true, laidKinds := [.data, .data], laidTests := true, laidLooks := .later }
def ProfileNamesCardSaid : Prop := Claim7.holds Tryz.pinned (.plain (OpenSpec.ofChange profileNamesSpec)) profileNamesCard

/-- THE SECOND FORM's CARD OF 'watchwordlaw09.ProfileSeals'. -/
def profileSealsUptoCard : Claim7 := { stood := { row := profileSealsUptoRow, standIns := [], harness := (true, "5057ce87785311807cb2474d97f780a5caebacc9723673ef45631cb65d3cfcec"), looks := false }, kinds := [], alts := [], laidByText := true, laidKinds := [.data, .data, .data, .data], laidTests := true, laidLooks := .later }
def ProfileSealsUptoCardSaid : Prop := Claim7.holds Tryz.pinned (.plain (OpenSpec.upto profileSealsSpec)) profileSealsUptoCard

/-- THE SECOND FORM's CARD OF 'watchwordlaw09.ProfileOpens'. -/
def profileOpensUptoCard : Claim7 := { stood := { row := profileOpensUptoRow, standIns := [], harness := (true, "5057ce87785311807cb2474d97f780a5caebacc9723673ef45631cb65d3cfcec"), looks := false }, kinds := [], alts := [], laidByText := true, laidKinds := [.data, .data, .data, .data], laidTests := true, laidLooks := .later }
def ProfileOpensUptoCardSaid : Prop := Claim7.holds Tryz.pinned (.plain (OpenSpec.upto profileOpensSpec)) profileOpensUptoCard

/-- THE SECOND FORM's CARD OF 'watchwordlaw09.ProfileChanges'. -/
def profileChangesUptoCard : Claim7 := { stood := { row := profileChangesUptoRow, standIns := [], harness := (true, "5057ce87785311807cb2474d97f780a5caebacc9723673ef45631cb65d3cfcec"), looks := false }, kinds := [], alts := [], laidByText := true, laidKinds := [.data, .data, .data, .data], laidTests := true, laidLooks := .later }
def ProfileChangesUptoCardSaid : Prop := Claim7.holds Tryz.pinned (.plain (OpenSpec.upto profileChangesSpec)) profileChangesUptoCard

/-- THE SECOND FORM's CARD OF 'watchwordlaw09.ProfileKeys'. -/
def profileKeysUptoCard : Claim7 := { stood := { row := profileKeysUptoRow, standIns := [], harness := (true, "5057ce87785311807cb2474d97f780a5caebacc9723673ef45631cb65d3cfcec"), looks := false }, kinds := [], alts := [], laidByText := true, laidKinds := [.data, .data], laidTests := true, laidLooks := .later }
def ProfileKeysUptoCardSaid : Prop := Claim7.holds Tryz.pinned (.plain (OpenSpec.upto profileKeysSpec)) profileKeysUptoCard

/-- THE SECOND FORM's CARD OF 'watchwordlaw09.ProfileSums'. -/
def profileSumsUptoCard : Claim7 := { stood := { row := profileSumsUptoRow, standIns := [], harness := (true, "5057ce87785311807cb2474d97f780a5caebacc9723673ef45631cb65d3cfcec"), looks := false }, kinds := [], alts := [], laidByText := true, laidKinds := [.data, .data, .data], laidTests := true, laidLooks := .later }
def ProfileSumsUptoCardSaid : Prop := Claim7.holds Tryz.pinned (.plain (OpenSpec.upto profileSumsSpec)) profileSumsUptoCard

/-- THE SECOND FORM's CARD OF 'watchwordlaw09.ProfilePasswords'. -/
def profilePasswordsUptoCard : Claim7 := { stood := { row := profilePasswordsUptoRow, standIns := [], harness := (true, "5057ce87785311807cb2474d97f780a5caebacc9723673ef45631cb65d3cfcec"), looks := false }, kinds := [], alts := [], laidByText := true, laidKinds := [.data, .data, .data], laidTests := true, laidLooks := .later }
def ProfilePasswordsUptoCardSaid : Prop := Claim7.holds Tryz.pinned (.plain (OpenSpec.upto profilePasswordsSpec)) profilePasswordsUptoCard

/-- THE SECOND FORM's CARD OF 'watchwordlaw09.ProfileNames'. -/
def profileNamesUptoCard : Claim7 := { stood := { row := profileNamesUptoRow, standIns := [], harness := (true, "5057ce87785311807cb2474d97f780a5caebacc9723673ef45631cb65d3cfcec"), looks := false }, kinds := [], alts := [], laidByText := true, laidKinds := [.data, .data], laidTests := true, laidLooks := .later }
def ProfileNamesUptoCardSaid : Prop := Claim7.holds Tryz.pinned (.plain (OpenSpec.upto profileNamesSpec)) profileNamesUptoCard
end Rows
end Go.Proofs.YtbmgahpjgefjaaaGreatDoor
