/-
  DERIVED. GIVEN WITH THE SEED: THE CARDS: each row of YtpndmanbfleadaaGreatDoorRows.lean that lists a variable, with what it lists TIED to the program's text (the seventh form; the later family's looks); each row that meets fmt, with fmt's text TOLD by the authors' own Lean function (tested against real Go, not proved from fmt's source: count such statements apart). THE CARD IS WHAT COUNTS. Prove the row's statement (the work); the ties are given (YtpndmanbfleadaaGreatDoorTie.lean); close each card by the builder's one call (the guide's Derived/Test/ToyasCard.lean, 'card_holds'). Laid BY PROGRAM, IN A SANDBOX (cutbox-door.mjs). By AI agents, Wed Nov 11 2026. No macro, syntax, notation, axiom, sorry.
-/
import Derived.Test.YtpndmanbfleadaaGreatDoorRows
import GoSem.ClaimSeven
namespace Go.Proofs.YtpndmanbfleadaaGreatDoor
namespace Rows

/-- THE TIED CARD OF 'mandrellaw20.JsonSets'. -/
def jsonSetsCard : Claim7 := { stood := { row := jsonSetsRow, standIns := [], harness := (true, "206fe8dbf8e52932ec9e8aabf78a392ee94f91dda865ff8bc96efe1930e8586b"), looks := true }, kinds := [], alts := [], laidByText := true, laidKinds := [.data, .data, .data, .data, .sentinel, .sentinel, .pinned, .pinned], laidTests := true, laidLooks := .later }
def JsonSetsCardSaid : Prop := Claim7.holds Tryz.pinned (.plain (OpenSpec.ofChange jsonSetsSpec)) jsonSetsCard

/-- THE TIED CARD OF 'mandrellaw20.JsonPatches'. -/
def jsonPatchesCard : Claim7 := { stood := { row := jsonPatchesRow, standIns := [], harness := (true, "206fe8dbf8e52932ec9e8aabf78a392ee94f91dda865ff8bc96efe1930e8586b"), looks := true }, kinds := [], alts := [], laidByText := true, laidKinds := [.data, .data, .data, .data, .sentinel, .sentinel, .pinned, .pinned], laidTests := true, laidLooks := .later }
def JsonPatchesCardSaid : Prop := Claim7.holds Tryz.pinned (.plain (OpenSpec.ofChange jsonPatchesSpec)) jsonPatchesCard

/-- THE TIED CARD OF 'mandrellaw20.JsonDeletes'. -/
def jsonDeletesCard : Claim7 := { stood := { row := jsonDeletesRow, standIns := [], harness := (true, "206fe8dbf8e52932ec9e8aabf78a392ee94f91dda865ff8bc96efe1930e8586b"), looks := true }, kinds := [], alts := [], laidByText := true, laidKinds := [.data, .data, .data, .data, .sentinel, .sentinel, .pinned, .pinned], laidTests := true, laidLooks := .later }
def JsonDeletesCardSaid : Prop := Claim7.holds Tryz.pinned (.plain (OpenSpec.ofChange jsonDeletesSpec)) jsonDeletesCard

/-- THE TIED CARD OF 'mandrellaw20.JsonSorts'. -/
def jsonSortsCard : Claim7 := { stood := { row := jsonSortsRow, standIns := [], harness := (true, "206fe8dbf8e52932ec9e8aabf78a392ee94f91dda865ff8bc96efe1930e8586b"), looks := true }, kinds := [], alts := [], laidByText := true, laidKinds := [.data, .data, .data, .data, .sentinel, .sentinel, .pinned, .pinned], laidTests := true, laidLooks := .later }
def JsonSortsCardSaid : Prop := Claim7.holds Tryz.pinned (.plain (OpenSpec.ofChange jsonSortsSpec)) jsonSortsCard

/-- THE SECOND FORM's CARD OF 'mandrellaw20.JsonSets'. -/
def jsonSetsUptoCard : Claim7 := { stood := { row := jsonSetsUptoRow, standIns := [], harness := (true, "206fe8dbf8e52932ec9e8aabf78a392ee94f91dda865ff8bc96efe1930e8586b"), looks := true }, kinds := [], alts := [], laidByText := true, laidKinds := [.data, .data, .data, .data, .sentinel, .sentinel, .pinned, .pinned], laidTests := true, laidLooks := .later }
def JsonSetsUptoCardSaid : Prop := Claim7.holds Tryz.pinned (.plain (OpenSpec.upto jsonSetsSpec)) jsonSetsUptoCard

/-- THE SECOND FORM's CARD OF 'mandrellaw20.JsonPatches'. -/
def jsonPatchesUptoCard : Claim7 := { stood := { row := jsonPatchesUptoRow, standIns := [], harness := (true, "206fe8dbf8e52932ec9e8aabf78a392ee94f91dda865ff8bc96efe1930e8586b"), looks := true }, kinds := [], alts := [], laidByText := true, laidKinds := [.data, .data, .data, .data, .sentinel, .sentinel, .pinned, .pinned], laidTests := true, laidLooks := .later }
def JsonPatchesUptoCardSaid : Prop := Claim7.holds Tryz.pinned (.plain (OpenSpec.upto jsonPatchesSpec)) jsonPatchesUptoCard

/-- THE SECOND FORM's CARD OF 'mandrellaw20.JsonDeletes'. -/
def jsonDeletesUptoCard : Claim7 := { stood := { row := jsonDeletesUptoRow, standIns := [], harness := (true, "206fe8dbf8e52932ec9e8aabf78a392ee94f91dda865ff8bc96efe1930e8586b"), looks := true }, kinds := [], alts := [], laidByText := true, laidKinds := [.data, .data, .data, .data, .sentinel, .sentinel, .pinned, .pinned], laidTests := true, laidLooks := .later }
def JsonDeletesUptoCardSaid : Prop := Claim7.holds Tryz.pinned (.plain (OpenSpec.upto jsonDeletesSpec)) jsonDeletesUptoCard

/-- THE SECOND FORM's CARD OF 'mandrellaw20.JsonSorts'. -/
def jsonSortsUptoCard : Claim7 := { stood := { row := jsonSortsUptoRow, standIns := [], harness := (true, "206fe8dbf8e52932ec9e8aabf78a392ee94f91dda865ff8bc96efe1930e8586b"), looks := true }, kinds := [], alts := [], laidByText := true, laidKinds := [.data, .data, .data, .data, .sentinel, .sentinel, .pinned, .pinned], laidTests := true, laidLooks := .later }
def JsonSortsUptoCardSaid : Prop := Claim7.holds Tryz.pinned (.plain (OpenSpec.upto jsonSortsSpec)) jsonSortsUptoCard
end Rows
end Go.Proofs.YtpndmanbfleadaaGreatDoor
