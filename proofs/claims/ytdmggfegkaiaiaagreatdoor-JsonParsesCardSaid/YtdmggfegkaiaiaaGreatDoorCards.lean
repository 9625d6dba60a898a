/-
  DERIVED. GIVEN WITH THE SEED: THE CARDS: each row of YtdmggfegkaiaiaaGreatDoorRows.lean that lists a variable, with what it lists TIED to the program's text (the seventh form; the later family's looks); each row that meets fmt, with fmt's text TOLD by the authors' own Lean function (tested against real Go, not proved from fmt's source: count such statements apart). THE CARD IS WHAT COUNTS. Prove the row's statement (the work); the ties are given (YtdmggfegkaiaiaaGreatDoorTie.lean); close each card by the builder's one call (the guide's Derived/Test/ToyasCard.lean, 'card_holds'). Laid BY PROGRAM, IN A SANDBOX (cutbox-door.mjs). By AI agents, Wed Nov 11 2026. No macro, syntax, notation, axiom, sorry.
-/
import Derived.Test.YtdmggfegkaiaiaaGreatDoorRows
import GoSem.ClaimSeven
namespace Go.Proofs.YtdmggfegkaiaiaaGreatDoor
namespace Rows

/-- THE TIED CARD OF 'mandrellaw20.JsonGets'. -/
def jsonGetsCard : Claim7 := { stood := { row := jsonGetsRow, standIns := [], harness := (true, "22100c2414b51b234e734a373bf0d765205aeba86125058e9a4f2bdf69e80eec"), looks := true }, kinds := [], alts := [], laidByText := true, laidKinds := [.data, .data, .data, .data, .sentinel, .sentinel, .pinned, .pinned], laidTests := true, laidLooks := .later }
def JsonGetsCardSaid : Prop := Claim7.holds Tryz.pinned (.plain (OpenSpec.ofChange jsonGetsSpec)) jsonGetsCard

/-- THE TIED CARD OF 'mandrellaw20.JsonSames'. -/
def jsonSamesCard : Claim7 := { stood := { row := jsonSamesRow, standIns := [], harness := (true, "22100c2414b51b234e734a373bf0d765205aeba86125058e9a4f2bdf69e80eec"), looks := true }, kinds := [], alts := [], laidByText := true, laidKinds := [.data, .data, .data, .data, .sentinel, .sentinel, .pinned, .pinned], laidTests := true, laidLooks := .later }
def JsonSamesCardSaid : Prop := Claim7.holds Tryz.pinned (.plain (OpenSpec.ofChange jsonSamesSpec)) jsonSamesCard

/-- THE TIED CARD OF 'mandrellaw20.JsonSets'. -/
def jsonSetsCard : Claim7 := { stood := { row := jsonSetsRow, standIns := [], harness := (true, "22100c2414b51b234e734a373bf0d765205aeba86125058e9a4f2bdf69e80eec"), looks := true }, kinds := [], alts := [], laidByText := true, laidKinds := [.data, .data, .data, .data, .sentinel, .sentinel, .pinned, .pinned], laidTests := true, laidLooks := .later }
def JsonSetsCardSaid : Prop := Claim7.holds Tryz.pinned (.plain (OpenSpec.ofChange jsonSetsSpec)) jsonSetsCard

/-- THE TIED CARD OF 'mandrellaw20.JsonPatches'. -/
def jsonPatchesCard : Claim7 := { stood := { row := jsonPatchesRow, standIns := [], harness := (true, "22100c2414b51b234e734a373bf0d765205aeba86125058e9a4f2bdf69e80eec"), looks := true }, kinds := [], alts := [], laidByText := true, laidKinds := [.data, .data, .data, .data, .sentinel, .sentinel, .pinned, .pinned], laidTests := true, laidLooks := .later }
def JsonPatchesCardSaid : Prop := Claim7.holds Tryz.pinned (.plain (OpenSpec.ofChange jsonPatchesSpec)) jsonPatchesCard

/-- THE TIED CARD OF 'mandrellaw20.JsonDeletes'. -/
def jsonDeletesCard : Claim7 := { stood := { row := jsonDeletesRow, standIns := [], harness := (true, "22100c2414b51b234e734a373bf0d765205aeba86125058e9a4f2bdf69e80eec"), looks := true }, kinds := [], alts := [], laidByText := true, laidKinds := [.data, .data, .data, .data, .sentinel, .sentinel, .pinned, .pinned], laidTests := true, laidLooks := .later }
def JsonDeletesCardSaid : Prop := Claim7.holds Tryz.pinned (.plain (OpenSpec.ofChange jsonDeletesSpec)) jsonDeletesCard

/-- THE TIED CARD OF 'mandrellaw20.JsonWrites'. -/
def jsonWritesCard : Claim7 := { stood := { row := jsonWritesRow, standIns := [], harness := (true, "22100c2414b51b234e734a373bf0d765205aeba86125058e9a4f2bdf69e80eec"), looks := true }, kinds := [], alts := [], laidByText := true, laidKinds := [.data, .data, .data, .data, .sentinel, .sentinel, .pinned, .pinned], laidTests := true, laidLooks := .later }
def JsonWritesCardSaid : Prop := Claim7.holds Tryz.pinned (.plain (OpenSpec.ofChange jsonWritesSpec)) jsonWritesCard

/-- THE TIED CARD OF 'mandrellaw20.JsonPretties'. -/
def jsonPrettiesCard : Claim7 := { stood := { row := jsonPrettiesRow, standIns := [], harness := (true, "22100c2414b51b234e734a373bf0d765205aeba86125058e9a4f2bdf69e80eec"), looks := true }, kinds := [], alts := [], laidByText := true, laidKinds := [.data, .data, .data, .data, .sentinel, .sentinel, .pinned, .pinned], laidTests := true, laidLooks := .later }
def JsonPrettiesCardSaid : Prop := Claim7.holds Tryz.pinned (.plain (OpenSpec.ofChange jsonPrettiesSpec)) jsonPrettiesCard

/-- THE TIED CARD OF 'mandrellaw20.JsonParses'. -/
def jsonParsesCard : Claim7 := { stood := { row := jsonParsesRow, standIns := [], harness := (true, "22100c2414b51b234e734a373bf0d765205aeba86125058e9a4f2bdf69e80eec"), looks := true }, kinds := [], alts := [], laidByText := true, laidKinds := [.data, .data, .data, .data, .sentinel, .sentinel, .pinned, .pinned], laidTests := true, laidLooks := .later }
def JsonParsesCardSaid : Prop := Claim7.holds Tryz.pinned (.plain (OpenSpec.ofChange jsonParsesSpec)) jsonParsesCard

/-- THE TIED CARD OF 'mandrellaw20.JsonSpoils'. -/
def jsonSpoilsCard : Claim7 := { stood := { row := jsonSpoilsRow, standIns := [], harness := (true, "22100c2414b51b234e734a373bf0d765205aeba86125058e9a4f2bdf69e80eec"), looks := true }, kinds := [], alts := [], laidByText := true, laidKinds := [.data, .data, .data, .data, .sentinel, .sentinel, .pinned, .pinned], laidTests := true, laidLooks := .later }
def JsonSpoilsCardSaid : Prop := Claim7.holds Tryz.pinned (.plain (OpenSpec.ofChange jsonSpoilsSpec)) jsonSpoilsCard

/-- THE TIED CARD OF 'mandrellaw20.JsonSorts'. -/
def jsonSortsCard : Claim7 := { stood := { row := jsonSortsRow, standIns := [], harness := (true, "22100c2414b51b234e734a373bf0d765205aeba86125058e9a4f2bdf69e80eec"), looks := true }, kinds := [], alts := [], laidByText := true, laidKinds := [.data, .data, .data, .data, .sentinel, .sentinel, .pinned, .pinned], laidTests := true, laidLooks := .later }
def JsonSortsCardSaid : Prop := Claim7.holds Tryz.pinned (.plain (OpenSpec.ofChange jsonSortsSpec)) jsonSortsCard

/-- THE SECOND FORM's CARD OF 'mandrellaw20.JsonGets'. -/
def jsonGetsUptoCard : Claim7 := { stood := { row := jsonGetsUptoRow, standIns := [], harness := (true, "22100c2414b51b234e734a373bf0d765205aeba86125058e9a4f2bdf69e80eec"), looks := true }, kinds := [], alts := [], laidByText := true, laidKinds := [.data, .data, .data, .data, .sentinel, .sentinel, .pinned, .pinned], laidTests := true, laidLooks := .later }
def JsonGetsUptoCardSaid : Prop := Claim7.holds Tryz.pinned (.plain (OpenSpec.upto jsonGetsSpec)) jsonGetsUptoCard

/-- THE SECOND FORM's CARD OF 'mandrellaw20.JsonSames'. -/
def jsonSamesUptoCard : Claim7 := { stood := { row := jsonSamesUptoRow, standIns := [], harness := (true, "22100c2414b51b234e734a373bf0d765205aeba86125058e9a4f2bdf69e80eec"), looks := true }, kinds := [], alts := [], laidByText := true, laidKinds := [.data, .data, .data, .data, .sentinel, .sentinel, .pinned, .pinned], laidTests := true, laidLooks := .later }
def JsonSamesUptoCardSaid : Prop := Claim7.holds Tryz.pinned (.plain (OpenSpec.upto jsonSamesSpec)) jsonSamesUptoCard

/-- THE SECOND FORM's CARD OF 'mandrellaw20.JsonSets'. -/
def jsonSetsUptoCard : Claim7 := { stood := { row := jsonSetsUptoRow, standIns := [], harness := (true, "22100c2414b51b234e734a373bf0d765205aeba86125058e9a4f2bdf69e80eec"), looks := true }, kinds := [], alts := [], laidByText := true, laidKinds := [.data, .data, .data, .data, .sentinel, .sentinel, .pinned, .pinned], laidTests := true, laidLooks := .later }
def JsonSetsUptoCardSaid : Prop := Claim7.holds Tryz.pinned (.plain (OpenSpec.upto jsonSetsSpec)) jsonSetsUptoCard

/-- THE SECOND FORM's CARD OF 'mandrellaw20.JsonPatches'. -/
def jsonPatchesUptoCard : Claim7 := { stood := { row := jsonPatchesUptoRow, standIns := [], harness := (true, "22100c2414b51b234e734a373bf0d765205aeba86125058e9a4f2bdf69e80eec"), looks := true }, kinds := [], alts := [], laidByText := true, laidKinds := [.data, .data, .data, .data, .sentinel, .sentinel, .pinned, .pinned], laidTests := true, laidLooks := .later }
def JsonPatchesUptoCardSaid : Prop := Claim7.holds Tryz.pinned (.plain (OpenSpec.upto jsonPatchesSpec)) jsonPatchesUptoCard

/-- THE SECOND FORM's CARD OF 'mandrellaw20.JsonDeletes'. -/
def jsonDeletesUptoCard : Claim7 := { stood := { row := jsonDeletesUptoRow, standIns := [], harness := (true, "22100c2414b51b234e734a373bf0d765205aeba86125058e9a4f2bdf69e80eec"), looks := true }, kinds := [], alts := [], laidByText := true, laidKinds := [.data, .data, .data, .data, .sentinel, .sentinel, .pinned, .pinned], laidTests := true, laidLooks := .later }
def JsonDeletesUptoCardSaid : Prop := Claim7.holds Tryz.pinned (.plain (OpenSpec.upto jsonDeletesSpec)) jsonDeletesUptoCard

/-- THE SECOND FORM's CARD OF 'mandrellaw20.JsonWrites'. -/
def jsonWritesUptoCard : Claim7 := { stood := { row := jsonWritesUptoRow, standIns := [], harness := (true, "22100c2414b51b234e734a373bf0d765205aeba86125058e9a4f2bdf69e80eec"), looks := true }, kinds := [], alts := [], laidByText := true, laidKinds := [.data, .data, .data, .data, .sentinel, .sentinel, .pinned, .pinned], laidTests := true, laidLooks := .later }
def JsonWritesUptoCardSaid : Prop := Claim7.holds Tryz.pinned (.plain (OpenSpec.upto jsonWritesSpec)) jsonWritesUptoCard

/-- THE SECOND FORM's CARD OF 'mandrellaw20.JsonPretties'. -/
def jsonPrettiesUptoCard : Claim7 := { stood := { row := jsonPrettiesUptoRow, standIns := [], harness := (true, "22100c2414b51b234e734a373bf0d765205aeba86125058e9a4f2bdf69e80eec"), looks := true }, kinds := [], alts := [], laidByText := true, laidKinds := [.data, .data, .data, .data, .sentinel, .sentinel, .pinned, .pinned], laidTests := true, laidLooks := .later }
def JsonPrettiesUptoCardSaid : Prop := Claim7.holds Tryz.pinned (.plain (OpenSpec.upto jsonPrettiesSpec)) jsonPrettiesUptoCard

/-- THE SECOND FORM's CARD OF 'mandrellaw20.JsonParses'. -/
def jsonParsesUptoCard : Claim7 := { stood := { row := jsonParsesUptoRow, standIns := [], harness := (true, "22100c2414b51b234e734a373bf0d765205aeba86125058e9a4f2bdf69e80eec"), looks := true }, kinds := [], alts := [], laidByText := true, laidKinds := [.data, .data, .data, .data, .sentinel, .sentinel, .pinned, .pinned], laidTests := true, laidLooks := .later }
def JsonParsesUptoCardSaid : Prop := Claim7.holds Tryz.pinned (.plain (OpenSpec.upto jsonParsesSpec)) jsonParsesUptoCard

/-- THE SECOND FORM's CARD OF 'mandrellaw20.JsonSpoils'. -/
def jsonSpoilsUptoCard : Claim7 := { stood := { row := jsonSpoilsUptoRow, standIns := [], harness := (true, "22100c2414b51b234e734a373bf0d765205aeba86125058e9a4f2bdf69e80eec"), looks := true }, kinds := [], alts := [], laidByText := true, laidKinds := [.data, .data, .data, .data, .sentinel, .sentinel, .pinned, .pinned], laidTests := true, laidLooks := .later }
def JsonSpoilsUptoCardSaid : Prop := Claim7.holds Tryz.pinned (.plain (OpenSpec.upto jsonSpoilsSpec)) jsonSpoilsUptoCard

/-- THE SECOND FORM's CARD OF 'mandrellaw20.JsonSorts'. -/
def jsonSortsUptoCard : Claim7 := { stood := { row := jsonSortsUptoRow, standIns := [], harness := (true, "22100c2414b51b234e734a373bf0d765205aeba86125058e9a4f2bdf69e80eec"), looks := true }, kinds := [], alts := [], laidByText := true, laidKinds := [.data, .data, .data, .data, .sentinel, .sentinel, .pinned, .pinned], laidTests := true, laidLooks := .later }
def JsonSortsUptoCardSaid : Prop := Claim7.holds Tryz.pinned (.plain (OpenSpec.upto jsonSortsSpec)) jsonSortsUptoCard
end Rows
end Go.Proofs.YtdmggfegkaiaiaaGreatDoor
