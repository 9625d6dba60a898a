/-
  DERIVED. GIVEN WITH THE SEED: THE CARDS: each row of YtogoamfegaebgaaGreatDoorRows.lean that lists a variable, with what it lists TIED to the program's text (the seventh form; the later family's looks); each row that meets fmt, with fmt's text TOLD by the authors' own Lean function (tested against real Go, not proved from fmt's source: count such statements apart). THE CARD IS WHAT COUNTS. Prove the row's statement (the work); the ties are given (YtogoamfegaebgaaGreatDoorTie.lean); close each card by the builder's one call (the guide's Derived/Test/ToyasCard.lean, 'card_holds'). Laid BY PROGRAM, IN A SANDBOX (cutbox-door.mjs). By AI agents, Wed Nov 11 2026. No macro, syntax, notation, axiom, sorry.
-/
import Derived.Test.YtogoamfegaebgaaGreatDoorRows
import GoSem.ClaimSeven
namespace Go.Proofs.YtogoamfegaebgaaGreatDoor
namespace Rows

/-- THE TIED CARD OF 'mandrellaw05.LayTexts'. -/
def layTextsCard : Claim7 := { stood := { row := layTextsRow, standIns := [], harness := (true, "249c0dbd8a667e4ce2efecfcb0f7ddf336bea8f2379eebc81cf72f45d41caec2"), looks := true }, kinds := [], alts := [], laidByText := true, laidKinds := [.data, .data, .data, .data, .sentinel, .sentinel, .pinned], laidTests := true, laidLooks := .later }
def LayTextsCardSaid : Prop := Claim7.holds Tryz.pinned (.plain (OpenSpec.ofChange layTextsSpec)) layTextsCard

/-- THE SECOND FORM's CARD OF 'mandrellaw05.LayTexts'. -/
def layTextsUptoCard : Claim7 := { stood := { row := layTextsUptoRow, standIns := [], harness := (true, "249c0dbd8a667e4ce2efecfcb0f7ddf336bea8f2379eebc81cf72f45d41caec2"), looks := true }, kinds := [], alts := [], laidByText := true, laidKinds := [.data, .data, .data, .data, .sentinel, .sentinel, .pinned], laidTests := true, laidLooks := .later }
def LayTextsUptoCardSaid : Prop := Claim7.holds Tryz.pinned (.plain (OpenSpec.upto layTextsSpec)) layTextsUptoCard
end Rows
end Go.Proofs.YtogoamfegaebgaaGreatDoor
