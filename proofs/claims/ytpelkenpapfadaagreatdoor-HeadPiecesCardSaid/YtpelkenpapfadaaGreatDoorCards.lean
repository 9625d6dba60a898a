/-
  DERIVED. GIVEN WITH THE SEED: THE CARDS: each row of YtpelkenpapfadaaGreatDoorRows.lean that lists a variable, with what it lists TIED to the program's text (the seventh form; the later family's looks); each row that meets fmt, with fmt's text TOLD by the authors' own Lean function (tested against real Go, not proved from fmt's source: count such statements apart). THE CARD IS WHAT COUNTS. Prove the row's statement (the work); the ties are given (YtpelkenpapfadaaGreatDoorTie.lean); close each card by the builder's one call (the guide's Derived/Test/ToyasCard.lean, 'card_holds'). Laid BY PROGRAM, IN A SANDBOX (cutbox-door.mjs). By AI agents, Wed Nov 11 2026. No macro, syntax, notation, axiom, sorry.
-/
import Derived.Test.YtpelkenpapfadaaGreatDoorRows
import GoSem.ClaimSeven
namespace Go.Proofs.YtpelkenpapfadaaGreatDoor
namespace Rows

/-- THE TIED CARD OF 'mandrellaw24.HeadTranslates'. -/
def headTranslatesCard : Claim7 := { stood := { row := headTranslatesRow, standIns := [], harness := (true, "916f158e77d004ae93d5d2cc5423fa60a285d3b19f506b9995d5e7b77cb84306"), looks := true }, kinds := [], alts := [], laidByText := true, laidKinds := [.data, .data, .data, .data, .sentinel, .sentinel, .pinned], laidTests := true, laidLooks := .later }
def HeadTranslatesCardSaid : Prop := Claim7.holds Tryz.pinned (.plain (OpenSpec.ofChange headTranslatesSpec)) headTranslatesCard

/-- THE TIED CARD OF 'mandrellaw24.HeadSizes'. -/
def headSizesCard : Claim7 := { stood := { row := headSizesRow, standIns := [], harness := (true, "916f158e77d004ae93d5d2cc5423fa60a285d3b19f506b9995d5e7b77cb84306"), looks := true }, kinds := [], alts := [], laidByText := true, laidKinds := [.data, .data, .data, .data, .sentinel, .sentinel, .pinned], laidTests := true, laidLooks := .later }
def HeadSizesCardSaid : Prop := Claim7.holds Tryz.pinned (.plain (OpenSpec.ofChange headSizesSpec)) headSizesCard

/-- THE TIED CARD OF 'mandrellaw24.HeadFinds'. -/
def headFindsCard : Claim7 := { stood := { row := headFindsRow, standIns := [], harness := (true, "916f158e77d004ae93d5d2cc5423fa60a285d3b19f506b9995d5e7b77cb84306"), looks := true }, kinds := [], alts := [], laidByText := true, laidKinds := [.data, .data, .data, .data, .sentinel, .sentinel, .pinned], laidTests := true, laidLooks := .later }
def HeadFindsCardSaid : Prop := Claim7.holds Tryz.pinned (.plain (OpenSpec.ofChange headFindsSpec)) headFindsCard

/-- THE TIED CARD OF 'mandrellaw24.HeadPieces'. -/
def headPiecesCard : Claim7 := { stood := { row := headPiecesRow, standIns := [], harness := (true, "916f158e77d004ae93d5d2cc5423fa60a285d3b19f506b9995d5e7b77cb84306"), looks := true }, kinds := [], alts := [], laidByText := true, laidKinds := [.data, .data, .data, .data, .sentinel, .sentinel, .pinned], laidTests := true, laidLooks := .later }
def HeadPiecesCardSaid : Prop := Claim7.holds Tryz.pinned (.plain (OpenSpec.ofChange headPiecesSpec)) headPiecesCard

/-- THE TIED CARD OF 'mandrellaw24.HeadSames'. -/
def headSamesCard : Claim7 := { stood := { row := headSamesRow, standIns := [], harness := (true, "916f158e77d004ae93d5d2cc5423fa60a285d3b19f506b9995d5e7b77cb84306"), looks := true }, kinds := [], alts := [], laidByText := true, laidKinds := [.data, .data, .data, .data, .sentinel, .sentinel, .pinned], laidTests := true, laidLooks := .later }
def HeadSamesCardSaid : Prop := Claim7.holds Tryz.pinned (.plain (OpenSpec.ofChange headSamesSpec)) headSamesCard

/-- THE TIED CARD OF 'mandrellaw24.HeadWrites'. -/
def headWritesCard : Claim7 := { stood := { row := headWritesRow, standIns := [], harness := (true, "916f158e77d004ae93d5d2cc5423fa60a285d3b19f506b9995d5e7b77cb84306"), looks := true }, kinds := [], alts := [], laidByText := true, laidKinds := [.data, .data, .data, .data, .sentinel, .sentinel, .pinned], laidTests := true, laidLooks := .later }
def HeadWritesCardSaid : Prop := Claim7.holds Tryz.pinned (.plain (OpenSpec.ofChange headWritesSpec)) headWritesCard

/-- THE TIED CARD OF 'mandrellaw24.HeadAgain'. -/
def headAgainCard : Claim7 := { stood := { row := headAgainRow, standIns := [], harness := (true, "916f158e77d004ae93d5d2cc5423fa60a285d3b19f506b9995d5e7b77cb84306"), looks := true }, kinds := [], alts := [], laidByText := true, laidKinds := [.data, .data, .data, .data, .sentinel, .sentinel, .pinned], laidTests := true, laidLooks := .later }
def HeadAgainCardSaid : Prop := Claim7.holds Tryz.pinned (.plain (OpenSpec.ofChange headAgainSpec)) headAgainCard

/-- THE SECOND FORM's CARD OF 'mandrellaw24.HeadTranslates'. -/
def headTranslatesUptoCard : Claim7 := { stood := { row := headTranslatesUptoRow, standIns := [], harness := (true, "916f158e77d004ae93d5d2cc5423fa60a285d3b19f506b9995d5e7b77cb84306"), looks := true }, kinds := [], alts := [], laidByText := true, laidKinds := [.data, .data, .data, .data, .sentinel, .sentinel, .pinned], laidTests := true, laidLooks := .later }
def HeadTranslatesUptoCardSaid : Prop := Claim7.holds Tryz.pinned (.plain (OpenSpec.upto headTranslatesSpec)) headTranslatesUptoCard

/-- THE SECOND FORM's CARD OF 'mandrellaw24.HeadSizes'. -/
def headSizesUptoCard : Claim7 := { stood := { row := headSizesUptoRow, standIns := [], harness := (true, "916f158e77d004ae93d5d2cc5423fa60a285d3b19f506b9995d5e7b77cb84306"), looks := true }, kinds := [], alts := [], laidByText := true, laidKinds := [.data, .data, .data, .data, .sentinel, .sentinel, .pinned], laidTests := true, laidLooks := .later }
def HeadSizesUptoCardSaid : Prop := Claim7.holds Tryz.pinned (.plain (OpenSpec.upto headSizesSpec)) headSizesUptoCard

/-- THE SECOND FORM's CARD OF 'mandrellaw24.HeadFinds'. -/
def headFindsUptoCard : Claim7 := { stood := { row := headFindsUptoRow, standIns := [], harness := (true, "916f158e77d004ae93d5d2cc5423fa60a285d3b19f506b9995d5e7b77cb84306"), looks := true }, kinds := [], alts := [], laidByText := true, laidKinds := [.data, .data, .data, .data, .sentinel, .sentinel, .pinned], laidTests := true, laidLooks := .later }
def HeadFindsUptoCardSaid : Prop := Claim7.holds Tryz.pinned (.plain (OpenSpec.upto headFindsSpec)) headFindsUptoCard

/-- THE SECOND FORM's CARD OF 'mandrellaw24.HeadPieces'. -/
def headPiecesUptoCard : Claim7 := { stood := { row := headPiecesUptoRow, standIns := [], harness := (true, "916f158e77d004ae93d5d2cc5423fa60a285d3b19f506b9995d5e7b77cb84306"), looks := true }, kinds := [], alts := [], laidByText := true, laidKinds := [.data, .data, .data, .data, .sentinel, .sentinel, .pinned], laidTests := true, laidLooks := .later }
def HeadPiecesUptoCardSaid : Prop := Claim7.holds Tryz.pinned (.plain (OpenSpec.upto headPiecesSpec)) headPiecesUptoCard

/-- THE SECOND FORM's CARD OF 'mandrellaw24.HeadSames'. -/
def headSamesUptoCard : Claim7 := { stood := { row := headSamesUptoRow, standIns := [], harness := (true, "916f158e77d004ae93d5d2cc5423fa60a285d3b19f506b9995d5e7b77cb84306"), looks := true }, kinds := [], alts := [], laidByText := true, laidKinds := [.data, .data, .data, .data, .sentinel, .sentinel, .pinned], laidTests := true, laidLooks := .later }
def HeadSamesUptoCardSaid : Prop := Claim7.holds Tryz.pinned (.plain (OpenSpec.upto headSamesSpec)) headSamesUptoCard

/-- THE SECOND FORM's CARD OF 'mandrellaw24.HeadWrites'. -/
def headWritesUptoCard : Claim7 := { stood := { row := headWritesUptoRow, standIns := [], harness := (true, "916f158e77d004ae93d5d2cc5423fa60a285d3b19f506b9995d5e7b77cb84306"), looks := true }, kinds := [], alts := [], laidByText := true, laidKinds := [.data, .data, .data, .data, .sentinel, .sentinel, .pinned], laidTests := true, laidLooks := .later }
def HeadWritesUptoCardSaid : Prop := Claim7.holds Tryz.pinned (.plain (OpenSpec.upto headWritesSpec)) headWritesUptoCard

/-- THE SECOND FORM's CARD OF 'mandrellaw24.HeadAgain'. -/
def headAgainUptoCard : Claim7 := { stood := { row := headAgainUptoRow, standIns := [], harness := (true, "916f158e77d004ae93d5d2cc5423fa60a285d3b19f506b9995d5e7b77cb84306"), looks := true }, kinds := [], alts := [], laidByText := true, laidKinds := [.data, .data, .data, .data, .sentinel, .sentinel, .pinned], laidTests := true, laidLooks := .later }
def HeadAgainUptoCardSaid : Prop := Claim7.holds Tryz.pinned (.plain (OpenSpec.upto headAgainSpec)) headAgainUptoCard
end Rows
end Go.Proofs.YtpelkenpapfadaaGreatDoor
