/-
  DERIVED. GIVEN WITH THE SEED: THE CARDS: each row of YtnbkpokcfcednaaDoorRows.lean that lists a variable, with what it lists TIED to the program's text (the seventh form; the later family's looks); each row that meets fmt, with fmt's text TOLD by the authors' own Lean function (tested against real Go, not proved from fmt's source: count such statements apart). THE CARD IS WHAT COUNTS. Prove the row's statement (the work); the ties are given (YtnbkpokcfcednaaDoorTie.lean); close each card by the builder's one call (the guide's Derived/Test/ToyasCard.lean, 'card_holds'). Laid BY PROGRAM, IN A SANDBOX (cutbox-door.mjs). By AI agents, Wed Nov 11 2026. No macro, syntax, notation, axiom, sorry.
-/
import Derived.Test.YtnbkpokcfcednaaDoorRows
import GoSem.ClaimSeven
namespace Go.Proofs.YtnbkpokcfcednaaDoor
namespace Rows

/-- THE TIED CARD OF 'mandrellaw19.TextAppends'. -/
def textAppendsCard : Claim7 := { stood := { row := textAppendsRow, standIns := [], harness := (true, "b4b9d71edf896865a92108add42838a6ab594b8ee6264e373950ec4e57fd9156"), looks := false }, kinds := [], alts := [], laidByText := true, laidKinds := [.data, .pinned], laidTests := true, laidLooks := .later }
def TextAppendsCardSaid : Prop := Claim7.holds Tryd.pinned (.plain (OpenSpec.ofChange textAppendsSpec)) textAppendsCard

/-- THE TIED CARD OF 'mandrellaw19.TextPads'. -/
def textPadsCard : Claim7 := { stood := { row := textPadsRow, standIns := [], harness := (true, "b4b9d71edf896865a92108add42838a6ab594b8ee6264e373950ec4e57fd9156"), looks := false }, kinds := [], alts := [], laidByText := true, laidKinds := [.data, .pinned], laidTests := true, laidLooks := .later }
def TextPadsCardSaid : Prop := Claim7.holds Tryd.pinned (.plain (OpenSpec.ofChange textPadsSpec)) textPadsCard

/-- THE TIED CARD OF 'mandrellaw19.TextFormats'. -/
def textFormatsCard : Claim7 := { stood := { row := textFormatsRow, standIns := [], harness := (true, "b4b9d71edf896865a92108add42838a6ab594b8ee6264e373950ec4e57fd9156"), looks := false }, kinds := [], alts := [], laidByText := true, laidKinds := [.data, .pinned], laidTests := true, laidLooks := .later }
def TextFormatsCardSaid : Prop := Claim7.holds Tryd.pinned (.plain (OpenSpec.ofChange textFormatsSpec)) textFormatsCard

/-- THE TIED CARD OF 'mandrellaw19.TextCuts'. -/
def textCutsCard : Claim7 := { stood := { row := textCutsRow, standIns := [], harness := (true, "b4b9d71edf896865a92108add42838a6ab594b8ee6264e373950ec4e57fd9156"), looks := false }, kinds := [], alts := [], laidByText := true, laidKinds := [.data, .pinned], laidTests := true, laidLooks := .later }
def TextCutsCardSaid : Prop := Claim7.holds Tryd.pinned (.plain (OpenSpec.ofChange textCutsSpec)) textCutsCard

/-- THE TIED CARD OF 'mandrellaw19.TextPoints'. -/
def textPointsCard : Claim7 := { stood := { row := textPointsRow, standIns := [], harness := (true, "b4b9d71edf896865a92108add42838a6ab594b8ee6264e373950ec4e57fd9156"), looks := false }, kinds := [], alts := [], laidByText := true, laidKinds := [.data, .pinned], laidTests := true, laidLooks := .later }
def TextPointsCardSaid : Prop := Claim7.holds Tryd.pinned (.plain (OpenSpec.ofChange textPointsSpec)) textPointsCard

/-- THE SECOND FORM's CARD OF 'mandrellaw19.TextAppends'. -/
def textAppendsUptoCard : Claim7 := { stood := { row := textAppendsUptoRow, standIns := [], harness := (true, "b4b9d71edf896865a92108add42838a6ab594b8ee6264e373950ec4e57fd9156"), looks := false }, kinds := [], alts := [], laidByText := true, laidKinds := [.data, .pinned], laidTests := true, laidLooks := .later }
def TextAppendsUptoCardSaid : Prop := Claim7.holds Tryd.pinned (.plain (OpenSpec.upto textAppendsSpec)) textAppendsUptoCard

/-- THE SECOND FORM's CARD OF 'mandrellaw19.TextPads'. -/
def textPadsUptoCard : Claim7 := { stood := { row := textPadsUptoRow, standIns := [], harness := (true, "b4b9d71edf896865a92108add42838a6ab594b8ee6264e373950ec4e57fd9156"), looks := false }, kinds := [], alts := [], laidByText := true, laidKinds := [.data, .pinned], laidTests := true, laidLooks := .later }
def TextPadsUptoCardSaid : Prop := Claim7.holds Tryd.pinned (.plain (OpenSpec.upto textPadsSpec)) textPadsUptoCard

/-- THE SECOND FORM's CARD OF 'mandrellaw19.TextFormats'. -/
def textFormatsUptoCard : Claim7 := { stood := { row := textFormatsUptoRow, standIns := [], harness := (true, "b4b9d71edf896865a92108add42838a6ab594b8ee6264e373950ec4e57fd9156"), looks := false }, kinds := [], alts := [], laidByText := true, laidKinds := [.data, .pinned], laidTests := true, laidLooks := .later }
def TextFormatsUptoCardSaid : Prop := Claim7.holds Tryd.pinned (.plain (OpenSpec.upto textFormatsSpec)) textFormatsUptoCard

/-- THE SECOND FORM's CARD OF 'mandrellaw19.TextCuts'. -/
def textCutsUptoCard : Claim7 := { stood := { row := textCutsUptoRow, standIns := [], harness := (true, "b4b9d71edf896865a92108add42838a6ab594b8ee6264e373950ec4e57fd9156"), looks := false }, kinds := [], alts := [], laidByText := true, laidKinds := [.data, .pinned], laidTests := true, laidLooks := .later }
def TextCutsUptoCardSaid : Prop := Claim7.holds Tryd.pinned (.plain (OpenSpec.upto textCutsSpec)) textCutsUptoCard

/-- THE SECOND FORM's CARD OF 'mandrellaw19.TextPoints'. -/
def textPointsUptoCard : Claim7 := { stood := { row := textPointsUptoRow, standIns := [], harness := (true, "b4b9d71edf896865a92108add42838a6ab594b8ee6264e373950ec4e57fd9156"), looks := false }, kinds := [], alts := [], laidByText := true, laidKinds := [.data, .pinned], laidTests := true, laidLooks := .later }
def TextPointsUptoCardSaid : Prop := Claim7.holds Tryd.pinned (.plain (OpenSpec.upto textPointsSpec)) textPointsUptoCard
end Rows
end Go.Proofs.YtnbkpokcfcednaaDoor
