/-
  DERIVED. GIVEN WITH THE SEED: THE CARDS: each row of YtcghbgmmgcljkaaGreatDoorRows.lean that lists a variable, with what it lists TIED to the program's text (the seventh form; the later family's looks); each row that meets fmt, with fmt's text TOLD by the authors' own Lean function (tested against real Go, not proved from fmt's source: count such statements apart). THE CARD IS WHAT COUNTS. Prove the row's statement (the work); the ties are given (YtcghbgmmgcljkaaGreatDoorTie.lean); close each card by the builder's one call (the guide's Derived/Test/ToyasCard.lean, 'card_holds'). Laid BY PROGRAM, IN A SANDBOX (cutbox-door.mjs). By AI agents, Wed Nov 11 2026. No macro, syntax, notation, axiom, sorry.
-/
import Derived.Test.YtcghbgmmgcljkaaGreatDoorRows
import GoSem.ClaimSeven
namespace Go.Proofs.YtcghbgmmgcljkaaGreatDoor
namespace Rows

/-- THE TIED CARD OF 'mandrellaw13.StackRuns'. -/
def stackRunsCard : Claim7 := { stood := { row := stackRunsRow, standIns := [], harness := (true, "9903706971e3bb189f6f1d2425e4062bf0ab55d30c817c4194f043affe1c4612"), looks := false }, kinds := [], alts := [], laidByText := true, laidKinds := [.listed, .data], laidTests := true, laidLooks := .later }
def StackRunsCardSaid : Prop := Claim7.holds Tryz.pinned (.plain (OpenSpec.ofChange stackRunsSpec)) stackRunsCard

/-- THE TIED CARD OF 'mandrellaw13.StackExtends'. -/
def stackExtendsCard : Claim7 := { stood := { row := stackExtendsRow, standIns := [], harness := (true, "9903706971e3bb189f6f1d2425e4062bf0ab55d30c817c4194f043affe1c4612"), looks := false }, kinds := [], alts := [], laidByText := true, laidKinds := [.listed, .data], laidTests := true, laidLooks := .later }
def StackExtendsCardSaid : Prop := Claim7.holds Tryz.pinned (.plain (OpenSpec.ofChange stackExtendsSpec)) stackExtendsCard

/-- THE TIED CARD OF 'mandrellaw13.StackLegal'. -/
def stackLegalCard : Claim7 := { stood := { row := stackLegalRow, standIns := [], harness := (true, "9903706971e3bb189f6f1d2425e4062bf0ab55d30c817c4194f043affe1c4612"), looks := false }, kinds := [], alts := [], laidByText := true, laidKinds := [.listed, .data], laidTests := true, laidLooks := .later }
def StackLegalCardSaid : Prop := Claim7.holds Tryz.pinned (.plain (OpenSpec.ofChange stackLegalSpec)) stackLegalCard

/-- THE TIED CARD OF 'mandrellaw13.StackModes'. -/
def stackModesCard : Claim7 := { stood := { row := stackModesRow, standIns := [], harness := (true, "9903706971e3bb189f6f1d2425e4062bf0ab55d30c817c4194f043affe1c4612"), looks := false }, kinds := [], alts := [], laidByText := true, laidKinds := [.listed, .data], laidTests := true, laidLooks := .later }
def StackModesCardSaid : Prop := Claim7.holds Tryz.pinned (.plain (OpenSpec.ofChange stackModesSpec)) stackModesCard

/-- THE TIED CARD OF 'mandrellaw13.StackCounts'. -/
def stackCountsCard : Claim7 := { stood := { row := stackCountsRow, standIns := [], harness := (true, "9903706971e3bb189f6f1d2425e4062bf0ab55d30c817c4194f043affe1c4612"), looks := false }, kinds := [], alts := [], laidByText := true, laidKinds := [.listed, .data], laidTests := true, laidLooks := .later }
def StackCountsCardSaid : Prop := Claim7.holds Tryz.pinned (.plain (OpenSpec.ofChange stackCountsSpec)) stackCountsCard

/-- THE TIED CARD OF 'mandrellaw13.StackWatches'. -/
def stackWatchesCard : Claim7 := { stood := { row := stackWatchesRow, standIns := [], harness := (true, "9903706971e3bb189f6f1d2425e4062bf0ab55d30c817c4194f043affe1c4612"), looks := false }, kinds := [], alts := [], laidByText := true, laidKinds := [.listed, .data], laidTests := true, laidLooks := .later }
def StackWatchesCardSaid : Prop := Claim7.holds Tryz.pinned (.plain (OpenSpec.ofChange stackWatchesSpec)) stackWatchesCard

/-- THE SECOND FORM's CARD OF 'mandrellaw13.StackRuns'. -/
def stackRunsUptoCard : Claim7 := { stood := { row := stackRunsUptoRow, standIns := [], harness := (true, "9903706971e3bb189f6f1d2425e4062bf0ab55d30c817c4194f043affe1c4612"), looks := false }, kinds := [], alts := [], laidByText := true, laidKinds := [.listed, .data], laidTests := true, laidLooks := .later }
def StackRunsUptoCardSaid : Prop := Claim7.holds Tryz.pinned (.plain (OpenSpec.upto stackRunsSpec)) stackRunsUptoCard

/-- THE SECOND FORM's CARD OF 'mandrellaw13.StackExtends'. -/
def stackExtendsUptoCard : Claim7 := { stood := { row := stackExtendsUptoRow, standIns := [], harness := (true, "9903706971e3bb189f6f1d2425e4062bf0ab55d30c817c4194f043affe1c4612"), looks := false }, kinds := [], alts := [], laidByText := true, laidKinds := [.listed, .data], laidTests := true, laidLooks := .later }
def StackExtendsUptoCardSaid : Prop := Claim7.holds Tryz.pinned (.plain (OpenSpec.upto stackExtendsSpec)) stackExtendsUptoCard

/-- THE SECOND FORM's CARD OF 'mandrellaw13.StackLegal'. -/
def stackLegalUptoCard : Claim7 := { stood := { row := stackLegalUptoRow, standIns := [], harness := (true, "9903706971e3bb189f6f1d2425e4062bf0ab55d30c817c4194f043affe1c4612"), looks := false }, kinds := [], alts := [], laidByText := true, laidKinds := [.listed, .data], laidTests := true, laidLooks := .later }
def StackLegalUptoCardSaid : Prop := Claim7.holds Tryz.pinned (.plain (OpenSpec.upto stackLegalSpec)) stackLegalUptoCard

/-- THE SECOND FORM's CARD OF 'mandrellaw13.StackModes'. -/
def stackModesUptoCard : Claim7 := { stood := { row := stackModesUptoRow, standIns := [], harness := (true, "9903706971e3bb189f6f1d2425e4062bf0ab55d30c817c4194f043affe1c4612"), looks := false }, kinds := [], alts := [], laidByText := true, laidKinds := [.listed, .data], laidTests := true, laidLooks := .later }
def StackModesUptoCardSaid : Prop := Claim7.holds Tryz.pinned (.plain (OpenSpec.upto stackModesSpec)) stackModesUptoCard

/-- THE SECOND FORM's CARD OF 'mandrellaw13.StackCounts'. -/
def stackCountsUptoCard : Claim7 := { stood := { row := stackCountsUptoRow, standIns := [], harness := (true, "9903706971e3bb189f6f1d2425e4062bf0ab55d30c817c4194f043affe1c4612"), looks := false }, kinds := [], alts := [], laidByText := true, laidKinds := [.listed, .data], laidTests := true, laidLooks := .later }
def StackCountsUptoCardSaid : Prop := Claim7.holds Tryz.pinned (.plain (OpenSpec.upto stackCountsSpec)) stackCountsUptoCard

/-- THE SECOND FORM's CARD OF 'mandrellaw13.StackWatches'. -/
def stackWatchesUptoCard : Claim7 := { stood := { row := stackWatchesUptoRow, standIns := [], harness := (true, "9903706971e3bb189f6f1d2425e4062bf0ab55d30c817c4194f043affe1c4612"), looks := false }, kinds := [], alts := [], laidByText := true, laidKinds := [.listed, .data], laidTests := true, laidLooks := .later }
def StackWatchesUptoCardSaid : Prop := Claim7.holds Tryz.pinned (.plain (OpenSpec.upto stackWatchesSpec)) stackWatchesUptoCard
end Rows
end Go.Proofs.YtcghbgmmgcljkaaGreatDoor
