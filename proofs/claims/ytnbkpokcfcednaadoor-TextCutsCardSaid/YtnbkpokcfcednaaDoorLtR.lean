/-
  The laws of Text for all arguments that a row reads.
-/
import Derived.Test.YtnbkpokcfcednaaDoorLtL
import Derived.Test.YtnbkpokcfcednaaDoorTxR
namespace Go.Proofs.YtnbkpokcfcednaaDoor
open Go.Awp Go.Tx
set_option linter.unusedVariables false

theorem byte_ok {c : Int} (h : Ok vw (.int .u8) c) : 0 ≤ c ∧ c < 256 := by
  cases h with
  | int h =>
    have a : IntKind.u8.min = 0 := by decide
    have b : IntKind.u8.max = 255 := by decide
    simp [Lit.wf, a, b] at h
    omega

theorem padsOk (x0 : ByteArray) (x1 x2 : Int) (h0 : Ok vw .str x0) (h1 : Ok vw (.int .i64) x1) (h2 : Ok vw (.int .u8) x2) : n_4 (x0, x1, x2, ()) = some (true, ()) := law4 x0 x1 (byte_ok h2)
theorem cutsOk (x0 : ByteArray) (x1 x2 : Int) (h0 : Ok vw .str x0) (h1 : Ok vw (.int .i64) x1) (h2 : Ok vw (.int .i64) x2) : n_6 (x0, x1, x2, ()) = some (true, ()) := law6 x0 x1 x2
theorem pointsOk (x0 : ByteArray) (x1 : List Int) (h0 : Ok vw .str x0) (h1 : Ok vw (.sl (.int .i64)) x1) : n_7 (x0, x1, ()) = some (true, ()) := law7 x0 x1

end Go.Proofs.YtnbkpokcfcednaaDoor
