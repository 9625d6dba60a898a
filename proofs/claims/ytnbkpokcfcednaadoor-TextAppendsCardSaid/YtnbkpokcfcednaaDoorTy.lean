/-
  Facts on the types of the translation: sizes, places, zero values. Made by a program of mine.
-/
import Derived.Test.YtnbkpokcfcednaaDoorProg
import Derived.Test.YtnbkpokcfcednaaDoorAwpR
import Derived.KernelRfl
namespace Go.Proofs.YtnbkpokcfcednaaDoor.Ty
open Go.Awp
theorem mixed : Tryd.prog.follows .mixedOrders = true := by kernel_rfl
end Go.Proofs.YtnbkpokcfcednaaDoor.Ty
