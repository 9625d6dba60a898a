/-
  Facts on the types of the translation: sizes, places, zero values. Made by a program of mine.
-/
import Derived.Test.YtdmggfegkaiaiaaGreatDoorProg
import Derived.Test.YtdmggfegkaiaiaaGreatDoorAwpR
import Derived.KernelRfl
namespace Go.Proofs.YtdmggfegkaiaiaaGreatDoor.Ty
open Go.Awp
theorem mixed : Tryz.prog.follows .mixedOrders = true := by kernel_rfl
end Go.Proofs.YtdmggfegkaiaiaaGreatDoor.Ty
