/-
  The texts that every statement reads are read as the document gives.
-/
import Derived.Test.YtdmggfegkaiaiaaGreatDoorEv
import Derived.Test.YtdmggfegkaiaiaaGreatDoorLjM
namespace Go.Proofs.YtdmggfegkaiaiaaGreatDoor
set_option maxRecDepth 100000

theorem known_true : n_15 () = some (true, ()) := m_15_le 60 () _ (by kernel_rfl)

end Go.Proofs.YtdmggfegkaiaiaaGreatDoor
