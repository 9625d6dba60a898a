/-
  What the program says of itself at a known text: n_9.
-/
import Derived.Test.YtnbkpokcfcednaaDoorEv
namespace Go.Proofs.YtnbkpokcfcednaaDoor
open Go.RowKit

theorem f9 : n_9 () = some (true, ()) := m_9_le 60 () _ (by kernel_rfl)

end Go.Proofs.YtnbkpokcfcednaaDoor
