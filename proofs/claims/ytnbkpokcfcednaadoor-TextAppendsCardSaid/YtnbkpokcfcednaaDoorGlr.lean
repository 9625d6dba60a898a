/-
  What the row lists of the program's variables is what the memory of the proofs holds.
-/
import Derived.Test.YtnbkpokcfcednaaDoorGlob
import Derived.Test.YtnbkpokcfcednaaDoorRows
import Derived.Lib.LaidIn
import Derived.Lib.LaidU8T
import Derived.MakeChecks
namespace Go.Proofs.YtnbkpokcfcednaaDoor
open Go.Awp Go.Shelf
set_option maxRecDepth 100000

def ren8 : Ren := { f := fun x => x, t := fun x => if x = 119 then 123 else if x = 138 then 125 else if x = 139 then 126 else x, g := fun x => x - 3 }
theorem types8 : U8Types Tryd.prog ren8 := ⟨by kernel_rfl, by kernel_rfl, by kernel_rfl, by kernel_rfl⟩
theorem extra8 : U8Extra Tryd.prog ren8 := ⟨by kernel_rfl, by kernel_rfl, by kernel_rfl, by kernel_rfl, by kernel_rfl, by kernel_rfl, by kernel_rfl⟩
theorem first8 : Rows.laid_unicode_utf8_first = Lib.firstData := by kernel_rfl
theorem accept8 : (Rows.laid_unicode_utf8_acceptRanges : DataW Unit) = Lib.acceptData := by kernel_rfl
def laid8 : List (String × DataW Unit) := [("unicode/utf8.acceptRanges", Rows.laid_unicode_utf8_acceptRanges), ("unicode/utf8.first", Rows.laid_unicode_utf8_first)]

theorem gmem_laid {W : World} (h : laidMetH Tryd.prog laid8 W) : gmem.le (memOf W) := by
  rw [MakeChecks.laidMetH_plain _ _ _ (by kernel_rfl)] at h
  have h1 : Lib.VarReads Tryd.prog W "unicode/utf8.acceptRanges" Lib.acceptData := accept8 ▸ Lib.laidMet.reads h (.head _)
  have h2 : Lib.VarReads Tryd.prog W "unicode/utf8.first" Lib.firstData := first8 ▸ Lib.laidMet.reads h (.tail _ (.head _))
  exact tabs_le (utf8Tabs_of_readsT types8 extra8 h2 h1)

end Go.Proofs.YtnbkpokcfcednaaDoor
