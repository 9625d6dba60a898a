/-
  The variables of the library that the program reads: the two tables of unicode/utf8.
-/
import Derived.Test.YtnbkpokcfcednaaDoorAwpT
import Derived.Shelf.Unicode.DecodeSlow
namespace Go.Proofs.YtnbkpokcfcednaaDoor
open Go.Awp
noncomputable def tabs : Mem := fun b o =>
  if b = 0 then (if o < 256 then some (.int .u8 (Lib.firstT o)) else none)
  else if b = 1 then (if o < 32 then some (.int .u8 (if o % 2 = 0 then Lib.accLo (o / 2) else Lib.accHi (o / 2))) else none)
  else none

noncomputable instance : Inhabited GMem := ⟨⟨tabs⟩⟩

theorem tabs_utf8 {M : Mem} {w : World} (h : gmem.le M) (hm : ∀ b o v, M b o = some v → w.cell? ⟨b, o, none⟩ = some v) : Lib.Utf8Tabs 0 1 w := by
  refine ⟨fun c hc => hm _ _ _ (h 0 c _ ?_), fun i hi => ⟨hm _ _ _ (h 1 (2 * i) _ ?_), hm _ _ _ (h 1 (2 * i + 1) _ ?_)⟩⟩
  · show tabs 0 c = _
    simp [tabs, hc]
  · show tabs 1 (2 * i) = _
    simp [tabs, show 2 * i < 32 by omega]
  · show tabs 1 (2 * i + 1) = _
    have h1 : (2 * i + 1) % 2 = 1 := by omega
    have h2 : (2 * i + 1) / 2 = i := by omega
    simp [tabs, show 2 * i + 1 < 32 by omega, h1, h2]

theorem tabs_le {w : World} (h : Lib.Utf8Tabs 0 1 w) : gmem.le (memOf w) := by
  intro b o v hv
  change tabs b o = some v at hv
  unfold tabs at hv
  split at hv
  · rename_i hb; subst hb
    split at hv
    · rename_i ho; cases hv; exact h.1 o ho
    · cases hv
  · split at hv
    · rename_i hb; subst hb
      split at hv
      · rename_i ho
        have h2 := h.2 (o / 2) (by omega)
        by_cases hm : o % 2 = 0
        · rw [if_pos hm] at hv; cases hv
          have := h2.1
          rwa [show 2 * (o / 2) = o by omega] at this
        · rw [if_neg hm] at hv; cases hv
          have := h2.2
          rwa [show 2 * (o / 2) + 1 = o by omega] at this
      · cases hv
    · cases hv
end Go.Proofs.YtnbkpokcfcednaaDoor
