/-
  The variables of the library that the program reads: the two tables of unicode/utf8, the powers of ten, two errors.
-/
import Derived.Test.YtdmggfegkaiaiaaGreatDoorAwpT
import Derived.Test.YtdmggfegkaiaiaaGreatDoorProg
import Derived.Shelf.Unicode.DecodeSlow
import Derived.Lib.ItoaNum
import Derived.Lib.LaidTab
import Derived.Lib.AppendIntMem
import Derived.Lib.AtoiErrMem
namespace Go.Proofs.YtdmggfegkaiaiaaGreatDoor
open Go.Awp
noncomputable def tabs : Mem := fun b o =>
  if b = 0 then (if o < 256 then some (.int .u8 (Lib.firstT o)) else none)
  else if b = 1 then (if o < 32 then some (.int .u8 (if o % 2 = 0 then Lib.accLo (o / 2) else Lib.accHi (o / 2))) else none)
  else if b = 4 then (if o < 20 then some (.int .u64 (Lib.pow10Tab.getD o 0)) else none)
  else none

noncomputable instance : Inhabited GMem := ⟨{ mem := tabs, errs := [2, 3], whole := [(4, 20)] }⟩

theorem tabs_utf8 {M : Mem} {w : World} (hg : GOk M w) (hm : ∀ b o v, M b o = some v → w.cell? ⟨b, o, none⟩ = some v) : Lib.Utf8Tabs 0 1 w := by
  have h := hg.le
  refine ⟨fun c hc => hm _ _ _ (h 0 c _ ?_), fun i hi => ⟨hm _ _ _ (h 1 (2 * i) _ ?_), hm _ _ _ (h 1 (2 * i + 1) _ ?_)⟩⟩
  · show tabs 0 c = _
    simp [tabs, hc]
  · show tabs 1 (2 * i) = _
    simp [tabs, show 2 * i < 32 by omega]
  · show tabs 1 (2 * i + 1) = _
    have h1 : (2 * i + 1) % 2 = 1 := by omega
    have h2 : (2 * i + 1) / 2 = i := by omega
    simp [tabs, show 2 * i + 1 < 32 by omega, h1, h2]

theorem pow10_len : Lib.pow10Tab.length = 20 := by decide

/-- The whole table of the powers of ten. -/
theorem tab_pow10 {M : Mem} {w : World} (hg : GOk M w) (hm : ∀ b o v, M b o = some v → w.cell? ⟨b, o, none⟩ = some v) : Lib.TabIs Tryz.prog w "internal/strconv.uint64pow10" .u64 Lib.pow10Tab := by
  obtain ⟨_, cs, t, fr, hw, hs⟩ := hg.whole (4, 20) (.head _)
  simp only at hw hs
  have hcell : ∀ i, i < 20 → cs[i]? = some (.int .u64 (Lib.pow10Tab.getD i 0)) := by
    intro i hi
    have := hm 4 i _ (hg.le 4 i (.int .u64 (Lib.pow10Tab.getD i 0)) (by show tabs 4 i = _; simp [tabs, hi]))
    simpa [World.cell?, hw] using this
  unfold Lib.TabIs World.var?
  have hn : Tryz.prog.globalNamed "internal/strconv.uint64pow10" = some 4 := by kernel_rfl
  rw [hn]
  simp only [Option.bind_some, hw, Option.some.injEq]
  apply Array.ext_getElem?
  intro i
  by_cases hi : i < 20
  · rw [hcell i hi]
    simp only [List.getElem?_toArray, List.getElem?_map]
    rw [List.getElem?_eq_getElem (by rw [pow10_len]; exact hi)]
    simp [List.getD, List.getElem?_eq_getElem (show i < Lib.pow10Tab.length by rw [pow10_len]; exact hi)]
  · rw [Array.getElem?_eq_none (by omega)]
    rw [Array.getElem?_eq_none (by simp [pow10_len]; omega)]

/-- The two errors of strconv. -/
theorem gm_syntax {M : Mem} {w : World} (hg : GOk M w) (hm : ∀ b o v, M b o = some v → w.cell? ⟨b, o, none⟩ = some v) : ∃ t x, w.cell? ⟨2, 0, none⟩ = some (.iface t x) :=
  let ⟨t, x, h⟩ := hg.errs 2 (.head _)
  ⟨t, x, hm _ _ _ h⟩
theorem gm_range {M : Mem} {w : World} (hg : GOk M w) (hm : ∀ b o v, M b o = some v → w.cell? ⟨b, o, none⟩ = some v) : ∃ t x, w.cell? ⟨3, 0, none⟩ = some (.iface t x) :=
  let ⟨t, x, h⟩ := hg.errs 3 (.tail _ (.head _))
  ⟨t, x, hm _ _ _ h⟩

theorem tabs_le {w : World} (h : Lib.Utf8Tabs 0 1 w) (h10 : Lib.TabIs Tryz.prog w "internal/strconv.uint64pow10" .u64 Lib.pow10Tab) : gmem.le (memOf w) := by
  intro b o v hv
  change tabs b o = some v at hv
  unfold tabs at hv
  split at hv
  · rename_i hb; subst hb
    split at hv
    · rename_i ho; cases hv; exact h.1 o ho
    · cases hv
  · split at hv
    · rename_i hb; subst hb
      split at hv
      · rename_i ho
        have h2 := h.2 (o / 2) (by omega)
        by_cases hm : o % 2 = 0
        · rw [if_pos hm] at hv; cases hv
          have := h2.1
          rwa [show 2 * (o / 2) = o by omega] at this
        · rw [if_neg hm] at hv; cases hv
          have := h2.2
          rwa [show 2 * (o / 2) + 1 = o by omega] at this
      · cases hv
    · split at hv
      · rename_i hb; subst hb
        split at hv
        · rename_i ho
          cases hv
          exact h10.cell (by kernel_rfl) o (by rw [pow10_len]; exact ho)
        · cases hv
      · cases hv

theorem below_bytes {w w' : World} {e : TypeId} (h : w' = w ∨ ∃ t, w' = Lib.bytesWorld w e t) : Go.RowKit.Below w.heap.size w w' := by
  rcases h with rfl | ⟨t, rfl⟩
  · exact Go.RowKit.Below.refl _ _
  · exact Lib.bytesWorld_below _ _ _

theorem hrep_er {E : Env} {M : Mem} {k : IntKind} {n : Int} {v : Value} {b : Bool} (h : DRep M v (.er b)) : HRep E M (.tuple #[.int k n, v]) (.tup [.d (.v (.int k n)), .d (.er b)]) :=
  .tup _ _ rfl fun i c x hc hx => by
    match i with
    | 0 => simp at hc hx; subst hc; subst hx; exact .d (.v _)
    | 1 => simp at hc hx; subst hc; subst hx; exact .d h
    | i + 2 => simp at hc
end Go.Proofs.YtdmggfegkaiaiaaGreatDoor
