/-
  What the row lists of the program's variables is what the memory of the proofs holds.
-/
import Derived.Test.YtdmggfegkaiaiaaGreatDoorGlob
import Derived.Test.YtdmggfegkaiaiaaGreatDoorRows
import Derived.Test.YtdmggfegkaiaiaaGreatDoorLib
import Derived.Test.YtdmggfegkaiaiaaGreatDoorTxR
import Derived.Lib.LaidIn
import Derived.Lib.LaidU8T
import Derived.MakeChecks
namespace Go.Proofs.YtdmggfegkaiaiaaGreatDoor
open Go.Awp Go.Shelf
set_option maxRecDepth 100000

theorem types8 : U8Types Tryz.prog Tryz.lays196_ren := .of196 Tryz.lays196
theorem extra8 : U8Extra Tryz.prog Tryz.lays196_ren := ⟨by kernel_rfl, by kernel_rfl, by kernel_rfl, by kernel_rfl, by kernel_rfl, by kernel_rfl, by kernel_rfl⟩
theorem first8 : Rows.laid_unicode_utf8_first = Lib.firstData := by kernel_rfl
theorem accept8 : (Rows.laid_unicode_utf8_acceptRanges : DataW Unit) = Lib.acceptData := by kernel_rfl
theorem pow8 : (Rows.laid_internal_strconv_uint64pow10 : DataW Unit) = Lib.tabData .u64 Lib.pow10Tab := by kernel_rfl
def laid8 : List (String × DataW Unit) := [("math/bits.deBruijn32tab", Rows.laid_math_bits_deBruijn32tab), ("math/bits.deBruijn64tab", Rows.laid_math_bits_deBruijn64tab), ("internal/strconv.uint64pow10", Rows.laid_internal_strconv_uint64pow10), ("unicode/utf8.acceptRanges", Rows.laid_unicode_utf8_acceptRanges), ("strconv.ErrRange", Rows.laid_strconv_ErrRange), ("strconv.ErrSyntax", Rows.laid_strconv_ErrSyntax), ("unicode.CaseRanges", Rows.laid_unicode_CaseRanges), ("unicode/utf8.first", Rows.laid_unicode_utf8_first)]

/-- A variable that reads as a table holds the table. -/
theorem tab_of_reads {P : Program} {w : World} {name : String} {k : IntKind} {zs : List Int} {g : Nat} {t e : TypeId} {n : Nat} (hg : P.globalNamed name = some g) (hty : (P.globals[g]?).map (·.type) = some t) (ht : P.underlying t = some (.array n e)) (he : P.underlying e = some (.int k)) (hce : P.cellsOf e = 1) (hct : P.cellsOf t = n)
    (h : Lib.VarReads P w name (Lib.tabData k zs)) : Lib.TabIs P w name k zs := by
  obtain ⟨g', t', cs, fuel, p, hg', ht', hvar, hd⟩ := h
  obtain rfl := Option.some.inj (hg.symm.trans hg')
  obtain rfl := Option.some.inj (hty.symm.trans ht')
  unfold Lib.TabIs
  rw [hvar, ← Lib.cells_of_tab ht he hce hct hd]

/-- A variable that reads as an interface value holds one. -/
theorem iface_of_reads {P : Program} {w : World} {name nm : String} {d : DataW Unit} {g : Nat} {t : TypeId} {ms : TypeDesc} (hg : P.globalNamed name = some g) (hty : (P.globals[g]?).map (·.type) = some t) (ht : P.underlying t = some ms) (hms : ∃ l, ms = .interface l)
    (h : Lib.VarReads P w name (.iface nm d)) : ∃ u v, w.cell? ⟨g, 0, none⟩ = some (.iface u v) := by
  obtain ⟨l, rfl⟩ := hms
  obtain ⟨g', t', cs, fuel, p, hg', ht', hvar, hd⟩ := h
  obtain rfl := Option.some.inj (hg.symm.trans hg')
  obtain rfl := Option.some.inj (hty.symm.trans ht')
  have hc : ∃ u v, cs.toList = [.iface u v] := by
    cases fuel with
    | zero => cases hd
    | succ fuel =>
      unfold DataW.trod at hd
      rw [ht] at hd
      simp only [] at hd
      split at hd <;> try (rename_i h1 _; cases h1)
      all_goals try (cases hd; done)
      all_goals first
        | (rename_i u v _; exact ⟨u, v, by assumption⟩)
        | (simp_all; done)
  obtain ⟨u, v, hc⟩ := hc
  refine ⟨u, v, ?_⟩
  unfold World.var? at hvar
  rw [hg] at hvar
  simp only [Option.bind_some] at hvar
  split at hvar
  · rename_i cs' _ _ hw
    cases hvar
    have : cs[0]? = some (.iface u v) := by rw [← Array.getElem?_toList, hc]; rfl
    simpa [World.cell?, hw] using this
  · cases hvar

theorem gmem_laid {W : World} (h : laidMetH Tryz.prog laid8 W) : GOk (memOf W) W := by
  rw [MakeChecks.laidMetH_plain _ _ _ (by kernel_rfl)] at h
  have h1 : Lib.VarReads Tryz.prog W "unicode/utf8.acceptRanges" Lib.acceptData := accept8 ▸ Lib.laidMet.reads h (.tail _ (.tail _ (.tail _ (.head _))))
  have h2 : Lib.VarReads Tryz.prog W "unicode/utf8.first" Lib.firstData := first8 ▸ Lib.laidMet.reads h (.tail _ (.tail _ (.tail _ (.tail _ (.tail _ (.tail _ (.tail _ (.head _))))))))
  have h3 : Lib.VarReads Tryz.prog W "internal/strconv.uint64pow10" (Lib.tabData .u64 Lib.pow10Tab) := pow8 ▸ Lib.laidMet.reads h (.tail _ (.tail _ (.head _)))
  have h4 := iface_of_reads (P := Tryz.prog) (g := 3) (t := 84) (by kernel_rfl) (by kernel_rfl) Tryz.underlying84 ⟨_, rfl⟩ (Lib.laidMet.reads h (.tail _ (.tail _ (.tail _ (.tail _ (.head _))))))
  have h5 := iface_of_reads (P := Tryz.prog) (g := 2) (t := 84) (by kernel_rfl) (by kernel_rfl) Tryz.underlying84 ⟨_, rfl⟩ (Lib.laidMet.reads h (.tail _ (.tail _ (.tail _ (.tail _ (.tail _ (.head _)))))))
  have h6 : Lib.TabIs Tryz.prog W "internal/strconv.uint64pow10" .u64 Lib.pow10Tab := by
    obtain ⟨g, t, cs, fuel, p, hg, ht, _, _⟩ := id h3
    exact tab_of_reads (g := 4) (t := 184) (e := 142) (n := 20) (by kernel_rfl) (by kernel_rfl) (by kernel_rfl) (by kernel_rfl) (by kernel_rfl) (by kernel_rfl) h3
  refine ⟨tabs_le (utf8Tabs_of_readsT types8 extra8 h2 h1) h6, fun b hb => ?_, fun p hp => ?_⟩
  · have hb : b ∈ [2, 3] := hb
    simp only [List.mem_cons, List.not_mem_nil, or_false] at hb
    rcases hb with rfl | rfl
    · exact h5
    · exact h4
  · have hp : p ∈ [(4, 20)] := hp
    simp only [List.mem_cons, List.not_mem_nil, or_false] at hp
    subst hp
    have hn : Tryz.prog.globalNamed "internal/strconv.uint64pow10" = some 4 := by kernel_rfl
    refine ⟨⟨_, h6.cell hn 0 (by rw [pow10_len]; decide)⟩, ?_⟩
    unfold Lib.TabIs World.var? at h6
    rw [hn] at h6
    simp only [Option.bind_some] at h6
    split at h6
    · rename_i cs t fr hw
      cases h6
      exact ⟨_, _, _, hw, by simp [pow10_len]⟩
    · cases h6

mutual
/-- The bulk of a reading, as the rows count it. -/
theorem dbulk_le {H : Type} : ∀ d : DataW H, Go.Tx.dbulk d ≤ Rows.uptoBulk d
  | .lit l => by cases l <;> simp [Go.Tx.dbulk, Rows.uptoBulk]
  | .nil => by simp [Go.Tx.dbulk, Rows.uptoBulk]
  | .ptr d => by have := dbulk_le d; simp only [Go.Tx.dbulk, Rows.uptoBulk]; omega
  | .slice es sp => by have h1 := dbulkL_le es; have h2 := dbulkL_le sp; simp only [Go.Tx.dbulk, Rows.uptoBulk]; omega
  | .agg ps => by have := dbulkL_le ps; simp only [Go.Tx.dbulk, Rows.uptoBulk]; omega
  | .iface _ d => by have := dbulk_le d; simp only [Go.Tx.dbulk, Rows.uptoBulk]; omega
  | .map es => by simp [Go.Tx.dbulk, Rows.uptoBulk]
  | .held h => by simp [Go.Tx.dbulk, Rows.uptoBulk]
theorem dbulkL_le {H : Type} : ∀ l : List (DataW H), Go.Tx.dbulkL l ≤ Rows.uptoBulkAll l
  | [] => by simp [Go.Tx.dbulkL, Rows.uptoBulkAll]
  | d :: r => by have h1 := dbulk_le d; have h2 := dbulkL_le r; simp only [Go.Tx.dbulkL, Rows.uptoBulkAll]; omega
end

end Go.Proofs.YtdmggfegkaiaiaaGreatDoor
