/-
  The law LaySame in plain Lean.
-/
import Derived.Test.YtdknkfioigcfiaaLwO
namespace Go.Proofs.Ytdknkfioigcfiaa
set_option linter.unusedSimpArgs false
set_option linter.unusedVariables false
set_option maxRecDepth 20000
open Classical

theorem len_allL : ∀ ps : List Layout, ps.length ≤ (Layout.allL ps).length
  | [] => by simp
  | p :: r => by
    have := len_allL r
    simp only [Layout.allL, List.length_append, List.length_cons]
    rw [p.all_eq]
    simp only [List.length_cons]
    omega

theorem Layout.Fine.len {l : Layout} (h : l.Fine) : l.parts.length ≤ 10000 := by
  have h1 := len_allL l.parts
  have h2 := h.count
  rw [l.all_eq] at h2
  simp only [List.length_cons] at h2
  omega

theorem eta (l : Layout) : Layout.mk l.kind l.n l.flag l.parts = l := by cases l; rfl

/-- A copy is what was copied. -/
theorem f24 : ∀ l : Layout, l.Fine → n_24 (l, ()) = some (l, ()) := by
  refine Layout.ind fun l ih hf => ?_
  have hn := hf.len
  have loop : ∀ (m k : Nat) (acc : List Layout) (l1 l2 : Layout), l.parts.length - k = m → acc.length + m ≤ 20000 → n_24l3 (l.parts, l.parts.length, k, l1, l2, acc, ()) = some (l1, l2, acc ++ l.parts.drop k, ()) := by
    intro m
    induction m with
    | zero =>
      intro k acc l1 l2 hm hl
      have hlt : ¬ k < l.parts.length := by omega
      rw [n_24l3]
      simp only [Option.bind_eq_bind, Option.bind_some, Option.bind_none, if_true, if_false, Bool.false_eq_true, Bool.true_eq_false, Int.toNat_natCast, Int.natCast_nonneg, beq_iff_eq, decide_eq_true_eq, Int.ofNat_lt, hlt, drop_end hlt, List.append_nil]
    | succ m ihm =>
      intro k acc l1 l2 hm hl
      have hlt : k < l.parts.length := by omega
      obtain ⟨p, hp1, hpm, hd, g1, g2⟩ := at_lt hlt
      have hp := ih p hpm (fine_part hf hpm)
      have h4 : acc.length + [p].length ≤ 4294967296 := by simp; omega
      have hih := ihm (k + 1) (acc ++ [p]) l1 l2 (by omega) (by simp; omega)
      rw [n_24l3]
      simp only [Option.bind_eq_bind, Option.bind_some, Option.bind_none, if_true, if_false, Bool.false_eq_true, Bool.true_eq_false, Int.toNat_natCast, Int.natCast_nonneg, beq_iff_eq, decide_eq_true_eq, Int.ofNat_lt, hlt, hp1, hp, h4, wrap_succ hlt (by omega), hih]
      rw [hd]; simp
  have h := loop _ 0 [] l ⟨0, 0, false, []⟩ rfl (by simp; omega)
  simp only [Int.natCast_zero, Int.ofNat_eq_natCast, List.drop_zero, List.nil_append] at h
  rw [n_24]
  simp only [Option.bind_eq_bind, Option.bind_some, Option.bind_none, if_true, if_false, Bool.false_eq_true, Bool.true_eq_false, Int.toNat_natCast, Int.natCast_nonneg, beq_iff_eq, decide_eq_true_eq, Int.ofNat_lt, h, eta]

theorem f24s (l : Layout) (hf : l.Fine) : n_24sba69 (l, ()) = some (l.kind, l.n, l.flag, l.parts, ()) := by
  have hn := hf.len
  have loop : ∀ (m k : Nat) (acc : List Layout) (l1 l2 : Layout), l.parts.length - k = m → acc.length + m ≤ 20000 → n_24sba69l3 (l.parts, l.parts.length, k, l1, l2, acc, ()) = some (l1, l2, acc ++ l.parts.drop k, ()) := by
    intro m
    induction m with
    | zero =>
      intro k acc l1 l2 hm hl
      have hlt : ¬ k < l.parts.length := by omega
      rw [n_24sba69l3]
      simp only [Option.bind_eq_bind, Option.bind_some, Option.bind_none, if_true, if_false, Bool.false_eq_true, Bool.true_eq_false, Int.toNat_natCast, Int.natCast_nonneg, beq_iff_eq, decide_eq_true_eq, Int.ofNat_lt, hlt, drop_end hlt, List.append_nil]
    | succ m ihm =>
      intro k acc l1 l2 hm hl
      have hlt : k < l.parts.length := by omega
      obtain ⟨p, hp1, hpm, hd, g1, g2⟩ := at_lt hlt
      have hp := f24 p (fine_part hf hpm)
      have h4 : acc.length + [p].length ≤ 4294967296 := by simp; omega
      have hih := ihm (k + 1) (acc ++ [p]) l1 l2 (by omega) (by simp; omega)
      rw [n_24sba69l3]
      simp only [Option.bind_eq_bind, Option.bind_some, Option.bind_none, if_true, if_false, Bool.false_eq_true, Bool.true_eq_false, Int.toNat_natCast, Int.natCast_nonneg, beq_iff_eq, decide_eq_true_eq, Int.ofNat_lt, hlt, hp1, hp, h4, wrap_succ hlt (by omega), hih]
      rw [hd]; simp
  have h := loop _ 0 [] l ⟨0, 0, false, []⟩ rfl (by simp; omega)
  simp only [Int.natCast_zero, Int.ofNat_eq_natCast, List.drop_zero, List.nil_append] at h
  unfold n_24sba69
  simp only [Option.bind_eq_bind, Option.bind_some, Option.bind_none, if_true, if_false, Bool.false_eq_true, Bool.true_eq_false, Int.toNat_natCast, Int.natCast_nonneg, beq_iff_eq, decide_eq_true_eq, Int.ofNat_lt, h]

theorem lay_ext (a b : Layout) : a = b ↔ a.kind = b.kind ∧ a.n = b.n ∧ a.flag = b.flag ∧ a.parts = b.parts := by
  cases a; cases b; simp

theorem f25 : ∀ a : Layout, a.Fits → ∀ b : Layout, b.Fits → n_25 (a, b, ()) = some (decide (a = b), ()) := by
  refine Layout.ind fun a ih ha b hb => ?_
  have hn := ha.len
  have loop : ∀ (m k : Nat), a.parts.length = b.parts.length → a.parts.length - k = m → n_54c25l4 (b.parts, a.parts, a.parts.length, k, ()) = some (if a.parts.drop k = b.parts.drop k then .inr () else .inl (false, ())) := by
    intro m
    induction m with
    | zero =>
      intro k he hm
      have hlt : ¬ k < a.parts.length := by omega
      have hlt' : ¬ k < b.parts.length := by omega
      rw [n_54c25l4]
      simp only [Option.bind_eq_bind, Option.bind_some, Option.bind_none, if_true, if_false, Bool.false_eq_true, Bool.true_eq_false, Int.toNat_natCast, Int.natCast_nonneg, beq_iff_eq, decide_eq_true_eq, Int.ofNat_lt, hlt, drop_end hlt, drop_end hlt']
    | succ m ihm =>
      intro k he hm
      have hlt : k < a.parts.length := by omega
      obtain ⟨p, hp1, hpm, hd, g1, g2⟩ := at_lt hlt
      obtain ⟨q, hq1, hqm, hd', _, _⟩ := at_lt (xs := b.parts) (k := k) (by omega)
      have hp := ih p hpm (ha.part hpm) q (hb.part hqm)
      have hih := ihm (k + 1) he (by omega)
      rw [n_54c25l4]
      simp only [Option.bind_eq_bind, Option.bind_some, Option.bind_none, if_true, if_false, Bool.false_eq_true, Bool.true_eq_false, Int.toNat_natCast, Int.natCast_nonneg, beq_iff_eq, decide_eq_true_eq, Int.ofNat_lt, hlt, hp1, hq1, hp, wrap_succ hlt hn, hih]
      rw [hd, hd']
      by_cases hpq : p = q
      · simp [hpq]
      · simp [hpq]
  have h54 : n_54c25 (a.parts, b.parts, ()) = some (decide (a.parts = b.parts), ()) := by
    rw [n_54c25]
    by_cases he : a.parts.length = b.parts.length
    · have h := loop _ 0 he rfl
      simp only [Int.natCast_zero, Int.ofNat_eq_natCast, List.drop_zero] at h
      have he' : ((a.parts.length : Int) != (b.parts.length : Int)) = false := by simp [he]
      simp only [he', Option.bind_eq_bind, Option.bind_some, Option.bind_none, if_true, if_false, Bool.false_eq_true, Bool.true_eq_false, Int.toNat_natCast, Int.natCast_nonneg, beq_iff_eq, decide_eq_true_eq, Int.ofNat_lt, h]
      by_cases hp : a.parts = b.parts
      · simp [hp]
      · simp [hp]
    · have he' : ((a.parts.length : Int) != (b.parts.length : Int)) = true := by simp; omega
      have hp : ¬ a.parts = b.parts := fun h => he (by rw [h])
      simp only [he', Option.bind_eq_bind, Option.bind_some, Option.bind_none, if_true, if_false, Bool.false_eq_true, Bool.true_eq_false, Int.toNat_natCast, Int.natCast_nonneg, beq_iff_eq, decide_eq_true_eq, Int.ofNat_lt, hp, decide_false]
  rw [n_25]
  by_cases h1 : a.kind = b.kind
  · by_cases h2 : a.n = b.n
    · by_cases h3 : a.flag = b.flag
      · simp only [h1, h2, h3, beq_self_eq_true, Option.bind_eq_bind, Option.bind_some, Option.bind_none, if_true, if_false, Bool.false_eq_true, Bool.true_eq_false, Int.toNat_natCast, Int.natCast_nonneg, beq_iff_eq, decide_eq_true_eq, Int.ofNat_lt, h54, lay_ext a b, true_and]
      · have h3' : (a.flag == b.flag) = false := by simpa using h3
        simp only [h1, h2, h3', beq_self_eq_true, Option.bind_eq_bind, Option.bind_some, Option.bind_none, if_true, if_false, Bool.false_eq_true, Bool.true_eq_false, Int.toNat_natCast, Int.natCast_nonneg, beq_iff_eq, decide_eq_true_eq, Int.ofNat_lt, lay_ext a b, h3, true_and, false_and, decide_false]
    · have h2' : (a.n == b.n) = false := by simpa using h2
      simp only [h1, h2', beq_self_eq_true, Option.bind_eq_bind, Option.bind_some, Option.bind_none, if_true, if_false, Bool.false_eq_true, Bool.true_eq_false, Int.toNat_natCast, Int.natCast_nonneg, beq_iff_eq, decide_eq_true_eq, Int.ofNat_lt, lay_ext a b, h2, true_and, false_and, decide_false]
  · have h1' : (a.kind == b.kind) = false := by simpa using h1
    simp only [h1', Option.bind_eq_bind, Option.bind_some, Option.bind_none, if_true, if_false, Bool.false_eq_true, Bool.true_eq_false, Int.toNat_natCast, Int.natCast_nonneg, beq_iff_eq, decide_eq_true_eq, Int.ofNat_lt, lay_ext a b, h1, false_and, decide_false]

theorem f26 : ∀ a : Layout, a.Fits → ∀ b : Layout, b.Fits → n_26 (a, b, ()) = some (decide (a = b), ()) := by
  refine Layout.ind fun a ih ha b hb => ?_
  have hn := ha.len
  have loop : ∀ (m k : Nat), a.parts.length = b.parts.length → a.parts.length - k = m → n_26l4 (k, a, b, ()) = some (if a.parts.drop k = b.parts.drop k then .inr () else .inl (false, ())) := by
    intro m
    induction m with
    | zero =>
      intro k he hm
      have hlt : ¬ k < a.parts.length := by omega
      have hlt' : ¬ k < b.parts.length := by omega
      rw [n_26l4]
      simp only [Option.bind_eq_bind, Option.bind_some, Option.bind_none, if_true, if_false, Bool.false_eq_true, Bool.true_eq_false, Int.toNat_natCast, Int.natCast_nonneg, beq_iff_eq, decide_eq_true_eq, Int.ofNat_lt, hlt, drop_end hlt, drop_end hlt']
    | succ m ihm =>
      intro k he hm
      have hlt : k < a.parts.length := by omega
      obtain ⟨p, hp1, hpm, hd, g1, g2⟩ := at_lt hlt
      obtain ⟨q, hq1, hqm, hd', _, _⟩ := at_lt (xs := b.parts) (k := k) (by omega)
      have hp := ih p hpm (ha.part hpm) q (hb.part hqm)
      have hih := ihm (k + 1) he (by omega)
      rw [n_26l4]
      simp only [Option.bind_eq_bind, Option.bind_some, Option.bind_none, if_true, if_false, Bool.false_eq_true, Bool.true_eq_false, Int.toNat_natCast, Int.natCast_nonneg, beq_iff_eq, decide_eq_true_eq, Int.ofNat_lt, hlt, hp1, hq1, hp, wrap_succ hlt hn, hih]
      rw [hd, hd']
      by_cases hpq : p = q
      · simp [hpq]
      · simp [hpq]
  rw [n_26]
  by_cases h1 : a.kind = b.kind
  rotate_left
  · have h1' : (a.kind != b.kind) = true := by simpa using h1
    simp only [h1', Option.bind_eq_bind, Option.bind_some, Option.bind_none, if_true, if_false, Bool.false_eq_true, Bool.true_eq_false, Int.toNat_natCast, Int.natCast_nonneg, beq_iff_eq, decide_eq_true_eq, Int.ofNat_lt, lay_ext a b, h1, false_and, decide_false]
  by_cases h2 : a.n = b.n
  rotate_left
  · have h2' : (a.n != b.n) = true := by simpa using h2
    simp only [h1, h2', bne_self_eq_false, Option.bind_eq_bind, Option.bind_some, Option.bind_none, if_true, if_false, Bool.false_eq_true, Bool.true_eq_false, Int.toNat_natCast, Int.natCast_nonneg, beq_iff_eq, decide_eq_true_eq, Int.ofNat_lt, lay_ext a b, h2, true_and, false_and, decide_false]
  by_cases h3 : a.flag = b.flag
  rotate_left
  · have h3' : (!a.flag == b.flag) = true := by
      revert h3; cases a.flag <;> cases b.flag <;> simp
    simp only [h1, h2, h3', bne_self_eq_false, Option.bind_eq_bind, Option.bind_some, Option.bind_none, if_true, if_false, Bool.false_eq_true, Bool.true_eq_false, Int.toNat_natCast, Int.natCast_nonneg, beq_iff_eq, decide_eq_true_eq, Int.ofNat_lt, lay_ext a b, h3, true_and, false_and, decide_false]
  have h3' : (!a.flag == b.flag) = false := by rw [h3]; cases b.flag <;> rfl
  by_cases he : a.parts.length = b.parts.length
  · have h := loop _ 0 he rfl
    simp only [Int.natCast_zero, Int.ofNat_eq_natCast, List.drop_zero] at h
    have he' : ((a.parts.length : Int) != (b.parts.length : Int)) = false := by simp [he]
    simp only [h1, h2, h3', he', bne_self_eq_false, Option.bind_eq_bind, Option.bind_some, Option.bind_none, if_true, if_false, Bool.false_eq_true, Bool.true_eq_false, Int.toNat_natCast, Int.natCast_nonneg, beq_iff_eq, decide_eq_true_eq, Int.ofNat_lt, h]
    by_cases hp : a.parts = b.parts
    · simp [lay_ext a b, h1, h2, h3, hp]
    · simp [lay_ext a b, h1, h2, h3, hp]
  · have he' : ((a.parts.length : Int) != (b.parts.length : Int)) = true := by simp; omega
    have hp : ¬ a.parts = b.parts := fun h => he (by rw [h])
    simp only [h1, h2, h3', he', bne_self_eq_false, Option.bind_eq_bind, Option.bind_some, Option.bind_none, if_true, if_false, Bool.false_eq_true, Bool.true_eq_false, Int.toNat_natCast, Int.natCast_nonneg, beq_iff_eq, decide_eq_true_eq, Int.ofNat_lt]
    simp [lay_ext a b, hp]

/-- THE LAW on equal layouts. -/
theorem law6 (a b : Layout) (ha : a.Fits) (hb : b.Fits) : n_6 (a, b, ()) = some (true, ()) := by
  unfold n_6
  simp only [f11 a ha, f11 b hb, Option.bind_eq_bind, Option.bind_some, Option.bind_none, if_true, if_false, Bool.false_eq_true, Bool.true_eq_false, Int.toNat_natCast, Int.natCast_nonneg, beq_iff_eq, decide_eq_true_eq, Int.ofNat_lt]
  cases h1 : overS a
  rotate_left
  · simp [f12]
  cases h2 : overS b
  rotate_left
  · simp [f12]
  have hf := fine_of ha h1
  have e1 : n_26 (a, Layout.mk a.kind a.n a.flag a.parts, ()) = some (true, ()) := by rw [eta, f26 a ha a ha]; simp
  have hbb : (!decide (a = b) == decide (a = b)) = false := by cases decide (a = b) <;> rfl
  simp only [Option.bind_eq_bind, Option.bind_some, Option.bind_none, if_true, if_false, Bool.false_eq_true, Bool.true_eq_false, Int.toNat_natCast, Int.natCast_nonneg, beq_iff_eq, decide_eq_true_eq, Int.ofNat_lt, f24s a hf, f25 a ha b hb, f26 a ha b hb, hbb, e1, Bool.not_true]
  cases hp : a.parts with
  | nil => simp [f12]
  | cons p r =>
    have hpm : p ∈ a.parts := by rw [hp]; exact List.mem_cons_self
    have hpf := ha.part hpm
    -- the first part is another one
    have hw : IntKind.i64.wrap (p.n + 1) ≠ p.n := by
      have := hpf.self.2.1
      by_cases hm : p.n = 9223372036854775807
      · rw [hm]; decide
      · rw [wrap64 (by omega) (by omega)]; omega
    have hne : ¬ a = Layout.mk a.kind a.n a.flag (Layout.mk p.kind (IntKind.i64.wrap (p.n + 1)) p.flag p.parts :: r) := by
      intro h
      have h4 := ((lay_ext _ _).1 h).2.2.2
      rw [hp] at h4
      simp only [List.cons.injEq] at h4
      have h5 := (lay_ext _ _).1 h4.1
      exact hw h5.2.1.symm
    have hfit : (Layout.mk a.kind a.n a.flag (Layout.mk p.kind (IntKind.i64.wrap (p.n + 1)) p.flag p.parts :: r)).Fits := by
      intro q hq
      rw [Layout.all_eq] at hq
      rcases List.mem_cons.1 hq with rfl | hq
      · have := ha.self
        refine ⟨this.1, this.2.1, ?_⟩
        have h3 := this.2.2
        rw [hp] at h3
        exact h3
      · obtain ⟨x, hx, hq⟩ := mem_allL hq
        rcases List.mem_cons.1 hx with rfl | hx
        · rw [Layout.all_eq] at hq
          rcases List.mem_cons.1 hq with rfl | hq
          · refine ⟨hpf.self.1, ?_, hpf.self.2.2⟩
            show _ ≤ IntKind.i64.wrap (p.n + 1) ∧ IntKind.i64.wrap (p.n + 1) ≤ _
            have := hpf.self.2.1
            by_cases hm : p.n = 9223372036854775807
            · rw [hm]; decide
            · rw [wrap64 (by omega) (by omega)]; omega
          · obtain ⟨y, hy, hq⟩ := mem_allL hq
            exact (hpf.part hy) q hq
        · exact (ha.part (by rw [hp]; exact List.mem_cons_of_mem _ hx)) q hq
    have h26 := f26 a ha _ hfit
    rw [decide_eq_false hne] at h26
    have hlt : (0 : Int) < ((p :: r).length : Int) := by simp only [List.length_cons]; omega
    have hgt : decide (((p :: r).length : Int) > 0) = true := decide_eq_true hlt
    simp only [hgt, Option.bind_eq_bind, Option.bind_some, Option.bind_none, if_true, if_false, Bool.false_eq_true, Bool.true_eq_false, Int.toNat_natCast, Int.natCast_nonneg, beq_iff_eq, decide_eq_true_eq, Int.ofNat_lt, Int.le_refl, hlt, and_self, Int.toNat_zero, List.getElem?_cons_zero, List.set_cons_zero, h26, Bool.not_false, f12]

theorem laySame_true (a b : Layout) (h0 : Go.Tx.Ok vw (.st .layoutT) a) (h1 : Go.Tx.Ok vw (.st .layoutT) b) : n_6 (a, b, ()) = some (true, ()) := law6 a b (fits_of_ok a h0) (fits_of_ok b h1)

end Go.Proofs.Ytdknkfioigcfiaa
