/-
  What the functions on layouts compute, one by one: bits, sums, multiples, counts.
-/
import Derived.Test.YtdknkfioigcfiaaLwM
import Derived.Test.YtdknkfioigcfiaaNatA
namespace Go.Proofs.Ytdknkfioigcfiaa
set_option linter.unusedSimpArgs false
set_option linter.unusedVariables false
set_option maxRecDepth 20000

theorem f56 (l : Layout) : n_56 (l, ()) = some (bitsS l, ()) := by
  simp only [n_56, bitsS, beq_iff_eq]; (repeat' split) <;> simp_all
theorem f58 (l : Layout) : n_58 (l, ()) = some (bitsS l, ()) := by
  simp only [n_58, bitsS, beq_iff_eq]; (repeat' split) <;> simp_all

theorem f71 {n m : Int} (h1 : 0 ≤ n) (h2 : n ≤ 4611686018427387904) (h3 : 1 ≤ m) (h4 : m ≤ 1000000) : n_71 (n, m, ()) = some (upS n m, ()) := by
  have a1 : IntKind.i64.wrap (n + m) = n + m := wrap64 (by omega) (by omega)
  have a2 : IntKind.i64.wrap (n + m - 1) = n + m - 1 := wrap64 (by omega) (by omega)
  have b := tdiv_bnd (n := n + m - 1) (m := m) (by omega) h3
  have a3 : IntKind.i64.wrap ((n + m - 1).tdiv m) = (n + m - 1).tdiv m := by
    have : (n + m - 1).tdiv m ≤ (n + m - 1).tdiv m * m := by
      have := Int.mul_le_mul_of_nonneg_left h3 b.1
      omega
    exact wrap64 (by omega) (by omega)
  have a4 : IntKind.i64.wrap ((n + m - 1).tdiv m * m) = (n + m - 1).tdiv m * m := wrap64 (by omega) (by omega)
  have a5 : m ≠ 0 := by omega
  simp only [n_71, a1, a2, a3, a4, if_neg a5, upS]

theorem f70l {n m : Int} (h1 : 0 ≤ n) (h2 : n ≤ 4611686018427387904) (h3 : 1 ≤ m) (h4 : m ≤ 1000000) : ∀ (k : Nat) (x : Int), (upS n m - x).toNat = k → n ≤ x → x ≤ upS n m → upS x m = upS n m → n_70l1 (x, m, ()) = some (upS n m, ()) := by
  have hb := upS_bnd h1 h3
  have a5 : m ≠ 0 := by omega
  intro k
  induction k with
  | zero =>
    intro x hk h5 h6 h7
    have hr : x.tmod m = 0 := by
      by_cases hr : x.tmod m = 0
      · exact hr
      have h8 := upS_step (by omega) h3 hr
      have := upS_bnd (n := x + 1) (m := m) (by omega) h3
      omega
    rw [n_70l1]
    simp only [if_neg a5, hr, bne_self_eq_false, Bool.false_eq_true, if_false]
    rw [← h7, upS_end (by omega) h3 hr]
  | succ k ih =>
    intro x hk h5 h6 h7
    rw [n_70l1]
    by_cases hr : x.tmod m = 0
    · simp only [if_neg a5, hr, bne_self_eq_false, Bool.false_eq_true, if_false]
      rw [← h7, upS_end (by omega) h3 hr]
    · have e1 : (x.tmod m != 0) = true := by simp [hr]
      have h8 := upS_step (by omega) h3 hr
      have := upS_bnd (n := x + 1) (m := m) (by omega) h3
      have e2 : IntKind.i64.wrap (x + 1) = x + 1 := wrap64 (by omega) (by omega)
      simp only [if_neg a5, e1, if_true, e2]
      exact ih (x + 1) (by omega) (by omega) (by omega) (by rw [h8, h7])

theorem f70 {n m : Int} (h1 : 0 ≤ n) (h2 : n ≤ 4611686018427387904) (h3 : 1 ≤ m) (h4 : m ≤ 1000000) : n_70 (n, m, ()) = some (upS n m, ()) := by
  simp only [n_70, f70l h1 h2 h3 h4 _ n rfl (by omega) (upS_bnd h1 h3).1 rfl, Option.bind_eq_bind, Option.bind_some, Option.bind_none, if_true, if_false, Bool.false_eq_true, Bool.true_eq_false, Int.toNat_natCast, Int.natCast_nonneg, beq_iff_eq, decide_eq_true_eq, Int.ofNat_lt]

theorem f77l {n : Int} (h0 : n ≠ 0) (h1 : n ≤ 64) (h2 : 0 ≤ n) : ∀ s : Int, (s = 1 ∨ s = 2 ∧ 8 < n ∨ s = 4 ∧ 16 < n ∨ s = 8 ∧ 32 < n) → n_77l4 (n, s, ()) = some (wholeS n, ()) := by
  have key : ∀ s : Int, (s = 1 ∨ s = 2 ∨ s = 4 ∨ s = 8) → IntKind.i64.wrap (8 * s) = 8 * s ∧ IntKind.i64.wrap (s * 2) = s * 2 := fun s hs => ⟨wrap64 (by omega) (by omega), wrap64 (by omega) (by omega)⟩
  have h8 : (32 < n) → n_77l4 (n, 8, ()) = some (wholeS n, ()) := fun h => by
    rw [n_77l4]
    simp only [(key 8 (by omega)).1, (key 8 (by omega)).2, Option.bind_eq_bind, Option.bind_some, Option.bind_none, if_true, if_false, Bool.false_eq_true, Bool.true_eq_false, Int.toNat_natCast, Int.natCast_nonneg, beq_iff_eq, decide_eq_true_eq, Int.ofNat_lt]
    rw [if_neg (by omega)]
    unfold wholeS; (repeat' split) <;> first | omega | rfl
  have h4 : (16 < n) → n_77l4 (n, 4, ()) = some (wholeS n, ()) := fun h => by
    rw [n_77l4]
    simp only [(key 4 (by omega)).1, (key 4 (by omega)).2, Option.bind_eq_bind, Option.bind_some, Option.bind_none, if_true, if_false, Bool.false_eq_true, Bool.true_eq_false, Int.toNat_natCast, Int.natCast_nonneg, beq_iff_eq, decide_eq_true_eq, Int.ofNat_lt]
    by_cases h5 : 32 < n
    · rw [if_pos (by omega)]; exact h8 h5
    · rw [if_neg (by omega)]; unfold wholeS; (repeat' split) <;> first | omega | rfl
  have h2' : (8 < n) → n_77l4 (n, 2, ()) = some (wholeS n, ()) := fun h => by
    rw [n_77l4]
    simp only [(key 2 (by omega)).1, (key 2 (by omega)).2, Option.bind_eq_bind, Option.bind_some, Option.bind_none, if_true, if_false, Bool.false_eq_true, Bool.true_eq_false, Int.toNat_natCast, Int.natCast_nonneg, beq_iff_eq, decide_eq_true_eq, Int.ofNat_lt]
    by_cases h5 : 16 < n
    · rw [if_pos (by omega)]; exact h4 h5
    · rw [if_neg (by omega)]; unfold wholeS; (repeat' split) <;> first | omega | rfl
  intro s hs
  rcases hs with rfl | ⟨rfl, h⟩ | ⟨rfl, h⟩ | ⟨rfl, h⟩
  · rw [n_77l4]
    simp only [(key 1 (by omega)).1, (key 1 (by omega)).2, Option.bind_eq_bind, Option.bind_some, Option.bind_none, if_true, if_false, Bool.false_eq_true, Bool.true_eq_false, Int.toNat_natCast, Int.natCast_nonneg, beq_iff_eq, decide_eq_true_eq, Int.ofNat_lt]
    by_cases h5 : 8 < n
    · rw [if_pos (by omega)]; exact h2' h5
    · rw [if_neg (by omega)]; unfold wholeS; (repeat' split) <;> first | omega | rfl
  · exact h2' h
  · exact h4 h
  · exact h8 h

theorem f77 {n : Int} (h1 : n ≤ 64) (h2 : 0 ≤ n) : n_77 (n, ()) = some (wholeS n, ()) := by
  by_cases h0 : n = 0
  · subst h0; simp [n_77, wholeS]
  · have e : (n == 0) = false := by simp [h0]
    simp only [n_77, e, f77l h0 h1 h2 1 (.inl rfl), Option.bind_eq_bind, Option.bind_some, Option.bind_none, if_true, if_false, Bool.false_eq_true, Bool.true_eq_false, Int.toNat_natCast, Int.natCast_nonneg, beq_iff_eq, decide_eq_true_eq, Int.ofNat_lt]

theorem f69l {n w : Int} (pl : Place) (h1 : n ≤ 64) (h2 : 0 ≤ n) : ∀ s : Int, (s = 1 ∨ s = 2 ∧ 8 < n ∨ s = 4 ∧ 16 < n ∨ s = 8 ∧ 32 < n) → n_69l2 (n, w, s, pl, ()) = some (w, max 1 (wholeS n), pl, ()) := by
  have key : ∀ s : Int, (s = 1 ∨ s = 2 ∨ s = 4 ∨ s = 8) → IntKind.i64.wrap (8 * s) = 8 * s ∧ IntKind.i64.wrap (2 * s) = 2 * s := fun s hs => ⟨wrap64 (by omega) (by omega), wrap64 (by omega) (by omega)⟩
  have fin : ∀ s : Int, ¬ 8 * s < n → (s = 1 ∨ s = 2 ∧ 8 < n ∨ s = 4 ∧ 16 < n ∨ s = 8 ∧ 32 < n) → s = max 1 (wholeS n) := fun s h hs => by unfold wholeS; (repeat' split) <;> omega
  have h8 : (32 < n) → n_69l2 (n, w, 8, pl, ()) = some (w, max 1 (wholeS n), pl, ()) := fun h => by
    rw [n_69l2]
    simp only [(key 8 (by omega)).1, (key 8 (by omega)).2, Option.bind_eq_bind, Option.bind_some, Option.bind_none, if_true, if_false, Bool.false_eq_true, Bool.true_eq_false, Int.toNat_natCast, Int.natCast_nonneg, beq_iff_eq, decide_eq_true_eq, Int.ofNat_lt]
    rw [if_neg (by omega), ← fin 8 (by omega) (by omega)]
  have h4 : (16 < n) → n_69l2 (n, w, 4, pl, ()) = some (w, max 1 (wholeS n), pl, ()) := fun h => by
    rw [n_69l2]
    simp only [(key 4 (by omega)).1, (key 4 (by omega)).2, Option.bind_eq_bind, Option.bind_some, Option.bind_none, if_true, if_false, Bool.false_eq_true, Bool.true_eq_false, Int.toNat_natCast, Int.natCast_nonneg, beq_iff_eq, decide_eq_true_eq, Int.ofNat_lt]
    by_cases h5 : 32 < n
    · rw [if_pos (by omega)]; exact h8 h5
    · rw [if_neg (by omega), ← fin 4 (by omega) (by omega)]
  have h2' : (8 < n) → n_69l2 (n, w, 2, pl, ()) = some (w, max 1 (wholeS n), pl, ()) := fun h => by
    rw [n_69l2]
    simp only [(key 2 (by omega)).1, (key 2 (by omega)).2, Option.bind_eq_bind, Option.bind_some, Option.bind_none, if_true, if_false, Bool.false_eq_true, Bool.true_eq_false, Int.toNat_natCast, Int.natCast_nonneg, beq_iff_eq, decide_eq_true_eq, Int.ofNat_lt]
    by_cases h5 : 16 < n
    · rw [if_pos (by omega)]; exact h4 h5
    · rw [if_neg (by omega), ← fin 2 (by omega) (by omega)]
  intro s hs
  rcases hs with rfl | ⟨rfl, h⟩ | ⟨rfl, h⟩ | ⟨rfl, h⟩
  · rw [n_69l2]
    simp only [(key 1 (by omega)).1, (key 1 (by omega)).2, Option.bind_eq_bind, Option.bind_some, Option.bind_none, if_true, if_false, Bool.false_eq_true, Bool.true_eq_false, Int.toNat_natCast, Int.natCast_nonneg, beq_iff_eq, decide_eq_true_eq, Int.ofNat_lt]
    by_cases h5 : 8 < n
    · rw [if_pos (by omega)]; exact h2' h5
    · rw [if_neg (by omega), ← fin 1 (by omega) (by omega)]
  · exact h2' h
  · exact h4 h
  · exact h8 h

theorem f69 {n w : Int} (h1 : n ≤ 64) (h2 : 0 ≤ n) : n_69 (n, w, ()) = some (⟨max 1 (wholeS n), min (max 1 (wholeS n)) w⟩, ()) := by
  simp only [n_69, f69l ⟨0, 0⟩ h1 h2 1 (.inl rfl), Option.bind_eq_bind, Option.bind_some, Option.bind_none, if_true, if_false, Bool.false_eq_true, Bool.true_eq_false, Int.toNat_natCast, Int.natCast_nonneg, beq_iff_eq, decide_eq_true_eq, Int.ofNat_lt]

/-- A loop over a list by numbers. -/
theorem at_lt {α : Type} {xs : List α} {k : Nat} (h : k < xs.length) : ∃ p, xs[k]? = some p ∧ p ∈ xs ∧ xs.drop k = p :: xs.drop (k + 1) ∧ ((k : Int) < (xs.length : Int)) ∧ (0 : Int) ≤ (k : Int) :=
  let ⟨p, a, b, c⟩ := drop_step h
  ⟨p, a, b, c, by omega, by omega⟩
theorem at_end {α : Type} {xs : List α} {k : Nat} (h : ¬ k < xs.length) : xs.drop k = [] ∧ ¬ ((k : Int) < (xs.length : Int)) := ⟨drop_end h, by omega⟩

theorem f72l (xs : List Int) (hx : ∀ x ∈ xs, 0 ≤ x) (hl : xs.length ≤ 1000000) (k : Nat) (a : Int) (h0 : 0 ≤ a) (h1 : a ≤ far) :
    n_72l3 (a, xs, xs.length, k, ()) = some ((xs.drop k).foldl (fun n x => min far (n + min x far)) a, ()) := by
  have hf : far = 1099511627776 := rfl
  rw [n_72l3]
  by_cases hlt : k < xs.length
  · obtain ⟨p, hp, hm, hd, g1, g2⟩ := at_lt hlt
    have hp0 := hx p hm
    have e1 : IntKind.i64.wrap (a + min p 1099511627776) = a + min p 1099511627776 := wrap64 (by omega) (by omega)
    simp only [Option.bind_eq_bind, Option.bind_some, Option.bind_none, if_true, if_false, Bool.false_eq_true, Bool.true_eq_false, Int.toNat_natCast, Int.natCast_nonneg, beq_iff_eq, decide_eq_true_eq, Int.ofNat_lt, g1, g2, hp, e1, wrap_succ hlt (Nat.le_trans hl (by decide)), hd, List.foldl_cons, hlt]
    exact f72l xs hx hl (k + 1) _ (by omega) (by omega)
  · obtain ⟨hd, g1⟩ := at_end hlt
    simp only [Option.bind_eq_bind, Option.bind_some, Option.bind_none, if_true, if_false, Bool.false_eq_true, Bool.true_eq_false, Int.toNat_natCast, Int.natCast_nonneg, beq_iff_eq, decide_eq_true_eq, Int.ofNat_lt, g1, hd, List.foldl_nil, hlt]
termination_by xs.length - k

theorem f72 (xs : List Int) (hx : ∀ x ∈ xs, 0 ≤ x) (hl : xs.length ≤ 1000000) : n_72 (xs, ()) = some (sumS xs, ()) := by
  have := f72l xs hx hl 0 0 (by omega) (by decide)
  simp only [Int.ofNat_eq_natCast, Int.natCast_zero] at this
  simp only [n_72, this, Option.bind_eq_bind, Option.bind_some, Option.bind_none, if_true, if_false, Bool.false_eq_true, Bool.true_eq_false, Int.toNat_natCast, Int.natCast_nonneg, beq_iff_eq, decide_eq_true_eq, Int.ofNat_lt, List.drop_zero, sumS]

theorem f72p {a b : Int} (ha : 0 ≤ a) (hb : 0 ≤ b) : n_72 ([a, b], ()) = some (min far (a + b), ()) := by
  rw [f72 [a, b] (by simp; omega) (by simp), sumS2 a b ha hb]

theorem f55l (ps : List Layout) (hn : ps.length ≤ 9223372036854775807) (k : Nat) (a : Int) (h0 : 0 ≤ a) (hb : a + sumBits (ps.drop k) ≤ 4611686018427387904) : n_55l3 (a, ps, ps.length, k, ()) = some (a + sumBits (ps.drop k), ()) := by
  rw [n_55l3]
  by_cases hlt : k < ps.length
  · obtain ⟨p, hp, hm, hd, g1, g2⟩ := at_lt hlt
    rw [hd] at hb ⊢
    simp only [sumBits] at hb ⊢
    have b1 := bitsS_nonneg p
    have b2 := sumBits_nonneg (ps.drop (k + 1))
    have e1 : IntKind.i64.wrap (a + bitsS p) = a + bitsS p := wrap64 (by omega) (by omega)
    simp only [Option.bind_eq_bind, Option.bind_some, Option.bind_none, if_true, if_false, Bool.false_eq_true, Bool.true_eq_false, Int.toNat_natCast, Int.natCast_nonneg, beq_iff_eq, decide_eq_true_eq, Int.ofNat_lt, g1, g2, hp, f56, e1, wrap_succ hlt hn, hlt]
    rw [f55l ps hn (k + 1) _ (by omega) (by omega), Int.add_assoc]
  · obtain ⟨hd, g1⟩ := at_end hlt
    simp only [Option.bind_eq_bind, Option.bind_some, Option.bind_none, if_true, if_false, Bool.false_eq_true, Bool.true_eq_false, Int.toNat_natCast, Int.natCast_nonneg, beq_iff_eq, decide_eq_true_eq, Int.ofNat_lt, g1, hd, sumBits, Int.add_zero, hlt]
termination_by ps.length - k

theorem f55 (l : Layout) (hn : l.parts.length ≤ 9223372036854775807) (hb : sumBits l.parts ≤ 4611686018427387904) : n_55 (l, ()) = some (sumBits l.parts, ()) := by
  have := f55l l.parts hn 0 0 (by omega) (by simpa using hb)
  simp only [Int.natCast_zero, Int.ofNat_eq_natCast, Int.zero_add, List.drop_zero] at this
  simp only [n_55, this, Option.bind_eq_bind, Option.bind_some, Option.bind_none, if_true, if_false, Bool.false_eq_true, Bool.true_eq_false, Int.toNat_natCast, Int.natCast_nonneg, beq_iff_eq, decide_eq_true_eq, Int.ofNat_lt]

theorem f52l (l : Layout) (hn : l.parts.length ≤ 9223372036854775807) (k : Nat) (a : Int) (h0 : 0 ≤ a) (h1 : a ≤ 100000) : n_52l3 (a, k, l, ()) = some ((l.parts.drop k).foldl (fun n p => min (n + min (bitsS p) 1000) 100000) a, ()) := by
  rw [n_52l3]
  by_cases hlt : k < l.parts.length
  · obtain ⟨p, hp, hm, hd, g1, g2⟩ := at_lt hlt
    have b1 := bitsS_nonneg p
    have e1 : IntKind.i64.wrap (a + min (bitsS p) 1000) = a + min (bitsS p) 1000 := wrap64 (by omega) (by omega)
    simp only [Option.bind_eq_bind, Option.bind_some, Option.bind_none, if_true, if_false, Bool.false_eq_true, Bool.true_eq_false, Int.toNat_natCast, Int.natCast_nonneg, beq_iff_eq, decide_eq_true_eq, Int.ofNat_lt, g1, g2, hp, f58, e1, wrap_succ hlt hn, hd, List.foldl_cons, hlt]
    exact f52l l hn (k + 1) _ (by omega) (by omega)
  · obtain ⟨hd, g1⟩ := at_end hlt
    simp only [Option.bind_eq_bind, Option.bind_some, Option.bind_none, if_true, if_false, Bool.false_eq_true, Bool.true_eq_false, Int.toNat_natCast, Int.natCast_nonneg, beq_iff_eq, decide_eq_true_eq, Int.ofNat_lt, g1, hd, List.foldl_nil, hlt]
termination_by l.parts.length - k

theorem f52 (l : Layout) (hn : l.parts.length ≤ 9223372036854775807) : n_52 (l, ()) = some (satBits l.parts, ()) := by
  have := f52l l hn 0 0 (by omega) (by omega)
  simp only [Int.natCast_zero, Int.ofNat_eq_natCast, List.drop_zero] at this
  simp only [n_52, this, Option.bind_eq_bind, Option.bind_some, Option.bind_none, if_true, if_false, Bool.false_eq_true, Bool.true_eq_false, Int.toNat_natCast, Int.natCast_nonneg, beq_iff_eq, decide_eq_true_eq, Int.ofNat_lt, satBits]

end Go.Proofs.Ytdknkfioigcfiaa
