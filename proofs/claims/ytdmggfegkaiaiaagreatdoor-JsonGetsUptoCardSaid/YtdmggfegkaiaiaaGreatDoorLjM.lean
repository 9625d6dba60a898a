/-
  Pieces of JSON in plain Lean: induction, what a machine can hold, counting; and that both answers to "are these equal" are the same.
-/
import Derived.Test.YtdmggfegkaiaiaaGreatDoorNatA
namespace Go.Proofs.YtdmggfegkaiaiaaGreatDoor
open Go.Awp Go.Tx
set_option linter.unusedSimpArgs false
set_option linter.unusedVariables false
set_option maxRecDepth 20000

theorem Tag.ind {P : Tag → Prop} (h : ∀ t : Tag, (∀ p ∈ t.parts, P p) → P t) (t : Tag) : P t := h t fun p hp => Tag.ind h p
termination_by SizeOf.sizeOf t
decreasing_by
  have := List.sizeOf_lt_of_mem hp
  cases t
  simp at *
  omega

theorem wrap64 {x : Int} (h1 : -9223372036854775808 ≤ x) (h2 : x ≤ 9223372036854775807) : IntKind.i64.wrap x = x := by
  unfold IntKind.wrap
  simp only [IntKind.bits, IntKind.signed, Bool.true_and]
  split <;> rename_i h <;> simp at h <;> omega

theorem wrap_succ {k n : Nat} (h : k < n) (hn : n ≤ 9223372036854775807) : IntKind.i64.wrap ((k : Int) + 1) = ((k + 1 : Nat) : Int) := by rw [wrap64 (by omega) (by omega)]; omega

theorem at_lt {α : Type} {xs : List α} {k : Nat} (h : k < xs.length) : ∃ p, xs[k]? = some p ∧ p ∈ xs ∧ xs.drop k = p :: xs.drop (k + 1) ∧ ((k : Int) < (xs.length : Int)) ∧ (0 : Int) ≤ (k : Int) :=
  ⟨xs[k], List.getElem?_eq_getElem h, List.getElem_mem h, List.drop_eq_getElem_cons h, by omega, by omega⟩

theorem at_end {α : Type} {xs : List α} {k : Nat} (h : ¬ k < xs.length) : xs.drop k = [] ∧ ¬ ((k : Int) < (xs.length : Int)) := ⟨List.drop_eq_nil_of_le (by omega), by omega⟩

/-- What a machine can hold. -/
inductive Tag.Wf : Tag → Prop
  | mk {t : Tag} : t.names.length ≤ 9223372036854775807 → t.parts.length ≤ 9223372036854775807 → (∀ p ∈ t.parts, Tag.Wf p) → Tag.Wf t

theorem Tag.Wf.names {t : Tag} (h : t.Wf) : t.names.length ≤ 9223372036854775807 := by cases h; assumption
theorem Tag.Wf.parts {t : Tag} (h : t.Wf) : t.parts.length ≤ 9223372036854775807 := by cases h; assumption
theorem Tag.Wf.part {t p : Tag} (h : t.Wf) (hp : p ∈ t.parts) : p.Wf := by cases h with | mk _ _ h => exact h p hp

theorem ok_sl {e : Ty SN} {xs : List (den NN e)} (h : Ok vw (.sl e) xs) : xs.length ≤ 9223372036854775807 ∧ ∀ x ∈ xs, Ok vw e x := by
  cases h with
  | sl h1 h2 =>
    have hmx : (maxLen : Nat) = 9223372036854775807 := by decide
    rw [hmx] at h1
    exact ⟨h1, h2⟩

theorem ok_st {i : SN} {x : NN i} (h : Ok vw (.st i) x) : ∀ l ∈ cellsN i x, Ok vw l.t l.x := by
  cases h with
  | st h => exact h

theorem wf_of_ok : ∀ t : Tag, Ok vw (.st .tagT) t → t.Wf := by
  refine Tag.ind fun t ih h => ?_
  have hc := ok_st h
  obtain ⟨h2, _⟩ := ok_sl (hc ⟨.sl .str, t.names⟩ (by simp [cellsN]))
  obtain ⟨h3, h4⟩ := ok_sl (hc ⟨.sl (.st .tagT), t.parts⟩ (by simp [cellsN]))
  exact .mk h2 h3 fun p hp => ih p hp (h4 p hp)

/-- Counting ends. -/
theorem f43a (t : Tag) (ht : t.Wf) (a b : Int) : ∀ (m k : Nat) (c : Int), t.names.length - k = m → ∃ c', n_43l3 (a, b, c, (k : Int), t, ()) = some (a, b, c', t, ()) := by
  intro m
  induction m with
  | zero =>
    intro k c hk
    have hlt : ¬ k < t.names.length := by omega
    obtain ⟨hd, g1⟩ := at_end hlt
    rw [n_43l3]
    simp only [Option.bind_eq_bind, Option.bind_some, Option.bind_none, if_true, if_false, Bool.false_eq_true, Bool.true_eq_false, Int.toNat_natCast, Int.natCast_nonneg, beq_iff_eq, decide_eq_true_eq, Int.ofNat_lt, hlt]
    exact ⟨_, rfl⟩
  | succ m ih =>
    intro k c hk
    have hlt : k < t.names.length := by omega
    obtain ⟨p, hp1, hm, hd, g1, g2⟩ := at_lt hlt
    rw [n_43l3]
    simp only [Option.bind_eq_bind, Option.bind_some, Option.bind_none, if_true, if_false, Bool.false_eq_true, Bool.true_eq_false, Int.toNat_natCast, Int.natCast_nonneg, beq_iff_eq, decide_eq_true_eq, Int.ofNat_lt, g1, g2, hlt, hp1, wrap_succ hlt ht.names]
    exact ih (k + 1) _ (by omega)

theorem f43b (t : Tag) (ht : t.Wf) (hp : ∀ p ∈ t.parts, ∃ x, n_43 (p, ()) = some x) : ∀ (m k : Nat) (a b c : Int), t.parts.length - k = m → ∃ x, n_43l7 (a, b, c, (k : Int), t, ()) = some x := by
  intro m
  induction m with
  | zero =>
    intro k a b c hk
    have hlt : ¬ k < t.parts.length := by omega
    obtain ⟨hd, g1⟩ := at_end hlt
    rw [n_43l7]
    simp only [Option.bind_eq_bind, Option.bind_some, Option.bind_none, if_true, if_false, Bool.false_eq_true, Bool.true_eq_false, Int.toNat_natCast, Int.natCast_nonneg, beq_iff_eq, decide_eq_true_eq, Int.ofNat_lt, hlt]
    exact ⟨_, rfl⟩
  | succ m ih =>
    intro k a b c hk
    have hlt : k < t.parts.length := by omega
    obtain ⟨p, hp1, hm, hd, g1, g2⟩ := at_lt hlt
    obtain ⟨x, hx⟩ := hp p hm
    rw [n_43l7]
    simp only [Option.bind_eq_bind, Option.bind_some, Option.bind_none, if_true, if_false, Bool.false_eq_true, Bool.true_eq_false, Int.toNat_natCast, Int.natCast_nonneg, beq_iff_eq, decide_eq_true_eq, Int.ofNat_lt, g1, g2, hlt, hp1, hx, wrap_succ hlt ht.parts]
    exact ih (k + 1) _ _ _ (by omega)

theorem f43 : ∀ t : Tag, t.Wf → ∃ x, n_43 (t, ()) = some x := by
  refine Tag.ind fun t ih ht => ?_
  obtain ⟨c, hc⟩ := f43a t ht 1 0 _ 0 (t.text.size : Int) rfl
  obtain ⟨x, hx⟩ := f43b t ht (fun p hp => ih p hp (ht.part hp)) _ 0 1 0 c rfl
  simp only [Int.natCast_zero, Int.ofNat_eq_natCast, List.drop_zero] at hc hx
  rw [n_43]
  simp only [Option.bind_eq_bind, Option.bind_some, Option.bind_none, if_true, if_false, Bool.false_eq_true, Bool.true_eq_false, Int.toNat_natCast, Int.natCast_nonneg, beq_iff_eq, decide_eq_true_eq, Int.ofNat_lt, hc, hx]
  exact ⟨_, rfl⟩

theorem f13 (t : Tag) (ht : t.Wf) : ∃ b, n_13 (t, ()) = some (b, ()) := by
  obtain ⟨x, hx⟩ := f43 t ht
  unfold n_13
  simp only [hx, Option.bind_eq_bind, Option.bind_some, Option.bind_none, if_true, if_false, Bool.false_eq_true, Bool.true_eq_false, Int.toNat_natCast, Int.natCast_nonneg, beq_iff_eq, decide_eq_true_eq, Int.ofNat_lt]
  split
  · exact ⟨_, rfl⟩
  · split
    · exact ⟨_, rfl⟩
    · exact ⟨_, rfl⟩

/-- Names, both ways. -/
theorem f47l (a b : List ByteArray) (h : a.length = b.length) (ha : a.length ≤ 9223372036854775807) : ∀ (m k : Nat), a.length - k = m →
    ∃ o, n_47l4 (a, b, (a.length : Int), (k : Int), ()) = some o ∧ n_42l4 (a, b, (k : Int), ()) = some o ∧ (a = b → o = .inr ()) := by
  intro m
  induction m with
  | zero =>
    intro k hk
    have hlt : ¬ k < a.length := by omega
    rw [n_47l4, n_42l4]
    simp only [Option.bind_eq_bind, Option.bind_some, Option.bind_none, if_true, if_false, Bool.false_eq_true, Bool.true_eq_false, Int.toNat_natCast, Int.natCast_nonneg, beq_iff_eq, decide_eq_true_eq, Int.ofNat_lt, hlt]
    exact ⟨_, rfl, rfl, fun _ => rfl⟩
  | succ m ih =>
    intro k hk
    have hlt : k < a.length := by omega
    obtain ⟨p, hp1, _, hd, g1, g2⟩ := at_lt hlt
    obtain ⟨q, hq1, _, _, _, _⟩ := at_lt (xs := b) (k := k) (by omega)
    obtain ⟨o, h1, h2, h3⟩ := ih (k + 1) (by omega)
    rw [n_47l4, n_42l4]
    simp only [Option.bind_eq_bind, Option.bind_some, Option.bind_none, if_true, if_false, Bool.false_eq_true, Bool.true_eq_false, Int.toNat_natCast, Int.natCast_nonneg, beq_iff_eq, decide_eq_true_eq, Int.ofNat_lt, g1, g2, hlt, hp1, hq1, wrap_succ hlt ha]
    by_cases e : p.toList = q.toList
    · simp only [e, BEq.rfl, Bool.not_true, Option.bind_eq_bind, Option.bind_some, Option.bind_none, if_true, if_false, Bool.false_eq_true, Bool.true_eq_false, Int.toNat_natCast, Int.natCast_nonneg, beq_iff_eq, decide_eq_true_eq, Int.ofNat_lt, h1, h2]
      exact ⟨o, rfl, rfl, h3⟩
    · simp only [e, Option.bind_eq_bind, Option.bind_some, Option.bind_none, if_true, if_false, Bool.false_eq_true, Bool.true_eq_false, Int.toNat_natCast, Int.natCast_nonneg, beq_iff_eq, decide_eq_true_eq, Int.ofNat_lt, beq_eq_false_iff_ne.2 e, Bool.not_false]
      refine ⟨_, rfl, rfl, fun hab => ?_⟩
      subst hab
      rw [hp1] at hq1
      cases hq1
      exact (e rfl).elim

theorem f47 (a b : List ByteArray) (ha : a.length ≤ 9223372036854775807) : ∃ r, n_47 (a, b, ()) = some (r, ()) ∧ n_42 (a, b, ()) = some (r, ()) ∧ (a = b → r = true) := by
  unfold n_47 n_42
  by_cases h : a.length = b.length
  · obtain ⟨o, h1, h2, h3⟩ := f47l a b h ha _ 0 rfl
    simp only [Int.natCast_zero, Int.ofNat_eq_natCast, List.drop_zero] at h1 h2
    have e : ((a.length : Int) != (b.length : Int)) = false := by simp [h]
    simp only [e, Option.bind_eq_bind, Option.bind_some, Option.bind_none, if_true, if_false, Bool.false_eq_true, Bool.true_eq_false, Int.toNat_natCast, Int.natCast_nonneg, beq_iff_eq, decide_eq_true_eq, Int.ofNat_lt, h1, h2]
    match o, h3 with
    | .inl y, h3 => exact ⟨y.1, rfl, rfl, fun e => by have := h3 e; cases this⟩
    | .inr y, _ => exact ⟨_, rfl, rfl, fun _ => rfl⟩
  · have e : ((a.length : Int) != (b.length : Int)) = true := by simp; omega
    simp only [e, Option.bind_eq_bind, Option.bind_some, Option.bind_none, if_true, if_false, Bool.false_eq_true, Bool.true_eq_false, Int.toNat_natCast, Int.natCast_nonneg, beq_iff_eq, decide_eq_true_eq, Int.ofNat_lt]
    exact ⟨_, rfl, rfl, fun hab => (h (by rw [hab])).elim⟩

theorem f48l (a b : Tag) (h : a.parts.length = b.parts.length) (ha : a.Wf) (hp : ∀ p ∈ a.parts, ∀ q, ∃ r, n_19 (p, q, ()) = some (r, ()) ∧ n_18 (p, q, ()) = some (r, ()) ∧ (p = q → r = true)) : ∀ (m k : Nat), a.parts.length - k = m →
    ∃ o, n_48c19l4 (b.parts, a.parts, (a.parts.length : Int), (k : Int), ()) = some o ∧ n_18l4 ((k : Int), a, b, ()) = some o ∧ (a = b → o = .inr ()) := by
  intro m
  induction m with
  | zero =>
    intro k hk
    have hlt : ¬ k < a.parts.length := by omega
    rw [n_48c19l4, n_18l4]
    simp only [Option.bind_eq_bind, Option.bind_some, Option.bind_none, if_true, if_false, Bool.false_eq_true, Bool.true_eq_false, Int.toNat_natCast, Int.natCast_nonneg, beq_iff_eq, decide_eq_true_eq, Int.ofNat_lt, hlt]
    exact ⟨_, rfl, rfl, fun _ => rfl⟩
  | succ m ih =>
    intro k hk
    have hlt : k < a.parts.length := by omega
    obtain ⟨p, hp1, hm, hd, g1, g2⟩ := at_lt hlt
    obtain ⟨q, hq1, _, _, _, _⟩ := at_lt (xs := b.parts) (k := k) (by omega)
    obtain ⟨o, h1, h2, h3⟩ := ih (k + 1) (by omega)
    obtain ⟨r, r1, r2, r3⟩ := hp p hm q
    rw [n_48c19l4, n_18l4]
    simp only [Option.bind_eq_bind, Option.bind_some, Option.bind_none, if_true, if_false, Bool.false_eq_true, Bool.true_eq_false, Int.toNat_natCast, Int.natCast_nonneg, beq_iff_eq, decide_eq_true_eq, Int.ofNat_lt, g1, g2, hlt, hp1, hq1, r1, r2, wrap_succ hlt ha.parts]
    cases r with
    | true =>
      simp only [Bool.not_true, Option.bind_eq_bind, Option.bind_some, Option.bind_none, if_true, if_false, Bool.false_eq_true, Bool.true_eq_false, Int.toNat_natCast, Int.natCast_nonneg, beq_iff_eq, decide_eq_true_eq, Int.ofNat_lt, h1, h2]
      exact ⟨o, rfl, rfl, h3⟩
    | false =>
      simp only [Bool.not_false, Option.bind_eq_bind, Option.bind_some, Option.bind_none, if_true, if_false, Bool.false_eq_true, Bool.true_eq_false, Int.toNat_natCast, Int.natCast_nonneg, beq_iff_eq, decide_eq_true_eq, Int.ofNat_lt]
      refine ⟨_, rfl, rfl, fun hab => ?_⟩
      subst hab
      rw [hp1] at hq1
      cases hq1
      have := r3 rfl
      cases this

theorem f19 : ∀ a : Tag, a.Wf → ∀ b : Tag, ∃ r, n_19 (a, b, ()) = some (r, ()) ∧ n_18 (a, b, ()) = some (r, ()) ∧ (a = b → r = true) := by
  refine Tag.ind fun a ih ha b => ?_
  rw [n_19, n_18]
  by_cases h1 : a.kind = b.kind
  · by_cases h2 : a.n = b.n
    · by_cases h3 : a.text.toList = b.text.toList
      · obtain ⟨r, r1, r2, r3⟩ := f47 a.names b.names ha.names
        have e1 : (a.kind != b.kind) = false := by simp [h1]
        have e2 : (a.n != b.n) = false := by simp [h2]
        simp only [h1, h2, h3, bne_self_eq_false, BEq.rfl, Bool.not_true, Option.bind_eq_bind, Option.bind_some, Option.bind_none, if_true, if_false, Bool.false_eq_true, Bool.true_eq_false, Int.toNat_natCast, Int.natCast_nonneg, beq_iff_eq, decide_eq_true_eq, Int.ofNat_lt, r1, r2]
        cases r with
        | false =>
          simp only [Bool.not_false, Option.bind_eq_bind, Option.bind_some, Option.bind_none, if_true, if_false, Bool.false_eq_true, Bool.true_eq_false, Int.toNat_natCast, Int.natCast_nonneg, beq_iff_eq, decide_eq_true_eq, Int.ofNat_lt]
          exact ⟨_, rfl, rfl, fun hab => by have := r3 (by rw [hab]); cases this⟩
        | true =>
          simp only [Bool.not_true, Option.bind_eq_bind, Option.bind_some, Option.bind_none, if_true, if_false, Bool.false_eq_true, Bool.true_eq_false, Int.toNat_natCast, Int.natCast_nonneg, beq_iff_eq, decide_eq_true_eq, Int.ofNat_lt]
          rw [n_48c19]
          by_cases h4 : a.parts.length = b.parts.length
          · obtain ⟨o, o1, o2, o3⟩ := f48l a b h4 ha (fun p hp => ih p hp (ha.part hp)) _ 0 rfl
            simp only [Int.natCast_zero, Int.ofNat_eq_natCast, List.drop_zero] at o1 o2
            have e : ((a.parts.length : Int) != (b.parts.length : Int)) = false := by simp [h4]
            simp only [e, Option.bind_eq_bind, Option.bind_some, Option.bind_none, if_true, if_false, Bool.false_eq_true, Bool.true_eq_false, Int.toNat_natCast, Int.natCast_nonneg, beq_iff_eq, decide_eq_true_eq, Int.ofNat_lt, o1, o2]
            match o, o3 with
            | .inl y, o3 => exact ⟨y.1, rfl, rfl, fun e => by have := o3 e; cases this⟩
            | .inr y, _ => exact ⟨_, rfl, rfl, fun _ => rfl⟩
          · have e : ((a.parts.length : Int) != (b.parts.length : Int)) = true := by simp; omega
            simp only [e, Option.bind_eq_bind, Option.bind_some, Option.bind_none, if_true, if_false, Bool.false_eq_true, Bool.true_eq_false, Int.toNat_natCast, Int.natCast_nonneg, beq_iff_eq, decide_eq_true_eq, Int.ofNat_lt]
            exact ⟨_, rfl, rfl, fun hab => (h4 (by rw [hab])).elim⟩
      · have e1 : (a.kind != b.kind) = false := by simp [h1]
        have e2 : (a.n != b.n) = false := by simp [h2]
        simp only [h1, h2, h3, bne_self_eq_false, BEq.rfl, beq_eq_false_iff_ne.2 h3, Bool.not_false, Option.bind_eq_bind, Option.bind_some, Option.bind_none, if_true, if_false, Bool.false_eq_true, Bool.true_eq_false, Int.toNat_natCast, Int.natCast_nonneg, beq_iff_eq, decide_eq_true_eq, Int.ofNat_lt]
        exact ⟨_, rfl, rfl, fun hab => (h3 (by rw [hab])).elim⟩
    · have e1 : (a.kind != b.kind) = false := by simp [h1]
      have e2 : (a.n != b.n) = true := by simpa using h2
      simp only [e2, h1, h2, bne_self_eq_false, Option.bind_eq_bind, Option.bind_some, Option.bind_none, if_true, if_false, Bool.false_eq_true, Bool.true_eq_false, Int.toNat_natCast, Int.natCast_nonneg, beq_iff_eq, decide_eq_true_eq, Int.ofNat_lt]
      exact ⟨_, rfl, rfl, fun hab => (h2 (by rw [hab])).elim⟩
  · have e1 : (a.kind != b.kind) = true := by simpa using h1
    simp only [e1, h1, Option.bind_eq_bind, Option.bind_some, Option.bind_none, if_true, if_false, Bool.false_eq_true, Bool.true_eq_false, Int.toNat_natCast, Int.natCast_nonneg, beq_iff_eq, decide_eq_true_eq, Int.ofNat_lt]
    exact ⟨_, rfl, rfl, fun hab => (h1 (by rw [hab])).elim⟩

end Go.Proofs.YtdmggfegkaiaiaaGreatDoor
