/-
  Pieces of JSON in plain Lean: right pieces, names that are there twice; both answers are the same.
-/
import Derived.Test.YtdmggfegkaiaiaaGreatDoorLjV
namespace Go.Proofs.YtdmggfegkaiaiaaGreatDoor
open Go.Awp Go.Tx
set_option linter.unusedSimpArgs false
set_option linter.unusedVariables false
set_option maxRecDepth 20000

theorem f61 : ∀ t : Tag, t.Fit big → ∃ b, n_61 (t, ()) = some (b, ()) ∧ n_63 (t, ()) = some (b, ()) ∧ (b = true → t.Right) := by
  refine Tag.ind fun t ih ht => ?_
  have e86 := f86 ht.text
  have e87 := f87 ht.text
  obtain ⟨bn, n1, n2⟩ := f88 t ht
  obtain ⟨bp, p1, p2, p3⟩ := f61p t ht fun p hp => ih p hp (ht.part hp)
  generalize Lib.validD t.text.data.toList = v at e86 e87
  rw [n_61, n_63]
  have bad : ∀ {x y : Option (Bool × Unit)}, x = some (false, ()) → y = some (false, ()) → ∃ b, x = some (b, ()) ∧ y = some (b, ()) ∧ (b = true → t.Right) := fun h1 h2 => ⟨false, h1, h2, fun h => by cases h⟩
  have good : ∀ {x y : Option (Bool × Unit)}, x = some (v && !bn && !bp, ()) → y = some (v && !bn && !bp, ()) → (t.kind ≠ 6 → t.names = []) → (t.kind = 6 → t.names.length = t.parts.length) → ∃ b, x = some (b, ()) ∧ y = some (b, ()) ∧ (b = true → t.Right) := fun h1 h2 h3 h4 =>
    ⟨_, h1, h2, fun h => .mk h3 h4 (p3 (by
      cases bp with
      | true => simp at h
      | false => rfl))⟩
  by_cases a1 : t.kind < 0
  · exact bad (by simp [a1]) (by simp [a1])
  by_cases a2 : t.kind > 6
  · exact bad (by simp [a1, a2]) (by simp [a1, a2])
  have hk : t.kind = 0 ∨ t.kind = 1 ∨ t.kind = 2 ∨ t.kind = 3 ∨ t.kind = 4 ∨ t.kind = 5 ∨ t.kind = 6 := by omega
  generalize (ByteArray.mk #[]).toList = X
  rcases hk with k | k | k | k | k | k | k
  · by_cases c1 : t.n = 0
    case neg => exact bad (by simp [List.length_pos_iff, k, c1]) (by simp [List.length_pos_iff, k, c1])
    by_cases c2 : t.text.toList = X
    case neg => exact bad (by simp [List.length_pos_iff, k, c1, c2]) (by simp [List.length_pos_iff, k, c1, c2])
    by_cases c4 : t.parts = []
    case neg => exact bad (by simp [List.length_pos_iff, k, c1, c2, c4]) (by simp [List.length_pos_iff, k, c1, c2, c4])
    by_cases c3 : t.names = []
    case neg => exact bad (by simp [List.length_pos_iff, k, c1, c2, c4, c3]) (by simp [List.length_pos_iff, k, c1, c2, c4, c3])
    rw [c3] at n1
    rw [c4] at p1
    exact good (by cases v <;> cases bn <;> cases bp <;> simp [List.length_pos_iff, k, c1, c2, c4, c3, e86, e87, n1, n2, p1, p2]) (by cases v <;> cases bn <;> cases bp <;> simp [List.length_pos_iff, k, c1, c2, c4, c3, e86, e87, n1, n2, p1, p2]) (fun _ => c3) (fun h => by omega)
  · by_cases c1 : t.n = 0
    case neg => exact bad (by simp [List.length_pos_iff, k, c1]) (by simp [List.length_pos_iff, k, c1])
    by_cases c2 : t.text.toList = X
    case neg => exact bad (by simp [List.length_pos_iff, k, c1, c2]) (by simp [List.length_pos_iff, k, c1, c2])
    by_cases c4 : t.parts = []
    case neg => exact bad (by simp [List.length_pos_iff, k, c1, c2, c4]) (by simp [List.length_pos_iff, k, c1, c2, c4])
    by_cases c3 : t.names = []
    case neg => exact bad (by simp [List.length_pos_iff, k, c1, c2, c4, c3]) (by simp [List.length_pos_iff, k, c1, c2, c4, c3])
    rw [c3] at n1
    rw [c4] at p1
    exact good (by cases v <;> cases bn <;> cases bp <;> simp [List.length_pos_iff, k, c1, c2, c4, c3, e86, e87, n1, n2, p1, p2]) (by cases v <;> cases bn <;> cases bp <;> simp [List.length_pos_iff, k, c1, c2, c4, c3, e86, e87, n1, n2, p1, p2]) (fun _ => c3) (fun h => by omega)
  · by_cases c1 : t.n = 0
    case neg => exact bad (by simp [List.length_pos_iff, k, c1]) (by simp [List.length_pos_iff, k, c1])
    by_cases c2 : t.text.toList = X
    case neg => exact bad (by simp [List.length_pos_iff, k, c1, c2]) (by simp [List.length_pos_iff, k, c1, c2])
    by_cases c4 : t.parts = []
    case neg => exact bad (by simp [List.length_pos_iff, k, c1, c2, c4]) (by simp [List.length_pos_iff, k, c1, c2, c4])
    by_cases c3 : t.names = []
    case neg => exact bad (by simp [List.length_pos_iff, k, c1, c2, c4, c3]) (by simp [List.length_pos_iff, k, c1, c2, c4, c3])
    rw [c3] at n1
    rw [c4] at p1
    exact good (by cases v <;> cases bn <;> cases bp <;> simp [List.length_pos_iff, k, c1, c2, c4, c3, e86, e87, n1, n2, p1, p2]) (by cases v <;> cases bn <;> cases bp <;> simp [List.length_pos_iff, k, c1, c2, c4, c3, e86, e87, n1, n2, p1, p2]) (fun _ => c3) (fun h => by omega)
  · by_cases c2 : t.text.toList = X
    case neg => exact bad (by simp [List.length_pos_iff, k, c2]) (by simp [List.length_pos_iff, k, c2])
    by_cases c4 : t.parts = []
    case neg => exact bad (by simp [List.length_pos_iff, k, c2, c4]) (by simp [List.length_pos_iff, k, c2, c4])
    by_cases c5 : t.n < -9007199254740992
    · by_cases c3 : t.names = []
      · exact bad (by simp [List.length_pos_iff, k, c2, c4, c5, c3]) (by simp [List.length_pos_iff, k, c2, c4, c5, c3])
      · exact bad (by simp [List.length_pos_iff, k, c2, c4, c5, c3]) (by simp [List.length_pos_iff, k, c2, c4, c5, c3])
    by_cases c6 : t.n > 9007199254740992
    · by_cases c3 : t.names = []
      · exact bad (by simp [List.length_pos_iff, k, c2, c4, c5, c6, c3]) (by simp [List.length_pos_iff, k, c2, c4, c5, c6, c3])
      · exact bad (by simp [List.length_pos_iff, k, c2, c4, c5, c6, c3]) (by simp [List.length_pos_iff, k, c2, c4, c5, c6, c3])
    by_cases c3 : t.names = []
    case neg => exact bad (by simp [List.length_pos_iff, k, c2, c4, c5, c6, c3]) (by simp [List.length_pos_iff, k, c2, c4, c5, c6, c3])
    rw [c3] at n1
    rw [c4] at p1
    exact good (by cases v <;> cases bn <;> cases bp <;> simp [List.length_pos_iff, k, c2, c4, c5, c6, c3, e86, e87, n1, n2, p1, p2]) (by cases v <;> cases bn <;> cases bp <;> simp [List.length_pos_iff, k, c2, c4, c5, c6, c3, e86, e87, n1, n2, p1, p2]) (fun _ => c3) (fun h => by omega)
  · by_cases c1 : t.n = 0
    case neg => exact bad (by simp [List.length_pos_iff, k, c1]) (by simp [List.length_pos_iff, k, c1])
    by_cases c4 : t.parts = []
    case neg => exact bad (by simp [List.length_pos_iff, k, c1, c4]) (by simp [List.length_pos_iff, k, c1, c4])
    by_cases c3 : t.names = []
    case neg => exact bad (by simp [List.length_pos_iff, k, c1, c4, c3]) (by simp [List.length_pos_iff, k, c1, c4, c3])
    rw [c3] at n1
    rw [c4] at p1
    exact good (by cases v <;> cases bn <;> cases bp <;> simp [List.length_pos_iff, k, c1, c4, c3, e86, e87, n1, n2, p1, p2]) (by cases v <;> cases bn <;> cases bp <;> simp [List.length_pos_iff, k, c1, c4, c3, e86, e87, n1, n2, p1, p2]) (fun _ => c3) (fun h => by omega)
  · by_cases c1 : t.n = 0
    case neg => exact bad (by simp [List.length_pos_iff, k, c1]) (by simp [List.length_pos_iff, k, c1])
    by_cases c2 : t.text.toList = X
    case neg => exact bad (by simp [List.length_pos_iff, k, c1, c2]) (by simp [List.length_pos_iff, k, c1, c2])
    by_cases c3 : t.names = []
    case neg => exact bad (by simp [List.length_pos_iff, k, c1, c2, c3]) (by simp [List.length_pos_iff, k, c1, c2, c3])
    rw [c3] at n1
    exact good (by cases v <;> cases bn <;> cases bp <;> simp [List.length_pos_iff, k, c1, c2, c3, e86, e87, n1, n2, p1, p2]) (by cases v <;> cases bn <;> cases bp <;> simp [List.length_pos_iff, k, c1, c2, c3, e86, e87, n1, n2, p1, p2]) (fun _ => c3) (fun h => by omega)
  · by_cases c1 : t.n = 0
    case neg => exact bad (by simp [List.length_pos_iff, k, c1]) (by simp [List.length_pos_iff, k, c1])
    by_cases c2 : t.text.toList = X
    case neg => exact bad (by simp [List.length_pos_iff, k, c1, c2]) (by simp [List.length_pos_iff, k, c1, c2])
    by_cases c7 : (t.names.length : Int) = (t.parts.length : Int)
    case neg => exact bad (by simp [List.length_pos_iff, k, c1, c2, c7]) (by cases v <;> simp [List.length_pos_iff, k, c1, c2, c7, e87])
    exact good (by cases v <;> cases bn <;> cases bp <;> simp [List.length_pos_iff, k, c1, c2, c7, e86, e87, n1, n2, p1, p2]) (by cases v <;> cases bn <;> cases bp <;> simp [List.length_pos_iff, k, c1, c2, c7, e86, e87, n1, n2, p1, p2]) (fun h => (h k).elim) (fun _ => by omega)

theorem tl_eq {a b : ByteArray} : a.toList = b.toList ↔ a = b := by
  constructor
  · intro h
    rw [ByteArray.toList_eq, ByteArray.toList_eq] at h
    obtain ⟨⟨a⟩⟩ := a
    obtain ⟨⟨b⟩⟩ := b
    simp only at h
    rw [h]
  · rintro rfl; rfl

theorem seq_iff {a b : ByteArray} : Mp.seq a b = true ↔ a = b := by
  obtain ⟨a⟩ := a
  obtain ⟨b⟩ := b
  show (a == b) = true ↔ _
  simp

theorem get_set (s x : ByteArray) (y : Bool) : ∀ es : List (ByteArray × Bool), Mp.get Mp.seq s (Mp.set Mp.seq x y es) = if s = x then some y else Mp.get Mp.seq s es
  | [] => by
    simp only [Mp.set, Mp.get, seq_iff]
  | p :: r => by
    simp only [Mp.set, seq_iff]
    by_cases h : x = p.1
    · rw [if_pos h]
      simp only [Mp.get, seq_iff]
      by_cases h2 : s = x
      · rw [if_pos h2, if_pos h2]
      · rw [if_neg h2, if_neg h2, if_neg (by rw [← h]; exact h2)]
    · rw [if_neg h]
      simp only [Mp.get, seq_iff]
      by_cases h2 : s = p.1
      · rw [if_pos h2, if_pos h2, if_neg (by rw [h2]; exact fun e => h e.symm)]
      · rw [if_neg h2, if_neg h2]
        exact get_set s x y r

/-- One name against those before it. -/
theorem f64a (t : Tag) (ht : t.Fit big) (i : Nat) (s : ByteArray) (hi : i < t.names.length) (hs : t.names[i]? = some s) : ∀ (m k : Nat), i - k = m →
    (s ∈ (t.names.take i).drop k → n_64l5 ((i : Int), (k : Int), t, ()) = some (.inl (true, ()))) ∧ (¬ s ∈ (t.names.take i).drop k → n_64l5 ((i : Int), (k : Int), t, ()) = some (.inr ((i : Int), t, ()))) := by
  intro m
  induction m with
  | zero =>
    intro k hk
    have hlt : ¬ k < i := by omega
    have hd : (t.names.take i).drop k = [] := List.drop_eq_nil_of_le (by simp; omega)
    rw [n_64l5, hd]
    simp [hlt]
  | succ m ih =>
    intro k hk
    have hlt : k < i := by omega
    obtain ⟨q, hq1, _, hd, _, _⟩ := at_lt (xs := t.names.take i) (k := k) (by simp; omega)
    have hq2 : t.names[k]? = some q := by
      rw [List.getElem?_take] at hq1
      simpa [hlt] using hq1
    have h0 : (0 : Int) ≤ (i : Int) := by omega
    have h1 : (0 : Int) ≤ (k : Int) := by omega
    have h2 : ((k : Int) < (i : Int)) := by omega
    rw [n_64l5, hd]
    simp only [Option.bind_eq_bind, Option.bind_some, Option.bind_none, if_true, if_false, Bool.false_eq_true, Bool.true_eq_false, Int.toNat_natCast, Int.natCast_nonneg, beq_iff_eq, decide_eq_true_eq, Int.ofNat_lt, h0, h1, h2, hs, hq2, wrap_succ hlt (Nat.le_trans (Nat.le_of_lt hi) ht.names), List.mem_cons]
    by_cases e : s = q
    · subst e
      simp
    · have e2 : ¬ (s.toList = q.toList) := fun h => e (tl_eq.1 h)
      simp only [e2, e, false_or, Option.bind_eq_bind, Option.bind_some, Option.bind_none, if_true, if_false, Bool.false_eq_true, Bool.true_eq_false, Int.toNat_natCast, Int.natCast_nonneg, beq_iff_eq, decide_eq_true_eq, Int.ofNat_lt]
      exact ih (k + 1) (by omega)

theorem f62l (t : Tag) (ht : t.Fit big) : ∀ (m k : Nat) (es : List (ByteArray × Bool)), t.names.length - k = m → (∀ s, (Mp.get Mp.seq s es).getD false = true ↔ s ∈ t.names.take k) →
    ∃ o : Bool, n_62l3 (t.names, (t.names.length : Int), (k : Int), t, es, ()) = some (if o = true then .inl (true, ()) else .inr (t, ())) ∧ n_64l2 ((k : Int), t, ()) = some (if o = true then .inl (true, ()) else .inr (t, ())) := by
  intro m
  induction m with
  | zero =>
    intro k es hk hes
    have hlt : ¬ k < t.names.length := by omega
    rw [n_62l3, n_64l2]
    simp only [Option.bind_eq_bind, Option.bind_some, Option.bind_none, if_true, if_false, Bool.false_eq_true, Bool.true_eq_false, Int.toNat_natCast, Int.natCast_nonneg, beq_iff_eq, decide_eq_true_eq, Int.ofNat_lt, hlt]
    exact ⟨false, by simp, by simp⟩
  | succ m ih =>
    intro k es hk hes
    have hlt : k < t.names.length := by omega
    obtain ⟨p, hp1, hm, hd, g1, g2⟩ := at_lt hlt
    have h64 := f64a t ht k p hlt hp1 _ 0 rfl
    simp only [Int.natCast_zero, Int.ofNat_eq_natCast, List.drop_zero] at h64
    have hes2 : ∀ s, (Mp.get Mp.seq s (Mp.set Mp.seq p true es)).getD false = true ↔ s ∈ t.names.take (k + 1) := by
      intro s
      rw [get_set, List.take_add_one, hp1]
      by_cases e : s = p
      · simp [e]
      · rw [if_neg e, hes s]
        simp [e]
    obtain ⟨o, o1, o2⟩ := ih (k + 1) _ (by omega) hes2
    rw [n_62l3, n_64l2]
    simp only [Option.bind_eq_bind, Option.bind_some, Option.bind_none, if_true, if_false, Bool.false_eq_true, Bool.true_eq_false, Int.toNat_natCast, Int.natCast_nonneg, beq_iff_eq, decide_eq_true_eq, Int.ofNat_lt, g1, g2, hlt, hp1, wrap_succ hlt ht.names]
    by_cases e : p ∈ t.names.take k
    · refine ⟨true, by rw [if_pos ((hes p).2 e)]; rfl, ?_⟩
      simp only [h64.1 e, Option.bind_eq_bind, Option.bind_some, Option.bind_none, if_true, if_false, Bool.false_eq_true, Bool.true_eq_false, Int.toNat_natCast, Int.natCast_nonneg, beq_iff_eq, decide_eq_true_eq, Int.ofNat_lt]
    · refine ⟨o, by rw [if_neg fun h => e ((hes p).1 h)]; exact o1, ?_⟩
      simp only [h64.2 e, Option.bind_eq_bind, Option.bind_some, Option.bind_none, if_true, if_false, Bool.false_eq_true, Bool.true_eq_false, Int.toNat_natCast, Int.natCast_nonneg, beq_iff_eq, decide_eq_true_eq, Int.ofNat_lt, wrap_succ hlt ht.names]
      exact o2

theorem f62p (t : Tag) (ht : t.Fit big) (hp : ∀ p ∈ t.parts, ∃ b, n_62 (p, ()) = some (b, ()) ∧ n_64 (p, ()) = some (b, ())) : ∀ (m k : Nat), t.parts.length - k = m → ∃ o : Option Nat,
    n_118c62l2 (t.parts, (t.parts.length : Int), (k : Int), ()) = some (match o with | some i => .inl ((i : Int), ()) | none => .inr ()) ∧ n_64l10 ((k : Int), t, ()) = some (match o with | some _ => .inl (true, ()) | none => .inr ()) := by
  intro m
  induction m with
  | zero =>
    intro k hk
    have hlt : ¬ k < t.parts.length := by omega
    rw [n_118c62l2, n_64l10]
    simp only [Option.bind_eq_bind, Option.bind_some, Option.bind_none, if_true, if_false, Bool.false_eq_true, Bool.true_eq_false, Int.toNat_natCast, Int.natCast_nonneg, beq_iff_eq, decide_eq_true_eq, Int.ofNat_lt, hlt]
    exact ⟨.none, rfl, rfl⟩
  | succ m ih =>
    intro k hk
    have hlt : k < t.parts.length := by omega
    obtain ⟨p, hp1, hm, hd, g1, g2⟩ := at_lt hlt
    obtain ⟨b, e1, e2⟩ := hp p hm
    rw [n_118c62l2, n_64l10]
    simp only [Option.bind_eq_bind, Option.bind_some, Option.bind_none, if_true, if_false, Bool.false_eq_true, Bool.true_eq_false, Int.toNat_natCast, Int.natCast_nonneg, beq_iff_eq, decide_eq_true_eq, Int.ofNat_lt, g1, g2, hlt, hp1, e1, e2, wrap_succ hlt ht.parts]
    cases b with
    | true => simp only [Option.bind_eq_bind, Option.bind_some, Option.bind_none, if_true, if_false, Bool.false_eq_true, Bool.true_eq_false, Int.toNat_natCast, Int.natCast_nonneg, beq_iff_eq, decide_eq_true_eq, Int.ofNat_lt]; exact ⟨some k, rfl, rfl⟩
    | false => simp only [Option.bind_eq_bind, Option.bind_some, Option.bind_none, if_true, if_false, Bool.false_eq_true, Bool.true_eq_false, Int.toNat_natCast, Int.natCast_nonneg, beq_iff_eq, decide_eq_true_eq, Int.ofNat_lt]; exact ih (k + 1) (by omega)

theorem f62 : ∀ t : Tag, t.Fit big → ∃ b, n_62 (t, ()) = some (b, ()) ∧ n_64 (t, ()) = some (b, ()) := by
  refine Tag.ind fun t ih ht => ?_
  obtain ⟨o, o1, o2⟩ := f62l t ht _ 0 [] rfl (fun s => by simp [Mp.get])
  obtain ⟨u, u1, u2⟩ := f62p t ht (fun p hp => ih p hp (ht.part hp)) _ 0 rfl
  simp only [Int.natCast_zero, Int.ofNat_eq_natCast, List.drop_zero] at o1 o2 u1 u2
  rw [n_62, n_64]
  cases o with
  | true => simp only [o1, o2, Option.bind_eq_bind, Option.bind_some, Option.bind_none, if_true, if_false, Bool.false_eq_true, Bool.true_eq_false, Int.toNat_natCast, Int.natCast_nonneg, beq_iff_eq, decide_eq_true_eq, Int.ofNat_lt]; exact ⟨_, rfl, rfl⟩
  | false =>
    simp only [o1, o2, Option.bind_eq_bind, Option.bind_some, Option.bind_none, if_true, if_false, Bool.false_eq_true, Bool.true_eq_false, Int.toNat_natCast, Int.natCast_nonneg, beq_iff_eq, decide_eq_true_eq, Int.ofNat_lt]
    rw [n_89c62, n_118c62]
    cases u with
    | none => simp only [u1, u2, Option.bind_eq_bind, Option.bind_some, Option.bind_none, if_true, if_false, Bool.false_eq_true, Bool.true_eq_false, Int.toNat_natCast, Int.natCast_nonneg, beq_iff_eq, decide_eq_true_eq, Int.ofNat_lt]; exact ⟨_, rfl, rfl⟩
    | some i => simp only [u1, u2, Option.bind_eq_bind, Option.bind_some, Option.bind_none, if_true, if_false, Bool.false_eq_true, Bool.true_eq_false, Int.toNat_natCast, Int.natCast_nonneg, beq_iff_eq, decide_eq_true_eq, Int.ofNat_lt]; exact ⟨_, rfl, by simp⟩

/-- VALIDITY, both ways. -/
theorem f29 (t : Tag) (ht : t.Fit big) : ∃ e, n_29 (t, ()) = some (e, ()) ∧ n_30 (t, ()) = some (e, ()) ∧ (e = 0 → t.Right) := by
  obtain ⟨a, d, s, c1, c2⟩ := f58 t ht
  obtain ⟨b, b1, b2, b3⟩ := f61 t ht
  obtain ⟨w, w1, w2⟩ := f62 t ht
  unfold n_29 n_30
  simp only [c1, c2, Option.bind_eq_bind, Option.bind_some, Option.bind_none, if_true, if_false, Bool.false_eq_true, Bool.true_eq_false, Int.toNat_natCast, Int.natCast_nonneg, beq_iff_eq, decide_eq_true_eq, Int.ofNat_lt]
  by_cases h1 : d > 20
  · refine ⟨3, by simp [h1], ?_, fun h => by omega⟩
    by_cases h2 : a > 500 <;> simp [h1, h2]
  · by_cases h2 : a > 500
    · exact ⟨3, by simp [h1, h2], by simp [h1, h2], fun h => by omega⟩
    · by_cases h3 : s > 4096
      · exact ⟨3, by simp [h1, h2, h3], by simp [h1, h2, h3], fun h => by omega⟩
      · cases b with
        | false => exact ⟨1, by simp [h1, h2, h3, b1], by simp [h1, h2, h3, b2], fun h => by omega⟩
        | true =>
          cases w with
          | true => exact ⟨5, by simp [h1, h2, h3, b1, w1], by simp [h1, h2, h3, b2, w2], fun h => by omega⟩
          | false => exact ⟨0, by simp [h1, h2, h3, b1, w1], by simp [h1, h2, h3, b2, w2], fun _ => b3 rfl⟩

end Go.Proofs.YtdmggfegkaiaiaaGreatDoor
