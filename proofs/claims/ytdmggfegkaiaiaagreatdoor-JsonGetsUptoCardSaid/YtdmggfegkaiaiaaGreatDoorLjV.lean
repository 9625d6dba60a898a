/-
  Pieces of JSON in plain Lean: both answers to "is this valid" are the same.
-/
import Derived.Test.YtdmggfegkaiaiaaGreatDoorLjM
namespace Go.Proofs.YtdmggfegkaiaiaaGreatDoor
open Go.Awp Go.Tx
set_option linter.unusedSimpArgs false
set_option linter.unusedVariables false
set_option maxRecDepth 20000

abbrev big : Nat := 9223372036854775807

/-- What a machine can hold, of such a size. -/
inductive Tag.Fit (B : Nat) : Tag → Prop
  | mk {t : Tag} : t.text.size ≤ B → t.names.length ≤ B → (∀ s ∈ t.names, s.size ≤ B) → t.parts.length ≤ B → (∀ p ∈ t.parts, Tag.Fit B p) → Tag.Fit B t

section
variable {B : Nat} {t : Tag} (h : t.Fit B)
include h
theorem Tag.Fit.text : t.text.size ≤ B := by cases h; assumption
theorem Tag.Fit.names : t.names.length ≤ B := by cases h; assumption
theorem Tag.Fit.name {s : ByteArray} (hs : s ∈ t.names) : s.size ≤ B := by cases h with | mk _ _ h _ _ => exact h s hs
theorem Tag.Fit.parts : t.parts.length ≤ B := by cases h; assumption
theorem Tag.Fit.part {p : Tag} (hp : p ∈ t.parts) : p.Fit B := by cases h with | mk _ _ _ _ h => exact h p hp
end

theorem Tag.Fit.mono {B B' : Nat} (hB : B ≤ B') : ∀ t : Tag, t.Fit B → t.Fit B' :=
  Tag.ind fun t ih h => .mk (Nat.le_trans h.text hB) (Nat.le_trans h.names hB) (fun s hs => Nat.le_trans (h.name hs) hB) (Nat.le_trans h.parts hB) fun p hp => ih p hp (h.part hp)

theorem Tag.Fit.wf : ∀ t : Tag, t.Fit big → t.Wf := Tag.ind fun t ih h => .mk h.names h.parts fun p hp => ih p hp (h.part hp)

theorem ok_str {s : ByteArray} (h : Ok vw .str s) : s.size ≤ big := by
  cases h with
  | str h =>
    have hmx : (maxLen : Nat) = 9223372036854775807 := by decide
    rw [hmx] at h
    exact h

theorem fit_of_ok : ∀ t : Tag, Ok vw (.st .tagT) t → t.Fit big := by
  refine Tag.ind fun t ih h => ?_
  have hc := ok_st h
  have h1 := ok_str (hc ⟨.str, t.text⟩ (by simp [cellsN]))
  obtain ⟨h2, h2'⟩ := ok_sl (hc ⟨.sl .str, t.names⟩ (by simp [cellsN]))
  obtain ⟨h3, h4⟩ := ok_sl (hc ⟨.sl (.st .tagT), t.parts⟩ (by simp [cellsN]))
  exact .mk h1 h2 (fun s hs => ok_str (h2' s hs)) h3 fun p hp => ih p hp (h4 p hp)

theorem sum_ge {ns : List Nat} : ∀ {i n : Nat}, ns[i]? = some n → n ≤ ns.sum := by
  induction ns with
  | nil => intro i n h; simp at h
  | cons a r ih =>
    intro i n h
    cases i with
    | zero => simp at h; subst h; simp
    | succ i => have := ih (i := i) (by simpa using h); simp; omega

theorem sum_len {ns : List Nat} (h : ∀ n ∈ ns, 1 ≤ n) : ns.length ≤ ns.sum := by
  induction ns with
  | nil => simp
  | cons a r ih =>
    have h1 := h a List.mem_cons_self
    have h2 := ih fun n hn => h n (List.mem_cons_of_mem _ hn)
    simp; omega

theorem bk_pos {e : Ty vw.ι} {x : den vw.N e} {m : Nat} (h : Bk vw e x m) : 1 ≤ m := by
  cases h <;> omega

theorem bk_str {s : ByteArray} {m : Nat} (h : Bk vw .str s m) : s.size + 1 ≤ m := by
  cases h; assumption

theorem bk_sl {e : Ty SN} {xs : List (den NN e)} {m : Nat} (h : Bk vw (.sl e) xs m) : xs.length + 1 ≤ m ∧ ∀ x ∈ xs, ∃ n, n + 1 ≤ m ∧ Bk vw e x n := by
  cases h with
  | sl ns h1 h2 h3 =>
    have h1 : ns.length = xs.length := h1
    have hp : ∀ n ∈ ns, 1 ≤ n := fun n hn => by
      obtain ⟨i, hi⟩ := List.getElem?_of_mem hn
      obtain ⟨x, hx⟩ : ∃ x, xs[i]? = some x := ⟨_, List.getElem?_eq_getElem (by have := (List.getElem?_eq_some_iff.1 hi).1; omega)⟩
      exact bk_pos (h2 i x n hx hi)
    have := sum_len hp
    refine ⟨by omega, fun x hx => ?_⟩
    obtain ⟨i, hi⟩ := List.getElem?_of_mem hx
    obtain ⟨n, hn⟩ : ∃ n, ns[i]? = some n := ⟨_, List.getElem?_eq_getElem (by have := (List.getElem?_eq_some_iff.1 hi).1; omega)⟩
    exact ⟨n, by have := sum_ge hn; omega, h2 i x n hi hn⟩

theorem bk_st {i : SN} {x : NN i} {m : Nat} (h : Bk vw (.st i) x m) : ∀ l ∈ cellsN i x, ∃ n, n + 1 ≤ m ∧ Bk vw l.t l.x n := by
  cases h with
  | st ns h1 h2 h3 =>
    intro l hl
    obtain ⟨j, hj⟩ := List.getElem?_of_mem hl
    have h1 : ns.length = (cellsN i x).length := h1
    obtain ⟨n, hn⟩ : ∃ n, ns[j]? = some n := ⟨_, List.getElem?_eq_getElem (by have := (List.getElem?_eq_some_iff.1 hj).1; omega)⟩
    exact ⟨n, by have := sum_ge hn; omega, h2 j l n hj hn⟩

/-- A piece whose reading is small fits. -/
theorem fit_of_bk {B : Nat} : ∀ (t : Tag) (m : Nat), m ≤ B → Bk vw (.st .tagT) t m → t.Fit B := by
  refine Tag.ind fun t ih m hm h => ?_
  have hc := bk_st h
  obtain ⟨n1, l1, h1⟩ := hc ⟨.str, t.text⟩ (by simp [cellsN])
  obtain ⟨n2, l2, h2⟩ := hc ⟨.sl .str, t.names⟩ (by simp [cellsN])
  obtain ⟨n3, l3, h3⟩ := hc ⟨.sl (.st .tagT), t.parts⟩ (by simp [cellsN])
  have a1 : t.text.size + 1 ≤ n1 := bk_str h1
  obtain ⟨a2, b2⟩ := bk_sl (e := .str) (xs := t.names) h2
  obtain ⟨a3, b3⟩ := bk_sl (e := .st .tagT) (xs := t.parts) h3
  refine .mk (by omega) (by omega) (fun s hs => ?_) (by omega) fun p hp => ?_
  · obtain ⟨n, l, h⟩ := b2 s hs
    have := bk_str h
    omega
  · obtain ⟨n, l, h⟩ := b3 p hp
    exact ih p hp n (by omega) h

/-- Counting, both ways. -/
theorem f58a (t : Tag) (ht : t.Fit big) (y : Size) (a b : Int) : ∀ (m k : Nat) (c : Int), t.names.length - k = m →
    ∃ c', n_43l3 (1, 0, c, (k : Int), t, ()) = some (1, 0, c', t, ()) ∧ n_58l3 (t.names, (t.names.length : Int), (k : Int), t, y, ⟨a, b, c⟩, ()) = some (t, y, ⟨a, b, c'⟩, ()) := by
  intro m
  induction m with
  | zero =>
    intro k c hk
    have hlt : ¬ k < t.names.length := by omega
    rw [n_43l3, n_58l3]
    simp only [Option.bind_eq_bind, Option.bind_some, Option.bind_none, if_true, if_false, Bool.false_eq_true, Bool.true_eq_false, Int.toNat_natCast, Int.natCast_nonneg, beq_iff_eq, decide_eq_true_eq, Int.ofNat_lt, hlt]
    exact ⟨_, rfl, rfl⟩
  | succ m ih =>
    intro k c hk
    have hlt : k < t.names.length := by omega
    obtain ⟨p, hp1, hm, hd, g1, g2⟩ := at_lt hlt
    rw [n_43l3, n_58l3]
    simp only [Option.bind_eq_bind, Option.bind_some, Option.bind_none, if_true, if_false, Bool.false_eq_true, Bool.true_eq_false, Int.toNat_natCast, Int.natCast_nonneg, beq_iff_eq, decide_eq_true_eq, Int.ofNat_lt, g1, g2, hlt, hp1, wrap_succ hlt ht.names]
    exact ih (k + 1) _ (by omega)

theorem f58b (t : Tag) (ht : t.Fit big) (y : Size) (hp : ∀ p ∈ t.parts, ∃ a d s, n_43 (p, ()) = some (a, d, s, ()) ∧ n_58 (p, ()) = some (⟨d, a, s⟩, ())) : ∀ (m k : Nat) (a b c : Int), t.parts.length - k = m →
    ∃ a' b' c', n_43l7 (a, b, c, (k : Int), t, ()) = some (a', b', c', ()) ∧ n_58l8 (t.parts, (t.parts.length : Int), (k : Int), y, ⟨b, a, c⟩, ()) = some (y, ⟨b', a', c'⟩, ()) := by
  intro m
  induction m with
  | zero =>
    intro k a b c hk
    have hlt : ¬ k < t.parts.length := by omega
    rw [n_43l7, n_58l8]
    simp only [Option.bind_eq_bind, Option.bind_some, Option.bind_none, if_true, if_false, Bool.false_eq_true, Bool.true_eq_false, Int.toNat_natCast, Int.natCast_nonneg, beq_iff_eq, decide_eq_true_eq, Int.ofNat_lt, hlt]
    exact ⟨_, _, _, rfl, rfl⟩
  | succ m ih =>
    intro k a b c hk
    have hlt : k < t.parts.length := by omega
    obtain ⟨p, hp1, hm, hd, g1, g2⟩ := at_lt hlt
    obtain ⟨a1, d1, s1, e1, e2⟩ := hp p hm
    rw [n_43l7, n_58l8]
    simp only [Option.bind_eq_bind, Option.bind_some, Option.bind_none, if_true, if_false, Bool.false_eq_true, Bool.true_eq_false, Int.toNat_natCast, Int.natCast_nonneg, beq_iff_eq, decide_eq_true_eq, Int.ofNat_lt, g1, g2, hlt, hp1, e1, e2, wrap_succ hlt ht.parts]
    exact ih (k + 1) _ _ _ (by omega)

theorem f58 : ∀ t : Tag, t.Fit big → ∃ a d s, n_43 (t, ()) = some (a, d, s, ()) ∧ n_58 (t, ()) = some (⟨d, a, s⟩, ()) := by
  refine Tag.ind fun t ih ht => ?_
  obtain ⟨c, h1, h2⟩ := f58a t ht ⟨0, 0, 0⟩ 0 1 _ 0 (t.text.size : Int) rfl
  obtain ⟨a', b', c', h3, h4⟩ := f58b t ht ⟨0, 0, 0⟩ (fun p hp => ih p hp (ht.part hp)) _ 0 1 0 c rfl
  simp only [Int.natCast_zero, Int.ofNat_eq_natCast, List.drop_zero] at h1 h2 h3 h4
  rw [n_43, n_58]
  simp only [Option.bind_eq_bind, Option.bind_some, Option.bind_none, if_true, if_false, Bool.false_eq_true, Bool.true_eq_false, Int.toNat_natCast, Int.natCast_nonneg, beq_iff_eq, decide_eq_true_eq, Int.ofNat_lt, h1, h2, h3, h4]
  exact ⟨_, _, _, rfl, rfl⟩

/-- Texts that are valid. -/
theorem f87 {s : ByteArray} (h : s.size ≤ big) : n_87 (s, ()) = some (Lib.validD s.data.toList, ()) := by
  unfold n_87
  rw [if_pos h]
theorem f86 {s : ByteArray} (h : s.size ≤ big) : n_86 (s, ()) = some (!Lib.validD s.data.toList, ()) := by
  unfold n_86
  simp only [f87 h, Option.bind_eq_bind, Option.bind_some, Option.bind_none, if_true, if_false, Bool.false_eq_true, Bool.true_eq_false, Int.toNat_natCast, Int.natCast_nonneg, beq_iff_eq, decide_eq_true_eq, Int.ofNat_lt]

theorem f88l (t : Tag) (ht : t.Fit big) : ∀ (m k : Nat), t.names.length - k = m → ∃ o : Option Nat,
    n_117c86l2 (t.names, (t.names.length : Int), (k : Int), ()) = some (match o with | some i => .inl ((i : Int), ()) | none => .inr ()) ∧ n_63l6 ((k : Int), t, ()) = some (match o with | some _ => .inl (false, ()) | none => .inr (t, ())) := by
  intro m
  induction m with
  | zero =>
    intro k hk
    have hlt : ¬ k < t.names.length := by omega
    rw [n_117c86l2, n_63l6]
    simp only [Option.bind_eq_bind, Option.bind_some, Option.bind_none, if_true, if_false, Bool.false_eq_true, Bool.true_eq_false, Int.toNat_natCast, Int.natCast_nonneg, beq_iff_eq, decide_eq_true_eq, Int.ofNat_lt, hlt]
    exact ⟨none, rfl, rfl⟩
  | succ m ih =>
    intro k hk
    have hlt : k < t.names.length := by omega
    obtain ⟨p, hp1, hm, hd, g1, g2⟩ := at_lt hlt
    rw [n_117c86l2, n_63l6]
    simp only [Option.bind_eq_bind, Option.bind_some, Option.bind_none, if_true, if_false, Bool.false_eq_true, Bool.true_eq_false, Int.toNat_natCast, Int.natCast_nonneg, beq_iff_eq, decide_eq_true_eq, Int.ofNat_lt, g1, g2, hlt, hp1, f86 (ht.name hm), f87 (ht.name hm), wrap_succ hlt ht.names]
    cases Lib.validD p.data.toList with
    | true => simp only [Bool.not_true, Option.bind_eq_bind, Option.bind_some, Option.bind_none, if_true, if_false, Bool.false_eq_true, Bool.true_eq_false, Int.toNat_natCast, Int.natCast_nonneg, beq_iff_eq, decide_eq_true_eq, Int.ofNat_lt]; exact ih (k + 1) (by omega)
    | false => simp only [Bool.not_false, Option.bind_eq_bind, Option.bind_some, Option.bind_none, if_true, if_false, Bool.false_eq_true, Bool.true_eq_false, Int.toNat_natCast, Int.natCast_nonneg, beq_iff_eq, decide_eq_true_eq, Int.ofNat_lt]; exact ⟨some k, rfl, rfl⟩

theorem f88 (t : Tag) (ht : t.Fit big) : ∃ b, n_88c86 (t.names, ()) = some (b, ()) ∧ n_63l6 (0, t, ()) = some (if b = true then .inl (false, ()) else .inr (t, ())) := by
  obtain ⟨o, h1, h2⟩ := f88l t ht _ 0 rfl
  simp only [Int.natCast_zero, Int.ofNat_eq_natCast, List.drop_zero] at h1 h2
  unfold n_88c86 n_117c86
  cases o with
  | none => simp only [h1, h2, Option.bind_eq_bind, Option.bind_some, Option.bind_none, if_true, if_false, Bool.false_eq_true, Bool.true_eq_false, Int.toNat_natCast, Int.natCast_nonneg, beq_iff_eq, decide_eq_true_eq, Int.ofNat_lt]; exact ⟨_, rfl, rfl⟩
  | some i => simp only [h1, h2, Option.bind_eq_bind, Option.bind_some, Option.bind_none, if_true, if_false, Bool.false_eq_true, Bool.true_eq_false, Int.toNat_natCast, Int.natCast_nonneg, beq_iff_eq, decide_eq_true_eq, Int.ofNat_lt]; exact ⟨_, rfl, by simp⟩

/-- What is known of a right piece. -/
inductive Tag.Right : Tag → Prop
  | mk {t : Tag} : (t.kind ≠ 6 → t.names = []) → (t.kind = 6 → t.names.length = t.parts.length) → (∀ p ∈ t.parts, Tag.Right p) → Tag.Right t
theorem Tag.Right.none {t : Tag} (h : t.Right) (hk : t.kind ≠ 6) : t.names = [] := by cases h with | mk h _ _ => exact h hk
theorem Tag.Right.len {t : Tag} (h : t.Right) (hk : t.kind = 6) : t.names.length = t.parts.length := by cases h with | mk _ h _ => exact h hk
theorem Tag.Right.part {t p : Tag} (h : t.Right) (hp : p ∈ t.parts) : p.Right := by cases h with | mk _ _ h => exact h p hp

theorem f61l (t : Tag) (ht : t.Fit big) (hp : ∀ p ∈ t.parts, ∃ b, n_61 (p, ()) = some (b, ()) ∧ n_63 (p, ()) = some (b, ()) ∧ (b = true → p.Right)) : ∀ (m k : Nat), t.parts.length - k = m → ∃ o : Option Nat,
    n_118c90l2 (t.parts, (t.parts.length : Int), (k : Int), ()) = some (match o with | some i => .inl ((i : Int), ()) | none => .inr ()) ∧ n_63l11 ((k : Int), t, ()) = some (match o with | some _ => .inl (false, ()) | none => .inr ()) ∧ (o = none → ∀ p ∈ t.parts.drop k, p.Right) := by
  intro m
  induction m with
  | zero =>
    intro k hk
    have hlt : ¬ k < t.parts.length := by omega
    rw [n_118c90l2, n_63l11]
    simp only [Option.bind_eq_bind, Option.bind_some, Option.bind_none, if_true, if_false, Bool.false_eq_true, Bool.true_eq_false, Int.toNat_natCast, Int.natCast_nonneg, beq_iff_eq, decide_eq_true_eq, Int.ofNat_lt, hlt]
    refine ⟨.none, rfl, rfl, fun _ p hp => ?_⟩
    rw [(at_end hlt).1] at hp; cases hp
  | succ m ih =>
    intro k hk
    have hlt : k < t.parts.length := by omega
    obtain ⟨p, hp1, hm, hd, g1, g2⟩ := at_lt hlt
    obtain ⟨b, e1, e2, e3⟩ := hp p hm
    have e4 : n_90 (p, ()) = some (!b, ()) := by
      rw [n_90]
      simp only [e1, Option.bind_eq_bind, Option.bind_some, Option.bind_none, if_true, if_false, Bool.false_eq_true, Bool.true_eq_false, Int.toNat_natCast, Int.natCast_nonneg, beq_iff_eq, decide_eq_true_eq, Int.ofNat_lt]
    rw [n_118c90l2, n_63l11]
    simp only [Option.bind_eq_bind, Option.bind_some, Option.bind_none, if_true, if_false, Bool.false_eq_true, Bool.true_eq_false, Int.toNat_natCast, Int.natCast_nonneg, beq_iff_eq, decide_eq_true_eq, Int.ofNat_lt, g1, g2, hlt, hp1, e2, e4, wrap_succ hlt ht.parts]
    cases b with
    | true =>
      simp only [Bool.not_true, Option.bind_eq_bind, Option.bind_some, Option.bind_none, if_true, if_false, Bool.false_eq_true, Bool.true_eq_false, Int.toNat_natCast, Int.natCast_nonneg, beq_iff_eq, decide_eq_true_eq, Int.ofNat_lt]
      obtain ⟨o, o1, o2, o3⟩ := ih (k + 1) (by omega)
      refine ⟨o, o1, o2, fun ho q hq => ?_⟩
      rw [hd] at hq
      rcases List.mem_cons.1 hq with rfl | hq
      · exact e3 rfl
      · exact o3 ho q hq
    | false => simp only [Bool.not_false, Option.bind_eq_bind, Option.bind_some, Option.bind_none, if_true, if_false, Bool.false_eq_true, Bool.true_eq_false, Int.toNat_natCast, Int.natCast_nonneg, beq_iff_eq, decide_eq_true_eq, Int.ofNat_lt]; exact ⟨some k, rfl, rfl, fun h => by cases h⟩

theorem f61p (t : Tag) (ht : t.Fit big) (hp : ∀ p ∈ t.parts, ∃ b, n_61 (p, ()) = some (b, ()) ∧ n_63 (p, ()) = some (b, ()) ∧ (b = true → p.Right)) :
    ∃ b, n_89c90 (t.parts, ()) = some (b, ()) ∧ n_63l11 (0, t, ()) = some (if b = true then .inl (false, ()) else .inr ()) ∧ (b = false → ∀ p ∈ t.parts, p.Right) := by
  obtain ⟨o, h1, h2, h3⟩ := f61l t ht hp _ 0 rfl
  simp only [Int.natCast_zero, Int.ofNat_eq_natCast, List.drop_zero] at h1 h2 h3
  rw [n_89c90, n_118c90]
  cases o with
  | none => simp only [h1, h2, Option.bind_eq_bind, Option.bind_some, Option.bind_none, if_true, if_false, Bool.false_eq_true, Bool.true_eq_false, Int.toNat_natCast, Int.natCast_nonneg, beq_iff_eq, decide_eq_true_eq, Int.ofNat_lt]; exact ⟨_, rfl, rfl, fun _ => h3 rfl⟩
  | some i => simp only [h1, h2, Option.bind_eq_bind, Option.bind_some, Option.bind_none, if_true, if_false, Bool.false_eq_true, Bool.true_eq_false, Int.toNat_natCast, Int.natCast_nonneg, beq_iff_eq, decide_eq_true_eq, Int.ofNat_lt]; exact ⟨_, rfl, by simp, fun h => by simp at h⟩

end Go.Proofs.YtdmggfegkaiaiaaGreatDoor
