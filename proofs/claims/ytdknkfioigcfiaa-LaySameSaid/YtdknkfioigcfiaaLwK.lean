/-
  The law LayBits in plain Lean: the bits of packed parts, the holes of structs.
-/
import Derived.Test.YtdknkfioigcfiaaLwJ
namespace Go.Proofs.Ytdknkfioigcfiaa
set_option linter.unusedSimpArgs false
set_option linter.unusedVariables false
set_option maxRecDepth 20000

theorem sumBits_append : ∀ a b : List Layout, sumBits (a ++ b) = sumBits a + sumBits b
  | [], b => by simp [sumBits]
  | p :: r, b => by simp only [List.cons_append, sumBits, sumBits_append r b]; omega

theorem sumBits_take (ps : List Layout) (k : Nat) : 0 ≤ sumBits (ps.take k) ∧ sumBits (ps.take k) ≤ sumBits ps := by
  have h := sumBits_append (ps.take k) (ps.drop k)
  rw [List.take_append_drop] at h
  have := sumBits_nonneg (ps.take k)
  have := sumBits_nonneg (ps.drop k)
  omega

theorem sumBits_step {ps : List Layout} {k : Nat} {p : Layout} (h : ps[k]? = some p) : sumBits (ps.take (k + 1)) = sumBits (ps.take k) + bitsS p := by
  rw [List.take_add_one, h, sumBits_append]
  simp [sumBits]

/-- The bits of a part. -/
def bitS (l : Layout) (part : Int) : Int × Int × Int :=
  if valS l = 0 then
    if l.kind = 9 then
      match (if 0 ≤ part then l.parts[part.toNat]? else none) with
      | some p => (sumBits (l.parts.take part.toNat), bitsS p, 0)
      | none => (0, 0, 4)
    else (0, 0, 6)
  else (0, 0, valS l)

theorem val_right {l : Layout} (hl : l.Fits) (h : valS l = 0) : l.isS = true ∧ l.big = false := by
  have hv := val_of (w := 2) (.inl rfl) hl h
  exact ⟨hv.isS, hv.small⟩

theorem f27 (l : Layout) (part : Int) (hl : l.Fine) : n_27 (l, part, ()) = some ((bitS l part).1, (bitS l part).2.1, (bitS l part).2.2, ()) := by
  unfold n_27 bitS
  simp only [f20 l hl.fits hl.count hl.deep, Option.bind_eq_bind, Option.bind_some, Option.bind_none, if_true, if_false, Bool.false_eq_true, Bool.true_eq_false, Int.toNat_natCast, Int.natCast_nonneg, beq_iff_eq, decide_eq_true_eq, Int.ofNat_lt]
  by_cases h : valS l = 0
  rotate_left
  · simp [h]
  by_cases hk : l.kind = 9
  rotate_left
  · simp [h, hk]
  obtain ⟨hS, hB⟩ := val_right hl.fits h
  obtain ⟨k0, k12, k2, k4, k5, k7, k8, k9⟩ := right_kind hS hB
  have h9 := k9 hk
  simp only [h, hk, bne_self_eq_false, Option.bind_eq_bind, Option.bind_some, Option.bind_none, if_true, if_false, Bool.false_eq_true, Bool.true_eq_false, Int.toNat_natCast, Int.natCast_nonneg, beq_iff_eq, decide_eq_true_eq, Int.ofNat_lt]
  by_cases h0 : part < 0
  · have : ¬ 0 ≤ part := by omega
    simp [h0, this]
  have h0' : 0 ≤ part := by omega
  by_cases h1 : part ≥ (l.parts.length : Int)
  · have : l.parts[part.toNat]? = none := List.getElem?_eq_none (by omega)
    simp [h0, h0', h1, this]
  have hlt : part.toNat < l.parts.length := by omega
  obtain ⟨p, hp, hm, hd, _, _⟩ := at_lt hlt
  have hb := sumBits_take l.parts part.toNat
  have h55 := f55 ⟨0, 0, false, l.parts.take part.toNat⟩ (by simp; omega) (by simp only []; omega)
  have h2 : (0 : Int) ≤ 0 ∧ 0 ≤ part ∧ part ≤ (l.parts.length : Int) := by omega
  simp only [h0, h0', h1, h2, and_self, Option.bind_eq_bind, Option.bind_some, Option.bind_none, if_true, if_false, Bool.false_eq_true, Bool.true_eq_false, Int.toNat_natCast, Int.natCast_nonneg, beq_iff_eq, decide_eq_true_eq, Int.ofNat_lt, decide_false, h55, hp, f56]

theorem f28l (l : Layout) (hn : l.parts.length ≤ 100) (hb : sumBits l.parts ≤ 1000) (part : Nat) (hp : part ≤ l.parts.length) (k : Nat) (hk : k ≤ part) : n_28l10 ((part : Int), sumBits (l.parts.take k), (k : Int), l, ()) = some ((part : Int), sumBits (l.parts.take part), l, ()) := by
  rw [n_28l10]
  by_cases hlt : k < part
  · obtain ⟨p, hp1, hm, hd, g1, g2⟩ := at_lt (xs := l.parts) (k := k) (by omega)
    have hs := sumBits_step hp1
    have b1 := sumBits_take l.parts (k + 1)
    have e1 : IntKind.i64.wrap (sumBits (l.parts.take k) + bitsS p) = sumBits (l.parts.take (k + 1)) := by rw [hs]; exact wrap64 (by omega) (by omega)
    have e2 : IntKind.i64.wrap ((k : Int) + 1) = ((k + 1 : Nat) : Int) := wrap_succ (n := l.parts.length) (by omega) (by omega)
    simp only [Option.bind_eq_bind, Option.bind_some, Option.bind_none, if_true, if_false, Bool.false_eq_true, Bool.true_eq_false, Int.toNat_natCast, Int.natCast_nonneg, beq_iff_eq, decide_eq_true_eq, Int.ofNat_lt, hlt, hp1, f58, e1, e2]
    exact f28l l hn hb part hp (k + 1) (by omega)
  · have : k = part := by omega
    subst this
    simp only [Option.bind_eq_bind, Option.bind_some, Option.bind_none, if_true, if_false, Bool.false_eq_true, Bool.true_eq_false, Int.toNat_natCast, Int.natCast_nonneg, beq_iff_eq, decide_eq_true_eq, Int.ofNat_lt, hlt, Nat.lt_irrefl]
termination_by part - k

theorem f28 (l : Layout) (part : Int) (hl : l.Fine) : n_28 (l, part, ()) = some ((bitS l part).1, (bitS l part).2.1, (bitS l part).2.2, ()) := by
  unfold n_28 bitS
  simp only [f21 l hl.fits hl.count hl.deep, Option.bind_eq_bind, Option.bind_some, Option.bind_none, if_true, if_false, Bool.false_eq_true, Bool.true_eq_false, Int.toNat_natCast, Int.natCast_nonneg, beq_iff_eq, decide_eq_true_eq, Int.ofNat_lt]
  by_cases h : valS l = 0
  rotate_left
  · simp [h]
  by_cases hk : l.kind = 9
  rotate_left
  · simp [h, hk]
  obtain ⟨hS, hB⟩ := val_right hl.fits h
  obtain ⟨k0, k12, k2, k4, k5, k7, k8, k9⟩ := right_kind hS hB
  have h9 := k9 hk
  have e : IntKind.i64.wrap ((l.parts.length : Int) - 1) = (l.parts.length : Int) - 1 := wrap64 (by omega) (by omega)
  have h57 : n_57 (l, part, ()) = some (decide (0 ≤ part ∧ part ≤ (l.parts.length : Int) - 1), ()) := by
    unfold n_57
    simp only [hk, Option.bind_eq_bind, Option.bind_some, Option.bind_none, if_true, if_false, Bool.false_eq_true, Bool.true_eq_false, Int.toNat_natCast, Int.natCast_nonneg, beq_iff_eq, decide_eq_true_eq, Int.ofNat_lt, e, f62]
    simp
  simp only [h, hk, bne_self_eq_false, Option.bind_eq_bind, Option.bind_some, Option.bind_none, if_true, if_false, Bool.false_eq_true, Bool.true_eq_false, Int.toNat_natCast, Int.natCast_nonneg, beq_iff_eq, decide_eq_true_eq, Int.ofNat_lt, h57]
  by_cases h0 : 0 ≤ part
  rotate_left
  · have : ¬ (0 ≤ part ∧ part ≤ (l.parts.length : Int) - 1) := by omega
    simp [h0, this]
  by_cases h1 : part ≤ (l.parts.length : Int) - 1
  rotate_left
  · have h2 : l.parts[part.toNat]? = none := List.getElem?_eq_none (by omega)
    simp [h0, h1, h2]
  obtain ⟨k, rfl⟩ : ∃ k : Nat, part = k := ⟨part.toNat, by omega⟩
  obtain ⟨p, hp, hm, hd, _, _⟩ := at_lt (xs := l.parts) (k := k) (by omega)
  have hloop := f28l l (by omega) (by omega) k (by omega) 0 (by omega)
  simp only [List.take_zero, sumBits, Int.natCast_zero, Int.ofNat_eq_natCast, List.drop_zero] at hloop
  simp only [h0, h1, and_self, decide_true, Bool.not_true, Option.bind_eq_bind, Option.bind_some, Option.bind_none, if_true, if_false, Bool.false_eq_true, Bool.true_eq_false, Int.toNat_natCast, Int.natCast_nonneg, beq_iff_eq, decide_eq_true_eq, Int.ofNat_lt, hloop, hp, f58]

/-- Does a byte belong to a part? -/
def covL : List Int → List Layout → Int → Int → Bool
  | a :: r, p :: ps, w, b => decide (a ≤ b ∧ b ≤ a + (p.of w).1 - 1) || covL r ps w b
  | _, _, _, _ => false

/-- The numbers from k on that are not so. -/
def gaps (f : Int → Bool) : Nat → Nat → List Int
  | _, 0 => []
  | k, m + 1 => (if f k = true then [] else [(k : Int)]) ++ gaps f (k + 1) m

theorem gaps_len (f : Int → Bool) : ∀ k m, (gaps f k m).length ≤ m
  | _, 0 => by simp [gaps]
  | k, m + 1 => by
    have := gaps_len f (k + 1) m
    simp only [gaps, List.length_append]
    split <;> simp <;> omega

/-- The program marks the bytes of a part. -/
theorem f29a (AT : List Int) (i : Nat) (ps : List Layout) (len i' : Int) (t : Target) (a : Int) (ha : AT[i]? = some a) (ha0 : 0 ≤ a) (n : Nat) : ∀ (m k : Nat) (g : List Bool), n - k = m → a + n ≤ g.length → g.length ≤ 100000 → k ≤ n →
    ∃ g', n_29l10 (AT, i, ps, len, i', n, k, t, g, ()) = some (AT, ps, len, i', t, g', ()) ∧ g'.length = g.length ∧ ∀ j : Nat, g'.getD j false = (g.getD j false || decide (a + k ≤ (j : Int) ∧ (j : Int) < a + n)) := by
  intro m
  induction m with
  | zero =>
    intro k g hk h1 h2 h3
    have hlt : ¬ k < n := by omega
    refine ⟨g, ?_, rfl, fun j => ?_⟩
    · rw [n_29l10]
      simp only [Option.bind_eq_bind, Option.bind_some, Option.bind_none, if_true, if_false, Bool.false_eq_true, Bool.true_eq_false, Int.toNat_natCast, Int.natCast_nonneg, beq_iff_eq, decide_eq_true_eq, Int.ofNat_lt, hlt]
    · have : ¬ (a + k ≤ (j : Int) ∧ (j : Int) < a + n) := by omega
      simp [this]
  | succ m ih =>
    intro k g hk h1 h2 h3
    have hlt : k < n := by omega
    have e1 : IntKind.i64.wrap (a + (k : Int)) = a + k := wrap64 (by omega) (by omega)
    have e2 : IntKind.i64.wrap ((k : Int) + 1) = ((k + 1 : Nat) : Int) := wrap_succ hlt (by omega)
    have hb : 0 ≤ a + (k : Int) ∧ a + (k : Int) < g.length := by omega
    have hj : (a + (k : Int)).toNat < g.length := by omega
    obtain ⟨g', q1, q2, q3⟩ := ih (k + 1) (g.set (a + (k : Int)).toNat true) (by omega) (by simpa using h1) (by simpa using h2) (by omega)
    refine ⟨g', ?_, by simpa using q2, fun j => ?_⟩
    · rw [n_29l10]
      simp only [Option.bind_eq_bind, Option.bind_some, Option.bind_none, if_true, if_false, Bool.false_eq_true, Bool.true_eq_false, Int.toNat_natCast, Int.natCast_nonneg, beq_iff_eq, decide_eq_true_eq, Int.ofNat_lt, hlt, ha, e1, e2, hb, and_self, List.getElem?_eq_getElem hj]
      exact q1
    · rw [q3 j]
      by_cases hjk : j = (a + (k : Int)).toNat
      · subst hjk
        have c1 : (g.set (a + (k : Int)).toNat true).getD (a + (k : Int)).toNat false = true := by simp [List.getD, List.getElem?_set, hj]
        have c2 : a + (k : Int) ≤ ((a + (k : Int)).toNat : Int) ∧ (((a + (k : Int)).toNat : Nat) : Int) < a + n := by omega
        rw [c1, decide_eq_true c2, Bool.or_true, Bool.true_or]
      · have c1 : (g.set (a + (k : Int)).toNat true).getD j false = g.getD j false := by simp [List.getD, List.getElem?_set, Ne.symm hjk]
        rw [c1]
        congr 1
        exact decide_eq_decide.2 (by omega)

/-- What is known of where the parts stand. -/
def Fit (w size : Int) : List Int → List Layout → Prop
  | [], [] => True
  | a :: r, p :: ps => (0 ≤ a ∧ 0 ≤ (p.of w).1 ∧ a + (p.of w).1 ≤ size) ∧ Fit w size r ps
  | _, _ => False

theorem fit_at {w size : Int} : ∀ {AT : List Int} {ps : List Layout} {k : Nat} {p : Layout}, Fit w size AT ps → ps[k]? = some p → ∃ a, AT[k]? = some a ∧ 0 ≤ a ∧ 0 ≤ (p.of w).1 ∧ a + (p.of w).1 ≤ size ∧ AT.drop k = a :: AT.drop (k + 1)
  | a :: r, q :: ps, 0, p, h, hp => by
    simp at hp; subst hp
    exact ⟨a, rfl, h.1.1, h.1.2.1, h.1.2.2, rfl⟩
  | a :: r, q :: ps, k + 1, p, h, hp => by
    obtain ⟨b, h1, h2, h3, h4, h5⟩ := fit_at (k := k) h.2 (by simpa using hp)
    exact ⟨b, by simpa using h1, h2, h3, h4, by simpa using h5⟩
  | [], [], k, p, h, hp => by simp at hp
  | [], _ :: _, k, p, h, hp => h.elim
  | _ :: _, [], k, p, h, hp => h.elim

theorem fit_len {w size : Int} : ∀ {AT : List Int} {ps : List Layout}, Fit w size AT ps → AT.length = ps.length
  | [], [], _ => rfl
  | a :: r, p :: ps, h => by simp [fit_len h.2]
  | [], _ :: _, h => h.elim
  | _ :: _, [], h => h.elim

theorem f29b (AT : List Int) (ps : List Layout) (w : Int) (b : Bool) (size : Nat) (hs : size ≤ 100000) (hn : ps.length ≤ 100000) (hf : Fit w size AT ps) (hr : ∀ p ∈ ps, n_59 (p, ⟨w, b⟩, ()) = some (rmP (p.of w), ())) : ∀ (m k : Nat) (g : List Bool), ps.length - k = m → g.length = size →
    ∃ g', n_29l7 (AT, ps, ps.length, k, ⟨w, b⟩, g, ()) = some (g', ()) ∧ g'.length = size ∧ ∀ j : Nat, g'.getD j false = (g.getD j false || covL (AT.drop k) (ps.drop k) w j) := by
  intro m
  induction m with
  | zero =>
    intro k g hk hg
    have hlt : ¬ k < ps.length := by omega
    obtain ⟨hd, _⟩ := at_end hlt
    refine ⟨g, ?_, hg, fun j => ?_⟩
    · rw [n_29l7]
      simp only [Option.bind_eq_bind, Option.bind_some, Option.bind_none, if_true, if_false, Bool.false_eq_true, Bool.true_eq_false, Int.toNat_natCast, Int.natCast_nonneg, beq_iff_eq, decide_eq_true_eq, Int.ofNat_lt, hlt]
    · rw [hd]; cases AT.drop k <;> simp [covL]
  | succ m ih =>
    intro k g hk hg
    have hlt : k < ps.length := by omega
    obtain ⟨p, hp, hm, hd, _, _⟩ := at_lt hlt
    obtain ⟨a, q1, q2, q3, q4, q5⟩ := fit_at hf hp
    obtain ⟨n, hn'⟩ : ∃ n : Nat, (p.of w).1 = n := ⟨(p.of w).1.toNat, by omega⟩
    obtain ⟨g1, c1, c2, c3⟩ := f29a AT k ps ps.length k ⟨w, b⟩ a q1 q2 n _ 0 g rfl (by omega) (by omega) (by omega)
    obtain ⟨g2, d1, d2, d3⟩ := ih (k + 1) g1 (by omega) (by omega)
    simp only [Int.natCast_zero, Int.ofNat_eq_natCast, List.drop_zero] at c1
    refine ⟨g2, ?_, d2, fun j => ?_⟩
    · rw [n_29l7]
      simp only [Option.bind_eq_bind, Option.bind_some, Option.bind_none, if_true, if_false, Bool.false_eq_true, Bool.true_eq_false, Int.toNat_natCast, Int.natCast_nonneg, beq_iff_eq, decide_eq_true_eq, Int.ofNat_lt, hlt, hp, hr p hm, rmP, hn', c1, wrap_succ hlt (by omega : ps.length ≤ 9223372036854775807)]
      exact d1
    · rw [d3 j, c3 j, hd, q5, covL, hn', Bool.or_assoc]
      congr 2
      exact decide_eq_decide.2 (by omega)

theorem f29c (f : Int → Bool) (g : List Bool) (size : Nat) (hs : size ≤ 100000) (hg : g.length = size) (hf : ∀ j : Nat, j < size → g.getD j false = f j) : ∀ (m k : Nat) (acc : List Int), size - k = m → k ≤ size → acc.length ≤ k →
    n_29l17 ((size : Int), (k : Int), acc, g, ()) = some (acc ++ gaps f k m, ()) := by
  intro m
  induction m with
  | zero =>
    intro k acc hk h1 h2
    have hlt : ¬ k < size := by omega
    rw [n_29l17]
    simp only [Option.bind_eq_bind, Option.bind_some, Option.bind_none, if_true, if_false, Bool.false_eq_true, Bool.true_eq_false, Int.toNat_natCast, Int.natCast_nonneg, beq_iff_eq, decide_eq_true_eq, Int.ofNat_lt, hlt, gaps, List.append_nil]
  | succ m ih =>
    intro k acc hk h1 h2
    have hlt : k < size := by omega
    have hkg : k < g.length := by omega
    have e2 : IntKind.i64.wrap ((k : Int) + 1) = ((k + 1 : Nat) : Int) := wrap_succ hlt (by omega)
    have hb : (0 : Int) ≤ (k : Int) ∧ (k : Int) < (g.length : Int) := by omega
    have hl : acc.length + [(k : Int)].length ≤ 4294967296 := by simp; omega
    have hfk := hf k hlt
    have hgk : g[k]? = some (f k) := by
      rw [List.getElem?_eq_getElem hkg]
      rw [List.getD, List.getElem?_eq_getElem hkg] at hfk
      simpa using hfk
    rw [n_29l17, gaps]
    simp only [Option.bind_eq_bind, Option.bind_some, Option.bind_none, if_true, if_false, Bool.false_eq_true, Bool.true_eq_false, Int.toNat_natCast, Int.natCast_nonneg, beq_iff_eq, decide_eq_true_eq, Int.ofNat_lt, hlt, hb, and_self, hgk, hl, hg]
    cases hc : f (k : Int)
    · simp only [Bool.not_false, Option.bind_eq_bind, Option.bind_some, Option.bind_none, if_true, if_false, Bool.false_eq_true, Bool.true_eq_false, Int.toNat_natCast, Int.natCast_nonneg, beq_iff_eq, decide_eq_true_eq, Int.ofNat_lt, e2]
      rw [ih (k + 1) _ (by omega) (by omega) (by simp; omega)]
      simp
    · simp only [Bool.not_true, Option.bind_eq_bind, Option.bind_some, Option.bind_none, if_true, if_false, Bool.false_eq_true, Bool.true_eq_false, Int.toNat_natCast, Int.natCast_nonneg, beq_iff_eq, decide_eq_true_eq, Int.ofNat_lt, e2]
      rw [ih (k + 1) _ (by omega) (by omega) (by omega)]
      simp

/-- The specification looks at one byte. -/
theorem f30a (AT : List Int) (l : Layout) (w : Int) (b : Bool) (pl : Place) (acc : List Int) (size : Nat) (hs : size ≤ 100000) (hn : l.parts.length ≤ 100000) (hf : Fit w size AT l.parts) (hr : ∀ p ∈ l.parts, n_43 (p, ⟨w, b⟩, ()) = some (plP (p.of w), ())) (x : Int) :
    ∀ (m k : Nat) (hole : Bool), l.parts.length - k = m → n_30l11 (AT, x, hole, k, l, ⟨w, b⟩, pl, acc, ()) = some (AT, x, (hole && !covL (AT.drop k) (l.parts.drop k) w x), l, ⟨w, b⟩, pl, acc, ()) := by
  have hal := fit_len hf
  intro m
  induction m with
  | zero =>
    intro k hole hk
    have hlt : ¬ k < l.parts.length := by omega
    have hlt' : ¬ k < AT.length := by omega
    obtain ⟨hd, _⟩ := at_end hlt
    have : covL (AT.drop k) (l.parts.drop k) w x = false := by rw [hd]; cases AT.drop k <;> simp [covL]
    rw [n_30l11]
    simp only [Option.bind_eq_bind, Option.bind_some, Option.bind_none, if_true, if_false, Bool.false_eq_true, Bool.true_eq_false, Int.toNat_natCast, Int.natCast_nonneg, beq_iff_eq, decide_eq_true_eq, Int.ofNat_lt, hlt', this, Bool.not_false, Bool.and_true]
  | succ m ih =>
    intro k hole hk
    have hlt : k < l.parts.length := by omega
    have hlt' : k < AT.length := by omega
    obtain ⟨p, hp, hm, hd, _, _⟩ := at_lt hlt
    obtain ⟨a, q1, q2, q3, q4, q5⟩ := fit_at hf hp
    have e1 : IntKind.i64.wrap (a + (p.of w).1) = a + (p.of w).1 := wrap64 (by omega) (by omega)
    have e2 : IntKind.i64.wrap (a + (p.of w).1 - 1) = a + (p.of w).1 - 1 := wrap64 (by omega) (by omega)
    rw [n_30l11, hd, q5, covL]
    simp only [Option.bind_eq_bind, Option.bind_some, Option.bind_none, if_true, if_false, Bool.false_eq_true, Bool.true_eq_false, Int.toNat_natCast, Int.natCast_nonneg, beq_iff_eq, decide_eq_true_eq, Int.ofNat_lt, hlt', hp, q1, hr p hm, plP, e1, e2, f62, wrap_succ hlt (by omega : l.parts.length ≤ 9223372036854775807)]
    by_cases hc : a ≤ x ∧ x ≤ a + (p.of w).1 - 1
    · simp only [hc, and_self, decide_true, Option.bind_eq_bind, Option.bind_some, Option.bind_none, if_true, if_false, Bool.false_eq_true, Bool.true_eq_false, Int.toNat_natCast, Int.natCast_nonneg, beq_iff_eq, decide_eq_true_eq, Int.ofNat_lt, Bool.true_or, Bool.not_true, Bool.and_false]
      rw [wrap_succ hlt (by omega : l.parts.length ≤ 9223372036854775807), ih (k + 1) false (by omega), Bool.false_and]
    · simp only [hc, decide_false, Option.bind_eq_bind, Option.bind_some, Option.bind_none, if_true, if_false, Bool.false_eq_true, Bool.true_eq_false, Int.toNat_natCast, Int.natCast_nonneg, beq_iff_eq, decide_eq_true_eq, Int.ofNat_lt, Bool.false_or]
      rw [wrap_succ hlt (by omega : l.parts.length ≤ 9223372036854775807), ih (k + 1) hole (by omega)]

theorem f30b (AT : List Int) (l : Layout) (w : Int) (b : Bool) (pl : Place) (size : Nat) (hsz : pl.size = size) (hs : size ≤ 100000) (hn : l.parts.length ≤ 100000) (hf : Fit w size AT l.parts) (hr : ∀ p ∈ l.parts, n_43 (p, ⟨w, b⟩, ()) = some (plP (p.of w), ())) :
    ∀ (m k : Nat) (acc : List Int), size - k = m → k ≤ size → acc.length ≤ k → n_30l7 (AT, (k : Int), l, ⟨w, b⟩, pl, acc, ()) = some (acc ++ gaps (covL AT l.parts w) k m, ()) := by
  intro m
  induction m with
  | zero =>
    intro k acc hk h1 h2
    have hlt : ¬ k < size := by omega
    rw [n_30l7]
    simp only [hsz, Option.bind_eq_bind, Option.bind_some, Option.bind_none, if_true, if_false, Bool.false_eq_true, Bool.true_eq_false, Int.toNat_natCast, Int.natCast_nonneg, beq_iff_eq, decide_eq_true_eq, Int.ofNat_lt, hlt, gaps, List.append_nil]
  | succ m ih =>
    intro k acc hk h1 h2
    have hlt : k < size := by omega
    have e2 : IntKind.i64.wrap ((k : Int) + 1) = ((k + 1 : Nat) : Int) := wrap_succ hlt (by omega)
    have hl : acc.length + [(k : Int)].length ≤ 4294967296 := by simp; omega
    have ha := f30a AT l w b pl acc size hs hn hf hr k _ 0 true rfl
    simp only [Int.natCast_zero, Int.ofNat_eq_natCast, List.drop_zero, Bool.true_and] at ha
    rw [n_30l7, gaps]
    simp only [hsz, Option.bind_eq_bind, Option.bind_some, Option.bind_none, if_true, if_false, Bool.false_eq_true, Bool.true_eq_false, Int.toNat_natCast, Int.natCast_nonneg, beq_iff_eq, decide_eq_true_eq, Int.ofNat_lt, hlt, ha, hl]
    cases hc : covL AT l.parts w k
    · simp only [Bool.not_false, Option.bind_eq_bind, Option.bind_some, Option.bind_none, if_true, if_false, Bool.false_eq_true, Bool.true_eq_false, Int.toNat_natCast, Int.natCast_nonneg, beq_iff_eq, decide_eq_true_eq, Int.ofNat_lt, e2]
      rw [ih (k + 1) _ (by omega) (by omega) (by simp; omega)]
      simp
    · simp only [Bool.not_true, Option.bind_eq_bind, Option.bind_some, Option.bind_none, if_true, if_false, Bool.false_eq_true, Bool.true_eq_false, Int.toNat_natCast, Int.natCast_nonneg, beq_iff_eq, decide_eq_true_eq, Int.ofNat_lt, e2]
      rw [ih (k + 1) _ (by omega) (by omega) (by omega)]
      simp

theorem stand_fit {w : Int} (size : Int) : ∀ (ps : List Layout) (s : List Int × Int × Int), (∀ p ∈ ps, 0 ≤ (p.of w).1 ∧ (p.of w).1 ≤ 100000000000 ∧ 1 ≤ (p.of w).2 ∧ (p.of w).2 ≤ 8) → 0 ≤ s.2.1 → 1 ≤ s.2.2 → s.2.2 ≤ 8 →
    ((Layout.ofL w ps).foldl standF s).2.1 ≤ size → ∃ t, ((Layout.ofL w ps).foldl standF s).1 = s.1 ++ t ∧ Fit w size t ps
  | [], s, _, _, _, _, _ => ⟨[], by simp [Layout.ofL], trivial⟩
  | p :: ps, s, hb, h1, h2, h3, h4 => by
    have hp := hb p List.mem_cons_self
    have hu := upS_bnd (n := s.2.1) (m := (p.of w).2) h1 hp.2.2.1
    rw [Layout.ofL, List.foldl_cons] at h4 ⊢
    obtain ⟨t, e1, e2⟩ := stand_fit size ps (standF s (p.of w)) (fun q hq => hb q (List.mem_cons_of_mem _ hq)) (by simp only [standF]; omega) (by simp only [standF]; omega) (by simp only [standF]; omega) h4
    have hqs := ofL_bnd (w := w) (ps := ps) fun q hq => hb q (List.mem_cons_of_mem _ hq)
    have h5 := standF_bnd (Layout.ofL w ps) (standF s (p.of w)) (fun q h => by have := hqs q h; omega) (by simp only [standF]; omega) (by simp only [standF]; omega) (by simp only [standF]; omega)
    have h51 := h5.1
    simp only [standF] at h51 h4
    exact ⟨upS s.2.1 (p.of w).2 :: t, by rw [e1]; simp [standF], ⟨by omega, hp.1, by omega⟩, e2⟩

/-- The holes of a struct. -/
def holeS (l : Layout) (w : Int) : List Int × Int :=
  if (offsS l w).2 = 0 then (gaps (covL (standS (Layout.ofL w l.parts)).1 l.parts w) 0 (l.of w).1.toNat, 0) else ([], (offsS l w).2)

theorem holes_known {l : Layout} {w : Int} (hl : l.Fine) (h : (offsS l w).2 = 0) : (w = 2 ∨ w = 4 ∨ w = 8) ∧ l.Val w ∧ l.kind = 6 ∧ askS l w = 0 ∧ largeS l w = 0 ∧ 0 ≤ (l.of w).1 ∧ (l.of w).1 ≤ 4096 ∧ Fit w (l.of w).1 (standS (Layout.ofL w l.parts)).1 l.parts ∧ l.of w = (standS (Layout.ofL w l.parts)).2 := by
  unfold offsS at h
  by_cases h1 : askS l w = 0
  rotate_left
  · rw [if_neg h1] at h; exact (h1 h).elim
  rw [if_pos h1] at h
  by_cases h6 : l.kind = 6
  rotate_left
  · rw [if_neg h6] at h; simp at h
  rw [if_pos h6] at h
  by_cases hg : largeS l w = 0
  rotate_left
  · rw [if_neg hg] at h; exact (hg h).elim
  obtain ⟨hw, hv⟩ := ask_val hl h1
  have hb := hv.bnd hw
  have hsz : (l.of w).1 ≤ 4096 := by unfold largeS at hg; split at hg <;> omega
  have hof : l.of w = (standS (Layout.ofL w l.parts)).2 := by rw [l.of_eq]; unfold ofS; simp [h6]
  have hq1 := ofL_bnd (w := w) (ps := l.parts) fun p hp => (hv.part hp).bnd hw
  have hend := standF_bnd (Layout.ofL w l.parts) ([], 0, 1) (fun q h => by have := hq1 q h; omega) (by simp) (by simp) (by simp)
  have hup := upS_bnd (n := ((Layout.ofL w l.parts).foldl standF ([], 0, 1)).2.1) (m := ((Layout.ofL w l.parts).foldl standF ([], 0, 1)).2.2) hend.1 hend.2.1
  have c4 : ((Layout.ofL w l.parts).foldl standF ([], 0, 1)).2.1 ≤ (l.of w).1 := by rw [hof]; exact hup.1
  obtain ⟨t, e1, e2⟩ := stand_fit (w := w) (l.of w).1 l.parts ([], 0, 1) (fun p hp => (hv.part hp).bnd hw) (by simp) (by simp) (by simp) c4
  refine ⟨hw, hv, h6, h1, hg, hb.1, hsz, ?_, hof⟩
  unfold standS
  simp only []
  rw [e1]; exact e2

theorem f29 (l : Layout) (w : Int) (b : Bool) (hl : l.Fine) : n_29 (l, ⟨w, b⟩, ()) = some ((holeS l w).1, (holeS l w).2, ()) := by
  unfold n_29 holeS
  simp only [f17 l w b hl, Option.bind_eq_bind, Option.bind_some, Option.bind_none, if_true, if_false, Bool.false_eq_true, Bool.true_eq_false, Int.toNat_natCast, Int.natCast_nonneg, beq_iff_eq, decide_eq_true_eq, Int.ofNat_lt]
  by_cases h : (offsS l w).2 = 0
  rotate_left
  · simp [h]
  obtain ⟨hw, hv, h6, h1, hg, b0, b1, hf, hof⟩ := holes_known hl h
  have ho1 : (offsS l w).1 = (standS (Layout.ofL w l.parts)).1 := by unfold offsS; rw [if_pos h1, if_pos h6, if_pos hg]
  obtain ⟨size, hsize⟩ : ∃ n : Nat, (l.of w).1 = n := ⟨(l.of w).1.toNat, by omega⟩
  have hs := (stand_of hw hv h6 b).1
  rw [← hof] at hs
  rw [hsize] at hf b1
  obtain ⟨k0, k12, _⟩ := right_kind hv.isS hv.small
  obtain ⟨g, c1, c2, c3⟩ := f29b _ l.parts w b size (by omega) (by omega) hf (fun p hp => f59 w hw b p (hv.part hp)) _ 0 (List.replicate size false) rfl (by simp)
  have c4 := f29c (covL (standS (Layout.ofL w l.parts)).1 l.parts w) g size (by omega) c2 (fun j hj => by rw [c3 j]; simp [List.getD, List.getElem?_replicate, hj]) _ 0 [] rfl (by omega) (by simp)
  simp only [Int.natCast_zero, Int.ofNat_eq_natCast, List.drop_zero] at c1 c4
  have e1 : (0 : Int) ≤ (size : Int) := by omega
  have e2 : (size : Int) ≤ 4294967296 := by omega
  simp only [h, bne_self_eq_false, Option.bind_eq_bind, Option.bind_some, Option.bind_none, if_true, if_false, Bool.false_eq_true, Bool.true_eq_false, Int.toNat_natCast, Int.natCast_nonneg, beq_iff_eq, decide_eq_true_eq, Int.ofNat_lt, hs, rmP, hsize, e1, e2, ho1, c1, c2, c4]
  simp

theorem f30 (l : Layout) (w : Int) (b : Bool) (hl : l.Fine) : n_30 (l, ⟨w, b⟩, ()) = some ((holeS l w).1, (holeS l w).2, ()) := by
  have h60 : n_60 (l, ⟨w, b⟩, ()) = some ((offsS l w).2, ()) := by
    unfold n_60 offsS
    simp only [f41 l w b hl, Option.bind_eq_bind, Option.bind_some, Option.bind_none, if_true, if_false, Bool.false_eq_true, Bool.true_eq_false, Int.toNat_natCast, Int.natCast_nonneg, beq_iff_eq, decide_eq_true_eq, Int.ofNat_lt]
    by_cases h : askS l w = 0
    · obtain ⟨hw, hv⟩ := ask_val hl h
      by_cases h6 : l.kind = 6
      · by_cases hg : largeS l w = 0
        · simp [h, h6, f42 l w b hw hv, hg]
        · simp [h, h6, f42 l w b hw hv, hg]
      · simp [h, h6]
    · simp [h]
  unfold n_30 holeS
  simp only [h60, Option.bind_eq_bind, Option.bind_some, Option.bind_none, if_true, if_false, Bool.false_eq_true, Bool.true_eq_false, Int.toNat_natCast, Int.natCast_nonneg, beq_iff_eq, decide_eq_true_eq, Int.ofNat_lt]
  by_cases h : (offsS l w).2 = 0
  rotate_left
  · simp [h]
  obtain ⟨hw, hv, h6, h1, hg, b0, b1, hf, hof⟩ := holes_known hl h
  obtain ⟨size, hsize⟩ : ∃ n : Nat, (l.of w).1 = n := ⟨(l.of w).1.toNat, by omega⟩
  have hs := (stand_of hw hv h6 b).2
  rw [← hof] at hs
  rw [hsize] at hf b1
  obtain ⟨k0, k12, _⟩ := right_kind hv.isS hv.small
  have c4 := f30b _ l w b (plP (l.of w)) size hsize (by omega) (by omega) hf (fun p hp => f43 w hw b p (hv.part hp)) _ 0 [] rfl (by omega) (by simp)
  simp only [Int.natCast_zero, Int.ofNat_eq_natCast, List.drop_zero] at c4
  simp only [h, bne_self_eq_false, Option.bind_eq_bind, Option.bind_some, Option.bind_none, if_true, if_false, Bool.false_eq_true, Bool.true_eq_false, Int.toNat_natCast, Int.natCast_nonneg, beq_iff_eq, decide_eq_true_eq, Int.ofNat_lt, hs, hsize, c4]
  simp

theorem hole_len (l : Layout) (w : Int) (hl : l.Fine) : (holeS l w).1.length ≤ 9223372036854775807 := by
  unfold holeS
  split
  · rename_i h
    obtain ⟨hw, hv, h6, h1, hg, b0, b1, hf, hof⟩ := holes_known hl h
    have := gaps_len (covL (standS (Layout.ofL w l.parts)).1 l.parts w) 0 (l.of w).1.toNat
    simp only []
    omega
  · simp

/-- THE LAW on bits and holes. -/
theorem law7 (l : Layout) (t : Target) (part : Int) (hl : l.Fits) : n_7 (l, t, part, ()) = some (true, ()) := by
  obtain ⟨w, b⟩ := t
  unfold n_7
  simp only [f11 l hl, Option.bind_eq_bind, Option.bind_some, Option.bind_none, if_true, if_false, Bool.false_eq_true, Bool.true_eq_false, Int.toNat_natCast, Int.natCast_nonneg, beq_iff_eq, decide_eq_true_eq, Int.ofNat_lt]
  cases ho : overS l
  · have hf := fine_of hl ho
    simp [f27 l part hf, f28 l part hf, f29 l w b hf, f30 l w b hf, f31 _ _ (hole_len l w hf), f12]
  · simp [f12]

theorem layBits_true (l : Layout) (t : Target) (n : Int) (h0 : Go.Tx.Ok vw (.st .layoutT) l) (h1 : Go.Tx.Ok vw (.st .targetT) t) (h2 : Go.Tx.Ok vw (.int .i64) n) : n_7 (l, t, n, ()) = some (true, ()) := law7 l t n (fits_of_ok l h0)

end Go.Proofs.Ytdknkfioigcfiaa
