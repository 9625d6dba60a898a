/-
  The law LayReorders in plain Lean: all orders, the best one.
-/
import Derived.Test.YtdknkfioigcfiaaLwK
namespace Go.Proofs.Ytdknkfioigcfiaa
set_option linter.unusedSimpArgs false
set_option linter.unusedVariables false
set_option maxRecDepth 20000

def ordsL (F : List Int → List (List Int)) (b : List Int) : Nat → Nat → List (List Int)
  | _, 0 => []
  | k, m + 1 => (if (k : Int) ∈ b then [] else F (b ++ [(k : Int)])) ++ ordsL F b (k + 1) m

/-- All orders of n parts that begin with b, d more. -/
def ordsF : Nat → Nat → List Int → List (List Int)
  | 0, _, b => [b]
  | d + 1, n, b => ordsL (ordsF d n) b 0 n

theorem ordsL_len {F : List Int → List (List Int)} {b : List Int} {c : Nat} (h : ∀ x, (F x).length ≤ c) : ∀ (m k : Nat), (ordsL F b k m).length ≤ m * c
  | 0, k => by simp [ordsL]
  | m + 1, k => by
    have := ordsL_len h m (k + 1) (b := b)
    have := h (b ++ [(k : Int)])
    simp only [ordsL, List.length_append, Nat.succ_mul]
    split
    · simp; omega
    · omega

theorem ordsF_len {n : Nat} (hn : n ≤ 7) : ∀ (d : Nat) (b : List Int), (ordsF d n b).length ≤ 7 ^ d
  | 0, b => by simp [ordsF]
  | d + 1, b => by
    have := ordsL_len (b := b) (ordsF_len hn d) n 0
    have h2 : n * 7 ^ d ≤ 7 * 7 ^ d := Nat.mul_le_mul_right _ hn
    rw [ordsF, Nat.pow_succ]
    omega

def okO (n : Nat) (o : List Int) : Prop := ∀ k ∈ o, 0 ≤ k ∧ k < n

theorem ordsL_mem {F : List Int → List (List Int)} {b o : List Int} {n : Nat} : ∀ {m k : Nat}, o ∈ ordsL F b k m → ∃ i : Nat, k ≤ i ∧ i < k + m ∧ (i : Int) ∉ b ∧ o ∈ F (b ++ [(i : Int)])
  | 0, k, h => by simp [ordsL] at h
  | m + 1, k, h => by
    simp only [ordsL, List.mem_append] at h
    rcases h with h | h
    · split at h
      · simp at h
      · rename_i hb; exact ⟨k, by omega, by omega, hb, h⟩
    · obtain ⟨i, h1, h2, h3, h4⟩ := ordsL_mem (n := n) h
      exact ⟨i, by omega, by omega, h3, h4⟩

theorem ordsF_mem {n : Nat} : ∀ {d : Nat} {b o : List Int}, okO n b → o ∈ ordsF d n b → okO n o ∧ o.length = b.length + d
  | 0, b, o, hb, h => by simp [ordsF] at h; subst h; exact ⟨hb, rfl⟩
  | d + 1, b, o, hb, h => by
    rw [ordsF] at h
    obtain ⟨i, h1, h2, h3, h4⟩ := ordsL_mem (n := n) h
    have := ordsF_mem (d := d) (b := b ++ [(i : Int)]) (o := o) (fun k hk => by
      rcases List.mem_append.1 hk with hk | hk
      · exact hb k hk
      · simp at hk; subst hk; omega) h4
    refine ⟨this.1, ?_⟩
    rw [this.2]; simp; omega

theorem f81l (b : List Int) (x : Int) (hn : b.length ≤ 9223372036854775807) (k : Nat) : n_81l2 (b, x, b.length, k, ()) = some (if x ∈ b.drop k then .inl ((k : Int) + ((b.drop k).findIdx (· == x) : Nat), ()) else .inr ()) := by
  rw [n_81l2]
  by_cases hlt : k < b.length
  · obtain ⟨p, hp, hm, hd, g1, g2⟩ := at_lt hlt
    rw [hd]
    by_cases he : x = p
    · subst he
      simp only [Option.bind_eq_bind, Option.bind_some, Option.bind_none, if_true, if_false, Bool.false_eq_true, Bool.true_eq_false, Int.toNat_natCast, Int.natCast_nonneg, beq_iff_eq, decide_eq_true_eq, Int.ofNat_lt, g1, g2, hlt, hp, beq_self_eq_true, List.mem_cons, true_or, List.findIdx_cons, cond_true]
      simp
    · have e : (x == p) = false := by simp [he]
      have e' : (p == x) = false := by simp [Ne.symm he]
      simp only [Option.bind_eq_bind, Option.bind_some, Option.bind_none, if_true, if_false, Bool.false_eq_true, Bool.true_eq_false, Int.toNat_natCast, Int.natCast_nonneg, beq_iff_eq, decide_eq_true_eq, Int.ofNat_lt, g1, g2, hlt, hp, e, he, wrap_succ hlt hn, List.mem_cons, false_or, List.findIdx_cons, e', cond_false]
      rw [f81l b x hn (k + 1)]
      by_cases hx : x ∈ b.drop (k + 1)
      · simp only [hx, if_true]
        congr 3
        push_cast
        omega
      · simp only [hx, if_false]
  · obtain ⟨hd, g1⟩ := at_end hlt
    simp [hlt, hd]
termination_by b.length - k

theorem f78 (b : List Int) (x : Int) (hn : b.length ≤ 9223372036854775807) : n_78 (b, x, ()) = some (decide (x ∈ b), ()) := by
  have h := f81l b x hn 0
  simp only [Int.natCast_zero, Int.ofNat_eq_natCast, List.drop_zero] at h
  unfold n_78 n_81
  simp only [h, Option.bind_eq_bind, Option.bind_some, Option.bind_none, if_true, if_false, Bool.false_eq_true, Bool.true_eq_false, Int.toNat_natCast, Int.natCast_nonneg, beq_iff_eq, decide_eq_true_eq, Int.ofNat_lt]
  by_cases hx : x ∈ b
  · simp only [hx, if_true, Option.bind_eq_bind, Option.bind_some, Option.bind_none, if_true, if_false, Bool.false_eq_true, Bool.true_eq_false, Int.toNat_natCast, Int.natCast_nonneg, beq_iff_eq, decide_eq_true_eq, Int.ofNat_lt]
    simp
  · simp [hx]

theorem f79l (b : List Int) (x : Int) (hn : b.length ≤ 9223372036854775807) (k : Nat) : n_79l2 (b, x, k, ()) = some (if x ∈ b.drop k then .inl (true, ()) else .inr ()) := by
  rw [n_79l2]
  by_cases hlt : k < b.length
  · obtain ⟨p, hp, hm, hd, g1, g2⟩ := at_lt hlt
    rw [hd]
    by_cases he : p = x
    · subst he
      simp only [Option.bind_eq_bind, Option.bind_some, Option.bind_none, if_true, if_false, Bool.false_eq_true, Bool.true_eq_false, Int.toNat_natCast, Int.natCast_nonneg, beq_iff_eq, decide_eq_true_eq, Int.ofNat_lt, g1, g2, hlt, hp, beq_self_eq_true, List.mem_cons, true_or]
    · have e : (p == x) = false := by simp [he]
      have e2 : ¬ x = p := fun h => he h.symm
      simp only [Option.bind_eq_bind, Option.bind_some, Option.bind_none, if_true, if_false, Bool.false_eq_true, Bool.true_eq_false, Int.toNat_natCast, Int.natCast_nonneg, beq_iff_eq, decide_eq_true_eq, Int.ofNat_lt, g1, g2, hlt, hp, e, he, e2, wrap_succ hlt hn, List.mem_cons, false_or]
      exact f79l b x hn (k + 1)
  · obtain ⟨hd, g1⟩ := at_end hlt
    simp [hlt, hd]
termination_by b.length - k

theorem f79 (b : List Int) (x : Int) (hn : b.length ≤ 9223372036854775807) : n_79 (b, x, ()) = some (decide (x ∈ b), ()) := by
  have h := f79l b x hn 0
  simp only [Int.natCast_zero, Int.ofNat_eq_natCast, List.drop_zero] at h
  unfold n_79
  simp only [h, Option.bind_eq_bind, Option.bind_some, Option.bind_none, if_true, if_false, Bool.false_eq_true, Bool.true_eq_false, Int.toNat_natCast, Int.natCast_nonneg, beq_iff_eq, decide_eq_true_eq, Int.ofNat_lt]
  by_cases hx : x ∈ b <;> simp [hx]

/-- The specification's orders. -/
theorem f68 {n : Nat} (hn : n ≤ 7) : ∀ (d : Nat) (b : List Int), b.length + d = n → n_68 ((n : Int), b, ()) = some (ordsF d n b, ()) := by
  intro d
  induction d with
  | zero =>
    intro b hb
    have e : ((b.length : Int) == (n : Int)) = true := by simp; omega
    have e2 : 0 + b.length ≤ 4294967296 := by omega
    rw [n_68]
    simp only [e, e2, Option.bind_eq_bind, Option.bind_some, Option.bind_none, if_true, if_false, Bool.false_eq_true, Bool.true_eq_false, Int.toNat_natCast, Int.natCast_nonneg, beq_iff_eq, decide_eq_true_eq, Int.ofNat_lt, List.nil_append, ordsF]
  | succ d ih =>
    intro b hb
    have e : ((b.length : Int) == (n : Int)) = false := by simp; omega
    have hd7 : (7 : Nat) ^ d ≤ 7 ^ 7 := Nat.pow_le_pow_right (by omega) (by omega)
    have loop : ∀ (m k : Nat) (out : List (List Int)), n - k = m → k ≤ n → out.length ≤ k * 7 ^ d → n_68l5 ((n : Int), b, (k : Int), out, ()) = some (out ++ ordsL (ordsF d n) b k m, ()) := by
      intro m
      induction m with
      | zero =>
        intro k out hk h1 h2
        have hlt : ¬ k < n := by omega
        rw [n_68l5]
        simp only [Option.bind_eq_bind, Option.bind_some, Option.bind_none, if_true, if_false, Bool.false_eq_true, Bool.true_eq_false, Int.toNat_natCast, Int.natCast_nonneg, beq_iff_eq, decide_eq_true_eq, Int.ofNat_lt, hlt, ordsL, List.append_nil]
      | succ m ihm =>
        intro k out hk h1 h2
        have hlt : k < n := by omega
        have hw : IntKind.i64.wrap ((k : Int) + 1) = ((k + 1 : Nat) : Int) := wrap_succ hlt (by omega)
        have hm : (k + 1) * 7 ^ d = k * 7 ^ d + 7 ^ d := by rw [Nat.succ_mul]
        have hp0 : 1 ≤ 7 ^ d := Nat.one_le_pow _ _ (by omega)
        rw [n_68l5, ordsL]
        by_cases hx : (k : Int) ∈ b
        · simp only [Option.bind_eq_bind, Option.bind_some, Option.bind_none, if_true, if_false, Bool.false_eq_true, Bool.true_eq_false, Int.toNat_natCast, Int.natCast_nonneg, beq_iff_eq, decide_eq_true_eq, Int.ofNat_lt, hlt, f79 b k (by omega), hx, decide_true, Bool.not_true, hw, List.nil_append]
          exact ihm (k + 1) out (by omega) (by omega) (by rw [hm]; omega)
        · have hsub := ih (b ++ [(k : Int)]) (by simp; omega)
          have hl := ordsF_len hn d (b ++ [(k : Int)])
          have e2 : 0 + b.length ≤ 4294967296 := by omega
          have e3 : b.length + [(k : Int)].length ≤ 4294967296 := by simp; omega
          have h3 : k * 7 ^ d ≤ 7 * 7 ^ 7 := Nat.mul_le_mul (by omega) hd7
          have h7 : (7 : Nat) ^ 7 = 823543 := by decide
          have e4 : out.length + (ordsF d n (b ++ [(k : Int)])).length ≤ 4294967296 := by omega
          simp only [Option.bind_eq_bind, Option.bind_some, Option.bind_none, if_true, if_false, Bool.false_eq_true, Bool.true_eq_false, Int.toNat_natCast, Int.natCast_nonneg, beq_iff_eq, decide_eq_true_eq, Int.ofNat_lt, hlt, f79 b k (by omega), hx, decide_false, Bool.not_false, e2, e3, List.nil_append, hsub, e4, hw]
          rw [ihm (k + 1) _ (by omega) (by omega) (by rw [hm, List.length_append]; omega), List.append_assoc]
    have h := loop _ 0 [] rfl (by omega) (by simp)
    simp only [Int.natCast_zero, Int.ofNat_eq_natCast, List.drop_zero] at h
    rw [n_68]
    simp only [e, Option.bind_eq_bind, Option.bind_some, Option.bind_none, if_true, if_false, Bool.false_eq_true, Bool.true_eq_false, Int.toNat_natCast, Int.natCast_nonneg, beq_iff_eq, decide_eq_true_eq, Int.ofNat_lt, h, List.nil_append, ordsF]
    rfl

def lay0 : Layout := ⟨0, 0, false, []⟩
/-- The parts in an order. -/
def pick (ps : List Layout) (o : List Int) : List Layout := o.map fun k => ps.getD k.toNat lay0

theorem pick_at {ps : List Layout} {k : Int} (h0 : 0 ≤ k) (h1 : k < ps.length) : ps[k.toNat]? = some (ps.getD k.toNat lay0) := by
  have : k.toNat < ps.length := by omega
  simp [this]

theorem pick_mem {ps : List Layout} {o : List Int} {n : Nat} (hn : n = ps.length) (ho : okO n o) : ∀ p ∈ pick ps o, p ∈ ps := by
  intro p hp
  obtain ⟨k, hk, rfl⟩ := List.mem_map.1 hp
  obtain ⟨h0, h1⟩ := ho k hk
  exact List.mem_of_getElem? (pick_at h0 (by omega))

/-- How large the struct is in an order. -/
def szO (w : Int) (ps : List Layout) (o : List Int) : Int := (standS (Layout.ofL w (pick ps o))).2.1

structure Small (w : Int) (b : Bool) (l : Layout) : Prop where
  len : l.parts.length ≤ 7
  bnd : ∀ p ∈ l.parts, 0 ≤ (p.of w).1 ∧ (p.of w).1 ≤ 4096 ∧ 1 ≤ (p.of w).2 ∧ (p.of w).2 ≤ 8
  room : ∀ p ∈ l.parts, n_59 (p, ⟨w, b⟩, ()) = some (rmP (p.of w), ())
  place : ∀ p ∈ l.parts, n_43 (p, ⟨w, b⟩, ()) = some (plP (p.of w), ())

theorem szO_bnd {w : Int} {b : Bool} {l : Layout} (hs : Small w b l) {o : List Int} (ho : okO l.parts.length o) (hl : o.length ≤ 7) : 0 ≤ szO w l.parts o ∧ szO w l.parts o ≤ 100000 := by
  have hq : ∀ q ∈ Layout.ofL w (pick l.parts o), 0 ≤ q.1 ∧ q.1 ≤ 4096 ∧ 1 ≤ q.2 ∧ q.2 ≤ 8 := by
    intro q hq
    rw [Layout.ofL_map] at hq
    obtain ⟨p, hp, rfl⟩ := List.mem_map.1 hq
    exact hs.bnd p (pick_mem rfl ho p hp)
  have h1 := standF_bnd (Layout.ofL w (pick l.parts o)) ([], 0, 1) (fun q h => by have := hq q h; omega) (by simp) (by simp) (by simp)
  have h2 := standF_ub 4096 (by omega) (Layout.ofL w (pick l.parts o)) ([], 0, 1) hq (by simp)
  have h3 : (Layout.ofL w (pick l.parts o)).length = o.length := by rw [ofL_len]; simp [pick]
  rw [h3] at h2
  have h4 : (o.length : Int) * (4096 + 8) ≤ 7 * (4096 + 8) := Int.mul_le_mul_of_nonneg_right (by omega) (by omega)
  have h5 := upS_bnd (n := ((Layout.ofL w (pick l.parts o)).foldl standF ([], 0, 1)).2.1) (m := ((Layout.ofL w (pick l.parts o)).foldl standF ([], 0, 1)).2.2) h1.1 h1.2.1
  unfold szO standS
  simp only [] at h1 h2 ⊢
  omega

theorem bnd' {w : Int} {b : Bool} {l : Layout} (hs : Small w b l) {o : List Int} (ho : okO l.parts.length o) : ∀ p ∈ pick l.parts o, 0 ≤ (p.of w).1 ∧ (p.of w).1 ≤ 100000000000 ∧ 1 ≤ (p.of w).2 ∧ (p.of w).2 ≤ 8 := fun p hp => by
  have := hs.bnd p (pick_mem rfl ho p hp); omega

def bestF (f : List Int → Int) (s : Int × List Int) (o : List Int) : Int × List Int := if f o < s.1 then (f o, o) else s
def bestR (f : List Int → Int) (s : Int × List Int) (o : List Int) : Int × List Int := if s.1 < 0 ∨ f o < s.1 then (f o, o) else s

theorem f66l (w : Int) (b : Bool) (l : Layout) (hs : Small w b l) (o : List Int) (ho : okO l.parts.length o) (hl : o.length ≤ 7) (size : Int) (best : List Int) (a1 a2 : Int) (a3 : Bool) : ∀ (m k : Nat) (acc : List Layout), o.length - k = m → acc.length ≤ k →
    n_66sb128l2 (o, o, o.length, k, l, ⟨w, b⟩, size, best, a1, a2, a3, acc, ()) = some (o, l, ⟨w, b⟩, size, best, a1, a2, a3, acc ++ pick l.parts (o.drop k), ()) := by
  intro m
  induction m with
  | zero =>
    intro k acc hk h1
    have hlt : ¬ k < o.length := by omega
    obtain ⟨hd, g1⟩ := at_end hlt
    rw [n_66sb128l2]
    simp only [Option.bind_eq_bind, Option.bind_some, Option.bind_none, if_true, if_false, Bool.false_eq_true, Bool.true_eq_false, Int.toNat_natCast, Int.natCast_nonneg, beq_iff_eq, decide_eq_true_eq, Int.ofNat_lt, hlt, hd, pick, List.map_nil, List.append_nil]
  | succ m ih =>
    intro k acc hk h1
    have hlt : k < o.length := by omega
    obtain ⟨x, hx, hm, hd, g1, g2⟩ := at_lt hlt
    obtain ⟨h2, h3⟩ := ho x hm
    have e : acc.length + [l.parts.getD x.toNat lay0].length ≤ 4294967296 := by simp; omega
    rw [n_66sb128l2, hd]
    simp only [Option.bind_eq_bind, Option.bind_some, Option.bind_none, if_true, if_false, Bool.false_eq_true, Bool.true_eq_false, Int.toNat_natCast, Int.natCast_nonneg, beq_iff_eq, decide_eq_true_eq, Int.ofNat_lt, hlt, hx, h2, pick_at h2 h3, e, wrap_succ hlt (by omega : o.length ≤ 9223372036854775807)]
    rw [ih (k + 1) _ (by omega) (by simp; omega)]
    simp [pick]

theorem f66 (w : Int) (b : Bool) (l : Layout) (hs : Small w b l) (o : List Int) (ho : okO l.parts.length o) (hl : o.length ≤ 7) (size : Int) (best : List Int) :
    n_66sb128 (o, l, ⟨w, b⟩, size, best, ()) = some (l, ⟨w, b⟩, (bestF (szO w l.parts) (size, best) o).1, (bestF (szO w l.parts) (size, best) o).2, ()) := by
  have h := f66l w b l hs o ho hl size best 0 0 false _ 0 [] rfl (by simp)
  simp only [Int.natCast_zero, Int.ofNat_eq_natCast, List.drop_zero, List.nil_append] at h
  have hb := szO_bnd hs ho hl
  have h44 := f44 w b ⟨0, 0, false, pick l.parts o⟩ (by simp [pick]; omega) (bnd' hs ho) (by have := hb.2; unfold szO at this; simp only []; omega) fun p hp => hs.room p (pick_mem rfl ho p hp)
  unfold n_66sb128
  simp only [h, Option.bind_eq_bind, Option.bind_some, Option.bind_none, if_true, if_false, Bool.false_eq_true, Bool.true_eq_false, Int.toNat_natCast, Int.natCast_nonneg, beq_iff_eq, decide_eq_true_eq, Int.ofNat_lt, h44]
  have e : (rmP (standS (Layout.ofL w (pick l.parts o))).2).size = szO w l.parts o := rfl
  simp only [e]
  unfold bestF
  by_cases hlt : szO w l.parts o < size
  · have e2 : o.length ≤ 4294967296 := by omega
    simp only [hlt, decide_true, Option.bind_eq_bind, Option.bind_some, Option.bind_none, if_true, if_false, Bool.false_eq_true, Bool.true_eq_false, Int.toNat_natCast, Int.natCast_nonneg, beq_iff_eq, decide_eq_true_eq, Int.ofNat_lt, n_67, e2]
  · simp only [hlt, decide_false, Option.bind_eq_bind, Option.bind_some, Option.bind_none, if_true, if_false, Bool.false_eq_true, Bool.true_eq_false, Int.toNat_natCast, Int.natCast_nonneg, beq_iff_eq, decide_eq_true_eq, Int.ofNat_lt]

/-- The program goes through all orders. -/
theorem f65 (w : Int) (b : Bool) (l : Layout) (hs : Small w b l) : ∀ (d : Nat) (o : List Int) (s : Int × List Int), okO l.parts.length o → o.length + d = l.parts.length →
    n_65sb043 (o, (l.parts.length : Int), l, ⟨w, b⟩, s.1, s.2, ()) = some (l, ⟨w, b⟩, ((ordsF d l.parts.length o).foldl (bestF (szO w l.parts)) s).1, ((ordsF d l.parts.length o).foldl (bestF (szO w l.parts)) s).2, ()) := by
  have h7 := hs.len
  intro d
  induction d with
  | zero =>
    intro o s ho hl
    have e : ((o.length : Int) == (l.parts.length : Int)) = true := by simp; omega
    rw [n_65sb043]
    simp only [e, Option.bind_eq_bind, Option.bind_some, Option.bind_none, if_true, if_false, Bool.false_eq_true, Bool.true_eq_false, Int.toNat_natCast, Int.natCast_nonneg, beq_iff_eq, decide_eq_true_eq, Int.ofNat_lt, f66 w b l hs o ho (by omega), ordsF, List.foldl_cons, List.foldl_nil]
  | succ d ih =>
    intro o s ho hl
    have e : ((o.length : Int) == (l.parts.length : Int)) = false := by simp; omega
    have loop : ∀ (m k : Nat) (s : Int × List Int), l.parts.length - k = m → k ≤ l.parts.length →
        n_65sb043l3 (o, (l.parts.length : Int), (l.parts.length : Int), (k : Int), l, ⟨w, b⟩, s.1, s.2, ()) = some (l, ⟨w, b⟩, ((ordsL (ordsF d l.parts.length) o k m).foldl (bestF (szO w l.parts)) s).1, ((ordsL (ordsF d l.parts.length) o k m).foldl (bestF (szO w l.parts)) s).2, ()) := by
      intro m
      induction m with
      | zero =>
        intro k s hk h1
        have hlt : ¬ k < l.parts.length := by omega
        rw [n_65sb043l3]
        simp only [Option.bind_eq_bind, Option.bind_some, Option.bind_none, if_true, if_false, Bool.false_eq_true, Bool.true_eq_false, Int.toNat_natCast, Int.natCast_nonneg, beq_iff_eq, decide_eq_true_eq, Int.ofNat_lt, hlt, ordsL, List.foldl_nil]
      | succ m ihm =>
        intro k s hk h1
        have hlt : k < l.parts.length := by omega
        have hw : IntKind.i64.wrap ((k : Int) + 1) = ((k + 1 : Nat) : Int) := wrap_succ hlt (by omega)
        rw [n_65sb043l3, ordsL, List.foldl_append]
        by_cases hx : (k : Int) ∈ o
        · simp only [Option.bind_eq_bind, Option.bind_some, Option.bind_none, if_true, if_false, Bool.false_eq_true, Bool.true_eq_false, Int.toNat_natCast, Int.natCast_nonneg, beq_iff_eq, decide_eq_true_eq, Int.ofNat_lt, hlt, f78 o k (by omega), hx, decide_true, Bool.not_true, hw, List.foldl_nil]
          exact ihm (k + 1) s (by omega) (by omega)
        · have e1 : o.length ≤ 4294967296 := by omega
          have e2 : o.length + [(k : Int)].length ≤ 4294967296 := by simp; omega
          have hsub := ih (o ++ [(k : Int)]) s (fun x hx => by
            rcases List.mem_append.1 hx with hx | hx
            · exact ho x hx
            · simp at hx; subst hx; omega) (by simp; omega)
          simp only [Option.bind_eq_bind, Option.bind_some, Option.bind_none, if_true, if_false, Bool.false_eq_true, Bool.true_eq_false, Int.toNat_natCast, Int.natCast_nonneg, beq_iff_eq, decide_eq_true_eq, Int.ofNat_lt, hlt, f78 o k (by omega), hx, decide_false, Bool.not_false, n_67s0ba5, e1, e2, hsub, hw]
          exact ihm (k + 1) _ (by omega) (by omega)
    have h := loop _ 0 s rfl (by omega)
    simp only [Int.natCast_zero, Int.ofNat_eq_natCast, List.drop_zero] at h
    rw [n_65sb043]
    simp only [e, Option.bind_eq_bind, Option.bind_some, Option.bind_none, if_true, if_false, Bool.false_eq_true, Bool.true_eq_false, Int.toNat_natCast, Int.natCast_nonneg, beq_iff_eq, decide_eq_true_eq, Int.ofNat_lt, h, ordsF]
    rfl

theorem best_eq {f : List Int → Int} : ∀ (L : List (List Int)) (s : Int × List Int), 0 ≤ s.1 → (∀ o ∈ L, 0 ≤ f o) → L.foldl (bestF f) s = L.foldl (bestR f) s
  | [], s, _, _ => rfl
  | o :: r, s, h, ho => by
    have e : bestF f s o = bestR f s o := by
      unfold bestF bestR
      have : ¬ s.1 < 0 := by omega
      simp [this]
    rw [List.foldl_cons, List.foldl_cons, ← e]
    refine best_eq r _ ?_ fun x hx => ho x (List.mem_cons_of_mem _ hx)
    unfold bestF
    split
    · exact ho o List.mem_cons_self
    · exact h

theorem best_start {f : List Int → Int} {L : List (List Int)} (h : L ≠ []) (ho : ∀ o ∈ L, 0 ≤ f o ∧ f o ≤ 100000) : L.foldl (bestF f) (1099511627776, []) = L.foldl (bestR f) (-1, []) := by
  cases L with
  | nil => exact (h rfl).elim
  | cons o r =>
    have h0 := ho o List.mem_cons_self
    have e1 : bestF f (1099511627776, []) o = (f o, o) := by unfold bestF; rw [if_pos (by simp only []; omega)]
    have e2 : bestR f (-1, []) o = (f o, o) := by unfold bestR; rw [if_pos (.inl (by simp))]
    rw [List.foldl_cons, List.foldl_cons, e1, e2]
    exact best_eq r _ h0.1 fun x hx => (ho x (List.mem_cons_of_mem _ hx)).1

theorem ordsF_ne {n : Nat} : ∀ (d : Nat) (b : List Int), okO n b → b.Nodup → b.length + d = n → ordsF d n b ≠ []
  | 0, b, _, _, _ => by simp [ordsF]
  | d + 1, b, hb, hnd, hl => by
    -- some number is not in b
    have : ∃ i : Nat, i < n ∧ (i : Int) ∉ b := by
      by_cases hall : ∀ i : Nat, i < n → (i : Int) ∈ b
      · exfalso
        have hsub : ((List.range n).map fun i : Nat => (i : Int)) ⊆ b := by
          intro x hx
          obtain ⟨i, hi, rfl⟩ := List.mem_map.1 hx
          exact hall i (by simpa using hi)
        have hnd2 : ((List.range n).map fun i : Nat => (i : Int)).Nodup := List.Pairwise.map _ (fun a b h e => h (Int.ofNat.inj e)) List.nodup_range
        have := List.Nodup.length_le_of_subset hnd2 hsub
        simp at this
        omega
      · simp only [Classical.not_forall] at hall
        obtain ⟨i, hi, hx⟩ := hall
        exact ⟨i, hi, hx⟩
    obtain ⟨i, hi, hx⟩ := this
    have hsub := ordsF_ne d (b ++ [(i : Int)]) (fun k hk => by
      rcases List.mem_append.1 hk with hk | hk
      · exact hb k hk
      · simp at hk; subst hk; omega) (by
      rw [List.nodup_append]
      refine ⟨hnd, by simp, fun a ha c hc => ?_⟩
      simp at hc; subst hc
      rintro rfl; exact hx ha) (by simp; omega)
    rw [ordsF]
    have key : ∀ (m k : Nat), k ≤ i → i < k + m → ordsL (ordsF d n) b k m ≠ [] := by
      intro m
      induction m with
      | zero => intro k h1 h2; omega
      | succ m ih =>
        intro k h1 h2
        simp only [ordsL]
        by_cases hki : k = i
        · subst hki
          rw [if_neg hx]
          intro h
          exact hsub (List.append_eq_nil_iff.1 h).1
        · intro h
          exact ih (k + 1) (by omega) (by omega) (List.append_eq_nil_iff.1 h).2
    exact key n 0 (by omega) (by omega)

/-- The order that is chosen, and the size. -/
def reS (l : Layout) (w : Int) : List Int × Int × Int :=
  if askS l w = 0 then
    if l.kind = 6 then
      if (l.parts.length : Int) > 7 then ([], 0, 3)
      else if largeS l w = 0 then
        (((ordsF l.parts.length l.parts.length []).foldl (bestR (szO w l.parts)) (-1, [])).2, ((ordsF l.parts.length l.parts.length []).foldl (bestR (szO w l.parts)) (-1, [])).1, 0)
      else ([], 0, largeS l w)
    else ([], 0, 6)
  else ([], 0, askS l w)

theorem small_of {l : Layout} {w : Int} (b : Bool) (hl : l.Fine) (h : askS l w = 0) (h6 : l.kind = 6) (h7 : ¬ (l.parts.length : Int) > 7) (hg : largeS l w = 0) : Small w b l := by
  obtain ⟨hw, hv⟩ := ask_val hl h
  have ho : (offsS l w).2 = 0 := by unfold offsS; rw [if_pos h, if_pos h6, if_pos hg]
  obtain ⟨_, _, _, _, _, b0, b1, hf, hof⟩ := holes_known hl ho
  refine ⟨by omega, fun p hp => ?_, fun p hp => f59 w hw b p (hv.part hp), fun p hp => f43 w hw b p (hv.part hp)⟩
  obtain ⟨k, hk⟩ := List.getElem?_of_mem hp
  obtain ⟨a, q1, q2, q3, q4, _⟩ := fit_at hf hk
  have := (hv.part hp).bnd hw
  omega

theorem f35 (l : Layout) (w : Int) (b : Bool) (hl : l.Fine) : n_35 (l, ⟨w, b⟩, ()) = some ((reS l w).1, (reS l w).2.1, (reS l w).2.2, ()) := by
  unfold n_35 reS
  simp only [f39 l w b hl, Option.bind_eq_bind, Option.bind_some, Option.bind_none, if_true, if_false, Bool.false_eq_true, Bool.true_eq_false, Int.toNat_natCast, Int.natCast_nonneg, beq_iff_eq, decide_eq_true_eq, Int.ofNat_lt]
  by_cases h : askS l w = 0
  rotate_left
  · simp [h]
  by_cases h6 : l.kind = 6
  rotate_left
  · simp [h, h6]
  by_cases h7 : (l.parts.length : Int) > 7
  · simp [h, h6, h7]
  obtain ⟨hw, hv⟩ := ask_val hl h
  have h40 := f40 l w b hw hv
  by_cases hg : largeS l w = 0
  rotate_left
  · simp [h, h6, h7, h40, hg]
  have hs := small_of b hl h h6 h7 hg
  have hok : okO l.parts.length [] := fun k hk => by cases hk
  have h65 := f65 w b l hs l.parts.length [] (1099511627776, []) hok (by simp)
  have hb := best_start (f := szO w l.parts) (ordsF_ne l.parts.length [] hok List.nodup_nil (by simp)) fun o ho => by
    obtain ⟨m1, m2⟩ := ordsF_mem hok ho
    have := hs.len
    exact szO_bnd hs m1 (by simp at m2; omega)
  rw [hb] at h65
  rw [hg] at h40
  simp only [h, h6, h7, h40, hg, bne_self_eq_false, decide_false, Option.bind_eq_bind, Option.bind_some, Option.bind_none, if_true, if_false, Bool.false_eq_true, Bool.true_eq_false, Int.toNat_natCast, Int.natCast_nonneg, beq_iff_eq, decide_eq_true_eq, Int.ofNat_lt, h65]

theorem f36l (w : Int) (b : Bool) (l : Layout) (hs : Small w b l) (all : List (List Int)) (i : Nat) (o : List Int) (hi : all[i]? = some o) (best : List Int) (least : Int) (ho : okO l.parts.length o) (hl : o.length ≤ 7) : ∀ (m k : Nat) (acc : List Layout), o.length - k = m → acc.length ≤ k →
    n_36l19 (all, best, least, (i : Int), (k : Int), l, (⟨w, b⟩ : Target), acc, ()) = some (all, best, least, (i : Int), l, (⟨w, b⟩ : Target), acc ++ pick l.parts (o.drop k), ()) := by
  intro m
  induction m with
  | zero =>
    intro k acc hk h1
    have hlt : ¬ k < o.length := by omega
    obtain ⟨hd, g1⟩ := at_end hlt
    rw [n_36l19]
    simp only [Option.bind_eq_bind, Option.bind_some, Option.bind_none, if_true, if_false, Bool.false_eq_true, Bool.true_eq_false, Int.toNat_natCast, Int.natCast_nonneg, beq_iff_eq, decide_eq_true_eq, Int.ofNat_lt, hi, hlt, hd, pick, List.map_nil, List.append_nil]
  | succ m ih =>
    intro k acc hk h1
    have hlt : k < o.length := by omega
    obtain ⟨x, hx, hm, hd, g1, g2⟩ := at_lt hlt
    obtain ⟨h2, h3⟩ := ho x hm
    have e : acc.length + [l.parts.getD x.toNat lay0].length ≤ 4294967296 := by simp; omega
    rw [n_36l19, hd]
    simp only [Option.bind_eq_bind, Option.bind_some, Option.bind_none, if_true, if_false, Bool.false_eq_true, Bool.true_eq_false, Int.toNat_natCast, Int.natCast_nonneg, beq_iff_eq, decide_eq_true_eq, Int.ofNat_lt, hi, hlt, hx, h2, pick_at h2 h3, e, wrap_succ hlt (by omega : o.length ≤ 9223372036854775807)]
    rw [ih (k + 1) _ (by omega) (by simp; omega)]
    simp [pick]

theorem f36b (w : Int) (b : Bool) (l : Layout) (hs : Small w b l) (all : List (List Int)) (hn : all.length ≤ 9223372036854775807) (hok : ∀ o ∈ all, okO l.parts.length o ∧ o.length ≤ 7) : ∀ (m k : Nat) (s : Int × List Int), all.length - k = m →
    n_36l15 (all, s.2, s.1, k, l, ⟨w, b⟩, ()) = some (((all.drop k).foldl (bestR (szO w l.parts)) s).2, ((all.drop k).foldl (bestR (szO w l.parts)) s).1, ()) := by
  intro m
  induction m with
  | zero =>
    intro k s hk
    have hlt : ¬ k < all.length := by omega
    obtain ⟨hd, g1⟩ := at_end hlt
    rw [n_36l15]
    simp only [Option.bind_eq_bind, Option.bind_some, Option.bind_none, if_true, if_false, Bool.false_eq_true, Bool.true_eq_false, Int.toNat_natCast, Int.natCast_nonneg, beq_iff_eq, decide_eq_true_eq, Int.ofNat_lt, hlt, hd, List.foldl_nil]
  | succ m ih =>
    intro k s hk
    have hlt : k < all.length := by omega
    obtain ⟨o, ho, hm, hd, g1, g2⟩ := at_lt hlt
    obtain ⟨h1, h2⟩ := hok o hm
    have hl := f36l w b l hs all k o ho s.2 s.1 h1 h2 _ 0 [] rfl (by simp)
    simp only [Int.natCast_zero, Int.ofNat_eq_natCast, List.drop_zero, List.nil_append] at hl
    have h61 := f61 w b (pick l.parts o) (by simp [pick]; omega) (bnd' hs h1) fun p hp => hs.place p (pick_mem rfl h1 p hp)
    have e : (plP (standS (Layout.ofL w (pick l.parts o))).2).size = szO w l.parts o := rfl
    rw [n_36l15, hd, List.foldl_cons]
    simp only [Option.bind_eq_bind, Option.bind_some, Option.bind_none, if_true, if_false, Bool.false_eq_true, Bool.true_eq_false, Int.toNat_natCast, Int.natCast_nonneg, beq_iff_eq, decide_eq_true_eq, Int.ofNat_lt, hlt, hl, h61, e]
    by_cases hc : s.1 < 0
    · have hb : bestR (szO w l.parts) s o = (szO w l.parts o, o) := by unfold bestR; rw [if_pos (.inl hc)]
      simp only [hc, decide_true, Option.bind_eq_bind, Option.bind_some, Option.bind_none, if_true, if_false, Bool.false_eq_true, Bool.true_eq_false, Int.toNat_natCast, Int.natCast_nonneg, beq_iff_eq, decide_eq_true_eq, Int.ofNat_lt, ho, wrap_succ hlt hn, hb]
      exact ih (k + 1) (szO w l.parts o, o) (by omega)
    · by_cases hc2 : szO w l.parts o < s.1
      · have hb : bestR (szO w l.parts) s o = (szO w l.parts o, o) := by unfold bestR; rw [if_pos (.inr hc2)]
        simp only [hc, hc2, decide_true, decide_false, Option.bind_eq_bind, Option.bind_some, Option.bind_none, if_true, if_false, Bool.false_eq_true, Bool.true_eq_false, Int.toNat_natCast, Int.natCast_nonneg, beq_iff_eq, decide_eq_true_eq, Int.ofNat_lt, ho, wrap_succ hlt hn, hb]
        exact ih (k + 1) (szO w l.parts o, o) (by omega)
      · have hb : bestR (szO w l.parts) s o = s := by unfold bestR; rw [if_neg (by simp [hc, hc2])]
        simp only [hc, hc2, decide_false, Option.bind_eq_bind, Option.bind_some, Option.bind_none, if_true, if_false, Bool.false_eq_true, Bool.true_eq_false, Int.toNat_natCast, Int.natCast_nonneg, beq_iff_eq, decide_eq_true_eq, Int.ofNat_lt, wrap_succ hlt hn, hb]
        exact ih (k + 1) s (by omega)

theorem f36 (l : Layout) (w : Int) (b : Bool) (hl : l.Fine) : n_36 (l, ⟨w, b⟩, ()) = some ((reS l w).1, (reS l w).2.1, (reS l w).2.2, ()) := by
  unfold n_36 reS
  simp only [f41 l w b hl, Option.bind_eq_bind, Option.bind_some, Option.bind_none, if_true, if_false, Bool.false_eq_true, Bool.true_eq_false, Int.toNat_natCast, Int.natCast_nonneg, beq_iff_eq, decide_eq_true_eq, Int.ofNat_lt]
  by_cases h : askS l w = 0
  rotate_left
  · simp [h]
  by_cases h6 : l.kind = 6
  rotate_left
  · simp [h, h6]
  by_cases h7 : (l.parts.length : Int) > 7
  · simp [h, h6, h7]
  obtain ⟨hw, hv⟩ := ask_val hl h
  have h42 := f42 l w b hw hv
  by_cases hg : largeS l w = 0
  rotate_left
  · simp [h, h6, h7, h42, hg]
  have hs := small_of b hl h h6 h7 hg
  have hok : okO l.parts.length [] := fun k hk => by cases hk
  have h68 := f68 hs.len l.parts.length [] (by simp)
  have hlen := ordsF_len hs.len l.parts.length []
  have hp7 : (7 : Nat) ^ l.parts.length ≤ 7 ^ 7 := Nat.pow_le_pow_right (by omega) hs.len
  have e7 : (7 : Nat) ^ 7 = 823543 := by decide
  have h15 := f36b w b l hs (ordsF l.parts.length l.parts.length []) (by omega) (fun o ho => by
    obtain ⟨m1, m2⟩ := ordsF_mem hok ho
    have := hs.len
    exact ⟨m1, by simp at m2; omega⟩) _ 0 (-1, []) rfl
  simp only [Int.natCast_zero, Int.ofNat_eq_natCast, List.drop_zero] at h15
  rw [hg] at h42
  simp only [h, h6, h7, h42, hg, bne_self_eq_false, decide_false, Option.bind_eq_bind, Option.bind_some, Option.bind_none, if_true, if_false, Bool.false_eq_true, Bool.true_eq_false, Int.toNat_natCast, Int.natCast_nonneg, beq_iff_eq, decide_eq_true_eq, Int.ofNat_lt, h68, h15]

theorem best_len {f : List Int → Int} {c : Nat} : ∀ (L : List (List Int)) (s : Int × List Int), s.2.length ≤ c → (∀ o ∈ L, o.length ≤ c) → (L.foldl (bestR f) s).2.length ≤ c
  | [], s, h, _ => h
  | o :: r, s, h, ho => by
    refine best_len r _ ?_ fun x hx => ho x (List.mem_cons_of_mem _ hx)
    unfold bestR
    split
    · exact ho o List.mem_cons_self
    · exact h

theorem re_len (l : Layout) (w : Int) : (reS l w).1.length ≤ 9223372036854775807 := by
  unfold reS
  split
  · split
    · split
      · simp
      · rename_i h7
        split
        · refine best_len _ _ (by simp) fun o ho => ?_
          have hok : okO l.parts.length [] := fun k hk => by cases hk
          have := (ordsF_mem hok ho).2
          simp at this
          omega
        · simp
    · simp
  · simp

/-- THE LAW on orders. -/
theorem law9 (l : Layout) (t : Target) (hl : l.Fits) : n_9 (l, t, ()) = some (true, ()) := by
  obtain ⟨w, b⟩ := t
  unfold n_9
  simp only [f11 l hl, Option.bind_eq_bind, Option.bind_some, Option.bind_none, if_true, if_false, Bool.false_eq_true, Bool.true_eq_false, Int.toNat_natCast, Int.natCast_nonneg, beq_iff_eq, decide_eq_true_eq, Int.ofNat_lt]
  cases ho : overS l
  · have hf := fine_of hl ho
    simp [f35 l w b hf, f36 l w b hf, f31 _ _ (re_len l w), f12]
  · simp [f12]

theorem layReorders_true (l : Layout) (t : Target) (h0 : Go.Tx.Ok vw (.st .layoutT) l) (h1 : Go.Tx.Ok vw (.st .targetT) t) : n_9 (l, t, ()) = some (true, ()) := law9 l t (fits_of_ok l h0)

end Go.Proofs.Ytdknkfioigcfiaa
