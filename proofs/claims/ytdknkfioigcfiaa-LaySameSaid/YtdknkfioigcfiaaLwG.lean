/-
  What the functions on layouts compute: depth, counts, cells, all layouts, the look, what is right, Validate.
-/
import Derived.Test.YtdknkfioigcfiaaLwF
namespace Go.Proofs.Ytdknkfioigcfiaa
set_option linter.unusedSimpArgs false
set_option linter.unusedVariables false
set_option maxRecDepth 20000

theorem f37 : ∀ (n : Nat) (l : Layout), n ≤ 30 → l.Fits → n_37 (l, n, ()) = some (depthS n l, ()) := by
  intro n
  induction n with
  | zero =>
    intro l hn hl
    have h : n_37l3 (0, 0, 0, l, ()) = some (0, ()) := by
      rw [n_37l3]
      by_cases hlt : 0 < l.parts.length
      · have g : (0 : Int) < (l.parts.length : Int) := by omega
        simp [g]
      · have g : ¬ (0 : Int) < (l.parts.length : Int) := by omega
        simp [g]
    rw [n_37]
    simp only [Int.natCast_zero, Int.ofNat_eq_natCast, List.drop_zero, h, Option.bind_eq_bind, Option.bind_some, Option.bind_none, if_true, if_false, Bool.false_eq_true, Bool.true_eq_false, Int.toNat_natCast, Int.natCast_nonneg, beq_iff_eq, decide_eq_true_eq, Int.ofNat_lt, depthS]
    rfl
  | succ n ih =>
    intro l hn hl
    have loop : ∀ (m k : Nat) (a : Int), l.parts.length - k = m → 0 ≤ a → a ≤ 31 → n_37l3 (((n + 1 : Nat) : Int), a, k, l, ()) = some ((l.parts.drop k).foldl (fun a p => max a (depthS n p)) a, ()) := by
      intro m
      induction m with
      | zero =>
        intro k a hk h0 h1
        have hlt : ¬ k < l.parts.length := by omega
        obtain ⟨hd, g1⟩ := at_end hlt
        rw [n_37l3]
        simp [hlt, hd]
      | succ m ihm =>
        intro k a hk h0 h1
        have hlt : k < l.parts.length := by omega
        obtain ⟨p, hp, hm, hd, g1, g2⟩ := at_lt hlt
        have e1 : IntKind.i64.wrap (((n + 1 : Nat) : Int) - 1) = (n : Int) := (wrap64 (by omega) (by omega)).trans (by omega)
        have e2 : ((n + 1 : Nat) : Int) > 0 := by omega
        have hb := depthS_le n p
        rw [n_37l3]
        simp only [Option.bind_eq_bind, Option.bind_some, Option.bind_none, if_true, if_false, Bool.false_eq_true, Bool.true_eq_false, Int.toNat_natCast, Int.natCast_nonneg, beq_iff_eq, decide_eq_true_eq, Int.ofNat_lt, g1, g2, hlt, e1, e2, hp, ih p (by omega) (hl.part hm), wrap_succ hlt hl.len, hd, List.foldl_cons, decide_true]
        exact ihm (k + 1) _ (by omega) (by omega) (by omega)
    have h := loop _ 0 0 rfl (by omega) (by omega)
    have hb := depthS_le (n + 1) l
    have e1 : IntKind.i64.wrap (depthS (n + 1) l) = depthS (n + 1) l := wrap64 (by omega) (by omega)
    rw [n_37]
    simp only [Int.natCast_zero, Int.ofNat_eq_natCast, List.drop_zero] at h
    simp only [h, Option.bind_eq_bind, Option.bind_some, Option.bind_none, if_true, if_false, Bool.false_eq_true, Bool.true_eq_false, Int.toNat_natCast, Int.natCast_nonneg, beq_iff_eq, decide_eq_true_eq, Int.ofNat_lt]
    exact congrArg (fun x => some (x, ())) e1

theorem f38 : ∀ (l : Layout) (n : Int), n ≤ 1000000 → -1000000 ≤ n → l.Fits → n_38 (l, n, ()) = some (l.count n, ()) := by
  refine Layout.ind fun l ih n hn hn' hl => ?_
  have loop : ∀ (m k : Nat) (a : Int), l.parts.length - k = m → 1 ≤ a → a ≤ max 1 n → n_38l3 (n, a, k, l, ()) = some (Layout.countL (l.parts.drop k) n a, ()) := by
    intro m
    induction m with
    | zero =>
      intro k a hk h0 h1
      have hlt : ¬ k < l.parts.length := by omega
      obtain ⟨hd, g1⟩ := at_end hlt
      rw [n_38l3]
      simp [hlt, hd, Layout.countL]
    | succ m ihm =>
      intro k a hk h0 h1
      have hlt : k < l.parts.length := by omega
      obtain ⟨p, hp, hm, hd, g1, g2⟩ := at_lt hlt
      rw [n_38l3, hd, Layout.countL]
      by_cases hc : a < n
      · have b := p.count_le (n - a)
        have e1 : IntKind.i64.wrap (n - a) = n - a := wrap64 (by omega) (by omega)
        have e2 : IntKind.i64.wrap (a + p.count (n - a)) = a + p.count (n - a) := wrap64 (by omega) (by omega)
        simp only [Option.bind_eq_bind, Option.bind_some, Option.bind_none, if_true, if_false, Bool.false_eq_true, Bool.true_eq_false, Int.toNat_natCast, Int.natCast_nonneg, beq_iff_eq, decide_eq_true_eq, Int.ofNat_lt, g1, g2, hlt, hc, e1, hp, ih p hm (n - a) (by omega) (by omega) (hl.part hm), e2, wrap_succ hlt hl.len, decide_true]
        exact ihm (k + 1) _ (by omega) (by omega) (by omega)
      · simp only [Option.bind_eq_bind, Option.bind_some, Option.bind_none, if_true, if_false, Bool.false_eq_true, Bool.true_eq_false, Int.toNat_natCast, Int.natCast_nonneg, beq_iff_eq, decide_eq_true_eq, Int.ofNat_lt, hlt, hc, decide_false]
  have h := loop _ 0 1 rfl (by omega) (by omega)
  rw [n_38]
  simp only [Int.natCast_zero, Int.ofNat_eq_natCast, List.drop_zero] at h
  simp only [h, Option.bind_eq_bind, Option.bind_some, Option.bind_none, if_true, if_false, Bool.false_eq_true, Bool.true_eq_false, Int.toNat_natCast, Int.natCast_nonneg, beq_iff_eq, decide_eq_true_eq, Int.ofNat_lt, l.count_eq]

theorem f11 (l : Layout) (hl : l.Fits) : n_11 (l, ()) = some (overS l, ()) := by
  have h1 := f37 30 l (by omega) hl
  have h2 := f38 l 600 (by omega) (by omega) hl
  have e : ((30 : Nat) : Int) = 30 := rfl
  rw [e] at h1
  simp only [n_11, h1, h2, Option.bind_eq_bind, Option.bind_some, Option.bind_none, if_true, if_false, Bool.false_eq_true, Bool.true_eq_false, Int.toNat_natCast, Int.natCast_nonneg, beq_iff_eq, decide_eq_true_eq, Int.ofNat_lt, overS]
  by_cases h : depthS 30 l > 20 <;> simp [h]

theorem f47 : ∀ (l : Layout), l.Fits → l.depth ≤ 1000000 → n_47 (l, ()) = some ((l.depth : Int), ()) := by
  refine Layout.ind fun l ih hl hd0 => ?_
  have loop : ∀ (m k : Nat) (a : Int), l.parts.length - k = m → 0 ≤ a → n_47l3 (a, k, l, ()) = some (max a (Layout.depthL (l.parts.drop k)), ()) := by
    intro m
    induction m with
    | zero =>
      intro k a hk h0
      have hlt : ¬ k < l.parts.length := by omega
      obtain ⟨hd, g1⟩ := at_end hlt
      rw [n_47l3]
      simp only [Option.bind_eq_bind, Option.bind_some, Option.bind_none, if_true, if_false, Bool.false_eq_true, Bool.true_eq_false, Int.toNat_natCast, Int.natCast_nonneg, beq_iff_eq, decide_eq_true_eq, Int.ofNat_lt, hlt, hd, Layout.depthL]
      have : max a (0 : Nat) = a := by omega
      rw [this]
    | succ m ihm =>
      intro k a hk h0
      have hlt : k < l.parts.length := by omega
      obtain ⟨p, hp, hm, hd, g1, g2⟩ := at_lt hlt
      have := Layout.depth_mem hm
      rw [n_47l3]
      simp only [Option.bind_eq_bind, Option.bind_some, Option.bind_none, if_true, if_false, Bool.false_eq_true, Bool.true_eq_false, Int.toNat_natCast, Int.natCast_nonneg, beq_iff_eq, decide_eq_true_eq, Int.ofNat_lt, g1, g2, hlt, hp, ih p hm (hl.part hm) (by omega), wrap_succ hlt hl.len, hd, Layout.depthL]
      rw [ihm (k + 1) _ (by omega) (by omega)]
      have e : max (max a (p.depth : Int)) ((Layout.depthL (l.parts.drop (k + 1)) : Nat) : Int) = max a ((max p.depth (Layout.depthL (l.parts.drop (k + 1))) : Nat) : Int) := by omega
      rw [e]
  have h := loop _ 0 0 rfl (by omega)
  have e := l.depth_eq
  simp only [Int.natCast_zero, Int.ofNat_eq_natCast, List.drop_zero] at h
  have e1 : IntKind.i64.wrap (max 0 ((Layout.depthL l.parts : Nat) : Int) + 1) = (l.depth : Int) := by rw [wrap64 (by omega) (by omega)]; omega
  rw [n_47]
  simp only [h, Option.bind_eq_bind, Option.bind_some, Option.bind_none, if_true, if_false, Bool.false_eq_true, Bool.true_eq_false, Int.toNat_natCast, Int.natCast_nonneg, beq_iff_eq, decide_eq_true_eq, Int.ofNat_lt, e1]

theorem f48 : ∀ (l : Layout), l.Fits → l.arr → n_48 (l, ()) = some (min far l.cells, ()) := by
  refine Layout.ind fun l ih hl hr => ?_
  have hf : far = 1099511627776 := rfl
  have loop : ∀ (m k : Nat) (a : Int), l.parts.length - k = m → 0 ≤ a → a ≤ far → n_48l3 (a, l.parts, l.parts.length, k, l, ()) = some (min far (a + Layout.cellsL (l.parts.drop k)), l, ()) := by
    intro m
    induction m with
    | zero =>
      intro k a hk h0 h1
      have hlt : ¬ k < l.parts.length := by omega
      obtain ⟨hd, g1⟩ := at_end hlt
      rw [n_48l3]
      have e : min far (a + 0) = a := by omega
      simp only [Option.bind_eq_bind, Option.bind_some, Option.bind_none, if_true, if_false, Bool.false_eq_true, Bool.true_eq_false, Int.toNat_natCast, Int.natCast_nonneg, beq_iff_eq, decide_eq_true_eq, Int.ofNat_lt, hlt, hd, Layout.cellsL, e]
    | succ m ihm =>
      intro k a hk h0 h1
      have hlt : k < l.parts.length := by omega
      obtain ⟨p, hp, hm, hd, g1, g2⟩ := at_lt hlt
      have b1 := p.cells_pos
      have b2 := Layout.cellsL_nonneg (l.parts.drop (k + 1))
      rw [n_48l3]
      simp only [Option.bind_eq_bind, Option.bind_some, Option.bind_none, if_true, if_false, Bool.false_eq_true, Bool.true_eq_false, Int.toNat_natCast, Int.natCast_nonneg, beq_iff_eq, decide_eq_true_eq, Int.ofNat_lt, g1, g2, hlt, hp, ih p hm (hl.part hm) (hr.part hm), f72p h0 (show (0 : Int) ≤ min far p.cells by omega), wrap_succ hlt hl.len, hd, Layout.cellsL]
      rw [ihm (k + 1) _ (by omega) (by omega) (by omega)]
      have e : min far (min far (a + min far p.cells) + Layout.cellsL (l.parts.drop (k + 1))) = min far (a + (p.cells + Layout.cellsL (l.parts.drop (k + 1)))) := by omega
      rw [e]
  have h := loop _ 0 0 rfl (by omega) (by decide)
  simp only [Int.natCast_zero, Int.ofNat_eq_natCast, List.drop_zero, Int.zero_add] at h
  have b2 := Layout.cellsL_nonneg l.parts
  rw [n_48]
  simp only [h, Option.bind_eq_bind, Option.bind_some, Option.bind_none, if_true, if_false, Bool.false_eq_true, Bool.true_eq_false, Int.toNat_natCast, Int.natCast_nonneg, beq_iff_eq, decide_eq_true_eq, Int.ofNat_lt]
  have b0 : 0 ≤ min far (Layout.cellsL l.parts) := by omega
  by_cases h5 : l.kind = 5
  · have hn := hr.self h5
    have b3 : 0 ≤ max 0 l.n * min far (Layout.cellsL l.parts) := Int.mul_nonneg (by omega) b0
    have b4 : max 0 l.n * min far (Layout.cellsL l.parts) ≤ 1000000 * 1099511627776 := Int.mul_le_mul (by omega) (by omega) b0 (by decide)
    have e1 : IntKind.i64.wrap (max 0 l.n * min far (Layout.cellsL l.parts)) = max 0 l.n * min far (Layout.cellsL l.parts) := wrap64 (by omega) (by omega)
    rw [if_pos h5, e1, f72p (by omega) b3, sat_mul (by omega) b2 (by decide), l.cells_eq, if_pos h5]
    rfl
  · rw [if_neg h5, f72p (by omega) b0]
    have e1 : min far (1 + min far (Layout.cellsL l.parts)) = min far l.cells := by rw [l.cells_eq, if_neg h5]; omega
    rw [e1]
    rfl

theorem f50 : ∀ (l : Layout), l.Fits → n_50 (l, ()) = some (min 100000 l.cells, ()) := by
  refine Layout.ind fun l ih hl => ?_
  have loop : ∀ (m k : Nat) (a : Int), l.parts.length - k = m → 0 ≤ a → a ≤ 100000 → n_50l3 (a, k, l, ()) = some (min 100000 (a + Layout.cellsL (l.parts.drop k)), l, ()) := by
    intro m
    induction m with
    | zero =>
      intro k a hk h0 h1
      have hlt : ¬ k < l.parts.length := by omega
      obtain ⟨hd, g1⟩ := at_end hlt
      rw [n_50l3]
      have e : min 100000 (a + 0) = a := by omega
      simp only [Option.bind_eq_bind, Option.bind_some, Option.bind_none, if_true, if_false, Bool.false_eq_true, Bool.true_eq_false, Int.toNat_natCast, Int.natCast_nonneg, beq_iff_eq, decide_eq_true_eq, Int.ofNat_lt, hlt, hd, Layout.cellsL, e]
    | succ m ihm =>
      intro k a hk h0 h1
      have hlt : k < l.parts.length := by omega
      obtain ⟨p, hp, hm, hd, g1, g2⟩ := at_lt hlt
      have b1 := p.cells_pos
      have b2 := Layout.cellsL_nonneg (l.parts.drop (k + 1))
      have e1 : IntKind.i64.wrap (a + min 100000 p.cells) = a + min 100000 p.cells := wrap64 (by omega) (by omega)
      rw [n_50l3]
      simp only [Option.bind_eq_bind, Option.bind_some, Option.bind_none, if_true, if_false, Bool.false_eq_true, Bool.true_eq_false, Int.toNat_natCast, Int.natCast_nonneg, beq_iff_eq, decide_eq_true_eq, Int.ofNat_lt, g1, g2, hlt, hp, ih p hm (hl.part hm), e1, wrap_succ hlt hl.len, hd, Layout.cellsL]
      rw [ihm (k + 1) _ (by omega) (by omega) (by omega)]
      have e : min 100000 (min (a + min 100000 p.cells) 100000 + Layout.cellsL (l.parts.drop (k + 1))) = min 100000 (a + (p.cells + Layout.cellsL (l.parts.drop (k + 1)))) := by omega
      rw [e]
  have h := loop _ 0 0 rfl (by omega) (by decide)
  simp only [Int.natCast_zero, Int.ofNat_eq_natCast, List.drop_zero, Int.zero_add] at h
  have b2 := Layout.cellsL_nonneg l.parts
  rw [n_50]
  simp only [h, Option.bind_eq_bind, Option.bind_some, Option.bind_none, if_true, if_false, Bool.false_eq_true, Bool.true_eq_false, Int.toNat_natCast, Int.natCast_nonneg, beq_iff_eq, decide_eq_true_eq, Int.ofNat_lt]
  have b0 : 0 ≤ min 100000 (Layout.cellsL l.parts) := by omega
  by_cases h5 : l.kind = 5
  · have b3 : 0 ≤ min (max l.n 0) 100000 * min 100000 (Layout.cellsL l.parts) := Int.mul_nonneg (by omega) b0
    have b4 : min (max l.n 0) 100000 * min 100000 (Layout.cellsL l.parts) ≤ 100000 * 100000 := Int.mul_le_mul (by omega) (by omega) b0 (by decide)
    have e1 : IntKind.i64.wrap (min (max l.n 0) 100000 * min 100000 (Layout.cellsL l.parts)) = min (max l.n 0) 100000 * min 100000 (Layout.cellsL l.parts) := wrap64 (by omega) (by omega)
    have e2 : IntKind.i64.wrap (min (max l.n 0) 100000 * min 100000 (Layout.cellsL l.parts) + 1) = min (max l.n 0) 100000 * min 100000 (Layout.cellsL l.parts) + 1 := wrap64 (by omega) (by omega)
    have e3 : min (min (max l.n 0) 100000 * min 100000 (Layout.cellsL l.parts) + 1) 100000 = min 100000 l.cells := by
      rw [sat_mul' (by omega) b2 (by decide), l.cells_eq, if_pos h5, show max l.n 0 = max 0 l.n by omega]
    simp only [h5, Option.bind_eq_bind, Option.bind_some, Option.bind_none, if_true, if_false, Bool.false_eq_true, Bool.true_eq_false, Int.toNat_natCast, Int.natCast_nonneg, beq_iff_eq, decide_eq_true_eq, Int.ofNat_lt, e1, e2, e3]
  · have e2 : IntKind.i64.wrap (min 100000 (Layout.cellsL l.parts) + 1) = min 100000 (Layout.cellsL l.parts) + 1 := wrap64 (by omega) (by omega)
    have e3 : min (min 100000 (Layout.cellsL l.parts) + 1) 100000 = min 100000 l.cells := by rw [l.cells_eq, if_neg h5]; omega
    simp only [h5, Option.bind_eq_bind, Option.bind_some, Option.bind_none, if_true, if_false, Bool.false_eq_true, Bool.true_eq_false, Int.toNat_natCast, Int.natCast_nonneg, beq_iff_eq, decide_eq_true_eq, Int.ofNat_lt, e2, e3]

theorem f46 : ∀ (l : Layout), l.Fits → l.all.length ≤ 1000000 → n_46 (l, ()) = some (l.all, ()) := by
  refine Layout.ind fun l ih hl hsz => ?_
  have loop : ∀ (m k : Nat) (acc : List Layout), l.parts.length - k = m → acc ++ Layout.allL (l.parts.drop k) = l.all → n_46l3 (k, l, acc, ()) = some (l.all, ()) := by
    intro m
    induction m with
    | zero =>
      intro k acc hk ha
      have hlt : ¬ k < l.parts.length := by omega
      obtain ⟨hd, g1⟩ := at_end hlt
      rw [hd, Layout.allL, List.append_nil] at ha
      rw [n_46l3]
      simp only [Option.bind_eq_bind, Option.bind_some, Option.bind_none, if_true, if_false, Bool.false_eq_true, Bool.true_eq_false, Int.toNat_natCast, Int.natCast_nonneg, beq_iff_eq, decide_eq_true_eq, Int.ofNat_lt, hlt, ha]
    | succ m ihm =>
      intro k acc hk ha
      have hlt : k < l.parts.length := by omega
      obtain ⟨p, hp, hm, hd, g1, g2⟩ := at_lt hlt
      rw [hd, Layout.allL, ← List.append_assoc] at ha
      have hsz2 : acc.length + p.all.length ≤ 1000000 := by
        have := congrArg List.length ha
        simp only [List.length_append] at this
        omega
      have hle : acc.length + p.all.length ≤ 4294967296 := by omega
      rw [n_46l3]
      simp only [Option.bind_eq_bind, Option.bind_some, Option.bind_none, if_true, if_false, Bool.false_eq_true, Bool.true_eq_false, Int.toNat_natCast, Int.natCast_nonneg, beq_iff_eq, decide_eq_true_eq, Int.ofNat_lt, g1, g2, hlt, hp, ih p hm (hl.part hm) (by omega), wrap_succ hlt hl.len, hle]
      exact ihm (k + 1) _ (by omega) ha
  have h := loop _ 0 [l] rfl (by rw [l.all_eq]; rfl)
  simp only [Int.natCast_zero, Int.ofNat_eq_natCast, List.drop_zero] at h
  rw [n_46]
  simp only [h, Option.bind_eq_bind, Option.bind_some, Option.bind_none, if_true, if_false, Bool.false_eq_true, Bool.true_eq_false, Int.toNat_natCast, Int.natCast_nonneg, beq_iff_eq, decide_eq_true_eq, Int.ofNat_lt]

theorem f45l (dep : Int) (c : Counted) (l : Layout) (ps : List Layout) (hn : ps.length ≤ 9223372036854775807) (k : Nat) (a : Int) (h0 : 0 ≤ a) (h1 : a ≤ far) :
    n_45sf4a5l14 (dep, a, ps, ps.length, k, c, l, ()) = some (dep, min far (a + sumBits (ps.drop k)), c, l, ()) := by
  have hf : far = 1099511627776 := rfl
  rw [n_45sf4a5l14]
  by_cases hlt : k < ps.length
  · obtain ⟨p, hp, hm, hd, g1, g2⟩ := at_lt hlt
    have b1 := bitsS_nonneg p
    have b2 := sumBits_nonneg (ps.drop (k + 1))
    simp only [Option.bind_eq_bind, Option.bind_some, Option.bind_none, if_true, if_false, Bool.false_eq_true, Bool.true_eq_false, Int.toNat_natCast, Int.natCast_nonneg, beq_iff_eq, decide_eq_true_eq, Int.ofNat_lt, g1, g2, hlt, hp, f56, f72p h0 b1, wrap_succ hlt hn]
    rw [f45l dep c l ps hn (k + 1) _ (by omega) (by omega), hd, sumBits]
    have e : min far (min far (a + bitsS p) + sumBits (ps.drop (k + 1))) = min far (a + (bitsS p + sumBits (ps.drop (k + 1)))) := by omega
    rw [e]
  · obtain ⟨hd, g1⟩ := at_end hlt
    have e : min far (a + 0) = a := by omega
    simp only [Option.bind_eq_bind, Option.bind_some, Option.bind_none, if_true, if_false, Bool.false_eq_true, Bool.true_eq_false, Int.toNat_natCast, Int.natCast_nonneg, beq_iff_eq, decide_eq_true_eq, Int.ofNat_lt, hlt, hd, sumBits, e]
termination_by ps.length - k

def cntS (s : Int × Int × Bool) : Counted := ⟨s.1, s.2.1, s.2.2⟩

theorem f45 : ∀ (l : Layout) (dep c d : Int) (g : Bool), l.Fits → 0 ≤ c → c + l.all.length ≤ 1000000 → 0 ≤ dep → dep + l.depth ≤ 1000000 →
    n_45sf4a5 (l, dep, ⟨c, d, g⟩, ()) = some (cntS (l.look dep c d g), ()) := by
  refine Layout.ind fun l ih dep c d g hl hc0 hc1 hd0 hd1 => ?_
  have hf : far = 1099511627776 := rfl
  have hlen := hl.len
  have loop : ∀ (m k : Nat) (s : Int × Int × Bool), l.parts.length - k = m → 0 ≤ s.1 → s.1 + (Layout.allL (l.parts.drop k)).length ≤ 1000000 →
      n_45sf4a5l21 (dep, l.parts, l.parts.length, k, cntS s, ()) = some (cntS (Layout.lookL (l.parts.drop k) (dep + 1) s), ()) := by
    intro m
    induction m with
    | zero =>
      intro k s hk hs0 hs1
      have hlt : ¬ k < l.parts.length := by omega
      obtain ⟨hd, g1⟩ := at_end hlt
      rw [n_45sf4a5l21]
      simp only [Option.bind_eq_bind, Option.bind_some, Option.bind_none, if_true, if_false, Bool.false_eq_true, Bool.true_eq_false, Int.toNat_natCast, Int.natCast_nonneg, beq_iff_eq, decide_eq_true_eq, Int.ofNat_lt, hlt, hd, Layout.lookL]
    | succ m ihm =>
      intro k s hk hs0 hs1
      have hlt : k < l.parts.length := by omega
      obtain ⟨p, hp, hm, hd, g1, g2⟩ := at_lt hlt
      rw [hd] at hs1 ⊢
      simp only [Layout.allL, List.length_append] at hs1
      have hdp := Layout.depth_mem hm
      have hcnt := p.look_cnt (dep + 1) s.1 s.2.1 s.2.2
      have e3 : IntKind.i64.wrap (dep + 1) = dep + 1 := wrap64 (by omega) (by omega)
      rw [n_45sf4a5l21]
      have hih := ih p hm (dep + 1) s.1 s.2.1 s.2.2 (hl.part hm) hs0 (by omega) (by omega) (by omega)
      simp only [Option.bind_eq_bind, Option.bind_some, Option.bind_none, if_true, if_false, Bool.false_eq_true, Bool.true_eq_false, Int.toNat_natCast, Int.natCast_nonneg, beq_iff_eq, decide_eq_true_eq, Int.ofNat_lt, g1, g2, hlt, hp, e3]
      have : (cntS s) = ⟨s.1, s.2.1, s.2.2⟩ := rfl
      rw [this, hih]
      simp only [Option.bind_eq_bind, Option.bind_some, Option.bind_none, if_true, if_false, Bool.false_eq_true, Bool.true_eq_false, Int.toNat_natCast, Int.natCast_nonneg, beq_iff_eq, decide_eq_true_eq, Int.ofNat_lt, wrap_succ hlt hlen, Layout.lookL]
      exact ihm (k + 1) _ (by omega) (by omega) (by omega)
  have hall : 1 ≤ l.all.length := by rw [l.all_eq]; simp
  have e1 : IntKind.i64.wrap (c + 1) = c + 1 := wrap64 (by omega) (by omega)
  have h14 := f45l dep ⟨c + 1, max d dep, g || decide (c + 1 > 60) || decide (dep > 5) || decide ((l.parts.length : Int) > 12)⟩ l l.parts hlen 0 0 (by omega) (by decide)
  simp only [Int.natCast_zero, Int.ofNat_eq_natCast, List.drop_zero, Int.zero_add] at h14
  -- the first part
  have p1 : (if g = true then some (dep, Counted.mk (IntKind.i64.wrap (c + (1 : Int))) (max d dep) true, l, ())
      else if decide (IntKind.i64.wrap (c + (1 : Int)) > (60 : Int)) = true then some (dep, Counted.mk (IntKind.i64.wrap (c + (1 : Int))) (max d dep) true, l, ())
      else if decide (dep > (5 : Int)) = true then some (dep, Counted.mk (IntKind.i64.wrap (c + (1 : Int))) (max d dep) true, l, ())
      else some (dep, Counted.mk (IntKind.i64.wrap (c + (1 : Int))) (max d dep) (decide ((l.parts.length : Int) > (12 : Int))), l, ())) =
      some (dep, (⟨c + 1, max d dep, g || decide (c + 1 > 60) || decide (dep > 5) || decide ((l.parts.length : Int) > 12)⟩ : Counted), l, ()) := by
    rw [e1]
    cases g
    · by_cases h1 : c + 1 > 60
      · simp [h1]
      · by_cases h2 : dep > 5
        · simp [h1, h2]
        · simp [h1, h2]
    · simp
  rw [n_45sf4a5]
  simp only []
  rw [p1]
  simp only [Option.bind_eq_bind, Option.bind_some, Option.bind_none, if_true, if_false, Bool.false_eq_true, Bool.true_eq_false, Int.toNat_natCast, Int.natCast_nonneg, beq_iff_eq, decide_eq_true_eq, Int.ofNat_lt]
  rw [l.look_eq]
  generalize hg1 : (g || decide (c + 1 > 60) || decide (dep > 5) || decide ((l.parts.length : Int) > 12)) = g1 at h14 ⊢
  -- the second part
  have p2 : ∀ {B : Type} (K : Int × Counted × Layout × Unit → Option B), (((if l.kind = 2 then (if g1 = true then some (dep, Counted.mk (c + 1) (max d dep) true, l, ()) else some (dep, Counted.mk (c + 1) (max d dep) (decide (l.n > 64)), l, ())).bind fun x2 => some (x2.fst, x2.snd.fst, x2.snd.snd.fst, ())
      else if l.kind = 5 then (if g1 = true then some (dep, Counted.mk (c + 1) (max d dep) true, l, ()) else some (dep, Counted.mk (c + 1) (max d dep) (decide (l.n > 1000)), l, ())).bind fun x2 => some (x2.fst, x2.snd.fst, x2.snd.snd.fst, ())
      else if l.kind = 7 then (if g1 = true then some (dep, Counted.mk (c + 1) (max d dep) true, l, ()) else some (dep, Counted.mk (c + 1) (max d dep) (decide (l.n > 65536)), l, ())).bind fun x2 => some (x2.fst, x2.snd.fst, x2.snd.snd.fst, ())
      else if l.kind = 9 then (n_45sf4a5l14 (dep, 0, l.parts, (l.parts.length : Int), 0, ⟨c + 1, max d dep, g1⟩, l, ())).bind fun x2 => (if x2.snd.snd.fst.large = true then some (x2.fst, Counted.mk x2.snd.snd.fst.count x2.snd.snd.fst.deep true, x2.snd.snd.snd.fst, ()) else some (x2.fst, Counted.mk x2.snd.snd.fst.count x2.snd.snd.fst.deep (decide (x2.snd.fst > 64)), x2.snd.snd.snd.fst, ())).bind fun x3 => some (x3.fst, x3.snd.fst, x3.snd.snd.fst, ())
      else some (dep, (⟨c + 1, max d dep, g1⟩ : Counted), l, ())) : Option (Int × Counted × Layout × Unit)).bind K) = K (dep, ⟨c + 1, max d dep, g1 || l.big1⟩, l, ()) := by
    intro B K
    by_cases h2 : l.kind = 2
    · have e2 : l.big1 = decide (l.n > 64) := by simp [Layout.big1, h2]
      rw [e2]; cases g1 <;> simp [h2]
    by_cases h5 : l.kind = 5
    · have e2 : l.big1 = decide (l.n > 1000) := by simp [Layout.big1, h5]
      rw [e2]; cases g1 <;> simp [h5]
    by_cases h7 : l.kind = 7
    · have e2 : l.big1 = decide (l.n > 65536) := by simp [Layout.big1, h7]
      rw [e2]; cases g1 <;> simp [h7]
    by_cases h9 : l.kind = 9
    · have e2 : l.big1 = decide (min far (sumBits l.parts) > 64) := by simp [Layout.big1, h9]
      rw [e2, h14]; cases g1 <;> simp [h9]
    · have e2 : l.big1 = false := by simp [Layout.big1, h2, h5, h7, h9]
      simp [h2, h5, h7, h9, e2]
  rw [p2]
  simp only []
  cases hg2 : (g1 || l.big1) with
  | true => simp [cntS]
  | false =>
    have h := loop _ 0 (c + 1, max d dep, false) rfl (by simp only []; omega) (by rw [l.all_eq, List.length_cons] at hc1; simp only [List.drop_zero]; omega)
    simp only [Int.natCast_zero, Int.ofNat_eq_natCast, List.drop_zero, cntS] at h
    simp only [Option.bind_eq_bind, Option.bind_some, Option.bind_none, if_true, if_false, Bool.false_eq_true, Bool.true_eq_false, Int.toNat_natCast, Int.natCast_nonneg, beq_iff_eq, decide_eq_true_eq, Int.ofNat_lt, h]
    rfl

end Go.Proofs.Ytdknkfioigcfiaa
