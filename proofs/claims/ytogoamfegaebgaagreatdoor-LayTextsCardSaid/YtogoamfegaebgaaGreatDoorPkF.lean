/-
  Texts of this claim, joined by a program of mine: what the theorem uses.
-/
import Derived.Test.YtogoamfegaebgaaGreatDoorPkE
import Derived.Test.YtogoamfegaebgaaGreatDoorPkD
import Derived.Lib.Join
import Derived.Lib.AtoiAll
import Derived.Test.YtogoamfegaebgaaGreatDoorCards
import Derived.Test.YtogoamfegaebgaaGreatDoorTie
import Derived.ProofKit
import Derived.OpenShut
import Derived.LaidMore
import Derived.Lay
import Derived.SevenTiedAt
import Derived.Stop.Joined
set_option linter.unusedSimpArgs false
set_option linter.unusedVariables false
section
namespace Go.Proofs.YtogoamfegaebgaaGreatDoor
open IntKind (i64)
set_option maxRecDepth 20000
theorem f37 : ∀ (n : Nat) (l : Layout), n ≤ 30 → l.Fits → n_11 (l, n, ()) = some (depthS n l, ()) := by
 intro n
 induction n with
 | zero =>
  intro l hn hl
  have h : n_11l3 (0, 0, 0, l, ()) = some (0, ()) := by
   rw [n_11l3]
   by_cases hlt : 0 < l.parts.length
   ·have g : (0 : Int) < (l.parts.length : Int) := by omega
    simp [g]
   ·have g : ¬ (0 : Int) < (l.parts.length : Int) := by omega
    simp [g]
  rw [n_11]
  simp only [Int.natCast_zero, Int.ofNat_eq_natCast, List.drop_zero, h, Option.bind_eq_bind, Option.bind_some, Option.bind_none, if_true, if_false, Bool.false_eq_true, Bool.true_eq_false, Int.toNat_natCast, Int.natCast_nonneg, beq_iff_eq, decide_eq_true_eq, Int.ofNat_lt, depthS]
  rfl
 | succ n ih =>
  intro l hn hl
  have loop : ∀ (m k : Nat) (a : Int), l.parts.length - k = m → 0 ≤ a → a ≤ 31 → n_11l3 (((n + 1 : Nat) : Int), a, k, l, ()) = some ((l.parts.drop k).foldl (fun a p => max a (depthS n p)) a, ()) := by
   intro m
   induction m with
   | zero =>
    intro k a hk h0 h1
    have hlt : ¬ k < l.parts.length := by omega
    obtain ⟨hd, g1⟩ := at_end hlt
    rw [n_11l3]
    simp [hlt, hd]
   | succ m ihm =>
    intro k a hk h0 h1
    have hlt : k < l.parts.length := by omega
    obtain ⟨p, hp, hm, hd, g1, g2⟩ := at_lt hlt
    have e1 : i64.wrap (((n + 1 : Nat) : Int) - 1) = (n : Int) := (wrap64 (by omega) (by omega)).trans (by omega)
    have e2 : ((n + 1 : Nat) : Int) > 0 := by omega
    have hb := depthS_le n p
    rw [n_11l3]
    simp only [Option.bind_eq_bind, Option.bind_some, Option.bind_none, if_true, if_false, Bool.false_eq_true, Bool.true_eq_false, Int.toNat_natCast, Int.natCast_nonneg, beq_iff_eq, decide_eq_true_eq, Int.ofNat_lt, g1, g2, hlt, e1, e2, hp, ih p (by omega) (hl.part hm), wrap_succ hlt hl.len, hd, List.foldl_cons, decide_true]
    exact ihm (k + 1) _ (by omega) (by omega) (by omega)
  have h := loop _ 0 0 rfl (by omega) (by omega)
  have hb := depthS_le (n + 1) l
  have e1 : i64.wrap (depthS (n + 1) l) = depthS (n + 1) l := wrap64 (by omega) (by omega)
  rw [n_11]
  simp only [Int.natCast_zero, Int.ofNat_eq_natCast, List.drop_zero] at h
  simp only [h, Option.bind_eq_bind, Option.bind_some, Option.bind_none, if_true, if_false, Bool.false_eq_true, Bool.true_eq_false, Int.toNat_natCast, Int.natCast_nonneg, beq_iff_eq, decide_eq_true_eq, Int.ofNat_lt]
  exact congrArg (fun x => some (x, ())) e1
theorem f38 : ∀ (l : Layout) (n : Int), n ≤ 1000000 → -1000000 ≤ n → l.Fits → n_12 (l, n, ()) = some (l.count n, ()) := by
 refine Layout.ind fun l ih n hn hn' hl => ?_
 have loop : ∀ (m k : Nat) (a : Int), l.parts.length - k = m → 1 ≤ a → a ≤ max 1 n → n_12l3 (n, a, k, l, ()) = some (Layout.countL (l.parts.drop k) n a, ()) := by
  intro m
  induction m with
  | zero =>
   intro k a hk h0 h1
   have hlt : ¬ k < l.parts.length := by omega
   obtain ⟨hd, g1⟩ := at_end hlt
   rw [n_12l3]
   simp [hlt, hd, Layout.countL]
  | succ m ihm =>
   intro k a hk h0 h1
   have hlt : k < l.parts.length := by omega
   obtain ⟨p, hp, hm, hd, g1, g2⟩ := at_lt hlt
   rw [n_12l3, hd, Layout.countL]
   by_cases hc : a < n
   ·have b := p.count_le (n - a)
    have e1 : i64.wrap (n - a) = n - a := wrap64 (by omega) (by omega)
    have e2 : i64.wrap (a + p.count (n - a)) = a + p.count (n - a) := wrap64 (by omega) (by omega)
    simp only [Option.bind_eq_bind, Option.bind_some, Option.bind_none, if_true, if_false, Bool.false_eq_true, Bool.true_eq_false, Int.toNat_natCast, Int.natCast_nonneg, beq_iff_eq, decide_eq_true_eq, Int.ofNat_lt, g1, g2, hlt, hc, e1, hp, ih p hm (n - a) (by omega) (by omega) (hl.part hm), e2, wrap_succ hlt hl.len, decide_true]
    exact ihm (k + 1) _ (by omega) (by omega) (by omega)
   ·simp only [Option.bind_eq_bind, Option.bind_some, Option.bind_none, if_true, if_false, Bool.false_eq_true, Bool.true_eq_false, Int.toNat_natCast, Int.natCast_nonneg, beq_iff_eq, decide_eq_true_eq, Int.ofNat_lt, hlt, hc, decide_false]
 have h := loop _ 0 1 rfl (by omega) (by omega)
 rw [n_12]
 simp only [Int.natCast_zero, Int.ofNat_eq_natCast, List.drop_zero] at h
 simp only [h, Option.bind_eq_bind, Option.bind_some, Option.bind_none, if_true, if_false, Bool.false_eq_true, Bool.true_eq_false, Int.toNat_natCast, Int.natCast_nonneg, beq_iff_eq, decide_eq_true_eq, Int.ofNat_lt, l.count_eq]
theorem f11 (l : Layout) (hl : l.Fits) : n_4 (l, ()) = some (overS l, ()) := by
 have h1 := f37 30 l (by omega) hl
 have h2 := f38 l 600 (by omega) (by omega) hl
 have e : ((30 : Nat) : Int) = 30 := rfl
 rw [e] at h1
 simp only [n_4, h1, h2, Option.bind_eq_bind, Option.bind_some, Option.bind_none, if_true, if_false, Bool.false_eq_true, Bool.true_eq_false, Int.toNat_natCast, Int.natCast_nonneg, beq_iff_eq, decide_eq_true_eq, Int.ofNat_lt, overS]
 by_cases h : depthS 30 l > 20 <;> simp [h]
theorem f47 : ∀ (l : Layout), l.Fits → l.depth ≤ 1000000 → n_32 (l, ()) = some ((l.depth : Int), ()) := by
 refine Layout.ind fun l ih hl hd0 => ?_
 have loop : ∀ (m k : Nat) (a : Int), l.parts.length - k = m → 0 ≤ a → n_32l3 (a, k, l, ()) = some (max a (Layout.depthL (l.parts.drop k)), ()) := by
  intro m
  induction m with
  | zero =>
   intro k a hk h0
   have hlt : ¬ k < l.parts.length := by omega
   obtain ⟨hd, g1⟩ := at_end hlt
   rw [n_32l3]
   simp only [Option.bind_eq_bind, Option.bind_some, Option.bind_none, if_true, if_false, Bool.false_eq_true, Bool.true_eq_false, Int.toNat_natCast, Int.natCast_nonneg, beq_iff_eq, decide_eq_true_eq, Int.ofNat_lt, hlt, hd, Layout.depthL]
   have : max a (0 : Nat) = a := by omega
   rw [this]
  | succ m ihm =>
   intro k a hk h0
   have hlt : k < l.parts.length := by omega
   obtain ⟨p, hp, hm, hd, g1, g2⟩ := at_lt hlt
   have := Layout.depth_mem hm
   rw [n_32l3]
   simp only [Option.bind_eq_bind, Option.bind_some, Option.bind_none, if_true, if_false, Bool.false_eq_true, Bool.true_eq_false, Int.toNat_natCast, Int.natCast_nonneg, beq_iff_eq, decide_eq_true_eq, Int.ofNat_lt, g1, g2, hlt, hp, ih p hm (hl.part hm) (by omega), wrap_succ hlt hl.len, hd, Layout.depthL]
   rw [ihm (k + 1) _ (by omega) (by omega)]
   have e : max (max a (p.depth : Int)) ((Layout.depthL (l.parts.drop (k + 1)) : Nat) : Int) = max a ((max p.depth (Layout.depthL (l.parts.drop (k + 1))) : Nat) : Int) := by omega
   rw [e]
 have h := loop _ 0 0 rfl (by omega)
 have e := l.depth_eq
 simp only [Int.natCast_zero, Int.ofNat_eq_natCast, List.drop_zero] at h
 have e1 : i64.wrap (max 0 ((Layout.depthL l.parts : Nat) : Int) + 1) = (l.depth : Int) := by rw [wrap64 (by omega) (by omega)]; omega
 rw [n_32]
 simp only [h, Option.bind_eq_bind, Option.bind_some, Option.bind_none, if_true, if_false, Bool.false_eq_true, Bool.true_eq_false, Int.toNat_natCast, Int.natCast_nonneg, beq_iff_eq, decide_eq_true_eq, Int.ofNat_lt, e1]
theorem f48 : ∀ (l : Layout), l.Fits → l.arr → n_26 (l, ()) = some (min far l.cells, ()) := by
 refine Layout.ind fun l ih hl hr => ?_
 have hf : far = 1099511627776 := rfl
 have loop : ∀ (m k : Nat) (a : Int), l.parts.length - k = m → 0 ≤ a → a ≤ far → n_26l3 (a, l.parts, l.parts.length, k, l, ()) = some (min far (a + Layout.cellsL (l.parts.drop k)), l, ()) := by
  intro m
  induction m with
  | zero =>
   intro k a hk h0 h1
   have hlt : ¬ k < l.parts.length := by omega
   obtain ⟨hd, g1⟩ := at_end hlt
   rw [n_26l3]
   have e : min far (a + 0) = a := by omega
   simp only [Option.bind_eq_bind, Option.bind_some, Option.bind_none, if_true, if_false, Bool.false_eq_true, Bool.true_eq_false, Int.toNat_natCast, Int.natCast_nonneg, beq_iff_eq, decide_eq_true_eq, Int.ofNat_lt, hlt, hd, Layout.cellsL, e]
  | succ m ihm =>
   intro k a hk h0 h1
   have hlt : k < l.parts.length := by omega
   obtain ⟨p, hp, hm, hd, g1, g2⟩ := at_lt hlt
   have b1 := p.cells_pos
   have b2 := Layout.cellsL_nonneg (l.parts.drop (k + 1))
   rw [n_26l3]
   simp only [Option.bind_eq_bind, Option.bind_some, Option.bind_none, if_true, if_false, Bool.false_eq_true, Bool.true_eq_false, Int.toNat_natCast, Int.natCast_nonneg, beq_iff_eq, decide_eq_true_eq, Int.ofNat_lt, g1, g2, hlt, hp, ih p hm (hl.part hm) (hr.part hm), f72p h0 (show (0 : Int) ≤ min far p.cells by omega), wrap_succ hlt hl.len, hd, Layout.cellsL]
   rw [ihm (k + 1) _ (by omega) (by omega) (by omega)]
   have e : min far (min far (a + min far p.cells) + Layout.cellsL (l.parts.drop (k + 1))) = min far (a + (p.cells + Layout.cellsL (l.parts.drop (k + 1)))) := by omega
   rw [e]
 have h := loop _ 0 0 rfl (by omega) (by decide)
 simp only [Int.natCast_zero, Int.ofNat_eq_natCast, List.drop_zero, Int.zero_add] at h
 have b2 := Layout.cellsL_nonneg l.parts
 rw [n_26]
 simp only [h, Option.bind_eq_bind, Option.bind_some, Option.bind_none, if_true, if_false, Bool.false_eq_true, Bool.true_eq_false, Int.toNat_natCast, Int.natCast_nonneg, beq_iff_eq, decide_eq_true_eq, Int.ofNat_lt]
 have b0 : 0 ≤ min far (Layout.cellsL l.parts) := by omega
 by_cases h5 : l.kind = 5
 ·have hn := hr.self h5
  have b3 : 0 ≤ max 0 l.n * min far (Layout.cellsL l.parts) := Int.mul_nonneg (by omega) b0
  have b4 : max 0 l.n * min far (Layout.cellsL l.parts) ≤ 1000000 * 1099511627776 := Int.mul_le_mul (by omega) (by omega) b0 (by decide)
  have e1 : i64.wrap (max 0 l.n * min far (Layout.cellsL l.parts)) = max 0 l.n * min far (Layout.cellsL l.parts) := wrap64 (by omega) (by omega)
  rw [if_pos h5, e1, f72p (by omega) b3, sat_mul (by omega) b2 (by decide), l.cells_eq, if_pos h5]
  rfl
 ·rw [if_neg h5, f72p (by omega) b0]
  have e1 : min far (1 + min far (Layout.cellsL l.parts)) = min far l.cells := by rw [l.cells_eq, if_neg h5]; omega
  rw [e1]
  rfl
theorem f50 : ∀ (l : Layout), l.Fits → n_33 (l, ()) = some (min 100000 l.cells, ()) := by
 refine Layout.ind fun l ih hl => ?_
 have loop : ∀ (m k : Nat) (a : Int), l.parts.length - k = m → 0 ≤ a → a ≤ 100000 → n_33l3 (a, k, l, ()) = some (min 100000 (a + Layout.cellsL (l.parts.drop k)), l, ()) := by
  intro m
  induction m with
  | zero =>
   intro k a hk h0 h1
   have hlt : ¬ k < l.parts.length := by omega
   obtain ⟨hd, g1⟩ := at_end hlt
   rw [n_33l3]
   have e : min 100000 (a + 0) = a := by omega
   simp only [Option.bind_eq_bind, Option.bind_some, Option.bind_none, if_true, if_false, Bool.false_eq_true, Bool.true_eq_false, Int.toNat_natCast, Int.natCast_nonneg, beq_iff_eq, decide_eq_true_eq, Int.ofNat_lt, hlt, hd, Layout.cellsL, e]
  | succ m ihm =>
   intro k a hk h0 h1
   have hlt : k < l.parts.length := by omega
   obtain ⟨p, hp, hm, hd, g1, g2⟩ := at_lt hlt
   have b1 := p.cells_pos
   have b2 := Layout.cellsL_nonneg (l.parts.drop (k + 1))
   have e1 : i64.wrap (a + min 100000 p.cells) = a + min 100000 p.cells := wrap64 (by omega) (by omega)
   rw [n_33l3]
   simp only [Option.bind_eq_bind, Option.bind_some, Option.bind_none, if_true, if_false, Bool.false_eq_true, Bool.true_eq_false, Int.toNat_natCast, Int.natCast_nonneg, beq_iff_eq, decide_eq_true_eq, Int.ofNat_lt, g1, g2, hlt, hp, ih p hm (hl.part hm), e1, wrap_succ hlt hl.len, hd, Layout.cellsL]
   rw [ihm (k + 1) _ (by omega) (by omega) (by omega)]
   have e : min 100000 (min (a + min 100000 p.cells) 100000 + Layout.cellsL (l.parts.drop (k + 1))) = min 100000 (a + (p.cells + Layout.cellsL (l.parts.drop (k + 1)))) := by omega
   rw [e]
 have h := loop _ 0 0 rfl (by omega) (by decide)
 simp only [Int.natCast_zero, Int.ofNat_eq_natCast, List.drop_zero, Int.zero_add] at h
 have b2 := Layout.cellsL_nonneg l.parts
 rw [n_33]
 simp only [h, Option.bind_eq_bind, Option.bind_some, Option.bind_none, if_true, if_false, Bool.false_eq_true, Bool.true_eq_false, Int.toNat_natCast, Int.natCast_nonneg, beq_iff_eq, decide_eq_true_eq, Int.ofNat_lt]
 have b0 : 0 ≤ min 100000 (Layout.cellsL l.parts) := by omega
 by_cases h5 : l.kind = 5
 ·have b3 : 0 ≤ min (max l.n 0) 100000 * min 100000 (Layout.cellsL l.parts) := Int.mul_nonneg (by omega) b0
  have b4 : min (max l.n 0) 100000 * min 100000 (Layout.cellsL l.parts) ≤ 100000 * 100000 := Int.mul_le_mul (by omega) (by omega) b0 (by decide)
  have e1 : i64.wrap (min (max l.n 0) 100000 * min 100000 (Layout.cellsL l.parts)) = min (max l.n 0) 100000 * min 100000 (Layout.cellsL l.parts) := wrap64 (by omega) (by omega)
  have e2 : i64.wrap (min (max l.n 0) 100000 * min 100000 (Layout.cellsL l.parts) + 1) = min (max l.n 0) 100000 * min 100000 (Layout.cellsL l.parts) + 1 := wrap64 (by omega) (by omega)
  have e3 : min (min (max l.n 0) 100000 * min 100000 (Layout.cellsL l.parts) + 1) 100000 = min 100000 l.cells := by
   rw [sat_mul' (by omega) b2 (by decide), l.cells_eq, if_pos h5, show max l.n 0 = max 0 l.n by omega]
  simp only [h5, Option.bind_eq_bind, Option.bind_some, Option.bind_none, if_true, if_false, Bool.false_eq_true, Bool.true_eq_false, Int.toNat_natCast, Int.natCast_nonneg, beq_iff_eq, decide_eq_true_eq, Int.ofNat_lt, e1, e2, e3]
 ·have e2 : i64.wrap (min 100000 (Layout.cellsL l.parts) + 1) = min 100000 (Layout.cellsL l.parts) + 1 := wrap64 (by omega) (by omega)
  have e3 : min (min 100000 (Layout.cellsL l.parts) + 1) 100000 = min 100000 l.cells := by rw [l.cells_eq, if_neg h5]; omega
  simp only [h5, Option.bind_eq_bind, Option.bind_some, Option.bind_none, if_true, if_false, Bool.false_eq_true, Bool.true_eq_false, Int.toNat_natCast, Int.natCast_nonneg, beq_iff_eq, decide_eq_true_eq, Int.ofNat_lt, e2, e3]
theorem f46 : ∀ (l : Layout), l.Fits → l.all.length ≤ 1000000 → n_31 (l, ()) = some (l.all, ()) := by
 refine Layout.ind fun l ih hl hsz => ?_
 have loop : ∀ (m k : Nat) (acc : List Layout), l.parts.length - k = m → acc ++ Layout.allL (l.parts.drop k) = l.all → n_31l3 (k, l, acc, ()) = some (l.all, ()) := by
  intro m
  induction m with
  | zero =>
   intro k acc hk ha
   have hlt : ¬ k < l.parts.length := by omega
   obtain ⟨hd, g1⟩ := at_end hlt
   rw [hd, Layout.allL, List.append_nil] at ha
   rw [n_31l3]
   simp only [Option.bind_eq_bind, Option.bind_some, Option.bind_none, if_true, if_false, Bool.false_eq_true, Bool.true_eq_false, Int.toNat_natCast, Int.natCast_nonneg, beq_iff_eq, decide_eq_true_eq, Int.ofNat_lt, hlt, ha]
  | succ m ihm =>
   intro k acc hk ha
   have hlt : k < l.parts.length := by omega
   obtain ⟨p, hp, hm, hd, g1, g2⟩ := at_lt hlt
   rw [hd, Layout.allL, ← List.append_assoc] at ha
   have hsz2 : acc.length + p.all.length ≤ 1000000 := by
    have := congrArg List.length ha
    simp only [List.length_append] at this
    omega
   have hle : acc.length + p.all.length ≤ 4294967296 := by omega
   rw [n_31l3]
   simp only [Option.bind_eq_bind, Option.bind_some, Option.bind_none, if_true, if_false, Bool.false_eq_true, Bool.true_eq_false, Int.toNat_natCast, Int.natCast_nonneg, beq_iff_eq, decide_eq_true_eq, Int.ofNat_lt, g1, g2, hlt, hp, ih p hm (hl.part hm) (by omega), wrap_succ hlt hl.len, hle]
   exact ihm (k + 1) _ (by omega) ha
 have h := loop _ 0 [l] rfl (by rw [l.all_eq]; rfl)
 simp only [Int.natCast_zero, Int.ofNat_eq_natCast, List.drop_zero] at h
 rw [n_31]
 simp only [h, Option.bind_eq_bind, Option.bind_some, Option.bind_none, if_true, if_false, Bool.false_eq_true, Bool.true_eq_false, Int.toNat_natCast, Int.natCast_nonneg, beq_iff_eq, decide_eq_true_eq, Int.ofNat_lt]
theorem f45l (dep : Int) (c : Counted) (l : Layout) (ps : List Layout) (hn : ps.length ≤ 9223372036854775807) (k : Nat) (a : Int) (h0 : 0 ≤ a) (h1 : a ≤ far) :
  n_25sf4a5l14 (dep, a, ps, ps.length, k, c, l, ()) = some (dep, min far (a + sumBits (ps.drop k)), c, l, ()) := by
 have hf : far = 1099511627776 := rfl
 rw [n_25sf4a5l14]
 by_cases hlt : k < ps.length
 ·obtain ⟨p, hp, hm, hd, g1, g2⟩ := at_lt hlt
  have b1 := bitsS_nonneg p
  have b2 := sumBits_nonneg (ps.drop (k + 1))
  simp only [Option.bind_eq_bind, Option.bind_some, Option.bind_none, if_true, if_false, Bool.false_eq_true, Bool.true_eq_false, Int.toNat_natCast, Int.natCast_nonneg, beq_iff_eq, decide_eq_true_eq, Int.ofNat_lt, g1, g2, hlt, hp, f56, f72p h0 b1, wrap_succ hlt hn]
  rw [f45l dep c l ps hn (k + 1) _ (by omega) (by omega), hd, sumBits]
  have e : min far (min far (a + bitsS p) + sumBits (ps.drop (k + 1))) = min far (a + (bitsS p + sumBits (ps.drop (k + 1)))) := by omega
  rw [e]
 ·obtain ⟨hd, g1⟩ := at_end hlt
  have e : min far (a + 0) = a := by omega
  simp only [Option.bind_eq_bind, Option.bind_some, Option.bind_none, if_true, if_false, Bool.false_eq_true, Bool.true_eq_false, Int.toNat_natCast, Int.natCast_nonneg, beq_iff_eq, decide_eq_true_eq, Int.ofNat_lt, hlt, hd, sumBits, e]
termination_by ps.length - k
def cntS (s : Int × Int × Bool) : Counted := ⟨s.1, s.2.1, s.2.2⟩
theorem f45 : ∀ (l : Layout) (dep c d : Int) (g : Bool), l.Fits → 0 ≤ c → c + l.all.length ≤ 1000000 → 0 ≤ dep → dep + l.depth ≤ 1000000 →
  n_25sf4a5 (l, dep, ⟨c, d, g⟩, ()) = some (cntS (l.look dep c d g), ()) := by
 refine Layout.ind fun l ih dep c d g hl hc0 hc1 hd0 hd1 => ?_
 have hf : far = 1099511627776 := rfl
 have hlen := hl.len
 have loop : ∀ (m k : Nat) (s : Int × Int × Bool), l.parts.length - k = m → 0 ≤ s.1 → s.1 + (Layout.allL (l.parts.drop k)).length ≤ 1000000 →
   n_25sf4a5l21 (dep, l.parts, l.parts.length, k, cntS s, ()) = some (cntS (Layout.lookL (l.parts.drop k) (dep + 1) s), ()) := by
  intro m
  induction m with
  | zero =>
   intro k s hk hs0 hs1
   have hlt : ¬ k < l.parts.length := by omega
   obtain ⟨hd, g1⟩ := at_end hlt
   rw [n_25sf4a5l21]
   simp only [Option.bind_eq_bind, Option.bind_some, Option.bind_none, if_true, if_false, Bool.false_eq_true, Bool.true_eq_false, Int.toNat_natCast, Int.natCast_nonneg, beq_iff_eq, decide_eq_true_eq, Int.ofNat_lt, hlt, hd, Layout.lookL]
  | succ m ihm =>
   intro k s hk hs0 hs1
   have hlt : k < l.parts.length := by omega
   obtain ⟨p, hp, hm, hd, g1, g2⟩ := at_lt hlt
   rw [hd] at hs1 ⊢
   simp only [Layout.allL, List.length_append] at hs1
   have hdp := Layout.depth_mem hm
   have hcnt := p.look_cnt (dep + 1) s.1 s.2.1 s.2.2
   have e3 : i64.wrap (dep + 1) = dep + 1 := wrap64 (by omega) (by omega)
   rw [n_25sf4a5l21]
   have hih := ih p hm (dep + 1) s.1 s.2.1 s.2.2 (hl.part hm) hs0 (by omega) (by omega) (by omega)
   simp only [Option.bind_eq_bind, Option.bind_some, Option.bind_none, if_true, if_false, Bool.false_eq_true, Bool.true_eq_false, Int.toNat_natCast, Int.natCast_nonneg, beq_iff_eq, decide_eq_true_eq, Int.ofNat_lt, g1, g2, hlt, hp, e3]
   have : (cntS s) = ⟨s.1, s.2.1, s.2.2⟩ := rfl
   rw [this, hih]
   simp only [Option.bind_eq_bind, Option.bind_some, Option.bind_none, if_true, if_false, Bool.false_eq_true, Bool.true_eq_false, Int.toNat_natCast, Int.natCast_nonneg, beq_iff_eq, decide_eq_true_eq, Int.ofNat_lt, wrap_succ hlt hlen, Layout.lookL]
   exact ihm (k + 1) _ (by omega) (by omega) (by omega)
 have hall : 1 ≤ l.all.length := by rw [l.all_eq]; simp
 have e1 : i64.wrap (c + 1) = c + 1 := wrap64 (by omega) (by omega)
 have h14 := f45l dep ⟨c + 1, max d dep, g || decide (c + 1 > 60) || decide (dep > 5) || decide ((l.parts.length : Int) > 12)⟩ l l.parts hlen 0 0 (by omega) (by decide)
 simp only [Int.natCast_zero, Int.ofNat_eq_natCast, List.drop_zero, Int.zero_add] at h14
 have p1 : (if g = true then some (dep, Counted.mk (i64.wrap (c + (1 : Int))) (max d dep) true, l, ())
   else if decide (i64.wrap (c + (1 : Int)) > (60 : Int)) = true then some (dep, Counted.mk (i64.wrap (c + (1 : Int))) (max d dep) true, l, ())
   else if decide (dep > (5 : Int)) = true then some (dep, Counted.mk (i64.wrap (c + (1 : Int))) (max d dep) true, l, ())
   else some (dep, Counted.mk (i64.wrap (c + (1 : Int))) (max d dep) (decide ((l.parts.length : Int) > (12 : Int))), l, ())) =
   some (dep, (⟨c + 1, max d dep, g || decide (c + 1 > 60) || decide (dep > 5) || decide ((l.parts.length : Int) > 12)⟩ : Counted), l, ()) := by
  rw [e1]
  cases g
  ·by_cases h1 : c + 1 > 60
   ·simp [h1]
   ·by_cases h2 : dep > 5
    ·simp [h1, h2]
    ·simp [h1, h2]
  ·simp
 rw [n_25sf4a5]
 simp only []
 rw [p1]
 simp only [Option.bind_eq_bind, Option.bind_some, Option.bind_none, if_true, if_false, Bool.false_eq_true, Bool.true_eq_false, Int.toNat_natCast, Int.natCast_nonneg, beq_iff_eq, decide_eq_true_eq, Int.ofNat_lt]
 rw [l.look_eq]
 generalize hg1 : (g || decide (c + 1 > 60) || decide (dep > 5) || decide ((l.parts.length : Int) > 12)) = g1 at h14 ⊢
 have p2 : ∀ {B : Type} (K : Int × Counted × Layout × Unit → Option B), (((if l.kind = 2 then (if g1 = true then some (dep, Counted.mk (c + 1) (max d dep) true, l, ()) else some (dep, Counted.mk (c + 1) (max d dep) (decide (l.n > 64)), l, ())).bind fun x2 => some (x2.1, x2.2.1, x2.2.2.1, ())
   else if l.kind = 5 then (if g1 = true then some (dep, Counted.mk (c + 1) (max d dep) true, l, ()) else some (dep, Counted.mk (c + 1) (max d dep) (decide (l.n > 1000)), l, ())).bind fun x2 => some (x2.1, x2.2.1, x2.2.2.1, ())
   else if l.kind = 7 then (if g1 = true then some (dep, Counted.mk (c + 1) (max d dep) true, l, ()) else some (dep, Counted.mk (c + 1) (max d dep) (decide (l.n > 65536)), l, ())).bind fun x2 => some (x2.1, x2.2.1, x2.2.2.1, ())
   else if l.kind = 9 then (n_25sf4a5l14 (dep, 0, l.parts, (l.parts.length : Int), 0, ⟨c + 1, max d dep, g1⟩, l, ())).bind fun x2 => (if x2.2.2.1.large = true then some (x2.1, Counted.mk x2.2.2.1.count x2.2.2.1.deep true, x2.2.2.2.1, ()) else some (x2.1, Counted.mk x2.2.2.1.count x2.2.2.1.deep (decide (x2.2.1 > 64)), x2.2.2.2.1, ())).bind fun x3 => some (x3.1, x3.2.1, x3.2.2.1, ())
   else some (dep, (⟨c + 1, max d dep, g1⟩ : Counted), l, ())) : Option (Int × Counted × Layout × Unit)).bind K) = K (dep, ⟨c + 1, max d dep, g1 || l.big1⟩, l, ()) := by
  intro B K
  by_cases h2 : l.kind = 2
  ·have e2 : l.big1 = decide (l.n > 64) := by simp [Layout.big1, h2]
   rw [e2]; cases g1 <;> simp [h2]
  by_cases h5 : l.kind = 5
  ·have e2 : l.big1 = decide (l.n > 1000) := by simp [Layout.big1, h5]
   rw [e2]; cases g1 <;> simp [h5]
  by_cases h7 : l.kind = 7
  ·have e2 : l.big1 = decide (l.n > 65536) := by simp [Layout.big1, h7]
   rw [e2]; cases g1 <;> simp [h7]
  by_cases h9 : l.kind = 9
  ·have e2 : l.big1 = decide (min far (sumBits l.parts) > 64) := by simp [Layout.big1, h9]
   rw [e2, h14]; cases g1 <;> simp [h9]
  ·have e2 : l.big1 = false := by simp [Layout.big1, h2, h5, h7, h9]
   simp [h2, h5, h7, h9, e2]
 rw [p2]
 simp only []
 cases hg2 : (g1 || l.big1) with
 | true => simp [cntS]
 | false =>
  have h := loop _ 0 (c + 1, max d dep, false) rfl (by simp only []; omega) (by rw [l.all_eq, List.length_cons] at hc1; simp only [List.drop_zero]; omega)
  simp only [Int.natCast_zero, Int.ofNat_eq_natCast, List.drop_zero, cntS] at h
  simp only [Option.bind_eq_bind, Option.bind_some, Option.bind_none, if_true, if_false, Bool.false_eq_true, Bool.true_eq_false, Int.toNat_natCast, Int.natCast_nonneg, beq_iff_eq, decide_eq_true_eq, Int.ofNat_lt, h]
  rfl
end Go.Proofs.YtogoamfegaebgaaGreatDoor
end
section
namespace Go.Proofs.YtogoamfegaebgaaGreatDoor
set_option maxRecDepth 20000
theorem f62 (n lo hi : Int) : n_58 (n, lo, hi, ()) = some (decide (lo ≤ n ∧ n ≤ hi), ()) := by
 by_cases h1 : n ≥ lo <;> simp [n_58, h1]
theorem f76 (l : Layout) : n_59 (l, ()) = some (partsS l, ()) := by
 unfold n_59 partsS
 by_cases h4 : l.kind = 4
 ·simp [h4]
 by_cases h5 : l.kind = 5
 ·simp [h5]
 by_cases h6 : l.kind = 6
 ·simp [h6]
 by_cases h9 : l.kind = 9
 ·simp [h9]
 by_cases h8 : l.kind = 8
 ·simp [h8]
 ·simp [h4, h5, h6, h9, h8]
theorem f51 (k : Int) : n_34 (k, ()) = some (greatS k, ()) := by
 simp only [n_34, greatS, beq_iff_eq]; (repeat' split) <;> simp_all
theorem f53l (l : Layout) (hn : l.parts.length ≤ 9223372036854775807) (k : Nat) : n_36l11 (k, l, ()) = some (if (l.parts.drop k).all bitty = true then .inr (l, ()) else .inl (false, ())) := by
 rw [n_36l11]
 by_cases hlt : k < l.parts.length
 ·obtain ⟨p, hp, hm, hd, g1, g2⟩ := at_lt hlt
  rw [hd, List.all_cons]
  by_cases q1 : p.kind = 1
  ·have hb : bitty p = true := by simp [bitty, q1]
   have q1' : (p.kind != 1) = false := by simp [q1]
   simp only [Option.bind_eq_bind, Option.bind_some, Option.bind_none, if_true, if_false, Bool.false_eq_true, Bool.true_eq_false, Int.toNat_natCast, Int.natCast_nonneg, beq_iff_eq, decide_eq_true_eq, Int.ofNat_lt, g1, g2, hlt, hp, q1', wrap_succ hlt hn, hb, Bool.true_and]
   exact f53l l hn (k + 1)
  ·have q1' : (p.kind != 1) = true := by simp [q1]
   by_cases q2 : p.kind = 2
   ·have hb : bitty p = true := by simp [bitty, q2]
    have q2' : (p.kind != 2) = false := by simp [q2]
    simp only [Option.bind_eq_bind, Option.bind_some, Option.bind_none, if_true, if_false, Bool.false_eq_true, Bool.true_eq_false, Int.toNat_natCast, Int.natCast_nonneg, beq_iff_eq, decide_eq_true_eq, Int.ofNat_lt, g1, g2, hlt, hp, q1', q2', wrap_succ hlt hn, hb, Bool.true_and]
    exact f53l l hn (k + 1)
   ·have hb : bitty p = false := by simp [bitty, q1, q2]
    have q2' : (p.kind != 2) = true := by simp [q2]
    simp only [Option.bind_eq_bind, Option.bind_some, Option.bind_none, if_true, if_false, Bool.false_eq_true, Bool.true_eq_false, Int.toNat_natCast, Int.natCast_nonneg, beq_iff_eq, decide_eq_true_eq, Int.ofNat_lt, g1, g2, hlt, hp, q1', q2', wrap_succ hlt hn, hb, Bool.false_and]
 ·obtain ⟨hd, g1⟩ := at_end hlt
  simp only [Option.bind_eq_bind, Option.bind_some, Option.bind_none, if_true, if_false, Bool.false_eq_true, Bool.true_eq_false, Int.toNat_natCast, Int.natCast_nonneg, beq_iff_eq, decide_eq_true_eq, Int.ofNat_lt, hlt, hd, List.all_nil]
termination_by l.parts.length - k
theorem f53 (l : Layout) (hn : l.parts.length ≤ 9223372036854775807) : n_36 (l, ()) = some (l.isS, ()) := by
 have h := f53l l hn 0
 simp only [Int.natCast_zero, Int.ofNat_eq_natCast, List.drop_zero] at h
 unfold n_36 Layout.isS
 simp only [f62, f76, Option.bind_eq_bind, Option.bind_some, Option.bind_none, if_true, if_false, Bool.false_eq_true, Bool.true_eq_false, Int.toNat_natCast, Int.natCast_nonneg, beq_iff_eq, decide_eq_true_eq, Int.ofNat_lt]
 by_cases h1 : 0 ≤ l.kind ∧ l.kind ≤ 9
 ·cases h2 : partsS l
  ·simp [h1, h2]
  ·have e : (l.flag && l.kind != 2) = (if l.flag = true then (l.kind != 2) else false) := by cases l.flag <;> simp
   cases h3 : (l.flag && l.kind != 2)
   ·have h3' : (if l.flag = true then some (l.kind != 2, l, ()) else some (false, l, ())) = some (false, l, ()) := by
     rw [e] at h3; cases hf : l.flag <;> simp_all
    simp only [h1, and_self, decide_true, Bool.not_true, Bool.false_eq_true, if_false, Option.bind_some, h3', Bool.not_false, Bool.and_self, Bool.true_and]
    unfold numS
    by_cases k2 : l.kind = 2
    ·simp [k2]
    by_cases k7 : l.kind = 7
    ·simp [k7]
    by_cases k5 : l.kind = 5
    ·simp [k5]
    by_cases k9 : l.kind = 9
    ·simp only [k9]
     simp [h]
     cases hb : l.parts.all bitty
     ·have hb' : ¬ ∀ x ∈ l.parts, bitty x = true := by rw [← List.all_eq_true, hb]; simp
      simp [hb']
     ·have hb' : ∀ x ∈ l.parts, bitty x = true := List.all_eq_true.1 hb
      rw [if_pos hb']; simp
    ·simp [k2, k7, k5, k9]
   ·have h3' : (if l.flag = true then some (l.kind != 2, l, ()) else some (false, l, ())) = some (true, l, ()) := by
     rw [e] at h3; cases hf : l.flag <;> simp_all
    simp [h1, h3']
 ·simp [h1]
theorem fidx (F : (List Layout × Int × Int × Unit) → Option ((Int × Unit) ⊕ Unit)) (g : Layout × Unit → Option (Bool × Unit)) (pred : Layout → Bool) (ps : List Layout) (hn : ps.length ≤ 9223372036854775807)
  (hg : ∀ p ∈ ps, g (p, ()) = some (pred p, ()))
  (hF : ∀ v, F v = (if decide (v.2.2.1 < v.2.1) = true then
    if (0 : Int) ≤ v.2.2.1 then
     v.1[v.2.2.1.toNat]? >>= fun x1 =>
     g (x1, ()) >>= fun x2 =>
     if x2.1 = true then some (Sum.inl (v.2.2.1, ()))
     else F (v.1, v.2.1, IntKind.i64.wrap (v.2.2.1 + (1 : Int)), ())
    else none
  else some (Sum.inr ()))) (k : Nat) :
  F (ps, ps.length, k, ()) = some (if idxS pred (ps.drop k) k = -1 then .inr () else .inl (idxS pred (ps.drop k) k, ())) := by
 rw [hF]
 by_cases hlt : k < ps.length
 ·obtain ⟨p, hp, hm, hd, g1, g2⟩ := at_lt hlt
  rw [hd, idxS]
  cases hq : pred p
  ·simp only [Option.bind_eq_bind, Option.bind_some, Option.bind_none, if_true, if_false, Bool.false_eq_true, Bool.true_eq_false, Int.toNat_natCast, Int.natCast_nonneg, beq_iff_eq, decide_eq_true_eq, Int.ofNat_lt, g1, g2, hlt, hp, hg p hm, hq, wrap_succ hlt hn]
   rw [fidx F g pred ps hn hg hF (k + 1)]
   simp
  ·have : ¬ ((k : Int) = -1) := by omega
   simp only [Option.bind_eq_bind, Option.bind_some, Option.bind_none, if_true, if_false, Bool.false_eq_true, Bool.true_eq_false, Int.toNat_natCast, Int.natCast_nonneg, beq_iff_eq, decide_eq_true_eq, Int.ofNat_lt, g1, g2, hlt, hp, hg p hm, hq, this]
 ·obtain ⟨hd, g1⟩ := at_end hlt
  simp only [Option.bind_eq_bind, Option.bind_some, Option.bind_none, if_true, if_false, Bool.false_eq_true, Bool.true_eq_false, Int.toNat_natCast, Int.natCast_nonneg, beq_iff_eq, decide_eq_true_eq, Int.ofNat_lt, hlt, hd, idxS]
termination_by ps.length - k
theorem f74 (p : Layout) : n_51 (p, ()) = some (!bitty p, ()) := by
 unfold n_51 bitty
 by_cases h1 : p.kind = 1
 ·simp [h1]
 ·have : (p.kind == 1) = false := by simp [h1]
  simp [h1, this]
  rfl
theorem f73a (ps : List Layout) (hn : ps.length ≤ 9223372036854775807) : n_50c51 (ps, ()) = some (ps.any fun p => !bitty p, ()) := by
 have h := fidx n_66c51l2 n_51 (fun p => !bitty p) ps hn (fun p _ => f74 p) (fun v => by rw [n_66c51l2]) 0
 simp only [Int.natCast_zero, Int.ofNat_eq_natCast, List.drop_zero] at h
 have h2 : n_66c51 (ps, ()) = some (idxS (fun p => !bitty p) ps 0, ()) := by
  unfold n_66c51
  simp only [h, Option.bind_eq_bind, Option.bind_some, Option.bind_none, if_true, if_false, Bool.false_eq_true, Bool.true_eq_false, Int.toNat_natCast, Int.natCast_nonneg, beq_iff_eq, decide_eq_true_eq, Int.ofNat_lt]
  by_cases hi : idxS (fun p => !bitty p) ps 0 = -1 <;> simp [hi]
 unfold n_50c51
 simp only [h2, Option.bind_eq_bind, Option.bind_some, Option.bind_none, if_true, if_false, Bool.false_eq_true, Bool.true_eq_false, Int.toNat_natCast, Int.natCast_nonneg, beq_iff_eq, decide_eq_true_eq, Int.ofNat_lt, idxS_any _ ps 0 (Int.le_refl 0)]
theorem f49 : ∀ (l : Layout), l.Fits → n_27 (l, ()) = some (l.right, ()) := by
 refine Layout.ind fun l ih hl => ?_
 have hn := hl.len
 have h := fidx n_66c52l2 n_52 (fun p => !p.right) l.parts hn (fun p hp => by rw [n_52]; simp only [ih p hp (hl.part hp), Option.bind_eq_bind, Option.bind_some, Option.bind_none, if_true, if_false, Bool.false_eq_true, Bool.true_eq_false, Int.toNat_natCast, Int.natCast_nonneg, beq_iff_eq, decide_eq_true_eq, Int.ofNat_lt]) (fun v => by rw [n_66c52l2]) 0
 simp only [Int.natCast_zero, Int.ofNat_eq_natCast, List.drop_zero] at h
 have h2 : n_66c52 (l.parts, ()) = some (idxS (fun p => !p.right) l.parts 0, ()) := by
  rw [n_66c52]
  simp only [h, Option.bind_eq_bind, Option.bind_some, Option.bind_none, if_true, if_false, Bool.false_eq_true, Bool.true_eq_false, Int.toNat_natCast, Int.natCast_nonneg, beq_iff_eq, decide_eq_true_eq, Int.ofNat_lt]
  by_cases hi : idxS (fun p => !p.right) l.parts 0 = -1 <;> simp [hi]
 have h75 : n_50c52 (l.parts, ()) = some (l.parts.any fun p => !p.right, ()) := by
  rw [n_50c52]
  simp only [h2, Option.bind_eq_bind, Option.bind_some, Option.bind_none, if_true, if_false, Bool.false_eq_true, Bool.true_eq_false, Int.toNat_natCast, Int.natCast_nonneg, beq_iff_eq, decide_eq_true_eq, Int.ofNat_lt, idxS_any _ l.parts 0 (Int.le_refl 0)]
 have h74 := f73a l.parts hn
 have he : ((l.parts.any fun p => !p.right)) = !(l.parts.all Layout.right) := by rw [List.not_all_eq_any_not]
 rw [he] at h75
 have key : 0 ≤ l.kind ∧ l.kind ≤ 9 → n_27 (l, ()) = some ((nbS l && !((l.parts.length : Int) != pcS l) && !(l.flag && l.kind != 2) && !(l.kind == 9 && l.parts.any fun p => !bitty p)) && l.parts.all Layout.right, ()) := by
  intro hk
  have hk' : l.kind = 0 ∨ l.kind = 1 ∨ l.kind = 2 ∨ l.kind = 3 ∨ l.kind = 4 ∨ l.kind = 5 ∨ l.kind = 6 ∨ l.kind = 7 ∨ l.kind = 8 ∨ l.kind = 9 := by omega
  rw [n_27]
  unfold nbS pcS
  generalize l.parts.all Layout.right = ar at h75 ⊢
  generalize (l.parts.any fun p => !bitty p) = ab at h74 ⊢
  rcases hk' with h0 | h0 | h0 | h0 | h0 | h0 | h0 | h0 | h0 | h0
  ·cases hf : l.flag <;> by_cases hn0 : l.n = 0 <;> by_cases hp : l.parts = [] <;> cases ar <;> (try rw [hp] at h75) <;> simp [h0, hf, hn0, hp, h75]
  ·cases hf : l.flag <;> by_cases hn0 : l.n = 0 <;> by_cases hp : l.parts = [] <;> cases ar <;> (try rw [hp] at h75) <;> simp [h0, hf, hn0, hp, h75]
  ·cases hf : l.flag <;> by_cases hn0 : 1 ≤ l.n <;> by_cases hp : l.parts = [] <;> cases ar <;> (try rw [hp] at h75) <;> simp [h0, hf, hn0, hp, h75]
  ·cases hf : l.flag <;> by_cases hn0 : l.n = 0 <;> by_cases hp : l.parts = [] <;> cases ar <;> (try rw [hp] at h75) <;> simp [h0, hf, hn0, hp, h75]
  ·cases hf : l.flag <;> by_cases hn0 : l.n = 0 <;> by_cases hp : (l.parts.length : Int) = 1 <;> cases ar <;> simp [h0, hf, hn0, hp, h75]
  ·cases hf : l.flag <;> by_cases hn0 : 0 ≤ l.n <;> by_cases hp : (l.parts.length : Int) = 1 <;> cases ar <;> simp [h0, hf, hn0, hp, h75]
  ·cases hf : l.flag <;> by_cases hn0 : l.n = 0 <;> cases ar <;> simp [h0, hf, hn0, h75]
  ·cases hf : l.flag <;> by_cases hn0 : 1 ≤ l.n <;> by_cases hp : l.parts = [] <;> cases ar <;> (try rw [hp] at h75) <;> simp [h0, hf, hn0, hp, h75]
  ·cases hf : l.flag <;> by_cases hn0 : l.n = 0 <;> by_cases hp : (l.parts.length : Int) < 1 <;> cases ar <;> simp [h0, hf, hn0, hp, h75] <;> omega
  ·cases hf : l.flag <;> by_cases hn0 : l.n = 0 <;> cases ab <;> cases ar <;> simp [h0, hf, hn0, h75, h74]
 rw [l.right_eq]
 by_cases hk : 0 ≤ l.kind ∧ l.kind ≤ 9
 ·rw [key hk, isS_eq l hk]
 ·have hf : l.isS = false := by unfold Layout.isS; simp [hk]
  have h0 : ¬ l.kind = 0 := by omega
  have h1 : ¬ l.kind = 1 := by omega
  have h2 : ¬ l.kind = 2 := by omega
  have h3 : ¬ l.kind = 3 := by omega
  have h4 : ¬ l.kind = 4 := by omega
  have h5 : ¬ l.kind = 5 := by omega
  have h6 : ¬ l.kind = 6 := by omega
  have h7 : ¬ l.kind = 7 := by omega
  have h8 : ¬ l.kind = 8 := by omega
  have h9 : ¬ l.kind = 9 := by omega
  rw [n_27, hf]
  simp [h0, h1, h2, h3, h4, h5, h6, h7, h8, h9]
theorem f20 (l : Layout) (hl : l.Fits) (hs : l.all.length ≤ 10000) (hd : l.depth ≤ 10000) : n_16 (l, ()) = some (valS l, ()) := by
 have h := f45 l 1 0 0 false hl (by omega) (by omega) (by omega) (by omega)
 unfold n_16
 simp only [h, Option.bind_eq_bind, Option.bind_some, Option.bind_none, if_true, if_false, Bool.false_eq_true, Bool.true_eq_false, Int.toNat_natCast, Int.natCast_nonneg, beq_iff_eq, decide_eq_true_eq, Int.ofNat_lt]
 have hlarge := look_large l
 have : (cntS (l.look 1 0 0 false)).large = l.large := hlarge
 rw [this]
 unfold valS
 cases hg : l.large with
 | true => simp
 | false =>
  simp only [Option.bind_eq_bind, Option.bind_some, Option.bind_none, if_true, if_false, Bool.false_eq_true, Bool.true_eq_false, Int.toNat_natCast, Int.natCast_nonneg, beq_iff_eq, decide_eq_true_eq, Int.ofNat_lt, f48 l hl (arr_of_large hg), f49 l hl, Bool.false_or]
  by_cases hcl : l.cells > 4096
  ·have e1 : min far l.cells > 4096 := by simp [far]; omega
   simp [hcl, e1]
  ·have e1 : ¬ (min far l.cells > 4096) := by simp [far]; omega
   cases hr : l.right <;> simp [hcl, e1]
theorem f21l (l : Layout) (hl : l.Fits) (qs : List Layout) (hq : ∀ q ∈ qs, q ∈ l.all) (hn : qs.length ≤ 9223372036854775807) (k : Nat) : n_18l5 (qs, k, ()) = some (if (qs.drop k).any Layout.big = true then .inl (3, ()) else .inr (qs, ())) := by
 rw [n_18l5]
 by_cases hlt : k < qs.length
 ·obtain ⟨p, hp, hm, hd, g1, g2⟩ := at_lt hlt
  have hpf := hl.mem (hq p hm)
  have hbe := bigR_eq p (hl p (hq p hm))
  rw [hd, List.any_cons, ← hbe]
  simp only [Option.bind_eq_bind, Option.bind_some, Option.bind_none, if_true, if_false, Bool.false_eq_true, Bool.true_eq_false, Int.toNat_natCast, Int.natCast_nonneg, beq_iff_eq, decide_eq_true_eq, Int.ofNat_lt, g1, g2, hlt, hp, f51, f52 p hpf.len]
  by_cases h1 : (p.parts.length : Int) > 12
  ·have hb : bigR p = true := by unfold bigR; simp [h1]
   simp only [h1, Option.bind_eq_bind, Option.bind_some, Option.bind_none, if_true, if_false, Bool.false_eq_true, Bool.true_eq_false, Int.toNat_natCast, Int.natCast_nonneg, beq_iff_eq, decide_eq_true_eq, Int.ofNat_lt, hb, Bool.true_or]
  by_cases h2 : p.n > greatS p.kind
  ·have hb : bigR p = true := by unfold bigR; simp [h2]
   simp only [h1, h2, Option.bind_eq_bind, Option.bind_some, Option.bind_none, if_true, if_false, Bool.false_eq_true, Bool.true_eq_false, Int.toNat_natCast, Int.natCast_nonneg, beq_iff_eq, decide_eq_true_eq, Int.ofNat_lt, hb, Bool.true_or]
  by_cases h3 : p.kind = 9
  ·by_cases h4 : satBits p.parts > 64
   ·have hb : bigR p = true := by unfold bigR; simp [h3, h4]
    simp only [h1, h2, h3, h4, Option.bind_eq_bind, Option.bind_some, Option.bind_none, if_true, if_false, Bool.false_eq_true, Bool.true_eq_false, Int.toNat_natCast, Int.natCast_nonneg, beq_iff_eq, decide_eq_true_eq, Int.ofNat_lt, hb, Bool.true_or, decide_true]
    simp only [h3] at h2
    simp [h2]
   ·have hb : bigR p = false := by unfold bigR; simp [h1, h2, h4]
    have ih := f21l l hl qs hq hn (k + 1)
    simp only [h1, h2, h4, Option.bind_eq_bind, Option.bind_some, Option.bind_none, if_true, if_false, Bool.false_eq_true, Bool.true_eq_false, Int.toNat_natCast, Int.natCast_nonneg, beq_iff_eq, decide_eq_true_eq, Int.ofNat_lt, hb, Bool.false_or, decide_false, wrap_succ hlt hn]
    rw [if_pos h3]
    simp only [Option.bind_eq_bind, Option.bind_some, Option.bind_none, if_true, if_false, Bool.false_eq_true, Bool.true_eq_false, Int.toNat_natCast, Int.natCast_nonneg, beq_iff_eq, decide_eq_true_eq, Int.ofNat_lt, wrap_succ hlt hn]
    exact ih
  ·have hb : bigR p = false := by unfold bigR; simp [h1, h2, h3]
   simp only [h1, h2, h3, Option.bind_eq_bind, Option.bind_some, Option.bind_none, if_true, if_false, Bool.false_eq_true, Bool.true_eq_false, Int.toNat_natCast, Int.natCast_nonneg, beq_iff_eq, decide_eq_true_eq, Int.ofNat_lt, hb, Bool.false_or, decide_false, wrap_succ hlt hn]
   exact f21l l hl qs hq hn (k + 1)
 ·obtain ⟨hd, g1⟩ := at_end hlt
  simp only [Option.bind_eq_bind, Option.bind_some, Option.bind_none, if_true, if_false, Bool.false_eq_true, Bool.true_eq_false, Int.toNat_natCast, Int.natCast_nonneg, beq_iff_eq, decide_eq_true_eq, Int.ofNat_lt, hlt, hd, List.any_nil]
termination_by qs.length - k
theorem f21m (l : Layout) (hl : l.Fits) (qs : List Layout) (hq : ∀ q ∈ qs, q ∈ l.all) (hn : qs.length ≤ 9223372036854775807) (k : Nat) : n_18l11 (qs, k, ()) = some (if (qs.drop k).all Layout.isS = true then .inr () else .inl (1, ())) := by
 rw [n_18l11]
 by_cases hlt : k < qs.length
 ·obtain ⟨p, hp, hm, hd, g1, g2⟩ := at_lt hlt
  have hpf := hl.mem (hq p hm)
  rw [hd, List.all_cons]
  simp only [Option.bind_eq_bind, Option.bind_some, Option.bind_none, if_true, if_false, Bool.false_eq_true, Bool.true_eq_false, Int.toNat_natCast, Int.natCast_nonneg, beq_iff_eq, decide_eq_true_eq, Int.ofNat_lt, g1, g2, hlt, hp, f53 p hpf.len]
  cases hi : p.isS
  ·simp
  ·simp only [Option.bind_eq_bind, Option.bind_some, Option.bind_none, if_true, if_false, Bool.false_eq_true, Bool.true_eq_false, Int.toNat_natCast, Int.natCast_nonneg, beq_iff_eq, decide_eq_true_eq, Int.ofNat_lt, Bool.not_true, Bool.true_and, wrap_succ hlt hn]
   exact f21m l hl qs hq hn (k + 1)
 ·obtain ⟨hd, g1⟩ := at_end hlt
  simp only [Option.bind_eq_bind, Option.bind_some, Option.bind_none, if_true, if_false, Bool.false_eq_true, Bool.true_eq_false, Int.toNat_natCast, Int.natCast_nonneg, beq_iff_eq, decide_eq_true_eq, Int.ofNat_lt, hlt, hd, List.all_nil]
termination_by qs.length - k
theorem f21 (l : Layout) (hl : l.Fits) (hs : l.all.length ≤ 10000) (hd : l.depth ≤ 10000) : n_18 (l, ()) = some (valS l, ()) := by
 unfold n_18
 have a := f21l l hl l.all (fun q h => h) (by omega) 0
 have b := f21m l hl l.all (fun q h => h) (by omega) 0
 simp only [Int.natCast_zero, Int.ofNat_eq_natCast, List.drop_zero] at a b
 simp only [Option.bind_eq_bind, Option.bind_some, Option.bind_none, if_true, if_false, Bool.false_eq_true, Bool.true_eq_false, Int.toNat_natCast, Int.natCast_nonneg, beq_iff_eq, decide_eq_true_eq, Int.ofNat_lt, f46 l hl (by omega), f47 l hl (by omega), f50 l hl]
 by_cases h1 : (l.all.length : Int) > 60
 ·have : valS l = 3 := by unfold valS Layout.large; simp; omega
  simp [h1, this]
 by_cases h2 : (l.depth : Int) > 5
 ·have : valS l = 3 := by unfold valS Layout.large; simp; omega
  simp [h1, h2, this]
 by_cases h3 : l.cells > 4096
 ·have : valS l = 3 := by unfold valS; simp [h3]
  have e1 : min 100000 l.cells > 4096 := by omega
  simp [h1, h2, e1, this]
 have e1 : ¬ min 100000 l.cells > 4096 := by omega
 have hval : valS l = if l.all.any Layout.big = true then 3 else if l.right = true then 0 else 1 := by
  unfold valS Layout.large
  rw [decide_eq_false (by omega), decide_eq_false (by omega), decide_eq_false (by omega)]; simp
 simp only [h1, h2, e1, Option.bind_eq_bind, Option.bind_some, Option.bind_none, if_true, if_false, Bool.false_eq_true, Bool.true_eq_false, Int.toNat_natCast, Int.natCast_nonneg, beq_iff_eq, decide_eq_true_eq, Int.ofNat_lt, a, hval, decide_false]
 cases hb : l.all.any Layout.big
 ·simp only [Option.bind_eq_bind, Option.bind_some, Option.bind_none, if_true, if_false, Bool.false_eq_true, Bool.true_eq_false, Int.toNat_natCast, Int.natCast_nonneg, beq_iff_eq, decide_eq_true_eq, Int.ofNat_lt, b]
  have hr : l.right = l.all.all Layout.isS := rfl
  rw [hr]
  cases hi : l.all.all Layout.isS <;> simp
 ·simp
end Go.Proofs.YtogoamfegaebgaaGreatDoor
end
section
namespace Go.Proofs.YtogoamfegaebgaaGreatDoor
open Go.Awp Go.Tx
open Go.Lib (decDigits)
set_option maxRecDepth 20000
def ofL (l : List UInt8) : ByteArray := ⟨l.toArray⟩
theorem mk_ofL (l : List UInt8) : ByteArray.mk l.toArray = ofL l := rfl
theorem ofL_data (l : List UInt8) : (ofL l).data.toList = l := by simp [ofL]
theorem ba_size (s : ByteArray) : s.data.toList.length = s.size := Array.length_toList
theorem ba_ext {a b : ByteArray} (h : a.data.toList = b.data.toList) : a = b := by
 cases a; cases b; simp only at h; congr 1; exact Array.toList_inj.mp h
theorem ofL_size (l : List UInt8) : (ofL l).size = l.length := by rw [← ba_size, ofL_data]
theorem ofL_eta (s : ByteArray) : ofL s.data.toList = s := ba_ext (ofL_data _)
theorem ofL_inj {a b : List UInt8} : ofL a = ofL b ↔ a = b := ⟨fun h => by rw [← ofL_data a, h, ofL_data], fun h => by rw [h]⟩
theorem ba_append (a b : ByteArray) : (a ++ b).data.toList = a.data.toList ++ b.data.toList := by
 rw [ByteArray.data_append, Array.toList_append]
theorem ofL_append (a b : List UInt8) : ofL a ++ ofL b = ofL (a ++ b) := ba_ext (by rw [ba_append, ofL_data, ofL_data, ofL_data])
theorem ba_extract (s : ByteArray) (a b : Nat) : (s.extract a b).data.toList = (s.data.toList.take b).drop a := by
 rw [ByteArray.data_extract, Array.toList_extract]; simp [List.extract, List.drop_take]
theorem ofL_extract (l : List UInt8) (a b : Nat) : (ofL l).extract a b = ofL ((l.take b).drop a) := ba_ext (by rw [ba_extract, ofL_data, ofL_data])
theorem ba_get (s : ByteArray) (i : Nat) : s[i]? = s.data.toList[i]? := by
 by_cases h : i < s.size
 ·rw [getElem?_pos s i h, List.getElem?_eq_getElem (by rw [ba_size]; exact h)]; rfl
 ·rw [getElem?_neg s i h, List.getElem?_eq_none (by rw [ba_size]; omega)]
theorem ofL_get (l : List UInt8) (i : Nat) : (ofL l)[i]? = l[i]? := by rw [ba_get, ofL_data]
theorem toList_loop (s : ByteArray) : ∀ (n i : Nat) (r : List UInt8), s.size - i = n → ByteArray.toList.loop s i r = r.reverse ++ s.data.toList.drop i
 | 0, i, r, h => by
  have hs := ba_size s
  rw [ByteArray.toList.loop, if_neg (by omega), List.drop_eq_nil_of_le (by omega), List.append_nil]
 | n + 1, i, r, h => by
  have hs := ba_size s
  have hi : i < s.data.toList.length := by omega
  rw [ByteArray.toList.loop, if_pos (by omega), toList_loop s n (i + 1) _ (by omega), List.drop_eq_getElem_cons hi, List.reverse_cons, List.append_assoc]
  have : s.get! i = s.data.toList[i] := by
   have hs2 : i < s.size := by omega
   unfold ByteArray.get!
   rw [Array.getElem_toList]
   simp [getElem!_pos, hs2]
  rw [this]; rfl
theorem ofL_list (l : List UInt8) : (ofL l).toList = l := by
 unfold ByteArray.toList
 rw [toList_loop (ofL l) _ 0 [] rfl, ofL_data]; simp
theorem t28 {n : Int} (h0 : 0 ≤ n) (h1 : n ≤ 9223372036854775807) : n_28 (n, ()) = some (ofL (decDigits n.toNat), ()) := by
 unfold n_28 Lib.itoa
 rw [if_pos ⟨by omega, h1⟩, if_neg (by omega)]; rfl
theorem dig_at {k : Nat} (h : k < 10) : (ofL [48, 49, 50, 51, 52, 53, 54, 55, 56, 57, 97, 98, 99, 100, 101, 102]).extract k (k + 1) = ofL [UInt8.ofNat (48 + k)] := by
 have : k = 0 ∨ k = 1 ∨ k = 2 ∨ k = 3 ∨ k = 4 ∨ k = 5 ∨ k = 6 ∨ k = 7 ∨ k = 8 ∨ k = 9 := by omega
 rw [ofL_extract]
 rcases this with rfl | rfl | rfl | rfl | rfl | rfl | rfl | rfl | rfl | rfl <;> rfl
theorem t60l : ∀ (u : Nat), u < 9223372036854775808 → ∀ s : List UInt8, s.length + (decDigits u).length ≤ 1000 →
  ∃ (a : Nat) (t : List UInt8), a < 10 ∧ decDigits u = UInt8.ofNat (48 + a) :: t ∧ n_60l4 ((u : Int), 10, ofL s, ()) = some ((a : Int), ofL (t ++ s), ()) := by
 intro u
 induction u using Nat.strongRecOn with
 | ind u ih =>
  intro hu s hs
  rw [n_60l4]
  by_cases h : u < 10
  ·refine ⟨u, [], h, dec_small h, ?_⟩
   have : decide ((u : Int) ≥ 10) = false := by simp; omega
   simp only [this, Option.bind_eq_bind, Option.bind_some, Option.bind_none, if_true, if_false, Bool.false_eq_true, Bool.true_eq_false, Int.toNat_natCast, Int.natCast_nonneg, beq_iff_eq, decide_eq_true_eq, Int.ofNat_lt, List.nil_append]
  ·have h0 : decide ((u : Int) ≥ 10) = true := by simp; omega
   have hm : (u : Int).tmod 10 = ((u % 10 : Nat) : Int) := by rw [Int.tmod_eq_emod_of_nonneg (by omega)]; omega
   have hd : (u : Int).tdiv 10 = ((u / 10 : Nat) : Int) := by rw [Int.tdiv_eq_ediv_of_nonneg (by omega)]; omega
   have e1 : IntKind.i64.wrap (((u % 10 : Nat) : Int) + 1) = ((u % 10 + 1 : Nat) : Int) := by rw [wrap64 (by omega) (by omega)]; omega
   have e2 : IntKind.i64.wrap ((u / 10 : Nat) : Int) = ((u / 10 : Nat) : Int) := wrap64 (by omega) (by omega)
   have hc : (0 : Int) ≤ ((u % 10 : Nat) : Int) ∧ ((u % 10 : Nat) : Int) ≤ ((u % 10 + 1 : Nat) : Int) ∧ ((u % 10 + 1 : Nat) : Int) ≤ ((16 : Nat) : Int) := by omega
   have hz : ¬ ((10 : Int) = 0) := by decide
   have hsz : (ofL [48, 49, 50, 51, 52, 53, 54, 55, 56, 57, 97, 98, 99, 100, 101, 102]).size = 16 := by rw [ofL_size]; rfl
   have hl : (decDigits u).length = (decDigits (u / 10)).length + 1 := by rw [dec_big h, List.length_append]; rfl
   have hg := dig_at (k := u % 10) (by omega)
   have hle : (ofL [UInt8.ofNat (48 + u % 10)]).size + (ofL s).size ≤ 4294967296 := by rw [ofL_size, ofL_size]; simp; omega
   obtain ⟨a, t, i1, i2, i3⟩ := ih (u / 10) (by omega) (by omega) ([UInt8.ofNat (48 + u % 10)] ++ s) (by simp; omega)
   refine ⟨a, t ++ [UInt8.ofNat (48 + u % 10)], i1, by rw [dec_big h, i2]; rfl, ?_⟩
   simp only [mk_ofL, h0, hm, hd, e1, e2, hsz, hc, hz, Int.toNat_natCast, hg, hle, and_self, Option.bind_eq_bind, Option.bind_some, Option.bind_none, if_true, if_false, Bool.false_eq_true, Bool.true_eq_false, Int.toNat_natCast, Int.natCast_nonneg, beq_iff_eq, decide_eq_true_eq, Int.ofNat_lt, ofL_append]
   rw [i3]; simp
theorem t60 {n : Int} (h0 : 0 ≤ n) (h1 : n ≤ 9223372036854775807) : n_60 (n, 10, ()) = some (ofL (decDigits n.toNat), ()) := by
 obtain ⟨u, rfl⟩ : ∃ u : Nat, n = u := ⟨n.toNat, (Int.toNat_of_nonneg h0).symm⟩
 have hlen : (decDigits u).length ≤ 19 := (dec_len 18 u).2 (by omega)
 obtain ⟨a, t, i1, i2, i3⟩ := t60l u (by omega) [] (by simp; omega)
 have hn : decide ((u : Int) < 0) = false := by simp
 have e1 : IntKind.i64.wrap ((a : Int) + 1) = ((a + 1 : Nat) : Int) := by rw [wrap64 (by omega) (by omega)]; omega
 have hsz : (ofL [48, 49, 50, 51, 52, 53, 54, 55, 56, 57, 97, 98, 99, 100, 101, 102]).size = 16 := by rw [ofL_size]; rfl
 have hc : (0 : Int) ≤ (a : Int) ∧ (a : Int) ≤ ((a + 1 : Nat) : Int) ∧ ((a + 1 : Nat) : Int) ≤ ((16 : Nat) : Int) := by omega
 have hle : (ofL [UInt8.ofNat (48 + a)]).size + (ofL (t ++ [])).size ≤ 4294967296 := by
  rw [i2, List.length_cons] at hlen
  rw [ofL_size, ofL_size]; simp; omega
 rw [n_60]
 simp only [mk_ofL, hn, i3, e1, hsz, hc, Int.toNat_natCast, dig_at i1, hle, and_self, Option.bind_eq_bind, Option.bind_some, Option.bind_none, if_true, if_false, Bool.false_eq_true, Bool.true_eq_false, Int.toNat_natCast, Int.natCast_nonneg, beq_iff_eq, decide_eq_true_eq, Int.ofNat_lt, ofL_append]
 rw [i2]; simp
theorem t37 {n : Int} (h0 : 0 ≤ n) (h1 : n ≤ 9223372036854775807) : n_37 (n, ()) = some (ofL (decDigits n.toNat), ()) := by
 unfold n_37
 simp only [t60 h0 h1, Option.bind_eq_bind, Option.bind_some, Option.bind_none, if_true, if_false, Bool.false_eq_true, Bool.true_eq_false, Int.toNat_natCast, Int.natCast_nonneg, beq_iff_eq, decide_eq_true_eq, Int.ofNat_lt]
theorem spell_part {l p : Layout} (hg : l.isS = true) (hp : p ∈ l.parts) : p.spell.length ≤ l.spell.length := by
 obtain ⟨k, n, f, ps⟩ := l
 have hin : ∀ {ps : List Layout}, p ∈ ps → p.spell.length ≤ (Layout.spellL ps).length := by
  have hr : ∀ ps : List Layout, p ∈ ps → p.spell.length ≤ (Layout.spellR ps).length := by
   intro ps
   induction ps with
   | nil => intro h; cases h
   | cons a r ih =>
    intro h
    rw [Layout.spellR, List.length_cons, List.length_append]
    rcases List.mem_cons.1 h with rfl | h
    ·omega
    ·have := ih h; omega
  intro ps h
  cases ps with
  | nil => cases h
  | cons a r =>
   rw [Layout.spellL, List.length_append]
   rcases List.mem_cons.1 h with rfl | h
   ·omega
   ·have := hr r h; omega
 rw [Layout.spell]
 rcases isS_cases hg with ⟨rfl, rfl, rfl, rfl⟩ | ⟨rfl, rfl, rfl, rfl⟩ | ⟨rfl, rfl, rfl, rfl⟩ | ⟨rfl, h1, rfl⟩ | ⟨rfl, rfl, rfl, q, rfl⟩ | ⟨rfl, h1, rfl, q, rfl⟩ | ⟨rfl, h1, rfl, rfl⟩ | ⟨rfl, rfl, rfl⟩ | ⟨rfl, rfl, rfl⟩ | ⟨rfl, rfl, rfl⟩
 ·cases hp
 ·cases hp
 ·cases hp
 ·cases hp
 ·obtain rfl := List.mem_singleton.1 hp
  simp [Layout.spellH]
 ·obtain rfl := List.mem_singleton.1 hp
  simp [Layout.spellH]; omega
 ·cases hp
 ·have := hin (ps := ps) hp; simp; omega
 ·have := hin (ps := ps) hp; simp; omega
 ·have := hin (ps := ps) hp; simp; omega
theorem spellR_tail (ps : List Layout) : Layout.spellR ps = Lib.joinTail [44] (ps.map Layout.spell) := by
 induction ps with
 | nil => rfl
 | cons p r ih => rw [Layout.spellR, ih]; simp [Lib.joinTail]
theorem spellL_join (ps : List Layout) : Lib.join (ps.map Layout.spell) [44] = Layout.spellL ps := by
 cases ps with
 | nil => rfl
 | cons p r => rw [List.map_cons, Lib.join_cons, Layout.spellL, spellR_tail]
def sp (l : Layout) : ByteArray := ofL l.spell
theorem t17l (l : Layout) (ps : List Layout) (hn : ps.length ≤ 1000) (hp : ∀ p ∈ ps, n_17 (p, ()) = some (sp p, ())) (k : Nat) (acc : List ByteArray) (ha : acc.length + (ps.drop k).length ≤ 1000) :
  n_17l20 (ps, ps.length, k, l, acc, ()) = some (l, acc ++ (ps.drop k).map sp, ()) := by
 rw [n_17l20]
 by_cases hlt : k < ps.length
 ·obtain ⟨p, hp1, hm, hd, g1, g2⟩ := at_lt hlt
  rw [hd, List.length_cons] at ha
  have hle : acc.length + [sp p].length ≤ 4294967296 := by simp; omega
  simp only [Option.bind_eq_bind, Option.bind_some, Option.bind_none, if_true, if_false, Bool.false_eq_true, Bool.true_eq_false, Int.toNat_natCast, Int.natCast_nonneg, beq_iff_eq, decide_eq_true_eq, Int.ofNat_lt, g1, g2, hp1, hp p hm, hle, wrap_succ hlt (by omega : ps.length ≤ 9223372036854775807), hlt]
  rw [t17l l ps hn hp (k + 1) _ (by rw [List.length_append, List.length_singleton]; omega), hd]
  simp
 ·obtain ⟨hd, g1⟩ := at_end hlt
  simp only [Option.bind_eq_bind, Option.bind_some, Option.bind_none, if_true, if_false, Bool.false_eq_true, Bool.true_eq_false, Int.toNat_natCast, Int.natCast_nonneg, beq_iff_eq, decide_eq_true_eq, Int.ofNat_lt, g1, hd, hlt, List.map_nil, List.append_nil]
termination_by ps.length - k
def listsS : List (Int × ByteArray) := [(6, ofL [115, 116, 114, 117, 99, 116]), (8, ofL [117, 110, 105, 111, 110]), (9, ofL [112, 97, 99, 107, 101, 100])]
theorem t29 : n_29 () = some (listsS, ()) := rfl
theorem t17 : ∀ l : Layout, l.Good → l.spell.length ≤ 100000 → n_17 (l, ()) = some (sp l, ()) := by
 refine Layout.ind fun l ih hg hs => ?_
 have hpart : ∀ p ∈ l.parts, n_17 (p, ()) = some (sp p, ()) := fun p hp => ih p hp (hg.part hp) (Nat.le_trans (spell_part hg.self.1 hp) hs)
 have hpl : ∀ p ∈ l.parts, p.spell.length ≤ l.spell.length := fun p hp => spell_part hg.self.1 hp
 obtain ⟨k, n, f, ps⟩ := l
 have hb := big_n hg.self.2
 simp only at hpart hpl
 rw [n_17]
 unfold sp
 rw [Layout.spell] at hs hpl ⊢
 rcases isS_cases hg.self.1 with ⟨rfl, rfl, rfl, rfl⟩ | ⟨rfl, rfl, rfl, rfl⟩ | ⟨rfl, rfl, rfl, rfl⟩ | ⟨rfl, h1, rfl⟩ | ⟨rfl, rfl, rfl, q, rfl⟩ | ⟨rfl, h1, rfl, q, rfl⟩ | ⟨rfl, h1, rfl, rfl⟩ | ⟨rfl, rfl, rfl⟩ | ⟨rfl, rfl, rfl⟩ | ⟨rfl, rfl, rfl⟩
 ·rfl
 ·rfl
 ·rfl
 ·have hi := t28 (n := n) (by omega) (by omega)
  simp at hs
  cases f
  ·have hle : (ofL [117]).size + (ofL (decDigits n.toNat)).size ≤ 4294967296 := by rw [ofL_size, ofL_size]; simp; omega
   simp [mk_ofL, hi, hle, ofL_append]
  ·have hle : (ofL [105]).size + (ofL (decDigits n.toNat)).size ≤ 4294967296 := by rw [ofL_size, ofL_size]; simp; omega
   simp [mk_ofL, hi, hle, ofL_append]
 ·have hq := hpart q List.mem_cons_self
  simp [Layout.spellH] at hs
  have hle : (ofL [63]).size + (sp q).size ≤ 4294967296 := by unfold sp; rw [ofL_size, ofL_size]; simp; omega
  simp [mk_ofL, hq, hle, Layout.spellH]
  simp [sp, ofL_append]
 ·have hq := hpart q List.mem_cons_self
  have hi := t28 (n := n) (by omega) (by omega)
  simp [Layout.spellH] at hs
  have hl1 : (ofL [91]).size + (ofL (decDigits n.toNat)).size ≤ 4294967296 := by rw [ofL_size, ofL_size]; simp; omega
  have hl2 : (ofL [91] ++ ofL (decDigits n.toNat)).size + (ofL [93]).size ≤ 4294967296 := by rw [ofL_append, ofL_size, ofL_size]; simp; omega
  have hl3 : (ofL [91] ++ ofL (decDigits n.toNat) ++ ofL [93]).size + (sp q).size ≤ 4294967296 := by unfold sp; rw [ofL_append, ofL_append, ofL_size, ofL_size]; simp; omega
  simp [mk_ofL, hq, hi, hl1, hl2, hl3, Layout.spellH]
  simp [sp, ofL_append]
  simp only [ofL_size, List.length_cons, List.length_nil]
  omega
 ·have hi := t28 (n := n) (by omega) (by omega)
  simp at hs
  have hl1 : (ofL [101, 110, 117, 109, 40]).size + (ofL (decDigits n.toNat)).size ≤ 4294967296 := by rw [ofL_size, ofL_size]; simp; omega
  have hl2 : (ofL [101, 110, 117, 109, 40] ++ ofL (decDigits n.toNat)).size + (ofL [41]).size ≤ 4294967296 := by rw [ofL_append, ofL_size, ofL_size]; simp; omega
  simp [mk_ofL, hi, hl1, hl2]
  simp [ofL_append]
  simp only [ofL_size, List.length_cons, List.length_nil]
  omega
 all_goals
  have hj : ((ps.map sp).map (·.data.toList)) = ps.map Layout.spell := by
   rw [List.map_map]
   exact List.map_congr_left fun p _ => ofL_data p.spell
  simp at hs
  have hl : ∀ L, n_17l20 (ps, (ps.length : Int), 0, L, [], ()) = some (L, ps.map sp, ()) := fun L => by
   have := t17l L ps (by omega) hpart 0 [] (by simp; omega)
   simpa only [Int.natCast_zero, Int.ofNat_eq_natCast, List.drop_zero, List.nil_append] using this
  have h30 : n_30 (ps.map sp, ofL [44], ()) = some (ofL (Layout.spellL ps), ()) := by
   unfold n_30
   simp only [hj, ofL_data, spellL_join, List.length_map]
   rw [if_pos ⟨by omega, by omega⟩]; rfl
  simp [mk_ofL, hl, t29, listsS, Mp.get, Mp.ieq, h30]
  simp only [ofL_append, ofL_size, ofL_inj]
  simp
  try omega
end Go.Proofs.YtogoamfegaebgaaGreatDoor
end
section
namespace Go.Proofs.YtogoamfegaebgaaGreatDoor
open Go.Awp Go.Tx
open Go.Lib (decDigits)
set_option maxRecDepth 20000
def restS (ps : List Layout) (k : Nat) : List UInt8 := if k = 0 then Layout.spellL ps else Layout.spellR (ps.drop k)
theorem restS_end {ps : List Layout} {k : Nat} (h : ¬ k < ps.length) : restS ps k = [] := by
 unfold restS
 split
 ·subst k
  have : ps = [] := List.eq_nil_of_length_eq_zero (by omega)
  subst this; rfl
 ·rw [drop_end h]; rfl
theorem restS_step {ps : List Layout} {k : Nat} {p : Layout} (hd : ps.drop k = p :: ps.drop (k + 1)) : restS ps k = (if k = 0 then [] else [44]) ++ p.spell ++ restS ps (k + 1) := by
 have e : restS ps (k + 1) = Layout.spellR (ps.drop (k + 1)) := by unfold restS; rw [if_neg (by omega)]
 rw [e]
 unfold restS
 by_cases hk : k = 0
 ·subst hk
  rw [if_pos rfl, if_pos rfl]
  rw [List.drop_zero] at hd
  conv => lhs; rw [hd]
  simp [Layout.spellL]
 ·rw [if_neg hk, if_neg hk, hd]
  simp [Layout.spellR]
theorem t19l (l : Layout) (hn : l.parts.length ≤ 1000) (hp : ∀ p ∈ l.parts, n_19 (p, ()) = some (sp p, ())) (k : Nat) (acc : List UInt8) (ha : acc.length + (restS l.parts k).length ≤ 1000000) :
  n_19l24 (ofL acc, k, l, ()) = some (ofL (acc ++ restS l.parts k), ()) := by
 rw [n_19l24]
 by_cases hlt : k < l.parts.length
 ·obtain ⟨p, hp1, hm, hd, g1, g2⟩ := at_lt hlt
  have hst := restS_step hd
  rw [hst] at ha ⊢
  by_cases hk : k = 0
  ·subst hk
   have h0 : decide (((0 : Nat) : Int) > 0) = false := by decide
   simp at ha
   have hle : (ofL acc).size + (sp p).size ≤ 4294967296 := by unfold sp; rw [ofL_size, ofL_size]; omega
   simp only [Option.bind_eq_bind, Option.bind_some, Option.bind_none, if_true, if_false, Bool.false_eq_true, Bool.true_eq_false, Int.toNat_natCast, Int.natCast_nonneg, beq_iff_eq, decide_eq_true_eq, Int.ofNat_lt, h0, g1, g2, hp1, hp p hm, hle, wrap_succ hlt (by omega : l.parts.length ≤ 9223372036854775807), hlt, List.nil_append]
   unfold sp
   rw [ofL_append, t19l l hn hp (0 + 1) _ (by simp; omega)]
   simp
  ·have h0 : decide ((k : Int) > 0) = true := by simp; omega
   simp [hk] at ha
   have hl1 : (ofL acc).size + (ofL [44]).size ≤ 4294967296 := by rw [ofL_size, ofL_size]; simp; omega
   have hle : (ofL acc ++ ofL [44]).size + (sp p).size ≤ 4294967296 := by unfold sp; rw [ofL_append, ofL_size, ofL_size]; simp; omega
   simp only [Option.bind_eq_bind, Option.bind_some, Option.bind_none, if_true, if_false, Bool.false_eq_true, Bool.true_eq_false, Int.toNat_natCast, Int.natCast_nonneg, beq_iff_eq, decide_eq_true_eq, Int.ofNat_lt, mk_ofL, h0, g1, g2, hp1, hp p hm, hl1, hle, wrap_succ hlt (by omega : l.parts.length ≤ 9223372036854775807), hlt, hk]
   unfold sp
   rw [ofL_append, ofL_append, t19l l hn hp (k + 1) _ (by simp; omega)]
   simp
 ·obtain ⟨hd, g1⟩ := at_end hlt
  simp only [Option.bind_eq_bind, Option.bind_some, Option.bind_none, if_true, if_false, Bool.false_eq_true, Bool.true_eq_false, Int.toNat_natCast, Int.natCast_nonneg, beq_iff_eq, decide_eq_true_eq, Int.ofNat_lt, g1, hd, hlt, restS_end hlt, List.append_nil]
termination_by l.parts.length - k
theorem t19 : ∀ l : Layout, l.Good → l.spell.length ≤ 100000 → n_19 (l, ()) = some (sp l, ()) := by
 refine Layout.ind fun l ih hg hs => ?_
 have hpart : ∀ p ∈ l.parts, n_19 (p, ()) = some (sp p, ()) := fun p hp => ih p hp (hg.part hp) (Nat.le_trans (spell_part hg.self.1 hp) hs)
 obtain ⟨k, n, f, ps⟩ := l
 have hb := big_n hg.self.2
 simp only at hpart
 rw [n_19]
 unfold sp
 rw [Layout.spell] at hs ⊢
 rcases isS_cases hg.self.1 with ⟨rfl, rfl, rfl, rfl⟩ | ⟨rfl, rfl, rfl, rfl⟩ | ⟨rfl, rfl, rfl, rfl⟩ | ⟨rfl, h1, rfl⟩ | ⟨rfl, rfl, rfl, q, rfl⟩ | ⟨rfl, h1, rfl, q, rfl⟩ | ⟨rfl, h1, rfl, rfl⟩ | ⟨rfl, rfl, rfl⟩ | ⟨rfl, rfl, rfl⟩ | ⟨rfl, rfl, rfl⟩
 ·rfl
 ·rfl
 ·rfl
 ·have hi := t37 (n := n) (by omega) (by omega)
  simp at hs
  cases f
  ·have hle : (ofL [117]).size + (ofL (decDigits n.toNat)).size ≤ 4294967296 := by rw [ofL_size, ofL_size]; simp; omega
   simp [mk_ofL, hi, hle, ofL_append]
  ·have hle : (ofL [105]).size + (ofL (decDigits n.toNat)).size ≤ 4294967296 := by rw [ofL_size, ofL_size]; simp; omega
   simp [mk_ofL, hi, hle, ofL_append]
 ·have hq := hpart q List.mem_cons_self
  simp [Layout.spellH] at hs
  have hle : (ofL [63]).size + (sp q).size ≤ 4294967296 := by unfold sp; rw [ofL_size, ofL_size]; simp; omega
  simp [mk_ofL, hq, hle, Layout.spellH]
  simp [sp, ofL_append]
 ·have hq := hpart q List.mem_cons_self
  have hi := t37 (n := n) (by omega) (by omega)
  simp [Layout.spellH] at hs
  simp [mk_ofL, hq, hi, Layout.spellH]
  simp [sp, ofL_append]
  simp only [ofL_size, List.length_cons, List.length_nil]
  omega
 ·have hi := t37 (n := n) (by omega) (by omega)
  simp at hs
  simp [mk_ofL, hi]
  simp [ofL_append]
  simp only [ofL_size, List.length_cons, List.length_nil]
  omega
 all_goals
  simp at hs
  have hl : ∀ acc : List UInt8, acc.length ≤ 100 → ∀ k : Int, n_19l24 (ofL acc, 0, ⟨k, 0, false, ps⟩, ()) = some (ofL (acc ++ Layout.spellL ps), ()) := fun acc ha k => by
   have := t19l ⟨k, 0, false, ps⟩ (by simp; omega) hpart 0 acc (by simp [restS]; omega)
   simpa only [Int.natCast_zero, Int.ofNat_eq_natCast, restS, if_true] using this
  simp [mk_ofL, hl]
  simp only [ofL_append, ofL_size, ofL_inj]
  simp
  try omega
theorem good_of_val {l : Layout} (h : valS l = 0) : l.Good := by
 unfold valS at h
 split at h
 ·cases h
 ·rename_i hl
  split at h
  ·rename_i hr
   simp only [Bool.or_eq_true, decide_eq_true_eq, not_or, Bool.not_eq_true] at hl
   obtain ⟨hl, _⟩ := hl
   unfold Layout.large at hl
   simp only [Bool.or_eq_false_iff, decide_eq_false_iff_not] at hl
   obtain ⟨⟨h1, h2⟩, h3⟩ := hl
   intro q hq
   exact ⟨List.all_eq_true.1 hr q hq, by
    cases hb : q.big with
    | false => rfl
    | true => rw [List.any_eq_true.2 ⟨q, hq, hb⟩] at h3; cases h3⟩
  ·cases h
theorem size_of_val {l : Layout} (h : valS l = 0) : l.all.length ≤ 60 ∧ l.depth ≤ 5 := by
 unfold valS at h
 split at h
 ·cases h
 ·rename_i hl
  simp only [Bool.or_eq_true, decide_eq_true_eq, not_or, Bool.not_eq_true] at hl
  obtain ⟨hl, _⟩ := hl
  unfold Layout.large at hl
  simp only [Bool.or_eq_false_iff, decide_eq_false_iff_not] at hl
  omega
theorem dec_short {n : Int} (h : n ≤ 65536) : (decDigits n.toNat).length ≤ 6 := (dec_len 5 _).2 (by omega)
theorem spell_len : ∀ l : Layout, l.Good → l.spell.length + 1 ≤ 16 * l.all.length := by
 refine Layout.ind fun l ih hg => ?_
 have hpart : ∀ p ∈ l.parts, p.spell.length + 1 ≤ 16 * p.all.length := fun p hp => ih p hp (hg.part hp)
 have hR : ∀ ps : List Layout, (∀ p ∈ ps, p.spell.length + 1 ≤ 16 * p.all.length) → (Layout.spellR ps).length ≤ 16 * (Layout.allL ps).length := by
  intro ps
  induction ps with
  | nil => intro _; simp [Layout.spellR]
  | cons p r ih =>
   intro h
   have h1 := h p List.mem_cons_self
   have h2 := ih fun q hq => h q (List.mem_cons_of_mem _ hq)
   simp only [Layout.spellR, Layout.allL, List.length_cons, List.length_append]; omega
 have hL : ∀ ps : List Layout, (∀ p ∈ ps, p.spell.length + 1 ≤ 16 * p.all.length) → (Layout.spellL ps).length ≤ 16 * (Layout.allL ps).length := by
  intro ps h
  cases ps with
  | nil => simp [Layout.spellL]
  | cons p r =>
   have h1 := h p List.mem_cons_self
   have h2 := hR r fun q hq => h q (List.mem_cons_of_mem _ hq)
   simp only [Layout.spellL, Layout.allL, List.length_append]; omega
 obtain ⟨k, n, f, ps⟩ := l
 have hb := big_n hg.self.2
 simp only at hpart
 rw [Layout.all_eq, List.length_cons, Layout.spell]
 have hLp := hL ps hpart
 rcases isS_cases hg.self.1 with ⟨rfl, rfl, rfl, rfl⟩ | ⟨rfl, rfl, rfl, rfl⟩ | ⟨rfl, rfl, rfl, rfl⟩ | ⟨rfl, h1, rfl⟩ | ⟨rfl, rfl, rfl, q, rfl⟩ | ⟨rfl, h1, rfl, q, rfl⟩ | ⟨rfl, h1, rfl, rfl⟩ | ⟨rfl, rfl, rfl⟩ | ⟨rfl, rfl, rfl⟩ | ⟨rfl, rfl, rfl⟩
 ·simp; omega
 ·simp; omega
 ·simp; omega
 ·have := dec_short (n := n) (by omega)
  simp; omega
 ·have := hpart q List.mem_cons_self
  simp [Layout.spellH, Layout.allL]; omega
 ·have := hpart q List.mem_cons_self
  have := dec_short (n := n) (by omega)
  simp [Layout.spellH, Layout.allL]; omega
 ·have := dec_short (n := n) (by omega)
  simp; omega
 ·simp; omega
 ·simp; omega
 ·simp; omega
theorem spell_short {l : Layout} (h : valS l = 0) : l.spell.length ≤ 1000 := by
 have h1 := spell_len l (good_of_val h)
 have h2 := (size_of_val h).1
 omega
def textS (l : Layout) : ByteArray × Int := if valS l = 0 then (sp l, 0) else (ofL [], valS l)
theorem t6 {l : Layout} (hl : l.Fits) (hs : l.all.length ≤ 10000) (hd : l.depth ≤ 10000) : n_6 (l, ()) = some ((textS l).1, (textS l).2, ()) := by
 unfold n_6 textS
 simp only [f20 l hl hs hd, Option.bind_eq_bind, Option.bind_some, Option.bind_none, if_true, if_false, Bool.false_eq_true, Bool.true_eq_false, Int.toNat_natCast, Int.natCast_nonneg, beq_iff_eq, decide_eq_true_eq, Int.ofNat_lt]
 by_cases h : valS l = 0
 ·simp [h, t17 l (good_of_val h) (by have := spell_short h; omega)]
 ·simp [h, mk_ofL]
theorem t7 {l : Layout} (hl : l.Fits) (hs : l.all.length ≤ 10000) (hd : l.depth ≤ 10000) : n_7 (l, ()) = some ((textS l).1, (textS l).2, ()) := by
 unfold n_7 textS
 simp only [f21 l hl hs hd, Option.bind_eq_bind, Option.bind_some, Option.bind_none, if_true, if_false, Bool.false_eq_true, Bool.true_eq_false, Int.toNat_natCast, Int.natCast_nonneg, beq_iff_eq, decide_eq_true_eq, Int.ofNat_lt]
 by_cases h : valS l = 0
 ·simp [h, t19 l (good_of_val h) (by have := spell_short h; omega)]
 ·simp [h, mk_ofL]
end Go.Proofs.YtogoamfegaebgaaGreatDoor
end
section
namespace Go.Proofs.YtogoamfegaebgaaGreatDoor
open Go.Awp Go.Tx
open IntKind (i64)
open Go.Lib (decDigits)
set_option maxRecDepth 20000
theorem strip_take : ∀ (w T : List UInt8), strip w T = if T.take w.length = w then some (T.drop w.length) else none
 | [], T => by simp [strip]
 | p :: ps, [] => by simp [strip]
 | p :: ps, c :: T => by
  rw [strip, strip_take ps T]
  by_cases h : p = c
  ·subst h
   simp
  ·have : ¬ c = p := fun e => h e.symm
   simp [h, this]
theorem strip_len {w T r : List UInt8} (h : strip w T = some r) : T.length = w.length + r.length := by
 rw [strip_some.1 h, List.length_append]
theorem drop_take (S : List UInt8) (k n : Nat) : (S.take (k + n)).drop k = (S.drop k).take n := by
 rw [List.drop_take]; congr 1; omega
theorem strip_at {S w r : List UInt8} {k : Nat} (hk : k ≤ S.length) (h : strip w (S.drop k) = some r) : k + w.length ≤ S.length ∧ r = S.drop (k + w.length) := by
 have h1 := strip_len h
 rw [List.length_drop] at h1
 refine ⟨by omega, ?_⟩
 rw [strip_take] at h
 split at h
 ·rw [← Option.some.inj h, List.drop_drop]
 ·cases h
theorem t42 {S w : List UInt8} (hS : S.length ≤ 100000) (hw : w.length ≤ 100) {k : Nat} (hk : k ≤ S.length) : n_42 (ofL S, (k : Int), ofL w, ()) = some ((strip w (S.drop k)).isSome, ()) := by
 unfold n_42
 have e1 : i64.wrap ((k : Int) + (w.length : Int)) = ((k + w.length : Nat) : Int) := by rw [wrap64 (by omega) (by omega)]; omega
 simp only [ofL_size, e1]
 by_cases h : k + w.length ≤ S.length
 ·have h1 : decide (((k + w.length : Nat) : Int) ≤ (S.length : Int)) = true := by simp; omega
  have h2 : (0 : Int) ≤ (k : Int) ∧ (k : Int) ≤ ((k + w.length : Nat) : Int) ∧ ((k + w.length : Nat) : Int) ≤ (S.length : Int) := by omega
  simp only [h1, h2, and_self, Option.bind_eq_bind, Option.bind_some, Option.bind_none, eq_self, if_true, if_false, Bool.false_eq_true, Int.toNat_natCast, ofL_extract, ofL_list, drop_take, strip_take]
  by_cases hq : (S.drop k).take w.length = w
  ·rw [if_pos hq]; simp [hq]
  ·rw [if_neg hq]; simp [hq]
 ·have h1 : decide (((k + w.length : Nat) : Int) ≤ (S.length : Int)) = false := by simp; omega
  have h2 : strip w (S.drop k) = none := by
   cases hs : strip w (S.drop k) with
   | none => rfl
   | some r => exact (h (strip_at hk hs).1).elim
  simp only [h1, Option.bind_eq_bind, Option.bind_some, Option.bind_none, eq_self, if_true, if_false, Bool.false_eq_true, Int.toNat_natCast, h2, Option.isSome_none]
def valF (n : Nat) (l : List UInt8) : Nat := l.foldl (fun n c => 10 * n + (c.toNat - 48)) n
theorem at_drop {S : List UInt8} {k : Nat} {c : UInt8} {t : List UInt8} (h : S.drop k = c :: t) : S[k]? = some c ∧ k < S.length ∧ t = S.drop (k + 1) := by
 have hk : k < S.length := by
  apply Nat.lt_of_not_le
  intro hle
  rw [List.drop_eq_nil_of_le hle] at h; cases h
 have := List.drop_eq_getElem_cons hk
 rw [h] at this
 injection this with h1 h2
 exact ⟨by rw [List.getElem?_eq_getElem hk, h1], hk, h2⟩
theorem t43l {S : List UInt8} (hS : S.length ≤ 100000) (a : Nat) (ha : a ≤ 100000) : ∀ (j k n : Nat), k + j = a + 6 → k ≤ S.length → a ≤ k → n < 10 ^ (6 - j) →
  n_43l2 (ofL S, (a : Int), (n : Int), (k : Int), ()) = some (ofL S, (a : Int), ((valF n (((S.drop k).takeWhile isDig).take j) : Nat) : Int), ((k + (((S.drop k).takeWhile isDig).take j).length : Nat) : Int), ()) := by
 intro j
 induction j with
 | zero =>
  intro k n hkj hk hak hn
  rw [n_43l2]
  have e1 : i64.wrap ((a : Int) + 6) = ((a + 6 : Nat) : Int) := by rw [wrap64 (by omega) (by omega)]; omega
  have h2 : decide ((k : Int) < ((a + 6 : Nat) : Int)) = false := by simp; omega
  by_cases h1 : k < S.length
  ·have h1' : decide ((k : Int) < (S.length : Int)) = true := by simp; omega
   simp only [ofL_size, e1, h1', h2, Option.bind_eq_bind, Option.bind_some, Option.bind_none, eq_self, if_true, if_false, Bool.false_eq_true, Int.toNat_natCast, List.take_zero, valF, List.foldl_nil, List.length_nil, Nat.add_zero]
  ·have h1' : decide ((k : Int) < (S.length : Int)) = false := by simp; omega
   simp only [ofL_size, e1, h1', Option.bind_eq_bind, Option.bind_some, Option.bind_none, eq_self, if_true, if_false, Bool.false_eq_true, Int.toNat_natCast, List.take_zero, valF, List.foldl_nil, List.length_nil, Nat.add_zero]
 | succ j ih =>
  intro k n hkj hk hak hn
  rw [n_43l2]
  have e1 : i64.wrap ((a : Int) + 6) = ((a + 6 : Nat) : Int) := by rw [wrap64 (by omega) (by omega)]; omega
  have h2 : decide ((k : Int) < ((a + 6 : Nat) : Int)) = true := by simp; omega
  cases hd : S.drop k with
  | nil =>
   have h1' : decide ((k : Int) < (S.length : Int)) = false := by
    have := congrArg List.length hd
    rw [List.length_drop, List.length_nil] at this
    simp; omega
   simp only [ofL_size, e1, h1', Option.bind_eq_bind, Option.bind_some, Option.bind_none, eq_self, if_true, if_false, Bool.false_eq_true, Int.toNat_natCast, List.takeWhile_nil, List.take_nil, valF, List.foldl_nil, List.length_nil, Nat.add_zero]
  | cons c t =>
   obtain ⟨g1, g2, g3⟩ := at_drop hd
   have h1' : decide ((k : Int) < (S.length : Int)) = true := by simp; omega
   have hk0 : (0 : Int) ≤ (k : Int) := by omega
   by_cases hc : isDig c = true
   ·have hcc : 48 ≤ c.toNat ∧ c.toNat ≤ 57 := by simpa [isDig] using hc
    have c1 : decide ((c.toNat : Int) ≥ 48) = true := by simp; omega
    have c2 : decide ((c.toNat : Int) ≤ 57) = true := by simp; omega
    have hn6 : n < 1000000 := Nat.lt_of_lt_of_le hn (by
     have : 10 ^ (6 - (j + 1)) ≤ 10 ^ 6 := Nat.pow_le_pow_right (by omega) (by omega)
     exact this)
    have w1 : i64.wrap (10 * (n : Int)) = 10 * (n : Int) := wrap64 (by omega) (by omega)
    have w2 : i64.wrap (c.toNat : Int) = (c.toNat : Int) := wrap64 (by omega) (by omega)
    have w3 : i64.wrap (10 * (n : Int) + (c.toNat : Int)) = 10 * (n : Int) + (c.toNat : Int) := wrap64 (by omega) (by omega)
    have w4 : i64.wrap (10 * (n : Int) + (c.toNat : Int) - 48) = ((10 * n + (c.toNat - 48) : Nat) : Int) := by rw [wrap64 (by omega) (by omega)]; omega
    have w5 : i64.wrap ((k : Int) + 1) = ((k + 1 : Nat) : Int) := by rw [wrap64 (by omega) (by omega)]; omega
    have hpow : 10 * n + (c.toNat - 48) < 10 ^ (6 - j) := by
     have e : 6 - j = 6 - (j + 1) + 1 := by omega
     rw [e, Nat.pow_succ]; omega
    have := ih (k + 1) (10 * n + (c.toNat - 48)) (by omega) (by omega) (by omega) hpow
    simp only [ofL_size, e1, h1', h2, hk0, ofL_get, g1, c1, c2, w1, w2, w3, w4, w5, Option.bind_eq_bind, Option.bind_some, Option.bind_none, eq_self, if_true, if_false, Bool.false_eq_true, Int.toNat_natCast]
    rw [this, ← g3, List.takeWhile_cons, if_pos hc, List.take_succ_cons]
    simp only [valF, List.foldl_cons, List.length_cons]
    have : k + 1 + ((t.takeWhile isDig).take j).length = k + (((t.takeWhile isDig).take j).length + 1) := by omega
    rw [this]
   ·have hr : (c :: t).takeWhile isDig = [] := by rw [List.takeWhile_cons, if_neg hc]
    rw [hr]
    by_cases c1 : 48 ≤ c.toNat
    ·have c1' : decide ((c.toNat : Int) ≥ 48) = true := by simp; omega
     have c2' : decide ((c.toNat : Int) ≤ 57) = false := by
      have : ¬ (48 ≤ c.toNat ∧ c.toNat ≤ 57) := by simpa [isDig] using hc
      simp; omega
     simp only [ofL_size, e1, h1', h2, hk0, ofL_get, g1, c1', c2', Option.bind_eq_bind, Option.bind_some, Option.bind_none, eq_self, if_true, if_false, Bool.false_eq_true, Int.toNat_natCast, List.take_nil, valF, List.foldl_nil, List.length_nil, Nat.add_zero]
    ·have c1' : decide ((c.toNat : Int) ≥ 48) = false := by simp; omega
     simp only [ofL_size, e1, h1', h2, hk0, ofL_get, g1, c1', Option.bind_eq_bind, Option.bind_some, Option.bind_none, eq_self, if_true, if_false, Bool.false_eq_true, Int.toNat_natCast, List.take_nil, valF, List.foldl_nil, List.length_nil, Nat.add_zero]
def dig6 (T : List UInt8) : List UInt8 := (T.takeWhile isDig).take 6
theorem val_lt : ∀ l : List UInt8, (∀ c ∈ l, isDig c = true) → ∀ n, valF n l < (n + 1) * 10 ^ l.length
 | [], _, n => by simp [valF]
 | c :: t, h, n => by
  have hc : 48 ≤ c.toNat ∧ c.toNat ≤ 57 := by simpa [isDig] using h c List.mem_cons_self
  have := val_lt t (fun x hx => h x (List.mem_cons_of_mem _ hx)) (10 * n + (c.toNat - 48))
  rw [List.length_cons, Nat.pow_succ]
  refine Nat.lt_of_lt_of_le this ?_
  have e : (n + 1) * (10 ^ t.length * 10) = (10 * n + 10) * 10 ^ t.length := by
   rw [Nat.mul_comm (10 ^ t.length) 10, ← Nat.mul_assoc]; congr 1; omega
  rw [e]
  exact Nat.mul_le_mul_right _ (by omega)
theorem dig6_lt (T : List UInt8) : valD (dig6 T) < 1000000 := by
 have h := val_lt (dig6 T) (fun c hc => tw_dig T c (List.mem_of_mem_take hc)) 0
 have hl : (dig6 T).length ≤ 6 := by unfold dig6; rw [List.length_take]; omega
 have : 10 ^ (dig6 T).length ≤ 10 ^ 6 := Nat.pow_le_pow_right (by omega) hl
 have e : valF 0 (dig6 T) = valD (dig6 T) := rfl
 omega
theorem dig6_len (T : List UInt8) : (dig6 T).length ≤ T.length := by
 unfold dig6
 rw [List.length_take]
 have := (List.takeWhile_sublist (p := isDig) (l := T)).length_le
 omega
theorem dig6_take (T : List UInt8) : T.take (dig6 T).length = dig6 T := by
 unfold dig6
 have h := List.takeWhile_append_dropWhile (p := isDig) (l := T)
 conv => lhs; arg 2; rw [← h]
 rw [List.take_append_of_le_length (by rw [List.length_take]; omega), List.length_take]
 by_cases h6 : 6 ≤ (T.takeWhile isDig).length
 ·rw [Nat.min_eq_left h6]
 ·rw [Nat.min_eq_right (by omega), List.take_length, List.take_of_length_le (by omega)]
theorem num6_def (T : List UInt8) : num6 T = if decDigits (valD (dig6 T)) = dig6 T then some (valD (dig6 T), T.drop (dig6 T).length) else none := rfl
theorem t43 {S : List UInt8} (hS : S.length ≤ 100000) {k : Nat} (hk : k ≤ S.length) :
  n_43 (ofL S, (k : Int), ()) = some (((valD (dig6 (S.drop k)) : Nat) : Int), ((k + (dig6 (S.drop k)).length : Nat) : Int), (num6 (S.drop k)).isSome, ()) := by
 unfold n_43
 have hl := t43l hS k (by omega) 6 k 0 rfl hk (Nat.le_refl _) (by decide)
 have hlt := dig6_lt (S.drop k)
 have hlen := dig6_len (S.drop k)
 have htk := dig6_take (S.drop k)
 rw [List.length_drop] at hlen
 change n_43l2 (ofL S, (k : Int), (0 : Int), (k : Int), ()) = some (ofL S, (k : Int), ((valD (dig6 (S.drop k)) : Nat) : Int), ((k + (dig6 (S.drop k)).length : Nat) : Int), ()) at hl
 rw [num6_def]
 generalize hd : dig6 (S.drop k) = d at *
 simp only [hl, Option.bind_eq_bind, Option.bind_some, Option.bind_none, eq_self, if_true, if_false, Bool.false_eq_true, Int.toNat_natCast]
 by_cases h0 : d = []
 ·subst h0
  have : decide (((k + ([] : List UInt8).length : Nat) : Int) > (k : Int)) = false := by simp
  rw [if_neg (fun h => dec_ne _ h)]
  simp only [this, Option.bind_eq_bind, Option.bind_some, Option.bind_none, eq_self, if_true, if_false, Bool.false_eq_true, Int.toNat_natCast, Option.isSome_none]
 ·have hp := List.length_pos_iff.2 h0
  have h1 : decide (((k + d.length : Nat) : Int) > (k : Int)) = true := by simp; omega
  have h2 : (0 : Int) ≤ (k : Int) ∧ (k : Int) ≤ ((k + d.length : Nat) : Int) ∧ ((k + d.length : Nat) : Int) ≤ (S.length : Int) := by omega
  have h3 := t37 (n := ((valD d : Nat) : Int)) (by omega) (by omega)
  rw [Int.toNat_natCast] at h3
  simp only [h1, h2, h3, and_self, Option.bind_eq_bind, Option.bind_some, Option.bind_none, eq_self, if_true, if_false, Bool.false_eq_true, Int.toNat_natCast, ofL_size, ofL_extract, ofL_list, drop_take, htk]
  by_cases hq : decDigits (valD d) = d
  ·rw [if_pos hq]; simp [hq]
  ·rw [if_neg hq]; simp [hq]
end Go.Proofs.YtogoamfegaebgaaGreatDoor
end
section
namespace Go.Proofs.YtogoamfegaebgaaGreatDoor
open Go.Awp Go.Tx
open IntKind (i64)
open Go.Lib (decDigits)
set_option maxRecDepth 20000
def RR (S : List UInt8) (o : Option (Layout × List UInt8)) (x : Option (Int × Bool × Layout × Unit)) : Prop := match o with
 | some (l, r) => ∃ k : Nat, k ≤ S.length ∧ r = S.drop k ∧ x = some ((k : Int), true, l, ())
 | none => ∃ a l, x = some (a, false, l, ())
def LL (S : List UInt8) (o : Option (List Layout × List UInt8)) (x : Option (List Layout × Int × Bool × Unit)) : Prop := match o with
 | some (l, r) => ∃ k : Nat, k ≤ S.length ∧ r = S.drop k ∧ x = some (l, (k : Int), true, ())
 | none => ∃ l a, x = some (l, a, false, ())
section
variable {S : List UInt8} (hS : S.length ≤ 100000)
include hS
theorem w1 {k n : Nat} (hk : k ≤ S.length) (hn : n ≤ 100) : i64.wrap ((k : Int) + (n : Int)) = ((k + n : Nat) : Int) := by rw [wrap64 (by omega) (by omega)]; omega
theorem t44l {f : List UInt8 → Option (Layout × List UInt8)} {dep : Int} (H : ∀ k, k ≤ S.length → RR S (f (S.drop k)) (n_21 (ofL S, (k : Int), dep, ()))) : ∀ (m k : Nat) (acc : List Layout), acc.length + m = 13 → k ≤ S.length →
  match partsP f m (S.drop k) with
  | some (ps, r) => ∃ k' : Nat, k' ≤ S.length ∧ r = S.drop k' ∧ n_44l4 (ofL S, (k : Int), dep, acc, ()) = some (.inl (acc ++ ps, (k' : Int), true, ()))
  | none => (∃ ps a, n_44l4 (ofL S, (k : Int), dep, acc, ()) = some (.inl (ps, a, false, ()))) ∨ ∃ a, n_44l4 (ofL S, (k : Int), dep, acc, ()) = some (.inr (a, ()))
 | 0, k, acc, hm, hk => by
  rw [partsP]
  have h : decide ((acc.length : Int) ≤ 12) = false := by simp; omega
  refine .inr ⟨(k : Int), ?_⟩
  rw [n_44l4]
  simp only [h, Option.bind_eq_bind, Option.bind_some, Option.bind_none, eq_self, if_true, if_false, Bool.false_eq_true, Int.toNat_natCast]
 | m + 1, k, acc, hm, hk => by
  have h : decide ((acc.length : Int) ≤ 12) = true := by simp; omega
  have h1 := H k hk
  rw [partsP, n_44l4]
  cases hf : f (S.drop k) with
  | none =>
   rw [hf] at h1
   obtain ⟨a, l, h1⟩ := h1
   refine .inl ⟨[], a, ?_⟩
   simp only [h, h1, Bool.not_false, Option.bind_eq_bind, Option.bind_some, Option.bind_none, eq_self, if_true, if_false, Bool.false_eq_true, Int.toNat_natCast]
  | some q =>
   obtain ⟨l, r⟩ := q
   rw [hf] at h1
   obtain ⟨k1, hk1, rfl, h1⟩ := h1
   have hle : acc.length + [l].length ≤ 4294967296 := by simp; omega
   have e41 := t42 hS (w := [41]) (by decide) hk1
   have e44 := t42 hS (w := [44]) (by decide) hk1
   have hw : i64.wrap ((k1 : Int) + 1) = ((k1 + 1 : Nat) : Int) := w1 hS hk1 (n := 1) (by decide)
   simp only [h, h1, hle, mk_ofL, e41, e44, hw, Bool.not_true, Option.bind_eq_bind, Option.bind_some, Option.bind_none, eq_self, if_true, if_false, Bool.false_eq_true, Int.toNat_natCast]
   cases h41 : strip [41] (S.drop k1) with
   | some r2 =>
    obtain ⟨a1, a2⟩ := strip_at hk1 h41
    exact ⟨k1 + 1, a1, a2, by simp⟩
   | none =>
    cases h44 : strip [44] (S.drop k1) with
    | none => exact .inl ⟨[], _, by simp; rfl⟩
    | some r2 =>
     obtain ⟨a1, a2⟩ := strip_at hk1 h44
     have a1 : k1 + 1 ≤ S.length := a1
     have a2 : r2 = S.drop (k1 + 1) := a2
     have h3 := t44l H m (k1 + 1) (acc ++ [l]) (by simp; omega) a1
     rw [← a2] at h3
     simp only [Option.isSome_none, Option.isSome_some, Bool.not_true, Option.bind_eq_bind, Option.bind_some, Option.bind_none, eq_self, if_true, if_false, Bool.false_eq_true, Int.toNat_natCast]
     cases hp : partsP f m r2 with
     | none =>
      rw [hp] at h3
      exact h3
     | some y =>
      rw [hp] at h3
      obtain ⟨k', b1, b2, b3⟩ := h3
      exact ⟨k', b1, b2, by rw [b3]; simp⟩
theorem t44 {f : List UInt8 → Option (Layout × List UInt8)} {dep : Int} (H : ∀ k, k ≤ S.length → RR S (f (S.drop k)) (n_21 (ofL S, (k : Int), dep, ()))) {k : Nat} (hk : k ≤ S.length) :
  LL S (listP f 13 (S.drop k)) (n_44 (ofL S, (k : Int), dep, ())) := by
 unfold listP
 rw [n_44]
 have e41 := t42 hS (w := [41]) (by decide) hk
 have hw : i64.wrap ((k : Int) + 1) = ((k + 1 : Nat) : Int) := w1 hS hk (n := 1) (by decide)
 simp only [mk_ofL, e41, hw, Option.bind_eq_bind, Option.bind_some, Option.bind_none, eq_self, if_true, if_false, Bool.false_eq_true, Int.toNat_natCast]
 cases h41 : strip [41] (S.drop k) with
 | some r2 =>
  obtain ⟨a1, a2⟩ := strip_at hk h41
  exact ⟨k + 1, a1, a2, by simp⟩
 | none =>
  have h3 := t44l hS H 13 k [] rfl hk
  simp only [Option.isSome_none, Option.bind_eq_bind, Option.bind_some, Option.bind_none, eq_self, if_true, if_false, Bool.false_eq_true, Int.toNat_natCast]
  cases hp : partsP f 13 (S.drop k) with
  | none =>
   rw [hp] at h3
   rcases h3 with ⟨ps, a, h3⟩ | ⟨a, h3⟩
   ·exact ⟨ps, a, by rw [h3]; rfl⟩
   ·exact ⟨[], a, by rw [h3]; rfl⟩
  | some y =>
   rw [hp] at h3
   obtain ⟨k', b1, b2, b3⟩ := h3
   exact ⟨k', b1, b2, by rw [b3]; rfl⟩
theorem t21w {k : Nat} (hk : k ≤ S.length) (dep : Int) (L : Layout) : n_21l6 (ofL S, (k : Int), dep, [ofL wVoid, ofL wBool, ofL wWord], [0, 1, 3], 0, L, ()) =
  match strip wVoid (S.drop k) with
  | some _ => some (.inl (((k + 4 : Nat) : Int), true, .mk 0 0 false [], ()))
  | none => match strip wBool (S.drop k) with
   | some _ => some (.inl (((k + 4 : Nat) : Int), true, .mk 1 0 false [], ()))
   | none => match strip wWord (S.drop k) with
    | some _ => some (.inl (((k + 4 : Nat) : Int), true, .mk 3 0 false [], ()))
    | none => some (.inr (ofL S, (k : Int), dep, L, ())) := by
 have e1 := t42 hS (w := wVoid) (by decide) hk
 have e2 := t42 hS (w := wBool) (by decide) hk
 have e3 := t42 hS (w := wWord) (by decide) hk
 have hw : i64.wrap ((k : Int) + 4) = ((k + 4 : Nat) : Int) := w1 hS hk (n := 4) (by decide)
 have q1 : i64.wrap 1 = 1 := by decide
 have q2 : i64.wrap 2 = 2 := by decide
 have q3 : i64.wrap 3 = 3 := by decide
 simp only [wVoid, wBool, wWord] at *
 rw [n_21l6]
 cases h1 : strip [118, 111, 105, 100] (S.drop k) with
 | some r => simp [e1, h1, ofL_size]; exact hw
 | none =>
  simp [e1, h1, q1]
  rw [n_21l6]
  cases h2 : strip [98, 111, 111, 108] (S.drop k) with
  | some r => simp [e2, h2, ofL_size]; exact hw
  | none =>
   simp [e2, h2, q2]
   rw [n_21l6]
   cases h3 : strip [119, 111, 114, 100] (S.drop k) with
   | some r => simp [e3, h3, ofL_size]; exact hw
   | none =>
    simp [e3, h3, q3]
    rw [n_21l6]
    simp
end
end Go.Proofs.YtogoamfegaebgaaGreatDoor
end
section
namespace Go.Proofs.YtogoamfegaebgaaGreatDoor
open Go.Awp Go.Tx
open IntKind (i64)
open Go.Lib (decDigits)
set_option maxRecDepth 20000
def RI (S : List UInt8) (o : Option (Layout × List UInt8)) (x : Option ((Int × Bool × Layout × Unit) ⊕ (ByteArray × Int × Layout × Unit))) : Prop := match o with
 | some (l, r) => ∃ k : Nat, k ≤ S.length ∧ r = S.drop k ∧ x = some (.inl ((k : Int), true, l, ()))
 | none => ∃ a l, x = some (.inl (a, false, l, ()))
theorem ri_of {S : List UInt8} {o : Option (List Layout × List UInt8)} {x : Option (List Layout × Int × Bool × Unit)} (h : LL S o x) (c : Int) :
  RI S (o.map fun q => (Layout.mk c 0 false q.1, q.2)) (x.bind fun x4 => some (.inl (x4.2.1, x4.2.2.1, Layout.mk c 0 false x4.1, ()))) := by
 cases o with
 | none => obtain ⟨l, a, rfl⟩ := h; exact ⟨a, _, rfl⟩
 | some q => obtain ⟨ps, r⟩ := q; obtain ⟨k, h1, h2, rfl⟩ := h; exact ⟨k, h1, h2, rfl⟩
section
variable {S : List UInt8} (hS : S.length ≤ 100000)
include hS
theorem t21h {f : List UInt8 → Option (Layout × List UInt8)} {dep : Int} (H : ∀ k, k ≤ S.length → LL S (listP f 13 (S.drop k)) (n_44 (ofL S, (k : Int), i64.wrap (dep + 1), ()))) {k : Nat} (hk : k ≤ S.length) (L : Layout) :
  (∀ r, strip wStruct (S.drop k) = some r → RI S ((listP f 13 r).map fun q => (Layout.mk 6 0 false q.1, q.2)) (n_21l26 (ofL S, (k : Int), dep, [ofL wStruct, ofL wUnion, ofL wPacked], [6, 8, 9], 0, L, ()))) ∧
  (strip wStruct (S.drop k) = none → (∀ r, strip wUnion (S.drop k) = some r → RI S ((listP f 13 r).map fun q => (Layout.mk 8 0 false q.1, q.2)) (n_21l26 (ofL S, (k : Int), dep, [ofL wStruct, ofL wUnion, ofL wPacked], [6, 8, 9], 0, L, ()))) ∧
  (strip wUnion (S.drop k) = none → (∀ r, strip wPacked (S.drop k) = some r → RI S ((listP f 13 r).map fun q => (Layout.mk 9 0 false q.1, q.2)) (n_21l26 (ofL S, (k : Int), dep, [ofL wStruct, ofL wUnion, ofL wPacked], [6, 8, 9], 0, L, ()))) ∧
  (strip wPacked (S.drop k) = none → n_21l26 (ofL S, (k : Int), dep, [ofL wStruct, ofL wUnion, ofL wPacked], [6, 8, 9], 0, L, ()) = some (.inr (ofL S, (k : Int), L, ()))))) := by
 have e1 := t42 hS (w := wStruct) (by decide) hk
 have e2 := t42 hS (w := wUnion) (by decide) hk
 have e3 := t42 hS (w := wPacked) (by decide) hk
 have hw7 : i64.wrap ((k : Int) + 7) = ((k + 7 : Nat) : Int) := w1 hS hk (n := 7) (by decide)
 have hw6 : i64.wrap ((k : Int) + 6) = ((k + 6 : Nat) : Int) := w1 hS hk (n := 6) (by decide)
 have q1 : i64.wrap 1 = 1 := by decide
 have q2 : i64.wrap 2 = 2 := by decide
 have q3 : i64.wrap 3 = 3 := by decide
 simp only [wStruct, wUnion, wPacked] at *
 refine ⟨fun r h1 => ?_, fun h1 => ⟨fun r h2 => ?_, fun h2 => ⟨fun r h3 => ?_, fun h3 => ?_⟩⟩⟩
 ·obtain ⟨a1, rfl⟩ := strip_at hk h1
  have := ri_of (H _ a1) 6
  rw [n_21l26]
  simp only [List.length_cons, List.length_nil] at this
  simpa [e1, h1, ofL_size, hw7] using this
 ·obtain ⟨a1, rfl⟩ := strip_at hk h2
  have := ri_of (H _ a1) 8
  simp only [List.length_cons, List.length_nil] at this
  rw [n_21l26]
  simp [e1, h1, q1]
  rw [n_21l26]
  simpa [e2, h2, ofL_size, hw6] using this
 ·obtain ⟨a1, rfl⟩ := strip_at hk h3
  have := ri_of (H _ a1) 9
  simp only [List.length_cons, List.length_nil] at this
  rw [n_21l26]
  simp [e1, h1, q1]
  rw [n_21l26]
  simp [e2, h2, q2]
  rw [n_21l26]
  simpa [e3, h3, ofL_size, hw7] using this
 ·rw [n_21l26]
  simp [e1, h1, q1]
  rw [n_21l26]
  simp [e2, h2, q2]
  rw [n_21l26]
  simp [e3, h3, q3]
  rw [n_21l26]
  simp
theorem t21 : ∀ (d : Nat), d ≤ 6 → ∀ k : Nat, k ≤ S.length → RR S (plP num6 13 d (S.drop k)) (n_21 (ofL S, (k : Int), 6 - (d : Int), ()))
 | 0, _, k, hk => by
  rw [plP, n_21]
  exact ⟨(k : Int), Layout.mk 0 0 false [], by simp⟩
 | d + 1, hd, k, hk => by
  have ih := t21 d (by omega)
  have hdep : (6 : Int) - ((d + 1 : Nat) : Int) = 5 - (d : Int) := by omega
  have hw : i64.wrap (5 - (d : Int) + 1) = 6 - (d : Int) := by rw [wrap64 (by omega) (by omega)]; omega
  have hgt : decide ((5 : Int) - (d : Int) > 5) = false := decide_eq_false (by omega)
  rw [hdep]
  rw [n_21]
  cases hT : S.drop k with
  | nil =>
   have hk' : S.length ≤ k := by
    have := congrArg List.length hT
    rw [List.length_drop, List.length_nil] at this; omega
   have hge : decide ((k : Int) ≥ (S.length : Int)) = true := by simp; omega
   have : plP num6 13 (d + 1) [] = none := by simp [plP, strip]
   rw [this]
   exact ⟨(k : Int), Layout.mk 0 0 false [], by simp only [hgt, ofL_size, hge, Option.bind_eq_bind, Option.bind_some, Option.bind_none, eq_self, if_true, if_false, Bool.false_eq_true, Int.toNat_natCast]⟩
  | cons c t =>
   obtain ⟨g1, g2, g3⟩ := at_drop hT
   have hlt : t.length = S.length - (k + 1) := by rw [g3, List.length_drop]
   have hge : decide ((k : Int) ≥ (S.length : Int)) = false := by simp; omega
   have hw21 := t21w hS hk (5 - (d : Int)) (Layout.mk 0 0 false [])
   have hk0 : (0 : Int) ≤ (k : Int) := by omega
   have H44 : ∀ k, k ≤ S.length → LL S (listP (plP num6 13 d) 13 (S.drop k)) (n_44 (ofL S, (k : Int), i64.wrap (5 - (d : Int) + 1), ())) := fun k hk => by
    rw [hw]; exact t44 hS ih hk
   obtain ⟨hh1, hh2⟩ := t21h hS H44 hk (Layout.mk 0 0 false [])
   rw [hT] at hw21 hh1 hh2
   rw [plP]
   simp only [hgt, ofL_size, hge, mk_ofL, Option.bind_eq_bind, Option.bind_some, Option.bind_none, eq_self, if_true, if_false, Bool.false_eq_true, Int.toNat_natCast]
   rw [hw21]
   cases hv : strip wVoid (c :: t) with
   | some r =>
    obtain ⟨a1, a2⟩ := strip_at hk (hT ▸ hv)
    exact ⟨k + 4, a1, a2, rfl⟩
   | none =>
   cases hb : strip wBool (c :: t) with
   | some r =>
    obtain ⟨a1, a2⟩ := strip_at hk (hT ▸ hb)
    exact ⟨k + 4, a1, a2, rfl⟩
   | none =>
   cases hwd : strip wWord (c :: t) with
   | some r =>
    obtain ⟨a1, a2⟩ := strip_at hk (hT ▸ hwd)
    exact ⟨k + 4, a1, a2, rfl⟩
   | none =>
   have hw1 : i64.wrap ((k : Int) + 1) = ((k + 1 : Nat) : Int) := w1 hS hk (n := 1) (by decide)
   simp only [hk0, ofL_get, g1, hw1, hw, Option.bind_eq_bind, Option.bind_some, Option.bind_none, eq_self, if_true, if_false, Bool.false_eq_true, Int.toNat_natCast]
   by_cases h63 : c = 63
   ·subst h63
    have hs : strip [63] (63 :: t) = some t := rfl
    have hc : (((63 : UInt8).toNat : Int) == 63) = true := by decide
    simp only [hs, hc, Option.bind_eq_bind, Option.bind_some, Option.bind_none, eq_self, if_true, if_false, Bool.false_eq_true, Int.toNat_natCast]
    have := ih (k + 1) g2
    rw [← g3] at this
    cases hp : plP num6 13 d t with
    | none =>
     rw [hp] at this
     obtain ⟨a, l, h⟩ := this
     exact ⟨a, Layout.mk 4 0 false [l], by simp only [h, Option.bind_eq_bind, Option.bind_some, Option.bind_none, eq_self, if_true, if_false, Bool.false_eq_true, Int.toNat_natCast]⟩
    | some y =>
     obtain ⟨l, r⟩ := y
     rw [hp] at this
     obtain ⟨k', b1, b2, h⟩ := this
     exact ⟨k', b1, b2, by simp only [h, Option.bind_eq_bind, Option.bind_some, Option.bind_none, eq_self, if_true, if_false, Bool.false_eq_true, Int.toNat_natCast]⟩
   have hs63 : strip [63] (c :: t) = none := by rw [strip, if_neg (fun e => h63 e.symm)]
   have hc63 : ((c.toNat : Int) == 63) = false := by
    have : c.toNat ≠ 63 := fun e => h63 (UInt8.toNat_inj.1 e)
    simp; omega
   simp only [hs63, hc63, Option.bind_eq_bind, Option.bind_some, Option.bind_none, eq_self, if_true, if_false, Bool.false_eq_true, Int.toNat_natCast]
   by_cases h91 : c = 91
   ·subst h91
    have hs : strip [91] (91 :: t) = some t := rfl
    have hc : (((91 : UInt8).toNat : Int) == 91) = true := by decide
    have h43 := t43 hS (k := k + 1) g2
    rw [← g3] at h43
    simp only [hs, hc, h43, Option.bind_eq_bind, Option.bind_some, Option.bind_none, eq_self, if_true, if_false, Bool.false_eq_true, Int.toNat_natCast]
    rw [num6_def]
    by_cases hq : decDigits (valD (dig6 t)) = dig6 t
    ·have hl6 := dig6_len t
     have hk2 : k + 1 + (dig6 t).length ≤ S.length := by omega
     have h42 := t42 hS (w := [93]) (by decide) hk2
     have hdr : S.drop (k + 1 + (dig6 t).length) = t.drop (dig6 t).length := by rw [g3, List.drop_drop]
     rw [hdr] at h42
     have hw2 : i64.wrap (((k + 1 + (dig6 t).length : Nat) : Int) + 1) = ((k + 1 + (dig6 t).length + 1 : Nat) : Int) := w1 hS hk2 (n := 1) (by decide)
     simp only [if_pos hq, Option.isSome_some, Bool.not_true, h42, Option.bind_eq_bind, Option.bind_some, Option.bind_none, eq_self, if_true, if_false, Bool.false_eq_true, Int.toNat_natCast]
     cases h93 : strip [93] (t.drop (dig6 t).length) with
     | none =>
      simp only [Option.isSome_none, Bool.not_false, Option.bind_eq_bind, Option.bind_some, Option.bind_none, eq_self, if_true, if_false, Bool.false_eq_true, Int.toNat_natCast]
      exact ⟨_, _, rfl⟩
     | some r2 =>
      obtain ⟨a1, a2⟩ := strip_at hk2 (hdr ▸ h93)
      have := ih (k + 1 + (dig6 t).length + 1) a1
      have a2 : r2 = S.drop (k + 1 + (dig6 t).length + 1) := a2
      rw [← a2] at this
      simp only [Option.isSome_some, Bool.not_true, hw2, hw, Option.bind_eq_bind, Option.bind_some, Option.bind_none, eq_self, if_true, if_false, Bool.false_eq_true, Int.toNat_natCast]
      cases hp : plP num6 13 d r2 with
      | none =>
       rw [hp] at this
       obtain ⟨a, l, h⟩ := this
       exact ⟨a, Layout.mk 5 ((valD (dig6 t) : Nat) : Int) false [l], by simp only [h, Option.bind_eq_bind, Option.bind_some, Option.bind_none, eq_self, if_true, if_false, Bool.false_eq_true, Int.toNat_natCast]⟩
      | some y =>
       obtain ⟨l, r⟩ := y
       rw [hp] at this
       obtain ⟨k', b1, b2, h⟩ := this
       exact ⟨k', b1, b2, by simp only [h, Option.bind_eq_bind, Option.bind_some, Option.bind_none, eq_self, if_true, if_false, Bool.false_eq_true, Int.toNat_natCast]⟩
    ·simp only [if_neg hq, Option.isSome_none, Bool.not_false, Option.bind_eq_bind, Option.bind_some, Option.bind_none, eq_self, if_true, if_false, Bool.false_eq_true, Int.toNat_natCast]
     exact ⟨_, _, rfl⟩
   have hs91 : strip [91] (c :: t) = none := by rw [strip, if_neg (fun e => h91 e.symm)]
   have hc91 : ((c.toNat : Int) == 91) = false := by
    have : c.toNat ≠ 91 := fun e => h91 (UInt8.toNat_inj.1 e)
    simp; omega
   have h42e := t42 hS (w := wEnum) (by decide) hk
   rw [hT] at h42e
   simp only [hs91, hc91, h42e, Option.bind_eq_bind, Option.bind_some, Option.bind_none, eq_self, if_true, if_false, Bool.false_eq_true, Int.toNat_natCast]
   cases he : strip wEnum (c :: t) with
   | some r =>
    obtain ⟨a1, a2⟩ := strip_at hk (hT ▸ he)
    have a1 : k + 5 ≤ S.length := a1
    have a2 : r = S.drop (k + 5) := a2
    have hlr : r.length = S.length - (k + 5) := by rw [a2, List.length_drop]
    have hw5 : i64.wrap ((k : Int) + 5) = ((k + 5 : Nat) : Int) := w1 hS hk (n := 5) (by decide)
    have h43 := t43 hS a1
    rw [← a2] at h43
    simp only [Option.isSome_some, hw5, h43, Option.bind_eq_bind, Option.bind_some, Option.bind_none, eq_self, if_true, if_false, Bool.false_eq_true, Int.toNat_natCast]
    rw [num6_def]
    by_cases hq : decDigits (valD (dig6 r)) = dig6 r
    ·have hl6 := dig6_len r
     have hk2 : k + 5 + (dig6 r).length ≤ S.length := by omega
     have h42 := t42 hS (w := [41]) (by decide) hk2
     have hdr : S.drop (k + 5 + (dig6 r).length) = r.drop (dig6 r).length := by rw [a2, List.drop_drop]
     rw [hdr] at h42
     have hw2 : i64.wrap (((k + 5 + (dig6 r).length : Nat) : Int) + 1) = ((k + 5 + (dig6 r).length + 1 : Nat) : Int) := w1 hS hk2 (n := 1) (by decide)
     simp only [if_pos hq, Option.isSome_some, h42, hw2, Option.bind_eq_bind, Option.bind_some, Option.bind_none, eq_self, if_true, if_false, Bool.false_eq_true, Int.toNat_natCast]
     cases h93 : strip [41] (r.drop (dig6 r).length) with
     | none =>
      simp only [Option.isSome_none, Option.bind_eq_bind, Option.bind_some, Option.bind_none, eq_self, if_true, if_false, Bool.false_eq_true, Int.toNat_natCast]
      exact ⟨_, _, rfl⟩
     | some r2 =>
      obtain ⟨b1, b2⟩ := strip_at hk2 (hdr ▸ h93)
      exact ⟨_, b1, b2, rfl⟩
    ·simp only [if_neg hq, Option.isSome_none, Option.bind_eq_bind, Option.bind_some, Option.bind_none, eq_self, if_true, if_false, Bool.false_eq_true, Int.toNat_natCast]
     exact ⟨_, _, rfl⟩
   | none =>
   simp only [Option.isSome_none, Option.bind_eq_bind, Option.bind_some, Option.bind_none, eq_self, if_true, if_false, Bool.false_eq_true, Int.toNat_natCast]
   have fin : ∀ {o : Option (Layout × List UInt8)} {x : Option ((Int × Bool × Layout × Unit) ⊕ (ByteArray × Int × Layout × Unit))} {g : (ByteArray × Int × Layout × Unit) → Option (Int × Bool × Layout × Unit)}, RI S o x → RR S o (x.bind fun x5 => match x5 with
     | .inl y5 => some y5
     | .inr y5 => g y5) := by
    intro o x g h
    cases o with
    | none => obtain ⟨a, l, rfl⟩ := h; exact ⟨a, l, rfl⟩
    | some q => obtain ⟨l, r⟩ := q; obtain ⟨k', b1, b2, rfl⟩ := h; exact ⟨k', b1, b2, rfl⟩
   cases hst : strip wStruct (c :: t) with
   | some r => exact fin (hh1 r hst)
   | none =>
   obtain ⟨hh3, hh4⟩ := hh2 hst
   cases hun : strip wUnion (c :: t) with
   | some r => exact fin (hh3 r hun)
   | none =>
   obtain ⟨hh5, hh6⟩ := hh4 hun
   cases hpk : strip wPacked (c :: t) with
   | some r => exact fin (hh5 r hpk)
   | none =>
   have hno := hh6 hpk
   simp only [wStruct, wUnion, wPacked] at hno
   have h43 := t43 hS (k := k + 1) g2
   rw [← g3] at h43
   have last : ∀ b : Bool, RR S ((num6 t).map fun a => (Layout.mk 2 a.1 b [], a.2)) (some (((k + 1 + (dig6 t).length : Nat) : Int), (num6 t).isSome, Layout.mk 2 ((valD (dig6 t) : Nat) : Int) b [], ())) := by
    intro b
    rw [num6_def]
    by_cases hq : decDigits (valD (dig6 t)) = dig6 t
    ·rw [if_pos hq]
     have hl6 := dig6_len t
     exact ⟨k + 1 + (dig6 t).length, by omega, by rw [g3, List.drop_drop], rfl⟩
    ·rw [if_neg hq]
     exact ⟨_, _, rfl⟩
   by_cases hu : c = 117
   ·subst hu
    have hs : strip [117] (117 :: t) = some t := rfl
    have hc1 : (((117 : UInt8).toNat : Int) == 117) = true := by decide
    have hc2 : (((117 : UInt8).toNat : Int) == 105) = false := by decide
    simp only [hs, hno, hk0, ofL_get, g1, hc1, hw1, h43, hc2, Option.bind_eq_bind, Option.bind_some, Option.bind_none, eq_self, if_true, if_false, Bool.false_eq_true, Int.toNat_natCast]
    exact last false
   have hsu : strip [117] (c :: t) = none := by rw [strip, if_neg (fun e => hu e.symm)]
   have hcu : ((c.toNat : Int) == 117) = false := by
    have : c.toNat ≠ 117 := fun e => hu (UInt8.toNat_inj.1 e)
    simp; omega
   by_cases hi : c = 105
   ·subst hi
    have hs : strip [105] (105 :: t) = some t := rfl
    have hc2 : (((105 : UInt8).toNat : Int) == 105) = true := by decide
    simp only [hsu, hs, hno, hk0, ofL_get, g1, hcu, hw1, h43, hc2, Option.bind_eq_bind, Option.bind_some, Option.bind_none, eq_self, if_true, if_false, Bool.false_eq_true, Int.toNat_natCast]
    exact last true
   have hsi : strip [105] (c :: t) = none := by rw [strip, if_neg (fun e => hi e.symm)]
   have hci : ((c.toNat : Int) == 105) = false := by
    have : c.toNat ≠ 105 := fun e => hi (UInt8.toNat_inj.1 e)
    simp; omega
   simp only [hsu, hsi, hno, hk0, ofL_get, g1, hcu, hci, Option.bind_eq_bind, Option.bind_some, Option.bind_none, eq_self, if_true, if_false, Bool.false_eq_true, Int.toNat_natCast]
   exact ⟨_, _, rfl⟩
end
end Go.Proofs.YtogoamfegaebgaaGreatDoor
end
section
namespace Go.Proofs.YtogoamfegaebgaaGreatDoor
open Go.Awp Go.Tx
open Go.Lib (decDigits)
set_option maxRecDepth 20000
theorem t83 (T w : List UInt8) : n_83 (ofL T, ofL w, ()) = some ((strip w T).isSome, ()) := by
 unfold n_83
 simp only [ofL_size]
 rw [strip_take]
 by_cases h : w.length ≤ T.length
 ·have h1 : decide ((T.length : Int) ≥ (w.length : Int)) = true := by simp; omega
  have h2 : (0 : Int) ≤ 0 ∧ (0 : Int) ≤ (w.length : Int) ∧ (w.length : Int) ≤ (T.length : Int) := by omega
  have h3 : Int.toNat 0 = 0 := rfl
  simp only [h1, h2, h3, and_self, Option.bind_eq_bind, Option.bind_some, Option.bind_none, eq_self, if_true, if_false, Bool.false_eq_true, Int.toNat_natCast, ofL_extract, ofL_list, List.drop_zero]
  by_cases hq : T.take w.length = w
  ·rw [if_pos hq]; simp [hq]
  ·rw [if_neg hq]; simp [hq]
 ·have h1 : decide ((T.length : Int) ≥ (w.length : Int)) = false := by simp; omega
  have h2 : ¬ T.take w.length = w := fun e => by
   have := congrArg List.length e
   rw [List.length_take] at this; omega
  rw [if_neg h2]
  simp only [h1, Option.bind_eq_bind, Option.bind_some, Option.bind_none, eq_self, if_true, if_false, Bool.false_eq_true, Int.toNat_natCast, Option.isSome_none]
theorem t38 (T w : List UInt8) (b : Bool) : n_38s5bd0 (ofL w, ⟨ofL T, b⟩, ()) = match strip w T with
  | some r => some (true, ⟨ofL r, b⟩, ())
  | none => some (false, ⟨ofL T, b⟩, ()) := by
 unfold n_38s5bd0 n_61 n_70
 simp only [t83, Option.bind_eq_bind, Option.bind_some, Option.bind_none, eq_self, if_true, if_false, Bool.false_eq_true, Int.toNat_natCast]
 cases hs : strip w T with
 | none => rfl
 | some r =>
  have hl := strip_len hs
  have h2 : (0 : Int) ≤ (w.length : Int) ∧ (w.length : Int) ≤ (T.length : Int) ∧ (T.length : Int) ≤ (T.length : Int) := by omega
  have hr : (T.take T.length).drop w.length = r := by rw [List.take_length, strip_some.1 hs, List.drop_left]
  simp only [Option.isSome_some, Bool.not_true, ofL_size, h2, and_self, Option.bind_eq_bind, Option.bind_some, Option.bind_none, eq_self, if_true, if_false, Bool.false_eq_true, Int.toNat_natCast, ofL_extract, hr]
theorem t40 (T w : List UInt8) (b : Bool) : n_40s5bd0 (ofL w, ⟨ofL T, b⟩, ()) = match strip w T with
  | some r => some (⟨ofL r, b⟩, ())
  | none => some (⟨ofL T, true⟩, ()) := by
 unfold n_40s5bd0
 rw [t38]
 cases strip w T <;> rfl
theorem digs_mem (c : UInt8) : ([48, 49, 50, 51, 52, 53, 54, 55, 56, 57] : List UInt8).contains c = isDig c := by
 by_cases h : isDig c = true
 ·rw [h]
  have hc : 48 ≤ c.toNat ∧ c.toNat ≤ 57 := by simpa [isDig] using h
  have e : c = UInt8.ofNat c.toNat := UInt8.ofNat_toNat.symm
  have : c.toNat = 48 ∨ c.toNat = 49 ∨ c.toNat = 50 ∨ c.toNat = 51 ∨ c.toNat = 52 ∨ c.toNat = 53 ∨ c.toNat = 54 ∨ c.toNat = 55 ∨ c.toNat = 56 ∨ c.toNat = 57 := by omega
  rcases this with h | h | h | h | h | h | h | h | h | h <;> rw [h] at e <;> rw [e] <;> rfl
 ·rw [Bool.not_eq_true] at h
  rw [h]
  apply Bool.eq_false_iff.2
  intro hm
  rw [List.contains_iff_mem] at hm
  simp at hm
  rcases hm with rfl | rfl | rfl | rfl | rfl | rfl | rfl | rfl | rfl | rfl <;> revert h <;> decide
theorem dw_eq : ∀ T : List UInt8, Lib.trimLeftS T [48, 49, 50, 51, 52, 53, 54, 55, 56, 57] = T.dropWhile isDig := by
 intro T
 unfold Lib.trimLeftS
 congr 1
 funext c
 exact digs_mem c
theorem t62 (T : List UInt8) : n_62 (ofL T, ofL [48, 49, 50, 51, 52, 53, 54, 55, 56, 57], ()) = some (ofL (T.dropWhile isDig), ()) := by
 unfold n_62
 simp only [ofL_size, ofL_data, dw_eq]
 rw [if_pos ⟨by decide, by decide⟩]; rfl
theorem valF_ge : ∀ (l : List UInt8) (n : Nat), n ≤ valF n l
 | [], n => Nat.le_refl _
 | c :: t, n => by
  have := valF_ge t (10 * n + (c.toNat - 48))
  simp only [valF, List.foldl_cons] at this ⊢; omega
theorem uint_dig : ∀ (l : List UInt8) (n : Nat), n < 18446744073709551616 → (∀ c ∈ l, isDig c = true) → Lib.parseUint10 n l = if valF n l < 18446744073709551616 then .ok (valF n l) else .range
 | [], n, hn, _ => by
  have e : valF n [] = n := rfl
  rw [Lib.parseUint10, e, if_pos hn]
 | c :: t, n, hn, h => by
  have hc : 48 ≤ c.toNat ∧ c.toNat ≤ 57 := by simpa [isDig] using h c List.mem_cons_self
  have hge := valF_ge t (10 * n + (c.toNat - 48))
  have e : valF n (c :: t) = valF (10 * n + (c.toNat - 48)) t := rfl
  rw [Lib.parseUint10, if_pos hc, e]
  by_cases h1 : 1844674407370955162 ≤ n
  ·rw [if_pos h1, if_neg (by omega)]
  ·rw [if_neg h1]
   by_cases h2 : 18446744073709551616 ≤ n * 10 + (c.toNat - 48)
   ·rw [if_pos h2, if_neg (by omega)]
   ·rw [if_neg h2, uint_dig t _ (by omega) (fun x hx => h x (List.mem_cons_of_mem _ hx)), show n * 10 + (c.toNat - 48) = 10 * n + (c.toNat - 48) by omega]
theorem atoi_dig (d : List UInt8) (h : ∀ c ∈ d, isDig c = true) : d = [] ∨ (d ≠ [] ∧ valD d < 9223372036854775808 ∧ Lib.atoiAll d = .ok (valD d : Int)) ∨ (d ≠ [] ∧ 9223372036854775808 ≤ valD d ∧ Lib.atoiAll d = .range) := by
 cases d with
 | nil => exact .inl rfl
 | cons c r =>
  have hc : 48 ≤ c.toNat ∧ c.toNat ≤ 57 := by simpa [isDig] using h c List.mem_cons_self
  have hu := uint_dig (c :: r) 0 (by decide) h
  have e : valF 0 (c :: r) = valD (c :: r) := rfl
  rw [e] at hu
  have h43 : ¬ (c.toNat = 43 ∨ c.toNat = 45) := by omega
  have h45 : ¬ (c.toNat = 45) := by omega
  refine .inr ?_
  unfold Lib.atoiAll Lib.parseMag
  simp only [if_neg h43, hu, if_neg (show ¬ (c :: r = []) by simp)]
  by_cases h1 : valD (c :: r) < 18446744073709551616
  ·simp only [if_pos h1]
   by_cases h2 : valD (c :: r) < 9223372036854775808
   ·refine .inl ⟨by simp, h2, ?_⟩
    rw [if_neg (by omega), if_neg (by omega), if_neg h45]
   ·refine .inr ⟨by simp, by omega, ?_⟩
    rw [if_pos ⟨h45, by omega⟩]
  ·simp only [if_neg h1]
   exact .inr ⟨by simp, by omega, trivial⟩
theorem t63 {T : List UInt8} (hT : T.length ≤ 100000) : n_63 (ofL T, ()) = (match Lib.atoiAll T with | .ok n => some (n, false, ()) | .range => some (Lib.atoiSat T, true, ()) | _ => some (0, true, ())) := by
 unfold n_63
 simp only [ofL_size, ofL_data]
 rw [if_pos (by omega)]
 cases Lib.atoiAll T <;> rfl
theorem t39 {T : List UInt8} (hT : T.length ≤ 100000) (b : Bool) : match num T, b with
  | some (n, r), false => n_39s0e1d (⟨ofL T, false⟩, ()) = some ((n : Int), ⟨ofL r, false⟩, ())
  | _, _ => ∃ m, n_39s0e1d (⟨ofL T, b⟩, ()) = some (m, ⟨ofL (T.dropWhile isDig), true⟩, ()) := by
 have hsp := List.takeWhile_append_dropWhile (p := isDig) (l := T)
 have hlen := congrArg List.length hsp
 rw [List.length_append] at hlen
 have e1 : IntKind.i64.wrap ((T.length : Int) - ((T.dropWhile isDig).length : Int)) = (((T.takeWhile isDig).length : Nat) : Int) := by rw [wrap64 (by omega) (by omega)]; omega
 have h2 : (0 : Int) ≤ 0 ∧ (0 : Int) ≤ (((T.takeWhile isDig).length : Nat) : Int) ∧ (((T.takeWhile isDig).length : Nat) : Int) ≤ (T.length : Int) := by omega
 have h3 : Int.toNat 0 = 0 := rfl
 have hex : (T.take (T.takeWhile isDig).length).drop 0 = T.takeWhile isDig := by
  rw [List.drop_zero]
  conv => lhs; arg 2; rw [← hsp]
  exact List.take_left
 have h63 := t63 (T := T.takeWhile isDig) (by omega)
 have hd := tw_dig T
 have hat := atoi_dig (T.takeWhile isDig) hd
 have hnum : num T = if decDigits (valD (T.takeWhile isDig)) = T.takeWhile isDig ∧ valD (T.takeWhile isDig) < 9223372036854775808 then some (valD (T.takeWhile isDig), T.dropWhile isDig) else none := rfl
 rw [hnum]
 unfold n_39s0e1d
 simp only [mk_ofL, t62, ofL_size, e1, h2, h3, and_self, Option.bind_eq_bind, Option.bind_some, Option.bind_none, eq_self, if_true, if_false, Bool.false_eq_true, Int.toNat_natCast, ofL_extract, hex, h63]
 rcases hat with h0 | ⟨h0, hlt, ha⟩ | ⟨h0, hge, ha⟩
 ·rw [if_neg (fun h => dec_ne _ (h.1.trans h0))]
  rw [h0]
  cases b <;> exact ⟨0, by simp [Lib.atoiAll]⟩
 ·rw [ha]
  have h28 := t28 (n := ((valD (T.takeWhile isDig) : Nat) : Int)) (by omega) (by omega)
  rw [Int.toNat_natCast] at h28
  cases b with
  | true =>
   have : ∃ m, (some ((valD (T.takeWhile isDig) : Nat) : Int) : Option Int) = some m := ⟨_, rfl⟩
   split
   ·rename_i h; cases h
   ·exact ⟨((valD (T.takeWhile isDig) : Nat) : Int), by simp⟩
  | false =>
   by_cases hq : decDigits (valD (T.takeWhile isDig)) = T.takeWhile isDig
   ·rw [if_pos ⟨hq, hlt⟩]
    simp [h28, ofL_list, hq]
   ·rw [if_neg (fun h => hq h.1)]
    refine ⟨((valD (T.takeWhile isDig) : Nat) : Int), ?_⟩
    simp [h28, ofL_list, hq]
 ·rw [if_neg (by omega)]
  rw [ha]
  cases b <;> exact ⟨Lib.atoiSat (T.takeWhile isDig), by simp⟩
end Go.Proofs.YtogoamfegaebgaaGreatDoor
end
section
namespace Go.Proofs.YtogoamfegaebgaaGreatDoor
open Go.Awp Go.Tx
open Go.Lib (decDigits)
set_option maxRecDepth 20000
def QR (o : Option (Layout × List UInt8)) (x : Option (Reader × Layout × Unit)) : Prop := match o with
 | some (l, r) => x = some (⟨ofL r, false⟩, l, ())
 | none => ∃ T l, x = some (⟨ofL T, true⟩, l, ())
def QL (o : Option (List Layout × List UInt8)) (x : Option (List Layout × Reader × Unit)) : Prop := match o with
 | some (ps, r) => x = some (ps, ⟨ofL r, false⟩, ())
 | none => ∃ ps T, x = some (ps, ⟨ofL T, true⟩, ())
theorem t20bad (dep : Int) (T : List UInt8) : n_20s33bf (dep, ⟨ofL T, true⟩, ()) = some (⟨ofL T, true⟩, Layout.mk 0 0 false [], ()) := by
 rw [n_20s33bf]
 simp
theorem want_bad (T w : List UInt8) : ∃ T', n_40s5bd0 (ofL w, ⟨ofL T, true⟩, ()) = some (⟨ofL T', true⟩, ()) := by
 rw [t40]
 cases strip w T with
 | none => exact ⟨_, rfl⟩
 | some r => exact ⟨_, rfl⟩
theorem t41l {f : List UInt8 → Option (Layout × List UInt8)} {dep : Int} (H : ∀ T, T.length ≤ 100000 → QR (f T) (n_20s33bf (dep, ⟨ofL T, false⟩, ()))) (hsm : ∀ T l r, f T = some (l, r) → r.length < T.length) :
  ∀ (m : Nat) (T : List UInt8) (acc : List Layout), T.length < m → T.length ≤ 100000 → acc.length + T.length ≤ 200000 →
  match partsP f m T with
  | some (ps, r) => n_41s33bfl4 (dep, ⟨ofL T, false⟩, acc, ()) = some (acc ++ ps, ⟨ofL r, false⟩, ())
  | none => ∃ ps T', n_41s33bfl4 (dep, ⟨ofL T, false⟩, acc, ()) = some (ps, ⟨ofL T', true⟩, ())
 | 0, T, acc, h, _, _ => by omega
 | m + 1, T, acc, hm, hT, ha => by
  have h1 := H T hT
  rw [partsP, n_41s33bfl4]
  have hle : ∀ l : Layout, acc.length + [l].length ≤ 4294967296 := fun l => by simp; omega
  cases hf : f T with
  | none =>
   rw [hf] at h1
   obtain ⟨T1, l, h1⟩ := h1
   obtain ⟨T2, h2⟩ := want_bad T1 [41]
   refine ⟨acc ++ [l], T2, ?_⟩
   simp only [h1, hle, mk_ofL, h2, Option.bind_eq_bind, Option.bind_some, Option.bind_none, eq_self, if_true, if_false, Bool.false_eq_true, Int.toNat_natCast]
  | some q =>
   obtain ⟨l, r⟩ := q
   have hlt := hsm T l r hf
   rw [hf] at h1
   have h1 : n_20s33bf (dep, ⟨ofL T, false⟩, ()) = some (⟨ofL r, false⟩, l, ()) := h1
   simp only [h1, hle, mk_ofL, t38, Option.bind_eq_bind, Option.bind_some, Option.bind_none, eq_self, if_true, if_false, Bool.false_eq_true, Int.toNat_natCast]
   cases h44 : strip [44] r with
   | some r2 =>
    have e := strip_some.1 h44
    have h41 : strip [41] r = none := by rw [e]; rfl
    have hl2 := strip_len h44
    simp only [List.length_cons, List.length_nil] at hl2
    have := t41l H hsm m r2 (acc ++ [l]) (by omega) (by omega) (by rw [List.length_append, List.length_singleton]; omega)
    simp only [h41, Bool.not_true, Option.bind_eq_bind, Option.bind_some, Option.bind_none, eq_self, if_true, if_false, Bool.false_eq_true, Int.toNat_natCast]
    cases hp : partsP f m r2 with
    | none => rw [hp] at this; exact this
    | some y =>
     rw [hp] at this
     simp only [Option.map_some]
     rw [this]; simp
   | none =>
    simp only [Bool.not_false, t40, Option.bind_eq_bind, Option.bind_some, Option.bind_none, eq_self, if_true, if_false, Bool.false_eq_true, Int.toNat_natCast]
    cases h41 : strip [41] r with
    | some r2 => rfl
    | none => exact ⟨_, _, rfl⟩
theorem t41 {f : List UInt8 → Option (Layout × List UInt8)} {dep : Int} (H : ∀ T, T.length ≤ 100000 → QR (f T) (n_20s33bf (dep, ⟨ofL T, false⟩, ()))) (hsm : ∀ T l r, f T = some (l, r) → r.length < T.length)
  {T : List UInt8} (hT : T.length ≤ 100000) : QL (listP f 100001 T) (n_41s33bf (dep, ⟨ofL T, false⟩, ())) := by
 unfold listP
 rw [n_41s33bf]
 simp only [mk_ofL, t38, Option.bind_eq_bind, Option.bind_some, Option.bind_none, eq_self, if_true, if_false, Bool.false_eq_true, Int.toNat_natCast]
 cases h41 : strip [41] T with
 | some r2 => rfl
 | none =>
  have h3 := t41l H hsm 100001 T [] (by omega) hT (by simp; omega)
  simp only [Option.bind_eq_bind, Option.bind_some, Option.bind_none, eq_self, if_true, if_false, Bool.false_eq_true, Int.toNat_natCast]
  cases hp : partsP f 100001 T with
  | none =>
   rw [hp] at h3
   obtain ⟨ps, T', h3⟩ := h3
   exact ⟨ps, T', by simp only [h3, Option.bind_eq_bind, Option.bind_some, Option.bind_none, eq_self, if_true, if_false, Bool.false_eq_true, Int.toNat_natCast]⟩
  | some y =>
   rw [hp] at h3
   show _ = _
   simp only [h3, List.nil_append, Option.bind_eq_bind, Option.bind_some, Option.bind_none, eq_self, if_true, if_false, Bool.false_eq_true, Int.toNat_natCast]
theorem steps_perm {α : Type} {a : α} {r : List α} : ∀ {l : List α}, (a, r) ∈ steps l → l.Perm (a :: r)
 | [], h => by cases h
 | x :: l, h => by
  rw [steps] at h
  rcases List.mem_cons.1 h with h | h
  ·cases h; exact .refl _
  ·obtain ⟨q, hq, e⟩ := List.mem_map.1 h
   obtain ⟨y, s⟩ := q
   cases e
   exact ((steps_perm hq).cons x).trans (.swap _ _ _)
theorem steps_ne {α : Type} {l : List α} (h : l ≠ []) : steps l ≠ [] := by
 cases l with
 | nil => exact (h rfl).elim
 | cons x r => simp [steps]
theorem t22 {T : List UInt8} {dep : Int} (L : Layout) (es : List (Int × ByteArray)) : ∀ (n : Nat) (rest : List (Int × ByteArray)), rest.length = n → (∀ q ∈ rest, ∃ w : List UInt8, q.2 = ofL w ∧ w.length ≤ 100) →
  (∀ q ∈ rest, ∀ w, q.2 = ofL w → strip (w ++ [40]) T = none) → n_20s33bfl22 (dep, ⟨ofL T, false⟩, L, es, rest, ()) = some (.inr (⟨ofL T, false⟩, L, ()))
 | 0, rest, hn, hw, h => by
  obtain rfl := List.eq_nil_of_length_eq_zero hn
  rw [n_20s33bfl22]
  simp
 | n + 1, rest, hn, hw, h => by
  have hne : rest ≠ [] := fun e => by rw [e] at hn; simp at hn
  have hem : rest.isEmpty = false := by simpa using hne
  rw [n_20s33bfl22]
  simp only [hem, Option.bind_eq_bind, Option.bind_some, Option.bind_none, eq_self, if_true, if_false, Bool.false_eq_true, Int.toNat_natCast]
  refine anyOf_some.2 ⟨steps_ne hne, fun a ha => ?_⟩
  obtain ⟨q, r⟩ := a
  have hp := steps_perm ha
  have hq : q ∈ rest := hp.mem_iff.2 List.mem_cons_self
  have hr : ∀ x ∈ r, x ∈ rest := fun x hx => hp.mem_iff.2 (List.mem_cons_of_mem _ hx)
  obtain ⟨w, e, hwl⟩ := hw q hq
  have hs := h q hq w e
  have hle : (ofL w).size + (ofL [40]).size ≤ 4294967296 := by rw [ofL_size, ofL_size]; simp; omega
  have hlen := hp.length_eq
  rw [hn, List.length_cons] at hlen
  simp only [e, mk_ofL, hle, ofL_append, t38, hs, Option.bind_eq_bind, Option.bind_some, Option.bind_none, eq_self, if_true, if_false, Bool.false_eq_true, Int.toNat_natCast]
  exact t22 L es n r (by omega) (fun x hx => hw x (hr x hx)) (fun x hx => h x (hr x hx))
theorem t22s {T r0 : List UInt8} {dep : Int} (L : Layout) (es : List (Int × ByteArray)) {q0 : Int × ByteArray} {w0 : List UInt8} (e0 : q0.2 = ofL w0) (h0 : strip (w0 ++ [40]) T = some r0) {y : List Layout × Reader × Unit} (hy : n_41s33bf (IntKind.i64.wrap (dep + 1), ⟨ofL r0, false⟩, ()) = some y) :
  ∀ (n : Nat) (rest : List (Int × ByteArray)), rest.length = n → q0 ∈ rest → (∀ q ∈ rest, ∃ w : List UInt8, q.2 = ofL w ∧ w.length ≤ 100) →
  (∀ q ∈ rest, q = q0 ∨ ∀ w, q.2 = ofL w → strip (w ++ [40]) T = none) → n_20s33bfl22 (dep, ⟨ofL T, false⟩, L, es, rest, ()) = some (.inl (y.2.1, Layout.mk q0.1 0 false y.1, ()))
 | 0, rest, hn, h1, _, _ => by
  obtain rfl := List.eq_nil_of_length_eq_zero hn
  cases h1
 | n + 1, rest, hn, h1, hw, h => by
  have hne : rest ≠ [] := fun e => by rw [e] at hn; simp at hn
  have hem : rest.isEmpty = false := by simpa using hne
  rw [n_20s33bfl22]
  simp only [hem, Option.bind_eq_bind, Option.bind_some, Option.bind_none, eq_self, if_true, if_false, Bool.false_eq_true, Int.toNat_natCast]
  refine anyOf_some.2 ⟨steps_ne hne, fun a ha => ?_⟩
  obtain ⟨q, r⟩ := a
  have hp := steps_perm ha
  have hq : q ∈ rest := hp.mem_iff.2 List.mem_cons_self
  have hr : ∀ x ∈ r, x ∈ rest := fun x hx => hp.mem_iff.2 (List.mem_cons_of_mem _ hx)
  obtain ⟨w, e, hwl⟩ := hw q hq
  have hle : (ofL w).size + (ofL [40]).size ≤ 4294967296 := by rw [ofL_size, ofL_size]; simp; omega
  have hlen := hp.length_eq
  rw [hn, List.length_cons] at hlen
  rcases h q hq with rfl | hno
  ·have hww : w = w0 := ofL_inj.1 (e.symm.trans e0)
   subst hww
   simp only [e, mk_ofL, hle, ofL_append, t38, h0, hy, Option.bind_eq_bind, Option.bind_some, Option.bind_none, eq_self, if_true, if_false, Bool.false_eq_true, Int.toNat_natCast]
  ·have hs := hno w e
   have hqq : q0 ∈ r := by
    rcases List.mem_cons.1 (hp.mem_iff.1 h1) with rfl | hm
    ·have := hno w0 e0
     rw [h0] at this; cases this
    ·exact hm
   simp only [e, mk_ofL, hle, ofL_append, t38, hs, Option.bind_eq_bind, Option.bind_some, Option.bind_none, eq_self, if_true, if_false, Bool.false_eq_true, Int.toNat_natCast]
   exact t22s L es e0 h0 hy n r (by omega) hqq (fun x hx => hw x (hr x hx)) (fun x hx => h x (hr x hx))
end Go.Proofs.YtogoamfegaebgaaGreatDoor
end
section
namespace Go.Proofs.YtogoamfegaebgaaGreatDoor
open Go.Awp Go.Tx
open Go.Lib (decDigits)
set_option maxRecDepth 20000
theorem pl_small (M d : Nat) (T : List UInt8) (l : Layout) (r : List UInt8) (h : plP num M d T = some (l, r)) : r.length < T.length := by
 have := (pl_out M d T l r h).len
 rw [l.all_eq, List.length_cons] at this
 omega
theorem lists_none {T : List UInt8} (h6 : strip wStruct T = none) (h8 : strip wUnion T = none) (h9 : strip wPacked T = none) : ∀ q ∈ listsS, ∀ w, q.2 = ofL w → strip (w ++ [40]) T = none := by
 intro q hq w e
 simp only [listsS, List.mem_cons, List.not_mem_nil, or_false] at hq
 rcases hq with rfl | rfl | rfl
 ·rw [← ofL_inj.1 e]; exact h6
 ·rw [← ofL_inj.1 e]; exact h8
 ·rw [← ofL_inj.1 e]; exact h9
theorem lists_w : ∀ q ∈ listsS, ∃ w : List UInt8, q.2 = ofL w ∧ w.length ≤ 100 := by
 intro q hq
 simp only [listsS, List.mem_cons, List.not_mem_nil, or_false] at hq
 rcases hq with rfl | rfl | rfl
 ·exact ⟨_, rfl, by decide⟩
 ·exact ⟨_, rfl, by decide⟩
 ·exact ⟨_, rfl, by decide⟩
theorem lists_one {T r : List UInt8} {q0 : Int × ByteArray} (hq0 : q0 ∈ listsS) {w0 : List UInt8} (e0 : q0.2 = ofL w0) (h0 : strip (w0 ++ [40]) T = some r) : ∀ q ∈ listsS, q = q0 ∨ ∀ w, q.2 = ofL w → strip (w ++ [40]) T = none := by
 intro q hq
 have e := strip_some.1 h0
 subst e
 simp only [listsS, List.mem_cons, List.not_mem_nil, or_false] at hq hq0
 rcases hq0 with rfl | rfl | rfl <;> rcases hq with rfl | rfl | rfl <;> first
  | exact .inl rfl
  | (refine .inr fun w e => ?_; rw [← ofL_inj.1 e, ← ofL_inj.1 e0]; rfl)
theorem ql_y {o : Option (List Layout × List UInt8)} {x : Option (List Layout × Reader × Unit)} (h : QL o x) (c : Int) : ∃ y, x = some y ∧ QR (o.map fun q => (Layout.mk c 0 false q.1, q.2)) (some (y.2.1, Layout.mk c 0 false y.1, ())) := by
 cases o with
 | none => obtain ⟨ps, T, rfl⟩ := h; exact ⟨_, rfl, T, _, rfl⟩
 | some q => obtain ⟨ps, r⟩ := q; cases h; exact ⟨_, rfl, rfl⟩
theorem num_len {T : List UInt8} {n : Nat} {r : List UInt8} (h : num T = some (n, r)) : r.length ≤ T.length := by
 rw [(num_eq h).1, List.length_append]; omega
theorem t20 : ∀ (d : Nat), d ≤ 6 → ∀ T : List UInt8, T.length ≤ 100000 → QR (plP num 100001 d T) (n_20s33bf (6 - (d : Int), ⟨ofL T, false⟩, ()))
 | 0, _, T, hT => by
  rw [plP, n_20s33bf]
  exact ⟨T, Layout.mk 0 0 false [], by simp⟩
 | d + 1, hd, T, hT => by
  have ih := t20 d (by omega)
  have hdep : (6 : Int) - ((d + 1 : Nat) : Int) = 5 - (d : Int) := by omega
  have hw : IntKind.i64.wrap (5 - (d : Int) + 1) = 6 - (d : Int) := by rw [wrap64 (by omega) (by omega)]; omega
  have hgt : decide ((5 : Int) - (d : Int) > 5) = false := decide_eq_false (by omega)
  have H41 : ∀ {r : List UInt8}, r.length ≤ 100000 → QL (listP (plP num 100001 d) 100001 r) (n_41s33bf (IntKind.i64.wrap (5 - (d : Int) + 1), ⟨ofL r, false⟩, ())) := fun hr => by
   rw [hw]; exact t41 ih (pl_small 100001 d) hr
  have last : ∀ (r : List UInt8), r.length ≤ 100000 → ∀ b : Bool, QR ((num r).map fun a => (Layout.mk 2 a.1 b [], a.2)) (n_39s0e1d (⟨ofL r, false⟩, ()) >>= fun x => some (x.2.1, Layout.mk 2 x.1 b [], ())) := by
   intro r hr b
   have h39 := t39 hr false
   cases hn : num r with
   | none =>
    rw [hn] at h39
    obtain ⟨m, h⟩ := h39
    exact ⟨_, Layout.mk 2 m b [], by rw [h]; rfl⟩
   | some a =>
    obtain ⟨n, r1⟩ := a
    rw [hn] at h39
    have h39 : n_39s0e1d (⟨ofL r, false⟩, ()) = some ((n : Int), ⟨ofL r1, false⟩, ()) := h39
    show _ = _
    rw [h39]; rfl
  rw [hdep, plP, n_20s33bf]
  simp only [wVoid, wBool, wWord, wEnum, wStruct, wUnion, wPacked, hgt, mk_ofL, t38, Option.bind_eq_bind, Option.bind_some, Option.bind_none, eq_self, if_true, if_false, Bool.false_eq_true, Int.toNat_natCast]
  cases hv : strip [118, 111, 105, 100] T with
  | some r => rfl
  | none =>
  simp only [t38, Option.bind_eq_bind, Option.bind_some, Option.bind_none, eq_self, if_true, if_false, Bool.false_eq_true, Int.toNat_natCast]
  cases hb : strip [98, 111, 111, 108] T with
  | some r => rfl
  | none =>
  simp only [t38, Option.bind_eq_bind, Option.bind_some, Option.bind_none, eq_self, if_true, if_false, Bool.false_eq_true, Int.toNat_natCast]
  cases hwd : strip [119, 111, 114, 100] T with
  | some r => rfl
  | none =>
  simp only [t38, Option.bind_eq_bind, Option.bind_some, Option.bind_none, eq_self, if_true, if_false, Bool.false_eq_true, Int.toNat_natCast]
  cases h63 : strip [63] T with
  | some r =>
   have hl := strip_len h63
   have := ih r (by omega)
   simp only [hw, Option.bind_eq_bind, Option.bind_some, Option.bind_none, eq_self, if_true, if_false, Bool.false_eq_true, Int.toNat_natCast]
   cases hp : plP num 100001 d r with
   | none =>
    rw [hp] at this
    obtain ⟨T', l, h⟩ := this
    exact ⟨T', Layout.mk 4 0 false [l], by simp only [h, Option.bind_eq_bind, Option.bind_some, Option.bind_none, eq_self, if_true, if_false, Bool.false_eq_true, Int.toNat_natCast]⟩
   | some y =>
    obtain ⟨l, r1⟩ := y
    rw [hp] at this
    have h : n_20s33bf (6 - (d : Int), ⟨ofL r, false⟩, ()) = some (⟨ofL r1, false⟩, l, ()) := this
    show _ = _
    simp only [h, Option.bind_eq_bind, Option.bind_some, Option.bind_none, eq_self, if_true, if_false, Bool.false_eq_true, Int.toNat_natCast]
  | none =>
  simp only [t38, Option.bind_eq_bind, Option.bind_some, Option.bind_none, eq_self, if_true, if_false, Bool.false_eq_true, Int.toNat_natCast]
  cases h91 : strip [91] T with
  | some r =>
   have hl := strip_len h91
   have h39 := t39 (T := r) (by omega) false
   simp only [hw, Option.bind_eq_bind, Option.bind_some, Option.bind_none, eq_self, if_true, if_false, Bool.false_eq_true, Int.toNat_natCast]
   cases hn : num r with
   | none =>
    rw [hn] at h39
    obtain ⟨m, h⟩ := h39
    obtain ⟨T2, h2⟩ := want_bad (r.dropWhile isDig) [93]
    exact ⟨T2, Layout.mk 5 m false [Layout.mk 0 0 false []], by simp only [h, h2, t20bad, Option.bind_eq_bind, Option.bind_some, Option.bind_none, eq_self, if_true, if_false, Bool.false_eq_true, Int.toNat_natCast]⟩
   | some a =>
    obtain ⟨n, r1⟩ := a
    have hl1 := num_len hn
    rw [hn] at h39
    have h39 : n_39s0e1d (⟨ofL r, false⟩, ()) = some ((n : Int), ⟨ofL r1, false⟩, ()) := h39
    simp only [h39, t40, Option.bind_eq_bind, Option.bind_some, Option.bind_none, eq_self, if_true, if_false, Bool.false_eq_true, Int.toNat_natCast]
    cases h93 : strip [93] r1 with
    | none => exact ⟨r1, Layout.mk 5 n false [Layout.mk 0 0 false []], by simp only [t20bad, Option.bind_eq_bind, Option.bind_some, Option.bind_none, eq_self, if_true, if_false, Bool.false_eq_true, Int.toNat_natCast]⟩
    | some r2 =>
     have hl2 := strip_len h93
     have := ih r2 (by omega)
     simp only [Option.bind_eq_bind, Option.bind_some, Option.bind_none, eq_self, if_true, if_false, Bool.false_eq_true, Int.toNat_natCast]
     cases hp : plP num 100001 d r2 with
     | none =>
      rw [hp] at this
      obtain ⟨T', l, h⟩ := this
      exact ⟨T', Layout.mk 5 n false [l], by simp only [h, Option.bind_eq_bind, Option.bind_some, Option.bind_none, eq_self, if_true, if_false, Bool.false_eq_true, Int.toNat_natCast]⟩
     | some y =>
      obtain ⟨l, r3⟩ := y
      rw [hp] at this
      have h : n_20s33bf (6 - (d : Int), ⟨ofL r2, false⟩, ()) = some (⟨ofL r3, false⟩, l, ()) := this
      show _ = _
      simp only [h, Option.bind_eq_bind, Option.bind_some, Option.bind_none, eq_self, if_true, if_false, Bool.false_eq_true, Int.toNat_natCast]
  | none =>
  simp only [t38, Option.bind_eq_bind, Option.bind_some, Option.bind_none, eq_self, if_true, if_false, Bool.false_eq_true, Int.toNat_natCast]
  cases hen : strip [101, 110, 117, 109, 40] T with
  | some r =>
   have hl := strip_len hen
   have h39 := t39 (T := r) (by omega) false
   simp only [Option.bind_eq_bind, Option.bind_some, Option.bind_none, eq_self, if_true, if_false, Bool.false_eq_true, Int.toNat_natCast]
   cases hn : num r with
   | none =>
    rw [hn] at h39
    obtain ⟨m, h⟩ := h39
    obtain ⟨T2, h2⟩ := want_bad (r.dropWhile isDig) [41]
    exact ⟨T2, Layout.mk 7 m false [], by simp only [h, h2, Option.bind_eq_bind, Option.bind_some, Option.bind_none, eq_self, if_true, if_false, Bool.false_eq_true, Int.toNat_natCast]⟩
   | some a =>
    obtain ⟨n, r1⟩ := a
    rw [hn] at h39
    have h39 : n_39s0e1d (⟨ofL r, false⟩, ()) = some ((n : Int), ⟨ofL r1, false⟩, ()) := h39
    simp only [h39, t40, Option.bind_eq_bind, Option.bind_some, Option.bind_none, eq_self, if_true, if_false, Bool.false_eq_true, Int.toNat_natCast]
    cases h93 : strip [41] r1 with
    | none => exact ⟨r1, Layout.mk 7 n false [], by simp only [Option.bind_eq_bind, Option.bind_some, Option.bind_none, eq_self, if_true, if_false, Bool.false_eq_true, Int.toNat_natCast]⟩
    | some r2 => rfl
  | none =>
  simp only [t29, Option.bind_eq_bind, Option.bind_some, Option.bind_none, eq_self, if_true, if_false, Bool.false_eq_true, Int.toNat_natCast]
  have head : ∀ {q0 : Int × ByteArray} {w0 r : List UInt8}, q0 ∈ listsS → q0.2 = ofL w0 → strip (w0 ++ [40]) T = some r → ∃ y : List Layout × Reader × Unit, n_20s33bfl22 (5 - (d : Int), ⟨ofL T, false⟩, Layout.mk 0 0 false [], listsS, listsS, ()) = some (.inl (y.2.1, Layout.mk q0.1 0 false y.1, ())) ∧
    QR ((listP (plP num 100001 d) 100001 r).map fun q => (Layout.mk q0.1 0 false q.1, q.2)) (some (y.2.1, Layout.mk q0.1 0 false y.1, ())) := by
   intro q0 w0 r hq0 e0 h0
   have hl := strip_len h0
   obtain ⟨y, hy, hq⟩ := ql_y (H41 (r := r) (by omega)) q0.1
   exact ⟨y, t22s (Layout.mk 0 0 false []) listsS e0 h0 hy 3 listsS rfl hq0 lists_w (lists_one hq0 e0 h0), hq⟩
  cases hst : strip [115, 116, 114, 117, 99, 116, 40] T with
  | some r =>
   obtain ⟨y, h1, h2⟩ := head (q0 := (6, ofL [115, 116, 114, 117, 99, 116])) (w0 := [115, 116, 114, 117, 99, 116]) (by simp [listsS]) rfl hst
   simp only [h1, Option.bind_eq_bind, Option.bind_some, Option.bind_none, eq_self, if_true, if_false, Bool.false_eq_true, Int.toNat_natCast]; exact h2
  | none =>
  cases hun : strip [117, 110, 105, 111, 110, 40] T with
  | some r =>
   obtain ⟨y, h1, h2⟩ := head (q0 := (8, ofL [117, 110, 105, 111, 110])) (w0 := [117, 110, 105, 111, 110]) (by simp [listsS]) rfl hun
   simp only [h1, Option.bind_eq_bind, Option.bind_some, Option.bind_none, eq_self, if_true, if_false, Bool.false_eq_true, Int.toNat_natCast]; exact h2
  | none =>
  cases hpk : strip [112, 97, 99, 107, 101, 100, 40] T with
  | some r =>
   obtain ⟨y, h1, h2⟩ := head (q0 := (9, ofL [112, 97, 99, 107, 101, 100])) (w0 := [112, 97, 99, 107, 101, 100]) (by simp [listsS]) rfl hpk
   simp only [h1, Option.bind_eq_bind, Option.bind_some, Option.bind_none, eq_self, if_true, if_false, Bool.false_eq_true, Int.toNat_natCast]; exact h2
  | none =>
  simp only [t22 (Layout.mk 0 0 false []) listsS 3 listsS rfl lists_w (lists_none hst hun hpk), t38, Option.bind_eq_bind, Option.bind_some, Option.bind_none, eq_self, if_true, if_false, Bool.false_eq_true, Int.toNat_natCast]
  cases hu : strip [117] T with
  | some r =>
   have hl := strip_len hu
   exact last r (by omega) false
  | none =>
  simp only [t40, Option.bind_eq_bind, Option.bind_some, Option.bind_none, eq_self, if_true, if_false, Bool.false_eq_true, Int.toNat_natCast]
  cases hi : strip [105] T with
  | some r =>
   have hl := strip_len hi
   exact last r (by omega) true
  | none =>
   have h39 := t39 hT true
   have h39 : ∃ m, n_39s0e1d (⟨ofL T, true⟩, ()) = some (m, ⟨ofL (T.dropWhile isDig), true⟩, ()) := by
    cases hn : num T with
    | none => rw [hn] at h39; exact h39
    | some a => rw [hn] at h39; exact h39
   obtain ⟨m, h⟩ := h39
   exact ⟨T.dropWhile isDig, Layout.mk 2 m true [], by simp only [h, Option.bind_eq_bind, Option.bind_some, Option.bind_none, eq_self, if_true, if_false, Bool.false_eq_true, Int.toNat_natCast]⟩
end Go.Proofs.YtogoamfegaebgaaGreatDoor
end
section
namespace Go.Proofs.YtogoamfegaebgaaGreatDoor
open Go.Awp Go.Tx
open IntKind (i64)
set_option maxRecDepth 100000
def Le {α : Type} (x y : Option α) : Prop := ∀ a, x = some a → y = some a
theorem Le.refl {α : Type} (x : Option α) : Le x x := fun _ h => h
theorem Le.none {α : Type} (x : Option α) : Le none x := fun _ h => by cases h
theorem Le.bind {α β : Type} {x y : Option α} {f g : α → Option β} (h : Le x y) (h2 : ∀ a, Le (f a) (g a)) : Le (x >>= f) (y >>= g) := fun b hb => by
 cases x with
 | none => cases hb
 | some a => rw [h a rfl]; exact h2 a b hb
theorem Le.ite {α : Type} {c : Prop} {d : Decidable c} {x y z w : Option α} (h : Le x y) (h2 : Le z w) : Le (@ite _ c d x z) (@ite _ c d y w) := by
 cases d with
 | isTrue h3 => exact h
 | isFalse h3 => exact h2
theorem Le.both {α : Type} {x y z w : Option α} (h : Le x y) (h2 : Le z w) : Le (both x z) (both y w) := fun a ha => by
 obtain ⟨h3, h4⟩ := both_some ha
 exact both_mk (h a h3) (h2 a h4)
noncomputable def m_48l3 : Nat → Int × (List Int) × Int × Int × Unit → Option ((Int × Unit))
 | 0, _ => none
 | k + 1, v =>
  if decide (v.2.2.2.1 < v.2.2.1) = true then
   if (0 : Int) ≤ v.2.2.2.1 then
    v.2.1[v.2.2.2.1.toNat]? >>= fun x1 =>
    m_48l3 k (min (1099511627776 : Int) (i64.wrap (v.1 + min x1 (1099511627776 : Int))), v.2.1, v.2.2.1, i64.wrap (v.2.2.2.1 + (1 : Int)), ())
   else none
  else some ((v.1, ()))
theorem m_48l3_le : ∀ k v, Le (m_48l3 k v) (n_48l3 v)
 | 0, _ => Le.none _
 | k + 1, v => by
  rw [m_48l3, n_48l3]
  with_reducible repeat' first | exact Le.refl _ | exact Le.none _ | exact m_48l3_le _ _ | apply Le.bind | apply Le.ite | apply Le.both | with_unfolding_all assumption | intro x
noncomputable def m_48 (k : Nat) (v : (List Int) × Unit) : Option (Int × Unit) :=
 m_48l3 k ((0 : Int), v.1, (↑v.1.length : Int), (0 : Int), ()) >>= fun x1 =>
 some ((x1.1, ()))
theorem m_48_le (k : Nat) (v : (List Int) × Unit) : Le (m_48 k v) (n_48 v) := by
 unfold m_48 n_48
 with_reducible repeat' first | exact Le.refl _ | exact Le.none _ | exact m_48l3_le _ _ | apply Le.bind | apply Le.ite | apply Le.both | with_unfolding_all assumption | intro x
noncomputable def m_25sf4a5l14 : Nat → Int × Int × (List Layout) × Int × Int × Counted × Layout × Unit → Option ((Int × Int × Counted × Layout × Unit))
 | 0, _ => none
 | k + 1, v =>
  if decide (v.2.2.2.2.1 < v.2.2.2.1) = true then
   if (0 : Int) ≤ v.2.2.2.2.1 then
    v.2.2.1[v.2.2.2.2.1.toNat]? >>= fun x1 =>
    n_49 (x1, ()) >>= fun x2 =>
    m_48 k ([v.2.1, x2.1], ()) >>= fun x3 =>
    m_25sf4a5l14 k (v.1, x3.1, v.2.2.1, v.2.2.2.1, i64.wrap (v.2.2.2.2.1 + (1 : Int)), v.2.2.2.2.2.1, v.2.2.2.2.2.2.1, ())
   else none
  else some ((v.1, v.2.1, v.2.2.2.2.2.1, v.2.2.2.2.2.2.1, ()))
theorem m_25sf4a5l14_le : ∀ k v, Le (m_25sf4a5l14 k v) (n_25sf4a5l14 v)
 | 0, _ => Le.none _
 | k + 1, v => by
  rw [m_25sf4a5l14, n_25sf4a5l14]
  with_reducible repeat' first | exact Le.refl _ | exact Le.none _ | exact m_48_le _ _ | exact m_25sf4a5l14_le _ _ | apply Le.bind | apply Le.ite | apply Le.both | with_unfolding_all assumption | intro x
mutual
noncomputable def m_25sf4a5l21 : Nat → Int × (List Layout) × Int × Int × Counted × Unit → Option ((Counted × Unit))
 | 0, _ => none
 | k + 1, v =>
  if decide (v.2.2.2.1 < v.2.2.1) = true then
   if (0 : Int) ≤ v.2.2.2.1 then
    v.2.1[v.2.2.2.1.toNat]? >>= fun x1 =>
    m_25sf4a5 k (x1, i64.wrap (v.1 + (1 : Int)), v.2.2.2.2.1, ()) >>= fun x2 =>
    m_25sf4a5l21 k (v.1, v.2.1, v.2.2.1, i64.wrap (v.2.2.2.1 + (1 : Int)), x2.1, ())
   else none
  else some ((v.2.2.2.2.1, ()))
noncomputable def m_25sf4a5 : Nat → Layout × Int × Counted × Unit → Option (Counted × Unit)
 | 0, _ => none
 | k + 1, v =>
  (if v.2.2.1.large = true then
     some ((v.2.1, Counted.mk (i64.wrap (v.2.2.1.count + (1 : Int))) (max v.2.2.1.deep v.2.1) true, v.1, ()))
    else if decide (i64.wrap (v.2.2.1.count + (1 : Int)) > (60 : Int)) = true then
     some ((v.2.1, Counted.mk (i64.wrap (v.2.2.1.count + (1 : Int))) (max v.2.2.1.deep v.2.1) true, v.1, ()))
    else if decide (v.2.1 > (5 : Int)) = true then
     some ((v.2.1, Counted.mk (i64.wrap (v.2.2.1.count + (1 : Int))) (max v.2.2.1.deep v.2.1) true, v.1, ()))
    else some ((v.2.1, Counted.mk (i64.wrap (v.2.2.1.count + (1 : Int))) (max v.2.2.1.deep v.2.1) (decide ((↑v.1.parts.length : Int) > (12 : Int))), v.1, ()))) >>= fun x1 =>
  (if (x1.2.2.1.kind == (2 : Int)) = true then
     (if x1.2.1.large = true then
        some ((x1.1, Counted.mk x1.2.1.count x1.2.1.deep true, x1.2.2.1, ()))
       else some ((x1.1, Counted.mk x1.2.1.count x1.2.1.deep (decide (x1.2.2.1.n > (64 : Int))), x1.2.2.1, ()))) >>= fun x2 =>
     some ((x2.1, x2.2.1, x2.2.2.1, ()))
    else if (x1.2.2.1.kind == (5 : Int)) = true then
     (if x1.2.1.large = true then
        some ((x1.1, Counted.mk x1.2.1.count x1.2.1.deep true, x1.2.2.1, ()))
       else some ((x1.1, Counted.mk x1.2.1.count x1.2.1.deep (decide (x1.2.2.1.n > (1000 : Int))), x1.2.2.1, ()))) >>= fun x2 =>
     some ((x2.1, x2.2.1, x2.2.2.1, ()))
    else if (x1.2.2.1.kind == (7 : Int)) = true then
     (if x1.2.1.large = true then
        some ((x1.1, Counted.mk x1.2.1.count x1.2.1.deep true, x1.2.2.1, ()))
       else some ((x1.1, Counted.mk x1.2.1.count x1.2.1.deep (decide (x1.2.2.1.n > (65536 : Int))), x1.2.2.1, ()))) >>= fun x2 =>
     some ((x2.1, x2.2.1, x2.2.2.1, ()))
    else if (x1.2.2.1.kind == (9 : Int)) = true then
     m_25sf4a5l14 k (x1.1, (0 : Int), x1.2.2.1.parts, (↑x1.2.2.1.parts.length : Int), (0 : Int), x1.2.1, x1.2.2.1, ()) >>= fun x2 =>
     (if x2.2.2.1.large = true then
        some ((x2.1, Counted.mk x2.2.2.1.count x2.2.2.1.deep true, x2.2.2.2.1, ()))
       else some ((x2.1, Counted.mk x2.2.2.1.count x2.2.2.1.deep (decide (x2.2.1 > (64 : Int))), x2.2.2.2.1, ()))) >>= fun x3 =>
     some ((x3.1, x3.2.1, x3.2.2.1, ()))
    else some ((x1.1, x1.2.1, x1.2.2.1, ()))) >>= fun x2 =>
  if x2.2.1.large = true then
   some ((x2.2.1, ()))
  else m_25sf4a5l21 k (x2.1, x2.2.2.1.parts, (↑x2.2.2.1.parts.length : Int), (0 : Int), x2.2.1, ()) >>= fun x3 =>
  some ((x3.1, ()))
end
theorem m_25sf4a5l21_st (k : Nat) (h_25sf4a5 : ∀ v, Le (m_25sf4a5 k v) (n_25sf4a5 v)) (h_25sf4a5l21 : ∀ v, Le (m_25sf4a5l21 k v) (n_25sf4a5l21 v)) (v : Int × (List Layout) × Int × Int × Counted × Unit) : Le (m_25sf4a5l21 (k + 1) v) (n_25sf4a5l21 v) := by
 rw [m_25sf4a5l21, n_25sf4a5l21]
 with_reducible repeat' first | exact Le.refl _ | exact Le.none _ | exact h_25sf4a5 _ | exact h_25sf4a5l21 _ | apply Le.bind | apply Le.ite | apply Le.both | with_unfolding_all assumption | intro x
theorem m_25sf4a5_st (k : Nat) (h_25sf4a5l21 : ∀ v, Le (m_25sf4a5l21 k v) (n_25sf4a5l21 v)) (v : Layout × Int × Counted × Unit) : Le (m_25sf4a5 (k + 1) v) (n_25sf4a5 v) := by
 rw [m_25sf4a5, n_25sf4a5]
 with_reducible repeat' first | exact Le.refl _ | exact Le.none _ | exact m_25sf4a5l14_le _ _ | exact h_25sf4a5l21 _ | apply Le.bind | apply Le.ite | apply Le.both | with_unfolding_all assumption | intro x
theorem m_25sf4a5l21_all : ∀ k, (∀ v, Le (m_25sf4a5l21 k v) (n_25sf4a5l21 v)) ∧ (∀ v, Le (m_25sf4a5 k v) (n_25sf4a5 v))
 | 0 => ⟨fun _ => Le.none _, fun _ => Le.none _⟩
 | k + 1 => by
  have h := m_25sf4a5l21_all k
  exact ⟨m_25sf4a5l21_st k (h.2) (h.1), m_25sf4a5_st k (h.1)⟩
theorem m_25sf4a5_le (k : Nat) (v : Layout × Int × Counted × Unit) : Le (m_25sf4a5 k v) (n_25sf4a5 v) := have h := m_25sf4a5l21_all k; h.2 v
mutual
noncomputable def m_26l3 : Nat → Int × (List Layout) × Int × Int × Layout × Unit → Option ((Int × Layout × Unit))
 | 0, _ => none
 | k + 1, v =>
  if decide (v.2.2.2.1 < v.2.2.1) = true then
   if (0 : Int) ≤ v.2.2.2.1 then
    v.2.1[v.2.2.2.1.toNat]? >>= fun x1 =>
    m_26 k (x1, ()) >>= fun x2 =>
    m_48 k ([v.1, x2.1], ()) >>= fun x3 =>
    m_26l3 k (x3.1, v.2.1, v.2.2.1, i64.wrap (v.2.2.2.1 + (1 : Int)), v.2.2.2.2.1, ())
   else none
  else some ((v.1, v.2.2.2.2.1, ()))
noncomputable def m_26 : Nat → Layout × Unit → Option (Int × Unit)
 | 0, _ => none
 | k + 1, v =>
  m_26l3 k ((0 : Int), v.1.parts, (↑v.1.parts.length : Int), (0 : Int), v.1, ()) >>= fun x1 =>
  if (x1.2.1.kind == (5 : Int)) = true then
   m_48 k ([(1 : Int), i64.wrap (max (0 : Int) x1.2.1.n * x1.1)], ()) >>= fun x2 =>
   some ((x2.1, ()))
  else m_48 k ([(1 : Int), x1.1], ()) >>= fun x2 =>
  some ((x2.1, ()))
end
theorem m_26l3_st (k : Nat) (h_26 : ∀ v, Le (m_26 k v) (n_26 v)) (h_26l3 : ∀ v, Le (m_26l3 k v) (n_26l3 v)) (v : Int × (List Layout) × Int × Int × Layout × Unit) : Le (m_26l3 (k + 1) v) (n_26l3 v) := by
 rw [m_26l3, n_26l3]
 with_reducible repeat' first | exact Le.refl _ | exact Le.none _ | exact m_48_le _ _ | exact h_26 _ | exact h_26l3 _ | apply Le.bind | apply Le.ite | apply Le.both | with_unfolding_all assumption | intro x
theorem m_26_st (k : Nat) (h_26l3 : ∀ v, Le (m_26l3 k v) (n_26l3 v)) (v : Layout × Unit) : Le (m_26 (k + 1) v) (n_26 v) := by
 rw [m_26, n_26]
 with_reducible repeat' first | exact Le.refl _ | exact Le.none _ | exact m_48_le _ _ | exact h_26l3 _ | apply Le.bind | apply Le.ite | apply Le.both | with_unfolding_all assumption | intro x
theorem m_26l3_all : ∀ k, (∀ v, Le (m_26l3 k v) (n_26l3 v)) ∧ (∀ v, Le (m_26 k v) (n_26 v))
 | 0 => ⟨fun _ => Le.none _, fun _ => Le.none _⟩
 | k + 1 => by
  have h := m_26l3_all k
  exact ⟨m_26l3_st k (h.2) (h.1), m_26_st k (h.1)⟩
theorem m_26_le (k : Nat) (v : Layout × Unit) : Le (m_26 k v) (n_26 v) := have h := m_26l3_all k; h.2 v
noncomputable def m_66c51l2 : Nat → (List Layout) × Int × Int × Unit → Option (((Int × Unit) ⊕ (Unit)))
 | 0, _ => none
 | k + 1, v =>
  if decide (v.2.2.1 < v.2.1) = true then
   if (0 : Int) ≤ v.2.2.1 then
    v.1[v.2.2.1.toNat]? >>= fun x1 =>
    n_51 (x1, ()) >>= fun x2 =>
    if x2.1 = true then
     some (Sum.inl (v.2.2.1, ()))
    else m_66c51l2 k (v.1, v.2.1, i64.wrap (v.2.2.1 + (1 : Int)), ())
   else none
  else some (Sum.inr ())
theorem m_66c51l2_le : ∀ k v, Le (m_66c51l2 k v) (n_66c51l2 v)
 | 0, _ => Le.none _
 | k + 1, v => by
  rw [m_66c51l2, n_66c51l2]
  with_reducible repeat' first | exact Le.refl _ | exact Le.none _ | exact m_66c51l2_le _ _ | apply Le.bind | apply Le.ite | apply Le.both | with_unfolding_all assumption | intro x
noncomputable def m_66c51 (k : Nat) (v : (List Layout) × Unit) : Option (Int × Unit) :=
 m_66c51l2 k (v.1, (↑v.1.length : Int), (0 : Int), ()) >>= fun x1 => match x1 with
  | .inl y1 => some y1
  | .inr y1 => some (((-1 : Int), ()))
theorem m_66c51_le (k : Nat) (v : (List Layout) × Unit) : Le (m_66c51 k v) (n_66c51 v) := by
 unfold m_66c51 n_66c51
 with_reducible repeat' first | exact Le.refl _ | exact Le.none _ | exact m_66c51l2_le _ _ | apply Le.bind | apply Le.ite | apply Le.both | (rintro (x | x) <;> dsimp only) | with_unfolding_all assumption | intro x
noncomputable def m_50c51 (k : Nat) (v : (List Layout) × Unit) : Option (Bool × Unit) :=
 m_66c51 k (v.1, ()) >>= fun x1 =>
 some ((decide (x1.1 ≥ (0 : Int)), ()))
theorem m_50c51_le (k : Nat) (v : (List Layout) × Unit) : Le (m_50c51 k v) (n_50c51 v) := by
 unfold m_50c51 n_50c51
 with_reducible repeat' first | exact Le.refl _ | exact Le.none _ | exact m_66c51_le _ _ | apply Le.bind | apply Le.ite | apply Le.both | with_unfolding_all assumption | intro x
mutual
noncomputable def m_27 : Nat → Layout × Unit → Option (Bool × Unit)
 | 0, _ => none
 | k + 1, v =>
  ((((if (v.1.kind == (0 : Int)) = true then
        some (Sum.inr ((0 : Int), v.1.n == (0 : Int), v.1, ()))
       else if (v.1.kind == (1 : Int)) = true then
        some (Sum.inr ((0 : Int), v.1.n == (0 : Int), v.1, ()))
       else if (v.1.kind == (3 : Int)) = true then
        some (Sum.inr ((0 : Int), v.1.n == (0 : Int), v.1, ()))
       else some (Sum.inl ((0 : Int), v.1.n == (0 : Int), v.1.kind, v.1, ()))) >>= fun x1 => match x1 with
       | .inl y1 => if (y1.2.2.1 == (2 : Int)) = true then
         some (Sum.inr (Sum.inl (y1.1, decide (y1.2.2.2.1.n ≥ (1 : Int)), y1.2.2.2.1, ())))
        else if (y1.2.2.1 == (7 : Int)) = true then
         some (Sum.inr (Sum.inl (y1.1, decide (y1.2.2.2.1.n ≥ (1 : Int)), y1.2.2.2.1, ())))
        else if (y1.2.2.1 == (5 : Int)) = true then
         some (Sum.inl (decide (y1.2.2.2.1.n ≥ (0 : Int)), y1.2.2.2.1, ()))
        else if (y1.2.2.1 == (4 : Int)) = true then
         some (Sum.inl (y1.2.1, y1.2.2.2.1, ()))
        else if (y1.2.2.1 == (8 : Int)) = true then
         some (Sum.inr (Sum.inr (Sum.inl (y1.2.1, y1.2.2.2.1, ()))))
        else if (y1.2.2.1 == (6 : Int)) = true then
         some (Sum.inr (Sum.inr (Sum.inr (Sum.inl (y1.2.1, y1.2.2.2.1, ())))))
        else if (y1.2.2.1 == (9 : Int)) = true then
         some (Sum.inr (Sum.inr (Sum.inr (Sum.inl (y1.2.1, y1.2.2.2.1, ())))))
        else some (Sum.inr (Sum.inr (Sum.inr (Sum.inr ()))))
       | .inr y1 => some (Sum.inr (Sum.inl (y1.1, y1.2.1, y1.2.2.1, ())))) >>= fun x1 => match x1 with
      | .inl y1 => some (Sum.inr (Sum.inl ((1 : Int), y1.1, y1.2.1, ())))
      | .inr (.inl y1) => some (Sum.inr (Sum.inl (y1.1, y1.2.1, y1.2.2.1, ())))
      | .inr (.inr (.inl y1)) => (if y1.1 = true then
         some ((decide ((↑y1.2.1.parts.length : Int) ≥ (1 : Int)), y1.2.1, ()))
        else some ((false, y1.2.1, ()))) >>= fun x2 =>
       some (Sum.inl (x2.1, x2.2.1, ()))
      | .inr (.inr (.inr (.inl y1))) => some (Sum.inl (y1.1, y1.2.1, ()))
      | .inr (.inr (.inr (.inr y1))) => some (Sum.inr (Sum.inr ()))) >>= fun x1 => match x1 with
     | .inl y1 => some (Sum.inl ((↑y1.2.1.parts.length : Int), y1.1, y1.2.1, ()))
     | .inr (.inl y1) => some (Sum.inl (y1.1, y1.2.1, y1.2.2.1, ()))
     | .inr (.inr y1) => some (Sum.inr (false, ()))) >>= fun x1 => match x1 with
    | .inl y1 => (if (!y1.2.1) = true then
       some ((true, y1.2.2.1, ()))
      else if ((↑y1.2.2.1.parts.length : Int) != y1.1) = true then
       some ((true, y1.2.2.1, ()))
      else if y1.2.2.1.flag = true then
       some ((y1.2.2.1.kind != (2 : Int), y1.2.2.1, ()))
      else some ((false, y1.2.2.1, ()))) >>= fun x2 =>
     if x2.1 = true then
      some ((false, ()))
     else (if (x2.2.1.kind == (9 : Int)) = true then
       m_50c51 k (x2.2.1.parts, ()) >>= fun x3 =>
       some ((x3.1, x2.2.1, ()))
      else some ((false, x2.2.1, ()))) >>= fun x3 =>
     if x3.1 = true then
      some ((false, ()))
     else m_50c52 k (x3.2.1.parts, ()) >>= fun x4 =>
     some ((!x4.1, ()))
    | .inr y1 => some y1
noncomputable def m_50c52 : Nat → (List Layout) × Unit → Option (Bool × Unit)
 | 0, _ => none
 | k + 1, v =>
  m_66c52 k (v.1, ()) >>= fun x1 =>
  some ((decide (x1.1 ≥ (0 : Int)), ()))
noncomputable def m_66c52 : Nat → (List Layout) × Unit → Option (Int × Unit)
 | 0, _ => none
 | k + 1, v =>
  m_66c52l2 k (v.1, (↑v.1.length : Int), (0 : Int), ()) >>= fun x1 => match x1 with
   | .inl y1 => some y1
   | .inr y1 => some (((-1 : Int), ()))
noncomputable def m_66c52l2 : Nat → (List Layout) × Int × Int × Unit → Option (((Int × Unit) ⊕ (Unit)))
 | 0, _ => none
 | k + 1, v =>
  if decide (v.2.2.1 < v.2.1) = true then
   if (0 : Int) ≤ v.2.2.1 then
    v.1[v.2.2.1.toNat]? >>= fun x1 =>
    m_52 k (x1, ()) >>= fun x2 =>
    if x2.1 = true then
     some (Sum.inl (v.2.2.1, ()))
    else m_66c52l2 k (v.1, v.2.1, i64.wrap (v.2.2.1 + (1 : Int)), ())
   else none
  else some (Sum.inr ())
noncomputable def m_52 : Nat → Layout × Unit → Option (Bool × Unit)
 | 0, _ => none
 | k + 1, v =>
  m_27 k (v.1, ()) >>= fun x1 =>
  some ((!x1.1, ()))
end
theorem m_27_st (k : Nat) (h_50c52 : ∀ v, Le (m_50c52 k v) (n_50c52 v)) (v : Layout × Unit) : Le (m_27 (k + 1) v) (n_27 v) := by
 rw [m_27, n_27]
 with_reducible repeat' first | exact Le.refl _ | exact Le.none _ | exact m_50c51_le _ _ | exact h_50c52 _ | apply Le.bind | apply Le.ite | apply Le.both | (rintro (x | x | x | x | x) <;> dsimp only) | (rintro (x | x) <;> dsimp only) | with_unfolding_all assumption | intro x
theorem m_50c52_st (k : Nat) (h_66c52 : ∀ v, Le (m_66c52 k v) (n_66c52 v)) (v : (List Layout) × Unit) : Le (m_50c52 (k + 1) v) (n_50c52 v) := by
 rw [m_50c52, n_50c52]
 with_reducible repeat' first | exact Le.refl _ | exact Le.none _ | exact h_66c52 _ | apply Le.bind | apply Le.ite | apply Le.both | with_unfolding_all assumption | intro x
theorem m_66c52_st (k : Nat) (h_66c52l2 : ∀ v, Le (m_66c52l2 k v) (n_66c52l2 v)) (v : (List Layout) × Unit) : Le (m_66c52 (k + 1) v) (n_66c52 v) := by
 rw [m_66c52, n_66c52]
 with_reducible repeat' first | exact Le.refl _ | exact Le.none _ | exact h_66c52l2 _ | apply Le.bind | apply Le.ite | apply Le.both | (rintro (x | x) <;> dsimp only) | with_unfolding_all assumption | intro x
theorem m_66c52l2_st (k : Nat) (h_52 : ∀ v, Le (m_52 k v) (n_52 v)) (h_66c52l2 : ∀ v, Le (m_66c52l2 k v) (n_66c52l2 v)) (v : (List Layout) × Int × Int × Unit) : Le (m_66c52l2 (k + 1) v) (n_66c52l2 v) := by
 rw [m_66c52l2, n_66c52l2]
 with_reducible repeat' first | exact Le.refl _ | exact Le.none _ | exact h_52 _ | exact h_66c52l2 _ | apply Le.bind | apply Le.ite | apply Le.both | with_unfolding_all assumption | intro x
theorem m_52_st (k : Nat) (h_27 : ∀ v, Le (m_27 k v) (n_27 v)) (v : Layout × Unit) : Le (m_52 (k + 1) v) (n_52 v) := by
 rw [m_52, n_52]
 with_reducible repeat' first | exact Le.refl _ | exact Le.none _ | exact h_27 _ | apply Le.bind | apply Le.ite | apply Le.both | with_unfolding_all assumption | intro x
theorem m_27_all : ∀ k, (∀ v, Le (m_27 k v) (n_27 v)) ∧ (∀ v, Le (m_50c52 k v) (n_50c52 v)) ∧ (∀ v, Le (m_66c52 k v) (n_66c52 v)) ∧ (∀ v, Le (m_66c52l2 k v) (n_66c52l2 v)) ∧ (∀ v, Le (m_52 k v) (n_52 v))
 | 0 => ⟨fun _ => Le.none _, fun _ => Le.none _, fun _ => Le.none _, fun _ => Le.none _, fun _ => Le.none _⟩
 | k + 1 => by
  have h := m_27_all k
  exact ⟨m_27_st k (h.2.1), m_50c52_st k (h.2.2.1), m_66c52_st k (h.2.2.2.1), m_66c52l2_st k (h.2.2.2.2) (h.2.2.2.1), m_52_st k (h.1)⟩
theorem m_27_le (k : Nat) (v : Layout × Unit) : Le (m_27 k v) (n_27 v) := have h := m_27_all k; h.1 v
noncomputable def m_16 (k : Nat) (v : Layout × Unit) : Option (Int × Unit) :=
 m_25sf4a5 k (v.1, (1 : Int), Counted.mk (0 : Int) (0 : Int) false, ()) >>= fun x1 =>
 (if x1.1.large = true then
    some ((true, v.1, ()))
   else m_26 k (v.1, ()) >>= fun x2 =>
   some ((decide (x2.1 > (4096 : Int)), v.1, ()))) >>= fun x2 =>
 if x2.1 = true then
  some (((3 : Int), ()))
 else m_27 k (x2.2.1, ()) >>= fun x3 =>
 if (!x3.1) = true then
  some (((1 : Int), ()))
 else some (((0 : Int), ()))
theorem m_16_le (k : Nat) (v : Layout × Unit) : Le (m_16 k v) (n_16 v) := by
 unfold m_16 n_16
 with_reducible repeat' first | exact Le.refl _ | exact Le.none _ | exact m_25sf4a5_le _ _ | exact m_26_le _ _ | exact m_27_le _ _ | apply Le.bind | apply Le.ite | apply Le.both | with_unfolding_all assumption | intro x
noncomputable def m_22 (k : Nat) (v : Layout × Target × Unit) : Option (Int × Unit) :=
 m_16 k (v.1, ()) >>= fun x1 =>
 if (x1.1 != (0 : Int)) = true then
  some ((x1.1, ()))
 else n_45 (v.2.1, ()) >>= fun x2 =>
 some ((x2.1, ()))
theorem m_22_le (k : Nat) (v : Layout × Target × Unit) : Le (m_22 k v) (n_22 v) := by
 unfold m_22 n_22
 with_reducible repeat' first | exact Le.refl _ | exact Le.none _ | exact m_16_le _ _ | apply Le.bind | apply Le.ite | apply Le.both | with_unfolding_all assumption | intro x
noncomputable def m_64l4 : Nat → Int × Int × Unit → Option ((Int × Unit))
 | 0, _ => none
 | k + 1, v =>
  if decide (i64.wrap ((8 : Int) * v.2.1) < v.1) = true then
   m_64l4 k (v.1, i64.wrap (v.2.1 * (2 : Int)), ())
  else some ((v.2.1, ()))
theorem m_64l4_le : ∀ k v, Le (m_64l4 k v) (n_64l4 v)
 | 0, _ => Le.none _
 | k + 1, v => by
  rw [m_64l4, n_64l4]
  with_reducible repeat' first | exact Le.refl _ | exact Le.none _ | exact m_64l4_le _ _ | apply Le.bind | apply Le.ite | apply Le.both | with_unfolding_all assumption | intro x
noncomputable def m_64 (k : Nat) (v : Int × Unit) : Option (Int × Unit) :=
 if (v.1 == (0 : Int)) = true then
  some (((0 : Int), ()))
 else m_64l4 k (v.1, (1 : Int), ()) >>= fun x1 =>
 some ((x1.1, ()))
theorem m_64_le (k : Nat) (v : Int × Unit) : Le (m_64 k v) (n_64 v) := by
 unfold m_64 n_64
 with_reducible repeat' first | exact Le.refl _ | exact Le.none _ | exact m_64l4_le _ _ | apply Le.bind | apply Le.ite | apply Le.both | with_unfolding_all assumption | intro x
noncomputable def m_65l3 : Nat → Int × (List Layout) × Int × Int × Unit → Option ((Int × Unit))
 | 0, _ => none
 | k + 1, v =>
  if decide (v.2.2.2.1 < v.2.2.1) = true then
   if (0 : Int) ≤ v.2.2.2.1 then
    v.2.1[v.2.2.2.1.toNat]? >>= fun x1 =>
    n_49 (x1, ()) >>= fun x2 =>
    m_65l3 k (i64.wrap (v.1 + x2.1), v.2.1, v.2.2.1, i64.wrap (v.2.2.2.1 + (1 : Int)), ())
   else none
  else some ((v.1, ()))
theorem m_65l3_le : ∀ k v, Le (m_65l3 k v) (n_65l3 v)
 | 0, _ => Le.none _
 | k + 1, v => by
  rw [m_65l3, n_65l3]
  with_reducible repeat' first | exact Le.refl _ | exact Le.none _ | exact m_65l3_le _ _ | apply Le.bind | apply Le.ite | apply Le.both | with_unfolding_all assumption | intro x
noncomputable def m_65 (k : Nat) (v : Layout × Unit) : Option (Int × Unit) :=
 m_65l3 k ((0 : Int), v.1.parts, (↑v.1.parts.length : Int), (0 : Int), ()) >>= fun x1 =>
 some ((x1.1, ()))
theorem m_65_le (k : Nat) (v : Layout × Unit) : Le (m_65 k v) (n_65 v) := by
 unfold m_65 n_65
 with_reducible repeat' first | exact Le.refl _ | exact Le.none _ | exact m_65l3_le _ _ | apply Le.bind | apply Le.ite | apply Le.both | with_unfolding_all assumption | intro x
mutual
noncomputable def m_24l4 : Nat → Int × Int × (List Layout) × Int × Int × Target × Room × (List Int) × Unit → Option ((Int × Int × Room × (List Int) × Unit))
 | 0, _ => none
 | k + 1, v =>
  if decide (v.2.2.2.2.1 < v.2.2.2.1) = true then
   if (0 : Int) ≤ v.2.2.2.2.1 then
    v.2.2.1[v.2.2.2.2.1.toNat]? >>= fun x1 =>
    m_46 k (x1, v.2.2.2.2.2.1, ()) >>= fun x2 =>
    n_47 (v.1, x2.1.align, ()) >>= fun x3 =>
    if v.2.2.2.2.2.2.2.1.length + [x3.1].length ≤ (4294967296 : Nat) then
     m_48 k ([x3.1, x2.1.size], ()) >>= fun x4 =>
     m_24l4 k (x4.1, max v.2.1 x2.1.align, v.2.2.1, v.2.2.2.1, i64.wrap (v.2.2.2.2.1 + (1 : Int)), v.2.2.2.2.2.1, v.2.2.2.2.2.2.1, v.2.2.2.2.2.2.2.1 ++ [x3.1], ())
    else none
   else none
  else some ((v.1, v.2.1, v.2.2.2.2.2.2.1, v.2.2.2.2.2.2.2.1, ()))
noncomputable def m_46 : Nat → Layout × Target × Unit → Option (Room × Unit)
 | 0, _ => none
 | k + 1, v =>
  if (v.1.kind == (1 : Int)) = true then
   some ((Room.mk (1 : Int) (1 : Int), ()))
  else if (v.1.kind == (2 : Int)) = true then
   m_64 k (v.1.n, ()) >>= fun x1 =>
   m_64 k (v.1.n, ()) >>= fun x2 =>
   some ((Room.mk x1.1 (min x2.1 v.2.1.word), ()))
  else if (v.1.kind == (3 : Int)) = true then
   some ((Room.mk v.2.1.word v.2.1.word, ()))
  else if (v.1.kind == (4 : Int)) = true then
   v.1.parts[Int.toNat (0 : Int)]? >>= fun x1 =>
   m_46 k (x1, v.2.1, ()) >>= fun x2 =>
   m_48 k ([x2.1.size, (1 : Int)], ()) >>= fun x3 =>
   n_47 (x3.1, x2.1.align, ()) >>= fun x4 =>
   some ((Room.mk x4.1 x2.1.align, ()))
  else if (v.1.kind == (5 : Int)) = true then
   v.1.parts[Int.toNat (0 : Int)]? >>= fun x1 =>
   m_46 k (x1, v.2.1, ()) >>= fun x2 =>
   some ((Room.mk (min (1099511627776 : Int) (i64.wrap (v.1.n * x2.1.size))) x2.1.align, ()))
  else if (v.1.kind == (6 : Int)) = true then
   m_24 k (v.1, v.2.1, ()) >>= fun x1 =>
   some ((x1.2.1, ()))
  else if (v.1.kind == (7 : Int)) = true then
   (if decide (v.1.n > (256 : Int)) = true then
      some (((2 : Int), v.2.1, Room.mk (0 : Int) (0 : Int), ()))
     else some (((1 : Int), v.2.1, Room.mk (0 : Int) (0 : Int), ()))) >>= fun x1 =>
   some ((Room.mk x1.1 (min x1.1 x1.2.1.word), ()))
  else if (v.1.kind == (8 : Int)) = true then
   m_46l25 k (v.1.parts, (↑v.1.parts.length : Int), (0 : Int), v.2.1, Room.mk (0 : Int) (0 : Int), Room.mk (0 : Int) (1 : Int), ()) >>= fun x1 =>
   m_48 k ([x1.2.1.size, (1 : Int)], ()) >>= fun x2 =>
   n_47 (x2.1, x1.2.1.align, ()) >>= fun x3 =>
   some ((Room.mk x3.1 x1.2.1.align, ()))
  else if (v.1.kind == (9 : Int)) = true then
   m_65 k (v.1, ()) >>= fun x1 =>
   m_64 k (x1.1, ()) >>= fun x2 =>
   some ((Room.mk x2.1 (max (1 : Int) (min x2.1 v.2.1.word)), ()))
  else some ((Room.mk (0 : Int) (1 : Int), ()))
noncomputable def m_46l25 : Nat → (List Layout) × Int × Int × Target × Room × Room × Unit → Option ((Room × Room × Unit))
 | 0, _ => none
 | k + 1, v =>
  if decide (v.2.2.1 < v.2.1) = true then
   if (0 : Int) ≤ v.2.2.1 then
    v.1[v.2.2.1.toNat]? >>= fun x1 =>
    m_46 k (x1, v.2.2.2.1, ()) >>= fun x2 =>
    m_46l25 k (v.1, v.2.1, i64.wrap (v.2.2.1 + (1 : Int)), v.2.2.2.1, v.2.2.2.2.1, Room.mk (max v.2.2.2.2.2.1.size x2.1.size) (max v.2.2.2.2.2.1.align x2.1.align), ())
   else none
  else some ((v.2.2.2.2.1, v.2.2.2.2.2.1, ()))
noncomputable def m_24 : Nat → Layout × Target × Unit → Option ((List Int) × Room × Unit)
 | 0, _ => none
 | k + 1, v =>
  m_24l4 k ((0 : Int), (1 : Int), v.1.parts, (↑v.1.parts.length : Int), (0 : Int), v.2.1, Room.mk (0 : Int) (0 : Int), [], ()) >>= fun x1 =>
  n_47 (x1.1, x1.2.1, ()) >>= fun x2 =>
  some ((x1.2.2.2.1, Room.mk x2.1 x1.2.1, ()))
end
theorem m_24l4_st (k : Nat) (h_24l4 : ∀ v, Le (m_24l4 k v) (n_24l4 v)) (h_46 : ∀ v, Le (m_46 k v) (n_46 v)) (v : Int × Int × (List Layout) × Int × Int × Target × Room × (List Int) × Unit) : Le (m_24l4 (k + 1) v) (n_24l4 v) := by
 rw [m_24l4, n_24l4]
 with_reducible repeat' first | exact Le.refl _ | exact Le.none _ | exact m_48_le _ _ | exact h_24l4 _ | exact h_46 _ | apply Le.bind | apply Le.ite | apply Le.both | with_unfolding_all assumption | intro x
theorem m_46_st (k : Nat) (h_24 : ∀ v, Le (m_24 k v) (n_24 v)) (h_46 : ∀ v, Le (m_46 k v) (n_46 v)) (h_46l25 : ∀ v, Le (m_46l25 k v) (n_46l25 v)) (v : Layout × Target × Unit) : Le (m_46 (k + 1) v) (n_46 v) := by
 rw [m_46, n_46]
 with_reducible repeat' first | exact Le.refl _ | exact Le.none _ | exact m_65_le _ _ | exact m_48_le _ _ | exact m_64_le _ _ | exact h_24 _ | exact h_46 _ | exact h_46l25 _ | apply Le.bind | apply Le.ite | apply Le.both | with_unfolding_all assumption | intro x
theorem m_46l25_st (k : Nat) (h_46 : ∀ v, Le (m_46 k v) (n_46 v)) (h_46l25 : ∀ v, Le (m_46l25 k v) (n_46l25 v)) (v : (List Layout) × Int × Int × Target × Room × Room × Unit) : Le (m_46l25 (k + 1) v) (n_46l25 v) := by
 rw [m_46l25, n_46l25]
 with_reducible repeat' first | exact Le.refl _ | exact Le.none _ | exact h_46 _ | exact h_46l25 _ | apply Le.bind | apply Le.ite | apply Le.both | with_unfolding_all assumption | intro x
theorem m_24_st (k : Nat) (h_24l4 : ∀ v, Le (m_24l4 k v) (n_24l4 v)) (v : Layout × Target × Unit) : Le (m_24 (k + 1) v) (n_24 v) := by
 rw [m_24, n_24]
 with_reducible repeat' first | exact Le.refl _ | exact Le.none _ | exact h_24l4 _ | apply Le.bind | apply Le.ite | apply Le.both | with_unfolding_all assumption | intro x
theorem m_24l4_all : ∀ k, (∀ v, Le (m_24l4 k v) (n_24l4 v)) ∧ (∀ v, Le (m_46 k v) (n_46 v)) ∧ (∀ v, Le (m_46l25 k v) (n_46l25 v)) ∧ (∀ v, Le (m_24 k v) (n_24 v))
 | 0 => ⟨fun _ => Le.none _, fun _ => Le.none _, fun _ => Le.none _, fun _ => Le.none _⟩
 | k + 1 => by
  have h := m_24l4_all k
  exact ⟨m_24l4_st k (h.1) (h.2.1), m_46_st k (h.2.2.2) (h.2.1) (h.2.2.1), m_46l25_st k (h.2.1) (h.2.2.1), m_24_st k (h.1)⟩
theorem m_46_le (k : Nat) (v : Layout × Target × Unit) : Le (m_46 k v) (n_46 v) := have h := m_24l4_all k; h.2.1 v
theorem m_24_le (k : Nat) (v : Layout × Target × Unit) : Le (m_24 k v) (n_24 v) := have h := m_24l4_all k; h.2.2.2 v
noncomputable def m_23 (k : Nat) (v : Layout × Target × Unit) : Option (Int × Room × Unit) :=
 m_46 k (v.1, v.2.1, ()) >>= fun x1 =>
 if decide (x1.1.size > (4096 : Int)) = true then
  some (((3 : Int), Room.mk (0 : Int) (0 : Int), ()))
 else some (((0 : Int), x1.1, ()))
theorem m_23_le (k : Nat) (v : Layout × Target × Unit) : Le (m_23 k v) (n_23 v) := by
 unfold m_23 n_23
 with_reducible repeat' first | exact Le.refl _ | exact Le.none _ | exact m_46_le _ _ | apply Le.bind | apply Le.ite | apply Le.both | with_unfolding_all assumption | intro x
noncomputable def m_13 (k : Nat) (v : Layout × Target × Unit) : Option ((List Int) × Int × Unit) :=
 m_22 k (v.1, v.2.1, ()) >>= fun x1 =>
 if (x1.1 != (0 : Int)) = true then
  some (([], x1.1, ()))
 else if (v.1.kind != (6 : Int)) = true then
  some (([], (6 : Int), ()))
 else m_23 k (v.1, v.2.1, ()) >>= fun x2 =>
 if (x2.1 != (0 : Int)) = true then
  some (([], x2.1, ()))
 else m_24 k (v.1, v.2.1, ()) >>= fun x3 =>
 some ((x3.1, (0 : Int), ()))
theorem m_13_le (k : Nat) (v : Layout × Target × Unit) : Le (m_13 k v) (n_13 v) := by
 unfold m_13 n_13
 with_reducible repeat' first | exact Le.refl _ | exact Le.none _ | exact m_23_le _ _ | exact m_22_le _ _ | exact m_24_le _ _ | apply Le.bind | apply Le.ite | apply Le.both | with_unfolding_all assumption | intro x
noncomputable def m_14 (k : Nat) (v : Layout × Target × Unit) : Option (Int × Int × Unit) :=
 m_22 k (v.1, v.2.1, ()) >>= fun x1 =>
 if (x1.1 != (0 : Int)) = true then
  some (((0 : Int), x1.1, ()))
 else m_23 k (v.1, v.2.1, ()) >>= fun x2 =>
 some ((x2.2.1.size, x2.1, ()))
theorem m_14_le (k : Nat) (v : Layout × Target × Unit) : Le (m_14 k v) (n_14 v) := by
 unfold m_14 n_14
 with_reducible repeat' first | exact Le.refl _ | exact Le.none _ | exact m_23_le _ _ | exact m_22_le _ _ | apply Le.bind | apply Le.ite | apply Le.both | with_unfolding_all assumption | intro x
noncomputable def m_15l4 : Nat → (List Int) × (List Int) × Int × Unit → Option (((Bool × Unit) ⊕ (Unit)))
 | 0, _ => none
 | k + 1, v =>
  if decide (v.2.2.1 < (↑v.1.length : Int)) = true then
   if (0 : Int) ≤ v.2.2.1 then
    v.1[v.2.2.1.toNat]? >>= fun x1 =>
    if (0 : Int) ≤ v.2.2.1 then
     v.2.1[v.2.2.1.toNat]? >>= fun x2 =>
     if (x1 != x2) = true then
      some (Sum.inl (false, ()))
     else m_15l4 k (v.1, v.2.1, i64.wrap (v.2.2.1 + (1 : Int)), ())
    else none
   else none
  else some (Sum.inr ())
theorem m_15l4_le : ∀ k v, Le (m_15l4 k v) (n_15l4 v)
 | 0, _ => Le.none _
 | k + 1, v => by
  rw [m_15l4, n_15l4]
  with_reducible repeat' first | exact Le.refl _ | exact Le.none _ | exact m_15l4_le _ _ | apply Le.bind | apply Le.ite | apply Le.both | with_unfolding_all assumption | intro x
noncomputable def m_15 (k : Nat) (v : (List Int) × (List Int) × Unit) : Option (Bool × Unit) :=
 if ((↑v.1.length : Int) != (↑v.2.1.length : Int)) = true then
  some ((false, ()))
 else m_15l4 k (v.1, v.2.1, (0 : Int), ()) >>= fun x1 => match x1 with
  | .inl y1 => some y1
  | .inr y1 => some ((true, ()))
theorem m_15_le (k : Nat) (v : (List Int) × (List Int) × Unit) : Le (m_15 k v) (n_15 v) := by
 unfold m_15 n_15
 with_reducible repeat' first | exact Le.refl _ | exact Le.none _ | exact m_15l4_le _ _ | apply Le.bind | apply Le.ite | apply Le.both | (rintro (x | x) <;> dsimp only) | with_unfolding_all assumption | intro x
noncomputable def m_5 (k : Nat) (v : Unit) : Option (Bool × Unit) :=
 m_13 k (Layout.mk (6 : Int) (0 : Int) false [Layout.mk (1 : Int) (0 : Int) false [], Layout.mk (3 : Int) (0 : Int) false []], Target.mk (4 : Int) false, ()) >>= fun x1 =>
 m_14 k (Layout.mk (4 : Int) (0 : Int) false [Layout.mk (2 : Int) (16 : Int) false []], Target.mk (4 : Int) false, ()) >>= fun x2 =>
 (m_15 k (x1.1, [(0 : Int), (4 : Int)], ()) >>= fun x3 =>
   if x3.1 = true then
    if (x1.2.1 == (0 : Int)) = true then
     if (x2.1 == (4 : Int)) = true then
      some ((x2.2.1 == (0 : Int), ()))
     else some ((false, ()))
    else some ((false, ()))
   else some ((false, ()))) >>= fun x3 =>
 some ((x3.1, ()))
theorem m_5_le (k : Nat) (v : Unit) : Le (m_5 k v) (n_5 v) := by
 unfold m_5 n_5
 with_reducible repeat' first | exact Le.refl _ | exact Le.none _ | exact m_15_le _ _ | exact m_14_le _ _ | exact m_13_le _ _ | apply Le.bind | apply Le.ite | apply Le.both | with_unfolding_all assumption | intro x
end Go.Proofs.YtogoamfegaebgaaGreatDoor
end
section
namespace Go.Proofs.YtogoamfegaebgaaGreatDoor
open Go.Awp Go.Tx
open Go.Lib (decDigits)
set_option maxRecDepth 100000
theorem t5 : n_5 () = some (true, ()) := m_5_le 60 () _ (by kernel_rfl)
theorem mem_allL {q : Layout} : ∀ {ps : List Layout}, q ∈ Layout.allL ps → ∃ p ∈ ps, q ∈ p.all
 | [], h => by simp [Layout.allL] at h
 | p :: r, h => by
  rw [Layout.allL, List.mem_append] at h
  rcases h with h | h
  ·exact ⟨p, List.mem_cons_self, h⟩
  ·obtain ⟨x, h1, h2⟩ := mem_allL h
   exact ⟨x, List.mem_cons_of_mem _ h1, h2⟩
theorem allL_len : ∀ ps : List Layout, ps.length ≤ (Layout.allL ps).length
 | [] => by simp
 | p :: r => by
  have := allL_len r
  rw [Layout.allL, List.length_append, List.length_cons, p.all_eq, List.length_cons]; omega
theorem allL_part {p : Layout} : ∀ {ps : List Layout}, p ∈ ps → p.all.length ≤ (Layout.allL ps).length
 | [], h => by cases h
 | q :: r, h => by
  rw [Layout.allL, List.length_append]
  rcases List.mem_cons.1 h with rfl | h
  ·omega
  ·have := allL_part h; omega
theorem parts_all : ∀ l : Layout, ∀ q ∈ l.all, q.parts.length ≤ l.all.length := by
 refine Layout.ind fun l ih q hq => ?_
 rw [l.all_eq] at hq ⊢
 rw [List.length_cons]
 rcases List.mem_cons.1 hq with rfl | hq
 ·have := allL_len q.parts; omega
 ·obtain ⟨p, hp, hqp⟩ := mem_allL hq
  have h1 := ih p hp q hqp
  have h2 := allL_part hp
  omega
theorem fits_of_out {d : Nat} {s r : List UInt8} {l : Layout} (h : Out d s l r) (hs : s.length ≤ 10000) : l.Fits ∧ l.all.length ≤ 10000 ∧ l.depth ≤ 10000 := by
 have hl := h.len
 have hd := depth_le_all l
 refine ⟨fun q hq => ?_, by omega, by omega⟩
 obtain ⟨h1, h2, h3⟩ := h.fit q hq
 have h4 := parts_all l q hq
 exact ⟨by omega, by omega, by omega⟩
def readS (S : List UInt8) : Option Layout := match plP num 100001 5 S with
 | some (l, []) => if valS l = 0 then some l else none
 | _ => none
theorem t8 {S : List UInt8} (hS : S.length ≤ 10000) : n_8 (ofL S, ()) = match readS S with
  | some l => some (0, l, ())
  | none => some (2, Layout.mk 0 0 false [], ()) := by
 unfold n_8 readS
 have h := t20 5 (by omega) S (by omega)
 have h1 : (6 : Int) - ((5 : Nat) : Int) = 1 := by decide
 rw [h1] at h
 cases hp : plP num 100001 5 S with
 | none =>
  rw [hp] at h
  obtain ⟨T, l, h⟩ := h
  simp [h]
 | some y =>
  obtain ⟨l, r⟩ := y
  rw [hp] at h
  have h : n_20s33bf (1, ⟨ofL S, false⟩, ()) = some (⟨ofL r, false⟩, l, ()) := h
  obtain ⟨f1, f2, f3⟩ := fits_of_out (pl_out _ _ _ _ _ hp) hS
  have hv := f20 l f1 f2 f3
  cases r with
  | nil =>
   by_cases hz : valS l = 0
   ·simp [h, hv, hz, mk_ofL, ofL_list]
   ·simp [h, hv, hz, mk_ofL, ofL_list]
  | cons c t => simp [h, mk_ofL, ofL_list]
theorem t9 {S : List UInt8} (hS : S.length ≤ 10000) : n_9 (ofL S, ()) = match readS S with
  | some l => some (0, l, ())
  | none => some (2, Layout.mk 0 0 false [], ()) := by
 unfold n_9 readS
 have h := t21 (S := S) (by omega) 5 (by omega) 0 (by omega)
 have h1 : (6 : Int) - ((5 : Nat) : Int) = 1 := by decide
 rw [h1, List.drop_zero] at h
 have h : RR S (plP num6 13 5 S) (n_21 (ofL S, 0, 1, ())) := h
 have nd : noDig [] := fun c t e => by cases e
 cases hp : plP num6 13 5 S with
 | none =>
  rw [hp] at h
  obtain ⟨a, l, h⟩ := h
  have hu : ∀ l, plP num 100001 5 S = some (l, []) → valS l ≠ 0 := fun l hl hv => by
   have := pl_six hl nd fun q hq => (good_of_val hv q hq).2
   rw [hp] at this; cases this
  have : (match plP num 100001 5 S with
   | some (l, []) => if valS l = 0 then some l else none
   | _ => none) = (none : Option Layout) := by
   cases hq : plP num 100001 5 S with
   | none => rfl
   | some y =>
    obtain ⟨l, r⟩ := y
    cases r with
    | nil => exact if_neg (hu l hq)
    | cons c t => rfl
  rw [this]
  simp [h]
 | some y =>
  obtain ⟨l, r⟩ := y
  rw [hp] at h
  obtain ⟨k, hk, e, h⟩ := h
  by_cases hr : r = []
  ·subst hr
   have hkl : k = S.length := by
    have := congrArg List.length e
    rw [List.length_drop, List.length_nil] at this; omega
   have hu := pl_any (M := 100001) (by omega) hp nd
   obtain ⟨f1, f2, f3⟩ := fits_of_out (pl_out _ _ _ _ _ hu) hS
   have hv := f21 l f1 f2 f3
   rw [hu]
   by_cases hz : valS l = 0
   ·simp [h, hv, hz, ofL_size, hkl]
   ·simp [h, hv, hz, ofL_size, hkl]
  ·have hkl : ¬ (k : Int) = (S.length : Int) := by
    intro hh
    apply hr
    rw [e, List.drop_eq_nil_of_le (by omega)]
   have : (match plP num 100001 5 S with
    | some (l, []) => if valS l = 0 then some l else none
    | _ => none) = (none : Option Layout) := by
    cases hq : plP num 100001 5 S with
    | none => rfl
    | some y =>
     obtain ⟨l', r'⟩ := y
     cases r' with
     | nil =>
      refine if_neg fun hv => ?_
      have := pl_six hq nd fun q hq => (good_of_val hv q hq).2
      rw [hp] at this
      cases this; exact hr rfl
     | cons c t => rfl
   rw [this]
   simp [h, ofL_size, hkl]
theorem t10l (l : Layout) (hn : l.parts.length ≤ 9223372036854775807) (H : ∀ p ∈ l.parts, n_10 (p, p, ()) = some (true, ())) (k : Nat) : n_10l4 ((k : Int), l, l, ()) = some (.inr ()) := by
 rw [n_10l4]
 by_cases hlt : k < l.parts.length
 ·obtain ⟨p, hp, hm, hd, g1, g2⟩ := at_lt hlt
  have h1 : decide ((k : Int) < (l.parts.length : Int)) = true := by simp; omega
  have h2 : (0 : Int) ≤ (k : Int) := by omega
  simp only [h1, h2, hp, H p hm, wrap_succ hlt hn, Bool.not_true, Option.bind_eq_bind, Option.bind_some, Option.bind_none, eq_self, if_true, if_false, Bool.false_eq_true, Int.toNat_natCast]
  exact t10l l hn H (k + 1)
 ·have h1 : decide ((k : Int) < (l.parts.length : Int)) = false := by simp; omega
  simp only [h1, Option.bind_eq_bind, Option.bind_some, Option.bind_none, eq_self, if_true, if_false, Bool.false_eq_true, Int.toNat_natCast]
termination_by l.parts.length - k
theorem t10 : ∀ l : Layout, l.Fits → n_10 (l, l, ()) = some (true, ()) := by
 refine Layout.ind fun l ih hl => ?_
 have h := t10l l hl.len (fun p hp => ih p hp (hl.part hp)) 0
 have h : n_10l4 (0, l, l, ()) = some (.inr ()) := h
 rw [n_10]
 simp [h]
theorem read_spell {l : Layout} (h : valS l = 0) : readS l.spell = some l := by
 unfold readS
 have nd : noDig [] := fun c t e => by cases e
 have := pl_spell 100001 (by omega) 5 l (size_of_val h).2 (good_of_val h) [] nd
 rw [List.append_nil] at this
 rw [this]
 exact if_pos h
theorem read_some {S : List UInt8} {l : Layout} (h : readS S = some l) : valS l = 0 ∧ S = l.spell ∧ plP num 100001 5 S = some (l, []) := by
 unfold readS at h
 split at h
 ·rename_i l' hp
  split at h
  ·rename_i hv
   cases h
   refine ⟨hv, ?_, hp⟩
   have := (pl_out _ _ _ _ _ hp).txt
   rwa [List.append_nil] at this
  ·cases h
 ·cases h
theorem law3 (l : Layout) (s : ByteArray) (hl : l.Fits) : n_3 (l, s, ()) = some (true, ()) := by
 have hs := ofL_eta s
 generalize s.data.toList = S at hs
 subst hs
 unfold n_3
 simp only [f11 l hl, Option.bind_eq_bind, Option.bind_some]
 cases ho : overS l with
 | true => simp [t5]
 | false =>
  have hf := fine_of hl ho
  have hd := depth_le_all l
  by_cases hbig : S.length > 2000
  ·have : decide (((ofL S).size : Int) > 2000) = true := by rw [ofL_size]; simp; omega
   simp [this, t5]
  ·have hb : decide (((ofL S).size : Int) > 2000) = false := by rw [ofL_size]; simp; omega
   have hS : S.length ≤ 10000 := by omega
   have hall : l.all.length ≤ 10000 := hf.count
   have h6 := t6 hl hall (by omega)
   have h7 := t7 hl hall (by omega)
   have h8 := t8 hS
   have h9 := t9 hS
   have hback : valS l = 0 → n_8 (sp l, ()) = some (0, l, ()) := fun hv => by
    have h1 := spell_short hv
    have := t8 (S := l.spell) (by omega)
    rw [read_spell hv] at this
    exact this
   have h10l := t10 l hl
   cases hr : readS S with
   | none =>
    rw [hr] at h8 h9
    simp only at h8 h9
    have h10z : n_10 (Layout.mk 0 0 false [], Layout.mk 0 0 false [], ()) = some (true, ()) := t10 _ (by
     intro q hq
     simp [Layout.all, Layout.allL] at hq
     subst hq
     exact ⟨by decide, by decide, by decide⟩)
    by_cases hv : valS l = 0
    ·have hb8 := hback hv
     have ht : textS l = (sp l, 0) := if_pos hv
     have h0 : n_6 (Layout.mk 0 0 false [], ()) = some ((textS (Layout.mk 0 0 false [])).1, (textS (Layout.mk 0 0 false [])).2, ()) := t6 (by
      intro q hq
      simp [Layout.all, Layout.allL] at hq
      subst hq
      exact ⟨by decide, by decide, by decide⟩) (by decide) (by decide)
     rw [ht] at h6 h7
     simp [hb, h6, h7, h8, h9, h10z, hb8, h0, h10l, t5]
    ·have ht : textS l = (ofL [], valS l) := if_neg hv
     have h0 : n_6 (Layout.mk 0 0 false [], ()) = some ((textS (Layout.mk 0 0 false [])).1, (textS (Layout.mk 0 0 false [])).2, ()) := t6 (by
      intro q hq
      simp [Layout.all, Layout.allL] at hq
      subst hq
      exact ⟨by decide, by decide, by decide⟩) (by decide) (by decide)
     have h8e := t8 (S := []) (by decide)
     have hre : readS [] = none := rfl
     rw [hre] at h8e
     simp only at h8e
     rw [ht] at h6 h7
     simp [hb, h6, h7, h8, h9, h10z, h8e, h0, h10l, t5, hv]
   | some c =>
    rw [hr] at h8 h9
    simp only at h8 h9
    obtain ⟨hvc, hsc, hpc⟩ := read_some hr
    obtain ⟨f1, f2, f3⟩ := fits_of_out (pl_out _ _ _ _ _ hpc) hS
    have h10c := t10 c f1
    have h6c := t6 f1 f2 f3
    have htc : textS c = (sp c, 0) := if_pos hvc
    have hsp : sp c = ofL S := by unfold sp; rw [hsc]
    rw [htc, hsp] at h6c
    by_cases hv : valS l = 0
    ·have hb8 := hback hv
     have ht : textS l = (sp l, 0) := if_pos hv
     rw [ht] at h6 h7
     simp [hb, h6, h7, h8, h9, h10c, hb8, h6c, h10l, t5]
    ·have ht : textS l = (ofL [], valS l) := if_neg hv
     have h8e := t8 (S := []) (by decide)
     have hre : readS [] = none := rfl
     rw [hre] at h8e
     simp only at h8e
     rw [ht] at h6 h7
     simp [hb, h6, h7, h8, h9, h10c, h8e, h6c, h10l, t5, hv]
theorem ok_int64 {n : Int} (h : Ok vw (.int .i64) n) : -9223372036854775808 ≤ n ∧ n ≤ 9223372036854775807 := by
 cases h with
 | int h => simpa [Lit.wf, IntKind.min, IntKind.max, IntKind.signed, IntKind.bits] using h
theorem ok_sl {e : Ty SN} {xs : List (den NN e)} (h : Ok vw (.sl e) xs) : xs.length ≤ 9223372036854775807 ∧ ∀ x ∈ xs, Ok vw e x := by
 cases h with
 | sl h1 h2 =>
  have hmx : (maxLen : Nat) = 9223372036854775807 := by decide
  rw [hmx] at h1
  exact ⟨h1, h2⟩
theorem ok_st {i : SN} {x : NN i} (h : Ok vw (.st i) x) : ∀ l ∈ cellsN i x, Ok vw l.t l.x := by
 cases h with
 | st h => exact h
theorem fits_of_ok : ∀ l : Layout, Ok vw (.st .layoutT) l → l.Fits := by
 refine Layout.ind fun l ih h => ?_
 have hc := ok_st h
 have h0 := ok_int64 (hc ⟨.int .i64, l.kind⟩ (by simp [cellsN]))
 have h1 := ok_int64 (hc ⟨.int .i64, l.n⟩ (by simp [cellsN]))
 obtain ⟨h2, h3⟩ := ok_sl (hc ⟨.sl (.st .layoutT), l.parts⟩ (by simp [cellsN]))
 intro q hq
 rw [l.all_eq] at hq
 rcases List.mem_cons.1 hq with rfl | hq
 ·exact ⟨h0, h1, h2⟩
 ·have : ∀ ps : List Layout, (∀ p ∈ ps, p.Fits) → q ∈ Layout.allL ps → q.fit := by
   intro ps
   induction ps with
   | nil => intro _ hq; simp [Layout.allL] at hq
   | cons p r ihr =>
    intro hp hq
    rw [Layout.allL, List.mem_append] at hq
    rcases hq with hq | hq
    ·exact hp p List.mem_cons_self q hq
    ·exact ihr (fun p' hp' => hp p' (List.mem_cons_of_mem _ hp')) hq
  exact this l.parts (fun p hp => ih p hp (h3 p hp)) hq
theorem layTexts_true (l : Layout) (s : ByteArray) (h0 : Ok vw (.st .layoutT) l) (h1 : Ok vw .str s) : n_3 (l, s, ()) = some (true, ()) := law3 l s (fits_of_ok l h0)
end Go.Proofs.YtogoamfegaebgaaGreatDoor
end
section
namespace Go.Proofs.YtogoamfegaebgaaGreatDoor.layTexts
open Go.ChangeShapes Go.WideShapes Go.ChangeAt Go.RowKit Go.Awp Go.Tx
open Go.Proofs.Tryz (prog)
theorem laidOut : laidOutB prog = true := by kernel_rfl
theorem own : ownKnob prog.godebug = none := by kernel_rfl
theorem contract (x0 : Layout) (x1 : ByteArray) (h0 : Ok vw (.st .layoutT) x0) (h1 : Ok vw .str x1) : FnOk prog 3 [.d (encD szN encN (.st .layoutT) x0), .d (encD szN encN .str x1)] [] (.d (.v (.bool true))) [] :=
 kcast (by kernel_rfl) (n_3_ok (x0, x1, ()) (true, ()) (.lf .bool true) (layTexts_true x0 x1 h0 h1) rfl)
set_option maxRecDepth 100000 in
theorem lifted (os : Os) (started : os.Started) (H : Type) (enc : TypeId × Value → H) :
  ReturnsInHanded {} Tryz.checked os 3 .any (fun w args => (Rows.layTextsSpec.pre enc prog Tryz.f3 Rows.layTextsRow.domain false w args ∧ laidMetH prog Rows.layTextsRow.laid w) ∧ sizedMet enc prog Tryz.f3 (OpenSpec.ofChange Rows.layTextsSpec) false w args)
   (Rows.layTextsSpec.post enc prog Tryz.f3 false true false false) := by
 refine returnsInHanded_of_change_and (C := Tryz.checked) (X := fun w _ => laidMetH prog Rows.layTextsRow.laid w) (fun _ _ _ hh h => h.of_heap hh) own started (by kernel_rfl) Tryz.func3
  (ChangeSpec.witness_shaped (enc := enc) (C := Tryz.checked) (os := os) (X := fun w _ => laidMetH prog Rows.layTextsRow.laid w) false (World.laidAll prog os Rows.layTextsRow.laid) #[.agg #[.int .i64 0, .int .i64 0, .bool false, .slice none 0 0], .string ByteArray.empty] 8 (World.laidAll_os _ _ _)
    (World.shaped_of_ZipB (by kernel_rfl) (by kernel_rfl)) (by kernel_rfl) (by kernel_rfl) (by kernel_rfl)
    (by rw [MakeChecks.laidMetH_plain _ _ _ (by kernel_rfl)]; exact laidMet_laidAll _ (by kernel_rfl) (by kernel_rfl))) ?_
 intro W base args ds gs before hval0 hW hcnd _ hL _
 have hval : ∀ (j : Nat) t v, Tryz.f3.params[j]? = some t → args[j]? = some v → Value.okWide prog W .any base t v := hval0
 have hW' := hW
 obtain ⟨p, q, hA0, hV, rfl, hfz, hnd⟩ := hW'
 have hA : DataW.TrodAll enc prog W 0 (fun _ => true) true Tryz.f3.params.toList args.toList ds p := hA0
 rw [Tryz.params3] at hA hval
 obtain ⟨v0, vs0, d0, ds0, p0, q0, ha0, rfl, rfl, h0, r0⟩ := trodAll_cons hA
 obtain ⟨v1, vs1, d1, ds1, p1, q1, ha1, rfl, rfl, h1, r1⟩ := trodAll_cons r0
 subst ha1
 obtain ⟨rfl, rfl, rfl⟩ := trodAll_nil r1
 obtain rfl : args = #[v0, v1] := by cases args; simp_all
 obtain ⟨rfl, rfl⟩ := trodVars_none hV
 have hlt0 : ∀ x ∈ p0, x.block < W.heap.size := fun x hx => by simpa using hW.lt x (by simp [hx])
 have hlt1 : ∀ x ∈ p1, x.block < W.heap.size := fun x hx => by simpa using hW.lt x (by simp [hx])
 obtain ⟨x0, ok0, hr0⟩ := open_val facts (τ := (.st .layoutT)) rfl (hval 0 24 v0 rfl rfl) h0
 obtain ⟨x1, ok1, hr1⟩ := open_val facts (τ := .str) rfl (hval 1 9 v1 rfl rfl) h1
 refine ((contract x0 x1 ok0 ok1).closed (W := W) (vs := #[v0, v1]) (gmem_laid hL) ⟨rfl, fun i c x hc hx => ?_⟩).mono fun e W' ⟨he, hb⟩ => ?_
 ·match i with
  | 0 => simp at hc hx; subst hc; subst hx; exact .d hr0
  | 1 => simp at hc hx; subst hc; subst hx; exact .d hr1
  | i + 2 => simp at hc
 subst he
 exact ⟨_, rfl, _, _, _, [], _, [], hW, trodAll_cons_mk (shut_bool Tryz.underlying4 _) trodAll_mk0,
  (trodAll_cons_mk (Below.trod laidOut (by kernel_rfl) (of_decide_eq_true (by kernel_rfl)) h0 hb hlt0) (trodAll_cons_mk (Below.trod laidOut (by kernel_rfl) (of_decide_eq_true (by kernel_rfl)) h1 hb hlt1) trodAll_mk0)), rfl, hb.frame _, (fun h => by cases h)⟩
theorem row : Rows.LayTextsSaid :=
 OpenClaim.holds_of_wide 3 Tryz.f3 rfl rfl rfl rfl rfl rfl rfl ⟨rfl, rfl, rfl, rfl, rfl⟩ rfl rfl rfl rfl rfl (by kernel_rfl) Tryz.func3 (by kernel_rfl)
  (of_decide_eq_true (by kernel_rfl)) (by unfold Func.isWrapper; first | (rw [if_pos (by decide +kernel)]; kernel_rfl) | (rw [if_neg (by decide +kernel)]; exact ⟨rfl, rfl⟩))
  (fun os started H enc _ => lifted os started H enc)
theorem proved : Rows.LayTextsCardSaid :=
 Claim7.holds_tied_plain_at .later [] [.data, .data, .data, .data, .sentinel, .sentinel, .pinned] true (true, "249c0dbd8a667e4ce2efecfcb0f7ddf336bea8f2379eebc81cf72f45d41caec2") true row (fun _ h => by cases h) (by kernel_rfl) (fun _ h => by cases h) layTexts_row_tie rfl ⟨rfl, rfl⟩ (by kernel_rfl) rfl
  (fun f fn hf hfn => by
    obtain rfl : f = 3 := Option.some.inj ((show prog.funcNamed "mandrel/mandrellaw05.LayTexts" = some 3 by kernel_rfl).symm.trans hf) |>.symm
    obtain rfl : fn = Tryz.f3 := (Option.some.inj (Tryz.func3.symm.trans hfn)).symm
    exact ⟨by kernel_rfl, fun j t ht => by
     rw [Tryz.params3] at ht
     have hm : t ∈ ([24, 9] : List TypeId) := by simpa using Array.mem_of_getElem? ht
     have hall : (([24, 9] : List TypeId).all fun u => !prog.wantsStandIn u) = true := by kernel_rfl
     exact (show prog.wantsStandIn t = false by simpa using List.all_eq_true.1 hall t hm)⟩)
  (by kernel_rfl)
end Go.Proofs.YtogoamfegaebgaaGreatDoor.layTexts
end
