/-
  What the functions on layouts compute: what is right, Validate on both sides.
-/
import Derived.Test.YtdknkfioigcfiaaLwG
namespace Go.Proofs.Ytdknkfioigcfiaa
set_option linter.unusedSimpArgs false
set_option linter.unusedVariables false
set_option maxRecDepth 20000

theorem f62 (n lo hi : Int) : n_62 (n, lo, hi, ()) = some (decide (lo ≤ n ∧ n ≤ hi), ()) := by
  by_cases h1 : n ≥ lo <;> simp [n_62, h1]

theorem f76 (l : Layout) : n_76 (l, ()) = some (partsS l, ()) := by
  unfold n_76 partsS
  by_cases h4 : l.kind = 4
  · simp [h4]
  by_cases h5 : l.kind = 5
  · simp [h5]
  by_cases h6 : l.kind = 6
  · simp [h6]
  by_cases h9 : l.kind = 9
  · simp [h9]
  by_cases h8 : l.kind = 8
  · simp [h8]
  · simp [h4, h5, h6, h9, h8]

theorem f51 (k : Int) : n_51 (k, ()) = some (greatS k, ()) := by
  simp only [n_51, greatS, beq_iff_eq]; (repeat' split) <;> simp_all

theorem f53l (l : Layout) (hn : l.parts.length ≤ 9223372036854775807) (k : Nat) : n_53l11 (k, l, ()) = some (if (l.parts.drop k).all bitty = true then .inr (l, ()) else .inl (false, ())) := by
  rw [n_53l11]
  by_cases hlt : k < l.parts.length
  · obtain ⟨p, hp, hm, hd, g1, g2⟩ := at_lt hlt
    rw [hd, List.all_cons]
    by_cases q1 : p.kind = 1
    · have hb : bitty p = true := by simp [bitty, q1]
      have q1' : (p.kind != 1) = false := by simp [q1]
      simp only [Option.bind_eq_bind, Option.bind_some, Option.bind_none, if_true, if_false, Bool.false_eq_true, Bool.true_eq_false, Int.toNat_natCast, Int.natCast_nonneg, beq_iff_eq, decide_eq_true_eq, Int.ofNat_lt, g1, g2, hlt, hp, q1', wrap_succ hlt hn, hb, Bool.true_and]
      exact f53l l hn (k + 1)
    · have q1' : (p.kind != 1) = true := by simp [q1]
      by_cases q2 : p.kind = 2
      · have hb : bitty p = true := by simp [bitty, q2]
        have q2' : (p.kind != 2) = false := by simp [q2]
        simp only [Option.bind_eq_bind, Option.bind_some, Option.bind_none, if_true, if_false, Bool.false_eq_true, Bool.true_eq_false, Int.toNat_natCast, Int.natCast_nonneg, beq_iff_eq, decide_eq_true_eq, Int.ofNat_lt, g1, g2, hlt, hp, q1', q2', wrap_succ hlt hn, hb, Bool.true_and]
        exact f53l l hn (k + 1)
      · have hb : bitty p = false := by simp [bitty, q1, q2]
        have q2' : (p.kind != 2) = true := by simp [q2]
        simp only [Option.bind_eq_bind, Option.bind_some, Option.bind_none, if_true, if_false, Bool.false_eq_true, Bool.true_eq_false, Int.toNat_natCast, Int.natCast_nonneg, beq_iff_eq, decide_eq_true_eq, Int.ofNat_lt, g1, g2, hlt, hp, q1', q2', wrap_succ hlt hn, hb, Bool.false_and]
  · obtain ⟨hd, g1⟩ := at_end hlt
    simp only [Option.bind_eq_bind, Option.bind_some, Option.bind_none, if_true, if_false, Bool.false_eq_true, Bool.true_eq_false, Int.toNat_natCast, Int.natCast_nonneg, beq_iff_eq, decide_eq_true_eq, Int.ofNat_lt, hlt, hd, List.all_nil]
termination_by l.parts.length - k

theorem f53 (l : Layout) (hn : l.parts.length ≤ 9223372036854775807) : n_53 (l, ()) = some (l.isS, ()) := by
  have h := f53l l hn 0
  simp only [Int.natCast_zero, Int.ofNat_eq_natCast, List.drop_zero] at h
  unfold n_53 Layout.isS
  simp only [f62, f76, Option.bind_eq_bind, Option.bind_some, Option.bind_none, if_true, if_false, Bool.false_eq_true, Bool.true_eq_false, Int.toNat_natCast, Int.natCast_nonneg, beq_iff_eq, decide_eq_true_eq, Int.ofNat_lt]
  by_cases h1 : 0 ≤ l.kind ∧ l.kind ≤ 9
  · cases h2 : partsS l
    · simp [h1, h2]
    · have e : (l.flag && l.kind != 2) = (if l.flag = true then (l.kind != 2) else false) := by cases l.flag <;> simp
      cases h3 : (l.flag && l.kind != 2)
      · have h3' : (if l.flag = true then some (l.kind != 2, l, ()) else some (false, l, ())) = some (false, l, ()) := by
          rw [e] at h3; cases hf : l.flag <;> simp_all
        simp only [h1, and_self, decide_true, Bool.not_true, Bool.false_eq_true, if_false, Option.bind_some, h3', Bool.not_false, Bool.and_self, Bool.true_and]
        unfold numS
        by_cases k2 : l.kind = 2
        · simp [k2]
        by_cases k7 : l.kind = 7
        · simp [k7]
        by_cases k5 : l.kind = 5
        · simp [k5]
        by_cases k9 : l.kind = 9
        · simp only [k9]
          simp [h]
          cases hb : l.parts.all bitty
          · have hb' : ¬ ∀ x ∈ l.parts, bitty x = true := by rw [← List.all_eq_true, hb]; simp
            simp [hb']
          · have hb' : ∀ x ∈ l.parts, bitty x = true := List.all_eq_true.1 hb
            rw [if_pos hb']; simp
        · simp [k2, k7, k5, k9]
      · have h3' : (if l.flag = true then some (l.kind != 2, l, ()) else some (false, l, ())) = some (true, l, ()) := by
          rw [e] at h3; cases hf : l.flag <;> simp_all
        simp [h1, h3']
  · simp [h1]

/-- The number of the first part with a property. -/
theorem fidx (F : (List Layout × Int × Int × Unit) → Option ((Int × Unit) ⊕ Unit)) (g : Layout × Unit → Option (Bool × Unit)) (pred : Layout → Bool) (ps : List Layout) (hn : ps.length ≤ 9223372036854775807)
    (hg : ∀ p ∈ ps, g (p, ()) = some (pred p, ()))
    (hF : ∀ v, F v = (if decide (v.snd.snd.fst < v.snd.fst) = true then
      if (0 : Int) ≤ v.snd.snd.fst then
        v.fst[v.snd.snd.fst.toNat]? >>= fun x1 =>
        g (x1, ()) >>= fun x2 =>
        if x2.fst = true then some (Sum.inl (v.snd.snd.fst, ()))
        else F (v.fst, v.snd.fst, IntKind.i64.wrap (v.snd.snd.fst + (1 : Int)), ())
      else none
    else some (Sum.inr ()))) (k : Nat) :
    F (ps, ps.length, k, ()) = some (if idxS pred (ps.drop k) k = -1 then .inr () else .inl (idxS pred (ps.drop k) k, ())) := by
  rw [hF]
  by_cases hlt : k < ps.length
  · obtain ⟨p, hp, hm, hd, g1, g2⟩ := at_lt hlt
    rw [hd, idxS]
    cases hq : pred p
    · simp only [Option.bind_eq_bind, Option.bind_some, Option.bind_none, if_true, if_false, Bool.false_eq_true, Bool.true_eq_false, Int.toNat_natCast, Int.natCast_nonneg, beq_iff_eq, decide_eq_true_eq, Int.ofNat_lt, g1, g2, hlt, hp, hg p hm, hq, wrap_succ hlt hn]
      rw [fidx F g pred ps hn hg hF (k + 1)]
      simp
    · have : ¬ ((k : Int) = -1) := by omega
      simp only [Option.bind_eq_bind, Option.bind_some, Option.bind_none, if_true, if_false, Bool.false_eq_true, Bool.true_eq_false, Int.toNat_natCast, Int.natCast_nonneg, beq_iff_eq, decide_eq_true_eq, Int.ofNat_lt, g1, g2, hlt, hp, hg p hm, hq, this]
  · obtain ⟨hd, g1⟩ := at_end hlt
    simp only [Option.bind_eq_bind, Option.bind_some, Option.bind_none, if_true, if_false, Bool.false_eq_true, Bool.true_eq_false, Int.toNat_natCast, Int.natCast_nonneg, beq_iff_eq, decide_eq_true_eq, Int.ofNat_lt, hlt, hd, idxS]
termination_by ps.length - k

theorem idx_any {pred : Layout → Bool} {ps : List Layout} (h : idxS pred ps 0 = -1) : ps.any pred = false := by
  rw [← idxS_any pred ps 0 (by omega), h]; rfl
theorem idxS_or : ∀ (pred : Layout → Bool) (ps : List Layout) (k : Int), 0 ≤ k → idxS pred ps k = -1 ∨ 0 ≤ idxS pred ps k
  | pred, [], k, h => .inl rfl
  | pred, p :: r, k, h => by
    rw [idxS]; split
    · exact .inr h
    · exact idxS_or pred r (k + 1) (by omega)
theorem idx_any' {pred : Layout → Bool} {ps : List Layout} (h : idxS pred ps 0 ≠ -1) : ps.any pred = true := by
  rw [← idxS_any pred ps 0 (by omega)]
  have := idxS_or pred ps 0 (by omega)
  simp; omega

theorem f74 (p : Layout) : n_74 (p, ()) = some (!bitty p, ()) := by
  unfold n_74 bitty
  by_cases h1 : p.kind = 1
  · simp [h1]
  · have : (p.kind == 1) = false := by simp [h1]
    simp [h1, this]
    rfl

theorem f73a (ps : List Layout) (hn : ps.length ≤ 9223372036854775807) : n_73c74 (ps, ()) = some (ps.any fun p => !bitty p, ()) := by
  have h := fidx n_80c74l2 n_74 (fun p => !bitty p) ps hn (fun p _ => f74 p) (fun v => by rw [n_80c74l2]) 0
  simp only [Int.natCast_zero, Int.ofNat_eq_natCast, List.drop_zero] at h
  have h2 : n_80c74 (ps, ()) = some (idxS (fun p => !bitty p) ps 0, ()) := by
    unfold n_80c74
    simp only [h, Option.bind_eq_bind, Option.bind_some, Option.bind_none, if_true, if_false, Bool.false_eq_true, Bool.true_eq_false, Int.toNat_natCast, Int.natCast_nonneg, beq_iff_eq, decide_eq_true_eq, Int.ofNat_lt]
    by_cases hi : idxS (fun p => !bitty p) ps 0 = -1 <;> simp [hi]
  unfold n_73c74
  simp only [h2, Option.bind_eq_bind, Option.bind_some, Option.bind_none, if_true, if_false, Bool.false_eq_true, Bool.true_eq_false, Int.toNat_natCast, Int.natCast_nonneg, beq_iff_eq, decide_eq_true_eq, Int.ofNat_lt, idxS_any _ ps 0 (Int.le_refl 0)]

theorem f49 : ∀ (l : Layout), l.Fits → n_49 (l, ()) = some (l.right, ()) := by
  refine Layout.ind fun l ih hl => ?_
  have hn := hl.len
  have h := fidx n_80c75l2 n_75 (fun p => !p.right) l.parts hn (fun p hp => by rw [n_75]; simp only [ih p hp (hl.part hp), Option.bind_eq_bind, Option.bind_some, Option.bind_none, if_true, if_false, Bool.false_eq_true, Bool.true_eq_false, Int.toNat_natCast, Int.natCast_nonneg, beq_iff_eq, decide_eq_true_eq, Int.ofNat_lt]) (fun v => by rw [n_80c75l2]) 0
  simp only [Int.natCast_zero, Int.ofNat_eq_natCast, List.drop_zero] at h
  have h2 : n_80c75 (l.parts, ()) = some (idxS (fun p => !p.right) l.parts 0, ()) := by
    rw [n_80c75]
    simp only [h, Option.bind_eq_bind, Option.bind_some, Option.bind_none, if_true, if_false, Bool.false_eq_true, Bool.true_eq_false, Int.toNat_natCast, Int.natCast_nonneg, beq_iff_eq, decide_eq_true_eq, Int.ofNat_lt]
    by_cases hi : idxS (fun p => !p.right) l.parts 0 = -1 <;> simp [hi]
  have h75 : n_73c75 (l.parts, ()) = some (l.parts.any fun p => !p.right, ()) := by
    rw [n_73c75]
    simp only [h2, Option.bind_eq_bind, Option.bind_some, Option.bind_none, if_true, if_false, Bool.false_eq_true, Bool.true_eq_false, Int.toNat_natCast, Int.natCast_nonneg, beq_iff_eq, decide_eq_true_eq, Int.ofNat_lt, idxS_any _ l.parts 0 (Int.le_refl 0)]
  have h74 := f73a l.parts hn
  have he : ((l.parts.any fun p => !p.right)) = !(l.parts.all Layout.right) := by rw [List.not_all_eq_any_not]
  rw [he] at h75
  -- by kinds
  have key : 0 ≤ l.kind ∧ l.kind ≤ 9 → n_49 (l, ()) = some ((nbS l && !((l.parts.length : Int) != pcS l) && !(l.flag && l.kind != 2) && !(l.kind == 9 && l.parts.any fun p => !bitty p)) && l.parts.all Layout.right, ()) := by
    intro hk
    have hk' : l.kind = 0 ∨ l.kind = 1 ∨ l.kind = 2 ∨ l.kind = 3 ∨ l.kind = 4 ∨ l.kind = 5 ∨ l.kind = 6 ∨ l.kind = 7 ∨ l.kind = 8 ∨ l.kind = 9 := by omega
    rw [n_49]
    unfold nbS pcS
    generalize l.parts.all Layout.right = ar at h75 ⊢
    generalize (l.parts.any fun p => !bitty p) = ab at h74 ⊢
    rcases hk' with h0 | h0 | h0 | h0 | h0 | h0 | h0 | h0 | h0 | h0
    · cases hf : l.flag <;> by_cases hn0 : l.n = 0 <;> by_cases hp : l.parts = [] <;> cases ar <;> (try rw [hp] at h75) <;> simp [h0, hf, hn0, hp, h75]
    · cases hf : l.flag <;> by_cases hn0 : l.n = 0 <;> by_cases hp : l.parts = [] <;> cases ar <;> (try rw [hp] at h75) <;> simp [h0, hf, hn0, hp, h75]
    · cases hf : l.flag <;> by_cases hn0 : 1 ≤ l.n <;> by_cases hp : l.parts = [] <;> cases ar <;> (try rw [hp] at h75) <;> simp [h0, hf, hn0, hp, h75]
    · cases hf : l.flag <;> by_cases hn0 : l.n = 0 <;> by_cases hp : l.parts = [] <;> cases ar <;> (try rw [hp] at h75) <;> simp [h0, hf, hn0, hp, h75]
    · cases hf : l.flag <;> by_cases hn0 : l.n = 0 <;> by_cases hp : (l.parts.length : Int) = 1 <;> cases ar <;> simp [h0, hf, hn0, hp, h75]
    · cases hf : l.flag <;> by_cases hn0 : 0 ≤ l.n <;> by_cases hp : (l.parts.length : Int) = 1 <;> cases ar <;> simp [h0, hf, hn0, hp, h75]
    · cases hf : l.flag <;> by_cases hn0 : l.n = 0 <;> cases ar <;> simp [h0, hf, hn0, h75]
    · cases hf : l.flag <;> by_cases hn0 : 1 ≤ l.n <;> by_cases hp : l.parts = [] <;> cases ar <;> (try rw [hp] at h75) <;> simp [h0, hf, hn0, hp, h75]
    · cases hf : l.flag <;> by_cases hn0 : l.n = 0 <;> by_cases hp : (l.parts.length : Int) < 1 <;> cases ar <;> simp [h0, hf, hn0, hp, h75] <;> omega
    · cases hf : l.flag <;> by_cases hn0 : l.n = 0 <;> cases ab <;> cases ar <;> simp [h0, hf, hn0, h75, h74]
  rw [l.right_eq]
  by_cases hk : 0 ≤ l.kind ∧ l.kind ≤ 9
  · rw [key hk, isS_eq l hk]
  · have hf : l.isS = false := by unfold Layout.isS; simp [hk]
    have h0 : ¬ l.kind = 0 := by omega
    have h1 : ¬ l.kind = 1 := by omega
    have h2 : ¬ l.kind = 2 := by omega
    have h3 : ¬ l.kind = 3 := by omega
    have h4 : ¬ l.kind = 4 := by omega
    have h5 : ¬ l.kind = 5 := by omega
    have h6 : ¬ l.kind = 6 := by omega
    have h7 : ¬ l.kind = 7 := by omega
    have h8 : ¬ l.kind = 8 := by omega
    have h9 : ¬ l.kind = 9 := by omega
    rw [n_49, hf]
    simp [h0, h1, h2, h3, h4, h5, h6, h7, h8, h9]

theorem f20 (l : Layout) (hl : l.Fits) (hs : l.all.length ≤ 10000) (hd : l.depth ≤ 10000) : n_20 (l, ()) = some (valS l, ()) := by
  have h := f45 l 1 0 0 false hl (by omega) (by omega) (by omega) (by omega)
  unfold n_20
  simp only [h, Option.bind_eq_bind, Option.bind_some, Option.bind_none, if_true, if_false, Bool.false_eq_true, Bool.true_eq_false, Int.toNat_natCast, Int.natCast_nonneg, beq_iff_eq, decide_eq_true_eq, Int.ofNat_lt]
  have hlarge := look_large l
  have : (cntS (l.look 1 0 0 false)).large = l.large := hlarge
  rw [this]
  unfold valS
  cases hg : l.large with
  | true => simp
  | false =>
    simp only [Option.bind_eq_bind, Option.bind_some, Option.bind_none, if_true, if_false, Bool.false_eq_true, Bool.true_eq_false, Int.toNat_natCast, Int.natCast_nonneg, beq_iff_eq, decide_eq_true_eq, Int.ofNat_lt, f48 l hl (arr_of_large hg), f49 l hl, Bool.false_or]
    by_cases hcl : l.cells > 4096
    · have e1 : min far l.cells > 4096 := by simp [far]; omega
      simp [hcl, e1]
    · have e1 : ¬ (min far l.cells > 4096) := by simp [far]; omega
      cases hr : l.right <;> simp [hcl, e1]

theorem f21l (l : Layout) (hl : l.Fits) (qs : List Layout) (hq : ∀ q ∈ qs, q ∈ l.all) (hn : qs.length ≤ 9223372036854775807) (k : Nat) : n_21l5 (qs, k, ()) = some (if (qs.drop k).any Layout.big = true then .inl (3, ()) else .inr (qs, ())) := by
  rw [n_21l5]
  by_cases hlt : k < qs.length
  · obtain ⟨p, hp, hm, hd, g1, g2⟩ := at_lt hlt
    have hpf := hl.mem (hq p hm)
    have hbe := bigR_eq p (hl p (hq p hm))
    rw [hd, List.any_cons, ← hbe]
    simp only [Option.bind_eq_bind, Option.bind_some, Option.bind_none, if_true, if_false, Bool.false_eq_true, Bool.true_eq_false, Int.toNat_natCast, Int.natCast_nonneg, beq_iff_eq, decide_eq_true_eq, Int.ofNat_lt, g1, g2, hlt, hp, f51, f52 p hpf.len]
    by_cases h1 : (p.parts.length : Int) > 12
    · have hb : bigR p = true := by unfold bigR; simp [h1]
      simp only [h1, Option.bind_eq_bind, Option.bind_some, Option.bind_none, if_true, if_false, Bool.false_eq_true, Bool.true_eq_false, Int.toNat_natCast, Int.natCast_nonneg, beq_iff_eq, decide_eq_true_eq, Int.ofNat_lt, hb, Bool.true_or]
    by_cases h2 : p.n > greatS p.kind
    · have hb : bigR p = true := by unfold bigR; simp [h2]
      simp only [h1, h2, Option.bind_eq_bind, Option.bind_some, Option.bind_none, if_true, if_false, Bool.false_eq_true, Bool.true_eq_false, Int.toNat_natCast, Int.natCast_nonneg, beq_iff_eq, decide_eq_true_eq, Int.ofNat_lt, hb, Bool.true_or]
    by_cases h3 : p.kind = 9
    · by_cases h4 : satBits p.parts > 64
      · have hb : bigR p = true := by unfold bigR; simp [h3, h4]
        simp only [h1, h2, h3, h4, Option.bind_eq_bind, Option.bind_some, Option.bind_none, if_true, if_false, Bool.false_eq_true, Bool.true_eq_false, Int.toNat_natCast, Int.natCast_nonneg, beq_iff_eq, decide_eq_true_eq, Int.ofNat_lt, hb, Bool.true_or, decide_true]
        simp only [h3] at h2
        simp [h2]
      · have hb : bigR p = false := by unfold bigR; simp [h1, h2, h4]
        have ih := f21l l hl qs hq hn (k + 1)
        simp only [h1, h2, h4, Option.bind_eq_bind, Option.bind_some, Option.bind_none, if_true, if_false, Bool.false_eq_true, Bool.true_eq_false, Int.toNat_natCast, Int.natCast_nonneg, beq_iff_eq, decide_eq_true_eq, Int.ofNat_lt, hb, Bool.false_or, decide_false, wrap_succ hlt hn]
        rw [if_pos h3]
        simp only [Option.bind_eq_bind, Option.bind_some, Option.bind_none, if_true, if_false, Bool.false_eq_true, Bool.true_eq_false, Int.toNat_natCast, Int.natCast_nonneg, beq_iff_eq, decide_eq_true_eq, Int.ofNat_lt, wrap_succ hlt hn]
        exact ih
    · have hb : bigR p = false := by unfold bigR; simp [h1, h2, h3]
      simp only [h1, h2, h3, Option.bind_eq_bind, Option.bind_some, Option.bind_none, if_true, if_false, Bool.false_eq_true, Bool.true_eq_false, Int.toNat_natCast, Int.natCast_nonneg, beq_iff_eq, decide_eq_true_eq, Int.ofNat_lt, hb, Bool.false_or, decide_false, wrap_succ hlt hn]
      exact f21l l hl qs hq hn (k + 1)
  · obtain ⟨hd, g1⟩ := at_end hlt
    simp only [Option.bind_eq_bind, Option.bind_some, Option.bind_none, if_true, if_false, Bool.false_eq_true, Bool.true_eq_false, Int.toNat_natCast, Int.natCast_nonneg, beq_iff_eq, decide_eq_true_eq, Int.ofNat_lt, hlt, hd, List.any_nil]
termination_by qs.length - k

theorem f21m (l : Layout) (hl : l.Fits) (qs : List Layout) (hq : ∀ q ∈ qs, q ∈ l.all) (hn : qs.length ≤ 9223372036854775807) (k : Nat) : n_21l11 (qs, k, ()) = some (if (qs.drop k).all Layout.isS = true then .inr () else .inl (1, ())) := by
  rw [n_21l11]
  by_cases hlt : k < qs.length
  · obtain ⟨p, hp, hm, hd, g1, g2⟩ := at_lt hlt
    have hpf := hl.mem (hq p hm)
    rw [hd, List.all_cons]
    simp only [Option.bind_eq_bind, Option.bind_some, Option.bind_none, if_true, if_false, Bool.false_eq_true, Bool.true_eq_false, Int.toNat_natCast, Int.natCast_nonneg, beq_iff_eq, decide_eq_true_eq, Int.ofNat_lt, g1, g2, hlt, hp, f53 p hpf.len]
    cases hi : p.isS
    · simp
    · simp only [Option.bind_eq_bind, Option.bind_some, Option.bind_none, if_true, if_false, Bool.false_eq_true, Bool.true_eq_false, Int.toNat_natCast, Int.natCast_nonneg, beq_iff_eq, decide_eq_true_eq, Int.ofNat_lt, Bool.not_true, Bool.true_and, wrap_succ hlt hn]
      exact f21m l hl qs hq hn (k + 1)
  · obtain ⟨hd, g1⟩ := at_end hlt
    simp only [Option.bind_eq_bind, Option.bind_some, Option.bind_none, if_true, if_false, Bool.false_eq_true, Bool.true_eq_false, Int.toNat_natCast, Int.natCast_nonneg, beq_iff_eq, decide_eq_true_eq, Int.ofNat_lt, hlt, hd, List.all_nil]
termination_by qs.length - k

theorem f21 (l : Layout) (hl : l.Fits) (hs : l.all.length ≤ 10000) (hd : l.depth ≤ 10000) : n_21 (l, ()) = some (valS l, ()) := by
  unfold n_21
  have a := f21l l hl l.all (fun q h => h) (by omega) 0
  have b := f21m l hl l.all (fun q h => h) (by omega) 0
  simp only [Int.natCast_zero, Int.ofNat_eq_natCast, List.drop_zero] at a b
  simp only [Option.bind_eq_bind, Option.bind_some, Option.bind_none, if_true, if_false, Bool.false_eq_true, Bool.true_eq_false, Int.toNat_natCast, Int.natCast_nonneg, beq_iff_eq, decide_eq_true_eq, Int.ofNat_lt, f46 l hl (by omega), f47 l hl (by omega), f50 l hl]
  by_cases h1 : (l.all.length : Int) > 60
  · have : valS l = 3 := by unfold valS Layout.large; simp; omega
    simp [h1, this]
  by_cases h2 : (l.depth : Int) > 5
  · have : valS l = 3 := by unfold valS Layout.large; simp; omega
    simp [h1, h2, this]
  by_cases h3 : l.cells > 4096
  · have : valS l = 3 := by unfold valS; simp [h3]
    have e1 : min 100000 l.cells > 4096 := by omega
    simp [h1, h2, e1, this]
  have e1 : ¬ min 100000 l.cells > 4096 := by omega
  have hval : valS l = if l.all.any Layout.big = true then 3 else if l.right = true then 0 else 1 := by
    unfold valS Layout.large
    rw [decide_eq_false (by omega), decide_eq_false (by omega), decide_eq_false (by omega)]; simp
  simp only [h1, h2, e1, Option.bind_eq_bind, Option.bind_some, Option.bind_none, if_true, if_false, Bool.false_eq_true, Bool.true_eq_false, Int.toNat_natCast, Int.natCast_nonneg, beq_iff_eq, decide_eq_true_eq, Int.ofNat_lt, a, hval, decide_false]
  cases hb : l.all.any Layout.big
  · simp only [Option.bind_eq_bind, Option.bind_some, Option.bind_none, if_true, if_false, Bool.false_eq_true, Bool.true_eq_false, Int.toNat_natCast, Int.natCast_nonneg, beq_iff_eq, decide_eq_true_eq, Int.ofNat_lt, b]
    have hr : l.right = l.all.all Layout.isS := rfl
    rw [hr]
    cases hi : l.all.all Layout.isS <;> simp
  · simp

end Go.Proofs.Ytdknkfioigcfiaa
