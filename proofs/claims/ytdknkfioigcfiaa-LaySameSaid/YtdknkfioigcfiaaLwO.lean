/-
  The law LayOrders in plain Lean: falling alignments leave no holes.
-/
import Derived.Test.YtdknkfioigcfiaaLwN
namespace Go.Proofs.Ytdknkfioigcfiaa
set_option linter.unusedSimpArgs false
set_option linter.unusedVariables false
set_option maxRecDepth 20000

/-- Sizes are multiples of alignments. -/
theorem of_mul {w : Int} (hw : w = 2 ∨ w = 4 ∨ w = 8) : ∀ l : Layout, l.Val w → (l.of w).2 ∣ (l.of w).1 := by
  refine Layout.ind fun l ih hv => ?_
  have hpw : pow8 w := by unfold pow8; omega
  obtain ⟨k0, k12, k2, k4, k5, k7, k8, k9⟩ := right_kind hv.isS hv.small
  have hd : ((Layout.ofL w l.parts).headD (0, 1)).2 ∣ ((Layout.ofL w l.parts).headD (0, 1)).1 := by
    cases hp : l.parts with
    | nil => exact Int.dvd_zero _
    | cons p r =>
      simp only [Layout.ofL, List.headD_cons]
      exact ih p (by rw [hp]; exact List.mem_cons_self) (hv.part (by rw [hp]; exact List.mem_cons_self))
  have pd : ∀ {a b : Int}, pow8 a → pow8 b → a ≤ b → a ∣ b := fun ha hb h => Int.dvd_of_tmod_eq_zero (pow_mod ha hb h)
  have ud : ∀ {n m : Int}, m ∣ upS n m := fun {n m} => Int.dvd_mul_left _ _
  rw [l.of_eq]
  unfold ofS
  split
  · exact Int.dvd_zero _
  split
  · exact Int.dvd_refl _
  split
  · rename_i hk
    have := whole_pow (k2 hk).1
    have e : max 1 (wholeS l.n) = wholeS l.n := by unfold pow8 at this; omega
    simp only [e]
    exact pd (pow_min this hpw) this (by omega)
  split
  · exact Int.dvd_refl _
  split
  · exact ud
  split
  · exact Int.dvd_trans hd (Int.dvd_mul_left _ _)
  split
  · exact ud
  split
  · split
    · exact Int.dvd_refl _
    · exact pd (pow_min (.inr (.inl rfl)) hpw) (.inr (.inl rfl)) (by omega)
  split
  · exact ud
  · have hnn := sumBits_nonneg l.parts
    by_cases hz : sumBits l.parts = 0
    · rw [hz]
      have : wholeS 0 = 0 := by unfold wholeS; simp
      simp only [this]
      exact Int.dvd_zero _
    · have := whole_pow (n := sumBits l.parts) (by omega)
      have h3 := pow_min this hpw
      have e : max 1 (min (wholeS (sumBits l.parts)) w) = min (wholeS (sumBits l.parts)) w := by unfold pow8 at h3; omega
      simp only [e]
      exact pd h3 this (by omega)

def sumQ : List (Int × Int) → Int
  | [] => 0
  | q :: r => q.1 + sumQ r
def maxQ : List (Int × Int) → Int
  | [] => 1
  | q :: r => max q.2 (maxQ r)

theorem sumQ_perm {a b : List (Int × Int)} (h : a.Perm b) : sumQ a = sumQ b ∧ maxQ a = maxQ b := by
  induction h with
  | nil => exact ⟨rfl, rfl⟩
  | cons x _ ih => simp only [sumQ, maxQ]; omega
  | swap x y l => simp only [sumQ, maxQ]; omega
  | trans _ _ h1 h2 => exact ⟨h1.1.trans h2.1, h1.2.trans h2.2⟩

theorem maxQ_pos : ∀ qs : List (Int × Int), 1 ≤ maxQ qs
  | [] => by simp [maxQ]
  | q :: r => by have := maxQ_pos r; simp only [maxQ]; omega

theorem sumQ_nonneg : ∀ {qs : List (Int × Int)}, (∀ q ∈ qs, 0 ≤ q.1 ∧ 1 ≤ q.2) → 0 ≤ sumQ qs
  | [], _ => by simp [sumQ]
  | q :: r, h => by
    have := sumQ_nonneg (qs := r) fun x hx => h x (List.mem_cons_of_mem _ hx)
    have := h q List.mem_cons_self
    simp only [sumQ]; omega

theorem fold_low : ∀ (qs : List (Int × Int)) (s : List Int × Int × Int), (∀ q ∈ qs, 0 ≤ q.1 ∧ 1 ≤ q.2) → 0 ≤ s.2.1 → 1 ≤ s.2.2 →
    s.2.1 + sumQ qs ≤ (qs.foldl standF s).2.1 ∧ (qs.foldl standF s).2.2 = max s.2.2 (maxQ qs)
  | [], s, _, h1, h2 => by simp only [List.foldl_nil, sumQ, maxQ]; omega
  | q :: r, s, hq, h1, h2 => by
    have h := hq q List.mem_cons_self
    have hu := upS_bnd (n := s.2.1) (m := q.2) h1 h.2
    have := fold_low r (standF s q) (fun x hx => hq x (List.mem_cons_of_mem _ hx)) (by simp only [standF]; omega) (by simp only [standF]; omega)
    simp only [List.foldl_cons, sumQ, maxQ]
    simp only [standF] at this ⊢
    omega

theorem upS_mono {a b m : Int} (h0 : 0 ≤ a) (h : a ≤ b) (hm : 1 ≤ m) : upS a m ≤ upS b m := by
  unfold upS
  rw [Int.tdiv_eq_ediv_of_nonneg (by omega), Int.tdiv_eq_ediv_of_nonneg (by omega)]
  exact Int.mul_le_mul_of_nonneg_right (Int.ediv_le_ediv (by omega) (by omega)) (by omega)

theorem stand_low {qs : List (Int × Int)} (h : ∀ q ∈ qs, 0 ≤ q.1 ∧ 1 ≤ q.2) : upS (sumQ qs) (maxQ qs) ≤ (standS qs).2.1 := by
  obtain ⟨h1, h2⟩ := fold_low qs ([], 0, 1) h (by simp) (by simp)
  have h3 := maxQ_pos qs
  have e : ((qs.foldl standF ([], 0, 1))).2.2 = maxQ qs := by rw [h2]; simp only []; omega
  unfold standS
  simp only []
  rw [e]
  exact upS_mono (sumQ_nonneg h) (by simpa using h1) h3

theorem fold_fall : ∀ (qs : List (Int × Int)) (s : List Int × Int × Int), (∀ q ∈ qs, 0 ≤ q.1 ∧ pow8 q.2 ∧ q.2 ∣ q.1) → qs.Pairwise (fun a b => b.2 ≤ a.2) → 0 ≤ s.2.1 → (∀ q ∈ qs, q.2 ∣ s.2.1) →
    (qs.foldl standF s).2.1 = s.2.1 + sumQ qs
  | [], s, _, _, _, _ => by simp [sumQ]
  | q :: r, s, hq, hp, h0, hd => by
    obtain ⟨q1, q2, q3⟩ := hq q List.mem_cons_self
    have hq1 : 1 ≤ q.2 := by unfold pow8 at q2; omega
    have hu : upS s.2.1 q.2 = s.2.1 := upS_end h0 hq1 (Int.tmod_eq_zero_of_dvd (hd q List.mem_cons_self))
    rw [List.pairwise_cons] at hp
    have := fold_fall r (standF s q) (fun x hx => hq x (List.mem_cons_of_mem _ hx)) hp.2 (by simp only [standF]; omega) fun x hx => by
      have hx2 := (hq x (List.mem_cons_of_mem _ hx)).2.1
      have h1 : x.2 ∣ q.2 := Int.dvd_of_tmod_eq_zero (pow_mod hx2 q2 (hp.1 x hx))
      simp only [standF, hu]
      exact Int.dvd_add (hd x (List.mem_cons_of_mem _ hx)) (Int.dvd_trans h1 q3)
    rw [List.foldl_cons, this]
    simp only [standF, hu, sumQ]
    omega

theorem stand_fall {qs : List (Int × Int)} (h : ∀ q ∈ qs, 0 ≤ q.1 ∧ pow8 q.2 ∧ q.2 ∣ q.1) (hp : qs.Pairwise (fun a b => b.2 ≤ a.2)) : (standS qs).2.1 = upS (sumQ qs) (maxQ qs) := by
  have h' : ∀ q ∈ qs, 0 ≤ q.1 ∧ 1 ≤ q.2 := fun q hq => by
    obtain ⟨a, b, _⟩ := h q hq
    unfold pow8 at b; omega
  obtain ⟨h1, h2⟩ := fold_low qs ([], 0, 1) h' (by simp) (by simp)
  have h3 := maxQ_pos qs
  have h4 := fold_fall qs ([], 0, 1) h hp (by simp) fun q _ => Int.dvd_zero _
  have e : ((qs.foldl standF ([], 0, 1))).2.2 = maxQ qs := by rw [h2]; simp only []; omega
  unfold standS
  simp only []
  rw [e, h4]
  simp

/-- By falling alignments. -/
def fall {α : Type} (g : α → Int) (l : List α) : List α := l.filter (fun x => g x == 8) ++ (l.filter (fun x => g x == 4) ++ (l.filter (fun x => g x == 2) ++ l.filter (fun x => g x == 1)))

theorem fall_perm {α : Type} {g : α → Int} : ∀ {l : List α}, (∀ x ∈ l, pow8 (g x)) → (fall g l).Perm l
  | [], _ => by simp [fall]
  | x :: r, h => by
    have ih := fall_perm (l := r) fun y hy => h y (List.mem_cons_of_mem _ hy)
    have hx := h x List.mem_cons_self
    unfold fall at ih ⊢
    simp only [List.filter_cons]
    rcases hx with hx | hx | hx | hx <;> simp only [hx]
    · simp only [Int.reduceBEq, Bool.false_eq_true, if_false, beq_self_eq_true, if_true]
      rw [← List.append_assoc, ← List.append_assoc]
      rw [← List.append_assoc, ← List.append_assoc] at ih
      exact List.perm_middle.trans (ih.cons x)
    · simp only [Int.reduceBEq, Bool.false_eq_true, if_false, beq_self_eq_true, if_true]
      rw [← List.append_assoc, List.cons_append]
      rw [← List.append_assoc] at ih
      exact List.perm_middle.trans (ih.cons x)
    · simp only [Int.reduceBEq, Bool.false_eq_true, if_false, beq_self_eq_true, if_true]
      exact List.perm_middle.trans (ih.cons x)
    · simp only [Int.reduceBEq, Bool.false_eq_true, if_false, beq_self_eq_true, if_true]
      exact ih.cons x

theorem fall_sorted {α : Type} (g : α → Int) (l : List α) : (fall g l).Pairwise (fun a b => g b ≤ g a) := by
  have one : ∀ c : Int, (l.filter (fun x => g x == c)).Pairwise (fun a b => g b ≤ g a) := fun c => by
    refine List.pairwise_of_forall_mem_list fun a ha b hb => ?_
    simp at ha hb
    omega
  unfold fall
  simp only [List.pairwise_append, List.mem_append, List.mem_filter, beq_iff_eq]
  refine ⟨one 8, ⟨one 4, ⟨one 2, one 1, ?_⟩, ?_⟩, ?_⟩
  · rintro a ⟨_, ha⟩ b ⟨_, hb⟩; omega
  · rintro a ⟨_, ha⟩ b (⟨_, hb⟩ | ⟨_, hb⟩) <;> omega
  · rintro a ⟨_, ha⟩ b (⟨_, hb⟩ | ⟨_, hb⟩ | ⟨_, hb⟩) <;> omega

theorem fall_map {α β : Type} (g : β → Int) (f : α → β) (l : List α) : (fall (fun x => g (f x)) l).map f = fall g (l.map f) := by
  simp only [fall, List.map_append, List.filter_map, Function.comp_def]

/-- All numbers below n. -/
def rangeI (n : Nat) : List Int := (List.range n).map fun i : Nat => (i : Int)

theorem rangeI_mem {n : Nat} {k : Int} : k ∈ rangeI n ↔ 0 ≤ k ∧ k < n := by
  unfold rangeI
  simp only [List.mem_map, List.mem_range]
  constructor
  · rintro ⟨i, h, rfl⟩; omega
  · rintro ⟨h1, h2⟩; exact ⟨k.toNat, by omega, by omega⟩

theorem rangeI_nodup (n : Nat) : (rangeI n).Nodup := List.Pairwise.map _ (fun a b h e => h (Int.ofNat.inj e)) List.nodup_range

theorem rangeI_succ (n : Nat) : rangeI (n + 1) = rangeI n ++ [(n : Int)] := by simp [rangeI, List.range_succ]

theorem rangeI_len (n : Nat) : (rangeI n).length = n := by simp [rangeI]

theorem pick_range (ps : List Layout) : pick ps (rangeI ps.length) = ps := by
  unfold pick rangeI
  refine List.ext_getElem (by simp) fun i h1 h2 => ?_
  simp [h2]

theorem pick_append (ps : List Layout) (a b : List Int) : pick ps (a ++ b) = pick ps a ++ pick ps b := by simp [pick]

theorem perm_range {n : Nat} {o : List Int} (ho : okO n o) (hd : o.Nodup) (hl : o.length = n) : o.Perm (rangeI n) := by
  refine (List.perm_ext_iff_of_nodup hd (rangeI_nodup n)).2 fun a => ?_
  constructor
  · intro h; exact rangeI_mem.2 (ho a h)
  · intro h
    by_cases ha : a ∈ o
    · exact ha
    · exfalso
      have h1 : (a :: o).Nodup := List.nodup_cons.2 ⟨ha, hd⟩
      have h2 := List.Nodup.length_le_of_subset (l₂ := rangeI n) h1 (fun x hx => by
        rcases List.mem_cons.1 hx with rfl | hx
        · exact h
        · exact rangeI_mem.2 (ho x hx))
      rw [List.length_cons, rangeI_len] at h2
      omega

theorem pick_perm {ps : List Layout} {o : List Int} (h : o.Perm (rangeI ps.length)) : (pick ps o).Perm ps := by
  have := h.map fun k => ps.getD k.toNat lay0
  have e : (rangeI ps.length).map (fun k => ps.getD k.toNat lay0) = ps := pick_range ps
  rw [e] at this
  exact this

theorem ordsL_has {F : List Int → List (List Int)} {b o : List Int} {i : Nat} (hi : (i : Int) ∉ b) (ho : o ∈ F (b ++ [(i : Int)])) : ∀ (m k : Nat), k ≤ i → i < k + m → o ∈ ordsL F b k m
  | 0, k, h1, h2 => by omega
  | m + 1, k, h1, h2 => by
    simp only [ordsL, List.mem_append]
    by_cases hk : k = i
    · subst hk; left; rw [if_neg hi]; exact ho
    · right; exact ordsL_has hi ho m (k + 1) (by omega) (by omega)

theorem ordsF_all {n : Nat} : ∀ (d : Nat) (b c : List Int), okO n (b ++ c) → (b ++ c).Nodup → c.length = d → b ++ c ∈ ordsF d n b
  | 0, b, c, _, _, h => by
    have : c = [] := List.eq_nil_of_length_eq_zero h
    subst this; simp [ordsF]
  | d + 1, b, [], _, _, h => by simp at h
  | d + 1, b, x :: c, ho, hn, h => by
    obtain ⟨h0, h1⟩ := ho x (by simp)
    have hx : ((x.toNat : Nat) : Int) = x := by omega
    have hxb : ((x.toNat : Nat) : Int) ∉ b := by
      rw [hx]
      rw [List.nodup_append] at hn
      intro hb
      exact hn.2.2 x hb x List.mem_cons_self rfl
    have ih := ordsF_all d (b ++ [((x.toNat : Nat) : Int)]) c (by rw [hx]; simpa using ho) (by rw [hx]; simpa using hn) (by simpa using h)
    rw [ordsF]
    have := ordsL_has (F := ordsF d n) (b := b) (i := x.toNat) hxb ih n 0 (by omega) (by omega)
    rw [hx] at this
    simpa using this

theorem ordsF_nodup {n : Nat} : ∀ {d : Nat} {b o : List Int}, b.Nodup → o ∈ ordsF d n b → o.Nodup
  | 0, b, o, hb, h => by simp [ordsF] at h; subst h; exact hb
  | d + 1, b, o, hb, h => by
    rw [ordsF] at h
    obtain ⟨i, h1, h2, h3, h4⟩ := ordsL_mem (n := n) h
    refine ordsF_nodup ?_ h4
    rw [List.nodup_append]
    refine ⟨hb, by simp, fun a ha c hc => ?_⟩
    simp at hc; subst hc
    rintro rfl; exact h3 ha

theorem bestF_min {f : List Int → Int} : ∀ (L : List (List Int)) (s : Int × List Int), (L.foldl (bestF f) s).1 ≤ s.1 ∧ (∀ o ∈ L, (L.foldl (bestF f) s).1 ≤ f o) ∧ ((L.foldl (bestF f) s).1 = s.1 ∨ ∃ o ∈ L, (L.foldl (bestF f) s).1 = f o)
  | [], s => ⟨Int.le_refl _, fun o h => (by cases h), .inl rfl⟩
  | o :: r, s => by
    obtain ⟨h1, h2, h3⟩ := bestF_min r (bestF f s o)
    rw [List.foldl_cons]
    have hb : (bestF f s o).1 ≤ s.1 ∧ (bestF f s o).1 ≤ f o ∧ ((bestF f s o).1 = s.1 ∨ (bestF f s o).1 = f o) := by
      unfold bestF
      split
      · rename_i h; exact ⟨by simp only []; omega, Int.le_refl _, .inr rfl⟩
      · rename_i h; exact ⟨Int.le_refl _, by omega, .inl rfl⟩
    generalize bestF f s o = s' at h1 h2 h3 hb ⊢
    refine ⟨Int.le_trans h1 hb.1, fun x hx => ?_, ?_⟩
    · rcases List.mem_cons.1 hx with rfl | hx
      · exact Int.le_trans h1 hb.2.1
      · exact h2 x hx
    · rcases h3 with h3 | ⟨x, hx, h3⟩
      · rcases hb.2.2 with hb | hb
        · left; exact h3.trans hb
        · right; exact ⟨o, List.mem_cons_self, h3.trans hb⟩
      · right; exact ⟨x, List.mem_cons_of_mem _ hx, h3⟩

/-- What is known of the parts of a struct that can be put in order. -/
structure Parts (w : Int) (ps : List Layout) : Prop where
  bnd : ∀ p ∈ ps, 0 ≤ (p.of w).1 ∧ 1 ≤ (p.of w).2
  pow : ∀ p ∈ ps, pow8 (p.of w).2
  mul : ∀ p ∈ ps, (p.of w).2 ∣ (p.of w).1

def lowS (w : Int) (ps : List Layout) : Int := upS (sumQ (Layout.ofL w ps)) (maxQ (Layout.ofL w ps))

theorem low_perm {w : Int} {ps qs : List Layout} (h : ps.Perm qs) : lowS w ps = lowS w qs := by
  unfold lowS
  rw [Layout.ofL_map, Layout.ofL_map]
  obtain ⟨h1, h2⟩ := sumQ_perm (h.map (Layout.of w))
  rw [h1, h2]

theorem stand_ge {w : Int} {ps : List Layout} (h : ∀ p ∈ ps, 0 ≤ (p.of w).1 ∧ 1 ≤ (p.of w).2) : lowS w ps ≤ (standS (Layout.ofL w ps)).2.1 := by
  refine stand_low fun q hq => ?_
  rw [Layout.ofL_map] at hq
  obtain ⟨p, hp, rfl⟩ := List.mem_map.1 hq
  exact h p hp

theorem stand_falling {w : Int} {ps : List Layout} (h : Parts w ps) : (standS (Layout.ofL w (fall (fun p => (p.of w).2) ps))).2.1 = lowS w ps := by
  have hperm := fall_perm (g := fun p : Layout => (p.of w).2) (l := ps) h.pow
  rw [← low_perm hperm]
  refine stand_fall (fun q hq => ?_) ?_
  · rw [Layout.ofL_map] at hq
    obtain ⟨p, hp, rfl⟩ := List.mem_map.1 hq
    have hp := hperm.mem_iff.1 hp
    exact ⟨(h.bnd p hp).1, h.pow p hp, h.mul p hp⟩
  · rw [Layout.ofL_map]
    exact List.Pairwise.map _ (fun a b h => h) (fall_sorted _ _)

theorem least_low {l : Layout} {w : Int} (h7 : l.parts.length ≤ 7) (hp : Parts w l.parts) (hb : ∀ o, okO l.parts.length o → o.length ≤ 7 → 0 ≤ szO w l.parts o ∧ szO w l.parts o ≤ 100000) :
    ((ordsF l.parts.length l.parts.length []).foldl (bestR (szO w l.parts)) (-1, [])).1 = lowS w l.parts := by
  have hok : okO l.parts.length [] := fun k hk => by cases hk
  have hall : ∀ o ∈ ordsF l.parts.length l.parts.length [], okO l.parts.length o ∧ o.length = l.parts.length ∧ o.Nodup := fun o ho => by
    obtain ⟨m1, m2⟩ := ordsF_mem hok ho
    exact ⟨m1, by simpa using m2, ordsF_nodup List.nodup_nil ho⟩
  rw [← best_start (f := szO w l.parts) (ordsF_ne l.parts.length [] hok List.nodup_nil (by simp)) fun o ho => by
    obtain ⟨a, b, _⟩ := hall o ho
    exact hb o a (by omega)]
  obtain ⟨h1, h2, h3⟩ := bestF_min (f := szO w l.parts) (ordsF l.parts.length l.parts.length []) (1099511627776, [])
  -- by falling alignments
  have hf : fall (fun k : Int => ((l.parts.getD k.toNat lay0).of w).2) (rangeI l.parts.length) ∈ ordsF l.parts.length l.parts.length [] ∧
      szO w l.parts (fall (fun k : Int => ((l.parts.getD k.toNat lay0).of w).2) (rangeI l.parts.length)) = lowS w l.parts := by
    have hperm := fall_perm (g := fun k : Int => ((l.parts.getD k.toNat lay0).of w).2) (l := rangeI l.parts.length) fun k hk => by
      obtain ⟨k0, k1⟩ := rangeI_mem.1 hk
      exact hp.pow _ (List.mem_of_getElem? (pick_at k0 k1))
    constructor
    · have := ordsF_all (n := l.parts.length) l.parts.length [] (fall (fun k : Int => ((l.parts.getD k.toNat lay0).of w).2) (rangeI l.parts.length)) (fun k hk => rangeI_mem.1 (hperm.mem_iff.1 hk)) (by rw [List.nil_append]; exact hperm.symm.nodup (rangeI_nodup _)) (by rw [hperm.length_eq, rangeI_len])
      rw [List.nil_append] at this; exact this
    · unfold szO pick
      rw [fall_map (fun p : Layout => (p.of w).2) (fun k : Int => l.parts.getD k.toNat lay0) (rangeI l.parts.length)]
      have e : (rangeI l.parts.length).map (fun k => l.parts.getD k.toNat lay0) = l.parts := pick_range l.parts
      rw [e]
      exact stand_falling hp
  have hle := h2 _ hf.1
  rw [hf.2] at hle
  have hge : ∀ o ∈ ordsF l.parts.length l.parts.length [], lowS w l.parts ≤ szO w l.parts o := fun o ho => by
    obtain ⟨a, b, c⟩ := hall o ho
    have hpp := pick_perm (ps := l.parts) (perm_range a c b)
    rw [← low_perm hpp]
    exact stand_ge fun p hp' => hp.bnd p (hpp.mem_iff.1 hp')
  rcases h3 with h3 | ⟨o, ho, h3⟩
  · exfalso
    have := (hb _ (hall _ hf.1).1 (by have := (hall _ hf.1).2.1; omega)).2
    rw [hf.2] at this
    rw [h3] at hle
    simp only [] at hle
    omega
  · have := hge o ho
    omega

/-- The parts of a struct in another order. -/
theorem allL_perm {ps qs : List Layout} (h : ps.Perm qs) : (Layout.allL ps).length = (Layout.allL qs).length ∧ Layout.depthL ps = Layout.depthL qs ∧ Layout.cellsL ps = Layout.cellsL qs := by
  induction h with
  | nil => exact ⟨rfl, rfl, rfl⟩
  | cons x _ ih => simp only [Layout.allL, Layout.depthL, Layout.cellsL, List.length_append]; omega
  | swap x y l => simp only [Layout.allL, Layout.depthL, Layout.cellsL, List.length_append]; omega
  | trans _ _ h1 h2 => exact ⟨h1.1.trans h2.1, h1.2.1.trans h2.2.1, h1.2.2.trans h2.2.2⟩

theorem mem_allL {q : Layout} : ∀ {ps : List Layout}, q ∈ Layout.allL ps → ∃ p ∈ ps, q ∈ p.all
  | [], h => by simp [Layout.allL] at h
  | p :: r, h => by
    simp only [Layout.allL, List.mem_append] at h
    rcases h with h | h
    · exact ⟨p, List.mem_cons_self, h⟩
    · obtain ⟨p', h1, h2⟩ := mem_allL h
      exact ⟨p', List.mem_cons_of_mem _ h1, h2⟩

theorem struct_fine {l : Layout} (hf : l.Fine) {ps : List Layout} (hp : ps.Perm l.parts) : (Layout.mk 6 0 false ps).Fine := by
  obtain ⟨h1, h2, h3⟩ := allL_perm hp
  refine ⟨fun q hq => ?_, ?_, ?_⟩
  · rw [Layout.all_eq] at hq
    rcases List.mem_cons.1 hq with rfl | hq
    · have := hf.fits.len
      refine ⟨by simp, by simp, ?_⟩
      show ps.length ≤ _
      rw [hp.length_eq]; exact this
    · obtain ⟨p, hm, hq⟩ := mem_allL hq
      exact (hf.fits.part (hp.mem_iff.1 hm)) q hq
  · have := hf.count
    rw [l.all_eq] at this
    rw [Layout.all_eq]
    simp only [List.length_cons] at this ⊢
    omega
  · have := hf.deep
    rw [l.depth_eq] at this
    rw [Layout.depth_eq]
    show Layout.depthL ps + 1 ≤ _
    omega

theorem struct_val {l : Layout} (h6 : l.kind = 6) (hv : valS l = 0) {ps : List Layout} (hp : ps.Perm l.parts) : valS (Layout.mk 6 0 false ps) = 0 := by
  obtain ⟨h1, h2, h3⟩ := allL_perm hp
  unfold valS at hv ⊢
  split at hv
  · cases hv
  rename_i g1
  split at hv
  rotate_left
  · cases hv
  rename_i hr
  simp only [Bool.or_eq_true, decide_eq_true_eq, not_or] at g1
  obtain ⟨g1, g2⟩ := g1
  unfold Layout.large at g1
  simp only [Bool.or_eq_true, decide_eq_true_eq, not_or] at g1
  obtain ⟨⟨g3, g4⟩, g5⟩ := g1
  have g5 : l.all.any Layout.big = false := by simpa using g5
  rw [List.any_eq_false] at g5
  have gl : ¬ l.big = true := g5 l l.mem_self
  have glen : l.parts.length ≤ 12 := by
    unfold Layout.big at gl
    simp only [Bool.or_eq_true, decide_eq_true_eq, not_or] at gl
    omega
  have hb : (Layout.mk 6 0 false ps).all.any Layout.big = false := by
    rw [List.any_eq_false]
    intro q hq
    rw [Layout.all_eq] at hq
    rcases List.mem_cons.1 hq with rfl | hq
    · unfold Layout.big Layout.big1
      simp only [Bool.or_eq_true, decide_eq_true_eq, Bool.and_eq_true, beq_iff_eq, not_or]
      refine ⟨?_, by simp⟩
      show ¬ ((ps.length : Int) > 12)
      rw [hp.length_eq]; omega
    · obtain ⟨p, hm, hq⟩ := mem_allL hq
      exact g5 q (mem_part (hp.mem_iff.1 hm) hq)
  have hlarge : (Layout.mk 6 0 false ps).large = false := by
    unfold Layout.large
    rw [hb]
    rw [l.all_eq] at g3
    rw [l.depth_eq] at g4
    rw [Layout.all_eq, Layout.depth_eq]
    simp only [List.length_cons] at g3 ⊢
    have h1' : (Layout.allL ps).length = (Layout.allL l.parts).length := h1
    have h2' : Layout.depthL ps = Layout.depthL l.parts := h2
    show (decide ((Layout.allL ps).length + 1 > 60) || decide (Layout.depthL ps + 1 > 5) || false) = false
    rw [h1', h2', decide_eq_false (by omega), decide_eq_false (by omega)]; rfl
  have hcells : ¬ (Layout.mk 6 0 false ps).cells > 4096 := by
    rw [l.cells_eq] at g2
    rw [Layout.cells_eq]
    show ¬ ((if (6 : Int) = 5 then max 0 0 * Layout.cellsL ps else Layout.cellsL ps) + 1 > 4096)
    simp only [h6] at g2
    simp at g2 ⊢
    omega
  have hright : (Layout.mk 6 0 false ps).right = true := by
    rw [l.right_eq, Bool.and_eq_true, List.all_eq_true] at hr
    rw [Layout.right_eq, Bool.and_eq_true, List.all_eq_true]
    refine ⟨by simp [Layout.isS, partsS, numS], fun p hm => hr.2 p (hp.mem_iff.1 hm)⟩
  rw [hlarge, hright]
  simp [hcells]

theorem struct_of (w : Int) (ps : List Layout) : (Layout.mk 6 0 false ps).of w = (standS (Layout.ofL w ps)).2 := by
  rw [Layout.of_eq]; unfold ofS; simp

theorem get_in (O : List Int) (x : Int) : (Mp.get Mp.ieq x (O.map fun k => (k, true))).getD false = decide (x ∈ O) := by
  induction O with
  | nil => simp [Mp.get]
  | cons y r ih =>
    simp only [List.map_cons, Mp.get, Mp.ieq, beq_iff_eq]
    by_cases h : x = y
    · simp [h]
    · rw [if_neg h, ih]; simp [h]

theorem set_in (O : List Int) (x : Int) (h : x ∉ O) : Mp.set Mp.ieq x true (O.map fun k => (k, true)) = (O ++ [x]).map fun k => (k, true) := by
  induction O with
  | nil => simp [Mp.set]
  | cons y r ih =>
    simp only [List.mem_cons, not_or] at h
    simp only [List.map_cons, Mp.set, Mp.ieq, beq_iff_eq, if_neg h.1, ih h.2, List.cons_append]

/-- What Align answers of the parts. -/
def AlignsOk (w : Int) (b : Bool) (l : Layout) : Prop := ∀ p ∈ l.parts, n_15 (p, ⟨w, b⟩, ()) = some ((p.of w).2, 0, ())

theorem f10l11 (w : Int) (b : Bool) (l : Layout) (ha : AlignsOk w b l) (order : List Int) (least a : Int) (oth : List Layout) (hn : l.parts.length ≤ 1000) : ∀ (m k : Nat) (acc : List Layout), l.parts.length - k = m → acc.length + m ≤ 100000 →
    n_10l11 (order, least, a, k, l, ⟨w, b⟩, acc, oth, ()) = some (.inr (order, least, a, l, ⟨w, b⟩, acc ++ (l.parts.drop k).filter (fun p => (p.of w).2 == a), oth, ())) := by
  intro m
  induction m with
  | zero =>
    intro k acc hm hl
    have hlt : ¬ k < l.parts.length := by omega
    rw [n_10l11]
    simp only [Option.bind_eq_bind, Option.bind_some, Option.bind_none, if_true, if_false, Bool.false_eq_true, Bool.true_eq_false, Int.toNat_natCast, Int.natCast_nonneg, beq_iff_eq, decide_eq_true_eq, Int.ofNat_lt, hlt, drop_end hlt, List.filter_nil, List.append_nil]
  | succ m ih =>
    intro k acc hm hl
    have hlt : k < l.parts.length := by omega
    obtain ⟨p, hp1, hpm, hd, g1, g2⟩ := at_lt hlt
    have h15 := ha p hpm
    have hw1 := wrap_succ hlt (by omega)
    rw [n_10l11]
    by_cases hc : (p.of w).2 = a
    · have h4 : acc.length + [p].length ≤ 4294967296 := by simp; omega
      have := ih (k + 1) (acc ++ [p]) (by omega) (by simp; omega)
      simp only [Option.bind_eq_bind, Option.bind_some, Option.bind_none, if_true, if_false, Bool.false_eq_true, Bool.true_eq_false, Int.toNat_natCast, Int.natCast_nonneg, beq_iff_eq, decide_eq_true_eq, Int.ofNat_lt, hlt, hp1, h15, bne_self_eq_false, hc, h4, hw1, this]
      rw [hd, List.filter_cons]
      simp [hc]
    · have := ih (k + 1) acc (by omega) (by omega)
      simp only [Option.bind_eq_bind, Option.bind_some, Option.bind_none, if_true, if_false, Bool.false_eq_true, Bool.true_eq_false, Int.toNat_natCast, Int.natCast_nonneg, beq_iff_eq, decide_eq_true_eq, Int.ofNat_lt, hlt, hp1, h15, bne_self_eq_false, hc, hw1, this]
      rw [hd, List.filter_cons]
      simp [hc]

theorem f10l8 (w : Int) (b : Bool) (l : Layout) (ha : AlignsOk w b l) (order : List Int) (least : Int) (hn : l.parts.length ≤ 1000) :
    n_10l8 (order, least, 8, l, ⟨w, b⟩, [], [], ()) = some (.inr (order, least, l, ⟨w, b⟩, fall (fun p => (p.of w).2) l.parts, [], ())) := by
  have h8 := f10l11 w b l ha order least 8 [] hn _ 0 [] rfl (by simp; omega)
  have hf : ∀ a : Int, ((l.parts).filter (fun p => (p.of w).2 == a)).length ≤ l.parts.length := fun a => List.length_filter_le ..
  have h4 := f10l11 w b l ha order least 4 [] hn _ 0 ((l.parts.drop 0).filter (fun p => (p.of w).2 == 8)) rfl (by have := hf 8; simp; omega)
  have h2 := f10l11 w b l ha order least 2 [] hn _ 0 ((l.parts.drop 0).filter (fun p => (p.of w).2 == 8) ++ (l.parts.drop 0).filter (fun p => (p.of w).2 == 4)) rfl (by have := hf 8; have := hf 4; simp; omega)
  have h1 := f10l11 w b l ha order least 1 [] hn _ 0 ((l.parts.drop 0).filter (fun p => (p.of w).2 == 8) ++ (l.parts.drop 0).filter (fun p => (p.of w).2 == 4) ++ (l.parts.drop 0).filter (fun p => (p.of w).2 == 2)) rfl (by have := hf 8; have := hf 4; have := hf 2; simp; omega)
  simp only [Int.natCast_zero, Int.ofNat_eq_natCast, List.drop_zero, List.nil_append] at h8 h4 h2 h1
  have e8 : IntKind.i64.wrap ((8 : Int).tdiv 2) = 4 := by decide
  have e4 : IntKind.i64.wrap ((4 : Int).tdiv 2) = 2 := by decide
  have e2 : IntKind.i64.wrap ((2 : Int).tdiv 2) = 1 := by decide
  have e1 : IntKind.i64.wrap ((1 : Int).tdiv 2) = 0 := by decide
  rw [n_10l8]
  simp only [ge_iff_le, Int.reduceLE, decide_true, Option.bind_eq_bind, Option.bind_some, Option.bind_none, if_true, if_false, Bool.false_eq_true, Bool.true_eq_false, Int.toNat_natCast, Int.natCast_nonneg, beq_iff_eq, decide_eq_true_eq, Int.ofNat_lt, h8, e8]
  rw [n_10l8]
  simp only [ge_iff_le, Int.reduceLE, decide_true, Option.bind_eq_bind, Option.bind_some, Option.bind_none, if_true, if_false, Bool.false_eq_true, Bool.true_eq_false, Int.toNat_natCast, Int.natCast_nonneg, beq_iff_eq, decide_eq_true_eq, Int.ofNat_lt, h4, e4]
  rw [n_10l8]
  simp only [ge_iff_le, Int.reduceLE, decide_true, Option.bind_eq_bind, Option.bind_some, Option.bind_none, if_true, if_false, Bool.false_eq_true, Bool.true_eq_false, Int.toNat_natCast, Int.natCast_nonneg, beq_iff_eq, decide_eq_true_eq, Int.ofNat_lt, h2, e2]
  rw [n_10l8]
  simp only [ge_iff_le, Int.reduceLE, decide_true, Option.bind_eq_bind, Option.bind_some, Option.bind_none, if_true, if_false, Bool.false_eq_true, Bool.true_eq_false, Int.toNat_natCast, Int.natCast_nonneg, beq_iff_eq, decide_eq_true_eq, Int.ofNat_lt, h1, e1]
  rw [n_10l8]
  simp only [ge_iff_le, Int.reduceLE, decide_false, Option.bind_eq_bind, Option.bind_some, Option.bind_none, if_true, if_false, Bool.false_eq_true, Bool.true_eq_false, Int.toNat_natCast, Int.natCast_nonneg, beq_iff_eq, decide_eq_true_eq, Int.ofNat_lt, fall, List.append_assoc]

theorem f10l20 (t : Target) (l : Layout) (least : Int) (fa : List Layout) (order : List Int) (hn : l.parts.length ≤ 1000) (hol : order.length ≤ 9223372036854775807) : ∀ (m k : Nat) (O : List Int), order.length - k = m → okO l.parts.length O → O.Nodup →
    ∃ O', okO l.parts.length O' ∧ O'.Nodup ∧ n_10l20 (order, least, k, l, t, fa, pick l.parts O, O.map (fun k => (k, true)), ()) = some (least, l, t, fa, pick l.parts O', O'.map (fun k => (k, true)), ()) := by
  intro m
  induction m with
  | zero =>
    intro k O hm h1 h2
    have hlt : ¬ k < order.length := by omega
    refine ⟨O, h1, h2, ?_⟩
    rw [n_10l20]
    simp only [Option.bind_eq_bind, Option.bind_some, Option.bind_none, if_true, if_false, Bool.false_eq_true, Bool.true_eq_false, Int.toNat_natCast, Int.natCast_nonneg, beq_iff_eq, decide_eq_true_eq, Int.ofNat_lt, hlt]
  | succ m ih =>
    intro k O hm h1 h2
    have hlt : k < order.length := by omega
    obtain ⟨x, hx1, hxm, hd, g1, g2⟩ := at_lt hlt
    have hw1 := wrap_succ hlt hol
    have hlen : O.length ≤ l.parts.length := by
      have := List.Nodup.length_le_of_subset (l₂ := rangeI l.parts.length) h2 (fun x hx => rangeI_mem.2 (h1 x hx))
      rwa [rangeI_len] at this
    by_cases hc : 0 ≤ x ∧ x < l.parts.length ∧ x ∉ O
    · obtain ⟨c1, c2, c3⟩ := hc
      obtain ⟨O', q1, q2, q3⟩ := ih (k + 1) (O ++ [x]) (by omega) (fun y hy => by
        rcases List.mem_append.1 hy with hy | hy
        · exact h1 y hy
        · simp at hy; subst hy; exact ⟨c1, c2⟩) (by
        rw [List.nodup_append]
        refine ⟨h2, by simp, fun a ha c hc => ?_⟩
        simp at hc; subst hc
        rintro rfl; exact c3 ha)
      refine ⟨O', q1, q2, ?_⟩
      rw [n_10l20]
      have h4 : (pick l.parts O).length + [l.parts.getD x.toNat lay0].length ≤ 4294967296 := by simp [pick]; omega
      have hpk : pick l.parts O ++ [l.parts.getD x.toNat lay0] = pick l.parts (O ++ [x]) := by simp [pick]
      have c2' : ¬ (l.parts.length : Int) ≤ x := by omega
      simp only [Option.bind_eq_bind, Option.bind_some, Option.bind_none, if_true, if_false, Bool.false_eq_true, Bool.true_eq_false, Int.toNat_natCast, Int.natCast_nonneg, beq_iff_eq, decide_eq_true_eq, Int.ofNat_lt, hlt, hx1, ge_iff_le, c1, c2, decide_true, get_in, c3, decide_false, Bool.not_false, pick_at c1 c2, h4, set_in _ _ c3, hw1, hpk, q3]
    · obtain ⟨O', q1, q2, q3⟩ := ih (k + 1) O (by omega) h1 h2
      refine ⟨O', q1, q2, ?_⟩
      rw [n_10l20]
      by_cases c1 : 0 ≤ x
      · by_cases c2 : x < l.parts.length
        · have c3 : x ∈ O := by
            by_cases c3 : x ∈ O
            · exact c3
            · exact (hc ⟨c1, c2, c3⟩).elim
          simp only [Option.bind_eq_bind, Option.bind_some, Option.bind_none, if_true, if_false, Bool.false_eq_true, Bool.true_eq_false, Int.toNat_natCast, Int.natCast_nonneg, beq_iff_eq, decide_eq_true_eq, Int.ofNat_lt, hlt, hx1, ge_iff_le, c1, c2, decide_true, get_in, c3, Bool.not_true, hw1, q3]
        · simp only [Option.bind_eq_bind, Option.bind_some, Option.bind_none, if_true, if_false, Bool.false_eq_true, Bool.true_eq_false, Int.toNat_natCast, Int.natCast_nonneg, beq_iff_eq, decide_eq_true_eq, Int.ofNat_lt, hlt, hx1, ge_iff_le, c1, c2, decide_true, decide_false, hw1, q3]
      · simp only [Option.bind_eq_bind, Option.bind_some, Option.bind_none, if_true, if_false, Bool.false_eq_true, Bool.true_eq_false, Int.toNat_natCast, Int.natCast_nonneg, beq_iff_eq, decide_eq_true_eq, Int.ofNat_lt, hlt, hx1, ge_iff_le, c1, decide_false, hw1, q3]

theorem f10l27 (t : Target) (l : Layout) (least : Int) (fa : List Layout) (O : List Int) (h1 : okO l.parts.length O) (h2 : O.Nodup) (hn : l.parts.length ≤ 1000) : ∀ (m k : Nat), l.parts.length - k = m → k ≤ l.parts.length →
    n_10l27 (least, k, l, t, fa, pick l.parts (O ++ (rangeI k).filter (fun x => !decide (x ∈ O))), O.map (fun k => (k, true)), ()) = some (least, t, fa, pick l.parts (O ++ (rangeI l.parts.length).filter (fun x => !decide (x ∈ O))), ()) := by
  have hlen : O.length ≤ l.parts.length := by
    have := List.Nodup.length_le_of_subset (l₂ := rangeI l.parts.length) h2 (fun x hx => rangeI_mem.2 (h1 x hx))
    rwa [rangeI_len] at this
  intro m
  induction m with
  | zero =>
    intro k hm hk
    have hlt : ¬ k < l.parts.length := by omega
    have : k = l.parts.length := by omega
    subst this
    rw [n_10l27]
    simp only [Option.bind_eq_bind, Option.bind_some, Option.bind_none, if_true, if_false, Bool.false_eq_true, Bool.true_eq_false, Int.toNat_natCast, Int.natCast_nonneg, beq_iff_eq, decide_eq_true_eq, Int.ofNat_lt, hlt]
  | succ m ih =>
    intro k hm hk
    have hlt : k < l.parts.length := by omega
    have hw1 := wrap_succ hlt (by omega)
    have hih := ih (k + 1) (by omega) (by omega)
    have hat := pick_at (ps := l.parts) (k := (k : Int)) (by omega) (by omega)
    rw [Int.toNat_natCast] at hat
    have hcl : ((rangeI k).filter (fun x => !decide (x ∈ O))).length ≤ k := by
      have := List.length_filter_le (fun x => !decide (x ∈ O)) (rangeI k)
      rwa [rangeI_len] at this
    have h4 : (pick l.parts (O ++ (rangeI k).filter (fun x => !decide (x ∈ O)))).length + [l.parts.getD k lay0].length ≤ 4294967296 := by simp [pick]; omega
    rw [rangeI_succ, List.filter_append] at hih
    rw [n_10l27]
    by_cases hc : (k : Int) ∈ O
    · simp only [List.filter_cons, hc, decide_true, Bool.not_true, Bool.false_eq_true, if_false, List.filter_nil, List.append_nil] at hih
      simp only [Option.bind_eq_bind, Option.bind_some, Option.bind_none, if_true, if_false, Bool.false_eq_true, Bool.true_eq_false, Int.toNat_natCast, Int.natCast_nonneg, beq_iff_eq, decide_eq_true_eq, Int.ofNat_lt, hlt, get_in, hc, decide_true, Bool.not_true, hw1, hih]
    · have hpk : pick l.parts (O ++ (rangeI k).filter (fun x => !decide (x ∈ O))) ++ [l.parts.getD k lay0] = pick l.parts (O ++ ((rangeI k).filter (fun x => !decide (x ∈ O)) ++ [(k : Int)])) := by simp [pick]
      simp only [List.filter_cons, hc, decide_false, Bool.not_false, if_true, List.filter_nil] at hih
      simp only [Option.bind_eq_bind, Option.bind_some, Option.bind_none, if_true, if_false, Bool.false_eq_true, Bool.true_eq_false, Int.toNat_natCast, Int.natCast_nonneg, beq_iff_eq, decide_eq_true_eq, Int.ofNat_lt, hlt, get_in, hc, decide_false, Bool.not_false, hat, h4, hw1, hpk, hih]

theorem other_perm {n : Nat} {O : List Int} (h1 : okO n O) (h2 : O.Nodup) : (O ++ (rangeI n).filter (fun x => !decide (x ∈ O))).Perm (rangeI n) := by
  refine (List.perm_ext_iff_of_nodup ?_ (rangeI_nodup n)).2 fun a => ?_
  · rw [List.nodup_append]
    refine ⟨h2, (rangeI_nodup n).filter _, fun a ha c hc => ?_⟩
    rintro rfl
    simp at hc
    exact hc.2 ha
  · simp only [List.mem_append, List.mem_filter, Bool.not_eq_true', decide_eq_false_iff_not]
    constructor
    · rintro (h | h)
      · exact rangeI_mem.2 (h1 a h)
      · exact h.1
    · intro h
      by_cases ha : a ∈ O
      · exact .inl ha
      · exact .inr ⟨h, ha⟩

/-- THE LAW on falling alignments. -/
theorem law10 (l : Layout) (t : Target) (order : List Int) (hl : l.Fits) (hol : order.length ≤ 9223372036854775807) : n_10 (l, t, order, ()) = some (true, ()) := by
  obtain ⟨w, b⟩ := t
  unfold n_10
  simp only [f11 l hl, Option.bind_eq_bind, Option.bind_some, Option.bind_none, if_true, if_false, Bool.false_eq_true, Bool.true_eq_false, Int.toNat_natCast, Int.natCast_nonneg, beq_iff_eq, decide_eq_true_eq, Int.ofNat_lt]
  cases ho : overS l
  rotate_left
  · simp [f12]
  have hf := fine_of hl ho
  simp only [Option.bind_eq_bind, Option.bind_some, Option.bind_none, if_true, if_false, Bool.false_eq_true, Bool.true_eq_false, Int.toNat_natCast, Int.natCast_nonneg, beq_iff_eq, decide_eq_true_eq, Int.ofNat_lt, f35 l w b hf]
  by_cases he : (reS l w).2.2 = 0
  rotate_left
  · simp [he, f12]
  -- a struct of at most 7 parts
  have hask : askS l w = 0 := by
    unfold reS at he
    split at he
    · assumption
    · rename_i h; exact (h he).elim
  have h6 : l.kind = 6 := by
    unfold reS at he
    rw [if_pos hask] at he
    split at he
    · assumption
    · simp at he
  have h7 : ¬ (l.parts.length : Int) > 7 := by
    intro h7
    unfold reS at he
    rw [if_pos hask, if_pos h6, if_pos h7] at he
    simp at he
  have hg : largeS l w = 0 := by
    unfold reS at he
    rw [if_pos hask, if_pos h6, if_neg h7] at he
    split at he
    · assumption
    · rename_i h; exact (h he).elim
  obtain ⟨hw, hv⟩ := ask_val hf hask
  have hval : valS l = 0 := by unfold askS at hask; split at hask <;> first | assumption | (rename_i h0; exact (h0 hask).elim)
  have hvt : valT w = 0 := by unfold valT; simp [hw]
  have hs := small_of b hf hask h6 h7 hg
  have hn7 : l.parts.length ≤ 7 := hs.len
  have hparts : Parts w l.parts := ⟨fun p hp => ⟨(hs.bnd p hp).1, (hs.bnd p hp).2.2.1⟩, fun p hp => of_pow hw p (hv.part hp), fun p hp => of_mul hw p (hv.part hp)⟩
  have hleast : (reS l w).2.1 = lowS w l.parts := by
    unfold reS
    rw [if_pos hask, if_pos h6, if_neg h7, if_pos hg]
    exact least_low hn7 hparts fun o h1 h2 => szO_bnd hs h1 h2
  have hal : AlignsOk w b l := fun p hp => by
    have hfp := fine_part hf hp
    have hap : askS p w = 0 := by unfold askS; rw [val_part hval h6 hp]; exact hvt
    have := f15 p w b hfp
    have hsz := (hs.bnd p hp).2.1
    have hlp : largeS p w = 0 := by unfold largeS; rw [if_neg (by omega)]
    have hrp : roomS p w = p.of w := by unfold roomS; rw [if_neg (by omega)]
    have es2 : alignS p w = ((p.of w).2, 0) := by unfold alignS; rw [if_pos hap, hrp, hlp]
    rw [es2] at this
    exact this
  have hsz : (l.of w).1 ≤ 4096 := by unfold largeS at hg; split at hg <;> omega
  have hof : (l.of w).1 = (standS (Layout.ofL w l.parts)).2.1 := by rw [l.of_eq]; unfold ofS; simp [h6]
  have hlow : lowS w l.parts ≤ 4096 := by
    have := stand_ge (w := w) (ps := l.parts) hparts.bnd
    omega
  -- the falling one
  have hpf := fall_perm (g := fun p : Layout => (p.of w).2) (l := l.parts) hparts.pow
  have hsf : sizeS (Layout.mk 6 0 false (fall (fun p => (p.of w).2) l.parts)) w = (lowS w l.parts, 0) := by
    have e1 : (Layout.of w (Layout.mk 6 0 false (fall (fun p => (p.of w).2) l.parts))).1 = lowS w l.parts := by rw [struct_of]; exact stand_falling hparts
    have e2 : askS (Layout.mk 6 0 false (fall (fun p => (p.of w).2) l.parts)) w = 0 := by unfold askS; rw [struct_val h6 hval hpf]; exact hvt
    unfold sizeS largeS roomS
    rw [if_pos e2, if_neg (by omega), if_neg (by omega), e1]
  have h13f := f13 _ w b (struct_fine hf hpf)
  rw [hsf] at h13f
  -- any other one
  obtain ⟨O, o1, o2, o3⟩ := f10l20 ⟨w, b⟩ l (reS l w).2.1 (fall (fun p => (p.of w).2) l.parts) order (by omega) hol _ 0 [] rfl (fun k hk => by cases hk) List.nodup_nil
  have h27 := f10l27 ⟨w, b⟩ l (reS l w).2.1 (fall (fun p => (p.of w).2) l.parts) O o1 o2 (by omega) _ 0 rfl (by omega)
  have er0 : rangeI 0 = [] := rfl
  rw [er0, List.filter_nil, List.append_nil] at h27
  have hpo := pick_perm (ps := l.parts) (other_perm o1 o2)
  have h13o := f13 _ w b (struct_fine hf hpo)
  have hoe : (sizeS (Layout.mk 6 0 false (pick l.parts (O ++ (rangeI l.parts.length).filter (fun x => !decide (x ∈ O))))) w).2 = 0 →
      lowS w l.parts ≤ (sizeS (Layout.mk 6 0 false (pick l.parts (O ++ (rangeI l.parts.length).filter (fun x => !decide (x ∈ O))))) w).1 := by
    intro h
    have e2 : askS (Layout.mk 6 0 false (pick l.parts (O ++ (rangeI l.parts.length).filter (fun x => !decide (x ∈ O))))) w = 0 := by unfold askS; rw [struct_val h6 hval hpo]; exact hvt
    unfold sizeS at h ⊢
    rw [if_pos e2] at h ⊢
    have hl0 : ¬ (Layout.of w (Layout.mk 6 0 false (pick l.parts (O ++ (rangeI l.parts.length).filter (fun x => !decide (x ∈ O)))))).1 > 4096 := by
      intro hc
      simp only [] at h
      unfold largeS at h
      rw [if_pos hc] at h
      cases h
    unfold roomS
    rw [if_neg hl0]
    simp only []
    rw [struct_of]
    have := stand_ge (w := w) (ps := pick l.parts (O ++ (rangeI l.parts.length).filter (fun x => !decide (x ∈ O)))) fun p hp => hparts.bnd p (hpo.mem_iff.1 hp)
    rwa [low_perm hpo] at this
  have h8 := f10l8 w b l hal order (reS l w).2.1 (by omega)
  have epick : pick l.parts [] = [] := rfl
  simp only [epick, List.map_nil, Int.natCast_zero, Int.ofNat_eq_natCast, List.drop_zero] at o3
  simp only [Int.natCast_zero, Int.ofNat_eq_natCast, List.drop_zero] at h27
  rw [hleast] at h8 o3 h27
  simp only [he, bne_self_eq_false, Option.bind_eq_bind, Option.bind_some, Option.bind_none, if_true, if_false, Bool.false_eq_true, Bool.true_eq_false, Int.toNat_natCast, Int.natCast_nonneg, beq_iff_eq, decide_eq_true_eq, Int.ofNat_lt, hleast, h8, o3, h27, h13f, h13o, f12]
  by_cases hz : (sizeS (Layout.mk 6 0 false (pick l.parts (O ++ (rangeI l.parts.length).filter (fun x => !decide (x ∈ O))))) w).2 = 0
  · have := hoe hz
    simp [hz, this]
  · simp [hz]

theorem layOrders_true (l : Layout) (t : Target) (order : List Int) (h0 : Go.Tx.Ok vw (.st .layoutT) l) (h1 : Go.Tx.Ok vw (.st .targetT) t) (h2 : Go.Tx.Ok vw (.sl (.int .i64)) order) : n_10 (l, t, order, ()) = some (true, ()) := law10 l t order (fits_of_ok l h0) (ok_sl h2).1

end Go.Proofs.Ytdknkfioigcfiaa
