/-
  The laws LayOffsets and LayAligns in plain Lean.
-/
import Derived.Test.YtdknkfioigcfiaaLwS
namespace Go.Proofs.Ytdknkfioigcfiaa
set_option linter.unusedSimpArgs false
set_option linter.unusedVariables false
set_option maxRecDepth 20000

/-- How many places there are. -/
def partsN (l : Layout) : Int := if l.kind = 6 ∨ l.kind = 8 then l.parts.length else if l.kind = 4 then 2 else if l.kind = 5 then l.n else -1

theorem f63 (l : Layout) : n_63 (l, ()) = some (partsN l, ()) := by
  unfold n_63 partsN
  by_cases h6 : l.kind = 6
  · simp [h6]
  by_cases h8 : l.kind = 8
  · simp [h8]
  by_cases h4 : l.kind = 4
  · simp [h4]
  by_cases h5 : l.kind = 5
  · simp [h5]
  · simp [h6, h8, h4, h5]

theorem stand_pre : ∀ (qs : List (Int × Int)) (s : List Int × Int × Int), ∃ t, (qs.foldl standF s).1 = s.1 ++ t ∧ t.length = qs.length
  | [], s => ⟨[], by simp, rfl⟩
  | q :: r, s => by
    obtain ⟨t, h, hl⟩ := stand_pre r (standF s q)
    exact ⟨upS s.2.1 q.2 :: t, by rw [List.foldl_cons, h]; simp [standF], by simp [hl]⟩

theorem stand_len (qs : List (Int × Int)) : (standS qs).1.length = qs.length := by
  obtain ⟨t, h, hl⟩ := stand_pre qs ([], 0, 1)
  unfold standS
  simp only [h, List.nil_append, hl]

theorem ofL_len (w : Int) (ps : List Layout) : (Layout.ofL w ps).length = ps.length := by rw [Layout.ofL_map]; simp

/-- The size of the first part. -/
def size0 (l : Layout) (w : Int) : Int := ((Layout.ofL w l.parts).headD (0, 1)).1

def offS (l : Layout) (w part : Int) : Int × Int :=
  if askS l w = 0 then
    if l.kind = 6 ∨ l.kind = 8 ∨ l.kind = 4 ∨ l.kind = 5 then
      if 0 ≤ part ∧ part < partsN l then
        if largeS l w = 0 then
          if l.kind = 6 then ((standS (Layout.ofL w l.parts)).1.getD part.toNat 0, 0) else if l.kind = 8 then (0, 0) else (part * size0 l w, 0)
        else (0, largeS l w)
      else (0, 4)
    else (0, 6)
  else (0, askS l w)

theorem stand_of {w : Int} (hw : w = 2 ∨ w = 4 ∨ w = 8) {l : Layout} (hv : l.Val w) (h6 : l.kind = 6) (b : Bool) :
    n_44 (l, ⟨w, b⟩, ()) = some ((standS (Layout.ofL w l.parts)).1, rmP (standS (Layout.ofL w l.parts)).2, ()) ∧ n_61 (l.parts, ⟨w, b⟩, ()) = some ((standS (Layout.ofL w l.parts)).1, plP (standS (Layout.ofL w l.parts)).2, ()) := by
  obtain ⟨k0, k12, _⟩ := right_kind hv.isS hv.small
  refine ⟨f44 w b l (by omega) (fun p hp => (hv.part hp).bnd hw) (by
    have := (hv.bnd hw).2.1
    simpa [Layout.of_eq w l, ofS, h6] using this) fun p hp => f59 w hw b p (hv.part hp), f61 w b l.parts (by omega) (fun p hp => (hv.part hp).bnd hw) fun p hp => f43 w hw b p (hv.part hp)⟩

theorem at_some {xs : List Int} {i : Int} (h0 : 0 ≤ i) (h : i < xs.length) : xs[i.toNat]? = some (xs.getD i.toNat 0) := by
  have : i.toNat < xs.length := by omega
  simp [this]

theorem mul_bnd {a n b m : Int} (h0 : 0 ≤ a) (h1 : a ≤ n) (h2 : 0 ≤ b) (h3 : b ≤ m) : 0 ≤ a * b ∧ a * b ≤ n * m := ⟨Int.mul_nonneg h0 h2, Int.mul_le_mul h1 h3 h2 (by omega)⟩

theorem f32 (l : Layout) (w : Int) (b : Bool) (part : Int) (hl : l.Fine) : n_32 (l, ⟨w, b⟩, part, ()) = some ((offS l w part).1, (offS l w part).2, ()) := by
  unfold n_32 offS
  simp only [f39 l w b hl, f63, Option.bind_eq_bind, Option.bind_some, Option.bind_none, if_true, if_false, Bool.false_eq_true, Bool.true_eq_false, Int.toNat_natCast, Int.natCast_nonneg, beq_iff_eq, decide_eq_true_eq, Int.ofNat_lt]
  by_cases h : askS l w = 0
  rotate_left
  · simp [h]
  obtain ⟨hw, hv⟩ := ask_val hl h
  obtain ⟨k0, k12, k2, k4, k5, k7, k8, k9⟩ := right_kind hv.isS hv.small
  simp only [h, bne_self_eq_false, Option.bind_eq_bind, Option.bind_some, Option.bind_none, if_true, if_false, Bool.false_eq_true, Bool.true_eq_false, Int.toNat_natCast, Int.natCast_nonneg, beq_iff_eq, decide_eq_true_eq, Int.ofNat_lt]
  by_cases hk : l.kind = 6 ∨ l.kind = 8 ∨ l.kind = 4 ∨ l.kind = 5
  rotate_left
  · have : partsN l = -1 := by unfold partsN; (repeat' split) <;> omega
    simp [hk, this]
  have hpn : ¬ partsN l < 0 := by
    unfold partsN
    have := fun h => (k5 h).1
    (repeat' split) <;> omega
  have h40 := f40 l w b hw hv
  simp only [hk, hpn, Option.bind_eq_bind, Option.bind_some, Option.bind_none, if_true, if_false, Bool.false_eq_true, Bool.true_eq_false, Int.toNat_natCast, Int.natCast_nonneg, beq_iff_eq, decide_eq_true_eq, Int.ofNat_lt]
  by_cases h0 : part < 0
  · have : ¬ (0 ≤ part ∧ part < partsN l) := by omega
    simp [h0, this]
  by_cases h1 : part ≥ partsN l
  · have : ¬ (0 ≤ part ∧ part < partsN l) := by omega
    simp [h0, h1, this]
  have h2 : 0 ≤ part ∧ part < partsN l := by omega
  simp only [h0, h1, h2, Option.bind_eq_bind, Option.bind_some, Option.bind_none, if_true, if_false, Bool.false_eq_true, Bool.true_eq_false, Int.toNat_natCast, Int.natCast_nonneg, beq_iff_eq, decide_eq_true_eq, Int.ofNat_lt, decide_false, and_self]
  by_cases hg : largeS l w = 0
  rotate_left
  · simp [h40, hg]
  rw [hg] at h40
  simp only [h40, hg, bne_self_eq_false, Option.bind_eq_bind, Option.bind_some, Option.bind_none, if_true, if_false, Bool.false_eq_true, Bool.true_eq_false, Int.toNat_natCast, Int.natCast_nonneg, beq_iff_eq, decide_eq_true_eq, Int.ofNat_lt]
  by_cases h6 : l.kind = 6
  · have hs := (stand_of hw hv h6 b).1
    have hlen : part < ((standS (Layout.ofL w l.parts)).1.length : Int) := by
      rw [stand_len, ofL_len]; have := h2.2; unfold partsN at this; rw [if_pos (.inl h6)] at this; exact this
    simp only [h6, Option.bind_eq_bind, Option.bind_some, Option.bind_none, if_true, if_false, Bool.false_eq_true, Bool.true_eq_false, Int.toNat_natCast, Int.natCast_nonneg, beq_iff_eq, decide_eq_true_eq, Int.ofNat_lt, hs, h2.1, at_some h2.1 hlen]
  by_cases h8 : l.kind = 8
  · simp [h8]
  have hmul : ∀ p, l.parts = [p] → part * (p.of w).1 ≤ 1000 * 100000000000 ∧ 0 ≤ part * (p.of w).1 := by
    intro p hp
    have hpm : p ∈ l.parts := by rw [hp]; exact List.mem_cons_self
    have hb := (hv.part hpm).bnd hw
    have : part ≤ 1000 := by
      have := h2.2
      unfold partsN at this
      by_cases h4 : l.kind = 4
      · rw [if_neg (by omega), if_pos h4] at this; omega
      · have h5 : l.kind = 5 := by omega
        rw [if_neg (by omega), if_neg h4, if_pos h5] at this
        have := (k5 h5).2
        omega
    exact ⟨(mul_bnd h2.1 this hb.1 hb.2.1).2, (mul_bnd h2.1 this hb.1 hb.2.1).1⟩
  obtain ⟨p, hp⟩ := k4 (by omega)
  have hpm : p ∈ l.parts := by rw [hp]; exact List.mem_cons_self
  have hm := hmul p hp
  have e1 : IntKind.i64.wrap (part * (p.of w).1) = part * (p.of w).1 := wrap64 (by omega) (by omega)
  have e0 : size0 l w = (p.of w).1 := by unfold size0; rw [hp]; rfl
  have hr := f59 w hw b p (hv.part hpm)
  by_cases h4 : l.kind = 4
  · simp [h4, hp, hr, rmP, e1, e0]
  · have h5 : l.kind = 5 := by omega
    simp [h5, hp, hr, rmP, e1, e0]

theorem f57 (l : Layout) (part : Int) (hs : l.isS = true) (hb : l.big = false) (hk : l.kind = 6 ∨ l.kind = 8 ∨ l.kind = 4 ∨ l.kind = 5) : n_57 (l, part, ()) = some (decide (0 ≤ part ∧ part < partsN l), ()) := by
  obtain ⟨k0, k12, k2, k4, k5, k7, k8, k9⟩ := right_kind hs hb
  unfold n_57
  have key : ∀ m : Int, m = partsN l - 1 → decide (0 ≤ part ∧ part ≤ m) = decide (0 ≤ part ∧ part < partsN l) := fun m h => decide_eq_decide.2 (by omega)
  by_cases h4 : l.kind = 4
  · have hp : partsN l = 2 := by unfold partsN; simp [h4]
    simp only [h4, Option.bind_eq_bind, Option.bind_some, Option.bind_none, if_true, if_false, Bool.false_eq_true, Bool.true_eq_false, Int.toNat_natCast, Int.natCast_nonneg, beq_iff_eq, decide_eq_true_eq, Int.ofNat_lt, f62]
    rw [key 1 (by omega)]
  by_cases h5 : l.kind = 5
  · have hp : partsN l = l.n := by unfold partsN; simp [h5]
    have := k5 h5
    have e : IntKind.i64.wrap (l.n - 1) = l.n - 1 := wrap64 (by omega) (by omega)
    simp only [h4, h5, Option.bind_eq_bind, Option.bind_some, Option.bind_none, if_true, if_false, Bool.false_eq_true, Bool.true_eq_false, Int.toNat_natCast, Int.natCast_nonneg, beq_iff_eq, decide_eq_true_eq, Int.ofNat_lt, f62, e]
    rw [key (l.n - 1) (by omega)]
    simp
  have h68 : l.kind = 6 ∨ l.kind = 8 := by omega
  have hp : partsN l = l.parts.length := by unfold partsN; simp [h68]
  have e : IntKind.i64.wrap ((l.parts.length : Int) - 1) = (l.parts.length : Int) - 1 := wrap64 (by omega) (by omega)
  simp only [h4, h5, Option.bind_eq_bind, Option.bind_some, Option.bind_none, if_true, if_false, Bool.false_eq_true, Bool.true_eq_false, Int.toNat_natCast, Int.natCast_nonneg, beq_iff_eq, decide_eq_true_eq, Int.ofNat_lt, f62, e]
  rw [key _ (by omega)]

theorem f33 (l : Layout) (w : Int) (b : Bool) (part : Int) (hl : l.Fine) : n_33 (l, ⟨w, b⟩, part, ()) = some ((offS l w part).1, (offS l w part).2, ()) := by
  unfold n_33 offS
  simp only [f41 l w b hl, Option.bind_eq_bind, Option.bind_some, Option.bind_none, if_true, if_false, Bool.false_eq_true, Bool.true_eq_false, Int.toNat_natCast, Int.natCast_nonneg, beq_iff_eq, decide_eq_true_eq, Int.ofNat_lt]
  by_cases h : askS l w = 0
  rotate_left
  · simp [h]
  obtain ⟨hw, hv⟩ := ask_val hl h
  obtain ⟨k0, k12, k2, k4, k5, k7, k8, k9⟩ := right_kind hv.isS hv.small
  simp only [h, bne_self_eq_false, Option.bind_eq_bind, Option.bind_some, Option.bind_none, if_true, if_false, Bool.false_eq_true, Bool.true_eq_false, Int.toNat_natCast, Int.natCast_nonneg, beq_iff_eq, decide_eq_true_eq, Int.ofNat_lt]
  by_cases hk : l.kind = 6 ∨ l.kind = 8 ∨ l.kind = 4 ∨ l.kind = 5
  rotate_left
  · have a6 : l.kind ≠ 6 := by omega
    have a8 : l.kind ≠ 8 := by omega
    have a4 : l.kind ≠ 4 := by omega
    have a5 : l.kind ≠ 5 := by omega
    simp [a6, a8, a4, a5]
  have hfirst : (if (l.kind != 6) = true then if (l.kind != 8) = true then if (l.kind != 4) = true then some (part, l.kind != 5, l, (⟨w, b⟩ : Target), ()) else some (part, false, l, ⟨w, b⟩, ()) else some (part, false, l, ⟨w, b⟩, ()) else some (part, false, l, ⟨w, b⟩, ())) = some (part, false, l, (⟨w, b⟩ : Target), ()) := by
    rcases hk with hk | hk | hk | hk <;> simp [hk]
  simp only [hfirst, Option.bind_eq_bind, Option.bind_some, Option.bind_none, if_true, if_false, Bool.false_eq_true, Bool.true_eq_false, Int.toNat_natCast, Int.natCast_nonneg, beq_iff_eq, decide_eq_true_eq, Int.ofNat_lt, f57 l part hv.isS hv.small hk, hk]
  by_cases h2 : 0 ≤ part ∧ part < partsN l
  rotate_left
  · simp [h2]
  have h42 := f42 l w b hw hv
  simp only [h2, and_self, decide_true, Bool.not_true, Option.bind_eq_bind, Option.bind_some, Option.bind_none, if_true, if_false, Bool.false_eq_true, Bool.true_eq_false, Int.toNat_natCast, Int.natCast_nonneg, beq_iff_eq, decide_eq_true_eq, Int.ofNat_lt]
  by_cases hg : largeS l w = 0
  rotate_left
  · simp [h42, hg]
  rw [hg] at h42
  simp only [h42, hg, bne_self_eq_false, Option.bind_eq_bind, Option.bind_some, Option.bind_none, if_true, if_false, Bool.false_eq_true, Bool.true_eq_false, Int.toNat_natCast, Int.natCast_nonneg, beq_iff_eq, decide_eq_true_eq, Int.ofNat_lt]
  unfold n_64
  have hlen12 : IntKind.i64.wrap ((l.parts.length : Int) - 1) = (l.parts.length : Int) - 1 := wrap64 (by omega) (by omega)
  by_cases h6 : l.kind = 6
  · have hs := (stand_of hw hv h6 b).2
    have hpn : part < l.parts.length := by have := h2.2; unfold partsN at this; rw [if_pos (.inl h6)] at this; exact this
    have hlen : part < ((standS (Layout.ofL w l.parts)).1.length : Int) := by rw [stand_len, ofL_len]; exact hpn
    have hi : (0 : Int) ≤ part ∧ part ≤ (l.parts.length : Int) - 1 := by omega
    simp only [h6, Option.bind_eq_bind, Option.bind_some, Option.bind_none, if_true, if_false, Bool.false_eq_true, Bool.true_eq_false, Int.toNat_natCast, Int.natCast_nonneg, beq_iff_eq, decide_eq_true_eq, Int.ofNat_lt, hs, h2.1, at_some h2.1 hlen, f62, hlen12, hi, and_self, decide_true, Bool.not_true]
  by_cases h8 : l.kind = 8
  · simp [h8, f62]
  obtain ⟨p, hp⟩ := k4 (by omega)
  have hpm : p ∈ l.parts := by rw [hp]; exact List.mem_cons_self
  have hb := (hv.part hpm).bnd hw
  have hpl : part ≤ 1000 := by
    have := h2.2
    unfold partsN at this
    by_cases h4 : l.kind = 4
    · rw [if_neg (by omega), if_pos h4] at this; omega
    · have h5 : l.kind = 5 := by omega
      rw [if_neg (by omega), if_neg h4, if_pos h5] at this
      have := (k5 h5).2
      omega
  have hm := mul_bnd h2.1 hpl hb.1 hb.2.1
  have e1 : IntKind.i64.wrap (part * (p.of w).1) = part * (p.of w).1 := wrap64 (by omega) (by omega)
  have e0 : size0 l w = (p.of w).1 := by unfold size0; rw [hp]; rfl
  have em : max part 0 = part := by omega
  have hr := f43 w hw b p (hv.part hpm)
  by_cases h4 : l.kind = 4
  · simp [h4, hp, hr, plP, e1, e0, em, f62]
  · have h5 : l.kind = 5 := by omega
    simp [h5, hp, hr, plP, e1, e0, em, f62]

theorem f34 (l : Layout) (w : Int) (b : Bool) (hl : l.Fine) : n_34 (l, ⟨w, b⟩, ()) = some ((offsS l w).1, (offsS l w).2, ()) := by
  unfold n_34 n_60 offsS
  simp only [f41 l w b hl, Option.bind_eq_bind, Option.bind_some, Option.bind_none, if_true, if_false, Bool.false_eq_true, Bool.true_eq_false, Int.toNat_natCast, Int.natCast_nonneg, beq_iff_eq, decide_eq_true_eq, Int.ofNat_lt]
  by_cases h : askS l w = 0
  · obtain ⟨hw, hv⟩ := ask_val hl h
    by_cases h6 : l.kind = 6
    · have hs := (stand_of hw hv h6 b).2
      by_cases hg : largeS l w = 0
      · simp [h, h6, f42 l w b hw hv, hg, hs]
      · simp [h, h6, f42 l w b hw hv, hg]
    · simp [h, h6]
  · simp [h]

theorem offs_len (l : Layout) (w : Int) (hl : l.Fits) : (offsS l w).1.length ≤ 9223372036854775807 := by
  unfold offsS
  split
  · split
    · split
      · rw [stand_len, ofL_len]; exact hl.len
      · simp
    · simp
  · simp

/-- THE LAW on offsets. -/
theorem law8 (l : Layout) (t : Target) (part : Int) (hl : l.Fits) : n_8 (l, t, part, ()) = some (true, ()) := by
  obtain ⟨w, b⟩ := t
  unfold n_8
  simp only [f11 l hl, Option.bind_eq_bind, Option.bind_some, Option.bind_none, if_true, if_false, Bool.false_eq_true, Bool.true_eq_false, Int.toNat_natCast, Int.natCast_nonneg, beq_iff_eq, decide_eq_true_eq, Int.ofNat_lt]
  cases ho : overS l
  · have hf := fine_of hl ho
    simp [f32 l w b part hf, f33 l w b part hf, f17 l w b hf, f34 l w b hf, f31 _ _ (offs_len l w hl), f12]
  · simp [f12]

theorem all_part {l p : Layout} (hp : p ∈ l.parts) : p.all.length ≤ l.all.length := by
  have : ∀ ps : List Layout, p ∈ ps → p.all.length ≤ (Layout.allL ps).length := by
    intro ps
    induction ps with
    | nil => intro h; cases h
    | cons q r ih =>
      intro h
      simp only [Layout.allL, List.length_append]
      rcases List.mem_cons.1 h with rfl | h
      · omega
      · have := ih h; omega
  rw [l.all_eq, List.length_cons]
  have := this l.parts hp
  omega
theorem fine_part {l p : Layout} (h : l.Fine) (hp : p ∈ l.parts) : p.Fine :=
  ⟨h.fits.part hp, by have := all_part hp; have := h.count; omega, by have := Layout.depth_mem hp; have := h.deep; omega⟩

theorem val_part {l p : Layout} (h : valS l = 0) (h6 : l.kind = 6) (hp : p ∈ l.parts) : valS p = 0 := by
  unfold valS at h ⊢
  split at h
  · cases h
  rename_i h1
  split at h
  · rename_i hr
    simp only [Bool.or_eq_true, decide_eq_true_eq, not_or] at h1
    obtain ⟨h1, h2⟩ := h1
    unfold Layout.large at h1
    simp only [Bool.or_eq_true, decide_eq_true_eq, not_or] at h1
    obtain ⟨⟨h3, h4⟩, h5⟩ := h1
    have h5 : l.all.any Layout.big = false := by simpa using h5
    have hal := all_part hp
    have hdp := Layout.depth_mem hp
    have hbg : p.all.any Layout.big = false := by
      rw [List.any_eq_false] at h5 ⊢
      exact fun x hx => h5 x (mem_part hp hx)
    have hrt : p.right = true := by
      rw [l.right_eq, Bool.and_eq_true, List.all_eq_true] at hr
      exact hr.2 p hp
    have hcl : p.cells ≤ l.cells := by
      have hsum : ∀ ps : List Layout, p ∈ ps → p.cells ≤ Layout.cellsL ps := by
        intro ps
        induction ps with
        | nil => intro h; cases h
        | cons q r ih =>
          intro h
          simp only [Layout.cellsL]
          have b1 := Layout.cellsL_nonneg r
          have b2 := q.cells_pos
          rcases List.mem_cons.1 h with rfl | h
          · omega
          · have := ih h; omega
      have b := hsum l.parts hp
      rw [l.cells_eq, if_neg (by omega)]
      omega
    have e1 : p.large = false := by
      unfold Layout.large
      rw [hbg, decide_eq_false (by omega), decide_eq_false (by omega)]; rfl
    rw [e1, decide_eq_false (by omega), hrt]
    simp
  · cases h

/-- Alignments are powers of two. -/
def pow8 (x : Int) : Prop := x = 1 ∨ x = 2 ∨ x = 4 ∨ x = 8

theorem pow_max {a b : Int} (ha : pow8 a) (hb : pow8 b) : pow8 (max a b) := by
  unfold pow8 at *; omega
theorem pow_min {a b : Int} (ha : pow8 a) (hb : pow8 b) : pow8 (min a b) := by
  unfold pow8 at *; omega
theorem pow_mod {a b : Int} (ha : pow8 a) (hb : pow8 b) (h : a ≤ b) : b.tmod a = 0 := by
  unfold pow8 at *
  rcases ha with rfl | rfl | rfl | rfl <;> rcases hb with rfl | rfl | rfl | rfl <;> first | rfl | omega

theorem standF_pow : ∀ (qs : List (Int × Int)) (s : List Int × Int × Int), (∀ q ∈ qs, pow8 q.2) → pow8 s.2.2 → pow8 (qs.foldl standF s).2.2 ∧ s.2.2 ≤ (qs.foldl standF s).2.2 ∧ ∀ q ∈ qs, q.2 ≤ (qs.foldl standF s).2.2
  | [], s, _, h => ⟨h, Int.le_refl _, fun q h => by cases h⟩
  | q :: r, s, hq, h => by
    obtain ⟨a, b, c⟩ := standF_pow r (standF s q) (fun x hx => hq x (List.mem_cons_of_mem _ hx)) (pow_max h (hq q List.mem_cons_self))
    rw [List.foldl_cons]
    have b' : max s.2.2 q.2 ≤ ((r.foldl standF (standF s q))).2.2 := b
    refine ⟨a, by omega, fun x hx => ?_⟩
    rcases List.mem_cons.1 hx with rfl | hx
    · omega
    · exact c x hx

theorem unionF_pow : ∀ (qs : List (Int × Int)) (s : Int × Int), (∀ q ∈ qs, pow8 q.2) → pow8 s.2 → pow8 (qs.foldl unionF s).2
  | [], s, _, h => h
  | q :: r, s, hq, h => unionF_pow r (unionF s q) (fun x hx => hq x (List.mem_cons_of_mem _ hx)) (pow_max h (hq q List.mem_cons_self))

theorem whole_pow {n : Int} (h : 1 ≤ n) : pow8 (wholeS n) := by unfold pow8 wholeS; omega

theorem of_pow {w : Int} (hw : w = 2 ∨ w = 4 ∨ w = 8) : ∀ l : Layout, l.Val w → pow8 (l.of w).2 := by
  refine Layout.ind fun l ih hv => ?_
  have hpw : pow8 w := by unfold pow8; omega
  obtain ⟨k0, k12, k2, k4, k5, k7, k8, k9⟩ := right_kind hv.isS hv.small
  have hq : ∀ q ∈ Layout.ofL w l.parts, pow8 q.2 := by
    intro q hq
    rw [Layout.ofL_map] at hq
    obtain ⟨p, hp, rfl⟩ := List.mem_map.1 hq
    exact ih p hp (hv.part hp)
  have hd : pow8 ((Layout.ofL w l.parts).headD (0, 1)).2 := by
    cases hp : Layout.ofL w l.parts with
    | nil => exact .inl rfl
    | cons q r => exact hq q (by rw [hp]; exact List.mem_cons_self)
  have h1 : pow8 1 := .inl rfl
  have h2 : pow8 2 := .inr (.inl rfl)
  rw [l.of_eq]
  unfold ofS
  split
  · exact h1
  split
  · exact h1
  split
  · rename_i hk
    have := whole_pow (k2 hk).1
    have e : max 1 (wholeS l.n) = wholeS l.n := by unfold pow8 at this; omega
    simp only [e]
    exact pow_min this hpw
  split
  · exact hpw
  split
  · exact hd
  split
  · exact hd
  split
  · exact (standF_pow _ _ hq h1).1
  split
  · split
    · exact h1
    · exact pow_min h2 hpw
  split
  · exact unionF_pow _ _ hq h1
  · have hnn := sumBits_nonneg l.parts
    by_cases hz : sumBits l.parts = 0
    · rw [hz]
      have : max 1 (min (wholeS 0) w) = 1 := by unfold wholeS; simp; omega
      simp only [this]
      exact h1
    · have := whole_pow (n := sumBits l.parts) (by omega)
      have h3 := pow_min this hpw
      have e : max 1 (min (wholeS (sumBits l.parts)) w) = min (wholeS (sumBits l.parts)) w := by unfold pow8 at h3; omega
      simp only [e]
      exact h3

theorem upS_mod {n m : Int} : (upS n m).tmod m = 0 := by unfold upS; exact Int.mul_tmod_left _ _

theorem f4l (l : Layout) (w : Int) (b : Bool) (hf : l.Fine) (h : askS l w = 0) (h6 : l.kind = 6) (hg : largeS l w = 0) :
    ∀ (m k : Nat) (s : List Int × Int × Int), l.parts.length - k = m → s.1.length = k → 0 ≤ s.2.1 → 1 ≤ s.2.2 → s.2.2 ≤ 8 → (Layout.ofL w (l.parts.drop k)).foldl standF s = (Layout.ofL w l.parts).foldl standF ([], 0, 1) →
    n_4l12 ((standS (Layout.ofL w l.parts)).1, (l.of w).1, (l.of w).2, s.2.1, k, l, ⟨w, b⟩, ()) = some (.inr ((l.of w).1, ((Layout.ofL w l.parts).foldl standF ([], 0, 1)).2.1, ())) := by
  obtain ⟨hw, hv⟩ := ask_val hf h
  obtain ⟨k0, k12, _⟩ := right_kind hv.isS hv.small
  have hlen : (standS (Layout.ofL w l.parts)).1.length = l.parts.length := by rw [stand_len, ofL_len]
  have hof : l.of w = (standS (Layout.ofL w l.parts)).2 := by rw [l.of_eq]; unfold ofS; simp [h6]
  have hsz : (l.of w).1 ≤ 4096 := by unfold largeS at hg; split at hg <;> omega
  have hq1 := ofL_bnd (w := w) (ps := l.parts) fun p hp => (hv.part hp).bnd hw
  have hqp : ∀ q ∈ Layout.ofL w l.parts, pow8 q.2 := by
    intro q hq
    rw [Layout.ofL_map] at hq
    obtain ⟨p, hp, rfl⟩ := List.mem_map.1 hq
    exact of_pow hw p (hv.part hp)
  have hend := standF_bnd (Layout.ofL w l.parts) ([], 0, 1) (fun q h => by have := hq1 q h; omega) (by simp) (by simp) (by simp)
  have hup := upS_bnd (n := ((Layout.ofL w l.parts).foldl standF ([], 0, 1)).2.1) (m := ((Layout.ofL w l.parts).foldl standF ([], 0, 1)).2.2) hend.1 hend.2.1
  have he1 : (l.of w).1 = upS ((Layout.ofL w l.parts).foldl standF ([], 0, 1)).2.1 ((Layout.ofL w l.parts).foldl standF ([], 0, 1)).2.2 := by rw [hof]; rfl
  have he2 : (l.of w).2 = ((Layout.ofL w l.parts).foldl standF ([], 0, 1)).2.2 := by rw [hof]; rfl
  have hpow := standF_pow (Layout.ofL w l.parts) ([], 0, 1) hqp (.inl rfl)
  have hask : valS l = 0 := by unfold askS at h; split at h <;> first | assumption | (rename_i h0; exact (h0 h).elim)
  intro m
  induction m with
  | zero =>
    intro k s hk hsl h1 h3 h4 ha
    have hlt : ¬ k < (standS (Layout.ofL w l.parts)).1.length := by omega
    have hd : l.parts.drop k = [] := drop_end (by omega)
    rw [hd] at ha
    simp only [Layout.ofL, List.foldl_nil] at ha
    rw [n_4l12]
    simp only [Option.bind_eq_bind, Option.bind_some, Option.bind_none, if_true, if_false, Bool.false_eq_true, Bool.true_eq_false, Int.toNat_natCast, Int.natCast_nonneg, beq_iff_eq, decide_eq_true_eq, Int.ofNat_lt, hlt, ha]
  | succ m ihm =>
    intro k s hk hsl h1 h3 h4 ha
    have hlt : k < l.parts.length := by omega
    have hlt' : k < (standS (Layout.ofL w l.parts)).1.length := by omega
    obtain ⟨p, hp1, hpm, hd, g1, g2⟩ := at_lt hlt
    have hvp := hv.part hpm
    have hbp := hvp.bnd hw
    rw [hd, Layout.ofL, List.foldl_cons] at ha
    have hu := upS_bnd (n := s.2.1) (m := (p.of w).2) h1 hbp.2.2.1
    -- where the part stands
    obtain ⟨t, ht, _⟩ := stand_pre (Layout.ofL w (l.parts.drop (k + 1))) (standF s (p.of w))
    have hat : (standS (Layout.ofL w l.parts)).1[k]? = some (upS s.2.1 (p.of w).2) := by
      have e : (standS (Layout.ofL w l.parts)).1 = s.1 ++ upS s.2.1 (p.of w).2 :: t := by
        unfold standS
        simp only []
        rw [← ha, ht]
        simp [standF]
      rw [e, List.getElem?_append_right (by omega)]
      simp [hsl]
    -- the end is not above the size
    have hqs := ofL_bnd (w := w) (ps := l.parts.drop (k + 1)) fun p hp => (hv.part (List.mem_of_mem_drop hp)).bnd hw
    have h5 := standF_bnd (Layout.ofL w (l.parts.drop (k + 1))) (standF s (p.of w)) (fun q h => by have := hqs q h; omega) (by simp only [standF]; omega) (by simp only [standF]; omega) (by simp only [standF]; omega)
    rw [ha] at h5
    have h51 := h5.1
    simp only [standF] at h51
    have hps : (p.of w).1 ≤ 4096 := by omega
    have hfp := fine_part hf hpm
    have hap : askS p w = 0 := by unfold askS; rw [val_part hask h6 hpm]; unfold valT; simp [hw]
    have hlp : largeS p w = 0 := by unfold largeS; rw [if_neg (by omega)]
    have hrp : roomS p w = p.of w := by unfold roomS; rw [if_neg (by omega)]
    have hs1 := f13 p w b hfp
    have hs2 := f15 p w b hfp
    have es1 : sizeS p w = ((p.of w).1, 0) := by unfold sizeS; rw [if_pos hap, hrp, hlp]
    have es2 : alignS p w = ((p.of w).2, 0) := by unfold alignS; rw [if_pos hap, hrp, hlp]
    rw [es1] at hs1
    rw [es2] at hs2
    have c1 : ¬ (p.of w).2 < 1 := by omega
    have c2 : ¬ (p.of w).2 = 0 := by omega
    have c3 : ¬ upS s.2.1 (p.of w).2 < s.2.1 := by omega
    have c4 : (l.of w).2.tmod (p.of w).2 = 0 := by
      refine pow_mod (of_pow hw p hvp) (of_pow hw l hv) ?_
      rw [he2]
      refine hpow.2.2 _ ?_
      rw [Layout.ofL_map]
      exact List.mem_map_of_mem hpm
    have e1 : IntKind.i64.wrap (upS s.2.1 (p.of w).2 + (p.of w).1) = upS s.2.1 (p.of w).2 + (p.of w).1 := wrap64 (by omega) (by omega)
    have hih := ihm (k + 1) (standF s (p.of w)) (by omega) (by simp [standF, hsl]) (by simp only [standF]; omega) (by simp only [standF]; omega) (by simp only [standF]; omega) ha
    rw [n_4l12]
    simp only [Option.bind_eq_bind, Option.bind_some, Option.bind_none, if_true, if_false, Bool.false_eq_true, Bool.true_eq_false, Int.toNat_natCast, Int.natCast_nonneg, beq_iff_eq, decide_eq_true_eq, Int.ofNat_lt, hlt', hp1, hs1, hs2, bne_self_eq_false, c1, c2, c3, c4, hat, upS_mod, decide_false, e1, wrap_succ hlt (by omega : l.parts.length ≤ 9223372036854775807)]
    exact hih

/-- THE LAW on alignments. -/
theorem law4 (l : Layout) (t : Target) (hl : l.Fits) : n_4 (l, t, ()) = some (true, ()) := by
  obtain ⟨w, b⟩ := t
  unfold n_4
  simp only [f11 l hl, Option.bind_eq_bind, Option.bind_some, Option.bind_none, if_true, if_false, Bool.false_eq_true, Bool.true_eq_false, Int.toNat_natCast, Int.natCast_nonneg, beq_iff_eq, decide_eq_true_eq, Int.ofNat_lt]
  cases ho : overS l
  rotate_left
  · simp [f12]
  have hf := fine_of hl ho
  simp only [Option.bind_eq_bind, Option.bind_some, Option.bind_none, if_true, if_false, Bool.false_eq_true, Bool.true_eq_false, Int.toNat_natCast, Int.natCast_nonneg, beq_iff_eq, decide_eq_true_eq, Int.ofNat_lt, f17 l w b hf, f13 l w b hf, f15 l w b hf]
  by_cases h : askS l w = 0
  rotate_left
  · simp [offsS, sizeS, alignS, h, f12]
  obtain ⟨hw, hv⟩ := ask_val hf h
  by_cases h6 : l.kind = 6
  rotate_left
  · simp [offsS, sizeS, alignS, h, h6, f12]
  by_cases hg : largeS l w = 0
  rotate_left
  · simp [offsS, sizeS, alignS, h, h6, hg, f12]
  have hsz : (l.of w).1 ≤ 4096 := by unfold largeS at hg; split at hg <;> omega
  have hr : roomS l w = l.of w := by unfold roomS; rw [if_neg (by omega)]
  have e1 : offsS l w = ((standS (Layout.ofL w l.parts)).1, 0) := by unfold offsS; rw [if_pos h, if_pos h6, if_pos hg]
  have e2 : sizeS l w = ((l.of w).1, 0) := by unfold sizeS; rw [if_pos h, hr, hg]
  have e3 : alignS l w = ((l.of w).2, 0) := by unfold alignS; rw [if_pos h, hr, hg]
  have hlen : (standS (Layout.ofL w l.parts)).1.length = l.parts.length := by rw [stand_len, ofL_len]
  have hb := hv.bnd hw
  have hof : l.of w = (standS (Layout.ofL w l.parts)).2 := by rw [l.of_eq]; unfold ofS; simp [h6]
  have c1 : ¬ (l.of w).2 < 1 := by omega
  have c2 : ¬ (l.of w).2 = 0 := by omega
  have c3 : (l.of w).1.tmod (l.of w).2 = 0 := by rw [hof]; unfold standS; exact upS_mod
  have hloop := f4l l w b hf h h6 hg _ 0 ([], 0, 1) rfl rfl (by simp) (by simp) (by simp) rfl
  simp only [Int.natCast_zero, Int.ofNat_eq_natCast, List.drop_zero] at hloop
  have hq1 := ofL_bnd (w := w) (ps := l.parts) fun p hp => (hv.part hp).bnd hw
  have hend := standF_bnd (Layout.ofL w l.parts) ([], 0, 1) (fun q h => by have := hq1 q h; omega) (by simp) (by simp) (by simp)
  have hup := upS_bnd (n := ((Layout.ofL w l.parts).foldl standF ([], 0, 1)).2.1) (m := ((Layout.ofL w l.parts).foldl standF ([], 0, 1)).2.2) hend.1 hend.2.1
  have c4 : ((Layout.ofL w l.parts).foldl standF ([], 0, 1)).2.1 ≤ (l.of w).1 := by rw [hof]; exact hup.1
  simp only [e1, e2, e3, hlen, bne_self_eq_false, c1, c2, c3, c4, Option.bind_eq_bind, Option.bind_some, Option.bind_none, if_true, if_false, Bool.false_eq_true, Bool.true_eq_false, Int.toNat_natCast, Int.natCast_nonneg, beq_iff_eq, decide_eq_true_eq, Int.ofNat_lt, decide_false, decide_true, hloop, f12]

theorem layOffsets_true (l : Layout) (t : Target) (n : Int) (h0 : Go.Tx.Ok vw (.st .layoutT) l) (h1 : Go.Tx.Ok vw (.st .targetT) t) (h2 : Go.Tx.Ok vw (.int .i64) n) : n_8 (l, t, n, ()) = some (true, ()) := law8 l t n (fits_of_ok l h0)
theorem layAligns_true (l : Layout) (t : Target) (h0 : Go.Tx.Ok vw (.st .layoutT) l) (h1 : Go.Tx.Ok vw (.st .targetT) t) : n_4 (l, t, ()) = some (true, ()) := law4 l t (fits_of_ok l h0)

end Go.Proofs.Ytdknkfioigcfiaa
