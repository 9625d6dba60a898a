/-
  What the functions on layouts compute: places; sizes, alignments, offsets; the laws LaySizes and LayValidates.
-/
import Derived.Test.YtdknkfioigcfiaaLwH
namespace Go.Proofs.Ytdknkfioigcfiaa
set_option linter.unusedSimpArgs false
set_option linter.unusedVariables false
set_option maxRecDepth 20000

def plP (q : Int × Int) : Place := ⟨q.1, q.2⟩
def rmP (q : Int × Int) : Room := ⟨q.1, q.2⟩

/-- The specification's Stand, its loop. -/
theorem f61l (w : Int) (b : Bool) (pl : Place) (ps : List Layout) (hn : ps.length ≤ 10000) (hb : ∀ p ∈ ps, 0 ≤ (p.of w).1 ∧ (p.of w).1 ≤ 100000000000 ∧ 1 ≤ (p.of w).2 ∧ (p.of w).2 ≤ 8)
    (hp : ∀ p ∈ ps, n_43 (p, ⟨w, b⟩, ()) = some (plP (p.of w), ())) : ∀ (m k : Nat) (s : List Int × Int × Int), ps.length - k = m → s.1.length = k → 0 ≤ s.2.1 → s.2.1 ≤ k * 100000000008 → 1 ≤ s.2.2 → s.2.2 ≤ 8 →
    n_61l4 (ps, s.2.1, s.2.2, k, ⟨w, b⟩, pl, s.1, ()) = some (((Layout.ofL w (ps.drop k)).foldl standF s).2.1, ((Layout.ofL w (ps.drop k)).foldl standF s).2.2, pl, ((Layout.ofL w (ps.drop k)).foldl standF s).1, ()) := by
  intro m
  induction m with
  | zero =>
    intro k s hk hsl h1 h2 h3 h4
    have hlt : ¬ k < ps.length := by omega
    obtain ⟨hd, g1⟩ := at_end hlt
    rw [n_61l4]
    simp only [Option.bind_eq_bind, Option.bind_some, Option.bind_none, if_true, if_false, Bool.false_eq_true, Bool.true_eq_false, Int.toNat_natCast, Int.natCast_nonneg, beq_iff_eq, decide_eq_true_eq, Int.ofNat_lt, hlt, hd, Layout.ofL, List.foldl_nil]
  | succ m ihm =>
    intro k s hk hsl h1 h2 h3 h4
    have hlt : k < ps.length := by omega
    obtain ⟨p, hp1, hm, hd, g1, g2⟩ := at_lt hlt
    have hb1 := hb p hm
    have hu := upS_bnd (n := s.2.1) (m := (p.of w).2) h1 hb1.2.2.1
    have e1 : IntKind.i64.wrap (upS s.2.1 (p.of w).2 + (p.of w).1) = upS s.2.1 (p.of w).2 + (p.of w).1 := wrap64 (by omega) (by omega)
    have e2 : s.1.length + [upS s.2.1 (p.of w).2].length ≤ 4294967296 := by simp; omega
    rw [n_61l4, hd, Layout.ofL, List.foldl_cons]
    have hih := ihm (k + 1) (standF s (p.of w)) (by omega) (by simp [standF, hsl]) (by simp only [standF]; omega) (by simp only [standF]; omega) (by simp only [standF]; omega) (by simp only [standF]; omega)
    simp only [Option.bind_eq_bind, Option.bind_some, Option.bind_none, if_true, if_false, Bool.false_eq_true, Bool.true_eq_false, Int.toNat_natCast, Int.natCast_nonneg, beq_iff_eq, decide_eq_true_eq, Int.ofNat_lt, g1, g2, hlt, hp1, hp p hm, plP, f70 h1 (show s.2.1 ≤ 4611686018427387904 by omega) hb1.2.2.1 (show (p.of w).2 ≤ 1000000 by omega), e1, e2, wrap_succ hlt (Nat.le_trans hn (by decide))]
    exact hih

theorem ofL_bnd {w : Int} {ps : List Layout} (hb : ∀ p ∈ ps, 0 ≤ (p.of w).1 ∧ (p.of w).1 ≤ 100000000000 ∧ 1 ≤ (p.of w).2 ∧ (p.of w).2 ≤ 8) : ∀ q ∈ Layout.ofL w ps, 0 ≤ q.1 ∧ q.1 ≤ 100000000000 ∧ 1 ≤ q.2 ∧ q.2 ≤ 8 := by
  intro q hq
  rw [Layout.ofL_map] at hq
  obtain ⟨p, hpm, rfl⟩ := List.mem_map.1 hq
  exact hb p hpm

theorem f61 (w : Int) (b : Bool) (ps : List Layout) (hn : ps.length ≤ 10000) (hb : ∀ p ∈ ps, 0 ≤ (p.of w).1 ∧ (p.of w).1 ≤ 100000000000 ∧ 1 ≤ (p.of w).2 ∧ (p.of w).2 ≤ 8)
    (hp : ∀ p ∈ ps, n_43 (p, ⟨w, b⟩, ()) = some (plP (p.of w), ())) : n_61 (ps, ⟨w, b⟩, ()) = some ((standS (Layout.ofL w ps)).1, plP (standS (Layout.ofL w ps)).2, ()) := by
  have h := f61l w b ⟨0, 0⟩ ps hn hb hp _ 0 ([], 0, 1) rfl rfl (by simp) (by simp) (by simp) (by simp)
  simp only [Int.natCast_zero, Int.ofNat_eq_natCast, List.drop_zero] at h
  have hq := ofL_bnd hb
  have h1 := standF_bnd (Layout.ofL w ps) ([], 0, 1) (fun q h => by have := hq q h; omega) (by simp) (by simp) (by simp)
  have h2 := standF_ub 100000000000 (by omega) (Layout.ofL w ps) ([], 0, 1) (fun q h => by have := hq q h; omega) (by simp)
  have h3 : (Layout.ofL w ps).length = ps.length := by rw [Layout.ofL_map]; simp
  rw [h3] at h2
  have h4 : (ps.length : Int) * (100000000000 + 8) ≤ 10000 * (100000000000 + 8) := Int.mul_le_mul_of_nonneg_right (by omega) (by omega)
  simp only [] at h1 h2
  rw [n_61]
  simp only [h, Option.bind_eq_bind, Option.bind_some, Option.bind_none, if_true, if_false, Bool.false_eq_true, Bool.true_eq_false, Int.toNat_natCast, Int.natCast_nonneg, beq_iff_eq, decide_eq_true_eq, Int.ofNat_lt, f70 h1.1 (by omega) h1.2.1 (show _ ≤ 1000000 by omega)]
  rfl

theorem f43 (w : Int) (hw : w = 2 ∨ w = 4 ∨ w = 8) (b : Bool) : ∀ l : Layout, l.Val w → n_43 (l, ⟨w, b⟩, ()) = some (plP (l.of w), ()) := by
  refine Layout.ind fun l ih hv => ?_
  obtain ⟨k0, k12, k2, k4, k5, k7, k8, k9⟩ := right_kind hv.isS hv.small
  rw [n_43, l.of_eq]
  by_cases h0 : l.kind = 0
  · simp [h0, ofS, plP]
  by_cases h1 : l.kind = 1
  · simp [h1, ofS, plP]
  by_cases h2 : l.kind = 2
  · simp [h2, ofS, plP, f69 (w := w) (k2 h2).2 (show (0 : Int) ≤ l.n by have := k2 h2; omega)]
  by_cases h3 : l.kind = 3
  · simp [h3, ofS, plP]
  by_cases h4 : l.kind = 4
  · obtain ⟨p, hp⟩ := k4 (.inl h4)
    have hpm : p ∈ l.parts := by rw [hp]; exact List.mem_cons_self
    have hb := (hv.part hpm).bnd hw
    have e1 : IntKind.i64.wrap ((p.of w).1 + 1) = (p.of w).1 + 1 := wrap64 (by omega) (by omega)
    simp [h4, hp, ofS, Layout.ofL, ih p hpm (hv.part hpm), plP, e1, f70 (show 0 ≤ (p.of w).1 + 1 by omega) (by omega) hb.2.2.1 (show _ ≤ 1000000 by omega)]
  by_cases h5 : l.kind = 5
  · obtain ⟨p, hp⟩ := k4 (.inr h5)
    have hpm : p ∈ l.parts := by rw [hp]; exact List.mem_cons_self
    have hb := (hv.part hpm).bnd hw
    have b3 : 0 ≤ l.n * (p.of w).1 := Int.mul_nonneg (k5 h5).1 hb.1
    have b4 : l.n * (p.of w).1 ≤ 1000 * 100000000000 := Int.mul_le_mul (k5 h5).2 hb.2.1 hb.1 (by decide)
    have e1 : IntKind.i64.wrap (l.n * (p.of w).1) = l.n * (p.of w).1 := wrap64 (by omega) (by omega)
    simp [h5, hp, ofS, Layout.ofL, ih p hpm (hv.part hpm), plP, e1]
  by_cases h6 : l.kind = 6
  · have h := f61 w b l.parts (by omega) (fun p hp => (hv.part hp).bnd hw) fun p hp => ih p hp (hv.part hp)
    simp [h6, ofS, h]
  by_cases h7 : l.kind = 7
  · by_cases hn : l.n ≤ 256 <;> simp [h7, ofS, plP, hn]
  by_cases h8 : l.kind = 8
  · have loop : ∀ (m k : Nat) (s : Int × Int), l.parts.length - k = m → n_43l26 (k, l, ⟨w, b⟩, ⟨0, 0⟩, plP s, ()) = some (⟨0, 0⟩, plP ((Layout.ofL w (l.parts.drop k)).foldl unionF s), ()) := by
      intro m
      induction m with
      | zero =>
        intro k s hk
        have hlt : ¬ k < l.parts.length := by omega
        obtain ⟨hd, g1⟩ := at_end hlt
        rw [n_43l26]
        simp only [Option.bind_eq_bind, Option.bind_some, Option.bind_none, if_true, if_false, Bool.false_eq_true, Bool.true_eq_false, Int.toNat_natCast, Int.natCast_nonneg, beq_iff_eq, decide_eq_true_eq, Int.ofNat_lt, hlt, hd, Layout.ofL, List.foldl_nil]
      | succ m ihm =>
        intro k s hk
        have hlt : k < l.parts.length := by omega
        obtain ⟨p, hp1, hm, hd, g1, g2⟩ := at_lt hlt
        rw [n_43l26, hd, Layout.ofL, List.foldl_cons]
        simp only [Option.bind_eq_bind, Option.bind_some, Option.bind_none, if_true, if_false, Bool.false_eq_true, Bool.true_eq_false, Int.toNat_natCast, Int.natCast_nonneg, beq_iff_eq, decide_eq_true_eq, Int.ofNat_lt, g1, g2, hlt, hp1, ih p hm (hv.part hm), wrap_succ hlt hv.fits.len]
        exact ihm (k + 1) (unionF s (p.of w)) (by omega)
    have h := loop _ 0 (0, 1) rfl
    simp only [Int.natCast_zero, Int.ofNat_eq_natCast, List.drop_zero] at h
    have hq := ofL_bnd (w := w) (ps := l.parts) fun p hp => (hv.part hp).bnd hw
    have u2 := unionF_bnd (Layout.ofL w l.parts) (0, 1) (fun q h => by have := hq q h; omega) (by simp) (by simp) (by simp)
    have u3 := unionF_ub 100000000000 (Layout.ofL w l.parts) (0, 1) (fun q h => (hq q h).2.1) (by simp)
    have hf : plP (0, 1) = ⟨0, 1⟩ := rfl
    simp only [] at u2
    have e1 : IntKind.i64.wrap ((unionS (Layout.ofL w l.parts)).1 + 1) = (unionS (Layout.ofL w l.parts)).1 + 1 := by unfold unionS; exact wrap64 (by omega) (by omega)
    have h7' := f70 (n := (unionS (Layout.ofL w l.parts)).1 + 1) (m := (unionS (Layout.ofL w l.parts)).2) (by unfold unionS; omega) (by unfold unionS; omega) u2.2.1 (by unfold unionS; omega)
    rw [hf] at h
    simp only [h0, h1, h2, h3, h4, h5, h6, h7, h8, Option.bind_eq_bind, Option.bind_some, Option.bind_none, if_true, if_false, Bool.false_eq_true, Bool.true_eq_false, Int.toNat_natCast, Int.natCast_nonneg, beq_iff_eq, decide_eq_true_eq, Int.ofNat_lt, h]
    have e2 : (plP ((Layout.ofL w l.parts).foldl unionF (0, 1))).size = (unionS (Layout.ofL w l.parts)).1 := rfl
    have e3 : (plP ((Layout.ofL w l.parts).foldl unionF (0, 1))).align = (unionS (Layout.ofL w l.parts)).2 := rfl
    rw [e2, e3, e1, h7']
    simp [ofS, plP]
  · have h9 : l.kind = 9 := by omega
    have hbits := k9 h9
    have hsat : satBits l.parts = sumBits l.parts := by have := satBits_eq l.parts; omega
    have hnn := sumBits_nonneg l.parts
    have h52 := f52 l hv.fits.len
    rw [hsat] at h52
    have h69 := f69 (n := sumBits l.parts) (w := w) hbits hnn
    by_cases hz : sumBits l.parts = 0
    · rw [hz] at h52
      simp [h9, ofS, h52, hz, wholeS, plP]
      omega
    · have hwb := (wholeS_bnd hnn).2.2 (by omega)
      have e1 : max 1 (wholeS (sumBits l.parts)) = wholeS (sumBits l.parts) := by omega
      have e2 : max 1 (min (wholeS (sumBits l.parts)) w) = min (wholeS (sumBits l.parts)) w := by omega
      simp [h9, ofS, h52, hz, h69, plP, e1, e2]

/-- The program's placed, its loop. -/
theorem f44l (w : Int) (b : Bool) (rm : Room) (ps : List Layout) (hn : ps.length ≤ 10000) (hb : ∀ p ∈ ps, 0 ≤ (p.of w).1 ∧ (p.of w).1 ≤ 100000000000 ∧ 1 ≤ (p.of w).2 ∧ (p.of w).2 ≤ 8)
    (hp : ∀ p ∈ ps, n_59 (p, ⟨w, b⟩, ()) = some (rmP (p.of w), ())) : ∀ (m k : Nat) (s : List Int × Int × Int), ps.length - k = m → s.1.length = k → 0 ≤ s.2.1 → ((Layout.ofL w (ps.drop k)).foldl standF s).2.1 ≤ 100000000000 → 1 ≤ s.2.2 → s.2.2 ≤ 8 →
    n_44l4 (s.2.1, s.2.2, ps, ps.length, k, ⟨w, b⟩, rm, s.1, ()) = some (((Layout.ofL w (ps.drop k)).foldl standF s).2.1, ((Layout.ofL w (ps.drop k)).foldl standF s).2.2, rm, ((Layout.ofL w (ps.drop k)).foldl standF s).1, ()) := by
  intro m
  induction m with
  | zero =>
    intro k s hk hsl h1 h2 h3 h4
    have hlt : ¬ k < ps.length := by omega
    obtain ⟨hd, g1⟩ := at_end hlt
    rw [n_44l4]
    simp only [Option.bind_eq_bind, Option.bind_some, Option.bind_none, if_true, if_false, Bool.false_eq_true, Bool.true_eq_false, Int.toNat_natCast, Int.natCast_nonneg, beq_iff_eq, decide_eq_true_eq, Int.ofNat_lt, hlt, hd, Layout.ofL, List.foldl_nil]
  | succ m ihm =>
    intro k s hk hsl h1 h2 h3 h4
    have hlt : k < ps.length := by omega
    obtain ⟨p, hp1, hm, hd, g1, g2⟩ := at_lt hlt
    have hb1 := hb p hm
    have hu := upS_bnd (n := s.2.1) (m := (p.of w).2) h1 hb1.2.2.1
    rw [hd, Layout.ofL, List.foldl_cons] at h2
    have hqs := ofL_bnd (w := w) (ps := ps.drop (k + 1)) fun p hp => hb p (List.mem_of_mem_drop hp)
    have h5 := standF_bnd (Layout.ofL w (ps.drop (k + 1))) (standF s (p.of w)) (fun q h => by have := hqs q h; omega) (by simp only [standF]; omega) (by simp only [standF]; omega) (by simp only [standF]; omega)
    have hmono : upS s.2.1 (p.of w).2 + (p.of w).1 ≤ 100000000000 := by
      have h6 := h5.1
      simp only [standF] at h6 h2
      omega
    have e2 : s.1.length + [upS s.2.1 (p.of w).2].length ≤ 4294967296 := by simp; omega
    have e3 : min far (upS s.2.1 (p.of w).2 + (p.of w).1) = upS s.2.1 (p.of w).2 + (p.of w).1 := by unfold far; omega
    rw [n_44l4, hd, Layout.ofL, List.foldl_cons]
    have hih := ihm (k + 1) (standF s (p.of w)) (by omega) (by simp [standF, hsl]) (by simp only [standF]; omega) h2 (by simp only [standF]; omega) (by simp only [standF]; omega)
    simp only [Option.bind_eq_bind, Option.bind_some, Option.bind_none, if_true, if_false, Bool.false_eq_true, Bool.true_eq_false, Int.toNat_natCast, Int.natCast_nonneg, beq_iff_eq, decide_eq_true_eq, Int.ofNat_lt, g1, g2, hlt, hp1, hp p hm, rmP, f71 h1 (show s.2.1 ≤ 4611686018427387904 by omega) hb1.2.2.1 (show (p.of w).2 ≤ 1000000 by omega), f72p (show 0 ≤ upS s.2.1 (p.of w).2 by omega) hb1.1, e2, e3, wrap_succ hlt (Nat.le_trans hn (by decide))]
    exact hih

theorem f44 (w : Int) (b : Bool) (l : Layout) (hn : l.parts.length ≤ 10000) (hb : ∀ p ∈ l.parts, 0 ≤ (p.of w).1 ∧ (p.of w).1 ≤ 100000000000 ∧ 1 ≤ (p.of w).2 ∧ (p.of w).2 ≤ 8)
    (hsz : (standS (Layout.ofL w l.parts)).2.1 ≤ 100000000000)
    (hp : ∀ p ∈ l.parts, n_59 (p, ⟨w, b⟩, ()) = some (rmP (p.of w), ())) : n_44 (l, ⟨w, b⟩, ()) = some ((standS (Layout.ofL w l.parts)).1, rmP (standS (Layout.ofL w l.parts)).2, ()) := by
  have hq := ofL_bnd hb
  have h1 := standF_bnd (Layout.ofL w l.parts) ([], 0, 1) (fun q h => by have := hq q h; omega) (by simp) (by simp) (by simp)
  have h2 := upS_bnd (n := ((Layout.ofL w l.parts).foldl standF ([], 0, 1)).2.1) (m := ((Layout.ofL w l.parts).foldl standF ([], 0, 1)).2.2) h1.1 h1.2.1
  have hend : ((Layout.ofL w l.parts).foldl standF ([], 0, 1)).2.1 ≤ 100000000000 := by
    unfold standS at hsz
    simp only [] at hsz
    omega
  have h := f44l w b ⟨0, 0⟩ l.parts hn hb hp _ 0 ([], 0, 1) rfl rfl (by simp) (by simpa using hend) (by simp) (by simp)
  simp only [Int.natCast_zero, Int.ofNat_eq_natCast, List.drop_zero] at h
  simp only [] at h1
  rw [n_44]
  simp only [h, Option.bind_eq_bind, Option.bind_some, Option.bind_none, if_true, if_false, Bool.false_eq_true, Bool.true_eq_false, Int.toNat_natCast, Int.natCast_nonneg, beq_iff_eq, decide_eq_true_eq, Int.ofNat_lt, f71 h1.1 (by omega) h1.2.1 (show _ ≤ 1000000 by omega)]
  rfl

theorem f59 (w : Int) (hw : w = 2 ∨ w = 4 ∨ w = 8) (b : Bool) : ∀ l : Layout, l.Val w → n_59 (l, ⟨w, b⟩, ()) = some (rmP (l.of w), ()) := by
  refine Layout.ind fun l ih hv => ?_
  obtain ⟨k0, k12, k2, k4, k5, k7, k8, k9⟩ := right_kind hv.isS hv.small
  have hvb := hv.bnd hw
  rw [l.of_eq] at hvb
  rw [n_59, l.of_eq]
  have hf : far = 1099511627776 := rfl
  by_cases h1 : l.kind = 1
  · simp [h1, ofS, rmP]
  by_cases h2 : l.kind = 2
  · have hk := k2 h2
    have hwb := (wholeS_bnd (n := l.n) (by omega)).2.2 hk.1
    have e1 : max 1 (wholeS l.n) = wholeS l.n := by omega
    simp [h2, ofS, rmP, f77 hk.2 (show (0 : Int) ≤ l.n by omega), e1]
  by_cases h3 : l.kind = 3
  · simp [h3, ofS, rmP]
  by_cases h4 : l.kind = 4
  · obtain ⟨p, hp⟩ := k4 (.inl h4)
    have hpm : p ∈ l.parts := by rw [hp]; exact List.mem_cons_self
    have hb := (hv.part hpm).bnd hw
    have e1 : min far ((p.of w).1 + 1) = (p.of w).1 + 1 := by omega
    simp [h4, hp, ofS, Layout.ofL, ih p hpm (hv.part hpm), rmP, f72p hb.1 (show (0 : Int) ≤ 1 by omega), e1, f71 (show 0 ≤ (p.of w).1 + 1 by omega) (by omega) hb.2.2.1 (show _ ≤ 1000000 by omega)]
  by_cases h5 : l.kind = 5
  · obtain ⟨p, hp⟩ := k4 (.inr h5)
    have hpm : p ∈ l.parts := by rw [hp]; exact List.mem_cons_self
    have hb := (hv.part hpm).bnd hw
    have b3 : 0 ≤ l.n * (p.of w).1 := Int.mul_nonneg (k5 h5).1 hb.1
    have b4 : l.n * (p.of w).1 ≤ 100000000000 := by
      have := hvb.2.1
      simpa [ofS, h5, hp, Layout.ofL] using this
    have e1 : IntKind.i64.wrap (l.n * (p.of w).1) = l.n * (p.of w).1 := wrap64 (by omega) (by omega)
    have e2 : min 1099511627776 (l.n * (p.of w).1) = l.n * (p.of w).1 := by omega
    simp [h5, hp, ofS, Layout.ofL, ih p hpm (hv.part hpm), rmP, e1, e2]
  by_cases h6 : l.kind = 6
  · have h := f44 w b l (by omega) (fun p hp => (hv.part hp).bnd hw) (by
      have := hvb.2.1
      simpa [ofS, h6] using this) fun p hp => ih p hp (hv.part hp)
    simp [h6, ofS, h]
  by_cases h7 : l.kind = 7
  · by_cases hn : l.n ≤ 256
    · have : ¬ l.n > 256 := by omega
      simp [h7, ofS, rmP, hn, this]
      omega
    · have : l.n > 256 := by omega
      simp [h7, ofS, rmP, hn, this]
  by_cases h8 : l.kind = 8
  · have loop : ∀ (m k : Nat) (s : Int × Int), l.parts.length - k = m → n_59l25 (l.parts, l.parts.length, k, ⟨w, b⟩, ⟨0, 0⟩, rmP s, ()) = some (⟨0, 0⟩, rmP ((Layout.ofL w (l.parts.drop k)).foldl unionF s), ()) := by
      intro m
      induction m with
      | zero =>
        intro k s hk
        have hlt : ¬ k < l.parts.length := by omega
        obtain ⟨hd, g1⟩ := at_end hlt
        rw [n_59l25]
        simp only [Option.bind_eq_bind, Option.bind_some, Option.bind_none, if_true, if_false, Bool.false_eq_true, Bool.true_eq_false, Int.toNat_natCast, Int.natCast_nonneg, beq_iff_eq, decide_eq_true_eq, Int.ofNat_lt, hlt, hd, Layout.ofL, List.foldl_nil]
      | succ m ihm =>
        intro k s hk
        have hlt : k < l.parts.length := by omega
        obtain ⟨p, hp1, hm, hd, g1, g2⟩ := at_lt hlt
        rw [n_59l25, hd, Layout.ofL, List.foldl_cons]
        simp only [Option.bind_eq_bind, Option.bind_some, Option.bind_none, if_true, if_false, Bool.false_eq_true, Bool.true_eq_false, Int.toNat_natCast, Int.natCast_nonneg, beq_iff_eq, decide_eq_true_eq, Int.ofNat_lt, g1, g2, hlt, hp1, ih p hm (hv.part hm), wrap_succ hlt hv.fits.len]
        exact ihm (k + 1) (unionF s (p.of w)) (by omega)
    have h := loop _ 0 (0, 1) rfl
    simp only [Int.natCast_zero, Int.ofNat_eq_natCast, List.drop_zero] at h
    have hq := ofL_bnd (w := w) (ps := l.parts) fun p hp => (hv.part hp).bnd hw
    have u2 := unionF_bnd (Layout.ofL w l.parts) (0, 1) (fun q h => by have := hq q h; omega) (by simp) (by simp) (by simp)
    have u3 := unionF_ub 100000000000 (Layout.ofL w l.parts) (0, 1) (fun q h => (hq q h).2.1) (by simp)
    have hf2 : rmP (0, 1) = ⟨0, 1⟩ := rfl
    simp only [] at u2
    have e1 : min far ((unionS (Layout.ofL w l.parts)).1 + 1) = (unionS (Layout.ofL w l.parts)).1 + 1 := by unfold unionS; omega
    have h72 := f72p (a := (unionS (Layout.ofL w l.parts)).1) (b := 1) (by unfold unionS; omega) (by omega)
    have h7' := f71 (n := (unionS (Layout.ofL w l.parts)).1 + 1) (m := (unionS (Layout.ofL w l.parts)).2) (by unfold unionS; omega) (by unfold unionS; omega) u2.2.1 (by unfold unionS; omega)
    rw [hf2] at h
    simp only [h1, h2, h3, h4, h5, h6, h7, h8, Option.bind_eq_bind, Option.bind_some, Option.bind_none, if_true, if_false, Bool.false_eq_true, Bool.true_eq_false, Int.toNat_natCast, Int.natCast_nonneg, beq_iff_eq, decide_eq_true_eq, Int.ofNat_lt, h]
    have e2 : (rmP ((Layout.ofL w l.parts).foldl unionF (0, 1))).size = (unionS (Layout.ofL w l.parts)).1 := rfl
    have e3 : (rmP ((Layout.ofL w l.parts).foldl unionF (0, 1))).align = (unionS (Layout.ofL w l.parts)).2 := rfl
    rw [e2, e3, h72]
    simp only [Option.bind_some, e1, h7']
    simp [ofS, rmP]
  by_cases h9 : l.kind = 9
  · have hbits := k9 h9
    have hnn := sumBits_nonneg l.parts
    have h55 := f55 l hv.fits.len (by omega)
    simp [h9, ofS, rmP, h55, f77 hbits hnn]
  · have h0 : l.kind = 0 := by omega
    simp [h0, ofS, rmP]

theorem f22 (w : Int) (b : Bool) : n_22 (⟨w, b⟩, ()) = some (valT w, ()) := by
  unfold n_22 valT
  by_cases h2 : w = 2
  · simp [h2]
  by_cases h4 : w = 4
  · simp [h4]
  by_cases h8 : w = 8
  · simp [h8]
  · have e8 : (w != 8) = true := by simp [h8]
    simp [h2, h4, h8, e8]
theorem f23 (w : Int) (b : Bool) : n_23 (⟨w, b⟩, ()) = some (valT w, ()) := by
  unfold n_23 valT
  by_cases h2 : w = 2
  · simp [h2]
  by_cases h4 : w = 4
  · simp [h4]
  by_cases h8 : w = 8
  · simp [h8]
  · have e8 : (w != 8) = true := by simp [h8]
    simp [h2, h4, h8, e8]

theorem f39 (l : Layout) (w : Int) (b : Bool) (hl : l.Fine) : n_39 (l, ⟨w, b⟩, ()) = some (askS l w, ()) := by
  unfold n_39 askS
  simp only [f20 l hl.fits hl.count hl.deep, f22, Option.bind_eq_bind, Option.bind_some, Option.bind_none, if_true, if_false, Bool.false_eq_true, Bool.true_eq_false, Int.toNat_natCast, Int.natCast_nonneg, beq_iff_eq, decide_eq_true_eq, Int.ofNat_lt]
  by_cases h : valS l = 0 <;> simp [h]
theorem f41 (l : Layout) (w : Int) (b : Bool) (hl : l.Fine) : n_41 (l, ⟨w, b⟩, ()) = some (askS l w, ()) := by
  unfold n_41 askS
  simp only [f21 l hl.fits hl.count hl.deep, f23, Option.bind_eq_bind, Option.bind_some, Option.bind_none, if_true, if_false, Bool.false_eq_true, Bool.true_eq_false, Int.toNat_natCast, Int.natCast_nonneg, beq_iff_eq, decide_eq_true_eq, Int.ofNat_lt]
  by_cases h : valS l = 0 <;> simp [h]

theorem f42 (l : Layout) (w : Int) (b : Bool) (hw : w = 2 ∨ w = 4 ∨ w = 8) (hv : l.Val w) : n_42 (l, ⟨w, b⟩, ()) = some (largeS l w, ()) := by
  unfold n_42 largeS
  simp only [f43 w hw b l hv, Option.bind_eq_bind, Option.bind_some, Option.bind_none, if_true, if_false, Bool.false_eq_true, Bool.true_eq_false, Int.toNat_natCast, Int.natCast_nonneg, beq_iff_eq, decide_eq_true_eq, Int.ofNat_lt, plP]
  by_cases h : (l.of w).1 > 4096 <;> simp [h]
theorem f40 (l : Layout) (w : Int) (b : Bool) (hw : w = 2 ∨ w = 4 ∨ w = 8) (hv : l.Val w) : n_40 (l, ⟨w, b⟩, ()) = some (largeS l w, rmP (roomS l w), ()) := by
  unfold n_40 largeS roomS
  simp only [f59 w hw b l hv, Option.bind_eq_bind, Option.bind_some, Option.bind_none, if_true, if_false, Bool.false_eq_true, Bool.true_eq_false, Int.toNat_natCast, Int.natCast_nonneg, beq_iff_eq, decide_eq_true_eq, Int.ofNat_lt, rmP]
  by_cases h : (l.of w).1 > 4096 <;> simp [h]

theorem f13 (l : Layout) (w : Int) (b : Bool) (hl : l.Fine) : n_13 (l, ⟨w, b⟩, ()) = some ((sizeS l w).1, (sizeS l w).2, ()) := by
  unfold n_13 sizeS
  simp only [f39 l w b hl, Option.bind_eq_bind, Option.bind_some, Option.bind_none, if_true, if_false, Bool.false_eq_true, Bool.true_eq_false, Int.toNat_natCast, Int.natCast_nonneg, beq_iff_eq, decide_eq_true_eq, Int.ofNat_lt]
  by_cases h : askS l w = 0
  · obtain ⟨hw, hv⟩ := ask_val hl h
    simp [h, f40 l w b hw hv, rmP]
  · simp [h]
theorem f15 (l : Layout) (w : Int) (b : Bool) (hl : l.Fine) : n_15 (l, ⟨w, b⟩, ()) = some ((alignS l w).1, (alignS l w).2, ()) := by
  unfold n_15 alignS
  simp only [f39 l w b hl, Option.bind_eq_bind, Option.bind_some, Option.bind_none, if_true, if_false, Bool.false_eq_true, Bool.true_eq_false, Int.toNat_natCast, Int.natCast_nonneg, beq_iff_eq, decide_eq_true_eq, Int.ofNat_lt]
  by_cases h : askS l w = 0
  · obtain ⟨hw, hv⟩ := ask_val hl h
    simp [h, f40 l w b hw hv, rmP]
  · simp [h]
theorem f14 (l : Layout) (w : Int) (b : Bool) (hl : l.Fine) : n_14 (l, ⟨w, b⟩, ()) = some ((sizeS l w).1, (sizeS l w).2, ()) := by
  unfold n_14 sizeS
  simp only [f41 l w b hl, Option.bind_eq_bind, Option.bind_some, Option.bind_none, if_true, if_false, Bool.false_eq_true, Bool.true_eq_false, Int.toNat_natCast, Int.natCast_nonneg, beq_iff_eq, decide_eq_true_eq, Int.ofNat_lt]
  by_cases h : askS l w = 0
  · obtain ⟨hw, hv⟩ := ask_val hl h
    by_cases hg : (l.of w).1 > 4096
    · have e : largeS l w = 3 := by simp [largeS, hg]
      have f := f42 l w b hw hv
      rw [e] at f
      simp [h, f, e, roomS, hg]
    · have e : largeS l w = 0 := by simp [largeS, hg]
      have f := f42 l w b hw hv
      rw [e] at f
      simp [h, f, e, roomS, hg, f43 w hw b l hv, plP]
  · simp [h]
theorem f16 (l : Layout) (w : Int) (b : Bool) (hl : l.Fine) : n_16 (l, ⟨w, b⟩, ()) = some ((alignS l w).1, (alignS l w).2, ()) := by
  unfold n_16 alignS
  have f := f14 l w b hl
  simp only [f, Option.bind_eq_bind, Option.bind_some, Option.bind_none, if_true, if_false, Bool.false_eq_true, Bool.true_eq_false, Int.toNat_natCast, Int.natCast_nonneg, beq_iff_eq, decide_eq_true_eq, Int.ofNat_lt]
  by_cases h : askS l w = 0
  · obtain ⟨hw, hv⟩ := ask_val hl h
    by_cases hg : (l.of w).1 > 4096
    · have e : largeS l w = 3 := by simp [largeS, hg]
      simp [sizeS, h, e, roomS, hg]
    · have e : largeS l w = 0 := by simp [largeS, hg]
      simp [sizeS, h, e, roomS, hg, f43 w hw b l hv, plP]
  · simp [sizeS, h]

theorem f17 (l : Layout) (w : Int) (b : Bool) (hl : l.Fine) : n_17 (l, ⟨w, b⟩, ()) = some ((offsS l w).1, (offsS l w).2, ()) := by
  unfold n_17 offsS
  simp only [f39 l w b hl, Option.bind_eq_bind, Option.bind_some, Option.bind_none, if_true, if_false, Bool.false_eq_true, Bool.true_eq_false, Int.toNat_natCast, Int.natCast_nonneg, beq_iff_eq, decide_eq_true_eq, Int.ofNat_lt]
  by_cases h : askS l w = 0
  · obtain ⟨hw, hv⟩ := ask_val hl h
    by_cases h6 : l.kind = 6
    · by_cases hg : largeS l w = 0
      · obtain ⟨k0, k12, _⟩ := right_kind hv.isS hv.small
        have f := f44 w b l (by omega) (fun p hp => (hv.part hp).bnd hw) (by
          have := (hv.bnd hw).2.1
          simpa [Layout.of_eq w l, ofS, h6] using this) fun p hp => f59 w hw b p (hv.part hp)
        simp [h, h6, f40 l w b hw hv, hg, f]
      · simp [h, h6, f40 l w b hw hv, hg]
    · simp [h, h6]
  · simp [h]

theorem f31l (xs ys : List Int) (hlen : xs.length = ys.length) (hn : xs.length ≤ 9223372036854775807) (k : Nat) : n_31l4 (xs, ys, k, ()) = some (if xs.drop k = ys.drop k then .inr () else .inl (false, ())) := by
  rw [n_31l4]
  by_cases hlt : k < xs.length
  · obtain ⟨x, hx, hxm, hd, g1, g2⟩ := at_lt hlt
    obtain ⟨y, hy, hym, hd', g3, g4⟩ := at_lt (xs := ys) (k := k) (by omega)
    rw [hd, hd']
    by_cases he : x = y
    · subst he
      simp only [Option.bind_eq_bind, Option.bind_some, Option.bind_none, if_true, if_false, Bool.false_eq_true, Bool.true_eq_false, Int.toNat_natCast, Int.natCast_nonneg, beq_iff_eq, decide_eq_true_eq, Int.ofNat_lt, g1, g2, hlt, hx, hy, bne_self_eq_false, wrap_succ hlt hn, List.cons.injEq, true_and]
      exact f31l xs ys hlen hn (k + 1)
    · have e : (x != y) = true := by simp [he]
      simp only [Option.bind_eq_bind, Option.bind_some, Option.bind_none, if_true, if_false, Bool.false_eq_true, Bool.true_eq_false, Int.toNat_natCast, Int.natCast_nonneg, beq_iff_eq, decide_eq_true_eq, Int.ofNat_lt, g1, g2, hlt, hx, hy, e, he, List.cons.injEq, false_and]
  · obtain ⟨hd, g1⟩ := at_end hlt
    have hd' : ys.drop k = [] := drop_end (by omega)
    simp only [Option.bind_eq_bind, Option.bind_some, Option.bind_none, if_true, if_false, Bool.false_eq_true, Bool.true_eq_false, Int.toNat_natCast, Int.natCast_nonneg, beq_iff_eq, decide_eq_true_eq, Int.ofNat_lt, hlt, hd, hd']
termination_by xs.length - k

theorem f31 (xs ys : List Int) (hn : xs.length ≤ 9223372036854775807) : n_31 (xs, ys, ()) = some (decide (xs = ys), ()) := by
  unfold n_31
  by_cases hlen : xs.length = ys.length
  · have h := f31l xs ys hlen hn 0
    simp only [Int.natCast_zero, Int.ofNat_eq_natCast, List.drop_zero] at h
    have e : ((xs.length : Int) != (ys.length : Int)) = false := by simp [hlen]
    simp only [e, Option.bind_eq_bind, Option.bind_some, Option.bind_none, if_true, if_false, Bool.false_eq_true, Bool.true_eq_false, Int.toNat_natCast, Int.natCast_nonneg, beq_iff_eq, decide_eq_true_eq, Int.ofNat_lt, h]
    by_cases he : xs = ys <;> simp [he]
  · have e : ((xs.length : Int) != (ys.length : Int)) = true := by simp; omega
    have : ¬ xs = ys := fun h => hlen (by rw [h])
    simp only [e, Option.bind_eq_bind, Option.bind_some, Option.bind_none, if_true, if_false, Bool.false_eq_true, Bool.true_eq_false, Int.toNat_natCast, Int.natCast_nonneg, beq_iff_eq, decide_eq_true_eq, Int.ofNat_lt, this, decide_false]

theorem f12 : n_12 () = some (true, ()) := by
  have a := f17 lay1 4 false fine1
  have b := f13 lay2 4 false fine2
  rw [offs1] at a
  rw [size2] at b
  unfold lay1 at a
  unfold lay2 at b
  have c := f31 [0, 4] [0, 4] (by simp)
  unfold n_12
  simp only [a, b, c, Option.bind_eq_bind, Option.bind_some, Option.bind_none, if_true, if_false, Bool.false_eq_true, Bool.true_eq_false, Int.toNat_natCast, Int.natCast_nonneg, beq_iff_eq, decide_eq_true_eq, Int.ofNat_lt, decide_true, beq_self_eq_true]

/-- THE LAW on sizes. -/
theorem law3 (l : Layout) (t : Target) (hl : l.Fits) : n_3 (l, t, ()) = some (true, ()) := by
  obtain ⟨w, b⟩ := t
  unfold n_3
  simp only [f11 l hl, Option.bind_eq_bind, Option.bind_some, Option.bind_none, if_true, if_false, Bool.false_eq_true, Bool.true_eq_false, Int.toNat_natCast, Int.natCast_nonneg, beq_iff_eq, decide_eq_true_eq, Int.ofNat_lt]
  cases ho : overS l
  · have hf := fine_of hl ho
    simp [f13 l w b hf, f14 l w b hf, f15 l w b hf, f16 l w b hf, f12]
  · simp [f12]

theorem f18 (l : Layout) (hl : l.Fine) : n_18 (l, ()) = some ((countS l).1, (countS l).2.1, (countS l).2.2, ()) := by
  have hc := hl.count
  have hd := hl.deep
  unfold n_18 countS
  simp only [f20 l hl.fits hl.count hl.deep, Option.bind_eq_bind, Option.bind_some, Option.bind_none, if_true, if_false, Bool.false_eq_true, Bool.true_eq_false, Int.toNat_natCast, Int.natCast_nonneg, beq_iff_eq, decide_eq_true_eq, Int.ofNat_lt]
  by_cases h : valS l = 0
  · have f := f45 l 1 0 0 false hl.fits (by omega) (by omega) (by omega) (by omega)
    have hlk := look_fine l 1 0 0 (by omega)
    have hlarge := look_large l
    rw [large_of_val h] at hlarge
    obtain ⟨e1, e2⟩ := hlk.2 hlarge
    simp [h, f, cntS, e1, e2]
  · simp [h]
theorem f19 (l : Layout) (hl : l.Fine) : n_19 (l, ()) = some ((countS l).1, (countS l).2.1, (countS l).2.2, ()) := by
  have hc := hl.count
  have hd := hl.deep
  unfold n_19 countS
  simp only [f21 l hl.fits hl.count hl.deep, Option.bind_eq_bind, Option.bind_some, Option.bind_none, if_true, if_false, Bool.false_eq_true, Bool.true_eq_false, Int.toNat_natCast, Int.natCast_nonneg, beq_iff_eq, decide_eq_true_eq, Int.ofNat_lt, f46 l hl.fits (by omega), f47 l hl.fits (by omega)]
  by_cases h : valS l = 0 <;> simp [h]

/-- THE LAW on validity. -/
theorem law5 (l : Layout) (t : Target) (hl : l.Fits) : n_5 (l, t, ()) = some (true, ()) := by
  obtain ⟨w, b⟩ := t
  unfold n_5
  simp only [f11 l hl, Option.bind_eq_bind, Option.bind_some, Option.bind_none, if_true, if_false, Bool.false_eq_true, Bool.true_eq_false, Int.toNat_natCast, Int.natCast_nonneg, beq_iff_eq, decide_eq_true_eq, Int.ofNat_lt]
  cases ho : overS l
  · have hf := fine_of hl ho
    simp [f18 l hf, f19 l hf, f20 l hl hf.count hf.deep, f21 l hl hf.count hf.deep, f22, f23, f12]
  · simp [f12]

end Go.Proofs.Ytdknkfioigcfiaa
