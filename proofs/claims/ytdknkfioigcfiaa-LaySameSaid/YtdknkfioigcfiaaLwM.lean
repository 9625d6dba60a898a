/-
  Layouts: what the document says of them, in plain Lean.
-/
import Derived.Test.YtdknkfioigcfiaaView
namespace Go.Proofs.Ytdknkfioigcfiaa
set_option linter.unusedSimpArgs false
set_option linter.unusedVariables false
set_option maxRecDepth 20000

mutual
/-- How deep a layout is. -/
def Layout.depth : Layout → Nat
  | .mk _ _ _ ps => Layout.depthL ps + 1
def Layout.depthL : List Layout → Nat
  | [] => 0
  | p :: r => max (Layout.depth p) (Layout.depthL r)
end

mutual
/-- A layout and all in it. -/
def Layout.all : Layout → List Layout
  | .mk k n f ps => .mk k n f ps :: Layout.allL ps
def Layout.allL : List Layout → List Layout
  | [] => []
  | p :: r => Layout.all p ++ Layout.allL r
end

theorem Layout.depth_eq (l : Layout) : l.depth = Layout.depthL l.parts + 1 := by cases l; rfl

theorem Layout.all_eq (l : Layout) : l.all = l :: Layout.allL l.parts := by cases l; rfl

theorem Layout.depthL_mem : ∀ {ps : List Layout} {p : Layout}, p ∈ ps → p.depth ≤ Layout.depthL ps
  | q :: r, p, h => by
    rw [Layout.depthL]
    rcases List.mem_cons.1 h with rfl | h
    · omega
    · have := Layout.depthL_mem h; omega

theorem Layout.depth_mem {l p : Layout} (h : p ∈ l.parts) : p.depth < l.depth := by
  rw [l.depth_eq]; have := Layout.depthL_mem h; omega

theorem Layout.allL_mem {q : Layout} : ∀ {ps : List Layout} {p : Layout}, p ∈ ps → q ∈ p.all → q ∈ Layout.allL ps
  | p' :: r, p, h, hq => by
    rw [Layout.allL, List.mem_append]
    rcases List.mem_cons.1 h with rfl | h
    · exact .inl hq
    · exact .inr (Layout.allL_mem h hq)

/-- The numbers are numbers of the machine, and so are the lengths. -/
def Layout.fit (l : Layout) : Prop := (-9223372036854775808 ≤ l.kind ∧ l.kind ≤ 9223372036854775807) ∧ (-9223372036854775808 ≤ l.n ∧ l.n ≤ 9223372036854775807) ∧ l.parts.length ≤ 9223372036854775807

/-- So for all in it. -/
def Layout.Fits (l : Layout) : Prop := ∀ q ∈ l.all, q.fit

theorem Layout.Fits.self {l : Layout} (h : l.Fits) : l.fit := h l (by rw [l.all_eq]; exact List.mem_cons_self)

theorem Layout.Fits.len {l : Layout} (h : l.Fits) : l.parts.length ≤ 9223372036854775807 := h.self.2.2

theorem Layout.Fits.part {l p : Layout} (h : l.Fits) (hp : p ∈ l.parts) : p.Fits := fun q hq => h q (by rw [l.all_eq]; exact List.mem_cons_of_mem _ (Layout.allL_mem hp hq))

theorem wrap64 {x : Int} (h1 : -9223372036854775808 ≤ x) (h2 : x ≤ 9223372036854775807) : IntKind.i64.wrap x = x := by
  unfold IntKind.wrap
  simp only [IntKind.bits, IntKind.signed, Bool.true_and]
  split <;> rename_i h <;> simp at h <;> omega

/-- The next one of a list. -/
theorem drop_step {α : Type} {l : List α} {k : Nat} (h : k < l.length) : ∃ p, l[k]? = some p ∧ p ∈ l ∧ l.drop k = p :: l.drop (k + 1) :=
  ⟨l[k], List.getElem?_eq_getElem h, List.getElem_mem h, List.drop_eq_getElem_cons h⟩

theorem drop_end {α : Type} {l : List α} {k : Nat} (h : ¬ k < l.length) : l.drop k = [] := List.drop_eq_nil_of_le (by omega)

theorem lt_true {k n : Nat} (h : k < n) : decide ((k : Int) < (n : Int)) = true := by simpa using h

theorem lt_false {k n : Nat} (h : ¬ k < n) : decide ((k : Int) < (n : Int)) = false := by simpa using h

theorem wrap_succ {k n : Nat} (h : k < n) (hn : n ≤ 9223372036854775807) : IntKind.i64.wrap ((k : Int) + 1) = ((k + 1 : Nat) : Int) := by rw [wrap64 (by omega) (by omega)]; omega

def depthS : Nat → Layout → Int
  | 0, _ => 1
  | n + 1, l => l.parts.foldl (fun a p => max a (depthS n p)) 0 + 1

theorem foldl_max_le {α : Type} {f : α → Int} {l : List α} {b : Int} : ∀ {a : Int}, 0 ≤ a → a ≤ b → (∀ x ∈ l, f x ≤ b) → 0 ≤ l.foldl (fun a p => max a (f p)) a ∧ l.foldl (fun a p => max a (f p)) a ≤ b := by
  induction l with
  | nil => intro a h0 h1 _; exact ⟨h0, h1⟩
  | cons x r ih =>
    intro a h0 h1 h2
    exact ih (by simp only []; omega) (by have := h2 x List.mem_cons_self; simp only []; omega) fun y hy => h2 y (List.mem_cons_of_mem _ hy)

theorem depthS_le : ∀ (n : Nat) (l : Layout), 1 ≤ depthS n l ∧ depthS n l ≤ n + 1
  | 0, l => by simp [depthS]
  | n + 1, l => by
    have := foldl_max_le (f := depthS n) (l := l.parts) (a := 0) (b := n + 1) (by omega) (by omega) fun p _ => (depthS_le n p).2
    simp only [depthS]; omega

def bitsS (l : Layout) : Int := if l.kind = 1 then 1 else if l.kind = 2 then max l.n 0 else 0

/-- A number up to a multiple. -/
def upS (n m : Int) : Int := (n + m - 1).tdiv m * m

theorem tdiv_bnd {n m : Int} (h : 0 ≤ n) (h' : 1 ≤ m) : 0 ≤ n.tdiv m ∧ n.tdiv m * m ≤ n ∧ n < n.tdiv m * m + m := by
  have h1 := Int.tdiv_eq_ediv_of_nonneg (b := m) h
  rw [h1]
  refine ⟨Int.ediv_nonneg h (by omega), Int.ediv_mul_le n (by omega), ?_⟩
  have := Int.lt_ediv_add_one_mul_self n (b := m) (by omega)
  rw [Int.add_mul, Int.one_mul] at this; exact this

theorem upS_bnd {n m : Int} (h : 0 ≤ n) (h' : 1 ≤ m) : n ≤ upS n m ∧ upS n m < n + m := by
  have := tdiv_bnd (n := n + m - 1) (m := m) (by omega) h'
  unfold upS; omega

theorem upS_step {n m : Int} (h : 0 ≤ n) (h' : 1 ≤ m) (hr : n.tmod m ≠ 0) : upS (n + 1) m = upS n m := by
  have e1 : n + 1 + m - 1 = n + m := by omega
  unfold upS
  rw [e1, Int.tdiv_eq_ediv_of_nonneg (by omega), Int.tdiv_eq_ediv_of_nonneg (by omega)]
  have hn : n % m ≠ 0 := by rwa [Int.tmod_eq_emod_of_nonneg h] at hr
  have b1 := Int.emod_nonneg n (b := m) (by omega)
  have b2 := Int.emod_lt_of_pos n (b := m) (by omega)
  have e2 : n = m * (n / m) + n % m := (Int.mul_ediv_add_emod n m).symm
  have k1 : (n + m) / m = n / m + 1 := by rw [Int.add_ediv_of_dvd_right ⟨1, by omega⟩, Int.ediv_self (by omega)]
  have k2 : (n + m - 1) / m = n / m + 1 := by
    have : n + m - 1 = (n % m - 1) + m * (n / m + 1) := by rw [Int.mul_add]; omega
    rw [this, Int.add_mul_ediv_left _ _ (by omega), Int.ediv_eq_zero_of_lt (by omega) (by omega)]; omega
  rw [k1, k2]

theorem upS_end {n m : Int} (h : 0 ≤ n) (h' : 1 ≤ m) (hr : n.tmod m = 0) : upS n m = n := by
  unfold upS
  rw [Int.tdiv_eq_ediv_of_nonneg (by omega)]
  have hn : n % m = 0 := by rwa [Int.tmod_eq_emod_of_nonneg h] at hr
  have e2 : n = m * (n / m) + n % m := (Int.mul_ediv_add_emod n m).symm
  have k2 : (n + m - 1) / m = n / m := by
    have : n + m - 1 = (m - 1) + m * (n / m) := by omega
    rw [this, Int.add_mul_ediv_left _ _ (by omega), Int.ediv_eq_zero_of_lt (by omega) (by omega)]; omega
  rw [k2, Int.mul_comm]; omega

theorem Layout.ind {P : Layout → Prop} (h : ∀ l : Layout, (∀ p ∈ l.parts, P p) → P l) : ∀ l, P l := by
  have : ∀ (d : Nat) (l : Layout), l.depth ≤ d → P l := by
    intro d
    induction d with
    | zero => intro l hl; rw [l.depth_eq] at hl; omega
    | succ d ih => intro l hl; exact h l fun p hp => ih p (by have := Layout.depth_mem hp; omega)
  exact fun l => this l.depth l (Nat.le_refl _)

def wholeS (n : Int) : Int := if n = 0 then 0 else if n ≤ 8 then 1 else if n ≤ 16 then 2 else if n ≤ 32 then 4 else 8

def far : Int := 1099511627776

def sumS (xs : List Int) : Int := xs.foldl (fun n x => min far (n + min x far)) 0

theorem sumS2 (a b : Int) (ha : 0 ≤ a) (hb : 0 ≤ b) : sumS [a, b] = min far (a + b) := by simp [sumS, far]; omega

/-- The bits of a packed layout. -/
def sumBits : List Layout → Int
  | [] => 0
  | p :: r => bitsS p + sumBits r

theorem bitsS_nonneg (p : Layout) : 0 ≤ bitsS p := by unfold bitsS; repeat' split <;> omega

theorem sumBits_nonneg : ∀ ps : List Layout, 0 ≤ sumBits ps
  | [] => by simp [sumBits]
  | p :: r => by have := bitsS_nonneg p; have := sumBits_nonneg r; simp only [sumBits]; omega

/-- The specification's bits: many are too many. -/
def satBits (ps : List Layout) : Int := ps.foldl (fun n p => min (n + min (bitsS p) 1000) 100000) 0

theorem satBits_of : ∀ (ps : List Layout) (a b : Int), 0 ≤ a → (a = b ∧ a ≤ 64 ∨ 64 < a ∧ 64 < b) →
    (let x := ps.foldl (fun n p => min (n + min (bitsS p) 1000) 100000) a; let y := b + sumBits ps; x = y ∧ x ≤ 64 ∨ 64 < x ∧ 64 < y)
  | [], a, b, ha, h => by simpa [sumBits] using h
  | p :: r, a, b, ha, h => by
    have b1 := bitsS_nonneg p
    have := satBits_of r (min (a + min (bitsS p) 1000) 100000) (b + bitsS p) (by omega) (by omega)
    simp only [List.foldl_cons, sumBits] at this ⊢
    rw [← Int.add_assoc]; exact this

theorem satBits_eq (ps : List Layout) : satBits ps = sumBits ps ∧ satBits ps ≤ 64 ∨ 64 < satBits ps ∧ 64 < sumBits ps := by
  have := satBits_of ps 0 0 (by omega) (by omega)
  simpa [satBits] using this

mutual
/-- The cells of a layout. -/
def Layout.cells : Layout → Int
  | .mk k n _ ps => (if k = 5 then max 0 n * Layout.cellsL ps else Layout.cellsL ps) + 1
def Layout.cellsL : List Layout → Int
  | [] => 0
  | p :: r => Layout.cells p + Layout.cellsL r
end

theorem Layout.cells_eq (l : Layout) : l.cells = (if l.kind = 5 then max 0 l.n * Layout.cellsL l.parts else Layout.cellsL l.parts) + 1 := by cases l; rfl

theorem Layout.cellsL_of {ps : List Layout} (h : ∀ p ∈ ps, 1 ≤ p.cells) : 0 ≤ Layout.cellsL ps := by
  induction ps with
  | nil => simp [Layout.cellsL]
  | cons p r ih =>
    have := h p List.mem_cons_self
    have := ih fun q hq => h q (List.mem_cons_of_mem _ hq)
    simp only [Layout.cellsL]; omega

theorem Layout.cells_pos : ∀ l : Layout, 1 ≤ l.cells := by
  refine Layout.ind fun l ih => ?_
  have h := Layout.cellsL_of ih
  rw [l.cells_eq]
  split
  · have := Int.mul_nonneg (a := max 0 l.n) (by omega) h
    omega
  · omega

theorem Layout.cellsL_nonneg (ps : List Layout) : 0 ≤ Layout.cellsL ps := Layout.cellsL_of fun p _ => p.cells_pos

/-- No array is too long. -/
def Layout.arr (l : Layout) : Prop := ∀ q ∈ l.all, q.kind = 5 → q.n ≤ 1000000

theorem Layout.arr.part {l p : Layout} (h : l.arr) (hp : p ∈ l.parts) : p.arr := fun q hq => h q (by rw [l.all_eq]; exact List.mem_cons_of_mem _ (Layout.allL_mem hp hq))

theorem Layout.arr.self {l : Layout} (h : l.arr) : l.kind = 5 → l.n ≤ 1000000 := h l (by rw [l.all_eq]; exact List.mem_cons_self)

theorem sat_mul {a n m : Int} (hn : 0 ≤ n) (h : 0 ≤ m) (ha : 1 ≤ a) : min a (1 + n * min a m) = min a (n * m + 1) := by
  by_cases hm : m ≤ a
  · have e : min a m = m := by omega
    rw [e, Int.add_comm]
  · have e : min a m = a := by omega
    rw [e]
    by_cases h0 : n = 0
    · subst h0; simp
    · have h1 : 1 ≤ n := by omega
      have h2 : a ≤ n * a := by have := Int.mul_le_mul_of_nonneg_right h1 (show 0 ≤ a by omega); omega
      have h3 : m ≤ n * m := by have := Int.mul_le_mul_of_nonneg_right h1 h; omega
      omega

theorem sat_mul' {a n m : Int} (hn : 0 ≤ n) (h : 0 ≤ m) (ha : 1 ≤ a) : min (min n a * min a m + 1) a = min a (n * m + 1) := by
  by_cases h0 : m = 0
  · subst h0
    have : min a 0 = 0 := by omega
    rw [this]; simp; omega
  by_cases hn' : n ≤ a
  · rw [Int.min_eq_left hn', ← sat_mul hn h ha]; omega
  · have e : min n a = a := by omega
    rw [e]
    have h1 : 1 ≤ min a m := by omega
    have h2 : a ≤ a * min a m := by have := Int.mul_le_mul_of_nonneg_left h1 (show 0 ≤ a by omega); omega
    have h3 : n ≤ n * m := by have := Int.mul_le_mul_of_nonneg_left (show 1 ≤ m by omega) hn; omega
    omega

mutual
/-- The law's own counting. -/
def Layout.count : Layout → Int → Int
  | .mk _ _ _ ps, n => Layout.countL ps n 1
def Layout.countL : List Layout → Int → Int → Int
  | [], _, out => out
  | p :: r, n, out => if out < n then Layout.countL r n (out + Layout.count p (n - out)) else out
end

theorem Layout.count_eq (l : Layout) (n : Int) : l.count n = Layout.countL l.parts n 1 := by cases l; rfl

theorem Layout.countL_le {ps : List Layout} (h : ∀ p ∈ ps, ∀ n, 1 ≤ p.count n ∧ p.count n ≤ max 1 n) (n : Int) : ∀ out, 1 ≤ out → out ≤ Layout.countL ps n out ∧ Layout.countL ps n out ≤ max out n := by
  induction ps with
  | nil => intro out h1; simp only [Layout.countL]; omega
  | cons p r ih =>
    intro out h1
    simp only [Layout.countL]
    split
    · have h2 := h p List.mem_cons_self (n - out)
      have := ih (fun q hq => h q (List.mem_cons_of_mem _ hq)) (out + p.count (n - out)) (by omega)
      omega
    · omega

theorem Layout.count_le : ∀ (l : Layout) (n : Int), 1 ≤ l.count n ∧ l.count n ≤ max 1 n := by
  refine Layout.ind fun l ih n => ?_
  rw [l.count_eq]
  have := Layout.countL_le ih n 1 (by omega)
  omega

theorem Layout.countL_full {ps : List Layout} (h : ∀ p ∈ ps, ∀ n, p.count n < n → p.count n = p.all.length) (n : Int) : ∀ out, 1 ≤ out → Layout.countL ps n out < n → Layout.countL ps n out = out + (Layout.allL ps).length := by
  induction ps with
  | nil => intro out h1 _; simp [Layout.countL, Layout.allL]
  | cons p r ih =>
    intro out h1 h2
    simp only [Layout.countL] at h2 ⊢
    split at h2
    · rename_i hlt
      rw [if_pos hlt]
      have b := p.count_le (n - out)
      have b2 := Layout.countL_le (fun q _ => q.count_le) n (out + p.count (n - out)) (by omega) (ps := r)
      have e1 := h p List.mem_cons_self (n - out) (by omega)
      rw [ih (fun q hq => h q (List.mem_cons_of_mem _ hq)) _ (by omega) h2, e1, Layout.allL, List.length_append]
      omega
    · rename_i hlt; omega

theorem Layout.count_full : ∀ (l : Layout) (n : Int), l.count n < n → l.count n = l.all.length := by
  refine Layout.ind fun l ih n h => ?_
  rw [l.count_eq] at h ⊢
  rw [Layout.countL_full ih n 1 (by omega) h, l.all_eq, List.length_cons]; omega

/-- Is one number too large? -/
def Layout.big1 (l : Layout) : Bool := l.kind == 2 && decide (l.n > 64) || l.kind == 5 && decide (l.n > 1000) || l.kind == 7 && decide (l.n > 65536) || l.kind == 9 && decide (min far (sumBits l.parts) > 64)

mutual
def Layout.look : Layout → Int → Int → Int → Bool → Int × Int × Bool
  | .mk k n f ps, dep, c, d, g =>
    if (g || decide (c + 1 > 60) || decide (dep > 5) || decide ((ps.length : Int) > 12) || Layout.big1 (.mk k n f ps)) = true then (c + 1, max d dep, true)
    else Layout.lookL ps (dep + 1) (c + 1, max d dep, false)
def Layout.lookL : List Layout → Int → Int × Int × Bool → Int × Int × Bool
  | [], _, s => s
  | p :: r, dep, s => Layout.lookL r dep (Layout.look p dep s.1 s.2.1 s.2.2)
end

theorem Layout.look_eq (l : Layout) (dep c d : Int) (g : Bool) : l.look dep c d g = if (g || decide (c + 1 > 60) || decide (dep > 5) || decide ((l.parts.length : Int) > 12) || l.big1) = true then (c + 1, max d dep, true)
    else Layout.lookL l.parts (dep + 1) (c + 1, max d dep, false) := by cases l; rfl

theorem Layout.lookL_cnt {ps : List Layout} (h : ∀ p ∈ ps, ∀ dep c d g, c ≤ (p.look dep c d g).1 ∧ (p.look dep c d g).1 ≤ c + p.all.length) (dep : Int) : ∀ s : Int × Int × Bool, s.1 ≤ (Layout.lookL ps dep s).1 ∧ (Layout.lookL ps dep s).1 ≤ s.1 + (Layout.allL ps).length := by
  induction ps with
  | nil => intro s; simp [Layout.lookL, Layout.allL]
  | cons p r ih =>
    intro s
    have h1 := h p List.mem_cons_self dep s.1 s.2.1 s.2.2
    have h2 := ih (fun q hq => h q (List.mem_cons_of_mem _ hq)) (p.look dep s.1 s.2.1 s.2.2)
    simp only [Layout.lookL, Layout.allL, List.length_append]; omega

theorem Layout.look_cnt : ∀ (l : Layout) (dep c d : Int) (g : Bool), c ≤ (l.look dep c d g).1 ∧ (l.look dep c d g).1 ≤ c + l.all.length := by
  refine Layout.ind fun l ih dep c d g => ?_
  have := Layout.lookL_cnt ih (dep + 1) (c + 1, max d dep, false)
  rw [l.look_eq, l.all_eq, List.length_cons]
  split
  · simp only []; omega
  · simp only [] at this; omega

def partsS (l : Layout) : Bool :=
  if l.kind = 4 ∨ l.kind = 5 then (l.parts.length : Int) == 1 else if l.kind = 6 ∨ l.kind = 9 then true else if l.kind = 8 then decide ((l.parts.length : Int) ≥ 1) else (l.parts.length : Int) == 0

def greatS (k : Int) : Int := if k = 2 then 64 else if k = 5 then 1000 else if k = 7 then 65536 else 9223372036854775807

/-- Only bits and numbers. -/
def bitty (p : Layout) : Bool := p.kind == 1 || p.kind == 2

/-- What the number of a kind must be. -/
def numS (l : Layout) : Bool :=
  if l.kind = 2 ∨ l.kind = 7 then decide (l.n ≥ 1) else if l.kind = 5 then decide (l.n ≥ 0) else if l.kind = 9 then l.parts.all bitty && l.n == 0 else l.n == 0

/-- Is a layout by itself as it must be? -/
def Layout.isS (l : Layout) : Bool := decide (0 ≤ l.kind ∧ l.kind ≤ 9) && partsS l && !(l.flag && l.kind != 2) && numS l

/-- The number of the first such part. -/
def idxS (pred : Layout → Bool) : List Layout → Int → Int
  | [], _ => -1
  | p :: r, k => if pred p = true then k else idxS pred r (k + 1)

theorem idxS_any (pred : Layout → Bool) : ∀ (ps : List Layout) (k : Int), 0 ≤ k → decide (idxS pred ps k ≥ 0) = ps.any pred
  | [], k, hk => rfl
  | p :: r, k, hk => by
    rw [idxS, List.any_cons]
    cases hp : pred p
    · rw [if_neg (by decide), Bool.false_or]; exact idxS_any pred r (k + 1) (by omega)
    · rw [if_pos rfl, Bool.true_or]; simpa using hk

/-- All layouts in it are right. -/
def Layout.right (l : Layout) : Bool := l.all.all Layout.isS

theorem allL_all (f : Layout → Bool) : ∀ ps : List Layout, (Layout.allL ps).all f = ps.all fun p => p.all.all f
  | [] => rfl
  | p :: r => by simp [Layout.allL, allL_all f r]

theorem Layout.right_eq (l : Layout) : l.right = (l.isS && l.parts.all Layout.right) := by
  unfold Layout.right
  rw [l.all_eq, List.all_cons, allL_all]

def pcS (l : Layout) : Int := if l.kind = 5 ∨ l.kind = 4 then 1 else if l.kind = 8 ∨ l.kind = 6 ∨ l.kind = 9 then l.parts.length else 0

def nbS (l : Layout) : Bool := if l.kind = 2 ∨ l.kind = 7 then decide (l.n ≥ 1) else if l.kind = 5 then decide (l.n ≥ 0) else if l.kind = 8 then l.n == 0 && decide ((l.parts.length : Int) ≥ 1) else l.n == 0

theorem isS_eq (l : Layout) (h : 0 ≤ l.kind ∧ l.kind ≤ 9) : l.isS = (nbS l && !((l.parts.length : Int) != pcS l) && !(l.flag && l.kind != 2) && !(l.kind == 9 && l.parts.any fun p => !bitty p)) := by
  have e : (l.parts.any fun p => !bitty p) = !l.parts.all bitty := by rw [List.not_all_eq_any_not]
  rw [e]
  unfold Layout.isS partsS numS nbS pcS
  have hk : l.kind = 0 ∨ l.kind = 1 ∨ l.kind = 2 ∨ l.kind = 3 ∨ l.kind = 4 ∨ l.kind = 5 ∨ l.kind = 6 ∨ l.kind = 7 ∨ l.kind = 8 ∨ l.kind = 9 := by omega
  generalize l.kind = kind at h hk ⊢
  generalize (l.parts.length : Int) = len
  generalize l.parts.all bitty = ab
  generalize l.flag = fl
  generalize l.n = n
  rw [Bool.eq_iff_iff]
  rcases hk with rfl | rfl | rfl | rfl | rfl | rfl | rfl | rfl | rfl | rfl <;> cases ab <;> cases fl <;> simp <;> omega

theorem allL_append : ∀ a b : List Layout, Layout.allL (a ++ b) = Layout.allL a ++ Layout.allL b
  | [], b => rfl
  | p :: r, b => by simp [Layout.allL, allL_append r b]

/-- Is one layout by itself too large? -/
def Layout.big (l : Layout) : Bool := decide ((l.parts.length : Int) > 12) || l.big1

theorem look_true (l : Layout) (dep c d : Int) : (l.look dep c d true).2.2 = true := by rw [l.look_eq]; simp

theorem lookL_true : ∀ (ps : List Layout) (dep : Int) (s : Int × Int × Bool), s.2.2 = true → (Layout.lookL ps dep s).2.2 = true
  | [], dep, s, h => h
  | p :: r, dep, s, h => by
    rw [Layout.lookL]
    refine lookL_true r dep _ ?_
    rw [h]; exact look_true p dep _ _

/-- What a look says. -/
def LookOk (l : Layout) : Prop := ∀ (dep c d : Int), 0 ≤ c →
  ((l.look dep c d false).2.2 = false ↔ c + l.all.length ≤ 60 ∧ dep - 1 + l.depth ≤ 5 ∧ l.all.any Layout.big = false) ∧
  ((l.look dep c d false).2.2 = false → (l.look dep c d false).1 = c + l.all.length ∧ (l.look dep c d false).2.1 = max d (dep - 1 + l.depth))

theorem lookL_ok : ∀ (ps : List Layout), (∀ p ∈ ps, LookOk p) → ∀ (dep : Int) (s : Int × Int × Bool), s.2.2 = false → 0 ≤ s.1 → s.1 ≤ 60 → dep - 1 ≤ 5 → dep - 1 ≤ s.2.1 →
    ((Layout.lookL ps dep s).2.2 = false ↔ s.1 + (Layout.allL ps).length ≤ 60 ∧ dep - 1 + Layout.depthL ps ≤ 5 ∧ (Layout.allL ps).any Layout.big = false) ∧
    ((Layout.lookL ps dep s).2.2 = false → (Layout.lookL ps dep s).1 = s.1 + (Layout.allL ps).length ∧ (Layout.lookL ps dep s).2.1 = max s.2.1 (dep - 1 + Layout.depthL ps))
  | [], _, dep, s, hg, h0, h1, h2, h3 => by
    simp only [Layout.lookL, Layout.allL, Layout.depthL, List.length_nil, List.any_nil]
    refine ⟨⟨fun _ => ⟨by omega, by omega, trivial⟩, fun _ => hg⟩, fun _ => ⟨by omega, by omega⟩⟩
  | p :: r, hp, dep, s, hg, h0, h1, h2, h3 => by
    have hl := hp p List.mem_cons_self dep s.1 s.2.1 h0
    simp only [Layout.lookL, Layout.allL, Layout.depthL, List.length_append, List.any_append, hg]
    cases hb : (p.look dep s.1 s.2.1 false).2.2 with
    | true =>
      have hne : ¬ (s.1 + (p.all.length : Int) ≤ 60 ∧ dep - 1 + (p.depth : Int) ≤ 5 ∧ p.all.any Layout.big = false) := fun h => by
        have := hl.1.2 h; rw [hb] at this; cases this
      rw [lookL_true r dep _ hb]
      refine ⟨⟨(fun h => by cases h), fun h => (hne ⟨by omega, by omega, ?_⟩).elim⟩, (fun h => by cases h)⟩
      have := h.2.2
      rw [Bool.or_eq_false_iff] at this
      exact this.1
    | false =>
      obtain ⟨a1, a2, a3⟩ := hl.1.1 hb
      obtain ⟨b1, b2⟩ := hl.2 hb
      have hr := lookL_ok r (fun q hq => hp q (List.mem_cons_of_mem _ hq)) dep (p.look dep s.1 s.2.1 false) hb (by omega) (by omega) h2 (by omega)
      rw [b1, b2] at hr
      refine ⟨⟨fun h => ?_, fun h => hr.1.2 ⟨by omega, by omega, ?_⟩⟩, fun h => ?_⟩
      · obtain ⟨c1, c2, c3⟩ := hr.1.1 h
        exact ⟨by omega, by omega, by rw [a3, c3]; rfl⟩
      · have := h.2.2
        rw [Bool.or_eq_false_iff] at this
        exact this.2
      · obtain ⟨c1, c2⟩ := hr.2 h
        exact ⟨by omega, by omega⟩

theorem look_fine : ∀ l : Layout, LookOk l := by
  refine Layout.ind fun l ih dep c d hc => ?_
  rw [l.look_eq, l.all_eq, l.depth_eq, List.length_cons, List.any_cons]
  by_cases h : (false || decide (c + 1 > 60) || decide (dep > 5) || decide ((l.parts.length : Int) > 12) || l.big1) = true
  · rw [if_pos h]
    refine ⟨⟨(fun h => by cases h), fun h' => ?_⟩, (fun h => by cases h)⟩
    obtain ⟨c1, c2, c3⟩ := h'
    rw [Bool.or_eq_false_iff] at c3
    have c4 := c3.1
    unfold Layout.big at c4
    rw [Bool.or_eq_false_iff] at c4
    simp only [Bool.false_or, Bool.or_eq_true, decide_eq_true_eq, c4.2] at h
    have c5 : ¬ ((l.parts.length : Int) > 12) := of_decide_eq_false c4.1
    rcases h with ((h | h) | h) | h
    · omega
    · omega
    · omega
    · cases h
  · rw [if_neg h]
    simp only [Bool.false_or, Bool.or_eq_true, decide_eq_true_eq, not_or] at h
    obtain ⟨⟨⟨h1, h2⟩, h3⟩, h4⟩ := h
    have hbig : l.big = false := by unfold Layout.big; simp only [Bool.or_eq_false_iff, decide_eq_false_iff_not]; exact ⟨h3, by simpa using h4⟩
    have := lookL_ok l.parts ih (dep + 1) (c + 1, max d dep, false) rfl (by simp only []; omega) (by simp only []; omega) (by omega) (by simp only []; omega)
    simp only [] at this
    rw [hbig, Bool.false_or]
    refine ⟨⟨fun h => ?_, fun h => this.1.2 ⟨by omega, by omega, h.2.2⟩⟩, fun h => ?_⟩
    · obtain ⟨c1, c2, c3⟩ := this.1.1 h
      exact ⟨by omega, by omega, c3⟩
    · obtain ⟨c1, c2⟩ := this.2 h
      exact ⟨by omega, by omega⟩

/-- Too large? -/
def Layout.large (l : Layout) : Bool := decide (l.all.length > 60) || decide (l.depth > 5) || l.all.any Layout.big

def valS (l : Layout) : Int := if (l.large || decide (l.cells > 4096)) = true then 3 else if l.right = true then 0 else 1

theorem look_large (l : Layout) : (l.look 1 0 0 false).2.2 = l.large := by
  have := (look_fine l 1 0 0 (by omega)).1
  cases hb : (l.look 1 0 0 false).2.2 with
  | false =>
    obtain ⟨a1, a2, a3⟩ := this.1 hb
    unfold Layout.large
    rw [a3, decide_eq_false (by omega), decide_eq_false (by omega)]; rfl
  | true =>
    cases hl : l.large with
    | true => rfl
    | false =>
      unfold Layout.large at hl
      simp only [Bool.or_eq_false_iff, decide_eq_false_iff_not] at hl
      have := this.2 ⟨by omega, by omega, hl.2⟩
      rw [hb] at this; cases this

theorem arr_of_large {l : Layout} (h : l.large = false) : l.arr := by
  unfold Layout.large at h
  simp only [Bool.or_eq_false_iff] at h
  intro q hq hk
  have h1 := List.any_eq_false.1 h.2 q hq
  unfold Layout.big Layout.big1 at h1
  simp [hk] at h1
  omega

def bigR (p : Layout) : Bool := decide ((p.parts.length : Int) > 12) || decide (p.n > greatS p.kind) || (p.kind == 9 && decide (satBits p.parts > 64))

theorem bigR_eq (p : Layout) (hp : p.fit) : bigR p = p.big := by
  unfold bigR Layout.big
  rw [Bool.or_assoc]
  congr 1
  unfold Layout.big1 greatS
  have h1 := hp.2.1.2
  have h2 := satBits_eq p.parts
  have h3 : far = 1099511627776 := rfl
  have h4 := sumBits_nonneg p.parts
  by_cases k2 : p.kind = 2
  · simp [k2]
  by_cases k5 : p.kind = 5
  · simp [k5]
  by_cases k7 : p.kind = 7
  · simp [k7]
  by_cases k9 : p.kind = 9
  · simp [k9]
    rw [Bool.eq_iff_iff]; simp; omega
  · rw [beq_eq_false_iff_ne.2 k2, beq_eq_false_iff_ne.2 k5, beq_eq_false_iff_ne.2 k7, beq_eq_false_iff_ne.2 k9]
    simp [k2, k5, k7]; omega

theorem mem_all_fit {l q : Layout} (hl : l.Fits) (hq : q ∈ l.all) : q.fit := hl q hq

theorem Layout.all_all : ∀ l q : Layout, q ∈ l.all → ∀ r ∈ q.all, r ∈ l.all := by
  refine Layout.ind fun l ih q hq r hr => ?_
  rw [l.all_eq] at hq ⊢
  rcases List.mem_cons.1 hq with rfl | hq
  · rw [q.all_eq] at hr; exact hr
  · refine List.mem_cons_of_mem _ ?_
    have : ∀ ps : List Layout, (∀ p ∈ ps, ∀ q ∈ p.all, ∀ r ∈ q.all, r ∈ p.all) → q ∈ Layout.allL ps → r ∈ Layout.allL ps := by
      intro ps
      induction ps with
      | nil => intro _ h; simp [Layout.allL] at h
      | cons p rr ih2 =>
        intro hp h
        rw [Layout.allL, List.mem_append] at h ⊢
        rcases h with h | h
        · exact .inl (hp p List.mem_cons_self q h r hr)
        · exact .inr (ih2 (fun p' hp' => hp p' (List.mem_cons_of_mem _ hp')) h)
    exact this l.parts ih hq

theorem Layout.Fits.mem {l q : Layout} (hl : l.Fits) (hq : q ∈ l.all) : q.Fits := fun r hr => hl r (Layout.all_all l q hq r hr)

def standF (s : List Int × Int × Int) (q : Int × Int) : List Int × Int × Int := (s.1 ++ [upS s.2.1 q.2], upS s.2.1 q.2 + q.1, max s.2.2 q.2)

/-- Where the parts of a struct stand; its size and its alignment. -/
def standS (qs : List (Int × Int)) : List Int × Int × Int :=
  ((qs.foldl standF ([], 0, 1)).1, upS (qs.foldl standF ([], 0, 1)).2.1 (qs.foldl standF ([], 0, 1)).2.2, (qs.foldl standF ([], 0, 1)).2.2)

def unionF (o p : Int × Int) : Int × Int := (max o.1 p.1, max o.2 p.2)

def unionS (qs : List (Int × Int)) : Int × Int := qs.foldl unionF (0, 1)

def ofS (w k n : Int) (ps : List Layout) (qs : List (Int × Int)) : Int × Int :=
  if k = 0 then (0, 1) else if k = 1 then (1, 1) else if k = 2 then (max 1 (wholeS n), min (max 1 (wholeS n)) w) else if k = 3 then (w, w)
  else if k = 4 then (upS ((qs.headD (0, 1)).1 + 1) (qs.headD (0, 1)).2, (qs.headD (0, 1)).2)
  else if k = 5 then (n * (qs.headD (0, 1)).1, (qs.headD (0, 1)).2)
  else if k = 6 then (standS qs).2
  else if k = 7 then (if n ≤ 256 then (1, 1) else (2, min 2 w))
  else if k = 8 then (upS ((unionS qs).1 + 1) (unionS qs).2, (unionS qs).2)
  else (wholeS (sumBits ps), max 1 (min (wholeS (sumBits ps)) w))

mutual
/-- The size and the alignment of a layout. -/
def Layout.of (w : Int) : Layout → Int × Int
  | .mk k n _ ps => ofS w k n ps (Layout.ofL w ps)
def Layout.ofL (w : Int) : List Layout → List (Int × Int)
  | [] => []
  | p :: r => Layout.of w p :: Layout.ofL w r
end

theorem Layout.of_eq (w : Int) (l : Layout) : l.of w = ofS w l.kind l.n l.parts (Layout.ofL w l.parts) := by cases l; rfl

theorem Layout.ofL_map (w : Int) : ∀ ps : List Layout, Layout.ofL w ps = ps.map (Layout.of w)
  | [] => rfl
  | p :: r => by simp [Layout.ofL, Layout.ofL_map w r]

/-- A layout that is right and not too large. -/
structure Layout.Val (w : Int) (l : Layout) : Prop where
  fits : l.Fits
  right : l.right = true
  big : l.all.any Layout.big = false
  size : ∀ q ∈ l.all, (q.of w).1 ≤ 100000000000

theorem mem_part {l p q : Layout} (hp : p ∈ l.parts) (hq : q ∈ p.all) : q ∈ l.all := by
  rw [l.all_eq]; exact List.mem_cons_of_mem _ (Layout.allL_mem hp hq)

theorem Layout.mem_self (l : Layout) : l ∈ l.all := by rw [l.all_eq]; exact List.mem_cons_self

theorem Layout.Val.part {w : Int} {l p : Layout} (h : l.Val w) (hp : p ∈ l.parts) : p.Val w where
  fits := h.fits.part hp
  right := by
    have := h.right
    rw [l.right_eq, Bool.and_eq_true, List.all_eq_true] at this
    exact this.2 p hp
  big := by
    have := h.big
    rw [List.any_eq_false] at this ⊢
    exact fun q hq => this q (mem_part hp hq)
  size := fun q hq => h.size q (mem_part hp hq)

theorem Layout.Val.isS {w : Int} {l : Layout} (h : l.Val w) : l.isS = true := by
  have := h.right
  rw [l.right_eq, Bool.and_eq_true] at this
  exact this.1

theorem Layout.Val.small {w : Int} {l : Layout} (h : l.Val w) : l.big = false := by
  have := h.big
  rw [List.any_eq_false] at this
  simpa using this l l.mem_self

/-- What is known of a layout that is right, by its kind. -/
theorem right_kind {l : Layout} (h : l.isS = true) (hb : l.big = false) :
    (0 ≤ l.kind ∧ l.kind ≤ 9) ∧ l.parts.length ≤ 12 ∧ (l.kind = 2 → 1 ≤ l.n ∧ l.n ≤ 64) ∧ (l.kind = 4 ∨ l.kind = 5 → ∃ p, l.parts = [p]) ∧ (l.kind = 5 → 0 ≤ l.n ∧ l.n ≤ 1000) ∧
    (l.kind = 7 → 1 ≤ l.n ∧ l.n ≤ 65536) ∧ (l.kind = 8 → l.parts ≠ []) ∧ (l.kind = 9 → sumBits l.parts ≤ 64) := by
  unfold Layout.isS at h
  simp only [Bool.and_eq_true, decide_eq_true_eq] at h
  obtain ⟨⟨⟨h1, h2⟩, h3⟩, h4⟩ := h
  unfold Layout.big Layout.big1 at hb
  simp only [Bool.or_eq_false_iff, Bool.and_eq_false_iff, decide_eq_false_iff_not, beq_eq_false_iff_ne] at hb
  obtain ⟨b1, ⟨⟨b2, b3⟩, b4⟩, b5⟩ := hb
  have hf : far = 1099511627776 := rfl
  refine ⟨h1, by omega, fun hk => ?_, fun hk => ?_, fun hk => ?_, fun hk => ?_, fun hk => ?_, fun hk => ?_⟩
  · simp [numS, hk] at h4; omega
  · have : (l.parts.length : Int) = 1 := by
      rcases hk with hk | hk <;> simpa [partsS, hk] using h2
    match hp : l.parts with
    | [] => rw [hp] at this; simp at this
    | [p] => exact ⟨p, rfl⟩
    | _ :: _ :: _ => rw [hp] at this; simp at this; omega
  · simp [numS, hk] at h4; omega
  · simp [numS, hk] at h4; omega
  · simp [partsS, hk] at h2
    intro he; rw [he] at h2; simp at h2
  · omega

theorem wholeS_bnd {n : Int} (_ : 0 ≤ n) : 0 ≤ wholeS n ∧ wholeS n ≤ 8 ∧ (1 ≤ n → 1 ≤ wholeS n) := by
  unfold wholeS; repeat' split <;> omega

theorem standF_bnd : ∀ (qs : List (Int × Int)) (s : List Int × Int × Int), (∀ q ∈ qs, 0 ≤ q.1 ∧ 1 ≤ q.2 ∧ q.2 ≤ 8) → 0 ≤ s.2.1 → 1 ≤ s.2.2 → s.2.2 ≤ 8 →
    s.2.1 ≤ (qs.foldl standF s).2.1 ∧ 1 ≤ (qs.foldl standF s).2.2 ∧ (qs.foldl standF s).2.2 ≤ 8
  | [], s, _, h1, h2, h3 => ⟨Int.le_refl _, h2, h3⟩
  | q :: r, s, hq, h1, h2, h3 => by
    have h := hq q List.mem_cons_self
    have hu := upS_bnd (n := s.2.1) (m := q.2) h1 h.2.1
    have := standF_bnd r (standF s q) (fun x hx => hq x (List.mem_cons_of_mem _ hx)) (by simp only [standF]; omega) (by simp only [standF]; omega) (by simp only [standF]; omega)
    simp only [List.foldl_cons]
    simp only [standF] at this ⊢
    omega

theorem unionF_bnd : ∀ (qs : List (Int × Int)) (s : Int × Int), (∀ q ∈ qs, 0 ≤ q.1 ∧ 1 ≤ q.2 ∧ q.2 ≤ 8) → 0 ≤ s.1 → 1 ≤ s.2 → s.2 ≤ 8 →
    s.1 ≤ (qs.foldl unionF s).1 ∧ 1 ≤ (qs.foldl unionF s).2 ∧ (qs.foldl unionF s).2 ≤ 8
  | [], s, _, h1, h2, h3 => ⟨Int.le_refl _, h2, h3⟩
  | q :: r, s, hq, h1, h2, h3 => by
    have h := hq q List.mem_cons_self
    have := unionF_bnd r (unionF s q) (fun x hx => hq x (List.mem_cons_of_mem _ hx)) (by simp only [unionF]; omega) (by simp only [unionF]; omega) (by simp only [unionF]; omega)
    simp only [List.foldl_cons]
    simp only [unionF] at this ⊢
    omega

theorem of_bnd {w : Int} (hw : w = 2 ∨ w = 4 ∨ w = 8) : ∀ l : Layout, l.right = true → l.all.any Layout.big = false → 0 ≤ (l.of w).1 ∧ 1 ≤ (l.of w).2 ∧ (l.of w).2 ≤ 8 := by
  refine Layout.ind fun l ih hr hb => ?_
  rw [l.right_eq, Bool.and_eq_true, List.all_eq_true] at hr
  rw [l.all_eq, List.any_cons, Bool.or_eq_false_iff] at hb
  obtain ⟨k0, k12, k2, k4, k5, k7, k8, k9⟩ := right_kind hr.1 hb.1
  have hq : ∀ q ∈ Layout.ofL w l.parts, 0 ≤ q.1 ∧ 1 ≤ q.2 ∧ q.2 ≤ 8 := by
    intro q hq
    rw [Layout.ofL_map] at hq
    obtain ⟨p, hp, rfl⟩ := List.mem_map.1 hq
    refine ih p hp (hr.2 p hp) ?_
    rw [List.any_eq_false] at hb ⊢
    exact fun x hx => hb.2 x (Layout.allL_mem hp hx)
  have hd : 0 ≤ ((Layout.ofL w l.parts).headD (0, 1)).1 ∧ 1 ≤ ((Layout.ofL w l.parts).headD (0, 1)).2 ∧ ((Layout.ofL w l.parts).headD (0, 1)).2 ≤ 8 := by
    cases hp : Layout.ofL w l.parts with
    | nil => simp
    | cons q r => exact hq q (by rw [hp]; exact List.mem_cons_self)
  rw [l.of_eq]
  unfold ofS
  generalize (Layout.ofL w l.parts).headD (0, 1) = q0 at hd ⊢
  split
  · simp
  split
  · simp
  split
  · have := wholeS_bnd (n := l.n) (by omega)
    simp only []; omega
  split
  · simp only []; omega
  split
  · have := upS_bnd (n := q0.1 + 1) (m := q0.2) (by omega) hd.2.1
    simp only []; omega
  split
  · rename_i hk
    have := Int.mul_nonneg (k5 hk).1 hd.1
    simp only []; omega
  split
  · have := standF_bnd (Layout.ofL w l.parts) ([], 0, 1) hq (by simp) (by simp) (by simp)
    unfold standS
    have h2 := upS_bnd (n := ((Layout.ofL w l.parts).foldl standF ([], 0, 1)).2.1) (m := ((Layout.ofL w l.parts).foldl standF ([], 0, 1)).2.2) this.1 this.2.1
    simp only [] at this ⊢
    omega
  split
  · split <;> simp only [] <;> omega
  split
  · have := unionF_bnd (Layout.ofL w l.parts) (0, 1) hq (by simp) (by simp) (by simp)
    have h2 := upS_bnd (n := (unionS (Layout.ofL w l.parts)).1 + 1) (m := (unionS (Layout.ofL w l.parts)).2) (by unfold unionS; simp only [] at this; omega) this.2.1
    unfold unionS at h2 ⊢
    simp only [] at this ⊢
    omega
  · have := wholeS_bnd (n := sumBits l.parts) (sumBits_nonneg _)
    simp only []; omega

theorem Layout.Val.bnd {w : Int} (hw : w = 2 ∨ w = 4 ∨ w = 8) {l : Layout} (h : l.Val w) : 0 ≤ (l.of w).1 ∧ (l.of w).1 ≤ 100000000000 ∧ 1 ≤ (l.of w).2 ∧ (l.of w).2 ≤ 8 := by
  have := of_bnd hw l h.right h.big
  have := h.size l l.mem_self
  omega

def Bd : Nat → Int
  | 0 => 8
  | n + 1 => 1000 * Bd n

theorem Bd_ge : ∀ n, 8 ≤ Bd n
  | 0 => by decide
  | n + 1 => by have := Bd_ge n; simp only [Bd]; omega

theorem Bd_mono {a b : Nat} (h : a ≤ b) : Bd a ≤ Bd b := by
  induction b with
  | zero => have : a = 0 := by omega
            subst this; exact Int.le_refl _
  | succ b ih =>
    by_cases hab : a = b + 1
    · subst hab; exact Int.le_refl _
    · have := ih (by omega); have := Bd_ge b; simp only [Bd]; omega

theorem standF_ub (c : Int) (hc : 0 ≤ c) : ∀ (qs : List (Int × Int)) (s : List Int × Int × Int), (∀ q ∈ qs, 0 ≤ q.1 ∧ q.1 ≤ c ∧ 1 ≤ q.2 ∧ q.2 ≤ 8) → 0 ≤ s.2.1 → (qs.foldl standF s).2.1 ≤ s.2.1 + qs.length * (c + 8)
  | [], s, _, h => by simp
  | q :: r, s, hq, h1 => by
    have h := hq q List.mem_cons_self
    have hu := upS_bnd (n := s.2.1) (m := q.2) h1 h.2.2.1
    have := standF_ub c hc r (standF s q) (fun x hx => hq x (List.mem_cons_of_mem _ hx)) (by simp only [standF]; omega)
    simp only [List.foldl_cons, List.length_cons]
    simp only [standF] at this
    have e : ((r.length + 1 : Nat) : Int) * (c + 8) = r.length * (c + 8) + (c + 8) := by rw [Int.natCast_add, Int.add_mul]; simp
    rw [e]; simp only [standF]; omega

theorem unionF_ub (c : Int) : ∀ (qs : List (Int × Int)) (s : Int × Int), (∀ q ∈ qs, q.1 ≤ c) → s.1 ≤ c → (qs.foldl unionF s).1 ≤ c
  | [], s, _, h => h
  | q :: r, s, hq, h1 => by
    have h := hq q List.mem_cons_self
    exact unionF_ub c r (unionF s q) (fun x hx => hq x (List.mem_cons_of_mem _ hx)) (by simp only [unionF]; omega)

/-- What is needed of the parts. -/
theorem parts_known {w : Int} (hw : w = 2 ∨ w = 4 ∨ w = 8) {l : Layout} (hr : l.right = true) (hb : l.all.any Layout.big = false) :
    l.isS = true ∧ l.big = false ∧ ∀ p ∈ l.parts, p.right = true ∧ p.all.any Layout.big = false ∧ 0 ≤ (p.of w).1 ∧ 1 ≤ (p.of w).2 ∧ (p.of w).2 ≤ 8 := by
  rw [l.right_eq, Bool.and_eq_true, List.all_eq_true] at hr
  rw [l.all_eq, List.any_cons, Bool.or_eq_false_iff] at hb
  refine ⟨hr.1, hb.1, fun p hp => ?_⟩
  have h2 : p.all.any Layout.big = false := by
    rw [List.any_eq_false] at hb ⊢
    exact fun x hx => hb.2 x (Layout.allL_mem hp hx)
  exact ⟨hr.2 p hp, h2, of_bnd hw p (hr.2 p hp) h2⟩

theorem size_depth {w : Int} (hw : w = 2 ∨ w = 4 ∨ w = 8) : ∀ l : Layout, l.right = true → l.all.any Layout.big = false → (l.of w).1 ≤ Bd (Layout.depthL l.parts) := by
  refine Layout.ind fun l ih hr hb => ?_
  obtain ⟨hi, hbg, hp⟩ := parts_known hw hr hb
  obtain ⟨k0, k12, k2, k4, k5, k7, k8, k9⟩ := right_kind hi hbg
  have hB := Bd_ge (Layout.depthL l.parts)
  have hq : ∀ q ∈ Layout.ofL w l.parts, ∃ c : Int, 8 ≤ c ∧ 1000 * c ≤ Bd (Layout.depthL l.parts) ∧ c = Bd (Layout.depthL l.parts - 1) ∧ 0 ≤ q.1 ∧ q.1 ≤ c ∧ 1 ≤ q.2 ∧ q.2 ≤ 8 := by
    intro q hq
    rw [Layout.ofL_map] at hq
    obtain ⟨p, hpm, rfl⟩ := List.mem_map.1 hq
    obtain ⟨h1, h2, h3, h4, h5⟩ := hp p hpm
    have h6 := ih p hpm h1 h2
    have h7 := Layout.depthL_mem hpm
    rw [p.depth_eq] at h7
    have h8 : Bd (Layout.depthL p.parts) ≤ Bd (Layout.depthL l.parts - 1) := Bd_mono (by omega)
    have h9 : Bd (Layout.depthL l.parts) = 1000 * Bd (Layout.depthL l.parts - 1) := by
      obtain ⟨d, hd⟩ : ∃ d, Layout.depthL l.parts = d + 1 := ⟨Layout.depthL l.parts - 1, by omega⟩
      rw [hd]; rfl
    exact ⟨_, Bd_ge _, by omega, rfl, h3, by omega, h4, h5⟩
  have hlen : (Layout.ofL w l.parts).length = l.parts.length := by rw [Layout.ofL_map]; simp
  rw [l.of_eq]
  generalize Layout.ofL w l.parts = qs at hq hlen ⊢
  generalize Bd (Layout.depthL l.parts) = B at hq hB ⊢
  generalize Bd (Layout.depthL l.parts - 1) = C at hq
  have hd : 0 ≤ (qs.headD (0, 1)).1 ∧ (qs.headD (0, 1)).1 * 1000 ≤ B ∧ 1 ≤ (qs.headD (0, 1)).2 ∧ (qs.headD (0, 1)).2 ≤ 8 ∧ ((qs.headD (0, 1)).1 = 0 ∨ (qs.headD (0, 1)).1 + 8 ≤ B) := by
    cases hp : qs with
    | nil => simp; omega
    | cons q r =>
      obtain ⟨c, h1, h2, h3, h4, h5, h6, h7⟩ := hq q (by rw [hp]; exact List.mem_cons_self)
      simp only [List.headD_cons]
      omega
  unfold ofS
  generalize hq0 : qs.headD (0, 1) = q0 at hd ⊢
  have w1 := wholeS_bnd (n := sumBits l.parts) (sumBits_nonneg _)
  split
  · simp only []; omega
  split
  · simp only []; omega
  split
  · have := wholeS_bnd (n := l.n) (by omega)
    simp only []; omega
  split
  · simp only []; omega
  split
  · have := upS_bnd (n := q0.1 + 1) (m := q0.2) (by omega) hd.2.2.1
    simp only []; omega
  split
  · rename_i hk
    have := Int.mul_le_mul_of_nonneg_right (k5 hk).2 hd.1
    simp only []; omega
  split
  · unfold standS
    cases hp : qs with
    | nil => simp [upS]; omega
    | cons q r =>
      obtain ⟨c, h1, h2, h3, h4, h5, h6, h7⟩ := hq q (by rw [hp]; exact List.mem_cons_self)
      rw [← hp]
      have hall : ∀ q ∈ qs, 0 ≤ q.1 ∧ q.1 ≤ C ∧ 1 ≤ q.2 ∧ q.2 ≤ 8 := fun q hqm => by
        obtain ⟨c', a1, a2, a3, a4, a5, a6, a7⟩ := hq q hqm
        omega
      have u1 := standF_ub C (by omega) qs ([], 0, 1) hall (by simp)
      have u2 := standF_bnd qs ([], 0, 1) (fun q hqm => by have := hall q hqm; omega) (by simp) (by simp) (by simp)
      have u3 := upS_bnd (n := (qs.foldl standF ([], 0, 1)).2.1) (m := (qs.foldl standF ([], 0, 1)).2.2) u2.1 u2.2.1
      have u4 : (qs.length : Int) * (C + 8) ≤ 12 * (C + 8) := Int.mul_le_mul_of_nonneg_right (by omega) (by omega)
      simp only [] at u1 ⊢
      omega
  split
  · split <;> simp only [] <;> omega
  split
  · have hx : (unionS qs).1 = 0 ∨ (unionS qs).1 + 8 ≤ B := by
      cases hp : qs with
      | nil => left; rfl
      | cons q r =>
        right
        obtain ⟨c, h1, h2, h3, h4, h5, h6, h7⟩ := hq q (by rw [hp]; exact List.mem_cons_self)
        have := unionF_ub C qs (0, 1) (fun q hqm => by
          obtain ⟨c', a1, a2, a3, a4, a5, a6, a7⟩ := hq q hqm
          omega) (by simp only []; omega)
        rw [← hp]; unfold unionS; omega
    have u2 := unionF_bnd qs (0, 1) (fun q hqm => by
      obtain ⟨c', a1, a2, a3, a4, a5, a6, a7⟩ := hq q hqm
      omega) (by simp) (by simp) (by simp)
    have u3 := upS_bnd (n := (unionS qs).1 + 1) (m := (unionS qs).2) (by unfold unionS; simp only [] at u2; omega) u2.2.1
    unfold unionS at u3 hx ⊢
    simp only [] at u2 ⊢
    omega
  · simp only []; omega

theorem standF_cells (w : Int) : ∀ (ps : List Layout) (s : List Int × Int × Int), (∀ p ∈ ps, 0 ≤ (p.of w).1 ∧ 1 ≤ (p.of w).2 ∧ (p.of w).2 ≤ 8 ∧ (p.of w).1 ≤ 16 * p.cells - 8) → 0 ≤ s.2.1 →
    ((Layout.ofL w ps).foldl standF s).2.1 ≤ s.2.1 + 16 * Layout.cellsL ps
  | [], s, _, h => by simp [Layout.ofL, Layout.cellsL]
  | p :: r, s, hq, h1 => by
    have h := hq p List.mem_cons_self
    have hu := upS_bnd (n := s.2.1) (m := (p.of w).2) h1 h.2.1
    have := standF_cells w r (standF s (p.of w)) (fun x hx => hq x (List.mem_cons_of_mem _ hx)) (by simp only [standF]; omega)
    simp only [Layout.ofL, List.foldl_cons, Layout.cellsL]
    simp only [standF] at this ⊢
    omega

theorem unionF_cells (w : Int) : ∀ (ps : List Layout) (s : Int × Int), (∀ p ∈ ps, 0 ≤ (p.of w).1 ∧ 1 ≤ (p.of w).2 ∧ (p.of w).2 ≤ 8 ∧ (p.of w).1 ≤ 16 * p.cells - 8) → 0 ≤ s.1 →
    ((Layout.ofL w ps).foldl unionF s).1 ≤ s.1 + 16 * Layout.cellsL ps
  | [], s, _, h => by simp [Layout.ofL, Layout.cellsL]
  | p :: r, s, hq, h1 => by
    have h := hq p List.mem_cons_self
    have := unionF_cells w r (unionF s (p.of w)) (fun x hx => hq x (List.mem_cons_of_mem _ hx)) (by simp only [unionF]; omega)
    simp only [Layout.ofL, List.foldl_cons, Layout.cellsL]
    simp only [unionF] at this ⊢
    omega

theorem size_cells {w : Int} (hw : w = 2 ∨ w = 4 ∨ w = 8) : ∀ l : Layout, l.right = true → l.all.any Layout.big = false → (l.of w).1 ≤ 16 * l.cells - 8 := by
  refine Layout.ind fun l ih hr hb => ?_
  obtain ⟨hi, hbg, hp⟩ := parts_known hw hr hb
  obtain ⟨k0, k12, k2, k4, k5, k7, k8, k9⟩ := right_kind hi hbg
  have hq : ∀ p ∈ l.parts, 0 ≤ (p.of w).1 ∧ 1 ≤ (p.of w).2 ∧ (p.of w).2 ≤ 8 ∧ (p.of w).1 ≤ 16 * p.cells - 8 := fun p hpm => by
    obtain ⟨h1, h2, h3, h4, h5⟩ := hp p hpm
    exact ⟨h3, h4, h5, ih p hpm h1 h2⟩
  have hc := l.cells_pos
  have hcl := Layout.cellsL_nonneg l.parts
  have he := l.cells_eq
  rw [l.of_eq]
  unfold ofS
  have w1 := wholeS_bnd (n := sumBits l.parts) (sumBits_nonneg _)
  split
  · simp only []; omega
  split
  · simp only []; omega
  split
  · have := wholeS_bnd (n := l.n) (by omega)
    simp only []; omega
  split
  · simp only []; omega
  split
  · rename_i hk
    obtain ⟨p, hpp⟩ := k4 (.inl hk)
    have h := hq p (by rw [hpp]; exact List.mem_cons_self)
    rw [hpp]
    rw [hpp, if_neg (by omega)] at he
    simp only [Layout.cellsL, Layout.ofL, List.headD_cons] at he ⊢
    have := upS_bnd (n := (p.of w).1 + 1) (m := (p.of w).2) (by omega) h.2.1
    omega
  split
  · rename_i hk
    obtain ⟨p, hpp⟩ := k4 (.inr hk)
    have h := hq p (by rw [hpp]; exact List.mem_cons_self)
    rw [hpp]
    rw [hpp, if_pos hk] at he
    simp only [Layout.cellsL, Layout.ofL, List.headD_cons, Int.add_zero] at he ⊢
    have k5' := k5 hk
    have e1 : max 0 l.n = l.n := by omega
    rw [e1] at he
    have h1 := Int.mul_le_mul_of_nonneg_left h.2.2.2 k5'.1
    rw [Int.mul_sub] at h1
    have e2 : l.n * (16 * p.cells) = 16 * (l.n * p.cells) := by rw [Int.mul_left_comm]
    rw [e2] at h1
    omega
  split
  · rename_i hk
    rw [if_neg (by omega)] at he
    have u1 := standF_cells w l.parts ([], 0, 1) hq (by simp)
    have hq' : ∀ q ∈ Layout.ofL w l.parts, 0 ≤ q.1 ∧ 1 ≤ q.2 ∧ q.2 ≤ 8 := by
      intro q hqm
      rw [Layout.ofL_map] at hqm
      obtain ⟨p, hpm, rfl⟩ := List.mem_map.1 hqm
      have := hq p hpm; omega
    have u2 := standF_bnd (Layout.ofL w l.parts) ([], 0, 1) hq' (by simp) (by simp) (by simp)
    have u3 := upS_bnd (n := ((Layout.ofL w l.parts).foldl standF ([], 0, 1)).2.1) (m := ((Layout.ofL w l.parts).foldl standF ([], 0, 1)).2.2) u2.1 u2.2.1
    unfold standS
    simp only [] at u1 ⊢
    omega
  split
  · split <;> simp only [] <;> omega
  split
  · rename_i hk
    rw [if_neg (by omega)] at he
    have u1 := unionF_cells w l.parts (0, 1) hq (by simp)
    have hq' : ∀ q ∈ Layout.ofL w l.parts, 0 ≤ q.1 ∧ 1 ≤ q.2 ∧ q.2 ≤ 8 := by
      intro q hqm
      rw [Layout.ofL_map] at hqm
      obtain ⟨p, hpm, rfl⟩ := List.mem_map.1 hqm
      have := hq p hpm; omega
    have u2 := unionF_bnd (Layout.ofL w l.parts) (0, 1) hq' (by simp) (by simp) (by simp)
    have u3 := upS_bnd (n := (unionS (Layout.ofL w l.parts)).1 + 1) (m := (unionS (Layout.ofL w l.parts)).2) (by unfold unionS; simp only [] at u2; omega) u2.2.1
    unfold unionS at u3 ⊢
    simp only [] at u1 ⊢
    omega
  · simp only []; omega

theorem depth_all : ∀ l : Layout, ∀ q ∈ l.all, q = l ∨ q.depth < l.depth := by
  refine Layout.ind fun l ih q hq => ?_
  rw [l.all_eq] at hq
  rcases List.mem_cons.1 hq with rfl | hq
  · exact .inl rfl
  · right
    have : ∀ ps : List Layout, (∀ p ∈ ps, ∀ q ∈ p.all, q = p ∨ q.depth < p.depth) → q ∈ Layout.allL ps → q.depth ≤ Layout.depthL ps := by
      intro ps
      induction ps with
      | nil => intro _ h; simp [Layout.allL] at h
      | cons p rr ih2 =>
        intro hp h
        rw [Layout.allL, List.mem_append] at h
        rw [Layout.depthL]
        rcases h with h | h
        · rcases hp p List.mem_cons_self q h with rfl | h'
          · omega
          · omega
        · have := ih2 (fun p' hp' => hp p' (List.mem_cons_of_mem _ hp')) h
          omega
    have := this l.parts ih hq
    rw [l.depth_eq]; omega

theorem all_sub : ∀ l q : Layout, q ∈ l.all → ∀ r ∈ q.all, r ∈ l.all := by
  refine Layout.ind fun l ih q hq r hr => ?_
  rw [l.all_eq] at hq ⊢
  rcases List.mem_cons.1 hq with rfl | hq
  · rw [q.all_eq] at hr; exact hr
  · refine List.mem_cons_of_mem _ ?_
    have : ∀ ps : List Layout, (∀ p ∈ ps, ∀ q ∈ p.all, ∀ r ∈ q.all, r ∈ p.all) → q ∈ Layout.allL ps → r ∈ Layout.allL ps := by
      intro ps
      induction ps with
      | nil => intro _ h; simp [Layout.allL] at h
      | cons p rr ih2 =>
        intro hp h
        rw [Layout.allL, List.mem_append] at h ⊢
        rcases h with h | h
        · exact .inl (hp p List.mem_cons_self q h r hr)
        · exact .inr (ih2 (fun p' hp' => hp p' (List.mem_cons_of_mem _ hp')) h)
    exact this l.parts ih hq

theorem val_of {w : Int} (hw : w = 2 ∨ w = 4 ∨ w = 8) {l : Layout} (hl : l.Fits) (h : valS l = 0) : l.Val w := by
  unfold valS at h
  split at h
  · cases h
  rename_i h1
  split at h
  · rename_i hr
    simp only [Bool.or_eq_true, decide_eq_true_eq, not_or] at h1
    obtain ⟨h1, h2⟩ := h1
    unfold Layout.large at h1
    simp only [Bool.or_eq_true, decide_eq_true_eq, not_or] at h1
    obtain ⟨⟨h3, h4⟩, h5⟩ := h1
    have h5 : l.all.any Layout.big = false := by simpa using h5
    refine ⟨hl, hr, h5, fun q hq => ?_⟩
    have hqr : q.right = true := by
      unfold Layout.right at hr ⊢
      rw [List.all_eq_true] at hr ⊢
      exact fun x hx => hr x (all_sub l q hq x hx)
    have hqb : q.all.any Layout.big = false := by
      rw [List.any_eq_false] at h5 ⊢
      exact fun x hx => h5 x (all_sub l q hq x hx)
    rcases depth_all l q hq with rfl | hd
    · have := size_cells hw q hqr hqb
      omega
    · have h6 := size_depth hw q hqr hqb
      rw [q.depth_eq] at hd
      have h7 : Bd (Layout.depthL q.parts) ≤ Bd 3 := Bd_mono (by omega)
      have h8 : Bd 3 = 8000000000 := by decide
      omega
  · cases h

def valT (w : Int) : Int := if w = 2 ∨ w = 4 ∨ w = 8 then 0 else 1

/-- The errors of a layout and a target. -/
def askS (l : Layout) (w : Int) : Int := if valS l = 0 then valT w else valS l

/-- A layout that the law does not leave out. -/
structure Layout.Fine (l : Layout) : Prop where
  fits : l.Fits
  count : l.all.length ≤ 10000
  deep : l.depth ≤ 10000

theorem ask_val {l : Layout} {w : Int} (hl : l.Fine) (h : askS l w = 0) : (w = 2 ∨ w = 4 ∨ w = 8) ∧ l.Val w := by
  unfold askS at h
  split at h
  · rename_i h1
    have hw : w = 2 ∨ w = 4 ∨ w = 8 := by
      unfold valT at h
      split at h
      · assumption
      · cases h
    exact ⟨hw, val_of hw hl.fits h1⟩
  · rename_i h1; exact (h1 h).elim

def largeS (l : Layout) (w : Int) : Int := if (l.of w).1 > 4096 then 3 else 0

/-- The room of a layout that is not too large. -/
def roomS (l : Layout) (w : Int) : Int × Int := if (l.of w).1 > 4096 then (0, 0) else l.of w

/-- Size or Align, and the error. -/
def sizeS (l : Layout) (w : Int) : Int × Int := if askS l w = 0 then ((roomS l w).1, largeS l w) else (0, askS l w)

def alignS (l : Layout) (w : Int) : Int × Int := if askS l w = 0 then ((roomS l w).2, largeS l w) else (0, askS l w)

/-- Offsets. -/
def offsS (l : Layout) (w : Int) : List Int × Int :=
  if askS l w = 0 then (if l.kind = 6 then (if largeS l w = 0 then ((standS (Layout.ofL w l.parts)).1, 0) else ([], largeS l w)) else ([], 6)) else ([], askS l w)

def overS (l : Layout) : Bool := decide (depthS 30 l > 20) || decide (l.count 600 > 500)

theorem depth_le_all : ∀ l : Layout, l.depth ≤ l.all.length := by
  refine Layout.ind fun l ih => ?_
  rw [l.depth_eq, l.all_eq, List.length_cons]
  have : ∀ ps : List Layout, (∀ p ∈ ps, p.depth ≤ p.all.length) → Layout.depthL ps ≤ (Layout.allL ps).length := by
    intro ps
    induction ps with
    | nil => intro _; simp [Layout.depthL]
    | cons p r ih2 =>
      intro h
      have h1 := h p List.mem_cons_self
      have h2 := ih2 fun q hq => h q (List.mem_cons_of_mem _ hq)
      simp only [Layout.depthL, Layout.allL, List.length_append]; omega
  have := this l.parts ih
  omega

theorem fine_of {l : Layout} (hl : l.Fits) (h : overS l = false) : l.Fine := by
  unfold overS at h
  simp only [Bool.or_eq_false_iff, decide_eq_false_iff_not] at h
  have h1 := l.count_full 600 (by omega)
  have h2 := depth_le_all l
  exact ⟨hl, by omega, by omega⟩

def lay1 : Layout := .mk 6 0 false [.mk 1 0 false [], .mk 3 0 false []]

def lay2 : Layout := .mk 4 0 false [.mk 2 16 false []]

theorem fine1 : lay1.Fine := by
  refine ⟨fun q hq => ?_, by decide, by decide⟩
  simp [lay1, Layout.all, Layout.allL] at hq
  rcases hq with rfl | rfl | rfl <;> simp [Layout.fit, Layout.kind, Layout.n, Layout.parts]

theorem fine2 : lay2.Fine := by
  refine ⟨fun q hq => ?_, by decide, by decide⟩
  simp [lay2, Layout.all, Layout.allL] at hq
  rcases hq with rfl | rfl <;> simp [Layout.fit, Layout.kind, Layout.n, Layout.parts]

theorem offs1 : offsS lay1 4 = ([0, 4], 0) := by decide

theorem size2 : sizeS lay2 4 = (4, 0) := by decide

def countS (l : Layout) : Int × Int × Int := if valS l = 0 then (l.all.length, l.depth, 0) else (0, 0, valS l)

theorem large_of_val {l : Layout} (h : valS l = 0) : l.large = false := by
  unfold valS at h
  split at h
  · cases h
  · rename_i h1
    simp only [Bool.or_eq_true, not_or] at h1
    simpa using h1.1

end Go.Proofs.Ytdknkfioigcfiaa
