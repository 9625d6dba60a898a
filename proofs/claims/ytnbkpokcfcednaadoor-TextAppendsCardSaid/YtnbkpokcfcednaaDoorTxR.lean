/-
  Typed states: reading the arguments of a statement, for all types at once.
-/
import Derived.Test.YtnbkpokcfcednaaDoorTxP
import Derived.Test.YtnbkpokcfcednaaDoorAwpT
import Derived.WalkKit
import Derived.ProofKit
import Derived.OpenShut
namespace Go.Tx
open Go.Awp
set_option linter.unusedSectionVars false
variable [Inhabited GMem]
set_option linter.unusedSimpArgs false
set_option linter.unusedVariables false

section
variable (V : View)

/-- A value that the machine can hold. -/
inductive Ok : (t : Ty V.ι) → den V.N t → Prop
  | int {k : IntKind} {n : Int} : (Lit.int k n).wf = true → Ok (.int k) n
  | bool (b : Bool) : Ok .bool b
  | str {s : ByteArray} : s.size ≤ maxLen → Ok .str s
  | sl {e : Ty V.ι} {xs : List (den V.N e)} : xs.length ≤ maxLen → (∀ x ∈ xs, Ok e x) → Ok (.sl e) xs
  | st {i : V.ι} {x : V.N i} : (∀ l ∈ V.cells i x, Ok l.t l.x) → Ok (.st i) x

def flatTy : Ty V.ι → List (Ty V.ι)
  | .st i => V.tys i
  | t => [t]

/-- The cells of fields, in a row. -/
def flds (P : Program) : Nat → List Field → Option (List (Ty V.ι))
  | _, [] => some []
  | off, f :: fs => match V.ty f.type with
    | some τ => if f.offset = off ∧ P.cellsOf f.type = tsz V.sz τ then match flds P (off + tsz V.sz τ) fs with
        | some l => some (flatTy V τ ++ l)
        | none => none
      else none
    | none => none

def tyFact (P : Program) (t : TypeId) : Ty V.ι → Prop
  | .int k => P.underlying t = some (.int k)
  | .bool => P.underlying t = some .bool
  | .str => P.underlying t = some .string
  | .sl e => ∃ te, P.underlying t = some (.slice te) ∧ V.ty te = some e ∧ P.cellsOf te = tsz V.sz e ∧ Nat.blt 0 (tsz V.sz e) = true
  | .mp _ _ => False
  | .st i => ∃ fs : Array Field, P.underlying t = some (.struct fs) ∧ P.cellsOf t = V.sz i ∧ flds V P 0 fs.toList = some (V.tys i)

/-- The types of a program are what the view says. -/
structure Facts (P : Program) : Prop where
  ty : ∀ t τ, V.ty t = some τ → tyFact V P t τ
  tys : ∀ i x, (V.cells i x).map (·.t) = V.tys i
  of : ∀ i ls, ls.map (·.t) = V.tys i → ∃ y, V.ofCells i ls = some y
end

section
variable {V : View} {H0 : Type} {enc : TypeId × Value → H0} {P : Program} {W : World} {spare : Nat → Bool} {held : Bool} {base : Nat}

theorem read_string {t : TypeId} (hu : P.underlying t = some .string) {fuel : Nat} {cs : List Value} {x : DataW H0 × List MemPlace} (h : DataW.trod enc P W base spare held fuel t cs = some x) :
    ∃ s, cs = [.string s] ∧ s.size ≤ maxLen := by
  cases fuel with
  | zero => cases h
  | succ fuel =>
    unfold DataW.trod at h
    rw [hu] at h
    simp only [] at h
    split at h <;> try (rename_i h1 _; cases h1)
    all_goals try (cases h; done)
    all_goals simp_all

/-- Cells that stand for leaves. -/
def LeafRep (M : Mem) (cs : List Value) (ls : List (Leaf V.N)) : Prop :=
  cs.length = ls.length ∧ ∀ (i : Nat) (c : Value) (l : Leaf V.N), cs[i]? = some c → ls[i]? = some l → DRep M c (encD V.sz V.enc l.t l.x)

theorem LeafRep.app {M : Mem} {cs cs' : List Value} {ls ls' : List (Leaf V.N)} (h : LeafRep M cs ls) (h' : LeafRep M cs' ls') : LeafRep M (cs ++ cs') (ls ++ ls') := by
  refine ⟨by simp [h.1, h'.1], fun i c l hc hl => ?_⟩
  by_cases hi : i < cs.length
  · rw [List.getElem?_append_left hi] at hc
    rw [List.getElem?_append_left (by rw [← h.1]; exact hi)] at hl
    exact h.2 i c l hc hl
  · rw [List.getElem?_append_right (by omega)] at hc
    rw [List.getElem?_append_right (by rw [← h.1]; omega), ← h.1] at hl
    exact h'.2 _ c l hc hl

/-- What is read of one type. -/
def Rd (M : Mem) (τ : Ty V.ι) (cs : List Value) : Prop :=
  ∃ y : den V.N τ, Ok V τ y ∧ LeafRep M cs (rcells V τ y) ∧ (rcells V τ y).map (·.t) = flatTy V τ ∧ ∀ l ∈ rcells V τ y, Ok V l.t l.x

theorem read_fields (F : Facts V P) {M : Mem} {rd : TypeId → List Value → Prop} (hrd : ∀ t τ cs, V.ty t = some τ → rd t cs → Rd (V := V) M τ cs) {cs : List Value} : ∀ (fs : List Field) (off : Nat) (l : List (Ty V.ι)),
    flds V P off fs = some l → (∀ f ∈ fs, rd f.type ((cs.drop f.offset).take (P.cellsOf f.type))) → ∃ (n : Nat) (ls : List (Leaf V.N)), ls.map (·.t) = l ∧ LeafRep M ((cs.drop off).take n) ls ∧ (∀ x ∈ ls, Ok V x.t x.x) ∧ n = ls.length
  | [], off, l, h, _ => by
    simp [flds] at h; subst h
    exact ⟨0, [], rfl, ⟨rfl, fun i c l hc => by simp at hc⟩, (fun x hx => nomatch hx), rfl⟩
  | f :: fs, off, l, h, hf => by
    simp only [flds] at h
    split at h
    · rename_i τ hτ
      split at h
      · rename_i hc
        obtain ⟨ho, hsz⟩ := hc
        split at h
        · rename_i l' hl'
          simp at h; subst h
          obtain ⟨n, ls, a1, a2, a3, a4⟩ := read_fields F hrd fs _ l' hl' fun g hg => hf g (List.mem_cons_of_mem _ hg)
          obtain ⟨y, b1, b2, b3, b4⟩ := hrd f.type τ _ hτ (hf f List.mem_cons_self)
          rw [ho, hsz] at b2
          refine ⟨tsz V.sz τ + n, rcells V τ y ++ ls, by simp [a1, b3], ?_, fun x hx => ?_, by simp [rcells_len, a4]⟩
          · have e : (cs.drop off).take (tsz V.sz τ + n) = (cs.drop off).take (tsz V.sz τ) ++ (cs.drop (off + tsz V.sz τ)).take n := by
              rw [List.take_add, List.drop_drop]
            rw [e]
            exact b2.app a2
          · rcases List.mem_append.1 hx with hx | hx
            · exact b4 x hx
            · exact a3 x hx
        · cases h
      · cases h
    · cases h

theorem encR_rcells (τ : Ty V.ι) (y : den V.N τ) : encR V.sz V.enc τ y = (rcells V τ y).map fun l => encD V.sz V.enc l.t l.x := by
  cases τ <;> first | rfl | (simp only [encR, rcells]; exact V.enc_cells _ _) | simp [encR, rcells, encD]

/-- READING: what is read is a value of the type. -/
theorem read_all (F : Facts V P) : ∀ (fuel : Nat) (t : TypeId) (τ : Ty V.ι) (cs : List Value) (x : DataW H0 × List MemPlace), V.ty t = some τ → DataW.trod enc P W base spare held fuel t cs = some x → Rd (memOf W) τ cs := by
  intro fuel
  induction fuel using Nat.strongRecOn with
  | ind fuel ih =>
  intro t τ cs x hty h
  have hf := F.ty t τ hty
  cases τ with
  | mp k v => exact hf.elim
  | int k =>
    obtain ⟨n, rfl, hw⟩ := read_int hf h
    refine ⟨n, .int hw, ⟨rfl, fun i c l hc hl => ?_⟩, rfl, fun l hl => ?_⟩
    · cases i with
      | zero => simp [rcells] at hc hl; subst hc; subst hl; exact .v _
      | succ i => simp at hc
    · simp [rcells] at hl; subst hl; exact .int hw
  | bool =>
    obtain ⟨b, rfl⟩ := read_bool hf h
    refine ⟨b, .bool b, ⟨rfl, fun i c l hc hl => ?_⟩, rfl, fun l hl => ?_⟩
    · cases i with
      | zero => simp [rcells] at hc hl; subst hc; subst hl; exact .v _
      | succ i => simp at hc
    · simp [rcells] at hl; subst hl; exact .bool b
  | str =>
    obtain ⟨s, rfl, hs⟩ := read_string hf h
    refine ⟨s, .str hs, ⟨rfl, fun i c l hc hl => ?_⟩, rfl, fun l hl => ?_⟩
    · cases i with
      | zero => simp [rcells] at hc hl; subst hc; subst hl; exact .v _
      | succ i => simp at hc
    · simp [rcells] at hl; subst hl; exact .str hs
  | st i =>
    obtain ⟨fs, hu, hsz, hfl⟩ := hf
    cases fuel with
    | zero => cases h
    | succ fuel =>
      obtain ⟨hl, hr⟩ := read_struct hu h
      obtain ⟨n, ls, a1, a2, a3, a4⟩ := read_fields F (M := memOf W) (rd := fun t cs => ∃ y, DataW.trod enc P W base spare held fuel t cs = some y) (fun t τ cs hτ ⟨y, hy⟩ => ih fuel (by omega) t τ cs y hτ hy) fs.toList 0 _ hfl
        (fun f hf => by
          obtain ⟨j, hj⟩ := List.getElem?_of_mem hf
          exact hr j f (by simpa using hj))
      obtain ⟨y, hy⟩ := F.of i ls a1
      have hc := V.of_cells i ls y hy
      have hn : n = cs.length := by rw [a4, ← hc, V.len_cells, hl, hsz]
      rw [List.drop_zero, List.take_of_length_le (by omega)] at a2
      refine ⟨y, .st (by rw [hc]; exact a3), by simpa only [rcells, hc] using a2, by simpa only [rcells, hc, flatTy] using a1, by simpa only [rcells, hc] using a3⟩
  | sl e =>
    obtain ⟨te, hu, hte, hsz, hpos⟩ := hf
    have hpos : 0 < tsz V.sz e := by simpa [Nat.blt_eq] using hpos
    cases fuel with
    | zero => cases h
    | succ fuel =>
      have fin : ∀ (c3 : Value) (ys : List (den V.N e)), ys.length ≤ maxLen → (∀ y ∈ ys, Ok V e y) → DRep (memOf W) c3 (encD V.sz V.enc (.sl e) ys) → Rd (V := V) (memOf W) (.sl e) [c3] := by
        intro c3 ys h1 h2 h3
        refine ⟨ys, .sl h1 h2, ⟨rfl, fun i c l hc hl => ?_⟩, rfl, fun l hl => ?_⟩
        · cases i with
          | zero => simp [rcells] at hc hl; subst hc; subst hl; exact h3
          | succ i => simp at hc
        · simp [rcells] at hl; subst hl; exact .sl h1 h2
      rcases read_slice hu h with h4 | ⟨a, len, cap, h4, hlc, hcm, hr⟩
      · subst h4
        exact fin _ [] (by simp) (fun y hy => by cases hy) (.slnil _)
      · subst h4
        rw [hsz] at hr
        obtain ⟨ys, hyl, hys⟩ := list_of (α := den V.N e) (R := fun i y => ∃ row, W.cells? base (a.add (i * tsz V.sz e)) (tsz V.sz e) = some row ∧ Ok V e y ∧ LeafRep (memOf W) row (rcells V e y)) len
          fun i hi => by
            obtain ⟨row, z, g1, g2⟩ := hr i hi
            obtain ⟨y, b1, b2, _, _⟩ := ih fuel (by omega) te e row z hte g2
            exact ⟨y, row, g1, b1, b2⟩
        refine fin _ ys (by omega) (fun y hy => ?_) (DRep.of_slice (b := base) hpos hlc (by rw [List.length_map, hyl]) (fun r hr' => ?_) fun i hi => ?_)
        · obtain ⟨i, hi, rfl⟩ := List.getElem_of_mem hy
          obtain ⟨row, _, e1, _⟩ := hys i _ (List.getElem?_eq_getElem hi)
          exact e1
        · obtain ⟨y, _, rfl⟩ := List.mem_map.1 hr'
          rw [encR_rcells, List.length_map, rcells_len]
        · obtain ⟨row, e0, _, e2⟩ := hys i (ys[i]'(by omega)) (List.getElem?_eq_getElem (by omega))
          refine ⟨row, e0, fun r hr' j c y hc hy => ?_⟩
          rw [List.getElem?_map, List.getElem?_eq_getElem (by omega : i < ys.length)] at hr'
          simp at hr'
          subst hr'
          rw [encR_rcells, List.getElem?_map, Option.map_eq_some_iff] at hy
          obtain ⟨l, hl, rfl⟩ := hy
          exact e2.2 j c l hc hl

theorem cell_not_agg {r : Reach} {t : TypeId} {cs : Array Value} (h : (∃ k, P.underlying t = some (.int k)) ∨ P.underlying t = some .bool ∨ P.underlying t = some .string ∨ ∃ e, P.underlying t = some (.slice e)) :
    ¬ Value.okWide P W r base t (.agg cs) := by
  intro hv
  unfold Value.okWide at hv
  rcases h with ⟨k, h⟩ | h | h | ⟨e, h⟩ <;> rw [h] at hv <;> simp only [Cell.okWide, Cell.ok, h] at hv

/-- OPENING an argument. -/
theorem open_val (F : Facts V P) {r : Reach} {b0 : Nat} {t : TypeId} {τ : Ty V.ι} {v : Value} {d : DataW H0} {p : List MemPlace} (hty : V.ty t = some τ) (hok : Value.okWide P W r b0 t v) (h : DataW.Trod enc P W base spare held t v d p) :
    ∃ y : den V.N τ, Ok V τ y ∧ DRep (memOf W) v (encD V.sz V.enc τ y) := by
  obtain ⟨fuel, h⟩ := h
  obtain ⟨y, h1, h2, _, _⟩ := read_all F fuel t τ _ _ hty h
  refine ⟨y, h1, ?_⟩
  have hf := F.ty t τ hty
  have cell : (∀ cs, v ≠ .agg cs) → rcells V τ y = [⟨τ, y⟩] → DRep (memOf W) v (encD V.sz V.enc τ y) := by
    intro hn hr
    rw [hr] at h2
    have hc : v.cells.toList = [v] := by cases v <;> first | rfl | exact (hn _ rfl).elim
    rw [hc] at h2
    exact h2.2 0 v ⟨τ, y⟩ rfl rfl
  cases τ with
  | mp k v => exact hf.elim
  | int k => exact cell (fun cs e => by subst e; exact cell_not_agg (.inl ⟨k, hf⟩) hok) rfl
  | bool => exact cell (fun cs e => by subst e; exact cell_not_agg (.inr (.inl hf)) hok) rfl
  | str => exact cell (fun cs e => by subst e; exact cell_not_agg (.inr (.inr (.inl hf))) hok) rfl
  | sl e =>
    obtain ⟨te, hu, _⟩ := hf
    exact cell (fun cs e => by subst e; exact cell_not_agg (.inr (.inr (.inr ⟨te, hu⟩))) hok) rfl
  | st i =>
    obtain ⟨fs, hu, _, _⟩ := hf
    unfold Value.okWide at hok
    rw [hu] at hok
    obtain ⟨cs, rfl, _⟩ := hok
    simp only [Value.cells] at h2
    simp only [encD]
    rw [V.enc_cells]
    refine .agg cs _ (by rw [List.length_map]; have := h2.1; simpa [rcells] using this) fun k c x hc hx => ?_
    rw [List.getElem?_map, Option.map_eq_some_iff] at hx
    obtain ⟨l, hl, rfl⟩ := hx
    exact h2.2 k c l (by simpa using hc) hl

end
end Go.Tx
