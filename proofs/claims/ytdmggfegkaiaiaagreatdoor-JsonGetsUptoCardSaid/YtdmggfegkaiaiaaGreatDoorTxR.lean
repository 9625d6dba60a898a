/-
  Typed states: reading the arguments of a statement, for all types at once.
-/
import Derived.Test.YtdmggfegkaiaiaaGreatDoorTxP
import Derived.Test.YtdmggfegkaiaiaaGreatDoorAwpT
import Derived.WalkKit
import Derived.ProofKit
import Derived.OpenShut
namespace Go.Tx
open Go.Awp
set_option linter.unusedSectionVars false
variable [Inhabited GMem]
set_option linter.unusedSimpArgs false
set_option linter.unusedVariables false

section
variable (V : View)

mutual
/-- How much a reading holds: every value and every letter. -/
def dbulk {H : Type} : DataW H → Nat
  | .lit (.string bs) => bs.length + 1
  | .lit _ => 1
  | .nil => 1
  | .ptr d => dbulk d + 1
  | .slice elems spare => dbulkL elems + dbulkL spare + 1
  | .agg parts => dbulkL parts + 1
  | .iface _ d => dbulk d + 1
  | .map _ => 1
  | .held _ => 1
def dbulkL {H : Type} : List (DataW H) → Nat
  | [] => 0
  | d :: r => dbulk d + dbulkL r
end

theorem dbulkL_sum {H : Type} : ∀ l : List (DataW H), dbulkL l = (l.map dbulk).sum
  | [] => by simp [dbulkL]
  | d :: r => by simp [dbulkL, dbulkL_sum r]

/-- A value that the machine can hold. -/
inductive Ok : (t : Ty V.ι) → den V.N t → Prop
  | int {k : IntKind} {n : Int} : (Lit.int k n).wf = true → Ok (.int k) n
  | bool (b : Bool) : Ok .bool b
  | str {s : ByteArray} : s.size ≤ maxLen → Ok .str s
  | sl {e : Ty V.ι} {xs : List (den V.N e)} : xs.length ≤ maxLen → (∀ x ∈ xs, Ok e x) → Ok (.sl e) xs
  | st {i : V.ι} {x : V.N i} : (∀ l ∈ V.cells i x, Ok l.t l.x) → Ok (.st i) x

/-- A value that has at most such a bulk. -/
inductive Bk : (t : Ty V.ι) → den V.N t → Nat → Prop
  | int {k : IntKind} {n : Int} {m : Nat} : 1 ≤ m → Bk (.int k) n m
  | bool {b : Bool} {m : Nat} : 1 ≤ m → Bk .bool b m
  | str {s : ByteArray} {m : Nat} : s.size + 1 ≤ m → Bk .str s m
  | sl {e : Ty V.ι} {xs : List (den V.N e)} {m : Nat} (ns : List Nat) : ns.length = xs.length → (∀ (i : Nat) (x : den V.N e) (n : Nat), xs[i]? = some x → ns[i]? = some n → Bk e x n) → ns.sum + 1 ≤ m → Bk (.sl e) xs m
  | st {i : V.ι} {x : V.N i} {m : Nat} (ns : List Nat) : ns.length = (V.cells i x).length → (∀ (j : Nat) (l : Leaf V.N) (n : Nat), (V.cells i x)[j]? = some l → ns[j]? = some n → Bk l.t l.x n) → ns.sum + 1 ≤ m → Bk (.st i) x m

/-- Cells that together have at most such a bulk. -/
def Bks (ls : List (Leaf V.N)) (m : Nat) : Prop :=
  ∃ ns : List Nat, ns.length = ls.length ∧ (∀ (j : Nat) (l : Leaf V.N) (n : Nat), ls[j]? = some l → ns[j]? = some n → Bk V l.t l.x n) ∧ ns.sum ≤ m

def flatTy : Ty V.ι → List (Ty V.ι)
  | .st i => V.tys i
  | t => [t]

/-- The cells of fields, in a row. -/
def flds (P : Program) : Nat → List Field → Option (List (Ty V.ι))
  | _, [] => some []
  | off, f :: fs => match V.ty f.type with
    | some τ => if f.offset = off ∧ P.cellsOf f.type = tsz V.sz τ then match flds P (off + tsz V.sz τ) fs with
        | some l => some (flatTy V τ ++ l)
        | none => none
      else none
    | none => none

def tyFact (P : Program) (t : TypeId) : Ty V.ι → Prop
  | .int k => P.underlying t = some (.int k)
  | .bool => P.underlying t = some .bool
  | .str => P.underlying t = some .string
  | .sl e => ∃ te, P.underlying t = some (.slice te) ∧ V.ty te = some e ∧ P.cellsOf te = tsz V.sz e ∧ Nat.blt 0 (tsz V.sz e) = true
  | .mp _ _ => False
  | .er => False
  | .st i => ∃ fs : Array Field, P.underlying t = some (.struct fs) ∧ P.cellsOf t = V.sz i ∧ flds V P 0 fs.toList = some (V.tys i)

/-- The types of a program are what the view says. -/
structure Facts (P : Program) : Prop where
  ty : ∀ t τ, V.ty t = some τ → tyFact V P t τ
  tys : ∀ i x, (V.cells i x).map (·.t) = V.tys i
  of : ∀ i ls, ls.map (·.t) = V.tys i → ∃ y, V.ofCells i ls = some y
end

section
variable {V : View} {H0 : Type} {enc : TypeId × Value → H0} {P : Program} {W : World} {spare : Nat → Bool} {held : Bool} {base : Nat}

theorem read_string {t : TypeId} (hu : P.underlying t = some .string) {fuel : Nat} {cs : List Value} {x : DataW H0 × List MemPlace} (h : DataW.trod enc P W base spare held fuel t cs = some x) :
    ∃ s, cs = [.string s] ∧ s.size ≤ maxLen := by
  cases fuel with
  | zero => cases h
  | succ fuel =>
    unfold DataW.trod at h
    rw [hu] at h
    simp only [] at h
    split at h <;> try (rename_i h1 _; cases h1)
    all_goals try (cases h; done)
    all_goals simp_all

/-- Cells that stand for leaves. -/
def LeafRep (M : Mem) (cs : List Value) (ls : List (Leaf V.N)) : Prop :=
  cs.length = ls.length ∧ ∀ (i : Nat) (c : Value) (l : Leaf V.N), cs[i]? = some c → ls[i]? = some l → DRep M c (encD V.sz V.enc l.t l.x)

theorem LeafRep.app {M : Mem} {cs cs' : List Value} {ls ls' : List (Leaf V.N)} (h : LeafRep M cs ls) (h' : LeafRep M cs' ls') : LeafRep M (cs ++ cs') (ls ++ ls') := by
  refine ⟨by simp [h.1, h'.1], fun i c l hc hl => ?_⟩
  by_cases hi : i < cs.length
  · rw [List.getElem?_append_left hi] at hc
    rw [List.getElem?_append_left (by rw [← h.1]; exact hi)] at hl
    exact h.2 i c l hc hl
  · rw [List.getElem?_append_right (by omega)] at hc
    rw [List.getElem?_append_right (by rw [← h.1]; omega), ← h.1] at hl
    exact h'.2 _ c l hc hl

theorem Bks.app {ls ls' : List (Leaf V.N)} {m m' : Nat} (h : Bks V ls m) (h' : Bks V ls' m') : Bks V (ls ++ ls') (m + m') := by
  obtain ⟨ns, h1, h2, h3⟩ := h
  obtain ⟨ns', h1', h2', h3'⟩ := h'
  refine ⟨ns ++ ns', by simp [h1, h1'], fun j l n hl hn => ?_, by simp; omega⟩
  by_cases hj : j < ls.length
  · rw [List.getElem?_append_left hj] at hl
    rw [List.getElem?_append_left (by omega)] at hn
    exact h2 j l n hl hn
  · rw [List.getElem?_append_right (by omega)] at hl
    rw [List.getElem?_append_right (by omega), h1] at hn
    exact h2' _ l n hl hn

theorem Bks.one {t : Ty V.ι} {x : den V.N t} {m : Nat} (h : Bk V t x m) : Bks V [⟨t, x⟩] m :=
  ⟨[m], rfl, fun j l n hl hn => by
    cases j with
    | zero => simp at hl hn; subst hl; subst hn; exact h
    | succ j => simp at hl, by simp⟩

/-- What is read of one type. -/
def Rd (M : Mem) (τ : Ty V.ι) (cs : List Value) (m : Nat) : Prop :=
  ∃ y : den V.N τ, Ok V τ y ∧ LeafRep M cs (rcells V τ y) ∧ (rcells V τ y).map (·.t) = flatTy V τ ∧ (∀ l ∈ rcells V τ y, Ok V l.t l.x) ∧ Bk V τ y m ∧ Bks V (rcells V τ y) m

theorem read_fields (F : Facts V P) {M : Mem} {rd : TypeId → List Value → Nat → Prop} (hrd : ∀ t τ cs m, V.ty t = some τ → rd t cs m → Rd (V := V) M τ cs m) {cs : List Value} : ∀ (fs : List Field) (ms : List Nat) (off : Nat) (l : List (Ty V.ι)),
    flds V P off fs = some l → ms.length = fs.length → (∀ (j : Nat) (f : Field) (m : Nat), fs[j]? = some f → ms[j]? = some m → rd f.type ((cs.drop f.offset).take (P.cellsOf f.type)) m) →
    ∃ (n : Nat) (ls : List (Leaf V.N)), ls.map (·.t) = l ∧ LeafRep M ((cs.drop off).take n) ls ∧ (∀ x ∈ ls, Ok V x.t x.x) ∧ n = ls.length ∧ Bks V ls ms.sum
  | [], ms, off, l, h, hm, _ => by
    simp [flds] at h; subst h
    exact ⟨0, [], rfl, ⟨rfl, fun i c l hc => by simp at hc⟩, (fun x hx => nomatch hx), rfl, [], rfl, fun j l n hl => by simp at hl, by simp⟩
  | f :: fs, [], off, l, h, hm, _ => by simp at hm
  | f :: fs, m :: ms, off, l, h, hm, hf => by
    simp only [flds] at h
    split at h
    · rename_i τ hτ
      split at h
      · rename_i hc
        obtain ⟨ho, hsz⟩ := hc
        split at h
        · rename_i l' hl'
          simp at h; subst h
          obtain ⟨n, ls, a1, a2, a3, a4, a5⟩ := read_fields F hrd fs ms _ l' hl' (by simpa using hm) fun j g m hg hm => hf (j + 1) g m (by simpa using hg) (by simpa using hm)
          obtain ⟨y, b1, b2, b3, b4, b5, b6⟩ := hrd f.type τ _ m hτ (hf 0 f m rfl rfl)
          rw [ho, hsz] at b2
          refine ⟨tsz V.sz τ + n, rcells V τ y ++ ls, by simp [a1, b3], ?_, fun x hx => ?_, by simp [rcells_len, a4], by rw [List.sum_cons]; exact b6.app a5⟩
          · have e : (cs.drop off).take (tsz V.sz τ + n) = (cs.drop off).take (tsz V.sz τ) ++ (cs.drop (off + tsz V.sz τ)).take n := by
              rw [List.take_add, List.drop_drop]
            rw [e]
            exact b2.app a2
          · rcases List.mem_append.1 hx with hx | hx
            · exact b4 x hx
            · exact a3 x hx
        · cases h
      · cases h
    · cases h

theorem read_structB {t : TypeId} {fs : Array Field} (hu : P.underlying t = some (.struct fs)) {fuel : Nat} {cs : List Value} {x : DataW H0 × List MemPlace} (h : DataW.trod enc P W base spare held (fuel + 1) t cs = some x) :
    cs.length = P.cellsOf t ∧ ∃ ds : List (DataW H0), x.1 = .agg ds ∧ ds.length = fs.toList.length ∧ ∀ (i : Nat) (f : Field), fs.toList[i]? = some f → ∃ y, ds[i]? = some y.1 ∧ DataW.trod enc P W base spare held fuel f.type ((cs.drop f.offset).take (P.cellsOf f.type)) = some y := by
  unfold DataW.trod at h
  rw [hu] at h
  simp only [] at h
  split at h
  · rename_i hl
    rw [Option.map_eq_some_iff] at h
    obtain ⟨ys, hm, hx⟩ := h
    subst hx
    refine ⟨hl, ys.map (·.1), rfl, by rw [List.length_map, (mapM_some hm).1], fun i f hf => ?_⟩
    obtain ⟨y, hy1, hy⟩ := (mapM_some hm).2 i f hf
    exact ⟨y, by rw [List.getElem?_map, hy1]; rfl, hy⟩
  · cases h

theorem read_sliceB {t e : TypeId} (hu : P.underlying t = some (.slice e)) {fuel : Nat} {cs : List Value} {x : DataW H0 × List MemPlace} (h : DataW.trod enc P W base spare held (fuel + 1) t cs = some x) :
    (cs = [.slice none 0 0] ∧ x.1 = .nil) ∨ ∃ a len cap, cs = [.slice (some a) len cap] ∧ len ≤ cap ∧ cap ≤ maxLen ∧ ∃ ds sp : List (DataW H0), x.1 = .slice ds sp ∧ ds.length = len ∧
      ∀ i, i < len → ∃ row y, W.cells? base (a.add (i * P.cellsOf e)) (P.cellsOf e) = some row ∧ DataW.trod enc P W base spare held fuel e row = some y ∧ ds[i]? = some y.1 := by
  unfold DataW.trod at h
  rw [hu] at h
  simp only [] at h
  split at h
  all_goals first
    | (simp only [Option.some.injEq, reduceCtorEq] at *; done)
    | (left; simp only [Option.some.injEq] at h; exact ⟨rfl, by rw [← h]⟩)
    | (rename_i a len cap hx
       simp only [Option.some.injEq, TypeDesc.slice.injEq] at hx
       subst hx
       right
       split at h
       · rename_i hc
         rw [Option.bind_eq_some_iff] at h
         obtain ⟨ys, hm, h⟩ := h
         rw [Option.map_eq_some_iff] at h
         obtain ⟨rest, _, h⟩ := h
         subst h
         refine ⟨a, len, cap, rfl, hc.2.1, hc.2.2, ys.map (·.1), rest.map (·.1), rfl, by rw [List.length_map, (mapM_some hm).1, List.length_range], fun i hi => ?_⟩
         obtain ⟨y, hy1, hy⟩ := (mapM_some hm).2 i i (by rw [List.getElem?_range hi])
         rw [Option.bind_eq_some_iff] at hy
         obtain ⟨row, h1, h2⟩ := hy
         exact ⟨row, y, h1, h2, by rw [List.getElem?_map, hy1]; rfl⟩
       · cases h)
    | skip

theorem dbulk_pos {H : Type} (d : DataW H) : 1 ≤ dbulk d := by
  cases d with
  | lit l => cases l <;> simp [dbulk]
  | _ => simp [dbulk]

theorem read_stringB {t : TypeId} (hu : P.underlying t = some .string) {fuel : Nat} {cs : List Value} {x : DataW H0 × List MemPlace} (h : DataW.trod enc P W base spare held fuel t cs = some x) :
    ∃ s, cs = [.string s] ∧ s.size ≤ maxLen ∧ dbulk x.1 = s.size + 1 := by
  cases fuel with
  | zero => cases h
  | succ fuel =>
    obtain ⟨s, rfl, hs⟩ := read_string hu h
    refine ⟨s, rfl, hs, ?_⟩
    unfold DataW.trod at h
    rw [hu] at h
    simp only [] at h
    rw [if_pos hs] at h
    cases h
    show dbulk (.lit (.string s.data.toList)) = s.data.size + 1
    rw [dbulk, Array.length_toList]

theorem encR_rcells (τ : Ty V.ι) (y : den V.N τ) : encR V.sz V.enc τ y = (rcells V τ y).map fun l => encD V.sz V.enc l.t l.x := by
  cases τ <;> first | rfl | (simp only [encR, rcells]; exact V.enc_cells _ _) | simp [encR, rcells, encD]

/-- READING: what is read is a value of the type. -/
theorem read_all (F : Facts V P) : ∀ (fuel : Nat) (t : TypeId) (τ : Ty V.ι) (cs : List Value) (x : DataW H0 × List MemPlace), V.ty t = some τ → DataW.trod enc P W base spare held fuel t cs = some x → Rd (memOf W) τ cs (dbulk x.1) := by
  intro fuel
  induction fuel using Nat.strongRecOn with
  | ind fuel ih =>
  intro t τ cs x hty h
  have hf := F.ty t τ hty
  cases τ with
  | mp k v => exact hf.elim
  | er => exact hf.elim
  | int k =>
    obtain ⟨n, rfl, hw⟩ := read_int hf h
    refine ⟨n, .int hw, ⟨rfl, fun i c l hc hl => ?_⟩, rfl, fun l hl => ?_, .int (dbulk_pos _), .one (.int (dbulk_pos _))⟩
    · cases i with
      | zero => simp [rcells] at hc hl; subst hc; subst hl; exact .v _
      | succ i => simp at hc
    · simp [rcells] at hl; subst hl; exact .int hw
  | bool =>
    obtain ⟨b, rfl⟩ := read_bool hf h
    refine ⟨b, .bool b, ⟨rfl, fun i c l hc hl => ?_⟩, rfl, fun l hl => ?_, .bool (dbulk_pos _), .one (.bool (dbulk_pos _))⟩
    · cases i with
      | zero => simp [rcells] at hc hl; subst hc; subst hl; exact .v _
      | succ i => simp at hc
    · simp [rcells] at hl; subst hl; exact .bool b
  | str =>
    obtain ⟨s, rfl, hs, hb⟩ := read_stringB hf h
    refine ⟨s, .str hs, ⟨rfl, fun i c l hc hl => ?_⟩, rfl, fun l hl => ?_, .str (Nat.le_of_eq hb.symm), .one (.str (Nat.le_of_eq hb.symm))⟩
    · cases i with
      | zero => simp [rcells] at hc hl; subst hc; subst hl; exact .v _
      | succ i => simp at hc
    · simp [rcells] at hl; subst hl; exact .str hs
  | st i =>
    obtain ⟨fs, hu, hsz, hfl⟩ := hf
    cases fuel with
    | zero => cases h
    | succ fuel =>
      obtain ⟨hl, ds, hx, hdl, hr⟩ := read_structB hu h
      obtain ⟨n, ls, a1, a2, a3, a4, a5⟩ := read_fields F (M := memOf W) (rd := fun t cs m => ∃ y, DataW.trod enc P W base spare held fuel t cs = some y ∧ m = dbulk y.1) (fun t τ cs m hτ ⟨y, hy, hm⟩ => hm ▸ ih fuel (by omega) t τ cs y hτ hy) fs.toList (ds.map dbulk) 0 _ hfl
        (by rw [List.length_map, hdl])
        (fun j f m hf hm => by
          obtain ⟨y, hy1, hy⟩ := hr j f hf
          rw [List.getElem?_map, hy1] at hm
          exact ⟨y, hy, by simpa using hm.symm⟩)
      obtain ⟨y, hy⟩ := F.of i ls a1
      have hc := V.of_cells i ls y hy
      have hn : n = cs.length := by rw [a4, ← hc, V.len_cells, hl, hsz]
      rw [List.drop_zero, List.take_of_length_le (by omega)] at a2
      have hdb : dbulk x.1 = (ds.map dbulk).sum + 1 := by rw [hx, dbulk, dbulkL_sum]
      obtain ⟨ns, c1, c2, c3⟩ := a5
      refine ⟨y, .st (by rw [hc]; exact a3), by simpa only [rcells, hc] using a2, by simpa only [rcells, hc, flatTy] using a1, by simpa only [rcells, hc] using a3, .st ns (by rw [hc]; exact c1) (by rw [hc]; exact c2) (by omega), ns, by simpa only [rcells, hc] using c1, by simpa only [rcells, hc] using c2, by omega⟩
  | sl e =>
    obtain ⟨te, hu, hte, hsz, hpos⟩ := hf
    have hpos : 0 < tsz V.sz e := by simpa [Nat.blt_eq] using hpos
    cases fuel with
    | zero => cases h
    | succ fuel =>
      have fin : ∀ (c3 : Value) (ys : List (den V.N e)), ys.length ≤ maxLen → (∀ y ∈ ys, Ok V e y) → DRep (memOf W) c3 (encD V.sz V.enc (.sl e) ys) → Bk V (.sl e) ys (dbulk x.1) → Rd (V := V) (memOf W) (.sl e) [c3] (dbulk x.1) := by
        intro c3 ys h1 h2 h3 h4
        refine ⟨ys, .sl h1 h2, ⟨rfl, fun i c l hc hl => ?_⟩, rfl, fun l hl => ?_, h4, .one h4⟩
        · cases i with
          | zero => simp [rcells] at hc hl; subst hc; subst hl; exact h3
          | succ i => simp at hc
        · simp [rcells] at hl; subst hl; exact .sl h1 h2
      rcases read_sliceB hu h with ⟨h4, hx⟩ | ⟨a, len, cap, h4, hlc, hcm, ds, sp, hx, hdl, hr⟩
      · subst h4
        exact fin _ [] (by simp) (fun y hy => by cases hy) (.slnil _) (.sl [] rfl (fun i x n hx => by simp at hx) (by rw [hx]; simp [dbulk]))
      · subst h4
        rw [hsz] at hr
        obtain ⟨ys, hyl, hys⟩ := list_of (α := den V.N e) (R := fun i y => ∃ row d, W.cells? base (a.add (i * tsz V.sz e)) (tsz V.sz e) = some row ∧ Ok V e y ∧ LeafRep (memOf W) row (rcells V e y) ∧ ds[i]? = some d ∧ Bk V e y (dbulk d)) len
          fun i hi => by
            obtain ⟨row, z, g1, g2, g3⟩ := hr i hi
            obtain ⟨y, b1, b2, _, _, b5, _⟩ := ih fuel (by omega) te e row z hte g2
            exact ⟨y, row, z.1, g1, b1, b2, g3, b5⟩
        have hdb : dbulk x.1 = (ds.map dbulk).sum + dbulkL sp + 1 := by rw [hx, dbulk, dbulkL_sum]
        refine fin _ ys (by omega) (fun y hy => ?_) (DRep.of_slice (b := base) hpos hlc (by rw [List.length_map, hyl]) (fun r hr' => ?_) fun i hi => ?_) (.sl (ds.map dbulk) (by rw [List.length_map, hdl, hyl]) (fun i y n hy hn => ?_) (by omega))
        · obtain ⟨i, hi, rfl⟩ := List.getElem_of_mem hy
          obtain ⟨row, _, _, e1, _⟩ := hys i _ (List.getElem?_eq_getElem hi)
          exact e1
        · obtain ⟨y, _, rfl⟩ := List.mem_map.1 hr'
          rw [encR_rcells, List.length_map, rcells_len]
        · obtain ⟨row, _, e0, _, e2, _⟩ := hys i (ys[i]'(by omega)) (List.getElem?_eq_getElem (by omega))
          refine ⟨row, e0, fun r hr' j c y hc hy => ?_⟩
          rw [List.getElem?_map, List.getElem?_eq_getElem (by omega : i < ys.length)] at hr'
          simp at hr'
          subst hr'
          rw [encR_rcells, List.getElem?_map, Option.map_eq_some_iff] at hy
          obtain ⟨l, hl, rfl⟩ := hy
          exact e2.2 j c l hc hl
        · obtain ⟨row, d, _, _, _, e3, e4⟩ := hys i y hy
          rw [List.getElem?_map, e3] at hn
          simp at hn
          subst hn
          exact e4

theorem cell_not_agg {r : Reach} {t : TypeId} {cs : Array Value} (h : (∃ k, P.underlying t = some (.int k)) ∨ P.underlying t = some .bool ∨ P.underlying t = some .string ∨ ∃ e, P.underlying t = some (.slice e)) :
    ¬ Value.okWide P W r base t (.agg cs) := by
  intro hv
  unfold Value.okWide at hv
  rcases h with ⟨k, h⟩ | h | h | ⟨e, h⟩ <;> rw [h] at hv <;> simp only [Cell.okWide, Cell.ok, h] at hv

/-- OPENING an argument. -/
theorem open_valB (F : Facts V P) {r : Reach} {b0 : Nat} {t : TypeId} {τ : Ty V.ι} {v : Value} {d : DataW H0} {p : List MemPlace} (hty : V.ty t = some τ) (hok : Value.okWide P W r b0 t v) (h : DataW.Trod enc P W base spare held t v d p) :
    ∃ y : den V.N τ, Ok V τ y ∧ DRep (memOf W) v (encD V.sz V.enc τ y) ∧ Bk V τ y (dbulk d) := by
  obtain ⟨fuel, h⟩ := h
  obtain ⟨y, h1, h2, _, _, h5, _⟩ := read_all F fuel t τ _ _ hty h
  refine ⟨y, h1, ?_, h5⟩
  have hf := F.ty t τ hty
  have cell : (∀ cs, v ≠ .agg cs) → rcells V τ y = [⟨τ, y⟩] → DRep (memOf W) v (encD V.sz V.enc τ y) := by
    intro hn hr
    rw [hr] at h2
    have hc : v.cells.toList = [v] := by cases v <;> first | rfl | exact (hn _ rfl).elim
    rw [hc] at h2
    exact h2.2 0 v ⟨τ, y⟩ rfl rfl
  cases τ with
  | mp k v => exact hf.elim
  | er => exact hf.elim
  | int k => exact cell (fun cs e => by subst e; exact cell_not_agg (.inl ⟨k, hf⟩) hok) rfl
  | bool => exact cell (fun cs e => by subst e; exact cell_not_agg (.inr (.inl hf)) hok) rfl
  | str => exact cell (fun cs e => by subst e; exact cell_not_agg (.inr (.inr (.inl hf))) hok) rfl
  | sl e =>
    obtain ⟨te, hu, _⟩ := hf
    exact cell (fun cs e => by subst e; exact cell_not_agg (.inr (.inr (.inr ⟨te, hu⟩))) hok) rfl
  | st i =>
    obtain ⟨fs, hu, _, _⟩ := hf
    unfold Value.okWide at hok
    rw [hu] at hok
    obtain ⟨cs, rfl, _⟩ := hok
    simp only [Value.cells] at h2
    simp only [encD]
    rw [V.enc_cells]
    refine .agg cs _ (by rw [List.length_map]; have := h2.1; simpa [rcells] using this) fun k c x hc hx => ?_
    rw [List.getElem?_map, Option.map_eq_some_iff] at hx
    obtain ⟨l, hl, rfl⟩ := hx
    exact h2.2 k c l (by simpa using hc) hl

theorem open_val (F : Facts V P) {r : Reach} {b0 : Nat} {t : TypeId} {τ : Ty V.ι} {v : Value} {d : DataW H0} {p : List MemPlace} (hty : V.ty t = some τ) (hok : Value.okWide P W r b0 t v) (h : DataW.Trod enc P W base spare held t v d p) :
    ∃ y : den V.N τ, Ok V τ y ∧ DRep (memOf W) v (encD V.sz V.enc τ y) :=
  let ⟨y, h1, h2, _⟩ := open_valB F hty hok h
  ⟨y, h1, h2⟩

end
end Go.Tx
