/-
  Texts of this claim, joined by a program of mine: what the theorem uses.
-/
import Derived.Test.YtpndmanbfleadaaGreatDoorPkD
import Derived.Test.YtpndmanbfleadaaGreatDoorPkC
import Derived.WalkKit
import Derived.ProofKit
import Derived.OpenShut
import Derived.Test.YtpndmanbfleadaaGreatDoorRows
import Derived.Lib.LaidIn
import Derived.Lib.LaidU8T
import Derived.MakeChecks
import Derived.Test.YtpndmanbfleadaaGreatDoorProg
import Derived.KernelRfl
import Derived.Shelf.Strings.Builder1
set_option linter.unusedSectionVars false
set_option linter.unusedSimpArgs false
set_option linter.unusedVariables false
section
namespace Go.Tx
open Go.Awp
variable [Inhabited GMem]
section
variable (V : View)
mutual
def dbulk {H : Type} : DataW H → Nat
 | .lit (.string bs) => bs.length + 1
 | .lit _ => 1
 | .nil => 1
 | .ptr d => dbulk d + 1
 | .slice elems spare => dbulkL elems + dbulkL spare + 1
 | .agg parts => dbulkL parts + 1
 | .iface _ d => dbulk d + 1
 | .map _ => 1
 | .held _ => 1
def dbulkL {H : Type} : List (DataW H) → Nat
 | [] => 0
 | d :: r => dbulk d + dbulkL r
end
theorem dbulkL_sum {H : Type} : ∀ l : List (DataW H), dbulkL l = (l.map dbulk).sum
 | [] => by simp [dbulkL]
 | d :: r => by simp [dbulkL, dbulkL_sum r]
inductive Ok : (t : Ty V.ι) → den V.N t → Prop
 | int {k : IntKind} {n : Int} : (Lit.int k n).wf = true → Ok (.int k) n
 | bool (b : Bool) : Ok .bool b
 | str {s : ByteArray} : s.size ≤ maxLen → Ok .str s
 | sl {e : Ty V.ι} {xs : List (den V.N e)} : xs.length ≤ maxLen → (∀ x ∈ xs, Ok e x) → Ok (.sl e) xs
 | st {i : V.ι} {x : V.N i} : (∀ l ∈ V.cells i x, Ok l.t l.x) → Ok (.st i) x
inductive Bk : (t : Ty V.ι) → den V.N t → Nat → Prop
 | int {k : IntKind} {n : Int} {m : Nat} : 1 ≤ m → Bk (.int k) n m
 | bool {b : Bool} {m : Nat} : 1 ≤ m → Bk .bool b m
 | str {s : ByteArray} {m : Nat} : s.size + 1 ≤ m → Bk .str s m
 | sl {e : Ty V.ι} {xs : List (den V.N e)} {m : Nat} (ns : List Nat) : ns.length = xs.length → (∀ (i : Nat) (x : den V.N e) (n : Nat), xs[i]? = some x → ns[i]? = some n → Bk e x n) → ns.sum + 1 ≤ m → Bk (.sl e) xs m
 | st {i : V.ι} {x : V.N i} {m : Nat} (ns : List Nat) : ns.length = (V.cells i x).length → (∀ (j : Nat) (l : Leaf V.N) (n : Nat), (V.cells i x)[j]? = some l → ns[j]? = some n → Bk l.t l.x n) → ns.sum + 1 ≤ m → Bk (.st i) x m
def Bks (ls : List (Leaf V.N)) (m : Nat) : Prop :=
 ∃ ns : List Nat, ns.length = ls.length ∧ (∀ (j : Nat) (l : Leaf V.N) (n : Nat), ls[j]? = some l → ns[j]? = some n → Bk V l.t l.x n) ∧ ns.sum ≤ m
def flatTy : Ty V.ι → List (Ty V.ι)
 | .st i => V.tys i
 | t => [t]
def flds (P : Program) : Nat → List Field → Option (List (Ty V.ι))
 | _, [] => some []
 | off, f :: fs => match V.ty f.type with
  | some τ => if f.offset = off ∧ P.cellsOf f.type = tsz V.sz τ then match flds P (off + tsz V.sz τ) fs with
    | some l => some (flatTy V τ ++ l)
    | none => none
   else none
  | none => none
def tyFact (P : Program) (t : TypeId) : Ty V.ι → Prop
 | .int k => P.underlying t = some (.int k)
 | .bool => P.underlying t = some .bool
 | .str => P.underlying t = some .string
 | .sl e => ∃ te, P.underlying t = some (.slice te) ∧ V.ty te = some e ∧ P.cellsOf te = tsz V.sz e ∧ Nat.blt 0 (tsz V.sz e) = true
 | .mp _ _ => False
 | .er => False
 | .op _ => False
 | .st i => ∃ fs : Array Field, P.underlying t = some (.struct fs) ∧ P.cellsOf t = V.sz i ∧ flds V P 0 fs.toList = some (V.tys i)
structure Facts (P : Program) : Prop where
 ty : ∀ t τ, V.ty t = some τ → tyFact V P t τ
 tys : ∀ i x, (V.cells i x).map (·.t) = V.tys i
 of : ∀ i ls, ls.map (·.t) = V.tys i → ∃ y, V.ofCells i ls = some y
end
section
variable {V : View} {H0 : Type} {enc : TypeId × Value → H0} {P : Program} {W : World} {spare : Nat → Bool} {held : Bool} {base : Nat}
theorem read_string {t : TypeId} (hu : P.underlying t = some .string) {fuel : Nat} {cs : List Value} {x : DataW H0 × List MemPlace} (h : DataW.trod enc P W base spare held fuel t cs = some x) :
  ∃ s, cs = [.string s] ∧ s.size ≤ maxLen := by
 cases fuel with
 | zero => cases h
 | succ fuel =>
  unfold DataW.trod at h
  rw [hu] at h
  simp only [] at h
  split at h <;> try (rename_i h1 _; cases h1)
  all_goals try (cases h; done)
  all_goals simp_all
def LeafRep (M : Mem) (cs : List Value) (ls : List (Leaf V.N)) : Prop :=
 cs.length = ls.length ∧ ∀ (i : Nat) (c : Value) (l : Leaf V.N), cs[i]? = some c → ls[i]? = some l → DRep M c (encD V.sz V.enc l.t l.x)
theorem LeafRep.app {M : Mem} {cs cs' : List Value} {ls ls' : List (Leaf V.N)} (h : LeafRep M cs ls) (h' : LeafRep M cs' ls') : LeafRep M (cs ++ cs') (ls ++ ls') := by
 refine ⟨by simp [h.1, h'.1], fun i c l hc hl => ?_⟩
 by_cases hi : i < cs.length
 ·rw [List.getElem?_append_left hi] at hc
  rw [List.getElem?_append_left (by rw [← h.1]; exact hi)] at hl
  exact h.2 i c l hc hl
 ·rw [List.getElem?_append_right (by omega)] at hc
  rw [List.getElem?_append_right (by rw [← h.1]; omega), ← h.1] at hl
  exact h'.2 _ c l hc hl
theorem Bks.app {ls ls' : List (Leaf V.N)} {m m' : Nat} (h : Bks V ls m) (h' : Bks V ls' m') : Bks V (ls ++ ls') (m + m') := by
 obtain ⟨ns, h1, h2, h3⟩ := h
 obtain ⟨ns', h1', h2', h3'⟩ := h'
 refine ⟨ns ++ ns', by simp [h1, h1'], fun j l n hl hn => ?_, by simp; omega⟩
 by_cases hj : j < ls.length
 ·rw [List.getElem?_append_left hj] at hl
  rw [List.getElem?_append_left (by omega)] at hn
  exact h2 j l n hl hn
 ·rw [List.getElem?_append_right (by omega)] at hl
  rw [List.getElem?_append_right (by omega), h1] at hn
  exact h2' _ l n hl hn
theorem Bks.one {t : Ty V.ι} {x : den V.N t} {m : Nat} (h : Bk V t x m) : Bks V [⟨t, x⟩] m :=
 ⟨[m], rfl, fun j l n hl hn => by
  cases j with
  | zero => simp at hl hn; subst hl; subst hn; exact h
  | succ j => simp at hl, by simp⟩
def Rd (M : Mem) (τ : Ty V.ι) (cs : List Value) (m : Nat) : Prop :=
 ∃ y : den V.N τ, Ok V τ y ∧ LeafRep M cs (rcells V τ y) ∧ (rcells V τ y).map (·.t) = flatTy V τ ∧ (∀ l ∈ rcells V τ y, Ok V l.t l.x) ∧ Bk V τ y m ∧ Bks V (rcells V τ y) m
theorem read_fields (F : Facts V P) {M : Mem} {rd : TypeId → List Value → Nat → Prop} (hrd : ∀ t τ cs m, V.ty t = some τ → rd t cs m → Rd (V := V) M τ cs m) {cs : List Value} : ∀ (fs : List Field) (ms : List Nat) (off : Nat) (l : List (Ty V.ι)),
  flds V P off fs = some l → ms.length = fs.length → (∀ (j : Nat) (f : Field) (m : Nat), fs[j]? = some f → ms[j]? = some m → rd f.type ((cs.drop f.offset).take (P.cellsOf f.type)) m) →
  ∃ (n : Nat) (ls : List (Leaf V.N)), ls.map (·.t) = l ∧ LeafRep M ((cs.drop off).take n) ls ∧ (∀ x ∈ ls, Ok V x.t x.x) ∧ n = ls.length ∧ Bks V ls ms.sum
 | [], ms, off, l, h, hm, _ => by
  simp [flds] at h; subst h
  exact ⟨0, [], rfl, ⟨rfl, fun i c l hc => by simp at hc⟩, (fun x hx => nomatch hx), rfl, [], rfl, fun j l n hl => by simp at hl, by simp⟩
 | f :: fs, [], off, l, h, hm, _ => by simp at hm
 | f :: fs, m :: ms, off, l, h, hm, hf => by
  simp only [flds] at h
  split at h
  ·rename_i τ hτ
   split at h
   ·rename_i hc
    obtain ⟨ho, hsz⟩ := hc
    split at h
    ·rename_i l' hl'
     simp at h; subst h
     obtain ⟨n, ls, a1, a2, a3, a4, a5⟩ := read_fields F hrd fs ms _ l' hl' (by simpa using hm) fun j g m hg hm => hf (j + 1) g m (by simpa using hg) (by simpa using hm)
     obtain ⟨y, b1, b2, b3, b4, b5, b6⟩ := hrd f.type τ _ m hτ (hf 0 f m rfl rfl)
     rw [ho, hsz] at b2
     refine ⟨tsz V.sz τ + n, rcells V τ y ++ ls, by simp [a1, b3], ?_, fun x hx => ?_, by simp [rcells_len, a4], by rw [List.sum_cons]; exact b6.app a5⟩
     ·have e : (cs.drop off).take (tsz V.sz τ + n) = (cs.drop off).take (tsz V.sz τ) ++ (cs.drop (off + tsz V.sz τ)).take n := by
       rw [List.take_add, List.drop_drop]
      rw [e]
      exact b2.app a2
     ·rcases List.mem_append.1 hx with hx | hx
      ·exact b4 x hx
      ·exact a3 x hx
    ·cases h
   ·cases h
  ·cases h
theorem read_structB {t : TypeId} {fs : Array Field} (hu : P.underlying t = some (.struct fs)) {fuel : Nat} {cs : List Value} {x : DataW H0 × List MemPlace} (h : DataW.trod enc P W base spare held (fuel + 1) t cs = some x) :
  cs.length = P.cellsOf t ∧ ∃ ds : List (DataW H0), x.1 = .agg ds ∧ ds.length = fs.toList.length ∧ ∀ (i : Nat) (f : Field), fs.toList[i]? = some f → ∃ y, ds[i]? = some y.1 ∧ DataW.trod enc P W base spare held fuel f.type ((cs.drop f.offset).take (P.cellsOf f.type)) = some y := by
 unfold DataW.trod at h
 rw [hu] at h
 simp only [] at h
 split at h
 ·rename_i hl
  rw [Option.map_eq_some_iff] at h
  obtain ⟨ys, hm, hx⟩ := h
  subst hx
  refine ⟨hl, ys.map (·.1), rfl, by rw [List.length_map, (mapM_some hm).1], fun i f hf => ?_⟩
  obtain ⟨y, hy1, hy⟩ := (mapM_some hm).2 i f hf
  exact ⟨y, by rw [List.getElem?_map, hy1]; rfl, hy⟩
 ·cases h
theorem read_sliceB {t e : TypeId} (hu : P.underlying t = some (.slice e)) {fuel : Nat} {cs : List Value} {x : DataW H0 × List MemPlace} (h : DataW.trod enc P W base spare held (fuel + 1) t cs = some x) :
  (cs = [.slice none 0 0] ∧ x.1 = .nil) ∨ ∃ a len cap, cs = [.slice (some a) len cap] ∧ len ≤ cap ∧ cap ≤ maxLen ∧ ∃ ds sp : List (DataW H0), x.1 = .slice ds sp ∧ ds.length = len ∧
    ∀ i, i < len → ∃ row y, W.cells? base (a.add (i * P.cellsOf e)) (P.cellsOf e) = some row ∧ DataW.trod enc P W base spare held fuel e row = some y ∧ ds[i]? = some y.1 := by
 unfold DataW.trod at h
 rw [hu] at h
 simp only [] at h
 split at h
 all_goals first
  | (simp only [Option.some.injEq, reduceCtorEq] at *; done)
  | (left; simp only [Option.some.injEq] at h; exact ⟨rfl, by rw [← h]⟩)
  | (rename_i a len cap hx
     simp only [Option.some.injEq, TypeDesc.slice.injEq] at hx
     subst hx
     right
     split at h
     ·rename_i hc
      rw [Option.bind_eq_some_iff] at h
      obtain ⟨ys, hm, h⟩ := h
      rw [Option.map_eq_some_iff] at h
      obtain ⟨rest, _, h⟩ := h
      subst h
      refine ⟨a, len, cap, rfl, hc.2.1, hc.2.2, ys.map (·.1), rest.map (·.1), rfl, by rw [List.length_map, (mapM_some hm).1, List.length_range], fun i hi => ?_⟩
      obtain ⟨y, hy1, hy⟩ := (mapM_some hm).2 i i (by rw [List.getElem?_range hi])
      rw [Option.bind_eq_some_iff] at hy
      obtain ⟨row, h1, h2⟩ := hy
      exact ⟨row, y, h1, h2, by rw [List.getElem?_map, hy1]; rfl⟩
     ·cases h)
  | skip
theorem dbulk_pos {H : Type} (d : DataW H) : 1 ≤ dbulk d := by
 cases d with
 | lit l => cases l <;> simp [dbulk]
 | _ => simp [dbulk]
theorem read_stringB {t : TypeId} (hu : P.underlying t = some .string) {fuel : Nat} {cs : List Value} {x : DataW H0 × List MemPlace} (h : DataW.trod enc P W base spare held fuel t cs = some x) :
  ∃ s, cs = [.string s] ∧ s.size ≤ maxLen ∧ dbulk x.1 = s.size + 1 := by
 cases fuel with
 | zero => cases h
 | succ fuel =>
  obtain ⟨s, rfl, hs⟩ := read_string hu h
  refine ⟨s, rfl, hs, ?_⟩
  unfold DataW.trod at h
  rw [hu] at h
  simp only [] at h
  rw [if_pos hs] at h
  cases h
  show dbulk (.lit (.string s.data.toList)) = s.data.size + 1
  rw [dbulk, Array.length_toList]
theorem encR_rcells (τ : Ty V.ι) (y : den V.N τ) : encR V.sz V.enc τ y = (rcells V τ y).map fun l => encD V.sz V.enc l.t l.x := by
 cases τ <;> first | rfl | (simp only [encR, rcells]; exact V.enc_cells _ _) | simp [encR, rcells, encD]
theorem read_all (F : Facts V P) : ∀ (fuel : Nat) (t : TypeId) (τ : Ty V.ι) (cs : List Value) (x : DataW H0 × List MemPlace), V.ty t = some τ → DataW.trod enc P W base spare held fuel t cs = some x → Rd (memOf W) τ cs (dbulk x.1) := by
 intro fuel
 induction fuel using Nat.strongRecOn with
 | ind fuel ih =>
 intro t τ cs x hty h
 have hf := F.ty t τ hty
 cases τ with
 | mp k v => exact hf.elim
 | er => exact hf.elim
 | op e => exact hf.elim
 | int k =>
  obtain ⟨n, rfl, hw⟩ := read_int hf h
  refine ⟨n, .int hw, ⟨rfl, fun i c l hc hl => ?_⟩, rfl, fun l hl => ?_, .int (dbulk_pos _), .one (.int (dbulk_pos _))⟩
  ·cases i with
   | zero => simp [rcells] at hc hl; subst hc; subst hl; exact .v _
   | succ i => simp at hc
  ·simp [rcells] at hl; subst hl; exact .int hw
 | bool =>
  obtain ⟨b, rfl⟩ := read_bool hf h
  refine ⟨b, .bool b, ⟨rfl, fun i c l hc hl => ?_⟩, rfl, fun l hl => ?_, .bool (dbulk_pos _), .one (.bool (dbulk_pos _))⟩
  ·cases i with
   | zero => simp [rcells] at hc hl; subst hc; subst hl; exact .v _
   | succ i => simp at hc
  ·simp [rcells] at hl; subst hl; exact .bool b
 | str =>
  obtain ⟨s, rfl, hs, hb⟩ := read_stringB hf h
  refine ⟨s, .str hs, ⟨rfl, fun i c l hc hl => ?_⟩, rfl, fun l hl => ?_, .str (Nat.le_of_eq hb.symm), .one (.str (Nat.le_of_eq hb.symm))⟩
  ·cases i with
   | zero => simp [rcells] at hc hl; subst hc; subst hl; exact .v _
   | succ i => simp at hc
  ·simp [rcells] at hl; subst hl; exact .str hs
 | st i =>
  obtain ⟨fs, hu, hsz, hfl⟩ := hf
  cases fuel with
  | zero => cases h
  | succ fuel =>
   obtain ⟨hl, ds, hx, hdl, hr⟩ := read_structB hu h
   obtain ⟨n, ls, a1, a2, a3, a4, a5⟩ := read_fields F (M := memOf W) (rd := fun t cs m => ∃ y, DataW.trod enc P W base spare held fuel t cs = some y ∧ m = dbulk y.1) (fun t τ cs m hτ ⟨y, hy, hm⟩ => hm ▸ ih fuel (by omega) t τ cs y hτ hy) fs.toList (ds.map dbulk) 0 _ hfl
    (by rw [List.length_map, hdl])
    (fun j f m hf hm => by
      obtain ⟨y, hy1, hy⟩ := hr j f hf
      rw [List.getElem?_map, hy1] at hm
      exact ⟨y, hy, by simpa using hm.symm⟩)
   obtain ⟨y, hy⟩ := F.of i ls a1
   have hc := V.of_cells i ls y hy
   have hn : n = cs.length := by rw [a4, ← hc, V.len_cells, hl, hsz]
   rw [List.drop_zero, List.take_of_length_le (by omega)] at a2
   have hdb : dbulk x.1 = (ds.map dbulk).sum + 1 := by rw [hx, dbulk, dbulkL_sum]
   obtain ⟨ns, c1, c2, c3⟩ := a5
   refine ⟨y, .st (by rw [hc]; exact a3), by simpa only [rcells, hc] using a2, by simpa only [rcells, hc, flatTy] using a1, by simpa only [rcells, hc] using a3, .st ns (by rw [hc]; exact c1) (by rw [hc]; exact c2) (by omega), ns, by simpa only [rcells, hc] using c1, by simpa only [rcells, hc] using c2, by omega⟩
 | sl e =>
  obtain ⟨te, hu, hte, hsz, hpos⟩ := hf
  have hpos : 0 < tsz V.sz e := by simpa [Nat.blt_eq] using hpos
  cases fuel with
  | zero => cases h
  | succ fuel =>
   have fin : ∀ (c3 : Value) (ys : List (den V.N e)), ys.length ≤ maxLen → (∀ y ∈ ys, Ok V e y) → DRep (memOf W) c3 (encD V.sz V.enc (.sl e) ys) → Bk V (.sl e) ys (dbulk x.1) → Rd (V := V) (memOf W) (.sl e) [c3] (dbulk x.1) := by
    intro c3 ys h1 h2 h3 h4
    refine ⟨ys, .sl h1 h2, ⟨rfl, fun i c l hc hl => ?_⟩, rfl, fun l hl => ?_, h4, .one h4⟩
    ·cases i with
     | zero => simp [rcells] at hc hl; subst hc; subst hl; exact h3
     | succ i => simp at hc
    ·simp [rcells] at hl; subst hl; exact .sl h1 h2
   rcases read_sliceB hu h with ⟨h4, hx⟩ | ⟨a, len, cap, h4, hlc, hcm, ds, sp, hx, hdl, hr⟩
   ·subst h4
    exact fin _ [] (by simp) (fun y hy => by cases hy) (.slnil _) (.sl [] rfl (fun i x n hx => by simp at hx) (by rw [hx]; simp [dbulk]))
   ·subst h4
    rw [hsz] at hr
    obtain ⟨ys, hyl, hys⟩ := list_of (α := den V.N e) (R := fun i y => ∃ row d, W.cells? base (a.add (i * tsz V.sz e)) (tsz V.sz e) = some row ∧ Ok V e y ∧ LeafRep (memOf W) row (rcells V e y) ∧ ds[i]? = some d ∧ Bk V e y (dbulk d)) len
     fun i hi => by
      obtain ⟨row, z, g1, g2, g3⟩ := hr i hi
      obtain ⟨y, b1, b2, _, _, b5, _⟩ := ih fuel (by omega) te e row z hte g2
      exact ⟨y, row, z.1, g1, b1, b2, g3, b5⟩
    have hdb : dbulk x.1 = (ds.map dbulk).sum + dbulkL sp + 1 := by rw [hx, dbulk, dbulkL_sum]
    refine fin _ ys (by omega) (fun y hy => ?_) (DRep.of_slice (b := base) hpos hlc (by rw [List.length_map, hyl]) (fun r hr' => ?_) fun i hi => ?_) (.sl (ds.map dbulk) (by rw [List.length_map, hdl, hyl]) (fun i y n hy hn => ?_) (by omega))
    ·obtain ⟨i, hi, rfl⟩ := List.getElem_of_mem hy
     obtain ⟨row, _, _, e1, _⟩ := hys i _ (List.getElem?_eq_getElem hi)
     exact e1
    ·obtain ⟨y, _, rfl⟩ := List.mem_map.1 hr'
     rw [encR_rcells, List.length_map, rcells_len]
    ·obtain ⟨row, _, e0, _, e2, _⟩ := hys i (ys[i]'(by omega)) (List.getElem?_eq_getElem (by omega))
     refine ⟨row, e0, fun r hr' j c y hc hy => ?_⟩
     rw [List.getElem?_map, List.getElem?_eq_getElem (by omega : i < ys.length)] at hr'
     simp at hr'
     subst hr'
     rw [encR_rcells, List.getElem?_map, Option.map_eq_some_iff] at hy
     obtain ⟨l, hl, rfl⟩ := hy
     exact e2.2 j c l hc hl
    ·obtain ⟨row, d, _, _, _, e3, e4⟩ := hys i y hy
     rw [List.getElem?_map, e3] at hn
     simp at hn
     subst hn
     exact e4
theorem cell_not_agg {r : Reach} {t : TypeId} {cs : Array Value} (h : (∃ k, P.underlying t = some (.int k)) ∨ P.underlying t = some .bool ∨ P.underlying t = some .string ∨ ∃ e, P.underlying t = some (.slice e)) :
  ¬ Value.okWide P W r base t (.agg cs) := by
 intro hv
 unfold Value.okWide at hv
 rcases h with ⟨k, h⟩ | h | h | ⟨e, h⟩ <;> rw [h] at hv <;> simp only [Cell.okWide, Cell.ok, h] at hv
theorem open_valB (F : Facts V P) {r : Reach} {b0 : Nat} {t : TypeId} {τ : Ty V.ι} {v : Value} {d : DataW H0} {p : List MemPlace} (hty : V.ty t = some τ) (hok : Value.okWide P W r b0 t v) (h : DataW.Trod enc P W base spare held t v d p) :
  ∃ y : den V.N τ, Ok V τ y ∧ DRep (memOf W) v (encD V.sz V.enc τ y) ∧ Bk V τ y (dbulk d) := by
 obtain ⟨fuel, h⟩ := h
 obtain ⟨y, h1, h2, _, _, h5, _⟩ := read_all F fuel t τ _ _ hty h
 refine ⟨y, h1, ?_, h5⟩
 have hf := F.ty t τ hty
 have cell : (∀ cs, v ≠ .agg cs) → rcells V τ y = [⟨τ, y⟩] → DRep (memOf W) v (encD V.sz V.enc τ y) := by
  intro hn hr
  rw [hr] at h2
  have hc : v.cells.toList = [v] := by cases v <;> first | rfl | exact (hn _ rfl).elim
  rw [hc] at h2
  exact h2.2 0 v ⟨τ, y⟩ rfl rfl
 cases τ with
 | mp k v => exact hf.elim
 | er => exact hf.elim
 | op e => exact hf.elim
 | int k => exact cell (fun cs e => by subst e; exact cell_not_agg (.inl ⟨k, hf⟩) hok) rfl
 | bool => exact cell (fun cs e => by subst e; exact cell_not_agg (.inr (.inl hf)) hok) rfl
 | str => exact cell (fun cs e => by subst e; exact cell_not_agg (.inr (.inr (.inl hf))) hok) rfl
 | sl e =>
  obtain ⟨te, hu, _⟩ := hf
  exact cell (fun cs e => by subst e; exact cell_not_agg (.inr (.inr (.inr ⟨te, hu⟩))) hok) rfl
 | st i =>
  obtain ⟨fs, hu, _, _⟩ := hf
  unfold Value.okWide at hok
  rw [hu] at hok
  obtain ⟨cs, rfl, _⟩ := hok
  simp only [Value.cells] at h2
  simp only [encD]
  rw [V.enc_cells]
  refine .agg cs _ (by rw [List.length_map]; have := h2.1; simpa [rcells] using this) fun k c x hc hx => ?_
  rw [List.getElem?_map, Option.map_eq_some_iff] at hx
  obtain ⟨l, hl, rfl⟩ := hx
  exact h2.2 k c l (by simpa using hc) hl
end
end Go.Tx
end
section
namespace Go.Proofs.YtpndmanbfleadaaGreatDoor
open Go.Awp Go.Shelf
open Go.Proofs.Tryz (prog)
set_option maxRecDepth 100000
theorem types8 : U8Types prog Tryz.lays196_ren := .of196 Tryz.lays196
theorem extra8 : U8Extra prog Tryz.lays196_ren := ⟨by kernel_rfl, by kernel_rfl, by kernel_rfl, by kernel_rfl, by kernel_rfl, by kernel_rfl, by kernel_rfl⟩
theorem first8 : Rows.laid_unicode_utf8_first = Lib.firstData := by kernel_rfl
theorem accept8 : (Rows.laid_unicode_utf8_acceptRanges : DataW Unit) = Lib.acceptData := by kernel_rfl
theorem pow8 : (Rows.laid_internal_strconv_uint64pow10 : DataW Unit) = Lib.tabData .u64 Lib.pow10Tab := by kernel_rfl
def bruijn : List Int := [0, 1, 56, 2, 57, 49, 28, 3, 61, 58, 42, 50, 38, 29, 17, 4, 62, 47, 59, 36, 45, 43, 51, 22, 53, 39, 33, 30, 24, 18, 12, 5, 63, 55, 48, 27, 60, 41, 37, 16, 46, 35, 44, 21, 52, 32, 23, 11, 54, 26, 40, 15, 34, 20, 31, 10, 25, 14, 19, 9, 13, 8, 7, 6]
theorem bruijn8 : (Rows.laid_math_bits_deBruijn64tab : DataW Unit) = Lib.tabData .u8 bruijn := by kernel_rfl
def laid8 : List (String × DataW Unit) := [("math/bits.deBruijn32tab", Rows.laid_math_bits_deBruijn32tab), ("math/bits.deBruijn64tab", Rows.laid_math_bits_deBruijn64tab), ("internal/strconv.uint64pow10", Rows.laid_internal_strconv_uint64pow10), ("unicode/utf8.acceptRanges", Rows.laid_unicode_utf8_acceptRanges), ("strconv.ErrRange", Rows.laid_strconv_ErrRange), ("strconv.ErrSyntax", Rows.laid_strconv_ErrSyntax), ("unicode.CaseRanges", Rows.laid_unicode_CaseRanges), ("unicode/utf8.first", Rows.laid_unicode_utf8_first)]
theorem tab_of_reads {P : Program} {w : World} {name : String} {k : IntKind} {zs : List Int} {g : Nat} {t e : TypeId} {n : Nat} (hg : P.globalNamed name = some g) (hty : (P.globals[g]?).map (·.type) = some t) (ht : P.underlying t = some (.array n e)) (he : P.underlying e = some (.int k)) (hce : P.cellsOf e = 1) (hct : P.cellsOf t = n)
  (h : Lib.VarReads P w name (Lib.tabData k zs)) : Lib.TabIs P w name k zs := by
 obtain ⟨g', t', cs, fuel, p, hg', ht', hvar, hd⟩ := h
 obtain rfl := Option.some.inj (hg.symm.trans hg')
 obtain rfl := Option.some.inj (hty.symm.trans ht')
 unfold Lib.TabIs
 rw [hvar, ← Lib.cells_of_tab ht he hce hct hd]
theorem iface_of_reads {P : Program} {w : World} {name nm : String} {d : DataW Unit} {g : Nat} {t : TypeId} {ms : TypeDesc} (hg : P.globalNamed name = some g) (hty : (P.globals[g]?).map (·.type) = some t) (ht : P.underlying t = some ms) (hms : ∃ l, ms = .interface l)
  (h : Lib.VarReads P w name (.iface nm d)) : ∃ u v, w.cell? ⟨g, 0, none⟩ = some (.iface u v) := by
 obtain ⟨l, rfl⟩ := hms
 obtain ⟨g', t', cs, fuel, p, hg', ht', hvar, hd⟩ := h
 obtain rfl := Option.some.inj (hg.symm.trans hg')
 obtain rfl := Option.some.inj (hty.symm.trans ht')
 have hc : ∃ u v, cs.toList = [.iface u v] := by
  cases fuel with
  | zero => cases hd
  | succ fuel =>
   unfold DataW.trod at hd
   rw [ht] at hd
   simp only [] at hd
   split at hd <;> try (rename_i h1 _; cases h1)
   all_goals try (cases hd; done)
   all_goals first
    | (rename_i u v _; exact ⟨u, v, by assumption⟩)
    | (simp_all; done)
 obtain ⟨u, v, hc⟩ := hc
 refine ⟨u, v, ?_⟩
 unfold World.var? at hvar
 rw [hg] at hvar
 simp only [Option.bind_some] at hvar
 split at hvar
 ·rename_i cs' _ _ hw
  cases hvar
  have : cs[0]? = some (.iface u v) := by rw [← Array.getElem?_toList, hc]; rfl
  simpa [World.cell?, hw] using this
 ·cases hvar
theorem gmem_laid {W : World} (h : laidMetH prog laid8 W) : GOk (memOf W) W := by
 rw [MakeChecks.laidMetH_plain _ _ _ (by kernel_rfl)] at h
 have h1 : Lib.VarReads prog W "unicode/utf8.acceptRanges" Lib.acceptData := accept8 ▸ Lib.laidMet.reads h (.tail _ (.tail _ (.tail _ (.head _))))
 have h2 : Lib.VarReads prog W "unicode/utf8.first" Lib.firstData := first8 ▸ Lib.laidMet.reads h (.tail _ (.tail _ (.tail _ (.tail _ (.tail _ (.tail _ (.tail _ (.head _))))))))
 have h3 : Lib.VarReads prog W "internal/strconv.uint64pow10" (Lib.tabData .u64 Lib.pow10Tab) := pow8 ▸ Lib.laidMet.reads h (.tail _ (.tail _ (.head _)))
 have h4 := iface_of_reads (P := prog) (g := 3) (t := 71) (by kernel_rfl) (by kernel_rfl) Tryz.underlying71 ⟨_, rfl⟩ (Lib.laidMet.reads h (.tail _ (.tail _ (.tail _ (.tail _ (.head _))))))
 have h5 := iface_of_reads (P := prog) (g := 2) (t := 71) (by kernel_rfl) (by kernel_rfl) Tryz.underlying71 ⟨_, rfl⟩ (Lib.laidMet.reads h (.tail _ (.tail _ (.tail _ (.tail _ (.tail _ (.head _)))))))
 have h6 : Lib.TabIs prog W "internal/strconv.uint64pow10" .u64 Lib.pow10Tab := by
  obtain ⟨g, t, cs, fuel, p, hg, ht, _, _⟩ := id h3
  exact tab_of_reads (g := 4) (t := 161) (e := 104) (n := 20) (by kernel_rfl) (by kernel_rfl) (by kernel_rfl) (by kernel_rfl) (by kernel_rfl) (by kernel_rfl) h3
 have h7 : W.cell? ⟨7, 15, none⟩ = some (.int .u8 4) := by
  have h9 : Lib.VarReads prog W "math/bits.deBruijn64tab" (Lib.tabData .u8 bruijn) := bruijn8 ▸ Lib.laidMet.reads h (.tail _ (.head _))
  have h10 := tab_of_reads (P := prog) (g := 7) (t := 176) (e := 5) (n := 64) (by kernel_rfl) (by kernel_rfl) (by kernel_rfl) (by kernel_rfl) (by kernel_rfl) (by kernel_rfl) h9
  have := h10.cell (g := 7) (by kernel_rfl) 15 (by decide)
  exact this
 refine ⟨tabs_le h7 (utf8Tabs_of_readsT types8 extra8 h2 h1) h6, fun b hb => ?_, fun p hp => ?_⟩
 ·have hb : b ∈ [2, 3] := hb
  simp only [List.mem_cons, List.not_mem_nil, or_false] at hb
  rcases hb with rfl | rfl
  ·exact h5
  ·exact h4
 ·have hp : p ∈ [(4, 20)] := hp
  simp only [List.mem_cons, List.not_mem_nil, or_false] at hp
  subst hp
  have hn : prog.globalNamed "internal/strconv.uint64pow10" = some 4 := by kernel_rfl
  refine ⟨⟨_, h6.cell hn 0 (by rw [pow10_len]; decide)⟩, ?_⟩
  unfold Lib.TabIs World.var? at h6
  rw [hn] at h6
  simp only [Option.bind_some] at h6
  split at h6
  ·rename_i cs t fr hw
   cases h6
   exact ⟨_, _, _, hw, by simp [pow10_len]⟩
  ·cases h6
mutual
theorem dbulk_le {H : Type} : ∀ d : DataW H, Go.Tx.dbulk d ≤ Rows.uptoBulk d
 | .lit l => by cases l <;> simp [Go.Tx.dbulk, Rows.uptoBulk]
 | .nil => by simp [Go.Tx.dbulk, Rows.uptoBulk]
 | .ptr d => by have := dbulk_le d; simp only [Go.Tx.dbulk, Rows.uptoBulk]; omega
 | .slice es sp => by have h1 := dbulkL_le es; have h2 := dbulkL_le sp; simp only [Go.Tx.dbulk, Rows.uptoBulk]; omega
 | .agg ps => by have := dbulkL_le ps; simp only [Go.Tx.dbulk, Rows.uptoBulk]; omega
 | .iface _ d => by have := dbulk_le d; simp only [Go.Tx.dbulk, Rows.uptoBulk]; omega
 | .map es => by simp [Go.Tx.dbulk, Rows.uptoBulk]
 | .held h => by simp [Go.Tx.dbulk, Rows.uptoBulk]
theorem dbulkL_le {H : Type} : ∀ l : List (DataW H), Go.Tx.dbulkL l ≤ Rows.uptoBulkAll l
 | [] => by simp [Go.Tx.dbulkL, Rows.uptoBulkAll]
 | d :: r => by have h1 := dbulk_le d; have h2 := dbulkL_le r; simp only [Go.Tx.dbulkL, Rows.uptoBulkAll]; omega
end
end Go.Proofs.YtpndmanbfleadaaGreatDoor
end
section
namespace Go.Tx
open Go.Awp
variable [Inhabited GMem]
section
variable {V : View}
theorem fn_okS {X : Xc V} {sig : Sig V} (hsh : X.sh.rcut = sig.rcut) {fid : FuncId} {fn : Func} {c : Code} (hf : X.P.funcs[fid]? = some fn) (hb : fn.body = some c) (hn : fn.ntmps = X.n) (hrs : fn.results.toList = sig.rvars)
  (hname : (fn.name != "runtime.NumGoroutine") = true) (hm : X.P.follows .mixedOrders = true) (hcall : CallerOk X.P X.call) (hdr : distinct (sig.rcut.objs.map (·.1)) = true)
  (hl : ∀ C : Ctx, C.P = X.P → C.N = X.n → LOk C X c) {xs : List (TV V.N)} (hlen : Nat.ble xs.length X.n = true) {r : HL V.N sig.rcut.tys}
  (h : ex X c _ { tmps := enumT 0 xs, own := [] } (fun S => extr V sig.rcut S) (fun _ _ => none) (fun r => some (hsh ▸ r)) = some r) :
  ∀ x, resV X.P sig r = some x → FnOk X.P fid (encL V (fun _ => 0) xs) [] (encV V (conc V sig.rcut r).len x) (encOs (conc V sig.rcut r).len (kept sig r)) := by
 obtain ⟨params, objs, rcut, rvars, keep⟩ := sig
 simp only at hsh
 subst hsh
 intro x hx
 have hargs : xs.length ≤ X.n := Nat.le_of_ble_eq_true hlen
 refine fn_of_awpL hf hb hname (by rw [encL_len, hn]; exact hargs) fun C hP hN => ?_
 have hent : Ent ⟨startT 0 (encL V (fun _ => 0) xs), startO []⟩ (encS V { tmps := enumT 0 xs, own := [] }) := by
  refine Ent.le (fun t y hy => ⟨y, ?_, H.le.refl _⟩) fun n o ho => ?_
  ·rw [startT_enum]; exact hy
  ·rw [encS_own?] at ho
   simp [TS.own?, gt] at ho
 have hend : ∀ e σ, (e = .normal ∨ e = .ret) → Ent σ (encS V (conc V X.sh.rcut r)) →
   FnEndL X.P fn.results.toList (encV V (conc V X.sh.rcut r).len x) (encOs (conc V X.sh.rcut r).len (kept ⟨params, objs, X.sh.rcut, rvars, keep⟩ r)) e σ := by
  intro e σ he hσ
  unfold resV at hx
  rw [Option.map_eq_some_iff] at hx
  obtain ⟨vs, hvs, hone⟩ := hx
  obtain ⟨hs, g1, g2, g3⟩ := resH_sound hvs
  have hh : ∃ y, resH X.P (encS V (conc V X.sh.rcut r)) fn.results.toList = some y ∧ H.le y (encV V (conc V X.sh.rcut r).len x) := by
   rw [hrs]
   unfold resH
   rw [g1]
   cases vs with
   | nil =>
    have : hs = [] := List.eq_nil_of_length_eq_zero (by simpa using g2)
    subst this; subst hone
    exact ⟨.tup [], rfl, by simp only [oneV, encV, encL]; exact H.le.refl _⟩
   | cons a l =>
    cases l with
    | nil =>
     cases hs with
     | nil => simp at g2
     | cons y l' =>
      have : l' = [] := List.eq_nil_of_length_eq_zero (by simpa using g2)
      subst this; subst hone
      obtain ⟨z, z1, z2⟩ := g3 0 a rfl
      simp at z1; subst z1
      exact ⟨y, rfl, z2⟩
    | cons b l =>
     cases hs with
     | nil => simp at g2
     | cons y l' =>
      cases l' with
      | nil => simp at g2
      | cons y2 l2 =>
       subst hone
       refine ⟨.tup (y :: y2 :: l2), rfl, ?_⟩
       simp only [oneV, encV]
       refine tup_le (by rw [encL_len]; exact g2) fun i w hw => ?_
       rw [encL_map, List.getElem?_map, Option.map_eq_some_iff] at hw
       obtain ⟨u, hu, rfl⟩ := hw
       exact g3 i u hu
  obtain ⟨y, hy1, hy2⟩ := hh
  refine ⟨he, _, hσ, y, hy1, hy2, fun n o ho => ?_⟩
  obtain ⟨o', h1, h2⟩ := gt_filterMap ho
  have h1 : (n, o') ∈ (conc V X.sh.rcut r).own := (List.mem_filter.1 h1).1
  have := gt_distinct (build_names X.sh.rcut _ hdr) h1
  rw [encS_own?]
  unfold TS.own?
  unfold conc at *
  rw [this]
  exact h2
 refine .ent hent (ex_sound hP (by rw [hN, hn]) hm hcall c _ _ _ _ _ r _ (hl C hP (by rw [hN, hn])) h ⟨fun S σ hk he => ?_, fun id S σ _ hk he => (by cases hk), fun l S σ hk he => (by cases hk), fun w σ hk he => ?_⟩)
 ·exact hend _ σ (.inl rfl) (Ent.trans he (extr_ent hk))
 ·have : w = r := by simpa using hk
  subst this
  exact hend _ σ (.inr rfl) he
theorem fn_split {P : Program} {f : FuncId} {sz : Nat} {rows : List (List D)} {r : H} {own' : List (Nat × Own)} (h1 : rows ≠ [] → FnOk P f [.d (.sl sz rows)] [] r own')
  (h2 : rows = [] → FnOk P f [.d (.v (.slice none 0 0))] [] r own') (h3 : rows = [] → ∀ a cap, FnOk P f [.d (.v (.slice (some a) 0 cap))] [] r own') : FnOk P f [.d (.sl sz rows)] [] r own' := by
 by_cases h0 : rows = []
 ·refine ⟨(h2 h0).1, fun E M w vs hgm hm ho hvs => ?_⟩
  obtain ⟨hsz, hv⟩ := hvs
  obtain ⟨v, hv0⟩ : ∃ v, vs[0]? = some v := ⟨vs[0]'(by simp at hsz; omega), Array.getElem?_eq_getElem _⟩
  have hr := hv 0 v _ hv0 rfl
  have go : ∀ u : Value, v = u → HReps E M vs [.d (.v u)] := by
   rintro u rfl
   refine ⟨hsz, fun i c x hc hx => ?_⟩
   cases i with
   | zero => simp at hx; subst hx; rw [hv0] at hc; cases hc; exact .d (.v _)
   | succ i => simp at hx
  subst h0
  cases hr with
  | d hd =>
   generalize hq : D.sl sz [] = q at hd
   cases hd with
   | slnil => exact (h2 rfl).2 E M w vs hgm hm ho (go _ rfl)
   | slmt a cap => exact (h3 rfl a cap).2 E M w vs hgm hm ho (go _ rfl)
   | sl b off len cap sz' rows' c hlen hcap =>
    simp only [D.sl.injEq] at hq
    obtain ⟨_, rfl⟩ := hq
    simp at hlen
    subst hlen
    exact (h3 rfl _ cap).2 E M w vs hgm hm ho (go _ rfl)
   | _ => cases hq
 ·exact h1 h0
end
end Go.Tx
end
section
namespace Go.Proofs.YtpndmanbfleadaaGreatDoor.Ty
open Go.Awp
theorem mixed : Tryz.prog.follows .mixedOrders = true := by kernel_rfl
end Go.Proofs.YtpndmanbfleadaaGreatDoor.Ty
end
section
namespace Go.Proofs.YtpndmanbfleadaaGreatDoor
open Go.Awp Go.Tx
structure Tag where
 kind : Int
 n : Int
 text : ByteArray
 names : (List ByteArray)
 parts : (List Tag)
mutual
noncomputable def Tag.enc : Tag → List D
 | ⟨a0, a1, a2, a3, a4⟩ => [.v (.int .i64 a0)] ++ [.v (.int .i64 a1)] ++ [.v (.string a2)] ++ [.sl 1 (List.map (fun y => [.v (.string y)]) a3)] ++ [.sl 5 (Tag.encL a4)]
noncomputable def Tag.encL : List Tag → List (List D)
 | [] => []
 | x :: r => Tag.enc x :: Tag.encL r
end
theorem Tag.encL_map : ∀ l : List Tag, Tag.encL l = l.map Tag.enc
 | [] => by simp [Tag.encL]
 | x :: r => by simp [Tag.encL, Tag.encL_map r]
mutual
noncomputable def Tag.encd : Tag → List DD
 | ⟨a0, a1, a2, a3, a4⟩ => [.d (.v (.int .i64 a0))] ++ [.d (.v (.int .i64 a1))] ++ [.d (.v (.string a2))] ++ [.sl 9 1 (List.map (fun y => [.d (.v (.string y))]) a3)] ++ [.sl 25 5 (Tag.encdL a4)]
noncomputable def Tag.encdL : List Tag → List (List DD)
 | [] => []
 | x :: r => Tag.encd x :: Tag.encdL r
end
theorem Tag.encdL_map : ∀ l : List Tag, Tag.encdL l = l.map Tag.encd
 | [] => by simp [Tag.encdL]
 | x :: r => by simp [Tag.encdL, Tag.encdL_map r]
mutual
theorem Tag.encd_toL : ∀ x : Tag, DD.toL x.encd = some x.enc
 | ⟨a0, a1, a2, a3, a4⟩ => by rw [Tag.encd, Tag.enc]; exact (DD.toL_app (DD.toL_app (DD.toL_app (DD.toL_app (toL1 _) (toL1 _)) (toL1 _)) (toLs (toRm (fun y => (toL1 _)) a3))) (toLs (Tag.encdL_toR a4)))
theorem Tag.encdL_toR : ∀ l : List Tag, DD.toR (Tag.encdL l) = some (Tag.encL l)
 | [] => by rw [Tag.encdL, Tag.encL]; rfl
 | x :: r => by rw [Tag.encdL, Tag.encL]; exact toRc (Tag.encd_toL x) (Tag.encdL_toR r)
end
structure Size where
 depth : Int
 pieces : Int
 bytes : Int
 deriving DecidableEq
noncomputable def Size.enc (x : Size) : List D := [.v (.int .i64 x.depth)] ++ [.v (.int .i64 x.pieces)] ++ [.v (.int .i64 x.bytes)]
noncomputable def Size.encd (x : Size) : List DD := [.d (.v (.int .i64 x.depth))] ++ [.d (.v (.int .i64 x.pieces))] ++ [.d (.v (.int .i64 x.bytes))]
theorem Size.encd_toL (x : Size) : DD.toL x.encd = some x.enc := (DD.toL_app (DD.toL_app (toL1 _) (toL1 _)) (toL1 _))
structure Reader where
 s : ByteArray
 at0 : Int
noncomputable def Reader.enc (x : Reader) : List D := [.v (.string x.s)] ++ [.v (.int .i64 x.at0)]
noncomputable def Reader.encd (x : Reader) : List DD := [.d (.v (.string x.s))] ++ [.d (.v (.int .i64 x.at0))]
theorem Reader.encd_toL (x : Reader) : DD.toL x.encd = some x.enc := (DD.toL_app (toL1 _) (toL1 _))
structure AcceptRange where
 lo : Int
 hi : Int
 deriving DecidableEq
noncomputable def AcceptRange.enc (x : AcceptRange) : List D := [.v (.int .u8 x.lo)] ++ [.v (.int .u8 x.hi)]
noncomputable def AcceptRange.encd (x : AcceptRange) : List DD := [.d (.v (.int .u8 x.lo))] ++ [.d (.v (.int .u8 x.hi))]
theorem AcceptRange.encd_toL (x : AcceptRange) : DD.toL x.encd = some x.enc := (DD.toL_app (toL1 _) (toL1 _))
structure ErrorString where
 s : ByteArray
noncomputable def ErrorString.enc (x : ErrorString) : List D := [.v (.string x.s)]
noncomputable def ErrorString.encd (x : ErrorString) : List DD := [.d (.v (.string x.s))]
theorem ErrorString.encd_toL (x : ErrorString) : DD.toL x.encd = some x.enc := (toL1 _)
inductive SN where
 | tagT
 | sizeT
 | readerT
 | acceptRangeT
 | errorStringT
 deriving DecidableEq
abbrev NN : SN → Type
 | .tagT => Tag
 | .sizeT => Size
 | .readerT => Reader
 | .acceptRangeT => AcceptRange
 | .errorStringT => ErrorString
noncomputable def szN : SN → Nat
 | .tagT => 5
 | .sizeT => 3
 | .readerT => 2
 | .acceptRangeT => 2
 | .errorStringT => 1
noncomputable def tysN : SN → List (Ty SN)
 | .tagT => [(.int .i64), (.int .i64), .str, (.sl .str), (.sl (.st .tagT))]
 | .sizeT => [(.int .i64), (.int .i64), (.int .i64)]
 | .readerT => [.str, (.int .i64)]
 | .acceptRangeT => [(.int .u8), (.int .u8)]
 | .errorStringT => [.str]
noncomputable def cellsN : (i : SN) → NN i → List (Leaf NN)
 | .tagT, x => [⟨(.int .i64), x.kind⟩, ⟨(.int .i64), x.n⟩, ⟨.str, x.text⟩, ⟨(.sl .str), x.names⟩, ⟨(.sl (.st .tagT)), x.parts⟩]
 | .sizeT, x => [⟨(.int .i64), x.depth⟩, ⟨(.int .i64), x.pieces⟩, ⟨(.int .i64), x.bytes⟩]
 | .readerT, x => [⟨.str, x.s⟩, ⟨(.int .i64), x.at0⟩]
 | .acceptRangeT, x => [⟨(.int .u8), x.lo⟩, ⟨(.int .u8), x.hi⟩]
 | .errorStringT, x => [⟨.str, x.s⟩]
noncomputable def encN : (i : SN) → NN i → List D
 | .tagT, x => Tag.enc x
 | .sizeT, x => Size.enc x
 | .readerT, x => Reader.enc x
 | .acceptRangeT, x => AcceptRange.enc x
 | .errorStringT, x => ErrorString.enc x
noncomputable def ofN : (i : SN) → List (Leaf NN) → Option (NN i)
 | .tagT, [⟨(.int .i64), a0⟩, ⟨(.int .i64), a1⟩, ⟨.str, a2⟩, ⟨(.sl .str), a3⟩, ⟨(.sl (.st .tagT)), a4⟩] => some ⟨a0, a1, a2, a3, a4⟩
 | .sizeT, [⟨(.int .i64), a0⟩, ⟨(.int .i64), a1⟩, ⟨(.int .i64), a2⟩] => some ⟨a0, a1, a2⟩
 | .readerT, [⟨.str, a0⟩, ⟨(.int .i64), a1⟩] => some ⟨a0, a1⟩
 | .acceptRangeT, [⟨(.int .u8), a0⟩, ⟨(.int .u8), a1⟩] => some ⟨a0, a1⟩
 | .errorStringT, [⟨.str, a0⟩] => some ⟨a0⟩
 | _, _ => none
noncomputable def tyN : TypeId → Option (Ty SN)
 | 2 => some (.int .i64)
 | 3 => some (.int .i64)
 | 4 => some .bool
 | 5 => some (.int .u8)
 | 6 => some (.int .u8)
 | 9 => some .str
 | 10 => some .str
 | 11 => some .str
 | 12 => some (.int .u64)
 | 21 => some (.int .i32)
 | 22 => some (.sl .str)
 | 23 => some (.sl (.st .tagT))
 | 25 => some (.st .tagT)
 | 29 => some (.int .i64)
 | 57 => some (.st .sizeT)
 | 65 => some (.st .readerT)
 | 83 => some (.int .u64)
 | 94 => some (.int .i64)
 | 102 => some (.int .u32)
 | 104 => some (.int .u64)
 | 106 => some (.sl (.int .u8))
 | 116 => some (.st .acceptRangeT)
 | 120 => some (.int .i64)
 | 128 => some (.int .u64)
 | 158 => some (.st .errorStringT)
 | 192 => some (.int .u8)
 | 193 => some (.int .u8)
 | 195 => some (.int .i32)
 | 196 => some (.int .i32)
 | _ => none
theorem enc_cellsN (i : SN) (x : NN i) : encN i x = (cellsN i x).map fun l => encD szN encN l.t l.x := by
 cases i <;> cases x <;> simp [encN, cellsN, encD, encR, tsz, szN, Tag.enc, Size.enc, Reader.enc, AcceptRange.enc, ErrorString.enc, Tag.encL_map]
theorem of_cellsN (i : SN) (ls : List (Leaf NN)) (x : NN i) (h : ofN i ls = some x) : cellsN i x = ls := by
 unfold ofN at h
 split at h <;> first
  | (cases h; rfl)
  | (cases h; done)
theorem len_cellsN (i : SN) (x : NN i) : (cellsN i x).length = szN i := by cases i <;> rfl
theorem one_cellsN (i : SN) (x : NN i) : ∀ l ∈ cellsN i x, l.t.cell = true := by
 have h : (cellsN i x).all (fun l => l.t.cell) = true := by cases i <;> rfl
 exact List.all_eq_true.1 h
noncomputable def encdN : (i : SN) → NN i → List DD
 | .tagT, x => Tag.encd x
 | .sizeT, x => Size.encd x
 | .readerT, x => Reader.encd x
 | .acceptRangeT, x => AcceptRange.encd x
 | .errorStringT, x => ErrorString.encd x
noncomputable def flatN : SN → Bool
 | .tagT => false
 | .sizeT => true
 | .readerT => true
 | .acceptRangeT => true
 | .errorStringT => true
noncomputable def tidN : Ty SN → Nat
 | .str => 9
 | (.st .tagT) => 25
 | (.int .u8) => 5
 | _ => 0
theorem encd_cellsN (i : SN) (x : NN i) : encdN i x = (cellsN i x).map fun l => encDD szN encN tidN encdN l.t l.x := by
 cases i <;> cases x <;> simp [encdN, cellsN, encDD, encRD, encD, encR, tidN, tsz, szN, Tag.encd, Size.encd, Reader.encd, AcceptRange.encd, ErrorString.encd, Tag.encdL_map]
theorem encd_toLN (i : SN) (x : NN i) : DD.toL (encdN i x) = some (encN i x) := by
 cases i
 ·exact Tag.encd_toL x
 ·exact Size.encd_toL x
 ·exact Reader.encd_toL x
 ·exact AcceptRange.encd_toL x
 ·exact ErrorString.encd_toL x
theorem flat_cellsN (i : SN) (x : NN i) (h : flatN i = true) : ∀ l ∈ cellsN i x, l.t.isSl = false := by
 have h1 : (cellsN i x).all (fun l => !l.t.isSl) = true := by
  revert h
  cases i <;> first
   | (intro h; cases h; done)
   | (intro _; rfl)
 intro l hl
 simpa using List.all_eq_true.1 h1 l hl
noncomputable def vw : View where
 ι := SN
 dec := inferInstance
 N := NN
 sz := szN
 tys := tysN
 cells := cellsN
 ofCells := ofN
 enc := encN
 ty := tyN
 enc_cells := enc_cellsN
 of_cells := of_cellsN
 len_cells := len_cellsN
 one_cells := one_cellsN
 tid := tidN
 encd := encdN
 encd_cells := encd_cellsN
 encd_toL := encd_toLN
 flat := flatN
 flat_cells := flat_cellsN
end Go.Proofs.YtpndmanbfleadaaGreatDoor
end
section
namespace Go.Proofs.YtpndmanbfleadaaGreatDoor
open Go.Awp Go.Tx
open Go.Proofs.Tryz (prog)
set_option maxRecDepth 100000
def structOf (P : Program) (t : TypeId) : Array Field := match P.underlying t with
 | some (.struct fs) => fs
 | _ => #[]
theorem tf2 : tyFact vw prog 2 (.int .i64) := (by kernel_rfl : prog.underlying 2 = some (.int .i64))
theorem tf3 : tyFact vw prog 3 (.int .i64) := (by kernel_rfl : prog.underlying 3 = some (.int .i64))
theorem tf4 : tyFact vw prog 4 .bool := (by kernel_rfl : prog.underlying 4 = some .bool)
theorem tf5 : tyFact vw prog 5 (.int .u8) := (by kernel_rfl : prog.underlying 5 = some (.int .u8))
theorem tf6 : tyFact vw prog 6 (.int .u8) := (by kernel_rfl : prog.underlying 6 = some (.int .u8))
theorem tf9 : tyFact vw prog 9 .str := (by kernel_rfl : prog.underlying 9 = some .string)
theorem tf10 : tyFact vw prog 10 .str := (by kernel_rfl : prog.underlying 10 = some .string)
theorem tf11 : tyFact vw prog 11 .str := (by kernel_rfl : prog.underlying 11 = some .string)
theorem tf12 : tyFact vw prog 12 (.int .u64) := (by kernel_rfl : prog.underlying 12 = some (.int .u64))
theorem tf21 : tyFact vw prog 21 (.int .i32) := (by kernel_rfl : prog.underlying 21 = some (.int .i32))
theorem tf22 : tyFact vw prog 22 (.sl .str) := ⟨9, by kernel_rfl, by kernel_rfl, by kernel_rfl, by kernel_rfl⟩
theorem tf23 : tyFact vw prog 23 (.sl (.st .tagT)) := ⟨25, by kernel_rfl, by kernel_rfl, by kernel_rfl, by kernel_rfl⟩
theorem tf25 : tyFact vw prog 25 (.st .tagT) := ⟨structOf prog 25, by kernel_rfl, by kernel_rfl, by kernel_rfl⟩
theorem tf29 : tyFact vw prog 29 (.int .i64) := (by kernel_rfl : prog.underlying 29 = some (.int .i64))
theorem tf57 : tyFact vw prog 57 (.st .sizeT) := ⟨structOf prog 57, by kernel_rfl, by kernel_rfl, by kernel_rfl⟩
theorem tf65 : tyFact vw prog 65 (.st .readerT) := ⟨structOf prog 65, by kernel_rfl, by kernel_rfl, by kernel_rfl⟩
theorem tf83 : tyFact vw prog 83 (.int .u64) := (by kernel_rfl : prog.underlying 83 = some (.int .u64))
theorem tf94 : tyFact vw prog 94 (.int .i64) := (by kernel_rfl : prog.underlying 94 = some (.int .i64))
theorem tf102 : tyFact vw prog 102 (.int .u32) := (by kernel_rfl : prog.underlying 102 = some (.int .u32))
theorem tf104 : tyFact vw prog 104 (.int .u64) := (by kernel_rfl : prog.underlying 104 = some (.int .u64))
theorem tf106 : tyFact vw prog 106 (.sl (.int .u8)) := ⟨5, by kernel_rfl, by kernel_rfl, by kernel_rfl, by kernel_rfl⟩
theorem tf116 : tyFact vw prog 116 (.st .acceptRangeT) := ⟨structOf prog 116, by kernel_rfl, by kernel_rfl, by kernel_rfl⟩
theorem tf120 : tyFact vw prog 120 (.int .i64) := (by kernel_rfl : prog.underlying 120 = some (.int .i64))
theorem tf128 : tyFact vw prog 128 (.int .u64) := (by kernel_rfl : prog.underlying 128 = some (.int .u64))
theorem tf158 : tyFact vw prog 158 (.st .errorStringT) := ⟨structOf prog 158, by kernel_rfl, by kernel_rfl, by kernel_rfl⟩
theorem tf192 : tyFact vw prog 192 (.int .u8) := (by kernel_rfl : prog.underlying 192 = some (.int .u8))
theorem tf193 : tyFact vw prog 193 (.int .u8) := (by kernel_rfl : prog.underlying 193 = some (.int .u8))
theorem tf195 : tyFact vw prog 195 (.int .i32) := (by kernel_rfl : prog.underlying 195 = some (.int .i32))
theorem tf196 : tyFact vw prog 196 (.int .i32) := (by kernel_rfl : prog.underlying 196 = some (.int .i32))
theorem leaves_cons {ls : List (Leaf NN)} {t : Ty SN} {ts : List (Ty SN)} (h : ls.map (·.t) = t :: ts) : ∃ (x : den NN t) (ls' : List (Leaf NN)), ls = ⟨t, x⟩ :: ls' ∧ ls'.map (·.t) = ts := by
 match ls, h with
 | ⟨t', x⟩ :: r, h =>
  simp only [List.map_cons, List.cons.injEq] at h
  obtain ⟨h1, h2⟩ := h
  subst h1
  exact ⟨x, r, rfl, h2⟩
theorem leaves_nil {ls : List (Leaf NN)} (h : ls.map (·.t) = []) : ls = [] := by simpa using h
theorem facts : Facts vw prog where
 ty := fun t τ h => by
  have h : tyN t = some τ := h
  unfold tyN at h
  split at h
  ·cases h; exact tf2
  ·cases h; exact tf3
  ·cases h; exact tf4
  ·cases h; exact tf5
  ·cases h; exact tf6
  ·cases h; exact tf9
  ·cases h; exact tf10
  ·cases h; exact tf11
  ·cases h; exact tf12
  ·cases h; exact tf21
  ·cases h; exact tf22
  ·cases h; exact tf23
  ·cases h; exact tf25
  ·cases h; exact tf29
  ·cases h; exact tf57
  ·cases h; exact tf65
  ·cases h; exact tf83
  ·cases h; exact tf94
  ·cases h; exact tf102
  ·cases h; exact tf104
  ·cases h; exact tf106
  ·cases h; exact tf116
  ·cases h; exact tf120
  ·cases h; exact tf128
  ·cases h; exact tf158
  ·cases h; exact tf192
  ·cases h; exact tf193
  ·cases h; exact tf195
  ·cases h; exact tf196
  ·cases h
 tys := fun i x => by cases i <;> rfl
 of := fun i ls h => by
  cases i with
  | tagT =>
   obtain ⟨a0, l0, rfl, h0⟩ := leaves_cons h
   obtain ⟨a1, l1, rfl, h1⟩ := leaves_cons h0
   obtain ⟨a2, l2, rfl, h2⟩ := leaves_cons h1
   obtain ⟨a3, l3, rfl, h3⟩ := leaves_cons h2
   obtain ⟨a4, l4, rfl, h4⟩ := leaves_cons h3
   obtain rfl := leaves_nil h4
   exact ⟨_, rfl⟩
  | sizeT =>
   obtain ⟨a0, l0, rfl, h0⟩ := leaves_cons h
   obtain ⟨a1, l1, rfl, h1⟩ := leaves_cons h0
   obtain ⟨a2, l2, rfl, h2⟩ := leaves_cons h1
   obtain rfl := leaves_nil h2
   exact ⟨_, rfl⟩
  | readerT =>
   obtain ⟨a0, l0, rfl, h0⟩ := leaves_cons h
   obtain ⟨a1, l1, rfl, h1⟩ := leaves_cons h0
   obtain rfl := leaves_nil h1
   exact ⟨_, rfl⟩
  | acceptRangeT =>
   obtain ⟨a0, l0, rfl, h0⟩ := leaves_cons h
   obtain ⟨a1, l1, rfl, h1⟩ := leaves_cons h0
   obtain rfl := leaves_nil h1
   exact ⟨_, rfl⟩
  | errorStringT =>
   obtain ⟨a0, l0, rfl, h0⟩ := leaves_cons h
   obtain rfl := leaves_nil h0
   exact ⟨_, rfl⟩
end Go.Proofs.YtpndmanbfleadaaGreatDoor
end
section
namespace Go.Tx
open Go.Awp
variable [Inhabited GMem]
theorem FnOk.pure {P : Program} {f : FuncId} {args : List H} {r : H} (hc : callable P f = true)
  (h : ∀ (E : Env) (M : Mem) (w : World) (vs : Array Value), GOk M w → (∀ b o v, M b o = some v → w.cell? ⟨b, o, none⟩ = some v) → HReps E M vs args →
    Calls P f vs w fun e w' => ∃ v, e = .returned v ∧ HRep E M v r ∧ Go.RowKit.Below w.heap.size w w') : FnOk P f args [] r [] := by
 refine ⟨hc, fun E M w vs hgm hm _ hvs => (h E M w vs hgm hm hvs).mono ?_⟩
 rintro e w' ⟨v, rfl, hr, hb⟩
 refine ⟨v, E, M, rfl, { rep := hr, owns := ⟨fun n o hn => by simp [gt] at hn, fun n m o o' b _ hn => by simp [gt] at hn⟩, mle := Mem.le_refl _, mem := fun b o v hv => ?_, mnew := fun b o v hv => .inl hv, home := fun n o b hn => by simp [gt] at hn, frame := fun k hk _ => hb.block k hk, grows := hb.size, os := hb.os, tape := hb.tape, output := hb.output, env := fun _ _ => rfl }⟩
 have h1 := hm b o v hv
 have hlt := World.block_lt_of_cell? w (a := ⟨b, o, none⟩) h1
 rw [← h1]
 exact World.cell?_of_block (a := ⟨b, o, none⟩) (hb.block b hlt)
theorem hreps_one {E : Env} {M : Mem} {vs : Array Value} {a : H} (h : HReps E M vs [a]) : ∃ v, vs = #[v] ∧ HRep E M v a := by
 obtain ⟨h1, h2⟩ := h
 match vs, h1 with
 | ⟨[v]⟩, _ => exact ⟨v, rfl, h2 0 v a rfl rfl⟩
theorem hreps_two {E : Env} {M : Mem} {vs : Array Value} {a b : H} (h : HReps E M vs [a, b]) : ∃ v u, vs = #[v, u] ∧ HRep E M v a ∧ HRep E M u b := by
 obtain ⟨h1, h2⟩ := h
 match vs, h1 with
 | ⟨[v, u]⟩, _ => exact ⟨v, u, rfl, h2 0 v a rfl rfl, h2 1 u b rfl rfl⟩
theorem FnOk.copyCheck {P : Program} {f : FuncId} {T : TypeId} {rest : List D} (hc : callable P f = true)
  (fresh : ∀ (b : Nat) (w : World), w.cell? ⟨b, 0, none⟩ = some (.pointer none) → w.shape? b = some (T, rest.length + 2) → w.frozen? ⟨b, 0, none⟩ = false →
    Calls P f #[.pointer (some ⟨b, 0, none⟩)] w fun e w' => e = .returned (.tuple #[]) ∧ w' = w.setCell ⟨b, 0, none⟩ (.pointer (some ⟨b, 0, none⟩)))
  (used : ∀ (b : Nat) (w : World), w.cell? ⟨b, 0, none⟩ = some (.pointer (some ⟨b, 0, none⟩)) → 
    Calls P f #[.pointer (some ⟨b, 0, none⟩)] w fun e w' => e = .returned (.tuple #[]) ∧ w' = w)
  {g m c l : Nat} {bl : Bool} {e sz : Nat} {rows : List (List D)} (hgm : g ≠ m) (hgc : g ≠ c) (hcg : c < given) :
  FnOk P f [.bp g 0] [(g, .box (some T) (.np g bl :: .vh m l :: rest.map H.d)), (m, .vec e sz rows)] (.tup []) [(g, .box (some T) (.np g true :: .vh c l :: rest.map H.d)), (c, .vec e sz rows)] := by
 refine ⟨hc, fun E M w vs _ hm how hvs => ?_⟩
 obtain ⟨v, rfl, hv⟩ := hreps_one hvs
 have g1 : gt [(g, Own.box (some T) (H.np g bl :: H.vh m l :: rest.map H.d)), (m, Own.vec e sz rows)] g = some (.box (some T) (.np g bl :: .vh m l :: rest.map H.d)) := by simp [gt]
 have g2 : gt [(g, Own.box (some T) (H.np g bl :: H.vh m l :: rest.map H.d)), (m, Own.vec e sz rows)] m = some (.vec e sz rows) := by simp [gt, hgm]
 have o1 := how.ok g _ g1
 have o2 := how.ok m _ g2
 obtain ⟨b, cs, ty, k1, k2, k3, k4, k5, k6⟩ := o1
 have hty := k6 T rfl
 subst hty
 cases hv with
 | bp n off b' hE =>
 rw [hE] at k1; cases k1
 obtain ⟨p, q, rs, rfl⟩ : ∃ p q rs, cs = ⟨p :: q :: rs⟩ := by
  match cs, k3 with
  | ⟨p :: q :: rs⟩, _ => exact ⟨p, q, rs, rfl⟩
 have hrs : rs.length = rest.length := by simpa using k3
 have hp := k4 0 p (.np g bl) rfl rfl
 have hq := k4 1 q (.vh m l) rfl rfl
 have hcell : ∀ u, w.cell? ⟨b, 0, none⟩ = some u ↔ p = u := fun u => by simp [World.cell?, k2]
 have hsh : w.shape? b = some (ty, rest.length + 2) := by simp [World.shape?, k2, hrs]
 have hfz : w.frozen? ⟨b, 0, none⟩ = false := by simp [World.frozen?, k2]
 have hblt : b < w.heap.size := (Array.getElem?_eq_some_iff.1 k2).1
 have hapart : ∀ b', blockOf (E m) = some b' → b' ≠ b := fun b' hb' he => by
  subst he
  exact how.apart g m _ _ b' hgm g1 g2 (by rw [hE]; rfl) hb'
 let E' : Env := fun n => if n = c then E m else E n
 have hE' : ∀ n, n ≠ c → E' n = E n := fun n hn => by simp [E', hn]
 have hEc : E' c = E m := by simp [E']
 have hEg : E' g = .pointer (some ⟨b, 0, none⟩) := by rw [hE' g hgc]; exact hE
 have fin : ∀ w', w'.heap = w.heap.setIfInBounds b (.cells ⟨.pointer (some ⟨b, 0, none⟩) :: q :: rs⟩ ty (0, 0)) → w'.os = w.os → w'.tape = w.tape → w'.output = w.output →
   FnPost E M [(g, .box (some ty) (.np g bl :: .vh m l :: rest.map H.d)), (m, .vec e sz rows)] w (.tuple #[]) (.tup []) [(g, .box (some ty) (.np g true :: .vh c l :: rest.map H.d)), (c, .vec e sz rows)] E' M w' := by
  intro w' hh h1 h2 h3
  have hother : ∀ k, k ≠ b → w'.heap[k]? = w.heap[k]? := fun k hk => by
   rw [hh, Array.getElem?_setIfInBounds_ne (fun e => hk e.symm)]
  have hft : ∀ n o bb, gt [(g, Own.box (some ty) (H.np g true :: H.vh c l :: rest.map H.d)), (c, Own.vec e sz rows)] n = some o → o.foot w' (E' n) bb → blockOf (E' n) = some bb := by
   intro n o bb hn hb
   rw [gt_cons] at hn
   by_cases hgn : g = n
   ·rw [if_pos hgn] at hn; cases hn; exact hb
   ·rw [if_neg hgn, gt_cons] at hn
    by_cases hcn : c = n
    ·rw [if_pos hcn] at hn; cases hn; exact hb
    ·rw [if_neg hcn] at hn; simp [gt] at hn
  have hblk : ∀ n o bb, gt [(g, Own.box (some ty) (H.np g true :: H.vh c l :: rest.map H.d)), (c, Own.vec e sz rows)] n = some o → blockOf (E' n) = some bb → (n = g ∧ bb = b) ∨ (n = c ∧ blockOf (E m) = some bb) := by
   intro n o bb hn hb
   rw [gt_cons] at hn
   by_cases hgn : g = n
   ·subst hgn; rw [hEg] at hb; left; exact ⟨rfl, by simpa [blockOf] using hb.symm⟩
   ·rw [if_neg hgn, gt_cons] at hn
    by_cases hcn : c = n
    ·subst hcn; rw [hEc] at hb; right; exact ⟨rfl, hb⟩
    ·rw [if_neg hcn] at hn; simp [gt] at hn
  refine { rep := .tup #[] [] rfl (fun i c x hc => by simp at hc), owns := ⟨fun n o hn => ?_, fun n n' o o' bb hne hn hn' hb hb' => ?_⟩, mle := Mem.le_refl _, mem := fun bb o v hv => ?_, mnew := fun bb o v hv => .inl hv, home := fun n o bb hn hb => ?_, frame := fun k hk hx => ?_, grows := ?_, os := h1, tape := h2, output := h3, env := fun n hn => ?_ }
  ·rw [gt_cons] at hn
   by_cases hgn : g = n
   ·subst hgn
    rw [if_pos rfl] at hn; cases hn
    refine ⟨b, ⟨.pointer (some ⟨b, 0, none⟩) :: q :: rs⟩, ty, hEg, by rw [hh]; simp [hblt], by simp [hrs], fun i x y hx hy => ?_, k5, fun t ht => by cases ht; rfl⟩
    match i with
    | 0 => simp at hx hy; subst hx; subst hy; exact .np1 g b hEg
    | 1 =>
     simp at hx hy; subst hx; subst hy
     cases hq with
     | vh _ len l' cc ad hEm hl => exact HRep.vh c l l' cc ad (hEc.trans hEm) hl
    | i + 2 =>
     have hr := k4 (i + 2) x y (by simpa using hx) (by simpa using hy)
     have hy' : (rest.map H.d)[i]? = some y := by simpa using hy
     rw [List.getElem?_map, Option.map_eq_some_iff] at hy'
     obtain ⟨d, _, rfl⟩ := hy'
     cases hr with
     | d hd => exact .d hd
   ·rw [if_neg hgn, gt_cons] at hn
    by_cases hcn : c = n
    ·subst hcn
     rw [if_pos rfl] at hn; cases hn
     have := o2.keep (E' := E) (M' := M) (w' := w') rfl (fun b' hb' => hother b' (hapart b' hb')) (fun _ _ => rfl) (Mem.le_refl _) fun b' hb' => (o2.block hb').2
     obtain ⟨xs, y1, y2, y3, y4⟩ := this
     exact ⟨xs, by rw [hEc]; exact y1, y2, y3, by rw [hEc]; exact y4⟩
    ·rw [if_neg hcn] at hn; simp [gt] at hn
  ·rcases hblk n o bb hn (hft n o bb hn hb) with ⟨rfl, rfl⟩ | ⟨rfl, h4⟩
   ·rcases hblk n' o' bb hn' (hft n' o' bb hn' hb') with ⟨rfl, _⟩ | ⟨rfl, h5⟩
    ·exact hne rfl
    ·exact hapart bb h5 rfl
   ·rcases hblk n' o' bb hn' (hft n' o' bb hn' hb') with ⟨rfl, rfl⟩ | ⟨rfl, h5⟩
    ·exact hapart bb h4 rfl
    ·exact hne rfl
  ·have h4 := hm bb o v hv
   have hne : bb ≠ b := by rintro rfl; rw [k5 o] at hv; cases hv
   rw [← h4]
   exact World.cell?_of_block (a := ⟨bb, o, none⟩) (hother bb hne)
  ·rcases hblk n o bb hn (hft n o bb hn hb) with ⟨rfl, rfl⟩ | ⟨rfl, h4⟩
   ·exact .inl ⟨n, _, g1, by rw [hE]; rfl⟩
   ·exact .inl ⟨m, _, g2, h4⟩
  ·exact hother k fun e => hx ⟨g, _, g1, by rw [hE, e]; rfl⟩
  ·rw [hh]; simp
  ·exact hE' n (by omega)
 cases hp with
 | np0 =>
  refine (fresh b w ((hcell _).2 rfl) hsh hfz).mono ?_
  rintro e' w' ⟨rfl, rfl⟩
  refine ⟨_, E', M, rfl, fin _ ?_ rfl rfl rfl⟩
  simp only [World.setCell]
  apply Array.ext'
  rw [Array.toList_setIfInBounds]
  apply List.ext_getElem?
  intro k
  simp only [Array.toList_modify, List.getElem?_modify, List.getElem?_set, Array.getElem?_toList, Array.length_toList]
  by_cases hk : b = k
  ·subst hk
   have k2' : w.heap[b] = .cells ⟨.pointer none :: q :: rs⟩ ty (0, 0) := by rw [Array.getElem?_eq_getElem hblt] at k2; exact Option.some.inj k2
   simp [hblt, k2']
  ·simp [hk]
 | np1 _ b' hb' =>
  rw [hE] at hb'; cases hb'
  refine (used b w ((hcell _).2 rfl)).mono ?_
  rintro e' w' ⟨rfl, rfl⟩
  refine ⟨_, E', M, rfl, fin _ ?_ rfl rfl rfl⟩
  apply Array.ext'
  rw [Array.toList_setIfInBounds]
  apply List.ext_getElem?
  intro k
  simp only [List.getElem?_set, Array.getElem?_toList, Array.length_toList]
  by_cases hk : b = k
  ·subst hk
   rw [k2]; simp [hblt]
  ·simp [hk]
section
open Go.Shelf Go.RowKit Go.Proofs
set_option maxHeartbeats 1000000 in
set_option maxRecDepth 100000 in
end
end Go.Tx
end
section
namespace Go.Proofs.YtpndmanbfleadaaGreatDoor
open Go.Awp Go.Tx
open IntKind (i32)
open IntKind (u8)
open IntKind (i64)
open Go.Proofs.Tryz (prog)
set_option maxHeartbeats 4000000
set_option maxRecDepth 100000
noncomputable def c42l3 : Cut SN := ⟨[(1, .bp 1 0), (2, .bp 2 0), (3, .bp 3 0), (14, .dat (.sl .str)), (15, .dat (.int .i64)), (16, .dat (.int .i64))], [(1, .st .tagT), (2, .st .sizeT), (3, .st .sizeT)]⟩
noncomputable def c42l8 : Cut SN := ⟨[(2, .bp 2 0), (3, .bp 3 0), (28, .dat (.sl (.st .tagT))), (29, .dat (.int .i64)), (30, .dat (.int .i64))], [(2, .st .sizeT), (3, .st .sizeT)]⟩
noncomputable def c42e0 : Cut SN := ⟨[(1, .bp 1 0), (2, .bp 2 0), (3, .bp 3 0)], [(1, .st .tagT), (2, .st .sizeT), (3, .st .sizeT)]⟩
noncomputable def c42e2 : Cut SN := ⟨[(2, .bp 2 0), (3, .bp 3 0)], [(2, .st .sizeT), (3, .st .sizeT)]⟩
noncomputable def c42z : Cut SN := ⟨[(2, .bp 2 0)], [(2, .st .sizeT)]⟩
noncomputable def sh42 : Shape vw := { exits := fun id => match id with | 0 => c42e0 | 2 => c42e2 | _ => ⟨[], []⟩, rcut := c42z }
noncomputable def sig42 : Sig vw := { params := [.dat (.st .tagT)], rcut := c42z, rvars := [.cell 2 57] }
noncomputable def n_42l3 (v : (List ByteArray) × Int × Int × Tag × Size × Size × Unit) : Option ((Tag × Size × Size × Unit)) :=
 if decide (v.2.2.1 < v.2.1) = true then
  if (0 : Int) ≤ v.2.2.1 then
   v.1[v.2.2.1.toNat]? >>= fun x1 =>
   n_42l3 (v.1, v.2.1, i64.wrap (v.2.2.1 + (1 : Int)), v.2.2.2.1, v.2.2.2.2.1, Size.mk v.2.2.2.2.2.1.depth v.2.2.2.2.2.1.pieces (i64.wrap (v.2.2.2.2.2.1.bytes + (↑x1.size : Int))), ())
  else none
 else some ((v.2.2.2.1, v.2.2.2.2.1, v.2.2.2.2.2.1, ()))
 partial_fixpoint
mutual
noncomputable def n_42l8 (v : (List Tag) × Int × Int × Size × Size × Unit) : Option ((Size × Size × Unit)) :=
 if decide (v.2.2.1 < v.2.1) = true then
  if (0 : Int) ≤ v.2.2.1 then
   v.1[v.2.2.1.toNat]? >>= fun x1 =>
   n_42 (x1, ()) >>= fun x2 =>
   n_42l8 (v.1, v.2.1, i64.wrap (v.2.2.1 + (1 : Int)), v.2.2.2.1, Size.mk (max v.2.2.2.2.1.depth x2.1.depth) (i64.wrap (v.2.2.2.2.1.pieces + x2.1.pieces)) (i64.wrap (v.2.2.2.2.1.bytes + x2.1.bytes)), ())
  else none
 else some ((v.2.2.2.1, v.2.2.2.2.1, ()))
 partial_fixpoint
noncomputable def n_42 (v : Tag × Unit) : Option (Size × Unit) :=
 n_42l3 (v.1.names, (↑v.1.names.length : Int), (0 : Int), v.1, Size.mk (0 : Int) (0 : Int) (0 : Int), Size.mk (0 : Int) (1 : Int) (↑v.1.text.size : Int), ()) >>= fun x1 =>
 n_42l8 (x1.1.parts, (↑x1.1.parts.length : Int), (0 : Int), x1.2.1, x1.2.2.1, ()) >>= fun x2 =>
 some ((Size.mk (i64.wrap (x2.2.1.depth + (1 : Int))) x2.2.1.pieces x2.2.1.bytes, ()))
 partial_fixpoint
end
noncomputable def call42 (n_42l3 : (List ByteArray) × Int × Int × Tag × Size × Size × Unit → Option ((Tag × Size × Size × Unit))) (n_42l8 : (List Tag) × Int × Int × Size × Size × Unit → Option ((Size × Size × Unit))) (n_42 : Tag × Unit → Option (Size × Unit)) : Caller vw := fun A fid args S k => match fid with | 42 => callPure prog sig42 n_42 A args S k | _ => none
noncomputable def x42 (n_42l3 : (List ByteArray) × Int × Int × Tag × Size × Size × Unit → Option ((Tag × Size × Size × Unit))) (n_42l8 : (List Tag) × Int × Int × Size × Size × Unit → Option ((Size × Size × Unit))) (n_42 : Tag × Unit → Option (Size × Unit)) : Xc vw := { P := prog, n := 58, call := call42 n_42l3 n_42l8 n_42, sh := sh42, loops := fun k => match k with | 3 => some { cut := c42l3, alts := [.exit 0], F := n_42l3 } | 8 => some { cut := c42l8, alts := [.exit 2], F := n_42l8 } | _ => none }
abbrev mn_42l3 (v : (List ByteArray) × Int × Int × Tag × Size × Size × Unit) (r : (Tag × Size × Size × Unit)) : Prop := (fun v out => ∀ C : Ctx, C.P = prog → C.N = 58 → AWpL C (loopNo (bodyOf Tryz.f42) 0) (encS vw (conc vw c42l3 v)) (OutQ sh42 [.exit 0] out)) v r
theorem cn_42l3 (f0 : (List ByteArray) × Int × Int × Tag × Size × Size × Unit → Option ((Tag × Size × Size × Unit))) (h0 : ∀ v r, f0 v = some r → mn_42l3 v r) : CallerOk prog (x42 f0 (fun _ => none) (fun _ => none)).call := (by
    intro A fid args S dst k r h
    unfold x42 call42 at h
    simp only at h
    split at h
    ·exact callPure_ok ((fun v r x h hx => by cases h)) rfl rfl h
    ·cases h)
theorem sn_42l3 (f0 : (List ByteArray) × Int × Int × Tag × Size × Size × Unit → Option ((Tag × Size × Size × Unit))) (h0 : ∀ v r, f0 v = some r → mn_42l3 v r) (v : (List ByteArray) × Int × Int × Tag × Size × Size × Unit) (r : (Tag × Size × Size × Unit)) (h : exL (x42 f0 (fun _ => none) (fun _ => none)) (loopNo (bodyOf Tryz.f42) 0) c42l3 [.exit 0] f0 v = some r) : mn_42l3 v r := fun C hP hN => loop_step (X := x42 f0 (fun _ => none) (fun _ => none)) (b := (loopNo (bodyOf Tryz.f42) 0)) hP hN Ty.mixed (cn_42l3 f0 h0) (lok_all (X := x42 f0 (fun _ => none) (fun _ => none)) (c := (loopNo (bodyOf Tryz.f42) 0)) (kcast (by kernel_rfl : True = AllB (LoopsP C (x42 f0 (fun _ => none) (fun _ => none))) (loopsIn (loopNo (bodyOf Tryz.f42) 0))) trivial)) (cut := c42l3) (alts := [.exit 0]) (F := f0) (fun v out h => h0 v out h C hP hN) h
theorem n_42l3_pc : ∀ v out, n_42l3 v = some out → (fun v out => ∀ C : Ctx, C.P = prog → C.N = 58 → AWpL C (loopNo (bodyOf Tryz.f42) 0) (encS vw (conc vw c42l3 v)) (OutQ sh42 [.exit 0] out)) v out := (n_42l3.partial_correctness (motive := mn_42l3) (fun f0 h0 v r h => sn_42l3 f0 h0 v r (kcast (by kernel_rfl) h)))
abbrev mn_42l8 (v : (List Tag) × Int × Int × Size × Size × Unit) (r : (Size × Size × Unit)) : Prop := (fun v out => ∀ C : Ctx, C.P = prog → C.N = 58 → AWpL C (loopNo (bodyOf Tryz.f42) 1) (encS vw (conc vw c42l8 v)) (OutQ sh42 [.exit 2] out)) v r
abbrev mn_42 (v : Tag × Unit) (r : Size × Unit) : Prop := (fun v r => ∀ x, resV prog sig42 r = some x → FnOk prog 42 (encL vw (startS sig42 v).len (startOs sig42 v).1) (encOs (startS sig42 v).len (startS sig42 v).own) (encV vw (conc vw sig42.rcut r).len x) (encOs (conc vw sig42.rcut r).len (kept sig42 r))) v r
theorem cn_42l8 (f0 : (List Tag) × Int × Int × Size × Size × Unit → Option ((Size × Size × Unit))) (f1 : Tag × Unit → Option (Size × Unit)) (h0 : ∀ v r, f0 v = some r → mn_42l8 v r) (h1 : ∀ v r, f1 v = some r → mn_42 v r) : CallerOk prog (x42 (fun _ => none) f0 f1).call := (by
    intro A fid args S dst k r h
    unfold x42 call42 at h
    simp only at h
    split at h
    ·exact callPure_ok ((fun v r x h hx => h1 v r h x hx)) rfl rfl h
    ·cases h)
theorem sn_42l8 (f0 : (List Tag) × Int × Int × Size × Size × Unit → Option ((Size × Size × Unit))) (f1 : Tag × Unit → Option (Size × Unit)) (h0 : ∀ v r, f0 v = some r → mn_42l8 v r) (h1 : ∀ v r, f1 v = some r → mn_42 v r) (v : (List Tag) × Int × Int × Size × Size × Unit) (r : (Size × Size × Unit)) (h : exL (x42 (fun _ => none) f0 f1) (loopNo (bodyOf Tryz.f42) 1) c42l8 [.exit 2] f0 v = some r) : mn_42l8 v r := fun C hP hN => loop_step (X := x42 (fun _ => none) f0 f1) (b := (loopNo (bodyOf Tryz.f42) 1)) hP hN Ty.mixed (cn_42l8 f0 f1 h0 h1) (lok_all (X := x42 (fun _ => none) f0 f1) (c := (loopNo (bodyOf Tryz.f42) 1)) (kcast (by kernel_rfl : True = AllB (LoopsP C (x42 (fun _ => none) f0 f1)) (loopsIn (loopNo (bodyOf Tryz.f42) 1))) trivial)) (cut := c42l8) (alts := [.exit 2]) (F := f0) (fun v out h => h0 v out h C hP hN) h
theorem cn_42 (f0 : (List Tag) × Int × Int × Size × Size × Unit → Option ((Size × Size × Unit))) (h0 : ∀ v r, f0 v = some r → mn_42l8 v r) : CallerOk prog (x42 n_42l3 f0 (fun _ => none)).call := (by
    intro A fid args S dst k r h
    unfold x42 call42 at h
    simp only at h
    split at h
    ·exact callPure_ok ((fun v r x h hx => by cases h)) rfl rfl h
    ·cases h)
theorem sn_42 (f0 : (List Tag) × Int × Int × Size × Size × Unit → Option ((Size × Size × Unit))) (h0 : ∀ v r, f0 v = some r → mn_42l8 v r) (v : Tag × Unit) (r : Size × Unit) (h : exF (x42 n_42l3 f0 (fun _ => none)) sig42 rfl (bodyOf Tryz.f42) v = some r) : mn_42 v r := fun x hx => fn_ok (X := x42 n_42l3 f0 (fun _ => none)) (sig := sig42) rfl Tryz.func42 (c := bodyOf Tryz.f42) (by kernel_rfl) Tryz.ntmps42 (by kernel_rfl) (by kernel_rfl) rfl Ty.mixed (cn_42 f0 h0) rfl (fun C hP hN => (lok_all (X := x42 n_42l3 f0 (fun _ => none)) (c := (bodyOf Tryz.f42)) (kcast (by kernel_rfl : AllB (LoopsP C (x42 n_42l3 f0 (fun _ => none))) [(loopNo (bodyOf Tryz.f42) 0), (loopNo (bodyOf Tryz.f42) 1)] = AllB (LoopsP C (x42 n_42l3 f0 (fun _ => none))) (loopsIn (bodyOf Tryz.f42))) ⟨loop_at (X := x42 n_42l3 f0 (fun _ => none)) (b := (loopNo (bodyOf Tryz.f42) 0)) (by kernel_rfl) (show LoopOk C (loopNo (bodyOf Tryz.f42) 0) (sh := sh42) { cut := c42l3, alts := [.exit 0], F := n_42l3 } from fun v out h => n_42l3_pc v out h C hP hN), loop_at (X := x42 n_42l3 f0 (fun _ => none)) (b := (loopNo (bodyOf Tryz.f42) 1)) (by kernel_rfl) (show LoopOk C (loopNo (bodyOf Tryz.f42) 1) (sh := sh42) { cut := c42l8, alts := [.exit 2], F := f0 } from fun v out h => h0 v out h C hP hN), trivial⟩))) h x hx
theorem n_42l8_all : (∀ v r, n_42l8 v = some r → mn_42l8 v r) ∧ (∀ v r, n_42 v = some r → mn_42 v r) := by
 refine n_42l8.mutual_partial_correctness
  (motive_1 := mn_42l8)
  (motive_2 := mn_42)
  ?_ ?_
 ·exact (fun f0 f1 h0 h1 v r h => sn_42l8 f0 f1 h0 h1 v r (kcast (by kernel_rfl) h))
 ·exact (fun f0 h0 v r h => sn_42 f0 h0 v r (kcast (by kernel_rfl) h))
theorem n_42_ok : SigOk prog 42 sig42 n_42 := fun v r x h hx => n_42l8_all.2 v r h x hx
noncomputable def c76z : Cut SN := ⟨[(2, .dat .bool)], []⟩
noncomputable def sig76 : Sig vw := { params := [.dat .str], rcut := c76z, rvars := [.tmp 2] }
noncomputable def n_76 (v : ByteArray × Unit) : Option (Bool × Unit) :=
 if v.1.size ≤ 9223372036854775807 then some (Lib.validD v.1.data.toList, ()) else none
theorem n_76_ok : SigOk prog 76 sig76 n_76 := fun v r x h hx => by
 obtain ⟨s, u⟩ := v
 unfold n_76 at h
 split at h
 ·rename_i hc
  simp only at hc
  cases h; cases hx
  exact kcast (by kernel_rfl) (FnOk.pure (P := prog) (f := 76) (args := [.d (.v (.string s))]) (r := .d (.v (.bool (Lib.validD s.data.toList)))) (by kernel_rfl) fun E M w vs hg hm hv => by
   obtain ⟨v1, rfl, h1⟩ := hreps_one hv
   rw [h1.dv]
   exact (Tryz.utf8_ValidString s w hc (tabs_utf8 hg hm)).mono fun e w' ⟨he, hw⟩ => ⟨_, he, .d (.v _), hw⟩)
 ·cases h
noncomputable def sh75 : Shape vw := { rcut := c76z }
noncomputable def sig75 : Sig vw := { params := [.dat .str], rcut := c76z, rvars := [.tmp 2] }
noncomputable def n_75 (v : ByteArray × Unit) : Option (Bool × Unit) :=
 n_76 (v.1, ()) >>= fun x1 =>
 some ((!x1.1, ()))
noncomputable def call75 : Caller vw := fun A fid args S k => match fid with | 76 => callPure prog sig76 n_76 A args S k | _ => none
noncomputable def x75 : Xc vw := { P := prog, n := 6, call := call75, sh := sh75 }
theorem call75_ok : CallerOk prog call75 := fun A fid args S dst k r h => by
 unfold call75 at h
 split at h
 ·exact callPure_ok (n_76_ok) rfl rfl h
 ·cases h
theorem n_75_ok : SigOk prog 75 sig75 n_75 := fun v r x h hx =>
 fn_ok (X := x75) (sig := sig75) rfl Tryz.func75 (c := bodyOf Tryz.f75) (by kernel_rfl) Tryz.ntmps75 (by kernel_rfl) (by kernel_rfl) rfl Ty.mixed call75_ok rfl (fun C hP hN => (lok_all (kcast (by kernel_rfl) trivial))) (kcast (by kernel_rfl) h) x hx
noncomputable def c103c75l2 : Cut SN := ⟨[(0, .dat (.sl .str)), (1, .fn 75 [] []), (7, .dat (.int .i64)), (8, .dat (.int .i64))], []⟩
noncomputable def c103c75e0 : Cut SN := ⟨[], []⟩
noncomputable def c103c75z : Cut SN := ⟨[(4, .dat (.int .i64))], []⟩
noncomputable def sh103c75 : Shape vw := { exits := fun id => match id with | 0 => c103c75e0 | _ => ⟨[], []⟩, rcut := c103c75z }
noncomputable def sig103c75 : Sig vw := { params := [.dat (.sl .str), .fn 75 [] []], rcut := c103c75z, rvars := [.tmp 4] }
noncomputable def n_103c75l2 (v : (List ByteArray) × Int × Int × Unit) : Option (((Int × Unit) ⊕ (Unit))) :=
 if decide (v.2.2.1 < v.2.1) = true then
  if (0 : Int) ≤ v.2.2.1 then
   v.1[v.2.2.1.toNat]? >>= fun x1 =>
   n_75 (x1, ()) >>= fun x2 =>
   if x2.1 = true then
    some (Sum.inl (v.2.2.1, ()))
   else n_103c75l2 (v.1, v.2.1, i64.wrap (v.2.2.1 + (1 : Int)), ())
  else none
 else some (Sum.inr ())
 partial_fixpoint
noncomputable def n_103c75 (v : (List ByteArray) × Unit) : Option (Int × Unit) :=
 n_103c75l2 (v.1, (↑v.1.length : Int), (0 : Int), ()) >>= fun x1 => match x1 with
  | .inl y1 => some y1
  | .inr y1 => some (((-1 : Int), ()))
noncomputable def call103c75 : Caller vw := fun A fid args S k => match fid with | 75 => callPure prog sig75 n_75 A args S k | _ => none
noncomputable def x103c75 : Xc vw := { P := prog, n := 19, call := call103c75, sh := sh103c75, loops := fun k => match k with | 2 => some { cut := c103c75l2, alts := [.ret, .exit 0], F := n_103c75l2 } | _ => none }
theorem call103c75_ok : CallerOk prog call103c75 := fun A fid args S dst k r h => by
 unfold call103c75 at h
 split at h
 ·exact callPure_ok (n_75_ok) rfl rfl h
 ·cases h
theorem n_103c75l2_ok (C : Ctx) (hP : C.P = prog) (hN : C.N = 19) : LoopOk C (loopNo (bodyOf Tryz.f103) 0) (sh := sh103c75) { cut := c103c75l2, alts := [.ret, .exit 0], F := n_103c75l2 } :=
 n_103c75l2.partial_correctness (motive := fun v out => AWpL C (loopNo (bodyOf Tryz.f103) 0) (encS vw (conc vw c103c75l2 v)) (OutQ sh103c75 [.ret, .exit 0] out)) fun F ih v out h =>
  loop_step (X := x103c75) (b := (loopNo (bodyOf Tryz.f103) 0)) hP hN Ty.mixed call103c75_ok (lok_all (X := x103c75) (c := (loopNo (bodyOf Tryz.f103) 0)) (kcast (by kernel_rfl : True = AllB (LoopsP C (x103c75)) (loopsIn (loopNo (bodyOf Tryz.f103) 0))) trivial)) ih (kcast (by kernel_rfl) h)
theorem n_103c75_ok : SigOk prog 103 sig103c75 n_103c75 := fun v r x h hx =>
 fn_ok (X := x103c75) (sig := sig103c75) rfl Tryz.func103 (c := bodyOf Tryz.f103) (by kernel_rfl) Tryz.ntmps103 (by kernel_rfl) (by kernel_rfl) rfl Ty.mixed call103c75_ok rfl (fun C hP hN => (lok_all (kcast (by kernel_rfl : AllB (LoopsP C (x103c75)) [(loopNo (bodyOf Tryz.f103) 0)] = AllB (LoopsP C (x103c75)) (loopsIn (bodyOf Tryz.f103))) ⟨loop_at (X := x103c75) (b := (loopNo (bodyOf Tryz.f103) 0)) (by kernel_rfl) (n_103c75l2_ok C hP hN), trivial⟩))) (kcast (by kernel_rfl) h) x hx
noncomputable def c77c75z : Cut SN := ⟨[(4, .dat .bool)], []⟩
noncomputable def sh77c75 : Shape vw := { rcut := c77c75z }
noncomputable def sig77c75 : Sig vw := { params := [.dat (.sl .str), .fn 75 [] []], rcut := c77c75z, rvars := [.tmp 4] }
noncomputable def n_77c75 (v : (List ByteArray) × Unit) : Option (Bool × Unit) :=
 n_103c75 (v.1, ()) >>= fun x1 =>
 some ((decide (x1.1 ≥ (0 : Int)), ()))
noncomputable def call77c75 : Caller vw := fun A fid args S k => match fid with | 103 => callPure prog sig103c75 n_103c75 A args S k | _ => none
noncomputable def x77c75 : Xc vw := { P := prog, n := 9, call := call77c75, sh := sh77c75 }
theorem call77c75_ok : CallerOk prog call77c75 := fun A fid args S dst k r h => by
 unfold call77c75 at h
 split at h
 ·exact callPure_ok (n_103c75_ok) rfl rfl h
 ·cases h
theorem n_77c75_ok : SigOk prog 77 sig77c75 n_77c75 := fun v r x h hx =>
 fn_ok (X := x77c75) (sig := sig77c75) rfl Tryz.func77 (c := bodyOf Tryz.f77) (by kernel_rfl) Tryz.ntmps77 (by kernel_rfl) (by kernel_rfl) rfl Ty.mixed call77c75_ok rfl (fun C hP hN => (lok_all (kcast (by kernel_rfl) trivial))) (kcast (by kernel_rfl) h) x hx
noncomputable def c104c79l2 : Cut SN := ⟨[(0, .dat (.sl (.st .tagT))), (1, .fn 79 [] []), (7, .dat (.int .i64)), (8, .dat (.int .i64))], []⟩
noncomputable def sh104c79 : Shape vw := { exits := fun id => match id with | 0 => c103c75e0 | _ => ⟨[], []⟩, rcut := c103c75z }
noncomputable def sig104c79 : Sig vw := { params := [.dat (.sl (.st .tagT)), .fn 79 [] []], rcut := c103c75z, rvars := [.tmp 4] }
noncomputable def c51r1 : Cut SN := ⟨[(1, .bp 1 0), (52, .dat .bool)], [(1, .st .tagT)]⟩
noncomputable def c51r3 : Cut SN := ⟨[(1, .bp 1 0), (75, .dat .bool)], [(1, .st .tagT)]⟩
noncomputable def sh51 : Shape vw := { rcut := c76z }
noncomputable def sig51 : Sig vw := { params := [.dat (.st .tagT)], rcut := c76z, rvars := [.tmp 2] }
noncomputable def sh78c79 : Shape vw := { rcut := c77c75z }
noncomputable def sig78c79 : Sig vw := { params := [.dat (.sl (.st .tagT)), .fn 79 [] []], rcut := c77c75z, rvars := [.tmp 4] }
noncomputable def sh79 : Shape vw := { rcut := c76z }
noncomputable def sig79 : Sig vw := { params := [.dat (.st .tagT)], rcut := c76z, rvars := [.tmp 2] }
mutual
noncomputable def n_104c79l2 (v : (List Tag) × Int × Int × Unit) : Option (((Int × Unit) ⊕ (Unit))) :=
 if decide (v.2.2.1 < v.2.1) = true then
  if (0 : Int) ≤ v.2.2.1 then
   v.1[v.2.2.1.toNat]? >>= fun x1 =>
   n_79 (x1, ()) >>= fun x2 =>
   if x2.1 = true then
    some (Sum.inl (v.2.2.1, ()))
   else n_104c79l2 (v.1, v.2.1, i64.wrap (v.2.2.1 + (1 : Int)), ())
  else none
 else some (Sum.inr ())
 partial_fixpoint
noncomputable def n_79 (v : Tag × Unit) : Option (Bool × Unit) :=
 n_51 (v.1, ()) >>= fun x1 =>
 some ((!x1.1, ()))
 partial_fixpoint
noncomputable def n_51 (v : Tag × Unit) : Option (Bool × Unit) :=
 (if decide (v.1.kind < (0 : Int)) = true then
    some ((true, v.1, ()))
   else if decide (v.1.kind > (6 : Int)) = true then
    some ((true, v.1, ()))
   else if (v.1.kind != (3 : Int)) = true then
    if (v.1.n != (0 : Int)) = true then
     some ((true, v.1, ()))
    else if decide (v.1.n < (-9007199254740992 : Int)) = true then
     some ((true, v.1, ()))
    else if decide (v.1.n > (9007199254740992 : Int)) = true then
     some ((true, v.1, ()))
    else if (v.1.kind != (4 : Int)) = true then
     if (!v.1.text.toList == (ByteArray.mk #[]).toList) = true then
      some ((true, v.1, ()))
     else if decide (v.1.kind < (5 : Int)) = true then
      some ((decide ((↑v.1.parts.length : Int) > (0 : Int)), v.1, ()))
     else some ((false, v.1, ()))
    else if decide (v.1.kind < (5 : Int)) = true then
     some ((decide ((↑v.1.parts.length : Int) > (0 : Int)), v.1, ()))
    else some ((false, v.1, ()))
   else if decide (v.1.n < (-9007199254740992 : Int)) = true then
    some ((true, v.1, ()))
   else if decide (v.1.n > (9007199254740992 : Int)) = true then
    some ((true, v.1, ()))
   else if (v.1.kind != (4 : Int)) = true then
    if (!v.1.text.toList == (ByteArray.mk #[]).toList) = true then
     some ((true, v.1, ()))
    else if decide (v.1.kind < (5 : Int)) = true then
     some ((decide ((↑v.1.parts.length : Int) > (0 : Int)), v.1, ()))
    else some ((false, v.1, ()))
   else if decide (v.1.kind < (5 : Int)) = true then
    some ((decide ((↑v.1.parts.length : Int) > (0 : Int)), v.1, ()))
   else some ((false, v.1, ()))) >>= fun x1 =>
 if x1.1 = true then
  some ((false, ()))
 else (if (x1.2.1.kind == (6 : Int)) = true then
   if ((↑x1.2.1.names.length : Int) != (↑x1.2.1.parts.length : Int)) = true then
    some ((true, x1.2.1, ()))
   else if (x1.2.1.kind != (6 : Int)) = true then
    some ((decide ((↑x1.2.1.names.length : Int) > (0 : Int)), x1.2.1, ()))
   else some ((false, x1.2.1, ()))
  else if (x1.2.1.kind != (6 : Int)) = true then
   some ((decide ((↑x1.2.1.names.length : Int) > (0 : Int)), x1.2.1, ()))
  else some ((false, x1.2.1, ()))) >>= fun x2 =>
 if x2.1 = true then
  some ((false, ()))
 else (n_75 (x2.2.1.text, ()) >>= fun x3 =>
  if (!x3.1) = true then
   n_77c75 (x2.2.1.names, ()) >>= fun x4 =>
   if (!x4.1) = true then
    n_78c79 (x2.2.1.parts, ()) >>= fun x5 =>
    some ((!x5.1, ()))
   else some ((false, ()))
  else some ((false, ()))) >>= fun x3 =>
 some ((x3.1, ()))
 partial_fixpoint
noncomputable def n_78c79 (v : (List Tag) × Unit) : Option (Bool × Unit) :=
 n_104c79 (v.1, ()) >>= fun x1 =>
 some ((decide (x1.1 ≥ (0 : Int)), ()))
 partial_fixpoint
noncomputable def n_104c79 (v : (List Tag) × Unit) : Option (Int × Unit) :=
 n_104c79l2 (v.1, (↑v.1.length : Int), (0 : Int), ()) >>= fun x1 => match x1 with
  | .inl y1 => some y1
  | .inr y1 => some (((-1 : Int), ()))
 partial_fixpoint
end
noncomputable def call104c79 (n_104c79l2 : (List Tag) × Int × Int × Unit → Option (((Int × Unit) ⊕ (Unit)))) (n_79 : Tag × Unit → Option (Bool × Unit)) (n_51 : Tag × Unit → Option (Bool × Unit)) (n_78c79 : (List Tag) × Unit → Option (Bool × Unit)) (n_104c79 : (List Tag) × Unit → Option (Int × Unit)) : Caller vw := fun A fid args S k => match fid with | 79 => callPure prog sig79 n_79 A args S k | _ => none
noncomputable def x104c79 (n_104c79l2 : (List Tag) × Int × Int × Unit → Option (((Int × Unit) ⊕ (Unit)))) (n_79 : Tag × Unit → Option (Bool × Unit)) (n_51 : Tag × Unit → Option (Bool × Unit)) (n_78c79 : (List Tag) × Unit → Option (Bool × Unit)) (n_104c79 : (List Tag) × Unit → Option (Int × Unit)) : Xc vw := { P := prog, n := 19, call := call104c79 n_104c79l2 n_79 n_51 n_78c79 n_104c79, sh := sh104c79, loops := fun k => match k with | 2 => some { cut := c104c79l2, alts := [.ret, .exit 0], F := n_104c79l2 } | _ => none }
noncomputable def call51 (n_104c79l2 : (List Tag) × Int × Int × Unit → Option (((Int × Unit) ⊕ (Unit)))) (n_79 : Tag × Unit → Option (Bool × Unit)) (n_51 : Tag × Unit → Option (Bool × Unit)) (n_78c79 : (List Tag) × Unit → Option (Bool × Unit)) (n_104c79 : (List Tag) × Unit → Option (Int × Unit)) : Caller vw := fun A fid args S k => match fid with | 75 => callPure prog sig75 n_75 A args S k | 77 => callPure prog sig77c75 n_77c75 A args S k | 78 => callPure prog sig78c79 n_78c79 A args S k | _ => none
noncomputable def x51 (n_104c79l2 : (List Tag) × Int × Int × Unit → Option (((Int × Unit) ⊕ (Unit)))) (n_79 : Tag × Unit → Option (Bool × Unit)) (n_51 : Tag × Unit → Option (Bool × Unit)) (n_78c79 : (List Tag) × Unit → Option (Bool × Unit)) (n_104c79 : (List Tag) × Unit → Option (Int × Unit)) : Xc vw := { P := prog, n := 94, call := call51 n_104c79l2 n_79 n_51 n_78c79 n_104c79, sh := sh51, regs := fun k => match k with | 1 => some c51r1 | 3 => some c51r3 | 6 => some c76z | _ => none }
noncomputable def call78c79 (n_104c79l2 : (List Tag) × Int × Int × Unit → Option (((Int × Unit) ⊕ (Unit)))) (n_79 : Tag × Unit → Option (Bool × Unit)) (n_51 : Tag × Unit → Option (Bool × Unit)) (n_78c79 : (List Tag) × Unit → Option (Bool × Unit)) (n_104c79 : (List Tag) × Unit → Option (Int × Unit)) : Caller vw := fun A fid args S k => match fid with | 104 => callPure prog sig104c79 n_104c79 A args S k | _ => none
noncomputable def x78c79 (n_104c79l2 : (List Tag) × Int × Int × Unit → Option (((Int × Unit) ⊕ (Unit)))) (n_79 : Tag × Unit → Option (Bool × Unit)) (n_51 : Tag × Unit → Option (Bool × Unit)) (n_78c79 : (List Tag) × Unit → Option (Bool × Unit)) (n_104c79 : (List Tag) × Unit → Option (Int × Unit)) : Xc vw := { P := prog, n := 9, call := call78c79 n_104c79l2 n_79 n_51 n_78c79 n_104c79, sh := sh78c79 }
noncomputable def call79 (n_104c79l2 : (List Tag) × Int × Int × Unit → Option (((Int × Unit) ⊕ (Unit)))) (n_79 : Tag × Unit → Option (Bool × Unit)) (n_51 : Tag × Unit → Option (Bool × Unit)) (n_78c79 : (List Tag) × Unit → Option (Bool × Unit)) (n_104c79 : (List Tag) × Unit → Option (Int × Unit)) : Caller vw := fun A fid args S k => match fid with | 51 => callPure prog sig51 n_51 A args S k | _ => none
noncomputable def x79 (n_104c79l2 : (List Tag) × Int × Int × Unit → Option (((Int × Unit) ⊕ (Unit)))) (n_79 : Tag × Unit → Option (Bool × Unit)) (n_51 : Tag × Unit → Option (Bool × Unit)) (n_78c79 : (List Tag) × Unit → Option (Bool × Unit)) (n_104c79 : (List Tag) × Unit → Option (Int × Unit)) : Xc vw := { P := prog, n := 6, call := call79 n_104c79l2 n_79 n_51 n_78c79 n_104c79, sh := sh79 }
abbrev mn_104c79l2 (v : (List Tag) × Int × Int × Unit) (r : ((Int × Unit) ⊕ (Unit))) : Prop := (fun v out => ∀ C : Ctx, C.P = prog → C.N = 19 → AWpL C (loopNo (bodyOf Tryz.f104) 0) (encS vw (conc vw c104c79l2 v)) (OutQ sh104c79 [.ret, .exit 0] out)) v r
abbrev mn_79 (v : Tag × Unit) (r : Bool × Unit) : Prop := (fun v r => ∀ x, resV prog sig79 r = some x → FnOk prog 79 (encL vw (startS sig79 v).len (startOs sig79 v).1) (encOs (startS sig79 v).len (startS sig79 v).own) (encV vw (conc vw sig79.rcut r).len x) (encOs (conc vw sig79.rcut r).len (kept sig79 r))) v r
abbrev mn_51 (v : Tag × Unit) (r : Bool × Unit) : Prop := (fun v r => ∀ x, resV prog sig51 r = some x → FnOk prog 51 (encL vw (startS sig51 v).len (startOs sig51 v).1) (encOs (startS sig51 v).len (startS sig51 v).own) (encV vw (conc vw sig51.rcut r).len x) (encOs (conc vw sig51.rcut r).len (kept sig51 r))) v r
abbrev mn_78c79 (v : (List Tag) × Unit) (r : Bool × Unit) : Prop := (fun v r => ∀ x, resV prog sig78c79 r = some x → FnOk prog 78 (encL vw (startS sig78c79 v).len (startOs sig78c79 v).1) (encOs (startS sig78c79 v).len (startS sig78c79 v).own) (encV vw (conc vw sig78c79.rcut r).len x) (encOs (conc vw sig78c79.rcut r).len (kept sig78c79 r))) v r
abbrev mn_104c79 (v : (List Tag) × Unit) (r : Int × Unit) : Prop := (fun v r => ∀ x, resV prog sig104c79 r = some x → FnOk prog 104 (encL vw (startS sig104c79 v).len (startOs sig104c79 v).1) (encOs (startS sig104c79 v).len (startS sig104c79 v).own) (encV vw (conc vw sig104c79.rcut r).len x) (encOs (conc vw sig104c79.rcut r).len (kept sig104c79 r))) v r
theorem cn_104c79l2 (f0 : (List Tag) × Int × Int × Unit → Option (((Int × Unit) ⊕ (Unit)))) (f1 : Tag × Unit → Option (Bool × Unit)) (h0 : ∀ v r, f0 v = some r → mn_104c79l2 v r) (h1 : ∀ v r, f1 v = some r → mn_79 v r) : CallerOk prog (x104c79 f0 f1 (fun _ => none) (fun _ => none) (fun _ => none)).call := (by
    intro A fid args S dst k r h
    unfold x104c79 call104c79 at h
    simp only at h
    split at h
    ·exact callPure_ok ((fun v r x h hx => h1 v r h x hx)) rfl rfl h
    ·cases h)
theorem sn_104c79l2 (f0 : (List Tag) × Int × Int × Unit → Option (((Int × Unit) ⊕ (Unit)))) (f1 : Tag × Unit → Option (Bool × Unit)) (h0 : ∀ v r, f0 v = some r → mn_104c79l2 v r) (h1 : ∀ v r, f1 v = some r → mn_79 v r) (v : (List Tag) × Int × Int × Unit) (r : ((Int × Unit) ⊕ (Unit))) (h : exL (x104c79 f0 f1 (fun _ => none) (fun _ => none) (fun _ => none)) (loopNo (bodyOf Tryz.f104) 0) c104c79l2 [.ret, .exit 0] f0 v = some r) : mn_104c79l2 v r := fun C hP hN => loop_step (X := x104c79 f0 f1 (fun _ => none) (fun _ => none) (fun _ => none)) (b := (loopNo (bodyOf Tryz.f104) 0)) hP hN Ty.mixed (cn_104c79l2 f0 f1 h0 h1) (lok_all (X := x104c79 f0 f1 (fun _ => none) (fun _ => none) (fun _ => none)) (c := (loopNo (bodyOf Tryz.f104) 0)) (kcast (by kernel_rfl : True = AllB (LoopsP C (x104c79 f0 f1 (fun _ => none) (fun _ => none) (fun _ => none))) (loopsIn (loopNo (bodyOf Tryz.f104) 0))) trivial)) (cut := c104c79l2) (alts := [.ret, .exit 0]) (F := f0) (fun v out h => h0 v out h C hP hN) h
theorem cn_79 (f0 : Tag × Unit → Option (Bool × Unit)) (h0 : ∀ v r, f0 v = some r → mn_51 v r) : CallerOk prog (x79 (fun _ => none) (fun _ => none) f0 (fun _ => none) (fun _ => none)).call := (by
    intro A fid args S dst k r h
    unfold x79 call79 at h
    simp only at h
    split at h
    ·exact callPure_ok ((fun v r x h hx => h0 v r h x hx)) rfl rfl h
    ·cases h)
theorem sn_79 (f0 : Tag × Unit → Option (Bool × Unit)) (h0 : ∀ v r, f0 v = some r → mn_51 v r) (v : Tag × Unit) (r : Bool × Unit) (h : exF (x79 (fun _ => none) (fun _ => none) f0 (fun _ => none) (fun _ => none)) sig79 rfl (bodyOf Tryz.f79) v = some r) : mn_79 v r := fun x hx => fn_ok (X := x79 (fun _ => none) (fun _ => none) f0 (fun _ => none) (fun _ => none)) (sig := sig79) rfl Tryz.func79 (c := bodyOf Tryz.f79) (by kernel_rfl) Tryz.ntmps79 (by kernel_rfl) (by kernel_rfl) rfl Ty.mixed (cn_79 f0 h0) rfl (fun C hP hN => (lok_all (X := x79 (fun _ => none) (fun _ => none) f0 (fun _ => none) (fun _ => none)) (c := (bodyOf Tryz.f79)) (kcast (by kernel_rfl : True = AllB (LoopsP C (x79 (fun _ => none) (fun _ => none) f0 (fun _ => none) (fun _ => none))) (loopsIn (bodyOf Tryz.f79))) trivial))) h x hx
theorem cn_51 (f0 : (List Tag) × Unit → Option (Bool × Unit)) (h0 : ∀ v r, f0 v = some r → mn_78c79 v r) : CallerOk prog (x51 (fun _ => none) (fun _ => none) (fun _ => none) f0 (fun _ => none)).call := (by
    intro A fid args S dst k r h
    unfold x51 call51 at h
    simp only at h
    split at h
    ·exact callPure_ok (n_75_ok) rfl rfl h
    ·exact callPure_ok (n_77c75_ok) rfl rfl h
    ·exact callPure_ok ((fun v r x h hx => h0 v r h x hx)) rfl rfl h
    ·cases h)
theorem sn_51 (f0 : (List Tag) × Unit → Option (Bool × Unit)) (h0 : ∀ v r, f0 v = some r → mn_78c79 v r) (v : Tag × Unit) (r : Bool × Unit) (h : exF (x51 (fun _ => none) (fun _ => none) (fun _ => none) f0 (fun _ => none)) sig51 rfl (bodyOf Tryz.f51) v = some r) : mn_51 v r := fun x hx => fn_ok (X := x51 (fun _ => none) (fun _ => none) (fun _ => none) f0 (fun _ => none)) (sig := sig51) rfl Tryz.func51 (c := bodyOf Tryz.f51) (by kernel_rfl) Tryz.ntmps51 (by kernel_rfl) (by kernel_rfl) rfl Ty.mixed (cn_51 f0 h0) rfl (fun C hP hN => (lok_all (X := x51 (fun _ => none) (fun _ => none) (fun _ => none) f0 (fun _ => none)) (c := (bodyOf Tryz.f51)) (kcast (by kernel_rfl : True = AllB (LoopsP C (x51 (fun _ => none) (fun _ => none) (fun _ => none) f0 (fun _ => none))) (loopsIn (bodyOf Tryz.f51))) trivial))) h x hx
theorem cn_78c79 (f0 : (List Tag) × Unit → Option (Int × Unit)) (h0 : ∀ v r, f0 v = some r → mn_104c79 v r) : CallerOk prog (x78c79 (fun _ => none) (fun _ => none) (fun _ => none) (fun _ => none) f0).call := (by
    intro A fid args S dst k r h
    unfold x78c79 call78c79 at h
    simp only at h
    split at h
    ·exact callPure_ok ((fun v r x h hx => h0 v r h x hx)) rfl rfl h
    ·cases h)
theorem sn_78c79 (f0 : (List Tag) × Unit → Option (Int × Unit)) (h0 : ∀ v r, f0 v = some r → mn_104c79 v r) (v : (List Tag) × Unit) (r : Bool × Unit) (h : exF (x78c79 (fun _ => none) (fun _ => none) (fun _ => none) (fun _ => none) f0) sig78c79 rfl (bodyOf Tryz.f78) v = some r) : mn_78c79 v r := fun x hx => fn_ok (X := x78c79 (fun _ => none) (fun _ => none) (fun _ => none) (fun _ => none) f0) (sig := sig78c79) rfl Tryz.func78 (c := bodyOf Tryz.f78) (by kernel_rfl) Tryz.ntmps78 (by kernel_rfl) (by kernel_rfl) rfl Ty.mixed (cn_78c79 f0 h0) rfl (fun C hP hN => (lok_all (X := x78c79 (fun _ => none) (fun _ => none) (fun _ => none) (fun _ => none) f0) (c := (bodyOf Tryz.f78)) (kcast (by kernel_rfl : True = AllB (LoopsP C (x78c79 (fun _ => none) (fun _ => none) (fun _ => none) (fun _ => none) f0)) (loopsIn (bodyOf Tryz.f78))) trivial))) h x hx
theorem cn_104c79 (f0 : (List Tag) × Int × Int × Unit → Option (((Int × Unit) ⊕ (Unit)))) (h0 : ∀ v r, f0 v = some r → mn_104c79l2 v r) : CallerOk prog (x104c79 f0 (fun _ => none) (fun _ => none) (fun _ => none) (fun _ => none)).call := (by
    intro A fid args S dst k r h
    unfold x104c79 call104c79 at h
    simp only at h
    split at h
    ·exact callPure_ok ((fun v r x h hx => by cases h)) rfl rfl h
    ·cases h)
theorem sn_104c79 (f0 : (List Tag) × Int × Int × Unit → Option (((Int × Unit) ⊕ (Unit)))) (h0 : ∀ v r, f0 v = some r → mn_104c79l2 v r) (v : (List Tag) × Unit) (r : Int × Unit) (h : exF (x104c79 f0 (fun _ => none) (fun _ => none) (fun _ => none) (fun _ => none)) sig104c79 rfl (bodyOf Tryz.f104) v = some r) : mn_104c79 v r := fun x hx => fn_ok (X := x104c79 f0 (fun _ => none) (fun _ => none) (fun _ => none) (fun _ => none)) (sig := sig104c79) rfl Tryz.func104 (c := bodyOf Tryz.f104) (by kernel_rfl) Tryz.ntmps104 (by kernel_rfl) (by kernel_rfl) rfl Ty.mixed (cn_104c79 f0 h0) rfl (fun C hP hN => (lok_all (X := x104c79 f0 (fun _ => none) (fun _ => none) (fun _ => none) (fun _ => none)) (c := (bodyOf Tryz.f104)) (kcast (by kernel_rfl : AllB (LoopsP C (x104c79 f0 (fun _ => none) (fun _ => none) (fun _ => none) (fun _ => none))) [(loopNo (bodyOf Tryz.f104) 0)] = AllB (LoopsP C (x104c79 f0 (fun _ => none) (fun _ => none) (fun _ => none) (fun _ => none))) (loopsIn (bodyOf Tryz.f104))) ⟨loop_at (X := x104c79 f0 (fun _ => none) (fun _ => none) (fun _ => none) (fun _ => none)) (b := (loopNo (bodyOf Tryz.f104) 0)) (by kernel_rfl) (show LoopOk C (loopNo (bodyOf Tryz.f104) 0) (sh := sh104c79) { cut := c104c79l2, alts := [.ret, .exit 0], F := f0 } from fun v out h => h0 v out h C hP hN), trivial⟩))) h x hx
theorem n_104c79l2_all : (∀ v r, n_104c79l2 v = some r → mn_104c79l2 v r) ∧ (∀ v r, n_79 v = some r → mn_79 v r) ∧ (∀ v r, n_51 v = some r → mn_51 v r) ∧ (∀ v r, n_78c79 v = some r → mn_78c79 v r) ∧ (∀ v r, n_104c79 v = some r → mn_104c79 v r) := by
 refine n_104c79l2.mutual_partial_correctness
  (motive_1 := mn_104c79l2)
  (motive_2 := mn_79)
  (motive_3 := mn_51)
  (motive_4 := mn_78c79)
  (motive_5 := mn_104c79)
  ?_ ?_ ?_ ?_ ?_
 ·exact (fun f0 f1 h0 h1 v r h => sn_104c79l2 f0 f1 h0 h1 v r (kcast (by kernel_rfl) h))
 ·exact (fun f0 h0 v r h => sn_79 f0 h0 v r (kcast (by kernel_rfl) h))
 ·exact (fun f0 h0 v r h => sn_51 f0 h0 v r (kcast (by kernel_rfl) h))
 ·exact (fun f0 h0 v r h => sn_78c79 f0 h0 v r (kcast (by kernel_rfl) h))
 ·exact (fun f0 h0 v r h => sn_104c79 f0 h0 v r (kcast (by kernel_rfl) h))
theorem n_51_ok : SigOk prog 51 sig51 n_51 := fun v r x h hx => n_104c79l2_all.2.2.1 v r h x hx
noncomputable def c104c52l2 : Cut SN := ⟨[(0, .dat (.sl (.st .tagT))), (1, .fn 52 [] []), (7, .dat (.int .i64)), (8, .dat (.int .i64))], []⟩
noncomputable def sh104c52 : Shape vw := { exits := fun id => match id with | 0 => c103c75e0 | _ => ⟨[], []⟩, rcut := c103c75z }
noncomputable def sig104c52 : Sig vw := { params := [.dat (.sl (.st .tagT)), .fn 52 [] []], rcut := c103c75z, rvars := [.tmp 4] }
noncomputable def c52l3 : Cut SN := ⟨[(1, .bp 1 0), (3, .mp 6), (8, .dat (.sl .str)), (9, .dat (.int .i64)), (10, .dat (.int .i64))], [(1, .st .tagT), (6, .map .str .bool)]⟩
noncomputable def c52e0 : Cut SN := ⟨[(1, .bp 1 0)], [(1, .st .tagT)]⟩
noncomputable def sh52 : Shape vw := { exits := fun id => match id with | 0 => c52e0 | _ => ⟨[], []⟩, rcut := c76z }
noncomputable def sig52 : Sig vw := { params := [.dat (.st .tagT)], rcut := c76z, rvars := [.tmp 2] }
noncomputable def sh78c52 : Shape vw := { rcut := c77c75z }
noncomputable def sig78c52 : Sig vw := { params := [.dat (.sl (.st .tagT)), .fn 52 [] []], rcut := c77c75z, rvars := [.tmp 4] }
noncomputable def n_52l3 (v : (List ByteArray) × Int × Int × Tag × (List (ByteArray × Bool)) × Unit) : Option (((Bool × Unit) ⊕ (Tag × Unit))) :=
 if decide (v.2.2.1 < v.2.1) = true then
  if (0 : Int) ≤ v.2.2.1 then
   v.1[v.2.2.1.toNat]? >>= fun x1 =>
   if (Mp.get Mp.seq x1 v.2.2.2.2.1).getD false = true then
    some (Sum.inl (true, ()))
   else n_52l3 (v.1, v.2.1, i64.wrap (v.2.2.1 + (1 : Int)), v.2.2.2.1, Mp.set Mp.seq Mp.slt x1 true v.2.2.2.2.1, ())
  else none
 else some (Sum.inr (v.2.2.2.1, ()))
 partial_fixpoint
mutual
noncomputable def n_104c52l2 (v : (List Tag) × Int × Int × Unit) : Option (((Int × Unit) ⊕ (Unit))) :=
 if decide (v.2.2.1 < v.2.1) = true then
  if (0 : Int) ≤ v.2.2.1 then
   v.1[v.2.2.1.toNat]? >>= fun x1 =>
   n_52 (x1, ()) >>= fun x2 =>
   if x2.1 = true then
    some (Sum.inl (v.2.2.1, ()))
   else n_104c52l2 (v.1, v.2.1, i64.wrap (v.2.2.1 + (1 : Int)), ())
  else none
 else some (Sum.inr ())
 partial_fixpoint
noncomputable def n_52 (v : Tag × Unit) : Option (Bool × Unit) :=
 n_52l3 (v.1.names, (↑v.1.names.length : Int), (0 : Int), v.1, [], ()) >>= fun x1 => match x1 with
  | .inl y1 => some y1
  | .inr y1 => n_78c52 (y1.1.parts, ()) >>= fun x2 =>
   some ((x2.1, ()))
 partial_fixpoint
noncomputable def n_78c52 (v : (List Tag) × Unit) : Option (Bool × Unit) :=
 n_104c52 (v.1, ()) >>= fun x1 =>
 some ((decide (x1.1 ≥ (0 : Int)), ()))
 partial_fixpoint
noncomputable def n_104c52 (v : (List Tag) × Unit) : Option (Int × Unit) :=
 n_104c52l2 (v.1, (↑v.1.length : Int), (0 : Int), ()) >>= fun x1 => match x1 with
  | .inl y1 => some y1
  | .inr y1 => some (((-1 : Int), ()))
 partial_fixpoint
end
noncomputable def call104c52 (n_52l3 : (List ByteArray) × Int × Int × Tag × (List (ByteArray × Bool)) × Unit → Option (((Bool × Unit) ⊕ (Tag × Unit)))) (n_104c52l2 : (List Tag) × Int × Int × Unit → Option (((Int × Unit) ⊕ (Unit)))) (n_52 : Tag × Unit → Option (Bool × Unit)) (n_78c52 : (List Tag) × Unit → Option (Bool × Unit)) (n_104c52 : (List Tag) × Unit → Option (Int × Unit)) : Caller vw := fun A fid args S k => match fid with | 52 => callPure prog sig52 n_52 A args S k | _ => none
noncomputable def x104c52 (n_52l3 : (List ByteArray) × Int × Int × Tag × (List (ByteArray × Bool)) × Unit → Option (((Bool × Unit) ⊕ (Tag × Unit)))) (n_104c52l2 : (List Tag) × Int × Int × Unit → Option (((Int × Unit) ⊕ (Unit)))) (n_52 : Tag × Unit → Option (Bool × Unit)) (n_78c52 : (List Tag) × Unit → Option (Bool × Unit)) (n_104c52 : (List Tag) × Unit → Option (Int × Unit)) : Xc vw := { P := prog, n := 19, call := call104c52 n_52l3 n_104c52l2 n_52 n_78c52 n_104c52, sh := sh104c52, loops := fun k => match k with | 2 => some { cut := c104c52l2, alts := [.ret, .exit 0], F := n_104c52l2 } | _ => none }
noncomputable def call52 (n_52l3 : (List ByteArray) × Int × Int × Tag × (List (ByteArray × Bool)) × Unit → Option (((Bool × Unit) ⊕ (Tag × Unit)))) (n_104c52l2 : (List Tag) × Int × Int × Unit → Option (((Int × Unit) ⊕ (Unit)))) (n_52 : Tag × Unit → Option (Bool × Unit)) (n_78c52 : (List Tag) × Unit → Option (Bool × Unit)) (n_104c52 : (List Tag) × Unit → Option (Int × Unit)) : Caller vw := fun A fid args S k => match fid with | 78 => callPure prog sig78c52 n_78c52 A args S k | _ => none
noncomputable def x52 (n_52l3 : (List ByteArray) × Int × Int × Tag × (List (ByteArray × Bool)) × Unit → Option (((Bool × Unit) ⊕ (Tag × Unit)))) (n_104c52l2 : (List Tag) × Int × Int × Unit → Option (((Int × Unit) ⊕ (Unit)))) (n_52 : Tag × Unit → Option (Bool × Unit)) (n_78c52 : (List Tag) × Unit → Option (Bool × Unit)) (n_104c52 : (List Tag) × Unit → Option (Int × Unit)) : Xc vw := { P := prog, n := 23, call := call52 n_52l3 n_104c52l2 n_52 n_78c52 n_104c52, sh := sh52, loops := fun k => match k with | 3 => some { cut := c52l3, alts := [.ret, .exit 0], F := n_52l3 } | _ => none }
noncomputable def call78c52 (n_52l3 : (List ByteArray) × Int × Int × Tag × (List (ByteArray × Bool)) × Unit → Option (((Bool × Unit) ⊕ (Tag × Unit)))) (n_104c52l2 : (List Tag) × Int × Int × Unit → Option (((Int × Unit) ⊕ (Unit)))) (n_52 : Tag × Unit → Option (Bool × Unit)) (n_78c52 : (List Tag) × Unit → Option (Bool × Unit)) (n_104c52 : (List Tag) × Unit → Option (Int × Unit)) : Caller vw := fun A fid args S k => match fid with | 104 => callPure prog sig104c52 n_104c52 A args S k | _ => none
noncomputable def x78c52 (n_52l3 : (List ByteArray) × Int × Int × Tag × (List (ByteArray × Bool)) × Unit → Option (((Bool × Unit) ⊕ (Tag × Unit)))) (n_104c52l2 : (List Tag) × Int × Int × Unit → Option (((Int × Unit) ⊕ (Unit)))) (n_52 : Tag × Unit → Option (Bool × Unit)) (n_78c52 : (List Tag) × Unit → Option (Bool × Unit)) (n_104c52 : (List Tag) × Unit → Option (Int × Unit)) : Xc vw := { P := prog, n := 9, call := call78c52 n_52l3 n_104c52l2 n_52 n_78c52 n_104c52, sh := sh78c52 }
abbrev mn_52l3 (v : (List ByteArray) × Int × Int × Tag × (List (ByteArray × Bool)) × Unit) (r : ((Bool × Unit) ⊕ (Tag × Unit))) : Prop := (fun v out => ∀ C : Ctx, C.P = prog → C.N = 23 → AWpL C (loopNo (bodyOf Tryz.f52) 0) (encS vw (conc vw c52l3 v)) (OutQ sh52 [.ret, .exit 0] out)) v r
theorem cn_52l3 (f0 : (List ByteArray) × Int × Int × Tag × (List (ByteArray × Bool)) × Unit → Option (((Bool × Unit) ⊕ (Tag × Unit)))) (h0 : ∀ v r, f0 v = some r → mn_52l3 v r) : CallerOk prog (x52 f0 (fun _ => none) (fun _ => none) (fun _ => none) (fun _ => none)).call := (by
    intro A fid args S dst k r h
    unfold x52 call52 at h
    simp only at h
    split at h
    ·exact callPure_ok ((fun v r x h hx => by cases h)) rfl rfl h
    ·cases h)
theorem sn_52l3 (f0 : (List ByteArray) × Int × Int × Tag × (List (ByteArray × Bool)) × Unit → Option (((Bool × Unit) ⊕ (Tag × Unit)))) (h0 : ∀ v r, f0 v = some r → mn_52l3 v r) (v : (List ByteArray) × Int × Int × Tag × (List (ByteArray × Bool)) × Unit) (r : ((Bool × Unit) ⊕ (Tag × Unit))) (h : exL (x52 f0 (fun _ => none) (fun _ => none) (fun _ => none) (fun _ => none)) (loopNo (bodyOf Tryz.f52) 0) c52l3 [.ret, .exit 0] f0 v = some r) : mn_52l3 v r := fun C hP hN => loop_step (X := x52 f0 (fun _ => none) (fun _ => none) (fun _ => none) (fun _ => none)) (b := (loopNo (bodyOf Tryz.f52) 0)) hP hN Ty.mixed (cn_52l3 f0 h0) (lok_all (X := x52 f0 (fun _ => none) (fun _ => none) (fun _ => none) (fun _ => none)) (c := (loopNo (bodyOf Tryz.f52) 0)) (kcast (by kernel_rfl : True = AllB (LoopsP C (x52 f0 (fun _ => none) (fun _ => none) (fun _ => none) (fun _ => none))) (loopsIn (loopNo (bodyOf Tryz.f52) 0))) trivial)) (cut := c52l3) (alts := [.ret, .exit 0]) (F := f0) (fun v out h => h0 v out h C hP hN) h
theorem n_52l3_pc : ∀ v out, n_52l3 v = some out → (fun v out => ∀ C : Ctx, C.P = prog → C.N = 23 → AWpL C (loopNo (bodyOf Tryz.f52) 0) (encS vw (conc vw c52l3 v)) (OutQ sh52 [.ret, .exit 0] out)) v out := (n_52l3.partial_correctness (motive := mn_52l3) (fun f0 h0 v r h => sn_52l3 f0 h0 v r (kcast (by kernel_rfl) h)))
abbrev mn_104c52l2 (v : (List Tag) × Int × Int × Unit) (r : ((Int × Unit) ⊕ (Unit))) : Prop := (fun v out => ∀ C : Ctx, C.P = prog → C.N = 19 → AWpL C (loopNo (bodyOf Tryz.f104) 0) (encS vw (conc vw c104c52l2 v)) (OutQ sh104c52 [.ret, .exit 0] out)) v r
abbrev mn_52 (v : Tag × Unit) (r : Bool × Unit) : Prop := (fun v r => ∀ x, resV prog sig52 r = some x → FnOk prog 52 (encL vw (startS sig52 v).len (startOs sig52 v).1) (encOs (startS sig52 v).len (startS sig52 v).own) (encV vw (conc vw sig52.rcut r).len x) (encOs (conc vw sig52.rcut r).len (kept sig52 r))) v r
abbrev mn_78c52 (v : (List Tag) × Unit) (r : Bool × Unit) : Prop := (fun v r => ∀ x, resV prog sig78c52 r = some x → FnOk prog 78 (encL vw (startS sig78c52 v).len (startOs sig78c52 v).1) (encOs (startS sig78c52 v).len (startS sig78c52 v).own) (encV vw (conc vw sig78c52.rcut r).len x) (encOs (conc vw sig78c52.rcut r).len (kept sig78c52 r))) v r
abbrev mn_104c52 (v : (List Tag) × Unit) (r : Int × Unit) : Prop := (fun v r => ∀ x, resV prog sig104c52 r = some x → FnOk prog 104 (encL vw (startS sig104c52 v).len (startOs sig104c52 v).1) (encOs (startS sig104c52 v).len (startS sig104c52 v).own) (encV vw (conc vw sig104c52.rcut r).len x) (encOs (conc vw sig104c52.rcut r).len (kept sig104c52 r))) v r
theorem cn_104c52l2 (f0 : (List Tag) × Int × Int × Unit → Option (((Int × Unit) ⊕ (Unit)))) (f1 : Tag × Unit → Option (Bool × Unit)) (h0 : ∀ v r, f0 v = some r → mn_104c52l2 v r) (h1 : ∀ v r, f1 v = some r → mn_52 v r) : CallerOk prog (x104c52 (fun _ => none) f0 f1 (fun _ => none) (fun _ => none)).call := (by
    intro A fid args S dst k r h
    unfold x104c52 call104c52 at h
    simp only at h
    split at h
    ·exact callPure_ok ((fun v r x h hx => h1 v r h x hx)) rfl rfl h
    ·cases h)
theorem sn_104c52l2 (f0 : (List Tag) × Int × Int × Unit → Option (((Int × Unit) ⊕ (Unit)))) (f1 : Tag × Unit → Option (Bool × Unit)) (h0 : ∀ v r, f0 v = some r → mn_104c52l2 v r) (h1 : ∀ v r, f1 v = some r → mn_52 v r) (v : (List Tag) × Int × Int × Unit) (r : ((Int × Unit) ⊕ (Unit))) (h : exL (x104c52 (fun _ => none) f0 f1 (fun _ => none) (fun _ => none)) (loopNo (bodyOf Tryz.f104) 0) c104c52l2 [.ret, .exit 0] f0 v = some r) : mn_104c52l2 v r := fun C hP hN => loop_step (X := x104c52 (fun _ => none) f0 f1 (fun _ => none) (fun _ => none)) (b := (loopNo (bodyOf Tryz.f104) 0)) hP hN Ty.mixed (cn_104c52l2 f0 f1 h0 h1) (lok_all (X := x104c52 (fun _ => none) f0 f1 (fun _ => none) (fun _ => none)) (c := (loopNo (bodyOf Tryz.f104) 0)) (kcast (by kernel_rfl : True = AllB (LoopsP C (x104c52 (fun _ => none) f0 f1 (fun _ => none) (fun _ => none))) (loopsIn (loopNo (bodyOf Tryz.f104) 0))) trivial)) (cut := c104c52l2) (alts := [.ret, .exit 0]) (F := f0) (fun v out h => h0 v out h C hP hN) h
theorem cn_52 (f0 : (List Tag) × Unit → Option (Bool × Unit)) (h0 : ∀ v r, f0 v = some r → mn_78c52 v r) : CallerOk prog (x52 n_52l3 (fun _ => none) (fun _ => none) f0 (fun _ => none)).call := (by
    intro A fid args S dst k r h
    unfold x52 call52 at h
    simp only at h
    split at h
    ·exact callPure_ok ((fun v r x h hx => h0 v r h x hx)) rfl rfl h
    ·cases h)
theorem sn_52 (f0 : (List Tag) × Unit → Option (Bool × Unit)) (h0 : ∀ v r, f0 v = some r → mn_78c52 v r) (v : Tag × Unit) (r : Bool × Unit) (h : exF (x52 n_52l3 (fun _ => none) (fun _ => none) f0 (fun _ => none)) sig52 rfl (bodyOf Tryz.f52) v = some r) : mn_52 v r := fun x hx => fn_ok (X := x52 n_52l3 (fun _ => none) (fun _ => none) f0 (fun _ => none)) (sig := sig52) rfl Tryz.func52 (c := bodyOf Tryz.f52) (by kernel_rfl) Tryz.ntmps52 (by kernel_rfl) (by kernel_rfl) rfl Ty.mixed (cn_52 f0 h0) rfl (fun C hP hN => (lok_all (X := x52 n_52l3 (fun _ => none) (fun _ => none) f0 (fun _ => none)) (c := (bodyOf Tryz.f52)) (kcast (by kernel_rfl : AllB (LoopsP C (x52 n_52l3 (fun _ => none) (fun _ => none) f0 (fun _ => none))) [(loopNo (bodyOf Tryz.f52) 0)] = AllB (LoopsP C (x52 n_52l3 (fun _ => none) (fun _ => none) f0 (fun _ => none))) (loopsIn (bodyOf Tryz.f52))) ⟨loop_at (X := x52 n_52l3 (fun _ => none) (fun _ => none) f0 (fun _ => none)) (b := (loopNo (bodyOf Tryz.f52) 0)) (by kernel_rfl) (show LoopOk C (loopNo (bodyOf Tryz.f52) 0) (sh := sh52) { cut := c52l3, alts := [.ret, .exit 0], F := n_52l3 } from fun v out h => n_52l3_pc v out h C hP hN), trivial⟩))) h x hx
theorem cn_78c52 (f0 : (List Tag) × Unit → Option (Int × Unit)) (h0 : ∀ v r, f0 v = some r → mn_104c52 v r) : CallerOk prog (x78c52 (fun _ => none) (fun _ => none) (fun _ => none) (fun _ => none) f0).call := (by
    intro A fid args S dst k r h
    unfold x78c52 call78c52 at h
    simp only at h
    split at h
    ·exact callPure_ok ((fun v r x h hx => h0 v r h x hx)) rfl rfl h
    ·cases h)
theorem sn_78c52 (f0 : (List Tag) × Unit → Option (Int × Unit)) (h0 : ∀ v r, f0 v = some r → mn_104c52 v r) (v : (List Tag) × Unit) (r : Bool × Unit) (h : exF (x78c52 (fun _ => none) (fun _ => none) (fun _ => none) (fun _ => none) f0) sig78c52 rfl (bodyOf Tryz.f78) v = some r) : mn_78c52 v r := fun x hx => fn_ok (X := x78c52 (fun _ => none) (fun _ => none) (fun _ => none) (fun _ => none) f0) (sig := sig78c52) rfl Tryz.func78 (c := bodyOf Tryz.f78) (by kernel_rfl) Tryz.ntmps78 (by kernel_rfl) (by kernel_rfl) rfl Ty.mixed (cn_78c52 f0 h0) rfl (fun C hP hN => (lok_all (X := x78c52 (fun _ => none) (fun _ => none) (fun _ => none) (fun _ => none) f0) (c := (bodyOf Tryz.f78)) (kcast (by kernel_rfl : True = AllB (LoopsP C (x78c52 (fun _ => none) (fun _ => none) (fun _ => none) (fun _ => none) f0)) (loopsIn (bodyOf Tryz.f78))) trivial))) h x hx
theorem cn_104c52 (f0 : (List Tag) × Int × Int × Unit → Option (((Int × Unit) ⊕ (Unit)))) (h0 : ∀ v r, f0 v = some r → mn_104c52l2 v r) : CallerOk prog (x104c52 (fun _ => none) f0 (fun _ => none) (fun _ => none) (fun _ => none)).call := (by
    intro A fid args S dst k r h
    unfold x104c52 call104c52 at h
    simp only at h
    split at h
    ·exact callPure_ok ((fun v r x h hx => by cases h)) rfl rfl h
    ·cases h)
theorem sn_104c52 (f0 : (List Tag) × Int × Int × Unit → Option (((Int × Unit) ⊕ (Unit)))) (h0 : ∀ v r, f0 v = some r → mn_104c52l2 v r) (v : (List Tag) × Unit) (r : Int × Unit) (h : exF (x104c52 (fun _ => none) f0 (fun _ => none) (fun _ => none) (fun _ => none)) sig104c52 rfl (bodyOf Tryz.f104) v = some r) : mn_104c52 v r := fun x hx => fn_ok (X := x104c52 (fun _ => none) f0 (fun _ => none) (fun _ => none) (fun _ => none)) (sig := sig104c52) rfl Tryz.func104 (c := bodyOf Tryz.f104) (by kernel_rfl) Tryz.ntmps104 (by kernel_rfl) (by kernel_rfl) rfl Ty.mixed (cn_104c52 f0 h0) rfl (fun C hP hN => (lok_all (X := x104c52 (fun _ => none) f0 (fun _ => none) (fun _ => none) (fun _ => none)) (c := (bodyOf Tryz.f104)) (kcast (by kernel_rfl : AllB (LoopsP C (x104c52 (fun _ => none) f0 (fun _ => none) (fun _ => none) (fun _ => none))) [(loopNo (bodyOf Tryz.f104) 0)] = AllB (LoopsP C (x104c52 (fun _ => none) f0 (fun _ => none) (fun _ => none) (fun _ => none))) (loopsIn (bodyOf Tryz.f104))) ⟨loop_at (X := x104c52 (fun _ => none) f0 (fun _ => none) (fun _ => none) (fun _ => none)) (b := (loopNo (bodyOf Tryz.f104) 0)) (by kernel_rfl) (show LoopOk C (loopNo (bodyOf Tryz.f104) 0) (sh := sh104c52) { cut := c104c52l2, alts := [.ret, .exit 0], F := f0 } from fun v out h => h0 v out h C hP hN), trivial⟩))) h x hx
theorem n_104c52l2_all : (∀ v r, n_104c52l2 v = some r → mn_104c52l2 v r) ∧ (∀ v r, n_52 v = some r → mn_52 v r) ∧ (∀ v r, n_78c52 v = some r → mn_78c52 v r) ∧ (∀ v r, n_104c52 v = some r → mn_104c52 v r) := by
 refine n_104c52l2.mutual_partial_correctness
  (motive_1 := mn_104c52l2)
  (motive_2 := mn_52)
  (motive_3 := mn_78c52)
  (motive_4 := mn_104c52)
  ?_ ?_ ?_ ?_
 ·exact (fun f0 f1 h0 h1 v r h => sn_104c52l2 f0 f1 h0 h1 v r (kcast (by kernel_rfl) h))
 ·exact (fun f0 h0 v r h => sn_52 f0 h0 v r (kcast (by kernel_rfl) h))
 ·exact (fun f0 h0 v r h => sn_78c52 f0 h0 v r (kcast (by kernel_rfl) h))
 ·exact (fun f0 h0 v r h => sn_104c52 f0 h0 v r (kcast (by kernel_rfl) h))
theorem n_52_ok : SigOk prog 52 sig52 n_52 := fun v r x h hx => n_104c52l2_all.2.1 v r h x hx
noncomputable def c29r2 : Cut SN := ⟨[(1, .bp 1 0), (6, .dat .bool)], [(1, .st .tagT)]⟩
noncomputable def c29z : Cut SN := ⟨[(2, .dat (.int .i64))], []⟩
noncomputable def sh29 : Shape vw := { rcut := c29z }
noncomputable def sig29 : Sig vw := { params := [.dat (.st .tagT)], rcut := c29z, rvars := [.tmp 2] }
noncomputable def n_29 (v : Tag × Unit) : Option (Int × Unit) :=
 n_42 (v.1, ()) >>= fun x1 =>
 (if decide (x1.1.depth > (20 : Int)) = true then
    some ((true, v.1, ()))
   else if decide (x1.1.pieces > (500 : Int)) = true then
    some ((true, v.1, ()))
   else some ((decide (x1.1.bytes > (4096 : Int)), v.1, ()))) >>= fun x2 =>
 if x2.1 = true then
  some (((3 : Int), ()))
 else n_51 (x2.2.1, ()) >>= fun x3 =>
 if (!x3.1) = true then
  some (((1 : Int), ()))
 else n_52 (x2.2.1, ()) >>= fun x4 =>
 if x4.1 = true then
  some (((5 : Int), ()))
 else some (((0 : Int), ()))
noncomputable def call29 : Caller vw := fun A fid args S k => match fid with | 42 => callPure prog sig42 n_42 A args S k | 51 => callPure prog sig51 n_51 A args S k | 52 => callPure prog sig52 n_52 A args S k | _ => none
noncomputable def x29 : Xc vw := { P := prog, n := 27, call := call29, sh := sh29, regs := fun k => match k with | 2 => some c29r2 | _ => none }
theorem call29_ok : CallerOk prog call29 := fun A fid args S dst k r h => by
 unfold call29 at h
 split at h
 ·exact callPure_ok (n_42_ok) rfl rfl h
 ·exact callPure_ok (n_51_ok) rfl rfl h
 ·exact callPure_ok (n_52_ok) rfl rfl h
 ·cases h
theorem n_29_ok : SigOk prog 29 sig29 n_29 := fun v r x h hx =>
 fn_ok (X := x29) (sig := sig29) rfl Tryz.func29 (c := bodyOf Tryz.f29) (by kernel_rfl) Tryz.ntmps29 (by kernel_rfl) (by kernel_rfl) rfl Ty.mixed call29_ok rfl (fun C hP hN => (lok_all (kcast (by kernel_rfl) trivial))) (kcast (by kernel_rfl) h) x hx
noncomputable def c58l2 : Cut SN := ⟨[(0, .dat (.sl .str)), (1, .dat .str), (7, .dat (.int .i64)), (8, .dat (.int .i64))], []⟩
noncomputable def sh58 : Shape vw := { exits := fun id => match id with | 0 => c103c75e0 | _ => ⟨[], []⟩, rcut := c103c75z }
noncomputable def sig58 : Sig vw := { params := [.dat (.sl .str), .dat .str], rcut := c103c75z, rvars := [.tmp 4] }
noncomputable def n_58l2 (v : (List ByteArray) × ByteArray × Int × Int × Unit) : Option (((Int × Unit) ⊕ (Unit))) :=
 if decide (v.2.2.2.1 < v.2.2.1) = true then
  if (0 : Int) ≤ v.2.2.2.1 then
   v.1[v.2.2.2.1.toNat]? >>= fun x1 =>
   if (v.2.1.toList == x1.toList) = true then
    some (Sum.inl (v.2.2.2.1, ()))
   else n_58l2 (v.1, v.2.1, v.2.2.1, i64.wrap (v.2.2.2.1 + (1 : Int)), ())
  else none
 else some (Sum.inr ())
 partial_fixpoint
noncomputable def n_58 (v : (List ByteArray) × ByteArray × Unit) : Option (Int × Unit) :=
 n_58l2 (v.1, v.2.1, (↑v.1.length : Int), (0 : Int), ()) >>= fun x1 => match x1 with
  | .inl y1 => some y1
  | .inr y1 => some (((-1 : Int), ()))
noncomputable def call58 : Caller vw := fun _ _ _ _ _ => none
noncomputable def x58 : Xc vw := { P := prog, n := 19, call := call58, sh := sh58, loops := fun k => match k with | 2 => some { cut := c58l2, alts := [.ret, .exit 0], F := n_58l2 } | _ => none }
theorem call58_ok : CallerOk prog call58 := call_none
theorem n_58l2_ok (C : Ctx) (hP : C.P = prog) (hN : C.N = 19) : LoopOk C (loopNo (bodyOf Tryz.f58) 0) (sh := sh58) { cut := c58l2, alts := [.ret, .exit 0], F := n_58l2 } :=
 n_58l2.partial_correctness (motive := fun v out => AWpL C (loopNo (bodyOf Tryz.f58) 0) (encS vw (conc vw c58l2 v)) (OutQ sh58 [.ret, .exit 0] out)) fun F ih v out h =>
  loop_step (X := x58) (b := (loopNo (bodyOf Tryz.f58) 0)) hP hN Ty.mixed call58_ok (lok_all (X := x58) (c := (loopNo (bodyOf Tryz.f58) 0)) (kcast (by kernel_rfl : True = AllB (LoopsP C (x58)) (loopsIn (loopNo (bodyOf Tryz.f58) 0))) trivial)) ih (kcast (by kernel_rfl) h)
theorem n_58_ok : SigOk prog 58 sig58 n_58 := fun v r x h hx =>
 fn_ok (X := x58) (sig := sig58) rfl Tryz.func58 (c := bodyOf Tryz.f58) (by kernel_rfl) Tryz.ntmps58 (by kernel_rfl) (by kernel_rfl) rfl Ty.mixed call58_ok rfl (fun C hP hN => (lok_all (kcast (by kernel_rfl : AllB (LoopsP C (x58)) [(loopNo (bodyOf Tryz.f58) 0)] = AllB (LoopsP C (x58)) (loopsIn (bodyOf Tryz.f58))) ⟨loop_at (X := x58) (b := (loopNo (bodyOf Tryz.f58) 0)) (by kernel_rfl) (n_58l2_ok C hP hN), trivial⟩))) (kcast (by kernel_rfl) h) x hx
noncomputable def c59z : Cut SN := ⟨[(2, .dat (.int .i64)), (3, .dat .er)], []⟩
noncomputable def sig59 : Sig vw := { params := [.dat .str], rcut := c59z, rvars := [.tmp 2, .tmp 3] }
noncomputable def n_59 (v : ByteArray × Unit) : Option (Int × Bool × Unit) :=
 if v.1.size ≤ 1000000000000 then (match Lib.atoiAll v.1.data.toList with | .ok n => some (n, false, ()) | .range => some (Lib.atoiSat v.1.data.toList, true, ()) | _ => some (0, true, ())) else none
theorem n_59_ok : SigOk prog 59 sig59 n_59 := fun v r x h hx => by
 obtain ⟨s, u⟩ := v
 unfold n_59 at h
 split at h
 ·rename_i hc
  simp only at hc h
  cases hq : Lib.atoiAll s.data.toList with
  | ok n =>
   simp only [hq] at h
   cases h; cases hx
   exact kcast (by kernel_rfl) (FnOk.pure (P := prog) (f := 59) (args := [.d (.v (.string s))]) (r := .tup [.d (.v (.int .i64 n)), .d (.er false)]) (by kernel_rfl) fun E M w vs hg hm hv => by
    obtain ⟨v1, rfl, h1⟩ := hreps_one hv
    rw [h1.dv]
    exact (Tryz.strconv_Atoi_ok s (by omega) n hq w).mono fun e w' ⟨he, hw⟩ => ⟨_, he, hrep_er .ern, below_bytes hw⟩)
  | range =>
   simp only [hq] at h
   cases h; cases hx
   exact kcast (by kernel_rfl) (FnOk.pure (P := prog) (f := 59) (args := [.d (.v (.string s))]) (r := .tup [.d (.v (.int .i64 (Lib.atoiSat s.data.toList))), .d (.er true)]) (by kernel_rfl) fun E M w vs hg hm hv => by
    obtain ⟨v1, rfl, h1⟩ := hreps_one hv
    rw [h1.dv]
    obtain ⟨te, pe, hev⟩ := gm_range hg hm
    exact (Tryz.strconv_Atoi_range s (by omega) hq _ w hev (.inr ⟨te, pe, rfl⟩)).mono fun e w' ⟨N, he, _, _, hw⟩ => ⟨_, he, hrep_er (.ere _ _), hw⟩)
  | _ =>
   simp only [hq] at h
   cases h; cases hx
   exact kcast (by kernel_rfl) (FnOk.pure (P := prog) (f := 59) (args := [.d (.v (.string s))]) (r := .tup [.d (.v (.int .i64 0)), .d (.er true)]) (by kernel_rfl) fun E M w vs hg hm hv => by
    obtain ⟨v1, rfl, h1⟩ := hreps_one hv
    rw [h1.dv]
    obtain ⟨te, pe, hev⟩ := gm_syntax hg hm
    exact (Tryz.strconv_Atoi_syntax s (by omega) ⟨fun n hn => (by rw [hq] at hn; cases hn), fun hn => (by rw [hq] at hn; cases hn)⟩ _ w hev (.inr ⟨te, pe, rfl⟩)).mono fun e w' ⟨N, he, _, _, hw⟩ => ⟨_, he, hrep_er (.ere _ _), hw⟩)
 ·cases h
noncomputable def c60z : Cut SN := ⟨[(2, .dat .str)], []⟩
noncomputable def sig60 : Sig vw := { params := [.dat (.int .i64)], rcut := c60z, rvars := [.tmp 2] }
noncomputable def n_60 (v : Int × Unit) : Option (ByteArray × Unit) :=
 if -9223372036854775808 ≤ v.1 ∧ v.1 ≤ 9223372036854775807 then some (⟨(Lib.itoa v.1).toArray⟩, ()) else none
theorem n_60_ok : SigOk prog 60 sig60 n_60 := fun v r x h hx => by
 obtain ⟨n, u⟩ := v
 unfold n_60 at h
 split at h
 ·rename_i hc
  obtain ⟨h0, h1⟩ := hc
  simp only at h0 h1
  cases h; cases hx
  exact kcast (by kernel_rfl) (FnOk.pure (P := prog) (f := 60) (args := [.d (.v (.int .i64 n))]) (r := .d (.v (.string ⟨(Lib.itoa n).toArray⟩))) (by kernel_rfl) fun E M w vs hg hm hv => by
   obtain ⟨v1, rfl, h2⟩ := hreps_one hv
   rw [h2.dv]
   exact (Tryz.strconv_Itoa n h0 h1 w (tab_pow10 hg hm)).mono fun e w' ⟨he, k, os, hw⟩ => ⟨_, he, .d (.v _), hw ▸ Lib.below_grow _ w (Nat.le_refl _) k os⟩)
 ·cases h
noncomputable def c39r4 : Cut SN := ⟨[(5, .dat (.int .i64)), (42, .dat .bool)], []⟩
noncomputable def sh39 : Shape vw := { rcut := c103c75z }
noncomputable def sig39 : Sig vw := { params := [.dat (.st .tagT), .dat .str], rcut := c103c75z, rvars := [.tmp 4] }
noncomputable def n_39 (v : Tag × ByteArray × Unit) : Option (Int × Unit) :=
 if (v.1.kind == (6 : Int)) = true then
  n_58 (v.1.names, v.2.1, ()) >>= fun x1 =>
  some ((x1.1, ()))
 else n_59 (v.2.1, ()) >>= fun x1 =>
 (if (v.1.kind != (5 : Int)) = true then
    some ((x1.1, true, ()))
   else if x1.2.1 = true then
    some ((x1.1, true, ()))
   else if decide (x1.1 < (0 : Int)) = true then
    some ((x1.1, true, ()))
   else if decide (x1.1 > (↑v.1.parts.length : Int)) = true then
    some ((x1.1, true, ()))
   else n_60 (x1.1, ()) >>= fun x2 =>
   some ((x1.1, !x2.1.toList == v.2.1.toList, ()))) >>= fun x2 =>
 if x2.2.1 = true then
  some (((-1 : Int), ()))
 else some ((x2.1, ()))
noncomputable def call39 : Caller vw := fun A fid args S k => match fid with | 58 => callPure prog sig58 n_58 A args S k | 59 => callPure prog sig59 n_59 A args S k | 60 => callPure prog sig60 n_60 A args S k | _ => none
noncomputable def x39 : Xc vw := { P := prog, n := 44, call := call39, sh := sh39, regs := fun k => match k with | 4 => some c39r4 | _ => none }
theorem call39_ok : CallerOk prog call39 := fun A fid args S dst k r h => by
 unfold call39 at h
 split at h
 ·exact callPure_ok (n_58_ok) rfl rfl h
 ·exact callPure_ok (n_59_ok) rfl rfl h
 ·exact callPure_ok (n_60_ok) rfl rfl h
 ·cases h
theorem n_39_ok : SigOk prog 39 sig39 n_39 := fun v r x h hx =>
 fn_ok (X := x39) (sig := sig39) rfl Tryz.func39 (c := bodyOf Tryz.f39) (by kernel_rfl) Tryz.ntmps39 (by kernel_rfl) (by kernel_rfl) rfl Ty.mixed call39_ok rfl (fun C hP hN => (lok_all (kcast (by kernel_rfl) trivial))) (kcast (by kernel_rfl) h) x hx
noncomputable def c30se487j12 : Cut SN := ⟨[(3, .bp 3 0), (5, .bp 5 0), (6, .bp 6 0)], [(3, .box none [.dat (.int .i64), .dat (.int .i64), .dat .str, .vh 3033, .vh 3034]), (5, .box none [.dat (.int .i64), .dat (.int .i64), .dat .str, .vh 3053, .vh 3054]), (6, .st .tagT), (3033, .vec 9 .str), (3034, .dvec 25 (.st .tagT) false), (3053, .vec 9 .str), (3054, .dvec 25 (.st .tagT) false)]⟩
noncomputable def c30se487r4 : Cut SN := ⟨[(1, .dat (.sl .str)), (3, .bp 3 0), (5, .bp 5 0), (6, .bp 6 0), (8, .dat (.int .i64)), (28, .dat .bool)], [(3, .box none [.dat (.int .i64), .dat (.int .i64), .dat .str, .vh 3033, .vh 3034]), (5, .box none [.dat (.int .i64), .dat (.int .i64), .dat .str, .vh 3053, .vh 3054]), (6, .st .tagT), (3033, .vec 9 .str), (3034, .dvec 25 (.st .tagT) false), (3053, .vec 9 .str), (3054, .dvec 25 (.st .tagT) false)]⟩
noncomputable def c30se487r8 : Cut SN := ⟨[(1, .dat (.sl .str)), (3, .bp 3 0), (5, .bp 5 0), (6, .bp 6 0), (59, .dat .bool)], [(3, .box none [.dat (.int .i64), .dat (.int .i64), .dat .str, .vh 3033, .vh 3034]), (5, .box none [.dat (.int .i64), .dat (.int .i64), .dat .str, .vh 3053, .vh 3054]), (6, .st .tagT), (3033, .vec 9 .str), (3034, .dvec 25 (.st .tagT) false), (3053, .vec 9 .str), (3054, .dvec 25 (.st .tagT) false)]⟩
noncomputable def c30se487z : Cut SN := ⟨[(6, .bp 6 0), (7, .dat .bool)], [(6, .box none [.dat (.int .i64), .dat (.int .i64), .dat .str, .vh 6063, .vh 6064]), (6063, .vec 9 .str), (6064, .dvec 25 (.st .tagT) false)]⟩
noncomputable def sh30se487 : Shape vw := { rcut := c30se487z }
noncomputable def sig30se487 : Sig vw := { params := [.ag [.inl (.int .i64), .inl (.int .i64), .inl .str, .inr 100000, .inr 100001], .dat (.sl .str), .ag [.inl (.int .i64), .inl (.int .i64), .inl .str, .inr 100002, .inr 100003]], objs := [(100000, .vec 9 .str), (100001, .dvec 25 (.st .tagT) false), (100002, .vec 9 .str), (100003, .dvec 25 (.st .tagT) false)], rcut := c30se487z, rvars := [.cell 6 25, .tmp 7], keep := [6063, 6064] }
noncomputable def n_30se487 (v : Int × Int × ByteArray × (List ByteArray) × Int × Int × ByteArray × (List ByteArray) × (List Tag) × (List ByteArray) × (List Tag) × Unit) : Option (Bool × Int × Int × ByteArray × (List ByteArray) × (List Tag) × Unit) :=
 if ((↑v.2.2.2.1.length : Int) == (0 : Int)) = true then
  some ((true, v.2.2.2.2.1, v.2.2.2.2.2.1, v.2.2.2.2.2.2.1, v.2.2.2.2.2.2.2.2.2.1, v.2.2.2.2.2.2.2.2.2.2.1, ()))
 else v.2.2.2.1[Int.toNat (0 : Int)]? >>= fun x1 =>
 n_39 (Tag.mk v.1 v.2.1 v.2.2.1 v.2.2.2.2.2.2.2.1 v.2.2.2.2.2.2.2.2.1, x1, ()) >>= fun x2 =>
 (if decide (x2.1 ≥ (0 : Int)) = true then
    some ((v.2.2.2.1, x2.1, decide (x2.1 < (↑v.2.2.2.2.2.2.2.2.1.length : Int)), v.1, v.2.1, v.2.2.1, v.2.2.2.2.1, v.2.2.2.2.2.1, v.2.2.2.2.2.2.1, Tag.mk (0 : Int) (0 : Int) (ByteArray.mk #[]) [] [], v.2.2.2.2.2.2.2.1, v.2.2.2.2.2.2.2.2.1, v.2.2.2.2.2.2.2.2.2.1, v.2.2.2.2.2.2.2.2.2.2.1, ()))
   else some ((v.2.2.2.1, x2.1, false, v.1, v.2.1, v.2.2.1, v.2.2.2.2.1, v.2.2.2.2.2.1, v.2.2.2.2.2.2.1, Tag.mk (0 : Int) (0 : Int) (ByteArray.mk #[]) [] [], v.2.2.2.2.2.2.2.1, v.2.2.2.2.2.2.2.2.1, v.2.2.2.2.2.2.2.2.2.1, v.2.2.2.2.2.2.2.2.2.2.1, ()))) >>= fun x3 =>
 if x3.2.2.1 = true then
  if (0 : Int) ≤ x3.2.1 ∧ x3.2.1 < (↑x3.2.2.2.2.2.2.2.2.2.2.2.1.length : Int) then
   x3.2.2.2.2.2.2.2.2.2.2.2.1[x3.2.1.toNat]? >>= fun x4 =>
   if (0 : Int) ≤ (1 : Int) ∧ (1 : Int) ≤ (↑x3.1.length : Int) ∧ (↑x3.1.length : Int) ≤ (↑x3.1.length : Int) then
    n_30se487 (x4.kind, x4.n, x4.text, List.drop (Int.toNat (1 : Int)) (List.take (↑x3.1.length : Int).toNat x3.1), x3.2.2.2.2.2.2.1, x3.2.2.2.2.2.2.2.1, x3.2.2.2.2.2.2.2.2.1, x4.names, x4.parts, x3.2.2.2.2.2.2.2.2.2.2.2.2.1, x3.2.2.2.2.2.2.2.2.2.2.2.2.2.1, ()) >>= fun x5 =>
    if (0 : Int) ≤ x3.2.1 ∧ x3.2.1 < (↑((List.map some x3.2.2.2.2.2.2.2.2.2.2.2.1).set x3.2.1.toNat none).length : Int) then
     ((List.map some x3.2.2.2.2.2.2.2.2.2.2.2.1).set x3.2.1.toNat none)[x3.2.1.toNat]? >>= fun x6 =>
     allS (((List.map some x3.2.2.2.2.2.2.2.2.2.2.2.1).set x3.2.1.toNat none).set x3.2.1.toNat (some (Tag.mk x5.2.1 x5.2.2.1 x5.2.2.2.1 x5.2.2.2.2.1 x5.2.2.2.2.2.1))) >>= fun x7 =>
     some ((x5.1, x3.2.2.2.1, x3.2.2.2.2.1, x3.2.2.2.2.2.1, x3.2.2.2.2.2.2.2.2.2.2.1, x7, ()))
    else none
   else none
  else none
 else (if decide ((↑x3.1.length : Int) > (1 : Int)) = true then
   some ((x3.1, true, x3.2.2.2.1, x3.2.2.2.2.1, x3.2.2.2.2.2.1, x3.2.2.2.2.2.2.1, x3.2.2.2.2.2.2.2.1, x3.2.2.2.2.2.2.2.2.1, x3.2.2.2.2.2.2.2.2.2.1, x3.2.2.2.2.2.2.2.2.2.2.1, x3.2.2.2.2.2.2.2.2.2.2.2.1, x3.2.2.2.2.2.2.2.2.2.2.2.2.1, x3.2.2.2.2.2.2.2.2.2.2.2.2.2.1, ()))
  else if decide (x3.2.1 < (0 : Int)) = true then
   some ((x3.1, x3.2.2.2.1 != (6 : Int), x3.2.2.2.1, x3.2.2.2.2.1, x3.2.2.2.2.2.1, x3.2.2.2.2.2.2.1, x3.2.2.2.2.2.2.2.1, x3.2.2.2.2.2.2.2.2.1, x3.2.2.2.2.2.2.2.2.2.1, x3.2.2.2.2.2.2.2.2.2.2.1, x3.2.2.2.2.2.2.2.2.2.2.2.1, x3.2.2.2.2.2.2.2.2.2.2.2.2.1, x3.2.2.2.2.2.2.2.2.2.2.2.2.2.1, ()))
  else some ((x3.1, false, x3.2.2.2.1, x3.2.2.2.2.1, x3.2.2.2.2.2.1, x3.2.2.2.2.2.2.1, x3.2.2.2.2.2.2.2.1, x3.2.2.2.2.2.2.2.2.1, x3.2.2.2.2.2.2.2.2.2.1, x3.2.2.2.2.2.2.2.2.2.2.1, x3.2.2.2.2.2.2.2.2.2.2.2.1, x3.2.2.2.2.2.2.2.2.2.2.2.2.1, x3.2.2.2.2.2.2.2.2.2.2.2.2.2.1, ()))) >>= fun x4 =>
 if x4.2.1 = true then
  some ((false, x4.2.2.1, x4.2.2.2.1, x4.2.2.2.2.1, x4.2.2.2.2.2.2.2.2.2.1, x4.2.2.2.2.2.2.2.2.2.2.1, ()))
 else (if (x4.2.2.1 == (6 : Int)) = true then
   x4.1[Int.toNat (0 : Int)]? >>= fun x5 =>
   if x4.2.2.2.2.2.2.2.2.2.1.length + [x5].length ≤ (4294967296 : Nat) then
    some ((x4.2.2.1, x4.2.2.2.1, x4.2.2.2.2.1, x4.2.2.2.2.2.1, x4.2.2.2.2.2.2.1, x4.2.2.2.2.2.2.2.1, x4.2.2.2.2.2.2.2.2.1, x4.2.2.2.2.2.2.2.2.2.1 ++ [x5], x4.2.2.2.2.2.2.2.2.2.2.1, x4.2.2.2.2.2.2.2.2.2.2.2.1, x4.2.2.2.2.2.2.2.2.2.2.2.2.1, ()))
   else none
  else some ((x4.2.2.1, x4.2.2.2.1, x4.2.2.2.2.1, x4.2.2.2.2.2.1, x4.2.2.2.2.2.2.1, x4.2.2.2.2.2.2.2.1, x4.2.2.2.2.2.2.2.2.1, x4.2.2.2.2.2.2.2.2.2.1, x4.2.2.2.2.2.2.2.2.2.2.1, x4.2.2.2.2.2.2.2.2.2.2.2.1, x4.2.2.2.2.2.2.2.2.2.2.2.2.1, ()))) >>= fun x5 =>
 if x5.2.2.2.2.2.2.2.2.1.length + [Tag.mk x5.2.2.2.1 x5.2.2.2.2.1 x5.2.2.2.2.2.1 x5.2.2.2.2.2.2.2.2.2.1 x5.2.2.2.2.2.2.2.2.2.2.1].length ≤ (4294967296 : Nat) then
  some ((true, x5.1, x5.2.1, x5.2.2.1, x5.2.2.2.2.2.2.2.1, x5.2.2.2.2.2.2.2.2.1 ++ [Tag.mk x5.2.2.2.1 x5.2.2.2.2.1 x5.2.2.2.2.2.1 x5.2.2.2.2.2.2.2.2.2.1 x5.2.2.2.2.2.2.2.2.2.2.1], ()))
 else none
 partial_fixpoint
noncomputable def call30se487 (n_30se487 : Int × Int × ByteArray × (List ByteArray) × Int × Int × ByteArray × (List ByteArray) × (List Tag) × (List ByteArray) × (List Tag) × Unit → Option (Bool × Int × Int × ByteArray × (List ByteArray) × (List Tag) × Unit)) : Caller vw := fun A fid args S k => match fid with | 30 => callObj prog sig30se487 n_30se487 A args S k | 39 => callPure prog sig39 n_39 A args S k | _ => none
noncomputable def x30se487 (n_30se487 : Int × Int × ByteArray × (List ByteArray) × Int × Int × ByteArray × (List ByteArray) × (List Tag) × (List ByteArray) × (List Tag) × Unit → Option (Bool × Int × Int × ByteArray × (List ByteArray) × (List Tag) × Unit)) : Xc vw := { P := prog, n := 79, call := call30se487 n_30se487, pre := fun k => match k with | 1000075 => true | 2000030 => true | _ => false, sh := sh30se487, joins := fun k => match k with | 12 => some (c30se487j12, [.norm]) | _ => none, regs := fun k => match k with | 4 => some c30se487r4 | 8 => some c30se487r8 | _ => none }
abbrev mn_30se487 (v : Int × Int × ByteArray × (List ByteArray) × Int × Int × ByteArray × (List ByteArray) × (List Tag) × (List ByteArray) × (List Tag) × Unit) (r : Bool × Int × Int × ByteArray × (List ByteArray) × (List Tag) × Unit) : Prop := (fun v r => ∀ x, resV prog sig30se487 r = some x → FnOk prog 30 (encL vw (startS sig30se487 v).len (startOs sig30se487 v).1) (encOs (startS sig30se487 v).len (startS sig30se487 v).own) (encV vw (conc vw sig30se487.rcut r).len x) (encOs (conc vw sig30se487.rcut r).len (kept sig30se487 r))) v r
theorem cn_30se487 (f0 : Int × Int × ByteArray × (List ByteArray) × Int × Int × ByteArray × (List ByteArray) × (List Tag) × (List ByteArray) × (List Tag) × Unit → Option (Bool × Int × Int × ByteArray × (List ByteArray) × (List Tag) × Unit)) (h0 : ∀ v r, f0 v = some r → mn_30se487 v r) : CallerOk prog (x30se487 f0).call := (by
    intro A fid args S dst k r h
    unfold x30se487 call30se487 at h
    simp only at h
    split at h
    ·exact callObj_ok ((fun v r x h hx => h0 v r h x hx)) h
    ·exact callPure_ok (n_39_ok) rfl rfl h
    ·cases h)
theorem sn_30se487 (f0 : Int × Int × ByteArray × (List ByteArray) × Int × Int × ByteArray × (List ByteArray) × (List Tag) × (List ByteArray) × (List Tag) × Unit → Option (Bool × Int × Int × ByteArray × (List ByteArray) × (List Tag) × Unit)) (h0 : ∀ v r, f0 v = some r → mn_30se487 v r) (v : Int × Int × ByteArray × (List ByteArray) × Int × Int × ByteArray × (List ByteArray) × (List Tag) × (List ByteArray) × (List Tag) × Unit) (r : Bool × Int × Int × ByteArray × (List ByteArray) × (List Tag) × Unit) (h : exF (x30se487 f0) sig30se487 rfl (bodyOf Tryz.f30) v = some r) : mn_30se487 v r := fun x hx => fn_ok (X := x30se487 f0) (sig := sig30se487) rfl Tryz.func30 (c := bodyOf Tryz.f30) (by kernel_rfl) Tryz.ntmps30 (by kernel_rfl) (by kernel_rfl) rfl Ty.mixed (cn_30se487 f0 h0) rfl (fun C hP hN => (lok_all (X := x30se487 f0) (c := (bodyOf Tryz.f30)) (kcast (by kernel_rfl : True = AllB (LoopsP C (x30se487 f0)) (loopsIn (bodyOf Tryz.f30))) trivial))) h x hx
theorem n_30se487_ok : SigOk prog 30 sig30se487 n_30se487 := fun v r x h hx => (n_30se487.partial_correctness (motive := mn_30se487) (fun f0 h0 v r h => sn_30se487 f0 h0 v r (kcast (by kernel_rfl) h))) v r h x hx
noncomputable def c53s5172z : Cut SN := ⟨[(2, .vh 2002)], [(2002, .vec 9 .str)]⟩
noncomputable def sh53s5172 : Shape vw := { rcut := c53s5172z }
noncomputable def sig53s5172 : Sig vw := { params := [.dat (.sl .str)], rcut := c53s5172z, rvars := [.tmp 2], keep := [2002] }
noncomputable def n_53s5172 (v : (List ByteArray) × Unit) : Option ((List ByteArray) × Unit) :=
 if v.1.length ≤ 4294967296 then some (v.1, ()) else none
noncomputable def call53s5172 : Caller vw := fun _ _ _ _ _ => none
noncomputable def x53s5172 : Xc vw := { P := prog, n := 8, nm := fun d => match d with | 5 => 40005 | _ => d, call := call53s5172, sh := sh53s5172 }
theorem call53s5172_ok : CallerOk prog call53s5172 := call_none
theorem n_53s5172_ok : SigOk prog 53 sig53s5172 n_53s5172 := fun v r x h hx => by
 unfold n_53s5172 at h
 split at h
 ·rename_i hlen
  cases h; cases hx
  refine kcast (by kernel_rfl) (fn_split (P := prog) (f := 53) (sz := 1) (rows := (v.1.map fun y => Go.Tx.encR szN encN .str y)) (r := .vh 2002 v.1.length) (own' := [(2002, .vec 9 1 (v.1.map fun y => Go.Tx.encR szN encN .str y))]) (fun hne => ?_) (fun he => ?_) (fun he a cap => ?_))
  ·obtain ⟨l, u⟩ := v
   cases l with
   | nil => simp at hne
   | cons y ys =>
    have e : exF x53s5172 sig53s5172 rfl (bodyOf Tryz.f53) (y :: ys, ()) = if ([] : (List ByteArray)).length + (y :: ys).length ≤ most then some ([] ++ (y :: ys), ()) else none := by kernel_rfl
    rw [if_pos (by simp only [List.length_nil, Nat.zero_add]; exact hlen)] at e
    exact kcast (by kernel_rfl) (fn_ok (X := x53s5172) (sig := sig53s5172) rfl Tryz.func53 (c := bodyOf Tryz.f53) (by kernel_rfl) Tryz.ntmps53 (by kernel_rfl) (by kernel_rfl) rfl Ty.mixed call53s5172_ok rfl (fun C hP hN => (lok_all (kcast (by kernel_rfl) trivial))) (v := (y :: ys, ())) e (.vh 2002) rfl)
  ·have hv : v.1 = [] := by simpa using he
   obtain ⟨l, u⟩ := v
   cases hv
   exact kcast (by kernel_rfl) (fn_okS (X := x53s5172) (sig := sig53s5172) rfl Tryz.func53 (c := bodyOf Tryz.f53) (by kernel_rfl) Tryz.ntmps53 (by kernel_rfl) (by kernel_rfl) Ty.mixed call53s5172_ok rfl (fun C hP hN => (lok_all (kcast (by kernel_rfl) trivial))) (xs := [.raw (.slice none 0 0)]) (by kernel_rfl) (r := ([], ())) (by kernel_rfl) (.vh 2002) rfl)
  ·have hv : v.1 = [] := by simpa using he
   obtain ⟨l, u⟩ := v
   cases hv
   exact kcast (by kernel_rfl) (fn_okS (X := x53s5172) (sig := sig53s5172) rfl Tryz.func53 (c := bodyOf Tryz.f53) (by kernel_rfl) Tryz.ntmps53 (by kernel_rfl) (by kernel_rfl) Ty.mixed call53s5172_ok rfl (fun C hP hN => (lok_all (kcast (by kernel_rfl) trivial))) (xs := [.raw (.slice (some a) 0 cap)]) (by kernel_rfl) (r := ([], ())) (by kernel_rfl) (.vh 2002) rfl)
 ·cases h
noncomputable def c31s06c9l4 : Cut SN := ⟨[(1, .bp 1 0), (2, .bp 2 0), (3, .vh 1003), (11, .dat (.sl (.st .tagT))), (12, .dat (.int .i64)), (13, .dat (.int .i64))], [(1, .box none [.dat (.int .i64), .dat (.int .i64), .dat .str, .vh 3013, .dat (.sl (.st .tagT))]), (2, .st .tagT), (1003, .dvec 25 (.st .tagT) false), (3013, .vec 9 .str)]⟩
noncomputable def c31s06c9e0 : Cut SN := ⟨[(1, .bp 1 0), (2, .bp 2 0), (3, .vh 1003)], [(1, .box none [.dat (.int .i64), .dat (.int .i64), .dat .str, .vh 3013, .dat (.sl (.st .tagT))]), (2, .st .tagT), (1003, .dvec 25 (.st .tagT) false), (3013, .vec 9 .str)]⟩
noncomputable def c31s06c9z : Cut SN := ⟨[(2, .bp 2 0)], [(2, .box none [.dat (.int .i64), .dat (.int .i64), .dat .str, .vh 6023, .vh 6024]), (6023, .vec 9 .str), (6024, .dvec 25 (.st .tagT) false)]⟩
noncomputable def sh31s06c9 : Shape vw := { exits := fun id => match id with | 0 => c31s06c9e0 | _ => ⟨[], []⟩, rcut := c31s06c9z }
noncomputable def sig31s06c9 : Sig vw := { params := [.dat (.st .tagT)], rcut := c31s06c9z, rvars := [.cell 2 25], keep := [6023, 6024] }
mutual
noncomputable def n_31s06c9l4 (v : (List Tag) × Int × Int × Int × Int × ByteArray × (List Tag) × Tag × (List Tag) × (List ByteArray) × Unit) : Option ((Int × Int × ByteArray × (List Tag) × Tag × (List Tag) × (List ByteArray) × Unit)) :=
 if decide (v.2.2.1 < v.2.1) = true then
  if (0 : Int) ≤ v.2.2.1 then
   v.1[v.2.2.1.toNat]? >>= fun x1 =>
   n_31s06c9 (x1, ()) >>= fun x2 =>
   if v.2.2.2.2.2.2.2.2.1.length + [Tag.mk x2.1 x2.2.1 x2.2.2.1 x2.2.2.2.1 x2.2.2.2.2.1].length ≤ (4294967296 : Nat) then
    n_31s06c9l4 (v.1, v.2.1, i64.wrap (v.2.2.1 + (1 : Int)), v.2.2.2.1, v.2.2.2.2.1, v.2.2.2.2.2.1, v.2.2.2.2.2.2.1, v.2.2.2.2.2.2.2.1, v.2.2.2.2.2.2.2.2.1 ++ [Tag.mk x2.1 x2.2.1 x2.2.2.1 x2.2.2.2.1 x2.2.2.2.2.1], v.2.2.2.2.2.2.2.2.2.1, ())
   else none
  else none
 else some ((v.2.2.2.1, v.2.2.2.2.1, v.2.2.2.2.2.1, v.2.2.2.2.2.2.1, v.2.2.2.2.2.2.2.1, v.2.2.2.2.2.2.2.2.1, v.2.2.2.2.2.2.2.2.2.1, ()))
 partial_fixpoint
noncomputable def n_31s06c9 (v : Tag × Unit) : Option (Int × Int × ByteArray × (List ByteArray) × (List Tag) × Unit) :=
 n_53s5172 (v.1.names, ()) >>= fun x1 =>
 n_31s06c9l4 (v.1.parts, (↑v.1.parts.length : Int), (0 : Int), v.1.kind, v.1.n, v.1.text, v.1.parts, Tag.mk (0 : Int) (0 : Int) (ByteArray.mk #[]) [] [], [], x1.1, ()) >>= fun x2 =>
 some ((x2.1, x2.2.1, x2.2.2.1, x2.2.2.2.2.2.2.1, x2.2.2.2.2.2.1, ()))
 partial_fixpoint
end
noncomputable def call31s06c9 (n_31s06c9l4 : (List Tag) × Int × Int × Int × Int × ByteArray × (List Tag) × Tag × (List Tag) × (List ByteArray) × Unit → Option ((Int × Int × ByteArray × (List Tag) × Tag × (List Tag) × (List ByteArray) × Unit))) (n_31s06c9 : Tag × Unit → Option (Int × Int × ByteArray × (List ByteArray) × (List Tag) × Unit)) : Caller vw := fun A fid args S k => match fid with | 31 => callObj prog sig31s06c9 n_31s06c9 A args S k | 53 => callObj prog sig53s5172 n_53s5172 A args S k | _ => none
noncomputable def x31s06c9 (n_31s06c9l4 : (List Tag) × Int × Int × Int × Int × ByteArray × (List Tag) × Tag × (List Tag) × (List ByteArray) × Unit → Option ((Int × Int × ByteArray × (List Tag) × Tag × (List Tag) × (List ByteArray) × Unit))) (n_31s06c9 : Tag × Unit → Option (Int × Int × ByteArray × (List ByteArray) × (List Tag) × Unit)) : Xc vw := { P := prog, n := 26, call := call31s06c9 n_31s06c9l4 n_31s06c9, pre := fun k => match k with | 1000020 => true | _ => false, sh := sh31s06c9, loops := fun k => match k with | 4 => some { cut := c31s06c9l4, alts := [.exit 0], F := n_31s06c9l4 } | _ => none }
abbrev mn_31s06c9l4 (v : (List Tag) × Int × Int × Int × Int × ByteArray × (List Tag) × Tag × (List Tag) × (List ByteArray) × Unit) (r : (Int × Int × ByteArray × (List Tag) × Tag × (List Tag) × (List ByteArray) × Unit)) : Prop := (fun v out => ∀ C : Ctx, C.P = prog → C.N = 26 → AWpL C (loopNo (bodyOf Tryz.f31) 0) (encS vw (conc vw c31s06c9l4 v)) (OutQ sh31s06c9 [.exit 0] out)) v r
abbrev mn_31s06c9 (v : Tag × Unit) (r : Int × Int × ByteArray × (List ByteArray) × (List Tag) × Unit) : Prop := (fun v r => ∀ x, resV prog sig31s06c9 r = some x → FnOk prog 31 (encL vw (startS sig31s06c9 v).len (startOs sig31s06c9 v).1) (encOs (startS sig31s06c9 v).len (startS sig31s06c9 v).own) (encV vw (conc vw sig31s06c9.rcut r).len x) (encOs (conc vw sig31s06c9.rcut r).len (kept sig31s06c9 r))) v r
theorem cn_31s06c9l4 (f0 : (List Tag) × Int × Int × Int × Int × ByteArray × (List Tag) × Tag × (List Tag) × (List ByteArray) × Unit → Option ((Int × Int × ByteArray × (List Tag) × Tag × (List Tag) × (List ByteArray) × Unit))) (f1 : Tag × Unit → Option (Int × Int × ByteArray × (List ByteArray) × (List Tag) × Unit)) (h0 : ∀ v r, f0 v = some r → mn_31s06c9l4 v r) (h1 : ∀ v r, f1 v = some r → mn_31s06c9 v r) : CallerOk prog (x31s06c9 f0 f1).call := (by
    intro A fid args S dst k r h
    unfold x31s06c9 call31s06c9 at h
    simp only at h
    split at h
    ·exact callObj_ok ((fun v r x h hx => h1 v r h x hx)) h
    ·exact callObj_ok (n_53s5172_ok) h
    ·cases h)
theorem sn_31s06c9l4 (f0 : (List Tag) × Int × Int × Int × Int × ByteArray × (List Tag) × Tag × (List Tag) × (List ByteArray) × Unit → Option ((Int × Int × ByteArray × (List Tag) × Tag × (List Tag) × (List ByteArray) × Unit))) (f1 : Tag × Unit → Option (Int × Int × ByteArray × (List ByteArray) × (List Tag) × Unit)) (h0 : ∀ v r, f0 v = some r → mn_31s06c9l4 v r) (h1 : ∀ v r, f1 v = some r → mn_31s06c9 v r) (v : (List Tag) × Int × Int × Int × Int × ByteArray × (List Tag) × Tag × (List Tag) × (List ByteArray) × Unit) (r : (Int × Int × ByteArray × (List Tag) × Tag × (List Tag) × (List ByteArray) × Unit)) (h : exL (x31s06c9 f0 f1) (loopNo (bodyOf Tryz.f31) 0) c31s06c9l4 [.exit 0] f0 v = some r) : mn_31s06c9l4 v r := fun C hP hN => loop_step (X := x31s06c9 f0 f1) (b := (loopNo (bodyOf Tryz.f31) 0)) hP hN Ty.mixed (cn_31s06c9l4 f0 f1 h0 h1) (lok_all (X := x31s06c9 f0 f1) (c := (loopNo (bodyOf Tryz.f31) 0)) (kcast (by kernel_rfl : True = AllB (LoopsP C (x31s06c9 f0 f1)) (loopsIn (loopNo (bodyOf Tryz.f31) 0))) trivial)) (cut := c31s06c9l4) (alts := [.exit 0]) (F := f0) (fun v out h => h0 v out h C hP hN) h
theorem cn_31s06c9 (f0 : (List Tag) × Int × Int × Int × Int × ByteArray × (List Tag) × Tag × (List Tag) × (List ByteArray) × Unit → Option ((Int × Int × ByteArray × (List Tag) × Tag × (List Tag) × (List ByteArray) × Unit))) (h0 : ∀ v r, f0 v = some r → mn_31s06c9l4 v r) : CallerOk prog (x31s06c9 f0 (fun _ => none)).call := (by
    intro A fid args S dst k r h
    unfold x31s06c9 call31s06c9 at h
    simp only at h
    split at h
    ·exact callObj_ok ((fun v r x h hx => by cases h)) h
    ·exact callObj_ok (n_53s5172_ok) h
    ·cases h)
theorem sn_31s06c9 (f0 : (List Tag) × Int × Int × Int × Int × ByteArray × (List Tag) × Tag × (List Tag) × (List ByteArray) × Unit → Option ((Int × Int × ByteArray × (List Tag) × Tag × (List Tag) × (List ByteArray) × Unit))) (h0 : ∀ v r, f0 v = some r → mn_31s06c9l4 v r) (v : Tag × Unit) (r : Int × Int × ByteArray × (List ByteArray) × (List Tag) × Unit) (h : exF (x31s06c9 f0 (fun _ => none)) sig31s06c9 rfl (bodyOf Tryz.f31) v = some r) : mn_31s06c9 v r := fun x hx => fn_ok (X := x31s06c9 f0 (fun _ => none)) (sig := sig31s06c9) rfl Tryz.func31 (c := bodyOf Tryz.f31) (by kernel_rfl) Tryz.ntmps31 (by kernel_rfl) (by kernel_rfl) rfl Ty.mixed (cn_31s06c9 f0 h0) rfl (fun C hP hN => (lok_all (X := x31s06c9 f0 (fun _ => none)) (c := (bodyOf Tryz.f31)) (kcast (by kernel_rfl : AllB (LoopsP C (x31s06c9 f0 (fun _ => none))) [(loopNo (bodyOf Tryz.f31) 0)] = AllB (LoopsP C (x31s06c9 f0 (fun _ => none))) (loopsIn (bodyOf Tryz.f31))) ⟨loop_at (X := x31s06c9 f0 (fun _ => none)) (b := (loopNo (bodyOf Tryz.f31) 0)) (by kernel_rfl) (show LoopOk C (loopNo (bodyOf Tryz.f31) 0) (sh := sh31s06c9) { cut := c31s06c9l4, alts := [.exit 0], F := f0 } from fun v out h => h0 v out h C hP hN), trivial⟩))) h x hx
theorem n_31s06c9l4_all : (∀ v r, n_31s06c9l4 v = some r → mn_31s06c9l4 v r) ∧ (∀ v r, n_31s06c9 v = some r → mn_31s06c9 v r) := by
 refine n_31s06c9l4.mutual_partial_correctness
  (motive_1 := mn_31s06c9l4)
  (motive_2 := mn_31s06c9)
  ?_ ?_
 ·exact (fun f0 f1 h0 h1 v r h => sn_31s06c9l4 f0 f1 h0 h1 v r (kcast (by kernel_rfl) h))
 ·exact (fun f0 h0 v r h => sn_31s06c9 f0 h0 v r (kcast (by kernel_rfl) h))
theorem n_31s06c9_ok : SigOk prog 31 sig31s06c9 n_31s06c9 := fun v r x h hx => n_31s06c9l4_all.2 v r h x hx
noncomputable def c32z : Cut SN := ⟨[(2, .bp 2 0), (3, .dat (.int .i64))], [(2, .st .tagT)]⟩
noncomputable def sh32 : Shape vw := { rcut := c32z }
noncomputable def sig32 : Sig vw := { params := [.dat (.st .tagT)], rcut := c32z, rvars := [.cell 2 25, .tmp 3] }
noncomputable def n_32 (v : Tag × Unit) : Option (Int × Tag × Unit) :=
 n_29 (v.1, ()) >>= fun x1 =>
 if (x1.1 != (0 : Int)) = true then
  some ((x1.1, Tag.mk (0 : Int) (0 : Int) (ByteArray.mk #[]) [] [], ()))
 else some (((0 : Int), v.1, ()))
noncomputable def call32 : Caller vw := fun A fid args S k => match fid with | 29 => callPure prog sig29 n_29 A args S k | _ => none
noncomputable def x32 : Xc vw := { P := prog, n := 12, call := call32, sh := sh32 }
theorem call32_ok : CallerOk prog call32 := fun A fid args S dst k r h => by
 unfold call32 at h
 split at h
 ·exact callPure_ok (n_29_ok) rfl rfl h
 ·cases h
theorem n_32_ok : SigOk prog 32 sig32 n_32 := fun v r x h hx =>
 fn_ok (X := x32) (sig := sig32) rfl Tryz.func32 (c := bodyOf Tryz.f32) (by kernel_rfl) Tryz.ntmps32 (by kernel_rfl) (by kernel_rfl) rfl Ty.mixed call32_ok rfl (fun C hP hN => (lok_all (kcast (by kernel_rfl) trivial))) (kcast (by kernel_rfl) h) x hx
noncomputable def c10l2 : Cut SN := ⟨[(1, .dat (.sl .str)), (3, .bp 3 0), (5, .bp 5 0), (6, .bp 6 0), (15, .dat (.sl (.st .tagT))), (16, .dat (.int .i64)), (17, .dat (.int .i64))], [(3, .st .tagT), (5, .st .tagT), (6, .st .tagT)]⟩
noncomputable def c10e0 : Cut SN := ⟨[(1, .dat (.sl .str)), (3, .bp 3 0), (5, .bp 5 0), (6, .bp 6 0)], [(3, .st .tagT), (5, .st .tagT), (6, .st .tagT)]⟩
noncomputable def c10z : Cut SN := ⟨[(6, .bp 6 0), (7, .dat (.int .i64))], [(6, .st .tagT)]⟩
noncomputable def sh10 : Shape vw := { exits := fun id => match id with | 0 => c10e0 | _ => ⟨[], []⟩, rcut := c10z }
noncomputable def sig10 : Sig vw := { params := [.dat (.st .tagT), .dat (.sl .str), .dat (.st .tagT)], rcut := c10z, rvars := [.cell 6 25, .tmp 7] }
noncomputable def n_10l2 (v : (List ByteArray) × (List Tag) × Int × Int × Tag × Tag × Tag × Unit) : Option (((Int × Tag × Unit) ⊕ ((List ByteArray) × Tag × Tag × Tag × Unit))) :=
 if decide (v.2.2.2.1 < v.2.2.1) = true then
  if (0 : Int) ≤ v.2.2.2.1 then
   v.2.1[v.2.2.2.1.toNat]? >>= fun x1 =>
   n_29 (x1, ()) >>= fun x2 =>
   if (x2.1 != (0 : Int)) = true then
    some (Sum.inl (x2.1, Tag.mk (0 : Int) (0 : Int) (ByteArray.mk #[]) [] [], ()))
   else n_10l2 (v.1, v.2.1, v.2.2.1, i64.wrap (v.2.2.2.1 + (1 : Int)), v.2.2.2.2.1, v.2.2.2.2.2.1, v.2.2.2.2.2.2.1, ())
  else none
 else some (Sum.inr (v.1, v.2.2.2.2.1, v.2.2.2.2.2.1, v.2.2.2.2.2.2.1, ()))
 partial_fixpoint
noncomputable def n_10 (v : Tag × (List ByteArray) × Tag × Unit) : Option (Int × Tag × Unit) :=
 n_10l2 (v.2.1, [v.1, v.2.2.1], (↑[v.1, v.2.2.1].length : Int), (0 : Int), v.1, v.2.2.1, Tag.mk (0 : Int) (0 : Int) (ByteArray.mk #[]) [] [], ()) >>= fun x1 => match x1 with
  | .inl y1 => some y1
  | .inr y1 => n_31s06c9 (y1.2.1, ()) >>= fun x2 =>
   n_31s06c9 (y1.2.2.1, ()) >>= fun x3 =>
   n_30se487 (x2.1, x2.2.1, x2.2.2.1, y1.1, x3.1, x3.2.1, x3.2.2.1, x2.2.2.2.1, x2.2.2.2.2.1, x3.2.2.2.1, x3.2.2.2.2.1, ()) >>= fun x4 =>
   if (!x4.1) = true then
    some (((4 : Int), Tag.mk (0 : Int) (0 : Int) (ByteArray.mk #[]) [] [], ()))
   else n_32 (Tag.mk x4.2.1 x4.2.2.1 x4.2.2.2.1 x4.2.2.2.2.1 x4.2.2.2.2.2.1, ()) >>= fun x5 =>
   some ((x5.1, x5.2.1, ()))
noncomputable def call10 : Caller vw := fun A fid args S k => match fid with | 29 => callPure prog sig29 n_29 A args S k | 30 => callObj prog sig30se487 n_30se487 A args S k | 31 => callObj prog sig31s06c9 n_31s06c9 A args S k | 32 => callPure prog sig32 n_32 A args S k | _ => none
noncomputable def x10 : Xc vw := { P := prog, n := 44, call := call10, pre := fun k => match k with | 32 => true | 2000030 => true | _ => false, sh := sh10, loops := fun k => match k with | 2 => some { cut := c10l2, alts := [.ret, .exit 0], F := n_10l2 } | _ => none }
theorem call10_ok : CallerOk prog call10 := fun A fid args S dst k r h => by
 unfold call10 at h
 split at h
 ·exact callPure_ok (n_29_ok) rfl rfl h
 ·exact callObj_ok (n_30se487_ok) h
 ·exact callObj_ok (n_31s06c9_ok) h
 ·exact callPure_ok (n_32_ok) rfl rfl h
 ·cases h
theorem n_10l2_ok (C : Ctx) (hP : C.P = prog) (hN : C.N = 44) : LoopOk C (loopNo (bodyOf Tryz.f10) 0) (sh := sh10) { cut := c10l2, alts := [.ret, .exit 0], F := n_10l2 } :=
 n_10l2.partial_correctness (motive := fun v out => AWpL C (loopNo (bodyOf Tryz.f10) 0) (encS vw (conc vw c10l2 v)) (OutQ sh10 [.ret, .exit 0] out)) fun F ih v out h =>
  loop_step (X := x10) (b := (loopNo (bodyOf Tryz.f10) 0)) hP hN Ty.mixed call10_ok (lok_all (X := x10) (c := (loopNo (bodyOf Tryz.f10) 0)) (kcast (by kernel_rfl : True = AllB (LoopsP C (x10)) (loopsIn (loopNo (bodyOf Tryz.f10) 0))) trivial)) ih (kcast (by kernel_rfl) h)
theorem n_10_ok : SigOk prog 10 sig10 n_10 := fun v r x h hx =>
 fn_ok (X := x10) (sig := sig10) rfl Tryz.func10 (c := bodyOf Tryz.f10) (by kernel_rfl) Tryz.ntmps10 (by kernel_rfl) (by kernel_rfl) rfl Ty.mixed call10_ok rfl (fun C hP hN => (lok_all (kcast (by kernel_rfl : AllB (LoopsP C (x10)) [(loopNo (bodyOf Tryz.f10) 0)] = AllB (LoopsP C (x10)) (loopsIn (bodyOf Tryz.f10))) ⟨loop_at (X := x10) (b := (loopNo (bodyOf Tryz.f10) 0)) (by kernel_rfl) (n_10l2_ok C hP hN), trivial⟩))) (kcast (by kernel_rfl) h) x hx
noncomputable def c120s8e4dz : Cut SN := ⟨[(0, .bp 100000 0)], [(100000, .box (some 108) [.np 100000, .vh 3001]), (3001, .vec 5 (.int .u8))]⟩
noncomputable def sig120s8e4d : Sig vw := { params := [.bp 100000 0], objs := [(100000, .box (some 108) [.np 100000, .vh 100001]), (100001, .vec 5 (.int .u8))], rcut := c120s8e4dz, rvars := [], keep := [100000, 3001] }
noncomputable def n_120s8e4d (v : Bool × (List Int) × Unit) : Option (Bool × (List Int) × Unit) :=
 some (true, v.2.1, ())
theorem n_120s8e4d_ok : SigOk prog 120 sig120s8e4d n_120s8e4d := fun v r x h hx => by
 obtain ⟨bl, xs, u⟩ := v
 cases h; cases hx
 exact kcast (by kernel_rfl) (FnOk.copyCheck (P := prog) (f := 120) (T := 108) (rest := []) (by kernel_rfl)
  (Any.Builder_copyCheck_fresh (P := prog) (ρ := Tryz.lays159_ren) { Tryz.lays159 with } Tryz.Builder_Extra_159.toX72)
  (Any.Builder_copyCheck_used (P := prog) (ρ := Tryz.lays159_ren) { Tryz.lays159 with } Tryz.Builder_Extra_159.toX72)
  (g := 100000) (m := 100001) (c := 3001) (l := xs.length) (bl := bl) (e := 5) (sz := 1) (rows := xs.map fun y => Go.Tx.encR szN encN (.int .u8) y) (by decide) (by decide) (by decide))
noncomputable def c100s52d8z : Cut SN := ⟨[(0, .bp 100000 0), (4, .dat (.int .i64)), (5, .nif)], [(100000, .box (some 108) [.np 100000, .vh 3001]), (3001, .vec 5 (.int .u8))]⟩
noncomputable def sh100s52d8 : Shape vw := { rcut := c100s52d8z }
noncomputable def sig100s52d8 : Sig vw := { params := [.bp 100000 0, .dat .str], objs := [(100000, .box (some 108) [.np 100000, .vh 100001]), (100001, .vec 5 (.int .u8))], rcut := c100s52d8z, rvars := [.tmp 4, .tmp 5], keep := [100000, 3001] }
noncomputable def n_100s52d8 (v : ByteArray × Bool × (List Int) × Unit) : Option (Int × Bool × (List Int) × Unit) :=
 n_120s8e4d (v.2.1, v.2.2.1, ()) >>= fun x1 =>
 if x1.2.1.length + v.1.size ≤ (4294967296 : Nat) then
  some (((↑v.1.size : Int), x1.1, x1.2.1 ++ Bs.ints v.1, ()))
 else none
noncomputable def call100s52d8 : Caller vw := fun A fid args S k => match fid with | 120 => callObj prog sig120s8e4d n_120s8e4d A args S k | _ => none
noncomputable def x100s52d8 : Xc vw := { P := prog, n := 19, call := call100s52d8, sh := sh100s52d8 }
theorem call100s52d8_ok : CallerOk prog call100s52d8 := fun A fid args S dst k r h => by
 unfold call100s52d8 at h
 split at h
 ·exact callObj_ok (n_120s8e4d_ok) h
 ·cases h
theorem n_100s52d8_ok : SigOk prog 100 sig100s52d8 n_100s52d8 := fun v r x h hx =>
 fn_ok (X := x100s52d8) (sig := sig100s52d8) rfl Tryz.func100 (c := bodyOf Tryz.f100) (by kernel_rfl) Tryz.ntmps100 (by kernel_rfl) (by kernel_rfl) rfl Ty.mixed call100s52d8_ok rfl (fun C hP hN => (lok_all (kcast (by kernel_rfl) trivial))) (kcast (by kernel_rfl) h) x hx
noncomputable def sig101 : Sig vw := { params := [.dat .str, .dat .str], rcut := c77c75z, rvars := [.tmp 4] }
noncomputable def n_101 (v : ByteArray × ByteArray × Unit) : Option (Bool × Unit) :=
 match v.2.1.data.toList with | [c] => some (decide (0 ≤ Lib.indexByte v.1.data.toList c), ()) | _ => none
theorem n_101_ok : SigOk prog 101 sig101 n_101 := fun v r x h hx => by
 obtain ⟨s, c, u⟩ := v
 unfold n_101 at h
 simp only at h
 split at h
 ·rename_i c0 hc
  obtain rfl : c = ⟨#[c0]⟩ := by
   obtain ⟨⟨l⟩⟩ := c
   simp only at hc
   rw [hc]
  cases h; cases hx
  exact kcast (by kernel_rfl) (FnOk.pure (P := prog) (f := 101) (args := [.d (.v (.string s)), .d (.v (.string ⟨#[c0]⟩))]) (r := .d (.v (.bool (decide (0 ≤ Lib.indexByte s.data.toList c0))))) (by kernel_rfl) fun E M w vs hg hm hv => by
   obtain ⟨v1, v2, rfl, h1, h2⟩ := hreps_two hv
   rw [h1.dv, h2.dv]
   exact (Tryz.strings_Contains_one s c0 w).mono fun e w' ⟨he, hw⟩ => ⟨_, he, .d (.v _), hw ▸ Go.RowKit.Below.refl _ _⟩)
 ·cases h
noncomputable def c27l3 : Cut SN := ⟨[(1, .bp 1 0), (5, .dat (.int .i64)), (6, .dat (.int .i64)), (7, .dat (.int .i64)), (8, .dat (.int .i64))], [(1, .st .tagT)]⟩
noncomputable def c27l7 : Cut SN := ⟨[(1, .bp 1 0), (5, .dat (.int .i64)), (6, .dat (.int .i64)), (7, .dat (.int .i64)), (9, .dat (.int .i64))], [(1, .st .tagT)]⟩
noncomputable def c27e0 : Cut SN := ⟨[(1, .bp 1 0), (5, .dat (.int .i64)), (6, .dat (.int .i64)), (7, .dat (.int .i64))], [(1, .st .tagT)]⟩
noncomputable def c27e2 : Cut SN := ⟨[(5, .dat (.int .i64)), (6, .dat (.int .i64)), (7, .dat (.int .i64))], []⟩
noncomputable def c27z : Cut SN := ⟨[(2, .dat (.int .i64)), (3, .dat (.int .i64)), (4, .dat (.int .i64))], []⟩
noncomputable def sh27 : Shape vw := { exits := fun id => match id with | 0 => c27e0 | 2 => c27e2 | _ => ⟨[], []⟩, rcut := c27z }
noncomputable def sig27 : Sig vw := { params := [.dat (.st .tagT)], rcut := c27z, rvars := [.tmp 2, .tmp 3, .tmp 4] }
noncomputable def n_27l3 (v : Int × Int × Int × Int × Tag × Unit) : Option ((Int × Int × Int × Tag × Unit)) :=
 if decide (v.2.2.2.1 < (↑v.2.2.2.2.1.names.length : Int)) = true then
  if (0 : Int) ≤ v.2.2.2.1 then
   v.2.2.2.2.1.names[v.2.2.2.1.toNat]? >>= fun x1 =>
   n_27l3 (v.1, v.2.1, i64.wrap (v.2.2.1 + (↑x1.size : Int)), i64.wrap (v.2.2.2.1 + (1 : Int)), v.2.2.2.2.1, ())
  else none
 else some ((v.1, v.2.1, v.2.2.1, v.2.2.2.2.1, ()))
 partial_fixpoint
mutual
noncomputable def n_27l7 (v : Int × Int × Int × Int × Tag × Unit) : Option ((Int × Int × Int × Unit)) :=
 if decide (v.2.2.2.1 < (↑v.2.2.2.2.1.parts.length : Int)) = true then
  if (0 : Int) ≤ v.2.2.2.1 then
   v.2.2.2.2.1.parts[v.2.2.2.1.toNat]? >>= fun x1 =>
   n_27 (x1, ()) >>= fun x2 =>
   n_27l7 (i64.wrap (v.1 + x2.1), max v.2.1 x2.2.1, i64.wrap (v.2.2.1 + x2.2.2.1), i64.wrap (v.2.2.2.1 + (1 : Int)), v.2.2.2.2.1, ())
  else none
 else some ((v.1, v.2.1, v.2.2.1, ()))
 partial_fixpoint
noncomputable def n_27 (v : Tag × Unit) : Option (Int × Int × Int × Unit) :=
 n_27l3 ((1 : Int), (0 : Int), (↑v.1.text.size : Int), (0 : Int), v.1, ()) >>= fun x1 =>
 n_27l7 (x1.1, x1.2.1, x1.2.2.1, (0 : Int), x1.2.2.2.1, ()) >>= fun x2 =>
 some ((x2.1, i64.wrap (x2.2.1 + (1 : Int)), x2.2.2.1, ()))
 partial_fixpoint
end
noncomputable def call27 (n_27l3 : Int × Int × Int × Int × Tag × Unit → Option ((Int × Int × Int × Tag × Unit))) (n_27l7 : Int × Int × Int × Int × Tag × Unit → Option ((Int × Int × Int × Unit))) (n_27 : Tag × Unit → Option (Int × Int × Int × Unit)) : Caller vw := fun A fid args S k => match fid with | 27 => callPure prog sig27 n_27 A args S k | _ => none
noncomputable def x27 (n_27l3 : Int × Int × Int × Int × Tag × Unit → Option ((Int × Int × Int × Tag × Unit))) (n_27l7 : Int × Int × Int × Int × Tag × Unit → Option ((Int × Int × Int × Unit))) (n_27 : Tag × Unit → Option (Int × Int × Int × Unit)) : Xc vw := { P := prog, n := 61, call := call27 n_27l3 n_27l7 n_27, sh := sh27, loops := fun k => match k with | 3 => some { cut := c27l3, alts := [.exit 0], F := n_27l3 } | 7 => some { cut := c27l7, alts := [.exit 2], F := n_27l7 } | _ => none }
abbrev mn_27l3 (v : Int × Int × Int × Int × Tag × Unit) (r : (Int × Int × Int × Tag × Unit)) : Prop := (fun v out => ∀ C : Ctx, C.P = prog → C.N = 61 → AWpL C (loopNo (bodyOf Tryz.f27) 0) (encS vw (conc vw c27l3 v)) (OutQ sh27 [.exit 0] out)) v r
theorem cn_27l3 (f0 : Int × Int × Int × Int × Tag × Unit → Option ((Int × Int × Int × Tag × Unit))) (h0 : ∀ v r, f0 v = some r → mn_27l3 v r) : CallerOk prog (x27 f0 (fun _ => none) (fun _ => none)).call := (by
    intro A fid args S dst k r h
    unfold x27 call27 at h
    simp only at h
    split at h
    ·exact callPure_ok ((fun v r x h hx => by cases h)) rfl rfl h
    ·cases h)
theorem sn_27l3 (f0 : Int × Int × Int × Int × Tag × Unit → Option ((Int × Int × Int × Tag × Unit))) (h0 : ∀ v r, f0 v = some r → mn_27l3 v r) (v : Int × Int × Int × Int × Tag × Unit) (r : (Int × Int × Int × Tag × Unit)) (h : exL (x27 f0 (fun _ => none) (fun _ => none)) (loopNo (bodyOf Tryz.f27) 0) c27l3 [.exit 0] f0 v = some r) : mn_27l3 v r := fun C hP hN => loop_step (X := x27 f0 (fun _ => none) (fun _ => none)) (b := (loopNo (bodyOf Tryz.f27) 0)) hP hN Ty.mixed (cn_27l3 f0 h0) (lok_all (X := x27 f0 (fun _ => none) (fun _ => none)) (c := (loopNo (bodyOf Tryz.f27) 0)) (kcast (by kernel_rfl : True = AllB (LoopsP C (x27 f0 (fun _ => none) (fun _ => none))) (loopsIn (loopNo (bodyOf Tryz.f27) 0))) trivial)) (cut := c27l3) (alts := [.exit 0]) (F := f0) (fun v out h => h0 v out h C hP hN) h
theorem n_27l3_pc : ∀ v out, n_27l3 v = some out → (fun v out => ∀ C : Ctx, C.P = prog → C.N = 61 → AWpL C (loopNo (bodyOf Tryz.f27) 0) (encS vw (conc vw c27l3 v)) (OutQ sh27 [.exit 0] out)) v out := (n_27l3.partial_correctness (motive := mn_27l3) (fun f0 h0 v r h => sn_27l3 f0 h0 v r (kcast (by kernel_rfl) h)))
abbrev mn_27l7 (v : Int × Int × Int × Int × Tag × Unit) (r : (Int × Int × Int × Unit)) : Prop := (fun v out => ∀ C : Ctx, C.P = prog → C.N = 61 → AWpL C (loopNo (bodyOf Tryz.f27) 1) (encS vw (conc vw c27l7 v)) (OutQ sh27 [.exit 2] out)) v r
abbrev mn_27 (v : Tag × Unit) (r : Int × Int × Int × Unit) : Prop := (fun v r => ∀ x, resV prog sig27 r = some x → FnOk prog 27 (encL vw (startS sig27 v).len (startOs sig27 v).1) (encOs (startS sig27 v).len (startS sig27 v).own) (encV vw (conc vw sig27.rcut r).len x) (encOs (conc vw sig27.rcut r).len (kept sig27 r))) v r
theorem cn_27l7 (f0 : Int × Int × Int × Int × Tag × Unit → Option ((Int × Int × Int × Unit))) (f1 : Tag × Unit → Option (Int × Int × Int × Unit)) (h0 : ∀ v r, f0 v = some r → mn_27l7 v r) (h1 : ∀ v r, f1 v = some r → mn_27 v r) : CallerOk prog (x27 (fun _ => none) f0 f1).call := (by
    intro A fid args S dst k r h
    unfold x27 call27 at h
    simp only at h
    split at h
    ·exact callPure_ok ((fun v r x h hx => h1 v r h x hx)) rfl rfl h
    ·cases h)
theorem sn_27l7 (f0 : Int × Int × Int × Int × Tag × Unit → Option ((Int × Int × Int × Unit))) (f1 : Tag × Unit → Option (Int × Int × Int × Unit)) (h0 : ∀ v r, f0 v = some r → mn_27l7 v r) (h1 : ∀ v r, f1 v = some r → mn_27 v r) (v : Int × Int × Int × Int × Tag × Unit) (r : (Int × Int × Int × Unit)) (h : exL (x27 (fun _ => none) f0 f1) (loopNo (bodyOf Tryz.f27) 1) c27l7 [.exit 2] f0 v = some r) : mn_27l7 v r := fun C hP hN => loop_step (X := x27 (fun _ => none) f0 f1) (b := (loopNo (bodyOf Tryz.f27) 1)) hP hN Ty.mixed (cn_27l7 f0 f1 h0 h1) (lok_all (X := x27 (fun _ => none) f0 f1) (c := (loopNo (bodyOf Tryz.f27) 1)) (kcast (by kernel_rfl : True = AllB (LoopsP C (x27 (fun _ => none) f0 f1)) (loopsIn (loopNo (bodyOf Tryz.f27) 1))) trivial)) (cut := c27l7) (alts := [.exit 2]) (F := f0) (fun v out h => h0 v out h C hP hN) h
theorem cn_27 (f0 : Int × Int × Int × Int × Tag × Unit → Option ((Int × Int × Int × Unit))) (h0 : ∀ v r, f0 v = some r → mn_27l7 v r) : CallerOk prog (x27 n_27l3 f0 (fun _ => none)).call := (by
    intro A fid args S dst k r h
    unfold x27 call27 at h
    simp only at h
    split at h
    ·exact callPure_ok ((fun v r x h hx => by cases h)) rfl rfl h
    ·cases h)
theorem sn_27 (f0 : Int × Int × Int × Int × Tag × Unit → Option ((Int × Int × Int × Unit))) (h0 : ∀ v r, f0 v = some r → mn_27l7 v r) (v : Tag × Unit) (r : Int × Int × Int × Unit) (h : exF (x27 n_27l3 f0 (fun _ => none)) sig27 rfl (bodyOf Tryz.f27) v = some r) : mn_27 v r := fun x hx => fn_ok (X := x27 n_27l3 f0 (fun _ => none)) (sig := sig27) rfl Tryz.func27 (c := bodyOf Tryz.f27) (by kernel_rfl) Tryz.ntmps27 (by kernel_rfl) (by kernel_rfl) rfl Ty.mixed (cn_27 f0 h0) rfl (fun C hP hN => (lok_all (X := x27 n_27l3 f0 (fun _ => none)) (c := (bodyOf Tryz.f27)) (kcast (by kernel_rfl : AllB (LoopsP C (x27 n_27l3 f0 (fun _ => none))) [(loopNo (bodyOf Tryz.f27) 0), (loopNo (bodyOf Tryz.f27) 1)] = AllB (LoopsP C (x27 n_27l3 f0 (fun _ => none))) (loopsIn (bodyOf Tryz.f27))) ⟨loop_at (X := x27 n_27l3 f0 (fun _ => none)) (b := (loopNo (bodyOf Tryz.f27) 0)) (by kernel_rfl) (show LoopOk C (loopNo (bodyOf Tryz.f27) 0) (sh := sh27) { cut := c27l3, alts := [.exit 0], F := n_27l3 } from fun v out h => n_27l3_pc v out h C hP hN), loop_at (X := x27 n_27l3 f0 (fun _ => none)) (b := (loopNo (bodyOf Tryz.f27) 1)) (by kernel_rfl) (show LoopOk C (loopNo (bodyOf Tryz.f27) 1) (sh := sh27) { cut := c27l7, alts := [.exit 2], F := f0 } from fun v out h => h0 v out h C hP hN), trivial⟩))) h x hx
theorem n_27l7_all : (∀ v r, n_27l7 v = some r → mn_27l7 v r) ∧ (∀ v r, n_27 v = some r → mn_27 v r) := by
 refine n_27l7.mutual_partial_correctness
  (motive_1 := mn_27l7)
  (motive_2 := mn_27)
  ?_ ?_
 ·exact (fun f0 f1 h0 h1 v r h => sn_27l7 f0 f1 h0 h1 v r (kcast (by kernel_rfl) h))
 ·exact (fun f0 h0 v r h => sn_27 f0 h0 v r (kcast (by kernel_rfl) h))
theorem n_27_ok : SigOk prog 27 sig27 n_27 := fun v r x h hx => n_27l7_all.2 v r h x hx
noncomputable def c54l6 : Cut SN := ⟨[(1, .bp 1 0), (3, .dat (.int .i64))], [(1, .st .tagT)]⟩
noncomputable def c54l11 : Cut SN := ⟨[(1, .bp 1 0), (4, .dat (.int .i64))], [(1, .st .tagT)]⟩
noncomputable def c54r1 : Cut SN := ⟨[(1, .bp 1 0), (54, .dat .bool)], [(1, .st .tagT)]⟩
noncomputable def c54r3 : Cut SN := ⟨[(1, .bp 1 0), (82, .dat .bool)], [(1, .st .tagT)]⟩
noncomputable def sh54 : Shape vw := { exits := fun id => match id with | 0 => c52e0 | 2 => c103c75e0 | _ => ⟨[], []⟩, rcut := c76z }
noncomputable def sig54 : Sig vw := { params := [.dat (.st .tagT)], rcut := c76z, rvars := [.tmp 2] }
noncomputable def n_54l6 (v : Int × Tag × Unit) : Option (((Bool × Unit) ⊕ (Tag × Unit))) :=
 if decide (v.1 < (↑v.2.1.names.length : Int)) = true then
  if (0 : Int) ≤ v.1 then
   v.2.1.names[v.1.toNat]? >>= fun x1 =>
   n_76 (x1, ()) >>= fun x2 =>
   if (!x2.1) = true then
    some (Sum.inl (false, ()))
   else n_54l6 (i64.wrap (v.1 + (1 : Int)), v.2.1, ())
  else none
 else some (Sum.inr (v.2.1, ()))
 partial_fixpoint
mutual
noncomputable def n_54l11 (v : Int × Tag × Unit) : Option (((Bool × Unit) ⊕ (Unit))) :=
 if decide (v.1 < (↑v.2.1.parts.length : Int)) = true then
  if (0 : Int) ≤ v.1 then
   v.2.1.parts[v.1.toNat]? >>= fun x1 =>
   n_54 (x1, ()) >>= fun x2 =>
   if (!x2.1) = true then
    some (Sum.inl (false, ()))
   else n_54l11 (i64.wrap (v.1 + (1 : Int)), v.2.1, ())
  else none
 else some (Sum.inr ())
 partial_fixpoint
noncomputable def n_54 (v : Tag × Unit) : Option (Bool × Unit) :=
 (if decide (v.1.kind < (0 : Int)) = true then
    some ((true, v.1, ()))
   else if decide (v.1.kind > (6 : Int)) = true then
    some ((true, v.1, ()))
   else if (v.1.kind != (3 : Int)) = true then
    if (v.1.n != (0 : Int)) = true then
     some ((true, v.1, ()))
    else if (v.1.kind != (4 : Int)) = true then
     if (!v.1.text.toList == (ByteArray.mk #[]).toList) = true then
      some ((true, v.1, ()))
     else if (v.1.kind != (6 : Int)) = true then
      if decide ((↑v.1.names.length : Int) > (0 : Int)) = true then
       some ((true, v.1, ()))
      else if decide (v.1.kind < (5 : Int)) = true then
       some ((decide ((↑v.1.parts.length : Int) > (0 : Int)), v.1, ()))
      else some ((false, v.1, ()))
     else if decide (v.1.kind < (5 : Int)) = true then
      some ((decide ((↑v.1.parts.length : Int) > (0 : Int)), v.1, ()))
     else some ((false, v.1, ()))
    else if (v.1.kind != (6 : Int)) = true then
     if decide ((↑v.1.names.length : Int) > (0 : Int)) = true then
      some ((true, v.1, ()))
     else if decide (v.1.kind < (5 : Int)) = true then
      some ((decide ((↑v.1.parts.length : Int) > (0 : Int)), v.1, ()))
     else some ((false, v.1, ()))
    else if decide (v.1.kind < (5 : Int)) = true then
     some ((decide ((↑v.1.parts.length : Int) > (0 : Int)), v.1, ()))
    else some ((false, v.1, ()))
   else if (v.1.kind != (4 : Int)) = true then
    if (!v.1.text.toList == (ByteArray.mk #[]).toList) = true then
     some ((true, v.1, ()))
    else if (v.1.kind != (6 : Int)) = true then
     if decide ((↑v.1.names.length : Int) > (0 : Int)) = true then
      some ((true, v.1, ()))
     else if decide (v.1.kind < (5 : Int)) = true then
      some ((decide ((↑v.1.parts.length : Int) > (0 : Int)), v.1, ()))
     else some ((false, v.1, ()))
    else if decide (v.1.kind < (5 : Int)) = true then
     some ((decide ((↑v.1.parts.length : Int) > (0 : Int)), v.1, ()))
    else some ((false, v.1, ()))
   else if (v.1.kind != (6 : Int)) = true then
    if decide ((↑v.1.names.length : Int) > (0 : Int)) = true then
     some ((true, v.1, ()))
    else if decide (v.1.kind < (5 : Int)) = true then
     some ((decide ((↑v.1.parts.length : Int) > (0 : Int)), v.1, ()))
    else some ((false, v.1, ()))
   else if decide (v.1.kind < (5 : Int)) = true then
    some ((decide ((↑v.1.parts.length : Int) > (0 : Int)), v.1, ()))
   else some ((false, v.1, ()))) >>= fun x1 =>
 if x1.1 = true then
  some ((false, ()))
 else (if decide (x1.2.1.n < (-9007199254740992 : Int)) = true then
   some ((true, x1.2.1, ()))
  else if decide (x1.2.1.n > (9007199254740992 : Int)) = true then
   some ((true, x1.2.1, ()))
  else n_76 (x1.2.1.text, ()) >>= fun x2 =>
  if (!x2.1) = true then
   some ((true, x1.2.1, ()))
  else if (x1.2.1.kind == (6 : Int)) = true then
   some (((↑x1.2.1.names.length : Int) != (↑x1.2.1.parts.length : Int), x1.2.1, ()))
  else some ((false, x1.2.1, ()))) >>= fun x2 =>
 if x2.1 = true then
  some ((false, ()))
 else n_54l6 ((0 : Int), x2.2.1, ()) >>= fun x3 => match x3 with
  | .inl y3 => some y3
  | .inr y3 => n_54l11 ((0 : Int), y3.1, ()) >>= fun x4 => match x4 with
    | .inl y4 => some y4
    | .inr y4 => some ((true, ()))
 partial_fixpoint
end
noncomputable def call54 (n_54l6 : Int × Tag × Unit → Option (((Bool × Unit) ⊕ (Tag × Unit)))) (n_54l11 : Int × Tag × Unit → Option (((Bool × Unit) ⊕ (Unit)))) (n_54 : Tag × Unit → Option (Bool × Unit)) : Caller vw := fun A fid args S k => match fid with | 54 => callPure prog sig54 n_54 A args S k | 76 => callPure prog sig76 n_76 A args S k | _ => none
noncomputable def x54 (n_54l6 : Int × Tag × Unit → Option (((Bool × Unit) ⊕ (Tag × Unit)))) (n_54l11 : Int × Tag × Unit → Option (((Bool × Unit) ⊕ (Unit)))) (n_54 : Tag × Unit → Option (Bool × Unit)) : Xc vw := { P := prog, n := 111, call := call54 n_54l6 n_54l11 n_54, sh := sh54, regs := fun k => match k with | 1 => some c54r1 | 3 => some c54r3 | _ => none, loops := fun k => match k with | 6 => some { cut := c54l6, alts := [.ret, .exit 0], F := n_54l6 } | 11 => some { cut := c54l11, alts := [.ret, .exit 2], F := n_54l11 } | _ => none }
abbrev mn_54l6 (v : Int × Tag × Unit) (r : ((Bool × Unit) ⊕ (Tag × Unit))) : Prop := (fun v out => ∀ C : Ctx, C.P = prog → C.N = 111 → AWpL C (loopNo (bodyOf Tryz.f54) 0) (encS vw (conc vw c54l6 v)) (OutQ sh54 [.ret, .exit 0] out)) v r
theorem cn_54l6 (f0 : Int × Tag × Unit → Option (((Bool × Unit) ⊕ (Tag × Unit)))) (h0 : ∀ v r, f0 v = some r → mn_54l6 v r) : CallerOk prog (x54 f0 (fun _ => none) (fun _ => none)).call := (by
    intro A fid args S dst k r h
    unfold x54 call54 at h
    simp only at h
    split at h
    ·exact callPure_ok ((fun v r x h hx => by cases h)) rfl rfl h
    ·exact callPure_ok (n_76_ok) rfl rfl h
    ·cases h)
theorem sn_54l6 (f0 : Int × Tag × Unit → Option (((Bool × Unit) ⊕ (Tag × Unit)))) (h0 : ∀ v r, f0 v = some r → mn_54l6 v r) (v : Int × Tag × Unit) (r : ((Bool × Unit) ⊕ (Tag × Unit))) (h : exL (x54 f0 (fun _ => none) (fun _ => none)) (loopNo (bodyOf Tryz.f54) 0) c54l6 [.ret, .exit 0] f0 v = some r) : mn_54l6 v r := fun C hP hN => loop_step (X := x54 f0 (fun _ => none) (fun _ => none)) (b := (loopNo (bodyOf Tryz.f54) 0)) hP hN Ty.mixed (cn_54l6 f0 h0) (lok_all (X := x54 f0 (fun _ => none) (fun _ => none)) (c := (loopNo (bodyOf Tryz.f54) 0)) (kcast (by kernel_rfl : True = AllB (LoopsP C (x54 f0 (fun _ => none) (fun _ => none))) (loopsIn (loopNo (bodyOf Tryz.f54) 0))) trivial)) (cut := c54l6) (alts := [.ret, .exit 0]) (F := f0) (fun v out h => h0 v out h C hP hN) h
theorem n_54l6_pc : ∀ v out, n_54l6 v = some out → (fun v out => ∀ C : Ctx, C.P = prog → C.N = 111 → AWpL C (loopNo (bodyOf Tryz.f54) 0) (encS vw (conc vw c54l6 v)) (OutQ sh54 [.ret, .exit 0] out)) v out := (n_54l6.partial_correctness (motive := mn_54l6) (fun f0 h0 v r h => sn_54l6 f0 h0 v r (kcast (by kernel_rfl) h)))
abbrev mn_54l11 (v : Int × Tag × Unit) (r : ((Bool × Unit) ⊕ (Unit))) : Prop := (fun v out => ∀ C : Ctx, C.P = prog → C.N = 111 → AWpL C (loopNo (bodyOf Tryz.f54) 1) (encS vw (conc vw c54l11 v)) (OutQ sh54 [.ret, .exit 2] out)) v r
abbrev mn_54 (v : Tag × Unit) (r : Bool × Unit) : Prop := (fun v r => ∀ x, resV prog sig54 r = some x → FnOk prog 54 (encL vw (startS sig54 v).len (startOs sig54 v).1) (encOs (startS sig54 v).len (startS sig54 v).own) (encV vw (conc vw sig54.rcut r).len x) (encOs (conc vw sig54.rcut r).len (kept sig54 r))) v r
theorem cn_54l11 (f0 : Int × Tag × Unit → Option (((Bool × Unit) ⊕ (Unit)))) (f1 : Tag × Unit → Option (Bool × Unit)) (h0 : ∀ v r, f0 v = some r → mn_54l11 v r) (h1 : ∀ v r, f1 v = some r → mn_54 v r) : CallerOk prog (x54 (fun _ => none) f0 f1).call := (by
    intro A fid args S dst k r h
    unfold x54 call54 at h
    simp only at h
    split at h
    ·exact callPure_ok ((fun v r x h hx => h1 v r h x hx)) rfl rfl h
    ·exact callPure_ok (n_76_ok) rfl rfl h
    ·cases h)
theorem sn_54l11 (f0 : Int × Tag × Unit → Option (((Bool × Unit) ⊕ (Unit)))) (f1 : Tag × Unit → Option (Bool × Unit)) (h0 : ∀ v r, f0 v = some r → mn_54l11 v r) (h1 : ∀ v r, f1 v = some r → mn_54 v r) (v : Int × Tag × Unit) (r : ((Bool × Unit) ⊕ (Unit))) (h : exL (x54 (fun _ => none) f0 f1) (loopNo (bodyOf Tryz.f54) 1) c54l11 [.ret, .exit 2] f0 v = some r) : mn_54l11 v r := fun C hP hN => loop_step (X := x54 (fun _ => none) f0 f1) (b := (loopNo (bodyOf Tryz.f54) 1)) hP hN Ty.mixed (cn_54l11 f0 f1 h0 h1) (lok_all (X := x54 (fun _ => none) f0 f1) (c := (loopNo (bodyOf Tryz.f54) 1)) (kcast (by kernel_rfl : True = AllB (LoopsP C (x54 (fun _ => none) f0 f1)) (loopsIn (loopNo (bodyOf Tryz.f54) 1))) trivial)) (cut := c54l11) (alts := [.ret, .exit 2]) (F := f0) (fun v out h => h0 v out h C hP hN) h
theorem cn_54 (f0 : Int × Tag × Unit → Option (((Bool × Unit) ⊕ (Unit)))) (h0 : ∀ v r, f0 v = some r → mn_54l11 v r) : CallerOk prog (x54 n_54l6 f0 (fun _ => none)).call := (by
    intro A fid args S dst k r h
    unfold x54 call54 at h
    simp only at h
    split at h
    ·exact callPure_ok ((fun v r x h hx => by cases h)) rfl rfl h
    ·exact callPure_ok (n_76_ok) rfl rfl h
    ·cases h)
theorem sn_54 (f0 : Int × Tag × Unit → Option (((Bool × Unit) ⊕ (Unit)))) (h0 : ∀ v r, f0 v = some r → mn_54l11 v r) (v : Tag × Unit) (r : Bool × Unit) (h : exF (x54 n_54l6 f0 (fun _ => none)) sig54 rfl (bodyOf Tryz.f54) v = some r) : mn_54 v r := fun x hx => fn_ok (X := x54 n_54l6 f0 (fun _ => none)) (sig := sig54) rfl Tryz.func54 (c := bodyOf Tryz.f54) (by kernel_rfl) Tryz.ntmps54 (by kernel_rfl) (by kernel_rfl) rfl Ty.mixed (cn_54 f0 h0) rfl (fun C hP hN => (lok_all (X := x54 n_54l6 f0 (fun _ => none)) (c := (bodyOf Tryz.f54)) (kcast (by kernel_rfl : AllB (LoopsP C (x54 n_54l6 f0 (fun _ => none))) [(loopNo (bodyOf Tryz.f54) 0), (loopNo (bodyOf Tryz.f54) 1)] = AllB (LoopsP C (x54 n_54l6 f0 (fun _ => none))) (loopsIn (bodyOf Tryz.f54))) ⟨loop_at (X := x54 n_54l6 f0 (fun _ => none)) (b := (loopNo (bodyOf Tryz.f54) 0)) (by kernel_rfl) (show LoopOk C (loopNo (bodyOf Tryz.f54) 0) (sh := sh54) { cut := c54l6, alts := [.ret, .exit 0], F := n_54l6 } from fun v out h => n_54l6_pc v out h C hP hN), loop_at (X := x54 n_54l6 f0 (fun _ => none)) (b := (loopNo (bodyOf Tryz.f54) 1)) (by kernel_rfl) (show LoopOk C (loopNo (bodyOf Tryz.f54) 1) (sh := sh54) { cut := c54l11, alts := [.ret, .exit 2], F := f0 } from fun v out h => h0 v out h C hP hN), trivial⟩))) h x hx
theorem n_54l11_all : (∀ v r, n_54l11 v = some r → mn_54l11 v r) ∧ (∀ v r, n_54 v = some r → mn_54 v r) := by
 refine n_54l11.mutual_partial_correctness
  (motive_1 := mn_54l11)
  (motive_2 := mn_54)
  ?_ ?_
 ·exact (fun f0 f1 h0 h1 v r h => sn_54l11 f0 f1 h0 h1 v r (kcast (by kernel_rfl) h))
 ·exact (fun f0 h0 v r h => sn_54 f0 h0 v r (kcast (by kernel_rfl) h))
theorem n_54_ok : SigOk prog 54 sig54 n_54 := fun v r x h hx => n_54l11_all.2 v r h x hx
noncomputable def c55l5 : Cut SN := ⟨[(1, .bp 1 0), (3, .dat (.int .i64)), (4, .dat (.int .i64))], [(1, .st .tagT)]⟩
noncomputable def c55l10 : Cut SN := ⟨[(1, .bp 1 0), (5, .dat (.int .i64))], [(1, .st .tagT)]⟩
noncomputable def sh55 : Shape vw := { exits := fun id => match id with | 0 => c52e0 | 2 => c54l6 | 4 => c103c75e0 | _ => ⟨[], []⟩, rcut := c76z }
noncomputable def sig55 : Sig vw := { params := [.dat (.st .tagT)], rcut := c76z, rvars := [.tmp 2] }
noncomputable def n_55l5 (v : Int × Int × Tag × Unit) : Option (((Bool × Unit) ⊕ (Int × Tag × Unit))) :=
 if decide (v.2.1 < v.1) = true then
  if (0 : Int) ≤ v.1 then
   v.2.2.1.names[v.1.toNat]? >>= fun x1 =>
   if (0 : Int) ≤ v.2.1 then
    v.2.2.1.names[v.2.1.toNat]? >>= fun x2 =>
    if (x1.toList == x2.toList) = true then
     some (Sum.inl (true, ()))
    else n_55l5 (v.1, i64.wrap (v.2.1 + (1 : Int)), v.2.2.1, ())
   else none
  else none
 else some (Sum.inr (v.1, v.2.2.1, ()))
 partial_fixpoint
noncomputable def n_55l2 (v : Int × Tag × Unit) : Option (((Bool × Unit) ⊕ (Tag × Unit))) :=
 if decide (v.1 < (↑v.2.1.names.length : Int)) = true then
  n_55l5 (v.1, (0 : Int), v.2.1, ()) >>= fun x1 => match x1 with
   | .inl y1 => some (Sum.inl y1)
   | .inr y1 => n_55l2 (i64.wrap (y1.1 + (1 : Int)), y1.2.1, ())
 else some (Sum.inr (v.2.1, ()))
 partial_fixpoint
mutual
noncomputable def n_55l10 (v : Int × Tag × Unit) : Option (((Bool × Unit) ⊕ (Unit))) :=
 if decide (v.1 < (↑v.2.1.parts.length : Int)) = true then
  if (0 : Int) ≤ v.1 then
   v.2.1.parts[v.1.toNat]? >>= fun x1 =>
   n_55 (x1, ()) >>= fun x2 =>
   if x2.1 = true then
    some (Sum.inl (true, ()))
   else n_55l10 (i64.wrap (v.1 + (1 : Int)), v.2.1, ())
  else none
 else some (Sum.inr ())
 partial_fixpoint
noncomputable def n_55 (v : Tag × Unit) : Option (Bool × Unit) :=
 n_55l2 ((0 : Int), v.1, ()) >>= fun x1 => match x1 with
  | .inl y1 => some y1
  | .inr y1 => n_55l10 ((0 : Int), y1.1, ()) >>= fun x2 => match x2 with
    | .inl y2 => some y2
    | .inr y2 => some ((false, ()))
 partial_fixpoint
end
noncomputable def call55 (n_55l5 : Int × Int × Tag × Unit → Option (((Bool × Unit) ⊕ (Int × Tag × Unit)))) (n_55l2 : Int × Tag × Unit → Option (((Bool × Unit) ⊕ (Tag × Unit)))) (n_55l10 : Int × Tag × Unit → Option (((Bool × Unit) ⊕ (Unit)))) (n_55 : Tag × Unit → Option (Bool × Unit)) : Caller vw := fun A fid args S k => match fid with | 55 => callPure prog sig55 n_55 A args S k | _ => none
noncomputable def x55 (n_55l5 : Int × Int × Tag × Unit → Option (((Bool × Unit) ⊕ (Int × Tag × Unit)))) (n_55l2 : Int × Tag × Unit → Option (((Bool × Unit) ⊕ (Tag × Unit)))) (n_55l10 : Int × Tag × Unit → Option (((Bool × Unit) ⊕ (Unit)))) (n_55 : Tag × Unit → Option (Bool × Unit)) : Xc vw := { P := prog, n := 42, call := call55 n_55l5 n_55l2 n_55l10 n_55, sh := sh55, loops := fun k => match k with | 2 => some { cut := c54l6, alts := [.ret, .exit 0], F := n_55l2 } | 5 => some { cut := c55l5, alts := [.ret, .exit 2], F := n_55l5 } | 10 => some { cut := c55l10, alts := [.ret, .exit 4], F := n_55l10 } | _ => none }
abbrev mn_55l5 (v : Int × Int × Tag × Unit) (r : ((Bool × Unit) ⊕ (Int × Tag × Unit))) : Prop := (fun v out => ∀ C : Ctx, C.P = prog → C.N = 42 → AWpL C (loopNo (loopNo (bodyOf Tryz.f55) 0) 0) (encS vw (conc vw c55l5 v)) (OutQ sh55 [.ret, .exit 2] out)) v r
theorem cn_55l5 (f0 : Int × Int × Tag × Unit → Option (((Bool × Unit) ⊕ (Int × Tag × Unit)))) (h0 : ∀ v r, f0 v = some r → mn_55l5 v r) : CallerOk prog (x55 f0 (fun _ => none) (fun _ => none) (fun _ => none)).call := (by
    intro A fid args S dst k r h
    unfold x55 call55 at h
    simp only at h
    split at h
    ·exact callPure_ok ((fun v r x h hx => by cases h)) rfl rfl h
    ·cases h)
theorem sn_55l5 (f0 : Int × Int × Tag × Unit → Option (((Bool × Unit) ⊕ (Int × Tag × Unit)))) (h0 : ∀ v r, f0 v = some r → mn_55l5 v r) (v : Int × Int × Tag × Unit) (r : ((Bool × Unit) ⊕ (Int × Tag × Unit))) (h : exL (x55 f0 (fun _ => none) (fun _ => none) (fun _ => none)) (loopNo (loopNo (bodyOf Tryz.f55) 0) 0) c55l5 [.ret, .exit 2] f0 v = some r) : mn_55l5 v r := fun C hP hN => loop_step (X := x55 f0 (fun _ => none) (fun _ => none) (fun _ => none)) (b := (loopNo (loopNo (bodyOf Tryz.f55) 0) 0)) hP hN Ty.mixed (cn_55l5 f0 h0) (lok_all (X := x55 f0 (fun _ => none) (fun _ => none) (fun _ => none)) (c := (loopNo (loopNo (bodyOf Tryz.f55) 0) 0)) (kcast (by kernel_rfl : True = AllB (LoopsP C (x55 f0 (fun _ => none) (fun _ => none) (fun _ => none))) (loopsIn (loopNo (loopNo (bodyOf Tryz.f55) 0) 0))) trivial)) (cut := c55l5) (alts := [.ret, .exit 2]) (F := f0) (fun v out h => h0 v out h C hP hN) h
theorem n_55l5_pc : ∀ v out, n_55l5 v = some out → (fun v out => ∀ C : Ctx, C.P = prog → C.N = 42 → AWpL C (loopNo (loopNo (bodyOf Tryz.f55) 0) 0) (encS vw (conc vw c55l5 v)) (OutQ sh55 [.ret, .exit 2] out)) v out := (n_55l5.partial_correctness (motive := mn_55l5) (fun f0 h0 v r h => sn_55l5 f0 h0 v r (kcast (by kernel_rfl) h)))
abbrev mn_55l2 (v : Int × Tag × Unit) (r : ((Bool × Unit) ⊕ (Tag × Unit))) : Prop := (fun v out => ∀ C : Ctx, C.P = prog → C.N = 42 → AWpL C (loopNo (bodyOf Tryz.f55) 0) (encS vw (conc vw c54l6 v)) (OutQ sh55 [.ret, .exit 0] out)) v r
theorem cn_55l2 (f0 : Int × Tag × Unit → Option (((Bool × Unit) ⊕ (Tag × Unit)))) (h0 : ∀ v r, f0 v = some r → mn_55l2 v r) : CallerOk prog (x55 n_55l5 f0 (fun _ => none) (fun _ => none)).call := (by
    intro A fid args S dst k r h
    unfold x55 call55 at h
    simp only at h
    split at h
    ·exact callPure_ok ((fun v r x h hx => by cases h)) rfl rfl h
    ·cases h)
theorem sn_55l2 (f0 : Int × Tag × Unit → Option (((Bool × Unit) ⊕ (Tag × Unit)))) (h0 : ∀ v r, f0 v = some r → mn_55l2 v r) (v : Int × Tag × Unit) (r : ((Bool × Unit) ⊕ (Tag × Unit))) (h : exL (x55 n_55l5 f0 (fun _ => none) (fun _ => none)) (loopNo (bodyOf Tryz.f55) 0) c54l6 [.ret, .exit 0] f0 v = some r) : mn_55l2 v r := fun C hP hN => loop_step (X := x55 n_55l5 f0 (fun _ => none) (fun _ => none)) (b := (loopNo (bodyOf Tryz.f55) 0)) hP hN Ty.mixed (cn_55l2 f0 h0) (lok_all (X := x55 n_55l5 f0 (fun _ => none) (fun _ => none)) (c := (loopNo (bodyOf Tryz.f55) 0)) (kcast (by kernel_rfl : AllB (LoopsP C (x55 n_55l5 f0 (fun _ => none) (fun _ => none))) [(loopNo (loopNo (bodyOf Tryz.f55) 0) 0)] = AllB (LoopsP C (x55 n_55l5 f0 (fun _ => none) (fun _ => none))) (loopsIn (loopNo (bodyOf Tryz.f55) 0))) ⟨loop_at (X := x55 n_55l5 f0 (fun _ => none) (fun _ => none)) (b := (loopNo (loopNo (bodyOf Tryz.f55) 0) 0)) (by kernel_rfl) (show LoopOk C (loopNo (loopNo (bodyOf Tryz.f55) 0) 0) (sh := sh55) { cut := c55l5, alts := [.ret, .exit 2], F := n_55l5 } from fun v out h => n_55l5_pc v out h C hP hN), trivial⟩)) (cut := c54l6) (alts := [.ret, .exit 0]) (F := f0) (fun v out h => h0 v out h C hP hN) h
theorem n_55l2_pc : ∀ v out, n_55l2 v = some out → (fun v out => ∀ C : Ctx, C.P = prog → C.N = 42 → AWpL C (loopNo (bodyOf Tryz.f55) 0) (encS vw (conc vw c54l6 v)) (OutQ sh55 [.ret, .exit 0] out)) v out := (n_55l2.partial_correctness (motive := mn_55l2) (fun f0 h0 v r h => sn_55l2 f0 h0 v r (kcast (by kernel_rfl) h)))
abbrev mn_55l10 (v : Int × Tag × Unit) (r : ((Bool × Unit) ⊕ (Unit))) : Prop := (fun v out => ∀ C : Ctx, C.P = prog → C.N = 42 → AWpL C (loopNo (bodyOf Tryz.f55) 1) (encS vw (conc vw c55l10 v)) (OutQ sh55 [.ret, .exit 4] out)) v r
abbrev mn_55 (v : Tag × Unit) (r : Bool × Unit) : Prop := (fun v r => ∀ x, resV prog sig55 r = some x → FnOk prog 55 (encL vw (startS sig55 v).len (startOs sig55 v).1) (encOs (startS sig55 v).len (startS sig55 v).own) (encV vw (conc vw sig55.rcut r).len x) (encOs (conc vw sig55.rcut r).len (kept sig55 r))) v r
theorem cn_55l10 (f0 : Int × Tag × Unit → Option (((Bool × Unit) ⊕ (Unit)))) (f1 : Tag × Unit → Option (Bool × Unit)) (h0 : ∀ v r, f0 v = some r → mn_55l10 v r) (h1 : ∀ v r, f1 v = some r → mn_55 v r) : CallerOk prog (x55 (fun _ => none) (fun _ => none) f0 f1).call := (by
    intro A fid args S dst k r h
    unfold x55 call55 at h
    simp only at h
    split at h
    ·exact callPure_ok ((fun v r x h hx => h1 v r h x hx)) rfl rfl h
    ·cases h)
theorem sn_55l10 (f0 : Int × Tag × Unit → Option (((Bool × Unit) ⊕ (Unit)))) (f1 : Tag × Unit → Option (Bool × Unit)) (h0 : ∀ v r, f0 v = some r → mn_55l10 v r) (h1 : ∀ v r, f1 v = some r → mn_55 v r) (v : Int × Tag × Unit) (r : ((Bool × Unit) ⊕ (Unit))) (h : exL (x55 (fun _ => none) (fun _ => none) f0 f1) (loopNo (bodyOf Tryz.f55) 1) c55l10 [.ret, .exit 4] f0 v = some r) : mn_55l10 v r := fun C hP hN => loop_step (X := x55 (fun _ => none) (fun _ => none) f0 f1) (b := (loopNo (bodyOf Tryz.f55) 1)) hP hN Ty.mixed (cn_55l10 f0 f1 h0 h1) (lok_all (X := x55 (fun _ => none) (fun _ => none) f0 f1) (c := (loopNo (bodyOf Tryz.f55) 1)) (kcast (by kernel_rfl : True = AllB (LoopsP C (x55 (fun _ => none) (fun _ => none) f0 f1)) (loopsIn (loopNo (bodyOf Tryz.f55) 1))) trivial)) (cut := c55l10) (alts := [.ret, .exit 4]) (F := f0) (fun v out h => h0 v out h C hP hN) h
theorem cn_55 (f0 : Int × Tag × Unit → Option (((Bool × Unit) ⊕ (Unit)))) (h0 : ∀ v r, f0 v = some r → mn_55l10 v r) : CallerOk prog (x55 (fun _ => none) n_55l2 f0 (fun _ => none)).call := (by
    intro A fid args S dst k r h
    unfold x55 call55 at h
    simp only at h
    split at h
    ·exact callPure_ok ((fun v r x h hx => by cases h)) rfl rfl h
    ·cases h)
theorem sn_55 (f0 : Int × Tag × Unit → Option (((Bool × Unit) ⊕ (Unit)))) (h0 : ∀ v r, f0 v = some r → mn_55l10 v r) (v : Tag × Unit) (r : Bool × Unit) (h : exF (x55 (fun _ => none) n_55l2 f0 (fun _ => none)) sig55 rfl (bodyOf Tryz.f55) v = some r) : mn_55 v r := fun x hx => fn_ok (X := x55 (fun _ => none) n_55l2 f0 (fun _ => none)) (sig := sig55) rfl Tryz.func55 (c := bodyOf Tryz.f55) (by kernel_rfl) Tryz.ntmps55 (by kernel_rfl) (by kernel_rfl) rfl Ty.mixed (cn_55 f0 h0) rfl (fun C hP hN => (lok_all (X := x55 (fun _ => none) n_55l2 f0 (fun _ => none)) (c := (bodyOf Tryz.f55)) (kcast (by kernel_rfl : AllB (LoopsP C (x55 (fun _ => none) n_55l2 f0 (fun _ => none))) [(loopNo (bodyOf Tryz.f55) 0), (loopNo (bodyOf Tryz.f55) 1)] = AllB (LoopsP C (x55 (fun _ => none) n_55l2 f0 (fun _ => none))) (loopsIn (bodyOf Tryz.f55))) ⟨loop_at (X := x55 (fun _ => none) n_55l2 f0 (fun _ => none)) (b := (loopNo (bodyOf Tryz.f55) 0)) (by kernel_rfl) (show LoopOk C (loopNo (bodyOf Tryz.f55) 0) (sh := sh55) { cut := c54l6, alts := [.ret, .exit 0], F := n_55l2 } from fun v out h => n_55l2_pc v out h C hP hN), loop_at (X := x55 (fun _ => none) n_55l2 f0 (fun _ => none)) (b := (loopNo (bodyOf Tryz.f55) 1)) (by kernel_rfl) (show LoopOk C (loopNo (bodyOf Tryz.f55) 1) (sh := sh55) { cut := c55l10, alts := [.ret, .exit 4], F := f0 } from fun v out h => h0 v out h C hP hN), trivial⟩))) h x hx
theorem n_55l10_all : (∀ v r, n_55l10 v = some r → mn_55l10 v r) ∧ (∀ v r, n_55 v = some r → mn_55 v r) := by
 refine n_55l10.mutual_partial_correctness
  (motive_1 := mn_55l10)
  (motive_2 := mn_55)
  ?_ ?_
 ·exact (fun f0 f1 h0 h1 v r h => sn_55l10 f0 f1 h0 h1 v r (kcast (by kernel_rfl) h))
 ·exact (fun f0 h0 v r h => sn_55 f0 h0 v r (kcast (by kernel_rfl) h))
theorem n_55_ok : SigOk prog 55 sig55 n_55 := fun v r x h hx => n_55l10_all.2 v r h x hx
noncomputable def c33r2 : Cut SN := ⟨[(1, .bp 1 0), (21, .dat .bool)], [(1, .st .tagT)]⟩
noncomputable def sh33 : Shape vw := { rcut := c29z }
noncomputable def sig33 : Sig vw := { params := [.dat (.st .tagT)], rcut := c29z, rvars := [.tmp 2] }
noncomputable def n_33 (v : Tag × Unit) : Option (Int × Unit) :=
 n_27 (v.1, ()) >>= fun x1 =>
 (if decide (x1.1 > (500 : Int)) = true then
    some ((true, v.1, ()))
   else if decide (x1.2.1 > (20 : Int)) = true then
    some ((true, v.1, ()))
   else some ((decide (x1.2.2.1 > (4096 : Int)), v.1, ()))) >>= fun x2 =>
 if x2.1 = true then
  some (((3 : Int), ()))
 else n_54 (x2.2.1, ()) >>= fun x3 =>
 if (!x3.1) = true then
  some (((1 : Int), ()))
 else n_55 (x2.2.1, ()) >>= fun x4 =>
 if x4.1 = true then
  some (((5 : Int), ()))
 else some (((0 : Int), ()))
noncomputable def call33 : Caller vw := fun A fid args S k => match fid with | 27 => callPure prog sig27 n_27 A args S k | 54 => callPure prog sig54 n_54 A args S k | 55 => callPure prog sig55 n_55 A args S k | _ => none
noncomputable def x33 : Xc vw := { P := prog, n := 27, call := call33, sh := sh33, regs := fun k => match k with | 2 => some c33r2 | _ => none }
theorem call33_ok : CallerOk prog call33 := fun A fid args S dst k r h => by
 unfold call33 at h
 split at h
 ·exact callPure_ok (n_27_ok) rfl rfl h
 ·exact callPure_ok (n_54_ok) rfl rfl h
 ·exact callPure_ok (n_55_ok) rfl rfl h
 ·cases h
theorem n_33_ok : SigOk prog 33 sig33 n_33 := fun v r x h hx =>
 fn_ok (X := x33) (sig := sig33) rfl Tryz.func33 (c := bodyOf Tryz.f33) (by kernel_rfl) Tryz.ntmps33 (by kernel_rfl) (by kernel_rfl) rfl Ty.mixed call33_ok rfl (fun C hP hN => (lok_all (kcast (by kernel_rfl) trivial))) (kcast (by kernel_rfl) h) x hx
noncomputable def c57r2 : Cut SN := ⟨[(4, .dat (.int .i64)), (18, .dat .bool)], []⟩
noncomputable def c57z : Cut SN := ⟨[(2, .dat (.int .i64)), (3, .dat .bool)], []⟩
noncomputable def sh57 : Shape vw := { rcut := c57z }
noncomputable def sig57 : Sig vw := { params := [.dat .str], rcut := c57z, rvars := [.tmp 2, .tmp 3] }
noncomputable def n_57 (v : ByteArray × Unit) : Option (Int × Bool × Unit) :=
 n_59 (v.1, ()) >>= fun x1 =>
 (if decide (x1.1 < (0 : Int)) = true then
    some ((x1.1, true, ()))
   else n_60 (x1.1, ()) >>= fun x2 =>
   some ((x1.1, !x2.1.toList == v.1.toList, ()))) >>= fun x2 =>
 if x2.2.1 = true then
  some (((0 : Int), false, ()))
 else some ((x2.1, true, ()))
noncomputable def call57 : Caller vw := fun A fid args S k => match fid with | 59 => callPure prog sig59 n_59 A args S k | 60 => callPure prog sig60 n_60 A args S k | _ => none
noncomputable def x57 : Xc vw := { P := prog, n := 20, call := call57, sh := sh57, regs := fun k => match k with | 2 => some c57r2 | _ => none }
theorem call57_ok : CallerOk prog call57 := fun A fid args S dst k r h => by
 unfold call57 at h
 split at h
 ·exact callPure_ok (n_59_ok) rfl rfl h
 ·exact callPure_ok (n_60_ok) rfl rfl h
 ·cases h
theorem n_57_ok : SigOk prog 57 sig57 n_57 := fun v r x h hx =>
 fn_ok (X := x57) (sig := sig57) rfl Tryz.func57 (c := bodyOf Tryz.f57) (by kernel_rfl) Tryz.ntmps57 (by kernel_rfl) (by kernel_rfl) rfl Ty.mixed call57_ok rfl (fun C hP hN => (lok_all (kcast (by kernel_rfl) trivial))) (kcast (by kernel_rfl) h) x hx
noncomputable def c56l7 : Cut SN := ⟨[(1, .dat .str), (2, .bp 2 0), (7, .dat (.int .i64))], [(2, .st .tagT)]⟩
noncomputable def c56r3 : Cut SN := ⟨[(5, .dat (.int .i64)), (23, .dat .bool)], []⟩
noncomputable def sh56 : Shape vw := { exits := fun id => match id with | 0 => c103c75e0 | _ => ⟨[], []⟩, rcut := c103c75z }
noncomputable def sig56 : Sig vw := { params := [.dat (.st .tagT), .dat .str], rcut := c103c75z, rvars := [.tmp 4] }
noncomputable def n_56l7 (v : ByteArray × Int × Tag × Unit) : Option (((Int × Unit) ⊕ (Unit))) :=
 if decide (v.2.1 < (↑v.2.2.1.names.length : Int)) = true then
  if (0 : Int) ≤ v.2.1 then
   v.2.2.1.names[v.2.1.toNat]? >>= fun x1 =>
   if (x1.toList == v.1.toList) = true then
    some (Sum.inl (v.2.1, ()))
   else n_56l7 (v.1, i64.wrap (v.2.1 + (1 : Int)), v.2.2.1, ())
  else none
 else some (Sum.inr ())
 partial_fixpoint
noncomputable def n_56 (v : Tag × ByteArray × Unit) : Option (Int × Unit) :=
 if (v.1.kind == (5 : Int)) = true then
  n_57 (v.2.1, ()) >>= fun x1 =>
  (if x1.2.1 = true then
     some ((x1.1, decide (x1.1 < (↑v.1.parts.length : Int)), ()))
    else some ((x1.1, false, ()))) >>= fun x2 =>
  if x2.2.1 = true then
   some ((x2.1, ()))
  else some (((-1 : Int), ()))
 else n_56l7 (v.2.1, (0 : Int), v.1, ()) >>= fun x1 => match x1 with
  | .inl y1 => some y1
  | .inr y1 => some (((-1 : Int), ()))
noncomputable def call56 : Caller vw := fun A fid args S k => match fid with | 57 => callPure prog sig57 n_57 A args S k | _ => none
noncomputable def x56 : Xc vw := { P := prog, n := 40, call := call56, sh := sh56, regs := fun k => match k with | 3 => some c56r3 | _ => none, loops := fun k => match k with | 7 => some { cut := c56l7, alts := [.ret, .exit 0], F := n_56l7 } | _ => none }
theorem call56_ok : CallerOk prog call56 := fun A fid args S dst k r h => by
 unfold call56 at h
 split at h
 ·exact callPure_ok (n_57_ok) rfl rfl h
 ·cases h
theorem n_56l7_ok (C : Ctx) (hP : C.P = prog) (hN : C.N = 40) : LoopOk C (loopNo (bodyOf Tryz.f56) 0) (sh := sh56) { cut := c56l7, alts := [.ret, .exit 0], F := n_56l7 } :=
 n_56l7.partial_correctness (motive := fun v out => AWpL C (loopNo (bodyOf Tryz.f56) 0) (encS vw (conc vw c56l7 v)) (OutQ sh56 [.ret, .exit 0] out)) fun F ih v out h =>
  loop_step (X := x56) (b := (loopNo (bodyOf Tryz.f56) 0)) hP hN Ty.mixed call56_ok (lok_all (X := x56) (c := (loopNo (bodyOf Tryz.f56) 0)) (kcast (by kernel_rfl : True = AllB (LoopsP C (x56)) (loopsIn (loopNo (bodyOf Tryz.f56) 0))) trivial)) ih (kcast (by kernel_rfl) h)
theorem n_56_ok : SigOk prog 56 sig56 n_56 := fun v r x h hx =>
 fn_ok (X := x56) (sig := sig56) rfl Tryz.func56 (c := bodyOf Tryz.f56) (by kernel_rfl) Tryz.ntmps56 (by kernel_rfl) (by kernel_rfl) rfl Ty.mixed call56_ok rfl (fun C hP hN => (lok_all (kcast (by kernel_rfl : AllB (LoopsP C (x56)) [(loopNo (bodyOf Tryz.f56) 0)] = AllB (LoopsP C (x56)) (loopsIn (bodyOf Tryz.f56))) ⟨loop_at (X := x56) (b := (loopNo (bodyOf Tryz.f56) 0)) (by kernel_rfl) (n_56l7_ok C hP hN), trivial⟩))) (kcast (by kernel_rfl) h) x hx
noncomputable def c34j20 : Cut SN := ⟨[(3, .bp 3 0), (5, .bp 5 0), (6, .bp 6 0)], [(3, .box none [.dat (.int .i64), .dat (.int .i64), .dat .str, .vh 3033, .vh 3034]), (5, .st .tagT), (6, .st .tagT), (3033, .vec 9 .str), (3034, .vec 25 (.st .tagT))]⟩
noncomputable def c34r16 : Cut SN := ⟨[(3, .bp 3 0), (5, .bp 5 0), (6, .bp 6 0), (77, .dat .bool)], [(3, .box none [.dat (.int .i64), .dat (.int .i64), .dat .str, .vh 3033, .vh 3034]), (5, .st .tagT), (6, .st .tagT), (3033, .vec 9 .str), (3034, .vec 25 (.st .tagT))]⟩
noncomputable def c34z : Cut SN := ⟨[(6, .bp 6 0), (7, .dat .bool)], [(6, .st .tagT)]⟩
noncomputable def sh34 : Shape vw := { rcut := c34z }
noncomputable def sig34 : Sig vw := { params := [.dat (.st .tagT), .dat (.sl .str), .dat (.st .tagT)], rcut := c34z, rvars := [.cell 6 25, .tmp 7] }
noncomputable def n_34 (v : Tag × (List ByteArray) × Tag × Unit) : Option (Bool × Tag × Unit) :=
 if ((↑v.2.1.length : Int) == (0 : Int)) = true then
  some ((true, v.2.2.1, ()))
 else if 0 + v.1.names.length ≤ (4294967296 : Nat) then
  if 0 + v.1.parts.length ≤ (4294967296 : Nat) then
   v.2.1[Int.toNat (0 : Int)]? >>= fun x1 =>
   n_56 (Tag.mk v.1.kind v.1.n v.1.text ([] ++ v.1.names) ([] ++ v.1.parts), x1, ()) >>= fun x2 =>
   if decide (x2.1 ≥ (0 : Int)) = true then
    if (0 : Int) ≤ x2.1 ∧ x2.1 < (↑([] ++ v.1.parts).length : Int) then
     ([] ++ v.1.parts)[x2.1.toNat]? >>= fun x3 =>
     if (0 : Int) ≤ (1 : Int) ∧ (1 : Int) ≤ (↑v.2.1.length : Int) ∧ (↑v.2.1.length : Int) ≤ (↑v.2.1.length : Int) then
      n_34 (x3, List.drop (Int.toNat (1 : Int)) (List.take (↑v.2.1.length : Int).toNat v.2.1), v.2.2.1, ()) >>= fun x4 =>
      if (0 : Int) ≤ x2.1 ∧ x2.1 < (↑([] ++ v.1.parts).length : Int) then
       ([] ++ v.1.parts)[x2.1.toNat]? >>= fun x5 =>
       some ((x4.1, Tag.mk v.1.kind v.1.n v.1.text ([] ++ v.1.names) (([] ++ v.1.parts).set x2.1.toNat (Tag.mk x4.2.1.kind x4.2.1.n x4.2.1.text x4.2.1.names x4.2.1.parts)), ()))
      else none
     else none
    else none
   else if decide ((↑v.2.1.length : Int) > (1 : Int)) = true then
    some ((false, Tag.mk (0 : Int) (0 : Int) (ByteArray.mk #[]) [] [], ()))
   else (if (v.1.kind == (5 : Int)) = true then
     v.2.1[Int.toNat (0 : Int)]? >>= fun x3 =>
     n_57 (x3, ()) >>= fun x4 =>
     (if (!x4.2.1) = true then
        some ((true, v.1.kind, v.1.n, v.1.text, v.2.2.1, Tag.mk (0 : Int) (0 : Int) (ByteArray.mk #[]) [] [], [] ++ v.1.names, [] ++ v.1.parts, ()))
       else some ((x4.1 != (↑([] ++ v.1.parts).length : Int), v.1.kind, v.1.n, v.1.text, v.2.2.1, Tag.mk (0 : Int) (0 : Int) (ByteArray.mk #[]) [] [], [] ++ v.1.names, [] ++ v.1.parts, ()))) >>= fun x5 =>
     if x5.1 = true then
      some (Sum.inr (false, Tag.mk (0 : Int) (0 : Int) (ByteArray.mk #[]) [] [], ()))
     else some (Sum.inl (x5.2.1, x5.2.2.1, x5.2.2.2.1, x5.2.2.2.2.1, x5.2.2.2.2.2.1, x5.2.2.2.2.2.2.1, x5.2.2.2.2.2.2.2.1, ()))
    else if (v.1.kind == (6 : Int)) = true then
     v.2.1[Int.toNat (0 : Int)]? >>= fun x3 =>
     if ([] ++ v.1.names).length + [x3].length ≤ (4294967296 : Nat) then
      some (Sum.inl (v.1.kind, v.1.n, v.1.text, v.2.2.1, Tag.mk (0 : Int) (0 : Int) (ByteArray.mk #[]) [] [], [] ++ v.1.names ++ [x3], [] ++ v.1.parts, ()))
     else none
    else some (Sum.inr (false, Tag.mk (0 : Int) (0 : Int) (ByteArray.mk #[]) [] [], ()))) >>= fun x3 => match x3 with
    | .inl y3 => if y3.2.2.2.2.2.2.1.length + [y3.2.2.2.1].length ≤ (4294967296 : Nat) then
      some ((true, Tag.mk y3.1 y3.2.1 y3.2.2.1 y3.2.2.2.2.2.1 (y3.2.2.2.2.2.2.1 ++ [y3.2.2.2.1]), ()))
     else none
    | .inr y3 => some y3
  else none
 else none
 partial_fixpoint
noncomputable def call34 (n_34 : Tag × (List ByteArray) × Tag × Unit → Option (Bool × Tag × Unit)) : Caller vw := fun A fid args S k => match fid with | 34 => callPure prog sig34 n_34 A args S k | 56 => callPure prog sig56 n_56 A args S k | 57 => callPure prog sig57 n_57 A args S k | _ => none
noncomputable def x34 (n_34 : Tag × (List ByteArray) × Tag × Unit → Option (Bool × Tag × Unit)) : Xc vw := { P := prog, n := 96, nm := fun d => match d with | 17 => 40017 | 22 => 40022 | _ => d, call := call34 n_34, sh := sh34, joins := fun k => match k with | 20 => some (c34j20, [.norm, .ret]) | _ => none, regs := fun k => match k with | 16 => some c34r16 | _ => none }
abbrev mn_34 (v : Tag × (List ByteArray) × Tag × Unit) (r : Bool × Tag × Unit) : Prop := (fun v r => ∀ x, resV prog sig34 r = some x → FnOk prog 34 (encL vw (startS sig34 v).len (startOs sig34 v).1) (encOs (startS sig34 v).len (startS sig34 v).own) (encV vw (conc vw sig34.rcut r).len x) (encOs (conc vw sig34.rcut r).len (kept sig34 r))) v r
theorem cn_34 (f0 : Tag × (List ByteArray) × Tag × Unit → Option (Bool × Tag × Unit)) (h0 : ∀ v r, f0 v = some r → mn_34 v r) : CallerOk prog (x34 f0).call := (by
    intro A fid args S dst k r h
    unfold x34 call34 at h
    simp only at h
    split at h
    ·exact callPure_ok ((fun v r x h hx => h0 v r h x hx)) rfl rfl h
    ·exact callPure_ok (n_56_ok) rfl rfl h
    ·exact callPure_ok (n_57_ok) rfl rfl h
    ·cases h)
theorem sn_34 (f0 : Tag × (List ByteArray) × Tag × Unit → Option (Bool × Tag × Unit)) (h0 : ∀ v r, f0 v = some r → mn_34 v r) (v : Tag × (List ByteArray) × Tag × Unit) (r : Bool × Tag × Unit) (h : exF (x34 f0) sig34 rfl (bodyOf Tryz.f34) v = some r) : mn_34 v r := fun x hx => fn_ok (X := x34 f0) (sig := sig34) rfl Tryz.func34 (c := bodyOf Tryz.f34) (by kernel_rfl) Tryz.ntmps34 (by kernel_rfl) (by kernel_rfl) rfl Ty.mixed (cn_34 f0 h0) rfl (fun C hP hN => (lok_all (X := x34 f0) (c := (bodyOf Tryz.f34)) (kcast (by kernel_rfl : True = AllB (LoopsP C (x34 f0)) (loopsIn (bodyOf Tryz.f34))) trivial))) h x hx
theorem n_34_ok : SigOk prog 34 sig34 n_34 := fun v r x h hx => (n_34.partial_correctness (motive := mn_34) (fun f0 h0 v r h => sn_34 f0 h0 v r (kcast (by kernel_rfl) h))) v r h x hx
noncomputable def sh35 : Shape vw := { rcut := c32z }
noncomputable def sig35 : Sig vw := { params := [.dat (.st .tagT)], rcut := c32z, rvars := [.cell 2 25, .tmp 3] }
noncomputable def n_35 (v : Tag × Unit) : Option (Int × Tag × Unit) :=
 n_33 (v.1, ()) >>= fun x1 =>
 if (x1.1 != (0 : Int)) = true then
  some ((x1.1, Tag.mk (0 : Int) (0 : Int) (ByteArray.mk #[]) [] [], ()))
 else some (((0 : Int), v.1, ()))
noncomputable def call35 : Caller vw := fun A fid args S k => match fid with | 33 => callPure prog sig33 n_33 A args S k | _ => none
noncomputable def x35 : Xc vw := { P := prog, n := 12, call := call35, sh := sh35 }
theorem call35_ok : CallerOk prog call35 := fun A fid args S dst k r h => by
 unfold call35 at h
 split at h
 ·exact callPure_ok (n_33_ok) rfl rfl h
 ·cases h
theorem n_35_ok : SigOk prog 35 sig35 n_35 := fun v r x h hx =>
 fn_ok (X := x35) (sig := sig35) rfl Tryz.func35 (c := bodyOf Tryz.f35) (by kernel_rfl) Tryz.ntmps35 (by kernel_rfl) (by kernel_rfl) rfl Ty.mixed call35_ok rfl (fun C hP hN => (lok_all (kcast (by kernel_rfl) trivial))) (kcast (by kernel_rfl) h) x hx
noncomputable def sh11 : Shape vw := { rcut := c10z }
noncomputable def sig11 : Sig vw := { params := [.dat (.st .tagT), .dat (.sl .str), .dat (.st .tagT)], rcut := c10z, rvars := [.cell 6 25, .tmp 7] }
noncomputable def n_11 (v : Tag × (List ByteArray) × Tag × Unit) : Option (Int × Tag × Unit) :=
 n_33 (v.1, ()) >>= fun x1 =>
 if (x1.1 != (0 : Int)) = true then
  some ((x1.1, Tag.mk (0 : Int) (0 : Int) (ByteArray.mk #[]) [] [], ()))
 else n_33 (v.2.2.1, ()) >>= fun x2 =>
 if (x2.1 != (0 : Int)) = true then
  some ((x2.1, Tag.mk (0 : Int) (0 : Int) (ByteArray.mk #[]) [] [], ()))
 else n_34 (v.1, v.2.1, v.2.2.1, ()) >>= fun x3 =>
 if (!x3.1) = true then
  some (((4 : Int), Tag.mk (0 : Int) (0 : Int) (ByteArray.mk #[]) [] [], ()))
 else n_35 (x3.2.1, ()) >>= fun x4 =>
 some ((x4.1, x4.2.1, ()))
noncomputable def call11 : Caller vw := fun A fid args S k => match fid with | 33 => callPure prog sig33 n_33 A args S k | 34 => callPure prog sig34 n_34 A args S k | 35 => callPure prog sig35 n_35 A args S k | _ => none
noncomputable def x11 : Xc vw := { P := prog, n := 37, call := call11, sh := sh11 }
theorem call11_ok : CallerOk prog call11 := fun A fid args S dst k r h => by
 unfold call11 at h
 split at h
 ·exact callPure_ok (n_33_ok) rfl rfl h
 ·exact callPure_ok (n_34_ok) rfl rfl h
 ·exact callPure_ok (n_35_ok) rfl rfl h
 ·cases h
theorem n_11_ok : SigOk prog 11 sig11 n_11 := fun v r x h hx =>
 fn_ok (X := x11) (sig := sig11) rfl Tryz.func11 (c := bodyOf Tryz.f11) (by kernel_rfl) Tryz.ntmps11 (by kernel_rfl) (by kernel_rfl) rfl Ty.mixed call11_ok rfl (fun C hP hN => (lok_all (kcast (by kernel_rfl) trivial))) (kcast (by kernel_rfl) h) x hx
noncomputable def sig132 : Sig vw := { params := [.dat .str, .dat (.int .u8)], rcut := c103c75z, rvars := [.tmp 4] }
noncomputable def n_132 (v : ByteArray × Int × Unit) : Option (Int × Unit) :=
 some (Lib.indexByte v.1.data.toList v.2.1.toNat.toUInt8, ())
theorem n_132_ok : SigOk prog 132 sig132 n_132 := fun v r x h hx => by
 obtain ⟨s, c, u⟩ := v
 cases h; cases hx
 exact kcast (by kernel_rfl) (FnOk.pure (P := prog) (f := 132) (args := [.d (.v (.string s)), .d (.v (.int .u8 c))]) (r := .d (.v (.int .i64 (Lib.indexByte s.data.toList c.toNat.toUInt8)))) (by kernel_rfl) fun E M w vs _ _ hv => by
  obtain ⟨v1, v2, rfl, h1, h2⟩ := hreps_two hv
  rw [h1.dv, h2.dv]
  exact (Tryz.stringslite_IndexByte s c w).mono fun e w' ⟨he, hw⟩ => ⟨_, he, .d (.v _), hw ▸ Go.RowKit.Below.refl _ _⟩)
noncomputable def sh118 : Shape vw := { rcut := c103c75z }
noncomputable def sig118 : Sig vw := { params := [.dat .str, .dat (.int .u8)], rcut := c103c75z, rvars := [.tmp 4] }
noncomputable def n_118 (v : ByteArray × Int × Unit) : Option (Int × Unit) :=
 n_132 (v.1, v.2.1, ()) >>= fun x1 =>
 some ((x1.1, ()))
noncomputable def call118 : Caller vw := fun A fid args S k => match fid with | 132 => callPure prog sig132 n_132 A args S k | _ => none
noncomputable def x118 : Xc vw := { P := prog, n := 8, call := call118, sh := sh118 }
theorem call118_ok : CallerOk prog call118 := fun A fid args S dst k r h => by
 unfold call118 at h
 split at h
 ·exact callPure_ok (n_132_ok) rfl rfl h
 ·cases h
theorem n_118_ok : SigOk prog 118 sig118 n_118 := fun v r x h hx =>
 fn_ok (X := x118) (sig := sig118) rfl Tryz.func118 (c := bodyOf Tryz.f118) (by kernel_rfl) Tryz.ntmps118 (by kernel_rfl) (by kernel_rfl) rfl Ty.mixed call118_ok rfl (fun C hP hN => (lok_all (kcast (by kernel_rfl) trivial))) (kcast (by kernel_rfl) h) x hx
noncomputable def sig133 : Sig vw := { params := [.dat .str], rcut := c60z, rvars := [.tmp 2] }
noncomputable def n_133 (v : ByteArray × Unit) : Option (ByteArray × Unit) :=
 if v.1.size ≤ 140737488355328 ∧ v.1.data.toList.all (fun b => decide (b.toNat < 128)) = true then some (⟨(Lib.toLowerA v.1.data.toList).toArray⟩, ()) else none
theorem n_133_ok : SigOk prog 133 sig133 n_133 := fun v r x h hx => by
 obtain ⟨s, u⟩ := v
 unfold n_133 at h
 split at h
 ·rename_i hc
  obtain ⟨h0, h1⟩ := hc
  simp only at h0 h1
  cases h; cases hx
  exact kcast (by kernel_rfl) (FnOk.pure (P := prog) (f := 133) (args := [.d (.v (.string s))]) (r := .d (.v (.string ⟨(Lib.toLowerA s.data.toList).toArray⟩))) (by kernel_rfl) fun E M w vs hg hm hv => by
   obtain ⟨v1, rfl, h2⟩ := hreps_one hv
   rw [h2.dv]
   exact (Tryz.strings_ToLower_ascii s w h0 (fun j b hb => of_decide_eq_true (List.all_eq_true.1 h1 b (List.mem_of_getElem? hb)))).mono fun e w' ⟨he, hw⟩ => ⟨_, he, .d (.v _), hw⟩)
 ·cases h
noncomputable def c74s5bd0r1 : Cut SN := ⟨[(0, .bp 100000 0), (33, .dat .bool)], [(100000, .st .readerT)]⟩
noncomputable def c74s5bd0z : Cut SN := ⟨[(0, .bp 100000 0), (4, .dat .bool)], [(100000, .st .readerT)]⟩
noncomputable def sh74s5bd0 : Shape vw := { rcut := c74s5bd0z }
noncomputable def sig74s5bd0 : Sig vw := { params := [.bp 100000 0, .dat .str], objs := [(100000, .st .readerT)], rcut := c74s5bd0z, rvars := [.tmp 4], keep := [100000] }
noncomputable def n_74s5bd0 (v : ByteArray × Reader × Unit) : Option (Bool × Reader × Unit) :=
 (if (v.2.1.at0 == (↑v.2.1.s.size : Int)) = true then
    some ((true, v.2.1, ()))
   else if (0 : Int) ≤ v.2.1.at0 ∧ v.2.1.at0 ≤ i64.wrap (v.2.1.at0 + (1 : Int)) ∧ i64.wrap (v.2.1.at0 + (1 : Int)) ≤ (↑v.2.1.s.size : Int) then
    n_101 (v.1, v.2.1.s.extract v.2.1.at0.toNat (i64.wrap (v.2.1.at0 + (1 : Int))).toNat, ()) >>= fun x1 =>
    some ((!x1.1, v.2.1, ()))
   else none) >>= fun x1 =>
 if x1.1 = true then
  some ((false, x1.2.1, ()))
 else some ((true, Reader.mk x1.2.1.s (i64.wrap (x1.2.1.at0 + (1 : Int))), ()))
noncomputable def call74s5bd0 : Caller vw := fun A fid args S k => match fid with | 101 => callPure prog sig101 n_101 A args S k | _ => none
noncomputable def x74s5bd0 : Xc vw := { P := prog, n := 41, call := call74s5bd0, sh := sh74s5bd0, regs := fun k => match k with | 1 => some c74s5bd0r1 | _ => none }
theorem call74s5bd0_ok : CallerOk prog call74s5bd0 := fun A fid args S dst k r h => by
 unfold call74s5bd0 at h
 split at h
 ·exact callPure_ok (n_101_ok) rfl rfl h
 ·cases h
theorem n_74s5bd0_ok : SigOk prog 74 sig74s5bd0 n_74s5bd0 := fun v r x h hx =>
 fn_ok (X := x74s5bd0) (sig := sig74s5bd0) rfl Tryz.func74 (c := bodyOf Tryz.f74) (by kernel_rfl) Tryz.ntmps74 (by kernel_rfl) (by kernel_rfl) rfl Ty.mixed call74s5bd0_ok rfl (fun C hP hN => (lok_all (kcast (by kernel_rfl) trivial))) (kcast (by kernel_rfl) h) x hx
noncomputable def c119sadb0l11 : Cut SN := ⟨[(0, .bp 100000 0), (10, .dat (.int .i32)), (50, .dat (.sl (.int .u8))), (51, .dat (.int .i64)), (52, .dat (.int .i64))], [(100000, .st .readerT)]⟩
noncomputable def c119sadb0j7 : Cut SN := ⟨[(0, .bp 100000 0), (8, .dat (.int .i64)), (9, .dat .str)], [(100000, .st .readerT)]⟩
noncomputable def c119sadb0r7 : Cut SN := ⟨[(0, .bp 100000 0), (8, .dat (.int .i64)), (38, .dat .bool)], [(100000, .st .readerT)]⟩
noncomputable def c119sadb0e1 : Cut SN := ⟨[(0, .bp 100000 0), (10, .dat (.int .i32))], [(100000, .st .readerT)]⟩
noncomputable def c119sadb0z : Cut SN := ⟨[(0, .bp 100000 0), (6, .dat (.int .i32)), (7, .dat .bool)], [(100000, .st .readerT)]⟩
noncomputable def sh119sadb0 : Shape vw := { exits := fun id => match id with | 1 => c119sadb0e1 | _ => ⟨[], []⟩, rcut := c119sadb0z }
noncomputable def sig119sadb0 : Sig vw := { params := [.bp 100000 0, .dat .str, .dat .str], objs := [(100000, .st .readerT)], rcut := c119sadb0z, rvars := [.tmp 6, .tmp 7], keep := [100000] }
noncomputable def n_119sadb0l11 (v : Int × (List Int) × Int × Int × Reader × Unit) : Option ((Int × Reader × Unit)) :=
 if decide (v.2.2.2.1 < v.2.2.1) = true then
  if (0 : Int) ≤ v.2.2.2.1 then
   v.2.1[v.2.2.2.1.toNat]? >>= fun x1 =>
   n_118 (ByteArray.mk #[48, 49, 50, 51, 52, 53, 54, 55, 56, 57, 97, 98, 99, 100, 101, 102, 65, 66, 67, 68, 69, 70], x1, ()) >>= fun x2 =>
   n_119sadb0l11 (i32.wrap (i32.wrap ((16 : Int) * v.1) + i32.wrap x2.1), v.2.1, v.2.2.1, i64.wrap (v.2.2.2.1 + (1 : Int)), v.2.2.2.2.1, ())
  else none
 else some ((v.1, v.2.2.2.2.1, ()))
 partial_fixpoint
noncomputable def n_119sadb0 (v : ByteArray × ByteArray × Reader × Unit) : Option (Int × Bool × Reader × Unit) :=
 (n_74s5bd0 (v.1, v.2.2.1, ()) >>= fun x1 =>
   if x1.1 = true then
    some (Sum.inl (v.2.2.1.at0, ByteArray.mk #[48, 49, 50, 51, 52, 53, 54, 55, 56, 57, 97, 98, 99, 100, 101, 102, 65, 66, 67, 68, 69, 70], x1.2.1, ()))
   else n_74s5bd0 (ByteArray.mk #[100, 68], x1.2.1, ()) >>= fun x2 =>
   if x2.1 = true then
    some (Sum.inl (v.2.2.1.at0, v.2.1, x2.2.1, ()))
   else some (Sum.inr ((0 : Int), false, x2.2.1, ()))) >>= fun x1 => match x1 with
   | .inl y1 => (n_74s5bd0 (y1.2.1, y1.2.2.1, ()) >>= fun x2 =>
     if (!x2.1) = true then
      some ((y1.1, true, x2.2.1, ()))
     else n_74s5bd0 (ByteArray.mk #[48, 49, 50, 51, 52, 53, 54, 55, 56, 57, 97, 98, 99, 100, 101, 102, 65, 66, 67, 68, 69, 70], x2.2.1, ()) >>= fun x3 =>
     if (!x3.1) = true then
      some ((y1.1, true, x3.2.1, ()))
     else n_74s5bd0 (ByteArray.mk #[48, 49, 50, 51, 52, 53, 54, 55, 56, 57, 97, 98, 99, 100, 101, 102, 65, 66, 67, 68, 69, 70], x3.2.1, ()) >>= fun x4 =>
     some ((y1.1, !x4.1, x4.2.1, ()))) >>= fun x2 =>
    if x2.2.1 = true then
     some (((0 : Int), false, x2.2.2.1, ()))
    else if (0 : Int) ≤ x2.1 ∧ x2.1 ≤ x2.2.2.1.at0 ∧ x2.2.2.1.at0 ≤ (↑x2.2.2.1.s.size : Int) then
     n_133 (x2.2.2.1.s.extract x2.1.toNat x2.2.2.1.at0.toNat, ()) >>= fun x3 =>
     n_119sadb0l11 ((0 : Int), Bs.ints x3.1, (↑(Bs.ints x3.1).length : Int), (0 : Int), x2.2.2.1, ()) >>= fun x4 =>
     some ((x4.1, true, x4.2.1, ()))
    else none
   | .inr y1 => some y1
noncomputable def call119sadb0 : Caller vw := fun A fid args S k => match fid with | 74 => callObj prog sig74s5bd0 n_74s5bd0 A args S k | 118 => callPure prog sig118 n_118 A args S k | 133 => callPure prog sig133 n_133 A args S k | _ => none
noncomputable def x119sadb0 : Xc vw := { P := prog, n := 64, call := call119sadb0, sh := sh119sadb0, joins := fun k => match k with | 7 => some (c119sadb0j7, [.norm, .ret]) | _ => none, regs := fun k => match k with | 7 => some c119sadb0r7 | _ => none, loops := fun k => match k with | 11 => some { cut := c119sadb0l11, alts := [.exit 1], F := n_119sadb0l11 } | _ => none }
theorem call119sadb0_ok : CallerOk prog call119sadb0 := fun A fid args S dst k r h => by
 unfold call119sadb0 at h
 split at h
 ·exact callObj_ok (n_74s5bd0_ok) h
 ·exact callPure_ok (n_118_ok) rfl rfl h
 ·exact callPure_ok (n_133_ok) rfl rfl h
 ·cases h
theorem n_119sadb0l11_ok (C : Ctx) (hP : C.P = prog) (hN : C.N = 64) : LoopOk C (loopNo (bodyOf Tryz.f119) 0) (sh := sh119sadb0) { cut := c119sadb0l11, alts := [.exit 1], F := n_119sadb0l11 } :=
 n_119sadb0l11.partial_correctness (motive := fun v out => AWpL C (loopNo (bodyOf Tryz.f119) 0) (encS vw (conc vw c119sadb0l11 v)) (OutQ sh119sadb0 [.exit 1] out)) fun F ih v out h =>
  loop_step (X := x119sadb0) (b := (loopNo (bodyOf Tryz.f119) 0)) hP hN Ty.mixed call119sadb0_ok (lok_all (X := x119sadb0) (c := (loopNo (bodyOf Tryz.f119) 0)) (kcast (by kernel_rfl : True = AllB (LoopsP C (x119sadb0)) (loopsIn (loopNo (bodyOf Tryz.f119) 0))) trivial)) ih (kcast (by kernel_rfl) h)
theorem n_119sadb0_ok : SigOk prog 119 sig119sadb0 n_119sadb0 := fun v r x h hx =>
 fn_ok (X := x119sadb0) (sig := sig119sadb0) rfl Tryz.func119 (c := bodyOf Tryz.f119) (by kernel_rfl) Tryz.ntmps119 (by kernel_rfl) (by kernel_rfl) rfl Ty.mixed call119sadb0_ok rfl (fun C hP hN => (lok_all (kcast (by kernel_rfl : AllB (LoopsP C (x119sadb0)) [(loopNo (bodyOf Tryz.f119) 0)] = AllB (LoopsP C (x119sadb0)) (loopsIn (bodyOf Tryz.f119))) ⟨loop_at (X := x119sadb0) (b := (loopNo (bodyOf Tryz.f119) 0)) (by kernel_rfl) (n_119sadb0l11_ok C hP hN), trivial⟩))) (kcast (by kernel_rfl) h) x hx
noncomputable def c26l4 : Cut SN := ⟨[(0, .dat (.sl .str)), (1, .dat (.sl .str)), (5, .dat (.int .i64))], []⟩
noncomputable def sh26 : Shape vw := { exits := fun id => match id with | 0 => c103c75e0 | _ => ⟨[], []⟩, rcut := c77c75z }
noncomputable def sig26 : Sig vw := { params := [.dat (.sl .str), .dat (.sl .str)], rcut := c77c75z, rvars := [.tmp 4] }
noncomputable def n_26l4 (v : (List ByteArray) × (List ByteArray) × Int × Unit) : Option (((Bool × Unit) ⊕ (Unit))) :=
 if decide (v.2.2.1 < (↑v.1.length : Int)) = true then
  if (0 : Int) ≤ v.2.2.1 then
   v.1[v.2.2.1.toNat]? >>= fun x1 =>
   if (0 : Int) ≤ v.2.2.1 then
    v.2.1[v.2.2.1.toNat]? >>= fun x2 =>
    if (!x1.toList == x2.toList) = true then
     some (Sum.inl (false, ()))
    else n_26l4 (v.1, v.2.1, i64.wrap (v.2.2.1 + (1 : Int)), ())
   else none
  else none
 else some (Sum.inr ())
 partial_fixpoint
noncomputable def n_26 (v : (List ByteArray) × (List ByteArray) × Unit) : Option (Bool × Unit) :=
 if ((↑v.1.length : Int) != (↑v.2.1.length : Int)) = true then
  some ((false, ()))
 else n_26l4 (v.1, v.2.1, (0 : Int), ()) >>= fun x1 => match x1 with
  | .inl y1 => some y1
  | .inr y1 => some ((true, ()))
noncomputable def call26 : Caller vw := fun _ _ _ _ _ => none
noncomputable def x26 : Xc vw := { P := prog, n := 26, call := call26, sh := sh26, loops := fun k => match k with | 4 => some { cut := c26l4, alts := [.ret, .exit 0], F := n_26l4 } | _ => none }
theorem call26_ok : CallerOk prog call26 := call_none
theorem n_26l4_ok (C : Ctx) (hP : C.P = prog) (hN : C.N = 26) : LoopOk C (loopNo (bodyOf Tryz.f26) 0) (sh := sh26) { cut := c26l4, alts := [.ret, .exit 0], F := n_26l4 } :=
 n_26l4.partial_correctness (motive := fun v out => AWpL C (loopNo (bodyOf Tryz.f26) 0) (encS vw (conc vw c26l4 v)) (OutQ sh26 [.ret, .exit 0] out)) fun F ih v out h =>
  loop_step (X := x26) (b := (loopNo (bodyOf Tryz.f26) 0)) hP hN Ty.mixed call26_ok (lok_all (X := x26) (c := (loopNo (bodyOf Tryz.f26) 0)) (kcast (by kernel_rfl : True = AllB (LoopsP C (x26)) (loopsIn (loopNo (bodyOf Tryz.f26) 0))) trivial)) ih (kcast (by kernel_rfl) h)
theorem n_26_ok : SigOk prog 26 sig26 n_26 := fun v r x h hx =>
 fn_ok (X := x26) (sig := sig26) rfl Tryz.func26 (c := bodyOf Tryz.f26) (by kernel_rfl) Tryz.ntmps26 (by kernel_rfl) (by kernel_rfl) rfl Ty.mixed call26_ok rfl (fun C hP hN => (lok_all (kcast (by kernel_rfl : AllB (LoopsP C (x26)) [(loopNo (bodyOf Tryz.f26) 0)] = AllB (LoopsP C (x26)) (loopsIn (bodyOf Tryz.f26))) ⟨loop_at (X := x26) (b := (loopNo (bodyOf Tryz.f26) 0)) (by kernel_rfl) (n_26l4_ok C hP hN), trivial⟩))) (kcast (by kernel_rfl) h) x hx
noncomputable def c12l4 : Cut SN := ⟨[(2, .bp 2 0), (3, .bp 3 0), (5, .dat (.int .i64))], [(2, .st .tagT), (3, .st .tagT)]⟩
noncomputable def c12r1 : Cut SN := ⟨[(2, .bp 2 0), (3, .bp 3 0), (41, .dat .bool)], [(2, .st .tagT), (3, .st .tagT)]⟩
noncomputable def sh12 : Shape vw := { exits := fun id => match id with | 0 => c103c75e0 | _ => ⟨[], []⟩, rcut := c77c75z }
noncomputable def sig12 : Sig vw := { params := [.dat (.st .tagT), .dat (.st .tagT)], rcut := c77c75z, rvars := [.tmp 4] }
mutual
noncomputable def n_12l4 (v : Int × Tag × Tag × Unit) : Option (((Bool × Unit) ⊕ (Unit))) :=
 if decide (v.1 < (↑v.2.1.parts.length : Int)) = true then
  if (0 : Int) ≤ v.1 then
   v.2.1.parts[v.1.toNat]? >>= fun x1 =>
   if (0 : Int) ≤ v.1 then
    v.2.2.1.parts[v.1.toNat]? >>= fun x2 =>
    n_12 (x1, x2, ()) >>= fun x3 =>
    if (!x3.1) = true then
     some (Sum.inl (false, ()))
    else n_12l4 (i64.wrap (v.1 + (1 : Int)), v.2.1, v.2.2.1, ())
   else none
  else none
 else some (Sum.inr ())
 partial_fixpoint
noncomputable def n_12 (v : Tag × Tag × Unit) : Option (Bool × Unit) :=
 (if (v.1.kind != v.2.1.kind) = true then
    some ((true, v.1, v.2.1, ()))
   else if (v.1.n != v.2.1.n) = true then
    some ((true, v.1, v.2.1, ()))
   else if (!v.1.text.toList == v.2.1.text.toList) = true then
    some ((true, v.1, v.2.1, ()))
   else n_26 (v.1.names, v.2.1.names, ()) >>= fun x1 =>
   if (!x1.1) = true then
    some ((true, v.1, v.2.1, ()))
   else some (((↑v.1.parts.length : Int) != (↑v.2.1.parts.length : Int), v.1, v.2.1, ()))) >>= fun x1 =>
 if x1.1 = true then
  some ((false, ()))
 else n_12l4 ((0 : Int), x1.2.1, x1.2.2.1, ()) >>= fun x2 => match x2 with
  | .inl y2 => some y2
  | .inr y2 => some ((true, ()))
 partial_fixpoint
end
noncomputable def call12 (n_12l4 : Int × Tag × Tag × Unit → Option (((Bool × Unit) ⊕ (Unit)))) (n_12 : Tag × Tag × Unit → Option (Bool × Unit)) : Caller vw := fun A fid args S k => match fid with | 12 => callPure prog sig12 n_12 A args S k | 26 => callPure prog sig26 n_26 A args S k | _ => none
noncomputable def x12 (n_12l4 : Int × Tag × Tag × Unit → Option (((Bool × Unit) ⊕ (Unit)))) (n_12 : Tag × Tag × Unit → Option (Bool × Unit)) : Xc vw := { P := prog, n := 61, call := call12 n_12l4 n_12, sh := sh12, regs := fun k => match k with | 1 => some c12r1 | _ => none, loops := fun k => match k with | 4 => some { cut := c12l4, alts := [.ret, .exit 0], F := n_12l4 } | _ => none }
abbrev mn_12l4 (v : Int × Tag × Tag × Unit) (r : ((Bool × Unit) ⊕ (Unit))) : Prop := (fun v out => ∀ C : Ctx, C.P = prog → C.N = 61 → AWpL C (loopNo (bodyOf Tryz.f12) 0) (encS vw (conc vw c12l4 v)) (OutQ sh12 [.ret, .exit 0] out)) v r
abbrev mn_12 (v : Tag × Tag × Unit) (r : Bool × Unit) : Prop := (fun v r => ∀ x, resV prog sig12 r = some x → FnOk prog 12 (encL vw (startS sig12 v).len (startOs sig12 v).1) (encOs (startS sig12 v).len (startS sig12 v).own) (encV vw (conc vw sig12.rcut r).len x) (encOs (conc vw sig12.rcut r).len (kept sig12 r))) v r
theorem cn_12l4 (f0 : Int × Tag × Tag × Unit → Option (((Bool × Unit) ⊕ (Unit)))) (f1 : Tag × Tag × Unit → Option (Bool × Unit)) (h0 : ∀ v r, f0 v = some r → mn_12l4 v r) (h1 : ∀ v r, f1 v = some r → mn_12 v r) : CallerOk prog (x12 f0 f1).call := (by
    intro A fid args S dst k r h
    unfold x12 call12 at h
    simp only at h
    split at h
    ·exact callPure_ok ((fun v r x h hx => h1 v r h x hx)) rfl rfl h
    ·exact callPure_ok (n_26_ok) rfl rfl h
    ·cases h)
theorem sn_12l4 (f0 : Int × Tag × Tag × Unit → Option (((Bool × Unit) ⊕ (Unit)))) (f1 : Tag × Tag × Unit → Option (Bool × Unit)) (h0 : ∀ v r, f0 v = some r → mn_12l4 v r) (h1 : ∀ v r, f1 v = some r → mn_12 v r) (v : Int × Tag × Tag × Unit) (r : ((Bool × Unit) ⊕ (Unit))) (h : exL (x12 f0 f1) (loopNo (bodyOf Tryz.f12) 0) c12l4 [.ret, .exit 0] f0 v = some r) : mn_12l4 v r := fun C hP hN => loop_step (X := x12 f0 f1) (b := (loopNo (bodyOf Tryz.f12) 0)) hP hN Ty.mixed (cn_12l4 f0 f1 h0 h1) (lok_all (X := x12 f0 f1) (c := (loopNo (bodyOf Tryz.f12) 0)) (kcast (by kernel_rfl : True = AllB (LoopsP C (x12 f0 f1)) (loopsIn (loopNo (bodyOf Tryz.f12) 0))) trivial)) (cut := c12l4) (alts := [.ret, .exit 0]) (F := f0) (fun v out h => h0 v out h C hP hN) h
theorem cn_12 (f0 : Int × Tag × Tag × Unit → Option (((Bool × Unit) ⊕ (Unit)))) (h0 : ∀ v r, f0 v = some r → mn_12l4 v r) : CallerOk prog (x12 f0 (fun _ => none)).call := (by
    intro A fid args S dst k r h
    unfold x12 call12 at h
    simp only at h
    split at h
    ·exact callPure_ok ((fun v r x h hx => by cases h)) rfl rfl h
    ·exact callPure_ok (n_26_ok) rfl rfl h
    ·cases h)
theorem sn_12 (f0 : Int × Tag × Tag × Unit → Option (((Bool × Unit) ⊕ (Unit)))) (h0 : ∀ v r, f0 v = some r → mn_12l4 v r) (v : Tag × Tag × Unit) (r : Bool × Unit) (h : exF (x12 f0 (fun _ => none)) sig12 rfl (bodyOf Tryz.f12) v = some r) : mn_12 v r := fun x hx => fn_ok (X := x12 f0 (fun _ => none)) (sig := sig12) rfl Tryz.func12 (c := bodyOf Tryz.f12) (by kernel_rfl) Tryz.ntmps12 (by kernel_rfl) (by kernel_rfl) rfl Ty.mixed (cn_12 f0 h0) rfl (fun C hP hN => (lok_all (X := x12 f0 (fun _ => none)) (c := (bodyOf Tryz.f12)) (kcast (by kernel_rfl : AllB (LoopsP C (x12 f0 (fun _ => none))) [(loopNo (bodyOf Tryz.f12) 0)] = AllB (LoopsP C (x12 f0 (fun _ => none))) (loopsIn (bodyOf Tryz.f12))) ⟨loop_at (X := x12 f0 (fun _ => none)) (b := (loopNo (bodyOf Tryz.f12) 0)) (by kernel_rfl) (show LoopOk C (loopNo (bodyOf Tryz.f12) 0) (sh := sh12) { cut := c12l4, alts := [.ret, .exit 0], F := f0 } from fun v out h => h0 v out h C hP hN), trivial⟩))) h x hx
theorem n_12l4_all : (∀ v r, n_12l4 v = some r → mn_12l4 v r) ∧ (∀ v r, n_12 v = some r → mn_12 v r) := by
 refine n_12l4.mutual_partial_correctness
  (motive_1 := mn_12l4)
  (motive_2 := mn_12)
  ?_ ?_
 ·exact (fun f0 f1 h0 h1 v r h => sn_12l4 f0 f1 h0 h1 v r (kcast (by kernel_rfl) h))
 ·exact (fun f0 h0 v r h => sn_12 f0 h0 v r (kcast (by kernel_rfl) h))
theorem n_12_ok : SigOk prog 12 sig12 n_12 := fun v r x h hx => n_12l4_all.2 v r h x hx
noncomputable def c135s43b2j7 : Cut SN := ⟨[(0, .vh 100000), (1, .dat (.int .i32)), (5, .dat (.int .u32)), (25, .dat .bool)], [(100000, .vec 5 (.int .u8))]⟩
noncomputable def c135s43b2r8 : Cut SN := ⟨[(0, .vh 100000), (1, .dat (.int .i32)), (50, .dat .bool)], [(100000, .vec 5 (.int .u8))]⟩
noncomputable def c135s43b2z : Cut SN := ⟨[(4, .vh 2004)], [(2004, .vec 5 (.int .u8))]⟩
noncomputable def sh135s43b2 : Shape vw := { rcut := c135s43b2z }
noncomputable def sig135s43b2 : Sig vw := { params := [.vh 100000, .dat (.int .i32)], objs := [(100000, .vec 5 (.int .u8))], rcut := c135s43b2z, rvars := [.tmp 4], keep := [2004] }
noncomputable def n_135s43b2 (v : Int × (List Int) × Unit) : Option ((List Int) × Unit) :=
 if decide (IntKind.u32.wrap v.1 ≤ (2047 : Int)) = true then
  if v.2.1.length + [Bs.ior u8 (192 : Int) (u8.wrap (Bs.ishr i32 v.1 (6 : Int))), Bs.ior u8 (128 : Int) (Bs.iand u8 (u8.wrap v.1) (63 : Int))].length ≤ (4294967296 : Nat) then
   some ((v.2.1 ++ [Bs.ior u8 (192 : Int) (u8.wrap (Bs.ishr i32 v.1 (6 : Int))), Bs.ior u8 (128 : Int) (Bs.iand u8 (u8.wrap v.1) (63 : Int))], ()))
  else none
 else (if decide (IntKind.u32.wrap v.1 < (55296 : Int)) = true then
   some ((v.1, IntKind.u32.wrap v.1, true, v.2.1, ()))
  else (if decide ((57343 : Int) < IntKind.u32.wrap v.1) = true then
    some ((v.1, IntKind.u32.wrap v.1, decide (IntKind.u32.wrap v.1 ≤ (65535 : Int)), v.2.1, ()))
   else some ((v.1, IntKind.u32.wrap v.1, false, v.2.1, ()))) >>= fun x1 =>
  some ((x1.1, x1.2.1, x1.2.2.1, x1.2.2.2.1, ()))) >>= fun x1 =>
 if x1.2.2.1 = true then
  if x1.2.2.2.1.length + [Bs.ior u8 (224 : Int) (u8.wrap (Bs.ishr i32 x1.1 (12 : Int))), Bs.ior u8 (128 : Int) (Bs.iand u8 (u8.wrap (Bs.ishr i32 x1.1 (6 : Int))) (63 : Int)), Bs.ior u8 (128 : Int) (Bs.iand u8 (u8.wrap x1.1) (63 : Int))].length ≤ (4294967296 : Nat) then
   some ((x1.2.2.2.1 ++ [Bs.ior u8 (224 : Int) (u8.wrap (Bs.ishr i32 x1.1 (12 : Int))), Bs.ior u8 (128 : Int) (Bs.iand u8 (u8.wrap (Bs.ishr i32 x1.1 (6 : Int))) (63 : Int)), Bs.ior u8 (128 : Int) (Bs.iand u8 (u8.wrap x1.1) (63 : Int))], ()))
  else none
 else (if decide (x1.2.1 > (65535 : Int)) = true then
   some ((x1.1, decide (x1.2.1 ≤ (1114111 : Int)), x1.2.2.2.1, ()))
  else some ((x1.1, false, x1.2.2.2.1, ()))) >>= fun x2 =>
 if x2.2.1 = true then
  if x2.2.2.1.length + [Bs.ior u8 (240 : Int) (u8.wrap (Bs.ishr i32 x2.1 (18 : Int))), Bs.ior u8 (128 : Int) (Bs.iand u8 (u8.wrap (Bs.ishr i32 x2.1 (12 : Int))) (63 : Int)), Bs.ior u8 (128 : Int) (Bs.iand u8 (u8.wrap (Bs.ishr i32 x2.1 (6 : Int))) (63 : Int)), Bs.ior u8 (128 : Int) (Bs.iand u8 (u8.wrap x2.1) (63 : Int))].length ≤ (4294967296 : Nat) then
   some ((x2.2.2.1 ++ [Bs.ior u8 (240 : Int) (u8.wrap (Bs.ishr i32 x2.1 (18 : Int))), Bs.ior u8 (128 : Int) (Bs.iand u8 (u8.wrap (Bs.ishr i32 x2.1 (12 : Int))) (63 : Int)), Bs.ior u8 (128 : Int) (Bs.iand u8 (u8.wrap (Bs.ishr i32 x2.1 (6 : Int))) (63 : Int)), Bs.ior u8 (128 : Int) (Bs.iand u8 (u8.wrap x2.1) (63 : Int))], ()))
  else none
 else if x2.2.2.1.length + [(239 : Int), (191 : Int), (189 : Int)].length ≤ (4294967296 : Nat) then
  some ((x2.2.2.1 ++ [(239 : Int), (191 : Int), (189 : Int)], ()))
 else none
noncomputable def call135s43b2 : Caller vw := fun _ _ _ _ _ => none
noncomputable def x135s43b2 : Xc vw := { P := prog, n := 78, call := call135s43b2, sh := sh135s43b2, joins := fun k => match k with | 7 => some (c135s43b2j7, [.norm]) | _ => none, regs := fun k => match k with | 6 => some c135s43b2j7 | 8 => some c135s43b2r8 | _ => none }
theorem call135s43b2_ok : CallerOk prog call135s43b2 := call_none
theorem n_135s43b2_ok : SigOk prog 135 sig135s43b2 n_135s43b2 := fun v r x h hx =>
 fn_ok (X := x135s43b2) (sig := sig135s43b2) rfl Tryz.func135 (c := bodyOf Tryz.f135) (by kernel_rfl) Tryz.ntmps135 (by kernel_rfl) (by kernel_rfl) rfl Ty.mixed call135s43b2_ok rfl (fun C hP hN => (lok_all (kcast (by kernel_rfl) trivial))) (kcast (by kernel_rfl) h) x hx
noncomputable def sh121s43b2 : Shape vw := { rcut := c135s43b2z }
noncomputable def sig121s43b2 : Sig vw := { params := [.vh 100000, .dat (.int .i32)], objs := [(100000, .vec 5 (.int .u8))], rcut := c135s43b2z, rvars := [.tmp 4], keep := [2004] }
noncomputable def n_121s43b2 (v : Int × (List Int) × Unit) : Option ((List Int) × Unit) :=
 if decide (IntKind.u32.wrap v.1 ≤ (127 : Int)) = true then
  if v.2.1.length + [u8.wrap v.1].length ≤ (4294967296 : Nat) then
   some ((v.2.1 ++ [u8.wrap v.1], ()))
  else none
 else n_135s43b2 (v.1, v.2.1, ()) >>= fun x1 =>
 some ((x1.1, ()))
noncomputable def call121s43b2 : Caller vw := fun A fid args S k => match fid with | 135 => callObj prog sig135s43b2 n_135s43b2 A args S k | _ => none
noncomputable def x121s43b2 : Xc vw := { P := prog, n := 16, call := call121s43b2, sh := sh121s43b2 }
theorem call121s43b2_ok : CallerOk prog call121s43b2 := fun A fid args S dst k r h => by
 unfold call121s43b2 at h
 split at h
 ·exact callObj_ok (n_135s43b2_ok) h
 ·cases h
theorem n_121s43b2_ok : SigOk prog 121 sig121s43b2 n_121s43b2 := fun v r x h hx =>
 fn_ok (X := x121s43b2) (sig := sig121s43b2) rfl Tryz.func121 (c := bodyOf Tryz.f121) (by kernel_rfl) Tryz.ntmps121 (by kernel_rfl) (by kernel_rfl) rfl Ty.mixed call121s43b2_ok rfl (fun C hP hN => (lok_all (kcast (by kernel_rfl) trivial))) (kcast (by kernel_rfl) h) x hx
noncomputable def c122s07d3r1 : Cut SN := ⟨[(0, .bp 100000 0), (42, .dat .bool)], [(100000, .st .readerT)]⟩
noncomputable def c122s07d3z : Cut SN := ⟨[(0, .bp 100000 0), (6, .dat .bool)], [(100000, .st .readerT)]⟩
noncomputable def sh122s07d3 : Shape vw := { rcut := c122s07d3z }
noncomputable def sig122s07d3 : Sig vw := { params := [.bp 100000 0, .dat (.int .u8), .dat (.int .u8)], objs := [(100000, .st .readerT)], rcut := c122s07d3z, rvars := [.tmp 6], keep := [100000] }
noncomputable def n_122s07d3 (v : Int × Int × Reader × Unit) : Option (Bool × Reader × Unit) :=
 (if (v.2.2.1.at0 == (↑v.2.2.1.s.size : Int)) = true then
    some ((true, v.2.2.1, ()))
   else if (0 : Int) ≤ v.2.2.1.at0 then
    v.2.2.1.s[v.2.2.1.at0.toNat]? >>= fun x1 =>
    if decide ((↑x1.toNat : Int) < v.1) = true then
     some ((true, v.2.2.1, ()))
    else if (0 : Int) ≤ v.2.2.1.at0 then
     v.2.2.1.s[v.2.2.1.at0.toNat]? >>= fun x2 =>
     some ((decide ((↑x2.toNat : Int) > v.2.1), v.2.2.1, ()))
    else none
   else none) >>= fun x1 =>
 if x1.1 = true then
  some ((false, x1.2.1, ()))
 else some ((true, Reader.mk x1.2.1.s (i64.wrap (x1.2.1.at0 + (1 : Int))), ()))
noncomputable def call122s07d3 : Caller vw := fun _ _ _ _ _ => none
noncomputable def x122s07d3 : Xc vw := { P := prog, n := 50, call := call122s07d3, sh := sh122s07d3, regs := fun k => match k with | 1 => some c122s07d3r1 | _ => none }
theorem call122s07d3_ok : CallerOk prog call122s07d3 := call_none
theorem n_122s07d3_ok : SigOk prog 122 sig122s07d3 n_122s07d3 := fun v r x h hx =>
 fn_ok (X := x122s07d3) (sig := sig122s07d3) rfl Tryz.func122 (c := bodyOf Tryz.f122) (by kernel_rfl) Tryz.ntmps122 (by kernel_rfl) (by kernel_rfl) rfl Ty.mixed call122s07d3_ok rfl (fun C hP hN => (lok_all (kcast (by kernel_rfl) trivial))) (kcast (by kernel_rfl) h) x hx
noncomputable def c36l2 : Cut SN := ⟨[(2, .bp 2 0), (4, .bp 4 0), (9, .dat (.sl .str)), (10, .dat (.int .i64)), (11, .dat (.int .i64))], [(2, .st .tagT), (4, .st .tagT)]⟩
noncomputable def c36r5 : Cut SN := ⟨[(2, .bp 2 0), (4, .bp 4 0), (8, .dat (.int .i64)), (9, .dat (.sl .str)), (10, .dat (.int .i64)), (11, .dat (.int .i64)), (26, .dat .bool)], [(2, .st .tagT), (4, .st .tagT)]⟩
noncomputable def c36e0 : Cut SN := ⟨[(2, .bp 2 0), (4, .bp 4 0)], [(2, .st .tagT), (4, .st .tagT)]⟩
noncomputable def c36z : Cut SN := ⟨[(4, .bp 4 0), (5, .dat .bool)], [(4, .st .tagT)]⟩
noncomputable def sh36 : Shape vw := { exits := fun id => match id with | 0 => c36e0 | _ => ⟨[], []⟩, rcut := c36z }
noncomputable def sig36 : Sig vw := { params := [.dat (.st .tagT), .dat (.sl .str)], rcut := c36z, rvars := [.cell 4 25, .tmp 5] }
noncomputable def n_36l2 (v : (List ByteArray) × Int × Int × Tag × Tag × Unit) : Option (((Bool × Tag × Unit) ⊕ (Tag × Tag × Unit))) :=
 if decide (v.2.2.1 < v.2.1) = true then
  if (0 : Int) ≤ v.2.2.1 then
   v.1[v.2.2.1.toNat]? >>= fun x1 =>
   n_39 (v.2.2.2.1, x1, ()) >>= fun x2 =>
   (if decide (x2.1 < (0 : Int)) = true then
      some ((x2.1, v.1, v.2.1, v.2.2.1, true, v.2.2.2.1, v.2.2.2.2.1, ()))
     else some ((x2.1, v.1, v.2.1, v.2.2.1, decide (x2.1 ≥ (↑v.2.2.2.1.parts.length : Int)), v.2.2.2.1, v.2.2.2.2.1, ()))) >>= fun x3 =>
   if x3.2.2.2.2.1 = true then
    some (Sum.inl (false, Tag.mk (0 : Int) (0 : Int) (ByteArray.mk #[]) [] [], ()))
   else if (0 : Int) ≤ x3.1 then
    x3.2.2.2.2.2.1.parts[x3.1.toNat]? >>= fun x4 =>
    n_36l2 (x3.2.1, x3.2.2.1, i64.wrap (x3.2.2.2.1 + (1 : Int)), x4, x3.2.2.2.2.2.2.1, ())
   else none
  else none
 else some (Sum.inr (v.2.2.2.1, v.2.2.2.2.1, ()))
 partial_fixpoint
noncomputable def n_36 (v : Tag × (List ByteArray) × Unit) : Option (Bool × Tag × Unit) :=
 n_36l2 (v.2.1, (↑v.2.1.length : Int), (0 : Int), v.1, Tag.mk (0 : Int) (0 : Int) (ByteArray.mk #[]) [] [], ()) >>= fun x1 => match x1 with
  | .inl y1 => some y1
  | .inr y1 => some ((true, y1.1, ()))
noncomputable def call36 : Caller vw := fun A fid args S k => match fid with | 39 => callPure prog sig39 n_39 A args S k | _ => none
noncomputable def x36 : Xc vw := { P := prog, n := 35, call := call36, sh := sh36, regs := fun k => match k with | 5 => some c36r5 | _ => none, loops := fun k => match k with | 2 => some { cut := c36l2, alts := [.ret, .exit 0], F := n_36l2 } | _ => none }
theorem call36_ok : CallerOk prog call36 := fun A fid args S dst k r h => by
 unfold call36 at h
 split at h
 ·exact callPure_ok (n_39_ok) rfl rfl h
 ·cases h
theorem n_36l2_ok (C : Ctx) (hP : C.P = prog) (hN : C.N = 35) : LoopOk C (loopNo (bodyOf Tryz.f36) 0) (sh := sh36) { cut := c36l2, alts := [.ret, .exit 0], F := n_36l2 } :=
 n_36l2.partial_correctness (motive := fun v out => AWpL C (loopNo (bodyOf Tryz.f36) 0) (encS vw (conc vw c36l2 v)) (OutQ sh36 [.ret, .exit 0] out)) fun F ih v out h =>
  loop_step (X := x36) (b := (loopNo (bodyOf Tryz.f36) 0)) hP hN Ty.mixed call36_ok (lok_all (X := x36) (c := (loopNo (bodyOf Tryz.f36) 0)) (kcast (by kernel_rfl : True = AllB (LoopsP C (x36)) (loopsIn (loopNo (bodyOf Tryz.f36) 0))) trivial)) ih (kcast (by kernel_rfl) h)
theorem n_36_ok : SigOk prog 36 sig36 n_36 := fun v r x h hx =>
 fn_ok (X := x36) (sig := sig36) rfl Tryz.func36 (c := bodyOf Tryz.f36) (by kernel_rfl) Tryz.ntmps36 (by kernel_rfl) (by kernel_rfl) rfl Ty.mixed call36_ok rfl (fun C hP hN => (lok_all (kcast (by kernel_rfl : AllB (LoopsP C (x36)) [(loopNo (bodyOf Tryz.f36) 0)] = AllB (LoopsP C (x36)) (loopsIn (bodyOf Tryz.f36))) ⟨loop_at (X := x36) (b := (loopNo (bodyOf Tryz.f36) 0)) (by kernel_rfl) (n_36l2_ok C hP hN), trivial⟩))) (kcast (by kernel_rfl) h) x hx
noncomputable def c13z : Cut SN := ⟨[(4, .bp 4 0), (5, .dat .bool), (6, .dat (.int .i64))], [(4, .st .tagT)]⟩
noncomputable def sh13 : Shape vw := { rcut := c13z }
noncomputable def sig13 : Sig vw := { params := [.dat (.st .tagT), .dat (.sl .str)], rcut := c13z, rvars := [.cell 4 25, .tmp 5, .tmp 6] }
noncomputable def n_13 (v : Tag × (List ByteArray) × Unit) : Option (Bool × Int × Tag × Unit) :=
 n_29 (v.1, ()) >>= fun x1 =>
 if (x1.1 != (0 : Int)) = true then
  some ((false, x1.1, Tag.mk (0 : Int) (0 : Int) (ByteArray.mk #[]) [] [], ()))
 else n_36 (v.1, v.2.1, ()) >>= fun x2 =>
 n_31s06c9 (x2.2.1, ()) >>= fun x3 =>
 some ((x2.1, (0 : Int), Tag.mk x3.1 x3.2.1 x3.2.2.1 x3.2.2.2.1 x3.2.2.2.2.1, ()))
noncomputable def call13 : Caller vw := fun A fid args S k => match fid with | 29 => callPure prog sig29 n_29 A args S k | 31 => callObj prog sig31s06c9 n_31s06c9 A args S k | 36 => callPure prog sig36 n_36 A args S k | _ => none
noncomputable def x13 : Xc vw := { P := prog, n := 25, call := call13, sh := sh13 }
theorem call13_ok : CallerOk prog call13 := fun A fid args S dst k r h => by
 unfold call13 at h
 split at h
 ·exact callPure_ok (n_29_ok) rfl rfl h
 ·exact callObj_ok (n_31s06c9_ok) h
 ·exact callPure_ok (n_36_ok) rfl rfl h
 ·cases h
theorem n_13_ok : SigOk prog 13 sig13 n_13 := fun v r x h hx =>
 fn_ok (X := x13) (sig := sig13) rfl Tryz.func13 (c := bodyOf Tryz.f13) (by kernel_rfl) Tryz.ntmps13 (by kernel_rfl) (by kernel_rfl) rfl Ty.mixed call13_ok rfl (fun C hP hN => (lok_all (kcast (by kernel_rfl) trivial))) (kcast (by kernel_rfl) h) x hx
noncomputable def c50s0e1dl0 : Cut SN := ⟨[(0, .bp 100000 0)], [(100000, .st .readerT)]⟩
noncomputable def sh50s0e1d : Shape vw := { exits := fun id => match id with | 0 => c50s0e1dl0 | _ => ⟨[], []⟩, rcut := c50s0e1dl0 }
noncomputable def sig50s0e1d : Sig vw := { params := [.bp 100000 0], objs := [(100000, .st .readerT)], rcut := c50s0e1dl0, rvars := [], keep := [100000] }
noncomputable def n_50s0e1dl0 (v : Reader × Unit) : Option ((Reader × Unit)) :=
 n_74s5bd0 (ByteArray.mk #[32, 10, 9, 13], v.1, ()) >>= fun x1 =>
 if x1.1 = true then
  n_50s0e1dl0 (x1.2.1, ())
 else some ((x1.2.1, ()))
 partial_fixpoint
noncomputable def n_50s0e1d (v : Reader × Unit) : Option (Reader × Unit) :=
 n_50s0e1dl0 (v.1, ()) >>= fun x1 =>
 some ((x1.1, ()))
noncomputable def call50s0e1d : Caller vw := fun A fid args S k => match fid with | 74 => callObj prog sig74s5bd0 n_74s5bd0 A args S k | _ => none
noncomputable def x50s0e1d : Xc vw := { P := prog, n := 4, call := call50s0e1d, sh := sh50s0e1d, loops := fun k => match k with | 0 => some { cut := c50s0e1dl0, alts := [.exit 0], F := n_50s0e1dl0 } | _ => none }
theorem call50s0e1d_ok : CallerOk prog call50s0e1d := fun A fid args S dst k r h => by
 unfold call50s0e1d at h
 split at h
 ·exact callObj_ok (n_74s5bd0_ok) h
 ·cases h
theorem n_50s0e1dl0_ok (C : Ctx) (hP : C.P = prog) (hN : C.N = 4) : LoopOk C (loopNo (bodyOf Tryz.f50) 0) (sh := sh50s0e1d) { cut := c50s0e1dl0, alts := [.exit 0], F := n_50s0e1dl0 } :=
 n_50s0e1dl0.partial_correctness (motive := fun v out => AWpL C (loopNo (bodyOf Tryz.f50) 0) (encS vw (conc vw c50s0e1dl0 v)) (OutQ sh50s0e1d [.exit 0] out)) fun F ih v out h =>
  loop_step (X := x50s0e1d) (b := (loopNo (bodyOf Tryz.f50) 0)) hP hN Ty.mixed call50s0e1d_ok (lok_all (X := x50s0e1d) (c := (loopNo (bodyOf Tryz.f50) 0)) (kcast (by kernel_rfl : True = AllB (LoopsP C (x50s0e1d)) (loopsIn (loopNo (bodyOf Tryz.f50) 0))) trivial)) ih (kcast (by kernel_rfl) h)
theorem n_50s0e1d_ok : SigOk prog 50 sig50s0e1d n_50s0e1d := fun v r x h hx =>
 fn_ok (X := x50s0e1d) (sig := sig50s0e1d) rfl Tryz.func50 (c := bodyOf Tryz.f50) (by kernel_rfl) Tryz.ntmps50 (by kernel_rfl) (by kernel_rfl) rfl Ty.mixed call50s0e1d_ok rfl (fun C hP hN => (lok_all (kcast (by kernel_rfl : AllB (LoopsP C (x50s0e1d)) [(loopNo (bodyOf Tryz.f50) 0)] = AllB (LoopsP C (x50s0e1d)) (loopsIn (bodyOf Tryz.f50))) ⟨loop_at (X := x50s0e1d) (b := (loopNo (bodyOf Tryz.f50) 0)) (by kernel_rfl) (n_50s0e1dl0_ok C hP hN), trivial⟩))) (kcast (by kernel_rfl) h) x hx
noncomputable def c68s0e1dz : Cut SN := ⟨[(0, .bp 100000 0), (2, .dat (.int .u8))], [(100000, .st .readerT)]⟩
noncomputable def sh68s0e1d : Shape vw := { rcut := c68s0e1dz }
noncomputable def sig68s0e1d : Sig vw := { params := [.bp 100000 0], objs := [(100000, .st .readerT)], rcut := c68s0e1dz, rvars := [.tmp 2], keep := [100000] }
noncomputable def n_68s0e1d (v : Reader × Unit) : Option (Int × Reader × Unit) :=
 if (v.1.at0 == (↑v.1.s.size : Int)) = true then
  some (((0 : Int), v.1, ()))
 else if (0 : Int) ≤ v.1.at0 then
  v.1.s[v.1.at0.toNat]? >>= fun x1 =>
  some (((↑x1.toNat : Int), v.1, ()))
 else none
noncomputable def call68s0e1d : Caller vw := fun _ _ _ _ _ => none
noncomputable def x68s0e1d : Xc vw := { P := prog, n := 22, call := call68s0e1d, sh := sh68s0e1d }
theorem call68s0e1d_ok : CallerOk prog call68s0e1d := call_none
theorem n_68s0e1d_ok : SigOk prog 68 sig68s0e1d n_68s0e1d := fun v r x h hx =>
 fn_ok (X := x68s0e1d) (sig := sig68s0e1d) rfl Tryz.func68 (c := bodyOf Tryz.f68) (by kernel_rfl) Tryz.ntmps68 (by kernel_rfl) (by kernel_rfl) rfl Ty.mixed call68s0e1d_ok rfl (fun C hP hN => (lok_all (kcast (by kernel_rfl) trivial))) (kcast (by kernel_rfl) h) x hx
end Go.Proofs.YtpndmanbfleadaaGreatDoor
end
