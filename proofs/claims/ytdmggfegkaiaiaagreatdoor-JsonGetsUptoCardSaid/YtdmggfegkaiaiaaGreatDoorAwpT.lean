/-
  The logic of abstract states: what a claim's reading of an input gives.
-/
import Derived.Test.YtdmggfegkaiaiaaGreatDoorAwpS
import Derived.ProofKit
namespace Go.Awp
set_option linter.unusedSectionVars false
variable [Inhabited GMem]
variable {H0 : Type} {enc : TypeId × Value → H0} {P : Program} {W : World} {spare : Nat → Bool} {held : Bool} {base : Nat}

/-- All cells of a world. -/
def memOf (W : World) : Mem := fun b o => W.cell? ⟨b, o, none⟩

theorem mapM_some {α β : Type} {f : α → Option β} : ∀ {l : List α} {r : List β}, l.mapM f = some r → r.length = l.length ∧ ∀ (i : Nat) (x : α), l[i]? = some x → ∃ y, r[i]? = some y ∧ f x = some y
  | [], r, h => by
    simp at h; subst h
    exact ⟨rfl, fun i x hx => by simp at hx⟩
  | a :: l, r, h => by
    rw [List.mapM_cons] at h
    cases ha : f a with
    | none => rw [ha] at h; cases h
    | some y =>
      rw [ha] at h
      cases hl : l.mapM f with
      | none => simp [hl] at h
      | some ys =>
        simp [hl] at h
        subst h
        obtain ⟨h1, h2⟩ := mapM_some hl
        refine ⟨by simp [h1], fun i x hx => ?_⟩
        cases i with
        | zero => simp at hx; subst hx; exact ⟨y, rfl, ha⟩
        | succ i => exact h2 i x (by simpa using hx)

theorem read_int {t : TypeId} {k : IntKind} (hu : P.underlying t = some (.int k)) {fuel : Nat} {cs : List Value} {x : DataW H0 × List MemPlace} (h : DataW.trod enc P W base spare held fuel t cs = some x) :
    ∃ n, cs = [.int k n] ∧ (Lit.int k n).wf = true := by
  cases fuel with
  | zero => cases h
  | succ fuel =>
    unfold DataW.trod at h
    rw [hu] at h
    simp only [] at h
    split at h <;> try (rename_i h1 _; cases h1)
    all_goals try (cases h; done)
    all_goals simp_all

theorem read_bool {t : TypeId} (hu : P.underlying t = some .bool) {fuel : Nat} {cs : List Value} {x : DataW H0 × List MemPlace} (h : DataW.trod enc P W base spare held fuel t cs = some x) :
    ∃ b, cs = [.bool b] := by
  cases fuel with
  | zero => cases h
  | succ fuel =>
    unfold DataW.trod at h
    rw [hu] at h
    simp only [] at h
    split at h <;> try (rename_i h1 _; cases h1)
    all_goals try (cases h; done)
    all_goals simp_all

theorem read_struct {t : TypeId} {fs : Array Field} (hu : P.underlying t = some (.struct fs)) {fuel : Nat} {cs : List Value} {x : DataW H0 × List MemPlace} (h : DataW.trod enc P W base spare held (fuel + 1) t cs = some x) :
    cs.length = P.cellsOf t ∧ ∀ (i : Nat) (f : Field), fs[i]? = some f → ∃ y, DataW.trod enc P W base spare held fuel f.type ((cs.drop f.offset).take (P.cellsOf f.type)) = some y := by
  unfold DataW.trod at h
  rw [hu] at h
  simp only [] at h
  split at h
  · rename_i hl
    refine ⟨hl, fun i f hf => ?_⟩
    rw [Option.map_eq_some_iff] at h
    obtain ⟨ys, hm, _⟩ := h
    obtain ⟨y, _, hy⟩ := (mapM_some hm).2 i f (by simpa using hf)
    exact ⟨y, hy⟩
  · cases h

/-- A row of cells that is read. -/
theorem read_cells {w : World} {b n : Nat} {a : Addr} {row : List Value} (h : w.cells? b a n = some row) : row.length = n ∧ ∀ j, j < n → w.cell? (a.add j) = row[j]? := by
  unfold World.cells? at h
  split at h
  · obtain ⟨h1, h2⟩ := mapM_some h
    rw [List.length_range] at h1
    refine ⟨h1, fun j hj => ?_⟩
    obtain ⟨y, hy, hf⟩ := h2 j j (by rw [List.getElem?_range hj])
    rw [hf, hy]
  · cases h

theorem read_slice {t e : TypeId} (hu : P.underlying t = some (.slice e)) {fuel : Nat} {cs : List Value} {x : DataW H0 × List MemPlace} (h : DataW.trod enc P W base spare held (fuel + 1) t cs = some x) :
    cs = [.slice none 0 0] ∨ ∃ a len cap, cs = [.slice (some a) len cap] ∧ len ≤ cap ∧ cap ≤ maxLen ∧
      ∀ i, i < len → ∃ row y, W.cells? base (a.add (i * P.cellsOf e)) (P.cellsOf e) = some row ∧ DataW.trod enc P W base spare held fuel e row = some y := by
  unfold DataW.trod at h
  rw [hu] at h
  simp only [] at h
  split at h
  all_goals first
    | (simp only [Option.some.injEq, reduceCtorEq] at *; done)
    | (left; rfl)
    | (rename_i a len cap hx
       simp only [Option.some.injEq, TypeDesc.slice.injEq] at hx
       subst hx
       right
       split at h
       · rename_i hc
         refine ⟨a, len, cap, rfl, hc.2.1, hc.2.2, fun i hi => ?_⟩
         rw [Option.bind_eq_some_iff] at h
         obtain ⟨ys, hm, _⟩ := h
         obtain ⟨y, _, hy⟩ := (mapM_some hm).2 i i (by rw [List.getElem?_range hi])
         rw [Option.bind_eq_some_iff] at hy
         obtain ⟨row, h1, h2⟩ := hy
         exact ⟨row, y, h1, h2⟩
       · cases h)
    | skip

/-- One for each place. -/
theorem list_of {α : Type} {R : Nat → α → Prop} : ∀ (n : Nat), (∀ i, i < n → ∃ x, R i x) → ∃ l : List α, l.length = n ∧ ∀ (i : Nat) (x : α), l[i]? = some x → R i x
  | 0, _ => ⟨[], rfl, fun i x hx => by simp at hx⟩
  | n + 1, h => by
    obtain ⟨l, h1, h2⟩ := list_of n fun i hi => h i (by omega)
    obtain ⟨x, hx⟩ := h n (by omega)
    refine ⟨l ++ [x], by simp [h1], fun i y hy => ?_⟩
    by_cases hi : i < l.length
    · rw [List.getElem?_append_left hi] at hy; exact h2 i y hy
    · rw [List.getElem?_append_right (by omega)] at hy
      have : i - l.length = 0 := by
        have := (List.getElem?_eq_some_iff.1 hy).1
        simp at this; omega
      rw [this] at hy
      simp at hy
      subst hy
      have : i = n := by omega
      subst this; exact hx

theorem addr_plain {w : World} {a : Addr} {k : Nat} {v : Value} (h : w.cell? (a.add k) = some v) (hk : k = 0) : a.spot = none := by
  subst hk
  simp only [Addr.add, if_true] at h
  unfold World.cell? at h
  split at h
  · split at h
    · cases h
    · rename_i hs; simpa using hs
  · cases h

theorem add_none (b o k : Nat) : (⟨b, o, none⟩ : Addr).add k = ⟨b, o + k, none⟩ := by
  unfold Addr.add
  split
  · rename_i h; subst h; rfl
  · rfl

/-- A slice of rows out of memory that is read. -/
theorem DRep.of_slice {W : World} {b : Nat} {a : Addr} {len cap sz : Nat} (hsz : 0 < sz) (hc : len ≤ cap) {rows : List (List D)} (hl : rows.length = len) (hr : ∀ r ∈ rows, r.length = sz)
    (h : ∀ i, i < len → ∃ row, W.cells? b (a.add (i * sz)) sz = some row ∧ ∀ r, rows[i]? = some r → ∀ (j : Nat) (c : Value) (x : D), row[j]? = some c → r[j]? = some x → DRep (memOf W) c x) :
    DRep (memOf W) (.slice (some a) len cap) (.sl sz rows) := by
  by_cases h0 : len = 0
  · subst h0
    have : rows = [] := List.eq_nil_of_length_eq_zero hl
    subst this
    exact .slmt a cap sz
  · have hspot : a.spot = none := by
      obtain ⟨row, h1, _⟩ := h 0 (by omega)
      rw [Nat.zero_mul] at h1
      obtain ⟨g1, g2⟩ := read_cells h1
      have := g2 0 hsz
      have h3 : (a.add 0) = a := by simp [Addr.add]
      rw [h3] at this
      rw [List.getElem?_eq_getElem (by omega)] at this
      exact addr_plain (k := 0) this rfl
    obtain ⟨blk, off, spot⟩ := a
    simp only [] at hspot
    subst hspot
    have cell : ∀ (i j : Nat), i < len → j < sz → ∃ row c, W.cells? b ((⟨blk, off, none⟩ : Addr).add (i * sz)) sz = some row ∧ row[j]? = some c ∧ W.cell? ⟨blk, off + (i * sz + j), none⟩ = some c ∧
        ∀ r, rows[i]? = some r → ∀ (x : D), r[j]? = some x → DRep (memOf W) c x := by
      intro i j hi hj
      obtain ⟨row, h1, h2⟩ := h i hi
      obtain ⟨g1, g2⟩ := read_cells h1
      have := g2 j hj
      rw [add_none, add_none] at this
      have hrow : row[j]? = some (row[j]'(by omega)) := List.getElem?_eq_getElem (by omega)
      rw [hrow, Nat.add_assoc] at this
      exact ⟨row, _, h1, hrow, this, fun r hr x hx => h2 r hr j _ x hrow hx⟩
    refine .sl blk off len cap sz rows (fun k => (W.cell? ⟨blk, off + k, none⟩).getD undef) hl.symm hc hr (fun k hk => ?_) fun i j r x hr' hx => ?_
    · have hi : k / sz < len := Nat.div_lt_of_lt_mul (by rw [Nat.mul_comm]; exact hk)
      obtain ⟨row, c, _, _, h3, _⟩ := cell (k / sz) (k % sz) hi (Nat.mod_lt _ hsz)
      have hdm : k / sz * sz + k % sz = k := by rw [Nat.mul_comm]; exact Nat.div_add_mod k sz
      rw [hdm] at h3
      simp [memOf, h3]
    · have hi : i < len := by rw [← hl]; exact (List.getElem?_eq_some_iff.1 hr').1
      have hj : j < sz := by rw [← hr r (List.mem_of_getElem? hr')]; exact (List.getElem?_eq_some_iff.1 hx).1
      obtain ⟨row, c, _, _, h3, h4⟩ := cell i j hi hj
      simp only [h3, Option.getD_some]
      exact h4 r hr' x hx

/-- What a contract that owns nothing says of a call on the whole world. -/
theorem FnOk.closed {f : FuncId} {args : List H} {x : Value} (h : FnOk P f args [] (.d (.v x)) []) {W : World} {vs : Array Value} (hg : GOk (memOf W) W) (hv : HReps (fun _ => undef) (memOf W) vs args) :
    Calls P f vs W fun e W' => e = .returned x ∧ Go.RowKit.Below W.heap.size W W' :=
  (h.2 (fun _ => undef) (memOf W) W vs hg (fun _ _ _ hm => hm) ⟨fun n o hn => by simp [gt] at hn, fun n m o o' b _ hn => by simp [gt] at hn⟩ hv).mono fun e W' ⟨v, E', M', he, hp⟩ => by
    have hr := hp.rep
    cases hr with
    | d hd => cases hd with
      | v => exact ⟨he, hp.os, hp.tape, hp.output, hp.grows, fun k hk => hp.frame k hk fun ⟨n, o, hn, _⟩ => by simp [gt] at hn⟩

end Go.Awp
