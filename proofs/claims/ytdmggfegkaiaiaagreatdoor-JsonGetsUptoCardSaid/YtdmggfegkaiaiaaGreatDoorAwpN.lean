/-
  The logic of abstract states: regions that draw their order: one evaluation in the order of the text serves every order.
-/
import Derived.Test.YtdmggfegkaiaiaaGreatDoorAwpM
namespace Go.Awp
set_option linter.unusedSectionVars false
variable [Inhabited GMem]

/-- What an operation did in the order of the text, and whether its guard let it. -/
structure Tr1 where
  e : Eff
  ex : Bool

def aopsT (P : Program) (N : Nat) (nm : Nat → Nat) (all : List Oper) : List Oper → AState → List Tr1 → (AState → List Tr1 → Prop) → Prop
  | [], S, tr, k => k S tr
  | o :: os, S, tr, k =>
    (∀ d, o.dst = some d → d < N) ∧
    match o.guard with
    | none => AVal P nm o (ev S) S.own? (fun e => (∀ d ∈ e.new, S.fresh d = true ∧ d < given) ∧ aopsT P N nm all os (S.app o.dst e) (tr ++ [⟨e, true⟩]) k)
    | some (j, want) => match guardB S all j want with
      | some b => aIf (b == want) (AVal P nm o (ev S) S.own? (fun e => (∀ d ∈ e.new, S.fresh d = true ∧ d < given) ∧ aopsT P N nm all os (S.app o.dst e) (tr ++ [⟨e, true⟩]) k))
          (aopsT P N nm all os (S.app o.dst { val := .tup [] }) (tr ++ [⟨{ val := .tup [] }, false⟩]) k)
      | none => False

/-- One operation of the order of the text. -/
def Did (P : Program) (N : Nat) (nm : Nat → Nat) (all : List Oper) (o : Oper) (S : AState) (t : Tr1) : Prop :=
  (∀ d, o.dst = some d → d < N) ∧
  (match o.guard with
   | none => t.ex = true
   | some (j, want) => ∃ b, guardB S all j want = some b ∧ t.ex = (b == want)) ∧
  (t.ex = true → AVal P nm o (ev S) S.own? (fun e' => e' = t.e) ∧ ∀ d ∈ t.e.new, S.fresh d = true ∧ d < given) ∧ (t.ex = false → t.e = { val := .tup [] })

/-- The state after those operations that are chosen, in the order of the text. -/
def stE (E : Nat → Bool) : Nat → List (Oper × Tr1) → AState → AState
  | _, [], S => S
  | i, (o, t) :: r, S => stE E (i + 1) r (if E i then S.app o.dst t.e else S)

def DidAll (P : Program) (N : Nat) (nm : Nat → Nat) (all : List Oper) : List (Oper × Tr1) → AState → Prop
  | [], _ => True
  | (o, t) :: r, S => Did P N nm all o S t ∧ DidAll P N nm all r (S.app o.dst t.e)

theorem aopsT_ex {P : Program} {N : Nat} {nm : Nat → Nat} {all : List Oper} : ∀ {os : List Oper} {S : AState} {tr : List Tr1} {k : AState → List Tr1 → Prop}, aopsT P N nm all os S tr k →
    ∃ l : List (Oper × Tr1), l.map (·.1) = os ∧ DidAll P N nm all l S ∧ k (stE (fun _ => true) 0 l S) (tr ++ l.map (·.2))
  | [], S, tr, k, h => ⟨[], rfl, trivial, by simpa [aopsT, stE] using h⟩
  | o :: os, S, tr, k, h => by
    have shift : ∀ (l : List (Oper × Tr1)) (i : Nat) (S : AState), stE (fun _ => true) i l S = stE (fun _ => true) 0 l S := by
      intro l
      induction l with
      | nil => intro i S; rfl
      | cons x r ih => intro i S; obtain ⟨o, t⟩ := x; simp only [stE]; rw [ih (i + 1), ih (0 + 1)]
    simp only [aopsT] at h
    obtain ⟨hd, h⟩ := h
    have go : ∀ e, AVal P nm o (ev S) S.own? (fun e' => e' = e) → (∀ d ∈ e.new, S.fresh d = true ∧ d < given) → (match o.guard with | none => True | some (j, want) => ∃ b, guardB S all j want = some b ∧ (b == want) = true) →
        aopsT P N nm all os (S.app o.dst e) (tr ++ [⟨e, true⟩]) k → ∃ l : List (Oper × Tr1), l.map (·.1) = o :: os ∧ DidAll P N nm all l S ∧ k (stE (fun _ => true) 0 l S) (tr ++ l.map (·.2)) := by
      intro e hv hn hg hk
      obtain ⟨l, h1, h2, h3⟩ := aopsT_ex hk
      refine ⟨(o, ⟨e, true⟩) :: l, by simp [h1], ⟨⟨hd, ?_, fun _ => ⟨hv, hn⟩, (fun h => by cases h)⟩, h2⟩, ?_⟩
      · cases hgu : o.guard with
        | none => rfl
        | some g =>
          obtain ⟨j, want⟩ := g
          rw [hgu] at hg
          obtain ⟨b, hb1, hb2⟩ := hg
          exact ⟨b, hb1, hb2.symm⟩
      · simp only [stE, if_true, List.map_cons]
        rw [shift]; simpa using h3
    cases hg : o.guard with
    | none =>
      simp only [hg] at h
      obtain ⟨e, hv, hn, hk⟩ := AVal_ex h
      exact go e hv hn (by rw [hg]; trivial) hk
    | some g =>
      obtain ⟨j, want⟩ := g
      simp only [hg] at h
      split at h
      · rename_i b hb
        by_cases hbw : (b == want) = true
        · have h := h.1 hbw
          obtain ⟨e, hv, hn, hk⟩ := AVal_ex h
          exact go e hv hn (by rw [hg]; exact ⟨b, hb, hbw⟩) hk
        · have hbw : (b == want) = false := by simpa using hbw
          have h := h.2 hbw
          obtain ⟨l, h1, h2, h3⟩ := aopsT_ex h
          refine ⟨(o, ⟨{ val := .tup [] }, false⟩) :: l, by simp [h1], ⟨⟨hd, by rw [hg]; exact ⟨b, hb, hbw.symm⟩, (fun h => by cases h), fun _ => rfl⟩, h2⟩, ?_⟩
          simp only [stE, if_true, List.map_cons]
          rw [shift]; simpa using h3
      · exact h.elim

/-- Which operations must have been done ahead of each one: the mask of all that it hangs on. -/
def mask (acc : List Nat) (o : Oper) : Nat := o.after.toList.foldl (fun s e => if Region.binds .any e then s ||| (2 ^ e.on ||| (acc[e.on]?).getD 0) else s) 0

def befs (acc : List Nat) : List Oper → List Nat
  | [] => acc
  | o :: r => befs (acc ++ [mask acc o]) r

/-- i hangs ahead of k. -/
inductive Ahead (ops : List Oper) : Nat → Nat → Prop
  | one {k : Nat} {o : Oper} {e : Edge} (ho : ops[k]? = some o) (he : e ∈ o.after) (hb : Region.binds .any e = true) : Ahead ops e.on k
  | more {i k : Nat} {o : Oper} {e : Edge} (ho : ops[k]? = some o) (he : e ∈ o.after) (hb : Region.binds .any e = true) (h : Ahead ops i e.on) : Ahead ops i k

theorem mask_spec {ops : List Oper} {acc : List Nat} {k : Nat} {o : Oper} (ho : ops[k]? = some o) (hacc : ∀ j m i, acc[j]? = some m → m.testBit i = true → Ahead ops i j) :
    ∀ i, (mask acc o).testBit i = true → Ahead ops i k := by
  have key : ∀ (l : List Edge) (s : Nat), (∀ e ∈ l, e ∈ o.after) → (∀ i, s.testBit i = true → Ahead ops i k) →
      ∀ i, (l.foldl (fun s e => if Region.binds .any e then s ||| (2 ^ e.on ||| (acc[e.on]?).getD 0) else s) s).testBit i = true → Ahead ops i k := by
    intro l
    induction l with
    | nil => intro s _ hs i h; exact hs i h
    | cons e r ih =>
      intro s hl hs i h
      simp only [List.foldl_cons] at h
      refine ih _ (fun e' he' => hl e' (List.mem_cons_of_mem _ he')) ?_ i h
      intro i' h'
      by_cases hb : Region.binds .any e = true
      · rw [if_pos hb] at h'
        simp only [Nat.testBit_or, Bool.or_eq_true] at h'
        rcases h' with h' | h' | h'
        · exact hs i' h'
        · rw [Nat.testBit_two_pow] at h'
          have : e.on = i' := by simpa using h'
          subst this
          exact .one ho (hl e List.mem_cons_self) hb
        · cases hq : acc[e.on]? with
          | none => rw [hq] at h'; simp at h'
          | some m => rw [hq] at h'; exact .more ho (hl e List.mem_cons_self) hb (hacc e.on m i' hq h')
      · rw [if_neg hb] at h'; exact hs i' h'
  intro i h
  exact key o.after.toList 0 (fun e he => Array.mem_toList_iff.1 he) (fun i h => by simp at h) i h

theorem befs_spec {ops : List Oper} : ∀ (l : List Oper) (acc : List Nat), (∀ j o, l[j]? = some o → ops[acc.length + j]? = some o) → (∀ j m i, acc[j]? = some m → m.testBit i = true → Ahead ops i j) →
    ∀ j m i, (befs acc l)[j]? = some m → m.testBit i = true → Ahead ops i j
  | [], acc, _, hacc, j, m, i, hm, hi => hacc j m i hm hi
  | o :: r, acc, hl, hacc, j, m, i, hm, hi => by
    simp only [befs] at hm
    refine befs_spec r (acc ++ [mask acc o]) (fun j o' ho' => ?_) (fun j m i hm hi => ?_) j m i hm hi
    · have := hl (j + 1) o' (by simpa using ho')
      rw [List.length_append, List.length_singleton]
      rwa [show acc.length + 1 + j = acc.length + (j + 1) by omega]
    · by_cases hj : j < acc.length
      · rw [List.getElem?_append_left hj] at hm; exact hacc j m i hm hi
      · rw [List.getElem?_append_right (by omega)] at hm
        cases hjj : j - acc.length with
        | zero =>
          rw [hjj] at hm; simp at hm; subst hm
          have : j = acc.length := by omega
          subst this
          exact mask_spec (by simpa using hl 0 o rfl) hacc i hi
        | succ q => rw [hjj] at hm; simp at hm

/-- What an operation looks at. -/
def looks (all : List Oper) (o : Oper) : List Tmp :=
  (o.op.operands.toList.filterMap fun | .tmp t => some t | _ => none) ++
  (match o.guard with
   | some (g, _) => match all[g]? with
     | some x => x.dst.toList
     | none => []
   | none => [])

def Eff.names (e : Eff) : List Nat := e.upd.map (·.1) ++ e.new

def Eff.has (e : Eff) (n : Nat) : Bool := H.has n e.val || e.upd.any fun u => match u.2 with
  | some o => Own.has n o
  | none => false

/-- Two operations whose order may count. -/
def confl (all : List Oper) (x y : Oper × Tr1) : Bool :=
  (match x.1.dst with | some d => (looks all y.1).contains d | none => false) ||
  (match y.1.dst with | some d => (looks all x.1).contains d | none => false) ||
  (match x.1.dst, y.1.dst with | some a, some b => Nat.beq a b | _, _ => false) ||
  (x.2.e.names.any fun n => y.2.e.acc.contains n || y.2.e.names.contains n) ||
  (y.2.e.names.any fun n => x.2.e.acc.contains n) ||
  (x.2.e.new.any fun n => y.2.e.has n) ||
  (y.2.e.new.any fun n => x.2.e.has n)

def pairsOk (all : List Oper) (bs : List Nat) : Nat → List (Oper × Tr1) → List (Oper × Tr1) → Bool
  | _, _, [] => true
  | k, done, y :: r => (done.zipIdx.all fun x => !confl all x.1 y || ((bs[k]?).getD 0).testBit x.2) && pairsOk all bs (k + 1) (done ++ [y]) r

/-- The order of the text may stand for every order. -/
def drawOk (ops : List Oper) (tr : List Tr1) : Bool :=
  pairsOk ops (befs [] ops) 0 [] (ops.zip tr) && ops.zipIdx.all (fun x => x.1.after.all fun e => !Region.binds .any e || Nat.blt e.on x.2)

theorem pairsOk_spec {all : List Oper} {bs : List Nat} : ∀ (l done : List (Oper × Tr1)), pairsOk all bs done.length done l = true → ∀ (i k : Nat) (x y : Oper × Tr1), i < k → done.length ≤ k → (done ++ l)[i]? = some x → (done ++ l)[k]? = some y →
    confl all x y = true → ((bs[k]?).getD 0).testBit i = true
  | [], done, _, i, k, x, y, hik, hk, hx, hy, _ => by
    rw [List.append_nil] at hy
    have := (List.getElem?_eq_some_iff.1 hy).1; omega
  | z :: r, done, h, i, k, x, y, hik, hk, hx, hy, hc => by
    simp only [pairsOk, Bool.and_eq_true] at h
    by_cases hkd : k = done.length
    · subst hkd
      rw [List.getElem?_append_right (Nat.le_refl _)] at hy
      simp at hy; subst hy
      rw [List.getElem?_append_left hik] at hx
      have h1 := h.1
      rw [List.all_eq_true] at h1
      have := h1 (x, i) (List.mk_mem_zipIdx_iff_getElem?.2 hx)
      simp only [hc, Bool.not_true, Bool.false_or] at this
      exact this
    · have h2 := h.2
      have e : done.length + 1 = (done ++ [z]).length := by simp
      rw [e] at h2
      exact pairsOk_spec r (done ++ [z]) h2 i k x y hik (by simp; omega) (by simpa using hx) (by simpa using hy) hc

end Go.Awp
