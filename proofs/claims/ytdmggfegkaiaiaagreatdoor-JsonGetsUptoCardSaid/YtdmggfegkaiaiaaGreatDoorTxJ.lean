/-
  Typed states: code.
-/
import Derived.Test.YtdmggfegkaiaiaaGreatDoorTxI
import Derived.Scope
namespace Go.Tx
open Go.Awp
set_option linter.unusedSectionVars false
variable [Inhabited GMem]
set_option linter.unusedSimpArgs false

/-- How a piece of code may be left. -/
inductive Alt where
  | norm
  | ret
  | exit (id : Nat)
  deriving DecidableEq

section
variable (V : View)

/-- What is kept where blocks end and where the function ends. -/
structure Shape where
  exits : Nat → Cut V.ι
  rcut : Cut V.ι

variable {V}

def altTys (sh : Shape V) (jt : List (Ty V.ι)) : Alt → List (Ty V.ι)
  | .norm => jt
  | .ret => sh.rcut.tys
  | .exit id => (sh.exits id).tys

def OutT (E : Alt → List (Ty V.ι)) : List Alt → Type
  | [] => Empty
  | [a] => HL V.N (E a)
  | a :: b :: r => HL V.N (E a) ⊕ OutT E (b :: r)

def inj (E : Alt → List (Ty V.ι)) : (alts : List Alt) → (a : Alt) → HL V.N (E a) → Option (OutT E alts)
  | [], _, _ => none
  | [b], a, v => if h : a = b then some (h ▸ v) else none
  | b :: c :: r, a, v => if h : a = b then some (.inl (h ▸ v)) else match inj E (c :: r) a v with
    | some o => some (.inr o)
    | none => none

def handle (E : Alt → List (Ty V.ι)) {A : Type} : (alts : List Alt) → OutT E alts → ((a : Alt) → HL V.N (E a) → Option A) → Option A
  | [], _, _ => none
  | [a], v, f => f a v
  | a :: b :: r, o, f => match o with
    | .inl v => f a v
    | .inr o' => handle E (b :: r) o' f

theorem handle_inj {E : Alt → List (Ty V.ι)} {A : Type} {f : (a : Alt) → HL V.N (E a) → Option A} : ∀ {alts : List Alt} {a : Alt} {v : HL V.N (E a)} {o : OutT E alts}, inj E alts a v = some o → handle E alts o f = f a v
  | [], a, v, o, h => by simp [inj] at h
  | [b], a, v, o, h => by
    simp only [inj] at h
    split at h
    · rename_i e; subst e; cases h; rfl
    · cases h
  | b :: c :: r, a, v, o, h => by
    simp only [inj] at h
    split at h
    · rename_i e; subst e; cases h; rfl
    · split at h
      · rename_i o' ho
        cases h
        show handle E (c :: r) o' f = f a v
        exact handle_inj (f := f) ho
      · cases h

variable (V)

/-- A loop's function. -/
structure LoopA (sh : Shape V) where
  cut : Cut V.ι
  alts : List Alt
  F : HL V.N cut.tys → Option (OutT (altTys sh []) alts)

/-- All that the evaluation of a function's code takes. -/
structure Xc where
  P : Program
  n : Nat
  nm : Nat → Nat
  call : Caller V
  pre : Nat → Bool := fun _ => false
  sh : Shape V
  joins : Nat → Option (Cut V.ι × List Alt)
  regs : Nat → Option (Cut V.ι)
  loops : Nat → Option (LoopA V sh)
  pair : Nat → Option (Nat × Nat) := fun _ => none
  jumps : Nat → Option (Nat × LoopA V sh) := fun _ => none

def firstId : Code → Nat
  | .region id _ _ => id
  | .seq a b => if firstId a = 1000000 then firstId b else firstId a
  | .block _ x => firstId x
  | .cond _ a b => if firstId a = 1000000 then firstId b else firstId a
  | .loop b => firstId b
  | .scope b => firstId b
  | _ => 1000000

variable {V}

/-- Both, and the same. -/
noncomputable def both {A : Type} (x y : Option A) : Option A := by classical exact if x = y then x else none
theorem both_some {A : Type} {x y : Option A} {r : A} (h : both x y = some r) : x = some r ∧ y = some r := by
  unfold both at h
  split at h
  · rename_i e; exact ⟨h, e ▸ h⟩
  · cases h
theorem both_mk {A : Type} {x y : Option A} {r : A} (h : x = some r) (h2 : y = some r) : both x y = some r := by
  unfold both; rw [if_pos (h.trans h2.symm), h]

def regd (X : Xc V) {A : Type} (ops : Array Oper) (S : TS V.N) (k : TS V.N → Option A) : Option A :=
  txd V X.P X.n X.nm X.call ops.toList ops.toList S [] fun S' tr => match drawOk ops.toList tr with
    | true => k S'
    | false => none

def pairFits (i j n : Nat) : Bool := !Nat.beq i j && Nat.blt i n && Nat.blt j n

noncomputable def regx (X : Xc V) {A : Type} (id : Nat) (ops : Array Oper) (draw : Bool) (S : TS V.N) (k : TS V.N → Option A) : Option A := match draw with
  | false => txs V X.P X.n X.nm X.call X.pre ops.toList ops.toList S k
  | true => match X.pair id with
    | none => regd X ops S k
    | some (i, j) => match pairFits i j ops.size with
      | true => both (regd X (varOps i i i j ops) S k) (regd X (varOps i j j i ops) S k)
      | false => none

/-- A jump to a label is an exit with a great number. -/
def noJump {A : Type} (ke : Nat → TS V.N → Option A) : Nat → TS V.N → Option A := fun id S => match Nat.blt id 1000000 with
  | true => ke id S
  | false => none

/-- The evaluation of code. -/
noncomputable def ex (X : Xc V) : Code → (A : Type) → TS V.N → (TS V.N → Option A) → (Nat → TS V.N → Option A) → (HL V.N X.sh.rcut.tys → Option A) → Option A
  | .skip, _, S, kn, _, _ => kn S
  | .ret, _, S, _, _, kr => match extr V X.sh.rcut S with
    | some v => kr v
    | none => none
  | .exit id, _, S, _, ke, _ => noJump ke id S
  | .goto l, _, S, _, ke, _ => ke (1000000 + l) S
  | .label _, _, S, kn, _, _ => kn S
  | .seq x y, A, S, kn, ke, kr => match X.joins (firstId y) with
    | none => ex X x A S (fun S' => ex X y A S' kn ke kr) ke kr
    | some (cut, alts) =>
      ex X x (OutT (altTys X.sh cut.tys) alts) S
        (fun S' => match extr V cut S' with
          | some v => inj (altTys X.sh cut.tys) alts .norm v
          | none => none)
        (fun id S' => match extr V (X.sh.exits id) S' with
          | some v => inj (altTys X.sh cut.tys) alts (.exit id) v
          | none => none)
        (fun v => inj (altTys X.sh cut.tys) alts .ret v) >>= fun out =>
      handle (altTys X.sh cut.tys) alts out fun a => match a with
        | .norm => fun v => ex X y A (conc V cut v) kn ke kr
        | .ret => fun v => kr v
        | .exit id => fun v => ke id (conc V (X.sh.exits id) v)
  | .block id x, A, S, kn, ke, kr => match Nat.blt id 1000000 with
    | true => ex X x A S kn (fun id' S' => if id' = id then kn S' else ke id' S') kr
    | false => none
  | .cond c x y, A, S, kn, ke, kr => match c with
    | .tmp t => match gt S.tmps t with
      | some (.lf .bool b) => if b = true then ex X x A (setB S t true) kn ke kr else ex X y A (setB S t false) kn ke kr
      | _ => none
    | .const (.bool b) => match b with
      | true => ex X x A S kn ke kr
      | false => ex X y A S kn ke kr
    | _ => none
  | .region id ops draw, _, S, kn, _, _ => match X.regs id with
    | none => regx X id ops draw S kn
    | some cut => (regx X id ops draw S fun S' => extr V cut S') >>= fun v => kn (conc V cut v)
  | .scope c, A, S, kn, ke, kr => match X.jumps (firstId c) with
    | none => ex X c A S kn (noJump ke) kr
    | some (l, la) => ex X c A S kn (fun id S' => match Nat.beq id (1000000 + l) with
      | true => match extr V la.cut S' with
        | none => none
        | some v => la.F v >>= fun out => handle (altTys X.sh []) la.alts out fun a => match a with
          | .norm => fun _ => none
          | .ret => fun v => kr v
          | .exit id => fun v => ke id (conc V (X.sh.exits id) v)
      | false => noJump ke id S') kr
  | .loop b, _, S, _, ke, kr => match X.loops (firstId b) with
    | none => none
    | some la => match extr V la.cut S with
      | none => none
      | some v => la.F v >>= fun out => handle (altTys X.sh []) la.alts out fun a => match a with
        | .norm => fun _ => none
        | .ret => fun v => kr v
        | .exit id => fun v => ke id (conc V (X.sh.exits id) v)
  | _, _, _, _, _, _ => none

/-- One round of a loop. -/
noncomputable def exL (X : Xc V) (b : Code) (cut : Cut V.ι) (alts : List Alt) (F : HL V.N cut.tys → Option (OutT (altTys X.sh []) alts)) (v : HL V.N cut.tys) : Option (OutT (altTys X.sh []) alts) :=
  ex X b _ (conc V cut v)
    (fun S' => match extr V cut S' with
      | some v => F v
      | none => none)
    (noJump fun id S' => match extr V (X.sh.exits id) S' with
      | some v => inj (altTys X.sh []) alts (.exit id) v
      | none => none)
    (fun v => inj (altTys X.sh []) alts .ret v)

/-- One pass from a label on. -/
noncomputable def exJ (X : Xc V) (b : Code) (l : Nat) (cut : Cut V.ι) (alts : List Alt) (F : HL V.N cut.tys → Option (OutT (altTys X.sh []) alts)) (v : HL V.N cut.tys) : Option (OutT (altTys X.sh []) alts) :=
  ex X b _ (conc V cut v)
    (fun _ => none)
    (fun id S' => match Nat.beq id (1000000 + l) with
      | true => match extr V cut S' with
        | some v => F v
        | none => none
      | false => noJump (fun id S' => match extr V (X.sh.exits id) S' with
        | some v => inj (altTys X.sh []) alts (.exit id) v
        | none => none) id S')
    (fun v => inj (altTys X.sh []) alts .ret v)

/-- The loop from its head on: the machine stands in it. -/
def AWpL (C : Ctx) (c : Code) (S : AState) (Q : Exit → AState → Prop) : Prop :=
  ∀ (E : Env) (M : Mem) (a : Act) (w : World), Sim C E M S a w → ∀ (b : Frame) (k : List Item) (cs : List Frame),
    ∃ e a' w', (∃ S' E' M', Q e S' ∧ Sim C E' M' S' a' w') ∧ Arrives C.P (lone (b.at a (.code c :: .inLoop c :: k)) cs w) b k cs e a' w'

theorem AWpL.loop {C : Ctx} {c : Code} {S : AState} {Q : Exit → AState → Prop} (h : AWpL C c S Q) : AWp C (.loop c) S Q := fun E M a w hs b k cs =>
  let ⟨e, a', w', hq, harr⟩ := h E M a w hs b k cs
  ⟨e, a', w', hq, .of_steps (.one step_loop) harr⟩

theorem AWpL.ent {C : Ctx} {c : Code} {S S' : AState} {Q : Exit → AState → Prop} (he : Ent S S') (h : AWpL C c S' Q) : AWpL C c S Q := fun E M a w hs =>
  let ⟨E', M', hs'⟩ := he C E M a w hs
  h E' M' a w hs'

theorem AWpL.round {C : Ctx} {c : Code} {S : AState} {Q : Exit → AState → Prop} (h : AWp C c S (eThen (fun S' => AWpL C c S' Q) Q)) : AWpL C c S Q := by
  intro E M a w hs b k cs
  obtain ⟨e, a₁, w₁, ⟨S₁, E₁, M₁, hq, hs₁⟩, harr⟩ := h E M a w hs b (.inLoop c :: k) cs
  cases e with
  | normal =>
    obtain ⟨e₂, a₂, w₂, hq₂, harr₂⟩ := hq E₁ M₁ a₁ w₁ hs₁ b k cs
    exact ⟨e₂, a₂, w₂, hq₂, .of_steps (Steps.trans harr (.one step_inLoop)) harr₂⟩
  | exit id => exact ⟨_, a₁, w₁, ⟨S₁, E₁, M₁, hq, hs₁⟩, .pass (x := .inLoop c) rfl (fun _ _ => .inl (by simp)) harr⟩
  | goto l => exact ⟨_, a₁, w₁, ⟨S₁, E₁, M₁, hq, hs₁⟩, .pass (x := .inLoop c) rfl (fun _ _ => .inl (by simp)) harr⟩
  | ret => exact ⟨_, a₁, w₁, ⟨S₁, E₁, M₁, hq, hs₁⟩, .pass (x := .inLoop c) rfl (fun _ _ => .inl (by simp)) harr⟩
  | panic ch => exact ⟨_, a₁, w₁, ⟨S₁, E₁, M₁, hq, hs₁⟩, .pass (x := .inLoop c) rfl (fun _ _ => .inl (by simp)) harr⟩
  | outgrown => exact ⟨_, a₁, w₁, ⟨S₁, E₁, M₁, hq, hs₁⟩, .pass (x := .inLoop c) rfl (fun _ _ => .inl (by simp)) harr⟩

/-- From a label on: the machine stands in the scope. -/
def AWpJ (C : Ctx) (x rest : Code) (S : AState) (Q : Exit → AState → Prop) : Prop :=
  ∀ (E : Env) (M : Mem) (a : Act) (w : World), Sim C E M S a w → ∀ (b : Frame) (k : List Item) (cs : List Frame),
    ∃ e a' w', (∃ S' E' M', Q e S' ∧ Sim C E' M' S' a' w') ∧ Arrives C.P (lone (b.at a (.code rest :: .inScope x :: k)) cs w) b k cs e a' w'

def eJump (l : Nat) (J : AState → Prop) (Q : Exit → AState → Prop) : Exit → AState → Prop
  | .goto l', S => l' = l ∧ J S
  | e, S => Q e S

theorem AWpJ.ent {C : Ctx} {x rest : Code} {S S' : AState} {Q : Exit → AState → Prop} (he : Ent S S') (h : AWpJ C x rest S' Q) : AWpJ C x rest S Q := fun E M a w hs =>
  let ⟨E', M', hs'⟩ := he C E M a w hs
  h E' M' a w hs'

theorem AWpJ.mono {C : Ctx} {x rest : Code} {S : AState} {Q Q' : Exit → AState → Prop} (h : AWpJ C x rest S Q) (hq : ∀ e S, Q e S → Q' e S) : AWpJ C x rest S Q' := fun E M a w hs b k cs =>
  let ⟨e, a', w', ⟨S', E', M', hq', hs'⟩, harr⟩ := h E M a w hs b k cs
  ⟨e, a', w', ⟨S', E', M', hq e S' hq', hs'⟩, harr⟩

theorem AWpJ.pass {C : Ctx} {x rest : Code} {l : Nat} {S : AState} {Q : Exit → AState → Prop} (hf : findLabel x l = some rest) (h : AWp C rest S (eJump l (fun S' => AWpJ C x rest S' Q) Q)) : AWpJ C x rest S Q := by
  intro E M a w hs b k cs
  have hg : gotoIn l (.inScope x :: k) = some (.code rest :: .inScope x :: k) := by simp [gotoIn, hf]
  obtain ⟨e, a₁, w₁, ⟨S₁, E₁, M₁, hq, hs₁⟩, harr⟩ := h E M a w hs b (.inScope x :: k) cs
  cases e with
  | normal => exact ⟨.normal, a₁, w₁, ⟨S₁, E₁, M₁, hq, hs₁⟩, Steps.trans harr (.one step_inScope)⟩
  | exit id => exact ⟨.exit id, a₁, w₁, ⟨S₁, E₁, M₁, hq, hs₁⟩, fun k' hk => harr k' (by simp [exitTo, hk])⟩
  | goto l' =>
    obtain ⟨rfl, hJ⟩ := hq
    obtain ⟨e₂, a₂, w₂, hq₂, harr₂⟩ := hJ E₁ M₁ a₁ w₁ hs₁ b k cs
    exact ⟨e₂, a₂, w₂, hq₂, .of_steps (harr _ hg) harr₂⟩
  | ret => exact ⟨_, a₁, w₁, ⟨S₁, E₁, M₁, hq, hs₁⟩, harr⟩
  | panic ch => exact ⟨_, a₁, w₁, ⟨S₁, E₁, M₁, hq, hs₁⟩, harr⟩
  | outgrown => exact ⟨_, a₁, w₁, ⟨S₁, E₁, M₁, hq, hs₁⟩, harr⟩

theorem awp_scope_jumps {C : Ctx} {x rest : Code} {l : Nat} {S : AState} {Q : Exit → AState → Prop} (hf : findLabel x l = some rest) (h : AWp C x S (eJump l (fun S' => AWpJ C x rest S' Q) Q)) : AWp C (.scope x) S Q := by
  intro E M a w hs b k cs
  have hg : gotoIn l (.inScope x :: k) = some (.code rest :: .inScope x :: k) := by simp [gotoIn, hf]
  obtain ⟨e, a₁, w₁, ⟨S₁, E₁, M₁, hq, hs₁⟩, harr⟩ := h E M a w hs b (.inScope x :: k) cs
  cases e with
  | normal => exact ⟨.normal, a₁, w₁, ⟨S₁, E₁, M₁, hq, hs₁⟩, .head step_scope (Steps.trans harr (.one step_inScope))⟩
  | exit id => exact ⟨.exit id, a₁, w₁, ⟨S₁, E₁, M₁, hq, hs₁⟩, fun k' hk => .head step_scope (harr k' (by simp [exitTo, hk]))⟩
  | goto l' =>
    obtain ⟨rfl, hJ⟩ := hq
    obtain ⟨e₂, a₂, w₂, hq₂, harr₂⟩ := hJ E₁ M₁ a₁ w₁ hs₁ b k cs
    exact ⟨e₂, a₂, w₂, hq₂, .of_steps (.head step_scope (harr _ hg)) harr₂⟩
  | ret => exact ⟨_, a₁, w₁, ⟨S₁, E₁, M₁, hq, hs₁⟩, .of_steps (.one step_scope) harr⟩
  | panic ch => exact ⟨_, a₁, w₁, ⟨S₁, E₁, M₁, hq, hs₁⟩, .of_steps (.one step_scope) harr⟩
  | outgrown => exact ⟨_, a₁, w₁, ⟨S₁, E₁, M₁, hq, hs₁⟩, .of_steps (.one step_scope) harr⟩

theorem blt_jump (l : Nat) : Nat.blt (1000000 + l) 1000000 = false := by
  cases h : Nat.blt (1000000 + l) 1000000 with
  | false => rfl
  | true => rw [Nat.blt_eq] at h; omega
theorem noJump_some {A : Type} {ke : Nat → TS V.N → Option A} {id : Nat} {S : TS V.N} {r : A} (h : noJump ke id S = some r) : Nat.blt id 1000000 = true ∧ ke id S = some r := by
  unfold noJump at h
  split at h
  · exact ⟨‹_›, h⟩
  · cases h
theorem noJump_jump {A : Type} {ke : Nat → TS V.N → Option A} {l : Nat} {S : TS V.N} {r : A} (h : noJump ke (1000000 + l) S = some r) : False := by
  have := (noJump_some h).1
  rw [blt_jump] at this; cases this

/-- What is known where a piece of code ends. -/
structure Post (sh : Shape V) {A : Type} (kn : TS V.N → Option A) (ke : Nat → TS V.N → Option A) (kr : HL V.N sh.rcut.tys → Option A) (r : A) (Q : Exit → AState → Prop) : Prop where
  norm : ∀ S σ, kn S = some r → Ent σ (encS V S) → Q .normal σ
  exit : ∀ id S σ, Nat.blt id 1000000 = true → ke id S = some r → Ent σ (encS V S) → Q (.exit id) σ
  jump : ∀ l S σ, ke (1000000 + l) S = some r → Ent σ (encS V S) → Q (.goto l) σ
  ret : ∀ v σ, kr v = some r → Ent σ (encS V (conc V sh.rcut v)) → Q .ret σ

/-- How a loop is left. -/
def OutQ (sh : Shape V) (alts : List Alt) (out : OutT (altTys sh []) alts) (e : Exit) (σ : AState) : Prop := match e with
  | .exit id => Nat.blt id 1000000 = true ∧ ∃ v : HL V.N (sh.exits id).tys, inj (altTys sh []) alts (.exit id) v = some out ∧ Ent σ (encS V (conc V (sh.exits id) v))
  | .ret => ∃ v : HL V.N sh.rcut.tys, inj (altTys sh []) alts .ret v = some out ∧ Ent σ (encS V (conc V sh.rcut v))
  | _ => False

/-- A loop's function says what the loop does. -/
def LoopOk (C : Ctx) (b : Code) {sh : Shape V} (la : LoopA V sh) : Prop := ∀ v out, la.F v = some out → AWpL C b (encS V (conc V la.cut v)) (OutQ sh la.alts out)

/-- A jump's function says what is done from the label on. -/
def JumpOk (C : Ctx) (x : Code) (l : Nat) {sh : Shape V} (la : LoopA V sh) : Prop :=
  ∃ rest, findLabel x l = some rest ∧ ∀ v out, la.F v = some out → AWpJ C x rest (encS V (conc V la.cut v)) (OutQ sh la.alts out)

/-- All loops that the evaluation meets. -/
def LOk (C : Ctx) (X : Xc V) : Code → Prop
  | .seq x y => LOk C X x ∧ LOk C X y
  | .block _ x => LOk C X x
  | .scope x => LOk C X x ∧ ∀ l la, X.jumps (firstId x) = some (l, la) → JumpOk C x l la
  | .cond _ x y => LOk C X x ∧ LOk C X y
  | .loop b => ∀ la, X.loops (firstId b) = some la → LoopOk C b la
  | _ => True

theorem aopsT_mono {P : Program} {N : Nat} {nm : Nat → Nat} {all : List Oper} : ∀ {os : List Oper} {S : AState} {tr : List Tr1} {k k' : AState → List Tr1 → Prop}, (∀ S tr, k S tr → k' S tr) → aopsT P N nm all os S tr k → aopsT P N nm all os S tr k'
  | [], S, tr, k, k', hk, h => hk _ _ h
  | o :: os, S, tr, k, k', hk, h => by
    simp only [aopsT] at h ⊢
    obtain ⟨hd, h⟩ := h
    refine ⟨hd, ?_⟩
    cases hg : o.guard with
    | none =>
      simp only [hg] at h ⊢
      exact AVal_mono (fun e ⟨h1, h2⟩ => ⟨h1, aopsT_mono hk h2⟩) h
    | some g =>
      obtain ⟨j, want⟩ := g
      simp only [hg] at h ⊢
      split at h
      · exact ⟨fun e => AVal_mono (fun e ⟨h1, h2⟩ => ⟨h1, aopsT_mono hk h2⟩) (h.1 e), fun e => aopsT_mono hk (h.2 e)⟩
      · exact h.elim

/-- No jump out of a scope. -/
def noGo (Q : Exit → AState → Prop) : Exit → AState → Prop
  | .goto _, _ => False
  | e, S => Q e S

theorem awp_scope {C : Ctx} {c : Code} {S : AState} {Q : Exit → AState → Prop} (h : AWp C c S (noGo Q)) : AWp C (.scope c) S Q := fun E M a w hs =>
  wp_scope_straight (wp_mono (h E M a w hs) fun e a' w' => by
    rintro ⟨S', E', M', hq, hs'⟩
    cases e with
    | goto l => exact hq.elim
    | _ => exact ⟨S', E', M', hq, hs'⟩)

theorem ex_sound {C : Ctx} {X : Xc V} (hP : C.P = X.P) (hn : C.N = X.n) (hm : X.P.follows .mixedOrders = true) (hcall : CallerOk X.P X.call) : ∀ (c : Code) (A : Type) (S : TS V.N) (kn : TS V.N → Option A) (ke : Nat → TS V.N → Option A)
    (kr : HL V.N X.sh.rcut.tys → Option A) (r : A) (Q : Exit → AState → Prop), LOk C X c → ex X c A S kn ke kr = some r → Post X.sh kn ke kr r Q → AWp C c (encS V S) Q := by
  intro c
  induction c with
  | skip => intro A S kn ke kr r Q _ h hp; exact .skip (hp.norm S _ h (Ent.refl _))
  | label l => intro A S kn ke kr r Q _ h hp; exact .label (hp.norm S _ h (Ent.refl _))
  | exit id =>
    intro A S kn ke kr r Q _ h hp
    simp only [ex] at h
    obtain ⟨h1, h2⟩ := noJump_some h
    exact .exit (hp.exit id S _ h1 h2 (Ent.refl _))
  | goto l => intro A S kn ke kr r Q _ h hp; exact .goto (hp.jump l S _ h (Ent.refl _))
  | ret =>
    intro A S kn ke kr r Q _ h hp
    simp only [ex] at h
    split at h
    · rename_i v hv; exact .ret (hp.ret v _ h (extr_ent hv))
    · cases h
  | seq x y ihx ihy =>
    intro A S kn ke kr r Q hl h hp
    obtain ⟨hlx, hly⟩ := hl
    simp only [ex] at h
    split at h
    · refine .seq (ihx A S _ ke kr r _ hlx h ⟨fun S' σ hk he => ?_, hp.exit, hp.jump, fun v σ hk he => hp.ret v σ hk he⟩)
      exact .ent he (ihy A S' kn ke kr r Q hly hk hp)
    · rename_i cut alts hj
      obtain ⟨out, h1, h2⟩ := some_bind h
      refine .seq (ihx _ S _ _ _ out _ hlx h1 ⟨fun S' σ hk he => ?_, fun id S' σ hb hk he => ?_, fun l S' σ hk he => ?_, fun v σ hk he => ?_⟩)
      · split at hk
        · rename_i v hv
          rw [handle_inj hk] at h2
          exact .ent (Ent.trans he (extr_ent hv)) (ihy A _ kn ke kr r Q hly h2 hp)
        · cases hk
      · split at hk
        · rename_i v hv
          rw [handle_inj hk] at h2
          exact hp.exit id _ σ hb h2 (Ent.trans he (extr_ent hv))
        · cases hk
      · split at hk
        · rename_i v hv
          rw [handle_inj hk] at h2
          exact hp.jump l _ σ h2 (Ent.trans he (extr_ent hv))
        · cases hk
      · rw [handle_inj hk] at h2
        exact hp.ret v σ h2 he
  | block id x ih =>
    intro A S kn ke kr r Q hl h hp
    simp only [ex] at h
    split at h
    · rename_i hb
      refine .block (ih A S kn _ kr r _ hl h ⟨fun S' σ hk he => hp.norm S' σ hk he, fun id' S' σ hb' hk he => ?_, fun l S' σ hk he => ?_, fun v σ hk he => hp.ret v σ hk he⟩)
      · simp only [eBlock]
        split at hk
        · rename_i e; rw [if_pos e]; exact hp.norm S' σ hk he
        · rename_i e; rw [if_neg e]; exact hp.exit id' S' σ hb' hk he
      · simp only [eBlock]
        rw [if_neg (fun e => by rw [← e, blt_jump] at hb; cases hb)] at hk
        exact hp.jump l S' σ hk he
    · cases h
  | cond c x y ihx ihy =>
    intro A S kn ke kr r Q hl h hp
    obtain ⟨hlx, hly⟩ := hl
    simp only [ex] at h
    split at h
    · rename_i t
      split at h
      · rename_i b hb
        have hev : ev (encS V S) (.tmp t) = .d (.v (.bool b)) := by
          rw [ev_enc]
          simp only [tev, TS.get, hb, Option.getD_some, encV, encD]
        have hset : ∀ b', b = b' → Ent (encS V S) (encS V (setB S t b')) := fun b' e C E M a w hs => ⟨E, M, setB_sim (by rw [hb, e]) hs⟩
        cases b with
        | true =>
          rw [if_pos rfl] at h
          exact .cond hev (fun _ => .ent (hset true rfl) (ihx A _ kn ke kr r Q hlx h hp)) (fun e => by cases e)
        | false =>
          rw [if_neg (by simp)] at h
          exact .cond hev (fun e => by cases e) (fun _ => .ent (hset false rfl) (ihy A _ kn ke kr r Q hly h hp))
      · cases h
    · rename_i b
      have hev : ev (encS V S) (.const (.bool b)) = .d (.v (.bool b)) := rfl
      cases b with
      | true => exact .cond hev (fun _ => ihx A _ kn ke kr r Q hlx h hp) (fun e => by cases e)
      | false => exact .cond hev (fun e => by cases e) (fun _ => ihy A _ kn ke kr r Q hly h hp)
    · cases h
  | region id ops draw =>
    intro A S kn ke kr r Q _ h hp
    have key : ∀ {B : Type} (k : TS V.N → Option B) (s : B), regx X id ops draw S k = some s → (∀ S' σ, k S' = some s → Ent σ (encS V S') → Q .normal σ) → AWp C (.region id ops draw) (encS V S) Q := by
      intro B k s hr hq
      cases draw with
      | false =>
        simp only [regx] at hr
        rw [← hP, ← hn] at hr
        intro E M a w hs
        refine wp_region ?_
        have := txs_sound (C := C) (ops := ops) (Q := fun e a' w' => ∃ S' E' M', Q e S' ∧ Sim C E' M' S' a' w') (hP ▸ hcall) ops.toList 0 S k E M a w (by simp) hr hs
          fun S' E' M' a' w' hk hs' => ⟨_, E', M', hq S' _ hk (Ent.refl _), hs'⟩
        have e : (List.range ops.toList.length).map (0 + ·) = List.range ops.size := by simp
        rw [e] at this
        exact this
      | true =>
        simp only [regx] at hr
        have one : ∀ (ops : Array Oper), regd X ops S k = some s → aopsT C.P C.N X.nm ops.toList ops.toList (encS V S) [] (fun S' tr => drawOk ops.toList tr = true ∧ Q .normal S') := by
          intro ops hr
          simp only [regd] at hr
          rw [hP, hn]
          have h2 := txd_sound hcall ops.toList S (encS V S) [] _ hr (Rl.refl S)
          refine aopsT_mono (fun σ' tr' ⟨S', hrl, hk⟩ => ?_) h2
          split at hk
          · rename_i hd; exact ⟨hd, hq S' σ' hk hrl.ent⟩
          · cases hk
        split at hr
        · exact .draw X.nm (by rw [hP]; exact hm) (one ops hr)
        · rename_i i j _
          split at hr
          · rename_i hf
            obtain ⟨h1, h2⟩ := both_some hr
            simp only [pairFits, Bool.and_eq_true, Bool.not_eq_true', Nat.blt_eq] at hf
            obtain ⟨⟨f1, f2⟩, f3⟩ := hf
            exact .draw2 X.nm i j (fun e => by rw [e, Nat.beq_refl] at f1; cases f1) f2 f3 (by rw [hP]; exact hm) (one _ h1) (one _ h2)
          · cases hr
    simp only [ex] at h
    split at h
    · exact key kn r h fun S' σ hk he => hp.norm S' σ hk he
    · rename_i cut _
      obtain ⟨v, h1, h2⟩ := some_bind h
      exact key _ v h1 fun S' σ hk he => hp.norm _ σ h2 (Ent.trans he (extr_ent hk))
  | scope x ih =>
    intro A S kn ke kr r Q hl h hp
    simp only [ex] at h
    split at h
    · exact awp_scope (ih A S kn _ kr r _ hl.1 h ⟨fun S' σ hk he => hp.norm S' σ hk he, fun id' S' σ hb hk he => hp.exit id' S' σ hb (noJump_some hk).2 he, fun l S' σ hk he => (noJump_jump hk).elim, fun v σ hk he => hp.ret v σ hk he⟩)
    · rename_i l la hj
      obtain ⟨rest, hf, hok⟩ := hl.2 l la hj
      refine awp_scope_jumps hf (ih A S kn _ kr r _ hl.1 h ⟨fun S' σ hk he => hp.norm S' σ hk he, fun id' S' σ hb hk he => ?_, fun l' S' σ hk he => ?_, fun v σ hk he => hp.ret v σ hk he⟩)
      · split at hk
        · rename_i e
          have := Nat.eq_of_beq_eq_true e
          rw [this, blt_jump] at hb; cases hb
        · exact hp.exit id' S' σ hb (noJump_some hk).2 he
      · split at hk
        · rename_i e
          have e := Nat.eq_of_beq_eq_true e
          refine ⟨by omega, ?_⟩
          split at hk
          · cases hk
          · rename_i v hv
            obtain ⟨out, h1, h2⟩ := some_bind hk
            refine .ent (Ent.trans he (extr_ent hv)) ((hok v out h1).mono fun e σ hq => ?_)
            unfold OutQ at hq
            split at hq
            · obtain ⟨hb, w, hw1, hw2⟩ := hq
              rw [handle_inj hw1] at h2
              exact hp.exit _ _ σ hb h2 hw2
            · obtain ⟨w, hw1, hw2⟩ := hq
              rw [handle_inj hw1] at h2
              exact hp.ret w σ h2 hw2
            · exact hq.elim
        · exact (noJump_jump hk).elim
  | loop b ih =>
    intro A S kn ke kr r Q hl h hp
    simp only [ex] at h
    split at h
    · cases h
    · rename_i la hla
      split at h
      · cases h
      · rename_i v hv
        obtain ⟨out, h1, h2⟩ := some_bind h
        refine .ent (extr_ent hv) ((AWpL.loop (hl la hla v out h1)).mono fun e σ hq => ?_)
        unfold OutQ at hq
        split at hq
        · obtain ⟨hb, w, hw1, hw2⟩ := hq
          rw [handle_inj hw1] at h2
          exact hp.exit _ _ σ hb h2 hw2
        · obtain ⟨w, hw1, hw2⟩ := hq
          rw [handle_inj hw1] at h2
          exact hp.ret w σ h2 hw2
        · exact hq.elim
  | _ => intro A S kn ke kr r Q _ h hp; simp only [ex] at h; cases h

/-- ONE ROUND OF A LOOP. -/
theorem loop_step {C : Ctx} {X : Xc V} (hP : C.P = X.P) (hn : C.N = X.n) (hm : X.P.follows .mixedOrders = true) (hcall : CallerOk X.P X.call) {b : Code} (hl : LOk C X b) {cut : Cut V.ι} {alts : List Alt}
    {F : HL V.N cut.tys → Option (OutT (altTys X.sh []) alts)} (ih : ∀ v out, F v = some out → AWpL C b (encS V (conc V cut v)) (OutQ X.sh alts out)) {v : HL V.N cut.tys} {out : OutT (altTys X.sh []) alts}
    (h : exL X b cut alts F v = some out) : AWpL C b (encS V (conc V cut v)) (OutQ X.sh alts out) := by
  refine AWpL.round (ex_sound hP hn hm hcall b _ _ _ _ _ out _ hl h ⟨fun S' σ hk he => ?_, fun id S' σ hb hk he => ?_, fun l S' σ hk he => (noJump_jump hk).elim, fun v σ hk he => ?_⟩)
  · split at hk
    · rename_i w hw; exact .ent (Ent.trans he (extr_ent hw)) (ih w out hk)
    · cases hk
  · have hk := (noJump_some hk).2
    split at hk
    · rename_i w hw; exact ⟨hb, w, hk, Ent.trans he (extr_ent hw)⟩
    · cases hk
  · exact ⟨v, hk, he⟩

/-- ONE PASS FROM A LABEL. -/
theorem jump_step {C : Ctx} {X : Xc V} (hP : C.P = X.P) (hn : C.N = X.n) (hm : X.P.follows .mixedOrders = true) (hcall : CallerOk X.P X.call) {x b : Code} {l : Nat} (hf : findLabel x l = some b) (hl : LOk C X b) {cut : Cut V.ι} {alts : List Alt}
    {F : HL V.N cut.tys → Option (OutT (altTys X.sh []) alts)} (ih : ∀ v out, F v = some out → AWpJ C x b (encS V (conc V cut v)) (OutQ X.sh alts out)) {v : HL V.N cut.tys} {out : OutT (altTys X.sh []) alts}
    (h : exJ X b l cut alts F v = some out) : AWpJ C x b (encS V (conc V cut v)) (OutQ X.sh alts out) := by
  refine AWpJ.pass hf (ex_sound hP hn hm hcall b _ _ _ _ _ out _ hl h ⟨fun S' σ hk he => (by cases hk), fun id S' σ hb hk he => ?_, fun l' S' σ hk he => ?_, fun v σ hk he => ?_⟩)
  · split at hk
    · rename_i e
      have := Nat.eq_of_beq_eq_true e
      rw [this, blt_jump] at hb; cases hb
    · have hk := (noJump_some hk).2
      split at hk
      · rename_i w hw; exact ⟨hb, w, hk, Ent.trans he (extr_ent hw)⟩
      · cases hk
  · split at hk
    · rename_i e
      have e := Nat.eq_of_beq_eq_true e
      refine ⟨by omega, ?_⟩
      split at hk
      · rename_i w hw; exact .ent (Ent.trans he (extr_ent hw)) (ih w out hk)
      · cases hk
    · exact (noJump_jump hk).elim
  · exact ⟨v, hk, he⟩

end
end Go.Tx
