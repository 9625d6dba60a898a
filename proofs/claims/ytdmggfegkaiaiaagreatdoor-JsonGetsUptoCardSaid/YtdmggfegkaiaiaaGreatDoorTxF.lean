/-
  Typed states: cuts: what is kept of a state at a loop's head, where ways meet, at a call.
-/
import Derived.Test.YtdmggfegkaiaiaaGreatDoorTxE
namespace Go.Tx
open Go.Awp
set_option linter.unusedSectionVars false
variable [Inhabited GMem]
set_option linter.unusedSimpArgs false

/-- What stands at a place. -/
inductive Pt (ι : Type) where
  | dat (t : Ty ι)
  | bp (c off : Nat)
  | vh (c : Nat)
  | mp (c : Nat)
  | np (c : Nat)
  /-- the nil of an interface -/
  | nif
  | fn (f : Nat) (a b : List Nat)
  /-- a struct, some of its cells owned slices -/
  | ag (cs : List (Ty ι ⊕ Nat))

inductive OPt (ι : Type) where
  | box (o : Option TypeId) (cells : List (Pt ι))
  | st (i : ι)
  | vec (te : TypeId) (e : Ty ι)
  | map (k v : Ty ι)
  | iter

structure Cut (ι : Type) where
  slots : List (Nat × Pt ι)
  objs : List (Nat × OPt ι)

section
variable {ι : Type}

def agTys : List (Ty ι ⊕ Nat) → List (Ty ι)
  | [] => []
  | .inl t :: r => t :: agTys r
  | .inr _ :: r => agTys r

def Pt.tys : Pt ι → List (Ty ι)
  | .dat t => [t]
  | .ag cs => agTys cs
  | .np _ => [.bool]
  | _ => []

def ptsTys : List (Pt ι) → List (Ty ι)
  | [] => []
  | p :: r => p.tys ++ ptsTys r

def slotTys : List (Nat × Pt ι) → List (Ty ι)
  | [] => []
  | p :: r => p.2.tys ++ slotTys r

def OPt.tys : OPt ι → List (Ty ι)
  | .box _ cells => ptsTys cells
  | .st i => [.st i]
  | .vec _ e => [.sl e]
  | .map k v => [.mp k v]
  | .iter => [.str, .int .i64]

def objTys : List (Nat × OPt ι) → List (Ty ι)
  | [] => []
  | p :: r => p.2.tys ++ objTys r

def Cut.tys (c : Cut ι) : List (Ty ι) := slotTys c.slots ++ objTys c.objs

/-- Data, one of each type. -/
@[reducible] def HL (N : ι → Type) : List (Ty ι) → Type
  | [] => Unit
  | t :: r => den N t × HL N r

def ofHL {N : ι → Type} : (ts : List (Ty ι)) → HL N ts → List (Leaf N)
  | [], _ => []
  | t :: r, v => ⟨t, v.1⟩ :: ofHL r v.2

def toHL [DecidableEq ι] {N : ι → Type} : (ts : List (Ty ι)) → List (Leaf N) → Option (HL N ts)
  | [], [] => some ()
  | t :: r, l :: ls => if h : l.t = t then match toHL r ls with
      | some v => some (h ▸ l.x, v)
      | none => none
    else none
  | _, _ => none

theorem toHL_of [DecidableEq ι] {N : ι → Type} : ∀ {ts : List (Ty ι)} {ls : List (Leaf N)} {v : HL N ts}, toHL ts ls = some v → ofHL ts v = ls
  | [], [], v, _ => rfl
  | [], _ :: _, v, h => by simp [toHL] at h
  | _ :: _, [], v, h => by simp [toHL] at h
  | t :: r, l :: ls, v, h => by
    simp only [toHL] at h
    split at h
    · rename_i ht
      split at h
      · rename_i w hw
        obtain ⟨lt, lx⟩ := l
        simp only at ht
        subst ht
        simp at h; subst h
        simp [ofHL, toHL_of hw]
      · cases h
    · cases h

/-- Names: the cut's own, the state's. -/
abbrev Names := List (Nat × Nat)

def bindN (σ : Names) (c n : Nat) : Option Names := match gt σ c with
  | some m => if m = n then some σ else none
  | none => if σ.any (fun p => Nat.beq p.2 n) = true then none else some ((c, n) :: σ)

def bindL {N : ι → Type} (σ : Names) : List Nat → List (TV N) → Option Names
  | [], [] => some σ
  | c :: r, .bp n 0 :: s => match bindN σ c n with
    | some σ' => bindL σ' r s
    | none => none
  | _, _ => none
end

section
variable (V : View)

/-- The cells of a struct. -/
def mtC (σ : Names) : List (Ty V.ι ⊕ Nat) → List (TV V.N) → Option (Names × List (Leaf V.N))
  | [], [] => some (σ, [])
  | .inl t :: r, x :: s => match leafOf V false t x with
    | some l => match mtC σ r s with
      | some (σ', ls) => some (σ', l :: ls)
      | none => none
    | none => none
  | .inr c :: r, .vh n :: s => match bindN σ c n with
    | some σ' => mtC σ' r s
    | none => none
  | _, _ => none

/-- One place: names are bound, data comes out. -/
def mt1 (σ : Names) : Pt V.ι → TV V.N → Option (Names × List (Leaf V.N))
  | .dat t, .lf t' x => if t' = t then some (σ, [⟨t', x⟩]) else none
  | .dat (.sl e), .raw (.slice none 0 0) => some (σ, [⟨.sl e, []⟩])
  | .dat (.st i), .agg cs => match mkV V false (some (.st i)) cs with
    | .lf t x => some (σ, [⟨t, x⟩])
    | _ => none
  | .bp c off, .bp n off' => if off = off' then (bindN σ c n).map fun σ' => (σ', []) else none
  | .vh c, .vh n => (bindN σ c n).map fun σ' => (σ', [])
  | .mp c, .mp n => (bindN σ c n).map fun σ' => (σ', [])
  | .np c, .np n b => (bindN σ c n).map fun σ' => (σ', [⟨.bool, b⟩])
  | .np c, .bp n 0 => (bindN σ c n).map fun σ' => (σ', [⟨.bool, true⟩])
  | .np _, .raw (.pointer none) => some (σ, [⟨.bool, false⟩])
  | .nif, .raw .nilIface => some (σ, [])
  | .fn f a b, .fn f' a' b' => if f = f' then match bindL σ a a' with
      | some σ' => (bindL σ' b b').map fun σ'' => (σ'', [])
      | none => none
    else none
  | .ag cs, .agg vs => mtC V σ cs vs
  | _, _ => none

def mtL (σ : Names) : List (Pt V.ι) → List (TV V.N) → Option (Names × List (Leaf V.N))
  | [], [] => some (σ, [])
  | p :: r, x :: s => match mt1 V σ p x with
    | some (σ', l) => match mtL σ' r s with
      | some (σ'', l') => some (σ'', l ++ l')
      | none => none
    | none => none
  | _, _ => none

def mtO (S : TS V.N) (σ : Names) : List (Nat × OPt V.ι) → Option (Names × List (Leaf V.N))
  | [] => some (σ, [])
  | (c, p) :: r => match gt σ c with
    | some n => match p, S.own? n with
      | .box o ps, some (.box o' cells) => if o = none ∨ o = o' then match mtL V σ ps cells with
        | some (σ', l) => match mtO S σ' r with
          | some (σ'', l') => some (σ'', l ++ l')
          | none => none
        | none => none
        else none
      | .st i, some (.box _ cells) => match mkV V false (some (.st i)) cells with
        | .lf (.st j) x => match mtO S σ r with
          | some (σ'', l') => some (σ'', ⟨.st j, x⟩ :: l')
          | none => none
        | _ => none
      | .st i, some (.bst j x) => if i = j then match mtO S σ r with
          | some (σ'', l') => some (σ'', ⟨.st j, x⟩ :: l')
          | none => none
        else none
      | .box none ps, some (.bst j x) => match mtL V σ ps ((V.cells j x).map fun l => .lf l.t l.x) with
        | some (σ', l) => match mtO S σ' r with
          | some (σ'', l') => some (σ'', l ++ l')
          | none => none
        | none => none
      | .vec te e, some (.vec te' e' xs) => if te = te' ∧ e = e' then match mtO S σ r with
          | some (σ'', l') => some (σ'', ⟨.sl e', xs⟩ :: l')
          | none => none
        else none
      | .iter, some (.iter s p) => match mtO S σ r with
          | some (σ'', l') => some (σ'', ⟨.str, s⟩ :: ⟨.int .i64, p⟩ :: l')
          | none => none
      | .map tk tv, some (.map tk' tv' es) => if tk = tk' ∧ tv = tv' then match mtO S σ r with
          | some (σ'', l') => some (σ'', ⟨.mp tk' tv', es⟩ :: l')
          | none => none
        else none
      | _, _ => none
    | none => none

def bdC : List (Ty V.ι ⊕ Nat) → List (Leaf V.N) → Option (List (TV V.N) × List (Leaf V.N))
  | [], ls => some ([], ls)
  | .inl _ :: r, l :: ls => match bdC r ls with
    | some (vs, ls') => some (.lf l.t l.x :: vs, ls')
    | none => none
  | .inl _ :: _, [] => none
  | .inr c :: r, ls => match bdC r ls with
    | some (vs, ls') => some (.vh c :: vs, ls')
    | none => none

/-- Data goes in. -/
def bd1 : (p : Pt V.ι) → List (Leaf V.N) → Option (TV V.N × List (Leaf V.N))
  | .dat _, l :: ls => some (.lf l.t l.x, ls)
  | .dat _, [] => none
  | .bp c off, ls => some (.bp c off, ls)
  | .vh c, ls => some (.vh c, ls)
  | .mp c, ls => some (.mp c, ls)
  | .np c, ⟨.bool, b⟩ :: ls => some (.np c b, ls)
  | .np _, _ => none
  | .nif, ls => some (.raw .nilIface, ls)
  | .fn f a b, ls => some (.fn f (a.map fun c => .bp c 0) (b.map fun c => .bp c 0), ls)
  | .ag cs, ls => match bdC V cs ls with
    | some (vs, ls') => some (.agg vs, ls')
    | none => none

def bdL : List (Pt V.ι) → List (Leaf V.N) → Option (List (TV V.N) × List (Leaf V.N))
  | [], ls => some ([], ls)
  | p :: r, ls => match bd1 V p ls with
    | some (x, ls') => match bdL r ls' with
      | some (xs, ls'') => some (x :: xs, ls'')
      | none => none
    | none => none

def bdO : List (Nat × OPt V.ι) → List (Leaf V.N) → Option (List (Nat × TO V.N))
  | [], [] => some []
  | [], _ :: _ => none
  | (c, .box o ps) :: r, ls => match bdL V ps ls with
    | some (xs, ls') => match bdO r ls' with
      | some os => some ((c, .box o xs) :: os)
      | none => none
    | none => none
  | (c, .st i) :: r, ⟨.st j, x⟩ :: ls => if j = i then match bdO r ls with
      | some os => some ((c, .bst j x) :: os)
      | none => none
    else none
  | (c, .vec te e) :: r, ⟨.sl e', xs⟩ :: ls => if e' = e then match bdO r ls with
      | some os => some ((c, .vec te e' xs) :: os)
      | none => none
    else none
  | (c, .iter) :: r, ⟨.str, s⟩ :: ⟨.int .i64, p⟩ :: ls => match bdO r ls with
      | some os => some ((c, .iter s p) :: os)
      | none => none
  | (c, .map tk tv) :: r, ⟨.mp tk' tv', es⟩ :: ls => if tk' = tk ∧ tv' = tv then match bdO r ls with
      | some os => some ((c, .map tk' tv' es) :: os)
      | none => none
    else none
  | _, _ => none

/-- The state at a cut. -/
def build (c : Cut V.ι) (ls : List (Leaf V.N)) : TS V.N := match bdL V (c.slots.map (·.2)) ls with
  | some (xs, ls') => match bdO V c.objs ls' with
    | some os => { tmps := (c.slots.map (·.1)).zip xs, own := os }
    | none => { tmps := [], own := [] }
  | none => { tmps := [], own := [] }

def conc (c : Cut V.ι) (v : HL V.N c.tys) : TS V.N := build V c (ofHL c.tys v)

/-- A slice that is owned becomes data. -/
def frz1 (n : Nat) (e : Ty V.ι) (xs : List (den V.N e)) (v : TV V.N) : TV V.N := match v with
  | .vh m => if m = n then .lf (.sl e) xs else .vh m
  | v => if TV.has n v = true then .junk else v

def frzV (n : Nat) (e : Ty V.ι) (xs : List (den V.N e)) (v : TV V.N) : TV V.N := match v with
  | .agg cs => .agg (cs.map (frz1 V n e xs))
  | v => frz1 V n e xs v

def frzO (n : Nat) (e : Ty V.ι) (xs : List (den V.N e)) : TO V.N → TO V.N
  | .box o cells => .box o (cells.map (frz1 V n e xs))
  | o => o

def TS.frz (S : TS V.N) (n : Nat) (e : Ty V.ι) (xs : List (den V.N e)) : TS V.N :=
  { tmps := S.tmps.map fun p => (p.1, frzV V n e xs p.2), own := (n, .gone xs.length) :: S.own.map fun p => (p.1, frzO V n e xs p.2) }

/-- Slices that a place wants as data are frozen. -/
def frzAt (S : TS V.N) (v : TV V.N) : TS V.N := match v with
  | .vh n => match S.own? n with
    | some (.vec _ e xs) => S.frz V n e xs
    | _ => S
  | _ => S

def frzL (S : TS V.N) : List (TV V.N) → TS V.N
  | [] => S
  | v :: r => frzL (frzAt V S v) r

def wantsG : List (Ty V.ι ⊕ Nat) → List (TV V.N) → List (TV V.N)
  | .inl _ :: r, v :: s => v :: wantsG r s
  | .inr _ :: r, _ :: s => wantsG r s
  | _, _ => []

def wants : Pt V.ι → TV V.N → List (TV V.N)
  | .dat _, .vh n => [.vh n]
  | .dat _, .agg cs => cs
  | .ag cs, .agg vs => wantsG V cs vs
  | _, _ => []

/-- A place that wants an owned slice where there is nil. -/
def nilAt (te : TypeId) (e : Ty V.ι) (S : TS V.N) (t : Nat) : TS V.N := match gt S.tmps t with
  | some (.raw (.slice none 0 0)) => if S.fresh (60000 + t) = true ∧ Nat.blt (60000 + t) given = true then { tmps := (t, .vh (60000 + t)) :: S.tmps, own := (60000 + t, .vec te e []) :: S.own } else S
  | _ => S

/-- A nil slice in a box becomes an owned one. -/
def nilBox (te : TypeId) (e : Ty V.ι) (S : TS V.N) (b i : Nat) : TS V.N := match S.own? b with
  | some (.box o cells) => match cells[i]? with
    | some (.raw (.slice none 0 0)) => if S.fresh (70000 + S.own.length) = true ∧ Nat.blt (70000 + S.own.length) given = true then
        { tmps := S.tmps, own := (b, .box o (cells.set i (.vh (70000 + S.own.length)))) :: (70000 + S.own.length, .vec te e []) :: S.own } else S
    | _ => S
  | _ => S

/-- The cell of a box. -/
def cellAt (S : TS V.N) (b i : Nat) : TV V.N := match S.own? b with
  | some (.box _ cells) => (cells[i]?).getD .junk
  | _ => .junk

def preBox (objs : List (Nat × OPt V.ι)) (b : Nat) : Nat → List (Pt V.ι) → TS V.N → TS V.N
  | _, [], S => S
  | i, .vh c :: r, S => match gt objs c with
    | some (.vec te e) => preBox objs b (i + 1) r (nilBox V te e S b i)
    | _ => preBox objs b (i + 1) r S
  | i, .dat ty :: r, S => preBox objs b (i + 1) r (frzL V S (wants V (.dat ty) (cellAt V S b i)))
  | i, _ :: r, S => preBox objs b (i + 1) r S

/-- One object, as the cut wants it. -/
def preObj (objs : List (Nat × OPt V.ι)) (c b : Nat) (S : TS V.N) : TS V.N := match gt objs c with
  | some (.box _ ps) => preBox V objs b 0 ps S
  | some (.st _) => match S.own? b with
    | some (.box _ cells) => frzL V S cells
    | _ => S
  | _ => S

/-- The names that stand at a place: the cut's, the state's. -/
def pairs1 : Pt V.ι → TV V.N → List (Nat × Nat)
  | .bp c _, .bp n _ => [(c, n)]
  | .mp c, .mp n => [(c, n)]
  | .fn _ a b, .fn _ a' b' => (a ++ b).zip ((a' ++ b').map fun v => match v with
    | .bp n _ => n
    | _ => 0)
  | _, _ => []

def pairsL : List (Pt V.ι) → List (TV V.N) → List (Nat × Nat)
  | p :: ps, v :: vs => pairs1 V p v ++ pairsL ps vs
  | _, _ => []

def pairsO (objs : List (Nat × OPt V.ι)) (S : TS V.N) (c b : Nat) : List (Nat × Nat) := match gt objs c, S.own? b with
  | some (.box _ ps), some (.box _ cells) => pairsL V ps cells
  | _, _ => []

/-- All objects that are reached. -/
def preW (objs : List (Nat × OPt V.ι)) : Nat → List (Nat × Nat) → TS V.N → TS V.N
  | 0, _, S => S
  | _, [], S => S
  | m + 1, (c, b) :: r, S => preW objs m (r ++ pairsO V objs S c b) (preObj V objs c b S)

def preS (objs : List (Nat × OPt V.ι)) (S : TS V.N) : List (Nat × Pt V.ι) → TS V.N
  | [] => S
  | (t, .vh c) :: r => match gt objs c with
    | some (.vec te e) => preS objs (nilAt V te e S t) r
    | _ => preS objs S r
  | (t, .dat ty) :: r => preS objs (frzL V S (wants V (.dat ty) (S.get t))) r
  | (t, .ag cs) :: r => preS objs (frzL V S (wants V (.ag cs) (S.get t))) r
  | _ :: r => preS objs S r

/-- A state as a cut wants it: slices frozen, nil slices owned. -/
def preA (objs : List (Nat × OPt V.ι)) (S : TS V.N) (slots : List (Nat × Pt V.ι)) : TS V.N := match objs with
  | [] => preS V objs S slots
  | _ => preW V objs (4 * objs.length) (slots.flatMap fun p => pairs1 V p.2 (S.get p.1)) (preS V objs S slots)

/-- What comes out at a cut: names, data. -/
def extr0 (c : Cut V.ι) (S : TS V.N) : Option (Names × List (Leaf V.N)) := match mtL V [] (c.slots.map (·.2)) (c.slots.map fun p => S.get p.1) with
  | some (σ, l) => match mtO V S σ c.objs with
    | some (σ', l') => some (σ', l ++ l')
    | none => none
  | none => none

/-- An owned slice that is named is among the objects. -/
def vhIn (objs : List (Nat × OPt V.ι)) : Pt V.ι → Bool
  | .vh c => objs.any fun p => Nat.beq p.1 c
  | .ag cs => cs.all fun x => match x with
    | .inr c => objs.any fun p => Nat.beq p.1 c
    | .inl _ => true
  | _ => true

/-- All names are bound to what is there, each cut's object once. -/
def objsOk (c : Cut V.ι) (σ : Names) : Bool := σ.all (fun p => Nat.blt p.1 given || Nat.beq p.1 p.2) && c.slots.all (fun p => vhIn V c.objs p.2) && c.objs.all (fun p => match p.2 with
  | .box _ ps => ps.all (vhIn V c.objs)
  | _ => true)

def extr (c : Cut V.ι) (S : TS V.N) : Option (HL V.N c.tys) := match extr0 V c (preA V c.objs S c.slots) with
  | some (σ, ls) => if objsOk V c σ = true then toHL c.tys ls else none
  | none => none

end
end Go.Tx
