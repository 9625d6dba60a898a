/-
  Texts of this claim, joined by a program of mine: what the theorem uses.
-/
import Derived.Test.YtpelkenpapfadaaGreatDoorPkC
import Derived.Scope
import Derived.KernelRfl
set_option linter.unusedSectionVars false
set_option linter.unusedSimpArgs false
set_option linter.unusedVariables false
section
namespace Go.Tx
open Go.Awp
variable [Inhabited GMem]
inductive Pt (ι : Type) where
 | dat (t : Ty ι)
 | bp (c off : Nat)
 | vh (c : Nat)
 | mp (c : Nat)
 | np (c : Nat)
 /-- the nil of an interface -/
 | nif
 | fn (f : Nat) (a b : List Nat)
 /-- a struct, some of its cells owned slices -/
 | ag (cs : List (Ty ι ⊕ Nat))
inductive OPt (ι : Type) where
 | box (o : Option TypeId) (cells : List (Pt ι))
 | st (i : ι)
 | vec (te : TypeId) (e : Ty ι)
 /-- a slice whose elements own what they hold: all of them are there, or some are out -/
 | dvec (te : TypeId) (e : Ty ι) (out : Bool)
 | map (k v : Ty ι)
 | iter
 | miter (m : Nat) (k v : Ty ι)
structure Cut (ι : Type) where
 slots : List (Nat × Pt ι)
 objs : List (Nat × OPt ι)
section
variable {ι : Type}
def agTys : List (Ty ι ⊕ Nat) → List (Ty ι)
 | [] => []
 | .inl t :: r => t :: agTys r
 | .inr _ :: r => agTys r
def Pt.tys : Pt ι → List (Ty ι)
 | .dat t => [t]
 | .ag cs => agTys cs
 | .np _ => [.bool]
 | _ => []
def ptsTys : List (Pt ι) → List (Ty ι)
 | [] => []
 | p :: r => p.tys ++ ptsTys r
def slotTys : List (Nat × Pt ι) → List (Ty ι)
 | [] => []
 | p :: r => p.2.tys ++ slotTys r
def OPt.tys : OPt ι → List (Ty ι)
 | .box _ cells => ptsTys cells
 | .st i => [.st i]
 | .vec _ e => [.sl e]
 | .dvec _ e out => match out with
  | true => [.sl (.op e)]
  | false => [.sl e]
 | .map k v => [.mp k v]
 | .iter => [.str, .int .i64]
 | .miter _ k v => [.mp k v, .mp k v]
def objTys : List (Nat × OPt ι) → List (Ty ι)
 | [] => []
 | p :: r => p.2.tys ++ objTys r
def Cut.tys (c : Cut ι) : List (Ty ι) := slotTys c.slots ++ objTys c.objs
def allS {α : Type} : List (Option α) → Option (List α)
 | [] => some []
 | x :: r => match x with
  | none => none
  | some y => match allS r with
   | some l => some (y :: l)
   | none => none
theorem allS_eq {α : Type} : ∀ {l : List (Option α)} {r : List α}, allS l = some r → l = r.map some
 | [], r, h => by simp [allS] at h; subst h; rfl
 | x :: l, r, h => by
  simp only [allS] at h
  split at h
  ·cases h
  ·split at h
   ·rename_i l' hl
    cases h
    rw [allS_eq hl]; rfl
   ·cases h
@[reducible] def HL (N : ι → Type) : List (Ty ι) → Type
 | [] => Unit
 | t :: r => den N t × HL N r
def ofHL {N : ι → Type} : (ts : List (Ty ι)) → HL N ts → List (Leaf N)
 | [], _ => []
 | t :: r, v => ⟨t, v.1⟩ :: ofHL r v.2
def toHL [DecidableEq ι] {N : ι → Type} : (ts : List (Ty ι)) → List (Leaf N) → Option (HL N ts)
 | [], [] => some ()
 | t :: r, l :: ls => if h : l.t = t then match toHL r ls with
   | some v => some (h ▸ l.x, v)
   | none => none
  else none
 | _, _ => none
theorem toHL_of [DecidableEq ι] {N : ι → Type} : ∀ {ts : List (Ty ι)} {ls : List (Leaf N)} {v : HL N ts}, toHL ts ls = some v → ofHL ts v = ls
 | [], [], v, _ => rfl
 | [], _ :: _, v, h => by simp [toHL] at h
 | _ :: _, [], v, h => by simp [toHL] at h
 | t :: r, l :: ls, v, h => by
  simp only [toHL] at h
  split at h
  ·rename_i ht
   split at h
   ·rename_i w hw
    obtain ⟨lt, lx⟩ := l
    simp only at ht
    subst ht
    simp at h; subst h
    simp [ofHL, toHL_of hw]
   ·cases h
  ·cases h
abbrev Names := List (Nat × Nat)
def bindN (σ : Names) (c n : Nat) : Option Names := match gt σ c with
 | some m => if m = n then some σ else none
 | none => if σ.any (fun p => Nat.beq p.2 n) = true then none else some ((c, n) :: σ)
def bindL {N : ι → Type} (σ : Names) : List Nat → List (TV N) → Option Names
 | [], [] => some σ
 | c :: r, .bp n 0 :: s => match bindN σ c n with
  | some σ' => bindL σ' r s
  | none => none
 | _, _ => none
end
section
variable (V : View)
def mtC (σ : Names) : List (Ty V.ι ⊕ Nat) → List (TV V.N) → Option (Names × List (Leaf V.N))
 | [], [] => some (σ, [])
 | .inl t :: r, x :: s => match leafOf V false t x with
  | some l => match mtC σ r s with
   | some (σ', ls) => some (σ', l :: ls)
   | none => none
  | none => none
 | .inr c :: r, .vh n :: s => match bindN σ c n with
  | some σ' => mtC σ' r s
  | none => none
 | _, _ => none
def mt1 (σ : Names) : Pt V.ι → TV V.N → Option (Names × List (Leaf V.N))
 | .dat t, .lf t' x => if t' = t then some (σ, [⟨t', x⟩]) else none
 | .dat (.sl e), .raw (.slice none 0 0) => some (σ, [⟨.sl e, []⟩])
 | .dat .er, .raw .nilIface => some (σ, [⟨.er, false⟩])
 | .dat (.st i), .agg cs => match mkV V false (some (.st i)) cs with
  | .lf t x => some (σ, [⟨t, x⟩])
  | _ => none
 | .bp c off, .bp n off' => if off = off' then (bindN σ c n).map fun σ' => (σ', []) else none
 | .vh c, .vh n => (bindN σ c n).map fun σ' => (σ', [])
 | .mp c, .mp n => (bindN σ c n).map fun σ' => (σ', [])
 | .np c, .np n b => (bindN σ c n).map fun σ' => (σ', [⟨.bool, b⟩])
 | .np c, .bp n 0 => (bindN σ c n).map fun σ' => (σ', [⟨.bool, true⟩])
 | .np _, .raw (.pointer none) => some (σ, [⟨.bool, false⟩])
 | .nif, .raw .nilIface => some (σ, [])
 | .fn f a b, .fn f' a' b' => if f = f' then match bindL σ a a' with
   | some σ' => (bindL σ' b b').map fun σ'' => (σ'', [])
   | none => none
  else none
 | .ag cs, .agg vs => mtC V σ cs vs
 | _, _ => none
def mtL (σ : Names) : List (Pt V.ι) → List (TV V.N) → Option (Names × List (Leaf V.N))
 | [], [] => some (σ, [])
 | p :: r, x :: s => match mt1 V σ p x with
  | some (σ', l) => match mtL σ' r s with
   | some (σ'', l') => some (σ'', l ++ l')
   | none => none
  | none => none
 | _, _ => none
def mtO (S : TS V.N) (σ : Names) : List (Nat × OPt V.ι) → Option (Names × List (Leaf V.N))
 | [] => some (σ, [])
 | (c, p) :: r => match gt σ c with
  | some n => match p, S.own? n with
   | .box o ps, some (.box o' cells) => if o = none ∨ o = o' then match mtL V σ ps cells with
    | some (σ', l) => match mtO S σ' r with
     | some (σ'', l') => some (σ'', l ++ l')
     | none => none
    | none => none
    else none
   | .st i, some (.box _ cells) => match mkV V false (some (.st i)) cells with
    | .lf (.st j) x => match mtO S σ r with
     | some (σ'', l') => some (σ'', ⟨.st j, x⟩ :: l')
     | none => none
    | _ => none
   | .st i, some (.bst j x) => if i = j then match mtO S σ r with
     | some (σ'', l') => some (σ'', ⟨.st j, x⟩ :: l')
     | none => none
    else none
   | .box none ps, some (.bst j x) => match mtL V σ ps ((V.cells j x).map fun l => .lf l.t l.x) with
    | some (σ', l) => match mtO S σ' r with
     | some (σ'', l') => some (σ'', l ++ l')
     | none => none
    | none => none
   | .vec te e, some (.vec te' e' xs) => if te = te' ∧ e = e' then match mtO S σ r with
     | some (σ'', l') => some (σ'', ⟨.sl e', xs⟩ :: l')
     | none => none
    else none
   | .dvec te e true, some (.pvec te' e' xs) => if te = te' ∧ e = e' then match mtO S σ r with
     | some (σ'', l') => some (σ'', ⟨.sl (.op e'), xs⟩ :: l')
     | none => none
    else none
   | .dvec te e true, some (.dvec te' e' xs) => if te = te' ∧ e = e' then match mtO S σ r with
     | some (σ'', l') => some (σ'', ⟨.sl (.op e'), xs.map some⟩ :: l')
     | none => none
    else none
   | .dvec te e false, some (.dvec te' e' xs) => if te = te' ∧ e = e' then match mtO S σ r with
     | some (σ'', l') => some (σ'', ⟨.sl e', xs⟩ :: l')
     | none => none
    else none
   | .iter, some (.iter s p) => match mtO S σ r with
     | some (σ'', l') => some (σ'', ⟨.str, s⟩ :: ⟨.int .i64, p⟩ :: l')
     | none => none
   | .miter cm tk tv, some (.miter m tk' tv' es rest _) => if tk = tk' ∧ tv = tv' then match bindN σ cm m with
     | some σ' => match mtO S σ' r with
      | some (σ'', l') => some (σ'', ⟨.mp tk' tv', es⟩ :: ⟨.mp tk' tv', rest⟩ :: l')
      | none => none
     | none => none
    else none
   | .map tk tv, some (.map tk' tv' es) => if tk = tk' ∧ tv = tv' then match mtO S σ r with
     | some (σ'', l') => some (σ'', ⟨.mp tk' tv', es⟩ :: l')
     | none => none
    else none
   | _, _ => none
  | none => none
def bdC : List (Ty V.ι ⊕ Nat) → List (Leaf V.N) → Option (List (TV V.N) × List (Leaf V.N))
 | [], ls => some ([], ls)
 | .inl _ :: r, l :: ls => match bdC r ls with
  | some (vs, ls') => some (.lf l.t l.x :: vs, ls')
  | none => none
 | .inl _ :: _, [] => none
 | .inr c :: r, ls => match bdC r ls with
  | some (vs, ls') => some (.vh c :: vs, ls')
  | none => none
def bd1 : (p : Pt V.ι) → List (Leaf V.N) → Option (TV V.N × List (Leaf V.N))
 | .dat _, l :: ls => some (.lf l.t l.x, ls)
 | .dat _, [] => none
 | .bp c off, ls => some (.bp c off, ls)
 | .vh c, ls => some (.vh c, ls)
 | .mp c, ls => some (.mp c, ls)
 | .np c, ⟨.bool, b⟩ :: ls => some (.np c b, ls)
 | .np _, _ => none
 | .nif, ls => some (.raw .nilIface, ls)
 | .fn f a b, ls => some (.fn f (a.map fun c => .bp c 0) (b.map fun c => .bp c 0), ls)
 | .ag cs, ls => match bdC V cs ls with
  | some (vs, ls') => some (.agg vs, ls')
  | none => none
def bdL : List (Pt V.ι) → List (Leaf V.N) → Option (List (TV V.N) × List (Leaf V.N))
 | [], ls => some ([], ls)
 | p :: r, ls => match bd1 V p ls with
  | some (x, ls') => match bdL r ls' with
   | some (xs, ls'') => some (x :: xs, ls'')
   | none => none
  | none => none
def bdO : List (Nat × OPt V.ι) → List (Leaf V.N) → Option (List (Nat × TO V.N))
 | [], [] => some []
 | [], _ :: _ => none
 | (c, .box o ps) :: r, ls => match bdL V ps ls with
  | some (xs, ls') => match bdO r ls' with
   | some os => some ((c, .box o xs) :: os)
   | none => none
  | none => none
 | (c, .st i) :: r, ⟨.st j, x⟩ :: ls => if j = i then match bdO r ls with
     | some os => some ((c, .bst j x) :: os)
     | none => none
  else none
 | (c, .vec te e) :: r, ⟨.sl e', xs⟩ :: ls => if e' = e then match bdO r ls with
     | some os => some ((c, .vec te e' xs) :: os)
     | none => none
  else none
 | (c, .dvec te e true) :: r, ⟨.sl (.op e'), xs⟩ :: ls => if e' = e then match bdO r ls with
     | some os => some ((c, .pvec te e' xs) :: os)
     | none => none
  else none
 | (c, .dvec te e false) :: r, ⟨.sl e', xs⟩ :: ls => if e' = e then match bdO r ls with
     | some os => some ((c, .dvec te e' xs) :: os)
     | none => none
  else none
 | (c, .iter) :: r, ⟨.str, s⟩ :: ⟨.int .i64, p⟩ :: ls => match bdO r ls with
     | some os => some ((c, .iter s p) :: os)
     | none => none
 | (c, .miter cm tk tv) :: r, ⟨.mp tk' tv', es⟩ :: ⟨.mp tk2 tv2, rest⟩ :: ls => if h : (tk2 = tk' ∧ tv2 = tv') ∧ tk' = tk ∧ tv' = tv then match bdO r ls with
     | some os => some ((c, .miter cm tk' tv' es (h.1.1 ▸ h.1.2 ▸ rest) none) :: os)
     | none => none
  else none
 | (c, .map tk tv) :: r, ⟨.mp tk' tv', es⟩ :: ls => if tk' = tk ∧ tv' = tv then match bdO r ls with
     | some os => some ((c, .map tk' tv' es) :: os)
     | none => none
  else none
 | _, _ => none
def build (c : Cut V.ι) (ls : List (Leaf V.N)) : TS V.N := match bdL V (c.slots.map (·.2)) ls with
 | some (xs, ls') => match bdO V c.objs ls' with
  | some os => { tmps := (c.slots.map (·.1)).zip xs, own := os }
  | none => { tmps := [], own := [] }
 | none => { tmps := [], own := [] }
def conc (c : Cut V.ι) (v : HL V.N c.tys) : TS V.N := build V c (ofHL c.tys v)
def frz1 (n : Nat) (e : Ty V.ι) (xs : List (den V.N e)) (v : TV V.N) : TV V.N := match v with
 | .vh m => if m = n then .lf (.sl e) xs else .vh m
 | v => if TV.has n v = true then .junk else v
def frzV (n : Nat) (e : Ty V.ι) (xs : List (den V.N e)) (v : TV V.N) : TV V.N := match v with
 | .agg cs => .agg (cs.map (frz1 V n e xs))
 | v => frz1 V n e xs v
def frzO (n : Nat) (e : Ty V.ι) (xs : List (den V.N e)) : TO V.N → TO V.N
 | .box o cells => .box o (cells.map (frz1 V n e xs))
 | o => o
def TS.frz (S : TS V.N) (n : Nat) (e : Ty V.ι) (xs : List (den V.N e)) : TS V.N :=
 { tmps := S.tmps.map fun p => (p.1, frzV V n e xs p.2), own := (n, .gone xs.length) :: S.own.map fun p => (p.1, frzO V n e xs p.2) }
def frzAt (S : TS V.N) (v : TV V.N) : TS V.N := match v with
 | .vh n => match S.own? n with
  | some (.vec _ e xs) => S.frz V n e xs
  | some (.dvec te e ys) => TS.frz V { S with own := (n, .vec te e ys) :: S.own } n e ys
  | _ => S
 | _ => S
def frzL (S : TS V.N) : List (TV V.N) → TS V.N
 | [] => S
 | v :: r => frzL (frzAt V S v) r
def wantsG : List (Ty V.ι ⊕ Nat) → List (TV V.N) → List (TV V.N)
 | .inl _ :: r, v :: s => v :: wantsG r s
 | .inr _ :: r, _ :: s => wantsG r s
 | _, _ => []
def wants : Pt V.ι → TV V.N → List (TV V.N)
 | .dat _, .vh n => [.vh n]
 | .dat _, .agg cs => cs
 | .ag cs, .agg vs => wantsG V cs vs
 | _, _ => []
def nilO (dv : Bool) (te : TypeId) (e : Ty V.ι) : TO V.N := match dv with
 | true => .dvec te e []
 | false => .vec te e []
def nilAt (dv : Bool) (te : TypeId) (e : Ty V.ι) (S : TS V.N) (t : Nat) : TS V.N := match gt S.tmps t with
 | some (.raw (.slice none 0 0)) => if S.fresh (60000 + t) = true ∧ Nat.blt (60000 + t) given = true then { tmps := (t, .vh (60000 + t)) :: S.tmps, own := (60000 + t, nilO V dv te e) :: S.own } else S
 | _ => S
def nilBox (dv : Bool) (te : TypeId) (e : Ty V.ι) (S : TS V.N) (b i : Nat) : TS V.N := match S.own? b with
 | some (.box o cells) => match cells[i]? with
  | some (.raw (.slice none 0 0)) => if S.fresh (70000 + S.own.length) = true ∧ Nat.blt (70000 + S.own.length) given = true then
    { tmps := S.tmps, own := (b, .box o (cells.set i (.vh (70000 + S.own.length)))) :: (70000 + S.own.length, nilO V dv te e) :: S.own } else S
  | _ => S
 | _ => S
def cellAt (S : TS V.N) (b i : Nat) : TV V.N := match S.own? b with
 | some (.box _ cells) => (cells[i]?).getD .junk
 | _ => .junk
def preBox (objs : List (Nat × OPt V.ι)) (b : Nat) : Nat → List (Pt V.ι) → TS V.N → TS V.N
 | _, [], S => S
 | i, .vh c :: r, S => match gt objs c with
  | some (.vec te e) => preBox objs b (i + 1) r (nilBox V false te e S b i)
  | some (.dvec te e _) => preBox objs b (i + 1) r (nilBox V true te e S b i)
  | _ => preBox objs b (i + 1) r S
 | i, .dat ty :: r, S => preBox objs b (i + 1) r (frzL V S (wants V (.dat ty) (cellAt V S b i)))
 | i, _ :: r, S => preBox objs b (i + 1) r S
def preObj (objs : List (Nat × OPt V.ι)) (c b : Nat) (S : TS V.N) : TS V.N := match gt objs c with
 | some (.box _ ps) => preBox V objs b 0 ps S
 | some (.st _) => match S.own? b with
  | some (.box _ cells) => frzL V S cells
  | _ => S
 | _ => S
def pairs1 : Pt V.ι → TV V.N → List (Nat × Nat)
 | .bp c _, .bp n _ => [(c, n)]
 | .mp c, .mp n => [(c, n)]
 | .fn _ a b, .fn _ a' b' => (a ++ b).zip ((a' ++ b').map fun v => match v with
  | .bp n _ => n
  | _ => 0)
 | _, _ => []
def pairsL : List (Pt V.ι) → List (TV V.N) → List (Nat × Nat)
 | p :: ps, v :: vs => pairs1 V p v ++ pairsL ps vs
 | _, _ => []
def pairsO (objs : List (Nat × OPt V.ι)) (S : TS V.N) (c b : Nat) : List (Nat × Nat) := match gt objs c, S.own? b with
 | some (.box _ ps), some (.box _ cells) => pairsL V ps cells
 | _, _ => []
def preW (objs : List (Nat × OPt V.ι)) : Nat → List (Nat × Nat) → TS V.N → TS V.N
 | 0, _, S => S
 | _, [], S => S
 | m + 1, (c, b) :: r, S => preW objs m (r ++ pairsO V objs S c b) (preObj V objs c b S)
def preS (objs : List (Nat × OPt V.ι)) (S : TS V.N) : List (Nat × Pt V.ι) → TS V.N
 | [] => S
 | (t, .vh c) :: r => match gt objs c with
  | some (.vec te e) => preS objs (nilAt V false te e S t) r
  | some (.dvec te e _) => preS objs (nilAt V true te e S t) r
  | _ => preS objs S r
 | (t, .dat ty) :: r => preS objs (frzL V S (wants V (.dat ty) (S.get t))) r
 | (t, .ag cs) :: r => preS objs (frzL V S (wants V (.ag cs) (S.get t))) r
 | _ :: r => preS objs S r
def preA (objs : List (Nat × OPt V.ι)) (S : TS V.N) (slots : List (Nat × Pt V.ι)) : TS V.N := match objs with
 | [] => preS V objs S slots
 | _ => preW V objs (4 * objs.length) (slots.flatMap fun p => pairs1 V p.2 (S.get p.1)) (preS V objs S slots)
def extr0 (c : Cut V.ι) (S : TS V.N) : Option (Names × List (Leaf V.N)) := match mtL V [] (c.slots.map (·.2)) (c.slots.map fun p => S.get p.1) with
 | some (σ, l) => match mtO V S σ c.objs with
  | some (σ', l') => some (σ', l ++ l')
  | none => none
 | none => none
def vhIn (objs : List (Nat × OPt V.ι)) : Pt V.ι → Bool
 | .vh c => objs.any fun p => Nat.beq p.1 c
 | .ag cs => cs.all fun x => match x with
  | .inr c => objs.any fun p => Nat.beq p.1 c
  | .inl _ => true
 | _ => true
def objsOk (c : Cut V.ι) (σ : Names) : Bool := σ.all (fun p => Nat.blt p.1 given || Nat.beq p.1 p.2) && c.slots.all (fun p => vhIn V c.objs p.2) && c.objs.all (fun p => match p.2 with
 | .box _ ps => ps.all (vhIn V c.objs)
 | _ => true)
def extr (c : Cut V.ι) (S : TS V.N) : Option (HL V.N c.tys) := match extr0 V c (preA V c.objs S c.slots) with
 | some (σ, ls) => if objsOk V c σ = true then toHL c.tys ls else none
 | none => none
end
end Go.Tx
end
section
namespace Go.Tx
open Go.Awp
variable [Inhabited GMem]
def Sub (σ σ' : Names) : Prop := ∀ c n, gt σ c = some n → gt σ' c = some n
theorem Sub.refl (σ : Names) : Sub σ σ := fun _ _ h => h
theorem Sub.trans {a b c : Names} (h : Sub a b) (k : Sub b c) : Sub a c := fun x n hx => k x n (h x n hx)
def Inj (σ : Names) : Prop := ∀ c c' n, gt σ c = some n → gt σ c' = some n → c = c'
theorem bindN_sound {σ σ' : Names} {c n : Nat} (h : bindN σ c n = some σ') : Sub σ σ' ∧ gt σ' c = some n ∧ (Inj σ → Inj σ') := by
 unfold bindN at h
 split at h
 ·rename_i m hm
  split at h
  ·rename_i e; cases h; subst e; exact ⟨Sub.refl _, hm, id⟩
  ·cases h
 ·rename_i hc
  split at h
  ·cases h
  ·rename_i hn
   cases h
   have hn' : ∀ x, gt σ x ≠ some n := fun x hx => by
    apply hn
    rw [List.any_eq_true]
    exact ⟨(x, n), gt_mem hx, by simp⟩
   refine ⟨fun x m hx => ?_, by simp [gt_cons], fun hi x y m hx hy => ?_⟩
   ·rw [gt_cons]
    by_cases e : c = x
    ·subst e; rw [hc] at hx; cases hx
    ·rw [if_neg e]; exact hx
   ·rw [gt_cons] at hx hy
    by_cases e : c = x <;> by_cases e' : c = y
    ·rw [← e, ← e']
    ·rw [if_pos e] at hx; rw [if_neg e'] at hy; cases hx; exact (hn' _ hy).elim
    ·rw [if_pos e'] at hy; rw [if_neg e] at hx; cases hy; exact (hn' _ hx).elim
    ·rw [if_neg e] at hx; rw [if_neg e'] at hy; exact hi x y m hx hy
section
variable {V : View}
theorem H.le.nil (sz : Nat) : H.le (.d (.v (.slice none 0 0))) (.d (.sl sz [])) := H.le.d (D.le.nil sz)
structure Tr (σ : Names) (objs : List (Nat × OPt V.ι)) (E E' : Env) (ω ω' : Nat → Nat) : Prop where
 env : ∀ c n, gt σ c = some n → E' c = E n
 len : ∀ c n, (objs.any fun p => Nat.beq p.1 c) = true → gt σ c = some n → ω' c = ω n
theorem bindL_sound : ∀ {l : List Nat} {vs : List (TV V.N)} {σ σ' : Names}, bindL σ l vs = some σ' → Sub σ σ' ∧ (Inj σ → Inj σ') ∧ l.length = vs.length ∧
  ∀ (i : Nat) (c : Nat) (v : TV V.N), l[i]? = some c → vs[i]? = some v → ∃ n, v = .bp n 0 ∧ gt σ' c = some n
 | [], [], σ, σ', h => by simp [bindL] at h; subst h; exact ⟨Sub.refl _, id, rfl, fun i c v hc => by simp at hc⟩
 | [], _ :: _, σ, σ', h => by simp [bindL] at h
 | _ :: _, [], σ, σ', h => by simp [bindL] at h
 | c :: r, v :: s, σ, σ', h => by
  unfold bindL at h
  split at h
  ·rename_i heq1 heq2; cases heq1
  ·rename_i c' r' n s' heq1 heq2
   simp only [List.cons.injEq] at heq1 heq2
   obtain ⟨rfl, rfl⟩ := heq1
   obtain ⟨rfl, rfl⟩ := heq2
   split at h
   ·rename_i σ1 h1
    obtain ⟨a1, a2, a3⟩ := bindN_sound h1
    obtain ⟨b1, b2, b3, b4⟩ := bindL_sound h
    refine ⟨a1.trans b1, fun hi => b2 (a3 hi), by simp [b3], fun i x w hx hw => ?_⟩
    cases i with
    | zero => simp at hx hw; subst hx; subst hw; exact ⟨n, rfl, b1 _ _ a2⟩
    | succ i => exact b4 i x w (by simpa using hx) (by simpa using hw)
   ·cases h
  ·cases h
theorem bp_list {E E' : Env} {M : Mem} {σ : Names} {ω ω' : Nat → Nat} (hE : ∀ c n, gt σ c = some n → E' c = E n) {l : List Nat} {vs : List (TV V.N)} (hl : l.length = vs.length)
  (h : ∀ (i : Nat) (c : Nat) (v : TV V.N), l[i]? = some c → vs[i]? = some v → ∃ n, v = .bp n 0 ∧ gt σ c = some n) {av : Array Value}
  (hs : av.size = (encL V ω vs).length) (hr : ∀ (i : Nat) (c : Value) (x : H), av[i]? = some c → (encL V ω vs)[i]? = some x → HRep E M c x) :
  av.size = (encL V ω' (l.map fun c => (.bp c 0 : TV V.N))).length ∧ ∀ (i : Nat) (c : Value) (x : H), av[i]? = some c → (encL V ω' (l.map fun c => (.bp c 0 : TV V.N)))[i]? = some x → HRep E' M c x := by
 rw [encL_len] at hs
 refine ⟨by rw [encL_len, List.length_map]; omega, fun i c x hc hx => ?_⟩
 simp only [encL_map, List.getElem?_map, Option.map_map] at hx
 cases hli : l[i]? with
 | none => rw [hli] at hx; cases hx
 | some k =>
  rw [hli] at hx
  simp [encV] at hx; subst hx
  have hi : i < vs.length := by rw [← hl]; exact (List.getElem?_eq_some_iff.1 hli).1
  obtain ⟨n, hv, hn⟩ := h i k _ hli (List.getElem?_eq_getElem hi)
  have := hr i c (.bp n 0) hc (by rw [encL_map, List.getElem?_map, List.getElem?_eq_getElem hi, hv]; simp [encV])
  cases this with
  | bp _ off b hb => exact .bp k 0 b (by rw [hE k n hn]; exact hb)
theorem mtC_sound : ∀ {cs : List (Ty V.ι ⊕ Nat)} {vs : List (TV V.N)} {σ σ1 : Names} {l : List (Leaf V.N)}, mtC V σ cs vs = some (σ1, l) → Sub σ σ1 ∧ (Inj σ → Inj σ1) ∧
  ∃ vs' : List (TV V.N), vs'.length = vs.length ∧ (∀ rest, bdC V cs (l ++ rest) = some (vs', rest)) ∧ ∀ (i : Nat) (v v' : TV V.N), vs[i]? = some v → vs'[i]? = some v' →
   ∀ (τ : Names) (objs : List (Nat × OPt V.ι)) (E E' : Env) (M : Mem) (ω ω' : Nat → Nat) (a : Value), Sub σ1 τ → vhIn V objs (.ag cs) = true → Tr τ objs E E' ω ω' → HRep E M a (encV V ω v) → HRep E' M a (encV V ω' v')
 | [], [], σ, σ1, l, h => by
  simp [mtC] at h; obtain ⟨rfl, rfl⟩ := h
  exact ⟨Sub.refl _, id, [], rfl, fun rest => rfl, fun i v v' hv => by simp at hv⟩
 | [], _ :: _, σ, σ1, l, h => by simp [mtC] at h
 | _ :: _, [], σ, σ1, l, h => by unfold mtC at h; split at h <;> first | (cases h; done) | contradiction
 | .inl t :: r, x :: s, σ, σ1, l, h => by
  simp only [mtC] at h
  split at h
  ·rename_i l0 hl
   split at h
   ·rename_i σ' ls h2
    simp at h; obtain ⟨rfl, rfl⟩ := h
    obtain ⟨b1, b2, vs', b4, b5, b6⟩ := mtC_sound h2
    refine ⟨b1, b2, .lf l0.t l0.x :: vs', by simp [b4], fun rest => ?_, fun i w w' hw hw' τ objs E E' M ω ω' a hs hv ht hr => ?_⟩
    ·simp only [List.cons_append, bdC, b5]
    ·cases i with
     | zero =>
      simp at hw hw'; subst hw; subst hw'
      have hls : leavesOf V false [t] [x] = some [l0] := by simp [leavesOf, hl]
      obtain ⟨ds, e1, e2, _⟩ := leavesOf_sound (ω := ω) hls
      simp only [encL] at e1
      obtain ⟨d, hd⟩ : ∃ d, ds = [d] := by
       match ds, e1 with
       | [d], _ => exact ⟨d, rfl⟩
       | [], e1 => simp at e1
       | _ :: _ :: _, e1 => simp at e1
      subst hd
      simp only [List.map_cons, List.map_nil, List.cons.injEq, and_true] at e1
      rw [e1] at hr
      simp only [encV]
      obtain ⟨d0, g1, g2⟩ := e2.get 0 (encD V.sz V.enc l0.t l0.x) rfl
      simp at g1; subst g1
      cases hr with
      | d q => exact .d (g2 M a q)
     | succ i =>
      refine b6 i w w' (by simpa using hw) (by simpa using hw') τ objs E E' M ω ω' a hs ?_ ht hr
      simp only [vhIn, List.all_cons, Bool.and_eq_true] at hv ⊢; exact hv.2
   ·cases h
  ·cases h
 | .inr c :: r, x :: s, σ, σ1, l, h => by
  unfold mtC at h
  split at h
  ·rename_i heq _; cases heq
  ·rename_i heq _; simp at heq
  ·rename_i c' r' n s' heq1 heq2
   simp only [List.cons.injEq, Sum.inr.injEq] at heq1 heq2
   obtain ⟨rfl, rfl⟩ := heq1
   obtain ⟨rfl, rfl⟩ := heq2
   split at h
   ·rename_i σ' hb
    obtain ⟨a1, a2, a3⟩ := bindN_sound hb
    obtain ⟨b1, b2, vs', b4, b5, b6⟩ := mtC_sound h
    refine ⟨a1.trans b1, fun hi => b2 (a3 hi), .vh c :: vs', by simp [b4], fun rest => ?_, fun i w w' hw hw' τ objs E E' M ω ω' a hs hv ht hr => ?_⟩
    ·simp only [bdC, b5]
    ·simp only [vhIn, List.all_cons, Bool.and_eq_true] at hv
     cases i with
     | zero =>
      simp at hw hw'; subst hw; subst hw'
      simp only [encV] at hr ⊢
      rw [ht.len c n hv.1 (hs _ _ (b1 _ _ a2))]
      cases hr with
      | vh _ len l cc ad hE hl => exact .vh c _ l cc ad (by rw [ht.env c n (hs _ _ (b1 _ _ a2))]; exact hE) hl
     | succ i =>
      refine b6 i w w' (by simpa using hw) (by simpa using hw') τ objs E E' M ω ω' a hs ?_ ht hr
      simp only [vhIn]; exact hv.2
   ·cases h
  ·cases h
theorem mt1_sound {σ σ1 : Names} {p : Pt V.ι} {v : TV V.N} {l : List (Leaf V.N)} (h : mt1 V σ p v = some (σ1, l)) : Sub σ σ1 ∧ (Inj σ → Inj σ1) ∧ v ≠ .junk ∧
  ∃ v', (∀ rest, bd1 V p (l ++ rest) = some (v', rest)) ∧ ∀ (τ : Names) (objs : List (Nat × OPt V.ι)) (E E' : Env) (M : Mem) (ω ω' : Nat → Nat) (a : Value), Sub σ1 τ → vhIn V objs p = true → Tr τ objs E E' ω ω' →
   HRep E M a (encV V ω v) → HRep E' M a (encV V ω' v') := by
 unfold mt1 at h
 split at h
 ·rename_i t t' x
  obtain ⟨rfl, h⟩ := if_some h
  simp at h; obtain ⟨rfl, rfl⟩ := h
  refine ⟨Sub.refl _, id, by simp, .lf t' x, fun rest => rfl, fun τ objs E E' M ω ω' a _ _ _ hr => ?_⟩
  simp only [encV] at hr ⊢
  exact hr.mono (Mem.le_refl _) fun n hn => by simp [H.has] at hn
 ·rename_i e
  simp at h; obtain ⟨rfl, rfl⟩ := h
  refine ⟨Sub.refl _, id, by simp, .lf (.sl e) [], fun rest => rfl, fun τ objs E E' M ω ω' a _ _ _ hr => ?_⟩
  simp only [encV, encRaw, encD, List.map_nil] at hr ⊢
  exact H.le.nil _ E' M a (hr.mono (Mem.le_refl _) fun n hn => by simp [H.has] at hn)
 ·simp at h; obtain ⟨rfl, rfl⟩ := h
  refine ⟨Sub.refl _, id, by simp, .lf .er false, fun rest => rfl, fun τ objs E E' M ω ω' a _ _ _ hr => ?_⟩
  simp only [encV, encRaw, encD] at hr ⊢
  exact H.le.d D.le.ern E' M a (hr.mono (Mem.le_refl _) fun n hn => by simp [H.has] at hn)
 ·rename_i i cs
  split at h
  ·rename_i t x hx
   simp at h; obtain ⟨rfl, rfl⟩ := h
   refine ⟨Sub.refl _, id, by simp, .lf t x, fun rest => rfl, fun τ objs E E' M ω ω' a _ _ _ hr => ?_⟩
   have hm := (mkV_sound (V := V) (ω := ω) (ex := false) (ot := some (.st i)) (cs := cs)).1
   rw [hx] at hm
   simp only [encV] at hr hm ⊢
   exact (hm E M a hr).mono (Mem.le_refl _) fun n hn => by simp [H.has] at hn
  ·cases h
 ·rename_i c off n off'
  have h' := if_some h; clear h
  obtain ⟨e, h⟩ := h'
  subst e
  rw [Option.map_eq_some_iff] at h
  obtain ⟨σ', hb, h⟩ := h
  simp at h; obtain ⟨rfl, rfl⟩ := h
  obtain ⟨h1, h2, h3⟩ := bindN_sound hb
  refine ⟨h1, h3, by simp, .bp c off, fun rest => rfl, fun τ objs E E' M ω ω' a hs _ ht hr => ?_⟩
  simp only [encV] at hr ⊢
  cases hr with
  | bp _ _ b hb => exact .bp c off b (by rw [ht.env c n (hs _ _ h2)]; exact hb)
 ·rename_i c n
  rw [Option.map_eq_some_iff] at h
  obtain ⟨σ', hb, h⟩ := h
  simp at h; obtain ⟨rfl, rfl⟩ := h
  obtain ⟨h1, h2, h3⟩ := bindN_sound hb
  refine ⟨h1, h3, by simp, .vh c, fun rest => rfl, fun τ objs E E' M ω ω' a hs hv ht hr => ?_⟩
  simp only [encV] at hr ⊢
  rw [ht.len c n (by simpa [vhIn] using hv) (hs _ _ h2)]
  cases hr with
  | vh _ len l cc ad hE hl => exact .vh c _ l cc ad (by rw [ht.env c n (hs _ _ h2)]; exact hE) hl
 ·rename_i c n
  rw [Option.map_eq_some_iff] at h
  obtain ⟨σ', hb, h⟩ := h
  simp at h; obtain ⟨rfl, rfl⟩ := h
  obtain ⟨h1, h2, h3⟩ := bindN_sound hb
  refine ⟨h1, h3, by simp, .mp c, fun rest => rfl, fun τ objs E E' M ω ω' a hs _ ht hr => ?_⟩
  simp only [encV] at hr ⊢
  cases hr with
  | mp _ b hE => exact .mp c b (by rw [ht.env c n (hs _ _ h2)]; exact hE)
 ·rename_i c n b
  rw [Option.map_eq_some_iff] at h
  obtain ⟨σ', hb, h⟩ := h
  simp at h; obtain ⟨rfl, rfl⟩ := h
  obtain ⟨h1, h2, h3⟩ := bindN_sound hb
  refine ⟨h1, h3, by simp, .np c b, fun rest => rfl, fun τ objs E E' M ω ω' a hs _ ht hr => ?_⟩
  simp only [encV] at hr ⊢
  cases hr with
  | np0 => exact .np0 c
  | np1 _ b hE => exact .np1 c b (by rw [ht.env c n (hs _ _ h2)]; exact hE)
 ·rename_i c n
  rw [Option.map_eq_some_iff] at h
  obtain ⟨σ', hb, h⟩ := h
  simp at h; obtain ⟨rfl, rfl⟩ := h
  obtain ⟨h1, h2, h3⟩ := bindN_sound hb
  refine ⟨h1, h3, by simp, .np c true, fun rest => rfl, fun τ objs E E' M ω ω' a hs _ ht hr => ?_⟩
  simp only [encV] at hr ⊢
  cases hr with
  | bp _ _ b hE => exact .np1 c b (by rw [ht.env c n (hs _ _ h2)]; exact hE)
 ·rename_i c
  simp at h; obtain ⟨rfl, rfl⟩ := h
  refine ⟨Sub.refl _, id, by simp, .np c false, fun rest => rfl, fun τ objs E E' M ω ω' a _ _ _ hr => ?_⟩
  simp only [encV, encRaw] at hr ⊢
  rw [hr.dv]
  exact .np0 c
 ·simp at h; obtain ⟨rfl, rfl⟩ := h
  refine ⟨Sub.refl _, id, by simp, .raw .nilIface, fun rest => rfl, fun τ objs E E' M ω ω' a _ _ _ hr => ?_⟩
  simp only [encV, encRaw] at hr ⊢
  exact hr.mono (Mem.le_refl _) fun n hn => by simp [H.has] at hn
 ·rename_i f a b f' a' b'
  have h' := if_some h; clear h
  obtain ⟨e, h⟩ := h'
  subst e
  split at h
  ·rename_i σ' ha
   rw [Option.map_eq_some_iff] at h
   obtain ⟨σ'', hb, h⟩ := h
   simp at h; obtain ⟨rfl, rfl⟩ := h
   obtain ⟨a1, a2, a3, a4⟩ := bindL_sound ha
   obtain ⟨b1, b2, b3, b4⟩ := bindL_sound hb
   refine ⟨a1.trans b1, fun hi => b2 (a2 hi), by simp, .fn f (a.map fun c => .bp c 0) (b.map fun c => .bp c 0), fun rest => rfl, fun τ objs E E' M ω ω' v hs _ ht hr => ?_⟩
   simp only [encV] at hr ⊢
   cases hr with
   | fn _ first captured l l' h1 h2 h3 h4 =>
    obtain ⟨x1, x2⟩ := bp_list (V := V) (ω' := ω') (fun c n hc => ht.env c n hc) a3 (fun i c v hc hv => by
     obtain ⟨n, q1, q2⟩ := a4 i c v hc hv
     exact ⟨n, q1, hs _ _ (b1 _ _ q2)⟩) h1 h3
    obtain ⟨y1, y2⟩ := bp_list (V := V) (ω' := ω') (fun c n hc => ht.env c n hc) b3 (fun i c v hc hv => by
     obtain ⟨n, q1, q2⟩ := b4 i c v hc hv
     exact ⟨n, q1, hs _ _ q2⟩) h2 h4
    exact .fn f first captured _ _ x1 y1 x2 y2
  ·cases h
 ·rename_i cs vs
  obtain ⟨b1, b2, vs', b4, b5, b6⟩ := mtC_sound h
  refine ⟨b1, b2, by simp, .agg vs', fun rest => by simp only [bd1, b5], fun τ objs E E' M ω ω' a hs hv ht hr => ?_⟩
  simp only [encV] at hr ⊢
  have h1 := mkAgg_to _ E M a hr
  obtain ⟨xs, rfl, h2, h3⟩ := h1.hagg
  refine mkAgg_of _ E' M _ (.agg xs _ (by rw [encL_len] at h2 ⊢; omega) fun i c x hc hx => ?_)
  rw [encL_map, List.getElem?_map, Option.map_eq_some_iff] at hx
  obtain ⟨v', hv', rfl⟩ := hx
  have hi : i < vs.length := by rw [← b4]; exact (List.getElem?_eq_some_iff.1 hv').1
  exact b6 i _ v' (List.getElem?_eq_getElem hi) hv' τ objs E E' M ω ω' c hs hv ht (h3 i c _ hc (by rw [encL_map, List.getElem?_map, List.getElem?_eq_getElem hi]; rfl))
 ·cases h
theorem mtL_sound : ∀ {ps : List (Pt V.ι)} {vs : List (TV V.N)} {σ σ1 : Names} {l : List (Leaf V.N)}, mtL V σ ps vs = some (σ1, l) → Sub σ σ1 ∧ (Inj σ → Inj σ1) ∧ ps.length = vs.length ∧
  ∃ vs' : List (TV V.N), vs'.length = vs.length ∧ (∀ rest, bdL V ps (l ++ rest) = some (vs', rest)) ∧ ∀ (i : Nat) (v v' : TV V.N), vs[i]? = some v → vs'[i]? = some v' → v ≠ .junk ∧
   ∀ (τ : Names) (objs : List (Nat × OPt V.ι)) (E E' : Env) (M : Mem) (ω ω' : Nat → Nat) (a : Value), Sub σ1 τ → ps.all (vhIn V objs) = true → Tr τ objs E E' ω ω' → HRep E M a (encV V ω v) → HRep E' M a (encV V ω' v')
 | [], [], σ, σ1, l, h => by
  simp [mtL] at h; obtain ⟨rfl, rfl⟩ := h
  exact ⟨Sub.refl _, id, rfl, [], rfl, fun rest => rfl, fun i v v' hv => by simp at hv⟩
 | [], _ :: _, σ, σ1, l, h => by simp [mtL] at h
 | _ :: _, [], σ, σ1, l, h => by simp [mtL] at h
 | p :: r, v :: s, σ, σ1, l, h => by
  simp only [mtL] at h
  split at h
  ·rename_i σ' l1 h1
   split at h
   ·rename_i σ'' l2 h2
    simp at h; obtain ⟨rfl, rfl⟩ := h
    obtain ⟨a1, a2, a3, v', a4, a5⟩ := mt1_sound h1
    obtain ⟨b1, b2, b3, vs', b4, b5, b6⟩ := mtL_sound h2
    refine ⟨a1.trans b1, fun hi => b2 (a2 hi), by simp [b3], v' :: vs', by simp [b4], fun rest => ?_, fun i w w' hw hw' => ?_⟩
    ·simp only [bdL, List.append_assoc, a4, b5]
    ·cases i with
     | zero =>
      simp at hw hw'; subst hw; subst hw'
      refine ⟨a3, fun τ objs E E' M ω ω' a hs hv ht hr => a5 τ objs E E' M ω ω' a (b1.trans hs) ?_ ht hr⟩
      simp only [List.all_cons, Bool.and_eq_true] at hv; exact hv.1
     | succ i =>
      obtain ⟨c1, c2⟩ := b6 i w w' (by simpa using hw) (by simpa using hw')
      refine ⟨c1, fun τ objs E E' M ω ω' a hs hv ht hr => c2 τ objs E E' M ω ω' a hs ?_ ht hr⟩
      simp only [List.all_cons, Bool.and_eq_true] at hv; exact hv.2
   ·cases h
  ·cases h
theorem mtO_sound {S : TS V.N} : ∀ {objs : List (Nat × OPt V.ι)} {σ σ1 : Names} {l : List (Leaf V.N)}, mtO V S σ objs = some (σ1, l) → Sub σ σ1 ∧ (Inj σ → Inj σ1) ∧
  ∃ os : List (Nat × TO V.N), os.length = objs.length ∧ bdO V objs l = some os ∧ (∀ c o', (c, o') ∈ os → ∃ n o, gt σ1 c = some n ∧ S.own? n = some o ∧ TO.len (some o') = TO.len (some o) ∧
   ∃ x : (Nat → Nat) → Own, (∀ ω, encO V ω o = some (x ω)) ∧ ∃ x' : (Nat → Nat) → Own, (∀ ω, encO V ω o' = some (x' ω)) ∧
   (∀ (τ : Names) (all : List (Nat × OPt V.ι)) (E E' : Env) (M : Mem) (w : World) (ω ω' : Nat → Nat), Sub σ1 τ → (∀ p ∈ objs, match p.2 with | .box _ ps => ps.all (vhIn V all) = true | _ => True) → Tr τ all E E' ω ω' →
     OwnOk E M w n (x ω) → OwnOk E' M w c (x' ω')) ∧
   ∀ (E E' : Env) (w : World) (ω ω' : Nat → Nat) (b : Nat), E' c = E n → (x' ω').foot w (E' c) b → (x ω).foot w (E n) b) ∧ os.map (·.1) = objs.map (·.1)
 | [], σ, σ1, l, h => by
  simp [mtO] at h; obtain ⟨rfl, rfl⟩ := h
  exact ⟨Sub.refl _, id, [], rfl, rfl, fun c o' h => by simp at h, rfl⟩
 | (c, p) :: r, σ, σ1, l, h => by
  simp only [mtO] at h
  split at h
  ·rename_i n hn
   split at h
   ·rename_i oo ps oo' cells hown
    have h' := if_some h; clear h
    obtain ⟨hoo, h⟩ := h'
    split at h
    ·rename_i σ' l1 h1
     split at h
     ·rename_i σ'' l2 h2
      simp at h; obtain ⟨rfl, rfl⟩ := h
      obtain ⟨a1, a2, a3, vs', a4, a5, a6⟩ := mtL_sound h1
      obtain ⟨b1, b2, os, b3, b4, b5, b6⟩ := mtO_sound h2
      refine ⟨a1.trans b1, fun hi => b2 (a2 hi), (c, .box oo vs') :: os, by simp [b3], by simp only [bdO, a5, b4], fun c' o' hm => ?_, by simp [b6]⟩
      rcases List.mem_cons.1 hm with he | hm
      ·simp only [Prod.mk.injEq] at he
       obtain ⟨rfl, rfl⟩ := he
       refine ⟨n, .box oo' cells, b1 _ _ (a1 _ _ hn), hown, rfl, fun ω => .box oo' (encL V ω cells), fun ω => rfl, fun ω => .box oo (encL V ω vs'), fun ω => rfl, fun τ all E E' M w ω ω' hs hv ht ho => ?_, fun E E' w ω ω' b he hb => by rw [he] at hb; exact hb⟩
       have hv0 : ps.all (vhIn V all) = true := hv (c', .box oo ps) List.mem_cons_self
       obtain ⟨b, cs, ty, k1, k2, k3, k4, k5, k6⟩ := ho
       rw [encL_len] at k3
       refine ⟨b, cs, ty, by rw [ht.env c' n (hs _ _ (b1 _ _ (a1 _ _ hn)))]; exact k1, k2, by rw [encL_len]; omega, fun i x y hx hy => ?_, k5, fun t htt => by
        rcases hoo with hoo | hoo
        ·rw [hoo] at htt; cases htt
        ·rw [hoo] at htt; exact k6 t htt⟩
       simp only [encL_map, List.getElem?_map] at hy
       cases hvi : vs'[i]? with
       | none => rw [hvi] at hy; cases hy
       | some v' =>
        rw [hvi] at hy; simp at hy; subst hy
        have hi : i < cells.length := by rw [← a4]; exact (List.getElem?_eq_some_iff.1 hvi).1
        obtain ⟨_, q⟩ := a6 i _ v' (List.getElem?_eq_getElem hi) hvi
        exact q τ all E E' M ω ω' x (b1.trans hs) hv0 ht (k4 i x _ hx (by rw [encL_map, List.getElem?_map, List.getElem?_eq_getElem hi]; rfl))
      ·obtain ⟨n', o, q1, q2, q3, x, q4, x', q5, q6, q7⟩ := b5 c' o' hm
       exact ⟨n', o, q1, q2, q3, x, q4, x', q5, fun τ all E E' M w ω ω' hs hv ht ho => q6 τ all E E' M w ω ω' hs (fun p hp => hv p (List.mem_cons_of_mem _ hp)) ht ho, q7⟩
     ·cases h
    ·cases h
   ·rename_i i oty cells hown
    split at h
    ·rename_i j x hx
     split at h
     ·rename_i σ'' l2 h2
      simp at h; obtain ⟨rfl, rfl⟩ := h
      obtain ⟨b1, b2, os, b3, b4, b5, b6⟩ := mtO_sound h2
      have hmk : i = j ∧ ∃ ls, leavesOf V false (V.tys i) cells = some ls ∧ ∃ y : V.N i, V.ofCells i ls = some y ∧ (TV.lf (.st i) y : TV V.N) = .lf (.st j) x := by
       unfold mkV at hx
       simp only at hx
       split at hx
       ·rename_i ls hls
        split at hx
        ·rename_i y hy
         have : i = j := by cases hx; rfl
         exact ⟨this, ls, hls, y, hy, hx⟩
        ·cases hx
       ·cases hx
      obtain ⟨rfl, ls, hls, y, hy, he⟩ := hmk
      have he : y = x := by cases he; rfl
      subst he
      refine ⟨b1, b2, (c, .bst i y) :: os, by simp [b3], by simp [bdO, b4], fun c' o' hm => ?_, by simp [b6]⟩
      rcases List.mem_cons.1 hm with he | hm
      ·simp only [Prod.mk.injEq] at he
       obtain ⟨rfl, rfl⟩ := he
       refine ⟨n, .box oty cells, b1 _ _ hn, hown, rfl, fun ω => .box oty (encL V ω cells), fun ω => rfl, fun _ => .box none ((V.enc i y).map .d), fun ω => rfl, fun τ all E E' M w ω ω' hs _ ht ho => ?_, fun E E' w ω ω' b he hb => by rw [he] at hb; exact hb⟩
       obtain ⟨ds, e1, e2, _⟩ := leavesOf_sound (ω := ω) hls
       obtain ⟨b, cs, ty, k1, k2, k3, k4, k5, _⟩ := ho
       have hc := V.of_cells i ls y hy
       have hnew : (V.enc i y).map H.d = (ls.map fun l => encD V.sz V.enc l.t l.x).map H.d := by
        rw [V.enc_cells, hc]
       refine ⟨b, cs, ty, by rw [ht.env c' n (hs _ _ (b1 _ _ hn))]; exact k1, k2, ?_, fun i' a z ha hz => ?_, k5, fun t htt => by cases htt⟩
       ·rw [k3, hnew, e1, List.length_map, List.length_map]; exact e2.len
       ·rw [hnew, List.getElem?_map] at hz
        cases hd : (ls.map fun l => encD V.sz V.enc l.t l.x)[i']? with
        | none => rw [hd] at hz; cases hz
        | some d =>
         rw [hd] at hz; simp at hz; subst hz
         obtain ⟨d0, g1, g2⟩ := e2.get i' d hd
         have := k4 i' a (.d d0) ha (by rw [e1, List.getElem?_map, g1]; rfl)
         cases this with
         | d q => exact .d (g2 M a q)
      ·obtain ⟨n', o, q1, q2, q3, x, q4, x', q5, q6, q7⟩ := b5 c' o' hm
       exact ⟨n', o, q1, q2, q3, x, q4, x', q5, fun τ all E E' M w ω ω' hs hv ht ho => q6 τ all E E' M w ω ω' hs (fun p hp => hv p (List.mem_cons_of_mem _ hp)) ht ho, q7⟩
     ·cases h
    ·cases h
   ·rename_i i j x hown
    have h' := if_some h; clear h
    obtain ⟨e1, h⟩ := h'
    subst e1
    split at h
    ·rename_i σ'' l2 h2
     simp at h; obtain ⟨rfl, rfl⟩ := h
     obtain ⟨b1, b2, os, b3, b4, b5, b6⟩ := mtO_sound h2
     refine ⟨b1, b2, (c, .bst i x) :: os, by simp [b3], by simp [bdO, b4], fun c' o' hm => ?_, by simp [b6]⟩
     rcases List.mem_cons.1 hm with he | hm
     ·simp only [Prod.mk.injEq] at he
      obtain ⟨rfl, rfl⟩ := he
      refine ⟨n, .bst i x, b1 _ _ hn, hown, rfl, fun _ => .box none ((V.enc i x).map .d), fun ω => rfl, fun _ => .box none ((V.enc i x).map .d), fun ω => rfl, fun τ all E E' M w ω ω' hs _ ht ho => ?_, fun E E' w ω ω' b he hb => by rw [he] at hb; exact hb⟩
      obtain ⟨b, cs, ty, k1, k2, k3, k4, k5⟩ := ho
      refine ⟨b, cs, ty, by rw [ht.env c' n (hs _ _ (b1 _ _ hn))]; exact k1, k2, k3, fun i' a z ha hz => ?_, k5⟩
      have hq := k4 i' a z ha hz
      rw [List.getElem?_map, Option.map_eq_some_iff] at hz
      obtain ⟨d, _, rfl⟩ := hz
      exact hq.mono (Mem.le_refl _) fun m hm => by simp [H.has] at hm
     ·obtain ⟨n', o, q1, q2, q3, x, q4, x', q5, q6, q7⟩ := b5 c' o' hm
      exact ⟨n', o, q1, q2, q3, x, q4, x', q5, fun τ all E E' M w ω ω' hs hv ht ho => q6 τ all E E' M w ω ω' hs (fun p hp => hv p (List.mem_cons_of_mem _ hp)) ht ho, q7⟩
    ·cases h
   ·rename_i ps j x hown
    split at h
    ·rename_i σ' l1 h1
     split at h
     ·rename_i σ'' l2 h2
      simp at h; obtain ⟨rfl, rfl⟩ := h
      obtain ⟨a1, a2, a3, vs', a4, a5, a6⟩ := mtL_sound h1
      obtain ⟨b1, b2, os, b3, b4, b5, b6⟩ := mtO_sound h2
      refine ⟨a1.trans b1, fun hi => b2 (a2 hi), (c, .box none vs') :: os, by simp [b3], by simp only [bdO, a5, b4], fun c' o' hm => ?_, by simp [b6]⟩
      rcases List.mem_cons.1 hm with he | hm
      ·simp only [Prod.mk.injEq] at he
       obtain ⟨rfl, rfl⟩ := he
       refine ⟨n, .bst j x, b1 _ _ (a1 _ _ hn), hown, rfl, fun _ => .box none ((V.enc j x).map .d), fun ω => rfl, fun ω => .box none (encL V ω vs'), fun ω => rfl, fun τ all E E' M w ω ω' hs hv ht ho => ?_, fun E E' w ω ω' b he hb => by rw [he] at hb; exact hb⟩
       have hv0 : ps.all (vhIn V all) = true := hv (c', .box none ps) List.mem_cons_self
       obtain ⟨b, cs, ty, k1, k2, k3, k4, k5⟩ := ho
       rw [← bst_enc ω, encL_len] at k3
       refine ⟨b, cs, ty, by rw [ht.env c' n (hs _ _ (b1 _ _ (a1 _ _ hn)))]; exact k1, k2, by rw [encL_len]; omega, fun i x' y hx hy => ?_, k5⟩
       simp only [encL_map, List.getElem?_map] at hy
       cases hvi : vs'[i]? with
       | none => rw [hvi] at hy; cases hy
       | some v' =>
        rw [hvi] at hy; simp at hy; subst hy
        have hi : i < ((V.cells j x).map fun l => (.lf l.t l.x : TV V.N)).length := by rw [← a4]; exact (List.getElem?_eq_some_iff.1 hvi).1
        obtain ⟨_, q⟩ := a6 i _ v' (List.getElem?_eq_getElem hi) hvi
        exact q τ all E E' M ω ω' x' (b1.trans hs) hv0 ht (k4 i x' _ hx (by rw [← bst_enc ω, encL_map, List.getElem?_map, List.getElem?_eq_getElem hi]; rfl))
      ·obtain ⟨n', o, q1, q2, q3, x, q4, x', q5, q6, q7⟩ := b5 c' o' hm
       exact ⟨n', o, q1, q2, q3, x, q4, x', q5, fun τ all E E' M w ω ω' hs hv ht ho => q6 τ all E E' M w ω ω' hs (fun p hp => hv p (List.mem_cons_of_mem _ hp)) ht ho, q7⟩
     ·cases h
    ·cases h
   ·rename_i te e te' e' xs hown
    have h' := if_some h; clear h
    obtain ⟨⟨e1, e2⟩, h⟩ := h'
    subst e1; subst e2
    split at h
    ·rename_i σ'' l2 h2
     simp at h; obtain ⟨rfl, rfl⟩ := h
     obtain ⟨b1, b2, os, b3, b4, b5, b6⟩ := mtO_sound h2
     refine ⟨b1, b2, (c, .vec te e xs) :: os, by simp [b3], by simp [bdO, b4], fun c' o' hm => ?_, by simp [b6]⟩
     rcases List.mem_cons.1 hm with he | hm
     ·simp only [Prod.mk.injEq] at he
      obtain ⟨rfl, rfl⟩ := he
      refine ⟨n, .vec te e xs, b1 _ _ hn, hown, rfl, fun _ => .vec te (tsz V.sz e) (xs.map fun x => encR V.sz V.enc e x), fun ω => rfl, fun _ => .vec te (tsz V.sz e) (xs.map fun x => encR V.sz V.enc e x), fun ω => rfl, fun τ all E E' M w ω ω' hs _ ht ho => ?_, fun E E' w ω ω' b he hb => by rw [he] at hb; exact hb⟩
      obtain ⟨ys, k1, k2, k3, k4⟩ := ho
      have he := ht.env c' n (hs _ _ (b1 _ _ hn))
      exact ⟨ys, by rw [he]; exact k1, k2, k3, by rw [he]; exact k4⟩
     ·obtain ⟨n', o, q1, q2, q3, x, q4, x', q5, q6, q7⟩ := b5 c' o' hm
      exact ⟨n', o, q1, q2, q3, x, q4, x', q5, fun τ all E E' M w ω ω' hs hv ht ho => q6 τ all E E' M w ω ω' hs (fun p hp => hv p (List.mem_cons_of_mem _ hp)) ht ho, q7⟩
    ·cases h
   ·rename_i te e te' e' xs hown
    have h' := if_some h; clear h
    obtain ⟨⟨e1, e2⟩, h⟩ := h'
    subst e1; subst e2
    split at h
    ·rename_i σ'' l2 h2
     simp at h; obtain ⟨rfl, rfl⟩ := h
     obtain ⟨b1, b2, os, b3, b4, b5, b6⟩ := mtO_sound h2
     refine ⟨b1, b2, (c, .pvec te e xs) :: os, by simp [b3], by simp [bdO, b4], fun c' o' hm => ?_, by simp [b6]⟩
     rcases List.mem_cons.1 hm with he | hm
     ·simp only [Prod.mk.injEq] at he
      obtain ⟨rfl, rfl⟩ := he
      refine ⟨n, .pvec te e xs, b1 _ _ hn, hown, rfl, fun _ => .dvec te (tsz V.sz e) (xs.map fun x => rowD V e x), fun ω => rfl, fun _ => .dvec te (tsz V.sz e) (xs.map fun x => rowD V e x), fun ω => rfl, fun τ all E E' M w ω ω' hs _ ht ho => ?_, fun E E' w ω ω' b he hb => ?_⟩
      ·obtain ⟨B, k1, k2⟩ := ho
       have he := ht.env c' n (hs _ _ (b1 _ _ hn))
       exact ⟨B, by rw [he]; exact k1, k2⟩
      ·rw [he] at hb; exact hb
     ·obtain ⟨n', o, q1, q2, q3, x, q4, x', q5, q6, q7⟩ := b5 c' o' hm
      exact ⟨n', o, q1, q2, q3, x, q4, x', q5, fun τ all E E' M w ω ω' hs hv ht ho => q6 τ all E E' M w ω ω' hs (fun p hp => hv p (List.mem_cons_of_mem _ hp)) ht ho, q7⟩
    ·cases h
   ·rename_i te e te' e' xs hown
    have h' := if_some h; clear h
    obtain ⟨⟨e1, e2⟩, h⟩ := h'
    subst e1; subst e2
    split at h
    ·rename_i σ'' l2 h2
     simp at h; obtain ⟨rfl, rfl⟩ := h
     obtain ⟨b1, b2, os, b3, b4, b5, b6⟩ := mtO_sound h2
     refine ⟨b1, b2, (c, .pvec te e (xs.map some)) :: os, by simp [b3], by simp [bdO, b4], fun c' o' hm => ?_, by simp [b6]⟩
     rcases List.mem_cons.1 hm with he | hm
     ·simp only [Prod.mk.injEq] at he
      obtain ⟨rfl, rfl⟩ := he
      refine ⟨n, .dvec te e xs, b1 _ _ hn, hown, by simp [TO.len], fun _ => .dvec te (tsz V.sz e) (xs.map fun x => encRD V.sz V.enc V.tid V.encd e x), fun ω => rfl, fun _ => .dvec te (tsz V.sz e) ((xs.map some).map fun x => rowD V e x), fun ω => rfl, fun τ all E E' M w ω ω' hs _ ht ho => ?_, fun E E' w ω ω' b he hb => ?_⟩
      ·obtain ⟨B, k1, k2⟩ := ho
       have he := ht.env c' n (hs _ _ (b1 _ _ hn))
       exact ⟨B, by rw [he]; rw [List.map_map]; exact k1, k2⟩
      ·rw [he] at hb; rw [List.map_map] at hb; exact hb
     ·obtain ⟨n', o, q1, q2, q3, x, q4, x', q5, q6, q7⟩ := b5 c' o' hm
      exact ⟨n', o, q1, q2, q3, x, q4, x', q5, fun τ all E E' M w ω ω' hs hv ht ho => q6 τ all E E' M w ω ω' hs (fun p hp => hv p (List.mem_cons_of_mem _ hp)) ht ho, q7⟩
    ·cases h
   ·rename_i te e te' e' xs hown
    have h' := if_some h; clear h
    obtain ⟨⟨e1, e2⟩, h⟩ := h'
    subst e1; subst e2
    split at h
    ·rename_i σ'' l2 h2
     simp at h; obtain ⟨rfl, rfl⟩ := h
     obtain ⟨b1, b2, os, b3, b4, b5, b6⟩ := mtO_sound h2
     refine ⟨b1, b2, (c, .dvec te e xs) :: os, by simp [b3], by simp [bdO, b4], fun c' o' hm => ?_, by simp [b6]⟩
     rcases List.mem_cons.1 hm with he | hm
     ·simp only [Prod.mk.injEq] at he
      obtain ⟨rfl, rfl⟩ := he
      refine ⟨n, .dvec te e xs, b1 _ _ hn, hown, rfl, fun _ => .dvec te (tsz V.sz e) (xs.map fun x => encRD V.sz V.enc V.tid V.encd e x), fun ω => rfl, fun _ => .dvec te (tsz V.sz e) (xs.map fun x => encRD V.sz V.enc V.tid V.encd e x), fun ω => rfl, fun τ all E E' M w ω ω' hs _ ht ho => ?_, fun E E' w ω ω' b he hb => ?_⟩
      ·obtain ⟨B, k1, k2⟩ := ho
       have he := ht.env c' n (hs _ _ (b1 _ _ hn))
       exact ⟨B, by rw [he]; exact k1, k2⟩
      ·rw [he] at hb; exact hb
     ·obtain ⟨n', o, q1, q2, q3, x, q4, x', q5, q6, q7⟩ := b5 c' o' hm
      exact ⟨n', o, q1, q2, q3, x, q4, x', q5, fun τ all E E' M w ω ω' hs hv ht ho => q6 τ all E E' M w ω ω' hs (fun p hp => hv p (List.mem_cons_of_mem _ hp)) ht ho, q7⟩
    ·cases h
   ·rename_i s p hown
    split at h
    ·rename_i σ'' l2 h2
     simp at h; obtain ⟨rfl, rfl⟩ := h
     obtain ⟨b1, b2, os, b3, b4, b5, b6⟩ := mtO_sound h2
     refine ⟨b1, b2, (c, .iter s p) :: os, by simp [b3], by simp [bdO, b4], fun c' o' hm => ?_, by simp [b6]⟩
     rcases List.mem_cons.1 hm with he | hm
     ·simp only [Prod.mk.injEq] at he
      obtain ⟨rfl, rfl⟩ := he
      refine ⟨n, .iter s p, b1 _ _ hn, hown, rfl, fun _ => .iter s p.toNat, fun ω => rfl, fun _ => .iter s p.toNat, fun ω => rfl, fun τ all E E' M w ω ω' hs _ ht ho => ?_, fun E E' w ω ω' b he hb => by rw [he] at hb; exact hb⟩
      obtain ⟨b, k1, k2, k3⟩ := ho
      have he := ht.env c' n (hs _ _ (b1 _ _ hn))
      exact ⟨b, by rw [he]; exact k1, k2, k3⟩
     ·obtain ⟨n', o, q1, q2, q3, x, q4, x', q5, q6, q7⟩ := b5 c' o' hm
      exact ⟨n', o, q1, q2, q3, x, q4, x', q5, fun τ all E E' M w ω ω' hs hv ht ho => q6 τ all E E' M w ω ω' hs (fun p hp => hv p (List.mem_cons_of_mem _ hp)) ht ho, q7⟩
    ·cases h
   ·rename_i cm tk tv m tk' tv' es rest cur hown
    have h' := if_some h; clear h
    obtain ⟨⟨e1, e2⟩, h⟩ := h'
    subst e1; subst e2
    split at h
    ·rename_i σ' hb
     obtain ⟨a1, a2, a3⟩ := bindN_sound hb
     split at h
     ·rename_i σ'' l2 h2
      simp at h; obtain ⟨rfl, rfl⟩ := h
      obtain ⟨b1, b2, os, b3, b4, b5, b6⟩ := mtO_sound h2
      refine ⟨a1.trans b1, fun hi => b2 (a3 hi), (c, .miter cm tk tv es rest none) :: os, by simp [b3], by simp [bdO, b4], fun c' o' hm => ?_, by simp [b6]⟩
      rcases List.mem_cons.1 hm with he | hm
      ·simp only [Prod.mk.injEq] at he
       obtain ⟨rfl, rfl⟩ := he
       refine ⟨n, .miter m tk tv es rest cur, b1 _ _ (a1 _ _ hn), hown, rfl, fun _ => .miter m (es.map fun p => (encK tk p.1, encD V.sz V.enc tv p.2)) (rest.map fun p => (encK tk p.1, encD V.sz V.enc tv p.2)) (cur.map fun p => (encK tk p.1, encD V.sz V.enc tv p.2)), fun ω => rfl,
        fun _ => .miter cm (es.map fun p => (encK tk p.1, encD V.sz V.enc tv p.2)) (rest.map fun p => (encK tk p.1, encD V.sz V.enc tv p.2)) none, fun ω => rfl, fun τ all E E' M w ω ω' hs _ ht ho => ?_, fun E E' w ω ω' b he hb => by rw [he] at hb; exact hb⟩
       obtain ⟨r', b, es', clock, since, seen, last, k1, k2, k3, k4, k5, k6, k7, k8, k9, k10, _, k12⟩ := ho
       have he := ht.env c' n (hs _ _ (b1 _ _ (a1 _ _ hn)))
       have he2 := ht.env cm m (hs _ _ (b1 _ _ a2))
       exact ⟨r', b, es', clock, since, seen, last, by rw [he]; exact k1, by rw [he2]; exact k2, k3, k4, k5, k6, k7, k8, k9, k10, (fun p hp => by cases hp), k12⟩
      ·obtain ⟨n', o, q1, q2, q3, x, q4, x', q5, q6, q7⟩ := b5 c' o' hm
       exact ⟨n', o, q1, q2, q3, x, q4, x', q5, fun τ all E E' M w ω ω' hs hv ht ho => q6 τ all E E' M w ω ω' hs (fun p hp => hv p (List.mem_cons_of_mem _ hp)) ht ho, q7⟩
     ·cases h
    ·cases h
   ·rename_i tk tv tk' tv' es hown
    have h' := if_some h; clear h
    obtain ⟨⟨e1, e2⟩, h⟩ := h'
    subst e1; subst e2
    split at h
    ·rename_i σ'' l2 h2
     simp at h; obtain ⟨rfl, rfl⟩ := h
     obtain ⟨b1, b2, os, b3, b4, b5, b6⟩ := mtO_sound h2
     refine ⟨b1, b2, (c, .map tk tv es) :: os, by simp [b3], by simp [bdO, b4], fun c' o' hm => ?_, by simp [b6]⟩
     rcases List.mem_cons.1 hm with he | hm
     ·simp only [Prod.mk.injEq] at he
      obtain ⟨rfl, rfl⟩ := he
      refine ⟨n, .map tk tv es, b1 _ _ hn, hown, rfl, fun _ => .map (es.map fun p => (encK tk p.1, encD V.sz V.enc tv p.2)), fun ω => rfl, fun _ => .map (es.map fun p => (encK tk p.1, encD V.sz V.enc tv p.2)), fun ω => rfl, fun τ all E E' M w ω ω' hs _ ht ho => ?_, fun E E' w ω ω' b he hb => by rw [he] at hb; exact hb⟩
      obtain ⟨b, es', clock, k1, k2, k3, k4, k5⟩ := ho
      have he := ht.env c' n (hs _ _ (b1 _ _ hn))
      exact ⟨b, es', clock, by rw [he]; exact k1, k2, k3, k4, k5⟩
     ·obtain ⟨n', o, q1, q2, q3, x, q4, x', q5, q6, q7⟩ := b5 c' o' hm
      exact ⟨n', o, q1, q2, q3, x, q4, x', q5, fun τ all E E' M w ω ω' hs hv ht ho => q6 τ all E E' M w ω ω' hs (fun p hp => hv p (List.mem_cons_of_mem _ hp)) ht ho, q7⟩
    ·cases h
   ·cases h
  ·cases h
theorem gt_zip {α : Type} : ∀ {ks : List Nat} {vs : List α} {t : Nat} {x : α}, gt (ks.zip vs) t = some x → ∃ i : Nat, ks[i]? = some t ∧ vs[i]? = some x
 | [], _, t, x, h => by simp [gt] at h
 | _ :: _, [], t, x, h => by simp [gt] at h
 | k :: ks, v :: vs, t, x, h => by
  simp only [List.zip_cons_cons, gt_cons] at h
  by_cases hk : k = t
  ·rw [if_pos hk] at h; cases h; exact ⟨0, by simp [hk], rfl⟩
  ·rw [if_neg hk] at h
   obtain ⟨i, h1, h2⟩ := gt_zip h
   exact ⟨i + 1, by simpa using h1, by simpa using h2⟩
theorem cut_ent {S : TS V.N} {c : Cut V.ι} {σ : Names} {ls : List (Leaf V.N)} (h : extr0 V c S = some (σ, ls)) (hok : objsOk V c σ = true) : Ent (encS V S) (encS V (build V c ls)) := by
 unfold extr0 at h
 split at h
 ·rename_i σ0 l0 h0
  split at h
  ·rename_i σ1 l1 h1
   simp at h; obtain ⟨rfl, rfl⟩ := h
   obtain ⟨a1, a2, a3, vs', a4, a5, a6⟩ := mtL_sound h0
   obtain ⟨b1, b2, os, b3, b4, b5, b6⟩ := mtO_sound h1
   have hinj : Inj σ1 := b2 (a2 fun c c' n h => by simp [gt] at h)
   simp only [objsOk, Bool.and_eq_true, List.all_eq_true] at hok
   obtain ⟨⟨hg, hsl⟩, hob⟩ := hok
   have hbuild : build V c (l0 ++ l1) = { tmps := (c.slots.map (·.1)).zip vs', own := os } := by
    unfold build
    rw [a5 l1]
    simp only [b4]
   rw [hbuild]
   let S' : TS V.N := { tmps := (c.slots.map (·.1)).zip vs', own := os }
   have hown : ∀ n o, S'.own? n = some o → (n, o) ∈ os := fun n o ho => gt_mem ho
   have hkey : ∀ n, (c.objs.any fun p => Nat.beq p.1 n) = true → ∃ o, S'.own? n = some o := by
    intro n hn
    rw [List.any_eq_true] at hn
    obtain ⟨p, hp, hpn⟩ := hn
    have hpn : p.1 = n := by simpa using hpn
    have hm : n ∈ os.map (·.1) := by rw [b6, ← hpn]; exact List.mem_map_of_mem hp
    exact gt_some hm
   intro C E M a w hs
   let E' : Env := fun m => match gt σ1 m with
    | some n => E n
    | none => E m
   have hE : ∀ k n, gt σ1 k = some n → E' k = E n := fun k n hk => by simp only [E', hk]
   have ht : Tr σ1 c.objs E E' S.len S'.len := by
    refine ⟨hE, fun k n hk hkn => ?_⟩
    obtain ⟨o, ho⟩ := hkey k hk
    obtain ⟨n', o', q1, q2, q3, _⟩ := b5 k o (hown k o ho)
    rw [hkn] at q1; cases q1
    unfold TS.len; rw [ho, q2]; exact q3
   have hob' : ∀ p ∈ c.objs, match p.2 with | .box _ ps => ps.all (vhIn V c.objs) = true | _ => True := by
    intro p hp
    have := hob p hp
    cases hq : p.2 with
    | box oty ps => rw [hq] at this; simpa using this
    | st i => trivial
    | vec te e => trivial
    | dvec te e out => trivial
    | map tk tv => trivial
    | iter => trivial
    | miter m k v => trivial
   have hfind : ∀ n o, (encS V S').own? n = some o → ∃ n0 o0, gt σ1 n = some n0 ∧ (encS V S).own? n0 = some o0 ∧ (∀ w, OwnOk E M w n0 o0 → OwnOk E' M w n o) ∧ ∀ w b, o.foot w (E' n) b → o0.foot w (E n0) b := by
    intro n o ho
    rw [encS_own?, Option.bind_eq_some_iff] at ho
    obtain ⟨o', ho', hoo⟩ := ho
    obtain ⟨n0, o0, q1, q2, _, x, q4, x', q5, q6, q7⟩ := b5 n o' (hown n o' ho')
    rw [q5] at hoo
    simp only [Option.some.injEq] at hoo
    subst hoo
    exact ⟨n0, x S.len, q1, by rw [encS_own?, q2]; exact q4 _, fun w hw => q6 σ1 c.objs E E' M w S.len S'.len (Sub.refl _) hob' ht hw, fun w b hb => q7 E E' w S.len S'.len b (hE _ _ q1) hb⟩
   refine ⟨E', M, { size := hs.size, defers := hs.defers, fixed := hs.fixed, tmps := fun t x hx => ?_, mem := hs.mem, own := fun n o hn => ?_, apart := fun n m o o' b hne hn hm hb => ?_, home := fun n o b hn hb => ?_, m0 := hs.m0, mnew := hs.mnew, frame := hs.frame, grows := hs.grows, os := hs.os, tape := hs.tape, output := hs.output, env := fun n hn => ?_ }⟩
   ·rw [encS_gt, Option.map_eq_some_iff] at hx
    obtain ⟨v', hv', rfl⟩ := hx
    obtain ⟨i, g1, g2⟩ := gt_zip hv'
    have hi : i < (c.slots.map fun p => S.get p.1).length := by rw [← a4]; exact (List.getElem?_eq_some_iff.1 g2).1
    have hget : (c.slots.map fun p => S.get p.1)[i]? = some (S.get t) := by
     rw [List.getElem?_map] at g1 ⊢
     cases hsl' : c.slots[i]? with
     | none => rw [hsl'] at g1; cases g1
     | some p => rw [hsl'] at g1; simp at g1; subst g1; rfl
    obtain ⟨k1, k2⟩ := a6 i _ v' hget g2
    have hgt : ∃ v, gt S.tmps t = some v ∧ S.get t = v := by
     unfold TS.get at k1 ⊢
     cases hq : gt S.tmps t with
     | none => rw [hq] at k1; exact (k1 rfl).elim
     | some v => exact ⟨v, rfl, rfl⟩
    obtain ⟨v, hv1, hv2⟩ := hgt
    obtain ⟨av, hav, hrep⟩ := hs.tmps t (encV V S.len v) (by rw [encS_gt, hv1]; rfl)
    refine ⟨av, hav, k2 σ1 c.objs E E' M S.len S'.len av b1 ?_ ht (by rw [hv2]; exact hrep)⟩
    rw [List.all_map]
    exact List.all_eq_true.2 hsl
   ·obtain ⟨n0, o0, q1, q2, q3⟩ := hfind n o hn
    exact q3.1 w (hs.own n0 _ q2)
   ·obtain ⟨n0, o0, q1, q2, q3⟩ := hfind n o hn
    obtain ⟨m0, o1, r1, r2, r3⟩ := hfind m o' hm
    intro hb'
    exact hs.apart n0 m0 _ _ b (fun e => by subst e; exact hne (hinj n m n0 q1 r1)) q2 r2 (q3.2 w b hb) (r3.2 w b hb')
   ·obtain ⟨n0, o0, q1, q2, q3⟩ := hfind n o hn
    exact hs.home n0 _ b q2 (q3.2 w b hb)
   ·cases hq : gt σ1 n with
    | none => simp only [E', hq]; exact hs.env n hn
    | some m =>
     have := hg _ (gt_mem hq)
     simp only [Bool.or_eq_true, Nat.blt_eq] at this
     rcases this with h | h
     ·omega
     ·have e : n = m := by simpa using h
      rw [hE n m hq, ← e]; exact hs.env n hn
  ·cases h
 ·cases h
end
end Go.Tx
end
section
namespace Go.Tx
open Go.Awp
variable [Inhabited GMem]
theorem Ent.le {S S' : AState} (ht : ∀ t x, gt S'.tmps t = some x → ∃ y, gt S.tmps t = some y ∧ H.le y x) (ho : ∀ n o, S'.own? n = some o → ∃ o', S.own? n = some o' ∧ OLe o' o) : Ent S S' :=
 fun _ E M _ _ hs => ⟨E, M, Sim.le hs ht ho⟩
theorem hle_trans {a b c : H} (h : H.le a b) (k : H.le b c) : H.le a c := fun E M v x => k E M v (h E M v x)
mutual
theorem frz_le {n sz : Nat} {rows : List (List D)} : ∀ x : H, H.has n x = false → H.le (H.frz n sz rows x) x
 | .d x, _ => by simp only [H.frz]; exact H.le.refl _
 | .junk, _ => by simp only [H.frz]; exact H.le.refl _
 | .bp m o, _ => by simp only [H.frz]; exact H.le.refl _
 | .vh m l, h => by
  simp only [H.has] at h
  have : m ≠ n := by intro e; subst e; simp at h
  simp only [H.frz]
  rw [if_neg (fun e => this e.1)]
  exact H.le.refl _
 | .ep m s i o, _ => by simp only [H.frz]; exact H.le.refl _
 | .sv m s i o, _ => by simp only [H.frz]; exact H.le.refl _
 | .mp m, _ => by simp only [H.frz]; exact H.le.refl _
 | .np m b, _ => by simp only [H.frz]; exact H.le.refl _
 | .sd m, _ => by simp only [H.frz]; exact H.le.refl _
 | .agg cs, h => by
  simp only [H.frz]
  simp only [H.has] at h
  exact hle_trans (mkAgg_to _) (agg_le (H.frzL_len ..) (frzL_le cs h))
 | .tup cs, h => by
  simp only [H.frz]
  simp only [H.has] at h
  exact tup_le (H.frzL_len ..) (frzL_le cs h)
 | .fn f a b, _ => by simp only [H.frz]; exact H.le.refl _
theorem frzL_le {n sz : Nat} {rows : List (List D)} : ∀ l : List H, H.hasL n l = false → ∀ (i : Nat) (x : H), l[i]? = some x → ∃ y, (H.frzL n sz rows l)[i]? = some y ∧ H.le y x
 | [], _, i, x, hx => by simp at hx
 | y :: r, h, 0, x, hx => by
  rw [H.hasL, Bool.or_eq_false_iff] at h
  simp at hx; subst hx
  exact ⟨H.frz n sz rows y, by simp [H.frzL], frz_le y h.1⟩
 | y :: r, h, i + 1, x, hx => by
  rw [H.hasL, Bool.or_eq_false_iff] at h
  obtain ⟨z, h1, h2⟩ := frzL_le r h.2 i x (by simpa using hx)
  exact ⟨z, by simpa [H.frzL] using h1, h2⟩
end
section
variable {V : View}
theorem frz_len {S : TS V.N} {n : Nat} {te : TypeId} {e : Ty V.ι} {xs : List (den V.N e)} (hn : S.own? n = some (.vec te e xs)) : (S.frz V n e xs).len = S.len := by
 funext m
 unfold TS.len
 unfold TS.own? at hn ⊢
 unfold TS.frz
 simp only [gt_cons]
 by_cases hm : n = m
 ·subst hm; rw [if_pos rfl, hn]; rfl
 ·rw [if_neg hm, gt_map (frzO V n e xs)]
  cases gt S.own m with
  | none => rfl
  | some o => cases o <;> rfl
theorem frz1_le {S : TS V.N} {n : Nat} {te : TypeId} {e : Ty V.ι} {xs : List (den V.N e)} (hn : S.own? n = some (.vec te e xs)) (v : TV V.N) :
  H.le (H.frz n (tsz V.sz e) (xs.map fun x => encR V.sz V.enc e x) (encV V S.len v)) (encV V (S.frz V n e xs).len (frz1 V n e xs v)) := by
 have other : ∀ v : TV V.N, H.le (H.frz n (tsz V.sz e) (xs.map fun x => encR V.sz V.enc e x) (encV V S.len v)) (encV V (S.frz V n e xs).len (if TV.has n v = true then .junk else v)) := by
  intro v
  split
  ·simp only [encV]; exact H.le.junk _
  ·rename_i hh
   have hh : TV.has n v = false := by simpa using hh
   rw [frz_len hn]
   exact frz_le _ (by rw [encV_has]; exact hh)
 unfold frz1
 split
 ·rename_i m
  by_cases hm : m = n
  ·subst hm
   rw [if_pos rfl]
   simp only [encV, encD, H.frz, len_vec hn, List.length_map, and_self, if_true]
   exact H.le.refl _
  ·rw [if_neg hm]
   simp only [encV, H.frz]
   rw [if_neg (fun e => hm e.1), frz_len hn]
   exact H.le.refl _
 ·exact other v
theorem frzV_le {S : TS V.N} {n : Nat} {te : TypeId} {e : Ty V.ι} {xs : List (den V.N e)} (hn : S.own? n = some (.vec te e xs)) (v : TV V.N) :
  H.le (H.frz n (tsz V.sz e) (xs.map fun x => encR V.sz V.enc e x) (encV V S.len v)) (encV V (S.frz V n e xs).len (frzV V n e xs v)) := by
 unfold frzV
 split
 ·rename_i cs
  simp only [encV]
  refine hle_trans ?_ (mkAgg_of _)
  have hp : ∀ (l : List H), (∀ (i : Nat) (x : H), (encL V (S.frz V n e xs).len (cs.map (frz1 V n e xs)))[i]? = some x → ∃ y, l[i]? = some y ∧ H.le y x) → l.length = cs.length →
    H.le (.agg l) (.agg (encL V (S.frz V n e xs).len (cs.map (frz1 V n e xs)))) := fun l h hl => agg_le (by rw [encL_len, List.length_map]; exact hl) h
  have hfrz : ∀ (i : Nat) (x : H), (encL V (S.frz V n e xs).len (cs.map (frz1 V n e xs)))[i]? = some x →
    ∃ y, (encL V S.len cs)[i]? = some y ∧ H.le (H.frz n (tsz V.sz e) (xs.map fun x => encR V.sz V.enc e x) y) x := by
   intro i x hx
   simp only [encL_map, List.getElem?_map] at hx ⊢
   cases hc : cs[i]? with
   | none => rw [hc] at hx; cases hx
   | some c => rw [hc] at hx; simp at hx; subst hx; exact ⟨_, rfl, frz1_le hn c⟩
  unfold mkAgg
  split
  ·rename_i ds hds
   obtain ⟨g1, g2⟩ := allD_get hds
   simp only [H.frz]
   have e1 : H.le (.d (.agg ds)) (.agg (encL V S.len cs)) := by
    have := mkAgg_to (encL V S.len cs)
    unfold mkAgg at this
    rw [hds] at this; exact this
   refine hle_trans e1 (hp _ (fun i x hx => ?_) (encL_len ..))
   obtain ⟨y, hy, hle⟩ := hfrz i x hx
   refine ⟨y, hy, ?_⟩
   rw [g2] at hy
   cases hd : ds[i]? with
   | none => rw [hd] at hy; cases hy
   | some d => rw [hd] at hy; simp at hy; subst hy; simpa only [H.frz] using hle
  ·simp only [H.frz]
   refine hle_trans (mkAgg_to _) (hp _ (fun i x hx => ?_) (by rw [H.frzL_len, encL_len]))
   obtain ⟨y, hy, hle⟩ := hfrz i x hx
   exact ⟨_, by rw [H.frzL_get, hy]; rfl, hle⟩
 ·exact frz1_le hn v
theorem frz_ent {S : TS V.N} {n : Nat} {te : TypeId} {e : Ty V.ι} {xs : List (den V.N e)} (hn : S.own? n = some (.vec te e xs)) : Ent (encS V S) (encS V (S.frz V n e xs)) := by
 refine Ent.trans (Ent.freeze (own_vec hn)) (Ent.le (fun t x hx => ?_) fun m o ho => ?_)
 ·rw [encS_gt] at hx
  simp only [TS.frz, gt_map] at hx
  cases hq : gt S.tmps t with
  | none => rw [hq] at hx; cases hx
  | some v =>
   rw [hq] at hx; simp at hx; subst hx
   refine ⟨_, by simp only [AState.frz, gt_map, encS_gt, hq, Option.map_some], frzV_le hn v⟩
 ·rw [encS_own?, Option.bind_eq_some_iff] at ho
  obtain ⟨o1, ho1, ho⟩ := ho
  have hown : (S.frz V n e xs).own? m = if n = m then some (.gone xs.length) else (S.own? m).map (frzO V n e xs) := by
   unfold TS.own? TS.frz
   simp only [gt_cons]
   split
   ·rfl
   ·rw [gt_map (frzO V n e xs)]
  rw [hown] at ho1
  by_cases hm : n = m
  ·rw [if_pos hm] at ho1; simp at ho1; subst ho1; simp [encO] at ho
  ·rw [if_neg hm] at ho1
   cases hq : S.own? m with
   | none => rw [hq] at ho1; cases ho1
   | some o0 =>
    rw [hq] at ho1; simp at ho1; subst ho1
    have hsrc : ∀ x, encO V S.len o0 = some x → ((encS V S).frz n (tsz V.sz e) (xs.map fun x => encR V.sz V.enc e x)).own? m = some (Own.frz n (tsz V.sz e) (xs.map fun x => encR V.sz V.enc e x) x) := by
     intro x hx
     have := encS_own? S m
     rw [hq] at this
     simp only [Option.bind_some, hx] at this
     unfold AState.own? at this ⊢
     simp only [AState.frz, gt_cons]
     rw [if_neg hm, gt_map (fun x : Option Own => x.map (Own.frz n (tsz V.sz e) (xs.map fun x => encR V.sz V.enc e x)))]
     cases hg : gt (encS V S).own m with
     | none => rw [hg] at this; cases this
     | some oo => rw [hg] at this; simp at this; subst this; rfl
    cases o0 with
    | gone l => simp [frzO, encO] at ho
    | bst i y =>
     simp only [frzO, encO, Option.some.injEq] at ho
     subst ho
     refine ⟨_, hsrc _ rfl, ?_⟩
     simp only [Own.frz]
     refine OLe.box (.inr rfl) (by rw [H.frzL_len]) fun i' x hx => ?_
     refine ⟨_, by rw [H.frzL_get, hx]; rfl, ?_⟩
     rw [List.getElem?_map, Option.map_eq_some_iff] at hx
     obtain ⟨d, _, rfl⟩ := hx
     exact frz_le _ (by simp [H.has])
    | vec te' e' ys =>
     simp only [frzO, encO, Option.some.injEq] at ho
     subst ho
     exact ⟨_, hsrc _ rfl, OLe.refl _⟩
    | dvec te' e' ys =>
     simp only [frzO, encO, Option.some.injEq] at ho
     subst ho
     exact ⟨_, hsrc _ rfl, OLe.refl _⟩
    | pvec te' e' ys =>
     simp only [frzO, encO, Option.some.injEq] at ho
     subst ho
     exact ⟨_, hsrc _ rfl, OLe.refl _⟩
    | map tk tv es =>
     simp only [frzO, encO, Option.some.injEq] at ho
     subst ho
     exact ⟨_, hsrc _ rfl, OLe.refl _⟩
    | iter s p =>
     simp only [frzO, encO, Option.some.injEq] at ho
     subst ho
     exact ⟨_, hsrc _ rfl, OLe.refl _⟩
    | miter m k v es rest cur =>
     simp only [frzO, encO, Option.some.injEq] at ho
     subst ho
     exact ⟨_, hsrc _ rfl, OLe.refl _⟩
    | box oty cells =>
     simp only [frzO, encO, Option.some.injEq] at ho
     subst ho
     refine ⟨_, hsrc _ rfl, ?_⟩
     simp only [Own.frz]
     refine OLe.box (.inr rfl) (by rw [H.frzL_len, encL_len, encL_len, List.length_map]) fun i x hx => ?_
     simp only [encL_map, List.getElem?_map] at hx
     cases hc : cells[i]? with
     | none => rw [hc] at hx; cases hx
     | some c =>
      rw [hc] at hx; simp at hx; subst hx
      exact ⟨_, by rw [H.frzL_get, encL_map, List.getElem?_map, hc]; rfl, frz1_le hn c⟩
theorem Ent.tle {S S' : TS V.N} (hl : S'.len = S.len) (ht : ∀ t v, gt S'.tmps t = some v → gt S.tmps t = some v)
  (ho : ∀ n o x, S'.own? n = some o → encO V S.len o = some x → ∃ o' x', S.own? n = some o' ∧ encO V S.len o' = some x' ∧ OLe x' x) : Ent (encS V S) (encS V S') := by
 refine Ent.le (fun t x hx => ?_) fun n x hx => ?_
 ·rw [encS_gt, Option.map_eq_some_iff] at hx
  obtain ⟨v, hv, rfl⟩ := hx
  exact ⟨_, by rw [encS_gt, ht t v hv]; rfl, by rw [hl]; exact H.le.refl _⟩
 ·rw [encS_own?, Option.bind_eq_some_iff] at hx
  obtain ⟨o, ho1, ho2⟩ := hx
  rw [hl] at ho2
  obtain ⟨o', x', h1, h2, h3⟩ := ho n o x ho1 ho2
  exact ⟨x', by rw [encS_own?, h1]; exact h2, h3⟩
theorem own_dvec {S : TS V.N} {n : Nat} {te : TypeId} {e : Ty V.ι} {xs : List (den V.N e)} (h : S.own? n = some (.dvec te e xs)) :
  (encS V S).own? n = some (.dvec te (tsz V.sz e) (xs.map fun x => encRD V.sz V.enc V.tid V.encd e x)) := by rw [encS_own?, h]; rfl
theorem own_pvec {S : TS V.N} {n : Nat} {te : TypeId} {e : Ty V.ι} {xs : List (Option (den V.N e))} (h : S.own? n = some (.pvec te e xs)) :
  (encS V S).own? n = some (.dvec te (tsz V.sz e) (xs.map fun x => rowD V e x)) := by rw [encS_own?, h]; rfl
theorem own_cons (S : TS V.N) (n : Nat) (o : TO V.N) (m : Nat) : ({ S with own := (n, o) :: S.own } : TS V.N).own? m = if n = m then some o else S.own? m := by
 unfold TS.own?
 rw [gt_cons]
theorem d2v_ent {S : TS V.N} {n : Nat} {te : TypeId} {e : Ty V.ι} {ys : List (den V.N e)} (hn : S.own? n = some (.dvec te e ys)) :
  Ent (encS V S) (encS V { S with own := (n, .vec te e ys) :: S.own }) := fun C E M a w hs => by
 obtain ⟨M', h1⟩ := hs.dfrz (own_dvec hn) (rows_toR ys)
 refine ⟨E, M', ?_⟩
 have hl : ({ S with own := (n, .vec te e ys) :: S.own } : TS V.N).len = S.len := by
  funext m
  unfold TS.len
  rw [own_cons]
  by_cases h : n = m
  ·subst h; rw [if_pos rfl, hn]; simp [TO.len]
  ·rw [if_neg h]
 have : encS V { S with own := (n, .vec te e ys) :: S.own } = { encS V S with own := (n, some (.vec te (tsz V.sz e) (ys.map fun x => encR V.sz V.enc e x))) :: (encS V S).own } := by
  unfold encS
  rw [hl]
  rfl
 rw [this]
 exact h1
theorem frzAt_ent (S : TS V.N) (v : TV V.N) : Ent (encS V S) (encS V (frzAt V S v)) := by
 unfold frzAt
 split
 ·rename_i n
  split
  ·rename_i te e xs hn; exact frz_ent hn
  ·rename_i te e ys hn
   exact Ent.trans (d2v_ent hn) (frz_ent (by rw [own_cons, if_pos rfl]))
  ·exact Ent.refl _
 ·exact Ent.refl _
theorem nil_ent {S1 S2 : TS V.N} {n : Nat} {te : TypeId} {e : Ty V.ι} (ht : S2.tmps = S1.tmps) (h1 : S1.own? n = some (.vec te e [])) (h2 : S2.own? n = some (.dvec te e [])) (h3 : ∀ k, k ≠ n → S2.own? k = S1.own? k) : Ent (encS V S1) (encS V S2) := by
 have hl : S2.len = S1.len := by
  funext m
  unfold TS.len
  by_cases h : m = n
  ·subst h; rw [h1, h2]; rfl
  ·rw [h3 m h]
 refine Ent.tle hl (fun t v hv => by rw [← ht]; exact hv) fun k o x hk hx => ?_
 by_cases h : k = n
 ·subst h
  rw [h2] at hk; cases hk
  simp only [encO, List.map_nil, Option.some.injEq] at hx; subst hx
  exact ⟨_, _, h1, rfl, by simpa using (OLe.v2d (e := te) (sz := tsz V.sz e) (rows := []))⟩
 ·rw [h3 k h] at hk
  exact ⟨o, x, hk, hx, OLe.refl _⟩
theorem frzL_ent : ∀ (l : List (TV V.N)) (S : TS V.N), Ent (encS V S) (encS V (frzL V S l))
 | [], _ => Ent.refl _
 | v :: r, S => Ent.trans (frzAt_ent S v) (frzL_ent r _)
theorem nilAt_ent0 (te : TypeId) (e : Ty V.ι) (S : TS V.N) (t : Nat) : Ent (encS V S) (encS V (nilAt V false te e S t)) := by
 unfold nilAt nilO
 simp only
 split
 ·rename_i ht
  split
  ·rename_i hf
   obtain ⟨hf, hg⟩ := hf
   have hg : 60000 + t < given := by simpa [Nat.blt_eq] using hg
   have h1 : gt (encS V S).tmps t = some (.d (.v (.slice none 0 0))) := by rw [encS_gt, ht]; simp [encV, encRaw]
   have h2 : (encS V S).fresh (60000 + t) = true := encS_fresh hf
   refine Ent.trans (Ent.nilvec (e := te) (sz := tsz V.sz e) h1 h2 hg) fun C E M a w hs => ⟨E, M, ?_⟩
   exact Sim.tapp (V := V) (S := S) (dst := some t) (te := { val := .vh (60000 + t), upd := [(60000 + t, .vec te e [])], new := [60000 + t] }) (ex := false)
    (e' := { val := .vh (60000 + t) 0, upd := [(60000 + t, some (.vec te (tsz V.sz e) []))], new := [60000 + t] }) (fun m o hm => by
      simp only [gt_cons] at hm
      split at hm
      ·rename_i e; left; simp [e]
      ·simp [gt] at hm) (fun d hd => by simp at hd; subst hd; exact hf) (ele_upd (by
      simp only [encV]
      rw [app_len]
      simp [gt_cons, TO.len]) rfl (by simp [encO]) rfl) hs
  ·exact Ent.refl _
 ·exact Ent.refl _
theorem nilAt_ent (dv : Bool) (te : TypeId) (e : Ty V.ι) (S : TS V.N) (t : Nat) : Ent (encS V S) (encS V (nilAt V dv te e S t)) := by
 cases dv with
 | false => exact nilAt_ent0 te e S t
 | true =>
  refine Ent.trans (nilAt_ent0 te e S t) ?_
  unfold nilAt nilO
  simp only
  split
  ·split
   ·refine nil_ent (n := 60000 + t) (te := te) (e := e) rfl ?_ ?_ fun k hk => ?_ <;> unfold TS.own? <;> simp only [gt_cons]
    ·simp
    ·simp
    ·rw [if_neg (Ne.symm hk), if_neg (Ne.symm hk)]
   ·exact Ent.refl _
  ·exact Ent.refl _
theorem pre_ent (objs : List (Nat × OPt V.ι)) : ∀ (l : List (Nat × Pt V.ι)) (S : TS V.N), Ent (encS V S) (encS V (preS V objs S l))
 | [], _ => Ent.refl _
 | (t, .vh c) :: r, S => by
  simp only [preS]
  split
  ·exact Ent.trans (nilAt_ent _ _ _ S t) (pre_ent objs r _)
  ·exact Ent.trans (nilAt_ent _ _ _ S t) (pre_ent objs r _)
  ·exact pre_ent objs r S
 | (t, .dat ty) :: r, S => by
  simp only [preS]
  exact Ent.trans (frzL_ent _ S) (pre_ent objs r _)
 | (t, .bp c off) :: r, S => by simp only [preS]; exact pre_ent objs r S
 | (t, .mp c) :: r, S => by simp only [preS]; exact pre_ent objs r S
 | (t, .np c) :: r, S => by simp only [preS]; exact pre_ent objs r S
 | (t, .nif) :: r, S => by simp only [preS]; exact pre_ent objs r S
 | (t, .ag cs) :: r, S => by
  simp only [preS]
  exact Ent.trans (frzL_ent _ S) (pre_ent objs r _)
 | (t, .fn f a b) :: r, S => by simp only [preS]; exact pre_ent objs r S
theorem nilBox_ent0 (te : TypeId) (e : Ty V.ι) (S : TS V.N) (b i : Nat) : Ent (encS V S) (encS V (nilBox V false te e S b i)) := by
 unfold nilBox nilO
 simp only
 split
 ·rename_i oty cells hb
  split
  ·rename_i hc
   split
   ·rename_i hf
    obtain ⟨hf, hg⟩ := hf
    generalize hn : 70000 + S.own.length = n at hf hg ⊢
    have hg : n < given := by simpa [Nat.blt_eq] using hg
    have h1 : (encS V S).own? b = some (.box oty (encL V S.len cells)) := by rw [encS_own?, hb]; rfl
    have h2 : (encL V S.len cells)[i]? = some (.d (.v (.slice none 0 0))) := by rw [encL_map, List.getElem?_map, hc]; simp [encV, encRaw]
    have hfr := hf
    unfold TS.fresh at hfr
    simp only [Bool.and_eq_true, List.all_eq_true] at hfr
    obtain ⟨⟨f1, f2⟩, f3⟩ := hfr
    have hbn : b ≠ n := by
     rintro rfl
     rw [hb] at f1; cases f1
    have hcn : TV.hasL n cells = false := by
     have := f3 (b, .box oty cells) (gt_mem hb)
     simpa [TO.has] using this
    refine Ent.trans (Ent.nilcell (e := te) (sz := tsz V.sz e) h1 h2 (encS_fresh hf) hg) fun C E M a w hs => ⟨E, M, ?_⟩
    refine Sim.tapp (V := V) (S := S) (dst := none) (te := { val := .junk, upd := [(b, .box oty (cells.set i (.vh n))), (n, .vec te e [])], new := [n] }) (ex := false)
     (e' := { val := .junk, upd := [(b, some (.box oty ((encL V S.len cells).set i (.vh n 0)))), (n, some (.vec te (tsz V.sz e) []))], new := [n] }) (fun m o hm => ?_) (fun d hd => by simp at hd; subst hd; exact hf) (ele_upd ?_ rfl ?_ rfl) hs
    ·simp only [gt_cons] at hm
     split at hm
     ·rename_i e1
      right
      simp at hm; subst hm; subst e1
      unfold TS.len
      rw [hb]; rfl
     ·split at hm
      ·rename_i e1; left; simp [e1]
      ·simp [gt] at hm
    ·simp [encV]
    ·simp only [List.map_cons, List.map_nil, encO]
     have hl : ∀ m, (S.app none ({ val := .junk, upd := [(b, .box oty (cells.set i (.vh n))), (n, .vec te e [])], new := [n] } : TE V.N)).len m = if m = n then 0 else S.len m := by
      intro m
      rw [app_len]
      simp only [gt_cons]
      by_cases hmb : b = m
      ·subst hmb
       rw [if_pos rfl, if_neg hbn]
       simp only [TO.len]
       unfold TS.len; rw [hb]; rfl
      ·rw [if_neg hmb]
       by_cases hmn : n = m
       ·subst hmn; simp [TO.len]
       ·rw [if_neg hmn, if_neg (fun e => hmn e.symm)]; rfl
     have hcells : encL V (S.app none ({ val := .junk, upd := [(b, .box oty (cells.set i (.vh n))), (n, .vec te e [])], new := [n] } : TE V.N)).len (cells.set i (.vh n)) = (encL V S.len cells).set i (.vh n 0) := by
      rw [encL_map, List.map_set, encL_map]
      congr 1
      ·rw [← encL_map, ← encL_map]
       refine encL_congr cells fun m hm => ?_
       rw [hl, if_neg]
       rintro rfl
       rw [hcn] at hm; cases hm
      ·simp only [encV]
       rw [hl, if_pos rfl]
     rw [hcells]
   ·exact Ent.refl _
  ·exact Ent.refl _
 ·exact Ent.refl _
theorem nilBox_ent (dv : Bool) (te : TypeId) (e : Ty V.ι) (S : TS V.N) (b i : Nat) : Ent (encS V S) (encS V (nilBox V dv te e S b i)) := by
 cases dv with
 | false => exact nilBox_ent0 te e S b i
 | true =>
  refine Ent.trans (nilBox_ent0 te e S b i) ?_
  unfold nilBox nilO
  simp only
  split
  ·rename_i oty cells hb
   split
   ·split
    ·rename_i hf
     have hbn : b ≠ 70000 + S.own.length := fun e => by
      have h1 := hf.1
      unfold TS.fresh at h1
      simp only [Bool.and_eq_true] at h1
      rw [← e, hb] at h1; exact absurd h1.1.1 (by simp)
     refine nil_ent (n := 70000 + S.own.length) (te := te) (e := e) rfl ?_ ?_ fun k hk => ?_ <;> unfold TS.own? <;> simp only [gt_cons]
     ·rw [if_neg hbn]; simp
     ·rw [if_neg hbn]; simp
     ·rw [if_neg (Ne.symm hk), if_neg (Ne.symm hk)]
    ·exact Ent.refl _
   ·exact Ent.refl _
  ·exact Ent.refl _
theorem preBox_ent (objs : List (Nat × OPt V.ι)) (b : Nat) : ∀ (l : List (Pt V.ι)) (i : Nat) (S : TS V.N), Ent (encS V S) (encS V (preBox V objs b i l S))
 | [], _, _ => Ent.refl _
 | .vh c :: r, i, S => by
  simp only [preBox]
  split
  ·exact Ent.trans (nilBox_ent _ _ _ S b i) (preBox_ent objs b r _ _)
  ·exact Ent.trans (nilBox_ent _ _ _ S b i) (preBox_ent objs b r _ _)
  ·exact preBox_ent objs b r _ S
 | .dat ty :: r, i, S => by simp only [preBox]; exact Ent.trans (frzL_ent _ S) (preBox_ent objs b r _ _)
 | .bp c off :: r, i, S => by simp only [preBox]; exact preBox_ent objs b r _ S
 | .mp c :: r, i, S => by simp only [preBox]; exact preBox_ent objs b r _ S
 | .np c :: r, i, S => by simp only [preBox]; exact preBox_ent objs b r _ S
 | .nif :: r, i, S => by simp only [preBox]; exact preBox_ent objs b r _ S
 | .ag cs :: r, i, S => by simp only [preBox]; exact preBox_ent objs b r _ S
 | .fn f x y :: r, i, S => by simp only [preBox]; exact preBox_ent objs b r _ S
theorem preObj_ent (objs : List (Nat × OPt V.ι)) (c b : Nat) (S : TS V.N) : Ent (encS V S) (encS V (preObj V objs c b S)) := by
 unfold preObj
 split
 ·exact preBox_ent objs b _ 0 S
 ·split
  ·exact frzL_ent _ S
  ·exact Ent.refl _
 ·exact Ent.refl _
theorem preW_ent (objs : List (Nat × OPt V.ι)) : ∀ (m : Nat) (l : List (Nat × Nat)) (S : TS V.N), Ent (encS V S) (encS V (preW V objs m l S))
 | 0, _, _ => by simp only [preW]; exact Ent.refl _
 | _ + 1, [], _ => by simp only [preW]; exact Ent.refl _
 | m + 1, (c, b) :: r, S => by simp only [preW]; exact Ent.trans (preObj_ent objs c b S) (preW_ent objs m _ _)
theorem preA_ent (objs : List (Nat × OPt V.ι)) (l : List (Nat × Pt V.ι)) (S : TS V.N) : Ent (encS V S) (encS V (preA V objs S l)) := by
 unfold preA
 split
 ·exact pre_ent _ l S
 ·exact Ent.trans (pre_ent _ l S) (preW_ent _ _ _ _)
theorem extr_ent {c : Cut V.ι} {S : TS V.N} {v : HL V.N c.tys} (h : extr V c S = some v) : Ent (encS V S) (encS V (conc V c v)) := by
 unfold extr at h
 split at h
 ·rename_i σ ls hx
  obtain ⟨hok, h⟩ := if_some h
  have := toHL_of h
  unfold conc
  rw [this]
  exact Ent.trans (preA_ent c.objs c.slots S) (cut_ent hx hok)
 ·cases h
end
end Go.Tx
end
section
namespace Go.Tx
open Go.Awp
variable [Inhabited GMem]
theorem toL1 (x : D) : DD.toL [.d x] = some [x] := by simp [DD.toL, DD.toD]
theorem toLs {t z : Nat} {rows : List (List DD)} {ds : List (List D)} (h : DD.toR rows = some ds) : DD.toL [.sl t z rows] = some [.sl z ds] := by simp [DD.toL, DD.toD, h]
theorem toRc {r : List DD} {s : List (List DD)} {x : List D} {y : List (List D)} (h : DD.toL r = some x) (h' : DD.toR s = some y) : DD.toR (r :: s) = some (x :: y) := by simp [DD.toR, h, h']
theorem toRm {α : Type} {f : α → List DD} {g : α → List D} (h : ∀ x, DD.toL (f x) = some (g x)) : ∀ l : List α, DD.toR (l.map f) = some (l.map g)
 | [] => by simp [DD.toR]
 | x :: r => toRc (h x) (toRm h r)
section
variable (V : View)
def noSl : Ty V.ι → Bool
 | .st i => V.flat i
 | .sl _ => false
 | _ => true
def partO (e : Ty V.ι) (ys : List (den V.N e)) : TO V.N := match noSl V e with
 | true => .vec (V.tid e) e ys
 | false => .dvec (V.tid e) e ys
def takeT (b : Nat) : Nat → List (Leaf V.N) → List (TV V.N) × List (Nat × TO V.N)
 | _, [] => ([], [])
 | j, l :: r => match l with
  | ⟨.sl e, ys⟩ => (.vh (subN b j) :: (takeT b (j + 1) r).1, (subN b j, partO V e ys) :: (takeT b (j + 1) r).2)
  | ⟨t, x⟩ => (.lf t x :: (takeT b (j + 1) r).1, (takeT b (j + 1) r).2)
def nin (n : Nat) : List Nat → Bool
 | [] => true
 | k :: r => !Nat.beq k n && nin n r
def distN : List Nat → Bool
 | [] => true
 | k :: r => nin k r && distN r
def isNil {α : Type} : List α → Bool
 | [] => true
 | _ :: _ => false
def pickV (ag : Bool) (ot : Option (Ty V.ι)) (vs : List (TV V.N)) : Option (TV V.N) := match ag with
 | true => some (mkV V true ot vs)
 | false => match vs with
  | [v] => some v
  | _ => none
variable (P : Program) (nm : Nat → Nat)
def loadK {A : Type} (t : TypeId) (ag : Bool) (sz n s i off d : Nat) (te : TypeId) (e : Ty V.ι) (xs : List (Option (den V.N e))) (y : den V.N e) (k : TE V.N → Option A) : Option A :=
 if s = tsz V.sz e ∧ off + loadW ag sz ≤ s then match takeT V (nm d) off (((rcells V e y).drop off).take (loadW ag sz)) with
  | (vs, os) => match pickV V ag (V.ty t) vs, distN (os.map (·.1)) with
   | some v, true => match isNil os with
    | true => k { val := v, acc := [n] }
    | false => k { val := v, acc := [n], upd := (n, .pvec te e (xs.set i none)) :: os, new := os.map (·.1) }
   | _, _ => none
 else none
def tloadD {A : Type} (t : TypeId) (x : Operand) (dst : Option Tmp) (S : TS V.N) (k : TE V.N → Option A) : Option A := match tyLoad P t, tev S x, dst with
 | some (ag, sz), .ep n s i off, some d => match S.own? n with
  | some (.dvec te e ys) => ys[i]? >>= fun y => loadK V nm t ag sz n s i off d te e (ys.map some) y k
  | some (.pvec te e xs) => xs[i]? >>= fun ox => ox >>= fun y => loadK V nm t ag sz n s i off d te e xs y k
  | _ => none
 | _, _, _ => none
def give1 (S : TS V.N) : Ty V.ι → TV V.N → Option (Leaf V.N × Option Nat)
 | .sl e, .vh n => match S.own? n with
  | some (.vec te e' xs) => if te = V.tid e' ∧ e' = e ∧ noSl V e' = true then some (⟨.sl e', xs⟩, some n) else none
  | some (.dvec te e' ys) => if te = V.tid e' ∧ e' = e then some (⟨.sl e', ys⟩, some n) else none
  | _ => none
 | .sl e, .raw (.slice none 0 0) => some (⟨.sl e, []⟩, none)
 | .sl _, _ => none
 | t, .lf t' x => if t' = t then some (⟨t', x⟩, none) else none
 | _, _ => none
def giveT (S : TS V.N) : List (Ty V.ι) → List (TV V.N) → Option (List (Leaf V.N) × List (Option Nat))
 | [], [] => some ([], [])
 | t :: ts, v :: vs => match give1 V S t v, giveT S ts vs with
  | some (l, n), some (ls, ns) => some (l :: ls, n :: ns)
  | _, _ => none
 | _, _ => none
def cellTys : Ty V.ι → List (Ty V.ι)
 | .st i => V.tys i
 | t => [t]
def storeK {A : Type} (s sz n : Nat) (e : Ty V.ι) (cs : List (TV V.N)) (S : TS V.N) (k : den V.N e → List Nat → Option A) : Option A :=
 if s = tsz V.sz e ∧ sz = s ∧ cs.length = s ∧ cs.all TV.one = true then match giveT V S (cellTys V e) cs with
  | some (ls, ns) => match ofLeaves V e ls with
   | some y => match distN (optL ns) && nin n (optL ns) with
    | true => k y (optL ns)
    | false => none
   | none => none
  | none => none
 else none
def goneL (S : TS V.N) (ns : List Nat) : List (Nat × TO V.N) := ns.map fun m => (m, .gone (S.len m))
def tstoreD {A : Type} (t : TypeId) (x y : Operand) (S : TS V.N) (k : TE V.N → Option A) : Option A := match tyLoad P t, tev S x, TV.cells V (tev S y) with
 | some (_, sz), .ep n s i 0, some cs => match S.own? n with
  | some (.dvec te e ys) => ys[i]? >>= fun _ => storeK V s sz n e cs S fun y ns => k { val := .junk, acc := n :: ns, upd := (n, .dvec te e (ys.set i y)) :: goneL V S ns }
  | some (.pvec te e xs) => xs[i]? >>= fun _ => storeK V s sz n e cs S fun y ns => allS (xs.set i (some y)) >>= fun ys => k { val := .junk, acc := n :: ns, upd := (n, .dvec te e ys) :: goneL V S ns }
  | _ => none
 | _, _, _ => none
def tbuildD {A : Type} (t : TypeId) (len : Nat) (parts : List (Nat × Operand)) (dst : Option Tmp) (S : TS V.N) (k : TE V.N → Option A) : Option A := match parts, dst, elemTy P t, V.ty t with
 | [(0, x)], some d, some (te, sz, _), some (.sl e) => match TV.cells V (tev S x) with
  | some cs => if len = 1 ∧ sz = tsz V.sz e ∧ sz ≤ 16777216 ∧ cs.length = sz then match giveT V S (cellTys V e) cs with
    | some (ls, ns) => match ofLeaves V e ls with
     | some y => match distN (optL ns) with
      | true => k { val := .vh (nm d), acc := optL ns, upd := (nm d, .dvec te e [y]) :: goneL V S (optL ns), new := [nm d] }
      | false => none
     | none => none
    | none => none
   else none
  | none => none
 | _, _, _, _ => none
def tappD {A : Type} (args : List (TV V.N)) (tys : List TypeId) (dst : Option Tmp) (S : TS V.N) (k : TE V.N → Option A) : Option A := match args, tys, dst with
 | [x, .vh n2], [t, t'], some d => match elemTy P t, S.own? n2 with
  | some (te, sz, bytes), some (.dvec te2 e ys) => if t = t' ∧ te = te2 ∧ sz = tsz V.sz e ∧ bytes ≤ 32768 ∧ ¬ n2 = nm d then match x with
    | .vh n => if ¬ n = nm d ∧ ¬ n = n2 then match S.own? n with
      | some (.dvec te1 e1 xs) => if h : e = e1 then
        if te1 = te then
         if xs.length + ys.length ≤ most then k { val := .vh (nm d), acc := [n, n2], upd := [(nm d, .dvec te e1 (xs ++ h ▸ ys)), (n, .gone (S.len n)), (n2, .gone (S.len n2))], new := [nm d] } else none
        else none
       else none
      | some (.pvec te1 e1 xs) => if h : e = e1 then
        if te1 = te then
         if xs.length + ys.length ≤ most then k { val := .vh (nm d), acc := [n, n2], upd := [(nm d, .pvec te e1 (xs ++ h ▸ ys.map some)), (n, .gone (S.len n)), (n2, .gone (S.len n2))], new := [nm d] } else none
        else none
       else none
      | _ => none
     else none
    | .raw (.slice none 0 0) => if ys.length ≤ most then k { val := .vh (nm d), acc := [n2], upd := [(nm d, .dvec te e ys), (n2, .gone (S.len n2))], new := [nm d] } else none
    | _ => none
   else none
  | _, _ => none
 | _, _, _ => none
def tidxD {A : Type} (t : TypeId) (x i : Operand) (S : TS V.N) (k : TE V.N → Option A) : Option A := match elemTy P t, tev S x, tev S i with
 | some (_, sz, _), .vh m, .lf (.int _) n => match S.own? m with
  | some (.dvec _ _ xs) => if 0 ≤ n ∧ n < xs.length then k { val := .ep m sz n.toNat 0, acc := [m] } else none
  | some (.pvec _ _ xs) => if 0 ≤ n ∧ n < xs.length then k { val := .ep m sz n.toNat 0, acc := [m] } else none
  | _ => none
 | _, _, _ => none
def tcutD {A : Type} (t : TypeId) (x : Operand) (lo hi mx : Option Operand) (S : TS V.N) (k : TE V.N → Option A) : Option A := match mx, elemTy P t, tev S x with
 | none, some (_, sz, _), .vh n => match S.own? n with
  | some (.vec _ e xs) => match bndV V S lo 0, bndV V S hi xs.length with
   | some l, some h => if (sz = tsz V.sz e ∧ 0 < xs.length) ∧ 0 ≤ l ∧ l ≤ h ∧ h ≤ xs.length then k { val := .sv n sz l.toNat (h.toNat - l.toNat), acc := [n] } else none
   | _, _ => none
  | _ => none
 | _, _, _ => none
def tjoinD {A : Type} (args : List (TV V.N)) (tys : List TypeId) (dst : Option Tmp) (S : TS V.N) (k : TE V.N → Option A) : Option A := match args, tys, dst with
 | [.sv n sz lo i, .sv n2 sz2 j len], [t, t'], some d => match elemTy P t, S.own? n with
  | some (te, sz', _), some (.vec te1 e xs) => if ((t = t' ∧ te = te1) ∧ (sz' = tsz V.sz e ∧ sz = sz') ∧ (sz2 = sz' ∧ n2 = n)) ∧ (lo = 0 ∧ len = xs.length - j) ∧ (i ≤ j ∧ j ≤ xs.length) then
    k { val := .vh (nm d), acc := [n], upd := [(nm d, .vec te1 e (xs.take i ++ xs.drop j)), (n, .gone (S.len n))], new := [nm d] }
   else none
  | _, _ => none
 | _, _, _ => none
def nilsT (b : Nat) : Nat → List (Ty V.ι) → List Value → List (TV V.N) × List (Nat × TO V.N)
 | j, t :: ts, z :: zs => match t, z with
  | .sl e, .slice none 0 0 => (.vh (subN b j) :: (nilsT b (j + 1) ts zs).1, (subN b j, partO V e []) :: (nilsT b (j + 1) ts zs).2)
  | _, z => (tvc z :: (nilsT b (j + 1) ts zs).1, (nilsT b (j + 1) ts zs).2)
 | _, _, zs => (zs.map tvc, [])
def tnilsD {A : Type} (t : TypeId) (parts : List (Nat × Operand)) (dst : Option Tmp) (k : TE V.N → Option A) : Option A := match parts, zeroD P t, places P t with
 | [], some z, some _ => match V.ty t, dst with
  | some (.st i), some d => match z.all isCell, nilsT V d 0 (V.tys i) z with
   | true, (vs, os) => match distN (os.map (·.1)) with
    | true => k { val := .agg vs, acc := [], upd := os, new := os.map (·.1) }
    | false => none
   | false, _ => none
  | _, _ => none
 | _, _, _ => none
def isD : Option (TO V.N) → Bool
 | some (.dvec ..) => true
 | some (.pvec ..) => true
 | _ => false
def deepOp (pre : Nat → Bool) (o : Oper) (S : TS V.N) : Bool := match o.op with
 | .load _ x => match tev S x with
  | .ep n _ _ _ => isD V (S.own? n)
  | _ => false
 | .store _ x _ => match tev S x with
  | .ep n _ _ _ => isD V (S.own? n)
  | _ => false
 | .indexAddr _ x _ => match tev S x with
  | .vh n => isD V (S.own? n)
  | _ => false
 | .buildSlice _ _ _ => match o.dst with
  | some d => pre (1000000 + d)
  | none => false
 | .call c => match c.callee with
  | .builtin .append => match c.args.toList with
   | [_, y] => match tev S y with
    | .vh n => isD V (S.own? n)
    | .sv .. => true
    | _ => false
   | _ => false
  | _ => false
 | .slice _ _ _ _ _ => match o.dst with
  | some d => pre (3000000 + d)
  | none => false
 | .build _ parts => match parts.toList, o.dst with
  | [], some d => pre (1000000 + d)
  | _, _ => false
 | _ => false
def tdeep {A : Type} (o : Oper) (S : TS V.N) (k : TE V.N → Option A) : Option A := match o.op with
 | .load t x => tloadD V P nm t x o.dst S k
 | .store t x y => tstoreD V P t x y S k
 | .indexAddr t x i => tidxD V P t x i S k
 | .buildSlice t len parts => tbuildD V P nm t len parts.toList o.dst S k
 | .call c => match c.callee with
  | .builtin .append => match c.args.toList.map (tev S) with
   | [_, .sv ..] => tjoinD V P nm (c.args.toList.map (tev S)) c.argTypes.toList o.dst S k
   | _ => tappD V P nm (c.args.toList.map (tev S)) c.argTypes.toList o.dst S k
  | _ => none
 | .slice t x lo hi mx => tcutD V P t x lo hi mx S k
 | .build t parts => tnilsD V P t parts.toList o.dst k
 | _ => none
end
section
variable {V : View}
theorem encRD_flat {e : Ty V.ι} (h : noSl V e = true) (y : den V.N e) : encRD V.sz V.enc V.tid V.encd e y = (encR V.sz V.enc e y).map .d := by
 cases e with
 | st i =>
  simp only [encRD, encR]
  rw [V.encd_cells, V.enc_cells, List.map_map]
  refine List.map_congr_left fun l hl => ?_
  have := V.flat_cells i y h l hl
  obtain ⟨t, x⟩ := l
  cases t <;> first | rfl | simp [Ty.isSl] at this
 | sl e => simp [noSl] at h
 | _ => rfl
theorem partO_le (e : Ty V.ι) (ys : List (den V.N e)) : ∃ o, (∀ ω, encO V ω (partO V e ys) = some o) ∧ OLe (.dvec (V.tid e) (tsz V.sz e) (ys.map fun x => encRD V.sz V.enc V.tid V.encd e x)) o := by
 unfold partO
 split
 ·rename_i h
  refine ⟨_, fun _ => rfl, ?_⟩
  have : (ys.map fun x => encRD V.sz V.enc V.tid V.encd e x) = (ys.map fun x => encR V.sz V.enc e x).map fun r => r.map .d := by
   rw [List.map_map]
   exact List.map_congr_left fun x _ => encRD_flat h x
  rw [this]
  exact OLe.d2v
 ·exact ⟨_, fun _ => rfl, OLe.refl _⟩
theorem partO_len (e : Ty V.ι) (ys : List (den V.N e)) : TO.len (some (partO V e ys)) = ys.length := by
 unfold partO
 split <;> rfl
theorem encRD_cells (e : Ty V.ι) (y : den V.N e) : encRD V.sz V.enc V.tid V.encd e y = (rcells V e y).map fun l => encDD V.sz V.enc V.tid V.encd l.t l.x := by
 cases e with
 | st i => simp only [encRD, rcells]; exact V.encd_cells i y
 | sl e => rfl
 | _ => rfl
theorem takeT_sound (b : Nat) : ∀ (ls : List (Leaf V.N)) (j : Nat), ∃ hs os os' ds, takeC (subN b) j (ls.map fun l => encDD V.sz V.enc V.tid V.encd l.t l.x) = some (hs, os, ds) ∧ PLe os os' ∧ (∀ ω, os'.map (fun p => (p.1, some p.2)) = (takeT V b j ls).2.map fun p => (p.1, encO V ω p.2)) ∧
  (∀ ω : Nat → Nat, (∀ p ∈ (takeT V b j ls).2, ω p.1 = TO.len (some p.2)) → hs = encL V ω (takeT V b j ls).1) ∧ ((takeT V b j ls).2 = [] → os = [] ∧ ds = ls.map fun l => encDD V.sz V.enc V.tid V.encd l.t l.x)
 | [], j => ⟨[], [], [], [], rfl, .nil, fun _ => rfl, fun _ _ => rfl, fun _ => ⟨rfl, rfl⟩⟩
 | ⟨t, x⟩ :: r, j => by
  obtain ⟨hs, os, os', ds, h1, h2, h3, h4, h5⟩ := takeT_sound b r (j + 1)
  have other : ∀ (t : Ty V.ι) (x : den V.N t), encDD V.sz V.enc V.tid V.encd t x = .d (encD V.sz V.enc t x) → takeT V b j (⟨t, x⟩ :: r) = (.lf t x :: (takeT V b (j + 1) r).1, (takeT V b (j + 1) r).2) →
    ∃ hs os os' ds, takeC (subN b) j ((⟨t, x⟩ :: r : List (Leaf V.N)).map fun l => encDD V.sz V.enc V.tid V.encd l.t l.x) = some (hs, os, ds) ∧ PLe os os' ∧ (∀ ω, os'.map (fun p => (p.1, some p.2)) = (takeT V b j (⟨t, x⟩ :: r)).2.map fun p => (p.1, encO V ω p.2)) ∧
  (∀ ω : Nat → Nat, (∀ p ∈ (takeT V b j (⟨t, x⟩ :: r)).2, ω p.1 = TO.len (some p.2)) → hs = encL V ω (takeT V b j (⟨t, x⟩ :: r)).1) ∧
    ((takeT V b j (⟨t, x⟩ :: r)).2 = [] → os = [] ∧ ds = (⟨t, x⟩ :: r : List (Leaf V.N)).map fun l => encDD V.sz V.enc V.tid V.encd l.t l.x) := by
    intro t x he ht
    rw [ht]
    refine ⟨.d (encD V.sz V.enc t x) :: hs, os, os', .d (encD V.sz V.enc t x) :: ds, ?_, h2, h3, fun ω hω => ?_, fun hn => ⟨(h5 hn).1, ?_⟩⟩
    ·simp only [List.map_cons, takeC, h1, he]
    ·simp only [encL, encV]
     rw [h4 ω hω]
    ·rw [List.map_cons, (h5 hn).2, he]
  cases t with
  | sl e =>
   obtain ⟨o, o1, o2⟩ := partO_le (V := V) e x
   refine ⟨.vh (subN b j) x.length :: hs, (subN b j, .dvec (V.tid e) (tsz V.sz e) (x.map fun y => encRD V.sz V.enc V.tid V.encd e y)) :: os, (subN b j, o) :: os', .junk :: ds, ?_, .cons o2 h2, fun ω => ?_, fun ω hω => ?_, fun hn => ?_⟩
   ·simp only [List.map_cons, takeC, h1]
    simp only [encDD, List.length_map]
   ·simp only [takeT, List.map_cons, h3 ω, o1]
   ·simp only [takeT, encL, encV] at hω ⊢
    have := hω _ List.mem_cons_self
    simp only at this
    rw [this, partO_len, h4 ω fun p hp => hω p (List.mem_cons_of_mem _ hp)]
   ·simp only [takeT] at hn; cases hn
  | int k => exact other _ x rfl rfl
  | bool => exact other _ x rfl rfl
  | str => exact other _ x rfl rfl
  | st i => exact other _ x rfl rfl
  | mp k v => exact other _ x rfl rfl
  | er => exact other _ x rfl rfl
  | op e => exact other _ x rfl rfl
  | fnc => exact other _ x rfl rfl
theorem nin_iff {n : Nat} : ∀ {l : List Nat}, nin n l = true → n ∉ l
 | [], _ => by simp
 | k :: r, h => by
  simp only [nin, Bool.and_eq_true, Bool.not_eq_true'] at h
  intro hm
  rcases List.mem_cons.1 hm with q | q
  ·subst q; simp at h
  ·exact nin_iff h.2 q
theorem distN_nodup : ∀ {l : List Nat}, distN l = true → l.Nodup
 | [], _ => .nil
 | a :: r, h => by
  simp only [distN, Bool.and_eq_true] at h
  exact List.nodup_cons.2 ⟨nin_iff h.1, distN_nodup h.2⟩
theorem ofLeaves_cells {e : Ty V.ι} {ls : List (Leaf V.N)} {y : den V.N e} (h : ofLeaves V e ls = some y) : rcells V e y = ls := by
 have single : ∀ (t : Ty V.ι) (y : den V.N t) (l : Leaf V.N), (if h : l.t = t then some (h ▸ l.x : den V.N t) else none) = some y → [(⟨t, y⟩ : Leaf V.N)] = [l] := by
  intro t y l h
  split at h
  ·rename_i ht
   obtain ⟨lt, lx⟩ := l
   simp only at ht; subst ht
   simp only [Option.some.injEq] at h
   subst h; rfl
  ·cases h
 cases e with
 | st i => exact V.of_cells _ _ _ h
 | _ =>
  cases ls with
  | nil => simp [ofLeaves] at h
  | cons l r =>
   cases r with
   | nil => exact single _ y l h
   | cons a b => simp [ofLeaves] at h
theorem give1_sound {S : TS V.N} {t : Ty V.ι} {v : TV V.N} {l : Leaf V.N} {n : Option Nat} (h : give1 V S t v = some (l, n)) : GiveW (encS V S).own? (encV V S.len v) (encDD V.sz V.enc V.tid V.encd l.t l.x) n := by
 unfold give1 at h
 split at h
 ·rename_i e n'
  split at h
  ·rename_i te e' xs hn
   have h' := if_some h; clear h
   obtain ⟨⟨h1, h2, hf⟩, h⟩ := h'
   subst h1; subst h2
   simp only [Option.some.injEq, Prod.mk.injEq] at h
   obtain ⟨rfl, rfl⟩ := h
   have := GiveW.v (ω := (encS V S).own?) n' (V.tid e') (tsz V.sz e') _ (own_vec hn)
   simp only [encV, len_vec hn, encDD]
   rw [List.length_map] at this
   have he : (xs.map fun x => encRD V.sz V.enc V.tid V.encd e' x) = (xs.map fun x => encR V.sz V.enc e' x).map fun r => r.map .d := by
    rw [List.map_map]
    exact List.map_congr_left fun x _ => encRD_flat hf x
   rw [he]; exact this
  ·rename_i te e' ys hn
   have h' := if_some h; clear h
   obtain ⟨⟨h1, h2⟩, h⟩ := h'
   subst h1; subst h2
   simp only [Option.some.injEq, Prod.mk.injEq] at h
   obtain ⟨rfl, rfl⟩ := h
   have := GiveW.dv (ω := (encS V S).own?) n' (V.tid e') (tsz V.sz e') _ (own_dvec hn)
   have hl : S.len n' = ys.length := by unfold TS.len; rw [hn]; rfl
   simp only [encV, hl, encDD]
   rw [List.length_map] at this
   exact this
  ·cases h
 ·rename_i e
  simp only [Option.some.injEq, Prod.mk.injEq] at h
  obtain ⟨rfl, rfl⟩ := h
  exact .nil _ _
 ·cases h
 ·rename_i t' x hne
  have h' := if_some h; clear h
  obtain ⟨h1, h⟩ := h'
  subst h1
  simp only [Option.some.injEq, Prod.mk.injEq] at h
  obtain ⟨rfl, rfl⟩ := h
  have : encDD V.sz V.enc V.tid V.encd t' x = .d (encD V.sz V.enc t' x) := by
   cases t' <;> first | rfl | simp_all
  rw [this]
  exact .d _
 ·cases h
theorem giveT_sound {S : TS V.N} : ∀ {ts : List (Ty V.ι)} {vs : List (TV V.N)} {ls : List (Leaf V.N)} {ns : List (Option Nat)}, giveT V S ts vs = some (ls, ns) →
  ∃ l : List (H × DD × Option Nat), (l.map fun p => p.1) = encL V S.len vs ∧ (l.map fun p => p.2.1) = (ls.map fun l => encDD V.sz V.enc V.tid V.encd l.t l.x) ∧ (l.map fun p => p.2.2) = ns ∧ ∀ p ∈ l, GiveW (encS V S).own? p.1 p.2.1 p.2.2
 | [], [], ls, ns, h => by
  simp only [giveT, Option.some.injEq, Prod.mk.injEq] at h
  obtain ⟨rfl, rfl⟩ := h
  exact ⟨[], rfl, rfl, rfl, fun p hp => by cases hp⟩
 | [], _ :: _, ls, ns, h => by simp [giveT] at h
 | _ :: _, [], ls, ns, h => by simp [giveT] at h
 | t :: ts, v :: vs, ls, ns, h => by
  simp only [giveT] at h
  split at h
  ·rename_i l n ls' ns' h1 h2
   simp only [Option.some.injEq, Prod.mk.injEq] at h
   obtain ⟨rfl, rfl⟩ := h
   obtain ⟨L, a1, a2, a3, a4⟩ := giveT_sound h2
   refine ⟨(encV V S.len v, encDD V.sz V.enc V.tid V.encd l.t l.x, n) :: L, by simp [encL, a1], by simp [a2], by simp [a3], fun p hp => ?_⟩
   rcases List.mem_cons.1 hp with q | q
   ·subst q; exact give1_sound h1
   ·exact a4 p q
  ·cases h
theorem encDD_one {l : Leaf V.N} (h : l.t.cell = true) : DD.one (encDD V.sz V.enc V.tid V.encd l.t l.x) = true := by
 obtain ⟨t, x⟩ := l
 have := encD_cell (l := ⟨t, x⟩) h
 cases t <;> first | rfl | (simp [Ty.cell] at h; done) | simpa [encDD, DD.one, H.one] using this
theorem encRD_one (e : Ty V.ι) (y : den V.N e) : (encRD V.sz V.enc V.tid V.encd e y).all DD.one = true := by
 rw [encRD_cells, List.all_map, List.all_eq_true]
 exact fun l hl => encDD_one (rcells_cell e y l hl)
theorem dlen {S : TS V.N} {n : Nat} {te : TypeId} {e : Ty V.ι} {xs : List (den V.N e)} (h : S.own? n = some (.dvec te e xs)) : S.len n = xs.length := by unfold TS.len; rw [h]; rfl
theorem plen {S : TS V.N} {n : Nat} {te : TypeId} {e : Ty V.ι} {xs : List (Option (den V.N e))} (h : S.own? n = some (.pvec te e xs)) : S.len n = xs.length := by unfold TS.len; rw [h]; rfl
theorem rows_some {e : Ty V.ι} (ys : List (den V.N e)) : ((ys.map some).map fun x => rowD V e x) = ys.map fun x => encRD V.sz V.enc V.tid V.encd e x := by
 rw [List.map_map]; rfl
theorem good_gone {S : TS V.N} {ns : List Nat} {m : Nat} {o : TO V.N} (h : gt (goneL V S ns) m = some o) : TO.len (some o) = S.len m := by
 obtain ⟨k, _, hk⟩ := List.mem_map.1 (gt_mem h)
 simp only [Prod.mk.injEq] at hk
 obtain ⟨rfl, rfl⟩ := hk
 rfl
theorem goneL_enc (ω : Nat → Nat) (S : TS V.N) (ns : List Nat) : (goneL V S ns).map (fun p => (p.1, encO V ω p.2)) = ns.map fun n => (n, none) := by
 unfold goneL
 rw [List.map_map]
 rfl
theorem gt_nodup {α : Type} : ∀ {l : List (Nat × α)} {n : Nat} {x : α}, (l.map (·.1)).Nodup → (n, x) ∈ l → gt l n = some x
 | [], _, _, _, h => by cases h
 | (k, y) :: r, n, x, hn, h => by
  rw [List.map_cons, List.nodup_cons] at hn
  rw [gt_cons]
  rcases List.mem_cons.1 h with q | q
  ·cases q; rw [if_pos rfl]
  ·rw [if_neg fun e => hn.1 (by rw [e]; exact List.mem_map.2 ⟨_, q, rfl⟩)]
   exact gt_nodup hn.2 q
theorem mem_map_fst {α : Type} {l : List (Nat × α)} {n : Nat} {x : α} (h : (n, x) ∈ l) : n ∈ l.map (·.1) := List.mem_map.2 ⟨_, h, rfl⟩
section
variable {P : Program} {nm : Nat → Nat} {o : Oper} {S : TS V.N} {A : Type} {k : TE V.N → Option A} {r : A}
def OpD (P : Program) (nm : Nat → Nat) (o : Oper) (S : TS V.N) (k : TE V.N → Option A) (r : A) : Prop :=
 ∃ te, k te = some r ∧ good S te ∧ ∃ e', DEff P nm o (Go.Awp.ev (encS V S)) (encS V S).own? e' ∧ ELe true e' (encE (S.app o.dst te).len te)
theorem loadK_ok {t : TypeId} {x : Operand} {ag : Bool} {sz n s i off d : Nat} {te : TypeId} {e : Ty V.ι} {xs : List (Option (den V.N e))} {y : den V.N e} (hf : ∀ te, k te = some r → ∀ d ∈ te.new, S.fresh d = true) (ho : o.op = .load t x) (hdst : o.dst = some d)
  (ht : tyLoad P t = some (ag, sz)) (hx : tev S x = .ep n s i off) (hn : (encS V S).own? n = some (.dvec te (tsz V.sz e) (xs.map fun x => rowD V e x))) (hsome : S.own? n ≠ none) (hln : S.len n = xs.length) (hox : xs[i]? = some (some y))
  (h : loadK V nm t ag sz n s i off d te e xs y k = some r) : OpD P nm o S k r := by
 unfold loadK at h
 have h' := if_some h; clear h
 obtain ⟨⟨hse, hfit⟩, h⟩ := h'
 generalize hT : takeT V (nm d) off (((rcells V e y).drop off).take (loadW ag sz)) = T at h
 obtain ⟨vs, os⟩ := T
 simp only at h
 obtain ⟨hh, hos, hos', ds, b1, b2, b3, b4, b5⟩ := takeT_sound (V := V) (nm d) (((rcells V e y).drop off).take (loadW ag sz)) off
 rw [hT] at b3 b4 b5
 simp only at b3 b4 b5
 have hrl := rcells_len e y
 let all := (rcells V e y).map fun l => encDD V.sz V.enc V.tid V.encd l.t l.x
 have hrow : (xs.map fun x => rowD V e x)[i]? = some all := by
  rw [List.getElem?_map, hox]
  simp only [Option.map_some, rowD, all]
  rw [encRD_cells]
 have hmid : (all.drop off).take (loadW ag sz) = (((rcells V e y).drop off).take (loadW ag sz)).map fun l => encDD V.sz V.enc V.tid V.encd l.t l.x := by
  simp only [all, List.map_drop, List.map_take]
 have hal : all.length = s := by simp only [all]; rw [List.length_map, hrl, hse]
 have hsn : (encS V S).own? n = some (.dvec te s (xs.map fun x => rowD V e x)) := by rw [hn, hse]
 have hxe : Go.Awp.ev (encS V S) x = .ep n s i off := by rw [ev_enc, hx]; rfl
 have hnames : os.map (·.1) = hos'.map (·.1) := by
  have := congrArg (List.map (·.1)) (b3 fun _ => 0)
  rw [List.map_map, List.map_map] at this
  exact this.symm
 split at h
 ·rename_i v hv hdi
  have hdi := distN_nodup hdi
  have hval : ∀ ω : Nat → Nat, hh = encL V ω vs → (ag = true ∧ encV V ω v = mkAgg hh ∨ ag = false ∧ hh = [encV V ω v]) := by
   intro ω hω
   cases ag with
   | true =>
    simp only [pickV, Option.some.injEq] at hv
    subst hv
    exact .inl ⟨rfl, by rw [hω]; exact (mkV_sound.2 rfl).symm⟩
   | false =>
    simp only [pickV] at hv
    split at hv
    ·rename_i v0
     cases hv
     exact .inr ⟨rfl, by rw [hω]; rfl⟩
    ·cases hv
  cases hni : isNil os with
  | true =>
   rw [hni] at h
   simp only at h
   have hos0 : os = [] := by cases os with | nil => rfl | cons a b => cases hni
   subst hos0
   obtain ⟨q1, q2⟩ := b5 rfl
   subst q1
   rw [← hmid] at q2
   subst q2
   refine ⟨_, h, good_val S v [n], _, .load0 (val := encV V S.len v) ho hdst ht hxe hsn hrow hal hfit (by rw [← hmid] at b1; exact b1) (hval _ (b4 _ fun p hp => by cases hp)), ele_eq rfl⟩
  | false =>
   rw [hni] at h
   simp only at h
   have hfr := hf _ h
   have hlen : ∀ p ∈ os, (S.app o.dst { val := v, acc := [n], upd := (n, .pvec te e (xs.set i none)) :: os, new := os.map (·.1) }).len p.1 = TO.len (some p.2) := by
    intro p hp
    rw [app_len]
    have hpn : n ≠ p.1 := fun e1 => by
     have := hfr p.1 (List.mem_map_of_mem hp)
     unfold TS.fresh at this
     simp only [Bool.and_eq_true] at this
     have h9 := this.1.1
     rw [← e1] at h9
     cases hq : S.own? n with
     | none => exact hsome hq
     | some o9 => rw [hq] at h9; cases h9
    simp only [gt_cons, if_neg hpn]
    have : gt os p.1 = some p.2 := gt_nodup hdi hp
    rw [this]
   refine ⟨_, h, fun m p hm => ?_, _, .load (val := encV V (S.app o.dst { val := v, acc := [n], upd := (n, .pvec te e (xs.set i none)) :: os, new := os.map (·.1) }).len v) ho hdst ht hxe hsn hrow hal hfit (by rw [← hmid] at b1; exact b1) (hval _ (b4 _ hlen)) b2 (by rw [← hnames]; exact hdi),
    ele_upd rfl hnames.symm ?_ rfl⟩
   ·simp only [gt_cons] at hm
    by_cases hnm : n = m
    ·subst hnm
     rw [if_pos rfl] at hm; cases hm
     right; rw [hln]; simp [TO.len]
    ·rw [if_neg hnm] at hm
     exact .inl (mem_map_fst (gt_mem hm))
   ·rw [List.map_cons]
    refine congr (congrArg List.cons ?_) (b3 _)
    simp only [encO, List.map_set, rowD, hse]
 ·cases h
theorem tload_ok {t : TypeId} {x : Operand} (hf : ∀ te, k te = some r → ∀ d ∈ te.new, S.fresh d = true) (ho : o.op = .load t x) (h : tloadD V P nm t x o.dst S k = some r) : OpD P nm o S k r := by
 unfold tloadD at h
 split at h
 ·rename_i ag sz n s i off d ht hx hdst
  split at h
  ·rename_i te e ys hn
   obtain ⟨y, hy, h2⟩ := some_bind h
   exact loadK_ok hf ho hdst ht hx (by rw [rows_some]; exact own_dvec hn) (by rw [hn]; simp) (by rw [dlen hn, List.length_map]) (by rw [List.getElem?_map, hy]; rfl) h2
  ·rename_i te e xs hn
   obtain ⟨ox, hox, h2⟩ := some_bind h
   obtain ⟨y, hy, h3⟩ := some_bind h2
   exact loadK_ok hf ho hdst ht hx (own_pvec hn) (by rw [hn]; simp) (plen hn) (by rw [hox, hy]) h3
  ·cases h
 ·cases h
theorem storeK_ok {t : TypeId} {x y : Operand} {ag : Bool} {sz n s i : Nat} {te : TypeId} {e : Ty V.ι} {xs : List (Option (den V.N e))} {ox : Option (den V.N e)} {cs : List (TV V.N)} {f : den V.N e → List Nat → Option A} (ho : o.op = .store t x y)
  (ht : tyLoad P t = some (ag, sz)) (hx : tev S x = .ep n s i 0) (hcs : TV.cells V (tev S y) = some cs) (hn : (encS V S).own? n = some (.dvec te (tsz V.sz e) (xs.map fun x => rowD V e x))) (hox : xs[i]? = some ox)
  (h : storeK V s sz n e cs S f = some r) : ∃ y' ns, f y' ns = some r ∧ DEff P nm o (Go.Awp.ev (encS V S)) (encS V S).own? { val := .junk, acc := n :: ns, upd := (n, some (.dvec te (tsz V.sz e) ((xs.set i (some y')).map fun x => rowD V e x))) :: ns.map fun m => (m, none) } := by
 unfold storeK at h
 have h' := if_some h; clear h
 obtain ⟨⟨hse, hss, hcl, hone⟩, h⟩ := h'
 rw [hss] at ht
 split at h
 ·rename_i ls ns hg
  split at h
  ·rename_i y' hy'
   split at h
   ·rename_i hdi
    rw [Bool.and_eq_true] at hdi
    obtain ⟨l, l1, l2, l3, l4⟩ := giveT_sound hg
    have hrc := ofLeaves_cells hy'
    have hll : l.length = s := by
     have := congrArg List.length l1
     rw [List.length_map, encL_len] at this; omega
    have hrow : (xs.map fun x => rowD V e x)[i]? = some (rowD V e ox) := by rw [List.getElem?_map, hox]; rfl
    refine ⟨y', optL ns, h, ?_⟩
    have := DEff.store (ρ := Go.Awp.ev (encS V S)) (ω := (encS V S).own?) (nm := nm) (l := l) ho ht (by rw [ev_enc, hx]; rfl) (by rw [hn, hse]) hrow (by rw [ev_enc, l1]; exact cells_sound hcs) hll (by rw [l1]; exact all_one_sound hone) l4 (by rw [l3]; exact distN_nodup hdi.1) (by rw [l3]; exact nin_iff hdi.2)
    rw [l2, l3] at this
    have hq : rowD V e (some y') = ls.map fun l => encDD V.sz V.enc V.tid V.encd l.t l.x := by
     simp only [rowD]
     rw [encRD_cells, hrc]
    rw [List.map_set, hq, ← hse]
    exact this
   ·cases h
  ·cases h
 ·cases h
theorem tstore_ok {t : TypeId} {x y : Operand} (ho : o.op = .store t x y) (h : tstoreD V P t x y S k = some r) : OpD P nm o S k r := by
 have fin : ∀ (n : Nat) (te : TypeId) (e : Ty V.ι) (ys : List (den V.N e)) (ns : List Nat), S.len n = ys.length → k { val := .junk, acc := n :: ns, upd := (n, .dvec te e ys) :: goneL V S ns } = some r →
   DEff P nm o (Go.Awp.ev (encS V S)) (encS V S).own? { val := .junk, acc := n :: ns, upd := (n, some (.dvec te (tsz V.sz e) (ys.map fun x => encRD V.sz V.enc V.tid V.encd e x))) :: ns.map fun m => (m, none) } → OpD P nm o S k r := by
  intro n te e ys ns hl h hs'
  refine ⟨_, h, fun m p hm => ?_, _, hs', ele_upd rfl rfl ?_ rfl⟩
  ·simp only [gt_cons] at hm
   by_cases hnm : n = m
   ·subst hnm
    rw [if_pos rfl] at hm; cases hm
    right; rw [hl]; rfl
   ·rw [if_neg hnm] at hm
    exact .inr (good_gone hm)
  ·rw [List.map_cons, goneL_enc]; rfl
 unfold tstoreD at h
 split at h
 ·rename_i ag sz n s i cs ht hx hcs
  split at h
  ·rename_i te e ys hn
   obtain ⟨y0, hy0, h2⟩ := some_bind h
   obtain ⟨y', ns, h3, h4⟩ := storeK_ok (nm := nm) (xs := ys.map some) ho ht hx hcs (by rw [rows_some]; exact own_dvec hn) (by rw [List.getElem?_map, hy0]; rfl) h2
   refine fin n te e _ ns (by rw [dlen hn, List.length_set]) h3 ?_
   rw [← rows_some, List.map_set]
   exact h4
  ·rename_i te e xs hn
   obtain ⟨ox, hox, h2⟩ := some_bind h
   obtain ⟨y', ns, h3, h4⟩ := storeK_ok (nm := nm) ho ht hx hcs (own_pvec hn) hox h2
   obtain ⟨ys, hys, h5⟩ := some_bind h3
   have hq := allS_eq hys
   refine fin n te e ys ns ?_ h5 ?_
   ·rw [plen hn]
    have := congrArg List.length hq
    rw [List.length_set, List.length_map] at this; exact this
   ·rw [← rows_some, ← hq]; exact h4
  ·cases h
 ·cases h
theorem tbuild_ok {t : TypeId} {len : Nat} {parts : Array (Nat × Operand)} (ho : o.op = .buildSlice t len parts) (h : tbuildD V P nm t len parts.toList o.dst S k = some r) : OpD P nm o S k r := by
 unfold tbuildD at h
 split at h
 ·rename_i x d te sz by_ e hparts hdst ht hty
  split at h
  ·rename_i cs hcs
   have h' := if_some h; clear h
   obtain ⟨⟨h0, hse, hsm, hcl⟩, h⟩ := h'
   subst h0
   split at h
   ·rename_i ls ns hg
    split at h
    ·rename_i y' hy'
     split at h
     ·rename_i hdi
      obtain ⟨l, l1, l2, l3, l4⟩ := giveT_sound hg
      have hrc := ofLeaves_cells hy'
      have hll : l.length = sz := by
       have := congrArg List.length l1
       rw [List.length_map, encL_len] at this; omega
      have hpa : parts = #[(0, x)] := by rw [← Array.toList_inj]; exact hparts
      subst hpa
      have := DEff.build (ρ := Go.Awp.ev (encS V S)) (ω := (encS V S).own?) (nm := nm) (l := l) ho hdst ht hsm (by rw [ev_enc, l1]; exact cells_sound hcs) hll l4 (by rw [l3]; exact distN_nodup hdi)
      rw [l2, l3] at this
      refine ⟨_, h, fun m p hm => ?_, _, this, ele_upd ?_ rfl ?_ rfl⟩
      ·simp only [gt_cons] at hm
       by_cases hnm : nm d = m
       ·left; simp [hnm]
       ·rw [if_neg hnm] at hm
        exact .inr (good_gone hm)
      ·simp only [encV]
       rw [app_len]
       simp only [gt_cons, if_true]
       rfl
      ·rw [List.map_cons, goneL_enc]
       have hq : encRD V.sz V.enc V.tid V.encd e y' = ls.map fun l => encDD V.sz V.enc V.tid V.encd l.t l.x := by
        rw [encRD_cells, hrc]
       simp only [encO, List.map_cons, List.map_nil]
       rw [hq, hse]
     ·cases h
    ·cases h
   ·cases h
  ·cases h
 ·cases h
theorem tidx_ok {t : TypeId} {x i : Operand} (ho : o.op = .indexAddr t x i) (h : tidxD V P t x i S k = some r) : OpD P nm o S k r := by
 unfold tidxD at h
 split at h
 ·rename_i te sz by_ m kk n ht hx hi
  split at h
  ·rename_i te' e' xs hm
   have h' := if_some h; clear h
   obtain ⟨⟨h0, h1⟩, h⟩ := h'
   exact ⟨_, h, good_val S _ _, _, .index ho ht (by rw [ev_enc, hx]; rfl) (by rw [ev_enc, hi]; rfl) (own_dvec hm) h0 (by rw [dlen hm]; exact h1), ele_eq rfl⟩
  ·rename_i te' e' xs hm
   have h' := if_some h; clear h
   obtain ⟨⟨h0, h1⟩, h⟩ := h'
   exact ⟨_, h, good_val S _ _, _, .index ho ht (by rw [ev_enc, hx]; rfl) (by rw [ev_enc, hi]; rfl) (own_pvec hm) h0 (by rw [plen hm]; exact h1), ele_eq rfl⟩
  ·cases h
 ·cases h
theorem tapp_ok {c : Call} (ho : o.op = .call c) (hc : c.callee = .builtin .append) (h : tappD V P nm (c.args.toList.map (tev S)) c.argTypes.toList o.dst S k = some r) : OpD P nm o S k r := by
 unfold tappD at h
 split at h
 ·rename_i x n2 t t' d hargs htys hdst
  split at h
  ·rename_i te sz bytes te2 e ys ht hn2
   have h' := if_some h; clear h
   obtain ⟨⟨h1, h2, hse, hby, hnd⟩, h⟩ := h'
   subst h1; subst h2
   obtain ⟨p, q, hpq, hpx, hqx⟩ : ∃ p q, c.args.toList = [p, q] ∧ tev S p = x ∧ tev S q = .vh n2 := by
    match hcl : c.args.toList, hargs with
    | [p, q], hargs => simp at hargs; exact ⟨p, q, rfl, hargs.1, hargs.2⟩
    | [], hargs => simp at hargs
    | [_], hargs => simp at hargs
    | _ :: _ :: _ :: _, hargs => simp at hargs
   have hca : c.args = #[p, q] := by rw [← Array.toList_inj]; exact hpq
   have hct : c.argTypes = #[t, t] := by rw [← Array.toList_inj]; exact htys
   have hqe : Go.Awp.ev (encS V S) q = .vh n2 (ys.map fun x => encRD V.sz V.enc V.tid V.encd e x).length := by
    rw [ev_enc, hqx]; simp only [encV]; rw [dlen hn2]; simp
   have hone : (ys.map fun x => encRD V.sz V.enc V.tid V.encd e x).flatten.all DD.one = true := by
    rw [List.all_flatten, List.all_map, List.all_eq_true]
    intro y _
    exact encRD_one e y
   have hown2 : (encS V S).own? n2 = some (.dvec te sz (ys.map fun x => encRD V.sz V.enc V.tid V.encd e x)) := by rw [own_dvec hn2, hse]
   have good2 : ∀ (n : Nat) (o1 : TO V.N) (m : Nat) (p : TO V.N), gt [(nm d, o1), (n, .gone (S.len n)), (n2, .gone (S.len n2))] m = some p → m ∈ [nm d] ∨ TO.len (some p) = S.len m := by
    intro n o1 m p hm
    simp only [gt_cons] at hm
    by_cases e1 : nm d = m
    ·left; simp [e1]
    ·rw [if_neg e1] at hm
     right
     by_cases e2 : n = m
     ·rw [if_pos e2] at hm; cases hm; subst e2; rfl
     ·rw [if_neg e2] at hm
      by_cases e3 : n2 = m
      ·rw [if_pos e3] at hm; cases hm; subst e3; rfl
      ·rw [if_neg e3] at hm; simp [gt] at hm
   have two : ∀ (n : Nat) (xs : List (Option (den V.N e))) (o1 : TO V.N), tev S p = .vh n → ¬ n = n2 → S.len n = xs.length → (encS V S).own? n = some (.dvec te sz (xs.map fun x => rowD V e x)) → TO.len (some o1) = xs.length + ys.length →
     (∀ ω, encO V ω o1 = some (.dvec te sz ((xs.map fun x => rowD V e x) ++ ys.map fun x => encRD V.sz V.enc V.tid V.encd e x))) →
     (if xs.length + ys.length ≤ most then k { val := .vh (nm d), acc := [n, n2], upd := [(nm d, o1), (n, .gone (S.len n)), (n2, .gone (S.len n2))], new := [nm d] } else none) = some r → OpD P nm o S k r := by
    intro n xs o1 hp hn12 hln hown hlo henc h
    have h' := if_some h; clear h
    obtain ⟨hle, h⟩ := h'
    have hby' : ((xs.map fun x => rowD V e x).length + (ys.map fun x => encRD V.sz V.enc V.tid V.encd e x).length) * bytes ≤ 140737488355328 := by
     simp only [List.length_map, most] at hle ⊢
     have : (xs.length + ys.length) * bytes ≤ 4294967296 * 32768 := Nat.mul_le_mul hle hby
     omega
    refine ⟨_, h, fun m p hm => good2 n o1 m p hm, _, .append (nm := nm) (rows := xs.map fun x => rowD V e x) (ns := [n, n2]) ho hc hca hct hdst ht (.inl ⟨n, by rw [ev_enc, hp]; simp only [encV]; rw [hln]; simp, hown, hn12, rfl⟩) hqe hown2 hone hby' (by simp only [List.length_map, most] at hle ⊢; omega), ele_upd ?_ rfl ?_ rfl⟩
    ·simp only [encV]
     rw [app_len]
     simp only [gt_cons, if_true]
     rw [hlo, List.length_map, List.length_map]
    ·simp only [List.map_cons, List.map_nil, henc]
     rfl
   split at h
   ·rename_i n
    have h' := if_some h; clear h
    obtain ⟨⟨hnn, hn12⟩, h⟩ := h'
    split at h
    ·rename_i te1 e1 xs hn
     split at h
     ·rename_i he
      subst he
      have h' := if_some h; clear h
      obtain ⟨h3, h⟩ := h'
      subst h3
      refine two n (xs.map some) (.dvec te1 e (xs ++ ys)) hpx hn12 (by rw [dlen hn, List.length_map]) (by rw [rows_some, own_dvec hn, hse]) (by simp [TO.len]) (fun ω => ?_) (by rw [List.length_map]; exact h)
      simp only [encO, List.map_append]
      rw [rows_some, hse]
     ·cases h
    ·rename_i te1 e1 xs hn
     split at h
     ·rename_i he
      subst he
      have h' := if_some h; clear h
      obtain ⟨h3, h⟩ := h'
      subst h3
      refine two n xs (.pvec te1 e (xs ++ ys.map some)) hpx hn12 (plen hn) (by rw [own_pvec hn, hse]) (by simp [TO.len]) (fun ω => ?_) h
      simp only [encO, List.map_append]
      rw [rows_some, hse]
     ·cases h
    ·cases h
   ·have h' := if_some h; clear h
    obtain ⟨hle, h⟩ := h'
    have hby' : (([] : List (List DD)).length + (ys.map fun x => encRD V.sz V.enc V.tid V.encd e x).length) * bytes ≤ 140737488355328 := by
     simp only [List.length_map, List.length_nil, most] at hle ⊢
     have : ys.length * bytes ≤ 4294967296 * 32768 := Nat.mul_le_mul hle hby
     rw [Nat.zero_add]; omega
    refine ⟨_, h, fun m p hm => ?_, _, .append (nm := nm) (rows := []) (ns := [n2]) ho hc hca hct hdst ht (.inr ⟨by rw [ev_enc, hpx]; rfl, rfl, rfl⟩) hqe hown2 hone hby' (by simp only [List.length_map, List.length_nil, most] at hle ⊢; omega), ele_upd ?_ rfl ?_ rfl⟩
    ·simp only [gt_cons] at hm
     by_cases e1 : nm d = m
     ·left; simp [e1]
     ·rw [if_neg e1] at hm
      right
      by_cases e3 : n2 = m
      ·rw [if_pos e3] at hm; cases hm; subst e3; rfl
      ·rw [if_neg e3] at hm; simp [gt] at hm
    ·simp only [encV]
     rw [app_len]
     simp only [gt_cons, if_true, TO.len, List.length_map, List.length_nil, Nat.zero_add]
    ·simp only [List.map_cons, List.map_nil, encO, List.nil_append, hse]
   ·cases h
  ·cases h
 ·cases h
theorem tcut_ok {t : TypeId} {x : Operand} {lo hi mx : Option Operand} (ho : o.op = .slice t x lo hi mx) (h : tcutD V P t x lo hi mx S k = some r) : OpD P nm o S k r := by
 unfold tcutD at h
 split at h
 ·rename_i te sz by_ n ht hx
  split at h
  ·rename_i te1 e xs hn
   split at h
   ·rename_i l u hl hu
    have h' := if_some h; clear h
    obtain ⟨⟨⟨hse, hpos⟩, h0, h1, h2⟩, h⟩ := h'
    have hlen : S.len n = xs.length := by unfold TS.len; rw [hn]; rfl
    refine ⟨_, h, good_val S _ _, _, .cut (rows := xs.map fun x => encR V.sz V.enc e x) (e := te1) ho ht (by rw [ev_enc, hx]; simp only [encV]; rw [hlen, List.length_map]) (by rw [own_vec hn, hse]) (fun e0 => ?_) (bnd_sound hl) (by rw [List.length_map]; exact bnd_sound hu) h0 h1 (by rw [List.length_map]; exact h2), ele_eq rfl⟩
    have := congrArg List.length e0
    rw [List.length_map, List.length_nil] at this
    omega
   ·cases h
  ·cases h
 ·cases h
theorem tjoin_ok {c : Call} (ho : o.op = .call c) (hc : c.callee = .builtin .append) (h : tjoinD V P nm (c.args.toList.map (tev S)) c.argTypes.toList o.dst S k = some r) : OpD P nm o S k r := by
 unfold tjoinD at h
 split at h
 ·rename_i n sz lo i n2 sz2 j len t t' d hargs htys hdst
  split at h
  ·rename_i te sz' by_ te1 e xs ht hn
   have h' := if_some h; clear h
   obtain ⟨⟨⟨e1, e2⟩, ⟨e3, e4⟩, e5, e6⟩, ⟨e7, e8⟩, e9, e10⟩ := h'.1
   have h := h'.2
   subst e1; subst e2; subst e4; subst e5; subst e6; subst e7; subst e8
   obtain ⟨p, q, hpq, hpx, hqx⟩ : ∃ p q, c.args.toList = [p, q] ∧ tev S p = .sv n2 sz2 0 i ∧ tev S q = .sv n2 sz2 j (xs.length - j) := by
    match hcl : c.args.toList, hargs with
    | [p, q], hargs => simp at hargs; exact ⟨p, q, rfl, hargs.1, hargs.2⟩
    | [], hargs => simp at hargs
    | [_], hargs => simp at hargs
    | _ :: _ :: _ :: _, hargs => simp at hargs
   have hca : c.args = #[p, q] := by rw [← Array.toList_inj]; exact hpq
   have hct : c.argTypes = #[t, t] := by rw [← Array.toList_inj]; exact htys
   have hone : (xs.map fun x => encR V.sz V.enc e x).all (fun r => r.all D.one) = true := by
    rw [List.all_map, List.all_eq_true]
    intro y _
    exact raw_one
   refine ⟨_, h, fun m o1 hm => ?_, _, .join (nm := nm) (rows := xs.map fun x => encR V.sz V.enc e x) (m := n2) (i := i) (j := j) ho hc hca hct hdst ht (by rw [ev_enc, hpx]; rfl) (by rw [ev_enc, hqx]; simp only [encV, List.length_map]) (by rw [own_vec hn, e3]) e9 (by rw [List.length_map]; exact e10) hone, ele_upd ?_ rfl ?_ rfl⟩
   ·simp only [gt_cons] at hm
    by_cases q1 : nm d = m
    ·left; simp [q1]
    ·rw [if_neg q1] at hm
     right
     by_cases q2 : n2 = m
     ·rw [if_pos q2] at hm; cases hm; subst q2; rfl
     ·rw [if_neg q2] at hm; simp [gt] at hm
   ·simp only [encV]
    rw [app_len]
    simp only [gt_cons, if_true, TO.len, List.length_append, List.length_take, List.length_drop, List.length_map]
    rw [Nat.min_eq_left (by omega)]
   ·simp only [List.map_cons, List.map_nil, encO, List.map_append, List.map_take, List.map_drop, e3]
  ·cases h
 ·cases h
theorem tvc_vals {ω : Nat → Nat} {z : List Value} (hz : z.all isCell = true) : NilL z (encL V ω (z.map tvc)) [] := by
 rw [zero_enc hz]
 induction z with
 | nil => exact .nil
 | cons x z ih => exact .keep x (ih (by simp only [List.all_cons, Bool.and_eq_true] at hz; exact hz.2))
theorem partO_nil (e : Ty V.ι) (ω : Nat → Nat) : ∃ o, encO V ω (partO V e []) = some o ∧ ∃ a s, o = .vec a s [] ∨ o = .dvec a s [] := by
 unfold partO
 split
 ·exact ⟨_, rfl, V.tid e, _, .inl rfl⟩
 ·exact ⟨_, rfl, V.tid e, _, .inr rfl⟩
theorem nilsT_sound (b : Nat) (ω : Nat → Nat) : ∀ (z : List Value) (ts : List (Ty V.ι)) (j : Nat), z.all isCell = true → (∀ p ∈ (nilsT V b j ts z).2, ω p.1 = 0) →
  ∃ os, NilL z (encL V ω (nilsT V b j ts z).1) os ∧ os.map (fun p => (p.1, some p.2)) = (nilsT V b j ts z).2.map (fun p => (p.1, encO V ω p.2))
 | [], ts, j, hz, _ => by
  cases ts <;> exact ⟨[], .nil, rfl⟩
 | x :: z, [], j, hz, _ => ⟨[], by simp only [nilsT]; exact tvc_vals hz, rfl⟩
 | x :: z, t :: ts, j, hz, hω => by
  have hz2 : isCell x = true ∧ z.all isCell = true := by simpa only [List.all_cons, Bool.and_eq_true] using hz
  unfold nilsT at hω ⊢
  split
  ·rename_i e
   obtain ⟨os, h1, h2⟩ := nilsT_sound b ω z ts (j + 1) hz2.2 fun p hp => hω p (List.mem_cons_of_mem _ hp)
   obtain ⟨o, o1, a, s, o2⟩ := partO_nil (V := V) e ω
   refine ⟨(subN b j, o) :: os, ?_, by simp only [List.map_cons, h2, o1]⟩
   simp only [encL, encV]
   have := hω _ List.mem_cons_self
   simp only at this
   rw [this]
   exact .new _ a s o o2 h1
  ·rename_i hno
   have hω' : ∀ p ∈ (nilsT V b (j + 1) ts z).2, ω p.1 = 0 := by
    intro p hp
    refine hω p ?_
    split
    ·exact List.mem_cons_of_mem _ hp
    ·exact hp
   obtain ⟨os, h1, h2⟩ := nilsT_sound b ω z ts (j + 1) hz2.2 hω'
   refine ⟨os, ?_, h2⟩
   simp only [encL]
   have : encV V ω (tvc x) = .d (.v x) := by
    have := zero_enc (V := V) (ω := ω) (z := [x]) (by simp [hz2.1])
    simpa [encL] using this
   rw [this]
   exact .keep x h1
theorem nilsT_len (b : Nat) : ∀ (z : List Value) (ts : List (Ty V.ι)) (j : Nat), ∀ p ∈ (nilsT V b j ts z).2, TO.len (some p.2) = 0
 | [], ts, j, p, hp => by cases ts <;> cases hp
 | x :: z, [], j, p, hp => by cases hp
 | x :: z, t :: ts, j, p, hp => by
  unfold nilsT at hp
  split at hp
  ·rcases List.mem_cons.1 hp with rfl | hp
   ·exact partO_len _ _
   ·exact nilsT_len b z ts (j + 1) p hp
  ·exact nilsT_len b z ts (j + 1) p hp
theorem tnils_ok {t : TypeId} {parts : Array (Nat × Operand)} (ho : o.op = .build t parts) (h : tnilsD V P t parts.toList o.dst k = some r) : OpD P nm o S k r := by
 unfold tnilsD at h
 split at h
 ·rename_i z pl hparts hz hpl
  have hpa : parts = #[] := by rw [← Array.toList_inj]; exact hparts
  subst hpa
  split at h
  ·rename_i i d hty hdst
   split at h
   ·rename_i vs os hall hT
    split at h
    ·rename_i hdi
     have hdi := distN_nodup hdi
     have hlen : ∀ p ∈ os, (S.app o.dst { val := .agg vs, acc := [], upd := os, new := os.map (·.1) }).len p.1 = 0 := by
      intro p hp
      rw [app_len]
      have : gt os p.1 = some p.2 := gt_nodup hdi hp
      simp only [this]
      have h9 := nilsT_len (V := V) d z (V.tys i) 0
      rw [hT] at h9
      exact h9 p hp
     obtain ⟨os', h1, h2⟩ := nilsT_sound (V := V) d (S.app o.dst { val := .agg vs, acc := [], upd := os, new := os.map (·.1) }).len z (V.tys i) 0 hall (by rw [hT]; exact hlen)
     rw [hT] at h1 h2
     simp only at h1 h2
     have hnames : os.map (·.1) = os'.map (·.1) := by
      have := congrArg (List.map (·.1)) h2
      rw [List.map_map, List.map_map] at this
      exact this.symm
     refine ⟨_, h, fun m p hm => .inl (mem_map_fst (gt_mem hm)), _, .nils ho hdst hz hpl h1 (by rw [← hnames]; exact hdi), ele_upd rfl hnames.symm h2 rfl⟩
    ·cases h
   ·cases h
  ·cases h
 ·cases h
theorem tdeep_sound (hf : ∀ te, k te = some r → ∀ d ∈ te.new, S.fresh d = true) (h : tdeep V P nm o S k = some r) : OpD P nm o S k r := by
 unfold tdeep at h
 split at h
 ·rename_i t x ho; exact tload_ok hf ho h
 ·rename_i t x y ho; exact tstore_ok ho h
 ·rename_i t x i ho; exact tidx_ok ho h
 ·rename_i t len parts ho; exact tbuild_ok ho h
 ·rename_i c ho
  split at h
  ·rename_i hc
   split at h
   ·exact tjoin_ok ho hc h
   ·exact tapp_ok ho hc h
  ·cases h
 ·rename_i t x lo hi mx ho; exact tcut_ok ho h
 ·rename_i t parts ho; exact tnils_ok ho h
 ·cases h
end
end
end Go.Tx
end
section
namespace Go.Tx
open Go.Awp
variable [Inhabited GMem]
section
variable {ι : Type} {N : ι → Type}
def setB (S : TS N) (d : Nat) (b : Bool) : TS N := { S with tmps := (d, .lf .bool b) :: S.tmps }
def guardV (S : TS N) (all : List Oper) (j : Nat) : Option (Nat × TV N) := match all[j]? with
 | some o => match o.dst with
  | some d => match gt S.tmps d with
   | some v => some (d, v)
   | none => none
  | none => none
 | none => none
def dstOk (n : Nat) (pre : Nat → Bool) (o : Oper) : Bool := match o.dst with
 | some d => Nat.blt d n && !pre (4000000 + d)
 | none => true
def newOk (S : TS N) (e : TE N) : Bool := e.new.all fun d => S.fresh d && Nat.blt d given
end
section
variable (V : View) (P : Program) (n : Nat) (nm : Nat → Nat) (call : Caller V)
def wantsAll : TV V.N → List (TV V.N)
 | .vh n => [.vh n]
 | .agg cs => cs
 | _ => []
def wantsC (b c : Bool) : TV V.N → List (TV V.N)
 | .vh n => match b with
  | true => [.vh n]
  | false => []
 | .agg cs => match c with
  | true => []
  | false => cs
 | _ => []
def preOp (pre : Nat → Bool) (o : Oper) (S : TS V.N) : TS V.N := match o.op with
 | .buildSlice _ _ parts => frzL V S (parts.toList.flatMap fun p => wantsAll V (tev S p.2))
 | .convert _ _ x => frzL V S (wantsAll V (tev S x))
 | .slice _ x _ _ _ => frzL V S (wantsAll V (tev S x))
 | .store _ x y => match tev S x with
  | .ep .. => frzL V S (wantsAll V (tev S y))
  | _ => S
 | .call c => match c.callee with
  | .value f => match tev S f with
   | .fn fid first captured => frzL V S ((first ++ c.args.toList.map (tev S) ++ captured).flatMap (wantsC V (pre fid) (pre (2000000 + fid))))
   | .lf .fnc _ => frzL V S ((c.args.toList.map (tev S)).flatMap (wantsC V false false))
   | _ => S
  | .builtin .append => match c.args.toList, c.argTypes.toList with
   | [_, .tmp t], ty :: _ => match gt S.tmps t, V.ty ty with
    | some (.vh n), _ => frzL V S [.vh n]
    | some (.raw (.slice (some _) 0 _)), some (.sl e) => { S with tmps := (t, .lf (.sl e) []) :: S.tmps }
    | some (.raw (.slice none 0 0)), some (.sl e) => { S with tmps := (t, .lf (.sl e) []) :: S.tmps }
    | _, _ => S
   | _, _ => S
  | _ => S
 | _ => S
def forceL {α β : Type} : List α → (List α → β) → β
 | [], k => k []
 | x :: r, k => forceL r fun l => k (x :: l)
theorem forceL_eq {α β : Type} : ∀ (l : List α) (k : List α → β), forceL l k = k l
 | [], _ => rfl
 | x :: r, k => by rw [forceL, forceL_eq r]
def forceS {ι : Type} {N : ι → Type} {β : Type} (S : TS N) (k : TS N → β) : β := forceL S.tmps fun t => forceL S.own fun o => k ⟨t, o⟩
theorem forceS_eq {ι : Type} {N : ι → Type} {β : Type} (S : TS N) (k : TS N → β) : forceS S k = k S := by
 unfold forceS
 rw [forceL_eq, forceL_eq]
noncomputable def tnext {A : Type} (x : Operand) (S : TS V.N) (k : TE V.N → Option A) : Option A := match tev S x with
 | .bp n 0 => match S.own? n with
  | some (.miter m tk tv es rest _) => if keyTy tk = true ∧ S.len m = 0 then
    if rest.isEmpty = true then k { val := .tup [.lf .bool false], acc := [n, m], upd := [(m, .map tk tv es), (n, .gone 0)] }
    else anyOf (steps rest) fun q => k { val := .tup [.lf .bool true, .lf tk q.1.1, .lf tv q.1.2], acc := [n], upd := [(n, .miter m tk tv es q.2 (some q.1))] }
   else none
  | _ => none
 | _ => none
noncomputable def txo (pre : Nat → Bool) (o : Oper) {A : Type} (S : TS V.N) (k : TS V.N → Option A) : Option A := match o.op with
 | .next x false => tnext V x S fun te => match newOk S te with
  | true => k (S.app o.dst te)
  | false => none
 | _ => match deepOp V pre o S with
  | true => tdeep V P nm o S fun te => match newOk S te with
   | true => k (S.app o.dst te)
   | false => none
  | false => tx V P nm call false o (preOp V pre o S) fun te => match newOk (preOp V pre o S) te with
   | true => k ((preOp V pre o S).app o.dst te)
   | false => none
noncomputable def txs (pre : Nat → Bool) (all : List Oper) {A : Type} : List Oper → TS V.N → (TS V.N → Option A) → Option A
 | [], S, k => k S
 | o :: os, S, k => forceS S fun S => match dstOk n pre o with
  | false => none
  | true => match o.guard with
   | none => txo V P nm call pre o S fun S' => txs pre all os S' k
   | some (j, want) => match guardV S all j with
    | some (d, .lf .bool b) => if b = true then
       match want with
       | true => txo V P nm call pre o (setB S d true) fun S' => txs pre all os S' k
       | false => txs pre all os ((setB S d true).app o.dst { val := .tup [] }) k
      else
       match want with
       | false => txo V P nm call pre o (setB S d false) fun S' => txs pre all os S' k
       | true => txs pre all os ((setB S d false).app o.dst { val := .tup [] }) k
    | some (_, .tup []) => txs pre all os (S.app o.dst { val := .tup [] }) k
    | _ => none
def txq (pre : Nat → Bool) (o : Oper) {A : Type} (S : TS V.N) (k : TE V.N → Option A) : Option A := match deepOp V pre o S with
 | true => tdeep V P nm o S k
 | false => tx V P nm call true o S k
def txd (pre : Nat → Bool) (all : List Oper) {A : Type} : List Oper → TS V.N → List Tr1 → (TS V.N → List Tr1 → Option A) → Option A
 | [], S, tr, k => k S tr
 | o :: os, S, tr, k => forceS S fun S => match dstOk n pre o with
  | false => none
  | true => match det o.op with
   | false => none
   | true => match o.guard with
   | none => txq V P nm call pre o S fun te => match newOk S te with
    | true => txd pre all os (S.app o.dst te) (tr ++ [⟨encE (S.app o.dst te).len te, true⟩]) k
    | false => none
   | some (j, want) => match guardV S all j with
    | some (d, .lf .bool b) => if b = true then
       match want with
       | true => txq V P nm call pre o (setB S d true) fun te => match newOk (setB S d true) te with
        | true => txd pre all os ((setB S d true).app o.dst te) (tr ++ [⟨encE ((setB S d true).app o.dst te).len te, true⟩]) k
        | false => none
       | false => txd pre all os ((setB S d true).app o.dst { val := .tup [] }) (tr ++ [⟨{ val := .tup [] }, false⟩]) k
      else
       match want with
       | false => txq V P nm call pre o (setB S d false) fun te => match newOk (setB S d false) te with
        | true => txd pre all os ((setB S d false).app o.dst te) (tr ++ [⟨encE ((setB S d false).app o.dst te).len te, true⟩]) k
        | false => none
       | true => txd pre all os ((setB S d false).app o.dst { val := .tup [] }) (tr ++ [⟨{ val := .tup [] }, false⟩]) k
    | some (_, .tup []) => txd pre all os (S.app o.dst { val := .tup [] }) (tr ++ [⟨{ val := .tup [] }, false⟩]) k
    | _ => none
end
section
variable {V : View}
theorem setB_sim {C : Ctx} {E : Env} {M : Mem} {S : TS V.N} {d : Nat} {b : Bool} {a : Act} {w : World} (hd : gt S.tmps d = some (.lf .bool b)) (hs : Sim C E M (encS V S) a w) : Sim C E M (encS V (setB S d b)) a w := by
 have hl : (setB S d b).len = S.len := rfl
 refine Sim.le hs (fun t x hx => ?_) fun n o ho => ⟨o, ho, OLe.refl _⟩
 rw [encS_gt] at hx ⊢
 simp only [setB, gt_cons] at hx
 by_cases h : d = t
 ·subst h
  rw [if_pos rfl] at hx
  rw [hd]
  exact ⟨x, hx, H.le.refl _⟩
 ·rw [if_neg h] at hx
  exact ⟨x, hx, H.le.refl _⟩
theorem guardV_some {S : TS V.N} {all : List Oper} {j d : Nat} {v : TV V.N} (h : guardV S all j = some (d, v)) : gt S.tmps d = some v ∧ ∃ o, all[j]? = some o ∧ o.dst = some d := by
 unfold guardV at h
 split at h
 ·rename_i o ho
  split at h
  ·rename_i d' hd
   split at h
   ·rename_i v' hv
    simp at h; obtain ⟨rfl, rfl⟩ := h
    exact ⟨hv, o, ho, hd⟩
   ·cases h
  ·cases h
 ·cases h
theorem guardB_of {S : TS V.N} {σ : AState} (hσ : ∀ t, gt σ.tmps t = gt (encS V S).tmps t) {all : List Oper} {j d : Nat} {v : TV V.N} {want b : Bool} (h : guardV S all j = some (d, v))
  (hv : v = .lf .bool b ∨ v = .tup [] ∧ b = !want) : guardB σ all j want = some b := by
 obtain ⟨h1, o, h2, h3⟩ := guardV_some h
 have hg : σ.get d = encV V S.len v := by
  unfold AState.get
  rw [hσ, encS_gt, h1]; rfl
 unfold guardB
 simp only [h2, h3, hg]
 rcases hv with rfl | ⟨rfl, rfl⟩
 ·simp [encV, encD]
 ·simp [encV, encL]
theorem newOk_fresh {S : TS V.N} {te : TE V.N} (h : newOk S te = true) : (∀ d ∈ te.new, S.fresh d = true) ∧ ∀ d ∈ te.new, d < given := by
 unfold newOk at h
 rw [List.all_eq_true] at h
 refine ⟨fun d hd => ?_, fun d hd => ?_⟩
 ·have := h d hd
  simp only [Bool.and_eq_true] at this
  exact this.1
 ·have := h d hd
  simp only [Bool.and_eq_true, Nat.blt_eq] at this
  exact this.2
def Fx (C : Ctx) (pre : Nat → Bool) : Prop := ∀ p ∈ C.fix, pre (4000000 + p.1) = true
theorem dstOk_wr {C : Ctx} {pre : Nat → Bool} {o : Oper} (hF : Fx C pre) (h : dstOk C.N pre o = true) : ∀ d, o.dst = some d → C.wr d := by
 intro d hd
 unfold dstOk at h
 rw [hd] at h
 simp only [Bool.and_eq_true, Nat.blt_eq, Bool.not_eq_true'] at h
 refine ⟨h.1, fun p hp e => ?_⟩
 have := hF p hp
 rw [e, h.2] at this
 cases this
theorem tup_good (S : TS V.N) : good S { val := .tup [] } := good_val S _ _
theorem tup_sim {C : Ctx} {E : Env} {M : Mem} {S : TS V.N} {o : Oper} {a : Act} {w : World} (hd : ∀ d, o.dst = some d → C.wr d) (hs : Sim C E M (encS V S) a w) : Sim C E M (encS V (S.app o.dst { val := .tup [] })) (a.put o.dst undef) w := by
 have h1 := hs.app_val (o := o) hd (e := { val := .tup [] }) rfl undefH
 refine Sim.tapp (ex := false) (e' := { val := .tup [] }) (tup_good S) (fun d h => by cases h) (ele_eq ?_) h1
 simp [encV, encL]
theorem tx_wp {C : Ctx} {nm : Nat → Nat} {call : Caller V} {ex : Bool} {o : Oper} {S : TS V.N} {A : Type} {k : TS V.N → Option A} {r : A} {E : Env} {M : Mem} {a : Act} {w : World} {K : Act → World → Prop} {Q : Exit → Act → World → Prop}
  (hcall : CallerOk C.P call) (hd : ∀ d, o.dst = some d → C.wr d) (h : (tx V C.P nm call ex o S fun te => match newOk S te with | true => k (S.app o.dst te) | false => none) = some r) (hs : Sim C E M (encS V S) a w)
  (hK : ∀ te E' M' a' w', k (S.app o.dst te) = some r → Sim C E' M' (encS V (S.app o.dst te)) a' w' → K a' w') : o.wp C.P a w K Q := by
 have hnew : ∀ te : TE V.N, (match newOk S te with | true => k (S.app o.dst te) | false => none) = some r → newOk S te = true ∧ k (S.app o.dst te) = some r := by
  intro te h
  cases hq : newOk S te with
  | true => rw [hq] at h; exact ⟨rfl, h⟩
  | false => rw [hq] at h; cases h
 obtain ⟨te, h1, h2, h3⟩ := tx_sound hcall (fun te hte => (newOk_fresh (hnew te hte).1).1) h
 obtain ⟨hn, hk⟩ := hnew te h1
 obtain ⟨f1, f2⟩ := newOk_fresh hn
 refine ok_all hd E M (encS V S) a w K Q (fun e => ELe ex e (encE (S.app o.dst te).len te)) hs (AVal_mono (fun e he => ⟨fun d hd => ?_, he⟩) h3) fun e E' M' a' w' he hs' => hK te E' M' a' w' hk (Sim.tapp h2 f1 he hs')
 have hd : d ∈ te.new := by rw [he.new] at hd; exact hd
 exact ⟨encS_fresh (f1 d hd), f2 d hd⟩
theorem tdeep_wp {C : Ctx} {nm : Nat → Nat} {o : Oper} {S : TS V.N} {A : Type} {k : TS V.N → Option A} {r : A} {E : Env} {M : Mem} {a : Act} {w : World} {K : Act → World → Prop} {Q : Exit → Act → World → Prop}
  (hd : ∀ d, o.dst = some d → C.wr d) (h : (tdeep V C.P nm o S fun te => match newOk S te with | true => k (S.app o.dst te) | false => none) = some r) (hs : Sim C E M (encS V S) a w)
  (hK : ∀ te E' M' a' w', k (S.app o.dst te) = some r → Sim C E' M' (encS V (S.app o.dst te)) a' w' → K a' w') : o.wp C.P a w K Q := by
 have hnew : ∀ te : TE V.N, (match newOk S te with | true => k (S.app o.dst te) | false => none) = some r → newOk S te = true ∧ k (S.app o.dst te) = some r := by
  intro te h
  cases hq : newOk S te with
  | true => rw [hq] at h; exact ⟨rfl, h⟩
  | false => rw [hq] at h; cases h
 obtain ⟨te, h1, h2, e', h3, h4⟩ := tdeep_sound (fun te hte => (newOk_fresh (hnew te hte).1).1) h
 obtain ⟨hn, hk⟩ := hnew te h1
 obtain ⟨f1, f2⟩ := newOk_fresh hn
 refine h3.ok hd hs (fun d hd => ?_) fun E' M' a' w' hs' => hK te E' M' a' w' hk (Sim.tapp h2 f1 h4 hs')
 have hd : d ∈ te.new := by rw [h4.new] at hd; exact hd
 exact ⟨encS_fresh (f1 d hd), f2 d hd⟩
theorem map_erase {α β : Type} (f : α → β) : ∀ (l : List α) (i : Nat), (l.eraseIdx i).map f = (l.map f).eraseIdx i
 | [], _ => rfl
 | _ :: _, 0 => rfl
 | x :: r, i + 1 => by simp [List.eraseIdx_cons_succ, map_erase f r i]
theorem tnext_wp {C : Ctx} {nm : Nat → Nat} {o : Oper} {S : TS V.N} {A : Type} {k : TS V.N → Option A} {r : A} {E : Env} {M : Mem} {a : Act} {w : World} {K : Act → World → Prop} {Q : Exit → Act → World → Prop} {x : Operand}
  (ho : o.op = .next x false) (hd : ∀ d, o.dst = some d → C.wr d) (h : (tnext V x S fun te => match newOk S te with | true => k (S.app o.dst te) | false => none) = some r) (hs : Sim C E M (encS V S) a w)
  (hK : ∀ te E' M' a' w', k (S.app o.dst te) = some r → Sim C E' M' (encS V (S.app o.dst te)) a' w' → K a' w') : o.wp C.P a w K Q := by
 have hnew : ∀ te : TE V.N, (match newOk S te with | true => k (S.app o.dst te) | false => none) = some r → newOk S te = true ∧ k (S.app o.dst te) = some r := by
  intro te h
  cases hq : newOk S te with
  | true => rw [hq] at h; exact ⟨rfl, h⟩
  | false => rw [hq] at h; cases h
 have go : ∀ (te : TE V.N) (e : Eff), (match newOk S te with | true => k (S.app o.dst te) | false => none) = some r → good S te → ELe false e (encE (S.app o.dst te).len te) →
   (∀ d ∈ e.new, (encS V S).fresh d = true ∧ d < given) ∧ ∃ te, good S te ∧ (∀ d ∈ te.new, S.fresh d = true) ∧ ELe false e (encE (S.app o.dst te).len te) ∧ k (S.app o.dst te) = some r := by
  intro te e h hg he
  obtain ⟨hn, hk⟩ := hnew te h
  obtain ⟨f1, f2⟩ := newOk_fresh hn
  exact ⟨fun d hd => by
   have hd : d ∈ te.new := by rw [he.new] at hd; exact hd
   exact ⟨encS_fresh (f1 d hd), f2 d hd⟩, te, hg, f1, he, hk⟩
 unfold tnext at h
 split at h
 ·rename_i n hx
  split at h
  ·rename_i m tk tv es rest cur hown
   obtain ⟨⟨hkey, hlm⟩, h⟩ := if_some h
   refine ok_all (nm := nm) hd E M (encS V S) a w K Q (fun e => ∃ te, good S te ∧ (∀ d ∈ te.new, S.fresh d = true) ∧ ELe false e (encE (S.app o.dst te).len te) ∧ k (S.app o.dst te) = some r) hs ?_
    fun e E' M' a' w' ⟨te, h2, f1, he, hk⟩ hs' => hK te E' M' a' w' hk (Sim.tapp h2 f1 he hs')
   simp only [AVal, ho, ev_enc, hx, encV, own_miter hown]
   refine ⟨trivial, fun hr => ?_, fun i p hp => ?_⟩
   ·have hr : rest = [] := by simpa using hr
    subst hr
    simp only [List.isEmpty_nil, if_true] at h
    refine go { val := .tup [.lf .bool false], acc := [n, m], upd := [(m, .map tk tv es), (n, .gone 0)] } { val := .tup [.d (.v (.bool false))], acc := [n, m], upd := [(m, some (.map (es.map fun p => (encK tk p.1, encD V.sz V.enc tv p.2)))), (n, none)] } h (fun m' o' hm => ?_)
     (ele_upd (by simp [encV, encL, encD]) rfl (by simp [encO]) rfl)
    simp only [gt_cons] at hm
    right
    split at hm
    ·rename_i e; simp at hm; subst hm; subst e; simp [TO.len, hlm]
    ·split at hm
     ·rename_i e; simp at hm; subst hm; subst e; simp [TO.len, len_miter hown]
     ·simp [gt] at hm
   ·rw [List.getElem?_map, Option.map_eq_some_iff] at hp
    obtain ⟨q, hq, rfl⟩ := hp
    have hne : rest.isEmpty = false := by cases rest with | nil => simp at hq | cons a r => rfl
    rw [if_neg (by simp [hne]), anyOf_some] at h
    have h := h.2 _ (steps_mem hq)
    refine go { val := .tup [.lf .bool true, .lf tk q.1, .lf tv q.2], acc := [n], upd := [(n, .miter m tk tv es (rest.eraseIdx i) (some q))] }
     { val := .tup [.d (.v (.bool true)), .d (.v (encK tk q.1)), .d (encD V.sz V.enc tv q.2)], acc := [n], upd := [(n, some (.miter m (es.map fun p => (encK tk p.1, encD V.sz V.enc tv p.2)) ((rest.map fun p => (encK tk p.1, encD V.sz V.enc tv p.2)).eraseIdx i) (some (encK tk q.1, encD V.sz V.enc tv q.2))))] } h (fun m' o' hm => ?_)
     (ele_upd (by simp only [encV, encL, key_val hkey]; rfl) rfl (by simp [encO, map_erase]) rfl)
    simp only [gt_cons] at hm
    right
    split at hm
    ·rename_i e; simp at hm; subst hm; subst e; simp [TO.len, len_miter hown]
    ·simp [gt] at hm
  ·cases h
 ·cases h
theorem slot_le {S : TS V.N} {t : Nat} {v v' : TV V.N} (ht : gt S.tmps t = some v) (h : H.le (encV V S.len v) (encV V S.len v')) : Ent (encS V S) (encS V { S with tmps := (t, v') :: S.tmps }) :=
 Ent.le (fun d x hx => by
  have hl : ({ S with tmps := (t, v') :: S.tmps } : TS V.N).len = S.len := rfl
  rw [encS_gt] at hx
  simp only [gt_cons, hl] at hx
  by_cases h1 : t = d
  ·subst h1
   rw [if_pos rfl] at hx
   simp at hx; subst hx
   exact ⟨_, by rw [encS_gt, ht]; rfl, h⟩
  ·rw [if_neg h1] at hx
   exact ⟨x, by rw [encS_gt]; exact hx, H.le.refl _⟩) fun n o ho => ⟨o, ho, OLe.refl _⟩
theorem preOp_ent (pre : Nat → Bool) (o : Oper) (S : TS V.N) : Ent (encS V S) (encS V (preOp V pre o S)) := by
 unfold preOp
 split
 ·exact frzL_ent _ S
 ·exact frzL_ent _ S
 ·exact frzL_ent _ S
 ·split
  ·exact frzL_ent _ S
  ·exact Ent.refl _
 ·split
  ·split
   ·exact frzL_ent _ S
   ·exact frzL_ent _ S
   ·exact Ent.refl _
  ·split
   ·split
    ·exact frzL_ent _ S
    ·rename_i ht _
     refine slot_le ht ?_
     simp only [encV, encRaw, encD, List.map_nil]
     exact fun E M v h => by rw [h.dv]; exact .d (.slmt _ _ _)
    ·rename_i ht _
     refine slot_le ht ?_
     simp only [encV, encRaw, encD, List.map_nil]
     exact fun E M v h => by rw [h.dv]; exact .d (.slnil _)
    ·exact Ent.refl _
   ·exact Ent.refl _
  ·exact Ent.refl _
 ·exact Ent.refl _
theorem txo_wp {C : Ctx} {nm : Nat → Nat} {call : Caller V} {pre : Nat → Bool} {o : Oper} {S : TS V.N} {A : Type} {k : TS V.N → Option A} {r : A} {E : Env} {M : Mem} {a : Act} {w : World} {K : Act → World → Prop} {Q : Exit → Act → World → Prop}
  (hcall : CallerOk C.P call) (hd : ∀ d, o.dst = some d → C.wr d) (h : txo V C.P nm call pre o S k = some r) (hs : Sim C E M (encS V S) a w)
  (hK : ∀ S' E' M' a' w', k S' = some r → Sim C E' M' (encS V S') a' w' → K a' w') : o.wp C.P a w K Q := by
 unfold txo at h
 split at h
 ·rename_i x hx
  exact tnext_wp (nm := nm) hx hd h hs fun te E' M' a' w' hk hs' => hK _ E' M' a' w' hk hs'
 ·split at h
  ·exact tdeep_wp hd h hs fun te E' M' a' w' hk hs' => hK _ E' M' a' w' hk hs'
  ·obtain ⟨_, _, hs1⟩ := preOp_ent pre o S C E M a w hs
   exact tx_wp hcall hd h hs1 fun te E' M' a' w' hk hs' => hK _ E' M' a' w' hk hs'
theorem txs_sound {C : Ctx} {nm : Nat → Nat} {call : Caller V} {pre : Nat → Bool} {ops : Array Oper} {Q : Exit → Act → World → Prop} {A : Type} {r : A} (hcall : CallerOk C.P call) (hF : Fx C pre) : ∀ (l : List Oper) (i : Nat) (S : TS V.N) (k : TS V.N → Option A) (E : Env) (M : Mem) (a : Act) (w : World),
  ops.toList.drop i = l → txs V C.P C.N nm call pre ops.toList l S k = some r → Sim C E M (encS V S) a w → (∀ S' E' M' a' w', k S' = some r → Sim C E' M' (encS V S') a' w' → Q .normal a' w') →
  wpOps C.P ops Q ((List.range l.length).map (i + ·)) a w
 | [], i, S, k, E, M, a, w, _, h, hs, hQ => by
  simp only [txs] at h
  simpa [wpOps] using hQ S E M a w h hs
 | o :: os, i, S, k, E, M, a, w, hl, h, hs, hQ => by
  have hi : ops[i]? = some o := by
   have : (ops.toList.drop i)[0]? = some o := by rw [hl]; rfl
   simpa using this
  have hl' : ops.toList.drop (i + 1) = os := by
   rw [← List.tail_drop, hl]; rfl
  have hlist : (List.range (o :: os).length).map (i + ·) = i :: (List.range os.length).map (i + 1 + ·) := by
   simp only [List.length_cons, List.range_succ_eq_map, List.map_cons, List.map_map, Nat.add_zero]
   congr 1
   apply List.map_congr_left
   intro x _
   simp; omega
  rw [hlist]
  simp only [txs, forceS_eq] at h
  split at h
  ·cases h
  rename_i hdst
  have run : ∀ (S : TS V.N), Sim C E M (encS V S) a w → (txo V C.P nm call pre o S fun S' => txs V C.P C.N nm call pre ops.toList os S' k) = some r →
    o.wp C.P a w (wpOps C.P ops Q ((List.range os.length).map (i + 1 + ·))) Q := fun S hs h =>
   txo_wp (k := fun S' => txs V C.P C.N nm call pre ops.toList os S' k) hcall (dstOk_wr hF hdst) h hs fun S' E' M' a' w' hk hs' => txs_sound hcall hF os (i + 1) _ k E' M' a' w' hl' hk hs' hQ
  have off : ∀ (S : TS V.N), Sim C E M (encS V S) a w → txs V C.P C.N nm call pre ops.toList os (S.app o.dst { val := .tup [] }) k = some r →
    wpOps C.P ops Q ((List.range os.length).map (i + 1 + ·)) (a.put o.dst undef) w := fun S hs h =>
   txs_sound hcall hF os (i + 1) _ k E M _ w hl' h (tup_sim (dstOk_wr hF hdst) hs) hQ
  simp only [wpOps, hi]
  cases hg : o.guard with
  | none =>
   simp only [hg] at h
   rw [if_pos (by simp [Region.wanted, hg])]
   exact .inl (run S hs h)
  | some g =>
   obtain ⟨j, want⟩ := g
   simp only [hg] at h
   split at h
   ·rename_i d b hgv
    have hb := guardB_of (V := V) (S := S) (σ := encS V S) (fun t => rfl) (want := want) hgv (.inl rfl)
    have hy := hs.guard hb
    have hgt := (guardV_some hgv).1
    cases b with
    | true =>
     rw [if_pos rfl] at h
     have hs' := setB_sim hgt hs
     cases want with
     | true =>
      rw [if_pos (by simp [Region.wanted, hg, hy])]
      exact .inl (run _ hs' h)
     | false =>
      rw [if_neg (by simp [Region.wanted, hg, hy])]
      exact off _ hs' h
    | false =>
     rw [if_neg (by simp)] at h
     have hs' := setB_sim hgt hs
     cases want with
     | false =>
      rw [if_pos (by simp [Region.wanted, hg, hy])]
      exact .inl (run _ hs' h)
     | true =>
      rw [if_neg (by simp [Region.wanted, hg, hy])]
      exact off _ hs' h
   ·rename_i d hgv
    have hb := guardB_of (V := V) (S := S) (σ := encS V S) (fun t => rfl) (want := want) hgv (.inr ⟨rfl, rfl⟩)
    have hy := hs.guard hb
    rw [if_neg (by cases want <;> simp [Region.wanted, hg, hy])]
    exact off _ hs h
   ·cases h
structure Rl (σ : AState) (S : TS V.N) : Prop where
 tmp : ∀ t, gt σ.tmps t = gt (encS V S).tmps t
 own : ∀ n, σ.own? n = (encS V S).own? n
 fresh : ∀ d, S.fresh d = true → σ.fresh d = true
theorem Rl.refl (S : TS V.N) : Rl (encS V S) S := ⟨fun _ => rfl, fun _ => rfl, fun _ h => encS_fresh h⟩
theorem Rl.ent {σ : AState} {S : TS V.N} (h : Rl σ S) : Ent σ (encS V S) := Ent.le (fun t x hx => ⟨x, by rw [h.tmp]; exact hx, H.le.refl _⟩) fun n o ho => ⟨o, by rw [h.own]; exact ho, OLe.refl _⟩
theorem Rl.setB {σ : AState} {S : TS V.N} (h : Rl σ S) {d : Nat} {b : Bool} (hd : gt S.tmps d = some (.lf .bool b)) : Rl σ (setB S d b) where
 tmp := fun t => by
  rw [h.tmp, encS_gt, encS_gt]
  simp only [Tx.setB, gt_cons]
  by_cases e : d = t
  ·subst e; rw [if_pos rfl, hd]; simp [encV]
  ·rw [if_neg e]; rfl
 own := fun n => h.own n
 fresh := fun n hn => h.fresh n (by
  unfold TS.fresh at hn ⊢
  simp only [Bool.and_eq_true] at hn ⊢
  refine ⟨⟨hn.1.1, ?_⟩, hn.2⟩
  have := hn.1.2
  simp only [Tx.setB, List.all_cons, Bool.and_eq_true] at this
  exact this.2)
theorem Rl.app {σ : AState} {S : TS V.N} (h : Rl σ S) {dst : Option Tmp} {te : TE V.N} (hg : good S te) (hn : ∀ d ∈ te.new, S.fresh d = true) : Rl (σ.app dst (encE (S.app dst te).len te)) (S.app dst te) where
 tmp := fun t => by
  rw [(encS_app (dst := dst) hg hn).1]
  simp only [AState.app, putT]
  cases dst with
  | none => exact h.tmp t
  | some d => simp only [gt_cons]; rw [h.tmp]
 own := fun n => by
  rw [(encS_app (dst := dst) hg hn).2]
  have := h.own n
  unfold AState.own? at this ⊢
  simp only [AState.app, gt_app]
  cases gt (encE (S.app dst te).len te).upd n with
  | some o => rfl
  | none => exact this
 fresh := fun n hn' => by
  unfold TS.fresh at hn'
  simp only [Bool.and_eq_true] at hn'
  obtain ⟨⟨f1, f2⟩, f3⟩ := hn'
  have hu : gt te.upd n = none := by
   rw [app_own?] at f1
   cases hq : gt te.upd n with
   | none => rfl
   | some o => rw [hq] at f1; cases f1
  have hs : S.fresh n = true := by
   unfold TS.fresh
   simp only [Bool.and_eq_true]
   refine ⟨⟨?_, ?_⟩, ?_⟩
   ·rw [app_own?, hu] at f1; exact f1
   ·rw [List.all_eq_true] at f2 ⊢
    intro p hp
    refine f2 p ?_
    unfold TS.app putV
    cases dst with
    | none => exact hp
    | some d => exact List.mem_cons_of_mem _ hp
   ·rw [List.all_eq_true] at f3 ⊢
    exact fun p hp => f3 p (List.mem_append_right _ hp)
  have hσ := h.fresh n hs
  unfold AState.fresh at hσ ⊢
  simp only [Bool.and_eq_true] at hσ ⊢
  obtain ⟨⟨g1, g2⟩, g3⟩ := hσ
  refine ⟨⟨?_, ?_⟩, ?_⟩
  ·have hq : gt (encE (S.app dst te).len te).upd n = none := by simp only [encE, gt_map, hu]; rfl
   unfold AState.own? at g1 ⊢
   simp only [AState.app, gt_app, hq]
   exact g1
  ·simp only [AState.app, putT]
   cases dst with
   | none => exact g2
   | some d =>
    rw [List.all_cons, Bool.and_eq_true]
    refine ⟨?_, g2⟩
    rw [List.all_eq_true] at f2
    have := f2 (d, te.val) (by simp [TS.app, putV])
    simpa [encE, encV_has] using this
  ·simp only [AState.app, List.all_append, Bool.and_eq_true]
   refine ⟨?_, g3⟩
   rw [List.all_eq_true] at f3 ⊢
   intro p hp
   simp only [encE, List.mem_map] at hp
   obtain ⟨q, hq, rfl⟩ := hp
   have := f3 q (List.mem_append_left _ hq)
   simp only
   cases ho : encO V (S.app dst te).len q.2 with
   | none => rfl
   | some o => simp only [encO_has _ n ho]; exact this
theorem Rl.tup {σ : AState} {S : TS V.N} (h : Rl σ S) {dst : Option Tmp} : Rl (σ.app dst { val := .tup [] }) (S.app dst { val := .tup [] }) := by
 have := h.app (dst := dst) (te := { val := .tup [] }) (tup_good S) fun d h => by cases h
 simpa [encE, encV, encL] using this
theorem txq_sound {P : Program} {nm : Nat → Nat} {call : Caller V} {pre : Nat → Bool} {o : Oper} {S : TS V.N} {A : Type} {k : TE V.N → Option A} {r : A} (hcall : CallerOk P call) (hf : ∀ te, k te = some r → ∀ d ∈ te.new, S.fresh d = true) (h : txq V P nm call pre o S k = some r) :
  ∃ te, k te = some r ∧ good S te ∧ BVal P nm o (ev (encS V S)) (encS V S).own? fun e => ELe true e (encE (S.app o.dst te).len te) := by
 unfold txq at h
 split at h
 ·obtain ⟨te, h1, h2, e', h3, h4⟩ := tdeep_sound hf h
  exact ⟨te, h1, h2, .inr ⟨e', h3, h4⟩⟩
 ·obtain ⟨te, h1, h2, h3⟩ := tx_sound hcall hf h
  exact ⟨te, h1, h2, .inl h3⟩
theorem txd_sound {P : Program} {n : Nat} {W : Nat → Prop} {nm : Nat → Nat} {call : Caller V} {pre : Nat → Bool} {all : List Oper} {A : Type} {r : A} (hcall : CallerOk P call) (hW : ∀ o, dstOk n pre o = true → ∀ d, o.dst = some d → W d) : ∀ (l : List Oper) (S : TS V.N) (σ : AState) (tr : List Tr1) (k : TS V.N → List Tr1 → Option A),
  txd V P n nm call pre all l S tr k = some r → Rl σ S → aopsT P W nm all l σ tr fun σ' tr' => ∃ S', Rl σ' S' ∧ k S' tr' = some r
 | [], S, σ, tr, k, h, hr => by
  simp only [txd] at h
  exact ⟨S, hr, h⟩
 | o :: os, S, σ, tr, k, h, hr => by
  simp only [txd, forceS_eq] at h
  split at h
  ·cases h
  rename_i hdst
  split at h
  ·cases h
  rename_i hdet
  have run : ∀ (S : TS V.N), Rl σ S → (txq V P nm call pre o S fun te => match newOk S te with | true => txd V P n nm call pre all os (S.app o.dst te) (tr ++ [⟨encE (S.app o.dst te).len te, true⟩]) k | false => none) = some r →
    BVal P nm o (ev σ) σ.own? fun e => (∀ d ∈ e.new, σ.fresh d = true ∧ d < given) ∧ aopsT P W nm all os (σ.app o.dst e) (tr ++ [⟨e, true⟩]) fun σ' tr' => ∃ S', Rl σ' S' ∧ k S' tr' = some r := by
   intro S hr h
   have hnew : ∀ te : TE V.N, (match newOk S te with | true => txd V P n nm call pre all os (S.app o.dst te) (tr ++ [⟨encE (S.app o.dst te).len te, true⟩]) k | false => none) = some r →
     newOk S te = true ∧ txd V P n nm call pre all os (S.app o.dst te) (tr ++ [⟨encE (S.app o.dst te).len te, true⟩]) k = some r := by
    intro te h
    cases hq : newOk S te with
    | true => rw [hq] at h; exact ⟨rfl, h⟩
    | false => rw [hq] at h; cases h
   obtain ⟨te, h1, h2, h3⟩ := txq_sound hcall (fun te hte => (newOk_fresh (hnew te hte).1).1) h
   obtain ⟨hn, hk⟩ := hnew te h1
   obtain ⟨f1, f2⟩ := newOk_fresh hn
   have e1 : ev σ = ev (encS V S) := by
    funext x
    cases x with
    | tmp t => simp only [ev, AState.get, hr.tmp]
    | _ => rfl
   have e2 : σ.own? = (encS V S).own? := funext hr.own
   rw [e1, e2]
   refine BVal_mono (fun e he => ?_) h3
   have he' : e = encE (S.app o.dst te).len te := by
    obtain ⟨q1, q2, q3⟩ := he.eq rfl
    have q4 := he.new
    cases e
    simp only at q1 q2 q3 q4
    subst q1; subst q2; subst q3; subst q4; rfl
   subst he'
   exact ⟨fun d hd => ⟨hr.fresh d (f1 d hd), f2 d hd⟩, txd_sound hcall hW os _ _ _ k hk (hr.app h2 f1)⟩
  have off : ∀ (S : TS V.N), Rl σ S → txd V P n nm call pre all os (S.app o.dst { val := .tup [] }) (tr ++ [⟨{ val := .tup [] }, false⟩]) k = some r →
    aopsT P W nm all os (σ.app o.dst { val := .tup [] }) (tr ++ [⟨{ val := .tup [] }, false⟩]) fun σ' tr' => ∃ S', Rl σ' S' ∧ k S' tr' = some r := fun S hr h =>
   txd_sound hcall hW os _ _ _ k h hr.tup
  simp only [aopsT]
  refine ⟨⟨hW o hdst, hdet⟩, ?_⟩
  cases hg : o.guard with
  | none =>
   simp only [hg] at h
   exact run S hr h
  | some g =>
   obtain ⟨j, want⟩ := g
   simp only [hg] at h
   split at h
   ·rename_i d b hgv
    have hb := guardB_of (V := V) (S := S) (σ := σ) hr.tmp (want := want) hgv (.inl rfl)
    have hgt := (guardV_some hgv).1
    simp only [hb]
    cases b with
    | true =>
     rw [if_pos rfl] at h
     have hr' := hr.setB hgt
     cases want with
     | true => exact ⟨fun _ => run _ hr' h, fun e => by simp at e⟩
     | false => exact ⟨fun e => by simp at e, fun _ => off _ hr' h⟩
    | false =>
     rw [if_neg (by simp)] at h
     have hr' := hr.setB hgt
     cases want with
     | false => exact ⟨fun _ => run _ hr' h, fun e => by simp at e⟩
     | true => exact ⟨fun e => by simp at e, fun _ => off _ hr' h⟩
   ·rename_i d hgv
    have hb := guardB_of (V := V) (S := S) (σ := σ) hr.tmp (want := want) hgv (.inr ⟨rfl, rfl⟩)
    simp only [hb]
    exact ⟨fun e => by cases want <;> simp at e, fun _ => off _ hr h⟩
   ·cases h
end
end Go.Tx
end
section
namespace Go.Tx
open Go.Awp
variable [Inhabited GMem]
inductive Alt where
 | norm
 | ret
 | exit (id : Nat)
 deriving DecidableEq
section
variable (V : View)
structure Shape where
 exits : Nat → Cut V.ι := fun _ => ⟨[], []⟩
 rcut : Cut V.ι
variable {V}
def altTys (sh : Shape V) (jt : List (Ty V.ι)) : Alt → List (Ty V.ι)
 | .norm => jt
 | .ret => sh.rcut.tys
 | .exit id => (sh.exits id).tys
def OutT (E : Alt → List (Ty V.ι)) : List Alt → Type
 | [] => Empty
 | [a] => HL V.N (E a)
 | a :: b :: r => HL V.N (E a) ⊕ OutT E (b :: r)
def inj (E : Alt → List (Ty V.ι)) : (alts : List Alt) → (a : Alt) → HL V.N (E a) → Option (OutT E alts)
 | [], _, _ => none
 | [b], a, v => if h : a = b then some (h ▸ v) else none
 | b :: c :: r, a, v => if h : a = b then some (.inl (h ▸ v)) else match inj E (c :: r) a v with
  | some o => some (.inr o)
  | none => none
def handle (E : Alt → List (Ty V.ι)) {A : Type} : (alts : List Alt) → OutT E alts → ((a : Alt) → HL V.N (E a) → Option A) → Option A
 | [], _, _ => none
 | [a], v, f => f a v
 | a :: b :: r, o, f => match o with
  | .inl v => f a v
  | .inr o' => handle E (b :: r) o' f
theorem handle_inj {E : Alt → List (Ty V.ι)} {A : Type} {f : (a : Alt) → HL V.N (E a) → Option A} : ∀ {alts : List Alt} {a : Alt} {v : HL V.N (E a)} {o : OutT E alts}, inj E alts a v = some o → handle E alts o f = f a v
 | [], a, v, o, h => by simp [inj] at h
 | [b], a, v, o, h => by
  simp only [inj] at h
  split at h
  ·rename_i e; subst e; cases h; rfl
  ·cases h
 | b :: c :: r, a, v, o, h => by
  simp only [inj] at h
  split at h
  ·rename_i e; subst e; cases h; rfl
  ·split at h
   ·rename_i o' ho
    cases h
    show handle E (c :: r) o' f = f a v
    exact handle_inj (f := f) ho
   ·cases h
variable (V)
structure LoopA (sh : Shape V) where
 cut : Cut V.ι
 alts : List Alt
 F : HL V.N cut.tys → Option (OutT (altTys sh []) alts)
structure Xc where
 P : Program
 n : Nat
 nm : Nat → Nat := id
 call : Caller V
 pre : Nat → Bool := fun _ => false
 sh : Shape V
 joins : Nat → Option (Cut V.ι × List Alt) := fun _ => none
 regs : Nat → Option (Cut V.ι) := fun _ => none
 loops : Nat → Option (LoopA V sh) := fun _ => none
 pair : Nat → PT := fun _ => .leaf
 jumps : Nat → Option (Nat × LoopA V sh) := fun _ => none
def firstId : Code → Nat
 | .region id _ _ => id
 | .seq a b => if firstId a = 1000000 then firstId b else firstId a
 | .block _ x => firstId x
 | .cond _ a b => if firstId a = 1000000 then firstId b else firstId a
 | .loop b => firstId b
 | .scope b => firstId b
 | _ => 1000000
variable {V}
noncomputable def both {A : Type} (x y : Option A) : Option A := by classical exact if x = y then x else none
theorem both_some {A : Type} {x y : Option A} {r : A} (h : both x y = some r) : x = some r ∧ y = some r := by
 unfold both at h
 split at h
 ·rename_i e; exact ⟨h, e ▸ h⟩
 ·cases h
def regd (X : Xc V) {A : Type} (ops : Array Oper) (S : TS V.N) (k : TS V.N → Option A) : Option A :=
 txd V X.P X.n X.nm X.call X.pre ops.toList ops.toList S [] fun S' tr => match drawOk ops.toList tr with
  | true => k S'
  | false => none
def pairFits (i j n : Nat) : Bool := !Nat.beq i j && Nat.blt i n && Nat.blt j n
noncomputable def regT (X : Xc V) {A : Type} (S : TS V.N) (k : TS V.N → Option A) : PT → Array Oper → Option A
 | .leaf, ops => regd X ops S k
 | .node i j a b, ops => match pairFits i j ops.size with
  | true => both (regT X S k a (varOps i i i j ops)) (regT X S k b (varOps i j j i ops))
  | false => none
noncomputable def regx (X : Xc V) {A : Type} (id : Nat) (ops : Array Oper) (draw : Bool) (S : TS V.N) (k : TS V.N → Option A) : Option A := match draw with
 | false => txs V X.P X.n X.nm X.call X.pre ops.toList ops.toList S k
 | true => regT X S k (X.pair id) ops
def noJump {A : Type} (ke : Nat → TS V.N → Option A) : Nat → TS V.N → Option A := fun id S => match Nat.blt id 1000000 with
 | true => ke id S
 | false => none
noncomputable def ex (X : Xc V) : Code → (A : Type) → TS V.N → (TS V.N → Option A) → (Nat → TS V.N → Option A) → (HL V.N X.sh.rcut.tys → Option A) → Option A
 | .skip, _, S, kn, _, _ => kn S
 | .ret, _, S, _, _, kr => match extr V X.sh.rcut S with
  | some v => kr v
  | none => none
 | .exit id, _, S, _, ke, _ => noJump ke id S
 | .goto l, _, S, _, ke, _ => ke (1000000 + l) S
 | .label _, _, S, kn, _, _ => kn S
 | .seq x y, A, S, kn, ke, kr => match X.joins (firstId y) with
  | none => ex X x A S (fun S' => ex X y A S' kn ke kr) ke kr
  | some (cut, alts) =>
   ex X x (OutT (altTys X.sh cut.tys) alts) S
    (fun S' => match extr V cut S' with
      | some v => inj (altTys X.sh cut.tys) alts .norm v
      | none => none)
    (fun id S' => match extr V (X.sh.exits id) S' with
      | some v => inj (altTys X.sh cut.tys) alts (.exit id) v
      | none => none)
    (fun v => inj (altTys X.sh cut.tys) alts .ret v) >>= fun out =>
   handle (altTys X.sh cut.tys) alts out fun a => match a with
    | .norm => fun v => ex X y A (conc V cut v) kn ke kr
    | .ret => fun v => kr v
    | .exit id => fun v => ke id (conc V (X.sh.exits id) v)
 | .block id x, A, S, kn, ke, kr => match Nat.blt id 1000000 with
  | true => ex X x A S kn (fun id' S' => if id' = id then kn S' else ke id' S') kr
  | false => none
 | .cond c x y, A, S, kn, ke, kr => match c with
  | .tmp t => match gt S.tmps t with
   | some (.lf .bool b) => if b = true then ex X x A (setB S t true) kn ke kr else ex X y A (setB S t false) kn ke kr
   | _ => none
  | .const (.bool b) => match b with
   | true => ex X x A S kn ke kr
   | false => ex X y A S kn ke kr
  | _ => none
 | .region id ops draw, _, S, kn, _, _ => match X.regs id with
  | none => regx X id ops draw S kn
  | some cut => (regx X id ops draw S fun S' => extr V cut S') >>= fun v => kn (conc V cut v)
 | .scope c, A, S, kn, ke, kr => match X.jumps (firstId c) with
  | none => ex X c A S kn (noJump ke) kr
  | some (l, la) => ex X c A S kn (fun id S' => match Nat.beq id (1000000 + l) with
   | true => match extr V la.cut S' with
    | none => none
    | some v => la.F v >>= fun out => handle (altTys X.sh []) la.alts out fun a => match a with
     | .norm => fun _ => none
     | .ret => fun v => kr v
     | .exit id => fun v => ke id (conc V (X.sh.exits id) v)
   | false => noJump ke id S') kr
 | .loop b, _, S, _, ke, kr => match X.loops (firstId b) with
  | none => none
  | some la => match extr V la.cut S with
   | none => none
   | some v => la.F v >>= fun out => handle (altTys X.sh []) la.alts out fun a => match a with
    | .norm => fun _ => none
    | .ret => fun v => kr v
    | .exit id => fun v => ke id (conc V (X.sh.exits id) v)
 | _, _, _, _, _, _ => none
noncomputable def exL (X : Xc V) (b : Code) (cut : Cut V.ι) (alts : List Alt) (F : HL V.N cut.tys → Option (OutT (altTys X.sh []) alts)) (v : HL V.N cut.tys) : Option (OutT (altTys X.sh []) alts) :=
 ex X b _ (conc V cut v)
  (fun S' => match extr V cut S' with
    | some v => F v
    | none => none)
  (noJump fun id S' => match extr V (X.sh.exits id) S' with
    | some v => inj (altTys X.sh []) alts (.exit id) v
    | none => none)
  (fun v => inj (altTys X.sh []) alts .ret v)
def AWpL (C : Ctx) (c : Code) (S : AState) (Q : Exit → AState → Prop) : Prop :=
 ∀ (E : Env) (M : Mem) (a : Act) (w : World), Sim C E M S a w → ∀ (b : Frame) (k : List Item) (cs : List Frame),
  ∃ e a' w', (∃ S' E' M', Q e S' ∧ Sim C E' M' S' a' w') ∧ Arrives C.P (lone (b.at a (.code c :: .inLoop c :: k)) cs w) b k cs e a' w'
theorem AWpL.loop {C : Ctx} {c : Code} {S : AState} {Q : Exit → AState → Prop} (h : AWpL C c S Q) : AWp C (.loop c) S Q := fun E M a w hs b k cs =>
 let ⟨e, a', w', hq, harr⟩ := h E M a w hs b k cs
 ⟨e, a', w', hq, .of_steps (.one step_loop) harr⟩
theorem AWpL.ent {C : Ctx} {c : Code} {S S' : AState} {Q : Exit → AState → Prop} (he : Ent S S') (h : AWpL C c S' Q) : AWpL C c S Q := fun E M a w hs =>
 let ⟨E', M', hs'⟩ := he C E M a w hs
 h E' M' a w hs'
theorem AWpL.round {C : Ctx} {c : Code} {S : AState} {Q : Exit → AState → Prop} (h : AWp C c S (eThen (fun S' => AWpL C c S' Q) Q)) : AWpL C c S Q := by
 intro E M a w hs b k cs
 obtain ⟨e, a₁, w₁, ⟨S₁, E₁, M₁, hq, hs₁⟩, harr⟩ := h E M a w hs b (.inLoop c :: k) cs
 cases e with
 | normal =>
  obtain ⟨e₂, a₂, w₂, hq₂, harr₂⟩ := hq E₁ M₁ a₁ w₁ hs₁ b k cs
  exact ⟨e₂, a₂, w₂, hq₂, .of_steps (Steps.trans harr (.one step_inLoop)) harr₂⟩
 | exit id => exact ⟨_, a₁, w₁, ⟨S₁, E₁, M₁, hq, hs₁⟩, .pass (x := .inLoop c) rfl (fun _ _ => .inl (by simp)) harr⟩
 | goto l => exact ⟨_, a₁, w₁, ⟨S₁, E₁, M₁, hq, hs₁⟩, .pass (x := .inLoop c) rfl (fun _ _ => .inl (by simp)) harr⟩
 | ret => exact ⟨_, a₁, w₁, ⟨S₁, E₁, M₁, hq, hs₁⟩, .pass (x := .inLoop c) rfl (fun _ _ => .inl (by simp)) harr⟩
 | panic ch => exact ⟨_, a₁, w₁, ⟨S₁, E₁, M₁, hq, hs₁⟩, .pass (x := .inLoop c) rfl (fun _ _ => .inl (by simp)) harr⟩
 | outgrown => exact ⟨_, a₁, w₁, ⟨S₁, E₁, M₁, hq, hs₁⟩, .pass (x := .inLoop c) rfl (fun _ _ => .inl (by simp)) harr⟩
def AWpJ (C : Ctx) (x rest : Code) (S : AState) (Q : Exit → AState → Prop) : Prop :=
 ∀ (E : Env) (M : Mem) (a : Act) (w : World), Sim C E M S a w → ∀ (b : Frame) (k : List Item) (cs : List Frame),
  ∃ e a' w', (∃ S' E' M', Q e S' ∧ Sim C E' M' S' a' w') ∧ Arrives C.P (lone (b.at a (.code rest :: .inScope x :: k)) cs w) b k cs e a' w'
def eJump (l : Nat) (J : AState → Prop) (Q : Exit → AState → Prop) : Exit → AState → Prop
 | .goto l', S => l' = l ∧ J S
 | e, S => Q e S
theorem AWpJ.ent {C : Ctx} {x rest : Code} {S S' : AState} {Q : Exit → AState → Prop} (he : Ent S S') (h : AWpJ C x rest S' Q) : AWpJ C x rest S Q := fun E M a w hs =>
 let ⟨E', M', hs'⟩ := he C E M a w hs
 h E' M' a w hs'
theorem AWpJ.mono {C : Ctx} {x rest : Code} {S : AState} {Q Q' : Exit → AState → Prop} (h : AWpJ C x rest S Q) (hq : ∀ e S, Q e S → Q' e S) : AWpJ C x rest S Q' := fun E M a w hs b k cs =>
 let ⟨e, a', w', ⟨S', E', M', hq', hs'⟩, harr⟩ := h E M a w hs b k cs
 ⟨e, a', w', ⟨S', E', M', hq e S' hq', hs'⟩, harr⟩
theorem awp_scope_jumps {C : Ctx} {x rest : Code} {l : Nat} {S : AState} {Q : Exit → AState → Prop} (hf : findLabel x l = some rest) (h : AWp C x S (eJump l (fun S' => AWpJ C x rest S' Q) Q)) : AWp C (.scope x) S Q := by
 intro E M a w hs b k cs
 have hg : gotoIn l (.inScope x :: k) = some (.code rest :: .inScope x :: k) := by simp [gotoIn, hf]
 obtain ⟨e, a₁, w₁, ⟨S₁, E₁, M₁, hq, hs₁⟩, harr⟩ := h E M a w hs b (.inScope x :: k) cs
 cases e with
 | normal => exact ⟨.normal, a₁, w₁, ⟨S₁, E₁, M₁, hq, hs₁⟩, .head step_scope (Steps.trans harr (.one step_inScope))⟩
 | exit id => exact ⟨.exit id, a₁, w₁, ⟨S₁, E₁, M₁, hq, hs₁⟩, fun k' hk => .head step_scope (harr k' (by simp [exitTo, hk]))⟩
 | goto l' =>
  obtain ⟨rfl, hJ⟩ := hq
  obtain ⟨e₂, a₂, w₂, hq₂, harr₂⟩ := hJ E₁ M₁ a₁ w₁ hs₁ b k cs
  exact ⟨e₂, a₂, w₂, hq₂, .of_steps (.head step_scope (harr _ hg)) harr₂⟩
 | ret => exact ⟨_, a₁, w₁, ⟨S₁, E₁, M₁, hq, hs₁⟩, .of_steps (.one step_scope) harr⟩
 | panic ch => exact ⟨_, a₁, w₁, ⟨S₁, E₁, M₁, hq, hs₁⟩, .of_steps (.one step_scope) harr⟩
 | outgrown => exact ⟨_, a₁, w₁, ⟨S₁, E₁, M₁, hq, hs₁⟩, .of_steps (.one step_scope) harr⟩
theorem blt_jump (l : Nat) : Nat.blt (1000000 + l) 1000000 = false := by
 cases h : Nat.blt (1000000 + l) 1000000 with
 | false => rfl
 | true => rw [Nat.blt_eq] at h; omega
theorem noJump_some {A : Type} {ke : Nat → TS V.N → Option A} {id : Nat} {S : TS V.N} {r : A} (h : noJump ke id S = some r) : Nat.blt id 1000000 = true ∧ ke id S = some r := by
 unfold noJump at h
 split at h
 ·exact ⟨‹_›, h⟩
 ·cases h
theorem noJump_jump {A : Type} {ke : Nat → TS V.N → Option A} {l : Nat} {S : TS V.N} {r : A} (h : noJump ke (1000000 + l) S = some r) : False := by
 have := (noJump_some h).1
 rw [blt_jump] at this; cases this
structure Post (sh : Shape V) {A : Type} (kn : TS V.N → Option A) (ke : Nat → TS V.N → Option A) (kr : HL V.N sh.rcut.tys → Option A) (r : A) (Q : Exit → AState → Prop) : Prop where
 norm : ∀ S σ, kn S = some r → Ent σ (encS V S) → Q .normal σ
 exit : ∀ id S σ, Nat.blt id 1000000 = true → ke id S = some r → Ent σ (encS V S) → Q (.exit id) σ
 jump : ∀ l S σ, ke (1000000 + l) S = some r → Ent σ (encS V S) → Q (.goto l) σ
 ret : ∀ v σ, kr v = some r → Ent σ (encS V (conc V sh.rcut v)) → Q .ret σ
def OutQ (sh : Shape V) (alts : List Alt) (out : OutT (altTys sh []) alts) (e : Exit) (σ : AState) : Prop := match e with
 | .exit id => Nat.blt id 1000000 = true ∧ ∃ v : HL V.N (sh.exits id).tys, inj (altTys sh []) alts (.exit id) v = some out ∧ Ent σ (encS V (conc V (sh.exits id) v))
 | .ret => ∃ v : HL V.N sh.rcut.tys, inj (altTys sh []) alts .ret v = some out ∧ Ent σ (encS V (conc V sh.rcut v))
 | _ => False
def LoopOk (C : Ctx) (b : Code) {sh : Shape V} (la : LoopA V sh) : Prop := ∀ v out, la.F v = some out → AWpL C b (encS V (conc V la.cut v)) (OutQ sh la.alts out)
def JumpOk (C : Ctx) (x : Code) (l : Nat) {sh : Shape V} (la : LoopA V sh) : Prop :=
 ∃ rest, findLabel x l = some rest ∧ ∀ v out, la.F v = some out → AWpJ C x rest (encS V (conc V la.cut v)) (OutQ sh la.alts out)
def LOk (C : Ctx) (X : Xc V) : Code → Prop
 | .seq x y => LOk C X x ∧ LOk C X y
 | .block _ x => LOk C X x
 | .scope x => LOk C X x ∧ ∀ l la, X.jumps (firstId x) = some (l, la) → JumpOk C x l la
 | .cond _ x y => LOk C X x ∧ LOk C X y
 | .loop b => ∀ la, X.loops (firstId b) = some la → LoopOk C b la
 | _ => True
theorem aopsT_mono {P : Program} {N : Nat → Prop} {nm : Nat → Nat} {all : List Oper} : ∀ {os : List Oper} {S : AState} {tr : List Tr1} {k k' : AState → List Tr1 → Prop}, (∀ S tr, k S tr → k' S tr) → aopsT P N nm all os S tr k → aopsT P N nm all os S tr k'
 | [], S, tr, k, k', hk, h => hk _ _ h
 | o :: os, S, tr, k, k', hk, h => by
  simp only [aopsT] at h ⊢
  obtain ⟨hd, h⟩ := h
  refine ⟨hd, ?_⟩
  cases hg : o.guard with
  | none =>
   simp only [hg] at h ⊢
   exact BVal_mono (fun e ⟨h1, h2⟩ => ⟨h1, aopsT_mono hk h2⟩) h
  | some g =>
   obtain ⟨j, want⟩ := g
   simp only [hg] at h ⊢
   split at h
   ·exact ⟨fun e => BVal_mono (fun e ⟨h1, h2⟩ => ⟨h1, aopsT_mono hk h2⟩) (h.1 e), fun e => aopsT_mono hk (h.2 e)⟩
   ·exact h.elim
def noGo (Q : Exit → AState → Prop) : Exit → AState → Prop
 | .goto _, _ => False
 | e, S => Q e S
theorem awp_scope {C : Ctx} {c : Code} {S : AState} {Q : Exit → AState → Prop} (h : AWp C c S (noGo Q)) : AWp C (.scope c) S Q := fun E M a w hs =>
 wp_scope_straight (wp_mono (h E M a w hs) fun e a' w' => by
  rintro ⟨S', E', M', hq, hs'⟩
  cases e with
  | goto l => exact hq.elim
  | _ => exact ⟨S', E', M', hq, hs'⟩)
theorem ex_sound {C : Ctx} {X : Xc V} (hP : C.P = X.P) (hn : C.N = X.n ∧ Fx C X.pre) (hm : X.P.follows .mixedOrders = true) (hcall : CallerOk X.P X.call) : ∀ (c : Code) (A : Type) (S : TS V.N) (kn : TS V.N → Option A) (ke : Nat → TS V.N → Option A)
  (kr : HL V.N X.sh.rcut.tys → Option A) (r : A) (Q : Exit → AState → Prop), LOk C X c → ex X c A S kn ke kr = some r → Post X.sh kn ke kr r Q → AWp C c (encS V S) Q := by
 intro c
 induction c with
 | skip => intro A S kn ke kr r Q _ h hp; exact .skip (hp.norm S _ h (Ent.refl _))
 | label l => intro A S kn ke kr r Q _ h hp; exact .label (hp.norm S _ h (Ent.refl _))
 | exit id =>
  intro A S kn ke kr r Q _ h hp
  simp only [ex] at h
  obtain ⟨h1, h2⟩ := noJump_some h
  exact .exit (hp.exit id S _ h1 h2 (Ent.refl _))
 | goto l => intro A S kn ke kr r Q _ h hp; exact .goto (hp.jump l S _ h (Ent.refl _))
 | ret =>
  intro A S kn ke kr r Q _ h hp
  simp only [ex] at h
  split at h
  ·rename_i v hv; exact .ret (hp.ret v _ h (extr_ent hv))
  ·cases h
 | seq x y ihx ihy =>
  intro A S kn ke kr r Q hl h hp
  obtain ⟨hlx, hly⟩ := hl
  simp only [ex] at h
  split at h
  ·refine .seq (ihx A S _ ke kr r _ hlx h ⟨fun S' σ hk he => ?_, hp.exit, hp.jump, fun v σ hk he => hp.ret v σ hk he⟩)
   exact .ent he (ihy A S' kn ke kr r Q hly hk hp)
  ·rename_i cut alts hj
   obtain ⟨out, h1, h2⟩ := some_bind h
   refine .seq (ihx _ S _ _ _ out _ hlx h1 ⟨fun S' σ hk he => ?_, fun id S' σ hb hk he => ?_, fun l S' σ hk he => ?_, fun v σ hk he => ?_⟩)
   ·split at hk
    ·rename_i v hv
     rw [handle_inj hk] at h2
     exact .ent (Ent.trans he (extr_ent hv)) (ihy A _ kn ke kr r Q hly h2 hp)
    ·cases hk
   ·split at hk
    ·rename_i v hv
     rw [handle_inj hk] at h2
     exact hp.exit id _ σ hb h2 (Ent.trans he (extr_ent hv))
    ·cases hk
   ·split at hk
    ·rename_i v hv
     rw [handle_inj hk] at h2
     exact hp.jump l _ σ h2 (Ent.trans he (extr_ent hv))
    ·cases hk
   ·rw [handle_inj hk] at h2
    exact hp.ret v σ h2 he
 | block id x ih =>
  intro A S kn ke kr r Q hl h hp
  simp only [ex] at h
  split at h
  ·rename_i hb
   refine .block (ih A S kn _ kr r _ hl h ⟨fun S' σ hk he => hp.norm S' σ hk he, fun id' S' σ hb' hk he => ?_, fun l S' σ hk he => ?_, fun v σ hk he => hp.ret v σ hk he⟩)
   ·simp only [eBlock]
    split at hk
    ·rename_i e; rw [if_pos e]; exact hp.norm S' σ hk he
    ·rename_i e; rw [if_neg e]; exact hp.exit id' S' σ hb' hk he
   ·simp only [eBlock]
    rw [if_neg (fun e => by rw [← e, blt_jump] at hb; cases hb)] at hk
    exact hp.jump l S' σ hk he
  ·cases h
 | cond c x y ihx ihy =>
  intro A S kn ke kr r Q hl h hp
  obtain ⟨hlx, hly⟩ := hl
  simp only [ex] at h
  split at h
  ·rename_i t
   split at h
   ·rename_i b hb
    have hev : ev (encS V S) (.tmp t) = .d (.v (.bool b)) := by
     rw [ev_enc]
     simp only [tev, TS.get, hb, Option.getD_some, encV, encD]
    have hset : ∀ b', b = b' → Ent (encS V S) (encS V (setB S t b')) := fun b' e C E M a w hs => ⟨E, M, setB_sim (by rw [hb, e]) hs⟩
    cases b with
    | true =>
     rw [if_pos rfl] at h
     exact .cond hev (fun _ => .ent (hset true rfl) (ihx A _ kn ke kr r Q hlx h hp)) (fun e => by cases e)
    | false =>
     rw [if_neg (by simp)] at h
     exact .cond hev (fun e => by cases e) (fun _ => .ent (hset false rfl) (ihy A _ kn ke kr r Q hly h hp))
   ·cases h
  ·rename_i b
   have hev : ev (encS V S) (.const (.bool b)) = .d (.v (.bool b)) := rfl
   cases b with
   | true => exact .cond hev (fun _ => ihx A _ kn ke kr r Q hlx h hp) (fun e => by cases e)
   | false => exact .cond hev (fun e => by cases e) (fun _ => ihy A _ kn ke kr r Q hly h hp)
  ·cases h
 | region id ops draw =>
  intro A S kn ke kr r Q _ h hp
  have key : ∀ {B : Type} (k : TS V.N → Option B) (s : B), regx X id ops draw S k = some s → (∀ S' σ, k S' = some s → Ent σ (encS V S') → Q .normal σ) → AWp C (.region id ops draw) (encS V S) Q := by
   intro B k s hr hq
   cases draw with
   | false =>
    simp only [regx] at hr
    rw [← hP, ← hn.1] at hr
    intro E M a w hs
    refine wp_region ?_
    have := txs_sound (C := C) (ops := ops) (Q := fun e a' w' => ∃ S' E' M', Q e S' ∧ Sim C E' M' S' a' w') (hP ▸ hcall) hn.2 ops.toList 0 S k E M a w (by simp) hr hs
     fun S' E' M' a' w' hk hs' => ⟨_, E', M', hq S' _ hk (Ent.refl _), hs'⟩
    have e : (List.range ops.toList.length).map (0 + ·) = List.range ops.size := by simp
    rw [e] at this
    exact this
   | true =>
    simp only [regx] at hr
    have one : ∀ (ops : Array Oper), regd X ops S k = some s → aopsT C.P C.wr X.nm ops.toList ops.toList (encS V S) [] (fun S' tr => drawOk ops.toList tr = true ∧ Q .normal S') := by
     intro ops hr
     simp only [regd] at hr
     rw [hP]
     have h2 := txd_sound (W := C.wr) hcall (fun o ho => dstOk_wr hn.2 (by rw [hn.1]; exact ho)) ops.toList S (encS V S) [] _ hr (Rl.refl S)
     refine aopsT_mono (fun σ' tr' ⟨S', hrl, hk⟩ => ?_) h2
     split at hk
     ·rename_i hd; exact ⟨hd, hq S' σ' hk hrl.ent⟩
     ·cases hk
    have tree : ∀ (t : PT) (ops : Array Oper), regT X S k t ops = some s → PT.ok C X.nm (encS V S) (Q .normal) t ops := by
     intro t
     induction t with
     | leaf => intro ops hr; exact one ops hr
     | node i j ta tb iha ihb =>
      intro ops hr
      simp only [regT] at hr
      split at hr
      ·rename_i hf
       obtain ⟨h1, h2⟩ := both_some hr
       simp only [pairFits, Bool.and_eq_true, Bool.not_eq_true', Nat.blt_eq] at hf
       obtain ⟨⟨f1, f2⟩, f3⟩ := hf
       exact ⟨⟨(fun e => by rw [e, Nat.beq_refl] at f1; cases f1), f2, f3⟩, iha _ h1, ihb _ h2⟩
      ·cases hr
    exact .drawT X.nm (X.pair id) (by rw [hP]; exact hm) (tree _ _ hr)
  simp only [ex] at h
  split at h
  ·exact key kn r h fun S' σ hk he => hp.norm S' σ hk he
  ·rename_i cut _
   obtain ⟨v, h1, h2⟩ := some_bind h
   exact key _ v h1 fun S' σ hk he => hp.norm _ σ h2 (Ent.trans he (extr_ent hk))
 | scope x ih =>
  intro A S kn ke kr r Q hl h hp
  simp only [ex] at h
  split at h
  ·exact awp_scope (ih A S kn _ kr r _ hl.1 h ⟨fun S' σ hk he => hp.norm S' σ hk he, fun id' S' σ hb hk he => hp.exit id' S' σ hb (noJump_some hk).2 he, fun l S' σ hk he => (noJump_jump hk).elim, fun v σ hk he => hp.ret v σ hk he⟩)
  ·rename_i l la hj
   obtain ⟨rest, hf, hok⟩ := hl.2 l la hj
   refine awp_scope_jumps hf (ih A S kn _ kr r _ hl.1 h ⟨fun S' σ hk he => hp.norm S' σ hk he, fun id' S' σ hb hk he => ?_, fun l' S' σ hk he => ?_, fun v σ hk he => hp.ret v σ hk he⟩)
   ·split at hk
    ·rename_i e
     have := Nat.eq_of_beq_eq_true e
     rw [this, blt_jump] at hb; cases hb
    ·exact hp.exit id' S' σ hb (noJump_some hk).2 he
   ·split at hk
    ·rename_i e
     have e := Nat.eq_of_beq_eq_true e
     refine ⟨by omega, ?_⟩
     split at hk
     ·cases hk
     ·rename_i v hv
      obtain ⟨out, h1, h2⟩ := some_bind hk
      refine .ent (Ent.trans he (extr_ent hv)) ((hok v out h1).mono fun e σ hq => ?_)
      unfold OutQ at hq
      split at hq
      ·obtain ⟨hb, w, hw1, hw2⟩ := hq
       rw [handle_inj hw1] at h2
       exact hp.exit _ _ σ hb h2 hw2
      ·obtain ⟨w, hw1, hw2⟩ := hq
       rw [handle_inj hw1] at h2
       exact hp.ret w σ h2 hw2
      ·exact hq.elim
    ·exact (noJump_jump hk).elim
 | loop b ih =>
  intro A S kn ke kr r Q hl h hp
  simp only [ex] at h
  split at h
  ·cases h
  ·rename_i la hla
   split at h
   ·cases h
   ·rename_i v hv
    obtain ⟨out, h1, h2⟩ := some_bind h
    refine .ent (extr_ent hv) ((AWpL.loop (hl la hla v out h1)).mono fun e σ hq => ?_)
    unfold OutQ at hq
    split at hq
    ·obtain ⟨hb, w, hw1, hw2⟩ := hq
     rw [handle_inj hw1] at h2
     exact hp.exit _ _ σ hb h2 hw2
    ·obtain ⟨w, hw1, hw2⟩ := hq
     rw [handle_inj hw1] at h2
     exact hp.ret w σ h2 hw2
    ·exact hq.elim
 | _ => intro A S kn ke kr r Q _ h hp; simp only [ex] at h; cases h
theorem loop_step {C : Ctx} {X : Xc V} (hP : C.P = X.P) (hn : C.N = X.n ∧ Fx C X.pre) (hm : X.P.follows .mixedOrders = true) (hcall : CallerOk X.P X.call) {b : Code} (hl : LOk C X b) {cut : Cut V.ι} {alts : List Alt}
  {F : HL V.N cut.tys → Option (OutT (altTys X.sh []) alts)} (ih : ∀ v out, F v = some out → AWpL C b (encS V (conc V cut v)) (OutQ X.sh alts out)) {v : HL V.N cut.tys} {out : OutT (altTys X.sh []) alts}
  (h : exL X b cut alts F v = some out) : AWpL C b (encS V (conc V cut v)) (OutQ X.sh alts out) := by
 refine AWpL.round (ex_sound hP hn hm hcall b _ _ _ _ _ out _ hl h ⟨fun S' σ hk he => ?_, fun id S' σ hb hk he => ?_, fun l S' σ hk he => (noJump_jump hk).elim, fun v σ hk he => ?_⟩)
 ·split at hk
  ·rename_i w hw; exact .ent (Ent.trans he (extr_ent hw)) (ih w out hk)
  ·cases hk
 ·have hk := (noJump_some hk).2
  split at hk
  ·rename_i w hw; exact ⟨hb, w, hk, Ent.trans he (extr_ent hw)⟩
  ·cases hk
 ·exact ⟨v, hk, he⟩
end
end Go.Tx
end
section
namespace Go.Tx
open Go.Awp
variable [Inhabited GMem]
def FnEndL (P : Program) (rs : List ResultVar) (r : H) (own' : List (Nat × Own)) (e : Exit) (S : AState) : Prop :=
 (e = .normal ∨ e = .ret) ∧ ∃ S', Ent S S' ∧ ∃ h, resH P S' rs = some h ∧ H.le h r ∧ ∀ n o, gt own' n = some o → S'.own? n = some o
theorem fn_of_awpL {P : Program} {f : FuncId} {fn : Func} {c : Code} {args : List H} {own own' : List (Nat × Own)} {r : H} (hf : P.funcs[f]? = some fn) (hb : fn.body = some c)
  (hname : (fn.name != "runtime.NumGoroutine") = true) (hn : args.length ≤ fn.ntmps)
  (h : ∀ C : Ctx, C.P = P → C.N = fn.ntmps ∧ C.fix = [] → AWp C c ⟨startT 0 args, startO own⟩ (FnEndL P fn.results.toList r own')) : FnOk P f args own r own' := by
 refine ⟨by simp [callable, hf, hb, hname], fun E M w vs hgm hm how hvs => ?_⟩
 refine calls_of_wp hf hb ?_
 let C : Ctx := ⟨P, fn.ntmps, w, M, E, inExt E w own, hgm, fun b ⟨n, o, hn, hb⟩ => ((how.ok n o hn).block hb).2, [], []⟩
 have hs : Sim C E M ⟨startT 0 args, startO own⟩ { tmps := vs ++ Array.replicate (fn.ntmps - vs.size) undef, defers := [] } w := by
  have hvs1 := hvs.1
  refine { size := by simp [C]; omega, defers := rfl, fixed := fun p hp => (by cases hp), tmps := fun t x hx => ?_, mem := hm, own := fun n o ho => ?_, apart := fun n m o o' b hne ho ho' => ?_, home := fun n o b ho hb => ?_, m0 := Mem.le_refl M, mnew := fun b o v hv => .inl hv, frame := fun _ _ _ => rfl, grows := Nat.le_refl _, os := rfl, tape := rfl, output := rfl, env := fun _ _ => rfl }
  ·obtain ⟨_, h2⟩ := gt_startT args 0 t x hx
   simp only [Nat.sub_zero] at h2
   have hlt : t < vs.size := by have := (List.getElem?_eq_some_iff.1 h2).1; omega
   exact ⟨vs[t], by simp [Array.getElem?_append_left hlt, hlt], hvs.2 t _ x (Array.getElem?_eq_getElem hlt) h2⟩
  ·have ho' : gt own n = some o := by rw [← gt_startO]; exact ho
   exact how.ok n o ho'
  ·have h1 : gt own n = some o := by rw [← gt_startO]; exact ho
   have h2 : gt own m = some o' := by rw [← gt_startO]; exact ho'
   exact how.apart n m o o' b hne h1 h2
  ·have h1 : gt own n = some o := by rw [← gt_startO]; exact ho
   exact .inl ⟨n, o, h1, hb⟩
 refine wp_mono (h C rfl ⟨rfl, rfl⟩ E M _ w hs) ?_
 rintro e a' w' ⟨S', E', M', ⟨he, S'', hent, hh, hres, hle, hown⟩, hs'⟩
 obtain ⟨E2, M2, hs2⟩ := hent C E' M' a' w' hs'
 obtain ⟨v, hrun, hrep⟩ := run_resH (C := C) hs2 hres
 have hpost : FnPost E M own w v r own' E2 M2 w' :=
  { rep := hle _ _ _ hrep, owns := ⟨fun n o ho => hs2.own n o (hown n o ho), fun n m o o' b hne h1 h2 => hs2.apart n m o o' b hne (hown n o h1) (hown m o' h2)⟩, mle := hs2.m0, mem := hs2.mem, mnew := hs2.mnew, home := fun n o b ho hb => hs2.home n o b (hown n o ho) hb, frame := hs2.frame, grows := hs2.grows, os := hs2.os, tape := hs2.tape, output := hs2.output, env := hs2.env }
 rcases he with rfl | rfl
 ·exact ⟨hs2.defers, v, hrun, v, E2, M2, rfl, hpost⟩
 ·exact ⟨hs2.defers, v, hrun, v, E2, M2, rfl, hpost⟩
section
variable (V : View)
structure Sig where
 params : List (Pt V.ι)
 objs : List (Nat × OPt V.ι) := []
 rcut : Cut V.ι
 rvars : List ResultVar
 keep : List Nat := []
variable {V}
def Sig.tys (sig : Sig V) : List (Ty V.ι) := ptsTys sig.params ++ objTys sig.objs
def enumT {α : Type} : Nat → List α → List (Nat × α)
 | _, [] => []
 | i, x :: r => (i, x) :: enumT (i + 1) r
def startOs (sig : Sig V) (v : HL V.N sig.tys) : List (TV V.N) × List (Nat × TO V.N) := match bdL V sig.params (ofHL sig.tys v) with
 | some (xs, ls) => match bdO V sig.objs ls with
  | some os => (xs, os)
  | none => ([], [])
 | none => ([], [])
def startS (sig : Sig V) (v : HL V.N sig.tys) : TS V.N := { tmps := enumT 0 (startOs sig v).1, own := (startOs sig v).2 }
def resV1 (P : Program) (S : TS V.N) : ResultVar → Option (TV V.N)
 | .tmp t => gt S.tmps t
 | .cell a t => match gt S.tmps a with
  | some (.bp n off) => match tyLoad P t with
   | some (ag, sz) => match wholeV V ag off sz (V.ty t) (S.own? n) with
    | some v => some v
    | none => match boxC V (S.own? n) with
     | some cells => loadV V false ag sz (V.ty t) (cells.drop off)
     | none => none
   | none => none
  | _ => none
def resVL (P : Program) (S : TS V.N) : List ResultVar → Option (List (TV V.N))
 | [] => some []
 | x :: r => match resV1 P S x, resVL P S r with
  | some h, some l => some (h :: l)
  | _, _ => none
def oneV : List (TV V.N) → TV V.N
 | [x] => x
 | l => .tup l
def resV (P : Program) (sig : Sig V) (r : HL V.N sig.rcut.tys) : Option (TV V.N) := (resVL P (conc V sig.rcut r) sig.rvars).map oneV
def encOs (ω : Nat → Nat) (os : List (Nat × TO V.N)) : List (Nat × Own) := os.filterMap fun p => (encO V ω p.2).map fun o => (p.1, o)
def kept (sig : Sig V) (r : HL V.N sig.rcut.tys) : List (Nat × TO V.N) := (conc V sig.rcut r).own.filter fun p => sig.keep.contains p.1
def SigOk (P : Program) (fid : FuncId) (sig : Sig V) (F : HL V.N sig.tys → Option (HL V.N sig.rcut.tys)) : Prop :=
 ∀ v r x, F v = some r → resV P sig r = some x →
  FnOk P fid (encL V (startS sig v).len (startOs sig v).1) (encOs (startS sig v).len (startS sig v).own) (encV V (conc V sig.rcut r).len x) (encOs (conc V sig.rcut r).len (kept sig r))
noncomputable def exF (X : Xc V) (sig : Sig V) (h : X.sh.rcut = sig.rcut) (c : Code) (v : HL V.N sig.tys) : Option (HL V.N sig.rcut.tys) :=
 ex X c _ (startS sig v) (fun S => extr V sig.rcut S) (fun _ _ => none) (fun r => some (h ▸ r))
theorem gt_filterMap {α β : Type} {f : α → Option β} : ∀ {l : List (Nat × α)} {n : Nat} {y : β}, gt (l.filterMap fun p => (f p.2).map fun o => (p.1, o)) n = some y → ∃ x, (n, x) ∈ l ∧ f x = some y
 | [], n, y, h => by simp [gt] at h
 | (k, x) :: r, n, y, h => by
  rw [List.filterMap_cons] at h
  cases hx : f x with
  | none =>
   simp only [hx, Option.map_none] at h
   obtain ⟨z, h1, h2⟩ := gt_filterMap h
   exact ⟨z, List.mem_cons_of_mem _ h1, h2⟩
  | some z =>
   simp only [hx, Option.map_some, gt_cons] at h
   by_cases hk : k = n
   ·rw [if_pos hk] at h; cases h; subst hk; exact ⟨x, List.mem_cons_self, hx⟩
   ·rw [if_neg hk] at h
    obtain ⟨w, h1, h2⟩ := gt_filterMap h
    exact ⟨w, List.mem_cons_of_mem _ h1, h2⟩
def distinct : List Nat → Bool
 | [] => true
 | x :: r => !r.contains x && distinct r
theorem gt_distinct {α : Type} : ∀ {l : List (Nat × α)} {n : Nat} {x : α}, distinct (l.map (·.1)) = true → (n, x) ∈ l → gt l n = some x
 | [], n, x, _, h => by cases h
 | (k, y) :: r, n, x, hd, h => by
  simp only [List.map_cons, distinct, Bool.and_eq_true] at hd
  rw [gt_cons]
  rcases List.mem_cons.1 h with he | h
  ·simp only [Prod.mk.injEq] at he
   obtain ⟨rfl, rfl⟩ := he
   rw [if_pos rfl]
  ·have : k ≠ n := by
    intro e; subst e
    have h1 := hd.1
    have : k ∈ r.map (·.1) := List.mem_map_of_mem h
    simp at h1
    simp at this
    exact h1 _ this.choose_spec
   rw [if_neg this]
   exact gt_distinct hd.2 h
theorem resH_sound {P : Program} {S : TS V.N} : ∀ {rs : List ResultVar} {vs : List (TV V.N)}, resVL P S rs = some vs →
  ∃ hs, resList P (encS V S) rs = some hs ∧ hs.length = vs.length ∧ ∀ (i : Nat) (v : TV V.N), vs[i]? = some v → ∃ h, hs[i]? = some h ∧ H.le h (encV V S.len v)
 | [], vs, h => by simp [resVL] at h; subst h; exact ⟨[], rfl, rfl, fun i v hv => by simp at hv⟩
 | x :: r, vs, h => by
  simp only [resVL] at h
  split at h
  ·rename_i v l h1 h2
   simp at h; subst h
   obtain ⟨hs, g1, g2, g3⟩ := resH_sound h2
   have : ∃ y, resOne P (encS V S) x = some y ∧ H.le y (encV V S.len v) := by
    cases x with
    | tmp t =>
     simp only [resV1] at h1
     refine ⟨(encS V S).get t, rfl, ?_⟩
     unfold AState.get
     rw [encS_gt, h1]
     exact H.le.refl _
    | cell a t =>
     simp only [resV1] at h1
     split at h1
     ·rename_i n off hn
      have hg : (encS V S).get a = .bp n off := by
       unfold AState.get
       rw [encS_gt, hn]; simp [encV]
      split at h1
      ·rename_i ag sz ht
       split at h1
       ·rename_i w hw
        simp only [Option.some.injEq] at h1; subst h1
        unfold wholeV at hw
        split at hw
        ·rename_i i y hnn
         have hw' := if_some hw; clear hw
         obtain ⟨⟨e1, e2, e3, hot⟩, hw⟩ := hw'
         subst e1; subst e2; subst e3
         simp only [Option.some.injEq] at hw; subst hw
         have hb : boxC V (S.own? n) = some ((V.cells i y).map fun l => .lf l.t l.x) := by rw [hnn]; rfl
         have hl : (V.enc i y).length = V.sz i := by rw [V.enc_cells, List.length_map, V.len_cells]
         refine ⟨encV V S.len (.lf (.st i) y), ?_, H.le.refl _⟩
         simp only [resOne, hg, own_boxC hb, ht, bst_enc, loadC, List.drop_zero, encV_st, List.length_map]
         rw [if_pos (by omega), List.take_of_length_le (by rw [List.length_map]; omega), mkAgg, allD_map]
        ·cases hw
       ·split at h1
        ·rename_i cells hc
         obtain ⟨y, k1, k2, _⟩ := loadV_sound (ω := S.len) h1
         rw [encL_drop] at k1
         refine ⟨y, ?_, k2⟩
         simp only [resOne, hg, own_boxC hc, ht, k1]
        ·cases h1
      ·cases h1
     ·cases h1
   obtain ⟨y, y1, y2⟩ := this
   refine ⟨y :: hs, by simp only [resList, y1, g1], by simp [g2], fun i w hw => ?_⟩
   cases i with
   | zero => simp at hw; subst hw; exact ⟨y, rfl, y2⟩
   | succ i => obtain ⟨z, z1, z2⟩ := g3 i w (by simpa using hw); exact ⟨z, by simpa using z1, z2⟩
  ·cases h
theorem startT_enum {ω : Nat → Nat} : ∀ (l : List (TV V.N)) (i : Nat), startT i (encL V ω l) = (enumT i l).map fun p => (p.1, encV V ω p.2)
 | [], i => rfl
 | x :: r, i => by simp [encL, startT, enumT, startT_enum r (i + 1)]
theorem bdL_len : ∀ {ps : List (Pt V.ι)} {ls ls' : List (Leaf V.N)} {xs : List (TV V.N)}, bdL V ps ls = some (xs, ls') → xs.length = ps.length
 | [], ls, ls', xs, h => by simp [bdL] at h; rw [h.1]; rfl
 | p :: r, ls, ls', xs, h => by
  simp only [bdL] at h
  split at h
  ·rename_i x l1 h1
   split at h
   ·rename_i ys l2 h2
    simp at h
    rw [← h.1]
    simp [bdL_len h2]
   ·cases h
  ·cases h
theorem bdO_names : ∀ {objs : List (Nat × OPt V.ι)} {ls : List (Leaf V.N)} {os : List (Nat × TO V.N)}, bdO V objs ls = some os → os.map (·.1) = objs.map (·.1)
 | [], [], os, h => by simp [bdO] at h; subst h; rfl
 | [], _ :: _, os, h => by simp [bdO] at h
 | (c, .box oty ps) :: r, ls, os, h => by
  simp only [bdO] at h
  split at h
  ·split at h
   ·rename_i os' h2
    simp at h; subst h
    simp [bdO_names h2]
   ·cases h
  ·cases h
 | (c, .st i) :: r, [], os, h => by simp [bdO] at h
 | (c, .vec te e) :: r, [], os, h => by simp [bdO] at h
 | (c, .st i) :: r, ⟨t, x⟩ :: ls, os, h => by
  cases t <;> simp only [bdO] at h <;> first
   | (cases h; done)
   | (split at h
      ·split at h
       ·rename_i os' h2
        simp at h; subst h
        simp [bdO_names h2]
       ·cases h
      ·cases h)
 | (c, .vec te e) :: r, ⟨t, x⟩ :: ls, os, h => by
  cases t <;> simp only [bdO] at h <;> first
   | (cases h; done)
   | (split at h
      ·split at h
       ·rename_i os' h2
        simp at h; subst h
        simp [bdO_names h2]
       ·cases h
      ·cases h)
 | (c, .dvec te e true) :: r, [], os, h => by simp [bdO] at h
 | (c, .dvec te e false) :: r, [], os, h => by simp [bdO] at h
 | (c, .dvec te e true) :: r, ⟨t, x⟩ :: ls, os, h => by
  cases t <;> first
   | (simp [bdO] at h; done)
   | (rename_i t2; cases t2 <;> first
    | (simp [bdO] at h; done)
    | (simp only [bdO] at h
       split at h
       ·split at h
        ·rename_i os' h2
         simp at h; subst h
         simp [bdO_names h2]
        ·cases h
       ·cases h))
 | (c, .dvec te e false) :: r, ⟨t, x⟩ :: ls, os, h => by
  cases t <;> simp only [bdO] at h <;> first
   | (cases h; done)
   | (split at h
      ·split at h
       ·rename_i os' h2
        simp at h; subst h
        simp [bdO_names h2]
       ·cases h
      ·cases h)
 | (c, .iter) :: r, [], os, h => by simp [bdO] at h
 | (c, .iter) :: r, [⟨t, x⟩], os, h => by
  cases t <;> simp [bdO] at h
 | (c, .iter) :: r, ⟨t, x⟩ :: ⟨t2, x2⟩ :: ls, os, h => by
  cases t <;> first
   | (simp [bdO] at h; done)
   | (cases t2 <;> first
    | (simp [bdO] at h; done)
    | (rename_i ki; cases ki <;> first
     | (simp [bdO] at h; done)
     | (simp only [bdO] at h
        split at h
        ·rename_i os' h2
         simp at h; subst h
         simp [bdO_names h2]
        ·cases h)))
 | (c, .miter cm k v) :: r, [], os, h => by simp [bdO] at h
 | (c, .miter cm k v) :: r, [⟨t, x⟩], os, h => by
  cases t <;> simp [bdO] at h
 | (c, .miter cm k v) :: r, ⟨t, x⟩ :: ⟨t2, x2⟩ :: ls, os, h => by
  cases t <;> first
   | (simp [bdO] at h; done)
   | (cases t2 <;> first
    | (simp [bdO] at h; done)
    | (simp only [bdO] at h
       split at h
       ·split at h
        ·rename_i os' h2
         simp at h; subst h
         simp [bdO_names h2]
        ·cases h
       ·cases h))
 | (c, .map tk tv) :: r, [], os, h => by simp [bdO] at h
 | (c, .map tk tv) :: r, ⟨t, x⟩ :: ls, os, h => by
  cases t <;> simp only [bdO] at h <;> first
   | (cases h; done)
   | (split at h
      ·split at h
       ·rename_i os' h2
        simp at h; subst h
        simp [bdO_names h2]
       ·cases h
      ·cases h)
theorem build_names (c : Cut V.ι) (ls : List (Leaf V.N)) (h : distinct (c.objs.map (·.1)) = true) : distinct ((build V c ls).own.map (·.1)) = true := by
 unfold build
 split
 ·split
  ·rename_i os ho
   simp only
   rw [bdO_names ho]; exact h
  ·rfl
 ·rfl
theorem gt_encOs {ω : Nat → Nat} : ∀ {os : List (Nat × TO V.N)} {n : Nat} {x : TO V.N} {o : Own}, gt os n = some x → encO V ω x = some o → gt (encOs ω os) n = some o
 | [], n, x, o, h, _ => by simp [gt] at h
 | (k, y) :: r, n, x, o, h, ho => by
  rw [gt_cons] at h
  unfold encOs
  rw [List.filterMap_cons]
  by_cases hk : k = n
  ·rw [if_pos hk] at h; cases h
   simp only [ho, Option.map_some, gt_cons]
   rw [if_pos hk]
  ·rw [if_neg hk] at h
   have ih := gt_encOs (ω := ω) h ho
   unfold encOs at ih
   cases hy : encO V ω y with
   | none => simp only [hy, Option.map_none]; exact ih
   | some z =>
    simp only [hy, Option.map_some, gt_cons]
    rw [if_neg hk]; exact ih
theorem fn_ok {X : Xc V} {sig : Sig V} (hsh : X.sh.rcut = sig.rcut) {fid : FuncId} {fn : Func} {c : Code} (hf : X.P.funcs[fid]? = some fn) (hb : fn.body = some c) (hn : fn.ntmps = X.n) (hrs : fn.results.toList = sig.rvars)
  (hname : (fn.name != "runtime.NumGoroutine") = true) (hlen : Nat.ble sig.params.length X.n = true) (hm : X.P.follows .mixedOrders = true) (hcall : CallerOk X.P X.call)
  (hdr : distinct (sig.rcut.objs.map (·.1)) = true) (hl : ∀ C : Ctx, C.P = X.P → C.N = X.n ∧ Fx C X.pre → LOk C X c) {v : HL V.N sig.tys} {r : HL V.N sig.rcut.tys} (h : exF X sig hsh c v = some r) :
  ∀ x, resV X.P sig r = some x →
   FnOk X.P fid (encL V (startS sig v).len (startOs sig v).1) (encOs (startS sig v).len (startS sig v).own) (encV V (conc V sig.rcut r).len x) (encOs (conc V sig.rcut r).len (kept sig r)) := by
 obtain ⟨params, objs, rcut, rvars, keep⟩ := sig
 simp only at hsh
 subst hsh
 intro x hx
 have hargs : (startOs ⟨params, objs, X.sh.rcut, rvars, keep⟩ v).1.length ≤ X.n := by
  have hp : params.length ≤ X.n := Nat.le_of_ble_eq_true hlen
  unfold startOs
  split
  ·rename_i xs ls h1
   split
   ·simp only; rw [bdL_len h1]; exact hp
   ·simp
  ·simp
 refine fn_of_awpL hf hb hname (by rw [encL_len, hn]; exact hargs) fun C hP hN => ?_
 have hent : Ent ⟨startT 0 (encL V (startS ⟨params, objs, X.sh.rcut, rvars, keep⟩ v).len (startOs ⟨params, objs, X.sh.rcut, rvars, keep⟩ v).1), startO (encOs (startS ⟨params, objs, X.sh.rcut, rvars, keep⟩ v).len (startS ⟨params, objs, X.sh.rcut, rvars, keep⟩ v).own)⟩
   (encS V (startS ⟨params, objs, X.sh.rcut, rvars, keep⟩ v)) := by
  refine Ent.le (fun t y hy => ⟨y, ?_, H.le.refl _⟩) fun n o ho => ⟨o, ?_, OLe.refl _⟩
  ·rw [startT_enum]; exact hy
  ·rw [encS_own?, Option.bind_eq_some_iff] at ho
   obtain ⟨o', ho', hoo⟩ := ho
   have := gt_encOs (os := (startS ⟨params, objs, X.sh.rcut, rvars, keep⟩ v).own) ho' hoo
   unfold AState.own?
   rw [gt_startO]
   exact this
 have hend : ∀ e σ, (e = .normal ∨ e = .ret) → Ent σ (encS V (conc V X.sh.rcut r)) →
   FnEndL X.P fn.results.toList (encV V (conc V X.sh.rcut r).len x) (encOs (conc V X.sh.rcut r).len (kept ⟨params, objs, X.sh.rcut, rvars, keep⟩ r)) e σ := by
  intro e σ he hσ
  unfold resV at hx
  rw [Option.map_eq_some_iff] at hx
  obtain ⟨vs, hvs, hone⟩ := hx
  obtain ⟨hs, g1, g2, g3⟩ := resH_sound hvs
  have hh : ∃ y, resH X.P (encS V (conc V X.sh.rcut r)) fn.results.toList = some y ∧ H.le y (encV V (conc V X.sh.rcut r).len x) := by
   rw [hrs]
   unfold resH
   rw [g1]
   cases vs with
   | nil =>
    have : hs = [] := List.eq_nil_of_length_eq_zero (by simpa using g2)
    subst this; subst hone
    exact ⟨.tup [], rfl, by simp only [oneV, encV, encL]; exact H.le.refl _⟩
   | cons a l =>
    cases l with
    | nil =>
     cases hs with
     | nil => simp at g2
     | cons y l' =>
      have : l' = [] := List.eq_nil_of_length_eq_zero (by simpa using g2)
      subst this; subst hone
      obtain ⟨z, z1, z2⟩ := g3 0 a rfl
      simp at z1; subst z1
      exact ⟨y, rfl, z2⟩
    | cons b l =>
     cases hs with
     | nil => simp at g2
     | cons y l' =>
      cases l' with
      | nil => simp at g2
      | cons y2 l2 =>
       subst hone
       refine ⟨.tup (y :: y2 :: l2), rfl, ?_⟩
       simp only [oneV, encV]
       refine tup_le (by rw [encL_len]; exact g2) fun i w hw => ?_
       rw [encL_map, List.getElem?_map, Option.map_eq_some_iff] at hw
       obtain ⟨u, hu, rfl⟩ := hw
       exact g3 i u hu
  obtain ⟨y, hy1, hy2⟩ := hh
  refine ⟨he, _, hσ, y, hy1, hy2, fun n o ho => ?_⟩
  obtain ⟨o', h1, h2⟩ := gt_filterMap ho
  have h1 : (n, o') ∈ (conc V X.sh.rcut r).own := (List.mem_filter.1 h1).1
  have := gt_distinct (build_names X.sh.rcut _ hdr) h1
  rw [encS_own?]
  unfold TS.own?
  unfold conc at *
  rw [this]
  exact h2
 refine .ent hent (ex_sound hP ⟨by rw [hN.1, hn], fun p hp => (by rw [hN.2] at hp; cases hp)⟩ hm hcall c _ _ _ _ _ r _ (hl C hP ⟨by rw [hN.1, hn], fun p hp => (by rw [hN.2] at hp; cases hp)⟩) h ⟨fun S σ hk he => ?_, fun id S σ _ hk he => (by cases hk), fun l S σ hk he => (by cases hk), fun w σ hk he => ?_⟩)
 ·exact hend _ σ (.inl rfl) (Ent.trans he (extr_ent hk))
 ·have : w = r := by simpa using hk
  subst this
  exact hend _ σ (.inr rfl) he
end
end Go.Tx
end
section
namespace Go.Tx
open Go.Awp
variable [Inhabited GMem]
section
variable {V : View}
mutual
def TV.plain : TV V.N → Bool
 | .lf .. => true
 | .raw _ => true
 | .rp .. => true
 | .junk => true
 | .agg cs => TV.plainL cs
 | .tup vs => TV.plainL vs
 | .fn _ a b => TV.plainL a && TV.plainL b
 | _ => false
def TV.plainL : List (TV V.N) → Bool
 | [] => true
 | x :: r => TV.plain x && TV.plainL r
end
mutual
theorem plain_has : ∀ {x : TV V.N}, TV.plain x = true → ∀ n, TV.has n x = false
 | .lf .., _, n => by simp [TV.has]
 | .raw _, _, n => by simp [TV.has]
 | .rp .., _, n => by simp [TV.has]
 | .junk, _, n => by simp [TV.has]
 | .agg cs, h, n => by simp only [TV.plain] at h; simp only [TV.has]; exact plainL_has h n
 | .tup cs, h, n => by simp only [TV.plain] at h; simp only [TV.has]; exact plainL_has h n
 | .fn f a b, h, n => by
  simp only [TV.plain, Bool.and_eq_true] at h
  simp only [TV.has, plainL_has h.1 n, plainL_has h.2 n]; rfl
 | .bp .., h, n => by simp [TV.plain] at h
 | .vh .., h, n => by simp [TV.plain] at h
 | .ep .., h, n => by simp [TV.plain] at h
 | .sv .., h, n => by simp [TV.plain] at h
 | .mp .., h, n => by simp [TV.plain] at h
 | .np .., h, n => by simp [TV.plain] at h
 | .sd .., h, n => by simp [TV.plain] at h
theorem plainL_has : ∀ {l : List (TV V.N)}, TV.plainL l = true → ∀ n, TV.hasL n l = false
 | [], _, n => by simp [TV.hasL]
 | x :: r, h, n => by
  simp only [TV.plainL, Bool.and_eq_true] at h
  simp only [TV.hasL, plain_has h.1 n, plainL_has h.2 n]; rfl
end
theorem plain_enc {x : TV V.N} (h : TV.plain x = true) (ω ω' : Nat → Nat) : encV V ω' x = encV V ω x := encV_congr x fun n hn => by rw [plain_has h n] at hn; cases hn
def Ty.flat {ι : Type} : Ty ι → Bool
 | .int _ => true
 | .bool => true
 | .str => true
 | _ => false
def flat1 : TV V.N → Bool
 | .lf t x => (rcells V t x).all fun l => l.t.flat
 | _ => false
def flatV : TV V.N → Bool
 | .tup vs => vs.all flat1
 | x => flat1 x
theorem flat1_plain {x : TV V.N} (h : flat1 x = true) : TV.plain x = true := by
 cases x <;> first | rfl | (simp [flat1] at h; done)
theorem flat_plain {x : TV V.N} (h : flatV x = true) : TV.plain x = true := by
 cases x with
 | tup vs =>
  simp only [flatV, List.all_eq_true] at h
  simp only [TV.plain]
  have : ∀ l : List (TV V.N), (∀ x ∈ l, flat1 x = true) → TV.plainL l = true := by
   intro l
   induction l with
   | nil => intro _; rfl
   | cons y r ih => intro h; simp only [TV.plainL, Bool.and_eq_true]; exact ⟨flat1_plain (h y List.mem_cons_self), ih fun x hx => h x (List.mem_cons_of_mem _ hx)⟩
  exact this vs h
 | lf t x => rfl
 | raw _ => rfl
 | rp a b c => rfl
 | junk => rfl
 | agg cs => simp [flatV, flat1] at h
 | fn f a b => simp [flatV, flat1] at h
 | bp a b => simp [flatV, flat1] at h
 | vh a => simp [flatV, flat1] at h
 | ep a b c d => simp [flatV, flat1] at h
 | sv a b c d => simp [flatV, flat1] at h
 | mp a => simp [flatV, flat1] at h
 | np a b => simp [flatV, flat1] at h
 | sd a => simp [flatV, flat1] at h
theorem encD_flat {l : Leaf V.N} (h : l.t.flat = true) {M M' : Mem} {v : Value} (hv : DRep M v (encD V.sz V.enc l.t l.x)) : DRep M' v (encD V.sz V.enc l.t l.x) := by
 obtain ⟨t, x⟩ := l
 cases t with
 | int k => simp only [encD] at hv ⊢; cases hv; exact .v _
 | bool => simp only [encD] at hv ⊢; cases hv; exact .v _
 | str => simp only [encD] at hv ⊢; cases hv; exact .v _
 | st i => simp [Ty.flat] at h
 | sl e => simp [Ty.flat] at h
 | mp k v => simp [Ty.flat] at h
 | er => simp [Ty.flat] at h
 | op e => simp [Ty.flat] at h
 | fnc => simp [Ty.flat] at h
theorem flat1_any {x : TV V.N} (h : flat1 x = true) {ω : Nat → Nat} {E E' : Env} {M M' : Mem} {v : Value} (hv : HRep E M v (encV V ω x)) : HRep E' M' v (encV V ω x) := by
 cases x with
 | lf t x =>
  simp only [flat1, List.all_eq_true] at h
  simp only [encV] at hv ⊢
  cases hv with
  | d hd =>
   refine .d ?_
   cases t with
   | st i =>
    simp only [encD] at hd ⊢
    rw [V.enc_cells] at hd ⊢
    cases hd with
    | agg cs _ hl hh =>
     refine .agg cs _ hl fun k c y hc hy => ?_
     rw [List.getElem?_map] at hy
     cases hq : (V.cells i x)[k]? with
     | none => rw [hq] at hy; cases hy
     | some l =>
      rw [hq] at hy; simp at hy; subst hy
      exact encD_flat (h l (List.mem_of_getElem? hq)) (hh k c _ hc (by rw [List.getElem?_map, hq]; rfl))
   | int k => exact encD_flat (l := ⟨.int k, x⟩) rfl hd
   | bool => exact encD_flat (l := ⟨.bool, x⟩) rfl hd
   | str => exact encD_flat (l := ⟨.str, x⟩) rfl hd
   | sl e => simp [rcells, Ty.flat] at h
   | mp k v => simp [rcells, Ty.flat] at h
   | er => simp [rcells, Ty.flat] at h
   | op e => simp [rcells, Ty.flat] at h
   | fnc => simp [rcells, Ty.flat] at h
 | _ => simp [flat1] at h
theorem flat_any {x : TV V.N} (h : flatV x = true) {ω : Nat → Nat} {E E' : Env} {M M' : Mem} {v : Value} (hv : HRep E M v (encV V ω x)) : HRep E' M' v (encV V ω x) := by
 cases x with
 | tup vs =>
  simp only [flatV, List.all_eq_true] at h
  simp only [encV] at hv ⊢
  obtain ⟨cs, rfl, h1, h2⟩ := hv.htup
  refine .tup cs _ h1 fun i c y hc hy => ?_
  rw [encL_map, List.getElem?_map] at hy
  cases hq : vs[i]? with
  | none => rw [hq] at hy; cases hy
  | some u =>
   rw [hq] at hy; simp at hy; subst hy
   exact flat1_any (h u (List.mem_of_getElem? hq)) (h2 i c _ hc (by rw [encL_map, List.getElem?_map, hq]; rfl))
 | lf t x => exact flat1_any (x := .lf t x) (by simpa [flatV] using h) hv
 | _ => simp [flatV, flat1] at h
def LentTo (own : List (Nat × Own)) (a a0 : H) : Prop := ∀ (E : Env) (M : Mem) (w : World) (v : Value), M.le (memOf w) → Owns E M w own → HRep E M v a → HRep E (memOf w) v a0
theorem LentTo.le {own : List (Nat × Own)} {a a0 : H} (h : H.le a a0) : LentTo own a a0 := fun E M w v hM _ hv => (h E M v hv).le hM
theorem LentTo.agg {own : List (Nat × Own)} {l l0 : List H} (hl : l0.length = l.length) (h : ∀ (i : Nat) (a a0 : H), l[i]? = some a → l0[i]? = some a0 → LentTo own a a0) : LentTo own (.agg l) (.agg l0) := fun E M w v hM ho hv => by
 obtain ⟨cs, rfl, h1, h2⟩ := hv.hagg
 refine .agg cs l0 (by omega) fun i c x hc hx => ?_
 have hi : i < l.length := by rw [← hl]; exact (List.getElem?_eq_some_iff.1 hx).1
 exact h i _ x (List.getElem?_eq_getElem hi) hx E M w c hM ho (h2 i c _ hc (List.getElem?_eq_getElem hi))
theorem LentTo.vh {own : List (Nat × Own)} {n e sz : Nat} {rows : List (List D)} (h1 : gt own n = some (.vec e sz rows)) : LentTo own (.vh n rows.length) (.d (.sl sz rows)) := fun E M w v hM ho hca => by
 obtain ⟨xs, g1, g2, g3, g4⟩ := ho.ok n _ h1
 refine .d ?_
 cases hca with
 | vh n len l cc a hE hle =>
  rcases g1.2 with ⟨hnil, hz⟩ | ⟨g, cap, cur, hE', hbg, hg, hnc, hcm, hcs, htake⟩
  ·rw [hE] at hnil
   simp only [Value.slice.injEq] at hnil
   obtain ⟨rfl, rfl, rfl⟩ := hnil
   have : rows = [] := List.eq_nil_of_length_eq_zero hz
   subst this
   exact .slnil sz
  ·rw [hE] at hE'
   simp only [Value.slice.injEq] at hE'
   obtain ⟨rfl, rfl, rfl⟩ := hE'
   refine .sl g 0 _ _ sz rows (fun k => xs.getD k undef) rfl hnc g2 (fun k hk => ?_) fun i j r x hr' hx => ?_
   ·have hxk : k < xs.length := by rw [g1.1]; exact hk
    obtain ⟨u, hu⟩ : ∃ u, xs[k]? = some u := ⟨_, List.getElem?_eq_getElem hxk⟩
    have hq : w.cell? ⟨g, k, none⟩ = some u := by
     rw [cell_of_row w g k cur e (0, 0) hg]
     have hu' := hu
     rw [← htake, List.getElem?_take, if_pos hk] at hu'
     simpa using hu'
    simp [memOf, hq, hu]
   ·have hlr := g2 r (List.mem_of_getElem? hr')
    have hir : i < rows.length := (List.getElem?_eq_some_iff.1 hr').1
    have hj : j < sz := by have := (List.getElem?_eq_some_iff.1 hx).1; omega
    have hmul : (i + 1) * sz ≤ rows.length * sz := Nat.mul_le_mul_right _ hir
    rw [Nat.succ_mul] at hmul
    have hxk : i * sz + j < xs.length := by rw [g1.1]; omega
    have := g3 i j r xs[i * sz + j] x hr' hx (List.getElem?_eq_getElem hxk)
    have hg' : xs.getD (i * sz + j) undef = xs[i * sz + j] := by simp [hxk]
    rw [hg']
    exact this.mono hM
theorem LentTo.dvh {own : List (Nat × Own)} {n e sz : Nat} {rows : List (List DD)} {ds : List (List D)} (h1 : gt own n = some (.dvec e sz rows)) (hd : DD.toR rows = some ds) : LentTo own (.vh n rows.length) (.d (.sl sz ds)) := fun E M w v hM ho hca => by
 have hok := ho.ok n _ h1
 obtain ⟨ad, cap, hE⟩ := hok.dlen
 have hv := vh_val hca hE
 subst hv
 obtain ⟨B, g1, g2, g3⟩ := hok
 exact .d (g1.frozen hM (fun b _ o v hv => hv) (xs := [.sl sz ds]) (by simp [DD.toL, DD.toD, hd]) 0 _ _ rfl rfl)
def lentO : TO V.N → Option (Leaf V.N)
 | .vec _ e xs => some ⟨.sl e, xs⟩
 | .dvec _ e ys => some ⟨.sl e, ys⟩
 | _ => none
theorem lentO_enc {o : TO V.N} {l0 : Leaf V.N} (h : lentO o = some l0) : ∃ x : Own, (∀ ω, encO V ω o = some x) ∧ ∀ (own : List (Nat × Own)) (n : Nat), gt own n = some x → LentTo own (.vh n (TO.len (some o))) (.d (encD V.sz V.enc l0.t l0.x)) := by
 unfold lentO at h
 split at h
 ·rename_i te e xs
  cases h
  refine ⟨_, fun ω => rfl, fun own n hn => ?_⟩
  have := LentTo.vh hn
  rw [List.length_map] at this
  exact this
 ·rename_i te e ys
  cases h
  refine ⟨_, fun ω => rfl, fun own n hn => ?_⟩
  have := LentTo.dvh hn (rows_toR ys)
  rw [List.length_map] at this
  simpa [TO.len, encD] using this
 ·cases h
theorem lend {P : Program} {f : FuncId} {args0 args : List H} {r : H} {own : List (Nat × Own)} (h : FnOk P f args0 [] r []) (hl : args.length = args0.length)
  (ha : ∀ (i : Nat) (a a0 : H), args[i]? = some a → args0[i]? = some a0 → LentTo own a a0)
  (hr : ∀ (E E' : Env) (M M' : Mem) (v : Value), HRep E M v r → HRep E' M' v r) : FnAt P f args own r own := by
 refine ⟨h.1, fun E M w vs hgm hm ho hvs => ?_⟩
 have hM : M.le (memOf w) := fun b o v hv => hm b o v hv
 have hrep : HReps E (memOf w) vs args0 := by
  refine ⟨hvs.1.trans hl, fun i c x hc hx => ?_⟩
  have hi : i < args.length := by rw [hl]; exact (List.getElem?_eq_some_iff.1 hx).1
  have hca := hvs.2 i c _ hc (List.getElem?_eq_getElem hi)
  exact ha i _ x (List.getElem?_eq_getElem hi) hx E M w c hM ho hca
 refine (h.2 E (memOf w) w vs (hgm.mono hM fun _ _ _ => rfl) (fun b o v hv => hv) ⟨fun n o hn => by simp [gt] at hn, fun n m o o' b _ hn => by simp [gt] at hn⟩ hrep).mono ?_
 rintro e w' ⟨v, E', M', rfl, hp⟩
 have hfr : ∀ b, b < w.heap.size → w'.heap[b]? = w.heap[b]? := fun b hb => hp.frame b hb fun ⟨n, o, hn, _⟩ => by simp [gt] at hn
 have hft : ∀ n o, gt own n = some o → ∀ b, o.foot w' (E n) b → o.foot w (E n) b := fun n o hn b hb => ((ho.ok n o hn).foot_keep (fun b hb => hfr b ((ho.ok n o hn).block hb).1) b).1 hb
 refine ⟨v, E, M, rfl, { rep := hr _ _ _ _ _ hp.rep, owns := ⟨fun n o hn => ?_, fun n m o o' b hne hn hm hb hb' => ho.apart n m o o' b hne hn hm (hft n o hn b hb) (hft m o' hm b hb')⟩, mle := Mem.le_refl _, mem := fun b o v hv => hp.mem b o v (hp.mle b o v (hm b o v hv)), mnew := fun b o v hv => .inl hv, home := fun n o b hn hb => .inl ⟨n, o, hn, hft n o hn b hb⟩, frame := fun k hk _ => hfr k hk, grows := hp.grows, os := hp.os, tape := hp.tape, output := hp.output, env := fun _ _ => rfl }, fun _ _ => rfl⟩
 have hok := ho.ok n o hn
 refine hok.keep rfl (fun b hb => hfr b (hok.block hb).1) (fun _ _ => rfl) (Mem.le_refl _) fun b hb => (hok.block hb).2
def argC (S : TS V.N) : List (Ty V.ι) → List (TV V.N) → Option (List (Nat × TO V.N) × List (Leaf V.N))
 | [], [] => some ([], [])
 | .sl _ :: ts, .vh n :: xs => match S.own? n with
  | some o => match lentO o with
   | some l0 => match argC S ts xs with
    | some (l, ls) => some ((n, o) :: l, l0 :: ls)
    | none => none
   | none => none
  | _ => none
 | t :: ts, x :: xs => match leafOf V false t x with
  | some l0 => match argC S ts xs with
   | some (l, ls) => some (l, l0 :: ls)
   | none => none
  | none => none
 | _, _ => none
def hasVh : List (TV V.N) → Bool
 | [] => false
 | .vh _ :: _ => true
 | _ :: r => hasVh r
def arg1 (S : TS V.N) : Pt V.ι → TV V.N → Option (List (Nat × TO V.N) × List (Leaf V.N))
 | .dat (.sl e), .vh n => match S.own? n with
  | some o => match lentO o with
   | some l0 => if l0.t = .sl e then some ([(n, o)], [l0]) else none
   | none => none
  | _ => none
 | .dat (.st i), .agg vs => match hasVh vs with
  | true => match argC S (V.tys i) vs with
   | some (p :: l, ls) => match V.ofCells i ls with
    | some y => some (p :: l, [⟨.st i, y⟩])
    | none => none
   | _ => none
  | false => match mt1 V [] (.dat (.st i)) (.agg vs) with
   | some (_, ls) => some ([], ls)
   | none => none
 | .dat t, x => match mt1 V [] (.dat t) x with
  | some (_, ls) => some ([], ls)
  | none => none
 | .fn f [] [], .fn f' [] [] => if f = f' then some ([], []) else none
 | _, _ => none
def argsL (S : TS V.N) : List (Pt V.ι) → List (TV V.N) → Option (List (Nat × TO V.N) × List (Leaf V.N))
 | [], [] => some ([], [])
 | p :: ps, x :: xs => match arg1 S p x with
  | some (l, ls) => match argsL S ps xs with
   | some (l', ls') => some (l ++ l', ls ++ ls')
   | none => none
  | none => none
 | _, _ => none
def callPure (P : Program) (sig : Sig V) (F : HL V.N sig.tys → Option (HL V.N sig.rcut.tys)) (A : Type) (args : List (TV V.N)) (S : TS V.N) (k : TE V.N → Option A) : Option A :=
 match argsL S sig.params args with
 | some (lent, ls) => match toHL sig.tys ls with
  | some v => F v >>= fun r => match resV P sig r with
   | some x => match lent with
    | [] => match TV.plain x with
     | true => k { val := x }
     | false => none
    | p :: l => match flatV x with
     | true => k { val := x, acc := (p :: l).map (·.1), upd := (p :: l) ++ (p :: l).map fun q => (q.1, .gone (TO.len (some q.2))) }
     | false => none
   | none => none
  | none => none
 | none => none
theorem mt1_dat {σ σ' : Names} {t : Ty V.ι} {x : TV V.N} {ls : List (Leaf V.N)} (h : mt1 V σ (.dat t) x = some (σ', ls)) : σ' = σ := by
 cases x with
 | lf t' y =>
  simp only [mt1] at h
  have := (if_some h).2
  simp only [Option.some.injEq, Prod.mk.injEq] at this
  exact this.1.symm
 | raw v =>
  unfold mt1 at h
  split at h <;> first
   | (simp only [Option.some.injEq, Prod.mk.injEq] at h; exact h.1.symm)
   | (cases h; done)
   | contradiction
 | agg cs =>
  unfold mt1 at h
  split at h <;> first
   | (split at h
      ·simp only [Option.some.injEq, Prod.mk.injEq] at h; exact h.1.symm
      ·cases h)
   | (cases h; done)
   | contradiction
 | _ => simp [mt1] at h
theorem LentTo.pre {own : List (Nat × Own)} {a b c : H} (h : H.le a b) (k : LentTo own b c) : LentTo own a c := fun E M w v hM ho hv => k E M w v hM ho (h E M v hv)
theorem LentTo.post {own : List (Nat × Own)} {a b c : H} (h : LentTo own a b) (k : H.le b c) : LentTo own a c := fun E M w v hM ho hv => k E _ v (h E M w v hM ho hv)
def Among (own : List (Nat × Own)) (l : List (Nat × TO V.N)) : Prop := ∀ n o, (n, o) ∈ l → ∀ x, (∀ ω, encO V ω o = some x) → gt own n = some x
theorem argC_sound {S : TS V.N} : ∀ {ts : List (Ty V.ι)} {xs : List (TV V.N)} {l : List (Nat × TO V.N)} {ls : List (Leaf V.N)}, argC S ts xs = some (l, ls) →
  xs.length = ls.length ∧ (∀ n o, (n, o) ∈ l → S.own? n = some o ∧ ∃ l0, lentO o = some l0) ∧
   ∀ own : List (Nat × Own), Among own l → ∀ (i : Nat) (x : TV V.N) (l0 : Leaf V.N), xs[i]? = some x → ls[i]? = some l0 → LentTo own (encV V S.len x) (.d (encD V.sz V.enc l0.t l0.x))
 | [], [], l, ls, h => by
  simp [argC] at h; obtain ⟨rfl, rfl⟩ := h
  exact ⟨rfl, fun n o hm => by simp at hm, fun own _ i x l0 hx => by simp at hx⟩
 | [], _ :: _, l, ls, h => by simp [argC] at h
 | _ :: _, [], l, ls, h => by unfold argC at h; split at h <;> first | (cases h; done) | contradiction
 | t :: ts, x :: xs, l, ls, h => by
  unfold argC at h
  split at h
  ·rename_i heq _; cases heq
  ·rename_i e ts' n xs' heq1 heq2
   simp only [List.cons.injEq] at heq1 heq2
   obtain ⟨rfl, rfl⟩ := heq1
   obtain ⟨rfl, rfl⟩ := heq2
   split at h
   ·rename_i o hn
    split at h
    ·rename_i l00 hl0
     split at h
     ·rename_i l' ls' h2
      simp at h; obtain ⟨rfl, rfl⟩ := h
      obtain ⟨b1, b2, b3⟩ := argC_sound h2
      refine ⟨by simp [b1], fun m o hm => ?_, fun own hown i y l0 hy hl => ?_⟩
      ·rcases List.mem_cons.1 hm with he | hm
       ·simp only [Prod.mk.injEq] at he
        obtain ⟨rfl, rfl⟩ := he
        exact ⟨hn, _, hl0⟩
       ·exact b2 m o hm
      ·cases i with
       | zero =>
        simp at hy hl; subst hy; subst hl
        obtain ⟨x, x1, x2⟩ := lentO_enc hl0
        have := x2 own n (hown n o List.mem_cons_self x x1)
        simp only [encV]
        unfold TS.len
        rw [hn]; exact this
       | succ i => exact b3 own (fun m a hm => hown m a (List.mem_cons_of_mem _ hm)) i y l0 (by simpa using hy) (by simpa using hl)
     ·cases h
    ·cases h
   ·cases h
  ·rename_i t' ts' x' xs' _ heq1 heq2
   simp only [List.cons.injEq] at heq1 heq2
   obtain ⟨rfl, rfl⟩ := heq1
   obtain ⟨rfl, rfl⟩ := heq2
   split at h
   ·rename_i l0 hl
    split at h
    ·rename_i l' ls' h2
     simp at h; obtain ⟨rfl, rfl⟩ := h
     obtain ⟨b1, b2, b3⟩ := argC_sound h2
     refine ⟨by simp [b1], b2, fun own hown i y l1 hy hl1 => ?_⟩
     cases i with
     | zero =>
      simp at hy hl1; subst hy; subst hl1
      have hls : leavesOf V false [t] [x] = some [l0] := by simp [leavesOf, hl]
      obtain ⟨ds, e1, e2, _⟩ := leavesOf_sound (ω := S.len) hls
      simp only [encL] at e1
      obtain ⟨d, hd⟩ : ∃ d, ds = [d] := by
       match ds, e1 with
       | [d], _ => exact ⟨d, rfl⟩
       | [], e1 => simp at e1
       | _ :: _ :: _, e1 => simp at e1
      subst hd
      simp only [List.map_cons, List.map_nil, List.cons.injEq, and_true] at e1
      rw [e1]
      obtain ⟨d0, g1, g2⟩ := e2.get 0 (encD V.sz V.enc l0.t l0.x) rfl
      simp at g1; subst g1
      refine LentTo.le fun E M a hr => ?_
      cases hr with
      | d q => exact .d (g2 M a q)
     | succ i => exact b3 own hown i y l1 (by simpa using hy) (by simpa using hl1)
    ·cases h
   ·cases h
  ·cases h
theorem arg1_sound {S : TS V.N} {p : Pt V.ι} {x : TV V.N} {l : List (Nat × TO V.N)} {ls : List (Leaf V.N)} (h : arg1 S p x = some (l, ls)) :
  (∃ x0, (∀ rest, bd1 V p (ls ++ rest) = some (x0, rest)) ∧ ∀ ω0 : Nat → Nat, (l = [] → H.le (encV V S.len x) (encV V ω0 x0)) ∧ ∀ own, Among own l → LentTo own (encV V S.len x) (encV V ω0 x0)) ∧
    ∀ n o, (n, o) ∈ l → S.own? n = some o ∧ ∃ l0, lentO o = some l0 := by
 unfold arg1 at h
 split at h
 ·rename_i e n
  split at h
  ·rename_i o hn
   split at h
   ·rename_i l0 hl0
    have h' := if_some h; clear h
    obtain ⟨he, h⟩ := h'
    simp at h; obtain ⟨rfl, rfl⟩ := h
    refine ⟨⟨.lf l0.t l0.x, fun rest => rfl, fun ω0 => ⟨fun hl => by simp at hl, fun own hown => ?_⟩⟩, fun m o' hm => ?_⟩
    ·obtain ⟨x, x1, x2⟩ := lentO_enc hl0
     have := x2 own n (hown n o List.mem_cons_self x x1)
     simp only [encV]
     unfold TS.len
     rw [hn]; exact this
    ·simp at hm
     obtain ⟨rfl, rfl⟩ := hm
     exact ⟨hn, l0, hl0⟩
   ·cases h
  ·cases h
 ·rename_i i vs
  split at h
  ·split at h
   ·rename_i p0 l0 ls0 hC
    split at h
    ·rename_i y hy
     simp at h; obtain ⟨rfl, rfl⟩ := h
     obtain ⟨b1, b2, b3⟩ := argC_sound hC
     refine ⟨⟨.lf (.st i) y, fun rest => rfl, fun ω0 => ⟨fun hl => by simp at hl, fun own hown => ?_⟩⟩, b2⟩
     have hc := V.of_cells i ls0 y hy
     simp only [encV, encD]
     refine LentTo.pre (mkAgg_to _) (LentTo.post (LentTo.agg (l0 := ls0.map fun l => .d (encD V.sz V.enc l.t l.x)) (by rw [List.length_map, encL_len]; exact b1.symm) fun i a a0 ha ha0 => ?_) ?_)
     ·rw [encL_map, List.getElem?_map, Option.map_eq_some_iff] at ha
      rw [List.getElem?_map, Option.map_eq_some_iff] at ha0
      obtain ⟨u, hu, rfl⟩ := ha
      obtain ⟨l1, hl1, rfl⟩ := ha0
      exact b3 own hown i u l1 hu hl1
     ·have e1 : V.enc i y = ls0.map fun l => encD V.sz V.enc l.t l.x := by rw [V.enc_cells, hc]
      have := mkAgg_of ((ls0.map fun l => encD V.sz V.enc l.t l.x).map H.d)
      rw [mkAgg, allD_map] at this
      rw [e1]
      rw [List.map_map] at this
      exact this
    ·cases h
   ·cases h
  ·split at h
   ·rename_i σ ls' h1
    simp at h; obtain ⟨rfl, rfl⟩ := h
    obtain ⟨_, _, _, x0, a1, a2⟩ := mt1_sound h1
    have hσ := mt1_dat h1
    subst hσ
    have hle : ∀ ω0 : Nat → Nat, H.le (encV V S.len (.agg vs)) (encV V ω0 x0) := fun ω0 E M v hv => a2 [] [] E E M S.len ω0 v (Sub.refl _) rfl ⟨fun c n hc => by simp [gt] at hc, fun c n hc => by simp at hc⟩ hv
    exact ⟨⟨x0, a1, fun ω0 => ⟨fun _ => hle ω0, fun own _ => LentTo.le (hle ω0)⟩⟩, fun n o hm => by simp at hm⟩
   ·cases h
 ·rename_i t x' hne hne2
  split at h
  ·rename_i σ ls' h1
   simp at h; obtain ⟨rfl, rfl⟩ := h
   obtain ⟨_, _, _, x0, a1, a2⟩ := mt1_sound h1
   have hσ := mt1_dat h1
   subst hσ
   have hle : ∀ ω0 : Nat → Nat, H.le (encV V S.len x) (encV V ω0 x0) := fun ω0 E M v hv => a2 [] [] E E M S.len ω0 v (Sub.refl _) rfl ⟨fun c n hc => by simp [gt] at hc, fun c n hc => by simp at hc⟩ hv
   exact ⟨⟨x0, a1, fun ω0 => ⟨fun _ => hle ω0, fun own _ => LentTo.le (hle ω0)⟩⟩, fun n o hm => by simp at hm⟩
  ·cases h
 ·rename_i f f'
  have h' := if_some h; clear h
  obtain ⟨he, h⟩ := h'
  subst he
  simp at h; obtain ⟨rfl, rfl⟩ := h
  have hle : ∀ ω0 : Nat → Nat, H.le (encV V S.len (.fn f [] [])) (encV V ω0 (.fn f [] [] : TV V.N)) := fun ω0 => by simp only [encV, encL]; exact H.le.refl _
  exact ⟨⟨.fn f [] [], fun rest => rfl, fun ω0 => ⟨fun _ => hle ω0, fun own _ => LentTo.le (hle ω0)⟩⟩, fun n o hm => by simp at hm⟩
 ·cases h
theorem argsL_sound {S : TS V.N} : ∀ {ps : List (Pt V.ι)} {xs : List (TV V.N)} {l : List (Nat × TO V.N)} {ls : List (Leaf V.N)}, argsL S ps xs = some (l, ls) →
  ∃ xs0 : List (TV V.N), xs0.length = xs.length ∧ (∀ rest, bdL V ps (ls ++ rest) = some (xs0, rest)) ∧ (∀ (i : Nat) (x x0 : TV V.N), xs[i]? = some x → xs0[i]? = some x0 →
   ∀ ω0 : Nat → Nat, (l = [] → H.le (encV V S.len x) (encV V ω0 x0)) ∧ ∀ own, Among own l → LentTo own (encV V S.len x) (encV V ω0 x0)) ∧
   ∀ n o, (n, o) ∈ l → S.own? n = some o ∧ ∃ l0, lentO o = some l0
 | [], [], l, ls, h => by
  simp [argsL] at h; obtain ⟨rfl, rfl⟩ := h
  exact ⟨[], rfl, fun rest => rfl, fun i x x0 hx => by simp at hx, fun n o hm => by simp at hm⟩
 | [], _ :: _, l, ls, h => by simp [argsL] at h
 | _ :: _, [], l, ls, h => by simp [argsL] at h
 | p :: ps, x :: xs, l, ls, h => by
  simp only [argsL] at h
  split at h
  ·rename_i l1 ls1 h1
   split at h
   ·rename_i l2 ls2 h2
    simp at h; obtain ⟨rfl, rfl⟩ := h
    obtain ⟨⟨x0, a1, a2⟩, a3⟩ := arg1_sound h1
    obtain ⟨xs0, b1, b2, b3, b4⟩ := argsL_sound h2
    refine ⟨x0 :: xs0, by simp [b1], fun rest => by simp only [bdL, List.append_assoc, a1, b2], fun i y y0 hy hy0 ω0 => ?_, fun n o hm => ?_⟩
    ·cases i with
     | zero =>
      simp at hy hy0; subst hy; subst hy0
      exact ⟨fun hl => (a2 ω0).1 (List.append_eq_nil_iff.1 hl).1, fun own hown => (a2 ω0).2 own fun m a hm => hown m a (List.mem_append_left _ hm)⟩
     | succ i =>
      have := b3 i y y0 (by simpa using hy) (by simpa using hy0) ω0
      exact ⟨fun hl => this.1 (List.append_eq_nil_iff.1 hl).2, fun own hown => this.2 own fun m a hm => hown m a (List.mem_append_right _ hm)⟩
    ·rcases List.mem_append.1 hm with hm | hm
     ·exact a3 n o hm
     ·exact b4 n o hm
   ·cases h
  ·cases h
theorem newNames_sub {own : List (Nat × Own)} : ∀ {l : List (Nat × Own)}, (∀ p ∈ l, ∃ o, gt own p.1 = some o) → newNames own l = []
 | [], _ => rfl
 | (n, o) :: r, h => by
  obtain ⟨o', ho⟩ := h (n, o) List.mem_cons_self
  simp only at ho
  simp only [newNames, ho]
  exact newNames_sub fun p hp => h p (List.mem_cons_of_mem _ hp)
theorem callPure_ok {P : Program} {fid : Nat} {sig : Sig V} {F : HL V.N sig.tys → Option (HL V.N sig.rcut.tys)} (hF : SigOk P fid sig F) (ho : sig.objs = []) (hk0 : sig.keep = []) {A : Type} {args : List (TV V.N)} {S : TS V.N} {dst : Option Tmp}
  {k : TE V.N → Option A} {r : A} (h : callPure P sig F A args S k = some r) :
  ∃ te, k te = some r ∧ good S te ∧ ACall P fid (encL V S.len args) (encS V S).own? fun e' => ELe true e' (encE (S.app dst te).len te) := by
 unfold callPure at h
 split at h
 ·rename_i lent ls hargs
  split at h
  ·rename_i v hv
   obtain ⟨y, hy, h⟩ := some_bind h
   split at h
   ·rename_i x hx
    have hc := hF v y x hy hx
    have hkept : kept sig y = [] := by
     unfold kept
     rw [hk0, List.filter_eq_nil_iff]
     intro p _; simp
    rw [hkept] at hc
    obtain ⟨xs0, b1, b2, b3, b4⟩ := argsL_sound hargs
    have hls := toHL_of hv
    have hst : startOs sig v = (xs0, []) := by
     unfold startOs
     rw [hls]
     have := b2 []
     rw [List.append_nil] at this
     rw [this, ho]
     rfl
    have hown0 : (startS sig v).own = [] := by unfold startS; rw [hst]
    rw [hst, hown0] at hc
    simp only [encOs, List.filterMap_nil] at hc
    generalize (startS sig v).len = ω0 at hc
    cases lent with
    | nil =>
     simp only at h
     split at h
     ·rename_i hpl
      refine ⟨_, h, good_val S x [], ?_⟩
      have hw := hc.weak (args' := encL V S.len args) (by rw [encL_len, encL_len]; exact b1.symm) fun i a a0 ha ha0 => by
       rw [encL_map, List.getElem?_map, Option.map_eq_some_iff] at ha ha0
       obtain ⟨u, hu, rfl⟩ := ha
       obtain ⟨u0, hu0, rfl⟩ := ha0
       exact (b3 i u u0 hu hu0 ω0).1 rfl
      have hplH : H.plain (encV V (conc V sig.rcut y).len x) = true := by
       have : ∀ z : H, (∀ n, H.has n z = false) → H.plain z = true := by
        intro z
        refine H.rec (motive_1 := fun z => (∀ n, H.has n z = false) → H.plain z = true) (motive_2 := fun l => (∀ n, H.hasL n l = false) → H.plainL l = true) ?_ ?_ ?_ ?_ ?_ ?_ ?_ ?_ ?_ ?_ ?_ ?_ ?_ ?_ z
        ·intro _ _; rfl
        ·intro _; rfl
        ·intro m o hn; have := hn m; simp [H.has] at this
        ·intro m o hn; have := hn m; simp [H.has] at this
        ·intro m s i o hn; have := hn m; simp [H.has] at this
        ·intro m s i o hn; have := hn m; simp [H.has] at this
        ·intro m hn; have := hn m; simp [H.has] at this
        ·intro m b hn; have := hn m; simp [H.has] at this
        ·intro m hn; have := hn m; simp [H.has] at this
        ·intro cs ih hn; simp only [H.plain]; exact ih fun n => by have := hn n; simpa [H.has] using this
        ·intro cs ih hn; simp only [H.plain]; exact ih fun n => by have := hn n; simpa [H.has] using this
        ·intro f a b ih1 ih2 hn
         simp only [H.plain, Bool.and_eq_true]
         exact ⟨ih1 fun n => by have := hn n; simp only [H.has, Bool.or_eq_false_iff] at this; exact this.1, ih2 fun n => by have := hn n; simp only [H.has, Bool.or_eq_false_iff] at this; exact this.2⟩
        ·intro _; rfl
        ·intro x r ih1 ih2 hn
         simp only [H.plainL, Bool.and_eq_true]
         exact ⟨ih1 fun n => by have := hn n; simp only [H.hasL, Bool.or_eq_false_iff] at this; exact this.1, ih2 fun n => by have := hn n; simp only [H.hasL, Bool.or_eq_false_iff] at this; exact this.2⟩
       exact this _ fun n => by rw [encV_has]; exact plain_has hpl n
      refine acall_pure hw hplH ?_
      exact ele_eq (dst := dst) (l := []) (plain_enc hpl _ _)
     ·cases h
    | cons p l =>
     simp only at h
     split at h
     ·rename_i hfl
      generalize hL : p :: l = L at h hargs b3 b4
      have hpl := flat_plain hfl
      refine ⟨_, h, fun m o hm => ?_, ?_⟩
      ·right
       simp only [gt_app] at hm
       cases hq : gt L m with
       | some o' =>
        rw [hq] at hm; simp at hm; subst hm
        obtain ⟨h2, _⟩ := b4 m o' (gt_mem hq)
        unfold TS.len; rw [h2]
       | none =>
        rw [hq] at hm
        have hm' := gt_mem hm
        obtain ⟨q, hq1, hq2⟩ := List.mem_map.1 hm'
        simp only [Prod.mk.injEq] at hq2
        obtain ⟨rfl, rfl⟩ := hq2
        obtain ⟨h2, _⟩ := b4 q.1 q.2 hq1
        unfold TS.len; rw [h2]; rfl
      ·let own : List (Nat × Own) := L.filterMap fun q => (encO V S.len q.2).map fun o => (q.1, o)
       have hmap : ∀ l' : List (Nat × TO V.N), (∀ n o, (n, o) ∈ l' → S.own? n = some o ∧ ∃ l0, lentO o = some l0) → ∀ ω : Nat → Nat,
         l'.map (fun q => (q.1, encO V ω q.2)) = (l'.filterMap fun q => (encO V S.len q.2).map fun o => (q.1, o)).map (fun q => (q.1, some q.2)) ∧
         (l'.map fun q : Nat × TO V.N => (q.1, TO.gone (N := V.N) (TO.len (some q.2)))).map (fun q => (q.1, encO V ω q.2)) = (l'.filterMap fun q => (encO V S.len q.2).map fun o => (q.1, o)).map (fun q => (q.1, none)) ∧
         l'.map (·.1) = (l'.filterMap fun q => (encO V S.len q.2).map fun o => (q.1, o)).map (·.1) := by
        intro l'
        induction l' with
        | nil => intro _ ω; exact ⟨rfl, rfl, rfl⟩
        | cons q r ih =>
         intro hq ω
         obtain ⟨n, o⟩ := q
         obtain ⟨h2, l00, hl0⟩ := hq n o List.mem_cons_self
         obtain ⟨i1, i2, i3⟩ := ih (fun n o hm => hq n o (List.mem_cons_of_mem _ hm)) ω
         obtain ⟨x0, e0, _⟩ := lentO_enc hl0
         simp only [List.filterMap_cons, e0, Option.map_some, List.map_cons]
         rw [i1, i2, i3]
         exact ⟨rfl, rfl, rfl⟩
       have hgt : ∀ n x, gt own n = some x → ∃ o, (n, o) ∈ L ∧ S.own? n = some o ∧ encO V S.len o = some x := by
        intro n x hn
        obtain ⟨z, h1, h2⟩ := gt_filterMap hn
        exact ⟨z, h1, (b4 n z h1).1, h2⟩
       have hgt' : ∀ n o, (n, o) ∈ L → ∀ x, (∀ ω, encO V ω o = some x) → gt own n = some x := by
        intro n o hn x hx
        have hkey : n ∈ own.map (·.1) := by rw [← (hmap L b4 S.len).2.2]; exact List.mem_map_of_mem (f := (·.1)) hn
        obtain ⟨x', hxx⟩ := gt_some hkey
        obtain ⟨o', h1, h2, h3⟩ := hgt n x' hxx
        rw [(b4 n o hn).1] at h2; cases h2
        rw [hx] at h3; cases h3
        exact hxx
       have hat := lend (args := encL V S.len args) (own := own) hc (by rw [encL_len, encL_len]; exact b1.symm) (fun i a a0 ha ha0 => by
        rw [encL_map, List.getElem?_map, Option.map_eq_some_iff] at ha ha0
        obtain ⟨u, hu, rfl⟩ := ha
        obtain ⟨u0, hu0, rfl⟩ := ha0
        exact (b3 i u u0 hu hu0 ω0).2 own hgt') (fun E E' M M' v hv => flat_any hfl hv)
       refine ⟨own, _, own, hat, fun q hq => ?_, ?_⟩
       ·obtain ⟨z, hz1, hz2⟩ := List.mem_filterMap.1 hq
        obtain ⟨h2, l00, hl0⟩ := b4 z.1 z.2 hz1
        obtain ⟨x0, e0, _⟩ := lentO_enc hl0
        rw [e0] at hz2
        simp only [Option.map_some, Option.some.injEq] at hz2
        subst hz2
        rw [encS_own?, h2]; exact e0 _
       ·refine ele_upd ?_ ?_ ?_ ?_
        ·exact plain_enc hpl _ _
        ·simp only [callEff]
         exact newNames_sub fun p hp => by
          obtain ⟨o, hoo⟩ := gt_some (List.mem_map_of_mem (f := (·.1)) hp)
          exact ⟨o, hoo⟩
        ·simp only [callEff, List.map_append]
         obtain ⟨i1, i2, _⟩ := hmap L b4 (S.app dst { val := x, acc := L.map (·.1), upd := L ++ L.map fun q => (q.1, .gone (TO.len (some q.2))) }).len
         rw [i1, i2]
        ·simp only [callEff]
         exact (hmap L b4 S.len).2.2.symm
     ·cases h
   ·cases h
  ·cases h
 ·cases h
end
end Go.Tx
end
section
namespace Go.Tx
open Go.Awp
variable [Inhabited GMem]
def bodyOf (f : Func) : Code := match f.body with
 | some c => c
 | none => .skip
def loopsIn : Code → List Code
 | .seq a b => loopsIn a ++ loopsIn b
 | .block _ x => loopsIn x
 | .cond _ a b => loopsIn a ++ loopsIn b
 | .loop b => [b]
 | .scope b => loopsIn b
 | _ => []
def loopNo (c : Code) (i : Nat) : Code := match (loopsIn c)[i]? with
 | some b => b
 | none => .skip
def jumpsIn : Code → List Code
 | .seq a b => jumpsIn a ++ jumpsIn b
 | .block _ x => jumpsIn x
 | .cond _ a b => jumpsIn a ++ jumpsIn b
 | .scope b => b :: jumpsIn b
 | _ => []
def AllB (p : Code → Prop) : List Code → Prop
 | [] => True
 | b :: r => p b ∧ AllB p r
theorem AllB_app {p : Code → Prop} : ∀ {l m : List Code}, AllB p (l ++ m) → AllB p l ∧ AllB p m
 | [], _, h => ⟨trivial, h⟩
 | _ :: _, _, h => ⟨⟨h.1, (AllB_app h.2).1⟩, (AllB_app h.2).2⟩
theorem kcast {a b : Prop} (h : a = b) (x : a) : b := h ▸ x
section
variable {V : View}
def LoopsP (C : Ctx) (X : Xc V) (b : Code) : Prop := ∀ la, X.loops (firstId b) = some la → LoopOk C b la
def JumpsP (C : Ctx) (X : Xc V) (x : Code) : Prop := ∀ l la, X.jumps (firstId x) = some (l, la) → JumpOk C x l la
theorem lok_all2 {C : Ctx} {X : Xc V} : ∀ {c : Code}, AllB (LoopsP C X) (loopsIn c) → AllB (JumpsP C X) (jumpsIn c) → LOk C X c := by
 intro c
 induction c with
 | seq a b iha ihb => intro h g; exact ⟨iha (AllB_app h).1 (AllB_app g).1, ihb (AllB_app h).2 (AllB_app g).2⟩
 | block id x ih => intro h g; exact ih h g
 | scope x ih => intro h g; exact ⟨ih h g.2, g.1⟩
 | cond c a b iha ihb => intro h g; exact ⟨iha (AllB_app h).1 (AllB_app g).1, ihb (AllB_app h).2 (AllB_app g).2⟩
 | loop b ih => intro h g; exact h.1
 | _ => intro _ _; trivial
theorem allB_of {p : Code → Prop} (h : ∀ b, p b) : ∀ l : List Code, AllB p l
 | [] => trivial
 | b :: r => ⟨h b, allB_of h r⟩
theorem lok_all {C : Ctx} {X : Xc V} {c : Code} (h : AllB (LoopsP C X) (loopsIn c)) (hj : ∀ k, X.jumps k = none := by intro k; rfl) : LOk C X c :=
 lok_all2 h (allB_of (fun x l la e => by rw [hj] at e; cases e) _)
theorem loop_at {C : Ctx} {X : Xc V} {b : Code} {la0 : LoopA V X.sh} (e : X.loops (firstId b) = some la0) (h : LoopOk C b la0) : LoopsP C X b := fun la hl => by
 rw [e] at hl
 cases hl
 exact h
end
end Go.Tx
end
section
namespace Go.Tx
open Go.Awp
variable [Inhabited GMem]
section
variable {ι : Type} {N : ι → Type}
mutual
def TV.ren (f : Nat → Nat) : TV N → TV N
 | .bp n o => .bp (f n) o
 | .vh n => .vh (f n)
 | .ep n s i o => .ep (f n) s i o
 | .sv n s i o => .sv (f n) s i o
 | .mp n => .mp (f n)
 | .np n b => .np (f n) b
 | .sd n => .sd (f n)
 | .agg cs => .agg (TV.renL f cs)
 | .tup vs => .tup (TV.renL f vs)
 | .fn g a b => .fn g (TV.renL f a) (TV.renL f b)
 | .lf t x => .lf t x
 | .raw v => .raw v
 | .rp t x off => .rp t x off
 | .junk => .junk
def TV.renL (f : Nat → Nat) : List (TV N) → List (TV N)
 | [] => []
 | x :: r => TV.ren f x :: TV.renL f r
end
def TO.ren (f : Nat → Nat) : TO N → TO N
 | .box o cells => .box o (TV.renL f cells)
 | .bst i x => .bst i x
 | .vec te e xs => .vec te e xs
 | .dvec te e xs => .dvec te e xs
 | .pvec te e xs => .pvec te e xs
 | .map k v es => .map k v es
 | .iter s p => .iter s p
 | .miter m k v es rest cur => .miter (f m) k v es rest cur
 | .gone l => .gone l
mutual
def TV.allN (p : Nat → Bool) : TV N → Bool
 | .bp n _ => p n
 | .vh n => p n
 | .ep n _ _ _ => p n
 | .sv n _ _ _ => p n
 | .mp n => p n
 | .np n _ => p n
 | .sd n => p n
 | .agg cs => TV.allNL p cs
 | .tup vs => TV.allNL p vs
 | .fn _ a b => TV.allNL p a && TV.allNL p b
 | .lf .. => true
 | .raw _ => true
 | .rp .. => true
 | .junk => true
def TV.allNL (p : Nat → Bool) : List (TV N) → Bool
 | [] => true
 | x :: r => TV.allN p x && TV.allNL p r
end
def TO.allN (p : Nat → Bool) : TO N → Bool
 | .box _ cells => TV.allNL p cells
 | .bst .. => true
 | .vec .. => true
 | .dvec .. => true
 | .pvec .. => true
 | .map .. => true
 | .iter .. => true
 | .miter m _ _ _ _ _ => p m
 | .gone _ => false
end
section
variable {V : View}
mutual
theorem TV.allN_has {p : Nat → Bool} {n : Nat} : ∀ {x : TV V.N}, TV.allN p x = true → TV.has n x = true → p n = true
 | .bp m o, h, hn => by simp [TV.has] at hn; subst hn; simpa [TV.allN] using h
 | .vh m, h, hn => by simp [TV.has] at hn; subst hn; simpa [TV.allN] using h
 | .ep m s i o, h, hn => by simp [TV.has] at hn; subst hn; simpa [TV.allN] using h
 | .sv m s i o, h, hn => by simp [TV.has] at hn; subst hn; simpa [TV.allN] using h
 | .mp m, h, hn => by simp [TV.has] at hn; subst hn; simpa [TV.allN] using h
 | .np m b, h, hn => by simp [TV.has] at hn; subst hn; simpa [TV.allN] using h
 | .sd m, h, hn => by simp [TV.has] at hn; subst hn; simpa [TV.allN] using h
 | .agg cs, h, hn => by simp only [TV.allN] at h; simp only [TV.has] at hn; exact TV.allNL_has h hn
 | .tup cs, h, hn => by simp only [TV.allN] at h; simp only [TV.has] at hn; exact TV.allNL_has h hn
 | .fn f a b, h, hn => by
  simp only [TV.allN, Bool.and_eq_true] at h
  simp only [TV.has, Bool.or_eq_true] at hn
  rcases hn with hn | hn
  ·exact TV.allNL_has h.1 hn
  ·exact TV.allNL_has h.2 hn
 | .lf .., h, hn => by simp [TV.has] at hn
 | .raw _, h, hn => by simp [TV.has] at hn
 | .rp .., h, hn => by simp [TV.has] at hn
 | .junk, h, hn => by simp [TV.has] at hn
theorem TV.allNL_has {p : Nat → Bool} {n : Nat} : ∀ {l : List (TV V.N)}, TV.allNL p l = true → TV.hasL n l = true → p n = true
 | [], h, hn => by simp [TV.hasL] at hn
 | x :: r, h, hn => by
  simp only [TV.allNL, Bool.and_eq_true] at h
  simp only [TV.hasL, Bool.or_eq_true] at hn
  rcases hn with hn | hn
  ·exact TV.allN_has h.1 hn
  ·exact TV.allNL_has h.2 hn
end
theorem TO.allN_has {p : Nat → Bool} {n : Nat} {o : TO V.N} (h : TO.allN p o = true) (hn : TO.has n o = true) : p n = true := by
 cases o with
 | box oty cells => exact TV.allNL_has h hn
 | bst i x => simp [TO.has] at hn
 | vec te e xs => simp [TO.has] at hn
 | dvec te e xs => simp [TO.has] at hn
 | pvec te e xs => simp [TO.has] at hn
 | map k v es => simp [TO.has] at hn
 | iter s p => simp [TO.has] at hn
 | miter m k v es rest cur => simp [TO.has] at hn; subst hn; exact h
 | gone l => simp [TO.has] at hn
mutual
theorem H.allN_of {p : Nat → Bool} : ∀ {x : H}, (∀ n, H.has n x = true → p n = true) → H.allN p x = true
 | .bp m o, h => by simp only [H.allN]; exact h m (by simp [H.has])
 | .vh m l, h => by simp only [H.allN]; exact h m (by simp [H.has])
 | .ep m s i o, h => by simp only [H.allN]; exact h m (by simp [H.has])
 | .sv m s i o, h => by simp only [H.allN]; exact h m (by simp [H.has])
 | .mp m, h => by simp only [H.allN]; exact h m (by simp [H.has])
 | .np m b, h => by simp only [H.allN]; exact h m (by simp [H.has])
 | .sd m, h => by simp only [H.allN]; exact h m (by simp [H.has])
 | .agg cs, h => by simp only [H.allN]; exact H.allNL_of fun n hn => h n (by simpa [H.has] using hn)
 | .tup cs, h => by simp only [H.allN]; exact H.allNL_of fun n hn => h n (by simpa [H.has] using hn)
 | .fn f a b, h => by
  simp only [H.allN, Bool.and_eq_true]
  exact ⟨H.allNL_of fun n hn => h n (by simp [H.has, hn]), H.allNL_of fun n hn => h n (by simp [H.has, hn])⟩
 | .d _, h => by simp [H.allN]
 | .junk, h => by simp [H.allN]
theorem H.allNL_of {p : Nat → Bool} : ∀ {l : List H}, (∀ n, H.hasL n l = true → p n = true) → H.allNL p l = true
 | [], h => by simp [H.allNL]
 | x :: r, h => by
  simp only [H.allNL, Bool.and_eq_true]
  exact ⟨H.allN_of fun n hn => h n (by simp [H.hasL, hn]), H.allNL_of fun n hn => h n (by simp [H.hasL, hn])⟩
end
theorem allD_ren (f : Nat → Nat) : ∀ l : List H, allD (H.renL f l) = allD l
 | [] => rfl
 | x :: r => by
  have ih := allD_ren f r
  cases x <;> simp [H.renL, H.ren, allD, ih]
theorem mkAgg_ren (f : Nat → Nat) (l : List H) : H.ren f (mkAgg l) = mkAgg (H.renL f l) := by
 unfold mkAgg
 rw [allD_ren]
 split <;> simp [H.ren]
theorem encRaw_ren (f : Nat → Nat) (v : Value) : H.ren f (encRaw v) = encRaw v := by cases v <;> simp [encRaw, H.ren]
mutual
theorem encV_ren {f : Nat → Nat} {ω ω' : Nat → Nat} : ∀ x : TV V.N, (∀ n, TV.has n x = true → ω' (f n) = ω n) → encV V ω' (TV.ren f x) = H.ren f (encV V ω x)
 | .bp m o, h => by simp [TV.ren, encV, H.ren]
 | .vh m, h => by simp [TV.ren, encV, H.ren, h m (by simp [TV.has])]
 | .ep m s i o, h => by simp [TV.ren, encV, H.ren]
 | .sv m s i o, h => by simp [TV.ren, encV, H.ren]
 | .mp m, h => by simp [TV.ren, encV, H.ren]
 | .np m b, h => by simp [TV.ren, encV, H.ren]
 | .sd m, h => by simp [TV.ren, encV, H.ren]
 | .agg cs, h => by simp only [TV.ren, encV, mkAgg_ren]; rw [encL_ren cs fun n hn => h n (by simpa [TV.has] using hn)]
 | .tup cs, h => by simp only [TV.ren, encV, H.ren]; rw [encL_ren cs fun n hn => h n (by simpa [TV.has] using hn)]
 | .fn g a b, h => by
  simp only [TV.ren, encV, H.ren]
  rw [encL_ren a fun n hn => h n (by simp [TV.has, hn]), encL_ren b fun n hn => h n (by simp [TV.has, hn])]
 | .lf t x, h => by simp [TV.ren, encV, H.ren]
 | .raw v, h => by simp [TV.ren, encV, encRaw_ren]
 | .rp t x o, h => by simp [TV.ren, encV, H.ren]
 | .junk, h => by simp [TV.ren, encV, H.ren]
theorem encL_ren {f : Nat → Nat} {ω ω' : Nat → Nat} : ∀ l : List (TV V.N), (∀ n, TV.hasL n l = true → ω' (f n) = ω n) → encL V ω' (TV.renL f l) = H.renL f (encL V ω l)
 | [], h => rfl
 | x :: r, h => by
  simp only [TV.renL, encL, H.renL]
  rw [encV_ren x fun n hn => h n (by simp [TV.hasL, hn]), encL_ren r fun n hn => h n (by simp [TV.hasL, hn])]
end
theorem renL_ds (f : Nat → Nat) : ∀ l : List D, H.renL f (l.map .d) = l.map .d
 | [] => rfl
 | x :: r => by simp only [List.map_cons, H.renL, H.ren, renL_ds f r]
theorem encO_ren {f : Nat → Nat} {ω ω' : Nat → Nat} (o : TO V.N) (h : ∀ n, TO.has n o = true → ω' (f n) = ω n) : encO V ω' (TO.ren f o) = (encO V ω o).map (Own.ren f) := by
 cases o with
 | box oty cells => simp only [TO.ren, encO, Option.map_some, Own.ren]; rw [encL_ren cells h]
 | bst i x => simp only [TO.ren, encO, Option.map_some, Own.ren]; rw [renL_ds]
 | vec te e xs => simp [TO.ren, encO, Own.ren]
 | dvec te e xs => simp [TO.ren, encO, Own.ren]
 | pvec te e xs => simp [TO.ren, encO, Own.ren]
 | map k v es => simp [TO.ren, encO, Own.ren]
 | iter s p => simp [TO.ren, encO, Own.ren]
 | miter m k v es rest cur => simp [TO.ren, encO, Own.ren]
 | gone l => simp [TO.ren, encO]
theorem FnAt.weak {P : Program} {f : FuncId} {args args' : List H} {own own1 own' : List (Nat × Own)} {r : H} (h : FnAt P f args own r own')
  (ha : ∀ E M vs, HReps E M vs args' → HReps E M vs args) (ho : ∀ E M w, Owns E M w own1 → Owns E M w own) (hk : ∀ n, (∃ o, gt own n = some o) ↔ ∃ o, gt own1 n = some o)
  (hf : ∀ E M w, Owns E M w own1 → ∀ b, inExt E w own b → inExt E w own1 b) : FnAt P f args' own1 r own' := by
 refine ⟨h.1, fun E M w vs hgm hm how hvs => (h.2 E M w vs hgm hm (ho E M w how) (ha E M vs hvs)).mono ?_⟩
 have hin : ∀ b, inExt E w own b → inExt E w own1 b := hf E M w how
 rintro e w' ⟨v, E', M', rfl, hp, hE⟩
 refine ⟨v, E', M', rfl, { hp with mnew := fun b o v hv => ?_, home := fun n o b hn hb => ?_, frame := fun k hk hx => hp.frame k hk fun h1 => hx (hin k h1) }, fun n hn => hE n ?_⟩
 ·rcases hp.mnew b o v hv with h1 | h1 | h1
  ·exact .inl h1
  ·exact .inr (.inl (hin b h1))
  ·exact .inr (.inr h1)
 ·rcases hp.home n o b hn hb with h1 | h1
  ·exact .inl (hin b h1)
  ·exact .inr h1
 ·rcases hn with hn | hn
  ·exact .inl hn
  ·exact .inr ((hk n).2 hn)
end
end Go.Tx
end
section
namespace Go.Tx
open Go.Awp
variable [Inhabited GMem]
section
variable {V : View}
def isIn (n : Nat) : List Nat → Bool
 | [] => false
 | k :: r => Nat.beq k n || isIn n r
def newN (ks : List Nat) : List Nat → List Nat
 | [] => []
 | n :: r => match isIn n ks with
  | true => newN ks r
  | false => n :: newN ks r
def callNew : Nat → Names → List Nat → Names
 | _, σ, [] => σ
 | b, σ, c :: r => match gt σ c with
  | some _ => callNew b σ r
  | none => callNew (b + 1) ((c, b) :: σ) r
def callIn (sig : Sig V) : Bool := sig.params.all (vhIn V sig.objs) && sig.objs.all (fun p => match p.2 with
 | .box _ ps => ps.all (vhIn V sig.objs)
 | _ => true) && sig.objs.all (fun p => Nat.ble given p.1)
def stays (S : TS V.N) (n : Nat) : TO V.N → Bool
 | .box _ _ => Nat.beq (S.len n) 0
 | .bst _ _ => Nat.beq (S.len n) 0
 | .map _ _ _ => Nat.beq (S.len n) 0
 | .iter _ _ => Nat.beq (S.len n) 0
 | .vec _ _ _ => true
 | .dvec _ _ _ => true
 | .pvec _ _ _ => true
 | _ => false
def callOut (S : TS V.N) (sig : Sig V) (τ : Names) (x : TV V.N) (os : List (Nat × TO V.N)) : Bool :=
 σok τ && os.all (fun p => Nat.ble given p.1 || Nat.blt (σf τ p.1) given) && TV.allN (fun n => (gt os n).isSome) x && os.all (fun p => TO.allN (fun n => (gt os n).isSome) p.2) &&
  os.all (fun p => !isIn p.1 (sig.objs.map (·.1)) || stays S (σf τ p.1) p.2) && distinct (os.map (·.1))
def keepLens (S : TS V.N) (ks : List Nat) (τ : Names) : List (Nat × TO V.N) → List (Nat × Nat)
 | [] => []
 | (c, o) :: r => match o with
  | .vec _ _ xs => match isIn c ks with
   | true => (xs.length, S.len (σf τ c)) :: keepLens S ks τ r
   | false => keepLens S ks τ r
  | .dvec _ _ xs => match isIn c ks with
   | true => (xs.length, S.len (σf τ c)) :: keepLens S ks τ r
   | false => keepLens S ks τ r
  | .pvec _ _ xs => match isIn c ks with
   | true => (xs.length, S.len (σf τ c)) :: keepLens S ks τ r
   | false => keepLens S ks τ r
  | _ => keepLens S ks τ r
def lenIfs {A : Type} : List (Nat × Nat) → Option A → Option A
 | [], k => k
 | (a, b) :: r, k => if a = b then lenIfs r k else none
theorem lenIfs_some {A : Type} {x : A} : ∀ {l : List (Nat × Nat)} {k : Option A}, lenIfs l k = some x → k = some x ∧ ∀ p ∈ l, p.1 = p.2
 | [], k, h => ⟨h, fun p hp => by cases hp⟩
 | (a, b) :: r, k, h => by
  simp only [lenIfs] at h
  split at h
  ·rename_i hab
   obtain ⟨h1, h2⟩ := lenIfs_some h
   refine ⟨h1, fun p hp => ?_⟩
   rcases List.mem_cons.1 hp with rfl | hp
   ·exact hab
   ·exact h2 p hp
  ·cases h
theorem keepLens_mem {S : TS V.N} {ks : List Nat} {τ : Names} {c : Nat} {x : TO V.N} (hx : (∃ te e ys, x = .vec te e ys) ∨ (∃ te e ys, x = .dvec te e ys) ∨ ∃ te e ys, x = .pvec te e ys) (hi : isIn c ks = true) : ∀ {l : List (Nat × TO V.N)}, (c, x) ∈ l → (TO.len (some x), S.len (σf τ c)) ∈ keepLens S ks τ l
 | (d, o) :: r, h => by
  rcases List.mem_cons.1 h with h | h
  ·simp only [Prod.mk.injEq] at h
   obtain ⟨rfl, rfl⟩ := h
   rcases hx with ⟨te, e, ys, rfl⟩ | ⟨te, e, ys, rfl⟩ | ⟨te, e, ys, rfl⟩
   ·simp only [keepLens, hi]
    exact List.mem_cons_self
   ·simp only [keepLens, hi]
    exact List.mem_cons_self
   ·simp only [keepLens, hi]
    exact List.mem_cons_self
  ·have ih := keepLens_mem (S := S) (τ := τ) hx hi h
   unfold keepLens
   split
   ·split
    ·exact List.mem_cons_of_mem _ ih
    ·exact ih
   ·split
    ·exact List.mem_cons_of_mem _ ih
    ·exact ih
   ·split
    ·exact List.mem_cons_of_mem _ ih
    ·exact ih
   ·exact ih
def callObj (P : Program) (sig : Sig V) (F : HL V.N sig.tys → Option (HL V.N sig.rcut.tys)) (A : Type) (args : List (TV V.N)) (S : TS V.N) (k : TE V.N → Option A) : Option A :=
 match mtL V [] sig.params args with
 | some (σ0, l0) => match mtO V S σ0 sig.objs with
  | some (σ1, l1) => match callIn sig with
   | true => match toHL sig.tys (l0 ++ l1) with
    | some v => F v >>= fun r => match resV P sig r with
     | some x => match callOut S sig (callNew (80000 + S.own.length) σ1 ((kept sig r).map (·.1))) x (kept sig r) with
      | true => lenIfs (keepLens S (sig.objs.map (·.1)) (callNew (80000 + S.own.length) σ1 ((kept sig r).map (·.1))) (kept sig r)) (k
       { val := x.ren (σf (callNew (80000 + S.own.length) σ1 ((kept sig r).map (·.1))))
         acc := sig.objs.map fun p => σf σ1 p.1
         upd := ((kept sig r).map fun p => (σf (callNew (80000 + S.own.length) σ1 ((kept sig r).map (·.1))) p.1, p.2.ren (σf (callNew (80000 + S.own.length) σ1 ((kept sig r).map (·.1)))))) ++ sig.objs.map fun p => (σf σ1 p.1, .gone (S.len (σf σ1 p.1)))
         new := newN (sig.objs.map fun p => σf σ1 p.1) ((kept sig r).map fun p => σf (callNew (80000 + S.own.length) σ1 ((kept sig r).map (·.1))) p.1) })
      | false => none
     | none => none
    | none => none
   | false => none
  | none => none
 | none => none
theorem isIn_iff {n : Nat} : ∀ {l : List Nat}, isIn n l = true ↔ n ∈ l
 | [] => by simp [isIn]
 | k :: r => by
  simp only [isIn, Bool.or_eq_true, List.mem_cons, isIn_iff (l := r)]
  constructor
  ·rintro (h | h)
   ·exact .inl (Nat.eq_of_beq_eq_true h).symm
   ·exact .inr h
  ·rintro (rfl | h)
   ·exact .inl (by simp)
   ·exact .inr h
theorem gt_none_iff {α : Type} : ∀ {l : List (Nat × α)} {n : Nat}, gt l n = none ↔ n ∉ l.map (·.1)
 | [], n => by simp [gt]
 | (k, x) :: r, n => by
  rw [gt_cons]
  by_cases hk : k = n
  ·subst hk; simp
  ·rw [if_neg hk, gt_none_iff (l := r)]
   simp [Ne.symm hk]
theorem newNames_newN {own : List (Nat × Own)} : ∀ {l : List (Nat × Own)}, newNames own l = newN (own.map (·.1)) (l.map (·.1))
 | [] => rfl
 | (n, o) :: r => by
  simp only [newNames, List.map_cons, newN]
  cases hq : gt own n with
  | none =>
   have : isIn n (own.map (·.1)) = false := by
    rw [Bool.eq_false_iff]; intro h; exact gt_none_iff.1 hq (isIn_iff.1 h)
   simp only [this, newNames_newN (l := r)]
  | some y =>
   have : isIn n (own.map (·.1)) = true := isIn_iff.2 (List.mem_map_of_mem (f := (·.1)) (gt_mem hq))
   simp only [this, newNames_newN (l := r)]
theorem callNew_sub : ∀ {l : List Nat} {b : Nat} {σ : Names} {c n : Nat}, gt σ c = some n → gt (callNew b σ l) c = some n
 | [], b, σ, c, n, h => h
 | d :: r, b, σ, c, n, h => by
  simp only [callNew]
  split
  ·exact callNew_sub h
  ·rename_i hd
   refine callNew_sub ?_
   rw [gt_cons]
   by_cases hk : d = c
   ·subst hk; rw [hd] at h; cases h
   ·rw [if_neg hk]; exact h
theorem σf_some {σ : Names} {c n : Nat} (h : gt σ c = some n) : σf σ c = n := by unfold σf; rw [h]
end
end Go.Tx
end
