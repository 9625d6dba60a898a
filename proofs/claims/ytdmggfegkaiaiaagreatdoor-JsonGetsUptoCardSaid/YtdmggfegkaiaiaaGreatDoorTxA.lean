/-
  Typed states: abstract states whose data are values of Lean's own types. What they stand for.
-/
import Derived.Test.YtdmggfegkaiaiaaGreatDoorAwpT
namespace Go.Mp
/-- A map as a list of pairs. -/
def get {κ β : Type} (eq : κ → κ → Bool) (x : κ) : List (κ × β) → Option β
  | [] => none
  | p :: r => if eq x p.1 = true then some p.2 else get eq x r
def set {κ β : Type} (eq : κ → κ → Bool) (x : κ) (y : β) : List (κ × β) → List (κ × β)
  | [] => [(x, y)]
  | p :: r => if eq x p.1 = true then (x, y) :: r else p :: set eq x y r
def ieq (a b : Int) : Bool := a == b
def beq (a b : Bool) : Bool := a == b
def seq (a b : ByteArray) : Bool := a == b
end Go.Mp
namespace Go.Tx
open Go.Awp
set_option linter.unusedSectionVars false
variable [Inhabited GMem]

/-- The types of data. -/
inductive Ty (ι : Type) where
  | int (k : IntKind)
  | bool
  | str
  | st (i : ι)
  | sl (e : Ty ι)
  | mp (k v : Ty ι)
  | er
  deriving DecidableEq

@[reducible] def den {ι : Type} (N : ι → Type) : Ty ι → Type
  | .int _ => Int
  | .bool => Bool
  | .str => ByteArray
  | .st i => N i
  | .sl e => List (den N e)
  | .mp k v => List (den N k × den N v)
  | .er => Bool

structure Leaf {ι : Type} (N : ι → Type) where
  t : Ty ι
  x : den N t

section
variable {ι : Type} {N : ι → Type} (sz : ι → Nat) (enc : (i : ι) → N i → List D)

def tsz : Ty ι → Nat
  | .st i => sz i
  | _ => 1

/-- The cells of a value in a row. -/
def encR : (t : Ty ι) → den N t → List D
  | .int k, n => [.v (.int k n)]
  | .bool, b => [.v (.bool b)]
  | .str, s => [.v (.string s)]
  | .st i, x => enc i x
  | .sl e, xs => [.sl (tsz sz e) (xs.map fun x => encR e x)]
  | .mp _ _, _ => [.v (.map none)]
  | .er, b => [.er b]

def encD : (t : Ty ι) → den N t → D
  | .int k, n => .v (.int k n)
  | .bool, b => .v (.bool b)
  | .str, s => .v (.string s)
  | .st i, x => .agg (enc i x)
  | .sl e, xs => .sl (tsz sz e) (xs.map fun x => encR sz enc e x)
  | .mp _ _, _ => .v (.map none)
  | .er, b => .er b

end

/-- The key of a map. -/
def encK {ι : Type} {N : ι → Type} : (t : Ty ι) → den N t → Value
  | .int k, n => .int k n
  | .bool, b => .bool b
  | .str, s => .string s
  | _, _ => .map none

def Ty.cell {ι : Type} : Ty ι → Bool
  | .st _ => false
  | _ => true

/-- What a program's types are in Lean. -/
structure View where
  ι : Type
  dec : DecidableEq ι
  N : ι → Type
  sz : ι → Nat
  tys : ι → List (Ty ι)
  cells : (i : ι) → N i → List (Leaf N)
  ofCells : (i : ι) → List (Leaf N) → Option (N i)
  enc : (i : ι) → N i → List D
  ty : TypeId → Option (Ty ι)
  enc_cells : ∀ i x, enc i x = (cells i x).map fun l => encD sz enc l.t l.x
  of_cells : ∀ i ls x, ofCells i ls = some x → cells i x = ls
  len_cells : ∀ i x, (cells i x).length = sz i
  one_cells : ∀ i x, ∀ l ∈ cells i x, l.t.cell = true

instance (V : View) : DecidableEq V.ι := V.dec

/-- Abstract values. -/
inductive TV {ι : Type} (N : ι → Type) where
  | lf (t : Ty ι) (x : den N t)
  | raw (v : Value)
  | bp (n off : Nat)
  | vh (n : Nat)
  | ep (n sz i off : Nat)
  | mp (n : Nat)
  | np (n : Nat) (b : Bool)
  | sd (n : Nat)
  | rp (t : Ty ι) (x : den N t) (off : Nat)
  | agg (cs : List (TV N))
  | tup (vs : List (TV N))
  | fn (f : Nat) (a b : List (TV N))
  | junk

inductive TO {ι : Type} (N : ι → Type) where
  | box (o : Option TypeId) (cells : List (TV N))
  /-- a box that holds a struct whole -/
  | bst (i : ι) (x : N i)
  | vec (te : TypeId) (e : Ty ι) (xs : List (den N e))
  | map (k v : Ty ι) (es : List (den N k × den N v))
  | iter (s : ByteArray) (p : Int)
  /-- no longer owned: how long it was -/
  | gone (len : Nat)

structure TS {ι : Type} (N : ι → Type) where
  tmps : List (Nat × TV N)
  own : List (Nat × TO N)

section
variable {ι : Type} {N : ι → Type}

def TS.own? (S : TS N) (n : Nat) : Option (TO N) := gt S.own n
def TS.get (S : TS N) (t : Nat) : TV N := (gt S.tmps t).getD .junk
def TO.len : Option (TO N) → Nat
  | some (.vec _ _ xs) => xs.length
  | some (.gone l) => l
  | _ => 0
def TS.len (S : TS N) (n : Nat) : Nat := TO.len (S.own? n)

mutual
def TV.has (n : Nat) : TV N → Bool
  | .bp m _ => Nat.beq m n
  | .vh m => Nat.beq m n
  | .ep m _ _ _ => Nat.beq m n
  | .mp m => Nat.beq m n
  | .np m _ => Nat.beq m n
  | .sd m => Nat.beq m n
  | .agg cs => TV.hasL n cs
  | .tup vs => TV.hasL n vs
  | .fn _ a b => TV.hasL n a || TV.hasL n b
  | _ => false
def TV.hasL (n : Nat) : List (TV N) → Bool
  | [] => false
  | x :: r => TV.has n x || TV.hasL n r
end

def TO.has (n : Nat) : TO N → Bool
  | .box _ cells => TV.hasL n cells
  | _ => false

def TS.fresh (S : TS N) (n : Nat) : Bool :=
  (S.own? n).isNone && S.tmps.all (fun x => !TV.has n x.2) && S.own.all (fun x => !TO.has n x.2)
end

section
variable (V : View)

def encRaw : Value → H
  | .agg cs => .d (.agg (cs.toList.map .v))
  | v => .d (.v v)

mutual
/-- What a typed value stands for, given how long the slices are that are owned. -/
def encV (ω : Nat → Nat) : TV V.N → H
  | .lf t x => .d (encD V.sz V.enc t x)
  | .raw v => encRaw v
  | .bp n off => .bp n off
  | .vh n => .vh n (ω n)
  | .ep n s i off => .ep n s i off
  | .mp n => .mp n
  | .np n b => .np n b
  | .sd n => .sd n
  | .rp t x off => .d (.rp ((encR V.sz V.enc t x).drop off))
  | .agg cs => mkAgg (encL ω cs)
  | .tup vs => .tup (encL ω vs)
  | .fn f a b => .fn f (encL ω a) (encL ω b)
  | .junk => .junk
def encL (ω : Nat → Nat) : List (TV V.N) → List H
  | [] => []
  | x :: r => encV ω x :: encL ω r
end

def encO (ω : Nat → Nat) : TO V.N → Option Own
  | .box o cells => some (.box o (encL V ω cells))
  | .bst i x => some (.box none ((V.enc i x).map .d))
  | .vec te e xs => some (.vec te (tsz V.sz e) (xs.map fun x => encR V.sz V.enc e x))
  | .map k v es => some (.map (es.map fun p => (encK k p.1, encD V.sz V.enc v p.2)))
  | .iter s p => some (.iter s p.toNat)
  | .gone _ => none

def encS (S : TS V.N) : AState :=
  { tmps := S.tmps.map fun p => (p.1, encV V S.len p.2), own := S.own.map fun p => (p.1, encO V S.len p.2) }

variable {V}

theorem encL_map (ω : Nat → Nat) (l : List (TV V.N)) : encL V ω l = l.map (encV V ω) := by
  induction l with
  | nil => rfl
  | cons x r ih => simp [encL, ih]

theorem allD_has {n : Nat} : ∀ {l : List H} {ds : List D}, allD l = some ds → H.hasL n l = false
  | [], _, _ => by simp [H.hasL]
  | .d x :: r, ds, h => by
    simp only [allD] at h
    split at h
    · rename_i l hl
      simp [H.hasL, H.has, allD_has hl]
    · cases h
  | .junk :: r, ds, h => by simp [allD] at h
  | .bp .. :: r, ds, h => by simp [allD] at h
  | .vh .. :: r, ds, h => by simp [allD] at h
  | .ep .. :: r, ds, h => by simp [allD] at h
  | .mp .. :: r, ds, h => by simp [allD] at h
  | .np .. :: r, ds, h => by simp [allD] at h
  | .sd .. :: r, ds, h => by simp [allD] at h
  | .agg .. :: r, ds, h => by simp [allD] at h
  | .tup .. :: r, ds, h => by simp [allD] at h
  | .fn .. :: r, ds, h => by simp [allD] at h

theorem mkAgg_has (n : Nat) (l : List H) : H.has n (mkAgg l) = H.hasL n l := by
  unfold mkAgg
  split
  · rename_i ds h; rw [allD_has h]; simp [H.has]
  · simp [H.has]

theorem encRaw_has (n : Nat) (v : Value) : H.has n (encRaw v) = false := by
  cases v <;> simp [encRaw, H.has]

mutual
theorem encV_has (ω : Nat → Nat) (n : Nat) : ∀ v : TV V.N, H.has n (encV V ω v) = TV.has n v
  | .lf t x => by simp [encV, H.has, TV.has]
  | .raw v => by simp [encV, TV.has, encRaw_has]
  | .bp m off => by simp [encV, H.has, TV.has]
  | .vh m => by simp [encV, H.has, TV.has]
  | .ep m s i off => by simp [encV, H.has, TV.has]
  | .mp m => by simp [encV, H.has, TV.has]
  | .np m b => by simp [encV, H.has, TV.has]
  | .sd m => by simp [encV, H.has, TV.has]
  | .rp t x off => by simp [encV, H.has, TV.has]
  | .agg cs => by simp only [encV, mkAgg_has, TV.has]; exact encL_has ω n cs
  | .tup vs => by simp only [encV, H.has, TV.has]; exact encL_has ω n vs
  | .fn f a b => by simp only [encV, H.has, TV.has]; rw [encL_has ω n a, encL_has ω n b]
  | .junk => by simp [encV, H.has, TV.has]
theorem encL_has (ω : Nat → Nat) (n : Nat) : ∀ l : List (TV V.N), H.hasL n (encL V ω l) = TV.hasL n l
  | [] => by simp [encL, H.hasL, TV.hasL]
  | x :: r => by simp only [encL, H.hasL, TV.hasL]; rw [encV_has ω n x, encL_has ω n r]
end

theorem encO_has (ω : Nat → Nat) (n : Nat) {o : TO V.N} {o' : Own} (h : encO V ω o = some o') : Own.has n o' = TO.has n o := by
  cases o with
  | box oty cells => simp only [encO, Option.some.injEq] at h; subst h; simp only [Own.has, TO.has]; exact encL_has ω n cells
  | bst i x =>
    simp only [encO, Option.some.injEq] at h; subst h; simp only [Own.has, TO.has]
    generalize V.enc i x = l
    induction l with
    | nil => simp [H.hasL]
    | cons y r ih => simpa [H.hasL, H.has] using ih
  | vec te e xs => simp only [encO, Option.some.injEq] at h; subst h; simp [Own.has, TO.has]
  | map k v es => simp only [encO, Option.some.injEq] at h; subst h; simp [Own.has, TO.has]
  | iter s p => simp only [encO, Option.some.injEq] at h; subst h; simp [Own.has, TO.has]
  | gone l => simp [encO] at h

theorem encS_own? (S : TS V.N) (n : Nat) : (encS V S).own? n = (S.own? n).bind (encO V S.len) := by
  unfold AState.own? TS.own? encS
  simp only [gt_map]
  cases gt S.own n with
  | none => rfl
  | some x => rfl

theorem encS_get (S : TS V.N) (t : Nat) : (encS V S).get t = encV V S.len (S.get t) := by
  unfold AState.get TS.get encS
  simp only [gt_map]
  cases gt S.tmps t with
  | none => simp [encV]
  | some x => rfl

theorem encS_gt (S : TS V.N) (t : Nat) : gt (encS V S).tmps t = (gt S.tmps t).map (encV V S.len) := by
  unfold encS
  simp only [gt_map]

theorem encS_fresh {S : TS V.N} {n : Nat} (h : S.fresh n = true) : (encS V S).fresh n = true := by
  unfold TS.fresh at h
  unfold AState.fresh
  rw [encS_own?]
  simp only [Bool.and_eq_true] at h ⊢
  obtain ⟨⟨h1, h2⟩, h3⟩ := h
  refine ⟨⟨?_, ?_⟩, ?_⟩
  · cases hq : S.own? n with
    | none => rfl
    | some o => rw [hq] at h1; cases h1
  · unfold encS
    simp only [List.all_map]
    rw [List.all_eq_true] at h2 ⊢
    intro x hx
    have := h2 x hx
    simpa [encV_has] using this
  · unfold encS
    simp only [List.all_map]
    rw [List.all_eq_true] at h3 ⊢
    intro x hx
    have := h3 x hx
    simp only [Function.comp]
    cases hq : encO V S.len x.2 with
    | none => rfl
    | some o => simp only [encO_has S.len n hq]; exact this

mutual
theorem encV_congr {ω ω' : Nat → Nat} : ∀ v : TV V.N, (∀ n, TV.has n v = true → ω' n = ω n) → encV V ω' v = encV V ω v
  | .lf t x, _ => by simp [encV]
  | .raw v, _ => by simp [encV]
  | .bp m off, _ => by simp [encV]
  | .vh m, h => by simp [encV, h m (by simp [TV.has])]
  | .ep m s i off, _ => by simp [encV]
  | .mp m, _ => by simp [encV]
  | .np m b, _ => by simp [encV]
  | .sd m, _ => by simp [encV]
  | .rp t x off, _ => by simp [encV]
  | .agg cs, h => by simp only [encV]; rw [encL_congr cs fun n hn => h n (by simpa [TV.has] using hn)]
  | .tup vs, h => by simp only [encV]; rw [encL_congr vs fun n hn => h n (by simpa [TV.has] using hn)]
  | .fn f a b, h => by simp only [encV]; rw [encL_congr a fun n hn => h n (by simp [TV.has, hn]), encL_congr b fun n hn => h n (by simp [TV.has, hn])]
  | .junk, _ => by simp [encV]
theorem encL_congr {ω ω' : Nat → Nat} : ∀ l : List (TV V.N), (∀ n, TV.hasL n l = true → ω' n = ω n) → encL V ω' l = encL V ω l
  | [], _ => rfl
  | x :: r, h => by
    simp only [encL]
    rw [encV_congr x fun n hn => h n (by simp [TV.hasL, hn]), encL_congr r fun n hn => h n (by simp [TV.hasL, hn])]
end

theorem encO_congr {ω ω' : Nat → Nat} (o : TO V.N) (h : ∀ n, TO.has n o = true → ω' n = ω n) : encO V ω' o = encO V ω o := by
  cases o with
  | box oty cells => simp only [encO]; rw [encL_congr cells h]
  | bst i x => rfl
  | vec te e xs => rfl
  | map k v es => rfl
  | iter s p => rfl
  | gone l => rfl

end
end Go.Tx
