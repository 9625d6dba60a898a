/-
  Typed states: calls that hand over what is owned: the call.
-/
import Derived.Test.YtdmggfegkaiaiaaGreatDoorTxN
namespace Go.Tx
open Go.Awp
set_option linter.unusedSectionVars false
variable [Inhabited GMem]
set_option linter.unusedSimpArgs false

section
variable {V : View}

def isIn (n : Nat) : List Nat → Bool
  | [] => false
  | k :: r => Nat.beq k n || isIn n r

/-- Those that are not among the first. -/
def newN (ks : List Nat) : List Nat → List Nat
  | [] => []
  | n :: r => match isIn n ks with
    | true => newN ks r
    | false => n :: newN ks r

/-- Names of the caller for what is new. -/
def callNew : Nat → Names → List Nat → Names
  | _, σ, [] => σ
  | b, σ, c :: r => match gt σ c with
    | some _ => callNew b σ r
    | none => callNew (b + 1) ((c, b) :: σ) r

def callIn (sig : Sig V) : Bool := sig.params.all (vhIn V sig.objs) && sig.objs.all (fun p => match p.2 with
  | .box _ ps => ps.all (vhIn V sig.objs)
  | _ => true) && sig.objs.all (fun p => Nat.ble given p.1)

def stays (S : TS V.N) (n : Nat) : TO V.N → Bool
  | .box _ _ => Nat.beq (S.len n) 0
  | .bst _ _ => Nat.beq (S.len n) 0
  | .map _ _ _ => Nat.beq (S.len n) 0
  | .iter _ _ => Nat.beq (S.len n) 0
  | .vec _ _ _ => true
  | _ => false

def callOut (S : TS V.N) (sig : Sig V) (τ : Names) (x : TV V.N) (os : List (Nat × TO V.N)) : Bool :=
  σok τ && os.all (fun p => Nat.ble given p.1 || Nat.blt (σf τ p.1) given) && TV.allN (fun n => (gt os n).isSome) x && os.all (fun p => TO.allN (fun n => (gt os n).isSome) p.2) &&
    os.all (fun p => !isIn p.1 (sig.objs.map (·.1)) || stays S (σf τ p.1) p.2) && distinct (os.map (·.1))

/-- Slices that stay under their names: how long they are, how long they were. -/
def keepLens (S : TS V.N) (ks : List Nat) (τ : Names) : List (Nat × TO V.N) → List (Nat × Nat)
  | [] => []
  | (c, o) :: r => match o with
    | .vec _ _ xs => match isIn c ks with
      | true => (xs.length, S.len (σf τ c)) :: keepLens S ks τ r
      | false => keepLens S ks τ r
    | _ => keepLens S ks τ r

def lenIfs {A : Type} : List (Nat × Nat) → Option A → Option A
  | [], k => k
  | (a, b) :: r, k => if a = b then lenIfs r k else none

theorem lenIfs_some {A : Type} {x : A} : ∀ {l : List (Nat × Nat)} {k : Option A}, lenIfs l k = some x → k = some x ∧ ∀ p ∈ l, p.1 = p.2
  | [], k, h => ⟨h, fun p hp => by cases hp⟩
  | (a, b) :: r, k, h => by
    simp only [lenIfs] at h
    split at h
    · rename_i hab
      obtain ⟨h1, h2⟩ := lenIfs_some h
      refine ⟨h1, fun p hp => ?_⟩
      rcases List.mem_cons.1 hp with rfl | hp
      · exact hab
      · exact h2 p hp
    · cases h

theorem keepLens_mem {S : TS V.N} {ks : List Nat} {τ : Names} {c : Nat} {te : TypeId} {e : Ty V.ι} {xs : List (den V.N e)} (hi : isIn c ks = true) : ∀ {l : List (Nat × TO V.N)}, (c, TO.vec te e xs) ∈ l → (xs.length, S.len (σf τ c)) ∈ keepLens S ks τ l
  | (d, o) :: r, h => by
    rcases List.mem_cons.1 h with h | h
    · simp only [Prod.mk.injEq] at h
      obtain ⟨rfl, rfl⟩ := h
      simp only [keepLens, hi]
      exact List.mem_cons_self
    · have ih := keepLens_mem (S := S) (τ := τ) hi h
      unfold keepLens
      split
      · split
        · exact List.mem_cons_of_mem _ ih
        · exact ih
      · exact ih

/-- A call of a function that is handed objects. -/
def callObj (P : Program) (sig : Sig V) (F : HL V.N sig.tys → Option (HL V.N sig.rcut.tys)) (A : Type) (args : List (TV V.N)) (S : TS V.N) (k : TE V.N → Option A) : Option A :=
  match mtL V [] sig.params args with
  | some (σ0, l0) => match mtO V S σ0 sig.objs with
    | some (σ1, l1) => match callIn sig with
      | true => match toHL sig.tys (l0 ++ l1) with
        | some v => F v >>= fun r => match resV P sig r with
          | some x => match callOut S sig (callNew (80000 + S.own.length) σ1 ((kept sig r).map (·.1))) x (kept sig r) with
            | true => lenIfs (keepLens S (sig.objs.map (·.1)) (callNew (80000 + S.own.length) σ1 ((kept sig r).map (·.1))) (kept sig r)) (k
              { val := x.ren (σf (callNew (80000 + S.own.length) σ1 ((kept sig r).map (·.1))))
                acc := sig.objs.map fun p => σf σ1 p.1
                upd := ((kept sig r).map fun p => (σf (callNew (80000 + S.own.length) σ1 ((kept sig r).map (·.1))) p.1, p.2.ren (σf (callNew (80000 + S.own.length) σ1 ((kept sig r).map (·.1)))))) ++ sig.objs.map fun p => (σf σ1 p.1, .gone (S.len (σf σ1 p.1)))
                new := newN (sig.objs.map fun p => σf σ1 p.1) ((kept sig r).map fun p => σf (callNew (80000 + S.own.length) σ1 ((kept sig r).map (·.1))) p.1) })
            | false => none
          | none => none
        | none => none
      | false => none
    | none => none
  | none => none

theorem isIn_iff {n : Nat} : ∀ {l : List Nat}, isIn n l = true ↔ n ∈ l
  | [] => by simp [isIn]
  | k :: r => by
    simp only [isIn, Bool.or_eq_true, List.mem_cons, isIn_iff (l := r)]
    constructor
    · rintro (h | h)
      · exact .inl (Nat.eq_of_beq_eq_true h).symm
      · exact .inr h
    · rintro (rfl | h)
      · exact .inl (by simp)
      · exact .inr h

theorem gt_none_iff {α : Type} : ∀ {l : List (Nat × α)} {n : Nat}, gt l n = none ↔ n ∉ l.map (·.1)
  | [], n => by simp [gt]
  | (k, x) :: r, n => by
    rw [gt_cons]
    by_cases hk : k = n
    · subst hk; simp
    · rw [if_neg hk, gt_none_iff (l := r)]
      simp [Ne.symm hk]

theorem newNames_newN {own : List (Nat × Own)} : ∀ {l : List (Nat × Own)}, newNames own l = newN (own.map (·.1)) (l.map (·.1))
  | [] => rfl
  | (n, o) :: r => by
    simp only [newNames, List.map_cons, newN]
    cases hq : gt own n with
    | none =>
      have : isIn n (own.map (·.1)) = false := by
        rw [Bool.eq_false_iff]; intro h; exact gt_none_iff.1 hq (isIn_iff.1 h)
      simp only [this, newNames_newN (l := r)]
    | some y =>
      have : isIn n (own.map (·.1)) = true := isIn_iff.2 (List.mem_map_of_mem (f := (·.1)) (gt_mem hq))
      simp only [this, newNames_newN (l := r)]

theorem callNew_sub : ∀ {l : List Nat} {b : Nat} {σ : Names} {c n : Nat}, gt σ c = some n → gt (callNew b σ l) c = some n
  | [], b, σ, c, n, h => h
  | d :: r, b, σ, c, n, h => by
    simp only [callNew]
    split
    · exact callNew_sub h
    · rename_i hd
      refine callNew_sub ?_
      rw [gt_cons]
      by_cases hk : d = c
      · subst hk; rw [hd] at h; cases h
      · rw [if_neg hk]; exact h

theorem σf_some {σ : Names} {c n : Nat} (h : gt σ c = some n) : σf σ c = n := by unfold σf; rw [h]

end
end Go.Tx
