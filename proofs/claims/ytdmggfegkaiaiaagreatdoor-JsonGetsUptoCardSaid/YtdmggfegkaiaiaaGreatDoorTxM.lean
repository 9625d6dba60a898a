/-
  Typed states: what the generated texts use.
-/
import Derived.Test.YtdmggfegkaiaiaaGreatDoorTxL
import Derived.KernelRfl
namespace Go.Tx
open Go.Awp
set_option linter.unusedSectionVars false
variable [Inhabited GMem]
set_option linter.unusedSimpArgs false

def bodyOf (f : Func) : Code := match f.body with
  | some c => c
  | none => .skip

def loopsIn : Code → List Code
  | .seq a b => loopsIn a ++ loopsIn b
  | .block _ x => loopsIn x
  | .cond _ a b => loopsIn a ++ loopsIn b
  | .loop b => [b]
  | .scope b => loopsIn b
  | _ => []

def loopNo (c : Code) (i : Nat) : Code := match (loopsIn c)[i]? with
  | some b => b
  | none => .skip

def jumpsIn : Code → List Code
  | .seq a b => jumpsIn a ++ jumpsIn b
  | .block _ x => jumpsIn x
  | .cond _ a b => jumpsIn a ++ jumpsIn b
  | .scope b => b :: jumpsIn b
  | _ => []

def scopeNo (c : Code) (i : Nat) : Code := match (jumpsIn c)[i]? with
  | some b => b
  | none => .skip

/-- What stands behind a label. -/
def restOf (c : Code) (l : Nat) : Code := match findLabel c l with
  | some b => b
  | none => .skip

def AllB (p : Code → Prop) : List Code → Prop
  | [] => True
  | b :: r => p b ∧ AllB p r

theorem AllB_app {p : Code → Prop} : ∀ {l m : List Code}, AllB p (l ++ m) → AllB p l ∧ AllB p m
  | [], _, h => ⟨trivial, h⟩
  | _ :: _, _, h => ⟨⟨h.1, (AllB_app h.2).1⟩, (AllB_app h.2).2⟩

theorem kcast {a b : Prop} (h : a = b) (x : a) : b := h ▸ x

section
variable {V : View}

def LoopsP (C : Ctx) (X : Xc V) (b : Code) : Prop := ∀ la, X.loops (firstId b) = some la → LoopOk C b la

def JumpsP (C : Ctx) (X : Xc V) (x : Code) : Prop := ∀ l la, X.jumps (firstId x) = some (l, la) → JumpOk C x l la

theorem lok_all2 {C : Ctx} {X : Xc V} : ∀ {c : Code}, AllB (LoopsP C X) (loopsIn c) → AllB (JumpsP C X) (jumpsIn c) → LOk C X c := by
  intro c
  induction c with
  | seq a b iha ihb => intro h g; exact ⟨iha (AllB_app h).1 (AllB_app g).1, ihb (AllB_app h).2 (AllB_app g).2⟩
  | block id x ih => intro h g; exact ih h g
  | scope x ih => intro h g; exact ⟨ih h g.2, g.1⟩
  | cond c a b iha ihb => intro h g; exact ⟨iha (AllB_app h).1 (AllB_app g).1, ihb (AllB_app h).2 (AllB_app g).2⟩
  | loop b ih => intro h g; exact h.1
  | _ => intro _ _; trivial

theorem allB_of {p : Code → Prop} (h : ∀ b, p b) : ∀ l : List Code, AllB p l
  | [] => trivial
  | b :: r => ⟨h b, allB_of h r⟩

theorem lok_all {C : Ctx} {X : Xc V} {c : Code} (h : AllB (LoopsP C X) (loopsIn c)) (hj : ∀ k, X.jumps k = none := by intro k; rfl) : LOk C X c :=
  lok_all2 h (allB_of (fun x l la e => by rw [hj] at e; cases e) _)

theorem jump_at {C : Ctx} {X : Xc V} {x : Code} {l : Nat} {la0 : LoopA V X.sh} (e : X.jumps (firstId x) = some (l, la0)) (h : JumpOk C x l la0) : JumpsP C X x := fun l' la hl => by
  rw [e] at hl
  cases hl
  exact h

theorem jump_none {C : Ctx} {X : Xc V} {x : Code} (e : X.jumps (firstId x) = none) : JumpsP C X x := fun l la hl => by
  rw [e] at hl; cases hl

theorem loop_at {C : Ctx} {X : Xc V} {b : Code} {la0 : LoopA V X.sh} (e : X.loops (firstId b) = some la0) (h : LoopOk C b la0) : LoopsP C X b := fun la hl => by
  rw [e] at hl
  cases hl
  exact h

/-- A loop that the evaluation never meets. -/
theorem loop_dead {C : Ctx} {X : Xc V} {b : Code} (e : X.loops (firstId b) = none) : LoopsP C X b := fun la hl => by
  rw [e] at hl; cases hl

/-- A function that the evaluation of calls finds by its number. -/
theorem call_none {P : Program} : CallerOk P (fun (_ : Type) _ _ _ _ => none : Caller V) := fun A fid args S dst k r h => by cases h

end
end Go.Tx
