/-
  Typed states: what the generated texts use.
-/
import Derived.Test.YtnbkpokcfcednaaDoorTxL
import Derived.KernelRfl
namespace Go.Tx
open Go.Awp
set_option linter.unusedSectionVars false
variable [Inhabited GMem]
set_option linter.unusedSimpArgs false

def bodyOf (f : Func) : Code := match f.body with
  | some c => c
  | none => .skip

def loopsIn : Code → List Code
  | .seq a b => loopsIn a ++ loopsIn b
  | .block _ x => loopsIn x
  | .cond _ a b => loopsIn a ++ loopsIn b
  | .loop b => [b]
  | .scope b => loopsIn b
  | _ => []

def loopNo (c : Code) (i : Nat) : Code := match (loopsIn c)[i]? with
  | some b => b
  | none => .skip

def AllB (p : Code → Prop) : List Code → Prop
  | [] => True
  | b :: r => p b ∧ AllB p r

theorem AllB_app {p : Code → Prop} : ∀ {l m : List Code}, AllB p (l ++ m) → AllB p l ∧ AllB p m
  | [], _, h => ⟨trivial, h⟩
  | _ :: _, _, h => ⟨⟨h.1, (AllB_app h.2).1⟩, (AllB_app h.2).2⟩

theorem kcast {a b : Prop} (h : a = b) (x : a) : b := h ▸ x

section
variable {V : View}

def LoopsP (C : Ctx) (X : Xc V) (b : Code) : Prop := ∀ la, X.loops (firstId b) = some la → LoopOk C b la

theorem lok_all {C : Ctx} {X : Xc V} : ∀ {c : Code}, AllB (LoopsP C X) (loopsIn c) → LOk C X c := by
  intro c
  induction c with
  | seq a b iha ihb => intro h; exact ⟨iha (AllB_app h).1, ihb (AllB_app h).2⟩
  | block id x ih => intro h; exact ih h
  | scope x ih => intro h; exact ih h
  | cond c a b iha ihb => intro h; exact ⟨iha (AllB_app h).1, ihb (AllB_app h).2⟩
  | loop b ih => intro h; exact h.1
  | _ => intro _; trivial

theorem loop_at {C : Ctx} {X : Xc V} {b : Code} {la0 : LoopA V X.sh} (e : X.loops (firstId b) = some la0) (h : LoopOk C b la0) : LoopsP C X b := fun la hl => by
  rw [e] at hl
  cases hl
  exact h

/-- A loop that the evaluation never meets. -/
theorem loop_dead {C : Ctx} {X : Xc V} {b : Code} (e : X.loops (firstId b) = none) : LoopsP C X b := fun la hl => by
  rw [e] at hl; cases hl

/-- A function that the evaluation of calls finds by its number. -/
theorem call_none {P : Program} : CallerOk P (fun (_ : Type) _ _ _ _ => none : Caller V) := fun A fid args S dst k r h => by cases h

end
end Go.Tx
