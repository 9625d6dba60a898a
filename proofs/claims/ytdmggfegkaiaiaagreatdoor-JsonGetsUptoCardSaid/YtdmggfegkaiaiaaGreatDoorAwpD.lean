/-
  The logic of abstract states: single operations are sound, first part.
-/
import Derived.Test.YtdmggfegkaiaiaaGreatDoorAwpC
namespace Go.Awp
set_option linter.unusedSectionVars false
variable [Inhabited GMem]

def AState.app (S : AState) (dst : Option Tmp) (e : Eff) : AState := { tmps := putT dst e.val S.tmps, own := e.upd ++ S.own }

theorem HRep.dv {E : Env} {M : Mem} {v x : Value} (h : HRep E M v (.d (.v x))) : v = x := by
  cases h with
  | d h => cases h; rfl

theorem HRep.dagg {E : Env} {M : Mem} {v : Value} {l : List D} (h : HRep E M v (.d (.agg l))) :
    ∃ cs : Array Value, v = .agg cs ∧ cs.size = l.length ∧ ∀ (i : Nat) (c : Value) (x : D), cs[i]? = some c → l[i]? = some x → DRep M c x := by
  cases h with
  | d h => cases h with
    | agg cs l hl h => exact ⟨cs, rfl, hl, h⟩

theorem HRep.hagg {E : Env} {M : Mem} {v : Value} {l : List H} (h : HRep E M v (.agg l)) :
    ∃ cs : Array Value, v = .agg cs ∧ cs.size = l.length ∧ ∀ (i : Nat) (c : Value) (x : H), cs[i]? = some c → l[i]? = some x → HRep E M c x := by
  cases h with
  | agg cs l hl h => exact ⟨cs, rfl, hl, h⟩

theorem HRep.htup {E : Env} {M : Mem} {v : Value} {l : List H} (h : HRep E M v (.tup l)) :
    ∃ cs : Array Value, v = .tuple cs ∧ cs.size = l.length ∧ ∀ (i : Nat) (c : Value) (x : H), cs[i]? = some c → l[i]? = some x → HRep E M c x := by
  cases h with
  | tup cs l hl h => exact ⟨cs, rfl, hl, h⟩

theorem Sim.get {C : Ctx} {E : Env} {M : Mem} {S : AState} {a : Act} {w : World} (h : Sim C E M S a w) (t : Nat) : HRep E M (a.tmps.getD t undef) (S.get t) := by
  unfold AState.get
  cases hg : gt S.tmps t with
  | none => exact .junk _
  | some x =>
    obtain ⟨v, hv, hr⟩ := h.tmps t x hg
    simpa [hv] using hr

theorem Sim.ev {C : Ctx} {E : Env} {M : Mem} {S : AState} {a : Act} {w : World} (h : Sim C E M S a w) (x : Operand) : HRep E M (a.eval x) (ev S x) := by
  cases x with
  | tmp t => exact h.get t
  | const v =>
    cases v <;> simp only [Go.Awp.ev, Act.eval] <;> try exact .d (.v _)
    rename_i cs
    refine .d (.agg cs _ (by simp) fun i c x hc hx => ?_)
    simp at hx
    have hc' : cs[i]? = some c := by simpa using hc
    rw [hc'] at hx
    simp at hx
    subst hx
    exact .v c
  | global g => exact .d (.v _)
  | func f => exact .fn f #[] #[] [] [] rfl rfl (fun i c x hc hx => by simp at hc) (fun i c x hc hx => by simp at hc)

theorem wp_value {P : Program} {o : Oper} {a : Act} {w w' : World} {K : Act → World → Prop} {Q : Exit → Act → World → Prop} {v : Value}
    (h : (execOp a.eval o).run P w = .ok (.value v) w') (hk : K (a.put o.dst v) w') : o.wp P a w K Q := by
  unfold Oper.wp; rw [h]; exact hk

theorem wp_skip' {P : Program} {o : Oper} {a : Act} {w w' : World} {K : Act → World → Prop} {Q : Exit → Act → World → Prop}
    (h : (execOp a.eval o).run P w = .ok .skip w') (hk : K (a.put o.dst undef) w') : o.wp P a w K Q := by
  unfold Oper.wp; rw [h]; exact hk

theorem addr_add (b o n : Nat) : (⟨b, o, none⟩ : Addr).add n = ⟨b, o + n, none⟩ := by
  unfold Addr.add; split <;> simp_all

/-- What the rule of an operation gives: whatever may follow. -/
def OpOk (C : Ctx) (nm : Nat → Nat) (o : Oper) : Prop :=
  ∀ (E : Env) (M : Mem) (S : AState) (a : Act) (w : World) (K : Act → World → Prop) (Q : Exit → Act → World → Prop) (k : Eff → Prop), Sim C E M S a w →
    AVal C.P nm o (Go.Awp.ev S) S.own? (fun e => (∀ d ∈ e.new, S.fresh d = true ∧ d < given) ∧ k e) →
    (∀ e E' M' a' w', k e → Sim C E' M' (S.app o.dst e) a' w' → K a' w') → o.wp C.P a w K Q

section
variable {C : Ctx} {nm : Nat → Nat} {o : Oper} (hd : ∀ d, o.dst = some d → d < C.N)
include hd

theorem Sim.app_val {E : Env} {M : Mem} {S : AState} {a : Act} {w : World} (h : Sim C E M S a w) {v : Value} {e : Eff} (hu : e.upd = []) (hx : HRep E M v e.val) :
    Sim C E M (S.app o.dst e) (a.put o.dst v) w := by
  have := h.put o.dst hd hx
  unfold AState.app
  rw [hu]
  exact this

theorem ok_move {x : Operand} (ho : o.op = .move x ∨ o.op = .assign x) : OpOk C nm o := by
  intro E M S a w K Q k hs hv hK
  refine wp_value (v := a.eval x) (w' := w) ?_ ?_
  · rcases ho with ho | ho <;> simp [execOp, ho]
  · have hv' : k { val := Go.Awp.ev S x } := by rcases ho with ho | ho <;> simpa [AVal, ho] using hv
    exact hK _ _ _ _ _ hv' (hs.app_val hd rfl (hs.ev x))

theorem ok_pick {c x y : Operand} (ho : o.op = .pick c x y) : OpOk C nm o := by
  intro E M S a w K Q k hs hv hK
  simp only [AVal, ho] at hv
  split at hv
  · rename_i t ht
    have hc := hs.ev c
    rw [ht] at hc
    have hc := hc.dv
    refine wp_value (v := if t then a.eval x else a.eval y) (w' := w) ?_ ?_
    · simp [execOp, ho, hc, asBool]
    · refine hK _ _ _ _ _ hv.2 (hs.app_val hd rfl ?_)
      cases t
      · exact hs.ev y
      · exact hs.ev x
  · exact hv.elim

theorem ok_nilCheck {x : Operand} (ho : o.op = .nilCheck x) : OpOk C nm o := by
  intro E M S a w K Q k hs hv hK
  simp only [AVal, ho] at hv
  have hx := hs.ev x
  have key : ∀ ad : Addr, a.eval x = .pointer (some ad) → (execOp a.eval o).run C.P w = .ok (.value (a.eval x)) w := by
    intro ad h
    simp [execOp, ho, h]
  split at hv
  · rename_i n off he
    rw [he] at hx
    refine wp_value (v := a.eval x) (w' := w) ?_ (hK _ _ _ _ _ hv.2 (hs.app_val hd rfl hx))
    cases hq : a.eval x with
    | _ => (rw [hq] at hx; cases hx <;> simp [execOp, ho, hq])
  · rename_i n s i off he
    rw [he] at hx
    refine wp_value (v := a.eval x) (w' := w) ?_ (hK _ _ _ _ _ hv.2 (hs.app_val hd rfl hx))
    cases hq : a.eval x with
    | _ => (rw [hq] at hx; cases hx <;> simp [execOp, ho, hq])
  · rename_i cells he
    rw [he] at hx
    refine wp_value (v := a.eval x) (w' := w) ?_ (hK _ _ _ _ _ hv.2 (hs.app_val hd rfl hx))
    cases hq : a.eval x with
    | _ => (rw [hq] at hx; cases hx <;> rename_i hx <;> cases hx <;> simp [execOp, ho, hq])
  · rename_i n b he
    rw [he] at hx
    split at hv
    · generalize hq : a.eval x = q at hx
      cases hx with
      | np1 n b hE =>
        exact wp_value (v := a.eval x) (w' := w) (key _ hq) (hK _ _ _ _ _ hv.2 (hs.app_val hd rfl (by rw [hq]; exact .bp n 0 b hE)))
    · exact hv.elim
  · exact hv.elim

theorem ok_fieldAddr {s : TypeId} {x : Operand} {f : Nat} (ho : o.op = .fieldAddr s x f) : OpOk C nm o := by
  intro E M S a w K Q k hs hv hK
  simp only [AVal, ho] at hv
  have hx := hs.ev x
  split at hv
  · rename_i fo hfo
    have key : ∀ b off, a.eval x = .pointer (some ⟨b, off, none⟩) → (execOp a.eval o).run C.P w = .ok (.value (.pointer (some ⟨b, off + fo, none⟩))) w := by
      intro b off h
      unfold fieldOff at hfo
      split at hfo
      · rename_i fs hfs
        split at hfo
        · rename_i fd hfd
          split at hfo
          · rename_i i hi
            split at hfo
            · cases hfo
            · rename_i hz
              simp at hfo; subst hfo
              simp [execOp, ho, h, Instr.fieldAt, run_underlying hfs, hfd, Instr.sureAddr, fieldPlace, sizeOf, typeInfo, hi, hz, addr_add]
          · cases hfo
        · cases hfo
      · cases hfo
    split at hv
    · rename_i n off he
      rw [he] at hx
      generalize hq : a.eval x = q at hx
      cases hx with
      | bp n off b hE => exact wp_value (key b off hq) (hK _ _ _ _ _ hv.2 (hs.app_val hd rfl (.bp n (off + fo) b hE)))
    · rename_i n sz i off he
      rw [he] at hx
      generalize hq : a.eval x = q at hx
      cases hx with
      | ep n sz i off b l c hE hi => exact wp_value (key b _ hq) (hK _ _ _ _ _ hv.2 (hs.app_val hd rfl (by rw [Nat.add_assoc]; exact .ep n sz i (off + fo) b l c hE hi)))
    · rename_i cells he
      rw [he] at hx
      generalize hq : a.eval x = q at hx
      cases hx with
      | d hx => cases hx with
        | rp b off cells c hm h =>
          refine wp_value (key b off hq) (hK _ _ _ _ _ hv.2.2 (hs.app_val hd rfl (.d ?_)))
          refine .rp b (off + fo) _ (fun k => c (fo + k)) (fun k hk => ?_) fun j x hx => ?_
          · rw [Nat.add_assoc]; exact hm _ (by simp at hk; omega)
          · rw [List.getElem?_drop] at hx
            exact h _ x hx
    · exact hv.elim
  · exact hv.elim

end
end Go.Awp
