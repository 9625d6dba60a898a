/-
  The logic of abstract states: regions, statements, functions.
-/
import Derived.Test.YtdmggfegkaiaiaaGreatDoorAwpJ
namespace Go.Awp
set_option linter.unusedSectionVars false
variable [Inhabited GMem]

/-- What an operation's guard says. -/
def guardB (S : AState) (all : List Oper) (j : Nat) (want : Bool) : Option Bool :=
  match all[j]? with
  | some o => match o.dst with
    | some d => match S.get d with
      | .d (.v (.bool b)) => some b
      | .tup [] => some (!want)
      | _ => none
    | none => none
  | none => none

theorem undefH {E : Env} {M : Mem} : HRep E M undef (.tup []) := .tup _ _ rfl fun i c x hc _ => by simp at hc

/-- A test that stops the evaluation where it is not decided. -/
def aIf (b : Bool) (x y : Prop) : Prop := (b = true → x) ∧ (b = false → y)

theorem aIf_true {x y : Prop} : aIf true x y = x := by simp [aIf]
theorem aIf_false {x y : Prop} : aIf false x y = y := by simp [aIf]
theorem aIf_congr {b b' : Bool} {x y : Prop} (h : b = b') : aIf b x y = aIf b' x y := by rw [h]
theorem aIf_intro {b : Bool} {x y : Prop} (h : b = true → x) (h' : b = false → y) : aIf b x y := ⟨h, h'⟩

/-- A list of operations, in the order of the text. -/
def aops (P : Program) (N : Nat) (nm : Nat → Nat) (all : List Oper) : List Oper → AState → (AState → Prop) → Prop
  | [], S, k => k S
  | o :: os, S, k =>
    (∀ d, o.dst = some d → d < N) ∧
    match o.guard with
    | none => AVal P nm o (ev S) S.own? (fun e => (∀ d ∈ e.new, S.fresh d = true ∧ d < given) ∧ aops P N nm all os (S.app o.dst e) k)
    | some (j, want) => match guardB S all j want with
      | some b => aIf (b == want) (AVal P nm o (ev S) S.own? (fun e => (∀ d ∈ e.new, S.fresh d = true ∧ d < given) ∧ aops P N nm all os (S.app o.dst e) k))
          (aops P N nm all os (S.app o.dst { val := .tup [] }) k)
      | none => False

theorem Sim.guard {C : Ctx} {E : Env} {M : Mem} {S : AState} {a : Act} {w : World} (hs : Sim C E M S a w) {ops : Array Oper} {j : Nat} {b want : Bool} (h : guardB S ops.toList j want = some b) :
    (yielded ops a.tmps j == some want) = (b == want) := by
  unfold guardB at h
  split at h
  · rename_i o ho
    split at h
    · rename_i d hd
      split at h
      · rename_i b' hb
        simp at h; subst h
        have hg := hs.get d
        rw [hb] at hg
        have hv := hg.dv
        have ho' : ops[j]? = some o := by simpa using ho
        have hlt : a.tmps[d]? = some (.bool b') := by
          cases hq : a.tmps[d]? with
          | none => simp [hq, undef] at hv
          | some x => simp [hq] at hv; rw [hv]
        simp [yielded, ho', hd, hlt]
      · rename_i hb
        simp only [Option.some.injEq] at h
        rw [← h]
        have hg := hs.get d
        rw [hb] at hg
        have ho' : ops[j]? = some o := by simpa using ho
        have hne : (∃ b, a.tmps[d]? = some (.bool b)) → False := by
          rintro ⟨b, hq⟩
          simp only [Array.getD_eq_getD_getElem?, hq, Option.getD_some] at hg
          cases hg
        have hy : yielded ops a.tmps j = none := by
          unfold yielded
          split
          · rename_i b hq
            simp [ho', hd] at hq
            exact (hne ⟨b, hq⟩).elim
          · rfl
        rw [hy]
        cases want <;> rfl
      · cases h
    · cases h
  · cases h

theorem aops_sound {C : Ctx} {nm : Nat → Nat} {ops : Array Oper} {Q : Exit → Act → World → Prop} : ∀ (l : List Oper) (i : Nat) (S : AState) (k : AState → Prop) (E : Env) (M : Mem) (a : Act) (w : World),
    ops.toList.drop i = l → aops C.P C.N nm ops.toList l S k → Sim C E M S a w → (∀ S' E' M' a' w', k S' → Sim C E' M' S' a' w' → Q .normal a' w') →
    wpOps C.P ops Q ((List.range l.length).map (i + ·)) a w
  | [], i, S, k, E, M, a, w, _, h, hs, hQ => by
    simp only [aops] at h
    simpa [wpOps] using hQ S E M a w h hs
  | o :: os, i, S, k, E, M, a, w, hl, h, hs, hQ => by
    have hi : ops[i]? = some o := by
      have : (ops.toList.drop i)[0]? = some o := by rw [hl]; rfl
      simpa using this
    have hl' : ops.toList.drop (i + 1) = os := by
      rw [← List.tail_drop, hl]; rfl
    have hlist : (List.range (o :: os).length).map (i + ·) = i :: (List.range os.length).map (i + 1 + ·) := by
      simp only [List.length_cons, List.range_succ_eq_map, List.map_cons, List.map_map, Nat.add_zero]
      congr 1
      apply List.map_congr_left
      intro x _
      simp; omega
    rw [hlist]
    simp only [aops] at h
    obtain ⟨hd, h⟩ := h
    have hval : AVal C.P nm o (ev S) S.own? (fun e => (∀ d ∈ e.new, S.fresh d = true ∧ d < given) ∧ aops C.P C.N nm ops.toList os (S.app o.dst e) k) →
        o.wp C.P a w (wpOps C.P ops Q ((List.range os.length).map (i + 1 + ·))) Q := fun hv =>
      ok_all hd E M S a w _ Q (fun e => aops C.P C.N nm ops.toList os (S.app o.dst e) k) hs hv fun e E' M' a' w' hk hs' => aops_sound os (i + 1) _ k E' M' a' w' hl' hk hs' hQ
    simp only [wpOps, hi]
    cases hg : o.guard with
    | none =>
      simp only [hg] at h
      rw [if_pos (by simp [Region.wanted, hg])]
      exact .inl (hval h)
    | some g =>
      obtain ⟨j, want⟩ := g
      simp only [hg] at h
      split at h
      · rename_i b hb
        have hy := hs.guard hb
        by_cases hbw : b = want
        · have h := h.1 (by simp [hbw])
          rw [if_pos (by simp [Region.wanted, hg, hy, hbw])]
          exact .inl (hval h)
        · have h := h.2 (by simp [hbw])
          rw [if_neg (by simp [Region.wanted, hg, hy, hbw])]
          exact aops_sound os (i + 1) _ k E M _ w hl' h (hs.app_val (o := o) hd rfl undefH) hQ
      · exact h.elim

/-- From one abstract state to another, memory and slots as they are. -/
def Ent (S S' : AState) : Prop := ∀ (C : Ctx) (E : Env) (M : Mem) (a : Act) (w : World), Sim C E M S a w → ∃ E' M', Sim C E' M' S' a w

theorem Ent.refl (S : AState) : Ent S S := fun _ E M _ _ h => ⟨E, M, h⟩
theorem Ent.trans {S S' S'' : AState} (h : Ent S S') (k : Ent S' S'') : Ent S S'' := fun C E M a w hs =>
  let ⟨E', M', h'⟩ := h C E M a w hs
  k C E' M' a w h'

/-- THE WEAKEST PRECONDITION of a statement on abstract states. -/
def AWp (C : Ctx) (c : Code) (S : AState) (Q : Exit → AState → Prop) : Prop :=
  ∀ (E : Env) (M : Mem) (a : Act) (w : World), Sim C E M S a w → c.wp C.P (fun e a' w' => ∃ S' E' M', Q e S' ∧ Sim C E' M' S' a' w') a w

def eThen (n : AState → Prop) (Q : Exit → AState → Prop) : Exit → AState → Prop
  | .normal, S => n S
  | e, S => Q e S

def eBlock (id : Nat) (Q : Exit → AState → Prop) : Exit → AState → Prop
  | .exit id', S => if id' = id then Q .normal S else Q (.exit id') S
  | e, S => Q e S

section
variable {C : Ctx} {Q : Exit → AState → Prop} {S : AState}

theorem AWp.mono {c : Code} {Q' : Exit → AState → Prop} (h : AWp C c S Q) (hq : ∀ e S, Q e S → Q' e S) : AWp C c S Q' :=
  fun E M a w hs => wp_mono (h E M a w hs) fun e _ _ ⟨S', E', M', q, s⟩ => ⟨S', E', M', hq e S' q, s⟩

theorem AWp.ent {c : Code} {S' : AState} (he : Ent S S') (h : AWp C c S' Q) : AWp C c S Q := fun E M a w hs =>
  let ⟨E', M', hs'⟩ := he C E M a w hs
  h E' M' a w hs'

theorem AWp.seq {x y : Code} (h : AWp C x S (eThen (fun S' => AWp C y S' Q) Q)) : AWp C (.seq x y) S Q := fun E M a w hs =>
  wp_seq (wp_mono (h E M a w hs) fun e a' w' ⟨S', E', M', q, s⟩ => by
    cases e with
    | normal => exact q E' M' a' w' s
    | exit _ => exact ⟨S', E', M', q, s⟩
    | goto _ => exact ⟨S', E', M', q, s⟩
    | ret => exact ⟨S', E', M', q, s⟩
    | panic _ => exact ⟨S', E', M', q, s⟩
    | outgrown => exact ⟨S', E', M', q, s⟩)

theorem AWp.skip (h : Q .normal S) : AWp C .skip S Q := fun E M _ _ hs => wp_skip ⟨S, E, M, h, hs⟩
theorem AWp.ret (h : Q .ret S) : AWp C .ret S Q := fun E M _ _ hs => wp_ret ⟨S, E, M, h, hs⟩
theorem AWp.exit {id : Nat} (h : Q (.exit id) S) : AWp C (.exit id) S Q := fun E M _ _ hs => wp_exit ⟨S, E, M, h, hs⟩
theorem AWp.label {l : Nat} (h : Q .normal S) : AWp C (.label l) S Q := fun E M _ _ hs => wp_label ⟨S, E, M, h, hs⟩
theorem AWp.goto {l : Nat} (h : Q (.goto l) S) : AWp C (.goto l) S Q := fun E M _ _ hs => wp_goto ⟨S, E, M, h, hs⟩

theorem AWp.block {id : Nat} {c : Code} (h : AWp C c S (eBlock id Q)) : AWp C (.block id c) S Q := fun E M a w hs =>
  wp_block (wp_mono (h E M a w hs) fun e a' w' ⟨S', E', M', q, s⟩ => by
    cases e with
    | exit id' =>
      simp only [eBlock] at q
      simp only [Exit.inBlock]
      by_cases hid : id' = id
      · rw [if_pos hid] at q ⊢; exact ⟨S', E', M', q, s⟩
      · rw [if_neg hid] at q ⊢; exact ⟨S', E', M', q, s⟩
    | normal => exact ⟨S', E', M', q, s⟩
    | goto _ => exact ⟨S', E', M', q, s⟩
    | ret => exact ⟨S', E', M', q, s⟩
    | panic _ => exact ⟨S', E', M', q, s⟩
    | outgrown => exact ⟨S', E', M', q, s⟩)

theorem AWp.cond {c : Operand} {x y : Code} {b : Bool} (hc : ev S c = .d (.v (.bool b))) (ht : b = true → AWp C x S Q) (hf : b = false → AWp C y S Q) : AWp C (.cond c x y) S Q := fun E M a w hs => by
  have h := hs.ev c
  rw [hc] at h
  cases b with
  | true => exact wp_cond_true h.dv (ht rfl E M a w hs)
  | false => exact wp_cond_false h.dv (hf rfl E M a w hs)

theorem AWp.region {id : Nat} {ops : Array Oper} (nm : Nat → Nat) (h : aops C.P C.N nm ops.toList ops.toList S (fun S' => Q .normal S')) : AWp C (.region id ops false) S Q := fun E M a w hs =>
  wp_region (by
    have := aops_sound (C := C) (nm := nm) (ops := ops) (Q := fun e a' w' => ∃ S' E' M', Q e S' ∧ Sim C E' M' S' a' w') ops.toList 0 S _ E M a w (by simp) h hs fun S' E' M' a' w' hk hs' => ⟨S', E', M', hk, hs'⟩
    have e : (List.range ops.toList.length).map (0 + ·) = List.range ops.size := by simp
    rw [e] at this
    exact this)

/-- A loop: a relation with a measure that each round lowers. -/
theorem AWp.loop {c : Code} (I : Nat → AState → Prop) (n : Nat) (h0 : I n S)
    (hr : ∀ n S, I n S → AWp C c S (eThen (fun S' => ∃ m S'', m < n ∧ Ent S' S'' ∧ I m S'') Q)) : AWp C (.loop c) S Q := by
  have key : ∀ (n : Nat) (S : AState) (E : Env) (M : Mem) (a : Act) (w : World), I n S → Sim C E M S a w → ∀ (b : Frame) (k : List Item) (cs : List Frame),
      ∃ e a' w', (∃ S' E' M', Q e S' ∧ Sim C E' M' S' a' w') ∧ Arrives C.P (lone (b.at a (.code c :: .inLoop c :: k)) cs w) b k cs e a' w' := by
    intro n
    induction n using Nat.strongRecOn with
    | _ n ih =>
      intro S E M a w hI hs b k cs
      obtain ⟨e, a₁, w₁, ⟨S₁, E₁, M₁, hq, hs₁⟩, harr⟩ := hr n S hI E M a w hs b (.inLoop c :: k) cs
      cases e with
      | normal =>
        obtain ⟨m, S₂, hlt, hent, hI₂⟩ := hq
        obtain ⟨E₂, M₂, hs₂⟩ := hent C E₁ M₁ a₁ w₁ hs₁
        obtain ⟨e₂, a₂, w₂, hq₂, harr₂⟩ := ih m hlt S₂ E₂ M₂ a₁ w₁ hI₂ hs₂ b k cs
        exact ⟨e₂, a₂, w₂, hq₂, .of_steps (Steps.trans harr (.one step_inLoop)) harr₂⟩
      | exit id => exact ⟨_, a₁, w₁, ⟨S₁, E₁, M₁, hq, hs₁⟩, .pass (x := .inLoop c) rfl (fun _ _ => .inl (by simp)) harr⟩
      | goto l => exact ⟨_, a₁, w₁, ⟨S₁, E₁, M₁, hq, hs₁⟩, .pass (x := .inLoop c) rfl (fun _ _ => .inl (by simp)) harr⟩
      | ret => exact ⟨_, a₁, w₁, ⟨S₁, E₁, M₁, hq, hs₁⟩, .pass (x := .inLoop c) rfl (fun _ _ => .inl (by simp)) harr⟩
      | panic ch => exact ⟨_, a₁, w₁, ⟨S₁, E₁, M₁, hq, hs₁⟩, .pass (x := .inLoop c) rfl (fun _ _ => .inl (by simp)) harr⟩
      | outgrown => exact ⟨_, a₁, w₁, ⟨S₁, E₁, M₁, hq, hs₁⟩, .pass (x := .inLoop c) rfl (fun _ _ => .inl (by simp)) harr⟩
  intro E M a w hs b k cs
  obtain ⟨e, a', w', hq, harr⟩ := key n S E M a w h0 hs b k cs
  exact ⟨e, a', w', hq, .of_steps (.one step_loop) harr⟩

end

/-- The value of a result variable. -/
def resOne (P : Program) (S : AState) : ResultVar → Option H
  | .tmp t => some (S.get t)
  | .cell a t => match S.get a with
    | .bp n off => match S.own? n, tyLoad P t with
      | some (.box _ cells), some (ag, sz) => loadC ag sz (cells.drop off)
      | _, _ => none
    | _ => none

def resList (P : Program) (S : AState) : List ResultVar → Option (List H)
  | [] => some []
  | x :: r => match resOne P S x, resList P S r with
    | some h, some l => some (h :: l)
    | _, _ => none

def resH (P : Program) (S : AState) (rs : List ResultVar) : Option H :=
  match resList P S rs with
  | some [h] => some h
  | some l => some (.tup l)
  | none => none

/-- How the machine takes the value of a result variable. -/
def resSem (tmps : Array Value) : ResultVar → Sem Value
  | .tmp t => Pure.pure (tmps.getD t undef)
  | .cell c t => do loadVar t (← asAddr (tmps.getD c undef))

theorem results_eq (fn : Func) (tmps : Array Value) : results fn tmps = (do
    let vs ← fn.results.mapM (resSem tmps)
    Pure.pure (if h : vs.size = 1 then vs[0] else .tuple vs)) := by
  have : (fun (x : ResultVar) => match x with
    | .tmp t => (Pure.pure (tmps.getD t undef) : Sem Value)
    | .cell a t => do loadVar t (← asAddr (tmps.getD a undef))) = resSem tmps := by
    funext x; cases x <;> rfl
  rw [← this]; rfl

theorem run_resList {C : Ctx} {E : Env} {M : Mem} {S : AState} {a : Act} {w : World} (hs : Sim C E M S a w) : ∀ (rs : List ResultVar) (l : List H), resList C.P S rs = some l →
    ∃ vs : List Value, (rs.mapM (resSem a.tmps)).run C.P w = .ok vs w ∧ HReps E M vs.toArray l
  | [], l, h => by
    simp [resList] at h; subst h
    exact ⟨[], by simp, rfl, by simp⟩
  | x :: r, l, h => by
    simp only [resList] at h
    split at h
    · rename_i y l' hy hl'
      simp at h; subst h
      obtain ⟨vs, h1, h2, h3⟩ := run_resList hs r l' hl'
      have one : ∃ v, (resSem a.tmps x).run C.P w = .ok v w ∧ HRep E M v y := by
        cases x with
        | tmp t =>
          simp [resOne] at hy; subst hy
          exact ⟨_, by simp [resSem], hs.get t⟩
        | cell c t =>
          simp only [resOne] at hy
          split at hy
          · rename_i n off he
            split at hy
            · rename_i cells ag sz hc ht
              have hg := hs.get c
              rw [he] at hg
              generalize hq : a.tmps.getD c undef = q at hg
              cases hg with
              | bp n off b hE =>
                obtain ⟨cs, ty, g1, g2, g3, g4, _⟩ := (hs.own n _ hc).box_cell hE
                obtain ⟨v, hr, hrep⟩ := load_rows (cs := cs.toList.drop off) (w := w) (b := b) (off := off) ht (by simp [g2]) (fun j v hv => g4 _ v (by simpa using hv)) (fun i c y hc hy => g3 (off + i) c y (by simpa using hc) (by simpa using hy)) hy
                exact ⟨v, by simp only [resSem, hq, asAddr, Sem.run_bind, Sem.run_pure, Result.andThen_ok]; exact hr, hrep⟩
            · cases hy
          · cases hy
      obtain ⟨v, hv1, hv2⟩ := one
      refine ⟨v :: vs, by rw [List.mapM_cons, Sem.run_bind, hv1, Result.andThen_ok, Sem.run_bind, h1, Result.andThen_ok, Sem.run_pure], by simpa using h2, fun i c z hc hz => ?_⟩
      cases i with
      | zero => simp at hc hz; subst hc; subst hz; exact hv2
      | succ i => exact h3 i c z (by simpa using hc) (by simpa using hz)
    · cases h

theorem run_resH {C : Ctx} {E : Env} {M : Mem} {S : AState} {a : Act} {w : World} (hs : Sim C E M S a w) {fn : Func} {r : H} (h : resH C.P S fn.results.toList = some r) :
    ∃ v, (results fn a.tmps).run C.P w = .ok v w ∧ HRep E M v r := by
  unfold resH at h
  have run : ∀ l, resList C.P S fn.results.toList = some l → ∃ vs : List Value, HReps E M vs.toArray l ∧ (results fn a.tmps).run C.P w = .ok (if h : vs.toArray.size = 1 then vs.toArray[0] else .tuple vs.toArray) w := by
    intro l hl
    obtain ⟨vs, h1, h2⟩ := run_resList hs _ l hl
    refine ⟨vs, h2, ?_⟩
    rw [results_eq, Array.mapM_eq_mapM_toList, Sem.run_bind, Sem.run_map, h1]
    rfl
  split at h
  · rename_i y hl
    simp at h; subst h
    obtain ⟨vs, h2, h3⟩ := run _ hl
    have hsz : vs.toArray.size = 1 := by simpa using h2.1
    rw [dif_pos hsz] at h3
    exact ⟨_, h3, h2.2 0 _ y (Array.getElem?_eq_getElem (by omega)) rfl⟩
  · rename_i l hne hl
    simp at h; subst h
    obtain ⟨vs, h2, h3⟩ := run _ hl
    have hsz : ¬ vs.toArray.size = 1 := by
      intro hs1
      rw [h2.1] at hs1
      obtain ⟨x, hx⟩ := List.length_eq_one_iff.1 hs1
      subst hx
      exact hne x rfl
    rw [dif_neg hsz] at h3
    exact ⟨_, h3, .tup _ _ h2.1 h2.2⟩
  · cases h

/-- The slots as a function begins. -/
def startT : Nat → List H → List (Nat × H)
  | _, [] => []
  | i, x :: r => (i, x) :: startT (i + 1) r

theorem gt_startT : ∀ (l : List H) (i t : Nat) (x : H), gt (startT i l) t = some x → i ≤ t ∧ l[t - i]? = some x
  | [], i, t, x, h => by simp [startT, gt] at h
  | y :: r, i, t, x, h => by
    simp only [startT, gt_cons] at h
    by_cases hi : i = t
    · subst hi; simp at h; subst h; simp
    · rw [if_neg hi] at h
      obtain ⟨h1, h2⟩ := gt_startT r (i + 1) t x h
      refine ⟨by omega, ?_⟩
      have : t - i = (t - (i + 1)) + 1 := by omega
      rw [this]; simpa using h2

def startO (own : List (Nat × Own)) : List (Nat × Option Own) := own.map fun p => (p.1, some p.2)

theorem gt_startO : ∀ (own : List (Nat × Own)) (n : Nat), (gt (startO own) n).getD none = gt own n
  | [], n => rfl
  | (k, o) :: r, n => by
    have ih := gt_startO r n
    simp only [startO, List.map_cons, gt_cons] at ih ⊢
    by_cases hk : k = n
    · simp [hk]
    · rw [if_neg hk, if_neg hk]; exact ih

/-- What must hold where a function ends. -/
def FnEnd (P : Program) (rs : List ResultVar) (r : H) (own' : List (Nat × Own)) (e : Exit) (S : AState) : Prop :=
  (e = .normal ∨ e = .ret) ∧ ∃ S', Ent S S' ∧ resH P S' rs = some r ∧ ∀ n o, gt own' n = some o → S'.own? n = some o

/-- A FUNCTION's CONTRACT OUT OF ITS TEXT. -/
theorem fn_of_awp {P : Program} {f : FuncId} {fn : Func} {c : Code} {args : List H} {own own' : List (Nat × Own)} {r : H} (hf : P.funcs[f]? = some fn) (hb : fn.body = some c)
    (hname : (fn.name != "runtime.NumGoroutine") = true) (hn : args.length ≤ fn.ntmps)
    (h : ∀ C : Ctx, C.P = P → C.N = fn.ntmps → AWp C c ⟨startT 0 args, startO own⟩ (FnEnd P fn.results.toList r own')) : FnOk P f args own r own' := by
  refine ⟨by simp [callable, hf, hb, hname], fun E M w vs hgm hm how hvs => ?_⟩
  refine calls_of_wp hf hb ?_
  let C : Ctx := ⟨P, fn.ntmps, w, M, E, inExt E own, hgm, fun b ⟨n, o, hn, hb⟩ => ((how.ok n o hn).block hb).2⟩
  have hs : Sim C E M ⟨startT 0 args, startO own⟩ { tmps := vs ++ Array.replicate (fn.ntmps - vs.size) undef, defers := [] } w := by
    have hvs1 := hvs.1
    refine { size := by simp [C]; omega, defers := rfl, tmps := fun t x hx => ?_, mem := hm, own := fun n o ho => ?_, apart := fun n m o o' b hne ho ho' => ?_, home := fun n o b ho hb => ?_, m0 := Mem.le_refl M, mnew := fun b o v hv => .inl hv, frame := fun _ _ _ => rfl, grows := Nat.le_refl _, os := rfl, tape := rfl, output := rfl, env := fun _ _ => rfl }
    · obtain ⟨_, h2⟩ := gt_startT args 0 t x hx
      simp only [Nat.sub_zero] at h2
      have hlt : t < vs.size := by have := (List.getElem?_eq_some_iff.1 h2).1; omega
      exact ⟨vs[t], by simp [Array.getElem?_append_left hlt, hlt], hvs.2 t _ x (Array.getElem?_eq_getElem hlt) h2⟩
    · have ho' : gt own n = some o := by rw [← gt_startO]; exact ho
      exact how.ok n o ho'
    · have h1 : gt own n = some o := by rw [← gt_startO]; exact ho
      have h2 : gt own m = some o' := by rw [← gt_startO]; exact ho'
      exact how.apart n m o o' b hne h1 h2
    · have h1 : gt own n = some o := by rw [← gt_startO]; exact ho
      exact .inl ⟨n, o, h1, hb⟩
  refine wp_mono (h C rfl rfl E M _ w hs) ?_
  rintro e a' w' ⟨S', E', M', ⟨he, S'', hent, hres, hown⟩, hs'⟩
  obtain ⟨E2, M2, hs2⟩ := hent C E' M' a' w' hs'
  obtain ⟨v, hrun, hrep⟩ := run_resH (C := C) hs2 hres
  have hpost : FnPost E M own w v r own' E2 M2 w' :=
    { rep := hrep
      owns := ⟨fun n o ho => hs2.own n o (hown n o ho), fun n m o o' b hne h1 h2 => hs2.apart n m o o' b hne (hown n o h1) (hown m o' h2)⟩
      mle := hs2.m0
      mem := hs2.mem
      mnew := hs2.mnew
      home := fun n o b ho hb => hs2.home n o b (hown n o ho) hb
      frame := hs2.frame
      grows := hs2.grows
      os := hs2.os
      tape := hs2.tape
      output := hs2.output
      env := hs2.env }
  rcases he with rfl | rfl
  · exact ⟨hs2.defers, v, hrun, v, E2, M2, rfl, hpost⟩
  · exact ⟨hs2.defers, v, hrun, v, E2, M2, rfl, hpost⟩

end Go.Awp
