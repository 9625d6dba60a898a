/-
  Typed states: regions.
-/
import Derived.Test.YtdmggfegkaiaiaaGreatDoorTxH
namespace Go.Tx
open Go.Awp
set_option linter.unusedSectionVars false
variable [Inhabited GMem]
set_option linter.unusedSimpArgs false

section
variable {ι : Type} {N : ι → Type}

/-- What was tested is known. -/
def setB (S : TS N) (d : Nat) (b : Bool) : TS N := { S with tmps := (d, .lf .bool b) :: S.tmps }

def guardV (S : TS N) (all : List Oper) (j : Nat) : Option (Nat × TV N) := match all[j]? with
  | some o => match o.dst with
    | some d => match gt S.tmps d with
      | some v => some (d, v)
      | none => none
    | none => none
  | none => none

def dstOk (n : Nat) (o : Oper) : Bool := match o.dst with
  | some d => Nat.blt d n
  | none => true

def newOk (S : TS N) (e : TE N) : Bool := e.new.all fun d => S.fresh d && Nat.blt d given
end

section
variable (V : View) (P : Program) (n : Nat) (nm : Nat → Nat) (call : Caller V)

def wantsAll : TV V.N → List (TV V.N)
  | .vh n => [.vh n]
  | .agg cs => cs
  | _ => []

def wantsC (b : Bool) : TV V.N → List (TV V.N)
  | .vh n => match b with
    | true => [.vh n]
    | false => []
  | .agg cs => cs
  | _ => []

/-- Slices that an operation wants as data are frozen. -/
def preOp (pre : Nat → Bool) (o : Oper) (S : TS V.N) : TS V.N := match o.op with
  | .buildSlice _ _ parts => frzL V S (parts.toList.flatMap fun p => wantsAll V (tev S p.2))
  | .convert _ _ x => frzL V S (wantsAll V (tev S x))
  | .slice _ x _ _ _ => frzL V S (wantsAll V (tev S x))
  | .store _ x y => match tev S x with
    | .ep .. => frzL V S (wantsAll V (tev S y))
    | _ => S
  | .call c => match c.callee with
    | .value f => match tev S f with
      | .fn fid first captured => frzL V S ((first ++ c.args.toList.map (tev S) ++ captured).flatMap (wantsC V (pre fid)))
      | _ => S
    | .builtin .append => match c.args.toList, c.argTypes.toList with
      | [_, .tmp t], ty :: _ => match gt S.tmps t, V.ty ty with
        | some (.vh n), _ => frzL V S [.vh n]
        | some (.raw (.slice (some _) 0 _)), some (.sl e) => { S with tmps := (t, .lf (.sl e) []) :: S.tmps }
        | some (.raw (.slice none 0 0)), some (.sl e) => { S with tmps := (t, .lf (.sl e) []) :: S.tmps }
        | _, _ => S
      | _, _ => S
    | _ => S
  | _ => S

/-- A list whose spine is written out: the kernel computes with it. -/
def forceL {α β : Type} : List α → (List α → β) → β
  | [], k => k []
  | x :: r, k => forceL r fun l => k (x :: l)

theorem forceL_eq {α β : Type} : ∀ (l : List α) (k : List α → β), forceL l k = k l
  | [], _ => rfl
  | x :: r, k => by rw [forceL, forceL_eq r]

def forceS {ι : Type} {N : ι → Type} {β : Type} (S : TS N) (k : TS N → β) : β := forceL S.tmps fun t => forceL S.own fun o => k ⟨t, o⟩

theorem forceS_eq {ι : Type} {N : ι → Type} {β : Type} (S : TS N) (k : TS N → β) : forceS S k = k S := by
  unfold forceS
  rw [forceL_eq, forceL_eq]

/-- One operation, then the rest. -/
def txo (pre : Nat → Bool) (o : Oper) {A : Type} (S : TS V.N) (k : TS V.N → Option A) : Option A :=
  tx V P nm call false o (preOp V pre o S) fun te => match newOk (preOp V pre o S) te with
    | true => k ((preOp V pre o S).app o.dst te)
    | false => none

/-- Operations in the order of the text. -/
def txs (pre : Nat → Bool) (all : List Oper) {A : Type} : List Oper → TS V.N → (TS V.N → Option A) → Option A
  | [], S, k => k S
  | o :: os, S, k => forceS S fun S => match dstOk n o with
    | false => none
    | true => match o.guard with
      | none => txo V P nm call pre o S fun S' => txs pre all os S' k
      | some (j, want) => match guardV S all j with
        | some (d, .lf .bool b) => if b = true then
              match want with
              | true => txo V P nm call pre o (setB S d true) fun S' => txs pre all os S' k
              | false => txs pre all os ((setB S d true).app o.dst { val := .tup [] }) k
            else
              match want with
              | false => txo V P nm call pre o (setB S d false) fun S' => txs pre all os S' k
              | true => txs pre all os ((setB S d false).app o.dst { val := .tup [] }) k
        | some (_, .tup []) => txs pre all os (S.app o.dst { val := .tup [] }) k
        | _ => none

/-- Operations of a region that draws its order, in the order of the text. -/
def txd (all : List Oper) {A : Type} : List Oper → TS V.N → List Tr1 → (TS V.N → List Tr1 → Option A) → Option A
  | [], S, tr, k => k S tr
  | o :: os, S, tr, k => forceS S fun S => match dstOk n o with
    | false => none
    | true => match o.guard with
      | none => tx V P nm call true o S fun te => match newOk S te with
        | true => txd all os (S.app o.dst te) (tr ++ [⟨encE (S.app o.dst te).len te, true⟩]) k
        | false => none
      | some (j, want) => match guardV S all j with
        | some (d, .lf .bool b) => if b = true then
              match want with
              | true => tx V P nm call true o (setB S d true) fun te => match newOk (setB S d true) te with
                | true => txd all os ((setB S d true).app o.dst te) (tr ++ [⟨encE ((setB S d true).app o.dst te).len te, true⟩]) k
                | false => none
              | false => txd all os ((setB S d true).app o.dst { val := .tup [] }) (tr ++ [⟨{ val := .tup [] }, false⟩]) k
            else
              match want with
              | false => tx V P nm call true o (setB S d false) fun te => match newOk (setB S d false) te with
                | true => txd all os ((setB S d false).app o.dst te) (tr ++ [⟨encE ((setB S d false).app o.dst te).len te, true⟩]) k
                | false => none
              | true => txd all os ((setB S d false).app o.dst { val := .tup [] }) (tr ++ [⟨{ val := .tup [] }, false⟩]) k
        | some (_, .tup []) => txd all os (S.app o.dst { val := .tup [] }) (tr ++ [⟨{ val := .tup [] }, false⟩]) k
        | _ => none
end

section
variable {V : View}

theorem setB_sim {C : Ctx} {E : Env} {M : Mem} {S : TS V.N} {d : Nat} {b : Bool} {a : Act} {w : World} (hd : gt S.tmps d = some (.lf .bool b)) (hs : Sim C E M (encS V S) a w) : Sim C E M (encS V (setB S d b)) a w := by
  have hl : (setB S d b).len = S.len := rfl
  refine Sim.le hs (fun t x hx => ?_) fun n o ho => ⟨o, ho, OLe.refl _⟩
  rw [encS_gt] at hx ⊢
  simp only [setB, gt_cons] at hx
  by_cases h : d = t
  · subst h
    rw [if_pos rfl] at hx
    rw [hd]
    exact ⟨x, hx, H.le.refl _⟩
  · rw [if_neg h] at hx
    exact ⟨x, hx, H.le.refl _⟩

theorem guardV_some {S : TS V.N} {all : List Oper} {j d : Nat} {v : TV V.N} (h : guardV S all j = some (d, v)) : gt S.tmps d = some v ∧ ∃ o, all[j]? = some o ∧ o.dst = some d := by
  unfold guardV at h
  split at h
  · rename_i o ho
    split at h
    · rename_i d' hd
      split at h
      · rename_i v' hv
        simp at h; obtain ⟨rfl, rfl⟩ := h
        exact ⟨hv, o, ho, hd⟩
      · cases h
    · cases h
  · cases h

theorem guardB_of {S : TS V.N} {σ : AState} (hσ : ∀ t, gt σ.tmps t = gt (encS V S).tmps t) {all : List Oper} {j d : Nat} {v : TV V.N} {want b : Bool} (h : guardV S all j = some (d, v))
    (hv : v = .lf .bool b ∨ v = .tup [] ∧ b = !want) : guardB σ all j want = some b := by
  obtain ⟨h1, o, h2, h3⟩ := guardV_some h
  have hg : σ.get d = encV V S.len v := by
    unfold AState.get
    rw [hσ, encS_gt, h1]; rfl
  unfold guardB
  simp only [h2, h3, hg]
  rcases hv with rfl | ⟨rfl, rfl⟩
  · simp [encV, encD]
  · simp [encV, encL]

theorem newOk_fresh {S : TS V.N} {te : TE V.N} (h : newOk S te = true) : (∀ d ∈ te.new, S.fresh d = true) ∧ ∀ d ∈ te.new, d < given := by
  unfold newOk at h
  rw [List.all_eq_true] at h
  refine ⟨fun d hd => ?_, fun d hd => ?_⟩
  · have := h d hd
    simp only [Bool.and_eq_true] at this
    exact this.1
  · have := h d hd
    simp only [Bool.and_eq_true, Nat.blt_eq] at this
    exact this.2

theorem dstOk_lt {n : Nat} {o : Oper} (h : dstOk n o = true) : ∀ d, o.dst = some d → d < n := by
  intro d hd
  unfold dstOk at h
  rw [hd] at h
  simpa [Nat.blt_eq] using h

theorem tup_good (S : TS V.N) : good S { val := .tup [] } := good_val S _ _

theorem tup_sim {C : Ctx} {E : Env} {M : Mem} {S : TS V.N} {o : Oper} {a : Act} {w : World} (hd : ∀ d, o.dst = some d → d < C.N) (hs : Sim C E M (encS V S) a w) : Sim C E M (encS V (S.app o.dst { val := .tup [] })) (a.put o.dst undef) w := by
  have h1 := hs.app_val (o := o) hd (e := { val := .tup [] }) rfl undefH
  refine Sim.tapp (ex := false) (e' := { val := .tup [] }) (tup_good S) (fun d h => by cases h) (ele_eq ?_) h1
  simp [encV, encL]

/-- One operation, then the rest. -/
theorem tx_wp {C : Ctx} {nm : Nat → Nat} {call : Caller V} {ex : Bool} {o : Oper} {S : TS V.N} {A : Type} {k : TS V.N → Option A} {r : A} {E : Env} {M : Mem} {a : Act} {w : World} {K : Act → World → Prop} {Q : Exit → Act → World → Prop}
    (hcall : CallerOk C.P call) (hd : dstOk C.N o = true) (h : (tx V C.P nm call ex o S fun te => match newOk S te with | true => k (S.app o.dst te) | false => none) = some r) (hs : Sim C E M (encS V S) a w)
    (hK : ∀ te E' M' a' w', k (S.app o.dst te) = some r → Sim C E' M' (encS V (S.app o.dst te)) a' w' → K a' w') : o.wp C.P a w K Q := by
  have hnew : ∀ te : TE V.N, (match newOk S te with | true => k (S.app o.dst te) | false => none) = some r → newOk S te = true ∧ k (S.app o.dst te) = some r := by
    intro te h
    cases hq : newOk S te with
    | true => rw [hq] at h; exact ⟨rfl, h⟩
    | false => rw [hq] at h; cases h
  obtain ⟨te, h1, h2, h3⟩ := tx_sound hcall (fun te hte => (newOk_fresh (hnew te hte).1).1) h
  obtain ⟨hn, hk⟩ := hnew te h1
  obtain ⟨f1, f2⟩ := newOk_fresh hn
  refine ok_all (dstOk_lt hd) E M (encS V S) a w K Q (fun e => ELe ex e (encE (S.app o.dst te).len te)) hs (AVal_mono (fun e he => ⟨fun d hd => ?_, he⟩) h3) fun e E' M' a' w' he hs' => hK te E' M' a' w' hk (Sim.tapp h2 f1 he hs')
  have hd : d ∈ te.new := by rw [he.new] at hd; exact hd
  exact ⟨encS_fresh (f1 d hd), f2 d hd⟩

theorem slot_le {S : TS V.N} {t : Nat} {v v' : TV V.N} (ht : gt S.tmps t = some v) (h : H.le (encV V S.len v) (encV V S.len v')) : Ent (encS V S) (encS V { S with tmps := (t, v') :: S.tmps }) :=
  Ent.le (fun d x hx => by
    have hl : ({ S with tmps := (t, v') :: S.tmps } : TS V.N).len = S.len := rfl
    rw [encS_gt] at hx
    simp only [gt_cons, hl] at hx
    by_cases h1 : t = d
    · subst h1
      rw [if_pos rfl] at hx
      simp at hx; subst hx
      exact ⟨_, by rw [encS_gt, ht]; rfl, h⟩
    · rw [if_neg h1] at hx
      exact ⟨x, by rw [encS_gt]; exact hx, H.le.refl _⟩) fun n o ho => ⟨o, ho, OLe.refl _⟩

theorem preOp_ent (pre : Nat → Bool) (o : Oper) (S : TS V.N) : Ent (encS V S) (encS V (preOp V pre o S)) := by
  unfold preOp
  split
  · exact frzL_ent _ S
  · exact frzL_ent _ S
  · exact frzL_ent _ S
  · split
    · exact frzL_ent _ S
    · exact Ent.refl _
  · split
    · split
      · exact frzL_ent _ S
      · exact Ent.refl _
    · split
      · split
        · exact frzL_ent _ S
        · rename_i ht _
          refine slot_le ht ?_
          simp only [encV, encRaw, encD, List.map_nil]
          exact fun E M v h => by rw [h.dv]; exact .d (.slmt _ _ _)
        · rename_i ht _
          refine slot_le ht ?_
          simp only [encV, encRaw, encD, List.map_nil]
          exact fun E M v h => by rw [h.dv]; exact .d (.slnil _)
        · exact Ent.refl _
      · exact Ent.refl _
    · exact Ent.refl _
  · exact Ent.refl _

theorem txs_sound {C : Ctx} {nm : Nat → Nat} {call : Caller V} {pre : Nat → Bool} {ops : Array Oper} {Q : Exit → Act → World → Prop} {A : Type} {r : A} (hcall : CallerOk C.P call) : ∀ (l : List Oper) (i : Nat) (S : TS V.N) (k : TS V.N → Option A) (E : Env) (M : Mem) (a : Act) (w : World),
    ops.toList.drop i = l → txs V C.P C.N nm call pre ops.toList l S k = some r → Sim C E M (encS V S) a w → (∀ S' E' M' a' w', k S' = some r → Sim C E' M' (encS V S') a' w' → Q .normal a' w') →
    wpOps C.P ops Q ((List.range l.length).map (i + ·)) a w
  | [], i, S, k, E, M, a, w, _, h, hs, hQ => by
    simp only [txs] at h
    simpa [wpOps] using hQ S E M a w h hs
  | o :: os, i, S, k, E, M, a, w, hl, h, hs, hQ => by
    have hi : ops[i]? = some o := by
      have : (ops.toList.drop i)[0]? = some o := by rw [hl]; rfl
      simpa using this
    have hl' : ops.toList.drop (i + 1) = os := by
      rw [← List.tail_drop, hl]; rfl
    have hlist : (List.range (o :: os).length).map (i + ·) = i :: (List.range os.length).map (i + 1 + ·) := by
      simp only [List.length_cons, List.range_succ_eq_map, List.map_cons, List.map_map, Nat.add_zero]
      congr 1
      apply List.map_congr_left
      intro x _
      simp; omega
    rw [hlist]
    simp only [txs, forceS_eq] at h
    split at h
    · cases h
    rename_i hdst
    have run : ∀ (S : TS V.N), Sim C E M (encS V S) a w → (txo V C.P nm call pre o S fun S' => txs V C.P C.N nm call pre ops.toList os S' k) = some r →
        o.wp C.P a w (wpOps C.P ops Q ((List.range os.length).map (i + 1 + ·))) Q := fun S hs h =>
      let ⟨_, _, hs1⟩ := preOp_ent pre o S C E M a w hs
      tx_wp (k := fun S' => txs V C.P C.N nm call pre ops.toList os S' k) hcall hdst h hs1 fun te E' M' a' w' hk hs' => txs_sound hcall os (i + 1) _ k E' M' a' w' hl' hk hs' hQ
    have off : ∀ (S : TS V.N), Sim C E M (encS V S) a w → txs V C.P C.N nm call pre ops.toList os (S.app o.dst { val := .tup [] }) k = some r →
        wpOps C.P ops Q ((List.range os.length).map (i + 1 + ·)) (a.put o.dst undef) w := fun S hs h =>
      txs_sound hcall os (i + 1) _ k E M _ w hl' h (tup_sim (dstOk_lt hdst) hs) hQ
    simp only [wpOps, hi]
    cases hg : o.guard with
    | none =>
      simp only [hg] at h
      rw [if_pos (by simp [Region.wanted, hg])]
      exact .inl (run S hs h)
    | some g =>
      obtain ⟨j, want⟩ := g
      simp only [hg] at h
      split at h
      · rename_i d b hgv
        have hb := guardB_of (V := V) (S := S) (σ := encS V S) (fun t => rfl) (want := want) hgv (.inl rfl)
        have hy := hs.guard hb
        have hgt := (guardV_some hgv).1
        cases b with
        | true =>
          rw [if_pos rfl] at h
          have hs' := setB_sim hgt hs
          cases want with
          | true =>
            rw [if_pos (by simp [Region.wanted, hg, hy])]
            exact .inl (run _ hs' h)
          | false =>
            rw [if_neg (by simp [Region.wanted, hg, hy])]
            exact off _ hs' h
        | false =>
          rw [if_neg (by simp)] at h
          have hs' := setB_sim hgt hs
          cases want with
          | false =>
            rw [if_pos (by simp [Region.wanted, hg, hy])]
            exact .inl (run _ hs' h)
          | true =>
            rw [if_neg (by simp [Region.wanted, hg, hy])]
            exact off _ hs' h
      · rename_i d hgv
        have hb := guardB_of (V := V) (S := S) (σ := encS V S) (fun t => rfl) (want := want) hgv (.inr ⟨rfl, rfl⟩)
        have hy := hs.guard hb
        rw [if_neg (by cases want <;> simp [Region.wanted, hg, hy])]
        exact off _ hs h
      · cases h

/-- A state is what a typed state stands for, slot for slot. -/
structure Rl (σ : AState) (S : TS V.N) : Prop where
  tmp : ∀ t, gt σ.tmps t = gt (encS V S).tmps t
  own : ∀ n, σ.own? n = (encS V S).own? n
  fresh : ∀ d, S.fresh d = true → σ.fresh d = true

theorem Rl.refl (S : TS V.N) : Rl (encS V S) S := ⟨fun _ => rfl, fun _ => rfl, fun _ h => encS_fresh h⟩

theorem Rl.ent {σ : AState} {S : TS V.N} (h : Rl σ S) : Ent σ (encS V S) := Ent.le (fun t x hx => ⟨x, by rw [h.tmp]; exact hx, H.le.refl _⟩) fun n o ho => ⟨o, by rw [h.own]; exact ho, OLe.refl _⟩

theorem Rl.setB {σ : AState} {S : TS V.N} (h : Rl σ S) {d : Nat} {b : Bool} (hd : gt S.tmps d = some (.lf .bool b)) : Rl σ (setB S d b) where
  tmp := fun t => by
    rw [h.tmp, encS_gt, encS_gt]
    simp only [Tx.setB, gt_cons]
    by_cases e : d = t
    · subst e; rw [if_pos rfl, hd]; simp [encV]
    · rw [if_neg e]; rfl
  own := fun n => h.own n
  fresh := fun n hn => h.fresh n (by
    unfold TS.fresh at hn ⊢
    simp only [Bool.and_eq_true] at hn ⊢
    refine ⟨⟨hn.1.1, ?_⟩, hn.2⟩
    have := hn.1.2
    simp only [Tx.setB, List.all_cons, Bool.and_eq_true] at this
    exact this.2)

theorem Rl.app {σ : AState} {S : TS V.N} (h : Rl σ S) {dst : Option Tmp} {te : TE V.N} (hg : good S te) (hn : ∀ d ∈ te.new, S.fresh d = true) : Rl (σ.app dst (encE (S.app dst te).len te)) (S.app dst te) where
  tmp := fun t => by
    rw [(encS_app (dst := dst) hg hn).1]
    simp only [AState.app, putT]
    cases dst with
    | none => exact h.tmp t
    | some d => simp only [gt_cons]; rw [h.tmp]
  own := fun n => by
    rw [(encS_app (dst := dst) hg hn).2]
    have := h.own n
    unfold AState.own? at this ⊢
    simp only [AState.app, gt_app]
    cases gt (encE (S.app dst te).len te).upd n with
    | some o => rfl
    | none => exact this
  fresh := fun n hn' => by
    unfold TS.fresh at hn'
    simp only [Bool.and_eq_true] at hn'
    obtain ⟨⟨f1, f2⟩, f3⟩ := hn'
    have hu : gt te.upd n = none := by
      rw [app_own?] at f1
      cases hq : gt te.upd n with
      | none => rfl
      | some o => rw [hq] at f1; cases f1
    have hs : S.fresh n = true := by
      unfold TS.fresh
      simp only [Bool.and_eq_true]
      refine ⟨⟨?_, ?_⟩, ?_⟩
      · rw [app_own?, hu] at f1; exact f1
      · rw [List.all_eq_true] at f2 ⊢
        intro p hp
        refine f2 p ?_
        unfold TS.app putV
        cases dst with
        | none => exact hp
        | some d => exact List.mem_cons_of_mem _ hp
      · rw [List.all_eq_true] at f3 ⊢
        exact fun p hp => f3 p (List.mem_append_right _ hp)
    have hσ := h.fresh n hs
    unfold AState.fresh at hσ ⊢
    simp only [Bool.and_eq_true] at hσ ⊢
    obtain ⟨⟨g1, g2⟩, g3⟩ := hσ
    refine ⟨⟨?_, ?_⟩, ?_⟩
    · have hq : gt (encE (S.app dst te).len te).upd n = none := by simp only [encE, gt_map, hu]; rfl
      unfold AState.own? at g1 ⊢
      simp only [AState.app, gt_app, hq]
      exact g1
    · simp only [AState.app, putT]
      cases dst with
      | none => exact g2
      | some d =>
        rw [List.all_cons, Bool.and_eq_true]
        refine ⟨?_, g2⟩
        rw [List.all_eq_true] at f2
        have := f2 (d, te.val) (by simp [TS.app, putV])
        simpa [encE, encV_has] using this
    · simp only [AState.app, List.all_append, Bool.and_eq_true]
      refine ⟨?_, g3⟩
      rw [List.all_eq_true] at f3 ⊢
      intro p hp
      simp only [encE, List.mem_map] at hp
      obtain ⟨q, hq, rfl⟩ := hp
      have := f3 q (List.mem_append_left _ hq)
      simp only
      cases ho : encO V (S.app dst te).len q.2 with
      | none => rfl
      | some o => simp only [encO_has _ n ho]; exact this

theorem Rl.tup {σ : AState} {S : TS V.N} (h : Rl σ S) {dst : Option Tmp} : Rl (σ.app dst { val := .tup [] }) (S.app dst { val := .tup [] }) := by
  have := h.app (dst := dst) (te := { val := .tup [] }) (tup_good S) fun d h => by cases h
  simpa [encE, encV, encL] using this

theorem txd_sound {P : Program} {n : Nat} {nm : Nat → Nat} {call : Caller V} {all : List Oper} {A : Type} {r : A} (hcall : CallerOk P call) : ∀ (l : List Oper) (S : TS V.N) (σ : AState) (tr : List Tr1) (k : TS V.N → List Tr1 → Option A),
    txd V P n nm call all l S tr k = some r → Rl σ S → aopsT P n nm all l σ tr fun σ' tr' => ∃ S', Rl σ' S' ∧ k S' tr' = some r
  | [], S, σ, tr, k, h, hr => by
    simp only [txd] at h
    exact ⟨S, hr, h⟩
  | o :: os, S, σ, tr, k, h, hr => by
    simp only [txd, forceS_eq] at h
    split at h
    · cases h
    rename_i hdst
    have run : ∀ (S : TS V.N), Rl σ S → (tx V P nm call true o S fun te => match newOk S te with | true => txd V P n nm call all os (S.app o.dst te) (tr ++ [⟨encE (S.app o.dst te).len te, true⟩]) k | false => none) = some r →
        AVal P nm o (ev σ) σ.own? fun e => (∀ d ∈ e.new, σ.fresh d = true ∧ d < given) ∧ aopsT P n nm all os (σ.app o.dst e) (tr ++ [⟨e, true⟩]) fun σ' tr' => ∃ S', Rl σ' S' ∧ k S' tr' = some r := by
      intro S hr h
      have hnew : ∀ te : TE V.N, (match newOk S te with | true => txd V P n nm call all os (S.app o.dst te) (tr ++ [⟨encE (S.app o.dst te).len te, true⟩]) k | false => none) = some r →
          newOk S te = true ∧ txd V P n nm call all os (S.app o.dst te) (tr ++ [⟨encE (S.app o.dst te).len te, true⟩]) k = some r := by
        intro te h
        cases hq : newOk S te with
        | true => rw [hq] at h; exact ⟨rfl, h⟩
        | false => rw [hq] at h; cases h
      obtain ⟨te, h1, h2, h3⟩ := tx_sound hcall (fun te hte => (newOk_fresh (hnew te hte).1).1) h
      obtain ⟨hn, hk⟩ := hnew te h1
      obtain ⟨f1, f2⟩ := newOk_fresh hn
      have e1 : ev σ = ev (encS V S) := by
        funext x
        cases x with
        | tmp t => simp only [ev, AState.get, hr.tmp]
        | _ => rfl
      have e2 : σ.own? = (encS V S).own? := funext hr.own
      rw [e1, e2]
      refine AVal_mono (fun e he => ?_) h3
      have he' : e = encE (S.app o.dst te).len te := by
        obtain ⟨q1, q2, q3⟩ := he.eq rfl
        have q4 := he.new
        cases e
        simp only at q1 q2 q3 q4
        subst q1; subst q2; subst q3; subst q4; rfl
      subst he'
      exact ⟨fun d hd => ⟨hr.fresh d (f1 d hd), f2 d hd⟩, txd_sound hcall os _ _ _ k hk (hr.app h2 f1)⟩
    have off : ∀ (S : TS V.N), Rl σ S → txd V P n nm call all os (S.app o.dst { val := .tup [] }) (tr ++ [⟨{ val := .tup [] }, false⟩]) k = some r →
        aopsT P n nm all os (σ.app o.dst { val := .tup [] }) (tr ++ [⟨{ val := .tup [] }, false⟩]) fun σ' tr' => ∃ S', Rl σ' S' ∧ k S' tr' = some r := fun S hr h =>
      txd_sound hcall os _ _ _ k h hr.tup
    simp only [aopsT]
    refine ⟨dstOk_lt hdst, ?_⟩
    cases hg : o.guard with
    | none =>
      simp only [hg] at h
      exact run S hr h
    | some g =>
      obtain ⟨j, want⟩ := g
      simp only [hg] at h
      split at h
      · rename_i d b hgv
        have hb := guardB_of (V := V) (S := S) (σ := σ) hr.tmp (want := want) hgv (.inl rfl)
        have hgt := (guardV_some hgv).1
        simp only [hb]
        cases b with
        | true =>
          rw [if_pos rfl] at h
          have hr' := hr.setB hgt
          cases want with
          | true => exact ⟨fun _ => run _ hr' h, fun e => by simp at e⟩
          | false => exact ⟨fun e => by simp at e, fun _ => off _ hr' h⟩
        | false =>
          rw [if_neg (by simp)] at h
          have hr' := hr.setB hgt
          cases want with
          | false => exact ⟨fun _ => run _ hr' h, fun e => by simp at e⟩
          | true => exact ⟨fun e => by simp at e, fun _ => off _ hr' h⟩
      · rename_i d hgv
        have hb := guardB_of (V := V) (S := S) (σ := σ) hr.tmp (want := want) hgv (.inr ⟨rfl, rfl⟩)
        simp only [hb]
        exact ⟨fun e => by cases want <;> simp at e, fun _ => off _ hr h⟩
      · cases h

end
end Go.Tx
