/-
  Typed states: what an operation does to a typed state is what it does to what the state stands for; first part.
-/
import Derived.Test.YtdmggfegkaiaiaaGreatDoorTxB
namespace Go.Tx
open Go.Awp
set_option linter.unusedSectionVars false
variable [Inhabited GMem]

def OLe (o' o : Own) : Prop := ∀ (E : Env) (M : Mem) (w : World) (n : Nat), OwnOk E M w n o' → OwnOk E M w n o

theorem OLe.refl (o : Own) : OLe o o := fun _ _ _ _ h => h

/-- The first effect is the second one, or says more. -/
structure ELe (ex : Bool) (e' e : Eff) : Prop where
  val : H.le e'.val e.val
  new : e'.new = e.new
  none : ∀ n, gt e.upd n = none → gt e'.upd n = none
  some : ∀ n o, gt e.upd n = some (some o) → ∃ o', gt e'.upd n = some (some o') ∧ OLe o' o
  eq : ex = true → e'.val = e.val ∧ e'.upd = e.upd ∧ e'.acc = e.acc

theorem Sim.le {C : Ctx} {E : Env} {M : Mem} {S S' : AState} {a : Act} {w : World} (h : Sim C E M S a w)
    (ht : ∀ t x, gt S'.tmps t = some x → ∃ y, gt S.tmps t = some y ∧ H.le y x) (ho : ∀ n o, S'.own? n = some o → ∃ o', S.own? n = some o' ∧ OLe o' o) : Sim C E M S' a w :=
  { h with
    tmps := fun t x hx => by
      obtain ⟨y, hy, hle⟩ := ht t x hx
      obtain ⟨v, hv, hr⟩ := h.tmps t y hy
      exact ⟨v, hv, hle E M v hr⟩
    own := fun n o hn => by
      obtain ⟨o', ho', hle⟩ := ho n o hn
      exact hle E M w n (h.own n o' ho')
    apart := fun n m o o' b hne hn hm => by
      obtain ⟨o1, h1, _⟩ := ho n o hn
      obtain ⟨o2, h2, _⟩ := ho m o' hm
      exact h.apart n m o1 o2 b hne h1 h2
    home := fun n o b hn => by
      obtain ⟨o1, h1, _⟩ := ho n o hn
      exact h.home n o1 b h1 }

theorem H.le.junk (x : H) : H.le x .junk := fun _ _ v _ => .junk v

theorem OLe.box {o o' : Option TypeId} (ho : o = none ∨ o = o') {l l' : List H} (hl : l'.length = l.length) (h : ∀ (i : Nat) (x : H), l[i]? = some x → ∃ y, l'[i]? = some y ∧ H.le y x) : OLe (.box o' l') (.box o l) := by
  rintro E M w n ⟨b, cs, ty, h1, h2, h3, h4, h5, h6⟩
  refine ⟨b, cs, ty, h1, h2, by omega, fun i c x hc hx => ?_, h5, fun t ht => by
    rcases ho with ho | ho
    · rw [ho] at ht; cases ht
    · rw [ho] at ht; exact h6 t ht⟩
  obtain ⟨y, hy, hle⟩ := h i x hx
  exact hle E M c (h4 i c y hc hy)

section
variable {V : View}

def encE (ω : Nat → Nat) (e : TE V.N) : Eff := { val := encV V ω e.val, acc := e.acc, upd := e.upd.map fun p => (p.1, encO V ω p.2), new := e.new }

/-- Lengths of what stays do not turn. -/
def good (S : TS V.N) (e : TE V.N) : Prop := ∀ m o, gt e.upd m = some o → m ∈ e.new ∨ TO.len (some o) = S.len m

theorem app_own? (S : TS V.N) (dst : Option Tmp) (e : TE V.N) (n : Nat) : (S.app dst e).own? n = match gt e.upd n with
    | some o => some o
    | none => S.own? n := by
  unfold TS.app TS.own?
  simp only [gt_app]
  cases gt e.upd n <;> rfl

theorem app_len (S : TS V.N) (dst : Option Tmp) (e : TE V.N) (n : Nat) : (S.app dst e).len n = match gt e.upd n with
    | some o => TO.len (some o)
    | none => S.len n := by
  unfold TS.len
  rw [app_own?]
  cases gt e.upd n <;> rfl

theorem fresh_tmp {S : TS V.N} {n : Nat} (h : S.fresh n = true) {t : Nat} {x : TV V.N} (hx : gt S.tmps t = some x) : TV.has n x = false := by
  simp [TS.fresh] at h; exact h.1.2 _ _ (gt_mem hx)

theorem fresh_own {S : TS V.N} {n : Nat} (h : S.fresh n = true) {m : Nat} {o : TO V.N} (ho : S.own? m = some o) : TO.has n o = false := by
  simp [TS.fresh] at h; exact h.2 _ _ (gt_mem ho)

/-- What stood there stands for the same behind an operation. -/
theorem app_keep {S : TS V.N} {dst : Option Tmp} {te : TE V.N} (hg : good S te) (hn : ∀ d ∈ te.new, S.fresh d = true) :
    (∀ t v, gt S.tmps t = some v → encV V (S.app dst te).len v = encV V S.len v) ∧ (∀ n o, S.own? n = some o → encO V (S.app dst te).len o = encO V S.len o) := by
  have keep : ∀ n, n ∉ te.new → (S.app dst te).len n = S.len n := by
    intro n hnn
    rw [app_len]
    cases hu : gt te.upd n with
    | none => rfl
    | some o => exact (hg n o hu).resolve_left hnn
  refine ⟨fun t v hv => encV_congr v fun n hnv => keep n fun hd => ?_, fun n o ho => encO_congr o fun m hm => keep m fun hd => ?_⟩
  · rw [fresh_tmp (hn n hd) hv] at hnv; cases hnv
  · rw [fresh_own (hn m hd) ho] at hm; cases hm

/-- The state behind an operation. -/
theorem encS_app {S : TS V.N} {dst : Option Tmp} {te : TE V.N} (hg : good S te) (hn : ∀ d ∈ te.new, S.fresh d = true) :
    (∀ t, gt (encS V (S.app dst te)).tmps t = gt ((encS V S).app dst (encE (S.app dst te).len te)).tmps t) ∧
    (∀ n, (encS V (S.app dst te)).own? n = ((encS V S).app dst (encE (S.app dst te).len te)).own? n) := by
  obtain ⟨k1, k2⟩ := app_keep (dst := dst) hg hn
  refine ⟨fun t => ?_, fun n => ?_⟩
  · rw [encS_gt]
    have : gt (S.app dst te).tmps t = if dst = some t then some te.val else gt S.tmps t := by
      unfold TS.app putV
      cases dst with
      | none => simp
      | some d => simp only [gt_cons, Option.some.injEq]
    rw [this]
    simp only [AState.app, putT]
    cases dst with
    | none =>
      simp only [reduceCtorEq, if_false, encS_gt]
      cases hq : gt S.tmps t with
      | none => rfl
      | some v => simp only [Option.map_some]; rw [k1 t v hq]
    | some d =>
      simp only [gt_cons, Option.some.injEq, encS_gt]
      by_cases hd : d = t
      · rw [if_pos hd, if_pos hd]; rfl
      · rw [if_neg hd, if_neg hd]
        cases hq : gt S.tmps t with
        | none => rfl
        | some v => simp only [Option.map_some]; rw [k1 t v hq]
  · rw [encS_own?, app_own?]
    simp only [AState.own?, AState.app, gt_app]
    have hu : gt (encE (S.app dst te).len te).upd n = (gt te.upd n).map (encO V (S.app dst te).len) := by simp only [encE, gt_map]
    rw [hu]
    cases hq : gt te.upd n with
    | some o => rfl
    | none =>
      simp only [Option.map_none]
      have := encS_own? S n
      unfold AState.own? at this
      rw [this]
      cases ho : S.own? n with
      | none => rfl
      | some o => simp only [Option.bind_some]; rw [k2 n o ho]

/-- Behind an operation: the typed state stands for what is there. -/
theorem Sim.tapp {C : Ctx} {E : Env} {M : Mem} {S : TS V.N} {dst : Option Tmp} {te : TE V.N} {e' : Eff} {a : Act} {w : World} {ex : Bool} (hg : good S te) (hn : ∀ d ∈ te.new, S.fresh d = true)
    (hle : ELe ex e' (encE (S.app dst te).len te)) (hs : Sim C E M ((encS V S).app dst e') a w) : Sim C E M (encS V (S.app dst te)) a w := by
  obtain ⟨h1, h2⟩ := encS_app (dst := dst) hg hn
  refine Sim.le hs (fun t x hx => ?_) (fun n o ho => ?_)
  · rw [h1] at hx
    simp only [AState.app, putT] at hx ⊢
    cases dst with
    | none => exact ⟨x, hx, H.le.refl _⟩
    | some d =>
      simp only [gt_cons] at hx ⊢
      by_cases hd : d = t
      · rw [if_pos hd] at hx ⊢; simp at hx; subst hx; exact ⟨_, rfl, hle.val⟩
      · rw [if_neg hd] at hx ⊢; exact ⟨x, hx, H.le.refl _⟩
  · rw [h2] at ho
    simp only [AState.own?, AState.app, gt_app] at ho ⊢
    cases hu : gt (encE (S.app dst te).len te).upd n with
    | none =>
      rw [hu] at ho
      rw [hle.none n hu]
      exact ⟨o, ho, OLe.refl _⟩
    | some oo =>
      rw [hu] at ho
      simp at ho
      subst ho
      obtain ⟨o', k1, k2⟩ := hle.some n o hu
      exact ⟨o', by rw [k1]; rfl, k2⟩

theorem ev_enc (S : TS V.N) (x : Operand) : ev (encS V S) x = encV V S.len (tev S x) := by
  cases x with
  | tmp t => exact encS_get S t
  | const v => cases v <;> simp [ev, tev, tvc, encV, encD, encRaw]
  | global g => simp [ev, tev, encV, encRaw]
  | func f => simp [ev, tev, encV, encL]

theorem encV_st (ω : Nat → Nat) (i : V.ι) (x : V.N i) : encV V ω (.lf (.st i) x) = .d (.agg (V.enc i x)) := by simp only [encV, encD]

theorem encR_cells (t : Ty V.ι) (x : den V.N t) : encR V.sz V.enc t x = (rcells V t x).map fun l => encD V.sz V.enc l.t l.x := by
  cases t with
  | st i => simp only [encR, rcells]; exact V.enc_cells i x
  | _ => simp [encR, rcells, encD]

theorem rcells_len (t : Ty V.ι) (x : den V.N t) : (rcells V t x).length = tsz V.sz t := by
  cases t with
  | st i => exact V.len_cells i x
  | _ => rfl

theorem encR_len (t : Ty V.ι) (x : den V.N t) : (encR V.sz V.enc t x).length = tsz V.sz t := by
  rw [encR_cells, List.length_map, rcells_len]

theorem rcells_cell (t : Ty V.ι) (x : den V.N t) : ∀ l ∈ rcells V t x, l.t.cell = true := by
  cases t with
  | st i => exact V.one_cells i x
  | _ => simp [rcells, Ty.cell]

theorem encD_cell {l : Leaf V.N} (h : l.t.cell = true) : (H.d (encD V.sz V.enc l.t l.x)).one = true := by
  obtain ⟨t, x⟩ := l
  cases t <;> first | (simp [Ty.cell] at h; done) | rfl

theorem cells_sound {ω : Nat → Nat} {v : TV V.N} {cs : List (TV V.N)} (h : TV.cells V v = some cs) : (encV V ω v).cells = some (encL V ω cs) := by
  cases v with
  | lf t x =>
    simp only [TV.cells, Option.some.injEq] at h
    subst h
    have e : encL V ω ((rcells V t x).map fun l => TV.lf l.t l.x) = (encR V.sz V.enc t x).map H.d := by
      rw [encR_cells, encL_map, List.map_map, List.map_map]
      exact List.map_congr_left fun l _ => by simp [encV]
    rw [e]
    cases t <;> simp [encV, encD, encR, H.cells, isCell]
  | raw v =>
    simp only [TV.cells] at h
    split at h
    · rename_i hc
      simp at h; subst h
      cases v <;> first | (simp [isCell] at hc; done) | simp [encV, encL, encRaw, H.cells, isCell]
    · cases h
  | agg cs' =>
    simp only [TV.cells, Option.some.injEq] at h
    subst h
    simp only [encV, mkAgg]
    split
    · rename_i ds hds
      simp only [H.cells]
      congr 1
      obtain ⟨h1, h2⟩ := allD_get hds
      apply List.ext_getElem?
      intro i
      rw [h2, List.getElem?_map]
    · rfl
  | tup vs => simp [TV.cells] at h
  | junk => simp [TV.cells] at h
  | rp t x off => simp [TV.cells] at h; subst h; simp [encV, encL, H.cells]
  | bp n off => simp [TV.cells] at h; subst h; simp [encV, encL, H.cells]
  | vh n => simp [TV.cells] at h; subst h; simp [encV, encL, H.cells]
  | ep n s i off => simp [TV.cells] at h; subst h; simp [encV, encL, H.cells]
  | mp n => simp [TV.cells] at h; subst h; simp [encV, encL, H.cells]
  | np n b => simp [TV.cells] at h; subst h; simp [encV, encL, H.cells]
  | sd n => simp [TV.cells] at h; subst h; simp [encV, encL, H.cells]
  | fn f a b => simp [TV.cells] at h; subst h; simp [encV, encL, H.cells]

theorem one_sound {ω : Nat → Nat} {v : TV V.N} (h : v.one = true) : (encV V ω v).one = true := by
  cases v with
  | lf t x => simp only [TV.one] at h; simp only [encV]; exact encD_cell (l := ⟨t, x⟩) h
  | raw v =>
    simp only [TV.one, Bool.and_eq_true] at h
    cases v <;> first | (simp [isCell] at h; done) | (simp only [encV, encRaw, H.one, D.one]; exact h.2)
  | agg cs => simp [TV.one] at h
  | tup cs => simp [TV.one] at h
  | junk => simp [TV.one] at h
  | _ => simp [encV, H.one, D.one]

theorem all_one_sound {ω : Nat → Nat} {l : List (TV V.N)} (h : l.all TV.one = true) : (encL V ω l).all H.one = true := by
  rw [encL_map, List.all_map]
  rw [List.all_eq_true] at h ⊢
  exact fun x hx => one_sound (h x hx)

theorem leavesOf_sound {ω : Nat → Nat} {ex : Bool} : ∀ {ts : List (Ty V.ι)} {cs : List (TV V.N)} {ls : List (Leaf V.N)}, leavesOf V ex ts cs = some ls →
    ∃ ds, encL V ω cs = ds.map H.d ∧ D.Les ds (ls.map fun l => encD V.sz V.enc l.t l.x) ∧ (ex = true → ds = ls.map fun l => encD V.sz V.enc l.t l.x)
  | [], [], ls, h => by simp [leavesOf] at h; subst h; exact ⟨[], rfl, .nil, fun _ => rfl⟩
  | [], _ :: _, ls, h => by simp [leavesOf] at h
  | _ :: _, [], ls, h => by simp [leavesOf] at h
  | t :: ts, x :: xs, ls, h => by
    simp only [leavesOf] at h
    split at h
    · rename_i l ls' h1 h2
      simp at h; subst h
      obtain ⟨ds, e1, e2, e3⟩ := leavesOf_sound (ω := ω) h2
      cases x with
      | lf t' y =>
        simp [leafOf] at h1; subst h1
        exact ⟨encD V.sz V.enc t' y :: ds, by simp [encL, encV, e1], .cons (D.le.refl _) e2, fun hx => by simp [e3 hx]⟩
      | raw v =>
        simp only [leafOf] at h1
        split at h1
        · cases h1
        · rename_i hex
          split at h1
          · simp at h1; subst h1
            exact ⟨.v (.slice none 0 0) :: ds, by simp [encL, encV, encRaw, e1], .cons (D.le.nil _) e2, fun hx => by simp at hx⟩
          · simp at h1; subst h1
            exact ⟨.v .nilIface :: ds, by simp [encL, encV, encRaw, e1], .cons D.le.ern e2, fun hx => by simp at hx⟩
          · cases h1
      | _ => simp [leafOf] at h1
    · cases h

theorem allD_map (ds : List D) : allD (ds.map H.d) = some ds := by
  induction ds with
  | nil => rfl
  | cons x r ih => simp [allD, ih]

theorem mkV_sound {ω : Nat → Nat} {ex : Bool} {ot : Option (Ty V.ι)} {cs : List (TV V.N)} : H.le (mkAgg (encL V ω cs)) (encV V ω (mkV V ex ot cs)) ∧ (ex = true → mkAgg (encL V ω cs) = encV V ω (mkV V ex ot cs)) := by
  unfold mkV
  have dflt : H.le (mkAgg (encL V ω cs)) (encV V ω (.agg cs)) ∧ (ex = true → mkAgg (encL V ω cs) = encV V ω (.agg cs)) := by
    rw [encV]; exact ⟨H.le.refl _, fun _ => rfl⟩
  split
  · rename_i i
    split
    · rename_i ls hls
      split
      · rename_i x hx
        obtain ⟨ds, e1, e2, e3⟩ := leavesOf_sound (ω := ω) hls
        have hc := V.of_cells i ls x hx
        have he : encV V ω (.lf (.st i) x) = .d (.agg (ls.map fun l => encD V.sz V.enc l.t l.x)) := by
          rw [encV_st, V.enc_cells, hc]
        rw [e1, mkAgg, allD_map, he]
        exact ⟨H.le.d (D.le.agg e2), fun h => by rw [e3 h]⟩
      · exact dflt
    · exact dflt
  · exact dflt

theorem loadV_sound {ω : Nat → Nat} {ex ag : Bool} {sz : Nat} {ot : Option (Ty V.ι)} {cells : List (TV V.N)} {v : TV V.N} (h : loadV V ex ag sz ot cells = some v) :
    ∃ x, loadC ag sz (encL V ω cells) = some x ∧ H.le x (encV V ω v) ∧ (ex = true → x = encV V ω v) := by
  cases ag with
  | true =>
    simp only [loadV] at h
    split at h
    · rename_i hle
      simp at h; subst h
      refine ⟨mkAgg (encL V ω (cells.take sz)), ?_, mkV_sound⟩
      simp only [loadC, encL_map, List.length_map]
      rw [if_pos hle, List.map_take]
    · cases h
  | false =>
    simp only [loadV] at h
    cases cells with
    | nil => simp at h
    | cons c r => simp at h; subst h; exact ⟨encV V ω c, by simp [loadC, encL], H.le.refl _, fun _ => rfl⟩

theorem loadL_sound {ω : Nat → Nat} {ag : Bool} {sz : Nat} {ot : Option (Ty V.ι)} {t : Ty V.ι} {x : den V.N t} {off : Nat} {v : TV V.N} (h : loadL V ag sz ot t x off = some v) :
    ∃ d, loadD ag sz ((encR V.sz V.enc t x).drop off) = some d ∧ encV V ω v = .d d := by
  cases ag with
  | true =>
    simp only [loadL] at h
    split at h
    · rename_i hc
      obtain ⟨h1, h2, h3, h4⟩ := hc
      simp at h; subst h
      subst h1; subst h4
      have hl := encR_len t x
      refine ⟨.agg (encR V.sz V.enc t x), ?_, ?_⟩
      · simp only [loadD, List.drop_zero]
        rw [if_pos (by omega), List.take_of_length_le (by omega)]
      · cases t <;> first | (simp [Ty.cell] at h3; done) | simp [encV, encD, encR]
    · split at h
      · split at h
        · rename_i hle
          split at h
          · rename_i y hy
            simp at h; subst h
            have hc := V.of_cells _ _ _ hy
            refine ⟨.agg (((encR V.sz V.enc t x).drop off).take sz), ?_, ?_⟩
            · simp only [loadD]
              rw [if_pos (by rw [List.length_drop, encR_len]; rw [rcells_len] at hle; omega)]
            · rw [encV_st, V.enc_cells, hc, encR_cells, List.map_take, List.map_drop]
          · cases h
        · cases h
      · cases h
  | false =>
    simp only [loadL] at h
    split at h
    · rename_i l hl
      simp at h; subst h
      refine ⟨encD V.sz V.enc l.t l.x, ?_, by simp [encV]⟩
      simp only [loadD, encR_cells]
      rw [← List.map_drop, List.head?_map, hl]; rfl
    · cases h

theorem encL_take (ω : Nat → Nat) (n : Nat) (l : List (TV V.N)) : encL V ω (l.take n) = (encL V ω l).take n := by simp [encL_map, List.map_take]
theorem encL_drop (ω : Nat → Nat) (n : Nat) (l : List (TV V.N)) : encL V ω (l.drop n) = (encL V ω l).drop n := by simp [encL_map, List.map_drop]
theorem encL_app (ω : Nat → Nat) (l m : List (TV V.N)) : encL V ω (l ++ m) = encL V ω l ++ encL V ω m := by simp [encL_map]
theorem encL_len (ω : Nat → Nat) (l : List (TV V.N)) : (encL V ω l).length = l.length := by simp [encL_map]

theorem fillV_sound {ω : Nat → Nat} {pl : List (Nat × Nat)} : ∀ {parts : List (Nat × TV V.N)} {cells cs : List (TV V.N)}, fillV V pl cells parts = some cs →
    fillH pl (encL V ω cells) (parts.map fun p => (p.1, encV V ω p.2)) = some (encL V ω cs)
  | [], cells, cs, h => by simp [fillV] at h; subst h; rfl
  | (i, x) :: r, cells, cs, h => by
    simp only [fillV] at h
    split at h
    · rename_i off sz cc h1 h2
      split at h
      · rename_i hc
        have ih := fillV_sound (ω := ω) h
        simp only [List.map_cons, fillH, h1, cells_sound (ω := ω) h2, encL_len]
        rw [if_pos hc]
        simp only [spliceH, encL_len]
        rw [encL_app, encL_app, encL_take, encL_drop] at ih
        exact ih
      · cases h
    · cases h

theorem ofRow_sound {ω : Nat → Nat} {ex : Bool} {e : Ty V.ι} {cs : List (TV V.N)} {y : den V.N e} (h : ofRow V ex e cs = some y) :
    ∃ ds, encL V ω cs = ds.map H.d ∧ D.Les ds (encR V.sz V.enc e y) ∧ (ex = true → ds = encR V.sz V.enc e y) := by
  have single : ∀ (t : Ty V.ι) (y : den V.N t) (cs : List (TV V.N)), (∃ x l, cs = [x] ∧ leafOf V ex t x = some l ∧ ∃ ht : l.t = t, ht ▸ l.x = y) → rcells V t y = [⟨t, y⟩] → ∃ ds, encL V ω cs = ds.map H.d ∧ D.Les ds (encR V.sz V.enc t y) ∧ (ex = true → ds = encR V.sz V.enc t y) := by
    rintro t y cs ⟨x, ⟨lt, lx⟩, rfl, hl, ht, rfl⟩ hrc
    simp only at ht
    subst ht
    rw [encR_cells, hrc]
    have hls : leavesOf V ex [lt] [x] = some [⟨lt, lx⟩] := by simp [leavesOf, hl]
    exact leavesOf_sound (ω := ω) hls
  cases e with
  | st i =>
    simp only [ofRow] at h
    split at h
    · rename_i ls hls
      obtain ⟨ds, e1, e2, e3⟩ := leavesOf_sound (ω := ω) hls
      have hc := V.of_cells i ls y h
      refine ⟨ds, e1, ?_, ?_⟩ <;> simp only [encR] <;> rw [V.enc_cells, hc]
      · exact e2
      · exact e3
    · cases h
  | int k =>
    refine single (.int k) y cs ?_ rfl
    match cs, h with
    | [], h => simp [ofRow] at h
    | _ :: _ :: _, h => simp [ofRow] at h
    | [x], h =>
      simp only [ofRow] at h
      split at h
      · rename_i l hl
        split at h
        · rename_i ht; simp only [Option.some.injEq] at h; exact ⟨x, l, rfl, hl, ht, h⟩
        · cases h
      · cases h
  | bool =>
    refine single .bool y cs ?_ rfl
    match cs, h with
    | [], h => simp [ofRow] at h
    | _ :: _ :: _, h => simp [ofRow] at h
    | [x], h =>
      simp only [ofRow] at h
      split at h
      · rename_i l hl
        split at h
        · rename_i ht; simp only [Option.some.injEq] at h; exact ⟨x, l, rfl, hl, ht, h⟩
        · cases h
      · cases h
  | er =>
    refine single .er y cs ?_ rfl
    match cs, h with
    | [], h => simp [ofRow] at h
    | _ :: _ :: _, h => simp [ofRow] at h
    | [x], h =>
      simp only [ofRow] at h
      split at h
      · rename_i l hl
        split at h
        · rename_i ht; simp only [Option.some.injEq] at h; exact ⟨x, l, rfl, hl, ht, h⟩
        · cases h
      · cases h
  | str =>
    refine single .str y cs ?_ rfl
    match cs, h with
    | [], h => simp [ofRow] at h
    | _ :: _ :: _, h => simp [ofRow] at h
    | [x], h =>
      simp only [ofRow] at h
      split at h
      · rename_i l hl
        split at h
        · rename_i ht; simp only [Option.some.injEq] at h; exact ⟨x, l, rfl, hl, ht, h⟩
        · cases h
      · cases h
  | sl e =>
    refine single (.sl e) y cs ?_ rfl
    match cs, h with
    | [], h => simp [ofRow] at h
    | _ :: _ :: _, h => simp [ofRow] at h
    | [x], h =>
      simp only [ofRow] at h
      split at h
      · rename_i l hl
        split at h
        · rename_i ht; simp only [Option.some.injEq] at h; exact ⟨x, l, rfl, hl, ht, h⟩
        · cases h
      · cases h
  | mp tk tv =>
    refine single (.mp tk tv) y cs ?_ rfl
    match cs, h with
    | [], h => simp [ofRow] at h
    | _ :: _ :: _, h => simp [ofRow] at h
    | [x], h =>
      simp only [ofRow] at h
      split at h
      · rename_i l hl
        split at h
        · rename_i ht; simp only [Option.some.injEq] at h; exact ⟨x, l, rfl, hl, ht, h⟩
        · cases h
      · cases h

end
end Go.Tx
