/-
  The logic of abstract states: evaluation of code, contracts where they are used, steps between states.
-/
import Derived.Test.YtdmggfegkaiaiaaGreatDoorAwpP
namespace Go.Awp
set_option linter.unusedSectionVars false
variable [Inhabited GMem]

/-- The weakest precondition, computed as far as it can be. -/
def awp (P : Program) (N : Nat) (C : Ctx) (nm : Nat → Nat) : Code → AState → (Exit → AState → Prop) → Prop
  | .skip, S, Q => Q .normal S
  | .ret, S, Q => Q .ret S
  | .exit id, S, Q => Q (.exit id) S
  | .label _, S, Q => Q .normal S
  | .goto l, S, Q => Q (.goto l) S
  | .seq x y, S, Q => awp P N C nm x S (eThen (fun S' => awp P N C nm y S' Q) Q)
  | .block id x, S, Q => awp P N C nm x S (eBlock id Q)
  | .cond c x y, S, Q => match ev S c with
    | .d (.v (.bool b)) => aIf b (awp P N C nm x S Q) (awp P N C nm y S Q)
    | _ => False
  | .region _ ops draw, S, Q => match draw with
    | false => aops P N nm ops.toList ops.toList S (fun S' => Q .normal S')
    | true => aopsT P N nm ops.toList ops.toList S [] (fun S' tr => drawOk ops.toList tr = true ∧ Q .normal S')
  | c, S, Q => AWp C c S Q

theorem awp_sound {P : Program} {N : Nat} {C : Ctx} {nm : Nat → Nat} (hP : C.P = P) (hN : C.N = N) (hm : P.follows .mixedOrders = true) : ∀ {c : Code} {S : AState} {Q : Exit → AState → Prop}, awp P N C nm c S Q → AWp C c S Q := by
  intro c
  induction c with
  | skip => intro S Q h; exact .skip h
  | ret => intro S Q h; exact .ret h
  | exit id => intro S Q h; exact .exit h
  | label l => intro S Q h; exact .label h
  | goto l => intro S Q h; exact .goto h
  | seq x y ihx ihy =>
    intro S Q h
    simp only [awp] at h
    refine .seq ((ihx h).mono fun e S' hq => ?_)
    cases e with
    | normal => exact ihy hq
    | _ => exact hq
  | block id x ih => intro S Q h; simp only [awp] at h; exact .block (ih h)
  | cond c x y ihx ihy =>
    intro S Q h
    simp only [awp] at h
    split at h
    · rename_i b hb
      exact .cond hb (fun e => ihx (h.1 e)) (fun e => ihy (h.2 e))
    · exact h.elim
  | region id ops draw =>
    intro S Q h
    cases draw with
    | true =>
      simp only [awp] at h
      refine .draw nm (by rw [hP]; exact hm) ?_
      rw [hP, hN]; exact h
    | false =>
      simp only [awp] at h
      refine .region nm ?_
      rw [hP, hN]; exact h
  | _ => intro S Q h; simpa only [awp] using h

section
variable {P : Program} {N : Nat} {C : Ctx} {nm : Nat → Nat} {S : AState} {Q : Exit → AState → Prop}
theorem awp_skip : awp P N C nm .skip S Q = Q .normal S := rfl
theorem awp_ret : awp P N C nm .ret S Q = Q .ret S := rfl
theorem awp_exit {id : Nat} : awp P N C nm (.exit id) S Q = Q (.exit id) S := rfl
theorem awp_seq {x y : Code} : awp P N C nm (.seq x y) S Q = awp P N C nm x S (eThen (fun S' => awp P N C nm y S' Q) Q) := rfl
theorem awp_block {id : Nat} {x : Code} : awp P N C nm (.block id x) S Q = awp P N C nm x S (eBlock id Q) := rfl
theorem awp_cond {c : Operand} {x y : Code} : awp P N C nm (.cond c x y) S Q = match ev S c with
    | .d (.v (.bool b)) => aIf b (awp P N C nm x S Q) (awp P N C nm y S Q)
    | _ => False := rfl
theorem awp_region {id : Nat} {ops : Array Oper} : awp P N C nm (.region id ops false) S Q = aops P N nm ops.toList ops.toList S (fun S' => Q .normal S') := rfl
theorem awp_draw {id : Nat} {ops : Array Oper} : awp P N C nm (.region id ops true) S Q = aopsT P N nm ops.toList ops.toList S [] (fun S' tr => drawOk ops.toList tr = true ∧ Q .normal S') := rfl
theorem awp_loop {c : Code} : awp P N C nm (.loop c) S Q = AWp C (.loop c) S Q := rfl
theorem eThen_normal {n : AState → Prop} : eThen n Q .normal S = n S := rfl
theorem eThen_ret {n : AState → Prop} : eThen n Q .ret S = Q .ret S := rfl
theorem eThen_exit {n : AState → Prop} {id : Nat} : eThen n Q (.exit id) S = Q (.exit id) S := rfl
theorem eBlock_exit {id id' : Nat} : eBlock id Q (.exit id') S = if id' = id then Q .normal S else Q (.exit id') S := rfl
theorem eBlock_normal {id : Nat} : eBlock id Q .normal S = Q .normal S := rfl
theorem eBlock_ret {id : Nat} : eBlock id Q .ret S = Q .ret S := rfl
end

/-- A function's contract: its own code, and what is asked of its end. -/
theorem fn_of_awp' {P : Program} {f : FuncId} {fn : Func} {c : Code} {N : Nat} {rs : List ResultVar} {args : List H} {own own' : List (Nat × Own)} {r : H} (nm : Nat → Nat) (hm : P.follows .mixedOrders = true) (hf : P.funcs[f]? = some fn)
    (hb : fn.body = some c) (hN : fn.ntmps = N) (hrs : fn.results.toList = rs) (hname : (fn.name != "runtime.NumGoroutine") = true) (hn : Nat.ble args.length N = true)
    (h : ∀ C : Ctx, C.P = P → C.N = N → awp P N C nm c ⟨startT 0 args, startO own⟩ (FnEnd P rs r own')) : FnOk P f args own r own' := by
  subst hN; subst hrs
  exact fn_of_awp hf hb hname (Nat.le_of_ble_eq_true hn) fun C hP hN => awp_sound hP hN hm (h C hP hN)

theorem fnEnd_of {P : Program} {rs : List ResultVar} {r : H} {own' : List (Nat × Own)} {e : Exit} {S : AState} (he : e = .normal ∨ e = .ret) (h : resH P S rs = some r) (ho : ∀ n o, gt own' n = some o → S.own? n = some o) :
    FnEnd P rs r own' e S := ⟨he, S, Ent.refl S, h, ho⟩

theorem fnEnd_ent {P : Program} {rs : List ResultVar} {r : H} {own' : List (Nat × Own)} {e : Exit} {S S' : AState} (hs : Ent S S') (h : FnEnd P rs r own' e S') : FnEnd P rs r own' e S :=
  let ⟨he, S'', h1, h2, h3⟩ := h
  ⟨he, S'', Ent.trans hs h1, h2, h3⟩

/-- Nothing is owned, no handle comes back. -/
theorem fnEnd_pure {P : Program} {rs : List ResultVar} {r : H} {e : Exit} {S : AState} (he : e = .normal ∨ e = .ret) (h : resH P S rs = some r) : FnEnd P rs r [] e S :=
  fnEnd_of he h fun n o h => by simp [gt] at h

/-- A contract that owns nothing, where it is used. -/
theorem FnOk.at {P : Program} {f : FuncId} {args : List H} {r : H} (h : FnOk P f args [] r []) (hr : H.plain r = true) : FnAt P f args [] r [] := by
  refine ⟨h.1, fun E M w vs hgm hm ho hv => (h.2 E M w vs hgm hm ho hv).mono ?_⟩
  rintro e w' ⟨v, E', M', rfl, hp⟩
  refine ⟨v, E, M', rfl, { hp with rep := hp.rep.mono (Mem.le_refl _) (fun n hn => by rw [H.plain_has hr] at hn; cases hn), owns := ⟨fun n o h => by simp [gt] at h, fun n m o o' b _ h => by simp [gt] at h⟩, home := fun n o b h => by simp [gt] at h, env := fun _ _ => rfl }, fun _ _ => rfl⟩

/-- A call of a function that owns nothing: the rule in use. -/
theorem acall_pure {P : Program} {f : FuncId} {args : List H} {ω : Nat → Option Own} {k : Eff → Prop} {r : H} (h : FnOk P f args [] r []) (hr : H.plain r = true) (hk : k { val := r }) : ACall P f args ω k :=
  ⟨[], r, [], h.at hr, by simp, hk⟩

/-- What is not looked up any more may go. -/
theorem Ent.drop {S S' : AState} (ht : ∀ p ∈ S'.tmps, gt S.tmps p.1 = some p.2) (ho : ∀ p ∈ S'.own, p.2 = none ∨ S.own? p.1 = p.2) : Ent S S' := fun C E M a w hs => by
  refine ⟨E, M, hs.weaken (fun t x hx => .inl (ht (t, x) (gt_mem hx))) fun n o hn => ?_⟩
  unfold AState.own? at hn
  cases hg : gt S'.own n with
  | none => rw [hg] at hn; cases hn
  | some oo =>
    rw [hg] at hn
    simp at hn; subst hn
    rcases ho (n, some o) (gt_mem hg) with h | h
    · cases h
    · exact h

/-- A nil slice may be taken for one that is owned. -/
theorem Ent.nilvec {S : AState} {t n e sz : Nat} (ht : gt S.tmps t = some (.d (.v (.slice none 0 0)))) (hf : S.fresh n = true) (hg : n < given) :
    Ent S { tmps := (t, .vh n 0) :: S.tmps, own := (n, some (.vec e sz [])) :: S.own } := fun C E M a w hs => by
  have h1 := hs.own_new (E' := fun m => if m = n then .slice none 0 0 else E m) (d := n) (o' := .vec e sz []) (w' := w) ⟨rfl, rfl, rfl, Nat.le_refl _, fun _ _ _ => rfl⟩ (fun m hm => by simp [hm]) hf hg
    (fun b hb => by simp [blockOf] at hb) ⟨[], by simpa using World.ownsRow_nil w 0 e sz, by simp, by simp, fun b hb => by simp [blockOf] at hb⟩
  refine ⟨_, M, { h1 with tmps := fun t' x hx => ?_ }⟩
  rw [gt_cons] at hx
  by_cases htt : t = t'
  · subst htt
    simp at hx; subst hx
    obtain ⟨v, hv, hr⟩ := hs.tmps t _ ht
    refine ⟨v, hv, ?_⟩
    rw [hr.dv]
    exact .vh n 0 0 0 none (by simp) (Nat.le_refl _)
  · rw [if_neg htt] at hx
    exact h1.tmps t' x hx

/-- A nil slice in a box, owned. -/
theorem Ent.nilcell {S : AState} {b n e sz i : Nat} {oty : Option TypeId} {cells : List H} (ho : S.own? b = some (.box oty cells)) (hi : cells[i]? = some (.d (.v (.slice none 0 0)))) (hf : S.fresh n = true) (hg : n < given) :
    Ent S { tmps := S.tmps, own := (b, some (.box oty (cells.set i (.vh n 0)))) :: (n, some (.vec e sz [])) :: S.own } := fun C E M a w hs => by
  have h1 := hs.own_new (E' := fun m => if m = n then .slice none 0 0 else E m) (d := n) (o' := .vec e sz []) (w' := w) ⟨rfl, rfl, rfl, Nat.le_refl _, fun _ _ _ => rfl⟩ (fun m hm => by simp [hm]) hf hg
    (fun b hb => by simp [blockOf] at hb) ⟨[], by simpa using World.ownsRow_nil w 0 e sz, by simp, by simp, fun b hb => by simp [blockOf] at hb⟩
  have hbn : b ≠ n := by
    rintro rfl
    unfold AState.fresh at hf
    simp [ho] at hf
  have hown : ∀ m o, AState.own? { tmps := S.tmps, own := (b, some (.box oty (cells.set i (.vh n 0)))) :: (n, some (.vec e sz [])) :: S.own } m = some o →
      (m = b ∧ o = .box oty (cells.set i (.vh n 0))) ∨ (m ≠ b ∧ AState.own? { tmps := S.tmps, own := (n, some (.vec e sz [])) :: S.own } m = some o) := by
    intro m o hm
    unfold AState.own? at hm ⊢
    rw [gt_cons] at hm
    by_cases hmb : b = m
    · rw [if_pos hmb] at hm
      left; exact ⟨hmb.symm, by simpa using hm.symm⟩
    · rw [if_neg hmb] at hm
      right; exact ⟨fun e => hmb e.symm, hm⟩
  have hb1 : AState.own? { tmps := S.tmps, own := (n, some (.vec e sz [])) :: S.own } b = some (.box oty cells) := by
    unfold AState.own? at ho ⊢
    rw [gt_cons, if_neg (fun e => hbn e.symm)]; exact ho
  have hany : ∀ m o, AState.own? { tmps := S.tmps, own := (b, some (.box oty (cells.set i (.vh n 0)))) :: (n, some (.vec e sz [])) :: S.own } m = some o → ∃ o', AState.own? { tmps := S.tmps, own := (n, some (.vec e sz [])) :: S.own } m = some o' := by
    intro m o hm
    rcases hown m o hm with ⟨rfl, _⟩ | ⟨_, h⟩
    · exact ⟨_, hb1⟩
    · exact ⟨_, h⟩
  refine ⟨_, M, { h1 with own := fun m o hm => ?_, apart := fun m m' o o' bb hne hm hm' hbb => ?_, home := fun m o bb hm hbb => ?_ }⟩
  · rcases hown m o hm with ⟨rfl, rfl⟩ | ⟨_, h⟩
    · obtain ⟨blk, cs, ty, k1, k2, k3, k4, k5⟩ := h1.own m _ hb1
      refine ⟨blk, cs, ty, k1, k2, by rw [List.length_set]; exact k3, fun j c x hc hx => ?_, k5⟩
      by_cases hij : i = j
      · subst hij
        have hlt : i < cells.length := (List.getElem?_eq_some_iff.1 hi).1
        rw [List.getElem?_set_self hlt] at hx
        simp at hx; subst hx
        have := k4 i c _ hc hi
        rw [this.dv]
        exact .vh n 0 0 0 none (by simp) (Nat.le_refl _)
      · rw [List.getElem?_set_ne hij] at hx
        exact k4 j c x hc hx
    · exact h1.own m o h
  · obtain ⟨q, hq⟩ := hany m o hm
    obtain ⟨q', hq'⟩ := hany m' o' hm'
    exact h1.apart m m' q q' bb hne hq hq' hbb
  · obtain ⟨q, hq⟩ := hany m o hm
    exact h1.home m q bb hq hbb

/-- A nil slice is data. -/
theorem Ent.nilsl {S : AState} {t sz : Nat} (ht : gt S.tmps t = some (.d (.v (.slice none 0 0)))) : Ent S { S with tmps := (t, .d (.sl sz [])) :: S.tmps } := fun C E M a w hs => by
  refine ⟨E, M, { hs with tmps := fun t' x hx => ?_ }⟩
  rw [gt_cons] at hx
  by_cases htt : t = t'
  · subst htt
    simp at hx; subst hx
    obtain ⟨v, hv, hr⟩ := hs.tmps t _ ht
    refine ⟨v, hv, ?_⟩
    rw [hr.dv]
    exact .d (.slnil sz)
  · rw [if_neg htt] at hx
    exact hs.tmps t' x hx

mutual
/-- A slice that was owned, as data. -/
def H.frz (n sz : Nat) (rows : List (List D)) : H → H
  | .vh m len => if m = n ∧ len = rows.length then .d (.sl sz rows) else .vh m len
  | .agg cs => mkAgg (H.frzL n sz rows cs)
  | .tup vs => .tup (H.frzL n sz rows vs)
  | x => x
def H.frzL (n sz : Nat) (rows : List (List D)) : List H → List H
  | [] => []
  | x :: r => H.frz n sz rows x :: H.frzL n sz rows r
end

theorem H.frzL_len (n sz : Nat) (rows : List (List D)) : ∀ l : List H, (H.frzL n sz rows l).length = l.length
  | [] => rfl
  | x :: r => by simp [H.frzL, H.frzL_len n sz rows r]

theorem H.frzL_get (n sz : Nat) (rows : List (List D)) : ∀ (l : List H) (i : Nat), (H.frzL n sz rows l)[i]? = (l[i]?).map (H.frz n sz rows)
  | [], i => by simp [H.frzL]
  | x :: r, 0 => by simp [H.frzL]
  | x :: r, i + 1 => by simpa [H.frzL] using H.frzL_get n sz rows r i

def Own.frz (n sz : Nat) (rows : List (List D)) : Own → Own
  | .box o cells => .box o (H.frzL n sz rows cells)
  | o => o

def AState.frz (S : AState) (n sz : Nat) (rows : List (List D)) : AState :=
  { tmps := S.tmps.map fun p => (p.1, H.frz n sz rows p.2), own := (n, none) :: S.own.map fun p => (p.1, p.2.map (Own.frz n sz rows)) }

theorem gt_map {α β : Type} (f : α → β) : ∀ (l : List (Nat × α)) (n : Nat), gt (l.map fun p => (p.1, f p.2)) n = (gt l n).map f
  | [], n => rfl
  | (k, x) :: r, n => by
    simp only [List.map_cons, gt_cons]
    by_cases h : k = n
    · simp [h]
    · rw [if_neg h, if_neg h]; exact gt_map f r n

/-- What a slice stands for that is owned no more. -/
theorem HRep.frz {E : Env} {M M' : Mem} (hM : M.le M') {n sz : Nat} {rows : List (List D)} (hn : ∀ v, HRep E M v (.vh n rows.length) → DRep M' v (.sl sz rows)) {v : Value} {x : H} (h : HRep E M v x) : HRep E M' v (H.frz n sz rows x) := by
  induction h with
  | d h => exact .d (h.mono hM)
  | junk v => exact .junk v
  | bp n off b h => exact .bp n off b h
  | vh m len l c a h hl =>
    simp only [H.frz]
    split
    · rename_i hc
      obtain ⟨rfl, rfl⟩ := hc
      exact .d (hn _ (.vh m _ l c a h hl))
    · exact .vh m len l c a h hl
  | ep n sz i off b l c h hi => exact .ep n sz i off b l c h hi
  | mp n r h => exact .mp n r h
  | np0 n => exact .np0 n
  | np1 n b h => exact .np1 n b h
  | sd n p h => exact .sd n p h
  | agg cs l hl h ih =>
    refine HRep.mk_agg (by rw [H.frzL_len]; exact hl) fun i c y hc hy => ?_
    rw [H.frzL_get] at hy
    cases hz : l[i]? with
    | none => rw [hz] at hy; cases hy
    | some z => rw [hz] at hy; simp at hy; subst hy; exact ih i c z hc hz
  | tup cs l hl h ih =>
    refine .tup cs _ (by rw [H.frzL_len]; exact hl) fun i c y hc hy => ?_
    rw [H.frzL_get] at hy
    cases hz : l[i]? with
    | none => rw [hz] at hy; cases hy
    | some z => rw [hz] at hy; simp at hy; subst hy; exact ih i c z hc hz
  | fn f first captured l l' hl hl' h h' ih ih' => exact .fn f first captured l l' hl hl' (fun i c x hc hx => (h i c x hc hx).le hM) (fun i c x hc hx => (h' i c x hc hx).le hM)

/-- A SLICE THAT IS OWNED BECOMES DATA. -/
theorem Ent.freeze {S : AState} {n e sz : Nat} {rows : List (List D)} (hn : S.own? n = some (.vec e sz rows)) : Ent S (S.frz n sz rows) := fun C E M a w hs => by
  obtain ⟨xs, h1, h2, h3, h4⟩ := hs.own n _ hn
  -- the block's cells that are used become readonly
  let M' : Mem := fun b k => match M b k with
    | some v => some v
    | none => if blockOf (E n) = some b ∧ k < rows.length * sz then xs[k]? else none
  have hM : M.le M' := fun b k v hv => by simp [M', hv]
  have hcell : ∀ b k v, blockOf (E n) = some b → xs[k]? = some v → w.cell? ⟨b, k, none⟩ = some v := by
    intro b k v hb hv
    rcases h1.2 with ⟨hnil, _⟩ | ⟨g, cap, cur, hE, _, hg, _, _, _, htake⟩
    · rw [hnil] at hb; simp [blockOf] at hb
    · rw [hE] at hb; simp [blockOf] at hb; subst hb
      rw [cell_of_row w g k cur e (0, 0) hg]
      rw [← htake, List.getElem?_take] at hv
      split at hv
      · simpa using hv
      · cases hv
  have hrep : ∀ v, HRep E M v (.vh n rows.length) → DRep M' v (.sl sz rows) := by
    intro v hv
    cases hv with
    | vh n len l c a h hl =>
      rcases h1.2 with ⟨hnil, hz⟩ | ⟨g, cap, cur, hE, _, hg, hnc, _, _, htake⟩
      · rw [h] at hnil
        simp only [Value.slice.injEq] at hnil
        obtain ⟨rfl, rfl, rfl⟩ := hnil
        have hz' : rows = [] := List.eq_nil_of_length_eq_zero hz
        subst hz'
        exact .slnil sz
      · rw [h] at hE
        simp only [Value.slice.injEq] at hE
        obtain ⟨rfl, rfl, rfl⟩ := hE
        refine .sl g 0 _ _ sz rows (fun k => xs.getD k undef) rfl hnc h2 (fun k hk => ?_) fun i j r x hr hx => ?_
        · have hxk : k < xs.length := by rw [h1.1]; exact hk
          have hMk : M g k = none := h4 g (by rw [h]; rfl) k
          simp only [M', Nat.zero_add, hMk]
          rw [if_pos ⟨by rw [h]; rfl, hk⟩, List.getElem?_eq_getElem hxk]
          simp [hxk]
        · have hlr := h2 r (List.mem_of_getElem? hr)
          have hir : i < rows.length := (List.getElem?_eq_some_iff.1 hr).1
          have hj : j < sz := by have := (List.getElem?_eq_some_iff.1 hx).1; omega
          have hmul : (i + 1) * sz ≤ rows.length * sz := Nat.mul_le_mul_right _ hir
          rw [Nat.succ_mul] at hmul
          have hxk : i * sz + j < xs.length := by rw [h1.1]; omega
          have := h3 i j r xs[i * sz + j] x hr hx (List.getElem?_eq_getElem hxk)
          have hg' : xs.getD (i * sz + j) undef = xs[i * sz + j] := by simp [hxk]
          rw [hg']
          exact this.mono hM
  have hown : ∀ m o, (S.frz n sz rows).own? m = some o → m ≠ n ∧ ∃ o0, S.own? m = some o0 ∧ o = Own.frz n sz rows o0 := by
    intro m o ho
    simp only [AState.frz, AState.own?, gt_cons] at ho
    by_cases hm : n = m
    · rw [if_pos hm] at ho; simp at ho
    · rw [if_neg hm, gt_map (fun x : Option Own => x.map (Own.frz n sz rows))] at ho
      refine ⟨fun e => hm e.symm, ?_⟩
      cases hg : gt S.own m with
      | none => rw [hg] at ho; simp at ho
      | some oo =>
        rw [hg] at ho
        cases oo with
        | none => simp at ho
        | some o0 => simp at ho; exact ⟨o0, by simp [AState.own?, hg], ho.symm⟩
  have hM'none : ∀ m o, m ≠ n → S.own? m = some o → ∀ b, blockOf (E m) = some b → ∀ k, M' b k = none := by
    intro m o hm ho b hb k
    have h0 := ((hs.own m o ho).block hb).2 k
    simp only [M', h0]
    rw [if_neg]
    rintro ⟨hb', _⟩
    exact hs.apart m n o _ b hm ho hn hb hb'
  refine ⟨E, M', { size := hs.size, defers := hs.defers, tmps := ?_, mem := ?_, own := ?_, apart := ?_, home := ?_, m0 := Mem.le_trans hs.m0 hM, mnew := ?_, frame := hs.frame, grows := hs.grows, os := hs.os, tape := hs.tape, output := hs.output, env := hs.env }⟩
  · intro t x hx
    simp only [AState.frz, gt_map] at hx
    cases hg : gt S.tmps t with
    | none => rw [hg] at hx; cases hx
    | some y =>
      rw [hg] at hx; simp at hx; subst hx
      obtain ⟨v, hv, hr⟩ := hs.tmps t y hg
      exact ⟨v, hv, hr.frz hM hrep⟩
  · intro b k v hv
    simp only [M'] at hv
    cases h0 : M b k with
    | some u => rw [h0] at hv; simp at hv; subst hv; exact hs.mem b k u h0
    | none =>
      rw [h0] at hv
      simp only at hv
      split at hv
      · rename_i hc; exact hcell b k v hc.1 hv
      · cases hv
  · intro m o ho
    obtain ⟨hm, o0, ho0, rfl⟩ := hown m o ho
    have hk := hs.own m o0 ho0
    cases o0 with
    | vec e' sz' rows' => exact hk.keep rfl (fun _ _ => rfl) (fun _ _ => rfl) hM (hM'none m _ hm ho0)
    | map es => exact hk.keep rfl (fun _ _ => rfl) (fun _ _ => rfl) hM (hM'none m _ hm ho0)
    | iter s pos => exact hk.keep rfl (fun _ _ => rfl) (fun _ _ => rfl) hM (hM'none m _ hm ho0)
    | box oty cells =>
      obtain ⟨b, cs, ty, k1, k2, k3, k4, k5, k6⟩ := hk
      refine ⟨b, cs, ty, k1, k2, by rw [H.frzL_len]; exact k3, fun i c y hc hy => ?_, hM'none m _ hm ho0 b (by rw [k1]; rfl), k6⟩
      rw [H.frzL_get] at hy
      cases hz : cells[i]? with
      | none => rw [hz] at hy; cases hy
      | some z => rw [hz] at hy; simp at hy; subst hy; exact (k4 i c z hc hz).frz hM hrep
  · intro m m' o o' b hne ho ho' hb hb'
    obtain ⟨_, o0, h0, _⟩ := hown m o ho
    obtain ⟨_, o1, h1', _⟩ := hown m' o' ho'
    exact hs.apart m m' o0 o1 b hne h0 h1' hb hb'
  · intro m o b ho hb
    obtain ⟨_, o0, h0, _⟩ := hown m o ho
    exact hs.home m o0 b h0 hb
  · intro b k v hv
    simp only [M'] at hv
    cases h0 : M b k with
    | some u => rw [h0] at hv; simp at hv; subst hv; exact hs.mnew b k u h0
    | none =>
      rw [h0] at hv
      simp only at hv
      split at hv
      · rename_i hc; exact .inr (hs.home n _ b hn hc.1)
      · cases hv

/-- A mark on a term that makes simp leave it alone: the type of an argument hangs on it. -/
structure Dummy {α : Sort _} (a : α) : Type where

def awpX (P : Program) (N : Nat) (C : Ctx) (nm : Nat → Nat) (c : Code) (Q : Exit → AState → Prop) (_ : Dummy (c, Q)) (S : AState) : Prop := awp P N C nm c S Q
def aopsX (P : Program) (N : Nat) (nm : Nat → Nat) (all l : List Oper) (S : AState) (k : AState → Prop) (_ : Dummy k) : Prop := aops P N nm all l S k
def aopsTX (P : Program) (N : Nat) (nm : Nat → Nat) (all l : List Oper) (S : AState) (tr : List Tr1) (k : AState → List Tr1 → Prop) (_ : Dummy k) : Prop := aopsT P N nm all l S tr k
def ACallX (P : Program) (f : FuncId) (args : List H) (ω : Nat → Option Own) (_ : Dummy ω) (k : Eff → Prop) (_ : Dummy k) : Prop := ACall P f args ω k
def aIfX (b : Bool) (x : Prop) (_ : Dummy x) (y : Prop) (_ : Dummy y) : Prop := aIf b x y
def AWpX (C : Ctx) (c : Code) (_ : Dummy c) (S : AState) (Q : Exit → AState → Prop) (_ : Dummy Q) : Prop := AWp C c S Q

section
variable {P : Program} {N : Nat} {nm : Nat → Nat} {all os : List Oper} {S : AState} {tr : List Tr1} {k : AState → Prop} {kt : AState → List Tr1 → Prop} {h : Dummy k} {ht : Dummy kt}
theorem aops_x {l : List Oper} : aops P N nm all l S k = aopsX P N nm all l S k ⟨⟩ := rfl
theorem aopsT_x {l : List Oper} : aopsT P N nm all l S tr kt = aopsTX P N nm all l S tr kt ⟨⟩ := rfl
theorem ACall_x {f : FuncId} {args : List H} {ω : Nat → Option Own} {k : Eff → Prop} : ACall P f args ω k = ACallX P f args ω ⟨⟩ k ⟨⟩ := rfl
theorem aIf_x {b : Bool} {x y : Prop} : aIf b x y = aIfX b x ⟨⟩ y ⟨⟩ := rfl
theorem AWp_x {C : Ctx} {c : Code} {Q : Exit → AState → Prop} : AWp C c S Q = AWpX C c ⟨⟩ S Q ⟨⟩ := rfl
theorem aIfX_true {x y : Prop} {hx : Dummy x} {hy : Dummy y} : aIfX true x hx y hy = x := aIf_true
theorem aIfX_false {x y : Prop} {hx : Dummy x} {hy : Dummy y} : aIfX false x hx y hy = y := aIf_false
theorem aopsX_nil : aopsX P N nm all [] S k h = k S := rfl
theorem aopsX_cons {dst : Option Tmp} {op : Op} {ty : TypeId} {pos : String} {af : Array Edge} : aopsX P N nm all (⟨dst, op, ty, pos, af, none⟩ :: os) S k h =
    ((∀ d, dst = some d → d < N) ∧ AVal P nm ⟨dst, op, ty, pos, af, none⟩ (ev S) S.own? (fun e => (∀ d ∈ e.new, S.fresh d = true ∧ d < given) ∧ aopsX P N nm all os (S.app dst e) k h)) := rfl
theorem aopsX_guard {dst : Option Tmp} {op : Op} {ty : TypeId} {pos : String} {af : Array Edge} {j : Nat} {want : Bool} : aopsX P N nm all (⟨dst, op, ty, pos, af, some (j, want)⟩ :: os) S k h =
    ((∀ d, dst = some d → d < N) ∧ match guardB S all j want with
      | some b => aIf (b == want) (AVal P nm ⟨dst, op, ty, pos, af, some (j, want)⟩ (ev S) S.own? (fun e => (∀ d ∈ e.new, S.fresh d = true ∧ d < given) ∧ aopsX P N nm all os (S.app dst e) k h))
          (aopsX P N nm all os (S.app dst { val := .tup [] }) k h)
      | none => False) := rfl
theorem aopsTX_nil : aopsTX P N nm all [] S tr kt ht = kt S tr := rfl
theorem aopsTX_cons {dst : Option Tmp} {op : Op} {ty : TypeId} {pos : String} {af : Array Edge} : aopsTX P N nm all (⟨dst, op, ty, pos, af, none⟩ :: os) S tr kt ht =
    ((∀ d, dst = some d → d < N) ∧ AVal P nm ⟨dst, op, ty, pos, af, none⟩ (ev S) S.own? (fun e => (∀ d ∈ e.new, S.fresh d = true ∧ d < given) ∧ aopsTX P N nm all os (S.app dst e) (tr ++ [⟨e, true⟩]) kt ht)) := rfl
theorem aopsTX_guard {dst : Option Tmp} {op : Op} {ty : TypeId} {pos : String} {af : Array Edge} {j : Nat} {want : Bool} : aopsTX P N nm all (⟨dst, op, ty, pos, af, some (j, want)⟩ :: os) S tr kt ht =
    ((∀ d, dst = some d → d < N) ∧ match guardB S all j want with
      | some b => aIf (b == want) (AVal P nm ⟨dst, op, ty, pos, af, some (j, want)⟩ (ev S) S.own? (fun e => (∀ d ∈ e.new, S.fresh d = true ∧ d < given) ∧ aopsTX P N nm all os (S.app dst e) (tr ++ [⟨e, true⟩]) kt ht))
          (aopsTX P N nm all os (S.app dst { val := .tup [] }) (tr ++ [⟨{ val := .tup [] }, false⟩]) kt ht)
      | none => False) := rfl
end

theorem loadC_0 {sz : Nat} {l : List H} : loadC false sz l = l.head? := rfl
theorem loadD_0 {sz : Nat} {l : List D} : loadD false sz l = l.head? := rfl
theorem loadC_1 {sz : Nat} {l : List H} : loadC true sz l = if sz ≤ l.length then some (mkAgg (l.take sz)) else none := rfl
theorem loadD_1 {sz : Nat} {l : List D} : loadD true sz l = if sz ≤ l.length then some (.agg (l.take sz)) else none := rfl

section
variable {P : Program} {N : Nat} {C : Ctx} {nm : Nat → Nat} {S : AState} {Q : Exit → AState → Prop}
theorem awp_x {c : Code} : awp P N C nm c S Q = awpX P N C nm c Q ⟨⟩ S := rfl
theorem awpX_skip {h : Dummy (Code.skip, Q)} : awpX P N C nm .skip Q h S = Q .normal S := rfl
theorem awpX_ret {h : Dummy (Code.ret, Q)} : awpX P N C nm .ret Q h S = Q .ret S := rfl
theorem awpX_exit {id : Nat} {h : Dummy (Code.exit id, Q)} : awpX P N C nm (.exit id) Q h S = Q (.exit id) S := rfl
theorem awpX_seq {x y : Code} {h : Dummy (Code.seq x y, Q)} : awpX P N C nm (.seq x y) Q h S = awpX P N C nm x (eThen (fun S' => awpX P N C nm y Q ⟨⟩ S') Q) ⟨⟩ S := rfl
theorem awpX_block {id : Nat} {x : Code} {h : Dummy (Code.block id x, Q)} : awpX P N C nm (.block id x) Q h S = awpX P N C nm x (eBlock id Q) ⟨⟩ S := rfl
theorem awpX_cond {c : Operand} {x y : Code} {h : Dummy (Code.cond c x y, Q)} : awpX P N C nm (.cond c x y) Q h S = match ev S c with
    | .d (.v (.bool b)) => aIfX b (awpX P N C nm x Q ⟨⟩ S) ⟨⟩ (awpX P N C nm y Q ⟨⟩ S) ⟨⟩
    | _ => False := rfl
theorem awpX_region {id : Nat} {ops : Array Oper} {h : Dummy (Code.region id ops false, Q)} : awpX P N C nm (.region id ops false) Q h S = aopsX P N nm ops.toList ops.toList S (fun S' => Q .normal S') ⟨⟩ := rfl
theorem awpX_draw {id : Nat} {ops : Array Oper} {h : Dummy (Code.region id ops true, Q)} : awpX P N C nm (.region id ops true) Q h S = aopsTX P N nm ops.toList ops.toList S [] (fun S' tr => drawOk ops.toList tr = true ∧ Q .normal S') ⟨⟩ := rfl
theorem awpX_loop {c : Code} {h : Dummy (Code.loop c, Q)} : awpX P N C nm (.loop c) Q h S = AWpX C (.loop c) ⟨⟩ S Q ⟨⟩ := rfl
end

theorem bq_tt : (true == true) = true := rfl
theorem bq_tf : (true == false) = false := rfl
theorem bq_ft : (false == true) = false := rfl
theorem bq_ff : (false == false) = true := rfl

theorem callX {P : Program} {f : FuncId} {args : List H} {ω : Nat → Option Own} {hω : Dummy ω} {k : Eff → Prop} {hk : Dummy k} {r : H} (h : FnOk P f args [] r []) (hr : H.plain r = true) (hh : k { val := r }) : ACallX P f args ω hω k hk :=
  acall_pure h hr hh

theorem ifX {b : Bool} {x y : Prop} {hx : Dummy x} {hy : Dummy y} (h : b = true → x) (h' : b = false → y) : aIfX b x hx y hy := ⟨h, h'⟩

/-- One more round. -/
def Again (I : Nat → AState → Prop) (n : Nat) (S : AState) : Prop := ∃ m S'', m < n ∧ Ent S S'' ∧ I m S''
def AgainX (I : Nat → AState → Prop) (_ : Dummy I) (n : Nat) (S : AState) : Prop := Again I n S
theorem Again_x {I : Nat → AState → Prop} {n : Nat} {S : AState} : Again I n S = AgainX I ⟨⟩ n S := rfl

theorem again_of {I : Nat → AState → Prop} {h : Dummy I} {n : Nat} {S : AState} (m : Nat) (S'' : AState) (hlt : m < n) (hent : Ent S S'') (hI : I m S'') : AgainX I h n S := ⟨m, S'', hlt, hent, hI⟩

/-- A loop whose state is first brought into the relation's form. -/
theorem awp_loop_of {P : Program} {N : Nat} {C : Ctx} {c : Code} {S S1 : AState} {Q : Exit → AState → Prop} (hP : C.P = P) (hN : C.N = N) (hm : P.follows .mixedOrders = true) (nm : Nat → Nat) (I : Nat → AState → Prop) (n : Nat)
    {h1 : Dummy (Code.loop c)} {h2 : Dummy Q} (hent : Ent S S1) (h0 : I n S1) (hr : ∀ n S, I n S → awp P N C nm c S (eThen (Again I n) Q)) : AWpX C (.loop c) h1 S Q h2 :=
  AWp.ent hent (AWp.loop I n h0 fun n S hI => awp_sound hP hN hm (hr n S hI))

end Go.Awp
