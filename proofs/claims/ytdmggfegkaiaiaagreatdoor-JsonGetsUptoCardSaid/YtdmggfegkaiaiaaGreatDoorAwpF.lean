/-
  The logic of abstract states: single operations are sound, third part: new memory, stores.
-/
import Derived.Test.YtdmggfegkaiaiaaGreatDoorAwpE
namespace Go.Awp
set_option linter.unusedSectionVars false
variable [Inhabited GMem]

theorem all_one_get {l : List H} (h : l.all H.one = true) {i : Nat} {x : H} (hx : l[i]? = some x) : x.one = true := by
  rw [List.all_eq_true] at h; exact h x (List.mem_of_getElem? hx)

theorem hasL_map_d (n : Nat) : ∀ l : List D, H.hasL n (l.map H.d) = false
  | [] => by simp [H.hasL]
  | x :: r => by simp [H.hasL, H.has, hasL_map_d n r]

/-- Cells are stored into a row. -/
theorem run_store_row {P : Program} {w : World} {t ty : TypeId} {ag : Bool} {sz : Nat} (ht : tyLoad P t = some (ag, sz)) {b off : Nat} {cur : Array Value} (hw : w.heap[b]? = some (.cells cur ty (0, 0)))
    {v : Value} (hsz : v.cells.size = sz) (hfit : off + sz ≤ cur.size) (h1 : ∀ u ∈ v.cells.toList, u.oneCell' = true) :
    (storeVar t ⟨b, off, none⟩ v).run P w = .ok () (w.setRow b (cur.toList.take off ++ v.cells.toList ++ cur.toList.drop (off + sz)).toArray) := by
  unfold tyLoad at ht
  split at ht
  · rename_i d i hd hi
    simp only [Option.some.injEq, Prod.mk.injEq] at ht
    obtain ⟨_, h2⟩ := ht
    have := run_storeCells_at P b off ty v.cells.toList 0 cur w hw (by simp; omega) h1
    simp only [Nat.add_zero, Array.length_toList, hsz] at this
    simp [storeVar, sizeOf, typeInfo, hi, h2, hsz, this]
  · cases ht

theorem exec_store {o : Oper} {P : Program} {w w' : World} {a : Act} {t : TypeId} {x y : Operand} {ad : Addr} (ho : o.op = .store t x y) (hx : a.eval x = .pointer (some ad))
    (h : (storeVar t ad (a.eval y)).run P w = .ok () w') : (execOp a.eval o).run P w = .ok .skip w' := by
  simp [execOp, ho, hx, Instr.storeAt, Instr.sureAddr, h]

theorem grownBy_setRow (w : World) (b : Nat) (cs : Array Value) : w.grownBy (w.setRow b cs) (some b) :=
  ⟨rfl, rfl, rfl, by simp, fun k _ hk => setRow_other w b k _ (fun e => hk (by rw [e]))⟩

theorem getElem?_splice {α : Type} (l new : List α) (off i : Nat) (hle : off + new.length ≤ l.length) :
    (l.take off ++ new ++ l.drop (off + new.length))[i]? = if i < off then l[i]? else if i < off + new.length then new[i - off]? else l[i]? := by
  have hto : (l.take off).length = off := by rw [List.length_take]; omega
  by_cases h1 : i < off
  · rw [if_pos h1, List.append_assoc, List.getElem?_append_left (by omega), List.getElem?_take, if_pos h1]
  · rw [if_neg h1]
    by_cases h2 : i < off + new.length
    · rw [if_pos h2, List.append_assoc, List.getElem?_append_right (by omega), hto, List.getElem?_append_left (by omega)]
    · rw [if_neg h2, List.getElem?_append_right (by rw [List.length_append, hto]; omega), List.length_append, hto, List.getElem?_drop]
      congr 1; omega

section
variable {C : Ctx} {nm : Nat → Nat} {o : Oper} (hd : ∀ d, o.dst = some d → d < C.N)
include hd

/-- A new box, and its pointer in a slot. -/
theorem Sim.app_box {E : Env} {M : Mem} {S : AState} {a : Act} {w : World} (h : Sim C E M S a w) {n : Nat} {cs : Array Value} {ty : TypeId} {oty : Option TypeId} {cells : List H} (hty : ∀ t, oty = some t → ty = t)
    (hl : cs.size = cells.length) (hr : ∀ (i : Nat) (c : Value) (x : H), cs[i]? = some c → cells[i]? = some x → HRep E M c x) (hf : S.fresh n = true) (hg : n < given)
    (hcl : Own.has n (.box oty cells) = false) :
    Sim C (fun m => if m = n then .pointer (some ⟨w.heap.size, 0, none⟩) else E m) M (S.app o.dst { val := .bp n 0, upd := [(n, some (.box oty cells))], new := [n] }) (a.put o.dst (.pointer (some ⟨w.heap.size, 0, none⟩))) (w.alloc (.cells cs ty)) := by
  have h1 : Sim C (fun m => if m = n then .pointer (some ⟨w.heap.size, 0, none⟩) else E m) M { S with own := (n, some (.box oty cells)) :: S.own } a (w.alloc (.cells cs ty)) := by
    refine h.own_new (World.grownBy_alloc w _ none) (fun m hm => by simp [hm]) hf hg (fun b hb => ?_) ?_
    · simp [blockOf] at hb; omega
    · refine ⟨w.heap.size, cs, ty, by simp, heap_alloc_new w _, hl, fun i c x hc hx => ?_, fun k => ?_, hty⟩
      · refine (hr i c x hc hx).set ?_
        exact H.hasL_get (by simpa [Own.has] using hcl) hx
      · cases hm : M w.heap.size k with
        | none => rfl
        | some v => have := h.cell_lt hm; omega
  have h2 := h1.put o.dst hd (HRep.bp n 0 w.heap.size (by simp))
  refine h2.weaken (fun t x hx => .inl ?_) (fun m p hm => ?_)
  · exact hx
  · exact hm

theorem ok_alloc {t : TypeId} (ho : o.op = .alloc t) : OpOk C nm o := by
  intro E M S a w K Q k hs hv hK
  simp only [AVal, ho] at hv
  split at hv
  · rename_i z d hz hdst
    obtain ⟨hnew, hk⟩ := hv
    unfold zeroD at hz
    split at hz
    · rename_i i hi
      split at hz
      · rename_i zv hzv
        simp at hz; subst hz
        have hn := hnew (nm d) (by simp)
        refine wp_value (v := .pointer (some ⟨w.heap.size, 0, none⟩)) (w' := w.alloc (.cells zv.cells t)) ?_ ?_
        · simp [execOp, ho, Instr.alloc, zeroValue, typeInfo, hi, hzv, newVar, newRow, newObj, Sem.run]
        · have := hs.app_box (o := o) hd (n := nm d) (cs := zv.cells) (ty := t) (oty := keepTy t zv.cells.toList) (cells := zv.cells.toList.map fun x => .d (.v x)) (fun t' ht' => by
              unfold keepTy at ht'
              split at ht'
              · simpa using ht'
              · cases ht') (by simp) (fun i c x hc hx => by
            simp only [List.getElem?_map] at hx
            have hc' : zv.cells.toList[i]? = some c := by simpa using hc
            rw [hc'] at hx; simp at hx; subst hx
            exact .d (.v c)) hn.1 hn.2 (by
              simp only [Own.has]
              induction zv.cells.toList with
              | nil => simp [H.hasL]
              | cons y r ih => simp [H.hasL, H.has, ih])
          exact hK _ _ _ _ _ hk (this.weaken (fun t x hx => .inl (by simpa [AState.app] using hx)) (fun m p hm => by simpa [AState.app] using hm))
      · cases hz
    · cases hz
  · exact hv.elim

theorem ok_box {t : TypeId} {x : Operand} (ho : o.op = .box t x) : OpOk C nm o := by
  intro E M S a w K Q k hs hv hK
  simp only [AVal, ho] at hv
  split at hv
  · rename_i cs d hcs hdst
    obtain ⟨hnew, hk⟩ := hv
    have hn := hnew (nm d) (by simp)
    have hx := hs.ev x
    obtain ⟨hsz, hcell⟩ := hx.cells hcs
    refine wp_value (v := .pointer (some ⟨w.heap.size, 0, none⟩)) (w' := w.alloc (.cells (a.eval x).cells t)) ?_ ?_
    · simp [execOp, ho, Instr.box, newVar, newRow, newObj, Sem.run]
    · have hfr : H.has (nm d) (Go.Awp.ev S x) = false := by
        cases x with
        | tmp t =>
          simp only [Go.Awp.ev, AState.get]
          cases hg : gt S.tmps t with
          | none => simp [H.has]
          | some y => simpa using AState.fresh_tmp hn.1 hg
        | const v => cases v <;> simp [Go.Awp.ev, H.has]
        | global g => simp [Go.Awp.ev, H.has]
        | func f => simp [Go.Awp.ev, H.has, H.hasL]
      have hcl : Own.has (nm d) (.box none cs) = false := by
        simp only [Own.has]
        generalize Go.Awp.ev S x = y at hcs hfr
        cases y with
        | d q =>
          cases q with
          | v z =>
            simp only [H.cells] at hcs
            split at hcs
            · simp at hcs; subst hcs; simp [H.hasL, H.has]
            · cases hcs
          | agg ds =>
            simp [H.cells] at hcs; subst hcs
            exact hasL_map_d _ ds
          | sl sz rows => simp [H.cells] at hcs; subst hcs; simp [H.hasL, H.has]
          | rp cells => simp [H.cells] at hcs; subst hcs; simp [H.hasL, H.has]
          | er b => simp [H.cells] at hcs; subst hcs; simp [H.hasL, H.has]
        | junk => simp [H.cells] at hcs
        | agg l => simp [H.cells] at hcs; subst hcs; simpa [H.has] using hfr
        | tup l => simp [H.cells] at hcs
        | bp n o => simp [H.cells] at hcs; subst hcs; simpa [H.hasL] using hfr
        | vh n o => simp [H.cells] at hcs; subst hcs; simpa [H.hasL] using hfr
        | ep n s i o => simp [H.cells] at hcs; subst hcs; simpa [H.hasL] using hfr
        | mp n => simp [H.cells] at hcs; subst hcs; simpa [H.hasL] using hfr
        | np n b => simp [H.cells] at hcs; subst hcs; simpa [H.hasL] using hfr
        | sd n => simp [H.cells] at hcs; subst hcs; simpa [H.hasL] using hfr
        | fn f a b => simp [H.cells] at hcs; subst hcs; simpa [H.hasL] using hfr
      have := hs.app_box (o := o) hd (n := nm d) (cs := (a.eval x).cells) (ty := t) (oty := none) (cells := cs) (fun t' ht' => by cases ht') hsz hcell hn.1 hn.2 hcl
      exact hK _ _ _ _ _ hk (this.weaken (fun t x hx => .inl (by simpa [AState.app] using hx)) (fun m p hm => by simpa [AState.app] using hm))
  · exact hv.elim

theorem ok_store {t : TypeId} {x y : Operand} (ho : o.op = .store t x y) : OpOk C nm o := by
  intro E M S a w K Q k hs hv hK
  simp only [AVal, ho] at hv
  have hx := hs.ev x
  have hy := hs.ev y
  split at hv
  · rename_i ag sz ht
    split at hv
    · rename_i n off cs he hcs
      rw [he] at hx
      obtain ⟨hysz, hycell⟩ := hy.cells hcs
      split at hv
      · rename_i oty cells hc
        obtain ⟨⟨hlen, hone, hfit⟩, _, hk⟩ := hv
        generalize hq : a.eval x = q at hx
        cases hx with
        | bp n off b hE =>
          obtain ⟨cur, ty, h1, h2, h3, h4, hty⟩ := (hs.own n _ hc).box_cell hE
          have hone' : ∀ u ∈ (a.eval y).cells.toList, u.oneCell' = true := by
            intro u hu
            obtain ⟨i, hi⟩ := List.mem_iff_getElem?.1 hu
            have hi' : (a.eval y).cells[i]? = some u := by simpa using hi
            have hlt : i < cs.length := by
              have := (Array.getElem?_eq_some_iff.1 hi').1; omega
            exact (hycell i u cs[i] hi' (List.getElem?_eq_getElem hlt)).one (all_one_get hone (List.getElem?_eq_getElem hlt))
          have hrun := run_store_row ht h1 (v := a.eval y) (off := off) (by omega) (by omega) hone'
          refine wp_skip' (exec_store ho hq hrun) ?_
          have hsp : (cur.toList.take off ++ (a.eval y).cells.toList ++ cur.toList.drop (off + sz)).length = cells.length := by
            simp; omega
          have hmv := hs.own_step (E' := E) (n := n) (d := n) (o' := .box oty (spliceH cells off cs)) hc (w' := w.setRow b (cur.toList.take off ++ (a.eval y).cells.toList ++ cur.toList.drop (off + sz)).toArray)
            (by rw [hE]; exact grownBy_setRow w b _) (fun _ _ => rfl) (.inl ⟨rfl, rfl⟩) (fun b' hb => .inl hb)
            (fun b' hb => by have := hs.block_lt hc hb; simpa [World.setRow] using this)
            ⟨b, _, ty, hE, setRow_heap w b cur _ ty _ h1, by
              rw [List.size_toArray, hsp]; simp [spliceH]; omega, fun i c z hcz hz => by
              have hl1 : (a.eval y).cells.toList.length = sz := by simp; omega
              have e1 := getElem?_splice cur.toList (a.eval y).cells.toList off i (by rw [hl1]; simp; omega)
              have e2 := getElem?_splice cells cs off i (by omega)
              rw [hl1] at e1
              rw [hlen] at e2
              simp only [spliceH, hlen] at hz
              rw [List.getElem?_toArray, e1] at hcz
              rw [e2] at hz
              split at hcz
              · rename_i hi; rw [if_pos hi] at hz
                exact h3 i c z (by simpa using hcz) hz
              · rename_i hi; rw [if_neg hi] at hz
                split at hcz
                · rename_i hi2; rw [if_pos hi2] at hz
                  exact hycell _ c z (by simpa using hcz) hz
                · rename_i hi2; rw [if_neg hi2] at hz
                  exact h3 i c z (by simpa using hcz) hz, fun k => ((hs.own n _ hc).block (b := b) (by rw [hE]; rfl)).2 k, hty⟩
          have hp := hmv.put o.dst hd (HRep.junk undef)
          refine hK _ _ _ _ _ hk (hp.weaken (fun t x hx => .inl hx) (fun m p hm => ?_))
          simp only [AState.own?, AState.app, List.cons_append, List.nil_append, gt_cons] at hm ⊢
          by_cases hnm : n = m
          · rw [if_pos hnm] at hm ⊢; exact hm
          · rw [if_neg hnm] at hm ⊢; rw [if_neg hnm]; exact hm
      · exact hv.elim
    · rename_i n s i off cs he hcs
      rw [he] at hx
      obtain ⟨hysz, hycell⟩ := hy.cells hcs
      split at hv
      · rename_i e s' rows hc
        split at hv
        · rename_i r ds hr hds
          obtain ⟨⟨rfl, hlen, hone, hfit⟩, _, hk⟩ := hv
          obtain ⟨hdl, hdg⟩ := allD_get hds
          generalize hq : a.eval x = q at hx
          cases hx with
          | ep n sz' i off b l c hE hi =>
            have hown := hs.own n _ hc
            obtain ⟨xs, h1, h2, h3, h4⟩ := hown
            have hlr := h2 r (List.mem_of_getElem? hr)
            have hir : i < rows.length := (List.getElem?_eq_some_iff.1 hr).1
            have hlc : l = rows.length := by
              rcases h1.2 with ⟨hn, _⟩ | ⟨g, cap, cur, hv, _⟩
              · rw [hE] at hn; cases hn
              · rw [hE] at hv; simp at hv; exact hv.2.1
            subst hlc
            rcases h1.2 with ⟨hn, _⟩ | ⟨g, cap, cur, hv, hbg, hg, hnc, hcm, hcs', htake⟩
            · rw [hE] at hn; cases hn
            rw [hE] at hv
            simp only [Value.slice.injEq, Option.some.injEq, Addr.mk.injEq, and_true, true_and] at hv
            obtain ⟨rfl, rfl⟩ := hv
            have hmul : (i + 1) * s ≤ rows.length * s := Nat.mul_le_mul_right _ hir
            have hmul2 : rows.length * s ≤ c * s := Nat.mul_le_mul_right _ hnc
            rw [Nat.succ_mul] at hmul
            have hone' : ∀ u ∈ (a.eval y).cells.toList, u.oneCell' = true := by
              intro u hu
              obtain ⟨j, hj⟩ := List.mem_iff_getElem?.1 hu
              have hj' : (a.eval y).cells[j]? = some u := by simpa using hj
              have hlt : j < cs.length := by
                have := (Array.getElem?_eq_some_iff.1 hj').1; omega
              exact (hycell j u cs[j] hj' (List.getElem?_eq_getElem hlt)).one (all_one_get hone (List.getElem?_eq_getElem hlt))
            have hrun := run_store_row ht hg (v := a.eval y) (off := i * s + off) (by omega) (by omega) hone'
            refine wp_skip' (exec_store ho hq hrun) ?_
            have hl1 : (a.eval y).cells.toList.length = sz := by simp; omega
            have hmv := hs.own_step (E' := E) (n := n) (d := n) (o' := .vec e s (rows.set i (r.take off ++ ds ++ r.drop (off + ds.length)))) hc
              (w' := w.setRow b (cur.toList.take (i * s + off) ++ (a.eval y).cells.toList ++ cur.toList.drop (i * s + off + sz)).toArray)
              (by rw [hE]; exact grownBy_setRow w b _) (fun _ _ => rfl) (.inl ⟨rfl, rfl⟩) (fun b' hb => .inl hb)
              (fun b' hb => by have := hs.block_lt hc hb; simpa [World.setRow] using this)
              ⟨(cur.toList.take (i * s + off) ++ (a.eval y).cells.toList ++ cur.toList.drop (i * s + off + sz)).take (rows.length * s), by
                rw [List.length_set]
                refine ⟨by simp; omega, .inr ⟨b, c, _, hE, hbg, setRow_heap w b cur _ e _ hg, hnc, hcm, ?_, rfl⟩⟩
                simp; omega,
                fun r' hr' => by
                  rcases List.mem_or_eq_of_mem_set hr' with h | h
                  · exact h2 r' h
                  · subst h; simp; omega,
                (fun i' j r' c' z hr' hz hcc => by
                  have e1 := getElem?_splice cur.toList (a.eval y).cells.toList (i * s + off) (i' * s + j) (by rw [hl1]; simp only [Array.length_toList]; omega)
                  rw [hl1] at e1
                  rw [List.getElem?_take] at hcc
                  split at hcc
                  · rename_i hlt
                    rw [e1] at hcc
                    have old : ∀ q : Nat, q < rows.length * s → cur.toList[q]? = xs[q]? := by
                      intro q hq; rw [← htake, List.getElem?_take, if_pos hq]
                    rw [List.getElem?_set] at hr'
                    split at hr'
                    · rename_i hii
                      subst hii
                      simp only [Option.some.injEq] at hr'; subst hr'
                      have e2 := getElem?_splice r ds off j (by omega)
                      rw [e2] at hz
                      split at hz
                      · rename_i hj
                        rw [if_pos (by omega)] at hcc
                        exact h3 i j r c' z hr hz (by rw [← old _ (by omega)]; exact hcc)
                      · rename_i hj
                        split at hz
                        · rename_i hj2
                          rw [if_neg (by omega), if_pos (by omega)] at hcc
                          have h5 : (a.eval y).cells[j - off]? = some c' := by
                            have : i * s + j - (i * s + off) = j - off := by omega
                            rw [this] at hcc; simpa using hcc
                          have := hycell (j - off) c' (.d z) h5 (by rw [hdg, hz]; rfl)
                          cases this with
                          | d q => exact q
                        · rename_i hj2
                          rw [if_neg (by omega), if_neg (by omega)] at hcc
                          exact h3 i j r c' z hr hz (by rw [← old _ (by omega)]; exact hcc)
                    · rename_i hii
                      have hrl := h2 r' (List.mem_of_getElem? hr')
                      have hjl : j < s := by have := (List.getElem?_eq_some_iff.1 hz).1; omega
                      have hout : i' * s + j < i * s + off ∨ i * s + off + sz ≤ i' * s + j := by
                        rcases Nat.lt_or_gt_of_ne hii with h | h
                        · right
                          have : (i + 1) * s ≤ i' * s := Nat.mul_le_mul_right _ h
                          rw [Nat.succ_mul] at this; omega
                        · left
                          have : (i' + 1) * s ≤ i * s := Nat.mul_le_mul_right _ h
                          rw [Nat.succ_mul] at this; omega
                      have hcc' : cur.toList[i' * s + j]? = some c' := by
                        rcases hout with h | h
                        · rw [if_pos h] at hcc; exact hcc
                        · rw [if_neg (by omega), if_neg (by omega)] at hcc; exact hcc
                      exact h3 i' j r' c' z hr' hz (by rw [← old _ hlt]; exact hcc')
                  · cases hcc),
                fun b' hb' => h4 b' hb'⟩
            have hp := hmv.put o.dst hd (HRep.junk undef)
            refine hK _ _ _ _ _ hk (hp.weaken (fun t x hx => .inl hx) (fun m p hm => ?_))
            simp only [AState.own?, AState.app, List.cons_append, List.nil_append, gt_cons] at hm ⊢
            by_cases hnm : n = m
            · rw [if_pos hnm] at hm ⊢; exact hm
            · rw [if_neg hnm] at hm ⊢; rw [if_neg hnm]; exact hm
        · exact hv.elim
      · exact hv.elim
    · exact hv.elim
  · exact hv.elim

end
end Go.Awp
