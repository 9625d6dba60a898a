/-
  The logic of abstract states: single operations are sound, fifth part: structs, slices.
-/
import Derived.Test.YtdmggfegkaiaiaaGreatDoorAwpG
namespace Go.Awp
set_option linter.unusedSectionVars false
variable [Inhabited GMem]

theorem HRep.toD {E : Env} {M : Mem} {v : Value} {x : D} (h : HRep E M v (.d x)) : DRep M v x := by
  cases h with
  | d h => exact h

theorem foldl_set_get (vs : List Value) : ∀ (off k : Nat) (cells : Array Value) (i : Nat), k + off + vs.length ≤ cells.size →
    ((vs.zipIdx k).foldl (fun cs (p : Value × Nat) => cs.setIfInBounds (off + p.2) p.1) cells).size = cells.size ∧
    ((vs.zipIdx k).foldl (fun cs (p : Value × Nat) => cs.setIfInBounds (off + p.2) p.1) cells)[i]? = if i < off + k then cells[i]? else if i < off + k + vs.length then vs[i - (off + k)]? else cells[i]? := by
  induction vs with
  | nil => intro off k cells i h; refine ⟨rfl, ?_⟩; simp; omega
  | cons v r ih =>
    intro off k cells i h
    simp only [List.length_cons] at h
    simp only [List.zipIdx_cons, List.foldl_cons]
    obtain ⟨h1, h2⟩ := ih off (k + 1) (cells.setIfInBounds (off + k) v) i (by simp; omega)
    refine ⟨by rw [h1]; simp, ?_⟩
    rw [h2]
    by_cases c1 : i < off + k
    · rw [if_pos (by omega), if_pos c1, Array.getElem?_setIfInBounds_ne (by omega)]
    · rw [if_neg c1]
      by_cases c2 : i = off + k
      · subst c2
        rw [if_pos (by omega), if_pos (by simp)]
        have hs : (cells.setIfInBounds (off + k) v).size = cells.size := by simp
        rw [Array.getElem?_eq_getElem (by omega)]
        simp
      · rw [if_neg (by omega)]
        by_cases c3 : i < off + (k + 1) + r.length
        · rw [if_pos c3, if_pos (by simp; omega)]
          have : i - (off + k) = (i - (off + (k + 1))) + 1 := by omega
          rw [this]; simp
        · rw [if_neg c3, if_neg (by simp; omega), Array.getElem?_setIfInBounds_ne (by omega)]

theorem fill_rep {E : Env} {M : Mem} (pl : List (Nat × Nat)) : ∀ (parts : List (Nat × H)) (vals : List (Nat × Value)) (cells : Array Value) (l out : List H), fillH pl l parts = some out →
    vals.length = parts.length → (∀ (i : Nat) (p : Nat × Value) (q : Nat × H), vals[i]? = some p → parts[i]? = some q → p.1 = q.1 ∧ HRep E M p.2 q.2) →
    cells.size = l.length → (∀ (i : Nat) (c : Value) (x : H), cells[i]? = some c → l[i]? = some x → HRep E M c x) →
    ∃ cells', Instr.fill (fun x => pl[x]?) cells vals = some cells' ∧ cells'.size = out.length ∧ ∀ (i : Nat) (c : Value) (x : H), cells'[i]? = some c → out[i]? = some x → HRep E M c x
  | [], [], cells, l, out, h, _, _, h1, h2 => by
    simp [fillH] at h; subst h
    exact ⟨cells, rfl, h1, h2⟩
  | [], _ :: _, _, _, _, _, h, _, _, _ => by simp at h
  | _ :: _, [], _, _, _, _, h, _, _, _ => by simp at h
  | (i, x) :: pr, (j, v) :: vr, cells, l, out, h, hl, hp, h1, h2 => by
    obtain ⟨hij, hv⟩ := hp 0 (j, v) (i, x) rfl rfl
    simp only at hij hv
    subst hij
    simp only [fillH] at h
    split at h
    · rename_i off sz cs hpl hcs
      split at h
      · rename_i hc
        obtain ⟨hvs, hvc⟩ := hv.cells hcs
        have key := fun i => foldl_set_get v.cells.toList off 0 cells i (by simp; omega)
        have hnew : (v.cells.zipIdx.foldl (fun cs (p : Value × Nat) => cs.setIfInBounds (off + p.2) p.1) cells) = (v.cells.toList.zipIdx 0).foldl (fun cs (p : Value × Nat) => cs.setIfInBounds (off + p.2) p.1) cells := by
          rw [← Array.foldl_toList]; simp
        obtain ⟨cells', e1, e2, e3⟩ := fill_rep pl pr vr (v.cells.zipIdx.foldl (fun cs (p : Value × Nat) => cs.setIfInBounds (off + p.2) p.1) cells) (spliceH l off cs) out h (by simpa using hl)
          (fun i p q a b => hp (i + 1) p q (by simpa using a) (by simpa using b))
          (by rw [hnew, (key 0).1]; simp [spliceH]; omega)
          (fun i c y a b => by
            rw [hnew, (key i).2] at a
            simp only [spliceH] at b
            rw [getElem?_splice l cs off i (by omega)] at b
            simp only [Nat.add_zero, Array.length_toList] at a
            split at a
            · rename_i q; rw [if_pos q] at b; exact h2 i c y a b
            · rename_i q; rw [if_neg q] at b
              split at a
              · rename_i q2; rw [if_pos (by omega)] at b; exact hvc _ c y (by simpa using a) b
              · rename_i q2; rw [if_neg (by omega)] at b; exact h2 i c y a b)
        refine ⟨cells', ?_, e2, e3⟩
        simp only [Instr.fill, hpl]
        rw [if_neg (by simp; omega)]
        exact e1
      · cases h
    · cases h

theorem rowsOf_spec {E : Env} {M : Mem} {sz : Nat} (hsz : 0 < sz) : ∀ (parts : List (Nat × H)) (vals : List (Nat × Value)) (cells : Array Value) (i : Nat) (rows : List (List D)), rowsOf sz i parts = some rows →
    vals.length = parts.length → (∀ (i : Nat) (p : Nat × Value) (q : Nat × H), vals[i]? = some p → parts[i]? = some q → p.1 = q.1 ∧ HRep E M p.2 q.2) → cells.size = (i + rows.length) * sz →
    (∀ r ∈ rows, r.length = sz) ∧ ∃ cells', Instr.fill (fun j => some (j * sz, sz)) cells vals = some cells' ∧ cells'.size = cells.size ∧
      (∀ q, q < i * sz → cells'[q]? = cells[q]?) ∧ ∀ (k j : Nat) (r : List D) (x : D), rows[k]? = some r → r[j]? = some x → ∃ c, cells'[(i + k) * sz + j]? = some c ∧ DRep M c x
  | [], [], cells, i, rows, h, _, _, _ => by
    simp [rowsOf] at h; subst h
    exact ⟨by simp, cells, rfl, rfl, fun _ _ => rfl, by simp⟩
  | [], _ :: _, _, _, _, _, h, _, _ => by simp at h
  | _ :: _, [], _, _, _, _, h, _, _ => by simp at h
  | (i', x) :: pr, (j, v) :: vr, cells, i, rows, h, hl, hp, h1 => by
    obtain ⟨hij, hv⟩ := hp 0 (j, v) (i', x) rfl rfl
    simp only at hij hv
    subst hij
    simp only [rowsOf] at h
    split at h
    · rename_i hii
      subst hii
      split at h
      · rename_i cs hcs
        split at h
        · rename_i ds rest hds hrest
          split at h
          · rename_i hlen
            simp at h; subst h
            obtain ⟨hvs, hvc⟩ := hv.cells hcs
            obtain ⟨hdl, hdg⟩ := allD_get hds
            simp only [List.length_cons] at h1
            have hmul : i * sz + sz ≤ (i + (rest.length + 1)) * sz := by rw [← Nat.succ_mul]; exact Nat.mul_le_mul_right _ (by omega)
            have hvl : v.cells.toList.length = sz := by simp; omega
            have key := fun q => foldl_set_get v.cells.toList (i * sz) 0 cells q (by rw [hvl]; omega)
            have hnew : (v.cells.zipIdx.foldl (fun cs (p : Value × Nat) => cs.setIfInBounds (i * sz + p.2) p.1) cells) = (v.cells.toList.zipIdx 0).foldl (fun cs (p : Value × Nat) => cs.setIfInBounds (i * sz + p.2) p.1) cells := by
              rw [← Array.foldl_toList]; simp
            obtain ⟨e0, cells', e1, e2, e3, e4⟩ := rowsOf_spec hsz pr vr (v.cells.zipIdx.foldl (fun cs (p : Value × Nat) => cs.setIfInBounds (i * sz + p.2) p.1) cells) (i + 1) rest hrest (by simpa using hl)
              (fun i p q a b => hp (i + 1) p q (by simpa using a) (by simpa using b)) (by rw [hnew, (key 0).1, h1]; congr 1; omega)
            refine ⟨fun r hr => ?_, cells', ?_, by rw [e2, hnew, (key 0).1], fun q hq => ?_, fun k j r y hr hy => ?_⟩
            · rcases List.mem_cons.1 hr with h | h
              · subst h; omega
              · exact e0 r h
            · simp only [Instr.fill]
              rw [if_neg (by simp; omega)]
              exact e1
            · rw [e3 q (by rw [Nat.succ_mul]; omega), hnew, (key q).2, if_pos (by omega)]
            · cases k with
              | zero =>
                simp at hr; subst hr
                have hj : j < sz := by have := (List.getElem?_eq_some_iff.1 hy).1; omega
                have hjv : j < v.cells.size := by omega
                refine ⟨v.cells[j], ?_, ?_⟩
                · rw [Nat.add_zero, e3 _ (by rw [Nat.succ_mul]; omega), hnew, (key _).2, if_neg (by omega), if_pos (by rw [hvl]; omega)]
                  have : i * sz + j - (i * sz + 0) = j := by omega
                  rw [this]; simp [hjv]
                · exact (hvc j v.cells[j] (.d y) (Array.getElem?_eq_getElem hjv) (by rw [hdg, hy]; rfl)).toD
              | succ k =>
                have := e4 k j r y (by simpa using hr) hy
                rwa [show i + 1 + k = i + (k + 1) by omega] at this
          · cases h
        · cases h
      · cases h
    · cases h

theorem elemTy_spec {P : Program} {t e : TypeId} {sz by_ : Nat} (h : elemTy P t = some (e, sz, by_)) :
    ∃ i z, P.underlying t = some (.slice e) ∧ P.info? e = some i ∧ i.zero = some z ∧ z.cells.size = sz ∧ i.size = sz ∧ i.bytes = by_ ∧ 0 < sz := by
  unfold elemTy at h
  split at h
  · rename_i e' hu
    split at h
    · rename_i ii hii
      split at h
      · rename_i z hz
        split at h
        · rename_i hc
          simp at h; obtain ⟨rfl, rfl, rfl⟩ := h
          exact ⟨ii, z, hu, hii, hz, hc.1, rfl, rfl, hc.2⟩
        · cases h
      · cases h
    · cases h
  · cases h

section
variable {C : Ctx} {nm : Nat → Nat} {o : Oper} (hd : ∀ d, o.dst = some d → d < C.N)
include hd

theorem ok_build {t : TypeId} {parts : Array (Nat × Operand)} (ho : o.op = .build t parts) : OpOk C nm o := by
  intro E M S a w K Q k hs hv hK
  simp only [AVal, ho] at hv
  split at hv
  · rename_i z pl hz hpl
    split at hv
    · rename_i cs hcs
      unfold zeroD at hz
      split at hz
      · rename_i it hit
        split at hz
        · rename_i zv hzv
          simp at hz; subst hz
          unfold places at hpl
          split at hpl
          · rename_i fs hfs
            obtain ⟨cells', e1, e2, e3⟩ := fill_rep (E := E) (M := M) pl _ (parts.toList.map fun (i, x) => (i, a.eval x)) zv.cells _ cs hcs (by simp)
              (fun i p q hp hq => by
                simp only [List.getElem?_map] at hp hq
                cases hx : parts.toList[i]? with
                | none => rw [hx] at hp; cases hp
                | some y =>
                  rw [hx] at hp hq; simp at hp hq; subst hp; subst hq
                  exact ⟨rfl, hs.ev y.2⟩) (by simp)
              (fun i c x hc hx => by
                simp only [List.getElem?_map] at hx
                have hc' : zv.cells.toList[i]? = some c := by simpa using hc
                rw [hc'] at hx; simp at hx; subst hx
                exact .d (.v c))
            refine wp_value (v := .agg cells') (w' := w) ?_ (hK _ _ _ _ _ hv.2 (hs.app_val hd rfl (HRep.mk_agg e2 e3)))
            have hb : C.P.built t (parts.map fun (i, x) => (i, a.eval x)).toList = some cells' := by
              simp only [Program.built, hit, hfs, hzv, hpl]
              simpa using e1
            have := run_build (P := C.P) w t (parts.map fun (i, x) => (i, a.eval x)) cells' hb
            simp [execOp, ho, this]
          · cases hpl
        · cases hz
      · cases hz
    · exact hv.elim
  · exact hv.elim

theorem ok_buildSlice {t : TypeId} {len : Nat} {parts : Array (Nat × Operand)} (ho : o.op = .buildSlice t len parts) : OpOk C nm o := by
  intro E M S a w K Q k hs hv hK
  simp only [AVal, ho] at hv
  split at hv
  · rename_i e sz by_ ht
    obtain ⟨ii, z, hu, hii, hz, hzs, his, hib, hpos⟩ := elemTy_spec ht
    split at hv
    · rename_i rows hrows
      obtain ⟨⟨hlen, hsm⟩, hv⟩ := hv
      subst hlen
      have hzero : ∃ cells0 : Array Value, cells0.size = rows.length * sz ∧ ∀ cells', Instr.fill (fun j => some (j * sz, sz)) cells0 (parts.toList.map fun (i, x) => (i, a.eval x)) = some cells' →
          (execOp a.eval o).run C.P w = .ok (.value (.slice (some ⟨w.heap.size, 0, none⟩) rows.length rows.length)) (w.alloc (.cells cells' e)) := by
        have hsm' : ¬ rows.length * sz > 2 ^ 24 := by omega
        by_cases h0 : rows.length * sz = 0
        · refine ⟨(Array.range (rows.length * sz)).map (fun i => (#[] : Array Value)[i % (#[] : Array Value).size]!), by simp, fun cells' hf => ?_⟩
          have hf' : Instr.fill (fun i => some (i * sz, sz)) ((Array.range (rows.length * sz)).map (fun i => (#[] : Array Value)[i % (#[] : Array Value).size]!)) (parts.map fun (i, x) => (i, a.eval x)).toList = some cells' := by
            simpa using hf
          simp only [execOp, ho, Instr.buildSlice, Sem.run_bind, run_underlying hu, Result.andThen_ok, sizeOf, typeInfo, program, Sem.run, hii, his, Sem.run_pure]
          rw [if_neg hsm']
          simp only [Sem.run_bind, Sem.run_pure, Result.andThen_ok, h0, if_true]
          rw [h0] at hf'
          simp only [hf', newRow, Sem.run_bind, Sem.run_pure, Result.andThen_ok, run_newObj_alloc]
        · refine ⟨(Array.range (rows.length * sz)).map (fun i => z.cells[i % z.cells.size]!), by simp, fun cells' hf => ?_⟩
          have hf' : Instr.fill (fun i => some (i * sz, sz)) ((Array.range (rows.length * sz)).map (fun i => z.cells[i % z.cells.size]!)) (parts.map fun (i, x) => (i, a.eval x)).toList = some cells' := by
            simpa using hf
          simp only [execOp, ho, Instr.buildSlice, Sem.run_bind, run_underlying hu, Result.andThen_ok, sizeOf, typeInfo, program, Sem.run, hii, his, Sem.run_pure]
          rw [if_neg hsm']
          rw [if_neg h0]
          simp only [Sem.run_bind, Sem.run_pure, Result.andThen_ok, zeroValue, typeInfo, program, Sem.run, hii, hz, hf', newRow, run_newObj_alloc]
      obtain ⟨cells0, hc0, hrun⟩ := hzero
      obtain ⟨g0, cells', g1, g2, _, g4⟩ := rowsOf_spec (E := E) (M := M) hpos _ (parts.toList.map fun (i, x) => (i, a.eval x)) cells0 0 rows hrows (by simp)
        (fun i p q hp hq => by
          simp only [List.getElem?_map] at hp hq
          cases hx : parts.toList[i]? with
          | none => rw [hx] at hp; cases hp
          | some y =>
            rw [hx] at hp hq; simp at hp hq; subst hp; subst hq
            exact ⟨rfl, hs.ev y.2⟩) (by simpa using hc0)
      refine wp_value (hrun cells' g1) ?_
      have hsize : cells'.size = rows.length * sz := by omega
      have hnew : ∀ (k : Nat), M w.heap.size k = none := by
        intro k
        cases hm : M w.heap.size k with
        | none => rfl
        | some v => have := hs.cell_lt hm; omega
      by_cases hdec : ∃ d, o.dst = some d ∧ nm d ≠ d
      · obtain ⟨d, hdst, hnd⟩ := hdec
        rw [hdst] at hv
        simp only [if_neg hnd] at hv
        obtain ⟨hnw, hk⟩ := hv
        have hn := hnw (nm d) (by simp)
        have hmx : rows.length ≤ maxLen := by
          have : rows.length ≤ rows.length * sz := Nat.le_mul_of_pos_right _ hpos
          have : (16777216 : Nat) ≤ maxLen := by decide
          omega
        have h1 := hs.own_new (E' := fun m => if m = nm d then .slice (some ⟨w.heap.size, 0, none⟩) rows.length rows.length else E m) (d := nm d) (o' := .vec e sz rows) (World.grownBy_alloc w (.cells cells' e) none)
          (fun m hm => by simp [hm]) hn.1 hn.2 (fun b hb => by simp [blockOf] at hb; omega)
          ⟨cells'.toList, ⟨by simp [hsize], .inr ⟨w.heap.size, rows.length, cells', by simp, Nat.zero_le _, heap_alloc_new w _, Nat.le_refl _, hmx, hsize, by rw [List.take_of_length_le]; simp [hsize]⟩⟩, g0,
            (fun i j r c x hr hx hc => by
              obtain ⟨c', hc', hrep⟩ := g4 i j r x hr hx
              rw [Nat.zero_add] at hc'
              have : cells'[i * sz + j]? = some c := by simpa using hc
              rw [hc'] at this
              cases this; exact hrep), fun b hb k => by simp [blockOf] at hb; subst hb; exact hnew k⟩
        have h2 := h1.put o.dst hd (HRep.vh (nm d) rows.length rows.length rows.length (some ⟨w.heap.size, 0, none⟩) (by simp) (Nat.le_refl _))
        rw [hdst] at h2
        exact hK _ _ _ _ _ hk (by rw [hdst]; exact h2.weaken (fun t x hx => .inl hx) (fun m p hm => hm))
      have hv : (∀ d ∈ ({ val := .d (.sl sz rows) } : Eff).new, S.fresh d = true ∧ d < given) ∧ k { val := .d (.sl sz rows) } := by
        split at hv
        · rename_i d hdst
          by_cases hnd : nm d = d
          · rw [if_pos hnd] at hv; exact hv
          · exact (hdec ⟨d, hdst, hnd⟩).elim
        · exact hv
      have hle : Mem.le M (fun b k => if b = w.heap.size then cells'[k]? else M b k) := by
        intro b k v hv
        by_cases hb : b = w.heap.size
        · subst hb; rw [hnew] at hv; cases hv
        · simp [hb, hv]
      have h1 : Sim C E (fun b k => if b = w.heap.size then cells'[k]? else M b k) S a (w.alloc (.cells cells' e)) := by
        refine hs.ro_new (World.grownBy_alloc w _ none) hle (fun b k v hv => ?_) (fun b k v hv hb => ?_)
        · by_cases hb : b = w.heap.size
          · right; omega
          · left; simpa [hb] using hv
        · by_cases hb' : b = w.heap.size
          · subst hb'
            simp at hv
            rw [cell_of_row _ w.heap.size k cells' e (0, 0) (heap_alloc_new w _)]
            exact hv
          · simp only [hb', if_false] at hv
            have := hs.cell_lt hv; omega
      refine hK _ _ _ _ _ hv.2 (h1.app_val hd rfl (.d ?_))
      refine .sl w.heap.size 0 rows.length rows.length sz rows (fun k => cells'.getD k undef) rfl (Nat.le_refl _) g0 (fun k hk => ?_) fun i j r x hr hx => ?_
      · simp only [Nat.zero_add, if_true]
        rw [Array.getElem?_eq_getElem (by omega)]
        simp [show k < cells'.size by omega]
      · obtain ⟨c, hc, hrep⟩ := g4 i j r x hr hx
        rw [Nat.zero_add] at hc
        have : cells'.getD (i * sz + j) undef = c := by simp [hc]
        rw [this]
        exact hrep.mono hle
    · exact hv.elim
  · exact hv.elim

end
end Go.Awp
