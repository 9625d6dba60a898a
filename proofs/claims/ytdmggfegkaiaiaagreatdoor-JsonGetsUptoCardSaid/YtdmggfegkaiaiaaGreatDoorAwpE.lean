/-
  The logic of abstract states: single operations are sound, second part: memory.
-/
import Derived.Test.YtdmggfegkaiaiaaGreatDoorAwpD
import Derived.Laws.CopyRow
import Derived.Laws.OwnMore
namespace Go.Awp
set_option linter.unusedSectionVars false
variable [Inhabited GMem]

theorem allD_get : ∀ {l : List H} {ds : List D}, allD l = some ds → ds.length = l.length ∧ ∀ i : Nat, l[i]? = (ds[i]?).map H.d
  | [], ds, h => by simp [allD] at h; subst h; simp
  | .d x :: r, ds, h => by
    simp only [allD] at h
    split at h
    · rename_i l hl
      simp at h; subst h
      have ih := allD_get hl
      refine ⟨by simp [ih.1], fun i => ?_⟩
      cases i with
      | zero => simp
      | succ i => simpa using ih.2 i
    · cases h
  | .junk :: r, ds, h => by simp [allD] at h
  | .bp .. :: r, ds, h => by simp [allD] at h
  | .vh .. :: r, ds, h => by simp [allD] at h
  | .ep .. :: r, ds, h => by simp [allD] at h
  | .mp .. :: r, ds, h => by simp [allD] at h
  | .np .. :: r, ds, h => by simp [allD] at h
  | .sd .. :: r, ds, h => by simp [allD] at h
  | .agg .. :: r, ds, h => by simp [allD] at h
  | .tup .. :: r, ds, h => by simp [allD] at h
  | .fn .. :: r, ds, h => by simp [allD] at h

theorem HRep.mk_agg {E : Env} {M : Mem} {cs : Array Value} {l : List H} (hl : cs.size = l.length)
    (h : ∀ (i : Nat) (c : Value) (x : H), cs[i]? = some c → l[i]? = some x → HRep E M c x) : HRep E M (.agg cs) (mkAgg l) := by
  unfold mkAgg
  split
  · rename_i ds hds
    obtain ⟨h1, h2⟩ := allD_get hds
    refine .d (.agg cs ds (by omega) fun i c x hc hx => ?_)
    have := h i c (.d x) hc (by rw [h2, hx]; rfl)
    cases this with
    | d q => exact q
  · exact .agg cs l hl h

/-- The cells of a value, and those of what it stands for. -/
theorem HRep.cells {E : Env} {M : Mem} {v : Value} {x : H} (h : HRep E M v x) {l : List H} (hl : x.cells = some l) :
    v.cells.size = l.length ∧ ∀ (i : Nat) (c : Value) (y : H), v.cells[i]? = some c → l[i]? = some y → HRep E M c y := by
  have one : ∀ {v : Value} {y : H}, v.cells = #[v] → HRep E M v y → v.cells.size = [y].length ∧ ∀ (i : Nat) (c : Value) (z : H), v.cells[i]? = some c → [y][i]? = some z → HRep E M c z := by
    intro v y hv hy
    rw [hv]
    refine ⟨rfl, fun i c z hc hz => ?_⟩
    cases i with
    | zero => simp at hc hz; subst hc; subst hz; exact hy
    | succ i => simp at hz
  cases h with
  | d h =>
    cases h with
    | v x =>
      simp only [H.cells] at hl
      split at hl
      · rename_i hc
        simp at hl; subst hl
        exact one (by cases v <;> first | rfl | simp [isCell] at hc) (.d (.v v))
      · cases hl
    | agg cs ds hd h =>
      simp only [H.cells, Option.some.injEq] at hl
      subst hl
      refine ⟨by simpa [Value.cells] using hd, fun i c y hc hy => ?_⟩
      simp only [List.getElem?_map] at hy
      cases hx : ds[i]? with
      | none => rw [hx] at hy; cases hy
      | some x => rw [hx] at hy; simp at hy; subst hy; exact .d (h i c x hc hx)
    | slnil sz => simp only [H.cells, Option.some.injEq] at hl; subst hl; exact one rfl (.d (.slnil sz))
    | slmt a cap sz => simp only [H.cells, Option.some.injEq] at hl; subst hl; exact one rfl (.d (.slmt a cap sz))
    | sl b off len cap sz rows c h1 h2 h3 h4 h5 => simp only [H.cells, Option.some.injEq] at hl; subst hl; exact one rfl (.d (.sl b off len cap sz rows c h1 h2 h3 h4 h5))
    | rp b off cells c h1 h2 => simp only [H.cells, Option.some.injEq] at hl; subst hl; exact one rfl (.d (.rp b off cells c h1 h2))
    | ern => simp only [H.cells, Option.some.injEq] at hl; subst hl; exact one rfl (.d .ern)
    | ere t x => simp only [H.cells, Option.some.injEq] at hl; subst hl; exact one rfl (.d (.ere t x))
  | junk v => simp [H.cells] at hl
  | bp n off b h => simp only [H.cells, Option.some.injEq] at hl; subst hl; exact one rfl (.bp n off b h)
  | vh n len l c a h hl' => simp only [H.cells, Option.some.injEq] at hl; subst hl; exact one rfl (.vh n len l c a h hl')
  | ep n sz i off b l c h hi => simp only [H.cells, Option.some.injEq] at hl; subst hl; exact one rfl (.ep n sz i off b l c h hi)
  | mp n r h => simp only [H.cells, Option.some.injEq] at hl; subst hl; exact one rfl (.mp n r h)
  | np0 n => simp only [H.cells, Option.some.injEq] at hl; subst hl; exact one rfl (.np0 n)
  | np1 n b h => simp only [H.cells, Option.some.injEq] at hl; subst hl; exact one rfl (.np1 n b h)
  | sd n p h => simp only [H.cells, Option.some.injEq] at hl; subst hl; exact one rfl (.sd n p h)
  | agg cs l' h1 h2 => simp only [H.cells, Option.some.injEq] at hl; subst hl; exact ⟨h1, h2⟩
  | tup cs l' h1 h2 => simp [H.cells] at hl
  | fn f a b l1 l2 h1 h2 h3 h4 => simp only [H.cells, Option.some.injEq] at hl; subst hl; exact one rfl (.fn f a b l1 l2 h1 h2 h3 h4)

theorem HRep.one {E : Env} {M : Mem} {v : Value} {x : H} (h : HRep E M v x) (hx : x.one = true) : v.oneCell' = true := by
  cases h with
  | d h => cases h with
    | v x => exact hx
    | agg => simp [H.one, D.one] at hx
    | _ => rfl
  | junk => simp [H.one] at hx
  | agg => simp [H.one] at hx
  | tup => simp [H.one] at hx
  | _ => rfl

/-- A row of cells is loaded from memory. -/
theorem run_load {P : Program} {w : World} {t : TypeId} {ag : Bool} {sz : Nat} (ht : tyLoad P t = some (ag, sz)) {b off : Nat} {cs : List Value}
    (hc : ∀ (j : Nat) v, cs[j]? = some v → w.cell? ⟨b, off + j, none⟩ = some v) :
    (ag = true → cs.length = sz → (loadVar t ⟨b, off, none⟩).run P w = .ok (.agg cs.toArray) w) ∧
    (ag = false → ∀ v, cs[0]? = some v → (loadVar t ⟨b, off, none⟩).run P w = .ok v w) := by
  unfold tyLoad at ht
  split at ht
  · rename_i d i hd hi
    simp only [Option.some.injEq, Prod.mk.injEq] at ht
    obtain ⟨h1, h2⟩ := ht
    have hagg : (isAgg t).run P w = .ok ag w := by
      unfold isAgg
      rw [Sem.run_bind, run_underlying hd w]
      subst h1
      cases d <;> simp [isAggD]
    refine ⟨fun ha hl => ?_, fun ha v hv => ?_⟩
    · subst ha
      have hl' := run_loadCells_list (P := P) w ⟨b, off, none⟩ cs (fun j v hv => by rw [addr_add]; exact hc j v hv)
      rw [hl] at hl'
      simp [loadVar, Sem.run_bind, hagg, sizeOf, typeInfo, hi, h2, hl']
    · subst ha
      have := hc 0 v hv
      simp only [Nat.add_zero] at this
      simp [loadVar, Sem.run_bind, hagg, load, Sem.run, this]
  · cases ht

theorem exec_load {P : Program} {w : World} {o : Oper} {a : Act} {t : TypeId} {x : Operand} {ad : Addr} (ho : o.op = .load t x) (hx : a.eval x = .pointer (some ad)) {v : Value}
    (h : (loadVar t ad).run P w = .ok v w) : (execOp a.eval o).run P w = .ok (.value v) w := by
  simp [execOp, ho, hx, Instr.loadAt, Instr.sureAddr, h]

/-- Loading out of a row of which each cell stands for something. -/
theorem load_rows {E : Env} {M : Mem} {P : Program} {w : World} {t : TypeId} {ag : Bool} {sz : Nat} (ht : tyLoad P t = some (ag, sz)) {b off : Nat} {cs : List Value} {l : List H} {h : H}
    (hl : cs.length = l.length) (hc : ∀ (j : Nat) v, cs[j]? = some v → w.cell? ⟨b, off + j, none⟩ = some v)
    (hr : ∀ (i : Nat) (c : Value) (x : H), cs[i]? = some c → l[i]? = some x → HRep E M c x) (hh : loadC ag sz l = some h) :
    ∃ v, (loadVar t ⟨b, off, none⟩).run P w = .ok v w ∧ HRep E M v h := by
  cases ag with
  | true =>
    simp only [loadC] at hh
    split at hh
    · rename_i hle
      simp at hh; subst hh
      refine ⟨.agg (cs.take sz).toArray, (run_load ht (fun j v hv => ?_)).1 rfl (by simp; omega), ?_⟩
      · rw [List.getElem?_take] at hv
        split at hv
        · exact hc j v hv
        · cases hv
      · refine HRep.mk_agg (by simp; omega) fun i c x h1 h2 => ?_
        rw [List.getElem?_take] at h2
        simp [List.getElem?_take] at h1
        split at h2
        · exact hr i c x h1.2 h2
        · cases h2
    · cases hh
  | false =>
    simp only [loadC] at hh
    cases l with
    | nil => simp at hh
    | cons y r =>
      simp at hh; subst hh
      cases cs with
      | nil => simp at hl
      | cons c cr => exact ⟨c, (run_load ht hc).2 rfl c rfl, hr 0 c y rfl rfl⟩

theorem loadC_map {ag : Bool} {sz : Nat} {l : List D} {x : D} (h : loadD ag sz l = some x) : loadC ag sz (l.map H.d) = some (.d x) := by
  have key : ∀ m : List D, allD (m.map H.d) = some m := by
    intro m
    induction m with
    | nil => rfl
    | cons y r ih => simp [allD, ih]
  cases ag with
  | true =>
    simp only [loadD] at h
    split at h
    · rename_i hle
      simp at h; subst h
      simp only [loadC, List.length_map]
      rw [if_pos hle, ← List.map_take, mkAgg, key]
    · cases h
  | false =>
    simp only [loadD] at h
    cases l with
    | nil => simp at h
    | cons y r => simp at h; subst h; rfl

theorem OwnOk.box_cell {E : Env} {M : Mem} {w : World} {n : Nat} {o : Option TypeId} {cells : List H} (h : OwnOk E M w n (.box o cells)) {b : Nat} (hE : E n = .pointer (some ⟨b, 0, none⟩)) :
    ∃ (cs : Array Value) (ty : TypeId), w.heap[b]? = some (.cells cs ty (0, 0)) ∧ cs.size = cells.length ∧
      (∀ (i : Nat) (c : Value) (x : H), cs[i]? = some c → cells[i]? = some x → HRep E M c x) ∧ (∀ (j : Nat) v, cs[j]? = some v → w.cell? ⟨b, j, none⟩ = some v) ∧ ∀ t, o = some t → ty = t := by
  obtain ⟨b', cs, ty, h1, h2, h3, h4, h5, h6⟩ := h
  rw [hE] at h1
  simp at h1; subst h1
  exact ⟨cs, ty, h2, h3, h4, fun j v hv => by rw [cell_of_row w b j cs ty (0, 0) h2]; exact hv, h6⟩

section
variable {C : Ctx} {nm : Nat → Nat} {o : Oper} (hd : ∀ d, o.dst = some d → d < C.N)
include hd

theorem Sim.app_acc {E : Env} {M : Mem} {S : AState} {a : Act} {w : World} (h : Sim C E M S a w) {v : Value} {x : H} {l : List Nat} (hx : HRep E M v x) :
    Sim C E M (S.app o.dst { val := x, acc := l }) (a.put o.dst v) w := h.app_val hd rfl hx

theorem ok_load {t : TypeId} {x : Operand} (ho : o.op = .load t x) : OpOk C nm o := by
  intro E M S a w K Q k hs hv hK
  simp only [AVal, ho] at hv
  have hx := hs.ev x
  split at hv
  · rename_i ag sz ht
    split at hv
    · rename_i n off he
      rw [he] at hx
      split at hv
      · rename_i oty cells hc
        split at hv
        · rename_i hh hl
          generalize hq : a.eval x = q at hx
          cases hx with
          | bp n off b hE =>
            obtain ⟨cs, ty, h1, h2, h3, h4, _⟩ := (hs.own n _ hc).box_cell hE
            obtain ⟨v, hr, hrep⟩ := load_rows (cs := cs.toList.drop off) (w := w) (b := b) (off := off) ht (by simp [h2]) (fun j v hv => h4 _ v (by simpa using hv)) (fun i c y hc hy => h3 (off + i) c y (by simpa using hc) (by simpa using hy)) hl
            exact wp_value (exec_load ho hq hr) (hK _ _ _ _ _ hv.2 (hs.app_acc hd hrep))
        · exact hv.elim
      · exact hv.elim
    · rename_i n s i off he
      rw [he] at hx
      split at hv
      · rename_i e s' rows hc
        split at hv
        · rename_i r hr
          split at hv
          · rename_i y hy
            obtain ⟨rfl, hv⟩ := hv
            generalize hq : a.eval x = q at hx
            cases hx with
            | ep n sz i off b l c hE hi =>
              obtain ⟨xs, h1, h2, h3, h4⟩ := hs.own n _ hc
              have hlr := h2 r (List.mem_of_getElem? hr)
              have hir : i < rows.length := (List.getElem?_eq_some_iff.1 hr).1
              rw [hE] at h1
              have hlc : l = rows.length := by
                rcases h1.2 with ⟨hn, _⟩ | ⟨g, cap, cur, hv, _⟩
                · cases hn
                · simp at hv; exact hv.2.1
              subst hlc
              have hmul : (i + 1) * s ≤ rows.length * s := Nat.mul_le_mul_right _ hir
              rw [Nat.succ_mul] at hmul
              have hxl := h1.1
              obtain ⟨v, hrun, hrep⟩ := load_rows (E := E) (M := M) (cs := ((xs.drop (i * s)).take s).drop off) (l := (r.drop off).map H.d) (w := w) (b := b) (off := i * s + off) ht (by simp [hlr, hxl]; omega)
                (fun j v hv => by
                  rw [List.getElem?_drop, List.getElem?_take] at hv
                  split at hv
                  · rw [h1.cellAt _ (by omega)]
                    rw [List.getElem?_drop] at hv
                    rw [Nat.add_assoc]; exact hv
                  · cases hv)
                (fun j c z hc hz => by
                  simp only [List.getElem?_map, List.getElem?_drop] at hz
                  cases hz' : r[off + j]? with
                  | none => rw [hz'] at hz; cases hz
                  | some z' =>
                    rw [hz'] at hz; simp at hz; subst hz
                    rw [List.getElem?_drop, List.getElem?_take] at hc
                    split at hc
                    · rw [List.getElem?_drop] at hc
                      exact .d (h3 i (off + j) r c z' hr hz' hc)
                    · cases hc) (loadC_map hy)
              exact wp_value (exec_load ho hq hrun) (hK _ _ _ _ _ hv.2 (hs.app_acc hd hrep))
          · exact hv.elim
        · exact hv.elim
      · exact hv.elim
    · rename_i cells he
      rw [he] at hx
      split at hv
      · rename_i y hy
        generalize hq : a.eval x = q at hx
        cases hx with
        | d hx => cases hx with
          | rp b off cells c hm h =>
            obtain ⟨v, hrun, hrep⟩ := load_rows (E := E) (M := M) (cs := (List.range cells.length).map c) (l := cells.map H.d) (w := w) (b := b) (off := off) ht (by simp)
              (fun j v hv => by
                simp only [List.getElem?_map] at hv
                by_cases hj : j < cells.length
                · rw [List.getElem?_range hj] at hv
                  simp at hv; subst hv
                  exact hs.mem _ _ _ (hm j hj)
                · rw [List.getElem?_eq_none (by simp; omega)] at hv; cases hv)
              (fun j v z hv hz => by
                simp only [List.getElem?_map] at hv hz
                cases hz' : cells[j]? with
                | none => rw [hz'] at hz; cases hz
                | some z' =>
                  have hj : j < cells.length := (List.getElem?_eq_some_iff.1 hz').1
                  rw [hz'] at hz; simp at hz; subst hz
                  rw [List.getElem?_range hj] at hv
                  simp at hv; subst hv
                  exact .d (h j z' hz')) (loadC_map hy)
            exact wp_value (exec_load ho hq hrun) (hK _ _ _ _ _ hv.2 (hs.app_acc hd hrep))
      · exact hv.elim
    · exact hv.elim
  · exact hv.elim

end
end Go.Awp
