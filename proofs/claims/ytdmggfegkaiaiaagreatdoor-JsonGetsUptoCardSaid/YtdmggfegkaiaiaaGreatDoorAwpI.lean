/-
  The logic of abstract states: single operations are sound, sixth part: parts of values, slices of slices, calls.
-/
import Derived.Test.YtdmggfegkaiaiaaGreatDoorAwpH
namespace Go.Awp
set_option linter.unusedSectionVars false
variable [Inhabited GMem]

theorem run_part {P : Program} {w : World} {t : TypeId} {ag : Bool} {sz : Nat} (ht : tyLoad P t = some (ag, sz)) {E : Env} {M : Mem} {cs : Array Value} {l : List H} {off : Nat} {h : H}
    (hl : cs.size = l.length) (hr : ∀ (i : Nat) (c : Value) (x : H), cs[i]? = some c → l[i]? = some x → HRep E M c x) (hh : loadC ag sz (l.drop off) = some h) :
    ∃ v, (part t cs off).run P w = .ok v w ∧ HRep E M v h := by
  unfold tyLoad at ht
  split at ht
  · rename_i d i hd hi
    simp only [Option.some.injEq, Prod.mk.injEq] at ht
    obtain ⟨h1, h2⟩ := ht
    have hagg : (isAgg t).run P w = .ok ag w := by
      unfold isAgg
      rw [Sem.run_bind, run_underlying hd w]
      subst h1
      cases d <;> simp [isAggD]
    cases ag with
    | true =>
      simp only [loadC] at hh
      split at hh
      · rename_i hle
        simp at hh; subst hh
        simp only [List.length_drop] at hle
        refine ⟨.agg (cs.extract off (off + sz)), by simp [part, hagg, sizeOf, typeInfo, hi, h2], ?_⟩
        refine HRep.mk_agg (by simp; omega) fun j c x hc hx => ?_
        rw [List.getElem?_take] at hx
        split at hx
        · rw [List.getElem?_drop] at hx
          rw [Array.getElem?_extract] at hc
          split at hc
          · exact hr _ c x hc hx
          · cases hc
        · cases hx
      · cases hh
    | false =>
      simp only [loadC] at hh
      have hx : l[off]? = some h := by
        rw [List.head?_drop] at hh; exact hh
      have hlt : off < cs.size := by have := (List.getElem?_eq_some_iff.1 hx).1; omega
      exact ⟨cs[off], by simp [part, hagg, hlt], hr off _ h (Array.getElem?_eq_getElem hlt) hx⟩
  · cases ht

theorem DRep.cellsH {E : Env} {M : Mem} {cs : Array Value} {ds : List D} (h : ∀ (i : Nat) (c : Value) (x : D), cs[i]? = some c → ds[i]? = some x → DRep M c x) :
    ∀ (i : Nat) (c : Value) (x : H), cs[i]? = some c → (ds.map H.d)[i]? = some x → HRep E M c x := by
  intro i c x hc hx
  simp only [List.getElem?_map] at hx
  cases hz : ds[i]? with
  | none => rw [hz] at hx; cases hx
  | some z => rw [hz] at hx; simp at hx; subst hx; exact .d (h i c z hc hz)

theorem bnd_spec {C : Ctx} {E : Env} {M : Mem} {S : AState} {a : Act} {w : World} (hs : Sim C E M S a w) {lo : Option Operand} {d l : Int} (h : bnd (Go.Awp.ev S) lo d = some l) :
    (lo.map a.eval = none ∧ l = d) ∨ ∃ k, lo.map a.eval = some (.int k l) := by
  cases lo with
  | none => simp [bnd] at h; exact .inl ⟨rfl, h.symm⟩
  | some x =>
    right
    simp only [bnd] at h
    split at h
    · rename_i k n he
      simp at h; subst h
      have hx := hs.ev x
      rw [he] at hx
      exact ⟨k, by simp [hx.dv]⟩
    · cases h

theorem run_bounds {P : Program} {w : World} (isSlice : Bool) {len cap : Nat} {lo hi : Option Value} {l h : Int} (hlo : (lo = none ∧ l = 0) ∨ ∃ k, lo = some (.int k l))
    (hhi : (hi = none ∧ h = len) ∨ ∃ k, hi = some (.int k h)) (h0 : 0 ≤ l) (h1 : l ≤ h) (h2 : h ≤ cap) :
    (Instr.sliceBounds isSlice len cap lo hi none).run P w = .ok (l.toNat, h.toNat, cap) w := by
  have hb : ∀ (k : IntKind) (n : Int) (y : Nat) (code : BoundsCode), 0 ≤ n → n ≤ y → (Instr.sliceBound (.int k n) y code).run P w = .ok n.toNat w := by
    intro k n y code a b
    simp [Instr.sliceBound, asIntOf, a, b]
  rcases hlo with ⟨rfl, rfl⟩ | ⟨k, rfl⟩ <;> rcases hhi with ⟨rfl, rfl⟩ | ⟨k', rfl⟩
  · simp [Instr.sliceBounds]
  · simp [Instr.sliceBounds, hb k' h cap _ (by omega) h2]
  · simp [Instr.sliceBounds, hb k l _ _ h0 h1]
  · simp [Instr.sliceBounds, hb k' h cap _ (by omega) h2, hb k l h.toNat _ h0 (by omega)]

section
variable {C : Ctx} {nm : Nat → Nat} {o : Oper} (hd : ∀ d, o.dst = some d → d < C.N)
include hd

theorem ok_field {s : TypeId} {x : Operand} {f : Nat} (ho : o.op = .field s x f) : OpOk C nm o := by
  intro E M S a w K Q k hs hv hK
  simp only [AVal, ho] at hv
  have hx := hs.ev x
  split at hv
  · rename_i off ag sz hf
    have key : ∀ (cs : Array Value) (v : Value), a.eval x = .agg cs → (∀ fd : Go.Field, fd.offset = off → tyLoad C.P fd.type = some (ag, sz) → (part fd.type cs off).run C.P w = .ok v w) → (execOp a.eval o).run C.P w = .ok (.value v) w := by
      intro cs v h1 h2
      unfold fieldTy at hf
      split at hf
      · rename_i fs hfs
        split at hf
        · rename_i fd hfd
          split at hf
          · rename_i g z hg
            simp at hf; obtain ⟨h3, h4, h5⟩ := hf
            have := h2 fd h3 (by rw [hg, h4, h5])
            simp [execOp, ho, h1, Instr.field, run_underlying hfs, hfd, asAgg, h3, this]
          · cases hf
        · cases hf
      · cases hf
    have hty : ∃ fd : Go.Field, fd.offset = off ∧ tyLoad C.P fd.type = some (ag, sz) := by
      unfold fieldTy at hf
      split at hf
      · split at hf
        · rename_i fd hfd
          split at hf
          · rename_i g z hg
            simp at hf; obtain ⟨h3, h4, h5⟩ := hf
            exact ⟨fd, h3, by rw [hg, h4, h5]⟩
          · cases hf
        · cases hf
      · cases hf
    -- the value of the part does not depend on which field has this type
    have same : ∀ (cs : Array Value) (l : List H) (h : H), cs.size = l.length → (∀ (i : Nat) (c : Value) (x : H), cs[i]? = some c → l[i]? = some x → HRep E M c x) → loadC ag sz (l.drop off) = some h →
        ∃ v, HRep E M v h ∧ ∀ fd : Go.Field, fd.offset = off → tyLoad C.P fd.type = some (ag, sz) → (part fd.type cs off).run C.P w = .ok v w := by
      intro cs l h h1 h2 h3
      cases ag with
      | true =>
        refine ⟨.agg (cs.extract off (off + sz)), ?_, fun fd _ ht => ?_⟩
        · obtain ⟨fd, _, ht⟩ := hty
          obtain ⟨v, hv1, hv2⟩ := run_part (w := w) ht h1 h2 h3
          unfold tyLoad at ht
          split at ht
          · rename_i d i hdd hi
            simp only [Option.some.injEq, Prod.mk.injEq] at ht
            have hagg : (isAgg fd.type).run C.P w = .ok true w := by
              unfold isAgg
              rw [Sem.run_bind, run_underlying hdd w]
              have := ht.1
              cases d <;> simp [isAggD] at this ⊢
            simp [part, hagg, sizeOf, typeInfo, hi, ht.2] at hv1
            rw [← hv1] at hv2; exact hv2
          · cases ht
        · unfold tyLoad at ht
          split at ht
          · rename_i d i hdd hi
            simp only [Option.some.injEq, Prod.mk.injEq] at ht
            have hagg : (isAgg fd.type).run C.P w = .ok true w := by
              unfold isAgg
              rw [Sem.run_bind, run_underlying hdd w]
              have := ht.1
              cases d <;> simp [isAggD] at this ⊢
            simp [part, hagg, sizeOf, typeInfo, hi, ht.2]
          · cases ht
      | false =>
        simp only [loadC] at h3
        rw [List.head?_drop] at h3
        have hlt : off < cs.size := by have := (List.getElem?_eq_some_iff.1 h3).1; omega
        refine ⟨cs[off], h2 off _ h (Array.getElem?_eq_getElem hlt) h3, fun fd _ ht => ?_⟩
        unfold tyLoad at ht
        split at ht
        · rename_i d i hdd hi
          simp only [Option.some.injEq, Prod.mk.injEq] at ht
          have hagg : (isAgg fd.type).run C.P w = .ok false w := by
            unfold isAgg
            rw [Sem.run_bind, run_underlying hdd w]
            have := ht.1
            cases d <;> simp [isAggD] at this ⊢
          simp [part, hagg, hlt]
        · cases ht
    split at hv
    · rename_i ds he
      rw [he] at hx
      obtain ⟨cs, h1, h2, h3⟩ := hx.dagg
      split at hv
      · rename_i y hy
        obtain ⟨v, hv1, hv2⟩ := same cs (ds.map H.d) (.d y) (by simpa using h2) (DRep.cellsH h3) (by rw [← List.map_drop]; exact loadC_map hy)
        exact wp_value (key cs v h1 hv2) (hK _ _ _ _ _ hv.2 (hs.app_val hd rfl hv1))
      · exact hv.elim
    · rename_i cl he
      rw [he] at hx
      obtain ⟨cs, h1, h2, h3⟩ := hx.hagg
      split at hv
      · rename_i y hy
        obtain ⟨v, hv1, hv2⟩ := same cs cl y h2 h3 hy
        exact wp_value (key cs v h1 hv2) (hK _ _ _ _ _ hv.2 (hs.app_val hd rfl hv1))
      · exact hv.elim
    · exact hv.elim
  · exact hv.elim

theorem ok_slice {t : TypeId} {x : Operand} {lo hi mx : Option Operand} (ho : o.op = .slice t x lo hi mx) : OpOk C nm o := by
  intro E M S a w K Q k hs hv hK
  simp only [AVal, ho] at hv
  have hx := hs.ev x
  split at hv
  · exact hv.elim
  · split at hv
    · rename_i s hu he
      rw [he] at hx; have hx := hx.dv
      split at hv
      · rename_i l h hl hh
        obtain ⟨⟨h0, h1, h2⟩, hv⟩ := hv
        have hr := run_bounds (P := C.P) (w := w) false (len := s.size) (cap := s.size) (bnd_spec hs hl) (bnd_spec hs hh) h0 h1 h2
        refine wp_value (v := .string (s.extract l.toNat h.toNat)) (w' := w) ?_ (hK _ _ _ _ _ hv.2 (hs.app_val hd rfl (.d (.v _))))
        simp [execOp, ho, hx, Instr.sliceAt, Instr.slice, run_underlying hu, hr]
      · exact hv.elim
    · rename_i e0 sz rows hu he
      rw [he] at hx
      split at hv
      · rename_i e sz' by_ l h ht hl hh
        obtain ⟨⟨rfl, h0, h1, h2⟩, hv⟩ := hv
        obtain ⟨ii, z, hu', hii, hz, hzs, his, hib, hpos⟩ := elemTy_spec ht
        rw [hu] at hu'; simp at hu'; subst hu'
        have hrl : ((rows.take h.toNat).drop l.toNat).length = h.toNat - l.toNat := by simp; omega
        have run : ∀ (ad : Option Addr) (cap : Nat), a.eval x = .slice ad rows.length cap → rows.length ≤ cap →
            (execOp a.eval o).run C.P w = .ok (.value (.slice (if cap = l.toNat then ad else ad.map (·.add (l.toNat * sz'))) (h.toNat - l.toNat) (cap - l.toNat))) w := by
          intro ad cap hq hcap
          have hr := run_bounds (P := C.P) (w := w) true (len := rows.length) (cap := cap) (bnd_spec hs hl) (bnd_spec hs hh) h0 h1 (by omega)
          simp [execOp, ho, hq, Instr.sliceAt, Instr.slice, run_underlying hu, hr, sizeOf, typeInfo, hii, his]
        generalize hq : a.eval x = q at hx
        cases hx with
        | d hx => cases hx with
          | slnil =>
            refine wp_value (run none 0 hq (by simp)) (hK _ _ _ _ _ hv.2 (hs.app_val hd rfl (.d ?_)))
            have hh0 : h.toNat = 0 := by simp at h2; omega
            simp [hh0]
            exact .slnil _
          | slmt ad cap =>
            refine wp_value (run (some ad) cap hq (by simp)) (hK _ _ _ _ _ hv.2 (hs.app_val hd rfl (.d ?_)))
            have hh0 : h.toNat = 0 := by simp at h2; omega
            simp [hh0]
            split <;> exact .slmt _ _ _
          | sl b off len cap sz rows c hlen hcap hsz hm hc =>
            subst hlen
            refine wp_value (run _ cap hq hcap) (hK _ _ _ _ _ hv.2 (hs.app_val hd rfl (.d ?_)))
            by_cases hlc : cap = l.toNat
            · rw [if_pos hlc]
              exact .sl b off _ _ sz' _ (fun _ => undef) hrl.symm (by omega) (fun r hr => hsz r (List.mem_of_mem_take (List.mem_of_mem_drop hr)))
                (fun k hk => by have : h.toNat - l.toNat = 0 := by omega
                                rw [this] at hk; omega)
                (fun i j r x hr _ => by
                  have := (List.getElem?_eq_some_iff.1 hr).1; omega)
            · rw [if_neg hlc]
              simp only [Option.map_some, addr_add]
              refine .sl b _ _ _ sz' _ (fun k => c (l.toNat * sz' + k)) hrl.symm (by omega) (fun r hr => hsz r (List.mem_of_mem_take (List.mem_of_mem_drop hr))) (fun k hk => ?_) (fun i j r x hr hx => ?_)
              · rw [Nat.add_assoc]
                refine hm _ ?_
                have e1 : (h.toNat - l.toNat) * sz' + l.toNat * sz' ≤ rows.length * sz' := by rw [← Nat.add_mul]; exact Nat.mul_le_mul_right _ (by omega)
                omega
              · rw [List.getElem?_drop, List.getElem?_take] at hr
                split at hr
                · have := hc _ j r x hr hx
                  rw [Nat.add_mul] at this
                  rw [← Nat.add_assoc]; exact this
                · cases hr
      · exact hv.elim
    · rename_i e0 m len hu he
      rw [he] at hx
      split at hv
      · rename_i e' s' rows q' l h hc ht hl hh
        obtain ⟨⟨rfl, h0, h1⟩, hv⟩ := hv
        obtain ⟨e, sz', by_⟩ := q'
        obtain ⟨ii, z, hu', hii, hz, hzs, his, hib, hpos⟩ := elemTy_spec ht
        rw [hu] at hu'; simp at hu'; subst hu'
        generalize hq : a.eval x = q at hx
        cases hx with
        | vh m len ll c ad hE hl' =>
          obtain ⟨xs, ho1, ho2, ho3, ho4⟩ := hs.own m _ hc
          have hcap : len ≤ c := by
            rcases ho1.2 with ⟨hn, hz⟩ | ⟨g, cap, cur, hv', _, _, hnc, _⟩
            · rw [hE] at hn; simp at hn; omega
            · rw [hE] at hv'; simp at hv'; omega
          have hr := run_bounds (P := C.P) (w := w) true (len := len) (cap := c) (bnd_spec hs hl) (bnd_spec hs hh) (Int.le_refl 0) h0 (by omega)
          refine wp_value (v := .slice ad h.toNat c) (w' := w) ?_ (hK _ _ _ _ _ hv.2 (hs.app_val hd rfl (.vh m _ ll c ad hE (by omega))))
          simp [execOp, ho, hq, Instr.sliceAt, Instr.slice, run_underlying hu, hr, sizeOf, typeInfo, hii]
          cases ad with
          | none => simp
          | some ad => intro _; simp [Addr.add]
      · exact hv.elim
    · exact hv.elim

end
end Go.Awp
