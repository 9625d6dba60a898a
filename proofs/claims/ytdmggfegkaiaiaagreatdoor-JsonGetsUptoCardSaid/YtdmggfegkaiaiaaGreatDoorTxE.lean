/-
  Typed states: what an operation does to a typed state is what it does to what the state stands for; third part: one by one.
-/
import Derived.Test.YtdmggfegkaiaiaaGreatDoorTxD
namespace Go.Tx
open Go.Awp
set_option linter.unusedSectionVars false
variable [Inhabited GMem]
set_option linter.unusedSimpArgs false

section
variable {V : View} {P : Program} {nm : Nat → Nat} {call : Caller V} {A : Type} {S : TS V.N} {k : TE V.N → Option A} {r : A} {o : Oper} {ex : Bool}

theorem mkAgg_to (l : List H) : H.le (mkAgg l) (.agg l) := fun E M v h => by
  unfold mkAgg at h
  split at h
  · rename_i ds hds
    obtain ⟨cs, rfl, h1, h2⟩ := h.dagg
    obtain ⟨g1, g2⟩ := allD_get hds
    refine .agg cs l (by omega) fun i c x hc hx => ?_
    rw [g2] at hx
    cases hd : ds[i]? with
    | none => rw [hd] at hx; cases hx
    | some d => rw [hd] at hx; simp at hx; subst hx; exact .d (h2 i c d hc hd)
  · exact h

theorem mkAgg_of (l : List H) : H.le (.agg l) (mkAgg l) := fun E M v h => by
  obtain ⟨cs, rfl, h1, h2⟩ := h.hagg
  exact HRep.mk_agg h1 h2

theorem agg_le {l l' : List H} (hl : l.length = l'.length) (h : ∀ (i : Nat) (x : H), l'[i]? = some x → ∃ y, l[i]? = some y ∧ H.le y x) : H.le (.agg l) (.agg l') := fun E M v hv => by
  obtain ⟨cs, rfl, h1, h2⟩ := hv.hagg
  refine .agg cs l' (by omega) fun i c x hc hx => ?_
  obtain ⟨y, hy, hle⟩ := h i x hx
  exact hle E M c (h2 i c y hc hy)

theorem tup_le {l l' : List H} (hl : l.length = l'.length) (h : ∀ (i : Nat) (x : H), l'[i]? = some x → ∃ y, l[i]? = some y ∧ H.le y x) : H.le (.tup l) (.tup l') := fun E M v hv => by
  obtain ⟨cs, rfl, h1, h2⟩ := hv.htup
  refine .tup cs l' (by omega) fun i c x hc hx => ?_
  obtain ⟨y, hy, hle⟩ := h i x hx
  exact hle E M c (h2 i c y hc hy)

theorem OLe.vec {te : TypeId} {sz : Nat} {a b : List (List D)} (h : D.Rows a b) : OLe (.vec te sz a) (.vec te sz b) := by
  rintro E M w n ⟨xs, h1, h2, h3, h4⟩
  refine ⟨xs, by rw [← h.len]; exact h1, fun r hr => ?_, fun i j r c x hr hx hc => ?_, h4⟩
  · obtain ⟨i, hi, rfl⟩ := List.getElem_of_mem hr
    obtain ⟨y, hy, hyr⟩ := h.get i _ (List.getElem?_eq_getElem hi)
    rw [← hyr.len]; exact h2 y (List.mem_of_getElem? hy)
  · obtain ⟨y, hy, hyr⟩ := h.get i r hr
    obtain ⟨z, hz, hzx⟩ := hyr.get j x hx
    exact hzx M c (h3 i j y c z hy hz hc)

theorem ts_move {x : Operand} (ho : o.op = .move x ∨ o.op = .assign x) (h : tx V P nm call ex o S k = some r) : OpS ex P nm o S k r := by
  have hk : k { val := tev S x } = some r := by rcases ho with ho | ho <;> simpa only [tx, ho] using h
  refine ops_val hk fun K hK => ?_
  rcases ho with ho | ho <;> (simp only [AVal, ho, ev_enc]; exact hK)

theorem ts_pick {c x y : Operand} (ho : o.op = .pick c x y) (h : tx V P nm call ex o S k = some r) : OpS ex P nm o S k r := by
  simp only [tx, ho] at h
  split at h
  · rename_i b hb
    cases b with
    | true =>
      refine ops_val (by simpa using h) fun K hK => ?_
      simp only [AVal, ho, ev_enc, hb, encV, encD]; exact hK
    | false =>
      refine ops_val (by simpa using h) fun K hK => ?_
      simp only [AVal, ho, ev_enc, hb, encV, encD]; exact hK
  · cases h

theorem zero_enc {ω : Nat → Nat} {z : List Value} (hz : z.all isCell = true) : encL V ω (z.map tvc) = z.map fun x => .d (.v x) := by
  rw [encL_map, List.map_map]
  rw [List.all_eq_true] at hz
  refine List.map_congr_left fun x hx => ?_
  have := hz x hx
  simp only [Function.comp, tvc_enc]
  cases x <;> first | (simp [isCell] at this; done) | rfl

theorem ts_alloc {t : TypeId} (ho : o.op = .alloc t) (h : tx V P nm call ex o S k = some r) : OpS ex P nm o S k r := by
  simp only [tx, ho] at h
  split at h
  · rename_i z d hz hd
    obtain ⟨hz1, h⟩ := if_some h
    refine ops_box (d := d) (fun ω => rfl) h (hasL_false fun x hx => ?_) fun K hK => ?_
    · obtain ⟨v, _, rfl⟩ := List.mem_map.1 hx
      cases v <;> simp [tvc, TV.has]
    · simp only [AVal, ho, hz, hd]
      rw [zero_enc hz1] at hK; exact hK
  · cases h

theorem ts_box {t : TypeId} {x : Operand} (ho : o.op = .box t x) (hf : ∀ te, k te = some r → ∀ d ∈ te.new, S.fresh d = true) (h : tx V P nm call ex o S k = some r) : OpS ex P nm o S k r := by
  simp only [tx, ho] at h
  split at h
  · rename_i cs d hcs hd
    have hfr := hf _ h (nm d) (by simp)
    refine ops_box (d := d) (fun ω => boxOf_enc hcs) h (cells_fresh hcs (tev_fresh hfr x)) fun K hK => ?_
    simp only [AVal, ho, ev_enc, cells_sound (ω := S.len) hcs, hd]; exact hK
  · cases h

theorem ts_load {t : TypeId} {x : Operand} (ho : o.op = .load t x) (h : tx V P nm call ex o S k = some r) : OpS ex P nm o S k r := by
  simp only [tx, ho] at h
  split at h
  · rename_i ag sz ht
    split at h
    · rename_i n off hx
      split at h
      · rename_i v hw
        unfold wholeV at hw
        split at hw
        · rename_i i y hn
          have hw' := if_some hw; clear hw
          obtain ⟨⟨e1, e2, e3, hot⟩, hw⟩ := hw'
          subst e1; subst e2; subst e3
          simp only [Option.some.injEq] at hw; subst hw
          have hb : boxC V (S.own? n) = some ((V.cells i y).map fun l => .lf l.t l.x) := by rw [hn]; rfl
          refine ops_val h fun K hK => ?_
          simp only [AVal, ho, ht, ev_enc, hx, own_boxC hb, bst_enc, loadC, List.drop_zero]
          rw [encV_st] at hK
          simp only [encV, own_boxC hb, bst_enc, List.length_map, List.drop_zero]
          have hl : (V.enc i y).length = V.sz i := by rw [V.enc_cells, List.length_map, V.len_cells]
          rw [if_pos (by omega), List.take_of_length_le (by rw [List.length_map]; omega), mkAgg, allD_map]
          exact hK
        · cases hw
      · split at h
        · rename_i cells hc
          split at h
          · rename_i v hv
            obtain ⟨y, h1, h2, h3⟩ := loadV_sound (ω := S.len) hv
            rw [encL_drop] at h1
            refine ops_le h fun K hK => ?_
            simp only [AVal, ho, ht, ev_enc, hx, encV, own_boxC hc, h1]
            exact hK y h2 h3
          · cases h
        · cases h
    · rename_i n s i off hx
      split at h
      · rename_i te e xs hc
        obtain ⟨hs, h⟩ := if_some h
        obtain ⟨y, hy, h⟩ := some_bind h
        split at h
        · rename_i v hv
          obtain ⟨d, h1, h2⟩ := loadL_sound (ω := S.len) hv
          refine ops_val h fun K hK => ?_
          simp only [AVal, ho, ht, ev_enc, hx, encV, own_vec hc, List.getElem?_map, hy, Option.map_some, h1]
          refine ⟨hs, ?_⟩
          rw [← h2]; exact hK
        · cases h
      · cases h
    · rename_i t' y off hx
      split at h
      · rename_i v hv
        obtain ⟨d, h1, h2⟩ := loadL_sound (ω := S.len) hv
        refine ops_val h fun K hK => ?_
        simp only [AVal, ho, ht, ev_enc, hx, encV, h1]
        rw [← h2]; exact hK
      · cases h
    · cases h
  · cases h

theorem ts_store {t : TypeId} {x y : Operand} (ho : o.op = .store t x y) (h : tx V P nm call ex o S k = some r) : OpS ex P nm o S k r := by
  simp only [tx, ho] at h
  split at h
  · rename_i ag sz ht
    split at h
    · rename_i n off cs hx hy
      split at h
      · rename_i cells hc
        have h' := if_some h; clear h
        obtain ⟨⟨h1, h2, h3⟩, h⟩ := h'
        split at h
        · rename_i hwh
          obtain ⟨e0, hsz⟩ := hwh
          subst e0
          refine ops_own h (by rw [boxC_len hc]; exact reBox_len) fun K hK => ?_
          simp only [AVal, ho, ht, ev_enc, hx, encV, own_boxC hc, cells_sound (ω := S.len) hy, encL_len]
          refine ⟨⟨h1, all_one_sound h2, h3⟩, ?_⟩
          rw [reBox_enc hy] at hK
          simp only [spliceH, encL_len, List.take_zero, List.nil_append, Nat.zero_add]
          rw [List.drop_of_length_le (by rw [encL_len]; omega), List.append_nil]
          exact hK
        · refine ops_own h (by rw [boxC_len hc]; rfl) fun K hK => ?_
          simp only [AVal, ho, ht, ev_enc, hx, encV, own_boxC hc, cells_sound (ω := S.len) hy, encL_len]
          refine ⟨⟨h1, all_one_sound h2, h3⟩, ?_⟩
          simp only [encO, encL_app, encL_take, encL_drop] at hK
          simp only [spliceH, encL_len]
          exact hK
      · cases h
    · rename_i n s i off cs hx hy
      split at h
      · rename_i te e xs hc
        obtain ⟨⟨h0, h1, h2, h3⟩, h⟩ := if_some h
        obtain ⟨x', hx', h⟩ := some_bind h
        split at h
        · rename_i y' hy'
          obtain ⟨ds, e1, _, e3⟩ := ofRow_sound (ω := S.len) hy'
          have e3 := e3 rfl
          subst e3
          have hcs : ∃ es, allD (encL V S.len cs) = some es ∧ encR V.sz V.enc e y' = (encR V.sz V.enc e x').take off ++ es ++ (encR V.sz V.enc e x').drop (off + es.length) ∧ es.length = cs.length := by
            have hm : ∀ l : List (Leaf V.N), encL V S.len (l.map fun l => TV.lf l.t l.x) = (l.map fun l => encD V.sz V.enc l.t l.x).map H.d := by
              intro l
              rw [encL_map, List.map_map, List.map_map]
              exact List.map_congr_left fun l _ => by simp [encV]
            rw [encL_app, encL_app, hm, hm, List.map_take, List.map_drop, ← encR_cells] at e1
            have hall : ∃ es : List D, encL V S.len cs = es.map H.d := by
              have : ∀ (a b c : List H) (l : List D), a ++ b ++ c = l.map H.d → ∃ es : List D, b = es.map H.d := by
                intro a b c l hl
                refine ⟨(l.drop a.length).take b.length, ?_⟩
                rw [List.map_take, List.map_drop, ← hl]
                simp
              exact this _ _ _ _ e1
            obtain ⟨es, hes⟩ := hall
            have hlen : es.length = cs.length := by have := congrArg List.length hes; simpa [encL_len] using this.symm
            refine ⟨es, by rw [hes, allD_map], ?_, hlen⟩
            rw [hes, ← List.map_append, ← List.map_append] at e1
            have inj : ∀ (a b : List D), a.map H.d = b.map H.d → a = b := fun a b hab => by
              have := congrArg allD hab
              rw [allD_map, allD_map] at this
              simpa using this
            rw [hlen]
            exact (inj _ _ e1).symm
          obtain ⟨es, he1, he2, he3⟩ := hcs
          refine ops_own h (by rw [len_vec hc]; simp [TO.len]) fun K hK => ?_
          simp only [AVal, ho, ht, ev_enc, hx, encV, own_vec hc, cells_sound (ω := S.len) hy, encL_len, List.getElem?_map, hx', Option.map_some, he1]
          refine ⟨⟨h0, h1, all_one_sound h2, by rw [← h0]; exact h3⟩, ?_⟩
          simp only [encO, List.map_set, he2] at hK
          exact hK
        · cases h
      · cases h
    · cases h
  · cases h

theorem ts_nilCheck {x : Operand} (ho : o.op = .nilCheck x) (h : tx V P nm call ex o S k = some r) : OpS ex P nm o S k r := by
  simp only [tx, ho] at h
  split at h
  · rename_i n off hx
    refine ops_val h fun K hK => ?_
    simp only [AVal, ho, ev_enc, hx, encV] at hK ⊢; exact hK
  · rename_i n s i off hx
    refine ops_val h fun K hK => ?_
    simp only [AVal, ho, ev_enc, hx, encV] at hK ⊢; exact hK
  · rename_i t x off hx
    refine ops_val h fun K hK => ?_
    simp only [AVal, ho, ev_enc, hx, encV] at hK ⊢; exact hK
  · rename_i n b hx
    obtain ⟨hb, h⟩ := if_some h
    subst hb
    refine ops_val h fun K hK => ?_
    simp only [AVal, ho, ev_enc, hx, encV] at hK ⊢; exact hK
  · cases h

theorem isNilC_eq {y : Operand} (h : isNilC y = true) : y = .const .nilIface := by
  unfold isNilC at h
  split at h
  · rfl
  · cases h

theorem ts_binOp {op : BinOp} {t t' : TypeId} {x y : Operand} (ho : o.op = .binOp op t x y t') (h : tx V P nm call ex o S k = some r) : OpS ex P nm o S k r := by
  simp only [tx, ho] at h
  split at h
  · rename_i kx a ky b hx hy
    split at h
    · rename_i hs
      obtain ⟨hb, h⟩ := if_some h
      cases op <;> simp only [shiftOp, reduceCtorEq, Option.some.injEq] at hs
      refine ops_val h fun K hK => ?_
      simp only [AVal, ho, ev_enc, hx, hy, encV, encD, intBin] at hK ⊢; exact ⟨hb, hK⟩
    · rename_i hs
      obtain ⟨hb, h⟩ := if_some h
      cases op <;> simp only [shiftOp, reduceCtorEq, Option.some.injEq] at hs
      refine ops_val h fun K hK => ?_
      simp only [AVal, ho, ev_enc, hx, hy, encV, encD, intBin] at hK ⊢; exact ⟨hb, hK⟩
    rename_i hs
    obtain ⟨hk, h⟩ := if_some h
    subst hk
    cases op <;> simp only [] at h <;> first
      | (cases h; done)
      | (obtain ⟨hb, h⟩ : b ≠ 0 ∧ _ := by
          split at h
          · cases h
          · exact ⟨‹_›, h⟩
         refine ops_val h fun K hK => ?_
         simp only [AVal, ho, ev_enc, hx, hy, encV, encD, intBin] at hK ⊢; exact ⟨⟨trivial, hb⟩, hK⟩)
      | (refine ops_val h fun K hK => ?_
         simp only [AVal, ho, ev_enc, hx, hy, encV, encD, intBin] at hK ⊢; exact ⟨trivial, hK⟩)
  · rename_i a b hx hy
    split at h
    · rename_i hu
      refine ops_val h fun K hK => ?_
      simp only [AVal, ho, ev_enc, hx, hy, encV, encD] at hK ⊢; exact ⟨hu, hK⟩
    · rename_i hu
      refine ops_val h fun K hK => ?_
      simp only [AVal, ho, ev_enc, hx, hy, encV, encD] at hK ⊢; exact ⟨hu, hK⟩
    · cases h
  · rename_i a b hx hy
    split at h
    · refine ops_val h fun K hK => ?_
      simp only [AVal, ho, ev_enc, hx, hy, encV, encD] at hK ⊢; exact hK
    · refine ops_val h fun K hK => ?_
      simp only [AVal, ho, ev_enc, hx, hy, encV, encD] at hK ⊢; exact hK
    · obtain ⟨hl, h⟩ := if_some h
      refine ops_val h fun K hK => ?_
      simp only [AVal, ho, ev_enc, hx, hy, encV, encD] at hK ⊢; exact ⟨by unfold most at hl; omega, hK⟩
    · cases h
  · rename_i a n c hx hy
    split at h
    · rename_i hu
      refine ops_val h fun K hK => ?_
      simp only [AVal, ho, ev_enc, hx, hy, encV, encRaw, encD] at hK ⊢; exact ⟨hu, hK⟩
    · rename_i hu
      refine ops_val h fun K hK => ?_
      simp only [AVal, ho, ev_enc, hx, hy, encV, encRaw, encD] at hK ⊢; exact ⟨hu, hK⟩
    · cases h
  · rename_i e y ys hx hy
    split at h
    · rename_i hu
      refine ops_val h fun K hK => ?_
      simp only [AVal, ho, ev_enc, hx, hy, encV, encRaw, encD, List.map_cons] at hK ⊢; exact ⟨hu, hK⟩
    · rename_i hu
      refine ops_val h fun K hK => ?_
      simp only [AVal, ho, ev_enc, hx, hy, encV, encRaw, encD, List.map_cons] at hK ⊢; exact ⟨hu, hK⟩
    · cases h
  · rename_i n b hx hy
    split at h
    · rename_i hu
      refine ops_val h fun K hK => ?_
      simp only [AVal, ho, ev_enc, hx, hy, encV, encRaw, encD] at hK ⊢; exact ⟨hu, hK⟩
    · rename_i hu
      refine ops_val h fun K hK => ?_
      simp only [AVal, ho, ev_enc, hx, hy, encV, encRaw, encD] at hK ⊢; exact ⟨hu, hK⟩
    · cases h
  · rename_i b hx hy
    obtain ⟨⟨hu, hn⟩, h⟩ := if_some h
    have hyc := isNilC_eq hn
    split at h
    · refine ops_val h fun K hK => ?_
      simp only [AVal, ho, ev_enc, hx, hy, encV, encRaw, encD] at hK ⊢; exact ⟨⟨hu, hyc⟩, hK⟩
    · refine ops_val h fun K hK => ?_
      simp only [AVal, ho, ev_enc, hx, hy, encV, encRaw, encD] at hK ⊢; exact ⟨⟨hu, hyc⟩, hK⟩
    · cases h
  · cases h

theorem ts_unOp {op : UnOp} {t : TypeId} {x : Operand} (ho : o.op = .unOp op t x) (h : tx V P nm call ex o S k = some r) : OpS ex P nm o S k r := by
  simp only [tx, ho] at h
  split at h
  · rename_i b hx
    refine ops_val h fun K hK => ?_
    simp only [AVal, ho, ev_enc, hx, encV, encD] at hK ⊢; exact hK
  · rename_i ki n hx
    refine ops_val h fun K hK => ?_
    simp only [AVal, ho, ev_enc, hx, encV, encD] at hK ⊢; exact hK
  · cases h

theorem ts_convert {s t : TypeId} {x : Operand} (ho : o.op = .convert s t x) (h : tx V P nm call ex o S k = some r) : OpS ex P nm o S k r := by
  simp only [tx, ho] at h
  split at h
  · rename_i d ki kk n h1 h2 hx
    refine ops_val h fun K hK => ?_
    simp only [AVal, ho, h1, h2, ev_enc, hx, encV, encD] at hK ⊢; exact hK
  · rename_i d kk n h1 h2 hx
    refine ops_val h fun K hK => ?_
    simp only [AVal, ho, h1, h2, ev_enc, hx, encV, encD] at hK ⊢; exact hK
  · rename_i e x h1 h2 hx
    split at h
    · rename_i d hu hd
      obtain ⟨hl, h⟩ := if_some h
      refine ops_vec (d := d) (e := .int .i32) (old := []) (fun p hp => by cases hp) h fun K hK => ?_
      simp only [AVal, ho, h1, h2, ev_enc, hx, encV, encD, hu, hd] at hK ⊢
      exact ⟨by have := runes_len x; unfold most at hl; omega, hK⟩
    · cases h
  · rename_i e ik xs h1 h2 hx
    split at h
    · rename_i hu
      refine ops_val h fun K hK => ?_
      simp only [AVal, ho, h1, h2, ev_enc, hx, encV, encD, hu] at hK ⊢
      erw [intsD_enc]
      exact ⟨rfl, hK⟩
    · rename_i hu
      refine ops_val h fun K hK => ?_
      simp only [AVal, ho, h1, h2, ev_enc, hx, encV, encD, hu] at hK ⊢
      erw [intsD_enc]
      exact ⟨rfl, hK⟩
    · cases h
  · rename_i e h1 h2 hx
    split at h
    · rename_i hu
      refine ops_val h fun K hK => ?_
      simp only [AVal, ho, h1, h2, ev_enc, hx, encV, encD, encRaw, hu] at hK ⊢; exact hK
    · rename_i hu
      refine ops_val h fun K hK => ?_
      simp only [AVal, ho, h1, h2, ev_enc, hx, encV, encD, encRaw, hu] at hK ⊢; exact hK
    · cases h
  · cases h

theorem ts_range {t : TypeId} {x : Operand} (ho : o.op = .range t x) (h : tx V P nm call ex o S k = some r) : OpS ex P nm o S k r := by
  simp only [tx, ho] at h
  split at h
  · rename_i s d ht hx hd
    refine ops_newiter h fun K hK => ?_
    simp only [AVal, ho, ht, hd, ev_enc, hx, encV, encD]
    exact hK
  · cases h

theorem ts_next {x : Operand} {b : Bool} (ho : o.op = .next x b) (h : tx V P nm call ex o S k = some r) : OpS ex P nm o S k r := by
  cases b with
  | false => simp only [tx, ho] at h; cases h
  | true =>
  simp only [tx, ho] at h
  split at h
  · rename_i n hx
    split at h
    · rename_i s p hown
      obtain ⟨h0, h⟩ := if_some h
      split at h
      · rename_i hlt
        have hl : (Nat.blt p.toNat s.size) = true := by rw [Nat.blt_eq]; omega
        refine ⟨_, h, fun m o hm => ?_, ?_⟩
        · simp only [gt_cons] at hm
          split at hm
          · rename_i e; right; simp at hm; subst hm; subst e; simp [TO.len, len_iter hown]
          · simp [gt] at hm
        · have hp : ((p.toNat : Nat) : Int) = p := by omega
          have hw : (p + Bs.wid s p).toNat = p.toNat + (Utf8.decode s p.toNat).2 := by unfold Bs.wid; omega
          simp only [AVal, ho, ev_enc, hx, encV, own_iter hown, hl]
          refine ⟨trivial, ele_upd (by simp only [encV, encL, encD, Bs.dec, hp]) rfl (by simp [encO, hw]) rfl⟩
      · rename_i hlt
        have hl : (Nat.blt p.toNat s.size) = false := by rw [Bool.eq_false_iff]; intro h; rw [Nat.blt_eq] at h; omega
        refine ops_val h fun K hK => ?_
        simp only [AVal, ho, ev_enc, hx, encV, encL, encD, own_iter hown, hl] at hK ⊢
        exact ⟨trivial, hK⟩
    · cases h
  · cases h

theorem ts_build {t : TypeId} {parts : Array (Nat × Operand)} (ho : o.op = .build t parts) (h : tx V P nm call ex o S k = some r) : OpS ex P nm o S k r := by
  simp only [tx, ho] at h
  split at h
  · rename_i z pl hz hp
    obtain ⟨hz1, h⟩ := if_some h
    split at h
    · rename_i cs hcs
      have hf := fillV_sound (ω := S.len) hcs
      rw [zero_enc hz1] at hf
      split at h
      · refine ops_le h fun K hK => ?_
        simp only [AVal, ho, hz, hp, map_ev2, hf]
        exact hK _ (by rw [encV]; exact H.le.refl _) (fun _ => by rw [encV])
      · refine ops_le h fun K hK => ?_
        simp only [AVal, ho, hz, hp, map_ev2, hf]
        exact hK _ mkV_sound.1 mkV_sound.2
    · cases h
  · cases h

theorem ts_buildSlice {t : TypeId} {len : Nat} {parts : Array (Nat × Operand)} (ho : o.op = .buildSlice t len parts) (h : tx V P nm call ex o S k = some r) : OpS ex P nm o S k r := by
  simp only [tx, ho] at h
  split at h
  · rename_i te sz by_ e ht hty
    obtain ⟨hsz, h⟩ := if_some h
    subst hsz
    split at h
    · rename_i ys hys
      obtain ⟨rows, f1, f2, f3, f4⟩ := rowsV_sound (ω := S.len) hys
      simp only [List.length_map] at f2
      obtain ⟨⟨hl, hs⟩, h⟩ := if_some h
      have hl' : rows.length = len ∧ len * tsz V.sz e ≤ 16777216 := ⟨by omega, hs⟩
      cases hd : o.dst with
      | none =>
        simp only [hd] at h
        refine ops_le h fun K hK => ?_
        simp only [AVal, ho, ht, map_ev2, f1, hd]
        refine ⟨hl', hK _ ?_ fun hx => ?_⟩
        · simp only [encV, encD]
          exact H.le.d (D.le.sl f3)
        · simp only [encV, encD]
          rw [f4 hx]
      | some d =>
        simp only [hd] at h
        by_cases hn : nm d = d
        · rw [if_pos hn] at h
          refine ops_le h fun K hK => ?_
          simp only [AVal, ho, ht, map_ev2, f1, hd]
          refine ⟨hl', ?_⟩
          rw [if_pos hn]
          refine hK _ ?_ fun hx => ?_
          · simp only [encV, encD]
            exact H.le.d (D.le.sl f3)
          · simp only [encV, encD]
            rw [f4 hx]
        · rw [if_neg hn] at h
          refine ⟨_, h, fun m o hm => ?_, ?_⟩
          · simp only [gt_cons] at hm
            split at hm
            · rename_i e; left; simp [e]
            · simp [gt] at hm
          · simp only [AVal, ho, ht, map_ev2, f1, hd]
            refine ⟨hl', ?_⟩
            rw [if_neg hn]
            refine { val := ?_, new := rfl, none := fun n hg => ?_, some := fun n o' hg => ?_, eq := fun hx => ?_ }
            · simp only [encE, encV]
              rw [app_len]
              simp only [gt_cons, if_true, TO.len]
              rw [f3.len, List.length_map]
              exact H.le.refl _
            · simp only [encE, List.map_cons, List.map_nil, gt_cons] at hg ⊢
              split at hg
              · simp at hg
              · rename_i hne; rw [if_neg hne]; rfl
            · simp only [encE, List.map_cons, List.map_nil, gt_cons] at hg ⊢
              split at hg
              · rename_i hne
                simp only [encO, Option.some.injEq] at hg
                subst hg
                exact ⟨_, by rw [if_pos hne], OLe.vec f3⟩
              · simp [gt] at hg
            · simp only [encE, encV, List.map_cons, List.map_nil, encO]
              rw [app_len]
              simp only [gt_cons, if_true, TO.len]
              rw [f4 hx, List.length_map]
              first | exact ⟨rfl, rfl, rfl⟩ | exact ⟨rfl, trivial⟩ | simp
    · cases h
  · cases h

theorem sameOp_eq {l c : Operand} (h : sameOp l c = true) : l = c := by
  cases l <;> cases c <;> simp_all [sameOp]

theorem rows_repl {e : Ty V.ι} {y : den V.N e} {ds : List D} (h1 : D.Les ds (encR V.sz V.enc e y)) : ∀ N : Nat, D.Rows (List.replicate N ds) ((List.replicate N y).map fun x => encR V.sz V.enc e x)
  | 0 => .nil
  | N + 1 => .cons h1 (rows_repl h1 N)

/-- A new slice of equal elements. -/
theorem ts_newvec {d : Nat} {te : TypeId} {e : Ty V.ι} {y : den V.N e} {ds : List D} {N : Nat} (_ : o.dst = some d) (h1 : D.Les ds (encR V.sz V.enc e y)) (h2 : ex = true → ds = encR V.sz V.enc e y)
    (h : k { val := .vh (nm d), upd := [(nm d, .vec te e (List.replicate N y))], new := [nm d] } = some r)
    (hv : ∀ K : Eff → Prop, K { val := .vh (nm d) N, acc := [], upd := [(nm d, some (.vec te (tsz V.sz e) (List.replicate N ds)))], new := [nm d] } → AVal P nm o (ev (encS V S)) (encS V S).own? K) : OpS ex P nm o S k r := by
  refine ⟨_, h, fun m o hm => ?_, hv _ ?_⟩
  · simp only [gt_cons] at hm
    split at hm
    · rename_i e; left; simp [e]
    · simp [gt] at hm
  · have f3 := rows_repl h1 N
    refine { val := ?_, new := rfl, none := fun n hg => ?_, some := fun n o' hg => ?_, eq := fun hx => ?_ }
    · simp only [encE, encV]
      rw [app_len]
      simp only [gt_cons, if_true, TO.len, List.length_replicate]
      exact H.le.refl _
    · simp only [encE, List.map_cons, List.map_nil, gt_cons] at hg ⊢
      split at hg
      · simp [encO] at hg
      · rename_i hne; rw [if_neg hne]; rfl
    · simp only [encE, List.map_cons, List.map_nil, gt_cons] at hg ⊢
      split at hg
      · rename_i hne
        simp only [encO, Option.some.injEq] at hg
        subst hg
        exact ⟨_, by rw [if_pos hne], OLe.vec f3⟩
      · simp [gt] at hg
    · simp only [encE, encV, List.map_cons, List.map_nil, encO]
      rw [app_len]
      simp only [gt_cons, if_true, TO.len, List.length_replicate, List.map_replicate, h2 hx]
      first | exact ⟨rfl, rfl, rfl⟩ | exact ⟨rfl, trivial⟩ | simp

theorem map_d_inj : ∀ {ds : List D} {z : List Value}, (z.map fun x => H.d (.v x)) = ds.map H.d → ds = z.map .v
  | [], [], _ => rfl
  | [], _ :: _, h => by simp at h
  | _ :: _, [], h => by simp at h
  | d :: ds, x :: z, h => by
    simp only [List.map_cons, List.cons.injEq, H.d.injEq] at h
    rw [← h.1, map_d_inj h.2]; rfl

theorem ts_makeSlice {t : TypeId} {l c : Operand} (ho : o.op = .makeSlice t l c) (h : tx V P nm call ex o S k = some r) : OpS ex P nm o S k r := by
  simp only [tx, ho] at h
  split at h
  · rename_i te sz by_ e d ht hty hd
    split at h
    · rename_i z kl n kc m hz hl hc
      split at h
      · rename_i y hy
        have h' := if_some h; clear h
        obtain ⟨⟨hsz, hby, hzc⟩, h⟩ := h'
        subst hsz
        obtain ⟨ds, e1, e2, e3⟩ := ofRow_sound (ω := S.len) hy
        rw [zero_enc hzc] at e1
        have hds := map_d_inj e1
        subst hds
        split at h
        · rename_i hs
          have hs := sameOp_eq hs
          subst hs
          obtain ⟨h0, h⟩ := if_some h
          obtain ⟨h1, h⟩ := if_some h
          have hnm : n = m := by rw [hl] at hc; cases hc; rfl
          subst hnm
          refine ts_newvec hd e2 e3 h fun K hK => ?_
          simp only [AVal, ho, ht, hd, hz, ev_enc, hl, hc, encV, encD]
          exact ⟨⟨.inl trivial, h0, h0, h1, hby⟩, hK⟩
        · have h' := if_some h; clear h
          obtain ⟨h2, h⟩ := h'
          subst h2
          have h' := if_some h; clear h
          obtain ⟨h0, h⟩ := h'
          have h' := if_some h; clear h
          obtain ⟨h1, h⟩ := h'
          refine ts_newvec (N := 0) (y := y) hd e2 e3 h fun K hK => ?_
          simp only [AVal, ho, ht, hd, hz, ev_enc, hl, hc, encV, encD]
          exact ⟨⟨.inr trivial, Int.le_refl _, h0, h1, hby⟩, hK⟩
      · cases h
    · cases h
  · cases h

theorem ofZ_sound {t : Ty V.ι} {d : D} {z : den V.N t} (h : ofZ V ex t d = some z) : D.le d (encD V.sz V.enc t z) ∧ (ex = true → d = encD V.sz V.enc t z) := by
  unfold ofZ at h
  split at h
  · obtain ⟨hk, h⟩ := if_some h
    subst hk
    have h := ‹some _ = some z›
    simp only [Option.some.injEq] at h; subst h
    exact ⟨D.le.refl _, fun _ => rfl⟩
  · cases h; exact ⟨D.le.refl _, fun _ => rfl⟩
  · cases h; exact ⟨D.le.refl _, fun _ => rfl⟩
  · split at h
    · cases h
    · cases h; exact ⟨by simp only [encD, List.map_nil]; exact D.le.nil _, fun h => by cases h⟩
  · split at h
    · rename_i z' hz
      obtain ⟨hc, h⟩ := if_some h
      obtain ⟨ds', e1, e2, e3⟩ := ofRow_sound (ω := fun _ => 0) h
      rw [zero_enc hc] at e1
      have := map_d_inj e1
      subst this
      rw [valsOf_spec hz]
      exact ⟨D.le.agg e2, fun hx => by rw [e3 hx]; rfl⟩
    · cases h
  · cases h

theorem ts_makeMap {t : TypeId} {hint : Option Operand} (ho : o.op = .makeMap t hint) (h : tx V P nm call ex o S k = some r) : OpS ex P nm o S k r := by
  simp only [tx, ho] at h
  split at h
  · rename_i kt et d ht hd
    split at h
    · obtain ⟨hh, h⟩ := if_some h
      refine ops_newmap h fun K hK => ?_
      have hx : hintOk (ev (encS V S)) hint = true := by
        cases hint with
        | none => rfl
        | some x =>
          simp only [hintV] at hh
          simp only [hintOk, ev_enc]
          split at hh
          · rename_i hx; rw [hx]; simp [encV, encD]
          · cases hh
      simp only [AVal, ho, ht, hd]
      exact ⟨hx, hK⟩
    · cases h
  · cases h

theorem ts_lookup {t : TypeId} {x i : Operand} {c : Bool} (ho : o.op = .lookup t x i c) (h : tx V P nm call ex o S k = some r) : OpS ex P nm o S k r := by
  simp only [tx, ho] at h
  split at h
  · rename_i kt et n tk key ht hx hi
    split at h
    · rename_i tk' tv es d hown hz
      split at h
      · rename_i z hzz
        obtain ⟨z1, z2⟩ := ofZ_sound hzz
        split at h
        · rename_i htk
          subst htk
          obtain ⟨hk, h⟩ := if_some h
          cases hkt : P.underlying kt with
          | none => rw [hkt] at hk; simp [kindOk] at hk
          | some kind =>
            rw [hkt] at hk
            have hf := find_enc (tv := tv) hk key es
            have hle : H.le (.d (((Mp.get (keq tk) key es).map (encD V.sz V.enc tv)).getD d)) (encV V S.len (.lf tv ((Mp.get (keq tk) key es).getD z))) ∧
                (ex = true → H.d (((Mp.get (keq tk) key es).map (encD V.sz V.enc tv)).getD d) = encV V S.len (.lf tv ((Mp.get (keq tk) key es).getD z))) := by
              cases Mp.get (keq tk) key es with
              | none => simp only [Option.map_none, Option.getD_none, encV]; exact ⟨H.le.d z1, fun hx => by rw [z2 hx]⟩
              | some y => simp only [Option.map_some, Option.getD_some, encV]; exact ⟨H.le.refl _, fun _ => trivial⟩
            cases c with
            | true =>
              refine ops_le h fun K hK => ?_
              simp only [AVal, ho, ht, hkt, hz, ev_enc, hx, hi, encV, key_enc hk, own_map hown, hf]
              refine ⟨key_simple hk, hK _ ?_ fun hx => ?_⟩
              · simp only [encV, encL]
                refine tup_le rfl fun i x hx => ?_
                match i with
                | 0 => simp at hx; subst hx; exact ⟨_, rfl, by simpa only [encV] using hle.1⟩
                | 1 =>
                  simp at hx; subst hx
                  refine ⟨_, rfl, ?_⟩
                  simp only [encD, Option.isSome_map]
                  exact H.le.refl _
                | i + 2 => simp at hx
              · simp only [encV, encL]
                have := hle.2 hx
                simp only [encV] at this
                rw [this]
                simp only [encD, Option.isSome_map]
            | false =>
              refine ops_le h fun K hK => ?_
              simp only [AVal, ho, ht, hkt, hz, ev_enc, hx, hi, encV, key_enc hk, own_map hown, hf]
              exact ⟨key_simple hk, hK _ hle.1 hle.2⟩
        · cases h
      · cases h
    · cases h
  · cases h

theorem ts_upd {t : TypeId} {x i y : Operand} (hop : ∀ (ρ : Operand → H) (ω : Nat → Option Own) (K : Eff → Prop), updM P ρ ω t x i y K → AVal P nm o ρ ω K) (h : tupd V P t x i y S k = some r) : OpS ex P nm o S k r := by
  simp only [tupd] at h
  split at h
  · rename_i kt et n tk key tv z ht hx hi hy
    split at h
    · rename_i tk' tv' es hown
      split at h
      · rename_i htk
        subst htk
        split at h
        · rename_i htv
          subst htv
          obtain ⟨hk, h⟩ := if_some h
          cases hkt : P.underlying kt with
          | none => rw [hkt] at hk; simp [kindOk] at hk
          | some kind =>
            rw [hkt] at hk
            refine ops_own h (by rw [len_map hown]; rfl) fun K hK => hop _ _ _ ?_
            simp only [updM, ht, hkt, ev_enc, hx, hi, hy, encV, key_enc hk, own_map hown, set_enc hk]
            exact ⟨key_simple hk, hK⟩
        · cases h
      · cases h
    · cases h
  · cases h

theorem ts_fieldAddr {s : TypeId} {x : Operand} {f : Nat} (ho : o.op = .fieldAddr s x f) (h : tx V P nm call ex o S k = some r) : OpS ex P nm o S k r := by
  simp only [tx, ho] at h
  split at h
  · rename_i fo hfo
    split at h
    · rename_i n off hx
      refine ops_val h fun K hK => ?_
      simp only [AVal, ho, hfo, ev_enc, hx, encV] at hK ⊢; exact hK
    · rename_i n sz i off hx
      refine ops_val h fun K hK => ?_
      simp only [AVal, ho, hfo, ev_enc, hx, encV] at hK ⊢; exact hK
    · rename_i t x off hx
      obtain ⟨hl, h⟩ := if_some h
      refine ops_val h fun K hK => ?_
      simp only [AVal, ho, hfo, ev_enc, hx, encV, List.drop_drop] at hK ⊢
      refine ⟨?_, hK⟩
      rw [rcells_len] at hl
      rw [List.length_drop, encR_len]; omega
    · cases h
  · cases h

theorem ts_field {s : TypeId} {x : Operand} {f : Nat} (ho : o.op = .field s x f) (h : tx V P nm call ex o S k = some r) : OpS ex P nm o S k r := by
  simp only [tx, ho] at h
  split at h
  · rename_i off ag sz t y hft hx
    obtain ⟨hc, h⟩ := if_some h
    split at h
    · rename_i v hv
      obtain ⟨d, h1, h2⟩ := loadL_sound (ω := S.len) hv
      have he : encV V S.len (.lf t y) = .d (.agg (encR V.sz V.enc t y)) := by
        cases t <;> first | (simp [Ty.cell] at hc; done) | simp [encV, encD, encR]
      refine ops_val h fun K hK => ?_
      simp only [AVal, ho, hft, ev_enc, hx, he, h1]
      rw [← h2]; exact hK
    · cases h
  · rename_i off ag sz cs hft hx
    split at h
    · rename_i v hv
      obtain ⟨y, h1, h2, h3⟩ := loadV_sound (ω := S.len) hv
      rw [encL_drop] at h1
      refine ops_le h fun K hK => ?_
      simp only [AVal, ho, hft, ev_enc, hx, encV, mkAgg]
      cases ha : allD (encL V S.len cs) with
      | none => simp only [h1]; exact hK y h2 h3
      | some ds =>
        have hds : encL V S.len cs = ds.map H.d := by
          obtain ⟨g1, g2⟩ := allD_get ha
          apply List.ext_getElem?
          intro i; rw [g2, List.getElem?_map]
        rw [hds, ← List.map_drop] at h1
        have : ∃ d, loadD ag sz (ds.drop off) = some d ∧ y = .d d := by
          cases ag with
          | false =>
            simp only [loadC, loadD] at h1 ⊢
            cases hdr : ds.drop off with
            | nil => rw [hdr] at h1; cases h1
            | cons c rr => rw [hdr] at h1; simp at h1; exact ⟨c, rfl, h1.symm⟩
          | true =>
            simp only [loadC, loadD, List.length_map] at h1 ⊢
            split at h1
            · rename_i hle
              rw [if_pos hle]
              rw [← List.map_take, mkAgg, allD_map] at h1
              simp at h1
              exact ⟨_, rfl, h1.symm⟩
            · cases h1
        obtain ⟨d, hd1, rfl⟩ := this
        simp only [hd1]
        exact hK _ h2 h3
    · cases h
  · cases h

theorem ts_indexAddr {t : TypeId} {x i : Operand} (ho : o.op = .indexAddr t x i) (h : tx V P nm call ex o S k = some r) : OpS ex P nm o S k r := by
  simp only [tx, ho] at h
  split at h
  · rename_i te sz by_ ht
    split at h
    · rename_i e xs kk n hx hi
      obtain ⟨hsz, h⟩ := if_some h
      obtain ⟨hn, h⟩ := if_some h
      obtain ⟨y, hy, h⟩ := some_bind h
      refine ops_val h fun K hK => ?_
      simp only [AVal, ho, ht, ev_enc, hx, hi, encV, encD, List.getElem?_map, hy, Option.map_some, List.drop_zero] at hK ⊢
      exact ⟨⟨hsz, hn⟩, hK⟩
    · rename_i m kk n hx hi
      split at h
      · rename_i te2 e xs hc
        obtain ⟨⟨h1, h2⟩, h⟩ := if_some h
        refine ops_val h fun K hK => ?_
        simp only [AVal, ho, ht, ev_enc, hx, hi, encV, encD, own_vec hc, len_vec hc] at hK ⊢
        exact ⟨⟨h1, by exact_mod_cast h2⟩, hK⟩
      · cases h
    · cases h
  · cases h

theorem ts_index {t : TypeId} {x i : Operand} (ho : o.op = .index t x i) (h : tx V P nm call ex o S k = some r) : OpS ex P nm o S k r := by
  simp only [tx, ho] at h
  split at h
  · rename_i s kk n ht hx hi
    obtain ⟨hn, h⟩ := if_some h
    obtain ⟨b, hb, h⟩ := some_bind h
    refine ops_val h fun K hK => ?_
    simp only [AVal, ho, ht, ev_enc, hx, hi, encV, encD, hb] at hK ⊢
    exact ⟨hn, hK⟩
  · cases h

theorem ts_slice {t : TypeId} {x : Operand} {lo hi mx : Option Operand} (ho : o.op = .slice t x lo hi mx) (h : tx V P nm call ex o S k = some r) : OpS ex P nm o S k r := by
  cases mx with
  | some m => simp only [tx, ho] at h; cases h
  | none =>
  simp only [tx, ho] at h
  split at h
  · rename_i s ht hx
    split at h
    · rename_i l hh hl hh'
      obtain ⟨hc, h⟩ := if_some h
      refine ops_val h fun K hK => ?_
      simp only [AVal, ho, ht, ev_enc, hx, encV, encD, bnd_sound hl, bnd_sound hh'] at hK ⊢
      exact ⟨hc, hK⟩
    · cases h
  · rename_i te e xs ht hx
    split at h
    · rename_i te2 sz' by_ l hh hel hl hh'
      obtain ⟨hsz, h⟩ := if_some h
      obtain ⟨hc, h⟩ := if_some h
      refine ops_val h fun K hK => ?_
      simp only [AVal, ho, ht, ev_enc, hx, encV, encD, bnd_sound hl, bnd_sound hh', hel, List.length_map, List.map_drop, List.map_take] at hK ⊢
      exact ⟨⟨hsz, hc⟩, hK⟩
    · cases h
  · cases h

theorem ts_extract {x : Operand} {i : Nat} (ho : o.op = .extract x i) (h : tx V P nm call ex o S k = some r) : OpS ex P nm o S k r := by
  simp only [tx, ho] at h
  split at h
  · rename_i vs hx
    split at h
    · rename_i v hv
      refine ops_val h fun K hK => ?_
      simp only [AVal, ho, ev_enc, hx, encV, encL_map, List.getElem?_map, hv, Option.map_some] at hK ⊢
      exact hK
    · cases h
  · cases h

theorem ts_makeFunc {fn : Fn} {first captured : Array Operand} (ho : o.op = .makeFunc fn first captured) (h : tx V P nm call ex o S k = some r) : OpS ex P nm o S k r := by
  cases fn with
  | func f =>
    simp only [tx, ho] at h
    refine ops_val h fun K hK => ?_
    simp only [AVal, ho, encV, map_ev] at hK ⊢; exact hK
  | _ => simp only [tx, ho] at h; cases h

theorem ts_call {c : Call} {f : Operand} (hcall : CallerOk P call) (ho : o.op = .call c) (hc : c.callee = .value f) (h : tx V P nm call ex o S k = some r) : OpS ex P nm o S k r := by
  simp only [tx, ho, hc] at h
  split at h
  · rename_i fid first captured hf
    obtain ⟨te, h1, h2, h3⟩ := hcall A fid _ S o.dst k r h
    refine ⟨te, h1, h2, ?_⟩
    simp only [AVal, ho, hc, ev_enc, hf, encV, map_ev]
    rw [encL_app, encL_app] at h3
    obtain ⟨own, rr, own', q1, q2, q3⟩ := h3
    exact ⟨own, rr, own', q1, q2, { q3 with eq := fun _ => q3.eq rfl }⟩
  · cases h

theorem ts_builtin {c : Call} {b : Builtin} (ho : o.op = .call c) (hc : c.callee = .builtin b) (h : tx V P nm call ex o S k = some r) : OpS ex P nm o S k r := by
  simp only [tx, ho, hc, tbuiltin] at h
  split at h
  · rename_i e xs harg
    obtain ⟨hk, h⟩ := if_some h
    refine ops_val h fun K hK => ?_
    simp only [AVal, ho, hc, map_ev, harg, encL, encV, encD, List.length_map] at hK ⊢; exact ⟨hk, hK⟩
  · rename_i n harg
    obtain ⟨hk, h⟩ := if_some h
    refine ops_val h fun K hK => ?_
    simp only [AVal, ho, hc, map_ev, harg, encL, encV, encD] at hK ⊢; exact ⟨hk, hK⟩
  · rename_i n harg
    split at h
    · rename_i tk tv es hown
      obtain ⟨hk, h⟩ := if_some h
      refine ops_val h fun K hK => ?_
      simp only [AVal, ho, hc, map_ev, harg, encL, encV, encD, own_map hown, List.length_map] at hK ⊢; exact ⟨hk, hK⟩
    · cases h
  · rename_i s harg
    obtain ⟨hk, h⟩ := if_some h
    refine ops_val h fun K hK => ?_
    simp only [AVal, ho, hc, map_ev, harg, encL, encV, encD] at hK ⊢; exact ⟨hk, hK⟩
  · rename_i kx a ky b harg
    refine ops_val h fun K hK => ?_
    simp only [AVal, ho, hc, map_ev, harg, encL, encV, encD] at hK ⊢; exact hK
  · rename_i kx a ky b harg
    refine ops_val h fun K hK => ?_
    simp only [AVal, ho, hc, map_ev, harg, encL, encV, encD] at hK ⊢; exact hK
  · rename_i x e' news harg
    split at h
    · rename_i d t t' hd htys
      split at h
      · rename_i te sz bytes hel
        have hone : ∀ l : List (den V.N e'), ((l.map fun x => encR V.sz V.enc e' x).all fun r => r.all D.one) = true := by
          intro l
          rw [List.all_map, List.all_eq_true]
          exact fun x _ => raw_one
        have hby : ∀ n : Nat, bytes ≤ 32768 → n ≤ most → n * bytes ≤ 140737488355328 := by
          intro n h1 h2
          have : n * bytes ≤ most * 32768 := Nat.mul_le_mul h2 h1
          unfold most at this
          omega
        split at h
        · rename_i n
          split at h
          · rename_i te2 e xs hc'
            split at h
            · rename_i hee
              subst hee
              obtain ⟨⟨h1, h2, h3, h4, h5⟩, h⟩ := if_some h
              obtain ⟨h6, h⟩ := if_some h
              refine ops_vec (d := d) (old := [(n, xs.length)]) (fun p hp => by simp at hp; subst hp; exact len_vec hc') h fun K hK => ?_
              simp only [AVal, ho, hc, map_ev, harg, encL, encV, encD, hd, htys, hel, own_vec hc', List.length_map, len_vec hc'] at hK ⊢
              refine ⟨⟨h1, h2, h3, h3, trivial, hone news, hby _ h4 h6, by unfold most at h6; omega⟩, ?_⟩
              have := hK
              simp only [List.map_append, List.length_append] at this
              exact h3 ▸ this
            · cases h
          · cases h
        · obtain ⟨⟨h1, h2, h3⟩, h⟩ := if_some h
          obtain ⟨h4, h⟩ := if_some h
          refine ops_vec (d := d) (old := []) (fun p hp => by cases hp) h fun K hK => ?_
          simp only [AVal, ho, hc, map_ev, harg, encL, encV, encD, encRaw, hd, htys, hel, List.length_map] at hK ⊢
          refine ⟨⟨h1, h2, hone news, hby _ h3 h4, by unfold most at h4; omega⟩, ?_⟩
          exact h2 ▸ hK
        · cases h
      · cases h
    · cases h
  · rename_i x s harg
    split at h
    · rename_i d t t' hd htys
      split at h
      · rename_i te sz bytes hel
        obtain ⟨⟨g1, g2, g3, g4⟩, h⟩ := if_some h
        have hs : P.underlying t' = some .string := by
          unfold isStr at g1
          split at g1
          · assumption
          · cases g1
        have hz : zeroX P te = some (.v (.int .u8 0)) := by
          unfold zeroU8 at g4
          split at g4
          · rename_i n hn; have : n = 0 := by simpa using g4
            rw [this] at hn; exact hn
          · cases g4
        split at h
        · rename_i n _
          split at h
          · rename_i te2 xs hc'
            obtain ⟨⟨h1, h2⟩, h⟩ := if_some h
            obtain ⟨h6, h⟩ := if_some h
            refine ops_vec (d := d) (e := .int .u8) (old := [(n, xs.length)]) (fun p hp => by simp at hp; subst hp; exact len_vec hc') h fun K hK => ?_
            simp only [AVal, ho, hc, map_ev, harg, encL, encV, encD, hd, htys, hel, own_vec hc', List.length_map, len_vec hc'] at hK ⊢
            refine ⟨⟨hs, hz, h1, g2, rfl, g3, trivial, by unfold most at h6; omega⟩, ?_⟩
            have := hK
            simp only [List.map_append, List.length_append] at this
            exact this
          · cases h
        · obtain ⟨h4, h⟩ := if_some h
          refine ops_vec (d := d) (e := .int .u8) (old := []) (fun p hp => by cases hp) h fun K hK => ?_
          simp only [AVal, ho, hc, map_ev, harg, encL, encV, encD, encRaw, hd, htys, hel, List.length_map] at hK ⊢
          exact ⟨⟨hs, hz, g2, g3, by unfold most at h4; omega⟩, hK⟩
        · cases h
      · cases h
    · cases h
  · rename_i n harg
    split at h
    · rename_i te e xs hown
      obtain ⟨hk, h⟩ := if_some h
      refine ops_val h fun K hK => ?_
      simp only [AVal, ho, hc, map_ev, harg, encL, encV, encD, own_vec hown] at hK ⊢
      exact ⟨hk, hK⟩
    · cases h
  · rename_i n ki l harg
    split at h
    · rename_i te xs pt it hown htys
      obtain ⟨⟨h1, h2, h3⟩, h⟩ := if_some h
      obtain ⟨⟨h4, h5⟩, h⟩ := if_some h
      have hp : P.underlying pt = some (.pointer te) := by
        unfold isPtrTo at h1
        split at h1
        · rename_i e' he; rw [Nat.eq_of_beq_eq_true h1] at he; exact he
        · cases h1
      refine ops_gone (fun _ _ => by simp [encV]) h (len_vec hown) fun K hK => ?_
      simp only [AVal, ho, hc, map_ev, harg, encL, encV, encD, own_vec hown, htys, List.length_map] at hK ⊢
      erw [intsD_enc]
      exact ⟨⟨hp, h2, rfl, h3, h4, by unfold most at h5; subst h4; show (xs.length : Int) ≤ 1000000000000; omega⟩, hK⟩
    · cases h
  · cases h

/-- EVERY OPERATION. -/
theorem tx_sound (hcall : CallerOk P call) (hf : ∀ te, k te = some r → ∀ d ∈ te.new, S.fresh d = true) (h : tx V P nm call ex o S k = some r) : OpS ex P nm o S k r := by
  cases ho : o.op with
  | move x => exact ts_move (.inl ho) h
  | assign x => exact ts_move (.inr ho) h
  | pick c x y => exact ts_pick ho h
  | alloc t => exact ts_alloc ho h
  | box t x => exact ts_box ho hf h
  | load t x => exact ts_load ho h
  | store t x y => exact ts_store ho h
  | nilCheck x => exact ts_nilCheck ho h
  | binOp op t x y t' => exact ts_binOp ho h
  | unOp op t x => exact ts_unOp ho h
  | convert s t x => exact ts_convert ho h
  | build t ps => exact ts_build ho h
  | buildSlice t n ps => exact ts_buildSlice ho h
  | fieldAddr s x f => exact ts_fieldAddr ho h
  | field s x f => exact ts_field ho h
  | indexAddr t x i => exact ts_indexAddr ho h
  | index t x i => exact ts_index ho h
  | slice t x lo hi mx => exact ts_slice ho h
  | extract x i => exact ts_extract ho h
  | makeFunc fn a b => exact ts_makeFunc ho h
  | makeSlice t l c => exact ts_makeSlice ho h
  | makeMap t c => exact ts_makeMap ho h
  | range t x => exact ts_range ho h
  | next x b => exact ts_next ho h
  | lookup t x i c => exact ts_lookup ho h
  | mapUpdate t x i y => exact ts_upd (fun ρ ω K hh => by simpa only [AVal, ho] using hh) (by simpa only [tx, ho] using h)
  | insert t x i y => exact ts_upd (fun ρ ω K hh => by simpa only [AVal, ho] using hh) (by simpa only [tx, ho] using h)
  | call c =>
    cases hc : c.callee with
    | value f => exact ts_call hcall ho hc h
    | builtin b => exact ts_builtin ho hc h
    | invoke x m => simp only [tx, ho, hc] at h; cases h
  | _ => simp only [tx, ho] at h; cases h

end
end Go.Tx
