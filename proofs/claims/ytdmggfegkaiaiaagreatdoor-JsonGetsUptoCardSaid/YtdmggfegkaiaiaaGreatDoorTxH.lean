/-
  Typed states: cuts: slices that become data, nil slices that become owned; the whole step.
-/
import Derived.Test.YtdmggfegkaiaiaaGreatDoorTxG
namespace Go.Tx
open Go.Awp
set_option linter.unusedSectionVars false
variable [Inhabited GMem]
set_option linter.unusedSimpArgs false

theorem Ent.le {S S' : AState} (ht : ∀ t x, gt S'.tmps t = some x → ∃ y, gt S.tmps t = some y ∧ H.le y x) (ho : ∀ n o, S'.own? n = some o → ∃ o', S.own? n = some o' ∧ OLe o' o) : Ent S S' :=
  fun _ E M _ _ hs => ⟨E, M, Sim.le hs ht ho⟩

theorem hle_trans {a b c : H} (h : H.le a b) (k : H.le b c) : H.le a c := fun E M v x => k E M v (h E M v x)

mutual
theorem frz_le {n sz : Nat} {rows : List (List D)} : ∀ x : H, H.has n x = false → H.le (H.frz n sz rows x) x
  | .d x, _ => by simp only [H.frz]; exact H.le.refl _
  | .junk, _ => by simp only [H.frz]; exact H.le.refl _
  | .bp m o, _ => by simp only [H.frz]; exact H.le.refl _
  | .vh m l, h => by
    simp only [H.has] at h
    have : m ≠ n := by intro e; subst e; simp at h
    simp only [H.frz]
    rw [if_neg (fun e => this e.1)]
    exact H.le.refl _
  | .ep m s i o, _ => by simp only [H.frz]; exact H.le.refl _
  | .mp m, _ => by simp only [H.frz]; exact H.le.refl _
  | .np m b, _ => by simp only [H.frz]; exact H.le.refl _
  | .sd m, _ => by simp only [H.frz]; exact H.le.refl _
  | .agg cs, h => by
    simp only [H.frz]
    simp only [H.has] at h
    exact hle_trans (mkAgg_to _) (agg_le (H.frzL_len ..) (frzL_le cs h))
  | .tup cs, h => by
    simp only [H.frz]
    simp only [H.has] at h
    exact tup_le (H.frzL_len ..) (frzL_le cs h)
  | .fn f a b, _ => by simp only [H.frz]; exact H.le.refl _
theorem frzL_le {n sz : Nat} {rows : List (List D)} : ∀ l : List H, H.hasL n l = false → ∀ (i : Nat) (x : H), l[i]? = some x → ∃ y, (H.frzL n sz rows l)[i]? = some y ∧ H.le y x
  | [], _, i, x, hx => by simp at hx
  | y :: r, h, 0, x, hx => by
    rw [H.hasL, Bool.or_eq_false_iff] at h
    simp at hx; subst hx
    exact ⟨H.frz n sz rows y, by simp [H.frzL], frz_le y h.1⟩
  | y :: r, h, i + 1, x, hx => by
    rw [H.hasL, Bool.or_eq_false_iff] at h
    obtain ⟨z, h1, h2⟩ := frzL_le r h.2 i x (by simpa using hx)
    exact ⟨z, by simpa [H.frzL] using h1, h2⟩
end

section
variable {V : View}

theorem frz_len {S : TS V.N} {n : Nat} {te : TypeId} {e : Ty V.ι} {xs : List (den V.N e)} (hn : S.own? n = some (.vec te e xs)) : (S.frz V n e xs).len = S.len := by
  funext m
  unfold TS.len
  unfold TS.own? at hn ⊢
  unfold TS.frz
  simp only [gt_cons]
  by_cases hm : n = m
  · subst hm; rw [if_pos rfl, hn]; rfl
  · rw [if_neg hm, gt_map (frzO V n e xs)]
    cases gt S.own m with
    | none => rfl
    | some o => cases o <;> rfl

theorem frz1_le {S : TS V.N} {n : Nat} {te : TypeId} {e : Ty V.ι} {xs : List (den V.N e)} (hn : S.own? n = some (.vec te e xs)) (v : TV V.N) :
    H.le (H.frz n (tsz V.sz e) (xs.map fun x => encR V.sz V.enc e x) (encV V S.len v)) (encV V (S.frz V n e xs).len (frz1 V n e xs v)) := by
  have other : ∀ v : TV V.N, H.le (H.frz n (tsz V.sz e) (xs.map fun x => encR V.sz V.enc e x) (encV V S.len v)) (encV V (S.frz V n e xs).len (if TV.has n v = true then .junk else v)) := by
    intro v
    split
    · simp only [encV]; exact H.le.junk _
    · rename_i hh
      have hh : TV.has n v = false := by simpa using hh
      rw [frz_len hn]
      exact frz_le _ (by rw [encV_has]; exact hh)
  unfold frz1
  split
  · rename_i m
    by_cases hm : m = n
    · subst hm
      rw [if_pos rfl]
      simp only [encV, encD, H.frz, len_vec hn, List.length_map, and_self, if_true]
      exact H.le.refl _
    · rw [if_neg hm]
      simp only [encV, H.frz]
      rw [if_neg (fun e => hm e.1), frz_len hn]
      exact H.le.refl _
  · exact other v

theorem frzV_le {S : TS V.N} {n : Nat} {te : TypeId} {e : Ty V.ι} {xs : List (den V.N e)} (hn : S.own? n = some (.vec te e xs)) (v : TV V.N) :
    H.le (H.frz n (tsz V.sz e) (xs.map fun x => encR V.sz V.enc e x) (encV V S.len v)) (encV V (S.frz V n e xs).len (frzV V n e xs v)) := by
  unfold frzV
  split
  · rename_i cs
    simp only [encV]
    refine hle_trans ?_ (mkAgg_of _)
    have hp : ∀ (l : List H), (∀ (i : Nat) (x : H), (encL V (S.frz V n e xs).len (cs.map (frz1 V n e xs)))[i]? = some x → ∃ y, l[i]? = some y ∧ H.le y x) → l.length = cs.length →
        H.le (.agg l) (.agg (encL V (S.frz V n e xs).len (cs.map (frz1 V n e xs)))) := fun l h hl => agg_le (by rw [encL_len, List.length_map]; exact hl) h
    have hfrz : ∀ (i : Nat) (x : H), (encL V (S.frz V n e xs).len (cs.map (frz1 V n e xs)))[i]? = some x →
        ∃ y, (encL V S.len cs)[i]? = some y ∧ H.le (H.frz n (tsz V.sz e) (xs.map fun x => encR V.sz V.enc e x) y) x := by
      intro i x hx
      simp only [encL_map, List.getElem?_map] at hx ⊢
      cases hc : cs[i]? with
      | none => rw [hc] at hx; cases hx
      | some c => rw [hc] at hx; simp at hx; subst hx; exact ⟨_, rfl, frz1_le hn c⟩
    unfold mkAgg
    split
    · rename_i ds hds
      obtain ⟨g1, g2⟩ := allD_get hds
      simp only [H.frz]
      have e1 : H.le (.d (.agg ds)) (.agg (encL V S.len cs)) := by
        have := mkAgg_to (encL V S.len cs)
        unfold mkAgg at this
        rw [hds] at this; exact this
      refine hle_trans e1 (hp _ (fun i x hx => ?_) (encL_len ..))
      obtain ⟨y, hy, hle⟩ := hfrz i x hx
      refine ⟨y, hy, ?_⟩
      rw [g2] at hy
      cases hd : ds[i]? with
      | none => rw [hd] at hy; cases hy
      | some d => rw [hd] at hy; simp at hy; subst hy; simpa only [H.frz] using hle
    · simp only [H.frz]
      refine hle_trans (mkAgg_to _) (hp _ (fun i x hx => ?_) (by rw [H.frzL_len, encL_len]))
      obtain ⟨y, hy, hle⟩ := hfrz i x hx
      exact ⟨_, by rw [H.frzL_get, hy]; rfl, hle⟩
  · exact frz1_le hn v

theorem frz_ent {S : TS V.N} {n : Nat} {te : TypeId} {e : Ty V.ι} {xs : List (den V.N e)} (hn : S.own? n = some (.vec te e xs)) : Ent (encS V S) (encS V (S.frz V n e xs)) := by
  refine Ent.trans (Ent.freeze (own_vec hn)) (Ent.le (fun t x hx => ?_) fun m o ho => ?_)
  · rw [encS_gt] at hx
    simp only [TS.frz, gt_map] at hx
    cases hq : gt S.tmps t with
    | none => rw [hq] at hx; cases hx
    | some v =>
      rw [hq] at hx; simp at hx; subst hx
      refine ⟨_, by simp only [AState.frz, gt_map, encS_gt, hq, Option.map_some], frzV_le hn v⟩
  · rw [encS_own?, Option.bind_eq_some_iff] at ho
    obtain ⟨o1, ho1, ho⟩ := ho
    have hown : (S.frz V n e xs).own? m = if n = m then some (.gone xs.length) else (S.own? m).map (frzO V n e xs) := by
      unfold TS.own? TS.frz
      simp only [gt_cons]
      split
      · rfl
      · rw [gt_map (frzO V n e xs)]
    rw [hown] at ho1
    by_cases hm : n = m
    · rw [if_pos hm] at ho1; simp at ho1; subst ho1; simp [encO] at ho
    · rw [if_neg hm] at ho1
      cases hq : S.own? m with
      | none => rw [hq] at ho1; cases ho1
      | some o0 =>
        rw [hq] at ho1; simp at ho1; subst ho1
        have hsrc : ∀ x, encO V S.len o0 = some x → ((encS V S).frz n (tsz V.sz e) (xs.map fun x => encR V.sz V.enc e x)).own? m = some (Own.frz n (tsz V.sz e) (xs.map fun x => encR V.sz V.enc e x) x) := by
          intro x hx
          have := encS_own? S m
          rw [hq] at this
          simp only [Option.bind_some, hx] at this
          unfold AState.own? at this ⊢
          simp only [AState.frz, gt_cons]
          rw [if_neg hm, gt_map (fun x : Option Own => x.map (Own.frz n (tsz V.sz e) (xs.map fun x => encR V.sz V.enc e x)))]
          cases hg : gt (encS V S).own m with
          | none => rw [hg] at this; cases this
          | some oo => rw [hg] at this; simp at this; subst this; rfl
        cases o0 with
        | gone l => simp [frzO, encO] at ho
        | bst i y =>
          simp only [frzO, encO, Option.some.injEq] at ho
          subst ho
          refine ⟨_, hsrc _ rfl, ?_⟩
          simp only [Own.frz]
          refine OLe.box (.inr rfl) (by rw [H.frzL_len]) fun i' x hx => ?_
          refine ⟨_, by rw [H.frzL_get, hx]; rfl, ?_⟩
          rw [List.getElem?_map, Option.map_eq_some_iff] at hx
          obtain ⟨d, _, rfl⟩ := hx
          exact frz_le _ (by simp [H.has])
        | vec te' e' ys =>
          simp only [frzO, encO, Option.some.injEq] at ho
          subst ho
          exact ⟨_, hsrc _ rfl, OLe.refl _⟩
        | map tk tv es =>
          simp only [frzO, encO, Option.some.injEq] at ho
          subst ho
          exact ⟨_, hsrc _ rfl, OLe.refl _⟩
        | iter s p =>
          simp only [frzO, encO, Option.some.injEq] at ho
          subst ho
          exact ⟨_, hsrc _ rfl, OLe.refl _⟩
        | box oty cells =>
          simp only [frzO, encO, Option.some.injEq] at ho
          subst ho
          refine ⟨_, hsrc _ rfl, ?_⟩
          simp only [Own.frz]
          refine OLe.box (.inr rfl) (by rw [H.frzL_len, encL_len, encL_len, List.length_map]) fun i x hx => ?_
          simp only [encL_map, List.getElem?_map] at hx
          cases hc : cells[i]? with
          | none => rw [hc] at hx; cases hx
          | some c =>
            rw [hc] at hx; simp at hx; subst hx
            exact ⟨_, by rw [H.frzL_get, encL_map, List.getElem?_map, hc]; rfl, frz1_le hn c⟩

theorem frzAt_ent (S : TS V.N) (v : TV V.N) : Ent (encS V S) (encS V (frzAt V S v)) := by
  unfold frzAt
  split
  · rename_i n
    split
    · rename_i te e xs hn; exact frz_ent hn
    · exact Ent.refl _
  · exact Ent.refl _

theorem frzL_ent : ∀ (l : List (TV V.N)) (S : TS V.N), Ent (encS V S) (encS V (frzL V S l))
  | [], _ => Ent.refl _
  | v :: r, S => Ent.trans (frzAt_ent S v) (frzL_ent r _)

theorem nilAt_ent (te : TypeId) (e : Ty V.ι) (S : TS V.N) (t : Nat) : Ent (encS V S) (encS V (nilAt V te e S t)) := by
  unfold nilAt
  split
  · rename_i ht
    split
    · rename_i hf
      obtain ⟨hf, hg⟩ := hf
      have hg : 60000 + t < given := by simpa [Nat.blt_eq] using hg
      have h1 : gt (encS V S).tmps t = some (.d (.v (.slice none 0 0))) := by rw [encS_gt, ht]; simp [encV, encRaw]
      have h2 : (encS V S).fresh (60000 + t) = true := encS_fresh hf
      refine Ent.trans (Ent.nilvec (e := te) (sz := tsz V.sz e) h1 h2 hg) fun C E M a w hs => ⟨E, M, ?_⟩
      exact Sim.tapp (V := V) (S := S) (dst := some t) (te := { val := .vh (60000 + t), upd := [(60000 + t, .vec te e [])], new := [60000 + t] }) (ex := false)
        (e' := { val := .vh (60000 + t) 0, upd := [(60000 + t, some (.vec te (tsz V.sz e) []))], new := [60000 + t] }) (fun m o hm => by
          simp only [gt_cons] at hm
          split at hm
          · rename_i e; left; simp [e]
          · simp [gt] at hm) (fun d hd => by simp at hd; subst hd; exact hf) (ele_upd (by
          simp only [encV]
          rw [app_len]
          simp [gt_cons, TO.len]) rfl (by simp [encO]) rfl) hs
    · exact Ent.refl _
  · exact Ent.refl _

theorem pre_ent (objs : List (Nat × OPt V.ι)) : ∀ (l : List (Nat × Pt V.ι)) (S : TS V.N), Ent (encS V S) (encS V (preS V objs S l))
  | [], _ => Ent.refl _
  | (t, .vh c) :: r, S => by
    simp only [preS]
    split
    · exact Ent.trans (nilAt_ent _ _ S t) (pre_ent objs r _)
    · exact pre_ent objs r S
  | (t, .dat ty) :: r, S => by
    simp only [preS]
    exact Ent.trans (frzL_ent _ S) (pre_ent objs r _)
  | (t, .bp c off) :: r, S => by simp only [preS]; exact pre_ent objs r S
  | (t, .mp c) :: r, S => by simp only [preS]; exact pre_ent objs r S
  | (t, .np c) :: r, S => by simp only [preS]; exact pre_ent objs r S
  | (t, .nif) :: r, S => by simp only [preS]; exact pre_ent objs r S
  | (t, .ag cs) :: r, S => by
    simp only [preS]
    exact Ent.trans (frzL_ent _ S) (pre_ent objs r _)
  | (t, .fn f a b) :: r, S => by simp only [preS]; exact pre_ent objs r S

theorem nilBox_ent (te : TypeId) (e : Ty V.ι) (S : TS V.N) (b i : Nat) : Ent (encS V S) (encS V (nilBox V te e S b i)) := by
  unfold nilBox
  split
  · rename_i oty cells hb
    split
    · rename_i hc
      split
      · rename_i hf
        obtain ⟨hf, hg⟩ := hf
        generalize hn : 70000 + S.own.length = n at hf hg ⊢
        have hg : n < given := by simpa [Nat.blt_eq] using hg
        have h1 : (encS V S).own? b = some (.box oty (encL V S.len cells)) := by rw [encS_own?, hb]; rfl
        have h2 : (encL V S.len cells)[i]? = some (.d (.v (.slice none 0 0))) := by rw [encL_map, List.getElem?_map, hc]; simp [encV, encRaw]
        have hfr := hf
        unfold TS.fresh at hfr
        simp only [Bool.and_eq_true, List.all_eq_true] at hfr
        obtain ⟨⟨f1, f2⟩, f3⟩ := hfr
        have hbn : b ≠ n := by
          rintro rfl
          rw [hb] at f1; cases f1
        have hcn : TV.hasL n cells = false := by
          have := f3 (b, .box oty cells) (gt_mem hb)
          simpa [TO.has] using this
        refine Ent.trans (Ent.nilcell (e := te) (sz := tsz V.sz e) h1 h2 (encS_fresh hf) hg) fun C E M a w hs => ⟨E, M, ?_⟩
        refine Sim.tapp (V := V) (S := S) (dst := none) (te := { val := .junk, upd := [(b, .box oty (cells.set i (.vh n))), (n, .vec te e [])], new := [n] }) (ex := false)
          (e' := { val := .junk, upd := [(b, some (.box oty ((encL V S.len cells).set i (.vh n 0)))), (n, some (.vec te (tsz V.sz e) []))], new := [n] }) (fun m o hm => ?_) (fun d hd => by simp at hd; subst hd; exact hf) (ele_upd ?_ rfl ?_ rfl) hs
        · simp only [gt_cons] at hm
          split at hm
          · rename_i e1
            right
            simp at hm; subst hm; subst e1
            unfold TS.len
            rw [hb]; rfl
          · split at hm
            · rename_i e1; left; simp [e1]
            · simp [gt] at hm
        · simp [encV]
        · simp only [List.map_cons, List.map_nil, encO]
          have hl : ∀ m, (S.app none ({ val := .junk, upd := [(b, .box oty (cells.set i (.vh n))), (n, .vec te e [])], new := [n] } : TE V.N)).len m = if m = n then 0 else S.len m := by
            intro m
            rw [app_len]
            simp only [gt_cons]
            by_cases hmb : b = m
            · subst hmb
              rw [if_pos rfl, if_neg hbn]
              simp only [TO.len]
              unfold TS.len; rw [hb]; rfl
            · rw [if_neg hmb]
              by_cases hmn : n = m
              · subst hmn; simp [TO.len]
              · rw [if_neg hmn, if_neg (fun e => hmn e.symm)]; rfl
          have hcells : encL V (S.app none ({ val := .junk, upd := [(b, .box oty (cells.set i (.vh n))), (n, .vec te e [])], new := [n] } : TE V.N)).len (cells.set i (.vh n)) = (encL V S.len cells).set i (.vh n 0) := by
            rw [encL_map, List.map_set, encL_map]
            congr 1
            · rw [← encL_map, ← encL_map]
              refine encL_congr cells fun m hm => ?_
              rw [hl, if_neg]
              rintro rfl
              rw [hcn] at hm; cases hm
            · simp only [encV]
              rw [hl, if_pos rfl]
          rw [hcells]
      · exact Ent.refl _
    · exact Ent.refl _
  · exact Ent.refl _

theorem preBox_ent (objs : List (Nat × OPt V.ι)) (b : Nat) : ∀ (l : List (Pt V.ι)) (i : Nat) (S : TS V.N), Ent (encS V S) (encS V (preBox V objs b i l S))
  | [], _, _ => Ent.refl _
  | .vh c :: r, i, S => by
    simp only [preBox]
    split
    · exact Ent.trans (nilBox_ent _ _ S b i) (preBox_ent objs b r _ _)
    · exact preBox_ent objs b r _ S
  | .dat ty :: r, i, S => by simp only [preBox]; exact Ent.trans (frzL_ent _ S) (preBox_ent objs b r _ _)
  | .bp c off :: r, i, S => by simp only [preBox]; exact preBox_ent objs b r _ S
  | .mp c :: r, i, S => by simp only [preBox]; exact preBox_ent objs b r _ S
  | .np c :: r, i, S => by simp only [preBox]; exact preBox_ent objs b r _ S
  | .nif :: r, i, S => by simp only [preBox]; exact preBox_ent objs b r _ S
  | .ag cs :: r, i, S => by simp only [preBox]; exact preBox_ent objs b r _ S
  | .fn f x y :: r, i, S => by simp only [preBox]; exact preBox_ent objs b r _ S

theorem preObj_ent (objs : List (Nat × OPt V.ι)) (c b : Nat) (S : TS V.N) : Ent (encS V S) (encS V (preObj V objs c b S)) := by
  unfold preObj
  split
  · exact preBox_ent objs b _ 0 S
  · split
    · exact frzL_ent _ S
    · exact Ent.refl _
  · exact Ent.refl _

theorem preW_ent (objs : List (Nat × OPt V.ι)) : ∀ (m : Nat) (l : List (Nat × Nat)) (S : TS V.N), Ent (encS V S) (encS V (preW V objs m l S))
  | 0, _, _ => by simp only [preW]; exact Ent.refl _
  | _ + 1, [], _ => by simp only [preW]; exact Ent.refl _
  | m + 1, (c, b) :: r, S => by simp only [preW]; exact Ent.trans (preObj_ent objs c b S) (preW_ent objs m _ _)

theorem preA_ent (objs : List (Nat × OPt V.ι)) (l : List (Nat × Pt V.ι)) (S : TS V.N) : Ent (encS V S) (encS V (preA V objs S l)) := by
  unfold preA
  split
  · exact pre_ent _ l S
  · exact Ent.trans (pre_ent _ l S) (preW_ent _ _ _ _)

/-- WHAT COMES OUT AT A CUT IS ENOUGH. -/
theorem extr_ent {c : Cut V.ι} {S : TS V.N} {v : HL V.N c.tys} (h : extr V c S = some v) : Ent (encS V S) (encS V (conc V c v)) := by
  unfold extr at h
  split at h
  · rename_i σ ls hx
    obtain ⟨hok, h⟩ := if_some h
    have := toHL_of h
    unfold conc
    rw [this]
    exact Ent.trans (preA_ent c.objs c.slots S) (cut_ent hx hok)
  · cases h

end
end Go.Tx
