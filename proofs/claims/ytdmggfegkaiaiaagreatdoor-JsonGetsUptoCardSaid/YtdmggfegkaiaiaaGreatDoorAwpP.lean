/-
  The logic of abstract states: regions that draw their order: the theorem.
-/
import Derived.Test.YtdmggfegkaiaiaaGreatDoorAwpO
namespace Go.Awp
set_option linter.unusedSectionVars false
variable [Inhabited GMem]

theorem mem_looks_tmp {all : List Oper} {o : Oper} {t : Tmp} (h : Operand.tmp t ∈ o.op.operands) : t ∈ looks all o := by
  unfold looks
  refine List.mem_append_left _ (List.mem_filterMap.2 ⟨_, Array.mem_toList_iff.2 h, rfl⟩)

theorem guardB_congr {S S' : AState} {all : List Oper} {o : Oper} {j : Nat} {w : Bool} (hg : o.guard = some (j, w)) (h : ∀ t ∈ looks all o, gt S'.tmps t = gt S.tmps t) : guardB S' all j w = guardB S all j w := by
  unfold guardB
  cases hj : all[j]? with
  | none => rfl
  | some x =>
    cases hd : x.dst with
    | none => simp [hd]
    | some d =>
      have : d ∈ looks all o := by
        unfold looks
        refine List.mem_append_right _ ?_
        simp [hg, hj, hd]
      simp only [hd, AState.get, h d this]

section
variable {C : Ctx} {nm : Nat → Nat} {ops : Array Oper} {l : List (Oper × Tr1)} {S0 : AState}

/-- Which operations have been done. -/
def doneB (listed : Array Bool) (k : Nat) : Bool := listed.getD k false

theorem draw_step (hl : l.map (·.1) = ops.toList) (hdid : DidAll C.P C.N nm ops.toList l S0)
    (hp : pairsOk ops.toList (befs [] ops.toList) 0 [] l = true) {listed : Array Bool} (hsz : listed.size = ops.size)
    (hdown : ∀ k o e, ops[k]? = some o → doneB listed k = true → e ∈ o.after → Region.binds .any e = true → doneB listed e.on = true)
    {i : Nat} {x : Oper × Tr1} (hi : l[i]? = some x) (hni : doneB listed i = false) (hready : ∀ e ∈ x.1.after, Region.binds .any e = true → doneB listed e.on = true)
    {E : Env} {M : Mem} {a : Act} {w : World} (hs : Sim C E M (stE (doneB listed) 0 l S0) a w) {K : Act → World → Prop} {Q : Exit → Act → World → Prop}
    (hK : ∀ E' M' a' w', Sim C E' M' (stE (doneB (listed.setIfInBounds i true)) 0 l S0) a' w' → K a' w') : wpOp C.P ops Q i K a w := by
  have hio : ops[i]? = some x.1 := by
    have : (l.map (·.1))[i]? = some x.1 := by rw [List.getElem?_map, hi]; rfl
    rw [hl] at this; simpa using this
  have hlo : ∀ (k : Nat) (y : Oper × Tr1), l[k]? = some y → ops[k]? = some y.1 := by
    intro k y hy
    have : (l.map (·.1))[k]? = some y.1 := by rw [List.getElem?_map, hy]; rfl
    rw [hl] at this; simpa using this
  have hilt : i < listed.size := by rw [hsz]; exact (Array.getElem?_eq_some_iff.1 hio).1
  -- what hangs ahead of what is done is done
  have hahead : ∀ j k, Ahead ops.toList j k → doneB listed k = true → doneB listed j = true := by
    intro j k h
    induction h with
    | one ho he hb => intro hk; exact hdown _ _ _ (by simpa using ho) hk he hb
    | more ho he hb _ ih => intro hk; exact ih (hdown _ _ _ (by simpa using ho) hk he hb)
  have hbef : ∀ j k m, (befs [] ops.toList)[k]? = some m → m.testBit j = true → Ahead ops.toList j k := fun j k m hm hb =>
    befs_spec ops.toList [] (fun j o h => by simpa using h) (fun j m i h => by simp at h) k m j hm hb
  have horder : ∀ (j k : Nat) (y z : Oper × Tr1), j < k → l[j]? = some y → l[k]? = some z → confl ops.toList y z = true → Ahead ops.toList j k := by
    intro j k y z hjk hy hz hc
    have := pairsOk_spec l [] hp j k y z hjk (Nat.zero_le _) (by simpa using hy) (by simpa using hz) hc
    cases hm : (befs [] ops.toList)[k]? with
    | none => rw [hm] at this; simp at this
    | some m => rw [hm] at this; exact hbef j k m hm this
  have hreadyA : ∀ j, Ahead ops.toList j i → doneB listed j = true := by
    intro j h
    cases h with
    | one ho he hb => exact hready _ (by rw [Array.getElem?_toList, hio] at ho; cases ho; exact he) hb
    | more ho he hb h => exact hahead _ _ h (hready _ (by rw [Array.getElem?_toList, hio] at ho; cases ho; exact he) hb)
  have hsame : ∀ (k : Nat) (y : Oper × Tr1), l[k]? = some y → (confl ops.toList y x = true ∨ confl ops.toList x y = true) → k ≠ i → doneB listed k = decide (k < i) := by
    intro k y hy hc hki
    rcases Nat.lt_or_gt_of_ne hki with h | h
    · have hc' : confl ops.toList y x = true := by
        rcases hc with hc | hc
        · exact hc
        · simp only [confl, Bool.or_eq_true, List.any_eq_true] at hc ⊢
          rcases hc with (((((h1 | h1) | h1) | ⟨n, h2, h3⟩) | ⟨n, h2, h3⟩) | ⟨n, h2, h3⟩) | ⟨n, h2, h3⟩
          · exact .inl (.inl (.inl (.inl (.inl (.inr h1)))))
          · exact .inl (.inl (.inl (.inl (.inl (.inl h1)))))
          · refine .inl (.inl (.inl (.inl (.inr ?_))))
            cases hx : x.1.dst <;> cases hyd : y.1.dst <;> rw [hx, hyd] at h1 <;> simp at h1 ⊢
            exact h1.symm
          · rcases h3 with h3 | h3
            · exact .inl (.inl (.inr ⟨n, h2, h3⟩))
            · exact .inl (.inl (.inl (.inr ⟨n, by simpa using h3, .inr (by simpa using h2)⟩)))
          · exact .inl (.inl (.inl (.inr ⟨n, h2, .inl h3⟩)))
          · exact .inr ⟨n, h2, h3⟩
          · exact .inl (.inr ⟨n, h2, h3⟩)
      rw [hreadyA k (horder k i y x h hy hi hc')]; simp [h]
    · have hc' : confl ops.toList x y = true := by
        rcases hc with hc | hc
        · simp only [confl, Bool.or_eq_true, List.any_eq_true] at hc ⊢
          rcases hc with (((((h1 | h1) | h1) | ⟨n, h2, h3⟩) | ⟨n, h2, h3⟩) | ⟨n, h2, h3⟩) | ⟨n, h2, h3⟩
          · exact .inl (.inl (.inl (.inl (.inl (.inr h1)))))
          · exact .inl (.inl (.inl (.inl (.inl (.inl h1)))))
          · refine .inl (.inl (.inl (.inl (.inr ?_))))
            cases hx : x.1.dst <;> cases hyd : y.1.dst <;> rw [hx, hyd] at h1 <;> simp at h1 ⊢
            exact h1.symm
          · rcases h3 with h3 | h3
            · exact .inl (.inl (.inr ⟨n, h2, h3⟩))
            · exact .inl (.inl (.inl (.inr ⟨n, by simpa using h3, .inr (by simpa using h2)⟩)))
          · exact .inl (.inl (.inl (.inr ⟨n, h2, .inl h3⟩)))
          · exact .inr ⟨n, h2, h3⟩
          · exact .inl (.inr ⟨n, h2, h3⟩)
        · exact hc
      have hA := horder i k x y h hi hy hc'
      cases hd : doneB listed k with
      | false => simp; omega
      | true => rw [hahead i k hA hd] at hni; cases hni
  have hat := DidAll.at l 0 S0 hdid i x hi
  simp only [Nat.zero_add] at hat
  have hwr_tmp : ∀ t, (t ∈ looks ops.toList x.1 ∨ x.1.dst = some t) → ∀ (k : Nat) (y : Oper × Tr1), l[k]? = some y → y.1.dst = some t → k ≠ i → doneB listed k = decide (k < i) := by
    intro t ht k y hy hyd hki
    refine hsame k y hy ?_ hki
    rcases ht with ht | ht
    · left; simp only [confl, hyd, Bool.or_eq_true]; exact .inl (.inl (.inl (.inl (.inl (.inl (by simpa using ht))))))
    · left; simp only [confl, hyd, ht, Bool.or_eq_true]; exact .inl (.inl (.inl (.inl (.inr (Nat.beq_refl t)))))
  have hlook : ∀ t ∈ looks ops.toList x.1, gt (stE (doneB listed) 0 l S0).tmps t = gt (stE (fun j => decide (j < i)) 0 l S0).tmps t := by
    intro t ht
    refine stE_tmp l 0 S0 S0 rfl fun k y hy hyd => ?_
    simp only [Nat.zero_add]
    by_cases hki : k = i
    · subst hki; rw [hni]; simp
    · exact hwr_tmp t (.inl ht) k y hy hyd hki
  have hwr_own : ∀ n, (n ∈ x.2.e.acc ∨ n ∈ x.2.e.names) → ∀ (k : Nat) (y : Oper × Tr1), l[k]? = some y → n ∈ y.2.e.upd.map (·.1) → k ≠ i → doneB listed k = decide (k < i) := by
    intro n hn k y hy hyn hki
    refine hsame k y hy (.inl ?_) hki
    simp only [confl, Bool.or_eq_true, List.any_eq_true]
    refine .inl (.inl (.inl (.inr ⟨n, by unfold Eff.names; exact List.mem_append_left _ hyn, ?_⟩)))
    rcases hn with hn | hn
    · exact .inl (by simpa using hn)
    · exact .inr (by simpa using hn)
  have hacc : ∀ n, (n ∈ x.2.e.acc ∨ n ∈ x.2.e.names) → gt (stE (doneB listed) 0 l S0).own n = gt (stE (fun j => decide (j < i)) 0 l S0).own n := by
    intro n hn
    refine stE_own l 0 S0 S0 rfl fun k y hy hyn => ?_
    simp only [Nat.zero_add]
    by_cases hki : k = i
    · subst hki; rw [hni]; simp
    · exact hwr_own n hn k y hy hyn hki
  obtain ⟨hd, hg, hex, hnex⟩ := hat
  -- the state behind the operation
  have hset : ∀ k, doneB (listed.setIfInBounds i true) k = if k = i then true else doneB listed k := by
    intro k
    unfold doneB
    by_cases hk : k = i
    · subst hk; simp [hilt]
    · rw [if_neg hk]; simp [Array.getElem?_setIfInBounds_ne (Ne.symm hk)]
  have hnext : ∀ E' M' a' w', Sim C E' M' ((stE (doneB listed) 0 l S0).app x.1.dst x.2.e) a' w' → K a' w' := by
    intro E' M' a' w' h
    refine hK E' M' a' w' (h.weaken (fun t y hy => .inl ?_) (fun n o ho => ?_))
    · rw [← hy]
      by_cases hdt : x.1.dst = some t
      · rw [stE_last_tmp l 0 S0 i x hi hdt (by rw [Nat.zero_add, hset]; simp) fun k z hz hik hzd => by
          rw [Nat.zero_add, hset, if_neg (by omega), hwr_tmp t (.inr hdt) k z hz hzd (by omega)]; simp; omega]
        simp [AState.app, putT, hdt, gt_cons]
      · rw [stE_tmp (E := doneB (listed.setIfInBounds i true)) (E' := doneB listed) l 0 S0 S0 rfl fun k z hz hzd => by
          rw [Nat.zero_add, hset]
          by_cases hk : k = i
          · subst hk; rw [hi] at hz; cases hz; exact (hdt hzd).elim
          · rw [if_neg hk]]
        simp only [AState.app, putT]
        cases hxd : x.1.dst with
        | none => rfl
        | some d => simp only [gt_cons]; rw [if_neg (fun e => hdt (by rw [hxd, e]))]
    · rw [← ho]
      simp only [AState.own?]
      congr 1
      by_cases hn : n ∈ x.2.e.upd.map (·.1)
      · rw [stE_last_own l 0 S0 i x hi hn (by rw [Nat.zero_add, hset]; simp) fun k z hz hik hzn => by
          rw [Nat.zero_add, hset, if_neg (by omega), hwr_own n (.inr (by unfold Eff.names; exact List.mem_append_left _ hn)) k z hz hzn (by omega)]; simp; omega]
        obtain ⟨u, hu⟩ := gt_some hn
        simp [AState.app, gt_app, hu]
      · rw [stE_own (E := doneB (listed.setIfInBounds i true)) (E' := doneB listed) l 0 S0 S0 rfl fun k z hz hzn => by
          rw [Nat.zero_add, hset]
          by_cases hk : k = i
          · subst hk; rw [hi] at hz; cases hz; exact (hn hzn).elim
          · rw [if_neg hk]]
        simp only [AState.app, gt_app, gt_none hn]
  have hwant : Region.wanted x.1 (yielded ops a.tmps) = x.2.ex := by
    unfold Region.wanted
    cases hgu : x.1.guard with
    | none => rw [hgu] at hg; exact hg.symm
    | some g =>
      obtain ⟨j, want⟩ := g
      rw [hgu] at hg
      obtain ⟨b, hb1, hb2⟩ := hg
      rw [← guardB_congr hgu hlook] at hb1
      have hy := hs.guard hb1
      rw [hb2]
      exact hy
  unfold wpOp
  rw [hio]
  simp only [hwant]
  cases hx : x.2.ex with
  | false =>
    simp only [Bool.false_eq_true, if_false]
    have he := hnex hx
    refine hnext E M _ w ?_
    exact hs.app_val (o := x.1) hd (by rw [he]) (by rw [he]; exact undefH)
  | true =>
    simp only [if_true]
    left
    obtain ⟨hv, hnew⟩ := hex hx
    have hv' := AVal_congr (ρ' := ev (stE (doneB listed) 0 l S0)) (ω' := (stE (doneB listed) 0 l S0).own?) (fun y hy => by
      cases y with
      | tmp t => simp only [ev, AState.get, hlook t (mem_looks_tmp hy)]
      | const v => rfl
      | global g => rfl
      | func f => rfl) (fun n hn => by simp only [AState.own?, hacc n (.inl hn)]) hv
    have hfresh : ∀ d ∈ x.2.e.new, (stE (doneB listed) 0 l S0).fresh d = true ∧ d < given := by
      intro d hdn
      obtain ⟨hf, hlt⟩ := hnew d hdn
      refine ⟨?_, hlt⟩
      have hown : (stE (doneB listed) 0 l S0).own? d = (stE (fun j => decide (j < i)) 0 l S0).own? d := by
        simp only [AState.own?, hacc d (.inr (by unfold Eff.names; exact List.mem_append_right _ hdn))]
      have hno : ∀ (k : Nat) (y : Oper × Tr1), l[k]? = some y → doneB listed k = true → y.2.e.has d = true → k < i := by
        intro k y hy hk hh
        by_cases hki : k = i
        · subst hki; rw [hk] at hni; cases hni
        · have := hsame k y hy (.inr (by
            simp only [confl, Bool.or_eq_true, List.any_eq_true]
            exact .inl (.inr ⟨d, hdn, hh⟩))) hki
          rw [hk] at this; simpa using this.symm
      simp only [AState.fresh, Bool.and_eq_true, List.all_eq_true, Bool.not_eq_true'] at hf ⊢
      obtain ⟨⟨hf1, hf2⟩, hf3⟩ := hf
      refine ⟨⟨by rw [hown]; exact hf1, fun p hp => ?_⟩, fun p hp => ?_⟩
      · rcases stE_mem_tmp l 0 S0 p hp with h | ⟨k, y, h1, h2, h3', h3⟩
        · exact hf2 p ((stE_sub l 0 S0).1 p h)
        · simp only [Nat.zero_add] at h2
          cases hh : H.has d p.2 with
          | false => rfl
          | true =>
            rw [h3] at hh
            have hki := hno k y h1 h2 (by simp [Eff.has, hh])
            have := (stE_put (E := fun j => decide (j < i)) l 0 S0 k y h1 (by simpa using hki)).1 p.1 h3'
            have := hf2 _ this
            simp only at this
            rw [hh] at this; cases this
      · rcases stE_mem_own l 0 S0 p hp with h | ⟨k, y, h1, h2, h3⟩
        · exact hf3 p ((stE_sub l 0 S0).2 p h)
        · simp only [Nat.zero_add] at h2
          cases hpo : p.2 with
          | none => rfl
          | some oo =>
            simp only []
            cases hh : Own.has d oo with
            | false => rfl
            | true =>
              have hki := hno k y h1 h2 (by
                simp only [Eff.has, Bool.or_eq_true, List.any_eq_true]
                exact .inr ⟨p, h3, by rw [hpo]; exact hh⟩)
              have := (stE_put (E := fun j => decide (j < i)) l 0 S0 k y h1 (by simpa using hki)).2 p h3
              have := hf3 p this
              rw [hpo] at this
              simp [hh] at this
    have hfin : AVal C.P nm x.1 (ev (stE (doneB listed) 0 l S0)) (stE (doneB listed) 0 l S0).own? (fun e => (∀ d ∈ e.new, (stE (doneB listed) 0 l S0).fresh d = true ∧ d < given) ∧ e = x.2.e) :=
      AVal_mono (fun e he => ⟨by rw [he]; exact hfresh, he⟩) hv'
    exact ok_all hd E M _ a w K Q (fun e => e = x.2.e) hs hfin fun e E' M' a' w' he h => hnext E' M' a' w' (he ▸ h)

theorem draw_any (hl : l.map (·.1) = ops.toList) (hdid : DidAll C.P C.N nm ops.toList l S0) (hp : pairsOk ops.toList (befs [] ops.toList) 0 [] l = true)
    (hlow : ∀ (k : Nat) (o : Oper) (e : Edge), ops[k]? = some o → e ∈ o.after → Region.binds .any e = true → e.on < k) {Q : Exit → Act → World → Prop}
    (hQ : ∀ E' M' a' w', Sim C E' M' (stE (fun _ => true) 0 l S0) a' w' → Q .normal a' w') :
    ∀ (fuel : Nat) (listed : Array Bool) (E : Env) (M : Mem) (a : Act) (w : World), listed.size = ops.size → listed.toList.countP (fun b => !b) ≤ fuel →
      (∀ k o e, ops[k]? = some o → doneB listed k = true → e ∈ o.after → Region.binds .any e = true → doneB listed e.on = true) → Sim C E M (stE (doneB listed) 0 l S0) a w →
      wpAny C.P .any ops Q fuel listed a w := by
  have hlen : l.length = ops.size := by
    have := congrArg List.length hl; simpa using this
  -- if nothing is ready, all is done
  have hall : ∀ (listed : Array Bool), listed.size = ops.size → Region.ready .any ops listed = [] → ∀ k, k < ops.size → doneB listed k = true := by
    intro listed hsz hr k
    induction k using Nat.strongRecOn with
    | _ k ih =>
      intro hk
      cases hd : doneB listed k with
      | true => rfl
      | false =>
        have ho : ops[k]? = some ops[k] := Array.getElem?_eq_getElem hk
        have : k ∈ Region.ready .any ops listed := by
          rw [mem_ready]
          refine ⟨?_, ops[k], ho, fun e he hb => ih e.on (hlow k _ e ho he hb) (Nat.lt_trans (hlow k _ e ho he hb) hk)⟩
          unfold doneB at hd
          have hkl : k < listed.size := by omega
          simp [hkl] at hd ⊢; exact hd
        rw [hr] at this; cases this
  have hend : ∀ (listed : Array Bool) (E : Env) (M : Mem) (a : Act) (w : World), listed.size = ops.size → Region.ready .any ops listed = [] → Sim C E M (stE (doneB listed) 0 l S0) a w → Q .normal a w := by
    intro listed E M a w hsz hr hs
    refine hQ E M a w (hs.weaken (fun t y hy => .inl ?_) (fun n o ho => ?_))
    · rw [← hy]
      exact stE_tmp l 0 S0 S0 rfl fun k y hy _ => by
        rw [Nat.zero_add]; exact hall listed hsz hr k (by have := (List.getElem?_eq_some_iff.1 hy).1; omega)
    · rw [← ho]
      simp only [AState.own?]
      have he := stE_own (n := n) (E := doneB listed) (E' := fun _ => true) l 0 S0 S0 rfl fun k y hy _ => by
        rw [Nat.zero_add]; exact hall listed hsz hr k (by have := (List.getElem?_eq_some_iff.1 hy).1; omega)
      rw [he]
  intro fuel
  induction fuel with
  | zero =>
    intro listed E M a w hsz hc hdown hs
    have hr : Region.ready .any ops listed = [] := by
      cases hr : Region.ready .any ops listed with
      | nil => rfl
      | cons i r =>
        have hi : i ∈ Region.ready .any ops listed := by rw [hr]; exact List.mem_cons_self
        rw [mem_ready] at hi
        have h0 : listed.toList.countP (fun b => !b) = 0 := by omega
        rw [List.countP_eq_zero] at h0
        have hil : i < listed.size := by
          obtain ⟨_, o, ho, _⟩ := hi
          have := (Array.getElem?_eq_some_iff.1 ho).1; omega
        have := h0 listed[i] (by simp)
        have h1 := hi.1
        simp [hil] at h1
        simp [h1] at this
    exact ⟨hr, hend listed E M a w hsz hr hs⟩
  | succ fuel ih =>
    intro listed E M a w hsz hc hdown hs
    refine ⟨fun hr => hend listed E M a w hsz hr hs, fun i hi => ?_⟩
    rw [mem_ready] at hi
    obtain ⟨h0, o, ho, hready⟩ := hi
    have hio : i < ops.size := (Array.getElem?_eq_some_iff.1 ho).1
    have hil : i < listed.size := by omega
    obtain ⟨x, hx⟩ : ∃ x, l[i]? = some x := ⟨l[i]'(by omega), List.getElem?_eq_getElem (by omega)⟩
    have hxo : x.1 = o := by
      have : (l.map (·.1))[i]? = some x.1 := by rw [List.getElem?_map, hx]; rfl
      rw [hl] at this
      simp [ho] at this; exact this.symm
    have hni : doneB listed i = false := by
      unfold doneB; simp [hil] at h0 ⊢; exact h0
    refine draw_step hl hdid hp hsz hdown hx hni (fun e he hb => hready e (by rw [← hxo]; exact he) hb) hs fun E' M' a' w' hs' => ?_
    refine ih _ E' M' a' w' (by simpa using hsz) ?_ (fun k o' e hk hd he hb => ?_) hs'
    · rw [Array.toList_setIfInBounds, List.countP_set (by simpa using hil)]
      have hli : listed.toList[i]'(by simpa using hil) = false := by simpa [hil] using h0
      have hpos : 0 < listed.toList.countP (fun b => !b) := List.countP_pos_iff.2 ⟨false, by rw [← hli]; exact List.getElem_mem _, rfl⟩
      simp only [hli, Bool.not_false, if_true, Bool.not_true, Bool.false_eq_true, if_false]
      omega
    · unfold doneB at hd ⊢
      by_cases hki : k = i
      · subst hki
        rw [ho] at hk; cases hk
        exact getD_set_true (hready e he hb)
      · rw [getD_set_ne false (Ne.symm hki)] at hd
        exact getD_set_true (hdown k o' e hk hd he hb)

/-- A REGION THAT DRAWS ITS ORDER. -/
theorem AWp.draw {id : Nat} {ops : Array Oper} {S : AState} {Q : Exit → AState → Prop} (nm : Nat → Nat) (hm : C.P.follows .mixedOrders = true)
    (h : aopsT C.P C.N nm ops.toList ops.toList S [] (fun S' tr => drawOk ops.toList tr = true ∧ Q .normal S')) : AWp C (.region id ops true) S Q := fun E M a w hs => by
  obtain ⟨l, h1, h2, h3, h4⟩ := aopsT_ex h
  have hz : ops.toList.zip (l.map (·.2)) = l := by
    rw [← h1]
    have : ∀ l : List (Oper × Tr1), (l.map (·.1)).zip (l.map (·.2)) = l := by
      intro l
      induction l with
      | nil => rfl
      | cons x r ih => simp [ih]
    exact this l
  simp only [List.nil_append, drawOk, Bool.and_eq_true, hz] at h3
  obtain ⟨hp, hlow⟩ := h3
  refine wp_region_any hm ?_
  refine draw_any (C := C) (nm := nm) (l := l) (S0 := S) h1 h2 hp (fun k o e ho he hb => ?_) (fun E' M' a' w' hs' => ⟨_, E', M', h4, hs'⟩) ops.size _ E M a _ (by simp) ?_ (fun k o e _ hd => ?_) ?_
  · rw [List.all_eq_true] at hlow
    have := hlow (o, k) (List.mk_mem_zipIdx_iff_getElem?.2 (by simpa using ho))
    simp only at this
    rw [Array.all_eq_true_iff_forall_mem] at this
    have := this e he
    simp only [hb, Bool.not_true, Bool.false_or] at this
    exact of_eq_true (by rw [← Nat.blt_eq, this]; simp)
  · refine Nat.le_trans List.countP_le_length (by simp)
  · unfold doneB at hd
    by_cases hk : k < ops.size
    · simp [hk] at hd
    · simp [hk] at hd
  · have none : ∀ (l : List (Oper × Tr1)) (i : Nat) (S : AState), stE (doneB (Array.replicate ops.size false)) i l S = S := by
      intro l
      induction l with
      | nil => intro i S; rfl
      | cons y r ih =>
        intro i S; obtain ⟨o, t⟩ := y
        have : doneB (Array.replicate ops.size false) i = false := by
          unfold doneB
          by_cases hk : i < ops.size
          · simp [hk]
          · simp [hk]
        simp only [stE, this]
        exact ih _ _
    rw [none]
    exact hs.drew

end
/-! ### two operations whose order counts: either of both comes first, so that two evaluations serve every order -/
section
variable [Inhabited GMem]
/-- A list of operations that may be drawn. -/
inductive Runs (ops : Array Oper) : Array Bool → List Nat → Prop
  | nil {listed : Array Bool} (h : Region.ready .any ops listed = []) : Runs ops listed []
  | cons {listed : Array Bool} {i : Nat} {is : List Nat} (h : i ∈ Region.ready .any ops listed) (hr : Runs ops (listed.setIfInBounds i true) is) : Runs ops listed (i :: is)

theorem countP_set_lt {listed : Array Bool} {i : Nat} (h : listed.getD i true = false) : (listed.setIfInBounds i true).toList.countP (fun b => !b) < listed.toList.countP (fun b => !b) := by
  have hil : i < listed.size := by
    rcases Nat.lt_or_ge i listed.size with h2 | h2
    · exact h2
    · simp [Array.getElem?_eq_none h2] at h
  rw [Array.toList_setIfInBounds, List.countP_set (by simpa using hil)]
  have hli : listed.toList[i]'(by simpa using hil) = false := by simpa [hil] using h
  have hpos : 0 < listed.toList.countP (fun b => !b) := List.countP_pos_iff.2 ⟨false, by rw [← hli]; exact List.getElem_mem _, rfl⟩
  simp only [hli, Bool.not_false, if_true, Bool.not_true, Bool.false_eq_true, if_false]
  omega

theorem runs_linearise (ops : Array Oper) : ∀ (fuel t : Nat) (listed : Array Bool), listed.toList.countP (fun b => !b) ≤ fuel → Runs ops listed (Region.linearise.go .any ops fuel t listed []) := by
  intro fuel
  induction fuel with
  | zero =>
    intro t listed h
    simp only [Region.linearise.go, List.reverse_nil]
    refine .nil ?_
    cases hr : Region.ready .any ops listed with
    | nil => rfl
    | cons i r =>
      have hi : i ∈ Region.ready .any ops listed := by rw [hr]; exact List.mem_cons_self
      have := countP_set_lt (mem_ready.1 hi).1
      omega
  | succ fuel ih =>
    intro t listed h
    simp only [Region.linearise.go]
    change Runs ops listed (match (Region.ready .any ops listed)[t % (Region.ready .any ops listed).length]? with
      | some i => Region.linearise.go .any ops fuel (t / (Region.ready .any ops listed).length) (listed.setIfInBounds i true) [i]
      | none => [].reverse)
    cases hi : (Region.ready .any ops listed)[t % (Region.ready .any ops listed).length]? with
    | none =>
      refine .nil ?_
      cases hr : Region.ready .any ops listed with
      | nil => rfl
      | cons i r =>
        rw [hr] at hi
        rw [List.getElem?_eq_none_iff] at hi
        have := Nat.mod_lt t (show 0 < (i :: r).length by simp)
        omega
    | some i =>
      simp only
      rw [linearise_go_acc]
      have hm := List.mem_of_getElem? hi
      have := countP_set_lt (mem_ready.1 hm).1
      exact .cons hm (ih _ _ (by omega))

/-- The same operations at other places, and one that waits for another one. -/
def swq (p q k : Nat) : Nat := if k = p then q else if k = q then p else k
theorem swq_swq (p q k : Nat) : swq p q (swq p q k) = k := by
  unfold swq
  repeat' split
  all_goals omega

def varOp (s : Nat → Nat) (extra : Array Edge) (o : Oper) : Oper :=
  { dst := o.dst, op := o.op, type := o.type, pos := o.pos, after := (o.after.map fun e => { on := s e.on, ground := e.ground }) ++ extra, guard := o.guard.map fun g => (s g.1, g.2) }
def varOps (p q x y : Nat) (ops : Array Oper) : Array Oper :=
  ((List.range ops.size).map fun k => match ops[swq p q k]? with
    | some o => varOp (swq p q) (if swq p q k = y then #[{ on := swq p q x, ground := .phase }] else #[]) o
    | none => default).toArray

theorem varOps_size (p q x y : Nat) (ops : Array Oper) : (varOps p q x y ops).size = ops.size := by simp [varOps]

theorem swq_lt {p q k n : Nat} (hp : p < n) (hq : q < n) : swq p q k < n ↔ k < n := by
  unfold swq
  repeat' split
  all_goals omega

theorem varOps_at {p q x y : Nat} {ops : Array Oper} (hp : p < ops.size) (hq : q < ops.size) {k : Nat} {o : Oper} (h : ops[k]? = some o) :
    (varOps p q x y ops)[swq p q k]? = some (varOp (swq p q) (if k = y then #[{ on := swq p q x, ground := .phase }] else #[]) o) := by
  have hk : k < ops.size := (Array.getElem?_eq_some_iff.1 h).1
  have hk2 : swq p q k < ops.size := (swq_lt hp hq).2 hk
  unfold varOps
  rw [List.getElem?_toArray, List.getElem?_map, List.getElem?_range hk2]
  simp only [Option.map_some, swq_swq, h]

theorem varOps_none {p q x y : Nat} {ops : Array Oper} (hp : p < ops.size) (hq : q < ops.size) {k : Nat} (h : ops[k]? = none) : (varOps p q x y ops)[swq p q k]? = none := by
  have hk : ¬ k < ops.size := by
    intro hk
    rw [Array.getElem?_eq_getElem hk] at h; cases h
  rw [Array.getElem?_eq_none_iff, varOps_size]
  have := (swq_lt (k := k) hp hq).1
  omega

theorem wpOps_var {P : Program} {p q x y : Nat} {ops : Array Oper} (hp : p < ops.size) (hq : q < ops.size) {Q : Exit → Act → World → Prop} :
    ∀ (is : List Nat) (a : Act) (w : World), wpOps P (varOps p q x y ops) Q (is.map (swq p q)) a w → wpOps P ops Q is a w
  | [], a, w, h => h
  | i :: is, a, w, h => by
    rw [List.map_cons, wpOps_cons] at h
    rw [wpOps_cons]
    unfold wpOp at *
    cases ho : ops[i]? with
    | none =>
      rw [varOps_none hp hq ho] at h
      exact wpOps_var hp hq is a w h
    | some o =>
      rw [varOps_at hp hq ho] at h
      simp only at h ⊢
      have hy : ∀ j, yielded (varOps p q x y ops) a.tmps (swq p q j) = yielded ops a.tmps j := by
        intro j
        unfold yielded
        cases hj : ops[j]? with
        | none => rw [varOps_none hp hq hj]
        | some z => rw [varOps_at hp hq hj]; rfl
      have hw : Region.wanted (varOp (swq p q) (if i = y then #[{ on := swq p q x, ground := .phase }] else #[]) o) (yielded (varOps p q x y ops) a.tmps) = Region.wanted o (yielded ops a.tmps) := by
        unfold Region.wanted varOp
        cases o.guard with
        | none => rfl
        | some g =>
          obtain ⟨j, want⟩ := g
          simp only [Option.map_some, hy]
      rw [hw] at h
      by_cases hz : Region.wanted o (yielded ops a.tmps) = true
      · rw [if_pos hz] at h ⊢
        rcases h with h | h
        · refine .inl ?_
          have h2 : o.wp P a w (wpOps P (varOps p q x y ops) Q (is.map (swq p q))) Q := h
          exact Oper.wp_mono (fun a w h => wpOps_var hp hq is a w h) h2
        · exact .inr h
      · rw [if_neg hz] at h ⊢
        exact wpOps_var hp hq is _ w h

/-- x is not behind y. -/
def bef (x y : Nat) : List Nat → Prop
  | [] => True
  | k :: r => k = x ∨ (k ≠ y ∧ bef x y r)

theorem bef_or {x y : Nat} (h : x ≠ y) : ∀ is : List Nat, bef x y is ∨ bef y x is
  | [] => .inl trivial
  | k :: r => by
    by_cases h1 : k = x
    · exact .inl (.inl h1)
    · by_cases h2 : k = y
      · exact .inr (.inl h2)
      · rcases bef_or h r with h3 | h3
        · exact .inl (.inr ⟨h2, h3⟩)
        · exact .inr (.inr ⟨h1, h3⟩)

theorem runs_var {p q x y : Nat} (hxy : x ≠ y) {ops : Array Oper} (hp : p < ops.size) (hq : q < ops.size) {listed : Array Bool} {is : List Nat} (h : Runs ops listed is) :
    ∀ listed' : Array Bool, listed.size = ops.size → listed'.size = ops.size → (∀ k, k < ops.size → doneB listed' (swq p q k) = doneB listed k) → (doneB listed x = true ∨ bef x y is) → Runs (varOps p q x y ops) listed' (is.map (swq p q)) := by
  have down : ∀ (listed listed' : Array Bool), listed.size = ops.size → listed'.size = ops.size → (∀ k, k < ops.size → doneB listed' (swq p q k) = doneB listed k) → ∀ k, swq p q k ∈ Region.ready .any (varOps p q x y ops) listed' → k ∈ Region.ready .any ops listed := by
    intro listed listed' hs hs' hd k hk
    rw [mem_ready] at hk ⊢
    obtain ⟨h1, o', ho', h2⟩ := hk
    cases ho : ops[k]? with
    | none => rw [varOps_none hp hq ho] at ho'; cases ho'
    | some o =>
      rw [varOps_at hp hq ho] at ho'
      cases ho'
      have hkl : k < ops.size := (Array.getElem?_eq_some_iff.1 ho).1
      have hkl2 : swq p q k < ops.size := (swq_lt hp hq).2 hkl
      refine ⟨?_, o, rfl, fun e he hb => ?_⟩
      · have := hd k hkl
        unfold doneB at this
        simp [hs, hs', hkl, hkl2] at this h1 ⊢
        rw [← this, h1]
      · have h3 := h2 { on := swq p q e.on, ground := e.ground } (by
          simp only [varOp, Array.mem_append, Array.mem_map]
          exact .inl ⟨e, he, rfl⟩) hb
        by_cases hel : e.on < ops.size
        · have := hd e.on hel
          unfold doneB at this
          rw [← this]; exact h3
        · have hel2 : ¬ swq p q e.on < ops.size := fun h => hel ((swq_lt hp hq).1 h)
          simp [hs', hel2] at h3
  induction h with
  | nil h0 =>
    intro listed' hs hs' hd _
    refine .nil ?_
    cases hr : Region.ready .any (varOps p q x y ops) listed' with
    | nil => rfl
    | cons i r =>
      have hi : swq p q (swq p q i) ∈ Region.ready .any (varOps p q x y ops) listed' := by rw [swq_swq, hr]; exact List.mem_cons_self
      have := down _ _ hs hs' hd _ hi
      rw [h0] at this; cases this
  | cons hm hr ih =>
    rename_i listed i is
    intro listed' hs hs' hd hb
    have hm' := mem_ready.1 hm
    obtain ⟨h1, o, ho, h2⟩ := hm'
    have hkl : i < ops.size := (Array.getElem?_eq_some_iff.1 ho).1
    have hkl2 : swq p q i < ops.size := (swq_lt hp hq).2 hkl
    refine .cons (mem_ready.2 ⟨?_, _, varOps_at hp hq ho, fun e he hbd => ?_⟩) (ih _ (by simpa using hs) (by simpa using hs') (fun k hk => ?_) ?_)
    · have := hd i hkl
      unfold doneB at this
      simp [hs, hs', hkl, hkl2] at this h1 ⊢
      rw [this, h1]
    · simp only [varOp, Array.mem_append, Array.mem_map] at he
      rcases he with ⟨e0, he0, rfl⟩ | he
      · have h3 := h2 e0 he0 hbd
        by_cases hel : e0.on < ops.size
        · have := hd e0.on hel
          unfold doneB at this
          rw [this]; exact h3
        · simp [hs, hel] at h3
      · by_cases hiy : i = y
        · rw [if_pos hiy] at he
          simp at he
          subst he
          have hx : doneB listed x = true := by
            rcases hb with hb | hb
            · exact hb
            · rcases hb with hb | hb
              · exact absurd (hb.symm.trans hiy) hxy
              · exact absurd hiy hb.1
          have hxl : x < ops.size := by
            unfold doneB at hx
            rcases Nat.lt_or_ge x listed.size with h | h
            · omega
            · simp [Array.getElem?_eq_none h] at hx
          have := hd x hxl
          unfold doneB at this hx
          simp only
          rw [this]; exact hx
        · rw [if_neg hiy] at he; simp at he
    · unfold doneB
      by_cases hki : k = i
      · subst hki
        simp [hs, hs', hkl, hkl2]
      · have : swq p q k ≠ swq p q i := fun e => hki (by rw [← swq_swq p q k, e, swq_swq])
        rw [getD_set_ne false (Ne.symm hki), getD_set_ne false (Ne.symm this)]
        exact hd k hk
    · rcases hb with hb | hb
      · exact .inl (getD_set_true hb)
      · rcases hb with hb | hb
        · refine .inl ?_
          subst hb
          unfold doneB
          simp [hs, hkl]
        · exact .inr hb.2

/-- Any list that may be drawn, over one evaluation in the order of the text. -/
theorem draw_runs {C : Ctx} {nm : Nat → Nat} {ops : Array Oper} {l : List (Oper × Tr1)} {S0 : AState} (hl : l.map (·.1) = ops.toList) (hdid : DidAll C.P C.N nm ops.toList l S0) (hp : pairsOk ops.toList (befs [] ops.toList) 0 [] l = true)
    (hlow : ∀ (k : Nat) (o : Oper) (e : Edge), ops[k]? = some o → e ∈ o.after → Region.binds .any e = true → e.on < k) {Q : Exit → Act → World → Prop}
    (hQ : ∀ E' M' a' w', Sim C E' M' (stE (fun _ => true) 0 l S0) a' w' → Q .normal a' w') {listed : Array Bool} {is : List Nat} (hr : Runs ops listed is) :
    ∀ (E : Env) (M : Mem) (a : Act) (w : World), listed.size = ops.size →
      (∀ k o e, ops[k]? = some o → doneB listed k = true → e ∈ o.after → Region.binds .any e = true → doneB listed e.on = true) → Sim C E M (stE (doneB listed) 0 l S0) a w →
      wpOps C.P ops Q is a w := by
  have hlen : l.length = ops.size := by
    have := congrArg List.length hl; simpa using this
  induction hr with
  | nil hr =>
    rename_i listed
    intro E M a w hsz hdown hs
    have := draw_any (C := C) (nm := nm) hl hdid hp hlow hQ 0 listed E M a w hsz
      (by
        refine Nat.le_of_eq (List.countP_eq_zero.2 fun b hb => ?_)
        obtain ⟨i, hi, rfl⟩ := List.getElem_of_mem hb
        cases hbi : listed.toList[i] with
        | true => simp
        | false =>
          exfalso
          have hall : ∀ k, k < ops.size → doneB listed k = true := by
            intro k
            induction k using Nat.strongRecOn with
            | _ k ih =>
              intro hk
              cases hd : doneB listed k with
              | true => rfl
              | false =>
                have ho : ops[k]? = some ops[k] := Array.getElem?_eq_getElem hk
                have : k ∈ Region.ready .any ops listed := by
                  rw [mem_ready]
                  refine ⟨?_, ops[k], ho, fun e he hb => ih e.on (hlow k _ e ho he hb) (Nat.lt_trans (hlow k _ e ho he hb) hk)⟩
                  unfold doneB at hd
                  have hkl : k < listed.size := by omega
                  simp [hkl] at hd ⊢; exact hd
                rw [hr] at this; cases this
          have hil : i < listed.size := by simpa using hi
          have := hall i (by omega)
          unfold doneB at this
          simp [hil] at this hbi
          rw [hbi] at this; cases this) hdown hs
    exact this.2
  | cons hm hr ih =>
    rename_i listed i is
    intro E M a w hsz hdown hs
    obtain ⟨h0, o, ho, hready⟩ := mem_ready.1 hm
    have hio : i < ops.size := (Array.getElem?_eq_some_iff.1 ho).1
    have hil : i < listed.size := by omega
    obtain ⟨x, hx⟩ : ∃ x, l[i]? = some x := ⟨l[i]'(by omega), List.getElem?_eq_getElem (by omega)⟩
    have hxo : x.1 = o := by
      have : (l.map (·.1))[i]? = some x.1 := by rw [List.getElem?_map, hx]; rfl
      rw [hl] at this
      simp [ho] at this; exact this.symm
    have hni : doneB listed i = false := by
      unfold doneB; simp [hil] at h0 ⊢; exact h0
    rw [wpOps_cons]
    refine draw_step hl hdid hp hsz hdown hx hni (fun e he hb => hready e (by rw [← hxo]; exact he) hb) hs fun E' M' a' w' hs' => ?_
    refine ih E' M' a' w' (by simpa using hsz) (fun k o' e hk hd he hb => ?_) hs'
    unfold doneB at hd ⊢
    by_cases hki : k = i
    · subst hki
      rw [ho] at hk; cases hk
      exact getD_set_true (hready e he hb)
    · rw [getD_set_ne false (Ne.symm hki)] at hd
      exact getD_set_true (hdown k o' e hk hd he hb)

/-- A REGION THAT DRAWS ITS ORDER, in which the order of the operations i and j counts. -/
theorem AWp.draw2 {C : Ctx} {id : Nat} {ops : Array Oper} {S : AState} {Q : Exit → AState → Prop} (nm : Nat → Nat) (i j : Nat) (hij : i ≠ j) (hi : i < ops.size) (hj : j < ops.size) (hm : C.P.follows .mixedOrders = true)
    (hA : aopsT C.P C.N nm (varOps i i i j ops).toList (varOps i i i j ops).toList S [] (fun S' tr => drawOk (varOps i i i j ops).toList tr = true ∧ Q .normal S'))
    (hB : aopsT C.P C.N nm (varOps i j j i ops).toList (varOps i j j i ops).toList S [] (fun S' tr => drawOk (varOps i j j i ops).toList tr = true ∧ Q .normal S')) : AWp C (.region id ops true) S Q := fun E M a w hs => by
  refine wp_region_draw fun t => ?_
  simp only [Region.schedule, hm, Bool.true_or, if_true]
  have hr : Runs ops (Array.replicate ops.size false) (Region.linearise .any ops t) := runs_linearise ops ops.size t _ (Nat.le_trans List.countP_le_length (by simp))
  have key : ∀ (p q x y : Nat), p < ops.size → q < ops.size → x ≠ y → bef x y (Region.linearise .any ops t) →
      aopsT C.P C.N nm (varOps p q x y ops).toList (varOps p q x y ops).toList S [] (fun S' tr => drawOk (varOps p q x y ops).toList tr = true ∧ Q .normal S') →
      wpOps C.P ops (fun e a' w' => ∃ S' E' M', Q e S' ∧ Sim C E' M' S' a' w') (Region.linearise .any ops t) a { w with drawn := w.drawn + 1 } := by
    intro p q x y hp hq hxy hb h
    refine wpOps_var (p := p) (q := q) (x := x) (y := y) hp hq _ _ _ ?_
    obtain ⟨l, h1, h2, h3, h4⟩ := aopsT_ex h
    have hz : (varOps p q x y ops).toList.zip (l.map (·.2)) = l := by
      rw [← h1]
      have : ∀ l : List (Oper × Tr1), (l.map (·.1)).zip (l.map (·.2)) = l := by
        intro l
        induction l with
        | nil => rfl
        | cons x r ih => simp [ih]
      exact this l
    simp only [List.nil_append, drawOk, Bool.and_eq_true, hz] at h3
    obtain ⟨hp', hlow⟩ := h3
    have hd0 : ∀ k, doneB (Array.replicate ops.size false) k = false := by
      intro k
      unfold doneB
      by_cases hk : k < ops.size
      · simp [hk]
      · simp [hk]
    refine draw_runs (C := C) (nm := nm) (l := l) (S0 := S) h1 h2 hp' (fun k o e ho he hb => ?_) (fun E' M' a' w' hs' => ⟨_, E', M', h4, hs'⟩)
      (runs_var (p := p) (q := q) (x := x) (y := y) hxy hp hq hr (Array.replicate ops.size false) (by simp) (by simp) (fun k _ => by rw [hd0, hd0]) (.inr hb)) E M a _ (by rw [varOps_size]; simp) (fun k o e _ hd => ?_) ?_
    · rw [List.all_eq_true] at hlow
      have := hlow (o, k) (List.mk_mem_zipIdx_iff_getElem?.2 (by simpa using ho))
      simp only at this
      rw [Array.all_eq_true_iff_forall_mem] at this
      have := this e he
      simp only [hb, Bool.not_true, Bool.false_or] at this
      exact of_eq_true (by rw [← Nat.blt_eq, this]; simp)
    · rw [hd0] at hd; cases hd
    · have none : ∀ (l : List (Oper × Tr1)) (i : Nat) (S : AState), stE (doneB (Array.replicate ops.size false)) i l S = S := by
        intro l
        induction l with
        | nil => intro i S; rfl
        | cons x r ih =>
          intro i S; obtain ⟨o, t⟩ := x
          simp only [stE, hd0]
          exact ih _ _
      rw [none]
      exact hs.drew
  rcases bef_or hij (Region.linearise .any ops t) with hb | hb
  · exact key i i i j hi hi hij hb hA
  · exact key i j j i hi hj (Ne.symm hij) hb hB

end
end Go.Awp
