/-
  The logic of abstract states: regions that draw their order: the theorem.
-/
import Derived.Test.YtnbkpokcfcednaaDoorAwpO
namespace Go.Awp
set_option linter.unusedSectionVars false
variable [Inhabited GMem]

theorem mem_looks_tmp {all : List Oper} {o : Oper} {t : Tmp} (h : Operand.tmp t ∈ o.op.operands) : t ∈ looks all o := by
  unfold looks
  refine List.mem_append_left _ (List.mem_filterMap.2 ⟨_, Array.mem_toList_iff.2 h, rfl⟩)

theorem guardB_congr {S S' : AState} {all : List Oper} {o : Oper} {j : Nat} {w : Bool} (hg : o.guard = some (j, w)) (h : ∀ t ∈ looks all o, gt S'.tmps t = gt S.tmps t) : guardB S' all j w = guardB S all j w := by
  unfold guardB
  cases hj : all[j]? with
  | none => rfl
  | some x =>
    cases hd : x.dst with
    | none => simp [hd]
    | some d =>
      have : d ∈ looks all o := by
        unfold looks
        refine List.mem_append_right _ ?_
        simp [hg, hj, hd]
      simp only [hd, AState.get, h d this]

section
variable {C : Ctx} {nm : Nat → Nat} {ops : Array Oper} {l : List (Oper × Tr1)} {S0 : AState}

/-- Which operations have been done. -/
def doneB (listed : Array Bool) (k : Nat) : Bool := listed.getD k false

theorem draw_step (hl : l.map (·.1) = ops.toList) (hdid : DidAll C.P C.N nm ops.toList l S0)
    (hp : pairsOk ops.toList (befs [] ops.toList) 0 [] l = true) {listed : Array Bool} (hsz : listed.size = ops.size)
    (hdown : ∀ k o e, ops[k]? = some o → doneB listed k = true → e ∈ o.after → Region.binds .any e = true → doneB listed e.on = true)
    {i : Nat} {x : Oper × Tr1} (hi : l[i]? = some x) (hni : doneB listed i = false) (hready : ∀ e ∈ x.1.after, Region.binds .any e = true → doneB listed e.on = true)
    {E : Env} {M : Mem} {a : Act} {w : World} (hs : Sim C E M (stE (doneB listed) 0 l S0) a w) {K : Act → World → Prop} {Q : Exit → Act → World → Prop}
    (hK : ∀ E' M' a' w', Sim C E' M' (stE (doneB (listed.setIfInBounds i true)) 0 l S0) a' w' → K a' w') : wpOp C.P ops Q i K a w := by
  have hio : ops[i]? = some x.1 := by
    have : (l.map (·.1))[i]? = some x.1 := by rw [List.getElem?_map, hi]; rfl
    rw [hl] at this; simpa using this
  have hlo : ∀ (k : Nat) (y : Oper × Tr1), l[k]? = some y → ops[k]? = some y.1 := by
    intro k y hy
    have : (l.map (·.1))[k]? = some y.1 := by rw [List.getElem?_map, hy]; rfl
    rw [hl] at this; simpa using this
  have hilt : i < listed.size := by rw [hsz]; exact (Array.getElem?_eq_some_iff.1 hio).1
  -- what hangs ahead of what is done is done
  have hahead : ∀ j k, Ahead ops.toList j k → doneB listed k = true → doneB listed j = true := by
    intro j k h
    induction h with
    | one ho he hb => intro hk; exact hdown _ _ _ (by simpa using ho) hk he hb
    | more ho he hb _ ih => intro hk; exact ih (hdown _ _ _ (by simpa using ho) hk he hb)
  have hbef : ∀ j k m, (befs [] ops.toList)[k]? = some m → m.testBit j = true → Ahead ops.toList j k := fun j k m hm hb =>
    befs_spec ops.toList [] (fun j o h => by simpa using h) (fun j m i h => by simp at h) k m j hm hb
  have horder : ∀ (j k : Nat) (y z : Oper × Tr1), j < k → l[j]? = some y → l[k]? = some z → confl ops.toList y z = true → Ahead ops.toList j k := by
    intro j k y z hjk hy hz hc
    have := pairsOk_spec l [] hp j k y z hjk (Nat.zero_le _) (by simpa using hy) (by simpa using hz) hc
    cases hm : (befs [] ops.toList)[k]? with
    | none => rw [hm] at this; simp at this
    | some m => rw [hm] at this; exact hbef j k m hm this
  have hreadyA : ∀ j, Ahead ops.toList j i → doneB listed j = true := by
    intro j h
    cases h with
    | one ho he hb => exact hready _ (by rw [Array.getElem?_toList, hio] at ho; cases ho; exact he) hb
    | more ho he hb h => exact hahead _ _ h (hready _ (by rw [Array.getElem?_toList, hio] at ho; cases ho; exact he) hb)
  have hsame : ∀ (k : Nat) (y : Oper × Tr1), l[k]? = some y → (confl ops.toList y x = true ∨ confl ops.toList x y = true) → k ≠ i → doneB listed k = decide (k < i) := by
    intro k y hy hc hki
    rcases Nat.lt_or_gt_of_ne hki with h | h
    · have hc' : confl ops.toList y x = true := by
        rcases hc with hc | hc
        · exact hc
        · simp only [confl, Bool.or_eq_true, List.any_eq_true] at hc ⊢
          rcases hc with (((((h1 | h1) | h1) | ⟨n, h2, h3⟩) | ⟨n, h2, h3⟩) | ⟨n, h2, h3⟩) | ⟨n, h2, h3⟩
          · exact .inl (.inl (.inl (.inl (.inl (.inr h1)))))
          · exact .inl (.inl (.inl (.inl (.inl (.inl h1)))))
          · refine .inl (.inl (.inl (.inl (.inr ?_))))
            cases hx : x.1.dst <;> cases hyd : y.1.dst <;> rw [hx, hyd] at h1 <;> simp at h1 ⊢
            exact h1.symm
          · rcases h3 with h3 | h3
            · exact .inl (.inl (.inr ⟨n, h2, h3⟩))
            · exact .inl (.inl (.inl (.inr ⟨n, by simpa using h3, .inr (by simpa using h2)⟩)))
          · exact .inl (.inl (.inl (.inr ⟨n, h2, .inl h3⟩)))
          · exact .inr ⟨n, h2, h3⟩
          · exact .inl (.inr ⟨n, h2, h3⟩)
      rw [hreadyA k (horder k i y x h hy hi hc')]; simp [h]
    · have hc' : confl ops.toList x y = true := by
        rcases hc with hc | hc
        · simp only [confl, Bool.or_eq_true, List.any_eq_true] at hc ⊢
          rcases hc with (((((h1 | h1) | h1) | ⟨n, h2, h3⟩) | ⟨n, h2, h3⟩) | ⟨n, h2, h3⟩) | ⟨n, h2, h3⟩
          · exact .inl (.inl (.inl (.inl (.inl (.inr h1)))))
          · exact .inl (.inl (.inl (.inl (.inl (.inl h1)))))
          · refine .inl (.inl (.inl (.inl (.inr ?_))))
            cases hx : x.1.dst <;> cases hyd : y.1.dst <;> rw [hx, hyd] at h1 <;> simp at h1 ⊢
            exact h1.symm
          · rcases h3 with h3 | h3
            · exact .inl (.inl (.inr ⟨n, h2, h3⟩))
            · exact .inl (.inl (.inl (.inr ⟨n, by simpa using h3, .inr (by simpa using h2)⟩)))
          · exact .inl (.inl (.inl (.inr ⟨n, h2, .inl h3⟩)))
          · exact .inr ⟨n, h2, h3⟩
          · exact .inl (.inr ⟨n, h2, h3⟩)
        · exact hc
      have hA := horder i k x y h hi hy hc'
      cases hd : doneB listed k with
      | false => simp; omega
      | true => rw [hahead i k hA hd] at hni; cases hni
  have hat := DidAll.at l 0 S0 hdid i x hi
  simp only [Nat.zero_add] at hat
  have hwr_tmp : ∀ t, (t ∈ looks ops.toList x.1 ∨ x.1.dst = some t) → ∀ (k : Nat) (y : Oper × Tr1), l[k]? = some y → y.1.dst = some t → k ≠ i → doneB listed k = decide (k < i) := by
    intro t ht k y hy hyd hki
    refine hsame k y hy ?_ hki
    rcases ht with ht | ht
    · left; simp only [confl, hyd, Bool.or_eq_true]; exact .inl (.inl (.inl (.inl (.inl (.inl (by simpa using ht))))))
    · left; simp only [confl, hyd, ht, Bool.or_eq_true]; exact .inl (.inl (.inl (.inl (.inr (Nat.beq_refl t)))))
  have hlook : ∀ t ∈ looks ops.toList x.1, gt (stE (doneB listed) 0 l S0).tmps t = gt (stE (fun j => decide (j < i)) 0 l S0).tmps t := by
    intro t ht
    refine stE_tmp l 0 S0 S0 rfl fun k y hy hyd => ?_
    simp only [Nat.zero_add]
    by_cases hki : k = i
    · subst hki; rw [hni]; simp
    · exact hwr_tmp t (.inl ht) k y hy hyd hki
  have hwr_own : ∀ n, (n ∈ x.2.e.acc ∨ n ∈ x.2.e.names) → ∀ (k : Nat) (y : Oper × Tr1), l[k]? = some y → n ∈ y.2.e.upd.map (·.1) → k ≠ i → doneB listed k = decide (k < i) := by
    intro n hn k y hy hyn hki
    refine hsame k y hy (.inl ?_) hki
    simp only [confl, Bool.or_eq_true, List.any_eq_true]
    refine .inl (.inl (.inl (.inr ⟨n, by unfold Eff.names; exact List.mem_append_left _ hyn, ?_⟩)))
    rcases hn with hn | hn
    · exact .inl (by simpa using hn)
    · exact .inr (by simpa using hn)
  have hacc : ∀ n, (n ∈ x.2.e.acc ∨ n ∈ x.2.e.names) → gt (stE (doneB listed) 0 l S0).own n = gt (stE (fun j => decide (j < i)) 0 l S0).own n := by
    intro n hn
    refine stE_own l 0 S0 S0 rfl fun k y hy hyn => ?_
    simp only [Nat.zero_add]
    by_cases hki : k = i
    · subst hki; rw [hni]; simp
    · exact hwr_own n hn k y hy hyn hki
  obtain ⟨hd, hg, hex, hnex⟩ := hat
  -- the state behind the operation
  have hset : ∀ k, doneB (listed.setIfInBounds i true) k = if k = i then true else doneB listed k := by
    intro k
    unfold doneB
    by_cases hk : k = i
    · subst hk; simp [hilt]
    · rw [if_neg hk]; simp [Array.getElem?_setIfInBounds_ne (Ne.symm hk)]
  have hnext : ∀ E' M' a' w', Sim C E' M' ((stE (doneB listed) 0 l S0).app x.1.dst x.2.e) a' w' → K a' w' := by
    intro E' M' a' w' h
    refine hK E' M' a' w' (h.weaken (fun t y hy => .inl ?_) (fun n o ho => ?_))
    · rw [← hy]
      by_cases hdt : x.1.dst = some t
      · rw [stE_last_tmp l 0 S0 i x hi hdt (by rw [Nat.zero_add, hset]; simp) fun k z hz hik hzd => by
          rw [Nat.zero_add, hset, if_neg (by omega), hwr_tmp t (.inr hdt) k z hz hzd (by omega)]; simp; omega]
        simp [AState.app, putT, hdt, gt_cons]
      · rw [stE_tmp (E := doneB (listed.setIfInBounds i true)) (E' := doneB listed) l 0 S0 S0 rfl fun k z hz hzd => by
          rw [Nat.zero_add, hset]
          by_cases hk : k = i
          · subst hk; rw [hi] at hz; cases hz; exact (hdt hzd).elim
          · rw [if_neg hk]]
        simp only [AState.app, putT]
        cases hxd : x.1.dst with
        | none => rfl
        | some d => simp only [gt_cons]; rw [if_neg (fun e => hdt (by rw [hxd, e]))]
    · rw [← ho]
      simp only [AState.own?]
      congr 1
      by_cases hn : n ∈ x.2.e.upd.map (·.1)
      · rw [stE_last_own l 0 S0 i x hi hn (by rw [Nat.zero_add, hset]; simp) fun k z hz hik hzn => by
          rw [Nat.zero_add, hset, if_neg (by omega), hwr_own n (.inr (by unfold Eff.names; exact List.mem_append_left _ hn)) k z hz hzn (by omega)]; simp; omega]
        obtain ⟨u, hu⟩ := gt_some hn
        simp [AState.app, gt_app, hu]
      · rw [stE_own (E := doneB (listed.setIfInBounds i true)) (E' := doneB listed) l 0 S0 S0 rfl fun k z hz hzn => by
          rw [Nat.zero_add, hset]
          by_cases hk : k = i
          · subst hk; rw [hi] at hz; cases hz; exact (hn hzn).elim
          · rw [if_neg hk]]
        simp only [AState.app, gt_app, gt_none hn]
  have hwant : Region.wanted x.1 (yielded ops a.tmps) = x.2.ex := by
    unfold Region.wanted
    cases hgu : x.1.guard with
    | none => rw [hgu] at hg; exact hg.symm
    | some g =>
      obtain ⟨j, want⟩ := g
      rw [hgu] at hg
      obtain ⟨b, hb1, hb2⟩ := hg
      rw [← guardB_congr hgu hlook] at hb1
      have hy := hs.guard hb1
      rw [hb2]
      exact hy
  unfold wpOp
  rw [hio]
  simp only [hwant]
  cases hx : x.2.ex with
  | false =>
    simp only [Bool.false_eq_true, if_false]
    have he := hnex hx
    refine hnext E M _ w ?_
    exact hs.app_val (o := x.1) hd (by rw [he]) (by rw [he]; exact undefH)
  | true =>
    simp only [if_true]
    left
    obtain ⟨hv, hnew⟩ := hex hx
    have hv' := AVal_congr (ρ' := ev (stE (doneB listed) 0 l S0)) (ω' := (stE (doneB listed) 0 l S0).own?) (fun y hy => by
      cases y with
      | tmp t => simp only [ev, AState.get, hlook t (mem_looks_tmp hy)]
      | const v => rfl
      | global g => rfl
      | func f => rfl) (fun n hn => by simp only [AState.own?, hacc n (.inl hn)]) hv
    have hfresh : ∀ d ∈ x.2.e.new, (stE (doneB listed) 0 l S0).fresh d = true ∧ d < given := by
      intro d hdn
      obtain ⟨hf, hlt⟩ := hnew d hdn
      refine ⟨?_, hlt⟩
      have hown : (stE (doneB listed) 0 l S0).own? d = (stE (fun j => decide (j < i)) 0 l S0).own? d := by
        simp only [AState.own?, hacc d (.inr (by unfold Eff.names; exact List.mem_append_right _ hdn))]
      have hno : ∀ (k : Nat) (y : Oper × Tr1), l[k]? = some y → doneB listed k = true → y.2.e.has d = true → k < i := by
        intro k y hy hk hh
        by_cases hki : k = i
        · subst hki; rw [hk] at hni; cases hni
        · have := hsame k y hy (.inr (by
            simp only [confl, Bool.or_eq_true, List.any_eq_true]
            exact .inl (.inr ⟨d, hdn, hh⟩))) hki
          rw [hk] at this; simpa using this.symm
      simp only [AState.fresh, Bool.and_eq_true, List.all_eq_true, Bool.not_eq_true'] at hf ⊢
      obtain ⟨⟨hf1, hf2⟩, hf3⟩ := hf
      refine ⟨⟨by rw [hown]; exact hf1, fun p hp => ?_⟩, fun p hp => ?_⟩
      · rcases stE_mem_tmp l 0 S0 p hp with h | ⟨k, y, h1, h2, h3', h3⟩
        · exact hf2 p ((stE_sub l 0 S0).1 p h)
        · simp only [Nat.zero_add] at h2
          cases hh : H.has d p.2 with
          | false => rfl
          | true =>
            rw [h3] at hh
            have hki := hno k y h1 h2 (by simp [Eff.has, hh])
            have := (stE_put (E := fun j => decide (j < i)) l 0 S0 k y h1 (by simpa using hki)).1 p.1 h3'
            have := hf2 _ this
            simp only at this
            rw [hh] at this; cases this
      · rcases stE_mem_own l 0 S0 p hp with h | ⟨k, y, h1, h2, h3⟩
        · exact hf3 p ((stE_sub l 0 S0).2 p h)
        · simp only [Nat.zero_add] at h2
          cases hpo : p.2 with
          | none => rfl
          | some oo =>
            simp only []
            cases hh : Own.has d oo with
            | false => rfl
            | true =>
              have hki := hno k y h1 h2 (by
                simp only [Eff.has, Bool.or_eq_true, List.any_eq_true]
                exact .inr ⟨p, h3, by rw [hpo]; exact hh⟩)
              have := (stE_put (E := fun j => decide (j < i)) l 0 S0 k y h1 (by simpa using hki)).2 p h3
              have := hf3 p this
              rw [hpo] at this
              simp [hh] at this
    have hfin : AVal C.P nm x.1 (ev (stE (doneB listed) 0 l S0)) (stE (doneB listed) 0 l S0).own? (fun e => (∀ d ∈ e.new, (stE (doneB listed) 0 l S0).fresh d = true ∧ d < given) ∧ e = x.2.e) :=
      AVal_mono (fun e he => ⟨by rw [he]; exact hfresh, he⟩) hv'
    exact ok_all hd E M _ a w K Q (fun e => e = x.2.e) hs hfin fun e E' M' a' w' he h => hnext E' M' a' w' (he ▸ h)

theorem draw_any (hl : l.map (·.1) = ops.toList) (hdid : DidAll C.P C.N nm ops.toList l S0) (hp : pairsOk ops.toList (befs [] ops.toList) 0 [] l = true)
    (hlow : ∀ (k : Nat) (o : Oper) (e : Edge), ops[k]? = some o → e ∈ o.after → Region.binds .any e = true → e.on < k) {Q : Exit → Act → World → Prop}
    (hQ : ∀ E' M' a' w', Sim C E' M' (stE (fun _ => true) 0 l S0) a' w' → Q .normal a' w') :
    ∀ (fuel : Nat) (listed : Array Bool) (E : Env) (M : Mem) (a : Act) (w : World), listed.size = ops.size → listed.toList.countP (fun b => !b) ≤ fuel →
      (∀ k o e, ops[k]? = some o → doneB listed k = true → e ∈ o.after → Region.binds .any e = true → doneB listed e.on = true) → Sim C E M (stE (doneB listed) 0 l S0) a w →
      wpAny C.P .any ops Q fuel listed a w := by
  have hlen : l.length = ops.size := by
    have := congrArg List.length hl; simpa using this
  -- if nothing is ready, all is done
  have hall : ∀ (listed : Array Bool), listed.size = ops.size → Region.ready .any ops listed = [] → ∀ k, k < ops.size → doneB listed k = true := by
    intro listed hsz hr k
    induction k using Nat.strongRecOn with
    | _ k ih =>
      intro hk
      cases hd : doneB listed k with
      | true => rfl
      | false =>
        have ho : ops[k]? = some ops[k] := Array.getElem?_eq_getElem hk
        have : k ∈ Region.ready .any ops listed := by
          rw [mem_ready]
          refine ⟨?_, ops[k], ho, fun e he hb => ih e.on (hlow k _ e ho he hb) (Nat.lt_trans (hlow k _ e ho he hb) hk)⟩
          unfold doneB at hd
          have hkl : k < listed.size := by omega
          simp [hkl] at hd ⊢; exact hd
        rw [hr] at this; cases this
  have hend : ∀ (listed : Array Bool) (E : Env) (M : Mem) (a : Act) (w : World), listed.size = ops.size → Region.ready .any ops listed = [] → Sim C E M (stE (doneB listed) 0 l S0) a w → Q .normal a w := by
    intro listed E M a w hsz hr hs
    refine hQ E M a w (hs.weaken (fun t y hy => .inl ?_) (fun n o ho => ?_))
    · rw [← hy]
      exact stE_tmp l 0 S0 S0 rfl fun k y hy _ => by
        rw [Nat.zero_add]; exact hall listed hsz hr k (by have := (List.getElem?_eq_some_iff.1 hy).1; omega)
    · rw [← ho]
      simp only [AState.own?]
      have he := stE_own (n := n) (E := doneB listed) (E' := fun _ => true) l 0 S0 S0 rfl fun k y hy _ => by
        rw [Nat.zero_add]; exact hall listed hsz hr k (by have := (List.getElem?_eq_some_iff.1 hy).1; omega)
      rw [he]
  intro fuel
  induction fuel with
  | zero =>
    intro listed E M a w hsz hc hdown hs
    have hr : Region.ready .any ops listed = [] := by
      cases hr : Region.ready .any ops listed with
      | nil => rfl
      | cons i r =>
        have hi : i ∈ Region.ready .any ops listed := by rw [hr]; exact List.mem_cons_self
        rw [mem_ready] at hi
        have h0 : listed.toList.countP (fun b => !b) = 0 := by omega
        rw [List.countP_eq_zero] at h0
        have hil : i < listed.size := by
          obtain ⟨_, o, ho, _⟩ := hi
          have := (Array.getElem?_eq_some_iff.1 ho).1; omega
        have := h0 listed[i] (by simp)
        have h1 := hi.1
        simp [hil] at h1
        simp [h1] at this
    exact ⟨hr, hend listed E M a w hsz hr hs⟩
  | succ fuel ih =>
    intro listed E M a w hsz hc hdown hs
    refine ⟨fun hr => hend listed E M a w hsz hr hs, fun i hi => ?_⟩
    rw [mem_ready] at hi
    obtain ⟨h0, o, ho, hready⟩ := hi
    have hio : i < ops.size := (Array.getElem?_eq_some_iff.1 ho).1
    have hil : i < listed.size := by omega
    obtain ⟨x, hx⟩ : ∃ x, l[i]? = some x := ⟨l[i]'(by omega), List.getElem?_eq_getElem (by omega)⟩
    have hxo : x.1 = o := by
      have : (l.map (·.1))[i]? = some x.1 := by rw [List.getElem?_map, hx]; rfl
      rw [hl] at this
      simp [ho] at this; exact this.symm
    have hni : doneB listed i = false := by
      unfold doneB; simp [hil] at h0 ⊢; exact h0
    refine draw_step hl hdid hp hsz hdown hx hni (fun e he hb => hready e (by rw [← hxo]; exact he) hb) hs fun E' M' a' w' hs' => ?_
    refine ih _ E' M' a' w' (by simpa using hsz) ?_ (fun k o' e hk hd he hb => ?_) hs'
    · rw [Array.toList_setIfInBounds, List.countP_set (by simpa using hil)]
      have hli : listed.toList[i]'(by simpa using hil) = false := by simpa [hil] using h0
      have hpos : 0 < listed.toList.countP (fun b => !b) := List.countP_pos_iff.2 ⟨false, by rw [← hli]; exact List.getElem_mem _, rfl⟩
      simp only [hli, Bool.not_false, if_true, Bool.not_true, Bool.false_eq_true, if_false]
      omega
    · unfold doneB at hd ⊢
      by_cases hki : k = i
      · subst hki
        rw [ho] at hk; cases hk
        exact getD_set_true (hready e he hb)
      · rw [getD_set_ne false (Ne.symm hki)] at hd
        exact getD_set_true (hdown k o' e hk hd he hb)

/-- A REGION THAT DRAWS ITS ORDER. -/
theorem AWp.draw {id : Nat} {ops : Array Oper} {S : AState} {Q : Exit → AState → Prop} (nm : Nat → Nat) (hm : C.P.follows .mixedOrders = true)
    (h : aopsT C.P C.N nm ops.toList ops.toList S [] (fun S' tr => drawOk ops.toList tr = true ∧ Q .normal S')) : AWp C (.region id ops true) S Q := fun E M a w hs => by
  obtain ⟨l, h1, h2, h3, h4⟩ := aopsT_ex h
  have hz : ops.toList.zip (l.map (·.2)) = l := by
    rw [← h1]
    have : ∀ l : List (Oper × Tr1), (l.map (·.1)).zip (l.map (·.2)) = l := by
      intro l
      induction l with
      | nil => rfl
      | cons x r ih => simp [ih]
    exact this l
  simp only [List.nil_append, drawOk, Bool.and_eq_true, hz] at h3
  obtain ⟨hp, hlow⟩ := h3
  refine wp_region_any hm ?_
  refine draw_any (C := C) (nm := nm) (l := l) (S0 := S) h1 h2 hp (fun k o e ho he hb => ?_) (fun E' M' a' w' hs' => ⟨_, E', M', h4, hs'⟩) ops.size _ E M a _ (by simp) ?_ (fun k o e _ hd => ?_) ?_
  · rw [List.all_eq_true] at hlow
    have := hlow (o, k) (List.mk_mem_zipIdx_iff_getElem?.2 (by simpa using ho))
    simp only at this
    rw [Array.all_eq_true_iff_forall_mem] at this
    have := this e he
    simp only [hb, Bool.not_true, Bool.false_or] at this
    exact of_eq_true (by rw [← Nat.blt_eq, this]; simp)
  · refine Nat.le_trans List.countP_le_length (by simp)
  · unfold doneB at hd
    by_cases hk : k < ops.size
    · simp [hk] at hd
    · simp [hk] at hd
  · have none : ∀ (l : List (Oper × Tr1)) (i : Nat) (S : AState), stE (doneB (Array.replicate ops.size false)) i l S = S := by
      intro l
      induction l with
      | nil => intro i S; rfl
      | cons y r ih =>
        intro i S; obtain ⟨o, t⟩ := y
        have : doneB (Array.replicate ops.size false) i = false := by
          unfold doneB
          by_cases hk : i < ops.size
          · simp [hk]
          · simp [hk]
        simp only [stE, this]
        exact ih _ _
    rw [none]
    exact hs.drew

end
end Go.Awp
