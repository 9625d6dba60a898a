/-
  Typed states: calls that hand over what is owned: that they are sound.
-/
import Derived.Test.YtdmggfegkaiaiaaGreatDoorTxO
namespace Go.Tx
open Go.Awp
set_option linter.unusedSectionVars false
variable [Inhabited GMem]
set_option linter.unusedSimpArgs false

section
variable {V : View}

theorem gt_filter {α : Type} (q : Nat → Bool) : ∀ (l : List (Nat × α)) (n : Nat) (x : α), gt (l.filter fun p => q p.1) n = some x → gt l n = some x
  | [], n, x, h => by simp [gt] at h
  | (k, y) :: r, n, x, h => by
    rw [List.filter_cons] at h
    rw [gt_cons]
    by_cases hk : k = n
    · subst hk
      rw [if_pos rfl]
      split at h
      · rw [gt_cons, if_pos rfl] at h; exact h
      · rename_i hq
        have := gt_mem h
        have := (List.mem_filter.1 this).2
        exact (hq this).elim
    · rw [if_neg hk]
      split at h
      · rw [gt_cons, if_neg hk] at h; exact gt_filter q r n x h
      · exact gt_filter q r n x h

theorem gt_mapf {α β : Type} {f : Nat → Nat} {g : α → β} (hf : ∀ a b, f a = f b → a = b) : ∀ (l : List (Nat × α)) (n : Nat), gt (l.map fun p => (f p.1, g p.2)) (f n) = (gt l n).map g
  | [], n => by simp [gt]
  | (k, y) :: r, n => by
    rw [List.map_cons, gt_cons, gt_cons]
    by_cases hk : k = n
    · subst hk; simp
    · rw [if_neg hk, if_neg fun e => hk (hf _ _ e)]; exact gt_mapf hf r n

theorem newN_mem {ks : List Nat} {n : Nat} : ∀ {l : List Nat}, n ∈ l → n ∉ ks → n ∈ newN ks l
  | [], h, _ => by cases h
  | k :: r, h, hn => by
    simp only [newN]
    rcases List.mem_cons.1 h with rfl | h
    · split
      · rename_i hi; exact (hn (isIn_iff.1 hi)).elim
      · exact List.mem_cons_self
    · split
      · exact newN_mem h hn
      · exact List.mem_cons_of_mem _ (newN_mem h hn)

theorem len_ren (f : Nat → Nat) (o : TO V.N) : TO.len (some (TO.ren f o)) = TO.len (some o) := by cases o <;> rfl

theorem callObj_ok {P : Program} {fid : Nat} {sig : Sig V} {F : HL V.N sig.tys → Option (HL V.N sig.rcut.tys)} (hF : SigOk P fid sig F) {A : Type} {args : List (TV V.N)} {S : TS V.N} {dst : Option Tmp}
    {k : TE V.N → Option A} {r : A} (h : callObj P sig F A args S k = some r) :
    ∃ te, k te = some r ∧ good S te ∧ ACall P fid (encL V S.len args) (encS V S).own? fun e' => ELe true e' (encE (S.app dst te).len te) := by
  unfold callObj at h
  split at h
  · rename_i σ0 l0 h0
    split at h
    · rename_i σ1 l1 h1
      split at h
      · rename_i hin
        split at h
        · rename_i v hv
          obtain ⟨y, hy, h⟩ := some_bind h
          split at h
          · rename_i x hx
            split at h
            · rename_i hout
              obtain ⟨h, hlens⟩ := lenIfs_some h
              have hc := hF v y x hy hx
              have hls := toHL_of hv
              obtain ⟨a1, a2, a3, xs0, a4, a5, a6⟩ := mtL_sound h0
              obtain ⟨b1, b2, os0, b3, b4, b5, b6⟩ := mtO_sound h1
              have hst : startOs sig v = (xs0, os0) := by
                unfold startOs
                rw [hls, a5 l1]
                simp only [b4]
              have hS : (startS sig v).own = os0 := by unfold startS; rw [hst]
              rw [hst, hS] at hc
              have hlen0 : ∀ c o, gt os0 c = some o → (startS sig v).len c = TO.len (some o) := by
                intro c o ho
                unfold TS.len TS.own?
                rw [hS, ho]
              generalize (startS sig v).len = ω0 at hc hlen0
              generalize hos : kept sig y = os at h hout hc hlens
              have hlen1 : ∀ c o, gt os c = some o → (conc V sig.rcut y).len c = TO.len (some o) := by
                intro c o ho
                rw [← hos] at ho
                have := gt_filter (fun n => sig.keep.contains n) (conc V sig.rcut y).own c o ho
                unfold TS.len TS.own?
                rw [this]
              generalize (conc V sig.rcut y).len = ω1 at hc hlen1
              generalize hτ : callNew (80000 + S.own.length) σ1 (os.map (·.1)) = τ at h hout hlens
              have hsub : ∀ c n, gt σ1 c = some n → gt τ c = some n := fun c n hcn => by rw [← hτ]; exact callNew_sub hcn
              simp only [callOut, Bool.and_eq_true, List.all_eq_true] at hout
              obtain ⟨⟨⟨⟨⟨o1, o2⟩, o3⟩, o4⟩, o5⟩, o6⟩ := hout
              simp only [callIn, Bool.and_eq_true, List.all_eq_true] at hin
              obtain ⟨⟨i1, i2⟩, i3⟩ := hin
              have hfi := σf_inj o1
              have hbound : ∀ p ∈ sig.objs, ∃ n o, gt σ1 p.1 = some n ∧ S.own? n = some o ∧ ∃ z, encO V S.len o = some z := by
                intro p hp
                have : p.1 ∈ os0.map (·.1) := by rw [b6]; exact List.mem_map_of_mem hp
                obtain ⟨q, hq, hqe⟩ := List.mem_map.1 this
                obtain ⟨n, o, q1, q2, _, z, q3, _⟩ := b5 q.1 q.2 hq
                exact ⟨n, o, by rw [← hqe]; exact q1, q2, _, q3 S.len⟩
              have hTr : ∀ E : Env, Tr σ1 sig.objs E (fun c => E (σf τ c)) S.len ω0 := fun E => by
                refine ⟨fun c n hcn => by rw [σf_some (hsub c n hcn)], fun c n hc' hcn => ?_⟩
                rw [List.any_eq_true] at hc'
                obtain ⟨p, hp, hpn⟩ := hc'
                have hpn : p.1 = c := by simpa using hpn
                have hm : c ∈ os0.map (·.1) := by rw [b6, ← hpn]; exact List.mem_map_of_mem hp
                obtain ⟨o, ho⟩ := gt_some hm
                obtain ⟨n', o', q1, q2, q3, _⟩ := b5 c o (gt_mem ho)
                rw [hcn] at q1; cases q1
                rw [hlen0 c o ho, q3]; unfold TS.len; rw [q2]
              have hob' : ∀ p ∈ sig.objs, match p.2 with | .box _ ps => ps.all (vhIn V sig.objs) = true | _ => True := by
                intro p hp
                have := i2 p hp
                cases hq : p.2 with
                | box oty ps => rw [hq] at this; simpa using this
                | st i => trivial
                | vec te e => trivial
                | map tk tv => trivial
                | iter => trivial
              have hown : ∀ n o, gt (sig.objs.filterMap fun p => ((S.own? (σf σ1 p.1)).bind (encO V S.len)).map fun o => (σf σ1 p.1, o)) n = some o → (S.own? n).bind (encO V S.len) = some o := by
                intro n o hn
                obtain ⟨p, hp, hpe⟩ := List.mem_filterMap.1 (gt_mem hn)
                rw [Option.map_eq_some_iff] at hpe
                obtain ⟨o', h1, h2⟩ := hpe
                simp only [Prod.mk.injEq] at h2
                obtain ⟨rfl, rfl⟩ := h2
                exact h1
              have hkeys : ∀ n, n ∈ (sig.objs.filterMap fun p => ((S.own? (σf σ1 p.1)).bind (encO V S.len)).map fun o => (σf σ1 p.1, o)).map (·.1) ↔ n ∈ sig.objs.map fun p => σf σ1 p.1 := by
                intro n
                constructor
                · intro hn
                  obtain ⟨q, hq, rfl⟩ := List.mem_map.1 hn
                  obtain ⟨p, hp, hpe⟩ := List.mem_filterMap.1 hq
                  rw [Option.map_eq_some_iff] at hpe
                  obtain ⟨o', h1, h2⟩ := hpe
                  rw [← h2]
                  exact List.mem_map_of_mem (f := fun p => σf σ1 p.1) hp
                · intro hn
                  obtain ⟨p, hp, rfl⟩ := List.mem_map.1 hn
                  obtain ⟨n, o, q1, q2, z, q3⟩ := hbound p hp
                  refine List.mem_map.2 ⟨(σf σ1 p.1, z), List.mem_filterMap.2 ⟨p, hp, ?_⟩, rfl⟩
                  rw [σf_some q1, q2]
                  simp [q3]
              have hex : ∀ n o, gt (renO (σf τ) (encOs ω0 os0)) n = some o → ∃ z, (gt (sig.objs.filterMap fun p => ((S.own? (σf σ1 p.1)).bind (encO V S.len)).map fun o => (σf σ1 p.1, o)) n = some z) ∧ ∀ E M w, OwnOk E M w n z → OwnOk E M w n o := by
                intro n o hn
                obtain ⟨c, o1, rfl, hg, rfl⟩ := gt_renO_some hfi hn
                obtain ⟨t, ht, hto⟩ := gt_filterMap hg
                obtain ⟨n', oS, q1, q2, _, x4, q4, x', q5, q6⟩ := b5 c t ht
                rw [q5] at hto
                simp only [Option.some.injEq] at hto; subst hto
                have e : σf τ c = n' := σf_some (hsub _ _ q1)
                have hck : c ∈ sig.objs.map (·.1) := by rw [← b6]; exact List.mem_map_of_mem (f := (·.1)) ht
                obtain ⟨p, hp, hpc⟩ := List.mem_map.1 hck
                have hk' := (hkeys n').2 (List.mem_map.2 ⟨p, hp, by rw [hpc]; exact σf_some q1⟩)
                obtain ⟨z, hz⟩ := gt_some hk'
                have hz' := hown _ _ hz
                rw [q2] at hz'
                simp only [Option.bind_some, q4, Option.some.injEq] at hz'
                rw [e]
                refine ⟨z, hz, fun E M w hw => ?_⟩
                rw [← hz'] at hw
                have := (q6 σ1 sig.objs E _ M w S.len ω0 (Sub.refl _) hob' (hTr E) hw).ren (E' := E) (f := σf τ) rfl fun m _ => rfl
                rw [e] at this
                exact this
              have hsome : ∀ p ∈ os, ∃ o, encO V ω1 p.2 = some o := by
                intro p hp
                have := o4 p hp
                cases hq : p.2 with
                | box oty cells => exact ⟨_, rfl⟩
                | bst i x => exact ⟨_, rfl⟩
                | vec te e xs => exact ⟨_, rfl⟩
                | map tk tv es => exact ⟨_, rfl⟩
                | iter s p => exact ⟨_, rfl⟩
                | gone l => rw [hq] at this; simp [TO.allN] at this
              have hgos : ∀ n, (gt os n).isSome = true → (gt (encOs ω1 os) n).isSome = true := by
                intro n hn
                obtain ⟨o, ho⟩ := Option.isSome_iff_exists.1 hn
                obtain ⟨z, hz⟩ := hsome _ (gt_mem ho)
                rw [gt_encOs ho hz]; rfl
              refine ⟨_, h, ?_, ?_⟩
              · intro m o hm
                simp only [gt_app] at hm
                split at hm
                · rename_i o' hq
                  simp only [Option.some.injEq] at hm; subst hm
                  obtain ⟨p, hp, hpe⟩ := List.mem_map.1 (gt_mem hq)
                  simp only [Prod.mk.injEq] at hpe
                  obtain ⟨rfl, rfl⟩ := hpe
                  have h5 := o5 p hp
                  rw [Bool.or_eq_true] at h5
                  by_cases hpk : isIn p.1 (sig.objs.map (·.1)) = true
                  · right
                    rcases h5 with h5 | h5
                    · rw [hpk] at h5; cases h5
                    · rw [len_ren]
                      cases hpp : p.2 with
                      | box oty cells => rw [hpp] at h5; simp only [stays] at h5; exact (Nat.eq_of_beq_eq_true h5).symm
                      | bst i x => rw [hpp] at h5; simp only [stays] at h5; exact (Nat.eq_of_beq_eq_true h5).symm
                      | vec te e xs =>
                        have := hlens _ (keepLens_mem hpk (te := te) (e := e) (xs := xs) (by rw [← hpp]; exact hp))
                        exact this
                      | map tk tv es => rw [hpp] at h5; simp only [stays] at h5; exact (Nat.eq_of_beq_eq_true h5).symm
                      | iter s p => rw [hpp] at h5; simp only [stays] at h5; exact (Nat.eq_of_beq_eq_true h5).symm
                      | gone l => rw [hpp] at h5; cases h5
                  · left
                    refine newN_mem (List.mem_map.2 ⟨p, hp, rfl⟩) fun hmem => hpk (isIn_iff.2 ?_)
                    obtain ⟨q, hq', hqe⟩ := List.mem_map.1 hmem
                    obtain ⟨n, o, q1, _⟩ := hbound q hq'
                    rw [σf_some q1, ← σf_some (hsub _ _ q1)] at hqe
                    rw [← hfi _ _ hqe]
                    exact List.mem_map_of_mem (f := (·.1)) hq'
                · right
                  obtain ⟨q, hq', hqe⟩ := List.mem_map.1 (gt_mem hm)
                  simp only [Prod.mk.injEq] at hqe
                  obtain ⟨rfl, rfl⟩ := hqe
                  rfl
              · have hat := hc.ren τ (by
                  simp only [renOk, Bool.and_eq_true, List.all_eq_true]
                  refine ⟨⟨⟨⟨o1, fun p hp => ?_⟩, fun p hp => ?_⟩, ?_⟩, fun p hp => ?_⟩
                  · obtain ⟨z, hz, hz2⟩ := List.mem_filterMap.1 hp
                    rw [Option.map_eq_some_iff] at hz2
                    obtain ⟨o', _, rfl⟩ := hz2
                    have : z.1 ∈ sig.objs.map (·.1) := by rw [← b6]; exact List.mem_map_of_mem (f := (·.1)) hz
                    obtain ⟨q, hq, hqe⟩ := List.mem_map.1 this
                    have := i3 q hq
                    rw [hqe] at this
                    exact this
                  · obtain ⟨z, hz, hz2⟩ := List.mem_filterMap.1 hp
                    rw [Option.map_eq_some_iff] at hz2
                    obtain ⟨o', _, rfl⟩ := hz2
                    exact o2 z hz
                  · refine H.allN_of fun n hn => ?_
                    rw [encV_has] at hn
                    have := TV.allN_has o3 hn
                    rw [Bool.or_eq_true]; exact .inr (hgos n this)
                  · obtain ⟨z, hz, hz2⟩ := List.mem_filterMap.1 hp
                    rw [Option.map_eq_some_iff] at hz2
                    obtain ⟨o', ho', rfl⟩ := hz2
                    have h4 := o4 z hz
                    cases o' with
                    | box oty cells =>
                      simp only [Own.allN]
                      refine H.allNL_of fun n hn => ?_
                      have : TO.has n z.2 = true := by rw [← encO_has ω1 n ho']; exact hn
                      have := TO.allN_has h4 this
                      rw [Bool.or_eq_true]; exact .inr (hgos n this)
                    | vec e sz rows => rfl
                    | map es => rfl
                    | iter s p => rfl)
                generalize hownE : (sig.objs.filterMap fun p => ((S.own? (σf σ1 p.1)).bind (encO V S.len)).map fun o => (σf σ1 p.1, o)) = own at hown hkeys hex
                refine ⟨own, _, _, FnAt.weak (args' := encL V S.len args) (own1 := own) hat (fun E M vs hvs => ?_) (fun E M w hw => ?_) (fun n => ?_), fun p hp => ?_, ?_⟩
                · refine ⟨by rw [hvs.1, H.renL_len, encL_len, encL_len, a4], fun i c z hcz hz => ?_⟩
                  rw [H.renL_get, encL_map, List.getElem?_map, Option.map_map, Option.map_eq_some_iff] at hz
                  obtain ⟨u0, hu0, rfl⟩ := hz
                  have hi : i < args.length := by rw [← a4]; exact (List.getElem?_eq_some_iff.1 hu0).1
                  have hu := List.getElem?_eq_getElem hi
                  obtain ⟨_, k2⟩ := a6 i _ u0 hu hu0
                  have hr := hvs.2 i c (encV V S.len args[i]) hcz (by rw [encL_map, List.getElem?_map, hu]; rfl)
                  exact (k2 σ1 sig.objs E _ M S.len ω0 c b1 (List.all_eq_true.2 i1) (hTr E) hr).ren fun n _ => rfl
                · refine ⟨fun n o hn => ?_, fun n m o o' b hne hn hm hb => ?_⟩
                  · obtain ⟨z, hz, hz'⟩ := hex n o hn
                    exact hz' E M w (hw.ok n z hz)
                  · obtain ⟨z, hz, _⟩ := hex n o hn
                    obtain ⟨z', hz', _⟩ := hex m o' hm
                    exact hw.apart n m z z' b hne hz hz' hb
                · constructor
                  · rintro ⟨o, ho⟩
                    obtain ⟨z, hz, _⟩ := hex n o ho
                    exact ⟨z, hz⟩
                  · rintro ⟨o, ho⟩
                    have := (hkeys n).1 (List.mem_map_of_mem (f := (·.1)) (gt_mem ho))
                    obtain ⟨p, hp, rfl⟩ := List.mem_map.1 this
                    have hm : p.1 ∈ os0.map (·.1) := by rw [b6]; exact List.mem_map_of_mem hp
                    obtain ⟨t, ht⟩ := gt_some hm
                    obtain ⟨n', oS, q1, q2, _, x4, q4, x', q5, q6⟩ := b5 p.1 t (gt_mem ht)
                    refine ⟨(x' ω0).ren (σf τ), ?_⟩
                    rw [σf_some q1, ← σf_some (hsub _ _ q1), gt_renO hfi, gt_encOs ht (q5 ω0)]
                    rfl
                · rw [← hownE] at hp
                  obtain ⟨q, hq, hqe⟩ := List.mem_filterMap.1 hp
                  rw [Option.map_eq_some_iff] at hqe
                  obtain ⟨o', h1, rfl⟩ := hqe
                  rw [encS_own?]; exact h1
                · have hω : ∀ te : TE V.N, (∀ c o, gt os c = some o → gt te.upd (σf τ c) = some (o.ren (σf τ))) → ∀ c, (gt os c).isSome = true → (S.app dst te).len (σf τ c) = ω1 c := by
                    intro te hte c hcs
                    obtain ⟨o, ho⟩ := Option.isSome_iff_exists.1 hcs
                    rw [app_len, hte c o ho, hlen1 c o ho]
                    exact len_ren _ o
                  have hkl : own.map (·.1) = sig.objs.map fun p => σf σ1 p.1 := by
                    rw [← hownE]
                    have : ∀ l : List (Nat × OPt V.ι), (∀ p ∈ l, ∃ n o, gt σ1 p.1 = some n ∧ S.own? n = some o ∧ ∃ z, encO V S.len o = some z) →
                        (l.filterMap fun p => ((S.own? (σf σ1 p.1)).bind (encO V S.len)).map fun o => (σf σ1 p.1, o)).map (·.1) = l.map fun p => σf σ1 p.1 := by
                      intro l
                      induction l with
                      | nil => intro _; rfl
                      | cons p r ih =>
                        intro hl
                        obtain ⟨n, o, q1, q2, z, q3⟩ := hl p List.mem_cons_self
                        have e : (S.own? (σf σ1 p.1)).bind (encO V S.len) = some z := by rw [σf_some q1, q2]; exact q3
                        simp only [List.filterMap_cons, e, Option.map_some, List.map_cons]
                        rw [ih fun q hq => hl q (List.mem_cons_of_mem _ hq)]
                    exact this sig.objs hbound
                  have hml : (renO (σf τ) (encOs ω1 os)).map (·.1) = os.map fun p => σf τ p.1 := by
                    have : ∀ l : List (Nat × TO V.N), (∀ p ∈ l, ∃ o, encO V ω1 p.2 = some o) → (renO (σf τ) (encOs ω1 l)).map (·.1) = l.map fun p => σf τ p.1 := by
                      intro l
                      induction l with
                      | nil => intro _; rfl
                      | cons p r ih =>
                        intro hl
                        obtain ⟨o, ho⟩ := hl p List.mem_cons_self
                        have := ih fun q hq => hl q (List.mem_cons_of_mem _ hq)
                        unfold renO encOs at this ⊢
                        simp only [List.filterMap_cons, ho, Option.map_some, List.map_cons]
                        rw [this]
                    exact this os hsome
                  refine ele_upd ?_ ?_ ?_ ?_
                  · simp only [callEff]
                    refine (encV_ren x fun n hn => hω _ (fun c o ho => ?_) n (TV.allN_has o3 hn)).symm
                    simp only [gt_app, gt_mapf hfi, ho, Option.map_some]
                  · simp only [callEff]
                    rw [newNames_newN, hkl]
                    rw [hml]
                  · simp only [callEff, List.map_append]
                    refine congr (congrArg _ ?_) ?_
                    · have : ∀ (ω2 : Nat → Nat) (l : List (Nat × TO V.N)), (∀ p ∈ l, ∃ o, encO V ω1 p.2 = some o) → (∀ p ∈ l, encO V ω2 (TO.ren (σf τ) p.2) = (encO V ω1 p.2).map (Own.ren (σf τ))) →
                          (renO (σf τ) (encOs ω1 l)).map (fun p => (p.1, some p.2)) = (l.map fun p => (σf τ p.1, TO.ren (σf τ) p.2)).map fun p => (p.1, encO V ω2 p.2) := by
                        intro ω2 l
                        induction l with
                        | nil => intro _ _; rfl
                        | cons p r ih =>
                          intro hl hl2
                          obtain ⟨o, ho⟩ := hl p List.mem_cons_self
                          have h2 := hl2 p List.mem_cons_self
                          have := ih (fun q hq => hl q (List.mem_cons_of_mem _ hq)) fun q hq => hl2 q (List.mem_cons_of_mem _ hq)
                          unfold renO encOs at this ⊢
                          simp only [List.filterMap_cons, ho, Option.map_some, List.map_cons, h2]
                          rw [this]
                      refine this _ os hsome fun p hp => encO_ren p.2 fun n hn => hω _ (fun c o ho => ?_) n (TO.allN_has (o4 p hp) hn)
                      simp only [gt_app, gt_mapf hfi, ho, Option.map_some]
                    · have e : own.map (fun p : Nat × Own => (p.1, (none : Option Own))) = (own.map (·.1)).map fun n => (n, none) := by rw [List.map_map]; rfl
                      rw [e, hkl, List.map_map, List.map_map]
                      rfl
                  · simp only [callEff]
                    exact hkl
            · cases h
          · cases h
        · cases h
      · cases h
    · cases h
  · cases h

end
end Go.Tx
