/-
  Texts of this claim, joined by a program of mine: what the theorem uses.
-/
import Derived.Test.YtpelkenpapfadaaGreatDoorPkD
import Derived.Test.YtpelkenpapfadaaGreatDoorPkC
import Derived.WalkKit
import Derived.ProofKit
import Derived.OpenShut
import Derived.Test.YtpelkenpapfadaaGreatDoorRows
import Derived.Lib.LaidIn
import Derived.Lib.LaidU8T
import Derived.MakeChecks
import Derived.Test.YtpelkenpapfadaaGreatDoorProg
import Derived.KernelRfl
import Derived.Shelf.Strings.Builder1
import Derived.Defers
set_option linter.unusedSectionVars false
set_option linter.unusedSimpArgs false
set_option linter.unusedVariables false
section
namespace Go.Tx
open Go.Awp
variable [Inhabited GMem]
section
variable {V : View}
theorem gt_filter {α : Type} (q : Nat → Bool) : ∀ (l : List (Nat × α)) (n : Nat) (x : α), gt (l.filter fun p => q p.1) n = some x → gt l n = some x
 | [], n, x, h => by simp [gt] at h
 | (k, y) :: r, n, x, h => by
  rw [List.filter_cons] at h
  rw [gt_cons]
  by_cases hk : k = n
  ·subst hk
   rw [if_pos rfl]
   split at h
   ·rw [gt_cons, if_pos rfl] at h; exact h
   ·rename_i hq
    have := gt_mem h
    have := (List.mem_filter.1 this).2
    exact (hq this).elim
  ·rw [if_neg hk]
   split at h
   ·rw [gt_cons, if_neg hk] at h; exact gt_filter q r n x h
   ·exact gt_filter q r n x h
theorem gt_mapf {α β : Type} {f : Nat → Nat} {g : α → β} (hf : ∀ a b, f a = f b → a = b) : ∀ (l : List (Nat × α)) (n : Nat), gt (l.map fun p => (f p.1, g p.2)) (f n) = (gt l n).map g
 | [], n => by simp [gt]
 | (k, y) :: r, n => by
  rw [List.map_cons, gt_cons, gt_cons]
  by_cases hk : k = n
  ·subst hk; simp
  ·rw [if_neg hk, if_neg fun e => hk (hf _ _ e)]; exact gt_mapf hf r n
theorem newN_mem {ks : List Nat} {n : Nat} : ∀ {l : List Nat}, n ∈ l → n ∉ ks → n ∈ newN ks l
 | [], h, _ => by cases h
 | k :: r, h, hn => by
  simp only [newN]
  rcases List.mem_cons.1 h with rfl | h
  ·split
   ·rename_i hi; exact (hn (isIn_iff.1 hi)).elim
   ·exact List.mem_cons_self
  ·split
   ·exact newN_mem h hn
   ·exact List.mem_cons_of_mem _ (newN_mem h hn)
theorem len_ren (f : Nat → Nat) (o : TO V.N) : TO.len (some (TO.ren f o)) = TO.len (some o) := by cases o <;> rfl
theorem callObj_ok {P : Program} {fid : Nat} {sig : Sig V} {F : HL V.N sig.tys → Option (HL V.N sig.rcut.tys)} (hF : SigOk P fid sig F) {A : Type} {args : List (TV V.N)} {S : TS V.N} {dst : Option Tmp}
  {k : TE V.N → Option A} {r : A} (h : callObj P sig F A args S k = some r) :
  ∃ te, k te = some r ∧ good S te ∧ ACall P fid (encL V S.len args) (encS V S).own? fun e' => ELe true e' (encE (S.app dst te).len te) := by
 unfold callObj at h
 split at h
 ·rename_i σ0 l0 h0
  split at h
  ·rename_i σ1 l1 h1
   split at h
   ·rename_i hin
    split at h
    ·rename_i v hv
     obtain ⟨y, hy, h⟩ := some_bind h
     split at h
     ·rename_i x hx
      split at h
      ·rename_i hout
       obtain ⟨h, hlens⟩ := lenIfs_some h
       have hc := hF v y x hy hx
       have hls := toHL_of hv
       obtain ⟨a1, a2, a3, xs0, a4, a5, a6⟩ := mtL_sound h0
       obtain ⟨b1, b2, os0, b3, b4, b5, b6⟩ := mtO_sound h1
       have hst : startOs sig v = (xs0, os0) := by
        unfold startOs
        rw [hls, a5 l1]
        simp only [b4]
       have hS : (startS sig v).own = os0 := by unfold startS; rw [hst]
       rw [hst, hS] at hc
       have hlen0 : ∀ c o, gt os0 c = some o → (startS sig v).len c = TO.len (some o) := by
        intro c o ho
        unfold TS.len TS.own?
        rw [hS, ho]
       generalize (startS sig v).len = ω0 at hc hlen0
       generalize hos : kept sig y = os at h hout hc hlens
       have hlen1 : ∀ c o, gt os c = some o → (conc V sig.rcut y).len c = TO.len (some o) := by
        intro c o ho
        rw [← hos] at ho
        have := gt_filter (fun n => sig.keep.contains n) (conc V sig.rcut y).own c o ho
        unfold TS.len TS.own?
        rw [this]
       generalize (conc V sig.rcut y).len = ω1 at hc hlen1
       generalize hτ : callNew (80000 + S.own.length) σ1 (os.map (·.1)) = τ at h hout hlens
       have hsub : ∀ c n, gt σ1 c = some n → gt τ c = some n := fun c n hcn => by rw [← hτ]; exact callNew_sub hcn
       simp only [callOut, Bool.and_eq_true, List.all_eq_true] at hout
       obtain ⟨⟨⟨⟨⟨o1, o2⟩, o3⟩, o4⟩, o5⟩, o6⟩ := hout
       simp only [callIn, Bool.and_eq_true, List.all_eq_true] at hin
       obtain ⟨⟨i1, i2⟩, i3⟩ := hin
       have hfi := σf_inj o1
       have hbound : ∀ p ∈ sig.objs, ∃ n o, gt σ1 p.1 = some n ∧ S.own? n = some o ∧ ∃ z, encO V S.len o = some z := by
        intro p hp
        have : p.1 ∈ os0.map (·.1) := by rw [b6]; exact List.mem_map_of_mem hp
        obtain ⟨q, hq, hqe⟩ := List.mem_map.1 this
        obtain ⟨n, o, q1, q2, _, z, q3, _⟩ := b5 q.1 q.2 hq
        exact ⟨n, o, by rw [← hqe]; exact q1, q2, _, q3 S.len⟩
       have hTr : ∀ E : Env, Tr σ1 sig.objs E (fun c => E (σf τ c)) S.len ω0 := fun E => by
        refine ⟨fun c n hcn => by rw [σf_some (hsub c n hcn)], fun c n hc' hcn => ?_⟩
        rw [List.any_eq_true] at hc'
        obtain ⟨p, hp, hpn⟩ := hc'
        have hpn : p.1 = c := by simpa using hpn
        have hm : c ∈ os0.map (·.1) := by rw [b6, ← hpn]; exact List.mem_map_of_mem hp
        obtain ⟨o, ho⟩ := gt_some hm
        obtain ⟨n', o', q1, q2, q3, _⟩ := b5 c o (gt_mem ho)
        rw [hcn] at q1; cases q1
        rw [hlen0 c o ho, q3]; unfold TS.len; rw [q2]
       have hob' : ∀ p ∈ sig.objs, match p.2 with | .box _ ps => ps.all (vhIn V sig.objs) = true | _ => True := by
        intro p hp
        have := i2 p hp
        cases hq : p.2 with
        | box oty ps => rw [hq] at this; simpa using this
        | st i => trivial
        | vec te e => trivial
        | dvec te e out => trivial
        | map tk tv => trivial
        | iter => trivial
        | miter m k v => trivial
       have hown : ∀ n o, gt (sig.objs.filterMap fun p => ((S.own? (σf σ1 p.1)).bind (encO V S.len)).map fun o => (σf σ1 p.1, o)) n = some o → (S.own? n).bind (encO V S.len) = some o := by
        intro n o hn
        obtain ⟨p, hp, hpe⟩ := List.mem_filterMap.1 (gt_mem hn)
        rw [Option.map_eq_some_iff] at hpe
        obtain ⟨o', h1, h2⟩ := hpe
        simp only [Prod.mk.injEq] at h2
        obtain ⟨rfl, rfl⟩ := h2
        exact h1
       have hkeys : ∀ n, n ∈ (sig.objs.filterMap fun p => ((S.own? (σf σ1 p.1)).bind (encO V S.len)).map fun o => (σf σ1 p.1, o)).map (·.1) ↔ n ∈ sig.objs.map fun p => σf σ1 p.1 := by
        intro n
        constructor
        ·intro hn
         obtain ⟨q, hq, rfl⟩ := List.mem_map.1 hn
         obtain ⟨p, hp, hpe⟩ := List.mem_filterMap.1 hq
         rw [Option.map_eq_some_iff] at hpe
         obtain ⟨o', h1, h2⟩ := hpe
         rw [← h2]
         exact List.mem_map_of_mem (f := fun p => σf σ1 p.1) hp
        ·intro hn
         obtain ⟨p, hp, rfl⟩ := List.mem_map.1 hn
         obtain ⟨n, o, q1, q2, z, q3⟩ := hbound p hp
         refine List.mem_map.2 ⟨(σf σ1 p.1, z), List.mem_filterMap.2 ⟨p, hp, ?_⟩, rfl⟩
         rw [σf_some q1, q2]
         simp [q3]
       have hex : ∀ n o, gt (renO (σf τ) (encOs ω0 os0)) n = some o → ∃ z, (gt (sig.objs.filterMap fun p => ((S.own? (σf σ1 p.1)).bind (encO V S.len)).map fun o => (σf σ1 p.1, o)) n = some z) ∧ (∀ E M w, OwnOk E M w n z → OwnOk E M w n o) ∧ ∀ (E : Env) w b, o.foot w (E n) b → z.foot w (E n) b := by
        intro n o hn
        obtain ⟨c, o1, rfl, hg, rfl⟩ := gt_renO_some hfi hn
        obtain ⟨t, ht, hto⟩ := gt_filterMap hg
        obtain ⟨n', oS, q1, q2, _, x4, q4, x', q5, q6, q7⟩ := b5 c t ht
        rw [q5] at hto
        simp only [Option.some.injEq] at hto; subst hto
        have e : σf τ c = n' := σf_some (hsub _ _ q1)
        have hck : c ∈ sig.objs.map (·.1) := by rw [← b6]; exact List.mem_map_of_mem (f := (·.1)) ht
        obtain ⟨p, hp, hpc⟩ := List.mem_map.1 hck
        have hk' := (hkeys n').2 (List.mem_map.2 ⟨p, hp, by rw [hpc]; exact σf_some q1⟩)
        obtain ⟨z, hz⟩ := gt_some hk'
        have hz' := hown _ _ hz
        rw [q2] at hz'
        simp only [Option.bind_some, q4, Option.some.injEq] at hz'
        rw [e]
        refine ⟨z, hz, fun E M w hw => ?_, fun E w b hb => ?_⟩
        ·rw [← hz'] at hw
         have := (q6 σ1 sig.objs E _ M w S.len ω0 (Sub.refl _) hob' (hTr E) hw).ren (E' := E) (f := σf τ) rfl fun m _ => rfl
         rw [e] at this
         exact this
        ·rw [Own.ren_foot] at hb
         rw [← hz']
         exact q7 E (fun _ => E n') w S.len ω0 b rfl hb
       have hsome : ∀ p ∈ os, ∃ o, encO V ω1 p.2 = some o := by
        intro p hp
        have := o4 p hp
        cases hq : p.2 with
        | box oty cells => exact ⟨_, rfl⟩
        | bst i x => exact ⟨_, rfl⟩
        | vec te e xs => exact ⟨_, rfl⟩
        | dvec te e xs => exact ⟨_, rfl⟩
        | pvec te e xs => exact ⟨_, rfl⟩
        | map tk tv es => exact ⟨_, rfl⟩
        | iter s p => exact ⟨_, rfl⟩
        | miter m k v es rest cur => exact ⟨_, rfl⟩
        | gone l => rw [hq] at this; simp [TO.allN] at this
       have hgos : ∀ n, (gt os n).isSome = true → (gt (encOs ω1 os) n).isSome = true := by
        intro n hn
        obtain ⟨o, ho⟩ := Option.isSome_iff_exists.1 hn
        obtain ⟨z, hz⟩ := hsome _ (gt_mem ho)
        rw [gt_encOs ho hz]; rfl
       refine ⟨_, h, ?_, ?_⟩
       ·intro m o hm
        simp only [gt_app] at hm
        split at hm
        ·rename_i o' hq
         simp only [Option.some.injEq] at hm; subst hm
         obtain ⟨p, hp, hpe⟩ := List.mem_map.1 (gt_mem hq)
         simp only [Prod.mk.injEq] at hpe
         obtain ⟨rfl, rfl⟩ := hpe
         have h5 := o5 p hp
         rw [Bool.or_eq_true] at h5
         by_cases hpk : isIn p.1 (sig.objs.map (·.1)) = true
         ·right
          rcases h5 with h5 | h5
          ·rw [hpk] at h5; cases h5
          ·rw [len_ren]
           cases hpp : p.2 with
           | box oty cells => rw [hpp] at h5; simp only [stays] at h5; exact (Nat.eq_of_beq_eq_true h5).symm
           | bst i x => rw [hpp] at h5; simp only [stays] at h5; exact (Nat.eq_of_beq_eq_true h5).symm
           | vec te e xs =>
            exact hlens _ (keepLens_mem (.inl ⟨te, e, xs, rfl⟩) hpk (by rw [← hpp]; exact hp))
           | dvec te e xs =>
            exact hlens _ (keepLens_mem (.inr (.inl ⟨te, e, xs, rfl⟩)) hpk (by rw [← hpp]; exact hp))
           | pvec te e xs =>
            exact hlens _ (keepLens_mem (.inr (.inr ⟨te, e, xs, rfl⟩)) hpk (by rw [← hpp]; exact hp))
           | map tk tv es => rw [hpp] at h5; simp only [stays] at h5; exact (Nat.eq_of_beq_eq_true h5).symm
           | iter s p => rw [hpp] at h5; simp only [stays] at h5; exact (Nat.eq_of_beq_eq_true h5).symm
           | miter m k v es rest cur => rw [hpp] at h5; cases h5
           | gone l => rw [hpp] at h5; cases h5
         ·left
          refine newN_mem (List.mem_map.2 ⟨p, hp, rfl⟩) fun hmem => hpk (isIn_iff.2 ?_)
          obtain ⟨q, hq', hqe⟩ := List.mem_map.1 hmem
          obtain ⟨n, o, q1, _⟩ := hbound q hq'
          rw [σf_some q1, ← σf_some (hsub _ _ q1)] at hqe
          rw [← hfi _ _ hqe]
          exact List.mem_map_of_mem (f := (·.1)) hq'
        ·right
         obtain ⟨q, hq', hqe⟩ := List.mem_map.1 (gt_mem hm)
         simp only [Prod.mk.injEq] at hqe
         obtain ⟨rfl, rfl⟩ := hqe
         rfl
       ·have hat := hc.ren τ (by
         simp only [renOk, Bool.and_eq_true, List.all_eq_true]
         refine ⟨⟨⟨⟨o1, fun p hp => ?_⟩, fun p hp => ?_⟩, ?_⟩, fun p hp => ?_⟩
         ·obtain ⟨z, hz, hz2⟩ := List.mem_filterMap.1 hp
          rw [Option.map_eq_some_iff] at hz2
          obtain ⟨o', _, rfl⟩ := hz2
          have : z.1 ∈ sig.objs.map (·.1) := by rw [← b6]; exact List.mem_map_of_mem (f := (·.1)) hz
          obtain ⟨q, hq, hqe⟩ := List.mem_map.1 this
          have := i3 q hq
          rw [hqe] at this
          exact this
         ·obtain ⟨z, hz, hz2⟩ := List.mem_filterMap.1 hp
          rw [Option.map_eq_some_iff] at hz2
          obtain ⟨o', _, rfl⟩ := hz2
          exact o2 z hz
         ·refine H.allN_of fun n hn => ?_
          rw [encV_has] at hn
          have := TV.allN_has o3 hn
          rw [Bool.or_eq_true]; exact .inr (hgos n this)
         ·obtain ⟨z, hz, hz2⟩ := List.mem_filterMap.1 hp
          rw [Option.map_eq_some_iff] at hz2
          obtain ⟨o', ho', rfl⟩ := hz2
          have h4 := o4 z hz
          cases o' with
          | box oty cells =>
           simp only [Own.allN]
           refine H.allNL_of fun n hn => ?_
           have : TO.has n z.2 = true := by rw [← encO_has ω1 n ho']; exact hn
           have := TO.allN_has h4 this
           rw [Bool.or_eq_true]; exact .inr (hgos n this)
          | vec e sz rows => rfl
          | map es => rfl
          | iter s p => rfl
          | dvec e sz rows => rfl
          | miter m es rest cur =>
           simp only [Own.allN]
           have : TO.has m z.2 = true := by rw [← encO_has ω1 m ho']; exact Nat.beq_refl m
           have := TO.allN_has h4 this
           rw [Bool.or_eq_true]; exact .inr (hgos m this))
        generalize hownE : (sig.objs.filterMap fun p => ((S.own? (σf σ1 p.1)).bind (encO V S.len)).map fun o => (σf σ1 p.1, o)) = own at hown hkeys hex
        refine ⟨own, _, _, FnAt.weak (args' := encL V S.len args) (own1 := own) hat (fun E M vs hvs => ?_) (fun E M w hw => ?_) (fun n => ?_) (fun E M w hw b hb => ?_), fun p hp => ?_, ?_⟩
        ·refine ⟨by rw [hvs.1, H.renL_len, encL_len, encL_len, a4], fun i c z hcz hz => ?_⟩
         rw [H.renL_get, encL_map, List.getElem?_map, Option.map_map, Option.map_eq_some_iff] at hz
         obtain ⟨u0, hu0, rfl⟩ := hz
         have hi : i < args.length := by rw [← a4]; exact (List.getElem?_eq_some_iff.1 hu0).1
         have hu := List.getElem?_eq_getElem hi
         obtain ⟨_, k2⟩ := a6 i _ u0 hu hu0
         have hr := hvs.2 i c (encV V S.len args[i]) hcz (by rw [encL_map, List.getElem?_map, hu]; rfl)
         exact (k2 σ1 sig.objs E _ M S.len ω0 c b1 (List.all_eq_true.2 i1) (hTr E) hr).ren fun n _ => rfl
        ·refine ⟨fun n o hn => ?_, fun n m o o' b hne hn hm hb => ?_⟩
         ·obtain ⟨z, hz, hz', _⟩ := hex n o hn
          exact hz' E M w (hw.ok n z hz)
         ·obtain ⟨z, hz, _, f1⟩ := hex n o hn
          obtain ⟨z', hz', _, f2⟩ := hex m o' hm
          exact fun hb' => hw.apart n m z z' b hne hz hz' (f1 E w b hb) (f2 E w b hb')
        ·constructor
         ·rintro ⟨o, ho⟩
          obtain ⟨z, hz, _⟩ := hex n o ho
          exact ⟨z, hz⟩
         ·rintro ⟨o, ho⟩
          have := (hkeys n).1 (List.mem_map_of_mem (f := (·.1)) (gt_mem ho))
          obtain ⟨p, hp, rfl⟩ := List.mem_map.1 this
          have hm : p.1 ∈ os0.map (·.1) := by rw [b6]; exact List.mem_map_of_mem hp
          obtain ⟨t, ht⟩ := gt_some hm
          obtain ⟨n', oS, q1, q2, _, x4, q4, x', q5, q6⟩ := b5 p.1 t (gt_mem ht)
          refine ⟨(x' ω0).ren (σf τ), ?_⟩
          rw [σf_some q1, ← σf_some (hsub _ _ q1), gt_renO hfi, gt_encOs ht (q5 ω0)]
          rfl
        ·obtain ⟨n, o, hn, hb⟩ := hb
         obtain ⟨z, hz, _, f1⟩ := hex n o hn
         exact ⟨n, z, hz, f1 E w b hb⟩
        ·rw [← hownE] at hp
         obtain ⟨q, hq, hqe⟩ := List.mem_filterMap.1 hp
         rw [Option.map_eq_some_iff] at hqe
         obtain ⟨o', h1, rfl⟩ := hqe
         rw [encS_own?]; exact h1
        ·have hω : ∀ te : TE V.N, (∀ c o, gt os c = some o → gt te.upd (σf τ c) = some (o.ren (σf τ))) → ∀ c, (gt os c).isSome = true → (S.app dst te).len (σf τ c) = ω1 c := by
          intro te hte c hcs
          obtain ⟨o, ho⟩ := Option.isSome_iff_exists.1 hcs
          rw [app_len, hte c o ho, hlen1 c o ho]
          exact len_ren _ o
         have hkl : own.map (·.1) = sig.objs.map fun p => σf σ1 p.1 := by
          rw [← hownE]
          have : ∀ l : List (Nat × OPt V.ι), (∀ p ∈ l, ∃ n o, gt σ1 p.1 = some n ∧ S.own? n = some o ∧ ∃ z, encO V S.len o = some z) →
            (l.filterMap fun p => ((S.own? (σf σ1 p.1)).bind (encO V S.len)).map fun o => (σf σ1 p.1, o)).map (·.1) = l.map fun p => σf σ1 p.1 := by
           intro l
           induction l with
           | nil => intro _; rfl
           | cons p r ih =>
            intro hl
            obtain ⟨n, o, q1, q2, z, q3⟩ := hl p List.mem_cons_self
            have e : (S.own? (σf σ1 p.1)).bind (encO V S.len) = some z := by rw [σf_some q1, q2]; exact q3
            simp only [List.filterMap_cons, e, Option.map_some, List.map_cons]
            rw [ih fun q hq => hl q (List.mem_cons_of_mem _ hq)]
          exact this sig.objs hbound
         have hml : (renO (σf τ) (encOs ω1 os)).map (·.1) = os.map fun p => σf τ p.1 := by
          have : ∀ l : List (Nat × TO V.N), (∀ p ∈ l, ∃ o, encO V ω1 p.2 = some o) → (renO (σf τ) (encOs ω1 l)).map (·.1) = l.map fun p => σf τ p.1 := by
           intro l
           induction l with
           | nil => intro _; rfl
           | cons p r ih =>
            intro hl
            obtain ⟨o, ho⟩ := hl p List.mem_cons_self
            have := ih fun q hq => hl q (List.mem_cons_of_mem _ hq)
            unfold renO encOs at this ⊢
            simp only [List.filterMap_cons, ho, Option.map_some, List.map_cons]
            rw [this]
          exact this os hsome
         refine ele_upd ?_ ?_ ?_ ?_
         ·simp only [callEff]
          refine (encV_ren x fun n hn => hω _ (fun c o ho => ?_) n (TV.allN_has o3 hn)).symm
          simp only [gt_app, gt_mapf hfi, ho, Option.map_some]
         ·simp only [callEff]
          rw [newNames_newN, hkl]
          rw [hml]
         ·simp only [callEff, List.map_append]
          refine congr (congrArg _ ?_) ?_
          ·have : ∀ (ω2 : Nat → Nat) (l : List (Nat × TO V.N)), (∀ p ∈ l, ∃ o, encO V ω1 p.2 = some o) → (∀ p ∈ l, encO V ω2 (TO.ren (σf τ) p.2) = (encO V ω1 p.2).map (Own.ren (σf τ))) →
             (renO (σf τ) (encOs ω1 l)).map (fun p => (p.1, some p.2)) = (l.map fun p => (σf τ p.1, TO.ren (σf τ) p.2)).map fun p => (p.1, encO V ω2 p.2) := by
            intro ω2 l
            induction l with
            | nil => intro _ _; rfl
            | cons p r ih =>
             intro hl hl2
             obtain ⟨o, ho⟩ := hl p List.mem_cons_self
             have h2 := hl2 p List.mem_cons_self
             have := ih (fun q hq => hl q (List.mem_cons_of_mem _ hq)) fun q hq => hl2 q (List.mem_cons_of_mem _ hq)
             unfold renO encOs at this ⊢
             simp only [List.filterMap_cons, ho, Option.map_some, List.map_cons, h2]
             rw [this]
           refine this _ os hsome fun p hp => encO_ren p.2 fun n hn => hω _ (fun c o ho => ?_) n (TO.allN_has (o4 p hp) hn)
           simp only [gt_app, gt_mapf hfi, ho, Option.map_some]
          ·have e : own.map (fun p : Nat × Own => (p.1, (none : Option Own))) = (own.map (·.1)).map fun n => (n, none) := by rw [List.map_map]; rfl
           rw [e, hkl, List.map_map, List.map_map]
           rfl
         ·simp only [callEff]
          exact hkl
      ·cases h
     ·cases h
    ·cases h
   ·cases h
  ·cases h
 ·cases h
end
end Go.Tx
end
section
namespace Go.Tx
open Go.Awp
variable [Inhabited GMem]
section
variable (V : View)
mutual
def dbulk {H : Type} : DataW H → Nat
 | .lit (.string bs) => bs.length + 1
 | .lit _ => 1
 | .nil => 1
 | .ptr d => dbulk d + 1
 | .slice elems spare => dbulkL elems + dbulkL spare + 1
 | .agg parts => dbulkL parts + 1
 | .iface _ d => dbulk d + 1
 | .map _ => 1
 | .held _ => 1
def dbulkL {H : Type} : List (DataW H) → Nat
 | [] => 0
 | d :: r => dbulk d + dbulkL r
end
theorem dbulkL_sum {H : Type} : ∀ l : List (DataW H), dbulkL l = (l.map dbulk).sum
 | [] => by simp [dbulkL]
 | d :: r => by simp [dbulkL, dbulkL_sum r]
inductive Ok : (t : Ty V.ι) → den V.N t → Prop
 | int {k : IntKind} {n : Int} : (Lit.int k n).wf = true → Ok (.int k) n
 | bool (b : Bool) : Ok .bool b
 | str {s : ByteArray} : s.size ≤ maxLen → Ok .str s
 | sl {e : Ty V.ι} {xs : List (den V.N e)} : xs.length ≤ maxLen → (∀ x ∈ xs, Ok e x) → Ok (.sl e) xs
 | st {i : V.ι} {x : V.N i} : (∀ l ∈ V.cells i x, Ok l.t l.x) → Ok (.st i) x
inductive Bk : (t : Ty V.ι) → den V.N t → Nat → Prop
 | int {k : IntKind} {n : Int} {m : Nat} : 1 ≤ m → Bk (.int k) n m
 | bool {b : Bool} {m : Nat} : 1 ≤ m → Bk .bool b m
 | str {s : ByteArray} {m : Nat} : s.size + 1 ≤ m → Bk .str s m
 | sl {e : Ty V.ι} {xs : List (den V.N e)} {m : Nat} (ns : List Nat) : ns.length = xs.length → (∀ (i : Nat) (x : den V.N e) (n : Nat), xs[i]? = some x → ns[i]? = some n → Bk e x n) → ns.sum + 1 ≤ m → Bk (.sl e) xs m
 | st {i : V.ι} {x : V.N i} {m : Nat} (ns : List Nat) : ns.length = (V.cells i x).length → (∀ (j : Nat) (l : Leaf V.N) (n : Nat), (V.cells i x)[j]? = some l → ns[j]? = some n → Bk l.t l.x n) → ns.sum + 1 ≤ m → Bk (.st i) x m
def Bks (ls : List (Leaf V.N)) (m : Nat) : Prop :=
 ∃ ns : List Nat, ns.length = ls.length ∧ (∀ (j : Nat) (l : Leaf V.N) (n : Nat), ls[j]? = some l → ns[j]? = some n → Bk V l.t l.x n) ∧ ns.sum ≤ m
def flatTy : Ty V.ι → List (Ty V.ι)
 | .st i => V.tys i
 | t => [t]
def flds (P : Program) : Nat → List Field → Option (List (Ty V.ι))
 | _, [] => some []
 | off, f :: fs => match V.ty f.type with
  | some τ => if f.offset = off ∧ P.cellsOf f.type = tsz V.sz τ then match flds P (off + tsz V.sz τ) fs with
    | some l => some (flatTy V τ ++ l)
    | none => none
   else none
  | none => none
def noF : Ty V.ι → Bool
 | .fnc => false
 | .sl e => noF e
 | _ => true
def tyFact (P : Program) (t : TypeId) : Ty V.ι → Prop
 | .int k => P.underlying t = some (.int k)
 | .bool => P.underlying t = some .bool
 | .str => P.underlying t = some .string
 | .sl e => ∃ te, P.underlying t = some (.slice te) ∧ V.ty te = some e ∧ P.cellsOf te = tsz V.sz e ∧ Nat.blt 0 (tsz V.sz e) = true
 | .mp _ _ => False
 | .er => False
 | .op _ => False
 | .fnc => False
 | .st i => ∃ fs : Array Field, P.underlying t = some (.struct fs) ∧ P.cellsOf t = V.sz i ∧ flds V P 0 fs.toList = some (V.tys i)
structure Facts (P : Program) : Prop where
 ty : ∀ t τ, V.ty t = some τ → noF V τ = true → tyFact V P t τ
 nof : ∀ i, (V.tys i).all (noF V) = true
 tys : ∀ i x, (V.cells i x).map (·.t) = V.tys i
 of : ∀ i ls, ls.map (·.t) = V.tys i → ∃ y, V.ofCells i ls = some y
end
section
variable {V : View} {H0 : Type} {enc : TypeId × Value → H0} {P : Program} {W : World} {spare : Nat → Bool} {held : Bool} {base : Nat}
theorem read_string {t : TypeId} (hu : P.underlying t = some .string) {fuel : Nat} {cs : List Value} {x : DataW H0 × List MemPlace} (h : DataW.trod enc P W base spare held fuel t cs = some x) :
  ∃ s, cs = [.string s] ∧ s.size ≤ maxLen := by
 cases fuel with
 | zero => cases h
 | succ fuel =>
  unfold DataW.trod at h
  rw [hu] at h
  simp only [] at h
  split at h <;> try (rename_i h1 _; cases h1)
  all_goals try (cases h; done)
  all_goals simp_all
def LeafRep (M : Mem) (cs : List Value) (ls : List (Leaf V.N)) : Prop :=
 cs.length = ls.length ∧ ∀ (i : Nat) (c : Value) (l : Leaf V.N), cs[i]? = some c → ls[i]? = some l → DRep M c (encD V.sz V.enc l.t l.x)
theorem LeafRep.app {M : Mem} {cs cs' : List Value} {ls ls' : List (Leaf V.N)} (h : LeafRep M cs ls) (h' : LeafRep M cs' ls') : LeafRep M (cs ++ cs') (ls ++ ls') := by
 refine ⟨by simp [h.1, h'.1], fun i c l hc hl => ?_⟩
 by_cases hi : i < cs.length
 ·rw [List.getElem?_append_left hi] at hc
  rw [List.getElem?_append_left (by rw [← h.1]; exact hi)] at hl
  exact h.2 i c l hc hl
 ·rw [List.getElem?_append_right (by omega)] at hc
  rw [List.getElem?_append_right (by rw [← h.1]; omega), ← h.1] at hl
  exact h'.2 _ c l hc hl
theorem Bks.app {ls ls' : List (Leaf V.N)} {m m' : Nat} (h : Bks V ls m) (h' : Bks V ls' m') : Bks V (ls ++ ls') (m + m') := by
 obtain ⟨ns, h1, h2, h3⟩ := h
 obtain ⟨ns', h1', h2', h3'⟩ := h'
 refine ⟨ns ++ ns', by simp [h1, h1'], fun j l n hl hn => ?_, by simp; omega⟩
 by_cases hj : j < ls.length
 ·rw [List.getElem?_append_left hj] at hl
  rw [List.getElem?_append_left (by omega)] at hn
  exact h2 j l n hl hn
 ·rw [List.getElem?_append_right (by omega)] at hl
  rw [List.getElem?_append_right (by omega), h1] at hn
  exact h2' _ l n hl hn
theorem Bks.one {t : Ty V.ι} {x : den V.N t} {m : Nat} (h : Bk V t x m) : Bks V [⟨t, x⟩] m :=
 ⟨[m], rfl, fun j l n hl hn => by
  cases j with
  | zero => simp at hl hn; subst hl; subst hn; exact h
  | succ j => simp at hl, by simp⟩
def Rd (M : Mem) (τ : Ty V.ι) (cs : List Value) (m : Nat) : Prop :=
 ∃ y : den V.N τ, Ok V τ y ∧ LeafRep M cs (rcells V τ y) ∧ (rcells V τ y).map (·.t) = flatTy V τ ∧ (∀ l ∈ rcells V τ y, Ok V l.t l.x) ∧ Bk V τ y m ∧ Bks V (rcells V τ y) m
theorem read_fields (F : Facts V P) {M : Mem} {rd : TypeId → List Value → Nat → Prop} (hrd : ∀ t τ cs m, V.ty t = some τ → noF V τ = true → rd t cs m → Rd (V := V) M τ cs m) {cs : List Value} : ∀ (fs : List Field) (ms : List Nat) (off : Nat) (l : List (Ty V.ι)),
  flds V P off fs = some l → (∀ τ ∈ l, noF V τ = true) → ms.length = fs.length → (∀ (j : Nat) (f : Field) (m : Nat), fs[j]? = some f → ms[j]? = some m → rd f.type ((cs.drop f.offset).take (P.cellsOf f.type)) m) →
  ∃ (n : Nat) (ls : List (Leaf V.N)), ls.map (·.t) = l ∧ LeafRep M ((cs.drop off).take n) ls ∧ (∀ x ∈ ls, Ok V x.t x.x) ∧ n = ls.length ∧ Bks V ls ms.sum
 | [], ms, off, l, h, _, hm, _ => by
  simp [flds] at h; subst h
  exact ⟨0, [], rfl, ⟨rfl, fun i c l hc => by simp at hc⟩, (fun x hx => nomatch hx), rfl, [], rfl, fun j l n hl => by simp at hl, by simp⟩
 | f :: fs, [], off, l, h, _, hm, _ => by simp at hm
 | f :: fs, m :: ms, off, l, h, hnf, hm, hf => by
  simp only [flds] at h
  split at h
  ·rename_i τ hτ
   split at h
   ·rename_i hc
    obtain ⟨ho, hsz⟩ := hc
    split at h
    ·rename_i l' hl'
     simp at h; subst h
     obtain ⟨n, ls, a1, a2, a3, a4, a5⟩ := read_fields F hrd fs ms _ l' hl' (fun τ hτ => hnf τ (List.mem_append_right _ hτ)) (by simpa using hm) fun j g m hg hm => hf (j + 1) g m (by simpa using hg) (by simpa using hm)
     obtain ⟨y, b1, b2, b3, b4, b5, b6⟩ := hrd f.type τ _ m hτ (by cases τ <;> first | rfl | exact hnf _ (List.mem_append_left _ (by simp [flatTy]))) (hf 0 f m rfl rfl)
     rw [ho, hsz] at b2
     refine ⟨tsz V.sz τ + n, rcells V τ y ++ ls, by simp [a1, b3], ?_, fun x hx => ?_, by simp [rcells_len, a4], by rw [List.sum_cons]; exact b6.app a5⟩
     ·have e : (cs.drop off).take (tsz V.sz τ + n) = (cs.drop off).take (tsz V.sz τ) ++ (cs.drop (off + tsz V.sz τ)).take n := by
       rw [List.take_add, List.drop_drop]
      rw [e]
      exact b2.app a2
     ·rcases List.mem_append.1 hx with hx | hx
      ·exact b4 x hx
      ·exact a3 x hx
    ·cases h
   ·cases h
  ·cases h
theorem read_structB {t : TypeId} {fs : Array Field} (hu : P.underlying t = some (.struct fs)) {fuel : Nat} {cs : List Value} {x : DataW H0 × List MemPlace} (h : DataW.trod enc P W base spare held (fuel + 1) t cs = some x) :
  cs.length = P.cellsOf t ∧ ∃ ds : List (DataW H0), x.1 = .agg ds ∧ ds.length = fs.toList.length ∧ ∀ (i : Nat) (f : Field), fs.toList[i]? = some f → ∃ y, ds[i]? = some y.1 ∧ DataW.trod enc P W base spare held fuel f.type ((cs.drop f.offset).take (P.cellsOf f.type)) = some y := by
 unfold DataW.trod at h
 rw [hu] at h
 simp only [] at h
 split at h
 ·rename_i hl
  rw [Option.map_eq_some_iff] at h
  obtain ⟨ys, hm, hx⟩ := h
  subst hx
  refine ⟨hl, ys.map (·.1), rfl, by rw [List.length_map, (mapM_some hm).1], fun i f hf => ?_⟩
  obtain ⟨y, hy1, hy⟩ := (mapM_some hm).2 i f hf
  exact ⟨y, by rw [List.getElem?_map, hy1]; rfl, hy⟩
 ·cases h
theorem read_sliceB {t e : TypeId} (hu : P.underlying t = some (.slice e)) {fuel : Nat} {cs : List Value} {x : DataW H0 × List MemPlace} (h : DataW.trod enc P W base spare held (fuel + 1) t cs = some x) :
  (cs = [.slice none 0 0] ∧ x.1 = .nil) ∨ ∃ a len cap, cs = [.slice (some a) len cap] ∧ len ≤ cap ∧ cap ≤ maxLen ∧ ∃ ds sp : List (DataW H0), x.1 = .slice ds sp ∧ ds.length = len ∧
    ∀ i, i < len → ∃ row y, W.cells? base (a.add (i * P.cellsOf e)) (P.cellsOf e) = some row ∧ DataW.trod enc P W base spare held fuel e row = some y ∧ ds[i]? = some y.1 := by
 unfold DataW.trod at h
 rw [hu] at h
 simp only [] at h
 split at h
 all_goals first
  | (simp only [Option.some.injEq, reduceCtorEq] at *; done)
  | (left; simp only [Option.some.injEq] at h; exact ⟨rfl, by rw [← h]⟩)
  | (rename_i a len cap hx
     simp only [Option.some.injEq, TypeDesc.slice.injEq] at hx
     subst hx
     right
     split at h
     ·rename_i hc
      rw [Option.bind_eq_some_iff] at h
      obtain ⟨ys, hm, h⟩ := h
      rw [Option.map_eq_some_iff] at h
      obtain ⟨rest, _, h⟩ := h
      subst h
      refine ⟨a, len, cap, rfl, hc.2.1, hc.2.2, ys.map (·.1), rest.map (·.1), rfl, by rw [List.length_map, (mapM_some hm).1, List.length_range], fun i hi => ?_⟩
      obtain ⟨y, hy1, hy⟩ := (mapM_some hm).2 i i (by rw [List.getElem?_range hi])
      rw [Option.bind_eq_some_iff] at hy
      obtain ⟨row, h1, h2⟩ := hy
      exact ⟨row, y, h1, h2, by rw [List.getElem?_map, hy1]; rfl⟩
     ·cases h)
  | skip
theorem dbulk_pos {H : Type} (d : DataW H) : 1 ≤ dbulk d := by
 cases d with
 | lit l => cases l <;> simp [dbulk]
 | _ => simp [dbulk]
theorem read_stringB {t : TypeId} (hu : P.underlying t = some .string) {fuel : Nat} {cs : List Value} {x : DataW H0 × List MemPlace} (h : DataW.trod enc P W base spare held fuel t cs = some x) :
  ∃ s, cs = [.string s] ∧ s.size ≤ maxLen ∧ dbulk x.1 = s.size + 1 := by
 cases fuel with
 | zero => cases h
 | succ fuel =>
  obtain ⟨s, rfl, hs⟩ := read_string hu h
  refine ⟨s, rfl, hs, ?_⟩
  unfold DataW.trod at h
  rw [hu] at h
  simp only [] at h
  rw [if_pos hs] at h
  cases h
  show dbulk (.lit (.string s.data.toList)) = s.data.size + 1
  rw [dbulk, Array.length_toList]
theorem encR_rcells (τ : Ty V.ι) (y : den V.N τ) : encR V.sz V.enc τ y = (rcells V τ y).map fun l => encD V.sz V.enc l.t l.x := by
 cases τ <;> first | rfl | (simp only [encR, rcells]; exact V.enc_cells _ _) | simp [encR, rcells, encD]
theorem read_all (F : Facts V P) : ∀ (fuel : Nat) (t : TypeId) (τ : Ty V.ι) (cs : List Value) (x : DataW H0 × List MemPlace), V.ty t = some τ → noF V τ = true → DataW.trod enc P W base spare held fuel t cs = some x → Rd (memOf W) τ cs (dbulk x.1) := by
 intro fuel
 induction fuel using Nat.strongRecOn with
 | ind fuel ih =>
 intro t τ cs x hty hn h
 have hf := F.ty t τ hty hn
 cases τ with
 | mp k v => exact hf.elim
 | er => exact hf.elim
 | op e => exact hf.elim
 | fnc => exact hf.elim
 | int k =>
  obtain ⟨n, rfl, hw⟩ := read_int hf h
  refine ⟨n, .int hw, ⟨rfl, fun i c l hc hl => ?_⟩, rfl, fun l hl => ?_, .int (dbulk_pos _), .one (.int (dbulk_pos _))⟩
  ·cases i with
   | zero => simp [rcells] at hc hl; subst hc; subst hl; exact .v _
   | succ i => simp at hc
  ·simp [rcells] at hl; subst hl; exact .int hw
 | bool =>
  obtain ⟨b, rfl⟩ := read_bool hf h
  refine ⟨b, .bool b, ⟨rfl, fun i c l hc hl => ?_⟩, rfl, fun l hl => ?_, .bool (dbulk_pos _), .one (.bool (dbulk_pos _))⟩
  ·cases i with
   | zero => simp [rcells] at hc hl; subst hc; subst hl; exact .v _
   | succ i => simp at hc
  ·simp [rcells] at hl; subst hl; exact .bool b
 | str =>
  obtain ⟨s, rfl, hs, hb⟩ := read_stringB hf h
  refine ⟨s, .str hs, ⟨rfl, fun i c l hc hl => ?_⟩, rfl, fun l hl => ?_, .str (Nat.le_of_eq hb.symm), .one (.str (Nat.le_of_eq hb.symm))⟩
  ·cases i with
   | zero => simp [rcells] at hc hl; subst hc; subst hl; exact .v _
   | succ i => simp at hc
  ·simp [rcells] at hl; subst hl; exact .str hs
 | st i =>
  obtain ⟨fs, hu, hsz, hfl⟩ := hf
  cases fuel with
  | zero => cases h
  | succ fuel =>
   obtain ⟨hl, ds, hx, hdl, hr⟩ := read_structB hu h
   obtain ⟨n, ls, a1, a2, a3, a4, a5⟩ := read_fields F (M := memOf W) (rd := fun t cs m => ∃ y, DataW.trod enc P W base spare held fuel t cs = some y ∧ m = dbulk y.1) (fun t τ cs m hτ hn ⟨y, hy, hm⟩ => hm ▸ ih fuel (by omega) t τ cs y hτ hn hy) fs.toList (ds.map dbulk) 0 _ hfl (fun τ hτ => List.all_eq_true.1 (F.nof _) τ hτ)
    (by rw [List.length_map, hdl])
    (fun j f m hf hm => by
      obtain ⟨y, hy1, hy⟩ := hr j f hf
      rw [List.getElem?_map, hy1] at hm
      exact ⟨y, hy, by simpa using hm.symm⟩)
   obtain ⟨y, hy⟩ := F.of i ls a1
   have hc := V.of_cells i ls y hy
   have hn : n = cs.length := by rw [a4, ← hc, V.len_cells, hl, hsz]
   rw [List.drop_zero, List.take_of_length_le (by omega)] at a2
   have hdb : dbulk x.1 = (ds.map dbulk).sum + 1 := by rw [hx, dbulk, dbulkL_sum]
   obtain ⟨ns, c1, c2, c3⟩ := a5
   refine ⟨y, .st (by rw [hc]; exact a3), by simpa only [rcells, hc] using a2, by simpa only [rcells, hc, flatTy] using a1, by simpa only [rcells, hc] using a3, .st ns (by rw [hc]; exact c1) (by rw [hc]; exact c2) (by omega), ns, by simpa only [rcells, hc] using c1, by simpa only [rcells, hc] using c2, by omega⟩
 | sl e =>
  obtain ⟨te, hu, hte, hsz, hpos⟩ := hf
  have hpos : 0 < tsz V.sz e := by simpa [Nat.blt_eq] using hpos
  cases fuel with
  | zero => cases h
  | succ fuel =>
   have fin : ∀ (c3 : Value) (ys : List (den V.N e)), ys.length ≤ maxLen → (∀ y ∈ ys, Ok V e y) → DRep (memOf W) c3 (encD V.sz V.enc (.sl e) ys) → Bk V (.sl e) ys (dbulk x.1) → Rd (V := V) (memOf W) (.sl e) [c3] (dbulk x.1) := by
    intro c3 ys h1 h2 h3 h4
    refine ⟨ys, .sl h1 h2, ⟨rfl, fun i c l hc hl => ?_⟩, rfl, fun l hl => ?_, h4, .one h4⟩
    ·cases i with
     | zero => simp [rcells] at hc hl; subst hc; subst hl; exact h3
     | succ i => simp at hc
    ·simp [rcells] at hl; subst hl; exact .sl h1 h2
   rcases read_sliceB hu h with ⟨h4, hx⟩ | ⟨a, len, cap, h4, hlc, hcm, ds, sp, hx, hdl, hr⟩
   ·subst h4
    exact fin _ [] (by simp) (fun y hy => by cases hy) (.slnil _) (.sl [] rfl (fun i x n hx => by simp at hx) (by rw [hx]; simp [dbulk]))
   ·subst h4
    rw [hsz] at hr
    obtain ⟨ys, hyl, hys⟩ := list_of (α := den V.N e) (R := fun i y => ∃ row d, W.cells? base (a.add (i * tsz V.sz e)) (tsz V.sz e) = some row ∧ Ok V e y ∧ LeafRep (memOf W) row (rcells V e y) ∧ ds[i]? = some d ∧ Bk V e y (dbulk d)) len
     fun i hi => by
      obtain ⟨row, z, g1, g2, g3⟩ := hr i hi
      obtain ⟨y, b1, b2, _, _, b5, _⟩ := ih fuel (by omega) te e row z hte (by simpa [noF] using hn) g2
      exact ⟨y, row, z.1, g1, b1, b2, g3, b5⟩
    have hdb : dbulk x.1 = (ds.map dbulk).sum + dbulkL sp + 1 := by rw [hx, dbulk, dbulkL_sum]
    refine fin _ ys (by omega) (fun y hy => ?_) (DRep.of_slice (b := base) hpos hlc (by rw [List.length_map, hyl]) (fun r hr' => ?_) fun i hi => ?_) (.sl (ds.map dbulk) (by rw [List.length_map, hdl, hyl]) (fun i y n hy hn => ?_) (by omega))
    ·obtain ⟨i, hi, rfl⟩ := List.getElem_of_mem hy
     obtain ⟨row, _, _, e1, _⟩ := hys i _ (List.getElem?_eq_getElem hi)
     exact e1
    ·obtain ⟨y, _, rfl⟩ := List.mem_map.1 hr'
     rw [encR_rcells, List.length_map, rcells_len]
    ·obtain ⟨row, _, e0, _, e2, _⟩ := hys i (ys[i]'(by omega)) (List.getElem?_eq_getElem (by omega))
     refine ⟨row, e0, fun r hr' j c y hc hy => ?_⟩
     rw [List.getElem?_map, List.getElem?_eq_getElem (by omega : i < ys.length)] at hr'
     simp at hr'
     subst hr'
     rw [encR_rcells, List.getElem?_map, Option.map_eq_some_iff] at hy
     obtain ⟨l, hl, rfl⟩ := hy
     exact e2.2 j c l hc hl
    ·obtain ⟨row, d, _, _, _, e3, e4⟩ := hys i y hy
     rw [List.getElem?_map, e3] at hn
     simp at hn
     subst hn
     exact e4
theorem cell_not_agg {r : Reach} {t : TypeId} {cs : Array Value} (h : (∃ k, P.underlying t = some (.int k)) ∨ P.underlying t = some .bool ∨ P.underlying t = some .string ∨ ∃ e, P.underlying t = some (.slice e)) :
  ¬ Value.okWide P W r base t (.agg cs) := by
 intro hv
 unfold Value.okWide at hv
 rcases h with ⟨k, h⟩ | h | h | ⟨e, h⟩ <;> rw [h] at hv <;> simp only [Cell.okWide, Cell.ok, h] at hv
theorem open_valB (F : Facts V P) {r : Reach} {b0 : Nat} {t : TypeId} {τ : Ty V.ι} {v : Value} {d : DataW H0} {p : List MemPlace} (hty : V.ty t = some τ) (hok : Value.okWide P W r b0 t v) (h : DataW.Trod enc P W base spare held t v d p) (hn : noF V τ = true := by rfl) :
  ∃ y : den V.N τ, Ok V τ y ∧ DRep (memOf W) v (encD V.sz V.enc τ y) ∧ Bk V τ y (dbulk d) := by
 obtain ⟨fuel, h⟩ := h
 obtain ⟨y, h1, h2, _, _, h5, _⟩ := read_all F fuel t τ _ _ hty hn h
 refine ⟨y, h1, ?_, h5⟩
 have hf := F.ty t τ hty hn
 have cell : (∀ cs, v ≠ .agg cs) → rcells V τ y = [⟨τ, y⟩] → DRep (memOf W) v (encD V.sz V.enc τ y) := by
  intro hn hr
  rw [hr] at h2
  have hc : v.cells.toList = [v] := by cases v <;> first | rfl | exact (hn _ rfl).elim
  rw [hc] at h2
  exact h2.2 0 v ⟨τ, y⟩ rfl rfl
 cases τ with
 | mp k v => exact hf.elim
 | er => exact hf.elim
 | op e => exact hf.elim
 | fnc => exact hf.elim
 | int k => exact cell (fun cs e => by subst e; exact cell_not_agg (.inl ⟨k, hf⟩) hok) rfl
 | bool => exact cell (fun cs e => by subst e; exact cell_not_agg (.inr (.inl hf)) hok) rfl
 | str => exact cell (fun cs e => by subst e; exact cell_not_agg (.inr (.inr (.inl hf))) hok) rfl
 | sl e =>
  obtain ⟨te, hu, _⟩ := hf
  exact cell (fun cs e => by subst e; exact cell_not_agg (.inr (.inr (.inr ⟨te, hu⟩))) hok) rfl
 | st i =>
  obtain ⟨fs, hu, _, _⟩ := hf
  unfold Value.okWide at hok
  rw [hu] at hok
  obtain ⟨cs, rfl, _⟩ := hok
  simp only [Value.cells] at h2
  simp only [encD]
  rw [V.enc_cells]
  refine .agg cs _ (by rw [List.length_map]; have := h2.1; simpa [rcells] using this) fun k c x hc hx => ?_
  rw [List.getElem?_map, Option.map_eq_some_iff] at hx
  obtain ⟨l, hl, rfl⟩ := hx
  exact h2.2 k c l (by simpa using hc) hl
end
end Go.Tx
end
section
namespace Go.Proofs.YtpelkenpapfadaaGreatDoor
open Go.Awp Go.Shelf
open Go.Proofs.Tryz (prog)
set_option maxRecDepth 100000
theorem types8 : U8Types prog Tryz.lays197_ren := ⟨by kernel_rfl, by kernel_rfl, by kernel_rfl, by kernel_rfl⟩
theorem extra8 : U8Extra prog Tryz.lays197_ren := ⟨by kernel_rfl, by kernel_rfl, by kernel_rfl, by kernel_rfl, by kernel_rfl, by kernel_rfl, by kernel_rfl⟩
theorem first8 : Rows.laid_unicode_utf8_first = Lib.firstData := by kernel_rfl
theorem accept8 : (Rows.laid_unicode_utf8_acceptRanges : DataW Unit) = Lib.acceptData := by kernel_rfl
theorem pow8 : (Rows.laid_internal_strconv_uint64pow10 : DataW Unit) = Lib.tabData .u64 Lib.pow10Tab := by kernel_rfl
def bruijn : List Int := [0, 1, 56, 2, 57, 49, 28, 3, 61, 58, 42, 50, 38, 29, 17, 4, 62, 47, 59, 36, 45, 43, 51, 22, 53, 39, 33, 30, 24, 18, 12, 5, 63, 55, 48, 27, 60, 41, 37, 16, 46, 35, 44, 21, 52, 32, 23, 11, 54, 26, 40, 15, 34, 20, 31, 10, 25, 14, 19, 9, 13, 8, 7, 6]
theorem bruijn8 : (Rows.laid_math_bits_deBruijn64tab : DataW Unit) = Lib.tabData .u8 bruijn := by kernel_rfl
def laid8 : List (String × DataW Unit) := [("math/bits.deBruijn32tab", Rows.laid_math_bits_deBruijn32tab), ("math/bits.deBruijn64tab", Rows.laid_math_bits_deBruijn64tab), ("internal/strconv.uint64pow10", Rows.laid_internal_strconv_uint64pow10), ("unicode/utf8.acceptRanges", Rows.laid_unicode_utf8_acceptRanges), ("strconv.ErrRange", Rows.laid_strconv_ErrRange), ("strconv.ErrSyntax", Rows.laid_strconv_ErrSyntax), ("unicode/utf8.first", Rows.laid_unicode_utf8_first)]
theorem tab_of_reads {P : Program} {w : World} {name : String} {k : IntKind} {zs : List Int} {g : Nat} {t e : TypeId} {n : Nat} (hg : P.globalNamed name = some g) (hty : (P.globals[g]?).map (·.type) = some t) (ht : P.underlying t = some (.array n e)) (he : P.underlying e = some (.int k)) (hce : P.cellsOf e = 1) (hct : P.cellsOf t = n)
  (h : Lib.VarReads P w name (Lib.tabData k zs)) : Lib.TabIs P w name k zs := by
 obtain ⟨g', t', cs, fuel, p, hg', ht', hvar, hd⟩ := h
 obtain rfl := Option.some.inj (hg.symm.trans hg')
 obtain rfl := Option.some.inj (hty.symm.trans ht')
 unfold Lib.TabIs
 rw [hvar, ← Lib.cells_of_tab ht he hce hct hd]
theorem iface_of_reads {P : Program} {w : World} {name nm : String} {d : DataW Unit} {g : Nat} {t : TypeId} {ms : TypeDesc} (hg : P.globalNamed name = some g) (hty : (P.globals[g]?).map (·.type) = some t) (ht : P.underlying t = some ms) (hms : ∃ l, ms = .interface l)
  (h : Lib.VarReads P w name (.iface nm d)) : ∃ u v, w.cell? ⟨g, 0, none⟩ = some (.iface u v) := by
 obtain ⟨l, rfl⟩ := hms
 obtain ⟨g', t', cs, fuel, p, hg', ht', hvar, hd⟩ := h
 obtain rfl := Option.some.inj (hg.symm.trans hg')
 obtain rfl := Option.some.inj (hty.symm.trans ht')
 have hc : ∃ u v, cs.toList = [.iface u v] := by
  cases fuel with
  | zero => cases hd
  | succ fuel =>
   unfold DataW.trod at hd
   rw [ht] at hd
   simp only [] at hd
   split at hd <;> try (rename_i h1 _; cases h1)
   all_goals try (cases hd; done)
   all_goals first
    | (rename_i u v _; exact ⟨u, v, by assumption⟩)
    | (simp_all; done)
 obtain ⟨u, v, hc⟩ := hc
 refine ⟨u, v, ?_⟩
 unfold World.var? at hvar
 rw [hg] at hvar
 simp only [Option.bind_some] at hvar
 split at hvar
 ·rename_i cs' _ _ hw
  cases hvar
  have : cs[0]? = some (.iface u v) := by rw [← Array.getElem?_toList, hc]; rfl
  simpa [World.cell?, hw] using this
 ·cases hvar
theorem gmem_laid {W : World} (h : laidMetH prog laid8 W) : GOk (memOf W) W := by
 rw [MakeChecks.laidMetH_plain _ _ _ (by kernel_rfl)] at h
 have h1 : Lib.VarReads prog W "unicode/utf8.acceptRanges" Lib.acceptData := accept8 ▸ Lib.laidMet.reads h (.tail _ (.tail _ (.tail _ (.head _))))
 have h2 : Lib.VarReads prog W "unicode/utf8.first" Lib.firstData := first8 ▸ Lib.laidMet.reads h (.tail _ (.tail _ (.tail _ (.tail _ (.tail _ (.tail _ (.head _)))))))
 have h3 : Lib.VarReads prog W "internal/strconv.uint64pow10" (Lib.tabData .u64 Lib.pow10Tab) := pow8 ▸ Lib.laidMet.reads h (.tail _ (.tail _ (.head _)))
 have h4 := iface_of_reads (P := prog) (g := 7) (t := 85) (by kernel_rfl) (by kernel_rfl) Tryz.underlying85 ⟨_, rfl⟩ (Lib.laidMet.reads h (.tail _ (.tail _ (.tail _ (.tail _ (.head _))))))
 have h5 := iface_of_reads (P := prog) (g := 6) (t := 85) (by kernel_rfl) (by kernel_rfl) Tryz.underlying85 ⟨_, rfl⟩ (Lib.laidMet.reads h (.tail _ (.tail _ (.tail _ (.tail _ (.tail _ (.head _)))))))
 have h6 : Lib.TabIs prog W "internal/strconv.uint64pow10" .u64 Lib.pow10Tab := by
  obtain ⟨g, t, cs, fuel, p, hg, ht, _, _⟩ := id h3
  exact tab_of_reads (g := 0) (t := 189) (e := 171) (n := 20) (by kernel_rfl) (by kernel_rfl) (by kernel_rfl) (by kernel_rfl) (by kernel_rfl) (by kernel_rfl) h3
 have h7 : W.cell? ⟨5, 15, none⟩ = some (.int .u8 4) := by
  have h9 : Lib.VarReads prog W "math/bits.deBruijn64tab" (Lib.tabData .u8 bruijn) := bruijn8 ▸ Lib.laidMet.reads h (.tail _ (.head _))
  have h10 := tab_of_reads (P := prog) (g := 5) (t := 217) (e := 5) (n := 64) (by kernel_rfl) (by kernel_rfl) (by kernel_rfl) (by kernel_rfl) (by kernel_rfl) (by kernel_rfl) h9
  have := h10.cell (g := 5) (by kernel_rfl) 15 (by decide)
  exact this
 refine ⟨tabs_le h7 (utf8Tabs_of_readsT types8 extra8 h2 h1) h6, fun b hb => ?_, fun p hp => ?_⟩
 ·have hb : b ∈ [6, 7] := hb
  simp only [List.mem_cons, List.not_mem_nil, or_false] at hb
  rcases hb with rfl | rfl
  ·exact h5
  ·exact h4
 ·have hp : p ∈ [(0, 20)] := hp
  simp only [List.mem_cons, List.not_mem_nil, or_false] at hp
  subst hp
  have hn : prog.globalNamed "internal/strconv.uint64pow10" = some 0 := by kernel_rfl
  refine ⟨⟨_, h6.cell hn 0 (by rw [pow10_len]; decide)⟩, ?_⟩
  unfold Lib.TabIs World.var? at h6
  rw [hn] at h6
  simp only [Option.bind_some] at h6
  split at h6
  ·rename_i cs t fr hw
   cases h6
   exact ⟨_, _, _, hw, by simp [pow10_len]⟩
  ·cases h6
mutual
theorem dbulk_le {H : Type} : ∀ d : DataW H, Go.Tx.dbulk d ≤ Rows.uptoBulk d
 | .lit l => by cases l <;> simp [Go.Tx.dbulk, Rows.uptoBulk]
 | .nil => by simp [Go.Tx.dbulk, Rows.uptoBulk]
 | .ptr d => by have := dbulk_le d; simp only [Go.Tx.dbulk, Rows.uptoBulk]; omega
 | .slice es sp => by have h1 := dbulkL_le es; have h2 := dbulkL_le sp; simp only [Go.Tx.dbulk, Rows.uptoBulk]; omega
 | .agg ps => by have := dbulkL_le ps; simp only [Go.Tx.dbulk, Rows.uptoBulk]; omega
 | .iface _ d => by have := dbulk_le d; simp only [Go.Tx.dbulk, Rows.uptoBulk]; omega
 | .map es => by simp [Go.Tx.dbulk, Rows.uptoBulk]
 | .held h => by simp [Go.Tx.dbulk, Rows.uptoBulk]
theorem dbulkL_le {H : Type} : ∀ l : List (DataW H), Go.Tx.dbulkL l ≤ Rows.uptoBulkAll l
 | [] => by simp [Go.Tx.dbulkL, Rows.uptoBulkAll]
 | d :: r => by have h1 := dbulk_le d; have h2 := dbulkL_le r; simp only [Go.Tx.dbulkL, Rows.uptoBulkAll]; omega
end
end Go.Proofs.YtpelkenpapfadaaGreatDoor
end
section
namespace Go.Tx
open Go.Awp
variable [Inhabited GMem]
section
variable {V : View}
end
end Go.Tx
end
section
namespace Go.Proofs.YtpelkenpapfadaaGreatDoor.Ty
open Go.Awp
theorem mixed : Tryz.prog.follows .mixedOrders = true := by kernel_rfl
end Go.Proofs.YtpelkenpapfadaaGreatDoor.Ty
end
section
namespace Go.Proofs.YtpelkenpapfadaaGreatDoor
open Go.Awp Go.Tx
structure Target where
 word : Int
 big : Bool
 deriving DecidableEq
noncomputable def Target.enc (x : Target) : List D := [.v (.int .i64 x.word)] ++ [.v (.bool x.big)]
noncomputable def Target.encd (x : Target) : List DD := [.d (.v (.int .i64 x.word))] ++ [.d (.v (.bool x.big))]
theorem Target.encd_toL (x : Target) : DD.toL x.encd = some x.enc := (DD.toL_app (toL1 _) (toL1 _))
structure Layout where
 kind : Int
 n : Int
 flag : Bool
 parts : (List Layout)
mutual
noncomputable def Layout.enc : Layout → List D
 | ⟨a0, a1, a2, a3⟩ => [.v (.int .i64 a0)] ++ [.v (.int .i64 a1)] ++ [.v (.bool a2)] ++ [.sl 4 (Layout.encL a3)]
noncomputable def Layout.encL : List Layout → List (List D)
 | [] => []
 | x :: r => Layout.enc x :: Layout.encL r
end
theorem Layout.encL_map : ∀ l : List Layout, Layout.encL l = l.map Layout.enc
 | [] => by simp [Layout.encL]
 | x :: r => by simp [Layout.encL, Layout.encL_map r]
mutual
noncomputable def Layout.encd : Layout → List DD
 | ⟨a0, a1, a2, a3⟩ => [.d (.v (.int .i64 a0))] ++ [.d (.v (.int .i64 a1))] ++ [.d (.v (.bool a2))] ++ [.sl 42 4 (Layout.encdL a3)]
noncomputable def Layout.encdL : List Layout → List (List DD)
 | [] => []
 | x :: r => Layout.encd x :: Layout.encdL r
end
theorem Layout.encdL_map : ∀ l : List Layout, Layout.encdL l = l.map Layout.encd
 | [] => by simp [Layout.encdL]
 | x :: r => by simp [Layout.encdL, Layout.encdL_map r]
mutual
theorem Layout.encd_toL : ∀ x : Layout, DD.toL x.encd = some x.enc
 | ⟨a0, a1, a2, a3⟩ => by rw [Layout.encd, Layout.enc]; exact (DD.toL_app (DD.toL_app (DD.toL_app (toL1 _) (toL1 _)) (toL1 _)) (toLs (Layout.encdL_toR a3)))
theorem Layout.encdL_toR : ∀ l : List Layout, DD.toR (Layout.encdL l) = some (Layout.encL l)
 | [] => by rw [Layout.encdL, Layout.encL]; rfl
 | x :: r => by rw [Layout.encdL, Layout.encL]; exact toRc (Layout.encd_toL x) (Layout.encdL_toR r)
end
structure Item where
 kind : Int
 name0 : ByteArray
 n : Int
 names : (List ByteArray)
 layout : Layout
noncomputable def Item.enc (x : Item) : List D := [.v (.int .i64 x.kind)] ++ [.v (.string x.name0)] ++ [.v (.int .i64 x.n)] ++ [.sl 1 (List.map (fun y => [.v (.string y)]) x.names)] ++ Layout.enc x.layout
noncomputable def Item.encd (x : Item) : List DD := [.d (.v (.int .i64 x.kind))] ++ [.d (.v (.string x.name0))] ++ [.d (.v (.int .i64 x.n))] ++ [.sl 9 1 (List.map (fun y => [.d (.v (.string y))]) x.names)] ++ Layout.encd x.layout
theorem Item.encd_toL (x : Item) : DD.toL x.encd = some x.enc := (DD.toL_app (DD.toL_app (DD.toL_app (DD.toL_app (toL1 _) (toL1 _)) (toL1 _)) (toLs (toRm (fun y => (toL1 _)) _))) (Layout.encd_toL _))
structure Part where
 number : Int
 text : ByteArray
noncomputable def Part.enc (x : Part) : List D := [.v (.int .i64 x.number)] ++ [.v (.string x.text)]
noncomputable def Part.encd (x : Part) : List DD := [.d (.v (.int .i64 x.number))] ++ [.d (.v (.string x.text))]
theorem Part.encd_toL (x : Part) : DD.toL x.encd = some x.enc := (DD.toL_app (toL1 _) (toL1 _))
structure Translator where
 items : (List Item)
noncomputable def Translator.enc (x : Translator) : List D := [.sl 8 (List.map (fun y => Item.enc y) x.items)]
noncomputable def Translator.encd (x : Translator) : List DD := [.sl 44 8 (List.map (fun y => Item.encd y) x.items)]
theorem Translator.encd_toL (x : Translator) : DD.toL x.encd = some x.enc := (toLs (toRm (fun y => (Item.encd_toL y)) _))
structure Room where
 size : Int
 align : Int
 deriving DecidableEq
noncomputable def Room.enc (x : Room) : List D := [.v (.int .i64 x.size)] ++ [.v (.int .i64 x.align)]
noncomputable def Room.encd (x : Room) : List DD := [.d (.v (.int .i64 x.size))] ++ [.d (.v (.int .i64 x.align))]
theorem Room.encd_toL (x : Room) : DD.toL x.encd = some x.enc := (DD.toL_app (toL1 _) (toL1 _))
structure Place where
 size : Int
 align : Int
 deriving DecidableEq
noncomputable def Place.enc (x : Place) : List D := [.v (.int .i64 x.size)] ++ [.v (.int .i64 x.align)]
noncomputable def Place.encd (x : Place) : List DD := [.d (.v (.int .i64 x.size))] ++ [.d (.v (.int .i64 x.align))]
theorem Place.encd_toL (x : Place) : DD.toL x.encd = some x.enc := (DD.toL_app (toL1 _) (toL1 _))
structure Token where
 at0 : Int
 text : ByteArray
noncomputable def Token.enc (x : Token) : List D := [.v (.int .i64 x.at0)] ++ [.v (.string x.text)]
noncomputable def Token.encd (x : Token) : List DD := [.d (.v (.int .i64 x.at0))] ++ [.d (.v (.string x.text))]
theorem Token.encd_toL (x : Token) : DD.toL x.encd = some x.enc := (DD.toL_app (toL1 _) (toL1 _))
structure Reader where
 l : (List ByteArray)
 before : (List Item)
 wrong : Bool
noncomputable def Reader.enc (x : Reader) : List D := [.sl 1 (List.map (fun y => [.v (.string y)]) x.l)] ++ [.sl 8 (List.map (fun y => Item.enc y) x.before)] ++ [.v (.bool x.wrong)]
noncomputable def Reader.encd (x : Reader) : List DD := [.sl 9 1 (List.map (fun y => [.d (.v (.string y))]) x.l)] ++ [.sl 44 8 (List.map (fun y => Item.encd y) x.before)] ++ [.d (.v (.bool x.wrong))]
theorem Reader.encd_toL (x : Reader) : DD.toL x.encd = some x.enc := (DD.toL_app (DD.toL_app (toLs (toRm (fun y => (toL1 _)) _)) (toLs (toRm (fun y => (Item.encd_toL y)) _))) (toL1 _))
structure Counted where
 count : Int
 deep : Int
 large : Bool
 deriving DecidableEq
noncomputable def Counted.enc (x : Counted) : List D := [.v (.int .i64 x.count)] ++ [.v (.int .i64 x.deep)] ++ [.v (.bool x.large)]
noncomputable def Counted.encd (x : Counted) : List DD := [.d (.v (.int .i64 x.count))] ++ [.d (.v (.int .i64 x.deep))] ++ [.d (.v (.bool x.large))]
theorem Counted.encd_toL (x : Counted) : DD.toL x.encd = some x.enc := (DD.toL_app (DD.toL_app (toL1 _) (toL1 _)) (toL1 _))
structure AcceptRange where
 lo : Int
 hi : Int
 deriving DecidableEq
noncomputable def AcceptRange.enc (x : AcceptRange) : List D := [.v (.int .u8 x.lo)] ++ [.v (.int .u8 x.hi)]
noncomputable def AcceptRange.encd (x : AcceptRange) : List DD := [.d (.v (.int .u8 x.lo))] ++ [.d (.v (.int .u8 x.hi))]
theorem AcceptRange.encd_toL (x : AcceptRange) : DD.toL x.encd = some x.enc := (DD.toL_app (toL1 _) (toL1 _))
structure ErrorString where
 s : ByteArray
noncomputable def ErrorString.enc (x : ErrorString) : List D := [.v (.string x.s)]
noncomputable def ErrorString.encd (x : ErrorString) : List DD := [.d (.v (.string x.s))]
theorem ErrorString.encd_toL (x : ErrorString) : DD.toL x.encd = some x.enc := (toL1 _)
inductive SN where
 | targetT
 | layoutT
 | itemT
 | partT
 | translatorT
 | roomT
 | placeT
 | tokenT
 | readerT
 | countedT
 | acceptRangeT
 | errorStringT
 deriving DecidableEq
abbrev NN : SN → Type
 | .targetT => Target
 | .layoutT => Layout
 | .itemT => Item
 | .partT => Part
 | .translatorT => Translator
 | .roomT => Room
 | .placeT => Place
 | .tokenT => Token
 | .readerT => Reader
 | .countedT => Counted
 | .acceptRangeT => AcceptRange
 | .errorStringT => ErrorString
noncomputable def szN : SN → Nat
 | .targetT => 2
 | .layoutT => 4
 | .itemT => 8
 | .partT => 2
 | .translatorT => 1
 | .roomT => 2
 | .placeT => 2
 | .tokenT => 2
 | .readerT => 3
 | .countedT => 3
 | .acceptRangeT => 2
 | .errorStringT => 1
noncomputable def tysN : SN → List (Ty SN)
 | .targetT => [(.int .i64), .bool]
 | .layoutT => [(.int .i64), (.int .i64), .bool, (.sl (.st .layoutT))]
 | .itemT => [(.int .i64), .str, (.int .i64), (.sl .str), (.int .i64), (.int .i64), .bool, (.sl (.st .layoutT))]
 | .partT => [(.int .i64), .str]
 | .translatorT => [(.sl (.st .itemT))]
 | .roomT => [(.int .i64), (.int .i64)]
 | .placeT => [(.int .i64), (.int .i64)]
 | .tokenT => [(.int .i64), .str]
 | .readerT => [(.sl .str), (.sl (.st .itemT)), .bool]
 | .countedT => [(.int .i64), (.int .i64), .bool]
 | .acceptRangeT => [(.int .u8), (.int .u8)]
 | .errorStringT => [.str]
noncomputable def cellsN : (i : SN) → NN i → List (Leaf NN)
 | .targetT, x => [⟨(.int .i64), x.word⟩, ⟨.bool, x.big⟩]
 | .layoutT, x => [⟨(.int .i64), x.kind⟩, ⟨(.int .i64), x.n⟩, ⟨.bool, x.flag⟩, ⟨(.sl (.st .layoutT)), x.parts⟩]
 | .itemT, x => [⟨(.int .i64), x.kind⟩, ⟨.str, x.name0⟩, ⟨(.int .i64), x.n⟩, ⟨(.sl .str), x.names⟩, ⟨(.int .i64), x.layout.kind⟩, ⟨(.int .i64), x.layout.n⟩, ⟨.bool, x.layout.flag⟩, ⟨(.sl (.st .layoutT)), x.layout.parts⟩]
 | .partT, x => [⟨(.int .i64), x.number⟩, ⟨.str, x.text⟩]
 | .translatorT, x => [⟨(.sl (.st .itemT)), x.items⟩]
 | .roomT, x => [⟨(.int .i64), x.size⟩, ⟨(.int .i64), x.align⟩]
 | .placeT, x => [⟨(.int .i64), x.size⟩, ⟨(.int .i64), x.align⟩]
 | .tokenT, x => [⟨(.int .i64), x.at0⟩, ⟨.str, x.text⟩]
 | .readerT, x => [⟨(.sl .str), x.l⟩, ⟨(.sl (.st .itemT)), x.before⟩, ⟨.bool, x.wrong⟩]
 | .countedT, x => [⟨(.int .i64), x.count⟩, ⟨(.int .i64), x.deep⟩, ⟨.bool, x.large⟩]
 | .acceptRangeT, x => [⟨(.int .u8), x.lo⟩, ⟨(.int .u8), x.hi⟩]
 | .errorStringT, x => [⟨.str, x.s⟩]
noncomputable def encN : (i : SN) → NN i → List D
 | .targetT, x => Target.enc x
 | .layoutT, x => Layout.enc x
 | .itemT, x => Item.enc x
 | .partT, x => Part.enc x
 | .translatorT, x => Translator.enc x
 | .roomT, x => Room.enc x
 | .placeT, x => Place.enc x
 | .tokenT, x => Token.enc x
 | .readerT, x => Reader.enc x
 | .countedT, x => Counted.enc x
 | .acceptRangeT, x => AcceptRange.enc x
 | .errorStringT, x => ErrorString.enc x
noncomputable def ofN : (i : SN) → List (Leaf NN) → Option (NN i)
 | .targetT, [⟨(.int .i64), a0⟩, ⟨.bool, a1⟩] => some ⟨a0, a1⟩
 | .layoutT, [⟨(.int .i64), a0⟩, ⟨(.int .i64), a1⟩, ⟨.bool, a2⟩, ⟨(.sl (.st .layoutT)), a3⟩] => some ⟨a0, a1, a2, a3⟩
 | .itemT, [⟨(.int .i64), a0⟩, ⟨.str, a1⟩, ⟨(.int .i64), a2⟩, ⟨(.sl .str), a3⟩, ⟨(.int .i64), a4⟩, ⟨(.int .i64), a5⟩, ⟨.bool, a6⟩, ⟨(.sl (.st .layoutT)), a7⟩] => some ⟨a0, a1, a2, a3, ⟨a4, a5, a6, a7⟩⟩
 | .partT, [⟨(.int .i64), a0⟩, ⟨.str, a1⟩] => some ⟨a0, a1⟩
 | .translatorT, [⟨(.sl (.st .itemT)), a0⟩] => some ⟨a0⟩
 | .roomT, [⟨(.int .i64), a0⟩, ⟨(.int .i64), a1⟩] => some ⟨a0, a1⟩
 | .placeT, [⟨(.int .i64), a0⟩, ⟨(.int .i64), a1⟩] => some ⟨a0, a1⟩
 | .tokenT, [⟨(.int .i64), a0⟩, ⟨.str, a1⟩] => some ⟨a0, a1⟩
 | .readerT, [⟨(.sl .str), a0⟩, ⟨(.sl (.st .itemT)), a1⟩, ⟨.bool, a2⟩] => some ⟨a0, a1, a2⟩
 | .countedT, [⟨(.int .i64), a0⟩, ⟨(.int .i64), a1⟩, ⟨.bool, a2⟩] => some ⟨a0, a1, a2⟩
 | .acceptRangeT, [⟨(.int .u8), a0⟩, ⟨(.int .u8), a1⟩] => some ⟨a0, a1⟩
 | .errorStringT, [⟨.str, a0⟩] => some ⟨a0⟩
 | _, _ => none
noncomputable def tyN : TypeId → Option (Ty SN)
 | 2 => some (.int .i64)
 | 3 => some (.int .i64)
 | 4 => some .bool
 | 5 => some (.int .u8)
 | 6 => some (.int .u8)
 | 9 => some .str
 | 10 => some .str
 | 11 => some .str
 | 12 => some (.int .u64)
 | 21 => some (.int .i32)
 | 23 => some (.sl (.st .itemT))
 | 24 => some (.sl .str)
 | 25 => some (.int .i64)
 | 35 => some (.st .targetT)
 | 40 => some (.sl (.st .layoutT))
 | 42 => some (.st .layoutT)
 | 44 => some (.st .itemT)
 | 55 => some (.sl (.sl .str))
 | 57 => some (.sl (.int .i64))
 | 61 => some (.sl (.st .partT))
 | 65 => some (.st .partT)
 | 74 => some (.sl (.sl (.st .tokenT)))
 | 77 => some (.sl (.st .tokenT))
 | 81 => some (.sl (.int .u8))
 | 100 => some (.st .translatorT)
 | 107 => some (.st .roomT)
 | 111 => some (.st .placeT)
 | 122 => some (.sl .bool)
 | 125 => some (.st .tokenT)
 | 133 => some (.sl .fnc)
 | 143 => some (.st .readerT)
 | 163 => some (.st .countedT)
 | 171 => some (.int .u64)
 | 190 => some (.int .u32)
 | 193 => some (.int .u64)
 | 204 => some (.st .acceptRangeT)
 | 210 => some (.int .i64)
 | 227 => some (.st .errorStringT)
 | 233 => some (.int .u8)
 | 234 => some (.int .u8)
 | 236 => some (.int .i32)
 | 237 => some (.int .i32)
 | _ => none
theorem enc_cellsN (i : SN) (x : NN i) : encN i x = (cellsN i x).map fun l => encD szN encN l.t l.x := by
 cases i <;> cases x <;> first | (simp [encN, cellsN, encD, encR, tsz, szN, Target.enc, Layout.enc, Item.enc, Part.enc, Translator.enc, Room.enc, Place.enc, Token.enc, Reader.enc, Counted.enc, AcceptRange.enc, ErrorString.enc, Layout.encL_map]; done) | (rename_i q; cases q; simp [encN, cellsN, encD, encR, tsz, szN, Target.enc, Layout.enc, Item.enc, Part.enc, Translator.enc, Room.enc, Place.enc, Token.enc, Reader.enc, Counted.enc, AcceptRange.enc, ErrorString.enc, Layout.encL_map])
theorem of_cellsN (i : SN) (ls : List (Leaf NN)) (x : NN i) (h : ofN i ls = some x) : cellsN i x = ls := by
 unfold ofN at h
 split at h <;> first
  | (cases h; rfl)
  | (cases h; done)
theorem len_cellsN (i : SN) (x : NN i) : (cellsN i x).length = szN i := by cases i <;> rfl
theorem one_cellsN (i : SN) (x : NN i) : ∀ l ∈ cellsN i x, l.t.cell = true := by
 have h : (cellsN i x).all (fun l => l.t.cell) = true := by cases i <;> rfl
 exact List.all_eq_true.1 h
noncomputable def encdN : (i : SN) → NN i → List DD
 | .targetT, x => Target.encd x
 | .layoutT, x => Layout.encd x
 | .itemT, x => Item.encd x
 | .partT, x => Part.encd x
 | .translatorT, x => Translator.encd x
 | .roomT, x => Room.encd x
 | .placeT, x => Place.encd x
 | .tokenT, x => Token.encd x
 | .readerT, x => Reader.encd x
 | .countedT, x => Counted.encd x
 | .acceptRangeT, x => AcceptRange.encd x
 | .errorStringT, x => ErrorString.encd x
noncomputable def flatN : SN → Bool
 | .targetT => true
 | .layoutT => false
 | .itemT => false
 | .partT => true
 | .translatorT => false
 | .roomT => true
 | .placeT => true
 | .tokenT => true
 | .readerT => false
 | .countedT => true
 | .acceptRangeT => true
 | .errorStringT => true
noncomputable def tidN : Ty SN → Nat
 | (.st .itemT) => 44
 | .str => 9
 | (.st .layoutT) => 42
 | (.sl .str) => 24
 | (.int .i64) => 3
 | (.st .partT) => 65
 | (.sl (.st .tokenT)) => 77
 | (.st .tokenT) => 125
 | (.int .u8) => 5
 | .bool => 4
 | _ => 0
theorem encd_cellsN (i : SN) (x : NN i) : encdN i x = (cellsN i x).map fun l => encDD szN encN tidN encdN l.t l.x := by
 cases i <;> cases x <;> first | (simp [encdN, cellsN, encDD, encRD, encD, encR, tidN, tsz, szN, Target.encd, Layout.encd, Item.encd, Part.encd, Translator.encd, Room.encd, Place.encd, Token.encd, Reader.encd, Counted.encd, AcceptRange.encd, ErrorString.encd, Layout.encdL_map]; done) | (rename_i q; cases q; simp [encdN, cellsN, encDD, encRD, encD, encR, tidN, tsz, szN, Target.encd, Layout.encd, Item.encd, Part.encd, Translator.encd, Room.encd, Place.encd, Token.encd, Reader.encd, Counted.encd, AcceptRange.encd, ErrorString.encd, Layout.encdL_map])
theorem encd_toLN (i : SN) (x : NN i) : DD.toL (encdN i x) = some (encN i x) := by
 cases i
 ·exact Target.encd_toL x
 ·exact Layout.encd_toL x
 ·exact Item.encd_toL x
 ·exact Part.encd_toL x
 ·exact Translator.encd_toL x
 ·exact Room.encd_toL x
 ·exact Place.encd_toL x
 ·exact Token.encd_toL x
 ·exact Reader.encd_toL x
 ·exact Counted.encd_toL x
 ·exact AcceptRange.encd_toL x
 ·exact ErrorString.encd_toL x
theorem flat_cellsN (i : SN) (x : NN i) (h : flatN i = true) : ∀ l ∈ cellsN i x, l.t.isSl = false := by
 have h1 : (cellsN i x).all (fun l => !l.t.isSl) = true := by
  revert h
  cases i <;> first
   | (intro h; cases h; done)
   | (intro _; rfl)
 intro l hl
 simpa using List.all_eq_true.1 h1 l hl
noncomputable def vw : View where
 ι := SN
 dec := inferInstance
 N := NN
 sz := szN
 tys := tysN
 cells := cellsN
 ofCells := ofN
 enc := encN
 ty := tyN
 enc_cells := enc_cellsN
 of_cells := of_cellsN
 len_cells := len_cellsN
 one_cells := one_cellsN
 tid := tidN
 encd := encdN
 encd_cells := encd_cellsN
 encd_toL := encd_toLN
 flat := flatN
 flat_cells := flat_cellsN
end Go.Proofs.YtpelkenpapfadaaGreatDoor
end
section
namespace Go.Proofs.YtpelkenpapfadaaGreatDoor
open Go.Awp Go.Tx
open Go.Proofs.Tryz (prog)
set_option maxRecDepth 100000
def structOf (P : Program) (t : TypeId) : Array Field := match P.underlying t with
 | some (.struct fs) => fs
 | _ => #[]
theorem tf2 : tyFact vw prog 2 (.int .i64) := (by kernel_rfl : prog.underlying 2 = some (.int .i64))
theorem tf3 : tyFact vw prog 3 (.int .i64) := (by kernel_rfl : prog.underlying 3 = some (.int .i64))
theorem tf4 : tyFact vw prog 4 .bool := (by kernel_rfl : prog.underlying 4 = some .bool)
theorem tf5 : tyFact vw prog 5 (.int .u8) := (by kernel_rfl : prog.underlying 5 = some (.int .u8))
theorem tf6 : tyFact vw prog 6 (.int .u8) := (by kernel_rfl : prog.underlying 6 = some (.int .u8))
theorem tf9 : tyFact vw prog 9 .str := (by kernel_rfl : prog.underlying 9 = some .string)
theorem tf10 : tyFact vw prog 10 .str := (by kernel_rfl : prog.underlying 10 = some .string)
theorem tf11 : tyFact vw prog 11 .str := (by kernel_rfl : prog.underlying 11 = some .string)
theorem tf12 : tyFact vw prog 12 (.int .u64) := (by kernel_rfl : prog.underlying 12 = some (.int .u64))
theorem tf21 : tyFact vw prog 21 (.int .i32) := (by kernel_rfl : prog.underlying 21 = some (.int .i32))
theorem tf23 : tyFact vw prog 23 (.sl (.st .itemT)) := ⟨44, by kernel_rfl, by kernel_rfl, by kernel_rfl, by kernel_rfl⟩
theorem tf24 : tyFact vw prog 24 (.sl .str) := ⟨9, by kernel_rfl, by kernel_rfl, by kernel_rfl, by kernel_rfl⟩
theorem tf25 : tyFact vw prog 25 (.int .i64) := (by kernel_rfl : prog.underlying 25 = some (.int .i64))
theorem tf35 : tyFact vw prog 35 (.st .targetT) := ⟨structOf prog 35, by kernel_rfl, by kernel_rfl, by kernel_rfl⟩
theorem tf40 : tyFact vw prog 40 (.sl (.st .layoutT)) := ⟨42, by kernel_rfl, by kernel_rfl, by kernel_rfl, by kernel_rfl⟩
theorem tf42 : tyFact vw prog 42 (.st .layoutT) := ⟨structOf prog 42, by kernel_rfl, by kernel_rfl, by kernel_rfl⟩
theorem tf44 : tyFact vw prog 44 (.st .itemT) := ⟨structOf prog 44, by kernel_rfl, by kernel_rfl, by kernel_rfl⟩
theorem tf55 : tyFact vw prog 55 (.sl (.sl .str)) := ⟨24, by kernel_rfl, by kernel_rfl, by kernel_rfl, by kernel_rfl⟩
theorem tf57 : tyFact vw prog 57 (.sl (.int .i64)) := ⟨3, by kernel_rfl, by kernel_rfl, by kernel_rfl, by kernel_rfl⟩
theorem tf61 : tyFact vw prog 61 (.sl (.st .partT)) := ⟨65, by kernel_rfl, by kernel_rfl, by kernel_rfl, by kernel_rfl⟩
theorem tf65 : tyFact vw prog 65 (.st .partT) := ⟨structOf prog 65, by kernel_rfl, by kernel_rfl, by kernel_rfl⟩
theorem tf74 : tyFact vw prog 74 (.sl (.sl (.st .tokenT))) := ⟨77, by kernel_rfl, by kernel_rfl, by kernel_rfl, by kernel_rfl⟩
theorem tf77 : tyFact vw prog 77 (.sl (.st .tokenT)) := ⟨125, by kernel_rfl, by kernel_rfl, by kernel_rfl, by kernel_rfl⟩
theorem tf81 : tyFact vw prog 81 (.sl (.int .u8)) := ⟨5, by kernel_rfl, by kernel_rfl, by kernel_rfl, by kernel_rfl⟩
theorem tf100 : tyFact vw prog 100 (.st .translatorT) := ⟨structOf prog 100, by kernel_rfl, by kernel_rfl, by kernel_rfl⟩
theorem tf107 : tyFact vw prog 107 (.st .roomT) := ⟨structOf prog 107, by kernel_rfl, by kernel_rfl, by kernel_rfl⟩
theorem tf111 : tyFact vw prog 111 (.st .placeT) := ⟨structOf prog 111, by kernel_rfl, by kernel_rfl, by kernel_rfl⟩
theorem tf122 : tyFact vw prog 122 (.sl .bool) := ⟨4, by kernel_rfl, by kernel_rfl, by kernel_rfl, by kernel_rfl⟩
theorem tf125 : tyFact vw prog 125 (.st .tokenT) := ⟨structOf prog 125, by kernel_rfl, by kernel_rfl, by kernel_rfl⟩
theorem tf143 : tyFact vw prog 143 (.st .readerT) := ⟨structOf prog 143, by kernel_rfl, by kernel_rfl, by kernel_rfl⟩
theorem tf163 : tyFact vw prog 163 (.st .countedT) := ⟨structOf prog 163, by kernel_rfl, by kernel_rfl, by kernel_rfl⟩
theorem tf171 : tyFact vw prog 171 (.int .u64) := (by kernel_rfl : prog.underlying 171 = some (.int .u64))
theorem tf190 : tyFact vw prog 190 (.int .u32) := (by kernel_rfl : prog.underlying 190 = some (.int .u32))
theorem tf193 : tyFact vw prog 193 (.int .u64) := (by kernel_rfl : prog.underlying 193 = some (.int .u64))
theorem tf204 : tyFact vw prog 204 (.st .acceptRangeT) := ⟨structOf prog 204, by kernel_rfl, by kernel_rfl, by kernel_rfl⟩
theorem tf210 : tyFact vw prog 210 (.int .i64) := (by kernel_rfl : prog.underlying 210 = some (.int .i64))
theorem tf227 : tyFact vw prog 227 (.st .errorStringT) := ⟨structOf prog 227, by kernel_rfl, by kernel_rfl, by kernel_rfl⟩
theorem tf233 : tyFact vw prog 233 (.int .u8) := (by kernel_rfl : prog.underlying 233 = some (.int .u8))
theorem tf234 : tyFact vw prog 234 (.int .u8) := (by kernel_rfl : prog.underlying 234 = some (.int .u8))
theorem tf236 : tyFact vw prog 236 (.int .i32) := (by kernel_rfl : prog.underlying 236 = some (.int .i32))
theorem tf237 : tyFact vw prog 237 (.int .i32) := (by kernel_rfl : prog.underlying 237 = some (.int .i32))
theorem leaves_cons {ls : List (Leaf NN)} {t : Ty SN} {ts : List (Ty SN)} (h : ls.map (·.t) = t :: ts) : ∃ (x : den NN t) (ls' : List (Leaf NN)), ls = ⟨t, x⟩ :: ls' ∧ ls'.map (·.t) = ts := by
 match ls, h with
 | ⟨t', x⟩ :: r, h =>
  simp only [List.map_cons, List.cons.injEq] at h
  obtain ⟨h1, h2⟩ := h
  subst h1
  exact ⟨x, r, rfl, h2⟩
theorem leaves_nil {ls : List (Leaf NN)} (h : ls.map (·.t) = []) : ls = [] := by simpa using h
theorem facts : Facts vw prog where
 ty := fun t τ h hn => by
  have h : tyN t = some τ := h
  unfold tyN at h
  split at h
  ·cases h; exact tf2
  ·cases h; exact tf3
  ·cases h; exact tf4
  ·cases h; exact tf5
  ·cases h; exact tf6
  ·cases h; exact tf9
  ·cases h; exact tf10
  ·cases h; exact tf11
  ·cases h; exact tf12
  ·cases h; exact tf21
  ·cases h; exact tf23
  ·cases h; exact tf24
  ·cases h; exact tf25
  ·cases h; exact tf35
  ·cases h; exact tf40
  ·cases h; exact tf42
  ·cases h; exact tf44
  ·cases h; exact tf55
  ·cases h; exact tf57
  ·cases h; exact tf61
  ·cases h; exact tf65
  ·cases h; exact tf74
  ·cases h; exact tf77
  ·cases h; exact tf81
  ·cases h; exact tf100
  ·cases h; exact tf107
  ·cases h; exact tf111
  ·cases h; exact tf122
  ·cases h; exact tf125
  ·cases h; cases hn
  ·cases h; exact tf143
  ·cases h; exact tf163
  ·cases h; exact tf171
  ·cases h; exact tf190
  ·cases h; exact tf193
  ·cases h; exact tf204
  ·cases h; exact tf210
  ·cases h; exact tf227
  ·cases h; exact tf233
  ·cases h; exact tf234
  ·cases h; exact tf236
  ·cases h; exact tf237
  ·cases h
 nof := fun i => by cases i <;> rfl
 tys := fun i x => by cases i <;> rfl
 of := fun i ls h => by
  cases i with
  | targetT =>
   obtain ⟨a0, l0, rfl, h0⟩ := leaves_cons h
   obtain ⟨a1, l1, rfl, h1⟩ := leaves_cons h0
   obtain rfl := leaves_nil h1
   exact ⟨_, rfl⟩
  | layoutT =>
   obtain ⟨a0, l0, rfl, h0⟩ := leaves_cons h
   obtain ⟨a1, l1, rfl, h1⟩ := leaves_cons h0
   obtain ⟨a2, l2, rfl, h2⟩ := leaves_cons h1
   obtain ⟨a3, l3, rfl, h3⟩ := leaves_cons h2
   obtain rfl := leaves_nil h3
   exact ⟨_, rfl⟩
  | itemT =>
   obtain ⟨a0, l0, rfl, h0⟩ := leaves_cons h
   obtain ⟨a1, l1, rfl, h1⟩ := leaves_cons h0
   obtain ⟨a2, l2, rfl, h2⟩ := leaves_cons h1
   obtain ⟨a3, l3, rfl, h3⟩ := leaves_cons h2
   obtain ⟨a4, l4, rfl, h4⟩ := leaves_cons h3
   obtain ⟨a5, l5, rfl, h5⟩ := leaves_cons h4
   obtain ⟨a6, l6, rfl, h6⟩ := leaves_cons h5
   obtain ⟨a7, l7, rfl, h7⟩ := leaves_cons h6
   obtain rfl := leaves_nil h7
   exact ⟨_, rfl⟩
  | partT =>
   obtain ⟨a0, l0, rfl, h0⟩ := leaves_cons h
   obtain ⟨a1, l1, rfl, h1⟩ := leaves_cons h0
   obtain rfl := leaves_nil h1
   exact ⟨_, rfl⟩
  | translatorT =>
   obtain ⟨a0, l0, rfl, h0⟩ := leaves_cons h
   obtain rfl := leaves_nil h0
   exact ⟨_, rfl⟩
  | roomT =>
   obtain ⟨a0, l0, rfl, h0⟩ := leaves_cons h
   obtain ⟨a1, l1, rfl, h1⟩ := leaves_cons h0
   obtain rfl := leaves_nil h1
   exact ⟨_, rfl⟩
  | placeT =>
   obtain ⟨a0, l0, rfl, h0⟩ := leaves_cons h
   obtain ⟨a1, l1, rfl, h1⟩ := leaves_cons h0
   obtain rfl := leaves_nil h1
   exact ⟨_, rfl⟩
  | tokenT =>
   obtain ⟨a0, l0, rfl, h0⟩ := leaves_cons h
   obtain ⟨a1, l1, rfl, h1⟩ := leaves_cons h0
   obtain rfl := leaves_nil h1
   exact ⟨_, rfl⟩
  | readerT =>
   obtain ⟨a0, l0, rfl, h0⟩ := leaves_cons h
   obtain ⟨a1, l1, rfl, h1⟩ := leaves_cons h0
   obtain ⟨a2, l2, rfl, h2⟩ := leaves_cons h1
   obtain rfl := leaves_nil h2
   exact ⟨_, rfl⟩
  | countedT =>
   obtain ⟨a0, l0, rfl, h0⟩ := leaves_cons h
   obtain ⟨a1, l1, rfl, h1⟩ := leaves_cons h0
   obtain ⟨a2, l2, rfl, h2⟩ := leaves_cons h1
   obtain rfl := leaves_nil h2
   exact ⟨_, rfl⟩
  | acceptRangeT =>
   obtain ⟨a0, l0, rfl, h0⟩ := leaves_cons h
   obtain ⟨a1, l1, rfl, h1⟩ := leaves_cons h0
   obtain rfl := leaves_nil h1
   exact ⟨_, rfl⟩
  | errorStringT =>
   obtain ⟨a0, l0, rfl, h0⟩ := leaves_cons h
   obtain rfl := leaves_nil h0
   exact ⟨_, rfl⟩
end Go.Proofs.YtpelkenpapfadaaGreatDoor
end
section
namespace Go.Proofs.YtpelkenpapfadaaGreatDoor
set_option maxRecDepth 20000
mutual
def Layout.depth : Layout → Nat
 | .mk _ _ _ ps => Layout.depthL ps + 1
def Layout.depthL : List Layout → Nat
 | [] => 0
 | p :: r => max (Layout.depth p) (Layout.depthL r)
end
mutual
def Layout.all : Layout → List Layout
 | .mk k n f ps => .mk k n f ps :: Layout.allL ps
def Layout.allL : List Layout → List Layout
 | [] => []
 | p :: r => Layout.all p ++ Layout.allL r
end
theorem Layout.depth_eq (l : Layout) : l.depth = Layout.depthL l.parts + 1 := by cases l; rfl
theorem Layout.all_eq (l : Layout) : l.all = l :: Layout.allL l.parts := by cases l; rfl
theorem Layout.depthL_mem : ∀ {ps : List Layout} {p : Layout}, p ∈ ps → p.depth ≤ Layout.depthL ps
 | q :: r, p, h => by
  rw [Layout.depthL]
  rcases List.mem_cons.1 h with rfl | h
  ·omega
  ·have := Layout.depthL_mem h; omega
theorem Layout.depth_mem {l p : Layout} (h : p ∈ l.parts) : p.depth < l.depth := by
 rw [l.depth_eq]; have := Layout.depthL_mem h; omega
theorem Layout.allL_mem {q : Layout} : ∀ {ps : List Layout} {p : Layout}, p ∈ ps → q ∈ p.all → q ∈ Layout.allL ps
 | p' :: r, p, h, hq => by
  rw [Layout.allL, List.mem_append]
  rcases List.mem_cons.1 h with rfl | h
  ·exact .inl hq
  ·exact .inr (Layout.allL_mem h hq)
def Layout.fit (l : Layout) : Prop := (-9223372036854775808 ≤ l.kind ∧ l.kind ≤ 9223372036854775807) ∧ (-9223372036854775808 ≤ l.n ∧ l.n ≤ 9223372036854775807) ∧ l.parts.length ≤ 9223372036854775807
def Layout.Fits (l : Layout) : Prop := ∀ q ∈ l.all, q.fit
theorem Layout.Fits.self {l : Layout} (h : l.Fits) : l.fit := h l (by rw [l.all_eq]; exact List.mem_cons_self)
theorem Layout.Fits.len {l : Layout} (h : l.Fits) : l.parts.length ≤ 9223372036854775807 := h.self.2.2
theorem Layout.Fits.part {l p : Layout} (h : l.Fits) (hp : p ∈ l.parts) : p.Fits := fun q hq => h q (by rw [l.all_eq]; exact List.mem_cons_of_mem _ (Layout.allL_mem hp hq))
theorem wrap64 {x : Int} (h1 : -9223372036854775808 ≤ x) (h2 : x ≤ 9223372036854775807) : IntKind.i64.wrap x = x := by
 unfold IntKind.wrap
 simp only [IntKind.bits, IntKind.signed, Bool.true_and]
 split <;> rename_i h <;> simp at h <;> omega
theorem drop_step {α : Type} {l : List α} {k : Nat} (h : k < l.length) : ∃ p, l[k]? = some p ∧ p ∈ l ∧ l.drop k = p :: l.drop (k + 1) :=
 ⟨l[k], List.getElem?_eq_getElem h, List.getElem_mem h, List.drop_eq_getElem_cons h⟩
theorem drop_end {α : Type} {l : List α} {k : Nat} (h : ¬ k < l.length) : l.drop k = [] := List.drop_eq_nil_of_le (by omega)
theorem wrap_succ {k n : Nat} (h : k < n) (hn : n ≤ 9223372036854775807) : IntKind.i64.wrap ((k : Int) + 1) = ((k + 1 : Nat) : Int) := by rw [wrap64 (by omega) (by omega)]; omega
def bitsS (l : Layout) : Int := if l.kind = 1 then 1 else if l.kind = 2 then max l.n 0 else 0
def upS (n m : Int) : Int := (n + m - 1).tdiv m * m
theorem Layout.ind {P : Layout → Prop} (h : ∀ l : Layout, (∀ p ∈ l.parts, P p) → P l) : ∀ l, P l := by
 have : ∀ (d : Nat) (l : Layout), l.depth ≤ d → P l := by
  intro d
  induction d with
  | zero => intro l hl; rw [l.depth_eq] at hl; omega
  | succ d ih => intro l hl; exact h l fun p hp => ih p (by have := Layout.depth_mem hp; omega)
 exact fun l => this l.depth l (Nat.le_refl _)
def wholeS (n : Int) : Int := if n = 0 then 0 else if n ≤ 8 then 1 else if n ≤ 16 then 2 else if n ≤ 32 then 4 else 8
def far : Int := 1099511627776
def sumBits : List Layout → Int
 | [] => 0
 | p :: r => bitsS p + sumBits r
def Layout.big1 (l : Layout) : Bool := l.kind == 2 && decide (l.n > 64) || l.kind == 5 && decide (l.n > 1000) || l.kind == 7 && decide (l.n > 65536) || l.kind == 9 && decide (min far (sumBits l.parts) > 64)
def partsS (l : Layout) : Bool :=
 if l.kind = 4 ∨ l.kind = 5 then (l.parts.length : Int) == 1 else if l.kind = 6 ∨ l.kind = 9 then true else if l.kind = 8 then decide ((l.parts.length : Int) ≥ 1) else (l.parts.length : Int) == 0
def bitty (p : Layout) : Bool := p.kind == 1 || p.kind == 2
def numS (l : Layout) : Bool :=
 if l.kind = 2 ∨ l.kind = 7 then decide (l.n ≥ 1) else if l.kind = 5 then decide (l.n ≥ 0) else if l.kind = 9 then l.parts.all bitty && l.n == 0 else l.n == 0
def Layout.isS (l : Layout) : Bool := decide (0 ≤ l.kind ∧ l.kind ≤ 9) && partsS l && !(l.flag && l.kind != 2) && numS l
def Layout.right (l : Layout) : Bool := l.all.all Layout.isS
def Layout.big (l : Layout) : Bool := decide ((l.parts.length : Int) > 12) || l.big1
def standF (s : List Int × Int × Int) (q : Int × Int) : List Int × Int × Int := (s.1 ++ [upS s.2.1 q.2], upS s.2.1 q.2 + q.1, max s.2.2 q.2)
def standS (qs : List (Int × Int)) : List Int × Int × Int :=
 ((qs.foldl standF ([], 0, 1)).1, upS (qs.foldl standF ([], 0, 1)).2.1 (qs.foldl standF ([], 0, 1)).2.2, (qs.foldl standF ([], 0, 1)).2.2)
def unionF (o p : Int × Int) : Int × Int := (max o.1 p.1, max o.2 p.2)
def unionS (qs : List (Int × Int)) : Int × Int := qs.foldl unionF (0, 1)
def ofS (w k n : Int) (ps : List Layout) (qs : List (Int × Int)) : Int × Int :=
 if k = 0 then (0, 1) else if k = 1 then (1, 1) else if k = 2 then (max 1 (wholeS n), min (max 1 (wholeS n)) w) else if k = 3 then (w, w)
 else if k = 4 then (upS ((qs.headD (0, 1)).1 + 1) (qs.headD (0, 1)).2, (qs.headD (0, 1)).2)
 else if k = 5 then (n * (qs.headD (0, 1)).1, (qs.headD (0, 1)).2)
 else if k = 6 then (standS qs).2
 else if k = 7 then (if n ≤ 256 then (1, 1) else (2, min 2 w))
 else if k = 8 then (upS ((unionS qs).1 + 1) (unionS qs).2, (unionS qs).2)
 else (wholeS (sumBits ps), max 1 (min (wholeS (sumBits ps)) w))
mutual
def Layout.of (w : Int) : Layout → Int × Int
 | .mk k n _ ps => ofS w k n ps (Layout.ofL w ps)
def Layout.ofL (w : Int) : List Layout → List (Int × Int)
 | [] => []
 | p :: r => Layout.of w p :: Layout.ofL w r
end
structure Layout.Val (w : Int) (l : Layout) : Prop where
 fits : l.Fits
 right : l.right = true
 big : l.all.any Layout.big = false
 size : ∀ q ∈ l.all, (q.of w).1 ≤ 100000000000
structure Layout.Fine (l : Layout) : Prop where
 fits : l.Fits
 count : l.all.length ≤ 10000
 deep : l.depth ≤ 10000
end Go.Proofs.YtpelkenpapfadaaGreatDoor
end
section
namespace Go.Tx
open Go.Awp
variable [Inhabited GMem]
theorem FnOk.pure {P : Program} {f : FuncId} {args : List H} {r : H} (hc : callable P f = true)
  (h : ∀ (E : Env) (M : Mem) (w : World) (vs : Array Value), GOk M w → (∀ b o v, M b o = some v → w.cell? ⟨b, o, none⟩ = some v) → HReps E M vs args →
    Calls P f vs w fun e w' => ∃ v, e = .returned v ∧ HRep E M v r ∧ Go.RowKit.Below w.heap.size w w') : FnOk P f args [] r [] := by
 refine ⟨hc, fun E M w vs hgm hm _ hvs => (h E M w vs hgm hm hvs).mono ?_⟩
 rintro e w' ⟨v, rfl, hr, hb⟩
 refine ⟨v, E, M, rfl, { rep := hr, owns := ⟨fun n o hn => by simp [gt] at hn, fun n m o o' b _ hn => by simp [gt] at hn⟩, mle := Mem.le_refl _, mem := fun b o v hv => ?_, mnew := fun b o v hv => .inl hv, home := fun n o b hn => by simp [gt] at hn, frame := fun k hk _ => hb.block k hk, grows := hb.size, os := hb.os, tape := hb.tape, output := hb.output, env := fun _ _ => rfl }⟩
 have h1 := hm b o v hv
 have hlt := World.block_lt_of_cell? w (a := ⟨b, o, none⟩) h1
 rw [← h1]
 exact World.cell?_of_block (a := ⟨b, o, none⟩) (hb.block b hlt)
theorem hreps_one {E : Env} {M : Mem} {vs : Array Value} {a : H} (h : HReps E M vs [a]) : ∃ v, vs = #[v] ∧ HRep E M v a := by
 obtain ⟨h1, h2⟩ := h
 match vs, h1 with
 | ⟨[v]⟩, _ => exact ⟨v, rfl, h2 0 v a rfl rfl⟩
theorem hreps_two {E : Env} {M : Mem} {vs : Array Value} {a b : H} (h : HReps E M vs [a, b]) : ∃ v u, vs = #[v, u] ∧ HRep E M v a ∧ HRep E M u b := by
 obtain ⟨h1, h2⟩ := h
 match vs, h1 with
 | ⟨[v, u]⟩, _ => exact ⟨v, u, rfl, h2 0 v a rfl rfl, h2 1 u b rfl rfl⟩
theorem strs_rep {E : Env} {M : Mem} {v : Value} {xs : List ByteArray} (h : HRep E M v (.d (.sl 1 (xs.map fun y => [D.v (.string y)])))) :
  (xs = [] ∧ ∃ a c, v = .slice a 0 c) ∨ ∃ b off c, xs ≠ [] ∧ v = .slice (some ⟨b, off, none⟩) xs.length c ∧ xs.length ≤ c ∧ ∀ (j : Nat) x, xs[j]? = some x → M b (off + j) = some (.string x) := by
 cases h with
 | d h =>
  generalize hr : (xs.map fun y => [D.v (.string y)]) = rows at h
  cases h with
  | slnil => exact .inl ⟨by simpa using hr, none, 0, rfl⟩
  | slmt a cap => exact .inl ⟨by simpa using hr, some a, cap, rfl⟩
  | sl b off len cap _ _ c hlen hcap hsz hm hh =>
   subst hr
   rw [List.length_map] at hlen
   subst hlen
   by_cases he : xs = []
   ·subst he; exact .inl ⟨rfl, _, cap, rfl⟩
   ·refine .inr ⟨b, off, cap, he, rfl, hcap, fun j x hj => ?_⟩
    have hlt : j < xs.length := (List.getElem?_eq_some_iff.1 hj).1
    have h1 := hm j (by omega)
    have h2 := hh j 0 [D.v (.string x)] (.v (.string x)) (by simp [hj]) rfl
    simp only [Nat.mul_one, Nat.add_zero] at h2
    rw [h1]
    generalize hq : c j = q at h2
    cases h2
    rfl
theorem hrep_pair {E : Env} {M : Mem} {k k' : IntKind} {a b : Int} : HRep E M (.tuple #[.int k a, .int k' b]) (.tup [.d (.v (.int k a)), .d (.v (.int k' b))]) :=
 .tup _ _ rfl fun i c x hc hx => by
  match i with
  | 0 => simp at hc hx; subst hc; subst hx; exact .d (.v _)
  | 1 => simp at hc hx; subst hc; subst hx; exact .d (.v _)
  | i + 2 => simp at hc
section
open Go.Shelf Go.RowKit Go.Proofs
set_option maxHeartbeats 1000000 in
set_option maxRecDepth 100000 in
end
end Go.Tx
end
section
namespace Go.Awp
variable [Inhabited GMem]
def CallsX (P : Program) (f : FuncId) (args : Array Value) (w : World) (R : Ending → World → Prop) : Prop := ∀ u, CallsD P f args u w fun e u' w' => u' = u ∧ R e w'
theorem CallsX.mono {P : Program} {f : FuncId} {args : Array Value} {w : World} {R R' : Ending → World → Prop} (h : CallsX P f args w R) (hr : ∀ e w', R e w' → R' e w') : CallsX P f args w R' :=
 fun u => (h u).mono fun e u' w' ⟨a, b⟩ => ⟨a, hr e w' b⟩
def FnOkD (P : Program) (f : FuncId) (args : List H) (own : List (Nat × Own)) (r : H) (own' : List (Nat × Own)) : Prop :=
 callable P f = true ∧ ∀ (E : Env) (M : Mem) (w : World) (vs : Array Value), GOk M w → (∀ b o v, M b o = some v → w.cell? ⟨b, o, none⟩ = some v) → Owns E M w own → HReps E M vs args →
  CallsX P f vs w fun e w' => ∃ v E' M', e = .returned v ∧ FnPost E M own w v r own' E' M' w'
def FnAtD (P : Program) (f : FuncId) (args : List H) (own : List (Nat × Own)) (r : H) (own' : List (Nat × Own)) : Prop :=
 callable P f = true ∧ ∀ (E : Env) (M : Mem) (w : World) (vs : Array Value), GOk M w → (∀ b o v, M b o = some v → w.cell? ⟨b, o, none⟩ = some v) → Owns E M w own → HReps E M vs args →
  CallsX P f vs w fun e w' => ∃ v E' M', e = .returned v ∧ FnPost E M own w v r own' E' M' w' ∧ ∀ n, (gt own' n = none ∨ ∃ o, gt own n = some o) → E' n = E n
def ACallD (P : Program) (f : FuncId) (args : List H) (ω : Nat → Option Own) (k : Eff → Prop) : Prop :=
 ∃ own r own', FnAtD P f args own r own' ∧ (∀ p ∈ own, ω p.1 = some p.2) ∧ k (callEff r own own')
open Classical in
theorem FnOkD.ren {P : Program} {f : FuncId} {args : List H} {own own' : List (Nat × Own)} {r : H} (h : FnOkD P f args own r own') (σ : List (Nat × Nat)) (hc : renOk σ own r own' = true) :
  FnAtD P f (H.renL (σf σ) args) (renO (σf σ) own) (r.ren (σf σ)) (renO (σf σ) own') := by
 simp only [renOk, Bool.and_eq_true, List.all_eq_true] at hc
 obtain ⟨⟨⟨⟨c1, c2⟩, c3⟩, c4⟩, c5⟩ := hc
 have hf := σf_inj c1
 refine ⟨h.1, fun E M w vs hgm hm how hvs => ?_⟩
 refine (h.2 (fun n => E (σf σ n)) M w vs hgm hm ⟨fun n o hn => ?_, fun n m o o' b hne hn hm' hb hb2 => ?_⟩ ⟨?_, fun i c x hc hx => ?_⟩).mono ?_
 ·exact (how.ok _ _ (by rw [gt_renO hf, hn]; rfl)).unren
 ·refine how.apart (σf σ n) (σf σ m) (o.ren (σf σ)) (o'.ren (σf σ)) b (fun e => hne (hf _ _ e)) (by rw [gt_renO hf, hn]; rfl) (by rw [gt_renO hf, hm']; rfl) ?_ ?_
  ·rw [Own.ren_foot]; exact hb
  ·rw [Own.ren_foot]; exact hb2
 ·rw [hvs.1, H.renL_len]
 ·exact (hvs.2 i c _ hc (by rw [H.renL_get, hx]; rfl)).unren rfl
 rintro e w' ⟨v, E2, M2, rfl, hp⟩
 let E' : Env := fun n => if h : ∃ m, σf σ m = n ∧ m < given ∧ gt own' m ≠ none then E2 (Classical.choose h) else E n
 have hE1 : ∀ m, given ≤ m ∨ gt own' m ≠ none → E' (σf σ m) = E2 m := by
  intro m hm'
  by_cases hlt : m < given
  ·have hm2 : gt own' m ≠ none := by rcases hm' with h1 | h1; (omega); exact h1
   have hex : ∃ m', σf σ m' = σf σ m ∧ m' < given ∧ gt own' m' ≠ none := ⟨m, rfl, hlt, hm2⟩
   simp only [E']
   rw [dif_pos hex]
   exact congrArg E2 (hf _ _ (Classical.choose_spec hex).1)
  ·have hex : ¬ ∃ m', σf σ m' = σf σ m ∧ m' < given ∧ gt own' m' ≠ none := by
    rintro ⟨m', he, hl, _⟩
    have := hf _ _ he
    omega
   simp only [E']
   rw [dif_neg hex]
   exact (hp.env m (by omega)).symm
 have hE2 : ∀ n, (¬ ∃ m, σf σ m = n ∧ m < given ∧ gt own' m ≠ none) → E' n = E n := fun n hn => by simp only [E']; rw [dif_neg hn]
 have hpn : ∀ n, (Nat.ble given n || (gt own' n).isSome) = true → given ≤ n ∨ gt own' n ≠ none := by
  intro n hn
  rw [Bool.or_eq_true] at hn
  rcases hn with hn | hn
  ·exact .inl (Nat.le_of_ble_eq_true hn)
  ·exact .inr fun e => by rw [e] at hn; cases hn
 have hext : ∀ b, inExt (fun n => E (σf σ n)) w own b → inExt E w (renO (σf σ) own) b := by
  rintro b ⟨n, o, hn, hb⟩
  exact ⟨σf σ n, o.ren (σf σ), by rw [gt_renO hf, hn]; rfl, by rw [Own.ren_foot]; exact hb⟩
 have hblk : ∀ n o, gt own' n = some o → E' (σf σ n) = E2 n := fun n o hn => hE1 n (.inr (by rw [hn]; simp))
 refine ⟨v, E', M2, rfl, { rep := hp.rep.ren fun n hn => hE1 n (hpn n (H.allN_has c4 hn)), owns := ⟨fun n o hn => ?_, fun n m o o' b hne hn hm' hb hb2 => ?_⟩, mle := hp.mle, mem := hp.mem, mnew := fun b o v hv => ?_, home := fun n o b hn hb => ?_, frame := fun k hk hx => hp.frame k hk fun h1 => hx (hext k h1), grows := hp.grows, os := hp.os, tape := hp.tape, output := hp.output, env := fun n hn => hE2 n ?_ }, fun n hn => hE2 n ?_⟩
 ·obtain ⟨m, o1, rfl, hg, rfl⟩ := gt_renO_some hf hn
  refine (hp.owns.ok m o1 hg).ren (hblk m o1 hg) fun k hk => hE1 k (hpn k ?_)
  have := c5 _ (gt_mem hg)
  cases o1 with
  | box oty cells => exact H.allNL_has this hk
  | vec e sz rows => simp [Own.has] at hk
  | map es => simp [Own.has] at hk
  | iter s pos => simp [Own.has] at hk
  | dvec e sz rows => simp [Own.has] at hk
  | miter m es rest cur => simp only [Own.has] at hk; exact (Nat.eq_of_beq_eq_true hk) ▸ this
 ·obtain ⟨n1, o1, rfl, hg1, rfl⟩ := gt_renO_some hf hn
  obtain ⟨m1, o2, rfl, hg2, rfl⟩ := gt_renO_some hf hm'
  rw [hblk n1 o1 hg1, Own.ren_foot] at hb
  rw [hblk m1 o2 hg2, Own.ren_foot] at hb2
  exact hp.owns.apart n1 m1 _ _ b (fun e => hne (by rw [e])) hg1 hg2 hb hb2
 ·rcases hp.mnew b o v hv with h1 | h1 | h1
  ·exact .inl h1
  ·exact .inr (.inl (hext b h1))
  ·exact .inr (.inr h1)
 ·obtain ⟨m, o1, rfl, hg, rfl⟩ := gt_renO_some hf hn
  rw [hblk m o1 hg, Own.ren_foot] at hb
  rcases hp.home m o1 b hg hb with h1 | h1
  ·exact .inl (hext b h1)
  ·exact .inr h1
 ·rintro ⟨m, rfl, hl, hne⟩
  cases hg : gt own' m with
  | none => exact hne hg
  | some o =>
   have := c3 _ (gt_mem hg)
   simp only [Bool.or_eq_true] at this
   rcases this with h1 | h1
   ·have := Nat.le_of_ble_eq_true h1; omega
   ·have : σf σ m < given := by simpa [Nat.blt_eq] using h1
    omega
 ·rintro ⟨m, rfl, hl, hne⟩
  rcases hn with hn | ⟨o, ho⟩
  ·rw [gt_renO hf] at hn
   cases hg : gt own' m with
   | none => exact hne hg
   | some o => rw [hg] at hn; cases hn
  ·obtain ⟨n1, o1, he, hg, _⟩ := gt_renO_some hf ho
   have := hf _ _ he
   subst this
   have := Nat.le_of_ble_eq_true (c2 _ (gt_mem hg))
   simp only [] at this
   omega
end Go.Awp
namespace Go.Tx
open Go.Awp
variable [Inhabited GMem]
theorem FnAtD.weak {P : Program} {f : FuncId} {args args' : List H} {own own1 own' : List (Nat × Own)} {r : H} (h : FnAtD P f args own r own')
  (ha : ∀ E M vs, HReps E M vs args' → HReps E M vs args) (ho : ∀ E M w, Owns E M w own1 → Owns E M w own) (hk : ∀ n, (∃ o, gt own n = some o) ↔ ∃ o, gt own1 n = some o)
  (hf : ∀ E M w, Owns E M w own1 → ∀ b, inExt E w own b → inExt E w own1 b) : FnAtD P f args' own1 r own' := by
 refine ⟨h.1, fun E M w vs hgm hm how hvs => (h.2 E M w vs hgm hm (ho E M w how) (ha E M vs hvs)).mono ?_⟩
 have hin : ∀ b, inExt E w own b → inExt E w own1 b := hf E M w how
 rintro e w' ⟨v, E', M', rfl, hp, hE⟩
 refine ⟨v, E', M', rfl, { hp with mnew := fun b o v hv => ?_, home := fun n o b hn hb => ?_, frame := fun k hk hx => hp.frame k hk fun h1 => hx (hin k h1) }, fun n hn => hE n ?_⟩
 ·rcases hp.mnew b o v hv with h1 | h1 | h1
  ·exact .inl h1
  ·exact .inr (.inl (hin b h1))
  ·exact .inr (.inr h1)
 ·rcases hp.home n o b hn hb with h1 | h1
  ·exact .inl (hin b h1)
  ·exact .inr h1
 ·rcases hn with hn | hn
  ·exact .inl hn
  ·exact .inr ((hk n).2 hn)
theorem fnD_of_awpL {P : Program} {f : FuncId} {fn : Func} {c : Code} {args : List H} {own own' : List (Nat × Own)} {r : H} (hf : P.funcs[f]? = some fn) (hb : fn.body = some c)
  (hname : (fn.name != "runtime.NumGoroutine") = true) (hn : args.length ≤ fn.ntmps)
  (h : ∀ C : Ctx, C.P = P → C.N = fn.ntmps ∧ C.fix = [] → AWp C c ⟨startT 0 args, startO own⟩ (FnEndL P fn.results.toList r own')) : FnOkD P f args own r own' := by
 refine ⟨by simp [callable, hf, hb, hname], fun E M w vs hgm hm how hvs => ?_⟩
 intro u; refine callsD_of_wp hf hb ?_
 let C : Ctx := ⟨P, fn.ntmps, w, M, E, inExt E w own, hgm, fun b ⟨n, o, hn, hb⟩ => ((how.ok n o hn).block hb).2, [], []⟩
 have hs : Sim C E M ⟨startT 0 args, startO own⟩ { tmps := vs ++ Array.replicate (fn.ntmps - vs.size) undef, defers := [] } w := by
  have hvs1 := hvs.1
  refine { size := by simp [C]; omega, defers := rfl, fixed := fun p hp => (by cases hp), tmps := fun t x hx => ?_, mem := hm, own := fun n o ho => ?_, apart := fun n m o o' b hne ho ho' => ?_, home := fun n o b ho hb => ?_, m0 := Mem.le_refl M, mnew := fun b o v hv => .inl hv, frame := fun _ _ _ => rfl, grows := Nat.le_refl _, os := rfl, tape := rfl, output := rfl, env := fun _ _ => rfl }
  ·obtain ⟨_, h2⟩ := gt_startT args 0 t x hx
   simp only [Nat.sub_zero] at h2
   have hlt : t < vs.size := by have := (List.getElem?_eq_some_iff.1 h2).1; omega
   exact ⟨vs[t], by simp [Array.getElem?_append_left hlt, hlt], hvs.2 t _ x (Array.getElem?_eq_getElem hlt) h2⟩
  ·have ho' : gt own n = some o := by rw [← gt_startO]; exact ho
   exact how.ok n o ho'
  ·have h1 : gt own n = some o := by rw [← gt_startO]; exact ho
   have h2 : gt own m = some o' := by rw [← gt_startO]; exact ho'
   exact how.apart n m o o' b hne h1 h2
  ·have h1 : gt own n = some o := by rw [← gt_startO]; exact ho
   exact .inl ⟨n, o, h1, hb⟩
 refine wp_mono (h C rfl ⟨rfl, rfl⟩ E M _ w hs) ?_
 rintro e a' w' ⟨S', E', M', ⟨he, S'', hent, hh, hres, hle, hown⟩, hs'⟩
 obtain ⟨E2, M2, hs2⟩ := hent C E' M' a' w' hs'
 obtain ⟨v, hrun, hrep⟩ := run_resH (C := C) hs2 hres
 have hpost : FnPost E M own w v r own' E2 M2 w' :=
  { rep := hle _ _ _ hrep, owns := ⟨fun n o ho => hs2.own n o (hown n o ho), fun n m o o' b hne h1 h2 => hs2.apart n m o o' b hne (hown n o h1) (hown m o' h2)⟩, mle := hs2.m0, mem := hs2.mem, mnew := hs2.mnew, home := fun n o b ho hb => hs2.home n o b (hown n o ho) hb, frame := hs2.frame, grows := hs2.grows, os := hs2.os, tape := hs2.tape, output := hs2.output, env := hs2.env }
 rcases he with rfl | rfl
 ·exact ⟨hs2.defers, v, hrun, v, E2, M2, rfl, hpost⟩
 ·exact ⟨hs2.defers, v, hrun, v, E2, M2, rfl, hpost⟩
section
variable {V : View}
def SigOkD (P : Program) (fid : FuncId) (sig : Sig V) (F : HL V.N sig.tys → Option (HL V.N sig.rcut.tys)) : Prop :=
 ∀ v r x, F v = some r → resV P sig r = some x →
  FnOkD P fid (encL V (startS sig v).len (startOs sig v).1) (encOs (startS sig v).len (startS sig v).own) (encV V (conc V sig.rcut r).len x) (encOs (conc V sig.rcut r).len (kept sig r))
theorem fn_okD {X : Xc V} {sig : Sig V} (hsh : X.sh.rcut = sig.rcut) {fid : FuncId} {fn : Func} {c : Code} (hf : X.P.funcs[fid]? = some fn) (hb : fn.body = some c) (hn : fn.ntmps = X.n) (hrs : fn.results.toList = sig.rvars)
  (hname : (fn.name != "runtime.NumGoroutine") = true) (hlen : Nat.ble sig.params.length X.n = true) (hm : X.P.follows .mixedOrders = true) (hcall : CallerOk X.P X.call)
  (hdr : distinct (sig.rcut.objs.map (·.1)) = true) (hl : ∀ C : Ctx, C.P = X.P → C.N = X.n ∧ Fx C X.pre → LOk C X c) {v : HL V.N sig.tys} {r : HL V.N sig.rcut.tys} (h : exF X sig hsh c v = some r) :
  ∀ x, resV X.P sig r = some x →
   FnOkD X.P fid (encL V (startS sig v).len (startOs sig v).1) (encOs (startS sig v).len (startS sig v).own) (encV V (conc V sig.rcut r).len x) (encOs (conc V sig.rcut r).len (kept sig r)) := by
 obtain ⟨params, objs, rcut, rvars, keep⟩ := sig
 simp only at hsh
 subst hsh
 intro x hx
 have hargs : (startOs ⟨params, objs, X.sh.rcut, rvars, keep⟩ v).1.length ≤ X.n := by
  have hp : params.length ≤ X.n := Nat.le_of_ble_eq_true hlen
  unfold startOs
  split
  ·rename_i xs ls h1
   split
   ·simp only; rw [bdL_len h1]; exact hp
   ·simp
  ·simp
 refine fnD_of_awpL hf hb hname (by rw [encL_len, hn]; exact hargs) fun C hP hN => ?_
 have hent : Ent ⟨startT 0 (encL V (startS ⟨params, objs, X.sh.rcut, rvars, keep⟩ v).len (startOs ⟨params, objs, X.sh.rcut, rvars, keep⟩ v).1), startO (encOs (startS ⟨params, objs, X.sh.rcut, rvars, keep⟩ v).len (startS ⟨params, objs, X.sh.rcut, rvars, keep⟩ v).own)⟩
   (encS V (startS ⟨params, objs, X.sh.rcut, rvars, keep⟩ v)) := by
  refine Ent.le (fun t y hy => ⟨y, ?_, H.le.refl _⟩) fun n o ho => ⟨o, ?_, OLe.refl _⟩
  ·rw [startT_enum]; exact hy
  ·rw [encS_own?, Option.bind_eq_some_iff] at ho
   obtain ⟨o', ho', hoo⟩ := ho
   have := gt_encOs (os := (startS ⟨params, objs, X.sh.rcut, rvars, keep⟩ v).own) ho' hoo
   unfold AState.own?
   rw [gt_startO]
   exact this
 have hend : ∀ e σ, (e = .normal ∨ e = .ret) → Ent σ (encS V (conc V X.sh.rcut r)) →
   FnEndL X.P fn.results.toList (encV V (conc V X.sh.rcut r).len x) (encOs (conc V X.sh.rcut r).len (kept ⟨params, objs, X.sh.rcut, rvars, keep⟩ r)) e σ := by
  intro e σ he hσ
  unfold resV at hx
  rw [Option.map_eq_some_iff] at hx
  obtain ⟨vs, hvs, hone⟩ := hx
  obtain ⟨hs, g1, g2, g3⟩ := resH_sound hvs
  have hh : ∃ y, resH X.P (encS V (conc V X.sh.rcut r)) fn.results.toList = some y ∧ H.le y (encV V (conc V X.sh.rcut r).len x) := by
   rw [hrs]
   unfold resH
   rw [g1]
   cases vs with
   | nil =>
    have : hs = [] := List.eq_nil_of_length_eq_zero (by simpa using g2)
    subst this; subst hone
    exact ⟨.tup [], rfl, by simp only [oneV, encV, encL]; exact H.le.refl _⟩
   | cons a l =>
    cases l with
    | nil =>
     cases hs with
     | nil => simp at g2
     | cons y l' =>
      have : l' = [] := List.eq_nil_of_length_eq_zero (by simpa using g2)
      subst this; subst hone
      obtain ⟨z, z1, z2⟩ := g3 0 a rfl
      simp at z1; subst z1
      exact ⟨y, rfl, z2⟩
    | cons b l =>
     cases hs with
     | nil => simp at g2
     | cons y l' =>
      cases l' with
      | nil => simp at g2
      | cons y2 l2 =>
       subst hone
       refine ⟨.tup (y :: y2 :: l2), rfl, ?_⟩
       simp only [oneV, encV]
       refine tup_le (by rw [encL_len]; exact g2) fun i w hw => ?_
       rw [encL_map, List.getElem?_map, Option.map_eq_some_iff] at hw
       obtain ⟨u, hu, rfl⟩ := hw
       exact g3 i u hu
  obtain ⟨y, hy1, hy2⟩ := hh
  refine ⟨he, _, hσ, y, hy1, hy2, fun n o ho => ?_⟩
  obtain ⟨o', h1, h2⟩ := gt_filterMap ho
  have h1 : (n, o') ∈ (conc V X.sh.rcut r).own := (List.mem_filter.1 h1).1
  have := gt_distinct (build_names X.sh.rcut _ hdr) h1
  rw [encS_own?]
  unfold TS.own?
  unfold conc at *
  rw [this]
  exact h2
 refine .ent hent (ex_sound hP ⟨by rw [hN.1, hn], fun p hp => (by rw [hN.2] at hp; cases hp)⟩ hm hcall c _ _ _ _ _ r _ (hl C hP ⟨by rw [hN.1, hn], fun p hp => (by rw [hN.2] at hp; cases hp)⟩) h ⟨fun S σ hk he => ?_, fun id S σ _ hk he => (by cases hk), fun l S σ hk he => (by cases hk), fun w σ hk he => ?_⟩)
 ·exact hend _ σ (.inl rfl) (Ent.trans he (extr_ent hk))
 ·have : w = r := by simpa using hk
  subst this
  exact hend _ σ (.inr rfl) he
theorem callObjD_ok {P : Program} {fid : Nat} {sig : Sig V} {F : HL V.N sig.tys → Option (HL V.N sig.rcut.tys)} (hF : SigOkD P fid sig F) {A : Type} {args : List (TV V.N)} {S : TS V.N} {dst : Option Tmp}
  {k : TE V.N → Option A} {r : A} (h : callObj P sig F A args S k = some r) :
  ∃ te, k te = some r ∧ good S te ∧ ACallD P fid (encL V S.len args) (encS V S).own? fun e' => ELe true e' (encE (S.app dst te).len te) := by
 unfold callObj at h
 split at h
 ·rename_i σ0 l0 h0
  split at h
  ·rename_i σ1 l1 h1
   split at h
   ·rename_i hin
    split at h
    ·rename_i v hv
     obtain ⟨y, hy, h⟩ := some_bind h
     split at h
     ·rename_i x hx
      split at h
      ·rename_i hout
       obtain ⟨h, hlens⟩ := lenIfs_some h
       have hc := hF v y x hy hx
       have hls := toHL_of hv
       obtain ⟨a1, a2, a3, xs0, a4, a5, a6⟩ := mtL_sound h0
       obtain ⟨b1, b2, os0, b3, b4, b5, b6⟩ := mtO_sound h1
       have hst : startOs sig v = (xs0, os0) := by
        unfold startOs
        rw [hls, a5 l1]
        simp only [b4]
       have hS : (startS sig v).own = os0 := by unfold startS; rw [hst]
       rw [hst, hS] at hc
       have hlen0 : ∀ c o, gt os0 c = some o → (startS sig v).len c = TO.len (some o) := by
        intro c o ho
        unfold TS.len TS.own?
        rw [hS, ho]
       generalize (startS sig v).len = ω0 at hc hlen0
       generalize hos : kept sig y = os at h hout hc hlens
       have hlen1 : ∀ c o, gt os c = some o → (conc V sig.rcut y).len c = TO.len (some o) := by
        intro c o ho
        rw [← hos] at ho
        have := gt_filter (fun n => sig.keep.contains n) (conc V sig.rcut y).own c o ho
        unfold TS.len TS.own?
        rw [this]
       generalize (conc V sig.rcut y).len = ω1 at hc hlen1
       generalize hτ : callNew (80000 + S.own.length) σ1 (os.map (·.1)) = τ at h hout hlens
       have hsub : ∀ c n, gt σ1 c = some n → gt τ c = some n := fun c n hcn => by rw [← hτ]; exact callNew_sub hcn
       simp only [callOut, Bool.and_eq_true, List.all_eq_true] at hout
       obtain ⟨⟨⟨⟨⟨o1, o2⟩, o3⟩, o4⟩, o5⟩, o6⟩ := hout
       simp only [callIn, Bool.and_eq_true, List.all_eq_true] at hin
       obtain ⟨⟨i1, i2⟩, i3⟩ := hin
       have hfi := σf_inj o1
       have hbound : ∀ p ∈ sig.objs, ∃ n o, gt σ1 p.1 = some n ∧ S.own? n = some o ∧ ∃ z, encO V S.len o = some z := by
        intro p hp
        have : p.1 ∈ os0.map (·.1) := by rw [b6]; exact List.mem_map_of_mem hp
        obtain ⟨q, hq, hqe⟩ := List.mem_map.1 this
        obtain ⟨n, o, q1, q2, _, z, q3, _⟩ := b5 q.1 q.2 hq
        exact ⟨n, o, by rw [← hqe]; exact q1, q2, _, q3 S.len⟩
       have hTr : ∀ E : Env, Tr σ1 sig.objs E (fun c => E (σf τ c)) S.len ω0 := fun E => by
        refine ⟨fun c n hcn => by rw [σf_some (hsub c n hcn)], fun c n hc' hcn => ?_⟩
        rw [List.any_eq_true] at hc'
        obtain ⟨p, hp, hpn⟩ := hc'
        have hpn : p.1 = c := by simpa using hpn
        have hm : c ∈ os0.map (·.1) := by rw [b6, ← hpn]; exact List.mem_map_of_mem hp
        obtain ⟨o, ho⟩ := gt_some hm
        obtain ⟨n', o', q1, q2, q3, _⟩ := b5 c o (gt_mem ho)
        rw [hcn] at q1; cases q1
        rw [hlen0 c o ho, q3]; unfold TS.len; rw [q2]
       have hob' : ∀ p ∈ sig.objs, match p.2 with | .box _ ps => ps.all (vhIn V sig.objs) = true | _ => True := by
        intro p hp
        have := i2 p hp
        cases hq : p.2 with
        | box oty ps => rw [hq] at this; simpa using this
        | st i => trivial
        | vec te e => trivial
        | dvec te e out => trivial
        | map tk tv => trivial
        | iter => trivial
        | miter m k v => trivial
       have hown : ∀ n o, gt (sig.objs.filterMap fun p => ((S.own? (σf σ1 p.1)).bind (encO V S.len)).map fun o => (σf σ1 p.1, o)) n = some o → (S.own? n).bind (encO V S.len) = some o := by
        intro n o hn
        obtain ⟨p, hp, hpe⟩ := List.mem_filterMap.1 (gt_mem hn)
        rw [Option.map_eq_some_iff] at hpe
        obtain ⟨o', h1, h2⟩ := hpe
        simp only [Prod.mk.injEq] at h2
        obtain ⟨rfl, rfl⟩ := h2
        exact h1
       have hkeys : ∀ n, n ∈ (sig.objs.filterMap fun p => ((S.own? (σf σ1 p.1)).bind (encO V S.len)).map fun o => (σf σ1 p.1, o)).map (·.1) ↔ n ∈ sig.objs.map fun p => σf σ1 p.1 := by
        intro n
        constructor
        ·intro hn
         obtain ⟨q, hq, rfl⟩ := List.mem_map.1 hn
         obtain ⟨p, hp, hpe⟩ := List.mem_filterMap.1 hq
         rw [Option.map_eq_some_iff] at hpe
         obtain ⟨o', h1, h2⟩ := hpe
         rw [← h2]
         exact List.mem_map_of_mem (f := fun p => σf σ1 p.1) hp
        ·intro hn
         obtain ⟨p, hp, rfl⟩ := List.mem_map.1 hn
         obtain ⟨n, o, q1, q2, z, q3⟩ := hbound p hp
         refine List.mem_map.2 ⟨(σf σ1 p.1, z), List.mem_filterMap.2 ⟨p, hp, ?_⟩, rfl⟩
         rw [σf_some q1, q2]
         simp [q3]
       have hex : ∀ n o, gt (renO (σf τ) (encOs ω0 os0)) n = some o → ∃ z, (gt (sig.objs.filterMap fun p => ((S.own? (σf σ1 p.1)).bind (encO V S.len)).map fun o => (σf σ1 p.1, o)) n = some z) ∧ (∀ E M w, OwnOk E M w n z → OwnOk E M w n o) ∧ ∀ (E : Env) w b, o.foot w (E n) b → z.foot w (E n) b := by
        intro n o hn
        obtain ⟨c, o1, rfl, hg, rfl⟩ := gt_renO_some hfi hn
        obtain ⟨t, ht, hto⟩ := gt_filterMap hg
        obtain ⟨n', oS, q1, q2, _, x4, q4, x', q5, q6, q7⟩ := b5 c t ht
        rw [q5] at hto
        simp only [Option.some.injEq] at hto; subst hto
        have e : σf τ c = n' := σf_some (hsub _ _ q1)
        have hck : c ∈ sig.objs.map (·.1) := by rw [← b6]; exact List.mem_map_of_mem (f := (·.1)) ht
        obtain ⟨p, hp, hpc⟩ := List.mem_map.1 hck
        have hk' := (hkeys n').2 (List.mem_map.2 ⟨p, hp, by rw [hpc]; exact σf_some q1⟩)
        obtain ⟨z, hz⟩ := gt_some hk'
        have hz' := hown _ _ hz
        rw [q2] at hz'
        simp only [Option.bind_some, q4, Option.some.injEq] at hz'
        rw [e]
        refine ⟨z, hz, fun E M w hw => ?_, fun E w b hb => ?_⟩
        ·rw [← hz'] at hw
         have := (q6 σ1 sig.objs E _ M w S.len ω0 (Sub.refl _) hob' (hTr E) hw).ren (E' := E) (f := σf τ) rfl fun m _ => rfl
         rw [e] at this
         exact this
        ·rw [Own.ren_foot] at hb
         rw [← hz']
         exact q7 E (fun _ => E n') w S.len ω0 b rfl hb
       have hsome : ∀ p ∈ os, ∃ o, encO V ω1 p.2 = some o := by
        intro p hp
        have := o4 p hp
        cases hq : p.2 with
        | box oty cells => exact ⟨_, rfl⟩
        | bst i x => exact ⟨_, rfl⟩
        | vec te e xs => exact ⟨_, rfl⟩
        | dvec te e xs => exact ⟨_, rfl⟩
        | pvec te e xs => exact ⟨_, rfl⟩
        | map tk tv es => exact ⟨_, rfl⟩
        | iter s p => exact ⟨_, rfl⟩
        | miter m k v es rest cur => exact ⟨_, rfl⟩
        | gone l => rw [hq] at this; simp [TO.allN] at this
       have hgos : ∀ n, (gt os n).isSome = true → (gt (encOs ω1 os) n).isSome = true := by
        intro n hn
        obtain ⟨o, ho⟩ := Option.isSome_iff_exists.1 hn
        obtain ⟨z, hz⟩ := hsome _ (gt_mem ho)
        rw [gt_encOs ho hz]; rfl
       refine ⟨_, h, ?_, ?_⟩
       ·intro m o hm
        simp only [gt_app] at hm
        split at hm
        ·rename_i o' hq
         simp only [Option.some.injEq] at hm; subst hm
         obtain ⟨p, hp, hpe⟩ := List.mem_map.1 (gt_mem hq)
         simp only [Prod.mk.injEq] at hpe
         obtain ⟨rfl, rfl⟩ := hpe
         have h5 := o5 p hp
         rw [Bool.or_eq_true] at h5
         by_cases hpk : isIn p.1 (sig.objs.map (·.1)) = true
         ·right
          rcases h5 with h5 | h5
          ·rw [hpk] at h5; cases h5
          ·rw [len_ren]
           cases hpp : p.2 with
           | box oty cells => rw [hpp] at h5; simp only [stays] at h5; exact (Nat.eq_of_beq_eq_true h5).symm
           | bst i x => rw [hpp] at h5; simp only [stays] at h5; exact (Nat.eq_of_beq_eq_true h5).symm
           | vec te e xs =>
            exact hlens _ (keepLens_mem (.inl ⟨te, e, xs, rfl⟩) hpk (by rw [← hpp]; exact hp))
           | dvec te e xs =>
            exact hlens _ (keepLens_mem (.inr (.inl ⟨te, e, xs, rfl⟩)) hpk (by rw [← hpp]; exact hp))
           | pvec te e xs =>
            exact hlens _ (keepLens_mem (.inr (.inr ⟨te, e, xs, rfl⟩)) hpk (by rw [← hpp]; exact hp))
           | map tk tv es => rw [hpp] at h5; simp only [stays] at h5; exact (Nat.eq_of_beq_eq_true h5).symm
           | iter s p => rw [hpp] at h5; simp only [stays] at h5; exact (Nat.eq_of_beq_eq_true h5).symm
           | miter m k v es rest cur => rw [hpp] at h5; cases h5
           | gone l => rw [hpp] at h5; cases h5
         ·left
          refine newN_mem (List.mem_map.2 ⟨p, hp, rfl⟩) fun hmem => hpk (isIn_iff.2 ?_)
          obtain ⟨q, hq', hqe⟩ := List.mem_map.1 hmem
          obtain ⟨n, o, q1, _⟩ := hbound q hq'
          rw [σf_some q1, ← σf_some (hsub _ _ q1)] at hqe
          rw [← hfi _ _ hqe]
          exact List.mem_map_of_mem (f := (·.1)) hq'
        ·right
         obtain ⟨q, hq', hqe⟩ := List.mem_map.1 (gt_mem hm)
         simp only [Prod.mk.injEq] at hqe
         obtain ⟨rfl, rfl⟩ := hqe
         rfl
       ·have hat := hc.ren τ (by
         simp only [renOk, Bool.and_eq_true, List.all_eq_true]
         refine ⟨⟨⟨⟨o1, fun p hp => ?_⟩, fun p hp => ?_⟩, ?_⟩, fun p hp => ?_⟩
         ·obtain ⟨z, hz, hz2⟩ := List.mem_filterMap.1 hp
          rw [Option.map_eq_some_iff] at hz2
          obtain ⟨o', _, rfl⟩ := hz2
          have : z.1 ∈ sig.objs.map (·.1) := by rw [← b6]; exact List.mem_map_of_mem (f := (·.1)) hz
          obtain ⟨q, hq, hqe⟩ := List.mem_map.1 this
          have := i3 q hq
          rw [hqe] at this
          exact this
         ·obtain ⟨z, hz, hz2⟩ := List.mem_filterMap.1 hp
          rw [Option.map_eq_some_iff] at hz2
          obtain ⟨o', _, rfl⟩ := hz2
          exact o2 z hz
         ·refine H.allN_of fun n hn => ?_
          rw [encV_has] at hn
          have := TV.allN_has o3 hn
          rw [Bool.or_eq_true]; exact .inr (hgos n this)
         ·obtain ⟨z, hz, hz2⟩ := List.mem_filterMap.1 hp
          rw [Option.map_eq_some_iff] at hz2
          obtain ⟨o', ho', rfl⟩ := hz2
          have h4 := o4 z hz
          cases o' with
          | box oty cells =>
           simp only [Own.allN]
           refine H.allNL_of fun n hn => ?_
           have : TO.has n z.2 = true := by rw [← encO_has ω1 n ho']; exact hn
           have := TO.allN_has h4 this
           rw [Bool.or_eq_true]; exact .inr (hgos n this)
          | vec e sz rows => rfl
          | map es => rfl
          | iter s p => rfl
          | dvec e sz rows => rfl
          | miter m es rest cur =>
           simp only [Own.allN]
           have : TO.has m z.2 = true := by rw [← encO_has ω1 m ho']; exact Nat.beq_refl m
           have := TO.allN_has h4 this
           rw [Bool.or_eq_true]; exact .inr (hgos m this))
        generalize hownE : (sig.objs.filterMap fun p => ((S.own? (σf σ1 p.1)).bind (encO V S.len)).map fun o => (σf σ1 p.1, o)) = own at hown hkeys hex
        refine ⟨own, _, _, FnAtD.weak (args' := encL V S.len args) (own1 := own) hat (fun E M vs hvs => ?_) (fun E M w hw => ?_) (fun n => ?_) (fun E M w hw b hb => ?_), fun p hp => ?_, ?_⟩
        ·refine ⟨by rw [hvs.1, H.renL_len, encL_len, encL_len, a4], fun i c z hcz hz => ?_⟩
         rw [H.renL_get, encL_map, List.getElem?_map, Option.map_map, Option.map_eq_some_iff] at hz
         obtain ⟨u0, hu0, rfl⟩ := hz
         have hi : i < args.length := by rw [← a4]; exact (List.getElem?_eq_some_iff.1 hu0).1
         have hu := List.getElem?_eq_getElem hi
         obtain ⟨_, k2⟩ := a6 i _ u0 hu hu0
         have hr := hvs.2 i c (encV V S.len args[i]) hcz (by rw [encL_map, List.getElem?_map, hu]; rfl)
         exact (k2 σ1 sig.objs E _ M S.len ω0 c b1 (List.all_eq_true.2 i1) (hTr E) hr).ren fun n _ => rfl
        ·refine ⟨fun n o hn => ?_, fun n m o o' b hne hn hm hb => ?_⟩
         ·obtain ⟨z, hz, hz', _⟩ := hex n o hn
          exact hz' E M w (hw.ok n z hz)
         ·obtain ⟨z, hz, _, f1⟩ := hex n o hn
          obtain ⟨z', hz', _, f2⟩ := hex m o' hm
          exact fun hb' => hw.apart n m z z' b hne hz hz' (f1 E w b hb) (f2 E w b hb')
        ·constructor
         ·rintro ⟨o, ho⟩
          obtain ⟨z, hz, _⟩ := hex n o ho
          exact ⟨z, hz⟩
         ·rintro ⟨o, ho⟩
          have := (hkeys n).1 (List.mem_map_of_mem (f := (·.1)) (gt_mem ho))
          obtain ⟨p, hp, rfl⟩ := List.mem_map.1 this
          have hm : p.1 ∈ os0.map (·.1) := by rw [b6]; exact List.mem_map_of_mem hp
          obtain ⟨t, ht⟩ := gt_some hm
          obtain ⟨n', oS, q1, q2, _, x4, q4, x', q5, q6⟩ := b5 p.1 t (gt_mem ht)
          refine ⟨(x' ω0).ren (σf τ), ?_⟩
          rw [σf_some q1, ← σf_some (hsub _ _ q1), gt_renO hfi, gt_encOs ht (q5 ω0)]
          rfl
        ·obtain ⟨n, o, hn, hb⟩ := hb
         obtain ⟨z, hz, _, f1⟩ := hex n o hn
         exact ⟨n, z, hz, f1 E w b hb⟩
        ·rw [← hownE] at hp
         obtain ⟨q, hq, hqe⟩ := List.mem_filterMap.1 hp
         rw [Option.map_eq_some_iff] at hqe
         obtain ⟨o', h1, rfl⟩ := hqe
         rw [encS_own?]; exact h1
        ·have hω : ∀ te : TE V.N, (∀ c o, gt os c = some o → gt te.upd (σf τ c) = some (o.ren (σf τ))) → ∀ c, (gt os c).isSome = true → (S.app dst te).len (σf τ c) = ω1 c := by
          intro te hte c hcs
          obtain ⟨o, ho⟩ := Option.isSome_iff_exists.1 hcs
          rw [app_len, hte c o ho, hlen1 c o ho]
          exact len_ren _ o
         have hkl : own.map (·.1) = sig.objs.map fun p => σf σ1 p.1 := by
          rw [← hownE]
          have : ∀ l : List (Nat × OPt V.ι), (∀ p ∈ l, ∃ n o, gt σ1 p.1 = some n ∧ S.own? n = some o ∧ ∃ z, encO V S.len o = some z) →
            (l.filterMap fun p => ((S.own? (σf σ1 p.1)).bind (encO V S.len)).map fun o => (σf σ1 p.1, o)).map (·.1) = l.map fun p => σf σ1 p.1 := by
           intro l
           induction l with
           | nil => intro _; rfl
           | cons p r ih =>
            intro hl
            obtain ⟨n, o, q1, q2, z, q3⟩ := hl p List.mem_cons_self
            have e : (S.own? (σf σ1 p.1)).bind (encO V S.len) = some z := by rw [σf_some q1, q2]; exact q3
            simp only [List.filterMap_cons, e, Option.map_some, List.map_cons]
            rw [ih fun q hq => hl q (List.mem_cons_of_mem _ hq)]
          exact this sig.objs hbound
         have hml : (renO (σf τ) (encOs ω1 os)).map (·.1) = os.map fun p => σf τ p.1 := by
          have : ∀ l : List (Nat × TO V.N), (∀ p ∈ l, ∃ o, encO V ω1 p.2 = some o) → (renO (σf τ) (encOs ω1 l)).map (·.1) = l.map fun p => σf τ p.1 := by
           intro l
           induction l with
           | nil => intro _; rfl
           | cons p r ih =>
            intro hl
            obtain ⟨o, ho⟩ := hl p List.mem_cons_self
            have := ih fun q hq => hl q (List.mem_cons_of_mem _ hq)
            unfold renO encOs at this ⊢
            simp only [List.filterMap_cons, ho, Option.map_some, List.map_cons]
            rw [this]
          exact this os hsome
         refine ele_upd ?_ ?_ ?_ ?_
         ·simp only [callEff]
          refine (encV_ren x fun n hn => hω _ (fun c o ho => ?_) n (TV.allN_has o3 hn)).symm
          simp only [gt_app, gt_mapf hfi, ho, Option.map_some]
         ·simp only [callEff]
          rw [newNames_newN, hkl]
          rw [hml]
         ·simp only [callEff, List.map_append]
          refine congr (congrArg _ ?_) ?_
          ·have : ∀ (ω2 : Nat → Nat) (l : List (Nat × TO V.N)), (∀ p ∈ l, ∃ o, encO V ω1 p.2 = some o) → (∀ p ∈ l, encO V ω2 (TO.ren (σf τ) p.2) = (encO V ω1 p.2).map (Own.ren (σf τ))) →
             (renO (σf τ) (encOs ω1 l)).map (fun p => (p.1, some p.2)) = (l.map fun p => (σf τ p.1, TO.ren (σf τ) p.2)).map fun p => (p.1, encO V ω2 p.2) := by
            intro ω2 l
            induction l with
            | nil => intro _ _; rfl
            | cons p r ih =>
             intro hl hl2
             obtain ⟨o, ho⟩ := hl p List.mem_cons_self
             have h2 := hl2 p List.mem_cons_self
             have := ih (fun q hq => hl q (List.mem_cons_of_mem _ hq)) fun q hq => hl2 q (List.mem_cons_of_mem _ hq)
             unfold renO encOs at this ⊢
             simp only [List.filterMap_cons, ho, Option.map_some, List.map_cons, h2]
             rw [this]
           refine this _ os hsome fun p hp => encO_ren p.2 fun n hn => hω _ (fun c o ho => ?_) n (TO.allN_has (o4 p hp) hn)
           simp only [gt_app, gt_mapf hfi, ho, Option.map_some]
          ·have e : own.map (fun p : Nat × Own => (p.1, (none : Option Own))) = (own.map (·.1)).map fun n => (n, none) := by rw [List.map_map]; rfl
           rw [e, hkl, List.map_map, List.map_map]
           rfl
         ·simp only [callEff]
          exact hkl
      ·cases h
     ·cases h
    ·cases h
   ·cases h
  ·cases h
 ·cases h
def seqL : Code → Code
 | .seq a _ => a
 | c => c
def seqR : Code → Code
 | .seq _ b => b
 | c => c
def noOper : Oper := { dst := none, op := .move (.tmp 0), type := 0, pos := "", after := #[], guard := none }
def regOp (i : Nat) : Code → Oper
 | .region _ ops _ => (ops.toList[i]?).getD noOper
 | _ => noOper
noncomputable def exDf (X : Xc V) (pa : Nat → Bool) (x0 x1 B z : Code) (td : Tmp) (caps : List Tmp) (sigD : Sig V) (FD : HL V.N sigD.tys → Option (HL V.N sigD.rcut.tys)) (S0 : TS V.N) : Option (HL V.N X.sh.rcut.tys) :=
 ex { X with pre := pa } x0 _ S0 (fun S1 => ex { X with pre := pa } x1 _ S1 (fun S2 =>
  ex X B _ { S2 with tmps := (td, .junk) :: S2.tmps } (fun S4 => ex X z _ S4 (fun S5 =>
   callObj X.P sigD FD _ (caps.map S5.get) S5 fun te => match newOk S5 te with
    | true => extr V X.sh.rcut (S5.app none te)
    | false => none) (fun _ _ => none) (fun _ => none)) (fun _ _ => none) (fun _ => none)) (fun _ _ => none) (fun _ => none)) (fun _ _ => none) (fun _ => none)
theorem post_n {sh : Shape V} {A : Type} {k : TS V.N → Option A} {r : A} : Post sh k (fun _ _ => none) (fun _ => none) r (fun e σ => e = .normal ∧ ∃ S, k S = some r ∧ Ent σ (encS V S)) :=
 ⟨fun S σ hk he => ⟨rfl, S, hk, he⟩, fun _ _ _ _ h => (by cases h), fun _ _ _ h => (by cases h), fun _ _ h => (by cases h)⟩
theorem fn_defer {X : Xc V} {sig : Sig V} (hsh : X.sh.rcut = sig.rcut) {fid fd : FuncId} {fn : Func} {x0 x1 B z : Code} {id : Nat} {o1 o2 : Oper} {td : Tmp} {caps : List Tmp} {ct : Call} {pa : Nat → Bool} (hf : X.P.funcs[fid]? = some fn)
  (hb : fn.body = some (.seq x0 (.seq x1 (.seq (.region id #[o1, o2] false) (.seq B (.seq z .ret)))))) (hn : fn.ntmps = X.n) (hrs : fn.results.toList = sig.rvars) (hname : (fn.name != "runtime.NumGoroutine") = true)
  (hlen : Nat.ble sig.params.length X.n = true) (hm : X.P.follows .mixedOrders = true) (hcall : CallerOk X.P X.call) (hdr : distinct (sig.rcut.objs.map (·.1)) = true)
  (ho1 : o1.op = .makeFunc (.func fd) #[] (caps.map Operand.tmp).toArray) (hd1 : o1.dst = some td) (hg1 : o1.guard = none) (ho2 : o2.op = .defer ct) (hct : ct.callee = .value (.tmp td)) (hca : ct.args = #[]) (hd2 : o2.dst = none) (hg2 : o2.guard = none)
  (htd : Nat.blt td X.n = true) (hcaps : caps.all (fun t => Nat.blt t X.n && !Nat.beq t td && X.pre (4000000 + t)) = true)
  (hl : ∀ C : Ctx, C.P = X.P → C.N = X.n ∧ Fx C X.pre → LOk C X B ∧ LOk C X z) (hl0 : ∀ C : Ctx, LOk C { X with pre := pa } x0 ∧ LOk C { X with pre := pa } x1)
  {sigD : Sig V} {FD : HL V.N sigD.tys → Option (HL V.N sigD.rcut.tys)} (hD : SigOkD X.P fd sigD FD) {v : HL V.N sig.tys} {r : HL V.N sig.rcut.tys} (h : exDf X pa x0 x1 B z td caps sigD FD (startS sig v) = some (hsh ▸ r)) :
  ∀ x, resV X.P sig r = some x →
   FnOk X.P fid (encL V (startS sig v).len (startOs sig v).1) (encOs (startS sig v).len (startS sig v).own) (encV V (conc V sig.rcut r).len x) (encOs (conc V sig.rcut r).len (kept sig r)) := by
 obtain ⟨params, objs, rcut, rvars, keep⟩ := sig
 simp only at hsh
 subst hsh
 intro x hx
 have htd : td < X.n := by simpa [Nat.blt_eq] using htd
 have hcaps : ∀ t ∈ caps, t < X.n ∧ t ≠ td ∧ X.pre (4000000 + t) = true := fun t ht => by
  have := List.all_eq_true.1 hcaps t ht
  simp only [Bool.and_eq_true, Nat.blt_eq, Bool.not_eq_true'] at this
  refine ⟨this.1.1, ⟨fun e => ?_, this.2⟩⟩
  rw [e, Nat.beq_refl] at this
  cases this.1.2
 have hargs : (startOs ⟨params, objs, X.sh.rcut, rvars, keep⟩ v).1.length ≤ X.n := by
  have hp : params.length ≤ X.n := Nat.le_of_ble_eq_true hlen
  unfold startOs
  split
  ·rename_i xs ls h1
   split
   ·simp only; rw [bdL_len h1]; exact hp
   ·simp
  ·simp
 have hent : Ent ⟨startT 0 (encL V (startS ⟨params, objs, X.sh.rcut, rvars, keep⟩ v).len (startOs ⟨params, objs, X.sh.rcut, rvars, keep⟩ v).1), startO (encOs (startS ⟨params, objs, X.sh.rcut, rvars, keep⟩ v).len (startS ⟨params, objs, X.sh.rcut, rvars, keep⟩ v).own)⟩
   (encS V (startS ⟨params, objs, X.sh.rcut, rvars, keep⟩ v)) := by
  refine Ent.le (fun t y hy => ⟨y, ?_, H.le.refl _⟩) fun n o ho => ⟨o, ?_, OLe.refl _⟩
  ·rw [startT_enum]; exact hy
  ·rw [encS_own?, Option.bind_eq_some_iff] at ho
   obtain ⟨o', ho', hoo⟩ := ho
   have := gt_encOs (os := (startS ⟨params, objs, X.sh.rcut, rvars, keep⟩ v).own) ho' hoo
   unfold AState.own?
   rw [gt_startO]
   exact this
 have hend : ∀ e σ, (e = .normal ∨ e = .ret) → Ent σ (encS V (conc V X.sh.rcut r)) →
   FnEndL X.P fn.results.toList (encV V (conc V X.sh.rcut r).len x) (encOs (conc V X.sh.rcut r).len (kept ⟨params, objs, X.sh.rcut, rvars, keep⟩ r)) e σ := by
  intro e σ he hσ
  unfold resV at hx
  rw [Option.map_eq_some_iff] at hx
  obtain ⟨vs, hvs, hone⟩ := hx
  obtain ⟨hs, g1, g2, g3⟩ := resH_sound hvs
  have hh : ∃ y, resH X.P (encS V (conc V X.sh.rcut r)) fn.results.toList = some y ∧ H.le y (encV V (conc V X.sh.rcut r).len x) := by
   rw [hrs]
   unfold resH
   rw [g1]
   cases vs with
   | nil =>
    have : hs = [] := List.eq_nil_of_length_eq_zero (by simpa using g2)
    subst this; subst hone
    exact ⟨.tup [], rfl, by simp only [oneV, encV, encL]; exact H.le.refl _⟩
   | cons a l =>
    cases l with
    | nil =>
     cases hs with
     | nil => simp at g2
     | cons y l' =>
      have : l' = [] := List.eq_nil_of_length_eq_zero (by simpa using g2)
      subst this; subst hone
      obtain ⟨z, z1, z2⟩ := g3 0 a rfl
      simp at z1; subst z1
      exact ⟨y, rfl, z2⟩
    | cons b l =>
     cases hs with
     | nil => simp at g2
     | cons y l' =>
      cases l' with
      | nil => simp at g2
      | cons y2 l2 =>
       subst hone
       refine ⟨.tup (y :: y2 :: l2), rfl, ?_⟩
       simp only [oneV, encV]
       refine tup_le (by rw [encL_len]; exact g2) fun i w hw => ?_
       rw [encL_map, List.getElem?_map, Option.map_eq_some_iff] at hw
       obtain ⟨u, hu, rfl⟩ := hw
       exact g3 i u hu
  obtain ⟨y, hy1, hy2⟩ := hh
  refine ⟨he, _, hσ, y, hy1, hy2, fun n o ho => ?_⟩
  obtain ⟨o', h1, h2⟩ := gt_filterMap ho
  have h1 : (n, o') ∈ (conc V X.sh.rcut r).own := (List.mem_filter.1 h1).1
  have := gt_distinct (build_names X.sh.rcut _ hdr) h1
  rw [encS_own?]
  unfold TS.own?
  unfold conc at *
  rw [this]
  exact h2
 generalize hS0 : startS ⟨params, objs, X.sh.rcut, rvars, keep⟩ v = S0 at hent h ⊢
 generalize hx0 : startOs ⟨params, objs, X.sh.rcut, rvars, keep⟩ v = O0 at hent hargs ⊢
 generalize hown0 : encOs S0.len S0.own = own at hent ⊢
 refine ⟨by simp [callable, hf, hb, hname], fun E M w vs hgm hm' how hvs => ?_⟩
 refine calls_of_wp_defers hf hb ?_
 let C : Ctx := ⟨X.P, fn.ntmps, w, M, E, inExt E w own, hgm, fun b ⟨n, o, hn, hb⟩ => ((how.ok n o hn).block hb).2, [], []⟩
 have hs : Sim C E M ⟨startT 0 (encL V S0.len O0.1), startO own⟩ { tmps := vs ++ Array.replicate (fn.ntmps - vs.size) undef, defers := [] } w := by
  have hvs1 := hvs.1
  rw [encL_len] at hvs1
  refine { size := by simp [C]; omega, defers := rfl, fixed := fun p hp => (by cases hp), tmps := fun t x hx => ?_, mem := hm', own := fun n o ho => ?_, apart := fun n m o o' b hne ho ho' => ?_, home := fun n o b ho hb => ?_, m0 := Mem.le_refl M, mnew := fun b o v hv => .inl hv, frame := fun _ _ _ => rfl, grows := Nat.le_refl _, os := rfl, tape := rfl, output := rfl, env := fun _ _ => rfl }
  ·obtain ⟨_, h2⟩ := gt_startT _ 0 t x hx
   simp only [Nat.sub_zero] at h2
   have hlt : t < vs.size := by have := (List.getElem?_eq_some_iff.1 h2).1; rw [encL_len] at this; omega
   exact ⟨vs[t], by simp [Array.getElem?_append_left hlt, hlt], hvs.2 t _ x (Array.getElem?_eq_getElem hlt) h2⟩
  ·have ho' : gt own n = some o := by rw [← gt_startO]; exact ho
   exact how.ok n o ho'
  ·have h1 : gt own n = some o := by rw [← gt_startO]; exact ho
   have h2 : gt own m = some o' := by rw [← gt_startO]; exact ho'
   exact how.apart n m o o' b hne h1 h2
  ·have h1 : gt own n = some o := by rw [← gt_startO]; exact ho
   exact .inl ⟨n, o, h1, hb⟩
 obtain ⟨E0, M0, hs0⟩ := hent _ _ _ _ _ hs
 have hF0 : Fx C pa := fun p hp => by cases hp
 unfold exDf at h
 have A0 := ex_sound (C := C) (X := { X with pre := pa }) rfl ⟨hn, hF0⟩ hm hcall x0 _ S0 _ _ _ _ _ (hl0 C).1 h post_n
 refine wp_seq (wp_mono (A0 E0 M0 _ w hs0) ?_)
 rintro e a1 w1 ⟨σ1, E1, M1, ⟨rfl, S1, h1, he1⟩, hs1⟩
 obtain ⟨E1, M1, hs1⟩ := he1 _ _ _ _ _ hs1
 have A1 := ex_sound (C := C) (X := { X with pre := pa }) rfl ⟨hn, hF0⟩ hm hcall x1 _ S1 _ _ _ _ _ (hl0 C).2 h1 post_n
 refine wp_seq (wp_mono (A1 E1 M1 a1 w1 hs1) ?_)
 rintro e a2 w2 ⟨σ2, E2, M2, ⟨rfl, S2, h2, he2⟩, hs2⟩
 obtain ⟨E2, M2, hs2⟩ := he2 _ _ _ _ _ hs2
 have hsz : a2.tmps.size = X.n := hs2.size.trans hn
 generalize hcv : (caps.map Operand.tmp).toArray.map a2.eval = capv
 have hwr : ∀ d, o1.dst = some d → C.wr d := fun d hd => by
  rw [hd1] at hd; cases hd
  exact ⟨by show td < fn.ntmps; rw [hn]; exact htd, fun p hp => by cases hp⟩
 have hs3 := hs2.put o1.dst hwr (HRep.junk (E := E2) (M := M2) (.func (.func fd) #[] capv))
 refine wp_seq (wp_region ?_)
 have hrange : List.range (#[o1, o2] : Array Oper).size = [0, 1] := rfl
 have hi0 : (#[o1, o2] : Array Oper)[0]? = some o1 := rfl
 have hi1 : (#[o1, o2] : Array Oper)[1]? = some o2 := rfl
 rw [hrange]
 simp only [wpOps, hi0, hi1]
 rw [if_pos (by simp [Region.wanted, hg1])]
 refine .inl (wp_value (v := .func (.func fd) #[] capv) (w' := w2) (by simp [execOp, ho1, Instr.makeFunc, hcv]) ?_)
 rw [if_pos (by simp [Region.wanted, hg2])]
 refine .inl ?_
 have htdv : (a2.put o1.dst (.func (.func fd) #[] capv)).eval (.tmp td) = .func (.func fd) #[] capv := by
  rw [hd1]
  simp [Act.put, Act.eval, hsz, htd]
 unfold Oper.wp
 have hdef : (execOp (a2.put o1.dst (.func (.func fd) #[] capv)).eval o2).run X.P w2 = .ok (.defer ⟨.fn (.func fd) capv, #[]⟩) w2 := by
  simp [execOp, ho2, resolve, hct, hca, htdv, Deferred.ofValue]
 rw [hdef, Oper.upon_defer, hd2]
 generalize ha3 : a2.put o1.dst (.func (.func fd) #[] capv) = a3 at hs3 ⊢
 have ht3 : ∀ t ∈ caps, a3.tmps[t]? = some (a2.eval (.tmp t)) := fun t ht => by
  obtain ⟨q1, q2, _⟩ := hcaps t ht
  rw [← ha3, hd1]
  have hlt : t < a2.tmps.size := by rw [hsz]; exact q1
  show (a2.tmps.setIfInBounds td (.func (.func fd) #[] capv))[t]? = some (a2.tmps.getD t undef)
  rw [Array.getElem?_setIfInBounds_ne (Ne.symm q2), Array.getD_eq_getD_getElem?, Array.getElem?_eq_getElem hlt]
  rfl
 let C1 : Ctx := { C with D := [⟨.fn (.func fd) capv, #[]⟩], fix := caps.map fun t => (t, a2.eval (.tmp t)) }
 have hs4 : Sim C1 E2 M2 (encS V { S2 with tmps := (td, .junk) :: S2.tmps }) (({ a3 with defers := ⟨.fn (.func fd) capv, #[]⟩ :: a3.defers } : Act).put none undef) w2 := by
  have hde : a3.defers = [] := hs3.defers
  have hst : encS V { S2 with tmps := (td, .junk) :: S2.tmps } = { encS V S2 with tmps := putT o1.dst .junk (encS V S2).tmps } := by
   rw [hd1]; rfl
  rw [hst]
  have hfx : ∀ p ∈ C1.fix, a3.tmps[p.1]? = some p.2 := fun p hp => by
   obtain ⟨t, ht, rfl⟩ := List.mem_map.1 hp
   exact ht3 t ht
  exact { size := hs3.size, defers := (by simp [Act.put, hde, C1]), fixed := hfx, tmps := hs3.tmps, mem := hs3.mem, own := hs3.own, apart := hs3.apart, home := hs3.home, m0 := hs3.m0, mnew := hs3.mnew, frame := hs3.frame, grows := hs3.grows, os := hs3.os, tape := hs3.tape, output := hs3.output, env := hs3.env }
 generalize ({ a3 with defers := ⟨.fn (.func fd) capv, #[]⟩ :: a3.defers } : Act).put none undef = a4 at hs4 ⊢
 have hF1 : Fx C1 X.pre := fun p hp => by
  obtain ⟨t, ht, rfl⟩ := List.mem_map.1 hp
  exact (hcaps t ht).2.2
 have hL := hl C1 rfl ⟨hn, hF1⟩
 have A4 := ex_sound (C := C1) (X := X) rfl ⟨hn, hF1⟩ hm hcall B _ _ _ _ _ _ _ hL.1 h2 post_n
 refine wp_seq (wp_mono (A4 E2 M2 a4 w2 hs4) ?_)
 rintro e a5 w5 ⟨σ5, E5, M5, ⟨rfl, S5, h5, he5⟩, hs5⟩
 obtain ⟨E5, M5, hs5⟩ := he5 _ _ _ _ _ hs5
 have A5 := ex_sound (C := C1) (X := X) rfl ⟨hn, hF1⟩ hm hcall z _ _ _ _ _ _ _ hL.2 h5 post_n
 refine wp_seq (wp_mono (A5 E5 M5 a5 w5 hs5) ?_)
 rintro e a6 w6 ⟨σ6, E6, M6, ⟨rfl, S6, h6, he6⟩, hs6⟩
 obtain ⟨E6, M6, hs6⟩ := he6 _ _ _ _ _ hs6
 refine wp_ret ?_
 show Leaves X.P fn a6.tmps _ a6.defers .returning w6
 have hde : a6.defers = [⟨.fn (.func fd) capv, #[]⟩] := hs6.defers
 rw [hde]
 obtain ⟨te, k1, k2, own1, rr, own1', hat, hsub0, hele⟩ := callObjD_ok hD (dst := none) h6
 have hsub : ∀ n o, gt own1 n = some o → (encS V S6).own? n = some o := fun n o hq => hsub0 (n, o) (gt_mem hq)
 have hnk : newOk S6 te = true ∧ extr V X.sh.rcut (S6.app none te) = some r := by
  cases hq : newOk S6 te with
  | true => rw [hq] at k1; exact ⟨rfl, k1⟩
  | false => rw [hq] at k1; cases k1
 obtain ⟨f1, f2⟩ := newOk_fresh hnk.1
 have hnew : ∀ d ∈ newNames own1 own1', (encS V S6).fresh d = true ∧ d < given := fun d hd => by
  have hd : d ∈ te.new := by have := hele.new; simp only [callEff] at this; rw [this] at hd; exact hd
  exact ⟨encS_fresh (f1 d hd), f2 d hd⟩
 have hcal := hat.1
 refine ⟨by simp, .func fd, capv, fd, capv, rfl, ?_, ?_⟩
 ·unfold callable at hcal
  split at hcal
  ·rename_i fn' hfn'
   simp only [Bool.and_eq_true, bne_iff_ne, ne_eq] at hcal
   have hbb : ¬ fn'.body = none := by
    intro hbb
    rw [hbb] at hcal; simp at hcal
   simp [invoke, callFunc, hfn', hcal.1, hbb]
  ·cases hcal
 ·have hreps : HReps E6 M6 capv (encL V S6.len (caps.map S6.get)) := by
   have hcl : capv.size = caps.length := by rw [← hcv]; simp
   refine ⟨by rw [encL_len, List.length_map]; exact hcl, fun i c y hc hy => ?_⟩
   rw [encL_map, List.getElem?_map, List.getElem?_map] at hy
   cases hq : caps[i]? with
   | none => rw [hq] at hy; cases hy
   | some t =>
    rw [hq] at hy
    simp only [Option.map_some, Option.some.injEq] at hy
    subst hy
    have hc2 : c = a2.eval (.tmp t) := by
     rw [← hcv] at hc
     simp [hq] at hc
     exact hc.symm
    have hfx := hs6.fixed (t, a2.eval (.tmp t)) (List.mem_map.2 ⟨t, List.mem_of_getElem? hq, rfl⟩)
    have hev := hs6.ev (.tmp t)
    rw [ev_enc] at hev
    have : a6.eval (.tmp t) = c := by
     rw [hc2]
     simp only [Act.eval]
     rw [Array.getD_eq_getD_getElem?, hfx]; rfl
    rw [this] at hev
    exact hev
  have hC := hat.2 E6 M6 w6 capv (C1.g0.mono hs6.m0 fun b ⟨v, hv⟩ hb => hs6.frame b hb fun hx => by rw [C1.gx b hx 0] at hv; cases hv) hs6.mem
   ⟨fun n o h => hs6.own n o (hsub n o h), fun n m o o' b hne h h' => hs6.apart n m o o' b hne (hsub n o h) (hsub m o' h')⟩ hreps
  refine (hC .returning).mono ?_
  rintro e u' w7 ⟨rfl, v1, E7, M7, rfl, hp, henv⟩
  have hs7 := Sim.called (o := o2) (fun d hd => by rw [hd2] at hd; cases hd) hs6 hsub hp henv hnew
  rw [hd2] at hs7
  have hs8 := Sim.tapp (dst := none) k2 f1 hele hs7
  obtain ⟨he, S8, hen8, hh, hres, hle, hown⟩ := hend .ret _ (.inr rfl) (extr_ent hnk.2)
  obtain ⟨E9, M9, hs9⟩ := hen8 _ _ _ _ _ hs8
  obtain ⟨v9, hrun, hrep⟩ := run_resH (C := C1) hs9 hres
  refine ⟨v9, hrun, v9, E9, M9, rfl, ?_⟩
  exact { rep := hle _ _ _ hrep, owns := ⟨fun n o ho => hs9.own n o (hown n o ho), fun n m o o' b hne h1 h2 => hs9.apart n m o o' b hne (hown n o h1) (hown m o' h2)⟩, mle := hs9.m0, mem := hs9.mem, mnew := hs9.mnew, home := fun n o b ho hb => hs9.home n o b (hown n o ho) hb, frame := hs9.frame, grows := hs9.grows, os := hs9.os, tape := hs9.tape, output := hs9.output, env := hs9.env }
end
end Go.Tx
end
section
namespace Go.Tx
open Go.Awp
variable [Inhabited GMem]
section
variable {V : View}
def c0 : Caller V := fun _ _ _ _ _ => none
def cO (P : Program) (fid : Nat) (sig : Sig V) (F : HL V.N sig.tys → Option (HL V.N sig.rcut.tys)) (r : Caller V) : Caller V := fun A f args S k => match Nat.beq f fid with
 | true => callObj P sig F A args S k
 | false => r A f args S k
def cP (P : Program) (fid : Nat) (sig : Sig V) (F : HL V.N sig.tys → Option (HL V.N sig.rcut.tys)) (r : Caller V) : Caller V := fun A f args S k => match Nat.beq f fid with
 | true => callPure P sig F A args S k
 | false => r A f args S k
theorem c0_ok {P : Program} : CallerOk P (c0 : Caller V) := fun A fid args S dst k r h => by cases h
theorem cO_ok {P : Program} {fid : Nat} {sig : Sig V} {F : HL V.N sig.tys → Option (HL V.N sig.rcut.tys)} {r : Caller V} (h : SigOk P fid sig F) (hr : CallerOk P r) : CallerOk P (cO P fid sig F r) := fun A f args S dst k x hx => by
 unfold cO at hx
 split at hx
 ·rename_i e
  have e := Nat.eq_of_beq_eq_true e
  subst e
  exact callObj_ok h hx
 ·exact hr A f args S dst k x hx
theorem cP_ok {P : Program} {fid : Nat} {sig : Sig V} {F : HL V.N sig.tys → Option (HL V.N sig.rcut.tys)} {r : Caller V} (h : SigOk P fid sig F) (ho : sig.objs = []) (hk : sig.keep = []) (hr : CallerOk P r) : CallerOk P (cP P fid sig F r) := fun A f args S dst k x hx => by
 unfold cP at hx
 split at hx
 ·rename_i e
  have e := Nat.eq_of_beq_eq_true e
  subst e
  exact callPure_ok h ho hk hx
 ·exact hr A f args S dst k x hx
end
noncomputable def comb {A : Type} : Nat → Option A → Option A
 | 0, x => x
 | n + 1, x => both x (comb n x)
end Go.Tx
end
