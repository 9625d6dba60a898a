/-
  Texts of this claim, joined by a program of mine: what the theorem uses.
-/
import Derived.Test.YtpelkenpapfadaaGreatDoorPkD
import Derived.Test.YtpelkenpapfadaaGreatDoorPkC
import Derived.WalkKit
import Derived.ProofKit
import Derived.OpenShut
import Derived.Test.YtpelkenpapfadaaGreatDoorRows
import Derived.Lib.LaidIn
import Derived.Lib.LaidU8T
import Derived.MakeChecks
import Derived.Test.YtpelkenpapfadaaGreatDoorProg
import Derived.KernelRfl
import Derived.Shelf.Strings.Builder1
import Derived.Defers
open Array renaming getD_eq_getD_getElem?→Wl,getElem?_append_left→V1,getElem?_eq_getElem→UN,getElem?_setIfInBounds_ne→U0,getElem?_toList→VA,length_toList→Vm,replicate→VH
open Bool renaming and_eq_true→Uf,false_or→Ux,not_eq_true'→VL,or_assoc→Xp,or_eq_false_iff→UQ,or_eq_true→UB,true_and→U9,true_or→UD
open Classical renaming choose_spec→Xk
open Int renaming mul_le_mul_of_nonneg_left→WM,mul_le_mul_of_nonneg_right→WJ,mul_nonneg→Xj
open List renaming all_cons→Vi,all_eq_true→Uj,any_cons→Wb,any_eq_false→WY,any_eq_true→Vl,any_nil→W7,drop_drop→VU,drop_eq_getElem_cons→Vw,drop_eq_nil_of_le→Vt,drop_zero→UJ,eq_nil_of_length_eq_zero→Uz,filterMap_cons→Vx,filter_cons→W5,foldl_cons→Va,getElem?_append_left→Uu,getElem?_append_right→Ut,getElem?_eq_getElem→T8,getElem?_eq_some_iff→T7,getElem?_map→Ua,getElem?_range→VF,getElem_mem→Vk,getElem_of_mem→Wn,length_append→Uc,length_cons→Ue,length_map→Ub,length_nil→Uv,map→VC,map_append→UV,map_cons→Ud,map_map→UC,mem_append→Uk,mem_append_left→Vq,mem_append_right→VI,mem_cons→Uh,mem_cons_of_mem→T6,mem_cons_self→T_,mem_filter→Wq,mem_filterMap→U6,mem_map→Us,mem_map_of_mem→Uq,mem_of_getElem?→Ui,not_all_eq_any_not→W8,not_mem_nil→W4,range→VV,take_of_length_le→UU
open List.cons renaming injEq→VM
open Nat renaming add_zero→UE,beq→U8,beq_refl→V8,ble→VY,blt→Vu,blt_eq→VB,eq_of_beq_eq_true→UM,le_of_ble_eq_true→Vg,le_of_eq→Xy,le_refl→Up,mul_one→WP,strongRecOn→Xa,sub_zero→W2
open Ne renaming symm→UA
open Option renaming bind_eq_some_iff→Vp,bind_some→TU,isSome_iff_exists→V6,map_eq_some_iff→Ug,map_map→Xg,map_some→Uw
open Option.some renaming inj→VX,injEq→T9
open Prod.mk renaming injEq→Uy
noncomputable section
set_option linter.unusedSectionVars false
set_option linter.unusedSimpArgs false
set_option linter.unusedVariables false
section
namespace Go.Tx
open Go.Awp
variable [Inhabited GMem]
section
variable {V:mD}
theorem lJ{α:Type}(q:Nat->Bool):∀(l:List (Nat×α)) (n:Nat) (x:α),gt (l.filter λp=>q p.1) n=some x->gt l n=some x
 |[],n,x,h=>by simp[gt]at h
 |(k,y)::r,n,x,h=>by
  rw[W5]at h
  rw[ah]
  by_cases hk:k=n
  ·subst hk
   rw[XG rfl]
   split at h
   ·rw[ah,XG rfl]at h;exact h
   ·rename_i hq
    have:=ba h
    have:=(Wq.1 this).2
    exact(hq this).elim
  ·rw[XF hk]
   split at h
   ·rw[ah,XF hk]at h;exact lJ q r n x h
   ·exact lJ q r n x h
theorem o7{α β:Type}{f:Nat->Nat}{g:α->β}(hf:∀a b,f a=f b->a=b):∀(l:List (Nat×α)) (n:Nat),gt (l.map λp=>(f p.1,g p.2)) (f n)=(gt l n).map g
 |[],n=>by simp[gt]
 |(k,y)::r,n=>by
  rw[Ud,ah,ah]
  by_cases hk:k=n
  ·subst hk;simp
  ·rw[XF hk,XF λe=>hk (hf _ _ e)];exact o7 hf r n
theorem oq{ks:List Nat}{n:Nat}:∀{l:List Nat},n∈l->n∉ks->n∈K1 ks l
 |[],h,_=>by cases h
 |k::r,h,hn=>by
  simp only[K1]
  rcases Uh.1 h with rfl|h
  ·split
   ·rename_i hi;exact(hn (jG.1 hi)).elim
   ·exact T_
  ·split
   ·exact oq h hn
   ·exact T6 _ (oq h hn)
theorem sH(f:Nat->Nat)(o:TO V.N):TO.len (some (TO.ren f o))=TO.len (some o):=by cases o<;>rfl
theorem di{P:Program}{fid:Nat}{sig:Sig V}{F:HL V.N sig.tys->Option (HL V.N sig.rcut.tys)}(hF:aq P fid sig F){A:Type}{args:List (TV V.N)}{S:TS V.N}{dst:Option Tmp}
 {k:TE V.N->Option A}{r:A}(h:eN P sig F A args S k=some r):
 ∃te,k te=some r/\good S te/\wn P fid (encL V S.len args) (aG V S).own? λe'=>ELe true e' (gm (S.app dst te).len te):=by
 unfold eN at h
 split at h
 ·rename_i σ0 l0 h0
  split at h
  ·rename_i σ1 l1 h1
   split at h
   ·rename_i hin
    split at h
    ·rename_i v hv
     obtain⟨y,hy,h⟩:=bA h
     split at h
     ·rename_i x hx
      split at h
      ·rename_i hout
       obtain⟨h,hlens⟩:=kY h
       have hc:=hF v y x hy hx
       have hls:=ql hv
       obtain⟨a1,a2,a3,xs0,a4,a5,a6⟩:=gK h0
       obtain⟨b1,b2,os0,b3,b4,b5,b6⟩:=bX h1
       have hst:aU sig v=(xs0,os0):=by
        unfold aU
        rw[hls,a5 l1]
        simp only[b4]
       have hS:(az sig v).own=os0:=by unfold az;rw[hst]
       rw[hst,hS]at hc
       have hlen0:∀c o,gt os0 c=some o->(az sig v).len c=TO.len (some o):=by
        intro c o ho
        unfold TS.len TS.own?
        rw[hS,ho]
       generalize (az sig v).len=ω0 at hc hlen0
       generalize hos:jb sig y=os at h hout hc hlens
       have hlen1:∀c o,gt os c=some o->(bP V sig.rcut y).len c=TO.len (some o):=by
        intro c o ho
        rw[<-hos]at ho
        have:=lJ (λn=>sig.keep.contains n) (bP V sig.rcut y).own c o ho
        unfold TS.len TS.own?
        rw[this]
       generalize (bP V sig.rcut y).len=ω1 at hc hlen1
       generalize hτ:eM (80000+S.own.length) σ1 (os.map (·.1))=τ at h hout hlens
       have hsub:∀c n,gt σ1 c=some n->gt τ c=some n:=λc n hcn=>by rw[<-hτ];exact gX hcn
       simp only[xj,Uf,Uj]at hout
       obtain⟨⟨⟨⟨⟨o1,o2⟩,o3⟩,o4⟩,o5⟩,o6⟩:=hout
       simp only[Ds,Uf,Uj]at hin
       obtain⟨⟨i1,i2⟩,i3⟩:=hin
       have hfi:=σf_inj o1
       have hbound:∀p∈sig.objs,∃n o,gt σ1 p.1=some n/\S.own? n=some o/\∃z,bh V S.len o=some z:=by
        intro p hp
        have:p.1∈os0.map (·.1):=by rw[b6];exact Uq hp
        obtain⟨q,hq,hqe⟩:=Us.1 this
        obtain⟨n,o,q1,q2,_,z,q3,_⟩:=b5 q.1 q.2 hq
        exact⟨n,o,by rw[<-hqe];exact q1,q2,_,q3 S.len⟩
       have hTr:∀E:Env,Tr σ1 sig.objs E (λc=>E (σf τ c)) S.len ω0:=λE=>by
        refine⟨λc n hcn=>by rw[σf_some (hsub c n hcn)],λc n hc' hcn=> ?_⟩
        rw[Vl]at hc'
        obtain⟨p,hp,hpn⟩:=hc'
        have hpn:p.1=c:=by simpa using hpn
        have hm:c∈os0.map (·.1):=by rw[b6,<-hpn];exact Uq hp
        obtain⟨o,ho⟩:=eh hm
        obtain⟨n',o',q1,q2,q3,_⟩:=b5 c o (ba ho)
        rw[hcn]at q1;cases q1
        rw[hlen0 c o ho,q3];unfold TS.len;rw[q2]
       have hob':∀p∈sig.objs,match p.2 with| .box _ ps=>ps.all (vU V sig.objs)=true|_=>True:=by
        intro p hp
        have:=i2 p hp
        cases hq:p.2 with
        |box oty ps=>rw[hq]at this;simpa using this
        |st i=>trivial
        |vec te e=>trivial
        |dvec te e out=>trivial
        |map tk tv=>trivial
        |iter=>trivial
        |miter m k v=>trivial
       have hown:∀n o,gt (sig.objs.filterMap λp=>((S.own? (σf σ1 p.1)).bind (bh V S.len)).map λo=>(σf σ1 p.1,o)) n=some o->(S.own? n).bind (bh V S.len)=some o:=by
        intro n o hn
        obtain⟨p,hp,hpe⟩:=U6.1 (ba hn)
        rw[Ug]at hpe
        obtain⟨o',h1,h2⟩:=hpe
        simp only[Uy]at h2
        obtain⟨rfl,rfl⟩:=h2
        exact h1
       have hkeys:∀n,n∈(sig.objs.filterMap λp=>((S.own? (σf σ1 p.1)).bind (bh V S.len)).map λo=>(σf σ1 p.1,o)).map (·.1)↔n∈sig.objs.map λp=>σf σ1 p.1:=by
        intro n
        constructor
        ·intro hn
         obtain⟨q,hq,rfl⟩:=Us.1 hn
         obtain⟨p,hp,hpe⟩:=U6.1 hq
         rw[Ug]at hpe
         obtain⟨o',h1,h2⟩:=hpe
         rw[<-h2]
         exact Uq (f:=λp=>σf σ1 p.1) hp
        ·intro hn
         obtain⟨p,hp,rfl⟩:=Us.1 hn
         obtain⟨n,o,q1,q2,z,q3⟩:=hbound p hp
         refine Us.2 ⟨(σf σ1 p.1,z),U6.2 ⟨p,hp,?_⟩,rfl⟩
         rw[σf_some q1,q2]
         simp[q3]
       have hex:∀n o,gt (qx (σf τ) (bo ω0 os0)) n=some o->∃z,(gt (sig.objs.filterMap λp=>((S.own? (σf σ1 p.1)).bind (bh V S.len)).map λo=>(σf σ1 p.1,o)) n=some z)/\(∀E M w,aY E M w n z->aY E M w n o)/\∀(E:Env) w b,o.foot w (E n) b->z.foot w (E n) b:=by
        intro n o hn
        obtain⟨c,o1,rfl,hg,rfl⟩:=bw hfi hn
        obtain⟨t,ht,hto⟩:=cz hg
        obtain⟨n',oS,q1,q2,_,x4,q4,x',q5,q6,q7⟩:=b5 c t ht
        rw[q5]at hto
        simp only[T9]at hto;subst hto
        have e:σf τ c=n':=σf_some (hsub _ _ q1)
        have hck:c∈sig.objs.map (·.1):=by rw[<-b6];exact Uq (f:=(·.1)) ht
        obtain⟨p,hp,hpc⟩:=Us.1 hck
        have hk':=(hkeys n').2 (Us.2 ⟨p,hp,by rw[hpc];exact σf_some q1⟩)
        obtain⟨z,hz⟩:=eh hk'
        have hz':=hown _ _ hz
        rw[q2]at hz'
        simp only[TU,q4,T9]at hz'
        rw[e]
        refine⟨z,hz,λE M w hw=> ?_,λE w b hb=> ?_⟩
        ·rw[<-hz']at hw
         have:=(q6 σ1 sig.objs E _ M w S.len ω0 (Sub.refl _) hob' (hTr E) hw).ren (E':=E) (f:=σf τ) rfl λm _=>rfl
         rw[e]at this
         exact this
        ·rw[Own.ren_foot]at hb
         rw[<-hz']
         exact q7 E (λ_=>E n') w S.len ω0 b rfl hb
       have hsome:∀p∈os,∃o,bh V ω1 p.2=some o:=by
        intro p hp
        have:=o4 p hp
        cases hq:p.2 with
        |box oty cells=>exact⟨_,rfl⟩
        |bst i x=>exact⟨_,rfl⟩
        |vec te e xs=>exact⟨_,rfl⟩
        |dvec te e xs=>exact⟨_,rfl⟩
        |pvec te e xs=>exact⟨_,rfl⟩
        |map tk tv es=>exact⟨_,rfl⟩
        |iter s p=>exact⟨_,rfl⟩
        |miter m k v es rest cur=>exact⟨_,rfl⟩
        |gone l=>rw[hq]at this;simp[TO.allN]at this
       have hgos:∀n,(gt os n).isSome=true->(gt (bo ω1 os) n).isSome=true:=by
        intro n hn
        obtain⟨o,ho⟩:=V6.1 hn
        obtain⟨z,hz⟩:=hsome _ (ba ho)
        rw[gf ho hz];rfl
       refine⟨_,h,?_,?_⟩
       ·intro m o hm
        simp only[dY]at hm
        split at hm
        ·rename_i o' hq
         simp only[T9]at hm;subst hm
         obtain⟨p,hp,hpe⟩:=Us.1 (ba hq)
         simp only[Uy]at hpe
         obtain⟨rfl,rfl⟩:=hpe
         have h5:=o5 p hp
         rw[UB]at h5
         by_cases hpk:zn p.1 (sig.objs.map (·.1))=true
         ·right
          rcases h5 with h5|h5
          ·rw[hpk]at h5;cases h5
          ·rw[sH]
           cases hpp:p.2 with
           |box oty cells=>rw[hpp]at h5;simp only[tD]at h5;exact(UM h5).symm
           |bst i x=>rw[hpp]at h5;simp only[tD]at h5;exact(UM h5).symm
           |vec te e xs=>
            exact hlens _ (de (.inl ⟨te,e,xs,rfl⟩) hpk (by rw[<-hpp];exact hp))
           |dvec te e xs=>
            exact hlens _ (de (.inr (.inl ⟨te,e,xs,rfl⟩)) hpk (by rw[<-hpp];exact hp))
           |pvec te e xs=>
            exact hlens _ (de (.inr (.inr ⟨te,e,xs,rfl⟩)) hpk (by rw[<-hpp];exact hp))
           |map tk tv es=>rw[hpp]at h5;simp only[tD]at h5;exact(UM h5).symm
           |iter s p=>rw[hpp]at h5;simp only[tD]at h5;exact(UM h5).symm
           |miter m k v es rest cur=>rw[hpp]at h5;cases h5
           |gone l=>rw[hpp]at h5;cases h5
         ·left
          refine oq (Us.2 ⟨p,hp,rfl⟩) λhmem=>hpk (jG.2 ?_)
          obtain⟨q,hq',hqe⟩:=Us.1 hmem
          obtain⟨n,o,q1,_⟩:=hbound q hq'
          rw[σf_some q1,<-σf_some (hsub _ _ q1)]at hqe
          rw[<-hfi _ _ hqe]
          exact Uq (f:=(·.1)) hq'
        ·right
         obtain⟨q,hq',hqe⟩:=Us.1 (ba hm)
         simp only[Uy]at hqe
         obtain⟨rfl,rfl⟩:=hqe
         rfl
       ·have hat:=hc.ren τ (by
         simp only[BI,Uf,Uj]
         refine⟨⟨⟨⟨o1,λp hp=> ?_⟩,λp hp=> ?_⟩,?_⟩,λp hp=> ?_⟩
         ·obtain⟨z,hz,hz2⟩:=U6.1 hp
          rw[Ug]at hz2
          obtain⟨o',_,rfl⟩:=hz2
          have:z.1∈sig.objs.map (·.1):=by rw[<-b6];exact Uq (f:=(·.1)) hz
          obtain⟨q,hq,hqe⟩:=Us.1 this
          have:=i3 q hq
          rw[hqe]at this
          exact this
         ·obtain⟨z,hz,hz2⟩:=U6.1 hp
          rw[Ug]at hz2
          obtain⟨o',_,rfl⟩:=hz2
          exact o2 z hz
         ·refine H.allN_of λn hn=> ?_
          rw[g6]at hn
          have:=TV.allN_has o3 hn
          rw[UB];exact .inr (hgos n this)
         ·obtain⟨z,hz,hz2⟩:=U6.1 hp
          rw[Ug]at hz2
          obtain⟨o',ho',rfl⟩:=hz2
          have h4:=o4 z hz
          cases o' with
          |box oty cells=>
           simp only[Own.allN]
           refine H.allNL_of λn hn=> ?_
           have:TO.has n z.2=true:=by rw[<-jC ω1 n ho'];exact hn
           have:=TO.allN_has h4 this
           rw[UB];exact .inr (hgos n this)
          |vec e sz rows=>rfl
          |map es=>rfl
          |iter s p=>rfl
          |dvec e sz rows=>rfl
          |miter m es rest cur=>
           simp only[Own.allN]
           have:TO.has m z.2=true:=by rw[<-jC ω1 m ho'];exact V8 m
           have:=TO.allN_has h4 this
           rw[UB];exact .inr (hgos m this))
        generalize hownE:(sig.objs.filterMap λp=>((S.own? (σf σ1 p.1)).bind (bh V S.len)).map λo=>(σf σ1 p.1,o))=own at hown hkeys hex
        refine⟨own,_,_,IK.weak (args':=encL V S.len args) (own1:=own) hat (λE M vs hvs=> ?_) (λE M w hw=> ?_) (λn=> ?_) (λE M w hw b hb=> ?_),λp hp=> ?_,?_⟩
        ·refine⟨by rw[hvs.1,H.renL_len,aF,aF,a4],λi c z hcz hz=> ?_⟩
         rw[H.renL_get,encL_map,Ua,Xg,Ug]at hz
         obtain⟨u0,hu0,rfl⟩:=hz
         have hi:i<args.length:=by rw[<-a4];exact(T7.1 hu0).1
         have hu:=T8 hi
         obtain⟨_,k2⟩:=a6 i _ u0 hu hu0
         have hr:=hvs.2 i c (am V S.len args[i]) hcz (by rw[encL_map,Ua,hu];rfl)
         exact(k2 σ1 sig.objs E _ M S.len ω0 c b1 (Uj.2 i1) (hTr E) hr).ren λn _=>rfl
        ·refine⟨λn o hn=> ?_,λn m o o' b hne hn hm hb=> ?_⟩
         ·obtain⟨z,hz,hz',_⟩:=hex n o hn
          exact hz' E M w (hw.ok n z hz)
         ·obtain⟨z,hz,_,f1⟩:=hex n o hn
          obtain⟨z',hz',_,f2⟩:=hex m o' hm
          exactλhb'=>hw.apart n m z z' b hne hz hz' (f1 E w b hb) (f2 E w b hb')
        ·constructor
         ·rintro⟨o,ho⟩
          obtain⟨z,hz,_⟩:=hex n o ho
          exact⟨z,hz⟩
         ·rintro⟨o,ho⟩
          have:=(hkeys n).1 (Uq (f:=(·.1)) (ba ho))
          obtain⟨p,hp,rfl⟩:=Us.1 this
          have hm:p.1∈os0.map (·.1):=by rw[b6];exact Uq hp
          obtain⟨t,ht⟩:=eh hm
          obtain⟨n',oS,q1,q2,_,x4,q4,x',q5,q6⟩:=b5 p.1 t (ba ht)
          refine⟨(x' ω0).ren (σf τ),?_⟩
          rw[σf_some q1,<-σf_some (hsub _ _ q1),dZ hfi,gf ht (q5 ω0)]
          rfl
        ·obtain⟨n,o,hn,hb⟩:=hb
         obtain⟨z,hz,_,f1⟩:=hex n o hn
         exact⟨n,z,hz,f1 E w b hb⟩
        ·rw[<-hownE]at hp
         obtain⟨q,hq,hqe⟩:=U6.1 hp
         rw[Ug]at hqe
         obtain⟨o',h1,rfl⟩:=hqe
         rw[aM];exact h1
        ·have hω:∀te:TE V.N,(∀c o,gt os c=some o->gt te.upd (σf τ c)=some (o.ren (σf τ)))->∀c,(gt os c).isSome=true->(S.app dst te).len (σf τ c)=ω1 c:=by
          intro te hte c hcs
          obtain⟨o,ho⟩:=V6.1 hcs
          rw[cD,hte c o ho,hlen1 c o ho]
          exact sH _ o
         have hkl:own.map (·.1)=sig.objs.map λp=>σf σ1 p.1:=by
          rw[<-hownE]
          have:∀l:List (Nat×OPt V.ι),(∀p∈l,∃n o,gt σ1 p.1=some n/\S.own? n=some o/\∃z,bh V S.len o=some z)->
           (l.filterMap λp=>((S.own? (σf σ1 p.1)).bind (bh V S.len)).map λo=>(σf σ1 p.1,o)).map (·.1)=l.map λp=>σf σ1 p.1:=by
           intro l
           induction l with
           |nil=>intro _;rfl
           |cons p r ih=>
            intro hl
            obtain⟨n,o,q1,q2,z,q3⟩:=hl p T_
            have e:(S.own? (σf σ1 p.1)).bind (bh V S.len)=some z:=by rw[σf_some q1,q2];exact q3
            simp only[Vx,e,Uw,Ud]
            rw[ih λq hq=>hl q (T6 _ hq)]
          exact this sig.objs hbound
         have hml:(qx (σf τ) (bo ω1 os)).map (·.1)=os.map λp=>σf τ p.1:=by
          have:∀l:List (Nat×TO V.N),(∀p∈l,∃o,bh V ω1 p.2=some o)->(qx (σf τ) (bo ω1 l)).map (·.1)=l.map λp=>σf τ p.1:=by
           intro l
           induction l with
           |nil=>intro _;rfl
           |cons p r ih=>
            intro hl
            obtain⟨o,ho⟩:=hl p T_
            have:=ih λq hq=>hl q (T6 _ hq)
            unfold qx bo at this⊢
            simp only[Vx,ho,Uw,Ud]
            rw[this]
          exact this os hsome
         refine bS ?_ ?_ ?_ ?_
         ·simp only[dH]
          refine(sw x λn hn=>hω _ (λc o ho=> ?_) n (TV.allN_has o3 hn)).symm
          simp only[dY,o7 hfi,ho,Uw]
         ·simp only[dH]
          rw[fe,hkl]
          rw[hml]
         ·simp only[dH,UV]
          refine congr (congrArg _ ?_) ?_
          ·have:∀(ω2:Nat->Nat) (l:List (Nat×TO V.N)),(∀p∈l,∃o,bh V ω1 p.2=some o)->(∀p∈l,bh V ω2 (TO.ren (σf τ) p.2)=(bh V ω1 p.2).map (Own.ren (σf τ)))->
            (qx (σf τ) (bo ω1 l)).map (λp=>(p.1,some p.2))=(l.map λp=>(σf τ p.1,TO.ren (σf τ) p.2)).map λp=>(p.1,bh V ω2 p.2):=by
            intro ω2 l
            induction l with
            |nil=>intro _ _;rfl
            |cons p r ih=>
             intro hl hl2
             obtain⟨o,ho⟩:=hl p T_
             have h2:=hl2 p T_
             have:=ih (λq hq=>hl q (T6 _ hq)) λq hq=>hl2 q (T6 _ hq)
             unfold qx bo at this⊢
             simp only[Vx,ho,Uw,Ud,h2]
             rw[this]
           refine this _ os hsome λp hp=>zh p.2 λn hn=>hω _ (λc o ho=> ?_) n (TO.allN_has (o4 p hp) hn)
           simp only[dY,o7 hfi,ho,Uw]
          ·have e:own.map (λp:Nat×Own=>(p.1,(none:Option Own)))=(own.map (·.1)).map λn=>(n,none):=by rw[UC];rfl
           rw[e,hkl,UC,UC]
           rfl
         ·simp only[dH]
          exact hkl
      ·cases h
     ·cases h
    ·cases h
   ·cases h
  ·cases h
 ·cases h
end
end Go.Tx
end
section
namespace Go.Tx
open Go.Awp
variable [Inhabited GMem]
section
variable (V:mD)
mutual
def eO{H:Type}:DataW H->Nat
 | .lit (.string bs)=>bs.length+1
 | .lit _=>1
 | .nil=>1
 | .ptr d=>eO d+1
 | .slice elems spare=>dbulkL elems+dbulkL spare+1
 | .agg parts=>dbulkL parts+1
 | .iface _ d=>eO d+1
 | .map _=>1
 | .held _=>1
def dbulkL{H:Type}:List (DataW H)->Nat
 |[]=>0
 |d::r=>eO d+dbulkL r
end
theorem mJ{H:Type}:∀l:List (DataW H),dbulkL l=(l.map eO).sum
 |[]=>by simp[dbulkL]
 |d::r=>by simp[dbulkL,mJ r]
inductive Ok:(t:Ty V.ι)->den V.N t->Prop
 |int {k:IntKind} {n:Int}:(Lit.int k n).wf=true->Ok (.int k) n
 |bool (b:Bool):Ok .bool b
 |str {s:ByteArray}:s.size<=maxLen->Ok .str s
 |sl {e:Ty V.ι} {xs:List (den V.N e)}:xs.length<=maxLen->(∀x∈xs,Ok e x)->Ok (.sl e) xs
 |st {i:V.ι} {x:V.N i}:(∀l∈V.cells i x,Ok l.t l.x)->Ok (.st i) x
inductive Bk:(t:Ty V.ι)->den V.N t->Nat->Prop
 |int {k:IntKind} {n:Int} {m:Nat}:1<=m->Bk (.int k) n m
 |bool {b:Bool} {m:Nat}:1<=m->Bk .bool b m
 |str {s:ByteArray} {m:Nat}:s.size+1<=m->Bk .str s m
 |sl {e:Ty V.ι} {xs:List (den V.N e)} {m:Nat} (ns:List Nat):ns.length=xs.length->(∀(i:Nat) (x:den V.N e) (n:Nat),xs[i]?=some x->ns[i]?=some n->Bk e x n)->ns.sum+1<=m->Bk (.sl e) xs m
 |st {i:V.ι} {x:V.N i} {m:Nat} (ns:List Nat):ns.length=(V.cells i x).length->(∀(j:Nat) (l:dh V.N) (n:Nat),(V.cells i x)[j]?=some l->ns[j]?=some n->Bk l.t l.x n)->ns.sum+1<=m->Bk (.st i) x m
def Bks(ls:List (dh V.N))(m:Nat):Prop:=
 ∃ns:List Nat,ns.length=ls.length/\(∀(j:Nat) (l:dh V.N) (n:Nat),ls[j]?=some l->ns[j]?=some n->Bk V l.t l.x n)/\ns.sum<=m
def zk:Ty V.ι->List (Ty V.ι)
 | .st i=>V.tys i
 |t=>[t]
def MP(P:Program):Nat->List Field->Option (List (Ty V.ι))
 |_,[]=>some []
 |off,f::fs=>match V.ty f.type with
  |some τ=>if f.offset=off/\P.cellsOf f.type=tsz V.sz τ then match MP P (off+tsz V.sz τ) fs with
   |some l=>some (zk V τ++l)
   |none=>none
   else none
  |none=>none
def noF:Ty V.ι->Bool
 | .fnc=>false
 | .sl e=>noF e
 |_=>true
def bi(P:Program)(t:TypeId):Ty V.ι->Prop
 | .int k=>P.underlying t=some (.int k)
 | .bool=>P.underlying t=some .bool
 | .str=>P.underlying t=some .string
 | .sl e=>∃te,P.underlying t=some (.slice te)/\V.ty te=some e/\P.cellsOf te=tsz V.sz e/\Vu 0 (tsz V.sz e)=true
 | .mp _ _=>False
 | .er=>False
 | .op _=>False
 | .fnc=>False
 | .st i=>∃fs:Array Field,P.underlying t=some (.struct fs)/\P.cellsOf t=V.sz i/\MP V P 0 fs.toList=some (V.tys i)
structure CP (P:Program):Prop where
 ty:∀t τ,V.ty t=some τ->noF V τ=true->bi V P t τ
 nof:∀i,(V.tys i).all (noF V)=true
 tys:∀i x,(V.cells i x).map (·.t)=V.tys i
 of:∀i ls,ls.map (·.t)=V.tys i->∃y,V.ofCells i ls=some y
end
section
variable {V:mD} {H0:Type} {enc:TypeId×Value->H0} {P:Program} {W:World} {spare:Nat->Bool} {held:Bool} {base:Nat}
theorem ye{t:TypeId}(hu:P.underlying t=some .string){fuel:Nat}{cs:List Value}{x:DataW H0×List MemPlace}(h:DataW.trod enc P W base spare held fuel t cs=some x):
 ∃s,cs=[.string s]/\s.size<=maxLen:=by
 cases fuel with
 |zero=>cases h
 |succ fuel=>
  unfold DataW.trod at h
  rw[hu]at h
  simp only[]at h
  split at h<;>try(rename_i h1 _;cases h1)
  all_goals try(cases h;done)
  all_goals simp_all
def kq(M:Mem)(cs:List Value)(ls:List (dh V.N)):Prop:=
 cs.length=ls.length/\∀(i:Nat) (c:Value) (l:dh V.N),cs[i]?=some c->ls[i]?=some l->c_ M c (aN V.sz V.enc l.t l.x)
theorem kq.app{M:Mem}{cs cs':List Value}{ls ls':List (dh V.N)}(h:kq M cs ls)(h':kq M cs' ls'):kq M (cs++cs') (ls++ls'):=by
 refine⟨by simp[h.1,h'.1],λi c l hc hl=> ?_⟩
 by_cases hi:i<cs.length
 ·rw[Uu hi]at hc
  rw[Uu (by rw[<-h.1];exact hi)]at hl
  exact h.2 i c l hc hl
 ·rw[Ut (by omega)]at hc
  rw[Ut (by rw[<-h.1];omega),<-h.1]at hl
  exact h'.2 _ c l hc hl
theorem Bks.app{ls ls':List (dh V.N)}{m m':Nat}(h:Bks V ls m)(h':Bks V ls' m'):Bks V (ls++ls') (m+m'):=by
 obtain⟨ns,h1,h2,h3⟩:=h
 obtain⟨ns',h1',h2',h3'⟩:=h'
 refine⟨ns++ns',by simp[h1,h1'],λj l n hl hn=> ?_,by simp;omega⟩
 by_cases hj:j<ls.length
 ·rw[Uu hj]at hl
  rw[Uu (by omega)]at hn
  exact h2 j l n hl hn
 ·rw[Ut (by omega)]at hl
  rw[Ut (by omega),h1]at hn
  exact h2' _ l n hl hn
theorem Bks.one{t:Ty V.ι}{x:den V.N t}{m:Nat}(h:Bk V t x m):Bks V [⟨t,x⟩] m:=
 ⟨[m],rfl,λj l n hl hn=>by
  cases j with
  |zero=>simp at hl hn;subst hl;subst hn;exact h
  |succ j=>simp at hl,by simp⟩
def Rd(M:Mem)(τ:Ty V.ι)(cs:List Value)(m:Nat):Prop:=
 ∃y:den V.N τ,Ok V τ y/\kq M cs (aK V τ y)/\(aK V τ y).map (·.t)=zk V τ/\(∀l∈aK V τ y,Ok V l.t l.x)/\Bk V τ y m/\Bks V (aK V τ y) m
theorem pV(F:CP V P){M:Mem}{rd:TypeId->List Value->Nat->Prop}(hrd:∀t τ cs m,V.ty t=some τ->noF V τ=true->rd t cs m->Rd (V:=V) M τ cs m){cs:List Value}:∀(fs:List Field) (ms:List Nat) (off:Nat) (l:List (Ty V.ι)),
 MP V P off fs=some l->(∀τ∈l,noF V τ=true)->ms.length=fs.length->(∀(j:Nat) (f:Field) (m:Nat),fs[j]?=some f->ms[j]?=some m->rd f.type ((cs.drop f.offset).take (P.cellsOf f.type)) m)->
 ∃(n:Nat) (ls:List (dh V.N)),ls.map (·.t)=l/\kq M ((cs.drop off).take n) ls/\(∀x∈ls,Ok V x.t x.x)/\n=ls.length/\Bks V ls ms.sum
 |[],ms,off,l,h,_,hm,_=>by
  simp[MP]at h;subst h
  exact⟨0,[],rfl,⟨rfl,λi c l hc=>by simp at hc⟩,(λx hx=>nomatch hx),rfl,[],rfl,λj l n hl=>by simp at hl,by simp⟩
 |f::fs,[],off,l,h,_,hm,_=>by simp at hm
 |f::fs,m::ms,off,l,h,hnf,hm,hf=>by
  simp only[MP]at h
  split at h
  ·rename_i τ hτ
   split at h
   ·rename_i hc
    obtain⟨ho,hsz⟩:=hc
    split at h
    ·rename_i l' hl'
     simp at h;subst h
     obtain⟨n,ls,a1,a2,a3,a4,a5⟩:=pV F hrd fs ms _ l' hl' (λτ hτ=>hnf τ (VI _ hτ)) (by simpa using hm) λj g m hg hm=>hf (j+1) g m (by simpa using hg) (by simpa using hm)
     obtain⟨y,b1,b2,b3,b4,b5,b6⟩:=hrd f.type τ _ m hτ (by cases τ<;>first|rfl|exact hnf _ (Vq _ (by simp[zk]))) (hf 0 f m rfl rfl)
     rw[ho,hsz]at b2
     refine⟨tsz V.sz τ+n,aK V τ y++ls,by simp[a1,b3],?_,λx hx=> ?_,by simp[fv,a4],by rw[List.sum_cons];exact b6.app a5⟩
     ·have e:(cs.drop off).take (tsz V.sz τ+n)=(cs.drop off).take (tsz V.sz τ)++(cs.drop (off+tsz V.sz τ)).take n:=by
       rw[List.take_add,VU]
      rw[e]
      exact b2.app a2
     ·rcases Uk.1 hx with hx|hx
      ·exact b4 x hx
      ·exact a3 x hx
    ·cases h
   ·cases h
  ·cases h
theorem vD{t:TypeId}{fs:Array Field}(hu:P.underlying t=some (.struct fs)){fuel:Nat}{cs:List Value}{x:DataW H0×List MemPlace}(h:DataW.trod enc P W base spare held (fuel+1) t cs=some x):
 cs.length=P.cellsOf t/\∃ds:List (DataW H0),x.1= .agg ds/\ds.length=fs.toList.length/\∀(i:Nat) (f:Field),fs.toList[i]?=some f->∃y,ds[i]?=some y.1/\DataW.trod enc P W base spare held fuel f.type ((cs.drop f.offset).take (P.cellsOf f.type))=some y:=by
 unfold DataW.trod at h
 rw[hu]at h
 simp only[]at h
 split at h
 ·rename_i hl
  rw[Ug]at h
  obtain⟨ys,hm,hx⟩:=h
  subst hx
  refine⟨hl,ys.map (·.1),rfl,by rw[Ub,(gH hm).1],λi f hf=> ?_⟩
  obtain⟨y,hy1,hy⟩:=(gH hm).2 i f hf
  exact⟨y,by rw[Ua,hy1];rfl,hy⟩
 ·cases h
theorem yd{t e:TypeId}(hu:P.underlying t=some (.slice e)){fuel:Nat}{cs:List Value}{x:DataW H0×List MemPlace}(h:DataW.trod enc P W base spare held (fuel+1) t cs=some x):
 (cs=[.slice none 0 0]/\x.1= .nil)\/∃a len cap,cs=[.slice (some a) len cap]/\len<=cap/\cap<=maxLen/\∃ds sp:List (DataW H0),x.1= .slice ds sp/\ds.length=len/\
   ∀i,i<len->∃row y,W.cells? base (a.add (i *P.cellsOf e)) (P.cellsOf e)=some row/\DataW.trod enc P W base spare held fuel e row=some y/\ds[i]?=some y.1:=by
 unfold DataW.trod at h
 rw[hu]at h
 simp only[]at h
 split at h
 all_goals first
  |(simp only[T9,reduceCtorEq]at *;done)
  |(left;simp only[T9]at h;exact⟨rfl,by rw[<-h]⟩)
  |(rename_i a len cap hx
    simp only[T9,TypeDesc.slice.injEq]at hx
    subst hx
    right
    split at h
    ·rename_i hc
     rw[Vp]at h
     obtain⟨ys,hm,h⟩:=h
     rw[Ug]at h
     obtain⟨rest,_,h⟩:=h
     subst h
     refine⟨a,len,cap,rfl,hc.2.1,hc.2.2,ys.map (·.1),rest.map (·.1),rfl,by rw[Ub,(gH hm).1,List.length_range],λi hi=> ?_⟩
     obtain⟨y,hy1,hy⟩:=(gH hm).2 i i (by rw[VF hi])
     rw[Vp]at hy
     obtain⟨row,h1,h2⟩:=hy
     exact⟨row,y,h1,h2,by rw[Ua,hy1];rfl⟩
    ·cases h)
  |skip
theorem lF{H:Type}(d:DataW H):1<=eO d:=by
 cases d with
 |lit l=>cases l<;>simp[eO]
 |_=>simp[eO]
theorem vC{t:TypeId}(hu:P.underlying t=some .string){fuel:Nat}{cs:List Value}{x:DataW H0×List MemPlace}(h:DataW.trod enc P W base spare held fuel t cs=some x):
 ∃s,cs=[.string s]/\s.size<=maxLen/\eO x.1=s.size+1:=by
 cases fuel with
 |zero=>cases h
 |succ fuel=>
  obtain⟨s,rfl,hs⟩:=ye hu h
  refine⟨s,rfl,hs,?_⟩
  unfold DataW.trod at h
  rw[hu]at h
  simp only[]at h
  rw[XG hs]at h
  cases h
  show eO (.lit (.string s.data.toList))=s.data.size+1
  rw[eO,Vm]
theorem oV(τ:Ty V.ι)(y:den V.N τ):c8 V.sz V.enc τ y=(aK V τ y).map λl=>aN V.sz V.enc l.t l.x:=by
 cases τ<;>first|rfl|(simp only[c8,aK];exact V.enc_cells _ _)|simp[c8,aK,aN]
theorem H9(F:CP V P):∀(fuel:Nat) (t:TypeId) (τ:Ty V.ι) (cs:List Value) (x:DataW H0×List MemPlace),V.ty t=some τ->noF V τ=true->DataW.trod enc P W base spare held fuel t cs=some x->Rd (fI W) τ cs (eO x.1):=by
 intro fuel
 induction fuel using Xa with
 |ind fuel ih=>
 intro t τ cs x hty hn h
 have hf:=F.ty t τ hty hn
 cases τ with
 |mp k v=>exact hf.elim
 |er=>exact hf.elim
 |op e=>exact hf.elim
 |fnc=>exact hf.elim
 |int k=>
  obtain⟨n,rfl,hw⟩:=H_ hf h
  refine⟨n, .int hw,⟨rfl,λi c l hc hl=> ?_⟩,rfl,λl hl=> ?_, .int (lF _), .one (.int (lF _))⟩
  ·cases i with
   |zero=>simp[aK]at hc hl;subst hc;subst hl;exact .v _
   |succ i=>simp at hc
  ·simp[aK]at hl;subst hl;exact .int hw
 |bool=>
  obtain⟨b,rfl⟩:=Fq hf h
  refine⟨b, .bool b,⟨rfl,λi c l hc hl=> ?_⟩,rfl,λl hl=> ?_, .bool (lF _), .one (.bool (lF _))⟩
  ·cases i with
   |zero=>simp[aK]at hc hl;subst hc;subst hl;exact .v _
   |succ i=>simp at hc
  ·simp[aK]at hl;subst hl;exact .bool b
 |str=>
  obtain⟨s,rfl,hs,hb⟩:=vC hf h
  refine⟨s, .str hs,⟨rfl,λi c l hc hl=> ?_⟩,rfl,λl hl=> ?_, .str (Xy hb.symm), .one (.str (Xy hb.symm))⟩
  ·cases i with
   |zero=>simp[aK]at hc hl;subst hc;subst hl;exact .v _
   |succ i=>simp at hc
  ·simp[aK]at hl;subst hl;exact .str hs
 |st i=>
  obtain⟨fs,hu,hsz,hfl⟩:=hf
  cases fuel with
  |zero=>cases h
  |succ fuel=>
   obtain⟨hl,ds,hx,hdl,hr⟩:=vD hu h
   obtain⟨n,ls,a1,a2,a3,a4,a5⟩:=pV F (M:=fI W) (rd:=λt cs m=>∃y,DataW.trod enc P W base spare held fuel t cs=some y/\m=eO y.1) (λt τ cs m hτ hn ⟨y,hy,hm⟩=>hm▸ih fuel (by omega) t τ cs y hτ hn hy) fs.toList (ds.map eO) 0 _ hfl (λτ hτ=>Uj.1 (F.nof _) τ hτ)
    (by rw[Ub,hdl])
    (λj f m hf hm=>by
      obtain⟨y,hy1,hy⟩:=hr j f hf
      rw[Ua,hy1]at hm
      exact⟨y,hy,by simpa using hm.symm⟩)
   obtain⟨y,hy⟩:=F.of i ls a1
   have hc:=V.of_cells i ls y hy
   have hn:n=cs.length:=by rw[a4,<-hc,V.len_cells,hl,hsz]
   rw[UJ,UU (by omega)]at a2
   have hdb:eO x.1=(ds.map eO).sum+1:=by rw[hx,eO,mJ]
   obtain⟨ns,c1,c2,c3⟩:=a5
   refine⟨y, .st (by rw[hc];exact a3),by simpa only[aK,hc]using a2,by simpa only[aK,hc,zk]using a1,by simpa only[aK,hc]using a3, .st ns (by rw[hc];exact c1) (by rw[hc];exact c2) (by omega),ns,by simpa only[aK,hc]using c1,by simpa only[aK,hc]using c2,by omega⟩
 |sl e=>
  obtain⟨te,hu,hte,hsz,hpos⟩:=hf
  have hpos:0<tsz V.sz e:=by simpa[VB]using hpos
  cases fuel with
  |zero=>cases h
  |succ fuel=>
   have fin:∀(c3:Value) (ys:List (den V.N e)),ys.length<=maxLen->(∀y∈ys,Ok V e y)->c_ (fI W) c3 (aN V.sz V.enc (.sl e) ys)->Bk V (.sl e) ys (eO x.1)->Rd (V:=V) (fI W) (.sl e) [c3] (eO x.1):=by
    intro c3 ys h1 h2 h3 h4
    refine⟨ys, .sl h1 h2,⟨rfl,λi c l hc hl=> ?_⟩,rfl,λl hl=> ?_,h4, .one h4⟩
    ·cases i with
     |zero=>simp[aK]at hc hl;subst hc;subst hl;exact h3
     |succ i=>simp at hc
    ·simp[aK]at hl;subst hl;exact .sl h1 h2
   rcases yd hu h with⟨h4,hx⟩|⟨a,len,cap,h4,hlc,hcm,ds,sp,hx,hdl,hr⟩
   ·subst h4
    exact fin _ [] (by simp) (λy hy=>by cases hy) (.slnil _) (.sl [] rfl (λi x n hx=>by simp at hx) (by rw[hx];simp[eO]))
   ·subst h4
    rw[hsz]at hr
    obtain⟨ys,hyl,hys⟩:=D2 (α:=den V.N e) (R:=λi y=>∃row d,W.cells? base (a.add (i *tsz V.sz e)) (tsz V.sz e)=some row/\Ok V e y/\kq (fI W) row (aK V e y)/\ds[i]?=some d/\Bk V e y (eO d)) len
     λi hi=>by
      obtain⟨row,z,g1,g2,g3⟩:=hr i hi
      obtain⟨y,b1,b2,_,_,b5,_⟩:=ih fuel (by omega) te e row z hte (by simpa[noF]using hn) g2
      exact⟨y,row,z.1,g1,b1,b2,g3,b5⟩
    have hdb:eO x.1=(ds.map eO).sum+dbulkL sp+1:=by rw[hx,eO,mJ]
    refine fin _ ys (by omega) (λy hy=> ?_) (c_.of_slice (b:=base) hpos hlc (by rw[Ub,hyl]) (λr hr'=> ?_) λi hi=> ?_) (.sl (ds.map eO) (by rw[Ub,hdl,hyl]) (λi y n hy hn=> ?_) (by omega))
    ·obtain⟨i,hi,rfl⟩:=Wn hy
     obtain⟨row,_,_,e1,_⟩:=hys i _ (T8 hi)
     exact e1
    ·obtain⟨y,_,rfl⟩:=Us.1 hr'
     rw[oV,Ub,fv]
    ·obtain⟨row,_,e0,_,e2,_⟩:=hys i (ys[i]'(by omega)) (T8 (by omega))
     refine⟨row,e0,λr hr' j c y hc hy=> ?_⟩
     rw[Ua,T8 (by omega:i<ys.length)]at hr'
     simp at hr'
     subst hr'
     rw[oV,Ua,Ug]at hy
     obtain⟨l,hl,rfl⟩:=hy
     exact e2.2 j c l hc hl
    ·obtain⟨row,d,_,_,_,e3,e4⟩:=hys i y hy
     rw[Ua,e3]at hn
     simp at hn
     subst hn
     exact e4
theorem gb{r:Reach}{t:TypeId}{cs:Array Value}(h:(∃k,P.underlying t=some (.int k))\/P.underlying t=some .bool\/P.underlying t=some .string\/∃e,P.underlying t=some (.slice e)):
 ¬Value.okWide P W r base t (.agg cs):=by
 intro hv
 unfold Value.okWide at hv
 rcases h with⟨k,h⟩|h|h|⟨e,h⟩<;>rw[h]at hv<;>simp only[Cell.okWide,Cell.ok,h]at hv
theorem E8(F:CP V P){r:Reach}{b0:Nat}{t:TypeId}{τ:Ty V.ι}{v:Value}{d:DataW H0}{p:List MemPlace}(hty:V.ty t=some τ)(hok:Value.okWide P W r b0 t v)(h:DataW.Trod enc P W base spare held t v d p)(hn:noF V τ=true:=by rfl):
 ∃y:den V.N τ,Ok V τ y/\c_ (fI W) v (aN V.sz V.enc τ y)/\Bk V τ y (eO d):=by
 obtain⟨fuel,h⟩:=h
 obtain⟨y,h1,h2,_,_,h5,_⟩:=H9 F fuel t τ _ _ hty hn h
 refine⟨y,h1,?_,h5⟩
 have hf:=F.ty t τ hty hn
 have cell:(∀cs,v≠ .agg cs)->aK V τ y=[⟨τ,y⟩]->c_ (fI W) v (aN V.sz V.enc τ y):=by
  intro hn hr
  rw[hr]at h2
  have hc:v.cells.toList=[v]:=by cases v<;>first|rfl|exact(hn _ rfl).elim
  rw[hc]at h2
  exact h2.2 0 v ⟨τ,y⟩ rfl rfl
 cases τ with
 |mp k v=>exact hf.elim
 |er=>exact hf.elim
 |op e=>exact hf.elim
 |fnc=>exact hf.elim
 |int k=>exact cell (λcs e=>by subst e;exact gb (.inl ⟨k,hf⟩) hok) rfl
 |bool=>exact cell (λcs e=>by subst e;exact gb (.inr (.inl hf)) hok) rfl
 |str=>exact cell (λcs e=>by subst e;exact gb (.inr (.inr (.inl hf))) hok) rfl
 |sl e=>
  obtain⟨te,hu,_⟩:=hf
  exact cell (λcs e=>by subst e;exact gb (.inr (.inr (.inr ⟨te,hu⟩))) hok) rfl
 |st i=>
  obtain⟨fs,hu,_,_⟩:=hf
  unfold Value.okWide at hok
  rw[hu]at hok
  obtain⟨cs,rfl,_⟩:=hok
  simp only[Value.cells]at h2
  simp only[aN]
  rw[V.enc_cells]
  refine .agg cs _ (by rw[Ub];have:=h2.1;simpa[aK]using this) λk c x hc hx=> ?_
  rw[Ua,Ug]at hx
  obtain⟨l,hl,rfl⟩:=hx
  exact h2.2 k c l (by simpa using hc) hl
theorem ti(F:CP V P){r:Reach}{b0:Nat}{t:TypeId}{τ:Ty V.ι}{v:Value}{d:DataW H0}{p:List MemPlace}(hty:V.ty t=some τ)(hok:Value.okWide P W r b0 t v)(h:DataW.Trod enc P W base spare held t v d p)(hn:noF V τ=true:=by rfl):
 ∃y:den V.N τ,Ok V τ y/\c_ (fI W) v (aN V.sz V.enc τ y):=
 let⟨y,h1,h2,_⟩:=E8 F hty hok h hn
 ⟨y,h1,h2⟩
end
end Go.Tx
end
section
namespace Go.Proofs.YtpelkenpapfadaaGreatDoor
open Go.Awp Go.Shelf
open Go.Proofs.Tryz (prog)
set_option maxRecDepth 100000
theorem N7:U8Types prog Tryz.lays197_ren:=⟨by kernel_rfl,by kernel_rfl,by kernel_rfl,by kernel_rfl⟩
theorem MH:U8Extra prog Tryz.lays197_ren:=⟨by kernel_rfl,by kernel_rfl,by kernel_rfl,by kernel_rfl,by kernel_rfl,by kernel_rfl,by kernel_rfl⟩
theorem MN:Rows.laid_unicode_utf8_first=Lib.firstData:=by kernel_rfl
theorem JH:(Rows.laid_unicode_utf8_acceptRanges:DataW Unit)=Lib.acceptData:=by kernel_rfl
theorem Sw:(Rows.laid_internal_strconv_uint64pow10:DataW Unit)=Lib.tabData .u64 Lib.pow10Tab:=by kernel_rfl
def IU:List Int:=[0,1,56,2,57,49,28,3,61,58,42,50,38,29,17,4,62,47,59,36,45,43,51,22,53,39,33,30,24,18,12,5,63,55,48,27,60,41,37,16,46,35,44,21,52,32,23,11,54,26,40,15,34,20,31,10,25,14,19,9,13,8,7,6]
theorem JQ:(Rows.laid_math_bits_deBruijn64tab:DataW Unit)=Lib.tabData .u8 IU:=by kernel_rfl
def PJ:List (String×DataW Unit):=[("math/bits.deBruijn32tab",Rows.laid_math_bits_deBruijn32tab),("math/bits.deBruijn64tab",Rows.laid_math_bits_deBruijn64tab),("internal/strconv.uint64pow10",Rows.laid_internal_strconv_uint64pow10),("unicode/utf8.acceptRanges",Rows.laid_unicode_utf8_acceptRanges),("strconv.ErrRange",Rows.laid_strconv_ErrRange),("strconv.ErrSyntax",Rows.laid_strconv_ErrSyntax),("unicode/utf8.first",Rows.laid_unicode_utf8_first)]
theorem nR{P:Program}{w:World}{name:String}{k:IntKind}{zs:List Int}{g:Nat}{t e:TypeId}{n:Nat}(hg:P.globalNamed name=some g)(hty:(P.globals[g]?).map (·.type)=some t)(ht:P.underlying t=some (.array n e))(he:P.underlying e=some (.int k))(hce:P.cellsOf e=1)(hct:P.cellsOf t=n)
 (h:Lib.VarReads P w name (Lib.tabData k zs)):Lib.TabIs P w name k zs:=by
 obtain⟨g',t',cs,fuel,p,hg',ht',hvar,hd⟩:=h
 obtain rfl:=VX (hg.symm.trans hg')
 obtain rfl:=VX (hty.symm.trans ht')
 unfold Lib.TabIs
 rw[hvar,<-Lib.cells_of_tab ht he hce hct hd]
theorem kd{P:Program}{w:World}{name nm:String}{d:DataW Unit}{g:Nat}{t:TypeId}{ms:TypeDesc}(hg:P.globalNamed name=some g)(hty:(P.globals[g]?).map (·.type)=some t)(ht:P.underlying t=some ms)(hms:∃l,ms= .interface l)
 (h:Lib.VarReads P w name (.iface nm d)):∃u v,w.cell? ⟨g,0,none⟩=some (.iface u v):=by
 obtain⟨l,rfl⟩:=hms
 obtain⟨g',t',cs,fuel,p,hg',ht',hvar,hd⟩:=h
 obtain rfl:=VX (hg.symm.trans hg')
 obtain rfl:=VX (hty.symm.trans ht')
 have hc:∃u v,cs.toList=[.iface u v]:=by
  cases fuel with
  |zero=>cases hd
  |succ fuel=>
   unfold DataW.trod at hd
   rw[ht]at hd
   simp only[]at hd
   split at hd<;>try(rename_i h1 _;cases h1)
   all_goals try(cases hd;done)
   all_goals first
    |(rename_i u v _;exact⟨u,v,by assumption⟩)
    |(simp_all;done)
 obtain⟨u,v,hc⟩:=hc
 refine⟨u,v,?_⟩
 unfold World.var? at hvar
 rw[hg]at hvar
 simp only[TU]at hvar
 split at hvar
 ·rename_i cs' _ _ hw
  cases hvar
  have:cs[0]?=some (.iface u v):=by rw[<-VA,hc];rfl
  simpa[World.cell?,hw]using this
 ·cases hvar
theorem DL{W:World}(h:laidMetH prog PJ W):GOk (fI W) W:=by
 rw[MakeChecks.laidMetH_plain _ _ _ (by kernel_rfl)]at h
 have h1:Lib.VarReads prog W "unicode/utf8.acceptRanges" Lib.acceptData:=JH▸Lib.laidMet.reads h (.tail _ (.tail _ (.tail _ (.head _))))
 have h2:Lib.VarReads prog W "unicode/utf8.first" Lib.firstData:=MN▸Lib.laidMet.reads h (.tail _ (.tail _ (.tail _ (.tail _ (.tail _ (.tail _ (.head _)))))))
 have h3:Lib.VarReads prog W "internal/strconv.uint64pow10" (Lib.tabData .u64 Lib.pow10Tab):=Sw▸Lib.laidMet.reads h (.tail _ (.tail _ (.head _)))
 have h4:=kd (P:=prog) (g:=7) (t:=85) (by kernel_rfl) (by kernel_rfl) Tryz.underlying85 ⟨_,rfl⟩ (Lib.laidMet.reads h (.tail _ (.tail _ (.tail _ (.tail _ (.head _))))))
 have h5:=kd (P:=prog) (g:=6) (t:=85) (by kernel_rfl) (by kernel_rfl) Tryz.underlying85 ⟨_,rfl⟩ (Lib.laidMet.reads h (.tail _ (.tail _ (.tail _ (.tail _ (.tail _ (.head _)))))))
 have h6:Lib.TabIs prog W "internal/strconv.uint64pow10" .u64 Lib.pow10Tab:=by
  obtain⟨g,t,cs,fuel,p,hg,ht,_,_⟩:=id h3
  exact nR (g:=0) (t:=189) (e:=171) (n:=20) (by kernel_rfl) (by kernel_rfl) (by kernel_rfl) (by kernel_rfl) (by kernel_rfl) (by kernel_rfl) h3
 have h7:W.cell? ⟨5,15,none⟩=some (.int .u8 4):=by
  have h9:Lib.VarReads prog W "math/bits.deBruijn64tab" (Lib.tabData .u8 IU):=JQ▸Lib.laidMet.reads h (.tail _ (.head _))
  have h10:=nR (P:=prog) (g:=5) (t:=217) (e:=5) (n:=64) (by kernel_rfl) (by kernel_rfl) (by kernel_rfl) (by kernel_rfl) (by kernel_rfl) (by kernel_rfl) h9
  have:=h10.cell (g:=5) (by kernel_rfl) 15 (by decide)
  exact this
 refine⟨Lm h7 (utf8Tabs_of_readsT N7 MH h2 h1) h6,λb hb=> ?_,λp hp=> ?_⟩
 ·have hb:b∈[6,7]:=hb
  simp only[Uh,W4,or_false]at hb
  rcases hb with rfl|rfl
  ·exact h5
  ·exact h4
 ·have hp:p∈[(0,20)]:=hp
  simp only[Uh,W4,or_false]at hp
  subst hp
  have hn:prog.globalNamed "internal/strconv.uint64pow10" =some 0:=by kernel_rfl
  refine⟨⟨_,h6.cell hn 0 (by rw[pT];decide)⟩,?_⟩
  unfold Lib.TabIs World.var? at h6
  rw[hn]at h6
  simp only[TU]at h6
  split at h6
  ·rename_i cs t fr hw
   cases h6
   exact⟨_,_,_,hw,by simp[pT]⟩
  ·cases h6
end Go.Proofs.YtpelkenpapfadaaGreatDoor
end
section
namespace Go.Tx
open Go.Awp
variable [Inhabited GMem]
section
variable {V:mD}
end
end Go.Tx
end
section
namespace Go.Proofs.YtpelkenpapfadaaGreatDoor.Ty
open Go.Awp
theorem mixed:Tryz.prog.follows .mixedOrders=true:=by kernel_rfl
end Go.Proofs.YtpelkenpapfadaaGreatDoor.Ty
end
section
namespace Go.Proofs.YtpelkenpapfadaaGreatDoor
open Go.Awp Go.Tx
structure aE where
 word:Int
 big:Bool
 deriving DecidableEq
noncomputable def aE.enc(x:aE):List D:=[.v (.int .i64 x.word)]++[.v (.bool x.big)]
noncomputable def aE.encd(x:aE):List DD:=[.d (.v (.int .i64 x.word))]++[.d (.v (.bool x.big))]
theorem aE.encd_toL(x:aE):DD.toL x.encd=some x.enc:=(DD.toL_app (oa _) (oa _))
structure aa where
 kind:Int
 n:Int
 flag:Bool
 parts:(List aa)
mutual
noncomputable def aa.enc:aa->List D
 |⟨a0,a1,a2,a3⟩=>[.v (.int .i64 a0)]++[.v (.int .i64 a1)]++[.v (.bool a2)]++[.sl 4 (aa.encL a3)]
noncomputable def aa.encL:List aa->List (List D)
 |[]=>[]
 |x::r=>aa.enc x::aa.encL r
end
theorem aa.encL_map:∀l:List aa,aa.encL l=l.map aa.enc
 |[]=>by simp[aa.encL]
 |x::r=>by simp[aa.encL,aa.encL_map r]
mutual
noncomputable def aa.encd:aa->List DD
 |⟨a0,a1,a2,a3⟩=>[.d (.v (.int .i64 a0))]++[.d (.v (.int .i64 a1))]++[.d (.v (.bool a2))]++[.sl 42 4 (aa.encdL a3)]
noncomputable def aa.encdL:List aa->List (List DD)
 |[]=>[]
 |x::r=>aa.encd x::aa.encdL r
end
theorem aa.encdL_map:∀l:List aa,aa.encdL l=l.map aa.encd
 |[]=>by simp[aa.encdL]
 |x::r=>by simp[aa.encdL,aa.encdL_map r]
mutual
theorem aa.encd_toL:∀x:aa,DD.toL x.encd=some x.enc
 |⟨a0,a1,a2,a3⟩=>by rw[aa.encd,aa.enc];exact(DD.toL_app (DD.toL_app (DD.toL_app (oa _) (oa _)) (oa _)) (N3 (aa.encdL_toR a3)))
theorem aa.encdL_toR:∀l:List aa,DD.toR (aa.encdL l)=some (aa.encL l)
 |[]=>by rw[aa.encdL,aa.encL];rfl
 |x::r=>by rw[aa.encdL,aa.encL];exact RT (aa.encd_toL x) (aa.encdL_toR r)
end
structure Item where
 kind:Int
 name0:ByteArray
 n:Int
 names:(List ByteArray)
 layout:aa
noncomputable def Item.enc(x:Item):List D:=[.v (.int .i64 x.kind)]++[.v (.string x.name0)]++[.v (.int .i64 x.n)]++[.sl 1 (VC (λy=>[.v (.string y)]) x.names)]++aa.enc x.layout
noncomputable def Item.encd(x:Item):List DD:=[.d (.v (.int .i64 x.kind))]++[.d (.v (.string x.name0))]++[.d (.v (.int .i64 x.n))]++[.sl 9 1 (VC (λy=>[.d (.v (.string y))]) x.names)]++aa.encd x.layout
theorem Item.encd_toL(x:Item):DD.toL x.encd=some x.enc:=(DD.toL_app (DD.toL_app (DD.toL_app (DD.toL_app (oa _) (oa _)) (oa _)) (N3 (N4 (λy=>(oa _)) _))) (aa.encd_toL _))
structure ku where
 number:Int
 text:ByteArray
noncomputable def ku.enc(x:ku):List D:=[.v (.int .i64 x.number)]++[.v (.string x.text)]
noncomputable def ku.encd(x:ku):List DD:=[.d (.v (.int .i64 x.number))]++[.d (.v (.string x.text))]
theorem ku.encd_toL(x:ku):DD.toL x.encd=some x.enc:=(DD.toL_app (oa _) (oa _))
structure bC where
 items:(List Item)
noncomputable def bC.enc(x:bC):List D:=[.sl 8 (VC (λy=>Item.enc y) x.items)]
noncomputable def bC.encd(x:bC):List DD:=[.sl 44 8 (VC (λy=>Item.encd y) x.items)]
theorem bC.encd_toL(x:bC):DD.toL x.encd=some x.enc:=(N3 (N4 (λy=>(Item.encd_toL y)) _))
structure a_ where
 size:Int
 align:Int
 deriving DecidableEq
noncomputable def a_.enc(x:a_):List D:=[.v (.int .i64 x.size)]++[.v (.int .i64 x.align)]
noncomputable def a_.encd(x:a_):List DD:=[.d (.v (.int .i64 x.size))]++[.d (.v (.int .i64 x.align))]
theorem a_.encd_toL(x:a_):DD.toL x.encd=some x.enc:=(DD.toL_app (oa _) (oa _))
structure lB where
 size:Int
 align:Int
 deriving DecidableEq
noncomputable def lB.enc(x:lB):List D:=[.v (.int .i64 x.size)]++[.v (.int .i64 x.align)]
noncomputable def lB.encd(x:lB):List DD:=[.d (.v (.int .i64 x.size))]++[.d (.v (.int .i64 x.align))]
theorem lB.encd_toL(x:lB):DD.toL x.encd=some x.enc:=(DD.toL_app (oa _) (oa _))
structure aH where
 at0:Int
 text:ByteArray
noncomputable def aH.enc(x:aH):List D:=[.v (.int .i64 x.at0)]++[.v (.string x.text)]
noncomputable def aH.encd(x:aH):List DD:=[.d (.v (.int .i64 x.at0))]++[.d (.v (.string x.text))]
theorem aH.encd_toL(x:aH):DD.toL x.encd=some x.enc:=(DD.toL_app (oa _) (oa _))
structure f6 where
 l:(List ByteArray)
 before:(List Item)
 wrong:Bool
noncomputable def f6.enc(x:f6):List D:=[.sl 1 (VC (λy=>[.v (.string y)]) x.l)]++[.sl 8 (VC (λy=>Item.enc y) x.before)]++[.v (.bool x.wrong)]
noncomputable def f6.encd(x:f6):List DD:=[.sl 9 1 (VC (λy=>[.d (.v (.string y))]) x.l)]++[.sl 44 8 (VC (λy=>Item.encd y) x.before)]++[.d (.v (.bool x.wrong))]
theorem f6.encd_toL(x:f6):DD.toL x.encd=some x.enc:=(DD.toL_app (DD.toL_app (N3 (N4 (λy=>(oa _)) _)) (N3 (N4 (λy=>(Item.encd_toL y)) _))) (oa _))
structure al where
 count:Int
 deep:Int
 large:Bool
 deriving DecidableEq
noncomputable def al.enc(x:al):List D:=[.v (.int .i64 x.count)]++[.v (.int .i64 x.deep)]++[.v (.bool x.large)]
noncomputable def al.encd(x:al):List DD:=[.d (.v (.int .i64 x.count))]++[.d (.v (.int .i64 x.deep))]++[.d (.v (.bool x.large))]
theorem al.encd_toL(x:al):DD.toL x.encd=some x.enc:=(DD.toL_app (DD.toL_app (oa _) (oa _)) (oa _))
structure bq where
 lo:Int
 hi:Int
 deriving DecidableEq
noncomputable def bq.enc(x:bq):List D:=[.v (.int .u8 x.lo)]++[.v (.int .u8 x.hi)]
noncomputable def bq.encd(x:bq):List DD:=[.d (.v (.int .u8 x.lo))]++[.d (.v (.int .u8 x.hi))]
theorem bq.encd_toL(x:bq):DD.toL x.encd=some x.enc:=(DD.toL_app (oa _) (oa _))
structure br where
 s:ByteArray
noncomputable def br.enc(x:br):List D:=[.v (.string x.s)]
noncomputable def br.encd(x:br):List DD:=[.d (.v (.string x.s))]
theorem br.encd_toL(x:br):DD.toL x.encd=some x.enc:=(oa _)
inductive SN where
 |targetT
 |layoutT
 |itemT
 |partT
 |translatorT
 |roomT
 |placeT
 |tokenT
 |readerT
 |countedT
 |acceptRangeT
 |errorStringT
 deriving DecidableEq
abbrev NN:SN->Type
 | .targetT=>aE
 | .layoutT=>aa
 | .itemT=>Item
 | .partT=>ku
 | .translatorT=>bC
 | .roomT=>a_
 | .placeT=>lB
 | .tokenT=>aH
 | .readerT=>f6
 | .countedT=>al
 | .acceptRangeT=>bq
 | .errorStringT=>br
noncomputable def szN:SN->Nat
 | .targetT=>2
 | .layoutT=>4
 | .itemT=>8
 | .partT=>2
 | .translatorT=>1
 | .roomT=>2
 | .placeT=>2
 | .tokenT=>2
 | .readerT=>3
 | .countedT=>3
 | .acceptRangeT=>2
 | .errorStringT=>1
noncomputable def TD:SN->List (Ty SN)
 | .targetT=>[(.int .i64), .bool]
 | .layoutT=>[(.int .i64),(.int .i64), .bool,(.sl (.st .layoutT))]
 | .itemT=>[(.int .i64), .str,(.int .i64),(.sl .str),(.int .i64),(.int .i64), .bool,(.sl (.st .layoutT))]
 | .partT=>[(.int .i64), .str]
 | .translatorT=>[(.sl (.st .itemT))]
 | .roomT=>[(.int .i64),(.int .i64)]
 | .placeT=>[(.int .i64),(.int .i64)]
 | .tokenT=>[(.int .i64), .str]
 | .readerT=>[(.sl .str),(.sl (.st .itemT)), .bool]
 | .countedT=>[(.int .i64),(.int .i64), .bool]
 | .acceptRangeT=>[(.int .u8),(.int .u8)]
 | .errorStringT=>[.str]
noncomputable def gz:(i:SN)->NN i->List (dh NN)
 | .targetT,x=>[⟨(.int .i64),x.word⟩,⟨.bool,x.big⟩]
 | .layoutT,x=>[⟨(.int .i64),x.kind⟩,⟨(.int .i64),x.n⟩,⟨.bool,x.flag⟩,⟨(.sl (.st .layoutT)),x.parts⟩]
 | .itemT,x=>[⟨(.int .i64),x.kind⟩,⟨.str,x.name0⟩,⟨(.int .i64),x.n⟩,⟨(.sl .str),x.names⟩,⟨(.int .i64),x.layout.kind⟩,⟨(.int .i64),x.layout.n⟩,⟨.bool,x.layout.flag⟩,⟨(.sl (.st .layoutT)),x.layout.parts⟩]
 | .partT,x=>[⟨(.int .i64),x.number⟩,⟨.str,x.text⟩]
 | .translatorT,x=>[⟨(.sl (.st .itemT)),x.items⟩]
 | .roomT,x=>[⟨(.int .i64),x.size⟩,⟨(.int .i64),x.align⟩]
 | .placeT,x=>[⟨(.int .i64),x.size⟩,⟨(.int .i64),x.align⟩]
 | .tokenT,x=>[⟨(.int .i64),x.at0⟩,⟨.str,x.text⟩]
 | .readerT,x=>[⟨(.sl .str),x.l⟩,⟨(.sl (.st .itemT)),x.before⟩,⟨.bool,x.wrong⟩]
 | .countedT,x=>[⟨(.int .i64),x.count⟩,⟨(.int .i64),x.deep⟩,⟨.bool,x.large⟩]
 | .acceptRangeT,x=>[⟨(.int .u8),x.lo⟩,⟨(.int .u8),x.hi⟩]
 | .errorStringT,x=>[⟨.str,x.s⟩]
noncomputable def GL:(i:SN)->NN i->List D
 | .targetT,x=>aE.enc x
 | .layoutT,x=>aa.enc x
 | .itemT,x=>Item.enc x
 | .partT,x=>ku.enc x
 | .translatorT,x=>bC.enc x
 | .roomT,x=>a_.enc x
 | .placeT,x=>lB.enc x
 | .tokenT,x=>aH.enc x
 | .readerT,x=>f6.enc x
 | .countedT,x=>al.enc x
 | .acceptRangeT,x=>bq.enc x
 | .errorStringT,x=>br.enc x
noncomputable def ofN:(i:SN)->List (dh NN)->Option (NN i)
 | .targetT,[⟨(.int .i64),a0⟩,⟨.bool,a1⟩]=>some ⟨a0,a1⟩
 | .layoutT,[⟨(.int .i64),a0⟩,⟨(.int .i64),a1⟩,⟨.bool,a2⟩,⟨(.sl (.st .layoutT)),a3⟩]=>some ⟨a0,a1,a2,a3⟩
 | .itemT,[⟨(.int .i64),a0⟩,⟨.str,a1⟩,⟨(.int .i64),a2⟩,⟨(.sl .str),a3⟩,⟨(.int .i64),a4⟩,⟨(.int .i64),a5⟩,⟨.bool,a6⟩,⟨(.sl (.st .layoutT)),a7⟩]=>some ⟨a0,a1,a2,a3,⟨a4,a5,a6,a7⟩⟩
 | .partT,[⟨(.int .i64),a0⟩,⟨.str,a1⟩]=>some ⟨a0,a1⟩
 | .translatorT,[⟨(.sl (.st .itemT)),a0⟩]=>some ⟨a0⟩
 | .roomT,[⟨(.int .i64),a0⟩,⟨(.int .i64),a1⟩]=>some ⟨a0,a1⟩
 | .placeT,[⟨(.int .i64),a0⟩,⟨(.int .i64),a1⟩]=>some ⟨a0,a1⟩
 | .tokenT,[⟨(.int .i64),a0⟩,⟨.str,a1⟩]=>some ⟨a0,a1⟩
 | .readerT,[⟨(.sl .str),a0⟩,⟨(.sl (.st .itemT)),a1⟩,⟨.bool,a2⟩]=>some ⟨a0,a1,a2⟩
 | .countedT,[⟨(.int .i64),a0⟩,⟨(.int .i64),a1⟩,⟨.bool,a2⟩]=>some ⟨a0,a1,a2⟩
 | .acceptRangeT,[⟨(.int .u8),a0⟩,⟨(.int .u8),a1⟩]=>some ⟨a0,a1⟩
 | .errorStringT,[⟨.str,a0⟩]=>some ⟨a0⟩
 |_,_=>none
noncomputable def tyN:TypeId->Option (Ty SN)
 |2=>some (.int .i64)
 |3=>some (.int .i64)
 |4=>some .bool
 |5=>some (.int .u8)
 |6=>some (.int .u8)
 |9=>some .str
 |10=>some .str
 |11=>some .str
 |12=>some (.int .u64)
 |21=>some (.int .i32)
 |23=>some (.sl (.st .itemT))
 |24=>some (.sl .str)
 |25=>some (.int .i64)
 |35=>some (.st .targetT)
 |40=>some (.sl (.st .layoutT))
 |42=>some (.st .layoutT)
 |44=>some (.st .itemT)
 |55=>some (.sl (.sl .str))
 |57=>some (.sl (.int .i64))
 |61=>some (.sl (.st .partT))
 |65=>some (.st .partT)
 |74=>some (.sl (.sl (.st .tokenT)))
 |77=>some (.sl (.st .tokenT))
 |81=>some (.sl (.int .u8))
 |100=>some (.st .translatorT)
 |107=>some (.st .roomT)
 |111=>some (.st .placeT)
 |122=>some (.sl .bool)
 |125=>some (.st .tokenT)
 |133=>some (.sl .fnc)
 |143=>some (.st .readerT)
 |163=>some (.st .countedT)
 |171=>some (.int .u64)
 |190=>some (.int .u32)
 |193=>some (.int .u64)
 |204=>some (.st .acceptRangeT)
 |210=>some (.int .i64)
 |227=>some (.st .errorStringT)
 |233=>some (.int .u8)
 |234=>some (.int .u8)
 |236=>some (.int .i32)
 |237=>some (.int .i32)
 |_=>none
theorem AQ(i:SN)(x:NN i):GL i x=(gz i x).map λl=>aN szN GL l.t l.x:=by
 cases i<;>cases x<;>first|(simp[GL,gz,aN,c8,tsz,szN,aE.enc,aa.enc,Item.enc,ku.enc,bC.enc,a_.enc,lB.enc,aH.enc,f6.enc,al.enc,bq.enc,br.enc,aa.encL_map];done)|(rename_i q;cases q;simp[GL,gz,aN,c8,tsz,szN,aE.enc,aa.enc,Item.enc,ku.enc,bC.enc,a_.enc,lB.enc,aH.enc,f6.enc,al.enc,bq.enc,br.enc,aa.encL_map])
theorem ET(i:SN)(ls:List (dh NN))(x:NN i)(h:ofN i ls=some x):gz i x=ls:=by
 unfold ofN at h
 split at h<;>first
  |(cases h;rfl)
  |(cases h;done)
theorem A9(i:SN)(x:NN i):(gz i x).length=szN i:=by cases i<;>rfl
theorem BD(i:SN)(x:NN i):∀l∈gz i x,l.t.cell=true:=by
 have h:(gz i x).all (λl=>l.t.cell)=true:=by cases i<;>rfl
 exact Uj.1 h
noncomputable def AR:(i:SN)->NN i->List DD
 | .targetT,x=>aE.encd x
 | .layoutT,x=>aa.encd x
 | .itemT,x=>Item.encd x
 | .partT,x=>ku.encd x
 | .translatorT,x=>bC.encd x
 | .roomT,x=>a_.encd x
 | .placeT,x=>lB.encd x
 | .tokenT,x=>aH.encd x
 | .readerT,x=>f6.encd x
 | .countedT,x=>al.encd x
 | .acceptRangeT,x=>bq.encd x
 | .errorStringT,x=>br.encd x
noncomputable def MO:SN->Bool
 | .targetT=>true
 | .layoutT=>false
 | .itemT=>false
 | .partT=>true
 | .translatorT=>false
 | .roomT=>true
 | .placeT=>true
 | .tokenT=>true
 | .readerT=>false
 | .countedT=>true
 | .acceptRangeT=>true
 | .errorStringT=>true
noncomputable def OG:Ty SN->Nat
 |(.st .itemT)=>44
 | .str=>9
 |(.st .layoutT)=>42
 |(.sl .str)=>24
 |(.int .i64)=>3
 |(.st .partT)=>65
 |(.sl (.st .tokenT))=>77
 |(.st .tokenT)=>125
 |(.int .u8)=>5
 | .bool=>4
 |_=>0
theorem xo(i:SN)(x:NN i):AR i x=(gz i x).map λl=>fD szN GL OG AR l.t l.x:=by
 cases i<;>cases x<;>first|(simp[AR,gz,fD,cy,aN,c8,OG,tsz,szN,aE.encd,aa.encd,Item.encd,ku.encd,bC.encd,a_.encd,lB.encd,aH.encd,f6.encd,al.encd,bq.encd,br.encd,aa.encdL_map];done)|(rename_i q;cases q;simp[AR,gz,fD,cy,aN,c8,OG,tsz,szN,aE.encd,aa.encd,Item.encd,ku.encd,bC.encd,a_.encd,lB.encd,aH.encd,f6.encd,al.encd,bq.encd,br.encd,aa.encdL_map])
theorem DC(i:SN)(x:NN i):DD.toL (AR i x)=some (GL i x):=by
 cases i
 ·exact aE.encd_toL x
 ·exact aa.encd_toL x
 ·exact Item.encd_toL x
 ·exact ku.encd_toL x
 ·exact bC.encd_toL x
 ·exact a_.encd_toL x
 ·exact lB.encd_toL x
 ·exact aH.encd_toL x
 ·exact f6.encd_toL x
 ·exact al.encd_toL x
 ·exact bq.encd_toL x
 ·exact br.encd_toL x
theorem xy(i:SN)(x:NN i)(h:MO i=true):∀l∈gz i x,l.t.isSl=false:=by
 have h1:(gz i x).all (λl=> !l.t.isSl)=true:=by
  revert h
  cases i<;>first
   |(intro h;cases h;done)
   |(intro _;rfl)
 intro l hl
 simpa using Uj.1 h1 l hl
noncomputable def vw:mD where
 ι:=SN
 dec:=inferInstance
 N:=NN
 sz:=szN
 tys:=TD
 cells:=gz
 ofCells:=ofN
 enc:=GL
 ty:=tyN
 enc_cells:=AQ
 of_cells:=ET
 len_cells:=A9
 one_cells:=BD
 tid:=OG
 encd:=AR
 encd_cells:=xo
 encd_toL:=DC
 flat:=MO
 flat_cells:=xy
end Go.Proofs.YtpelkenpapfadaaGreatDoor
end
section
namespace Go.Proofs.YtpelkenpapfadaaGreatDoor
open Go.Awp Go.Tx
open Go.Proofs.Tryz (prog)
set_option maxRecDepth 100000
def dD(P:Program)(t:TypeId):Array Field:=match P.underlying t with
 |some (.struct fs)=>fs
 |_=> #[]
theorem tf2:bi vw prog 2 (.int .i64):=(by kernel_rfl:prog.underlying 2=some (.int .i64))
theorem tf3:bi vw prog 3 (.int .i64):=(by kernel_rfl:prog.underlying 3=some (.int .i64))
theorem tf4:bi vw prog 4 .bool:=(by kernel_rfl:prog.underlying 4=some .bool)
theorem tf5:bi vw prog 5 (.int .u8):=(by kernel_rfl:prog.underlying 5=some (.int .u8))
theorem tf6:bi vw prog 6 (.int .u8):=(by kernel_rfl:prog.underlying 6=some (.int .u8))
theorem tf9:bi vw prog 9 .str:=(by kernel_rfl:prog.underlying 9=some .string)
theorem Ti:bi vw prog 10 .str:=(by kernel_rfl:prog.underlying 10=some .string)
theorem Tj:bi vw prog 11 .str:=(by kernel_rfl:prog.underlying 11=some .string)
theorem Tk:bi vw prog 12 (.int .u64):=(by kernel_rfl:prog.underlying 12=some (.int .u64))
theorem Tl:bi vw prog 21 (.int .i32):=(by kernel_rfl:prog.underlying 21=some (.int .i32))
theorem Tm:bi vw prog 23 (.sl (.st .itemT)):=⟨44,by kernel_rfl,by kernel_rfl,by kernel_rfl,by kernel_rfl⟩
theorem Tn:bi vw prog 24 (.sl .str):=⟨9,by kernel_rfl,by kernel_rfl,by kernel_rfl,by kernel_rfl⟩
theorem To:bi vw prog 25 (.int .i64):=(by kernel_rfl:prog.underlying 25=some (.int .i64))
theorem Tp:bi vw prog 35 (.st .targetT):=⟨dD prog 35,by kernel_rfl,by kernel_rfl,by kernel_rfl⟩
theorem Tq:bi vw prog 40 (.sl (.st .layoutT)):=⟨42,by kernel_rfl,by kernel_rfl,by kernel_rfl,by kernel_rfl⟩
theorem Ts:bi vw prog 42 (.st .layoutT):=⟨dD prog 42,by kernel_rfl,by kernel_rfl,by kernel_rfl⟩
theorem Tt:bi vw prog 44 (.st .itemT):=⟨dD prog 44,by kernel_rfl,by kernel_rfl,by kernel_rfl⟩
theorem Tu:bi vw prog 55 (.sl (.sl .str)):=⟨24,by kernel_rfl,by kernel_rfl,by kernel_rfl,by kernel_rfl⟩
theorem Tv:bi vw prog 57 (.sl (.int .i64)):=⟨3,by kernel_rfl,by kernel_rfl,by kernel_rfl,by kernel_rfl⟩
theorem Tw:bi vw prog 61 (.sl (.st .partT)):=⟨65,by kernel_rfl,by kernel_rfl,by kernel_rfl,by kernel_rfl⟩
theorem Tz:bi vw prog 65 (.st .partT):=⟨dD prog 65,by kernel_rfl,by kernel_rfl,by kernel_rfl⟩
theorem TA:bi vw prog 74 (.sl (.sl (.st .tokenT))):=⟨77,by kernel_rfl,by kernel_rfl,by kernel_rfl,by kernel_rfl⟩
theorem TB:bi vw prog 77 (.sl (.st .tokenT)):=⟨125,by kernel_rfl,by kernel_rfl,by kernel_rfl,by kernel_rfl⟩
theorem TC:bi vw prog 81 (.sl (.int .u8)):=⟨5,by kernel_rfl,by kernel_rfl,by kernel_rfl,by kernel_rfl⟩
theorem QZ:bi vw prog 100 (.st .translatorT):=⟨dD prog 100,by kernel_rfl,by kernel_rfl,by kernel_rfl⟩
theorem Q0:bi vw prog 107 (.st .roomT):=⟨dD prog 107,by kernel_rfl,by kernel_rfl,by kernel_rfl⟩
theorem Q1:bi vw prog 111 (.st .placeT):=⟨dD prog 111,by kernel_rfl,by kernel_rfl,by kernel_rfl⟩
theorem Q2:bi vw prog 122 (.sl .bool):=⟨4,by kernel_rfl,by kernel_rfl,by kernel_rfl,by kernel_rfl⟩
theorem Q3:bi vw prog 125 (.st .tokenT):=⟨dD prog 125,by kernel_rfl,by kernel_rfl,by kernel_rfl⟩
theorem Q4:bi vw prog 143 (.st .readerT):=⟨dD prog 143,by kernel_rfl,by kernel_rfl,by kernel_rfl⟩
theorem Q5:bi vw prog 163 (.st .countedT):=⟨dD prog 163,by kernel_rfl,by kernel_rfl,by kernel_rfl⟩
theorem Q6:bi vw prog 171 (.int .u64):=(by kernel_rfl:prog.underlying 171=some (.int .u64))
theorem Q7:bi vw prog 190 (.int .u32):=(by kernel_rfl:prog.underlying 190=some (.int .u32))
theorem Q8:bi vw prog 193 (.int .u64):=(by kernel_rfl:prog.underlying 193=some (.int .u64))
theorem Q9:bi vw prog 204 (.st .acceptRangeT):=⟨dD prog 204,by kernel_rfl,by kernel_rfl,by kernel_rfl⟩
theorem Q_:bi vw prog 210 (.int .i64):=(by kernel_rfl:prog.underlying 210=some (.int .i64))
theorem Ra:bi vw prog 227 (.st .errorStringT):=⟨dD prog 227,by kernel_rfl,by kernel_rfl,by kernel_rfl⟩
theorem Rb:bi vw prog 233 (.int .u8):=(by kernel_rfl:prog.underlying 233=some (.int .u8))
theorem Rc:bi vw prog 234 (.int .u8):=(by kernel_rfl:prog.underlying 234=some (.int .u8))
theorem Re:bi vw prog 236 (.int .i32):=(by kernel_rfl:prog.underlying 236=some (.int .i32))
theorem Rf:bi vw prog 237 (.int .i32):=(by kernel_rfl:prog.underlying 237=some (.int .i32))
theorem aw{ls:List (dh NN)}{t:Ty SN}{ts:List (Ty SN)}(h:ls.map (·.t)=t::ts):∃(x:den NN t) (ls':List (dh NN)),ls=⟨t,x⟩::ls'/\ls'.map (·.t)=ts:=by
 match ls,h with
 |⟨t',x⟩::r,h=>
  simp only[Ud,VM]at h
  obtain⟨h1,h2⟩:=h
  subst h1
  exact⟨x,r,rfl,h2⟩
theorem bT{ls:List (dh NN)}(h:ls.map (·.t)=[]):ls=[]:=by simpa using h
theorem facts:CP vw prog where
 ty:=λt τ h hn=>by
  have h:tyN t=some τ:=h
  unfold tyN at h
  split at h
  ·cases h;exact tf2
  ·cases h;exact tf3
  ·cases h;exact tf4
  ·cases h;exact tf5
  ·cases h;exact tf6
  ·cases h;exact tf9
  ·cases h;exact Ti
  ·cases h;exact Tj
  ·cases h;exact Tk
  ·cases h;exact Tl
  ·cases h;exact Tm
  ·cases h;exact Tn
  ·cases h;exact To
  ·cases h;exact Tp
  ·cases h;exact Tq
  ·cases h;exact Ts
  ·cases h;exact Tt
  ·cases h;exact Tu
  ·cases h;exact Tv
  ·cases h;exact Tw
  ·cases h;exact Tz
  ·cases h;exact TA
  ·cases h;exact TB
  ·cases h;exact TC
  ·cases h;exact QZ
  ·cases h;exact Q0
  ·cases h;exact Q1
  ·cases h;exact Q2
  ·cases h;exact Q3
  ·cases h;cases hn
  ·cases h;exact Q4
  ·cases h;exact Q5
  ·cases h;exact Q6
  ·cases h;exact Q7
  ·cases h;exact Q8
  ·cases h;exact Q9
  ·cases h;exact Q_
  ·cases h;exact Ra
  ·cases h;exact Rb
  ·cases h;exact Rc
  ·cases h;exact Re
  ·cases h;exact Rf
  ·cases h
 nof:=λi=>by cases i<;>rfl
 tys:=λi x=>by cases i<;>rfl
 of:=λi ls h=>by
  cases i with
  |targetT=>
   obtain⟨a0,l0,rfl,h0⟩:=aw h
   obtain⟨a1,l1,rfl,h1⟩:=aw h0
   obtain rfl:=bT h1
   exact⟨_,rfl⟩
  |layoutT=>
   obtain⟨a0,l0,rfl,h0⟩:=aw h
   obtain⟨a1,l1,rfl,h1⟩:=aw h0
   obtain⟨a2,l2,rfl,h2⟩:=aw h1
   obtain⟨a3,l3,rfl,h3⟩:=aw h2
   obtain rfl:=bT h3
   exact⟨_,rfl⟩
  |itemT=>
   obtain⟨a0,l0,rfl,h0⟩:=aw h
   obtain⟨a1,l1,rfl,h1⟩:=aw h0
   obtain⟨a2,l2,rfl,h2⟩:=aw h1
   obtain⟨a3,l3,rfl,h3⟩:=aw h2
   obtain⟨a4,l4,rfl,h4⟩:=aw h3
   obtain⟨a5,l5,rfl,h5⟩:=aw h4
   obtain⟨a6,l6,rfl,h6⟩:=aw h5
   obtain⟨a7,l7,rfl,h7⟩:=aw h6
   obtain rfl:=bT h7
   exact⟨_,rfl⟩
  |partT=>
   obtain⟨a0,l0,rfl,h0⟩:=aw h
   obtain⟨a1,l1,rfl,h1⟩:=aw h0
   obtain rfl:=bT h1
   exact⟨_,rfl⟩
  |translatorT=>
   obtain⟨a0,l0,rfl,h0⟩:=aw h
   obtain rfl:=bT h0
   exact⟨_,rfl⟩
  |roomT=>
   obtain⟨a0,l0,rfl,h0⟩:=aw h
   obtain⟨a1,l1,rfl,h1⟩:=aw h0
   obtain rfl:=bT h1
   exact⟨_,rfl⟩
  |placeT=>
   obtain⟨a0,l0,rfl,h0⟩:=aw h
   obtain⟨a1,l1,rfl,h1⟩:=aw h0
   obtain rfl:=bT h1
   exact⟨_,rfl⟩
  |tokenT=>
   obtain⟨a0,l0,rfl,h0⟩:=aw h
   obtain⟨a1,l1,rfl,h1⟩:=aw h0
   obtain rfl:=bT h1
   exact⟨_,rfl⟩
  |readerT=>
   obtain⟨a0,l0,rfl,h0⟩:=aw h
   obtain⟨a1,l1,rfl,h1⟩:=aw h0
   obtain⟨a2,l2,rfl,h2⟩:=aw h1
   obtain rfl:=bT h2
   exact⟨_,rfl⟩
  |countedT=>
   obtain⟨a0,l0,rfl,h0⟩:=aw h
   obtain⟨a1,l1,rfl,h1⟩:=aw h0
   obtain⟨a2,l2,rfl,h2⟩:=aw h1
   obtain rfl:=bT h2
   exact⟨_,rfl⟩
  |acceptRangeT=>
   obtain⟨a0,l0,rfl,h0⟩:=aw h
   obtain⟨a1,l1,rfl,h1⟩:=aw h0
   obtain rfl:=bT h1
   exact⟨_,rfl⟩
  |errorStringT=>
   obtain⟨a0,l0,rfl,h0⟩:=aw h
   obtain rfl:=bT h0
   exact⟨_,rfl⟩
end Go.Proofs.YtpelkenpapfadaaGreatDoor
end
section
namespace Go.Proofs.YtpelkenpapfadaaGreatDoor
set_option maxRecDepth 20000
mutual
def aa.depth:aa->Nat
 | .mk _ _ _ ps=>aa.depthL ps+1
def aa.depthL:List aa->Nat
 |[]=>0
 |p::r=>max (aa.depth p) (aa.depthL r)
end
mutual
def aa.all:aa->List aa
 | .mk k n f ps=> .mk k n f ps::aa.allL ps
def aa.allL:List aa->List aa
 |[]=>[]
 |p::r=>aa.all p++aa.allL r
end
theorem aa.depth_eq(l:aa):l.depth=aa.depthL l.parts+1:=by cases l;rfl
theorem aa.all_eq(l:aa):l.all=l::aa.allL l.parts:=by cases l;rfl
theorem aa.depthL_mem:∀{ps:List aa} {p:aa},p∈ps->p.depth<=aa.depthL ps
 |q::r,p,h=>by
  rw[aa.depthL]
  rcases Uh.1 h with rfl|h
  ·omega
  ·have:=aa.depthL_mem h;omega
theorem aa.depth_mem{l p:aa}(h:p∈l.parts):p.depth<l.depth:=by
 rw[l.depth_eq];have:=aa.depthL_mem h;omega
theorem aa.allL_mem{q:aa}:∀{ps:List aa} {p:aa},p∈ps->q∈p.all->q∈aa.allL ps
 |p'::r,p,h,hq=>by
  rw[aa.allL,Uk]
  rcases Uh.1 h with rfl|h
  ·exact .inl hq
  ·exact .inr (aa.allL_mem h hq)
def aa.fit(l:aa):Prop:=(-9223372036854775808<=l.kind/\l.kind<=9223372036854775807)/\(-9223372036854775808<=l.n/\l.n<=9223372036854775807)/\l.parts.length<=9223372036854775807
def aa.Fits(l:aa):Prop:=∀q∈l.all,q.fit
theorem aa.Fits.self{l:aa}(h:l.Fits):l.fit:=h l (by rw[l.all_eq];exact T_)
theorem aa.Fits.len{l:aa}(h:l.Fits):l.parts.length<=9223372036854775807:=h.self.2.2
theorem aa.Fits.part{l p:aa}(h:l.Fits)(hp:p∈l.parts):p.Fits:=λq hq=>h q (by rw[l.all_eq];exact T6 _ (aa.allL_mem hp hq))
theorem c6{x:Int}(h1: -9223372036854775808<=x)(h2:x<=9223372036854775807):IntKind.i64.wrap x=x:=by
 unfold IntKind.wrap
 simp only[IntKind.bits,IntKind.signed,U9]
 split<;>rename_i h<;>simp at h<;>omega
theorem Dx{α:Type}{l:List α}{k:Nat}(h:k<l.length):∃p,l[k]?=some p/\p∈l/\l.drop k=p::l.drop (k+1):=
 ⟨l[k],T8 h,Vk h,Vw h⟩
theorem dk{α:Type}{l:List α}{k:Nat}(h:¬k<l.length):l.drop k=[]:=Vt (by omega)
theorem bm{k n:Nat}(h:k<n)(hn:n<=9223372036854775807):IntKind.i64.wrap ((k:Int)+1)=((k+1:Nat):Int):=by rw[c6 (by omega) (by omega)];omega
def j4(l:aa):Int:=if l.kind=1 then 1 else if l.kind=2 then max l.n 0 else 0
def upS(n m:Int):Int:=(n+m-1).tdiv m *m
theorem aa.ind{P:aa->Prop}(h:∀l:aa,(∀p∈l.parts,P p)->P l):∀l,P l:=by
 have:∀(d:Nat) (l:aa),l.depth<=d->P l:=by
  intro d
  induction d with
  |zero=>intro l hl;rw[l.depth_eq]at hl;omega
  |succ d ih=>intro l hl;exact h l λp hp=>ih p (by have:=aa.depth_mem hp;omega)
 exactλl=>this l.depth l (Up _)
def zZ(n:Int):Int:=if n=0 then 0 else if n<=8 then 1 else if n<=16 then 2 else if n<=32 then 4 else 8
def far:Int:=1099511627776
def OE(xs:List Int):Int:=xs.foldl (λn x=>min far (n+min x far)) 0
theorem QY(a b:Int)(ha:0<=a)(hb:0<=b):OE [a,b]=min far (a+b):=by simp[OE,far];omega
def cX:List aa->Int
 |[]=>0
 |p::r=>j4 p+cX r
theorem f8(p:aa):0<=j4 p:=by unfold j4;repeat' split<;>omega
theorem gp:∀ps:List aa,0<=cX ps
 |[]=>by simp[cX]
 |p::r=>by have:=f8 p;have:=gp r;simp only[cX];omega
def jq(ps:List aa):Int:=ps.foldl (λn p=>min (n+min (j4 p) 1000) 100000) 0
theorem r9:∀(ps:List aa) (a b:Int),0<=a->(a=b/\a<=64\/64<a/\64<b)->
 (let x:=ps.foldl (λn p=>min (n+min (j4 p) 1000) 100000) a;let y:=b+cX ps;x=y/\x<=64\/64<x/\64<y)
 |[],a,b,ha,h=>by simpa[cX]using h
 |p::r,a,b,ha,h=>by
  have b1:=f8 p
  have:=r9 r (min (a+min (j4 p) 1000) 100000) (b+j4 p) (by omega) (by omega)
  simp only[Va,cX]at this⊢
  rw[<-Int.add_assoc];exact this
theorem BO(ps:List aa):jq ps=cX ps/\jq ps<=64\/64<jq ps/\64<cX ps:=by
 have:=r9 ps 0 0 (by omega) (by omega)
 simpa[jq]using this
mutual
def aa.cells:aa->Int
 | .mk k n _ ps=>(if k=5 then max 0 n *aa.cellsL ps else aa.cellsL ps)+1
def aa.cellsL:List aa->Int
 |[]=>0
 |p::r=>aa.cells p+aa.cellsL r
end
theorem aa.cells_eq(l:aa):l.cells=(if l.kind=5 then max 0 l.n *aa.cellsL l.parts else aa.cellsL l.parts)+1:=by cases l;rfl
theorem aa.cellsL_of{ps:List aa}(h:∀p∈ps,1<=p.cells):0<=aa.cellsL ps:=by
 induction ps with
 |nil=>simp[aa.cellsL]
 |cons p r ih=>
  have:=h p T_
  have:=ih λq hq=>h q (T6 _ hq)
  simp only[aa.cellsL];omega
theorem aa.cells_pos:∀l:aa,1<=l.cells:=by
 refine aa.ind λl ih=> ?_
 have h:=aa.cellsL_of ih
 rw[l.cells_eq]
 split
 ·have:=Xj (a:=max 0 l.n) (by omega) h
  omega
 ·omega
theorem aa.cellsL_nonneg(ps:List aa):0<=aa.cellsL ps:=aa.cellsL_of λp _=>p.cells_pos
def aa.arr(l:aa):Prop:=∀q∈l.all,q.kind=5->q.n<=1000000
theorem aa.arr.part{l p:aa}(h:l.arr)(hp:p∈l.parts):p.arr:=λq hq=>h q (by rw[l.all_eq];exact T6 _ (aa.allL_mem hp hq))
theorem aa.arr.self{l:aa}(h:l.arr):l.kind=5->l.n<=1000000:=h l (by rw[l.all_eq];exact T_)
theorem Fy{a n m:Int}(hn:0<=n)(h:0<=m)(ha:1<=a):min a (1+n *min a m)=min a (n *m+1):=by
 by_cases hm:m<=a
 ·have e:min a m=m:=by omega
  rw[e,Int.add_comm]
 ·have e:min a m=a:=by omega
  rw[e]
  by_cases h0:n=0
  ·subst h0;simp
  ·have h1:1<=n:=by omega
   have h2:a<=n *a:=by have:=WJ h1 (show 0<=a by omega);omega
   have h3:m<=n *m:=by have:=WJ h1 h;omega
   omega
theorem Ic{a n m:Int}(hn:0<=n)(h:0<=m)(ha:1<=a):min (min n a *min a m+1) a=min a (n *m+1):=by
 by_cases h0:m=0
 ·subst h0
  have:min a 0=0:=by omega
  rw[this];simp;omega
 by_cases hn':n<=a
 ·rw[Int.min_eq_left hn',<-Fy hn h ha];omega
 ·have e:min n a=a:=by omega
  rw[e]
  have h1:1<=min a m:=by omega
  have h2:a<=a *min a m:=by have:=WM h1 (show 0<=a by omega);omega
  have h3:n<=n *m:=by have:=WM (show 1<=m by omega) hn;omega
  omega
def aa.big1(l:aa):Bool:=l.kind==2&&decide (l.n>64)||l.kind==5&&decide (l.n>1000)||l.kind==7&&decide (l.n>65536)||l.kind==9&&decide (min far (cX l.parts)>64)
mutual
def aa.look:aa->Int->Int->Int->Bool->Int×Int×Bool
 | .mk k n f ps,dep,c,d,g=>
  if(g||decide (c+1>60)||decide (dep>5)||decide ((ps.length:Int)>12)||aa.big1 (.mk k n f ps))=true then(c+1,max d dep,true)
  else aa.lookL ps (dep+1) (c+1,max d dep,false)
def aa.lookL:List aa->Int->Int×Int×Bool->Int×Int×Bool
 |[],_,s=>s
 |p::r,dep,s=>aa.lookL r dep (aa.look p dep s.1 s.2.1 s.2.2)
end
theorem aa.look_eq(l:aa)(dep c d:Int)(g:Bool):l.look dep c d g=if(g||decide (c+1>60)||decide (dep>5)||decide ((l.parts.length:Int)>12)||l.big1)=true then(c+1,max d dep,true)
 else aa.lookL l.parts (dep+1) (c+1,max d dep,false):=by cases l;rfl
theorem aa.lookL_cnt{ps:List aa}(h:∀p∈ps,∀dep c d g,c<=(p.look dep c d g).1/\(p.look dep c d g).1<=c+p.all.length)(dep:Int):∀s:Int×Int×Bool,s.1<=(aa.lookL ps dep s).1/\(aa.lookL ps dep s).1<=s.1+(aa.allL ps).length:=by
 induction ps with
 |nil=>intro s;simp[aa.lookL,aa.allL]
 |cons p r ih=>
  intro s
  have h1:=h p T_ dep s.1 s.2.1 s.2.2
  have h2:=ih (λq hq=>h q (T6 _ hq)) (p.look dep s.1 s.2.1 s.2.2)
  simp only[aa.lookL,aa.allL,Uc];omega
theorem aa.look_cnt:∀(l:aa) (dep c d:Int) (g:Bool),c<=(l.look dep c d g).1/\(l.look dep c d g).1<=c+l.all.length:=by
 refine aa.ind λl ih dep c d g=> ?_
 have:=aa.lookL_cnt ih (dep+1) (c+1,max d dep,false)
 rw[l.look_eq,l.all_eq,Ue]
 split
 ·simp only[];omega
 ·simp only[]at this;omega
def pS(l:aa):Bool:=
 if l.kind=4\/l.kind=5 then(l.parts.length:Int)==1 else if l.kind=6\/l.kind=9 then true else if l.kind=8 then decide ((l.parts.length:Int)>=1)else(l.parts.length:Int)==0
def uN(k:Int):Int:=if k=2 then 64 else if k=5 then 1000 else if k=7 then 65536 else 9223372036854775807
def fz(p:aa):Bool:=p.kind==1||p.kind==2
def Nl(l:aa):Bool:=
 if l.kind=2\/l.kind=7 then decide (l.n>=1)else if l.kind=5 then decide (l.n>=0)else if l.kind=9 then l.parts.all fz&&l.n==0 else l.n==0
def aa.isS(l:aa):Bool:=decide (0<=l.kind/\l.kind<=9)&&pS l&& !(l.flag&&l.kind !=2)&&Nl l
def DQ(pred:aa->Bool):List aa->Int->Int
 |[],_=> -1
 |p::r,k=>if pred p=true then k else DQ pred r (k+1)
theorem sF(pred:aa->Bool):∀(ps:List aa) (k:Int),0<=k->decide (DQ pred ps k>=0)=ps.any pred
 |[],k,hk=>rfl
 |p::r,k,hk=>by
  rw[DQ,Wb]
  cases hp:pred p
  ·rw[XF (by decide),Ux];exact sF pred r (k+1) (by omega)
  ·rw[XG rfl,UD];simpa using hk
def aa.right(l:aa):Bool:=l.all.all aa.isS
theorem y6(f:aa->Bool):∀ps:List aa,(aa.allL ps).all f=ps.all λp=>p.all.all f
 |[]=>rfl
 |p::r=>by simp[aa.allL,y6 f r]
theorem aa.right_eq(l:aa):l.right=(l.isS&&l.parts.all aa.right):=by
 unfold aa.right
 rw[l.all_eq,Vi,y6]
def pcS(l:aa):Int:=if l.kind=5\/l.kind=4 then 1 else if l.kind=8\/l.kind=6\/l.kind=9 then l.parts.length else 0
def nbS(l:aa):Bool:=if l.kind=2\/l.kind=7 then decide (l.n>=1)else if l.kind=5 then decide (l.n>=0)else if l.kind=8 then l.n==0&&decide ((l.parts.length:Int)>=1)else l.n==0
theorem MX(l:aa)(h:0<=l.kind/\l.kind<=9):l.isS=(nbS l&& !((l.parts.length:Int) !=pcS l)&& !(l.flag&&l.kind !=2)&& !(l.kind==9&&l.parts.any λp=> !fz p)):=by
 have e:(l.parts.any λp=> !fz p)= !l.parts.all fz:=by rw[W8]
 rw[e]
 unfold aa.isS pS Nl nbS pcS
 have hk:l.kind=0\/l.kind=1\/l.kind=2\/l.kind=3\/l.kind=4\/l.kind=5\/l.kind=6\/l.kind=7\/l.kind=8\/l.kind=9:=by omega
 generalize l.kind=kind at h hk⊢
 generalize (l.parts.length:Int)=len
 generalize l.parts.all fz=ab
 generalize l.flag=fl
 generalize l.n=n
 rw[Bool.eq_iff_iff]
 rcases hk with rfl|rfl|rfl|rfl|rfl|rfl|rfl|rfl|rfl|rfl<;>cases ab<;>cases fl<;>simp<;>omega
def aa.big(l:aa):Bool:=decide ((l.parts.length:Int)>12)||l.big1
theorem D4(l:aa)(dep c d:Int):(l.look dep c d true).2.2=true:=by rw[l.look_eq];simp
theorem rR:∀(ps:List aa) (dep:Int) (s:Int×Int×Bool),s.2.2=true->(aa.lookL ps dep s).2.2=true
 |[],dep,s,h=>h
 |p::r,dep,s,h=>by
  rw[aa.lookL]
  refine rR r dep _ ?_
  rw[h];exact D4 p dep _ _
def IM(l:aa):Prop:=∀(dep c d:Int),0<=c->
 ((l.look dep c d false).2.2=false↔c+l.all.length<=60/\dep-1+l.depth<=5/\l.all.any aa.big=false)/\
 ((l.look dep c d false).2.2=false->(l.look dep c d false).1=c+l.all.length/\(l.look dep c d false).2.1=max d (dep-1+l.depth))
theorem zr:∀(ps:List aa),(∀p∈ps,IM p)->∀(dep:Int) (s:Int×Int×Bool),s.2.2=false->0<=s.1->s.1<=60->dep-1<=5->dep-1<=s.2.1->
 ((aa.lookL ps dep s).2.2=false↔s.1+(aa.allL ps).length<=60/\dep-1+aa.depthL ps<=5/\(aa.allL ps).any aa.big=false)/\
 ((aa.lookL ps dep s).2.2=false->(aa.lookL ps dep s).1=s.1+(aa.allL ps).length/\(aa.lookL ps dep s).2.1=max s.2.1 (dep-1+aa.depthL ps))
 |[],_,dep,s,hg,h0,h1,h2,h3=>by
  simp only[aa.lookL,aa.allL,aa.depthL,Uv,W7]
  refine⟨⟨λ_=>⟨by omega,by omega,trivial⟩,λ_=>hg⟩,λ_=>⟨by omega,by omega⟩⟩
 |p::r,hp,dep,s,hg,h0,h1,h2,h3=>by
  have hl:=hp p T_ dep s.1 s.2.1 h0
  simp only[aa.lookL,aa.allL,aa.depthL,Uc,List.any_append,hg]
  cases hb:(p.look dep s.1 s.2.1 false).2.2 with
  |true=>
   have hne:¬(s.1+(p.all.length:Int)<=60/\dep-1+(p.depth:Int)<=5/\p.all.any aa.big=false):=λh=>by
    have:=hl.1.2 h;rw[hb]at this;cases this
   rw[rR r dep _ hb]
   refine⟨⟨(λh=>by cases h),λh=>(hne ⟨by omega,by omega,?_⟩).elim⟩,(λh=>by cases h)⟩
   have:=h.2.2
   rw[UQ]at this
   exact this.1
  |false=>
   obtain⟨a1,a2,a3⟩:=hl.1.1 hb
   obtain⟨b1,b2⟩:=hl.2 hb
   have hr:=zr r (λq hq=>hp q (T6 _ hq)) dep (p.look dep s.1 s.2.1 false) hb (by omega) (by omega) h2 (by omega)
   rw[b1,b2]at hr
   refine⟨⟨λh=> ?_,λh=>hr.1.2 ⟨by omega,by omega,?_⟩⟩,λh=> ?_⟩
   ·obtain⟨c1,c2,c3⟩:=hr.1.1 h
    exact⟨by omega,by omega,by rw[a3,c3];rfl⟩
   ·have:=h.2.2
    rw[UQ]at this
    exact this.2
   ·obtain⟨c1,c2⟩:=hr.2 h
    exact⟨by omega,by omega⟩
theorem D3:∀l:aa,IM l:=by
 refine aa.ind λl ih dep c d hc=> ?_
 rw[l.look_eq,l.all_eq,l.depth_eq,Ue,Wb]
 by_cases h:(false||decide (c+1>60)||decide (dep>5)||decide ((l.parts.length:Int)>12)||l.big1)=true
 ·rw[XG h]
  refine⟨⟨(λh=>by cases h),λh'=> ?_⟩,(λh=>by cases h)⟩
  obtain⟨c1,c2,c3⟩:=h'
  rw[UQ]at c3
  have c4:=c3.1
  unfold aa.big at c4
  rw[UQ]at c4
  simp only[Ux,UB,XE,c4.2]at h
  have c5:¬((l.parts.length:Int)>12):=of_decide_eq_false c4.1
  rcases h with((h|h)|h)|h
  ·omega
  ·omega
  ·omega
  ·cases h
 ·rw[XF h]
  simp only[Ux,UB,XE,not_or]at h
  obtain⟨⟨⟨h1,h2⟩,h3⟩,h4⟩:=h
  have hbig:l.big=false:=by unfold aa.big;simp only[UQ,decide_eq_false_iff_not];exact⟨h3,by simpa using h4⟩
  have:=zr l.parts ih (dep+1) (c+1,max d dep,false) rfl (by simp only[];omega) (by simp only[];omega) (by omega) (by simp only[];omega)
  simp only[]at this
  rw[hbig,Ux]
  refine⟨⟨λh=> ?_,λh=>this.1.2 ⟨by omega,by omega,h.2.2⟩⟩,λh=> ?_⟩
  ·obtain⟨c1,c2,c3⟩:=this.1.1 h
   exact⟨by omega,by omega,c3⟩
  ·obtain⟨c1,c2⟩:=this.2 h
   exact⟨by omega,by omega⟩
def aa.large(l:aa):Bool:=decide (l.all.length>60)||decide (l.depth>5)||l.all.any aa.big
def jv(l:aa):Int:=if(l.large||decide (l.cells>4096))=true then 3 else if l.right=true then 0 else 1
theorem Bb(l:aa):(l.look 1 0 0 false).2.2=l.large:=by
 have:=(D3 l 1 0 0 (by omega)).1
 cases hb:(l.look 1 0 0 false).2.2 with
 |false=>
  obtain⟨a1,a2,a3⟩:=this.1 hb
  unfold aa.large
  rw[a3,decide_eq_false (by omega),decide_eq_false (by omega)];rfl
 |true=>
  cases hl:l.large with
  |true=>rfl
  |false=>
   unfold aa.large at hl
   simp only[UQ,decide_eq_false_iff_not]at hl
   have:=this.2 ⟨by omega,by omega,hl.2⟩
   rw[hb]at this;cases this
theorem tX{l:aa}(h:l.large=false):l.arr:=by
 unfold aa.large at h
 simp only[UQ]at h
 intro q hq hk
 have h1:=WY.1 h.2 q hq
 unfold aa.big aa.big1 at h1
 simp[hk]at h1
 omega
def CM(p:aa):Bool:=decide ((p.parts.length:Int)>12)||decide (p.n>uN p.kind)||(p.kind==9&&decide (jq p.parts>64))
theorem JP(p:aa)(hp:p.fit):CM p=p.big:=by
 unfold CM aa.big
 rw[Xp]
 congr 1
 unfold aa.big1 uN
 have h1:=hp.2.1.2
 have h2:=BO p.parts
 have h3:far=1099511627776:=rfl
 have h4:=gp p.parts
 by_cases k2:p.kind=2
 ·simp[k2]
 by_cases k5:p.kind=5
 ·simp[k5]
 by_cases k7:p.kind=7
 ·simp[k7]
 by_cases k9:p.kind=9
 ·simp[k9]
  rw[Bool.eq_iff_iff];simp;omega
 ·rw[beq_eq_false_iff_ne.2 k2,beq_eq_false_iff_ne.2 k5,beq_eq_false_iff_ne.2 k7,beq_eq_false_iff_ne.2 k9]
  simp[k2,k5,k7];omega
theorem aa.all_all:∀l q:aa,q∈l.all->∀r∈q.all,r∈l.all:=by
 refine aa.ind λl ih q hq r hr=> ?_
 rw[l.all_eq]at hq⊢
 rcases Uh.1 hq with rfl|hq
 ·rw[q.all_eq]at hr;exact hr
 ·refine T6 _ ?_
  have:∀ps:List aa,(∀p∈ps,∀q∈p.all,∀r∈q.all,r∈p.all)->q∈aa.allL ps->r∈aa.allL ps:=by
   intro ps
   induction ps with
   |nil=>intro _ h;simp[aa.allL]at h
   |cons p rr ih2=>
    intro hp h
    rw[aa.allL,Uk]at h⊢
    rcases h with h|h
    ·exact .inl (hp p T_ q h r hr)
    ·exact .inr (ih2 (λp' hp'=>hp p' (T6 _ hp')) h)
  exact this l.parts ih hq
theorem aa.Fits.mem{l q:aa}(hl:l.Fits)(hq:q∈l.all):q.Fits:=λr hr=>hl r (aa.all_all l q hq r hr)
def zR(s:List Int×Int×Int)(q:Int×Int):List Int×Int×Int:=(s.1++[upS s.2.1 q.2],upS s.2.1 q.2+q.1,max s.2.2 q.2)
def N2(qs:List (Int×Int)):List Int×Int×Int:=
 ((qs.foldl zR ([],0,1)).1,upS (qs.foldl zR ([],0,1)).2.1 (qs.foldl zR ([],0,1)).2.2,(qs.foldl zR ([],0,1)).2.2)
def N8(o p:Int×Int):Int×Int:=(max o.1 p.1,max o.2 p.2)
def Ga(qs:List (Int×Int)):Int×Int:=qs.foldl N8 (0,1)
def ofS(w k n:Int)(ps:List aa)(qs:List (Int×Int)):Int×Int:=
 if k=0 then(0,1)else if k=1 then(1,1)else if k=2 then(max 1 (zZ n),min (max 1 (zZ n)) w)else if k=3 then(w,w)
 else if k=4 then(upS ((qs.headD (0,1)).1+1) (qs.headD (0,1)).2,(qs.headD (0,1)).2)
 else if k=5 then(n *(qs.headD (0,1)).1,(qs.headD (0,1)).2)
 else if k=6 then(N2 qs).2
 else if k=7 then(if n<=256 then(1,1)else(2,min 2 w))
 else if k=8 then(upS ((Ga qs).1+1) (Ga qs).2,(Ga qs).2)
 else(zZ (cX ps),max 1 (min (zZ (cX ps)) w))
mutual
def aa.of(w:Int):aa->Int×Int
 | .mk k n _ ps=>ofS w k n ps (aa.ofL w ps)
def aa.ofL(w:Int):List aa->List (Int×Int)
 |[]=>[]
 |p::r=>aa.of w p::aa.ofL w r
end
structure aa.Val (w:Int) (l:aa):Prop where
 fits:l.Fits
 right:l.right=true
 big:l.all.any aa.big=false
 size:∀q∈l.all,(q.of w).1<=100000000000
theorem aa.mem_self(l:aa):l∈l.all:=by rw[l.all_eq];exact T_
structure aa.Fine (l:aa):Prop where
 fits:l.Fits
 count:l.all.length<=10000
 deep:l.depth<=10000
end Go.Proofs.YtpelkenpapfadaaGreatDoor
end
section
namespace Go.Tx
open Go.Awp
variable [Inhabited GMem]
theorem iA.pure{P:Program}{f:FuncId}{args:List H}{r:H}(hc:ew P f=true)
 (h:∀(E:Env) (M:Mem) (w:World) (vs:Array Value),GOk M w->(∀b o v,M b o=some v->w.cell? ⟨b,o,none⟩=some v)->eU E M vs args->
   Calls P f vs w λe w'=>∃v,e= .returned v/\aL E M v r/\Go.RowKit.Below w.heap.size w w'):iA P f args [] r []:=by
 refine⟨hc,λE M w vs hgm hm _ hvs=>(h E M w vs hgm hm hvs).mono ?_⟩
 rintro e w' ⟨v,rfl,hr,hb⟩
 refine⟨v,E,M,rfl,{rep:=hr,owns:=⟨λn o hn=>by simp[gt]at hn,λn m o o' b _ hn=>by simp[gt]at hn⟩,mle:=Mem.le_refl _,mem:=λb o v hv=> ?_,mnew:=λb o v hv=> .inl hv,home:=λn o b hn=>by simp[gt]at hn,frame:=λk hk _=>hb.block k hk,grows:=hb.size,os:=hb.os,tape:=hb.tape,output:=hb.output,env:=λ_ _=>rfl}⟩
 have h1:=hm b o v hv
 have hlt:=World.block_lt_of_cell? w (a:=⟨b,o,none⟩) h1
 rw[<-h1]
 exact World.cell?_of_block (a:=⟨b,o,none⟩) (hb.block b hlt)
theorem lO{E:Env}{M:Mem}{vs:Array Value}{a:H}(h:eU E M vs [a]):∃v,vs= #[v]/\aL E M v a:=by
 obtain⟨h1,h2⟩:=h
 match vs,h1 with
 |⟨[v]⟩,_=>exact⟨v,rfl,h2 0 v a rfl rfl⟩
theorem pb{E:Env}{M:Mem}{vs:Array Value}{a b:H}(h:eU E M vs [a,b]):∃v u,vs= #[v,u]/\aL E M v a/\aL E M u b:=by
 obtain⟨h1,h2⟩:=h
 match vs,h1 with
 |⟨[v,u]⟩,_=>exact⟨v,u,rfl,h2 0 v a rfl rfl,h2 1 u b rfl rfl⟩
theorem Ij{E:Env}{M:Mem}{v:Value}{xs:List ByteArray}(h:aL E M v (.d (.sl 1 (xs.map λy=>[D.v (.string y)])))):
 (xs=[]/\∃a c,v= .slice a 0 c)\/∃b off c,xs≠[]/\v= .slice (some ⟨b,off,none⟩) xs.length c/\xs.length<=c/\∀(j:Nat) x,xs[j]?=some x->M b (off+j)=some (.string x):=by
 cases h with
 |d h=>
  generalize hr:(xs.map λy=>[D.v (.string y)])=rows at h
  cases h with
  |slnil=>exact .inl ⟨by simpa using hr,none,0,rfl⟩
  |slmt a cap=>exact .inl ⟨by simpa using hr,some a,cap,rfl⟩
  |sl b off len cap _ _ c hlen hcap hsz hm hh=>
   subst hr
   rw[Ub]at hlen
   subst hlen
   by_cases he:xs=[]
   ·subst he;exact .inl ⟨rfl,_,cap,rfl⟩
   ·refine .inr ⟨b,off,cap,he,rfl,hcap,λj x hj=> ?_⟩
    have hlt:j<xs.length:=(T7.1 hj).1
    have h1:=hm j (by omega)
    have h2:=hh j 0 [D.v (.string x)] (.v (.string x)) (by simp[hj]) rfl
    simp only[WP,UE]at h2
    rw[h1]
    generalize hq:c j=q at h2
    cases h2
    rfl
theorem DP{E:Env}{M:Mem}{k k':IntKind}{a b:Int}:aL E M (.tuple #[.int k a, .int k' b]) (.tup [.d (.v (.int k a)), .d (.v (.int k' b))]):=
 .tup _ _ rfl λi c x hc hx=>by
  match i with
  |0=>simp at hc hx;subst hc;subst hx;exact .d (.v _)
  |1=>simp at hc hx;subst hc;subst hx;exact .d (.v _)
  |i+2=>simp at hc
section
open Go.Shelf Go.RowKit Go.Proofs
set_option maxHeartbeats 1000000 in
set_option maxRecDepth 100000 in
end
end Go.Tx
end
section
namespace Go.Awp
variable [Inhabited GMem]
def tS(P:Program)(f:FuncId)(args:Array Value)(w:World)(R:Ending->World->Prop):Prop:=∀u,CallsD P f args u w λe u' w'=>u'=u/\R e w'
theorem tS.mono{P:Program}{f:FuncId}{args:Array Value}{w:World}{R R':Ending->World->Prop}(h:tS P f args w R)(hr:∀e w',R e w'->R' e w'):tS P f args w R':=
 λu=>(h u).mono λe u' w' ⟨a,b⟩=>⟨a,hr e w' b⟩
def CQ(P:Program)(f:FuncId)(args:List H)(own:List (Nat×Own))(r:H)(own':List (Nat×Own)):Prop:=
 ew P f=true/\∀(E:Env) (M:Mem) (w:World) (vs:Array Value),GOk M w->(∀b o v,M b o=some v->w.cell? ⟨b,o,none⟩=some v)->CL E M w own->eU E M vs args->
  tS P f vs w λe w'=>∃v E' M',e= .returned v/\oD E M own w v r own' E' M' w'
def Aq(P:Program)(f:FuncId)(args:List H)(own:List (Nat×Own))(r:H)(own':List (Nat×Own)):Prop:=
 ew P f=true/\∀(E:Env) (M:Mem) (w:World) (vs:Array Value),GOk M w->(∀b o v,M b o=some v->w.cell? ⟨b,o,none⟩=some v)->CL E M w own->eU E M vs args->
  tS P f vs w λe w'=>∃v E' M',e= .returned v/\oD E M own w v r own' E' M' w'/\∀n,(gt own' n=none\/∃o,gt own n=some o)->E' n=E n
def LV(P:Program)(f:FuncId)(args:List H)(ω:Nat->Option Own)(k:Eff->Prop):Prop:=
 ∃own r own',Aq P f args own r own'/\(∀p∈own,ω p.1=some p.2)/\k (dH r own own')
open Classical in
theorem CQ.ren{P:Program}{f:FuncId}{args:List H}{own own':List (Nat×Own)}{r:H}(h:CQ P f args own r own')(σ:List (Nat×Nat))(hc:BI σ own r own'=true):
 Aq P f (H.renL (σf σ) args) (qx (σf σ) own) (r.ren (σf σ)) (qx (σf σ) own'):=by
 simp only[BI,Uf,Uj]at hc
 obtain⟨⟨⟨⟨c1,c2⟩,c3⟩,c4⟩,c5⟩:=hc
 have hf:=σf_inj c1
 refine⟨h.1,λE M w vs hgm hm how hvs=> ?_⟩
 refine(h.2 (λn=>E (σf σ n)) M w vs hgm hm ⟨λn o hn=> ?_,λn m o o' b hne hn hm' hb hb2=> ?_⟩ ⟨?_,λi c x hc hx=> ?_⟩).mono ?_
 ·exact(how.ok _ _ (by rw[dZ hf,hn];rfl)).unren
 ·refine how.apart (σf σ n) (σf σ m) (o.ren (σf σ)) (o'.ren (σf σ)) b (λe=>hne (hf _ _ e)) (by rw[dZ hf,hn];rfl) (by rw[dZ hf,hm'];rfl) ?_ ?_
  ·rw[Own.ren_foot];exact hb
  ·rw[Own.ren_foot];exact hb2
 ·rw[hvs.1,H.renL_len]
 ·exact(hvs.2 i c _ hc (by rw[H.renL_get,hx];rfl)).unren rfl
 rintro e w' ⟨v,E2,M2,rfl,hp⟩
 let E':Env:=λn=>if h:∃m,σf σ m=n/\m<given/\gt own' m≠none then E2 (Classical.choose h)else E n
 have hE1:∀m,given<=m\/gt own' m≠none->E' (σf σ m)=E2 m:=by
  intro m hm'
  by_cases hlt:m<given
  ·have hm2:gt own' m≠none:=by rcases hm' with h1|h1;(omega);exact h1
   have hex:∃m',σf σ m'=σf σ m/\m'<given/\gt own' m'≠none:=⟨m,rfl,hlt,hm2⟩
   simp only[E']
   rw[dif_pos hex]
   exact congrArg E2 (hf _ _ (Xk hex).1)
  ·have hex:¬∃m',σf σ m'=σf σ m/\m'<given/\gt own' m'≠none:=by
    rintro⟨m',he,hl,_⟩
    have:=hf _ _ he
    omega
   simp only[E']
   rw[dif_neg hex]
   exact(hp.env m (by omega)).symm
 have hE2:∀n,(¬∃m,σf σ m=n/\m<given/\gt own' m≠none)->E' n=E n:=λn hn=>by simp only[E'];rw[dif_neg hn]
 have hpn:∀n,(VY given n||(gt own' n).isSome)=true->given<=n\/gt own' n≠none:=by
  intro n hn
  rw[UB]at hn
  rcases hn with hn|hn
  ·exact .inl (Vg hn)
  ·exact .inr λe=>by rw[e]at hn;cases hn
 have hext:∀b,gD (λn=>E (σf σ n)) w own b->gD E w (qx (σf σ) own) b:=by
  rintro b ⟨n,o,hn,hb⟩
  exact⟨σf σ n,o.ren (σf σ),by rw[dZ hf,hn];rfl,by rw[Own.ren_foot];exact hb⟩
 have hblk:∀n o,gt own' n=some o->E' (σf σ n)=E2 n:=λn o hn=>hE1 n (.inr (by rw[hn];simp))
 refine⟨v,E',M2,rfl,{rep:=hp.rep.ren λn hn=>hE1 n (hpn n (H.allN_has c4 hn)),owns:=⟨λn o hn=> ?_,λn m o o' b hne hn hm' hb hb2=> ?_⟩,mle:=hp.mle,mem:=hp.mem,mnew:=λb o v hv=> ?_,home:=λn o b hn hb=> ?_,frame:=λk hk hx=>hp.frame k hk λh1=>hx (hext k h1),grows:=hp.grows,os:=hp.os,tape:=hp.tape,output:=hp.output,env:=λn hn=>hE2 n ?_},λn hn=>hE2 n ?_⟩
 ·obtain⟨m,o1,rfl,hg,rfl⟩:=bw hf hn
  refine(hp.owns.ok m o1 hg).ren (hblk m o1 hg) λk hk=>hE1 k (hpn k ?_)
  have:=c5 _ (ba hg)
  cases o1 with
  |box oty cells=>exact H.allNL_has this hk
  |vec e sz rows=>simp[Own.has]at hk
  |map es=>simp[Own.has]at hk
  |iter s pos=>simp[Own.has]at hk
  |dvec e sz rows=>simp[Own.has]at hk
  |miter m es rest cur=>simp only[Own.has]at hk;exact(UM hk)▸this
 ·obtain⟨n1,o1,rfl,hg1,rfl⟩:=bw hf hn
  obtain⟨m1,o2,rfl,hg2,rfl⟩:=bw hf hm'
  rw[hblk n1 o1 hg1,Own.ren_foot]at hb
  rw[hblk m1 o2 hg2,Own.ren_foot]at hb2
  exact hp.owns.apart n1 m1 _ _ b (λe=>hne (by rw[e])) hg1 hg2 hb hb2
 ·rcases hp.mnew b o v hv with h1|h1|h1
  ·exact .inl h1
  ·exact .inr (.inl (hext b h1))
  ·exact .inr (.inr h1)
 ·obtain⟨m,o1,rfl,hg,rfl⟩:=bw hf hn
  rw[hblk m o1 hg,Own.ren_foot]at hb
  rcases hp.home m o1 b hg hb with h1|h1
  ·exact .inl (hext b h1)
  ·exact .inr h1
 ·rintro⟨m,rfl,hl,hne⟩
  cases hg:gt own' m with
  |none=>exact hne hg
  |some o=>
   have:=c3 _ (ba hg)
   simp only[UB]at this
   rcases this with h1|h1
   ·have:=Vg h1;omega
   ·have:σf σ m<given:=by simpa[VB]using h1
    omega
 ·rintro⟨m,rfl,hl,hne⟩
  rcases hn with hn|⟨o,ho⟩
  ·rw[dZ hf]at hn
   cases hg:gt own' m with
   |none=>exact hne hg
   |some o=>rw[hg]at hn;cases hn
  ·obtain⟨n1,o1,he,hg,_⟩:=bw hf ho
   have:=hf _ _ he
   subst this
   have:=Vg (c2 _ (ba hg))
   simp only[]at this
   omega
end Go.Awp
namespace Go.Tx
open Go.Awp
variable [Inhabited GMem]
theorem Aq.weak{P:Program}{f:FuncId}{args args':List H}{own own1 own':List (Nat×Own)}{r:H}(h:Aq P f args own r own')
 (ha:∀E M vs,eU E M vs args'->eU E M vs args)(ho:∀E M w,CL E M w own1->CL E M w own)(hk:∀n,(∃o,gt own n=some o)↔∃o,gt own1 n=some o)
 (hf:∀E M w,CL E M w own1->∀b,gD E w own b->gD E w own1 b):Aq P f args' own1 r own':=by
 refine⟨h.1,λE M w vs hgm hm how hvs=>(h.2 E M w vs hgm hm (ho E M w how) (ha E M vs hvs)).mono ?_⟩
 have hin:∀b,gD E w own b->gD E w own1 b:=hf E M w how
 rintro e w' ⟨v,E',M',rfl,hp,hE⟩
 refine⟨v,E',M',rfl,{hp with mnew:=λb o v hv=> ?_,home:=λn o b hn hb=> ?_,frame:=λk hk hx=>hp.frame k hk λh1=>hx (hin k h1)},λn hn=>hE n ?_⟩
 ·rcases hp.mnew b o v hv with h1|h1|h1
  ·exact .inl h1
  ·exact .inr (.inl (hin b h1))
  ·exact .inr (.inr h1)
 ·rcases hp.home n o b hn hb with h1|h1
  ·exact .inl (hin b h1)
  ·exact .inr h1
 ·rcases hn with hn|hn
  ·exact .inl hn
  ·exact .inr ((hk n).2 hn)
theorem xz{P:Program}{f:FuncId}{fn:Func}{c:Code}{args:List H}{own own':List (Nat×Own)}{r:H}(hf:P.funcs[f]?=some fn)(hb:fn.body=some c)
 (hname:(fn.name != "runtime.NumGoroutine")=true)(hn:args.length<=fn.ntmps)
 (h:∀C:Ctx,C.P=P->C.N=fn.ntmps/\C.fix=[]->AWp C c ⟨gi 0 args,ko own⟩ (tT P fn.results.toList r own')):CQ P f args own r own':=by
 refine⟨by simp[ew,hf,hb,hname],λE M w vs hgm hm how hvs=> ?_⟩
 intro u;refine callsD_of_wp hf hb ?_
 let C:Ctx:=⟨P,fn.ntmps,w,M,E,gD E w own,hgm,λb ⟨n,o,hn,hb⟩=>((how.ok n o hn).block hb).2,[],[]⟩
 have hs:Sim C E M ⟨gi 0 args,ko own⟩ {tmps:=vs++VH (fn.ntmps-vs.size) undef,defers:=[]} w:=by
  have hvs1:=hvs.1
  refine{size:=by simp[C];omega,defers:=rfl,fixed:=λp hp=>(by cases hp),tmps:=λt x hx=> ?_,mem:=hm,own:=λn o ho=> ?_,apart:=λn m o o' b hne ho ho'=> ?_,home:=λn o b ho hb=> ?_,m0:=Mem.le_refl M,mnew:=λb o v hv=> .inl hv,frame:=λ_ _ _=>rfl,grows:=Up _,os:=rfl,tape:=rfl,output:=rfl,env:=λ_ _=>rfl}
  ·obtain⟨_,h2⟩:=lK args 0 t x hx
   simp only[W2]at h2
   have hlt:t<vs.size:=by have:=(T7.1 h2).1;omega
   exact⟨vs[t],by simp[V1 hlt,hlt],hvs.2 t _ x (UN hlt) h2⟩
  ·have ho':gt own n=some o:=by rw[<-bG];exact ho
   exact how.ok n o ho'
  ·have h1:gt own n=some o:=by rw[<-bG];exact ho
   have h2:gt own m=some o':=by rw[<-bG];exact ho'
   exact how.apart n m o o' b hne h1 h2
  ·have h1:gt own n=some o:=by rw[<-bG];exact ho
   exact .inl ⟨n,o,h1,hb⟩
 refine wp_mono (h C rfl ⟨rfl,rfl⟩ E M _ w hs) ?_
 rintro e a' w' ⟨S',E',M',⟨he,S'',hent,hh,hres,hle,hown⟩,hs'⟩
 obtain⟨E2,M2,hs2⟩:=hent C E' M' a' w' hs'
 obtain⟨v,hrun,hrep⟩:=tw (C:=C) hs2 hres
 have hpost:oD E M own w v r own' E2 M2 w':=
  {rep:=hle _ _ _ hrep,owns:=⟨λn o ho=>hs2.own n o (hown n o ho),λn m o o' b hne h1 h2=>hs2.apart n m o o' b hne (hown n o h1) (hown m o' h2)⟩,mle:=hs2.m0,mem:=hs2.mem,mnew:=hs2.mnew,home:=λn o b ho hb=>hs2.home n o b (hown n o ho) hb,frame:=hs2.frame,grows:=hs2.grows,os:=hs2.os,tape:=hs2.tape,output:=hs2.output,env:=hs2.env}
 rcases he with rfl|rfl
 ·exact⟨hs2.defers,v,hrun,v,E2,M2,rfl,hpost⟩
 ·exact⟨hs2.defers,v,hrun,v,E2,M2,rfl,hpost⟩
section
variable {V:mD}
def CS(P:Program)(fid:FuncId)(sig:Sig V)(F:HL V.N sig.tys->Option (HL V.N sig.rcut.tys)):Prop:=
 ∀v r x,F v=some r->pW P sig r=some x->
  CQ P fid (encL V (az sig v).len (aU sig v).1) (bo (az sig v).len (az sig v).own) (am V (bP V sig.rcut r).len x) (bo (bP V sig.rcut r).len (jb sig r))
theorem MQ{X:Xc V}{sig:Sig V}(hsh:X.sh.rcut=sig.rcut){fid:FuncId}{fn:Func}{c:Code}(hf:X.P.funcs[fid]?=some fn)(hb:fn.body=some c)(hn:fn.ntmps=X.n)(hrs:fn.results.toList=sig.rvars)
 (hname:(fn.name != "runtime.NumGoroutine")=true)(hlen:VY sig.params.length X.n=true)(hm:X.P.follows .mixedOrders=true)(hcall:ax X.P X.call)
 (hdr:dj (sig.rcut.objs.map (·.1))=true)(hl:∀C:Ctx,C.P=X.P->C.N=X.n/\Fx C X.pre->LOk C X c){v:HL V.N sig.tys}{r:HL V.N sig.rcut.tys}(h:exF X sig hsh c v=some r):
 ∀x,pW X.P sig r=some x->
  CQ X.P fid (encL V (az sig v).len (aU sig v).1) (bo (az sig v).len (az sig v).own) (am V (bP V sig.rcut r).len x) (bo (bP V sig.rcut r).len (jb sig r)):=by
 obtain⟨params,objs,rcut,rvars,keep⟩:=sig
 simp only at hsh
 subst hsh
 intro x hx
 have hargs:(aU ⟨params,objs,X.sh.rcut,rvars,keep⟩ v).1.length<=X.n:=by
  have hp:params.length<=X.n:=Vg hlen
  unfold aU
  split
  ·rename_i xs ls h1
   split
   ·simp only;rw[sk h1];exact hp
   ·simp
  ·simp
 refine xz hf hb hname (by rw[aF,hn];exact hargs) λC hP hN=> ?_
 have hent:Ent ⟨gi 0 (encL V (az ⟨params,objs,X.sh.rcut,rvars,keep⟩ v).len (aU ⟨params,objs,X.sh.rcut,rvars,keep⟩ v).1),ko (bo (az ⟨params,objs,X.sh.rcut,rvars,keep⟩ v).len (az ⟨params,objs,X.sh.rcut,rvars,keep⟩ v).own)⟩
  (aG V (az ⟨params,objs,X.sh.rcut,rvars,keep⟩ v)):=by
  refine Ent.le (λt y hy=>⟨y,?_,H.le.refl _⟩) λn o ho=>⟨o,?_,OLe.refl _⟩
  ·rw[iy];exact hy
  ·rw[aM,Vp]at ho
   obtain⟨o',ho',hoo⟩:=ho
   have:=gf (os:=(az ⟨params,objs,X.sh.rcut,rvars,keep⟩ v).own) ho' hoo
   unfold ae.own?
   rw[bG]
   exact this
 have hend:∀e σ,(e= .normal\/e= .ret)->Ent σ (aG V (bP V X.sh.rcut r))->
  tT X.P fn.results.toList (am V (bP V X.sh.rcut r).len x) (bo (bP V X.sh.rcut r).len (jb ⟨params,objs,X.sh.rcut,rvars,keep⟩ r)) e σ:=by
  intro e σ he hσ
  unfold pW at hx
  rw[Ug]at hx
  obtain⟨vs,hvs,hone⟩:=hx
  obtain⟨hs,g1,g2,g3⟩:=jO hvs
  have hh:∃y,Ia X.P (aG V (bP V X.sh.rcut r)) fn.results.toList=some y/\H.le y (am V (bP V X.sh.rcut r).len x):=by
   rw[hrs]
   unfold Ia
   rw[g1]
   cases vs with
   |nil=>
    have:hs=[]:=Uz (by simpa using g2)
    subst this;subst hone
    exact⟨.tup [],rfl,by simp only[K7,am,encL];exact H.le.refl _⟩
   |cons a l=>
    cases l with
    |nil=>
     cases hs with
     |nil=>simp at g2
     |cons y l'=>
      have:l'=[]:=Uz (by simpa using g2)
      subst this;subst hone
      obtain⟨z,z1,z2⟩:=g3 0 a rfl
      simp at z1;subst z1
      exact⟨y,rfl,z2⟩
    |cons b l=>
     cases hs with
     |nil=>simp at g2
     |cons y l'=>
      cases l' with
      |nil=>simp at g2
      |cons y2 l2=>
       subst hone
       refine⟨.tup (y::y2::l2),rfl,?_⟩
       simp only[K7,am]
       refine vS (by rw[aF];exact g2) λi w hw=> ?_
       rw[encL_map,Ua,Ug]at hw
       obtain⟨u,hu,rfl⟩:=hw
       exact g3 i u hu
  obtain⟨y,hy1,hy2⟩:=hh
  refine⟨he,_,hσ,y,hy1,hy2,λn o ho=> ?_⟩
  obtain⟨o',h1,h2⟩:=cz ho
  have h1:(n,o')∈(bP V X.sh.rcut r).own:=(Wq.1 h1).1
  have:=hG (kA X.sh.rcut _ hdr) h1
  rw[aM]
  unfold TS.own?
  unfold bP at *
  rw[this]
  exact h2
 refine .ent hent (g7 hP ⟨by rw[hN.1,hn],λp hp=>(by rw[hN.2]at hp;cases hp)⟩ hm hcall c _ _ _ _ _ r _ (hl C hP ⟨by rw[hN.1,hn],λp hp=>(by rw[hN.2]at hp;cases hp)⟩) h ⟨λS σ hk he=> ?_,λid S σ _ hk he=>(by cases hk),λl S σ hk he=>(by cases hk),λw σ hk he=> ?_⟩)
 ·exact hend _ σ (.inl rfl) (Ent.trans he (dz hk))
 ·have:w=r:=by simpa using hk
  subst this
  exact hend _ σ (.inr rfl) he
theorem xi{P:Program}{fid:Nat}{sig:Sig V}{F:HL V.N sig.tys->Option (HL V.N sig.rcut.tys)}(hF:CS P fid sig F){A:Type}{args:List (TV V.N)}{S:TS V.N}{dst:Option Tmp}
 {k:TE V.N->Option A}{r:A}(h:eN P sig F A args S k=some r):
 ∃te,k te=some r/\good S te/\LV P fid (encL V S.len args) (aG V S).own? λe'=>ELe true e' (gm (S.app dst te).len te):=by
 unfold eN at h
 split at h
 ·rename_i σ0 l0 h0
  split at h
  ·rename_i σ1 l1 h1
   split at h
   ·rename_i hin
    split at h
    ·rename_i v hv
     obtain⟨y,hy,h⟩:=bA h
     split at h
     ·rename_i x hx
      split at h
      ·rename_i hout
       obtain⟨h,hlens⟩:=kY h
       have hc:=hF v y x hy hx
       have hls:=ql hv
       obtain⟨a1,a2,a3,xs0,a4,a5,a6⟩:=gK h0
       obtain⟨b1,b2,os0,b3,b4,b5,b6⟩:=bX h1
       have hst:aU sig v=(xs0,os0):=by
        unfold aU
        rw[hls,a5 l1]
        simp only[b4]
       have hS:(az sig v).own=os0:=by unfold az;rw[hst]
       rw[hst,hS]at hc
       have hlen0:∀c o,gt os0 c=some o->(az sig v).len c=TO.len (some o):=by
        intro c o ho
        unfold TS.len TS.own?
        rw[hS,ho]
       generalize (az sig v).len=ω0 at hc hlen0
       generalize hos:jb sig y=os at h hout hc hlens
       have hlen1:∀c o,gt os c=some o->(bP V sig.rcut y).len c=TO.len (some o):=by
        intro c o ho
        rw[<-hos]at ho
        have:=lJ (λn=>sig.keep.contains n) (bP V sig.rcut y).own c o ho
        unfold TS.len TS.own?
        rw[this]
       generalize (bP V sig.rcut y).len=ω1 at hc hlen1
       generalize hτ:eM (80000+S.own.length) σ1 (os.map (·.1))=τ at h hout hlens
       have hsub:∀c n,gt σ1 c=some n->gt τ c=some n:=λc n hcn=>by rw[<-hτ];exact gX hcn
       simp only[xj,Uf,Uj]at hout
       obtain⟨⟨⟨⟨⟨o1,o2⟩,o3⟩,o4⟩,o5⟩,o6⟩:=hout
       simp only[Ds,Uf,Uj]at hin
       obtain⟨⟨i1,i2⟩,i3⟩:=hin
       have hfi:=σf_inj o1
       have hbound:∀p∈sig.objs,∃n o,gt σ1 p.1=some n/\S.own? n=some o/\∃z,bh V S.len o=some z:=by
        intro p hp
        have:p.1∈os0.map (·.1):=by rw[b6];exact Uq hp
        obtain⟨q,hq,hqe⟩:=Us.1 this
        obtain⟨n,o,q1,q2,_,z,q3,_⟩:=b5 q.1 q.2 hq
        exact⟨n,o,by rw[<-hqe];exact q1,q2,_,q3 S.len⟩
       have hTr:∀E:Env,Tr σ1 sig.objs E (λc=>E (σf τ c)) S.len ω0:=λE=>by
        refine⟨λc n hcn=>by rw[σf_some (hsub c n hcn)],λc n hc' hcn=> ?_⟩
        rw[Vl]at hc'
        obtain⟨p,hp,hpn⟩:=hc'
        have hpn:p.1=c:=by simpa using hpn
        have hm:c∈os0.map (·.1):=by rw[b6,<-hpn];exact Uq hp
        obtain⟨o,ho⟩:=eh hm
        obtain⟨n',o',q1,q2,q3,_⟩:=b5 c o (ba ho)
        rw[hcn]at q1;cases q1
        rw[hlen0 c o ho,q3];unfold TS.len;rw[q2]
       have hob':∀p∈sig.objs,match p.2 with| .box _ ps=>ps.all (vU V sig.objs)=true|_=>True:=by
        intro p hp
        have:=i2 p hp
        cases hq:p.2 with
        |box oty ps=>rw[hq]at this;simpa using this
        |st i=>trivial
        |vec te e=>trivial
        |dvec te e out=>trivial
        |map tk tv=>trivial
        |iter=>trivial
        |miter m k v=>trivial
       have hown:∀n o,gt (sig.objs.filterMap λp=>((S.own? (σf σ1 p.1)).bind (bh V S.len)).map λo=>(σf σ1 p.1,o)) n=some o->(S.own? n).bind (bh V S.len)=some o:=by
        intro n o hn
        obtain⟨p,hp,hpe⟩:=U6.1 (ba hn)
        rw[Ug]at hpe
        obtain⟨o',h1,h2⟩:=hpe
        simp only[Uy]at h2
        obtain⟨rfl,rfl⟩:=h2
        exact h1
       have hkeys:∀n,n∈(sig.objs.filterMap λp=>((S.own? (σf σ1 p.1)).bind (bh V S.len)).map λo=>(σf σ1 p.1,o)).map (·.1)↔n∈sig.objs.map λp=>σf σ1 p.1:=by
        intro n
        constructor
        ·intro hn
         obtain⟨q,hq,rfl⟩:=Us.1 hn
         obtain⟨p,hp,hpe⟩:=U6.1 hq
         rw[Ug]at hpe
         obtain⟨o',h1,h2⟩:=hpe
         rw[<-h2]
         exact Uq (f:=λp=>σf σ1 p.1) hp
        ·intro hn
         obtain⟨p,hp,rfl⟩:=Us.1 hn
         obtain⟨n,o,q1,q2,z,q3⟩:=hbound p hp
         refine Us.2 ⟨(σf σ1 p.1,z),U6.2 ⟨p,hp,?_⟩,rfl⟩
         rw[σf_some q1,q2]
         simp[q3]
       have hex:∀n o,gt (qx (σf τ) (bo ω0 os0)) n=some o->∃z,(gt (sig.objs.filterMap λp=>((S.own? (σf σ1 p.1)).bind (bh V S.len)).map λo=>(σf σ1 p.1,o)) n=some z)/\(∀E M w,aY E M w n z->aY E M w n o)/\∀(E:Env) w b,o.foot w (E n) b->z.foot w (E n) b:=by
        intro n o hn
        obtain⟨c,o1,rfl,hg,rfl⟩:=bw hfi hn
        obtain⟨t,ht,hto⟩:=cz hg
        obtain⟨n',oS,q1,q2,_,x4,q4,x',q5,q6,q7⟩:=b5 c t ht
        rw[q5]at hto
        simp only[T9]at hto;subst hto
        have e:σf τ c=n':=σf_some (hsub _ _ q1)
        have hck:c∈sig.objs.map (·.1):=by rw[<-b6];exact Uq (f:=(·.1)) ht
        obtain⟨p,hp,hpc⟩:=Us.1 hck
        have hk':=(hkeys n').2 (Us.2 ⟨p,hp,by rw[hpc];exact σf_some q1⟩)
        obtain⟨z,hz⟩:=eh hk'
        have hz':=hown _ _ hz
        rw[q2]at hz'
        simp only[TU,q4,T9]at hz'
        rw[e]
        refine⟨z,hz,λE M w hw=> ?_,λE w b hb=> ?_⟩
        ·rw[<-hz']at hw
         have:=(q6 σ1 sig.objs E _ M w S.len ω0 (Sub.refl _) hob' (hTr E) hw).ren (E':=E) (f:=σf τ) rfl λm _=>rfl
         rw[e]at this
         exact this
        ·rw[Own.ren_foot]at hb
         rw[<-hz']
         exact q7 E (λ_=>E n') w S.len ω0 b rfl hb
       have hsome:∀p∈os,∃o,bh V ω1 p.2=some o:=by
        intro p hp
        have:=o4 p hp
        cases hq:p.2 with
        |box oty cells=>exact⟨_,rfl⟩
        |bst i x=>exact⟨_,rfl⟩
        |vec te e xs=>exact⟨_,rfl⟩
        |dvec te e xs=>exact⟨_,rfl⟩
        |pvec te e xs=>exact⟨_,rfl⟩
        |map tk tv es=>exact⟨_,rfl⟩
        |iter s p=>exact⟨_,rfl⟩
        |miter m k v es rest cur=>exact⟨_,rfl⟩
        |gone l=>rw[hq]at this;simp[TO.allN]at this
       have hgos:∀n,(gt os n).isSome=true->(gt (bo ω1 os) n).isSome=true:=by
        intro n hn
        obtain⟨o,ho⟩:=V6.1 hn
        obtain⟨z,hz⟩:=hsome _ (ba ho)
        rw[gf ho hz];rfl
       refine⟨_,h,?_,?_⟩
       ·intro m o hm
        simp only[dY]at hm
        split at hm
        ·rename_i o' hq
         simp only[T9]at hm;subst hm
         obtain⟨p,hp,hpe⟩:=Us.1 (ba hq)
         simp only[Uy]at hpe
         obtain⟨rfl,rfl⟩:=hpe
         have h5:=o5 p hp
         rw[UB]at h5
         by_cases hpk:zn p.1 (sig.objs.map (·.1))=true
         ·right
          rcases h5 with h5|h5
          ·rw[hpk]at h5;cases h5
          ·rw[sH]
           cases hpp:p.2 with
           |box oty cells=>rw[hpp]at h5;simp only[tD]at h5;exact(UM h5).symm
           |bst i x=>rw[hpp]at h5;simp only[tD]at h5;exact(UM h5).symm
           |vec te e xs=>
            exact hlens _ (de (.inl ⟨te,e,xs,rfl⟩) hpk (by rw[<-hpp];exact hp))
           |dvec te e xs=>
            exact hlens _ (de (.inr (.inl ⟨te,e,xs,rfl⟩)) hpk (by rw[<-hpp];exact hp))
           |pvec te e xs=>
            exact hlens _ (de (.inr (.inr ⟨te,e,xs,rfl⟩)) hpk (by rw[<-hpp];exact hp))
           |map tk tv es=>rw[hpp]at h5;simp only[tD]at h5;exact(UM h5).symm
           |iter s p=>rw[hpp]at h5;simp only[tD]at h5;exact(UM h5).symm
           |miter m k v es rest cur=>rw[hpp]at h5;cases h5
           |gone l=>rw[hpp]at h5;cases h5
         ·left
          refine oq (Us.2 ⟨p,hp,rfl⟩) λhmem=>hpk (jG.2 ?_)
          obtain⟨q,hq',hqe⟩:=Us.1 hmem
          obtain⟨n,o,q1,_⟩:=hbound q hq'
          rw[σf_some q1,<-σf_some (hsub _ _ q1)]at hqe
          rw[<-hfi _ _ hqe]
          exact Uq (f:=(·.1)) hq'
        ·right
         obtain⟨q,hq',hqe⟩:=Us.1 (ba hm)
         simp only[Uy]at hqe
         obtain⟨rfl,rfl⟩:=hqe
         rfl
       ·have hat:=hc.ren τ (by
         simp only[BI,Uf,Uj]
         refine⟨⟨⟨⟨o1,λp hp=> ?_⟩,λp hp=> ?_⟩,?_⟩,λp hp=> ?_⟩
         ·obtain⟨z,hz,hz2⟩:=U6.1 hp
          rw[Ug]at hz2
          obtain⟨o',_,rfl⟩:=hz2
          have:z.1∈sig.objs.map (·.1):=by rw[<-b6];exact Uq (f:=(·.1)) hz
          obtain⟨q,hq,hqe⟩:=Us.1 this
          have:=i3 q hq
          rw[hqe]at this
          exact this
         ·obtain⟨z,hz,hz2⟩:=U6.1 hp
          rw[Ug]at hz2
          obtain⟨o',_,rfl⟩:=hz2
          exact o2 z hz
         ·refine H.allN_of λn hn=> ?_
          rw[g6]at hn
          have:=TV.allN_has o3 hn
          rw[UB];exact .inr (hgos n this)
         ·obtain⟨z,hz,hz2⟩:=U6.1 hp
          rw[Ug]at hz2
          obtain⟨o',ho',rfl⟩:=hz2
          have h4:=o4 z hz
          cases o' with
          |box oty cells=>
           simp only[Own.allN]
           refine H.allNL_of λn hn=> ?_
           have:TO.has n z.2=true:=by rw[<-jC ω1 n ho'];exact hn
           have:=TO.allN_has h4 this
           rw[UB];exact .inr (hgos n this)
          |vec e sz rows=>rfl
          |map es=>rfl
          |iter s p=>rfl
          |dvec e sz rows=>rfl
          |miter m es rest cur=>
           simp only[Own.allN]
           have:TO.has m z.2=true:=by rw[<-jC ω1 m ho'];exact V8 m
           have:=TO.allN_has h4 this
           rw[UB];exact .inr (hgos m this))
        generalize hownE:(sig.objs.filterMap λp=>((S.own? (σf σ1 p.1)).bind (bh V S.len)).map λo=>(σf σ1 p.1,o))=own at hown hkeys hex
        refine⟨own,_,_,Aq.weak (args':=encL V S.len args) (own1:=own) hat (λE M vs hvs=> ?_) (λE M w hw=> ?_) (λn=> ?_) (λE M w hw b hb=> ?_),λp hp=> ?_,?_⟩
        ·refine⟨by rw[hvs.1,H.renL_len,aF,aF,a4],λi c z hcz hz=> ?_⟩
         rw[H.renL_get,encL_map,Ua,Xg,Ug]at hz
         obtain⟨u0,hu0,rfl⟩:=hz
         have hi:i<args.length:=by rw[<-a4];exact(T7.1 hu0).1
         have hu:=T8 hi
         obtain⟨_,k2⟩:=a6 i _ u0 hu hu0
         have hr:=hvs.2 i c (am V S.len args[i]) hcz (by rw[encL_map,Ua,hu];rfl)
         exact(k2 σ1 sig.objs E _ M S.len ω0 c b1 (Uj.2 i1) (hTr E) hr).ren λn _=>rfl
        ·refine⟨λn o hn=> ?_,λn m o o' b hne hn hm hb=> ?_⟩
         ·obtain⟨z,hz,hz',_⟩:=hex n o hn
          exact hz' E M w (hw.ok n z hz)
         ·obtain⟨z,hz,_,f1⟩:=hex n o hn
          obtain⟨z',hz',_,f2⟩:=hex m o' hm
          exactλhb'=>hw.apart n m z z' b hne hz hz' (f1 E w b hb) (f2 E w b hb')
        ·constructor
         ·rintro⟨o,ho⟩
          obtain⟨z,hz,_⟩:=hex n o ho
          exact⟨z,hz⟩
         ·rintro⟨o,ho⟩
          have:=(hkeys n).1 (Uq (f:=(·.1)) (ba ho))
          obtain⟨p,hp,rfl⟩:=Us.1 this
          have hm:p.1∈os0.map (·.1):=by rw[b6];exact Uq hp
          obtain⟨t,ht⟩:=eh hm
          obtain⟨n',oS,q1,q2,_,x4,q4,x',q5,q6⟩:=b5 p.1 t (ba ht)
          refine⟨(x' ω0).ren (σf τ),?_⟩
          rw[σf_some q1,<-σf_some (hsub _ _ q1),dZ hfi,gf ht (q5 ω0)]
          rfl
        ·obtain⟨n,o,hn,hb⟩:=hb
         obtain⟨z,hz,_,f1⟩:=hex n o hn
         exact⟨n,z,hz,f1 E w b hb⟩
        ·rw[<-hownE]at hp
         obtain⟨q,hq,hqe⟩:=U6.1 hp
         rw[Ug]at hqe
         obtain⟨o',h1,rfl⟩:=hqe
         rw[aM];exact h1
        ·have hω:∀te:TE V.N,(∀c o,gt os c=some o->gt te.upd (σf τ c)=some (o.ren (σf τ)))->∀c,(gt os c).isSome=true->(S.app dst te).len (σf τ c)=ω1 c:=by
          intro te hte c hcs
          obtain⟨o,ho⟩:=V6.1 hcs
          rw[cD,hte c o ho,hlen1 c o ho]
          exact sH _ o
         have hkl:own.map (·.1)=sig.objs.map λp=>σf σ1 p.1:=by
          rw[<-hownE]
          have:∀l:List (Nat×OPt V.ι),(∀p∈l,∃n o,gt σ1 p.1=some n/\S.own? n=some o/\∃z,bh V S.len o=some z)->
           (l.filterMap λp=>((S.own? (σf σ1 p.1)).bind (bh V S.len)).map λo=>(σf σ1 p.1,o)).map (·.1)=l.map λp=>σf σ1 p.1:=by
           intro l
           induction l with
           |nil=>intro _;rfl
           |cons p r ih=>
            intro hl
            obtain⟨n,o,q1,q2,z,q3⟩:=hl p T_
            have e:(S.own? (σf σ1 p.1)).bind (bh V S.len)=some z:=by rw[σf_some q1,q2];exact q3
            simp only[Vx,e,Uw,Ud]
            rw[ih λq hq=>hl q (T6 _ hq)]
          exact this sig.objs hbound
         have hml:(qx (σf τ) (bo ω1 os)).map (·.1)=os.map λp=>σf τ p.1:=by
          have:∀l:List (Nat×TO V.N),(∀p∈l,∃o,bh V ω1 p.2=some o)->(qx (σf τ) (bo ω1 l)).map (·.1)=l.map λp=>σf τ p.1:=by
           intro l
           induction l with
           |nil=>intro _;rfl
           |cons p r ih=>
            intro hl
            obtain⟨o,ho⟩:=hl p T_
            have:=ih λq hq=>hl q (T6 _ hq)
            unfold qx bo at this⊢
            simp only[Vx,ho,Uw,Ud]
            rw[this]
          exact this os hsome
         refine bS ?_ ?_ ?_ ?_
         ·simp only[dH]
          refine(sw x λn hn=>hω _ (λc o ho=> ?_) n (TV.allN_has o3 hn)).symm
          simp only[dY,o7 hfi,ho,Uw]
         ·simp only[dH]
          rw[fe,hkl]
          rw[hml]
         ·simp only[dH,UV]
          refine congr (congrArg _ ?_) ?_
          ·have:∀(ω2:Nat->Nat) (l:List (Nat×TO V.N)),(∀p∈l,∃o,bh V ω1 p.2=some o)->(∀p∈l,bh V ω2 (TO.ren (σf τ) p.2)=(bh V ω1 p.2).map (Own.ren (σf τ)))->
            (qx (σf τ) (bo ω1 l)).map (λp=>(p.1,some p.2))=(l.map λp=>(σf τ p.1,TO.ren (σf τ) p.2)).map λp=>(p.1,bh V ω2 p.2):=by
            intro ω2 l
            induction l with
            |nil=>intro _ _;rfl
            |cons p r ih=>
             intro hl hl2
             obtain⟨o,ho⟩:=hl p T_
             have h2:=hl2 p T_
             have:=ih (λq hq=>hl q (T6 _ hq)) λq hq=>hl2 q (T6 _ hq)
             unfold qx bo at this⊢
             simp only[Vx,ho,Uw,Ud,h2]
             rw[this]
           refine this _ os hsome λp hp=>zh p.2 λn hn=>hω _ (λc o ho=> ?_) n (TO.allN_has (o4 p hp) hn)
           simp only[dY,o7 hfi,ho,Uw]
          ·have e:own.map (λp:Nat×Own=>(p.1,(none:Option Own)))=(own.map (·.1)).map λn=>(n,none):=by rw[UC];rfl
           rw[e,hkl,UC,UC]
           rfl
         ·simp only[dH]
          exact hkl
      ·cases h
     ·cases h
    ·cases h
   ·cases h
  ·cases h
 ·cases h
def vG:Code->Code
 | .seq a _=>a
 |c=>c
def iO:Code->Code
 | .seq _ b=>b
 |c=>c
def Jm:Oper:={dst:=none,op:= .move (.tmp 0),type:=0,pos:= "",after:= #[],guard:=none}
def Nt(i:Nat):Code->Oper
 | .region _ ops _=>(ops.toList[i]?).getD Jm
 |_=>Jm
noncomputable def RF(X:Xc V)(pa:Nat->Bool)(x0 x1 B z:Code)(td:Tmp)(caps:List Tmp)(sigD:Sig V)(FD:HL V.N sigD.tys->Option (HL V.N sigD.rcut.tys))(S0:TS V.N):Option (HL V.N X.sh.rcut.tys):=
 ex {X with pre:=pa} x0 _ S0 (λS1=>ex {X with pre:=pa} x1 _ S1 (λS2=>
  ex X B _ {S2 with tmps:=(td, .junk)::S2.tmps} (λS4=>ex X z _ S4 (λS5=>
   eN X.P sigD FD _ (caps.map S5.get) S5 λte=>match eb S5 te with
    |true=>AU V X.sh.rcut (S5.app none te)
    |false=>none) (λ_ _=>none) (λ_=>none)) (λ_ _=>none) (λ_=>none)) (λ_ _=>none) (λ_=>none)) (λ_ _=>none) (λ_=>none)
theorem zM{sh:ay V}{A:Type}{k:TS V.N->Option A}{r:A}:Rn sh k (λ_ _=>none) (λ_=>none) r (λe σ=>e= .normal/\∃S,k S=some r/\Ent σ (aG V S)):=
 ⟨λS σ hk he=>⟨rfl,S,hk,he⟩,λ_ _ _ _ h=>(by cases h),λ_ _ _ h=>(by cases h),λ_ _ h=>(by cases h)⟩
theorem G9{X:Xc V}{sig:Sig V}(hsh:X.sh.rcut=sig.rcut){fid fd:FuncId}{fn:Func}{x0 x1 B z:Code}{id:Nat}{o1 o2:Oper}{td:Tmp}{caps:List Tmp}{ct:Call}{pa:Nat->Bool}(hf:X.P.funcs[fid]?=some fn)
 (hb:fn.body=some (.seq x0 (.seq x1 (.seq (.region id #[o1,o2] false) (.seq B (.seq z .ret))))))(hn:fn.ntmps=X.n)(hrs:fn.results.toList=sig.rvars)(hname:(fn.name != "runtime.NumGoroutine")=true)
 (hlen:VY sig.params.length X.n=true)(hm:X.P.follows .mixedOrders=true)(hcall:ax X.P X.call)(hdr:dj (sig.rcut.objs.map (·.1))=true)
 (ho1:o1.op= .makeFunc (.func fd) #[] (caps.map Operand.tmp).toArray)(hd1:o1.dst=some td)(hg1:o1.guard=none)(ho2:o2.op= .defer ct)(hct:ct.callee= .value (.tmp td))(hca:ct.args= #[])(hd2:o2.dst=none)(hg2:o2.guard=none)
 (htd:Vu td X.n=true)(hcaps:caps.all (λt=>Vu t X.n&& !U8 t td&&X.pre (4000000+t))=true)
 (hl:∀C:Ctx,C.P=X.P->C.N=X.n/\Fx C X.pre->LOk C X B/\LOk C X z)(hl0:∀C:Ctx,LOk C {X with pre:=pa} x0/\LOk C {X with pre:=pa} x1)
 {sigD:Sig V}{FD:HL V.N sigD.tys->Option (HL V.N sigD.rcut.tys)}(hD:CS X.P fd sigD FD){v:HL V.N sig.tys}{r:HL V.N sig.rcut.tys}(h:RF X pa x0 x1 B z td caps sigD FD (az sig v)=some (hsh▸r)):
 ∀x,pW X.P sig r=some x->
  iA X.P fid (encL V (az sig v).len (aU sig v).1) (bo (az sig v).len (az sig v).own) (am V (bP V sig.rcut r).len x) (bo (bP V sig.rcut r).len (jb sig r)):=by
 obtain⟨params,objs,rcut,rvars,keep⟩:=sig
 simp only at hsh
 subst hsh
 intro x hx
 have htd:td<X.n:=by simpa[VB]using htd
 have hcaps:∀t∈caps,t<X.n/\t≠td/\X.pre (4000000+t)=true:=λt ht=>by
  have:=Uj.1 hcaps t ht
  simp only[Uf,VB,VL]at this
  refine⟨this.1.1,⟨λe=> ?_,this.2⟩⟩
  rw[e,V8]at this
  cases this.1.2
 have hargs:(aU ⟨params,objs,X.sh.rcut,rvars,keep⟩ v).1.length<=X.n:=by
  have hp:params.length<=X.n:=Vg hlen
  unfold aU
  split
  ·rename_i xs ls h1
   split
   ·simp only;rw[sk h1];exact hp
   ·simp
  ·simp
 have hent:Ent ⟨gi 0 (encL V (az ⟨params,objs,X.sh.rcut,rvars,keep⟩ v).len (aU ⟨params,objs,X.sh.rcut,rvars,keep⟩ v).1),ko (bo (az ⟨params,objs,X.sh.rcut,rvars,keep⟩ v).len (az ⟨params,objs,X.sh.rcut,rvars,keep⟩ v).own)⟩
  (aG V (az ⟨params,objs,X.sh.rcut,rvars,keep⟩ v)):=by
  refine Ent.le (λt y hy=>⟨y,?_,H.le.refl _⟩) λn o ho=>⟨o,?_,OLe.refl _⟩
  ·rw[iy];exact hy
  ·rw[aM,Vp]at ho
   obtain⟨o',ho',hoo⟩:=ho
   have:=gf (os:=(az ⟨params,objs,X.sh.rcut,rvars,keep⟩ v).own) ho' hoo
   unfold ae.own?
   rw[bG]
   exact this
 have hend:∀e σ,(e= .normal\/e= .ret)->Ent σ (aG V (bP V X.sh.rcut r))->
  tT X.P fn.results.toList (am V (bP V X.sh.rcut r).len x) (bo (bP V X.sh.rcut r).len (jb ⟨params,objs,X.sh.rcut,rvars,keep⟩ r)) e σ:=by
  intro e σ he hσ
  unfold pW at hx
  rw[Ug]at hx
  obtain⟨vs,hvs,hone⟩:=hx
  obtain⟨hs,g1,g2,g3⟩:=jO hvs
  have hh:∃y,Ia X.P (aG V (bP V X.sh.rcut r)) fn.results.toList=some y/\H.le y (am V (bP V X.sh.rcut r).len x):=by
   rw[hrs]
   unfold Ia
   rw[g1]
   cases vs with
   |nil=>
    have:hs=[]:=Uz (by simpa using g2)
    subst this;subst hone
    exact⟨.tup [],rfl,by simp only[K7,am,encL];exact H.le.refl _⟩
   |cons a l=>
    cases l with
    |nil=>
     cases hs with
     |nil=>simp at g2
     |cons y l'=>
      have:l'=[]:=Uz (by simpa using g2)
      subst this;subst hone
      obtain⟨z,z1,z2⟩:=g3 0 a rfl
      simp at z1;subst z1
      exact⟨y,rfl,z2⟩
    |cons b l=>
     cases hs with
     |nil=>simp at g2
     |cons y l'=>
      cases l' with
      |nil=>simp at g2
      |cons y2 l2=>
       subst hone
       refine⟨.tup (y::y2::l2),rfl,?_⟩
       simp only[K7,am]
       refine vS (by rw[aF];exact g2) λi w hw=> ?_
       rw[encL_map,Ua,Ug]at hw
       obtain⟨u,hu,rfl⟩:=hw
       exact g3 i u hu
  obtain⟨y,hy1,hy2⟩:=hh
  refine⟨he,_,hσ,y,hy1,hy2,λn o ho=> ?_⟩
  obtain⟨o',h1,h2⟩:=cz ho
  have h1:(n,o')∈(bP V X.sh.rcut r).own:=(Wq.1 h1).1
  have:=hG (kA X.sh.rcut _ hdr) h1
  rw[aM]
  unfold TS.own?
  unfold bP at *
  rw[this]
  exact h2
 generalize hS0:az ⟨params,objs,X.sh.rcut,rvars,keep⟩ v=S0 at hent h⊢
 generalize hx0:aU ⟨params,objs,X.sh.rcut,rvars,keep⟩ v=O0 at hent hargs⊢
 generalize hown0:bo S0.len S0.own=own at hent⊢
 refine⟨by simp[ew,hf,hb,hname],λE M w vs hgm hm' how hvs=> ?_⟩
 refine calls_of_wp_defers hf hb ?_
 let C:Ctx:=⟨X.P,fn.ntmps,w,M,E,gD E w own,hgm,λb ⟨n,o,hn,hb⟩=>((how.ok n o hn).block hb).2,[],[]⟩
 have hs:Sim C E M ⟨gi 0 (encL V S0.len O0.1),ko own⟩ {tmps:=vs++VH (fn.ntmps-vs.size) undef,defers:=[]} w:=by
  have hvs1:=hvs.1
  rw[aF]at hvs1
  refine{size:=by simp[C];omega,defers:=rfl,fixed:=λp hp=>(by cases hp),tmps:=λt x hx=> ?_,mem:=hm',own:=λn o ho=> ?_,apart:=λn m o o' b hne ho ho'=> ?_,home:=λn o b ho hb=> ?_,m0:=Mem.le_refl M,mnew:=λb o v hv=> .inl hv,frame:=λ_ _ _=>rfl,grows:=Up _,os:=rfl,tape:=rfl,output:=rfl,env:=λ_ _=>rfl}
  ·obtain⟨_,h2⟩:=lK _ 0 t x hx
   simp only[W2]at h2
   have hlt:t<vs.size:=by have:=(T7.1 h2).1;rw[aF]at this;omega
   exact⟨vs[t],by simp[V1 hlt,hlt],hvs.2 t _ x (UN hlt) h2⟩
  ·have ho':gt own n=some o:=by rw[<-bG];exact ho
   exact how.ok n o ho'
  ·have h1:gt own n=some o:=by rw[<-bG];exact ho
   have h2:gt own m=some o':=by rw[<-bG];exact ho'
   exact how.apart n m o o' b hne h1 h2
  ·have h1:gt own n=some o:=by rw[<-bG];exact ho
   exact .inl ⟨n,o,h1,hb⟩
 obtain⟨E0,M0,hs0⟩:=hent _ _ _ _ _ hs
 have hF0:Fx C pa:=λp hp=>by cases hp
 unfold RF at h
 have A0:=g7 (C:=C) (X:={X with pre:=pa}) rfl ⟨hn,hF0⟩ hm hcall x0 _ S0 _ _ _ _ _ (hl0 C).1 h zM
 refine wp_seq (wp_mono (A0 E0 M0 _ w hs0) ?_)
 rintro e a1 w1 ⟨σ1,E1,M1,⟨rfl,S1,h1,he1⟩,hs1⟩
 obtain⟨E1,M1,hs1⟩:=he1 _ _ _ _ _ hs1
 have A1:=g7 (C:=C) (X:={X with pre:=pa}) rfl ⟨hn,hF0⟩ hm hcall x1 _ S1 _ _ _ _ _ (hl0 C).2 h1 zM
 refine wp_seq (wp_mono (A1 E1 M1 a1 w1 hs1) ?_)
 rintro e a2 w2 ⟨σ2,E2,M2,⟨rfl,S2,h2,he2⟩,hs2⟩
 obtain⟨E2,M2,hs2⟩:=he2 _ _ _ _ _ hs2
 have hsz:a2.tmps.size=X.n:=hs2.size.trans hn
 generalize hcv:(caps.map Operand.tmp).toArray.map a2.eval=capv
 have hwr:∀d,o1.dst=some d->C.wr d:=λd hd=>by
  rw[hd1]at hd;cases hd
  exact⟨by show td<fn.ntmps;rw[hn];exact htd,λp hp=>by cases hp⟩
 have hs3:=hs2.put o1.dst hwr (aL.junk (E:=E2) (M:=M2) (.func (.func fd) #[] capv))
 refine wp_seq (wp_region ?_)
 have hrange:VV (#[o1,o2]:Array Oper).size=[0,1]:=rfl
 have hi0:(#[o1,o2]:Array Oper)[0]?=some o1:=rfl
 have hi1:(#[o1,o2]:Array Oper)[1]?=some o2:=rfl
 rw[hrange]
 simp only[wpOps,hi0,hi1]
 rw[XG (by simp[Region.wanted,hg1])]
 refine .inl (an (v:= .func (.func fd) #[] capv) (w':=w2) (by simp[execOp,ho1,Instr.makeFunc,hcv]) ?_)
 rw[XG (by simp[Region.wanted,hg2])]
 refine .inl ?_
 have htdv:(a2.put o1.dst (.func (.func fd) #[] capv)).eval (.tmp td)= .func (.func fd) #[] capv:=by
  rw[hd1]
  simp[Act.put,Act.eval,hsz,htd]
 unfold Oper.wp
 have hdef:(execOp (a2.put o1.dst (.func (.func fd) #[] capv)).eval o2).run X.P w2= .ok (.defer ⟨.fn (.func fd) capv, #[]⟩) w2:=by
  simp[execOp,ho2,resolve,hct,hca,htdv,Deferred.ofValue]
 rw[hdef,Oper.upon_defer,hd2]
 generalize ha3:a2.put o1.dst (.func (.func fd) #[] capv)=a3 at hs3⊢
 have ht3:∀t∈caps,a3.tmps[t]?=some (a2.eval (.tmp t)):=λt ht=>by
  obtain⟨q1,q2,_⟩:=hcaps t ht
  rw[<-ha3,hd1]
  have hlt:t<a2.tmps.size:=by rw[hsz];exact q1
  show(a2.tmps.setIfInBounds td (.func (.func fd) #[] capv))[t]?=some (a2.tmps.getD t undef)
  rw[U0 (UA q2),Wl,UN hlt]
  rfl
 let C1:Ctx:={C with D:=[⟨.fn (.func fd) capv, #[]⟩],fix:=caps.map λt=>(t,a2.eval (.tmp t))}
 have hs4:Sim C1 E2 M2 (aG V {S2 with tmps:=(td, .junk)::S2.tmps}) (({a3 with defers:=⟨.fn (.func fd) capv, #[]⟩::a3.defers}:Act).put none undef) w2:=by
  have hde:a3.defers=[]:=hs3.defers
  have hst:aG V {S2 with tmps:=(td, .junk)::S2.tmps}={aG V S2 with tmps:=ov o1.dst .junk (aG V S2).tmps}:=by
   rw[hd1];rfl
  rw[hst]
  have hfx:∀p∈C1.fix,a3.tmps[p.1]?=some p.2:=λp hp=>by
   obtain⟨t,ht,rfl⟩:=Us.1 hp
   exact ht3 t ht
  exact{size:=hs3.size,defers:=(by simp[Act.put,hde,C1]),fixed:=hfx,tmps:=hs3.tmps,mem:=hs3.mem,own:=hs3.own,apart:=hs3.apart,home:=hs3.home,m0:=hs3.m0,mnew:=hs3.mnew,frame:=hs3.frame,grows:=hs3.grows,os:=hs3.os,tape:=hs3.tape,output:=hs3.output,env:=hs3.env}
 generalize ({a3 with defers:=⟨.fn (.func fd) capv, #[]⟩::a3.defers}:Act).put none undef=a4 at hs4⊢
 have hF1:Fx C1 X.pre:=λp hp=>by
  obtain⟨t,ht,rfl⟩:=Us.1 hp
  exact(hcaps t ht).2.2
 have hL:=hl C1 rfl ⟨hn,hF1⟩
 have A4:=g7 (C:=C1) (X:=X) rfl ⟨hn,hF1⟩ hm hcall B _ _ _ _ _ _ _ hL.1 h2 zM
 refine wp_seq (wp_mono (A4 E2 M2 a4 w2 hs4) ?_)
 rintro e a5 w5 ⟨σ5,E5,M5,⟨rfl,S5,h5,he5⟩,hs5⟩
 obtain⟨E5,M5,hs5⟩:=he5 _ _ _ _ _ hs5
 have A5:=g7 (C:=C1) (X:=X) rfl ⟨hn,hF1⟩ hm hcall z _ _ _ _ _ _ _ hL.2 h5 zM
 refine wp_seq (wp_mono (A5 E5 M5 a5 w5 hs5) ?_)
 rintro e a6 w6 ⟨σ6,E6,M6,⟨rfl,S6,h6,he6⟩,hs6⟩
 obtain⟨E6,M6,hs6⟩:=he6 _ _ _ _ _ hs6
 refine wp_ret ?_
 show Leaves X.P fn a6.tmps _ a6.defers .returning w6
 have hde:a6.defers=[⟨.fn (.func fd) capv, #[]⟩]:=hs6.defers
 rw[hde]
 obtain⟨te,k1,k2,own1,rr,own1',hat,hsub0,hele⟩:=xi hD (dst:=none) h6
 have hsub:∀n o,gt own1 n=some o->(aG V S6).own? n=some o:=λn o hq=>hsub0 (n,o) (ba hq)
 have hnk:eb S6 te=true/\AU V X.sh.rcut (S6.app none te)=some r:=by
  cases hq:eb S6 te with
  |true=>rw[hq]at k1;exact⟨rfl,k1⟩
  |false=>rw[hq]at k1;cases k1
 obtain⟨f1,f2⟩:=dg hnk.1
 have hnew:∀d∈d_ own1 own1',(aG V S6).fresh d=true/\d<given:=λd hd=>by
  have hd:d∈te.new:=by have:=hele.new;simp only[dH]at this;rw[this]at hd;exact hd
  exact⟨eg (f1 d hd),f2 d hd⟩
 have hcal:=hat.1
 refine⟨by simp, .func fd,capv,fd,capv,rfl,?_,?_⟩
 ·unfold ew at hcal
  split at hcal
  ·rename_i fn' hfn'
   simp only[Uf,bne_iff_ne,ne_eq]at hcal
   have hbb:¬fn'.body=none:=by
    intro hbb
    rw[hbb]at hcal;simp at hcal
   simp[invoke,callFunc,hfn',hcal.1,hbb]
  ·cases hcal
 ·have hreps:eU E6 M6 capv (encL V S6.len (caps.map S6.get)):=by
   have hcl:capv.size=caps.length:=by rw[<-hcv];simp
   refine⟨by rw[aF,Ub];exact hcl,λi c y hc hy=> ?_⟩
   rw[encL_map,Ua,Ua]at hy
   cases hq:caps[i]? with
   |none=>rw[hq]at hy;cases hy
   |some t=>
    rw[hq]at hy
    simp only[Uw,T9]at hy
    subst hy
    have hc2:c=a2.eval (.tmp t):=by
     rw[<-hcv]at hc
     simp[hq]at hc
     exact hc.symm
    have hfx:=hs6.fixed (t,a2.eval (.tmp t)) (Us.2 ⟨t,Ui hq,rfl⟩)
    have hev:=hs6.ev (.tmp t)
    rw[au]at hev
    have:a6.eval (.tmp t)=c:=by
     rw[hc2]
     simp only[Act.eval]
     rw[Wl,hfx];rfl
    rw[this]at hev
    exact hev
  have hC:=hat.2 E6 M6 w6 capv (C1.g0.mono hs6.m0 λb ⟨v,hv⟩ hb=>hs6.frame b hb λhx=>by rw[C1.gx b hx 0]at hv;cases hv) hs6.mem
   ⟨λn o h=>hs6.own n o (hsub n o h),λn m o o' b hne h h'=>hs6.apart n m o o' b hne (hsub n o h) (hsub m o' h')⟩ hreps
  refine(hC .returning).mono ?_
  rintro e u' w7 ⟨rfl,v1,E7,M7,rfl,hp,henv⟩
  have hs7:=Sim.called (o:=o2) (λd hd=>by rw[hd2]at hd;cases hd) hs6 hsub hp henv hnew
  rw[hd2]at hs7
  have hs8:=Sim.tapp (dst:=none) k2 f1 hele hs7
  obtain⟨he,S8,hen8,hh,hres,hle,hown⟩:=hend .ret _ (.inr rfl) (dz hnk.2)
  obtain⟨E9,M9,hs9⟩:=hen8 _ _ _ _ _ hs8
  obtain⟨v9,hrun,hrep⟩:=tw (C:=C1) hs9 hres
  refine⟨v9,hrun,v9,E9,M9,rfl,?_⟩
  exact{rep:=hle _ _ _ hrep,owns:=⟨λn o ho=>hs9.own n o (hown n o ho),λn m o o' b hne h1 h2=>hs9.apart n m o o' b hne (hown n o h1) (hown m o' h2)⟩,mle:=hs9.m0,mem:=hs9.mem,mnew:=hs9.mnew,home:=λn o b ho hb=>hs9.home n o b (hown n o ho) hb,frame:=hs9.frame,grows:=hs9.grows,os:=hs9.os,tape:=hs9.tape,output:=hs9.output,env:=hs9.env}
end
end Go.Tx
end
section
namespace Go.Tx
open Go.Awp
variable [Inhabited GMem]
section
variable {V:mD}
def c0:bx V:=λ_ _ _ _ _=>none
def cO(P:Program)(fid:Nat)(sig:Sig V)(F:HL V.N sig.tys->Option (HL V.N sig.rcut.tys))(r:bx V):bx V:=λA f args S k=>match U8 f fid with
 |true=>eN P sig F A args S k
 |false=>r A f args S k
def cP(P:Program)(fid:Nat)(sig:Sig V)(F:HL V.N sig.tys->Option (HL V.N sig.rcut.tys))(r:bx V):bx V:=λA f args S k=>match U8 f fid with
 |true=>aO P sig F A args S k
 |false=>r A f args S k
theorem bB{P:Program}:ax P (c0:bx V):=λA fid args S dst k r h=>by cases h
theorem Ph{P:Program}{fid:Nat}{sig:Sig V}{F:HL V.N sig.tys->Option (HL V.N sig.rcut.tys)}{r:bx V}(h:aq P fid sig F)(hr:ax P r):ax P (cO P fid sig F r):=λA f args S dst k x hx=>by
 unfold cO at hx
 split at hx
 ·rename_i e
  have e:=UM e
  subst e
  exact di h hx
 ·exact hr A f args S dst k x hx
theorem Pi{P:Program}{fid:Nat}{sig:Sig V}{F:HL V.N sig.tys->Option (HL V.N sig.rcut.tys)}{r:bx V}(h:aq P fid sig F)(ho:sig.objs=[])(hk:sig.keep=[])(hr:ax P r):ax P (cP P fid sig F r):=λA f args S dst k x hx=>by
 unfold cP at hx
 split at hx
 ·rename_i e
  have e:=UM e
  subst e
  exact aj h ho hk hx
 ·exact hr A f args S dst k x hx
end
noncomputable def J8{A:Type}:Nat->Option A->Option A
 |0,x=>x
 |n+1,x=>L2 x (J8 n x)
theorem kU{A:Type}(x:Option A):∀n,J8 n x=x
 |0=>rfl
 |n+1=>by rw[J8,kU x n];unfold L2;rw[XG rfl]
end Go.Tx
end
section
namespace Go.Tx
open Go.Awp
variable {V:mD} [Inhabited GMem]
def j9:Nat->Bool:=λ_=>false
theorem RP{C:Ctx}{X:Xc V}{c:Code}(h:aJ c=[])(hj:∀k,X.jumps k=none:=by intro k;rfl):LOk C X c:=bc (by rw[h];trivial) hj
theorem RQ{C:Ctx}{X:Xc V}{c b:Code}{la:nV V X.sh}(h:aJ c=[b])(e:X.loops (bI b)=some la)(h1:dx C b la)(hj:∀k,X.jumps k=none:=by intro k;rfl):LOk C X c:=
 bc (by rw[h];exact⟨dJ e h1,trivial⟩) hj
theorem PK{C:Ctx}{X:Xc V}{c b b':Code}{la la':nV V X.sh}(h:aJ c=[b,b'])(e:X.loops (bI b)=some la)(e':X.loops (bI b')=some la')(h1:dx C b la)(h2:dx C b' la')(hj:∀k,X.jumps k=none:=by intro k;rfl):LOk C X c:=
 bc (by rw[h];exact⟨dJ e h1,dJ e' h2,trivial⟩) hj
theorem fnA(X:Xc V){sig:Sig V}{fid:FuncId}{fn:Func}{n:HL V.N sig.tys->Option (HL V.N sig.rcut.tys)}(hf:X.P.funcs[fid]?=some fn)
 (hk:(fn.body,fn.results.toList,(fn.name != "runtime.NumGoroutine"),fn.ntmps)=(some (af fn),sig.rvars,true,X.n))(hm:X.P.follows .mixedOrders=true)(hcall:ax X.P X.call)
 (hsh:X.sh.rcut=sig.rcut)(hlen:VY sig.params.length X.n=true)(hdr:dj (sig.rcut.objs.map (·.1))=true)(h:∀v,exF X sig hsh (af fn) v=n v)
 (hl:∀C:Ctx,C.P=X.P->C.N=X.n/\Fx C X.pre->LOk C X (af fn)):aq X.P fid sig n:=λv r x hr hx=>by
 injection hk with h1 h2
 injection h2 with h2 h3
 injection h3 with h3 h4
 exact lI hsh hf h1 h4 h2 h3 hlen hm hcall hdr hl ((h v).trans hr) x hx
theorem lpB{C:Ctx}{X:Xc V}{b:Code}{cut:Cut V.ι}{alts:List Alt}{n:HL V.N cut.tys->Option (oF (bW X.sh []) alts)}
 {bd:(HL V.N cut.tys->Option (oF (bW X.sh []) alts))->HL V.N cut.tys->Option (oF (bW X.sh []) alts)}
 (pc:∀m:HL V.N cut.tys->oF (bW X.sh []) alts->Prop,(∀F,(∀v r,F v=some r->m v r)->∀v r,bd F v=some r->m v r)->∀v r,n v=some r->m v r)
 (hP:C.P=X.P)(hn:C.N=X.n/\Fx C X.pre)(hm:X.P.follows .mixedOrders=true)(hcall:ax X.P X.call)(hl:LOk C X b)(h:∀F v,exL X b cut alts F v=bd F v):
 dx C b (sh:=X.sh) ⟨cut,alts,n⟩:=
 pc _ λF ih v _ hr=>cQ hP hn hm hcall hl ih ((h F v).trans hr)
def tl{α:Type _}:List (Nat×α)->Nat->Option α
 |[],_=>none
 |(k,a)::r,i=>bif U8 i k then some a else tl r i
def shL(l:List (Nat×Cut V.ι))(z:Cut V.ι):ay V:=⟨λi=>(tl l i).getD ⟨[],[]⟩,z⟩
def mX(P:Program)(n:Nat)(call:bx V)(sh:ay V)(j:List (Nat×Cut V.ι×List Alt))(r:List (Nat×Cut V.ι))(l:List (Nat×nV V sh)):Xc V:={P:=P,n:=n,call:=call,pre:=j9,sh:=sh,joins:=tl j,regs:=tl r,loops:=tl l}
abbrev dT(X:Xc V)(b:Code)(la:nV V X.sh):Prop:=∀C:Ctx,C.P=X.P->C.N=X.n/\Fx C X.pre->dx C b la
theorem fn0(X:Xc V){sig:Sig V}{fid:FuncId}{fn:Func}{n:HL V.N sig.tys->Option (HL V.N sig.rcut.tys)}(hf:X.P.funcs[fid]?=some fn)(hcall:ax X.P X.call)
 (hl:aJ (af fn)=[]:=by kernel_rfl)
 (hk:(fn.body,fn.results.toList,(fn.name != "runtime.NumGoroutine"),fn.ntmps)=(some (af fn),sig.rvars,true,X.n):=by kernel_rfl)(hm:X.P.follows .mixedOrders=true:=by kernel_rfl)
 (hsh:X.sh.rcut=sig.rcut:=by exact rfl)(hlen:VY sig.params.length X.n=true:=by exact rfl)(hdr:dj (sig.rcut.objs.map (·.1))=true:=by exact rfl)(hj:∀k,X.jumps k=none:=by intro k;rfl)
 (h:∀v,exF X sig hsh (af fn) v=n v:=by intro v;kernel_rfl):aq X.P fid sig n:=
 fnA X hf hk hm hcall hsh hlen hdr h λ_ _ _=>RP hl hj
theorem fn1(X:Xc V){sig:Sig V}{fid:FuncId}{fn:Func}{n:HL V.N sig.tys->Option (HL V.N sig.rcut.tys)}{b:Code}{la:nV V X.sh}(hf:X.P.funcs[fid]?=some fn)(hcall:ax X.P X.call)
 (h1:dT X b la)(hl:aJ (af fn)=[b]:=by kernel_rfl)(e:X.loops (bI b)=some la:=by kernel_rfl)
 (hk:(fn.body,fn.results.toList,(fn.name != "runtime.NumGoroutine"),fn.ntmps)=(some (af fn),sig.rvars,true,X.n):=by kernel_rfl)(hm:X.P.follows .mixedOrders=true:=by kernel_rfl)
 (hsh:X.sh.rcut=sig.rcut:=by exact rfl)(hlen:VY sig.params.length X.n=true:=by exact rfl)(hdr:dj (sig.rcut.objs.map (·.1))=true:=by exact rfl)(hj:∀k,X.jumps k=none:=by intro k;rfl)
 (h:∀v,exF X sig hsh (af fn) v=n v:=by intro v;kernel_rfl):aq X.P fid sig n:=
 fnA X hf hk hm hcall hsh hlen hdr h λC p q=>RQ hl e (h1 C p q) hj
theorem fn2(X:Xc V){sig:Sig V}{fid:FuncId}{fn:Func}{n:HL V.N sig.tys->Option (HL V.N sig.rcut.tys)}{b b':Code}{la la':nV V X.sh}(hf:X.P.funcs[fid]?=some fn)(hcall:ax X.P X.call)
 (h1:dT X b la)(h2:dT X b' la')(hl:aJ (af fn)=[b,b']:=by kernel_rfl)(e:X.loops (bI b)=some la:=by kernel_rfl)(e':X.loops (bI b')=some la':=by kernel_rfl)
 (hk:(fn.body,fn.results.toList,(fn.name != "runtime.NumGoroutine"),fn.ntmps)=(some (af fn),sig.rvars,true,X.n):=by kernel_rfl)(hm:X.P.follows .mixedOrders=true:=by kernel_rfl)
 (hsh:X.sh.rcut=sig.rcut:=by exact rfl)(hlen:VY sig.params.length X.n=true:=by exact rfl)(hdr:dj (sig.rcut.objs.map (·.1))=true:=by exact rfl)(hj:∀k,X.jumps k=none:=by intro k;rfl)
 (h:∀v,exF X sig hsh (af fn) v=n v:=by intro v;kernel_rfl):aq X.P fid sig n:=
 fnA X hf hk hm hcall hsh hlen hdr h λC p q=>PK hl e e' (h1 C p q) (h2 C p q) hj
def sg(p:List (Pt V.ι))(z:Cut V.ι)(r:List ResultVar):Sig V:={params:=p,rcut:=z,rvars:=r}
def CC(P:Program)(V:mD)[Inhabited GMem]:={c:bx V//ax P c}
def k0{P:Program}:CC P V:=⟨c0,bB⟩
def kP{P:Program}{fid:Nat}{sig:Sig V}{F:HL V.N sig.tys->Option (HL V.N sig.rcut.tys)}(h:aq P fid sig F)(r:CC P V)(ho:sig.objs=[]:=by exact rfl)(hk:sig.keep=[]:=by exact rfl):CC P V:=⟨cP P fid sig F r.1,Pi h ho hk r.2⟩
def kO{P:Program}{fid:Nat}{sig:Sig V}{F:HL V.N sig.tys->Option (HL V.N sig.rcut.tys)}(h:aq P fid sig F)(r:CC P V):CC P V:=⟨cO P fid sig F r.1,Ph h r.2⟩
theorem lp0{X:Xc V}{b:Code}{cut:Cut V.ι}{alts:List Alt}{n:HL V.N cut.tys->Option (oF (bW X.sh []) alts)}
 {bd:(HL V.N cut.tys->Option (oF (bW X.sh []) alts))->HL V.N cut.tys->Option (oF (bW X.sh []) alts)}
 (pc:∀m:HL V.N cut.tys->oF (bW X.sh []) alts->Prop,(∀F,(∀v r,F v=some r->m v r)->∀v r,bd F v=some r->m v r)->∀v r,n v=some r->m v r)
 (hcall:ax X.P X.call)(hl:aJ b=[]:=by kernel_rfl)(hm:X.P.follows .mixedOrders=true:=by kernel_rfl)(hj:∀k,X.jumps k=none:=by intro k;rfl)
 (h:∀F v,exL X b cut alts F v=bd F v:=by intro F v;kernel_rfl):dT X b ⟨cut,alts,n⟩:=
 λ_ hP hn=>lpB pc hP hn hm hcall (RP hl hj) h
theorem lp1{X:Xc V}{b:Code}{cut:Cut V.ι}{alts:List Alt}{n:HL V.N cut.tys->Option (oF (bW X.sh []) alts)}
 {bd:(HL V.N cut.tys->Option (oF (bW X.sh []) alts))->HL V.N cut.tys->Option (oF (bW X.sh []) alts)}
 (pc:∀m:HL V.N cut.tys->oF (bW X.sh []) alts->Prop,(∀F,(∀v r,F v=some r->m v r)->∀v r,bd F v=some r->m v r)->∀v r,n v=some r->m v r)
 (hcall:ax X.P X.call){b1:Code}{l1:nV V X.sh}(h1:dT X b1 l1)(hl:aJ b=[b1]:=by kernel_rfl)(e:X.loops (bI b1)=some l1:=by kernel_rfl)(hm:X.P.follows .mixedOrders=true:=by kernel_rfl)(hj:∀k,X.jumps k=none:=by intro k;rfl)
 (h:∀F v,exL X b cut alts F v=bd F v:=by intro F v;kernel_rfl):dT X b ⟨cut,alts,n⟩:=
 λC hP hn=>lpB pc hP hn hm hcall (RQ hl e (h1 C hP hn) hj) h
end Go.Tx
end
