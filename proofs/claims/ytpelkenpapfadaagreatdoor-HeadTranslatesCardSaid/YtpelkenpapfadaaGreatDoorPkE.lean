/-
  Texts of this claim, joined by a program of mine: what the theorem uses.
-/
import Derived.Test.YtpelkenpapfadaaGreatDoorPkD
import Derived.Test.YtpelkenpapfadaaGreatDoorPkC
import Derived.WalkKit
import Derived.ProofKit
import Derived.OpenShut
import Derived.Test.YtpelkenpapfadaaGreatDoorRows
import Derived.Lib.LaidIn
import Derived.Lib.LaidU8T
import Derived.MakeChecks
import Derived.Test.YtpelkenpapfadaaGreatDoorProg
import Derived.KernelRfl
import Derived.Shelf.Strings.Builder1
import Derived.Defers
open Array renaming getD_eq_getD_getElem?→XM,getElem?_append_left→Xq,getElem?_eq_getElem→Wb,getElem?_setIfInBounds_ne→Wp,getElem?_toList→WX,length_toList→WK,replicate→W4
open Bool renaming and_eq_true→VE,false_or→VX,not_eq_true'→W7,or_assoc→YP,or_eq_false_iff→We,or_eq_true→V0,true_and→WA,true_or→V2
open Classical renaming choose_spec→YK
open Int renaming mul_le_mul_of_nonneg_left→Yb,mul_le_mul_of_nonneg_right→X9,mul_nonneg→YJ
open List renaming all_cons→WG,all_eq_true→VH,any_cons→XA,any_eq_false→Yn,any_eq_true→WJ,any_nil→Yw,drop_drop→Xj,drop_eq_getElem_cons→WU,drop_eq_nil_of_le→WR,drop_zero→V6,eq_nil_of_length_eq_zero→VY,filterMap_cons→WV,filter_cons→Yu,foldl_cons→Wy,getElem?_append_left→VT,getElem?_append_right→VR,getElem?_eq_getElem→Vw,getElem?_eq_some_iff→Vv,getElem?_map→Vz,getElem?_range→W3,getElem_mem→WI,getElem_of_mem→XO,length_append→VB,length_cons→VD,length_map→VA,length_nil→VU,map→W0,map_append→Wk,map_cons→VC,map_map→V1,mem_append→VJ,mem_append_left→WQ,mem_append_right→W5,mem_cons→VG,mem_cons_of_mem→Vu,mem_cons_self→Vy,mem_filter→XR,mem_filterMap→Wu,mem_map→VQ,mem_map_of_mem→VO,mem_of_getElem?→VI,not_all_eq_any_not→Yy,not_mem_nil→Yt,range→Xk,take_of_length_le→Wf
open List.cons renaming injEq→W8
open Nat renaming add_zero→V3,beq→Ww,beq_refl→Xw,ble→XH,blt→WS,blt_eq→WZ,eq_of_beq_eq_true→Wa,le_of_ble_eq_true→WF,le_of_eq→YY,le_refl→VN,mul_one→Ye,strongRecOn→YB,sub_zero→Yr
open Ne renaming symm→VZ
open Option renaming bind_eq_some_iff→WO,bind_some→Vk,isSome_iff_exists→Xu,map_eq_some_iff→VF,map_map→YG,map_some→VV
open Option.some renaming inj→Xn,injEq→Vx
open Prod.mk renaming injEq→VW
noncomputable section
set_option linter.unusedSectionVars false
set_option linter.unusedSimpArgs false
set_option linter.unusedVariables false
section
namespace Go.Tx
open Go.Awp
variable [Inhabited GMem]
section
variable {V:m_}
theorem mn{α:Type}(q:Nat->Bool):∀(l:List (Nat×α)) (n:Nat) (x:α),gt (l.filter λp=>q p.1) n=some x->gt l n=some x
 |[],n,x,h=>by simp[gt]at h
 |(k,y)::r,n,x,h=>by
  rw[Yu]at h
  rw[ai]
  by_cases hk:k=n
  ·subst hk
   rw[Y5 rfl]
   split at h
   ·rw[ai,Y5 rfl]at h;exact h
   ·rename_i hq
    have:=bn h
    have:=(XR.1 this).2
    exact(hq this).elim
  ·rw[Y4 hk]
   split at h
   ·rw[ai,Y4 hk]at h;exact mn q r n x h
   ·exact mn q r n x h
theorem qo{α β:Type}{f:Nat->Nat}{g:α->β}(hf:∀a b,f a=f b->a=b):∀(l:List (Nat×α)) (n:Nat),gt (l.map λp=>(f p.1,g p.2)) (f n)=(gt l n).map g
 |[],n=>by simp[gt]
 |(k,y)::r,n=>by
  rw[VC,ai,ai]
  by_cases hk:k=n
  ·subst hk;simp
  ·rw[Y4 hk,Y4 λe=>hk (hf _ _ e)];exact qo hf r n
theorem pg{ks:List Nat}{n:Nat}:∀{l:List Nat},n∈l->n∉ks->n∈Ns ks l
 |[],h,_=>by cases h
 |k::r,h,hn=>by
  simp only[Ns]
  rcases VG.1 h with rfl|h
  ·split
   ·rename_i hi;exact(hn (ka.1 hi)).elim
   ·exact Vy
  ·split
   ·exact pg h hn
   ·exact Vu _ (pg h hn)
theorem uP(f:Nat->Nat)(o:TO V.N):TO.len (some (TO.ren f o))=TO.len (some o):=by cases o<;>rfl
theorem dx{P:Program}{fid:Nat}{sig:Sig V}{F:HL V.N sig.tys->Option (HL V.N sig.rcut.tys)}(hF:aA P fid sig F){A:Type}{args:List (TV V.N)}{S:TS V.N}{dst:Option Tmp}
 {k:TE V.N->Option A}{r:A}(h:ff P sig F A args S k=some r):
 ∃te,k te=some r/\good S te/\yP P fid (encL V S.len args) (aI V S).own? λe'=>ELe true e' (gJ (S.app dst te).len te):=by
 unfold ff at h
 split at h
 ·rename_i σ0 l0 h0
  split at h
  ·rename_i σ1 l1 h1
   split at h
   ·rename_i hin
    split at h
    ·rename_i v hv
     obtain⟨y,hy,h⟩:=bK h
     split at h
     ·rename_i x hx
      split at h
      ·rename_i hout
       obtain⟨h,hlens⟩:=lF h
       have hc:=hF v y x hy hx
       have hls:=rT hv
       obtain⟨a1,a2,a3,xs0,a4,a5,a6⟩:=g8 h0
       obtain⟨b1,b2,os0,b3,b4,b5,b6⟩:=ce h1
       have hst:a_ sig v=(xs0,os0):=by
        unfold a_
        rw[hls,a5 l1]
        simp only[b4]
       have hS:(ay sig v).own=os0:=by unfold ay;rw[hst]
       rw[hst,hS]at hc
       have hlen0:∀c o,gt os0 c=some o->(ay sig v).len c=TO.len (some o):=by
        intro c o ho
        unfold TS.len TS.own?
        rw[hS,ho]
       generalize (ay sig v).len=ω0 at hc hlen0
       generalize hos:jx sig y=os at h hout hc hlens
       have hlen1:∀c o,gt os c=some o->(bZ V sig.rcut y).len c=TO.len (some o):=by
        intro c o ho
        rw[<-hos]at ho
        have:=mn (λn=>sig.keep.contains n) (bZ V sig.rcut y).own c o ho
        unfold TS.len TS.own?
        rw[this]
       generalize (bZ V sig.rcut y).len=ω1 at hc hlen1
       generalize hτ:fe (80000+S.own.length) σ1 (os.map (·.1))=τ at h hout hlens
       have hsub:∀c n,gt σ1 c=some n->gt τ c=some n:=λc n hcn=>by rw[<-hτ];exact il hcn
       simp only[zB,VE,VH]at hout
       obtain⟨⟨⟨⟨⟨o1,o2⟩,o3⟩,o4⟩,o5⟩,o6⟩:=hout
       simp only[Fk,VE,VH]at hin
       obtain⟨⟨i1,i2⟩,i3⟩:=hin
       have hfi:=σf_inj o1
       have hbound:∀p∈sig.objs,∃n o,gt σ1 p.1=some n/\S.own? n=some o/\∃z,bu V S.len o=some z:=by
        intro p hp
        have:p.1∈os0.map (·.1):=by rw[b6];exact VO hp
        obtain⟨q,hq,hqe⟩:=VQ.1 this
        obtain⟨n,o,q1,q2,_,z,q3,_⟩:=b5 q.1 q.2 hq
        exact⟨n,o,by rw[<-hqe];exact q1,q2,_,q3 S.len⟩
       have hTr:∀E:Env,Tr σ1 sig.objs E (λc=>E (σf τ c)) S.len ω0:=λE=>by
        refine⟨λc n hcn=>by rw[σf_some (hsub c n hcn)],λc n hc' hcn=> ?_⟩
        rw[WJ]at hc'
        obtain⟨p,hp,hpn⟩:=hc'
        have hpn:p.1=c:=by simpa using hpn
        have hm:c∈os0.map (·.1):=by rw[b6,<-hpn];exact VO hp
        obtain⟨o,ho⟩:=eD hm
        obtain⟨n',o',q1,q2,q3,_⟩:=b5 c o (bn ho)
        rw[hcn]at q1;cases q1
        rw[hlen0 c o ho,q3];unfold TS.len;rw[q2]
       have hob':∀p∈sig.objs,match p.2 with| .box _ ps=>ps.all (yv V sig.objs)=true|_=>True:=by
        intro p hp
        have:=i2 p hp
        cases hq:p.2 with
        |box oty ps=>rw[hq]at this;simpa using this
        |st i=>trivial
        |vec te e=>trivial
        |dvec te e out=>trivial
        |map tk tv=>trivial
        |iter=>trivial
        |miter m k v=>trivial
       have hown:∀n o,gt (sig.objs.filterMap λp=>((S.own? (σf σ1 p.1)).bind (bu V S.len)).map λo=>(σf σ1 p.1,o)) n=some o->(S.own? n).bind (bu V S.len)=some o:=by
        intro n o hn
        obtain⟨p,hp,hpe⟩:=Wu.1 (bn hn)
        rw[VF]at hpe
        obtain⟨o',h1,h2⟩:=hpe
        simp only[VW]at h2
        obtain⟨rfl,rfl⟩:=h2
        exact h1
       have hkeys:∀n,n∈(sig.objs.filterMap λp=>((S.own? (σf σ1 p.1)).bind (bu V S.len)).map λo=>(σf σ1 p.1,o)).map (·.1)↔n∈sig.objs.map λp=>σf σ1 p.1:=by
        intro n
        constructor
        ·intro hn
         obtain⟨q,hq,rfl⟩:=VQ.1 hn
         obtain⟨p,hp,hpe⟩:=Wu.1 hq
         rw[VF]at hpe
         obtain⟨o',h1,h2⟩:=hpe
         rw[<-h2]
         exact VO (f:=λp=>σf σ1 p.1) hp
        ·intro hn
         obtain⟨p,hp,rfl⟩:=VQ.1 hn
         obtain⟨n,o,q1,q2,z,q3⟩:=hbound p hp
         refine VQ.2 ⟨(σf σ1 p.1,z),Wu.2 ⟨p,hp,?_⟩,rfl⟩
         rw[σf_some q1,q2]
         simp[q3]
       have hex:∀n o,gt (sb (σf τ) (bB ω0 os0)) n=some o->∃z,(gt (sig.objs.filterMap λp=>((S.own? (σf σ1 p.1)).bind (bu V S.len)).map λo=>(σf σ1 p.1,o)) n=some z)/\(∀E M w,bg E M w n z->bg E M w n o)/\∀(E:Env) w b,o.foot w (E n) b->z.foot w (E n) b:=by
        intro n o hn
        obtain⟨c,o1,rfl,hg,rfl⟩:=bH hfi hn
        obtain⟨t,ht,hto⟩:=cL hg
        obtain⟨n',oS,q1,q2,_,x4,q4,x',q5,q6,q7⟩:=b5 c t ht
        rw[q5]at hto
        simp only[Vx]at hto;subst hto
        have e:σf τ c=n':=σf_some (hsub _ _ q1)
        have hck:c∈sig.objs.map (·.1):=by rw[<-b6];exact VO (f:=(·.1)) ht
        obtain⟨p,hp,hpc⟩:=VQ.1 hck
        have hk':=(hkeys n').2 (VQ.2 ⟨p,hp,by rw[hpc];exact σf_some q1⟩)
        obtain⟨z,hz⟩:=eD hk'
        have hz':=hown _ _ hz
        rw[q2]at hz'
        simp only[Vk,q4,Vx]at hz'
        rw[e]
        refine⟨z,hz,λE M w hw=> ?_,λE w b hb=> ?_⟩
        ·rw[<-hz']at hw
         have:=(q6 σ1 sig.objs E _ M w S.len ω0 (Sub.refl _) hob' (hTr E) hw).ren (E':=E) (f:=σf τ) rfl λm _=>rfl
         rw[e]at this
         exact this
        ·rw[Own.ren_foot]at hb
         rw[<-hz']
         exact q7 E (λ_=>E n') w S.len ω0 b rfl hb
       have hsome:∀p∈os,∃o,bu V ω1 p.2=some o:=by
        intro p hp
        have:=o4 p hp
        cases hq:p.2 with
        |box oty cells=>exact⟨_,rfl⟩
        |bst i x=>exact⟨_,rfl⟩
        |vec te e xs=>exact⟨_,rfl⟩
        |dvec te e xs=>exact⟨_,rfl⟩
        |pvec te e xs=>exact⟨_,rfl⟩
        |map tk tv es=>exact⟨_,rfl⟩
        |iter s p=>exact⟨_,rfl⟩
        |miter m k v es rest cur=>exact⟨_,rfl⟩
        |gone l=>rw[hq]at this;simp[TO.allN]at this
       have hgos:∀n,(gt os n).isSome=true->(gt (bB ω1 os) n).isSome=true:=by
        intro n hn
        obtain⟨o,ho⟩:=Xu.1 hn
        obtain⟨z,hz⟩:=hsome _ (bn ho)
        rw[gC ho hz];rfl
       refine⟨_,h,?_,?_⟩
       ·intro m o hm
        simp only[ed]at hm
        split at hm
        ·rename_i o' hq
         simp only[Vx]at hm;subst hm
         obtain⟨p,hp,hpe⟩:=VQ.1 (bn hq)
         simp only[VW]at hpe
         obtain⟨rfl,rfl⟩:=hpe
         have h5:=o5 p hp
         rw[V0]at h5
         by_cases hpk:A6 p.1 (sig.objs.map (·.1))=true
         ·right
          rcases h5 with h5|h5
          ·rw[hpk]at h5;cases h5
          ·rw[uP]
           cases hpp:p.2 with
           |box oty cells=>rw[hpp]at h5;simp only[vz]at h5;exact(Wa h5).symm
           |bst i x=>rw[hpp]at h5;simp only[vz]at h5;exact(Wa h5).symm
           |vec te e xs=>
            exact hlens _ (dn (.inl ⟨te,e,xs,rfl⟩) hpk (by rw[<-hpp];exact hp))
           |dvec te e xs=>
            exact hlens _ (dn (.inr (.inl ⟨te,e,xs,rfl⟩)) hpk (by rw[<-hpp];exact hp))
           |pvec te e xs=>
            exact hlens _ (dn (.inr (.inr ⟨te,e,xs,rfl⟩)) hpk (by rw[<-hpp];exact hp))
           |map tk tv es=>rw[hpp]at h5;simp only[vz]at h5;exact(Wa h5).symm
           |iter s p=>rw[hpp]at h5;simp only[vz]at h5;exact(Wa h5).symm
           |miter m k v es rest cur=>rw[hpp]at h5;cases h5
           |gone l=>rw[hpp]at h5;cases h5
         ·left
          refine pg (VQ.2 ⟨p,hp,rfl⟩) λhmem=>hpk (ka.2 ?_)
          obtain⟨q,hq',hqe⟩:=VQ.1 hmem
          obtain⟨n,o,q1,_⟩:=hbound q hq'
          rw[σf_some q1,<-σf_some (hsub _ _ q1)]at hqe
          rw[<-hfi _ _ hqe]
          exact VO (f:=(·.1)) hq'
        ·right
         obtain⟨q,hq',hqe⟩:=VQ.1 (bn hm)
         simp only[VW]at hqe
         obtain⟨rfl,rfl⟩:=hqe
         rfl
       ·have hat:=hc.ren τ (by
         simp only[Dn,VE,VH]
         refine⟨⟨⟨⟨o1,λp hp=> ?_⟩,λp hp=> ?_⟩,?_⟩,λp hp=> ?_⟩
         ·obtain⟨z,hz,hz2⟩:=Wu.1 hp
          rw[VF]at hz2
          obtain⟨o',_,rfl⟩:=hz2
          have:z.1∈sig.objs.map (·.1):=by rw[<-b6];exact VO (f:=(·.1)) hz
          obtain⟨q,hq,hqe⟩:=VQ.1 this
          have:=i3 q hq
          rw[hqe]at this
          exact this
         ·obtain⟨z,hz,hz2⟩:=Wu.1 hp
          rw[VF]at hz2
          obtain⟨o',_,rfl⟩:=hz2
          exact o2 z hz
         ·refine H.allN_of λn hn=> ?_
          rw[iq]at hn
          have:=TV.allN_has o3 hn
          rw[V0];exact .inr (hgos n this)
         ·obtain⟨z,hz,hz2⟩:=Wu.1 hp
          rw[VF]at hz2
          obtain⟨o',ho',rfl⟩:=hz2
          have h4:=o4 z hz
          cases o' with
          |box oty cells=>
           simp only[Own.allN]
           refine H.allNL_of λn hn=> ?_
           have:TO.has n z.2=true:=by rw[<-j7 ω1 n ho'];exact hn
           have:=TO.allN_has h4 this
           rw[V0];exact .inr (hgos n this)
          |vec e sz rows=>rfl
          |map es=>rfl
          |iter s p=>rfl
          |dvec e sz rows=>rfl
          |miter m es rest cur=>
           simp only[Own.allN]
           have:TO.has m z.2=true:=by rw[<-j7 ω1 m ho'];exact Xw m
           have:=TO.allN_has h4 this
           rw[V0];exact .inr (hgos m this))
        generalize hownE:(sig.objs.filterMap λp=>((S.own? (σf σ1 p.1)).bind (bu V S.len)).map λo=>(σf σ1 p.1,o))=own at hown hkeys hex
        refine⟨own,_,_,Kx.weak (args':=encL V S.len args) (own1:=own) hat (λE M vs hvs=> ?_) (λE M w hw=> ?_) (λn=> ?_) (λE M w hw b hb=> ?_),λp hp=> ?_,?_⟩
        ·refine⟨by rw[hvs.1,H.renL_len,aH,aH,a4],λi c z hcz hz=> ?_⟩
         rw[H.renL_get,encL_map,Vz,YG,VF]at hz
         obtain⟨u0,hu0,rfl⟩:=hz
         have hi:i<args.length:=by rw[<-a4];exact(Vv.1 hu0).1
         have hu:=Vw hi
         obtain⟨_,k2⟩:=a6 i _ u0 hu hu0
         have hr:=hvs.2 i c (ao V S.len args[i]) hcz (by rw[encL_map,Vz,hu];rfl)
         exact(k2 σ1 sig.objs E _ M S.len ω0 c b1 (VH.2 i1) (hTr E) hr).ren λn _=>rfl
        ·refine⟨λn o hn=> ?_,λn m o o' b hne hn hm hb=> ?_⟩
         ·obtain⟨z,hz,hz',_⟩:=hex n o hn
          exact hz' E M w (hw.ok n z hz)
         ·obtain⟨z,hz,_,f1⟩:=hex n o hn
          obtain⟨z',hz',_,f2⟩:=hex m o' hm
          exactλhb'=>hw.apart n m z z' b hne hz hz' (f1 E w b hb) (f2 E w b hb')
        ·constructor
         ·rintro⟨o,ho⟩
          obtain⟨z,hz,_⟩:=hex n o ho
          exact⟨z,hz⟩
         ·rintro⟨o,ho⟩
          have:=(hkeys n).1 (VO (f:=(·.1)) (bn ho))
          obtain⟨p,hp,rfl⟩:=VQ.1 this
          have hm:p.1∈os0.map (·.1):=by rw[b6];exact VO hp
          obtain⟨t,ht⟩:=eD hm
          obtain⟨n',oS,q1,q2,_,x4,q4,x',q5,q6⟩:=b5 p.1 t (bn ht)
          refine⟨(x' ω0).ren (σf τ),?_⟩
          rw[σf_some q1,<-σf_some (hsub _ _ q1),ee hfi,gC ht (q5 ω0)]
          rfl
        ·obtain⟨n,o,hn,hb⟩:=hb
         obtain⟨z,hz,_,f1⟩:=hex n o hn
         exact⟨n,z,hz,f1 E w b hb⟩
        ·rw[<-hownE]at hp
         obtain⟨q,hq,hqe⟩:=Wu.1 hp
         rw[VF]at hqe
         obtain⟨o',h1,rfl⟩:=hqe
         rw[aT];exact h1
        ·have hω:∀te:TE V.N,(∀c o,gt os c=some o->gt te.upd (σf τ c)=some (o.ren (σf τ)))->∀c,(gt os c).isSome=true->(S.app dst te).len (σf τ c)=ω1 c:=by
          intro te hte c hcs
          obtain⟨o,ho⟩:=Xu.1 hcs
          rw[cR,hte c o ho,hlen1 c o ho]
          exact uP _ o
         have hkl:own.map (·.1)=sig.objs.map λp=>σf σ1 p.1:=by
          rw[<-hownE]
          have:∀l:List (Nat×OPt V.ι),(∀p∈l,∃n o,gt σ1 p.1=some n/\S.own? n=some o/\∃z,bu V S.len o=some z)->
           (l.filterMap λp=>((S.own? (σf σ1 p.1)).bind (bu V S.len)).map λo=>(σf σ1 p.1,o)).map (·.1)=l.map λp=>σf σ1 p.1:=by
           intro l
           induction l with
           |nil=>intro _;rfl
           |cons p r ih=>
            intro hl
            obtain⟨n,o,q1,q2,z,q3⟩:=hl p Vy
            have e:(S.own? (σf σ1 p.1)).bind (bu V S.len)=some z:=by rw[σf_some q1,q2];exact q3
            simp only[WV,e,VV,VC]
            rw[ih λq hq=>hl q (Vu _ hq)]
          exact this sig.objs hbound
         have hml:(sb (σf τ) (bB ω1 os)).map (·.1)=os.map λp=>σf τ p.1:=by
          have:∀l:List (Nat×TO V.N),(∀p∈l,∃o,bu V ω1 p.2=some o)->(sb (σf τ) (bB ω1 l)).map (·.1)=l.map λp=>σf τ p.1:=by
           intro l
           induction l with
           |nil=>intro _;rfl
           |cons p r ih=>
            intro hl
            obtain⟨o,ho⟩:=hl p Vy
            have:=ih λq hq=>hl q (Vu _ hq)
            unfold sb bB at this⊢
            simp only[WV,ho,VV,VC]
            rw[this]
          exact this os hsome
         refine ca ?_ ?_ ?_ ?_
         ·simp only[dQ]
          refine(uE x λn hn=>hω _ (λc o ho=> ?_) n (TV.allN_has o3 hn)).symm
          simp only[ed,qo hfi,ho,VV]
         ·simp only[dQ]
          rw[fD,hkl]
          rw[hml]
         ·simp only[dQ,Wk]
          refine congr (congrArg _ ?_) ?_
          ·have:∀(ω2:Nat->Nat) (l:List (Nat×TO V.N)),(∀p∈l,∃o,bu V ω1 p.2=some o)->(∀p∈l,bu V ω2 (TO.ren (σf τ) p.2)=(bu V ω1 p.2).map (Own.ren (σf τ)))->
            (sb (σf τ) (bB ω1 l)).map (λp=>(p.1,some p.2))=(l.map λp=>(σf τ p.1,TO.ren (σf τ) p.2)).map λp=>(p.1,bu V ω2 p.2):=by
            intro ω2 l
            induction l with
            |nil=>intro _ _;rfl
            |cons p r ih=>
             intro hl hl2
             obtain⟨o,ho⟩:=hl p Vy
             have h2:=hl2 p Vy
             have:=ih (λq hq=>hl q (Vu _ hq)) λq hq=>hl2 q (Vu _ hq)
             unfold sb bB at this⊢
             simp only[WV,ho,VV,VC,h2]
             rw[this]
           refine this _ os hsome λp hp=>AW p.2 λn hn=>hω _ (λc o ho=> ?_) n (TO.allN_has (o4 p hp) hn)
           simp only[ed,qo hfi,ho,VV]
          ·have e:own.map (λp:Nat×Own=>(p.1,(none:Option Own)))=(own.map (·.1)).map λn=>(n,none):=by rw[V1];rfl
           rw[e,hkl,V1,V1]
           rfl
         ·simp only[dQ]
          exact hkl
      ·cases h
     ·cases h
    ·cases h
   ·cases h
  ·cases h
 ·cases h
end
end Go.Tx
end
section
namespace Go.Tx
open Go.Awp
variable [Inhabited GMem]
section
variable (V:m_)
mutual
def fg{H:Type}:DataW H->Nat
 | .lit (.string bs)=>bs.length+1
 | .lit _=>1
 | .nil=>1
 | .ptr d=>fg d+1
 | .slice elems spare=>dbulkL elems+dbulkL spare+1
 | .agg parts=>dbulkL parts+1
 | .iface _ d=>fg d+1
 | .map _=>1
 | .held _=>1
def dbulkL{H:Type}:List (DataW H)->Nat
 |[]=>0
 |d::r=>fg d+dbulkL r
end
theorem ni{H:Type}:∀l:List (DataW H),dbulkL l=(l.map fg).sum
 |[]=>by simp[dbulkL]
 |d::r=>by simp[dbulkL,ni r]
inductive Ok:(t:Ty V.ι)->den V.N t->Prop
 |int {k:IntKind} {n:Int}:(Lit.int k n).wf=true->Ok (.int k) n
 |bool (b:Bool):Ok .bool b
 |str {s:ByteArray}:s.size<=maxLen->Ok .str s
 |sl {e:Ty V.ι} {xs:List (den V.N e)}:xs.length<=maxLen->(∀x∈xs,Ok e x)->Ok (.sl e) xs
 |st {i:V.ι} {x:V.N i}:(∀l∈V.cells i x,Ok l.t l.x)->Ok (.st i) x
inductive Bk:(t:Ty V.ι)->den V.N t->Nat->Prop
 |int {k:IntKind} {n:Int} {m:Nat}:1<=m->Bk (.int k) n m
 |bool {b:Bool} {m:Nat}:1<=m->Bk .bool b m
 |str {s:ByteArray} {m:Nat}:s.size+1<=m->Bk .str s m
 |sl {e:Ty V.ι} {xs:List (den V.N e)} {m:Nat} (ns:List Nat):ns.length=xs.length->(∀(i:Nat) (x:den V.N e) (n:Nat),xs[i]?=some x->ns[i]?=some n->Bk e x n)->ns.sum+1<=m->Bk (.sl e) xs m
 |st {i:V.ι} {x:V.N i} {m:Nat} (ns:List Nat):ns.length=(V.cells i x).length->(∀(j:Nat) (l:du V.N) (n:Nat),(V.cells i x)[j]?=some l->ns[j]?=some n->Bk l.t l.x n)->ns.sum+1<=m->Bk (.st i) x m
def Bks(ls:List (du V.N))(m:Nat):Prop:=
 ∃ns:List Nat,ns.length=ls.length/\(∀(j:Nat) (l:du V.N) (n:Nat),ls[j]?=some l->ns[j]?=some n->Bk V l.t l.x n)/\ns.sum<=m
def AZ:Ty V.ι->List (Ty V.ι)
 | .st i=>V.tys i
 |t=>[t]
def Pq(P:Program):Nat->List Field->Option (List (Ty V.ι))
 |_,[]=>some []
 |off,f::fs=>match V.ty f.type with
  |some τ=>if f.offset=off/\P.cellsOf f.type=tsz V.sz τ then match Pq P (off+tsz V.sz τ) fs with
   |some l=>some (AZ V τ++l)
   |none=>none
   else none
  |none=>none
def noF:Ty V.ι->Bool
 | .fnc=>false
 | .sl e=>noF e
 |_=>true
def bv(P:Program)(t:TypeId):Ty V.ι->Prop
 | .int k=>P.underlying t=some (.int k)
 | .bool=>P.underlying t=some .bool
 | .str=>P.underlying t=some .string
 | .sl e=>∃te,P.underlying t=some (.slice te)/\V.ty te=some e/\P.cellsOf te=tsz V.sz e/\WS 0 (tsz V.sz e)=true
 | .mp _ _=>False
 | .er=>False
 | .op _=>False
 | .fnc=>False
 | .st i=>∃fs:Array Field,P.underlying t=some (.struct fs)/\P.cellsOf t=V.sz i/\Pq V P 0 fs.toList=some (V.tys i)
structure D5 (P:Program):Prop where
 ty:∀t τ,V.ty t=some τ->noF V τ=true->bv V P t τ
 nof:∀i,(V.tys i).all (noF V)=true
 tys:∀i x,(V.cells i x).map (·.t)=V.tys i
 of:∀i ls,ls.map (·.t)=V.tys i->∃y,V.ofCells i ls=some y
end
section
variable {V:m_} {H0:Type} {enc:TypeId×Value->H0} {P:Program} {W:World} {spare:Nat->Bool} {held:Bool} {base:Nat}
theorem Ar{t:TypeId}(hu:P.underlying t=some .string){fuel:Nat}{cs:List Value}{x:DataW H0×List MemPlace}(h:DataW.trod enc P W base spare held fuel t cs=some x):
 ∃s,cs=[.string s]/\s.size<=maxLen:=by
 cases fuel with
 |zero=>cases h
 |succ fuel=>
  unfold DataW.trod at h
  rw[hu]at h
  simp only[]at h
  split at h<;>try(rename_i h1 _;cases h1)
  all_goals try(cases h;done)
  all_goals simp_all
def kZ(M:Mem)(cs:List Value)(ls:List (du V.N)):Prop:=
 cs.length=ls.length/\∀(i:Nat) (c:Value) (l:du V.N),cs[i]?=some c->ls[i]?=some l->di M c (aW V.sz V.enc l.t l.x)
theorem kZ.app{M:Mem}{cs cs':List Value}{ls ls':List (du V.N)}(h:kZ M cs ls)(h':kZ M cs' ls'):kZ M (cs++cs') (ls++ls'):=by
 refine⟨by simp[h.1,h'.1],λi c l hc hl=> ?_⟩
 by_cases hi:i<cs.length
 ·rw[VT hi]at hc
  rw[VT (by rw[<-h.1];exact hi)]at hl
  exact h.2 i c l hc hl
 ·rw[VR (by omega)]at hc
  rw[VR (by rw[<-h.1];omega),<-h.1]at hl
  exact h'.2 _ c l hc hl
theorem Bks.app{ls ls':List (du V.N)}{m m':Nat}(h:Bks V ls m)(h':Bks V ls' m'):Bks V (ls++ls') (m+m'):=by
 obtain⟨ns,h1,h2,h3⟩:=h
 obtain⟨ns',h1',h2',h3'⟩:=h'
 refine⟨ns++ns',by simp[h1,h1'],λj l n hl hn=> ?_,by simp;omega⟩
 by_cases hj:j<ls.length
 ·rw[VT hj]at hl
  rw[VT (by omega)]at hn
  exact h2 j l n hl hn
 ·rw[VR (by omega)]at hl
  rw[VR (by omega),h1]at hn
  exact h2' _ l n hl hn
theorem Bks.one{t:Ty V.ι}{x:den V.N t}{m:Nat}(h:Bk V t x m):Bks V [⟨t,x⟩] m:=
 ⟨[m],rfl,λj l n hl hn=>by
  cases j with
  |zero=>simp at hl hn;subst hl;subst hn;exact h
  |succ j=>simp at hl,by simp⟩
def Rd(M:Mem)(τ:Ty V.ι)(cs:List Value)(m:Nat):Prop:=
 ∃y:den V.N τ,Ok V τ y/\kZ M cs (aQ V τ y)/\(aQ V τ y).map (·.t)=AZ V τ/\(∀l∈aQ V τ y,Ok V l.t l.x)/\Bk V τ y m/\Bks V (aQ V τ y) m
theorem rg(F:D5 V P){M:Mem}{rd:TypeId->List Value->Nat->Prop}(hrd:∀t τ cs m,V.ty t=some τ->noF V τ=true->rd t cs m->Rd (V:=V) M τ cs m){cs:List Value}:∀(fs:List Field) (ms:List Nat) (off:Nat) (l:List (Ty V.ι)),
 Pq V P off fs=some l->(∀τ∈l,noF V τ=true)->ms.length=fs.length->(∀(j:Nat) (f:Field) (m:Nat),fs[j]?=some f->ms[j]?=some m->rd f.type ((cs.drop f.offset).take (P.cellsOf f.type)) m)->
 ∃(n:Nat) (ls:List (du V.N)),ls.map (·.t)=l/\kZ M ((cs.drop off).take n) ls/\(∀x∈ls,Ok V x.t x.x)/\n=ls.length/\Bks V ls ms.sum
 |[],ms,off,l,h,_,hm,_=>by
  simp[Pq]at h;subst h
  exact⟨0,[],rfl,⟨rfl,λi c l hc=>by simp at hc⟩,(λx hx=>nomatch hx),rfl,[],rfl,λj l n hl=>by simp at hl,by simp⟩
 |f::fs,[],off,l,h,_,hm,_=>by simp at hm
 |f::fs,m::ms,off,l,h,hnf,hm,hf=>by
  simp only[Pq]at h
  split at h
  ·rename_i τ hτ
   split at h
   ·rename_i hc
    obtain⟨ho,hsz⟩:=hc
    split at h
    ·rename_i l' hl'
     simp at h;subst h
     obtain⟨n,ls,a1,a2,a3,a4,a5⟩:=rg F hrd fs ms _ l' hl' (λτ hτ=>hnf τ (W5 _ hτ)) (by simpa using hm) λj g m hg hm=>hf (j+1) g m (by simpa using hg) (by simpa using hm)
     obtain⟨y,b1,b2,b3,b4,b5,b6⟩:=hrd f.type τ _ m hτ (by cases τ<;>first|rfl|exact hnf _ (WQ _ (by simp[AZ]))) (hf 0 f m rfl rfl)
     rw[ho,hsz]at b2
     refine⟨tsz V.sz τ+n,aQ V τ y++ls,by simp[a1,b3],?_,λx hx=> ?_,by simp[fP,a4],by rw[List.sum_cons];exact b6.app a5⟩
     ·have e:(cs.drop off).take (tsz V.sz τ+n)=(cs.drop off).take (tsz V.sz τ)++(cs.drop (off+tsz V.sz τ)).take n:=by
       rw[List.take_add,Xj]
      rw[e]
      exact b2.app a2
     ·rcases VJ.1 hx with hx|hx
      ·exact b4 x hx
      ·exact a3 x hx
    ·cases h
   ·cases h
  ·cases h
theorem xX{t:TypeId}{fs:Array Field}(hu:P.underlying t=some (.struct fs)){fuel:Nat}{cs:List Value}{x:DataW H0×List MemPlace}(h:DataW.trod enc P W base spare held (fuel+1) t cs=some x):
 cs.length=P.cellsOf t/\∃ds:List (DataW H0),x.1= .agg ds/\ds.length=fs.toList.length/\∀(i:Nat) (f:Field),fs.toList[i]?=some f->∃y,ds[i]?=some y.1/\DataW.trod enc P W base spare held fuel f.type ((cs.drop f.offset).take (P.cellsOf f.type))=some y:=by
 unfold DataW.trod at h
 rw[hu]at h
 simp only[]at h
 split at h
 ·rename_i hl
  rw[VF]at h
  obtain⟨ys,hm,hx⟩:=h
  subst hx
  refine⟨hl,ys.map (·.1),rfl,by rw[VA,(g5 hm).1],λi f hf=> ?_⟩
  obtain⟨y,hy1,hy⟩:=(g5 hm).2 i f hf
  exact⟨y,by rw[Vz,hy1];rfl,hy⟩
 ·cases h
theorem Aq{t e:TypeId}(hu:P.underlying t=some (.slice e)){fuel:Nat}{cs:List Value}{x:DataW H0×List MemPlace}(h:DataW.trod enc P W base spare held (fuel+1) t cs=some x):
 (cs=[.slice none 0 0]/\x.1= .nil)\/∃a len cap,cs=[.slice (some a) len cap]/\len<=cap/\cap<=maxLen/\∃ds sp:List (DataW H0),x.1= .slice ds sp/\ds.length=len/\
   ∀i,i<len->∃row y,W.cells? base (a.add (i *P.cellsOf e)) (P.cellsOf e)=some row/\DataW.trod enc P W base spare held fuel e row=some y/\ds[i]?=some y.1:=by
 unfold DataW.trod at h
 rw[hu]at h
 simp only[]at h
 split at h
 all_goals first
  |(simp only[Vx,reduceCtorEq]at *;done)
  |(left;simp only[Vx]at h;exact⟨rfl,by rw[<-h]⟩)
  |(rename_i a len cap hx
    simp only[Vx,TypeDesc.slice.injEq]at hx
    subst hx
    right
    split at h
    ·rename_i hc
     rw[WO]at h
     obtain⟨ys,hm,h⟩:=h
     rw[VF]at h
     obtain⟨rest,_,h⟩:=h
     subst h
     refine⟨a,len,cap,rfl,hc.2.1,hc.2.2,ys.map (·.1),rest.map (·.1),rfl,by rw[VA,(g5 hm).1,List.length_range],λi hi=> ?_⟩
     obtain⟨y,hy1,hy⟩:=(g5 hm).2 i i (by rw[W3 hi])
     rw[WO]at hy
     obtain⟨row,h1,h2⟩:=hy
     exact⟨row,y,h1,h2,by rw[Vz,hy1];rfl⟩
    ·cases h)
  |skip
theorem mi{H:Type}(d:DataW H):1<=fg d:=by
 cases d with
 |lit l=>cases l<;>simp[fg]
 |_=>simp[fg]
theorem xW{t:TypeId}(hu:P.underlying t=some .string){fuel:Nat}{cs:List Value}{x:DataW H0×List MemPlace}(h:DataW.trod enc P W base spare held fuel t cs=some x):
 ∃s,cs=[.string s]/\s.size<=maxLen/\fg x.1=s.size+1:=by
 cases fuel with
 |zero=>cases h
 |succ fuel=>
  obtain⟨s,rfl,hs⟩:=Ar hu h
  refine⟨s,rfl,hs,?_⟩
  unfold DataW.trod at h
  rw[hu]at h
  simp only[]at h
  rw[Y5 hs]at h
  cases h
  show fg (.lit (.string s.data.toList))=s.data.size+1
  rw[fg,WK]
theorem qj(τ:Ty V.ι)(y:den V.N τ):dh V.sz V.enc τ y=(aQ V τ y).map λl=>aW V.sz V.enc l.t l.x:=by
 cases τ<;>first|rfl|(simp only[dh,aQ];exact V.enc_cells _ _)|simp[dh,aQ,aW]
theorem JX(F:D5 V P):∀(fuel:Nat) (t:TypeId) (τ:Ty V.ι) (cs:List Value) (x:DataW H0×List MemPlace),V.ty t=some τ->noF V τ=true->DataW.trod enc P W base spare held fuel t cs=some x->Rd (f7 W) τ cs (fg x.1):=by
 intro fuel
 induction fuel using YB with
 |ind fuel ih=>
 intro t τ cs x hty hn h
 have hf:=F.ty t τ hty hn
 cases τ with
 |mp k v=>exact hf.elim
 |er=>exact hf.elim
 |op e=>exact hf.elim
 |fnc=>exact hf.elim
 |int k=>
  obtain⟨n,rfl,hw⟩:=JY hf h
  refine⟨n, .int hw,⟨rfl,λi c l hc hl=> ?_⟩,rfl,λl hl=> ?_, .int (mi _), .one (.int (mi _))⟩
  ·cases i with
   |zero=>simp[aQ]at hc hl;subst hc;subst hl;exact .v _
   |succ i=>simp at hc
  ·simp[aQ]at hl;subst hl;exact .int hw
 |bool=>
  obtain⟨b,rfl⟩:=Hj hf h
  refine⟨b, .bool b,⟨rfl,λi c l hc hl=> ?_⟩,rfl,λl hl=> ?_, .bool (mi _), .one (.bool (mi _))⟩
  ·cases i with
   |zero=>simp[aQ]at hc hl;subst hc;subst hl;exact .v _
   |succ i=>simp at hc
  ·simp[aQ]at hl;subst hl;exact .bool b
 |str=>
  obtain⟨s,rfl,hs,hb⟩:=xW hf h
  refine⟨s, .str hs,⟨rfl,λi c l hc hl=> ?_⟩,rfl,λl hl=> ?_, .str (YY hb.symm), .one (.str (YY hb.symm))⟩
  ·cases i with
   |zero=>simp[aQ]at hc hl;subst hc;subst hl;exact .v _
   |succ i=>simp at hc
  ·simp[aQ]at hl;subst hl;exact .str hs
 |st i=>
  obtain⟨fs,hu,hsz,hfl⟩:=hf
  cases fuel with
  |zero=>cases h
  |succ fuel=>
   obtain⟨hl,ds,hx,hdl,hr⟩:=xX hu h
   obtain⟨n,ls,a1,a2,a3,a4,a5⟩:=rg F (M:=f7 W) (rd:=λt cs m=>∃y,DataW.trod enc P W base spare held fuel t cs=some y/\m=fg y.1) (λt τ cs m hτ hn ⟨y,hy,hm⟩=>hm▸ih fuel (by omega) t τ cs y hτ hn hy) fs.toList (ds.map fg) 0 _ hfl (λτ hτ=>VH.1 (F.nof _) τ hτ)
    (by rw[VA,hdl])
    (λj f m hf hm=>by
      obtain⟨y,hy1,hy⟩:=hr j f hf
      rw[Vz,hy1]at hm
      exact⟨y,hy,by simpa using hm.symm⟩)
   obtain⟨y,hy⟩:=F.of i ls a1
   have hc:=V.of_cells i ls y hy
   have hn:n=cs.length:=by rw[a4,<-hc,V.len_cells,hl,hsz]
   rw[V6,Wf (by omega)]at a2
   have hdb:fg x.1=(ds.map fg).sum+1:=by rw[hx,fg,ni]
   obtain⟨ns,c1,c2,c3⟩:=a5
   refine⟨y, .st (by rw[hc];exact a3),by simpa only[aQ,hc]using a2,by simpa only[aQ,hc,AZ]using a1,by simpa only[aQ,hc]using a3, .st ns (by rw[hc];exact c1) (by rw[hc];exact c2) (by omega),ns,by simpa only[aQ,hc]using c1,by simpa only[aQ,hc]using c2,by omega⟩
 |sl e=>
  obtain⟨te,hu,hte,hsz,hpos⟩:=hf
  have hpos:0<tsz V.sz e:=by simpa[WZ]using hpos
  cases fuel with
  |zero=>cases h
  |succ fuel=>
   have fin:∀(c3:Value) (ys:List (den V.N e)),ys.length<=maxLen->(∀y∈ys,Ok V e y)->di (f7 W) c3 (aW V.sz V.enc (.sl e) ys)->Bk V (.sl e) ys (fg x.1)->Rd (V:=V) (f7 W) (.sl e) [c3] (fg x.1):=by
    intro c3 ys h1 h2 h3 h4
    refine⟨ys, .sl h1 h2,⟨rfl,λi c l hc hl=> ?_⟩,rfl,λl hl=> ?_,h4, .one h4⟩
    ·cases i with
     |zero=>simp[aQ]at hc hl;subst hc;subst hl;exact h3
     |succ i=>simp at hc
    ·simp[aQ]at hl;subst hl;exact .sl h1 h2
   rcases Aq hu h with⟨h4,hx⟩|⟨a,len,cap,h4,hlc,hcm,ds,sp,hx,hdl,hr⟩
   ·subst h4
    exact fin _ [] (by simp) (λy hy=>by cases hy) (.slnil _) (.sl [] rfl (λi x n hx=>by simp at hx) (by rw[hx];simp[fg]))
   ·subst h4
    rw[hsz]at hr
    obtain⟨ys,hyl,hys⟩:=FY (α:=den V.N e) (R:=λi y=>∃row d,W.cells? base (a.add (i *tsz V.sz e)) (tsz V.sz e)=some row/\Ok V e y/\kZ (f7 W) row (aQ V e y)/\ds[i]?=some d/\Bk V e y (fg d)) len
     λi hi=>by
      obtain⟨row,z,g1,g2,g3⟩:=hr i hi
      obtain⟨y,b1,b2,_,_,b5,_⟩:=ih fuel (by omega) te e row z hte (by simpa[noF]using hn) g2
      exact⟨y,row,z.1,g1,b1,b2,g3,b5⟩
    have hdb:fg x.1=(ds.map fg).sum+dbulkL sp+1:=by rw[hx,fg,ni]
    refine fin _ ys (by omega) (λy hy=> ?_) (di.of_slice (b:=base) hpos hlc (by rw[VA,hyl]) (λr hr'=> ?_) λi hi=> ?_) (.sl (ds.map fg) (by rw[VA,hdl,hyl]) (λi y n hy hn=> ?_) (by omega))
    ·obtain⟨i,hi,rfl⟩:=XO hy
     obtain⟨row,_,_,e1,_⟩:=hys i _ (Vw hi)
     exact e1
    ·obtain⟨y,_,rfl⟩:=VQ.1 hr'
     rw[qj,VA,fP]
    ·obtain⟨row,_,e0,_,e2,_⟩:=hys i (ys[i]'(by omega)) (Vw (by omega))
     refine⟨row,e0,λr hr' j c y hc hy=> ?_⟩
     rw[Vz,Vw (by omega:i<ys.length)]at hr'
     simp at hr'
     subst hr'
     rw[qj,Vz,VF]at hy
     obtain⟨l,hl,rfl⟩:=hy
     exact e2.2 j c l hc hl
    ·obtain⟨row,d,_,_,_,e3,e4⟩:=hys i y hy
     rw[Vz,e3]at hn
     simp at hn
     subst hn
     exact e4
theorem gz{r:Reach}{t:TypeId}{cs:Array Value}(h:(∃k,P.underlying t=some (.int k))\/P.underlying t=some .bool\/P.underlying t=some .string\/∃e,P.underlying t=some (.slice e)):
 ¬Value.okWide P W r base t (.agg cs):=by
 intro hv
 unfold Value.okWide at hv
 rcases h with⟨k,h⟩|h|h|⟨e,h⟩<;>rw[h]at hv<;>simp only[Cell.okWide,Cell.ok,h]at hv
theorem G4(F:D5 V P){r:Reach}{b0:Nat}{t:TypeId}{τ:Ty V.ι}{v:Value}{d:DataW H0}{p:List MemPlace}(hty:V.ty t=some τ)(hok:Value.okWide P W r b0 t v)(h:DataW.Trod enc P W base spare held t v d p)(hn:noF V τ=true:=by rfl):
 ∃y:den V.N τ,Ok V τ y/\di (f7 W) v (aW V.sz V.enc τ y)/\Bk V τ y (fg d):=by
 obtain⟨fuel,h⟩:=h
 obtain⟨y,h1,h2,_,_,h5,_⟩:=JX F fuel t τ _ _ hty hn h
 refine⟨y,h1,?_,h5⟩
 have hf:=F.ty t τ hty hn
 have cell:(∀cs,v≠ .agg cs)->aQ V τ y=[⟨τ,y⟩]->di (f7 W) v (aW V.sz V.enc τ y):=by
  intro hn hr
  rw[hr]at h2
  have hc:v.cells.toList=[v]:=by cases v<;>first|rfl|exact(hn _ rfl).elim
  rw[hc]at h2
  exact h2.2 0 v ⟨τ,y⟩ rfl rfl
 cases τ with
 |mp k v=>exact hf.elim
 |er=>exact hf.elim
 |op e=>exact hf.elim
 |fnc=>exact hf.elim
 |int k=>exact cell (λcs e=>by subst e;exact gz (.inl ⟨k,hf⟩) hok) rfl
 |bool=>exact cell (λcs e=>by subst e;exact gz (.inr (.inl hf)) hok) rfl
 |str=>exact cell (λcs e=>by subst e;exact gz (.inr (.inr (.inl hf))) hok) rfl
 |sl e=>
  obtain⟨te,hu,_⟩:=hf
  exact cell (λcs e=>by subst e;exact gz (.inr (.inr (.inr ⟨te,hu⟩))) hok) rfl
 |st i=>
  obtain⟨fs,hu,_,_⟩:=hf
  unfold Value.okWide at hok
  rw[hu]at hok
  obtain⟨cs,rfl,_⟩:=hok
  simp only[Value.cells]at h2
  simp only[aW]
  rw[V.enc_cells]
  refine .agg cs _ (by rw[VA];have:=h2.1;simpa[aQ]using this) λk c x hc hx=> ?_
  rw[Vz,VF]at hx
  obtain⟨l,hl,rfl⟩:=hx
  exact h2.2 k c l (by simpa using hc) hl
theorem JR(F:D5 V P){r:Reach}{b0:Nat}{t:TypeId}{τ:Ty V.ι}{v:Value}{d:DataW H0}{p:List MemPlace}(hty:V.ty t=some τ)(hok:Value.okWide P W r b0 t v)(h:DataW.Trod enc P W base spare held t v d p)(hn:noF V τ=true:=by rfl):
 ∃y:den V.N τ,Ok V τ y/\di (f7 W) v (aW V.sz V.enc τ y):=
 let⟨y,h1,h2,_⟩:=G4 F hty hok h hn
 ⟨y,h1,h2⟩
end
end Go.Tx
end
section
namespace Go.Proofs.YtpelkenpapfadaaGreatDoor
open Go.Awp Go.Shelf
open Go.Proofs.Tryz (prog)
set_option maxRecDepth 100000
theorem QT:U8Types prog Tryz.lays197_ren:=⟨by kernel_rfl,by kernel_rfl,by kernel_rfl,by kernel_rfl⟩
theorem Pi:U8Extra prog Tryz.lays197_ren:=⟨by kernel_rfl,by kernel_rfl,by kernel_rfl,by kernel_rfl,by kernel_rfl,by kernel_rfl,by kernel_rfl⟩
theorem Po:Rows.laid_unicode_utf8_first=Lib.firstData:=by kernel_rfl
theorem L5:(Rows.laid_unicode_utf8_acceptRanges:DataW Unit)=Lib.acceptData:=by kernel_rfl
theorem Ut:(Rows.laid_internal_strconv_uint64pow10:DataW Unit)=Lib.tabData .u64 Lib.pow10Tab:=by kernel_rfl
def KE:List Int:=[0,1,56,2,57,49,28,3,61,58,42,50,38,29,17,4,62,47,59,36,45,43,51,22,53,39,33,30,24,18,12,5,63,55,48,27,60,41,37,16,46,35,44,21,52,32,23,11,54,26,40,15,34,20,31,10,25,14,19,9,13,8,7,6]
theorem Md:(Rows.laid_math_bits_deBruijn64tab:DataW Unit)=Lib.tabData .u8 KE:=by kernel_rfl
def R8:List (String×DataW Unit):=[("math/bits.deBruijn32tab",Rows.laid_math_bits_deBruijn32tab),("math/bits.deBruijn64tab",Rows.laid_math_bits_deBruijn64tab),("internal/strconv.uint64pow10",Rows.laid_internal_strconv_uint64pow10),("unicode/utf8.acceptRanges",Rows.laid_unicode_utf8_acceptRanges),("strconv.ErrRange",Rows.laid_strconv_ErrRange),("strconv.ErrSyntax",Rows.laid_strconv_ErrSyntax),("unicode/utf8.first",Rows.laid_unicode_utf8_first)]
theorem oM{P:Program}{w:World}{name:String}{k:IntKind}{zs:List Int}{g:Nat}{t e:TypeId}{n:Nat}(hg:P.globalNamed name=some g)(hty:(P.globals[g]?).map (·.type)=some t)(ht:P.underlying t=some (.array n e))(he:P.underlying e=some (.int k))(hce:P.cellsOf e=1)(hct:P.cellsOf t=n)
 (h:Lib.VarReads P w name (Lib.tabData k zs)):Lib.TabIs P w name k zs:=by
 obtain⟨g',t',cs,fuel,p,hg',ht',hvar,hd⟩:=h
 obtain rfl:=Xn (hg.symm.trans hg')
 obtain rfl:=Xn (hty.symm.trans ht')
 unfold Lib.TabIs
 rw[hvar,<-Lib.cells_of_tab ht he hce hct hd]
theorem kS{P:Program}{w:World}{name nm:String}{d:DataW Unit}{g:Nat}{t:TypeId}{ms:TypeDesc}(hg:P.globalNamed name=some g)(hty:(P.globals[g]?).map (·.type)=some t)(ht:P.underlying t=some ms)(hms:∃l,ms= .interface l)
 (h:Lib.VarReads P w name (.iface nm d)):∃u v,w.cell? ⟨g,0,none⟩=some (.iface u v):=by
 obtain⟨l,rfl⟩:=hms
 obtain⟨g',t',cs,fuel,p,hg',ht',hvar,hd⟩:=h
 obtain rfl:=Xn (hg.symm.trans hg')
 obtain rfl:=Xn (hty.symm.trans ht')
 have hc:∃u v,cs.toList=[.iface u v]:=by
  cases fuel with
  |zero=>cases hd
  |succ fuel=>
   unfold DataW.trod at hd
   rw[ht]at hd
   simp only[]at hd
   split at hd<;>try(rename_i h1 _;cases h1)
   all_goals try(cases hd;done)
   all_goals first
    |(rename_i u v _;exact⟨u,v,by assumption⟩)
    |(simp_all;done)
 obtain⟨u,v,hc⟩:=hc
 refine⟨u,v,?_⟩
 unfold World.var? at hvar
 rw[hg]at hvar
 simp only[Vk]at hvar
 split at hvar
 ·rename_i cs' _ _ hw
  cases hvar
  have:cs[0]?=some (.iface u v):=by rw[<-WX,hc];rfl
  simpa[World.cell?,hw]using this
 ·cases hvar
theorem FH{W:World}(h:laidMetH prog R8 W):GOk (f7 W) W:=by
 rw[MakeChecks.laidMetH_plain _ _ _ (by kernel_rfl)]at h
 have h1:Lib.VarReads prog W "unicode/utf8.acceptRanges" Lib.acceptData:=L5▸Lib.laidMet.reads h (.tail _ (.tail _ (.tail _ (.head _))))
 have h2:Lib.VarReads prog W "unicode/utf8.first" Lib.firstData:=Po▸Lib.laidMet.reads h (.tail _ (.tail _ (.tail _ (.tail _ (.tail _ (.tail _ (.head _)))))))
 have h3:Lib.VarReads prog W "internal/strconv.uint64pow10" (Lib.tabData .u64 Lib.pow10Tab):=Ut▸Lib.laidMet.reads h (.tail _ (.tail _ (.head _)))
 have h4:=kS (P:=prog) (g:=7) (t:=85) (by kernel_rfl) (by kernel_rfl) Tryz.underlying85 ⟨_,rfl⟩ (Lib.laidMet.reads h (.tail _ (.tail _ (.tail _ (.tail _ (.head _))))))
 have h5:=kS (P:=prog) (g:=6) (t:=85) (by kernel_rfl) (by kernel_rfl) Tryz.underlying85 ⟨_,rfl⟩ (Lib.laidMet.reads h (.tail _ (.tail _ (.tail _ (.tail _ (.tail _ (.head _)))))))
 have h6:Lib.TabIs prog W "internal/strconv.uint64pow10" .u64 Lib.pow10Tab:=by
  obtain⟨g,t,cs,fuel,p,hg,ht,_,_⟩:=id h3
  exact oM (g:=0) (t:=189) (e:=171) (n:=20) (by kernel_rfl) (by kernel_rfl) (by kernel_rfl) (by kernel_rfl) (by kernel_rfl) (by kernel_rfl) h3
 have h7:W.cell? ⟨5,15,none⟩=some (.int .u8 4):=by
  have h9:Lib.VarReads prog W "math/bits.deBruijn64tab" (Lib.tabData .u8 KE):=Md▸Lib.laidMet.reads h (.tail _ (.head _))
  have h10:=oM (P:=prog) (g:=5) (t:=217) (e:=5) (n:=64) (by kernel_rfl) (by kernel_rfl) (by kernel_rfl) (by kernel_rfl) (by kernel_rfl) (by kernel_rfl) h9
  have:=h10.cell (g:=5) (by kernel_rfl) 15 (by decide)
  exact this
 refine⟨N3 h7 (utf8Tabs_of_readsT QT Pi h2 h1) h6,λb hb=> ?_,λp hp=> ?_⟩
 ·have hb:b∈[6,7]:=hb
  simp only[VG,Yt,or_false]at hb
  rcases hb with rfl|rfl
  ·exact h5
  ·exact h4
 ·have hp:p∈[(0,20)]:=hp
  simp only[VG,Yt,or_false]at hp
  subst hp
  have hn:prog.globalNamed "internal/strconv.uint64pow10" =some 0:=by kernel_rfl
  refine⟨⟨_,h6.cell hn 0 (by rw[rb];decide)⟩,?_⟩
  unfold Lib.TabIs World.var? at h6
  rw[hn]at h6
  simp only[Vk]at h6
  split at h6
  ·rename_i cs t fr hw
   cases h6
   exact⟨_,_,_,hw,by simp[rb]⟩
  ·cases h6
end Go.Proofs.YtpelkenpapfadaaGreatDoor
end
section
namespace Go.Tx
open Go.Awp
variable [Inhabited GMem]
section
variable {V:m_}
end
end Go.Tx
end
section
namespace Go.Proofs.YtpelkenpapfadaaGreatDoor.Ty
open Go.Awp
theorem mixed:Tryz.prog.follows .mixedOrders=true:=by kernel_rfl
end Go.Proofs.YtpelkenpapfadaaGreatDoor.Ty
end
section
namespace Go.Proofs.YtpelkenpapfadaaGreatDoor
open Go.Awp Go.Tx
structure aG where
 word:Int
 big:Bool
 deriving DecidableEq
noncomputable def aG.enc(x:aG):List D:=[.v (.int .i64 x.word)]++[.v (.bool x.big)]
noncomputable def aG.encd(x:aG):List DD:=[.d (.v (.int .i64 x.word))]++[.d (.v (.bool x.big))]
theorem aG.encd_toL(x:aG):DD.toL x.encd=some x.enc:=(DD.toL_app (oX _) (oX _))
structure aa where
 kind:Int
 n:Int
 flag:Bool
 parts:(List aa)
mutual
noncomputable def aa.enc:aa->List D
 |⟨a0,a1,a2,a3⟩=>[.v (.int .i64 a0)]++[.v (.int .i64 a1)]++[.v (.bool a2)]++[.sl 4 (aa.encL a3)]
noncomputable def aa.encL:List aa->List (List D)
 |[]=>[]
 |x::r=>aa.enc x::aa.encL r
end
theorem aa.encL_map:∀l:List aa,aa.encL l=l.map aa.enc
 |[]=>by simp[aa.encL]
 |x::r=>by simp[aa.encL,aa.encL_map r]
mutual
noncomputable def aa.encd:aa->List DD
 |⟨a0,a1,a2,a3⟩=>[.d (.v (.int .i64 a0))]++[.d (.v (.int .i64 a1))]++[.d (.v (.bool a2))]++[.sl 42 4 (aa.encdL a3)]
noncomputable def aa.encdL:List aa->List (List DD)
 |[]=>[]
 |x::r=>aa.encd x::aa.encdL r
end
theorem aa.encdL_map:∀l:List aa,aa.encdL l=l.map aa.encd
 |[]=>by simp[aa.encdL]
 |x::r=>by simp[aa.encdL,aa.encdL_map r]
mutual
theorem aa.encd_toL:∀x:aa,DD.toL x.encd=some x.enc
 |⟨a0,a1,a2,a3⟩=>by rw[aa.encd,aa.enc];exact(DD.toL_app (DD.toL_app (DD.toL_app (oX _) (oX _)) (oX _)) (QP (aa.encdL_toR a3)))
theorem aa.encdL_toR:∀l:List aa,DD.toR (aa.encdL l)=some (aa.encL l)
 |[]=>by rw[aa.encdL,aa.encL];rfl
 |x::r=>by rw[aa.encdL,aa.encL];exact TM (aa.encd_toL x) (aa.encdL_toR r)
end
structure Item where
 kind:Int
 name0:ByteArray
 n:Int
 names:(List ByteArray)
 layout:aa
noncomputable def Item.enc(x:Item):List D:=[.v (.int .i64 x.kind)]++[.v (.string x.name0)]++[.v (.int .i64 x.n)]++[.sl 1 (W0 (λy=>[.v (.string y)]) x.names)]++aa.enc x.layout
noncomputable def Item.encd(x:Item):List DD:=[.d (.v (.int .i64 x.kind))]++[.d (.v (.string x.name0))]++[.d (.v (.int .i64 x.n))]++[.sl 9 1 (W0 (λy=>[.d (.v (.string y))]) x.names)]++aa.encd x.layout
theorem Item.encd_toL(x:Item):DD.toL x.encd=some x.enc:=(DD.toL_app (DD.toL_app (DD.toL_app (DD.toL_app (oX _) (oX _)) (oX _)) (QP (QQ (λy=>(oX _)) _))) (aa.encd_toL _))
structure k_ where
 number:Int
 text:ByteArray
noncomputable def k_.enc(x:k_):List D:=[.v (.int .i64 x.number)]++[.v (.string x.text)]
noncomputable def k_.encd(x:k_):List DD:=[.d (.v (.int .i64 x.number))]++[.d (.v (.string x.text))]
theorem k_.encd_toL(x:k_):DD.toL x.encd=some x.enc:=(DD.toL_app (oX _) (oX _))
structure bM where
 items:(List Item)
noncomputable def bM.enc(x:bM):List D:=[.sl 8 (W0 (λy=>Item.enc y) x.items)]
noncomputable def bM.encd(x:bM):List DD:=[.sl 44 8 (W0 (λy=>Item.encd y) x.items)]
theorem bM.encd_toL(x:bM):DD.toL x.encd=some x.enc:=(QP (QQ (λy=>(Item.encd_toL y)) _))
structure bj where
 size:Int
 align:Int
 deriving DecidableEq
noncomputable def bj.enc(x:bj):List D:=[.v (.int .i64 x.size)]++[.v (.int .i64 x.align)]
noncomputable def bj.encd(x:bj):List DD:=[.d (.v (.int .i64 x.size))]++[.d (.v (.int .i64 x.align))]
theorem bj.encd_toL(x:bj):DD.toL x.encd=some x.enc:=(DD.toL_app (oX _) (oX _))
structure md where
 size:Int
 align:Int
 deriving DecidableEq
noncomputable def md.enc(x:md):List D:=[.v (.int .i64 x.size)]++[.v (.int .i64 x.align)]
noncomputable def md.encd(x:md):List DD:=[.d (.v (.int .i64 x.size))]++[.d (.v (.int .i64 x.align))]
theorem md.encd_toL(x:md):DD.toL x.encd=some x.enc:=(DD.toL_app (oX _) (oX _))
structure aK where
 at0:Int
 text:ByteArray
noncomputable def aK.enc(x:aK):List D:=[.v (.int .i64 x.at0)]++[.v (.string x.text)]
noncomputable def aK.encd(x:aK):List DD:=[.d (.v (.int .i64 x.at0))]++[.d (.v (.string x.text))]
theorem aK.encd_toL(x:aK):DD.toL x.encd=some x.enc:=(DD.toL_app (oX _) (oX _))
structure gu where
 l:(List ByteArray)
 before:(List Item)
 wrong:Bool
noncomputable def gu.enc(x:gu):List D:=[.sl 1 (W0 (λy=>[.v (.string y)]) x.l)]++[.sl 8 (W0 (λy=>Item.enc y) x.before)]++[.v (.bool x.wrong)]
noncomputable def gu.encd(x:gu):List DD:=[.sl 9 1 (W0 (λy=>[.d (.v (.string y))]) x.l)]++[.sl 44 8 (W0 (λy=>Item.encd y) x.before)]++[.d (.v (.bool x.wrong))]
theorem gu.encd_toL(x:gu):DD.toL x.encd=some x.enc:=(DD.toL_app (DD.toL_app (QP (QQ (λy=>(oX _)) _)) (QP (QQ (λy=>(Item.encd_toL y)) _))) (oX _))
structure an where
 count:Int
 deep:Int
 large:Bool
 deriving DecidableEq
noncomputable def an.enc(x:an):List D:=[.v (.int .i64 x.count)]++[.v (.int .i64 x.deep)]++[.v (.bool x.large)]
noncomputable def an.encd(x:an):List DD:=[.d (.v (.int .i64 x.count))]++[.d (.v (.int .i64 x.deep))]++[.d (.v (.bool x.large))]
theorem an.encd_toL(x:an):DD.toL x.encd=some x.enc:=(DD.toL_app (DD.toL_app (oX _) (oX _)) (oX _))
structure bC where
 lo:Int
 hi:Int
 deriving DecidableEq
noncomputable def bC.enc(x:bC):List D:=[.v (.int .u8 x.lo)]++[.v (.int .u8 x.hi)]
noncomputable def bC.encd(x:bC):List DD:=[.d (.v (.int .u8 x.lo))]++[.d (.v (.int .u8 x.hi))]
theorem bC.encd_toL(x:bC):DD.toL x.encd=some x.enc:=(DD.toL_app (oX _) (oX _))
structure bD where
 s:ByteArray
noncomputable def bD.enc(x:bD):List D:=[.v (.string x.s)]
noncomputable def bD.encd(x:bD):List DD:=[.d (.v (.string x.s))]
theorem bD.encd_toL(x:bD):DD.toL x.encd=some x.enc:=(oX _)
inductive SN where
 |targetT
 |layoutT
 |itemT
 |partT
 |translatorT
 |roomT
 |placeT
 |tokenT
 |readerT
 |countedT
 |acceptRangeT
 |errorStringT
 deriving DecidableEq
abbrev NN:SN->Type
 | .targetT=>aG
 | .layoutT=>aa
 | .itemT=>Item
 | .partT=>k_
 | .translatorT=>bM
 | .roomT=>bj
 | .placeT=>md
 | .tokenT=>aK
 | .readerT=>gu
 | .countedT=>an
 | .acceptRangeT=>bC
 | .errorStringT=>bD
noncomputable def szN:SN->Nat
 | .targetT=>2
 | .layoutT=>4
 | .itemT=>8
 | .partT=>2
 | .translatorT=>1
 | .roomT=>2
 | .placeT=>2
 | .tokenT=>2
 | .readerT=>3
 | .countedT=>3
 | .acceptRangeT=>2
 | .errorStringT=>1
noncomputable def U7:SN->List (Ty SN)
 | .targetT=>[(.int .i64), .bool]
 | .layoutT=>[(.int .i64),(.int .i64), .bool,(.sl (.st .layoutT))]
 | .itemT=>[(.int .i64), .str,(.int .i64),(.sl .str),(.int .i64),(.int .i64), .bool,(.sl (.st .layoutT))]
 | .partT=>[(.int .i64), .str]
 | .translatorT=>[(.sl (.st .itemT))]
 | .roomT=>[(.int .i64),(.int .i64)]
 | .placeT=>[(.int .i64),(.int .i64)]
 | .tokenT=>[(.int .i64), .str]
 | .readerT=>[(.sl .str),(.sl (.st .itemT)), .bool]
 | .countedT=>[(.int .i64),(.int .i64), .bool]
 | .acceptRangeT=>[(.int .u8),(.int .u8)]
 | .errorStringT=>[.str]
noncomputable def gS:(i:SN)->NN i->List (du NN)
 | .targetT,x=>[⟨(.int .i64),x.word⟩,⟨.bool,x.big⟩]
 | .layoutT,x=>[⟨(.int .i64),x.kind⟩,⟨(.int .i64),x.n⟩,⟨.bool,x.flag⟩,⟨(.sl (.st .layoutT)),x.parts⟩]
 | .itemT,x=>[⟨(.int .i64),x.kind⟩,⟨.str,x.name0⟩,⟨(.int .i64),x.n⟩,⟨(.sl .str),x.names⟩,⟨(.int .i64),x.layout.kind⟩,⟨(.int .i64),x.layout.n⟩,⟨.bool,x.layout.flag⟩,⟨(.sl (.st .layoutT)),x.layout.parts⟩]
 | .partT,x=>[⟨(.int .i64),x.number⟩,⟨.str,x.text⟩]
 | .translatorT,x=>[⟨(.sl (.st .itemT)),x.items⟩]
 | .roomT,x=>[⟨(.int .i64),x.size⟩,⟨(.int .i64),x.align⟩]
 | .placeT,x=>[⟨(.int .i64),x.size⟩,⟨(.int .i64),x.align⟩]
 | .tokenT,x=>[⟨(.int .i64),x.at0⟩,⟨.str,x.text⟩]
 | .readerT,x=>[⟨(.sl .str),x.l⟩,⟨(.sl (.st .itemT)),x.before⟩,⟨.bool,x.wrong⟩]
 | .countedT,x=>[⟨(.int .i64),x.count⟩,⟨(.int .i64),x.deep⟩,⟨.bool,x.large⟩]
 | .acceptRangeT,x=>[⟨(.int .u8),x.lo⟩,⟨(.int .u8),x.hi⟩]
 | .errorStringT,x=>[⟨.str,x.s⟩]
noncomputable def Ln:(i:SN)->NN i->List D
 | .targetT,x=>aG.enc x
 | .layoutT,x=>aa.enc x
 | .itemT,x=>Item.enc x
 | .partT,x=>k_.enc x
 | .translatorT,x=>bM.enc x
 | .roomT,x=>bj.enc x
 | .placeT,x=>md.enc x
 | .tokenT,x=>aK.enc x
 | .readerT,x=>gu.enc x
 | .countedT,x=>an.enc x
 | .acceptRangeT,x=>bC.enc x
 | .errorStringT,x=>bD.enc x
noncomputable def ofN:(i:SN)->List (du NN)->Option (NN i)
 | .targetT,[⟨(.int .i64),a0⟩,⟨.bool,a1⟩]=>some ⟨a0,a1⟩
 | .layoutT,[⟨(.int .i64),a0⟩,⟨(.int .i64),a1⟩,⟨.bool,a2⟩,⟨(.sl (.st .layoutT)),a3⟩]=>some ⟨a0,a1,a2,a3⟩
 | .itemT,[⟨(.int .i64),a0⟩,⟨.str,a1⟩,⟨(.int .i64),a2⟩,⟨(.sl .str),a3⟩,⟨(.int .i64),a4⟩,⟨(.int .i64),a5⟩,⟨.bool,a6⟩,⟨(.sl (.st .layoutT)),a7⟩]=>some ⟨a0,a1,a2,a3,⟨a4,a5,a6,a7⟩⟩
 | .partT,[⟨(.int .i64),a0⟩,⟨.str,a1⟩]=>some ⟨a0,a1⟩
 | .translatorT,[⟨(.sl (.st .itemT)),a0⟩]=>some ⟨a0⟩
 | .roomT,[⟨(.int .i64),a0⟩,⟨(.int .i64),a1⟩]=>some ⟨a0,a1⟩
 | .placeT,[⟨(.int .i64),a0⟩,⟨(.int .i64),a1⟩]=>some ⟨a0,a1⟩
 | .tokenT,[⟨(.int .i64),a0⟩,⟨.str,a1⟩]=>some ⟨a0,a1⟩
 | .readerT,[⟨(.sl .str),a0⟩,⟨(.sl (.st .itemT)),a1⟩,⟨.bool,a2⟩]=>some ⟨a0,a1,a2⟩
 | .countedT,[⟨(.int .i64),a0⟩,⟨(.int .i64),a1⟩,⟨.bool,a2⟩]=>some ⟨a0,a1,a2⟩
 | .acceptRangeT,[⟨(.int .u8),a0⟩,⟨(.int .u8),a1⟩]=>some ⟨a0,a1⟩
 | .errorStringT,[⟨.str,a0⟩]=>some ⟨a0⟩
 |_,_=>none
noncomputable def tyN:TypeId->Option (Ty SN)
 |2=>some (.int .i64)
 |3=>some (.int .i64)
 |4=>some .bool
 |5=>some (.int .u8)
 |6=>some (.int .u8)
 |9=>some .str
 |10=>some .str
 |11=>some .str
 |12=>some (.int .u64)
 |21=>some (.int .i32)
 |23=>some (.sl (.st .itemT))
 |24=>some (.sl .str)
 |25=>some (.int .i64)
 |35=>some (.st .targetT)
 |40=>some (.sl (.st .layoutT))
 |42=>some (.st .layoutT)
 |44=>some (.st .itemT)
 |55=>some (.sl (.sl .str))
 |57=>some (.sl (.int .i64))
 |61=>some (.sl (.st .partT))
 |65=>some (.st .partT)
 |74=>some (.sl (.sl (.st .tokenT)))
 |77=>some (.sl (.st .tokenT))
 |81=>some (.sl (.int .u8))
 |100=>some (.st .translatorT)
 |107=>some (.st .roomT)
 |111=>some (.st .placeT)
 |122=>some (.sl .bool)
 |125=>some (.st .tokenT)
 |133=>some (.sl .fnc)
 |143=>some (.st .readerT)
 |163=>some (.st .countedT)
 |171=>some (.int .u64)
 |190=>some (.int .u32)
 |193=>some (.int .u64)
 |204=>some (.st .acceptRangeT)
 |210=>some (.int .i64)
 |227=>some (.st .errorStringT)
 |233=>some (.int .u8)
 |234=>some (.int .u8)
 |236=>some (.int .i32)
 |237=>some (.int .i32)
 |_=>none
theorem CG(i:SN)(x:NN i):Ln i x=(gS i x).map λl=>aW szN Ln l.t l.x:=by
 cases i<;>cases x<;>first|(simp[Ln,gS,aW,dh,tsz,szN,aG.enc,aa.enc,Item.enc,k_.enc,bM.enc,bj.enc,md.enc,aK.enc,gu.enc,an.enc,bC.enc,bD.enc,aa.encL_map];done)|(rename_i q;cases q;simp[Ln,gS,aW,dh,tsz,szN,aG.enc,aa.enc,Item.enc,k_.enc,bM.enc,bj.enc,md.enc,aK.enc,gu.enc,an.enc,bC.enc,bD.enc,aa.encL_map])
theorem GV(i:SN)(ls:List (du NN))(x:NN i)(h:ofN i ls=some x):gS i x=ls:=by
 unfold ofN at h
 split at h<;>first
  |(cases h;rfl)
  |(cases h;done)
theorem CT(i:SN)(x:NN i):(gS i x).length=szN i:=by cases i<;>rfl
theorem Di(i:SN)(x:NN i):∀l∈gS i x,l.t.cell=true:=by
 have h:(gS i x).all (λl=>l.t.cell)=true:=by cases i<;>rfl
 exact VH.1 h
noncomputable def CH:(i:SN)->NN i->List DD
 | .targetT,x=>aG.encd x
 | .layoutT,x=>aa.encd x
 | .itemT,x=>Item.encd x
 | .partT,x=>k_.encd x
 | .translatorT,x=>bM.encd x
 | .roomT,x=>bj.encd x
 | .placeT,x=>md.encd x
 | .tokenT,x=>aK.encd x
 | .readerT,x=>gu.encd x
 | .countedT,x=>an.encd x
 | .acceptRangeT,x=>bC.encd x
 | .errorStringT,x=>bD.encd x
noncomputable def Pp:SN->Bool
 | .targetT=>true
 | .layoutT=>false
 | .itemT=>false
 | .partT=>true
 | .translatorT=>false
 | .roomT=>true
 | .placeT=>true
 | .tokenT=>true
 | .readerT=>false
 | .countedT=>true
 | .acceptRangeT=>true
 | .errorStringT=>true
noncomputable def Ra:Ty SN->Nat
 |(.st .itemT)=>44
 | .str=>9
 |(.st .layoutT)=>42
 |(.sl .str)=>24
 |(.int .i64)=>3
 |(.st .partT)=>65
 |(.sl (.st .tokenT))=>77
 |(.st .tokenT)=>125
 |(.int .u8)=>5
 | .bool=>4
 |_=>0
theorem zG(i:SN)(x:NN i):CH i x=(gS i x).map λl=>fY szN Ln Ra CH l.t l.x:=by
 cases i<;>cases x<;>first|(simp[CH,gS,fY,cK,aW,dh,Ra,tsz,szN,aG.encd,aa.encd,Item.encd,k_.encd,bM.encd,bj.encd,md.encd,aK.encd,gu.encd,an.encd,bC.encd,bD.encd,aa.encdL_map];done)|(rename_i q;cases q;simp[CH,gS,fY,cK,aW,dh,Ra,tsz,szN,aG.encd,aa.encd,Item.encd,k_.encd,bM.encd,bj.encd,md.encd,aK.encd,gu.encd,an.encd,bC.encd,bD.encd,aa.encdL_map])
theorem Fy(i:SN)(x:NN i):DD.toL (CH i x)=some (Ln i x):=by
 cases i
 ·exact aG.encd_toL x
 ·exact aa.encd_toL x
 ·exact Item.encd_toL x
 ·exact k_.encd_toL x
 ·exact bM.encd_toL x
 ·exact bj.encd_toL x
 ·exact md.encd_toL x
 ·exact aK.encd_toL x
 ·exact gu.encd_toL x
 ·exact an.encd_toL x
 ·exact bC.encd_toL x
 ·exact bD.encd_toL x
theorem zO(i:SN)(x:NN i)(h:Pp i=true):∀l∈gS i x,l.t.isSl=false:=by
 have h1:(gS i x).all (λl=> !l.t.isSl)=true:=by
  revert h
  cases i<;>first
   |(intro h;cases h;done)
   |(intro _;rfl)
 intro l hl
 simpa using VH.1 h1 l hl
noncomputable def vw:m_ where
 ι:=SN
 dec:=inferInstance
 N:=NN
 sz:=szN
 tys:=U7
 cells:=gS
 ofCells:=ofN
 enc:=Ln
 ty:=tyN
 enc_cells:=CG
 of_cells:=GV
 len_cells:=CT
 one_cells:=Di
 tid:=Ra
 encd:=CH
 encd_cells:=zG
 encd_toL:=Fy
 flat:=Pp
 flat_cells:=zO
end Go.Proofs.YtpelkenpapfadaaGreatDoor
end
section
namespace Go.Proofs.YtpelkenpapfadaaGreatDoor
open Go.Awp Go.Tx
open Go.Proofs.Tryz (prog)
set_option maxRecDepth 100000
def dM(P:Program)(t:TypeId):Array Field:=match P.underlying t with
 |some (.struct fs)=>fs
 |_=> #[]
theorem tf2:bv vw prog 2 (.int .i64):=(by kernel_rfl:prog.underlying 2=some (.int .i64))
theorem tf3:bv vw prog 3 (.int .i64):=(by kernel_rfl:prog.underlying 3=some (.int .i64))
theorem tf4:bv vw prog 4 .bool:=(by kernel_rfl:prog.underlying 4=some .bool)
theorem tf5:bv vw prog 5 (.int .u8):=(by kernel_rfl:prog.underlying 5=some (.int .u8))
theorem tf6:bv vw prog 6 (.int .u8):=(by kernel_rfl:prog.underlying 6=some (.int .u8))
theorem tf9:bv vw prog 9 .str:=(by kernel_rfl:prog.underlying 9=some .string)
theorem UP:bv vw prog 10 .str:=(by kernel_rfl:prog.underlying 10=some .string)
theorem UQ:bv vw prog 11 .str:=(by kernel_rfl:prog.underlying 11=some .string)
theorem UR:bv vw prog 12 (.int .u64):=(by kernel_rfl:prog.underlying 12=some (.int .u64))
theorem US:bv vw prog 21 (.int .i32):=(by kernel_rfl:prog.underlying 21=some (.int .i32))
theorem UT:bv vw prog 23 (.sl (.st .itemT)):=⟨44,by kernel_rfl,by kernel_rfl,by kernel_rfl,by kernel_rfl⟩
theorem UU:bv vw prog 24 (.sl .str):=⟨9,by kernel_rfl,by kernel_rfl,by kernel_rfl,by kernel_rfl⟩
theorem UV:bv vw prog 25 (.int .i64):=(by kernel_rfl:prog.underlying 25=some (.int .i64))
theorem UW:bv vw prog 35 (.st .targetT):=⟨dM prog 35,by kernel_rfl,by kernel_rfl,by kernel_rfl⟩
theorem UX:bv vw prog 40 (.sl (.st .layoutT)):=⟨42,by kernel_rfl,by kernel_rfl,by kernel_rfl,by kernel_rfl⟩
theorem UY:bv vw prog 42 (.st .layoutT):=⟨dM prog 42,by kernel_rfl,by kernel_rfl,by kernel_rfl⟩
theorem UZ:bv vw prog 44 (.st .itemT):=⟨dM prog 44,by kernel_rfl,by kernel_rfl,by kernel_rfl⟩
theorem U0:bv vw prog 55 (.sl (.sl .str)):=⟨24,by kernel_rfl,by kernel_rfl,by kernel_rfl,by kernel_rfl⟩
theorem U1:bv vw prog 57 (.sl (.int .i64)):=⟨3,by kernel_rfl,by kernel_rfl,by kernel_rfl,by kernel_rfl⟩
theorem U2:bv vw prog 61 (.sl (.st .partT)):=⟨65,by kernel_rfl,by kernel_rfl,by kernel_rfl,by kernel_rfl⟩
theorem U3:bv vw prog 65 (.st .partT):=⟨dM prog 65,by kernel_rfl,by kernel_rfl,by kernel_rfl⟩
theorem U4:bv vw prog 74 (.sl (.sl (.st .tokenT))):=⟨77,by kernel_rfl,by kernel_rfl,by kernel_rfl,by kernel_rfl⟩
theorem U5:bv vw prog 77 (.sl (.st .tokenT)):=⟨125,by kernel_rfl,by kernel_rfl,by kernel_rfl,by kernel_rfl⟩
theorem U6:bv vw prog 81 (.sl (.int .u8)):=⟨5,by kernel_rfl,by kernel_rfl,by kernel_rfl,by kernel_rfl⟩
theorem Sy:bv vw prog 100 (.st .translatorT):=⟨dM prog 100,by kernel_rfl,by kernel_rfl,by kernel_rfl⟩
theorem Sz:bv vw prog 107 (.st .roomT):=⟨dM prog 107,by kernel_rfl,by kernel_rfl,by kernel_rfl⟩
theorem SA:bv vw prog 111 (.st .placeT):=⟨dM prog 111,by kernel_rfl,by kernel_rfl,by kernel_rfl⟩
theorem SB:bv vw prog 122 (.sl .bool):=⟨4,by kernel_rfl,by kernel_rfl,by kernel_rfl,by kernel_rfl⟩
theorem SC:bv vw prog 125 (.st .tokenT):=⟨dM prog 125,by kernel_rfl,by kernel_rfl,by kernel_rfl⟩
theorem SD:bv vw prog 143 (.st .readerT):=⟨dM prog 143,by kernel_rfl,by kernel_rfl,by kernel_rfl⟩
theorem SE:bv vw prog 163 (.st .countedT):=⟨dM prog 163,by kernel_rfl,by kernel_rfl,by kernel_rfl⟩
theorem SF:bv vw prog 171 (.int .u64):=(by kernel_rfl:prog.underlying 171=some (.int .u64))
theorem SG:bv vw prog 190 (.int .u32):=(by kernel_rfl:prog.underlying 190=some (.int .u32))
theorem SH:bv vw prog 193 (.int .u64):=(by kernel_rfl:prog.underlying 193=some (.int .u64))
theorem SI:bv vw prog 204 (.st .acceptRangeT):=⟨dM prog 204,by kernel_rfl,by kernel_rfl,by kernel_rfl⟩
theorem SJ:bv vw prog 210 (.int .i64):=(by kernel_rfl:prog.underlying 210=some (.int .i64))
theorem SK:bv vw prog 227 (.st .errorStringT):=⟨dM prog 227,by kernel_rfl,by kernel_rfl,by kernel_rfl⟩
theorem SL:bv vw prog 233 (.int .u8):=(by kernel_rfl:prog.underlying 233=some (.int .u8))
theorem SM:bv vw prog 234 (.int .u8):=(by kernel_rfl:prog.underlying 234=some (.int .u8))
theorem SO:bv vw prog 236 (.int .i32):=(by kernel_rfl:prog.underlying 236=some (.int .i32))
theorem SP:bv vw prog 237 (.int .i32):=(by kernel_rfl:prog.underlying 237=some (.int .i32))
theorem ax{ls:List (du NN)}{t:Ty SN}{ts:List (Ty SN)}(h:ls.map (·.t)=t::ts):∃(x:den NN t) (ls':List (du NN)),ls=⟨t,x⟩::ls'/\ls'.map (·.t)=ts:=by
 match ls,h with
 |⟨t',x⟩::r,h=>
  simp only[VC,W8]at h
  obtain⟨h1,h2⟩:=h
  subst h1
  exact⟨x,r,rfl,h2⟩
theorem cb{ls:List (du NN)}(h:ls.map (·.t)=[]):ls=[]:=by simpa using h
theorem facts:D5 vw prog where
 ty:=λt τ h hn=>by
  have h:tyN t=some τ:=h
  unfold tyN at h
  split at h
  ·cases h;exact tf2
  ·cases h;exact tf3
  ·cases h;exact tf4
  ·cases h;exact tf5
  ·cases h;exact tf6
  ·cases h;exact tf9
  ·cases h;exact UP
  ·cases h;exact UQ
  ·cases h;exact UR
  ·cases h;exact US
  ·cases h;exact UT
  ·cases h;exact UU
  ·cases h;exact UV
  ·cases h;exact UW
  ·cases h;exact UX
  ·cases h;exact UY
  ·cases h;exact UZ
  ·cases h;exact U0
  ·cases h;exact U1
  ·cases h;exact U2
  ·cases h;exact U3
  ·cases h;exact U4
  ·cases h;exact U5
  ·cases h;exact U6
  ·cases h;exact Sy
  ·cases h;exact Sz
  ·cases h;exact SA
  ·cases h;exact SB
  ·cases h;exact SC
  ·cases h;cases hn
  ·cases h;exact SD
  ·cases h;exact SE
  ·cases h;exact SF
  ·cases h;exact SG
  ·cases h;exact SH
  ·cases h;exact SI
  ·cases h;exact SJ
  ·cases h;exact SK
  ·cases h;exact SL
  ·cases h;exact SM
  ·cases h;exact SO
  ·cases h;exact SP
  ·cases h
 nof:=λi=>by cases i<;>rfl
 tys:=λi x=>by cases i<;>rfl
 of:=λi ls h=>by
  cases i with
  |targetT=>
   obtain⟨a0,l0,rfl,h0⟩:=ax h
   obtain⟨a1,l1,rfl,h1⟩:=ax h0
   obtain rfl:=cb h1
   exact⟨_,rfl⟩
  |layoutT=>
   obtain⟨a0,l0,rfl,h0⟩:=ax h
   obtain⟨a1,l1,rfl,h1⟩:=ax h0
   obtain⟨a2,l2,rfl,h2⟩:=ax h1
   obtain⟨a3,l3,rfl,h3⟩:=ax h2
   obtain rfl:=cb h3
   exact⟨_,rfl⟩
  |itemT=>
   obtain⟨a0,l0,rfl,h0⟩:=ax h
   obtain⟨a1,l1,rfl,h1⟩:=ax h0
   obtain⟨a2,l2,rfl,h2⟩:=ax h1
   obtain⟨a3,l3,rfl,h3⟩:=ax h2
   obtain⟨a4,l4,rfl,h4⟩:=ax h3
   obtain⟨a5,l5,rfl,h5⟩:=ax h4
   obtain⟨a6,l6,rfl,h6⟩:=ax h5
   obtain⟨a7,l7,rfl,h7⟩:=ax h6
   obtain rfl:=cb h7
   exact⟨_,rfl⟩
  |partT=>
   obtain⟨a0,l0,rfl,h0⟩:=ax h
   obtain⟨a1,l1,rfl,h1⟩:=ax h0
   obtain rfl:=cb h1
   exact⟨_,rfl⟩
  |translatorT=>
   obtain⟨a0,l0,rfl,h0⟩:=ax h
   obtain rfl:=cb h0
   exact⟨_,rfl⟩
  |roomT=>
   obtain⟨a0,l0,rfl,h0⟩:=ax h
   obtain⟨a1,l1,rfl,h1⟩:=ax h0
   obtain rfl:=cb h1
   exact⟨_,rfl⟩
  |placeT=>
   obtain⟨a0,l0,rfl,h0⟩:=ax h
   obtain⟨a1,l1,rfl,h1⟩:=ax h0
   obtain rfl:=cb h1
   exact⟨_,rfl⟩
  |tokenT=>
   obtain⟨a0,l0,rfl,h0⟩:=ax h
   obtain⟨a1,l1,rfl,h1⟩:=ax h0
   obtain rfl:=cb h1
   exact⟨_,rfl⟩
  |readerT=>
   obtain⟨a0,l0,rfl,h0⟩:=ax h
   obtain⟨a1,l1,rfl,h1⟩:=ax h0
   obtain⟨a2,l2,rfl,h2⟩:=ax h1
   obtain rfl:=cb h2
   exact⟨_,rfl⟩
  |countedT=>
   obtain⟨a0,l0,rfl,h0⟩:=ax h
   obtain⟨a1,l1,rfl,h1⟩:=ax h0
   obtain⟨a2,l2,rfl,h2⟩:=ax h1
   obtain rfl:=cb h2
   exact⟨_,rfl⟩
  |acceptRangeT=>
   obtain⟨a0,l0,rfl,h0⟩:=ax h
   obtain⟨a1,l1,rfl,h1⟩:=ax h0
   obtain rfl:=cb h1
   exact⟨_,rfl⟩
  |errorStringT=>
   obtain⟨a0,l0,rfl,h0⟩:=ax h
   obtain rfl:=cb h0
   exact⟨_,rfl⟩
end Go.Proofs.YtpelkenpapfadaaGreatDoor
end
section
namespace Go.Proofs.YtpelkenpapfadaaGreatDoor
set_option maxRecDepth 20000
mutual
def aa.depth:aa->Nat
 | .mk _ _ _ ps=>aa.depthL ps+1
def aa.depthL:List aa->Nat
 |[]=>0
 |p::r=>max (aa.depth p) (aa.depthL r)
end
mutual
def aa.all:aa->List aa
 | .mk k n f ps=> .mk k n f ps::aa.allL ps
def aa.allL:List aa->List aa
 |[]=>[]
 |p::r=>aa.all p++aa.allL r
end
theorem aa.depth_eq(l:aa):l.depth=aa.depthL l.parts+1:=by cases l;rfl
theorem aa.all_eq(l:aa):l.all=l::aa.allL l.parts:=by cases l;rfl
theorem aa.depthL_mem:∀{ps:List aa} {p:aa},p∈ps->p.depth<=aa.depthL ps
 |q::r,p,h=>by
  rw[aa.depthL]
  rcases VG.1 h with rfl|h
  ·omega
  ·have:=aa.depthL_mem h;omega
theorem aa.depth_mem{l p:aa}(h:p∈l.parts):p.depth<l.depth:=by
 rw[l.depth_eq];have:=aa.depthL_mem h;omega
theorem aa.allL_mem{q:aa}:∀{ps:List aa} {p:aa},p∈ps->q∈p.all->q∈aa.allL ps
 |p'::r,p,h,hq=>by
  rw[aa.allL,VJ]
  rcases VG.1 h with rfl|h
  ·exact .inl hq
  ·exact .inr (aa.allL_mem h hq)
def aa.fit(l:aa):Prop:=(-9223372036854775808<=l.kind/\l.kind<=9223372036854775807)/\(-9223372036854775808<=l.n/\l.n<=9223372036854775807)/\l.parts.length<=9223372036854775807
def aa.Fits(l:aa):Prop:=∀q∈l.all,q.fit
theorem aa.Fits.self{l:aa}(h:l.Fits):l.fit:=h l (by rw[l.all_eq];exact Vy)
theorem aa.Fits.len{l:aa}(h:l.Fits):l.parts.length<=9223372036854775807:=h.self.2.2
theorem aa.Fits.part{l p:aa}(h:l.Fits)(hp:p∈l.parts):p.Fits:=λq hq=>h q (by rw[l.all_eq];exact Vu _ (aa.allL_mem hp hq))
theorem cN{x:Int}(h1: -9223372036854775808<=x)(h2:x<=9223372036854775807):IntKind.i64.wrap x=x:=by
 unfold IntKind.wrap
 simp only[IntKind.bits,IntKind.signed,WA]
 split<;>rename_i h<;>simp at h<;>omega
theorem Fs{α:Type}{l:List α}{k:Nat}(h:k<l.length):∃p,l[k]?=some p/\p∈l/\l.drop k=p::l.drop (k+1):=
 ⟨l[k],Vw h,WI h,WU h⟩
theorem dy{α:Type}{l:List α}{k:Nat}(h:¬k<l.length):l.drop k=[]:=WR (by omega)
theorem bq{k n:Nat}(h:k<n)(hn:n<=9223372036854775807):IntKind.i64.wrap ((k:Int)+1)=((k+1:Nat):Int):=by rw[cN (by omega) (by omega)];omega
def tK:Nat->aa->Int
 |0,_=>1
 |n+1,l=>l.parts.foldl (λa p=>max a (tK n p)) 0+1
theorem wU{α:Type}{f:α->Int}{l:List α}{b:Int}:∀{a:Int},0<=a->a<=b->(∀x∈l,f x<=b)->0<=l.foldl (λa p=>max a (f p)) a/\l.foldl (λa p=>max a (f p)) a<=b:=by
 induction l with
 |nil=>intro a h0 h1 _;exact⟨h0,h1⟩
 |cons x r ih=>
  intro a h0 h1 h2
  exact ih (by simp only[];omega) (by have:=h2 x Vy;simp only[];omega) λy hy=>h2 y (Vu _ hy)
theorem Fp:∀(n:Nat) (l:aa),1<=tK n l/\tK n l<=n+1
 |0,l=>by simp[tK]
 |n+1,l=>by
  have:=wU (f:=tK n) (l:=l.parts) (a:=0) (b:=n+1) (by omega) (by omega) λp _=>(Fp n p).2
  simp only[tK];omega
def jd(l:aa):Int:=if l.kind=1 then 1 else if l.kind=2 then max l.n 0 else 0
def upS(n m:Int):Int:=(n+m-1).tdiv m *m
theorem aa.ind{P:aa->Prop}(h:∀l:aa,(∀p∈l.parts,P p)->P l):∀l,P l:=by
 have:∀(d:Nat) (l:aa),l.depth<=d->P l:=by
  intro d
  induction d with
  |zero=>intro l hl;rw[l.depth_eq]at hl;omega
  |succ d ih=>intro l hl;exact h l λp hp=>ih p (by have:=aa.depth_mem hp;omega)
 exactλl=>this l.depth l (VN _)
def BH(n:Int):Int:=if n=0 then 0 else if n<=8 then 1 else if n<=16 then 2 else if n<=32 then 4 else 8
def far:Int:=1099511627776
def Q_(xs:List Int):Int:=xs.foldl (λn x=>min far (n+min x far)) 0
theorem Sx(a b:Int)(ha:0<=a)(hb:0<=b):Q_ [a,b]=min far (a+b):=by simp[Q_,far];omega
def bT:List aa->Int
 |[]=>0
 |p::r=>jd p+bT r
theorem eW(p:aa):0<=jd p:=by unfold jd;repeat' split<;>omega
theorem eT:∀ps:List aa,0<=bT ps
 |[]=>by simp[bT]
 |p::r=>by have:=eW p;have:=eT r;simp only[bT];omega
def jS(ps:List aa):Int:=ps.foldl (λn p=>min (n+min (jd p) 1000) 100000) 0
theorem t8:∀(ps:List aa) (a b:Int),0<=a->(a=b/\a<=64\/64<a/\64<b)->
 (let x:=ps.foldl (λn p=>min (n+min (jd p) 1000) 100000) a;let y:=b+bT ps;x=y/\x<=64\/64<x/\64<y)
 |[],a,b,ha,h=>by simpa[bT]using h
 |p::r,a,b,ha,h=>by
  have b1:=eW p
  have:=t8 r (min (a+min (jd p) 1000) 100000) (b+jd p) (by omega) (by omega)
  simp only[Wy,bT]at this⊢
  rw[<-Int.add_assoc];exact this
theorem Dt(ps:List aa):jS ps=bT ps/\jS ps<=64\/64<jS ps/\64<bT ps:=by
 have:=t8 ps 0 0 (by omega) (by omega)
 simpa[jS]using this
mutual
def aa.cells:aa->Int
 | .mk k n _ ps=>(if k=5 then max 0 n *aa.cellsL ps else aa.cellsL ps)+1
def aa.cellsL:List aa->Int
 |[]=>0
 |p::r=>aa.cells p+aa.cellsL r
end
theorem aa.cells_eq(l:aa):l.cells=(if l.kind=5 then max 0 l.n *aa.cellsL l.parts else aa.cellsL l.parts)+1:=by cases l;rfl
theorem aa.cellsL_of{ps:List aa}(h:∀p∈ps,1<=p.cells):0<=aa.cellsL ps:=by
 induction ps with
 |nil=>simp[aa.cellsL]
 |cons p r ih=>
  have:=h p Vy
  have:=ih λq hq=>h q (Vu _ hq)
  simp only[aa.cellsL];omega
theorem aa.cells_pos:∀l:aa,1<=l.cells:=by
 refine aa.ind λl ih=> ?_
 have h:=aa.cellsL_of ih
 rw[l.cells_eq]
 split
 ·have:=YJ (a:=max 0 l.n) (by omega) h
  omega
 ·omega
theorem aa.cellsL_nonneg(ps:List aa):0<=aa.cellsL ps:=aa.cellsL_of λp _=>p.cells_pos
def aa.arr(l:aa):Prop:=∀q∈l.all,q.kind=5->q.n<=1000000
theorem aa.arr.part{l p:aa}(h:l.arr)(hp:p∈l.parts):p.arr:=λq hq=>h q (by rw[l.all_eq];exact Vu _ (aa.allL_mem hp hq))
theorem aa.arr.self{l:aa}(h:l.arr):l.kind=5->l.n<=1000000:=h l (by rw[l.all_eq];exact Vy)
theorem Hs{a n m:Int}(hn:0<=n)(h:0<=m)(ha:1<=a):min a (1+n *min a m)=min a (n *m+1):=by
 by_cases hm:m<=a
 ·have e:min a m=m:=by omega
  rw[e,Int.add_comm]
 ·have e:min a m=a:=by omega
  rw[e]
  by_cases h0:n=0
  ·subst h0;simp
  ·have h1:1<=n:=by omega
   have h2:a<=n *a:=by have:=X9 h1 (show 0<=a by omega);omega
   have h3:m<=n *m:=by have:=X9 h1 h;omega
   omega
theorem J1{a n m:Int}(hn:0<=n)(h:0<=m)(ha:1<=a):min (min n a *min a m+1) a=min a (n *m+1):=by
 by_cases h0:m=0
 ·subst h0
  have:min a 0=0:=by omega
  rw[this];simp;omega
 by_cases hn':n<=a
 ·rw[Int.min_eq_left hn',<-Hs hn h ha];omega
 ·have e:min n a=a:=by omega
  rw[e]
  have h1:1<=min a m:=by omega
  have h2:a<=a *min a m:=by have:=Yb h1 (show 0<=a by omega);omega
  have h3:n<=n *m:=by have:=Yb (show 1<=m by omega) hn;omega
  omega
def aa.big1(l:aa):Bool:=l.kind==2&&decide (l.n>64)||l.kind==5&&decide (l.n>1000)||l.kind==7&&decide (l.n>65536)||l.kind==9&&decide (min far (bT l.parts)>64)
mutual
def aa.look:aa->Int->Int->Int->Bool->Int×Int×Bool
 | .mk k n f ps,dep,c,d,g=>
  if(g||decide (c+1>60)||decide (dep>5)||decide ((ps.length:Int)>12)||aa.big1 (.mk k n f ps))=true then(c+1,max d dep,true)
  else aa.lookL ps (dep+1) (c+1,max d dep,false)
def aa.lookL:List aa->Int->Int×Int×Bool->Int×Int×Bool
 |[],_,s=>s
 |p::r,dep,s=>aa.lookL r dep (aa.look p dep s.1 s.2.1 s.2.2)
end
theorem aa.look_eq(l:aa)(dep c d:Int)(g:Bool):l.look dep c d g=if(g||decide (c+1>60)||decide (dep>5)||decide ((l.parts.length:Int)>12)||l.big1)=true then(c+1,max d dep,true)
 else aa.lookL l.parts (dep+1) (c+1,max d dep,false):=by cases l;rfl
theorem aa.lookL_cnt{ps:List aa}(h:∀p∈ps,∀dep c d g,c<=(p.look dep c d g).1/\(p.look dep c d g).1<=c+p.all.length)(dep:Int):∀s:Int×Int×Bool,s.1<=(aa.lookL ps dep s).1/\(aa.lookL ps dep s).1<=s.1+(aa.allL ps).length:=by
 induction ps with
 |nil=>intro s;simp[aa.lookL,aa.allL]
 |cons p r ih=>
  intro s
  have h1:=h p Vy dep s.1 s.2.1 s.2.2
  have h2:=ih (λq hq=>h q (Vu _ hq)) (p.look dep s.1 s.2.1 s.2.2)
  simp only[aa.lookL,aa.allL,VB];omega
theorem aa.look_cnt:∀(l:aa) (dep c d:Int) (g:Bool),c<=(l.look dep c d g).1/\(l.look dep c d g).1<=c+l.all.length:=by
 refine aa.ind λl ih dep c d g=> ?_
 have:=aa.lookL_cnt ih (dep+1) (c+1,max d dep,false)
 rw[l.look_eq,l.all_eq,VD]
 split
 ·simp only[];omega
 ·simp only[]at this;omega
def ra(l:aa):Bool:=
 if l.kind=4\/l.kind=5 then(l.parts.length:Int)==1 else if l.kind=6\/l.kind=9 then true else if l.kind=8 then decide ((l.parts.length:Int)>=1)else(l.parts.length:Int)==0
def w_(k:Int):Int:=if k=2 then 64 else if k=5 then 1000 else if k=7 then 65536 else 9223372036854775807
def fT(p:aa):Bool:=p.kind==1||p.kind==2
def P1(l:aa):Bool:=
 if l.kind=2\/l.kind=7 then decide (l.n>=1)else if l.kind=5 then decide (l.n>=0)else if l.kind=9 then l.parts.all fT&&l.n==0 else l.n==0
def aa.isS(l:aa):Bool:=decide (0<=l.kind/\l.kind<=9)&&ra l&& !(l.flag&&l.kind !=2)&&P1 l
def FM(pred:aa->Bool):List aa->Int->Int
 |[],_=> -1
 |p::r,k=>if pred p=true then k else FM pred r (k+1)
theorem uN(pred:aa->Bool):∀(ps:List aa) (k:Int),0<=k->decide (FM pred ps k>=0)=ps.any pred
 |[],k,hk=>rfl
 |p::r,k,hk=>by
  rw[FM,XA]
  cases hp:pred p
  ·rw[Y4 (by decide),VX];exact uN pred r (k+1) (by omega)
  ·rw[Y5 rfl,V2];simpa using hk
def aa.right(l:aa):Bool:=l.all.all aa.isS
theorem AL(f:aa->Bool):∀ps:List aa,(aa.allL ps).all f=ps.all λp=>p.all.all f
 |[]=>rfl
 |p::r=>by simp[aa.allL,AL f r]
theorem aa.right_eq(l:aa):l.right=(l.isS&&l.parts.all aa.right):=by
 unfold aa.right
 rw[l.all_eq,WG,AL]
def pcS(l:aa):Int:=if l.kind=5\/l.kind=4 then 1 else if l.kind=8\/l.kind=6\/l.kind=9 then l.parts.length else 0
def nbS(l:aa):Bool:=if l.kind=2\/l.kind=7 then decide (l.n>=1)else if l.kind=5 then decide (l.n>=0)else if l.kind=8 then l.n==0&&decide ((l.parts.length:Int)>=1)else l.n==0
theorem PA(l:aa)(h:0<=l.kind/\l.kind<=9):l.isS=(nbS l&& !((l.parts.length:Int) !=pcS l)&& !(l.flag&&l.kind !=2)&& !(l.kind==9&&l.parts.any λp=> !fT p)):=by
 have e:(l.parts.any λp=> !fT p)= !l.parts.all fT:=by rw[Yy]
 rw[e]
 unfold aa.isS ra P1 nbS pcS
 have hk:l.kind=0\/l.kind=1\/l.kind=2\/l.kind=3\/l.kind=4\/l.kind=5\/l.kind=6\/l.kind=7\/l.kind=8\/l.kind=9:=by omega
 generalize l.kind=kind at h hk⊢
 generalize (l.parts.length:Int)=len
 generalize l.parts.all fT=ab
 generalize l.flag=fl
 generalize l.n=n
 rw[Bool.eq_iff_iff]
 rcases hk with rfl|rfl|rfl|rfl|rfl|rfl|rfl|rfl|rfl|rfl<;>cases ab<;>cases fl<;>simp<;>omega
def aa.big(l:aa):Bool:=decide ((l.parts.length:Int)>12)||l.big1
theorem F0(l:aa)(dep c d:Int):(l.look dep c d true).2.2=true:=by rw[l.look_eq];simp
theorem tT:∀(ps:List aa) (dep:Int) (s:Int×Int×Bool),s.2.2=true->(aa.lookL ps dep s).2.2=true
 |[],dep,s,h=>h
 |p::r,dep,s,h=>by
  rw[aa.lookL]
  refine tT r dep _ ?_
  rw[h];exact F0 p dep _ _
def Kz(l:aa):Prop:=∀(dep c d:Int),0<=c->
 ((l.look dep c d false).2.2=false↔c+l.all.length<=60/\dep-1+l.depth<=5/\l.all.any aa.big=false)/\
 ((l.look dep c d false).2.2=false->(l.look dep c d false).1=c+l.all.length/\(l.look dep c d false).2.1=max d (dep-1+l.depth))
theorem A_:∀(ps:List aa),(∀p∈ps,Kz p)->∀(dep:Int) (s:Int×Int×Bool),s.2.2=false->0<=s.1->s.1<=60->dep-1<=5->dep-1<=s.2.1->
 ((aa.lookL ps dep s).2.2=false↔s.1+(aa.allL ps).length<=60/\dep-1+aa.depthL ps<=5/\(aa.allL ps).any aa.big=false)/\
 ((aa.lookL ps dep s).2.2=false->(aa.lookL ps dep s).1=s.1+(aa.allL ps).length/\(aa.lookL ps dep s).2.1=max s.2.1 (dep-1+aa.depthL ps))
 |[],_,dep,s,hg,h0,h1,h2,h3=>by
  simp only[aa.lookL,aa.allL,aa.depthL,VU,Yw]
  refine⟨⟨λ_=>⟨by omega,by omega,trivial⟩,λ_=>hg⟩,λ_=>⟨by omega,by omega⟩⟩
 |p::r,hp,dep,s,hg,h0,h1,h2,h3=>by
  have hl:=hp p Vy dep s.1 s.2.1 h0
  simp only[aa.lookL,aa.allL,aa.depthL,VB,List.any_append,hg]
  cases hb:(p.look dep s.1 s.2.1 false).2.2 with
  |true=>
   have hne:¬(s.1+(p.all.length:Int)<=60/\dep-1+(p.depth:Int)<=5/\p.all.any aa.big=false):=λh=>by
    have:=hl.1.2 h;rw[hb]at this;cases this
   rw[tT r dep _ hb]
   refine⟨⟨(λh=>by cases h),λh=>(hne ⟨by omega,by omega,?_⟩).elim⟩,(λh=>by cases h)⟩
   have:=h.2.2
   rw[We]at this
   exact this.1
  |false=>
   obtain⟨a1,a2,a3⟩:=hl.1.1 hb
   obtain⟨b1,b2⟩:=hl.2 hb
   have hr:=A_ r (λq hq=>hp q (Vu _ hq)) dep (p.look dep s.1 s.2.1 false) hb (by omega) (by omega) h2 (by omega)
   rw[b1,b2]at hr
   refine⟨⟨λh=> ?_,λh=>hr.1.2 ⟨by omega,by omega,?_⟩⟩,λh=> ?_⟩
   ·obtain⟨c1,c2,c3⟩:=hr.1.1 h
    exact⟨by omega,by omega,by rw[a3,c3];rfl⟩
   ·have:=h.2.2
    rw[We]at this
    exact this.2
   ·obtain⟨c1,c2⟩:=hr.2 h
    exact⟨by omega,by omega⟩
theorem FZ:∀l:aa,Kz l:=by
 refine aa.ind λl ih dep c d hc=> ?_
 rw[l.look_eq,l.all_eq,l.depth_eq,VD,XA]
 by_cases h:(false||decide (c+1>60)||decide (dep>5)||decide ((l.parts.length:Int)>12)||l.big1)=true
 ·rw[Y5 h]
  refine⟨⟨(λh=>by cases h),λh'=> ?_⟩,(λh=>by cases h)⟩
  obtain⟨c1,c2,c3⟩:=h'
  rw[We]at c3
  have c4:=c3.1
  unfold aa.big at c4
  rw[We]at c4
  simp only[VX,V0,Y3,c4.2]at h
  have c5:¬((l.parts.length:Int)>12):=of_decide_eq_false c4.1
  rcases h with((h|h)|h)|h
  ·omega
  ·omega
  ·omega
  ·cases h
 ·rw[Y4 h]
  simp only[VX,V0,Y3,not_or]at h
  obtain⟨⟨⟨h1,h2⟩,h3⟩,h4⟩:=h
  have hbig:l.big=false:=by unfold aa.big;simp only[We,decide_eq_false_iff_not];exact⟨h3,by simpa using h4⟩
  have:=A_ l.parts ih (dep+1) (c+1,max d dep,false) rfl (by simp only[];omega) (by simp only[];omega) (by omega) (by simp only[];omega)
  simp only[]at this
  rw[hbig,VX]
  refine⟨⟨λh=> ?_,λh=>this.1.2 ⟨by omega,by omega,h.2.2⟩⟩,λh=> ?_⟩
  ·obtain⟨c1,c2,c3⟩:=this.1.1 h
   exact⟨by omega,by omega,c3⟩
  ·obtain⟨c1,c2⟩:=this.2 h
   exact⟨by omega,by omega⟩
def aa.large(l:aa):Bool:=decide (l.all.length>60)||decide (l.depth>5)||l.all.any aa.big
def jW(l:aa):Int:=if(l.large||decide (l.cells>4096))=true then 3 else if l.right=true then 0 else 1
theorem CW(l:aa):(l.look 1 0 0 false).2.2=l.large:=by
 have:=(FZ l 1 0 0 (by omega)).1
 cases hb:(l.look 1 0 0 false).2.2 with
 |false=>
  obtain⟨a1,a2,a3⟩:=this.1 hb
  unfold aa.large
  rw[a3,decide_eq_false (by omega),decide_eq_false (by omega)];rfl
 |true=>
  cases hl:l.large with
  |true=>rfl
  |false=>
   unfold aa.large at hl
   simp only[We,decide_eq_false_iff_not]at hl
   have:=this.2 ⟨by omega,by omega,hl.2⟩
   rw[hb]at this;cases this
theorem vT{l:aa}(h:l.large=false):l.arr:=by
 unfold aa.large at h
 simp only[We]at h
 intro q hq hk
 have h1:=Yn.1 h.2 q hq
 unfold aa.big aa.big1 at h1
 simp[hk]at h1
 omega
def D1(p:aa):Bool:=decide ((p.parts.length:Int)>12)||decide (p.n>w_ p.kind)||(p.kind==9&&decide (jS p.parts>64))
theorem Mc(p:aa)(hp:p.fit):D1 p=p.big:=by
 unfold D1 aa.big
 rw[YP]
 congr 1
 unfold aa.big1 w_
 have h1:=hp.2.1.2
 have h2:=Dt p.parts
 have h3:far=1099511627776:=rfl
 have h4:=eT p.parts
 by_cases k2:p.kind=2
 ·simp[k2]
 by_cases k5:p.kind=5
 ·simp[k5]
 by_cases k7:p.kind=7
 ·simp[k7]
 by_cases k9:p.kind=9
 ·simp[k9]
  rw[Bool.eq_iff_iff];simp;omega
 ·rw[beq_eq_false_iff_ne.2 k2,beq_eq_false_iff_ne.2 k5,beq_eq_false_iff_ne.2 k7,beq_eq_false_iff_ne.2 k9]
  simp[k2,k5,k7];omega
theorem aa.all_all:∀l q:aa,q∈l.all->∀r∈q.all,r∈l.all:=by
 refine aa.ind λl ih q hq r hr=> ?_
 rw[l.all_eq]at hq⊢
 rcases VG.1 hq with rfl|hq
 ·rw[q.all_eq]at hr;exact hr
 ·refine Vu _ ?_
  have:∀ps:List aa,(∀p∈ps,∀q∈p.all,∀r∈q.all,r∈p.all)->q∈aa.allL ps->r∈aa.allL ps:=by
   intro ps
   induction ps with
   |nil=>intro _ h;simp[aa.allL]at h
   |cons p rr ih2=>
    intro hp h
    rw[aa.allL,VJ]at h⊢
    rcases h with h|h
    ·exact .inl (hp p Vy q h r hr)
    ·exact .inr (ih2 (λp' hp'=>hp p' (Vu _ hp')) h)
  exact this l.parts ih hq
theorem aa.Fits.mem{l q:aa}(hl:l.Fits)(hq:q∈l.all):q.Fits:=λr hr=>hl r (aa.all_all l q hq r hr)
def Bx(s:List Int×Int×Int)(q:Int×Int):List Int×Int×Int:=(s.1++[upS s.2.1 q.2],upS s.2.1 q.2+q.1,max s.2.2 q.2)
def QO(qs:List (Int×Int)):List Int×Int×Int:=
 ((qs.foldl Bx ([],0,1)).1,upS (qs.foldl Bx ([],0,1)).2.1 (qs.foldl Bx ([],0,1)).2.2,(qs.foldl Bx ([],0,1)).2.2)
def QU(o p:Int×Int):Int×Int:=(max o.1 p.1,max o.2 p.2)
def H2(qs:List (Int×Int)):Int×Int:=qs.foldl QU (0,1)
def ofS(w k n:Int)(ps:List aa)(qs:List (Int×Int)):Int×Int:=
 if k=0 then(0,1)else if k=1 then(1,1)else if k=2 then(max 1 (BH n),min (max 1 (BH n)) w)else if k=3 then(w,w)
 else if k=4 then(upS ((qs.headD (0,1)).1+1) (qs.headD (0,1)).2,(qs.headD (0,1)).2)
 else if k=5 then(n *(qs.headD (0,1)).1,(qs.headD (0,1)).2)
 else if k=6 then(QO qs).2
 else if k=7 then(if n<=256 then(1,1)else(2,min 2 w))
 else if k=8 then(upS ((H2 qs).1+1) (H2 qs).2,(H2 qs).2)
 else(BH (bT ps),max 1 (min (BH (bT ps)) w))
mutual
def aa.of(w:Int):aa->Int×Int
 | .mk k n _ ps=>ofS w k n ps (aa.ofL w ps)
def aa.ofL(w:Int):List aa->List (Int×Int)
 |[]=>[]
 |p::r=>aa.of w p::aa.ofL w r
end
structure aa.Val (w:Int) (l:aa):Prop where
 fits:l.Fits
 right:l.right=true
 big:l.all.any aa.big=false
 size:∀q∈l.all,(q.of w).1<=100000000000
theorem aa.mem_self(l:aa):l∈l.all:=by rw[l.all_eq];exact Vy
structure aa.Fine (l:aa):Prop where
 fits:l.Fits
 count:l.all.length<=10000
 deep:l.depth<=10000
end Go.Proofs.YtpelkenpapfadaaGreatDoor
end
section
namespace Go.Tx
open Go.Awp
variable [Inhabited GMem]
theorem i6.pure{P:Program}{f:FuncId}{args:List H}{r:H}(hc:eO P f=true)
 (h:∀(E:Env) (M:Mem) (w:World) (vs:Array Value),GOk M w->(∀b o v,M b o=some v->w.cell? ⟨b,o,none⟩=some v)->fm E M vs args->
   Calls P f vs w λe w'=>∃v,e= .returned v/\aS E M v r/\Go.RowKit.Below w.heap.size w w'):i6 P f args [] r []:=by
 refine⟨hc,λE M w vs hgm hm _ hvs=>(h E M w vs hgm hm hvs).mono ?_⟩
 rintro e w' ⟨v,rfl,hr,hb⟩
 refine⟨v,E,M,rfl,{rep:=hr,owns:=⟨λn o hn=>by simp[gt]at hn,λn m o o' b _ hn=>by simp[gt]at hn⟩,mle:=Mem.le_refl _,mem:=λb o v hv=> ?_,mnew:=λb o v hv=> .inl hv,home:=λn o b hn=>by simp[gt]at hn,frame:=λk hk _=>hb.block k hk,grows:=hb.size,os:=hb.os,tape:=hb.tape,output:=hb.output,env:=λ_ _=>rfl}⟩
 have h1:=hm b o v hv
 have hlt:=World.block_lt_of_cell? w (a:=⟨b,o,none⟩) h1
 rw[<-h1]
 exact World.cell?_of_block (a:=⟨b,o,none⟩) (hb.block b hlt)
theorem mv{E:Env}{M:Mem}{vs:Array Value}{a:H}(h:fm E M vs [a]):∃v,vs= #[v]/\aS E M v a:=by
 obtain⟨h1,h2⟩:=h
 match vs,h1 with
 |⟨[v]⟩,_=>exact⟨v,rfl,h2 0 v a rfl rfl⟩
theorem qr{E:Env}{M:Mem}{vs:Array Value}{a b:H}(h:fm E M vs [a,b]):∃v u,vs= #[v,u]/\aS E M v a/\aS E M u b:=by
 obtain⟨h1,h2⟩:=h
 match vs,h1 with
 |⟨[v,u]⟩,_=>exact⟨v,u,rfl,h2 0 v a rfl rfl,h2 1 u b rfl rfl⟩
theorem J8{E:Env}{M:Mem}{v:Value}{xs:List ByteArray}(h:aS E M v (.d (.sl 1 (xs.map λy=>[D.v (.string y)])))):
 (xs=[]/\∃a c,v= .slice a 0 c)\/∃b off c,xs≠[]/\v= .slice (some ⟨b,off,none⟩) xs.length c/\xs.length<=c/\∀(j:Nat) x,xs[j]?=some x->M b (off+j)=some (.string x):=by
 cases h with
 |d h=>
  generalize hr:(xs.map λy=>[D.v (.string y)])=rows at h
  cases h with
  |slnil=>exact .inl ⟨by simpa using hr,none,0,rfl⟩
  |slmt a cap=>exact .inl ⟨by simpa using hr,some a,cap,rfl⟩
  |sl b off len cap _ _ c hlen hcap hsz hm hh=>
   subst hr
   rw[VA]at hlen
   subst hlen
   by_cases he:xs=[]
   ·subst he;exact .inl ⟨rfl,_,cap,rfl⟩
   ·refine .inr ⟨b,off,cap,he,rfl,hcap,λj x hj=> ?_⟩
    have hlt:j<xs.length:=(Vv.1 hj).1
    have h1:=hm j (by omega)
    have h2:=hh j 0 [D.v (.string x)] (.v (.string x)) (by simp[hj]) rfl
    simp only[Ye,V3]at h2
    rw[h1]
    generalize hq:c j=q at h2
    cases h2
    rfl
theorem FL{E:Env}{M:Mem}{k k':IntKind}{a b:Int}:aS E M (.tuple #[.int k a, .int k' b]) (.tup [.d (.v (.int k a)), .d (.v (.int k' b))]):=
 .tup _ _ rfl λi c x hc hx=>by
  match i with
  |0=>simp at hc hx;subst hc;subst hx;exact .d (.v _)
  |1=>simp at hc hx;subst hc;subst hx;exact .d (.v _)
  |i+2=>simp at hc
section
open Go.Shelf Go.RowKit Go.Proofs
set_option maxHeartbeats 1000000 in
set_option maxRecDepth 100000 in
end
end Go.Tx
end
section
namespace Go.Awp
variable [Inhabited GMem]
def vO(P:Program)(f:FuncId)(args:Array Value)(w:World)(R:Ending->World->Prop):Prop:=∀u,CallsD P f args u w λe u' w'=>u'=u/\R e w'
theorem vO.mono{P:Program}{f:FuncId}{args:Array Value}{w:World}{R R':Ending->World->Prop}(h:vO P f args w R)(hr:∀e w',R e w'->R' e w'):vO P f args w R':=
 λu=>(h u).mono λe u' w' ⟨a,b⟩=>⟨a,hr e w' b⟩
def D6(P:Program)(f:FuncId)(args:List H)(own:List (Nat×Own))(r:H)(own':List (Nat×Own)):Prop:=
 eO P f=true/\∀(E:Env) (M:Mem) (w:World) (vs:Array Value),GOk M w->(∀b o v,M b o=some v->w.cell? ⟨b,o,none⟩=some v)->D0 E M w own->fm E M vs args->
  vO P f vs w λe w'=>∃v E' M',e= .returned v/\pq E M own w v r own' E' M' w'
def B8(P:Program)(f:FuncId)(args:List H)(own:List (Nat×Own))(r:H)(own':List (Nat×Own)):Prop:=
 eO P f=true/\∀(E:Env) (M:Mem) (w:World) (vs:Array Value),GOk M w->(∀b o v,M b o=some v->w.cell? ⟨b,o,none⟩=some v)->D0 E M w own->fm E M vs args->
  vO P f vs w λe w'=>∃v E' M',e= .returned v/\pq E M own w v r own' E' M' w'/\∀n,(gt own' n=none\/∃o,gt own n=some o)->E' n=E n
def Oz(P:Program)(f:FuncId)(args:List H)(ω:Nat->Option Own)(k:Eff->Prop):Prop:=
 ∃own r own',B8 P f args own r own'/\(∀p∈own,ω p.1=some p.2)/\k (dQ r own own')
open Classical in
theorem D6.ren{P:Program}{f:FuncId}{args:List H}{own own':List (Nat×Own)}{r:H}(h:D6 P f args own r own')(σ:List (Nat×Nat))(hc:Dn σ own r own'=true):
 B8 P f (H.renL (σf σ) args) (sb (σf σ) own) (r.ren (σf σ)) (sb (σf σ) own'):=by
 simp only[Dn,VE,VH]at hc
 obtain⟨⟨⟨⟨c1,c2⟩,c3⟩,c4⟩,c5⟩:=hc
 have hf:=σf_inj c1
 refine⟨h.1,λE M w vs hgm hm how hvs=> ?_⟩
 refine(h.2 (λn=>E (σf σ n)) M w vs hgm hm ⟨λn o hn=> ?_,λn m o o' b hne hn hm' hb hb2=> ?_⟩ ⟨?_,λi c x hc hx=> ?_⟩).mono ?_
 ·exact(how.ok _ _ (by rw[ee hf,hn];rfl)).unren
 ·refine how.apart (σf σ n) (σf σ m) (o.ren (σf σ)) (o'.ren (σf σ)) b (λe=>hne (hf _ _ e)) (by rw[ee hf,hn];rfl) (by rw[ee hf,hm'];rfl) ?_ ?_
  ·rw[Own.ren_foot];exact hb
  ·rw[Own.ren_foot];exact hb2
 ·rw[hvs.1,H.renL_len]
 ·exact(hvs.2 i c _ hc (by rw[H.renL_get,hx];rfl)).unren rfl
 rintro e w' ⟨v,E2,M2,rfl,hp⟩
 let E':Env:=λn=>if h:∃m,σf σ m=n/\m<given/\gt own' m≠none then E2 (Classical.choose h)else E n
 have hE1:∀m,given<=m\/gt own' m≠none->E' (σf σ m)=E2 m:=by
  intro m hm'
  by_cases hlt:m<given
  ·have hm2:gt own' m≠none:=by rcases hm' with h1|h1;(omega);exact h1
   have hex:∃m',σf σ m'=σf σ m/\m'<given/\gt own' m'≠none:=⟨m,rfl,hlt,hm2⟩
   simp only[E']
   rw[dif_pos hex]
   exact congrArg E2 (hf _ _ (YK hex).1)
  ·have hex:¬∃m',σf σ m'=σf σ m/\m'<given/\gt own' m'≠none:=by
    rintro⟨m',he,hl,_⟩
    have:=hf _ _ he
    omega
   simp only[E']
   rw[dif_neg hex]
   exact(hp.env m (by omega)).symm
 have hE2:∀n,(¬∃m,σf σ m=n/\m<given/\gt own' m≠none)->E' n=E n:=λn hn=>by simp only[E'];rw[dif_neg hn]
 have hpn:∀n,(XH given n||(gt own' n).isSome)=true->given<=n\/gt own' n≠none:=by
  intro n hn
  rw[V0]at hn
  rcases hn with hn|hn
  ·exact .inl (WF hn)
  ·exact .inr λe=>by rw[e]at hn;cases hn
 have hext:∀b,gW (λn=>E (σf σ n)) w own b->gW E w (sb (σf σ) own) b:=by
  rintro b ⟨n,o,hn,hb⟩
  exact⟨σf σ n,o.ren (σf σ),by rw[ee hf,hn];rfl,by rw[Own.ren_foot];exact hb⟩
 have hblk:∀n o,gt own' n=some o->E' (σf σ n)=E2 n:=λn o hn=>hE1 n (.inr (by rw[hn];simp))
 refine⟨v,E',M2,rfl,{rep:=hp.rep.ren λn hn=>hE1 n (hpn n (H.allN_has c4 hn)),owns:=⟨λn o hn=> ?_,λn m o o' b hne hn hm' hb hb2=> ?_⟩,mle:=hp.mle,mem:=hp.mem,mnew:=λb o v hv=> ?_,home:=λn o b hn hb=> ?_,frame:=λk hk hx=>hp.frame k hk λh1=>hx (hext k h1),grows:=hp.grows,os:=hp.os,tape:=hp.tape,output:=hp.output,env:=λn hn=>hE2 n ?_},λn hn=>hE2 n ?_⟩
 ·obtain⟨m,o1,rfl,hg,rfl⟩:=bH hf hn
  refine(hp.owns.ok m o1 hg).ren (hblk m o1 hg) λk hk=>hE1 k (hpn k ?_)
  have:=c5 _ (bn hg)
  cases o1 with
  |box oty cells=>exact H.allNL_has this hk
  |vec e sz rows=>simp[Own.has]at hk
  |map es=>simp[Own.has]at hk
  |iter s pos=>simp[Own.has]at hk
  |dvec e sz rows=>simp[Own.has]at hk
  |miter m es rest cur=>simp only[Own.has]at hk;exact(Wa hk)▸this
 ·obtain⟨n1,o1,rfl,hg1,rfl⟩:=bH hf hn
  obtain⟨m1,o2,rfl,hg2,rfl⟩:=bH hf hm'
  rw[hblk n1 o1 hg1,Own.ren_foot]at hb
  rw[hblk m1 o2 hg2,Own.ren_foot]at hb2
  exact hp.owns.apart n1 m1 _ _ b (λe=>hne (by rw[e])) hg1 hg2 hb hb2
 ·rcases hp.mnew b o v hv with h1|h1|h1
  ·exact .inl h1
  ·exact .inr (.inl (hext b h1))
  ·exact .inr (.inr h1)
 ·obtain⟨m,o1,rfl,hg,rfl⟩:=bH hf hn
  rw[hblk m o1 hg,Own.ren_foot]at hb
  rcases hp.home m o1 b hg hb with h1|h1
  ·exact .inl (hext b h1)
  ·exact .inr h1
 ·rintro⟨m,rfl,hl,hne⟩
  cases hg:gt own' m with
  |none=>exact hne hg
  |some o=>
   have:=c3 _ (bn hg)
   simp only[V0]at this
   rcases this with h1|h1
   ·have:=WF h1;omega
   ·have:σf σ m<given:=by simpa[WZ]using h1
    omega
 ·rintro⟨m,rfl,hl,hne⟩
  rcases hn with hn|⟨o,ho⟩
  ·rw[ee hf]at hn
   cases hg:gt own' m with
   |none=>exact hne hg
   |some o=>rw[hg]at hn;cases hn
  ·obtain⟨n1,o1,he,hg,_⟩:=bH hf ho
   have:=hf _ _ he
   subst this
   have:=WF (c2 _ (bn hg))
   simp only[]at this
   omega
end Go.Awp
namespace Go.Tx
open Go.Awp
variable [Inhabited GMem]
theorem B8.weak{P:Program}{f:FuncId}{args args':List H}{own own1 own':List (Nat×Own)}{r:H}(h:B8 P f args own r own')
 (ha:∀E M vs,fm E M vs args'->fm E M vs args)(ho:∀E M w,D0 E M w own1->D0 E M w own)(hk:∀n,(∃o,gt own n=some o)↔∃o,gt own1 n=some o)
 (hf:∀E M w,D0 E M w own1->∀b,gW E w own b->gW E w own1 b):B8 P f args' own1 r own':=by
 refine⟨h.1,λE M w vs hgm hm how hvs=>(h.2 E M w vs hgm hm (ho E M w how) (ha E M vs hvs)).mono ?_⟩
 have hin:∀b,gW E w own b->gW E w own1 b:=hf E M w how
 rintro e w' ⟨v,E',M',rfl,hp,hE⟩
 refine⟨v,E',M',rfl,{hp with mnew:=λb o v hv=> ?_,home:=λn o b hn hb=> ?_,frame:=λk hk hx=>hp.frame k hk λh1=>hx (hin k h1)},λn hn=>hE n ?_⟩
 ·rcases hp.mnew b o v hv with h1|h1|h1
  ·exact .inl h1
  ·exact .inr (.inl (hin b h1))
  ·exact .inr (.inr h1)
 ·rcases hp.home n o b hn hb with h1|h1
  ·exact .inl (hin b h1)
  ·exact .inr h1
 ·rcases hn with hn|hn
  ·exact .inl hn
  ·exact .inr ((hk n).2 hn)
theorem zP{P:Program}{f:FuncId}{fn:Func}{c:Code}{args:List H}{own own':List (Nat×Own)}{r:H}(hf:P.funcs[f]?=some fn)(hb:fn.body=some c)
 (hname:(fn.name != "runtime.NumGoroutine")=true)(hn:args.length<=fn.ntmps)
 (h:∀C:Ctx,C.P=P->C.N=fn.ntmps/\C.fix=[]->AWp C c ⟨gF 0 args,kX own⟩ (vP P fn.results.toList r own')):D6 P f args own r own':=by
 refine⟨by simp[eO,hf,hb,hname],λE M w vs hgm hm how hvs=> ?_⟩
 intro u;refine callsD_of_wp hf hb ?_
 let C:Ctx:=⟨P,fn.ntmps,w,M,E,gW E w own,hgm,λb ⟨n,o,hn,hb⟩=>((how.ok n o hn).block hb).2,[],[]⟩
 have hs:Sim C E M ⟨gF 0 args,kX own⟩ {tmps:=vs++W4 (fn.ntmps-vs.size) undef,defers:=[]} w:=by
  have hvs1:=hvs.1
  refine{size:=by simp[C];omega,defers:=rfl,fixed:=λp hp=>(by cases hp),tmps:=λt x hx=> ?_,mem:=hm,own:=λn o ho=> ?_,apart:=λn m o o' b hne ho ho'=> ?_,home:=λn o b ho hb=> ?_,m0:=Mem.le_refl M,mnew:=λb o v hv=> .inl hv,frame:=λ_ _ _=>rfl,grows:=VN _,os:=rfl,tape:=rfl,output:=rfl,env:=λ_ _=>rfl}
  ·obtain⟨_,h2⟩:=mo args 0 t x hx
   simp only[Yr]at h2
   have hlt:t<vs.size:=by have:=(Vv.1 h2).1;omega
   exact⟨vs[t],by simp[Xq hlt,hlt],hvs.2 t _ x (Wb hlt) h2⟩
  ·have ho':gt own n=some o:=by rw[<-bQ];exact ho
   exact how.ok n o ho'
  ·have h1:gt own n=some o:=by rw[<-bQ];exact ho
   have h2:gt own m=some o':=by rw[<-bQ];exact ho'
   exact how.apart n m o o' b hne h1 h2
  ·have h1:gt own n=some o:=by rw[<-bQ];exact ho
   exact .inl ⟨n,o,h1,hb⟩
 refine wp_mono (h C rfl ⟨rfl,rfl⟩ E M _ w hs) ?_
 rintro e a' w' ⟨S',E',M',⟨he,S'',hent,hh,hres,hle,hown⟩,hs'⟩
 obtain⟨E2,M2,hs2⟩:=hent C E' M' a' w' hs'
 obtain⟨v,hrun,hrep⟩:=vt (C:=C) hs2 hres
 have hpost:pq E M own w v r own' E2 M2 w':=
  {rep:=hle _ _ _ hrep,owns:=⟨λn o ho=>hs2.own n o (hown n o ho),λn m o o' b hne h1 h2=>hs2.apart n m o o' b hne (hown n o h1) (hown m o' h2)⟩,mle:=hs2.m0,mem:=hs2.mem,mnew:=hs2.mnew,home:=λn o b ho hb=>hs2.home n o b (hown n o ho) hb,frame:=hs2.frame,grows:=hs2.grows,os:=hs2.os,tape:=hs2.tape,output:=hs2.output,env:=hs2.env}
 rcases he with rfl|rfl
 ·exact⟨hs2.defers,v,hrun,v,E2,M2,rfl,hpost⟩
 ·exact⟨hs2.defers,v,hrun,v,E2,M2,rfl,hpost⟩
section
variable {V:m_}
def D8(P:Program)(fid:FuncId)(sig:Sig V)(F:HL V.N sig.tys->Option (HL V.N sig.rcut.tys)):Prop:=
 ∀v r x,F v=some r->rh P sig r=some x->
  D6 P fid (encL V (ay sig v).len (a_ sig v).1) (bB (ay sig v).len (ay sig v).own) (ao V (bZ V sig.rcut r).len x) (bB (bZ V sig.rcut r).len (jx sig r))
theorem Pr{X:Xc V}{sig:Sig V}(hsh:X.sh.rcut=sig.rcut){fid:FuncId}{fn:Func}{c:Code}(hf:X.P.funcs[fid]?=some fn)(hb:fn.body=some c)(hn:fn.ntmps=X.n)(hrs:fn.results.toList=sig.rvars)
 (hname:(fn.name != "runtime.NumGoroutine")=true)(hlen:XH sig.params.length X.n=true)(hm:X.P.follows .mixedOrders=true)(hcall:af X.P X.call)
 (hdr:eP (sig.rcut.objs.map (·.1))=true)(hl:∀C:Ctx,C.P=X.P->C.N=X.n/\Fx C X.pre->LOk C X c){v:HL V.N sig.tys}{r:HL V.N sig.rcut.tys}(h:exF X sig hsh c v=some r):
 ∀x,rh X.P sig r=some x->
  D6 X.P fid (encL V (ay sig v).len (a_ sig v).1) (bB (ay sig v).len (ay sig v).own) (ao V (bZ V sig.rcut r).len x) (bB (bZ V sig.rcut r).len (jx sig r)):=by
 obtain⟨params,objs,rcut,rvars,keep⟩:=sig
 simp only at hsh
 subst hsh
 intro x hx
 have hargs:(a_ ⟨params,objs,X.sh.rcut,rvars,keep⟩ v).1.length<=X.n:=by
  have hp:params.length<=X.n:=WF hlen
  unfold a_
  split
  ·rename_i xs ls h1
   split
   ·simp only;rw[uz h1];exact hp
   ·simp
  ·simp
 refine zP hf hb hname (by rw[aH,hn];exact hargs) λC hP hN=> ?_
 have hent:Ent ⟨gF 0 (encL V (ay ⟨params,objs,X.sh.rcut,rvars,keep⟩ v).len (a_ ⟨params,objs,X.sh.rcut,rvars,keep⟩ v).1),kX (bB (ay ⟨params,objs,X.sh.rcut,rvars,keep⟩ v).len (ay ⟨params,objs,X.sh.rcut,rvars,keep⟩ v).own)⟩
  (aI V (ay ⟨params,objs,X.sh.rcut,rvars,keep⟩ v)):=by
  refine Ent.le (λt y hy=>⟨y,?_,H.le.refl _⟩) λn o ho=>⟨o,?_,OLe.refl _⟩
  ·rw[iY];exact hy
  ·rw[aT,WO]at ho
   obtain⟨o',ho',hoo⟩:=ho
   have:=gC (os:=(ay ⟨params,objs,X.sh.rcut,rvars,keep⟩ v).own) ho' hoo
   unfold ae.own?
   rw[bQ]
   exact this
 have hend:∀e σ,(e= .normal\/e= .ret)->Ent σ (aI V (bZ V X.sh.rcut r))->
  vP X.P fn.results.toList (ao V (bZ V X.sh.rcut r).len x) (bB (bZ V X.sh.rcut r).len (jx ⟨params,objs,X.sh.rcut,rvars,keep⟩ r)) e σ:=by
  intro e σ he hσ
  unfold rh at hx
  rw[VF]at hx
  obtain⟨vs,hvs,hone⟩:=hx
  obtain⟨hs,g1,g2,g3⟩:=kh hvs
  have hh:∃y,JZ X.P (aI V (bZ V X.sh.rcut r)) fn.results.toList=some y/\H.le y (ao V (bZ V X.sh.rcut r).len x):=by
   rw[hrs]
   unfold JZ
   rw[g1]
   cases vs with
   |nil=>
    have:hs=[]:=VY (by simpa using g2)
    subst this;subst hone
    exact⟨.tup [],rfl,by simp only[Ny,ao,encL];exact H.le.refl _⟩
   |cons a l=>
    cases l with
    |nil=>
     cases hs with
     |nil=>simp at g2
     |cons y l'=>
      have:l'=[]:=VY (by simpa using g2)
      subst this;subst hone
      obtain⟨z,z1,z2⟩:=g3 0 a rfl
      simp at z1;subst z1
      exact⟨y,rfl,z2⟩
    |cons b l=>
     cases hs with
     |nil=>simp at g2
     |cons y l'=>
      cases l' with
      |nil=>simp at g2
      |cons y2 l2=>
       subst hone
       refine⟨.tup (y::y2::l2),rfl,?_⟩
       simp only[Ny,ao]
       refine yt (by rw[aH];exact g2) λi w hw=> ?_
       rw[encL_map,Vz,VF]at hw
       obtain⟨u,hu,rfl⟩:=hw
       exact g3 i u hu
  obtain⟨y,hy1,hy2⟩:=hh
  refine⟨he,_,hσ,y,hy1,hy2,λn o ho=> ?_⟩
  obtain⟨o',h1,h2⟩:=cL ho
  have h1:(n,o')∈(bZ V X.sh.rcut r).own:=(XR.1 h1).1
  have:=iw (lg X.sh.rcut _ hdr) h1
  rw[aT]
  unfold TS.own?
  unfold bZ at *
  rw[this]
  exact h2
 refine .ent hent (ir hP ⟨by rw[hN.1,hn],λp hp=>(by rw[hN.2]at hp;cases hp)⟩ hm hcall c _ _ _ _ _ r _ (hl C hP ⟨by rw[hN.1,hn],λp hp=>(by rw[hN.2]at hp;cases hp)⟩) h ⟨λS σ hk he=> ?_,λid S σ _ hk he=>(by cases hk),λl S σ hk he=>(by cases hk),λw σ hk he=> ?_⟩)
 ·exact hend _ σ (.inl rfl) (Ent.trans he (dI hk))
 ·have:w=r:=by simpa using hk
  subst this
  exact hend _ σ (.inr rfl) he
theorem zA{P:Program}{fid:Nat}{sig:Sig V}{F:HL V.N sig.tys->Option (HL V.N sig.rcut.tys)}(hF:D8 P fid sig F){A:Type}{args:List (TV V.N)}{S:TS V.N}{dst:Option Tmp}
 {k:TE V.N->Option A}{r:A}(h:ff P sig F A args S k=some r):
 ∃te,k te=some r/\good S te/\Oz P fid (encL V S.len args) (aI V S).own? λe'=>ELe true e' (gJ (S.app dst te).len te):=by
 unfold ff at h
 split at h
 ·rename_i σ0 l0 h0
  split at h
  ·rename_i σ1 l1 h1
   split at h
   ·rename_i hin
    split at h
    ·rename_i v hv
     obtain⟨y,hy,h⟩:=bK h
     split at h
     ·rename_i x hx
      split at h
      ·rename_i hout
       obtain⟨h,hlens⟩:=lF h
       have hc:=hF v y x hy hx
       have hls:=rT hv
       obtain⟨a1,a2,a3,xs0,a4,a5,a6⟩:=g8 h0
       obtain⟨b1,b2,os0,b3,b4,b5,b6⟩:=ce h1
       have hst:a_ sig v=(xs0,os0):=by
        unfold a_
        rw[hls,a5 l1]
        simp only[b4]
       have hS:(ay sig v).own=os0:=by unfold ay;rw[hst]
       rw[hst,hS]at hc
       have hlen0:∀c o,gt os0 c=some o->(ay sig v).len c=TO.len (some o):=by
        intro c o ho
        unfold TS.len TS.own?
        rw[hS,ho]
       generalize (ay sig v).len=ω0 at hc hlen0
       generalize hos:jx sig y=os at h hout hc hlens
       have hlen1:∀c o,gt os c=some o->(bZ V sig.rcut y).len c=TO.len (some o):=by
        intro c o ho
        rw[<-hos]at ho
        have:=mn (λn=>sig.keep.contains n) (bZ V sig.rcut y).own c o ho
        unfold TS.len TS.own?
        rw[this]
       generalize (bZ V sig.rcut y).len=ω1 at hc hlen1
       generalize hτ:fe (80000+S.own.length) σ1 (os.map (·.1))=τ at h hout hlens
       have hsub:∀c n,gt σ1 c=some n->gt τ c=some n:=λc n hcn=>by rw[<-hτ];exact il hcn
       simp only[zB,VE,VH]at hout
       obtain⟨⟨⟨⟨⟨o1,o2⟩,o3⟩,o4⟩,o5⟩,o6⟩:=hout
       simp only[Fk,VE,VH]at hin
       obtain⟨⟨i1,i2⟩,i3⟩:=hin
       have hfi:=σf_inj o1
       have hbound:∀p∈sig.objs,∃n o,gt σ1 p.1=some n/\S.own? n=some o/\∃z,bu V S.len o=some z:=by
        intro p hp
        have:p.1∈os0.map (·.1):=by rw[b6];exact VO hp
        obtain⟨q,hq,hqe⟩:=VQ.1 this
        obtain⟨n,o,q1,q2,_,z,q3,_⟩:=b5 q.1 q.2 hq
        exact⟨n,o,by rw[<-hqe];exact q1,q2,_,q3 S.len⟩
       have hTr:∀E:Env,Tr σ1 sig.objs E (λc=>E (σf τ c)) S.len ω0:=λE=>by
        refine⟨λc n hcn=>by rw[σf_some (hsub c n hcn)],λc n hc' hcn=> ?_⟩
        rw[WJ]at hc'
        obtain⟨p,hp,hpn⟩:=hc'
        have hpn:p.1=c:=by simpa using hpn
        have hm:c∈os0.map (·.1):=by rw[b6,<-hpn];exact VO hp
        obtain⟨o,ho⟩:=eD hm
        obtain⟨n',o',q1,q2,q3,_⟩:=b5 c o (bn ho)
        rw[hcn]at q1;cases q1
        rw[hlen0 c o ho,q3];unfold TS.len;rw[q2]
       have hob':∀p∈sig.objs,match p.2 with| .box _ ps=>ps.all (yv V sig.objs)=true|_=>True:=by
        intro p hp
        have:=i2 p hp
        cases hq:p.2 with
        |box oty ps=>rw[hq]at this;simpa using this
        |st i=>trivial
        |vec te e=>trivial
        |dvec te e out=>trivial
        |map tk tv=>trivial
        |iter=>trivial
        |miter m k v=>trivial
       have hown:∀n o,gt (sig.objs.filterMap λp=>((S.own? (σf σ1 p.1)).bind (bu V S.len)).map λo=>(σf σ1 p.1,o)) n=some o->(S.own? n).bind (bu V S.len)=some o:=by
        intro n o hn
        obtain⟨p,hp,hpe⟩:=Wu.1 (bn hn)
        rw[VF]at hpe
        obtain⟨o',h1,h2⟩:=hpe
        simp only[VW]at h2
        obtain⟨rfl,rfl⟩:=h2
        exact h1
       have hkeys:∀n,n∈(sig.objs.filterMap λp=>((S.own? (σf σ1 p.1)).bind (bu V S.len)).map λo=>(σf σ1 p.1,o)).map (·.1)↔n∈sig.objs.map λp=>σf σ1 p.1:=by
        intro n
        constructor
        ·intro hn
         obtain⟨q,hq,rfl⟩:=VQ.1 hn
         obtain⟨p,hp,hpe⟩:=Wu.1 hq
         rw[VF]at hpe
         obtain⟨o',h1,h2⟩:=hpe
         rw[<-h2]
         exact VO (f:=λp=>σf σ1 p.1) hp
        ·intro hn
         obtain⟨p,hp,rfl⟩:=VQ.1 hn
         obtain⟨n,o,q1,q2,z,q3⟩:=hbound p hp
         refine VQ.2 ⟨(σf σ1 p.1,z),Wu.2 ⟨p,hp,?_⟩,rfl⟩
         rw[σf_some q1,q2]
         simp[q3]
       have hex:∀n o,gt (sb (σf τ) (bB ω0 os0)) n=some o->∃z,(gt (sig.objs.filterMap λp=>((S.own? (σf σ1 p.1)).bind (bu V S.len)).map λo=>(σf σ1 p.1,o)) n=some z)/\(∀E M w,bg E M w n z->bg E M w n o)/\∀(E:Env) w b,o.foot w (E n) b->z.foot w (E n) b:=by
        intro n o hn
        obtain⟨c,o1,rfl,hg,rfl⟩:=bH hfi hn
        obtain⟨t,ht,hto⟩:=cL hg
        obtain⟨n',oS,q1,q2,_,x4,q4,x',q5,q6,q7⟩:=b5 c t ht
        rw[q5]at hto
        simp only[Vx]at hto;subst hto
        have e:σf τ c=n':=σf_some (hsub _ _ q1)
        have hck:c∈sig.objs.map (·.1):=by rw[<-b6];exact VO (f:=(·.1)) ht
        obtain⟨p,hp,hpc⟩:=VQ.1 hck
        have hk':=(hkeys n').2 (VQ.2 ⟨p,hp,by rw[hpc];exact σf_some q1⟩)
        obtain⟨z,hz⟩:=eD hk'
        have hz':=hown _ _ hz
        rw[q2]at hz'
        simp only[Vk,q4,Vx]at hz'
        rw[e]
        refine⟨z,hz,λE M w hw=> ?_,λE w b hb=> ?_⟩
        ·rw[<-hz']at hw
         have:=(q6 σ1 sig.objs E _ M w S.len ω0 (Sub.refl _) hob' (hTr E) hw).ren (E':=E) (f:=σf τ) rfl λm _=>rfl
         rw[e]at this
         exact this
        ·rw[Own.ren_foot]at hb
         rw[<-hz']
         exact q7 E (λ_=>E n') w S.len ω0 b rfl hb
       have hsome:∀p∈os,∃o,bu V ω1 p.2=some o:=by
        intro p hp
        have:=o4 p hp
        cases hq:p.2 with
        |box oty cells=>exact⟨_,rfl⟩
        |bst i x=>exact⟨_,rfl⟩
        |vec te e xs=>exact⟨_,rfl⟩
        |dvec te e xs=>exact⟨_,rfl⟩
        |pvec te e xs=>exact⟨_,rfl⟩
        |map tk tv es=>exact⟨_,rfl⟩
        |iter s p=>exact⟨_,rfl⟩
        |miter m k v es rest cur=>exact⟨_,rfl⟩
        |gone l=>rw[hq]at this;simp[TO.allN]at this
       have hgos:∀n,(gt os n).isSome=true->(gt (bB ω1 os) n).isSome=true:=by
        intro n hn
        obtain⟨o,ho⟩:=Xu.1 hn
        obtain⟨z,hz⟩:=hsome _ (bn ho)
        rw[gC ho hz];rfl
       refine⟨_,h,?_,?_⟩
       ·intro m o hm
        simp only[ed]at hm
        split at hm
        ·rename_i o' hq
         simp only[Vx]at hm;subst hm
         obtain⟨p,hp,hpe⟩:=VQ.1 (bn hq)
         simp only[VW]at hpe
         obtain⟨rfl,rfl⟩:=hpe
         have h5:=o5 p hp
         rw[V0]at h5
         by_cases hpk:A6 p.1 (sig.objs.map (·.1))=true
         ·right
          rcases h5 with h5|h5
          ·rw[hpk]at h5;cases h5
          ·rw[uP]
           cases hpp:p.2 with
           |box oty cells=>rw[hpp]at h5;simp only[vz]at h5;exact(Wa h5).symm
           |bst i x=>rw[hpp]at h5;simp only[vz]at h5;exact(Wa h5).symm
           |vec te e xs=>
            exact hlens _ (dn (.inl ⟨te,e,xs,rfl⟩) hpk (by rw[<-hpp];exact hp))
           |dvec te e xs=>
            exact hlens _ (dn (.inr (.inl ⟨te,e,xs,rfl⟩)) hpk (by rw[<-hpp];exact hp))
           |pvec te e xs=>
            exact hlens _ (dn (.inr (.inr ⟨te,e,xs,rfl⟩)) hpk (by rw[<-hpp];exact hp))
           |map tk tv es=>rw[hpp]at h5;simp only[vz]at h5;exact(Wa h5).symm
           |iter s p=>rw[hpp]at h5;simp only[vz]at h5;exact(Wa h5).symm
           |miter m k v es rest cur=>rw[hpp]at h5;cases h5
           |gone l=>rw[hpp]at h5;cases h5
         ·left
          refine pg (VQ.2 ⟨p,hp,rfl⟩) λhmem=>hpk (ka.2 ?_)
          obtain⟨q,hq',hqe⟩:=VQ.1 hmem
          obtain⟨n,o,q1,_⟩:=hbound q hq'
          rw[σf_some q1,<-σf_some (hsub _ _ q1)]at hqe
          rw[<-hfi _ _ hqe]
          exact VO (f:=(·.1)) hq'
        ·right
         obtain⟨q,hq',hqe⟩:=VQ.1 (bn hm)
         simp only[VW]at hqe
         obtain⟨rfl,rfl⟩:=hqe
         rfl
       ·have hat:=hc.ren τ (by
         simp only[Dn,VE,VH]
         refine⟨⟨⟨⟨o1,λp hp=> ?_⟩,λp hp=> ?_⟩,?_⟩,λp hp=> ?_⟩
         ·obtain⟨z,hz,hz2⟩:=Wu.1 hp
          rw[VF]at hz2
          obtain⟨o',_,rfl⟩:=hz2
          have:z.1∈sig.objs.map (·.1):=by rw[<-b6];exact VO (f:=(·.1)) hz
          obtain⟨q,hq,hqe⟩:=VQ.1 this
          have:=i3 q hq
          rw[hqe]at this
          exact this
         ·obtain⟨z,hz,hz2⟩:=Wu.1 hp
          rw[VF]at hz2
          obtain⟨o',_,rfl⟩:=hz2
          exact o2 z hz
         ·refine H.allN_of λn hn=> ?_
          rw[iq]at hn
          have:=TV.allN_has o3 hn
          rw[V0];exact .inr (hgos n this)
         ·obtain⟨z,hz,hz2⟩:=Wu.1 hp
          rw[VF]at hz2
          obtain⟨o',ho',rfl⟩:=hz2
          have h4:=o4 z hz
          cases o' with
          |box oty cells=>
           simp only[Own.allN]
           refine H.allNL_of λn hn=> ?_
           have:TO.has n z.2=true:=by rw[<-j7 ω1 n ho'];exact hn
           have:=TO.allN_has h4 this
           rw[V0];exact .inr (hgos n this)
          |vec e sz rows=>rfl
          |map es=>rfl
          |iter s p=>rfl
          |dvec e sz rows=>rfl
          |miter m es rest cur=>
           simp only[Own.allN]
           have:TO.has m z.2=true:=by rw[<-j7 ω1 m ho'];exact Xw m
           have:=TO.allN_has h4 this
           rw[V0];exact .inr (hgos m this))
        generalize hownE:(sig.objs.filterMap λp=>((S.own? (σf σ1 p.1)).bind (bu V S.len)).map λo=>(σf σ1 p.1,o))=own at hown hkeys hex
        refine⟨own,_,_,B8.weak (args':=encL V S.len args) (own1:=own) hat (λE M vs hvs=> ?_) (λE M w hw=> ?_) (λn=> ?_) (λE M w hw b hb=> ?_),λp hp=> ?_,?_⟩
        ·refine⟨by rw[hvs.1,H.renL_len,aH,aH,a4],λi c z hcz hz=> ?_⟩
         rw[H.renL_get,encL_map,Vz,YG,VF]at hz
         obtain⟨u0,hu0,rfl⟩:=hz
         have hi:i<args.length:=by rw[<-a4];exact(Vv.1 hu0).1
         have hu:=Vw hi
         obtain⟨_,k2⟩:=a6 i _ u0 hu hu0
         have hr:=hvs.2 i c (ao V S.len args[i]) hcz (by rw[encL_map,Vz,hu];rfl)
         exact(k2 σ1 sig.objs E _ M S.len ω0 c b1 (VH.2 i1) (hTr E) hr).ren λn _=>rfl
        ·refine⟨λn o hn=> ?_,λn m o o' b hne hn hm hb=> ?_⟩
         ·obtain⟨z,hz,hz',_⟩:=hex n o hn
          exact hz' E M w (hw.ok n z hz)
         ·obtain⟨z,hz,_,f1⟩:=hex n o hn
          obtain⟨z',hz',_,f2⟩:=hex m o' hm
          exactλhb'=>hw.apart n m z z' b hne hz hz' (f1 E w b hb) (f2 E w b hb')
        ·constructor
         ·rintro⟨o,ho⟩
          obtain⟨z,hz,_⟩:=hex n o ho
          exact⟨z,hz⟩
         ·rintro⟨o,ho⟩
          have:=(hkeys n).1 (VO (f:=(·.1)) (bn ho))
          obtain⟨p,hp,rfl⟩:=VQ.1 this
          have hm:p.1∈os0.map (·.1):=by rw[b6];exact VO hp
          obtain⟨t,ht⟩:=eD hm
          obtain⟨n',oS,q1,q2,_,x4,q4,x',q5,q6⟩:=b5 p.1 t (bn ht)
          refine⟨(x' ω0).ren (σf τ),?_⟩
          rw[σf_some q1,<-σf_some (hsub _ _ q1),ee hfi,gC ht (q5 ω0)]
          rfl
        ·obtain⟨n,o,hn,hb⟩:=hb
         obtain⟨z,hz,_,f1⟩:=hex n o hn
         exact⟨n,z,hz,f1 E w b hb⟩
        ·rw[<-hownE]at hp
         obtain⟨q,hq,hqe⟩:=Wu.1 hp
         rw[VF]at hqe
         obtain⟨o',h1,rfl⟩:=hqe
         rw[aT];exact h1
        ·have hω:∀te:TE V.N,(∀c o,gt os c=some o->gt te.upd (σf τ c)=some (o.ren (σf τ)))->∀c,(gt os c).isSome=true->(S.app dst te).len (σf τ c)=ω1 c:=by
          intro te hte c hcs
          obtain⟨o,ho⟩:=Xu.1 hcs
          rw[cR,hte c o ho,hlen1 c o ho]
          exact uP _ o
         have hkl:own.map (·.1)=sig.objs.map λp=>σf σ1 p.1:=by
          rw[<-hownE]
          have:∀l:List (Nat×OPt V.ι),(∀p∈l,∃n o,gt σ1 p.1=some n/\S.own? n=some o/\∃z,bu V S.len o=some z)->
           (l.filterMap λp=>((S.own? (σf σ1 p.1)).bind (bu V S.len)).map λo=>(σf σ1 p.1,o)).map (·.1)=l.map λp=>σf σ1 p.1:=by
           intro l
           induction l with
           |nil=>intro _;rfl
           |cons p r ih=>
            intro hl
            obtain⟨n,o,q1,q2,z,q3⟩:=hl p Vy
            have e:(S.own? (σf σ1 p.1)).bind (bu V S.len)=some z:=by rw[σf_some q1,q2];exact q3
            simp only[WV,e,VV,VC]
            rw[ih λq hq=>hl q (Vu _ hq)]
          exact this sig.objs hbound
         have hml:(sb (σf τ) (bB ω1 os)).map (·.1)=os.map λp=>σf τ p.1:=by
          have:∀l:List (Nat×TO V.N),(∀p∈l,∃o,bu V ω1 p.2=some o)->(sb (σf τ) (bB ω1 l)).map (·.1)=l.map λp=>σf τ p.1:=by
           intro l
           induction l with
           |nil=>intro _;rfl
           |cons p r ih=>
            intro hl
            obtain⟨o,ho⟩:=hl p Vy
            have:=ih λq hq=>hl q (Vu _ hq)
            unfold sb bB at this⊢
            simp only[WV,ho,VV,VC]
            rw[this]
          exact this os hsome
         refine ca ?_ ?_ ?_ ?_
         ·simp only[dQ]
          refine(uE x λn hn=>hω _ (λc o ho=> ?_) n (TV.allN_has o3 hn)).symm
          simp only[ed,qo hfi,ho,VV]
         ·simp only[dQ]
          rw[fD,hkl]
          rw[hml]
         ·simp only[dQ,Wk]
          refine congr (congrArg _ ?_) ?_
          ·have:∀(ω2:Nat->Nat) (l:List (Nat×TO V.N)),(∀p∈l,∃o,bu V ω1 p.2=some o)->(∀p∈l,bu V ω2 (TO.ren (σf τ) p.2)=(bu V ω1 p.2).map (Own.ren (σf τ)))->
            (sb (σf τ) (bB ω1 l)).map (λp=>(p.1,some p.2))=(l.map λp=>(σf τ p.1,TO.ren (σf τ) p.2)).map λp=>(p.1,bu V ω2 p.2):=by
            intro ω2 l
            induction l with
            |nil=>intro _ _;rfl
            |cons p r ih=>
             intro hl hl2
             obtain⟨o,ho⟩:=hl p Vy
             have h2:=hl2 p Vy
             have:=ih (λq hq=>hl q (Vu _ hq)) λq hq=>hl2 q (Vu _ hq)
             unfold sb bB at this⊢
             simp only[WV,ho,VV,VC,h2]
             rw[this]
           refine this _ os hsome λp hp=>AW p.2 λn hn=>hω _ (λc o ho=> ?_) n (TO.allN_has (o4 p hp) hn)
           simp only[ed,qo hfi,ho,VV]
          ·have e:own.map (λp:Nat×Own=>(p.1,(none:Option Own)))=(own.map (·.1)).map λn=>(n,none):=by rw[V1];rfl
           rw[e,hkl,V1,V1]
           rfl
         ·simp only[dQ]
          exact hkl
      ·cases h
     ·cases h
    ·cases h
   ·cases h
  ·cases h
 ·cases h
def x_:Code->Code
 | .seq a _=>a
 |c=>c
def jg:Code->Code
 | .seq _ b=>b
 |c=>c
def Lv:Oper:={dst:=none,op:= .move (.tmp 0),type:=0,pos:= "",after:= #[],guard:=none}
def P_(i:Nat):Code->Oper
 | .region _ ops _=>(ops.toList[i]?).getD Lv
 |_=>Lv
noncomputable def Tl(X:Xc V)(pa:Nat->Bool)(x0 x1 B z:Code)(td:Tmp)(caps:List Tmp)(sigD:Sig V)(FD:HL V.N sigD.tys->Option (HL V.N sigD.rcut.tys))(S0:TS V.N):Option (HL V.N X.sh.rcut.tys):=
 ex {X with pre:=pa} x0 _ S0 (λS1=>ex {X with pre:=pa} x1 _ S1 (λS2=>
  ex X B _ {S2 with tmps:=(td, .junk)::S2.tmps} (λS4=>ex X z _ S4 (λS5=>
   ff X.P sigD FD _ (caps.map S5.get) S5 λte=>match ew S5 te with
    |true=>CI V X.sh.rcut (S5.app none te)
    |false=>none) (λ_ _=>none) (λ_=>none)) (λ_ _=>none) (λ_=>none)) (λ_ _=>none) (λ_=>none)) (λ_ _=>none) (λ_=>none)
theorem Bq{sh:az V}{A:Type}{k:TS V.N->Option A}{r:A}:SW sh k (λ_ _=>none) (λ_=>none) r (λe σ=>e= .normal/\∃S,k S=some r/\Ent σ (aI V S)):=
 ⟨λS σ hk he=>⟨rfl,S,hk,he⟩,λ_ _ _ _ h=>(by cases h),λ_ _ _ h=>(by cases h),λ_ _ h=>(by cases h)⟩
theorem I6{X:Xc V}{sig:Sig V}(hsh:X.sh.rcut=sig.rcut){fid fd:FuncId}{fn:Func}{x0 x1 B z:Code}{id:Nat}{o1 o2:Oper}{td:Tmp}{caps:List Tmp}{ct:Call}{pa:Nat->Bool}(hf:X.P.funcs[fid]?=some fn)
 (hb:fn.body=some (.seq x0 (.seq x1 (.seq (.region id #[o1,o2] false) (.seq B (.seq z .ret))))))(hn:fn.ntmps=X.n)(hrs:fn.results.toList=sig.rvars)(hname:(fn.name != "runtime.NumGoroutine")=true)
 (hlen:XH sig.params.length X.n=true)(hm:X.P.follows .mixedOrders=true)(hcall:af X.P X.call)(hdr:eP (sig.rcut.objs.map (·.1))=true)
 (ho1:o1.op= .makeFunc (.func fd) #[] (caps.map Operand.tmp).toArray)(hd1:o1.dst=some td)(hg1:o1.guard=none)(ho2:o2.op= .defer ct)(hct:ct.callee= .value (.tmp td))(hca:ct.args= #[])(hd2:o2.dst=none)(hg2:o2.guard=none)
 (htd:WS td X.n=true)(hcaps:caps.all (λt=>WS t X.n&& !Ww t td&&X.pre (4000000+t))=true)
 (hl:∀C:Ctx,C.P=X.P->C.N=X.n/\Fx C X.pre->LOk C X B/\LOk C X z)(hl0:∀C:Ctx,LOk C {X with pre:=pa} x0/\LOk C {X with pre:=pa} x1)
 {sigD:Sig V}{FD:HL V.N sigD.tys->Option (HL V.N sigD.rcut.tys)}(hD:D8 X.P fd sigD FD){v:HL V.N sig.tys}{r:HL V.N sig.rcut.tys}(h:Tl X pa x0 x1 B z td caps sigD FD (ay sig v)=some (hsh▸r)):
 ∀x,rh X.P sig r=some x->
  i6 X.P fid (encL V (ay sig v).len (a_ sig v).1) (bB (ay sig v).len (ay sig v).own) (ao V (bZ V sig.rcut r).len x) (bB (bZ V sig.rcut r).len (jx sig r)):=by
 obtain⟨params,objs,rcut,rvars,keep⟩:=sig
 simp only at hsh
 subst hsh
 intro x hx
 have htd:td<X.n:=by simpa[WZ]using htd
 have hcaps:∀t∈caps,t<X.n/\t≠td/\X.pre (4000000+t)=true:=λt ht=>by
  have:=VH.1 hcaps t ht
  simp only[VE,WZ,W7]at this
  refine⟨this.1.1,⟨λe=> ?_,this.2⟩⟩
  rw[e,Xw]at this
  cases this.1.2
 have hargs:(a_ ⟨params,objs,X.sh.rcut,rvars,keep⟩ v).1.length<=X.n:=by
  have hp:params.length<=X.n:=WF hlen
  unfold a_
  split
  ·rename_i xs ls h1
   split
   ·simp only;rw[uz h1];exact hp
   ·simp
  ·simp
 have hent:Ent ⟨gF 0 (encL V (ay ⟨params,objs,X.sh.rcut,rvars,keep⟩ v).len (a_ ⟨params,objs,X.sh.rcut,rvars,keep⟩ v).1),kX (bB (ay ⟨params,objs,X.sh.rcut,rvars,keep⟩ v).len (ay ⟨params,objs,X.sh.rcut,rvars,keep⟩ v).own)⟩
  (aI V (ay ⟨params,objs,X.sh.rcut,rvars,keep⟩ v)):=by
  refine Ent.le (λt y hy=>⟨y,?_,H.le.refl _⟩) λn o ho=>⟨o,?_,OLe.refl _⟩
  ·rw[iY];exact hy
  ·rw[aT,WO]at ho
   obtain⟨o',ho',hoo⟩:=ho
   have:=gC (os:=(ay ⟨params,objs,X.sh.rcut,rvars,keep⟩ v).own) ho' hoo
   unfold ae.own?
   rw[bQ]
   exact this
 have hend:∀e σ,(e= .normal\/e= .ret)->Ent σ (aI V (bZ V X.sh.rcut r))->
  vP X.P fn.results.toList (ao V (bZ V X.sh.rcut r).len x) (bB (bZ V X.sh.rcut r).len (jx ⟨params,objs,X.sh.rcut,rvars,keep⟩ r)) e σ:=by
  intro e σ he hσ
  unfold rh at hx
  rw[VF]at hx
  obtain⟨vs,hvs,hone⟩:=hx
  obtain⟨hs,g1,g2,g3⟩:=kh hvs
  have hh:∃y,JZ X.P (aI V (bZ V X.sh.rcut r)) fn.results.toList=some y/\H.le y (ao V (bZ V X.sh.rcut r).len x):=by
   rw[hrs]
   unfold JZ
   rw[g1]
   cases vs with
   |nil=>
    have:hs=[]:=VY (by simpa using g2)
    subst this;subst hone
    exact⟨.tup [],rfl,by simp only[Ny,ao,encL];exact H.le.refl _⟩
   |cons a l=>
    cases l with
    |nil=>
     cases hs with
     |nil=>simp at g2
     |cons y l'=>
      have:l'=[]:=VY (by simpa using g2)
      subst this;subst hone
      obtain⟨z,z1,z2⟩:=g3 0 a rfl
      simp at z1;subst z1
      exact⟨y,rfl,z2⟩
    |cons b l=>
     cases hs with
     |nil=>simp at g2
     |cons y l'=>
      cases l' with
      |nil=>simp at g2
      |cons y2 l2=>
       subst hone
       refine⟨.tup (y::y2::l2),rfl,?_⟩
       simp only[Ny,ao]
       refine yt (by rw[aH];exact g2) λi w hw=> ?_
       rw[encL_map,Vz,VF]at hw
       obtain⟨u,hu,rfl⟩:=hw
       exact g3 i u hu
  obtain⟨y,hy1,hy2⟩:=hh
  refine⟨he,_,hσ,y,hy1,hy2,λn o ho=> ?_⟩
  obtain⟨o',h1,h2⟩:=cL ho
  have h1:(n,o')∈(bZ V X.sh.rcut r).own:=(XR.1 h1).1
  have:=iw (lg X.sh.rcut _ hdr) h1
  rw[aT]
  unfold TS.own?
  unfold bZ at *
  rw[this]
  exact h2
 generalize hS0:ay ⟨params,objs,X.sh.rcut,rvars,keep⟩ v=S0 at hent h⊢
 generalize hx0:a_ ⟨params,objs,X.sh.rcut,rvars,keep⟩ v=O0 at hent hargs⊢
 generalize hown0:bB S0.len S0.own=own at hent⊢
 refine⟨by simp[eO,hf,hb,hname],λE M w vs hgm hm' how hvs=> ?_⟩
 refine calls_of_wp_defers hf hb ?_
 let C:Ctx:=⟨X.P,fn.ntmps,w,M,E,gW E w own,hgm,λb ⟨n,o,hn,hb⟩=>((how.ok n o hn).block hb).2,[],[]⟩
 have hs:Sim C E M ⟨gF 0 (encL V S0.len O0.1),kX own⟩ {tmps:=vs++W4 (fn.ntmps-vs.size) undef,defers:=[]} w:=by
  have hvs1:=hvs.1
  rw[aH]at hvs1
  refine{size:=by simp[C];omega,defers:=rfl,fixed:=λp hp=>(by cases hp),tmps:=λt x hx=> ?_,mem:=hm',own:=λn o ho=> ?_,apart:=λn m o o' b hne ho ho'=> ?_,home:=λn o b ho hb=> ?_,m0:=Mem.le_refl M,mnew:=λb o v hv=> .inl hv,frame:=λ_ _ _=>rfl,grows:=VN _,os:=rfl,tape:=rfl,output:=rfl,env:=λ_ _=>rfl}
  ·obtain⟨_,h2⟩:=mo _ 0 t x hx
   simp only[Yr]at h2
   have hlt:t<vs.size:=by have:=(Vv.1 h2).1;rw[aH]at this;omega
   exact⟨vs[t],by simp[Xq hlt,hlt],hvs.2 t _ x (Wb hlt) h2⟩
  ·have ho':gt own n=some o:=by rw[<-bQ];exact ho
   exact how.ok n o ho'
  ·have h1:gt own n=some o:=by rw[<-bQ];exact ho
   have h2:gt own m=some o':=by rw[<-bQ];exact ho'
   exact how.apart n m o o' b hne h1 h2
  ·have h1:gt own n=some o:=by rw[<-bQ];exact ho
   exact .inl ⟨n,o,h1,hb⟩
 obtain⟨E0,M0,hs0⟩:=hent _ _ _ _ _ hs
 have hF0:Fx C pa:=λp hp=>by cases hp
 unfold Tl at h
 have A0:=ir (C:=C) (X:={X with pre:=pa}) rfl ⟨hn,hF0⟩ hm hcall x0 _ S0 _ _ _ _ _ (hl0 C).1 h Bq
 refine wp_seq (wp_mono (A0 E0 M0 _ w hs0) ?_)
 rintro e a1 w1 ⟨σ1,E1,M1,⟨rfl,S1,h1,he1⟩,hs1⟩
 obtain⟨E1,M1,hs1⟩:=he1 _ _ _ _ _ hs1
 have A1:=ir (C:=C) (X:={X with pre:=pa}) rfl ⟨hn,hF0⟩ hm hcall x1 _ S1 _ _ _ _ _ (hl0 C).2 h1 Bq
 refine wp_seq (wp_mono (A1 E1 M1 a1 w1 hs1) ?_)
 rintro e a2 w2 ⟨σ2,E2,M2,⟨rfl,S2,h2,he2⟩,hs2⟩
 obtain⟨E2,M2,hs2⟩:=he2 _ _ _ _ _ hs2
 have hsz:a2.tmps.size=X.n:=hs2.size.trans hn
 generalize hcv:(caps.map Operand.tmp).toArray.map a2.eval=capv
 have hwr:∀d,o1.dst=some d->C.wr d:=λd hd=>by
  rw[hd1]at hd;cases hd
  exact⟨by show td<fn.ntmps;rw[hn];exact htd,λp hp=>by cases hp⟩
 have hs3:=hs2.put o1.dst hwr (aS.junk (E:=E2) (M:=M2) (.func (.func fd) #[] capv))
 refine wp_seq (wp_region ?_)
 have hrange:Xk (#[o1,o2]:Array Oper).size=[0,1]:=rfl
 have hi0:(#[o1,o2]:Array Oper)[0]?=some o1:=rfl
 have hi1:(#[o1,o2]:Array Oper)[1]?=some o2:=rfl
 rw[hrange]
 simp only[wpOps,hi0,hi1]
 rw[Y5 (by simp[Region.wanted,hg1])]
 refine .inl (ap (v:= .func (.func fd) #[] capv) (w':=w2) (by simp[execOp,ho1,Instr.makeFunc,hcv]) ?_)
 rw[Y5 (by simp[Region.wanted,hg2])]
 refine .inl ?_
 have htdv:(a2.put o1.dst (.func (.func fd) #[] capv)).eval (.tmp td)= .func (.func fd) #[] capv:=by
  rw[hd1]
  simp[Act.put,Act.eval,hsz,htd]
 unfold Oper.wp
 have hdef:(execOp (a2.put o1.dst (.func (.func fd) #[] capv)).eval o2).run X.P w2= .ok (.defer ⟨.fn (.func fd) capv, #[]⟩) w2:=by
  simp[execOp,ho2,resolve,hct,hca,htdv,Deferred.ofValue]
 rw[hdef,Oper.upon_defer,hd2]
 generalize ha3:a2.put o1.dst (.func (.func fd) #[] capv)=a3 at hs3⊢
 have ht3:∀t∈caps,a3.tmps[t]?=some (a2.eval (.tmp t)):=λt ht=>by
  obtain⟨q1,q2,_⟩:=hcaps t ht
  rw[<-ha3,hd1]
  have hlt:t<a2.tmps.size:=by rw[hsz];exact q1
  show(a2.tmps.setIfInBounds td (.func (.func fd) #[] capv))[t]?=some (a2.tmps.getD t undef)
  rw[Wp (VZ q2),XM,Wb hlt]
  rfl
 let C1:Ctx:={C with D:=[⟨.fn (.func fd) capv, #[]⟩],fix:=caps.map λt=>(t,a2.eval (.tmp t))}
 have hs4:Sim C1 E2 M2 (aI V {S2 with tmps:=(td, .junk)::S2.tmps}) (({a3 with defers:=⟨.fn (.func fd) capv, #[]⟩::a3.defers}:Act).put none undef) w2:=by
  have hde:a3.defers=[]:=hs3.defers
  have hst:aI V {S2 with tmps:=(td, .junk)::S2.tmps}={aI V S2 with tmps:=pi o1.dst .junk (aI V S2).tmps}:=by
   rw[hd1];rfl
  rw[hst]
  have hfx:∀p∈C1.fix,a3.tmps[p.1]?=some p.2:=λp hp=>by
   obtain⟨t,ht,rfl⟩:=VQ.1 hp
   exact ht3 t ht
  exact{size:=hs3.size,defers:=(by simp[Act.put,hde,C1]),fixed:=hfx,tmps:=hs3.tmps,mem:=hs3.mem,own:=hs3.own,apart:=hs3.apart,home:=hs3.home,m0:=hs3.m0,mnew:=hs3.mnew,frame:=hs3.frame,grows:=hs3.grows,os:=hs3.os,tape:=hs3.tape,output:=hs3.output,env:=hs3.env}
 generalize ({a3 with defers:=⟨.fn (.func fd) capv, #[]⟩::a3.defers}:Act).put none undef=a4 at hs4⊢
 have hF1:Fx C1 X.pre:=λp hp=>by
  obtain⟨t,ht,rfl⟩:=VQ.1 hp
  exact(hcaps t ht).2.2
 have hL:=hl C1 rfl ⟨hn,hF1⟩
 have A4:=ir (C:=C1) (X:=X) rfl ⟨hn,hF1⟩ hm hcall B _ _ _ _ _ _ _ hL.1 h2 Bq
 refine wp_seq (wp_mono (A4 E2 M2 a4 w2 hs4) ?_)
 rintro e a5 w5 ⟨σ5,E5,M5,⟨rfl,S5,h5,he5⟩,hs5⟩
 obtain⟨E5,M5,hs5⟩:=he5 _ _ _ _ _ hs5
 have A5:=ir (C:=C1) (X:=X) rfl ⟨hn,hF1⟩ hm hcall z _ _ _ _ _ _ _ hL.2 h5 Bq
 refine wp_seq (wp_mono (A5 E5 M5 a5 w5 hs5) ?_)
 rintro e a6 w6 ⟨σ6,E6,M6,⟨rfl,S6,h6,he6⟩,hs6⟩
 obtain⟨E6,M6,hs6⟩:=he6 _ _ _ _ _ hs6
 refine wp_ret ?_
 show Leaves X.P fn a6.tmps _ a6.defers .returning w6
 have hde:a6.defers=[⟨.fn (.func fd) capv, #[]⟩]:=hs6.defers
 rw[hde]
 obtain⟨te,k1,k2,own1,rr,own1',hat,hsub0,hele⟩:=zA hD (dst:=none) h6
 have hsub:∀n o,gt own1 n=some o->(aI V S6).own? n=some o:=λn o hq=>hsub0 (n,o) (bn hq)
 have hnk:ew S6 te=true/\CI V X.sh.rcut (S6.app none te)=some r:=by
  cases hq:ew S6 te with
  |true=>rw[hq]at k1;exact⟨rfl,k1⟩
  |false=>rw[hq]at k1;cases k1
 obtain⟨f1,f2⟩:=dr hnk.1
 have hnew:∀d∈eo own1 own1',(aI V S6).fresh d=true/\d<given:=λd hd=>by
  have hd:d∈te.new:=by have:=hele.new;simp only[dQ]at this;rw[this]at hd;exact hd
  exact⟨eC (f1 d hd),f2 d hd⟩
 have hcal:=hat.1
 refine⟨by simp, .func fd,capv,fd,capv,rfl,?_,?_⟩
 ·unfold eO at hcal
  split at hcal
  ·rename_i fn' hfn'
   simp only[VE,bne_iff_ne,ne_eq]at hcal
   have hbb:¬fn'.body=none:=by
    intro hbb
    rw[hbb]at hcal;simp at hcal
   simp[invoke,callFunc,hfn',hcal.1,hbb]
  ·cases hcal
 ·have hreps:fm E6 M6 capv (encL V S6.len (caps.map S6.get)):=by
   have hcl:capv.size=caps.length:=by rw[<-hcv];simp
   refine⟨by rw[aH,VA];exact hcl,λi c y hc hy=> ?_⟩
   rw[encL_map,Vz,Vz]at hy
   cases hq:caps[i]? with
   |none=>rw[hq]at hy;cases hy
   |some t=>
    rw[hq]at hy
    simp only[VV,Vx]at hy
    subst hy
    have hc2:c=a2.eval (.tmp t):=by
     rw[<-hcv]at hc
     simp[hq]at hc
     exact hc.symm
    have hfx:=hs6.fixed (t,a2.eval (.tmp t)) (VQ.2 ⟨t,VI hq,rfl⟩)
    have hev:=hs6.ev (.tmp t)
    rw[aw]at hev
    have:a6.eval (.tmp t)=c:=by
     rw[hc2]
     simp only[Act.eval]
     rw[XM,hfx];rfl
    rw[this]at hev
    exact hev
  have hC:=hat.2 E6 M6 w6 capv (C1.g0.mono hs6.m0 λb ⟨v,hv⟩ hb=>hs6.frame b hb λhx=>by rw[C1.gx b hx 0]at hv;cases hv) hs6.mem
   ⟨λn o h=>hs6.own n o (hsub n o h),λn m o o' b hne h h'=>hs6.apart n m o o' b hne (hsub n o h) (hsub m o' h')⟩ hreps
  refine(hC .returning).mono ?_
  rintro e u' w7 ⟨rfl,v1,E7,M7,rfl,hp,henv⟩
  have hs7:=Sim.called (o:=o2) (λd hd=>by rw[hd2]at hd;cases hd) hs6 hsub hp henv hnew
  rw[hd2]at hs7
  have hs8:=Sim.tapp (dst:=none) k2 f1 hele hs7
  obtain⟨he,S8,hen8,hh,hres,hle,hown⟩:=hend .ret _ (.inr rfl) (dI hnk.2)
  obtain⟨E9,M9,hs9⟩:=hen8 _ _ _ _ _ hs8
  obtain⟨v9,hrun,hrep⟩:=vt (C:=C1) hs9 hres
  refine⟨v9,hrun,v9,E9,M9,rfl,?_⟩
  exact{rep:=hle _ _ _ hrep,owns:=⟨λn o ho=>hs9.own n o (hown n o ho),λn m o o' b hne h1 h2=>hs9.apart n m o o' b hne (hown n o h1) (hown m o' h2)⟩,mle:=hs9.m0,mem:=hs9.mem,mnew:=hs9.mnew,home:=λn o b ho hb=>hs9.home n o b (hown n o ho) hb,frame:=hs9.frame,grows:=hs9.grows,os:=hs9.os,tape:=hs9.tape,output:=hs9.output,env:=hs9.env}
end
end Go.Tx
end
section
namespace Go.Tx
open Go.Awp
variable [Inhabited GMem]
section
variable {V:m_}
def c0:al V:=λ_ _ _ _ _=>none
def cO(P:Program)(fid:Nat)(sig:Sig V)(F:HL V.N sig.tys->Option (HL V.N sig.rcut.tys))(r:al V):al V:=λA f args S k=>match Ww f fid with
 |true=>ff P sig F A args S k
 |false=>r A f args S k
def cP(P:Program)(fid:Nat)(sig:Sig V)(F:HL V.N sig.tys->Option (HL V.N sig.rcut.tys))(r:al V):al V:=λA f args S k=>match Ww f fid with
 |true=>aV P sig F A args S k
 |false=>r A f args S k
theorem aJ{P:Program}:af P (c0:al V):=λA fid args S dst k r h=>by cases h
theorem aN{P:Program}{fid:Nat}{sig:Sig V}{F:HL V.N sig.tys->Option (HL V.N sig.rcut.tys)}{r:al V}(h:aA P fid sig F)(hr:af P r):af P (cO P fid sig F r):=λA f args S dst k x hx=>by
 unfold cO at hx
 split at hx
 ·rename_i e
  have e:=Wa e
  subst e
  exact dx h hx
 ·exact hr A f args S dst k x hx
theorem aU{P:Program}{fid:Nat}{sig:Sig V}{F:HL V.N sig.tys->Option (HL V.N sig.rcut.tys)}{r:al V}(h:aA P fid sig F)(ho:sig.objs=[])(hk:sig.keep=[])(hr:af P r):af P (cP P fid sig F r):=λA f args S dst k x hx=>by
 unfold cP at hx
 split at hx
 ·rename_i e
  have e:=Wa e
  subst e
  exact ak h ho hk hx
 ·exact hr A f args S dst k x hx
end
noncomputable def Mv{A:Type}:Nat->Option A->Option A
 |0,x=>x
 |n+1,x=>OG x (Mv n x)
theorem lz{A:Type}(x:Option A):∀n,Mv n x=x
 |0=>rfl
 |n+1=>by rw[Mv,lz x n];unfold OG;rw[Y5 rfl]
end Go.Tx
end
section
namespace Go.Tx
open Go.Awp
variable {V:m_} [Inhabited GMem]
def aP:Nat->Bool:=λ_=>false
theorem bL{C:Ctx}{X:Xc V}{c:Code}(h:aR c=[])(hj:∀k,X.jumps k=none:=by intro k;rfl):LOk C X c:=bo (by rw[h];trivial) hj
theorem gq{C:Ctx}{X:Xc V}{c b:Code}{la:yQ V X.sh}(h:aR c=[b])(e:X.loops (cC b)=some la)(h1:aD C b la)(hj:∀k,X.jumps k=none:=by intro k;rfl):LOk C X c:=
 bo (by rw[h];exact⟨dS e h1,trivial⟩) hj
theorem QZ{C:Ctx}{X:Xc V}{c b b':Code}{la la':yQ V X.sh}(h:aR c=[b,b'])(e:X.loops (cC b)=some la)(e':X.loops (cC b')=some la')(h1:aD C b la)(h2:aD C b' la')(hj:∀k,X.jumps k=none:=by intro k;rfl):LOk C X c:=
 bo (by rw[h];exact⟨dS e h1,dS e' h2,trivial⟩) hj
theorem fnA(X:Xc V){sig:Sig V}{fid:FuncId}{fn:Func}{n:HL V.N sig.tys->Option (HL V.N sig.rcut.tys)}(hf:X.P.funcs[fid]?=some fn)
 (hk:(fn.body,fn.results.toList,(fn.name != "runtime.NumGoroutine"),fn.ntmps)=(some (ah fn),sig.rvars,true,X.n))(hm:X.P.follows .mixedOrders=true)(hcall:af X.P X.call)
 (hsh:X.sh.rcut=sig.rcut)(hlen:XH sig.params.length X.n=true)(hdr:eP (sig.rcut.objs.map (·.1))=true)(h:∀v,exF X sig hsh (ah fn) v=n v)
 (hl:∀C:Ctx,C.P=X.P->C.N=X.n/\Fx C X.pre->LOk C X (ah fn)):aA X.P fid sig n:=λv r x hr hx=>by
 injection hk with h1 h2
 injection h2 with h2 h3
 injection h3 with h3 h4
 exact mm hsh hf h1 h4 h2 h3 hlen hm hcall hdr hl ((h v).trans hr) x hx
theorem lpB{C:Ctx}{X:Xc V}{b:Code}{cut:Cut V.ι}{alts:List Alt}{n:HL V.N cut.tys->Option (yR (dG X.sh []) alts)}
 {bd:(HL V.N cut.tys->Option (yR (dG X.sh []) alts))->HL V.N cut.tys->Option (yR (dG X.sh []) alts)}
 (pc:∀m:HL V.N cut.tys->yR (dG X.sh []) alts->Prop,(∀F,(∀v r,F v=some r->m v r)->∀v r,bd F v=some r->m v r)->∀v r,n v=some r->m v r)
 (hP:C.P=X.P)(hn:C.N=X.n/\Fx C X.pre)(hm:X.P.follows .mixedOrders=true)(hcall:af X.P X.call)(hl:LOk C X b)(h:∀F v,exL X b cut alts F v=bd F v):
 aD C b (sh:=X.sh) ⟨cut,alts,n⟩:=
 pc _ λF ih v _ hr=>c8 hP hn hm hcall hl ih ((h F v).trans hr)
end Go.Tx
end
