/-
  Texts of this claim, joined by a program of mine: what the theorem uses.
-/
import Derived.Test.YtpndmanbfleadaaGreatDoorPkC
open Array renaming getElem?_eq_getElem→N4,getElem?_eq_some_iff→NL,getElem?_modify→OW
open Bool renaming and_eq_true→NH,eq_false_iff→Qq,not_eq_true'→PN,or_eq_false_iff→O0,or_eq_true→Oy
open ByteArray renaming empty→Og
open Function renaming comp→Qn
open List renaming all_cons→OQ,all_eq_true→NM,all_map→OZ,any_eq_true→OU,append_assoc→Oi,append_nil→Ox,cons_append→NQ,drop_drop→OX,drop_of_length_le→QH,drop_zero→N9,eq_nil_of_length_eq_zero→NV,ext_getElem?→Ot,flatten_cons→Od,getElem?_cons_zero→O9,getElem?_eq_getElem→ND,getElem?_eq_some_iff→Nx,getElem?_map→NB,getElem?_of_mem→OM,getElem?_set→Ol,getElem_mem→OB,getElem_of_mem→PQ,length→Pv,length_append→NT,length_cons→Oj,length_drop→Oe,length_map→Nz,length_replicate→Ph,length_set→Ow,mapM→Qk,mapM_cons→QI,map_append→Of,map_congr_left→NZ,map_cons→NF,map_drop→OG,map_flatten→Qd,map_map→N0,map_nil→N_,map_replicate→PE,map_set→Pd,map_take→OE,mem_append→NX,mem_cons→NI,mem_cons_of_mem→NC,mem_cons_self→NG,mem_map→N3,mem_map_of_mem→N1,mem_of_getElem?→NJ,mem_of_mem_take→Ou,mem_replicate→Qj,mem_singleton→OS,nil_append→NW,replicate→On,set_set→Qw,take_append_drop→OV,take_append_of_le_length→O2,take_of_length_le→Oh,take_succ_cons→QQ,take_zero→P0,zip_cons_cons→PV
open List.cons renaming injEq→OT
open Nat renaming beq→Ov,blt→O4,blt_eq→Pk,eq_of_beq_eq_true→Ob,le_refl→NY,mul_le_mul→P5,sub_zero→Qu,succ_mul→N8,zero_add→N2,zero_mul→Pi
open Ne renaming symm→Oc
open Option renaming bind_eq_some_iff→O8,bind_some→O_,getD_some→OK,isSome_map→Qo,map_eq_some_iff→NK,map_none→PU,map_some→N6
open Option.some renaming injEq→Ny
open Prod.mk renaming injEq→N5
noncomputable section
set_option linter.unusedSectionVars false
set_option linter.unusedSimpArgs false
section
namespace Go.Awp
variable [Inhabited GMem]
def GQ(e:TypeId)(es:List (Option (List (Value×D))))(al:Option Nat)(M:Mem)(w:World)(v:Value)(vs:List Value)(B:Nat->Prop):Prop:=
 (v= .slice none 0 0/\es=[]/\(∀b,¬B b)/\al=none)\/
 ∃(g cap:Nat) (cur:Array Value),v= .slice (some ⟨g,0,none⟩) es.length cap/\w.heap[g]?=some (.cells cur e (0,0))/\es.length<=cap/\cap<=cur.size/\
  (∀b,B b↔b=g\/∃(i:Nat) (m:List (Value×D)),es[i]?=some (some m)/\cur[i]?=some (Value.map (some b)))/\
  (∀(i:Nat) (m:List (Value×D)),es[i]?=some (some m)->∃(r:Nat) (es':Array MapEntry) (clock:Nat),cur[i]?=some (Value.map (some r))/\r≠g/\w.heap[r]?=some (.map es' clock)/\cG m/\aU M es'.toList m/\i6 es' clock)/\
  (∀(i j:Nat) (m m':List (Value×D)) (r:Nat),es[i]?=some (some m)->es[j]?=some (some m')->cur[i]?=some (Value.map (some r))->cur[j]?=some (Value.map (some r))->i=j)/\
  ∀i:Nat,al=some i->∃r:Nat,cur[i]?=some (Value.map (some r))/\vs=[Value.map (some r)]
def Dx(e:TypeId)(es:List (Option (List (Value×D))))(al:Option Nat):wo where
 R:=GQ e es al
 keep:=by
  rintro M M' w w' v vs B (⟨h1,h2,h3,h4⟩|⟨g,cap,cur,h1,h2,h3,h4,h5,h6,h7,h8⟩) hM hw
  ·exact .inl ⟨h1,h2,h3,h4⟩
  ·refine .inr ⟨g,cap,cur,h1,by rw[hw g ((h5 g).2 (.inl rfl))];exact h2,h3,h4,h5,λi m hi=> ?_,h7,h8⟩
   obtain⟨r,es',clock,k1,k2,k3,k4,k5,k6⟩:=h6 i m hi
   exact⟨r,es',clock,k1,k2,by rw[hw r ((h5 r).2 (.inr ⟨i,m,hi,k1⟩))];exact k3,k4,k5.mono hM,k6⟩
 lt:=by
  rintro M w v vs B (⟨h1,h2,h3,h4⟩|⟨g,cap,cur,h1,h2,h3,h4,h5,h6,h7,h8⟩) b hb
  ·exact(h3 b hb).elim
  ·rcases(h5 b).1 hb with rfl|⟨i,m,hi,hc⟩
   ·exact(NL.1 h2).1
   ·obtain⟨r,es',clock,k1,k2,k3,_⟩:=h6 i m hi
    rw[hc]at k1;cases k1
    exact(NL.1 k3).1
 det:=by
  rintro M M' w v vs vs' B B' (⟨h1,h2,h3,h4⟩|⟨g,cap,cur,h1,h2,h3,h4,h5,h6,h7,h8⟩) (⟨k1,k2,k3,k4⟩|⟨g',cap',cur',k1,k2,k3,k4,k5,k6,k7,k8⟩) b
  ·exact⟨λh=>(h3 b h).elim,λh=>(k3 b h).elim⟩
  ·rw[h1]at k1;cases k1
  ·rw[k1]at h1;cases h1
  ·rw[h1]at k1;cases k1
   rw[h2]at k2;cases k2
   rw[h5,k5]
 outer:=by
  rintro M w v vs B b (⟨rfl,h2,h3,h4⟩|⟨g,cap,cur,rfl,h2,h3,h4,h5,h6,h7,h8⟩) hb
  ·cases hb
  ·cases hb;exact(h5 _).2 (.inl rfl)
def Own.maps(e:TypeId)(es:List (Option (List (Value×D))))(al:Option (Nat×Nat)):Own:=match al with
 |none=> .gen [] (Dx e es none)
 |some (d,i)=> .gen [d] (Dx e es (some i))
theorem aI.maps{E:Env}{M:Mem}{w:World}{n e:Nat}{es:List (Option (List (Value×D)))}{al:Option (Nat×Nat)}(h:aI E M w n (.maps e es al)):
 ∃B,GQ e es (al.map (·.2)) M w (E n) (al.toList.map λp=>E p.1) B/\(∀b,B b->∀o,M b o=none)/\∀b,(Own.maps e es al).foot w (E n) b↔B b:=by
 cases al with
 |none=>
  obtain⟨B,h1,h2⟩:=h
  exact⟨B,h1,h2,dj h1⟩
 |some p=>
  obtain⟨d,i⟩:=p
  obtain⟨B,h1,h2⟩:=h
  exact⟨B,h1,h2,dj h1⟩
theorem aI.mkMaps{E:Env}{M:Mem}{w:World}{n e:Nat}{es:List (Option (List (Value×D)))}{al:Option (Nat×Nat)}{B:Nat->Prop}(h:GQ e es (al.map (·.2)) M w (E n) (al.toList.map λp=>E p.1) B)(hB:∀b,B b->∀o,M b o=none):
 aI E M w n (.maps e es al)/\∀b,(Own.maps e es al).foot w (E n) b↔B b:=by
 cases al with
 |none=>exact⟨⟨B,h,hB⟩,dj (G:=Dx e es none) h⟩
 |some p=>
  obtain⟨d,i⟩:=p
  exact⟨⟨B,h,hB⟩,dj (G:=Dx e es (some i)) h⟩
theorem OLe.noAlias{e:Nat}{es:List (Option (List (Value×D)))}{al:Option (Nat×Nat)}:OLe (.maps e es al) (.maps e es none):=by
 have key:∀(E:Env) (M:Mem) (w:World) (n:Nat),aI E M w n (.maps e es al)->aI E M w n (.maps e es none)/\∀b,(Own.maps e es none).foot w (E n) b->(Own.maps e es al).foot w (E n) b:=by
  intro E M w n h
  obtain⟨B,h1,h2,h3⟩:=h.maps
  obtain⟨k1,k2⟩:=aI.mkMaps (E:=E) (M:=M) (w:=w) (n:=n) (e:=e) (es:=es) (al:=none) (B:=B) (by
   rcases h1 with⟨a1,a2,a3,a4⟩|⟨g,cap,cur,a1,a2,a3,a4,a5,a6,a7,a8⟩
   ·exact .inl ⟨a1,a2,a3,rfl⟩
   ·exact .inr ⟨g,cap,cur,a1,a2,a3,a4,a5,a6,a7,λi h=>by cases h⟩) h2
  exact⟨k1,λb hb=>(h3 b).2 ((k2 b).1 hb)⟩
 exact⟨λE M w n h=>(key E M w n h).1,λE M w n b h hb=>(key E M w n h).2 b hb⟩
theorem OLe.v2maps{e:Nat}{rows:List (List D)}:OLe (.vec e 1 rows) (.maps e (rows.map λ_=>none) none):=by
 have key:∀(E:Env) (M:Mem) (w:World) (n:Nat),aI E M w n (.vec e 1 rows)->aI E M w n (.maps e (rows.map λ_=>none) none)/\∀b,(Own.maps e (rows.map λ_=>none) none).foot w (E n) b->(Own.vec e 1 rows).foot w (E n) b:=by
  intro E M w n ⟨xs,h1,h2,h3,h4⟩
  have hno:∀(i:Nat) (m:List (Value×D)),¬(rows.map λ_=>(none:Option (List (Value×D))))[i]?=some (some m):=λi m h=>by
   rw[NB]at h
   cases rows[i]?<;>simp at h
  rcases h1.2 with⟨hE,hz0⟩|⟨g,cap,cur,hE,_,hg,hnc,hcm,hcs,hct⟩
  ·have hr0:rows=[]:=NV hz0
   subst hr0
   obtain⟨k1,k2⟩:=aI.mkMaps (E:=E) (M:=M) (w:=w) (n:=n) (e:=e) (es:=[]) (al:=none) (B:=λ_=>False) (Or.inl ⟨by rw[hE],rfl,λ_ h=>h,rfl⟩) (λb hb=>hb.elim)
   exact⟨k1,λb hb=>((k2 b).1 hb).elim⟩
  ·obtain⟨k1,k2⟩:=aI.mkMaps (E:=E) (M:=M) (w:=w) (n:=n) (e:=e) (es:=rows.map λ_=>none) (al:=none) (B:=λb=>b=g)
    (Or.inr ⟨g,cap,cur,by rw[hE,Nz],hg,by rw[Nz];exact hnc,by omega,λb=>⟨.inl,λh=>h.elim id λ⟨i,m,h,_⟩=>(hno i m h).elim⟩,λi m h=>(hno i m h).elim,λi j m m' r h=>(hno i m h).elim,λi h=>by cases h⟩)
    (λb hb=>h4 b (by rw[hE,hb];rfl))
   refine⟨k1,λb hb=> ?_⟩
   have:=(k2 b).1 hb
   subst this
   rw[hE];rfl
 exact⟨λE M w n h=>(key E M w n h).1,λE M w n b h hb=>(key E M w n h).2 b hb⟩
section
variable {C:Ctx} {E:Env} {M:Mem} {S:ab} {a:Act} {w:World}
theorem ab.fresh_ne{S:ab}{d n:Nat}{o:Own}(h:S.fresh d=true)(hn:S.own? n=some o):n≠d:=λe=>by
 unfold ab.fresh at h
 simp only[NH]at h
 rw[<-e,hn]at h
 simp at h
theorem Sim.env_new(h:Sim C E M S a w){d:Nat}{v:Value}(hf:S.fresh d=true)(hg:d<given):Sim C (λk=>if k=d then v else E k) M S a w:=
 { h with
   tmps:=λt x hx=>by
    obtain⟨u,h1,h2⟩:=h.tmps t x hx
    exact⟨u,h1,h2.set (ab.fresh_tmp hf hx)⟩
   own:=λn o hn=>(h.own n o hn).keep (Q5 (ab.fresh_ne hf hn)) (λ_ _=>rfl) (λk hk=>Q5 λe=>by
    rw[e]at hk
    have:=ab.fresh_cell hf hn
    rw[hk]at this;cases this) (Mem.le_refl M) λb hb=>((h.own n o hn).block hb).2
   apart:=λn m o o' b hne hn hm hb hb'=>by
    simp only[Q5 (ab.fresh_ne hf hn)]at hb
    simp only[Q5 (ab.fresh_ne hf hm)]at hb'
    exact h.apart n m o o' b hne hn hm hb hb'
   home:=λn o b hn hb=>by
    simp only[Q5 (ab.fresh_ne hf hn)]at hb
    exact h.home n o b hn hb
   env:=λn hn=>by
    have:n≠d:=by unfold given at *;omega
    simp only[Q5 this]
    exact h.env n hn}
theorem Sim.promote(h:Sim C E M S a w){m d i e:Nat}{es:List (Option (List (Value×D)))}{m0:List (Value×D)}(hm:S.own? m=some (.maps e es (some (d,i))))(hi:es[i]?=some (some m0))(hd:S.own? d=none):
 Sim C E M {S with own:=(d,some (.map m0))::(m,some (.maps e (es.set i none) (some (d,i))))::S.own} a w:=by
 have hdm:m≠d:=λe=>by rw[e,hd]at hm;cases hm
 obtain⟨B,h1,h2,h3⟩:=(h.own m _ hm).maps
 rcases h1 with⟨a1,a2,a3,a4⟩|⟨g,cap,cur,a1,a2,a3,a4,a5,a6,a7,a8⟩
 ·subst a2;simp at hi
 obtain⟨r,hr1,hr2⟩:=a8 i rfl
 simp only[Option.toList_some,NF,N_,OT,and_true]at hr2
 obtain⟨r',es',clock,b1,b2,b3,b4,b5,b6⟩:=a6 i m0 hi
 rw[hr1]at b1;cases b1
 have hset:∀(j:Nat) (m1:List (Value×D)),(es.set i none)[j]?=some (some m1)↔j≠i/\es[j]?=some (some m1):=by
  intro j m1
  rw[Ol]
  by_cases hij:i=j
  ·subst hij
   rw[Q6 rfl]
   split<;>simp
  ·rw[Q5 hij]
   exact⟨λh=>⟨Oc hij,h⟩,λh=>h.2⟩
 have hBr:B r:=(a5 r).2 (.inr ⟨i,m0,hi,hr1⟩)
 obtain⟨k1,k2⟩:=aI.mkMaps (E:=E) (M:=M) (w:=w) (n:=m) (e:=e) (es:=es.set i none) (al:=some (d,i)) (B:=λb=>B b/\b≠r)
  (Or.inr ⟨g,cap,cur,by rw[Ow];exact a1,a2,by rw[Ow];exact a3,a4,λb=>by
    dsimp only
    rw[a5]
    constructor
    ·rintro⟨rfl|⟨j,m1,h5,h6⟩,hne⟩
     ·exact .inl rfl
     ·exact .inr ⟨j,m1,(hset j m1).2 ⟨λe=>hne (by rw[e,hr1]at h6;cases h6;rfl),h5⟩,h6⟩
    ·rintro(rfl|⟨j,m1,h5,h6⟩)
     ·exact⟨.inl rfl,Oc b2⟩
     ·obtain⟨h7,h8⟩:=(hset j m1).1 h5
      exact⟨.inr ⟨j,m1,h8,h6⟩,λe=>h7 (a7 j i m1 m0 r h8 hi (by rw[<-e];exact h6) hr1)⟩,
    λj m1 h5=>a6 j m1 ((hset j m1).1 h5).2,λj j' m1 m2 r' h5 h6=>a7 j j' m1 m2 r' ((hset j m1).1 h5).2 ((hset j' m2).1 h6).2,a8⟩) (λb hb=>h2 b hb.1)
 have okd:aI E M w d (.map m0):=⟨r,es',clock,hr2,b3,b4,b5,b6,h2 r hBr⟩
 have hfd:∀b,(Own.map m0).foot w (E d) b->b=r:=λb hb=>by
  have:aj (E d)=some b:=hb
  rw[hr2]at this;cases this;rfl
 have hlook:∀k o,({S with own:=(d,some (.map m0))::(m,some (.maps e (es.set i none) (some (d,i))))::S.own}:ab).own? k=some o->
  k=d/\o= .map m0\/k=m/\o= .maps e (es.set i none) (some (d,i))\/k≠d/\k≠m/\S.own? k=some o:=by
  intro k o hk
  simp only[ab.own?,af]at hk
  by_cases q1:d=k
  ·subst q1
   rw[Q6 rfl]at hk;simp at hk
   exact .inl ⟨rfl,hk.symm⟩
  ·rw[Q5 q1]at hk
   by_cases q2:m=k
   ·subst q2
    rw[Q6 rfl]at hk;simp at hk
    exact .inr (.inl ⟨rfl,hk.symm⟩)
   ·rw[Q5 q2]at hk
    exact .inr (.inr ⟨Oc q1,Oc q2,hk⟩)
 have low:∀k o b,({S with own:=(d,some (.map m0))::(m,some (.maps e (es.set i none) (some (d,i))))::S.own}:ab).own? k=some o->o.foot w (E k) b->∃n0 o0,S.own? n0=some o0/\o0.foot w (E n0) b/\(n0=k\/n0=m/\k=d):=by
  intro k o b hk hb
  rcases hlook k o hk with⟨rfl,rfl⟩|⟨rfl,rfl⟩|⟨q1,q2,q3⟩
  ·have:=hfd b hb
   subst this
   exact⟨m,_,hm,(h3 _).2 hBr, .inr ⟨rfl,rfl⟩⟩
  ·exact⟨_,_,hm,(h3 b).2 ((k2 b).1 hb).1, .inl rfl⟩
  ·exact⟨k,o,q3,hb, .inl rfl⟩
 refine h.regroup (λt x hx=>⟨x,hx,λ_ hv=>hv⟩) (λk o hk=> ?_) (λn n' o o' b hne hn hn' hb hb'=> ?_) (λk o b hk hb=>let⟨n0,o0,p1,p2,_⟩:=low k o b hk hb;⟨n0,o0,p1,p2⟩) λ_ _=>rfl
 ·rcases hlook k o hk with⟨rfl,rfl⟩|⟨rfl,rfl⟩|⟨q1,q2,q3⟩
  ·exact okd
  ·exact k1
  ·exact h.own k o q3
 ·rcases hlook n o hn with⟨rfl,rfl⟩|⟨rfl,rfl⟩|⟨q1,q2,q3⟩
  ·have hbr:=hfd b hb
   rcases hlook n' o' hn' with⟨rfl,rfl⟩|⟨rfl,rfl⟩|⟨p1,p2,p3⟩
   ·exact hne rfl
   ·exact((k2 b).1 hb').2 hbr
   ·exact h.apart m n' _ o' b (Oc p2) hm p3 ((h3 b).2 (by rw[hbr];exact hBr)) hb'
  ·rcases hlook n' o' hn' with⟨rfl,rfl⟩|⟨rfl,rfl⟩|⟨p1,p2,p3⟩
   ·exact((k2 b).1 hb).2 (hfd b hb')
   ·exact hne rfl
   ·exact h.apart n n' _ o' b hne hm p3 ((h3 b).2 ((k2 b).1 hb).1) hb'
  ·rcases hlook n' o' hn' with⟨rfl,rfl⟩|⟨rfl,rfl⟩|⟨p1,p2,p3⟩
   ·have hbr:=hfd b hb'
    exact h.apart n m o _ b q2 q3 hm hb ((h3 b).2 (by rw[hbr];exact hBr))
   ·exact h.apart n n' o _ b hne q3 hm hb ((h3 b).2 ((k2 b).1 hb').1)
   ·exact h.apart n n' o o' b hne q3 p3 hb hb'
theorem Sim.demote(h:Sim C E M S a w){m d i e:Nat}{es:List (Option (List (Value×D)))}{m1:List (Value×D)}(hm:S.own? m=some (.maps e es (some (d,i))))(hi:es[i]?=some none)(hd:S.own? d=some (.map m1))(hdm:d≠m):
 Sim C E M {S with own:=(d,none)::(m,some (.maps e (es.set i (some m1)) (some (d,i))))::S.own} a w:=by
 obtain⟨B,h1,h2,h3⟩:=(h.own m _ hm).maps
 rcases h1 with⟨a1,a2,a3,a4⟩|⟨g,cap,cur,a1,a2,a3,a4,a5,a6,a7,a8⟩
 ·subst a2;simp at hi
 obtain⟨r,hr1,hr2⟩:=a8 i rfl
 simp only[Option.toList_some,NF,N_,OT,and_true]at hr2
 obtain⟨r',es',clock,b1,b2,b3,b4,b5,b6⟩:=h.own d _ hd
 rw[hr2]at b1;cases b1
 have hfd:(Own.map m1).foot w (E d) r:=by
  show aj (E d)=some r
  rw[hr2];rfl
 have hBr:¬B r:=λhb=>h.apart d m _ _ r hdm hd hm hfd ((h3 r).2 hb)
 have hil:i<es.length:=(Nx.1 hi).1
 have hset:∀(j:Nat) (m2:List (Value×D)),(es.set i (some m1))[j]?=some (some m2)↔j=i/\m2=m1\/j≠i/\es[j]?=some (some m2):=by
  intro j m2
  rw[Ol]
  by_cases hij:i=j
  ·subst hij
   rw[Q6 rfl,Q6 hil]
   simp[eq_comm]
  ·rw[Q5 hij]
   exact⟨λh=> .inr ⟨Oc hij,h⟩,λh=>h.elim (λh=>(hij h.1.symm).elim) λh=>h.2⟩
 have hrg:r≠g:=λe=>hBr ((a5 r).2 (.inl e))
 have hrj:∀j m2,es[j]?=some (some m2)->cur[j]?≠some (Value.map (some r)):=λj m2 h5 h6=>hBr ((a5 r).2 (.inr ⟨j,m2,h5,h6⟩))
 obtain⟨k1,k2⟩:=aI.mkMaps (E:=E) (M:=M) (w:=w) (n:=m) (e:=e) (es:=es.set i (some m1)) (al:=some (d,i)) (B:=λb=>B b\/b=r)
  (Or.inr ⟨g,cap,cur,by rw[Ow];exact a1,a2,by rw[Ow];exact a3,a4,λb=>by
    dsimp only
    rw[a5]
    constructor
    ·rintro((rfl|⟨j,m2,h5,h6⟩)|rfl)
     ·exact .inl rfl
     ·exact .inr ⟨j,m2,(hset j m2).2 (.inr ⟨λe=>(by rw[e,hi]at h5;cases h5),h5⟩),h6⟩
     ·exact .inr ⟨i,m1,(hset i m1).2 (.inl ⟨rfl,rfl⟩),hr1⟩
    ·rintro(rfl|⟨j,m2,h5,h6⟩)
     ·exact .inl (.inl rfl)
     ·rcases(hset j m2).1 h5 with⟨rfl,rfl⟩|⟨h7,h8⟩
      ·rw[hr1]at h6;cases h6;exact .inr rfl
      ·exact .inl (.inr ⟨j,m2,h8,h6⟩),
    λj m2 h5=>by
     rcases(hset j m2).1 h5 with⟨rfl,rfl⟩|⟨h7,h8⟩
     ·exact⟨r,es',clock,hr1,hrg,b2,b3,b4,b5⟩
     ·exact a6 j m2 h8,
    λj j' m2 m3 r' h5 h6 h7 h8=>by
     rcases(hset j m2).1 h5 with⟨rfl,rfl⟩|⟨p1,p2⟩
     ·rcases(hset j' m3).1 h6 with⟨rfl,rfl⟩|⟨q1,q2⟩
      ·rfl
      ·rw[hr1]at h7;cases h7;exact(hrj j' m3 q2 h8).elim
     ·rcases(hset j' m3).1 h6 with⟨rfl,rfl⟩|⟨q1,q2⟩
      ·rw[hr1]at h8;cases h8;exact(hrj j m2 p2 h7).elim
      ·exact a7 j j' m2 m3 r' p2 q2 h7 h8,a8⟩)
  (λb hb=>by
    rcases hb with hb|rfl
    ·exact h2 b hb
    ·exact((h.own d _ hd).block hfd).2)
 have hlook:∀k o,({S with own:=(d,none)::(m,some (.maps e (es.set i (some m1)) (some (d,i))))::S.own}:ab).own? k=some o->
  k=m/\o= .maps e (es.set i (some m1)) (some (d,i))\/k≠d/\k≠m/\S.own? k=some o:=by
  intro k o hk
  simp only[ab.own?,af]at hk
  by_cases q1:d=k
  ·subst q1
   rw[Q6 rfl]at hk;simp at hk
  ·rw[Q5 q1]at hk
   by_cases q2:m=k
   ·subst q2
    rw[Q6 rfl]at hk;simp at hk
    exact .inl ⟨rfl,hk.symm⟩
   ·rw[Q5 q2]at hk
    exact .inr ⟨Oc q1,Oc q2,hk⟩
 have feet:∀b,(Own.maps e (es.set i (some m1)) (some (d,i))).foot w (E m) b->(Own.maps e es (some (d,i))).foot w (E m) b\/(Own.map m1).foot w (E d) b:=λb hb=>by
  rcases(k2 b).1 hb with h5|rfl
  ·exact .inl ((h3 b).2 h5)
  ·exact .inr hfd
 refine h.regroup (λt x hx=>⟨x,hx,λ_ hv=>hv⟩) (λk o hk=> ?_) (λn n' o o' b hne hn hn' hb hb'=> ?_) (λk o b hk hb=> ?_) λ_ _=>rfl
 ·rcases hlook k o hk with⟨rfl,rfl⟩|⟨q1,q2,q3⟩
  ·exact k1
  ·exact h.own k o q3
 ·rcases hlook n o hn with⟨rfl,rfl⟩|⟨q1,q2,q3⟩
  ·rcases hlook n' o' hn' with⟨rfl,rfl⟩|⟨p1,p2,p3⟩
   ·exact hne rfl
   ·rcases feet b hb with h5|h5
    ·exact h.apart n n' _ o' b hne hm p3 h5 hb'
    ·exact h.apart d n' _ o' b (Oc p1) hd p3 h5 hb'
  ·rcases hlook n' o' hn' with⟨rfl,rfl⟩|⟨p1,p2,p3⟩
   ·rcases feet b hb' with h5|h5
    ·exact h.apart n n' o _ b hne q3 hm hb h5
    ·exact h.apart n d o _ b q1 q3 hd hb h5
   ·exact h.apart n n' o o' b hne q3 p3 hb hb'
 ·rcases hlook k o hk with⟨rfl,rfl⟩|⟨q1,q2,q3⟩
  ·rcases feet b hb with h5|h5
   ·exact⟨_,_,hm,h5⟩
   ·exact⟨_,_,hd,h5⟩
  ·exact⟨k,o,q3,hb⟩
end
variable {P:Program} {nm:Nat->Nat} {o:Oper} {ρ:Operand->H} {ω:Nat->Option Own}
theorem aB.ofAVal{e:Eff}(h:∀(ρ':Operand->H) (ω':Nat->Option Own),(∀x∈o.op.operands,ρ' x=ρ x)->(∀n∈e.acc,ω' n=ω n)->aS P nm o ρ' ω' (λe'=>e'=e)):aB P nm o ρ ω e:=by
 intro C E M S a w K Q hP hd hs he hacc hn hK
 subst hP
 refine tP (nm:=nm) hd E M S a w K Q (λe'=>e'=e) hs (mV (λe' he'=> ?_) (h _ _ he hacc)) λe' E' M' a' w' he' hs'=> ?_
 ·subst he';exact⟨hn,rfl⟩
 ·subst he';exact hK _ _ _ _ hs'
theorem aB.ole{v:H}{acc new:List Nat}{upd upd':List (Nat×Option Own)}(h:aB P nm o ρ ω {val:=v,acc:=acc,upd:=upd,new:=new})
 (hl:∀(own:List (Nat×Option Own)) (n:Nat) (o:Own),(gt (upd'++own) n).getD none=some o->∃o',(gt (upd++own) n).getD none=some o'/\OLe o' o):aB P nm o ρ ω {val:=v,acc:=acc,upd:=upd',new:=new}:=
 λC E M S a w K Q hP hd hs he hacc hn hK=>h C E M S a w K Q hP hd hs he hacc hn λE' M' a' w' hs'=>hK E' M' a' w' (hs'.ole rfl λn o ho=>hl S.own n o ho)
theorem aB.viaAlias{v:H}{m d i e:Nat}{es:List (Option (List (Value×D)))}{m0 m1:List (Value×D)}(hm:ω m=some (.maps e es (some (d,i))))(hi:es[i]?=some (some m0))(hd0:ω d=none)(hdm:d≠m)
 (h:∀ω',ω' d=some (.map m0)->aB P nm o ρ ω' {val:=v,acc:=[d],upd:=[(d,some (.map m1))]}):
 aB P nm o ρ ω {val:=v,acc:=[m,d],upd:=[(m,some (.maps e (es.set i (some m1)) (some (d,i)))),(d,none)]}:=by
 intro C E M S a w K Q hP hd hs he hacc hn hK
 have hm':S.own? m=some (.maps e es (some (d,i))):=by rw[hacc m (by simp)];exact hm
 have hd':S.own? d=none:=by rw[hacc d (by simp)];exact hd0
 have h1:=hs.promote hm' hi hd'
 have hil:i<es.length:=(Nx.1 hi).1
 refine h (λ_=>some (.map m0)) rfl C E M _ a w K Q hP hd h1 (λx hx=>he x hx) (λn hn'=> ?_) (λk hk=>by cases hk) λE' M' a' w' hs'=> ?_
 ·simp only[OS]at hn'
  subst hn'
  simp[ab.own?,af]
 ·have h2:=hs'.demote (m:=m) (d:=d) (i:=i) (e:=e) (es:=es.set i none) (m1:=m1) (by simp[ab.own?,ab.app,af,hdm]) (by simp[hil]) (by simp[ab.own?,ab.app,af]) hdm
  refine hK _ _ _ _ (h2.weaken (λt x hx=> .inl hx) λk o' hk=> ?_)
  simp only[ab.own?,ab.app,NQ,NW,af]at hk⊢
  by_cases q1:m=k
  ·subst q1
   rw[Q6 rfl]at hk
   rw[Q5 hdm,Q6 rfl]
   simp only[OK,Qw]at hk⊢
   exact hk
  ·rw[Q5 q1]at hk
   by_cases q2:d=k
   ·subst q2;rw[Q6 rfl]at hk⊢;exact hk
   ·rw[Q5 q2]at hk
    rw[Q5 q2,Q5 q1,Q5 q2,Q5 q2,Q5 q1];exact hk
theorem aB.told{v:H}{n:Nat}{o1:Own}(hn:ω n=some o1)(h:aB P nm o ρ ω {val:=v,acc:=[n]}):aB P nm o ρ ω {val:=v,acc:=[n],upd:=[(n,some o1)]}:=by
 intro C E M S a w K Q hP hd hs he hacc hnw hK
 have hn':S.own? n=some o1:=by rw[hacc n (by simp)];exact hn
 refine h C E M S a w K Q hP hd hs he hacc hnw λE' M' a' w' hs'=>hK E' M' a' w' (hs'.weaken (λt x hx=> .inl hx) λk o' hk=> ?_)
 simp only[ab.own?,ab.app,NQ,NW,af]at hk⊢
 by_cases q:n=k
 ·subst q
  rw[Q6 rfl]at hk
  simp only[OK]at hk
  rw[<-hk];exact hn'
 ·rw[Q5 q]at hk;exact hk
theorem aB.rangeAlias{t:TypeId}{x:Operand}{m d i e nn:Nat}{es:List (Option (List (Value×D)))}{m0:List (Value×D)}(ho:o.op= .range t x)(hu:∃k v,P.underlying t=some (.map k v))(hx:ρ x= .mp d)(hdst:o.dst≠none)
 (hm:ω m=some (.maps e es (some (d,i))))(hi:es[i]?=some (some m0))(hd0:ω d=none)(hnn:nn≠d/\nn≠m):
 aB P nm o ρ ω {val:= .bp nn 0,acc:=[m,d],upd:=[(nn,some (.miter d m0 m0 none)),(d,none),(m,some (.maps e (es.set i none) none))],new:=[nn]}:=by
 intro C E M S a w K Q hP hd hs he hacc hn hK
 subst hP
 have hm':S.own? m=some (.maps e es (some (d,i))):=by rw[hacc m (by simp)];exact hm
 have hd':S.own? d=none:=by rw[hacc d (by simp)];exact hd0
 have h1:=hs.promote hm' hi hd'
 obtain⟨kt,vt,hu⟩:=hu
 obtain⟨dd,hdst⟩:=Option.ne_none_iff_exists'.1 hdst
 simp only[ho,Op.operands]at he
 have hx':Go.Awp.ev S x= .mp d:=by rw[he x (by simp)];exact hx
 have hf:=hn nn (by simp)
 have hf':({S with own:=(d,some (.map m0))::(m,some (.maps e (es.set i none) (some (d,i))))::S.own}:ab).fresh nn=true:=by
  have h5:=hf.1
  unfold ab.fresh at h5⊢
  simp only[NH,OQ]at h5⊢
  refine⟨⟨?_,h5.1.2⟩,?_,?_,h5.2⟩
  ·simp only[ab.own?,af,Q5 (Oc hnn.1),Q5 (Oc hnn.2)]
   exact h5.1.1
  ·rfl
  ·have:=ab.fresh_cell hf.1 hm'
   have h6:Own.has nn (.maps e (es.set i none) (some (d,i)))=Own.has nn (.maps e es (some (d,i))):=rfl
   simp only[h6,this];rfl
 refine tP (nm:=λ_=>nn) hd E M _ a w K Q (λe'=>e'={val:= .bp nn 0,acc:=[d],upd:=[(nn,some (.miter d m0 m0 none)),(d,none)],new:=[nn]}) h1 ?_ λe' E' M' a' w' he' hs'=> ?_
 ·have hx2:Go.Awp.ev {S with own:=(d,some (.map m0))::(m,some (.maps e (es.set i none) (some (d,i))))::S.own} x= .mp d:=hx'
  simp only[aS,ho,hu,hx2,hdst]
  simp only[ab.own?,af,Q2,OK]
  exact⟨λk hk=>by
   rw[OS]at hk
   subst hk
   exact⟨hf',hf.2⟩,trivial⟩
 ·subst he'
  refine hK _ _ _ _ (hs'.ole rfl λk o' hk=> ?_)
  simp only[ab.own?,ab.app,NQ,NW,af]at hk⊢
  by_cases q0:nn=k
  ·rw[Q6 q0]at hk⊢;exact⟨o',hk,OLe.refl _⟩
  ·rw[Q5 q0]at hk⊢
   by_cases q1:d=k
   ·rw[Q6 q1]at hk;simp at hk
   ·rw[Q5 q1]at hk⊢
    rw[Q5 q1]
    by_cases q2:m=k
    ·rw[Q6 q2]at hk⊢
     simp only[OK,Ny]at hk
     subst hk
     exact⟨_,rfl,OLe.noAlias⟩
    ·rw[Q5 q2]at hk⊢;exact⟨o',hk,OLe.refl _⟩
theorem aB.loadMap{t:TypeId}{x:Operand}{m i e d:Nat}{es:List (Option (List (Value×D)))}{al:Option (Nat×Nat)}{m0:List (Value×D)}(ho:o.op= .load t x)(ht:bt P t=some (false,1))(hx:ρ x= .ep m 1 i 0)(hm:ω m=some (.maps e es al))
 (hi:es[i]?=some (some m0))(hdm:d≠m):aB P nm o ρ ω {val:= .mp d,acc:=[m],upd:=[(m,some (.maps e es (some (d,i))))],new:=[d]}:=by
 intro C E M S a w K Q hP hd hs he hacc hn hK
 subst hP
 simp only[ho,Op.operands]at he
 have hf:=hn d (by simp)
 have hx':Go.Awp.ev S x= .ep m 1 i 0:=by rw[he x (by simp)];exact hx
 have hm':S.own? m=some (.maps e es al):=by rw[hacc m (by simp)];exact hm
 have hxr:=hs.ev x
 rw[hx']at hxr
 obtain⟨B,h1,h2,h3⟩:=(hs.own m _ hm').maps
 rcases h1 with⟨a1,a2,a3,a4⟩|⟨g,cap,cur,a1,a2,a3,a4,a5,a6,a7,a8⟩
 ·subst a2;simp at hi
 obtain⟨r,es',clock,b1,b2,b3,b4,b5,b6⟩:=a6 i m0 hi
 generalize hq:a.eval x=qv at hxr
 cases hxr with
 |ep n sz' i off b q0 l c hE2 hil=>
  rw[a1]at hE2;cases hE2
  have hrun:=(run_load (P:=C.P) (w:=w) ht (b:=g) (off:=0+i *1+0) (cs:=[.map (some r)]) (λj v hv=>by
   cases j with
   |zero=>simp at hv;subst hv;simp[World.cell?,a2,b1]
   |succ j=>simp at hv)).2 rfl _ rfl
  refine ao (fc ho hq hrun) ?_
  have k0:=hs.env_new (d:=d) (v:= .map (some r)) hf.1 hf.2
  have hmd:m≠d:=Oc hdm
  obtain⟨k1,k2⟩:=aI.mkMaps (E:=λk=>if k=d then .map (some r)else E k) (M:=M) (w:=w) (n:=m) (e:=e) (es:=es) (al:=some (d,i)) (B:=B)
   (Or.inr ⟨g,cap,cur,by simp only[Q5 hmd];exact a1,a2,a3,a4,a5,a6,a7,λj hj=>by
     simp only[N6,Ny]at hj
     subst hj
     exact⟨r,b1,by simp⟩⟩) h2
  have h5:=k0.own_step (E':=λk=>if k=d then .map (some r)else E k) (n:=m) (d:=m) (o':= .maps e es (some (d,i))) hm' (w':=w) (cK w _) (λ_ _=>rfl) (.inl ⟨rfl,rfl⟩)
   (λb hb=> .inl (by
     have:=(k2 b).1 hb
     simp only[Q5 hmd]
     exact(h3 b).2 this)) (λb hb=>k0.block_lt hm' (b:=b) (by
      simp only[Q5 hmd]at hb⊢
      rw[a1]at hb;cases hb
      exact(h3 g).2 ((a5 g).2 (.inl rfl)))) k1
  have h6:=h5.put o.dst hd (v:= .map (some r)) (x:= .mp d) (.mp d r (by simp))
  refine hK _ _ _ _ (h6.weaken (λt x hx=> .inl hx) λk o' hk=> ?_)
  simp only[ab.own?,ab.app,NQ,NW,af]at hk⊢
  by_cases q1:m=k
  ·rw[Q6 q1]at hk⊢;exact hk
  ·rw[Q5 q1]at hk⊢;rw[Q5 q1];exact hk
theorem aB.indexMaps{t:TypeId}{x i:Operand}{m e e' sz by_:Nat}{kk:IntKind}{n:Int}{es:List (Option (List (Value×D)))}{al:Option (Nat×Nat)}(ho:o.op= .indexAddr t x i)(ht:bf P t=some (e',sz,by_))(hx:ρ x= .vh m es.length)(hi:ρ i= .d (.v (.int kk n)))
 (hm:ω m=some (.maps e es al))(h0:0<=n)(h1:n<es.length):aB P nm o ρ ω {val:= .ep m sz n.toNat 0,acc:=[m]}:=by
 intro C E M S a w K Q hP hd hs he hacc hn hK
 subst hP
 simp only[ho,Op.operands]at he
 obtain⟨ii,z,hu,hii,hz,hzs,his,hib,hpos⟩:=aZ ht
 have hx':Go.Awp.ev S x= .vh m es.length:=by rw[he x (by simp)];exact hx
 have hm':S.own? m=some (.maps e es al):=by rw[hacc m (by simp)];exact hm
 have hxr:=hs.ev x
 rw[hx']at hxr
 obtain⟨B,g1,g2,g3⟩:=(hs.own m _ hm').maps
 rcases g1 with⟨a1,a2,a3,a4⟩|⟨g,cap,cur,a1,a2,a3,a4,a5,a6,a7,a8⟩
 ·subst a2;simp at h1;omega
 have hq:=d5 hxr a1
 rw[a1]at hq
 have hir:a.eval i= .int kk n:=by
  have:=hs.ev i
  rw[he i (by simp),hi]at this
  exact this.dv
 have hrun:(execOp a.eval o).run C.P w= .ok (.value (.pointer (some ⟨g,0+n.toNat *sz,none⟩))) w:=by
  simp[execOp,ho,hq,hir,Instr.indexAt,asIntOf,run_underlying hu,sizeOf,typeInfo,hii,his,h0,h1,bE]
 refine ao hrun (hK _ _ _ _ (hs.app_val hd rfl ?_))
 have:=aN.ep (E:=E) (M:=M) m sz n.toNat 0 g 0 es.length _ a1 (by omega)
 simpa using this
theorem aB.storeMap{t:TypeId}{x y:Operand}{m n i e:Nat}{es:List (Option (List (Value×D)))}{al:Option (Nat×Nat)}{m0:List (Value×D)}{ag:Bool}(ho:o.op= .store t x y)(ht:bt P t=some (ag,1))(hx:ρ x= .ep m 1 i 0)(hy:ρ y= .mp n)
 (hm:ω m=some (.maps e es al))(hn0:ω n=some (.map m0))(hi:i<es.length)(hnm:n≠m):
 aB P nm o ρ ω {val:= .junk,acc:=[m,n],upd:=[(m,some (.maps e (es.set i (some m0)) none)),(n,none)]}:=by
 intro C E M S a w K Q hP hd hs he hacc hn hK
 subst hP
 simp only[ho,Op.operands]at he
 have hx':Go.Awp.ev S x= .ep m 1 i 0:=by rw[he x (by simp)];exact hx
 have hy':Go.Awp.ev S y= .mp n:=by rw[he y (by simp)];exact hy
 have hm':S.own? m=some (.maps e es al):=by rw[hacc m (by simp)];exact hm
 have hn':S.own? n=some (.map m0):=by rw[hacc n (by simp)];exact hn0
 have hxr:=hs.ev x
 rw[hx']at hxr
 have hyr:=hs.ev y
 rw[hy']at hyr
 obtain⟨B,h1,h2,h3⟩:=(hs.own m _ hm').maps
 obtain⟨r,es',clock,b1,b2,b3,b4,b5,b6⟩:=hs.own n _ hn'
 have hfn:(Own.map m0).foot w (E n) r:=by
  show aj (E n)=some r
  rw[b1];rfl
 have hBr:¬B r:=λhb=>hs.apart n m _ _ r hnm hn' hm' hfn ((h3 r).2 hb)
 rcases h1 with⟨a1,a2,a3,a4⟩|⟨g,cap,cur,a1,a2,a3,a4,a5,a6,a7,a8⟩
 ·subst a2;simp at hi
 generalize hq:a.eval x=qv at hxr
 cases hxr with
 |ep _ _ _ _ b q0 l c hE2 hil=>
  rw[a1]at hE2;cases hE2
  generalize hyv:a.eval y=yv at hyr
  cases hyr with
  |mp _ r' hEn=>
   rw[b1]at hEn;cases hEn
   have hst:=eV (P:=C.P) (w:=w) ht (b:=g) (off:=0+i *1+0) (cur:=cur) (ty:=e) a2 (v:= .map (some r)) rfl (by omega) (λu hu=>by
    simp[Value.cells]at hu;subst hu;rfl)
   obtain⟨cur',hcur'⟩:∃cur',cur'=(cur.toList.take (0+i *1+0)++(Value.map (some r)).cells.toList++cur.toList.drop (0+i *1+0+1)).toArray:=⟨_,rfl⟩
   rw[<-hcur']at hst
   have hget:∀j,cur'[j]?=if j=i then some (.map (some r))else cur[j]?:=by
    intro j
    have h5:=bD cur.toList [Value.map (some r)] (0+i *1+0) j (by simp;omega)
    have h6:cur'[j]?=(cur.toList.take (0+i *1+0)++[Value.map (some r)]++cur.toList.drop (0+i *1+0+[Value.map (some r)].length))[j]?:=by
     rw[hcur'];simp[Value.cells]
    rw[h6,h5]
    by_cases hj:j=i
    ·subst hj
     rw[Q5 (by omega),Q6 (by simp),Q6 rfl]
     simp
    ·rw[Q5 hj]
     split
     ·simp
     ·rw[Q5 (by simp;omega)];simp
   have hsz:cur'.size=cur.size:=by
    rw[hcur'];simp[Value.cells];omega
   refine iT (w':=w.setRow g cur') (iG ho hq (by rw[hyv];exact hst)) ?_
   have hrg:r≠g:=λe=>hBr ((a5 r).2 (.inl e))
   have hrj:∀j m2,es[j]?=some (some m2)->cur[j]?≠some (Value.map (some r)):=λj m2 h5 h6=>hBr ((a5 r).2 (.inr ⟨j,m2,h5,h6⟩))
   have hset:∀(j:Nat) (m2:List (Value×D)),(es.set i (some m0))[j]?=some (some m2)↔j=i/\m2=m0\/j≠i/\es[j]?=some (some m2):=by
    intro j m2
    rw[Ol]
    by_cases hij:i=j
    ·subst hij
     rw[Q6 rfl,Q6 hi]
     simp[eq_comm]
    ·rw[Q5 hij]
     exact⟨λh=> .inr ⟨Oc hij,h⟩,λh=>h.elim (λh=>(hij h.1.symm).elim) λh=>h.2⟩
   have hheap:(w.setRow g cur').heap[g]?=some (.cells cur' e (0,0)):=by
    simp[World.setRow,OW,a2]
   have hother:∀k,k≠g->(w.setRow g cur').heap[k]?=w.heap[k]?:=λk hk=>setRow_other w g k _ hk
   obtain⟨k1,k2⟩:=aI.mkMaps (E:=E) (M:=M) (w:=w.setRow g cur') (n:=m) (e:=e) (es:=es.set i (some m0)) (al:=none) (B:=λb=>b=g\/b=r\/∃j m2,j≠i/\es[j]?=some (some m2)/\cur[j]?=some (Value.map (some b)))
    (Or.inr ⟨g,cap,cur',by rw[Ow];exact a1,hheap,by rw[Ow];exact a3,by rw[hsz];exact a4,λb=>by
      constructor
      ·rintro(rfl|rfl|⟨j,m2,h5,h6,h7⟩)
       ·exact .inl rfl
       ·exact .inr ⟨i,m0,(hset i m0).2 (.inl ⟨rfl,rfl⟩),by rw[hget,Q6 rfl]⟩
       ·exact .inr ⟨j,m2,(hset j m2).2 (.inr ⟨h5,h6⟩),by rw[hget,Q5 h5];exact h7⟩
      ·rintro(rfl|⟨j,m2,h5,h6⟩)
       ·exact .inl rfl
       ·rcases(hset j m2).1 h5 with⟨rfl,rfl⟩|⟨h7,h8⟩
        ·rw[hget,Q6 rfl]at h6;cases h6;exact .inr (.inl rfl)
        ·rw[hget,Q5 h7]at h6;exact .inr (.inr ⟨j,m2,h7,h8,h6⟩),
      λj m2 h5=>by
       rcases(hset j m2).1 h5 with⟨rfl,rfl⟩|⟨h7,h8⟩
       ·exact⟨r,es',clock,by rw[hget,Q6 rfl],hrg,by rw[hother r hrg];exact b2,b3,b4,b5⟩
       ·obtain⟨r2,e2,c2,p1,p2,p3,p4⟩:=a6 j m2 h8
        exact⟨r2,e2,c2,by rw[hget,Q5 h7];exact p1,p2,by rw[hother r2 p2];exact p3,p4⟩,
      λj j' m2 m3 r' h5 h6 h7 h8=>by
       rcases(hset j m2).1 h5 with⟨rfl,rfl⟩|⟨p1,p2⟩
       ·rcases(hset j' m3).1 h6 with⟨rfl,rfl⟩|⟨q1,q2⟩
        ·rfl
        ·rw[hget,Q6 rfl]at h7;cases h7
         rw[hget,Q5 q1]at h8
         exact(hrj j' m3 q2 h8).elim
       ·rw[hget,Q5 p1]at h7
        rcases(hset j' m3).1 h6 with⟨rfl,rfl⟩|⟨q1,q2⟩
        ·rw[hget,Q6 rfl]at h8;cases h8;exact(hrj j m2 p2 h7).elim
        ·rw[hget,Q5 q1]at h8
         exact a7 j j' m2 m3 r' p2 q2 h7 h8,λj hj=>by cases hj⟩)
    (λb hb=>by
      rcases hb with rfl|rfl|⟨j,m2,h5,h6,h7⟩
      ·exact h2 _ ((a5 _).2 (.inl rfl))
      ·exact((hs.own n _ hn').block hfn).2
      ·exact h2 b ((a5 b).2 (.inr ⟨j,m2,h6,h7⟩)))
   have hmv:=hs.own_many (E':=E) (d:=m) (o':= .maps e (es.set i (some m0)) none) (w':=w.setRow g cur') [m,n] (row:=some g) (de w g cur')
    (λb hb=>by cases hb;exact⟨m,by simp,_,hm',(h3 g).2 ((a5 g).2 (.inl rfl))⟩) (λ_ _=>rfl) (.inl ⟨by simp,rfl⟩)
    (λb hb=>by
      rcases(k2 b).1 hb with rfl|rfl|⟨j,m2,h5,h6,h7⟩
      ·exact .inl ⟨m,by simp,_,hm',(h3 _).2 ((a5 _).2 (.inl rfl))⟩
      ·exact .inl ⟨n,by simp,_,hn',hfn⟩
      ·exact .inl ⟨m,by simp,_,hm',(h3 b).2 ((a5 b).2 (.inr ⟨j,m2,h6,h7⟩))⟩) k1
   have hp:=hmv.put o.dst hd (aN.junk undef)
   refine hK _ _ _ _ (hp.weaken (λt x hx=> .inl hx) λk o' hk=> ?_)
   simp only[ab.own?,ab.app,NF,N_,NQ,NW,af]at hk⊢
   by_cases q1:m=k
   ·rw[Q6 q1]at hk⊢;exact hk
   ·rw[Q5 q1]at hk⊢
    by_cases q2:n=k
    ·rw[Q6 q2]at hk;simp at hk
    ·rw[Q5 q2]at hk;rw[Q5 q1,Q5 q2];exact hk
end Go.Awp
end
section
namespace Go.Awp
variable [Inhabited GMem]
theorem Ent.vh2sv{S:ab}{t n e sz:Nat}{rows:List (List D)}(ht:gt S.tmps t=some (.vh n rows.length))(hn:S.own? n=some (.vec e sz rows)):
 Ent S {S with tmps:=(t, .sv n sz 0 rows.length)::S.tmps}:=λC E M a w hs=>by
 refine⟨E,M,{hs with tmps:=λt' x hx=> ?_}⟩
 simp only[af]at hx
 by_cases htt:t=t'
 ·subst htt
  rw[Q6 rfl]at hx
  simp only[Ny]at hx;subst hx
  obtain⟨v,hv,hr⟩:=hs.tmps t _ ht
  refine⟨v,hv,?_⟩
  obtain⟨xs,h1,_⟩:=hs.own n _ hn
  rcases h1.2 with⟨hE,hz⟩|⟨g,cap,cur,hE,_⟩
  ·have:=d5 hr (ad:=none) (cap:=0) (by rw[hE,hz])
   rw[this,hE,hz]
   exact .sv0 n sz hE
  ·have:=d5 hr hE
   rw[this,hE]
   have hz0:(if(0:Nat)=cap then 0 else 0 *sz)=0:=by split<;>simp
   have:=aN.sv (M:=M) n sz 0 rows.length g rows.length cap hE (by omega)
   rw[hz0,Qu]at this
   exact this
 ·rw[Q5 htt]at hx
  exact hs.tmps t' x hx
theorem Ent.boxData{S:ab}{t b:Nat}{oty:Option TypeId}{ds:List D}(ht:gt S.tmps t=some (.bp b 0))(hb:S.own? b=some (.box oty (ds.map .d))):
 Ent S {tmps:=(t, .d (.rp ds))::S.tmps,own:=(b,none)::S.own}:=λC E M a w hs=>by
 obtain⟨g,cs,ty,k1,k2,k3,k4,k5,_⟩:=hs.own b _ hb
 rw[Nz]at k3
 let M':Mem:=λb k=>if b=g then cs[k]? else M b k
 have hM:M.le M':=λb k v hv=>by
  by_cases h:b=g
  ·subst h;rw[k5]at hv;cases hv
  ·simp[M',h,hv]
 have hcell:∀k,w.cell? ⟨g,k,none⟩=cs[k]?:=λk=>by simp[World.cell?,k2]
 have hft:(Own.box oty (ds.map .d)).foot w (E b) g:=by rw[k1];exact rfl
 have hown:∀m o,ab.own? {tmps:=(t, .d (.rp ds))::S.tmps,own:=(b,none)::S.own} m=some o->m≠b/\S.own? m=some o:=λm o ho=>by
  simp only[ab.own?,af]at ho
  by_cases h:b=m
  ·rw[Q6 h]at ho;cases ho
  ·rw[Q5 h]at ho;exact⟨λe=>h e.symm,ho⟩
 have hnone:∀m o,m≠b->S.own? m=some o->∀b',o.foot w (E m) b'->∀k,M' b' k=none:=by
  intro m o hm ho b' hb' k
  have h0:=((hs.own m o ho).block hb').2 k
  have:b'≠g:=λe=>by
   subst e
   exact hs.apart m b o _ b' hm ho hb hb' hft
  simp only[M',Q5 this,h0]
 refine⟨E,M',{size:=hs.size,defers:=hs.defers,fixed:=hs.fixed,tmps:= ?_,mem:= ?_,own:= ?_,apart:= ?_,home:= ?_,m0:=Mem.le_trans hs.m0 hM,mnew:= ?_,frame:=hs.frame,grows:=hs.grows,os:=hs.os,tape:=hs.tape,output:=hs.output,env:=hs.env}⟩
 ·intro t' x hx
  simp only[af]at hx
  by_cases htt:t=t'
  ·subst htt
   rw[Q6 rfl]at hx
   simp only[Ny]at hx;subst hx
   obtain⟨v,hv,hr⟩:=hs.tmps t _ ht
   refine⟨v,hv, .d ?_⟩
   cases hr with
   |bp _ _ b0 h=>
    rw[k1]at h
    simp only[Value.pointer.injEq,Ny,Addr.mk.injEq]at h
    obtain⟨rfl,_,_⟩:=h
    refine .rp g 0 ds (λk=>cs.getD k undef) (λk hk=> ?_) λj y hy=> ?_
    ·have:k<cs.size:=by omega
     simp only[M',Q2,N2]
     rw[N4 this]
     simp[this]
    ·have hj:j<cs.size:=by have:=(Nx.1 hy).1;omega
     have:=k4 j cs[j] (.d y) (N4 hj) (by rw[NB,hy];rfl)
     have hg:cs.getD j undef=cs[j]:=by simp[hj]
     rw[hg]
     exact this.toD.mono hM
  ·rw[Q5 htt]at hx
   obtain⟨v,hv,hr⟩:=hs.tmps t' x hx
   exact⟨v,hv,hr.mono hM λ_ _=>rfl⟩
 ·intro b' k v hv
  simp only[M']at hv
  split at hv
  ·rename_i h;subst h;rw[hcell];exact hv
  ·exact hs.mem b' k v hv
 ·intro m o ho
  obtain⟨hm,ho0⟩:=hown m o ho
  exact(hs.own m o ho0).keep rfl (λ_ _=>rfl) (λ_ _=>rfl) hM (hnone m _ hm ho0)
 ·intro m m' o o' b' hne ho ho' h1 h2
  exact hs.apart m m' o o' b' hne (hown m o ho).2 (hown m' o' ho').2 h1 h2
 ·intro m o b' ho h1
  exact hs.home m o b' (hown m o ho).2 h1
 ·intro b' k v hv
  simp only[M']at hv
  split at hv
  ·rename_i h;subst h;exact .inr (hs.home b _ _ hb hft)
  ·exact hs.mnew b' k v hv
end Go.Awp
end
section
namespace Go.Awp
variable [Inhabited GMem] {P:Program} {nm:Nat->Nat} {o:Oper} {ρ:Operand->H} {ω:Nat->Option Own}
theorem aB.buildSt{t:TypeId}{parts:Array (Nat×Operand)}{z:List Value}{pl:List (Nat×Nat)}{cs:List H}(ho:o.op= .build t parts)(hz:f_ P t=some z)(hpl:places P t=some pl)
 (hcs:mh pl (z.map λx=> .d (.v x)) (parts.toList.map λ(i,x)=>(i,fnD (ρ x)))=some cs):aB P nm o ρ ω {val:=bA cs}:=by
 refine aB.pure λE M ev w hr hm=> ?_
 simp only[ho,Op.operands]at hr
 unfold f_ at hz
 split at hz
 ·rename_i it hit
  split at hz
  ·rename_i zv hzv
   simp only[Ny]at hz;subst hz
   unfold places at hpl
   split at hpl
   ·rename_i fs hfs
    obtain⟨cells',e1,e2,e3⟩:=mI (E:=E) (M:=M) pl _ (parts.toList.map λ(i,x)=>(i,ev x)) zv.cells _ cs hcs (by simp)
     (λi p q hp hq=>by
       simp only[NB]at hp hq
       cases hx:parts.toList[i]? with
       |none=>rw[hx]at hp;cases hp
       |some y=>
        rw[hx]at hp hq;simp at hp hq;subst hp;subst hq
        exact⟨rfl,u5 (hr y.2 (by simpa using ⟨y.1,by simpa using NJ hx⟩))⟩) (by simp)
     (λi c x hc hx=>by
       simp only[NB]at hx
       have hc':zv.cells.toList[i]?=some c:=by simpa using hc
       rw[hc']at hx;simp at hx;subst hx
       exact .d (.v c))
    refine⟨.agg cells',?_,aN.mk_agg e2 e3⟩
    have hb:P.built t (parts.map λ(i,x)=>(i,ev x)).toList=some cells':=by
     simp only[Program.built,hit,hfs,hzv,hpl]
     simpa using e1
    have:=run_build (P:=P) w t (parts.map λ(i,x)=>(i,ev x)) cells' hb
    simp[execOp,ho,this]
   ·cases hpl
  ·cases hz
 ·cases hz
theorem zD{E:Env}{M:Mem}{v:Value}{l:List H}(h:aN E M v (bA l)):aN E M v (.agg l):=by
 unfold bA at h
 split at h
 ·rename_i ds hds
  obtain⟨cs,rfl,h1,h2⟩:=h.dagg
  obtain⟨g1,g2⟩:=eN hds
  refine .agg cs l (by omega) λi c x hc hx=> ?_
  rw[g2]at hx
  cases hd:ds[i]? with
  |none=>rw[hd]at hx;cases hx
  |some d=>rw[hd]at hx;simp at hx;subst hx;exact .d (h2 i c d hc hd)
 ·exact h
theorem ab.app_fresh{S:ab}{d:Nat}{v:H}{nn:Nat}(hf:S.fresh nn=true)(hv:H.has nn v=false):({tmps:=(d,v)::S.tmps,own:=S.own}:ab).fresh nn=true:=by
 unfold ab.fresh at hf⊢
 simp only[NH,OQ,PN]at hf⊢
 exact⟨⟨hf.1.1,hv,hf.1.2⟩,hf.2⟩
theorem aB.nilTop{l:List H}{i nn e sz d:Nat}(hdst:o.dst=some d)(hi:l[i]?=some (.d (.v (.slice none 0 0))))(hl:H.hasL nn l=false)(h:aB P nm o ρ ω {val:=bA l}):
 aB P nm o ρ ω {val:=bA (l.set i (.vh nn 0)),upd:=[(nn,some (.vec e sz []))],new:=[nn]}:=by
 intro C E M S a w K Q hP hd hs he hacc hn hK
 refine h C E M S a w K Q hP hd hs he (λk hk=>by cases hk) (λk hk=>by cases hk) λE' M' a' w' hs'=> ?_
 obtain⟨hf,hg⟩:=hn nn (by simp)
 have hSe:S.app o.dst {val:=bA l}={tmps:=(d,bA l)::S.tmps,own:=S.own}:=by
  simp only[ab.app,hdst,mm];rfl
 rw[hSe]at hs'
 have hhas:H.has nn (bA l)=false:=by
  unfold bA
  split
  ·simp[H.has]
  ·simp[H.has,hl]
 have hf2:=ab.app_fresh (d:=d) hf hhas
 have h1:=hs'.own_new (E':=λm=>if m=nn then .slice none 0 0 else E' m) (d:=nn) (o':= .vec e sz []) (w':=w') (cK w' _) (λm hm=>by simp[hm]) hf2 hg
  (λb hb=>by simp[Own.foot,aj]at hb) ⟨[],by simpa using World.ownsRow_nil w' 0 e sz,by simp,by simp,λb hb=>by simp[aj]at hb⟩
 refine hK (λm=>if m=nn then .slice none 0 0 else E' m) M' a' w' ?_
 have hSe2:S.app o.dst {val:=bA (l.set i (.vh nn 0)),upd:=[(nn,some (.vec e sz []))],new:=[nn]}={tmps:=(d,bA (l.set i (.vh nn 0)))::S.tmps,own:=(nn,some (.vec e sz []))::S.own}:=by
  simp only[ab.app,hdst,mm];rfl
 rw[hSe2]
 refine{h1 with tmps:=λt x hx=> ?_}
 rw[af]at hx
 by_cases htt:d=t
 ·subst htt
  rw[Q6 rfl]at hx
  simp only[Ny]at hx;subst hx
  obtain⟨v,hv,hr⟩:=hs'.tmps d _ (by rw[af,Q6 rfl])
  refine⟨v,hv,?_⟩
  have hr:=zD hr
  cases hr with
  |agg cs _ hcl hcr=>
   refine aN.mk_agg (by rw[Ow];exact hcl) λj c x hc hx=> ?_
   rw[Ol]at hx
   by_cases hij:i=j
   ·subst hij
    rw[Q6 rfl,Q6 (Nx.1 hi).1]at hx
    simp only[Ny]at hx;subst hx
    have:=hcr i c _ hc hi
    rw[this.dv]
    exact .vh nn 0 0 0 none (by simp) (NY _)
   ·rw[Q5 hij]at hx
    refine(hcr j c x hc hx).mono (Mem.le_refl _) λk hk=> ?_
    have:k≠nn:=λe0=>by
     rw[e0]at hk
     have:=H.hasL_get hl hx
     rw[hk]at this;cases this
    rw[Q5 this]
 ·rw[Q5 htt]at hx
  exact h1.tmps t x (by rw[af,Q5 htt];exact hx)
end Go.Awp
end
section
namespace Go.Mp
def get{κ β:Type}(eq:κ->κ->Bool)(x:κ):List (κ×β)->Option β
 |[]=>none
 |p::r=>if eq x p.1=true then some p.2 else get eq x r
def put{κ β:Type}(eq:κ->κ->Bool)(x:κ)(y:β):List (κ×β)->List (κ×β)
 |[]=>[(x,y)]
 |p::r=>if eq x p.1=true then(x,y)::r else p::put eq x y r
def ins{κ β:Type}(lt:κ->κ->Bool)(x:κ)(y:β):List (κ×β)->List (κ×β)
 |[]=>[(x,y)]
 |p::r=>if lt x p.1=true then(x,y)::p::r else p::ins lt x y r
def set{κ β:Type}(eq lt:κ->κ->Bool)(x:κ)(y:β)(l:List (κ×β)):List (κ×β):=if l.any (λp=>eq x p.1)=true then put eq x y l else ins lt x y l
theorem BS{κ β:Type}{eq:κ->κ->Bool}{x:κ}{y:β}:∀{l:List (κ×β)},l.any (λp=>eq x p.1)=false->put eq x y l=l++[(x,y)]
 |[],_=>rfl
 |p::r,h=>by
  rw[List.any_cons,O0]at h
  rw[put,h.1,Q5 (by decide),BS h.2];rfl
theorem wR{κ β:Type}{lt:κ->κ->Bool}{x:κ}{y:β}:∀l:List (κ×β),(ins lt x y l).Perm ((x,y)::l)
 |[]=> .refl _
 |p::r=>by
  rw[ins]
  split
  ·exact .refl _
  ·exact((wR r).cons p).trans (.swap _ _ _)
theorem set_perm{κ β:Type}(eq lt:κ->κ->Bool)(x:κ)(y:β)(l:List (κ×β)):(set eq lt x y l).Perm (put eq x y l):=by
 unfold set
 split
 ·exact .refl _
 ·rename_i h
  rw[BS (by simpa using h)]
  exact(wR l).trans (List.perm_append_singleton _ _).symm
def ieq(a b:Int):Bool:=a==b
def beq(a b:Bool):Bool:=a==b
def seq(a b:ByteArray):Bool:=a==b
def ilt(a b:Int):Bool:=decide (a<b)
def blt(a b:Bool):Bool:= !a&&b
def lex:List UInt8->List UInt8->Bool
 |[],[]=>false
 |[],_::_=>true
 |_::_,[]=>false
 |a::r,b::s=>if a.toNat<b.toNat then true else if b.toNat<a.toNat then false else lex r s
def slt(a b:ByteArray):Bool:=lex a.data.toList b.data.toList
end Go.Mp
namespace Go.Tx
open Go.Awp
variable [Inhabited GMem]
inductive Ty (ι:Type)where
 |int (k:IntKind)
 |bool
 |str
 |st (i:ι)
 |sl (e:Ty ι)
 |mp (k v:Ty ι)
 |er
 /-- a pointer to what nobody writes, or nil -/
 |op (e:Ty ι)
 /-- a function that captures nothing -/
 |fnc
 /-- the same, or nil -/
 |fno
 /-- an array -/
 |ar (n:Nat) (e:Ty ι)
 deriving DecidableEq
@[reducible] def den {ι:Type} (N:ι->Type):Ty ι->Type
 | .int _=>Int
 | .bool=>Bool
 | .str=>ByteArray
 | .st i=>N i
 | .sl e=>List (den N e)
 | .mp k v=>List (den N k×den N v)
 | .er=>Bool
 | .op e=>Option (den N e)
 | .fnc=>Nat
 | .fno=>Option Nat
 | .ar _ e=>List (den N e)
def arL{α:Type}(m:Nat)(pad:α)(l:List α):List α:=(l++On m pad).take m
theorem FV{α:Type}(m:Nat)(pad:α)(l:List α):(arL m pad l).length=m:=by
 unfold arL
 simp
theorem uE{α β:Type}(f:α->β)(m:Nat)(pad:α)(l:List α):(arL m pad l).map f=arL m (f pad) (l.map f):=by
 unfold arL
 simp
structure cg {ι:Type} (N:ι->Type)where
 t:Ty ι
 x:den N t
section
variable {ι:Type} {N:ι->Type} (sz:ι->Nat) (enc:(i:ι)->N i->List D)
def tsz:Ty ι->Nat
 | .st i=>sz i
 | .ar n e=>n *tsz e
 |_=>1
def opD:Option (List D)->D
 |none=> .v (.pointer none)
 |some c=> .rp c
theorem Hn(x:Option (List D)):(opD x).one=true:=by cases x<;>rfl
def Ip:Option Nat->D
 |none=> .v .nilFunc
 |some f=> .v (.func (.func f) #[] #[])
theorem Dm(x:Option Nat):(Ip x).one=true:=by cases x<;>rfl
def aT:(t:Ty ι)->den N t->List D
 | .int k,n=>[.v (.int k n)]
 | .bool,b=>[.v (.bool b)]
 | .str,s=>[.v (.string s)]
 | .st i,x=>enc i x
 | .sl e,xs=>[.sl (tsz sz e) (xs.map λx=>aT e x)]
 | .mp _ _,_=>[.v (.map none)]
 | .er,b=>[.er b]
 | .op e,x=>[opD (x.map λy=>aT e y)]
 | .fnc,f=>[.v (.func (.func f) #[] #[])]
 | .fno,f=>[Ip f]
 | .ar n e,xs=>arL (n *tsz sz e) (.v (.bool false)) (xs.map λx=>aT e x).flatten
def aK:(t:Ty ι)->den N t->D
 | .int k,n=> .v (.int k n)
 | .bool,b=> .v (.bool b)
 | .str,s=> .v (.string s)
 | .st i,x=> .agg (enc i x)
 | .sl e,xs=> .sl (tsz sz e) (xs.map λx=>aT sz enc e x)
 | .mp _ _,_=> .v (.map none)
 | .er,b=> .er b
 | .op e,x=>opD (x.map λy=>aT sz enc e y)
 | .fnc,f=> .v (.func (.func f) #[] #[])
 | .fno,f=>Ip f
 | .ar n e,xs=> .agg (aT sz enc (.ar n e) xs)
end
section
variable {ι:Type} {N:ι->Type} (sz:ι->Nat) (enc:(i:ι)->N i->List D) (tid:Ty ι->Nat) (encd:(i:ι)->N i->List DD)
def bR:(t:Ty ι)->den N t->List DD
 | .st i,x=>encd i x
 | .sl e,xs=>[.sl (tid e) (tsz sz e) (xs.map λx=>bR e x)]
 | .ar n e,xs=>arL (n *tsz sz e) (.d (.v (.bool false))) (xs.map λx=>bR e x).flatten
 |t,x=>(aT sz enc t x).map .d
def e_:(t:Ty ι)->den N t->DD
 | .sl e,xs=> .sl (tid e) (tsz sz e) (xs.map λx=>bR sz enc tid encd e x)
 |t,x=> .d (aK sz enc t x)
end
def Ty.isSl{ι:Type}:Ty ι->Bool
 | .sl _=>true
 |_=>false
def MC:D->Value
 | .v x=>x
 |_=> .nilIface
def dM{ι:Type}{N:ι->Type}(enc:(i:ι)->N i->List D):(t:Ty ι)->den N t->Value
 | .int k,n=> .int k n
 | .bool,b=> .bool b
 | .str,s=> .string s
 | .st i,x=> .agg ((enc i x).map MC).toArray
 |_,_=> .map none
def Ty.cell{ι:Type}:Ty ι->Bool
 | .st _=>false
 | .ar _ _=>false
 |_=>true
structure i7 where
 ι:Type
 dec:DecidableEq ι
 N:ι->Type
 sz:ι->Nat
 tys:ι->List (Ty ι)
 cells:(i:ι)->N i->List (cg N)
 ofCells:(i:ι)->List (cg N)->Option (N i)
 enc:(i:ι)->N i->List D
 ty:TypeId->Option (Ty ι)
 enc_cells:∀i x,enc i x=(cells i x).map λl=>aK sz enc l.t l.x
 of_cells:∀i ls x,ofCells i ls=some x->cells i x=ls
 len_cells:∀i x,(cells i x).length=sz i
 one_cells:∀i x,∀l∈cells i x,l.t.cell=true
 tys_cells:∀i x,(cells i x).map (λl=>l.t)=tys i
 tid:Ty ι->Nat
 encd:(i:ι)->N i->List DD
 encd_cells:∀i x,encd i x=(cells i x).map λl=>e_ sz enc tid encd l.t l.x
 encd_toL:∀i x,DD.toL (encd i x)=some (enc i x)
 flat:ι->Bool
 flat_cells:∀i x,flat i=true->∀l∈cells i x,l.t.isSl=false
instance (V:i7):DecidableEq V.ι:=V.dec
inductive TV {ι:Type} (N:ι->Type)where
 |lf (t:Ty ι) (x:den N t)
 |raw (v:Value)
 |bp (n off:Nat)
 |vh (n:Nat)
 |ep (n sz i off:Nat)
 |sv (n sz i off:Nat)
 |mp (n:Nat)
 |np (n:Nat) (b:Bool)
 |sd (n:Nat)
 |rp (t:Ty ι) (x:den N t) (off:Nat)
 /-- a place in an array that lies in a box -/
 |ai (n sz i off:Nat)
 |agg (cs:List (TV N))
 |tup (vs:List (TV N))
 |fn (f:Nat) (a b:List (TV N))
 |junk
inductive TO {ι:Type} (N:ι->Type)where
 |box (o:Option TypeId) (cells:List (TV N))
 /-- a box that holds a struct whole -/
 |bst (i:ι) (x:N i)
 |vec (te:TypeId) (e:Ty ι) (xs:List (den N e))
 /-- a slice whose elements own what they hold -/
 |dvec (te:TypeId) (e:Ty ι) (xs:List (den N e))
 /-- the same, some elements are out -/
 |pvec (te:TypeId) (e:Ty ι) (xs:List (Option (den N e)))
 |map (k v:Ty ι) (es:List (den N k×den N v))
 |iter (s:ByteArray) (p:Int)
 /-- a map through which a loop goes: its name, what it holds, what is left, what came last -/
 |miter (m:Nat) (k v:Ty ι) (es rest:List (den N k×den N v)) (cur:Option (den N k×den N v))
 /-- a slice that lies somewhere in its block -/
 |que (te:TypeId) (e:Ty ι) (xs:List (den N e))
 /-- a slice of maps; one of them may have a name -/
 |maps (te:TypeId) (k v:Ty ι) (es:List (Option (List (den N k×den N v)))) (al:Option (Nat×Nat))
 /-- a box that holds an array whole -/
 |bar (n:Nat) (e:Ty ι) (xs:List (den N e))
 /-- the name of a map that lies in a slice -/
 |alias (m:Nat)
 /-- no longer owned: how long it was -/
 |gone (len:Nat)
structure TS {ι:Type} (N:ι->Type)where
 tmps:List (Nat×TV N)
 own:List (Nat×TO N)
section
variable {ι:Type} {N:ι->Type}
def TS.own?(S:TS N)(n:Nat):Option (TO N):=gt S.own n
def TS.get(S:TS N)(t:Nat):TV N:=(gt S.tmps t).getD .junk
def TO.len:Option (TO N)->Nat
 |some (.vec _ _ xs)=>xs.length
 |some (.dvec _ _ xs)=>xs.length
 |some (.pvec _ _ xs)=>xs.length
 |some (.que _ _ xs)=>xs.length
 |some (.maps _ _ _ es _)=>es.length
 |some (.gone l)=>l
 |_=>0
def TS.len(S:TS N)(n:Nat):Nat:=TO.len (S.own? n)
mutual
def TV.has(n:Nat):TV N->Bool
 | .bp m _=>Ov m n
 | .vh m=>Ov m n
 | .ep m _ _ _=>Ov m n
 | .sv m _ _ _=>Ov m n
 | .mp m=>Ov m n
 | .np m _=>Ov m n
 | .sd m=>Ov m n
 | .ai m _ _ _=>Ov m n
 | .agg cs=>TV.hasL n cs
 | .tup vs=>TV.hasL n vs
 | .fn _ a b=>TV.hasL n a||TV.hasL n b
 |_=>false
def TV.hasL(n:Nat):List (TV N)->Bool
 |[]=>false
 |x::r=>TV.has n x||TV.hasL n r
end
def TO.has(n:Nat):TO N->Bool
 | .box _ cells=>TV.hasL n cells
 | .miter m _ _ _ _ _=>Ov m n
 | .maps _ _ _ _ (some p)=>Ov p.1 n
 |_=>false
def TS.fresh(S:TS N)(n:Nat):Bool:=
 (S.own? n).isNone&&S.tmps.all (λx=> !TV.has n x.2)&&S.own.all (λx=> !TO.has n x.2)
end
section
variable (V:i7)
def bw:Value->H
 | .agg cs=> .d (.agg (cs.toList.map .v))
 |v=> .d (.v v)
mutual
def an(ω:Nat->Nat):TV V.N->H
 | .lf t x=> .d (aK V.sz V.enc t x)
 | .raw v=>bw v
 | .bp n off=> .bp n off
 | .vh n=> .vh n (ω n)
 | .ep n s i off=> .ep n s i off
 | .sv n s i off=> .sv n s i off
 | .mp n=> .mp n
 | .np n b=> .np n b
 | .sd n=> .sd n
 | .rp t x off=> .d (.rp ((aT V.sz V.enc t x).drop off))
 | .ai n s i off=> .bp n (i *s+off)
 | .agg cs=>bA (encL ω cs)
 | .tup vs=> .tup (encL ω vs)
 | .fn f a b=> .fn f (encL ω a) (encL ω b)
 | .junk=> .junk
def encL(ω:Nat->Nat):List (TV V.N)->List H
 |[]=>[]
 |x::r=>an ω x::encL ω r
end
def px(e:Ty V.ι):Option (den V.N e)->List DD
 |some x=>bR V.sz V.enc V.tid V.encd e x
 |none=>On (tsz V.sz e) .junk
def aX(ω:Nat->Nat):TO V.N->Option Own
 | .box o cells=>some (.box o (encL V ω cells))
 | .bst i x=>some (.box none ((V.enc i x).map .d))
 | .vec te e xs=>some (.vec te (tsz V.sz e) (xs.map λx=>aT V.sz V.enc e x))
 | .dvec te e xs=>some (.dvec te (tsz V.sz e) (xs.map λx=>bR V.sz V.enc V.tid V.encd e x))
 | .pvec te e xs=>some (.dvec te (tsz V.sz e) (xs.map λx=>px V e x))
 | .map k v es=>some (.map (es.map λp=>(dM V.enc k p.1,aK V.sz V.enc v p.2)))
 | .iter s p=>some (.iter s p.toNat)
 | .miter m k v es rest cur=>some (.miter m (es.map λp=>(dM V.enc k p.1,aK V.sz V.enc v p.2)) (rest.map λp=>(dM V.enc k p.1,aK V.sz V.enc v p.2)) (cur.map λp=>(dM V.enc k p.1,aK V.sz V.enc v p.2)))
 | .que te e xs=>some (.que te (tsz V.sz e) (xs.map λx=>aT V.sz V.enc e x))
 | .maps te k v es al=>some (.maps te (es.map λo=>o.map λl=>l.map λp=>(dM V.enc k p.1,aK V.sz V.enc v p.2)) al)
 | .bar n e xs=>some (.box none ((aT V.sz V.enc (.ar n e) xs).map .d))
 | .alias _=>none
 | .gone _=>none
def az(S:TS V.N):ab:=
 {tmps:=S.tmps.map λp=>(p.1,an V S.len p.2),own:=S.own.map λp=>(p.1,aX V S.len p.2)}
variable {V}
theorem encL_map(ω:Nat->Nat)(l:List (TV V.N)):encL V ω l=l.map (an V ω):=by
 induction l with
 |nil=>rfl
 |cons x r ih=>simp[encL,ih]
theorem wu{n:Nat}:∀{l:List H} {ds:List D},fC l=some ds->H.hasL n l=false
 |[],_,_=>by simp[H.hasL]
 | .d x::r,ds,h=>by
  simp only[fC]at h
  split at h
  ·rename_i l hl
   simp[H.hasL,H.has,wu hl]
  ·cases h
 | .junk::r,ds,h=>by simp[fC]at h
 | .bp .. ::r,ds,h=>by simp[fC]at h
 | .vh .. ::r,ds,h=>by simp[fC]at h
 | .ep .. ::r,ds,h=>by simp[fC]at h
 | .sv .. ::r,ds,h=>by simp[fC]at h
 | .mp .. ::r,ds,h=>by simp[fC]at h
 | .np .. ::r,ds,h=>by simp[fC]at h
 | .sd .. ::r,ds,h=>by simp[fC]at h
 | .agg .. ::r,ds,h=>by simp[fC]at h
 | .tup .. ::r,ds,h=>by simp[fC]at h
 | .fn .. ::r,ds,h=>by simp[fC]at h
theorem A4(n:Nat)(l:List H):H.has n (bA l)=H.hasL n l:=by
 unfold bA
 split
 ·rename_i ds h;rw[wu h];simp[H.has]
 ·simp[H.has]
theorem xY(n:Nat)(v:Value):H.has n (bw v)=false:=by
 cases v<;>simp[bw,H.has]
mutual
theorem iF(ω:Nat->Nat)(n:Nat):∀v:TV V.N,H.has n (an V ω v)=TV.has n v
 | .lf t x=>by simp[an,H.has,TV.has]
 | .raw v=>by simp[an,TV.has,xY]
 | .bp m off=>by simp[an,H.has,TV.has]
 | .vh m=>by simp[an,H.has,TV.has]
 | .ep m s i off=>by simp[an,H.has,TV.has]
 | .sv m s i off=>by simp[an,H.has,TV.has]
 | .mp m=>by simp[an,H.has,TV.has]
 | .np m b=>by simp[an,H.has,TV.has]
 | .sd m=>by simp[an,H.has,TV.has]
 | .rp t x off=>by simp[an,H.has,TV.has]
 | .ai m s i off=>by simp[an,H.has,TV.has]
 | .agg cs=>by simp only[an,A4,TV.has];exact encL_has ω n cs
 | .tup vs=>by simp only[an,H.has,TV.has];exact encL_has ω n vs
 | .fn f a b=>by simp only[an,H.has,TV.has];rw[encL_has ω n a,encL_has ω n b]
 | .junk=>by simp[an,H.has,TV.has]
theorem encL_has(ω:Nat->Nat)(n:Nat):∀l:List (TV V.N),H.hasL n (encL V ω l)=TV.hasL n l
 |[]=>by simp[encL,H.hasL,TV.hasL]
 |x::r=>by simp only[encL,H.hasL,TV.hasL];rw[iF ω n x,encL_has ω n r]
end
theorem j8(ω:Nat->Nat)(n:Nat){o:TO V.N}{o':Own}(h:aX V ω o=some o'):Own.has n o'=TO.has n o:=by
 cases o with
 |box oty cells=>simp only[aX,Ny]at h;subst h;simp only[Own.has,TO.has];exact encL_has ω n cells
 |bst i x=>
  simp only[aX,Ny]at h;subst h;simp only[Own.has,TO.has]
  generalize V.enc i x=l
  induction l with
  |nil=>simp[H.hasL]
  |cons y r ih=>simpa[H.hasL,H.has]using ih
 |vec te e xs=>simp only[aX,Ny]at h;subst h;simp[Own.has,TO.has]
 |dvec te e xs=>simp only[aX,Ny]at h;subst h;simp[Own.has,TO.has]
 |pvec te e xs=>simp only[aX,Ny]at h;subst h;simp[Own.has,TO.has]
 |map k v es=>simp only[aX,Ny]at h;subst h;simp[Own.has,TO.has]
 |iter s p=>simp only[aX,Ny]at h;subst h;simp[Own.has,TO.has]
 |miter m k v es rest cur=>simp only[aX,Ny]at h;subst h;simp[Own.has,TO.has]
 |que te e xs=>simp only[aX,Ny]at h;subst h;simp[Own.que,Own.has,TO.has]
 |maps te k v es al=>
  simp only[aX,Ny]at h;subst h
  cases al with
  |none=>simp[Own.maps,Own.has,TO.has]
  |some p=>simp[Own.maps,Own.has,TO.has]
 |bar m e xs=>
  simp only[aX,Ny]at h;subst h;simp only[Own.has,TO.has]
  generalize aT V.sz V.enc (.ar m e) xs=l
  induction l with
  |nil=>simp[H.hasL]
  |cons y r ih=>simpa[H.hasL,H.has]using ih
 |alias m=>simp[aX]at h
 |gone l=>simp[aX]at h
theorem aG(S:TS V.N)(n:Nat):(az V S).own? n=(S.own? n).bind (aX V S.len):=by
 unfold ab.own? TS.own? az
 simp only[fK]
 cases gt S.own n with
 |none=>rfl
 |some x=>rfl
theorem Dj(S:TS V.N)(t:Nat):(az V S).get t=an V S.len (S.get t):=by
 unfold ab.get TS.get az
 simp only[fK]
 cases gt S.tmps t with
 |none=>simp[an]
 |some x=>rfl
theorem bP(S:TS V.N)(t:Nat):gt (az V S).tmps t=(gt S.tmps t).map (an V S.len):=by
 unfold az
 simp only[fK]
theorem d7{S:TS V.N}{n:Nat}(h:S.fresh n=true):(az V S).fresh n=true:=by
 unfold TS.fresh at h
 unfold ab.fresh
 rw[aG]
 simp only[NH]at h⊢
 obtain⟨⟨h1,h2⟩,h3⟩:=h
 refine⟨⟨?_,?_⟩,?_⟩
 ·cases hq:S.own? n with
  |none=>rfl
  |some o=>rw[hq]at h1;cases h1
 ·unfold az
  simp only[OZ]
  rw[NM]at h2⊢
  intro x hx
  have:=h2 x hx
  simpa[iF]using this
 ·unfold az
  simp only[OZ]
  rw[NM]at h3⊢
  intro x hx
  have:=h3 x hx
  simp only[Qn]
  cases hq:aX V S.len x.2 with
  |none=>rfl
  |some o=>simp only[j8 S.len n hq];exact this
mutual
theorem iE{ω ω':Nat->Nat}:∀v:TV V.N,(∀n,TV.has n v=true->ω' n=ω n)->an V ω' v=an V ω v
 | .lf t x,_=>by simp[an]
 | .raw v,_=>by simp[an]
 | .bp m off,_=>by simp[an]
 | .vh m,h=>by simp[an,h m (by simp[TV.has])]
 | .ep m s i off,_=>by simp[an]
 | .sv m s i off,_=>by simp[an]
 | .mp m,_=>by simp[an]
 | .np m b,_=>by simp[an]
 | .sd m,_=>by simp[an]
 | .rp t x off,_=>by simp[an]
 | .ai m s i off,_=>by simp[an]
 | .agg cs,h=>by simp only[an];rw[encL_congr cs λn hn=>h n (by simpa[TV.has]using hn)]
 | .tup vs,h=>by simp only[an];rw[encL_congr vs λn hn=>h n (by simpa[TV.has]using hn)]
 | .fn f a b,h=>by simp only[an];rw[encL_congr a λn hn=>h n (by simp[TV.has,hn]),encL_congr b λn hn=>h n (by simp[TV.has,hn])]
 | .junk,_=>by simp[an]
theorem encL_congr{ω ω':Nat->Nat}:∀l:List (TV V.N),(∀n,TV.hasL n l=true->ω' n=ω n)->encL V ω' l=encL V ω l
 |[],_=>rfl
 |x::r,h=>by
  simp only[encL]
  rw[iE x λn hn=>h n (by simp[TV.hasL,hn]),encL_congr r λn hn=>h n (by simp[TV.hasL,hn])]
end
theorem pL{ω ω':Nat->Nat}(o:TO V.N)(h:∀n,TO.has n o=true->ω' n=ω n):aX V ω' o=aX V ω o:=by
 cases o with
 |box oty cells=>simp only[aX];rw[encL_congr cells h]
 |bst i x=>rfl
 |vec te e xs=>rfl
 |dvec te e xs=>rfl
 |pvec te e xs=>rfl
 |map k v es=>rfl
 |iter s p=>rfl
 |miter m k v es rest cur=>rfl
 |que te e xs=>rfl
 |maps te k v es al=>rfl
 |bar m e xs=>rfl
 |alias m=>rfl
 |gone l=>rfl
end
end Go.Tx
end
section
namespace Go.Tx
open Go.Awp
variable [Inhabited GMem]
structure TE {ι:Type} (N:ι->Type)where
 val:TV N
 acc:List Nat:=[]
 upd:List (Nat×TO N):=[]
 new:List Nat:=[]
section
variable {ι:Type} {N:ι->Type}
def tvc:Value->TV N
 | .int k n=> .lf (.int k) n
 | .bool b=> .lf .bool b
 | .string s=> .lf .str s
 |v=> .raw v
def AK:Operand->Bool
 | .const .nilIface=>true
 |_=>false
def tev(S:TS N):Operand->TV N
 | .tmp t=>S.get t
 | .const v=>tvc v
 | .global g=> .raw (.pointer (some ⟨g,0,none⟩))
 | .func f=> .fn f [] []
def fnT:TV N->TV N
 | .fn f [] []=> .lf .fnc f
 |v=>v
def TV.one:TV N->Bool
 | .lf t _=>t.cell
 | .raw v=>cp v&&v.oneCell'
 | .bp .. =>true
 | .vh .. =>true
 | .ep .. =>true
 | .sv .. =>true
 | .mp .. =>true
 | .np .. =>true
 | .sd .. =>true
 | .rp .. =>true
 | .fn .. =>true
 |_=>false
def Km(dst:Option Tmp)(x:TV N)(l:List (Nat×TV N)):List (Nat×TV N):=match dst with|some d=>(d,x)::l|none=>l
def TS.app(S:TS N)(dst:Option Tmp)(e:TE N):TS N:={tmps:=Km dst e.val S.tmps,own:=e.upd++S.own}
end
section
variable (V:i7)
def K_(t:Ty V.ι):cg V.N->cg V.N
 |⟨.fnc,f⟩=>match t with
  | .fno=>⟨.fno,some f⟩
  |_=>⟨.fnc,f⟩
 |l=>l
def lV(ex:Bool)(t:Ty V.ι):TV V.N->Option (cg V.N)
 | .lf t' x=>some (K_ V t ⟨t',x⟩)
 | .raw v=>match v,t with
  | .pointer none, .op e=>some ⟨.op e,none⟩
  | .nilFunc, .fno=>some ⟨.fno,none⟩
  | .slice none 0 0, .sl e=>match ex with
   |true=>none
   |false=>some ⟨.sl e,[]⟩
  | .nilIface, .er=>match ex with
   |true=>none
   |false=>some ⟨.er,false⟩
  |_,_=>none
 |_=>none
def cu(ex:Bool):List (Ty V.ι)->List (TV V.N)->Option (List (cg V.N))
 |[],[]=>some []
 |t::ts,x::xs=>match lV V ex t x,cu ex ts xs with
  |some l,some ls=>some (l::ls)
  |_,_=>none
 |_,_=>none
def C8:Option (TO V.N)->Option (List (TV V.N))
 |some (.box _ cells)=>some cells
 |some (.bst i x)=>some ((V.cells i x).map λl=> .lf l.t l.x)
 |_=>none
def xq(ag:Bool)(off sz:Nat)(ot:Option (Ty V.ι)):Option (TO V.N)->Option (TV V.N)
 |some (.bst i x)=>if ag=true/\off=0/\sz=V.sz i/\ot=some (.st i)then some (.lf (.st i) x)else none
 |some (.bar n e xs)=>if ag=true/\off=0/\sz=tsz V.sz (.ar n e)/\ot=some (.ar n e)then some (.lf (.ar n e) xs)else none
 |_=>none
def zL(v:TV V.N)(cs:List (TV V.N)):TO V.N:=match v with
 | .lf (.st i) x=> .bst i x
 |_=> .box none cs
def Ky:Option (TO V.N)->Option TypeId
 |some (.box o _)=>o
 |_=>none
def D7(o:Option TypeId)(v:TV V.N)(cs:List (TV V.N)):TO V.N:=match o with
 |none=>zL V v cs
 |some t=> .box (some t) cs
def mkV(ex:Bool)(ot:Option (Ty V.ι))(cs:List (TV V.N)):TV V.N:=match ot with
 |some (.st i)=>match cu V ex (V.tys i) cs with
  |some ls=>match V.ofCells i ls with
   |some x=> .lf (.st i) x
   |none=> .agg cs
  |none=> .agg cs
 |_=> .agg cs
def Dr(t:TypeId):List (TV V.N)->Option TypeId
 | .raw (.pointer none):: .raw (.slice none 0 0)::_=>some t
 |_=>none
def aL:(t:Ty V.ι)->den V.N t->List (cg V.N)
 | .st i,x=>V.cells i x
 | .ar n e,xs=>arL (n *tsz V.sz e) ⟨.bool,false⟩ (xs.map λx=>aL e x).flatten
 |t,x=>[⟨t,x⟩]
def TV.cells:TV V.N->Option (List (TV V.N))
 | .lf t x=>some ((aL V t x).map λl=> .lf l.t l.x)
 | .raw v=>if cp v then some [.raw v]else none
 | .agg cs=>some cs
 | .tup _=>none
 | .junk=>none
 |v=>some [v]
def ua{α β:Type}(f:List α->Option β)(sz:Nat):Nat->List α->Option (List β)
 |0,_=>some []
 |n+1,cs=>match f (cs.take sz),ua f sz n (cs.drop sz)with
  |some x,some r=>some (x::r)
  |_,_=>none
def cy(ex:Bool):(e:Ty V.ι)->List (TV V.N)->Option (den V.N e)
 | .st i,cs=>match cu V ex (V.tys i) cs with
  |some ls=>V.ofCells i ls
  |none=>none
 | .ar n e,cs=>if cs.length=n *tsz V.sz e then ua (cy ex e) (tsz V.sz e) n cs else none
 |t,[x]=>match lV V ex t x with
  |some l=>if h:l.t=t then some (h▸l.x)else none
  |none=>none
 |_,_=>none
def iO:(e:Ty V.ι)->List (cg V.N)->Option (den V.N e)
 | .st i,ls=>V.ofCells i ls
 | .ar _ _,_=>none
 |t,[l]=>if h:l.t=t then some (h▸l.x)else none
 |_,_=>none
def yj(ex:Bool)(ag:Bool)(sz:Nat)(ot:Option (Ty V.ι))(cells:List (TV V.N)):Option (TV V.N):=match ag with
 |true=>if sz<=cells.length then some (mkV V ex ot (cells.take sz))else none
 |false=>cells.head?
def td(ag:Bool)(sz:Nat)(ot:Option (Ty V.ι))(t:Ty V.ι)(x:den V.N t)(off:Nat):Option (TV V.N):=match ag with
 |true=>if off=0/\ot=some t/\t.cell=false/\sz=tsz V.sz t then some (.lf t x)else match ot with
  |some (.st i)=>if off+sz<=(aL V t x).length then match V.ofCells i (((aL V t x).drop off).take sz)with
   |some y=>some (.lf (.st i) y)
   |none=>none
   else none
  |_=>none
 |false=>match((aL V t x).drop off).head? with
  |some l=>some (.lf l.t l.x)
  |none=>none
def uZ(pl:List (Nat×Nat)):List (TV V.N)->List (Nat×TV V.N)->Option (List (TV V.N))
 |cells,[]=>some cells
 |cells,(i,x)::r=>match pl[i]?,TV.cells V x with
  |some (off,sz),some cs=>if cs.length=sz/\off+sz<=cells.length then uZ pl (cells.take off++cs++cells.drop (off+cs.length)) r else none
  |_,_=>none
def Dh(ex:Bool)(e:Ty V.ι)(x:TV V.N):Option (den V.N e):=match x with
 | .lf t y=>if h:t=e then some (h▸y)else none
 |x=>match TV.cells V x with
  |some cs=>cy V ex e cs
  |none=>none
def Lf(nm:Nat->Nat):Option Tmp->Bool
 |some d=> !(Ov (nm d) d)
 |none=>false
def yT(ex:Bool)(e:Ty V.ι):Nat->List (Nat×TV V.N)->Option (List (den V.N e))
 |_,[]=>some []
 |i,(j,x)::r=>if i=j then match Dh V ex e x,yT ex e (i+1) r with
   |some y,some ys=>some (y::ys)
   |_,_=>none
  else none
def Ka{ι:Type}{N:ι->Type}:cg N->cg N->Bool
 |⟨.int _,a⟩,⟨.int _,b⟩=>Mp.ieq a b
 |⟨.bool,a⟩,⟨.bool,b⟩=>Mp.beq a b
 |⟨.str,a⟩,⟨.str,b⟩=>Mp.seq a b
 |_,_=>false
def Ao{ι:Type}{N:ι->Type}:List (cg N)->List (cg N)->Bool
 |[],[]=>true
 |[a],[b]=>Ka a b
 |a::r,b::s=>Ka a b&&Ao r s
 |_,_=>false
def keq{ι:Type}{N:ι->Type}(cells:(i:ι)->N i->List (cg N)):(t:Ty ι)->den N t->den N t->Bool
 | .int _=>Mp.ieq
 | .bool=>Mp.beq
 | .str=>Mp.seq
 | .st i=>λx y=>Ao (cells i x) (cells i y)
 |_=>λ_ _=>false
def klt{ι:Type}{N:ι->Type}:(t:Ty ι)->den N t->den N t->Bool
 | .int _=>Mp.ilt
 | .bool=>Mp.blt
 | .str=>Mp.slt
 |_=>λ_ _=>false
def eK{ι:Type}:Option TypeDesc->Ty ι->Bool
 |some (.int k), .int k'=>decide (k=k')
 |some .string, .str=>true
 |some .bool, .bool=>true
 |_,_=>false
def mg:List D->Option (List Value)
 |[]=>some []
 | .v x::r=>match mg r with
  |some l=>some (x::l)
  |none=>none
 |_::_=>none
def ofZ(ex:Bool):(t:Ty V.ι)->D->Option (den V.N t)
 | .int k, .v (.int k' n)=>if k=k' then some n else none
 | .bool, .v (.bool b)=>some b
 | .str, .v (.string s)=>some s
 | .sl _, .v (.slice none 0 0)=>match ex with
  |true=>none
  |false=>some []
 | .st i, .agg ds=>match mg ds with
  |some z=>if z.all cp=true then cy V ex (.st i) (z.map tvc)else none
  |none=>none
 |_,_=>none
def I7(S:TS V.N):Option Operand->Bool
 |none=>true
 |some x=>match tev S x with
  | .lf (.int _) _=>true
  |_=>false
def E6(S:TS V.N):Option Operand->Int->Option Int
 |some l,_=>match tev S l with
  | .lf (.int _) n=>some n
  |_=>none
 |none,n=>some n
def qm:Operand->Operand->Bool
 | .tmp a, .tmp b=>Ov a b
 |_,_=>false
def most:Nat:=4294967296
variable (P:Program) (nm:Nat->Nat)
abbrev bm:=(A:Type)->Nat->List (TV V.N)->TS V.N->(TE V.N->Option A)->Option A
def I_(P:Program)(t:TypeId):Bool:=match P.underlying t with
 |some .string=>true
 |_=>false
def AM(P:Program)(t e:TypeId):Bool:=match P.underlying t with
 |some (.pointer e')=>Ov e' e
 |_=>false
def FJ(P:Program)(t:TypeId):Bool:=match lO P t with
 |some (.v (.int .u8 n))=>n==0
 |_=>false
def xj{A:Type}(b:Builtin)(rt:TypeId)(args:List (TV V.N))(tys:List TypeId)(dst:Option Tmp)(S:TS V.N)(k:TE V.N->Option A):Option A:=match b,args with
 | .len,[.lf (.sl _) xs]=>if cC P tys=2 then k {val:= .lf (.int .i64) xs.length}else none
 | .len,[.vh n]=>if cC P tys=2 then k {val:= .lf (.int .i64) (S.len n)}else none
 | .len,[.mp n]=>match S.own? n with
  |some (.map _ _ es)=>if cC P tys=3 then k {val:= .lf (.int .i64) es.length,acc:=[n]}else none
  |_=>none
 | .len,[.lf .str s]=>if cC P tys=1 then k {val:= .lf (.int .i64) s.size}else none
 | .min,[.lf (.int kx) a, .lf (.int _) b]=>k {val:= .lf (.int kx) (min a b)}
 | .max,[.lf (.int kx) a, .lf (.int _) b]=>k {val:= .lf (.int kx) (max a b)}
 | .append,[x, .lf (.sl e') news]=>match dst,tys with
  |some d,[t,t']=>match bf P t with
   |some (te,sz,bytes)=>match x with
    | .vh n=>match S.own? n with
     |some (.vec te2 e xs)=>if h:e'=e then
      if t=t'/\te=te2/\sz=tsz V.sz e/\bytes<=32768/\¬n=nm d then
       if xs.length+news.length<=most then k {val:= .vh (nm d),acc:=[n],upd:=[(nm d, .vec te e (xs++h▸news)),(n, .gone xs.length)],new:=[nm d]}else none
      else none
      else none
     |_=>none
    | .raw (.slice none 0 0)=>if t=t'/\sz=tsz V.sz e'/\bytes<=32768 then
       if news.length<=most then k {val:= .vh (nm d),upd:=[(nm d, .vec te e' news)],new:=[nm d]}else none
      else none
    |_=>none
   |none=>none
  |_,_=>none
 | .append,[x, .lf .str s]=>match dst,tys with
  |some d,[t,t']=>match bf P t with
   |some (te,sz,bytes)=>if I_ P t'=true/\sz=1/\bytes=1/\FJ P te=true then match x with
    | .vh n=>match S.own? n with
     |some (.vec te2 (.int .u8) xs)=>if te=te2/\¬n=nm d then
      if xs.length+s.size<=most then k {val:= .vh (nm d),acc:=[n],upd:=[(nm d, .vec te (.int .u8) (xs++Bs.ints s)),(n, .gone xs.length)],new:=[nm d]}else none
      else none
     |_=>none
    | .raw (.slice none 0 0)=>if s.size<=most then k {val:= .vh (nm d),upd:=[(nm d, .vec te (.int .u8) (Bs.ints s))],new:=[nm d]}else none
    |_=>none
    else none
   |none=>none
  |_,_=>none
 | .unsafeSliceData,[.vh n]=>match S.own? n with
  |some (.vec _ _ _)=>if lu P rt=true then k {val:= .sd n,acc:=[n]}else none
  |_=>none
 | .unsafeString,[.sd n, .lf (.int ki) l]=>match S.own? n,tys with
  |some (.vec te (.int .u8) xs),[pt,_]=>if AM P pt te=true/\P.cellsOf te=1/\ki= .i64 then
   if l=xs.length/\xs.length<=most then k {val:= .lf .str (Bs.bytes xs),acc:=[n],upd:=[(n, .gone xs.length)]}else none
   else none
  |_,_=>none
 |_,_=>none
def Kp{A:Type}(t:TypeId)(x i y:Operand)(S:TS V.N)(k:TE V.N->Option A):Option A:=match P.underlying t,tev S x,tev S i,tev S y with
 |some (.map kt _), .mp n, .lf tk key, .lf tv z=>match S.own? n with
  |some (.map tk' tv' es)=>if h:tk=tk' then
   if h':tv=tv' then
    if eK (P.underlying kt) tk'=true then k {val:= .junk,acc:=[n],upd:=[(n, .map tk' tv' (Mp.set (keq V.cells tk') (klt tk') (h▸key) (h'▸z) es))]}else none
   else none
   else none
  |_=>none
 |_,_,_,_=>none
def GC{ι:Type}:Ty ι->Bool
 | .int _=>true
 | .bool=>true
 | .str=>true
 |_=>false
def HT{α:Type}:List α->List (α×List α)
 |[]=>[]
 |a::r=>(a,r)::(HT r).map λq=>(q.1,a::q.2)
open Classical in
noncomputable def same{A:Type}(l:List A):Option A:=
 if h:∃x,l≠[]/\∀a∈l,a=x then some h.choose else none
theorem ud{A:Type}{l:List A}{x:A}:same l=some x↔l≠[]/\∀a∈l,a=x:=by
 unfold same
 constructor
 ·intro h
  split at h
  ·rename_i hx
   cases h
   exact hx.choose_spec
  ·cases h
 ·intro h
  have hx:∃x,l≠[]/\∀a∈l,a=x:=⟨x,h⟩
  rw[dif_pos hx]
  obtain⟨a,ha⟩:=List.exists_mem_of_ne_nil l h.1
  rw[<-h.2 a ha,<-hx.choose_spec.2 a ha]
noncomputable def FU{α A:Type}(l:List α)(k:α->Option A):Option A:=Qk k l>>=same
theorem mM{α A:Type}{k:α->Option A}:∀{l:List α} {xs:List A},Qk k l=some xs↔xs.length=l.length/\∀(i:Nat) (a:α),l[i]?=some a->k a=xs[i]?
 |[],xs=>by
  simp only[List.mapM_nil]
  constructor
  ·intro h;cases h;simp
  ·intro h;rw[NV h.1];rfl
 |a::r,xs=>by
  rw[QI]
  constructor
  ·intro h
   cases hk:k a with
   |none=>rw[hk]at h;cases h
   |some y=>
    rw[hk]at h
    cases hr:Qk k r with
    |none=>rw[hr]at h;cases h
    |some ys=>
     rw[hr]at h
     cases h
     obtain⟨h1,h2⟩:=mM.1 hr
     refine⟨by simp[h1],λi b hb=> ?_⟩
     cases i with
     |zero=>simp at hb;subst hb;simpa using hk
     |succ i=>simpa using h2 i b (by simpa using hb)
  ·intro ⟨h1,h2⟩
   cases xs with
   |nil=>simp at h1
   |cons y ys=>
    have hk:=h2 0 a rfl
    have hr:Qk k r=some ys:=mM.2 ⟨by simpa using h1,λi b hb=>by simpa using h2 (i+1) b (by simpa using hb)⟩
    simp only[O9]at hk
    rw[hk,hr];rfl
theorem xC{α A:Type}{l:List α}{k:α->Option A}{x:A}:FU l k=some x↔l≠[]/\∀a∈l,k a=some x:=by
 unfold FU
 constructor
 ·intro h
  cases hm:Qk k l with
  |none=>rw[hm]at h;cases h
  |some xs=>
   rw[hm]at h
   obtain⟨h1,h2⟩:=mM.1 hm
   obtain⟨h3,h4⟩:=ud.1 h
   refine⟨λe=>h3 (NV (by rw[h1,e];rfl)),λa ha=> ?_⟩
   obtain⟨i,hi⟩:=OM ha
   rw[h2 i a hi]
   have:i<xs.length:=by rw[h1];exact(Nx.1 hi).1
   rw[ND this,h4 _ (OB this)]
 ·intro ⟨h1,h2⟩
  have hm:Qk k l=some (l.map λ_=>x):=mM.2 ⟨by simp,λi a hi=>by rw[h2 a (NJ hi),NB,hi];rfl⟩
  rw[hm]
  exact ud.2 ⟨by simpa using h1,by simp⟩
theorem Cm{α:Type}{l:List α}:∀{i:Nat} {a:α},l[i]?=some a->(a,l.eraseIdx i)∈HT l:=by
 induction l with
 |nil=>intro i a h;simp at h
 |cons x r ih=>
  intro i a h
  cases i with
  |zero=>simp at h;subst h;exact NG
  |succ i=>exact NC _ (N3.2 ⟨_,ih (by simpa using h),rfl⟩)
def vV:BinOp->Option Bool
 | .shl=>some true
 | .shr=>some false
 |_=>none
def tx{A:Type}(call:bm V)(ex:Bool)(o:Oper)(S:TS V.N)(k:TE V.N->Option A):Option A:=match o.op with
 | .move x=>k {val:=tev S x}
 | .assign x=>k {val:=tev S x}
 | .pick c x y=>match tev S c with
  | .lf .bool b=>if b=true then k {val:=tev S x}else k {val:=tev S y}
  |_=>none
 | .alloc t=>match f_ P t,o.dst with
  |some z,some d=>if z.all cp=true then k {val:= .bp (nm d) 0,upd:=[(nm d, .box (s8 t z) (z.map tvc))],new:=[nm d]}else none
  |_,_=>none
 | .box t x=>match TV.cells V (tev S x),o.dst with
  |some cs,some d=>k {val:= .bp (nm d) 0,upd:=[(nm d,D7 V (Dr V t cs) (tev S x) cs)],new:=[nm d]}
  |_,_=>none
 | .load t x=>match bt P t with
  |some (ag,sz)=>match tev S x with
   | .bp n off=>match xq V ag off sz (V.ty t) (S.own? n)with
    |some v=>k {val:=v,acc:=[n]}
    |none=>match C8 V (S.own? n)with
     |some cells=>match yj V ex ag sz (V.ty t) (cells.drop off)with
      |some v=>k {val:=v,acc:=[n]}
      |none=>none
     |none=>none
   | .ep n s i off=>match S.own? n with
    |some (.vec _ e xs)=>if s=tsz V.sz e then xs[i]?>>=λx=>match td V ag sz (V.ty t) e x off with
     |some v=>k {val:=v,acc:=[n]}
     |none=>none
     else none
    |_=>none
   | .rp t' x off=>match td V ag sz (V.ty t) t' x off with
    |some v=>k {val:=v}
    |none=>none
   |_=>none
  |none=>none
 | .store t x y=>match bt P t with
  |some (_,sz)=>match tev S x,TV.cells V (tev S y)with
   | .bp n off,some cs=>match C8 V (S.own? n)with
    |some cells=>if cs.length=sz/\cs.all TV.one=true/\off+sz<=cells.length then
     if off=0/\sz=cells.length then k {val:= .junk,acc:=[n],upd:=[(n,D7 V (Ky V (S.own? n)) (tev S y) cs)]}
     else k {val:= .junk,acc:=[n],upd:=[(n, .box (Ky V (S.own? n)) (cells.take off++cs++cells.drop (off+cs.length)))]}
     else none
    |none=>none
   | .ep n s i off,some cs=>match S.own? n with
    |some (.vec te e xs)=>if s=tsz V.sz e/\cs.length=sz/\cs.all TV.one=true/\off+sz<=s then
     xs[i]?>>=λx=>match cy V true e ((((aL V e x).take off).map λl=> .lf l.t l.x)++cs++(((aL V e x).drop (off+cs.length)).map λl=> .lf l.t l.x))with
      |some y=>k {val:= .junk,acc:=[n],upd:=[(n, .vec te e (xs.set i y))]}
      |none=>none
     else none
    |_=>none
   |_,_=>none
  |none=>none
 | .nilCheck x=>match tev S x with
  | .bp n off=>k {val:= .bp n off}
  | .ep n s i off=>k {val:= .ep n s i off}
  | .rp t x off=>k {val:= .rp t x off}
  | .np n b=>if b=true then k {val:= .bp n 0}else none
  |_=>none
 | .binOp op xt x y _=>match tev S x,tev S y with
  | .lf (.int kx) a, .lf (.int ky) b=>match vV op with
   |some true=>if 0<=b then k {val:= .lf (.int kx) (Bs.ishl kx a b)}else none
   |some false=>if 0<=b then k {val:= .lf (.int kx) (Bs.ishr kx a b)}else none
   |none=>if kx=ky then match op with
    | .add=>k {val:= .lf (.int kx) (kx.wrap (a+b))}
    | .sub=>k {val:= .lf (.int kx) (kx.wrap (a-b))}
    | .mul=>k {val:= .lf (.int kx) (kx.wrap (a *b))}
    | .eql=>k {val:= .lf .bool (a==b)}
    | .neq=>k {val:= .lf .bool (a !=b)}
    | .lss=>k {val:= .lf .bool (decide (a<b))}
    | .leq=>k {val:= .lf .bool (decide (a<=b))}
    | .gtr=>k {val:= .lf .bool (decide (a>b))}
    | .geq=>k {val:= .lf .bool (decide (a>=b))}
    | .quo=>if b=0 then none else k {val:= .lf (.int kx) (kx.wrap (a.tdiv b))}
    | .rem=>if b=0 then none else k {val:= .lf (.int kx) (a.tmod b)}
    | .and=>k {val:= .lf (.int kx) (Bs.iand kx a b)}
    | .or=>k {val:= .lf (.int kx) (Bs.ior kx a b)}
    | .xor=>k {val:= .lf (.int kx) (Bs.ixor kx a b)}
    | .andNot=>k {val:= .lf (.int kx) (Bs.iandn kx a b)}
    |_=>none
   else none
  | .lf .bool a, .lf .bool b=>match P.underlying xt,op with
   |some .bool, .eql=>k {val:= .lf .bool (a==b)}
   |some .bool, .neq=>k {val:= .lf .bool (!(a==b))}
   |_,_=>none
  | .lf .str a, .lf .str b=>match op with
   | .eql=>k {val:= .lf .bool (a.toList==b.toList)}
   | .neq=>k {val:= .lf .bool (!(a.toList==b.toList))}
   | .add=>if a.size+b.size<=most then k {val:= .lf .str (a++b)}else none
   |op=>match Bs.scmp op a b with
    |some c=>k {val:= .lf .bool c}
    |none=>none
  | .raw (.slice a _ _), .raw (.slice none 0 0)=>match isSl P xt,op with
   |true, .eql=>k {val:= .lf .bool a.isNone}
   |true, .neq=>k {val:= .lf .bool (!a.isNone)}
   |_,_=>none
  | .lf (.sl _) (_::_), .raw (.slice none 0 0)=>match isSl P xt,op with
   |true, .eql=>k {val:= .lf .bool false}
   |true, .neq=>k {val:= .lf .bool true}
   |_,_=>none
  | .np _ b, .raw (.pointer none)=>match lu P xt,op with
   |true, .eql=>k {val:= .lf .bool (!b)}
   |true, .neq=>k {val:= .lf .bool b}
   |_,_=>none
  | .lf .er b, .raw .nilIface=>if GA P xt=true/\AK y=true then match op with
    | .eql=>k {val:= .lf .bool (!b)}
    | .neq=>k {val:= .lf .bool b}
    |_=>none
   else none
  |_,_=>none
 | .makeInterface t _=>match Hi P t with
  |true=>k {val:= .lf .er true}
  |false=>none
 | .unOp op _ x=>match op,tev S x with
  | .not, .lf .bool b=>k {val:= .lf .bool (!b)}
  | .neg, .lf (.int ki) n=>k {val:= .lf (.int ki) (ki.wrap (0-n))}
  |_,_=>none
 | .convert s t x=>match P.underlying s,P.underlying t,tev S x with
  |some _,some (.int ki), .lf (.int _) n=>k {val:= .lf (.int ki) (ki.wrap n)}
  |some _,some .string, .lf (.int _) n=>k {val:= .lf .str (Bs.enc1 n)}
  |some .string,some (.slice e), .lf .str x=>match P.underlying e,o.dst with
   |some (.int .i32),some d=>if x.size<=most then k {val:= .vh (nm d),upd:=[(nm d, .vec e (.int .i32) (Bs.runes x))],new:=[nm d]}else none
   |some (.int .u8),_=>k {val:= .lf (.sl (.int .u8)) (Bs.ints x)}
   |_,_=>none
  |some (.slice e),some .string, .lf (.sl (.int ik)) xs=>match P.underlying e,ik with
   |some (.int .i32), .i32=>k {val:= .lf .str (Bs.text xs)}
   |some (.int .u8), .u8=>k {val:= .lf .str (Bs.bytes xs)}
   |_,_=>none
  |some (.slice e),some .string, .raw (.slice none 0 0)=>match P.underlying e with
   |some (.int .i32)=>k {val:= .lf .str Og}
   |some (.int .u8)=>k {val:= .lf .str Og}
   |_=>none
  |_,_,_=>none
 | .build t parts=>match f_ P t,places P t with
  |some z,some pl=>if z.all cp=true then match uZ V pl (z.map tvc) (parts.toList.map λ(i,x)=>(i,tev S x))with
   |some cs=>match Lf nm o.dst with
    |true=>k {val:= .agg cs}
    |false=>k {val:=mkV V ex (V.ty t) cs}
   |none=>none
   else none
  |_,_=>none
 | .buildSlice t len parts=>match bf P t,V.ty t with
  |some (te,sz,_),some (.sl e)=>if sz=tsz V.sz e then match yT V ex e 0 (parts.toList.map λ(i,x)=>(i,fnT (tev S x)))with
   |some ys=>if parts.toList.length=len/\len *sz<=16777216 then match o.dst with
    |some d=>if nm d=d then k {val:= .lf (.sl e) ys}else k {val:= .vh (nm d),upd:=[(nm d, .vec te e ys)],new:=[nm d]}
    |none=>k {val:= .lf (.sl e) ys}
    else none
   |none=>none
   else none
  |_,_=>none
 | .makeSlice t l c=>match bf P t,V.ty t,o.dst with
  |some (te,sz,bytes),some (.sl e),some d=>match f_ P te,tev S l,tev S c with
   |some z, .lf (.int _) n, .lf (.int _) m=>match cy V ex e (z.map tvc)with
    |some y=>if sz=tsz V.sz e/\bytes<=32768/\z.all cp=true then
     match qm l c with
     |true=>if 0<=m then
      if m<=4294967296 then k {val:= .vh (nm d),upd:=[(nm d, .vec te e (On m.toNat y))],new:=[nm d]}else none
      else none
     |false=>if n=0 then
      if 0<=m then
       if m<=4294967296 then k {val:= .vh (nm d),upd:=[(nm d, .vec te e [])],new:=[nm d]}else none
      else none
      else none
     else none
    |none=>none
   |_,_,_=>none
  |_,_,_=>none
 | .makeMap t hint=>match P.underlying t,o.dst with
  |some (.map kt et),some d=>match V.ty kt,V.ty et with
   |some tk,some tv=>if I7 V S hint=true then k {val:= .mp (nm d),upd:=[(nm d, .map tk tv [])],new:=[nm d]}else none
   |_,_=>none
  |_,_=>none
 | .lookup t x i c=>match P.underlying t,tev S x,tev S i with
  |some (.map kt et), .mp n, .lf tk key=>match S.own? n,lO P et with
   |some (.map tk' tv es),some d=>match ofZ V ex tv d with
    |some z=>if h:tk=tk' then
     if eK (P.underlying kt) tk'=true then match c with
      |true=>k {val:= .tup [.lf tv ((Mp.get (keq V.cells tk') (h▸key) es).getD z), .lf .bool (Mp.get (keq V.cells tk') (h▸key) es).isSome],acc:=[n]}
      |false=>k {val:= .lf tv ((Mp.get (keq V.cells tk') (h▸key) es).getD z),acc:=[n]}
     else none
     else none
    |none=>none
   |_,_=>none
  |_,_,_=>none
 | .range t x=>match P.underlying t,tev S x,o.dst with
  |some .string, .lf .str s,some d=>k {val:= .bp (nm d) 0,upd:=[(nm d, .iter s 0)],new:=[nm d]}
  |some (.map _ _), .mp m,some d=>match S.own? m with
   |some (.map tk tv es)=>k {val:= .bp (nm d) 0,acc:=[m],upd:=[(nm d, .miter m tk tv es es none),(m, .gone 0)],new:=[nm d]}
   |_=>none
  |_,_,_=>none
 | .next x true=>match tev S x with
  | .bp n 0=>match S.own? n with
   |some (.iter s p)=>if 0<=p then
    if p<s.size then k {val:= .tup [.lf .bool true, .lf (.int .i64) p, .lf (.int .i32) (Bs.dec s p)],acc:=[n],upd:=[(n, .iter s (p+Bs.wid s p))]}
    else k {val:= .tup [.lf .bool false],acc:=[n]}
    else none
   |_=>none
  |_=>none
 | .entry x=>match tev S x with
  | .bp n 0=>match S.own? n with
   |some (.miter _ tk tv _ _ (some p))=>if GC tk=true then k {val:= .tup [.lf tk p.1, .lf tv p.2],acc:=[n]}else none
   |_=>none
  |_=>none
 | .mapUpdate t x i y=>Kp V P t x i y S k
 | .insert t x i y=>Kp V P t x i y S k
 | .fieldAddr s x f=>match qM P s f with
  |some fo=>match tev S x with
   | .bp n off=>k {val:= .bp n (off+fo)}
   | .ep n sz i off=>k {val:= .ep n sz i (off+fo)}
   | .rp t x off=>if off+fo<=(aL V t x).length then k {val:= .rp t x (off+fo)}else none
   |_=>none
  |none=>none
 | .field s x f=>match qN P s f,tev S x with
  |some (off,ag,sz), .lf t y=>if t.cell=false then match td V ag sz (match P.underlying s with|some (.struct fs)=>(fs[f]?).bind λfd=>V.ty fd.type|_=>none) t y off with
   |some v=>k {val:=v}
   |none=>none
   else none
  |some (off,ag,sz), .agg cs=>match yj V ex ag sz (match P.underlying s with|some (.struct fs)=>(fs[f]?).bind λfd=>V.ty fd.type|_=>none) (cs.drop off)with
   |some v=>k {val:=v}
   |none=>none
  |_,_=>none
 | .indexAddr t x i=>match bf P t with
  |some (_,sz,_)=>match tev S x,tev S i with
   | .lf (.sl e) xs, .lf (.int _) n=>if sz=tsz V.sz e then
     if 0<=n then xs[n.toNat]?>>=λx=>k {val:= .rp e x 0}else none
    else none
   | .vh m, .lf (.int _) n=>match S.own? m with
    |some (.vec _ _ xs)=>if 0<=n/\n<xs.length then k {val:= .ep m sz n.toNat 0,acc:=[m]}else none
    |_=>none
   |_,_=>none
  |none=>none
 | .index t x i=>match P.underlying t,tev S x,tev S i with
  |some .string, .lf .str s, .lf (.int _) n=>if 0<=n then s[n.toNat]?>>=λb=>k {val:= .lf (.int .u8) b.toNat}else none
  |_,_,_=>none
 | .slice t x lo hi none=>match P.underlying t,tev S x with
  |some .string, .lf .str s=>match E6 V S lo 0,E6 V S hi s.size with
   |some l,some h=>if 0<=l/\l<=h/\h<=s.size then k {val:= .lf .str (s.extract l.toNat h.toNat)}else none
   |_,_=>none
  |some (.slice _), .lf (.sl e) xs=>match bf P t,E6 V S lo 0,E6 V S hi xs.length with
   |some (_,sz',_),some l,some h=>if sz'=tsz V.sz e then
    if 0<=l/\l<=h/\h<=xs.length then k {val:= .lf (.sl e) ((xs.take h.toNat).drop l.toNat)}else none
    else none
   |_,_,_=>none
  |_,_=>none
 | .extract x i=>match tev S x with
  | .tup vs=>match vs[i]? with
   |some v=>k {val:=v}
   |none=>none
  |_=>none
 | .makeFunc (.func f) first captured=>k {val:= .fn f (first.toList.map (tev S)) (captured.toList.map (tev S))}
 | .call c=>match c.callee with
  | .value f=>match tev S f with
   | .fn fid first captured=>call A fid (first++c.args.toList.map (tev S)++captured) S k
   | .lf .fnc fid=>call A fid (c.args.toList.map (tev S)) S k
   | .lf .fno x=>x>>=λfid=>call A fid (c.args.toList.map (tev S)) S k
   |_=>none
  | .builtin b=>xj V P nm b o.type (c.args.toList.map (tev S)) c.argTypes.toList o.dst S k
  |_=>none
 |_=>none
end
end Go.Tx
end
section
namespace Go.Tx
open Go.Awp
variable [Inhabited GMem]
structure ELe (ex:Bool) (e' e:Eff):Prop where
 val:H.le e'.val e.val
 new:e'.new=e.new
 none:∀n,gt e.upd n=none->gt e'.upd n=none
 some:∀n o,gt e.upd n=some (some o)->∃o',gt e'.upd n=some (some o')/\OLe o' o
 eq:ex=true->e'.val=e.val/\e'.upd=e.upd/\e'.acc=e.acc
theorem Sim.le{C:Ctx}{E:Env}{M:Mem}{S S':ab}{a:Act}{w:World}(h:Sim C E M S a w)
 (ht:∀t x,gt S'.tmps t=some x->∃y,gt S.tmps t=some y/\H.le y x)(ho:∀n o,S'.own? n=some o->∃o',S.own? n=some o'/\OLe o' o):Sim C E M S' a w:=
 { h with
   tmps:=λt x hx=>by
    obtain⟨y,hy,hle⟩:=ht t x hx
    obtain⟨v,hv,hr⟩:=h.tmps t y hy
    exact⟨v,hv,hle E M v hr⟩
   own:=λn o hn=>by
    obtain⟨o',ho',hle⟩:=ho n o hn
    exact hle.ok E M w n (h.own n o' ho')
   apart:=λn m o o' b hne hn hm hb hb'=>by
    obtain⟨o1,h1,l1⟩:=ho n o hn
    obtain⟨o2,h2,l2⟩:=ho m o' hm
    exact h.apart n m o1 o2 b hne h1 h2 (l1.foot E M w n b (h.own n o1 h1) hb) (l2.foot E M w m b (h.own m o2 h2) hb')
   home:=λn o b hn hb=>by
    obtain⟨o1,h1,l1⟩:=ho n o hn
    exact h.home n o1 b h1 (l1.foot E M w n b (h.own n o1 h1) hb)}
theorem H.le.junk(x:H):H.le x .junk:=λ_ _ v _=> .junk v
theorem OLe.box{o o':Option TypeId}(ho:o=none\/o=o'){l l':List H}(hl:l'.length=l.length)(h:∀(i:Nat) (x:H),l[i]?=some x->∃y,l'[i]?=some y/\H.le y x):OLe (.box o' l') (.box o l):=by
 refine⟨?_,λ_ _ _ _ _ _ h=>h⟩
 rintro E M w n ⟨b,cs,ty,h1,h2,h3,h4,h5,h6⟩
 refine⟨b,cs,ty,h1,h2,by omega,λi c x hc hx=> ?_,h5,λt ht=>by
  rcases ho with ho|ho
  ·rw[ho]at ht;cases ht
  ·rw[ho]at ht;exact h6 t ht⟩
 obtain⟨y,hy,hle⟩:=h i x hx
 exact hle E M c (h4 i c y hc hy)
section
variable {V:i7}
def fF(ω:Nat->Nat)(e:TE V.N):Eff:={val:=an V ω e.val,acc:=e.acc,upd:=e.upd.map λp=>(p.1,aX V ω p.2),new:=e.new}
def nC(S:TS V.N)(e:TE V.N):Prop:=∀m o,gt e.upd m=some o->m∈e.new\/TO.len (some o)=S.len m
theorem mE(S:TS V.N)(dst:Option Tmp)(e:TE V.N)(n:Nat):(S.app dst e).own? n=match gt e.upd n with
 |some o=>some o
 |none=>S.own? n:=by
 unfold TS.app TS.own?
 simp only[ez]
 cases gt e.upd n<;>rfl
theorem bV(S:TS V.N)(dst:Option Tmp)(e:TE V.N)(n:Nat):(S.app dst e).len n=match gt e.upd n with
 |some o=>TO.len (some o)
 |none=>S.len n:=by
 unfold TS.len
 rw[mE]
 cases gt e.upd n<;>rfl
theorem fresh_tmp{S:TS V.N}{n:Nat}(h:S.fresh n=true){t:Nat}{x:TV V.N}(hx:gt S.tmps t=some x):TV.has n x=false:=by
 simp[TS.fresh]at h;exact h.1.2 _ _ (bH hx)
theorem fresh_own{S:TS V.N}{n:Nat}(h:S.fresh n=true){m:Nat}{o:TO V.N}(ho:S.own? m=some o):TO.has n o=false:=by
 simp[TS.fresh]at h;exact h.2 _ _ (bH ho)
theorem C4{S:TS V.N}{dst:Option Tmp}{te:TE V.N}(hg:nC S te)(hn:∀d∈te.new,S.fresh d=true):
 (∀t v,gt S.tmps t=some v->an V (S.app dst te).len v=an V S.len v)/\(∀n o,S.own? n=some o->aX V (S.app dst te).len o=aX V S.len o):=by
 have keep:∀n,n∉te.new->(S.app dst te).len n=S.len n:=by
  intro n hnn
  rw[bV]
  cases hu:gt te.upd n with
  |none=>rfl
  |some o=>exact(hg n o hu).resolve_left hnn
 refine⟨λt v hv=>iE v λn hnv=>keep n λhd=> ?_,λn o ho=>pL o λm hm=>keep m λhd=> ?_⟩
 ·rw[fresh_tmp (hn n hd) hv]at hnv;cases hnv
 ·rw[fresh_own (hn m hd) ho]at hm;cases hm
theorem qL{S:TS V.N}{dst:Option Tmp}{te:TE V.N}(hg:nC S te)(hn:∀d∈te.new,S.fresh d=true):
 (∀t,gt (az V (S.app dst te)).tmps t=gt ((az V S).app dst (fF (S.app dst te).len te)).tmps t)/\
 (∀n,(az V (S.app dst te)).own? n=((az V S).app dst (fF (S.app dst te).len te)).own? n):=by
 obtain⟨k1,k2⟩:=C4 (dst:=dst) hg hn
 refine⟨λt=> ?_,λn=> ?_⟩
 ·rw[bP]
  have:gt (S.app dst te).tmps t=if dst=some t then some te.val else gt S.tmps t:=by
   unfold TS.app Km
   cases dst with
   |none=>simp
   |some d=>simp only[af,Ny]
  rw[this]
  simp only[ab.app,mm]
  cases dst with
  |none=>
   simp only[reduceCtorEq,Q3,bP]
   cases hq:gt S.tmps t with
   |none=>rfl
   |some v=>simp only[N6];rw[k1 t v hq]
  |some d=>
   simp only[af,Ny,bP]
   by_cases hd:d=t
   ·rw[Q6 hd,Q6 hd];rfl
   ·rw[Q5 hd,Q5 hd]
    cases hq:gt S.tmps t with
    |none=>rfl
    |some v=>simp only[N6];rw[k1 t v hq]
 ·rw[aG,mE]
  simp only[ab.own?,ab.app,ez]
  have hu:gt (fF (S.app dst te).len te).upd n=(gt te.upd n).map (aX V (S.app dst te).len):=by simp only[fF,fK]
  rw[hu]
  cases hq:gt te.upd n with
  |some o=>rfl
  |none=>
   simp only[PU]
   have:=aG S n
   unfold ab.own? at this
   rw[this]
   cases ho:S.own? n with
   |none=>rfl
   |some o=>simp only[O_];rw[k2 n o ho]
theorem Sim.tapp{C:Ctx}{E:Env}{M:Mem}{S:TS V.N}{dst:Option Tmp}{te:TE V.N}{e':Eff}{a:Act}{w:World}{ex:Bool}(hg:nC S te)(hn:∀d∈te.new,S.fresh d=true)
 (hle:ELe ex e' (fF (S.app dst te).len te))(hs:Sim C E M ((az V S).app dst e') a w):Sim C E M (az V (S.app dst te)) a w:=by
 obtain⟨h1,h2⟩:=qL (dst:=dst) hg hn
 refine Sim.le hs (λt x hx=> ?_) (λn o ho=> ?_)
 ·rw[h1]at hx
  simp only[ab.app,mm]at hx⊢
  cases dst with
  |none=>exact⟨x,hx,H.le.refl _⟩
  |some d=>
   simp only[af]at hx⊢
   by_cases hd:d=t
   ·rw[Q6 hd]at hx⊢;simp at hx;subst hx;exact⟨_,rfl,hle.val⟩
   ·rw[Q5 hd]at hx⊢;exact⟨x,hx,H.le.refl _⟩
 ·rw[h2]at ho
  simp only[ab.own?,ab.app,ez]at ho⊢
  cases hu:gt (fF (S.app dst te).len te).upd n with
  |none=>
   rw[hu]at ho
   rw[hle.none n hu]
   exact⟨o,ho,OLe.refl _⟩
  |some oo=>
   rw[hu]at ho
   simp at ho
   subst ho
   obtain⟨o',k1,k2⟩:=hle.some n o hu
   exact⟨o',by rw[k1];rfl,k2⟩
theorem ak(S:TS V.N)(x:Operand):ev (az V S) x=an V S.len (tev S x):=by
 cases x with
 |tmp t=>exact Dj S t
 |const v=>cases v<;>simp[ev,tev,tvc,an,aK,bw]
 |global g=>simp[ev,tev,an,bw]
 |func f=>simp[ev,tev,an,encL]
theorem jD(ω:Nat->Nat)(i:V.ι)(x:V.N i):an V ω (.lf (.st i) x)= .d (.agg (V.enc i x)):=by simp only[an,aK]
theorem bX:∀(t:Ty V.ι) (x:den V.N t),aT V.sz V.enc t x=(aL V t x).map λl=>aK V.sz V.enc l.t l.x
 | .st i,x=>by simp only[aT,aL];exact V.enc_cells i x
 | .ar n e,xs=>by
  simp only[aT,aL,uE,Qd,N0]
  congr 2
  exact NZ λx _=>bX e x
 | .int _,x=>rfl
 | .bool,x=>rfl
 | .str,x=>rfl
 | .sl e,x=>rfl
 | .mp k v,x=>rfl
 | .er,x=>rfl
 | .op e,x=>rfl
 | .fnc,x=>rfl
 | .fno,x=>rfl
theorem dh:∀l:List D,DD.toL (l.map .d)=some l
 |[]=>by simp[DD.toL]
 |x::r=>by simp[DD.toL,DD.toD,dh r]
theorem Ie(m:Nat)(x:D):DD.toL (On m (.d x))=some (On m x):=by
 have:=dh (On m x)
 rwa [PE]at this
theorem xl:∀{l:List DD} {r:List D} (m:Nat),DD.toL l=some r->DD.toL (l.take m)=some (r.take m)
 |_,_,0,_=>by simp[DD.toL]
 |[],r,m+1,h=>by simp[DD.toL]at h;subst h;simp[DD.toL]
 |x::l,r,m+1,h=>by
  simp only[DD.toL]at h
  split at h
  ·rename_i y z hy hz
   cases h
   simp only[QQ,DD.toL,hy,xl m hz]
  ·cases h
theorem nu:∀(t:Ty V.ι) (x:den V.N t),DD.toL (bR V.sz V.enc V.tid V.encd t x)=some (aT V.sz V.enc t x)
 | .st i,x=>by simp only[bR,aT];exact V.encd_toL i x
 | .sl e,xs=>by
  have h:DD.toR (xs.map λx=>bR V.sz V.enc V.tid V.encd e x)=some (xs.map λx=>aT V.sz V.enc e x):=by
   induction xs with
   |nil=>simp[DD.toR]
   |cons x r ih=>simp[DD.toR,nu e x,ih]
  simp[bR,aT,DD.toL,DD.toD,h]
 | .int k,x=>by simp only[bR];exact dh _
 | .bool,x=>by simp only[bR];exact dh _
 | .str,x=>by simp only[bR];exact dh _
 | .mp k v,x=>by simp only[bR];exact dh _
 | .er,x=>by simp only[bR];exact dh _
 | .op e,x=>by simp only[bR];exact dh _
 | .fnc,x=>by simp only[bR];exact dh _
 | .fno,x=>by simp only[bR];exact dh _
 | .ar n e,xs=>by
  have h:DD.toL (xs.map λx=>bR V.sz V.enc V.tid V.encd e x).flatten=some (xs.map λx=>aT V.sz V.enc e x).flatten:=by
   induction xs with
   |nil=>simp[DD.toL]
   |cons x r ih=>simp only[NF,Od];exact DD.toL_app (nu e x) ih
  simp only[bR,aT,arL]
  exact xl _ (DD.toL_app h (Ie _ _))
theorem rM{e:Ty V.ι}:∀ys:List (den V.N e),DD.toR (ys.map λx=>bR V.sz V.enc V.tid V.encd e x)=some (ys.map λx=>aT V.sz V.enc e x)
 |[]=>by simp[DD.toR]
 |y::r=>by
  have:=rM r
  simp only[NF,DD.toR,nu]at this⊢
  rw[this]
theorem eW(t:Ty V.ι)(x:den V.N t):(aL V t x).length=tsz V.sz t:=by
 cases t with
 |st i=>exact V.len_cells i x
 |ar n e=>exact FV _ _ _
 |_=>rfl
theorem bG(t:Ty V.ι)(x:den V.N t):(aT V.sz V.enc t x).length=tsz V.sz t:=by
 rw[bX,Nz,eW]
theorem FW{α:Type}{m:Nat}{pad y:α}{l:List α}(h:y∈arL m pad l):y∈l\/y=pad:=by
 unfold arL at h
 rcases NX.1 (Ou h)with h|h
 ·exact .inl h
 ·exact .inr (Qj.1 h).2
theorem jS:∀(t:Ty V.ι) (x:den V.N t),∀l∈aL V t x,l.t.cell=true
 | .st i,x=>V.one_cells i x
 | .ar n e,xs=>λl hl=>by
  rcases FW hl with h|h
  ·obtain⟨c,h1,h2⟩:=List.mem_flatten.1 h
   obtain⟨x,_,rfl⟩:=N3.1 h1
   exact jS e x l h2
  ·subst h;rfl
 | .int _,x=>by simp[aL,Ty.cell]
 | .bool,x=>by simp[aL,Ty.cell]
 | .str,x=>by simp[aL,Ty.cell]
 | .sl e,x=>by simp[aL,Ty.cell]
 | .mp k v,x=>by simp[aL,Ty.cell]
 | .er,x=>by simp[aL,Ty.cell]
 | .op e,x=>by simp[aL,Ty.cell]
 | .fnc,x=>by simp[aL,Ty.cell]
 | .fno,x=>by simp[aL,Ty.cell]
theorem nr{l:cg V.N}(h:l.t.cell=true):(H.d (aK V.sz V.enc l.t l.x)).one=true:=by
 obtain⟨t,x⟩:=l
 cases t<;>first|(simp[Ty.cell]at h;done)|rfl|exact Hn _|exact Dm _
theorem qP{ω:Nat->Nat}(v:TV V.N):an V ω (fnT v)=fnD (an V ω v):=by
 unfold fnT
 split
 ·simp[an,encL,fnD,aK]
 ·rename_i hno
  cases v with
  |fn f a b=>
   simp only[an]
   unfold fnD
   split
   ·rename_i h
    cases a with
    |nil=>cases b with
     |nil=>exact(hno f rfl).elim
     |cons _ _=>simp[encL]at h
    |cons _ _=>simp[encL]at h
   ·rfl
  |agg cs=>simp only[an,bA];split<;>rfl
  |raw v=>cases v<;>rfl
  |_=>rfl
theorem yf(x:Option Nat):(H.d (Ip x)).cells=some [H.d (Ip x)]:=by cases x<;>rfl
theorem BK(x:Option (List D)):(H.d (opD x)).cells=some [H.d (opD x)]:=by cases x<;>rfl
theorem cd{ω:Nat->Nat}{v:TV V.N}{cs:List (TV V.N)}(h:TV.cells V v=some cs):(an V ω v).cells=some (encL V ω cs):=by
 cases v with
 |lf t x=>
  simp only[TV.cells,Ny]at h
  subst h
  have e:encL V ω ((aL V t x).map λl=>TV.lf l.t l.x)=(aT V.sz V.enc t x).map H.d:=by
   rw[bX,encL_map,N0,N0]
   exact NZ λl _=>by simp[an]
  rw[e]
  cases t with
  |op e=>simp only[an,aK,aT,BK,NF,N_]
  |fno=>simp only[an,aK,aT,yf,NF,N_]
  |_=>simp[an,aK,aT,H.cells,cp]
 |raw v=>
  simp only[TV.cells]at h
  split at h
  ·rename_i hc
   simp at h;subst h
   cases v<;>first|(simp[cp]at hc;done)|simp[an,encL,bw,H.cells,cp]
  ·cases h
 |agg cs'=>
  simp only[TV.cells,Ny]at h
  subst h
  simp only[an,bA]
  split
  ·rename_i ds hds
   simp only[H.cells]
   congr 1
   obtain⟨h1,h2⟩:=eN hds
   apply Ot
   intro i
   rw[h2,NB]
  ·rfl
 |tup vs=>simp[TV.cells]at h
 |junk=>simp[TV.cells]at h
 |rp t x off=>simp[TV.cells]at h;subst h;simp[an,encL,H.cells]
 |bp n off=>simp[TV.cells]at h;subst h;simp[an,encL,H.cells]
 |vh n=>simp[TV.cells]at h;subst h;simp[an,encL,H.cells]
 |ep n s i off=>simp[TV.cells]at h;subst h;simp[an,encL,H.cells]
 |sv n s i off=>simp[TV.cells]at h;subst h;simp[an,encL,H.cells]
 |mp n=>simp[TV.cells]at h;subst h;simp[an,encL,H.cells]
 |np n b=>simp[TV.cells]at h;subst h;simp[an,encL,H.cells]
 |sd n=>simp[TV.cells]at h;subst h;simp[an,encL,H.cells]
 |fn f a b=>simp[TV.cells]at h;subst h;simp[an,encL,H.cells]
 |ai n s i off=>simp[TV.cells]at h;subst h;simp[an,encL,H.cells]
theorem BJ{ω:Nat->Nat}{v:TV V.N}(h:v.one=true):(an V ω v).one=true:=by
 cases v with
 |lf t x=>simp only[TV.one]at h;simp only[an];exact nr (l:=⟨t,x⟩) h
 |raw v=>
  simp only[TV.one,NH]at h
  cases v<;>first|(simp[cp]at h;done)|(simp only[an,bw,H.one,D.one];exact h.2)
 |agg cs=>simp[TV.one]at h
 |tup cs=>simp[TV.one]at h
 |junk=>simp[TV.one]at h
 |_=>simp[an,H.one,D.one]
theorem dN{ω:Nat->Nat}{l:List (TV V.N)}(h:l.all TV.one=true):(encL V ω l).all H.one=true:=by
 rw[encL_map,OZ]
 rw[NM]at h⊢
 exactλx hx=>BJ (h x hx)
theorem wO(t:Ty V.ι)(l:cg V.N):aK V.sz V.enc (K_ V t l).t (K_ V t l).x=aK V.sz V.enc l.t l.x:=by
 obtain⟨t',x⟩:=l
 cases t'<;>try rfl
 cases t<;>rfl
theorem ce{ω:Nat->Nat}{ex:Bool}:∀{ts:List (Ty V.ι)} {cs:List (TV V.N)} {ls:List (cg V.N)},cu V ex ts cs=some ls->
 ∃ds,encL V ω cs=ds.map H.d/\D.Les ds (ls.map λl=>aK V.sz V.enc l.t l.x)/\(ex=true->ds=ls.map λl=>aK V.sz V.enc l.t l.x)
 |[],[],ls,h=>by simp[cu]at h;subst h;exact⟨[],rfl, .nil,λ_=>rfl⟩
 |[],_::_,ls,h=>by simp[cu]at h
 |_::_,[],ls,h=>by simp[cu]at h
 |t::ts,x::xs,ls,h=>by
  simp only[cu]at h
  split at h
  ·rename_i l ls' h1 h2
   simp at h;subst h
   obtain⟨ds,e1,e2,e3⟩:=ce (ω:=ω) h2
   cases x with
   |lf t' y=>
    simp only[lV,Ny]at h1;subst h1
    exact⟨aK V.sz V.enc t' y::ds,by simp[encL,an,e1], .cons ((wO (V:=V) t ⟨t',y⟩)▸D.le.refl _) e2,λhx=>by simp[e3 hx,wO]⟩
   |raw v=>
    simp only[lV]at h1
    split at h1
    ·simp at h1;subst h1
     exact⟨.v (.pointer none)::ds,by simp[encL,an,bw,e1], .cons (D.le.refl _) e2,λhx=>by rw[e3 hx];rfl⟩
    ·simp at h1;subst h1
     exact⟨.v .nilFunc::ds,by simp[encL,an,bw,e1], .cons (D.le.refl _) e2,λhx=>by rw[e3 hx];rfl⟩
    ·split at h1
     ·cases h1
     ·simp at h1;subst h1
      exact⟨.v (.slice none 0 0)::ds,by simp[encL,an,bw,e1], .cons (D.le.nil _) e2,λhx=>by simp at hx⟩
    ·split at h1
     ·cases h1
     ·simp at h1;subst h1
      exact⟨.v .nilIface::ds,by simp[encL,an,bw,e1], .cons D.le.ern e2,λhx=>by simp at hx⟩
    ·cases h1
   |_=>simp[lV]at h1
  ·cases h
theorem cY(ds:List D):fC (ds.map H.d)=some ds:=by
 induction ds with
 |nil=>rfl
 |cons x r ih=>simp[fC,ih]
theorem fQ{ω:Nat->Nat}{ex:Bool}{ot:Option (Ty V.ι)}{cs:List (TV V.N)}:H.le (bA (encL V ω cs)) (an V ω (mkV V ex ot cs))/\(ex=true->bA (encL V ω cs)=an V ω (mkV V ex ot cs)):=by
 unfold mkV
 have dflt:H.le (bA (encL V ω cs)) (an V ω (.agg cs))/\(ex=true->bA (encL V ω cs)=an V ω (.agg cs)):=by
  rw[an];exact⟨H.le.refl _,λ_=>rfl⟩
 split
 ·rename_i i
  split
  ·rename_i ls hls
   split
   ·rename_i x hx
    obtain⟨ds,e1,e2,e3⟩:=ce (ω:=ω) hls
    have hc:=V.of_cells i ls x hx
    have he:an V ω (.lf (.st i) x)= .d (.agg (ls.map λl=>aK V.sz V.enc l.t l.x)):=by
     rw[jD,V.enc_cells,hc]
    rw[e1,bA,cY,he]
    exact⟨H.le.d (D.le.agg e2),λh=>by rw[e3 h]⟩
   ·exact dflt
  ·exact dflt
 ·exact dflt
theorem jI{ω:Nat->Nat}{ex ag:Bool}{sz:Nat}{ot:Option (Ty V.ι)}{cells:List (TV V.N)}{v:TV V.N}(h:yj V ex ag sz ot cells=some v):
 ∃x,eR ag sz (encL V ω cells)=some x/\H.le x (an V ω v)/\(ex=true->x=an V ω v):=by
 cases ag with
 |true=>
  simp only[yj]at h
  split at h
  ·rename_i hle
   simp at h;subst h
   refine⟨bA (encL V ω (cells.take sz)),?_,fQ⟩
   simp only[eR,encL_map,Nz]
   rw[Q6 hle,OE]
  ·cases h
 |false=>
  simp only[yj]at h
  cases cells with
  |nil=>simp at h
  |cons c r=>simp at h;subst h;exact⟨an V ω c,by simp[eR,encL],H.le.refl _,λ_=>rfl⟩
theorem ff{ω:Nat->Nat}{ag:Bool}{sz:Nat}{ot:Option (Ty V.ι)}{t:Ty V.ι}{x:den V.N t}{off:Nat}{v:TV V.N}(h:td V ag sz ot t x off=some v):
 ∃d,da ag sz ((aT V.sz V.enc t x).drop off)=some d/\an V ω v= .d d:=by
 cases ag with
 |true=>
  simp only[td]at h
  split at h
  ·rename_i hc
   obtain⟨h1,h2,h3,h4⟩:=hc
   simp at h;subst h
   subst h1;subst h4
   have hl:=bG t x
   refine⟨.agg (aT V.sz V.enc t x),?_,?_⟩
   ·simp only[da,N9]
    rw[Q6 (by omega),Oh (by omega)]
   ·cases t<;>first|(simp[Ty.cell]at h3;done)|simp[an,aK,aT]
  ·split at h
   ·split at h
    ·rename_i hle
     split at h
     ·rename_i y hy
      simp at h;subst h
      have hc:=V.of_cells _ _ _ hy
      refine⟨.agg (((aT V.sz V.enc t x).drop off).take sz),?_,?_⟩
      ·simp only[da]
       rw[Q6 (by rw[Oe,bG];rw[eW]at hle;omega)]
      ·rw[jD,V.enc_cells,hc,bX,OE,OG]
     ·cases h
    ·cases h
   ·cases h
 |false=>
  simp only[td]at h
  split at h
  ·rename_i l hl
   simp at h;subst h
   refine⟨aK V.sz V.enc l.t l.x,?_,by simp[an]⟩
   simp only[da,bX]
   rw[<-OG,List.head?_map,hl];rfl
  ·cases h
theorem sJ(ω:Nat->Nat)(n:Nat)(l:List (TV V.N)):encL V ω (l.take n)=(encL V ω l).take n:=by simp[encL_map,OE]
theorem gX(ω:Nat->Nat)(n:Nat)(l:List (TV V.N)):encL V ω (l.drop n)=(encL V ω l).drop n:=by simp[encL_map,OG]
theorem ft(ω:Nat->Nat)(l m:List (TV V.N)):encL V ω (l++m)=encL V ω l++encL V ω m:=by simp[encL_map]
theorem aJ(ω:Nat->Nat)(l:List (TV V.N)):(encL V ω l).length=l.length:=by simp[encL_map]
theorem gh{ω:Nat->Nat}{pl:List (Nat×Nat)}:∀{parts:List (Nat×TV V.N)} {cells cs:List (TV V.N)},uZ V pl cells parts=some cs->
 mh pl (encL V ω cells) (parts.map λp=>(p.1,an V ω p.2))=some (encL V ω cs)
 |[],cells,cs,h=>by simp[uZ]at h;subst h;rfl
 |(i,x)::r,cells,cs,h=>by
  simp only[uZ]at h
  split at h
  ·rename_i off sz cc h1 h2
   split at h
   ·rename_i hc
    have ih:=gh (ω:=ω) h
    simp only[NF,mh,h1,cd (ω:=ω) h2,aJ]
    rw[Q6 hc]
    simp only[dX,aJ]
    rw[ft,ft,sJ,gX]at ih
    exact ih
   ·cases h
  ·cases h
theorem D.Les.app{a b c d:List D}(h:D.Les a b)(k:D.Les c d):D.Les (a++c) (b++d):=by
 induction h with
 |nil=>exact k
 |cons h _ ih=>exact .cons h ih
theorem C5{α:Type}{m:Nat}{pad:α}{l:List α}(h:l.length=m):arL m pad l=l:=by
 unfold arL
 rw[O2 (by omega),Oh (by omega)]
theorem sO{α:Type}{sz:Nat}:∀{l:List (List α)},(∀r∈l,r.length=sz)->l.flatten.length=l.length *sz
 |[],_=>by simp
 |r::l,h=>by
  rw[Od,NT,h r NG,sO λq hq=>h q (NC _ hq),Oj,N8,Nat.add_comm]
theorem ub{α β:Type}{f:List α->Option β}{sz:Nat}:∀{n:Nat} {cs:List α} {r:List β},ua f sz n cs=some r->r.length=n
 |0,cs,r,h=>by simp[ua]at h;subst h;rfl
 |n+1,cs,r,h=>by
  simp only[ua]at h
  split at h
  ·rename_i x r' h1 h2
   cases h
   simp[ub h2]
  ·cases h
theorem dz{ω:Nat->Nat}{ex:Bool}:∀{e:Ty V.ι} {cs:List (TV V.N)} {y:den V.N e} (_:cy V ex e cs=some y),
 ∃ds,encL V ω cs=ds.map H.d/\D.Les ds (aT V.sz V.enc e y)/\(ex=true->ds=aT V.sz V.enc e y):=by
 have single:∀(t:Ty V.ι) (y:den V.N t) (cs:List (TV V.N)),(∃x l,cs=[x]/\lV V ex t x=some l/\∃ht:l.t=t,ht▸l.x=y)->aL V t y=[⟨t,y⟩]->∃ds,encL V ω cs=ds.map H.d/\D.Les ds (aT V.sz V.enc t y)/\(ex=true->ds=aT V.sz V.enc t y):=by
  rintro t y cs ⟨x,⟨lt,lx⟩,rfl,hl,ht,rfl⟩ hrc
  simp only at ht
  subst ht
  rw[bX,hrc]
  have hls:cu V ex [lt] [x]=some [⟨lt,lx⟩]:=by simp[cu,hl]
  exact ce (ω:=ω) hls
 intro e
 induction e with
 |fno=>
  intro cs y h
  refine single .fno y cs ?_ rfl
  match cs,h with
  |[],h=>simp[cy]at h
  |_::_::_,h=>simp[cy]at h
  |[x],h=>
   simp only[cy]at h
   split at h
   ·rename_i l hl
    split at h
    ·rename_i ht;simp only[Ny]at h;exact⟨x,l,rfl,hl,ht,h⟩
    ·cases h
   ·cases h
 |ar n e ih=>
  intro cs y h
  simp only[cy]at h
  split at h
  ·rename_i hlen
   have go:∀(n:Nat) (cs:List (TV V.N)) (ys:List (den V.N e)),cs.length=n *tsz V.sz e->ua (cy V ex e) (tsz V.sz e) n cs=some ys->
    ∃ds,encL V ω cs=ds.map H.d/\D.Les ds (ys.map λx=>aT V.sz V.enc e x).flatten/\(ex=true->ds=(ys.map λx=>aT V.sz V.enc e x).flatten):=by
    intro n
    induction n with
    |zero=>
     intro cs ys hl h
     simp[ua]at h
     subst h
     rw[Pi]at hl
     rw[NV hl]
     exact⟨[],rfl, .nil,λ_=>rfl⟩
    |succ n ihn=>
     intro cs ys hl h
     simp only[ua]at h
     split at h
     ·rename_i x r h1 h2
      cases h
      rw[N8]at hl
      obtain⟨d1,a1,a2,a3⟩:=ih h1
      obtain⟨d2,b1,b2,b3⟩:=ihn _ _ (by rw[Oe];omega) h2
      refine⟨d1++d2,?_,by simpa using D.Les.app a2 b2,λhx=>by rw[a3 hx,b3 hx];rfl⟩
      rw[Of,<-a1,<-b1,<-ft,OV]
     ·cases h
   obtain⟨ds,a1,a2,a3⟩:=go n cs y hlen h
   have hl:(y.map λx=>aT V.sz V.enc e x).flatten.length=n *tsz V.sz e:=by
    rw[sO (sz:=tsz V.sz e) (λr hr=>by obtain⟨x,_,rfl⟩:=N3.1 hr;exact bG e x),Nz,ub h]
   have he:aT V.sz V.enc (.ar n e) y=(y.map λx=>aT V.sz V.enc e x).flatten:=C5 hl
   exact⟨ds,a1,by rw[he];exact a2,λhx=>by rw[he];exact a3 hx⟩
  ·cases h
 |st i=>
  intro cs y h
  simp only[cy]at h
  split at h
  ·rename_i ls hls
   obtain⟨ds,e1,e2,e3⟩:=ce (ω:=ω) hls
   have hc:=V.of_cells i ls y h
   refine⟨ds,e1,?_,?_⟩<;>simp only[aT]<;>rw[V.enc_cells,hc]
   ·exact e2
   ·exact e3
  ·cases h
 |int k=>
  intro cs y h
  refine single (.int k) y cs ?_ rfl
  match cs,h with
  |[],h=>simp[cy]at h
  |_::_::_,h=>simp[cy]at h
  |[x],h=>
   simp only[cy]at h
   split at h
   ·rename_i l hl
    split at h
    ·rename_i ht;simp only[Ny]at h;exact⟨x,l,rfl,hl,ht,h⟩
    ·cases h
   ·cases h
 |bool=>
  intro cs y h
  refine single .bool y cs ?_ rfl
  match cs,h with
  |[],h=>simp[cy]at h
  |_::_::_,h=>simp[cy]at h
  |[x],h=>
   simp only[cy]at h
   split at h
   ·rename_i l hl
    split at h
    ·rename_i ht;simp only[Ny]at h;exact⟨x,l,rfl,hl,ht,h⟩
    ·cases h
   ·cases h
 |op e _=>
  intro cs y h
  refine single (.op e) y cs ?_ rfl
  match cs,h with
  |[],h=>simp[cy]at h
  |_::_::_,h=>simp[cy]at h
  |[x],h=>
   simp only[cy]at h
   split at h
   ·rename_i l hl
    split at h
    ·rename_i ht;simp only[Ny]at h;exact⟨x,l,rfl,hl,ht,h⟩
    ·cases h
   ·cases h
 |er=>
  intro cs y h
  refine single .er y cs ?_ rfl
  match cs,h with
  |[],h=>simp[cy]at h
  |_::_::_,h=>simp[cy]at h
  |[x],h=>
   simp only[cy]at h
   split at h
   ·rename_i l hl
    split at h
    ·rename_i ht;simp only[Ny]at h;exact⟨x,l,rfl,hl,ht,h⟩
    ·cases h
   ·cases h
 |fnc=>
  intro cs y h
  refine single .fnc y cs ?_ rfl
  match cs,h with
  |[],h=>simp[cy]at h
  |_::_::_,h=>simp[cy]at h
  |[x],h=>
   simp only[cy]at h
   split at h
   ·rename_i l hl
    split at h
    ·rename_i ht;simp only[Ny]at h;exact⟨x,l,rfl,hl,ht,h⟩
    ·cases h
   ·cases h
 |str=>
  intro cs y h
  refine single .str y cs ?_ rfl
  match cs,h with
  |[],h=>simp[cy]at h
  |_::_::_,h=>simp[cy]at h
  |[x],h=>
   simp only[cy]at h
   split at h
   ·rename_i l hl
    split at h
    ·rename_i ht;simp only[Ny]at h;exact⟨x,l,rfl,hl,ht,h⟩
    ·cases h
   ·cases h
 |sl e _=>
  intro cs y h
  refine single (.sl e) y cs ?_ rfl
  match cs,h with
  |[],h=>simp[cy]at h
  |_::_::_,h=>simp[cy]at h
  |[x],h=>
   simp only[cy]at h
   split at h
   ·rename_i l hl
    split at h
    ·rename_i ht;simp only[Ny]at h;exact⟨x,l,rfl,hl,ht,h⟩
    ·cases h
   ·cases h
 |mp tk tv _ _=>
  intro cs y h
  refine single (.mp tk tv) y cs ?_ rfl
  match cs,h with
  |[],h=>simp[cy]at h
  |_::_::_,h=>simp[cy]at h
  |[x],h=>
   simp only[cy]at h
   split at h
   ·rename_i l hl
    split at h
    ·rename_i ht;simp only[Ny]at h;exact⟨x,l,rfl,hl,ht,h⟩
    ·cases h
   ·cases h
end
end Go.Tx
end
section
namespace Go.Tx
open Go.Awp
variable [Inhabited GMem]
section
variable {V:i7}
def ay(P:Program)(call:bm V):Prop:=∀(A:Type) (fid:Nat) (args:List (TV V.N)) (S:TS V.N) (dst:Option Tmp) (k:TE V.N->Option A) (r:A),call A fid args S k=some r->
 ∃te,k te=some r/\nC S te/\uB P fid (encL V S.len args) (az V S).own? λe'=>ELe true e' (fF (S.app dst te).len te)
def OpS(ex:Bool)(P:Program)(nm:Nat->Nat){A:Type}(o:Oper)(S:TS V.N)(k:TE V.N->Option A)(r:A):Prop:=
 ∃te,k te=some r/\nC S te/\aS P nm o (ev (az V S)) (az V S).own? λe'=>ELe ex e' (fF (S.app o.dst te).len te)
theorem eQ(S:TS V.N)(v:TV V.N)(l:List Nat):nC S {val:=v,acc:=l}:=λm o h=>by simp[gt]at h
theorem uD(S:TS V.N)(dst:Option Tmp)(v:TV V.N)(l:List Nat):(S.app dst {val:=v,acc:=l}).len=S.len:=by
 funext n;rw[bV];rfl
theorem Aj{ex:Bool}{S:TS V.N}{dst:Option Tmp}{v:TV V.N}{x:H}{l:List Nat}(h:H.le x (an V S.len v))(hx:ex=true->x=an V S.len v):ELe ex {val:=x,acc:=l} (fF (S.app dst {val:=v,acc:=l}).len {val:=v,acc:=l}):=by
 rw[uD]
 exact{val:=h,new:=rfl,none:=λn _=>rfl,some:=λn o h=>by simp[fF,gt]at h,eq:=λh=>⟨hx h,rfl,rfl⟩}
theorem lT{ex:Bool}{S:TS V.N}{dst:Option Tmp}{v:TV V.N}{x:H}{l:List Nat}(h:x=an V S.len v):ELe ex {val:=x,acc:=l} (fF (S.app dst {val:=v,acc:=l}).len {val:=v,acc:=l}):=Aj (h▸H.le.refl _) λ_=>h
theorem bq{ex:Bool}{ω:Nat->Nat}{te:TE V.N}{e':Eff}(hv:e'.val=an V ω te.val)(hn:e'.new=te.new)(hu:e'.upd=te.upd.map λp=>(p.1,aX V ω p.2))(ha:e'.acc=te.acc):ELe ex e' (fF ω te)where
 val:=by rw[hv];exact H.le.refl _
 new:=hn
 none:=λn h=>by rw[hu];exact h
 some:=λn o h=>⟨o,by rw[hu];exact h,OLe.refl o⟩
 eq:=λ_=>⟨hv,hu,ha⟩
theorem wn(ω:Nat->Nat)(x:Value):an V ω (tvc x)=bw x:=by
 cases x<;>simp[tvc,an,aK,bw]
theorem eL(S:TS V.N)(l:List Operand):l.map (ev (az V S))=encL V S.len (l.map (tev S)):=by
 rw[encL_map,N0]
 exact NZ λx _=>ak S x
theorem A1(S:TS V.N)(l:List (Nat×Operand)):l.map (λp=>(p.1,ev (az V S) p.2))=(l.map λp=>(p.1,tev S p.2)).map λp=>(p.1,an V S.len p.2):=by
 rw[N0]
 exact NZ λx _=>by simp[ak]
theorem fG{S:TS V.N}{lo:Option Operand}{d n:Int}(h:E6 V S lo d=some n):bnd (ev (az V S)) lo d=some n:=by
 cases lo with
 |none=>exact h
 |some x=>
  simp only[E6]at h
  simp only[bnd,ak]
  split at h
  ·rename_i hx;rw[hx];simpa[an,aK]using h
  ·cases h
theorem cf{S:TS V.N}{n:Nat}{te:TypeId}{e:Ty V.ι}{xs:List (den V.N e)}(h:S.own? n=some (.vec te e xs)):
 (az V S).own? n=some (.vec te (tsz V.sz e) (xs.map λx=>aT V.sz V.enc e x)):=by rw[aG,h];rfl
theorem jq(ω:Nat->Nat)(i:V.ι)(x:V.N i):encL V ω ((V.cells i x).map λl=>(.lf l.t l.x:TV V.N))=(V.enc i x).map .d:=by
 rw[V.enc_cells,encL_map,N0,N0]
 exact NZ λl _=>by simp[an]
theorem gB{S:TS V.N}{n:Nat}{cells:List (TV V.N)}(h:C8 V (S.own? n)=some cells):(az V S).own? n=some (.box (Ky V (S.own? n)) (encL V S.len cells)):=by
 rw[aG]
 cases ho:S.own? n with
 |none=>rw[ho]at h;cases h
 |some o=>
  rw[ho]at h
  cases o with
  |box oty cs=>simp only[C8,Ny]at h;subst h;rfl
  |bst i x=>simp only[C8,Ny]at h;subst h;simp only[O_,aX,jq];rfl
  |vec te e xs=>cases h
  |dvec te e xs=>cases h
  |pvec te e xs=>cases h
  |map tk tv es=>cases h
  |iter s p=>cases h
  |miter m tk tv es rest cur=>cases h
  |que te e xs=>cases h
  |maps te k v es al=>cases h
  |bar n e xs=>cases h
  |alias m=>cases h
  |gone l=>cases h
theorem wx{S:TS V.N}{n:Nat}{cells:List (TV V.N)}(h:C8 V (S.own? n)=some cells):S.len n=0:=by
 unfold TS.len
 cases ho:S.own? n with
 |none=>rfl
 |some o=>
  rw[ho]at h
  cases o<;>first|rfl|cases h
theorem zM{ω:Nat->Nat}{v:TV V.N}{cs:List (TV V.N)}(h:TV.cells V v=some cs):aX V ω (zL V v cs)=some (.box none (encL V ω cs)):=by
 unfold zL
 split
 ·rename_i i x
  simp only[TV.cells,aL,Ny]at h
  subst h
  simp only[aX,jq]
 ·rfl
theorem t7{ω:Nat->Nat}{o:Option TypeId}{v:TV V.N}{cs:List (TV V.N)}(h:TV.cells V v=some cs):aX V ω (D7 V o v cs)=some (.box o (encL V ω cs)):=by
 cases o with
 |none=>exact zM h
 |some t=>rfl
theorem zN{v:TV V.N}{cs:List (TV V.N)}:TO.len (some (zL V v cs))=0:=by
 unfold zL
 split<;>rfl
theorem BU{o:Option TypeId}{v:TV V.N}{cs:List (TV V.N)}:TO.len (some (D7 V o v cs))=0:=by
 cases o with
 |none=>exact zN
 |some t=>rfl
theorem dc{S:TS V.N}{n:Nat}{te:TypeId}{e:Ty V.ι}{xs:List (den V.N e)}(h:S.own? n=some (.vec te e xs)):S.len n=xs.length:=by unfold TS.len;rw[h];rfl
theorem rK{t:Ty V.ι}{x:den V.N t}:((aT V.sz V.enc t x).all D.one)=true:=by
 rw[bX,OZ,NM]
 exactλl hl=>by have:=nr (V:=V) (jS t x l hl);simpa[H.one]using this
variable {P:Program} {nm:Nat->Nat} {call:bm V} {A:Type} {S:TS V.N} {k:TE V.N->Option A} {r:A} {o:Oper} {ex:Bool}
theorem aC{v:TV V.N}{l:List Nat}(hk:k {val:=v,acc:=l}=some r)(h:∀K:Eff->Prop,K {val:=an V S.len v,acc:=l}->aS P nm o (ev (az V S)) (az V S).own? K):OpS ex P nm o S k r:=
 ⟨_,hk,eQ S v l,h _ (lT rfl)⟩
theorem l8{v:TV V.N}{l:List Nat}(hk:k {val:=v,acc:=l}=some r)(h:∀K:Eff->Prop,(∀x,H.le x (an V S.len v)->(ex=true->x=an V S.len v)->K {val:=x,acc:=l})->aS P nm o (ev (az V S)) (az V S).own? K):OpS ex P nm o S k r:=
 ⟨_,hk,eQ S v l,h _ λ_ hx hy=>Aj hx hy⟩
theorem EU(S:TS V.N)(dst:Option Tmp)(d:Nat)(v:TV V.N)(b:TO V.N)(cs:List (TV V.N))(hf:∀n,TV.hasL n cs=true->n≠d):
 encL V (S.app dst {val:=v,upd:=[(d,b)],new:=[d]}).len cs=encL V S.len cs:=by
 refine encL_congr cs λn hn=> ?_
 rw[bV]
 simp only[af]
 rw[Q5 (λe=>hf n hn e.symm)]
 rfl
theorem Cv{S:TS V.N}{d:Nat}(h:S.fresh d=true)(x:Operand):TV.has d (tev S x)=false:=by
 cases x with
 |tmp t=>
  simp only[tev,TS.get]
  cases hg:gt S.tmps t with
  |none=>simp[TV.has]
  |some v=>exact fresh_tmp h hg
 |const v=>cases v<;>simp[tev,tvc,TV.has]
 |global g=>simp[tev,TV.has]
 |func f=>simp[tev,TV.has,TV.hasL]
theorem pS{d:Nat}{l:List (TV V.N)}(h:∀x∈l,TV.has d x=false):TV.hasL d l=false:=by
 induction l with
 |nil=>simp[TV.hasL]
 |cons y r ih=>rw[TV.hasL,h y NG,ih λx hx=>h x (NC _ hx)];rfl
theorem uS{d:Nat}{v:TV V.N}{cs:List (TV V.N)}(h:TV.cells V v=some cs)(hv:TV.has d v=false):TV.hasL d cs=false:=by
 cases v with
 |lf t x=>
  simp only[TV.cells,Ny]at h
  subst h
  exact pS λy hy=>by
   obtain⟨l,_,rfl⟩:=N3.1 hy
   simp[TV.has]
 |raw v=>
  simp only[TV.cells]at h
  split at h
  ·simp at h;subst h;simp[TV.hasL,TV.has]
  ·cases h
 |agg cs'=>simp only[TV.cells,Ny]at h;subst h;simpa[TV.has]using hv
 |tup vs=>simp[TV.cells]at h
 |junk=>simp[TV.cells]at h
 |rp t x off=>simp[TV.cells]at h;subst h;simp[TV.hasL,TV.has]
 |ai n s i off=>simp[TV.cells]at h;subst h;simpa[TV.hasL]using hv
 |bp n off=>simp[TV.cells]at h;subst h;simpa[TV.hasL]using hv
 |vh n=>simp[TV.cells]at h;subst h;simpa[TV.hasL]using hv
 |ep n s i off=>simp[TV.cells]at h;subst h;simpa[TV.hasL]using hv
 |sv n s i off=>simp[TV.cells]at h;subst h;simpa[TV.hasL]using hv
 |mp n=>simp[TV.cells]at h;subst h;simpa[TV.hasL]using hv
 |np n b=>simp[TV.cells]at h;subst h;simpa[TV.hasL]using hv
 |sd n=>simp[TV.cells]at h;subst h;simpa[TV.hasL]using hv
 |fn f a b=>simp[TV.cells]at h;subst h;simpa[TV.hasL]using hv
theorem BM{d:Nat}{b:TO V.N}{oty:Option TypeId}{cs:List (TV V.N)}(hb:∀ω,aX V ω b=some (.box oty (encL V ω cs)))(hk:k {val:= .bp (nm d) 0,upd:=[(nm d,b)],new:=[nm d]}=some r)(hf:TV.hasL (nm d) cs=false)
 (h:∀K:Eff->Prop,K {val:= .bp (nm d) 0,acc:=[],upd:=[(nm d,some (.box oty (encL V S.len cs)))],new:=[nm d]}->aS P nm o (ev (az V S)) (az V S).own? K):OpS ex P nm o S k r:=by
 refine⟨_,hk,λm o hm=> ?_,h _ (bq (by simp[an]) rfl ?_ rfl)⟩
 ·simp only[af]at hm
  split at hm
  ·rename_i e;left;simp[e]
  ·simp[gt]at hm
 ·simp only[NF,N_,hb]
  rw[EU S o.dst (nm d) (.bp (nm d) 0) b cs λn hn e=>by subst e;rw[hf]at hn;cases hn]
theorem rH{n:Nat}{o':TO V.N}(hk:k {val:= .junk,acc:=[n],upd:=[(n,o')]}=some r)(hl:TO.len (some o')=S.len n)
 (h:∀K:Eff->Prop,K {val:= .junk,acc:=[n],upd:=[(n,aX V S.len o')]}->aS P nm o (ev (az V S)) (az V S).own? K):OpS ex P nm o S k r:=by
 have hlen:(S.app o.dst {val:= .junk,acc:=[n],upd:=[(n,o')]}).len=S.len:=by
  funext m
  rw[bV]
  simp only[af]
  by_cases hm:n=m
  ·subst hm;simpa using hl
  ·rw[Q5 hm];simp[gt]
 refine⟨_,hk,λm o hm=> ?_,h _ (bq (by simp[an]) rfl ?_ rfl)⟩
 ·simp only[af]at hm
  split at hm
  ·rename_i e;simp at hm;subst hm;subst e;exact .inr hl
  ·simp[gt]at hm
 ·simp only[NF,N_]
  rw[hlen]
theorem n9{d:Nat}{te:TypeId}{e:Ty V.ι}{ys:List (den V.N e)}{old:List (Nat×Nat)}{l:List Nat}(hold:∀p∈old,S.len p.1=p.2)(hk:k {val:= .vh (nm d),acc:=l,upd:=(nm d, .vec te e ys)::old.map (λp=>(p.1, .gone p.2)),new:=[nm d]}=some r)
 (h:∀K:Eff->Prop,K {val:= .vh (nm d) ys.length,acc:=l,upd:=(nm d,some (.vec te (tsz V.sz e) (ys.map λx=>aT V.sz V.enc e x)))::old.map (λp=>(p.1,none)),new:=[nm d]}->aS P nm o (ev (az V S)) (az V S).own? K):OpS ex P nm o S k r:=by
 refine⟨_,hk,λm o hm=> ?_,h _ (bq ?_ rfl ?_ rfl)⟩
 ·simp only[af]at hm
  split at hm
  ·rename_i e;left;simp[e]
  ·right
   have:=bH hm
   obtain⟨p,hp,he⟩:=N3.1 this
   simp only[N5]at he
   obtain⟨rfl,rfl⟩:=he
   exact(hold p hp).symm
 ·simp only[an]
  rw[bV]
  simp[af,TO.len]
 ·simp[aX,N0,Function.comp_def]
theorem ir{n:Nat}{tk tv:Ty V.ι}{es:List (den V.N tk×den V.N tv)}(h:S.own? n=some (.map tk tv es)):
 (az V S).own? n=some (.map (es.map λp=>(dM V.enc tk p.1,aK V.sz V.enc tv p.2))):=by rw[aG,h];rfl
theorem qX{n:Nat}{tk tv:Ty V.ι}{es:List (den V.N tk×den V.N tv)}(h:S.own? n=some (.map tk tv es)):S.len n=0:=by unfold TS.len;rw[h];rfl
theorem w9{n:Nat}{s:ByteArray}{p:Int}(h:S.own? n=some (.iter s p)):(az V S).own? n=some (.iter s p.toNat):=by rw[aG,h];rfl
theorem Dt{n:Nat}{s:ByteArray}{p:Int}(h:S.own? n=some (.iter s p)):S.len n=0:=by unfold TS.len;rw[h];rfl
theorem tU{n m:Nat}{tk tv:Ty V.ι}{es rest:List (den V.N tk×den V.N tv)}{cur:Option (den V.N tk×den V.N tv)}(h:S.own? n=some (.miter m tk tv es rest cur)):
 (az V S).own? n=some (.miter m (es.map λp=>(dM V.enc tk p.1,aK V.sz V.enc tv p.2)) (rest.map λp=>(dM V.enc tk p.1,aK V.sz V.enc tv p.2)) (cur.map λp=>(dM V.enc tk p.1,aK V.sz V.enc tv p.2))):=by rw[aG,h];rfl
theorem s9{n m:Nat}{tk tv:Ty V.ι}{es rest:List (den V.N tk×den V.N tv)}{cur:Option (den V.N tk×den V.N tv)}(h:S.own? n=some (.miter m tk tv es rest cur)):S.len n=0:=by unfold TS.len;rw[h];rfl
theorem AP{tk:Ty V.ι}(hk:GC tk=true)(x:den V.N tk):aK V.sz V.enc tk x= .v (dM V.enc tk x):=by
 cases tk<;>first|rfl|cases hk
theorem vH{d:Nat}{s:ByteArray}(hk:k {val:= .bp (nm d) 0,upd:=[(nm d, .iter s 0)],new:=[nm d]}=some r)
 (h:∀K:Eff->Prop,K {val:= .bp (nm d) 0,acc:=[],upd:=[(nm d,some (.iter s 0))],new:=[nm d]}->aS P nm o (ev (az V S)) (az V S).own? K):OpS ex P nm o S k r:=by
 refine⟨_,hk,λm o hm=> ?_,h _ (bq (by simp[an]) rfl (by simp[aX]) rfl)⟩
 simp only[af]at hm
 split at hm
 ·rename_i e;left;simp[e]
 ·simp[gt]at hm
theorem DR{n l:Nat}{v:TV V.N}(hv:∀ω ω':Nat->Nat,an V ω v=an V ω' v)(hk:k {val:=v,acc:=[n],upd:=[(n, .gone l)]}=some r)(hl:S.len n=l)
 (h:∀K:Eff->Prop,K {val:=an V S.len v,acc:=[n],upd:=[(n,none)]}->aS P nm o (ev (az V S)) (az V S).own? K):OpS ex P nm o S k r:=by
 refine⟨_,hk,λm o hm=> ?_,h _ (bq (hv _ _) rfl (by simp[aX]) rfl)⟩
 simp only[af]at hm
 split at hm
 ·rename_i e;right;simp at hm;subst hm;subst e;simp[TO.len,hl]
 ·simp[gt]at hm
theorem s6(ik:IntKind):∀l:List Int,pc ik (l.map (row1 ik))=some l
 |[]=>rfl
 |n::r=>by simp[row1,pc,s6 ik r]
theorem nL(ik:IntKind)(l:List (den V.N (.int ik))):pc ik (l.map λx=>aT V.sz V.enc (.int ik) x)=some l:=s6 ik l
theorem ol(s:ByteArray):∀n i:Nat,(Bs.runesAt s n i).length<=n
 |0,_=>NY _
 |n+1,i=>by
  unfold Bs.runesAt
  split
  ·simp only[Oj];have:=ol s n (i+(Utf8.decode s i).2);omega
  ·simp
theorem BZ(s:ByteArray):(Bs.runes s).length<=s.size:=ol s _ _
theorem yF{d:Nat}{tk tv:Ty V.ι}(hk:k {val:= .mp (nm d),upd:=[(nm d, .map tk tv [])],new:=[nm d]}=some r)
 (h:∀K:Eff->Prop,K {val:= .mp (nm d),acc:=[],upd:=[(nm d,some (.map []))],new:=[nm d]}->aS P nm o (ev (az V S)) (az V S).own? K):OpS ex P nm o S k r:=by
 refine⟨_,hk,λm o hm=> ?_,h _ (bq (by simp[an]) rfl (by simp[aX]) rfl)⟩
 simp only[af]at hm
 split at hm
 ·rename_i e;left;simp[e]
 ·simp[gt]at hm
theorem kj{tk:Ty V.ι}{kind:TypeDesc}(hk:eK (some kind) tk=true)(x y:den V.N tk):Instr.sameNow kind (dM V.enc tk x) (dM V.enc tk y)=some (keq V.cells tk x y):=by
 cases kind<;>cases tk<;>simp_all [eK,dM,keq,Instr.sameNow,Mp.ieq,Mp.beq,Mp.seq]
theorem iJ{tk:Ty V.ι}{kind:TypeDesc}(hk:eK (some kind) tk=true):dW kind=true:=by
 cases kind<;>cases tk<;>simp_all [eK,dW]
theorem qV{tk:Ty V.ι}{kind:TypeDesc}(hk:eK (some kind) tk=true)(x:den V.N tk):aK V.sz V.enc tk x= .v (dM V.enc tk x):=by
 cases kind<;>cases tk<;>simp_all [eK,dM,aK]
theorem wL{tk tv:Ty V.ι}{kind:TypeDesc}(hk:eK (some kind) tk=true)(x:den V.N tk):∀es:List (den V.N tk×den V.N tv),
 sL kind (dM V.enc tk x) (es.map λp=>(dM V.enc tk p.1,aK V.sz V.enc tv p.2))=some ((Mp.get (keq V.cells tk) x es).map (aK V.sz V.enc tv))
 |[]=>rfl
 |p::r=>by
  simp only[NF,sL,kj hk,Mp.get]
  cases keq V.cells tk x p.1 with
  |true=>rfl
  |false=>exact wL hk x r
theorem B8{tk tv:Ty V.ι}{kind:TypeDesc}(hk:eK (some kind) tk=true)(x:den V.N tk)(y:den V.N tv):∀es:List (den V.N tk×den V.N tv),
 FC kind (dM V.enc tk x) (aK V.sz V.enc tv y) (es.map λp=>(dM V.enc tk p.1,aK V.sz V.enc tv p.2))=some ((Mp.put (keq V.cells tk) x y es).map λp=>(dM V.enc tk p.1,aK V.sz V.enc tv p.2))
 |[]=>rfl
 |p::r=>by
  simp only[NF,FC,kj hk,Mp.put]
  cases keq V.cells tk x p.1 with
  |true=>rfl
  |false=>simp only[B8 hk x y r];rfl
theorem lL{tk tv:Ty V.ι}{kind:TypeDesc}(hk:eK (some kind) tk=true)(x:den V.N tk)(es:List (den V.N tk×den V.N tv)):
 gG kind (dM V.enc tk x) (es.map λp=>(dM V.enc tk p.1,aK V.sz V.enc tv p.2))=true:=by
 unfold gG
 rw[OZ,NM]
 intro p _
 simp only[Qn,kj hk,Option.isSome_some]
theorem oY:∀{ds:List D} {z:List Value},mg ds=some z->ds=z.map .v
 |[],z,h=>by simp[mg]at h;subst h;rfl
 | .v x::r,z,h=>by
  simp only[mg]at h
  split at h
  ·rename_i l hl
   simp at h;subst h
   rw[oY hl];rfl
  ·cases h
 | .agg _::_,_,h=>by simp[mg]at h
 | .sl _ _::_,_,h=>by simp[mg]at h
 | .rp _::_,_,h=>by simp[mg]at h
theorem aR{α β:Type}{x:Option α}{f:α->Option β}{r:β}(h:x>>=f=some r):∃y,x=some y/\f y=some r:=by
 cases x with
 |none=>cases h
 |some y=>exact⟨y,rfl,h⟩
theorem ah{c:Prop}[Decidable c]{β:Type}{x:Option β}{r:β}(h:(if c then x else none)=some r):c/\x=some r:=by
 split at h
 ·exact⟨‹_›,h⟩
 ·cases h
theorem nq{ω:Nat->Nat}{e:Ty V.ι}{x:TV V.N}{y:den V.N e}(h:Dh V ex e x=some y):
 ∃cs ds,TV.cells V x=some cs/\encL V ω cs=ds.map H.d/\D.Les ds (aT V.sz V.enc e y)/\(ex=true->ds=aT V.sz V.enc e y):=by
 unfold Dh at h
 split at h
 ·rename_i t z
  split at h
  ·rename_i ht
   subst ht
   simp only[Ny]at h;subst h
   refine⟨_,aT V.sz V.enc t z,rfl,?_,D.Les.refl _,λ_=>rfl⟩
   rw[bX,encL_map,N0,N0]
   exact NZ λl _=>by simp[an]
  ·cases h
 ·split at h
  ·rename_i cs hcs
   obtain⟨ds,e1,e2,e3⟩:=dz (ω:=ω) h
   exact⟨cs,ds,hcs,e1,e2,e3⟩
  ·cases h
theorem jT{ω:Nat->Nat}{e:Ty V.ι}:∀{i:Nat} {parts:List (Nat×TV V.N)} {ys:List (den V.N e)},yT V ex e i parts=some ys->
 ∃rows,og (tsz V.sz e) i (parts.map λp=>(p.1,an V ω p.2))=some rows/\rows.length=parts.length/\D.Rows rows (ys.map λx=>aT V.sz V.enc e x)/\(ex=true->rows=ys.map λx=>aT V.sz V.enc e x)
 |i,[],ys,h=>by simp[yT]at h;subst h;exact⟨[],rfl,rfl, .nil,λ_=>rfl⟩
 |i,(j,x)::r,ys,h=>by
  simp only[yT]at h
  obtain⟨hij,h⟩:=ah h
  split at h
  ·rename_i y ys' h1 h2
   simp at h;subst h
   obtain⟨cs,ds,hcs,e1,e2,e3⟩:=nq (ω:=ω) h1
   obtain⟨rows,f1,f2,f3,f4⟩:=jT (ω:=ω) h2
   have hds:ds.length=tsz V.sz e:=by rw[e2.len,bG]
   refine⟨ds::rows,?_,by simp[f2], .cons e2 f3,λhx=>by simp[e3 hx,f4 hx]⟩
   simp only[NF,og,cd (ω:=ω) hcs,e1,cY,f1]
   rw[Q6 hij,Q6 hds]
  ·cases h
end
end Go.Tx
end
section
namespace Go.Tx
open Go.Awp
variable [Inhabited GMem]
section
variable {V:i7} {P:Program} {nm:Nat->Nat} {call:bm V} {A:Type} {S:TS V.N} {k:TE V.N->Option A} {r:A} {o:Oper} {ex:Bool}
theorem kA(l:List H):H.le (bA l) (.agg l):=λE M v h=>by
 unfold bA at h
 split at h
 ·rename_i ds hds
  obtain⟨cs,rfl,h1,h2⟩:=h.dagg
  obtain⟨g1,g2⟩:=eN hds
  refine .agg cs l (by omega) λi c x hc hx=> ?_
  rw[g2]at hx
  cases hd:ds[i]? with
  |none=>rw[hd]at hx;cases hx
  |some d=>rw[hd]at hx;simp at hx;subst hx;exact .d (h2 i c d hc hd)
 ·exact h
theorem rf(l:List H):H.le (.agg l) (bA l):=λE M v h=>by
 obtain⟨cs,rfl,h1,h2⟩:=h.hagg
 exact aN.mk_agg h1 h2
theorem EZ{l l':List H}(hl:l.length=l'.length)(h:∀(i:Nat) (x:H),l'[i]?=some x->∃y,l[i]?=some y/\H.le y x):H.le (.agg l) (.agg l'):=λE M v hv=>by
 obtain⟨cs,rfl,h1,h2⟩:=hv.hagg
 refine .agg cs l' (by omega) λi c x hc hx=> ?_
 obtain⟨y,hy,hle⟩:=h i x hx
 exact hle E M c (h2 i c y hc hy)
theorem xn{l l':List H}(hl:l.length=l'.length)(h:∀(i:Nat) (x:H),l'[i]?=some x->∃y,l[i]?=some y/\H.le y x):H.le (.tup l) (.tup l'):=λE M v hv=>by
 obtain⟨cs,rfl,h1,h2⟩:=hv.htup
 refine .tup cs l' (by omega) λi c x hc hx=> ?_
 obtain⟨y,hy,hle⟩:=h i x hx
 exact hle E M c (h2 i c y hc hy)
theorem OLe.vec{te:TypeId}{sz:Nat}{a b:List (List D)}(h:D.Rows a b):OLe (.vec te sz a) (.vec te sz b):=by
 refine⟨?_,λ_ _ _ _ _ _ h=>h⟩
 rintro E M w n ⟨xs,h1,h2,h3,h4⟩
 refine⟨xs,by rw[<-h.len];exact h1,λr hr=> ?_,λi j r c x hr hx hc=> ?_,h4⟩
 ·obtain⟨i,hi,rfl⟩:=PQ hr
  obtain⟨y,hy,hyr⟩:=h.get i _ (ND hi)
  rw[<-hyr.len];exact h2 y (NJ hy)
 ·obtain⟨y,hy,hyr⟩:=h.get i r hr
  obtain⟨z,hz,hzx⟩:=hyr.get j x hx
  exact hzx M c (h3 i j y c z hy hz hc)
theorem CD{x:Operand}(ho:o.op= .move x\/o.op= .assign x)(h:tx V P nm call ex o S k=some r):OpS ex P nm o S k r:=by
 have hk:k {val:=tev S x}=some r:=by rcases ho with ho|ho<;>simpa only[tx,ho]using h
 refine aC hk λK hK=> ?_
 rcases ho with ho|ho<;>(simp only[aS,ho,ak];exact hK)
theorem Ij{c x y:Operand}(ho:o.op= .pick c x y)(h:tx V P nm call ex o S k=some r):OpS ex P nm o S k r:=by
 simp only[tx,ho]at h
 split at h
 ·rename_i b hb
  cases b with
  |true=>
   refine aC (by simpa using h) λK hK=> ?_
   simp only[aS,ho,ak,hb,an,aK];exact hK
  |false=>
   refine aC (by simpa using h) λK hK=> ?_
   simp only[aS,ho,ak,hb,an,aK];exact hK
 ·cases h
theorem iV{ω:Nat->Nat}{z:List Value}(hz:z.all cp=true):encL V ω (z.map tvc)=z.map λx=> .d (.v x):=by
 rw[encL_map,N0]
 rw[NM]at hz
 refine NZ λx hx=> ?_
 have:=hz x hx
 simp only[Qn,wn]
 cases x<;>first|(simp[cp]at this;done)|rfl
theorem EA{t:TypeId}(ho:o.op= .alloc t)(h:tx V P nm call ex o S k=some r):OpS ex P nm o S k r:=by
 simp only[tx,ho]at h
 split at h
 ·rename_i z d hz hd
  obtain⟨hz1,h⟩:=ah h
  refine BM (d:=d) (λω=>rfl) h (pS λx hx=> ?_) λK hK=> ?_
  ·obtain⟨v,_,rfl⟩:=N3.1 hx
   cases v<;>simp[tvc,TV.has]
  ·simp only[aS,ho,hz,hd]
   rw[iV hz1]at hK;exact hK
 ·cases h
theorem JV{t:TypeId}{x:Operand}(ho:o.op= .box t x)(hf:∀te,k te=some r->∀d∈te.new,S.fresh d=true)(h:tx V P nm call ex o S k=some r):OpS ex P nm o S k r:=by
 simp only[tx,ho]at h
 split at h
 ·rename_i cs d hcs hd
  have hfr:=hf _ h (nm d) (by simp)
  refine BM (d:=d) (oty:=Dr V t cs) (λω=>t7 hcs) h (uS hcs (Cv hfr x)) λK hK=> ?_
  simp only[aS,ho,ak,cd (ω:=S.len) hcs,hd]
  refine⟨Dr V t cs,?_,hK⟩
  unfold Dr
  split
  ·exact .inr rfl
  ·exact .inl rfl
 ·cases h
theorem Ih{t:TypeId}{x:Operand}(ho:o.op= .load t x)(h:tx V P nm call ex o S k=some r):OpS ex P nm o S k r:=by
 simp only[tx,ho]at h
 split at h
 ·rename_i ag sz ht
  split at h
  ·rename_i n off hx
   split at h
   ·rename_i v hw
    unfold xq at hw
    split at hw
    ·rename_i i y hn
     have hw':=ah hw;clear hw
     obtain⟨⟨e1,e2,e3,hot⟩,hw⟩:=hw'
     subst e1;subst e2;subst e3
     simp only[Ny]at hw;subst hw
     have hb:C8 V (S.own? n)=some ((V.cells i y).map λl=> .lf l.t l.x):=by rw[hn];rfl
     refine aC h λK hK=> ?_
     simp only[aS,ho,ht,ak,hx,gB hb,jq,eR,N9]
     rw[jD]at hK
     simp only[an,gB hb,jq,Nz,N9]
     have hl:(V.enc i y).length=V.sz i:=by rw[V.enc_cells,Nz,V.len_cells]
     rw[Q6 (by omega),Oh (by rw[Nz];omega),bA,cY]
     exact hK
    ·rename_i m e xs hn
     have hw':=ah hw;clear hw
     obtain⟨⟨e1,e2,e3,hot⟩,hw⟩:=hw'
     subst e1;subst e2;subst e3
     simp only[Ny]at hw;subst hw
     have ho1:(az V S).own? n=some (.box none ((aT V.sz V.enc (.ar m e) xs).map .d)):=by rw[aG,hn];rfl
     refine aC h λK hK=> ?_
     simp only[aS,ho,ht,ak,hx,an,ho1,eR,Nz,N9]
     have hl:=bG (V:=V) (.ar m e) xs
     rw[Q6 (by omega),Oh (by rw[Nz];omega),bA,cY]
     exact hK
    ·cases hw
   ·split at h
    ·rename_i cells hc
     split at h
     ·rename_i v hv
      obtain⟨y,h1,h2,h3⟩:=jI (ω:=S.len) hv
      rw[gX]at h1
      refine l8 h λK hK=> ?_
      simp only[aS,ho,ht,ak,hx,an,gB hc,h1]
      exact hK y h2 h3
     ·cases h
    ·cases h
  ·rename_i n s i off hx
   split at h
   ·rename_i te e xs hc
    obtain⟨hs,h⟩:=ah h
    obtain⟨y,hy,h⟩:=aR h
    split at h
    ·rename_i v hv
     obtain⟨d,h1,h2⟩:=ff (ω:=S.len) hv
     refine aC h λK hK=> ?_
     simp only[aS,ho,ht,ak,hx,an,cf hc,NB,hy,N6,h1]
     refine⟨hs,?_⟩
     rw[<-h2];exact hK
    ·cases h
   ·cases h
  ·rename_i t' y off hx
   split at h
   ·rename_i v hv
    obtain⟨d,h1,h2⟩:=ff (ω:=S.len) hv
    refine aC h λK hK=> ?_
    simp only[aS,ho,ht,ak,hx,an,h1]
    rw[<-h2];exact hK
   ·cases h
  ·cases h
 ·cases h
theorem EI{t:TypeId}{x y:Operand}(ho:o.op= .store t x y)(h:tx V P nm call ex o S k=some r):OpS ex P nm o S k r:=by
 simp only[tx,ho]at h
 split at h
 ·rename_i ag sz ht
  split at h
  ·rename_i n off cs hx hy
   split at h
   ·rename_i cells hc
    have h':=ah h;clear h
    obtain⟨⟨h1,h2,h3⟩,h⟩:=h'
    split at h
    ·rename_i hwh
     obtain⟨e0,hsz⟩:=hwh
     subst e0
     refine rH h (by rw[wx hc];exact BU) λK hK=> ?_
     simp only[aS,ho,ht,ak,hx,an,gB hc,cd (ω:=S.len) hy,aJ]
     refine⟨⟨h1,dN h2,h3⟩,?_⟩
     rw[t7 hy]at hK
     simp only[dX,aJ,P0,NW,N2]
     rw[QH (by rw[aJ];omega),Ox]
     exact hK
    ·refine rH h (by rw[wx hc];rfl) λK hK=> ?_
     simp only[aS,ho,ht,ak,hx,an,gB hc,cd (ω:=S.len) hy,aJ]
     refine⟨⟨h1,dN h2,h3⟩,?_⟩
     simp only[aX,ft,sJ,gX]at hK
     simp only[dX,aJ]
     exact hK
   ·cases h
  ·rename_i n s i off cs hx hy
   split at h
   ·rename_i te e xs hc
    obtain⟨⟨h0,h1,h2,h3⟩,h⟩:=ah h
    obtain⟨x',hx',h⟩:=aR h
    split at h
    ·rename_i y' hy'
     obtain⟨ds,e1,_,e3⟩:=dz (ω:=S.len) hy'
     have e3:=e3 rfl
     subst e3
     have hcs:∃es,fC (encL V S.len cs)=some es/\aT V.sz V.enc e y'=(aT V.sz V.enc e x').take off++es++(aT V.sz V.enc e x').drop (off+es.length)/\es.length=cs.length:=by
      have hm:∀l:List (cg V.N),encL V S.len (l.map λl=>TV.lf l.t l.x)=(l.map λl=>aK V.sz V.enc l.t l.x).map H.d:=by
       intro l
       rw[encL_map,N0,N0]
       exact NZ λl _=>by simp[an]
      rw[ft,ft,hm,hm,OE,OG,<-bX]at e1
      have hall:∃es:List D,encL V S.len cs=es.map H.d:=by
       have:∀(a b c:List H) (l:List D),a++b++c=l.map H.d->∃es:List D,b=es.map H.d:=by
        intro a b c l hl
        refine⟨(l.drop a.length).take b.length,?_⟩
        rw[OE,OG,<-hl]
        simp
       exact this _ _ _ _ e1
      obtain⟨es,hes⟩:=hall
      have hlen:es.length=cs.length:=by have:=congrArg Pv hes;simpa[aJ]using this.symm
      refine⟨es,by rw[hes,cY],?_,hlen⟩
      rw[hes,<-Of,<-Of]at e1
      have inj:∀(a b:List D),a.map H.d=b.map H.d->a=b:=λa b hab=>by
       have:=congrArg fC hab
       rw[cY,cY]at this
       simpa using this
      rw[hlen]
      exact(inj _ _ e1).symm
     obtain⟨es,he1,he2,he3⟩:=hcs
     refine rH h (by rw[dc hc];simp[TO.len]) λK hK=> ?_
     simp only[aS,ho,ht,ak,hx,an,cf hc,cd (ω:=S.len) hy,aJ,NB,hx',N6,he1]
     refine⟨⟨h0,h1,dN h2,by rw[<-h0];exact h3⟩,?_⟩
     simp only[aX,Pd,he2]at hK
     exact hK
    ·cases h
   ·cases h
  ·cases h
 ·cases h
theorem wj{x:Operand}(ho:o.op= .nilCheck x)(h:tx V P nm call ex o S k=some r):OpS ex P nm o S k r:=by
 simp only[tx,ho]at h
 split at h
 ·rename_i n off hx
  refine aC h λK hK=> ?_
  simp only[aS,ho,ak,hx,an]at hK⊢;exact hK
 ·rename_i n s i off hx
  refine aC h λK hK=> ?_
  simp only[aS,ho,ak,hx,an]at hK⊢;exact hK
 ·rename_i t x off hx
  refine aC h λK hK=> ?_
  simp only[aS,ho,ak,hx,an]at hK⊢;exact hK
 ·rename_i n b hx
  obtain⟨hb,h⟩:=ah h
  subst hb
  refine aC h λK hK=> ?_
  simp only[aS,ho,ak,hx,an]at hK⊢;exact hK
 ·cases h
theorem AL{y:Operand}(h:AK y=true):y= .const .nilIface:=by
 unfold AK at h
 split at h
 ·rfl
 ·cases h
theorem EB{op:BinOp}{t t':TypeId}{x y:Operand}(ho:o.op= .binOp op t x y t')(h:tx V P nm call ex o S k=some r):OpS ex P nm o S k r:=by
 simp only[tx,ho]at h
 split at h
 ·rename_i kx a ky b hx hy
  split at h
  ·rename_i hs
   obtain⟨hb,h⟩:=ah h
   cases op<;>simp only[vV,reduceCtorEq,Ny]at hs
   refine aC h λK hK=> ?_
   simp only[aS,ho,ak,hx,hy,an,aK,nK]at hK⊢;exact⟨hb,hK⟩
  ·rename_i hs
   obtain⟨hb,h⟩:=ah h
   cases op<;>simp only[vV,reduceCtorEq,Ny]at hs
   refine aC h λK hK=> ?_
   simp only[aS,ho,ak,hx,hy,an,aK,nK]at hK⊢;exact⟨hb,hK⟩
  rename_i hs
  obtain⟨hk,h⟩:=ah h
  subst hk
  cases op<;>simp only[]at h<;>first
   |(cases h;done)
   |(obtain⟨hb,h⟩:b≠0/\_:=by
      split at h
      ·cases h
      ·exact⟨‹_›,h⟩
     refine aC h λK hK=> ?_
     simp only[aS,ho,ak,hx,hy,an,aK,nK]at hK⊢;exact⟨⟨trivial,hb⟩,hK⟩)
   |(refine aC h λK hK=> ?_
     simp only[aS,ho,ak,hx,hy,an,aK,nK]at hK⊢;exact⟨trivial,hK⟩)
 ·rename_i a b hx hy
  split at h
  ·rename_i hu
   refine aC h λK hK=> ?_
   simp only[aS,ho,ak,hx,hy,an,aK]at hK⊢;exact⟨hu,hK⟩
  ·rename_i hu
   refine aC h λK hK=> ?_
   simp only[aS,ho,ak,hx,hy,an,aK]at hK⊢;exact⟨hu,hK⟩
  ·cases h
 ·rename_i a b hx hy
  split at h
  ·refine aC h λK hK=> ?_
   simp only[aS,ho,ak,hx,hy,an,aK]at hK⊢;exact hK
  ·refine aC h λK hK=> ?_
   simp only[aS,ho,ak,hx,hy,an,aK]at hK⊢;exact hK
  ·obtain⟨hl,h⟩:=ah h
   refine aC h λK hK=> ?_
   simp only[aS,ho,ak,hx,hy,an,aK]at hK⊢;exact⟨by unfold most at hl;omega,hK⟩
  ·split at h
   ·rename_i hq
    cases op<;>simp only[Bs.scmp,Ny,reduceCtorEq]at hq<;>(
     subst hq
     refine aC h λK hK=> ?_
     simp only[aS,ho,ak,hx,hy,an,aK,Bs.scmp]at hK⊢;exact hK)
   ·cases h
 ·rename_i a n c hx hy
  split at h
  ·rename_i hu
   refine aC h λK hK=> ?_
   simp only[aS,ho,ak,hx,hy,an,bw,aK]at hK⊢;exact⟨hu,hK⟩
  ·rename_i hu
   refine aC h λK hK=> ?_
   simp only[aS,ho,ak,hx,hy,an,bw,aK]at hK⊢;exact⟨hu,hK⟩
  ·cases h
 ·rename_i e y ys hx hy
  split at h
  ·rename_i hu
   refine aC h λK hK=> ?_
   simp only[aS,ho,ak,hx,hy,an,bw,aK,NF]at hK⊢;exact⟨hu,hK⟩
  ·rename_i hu
   refine aC h λK hK=> ?_
   simp only[aS,ho,ak,hx,hy,an,bw,aK,NF]at hK⊢;exact⟨hu,hK⟩
  ·cases h
 ·rename_i n b hx hy
  split at h
  ·rename_i hu
   refine aC h λK hK=> ?_
   simp only[aS,ho,ak,hx,hy,an,bw,aK]at hK⊢;exact⟨hu,hK⟩
  ·rename_i hu
   refine aC h λK hK=> ?_
   simp only[aS,ho,ak,hx,hy,an,bw,aK]at hK⊢;exact⟨hu,hK⟩
  ·cases h
 ·rename_i b hx hy
  obtain⟨⟨hu,hn⟩,h⟩:=ah h
  have hyc:=AL hn
  split at h
  ·refine aC h λK hK=> ?_
   simp only[aS,ho,ak,hx,hy,an,bw,aK]at hK⊢;exact⟨⟨hu,hyc⟩,hK⟩
  ·refine aC h λK hK=> ?_
   simp only[aS,ho,ak,hx,hy,an,bw,aK]at hK⊢;exact⟨⟨hu,hyc⟩,hK⟩
  ·cases h
 ·cases h
theorem Ik{op:UnOp}{t:TypeId}{x:Operand}(ho:o.op= .unOp op t x)(h:tx V P nm call ex o S k=some r):OpS ex P nm o S k r:=by
 simp only[tx,ho]at h
 split at h
 ·rename_i b hx
  refine aC h λK hK=> ?_
  simp only[aS,ho,ak,hx,an,aK]at hK⊢;exact hK
 ·rename_i ki n hx
  refine aC h λK hK=> ?_
  simp only[aS,ho,ak,hx,an,aK]at hK⊢;exact hK
 ·cases h
theorem mD{t:TypeId}{x:Operand}(ho:o.op= .makeInterface t x)(h:tx V P nm call ex o S k=some r):OpS ex P nm o S k r:=by
 simp only[tx,ho]at h
 split at h
 ·rename_i hn
  refine aC h λK hK=> ?_
  simp only[aS,ho,an,aK]at hK⊢
  exact⟨hn,hK⟩
 ·cases h
theorem zn{s t:TypeId}{x:Operand}(ho:o.op= .convert s t x)(h:tx V P nm call ex o S k=some r):OpS ex P nm o S k r:=by
 simp only[tx,ho]at h
 split at h
 ·rename_i d ki kk n h1 h2 hx
  refine aC h λK hK=> ?_
  simp only[aS,ho,h1,h2,ak,hx,an,aK]at hK⊢;exact hK
 ·rename_i d kk n h1 h2 hx
  refine aC h λK hK=> ?_
  simp only[aS,ho,h1,h2,ak,hx,an,aK]at hK⊢;exact hK
 ·rename_i e x h1 h2 hx
  split at h
  ·rename_i d hu hd
   obtain⟨hl,h⟩:=ah h
   refine n9 (d:=d) (e:= .int .i32) (old:=[]) (λp hp=>by cases hp) h λK hK=> ?_
   simp only[aS,ho,h1,h2,ak,hx,an,aK,hu,hd]at hK⊢
   exact⟨by have:=BZ x;unfold most at hl;omega,hK⟩
  ·rename_i hu
   refine aC h λK hK=> ?_
   simp only[aS,ho,h1,h2,ak,hx,an,aK,aT,tsz,hu]at hK⊢
   exact hK
  ·cases h
 ·rename_i e ik xs h1 h2 hx
  split at h
  ·rename_i hu
   refine aC h λK hK=> ?_
   simp only[aS,ho,h1,h2,ak,hx,an,aK,hu]at hK⊢
   erw[nL]
   exact⟨rfl,hK⟩
  ·rename_i hu
   refine aC h λK hK=> ?_
   simp only[aS,ho,h1,h2,ak,hx,an,aK,hu]at hK⊢
   erw[nL]
   exact⟨rfl,hK⟩
  ·cases h
 ·rename_i e h1 h2 hx
  split at h
  ·rename_i hu
   refine aC h λK hK=> ?_
   simp only[aS,ho,h1,h2,ak,hx,an,aK,bw,hu]at hK⊢;exact hK
  ·rename_i hu
   refine aC h λK hK=> ?_
   simp only[aS,ho,h1,h2,ak,hx,an,aK,bw,hu]at hK⊢;exact hK
  ·cases h
 ·cases h
theorem EG{t:TypeId}{x:Operand}(ho:o.op= .range t x)(h:tx V P nm call ex o S k=some r):OpS ex P nm o S k r:=by
 simp only[tx,ho]at h
 split at h
 ·rename_i s d ht hx hd
  refine vH h λK hK=> ?_
  simp only[aS,ho,ht,hd,ak,hx,an,aK]
  exact hK
 ·rename_i kt et m d ht hx hd
  split at h
  ·rename_i tk tv es hown
   refine⟨_,h,λm' o hm=> ?_,?_⟩
   ·simp only[af]at hm
    split at hm
    ·rename_i e;left;simp[e]
    ·split at hm
     ·rename_i e;right;simp at hm;subst hm;subst e;simp[TO.len,qX hown]
     ·simp[gt]at hm
   ·simp only[aS,ho,ht,hd,ak,hx,an,ir hown]
    exact bq (by simp[an]) rfl (by simp[aX]) rfl
  ·cases h
 ·cases h
theorem ED{x:Operand}(ho:o.op= .entry x)(h:tx V P nm call ex o S k=some r):OpS ex P nm o S k r:=by
 simp only[tx,ho]at h
 split at h
 ·rename_i n hx
  split at h
  ·rename_i m tk tv es rest p hown
   obtain⟨hk,h⟩:=ah h
   refine aC h λK hK=> ?_
   simp only[aS,ho,ak,hx,an,encL,tU hown,N6]at hK⊢
   rw[AP hk]at hK
   exact⟨trivial,hK⟩
  ·cases h
 ·cases h
theorem Ii{x:Operand}{b:Bool}(ho:o.op= .next x b)(h:tx V P nm call ex o S k=some r):OpS ex P nm o S k r:=by
 cases b with
 |false=>simp only[tx,ho]at h;cases h
 |true=>
 simp only[tx,ho]at h
 split at h
 ·rename_i n hx
  split at h
  ·rename_i s p hown
   obtain⟨h0,h⟩:=ah h
   split at h
   ·rename_i hlt
    have hl:(O4 p.toNat s.size)=true:=by rw[Pk];omega
    refine⟨_,h,λm o hm=> ?_,?_⟩
    ·simp only[af]at hm
     split at hm
     ·rename_i e;right;simp at hm;subst hm;subst e;simp[TO.len,Dt hown]
     ·simp[gt]at hm
    ·have hp:((p.toNat:Nat):Int)=p:=by omega
     have hw:(p+Bs.wid s p).toNat=p.toNat+(Utf8.decode s p.toNat).2:=by unfold Bs.wid;omega
     simp only[aS,ho,ak,hx,an,w9 hown,hl]
     refine⟨trivial,bq (by simp only[an,encL,aK,Bs.dec,hp]) rfl (by simp[aX,hw]) rfl⟩
   ·rename_i hlt
    have hl:(O4 p.toNat s.size)=false:=by rw[Qq];intro h;rw[Pk]at h;omega
    refine aC h λK hK=> ?_
    simp only[aS,ho,ak,hx,an,encL,aK,w9 hown,hl]at hK⊢
    exact⟨trivial,hK⟩
  ·cases h
 ·cases h
theorem EC{t:TypeId}{parts:Array (Nat×Operand)}(ho:o.op= .build t parts)(h:tx V P nm call ex o S k=some r):OpS ex P nm o S k r:=by
 simp only[tx,ho]at h
 split at h
 ·rename_i z pl hz hp
  obtain⟨hz1,h⟩:=ah h
  split at h
  ·rename_i cs hcs
   have hf:=gh (ω:=S.len) hcs
   rw[iV hz1]at hf
   split at h
   ·refine l8 h λK hK=> ?_
    simp only[aS,ho,hz,hp,A1,hf]
    exact hK _ (by rw[an];exact H.le.refl _) (λ_=>by rw[an])
   ·refine l8 h λK hK=> ?_
    simp only[aS,ho,hz,hp,A1,hf]
    exact hK _ fQ.1 fQ.2
  ·cases h
 ·cases h
theorem vp(S:TS V.N)(l:List (Nat×Operand)):(l.map λp=>(p.1,fnD (Go.Awp.ev (az V S) p.2)))=(l.map λp=>(p.1,fnT (tev S p.2))).map λp=>(p.1,an V S.len p.2):=by
 rw[N0]
 exact NZ λp _=>by simp only[Qn,ak,qP]
theorem r7{t:TypeId}{len:Nat}{parts:Array (Nat×Operand)}(ho:o.op= .buildSlice t len parts)(h:tx V P nm call ex o S k=some r):OpS ex P nm o S k r:=by
 simp only[tx,ho]at h
 split at h
 ·rename_i te sz by_ e ht hty
  obtain⟨hsz,h⟩:=ah h
  subst hsz
  split at h
  ·rename_i ys hys
   obtain⟨rows,f1,f2,f3,f4⟩:=jT (ω:=S.len) hys
   simp only[Nz]at f2
   obtain⟨⟨hl,hs⟩,h⟩:=ah h
   have hl':rows.length=len/\len *tsz V.sz e<=16777216:=⟨by omega,hs⟩
   cases hd:o.dst with
   |none=>
    simp only[hd]at h
    refine l8 h λK hK=> ?_
    simp only[aS,ho,ht,vp,f1,hd]
    refine⟨hl',hK _ ?_ λhx=> ?_⟩
    ·simp only[an,aK]
     exact H.le.d (D.le.sl f3)
    ·simp only[an,aK]
     rw[f4 hx]
   |some d=>
    simp only[hd]at h
    by_cases hn:nm d=d
    ·rw[Q6 hn]at h
     refine l8 h λK hK=> ?_
     simp only[aS,ho,ht,vp,f1,hd]
     refine⟨hl',?_⟩
     rw[Q6 hn]
     refine hK _ ?_ λhx=> ?_
     ·simp only[an,aK]
      exact H.le.d (D.le.sl f3)
     ·simp only[an,aK]
      rw[f4 hx]
    ·rw[Q5 hn]at h
     refine⟨_,h,λm o hm=> ?_,?_⟩
     ·simp only[af]at hm
      split at hm
      ·rename_i e;left;simp[e]
      ·simp[gt]at hm
     ·simp only[aS,ho,ht,vp,f1,hd]
      refine⟨hl',?_⟩
      rw[Q5 hn]
      refine{val:= ?_,new:=rfl,none:=λn hg=> ?_,some:=λn o' hg=> ?_,eq:=λhx=> ?_}
      ·simp only[fF,an]
       rw[bV]
       simp only[af,Q2,TO.len]
       rw[f3.len,Nz]
       exact H.le.refl _
      ·simp only[fF,NF,N_,af]at hg⊢
       split at hg
       ·simp at hg
       ·rename_i hne;rw[Q5 hne];rfl
      ·simp only[fF,NF,N_,af]at hg⊢
       split at hg
       ·rename_i hne
        simp only[aX,Ny]at hg
        subst hg
        exact⟨_,by rw[Q6 hne],OLe.vec f3⟩
       ·simp[gt]at hg
      ·simp only[fF,an,NF,N_,aX]
       rw[bV]
       simp only[af,Q2,TO.len]
       rw[f4 hx,Nz]
       first|exact⟨rfl,rfl,rfl⟩|exact⟨rfl,trivial⟩|simp
  ·cases h
 ·cases h
theorem B6{l c:Operand}(h:qm l c=true):l=c:=by
 cases l<;>cases c<;>simp_all [qm]
theorem uc{e:Ty V.ι}{y:den V.N e}{ds:List D}(h1:D.Les ds (aT V.sz V.enc e y)):∀N:Nat,D.Rows (On N ds) ((On N y).map λx=>aT V.sz V.enc e x)
 |0=> .nil
 |N+1=> .cons h1 (uc h1 N)
theorem uu{d:Nat}{te:TypeId}{e:Ty V.ι}{y:den V.N e}{ds:List D}{N:Nat}(_:o.dst=some d)(h1:D.Les ds (aT V.sz V.enc e y))(h2:ex=true->ds=aT V.sz V.enc e y)
 (h:k {val:= .vh (nm d),upd:=[(nm d, .vec te e (On N y))],new:=[nm d]}=some r)
 (hv:∀K:Eff->Prop,K {val:= .vh (nm d) N,acc:=[],upd:=[(nm d,some (.vec te (tsz V.sz e) (On N ds)))],new:=[nm d]}->aS P nm o (ev (az V S)) (az V S).own? K):OpS ex P nm o S k r:=by
 refine⟨_,h,λm o hm=> ?_,hv _ ?_⟩
 ·simp only[af]at hm
  split at hm
  ·rename_i e;left;simp[e]
  ·simp[gt]at hm
 ·have f3:=uc h1 N
  refine{val:= ?_,new:=rfl,none:=λn hg=> ?_,some:=λn o' hg=> ?_,eq:=λhx=> ?_}
  ·simp only[fF,an]
   rw[bV]
   simp only[af,Q2,TO.len,Ph]
   exact H.le.refl _
  ·simp only[fF,NF,N_,af]at hg⊢
   split at hg
   ·simp[aX]at hg
   ·rename_i hne;rw[Q5 hne];rfl
  ·simp only[fF,NF,N_,af]at hg⊢
   split at hg
   ·rename_i hne
    simp only[aX,Ny]at hg
    subst hg
    exact⟨_,by rw[Q6 hne],OLe.vec f3⟩
   ·simp[gt]at hg
  ·simp only[fF,an,NF,N_,aX]
   rw[bV]
   simp only[af,Q2,TO.len,Ph,PE,h2 hx]
   first|exact⟨rfl,rfl,rfl⟩|exact⟨rfl,trivial⟩|simp
theorem kz:∀{ds:List D} {z:List Value},(z.map λx=>H.d (.v x))=ds.map H.d->ds=z.map .v
 |[],[],_=>rfl
 |[],_::_,h=>by simp at h
 |_::_,[],h=>by simp at h
 |d::ds,x::z,h=>by
  simp only[NF,OT,H.d.injEq]at h
  rw[<-h.1,kz h.2];rfl
theorem ut{t:TypeId}{l c:Operand}(ho:o.op= .makeSlice t l c)(h:tx V P nm call ex o S k=some r):OpS ex P nm o S k r:=by
 simp only[tx,ho]at h
 split at h
 ·rename_i te sz by_ e d ht hty hd
  split at h
  ·rename_i z kl n kc m hz hl hc
   split at h
   ·rename_i y hy
    have h':=ah h;clear h
    obtain⟨⟨hsz,hby,hzc⟩,h⟩:=h'
    subst hsz
    obtain⟨ds,e1,e2,e3⟩:=dz (ω:=S.len) hy
    rw[iV hzc]at e1
    have hds:=kz e1
    subst hds
    split at h
    ·rename_i hs
     have hs:=B6 hs
     subst hs
     obtain⟨h0,h⟩:=ah h
     obtain⟨h1,h⟩:=ah h
     have hnm:n=m:=by rw[hl]at hc;cases hc;rfl
     subst hnm
     refine uu hd e2 e3 h λK hK=> ?_
     simp only[aS,ho,ht,hd,hz,ak,hl,hc,an,aK]
     exact⟨⟨.inl trivial,h0,h0,h1,hby⟩,hK⟩
    ·have h':=ah h;clear h
     obtain⟨h2,h⟩:=h'
     subst h2
     have h':=ah h;clear h
     obtain⟨h0,h⟩:=h'
     have h':=ah h;clear h
     obtain⟨h1,h⟩:=h'
     refine uu (N:=0) (y:=y) hd e2 e3 h λK hK=> ?_
     simp only[aS,ho,ht,hd,hz,ak,hl,hc,an,aK]
     exact⟨⟨.inr trivial,Int.le_refl _,h0,h1,hby⟩,hK⟩
   ·cases h
  ·cases h
 ·cases h
theorem n8{t:Ty V.ι}{d:D}{z:den V.N t}(h:ofZ V ex t d=some z):D.le d (aK V.sz V.enc t z)/\(ex=true->d=aK V.sz V.enc t z):=by
 unfold ofZ at h
 split at h
 ·obtain⟨hk,h⟩:=ah h
  subst hk
  have h:=‹some _=some z›
  simp only[Ny]at h;subst h
  exact⟨D.le.refl _,λ_=>rfl⟩
 ·cases h;exact⟨D.le.refl _,λ_=>rfl⟩
 ·cases h;exact⟨D.le.refl _,λ_=>rfl⟩
 ·split at h
  ·cases h
  ·cases h;exact⟨by simp only[aK,N_];exact D.le.nil _,λh=>by cases h⟩
 ·split at h
  ·rename_i z' hz
   obtain⟨hc,h⟩:=ah h
   obtain⟨ds',e1,e2,e3⟩:=dz (ω:=λ_=>0) h
   rw[iV hc]at e1
   have:=kz e1
   subst this
   rw[oY hz]
   exact⟨D.le.agg e2,λhx=>by rw[e3 hx];rfl⟩
  ·cases h
 ·cases h
theorem zp{t:TypeId}{hint:Option Operand}(ho:o.op= .makeMap t hint)(h:tx V P nm call ex o S k=some r):OpS ex P nm o S k r:=by
 simp only[tx,ho]at h
 split at h
 ·rename_i kt et d ht hd
  split at h
  ·obtain⟨hh,h⟩:=ah h
   refine yF h λK hK=> ?_
   have hx:nH (ev (az V S)) hint=true:=by
    cases hint with
    |none=>rfl
    |some x=>
     simp only[I7]at hh
     simp only[nH,ak]
     split at hh
     ·rename_i hx;rw[hx];simp[an,aK]
     ·cases hh
   simp only[aS,ho,ht,hd]
   exact⟨hx,hK⟩
  ·cases h
 ·cases h
theorem CC{t:TypeId}{x i:Operand}{c:Bool}(ho:o.op= .lookup t x i c)(h:tx V P nm call ex o S k=some r):OpS ex P nm o S k r:=by
 simp only[tx,ho]at h
 split at h
 ·rename_i kt et n tk key ht hx hi
  split at h
  ·rename_i tk' tv es d hown hz
   split at h
   ·rename_i z hzz
    obtain⟨z1,z2⟩:=n8 hzz
    split at h
    ·rename_i htk
     subst htk
     obtain⟨hk,h⟩:=ah h
     cases hkt:P.underlying kt with
     |none=>rw[hkt]at hk;simp[eK]at hk
     |some kind=>
      rw[hkt]at hk
      have hf:=wL (tv:=tv) hk key es
      have hle:H.le (.d (((Mp.get (keq V.cells tk) key es).map (aK V.sz V.enc tv)).getD d)) (an V S.len (.lf tv ((Mp.get (keq V.cells tk) key es).getD z)))/\
       (ex=true->H.d (((Mp.get (keq V.cells tk) key es).map (aK V.sz V.enc tv)).getD d)=an V S.len (.lf tv ((Mp.get (keq V.cells tk) key es).getD z))):=by
       cases Mp.get (keq V.cells tk) key es with
       |none=>simp only[PU,Option.getD_none,an];exact⟨H.le.d z1,λhx=>by rw[z2 hx]⟩
       |some y=>simp only[N6,OK,an];exact⟨H.le.refl _,λ_=>trivial⟩
      cases c with
      |true=>
       refine l8 h λK hK=> ?_
       simp only[aS,ho,ht,hkt,hz,ak,hx,hi,an,qV hk,ir hown,hf]
       refine⟨⟨iJ hk,lL hk key es⟩,hK _ ?_ λhx=> ?_⟩
       ·simp only[an,encL]
        refine xn rfl λi x hx=> ?_
        match i with
        |0=>simp at hx;subst hx;exact⟨_,rfl,by simpa only[an]using hle.1⟩
        |1=>
         simp at hx;subst hx
         refine⟨_,rfl,?_⟩
         simp only[aK,Qo]
         exact H.le.refl _
        |i+2=>simp at hx
       ·simp only[an,encL]
        have:=hle.2 hx
        simp only[an]at this
        rw[this]
        simp only[aK,Qo]
      |false=>
       refine l8 h λK hK=> ?_
       simp only[aS,ho,ht,hkt,hz,ak,hx,hi,an,qV hk,ir hown,hf]
       exact⟨⟨iJ hk,lL hk key es⟩,hK _ hle.1 hle.2⟩
    ·cases h
   ·cases h
  ·cases h
 ·cases h
theorem FG{t:TypeId}{x i y:Operand}(hop:∀(ρ:Operand->H) (ω:Nat->Option Own) (K:Eff->Prop),EM P ρ ω t x i y K->aS P nm o ρ ω K)(h:Kp V P t x i y S k=some r):OpS ex P nm o S k r:=by
 simp only[Kp]at h
 split at h
 ·rename_i kt et n tk key tv z ht hx hi hy
  split at h
  ·rename_i tk' tv' es hown
   split at h
   ·rename_i htk
    subst htk
    split at h
    ·rename_i htv
     subst htv
     obtain⟨hk,h⟩:=ah h
     cases hkt:P.underlying kt with
     |none=>rw[hkt]at hk;simp[eK]at hk
     |some kind=>
      rw[hkt]at hk
      refine rH h (by rw[qX hown];rfl) λK hK=>hop _ _ _ ?_
      simp only[EM,ht,hkt,ak,hx,hi,hy,an,qV hk,ir hown,B8 hk]
      exact⟨⟨iJ hk,lL hk key es⟩,_,(Mp.set_perm _ _ _ _ _).map _,hK⟩
    ·cases h
   ·cases h
  ·cases h
 ·cases h
theorem uq{s:TypeId}{x:Operand}{f:Nat}(ho:o.op= .fieldAddr s x f)(h:tx V P nm call ex o S k=some r):OpS ex P nm o S k r:=by
 simp only[tx,ho]at h
 split at h
 ·rename_i fo hfo
  split at h
  ·rename_i n off hx
   refine aC h λK hK=> ?_
   simp only[aS,ho,hfo,ak,hx,an]at hK⊢;exact hK
  ·rename_i n sz i off hx
   refine aC h λK hK=> ?_
   simp only[aS,ho,hfo,ak,hx,an]at hK⊢;exact hK
  ·rename_i t x off hx
   obtain⟨hl,h⟩:=ah h
   refine aC h λK hK=> ?_
   simp only[aS,ho,hfo,ak,hx,an,OX]at hK⊢
   refine⟨?_,hK⟩
   rw[eW]at hl
   rw[Oe,bG];omega
  ·cases h
 ·cases h
theorem EE{s:TypeId}{x:Operand}{f:Nat}(ho:o.op= .field s x f)(h:tx V P nm call ex o S k=some r):OpS ex P nm o S k r:=by
 simp only[tx,ho]at h
 split at h
 ·rename_i off ag sz t y hft hx
  obtain⟨hc,h⟩:=ah h
  split at h
  ·rename_i v hv
   obtain⟨d,h1,h2⟩:=ff (ω:=S.len) hv
   have he:an V S.len (.lf t y)= .d (.agg (aT V.sz V.enc t y)):=by
    cases t<;>first|(simp[Ty.cell]at hc;done)|simp[an,aK,aT]
   refine aC h λK hK=> ?_
   simp only[aS,ho,hft,ak,hx,he,h1]
   rw[<-h2];exact hK
  ·cases h
 ·rename_i off ag sz cs hft hx
  split at h
  ·rename_i v hv
   obtain⟨y,h1,h2,h3⟩:=jI (ω:=S.len) hv
   rw[gX]at h1
   refine l8 h λK hK=> ?_
   simp only[aS,ho,hft,ak,hx,an,bA]
   cases ha:fC (encL V S.len cs)with
   |none=>simp only[h1];exact hK y h2 h3
   |some ds=>
    have hds:encL V S.len cs=ds.map H.d:=by
     obtain⟨g1,g2⟩:=eN ha
     apply Ot
     intro i;rw[g2,NB]
    rw[hds,<-OG]at h1
    have:∃d,da ag sz (ds.drop off)=some d/\y= .d d:=by
     cases ag with
     |false=>
      simp only[eR,da]at h1⊢
      cases hdr:ds.drop off with
      |nil=>rw[hdr]at h1;cases h1
      |cons c rr=>rw[hdr]at h1;simp at h1;exact⟨c,rfl,h1.symm⟩
     |true=>
      simp only[eR,da,Nz]at h1⊢
      split at h1
      ·rename_i hle
       rw[Q6 hle]
       rw[<-OE,bA,cY]at h1
       simp at h1
       exact⟨_,rfl,h1.symm⟩
      ·cases h1
    obtain⟨d,hd1,rfl⟩:=this
    simp only[hd1]
    exact hK _ h2 h3
  ·cases h
 ·cases h
theorem ur{t:TypeId}{x i:Operand}(ho:o.op= .indexAddr t x i)(h:tx V P nm call ex o S k=some r):OpS ex P nm o S k r:=by
 simp only[tx,ho]at h
 split at h
 ·rename_i te sz by_ ht
  split at h
  ·rename_i e xs kk n hx hi
   obtain⟨hsz,h⟩:=ah h
   obtain⟨hn,h⟩:=ah h
   obtain⟨y,hy,h⟩:=aR h
   refine aC h λK hK=> ?_
   simp only[aS,ho,ht,ak,hx,hi,an,aK,NB,hy,N6,N9]at hK⊢
   exact⟨⟨hsz,hn⟩,hK⟩
  ·rename_i m kk n hx hi
   split at h
   ·rename_i te2 e xs hc
    obtain⟨⟨h1,h2⟩,h⟩:=ah h
    refine aC h λK hK=> ?_
    simp only[aS,ho,ht,ak,hx,hi,an,aK,cf hc,dc hc]at hK⊢
    exact⟨⟨h1,by exact_mod_cast h2⟩,hK⟩
   ·cases h
  ·cases h
 ·cases h
theorem EF{t:TypeId}{x i:Operand}(ho:o.op= .index t x i)(h:tx V P nm call ex o S k=some r):OpS ex P nm o S k r:=by
 simp only[tx,ho]at h
 split at h
 ·rename_i s kk n ht hx hi
  obtain⟨hn,h⟩:=ah h
  obtain⟨b,hb,h⟩:=aR h
  refine aC h λK hK=> ?_
  simp only[aS,ho,ht,ak,hx,hi,an,aK,hb]at hK⊢
  exact⟨hn,hK⟩
 ·cases h
theorem EH{t:TypeId}{x:Operand}{lo hi mx:Option Operand}(ho:o.op= .slice t x lo hi mx)(h:tx V P nm call ex o S k=some r):OpS ex P nm o S k r:=by
 cases mx with
 |some m=>simp only[tx,ho]at h;cases h
 |none=>
 simp only[tx,ho]at h
 split at h
 ·rename_i s ht hx
  split at h
  ·rename_i l hh hl hh'
   obtain⟨hc,h⟩:=ah h
   refine aC h λK hK=> ?_
   simp only[aS,ho,ht,ak,hx,an,aK,fG hl,fG hh']at hK⊢
   exact⟨hc,hK⟩
  ·cases h
 ·rename_i te e xs ht hx
  split at h
  ·rename_i te2 sz' by_ l hh hel hl hh'
   obtain⟨hsz,h⟩:=ah h
   obtain⟨hc,h⟩:=ah h
   refine aC h λK hK=> ?_
   simp only[aS,ho,ht,ak,hx,an,aK,fG hl,fG hh',hel,Nz,OG,OE]at hK⊢
   exact⟨⟨hsz,hc⟩,hK⟩
  ·cases h
 ·cases h
theorem zo{x:Operand}{i:Nat}(ho:o.op= .extract x i)(h:tx V P nm call ex o S k=some r):OpS ex P nm o S k r:=by
 simp only[tx,ho]at h
 split at h
 ·rename_i vs hx
  split at h
  ·rename_i v hv
   refine aC h λK hK=> ?_
   simp only[aS,ho,ak,hx,an,encL_map,NB,hv,N6]at hK⊢
   exact hK
  ·cases h
 ·cases h
theorem wi{fn:Fn}{first captured:Array Operand}(ho:o.op= .makeFunc fn first captured)(h:tx V P nm call ex o S k=some r):OpS ex P nm o S k r:=by
 cases fn with
 |func f=>
  simp only[tx,ho]at h
  refine aC h λK hK=> ?_
  simp only[aS,ho,an,eL]at hK⊢;exact hK
 |_=>simp only[tx,ho]at h;cases h
theorem Ig{c:Call}{f:Operand}(hcall:ay P call)(ho:o.op= .call c)(hc:c.callee= .value f)(h:tx V P nm call ex o S k=some r):OpS ex P nm o S k r:=by
 simp only[tx,ho,hc]at h
 split at h
 ·rename_i fid first captured hf
  obtain⟨te,h1,h2,h3⟩:=hcall A fid _ S o.dst k r h
  refine⟨te,h1,h2,?_⟩
  simp only[aS,ho,hc,ak,hf,an,eL]
  rw[ft,ft]at h3
  obtain⟨own,rr,own',q1,q2,q3⟩:=h3
  exact⟨own,rr,own',q1,q2,{q3 with eq:=λ_=>q3.eq rfl}⟩
 ·rename_i fid hf
  obtain⟨te,h1,h2,h3⟩:=hcall A fid _ S o.dst k r h
  refine⟨te,h1,h2,?_⟩
  simp only[aS,ho,hc,ak,hf,an,aK,eL]
  obtain⟨own,rr,own',q1,q2,q3⟩:=h3
  exact⟨own,rr,own',q1,q2,{q3 with eq:=λ_=>q3.eq rfl}⟩
 ·rename_i x hf
  cases x with
  |none=>cases h
  |some fid=>
   obtain⟨te,h1,h2,h3⟩:=hcall A fid _ S o.dst k r h
   refine⟨te,h1,h2,?_⟩
   simp only[aS,ho,hc,ak,hf,an,aK,Ip,eL]
   obtain⟨own,rr,own',q1,q2,q3⟩:=h3
   exact⟨own,rr,own',q1,q2,{q3 with eq:=λ_=>q3.eq rfl}⟩
 ·cases h
theorem zm{c:Call}{b:Builtin}(ho:o.op= .call c)(hc:c.callee= .builtin b)(h:tx V P nm call ex o S k=some r):OpS ex P nm o S k r:=by
 simp only[tx,ho,hc,xj]at h
 split at h
 ·rename_i e xs harg
  obtain⟨hk,h⟩:=ah h
  refine aC h λK hK=> ?_
  simp only[aS,ho,hc,eL,harg,encL,an,aK,Nz]at hK⊢;exact⟨hk,hK⟩
 ·rename_i n harg
  obtain⟨hk,h⟩:=ah h
  refine aC h λK hK=> ?_
  simp only[aS,ho,hc,eL,harg,encL,an,aK]at hK⊢;exact⟨hk,hK⟩
 ·rename_i n harg
  split at h
  ·rename_i tk tv es hown
   obtain⟨hk,h⟩:=ah h
   refine aC h λK hK=> ?_
   simp only[aS,ho,hc,eL,harg,encL,an,aK,ir hown,Nz]at hK⊢;exact⟨hk,hK⟩
  ·cases h
 ·rename_i s harg
  obtain⟨hk,h⟩:=ah h
  refine aC h λK hK=> ?_
  simp only[aS,ho,hc,eL,harg,encL,an,aK]at hK⊢;exact⟨hk,hK⟩
 ·rename_i kx a ky b harg
  refine aC h λK hK=> ?_
  simp only[aS,ho,hc,eL,harg,encL,an,aK]at hK⊢;exact hK
 ·rename_i kx a ky b harg
  refine aC h λK hK=> ?_
  simp only[aS,ho,hc,eL,harg,encL,an,aK]at hK⊢;exact hK
 ·rename_i x e' news harg
  split at h
  ·rename_i d t t' hd htys
   split at h
   ·rename_i te sz bytes hel
    have hone:∀l:List (den V.N e'),((l.map λx=>aT V.sz V.enc e' x).all λr=>r.all D.one)=true:=by
     intro l
     rw[OZ,NM]
     exactλx _=>rK
    have hby:∀n:Nat,bytes<=32768->n<=most->n *bytes<=140737488355328:=by
     intro n h1 h2
     have:n *bytes<=most *32768:=P5 h2 h1
     unfold most at this
     omega
    split at h
    ·rename_i n
     split at h
     ·rename_i te2 e xs hc'
      split at h
      ·rename_i hee
       subst hee
       obtain⟨⟨h1,h2,h3,h4,h5⟩,h⟩:=ah h
       obtain⟨h6,h⟩:=ah h
       refine n9 (d:=d) (old:=[(n,xs.length)]) (λp hp=>by simp at hp;subst hp;exact dc hc') h λK hK=> ?_
       simp only[aS,ho,hc,eL,harg,encL,an,aK,hd,htys,hel,cf hc',Nz,dc hc']at hK⊢
       refine⟨⟨h1,h2,h3,h3,trivial,hone news,hby _ h4 h6,by unfold most at h6;omega⟩,?_⟩
       have:=hK
       simp only[Of,NT]at this
       exact h3▸this
      ·cases h
     ·cases h
    ·obtain⟨⟨h1,h2,h3⟩,h⟩:=ah h
     obtain⟨h4,h⟩:=ah h
     refine n9 (d:=d) (old:=[]) (λp hp=>by cases hp) h λK hK=> ?_
     simp only[aS,ho,hc,eL,harg,encL,an,aK,bw,hd,htys,hel,Nz]at hK⊢
     refine⟨⟨h1,h2,hone news,hby _ h3 h4,by unfold most at h4;omega⟩,?_⟩
     exact h2▸hK
    ·cases h
   ·cases h
  ·cases h
 ·rename_i x s harg
  split at h
  ·rename_i d t t' hd htys
   split at h
   ·rename_i te sz bytes hel
    obtain⟨⟨g1,g2,g3,g4⟩,h⟩:=ah h
    have hs:P.underlying t'=some .string:=by
     unfold I_ at g1
     split at g1
     ·assumption
     ·cases g1
    have hz:lO P te=some (.v (.int .u8 0)):=by
     unfold FJ at g4
     split at g4
     ·rename_i n hn;have:n=0:=by simpa using g4
      rw[this]at hn;exact hn
     ·cases g4
    split at h
    ·rename_i n _
     split at h
     ·rename_i te2 xs hc'
      obtain⟨⟨h1,h2⟩,h⟩:=ah h
      obtain⟨h6,h⟩:=ah h
      refine n9 (d:=d) (e:= .int .u8) (old:=[(n,xs.length)]) (λp hp=>by simp at hp;subst hp;exact dc hc') h λK hK=> ?_
      simp only[aS,ho,hc,eL,harg,encL,an,aK,hd,htys,hel,cf hc',Nz,dc hc']at hK⊢
      refine⟨⟨hs,hz,h1,g2,rfl,g3,trivial,by unfold most at h6;omega⟩,?_⟩
      have:=hK
      simp only[Of,NT]at this
      exact this
     ·cases h
    ·obtain⟨h4,h⟩:=ah h
     refine n9 (d:=d) (e:= .int .u8) (old:=[]) (λp hp=>by cases hp) h λK hK=> ?_
     simp only[aS,ho,hc,eL,harg,encL,an,aK,bw,hd,htys,hel,Nz]at hK⊢
     exact⟨⟨hs,hz,g2,g3,by unfold most at h4;omega⟩,hK⟩
    ·cases h
   ·cases h
  ·cases h
 ·rename_i n harg
  split at h
  ·rename_i te e xs hown
   obtain⟨hk,h⟩:=ah h
   refine aC h λK hK=> ?_
   simp only[aS,ho,hc,eL,harg,encL,an,aK,cf hown]at hK⊢
   exact⟨hk,hK⟩
  ·cases h
 ·rename_i n ki l harg
  split at h
  ·rename_i te xs pt it hown htys
   obtain⟨⟨h1,h2,h3⟩,h⟩:=ah h
   obtain⟨⟨h4,h5⟩,h⟩:=ah h
   have hp:P.underlying pt=some (.pointer te):=by
    unfold AM at h1
    split at h1
    ·rename_i e' he;rw[Ob h1]at he;exact he
    ·cases h1
   refine DR (λ_ _=>by simp[an]) h (dc hown) λK hK=> ?_
   simp only[aS,ho,hc,eL,harg,encL,an,aK,cf hown,htys,Nz]at hK⊢
   erw[nL]
   exact⟨⟨hp,h2,rfl,h3,h4,by unfold most at h5;subst h4;show(xs.length:Int)<=1000000000000;omega⟩,hK⟩
  ·cases h
 ·cases h
theorem xp(hcall:ay P call)(hf:∀te,k te=some r->∀d∈te.new,S.fresh d=true)(h:tx V P nm call ex o S k=some r):OpS ex P nm o S k r:=by
 cases ho:o.op with
 |move x=>exact CD (.inl ho) h
 |assign x=>exact CD (.inr ho) h
 |pick c x y=>exact Ij ho h
 |alloc t=>exact EA ho h
 |box t x=>exact JV ho hf h
 |load t x=>exact Ih ho h
 |store t x y=>exact EI ho h
 |nilCheck x=>exact wj ho h
 |binOp op t x y t'=>exact EB ho h
 |unOp op t x=>exact Ik ho h
 |convert s t x=>exact zn ho h
 |build t ps=>exact EC ho h
 |buildSlice t n ps=>exact r7 ho h
 |fieldAddr s x f=>exact uq ho h
 |field s x f=>exact EE ho h
 |indexAddr t x i=>exact ur ho h
 |index t x i=>exact EF ho h
 |slice t x lo hi mx=>exact EH ho h
 |extract x i=>exact zo ho h
 |makeFunc fn a b=>exact wi ho h
 |makeInterface t x=>exact mD ho h
 |makeSlice t l c=>exact ut ho h
 |makeMap t c=>exact zp ho h
 |range t x=>exact EG ho h
 |next x b=>exact Ii ho h
 |entry x=>exact ED ho h
 |lookup t x i c=>exact CC ho h
 |mapUpdate t x i y=>exact FG (λρ ω K hh=>by simpa only[aS,ho]using hh) (by simpa only[tx,ho]using h)
 |insert t x i y=>exact FG (λρ ω K hh=>by simpa only[aS,ho]using hh) (by simpa only[tx,ho]using h)
 |call c=>
  cases hc:c.callee with
  |value f=>exact Ig hcall ho hc h
  |builtin b=>exact zm ho hc h
  |invoke x m=>simp only[tx,ho,hc]at h;cases h
 |_=>simp only[tx,ho]at h;cases h
end
end Go.Tx
end
section
namespace Go.Tx
open Go.Awp
variable [Inhabited GMem]
inductive Pt (ι:Type)where
 |dat (t:Ty ι)
 |bp (c off:Nat)
 |vh (c:Nat)
 |mp (c:Nat)
 |np (c:Nat)
 /-- the nil of an interface -/
 |nif
 |fn (f:Nat) (a b:List Nat)
 /-- a struct, some of its cells owned slices -/
 |ag (cs:List (Ty ι⊕Nat))
 /-- a cut of an owned slice -/
 |sv (c sz:Nat)
inductive OPt (ι:Type)where
 |box (o:Option TypeId) (cells:List (Pt ι))
 |st (i:ι)
 |vec (te:TypeId) (e:Ty ι)
 /-- a slice whose elements own what they hold: all of them are there, or some are out -/
 |dvec (te:TypeId) (e:Ty ι) (out:Bool)
 |map (k v:Ty ι)
 |iter
 |miter (m:Nat) (k v:Ty ι)
 |que (te:TypeId) (e:Ty ι)
 |maps (te:TypeId) (k v:Ty ι)
 |bar (n:Nat) (e:Ty ι)
structure Cut (ι:Type)where
 slots:List (Nat×Pt ι)
 objs:List (Nat×OPt ι)
section
variable {ι:Type}
def FS:List (Ty ι⊕Nat)->List (Ty ι)
 |[]=>[]
 | .inl t::r=>t::FS r
 | .inr _::r=>FS r
def Pt.tys:Pt ι->List (Ty ι)
 | .dat t=>[t]
 | .ag cs=>FS cs
 | .np _=>[.bool]
 | .sv _ _=>[.int .i64, .int .i64]
 |_=>[]
def BR:List (Pt ι)->List (Ty ι)
 |[]=>[]
 |p::r=>p.tys++BR r
def Cf:List (Nat×Pt ι)->List (Ty ι)
 |[]=>[]
 |p::r=>p.2.tys++Cf r
def OPt.tys:OPt ι->List (Ty ι)
 | .box _ cells=>BR cells
 | .st i=>[.st i]
 | .vec _ e=>[.sl e]
 | .dvec _ e out=>match out with
  |true=>[.sl (.op e)]
  |false=>[.sl e]
 | .map k v=>[.mp k v]
 | .iter=>[.str, .int .i64]
 | .miter _ k v=>[.mp k v, .mp k v]
 | .que _ e=>[.sl e]
 | .maps _ k v=>[.sl (.op (.mp k v))]
 | .bar n e=>[.ar n e]
def BB:List (Nat×OPt ι)->List (Ty ι)
 |[]=>[]
 |p::r=>p.2.tys++BB r
def Cut.tys(c:Cut ι):List (Ty ι):=Cf c.slots++BB c.objs
def II{α:Type}:List (Option α)->Option (List α)
 |[]=>some []
 |x::r=>match x with
  |none=>none
  |some y=>match II r with
   |some l=>some (y::l)
   |none=>none
theorem zF{α:Type}:∀{l:List (Option α)} {r:List α},II l=some r->l=r.map some
 |[],r,h=>by simp[II]at h;subst h;rfl
 |x::l,r,h=>by
  simp only[II]at h
  split at h
  ·cases h
  ·split at h
   ·rename_i l' hl
    cases h
    rw[zF hl];rfl
   ·cases h
@[reducible] def HL (N:ι->Type):List (Ty ι)->Type
 |[]=>Unit
 |t::r=>den N t×HL N r
def Jk{N:ι->Type}:(ts:List (Ty ι))->HL N ts->List (cg N)
 |[],_=>[]
 |t::r,v=>⟨t,v.1⟩::Jk r v.2
def FF[DecidableEq ι]{N:ι->Type}:(ts:List (Ty ι))->List (cg N)->Option (HL N ts)
 |[],[]=>some ()
 |t::r,l::ls=>if h:l.t=t then match FF r ls with
  |some v=>some (h▸l.x,v)
  |none=>none
  else none
 |_,_=>none
theorem r6[DecidableEq ι]{N:ι->Type}:∀{ts:List (Ty ι)} {ls:List (cg N)} {v:HL N ts},FF ts ls=some v->Jk ts v=ls
 |[],[],v,_=>rfl
 |[],_::_,v,h=>by simp[FF]at h
 |_::_,[],v,h=>by simp[FF]at h
 |t::r,l::ls,v,h=>by
  simp only[FF]at h
  split at h
  ·rename_i ht
   split at h
   ·rename_i w hw
    obtain⟨lt,lx⟩:=l
    simp only at ht
    subst ht
    simp at h;subst h
    simp[Jk,r6 hw]
   ·cases h
  ·cases h
abbrev cq:=List (Nat×Nat)
def m5(σ:cq)(c n:Nat):Option cq:=match gt σ c with
 |some m=>if m=n then some σ else none
 |none=>if σ.any (λp=>Ov p.2 n)=true then none else some ((c,n)::σ)
def sf{N:ι->Type}(σ:cq):List Nat->List (TV N)->Option cq
 |[],[]=>some σ
 |c::r, .bp n 0::s=>match m5 σ c n with
  |some σ'=>sf σ' r s
  |none=>none
 |_,_=>none
end
section
variable (V:i7)
def mtC(σ:cq):List (Ty V.ι⊕Nat)->List (TV V.N)->Option (cq×List (cg V.N))
 |[],[]=>some (σ,[])
 | .inl t::r,x::s=>match lV V false t x with
  |some l=>match mtC σ r s with
   |some (σ',ls)=>some (σ',l::ls)
   |none=>none
  |none=>none
 | .inr c::r, .vh n::s=>match m5 σ c n with
  |some σ'=>mtC σ' r s
  |none=>none
 |_,_=>none
def mt1(σ:cq):Pt V.ι->TV V.N->Option (cq×List (cg V.N))
 | .dat t, .lf t' x=>if t'=t then some (σ,[⟨t',x⟩])else none
 | .dat (.sl e), .raw (.slice none 0 0)=>some (σ,[⟨.sl e,[]⟩])
 | .dat .er, .raw .nilIface=>some (σ,[⟨.er,false⟩])
 | .dat (.st i), .agg cs=>match mkV V false (some (.st i)) cs with
  | .lf t x=>some (σ,[⟨t,x⟩])
  |_=>none
 | .bp c off, .bp n off'=>if off=off' then(m5 σ c n).map λσ'=>(σ',[])else none
 | .vh c, .vh n=>(m5 σ c n).map λσ'=>(σ',[])
 | .mp c, .mp n=>(m5 σ c n).map λσ'=>(σ',[])
 | .np c, .np n b=>(m5 σ c n).map λσ'=>(σ',[⟨.bool,b⟩])
 | .np c, .bp n 0=>(m5 σ c n).map λσ'=>(σ',[⟨.bool,true⟩])
 | .np _, .raw (.pointer none)=>some (σ,[⟨.bool,false⟩])
 | .nif, .raw .nilIface=>some (σ,[])
 | .dat (.op e), .raw (.pointer none)=>some (σ,[⟨.op e,none⟩])
 | .sv c z, .sv n s i off=>if s=z then(m5 σ c n).map λσ'=>(σ',[⟨.int .i64,(i:Int)⟩,⟨.int .i64,(off:Int)⟩])else none
 | .fn f a b, .fn f' a' b'=>if f=f' then match sf σ a a' with
   |some σ'=>(sf σ' b b').map λσ''=>(σ'',[])
   |none=>none
  else none
 | .ag cs, .agg vs=>mtC V σ cs vs
 |_,_=>none
def mtL(σ:cq):List (Pt V.ι)->List (TV V.N)->Option (cq×List (cg V.N))
 |[],[]=>some (σ,[])
 |p::r,x::s=>match mt1 V σ p x with
  |some (σ',l)=>match mtL σ' r s with
   |some (σ'',l')=>some (σ'',l++l')
   |none=>none
  |none=>none
 |_,_=>none
def mtO(S:TS V.N)(σ:cq):List (Nat×OPt V.ι)->Option (cq×List (cg V.N))
 |[]=>some (σ,[])
 |(c,p)::r=>match gt σ c with
  |some n=>match p,S.own? n with
   | .box o ps,some (.box o' cells)=>if o=none\/o=o' then match mtL V σ ps cells with
    |some (σ',l)=>match mtO S σ' r with
     |some (σ'',l')=>some (σ'',l++l')
     |none=>none
    |none=>none
    else none
   | .st i,some (.box _ cells)=>match mkV V false (some (.st i)) cells with
    | .lf (.st j) x=>match mtO S σ r with
     |some (σ'',l')=>some (σ'',⟨.st j,x⟩::l')
     |none=>none
    |_=>none
   | .st i,some (.bst j x)=>if i=j then match mtO S σ r with
     |some (σ'',l')=>some (σ'',⟨.st j,x⟩::l')
     |none=>none
    else none
   | .box none ps,some (.bst j x)=>match mtL V σ ps ((V.cells j x).map λl=> .lf l.t l.x)with
    |some (σ',l)=>match mtO S σ' r with
     |some (σ'',l')=>some (σ'',l++l')
     |none=>none
    |none=>none
   | .vec te e,some (.vec te' e' xs)=>if te=te'/\e=e' then match mtO S σ r with
     |some (σ'',l')=>some (σ'',⟨.sl e',xs⟩::l')
     |none=>none
    else none
   | .dvec te e true,some (.pvec te' e' xs)=>if te=te'/\e=e' then match mtO S σ r with
     |some (σ'',l')=>some (σ'',⟨.sl (.op e'),xs⟩::l')
     |none=>none
    else none
   | .dvec te e true,some (.dvec te' e' xs)=>if te=te'/\e=e' then match mtO S σ r with
     |some (σ'',l')=>some (σ'',⟨.sl (.op e'),xs.map some⟩::l')
     |none=>none
    else none
   | .dvec te e false,some (.dvec te' e' xs)=>if te=te'/\e=e' then match mtO S σ r with
     |some (σ'',l')=>some (σ'',⟨.sl e',xs⟩::l')
     |none=>none
    else none
   | .iter,some (.iter s p)=>match mtO S σ r with
     |some (σ'',l')=>some (σ'',⟨.str,s⟩::⟨.int .i64,p⟩::l')
     |none=>none
   | .miter cm tk tv,some (.miter m tk' tv' es rest _)=>if tk=tk'/\tv=tv' then match m5 σ cm m with
     |some σ'=>match mtO S σ' r with
      |some (σ'',l')=>some (σ'',⟨.mp tk' tv',es⟩::⟨.mp tk' tv',rest⟩::l')
      |none=>none
     |none=>none
    else none
   | .map tk tv,some (.map tk' tv' es)=>if tk=tk'/\tv=tv' then match mtO S σ r with
     |some (σ'',l')=>some (σ'',⟨.mp tk' tv',es⟩::l')
     |none=>none
    else none
   | .que te e,some (.que te' e' xs)=>if te=te'/\e=e' then match mtO S σ r with
     |some (σ'',l')=>some (σ'',⟨.sl e',xs⟩::l')
     |none=>none
    else none
   | .maps te tk tv,some (.maps te' tk' tv' es _)=>if te=te'/\tk=tk'/\tv=tv' then match mtO S σ r with
     |some (σ'',l')=>some (σ'',⟨.sl (.op (.mp tk' tv')),es⟩::l')
     |none=>none
    else none
   | .bar m e,some (.bar m' e' xs)=>if m=m'/\e=e' then match mtO S σ r with
     |some (σ'',l')=>some (σ'',⟨.ar m' e',xs⟩::l')
     |none=>none
    else none
   |_,_=>none
  |none=>none
def bdC:List (Ty V.ι⊕Nat)->List (cg V.N)->Option (List (TV V.N)×List (cg V.N))
 |[],ls=>some ([],ls)
 | .inl _::r,l::ls=>match bdC r ls with
  |some (vs,ls')=>some (.lf l.t l.x::vs,ls')
  |none=>none
 | .inl _::_,[]=>none
 | .inr c::r,ls=>match bdC r ls with
  |some (vs,ls')=>some (.vh c::vs,ls')
  |none=>none
def bd1:(p:Pt V.ι)->List (cg V.N)->Option (TV V.N×List (cg V.N))
 | .dat _,l::ls=>some (.lf l.t l.x,ls)
 | .dat _,[]=>none
 | .bp c off,ls=>some (.bp c off,ls)
 | .vh c,ls=>some (.vh c,ls)
 | .mp c,ls=>some (.mp c,ls)
 | .np c,⟨.bool,b⟩::ls=>some (.np c b,ls)
 | .np _,_=>none
 | .nif,ls=>some (.raw .nilIface,ls)
 | .sv c z,⟨.int .i64,i⟩::⟨.int .i64,off⟩::ls=>some (.sv c z i.toNat off.toNat,ls)
 | .sv _ _,_=>none
 | .fn f a b,ls=>some (.fn f (a.map λc=> .bp c 0) (b.map λc=> .bp c 0),ls)
 | .ag cs,ls=>match bdC V cs ls with
  |some (vs,ls')=>some (.agg vs,ls')
  |none=>none
def bdL:List (Pt V.ι)->List (cg V.N)->Option (List (TV V.N)×List (cg V.N))
 |[],ls=>some ([],ls)
 |p::r,ls=>match bd1 V p ls with
  |some (x,ls')=>match bdL r ls' with
   |some (xs,ls'')=>some (x::xs,ls'')
   |none=>none
  |none=>none
def bdO:List (Nat×OPt V.ι)->List (cg V.N)->Option (List (Nat×TO V.N))
 |[],[]=>some []
 |[],_::_=>none
 |(c, .box o ps)::r,ls=>match bdL V ps ls with
  |some (xs,ls')=>match bdO r ls' with
   |some os=>some ((c, .box o xs)::os)
   |none=>none
  |none=>none
 |(c, .st i)::r,⟨.st j,x⟩::ls=>if j=i then match bdO r ls with
    |some os=>some ((c, .bst j x)::os)
    |none=>none
  else none
 |(c, .vec te e)::r,⟨.sl e',xs⟩::ls=>if e'=e then match bdO r ls with
    |some os=>some ((c, .vec te e' xs)::os)
    |none=>none
  else none
 |(c, .dvec te e true)::r,⟨.sl (.op e'),xs⟩::ls=>if e'=e then match bdO r ls with
    |some os=>some ((c, .pvec te e' xs)::os)
    |none=>none
  else none
 |(c, .dvec te e false)::r,⟨.sl e',xs⟩::ls=>if e'=e then match bdO r ls with
    |some os=>some ((c, .dvec te e' xs)::os)
    |none=>none
  else none
 |(c, .iter)::r,⟨.str,s⟩::⟨.int .i64,p⟩::ls=>match bdO r ls with
    |some os=>some ((c, .iter s p)::os)
    |none=>none
 |(c, .miter cm tk tv)::r,⟨.mp tk' tv',es⟩::⟨.mp tk2 tv2,rest⟩::ls=>if h:(tk2=tk'/\tv2=tv')/\tk'=tk/\tv'=tv then match bdO r ls with
    |some os=>some ((c, .miter cm tk' tv' es (h.1.1▸h.1.2▸rest) none)::os)
    |none=>none
  else none
 |(c, .map tk tv)::r,⟨.mp tk' tv',es⟩::ls=>if tk'=tk/\tv'=tv then match bdO r ls with
    |some os=>some ((c, .map tk' tv' es)::os)
    |none=>none
  else none
 |(c, .que te e)::r,⟨.sl e',xs⟩::ls=>if e'=e then match bdO r ls with
    |some os=>some ((c, .que te e' xs)::os)
    |none=>none
  else none
 |(c, .maps te tk tv)::r,⟨.sl (.op (.mp tk' tv')),es⟩::ls=>if tk'=tk/\tv'=tv then match bdO r ls with
    |some os=>some ((c, .maps te tk' tv' es none)::os)
    |none=>none
  else none
 |(c, .bar m e)::r,⟨.ar m' e',xs⟩::ls=>if m'=m/\e'=e then match bdO r ls with
    |some os=>some ((c, .bar m' e' xs)::os)
    |none=>none
  else none
 |_,_=>none
def build(c:Cut V.ι)(ls:List (cg V.N)):TS V.N:=match bdL V (c.slots.map (·.2)) ls with
 |some (xs,ls')=>match bdO V c.objs ls' with
  |some os=>{tmps:=(c.slots.map (·.1)).zip xs,own:=os}
  |none=>{tmps:=[],own:=[]}
 |none=>{tmps:=[],own:=[]}
def bh(c:Cut V.ι)(v:HL V.N c.tys):TS V.N:=build V c (Jk c.tys v)
def Ft(n:Nat)(e:Ty V.ι)(xs:List (den V.N e))(v:TV V.N):TV V.N:=match v with
 | .vh m=>if m=n then .lf (.sl e) xs else .vh m
 |v=>if TV.has n v=true then .junk else v
def La(n:Nat)(e:Ty V.ι)(xs:List (den V.N e))(v:TV V.N):TV V.N:=match v with
 | .agg cs=> .agg (cs.map (Ft V n e xs))
 |v=>Ft V n e xs v
def sS(n:Nat)(e:Ty V.ι)(xs:List (den V.N e)):TO V.N->TO V.N
 | .box o cells=> .box o (cells.map (Ft V n e xs))
 |o=>o
def TS.frz(S:TS V.N)(n:Nat)(e:Ty V.ι)(xs:List (den V.N e)):TS V.N:=
 {tmps:=S.tmps.map λp=>(p.1,La V n e xs p.2),own:=(n, .gone xs.length)::S.own.map λp=>(p.1,sS V n e xs p.2)}
def Gq(S:TS V.N)(v:TV V.N):TS V.N:=match v with
 | .vh n=>match S.own? n with
  |some (.vec _ e xs)=>S.frz V n e xs
  |some (.dvec te e ys)=>TS.frz V {S with own:=(n, .vec te e ys)::S.own} n e ys
  |_=>S
 |_=>S
def frzL(S:TS V.N):List (TV V.N)->TS V.N
 |[]=>S
 |v::r=>frzL (Gq V S v) r
def CI:List (Ty V.ι⊕Nat)->List (TV V.N)->List (TV V.N)
 | .inl _::r,v::s=>v::CI r s
 | .inr _::r,_::s=>CI r s
 |_,_=>[]
def Im:Pt V.ι->TV V.N->List (TV V.N)
 | .dat _, .vh n=>[.vh n]
 | .dat _, .agg cs=>cs
 | .ag cs, .agg vs=>CI V cs vs
 |_,_=>[]
def Iy(dv:Bool)(te:TypeId)(e:Ty V.ι):TO V.N:=match dv with
 |true=> .dvec te e []
 |false=> .vec te e []
def vC(dv:Bool)(te:TypeId)(e:Ty V.ι)(S:TS V.N)(t:Nat):TS V.N:=match gt S.tmps t with
 |some (.raw (.slice none 0 0))=>if S.fresh (60000+t)=true/\O4 (60000+t) given=true then{tmps:=(t, .vh (60000+t))::S.tmps,own:=(60000+t,Iy V dv te e)::S.own}else S
 |_=>S
def p5(dv:Bool)(te:TypeId)(e:Ty V.ι)(S:TS V.N)(b i:Nat):TS V.N:=match S.own? b with
 |some (.box o cells)=>match cells[i]? with
  |some (.raw (.slice none 0 0))=>if S.fresh (70000+S.own.length)=true/\O4 (70000+S.own.length) given=true then
   {tmps:=S.tmps,own:=(b, .box o (cells.set i (.vh (70000+S.own.length))))::(70000+S.own.length,Iy V dv te e)::S.own}else S
  |_=>S
 |_=>S
def cellAt(S:TS V.N)(b i:Nat):TV V.N:=match S.own? b with
 |some (.box _ cells)=>(cells[i]?).getD .junk
 |_=> .junk
def eM(objs:List (Nat×OPt V.ι))(b:Nat):Nat->List (Pt V.ι)->TS V.N->TS V.N
 |_,[],S=>S
 |i, .vh c::r,S=>match gt objs c with
  |some (.vec te e)=>eM objs b (i+1) r (p5 V false te e S b i)
  |some (.dvec te e _)=>eM objs b (i+1) r (p5 V true te e S b i)
  |_=>eM objs b (i+1) r S
 |i, .dat ty::r,S=>eM objs b (i+1) r (frzL V S (Im V (.dat ty) (cellAt V S b i)))
 |i,_::r,S=>eM objs b (i+1) r S
def BO(objs:List (Nat×OPt V.ι))(c b:Nat)(S:TS V.N):TS V.N:=match gt objs c with
 |some (.box _ ps)=>eM V objs b 0 ps S
 |some (.st _)=>match S.own? b with
  |some (.box _ cells)=>frzL V S cells
  |_=>S
 |_=>S
def FA:Pt V.ι->TV V.N->List (Nat×Nat)
 | .bp c _, .bp n _=>[(c,n)]
 | .mp c, .mp n=>[(c,n)]
 | .fn _ a b, .fn _ a' b'=>(a++b).zip ((a'++b').map λv=>match v with
  | .bp n _=>n
  |_=>0)
 |_,_=>[]
def FB:List (Pt V.ι)->List (TV V.N)->List (Nat×Nat)
 |p::ps,v::vs=>FA V p v++FB ps vs
 |_,_=>[]
def Jn(objs:List (Nat×OPt V.ι))(S:TS V.N)(c b:Nat):List (Nat×Nat):=match gt objs c,S.own? b with
 |some (.box _ ps),some (.box _ cells)=>FB V ps cells
 |_,_=>[]
def IA(objs:List (Nat×OPt V.ι)):Nat->List (Nat×Nat)->TS V.N->TS V.N
 |0,_,S=>S
 |_,[],S=>S
 |m+1,(c,b)::r,S=>IA objs m (r++Jn V objs S c b) (BO V objs c b S)
def r8(objs:List (Nat×OPt V.ι))(S:TS V.N):List (Nat×Pt V.ι)->TS V.N
 |[]=>S
 |(t, .vh c)::r=>match gt objs c with
  |some (.vec te e)=>r8 objs (vC V false te e S t) r
  |some (.dvec te e _)=>r8 objs (vC V true te e S t) r
  |_=>r8 objs S r
 |(t, .dat ty)::r=>r8 objs (frzL V S (Im V (.dat ty) (S.get t))) r
 |(t, .ag cs)::r=>r8 objs (frzL V S (Im V (.ag cs) (S.get t))) r
 |_::r=>r8 objs S r
def LF(objs:List (Nat×OPt V.ι))(S:TS V.N)(slots:List (Nat×Pt V.ι)):TS V.N:=match objs with
 |[]=>r8 V objs S slots
 |_=>IA V objs (4 *objs.length) (slots.flatMap λp=>FA V p.2 (S.get p.1)) (r8 V objs S slots)
def Gm(c:Cut V.ι)(S:TS V.N):Option (cq×List (cg V.N)):=match mtL V [] (c.slots.map (·.2)) (c.slots.map λp=>S.get p.1)with
 |some (σ,l)=>match mtO V S σ c.objs with
  |some (σ',l')=>some (σ',l++l')
  |none=>none
 |none=>none
def uA(objs:List (Nat×OPt V.ι)):Pt V.ι->Bool
 | .vh c=>objs.any λp=>Ov p.1 c
 | .ag cs=>cs.all λx=>match x with
  | .inr c=>objs.any λp=>Ov p.1 c
  | .inl _=>true
 |_=>true
def BC(c:Cut V.ι)(σ:cq):Bool:=σ.all (λp=>O4 p.1 given||Ov p.1 p.2)&&c.slots.all (λp=>uA V c.objs p.2)&&c.objs.all (λp=>match p.2 with
 | .box _ ps=>ps.all (uA V c.objs)
 |_=>true)
def wK(c:Cut V.ι)(S:TS V.N):Option (HL V.N c.tys):=match Gm V c (LF V c.objs S c.slots)with
 |some (σ,ls)=>if BC V c σ=true then FF c.tys ls else none
 |none=>none
end
end Go.Tx
end
section
namespace Go.Tx
open Go.Awp
variable [Inhabited GMem]
def Sub(σ σ':cq):Prop:=∀c n,gt σ c=some n->gt σ' c=some n
theorem Sub.refl(σ:cq):Sub σ σ:=λ_ _ h=>h
theorem Sub.trans{a b c:cq}(h:Sub a b)(k:Sub b c):Sub a c:=λx n hx=>k x n (h x n hx)
def Inj(σ:cq):Prop:=∀c c' n,gt σ c=some n->gt σ c'=some n->c=c'
theorem ct{σ σ':cq}{c n:Nat}(h:m5 σ c n=some σ'):Sub σ σ'/\gt σ' c=some n/\(Inj σ->Inj σ'):=by
 unfold m5 at h
 split at h
 ·rename_i m hm
  split at h
  ·rename_i e;cases h;subst e;exact⟨Sub.refl _,hm,id⟩
  ·cases h
 ·rename_i hc
  split at h
  ·cases h
  ·rename_i hn
   cases h
   have hn':∀x,gt σ x≠some n:=λx hx=>by
    apply hn
    rw[OU]
    exact⟨(x,n),bH hx,by simp⟩
   refine⟨λx m hx=> ?_,by simp[af],λhi x y m hx hy=> ?_⟩
   ·rw[af]
    by_cases e:c=x
    ·subst e;rw[hc]at hx;cases hx
    ·rw[Q5 e];exact hx
   ·rw[af]at hx hy
    by_cases e:c=x<;>by_cases e':c=y
    ·rw[<-e,<-e']
    ·rw[Q6 e]at hx;rw[Q5 e']at hy;cases hx;exact(hn' _ hy).elim
    ·rw[Q6 e']at hy;rw[Q5 e]at hx;cases hy;exact(hn' _ hx).elim
    ·rw[Q5 e]at hx;rw[Q5 e']at hy;exact hi x y m hx hy
section
variable {V:i7}
theorem H.le.nil(sz:Nat):H.le (.d (.v (.slice none 0 0))) (.d (.sl sz [])):=H.le.d (D.le.nil sz)
structure Tr (σ:cq) (objs:List (Nat×OPt V.ι)) (E E':Env) (ω ω':Nat->Nat):Prop where
 env:∀c n,gt σ c=some n->E' c=E n
 len:∀c n,(objs.any λp=>Ov p.1 c)=true->gt σ c=some n->ω' c=ω n
theorem jp:∀{l:List Nat} {vs:List (TV V.N)} {σ σ':cq},sf σ l vs=some σ'->Sub σ σ'/\(Inj σ->Inj σ')/\l.length=vs.length/\
 ∀(i:Nat) (c:Nat) (v:TV V.N),l[i]?=some c->vs[i]?=some v->∃n,v= .bp n 0/\gt σ' c=some n
 |[],[],σ,σ',h=>by simp[sf]at h;subst h;exact⟨Sub.refl _,id,rfl,λi c v hc=>by simp at hc⟩
 |[],_::_,σ,σ',h=>by simp[sf]at h
 |_::_,[],σ,σ',h=>by simp[sf]at h
 |c::r,v::s,σ,σ',h=>by
  unfold sf at h
  split at h
  ·rename_i heq1 heq2;cases heq1
  ·rename_i c' r' n s' heq1 heq2
   simp only[OT]at heq1 heq2
   obtain⟨rfl,rfl⟩:=heq1
   obtain⟨rfl,rfl⟩:=heq2
   split at h
   ·rename_i σ1 h1
    obtain⟨a1,a2,a3⟩:=ct h1
    obtain⟨b1,b2,b3,b4⟩:=jp h
    refine⟨a1.trans b1,λhi=>b2 (a3 hi),by simp[b3],λi x w hx hw=> ?_⟩
    cases i with
    |zero=>simp at hx hw;subst hx;subst hw;exact⟨n,rfl,b1 _ _ a2⟩
    |succ i=>exact b4 i x w (by simpa using hx) (by simpa using hw)
   ·cases h
  ·cases h
theorem zO{E E':Env}{M:Mem}{σ:cq}{ω ω':Nat->Nat}(hE:∀c n,gt σ c=some n->E' c=E n){l:List Nat}{vs:List (TV V.N)}(hl:l.length=vs.length)
 (h:∀(i:Nat) (c:Nat) (v:TV V.N),l[i]?=some c->vs[i]?=some v->∃n,v= .bp n 0/\gt σ c=some n){av:Array Value}
 (hs:av.size=(encL V ω vs).length)(hr:∀(i:Nat) (c:Value) (x:H),av[i]?=some c->(encL V ω vs)[i]?=some x->aN E M c x):
 av.size=(encL V ω' (l.map λc=>(.bp c 0:TV V.N))).length/\∀(i:Nat) (c:Value) (x:H),av[i]?=some c->(encL V ω' (l.map λc=>(.bp c 0:TV V.N)))[i]?=some x->aN E' M c x:=by
 rw[aJ]at hs
 refine⟨by rw[aJ,Nz];omega,λi c x hc hx=> ?_⟩
 simp only[encL_map,NB,Option.map_map]at hx
 cases hli:l[i]? with
 |none=>rw[hli]at hx;cases hx
 |some k=>
  rw[hli]at hx
  simp[an]at hx;subst hx
  have hi:i<vs.length:=by rw[<-hl];exact(Nx.1 hli).1
  obtain⟨n,hv,hn⟩:=h i k _ hli (ND hi)
  have:=hr i c (.bp n 0) hc (by rw[encL_map,NB,ND hi,hv];simp[an])
  cases this with
  |bp _ off b hb=>exact .bp k 0 b (by rw[hE k n hn];exact hb)
theorem nW:∀{cs:List (Ty V.ι⊕Nat)} {vs:List (TV V.N)} {σ σ1:cq} {l:List (cg V.N)},mtC V σ cs vs=some (σ1,l)->Sub σ σ1/\(Inj σ->Inj σ1)/\
 ∃vs':List (TV V.N),vs'.length=vs.length/\(∀rest,bdC V cs (l++rest)=some (vs',rest))/\∀(i:Nat) (v v':TV V.N),vs[i]?=some v->vs'[i]?=some v'->
  ∀(τ:cq) (objs:List (Nat×OPt V.ι)) (E E':Env) (M:Mem) (ω ω':Nat->Nat) (a:Value),Sub σ1 τ->uA V objs (.ag cs)=true->Tr τ objs E E' ω ω'->aN E M a (an V ω v)->aN E' M a (an V ω' v')
 |[],[],σ,σ1,l,h=>by
  simp[mtC]at h;obtain⟨rfl,rfl⟩:=h
  exact⟨Sub.refl _,id,[],rfl,λrest=>rfl,λi v v' hv=>by simp at hv⟩
 |[],_::_,σ,σ1,l,h=>by simp[mtC]at h
 |_::_,[],σ,σ1,l,h=>by unfold mtC at h;split at h<;>first|(cases h;done)|contradiction
 | .inl t::r,x::s,σ,σ1,l,h=>by
  simp only[mtC]at h
  split at h
  ·rename_i l0 hl
   split at h
   ·rename_i σ' ls h2
    simp at h;obtain⟨rfl,rfl⟩:=h
    obtain⟨b1,b2,vs',b4,b5,b6⟩:=nW h2
    refine⟨b1,b2, .lf l0.t l0.x::vs',by simp[b4],λrest=> ?_,λi w w' hw hw' τ objs E E' M ω ω' a hs hv ht hr=> ?_⟩
    ·simp only[NQ,bdC,b5]
    ·cases i with
     |zero=>
      simp at hw hw';subst hw;subst hw'
      have hls:cu V false [t] [x]=some [l0]:=by simp[cu,hl]
      obtain⟨ds,e1,e2,_⟩:=ce (ω:=ω) hls
      simp only[encL]at e1
      obtain⟨d,hd⟩:∃d,ds=[d]:=by
       match ds,e1 with
       |[d],_=>exact⟨d,rfl⟩
       |[],e1=>simp at e1
       |_::_::_,e1=>simp at e1
      subst hd
      simp only[NF,N_,OT,and_true]at e1
      rw[e1]at hr
      simp only[an]
      obtain⟨d0,g1,g2⟩:=e2.get 0 (aK V.sz V.enc l0.t l0.x) rfl
      simp at g1;subst g1
      cases hr with
      |d q=>exact .d (g2 M a q)
     |succ i=>
      refine b6 i w w' (by simpa using hw) (by simpa using hw') τ objs E E' M ω ω' a hs ?_ ht hr
      simp only[uA,OQ,NH]at hv⊢;exact hv.2
   ·cases h
  ·cases h
 | .inr c::r,x::s,σ,σ1,l,h=>by
  unfold mtC at h
  split at h
  ·rename_i heq _;cases heq
  ·rename_i heq _;simp at heq
  ·rename_i c' r' n s' heq1 heq2
   simp only[OT,Sum.inr.injEq]at heq1 heq2
   obtain⟨rfl,rfl⟩:=heq1
   obtain⟨rfl,rfl⟩:=heq2
   split at h
   ·rename_i σ' hb
    obtain⟨a1,a2,a3⟩:=ct hb
    obtain⟨b1,b2,vs',b4,b5,b6⟩:=nW h
    refine⟨a1.trans b1,λhi=>b2 (a3 hi), .vh c::vs',by simp[b4],λrest=> ?_,λi w w' hw hw' τ objs E E' M ω ω' a hs hv ht hr=> ?_⟩
    ·simp only[bdC,b5]
    ·simp only[uA,OQ,NH]at hv
     cases i with
     |zero=>
      simp at hw hw';subst hw;subst hw'
      simp only[an]at hr⊢
      rw[ht.len c n hv.1 (hs _ _ (b1 _ _ a2))]
      cases hr with
      |vh _ len l cc ad hE hl=>exact .vh c _ l cc ad (by rw[ht.env c n (hs _ _ (b1 _ _ a2))];exact hE) hl
     |succ i=>
      refine b6 i w w' (by simpa using hw) (by simpa using hw') τ objs E E' M ω ω' a hs ?_ ht hr
      simp only[uA];exact hv.2
   ·cases h
  ·cases h
theorem nV{σ σ1:cq}{p:Pt V.ι}{v:TV V.N}{l:List (cg V.N)}(h:mt1 V σ p v=some (σ1,l)):Sub σ σ1/\(Inj σ->Inj σ1)/\v≠ .junk/\
 ∃v',(∀rest,bd1 V p (l++rest)=some (v',rest))/\∀(τ:cq) (objs:List (Nat×OPt V.ι)) (E E':Env) (M:Mem) (ω ω':Nat->Nat) (a:Value),Sub σ1 τ->uA V objs p=true->Tr τ objs E E' ω ω'->
  aN E M a (an V ω v)->aN E' M a (an V ω' v'):=by
 unfold mt1 at h
 split at h
 ·rename_i t t' x
  obtain⟨rfl,h⟩:=ah h
  simp at h;obtain⟨rfl,rfl⟩:=h
  refine⟨Sub.refl _,id,by simp, .lf t' x,λrest=>rfl,λτ objs E E' M ω ω' a _ _ _ hr=> ?_⟩
  simp only[an]at hr⊢
  exact hr.mono (Mem.le_refl _) λn hn=>by simp[H.has]at hn
 ·rename_i e
  simp at h;obtain⟨rfl,rfl⟩:=h
  refine⟨Sub.refl _,id,by simp, .lf (.sl e) [],λrest=>rfl,λτ objs E E' M ω ω' a _ _ _ hr=> ?_⟩
  simp only[an,bw,aK,N_]at hr⊢
  exact H.le.nil _ E' M a (hr.mono (Mem.le_refl _) λn hn=>by simp[H.has]at hn)
 ·simp at h;obtain⟨rfl,rfl⟩:=h
  refine⟨Sub.refl _,id,by simp, .lf .er false,λrest=>rfl,λτ objs E E' M ω ω' a _ _ _ hr=> ?_⟩
  simp only[an,bw,aK]at hr⊢
  exact H.le.d D.le.ern E' M a (hr.mono (Mem.le_refl _) λn hn=>by simp[H.has]at hn)
 ·rename_i i cs
  split at h
  ·rename_i t x hx
   simp at h;obtain⟨rfl,rfl⟩:=h
   refine⟨Sub.refl _,id,by simp, .lf t x,λrest=>rfl,λτ objs E E' M ω ω' a _ _ _ hr=> ?_⟩
   have hm:=(fQ (V:=V) (ω:=ω) (ex:=false) (ot:=some (.st i)) (cs:=cs)).1
   rw[hx]at hm
   simp only[an]at hr hm⊢
   exact(hm E M a hr).mono (Mem.le_refl _) λn hn=>by simp[H.has]at hn
  ·cases h
 ·rename_i c off n off'
  have h':=ah h;clear h
  obtain⟨e,h⟩:=h'
  subst e
  rw[NK]at h
  obtain⟨σ',hb,h⟩:=h
  simp at h;obtain⟨rfl,rfl⟩:=h
  obtain⟨h1,h2,h3⟩:=ct hb
  refine⟨h1,h3,by simp, .bp c off,λrest=>rfl,λτ objs E E' M ω ω' a hs _ ht hr=> ?_⟩
  simp only[an]at hr⊢
  cases hr with
  |bp _ _ b hb=>exact .bp c off b (by rw[ht.env c n (hs _ _ h2)];exact hb)
 ·rename_i c n
  rw[NK]at h
  obtain⟨σ',hb,h⟩:=h
  simp at h;obtain⟨rfl,rfl⟩:=h
  obtain⟨h1,h2,h3⟩:=ct hb
  refine⟨h1,h3,by simp, .vh c,λrest=>rfl,λτ objs E E' M ω ω' a hs hv ht hr=> ?_⟩
  simp only[an]at hr⊢
  rw[ht.len c n (by simpa[uA]using hv) (hs _ _ h2)]
  cases hr with
  |vh _ len l cc ad hE hl=>exact .vh c _ l cc ad (by rw[ht.env c n (hs _ _ h2)];exact hE) hl
 ·rename_i c n
  rw[NK]at h
  obtain⟨σ',hb,h⟩:=h
  simp at h;obtain⟨rfl,rfl⟩:=h
  obtain⟨h1,h2,h3⟩:=ct hb
  refine⟨h1,h3,by simp, .mp c,λrest=>rfl,λτ objs E E' M ω ω' a hs _ ht hr=> ?_⟩
  simp only[an]at hr⊢
  cases hr with
  |mp _ b hE=>exact .mp c b (by rw[ht.env c n (hs _ _ h2)];exact hE)
 ·rename_i c n b
  rw[NK]at h
  obtain⟨σ',hb,h⟩:=h
  simp at h;obtain⟨rfl,rfl⟩:=h
  obtain⟨h1,h2,h3⟩:=ct hb
  refine⟨h1,h3,by simp, .np c b,λrest=>rfl,λτ objs E E' M ω ω' a hs _ ht hr=> ?_⟩
  simp only[an]at hr⊢
  cases hr with
  |np0=>exact .np0 c
  |np1 _ b hE=>exact .np1 c b (by rw[ht.env c n (hs _ _ h2)];exact hE)
 ·rename_i c n
  rw[NK]at h
  obtain⟨σ',hb,h⟩:=h
  simp at h;obtain⟨rfl,rfl⟩:=h
  obtain⟨h1,h2,h3⟩:=ct hb
  refine⟨h1,h3,by simp, .np c true,λrest=>rfl,λτ objs E E' M ω ω' a hs _ ht hr=> ?_⟩
  simp only[an]at hr⊢
  cases hr with
  |bp _ _ b hE=>exact .np1 c b (by rw[ht.env c n (hs _ _ h2)];exact hE)
 ·rename_i c
  simp at h;obtain⟨rfl,rfl⟩:=h
  refine⟨Sub.refl _,id,by simp, .np c false,λrest=>rfl,λτ objs E E' M ω ω' a _ _ _ hr=> ?_⟩
  simp only[an,bw]at hr⊢
  rw[hr.dv]
  exact .np0 c
 ·simp at h;obtain⟨rfl,rfl⟩:=h
  refine⟨Sub.refl _,id,by simp, .raw .nilIface,λrest=>rfl,λτ objs E E' M ω ω' a _ _ _ hr=> ?_⟩
  simp only[an,bw]at hr⊢
  exact hr.mono (Mem.le_refl _) λn hn=>by simp[H.has]at hn
 ·rename_i e
  simp at h;obtain⟨rfl,rfl⟩:=h
  refine⟨Sub.refl _,id,by simp, .lf (.op e) none,λrest=>rfl,λτ objs E E' M ω ω' a _ _ _ hr=> ?_⟩
  simp only[an,bw,aK,PU,opD]at hr⊢
  exact hr.mono (Mem.le_refl _) λn hn=>by simp[H.has]at hn
 ·rename_i c z n s i off
  have h':=ah h;clear h
  obtain⟨e,h⟩:=h'
  subst e
  rw[NK]at h
  obtain⟨σ',hb,h⟩:=h
  simp at h;obtain⟨rfl,rfl⟩:=h
  obtain⟨h1,h2,h3⟩:=ct hb
  refine⟨h1,h3,by simp, .sv c s i off,λrest=>rfl,λτ objs E E' M ω ω' a hs _ ht hr=> ?_⟩
  simp only[an]at hr⊢
  cases hr with
  |sv0 _ _ hE=>exact .sv0 c s (by rw[ht.env c n (hs _ _ h2)];exact hE)
  |sv _ _ _ _ g l cc hE hl=>exact .sv c s i off g l cc (by rw[ht.env c n (hs _ _ h2)];exact hE) hl
 ·rename_i f a b f' a' b'
  have h':=ah h;clear h
  obtain⟨e,h⟩:=h'
  subst e
  split at h
  ·rename_i σ' ha
   rw[NK]at h
   obtain⟨σ'',hb,h⟩:=h
   simp at h;obtain⟨rfl,rfl⟩:=h
   obtain⟨a1,a2,a3,a4⟩:=jp ha
   obtain⟨b1,b2,b3,b4⟩:=jp hb
   refine⟨a1.trans b1,λhi=>b2 (a2 hi),by simp, .fn f (a.map λc=> .bp c 0) (b.map λc=> .bp c 0),λrest=>rfl,λτ objs E E' M ω ω' v hs _ ht hr=> ?_⟩
   simp only[an]at hr⊢
   cases hr with
   |fn _ first captured l l' h1 h2 h3 h4=>
    obtain⟨x1,x2⟩:=zO (V:=V) (ω':=ω') (λc n hc=>ht.env c n hc) a3 (λi c v hc hv=>by
     obtain⟨n,q1,q2⟩:=a4 i c v hc hv
     exact⟨n,q1,hs _ _ (b1 _ _ q2)⟩) h1 h3
    obtain⟨y1,y2⟩:=zO (V:=V) (ω':=ω') (λc n hc=>ht.env c n hc) b3 (λi c v hc hv=>by
     obtain⟨n,q1,q2⟩:=b4 i c v hc hv
     exact⟨n,q1,hs _ _ q2⟩) h2 h4
    exact .fn f first captured _ _ x1 y1 x2 y2
  ·cases h
 ·rename_i cs vs
  obtain⟨b1,b2,vs',b4,b5,b6⟩:=nW h
  refine⟨b1,b2,by simp, .agg vs',λrest=>by simp only[bd1,b5],λτ objs E E' M ω ω' a hs hv ht hr=> ?_⟩
  simp only[an]at hr⊢
  have h1:=kA _ E M a hr
  obtain⟨xs,rfl,h2,h3⟩:=h1.hagg
  refine rf _ E' M _ (.agg xs _ (by rw[aJ]at h2⊢;omega) λi c x hc hx=> ?_)
  rw[encL_map,NB,NK]at hx
  obtain⟨v',hv',rfl⟩:=hx
  have hi:i<vs.length:=by rw[<-b4];exact(Nx.1 hv').1
  exact b6 i _ v' (ND hi) hv' τ objs E E' M ω ω' c hs hv ht (h3 i c _ hc (by rw[encL_map,NB,ND hi];rfl))
 ·cases h
theorem ia:∀{ps:List (Pt V.ι)} {vs:List (TV V.N)} {σ σ1:cq} {l:List (cg V.N)},mtL V σ ps vs=some (σ1,l)->Sub σ σ1/\(Inj σ->Inj σ1)/\ps.length=vs.length/\
 ∃vs':List (TV V.N),vs'.length=vs.length/\(∀rest,bdL V ps (l++rest)=some (vs',rest))/\∀(i:Nat) (v v':TV V.N),vs[i]?=some v->vs'[i]?=some v'->v≠ .junk/\
  ∀(τ:cq) (objs:List (Nat×OPt V.ι)) (E E':Env) (M:Mem) (ω ω':Nat->Nat) (a:Value),Sub σ1 τ->ps.all (uA V objs)=true->Tr τ objs E E' ω ω'->aN E M a (an V ω v)->aN E' M a (an V ω' v')
 |[],[],σ,σ1,l,h=>by
  simp[mtL]at h;obtain⟨rfl,rfl⟩:=h
  exact⟨Sub.refl _,id,rfl,[],rfl,λrest=>rfl,λi v v' hv=>by simp at hv⟩
 |[],_::_,σ,σ1,l,h=>by simp[mtL]at h
 |_::_,[],σ,σ1,l,h=>by simp[mtL]at h
 |p::r,v::s,σ,σ1,l,h=>by
  simp only[mtL]at h
  split at h
  ·rename_i σ' l1 h1
   split at h
   ·rename_i σ'' l2 h2
    simp at h;obtain⟨rfl,rfl⟩:=h
    obtain⟨a1,a2,a3,v',a4,a5⟩:=nV h1
    obtain⟨b1,b2,b3,vs',b4,b5,b6⟩:=ia h2
    refine⟨a1.trans b1,λhi=>b2 (a2 hi),by simp[b3],v'::vs',by simp[b4],λrest=> ?_,λi w w' hw hw'=> ?_⟩
    ·simp only[bdL,Oi,a4,b5]
    ·cases i with
     |zero=>
      simp at hw hw';subst hw;subst hw'
      refine⟨a3,λτ objs E E' M ω ω' a hs hv ht hr=>a5 τ objs E E' M ω ω' a (b1.trans hs) ?_ ht hr⟩
      simp only[OQ,NH]at hv;exact hv.1
     |succ i=>
      obtain⟨c1,c2⟩:=b6 i w w' (by simpa using hw) (by simpa using hw')
      refine⟨c1,λτ objs E E' M ω ω' a hs hv ht hr=>c2 τ objs E E' M ω ω' a hs ?_ ht hr⟩
      simp only[OQ,NH]at hv;exact hv.2
   ·cases h
  ·cases h
theorem bI{S:TS V.N}:∀{objs:List (Nat×OPt V.ι)} {σ σ1:cq} {l:List (cg V.N)},mtO V S σ objs=some (σ1,l)->Sub σ σ1/\(Inj σ->Inj σ1)/\
 ∃os:List (Nat×TO V.N),os.length=objs.length/\bdO V objs l=some os/\(∀c o',(c,o')∈os->∃n o,gt σ1 c=some n/\S.own? n=some o/\TO.len (some o')=TO.len (some o)/\
  ∃x:(Nat->Nat)->Own,(∀ω,aX V ω o=some (x ω))/\∃x':(Nat->Nat)->Own,(∀ω,aX V ω o'=some (x' ω))/\
  (∀(τ:cq) (all:List (Nat×OPt V.ι)) (E E':Env) (M:Mem) (w:World) (ω ω':Nat->Nat),Sub σ1 τ->(∀p∈objs,match p.2 with| .box _ ps=>ps.all (uA V all)=true|_=>True)->Tr τ all E E' ω ω'->
    aI E M w n (x ω)->aI E' M w c (x' ω'))/\
  ∀(E E':Env) (M:Mem) (w:World) (ω ω':Nat->Nat) (b:Nat),aI E M w n (x ω)->E' c=E n->(x' ω').foot w (E' c) b->(x ω).foot w (E n) b)/\os.map (·.1)=objs.map (·.1)
 |[],σ,σ1,l,h=>by
  simp[mtO]at h;obtain⟨rfl,rfl⟩:=h
  exact⟨Sub.refl _,id,[],rfl,rfl,λc o' h=>by simp at h,rfl⟩
 |(c,p)::r,σ,σ1,l,h=>by
  simp only[mtO]at h
  split at h
  ·rename_i n hn
   split at h
   ·rename_i oo ps oo' cells hown
    have h':=ah h;clear h
    obtain⟨hoo,h⟩:=h'
    split at h
    ·rename_i σ' l1 h1
     split at h
     ·rename_i σ'' l2 h2
      simp at h;obtain⟨rfl,rfl⟩:=h
      obtain⟨a1,a2,a3,vs',a4,a5,a6⟩:=ia h1
      obtain⟨b1,b2,os,b3,b4,b5,b6⟩:=bI h2
      refine⟨a1.trans b1,λhi=>b2 (a2 hi),(c, .box oo vs')::os,by simp[b3],by simp only[bdO,a5,b4],λc' o' hm=> ?_,by simp[b6]⟩
      rcases NI.1 hm with he|hm
      ·simp only[N5]at he
       obtain⟨rfl,rfl⟩:=he
       refine⟨n, .box oo' cells,b1 _ _ (a1 _ _ hn),hown,rfl,λω=> .box oo' (encL V ω cells),λω=>rfl,λω=> .box oo (encL V ω vs'),λω=>rfl,λτ all E E' M w ω ω' hs hv ht ho=> ?_,λE E' M w ω ω' b _ he hb=>by rw[he]at hb;exact hb⟩
       have hv0:ps.all (uA V all)=true:=hv (c', .box oo ps) NG
       obtain⟨b,cs,ty,k1,k2,k3,k4,k5,k6⟩:=ho
       rw[aJ]at k3
       refine⟨b,cs,ty,by rw[ht.env c' n (hs _ _ (b1 _ _ (a1 _ _ hn)))];exact k1,k2,by rw[aJ];omega,λi x y hx hy=> ?_,k5,λt htt=>by
        rcases hoo with hoo|hoo
        ·rw[hoo]at htt;cases htt
        ·rw[hoo]at htt;exact k6 t htt⟩
       simp only[encL_map,NB]at hy
       cases hvi:vs'[i]? with
       |none=>rw[hvi]at hy;cases hy
       |some v'=>
        rw[hvi]at hy;simp at hy;subst hy
        have hi:i<cells.length:=by rw[<-a4];exact(Nx.1 hvi).1
        obtain⟨_,q⟩:=a6 i _ v' (ND hi) hvi
        exact q τ all E E' M ω ω' x (b1.trans hs) hv0 ht (k4 i x _ hx (by rw[encL_map,NB,ND hi];rfl))
      ·obtain⟨n',o,q1,q2,q3,x,q4,x',q5,q6,q7⟩:=b5 c' o' hm
       exact⟨n',o,q1,q2,q3,x,q4,x',q5,λτ all E E' M w ω ω' hs hv ht ho=>q6 τ all E E' M w ω ω' hs (λp hp=>hv p (NC _ hp)) ht ho,q7⟩
     ·cases h
    ·cases h
   ·rename_i i oty cells hown
    split at h
    ·rename_i j x hx
     split at h
     ·rename_i σ'' l2 h2
      simp at h;obtain⟨rfl,rfl⟩:=h
      obtain⟨b1,b2,os,b3,b4,b5,b6⟩:=bI h2
      have hmk:i=j/\∃ls,cu V false (V.tys i) cells=some ls/\∃y:V.N i,V.ofCells i ls=some y/\(TV.lf (.st i) y:TV V.N)= .lf (.st j) x:=by
       unfold mkV at hx
       simp only at hx
       split at hx
       ·rename_i ls hls
        split at hx
        ·rename_i y hy
         have:i=j:=by cases hx;rfl
         exact⟨this,ls,hls,y,hy,hx⟩
        ·cases hx
       ·cases hx
      obtain⟨rfl,ls,hls,y,hy,he⟩:=hmk
      have he:y=x:=by cases he;rfl
      subst he
      refine⟨b1,b2,(c, .bst i y)::os,by simp[b3],by simp[bdO,b4],λc' o' hm=> ?_,by simp[b6]⟩
      rcases NI.1 hm with he|hm
      ·simp only[N5]at he
       obtain⟨rfl,rfl⟩:=he
       refine⟨n, .box oty cells,b1 _ _ hn,hown,rfl,λω=> .box oty (encL V ω cells),λω=>rfl,λ_=> .box none ((V.enc i y).map .d),λω=>rfl,λτ all E E' M w ω ω' hs _ ht ho=> ?_,λE E' M w ω ω' b _ he hb=>by rw[he]at hb;exact hb⟩
       obtain⟨ds,e1,e2,_⟩:=ce (ω:=ω) hls
       obtain⟨b,cs,ty,k1,k2,k3,k4,k5,_⟩:=ho
       have hc:=V.of_cells i ls y hy
       have hnew:(V.enc i y).map H.d=(ls.map λl=>aK V.sz V.enc l.t l.x).map H.d:=by
        rw[V.enc_cells,hc]
       refine⟨b,cs,ty,by rw[ht.env c' n (hs _ _ (b1 _ _ hn))];exact k1,k2,?_,λi' a z ha hz=> ?_,k5,λt htt=>by cases htt⟩
       ·rw[k3,hnew,e1,Nz,Nz];exact e2.len
       ·rw[hnew,NB]at hz
        cases hd:(ls.map λl=>aK V.sz V.enc l.t l.x)[i']? with
        |none=>rw[hd]at hz;cases hz
        |some d=>
         rw[hd]at hz;simp at hz;subst hz
         obtain⟨d0,g1,g2⟩:=e2.get i' d hd
         have:=k4 i' a (.d d0) ha (by rw[e1,NB,g1];rfl)
         cases this with
         |d q=>exact .d (g2 M a q)
      ·obtain⟨n',o,q1,q2,q3,x,q4,x',q5,q6,q7⟩:=b5 c' o' hm
       exact⟨n',o,q1,q2,q3,x,q4,x',q5,λτ all E E' M w ω ω' hs hv ht ho=>q6 τ all E E' M w ω ω' hs (λp hp=>hv p (NC _ hp)) ht ho,q7⟩
     ·cases h
    ·cases h
   ·rename_i i j x hown
    have h':=ah h;clear h
    obtain⟨e1,h⟩:=h'
    subst e1
    split at h
    ·rename_i σ'' l2 h2
     simp at h;obtain⟨rfl,rfl⟩:=h
     obtain⟨b1,b2,os,b3,b4,b5,b6⟩:=bI h2
     refine⟨b1,b2,(c, .bst i x)::os,by simp[b3],by simp[bdO,b4],λc' o' hm=> ?_,by simp[b6]⟩
     rcases NI.1 hm with he|hm
     ·simp only[N5]at he
      obtain⟨rfl,rfl⟩:=he
      refine⟨n, .bst i x,b1 _ _ hn,hown,rfl,λ_=> .box none ((V.enc i x).map .d),λω=>rfl,λ_=> .box none ((V.enc i x).map .d),λω=>rfl,λτ all E E' M w ω ω' hs _ ht ho=> ?_,λE E' M w ω ω' b _ he hb=>by rw[he]at hb;exact hb⟩
      obtain⟨b,cs,ty,k1,k2,k3,k4,k5⟩:=ho
      refine⟨b,cs,ty,by rw[ht.env c' n (hs _ _ (b1 _ _ hn))];exact k1,k2,k3,λi' a z ha hz=> ?_,k5⟩
      have hq:=k4 i' a z ha hz
      rw[NB,NK]at hz
      obtain⟨d,_,rfl⟩:=hz
      exact hq.mono (Mem.le_refl _) λm hm=>by simp[H.has]at hm
     ·obtain⟨n',o,q1,q2,q3,x,q4,x',q5,q6,q7⟩:=b5 c' o' hm
      exact⟨n',o,q1,q2,q3,x,q4,x',q5,λτ all E E' M w ω ω' hs hv ht ho=>q6 τ all E E' M w ω ω' hs (λp hp=>hv p (NC _ hp)) ht ho,q7⟩
    ·cases h
   ·rename_i ps j x hown
    split at h
    ·rename_i σ' l1 h1
     split at h
     ·rename_i σ'' l2 h2
      simp at h;obtain⟨rfl,rfl⟩:=h
      obtain⟨a1,a2,a3,vs',a4,a5,a6⟩:=ia h1
      obtain⟨b1,b2,os,b3,b4,b5,b6⟩:=bI h2
      refine⟨a1.trans b1,λhi=>b2 (a2 hi),(c, .box none vs')::os,by simp[b3],by simp only[bdO,a5,b4],λc' o' hm=> ?_,by simp[b6]⟩
      rcases NI.1 hm with he|hm
      ·simp only[N5]at he
       obtain⟨rfl,rfl⟩:=he
       refine⟨n, .bst j x,b1 _ _ (a1 _ _ hn),hown,rfl,λ_=> .box none ((V.enc j x).map .d),λω=>rfl,λω=> .box none (encL V ω vs'),λω=>rfl,λτ all E E' M w ω ω' hs hv ht ho=> ?_,λE E' M w ω ω' b _ he hb=>by rw[he]at hb;exact hb⟩
       have hv0:ps.all (uA V all)=true:=hv (c', .box none ps) NG
       obtain⟨b,cs,ty,k1,k2,k3,k4,k5⟩:=ho
       rw[<-jq ω,aJ]at k3
       refine⟨b,cs,ty,by rw[ht.env c' n (hs _ _ (b1 _ _ (a1 _ _ hn)))];exact k1,k2,by rw[aJ];omega,λi x' y hx hy=> ?_,k5⟩
       simp only[encL_map,NB]at hy
       cases hvi:vs'[i]? with
       |none=>rw[hvi]at hy;cases hy
       |some v'=>
        rw[hvi]at hy;simp at hy;subst hy
        have hi:i<((V.cells j x).map λl=>(.lf l.t l.x:TV V.N)).length:=by rw[<-a4];exact(Nx.1 hvi).1
        obtain⟨_,q⟩:=a6 i _ v' (ND hi) hvi
        exact q τ all E E' M ω ω' x' (b1.trans hs) hv0 ht (k4 i x' _ hx (by rw[<-jq ω,encL_map,NB,ND hi];rfl))
      ·obtain⟨n',o,q1,q2,q3,x,q4,x',q5,q6,q7⟩:=b5 c' o' hm
       exact⟨n',o,q1,q2,q3,x,q4,x',q5,λτ all E E' M w ω ω' hs hv ht ho=>q6 τ all E E' M w ω ω' hs (λp hp=>hv p (NC _ hp)) ht ho,q7⟩
     ·cases h
    ·cases h
   ·rename_i te e te' e' xs hown
    have h':=ah h;clear h
    obtain⟨⟨e1,e2⟩,h⟩:=h'
    subst e1;subst e2
    split at h
    ·rename_i σ'' l2 h2
     simp at h;obtain⟨rfl,rfl⟩:=h
     obtain⟨b1,b2,os,b3,b4,b5,b6⟩:=bI h2
     refine⟨b1,b2,(c, .vec te e xs)::os,by simp[b3],by simp[bdO,b4],λc' o' hm=> ?_,by simp[b6]⟩
     rcases NI.1 hm with he|hm
     ·simp only[N5]at he
      obtain⟨rfl,rfl⟩:=he
      refine⟨n, .vec te e xs,b1 _ _ hn,hown,rfl,λ_=> .vec te (tsz V.sz e) (xs.map λx=>aT V.sz V.enc e x),λω=>rfl,λ_=> .vec te (tsz V.sz e) (xs.map λx=>aT V.sz V.enc e x),λω=>rfl,λτ all E E' M w ω ω' hs _ ht ho=> ?_,λE E' M w ω ω' b _ he hb=>by rw[he]at hb;exact hb⟩
      obtain⟨ys,k1,k2,k3,k4⟩:=ho
      have he:=ht.env c' n (hs _ _ (b1 _ _ hn))
      exact⟨ys,by rw[he];exact k1,k2,k3,by rw[he];exact k4⟩
     ·obtain⟨n',o,q1,q2,q3,x,q4,x',q5,q6,q7⟩:=b5 c' o' hm
      exact⟨n',o,q1,q2,q3,x,q4,x',q5,λτ all E E' M w ω ω' hs hv ht ho=>q6 τ all E E' M w ω ω' hs (λp hp=>hv p (NC _ hp)) ht ho,q7⟩
    ·cases h
   ·rename_i te e te' e' xs hown
    have h':=ah h;clear h
    obtain⟨⟨e1,e2⟩,h⟩:=h'
    subst e1;subst e2
    split at h
    ·rename_i σ'' l2 h2
     simp at h;obtain⟨rfl,rfl⟩:=h
     obtain⟨b1,b2,os,b3,b4,b5,b6⟩:=bI h2
     refine⟨b1,b2,(c, .pvec te e xs)::os,by simp[b3],by simp[bdO,b4],λc' o' hm=> ?_,by simp[b6]⟩
     rcases NI.1 hm with he|hm
     ·simp only[N5]at he
      obtain⟨rfl,rfl⟩:=he
      refine⟨n, .pvec te e xs,b1 _ _ hn,hown,rfl,λ_=> .dvec te (tsz V.sz e) (xs.map λx=>px V e x),λω=>rfl,λ_=> .dvec te (tsz V.sz e) (xs.map λx=>px V e x),λω=>rfl,λτ all E E' M w ω ω' hs _ ht ho=> ?_,λE E' M w ω ω' b _ he hb=> ?_⟩
      ·obtain⟨B,k1,k2⟩:=ho
       have he:=ht.env c' n (hs _ _ (b1 _ _ hn))
       exact⟨B,by rw[he];exact k1,k2⟩
      ·rw[he]at hb;exact hb
     ·obtain⟨n',o,q1,q2,q3,x,q4,x',q5,q6,q7⟩:=b5 c' o' hm
      exact⟨n',o,q1,q2,q3,x,q4,x',q5,λτ all E E' M w ω ω' hs hv ht ho=>q6 τ all E E' M w ω ω' hs (λp hp=>hv p (NC _ hp)) ht ho,q7⟩
    ·cases h
   ·rename_i te e te' e' xs hown
    have h':=ah h;clear h
    obtain⟨⟨e1,e2⟩,h⟩:=h'
    subst e1;subst e2
    split at h
    ·rename_i σ'' l2 h2
     simp at h;obtain⟨rfl,rfl⟩:=h
     obtain⟨b1,b2,os,b3,b4,b5,b6⟩:=bI h2
     refine⟨b1,b2,(c, .pvec te e (xs.map some))::os,by simp[b3],by simp[bdO,b4],λc' o' hm=> ?_,by simp[b6]⟩
     rcases NI.1 hm with he|hm
     ·simp only[N5]at he
      obtain⟨rfl,rfl⟩:=he
      refine⟨n, .dvec te e xs,b1 _ _ hn,hown,by simp[TO.len],λ_=> .dvec te (tsz V.sz e) (xs.map λx=>bR V.sz V.enc V.tid V.encd e x),λω=>rfl,λ_=> .dvec te (tsz V.sz e) ((xs.map some).map λx=>px V e x),λω=>rfl,λτ all E E' M w ω ω' hs _ ht ho=> ?_,λE E' M w ω ω' b _ he hb=> ?_⟩
      ·obtain⟨B,k1,k2⟩:=ho
       have he:=ht.env c' n (hs _ _ (b1 _ _ hn))
       exact⟨B,by rw[he];rw[N0];exact k1,k2⟩
      ·rw[he]at hb;rw[N0]at hb;exact hb
     ·obtain⟨n',o,q1,q2,q3,x,q4,x',q5,q6,q7⟩:=b5 c' o' hm
      exact⟨n',o,q1,q2,q3,x,q4,x',q5,λτ all E E' M w ω ω' hs hv ht ho=>q6 τ all E E' M w ω ω' hs (λp hp=>hv p (NC _ hp)) ht ho,q7⟩
    ·cases h
   ·rename_i te e te' e' xs hown
    have h':=ah h;clear h
    obtain⟨⟨e1,e2⟩,h⟩:=h'
    subst e1;subst e2
    split at h
    ·rename_i σ'' l2 h2
     simp at h;obtain⟨rfl,rfl⟩:=h
     obtain⟨b1,b2,os,b3,b4,b5,b6⟩:=bI h2
     refine⟨b1,b2,(c, .dvec te e xs)::os,by simp[b3],by simp[bdO,b4],λc' o' hm=> ?_,by simp[b6]⟩
     rcases NI.1 hm with he|hm
     ·simp only[N5]at he
      obtain⟨rfl,rfl⟩:=he
      refine⟨n, .dvec te e xs,b1 _ _ hn,hown,rfl,λ_=> .dvec te (tsz V.sz e) (xs.map λx=>bR V.sz V.enc V.tid V.encd e x),λω=>rfl,λ_=> .dvec te (tsz V.sz e) (xs.map λx=>bR V.sz V.enc V.tid V.encd e x),λω=>rfl,λτ all E E' M w ω ω' hs _ ht ho=> ?_,λE E' M w ω ω' b _ he hb=> ?_⟩
      ·obtain⟨B,k1,k2⟩:=ho
       have he:=ht.env c' n (hs _ _ (b1 _ _ hn))
       exact⟨B,by rw[he];exact k1,k2⟩
      ·rw[he]at hb;exact hb
     ·obtain⟨n',o,q1,q2,q3,x,q4,x',q5,q6,q7⟩:=b5 c' o' hm
      exact⟨n',o,q1,q2,q3,x,q4,x',q5,λτ all E E' M w ω ω' hs hv ht ho=>q6 τ all E E' M w ω ω' hs (λp hp=>hv p (NC _ hp)) ht ho,q7⟩
    ·cases h
   ·rename_i s p hown
    split at h
    ·rename_i σ'' l2 h2
     simp at h;obtain⟨rfl,rfl⟩:=h
     obtain⟨b1,b2,os,b3,b4,b5,b6⟩:=bI h2
     refine⟨b1,b2,(c, .iter s p)::os,by simp[b3],by simp[bdO,b4],λc' o' hm=> ?_,by simp[b6]⟩
     rcases NI.1 hm with he|hm
     ·simp only[N5]at he
      obtain⟨rfl,rfl⟩:=he
      refine⟨n, .iter s p,b1 _ _ hn,hown,rfl,λ_=> .iter s p.toNat,λω=>rfl,λ_=> .iter s p.toNat,λω=>rfl,λτ all E E' M w ω ω' hs _ ht ho=> ?_,λE E' M w ω ω' b _ he hb=>by rw[he]at hb;exact hb⟩
      obtain⟨b,k1,k2,k3⟩:=ho
      have he:=ht.env c' n (hs _ _ (b1 _ _ hn))
      exact⟨b,by rw[he];exact k1,k2,k3⟩
     ·obtain⟨n',o,q1,q2,q3,x,q4,x',q5,q6,q7⟩:=b5 c' o' hm
      exact⟨n',o,q1,q2,q3,x,q4,x',q5,λτ all E E' M w ω ω' hs hv ht ho=>q6 τ all E E' M w ω ω' hs (λp hp=>hv p (NC _ hp)) ht ho,q7⟩
    ·cases h
   ·rename_i cm tk tv m tk' tv' es rest cur hown
    have h':=ah h;clear h
    obtain⟨⟨e1,e2⟩,h⟩:=h'
    subst e1;subst e2
    split at h
    ·rename_i σ' hb
     obtain⟨a1,a2,a3⟩:=ct hb
     split at h
     ·rename_i σ'' l2 h2
      simp at h;obtain⟨rfl,rfl⟩:=h
      obtain⟨b1,b2,os,b3,b4,b5,b6⟩:=bI h2
      refine⟨a1.trans b1,λhi=>b2 (a3 hi),(c, .miter cm tk tv es rest none)::os,by simp[b3],by simp[bdO,b4],λc' o' hm=> ?_,by simp[b6]⟩
      rcases NI.1 hm with he|hm
      ·simp only[N5]at he
       obtain⟨rfl,rfl⟩:=he
       refine⟨n, .miter m tk tv es rest cur,b1 _ _ (a1 _ _ hn),hown,rfl,λ_=> .miter m (es.map λp=>(dM V.enc tk p.1,aK V.sz V.enc tv p.2)) (rest.map λp=>(dM V.enc tk p.1,aK V.sz V.enc tv p.2)) (cur.map λp=>(dM V.enc tk p.1,aK V.sz V.enc tv p.2)),λω=>rfl,
        λ_=> .miter cm (es.map λp=>(dM V.enc tk p.1,aK V.sz V.enc tv p.2)) (rest.map λp=>(dM V.enc tk p.1,aK V.sz V.enc tv p.2)) none,λω=>rfl,λτ all E E' M w ω ω' hs _ ht ho=> ?_,λE E' M w ω ω' b _ he hb=>by rw[he]at hb;exact hb⟩
       obtain⟨r',b,es',clock,since,seen,last,k1,k2,k3,k4,k5,k6,k7,k8,k9,k10,_,k12⟩:=ho
       have he:=ht.env c' n (hs _ _ (b1 _ _ (a1 _ _ hn)))
       have he2:=ht.env cm m (hs _ _ (b1 _ _ a2))
       exact⟨r',b,es',clock,since,seen,last,by rw[he];exact k1,by rw[he2];exact k2,k3,k4,k5,k6,k7,k8,k9,k10,(λp hp=>by cases hp),k12⟩
      ·obtain⟨n',o,q1,q2,q3,x,q4,x',q5,q6,q7⟩:=b5 c' o' hm
       exact⟨n',o,q1,q2,q3,x,q4,x',q5,λτ all E E' M w ω ω' hs hv ht ho=>q6 τ all E E' M w ω ω' hs (λp hp=>hv p (NC _ hp)) ht ho,q7⟩
     ·cases h
    ·cases h
   ·rename_i tk tv tk' tv' es hown
    have h':=ah h;clear h
    obtain⟨⟨e1,e2⟩,h⟩:=h'
    subst e1;subst e2
    split at h
    ·rename_i σ'' l2 h2
     simp at h;obtain⟨rfl,rfl⟩:=h
     obtain⟨b1,b2,os,b3,b4,b5,b6⟩:=bI h2
     refine⟨b1,b2,(c, .map tk tv es)::os,by simp[b3],by simp[bdO,b4],λc' o' hm=> ?_,by simp[b6]⟩
     rcases NI.1 hm with he|hm
     ·simp only[N5]at he
      obtain⟨rfl,rfl⟩:=he
      refine⟨n, .map tk tv es,b1 _ _ hn,hown,rfl,λ_=> .map (es.map λp=>(dM V.enc tk p.1,aK V.sz V.enc tv p.2)),λω=>rfl,λ_=> .map (es.map λp=>(dM V.enc tk p.1,aK V.sz V.enc tv p.2)),λω=>rfl,λτ all E E' M w ω ω' hs _ ht ho=> ?_,λE E' M w ω ω' b _ he hb=>by rw[he]at hb;exact hb⟩
      obtain⟨b,es',clock,k1,k2,k3,k4,k5⟩:=ho
      have he:=ht.env c' n (hs _ _ (b1 _ _ hn))
      exact⟨b,es',clock,by rw[he];exact k1,k2,k3,k4,k5⟩
     ·obtain⟨n',o,q1,q2,q3,x,q4,x',q5,q6,q7⟩:=b5 c' o' hm
      exact⟨n',o,q1,q2,q3,x,q4,x',q5,λτ all E E' M w ω ω' hs hv ht ho=>q6 τ all E E' M w ω ω' hs (λp hp=>hv p (NC _ hp)) ht ho,q7⟩
    ·cases h
   ·rename_i te e te' e' xs hown
    have h':=ah h;clear h
    obtain⟨⟨e1,e2⟩,h⟩:=h'
    subst e1;subst e2
    split at h
    ·rename_i σ'' l2 h2
     simp at h;obtain⟨rfl,rfl⟩:=h
     obtain⟨b1,b2,os,b3,b4,b5,b6⟩:=bI h2
     refine⟨b1,b2,(c, .que te e xs)::os,by simp[b3],by simp[bdO,b4],λc' o' hm=> ?_,by simp[b6]⟩
     rcases NI.1 hm with he|hm
     ·simp only[N5]at he
      obtain⟨rfl,rfl⟩:=he
      refine⟨n, .que te e xs,b1 _ _ hn,hown,rfl,λ_=> .que te (tsz V.sz e) (xs.map λx=>aT V.sz V.enc e x),λω=>rfl,λ_=> .que te (tsz V.sz e) (xs.map λx=>aT V.sz V.enc e x),λω=>rfl,λτ all E E' M w ω ω' hs _ ht ho=> ?_,λE E' M w ω ω' b _ he hb=>by rw[he]at hb;exact hb⟩
      obtain⟨B,k1,k2⟩:=ho
      have he:=ht.env c' n (hs _ _ (b1 _ _ hn))
      exact⟨B,by rw[he];exact k1,k2⟩
     ·obtain⟨n',o,q1,q2,q3,x,q4,x',q5,q6,q7⟩:=b5 c' o' hm
      exact⟨n',o,q1,q2,q3,x,q4,x',q5,λτ all E E' M w ω ω' hs hv ht ho=>q6 τ all E E' M w ω ω' hs (λp hp=>hv p (NC _ hp)) ht ho,q7⟩
    ·cases h
   ·rename_i te tk tv te' tk' tv' es al hown
    have h':=ah h;clear h
    obtain⟨⟨e0,e1,e2⟩,h⟩:=h'
    subst e0;subst e1;subst e2
    split at h
    ·rename_i σ'' l2 h2
     simp at h;obtain⟨rfl,rfl⟩:=h
     obtain⟨b1,b2,os,b3,b4,b5,b6⟩:=bI h2
     refine⟨b1,b2,(c, .maps te tk tv es none)::os,by simp[b3],by simp[bdO,b4],λc' o' hm=> ?_,by simp[b6]⟩
     rcases NI.1 hm with he|hm
     ·simp only[N5]at he
      obtain⟨rfl,rfl⟩:=he
      refine⟨n, .maps te tk tv es al,b1 _ _ hn,hown,rfl,λ_=> .maps te (es.map λo=>o.map λl=>l.map λp=>(dM V.enc tk p.1,aK V.sz V.enc tv p.2)) al,λω=>rfl,λ_=> .maps te (es.map λo=>o.map λl=>l.map λp=>(dM V.enc tk p.1,aK V.sz V.enc tv p.2)) none,λω=>rfl,λτ all E E' M w ω ω' hs _ ht ho=> ?_,λE E' M w ω ω' b ho he hb=> ?_⟩
      ·obtain⟨B,k1,k2⟩:=OLe.noAlias.1 E M w n ho
       have he:=ht.env c' n (hs _ _ (b1 _ _ hn))
       exact⟨B,by rw[he];exact k1,k2⟩
      ·rw[he]at hb
       exact OLe.noAlias.2 E M w n b ho hb
     ·obtain⟨n',o,q1,q2,q3,x,q4,x',q5,q6,q7⟩:=b5 c' o' hm
      exact⟨n',o,q1,q2,q3,x,q4,x',q5,λτ all E E' M w ω ω' hs hv ht ho=>q6 τ all E E' M w ω ω' hs (λp hp=>hv p (NC _ hp)) ht ho,q7⟩
    ·cases h
   ·rename_i m e m' e' xs hown
    have h':=ah h;clear h
    obtain⟨⟨e1,e2⟩,h⟩:=h'
    subst e1;subst e2
    split at h
    ·rename_i σ'' l2 h2
     simp at h;obtain⟨rfl,rfl⟩:=h
     obtain⟨b1,b2,os,b3,b4,b5,b6⟩:=bI h2
     refine⟨b1,b2,(c, .bar m e xs)::os,by simp[b3],by simp[bdO,b4],λc' o' hm=> ?_,by simp[b6]⟩
     rcases NI.1 hm with he|hm
     ·simp only[N5]at he
      obtain⟨rfl,rfl⟩:=he
      refine⟨n, .bar m e xs,b1 _ _ hn,hown,rfl,λ_=> .box none ((aT V.sz V.enc (.ar m e) xs).map .d),λω=>rfl,λ_=> .box none ((aT V.sz V.enc (.ar m e) xs).map .d),λω=>rfl,λτ all E E' M w ω ω' hs _ ht ho=> ?_,λE E' M w ω ω' b _ he hb=>by rw[he]at hb;exact hb⟩
      obtain⟨b,cs,ty,k1,k2,k3,k4,k5⟩:=ho
      refine⟨b,cs,ty,by rw[ht.env c' n (hs _ _ (b1 _ _ hn))];exact k1,k2,k3,λi' a z ha hz=> ?_,k5⟩
      have hq:=k4 i' a z ha hz
      rw[NB,NK]at hz
      obtain⟨d,_,rfl⟩:=hz
      exact hq.mono (Mem.le_refl _) λm hm=>by simp[H.has]at hm
     ·obtain⟨n',o,q1,q2,q3,x,q4,x',q5,q6,q7⟩:=b5 c' o' hm
      exact⟨n',o,q1,q2,q3,x,q4,x',q5,λτ all E E' M w ω ω' hs hv ht ho=>q6 τ all E E' M w ω ω' hs (λp hp=>hv p (NC _ hp)) ht ho,q7⟩
    ·cases h
   ·cases h
  ·cases h
theorem Fu{α:Type}:∀{ks:List Nat} {vs:List α} {t:Nat} {x:α},gt (ks.zip vs) t=some x->∃i:Nat,ks[i]?=some t/\vs[i]?=some x
 |[],_,t,x,h=>by simp[gt]at h
 |_::_,[],t,x,h=>by simp[gt]at h
 |k::ks,v::vs,t,x,h=>by
  simp only[PV,af]at h
  by_cases hk:k=t
  ·rw[Q6 hk]at h;cases h;exact⟨0,by simp[hk],rfl⟩
  ·rw[Q5 hk]at h
   obtain⟨i,h1,h2⟩:=Fu h
   exact⟨i+1,by simpa using h1,by simpa using h2⟩
theorem Gj{S:TS V.N}{c:Cut V.ι}{σ:cq}{ls:List (cg V.N)}(h:Gm V c S=some (σ,ls))(hok:BC V c σ=true):Ent (az V S) (az V (build V c ls)):=by
 unfold Gm at h
 split at h
 ·rename_i σ0 l0 h0
  split at h
  ·rename_i σ1 l1 h1
   simp at h;obtain⟨rfl,rfl⟩:=h
   obtain⟨a1,a2,a3,vs',a4,a5,a6⟩:=ia h0
   obtain⟨b1,b2,os,b3,b4,b5,b6⟩:=bI h1
   have hinj:Inj σ1:=b2 (a2 λc c' n h=>by simp[gt]at h)
   simp only[BC,NH,NM]at hok
   obtain⟨⟨hg,hsl⟩,hob⟩:=hok
   have hbuild:build V c (l0++l1)={tmps:=(c.slots.map (·.1)).zip vs',own:=os}:=by
    unfold build
    rw[a5 l1]
    simp only[b4]
   rw[hbuild]
   let S':TS V.N:={tmps:=(c.slots.map (·.1)).zip vs',own:=os}
   have hown:∀n o,S'.own? n=some o->(n,o)∈os:=λn o ho=>bH ho
   have hkey:∀n,(c.objs.any λp=>Ov p.1 n)=true->∃o,S'.own? n=some o:=by
    intro n hn
    rw[OU]at hn
    obtain⟨p,hp,hpn⟩:=hn
    have hpn:p.1=n:=by simpa using hpn
    have hm:n∈os.map (·.1):=by rw[b6,<-hpn];exact N1 hp
    exact fD hm
   intro C E M a w hs
   let E':Env:=λm=>match gt σ1 m with
    |some n=>E n
    |none=>E m
   have hE:∀k n,gt σ1 k=some n->E' k=E n:=λk n hk=>by simp only[E',hk]
   have ht:Tr σ1 c.objs E E' S.len S'.len:=by
    refine⟨hE,λk n hk hkn=> ?_⟩
    obtain⟨o,ho⟩:=hkey k hk
    obtain⟨n',o',q1,q2,q3,_⟩:=b5 k o (hown k o ho)
    rw[hkn]at q1;cases q1
    unfold TS.len;rw[ho,q2];exact q3
   have hob':∀p∈c.objs,match p.2 with| .box _ ps=>ps.all (uA V c.objs)=true|_=>True:=by
    intro p hp
    have:=hob p hp
    cases hq:p.2 with
    |box oty ps=>rw[hq]at this;simpa using this
    |st i=>trivial
    |vec te e=>trivial
    |dvec te e out=>trivial
    |map tk tv=>trivial
    |iter=>trivial
    |miter m k v=>trivial
    |que te e=>trivial
    |maps te k v=>trivial
    |bar m e=>trivial
   have hfind:∀n o,(az V S').own? n=some o->∃n0 o0,gt σ1 n=some n0/\(az V S).own? n0=some o0/\(∀w,aI E M w n0 o0->aI E' M w n o)/\∀b,o.foot w (E' n) b->o0.foot w (E n0) b:=by
    intro n o ho
    rw[aG,O8]at ho
    obtain⟨o',ho',hoo⟩:=ho
    obtain⟨n0,o0,q1,q2,_,x,q4,x',q5,q6,q7⟩:=b5 n o' (hown n o' ho')
    rw[q5]at hoo
    simp only[Ny]at hoo
    subst hoo
    exact⟨n0,x S.len,q1,by rw[aG,q2];exact q4 _,λw hw=>q6 σ1 c.objs E E' M w S.len S'.len (Sub.refl _) hob' ht hw,λb hb=>q7 E E' M w S.len S'.len b (hs.own n0 _ (by rw[aG,q2];exact q4 _)) (hE _ _ q1) hb⟩
   refine⟨E',M,{size:=hs.size,defers:=hs.defers,fixed:=hs.fixed,tmps:=λt x hx=> ?_,mem:=hs.mem,own:=λn o hn=> ?_,apart:=λn m o o' b hne hn hm hb=> ?_,home:=λn o b hn hb=> ?_,m0:=hs.m0,mnew:=hs.mnew,frame:=hs.frame,grows:=hs.grows,os:=hs.os,tape:=hs.tape,output:=hs.output,env:=λn hn=> ?_}⟩
   ·rw[bP,NK]at hx
    obtain⟨v',hv',rfl⟩:=hx
    obtain⟨i,g1,g2⟩:=Fu hv'
    have hi:i<(c.slots.map λp=>S.get p.1).length:=by rw[<-a4];exact(Nx.1 g2).1
    have hget:(c.slots.map λp=>S.get p.1)[i]?=some (S.get t):=by
     rw[NB]at g1⊢
     cases hsl':c.slots[i]? with
     |none=>rw[hsl']at g1;cases g1
     |some p=>rw[hsl']at g1;simp at g1;subst g1;rfl
    obtain⟨k1,k2⟩:=a6 i _ v' hget g2
    have hgt:∃v,gt S.tmps t=some v/\S.get t=v:=by
     unfold TS.get at k1⊢
     cases hq:gt S.tmps t with
     |none=>rw[hq]at k1;exact(k1 rfl).elim
     |some v=>exact⟨v,rfl,rfl⟩
    obtain⟨v,hv1,hv2⟩:=hgt
    obtain⟨av,hav,hrep⟩:=hs.tmps t (an V S.len v) (by rw[bP,hv1];rfl)
    refine⟨av,hav,k2 σ1 c.objs E E' M S.len S'.len av b1 ?_ ht (by rw[hv2];exact hrep)⟩
    rw[OZ]
    exact NM.2 hsl
   ·obtain⟨n0,o0,q1,q2,q3⟩:=hfind n o hn
    exact q3.1 w (hs.own n0 _ q2)
   ·obtain⟨n0,o0,q1,q2,q3⟩:=hfind n o hn
    obtain⟨m0,o1,r1,r2,r3⟩:=hfind m o' hm
    intro hb'
    exact hs.apart n0 m0 _ _ b (λe=>by subst e;exact hne (hinj n m n0 q1 r1)) q2 r2 (q3.2 b hb) (r3.2 b hb')
   ·obtain⟨n0,o0,q1,q2,q3⟩:=hfind n o hn
    exact hs.home n0 _ b q2 (q3.2 b hb)
   ·cases hq:gt σ1 n with
    |none=>simp only[E',hq];exact hs.env n hn
    |some m=>
     have:=hg _ (bH hq)
     simp only[Oy,Pk]at this
     rcases this with h|h
     ·omega
     ·have e:n=m:=by simpa using h
      rw[hE n m hq,<-e];exact hs.env n hn
  ·cases h
 ·cases h
end
end Go.Tx
end
