/-
  Texts of this claim, joined by a program of mine: what the theorem uses.
-/
import Derived.Test.YtpndmanbfleadaaGreatDoorPkC
open Array renaming getElem?_eq_getElem→OU,getElem?_eq_some_iff→OC,getElem?_modify→PI
open Bool renaming and_eq_true→Oy,eq_false_iff→Ra,not_eq_true'→Qy,or_eq_false_iff→PM,or_eq_true→Pk
open ByteArray renaming empty→O7
open Function renaming comp→Q8
open List renaming all_cons→PC,all_eq_true→OD,all_map→PL,any_eq_true→PG,append_assoc→O9,append_nil→Pj,cons_append→OG,drop_drop→PJ,drop_of_length_le→Rt,drop_zero→OZ,eq_nil_of_length_eq_zero→OL,ext_getElem?→Pf,flatten_cons→O4,getElem?_cons_zero→PW,getElem?_eq_getElem→Ou,getElem?_eq_some_iff→Ol,getElem?_map→Oq,getElem?_of_mem→Py,getElem?_set→Pa,getElem_mem→Pn,getElem_of_mem→QB,length→Qh,length_append→OJ,length_cons→O_,length_drop→O5,length_map→On,length_replicate→P5,length_set→Pi,mapM→Q5,mapM_cons→Ru,map_append→O6,map_congr_left→OP,map_cons→Ow,map_drop→Pr,map_flatten→QY,map_map→OQ,map_nil→O0,map_replicate→Qp,map_set→P1,map_take→Pq,mem_append→ON,mem_cons→Oz,mem_cons_of_mem→Ot,mem_cons_self→Ox,mem_map→OT,mem_map_of_mem→OR,mem_of_getElem?→OA,mem_of_mem_take→Pg,mem_replicate→Q4,mem_singleton→PE,nil_append→OM,replicate→Pc,set_set→Rh,take_append_drop→PH,take_append_of_le_length→PO,take_of_length_le→O8,take_succ_cons→RC,take_zero→QK,zip_cons_cons→QF
open List.cons renaming injEq→PF
open Nat renaming beq→Ph,blt→PQ,blt_eq→P8,eq_of_beq_eq_true→O2,le_refl→OO,mul_le_mul→QP,sub_zero→Rf,succ_mul→OY,zero_add→OS,zero_mul→P6
open Ne renaming symm→O3
open Option renaming bind_eq_some_iff→PV,bind_some→PX,getD_some→Pw,isSome_map→Q9,map_eq_some_iff→OB,map_none→QE,map_some→OW
open Option.some renaming injEq→Om
open Prod.mk renaming injEq→OV
noncomputable section
set_option linter.unusedSectionVars false
set_option linter.unusedSimpArgs false
section
namespace Go.Awp
variable [Inhabited GMem]
def HO(e:TypeId)(es:List (Option (List (Value×D))))(al:Option Nat)(M:Mem)(w:World)(v:Value)(vs:List Value)(B:Nat->Prop):Prop:=
 (v= .slice none 0 0/\es=[]/\(∀b,¬B b)/\al=none)\/
 ∃(g cap:Nat) (cur:Array Value),v= .slice (some ⟨g,0,none⟩) es.length cap/\w.heap[g]?=some (.cells cur e (0,0))/\es.length<=cap/\cap<=cur.size/\
  (∀b,B b↔b=g\/∃(i:Nat) (m:List (Value×D)),es[i]?=some (some m)/\cur[i]?=some (Value.map (some b)))/\
  (∀(i:Nat) (m:List (Value×D)),es[i]?=some (some m)->∃(r:Nat) (es':Array MapEntry) (clock:Nat),cur[i]?=some (Value.map (some r))/\r≠g/\w.heap[r]?=some (.map es' clock)/\cI m/\aW M es'.toList m/\ji es' clock)/\
  (∀(i j:Nat) (m m':List (Value×D)) (r:Nat),es[i]?=some (some m)->es[j]?=some (some m')->cur[i]?=some (Value.map (some r))->cur[j]?=some (Value.map (some r))->i=j)/\
  ∀i:Nat,al=some i->∃r:Nat,cur[i]?=some (Value.map (some r))/\vs=[Value.map (some r)]
def Eo(e:TypeId)(es:List (Option (List (Value×D))))(al:Option Nat):wV where
 R:=HO e es al
 keep:=by
  rintro M M' w w' v vs B (⟨h1,h2,h3,h4⟩|⟨g,cap,cur,h1,h2,h3,h4,h5,h6,h7,h8⟩) hM hw
  ·exact .inl ⟨h1,h2,h3,h4⟩
  ·refine .inr ⟨g,cap,cur,h1,by rw[hw g ((h5 g).2 (.inl rfl))];exact h2,h3,h4,h5,λi m hi=> ?_,h7,h8⟩
   obtain⟨r,es',clock,k1,k2,k3,k4,k5,k6⟩:=h6 i m hi
   exact⟨r,es',clock,k1,k2,by rw[hw r ((h5 r).2 (.inr ⟨i,m,hi,k1⟩))];exact k3,k4,k5.mono hM,k6⟩
 lt:=by
  rintro M w v vs B (⟨h1,h2,h3,h4⟩|⟨g,cap,cur,h1,h2,h3,h4,h5,h6,h7,h8⟩) b hb
  ·exact(h3 b hb).elim
  ·rcases(h5 b).1 hb with rfl|⟨i,m,hi,hc⟩
   ·exact(OC.1 h2).1
   ·obtain⟨r,es',clock,k1,k2,k3,_⟩:=h6 i m hi
    rw[hc]at k1;cases k1
    exact(OC.1 k3).1
 det:=by
  rintro M M' w v vs vs' B B' (⟨h1,h2,h3,h4⟩|⟨g,cap,cur,h1,h2,h3,h4,h5,h6,h7,h8⟩) (⟨k1,k2,k3,k4⟩|⟨g',cap',cur',k1,k2,k3,k4,k5,k6,k7,k8⟩) b
  ·exact⟨λh=>(h3 b h).elim,λh=>(k3 b h).elim⟩
  ·rw[h1]at k1;cases k1
  ·rw[k1]at h1;cases h1
  ·rw[h1]at k1;cases k1
   rw[h2]at k2;cases k2
   rw[h5,k5]
 outer:=by
  rintro M w v vs B b (⟨rfl,h2,h3,h4⟩|⟨g,cap,cur,rfl,h2,h3,h4,h5,h6,h7,h8⟩) hb
  ·cases hb
  ·cases hb;exact(h5 _).2 (.inl rfl)
def Own.maps(e:TypeId)(es:List (Option (List (Value×D))))(al:Option (Nat×Nat)):Own:=match al with
 |none=> .gen [] (Eo e es none)
 |some (d,i)=> .gen [d] (Eo e es (some i))
theorem aJ.maps{E:Env}{M:Mem}{w:World}{n e:Nat}{es:List (Option (List (Value×D)))}{al:Option (Nat×Nat)}(h:aJ E M w n (.maps e es al)):
 ∃B,HO e es (al.map (·.2)) M w (E n) (al.toList.map λp=>E p.1) B/\(∀b,B b->∀o,M b o=none)/\∀b,(Own.maps e es al).foot w (E n) b↔B b:=by
 cases al with
 |none=>
  obtain⟨B,h1,h2⟩:=h
  exact⟨B,h1,h2,dn h1⟩
 |some p=>
  obtain⟨d,i⟩:=p
  obtain⟨B,h1,h2⟩:=h
  exact⟨B,h1,h2,dn h1⟩
theorem aJ.mkMaps{E:Env}{M:Mem}{w:World}{n e:Nat}{es:List (Option (List (Value×D)))}{al:Option (Nat×Nat)}{B:Nat->Prop}(h:HO e es (al.map (·.2)) M w (E n) (al.toList.map λp=>E p.1) B)(hB:∀b,B b->∀o,M b o=none):
 aJ E M w n (.maps e es al)/\∀b,(Own.maps e es al).foot w (E n) b↔B b:=by
 cases al with
 |none=>exact⟨⟨B,h,hB⟩,dn (G:=Eo e es none) h⟩
 |some p=>
  obtain⟨d,i⟩:=p
  exact⟨⟨B,h,hB⟩,dn (G:=Eo e es (some i)) h⟩
theorem OLe.noAlias{e:Nat}{es:List (Option (List (Value×D)))}{al:Option (Nat×Nat)}:OLe (.maps e es al) (.maps e es none):=by
 have key:∀(E:Env) (M:Mem) (w:World) (n:Nat),aJ E M w n (.maps e es al)->aJ E M w n (.maps e es none)/\∀b,(Own.maps e es none).foot w (E n) b->(Own.maps e es al).foot w (E n) b:=by
  intro E M w n h
  obtain⟨B,h1,h2,h3⟩:=h.maps
  obtain⟨k1,k2⟩:=aJ.mkMaps (E:=E) (M:=M) (w:=w) (n:=n) (e:=e) (es:=es) (al:=none) (B:=B) (by
   rcases h1 with⟨a1,a2,a3,a4⟩|⟨g,cap,cur,a1,a2,a3,a4,a5,a6,a7,a8⟩
   ·exact .inl ⟨a1,a2,a3,rfl⟩
   ·exact .inr ⟨g,cap,cur,a1,a2,a3,a4,a5,a6,a7,λi h=>by cases h⟩) h2
  exact⟨k1,λb hb=>(h3 b).2 ((k2 b).1 hb)⟩
 exact⟨λE M w n h=>(key E M w n h).1,λE M w n b h hb=>(key E M w n h).2 b hb⟩
theorem OLe.v2maps{e:Nat}{rows:List (List D)}:OLe (.vec e 1 rows) (.maps e (rows.map λ_=>none) none):=by
 have key:∀(E:Env) (M:Mem) (w:World) (n:Nat),aJ E M w n (.vec e 1 rows)->aJ E M w n (.maps e (rows.map λ_=>none) none)/\∀b,(Own.maps e (rows.map λ_=>none) none).foot w (E n) b->(Own.vec e 1 rows).foot w (E n) b:=by
  intro E M w n ⟨xs,h1,h2,h3,h4⟩
  have hno:∀(i:Nat) (m:List (Value×D)),¬(rows.map λ_=>(none:Option (List (Value×D))))[i]?=some (some m):=λi m h=>by
   rw[Oq]at h
   cases rows[i]?<;>simp at h
  rcases h1.2 with⟨hE,hz0⟩|⟨g,cap,cur,hE,_,hg,hnc,hcm,hcs,hct⟩
  ·have hr0:rows=[]:=OL hz0
   subst hr0
   obtain⟨k1,k2⟩:=aJ.mkMaps (E:=E) (M:=M) (w:=w) (n:=n) (e:=e) (es:=[]) (al:=none) (B:=λ_=>False) (Or.inl ⟨by rw[hE],rfl,λ_ h=>h,rfl⟩) (λb hb=>hb.elim)
   exact⟨k1,λb hb=>((k2 b).1 hb).elim⟩
  ·obtain⟨k1,k2⟩:=aJ.mkMaps (E:=E) (M:=M) (w:=w) (n:=n) (e:=e) (es:=rows.map λ_=>none) (al:=none) (B:=λb=>b=g)
    (Or.inr ⟨g,cap,cur,by rw[hE,On],hg,by rw[On];exact hnc,by omega,λb=>⟨.inl,λh=>h.elim id λ⟨i,m,h,_⟩=>(hno i m h).elim⟩,λi m h=>(hno i m h).elim,λi j m m' r h=>(hno i m h).elim,λi h=>by cases h⟩)
    (λb hb=>h4 b (by rw[hE,hb];rfl))
   refine⟨k1,λb hb=> ?_⟩
   have:=(k2 b).1 hb
   subst this
   rw[hE];rfl
 exact⟨λE M w n h=>(key E M w n h).1,λE M w n b h hb=>(key E M w n h).2 b hb⟩
section
variable {C:Ctx} {E:Env} {M:Mem} {S:ab} {a:Act} {w:World}
theorem ab.fresh_ne{S:ab}{d n:Nat}{o:Own}(h:S.fresh d=true)(hn:S.own? n=some o):n≠d:=λe=>by
 unfold ab.fresh at h
 simp only[Oy]at h
 rw[<-e,hn]at h
 simp at h
theorem Sim.env_new(h:Sim C E M S a w){d:Nat}{v:Value}(hf:S.fresh d=true)(hg:d<given):Sim C (λk=>if k=d then v else E k) M S a w:=
 { h with
   tmps:=λt x hx=>by
    obtain⟨u,h1,h2⟩:=h.tmps t x hx
    exact⟨u,h1,h2.set (ab.fresh_tmp hf hx)⟩
   own:=λn o hn=>(h.own n o hn).keep (RR (ab.fresh_ne hf hn)) (λ_ _=>rfl) (λk hk=>RR λe=>by
    rw[e]at hk
    have:=ab.fresh_cell hf hn
    rw[hk]at this;cases this) (Mem.le_refl M) λb hb=>((h.own n o hn).block hb).2
   apart:=λn m o o' b hne hn hm hb hb'=>by
    simp only[RR (ab.fresh_ne hf hn)]at hb
    simp only[RR (ab.fresh_ne hf hm)]at hb'
    exact h.apart n m o o' b hne hn hm hb hb'
   home:=λn o b hn hb=>by
    simp only[RR (ab.fresh_ne hf hn)]at hb
    exact h.home n o b hn hb
   env:=λn hn=>by
    have:n≠d:=by unfold given at *;omega
    simp only[RR this]
    exact h.env n hn}
theorem Sim.promote(h:Sim C E M S a w){m d i e:Nat}{es:List (Option (List (Value×D)))}{m0:List (Value×D)}(hm:S.own? m=some (.maps e es (some (d,i))))(hi:es[i]?=some (some m0))(hd:S.own? d=none):
 Sim C E M {S with own:=(d,some (.map m0))::(m,some (.maps e (es.set i none) (some (d,i))))::S.own} a w:=by
 have hdm:m≠d:=λe=>by rw[e,hd]at hm;cases hm
 obtain⟨B,h1,h2,h3⟩:=(h.own m _ hm).maps
 rcases h1 with⟨a1,a2,a3,a4⟩|⟨g,cap,cur,a1,a2,a3,a4,a5,a6,a7,a8⟩
 ·subst a2;simp at hi
 obtain⟨r,hr1,hr2⟩:=a8 i rfl
 simp only[Option.toList_some,Ow,O0,PF,and_true]at hr2
 obtain⟨r',es',clock,b1,b2,b3,b4,b5,b6⟩:=a6 i m0 hi
 rw[hr1]at b1;cases b1
 have hset:∀(j:Nat) (m1:List (Value×D)),(es.set i none)[j]?=some (some m1)↔j≠i/\es[j]?=some (some m1):=by
  intro j m1
  rw[Pa]
  by_cases hij:i=j
  ·subst hij
   rw[RS rfl]
   split<;>simp
  ·rw[RR hij]
   exact⟨λh=>⟨O3 hij,h⟩,λh=>h.2⟩
 have hBr:B r:=(a5 r).2 (.inr ⟨i,m0,hi,hr1⟩)
 obtain⟨k1,k2⟩:=aJ.mkMaps (E:=E) (M:=M) (w:=w) (n:=m) (e:=e) (es:=es.set i none) (al:=some (d,i)) (B:=λb=>B b/\b≠r)
  (Or.inr ⟨g,cap,cur,by rw[Pi];exact a1,a2,by rw[Pi];exact a3,a4,λb=>by
    dsimp only
    rw[a5]
    constructor
    ·rintro⟨rfl|⟨j,m1,h5,h6⟩,hne⟩
     ·exact .inl rfl
     ·exact .inr ⟨j,m1,(hset j m1).2 ⟨λe=>hne (by rw[e,hr1]at h6;cases h6;rfl),h5⟩,h6⟩
    ·rintro(rfl|⟨j,m1,h5,h6⟩)
     ·exact⟨.inl rfl,O3 b2⟩
     ·obtain⟨h7,h8⟩:=(hset j m1).1 h5
      exact⟨.inr ⟨j,m1,h8,h6⟩,λe=>h7 (a7 j i m1 m0 r h8 hi (by rw[<-e];exact h6) hr1)⟩,
    λj m1 h5=>a6 j m1 ((hset j m1).1 h5).2,λj j' m1 m2 r' h5 h6=>a7 j j' m1 m2 r' ((hset j m1).1 h5).2 ((hset j' m2).1 h6).2,a8⟩) (λb hb=>h2 b hb.1)
 have okd:aJ E M w d (.map m0):=⟨r,es',clock,hr2,b3,b4,b5,b6,h2 r hBr⟩
 have hfd:∀b,(Own.map m0).foot w (E d) b->b=r:=λb hb=>by
  have:ak (E d)=some b:=hb
  rw[hr2]at this;cases this;rfl
 have hlook:∀k o,({S with own:=(d,some (.map m0))::(m,some (.maps e (es.set i none) (some (d,i))))::S.own}:ab).own? k=some o->
  k=d/\o= .map m0\/k=m/\o= .maps e (es.set i none) (some (d,i))\/k≠d/\k≠m/\S.own? k=some o:=by
  intro k o hk
  simp only[ab.own?,af]at hk
  by_cases q1:d=k
  ·subst q1
   rw[RS rfl]at hk;simp at hk
   exact .inl ⟨rfl,hk.symm⟩
  ·rw[RR q1]at hk
   by_cases q2:m=k
   ·subst q2
    rw[RS rfl]at hk;simp at hk
    exact .inr (.inl ⟨rfl,hk.symm⟩)
   ·rw[RR q2]at hk
    exact .inr (.inr ⟨O3 q1,O3 q2,hk⟩)
 have low:∀k o b,({S with own:=(d,some (.map m0))::(m,some (.maps e (es.set i none) (some (d,i))))::S.own}:ab).own? k=some o->o.foot w (E k) b->∃n0 o0,S.own? n0=some o0/\o0.foot w (E n0) b/\(n0=k\/n0=m/\k=d):=by
  intro k o b hk hb
  rcases hlook k o hk with⟨rfl,rfl⟩|⟨rfl,rfl⟩|⟨q1,q2,q3⟩
  ·have:=hfd b hb
   subst this
   exact⟨m,_,hm,(h3 _).2 hBr, .inr ⟨rfl,rfl⟩⟩
  ·exact⟨_,_,hm,(h3 b).2 ((k2 b).1 hb).1, .inl rfl⟩
  ·exact⟨k,o,q3,hb, .inl rfl⟩
 refine h.regroup (λt x hx=>⟨x,hx,λ_ hv=>hv⟩) (λk o hk=> ?_) (λn n' o o' b hne hn hn' hb hb'=> ?_) (λk o b hk hb=>let⟨n0,o0,p1,p2,_⟩:=low k o b hk hb;⟨n0,o0,p1,p2⟩) λ_ _=>rfl
 ·rcases hlook k o hk with⟨rfl,rfl⟩|⟨rfl,rfl⟩|⟨q1,q2,q3⟩
  ·exact okd
  ·exact k1
  ·exact h.own k o q3
 ·rcases hlook n o hn with⟨rfl,rfl⟩|⟨rfl,rfl⟩|⟨q1,q2,q3⟩
  ·have hbr:=hfd b hb
   rcases hlook n' o' hn' with⟨rfl,rfl⟩|⟨rfl,rfl⟩|⟨p1,p2,p3⟩
   ·exact hne rfl
   ·exact((k2 b).1 hb').2 hbr
   ·exact h.apart m n' _ o' b (O3 p2) hm p3 ((h3 b).2 (by rw[hbr];exact hBr)) hb'
  ·rcases hlook n' o' hn' with⟨rfl,rfl⟩|⟨rfl,rfl⟩|⟨p1,p2,p3⟩
   ·exact((k2 b).1 hb).2 (hfd b hb')
   ·exact hne rfl
   ·exact h.apart n n' _ o' b hne hm p3 ((h3 b).2 ((k2 b).1 hb).1) hb'
  ·rcases hlook n' o' hn' with⟨rfl,rfl⟩|⟨rfl,rfl⟩|⟨p1,p2,p3⟩
   ·have hbr:=hfd b hb'
    exact h.apart n m o _ b q2 q3 hm hb ((h3 b).2 (by rw[hbr];exact hBr))
   ·exact h.apart n n' o _ b hne q3 hm hb ((h3 b).2 ((k2 b).1 hb').1)
   ·exact h.apart n n' o o' b hne q3 p3 hb hb'
theorem Sim.demote(h:Sim C E M S a w){m d i e:Nat}{es:List (Option (List (Value×D)))}{m1:List (Value×D)}(hm:S.own? m=some (.maps e es (some (d,i))))(hi:es[i]?=some none)(hd:S.own? d=some (.map m1))(hdm:d≠m):
 Sim C E M {S with own:=(d,none)::(m,some (.maps e (es.set i (some m1)) (some (d,i))))::S.own} a w:=by
 obtain⟨B,h1,h2,h3⟩:=(h.own m _ hm).maps
 rcases h1 with⟨a1,a2,a3,a4⟩|⟨g,cap,cur,a1,a2,a3,a4,a5,a6,a7,a8⟩
 ·subst a2;simp at hi
 obtain⟨r,hr1,hr2⟩:=a8 i rfl
 simp only[Option.toList_some,Ow,O0,PF,and_true]at hr2
 obtain⟨r',es',clock,b1,b2,b3,b4,b5,b6⟩:=h.own d _ hd
 rw[hr2]at b1;cases b1
 have hfd:(Own.map m1).foot w (E d) r:=by
  show ak (E d)=some r
  rw[hr2];rfl
 have hBr:¬B r:=λhb=>h.apart d m _ _ r hdm hd hm hfd ((h3 r).2 hb)
 have hil:i<es.length:=(Ol.1 hi).1
 have hset:∀(j:Nat) (m2:List (Value×D)),(es.set i (some m1))[j]?=some (some m2)↔j=i/\m2=m1\/j≠i/\es[j]?=some (some m2):=by
  intro j m2
  rw[Pa]
  by_cases hij:i=j
  ·subst hij
   rw[RS rfl,RS hil]
   simp[eq_comm]
  ·rw[RR hij]
   exact⟨λh=> .inr ⟨O3 hij,h⟩,λh=>h.elim (λh=>(hij h.1.symm).elim) λh=>h.2⟩
 have hrg:r≠g:=λe=>hBr ((a5 r).2 (.inl e))
 have hrj:∀j m2,es[j]?=some (some m2)->cur[j]?≠some (Value.map (some r)):=λj m2 h5 h6=>hBr ((a5 r).2 (.inr ⟨j,m2,h5,h6⟩))
 obtain⟨k1,k2⟩:=aJ.mkMaps (E:=E) (M:=M) (w:=w) (n:=m) (e:=e) (es:=es.set i (some m1)) (al:=some (d,i)) (B:=λb=>B b\/b=r)
  (Or.inr ⟨g,cap,cur,by rw[Pi];exact a1,a2,by rw[Pi];exact a3,a4,λb=>by
    dsimp only
    rw[a5]
    constructor
    ·rintro((rfl|⟨j,m2,h5,h6⟩)|rfl)
     ·exact .inl rfl
     ·exact .inr ⟨j,m2,(hset j m2).2 (.inr ⟨λe=>(by rw[e,hi]at h5;cases h5),h5⟩),h6⟩
     ·exact .inr ⟨i,m1,(hset i m1).2 (.inl ⟨rfl,rfl⟩),hr1⟩
    ·rintro(rfl|⟨j,m2,h5,h6⟩)
     ·exact .inl (.inl rfl)
     ·rcases(hset j m2).1 h5 with⟨rfl,rfl⟩|⟨h7,h8⟩
      ·rw[hr1]at h6;cases h6;exact .inr rfl
      ·exact .inl (.inr ⟨j,m2,h8,h6⟩),
    λj m2 h5=>by
     rcases(hset j m2).1 h5 with⟨rfl,rfl⟩|⟨h7,h8⟩
     ·exact⟨r,es',clock,hr1,hrg,b2,b3,b4,b5⟩
     ·exact a6 j m2 h8,
    λj j' m2 m3 r' h5 h6 h7 h8=>by
     rcases(hset j m2).1 h5 with⟨rfl,rfl⟩|⟨p1,p2⟩
     ·rcases(hset j' m3).1 h6 with⟨rfl,rfl⟩|⟨q1,q2⟩
      ·rfl
      ·rw[hr1]at h7;cases h7;exact(hrj j' m3 q2 h8).elim
     ·rcases(hset j' m3).1 h6 with⟨rfl,rfl⟩|⟨q1,q2⟩
      ·rw[hr1]at h8;cases h8;exact(hrj j m2 p2 h7).elim
      ·exact a7 j j' m2 m3 r' p2 q2 h7 h8,a8⟩)
  (λb hb=>by
    rcases hb with hb|rfl
    ·exact h2 b hb
    ·exact((h.own d _ hd).block hfd).2)
 have hlook:∀k o,({S with own:=(d,none)::(m,some (.maps e (es.set i (some m1)) (some (d,i))))::S.own}:ab).own? k=some o->
  k=m/\o= .maps e (es.set i (some m1)) (some (d,i))\/k≠d/\k≠m/\S.own? k=some o:=by
  intro k o hk
  simp only[ab.own?,af]at hk
  by_cases q1:d=k
  ·subst q1
   rw[RS rfl]at hk;simp at hk
  ·rw[RR q1]at hk
   by_cases q2:m=k
   ·subst q2
    rw[RS rfl]at hk;simp at hk
    exact .inl ⟨rfl,hk.symm⟩
   ·rw[RR q2]at hk
    exact .inr ⟨O3 q1,O3 q2,hk⟩
 have feet:∀b,(Own.maps e (es.set i (some m1)) (some (d,i))).foot w (E m) b->(Own.maps e es (some (d,i))).foot w (E m) b\/(Own.map m1).foot w (E d) b:=λb hb=>by
  rcases(k2 b).1 hb with h5|rfl
  ·exact .inl ((h3 b).2 h5)
  ·exact .inr hfd
 refine h.regroup (λt x hx=>⟨x,hx,λ_ hv=>hv⟩) (λk o hk=> ?_) (λn n' o o' b hne hn hn' hb hb'=> ?_) (λk o b hk hb=> ?_) λ_ _=>rfl
 ·rcases hlook k o hk with⟨rfl,rfl⟩|⟨q1,q2,q3⟩
  ·exact k1
  ·exact h.own k o q3
 ·rcases hlook n o hn with⟨rfl,rfl⟩|⟨q1,q2,q3⟩
  ·rcases hlook n' o' hn' with⟨rfl,rfl⟩|⟨p1,p2,p3⟩
   ·exact hne rfl
   ·rcases feet b hb with h5|h5
    ·exact h.apart n n' _ o' b hne hm p3 h5 hb'
    ·exact h.apart d n' _ o' b (O3 p1) hd p3 h5 hb'
  ·rcases hlook n' o' hn' with⟨rfl,rfl⟩|⟨p1,p2,p3⟩
   ·rcases feet b hb' with h5|h5
    ·exact h.apart n n' o _ b hne q3 hm hb h5
    ·exact h.apart n d o _ b q1 q3 hd hb h5
   ·exact h.apart n n' o o' b hne q3 p3 hb hb'
 ·rcases hlook k o hk with⟨rfl,rfl⟩|⟨q1,q2,q3⟩
  ·rcases feet b hb with h5|h5
   ·exact⟨_,_,hm,h5⟩
   ·exact⟨_,_,hd,h5⟩
  ·exact⟨k,o,q3,hb⟩
end
variable {P:Program} {nm:Nat->Nat} {o:Oper} {ρ:Operand->H} {ω:Nat->Option Own}
theorem aC.ofAVal{e:Eff}(h:∀(ρ':Operand->H) (ω':Nat->Option Own),(∀x∈o.op.operands,ρ' x=ρ x)->(∀n∈e.acc,ω' n=ω n)->aT P nm o ρ' ω' (λe'=>e'=e)):aC P nm o ρ ω e:=by
 intro C E M S a w K Q hP hd hs he hacc hn hK
 subst hP
 refine uq (nm:=nm) hd E M S a w K Q (λe'=>e'=e) hs (nh (λe' he'=> ?_) (h _ _ he hacc)) λe' E' M' a' w' he' hs'=> ?_
 ·subst he';exact⟨hn,rfl⟩
 ·subst he';exact hK _ _ _ _ hs'
theorem aC.ole{v:H}{acc new:List Nat}{upd upd':List (Nat×Option Own)}(h:aC P nm o ρ ω {val:=v,acc:=acc,upd:=upd,new:=new})
 (hl:∀(own:List (Nat×Option Own)) (n:Nat) (o:Own),(gt (upd'++own) n).getD none=some o->∃o',(gt (upd++own) n).getD none=some o'/\OLe o' o):aC P nm o ρ ω {val:=v,acc:=acc,upd:=upd',new:=new}:=
 λC E M S a w K Q hP hd hs he hacc hn hK=>h C E M S a w K Q hP hd hs he hacc hn λE' M' a' w' hs'=>hK E' M' a' w' (hs'.ole rfl λn o ho=>hl S.own n o ho)
theorem aC.viaAlias{v:H}{m d i e:Nat}{es:List (Option (List (Value×D)))}{m0 m1:List (Value×D)}(hm:ω m=some (.maps e es (some (d,i))))(hi:es[i]?=some (some m0))(hd0:ω d=none)(hdm:d≠m)
 (h:∀ω',ω' d=some (.map m0)->aC P nm o ρ ω' {val:=v,acc:=[d],upd:=[(d,some (.map m1))]}):
 aC P nm o ρ ω {val:=v,acc:=[m,d],upd:=[(m,some (.maps e (es.set i (some m1)) (some (d,i)))),(d,none)]}:=by
 intro C E M S a w K Q hP hd hs he hacc hn hK
 have hm':S.own? m=some (.maps e es (some (d,i))):=by rw[hacc m (by simp)];exact hm
 have hd':S.own? d=none:=by rw[hacc d (by simp)];exact hd0
 have h1:=hs.promote hm' hi hd'
 have hil:i<es.length:=(Ol.1 hi).1
 refine h (λ_=>some (.map m0)) rfl C E M _ a w K Q hP hd h1 (λx hx=>he x hx) (λn hn'=> ?_) (λk hk=>by cases hk) λE' M' a' w' hs'=> ?_
 ·simp only[PE]at hn'
  subst hn'
  simp[ab.own?,af]
 ·have h2:=hs'.demote (m:=m) (d:=d) (i:=i) (e:=e) (es:=es.set i none) (m1:=m1) (by simp[ab.own?,ab.app,af,hdm]) (by simp[hil]) (by simp[ab.own?,ab.app,af]) hdm
  refine hK _ _ _ _ (h2.weaken (λt x hx=> .inl hx) λk o' hk=> ?_)
  simp only[ab.own?,ab.app,OG,OM,af]at hk⊢
  by_cases q1:m=k
  ·subst q1
   rw[RS rfl]at hk
   rw[RR hdm,RS rfl]
   simp only[Pw,Rh]at hk⊢
   exact hk
  ·rw[RR q1]at hk
   by_cases q2:d=k
   ·subst q2;rw[RS rfl]at hk⊢;exact hk
   ·rw[RR q2]at hk
    rw[RR q2,RR q1,RR q2,RR q2,RR q1];exact hk
theorem aC.told{v:H}{n:Nat}{o1:Own}(hn:ω n=some o1)(h:aC P nm o ρ ω {val:=v,acc:=[n]}):aC P nm o ρ ω {val:=v,acc:=[n],upd:=[(n,some o1)]}:=by
 intro C E M S a w K Q hP hd hs he hacc hnw hK
 have hn':S.own? n=some o1:=by rw[hacc n (by simp)];exact hn
 refine h C E M S a w K Q hP hd hs he hacc hnw λE' M' a' w' hs'=>hK E' M' a' w' (hs'.weaken (λt x hx=> .inl hx) λk o' hk=> ?_)
 simp only[ab.own?,ab.app,OG,OM,af]at hk⊢
 by_cases q:n=k
 ·subst q
  rw[RS rfl]at hk
  simp only[Pw]at hk
  rw[<-hk];exact hn'
 ·rw[RR q]at hk;exact hk
theorem aC.rangeAlias{t:TypeId}{x:Operand}{m d i e nn:Nat}{es:List (Option (List (Value×D)))}{m0:List (Value×D)}(ho:o.op= .range t x)(hu:∃k v,P.underlying t=some (.map k v))(hx:ρ x= .mp d)(hdst:o.dst≠none)
 (hm:ω m=some (.maps e es (some (d,i))))(hi:es[i]?=some (some m0))(hd0:ω d=none)(hnn:nn≠d/\nn≠m):
 aC P nm o ρ ω {val:= .bp nn 0,acc:=[m,d],upd:=[(nn,some (.miter d m0 m0 none)),(d,none),(m,some (.maps e (es.set i none) none))],new:=[nn]}:=by
 intro C E M S a w K Q hP hd hs he hacc hn hK
 subst hP
 have hm':S.own? m=some (.maps e es (some (d,i))):=by rw[hacc m (by simp)];exact hm
 have hd':S.own? d=none:=by rw[hacc d (by simp)];exact hd0
 have h1:=hs.promote hm' hi hd'
 obtain⟨kt,vt,hu⟩:=hu
 obtain⟨dd,hdst⟩:=Option.ne_none_iff_exists'.1 hdst
 simp only[ho,Op.operands]at he
 have hx':Go.Awp.ev S x= .mp d:=by rw[he x (by simp)];exact hx
 have hf:=hn nn (by simp)
 have hf':({S with own:=(d,some (.map m0))::(m,some (.maps e (es.set i none) (some (d,i))))::S.own}:ab).fresh nn=true:=by
  have h5:=hf.1
  unfold ab.fresh at h5⊢
  simp only[Oy,PC]at h5⊢
  refine⟨⟨?_,h5.1.2⟩,?_,?_,h5.2⟩
  ·simp only[ab.own?,af,RR (O3 hnn.1),RR (O3 hnn.2)]
   exact h5.1.1
  ·rfl
  ·have:=ab.fresh_cell hf.1 hm'
   have h6:Own.has nn (.maps e (es.set i none) (some (d,i)))=Own.has nn (.maps e es (some (d,i))):=rfl
   simp only[h6,this];rfl
 refine uq (nm:=λ_=>nn) hd E M _ a w K Q (λe'=>e'={val:= .bp nn 0,acc:=[d],upd:=[(nn,some (.miter d m0 m0 none)),(d,none)],new:=[nn]}) h1 ?_ λe' E' M' a' w' he' hs'=> ?_
 ·have hx2:Go.Awp.ev {S with own:=(d,some (.map m0))::(m,some (.maps e (es.set i none) (some (d,i))))::S.own} x= .mp d:=hx'
  simp only[aT,ho,hu,hx2,hdst]
  simp only[ab.own?,af,RO,Pw]
  exact⟨λk hk=>by
   rw[PE]at hk
   subst hk
   exact⟨hf',hf.2⟩,trivial⟩
 ·subst he'
  refine hK _ _ _ _ (hs'.ole rfl λk o' hk=> ?_)
  simp only[ab.own?,ab.app,OG,OM,af]at hk⊢
  by_cases q0:nn=k
  ·rw[RS q0]at hk⊢;exact⟨o',hk,OLe.refl _⟩
  ·rw[RR q0]at hk⊢
   by_cases q1:d=k
   ·rw[RS q1]at hk;simp at hk
   ·rw[RR q1]at hk⊢
    rw[RR q1]
    by_cases q2:m=k
    ·rw[RS q2]at hk⊢
     simp only[Pw,Om]at hk
     subst hk
     exact⟨_,rfl,OLe.noAlias⟩
    ·rw[RR q2]at hk⊢;exact⟨o',hk,OLe.refl _⟩
theorem aC.loadMap{t:TypeId}{x:Operand}{m i e d:Nat}{es:List (Option (List (Value×D)))}{al:Option (Nat×Nat)}{m0:List (Value×D)}(ho:o.op= .load t x)(ht:bu P t=some (false,1))(hx:ρ x= .ep m 1 i 0)(hm:ω m=some (.maps e es al))
 (hi:es[i]?=some (some m0))(hdm:d≠m):aC P nm o ρ ω {val:= .mp d,acc:=[m],upd:=[(m,some (.maps e es (some (d,i))))],new:=[d]}:=by
 intro C E M S a w K Q hP hd hs he hacc hn hK
 subst hP
 simp only[ho,Op.operands]at he
 have hf:=hn d (by simp)
 have hx':Go.Awp.ev S x= .ep m 1 i 0:=by rw[he x (by simp)];exact hx
 have hm':S.own? m=some (.maps e es al):=by rw[hacc m (by simp)];exact hm
 have hxr:=hs.ev x
 rw[hx']at hxr
 obtain⟨B,h1,h2,h3⟩:=(hs.own m _ hm').maps
 rcases h1 with⟨a1,a2,a3,a4⟩|⟨g,cap,cur,a1,a2,a3,a4,a5,a6,a7,a8⟩
 ·subst a2;simp at hi
 obtain⟨r,es',clock,b1,b2,b3,b4,b5,b6⟩:=a6 i m0 hi
 generalize hq:a.eval x=qv at hxr
 cases hxr with
 |ep n sz' i off b q0 l c hE2 hil=>
  rw[a1]at hE2;cases hE2
  have hrun:=(run_load (P:=C.P) (w:=w) ht (b:=g) (off:=0+i *1+0) (cs:=[.map (some r)]) (λj v hv=>by
   cases j with
   |zero=>simp at hv;subst hv;simp[World.cell?,a2,b1]
   |succ j=>simp at hv)).2 rfl _ rfl
  refine ap (fl ho hq hrun) ?_
  have k0:=hs.env_new (d:=d) (v:= .map (some r)) hf.1 hf.2
  have hmd:m≠d:=O3 hdm
  obtain⟨k1,k2⟩:=aJ.mkMaps (E:=λk=>if k=d then .map (some r)else E k) (M:=M) (w:=w) (n:=m) (e:=e) (es:=es) (al:=some (d,i)) (B:=B)
   (Or.inr ⟨g,cap,cur,by simp only[RR hmd];exact a1,a2,a3,a4,a5,a6,a7,λj hj=>by
     simp only[OW,Om]at hj
     subst hj
     exact⟨r,b1,by simp⟩⟩) h2
  have h5:=k0.own_step (E':=λk=>if k=d then .map (some r)else E k) (n:=m) (d:=m) (o':= .maps e es (some (d,i))) hm' (w':=w) (cM w _) (λ_ _=>rfl) (.inl ⟨rfl,rfl⟩)
   (λb hb=> .inl (by
     have:=(k2 b).1 hb
     simp only[RR hmd]
     exact(h3 b).2 this)) (λb hb=>k0.block_lt hm' (b:=b) (by
      simp only[RR hmd]at hb⊢
      rw[a1]at hb;cases hb
      exact(h3 g).2 ((a5 g).2 (.inl rfl)))) k1
  have h6:=h5.put o.dst hd (v:= .map (some r)) (x:= .mp d) (.mp d r (by simp))
  refine hK _ _ _ _ (h6.weaken (λt x hx=> .inl hx) λk o' hk=> ?_)
  simp only[ab.own?,ab.app,OG,OM,af]at hk⊢
  by_cases q1:m=k
  ·rw[RS q1]at hk⊢;exact hk
  ·rw[RR q1]at hk⊢;rw[RR q1];exact hk
theorem aC.indexMaps{t:TypeId}{x i:Operand}{m e e' sz by_:Nat}{kk:IntKind}{n:Int}{es:List (Option (List (Value×D)))}{al:Option (Nat×Nat)}(ho:o.op= .indexAddr t x i)(ht:bg P t=some (e',sz,by_))(hx:ρ x= .vh m es.length)(hi:ρ i= .d (.v (.int kk n)))
 (hm:ω m=some (.maps e es al))(h0:0<=n)(h1:n<es.length):aC P nm o ρ ω {val:= .ep m sz n.toNat 0,acc:=[m]}:=by
 intro C E M S a w K Q hP hd hs he hacc hn hK
 subst hP
 simp only[ho,Op.operands]at he
 obtain⟨ii,z,hu,hii,hz,hzs,his,hib,hpos⟩:=ba ht
 have hx':Go.Awp.ev S x= .vh m es.length:=by rw[he x (by simp)];exact hx
 have hm':S.own? m=some (.maps e es al):=by rw[hacc m (by simp)];exact hm
 have hxr:=hs.ev x
 rw[hx']at hxr
 obtain⟨B,g1,g2,g3⟩:=(hs.own m _ hm').maps
 rcases g1 with⟨a1,a2,a3,a4⟩|⟨g,cap,cur,a1,a2,a3,a4,a5,a6,a7,a8⟩
 ·subst a2;simp at h1;omega
 have hq:=d_ hxr a1
 rw[a1]at hq
 have hir:a.eval i= .int kk n:=by
  have:=hs.ev i
  rw[he i (by simp),hi]at this
  exact this.dv
 have hrun:(execOp a.eval o).run C.P w= .ok (.value (.pointer (some ⟨g,0+n.toNat *sz,none⟩))) w:=by
  simp[execOp,ho,hq,hir,Instr.indexAt,asIntOf,run_underlying hu,sizeOf,typeInfo,hii,his,h0,h1,bF]
 refine ap hrun (hK _ _ _ _ (hs.app_val hd rfl ?_))
 have:=aP.ep (E:=E) (M:=M) m sz n.toNat 0 g 0 es.length _ a1 (by omega)
 simpa using this
theorem aC.storeMap{t:TypeId}{x y:Operand}{m n i e:Nat}{es:List (Option (List (Value×D)))}{al:Option (Nat×Nat)}{m0:List (Value×D)}{ag:Bool}(ho:o.op= .store t x y)(ht:bu P t=some (ag,1))(hx:ρ x= .ep m 1 i 0)(hy:ρ y= .mp n)
 (hm:ω m=some (.maps e es al))(hn0:ω n=some (.map m0))(hi:i<es.length)(hnm:n≠m):
 aC P nm o ρ ω {val:= .junk,acc:=[m,n],upd:=[(m,some (.maps e (es.set i (some m0)) none)),(n,none)]}:=by
 intro C E M S a w K Q hP hd hs he hacc hn hK
 subst hP
 simp only[ho,Op.operands]at he
 have hx':Go.Awp.ev S x= .ep m 1 i 0:=by rw[he x (by simp)];exact hx
 have hy':Go.Awp.ev S y= .mp n:=by rw[he y (by simp)];exact hy
 have hm':S.own? m=some (.maps e es al):=by rw[hacc m (by simp)];exact hm
 have hn':S.own? n=some (.map m0):=by rw[hacc n (by simp)];exact hn0
 have hxr:=hs.ev x
 rw[hx']at hxr
 have hyr:=hs.ev y
 rw[hy']at hyr
 obtain⟨B,h1,h2,h3⟩:=(hs.own m _ hm').maps
 obtain⟨r,es',clock,b1,b2,b3,b4,b5,b6⟩:=hs.own n _ hn'
 have hfn:(Own.map m0).foot w (E n) r:=by
  show ak (E n)=some r
  rw[b1];rfl
 have hBr:¬B r:=λhb=>hs.apart n m _ _ r hnm hn' hm' hfn ((h3 r).2 hb)
 rcases h1 with⟨a1,a2,a3,a4⟩|⟨g,cap,cur,a1,a2,a3,a4,a5,a6,a7,a8⟩
 ·subst a2;simp at hi
 generalize hq:a.eval x=qv at hxr
 cases hxr with
 |ep _ _ _ _ b q0 l c hE2 hil=>
  rw[a1]at hE2;cases hE2
  generalize hyv:a.eval y=yv at hyr
  cases hyr with
  |mp _ r' hEn=>
   rw[b1]at hEn;cases hEn
   have hst:=fa (P:=C.P) (w:=w) ht (b:=g) (off:=0+i *1+0) (cur:=cur) (ty:=e) a2 (v:= .map (some r)) rfl (by omega) (λu hu=>by
    simp[Value.cells]at hu;subst hu;rfl)
   obtain⟨cur',hcur'⟩:∃cur',cur'=(cur.toList.take (0+i *1+0)++(Value.map (some r)).cells.toList++cur.toList.drop (0+i *1+0+1)).toArray:=⟨_,rfl⟩
   rw[<-hcur']at hst
   have hget:∀j,cur'[j]?=if j=i then some (.map (some r))else cur[j]?:=by
    intro j
    have h5:=bD cur.toList [Value.map (some r)] (0+i *1+0) j (by simp;omega)
    have h6:cur'[j]?=(cur.toList.take (0+i *1+0)++[Value.map (some r)]++cur.toList.drop (0+i *1+0+[Value.map (some r)].length))[j]?:=by
     rw[hcur'];simp[Value.cells]
    rw[h6,h5]
    by_cases hj:j=i
    ·subst hj
     rw[RR (by omega),RS (by simp),RS rfl]
     simp
    ·rw[RR hj]
     split
     ·simp
     ·rw[RR (by simp;omega)];simp
   have hsz:cur'.size=cur.size:=by
    rw[hcur'];simp[Value.cells];omega
   refine ja (w':=w.setRow g cur') (iS ho hq (by rw[hyv];exact hst)) ?_
   have hrg:r≠g:=λe=>hBr ((a5 r).2 (.inl e))
   have hrj:∀j m2,es[j]?=some (some m2)->cur[j]?≠some (Value.map (some r)):=λj m2 h5 h6=>hBr ((a5 r).2 (.inr ⟨j,m2,h5,h6⟩))
   have hset:∀(j:Nat) (m2:List (Value×D)),(es.set i (some m0))[j]?=some (some m2)↔j=i/\m2=m0\/j≠i/\es[j]?=some (some m2):=by
    intro j m2
    rw[Pa]
    by_cases hij:i=j
    ·subst hij
     rw[RS rfl,RS hi]
     simp[eq_comm]
    ·rw[RR hij]
     exact⟨λh=> .inr ⟨O3 hij,h⟩,λh=>h.elim (λh=>(hij h.1.symm).elim) λh=>h.2⟩
   have hheap:(w.setRow g cur').heap[g]?=some (.cells cur' e (0,0)):=by
    simp[World.setRow,PI,a2]
   have hother:∀k,k≠g->(w.setRow g cur').heap[k]?=w.heap[k]?:=λk hk=>setRow_other w g k _ hk
   obtain⟨k1,k2⟩:=aJ.mkMaps (E:=E) (M:=M) (w:=w.setRow g cur') (n:=m) (e:=e) (es:=es.set i (some m0)) (al:=none) (B:=λb=>b=g\/b=r\/∃j m2,j≠i/\es[j]?=some (some m2)/\cur[j]?=some (Value.map (some b)))
    (Or.inr ⟨g,cap,cur',by rw[Pi];exact a1,hheap,by rw[Pi];exact a3,by rw[hsz];exact a4,λb=>by
      constructor
      ·rintro(rfl|rfl|⟨j,m2,h5,h6,h7⟩)
       ·exact .inl rfl
       ·exact .inr ⟨i,m0,(hset i m0).2 (.inl ⟨rfl,rfl⟩),by rw[hget,RS rfl]⟩
       ·exact .inr ⟨j,m2,(hset j m2).2 (.inr ⟨h5,h6⟩),by rw[hget,RR h5];exact h7⟩
      ·rintro(rfl|⟨j,m2,h5,h6⟩)
       ·exact .inl rfl
       ·rcases(hset j m2).1 h5 with⟨rfl,rfl⟩|⟨h7,h8⟩
        ·rw[hget,RS rfl]at h6;cases h6;exact .inr (.inl rfl)
        ·rw[hget,RR h7]at h6;exact .inr (.inr ⟨j,m2,h7,h8,h6⟩),
      λj m2 h5=>by
       rcases(hset j m2).1 h5 with⟨rfl,rfl⟩|⟨h7,h8⟩
       ·exact⟨r,es',clock,by rw[hget,RS rfl],hrg,by rw[hother r hrg];exact b2,b3,b4,b5⟩
       ·obtain⟨r2,e2,c2,p1,p2,p3,p4⟩:=a6 j m2 h8
        exact⟨r2,e2,c2,by rw[hget,RR h7];exact p1,p2,by rw[hother r2 p2];exact p3,p4⟩,
      λj j' m2 m3 r' h5 h6 h7 h8=>by
       rcases(hset j m2).1 h5 with⟨rfl,rfl⟩|⟨p1,p2⟩
       ·rcases(hset j' m3).1 h6 with⟨rfl,rfl⟩|⟨q1,q2⟩
        ·rfl
        ·rw[hget,RS rfl]at h7;cases h7
         rw[hget,RR q1]at h8
         exact(hrj j' m3 q2 h8).elim
       ·rw[hget,RR p1]at h7
        rcases(hset j' m3).1 h6 with⟨rfl,rfl⟩|⟨q1,q2⟩
        ·rw[hget,RS rfl]at h8;cases h8;exact(hrj j m2 p2 h7).elim
        ·rw[hget,RR q1]at h8
         exact a7 j j' m2 m3 r' p2 q2 h7 h8,λj hj=>by cases hj⟩)
    (λb hb=>by
      rcases hb with rfl|rfl|⟨j,m2,h5,h6,h7⟩
      ·exact h2 _ ((a5 _).2 (.inl rfl))
      ·exact((hs.own n _ hn').block hfn).2
      ·exact h2 b ((a5 b).2 (.inr ⟨j,m2,h6,h7⟩)))
   have hmv:=hs.own_many (E':=E) (d:=m) (o':= .maps e (es.set i (some m0)) none) (w':=w.setRow g cur') [m,n] (row:=some g) (di w g cur')
    (λb hb=>by cases hb;exact⟨m,by simp,_,hm',(h3 g).2 ((a5 g).2 (.inl rfl))⟩) (λ_ _=>rfl) (.inl ⟨by simp,rfl⟩)
    (λb hb=>by
      rcases(k2 b).1 hb with rfl|rfl|⟨j,m2,h5,h6,h7⟩
      ·exact .inl ⟨m,by simp,_,hm',(h3 _).2 ((a5 _).2 (.inl rfl))⟩
      ·exact .inl ⟨n,by simp,_,hn',hfn⟩
      ·exact .inl ⟨m,by simp,_,hm',(h3 b).2 ((a5 b).2 (.inr ⟨j,m2,h6,h7⟩))⟩) k1
   have hp:=hmv.put o.dst hd (aP.junk undef)
   refine hK _ _ _ _ (hp.weaken (λt x hx=> .inl hx) λk o' hk=> ?_)
   simp only[ab.own?,ab.app,Ow,O0,OG,OM,af]at hk⊢
   by_cases q1:m=k
   ·rw[RS q1]at hk⊢;exact hk
   ·rw[RR q1]at hk⊢
    by_cases q2:n=k
    ·rw[RS q2]at hk;simp at hk
    ·rw[RR q2]at hk;rw[RR q1,RR q2];exact hk
end Go.Awp
end
section
namespace Go.Awp
variable [Inhabited GMem]
theorem Ent.vh2sv{S:ab}{t n e sz:Nat}{rows:List (List D)}(ht:gt S.tmps t=some (.vh n rows.length))(hn:S.own? n=some (.vec e sz rows)):
 Ent S {S with tmps:=(t, .sv n sz 0 rows.length)::S.tmps}:=λC E M a w hs=>by
 refine⟨E,M,{hs with tmps:=λt' x hx=> ?_}⟩
 simp only[af]at hx
 by_cases htt:t=t'
 ·subst htt
  rw[RS rfl]at hx
  simp only[Om]at hx;subst hx
  obtain⟨v,hv,hr⟩:=hs.tmps t _ ht
  refine⟨v,hv,?_⟩
  obtain⟨xs,h1,_⟩:=hs.own n _ hn
  rcases h1.2 with⟨hE,hz⟩|⟨g,cap,cur,hE,_⟩
  ·have:=d_ hr (ad:=none) (cap:=0) (by rw[hE,hz])
   rw[this,hE,hz]
   exact .sv0 n sz hE
  ·have:=d_ hr hE
   rw[this,hE]
   have hz0:(if(0:Nat)=cap then 0 else 0 *sz)=0:=by split<;>simp
   have:=aP.sv (M:=M) n sz 0 rows.length g rows.length cap hE (by omega)
   rw[hz0,Rf]at this
   exact this
 ·rw[RR htt]at hx
  exact hs.tmps t' x hx
theorem Ent.boxData{S:ab}{t b:Nat}{oty:Option TypeId}{ds:List D}(ht:gt S.tmps t=some (.bp b 0))(hb:S.own? b=some (.box oty (ds.map .d))):
 Ent S {tmps:=(t, .d (.rp ds))::S.tmps,own:=(b,none)::S.own}:=λC E M a w hs=>by
 obtain⟨g,cs,ty,k1,k2,k3,k4,k5,_⟩:=hs.own b _ hb
 rw[On]at k3
 let M':Mem:=λb k=>if b=g then cs[k]? else M b k
 have hM:M.le M':=λb k v hv=>by
  by_cases h:b=g
  ·subst h;rw[k5]at hv;cases hv
  ·simp[M',h,hv]
 have hcell:∀k,w.cell? ⟨g,k,none⟩=cs[k]?:=λk=>by simp[World.cell?,k2]
 have hft:(Own.box oty (ds.map .d)).foot w (E b) g:=by rw[k1];exact rfl
 have hown:∀m o,ab.own? {tmps:=(t, .d (.rp ds))::S.tmps,own:=(b,none)::S.own} m=some o->m≠b/\S.own? m=some o:=λm o ho=>by
  simp only[ab.own?,af]at ho
  by_cases h:b=m
  ·rw[RS h]at ho;cases ho
  ·rw[RR h]at ho;exact⟨λe=>h e.symm,ho⟩
 have hnone:∀m o,m≠b->S.own? m=some o->∀b',o.foot w (E m) b'->∀k,M' b' k=none:=by
  intro m o hm ho b' hb' k
  have h0:=((hs.own m o ho).block hb').2 k
  have:b'≠g:=λe=>by
   subst e
   exact hs.apart m b o _ b' hm ho hb hb' hft
  simp only[M',RR this,h0]
 refine⟨E,M',{size:=hs.size,defers:=hs.defers,fixed:=hs.fixed,tmps:= ?_,mem:= ?_,own:= ?_,apart:= ?_,home:= ?_,m0:=Mem.le_trans hs.m0 hM,mnew:= ?_,frame:=hs.frame,grows:=hs.grows,os:=hs.os,tape:=hs.tape,output:=hs.output,env:=hs.env}⟩
 ·intro t' x hx
  simp only[af]at hx
  by_cases htt:t=t'
  ·subst htt
   rw[RS rfl]at hx
   simp only[Om]at hx;subst hx
   obtain⟨v,hv,hr⟩:=hs.tmps t _ ht
   refine⟨v,hv, .d ?_⟩
   cases hr with
   |bp _ _ b0 h=>
    rw[k1]at h
    simp only[Value.pointer.injEq,Om,Addr.mk.injEq]at h
    obtain⟨rfl,_,_⟩:=h
    refine .rp g 0 ds (λk=>cs.getD k undef) (λk hk=> ?_) λj y hy=> ?_
    ·have:k<cs.size:=by omega
     simp only[M',RO,OS]
     rw[OU this]
     simp[this]
    ·have hj:j<cs.size:=by have:=(Ol.1 hy).1;omega
     have:=k4 j cs[j] (.d y) (OU hj) (by rw[Oq,hy];rfl)
     have hg:cs.getD j undef=cs[j]:=by simp[hj]
     rw[hg]
     exact this.toD.mono hM
  ·rw[RR htt]at hx
   obtain⟨v,hv,hr⟩:=hs.tmps t' x hx
   exact⟨v,hv,hr.mono hM λ_ _=>rfl⟩
 ·intro b' k v hv
  simp only[M']at hv
  split at hv
  ·rename_i h;subst h;rw[hcell];exact hv
  ·exact hs.mem b' k v hv
 ·intro m o ho
  obtain⟨hm,ho0⟩:=hown m o ho
  exact(hs.own m o ho0).keep rfl (λ_ _=>rfl) (λ_ _=>rfl) hM (hnone m _ hm ho0)
 ·intro m m' o o' b' hne ho ho' h1 h2
  exact hs.apart m m' o o' b' hne (hown m o ho).2 (hown m' o' ho').2 h1 h2
 ·intro m o b' ho h1
  exact hs.home m o b' (hown m o ho).2 h1
 ·intro b' k v hv
  simp only[M']at hv
  split at hv
  ·rename_i h;subst h;exact .inr (hs.home b _ _ hb hft)
  ·exact hs.mnew b' k v hv
end Go.Awp
end
section
namespace Go.Awp
variable [Inhabited GMem] {P:Program} {nm:Nat->Nat} {o:Oper} {ρ:Operand->H} {ω:Nat->Option Own}
theorem aC.buildSt{t:TypeId}{parts:Array (Nat×Operand)}{z:List Value}{pl:List (Nat×Nat)}{cs:List H}(ho:o.op= .build t parts)(hz:gn P t=some z)(hpl:places P t=some pl)
 (hcs:mN pl (z.map λx=> .d (.v x)) (parts.toList.map λ(i,x)=>(i,fnD (ρ x)))=some cs):aC P nm o ρ ω {val:=bA cs}:=by
 refine aC.pure λE M ev w hr hm=> ?_
 simp only[ho,Op.operands]at hr
 unfold gn at hz
 split at hz
 ·rename_i it hit
  split at hz
  ·rename_i zv hzv
   simp only[Om]at hz;subst hz
   unfold places at hpl
   split at hpl
   ·rename_i fs hfs
    obtain⟨cells',e1,e2,e3⟩:=mY (E:=E) (M:=M) pl _ (parts.toList.map λ(i,x)=>(i,ev x)) zv.cells _ cs hcs (by simp)
     (λi p q hp hq=>by
       simp only[Oq]at hp hq
       cases hx:parts.toList[i]? with
       |none=>rw[hx]at hp;cases hp
       |some y=>
        rw[hx]at hp hq;simp at hp hq;subst hp;subst hq
        exact⟨rfl,vI (hr y.2 (by simpa using ⟨y.1,by simpa using OA hx⟩))⟩) (by simp)
     (λi c x hc hx=>by
       simp only[Oq]at hx
       have hc':zv.cells.toList[i]?=some c:=by simpa using hc
       rw[hc']at hx;simp at hx;subst hx
       exact .d (.v c))
    refine⟨.agg cells',?_,aP.mk_agg e2 e3⟩
    have hb:P.built t (parts.map λ(i,x)=>(i,ev x)).toList=some cells':=by
     simp only[Program.built,hit,hfs,hzv,hpl]
     simpa using e1
    have:=run_build (P:=P) w t (parts.map λ(i,x)=>(i,ev x)) cells' hb
    simp[execOp,ho,this]
   ·cases hpl
  ·cases hz
 ·cases hz
theorem Ah{E:Env}{M:Mem}{v:Value}{l:List H}(h:aP E M v (bA l)):aP E M v (.agg l):=by
 unfold bA at h
 split at h
 ·rename_i ds hds
  obtain⟨cs,rfl,h1,h2⟩:=h.dagg
  obtain⟨g1,g2⟩:=eT hds
  refine .agg cs l (by omega) λi c x hc hx=> ?_
  rw[g2]at hx
  cases hd:ds[i]? with
  |none=>rw[hd]at hx;cases hx
  |some d=>rw[hd]at hx;simp at hx;subst hx;exact .d (h2 i c d hc hd)
 ·exact h
theorem ab.app_fresh{S:ab}{d:Nat}{v:H}{nn:Nat}(hf:S.fresh nn=true)(hv:H.has nn v=false):({tmps:=(d,v)::S.tmps,own:=S.own}:ab).fresh nn=true:=by
 unfold ab.fresh at hf⊢
 simp only[Oy,PC,Qy]at hf⊢
 exact⟨⟨hf.1.1,hv,hf.1.2⟩,hf.2⟩
theorem aC.nilTop{l:List H}{i nn e sz d:Nat}(hdst:o.dst=some d)(hi:l[i]?=some (.d (.v (.slice none 0 0))))(hl:H.hasL nn l=false)(h:aC P nm o ρ ω {val:=bA l}):
 aC P nm o ρ ω {val:=bA (l.set i (.vh nn 0)),upd:=[(nn,some (.vec e sz []))],new:=[nn]}:=by
 intro C E M S a w K Q hP hd hs he hacc hn hK
 refine h C E M S a w K Q hP hd hs he (λk hk=>by cases hk) (λk hk=>by cases hk) λE' M' a' w' hs'=> ?_
 obtain⟨hf,hg⟩:=hn nn (by simp)
 have hSe:S.app o.dst {val:=bA l}={tmps:=(d,bA l)::S.tmps,own:=S.own}:=by
  simp only[ab.app,hdst,mR];rfl
 rw[hSe]at hs'
 have hhas:H.has nn (bA l)=false:=by
  unfold bA
  split
  ·simp[H.has]
  ·simp[H.has,hl]
 have hf2:=ab.app_fresh (d:=d) hf hhas
 have h1:=hs'.own_new (E':=λm=>if m=nn then .slice none 0 0 else E' m) (d:=nn) (o':= .vec e sz []) (w':=w') (cM w' _) (λm hm=>by simp[hm]) hf2 hg
  (λb hb=>by simp[Own.foot,ak]at hb) ⟨[],by simpa using World.ownsRow_nil w' 0 e sz,by simp,by simp,λb hb=>by simp[ak]at hb⟩
 refine hK (λm=>if m=nn then .slice none 0 0 else E' m) M' a' w' ?_
 have hSe2:S.app o.dst {val:=bA (l.set i (.vh nn 0)),upd:=[(nn,some (.vec e sz []))],new:=[nn]}={tmps:=(d,bA (l.set i (.vh nn 0)))::S.tmps,own:=(nn,some (.vec e sz []))::S.own}:=by
  simp only[ab.app,hdst,mR];rfl
 rw[hSe2]
 refine{h1 with tmps:=λt x hx=> ?_}
 rw[af]at hx
 by_cases htt:d=t
 ·subst htt
  rw[RS rfl]at hx
  simp only[Om]at hx;subst hx
  obtain⟨v,hv,hr⟩:=hs'.tmps d _ (by rw[af,RS rfl])
  refine⟨v,hv,?_⟩
  have hr:=Ah hr
  cases hr with
  |agg cs _ hcl hcr=>
   refine aP.mk_agg (by rw[Pi];exact hcl) λj c x hc hx=> ?_
   rw[Pa]at hx
   by_cases hij:i=j
   ·subst hij
    rw[RS rfl,RS (Ol.1 hi).1]at hx
    simp only[Om]at hx;subst hx
    have:=hcr i c _ hc hi
    rw[this.dv]
    exact .vh nn 0 0 0 none (by simp) (OO _)
   ·rw[RR hij]at hx
    refine(hcr j c x hc hx).mono (Mem.le_refl _) λk hk=> ?_
    have:k≠nn:=λe0=>by
     rw[e0]at hk
     have:=H.hasL_get hl hx
     rw[hk]at this;cases this
    rw[RR this]
 ·rw[RR htt]at hx
  exact h1.tmps t x (by rw[af,RR htt];exact hx)
end Go.Awp
end
section
namespace Go.Mp
def get{κ β:Type}(eq:κ->κ->Bool)(x:κ):List (κ×β)->Option β
 |[]=>none
 |p::r=>if eq x p.1=true then some p.2 else get eq x r
def put{κ β:Type}(eq:κ->κ->Bool)(x:κ)(y:β):List (κ×β)->List (κ×β)
 |[]=>[(x,y)]
 |p::r=>if eq x p.1=true then(x,y)::r else p::put eq x y r
def ins{κ β:Type}(lt:κ->κ->Bool)(x:κ)(y:β):List (κ×β)->List (κ×β)
 |[]=>[(x,y)]
 |p::r=>if lt x p.1=true then(x,y)::p::r else p::ins lt x y r
def set{κ β:Type}(eq lt:κ->κ->Bool)(x:κ)(y:β)(l:List (κ×β)):List (κ×β):=if l.any (λp=>eq x p.1)=true then put eq x y l else ins lt x y l
theorem CJ{κ β:Type}{eq:κ->κ->Bool}{x:κ}{y:β}:∀{l:List (κ×β)},l.any (λp=>eq x p.1)=false->put eq x y l=l++[(x,y)]
 |[],_=>rfl
 |p::r,h=>by
  rw[List.any_cons,PM]at h
  rw[put,h.1,RR (by decide),CJ h.2];rfl
theorem xo{κ β:Type}{lt:κ->κ->Bool}{x:κ}{y:β}:∀l:List (κ×β),(ins lt x y l).Perm ((x,y)::l)
 |[]=> .refl _
 |p::r=>by
  rw[ins]
  split
  ·exact .refl _
  ·exact((xo r).cons p).trans (.swap _ _ _)
theorem set_perm{κ β:Type}(eq lt:κ->κ->Bool)(x:κ)(y:β)(l:List (κ×β)):(set eq lt x y l).Perm (put eq x y l):=by
 unfold set
 split
 ·exact .refl _
 ·rename_i h
  rw[CJ (by simpa using h)]
  exact(xo l).trans (List.perm_append_singleton _ _).symm
def ieq(a b:Int):Bool:=a==b
def beq(a b:Bool):Bool:=a==b
def seq(a b:ByteArray):Bool:=a==b
def ilt(a b:Int):Bool:=decide (a<b)
def blt(a b:Bool):Bool:= !a&&b
def lex:List UInt8->List UInt8->Bool
 |[],[]=>false
 |[],_::_=>true
 |_::_,[]=>false
 |a::r,b::s=>if a.toNat<b.toNat then true else if b.toNat<a.toNat then false else lex r s
def slt(a b:ByteArray):Bool:=lex a.data.toList b.data.toList
end Go.Mp
namespace Go.Tx
open Go.Awp
variable [Inhabited GMem]
inductive Ty (ι:Type)where
 |int (k:IntKind)
 |bool
 |str
 |st (i:ι)
 |sl (e:Ty ι)
 |mp (k v:Ty ι)
 |er
 /-- a pointer to what nobody writes, or nil -/
 |op (e:Ty ι)
 /-- a function that captures nothing -/
 |fnc
 /-- the same, or nil -/
 |fno
 /-- an array -/
 |ar (n:Nat) (e:Ty ι)
 deriving DecidableEq
@[reducible] def den {ι:Type} (N:ι->Type):Ty ι->Type
 | .int _=>Int
 | .bool=>Bool
 | .str=>ByteArray
 | .st i=>N i
 | .sl e=>List (den N e)
 | .mp k v=>List (den N k×den N v)
 | .er=>Bool
 | .op e=>Option (den N e)
 | .fnc=>Nat
 | .fno=>Option Nat
 | .ar _ e=>List (den N e)
def arL{α:Type}(m:Nat)(pad:α)(l:List α):List α:=(l++Pc m pad).take m
theorem GT{α:Type}(m:Nat)(pad:α)(l:List α):(arL m pad l).length=m:=by
 unfold arL
 simp
theorem ve{α β:Type}(f:α->β)(m:Nat)(pad:α)(l:List α):(arL m pad l).map f=arL m (f pad) (l.map f):=by
 unfold arL
 simp
structure cj {ι:Type} (N:ι->Type)where
 t:Ty ι
 x:den N t
section
variable {ι:Type} {N:ι->Type} (sz:ι->Nat) (enc:(i:ι)->N i->List D)
def tsz:Ty ι->Nat
 | .st i=>sz i
 | .ar n e=>n *tsz e
 |_=>1
def opD:Option (List D)->D
 |none=> .v (.pointer none)
 |some c=> .rp c
theorem Iv(x:Option (List D)):(opD x).one=true:=by cases x<;>rfl
def JH:Option Nat->D
 |none=> .v .nilFunc
 |some f=> .v (.func (.func f) #[] #[])
theorem Ed(x:Option Nat):(JH x).one=true:=by cases x<;>rfl
def aV:(t:Ty ι)->den N t->List D
 | .int k,n=>[.v (.int k n)]
 | .bool,b=>[.v (.bool b)]
 | .str,s=>[.v (.string s)]
 | .st i,x=>enc i x
 | .sl e,xs=>[.sl (tsz sz e) (xs.map λx=>aV e x)]
 | .mp _ _,_=>[.v (.map none)]
 | .er,b=>[.er b]
 | .op e,x=>[opD (x.map λy=>aV e y)]
 | .fnc,f=>[.v (.func (.func f) #[] #[])]
 | .fno,f=>[JH f]
 | .ar n e,xs=>arL (n *tsz sz e) (.v (.bool false)) (xs.map λx=>aV e x).flatten
def aL:(t:Ty ι)->den N t->D
 | .int k,n=> .v (.int k n)
 | .bool,b=> .v (.bool b)
 | .str,s=> .v (.string s)
 | .st i,x=> .agg (enc i x)
 | .sl e,xs=> .sl (tsz sz e) (xs.map λx=>aV sz enc e x)
 | .mp _ _,_=> .v (.map none)
 | .er,b=> .er b
 | .op e,x=>opD (x.map λy=>aV sz enc e y)
 | .fnc,f=> .v (.func (.func f) #[] #[])
 | .fno,f=>JH f
 | .ar n e,xs=> .agg (aV sz enc (.ar n e) xs)
end
section
variable {ι:Type} {N:ι->Type} (sz:ι->Nat) (enc:(i:ι)->N i->List D) (tid:Ty ι->Nat) (encd:(i:ι)->N i->List DD)
def bT:(t:Ty ι)->den N t->List DD
 | .st i,x=>encd i x
 | .sl e,xs=>[.sl (tid e) (tsz sz e) (xs.map λx=>bT e x)]
 | .ar n e,xs=>arL (n *tsz sz e) (.d (.v (.bool false))) (xs.map λx=>bT e x).flatten
 |t,x=>(aV sz enc t x).map .d
def fi:(t:Ty ι)->den N t->DD
 | .sl e,xs=> .sl (tid e) (tsz sz e) (xs.map λx=>bT sz enc tid encd e x)
 |t,x=> .d (aL sz enc t x)
end
def Ty.isSl{ι:Type}:Ty ι->Bool
 | .sl _=>true
 |_=>false
def Nt:D->Value
 | .v x=>x
 |_=> .nilIface
def dQ{ι:Type}{N:ι->Type}(enc:(i:ι)->N i->List D):(t:Ty ι)->den N t->Value
 | .int k,n=> .int k n
 | .bool,b=> .bool b
 | .str,s=> .string s
 | .st i,x=> .agg ((enc i x).map Nt).toArray
 |_,_=> .map none
def Ty.cell{ι:Type}:Ty ι->Bool
 | .st _=>false
 | .ar _ _=>false
 |_=>true
structure jj where
 ι:Type
 dec:DecidableEq ι
 N:ι->Type
 sz:ι->Nat
 tys:ι->List (Ty ι)
 cells:(i:ι)->N i->List (cj N)
 ofCells:(i:ι)->List (cj N)->Option (N i)
 enc:(i:ι)->N i->List D
 ty:TypeId->Option (Ty ι)
 enc_cells:∀i x,enc i x=(cells i x).map λl=>aL sz enc l.t l.x
 of_cells:∀i ls x,ofCells i ls=some x->cells i x=ls
 len_cells:∀i x,(cells i x).length=sz i
 one_cells:∀i x,∀l∈cells i x,l.t.cell=true
 tys_cells:∀i x,(cells i x).map (λl=>l.t)=tys i
 tid:Ty ι->Nat
 encd:(i:ι)->N i->List DD
 encd_cells:∀i x,encd i x=(cells i x).map λl=>fi sz enc tid encd l.t l.x
 encd_toL:∀i x,DD.toL (encd i x)=some (enc i x)
 flat:ι->Bool
 flat_cells:∀i x,flat i=true->∀l∈cells i x,l.t.isSl=false
instance (V:jj):DecidableEq V.ι:=V.dec
inductive TV {ι:Type} (N:ι->Type)where
 |lf (t:Ty ι) (x:den N t)
 |raw (v:Value)
 |bp (n off:Nat)
 |vh (n:Nat)
 |ep (n sz i off:Nat)
 |sv (n sz i off:Nat)
 |mp (n:Nat)
 |np (n:Nat) (b:Bool)
 |sd (n:Nat)
 |rp (t:Ty ι) (x:den N t) (off:Nat)
 /-- a place in an array that lies in a box -/
 |ai (n sz i off:Nat)
 |agg (cs:List (TV N))
 |tup (vs:List (TV N))
 |fn (f:Nat) (a b:List (TV N))
 |junk
inductive TO {ι:Type} (N:ι->Type)where
 |box (o:Option TypeId) (cells:List (TV N))
 /-- a box that holds a struct whole -/
 |bst (i:ι) (x:N i)
 |vec (te:TypeId) (e:Ty ι) (xs:List (den N e))
 /-- a slice whose elements own what they hold -/
 |dvec (te:TypeId) (e:Ty ι) (xs:List (den N e))
 /-- the same, some elements are out -/
 |pvec (te:TypeId) (e:Ty ι) (xs:List (Option (den N e)))
 |map (k v:Ty ι) (es:List (den N k×den N v))
 |iter (s:ByteArray) (p:Int)
 /-- a map through which a loop goes: its name, what it holds, what is left, what came last -/
 |miter (m:Nat) (k v:Ty ι) (es rest:List (den N k×den N v)) (cur:Option (den N k×den N v))
 /-- a slice that lies somewhere in its block -/
 |que (te:TypeId) (e:Ty ι) (xs:List (den N e))
 /-- a slice of maps; one of them may have a name -/
 |maps (te:TypeId) (k v:Ty ι) (es:List (Option (List (den N k×den N v)))) (al:Option (Nat×Nat))
 /-- a box that holds an array whole -/
 |bar (n:Nat) (e:Ty ι) (xs:List (den N e))
 /-- the name of a map that lies in a slice -/
 |alias (m:Nat)
 /-- no longer owned: how long it was -/
 |gone (len:Nat)
structure TS {ι:Type} (N:ι->Type)where
 tmps:List (Nat×TV N)
 own:List (Nat×TO N)
section
variable {ι:Type} {N:ι->Type}
def TS.own?(S:TS N)(n:Nat):Option (TO N):=gt S.own n
def TS.get(S:TS N)(t:Nat):TV N:=(gt S.tmps t).getD .junk
def TO.len:Option (TO N)->Nat
 |some (.vec _ _ xs)=>xs.length
 |some (.dvec _ _ xs)=>xs.length
 |some (.pvec _ _ xs)=>xs.length
 |some (.que _ _ xs)=>xs.length
 |some (.maps _ _ _ es _)=>es.length
 |some (.gone l)=>l
 |_=>0
def TS.len(S:TS N)(n:Nat):Nat:=TO.len (S.own? n)
mutual
def TV.has(n:Nat):TV N->Bool
 | .bp m _=>Ph m n
 | .vh m=>Ph m n
 | .ep m _ _ _=>Ph m n
 | .sv m _ _ _=>Ph m n
 | .mp m=>Ph m n
 | .np m _=>Ph m n
 | .sd m=>Ph m n
 | .ai m _ _ _=>Ph m n
 | .agg cs=>TV.hasL n cs
 | .tup vs=>TV.hasL n vs
 | .fn _ a b=>TV.hasL n a||TV.hasL n b
 |_=>false
def TV.hasL(n:Nat):List (TV N)->Bool
 |[]=>false
 |x::r=>TV.has n x||TV.hasL n r
end
def TO.has(n:Nat):TO N->Bool
 | .box _ cells=>TV.hasL n cells
 | .miter m _ _ _ _ _=>Ph m n
 | .maps _ _ _ _ (some p)=>Ph p.1 n
 |_=>false
def TS.fresh(S:TS N)(n:Nat):Bool:=
 (S.own? n).isNone&&S.tmps.all (λx=> !TV.has n x.2)&&S.own.all (λx=> !TO.has n x.2)
end
section
variable (V:jj)
def bx:Value->H
 | .agg cs=> .d (.agg (cs.toList.map .v))
 |v=> .d (.v v)
mutual
def ao(ω:Nat->Nat):TV V.N->H
 | .lf t x=> .d (aL V.sz V.enc t x)
 | .raw v=>bx v
 | .bp n off=> .bp n off
 | .vh n=> .vh n (ω n)
 | .ep n s i off=> .ep n s i off
 | .sv n s i off=> .sv n s i off
 | .mp n=> .mp n
 | .np n b=> .np n b
 | .sd n=> .sd n
 | .rp t x off=> .d (.rp ((aV V.sz V.enc t x).drop off))
 | .ai n s i off=> .bp n (i *s+off)
 | .agg cs=>bA (encL ω cs)
 | .tup vs=> .tup (encL ω vs)
 | .fn f a b=> .fn f (encL ω a) (encL ω b)
 | .junk=> .junk
def encL(ω:Nat->Nat):List (TV V.N)->List H
 |[]=>[]
 |x::r=>ao ω x::encL ω r
end
def p6(e:Ty V.ι):Option (den V.N e)->List DD
 |some x=>bT V.sz V.enc V.tid V.encd e x
 |none=>Pc (tsz V.sz e) .junk
def aZ(ω:Nat->Nat):TO V.N->Option Own
 | .box o cells=>some (.box o (encL V ω cells))
 | .bst i x=>some (.box none ((V.enc i x).map .d))
 | .vec te e xs=>some (.vec te (tsz V.sz e) (xs.map λx=>aV V.sz V.enc e x))
 | .dvec te e xs=>some (.dvec te (tsz V.sz e) (xs.map λx=>bT V.sz V.enc V.tid V.encd e x))
 | .pvec te e xs=>some (.dvec te (tsz V.sz e) (xs.map λx=>p6 V e x))
 | .map k v es=>some (.map (es.map λp=>(dQ V.enc k p.1,aL V.sz V.enc v p.2)))
 | .iter s p=>some (.iter s p.toNat)
 | .miter m k v es rest cur=>some (.miter m (es.map λp=>(dQ V.enc k p.1,aL V.sz V.enc v p.2)) (rest.map λp=>(dQ V.enc k p.1,aL V.sz V.enc v p.2)) (cur.map λp=>(dQ V.enc k p.1,aL V.sz V.enc v p.2)))
 | .que te e xs=>some (.que te (tsz V.sz e) (xs.map λx=>aV V.sz V.enc e x))
 | .maps te k v es al=>some (.maps te (es.map λo=>o.map λl=>l.map λp=>(dQ V.enc k p.1,aL V.sz V.enc v p.2)) al)
 | .bar n e xs=>some (.box none ((aV V.sz V.enc (.ar n e) xs).map .d))
 | .alias _=>none
 | .gone _=>none
def az(S:TS V.N):ab:=
 {tmps:=S.tmps.map λp=>(p.1,ao V S.len p.2),own:=S.own.map λp=>(p.1,aZ V S.len p.2)}
variable {V}
theorem encL_map(ω:Nat->Nat)(l:List (TV V.N)):encL V ω l=l.map (ao V ω):=by
 induction l with
 |nil=>rfl
 |cons x r ih=>simp[encL,ih]
theorem wZ{n:Nat}:∀{l:List H} {ds:List D},fL l=some ds->H.hasL n l=false
 |[],_,_=>by simp[H.hasL]
 | .d x::r,ds,h=>by
  simp only[fL]at h
  split at h
  ·rename_i l hl
   simp[H.hasL,H.has,wZ hl]
  ·cases h
 | .junk::r,ds,h=>by simp[fL]at h
 | .bp .. ::r,ds,h=>by simp[fL]at h
 | .vh .. ::r,ds,h=>by simp[fL]at h
 | .ep .. ::r,ds,h=>by simp[fL]at h
 | .sv .. ::r,ds,h=>by simp[fL]at h
 | .mp .. ::r,ds,h=>by simp[fL]at h
 | .np .. ::r,ds,h=>by simp[fL]at h
 | .sd .. ::r,ds,h=>by simp[fL]at h
 | .agg .. ::r,ds,h=>by simp[fL]at h
 | .tup .. ::r,ds,h=>by simp[fL]at h
 | .fn .. ::r,ds,h=>by simp[fL]at h
theorem BR(n:Nat)(l:List H):H.has n (bA l)=H.hasL n l:=by
 unfold bA
 split
 ·rename_i ds h;rw[wZ h];simp[H.has]
 ·simp[H.has]
theorem yH(n:Nat)(v:Value):H.has n (bx v)=false:=by
 cases v<;>simp[bx,H.has]
mutual
theorem iR(ω:Nat->Nat)(n:Nat):∀v:TV V.N,H.has n (ao V ω v)=TV.has n v
 | .lf t x=>by simp[ao,H.has,TV.has]
 | .raw v=>by simp[ao,TV.has,yH]
 | .bp m off=>by simp[ao,H.has,TV.has]
 | .vh m=>by simp[ao,H.has,TV.has]
 | .ep m s i off=>by simp[ao,H.has,TV.has]
 | .sv m s i off=>by simp[ao,H.has,TV.has]
 | .mp m=>by simp[ao,H.has,TV.has]
 | .np m b=>by simp[ao,H.has,TV.has]
 | .sd m=>by simp[ao,H.has,TV.has]
 | .rp t x off=>by simp[ao,H.has,TV.has]
 | .ai m s i off=>by simp[ao,H.has,TV.has]
 | .agg cs=>by simp only[ao,BR,TV.has];exact encL_has ω n cs
 | .tup vs=>by simp only[ao,H.has,TV.has];exact encL_has ω n vs
 | .fn f a b=>by simp only[ao,H.has,TV.has];rw[encL_has ω n a,encL_has ω n b]
 | .junk=>by simp[ao,H.has,TV.has]
theorem encL_has(ω:Nat->Nat)(n:Nat):∀l:List (TV V.N),H.hasL n (encL V ω l)=TV.hasL n l
 |[]=>by simp[encL,H.hasL,TV.hasL]
 |x::r=>by simp only[encL,H.hasL,TV.hasL];rw[iR ω n x,encL_has ω n r]
end
theorem kD(ω:Nat->Nat)(n:Nat){o:TO V.N}{o':Own}(h:aZ V ω o=some o'):Own.has n o'=TO.has n o:=by
 cases o with
 |box oty cells=>simp only[aZ,Om]at h;subst h;simp only[Own.has,TO.has];exact encL_has ω n cells
 |bst i x=>
  simp only[aZ,Om]at h;subst h;simp only[Own.has,TO.has]
  generalize V.enc i x=l
  induction l with
  |nil=>simp[H.hasL]
  |cons y r ih=>simpa[H.hasL,H.has]using ih
 |vec te e xs=>simp only[aZ,Om]at h;subst h;simp[Own.has,TO.has]
 |dvec te e xs=>simp only[aZ,Om]at h;subst h;simp[Own.has,TO.has]
 |pvec te e xs=>simp only[aZ,Om]at h;subst h;simp[Own.has,TO.has]
 |map k v es=>simp only[aZ,Om]at h;subst h;simp[Own.has,TO.has]
 |iter s p=>simp only[aZ,Om]at h;subst h;simp[Own.has,TO.has]
 |miter m k v es rest cur=>simp only[aZ,Om]at h;subst h;simp[Own.has,TO.has]
 |que te e xs=>simp only[aZ,Om]at h;subst h;simp[Own.que,Own.has,TO.has]
 |maps te k v es al=>
  simp only[aZ,Om]at h;subst h
  cases al with
  |none=>simp[Own.maps,Own.has,TO.has]
  |some p=>simp[Own.maps,Own.has,TO.has]
 |bar m e xs=>
  simp only[aZ,Om]at h;subst h;simp only[Own.has,TO.has]
  generalize aV V.sz V.enc (.ar m e) xs=l
  induction l with
  |nil=>simp[H.hasL]
  |cons y r ih=>simpa[H.hasL,H.has]using ih
 |alias m=>simp[aZ]at h
 |gone l=>simp[aZ]at h
theorem aH(S:TS V.N)(n:Nat):(az V S).own? n=(S.own? n).bind (aZ V S.len):=by
 unfold ab.own? TS.own? az
 simp only[fU]
 cases gt S.own n with
 |none=>rfl
 |some x=>rfl
theorem Ea(S:TS V.N)(t:Nat):(az V S).get t=ao V S.len (S.get t):=by
 unfold ab.get TS.get az
 simp only[fU]
 cases gt S.tmps t with
 |none=>simp[ao]
 |some x=>rfl
theorem bR(S:TS V.N)(t:Nat):gt (az V S).tmps t=(gt S.tmps t).map (ao V S.len):=by
 unfold az
 simp only[fU]
theorem ed{S:TS V.N}{n:Nat}(h:S.fresh n=true):(az V S).fresh n=true:=by
 unfold TS.fresh at h
 unfold ab.fresh
 rw[aH]
 simp only[Oy]at h⊢
 obtain⟨⟨h1,h2⟩,h3⟩:=h
 refine⟨⟨?_,?_⟩,?_⟩
 ·cases hq:S.own? n with
  |none=>rfl
  |some o=>rw[hq]at h1;cases h1
 ·unfold az
  simp only[PL]
  rw[OD]at h2⊢
  intro x hx
  have:=h2 x hx
  simpa[iR]using this
 ·unfold az
  simp only[PL]
  rw[OD]at h3⊢
  intro x hx
  have:=h3 x hx
  simp only[Q8]
  cases hq:aZ V S.len x.2 with
  |none=>rfl
  |some o=>simp only[kD S.len n hq];exact this
mutual
theorem iQ{ω ω':Nat->Nat}:∀v:TV V.N,(∀n,TV.has n v=true->ω' n=ω n)->ao V ω' v=ao V ω v
 | .lf t x,_=>by simp[ao]
 | .raw v,_=>by simp[ao]
 | .bp m off,_=>by simp[ao]
 | .vh m,h=>by simp[ao,h m (by simp[TV.has])]
 | .ep m s i off,_=>by simp[ao]
 | .sv m s i off,_=>by simp[ao]
 | .mp m,_=>by simp[ao]
 | .np m b,_=>by simp[ao]
 | .sd m,_=>by simp[ao]
 | .rp t x off,_=>by simp[ao]
 | .ai m s i off,_=>by simp[ao]
 | .agg cs,h=>by simp only[ao];rw[encL_congr cs λn hn=>h n (by simpa[TV.has]using hn)]
 | .tup vs,h=>by simp only[ao];rw[encL_congr vs λn hn=>h n (by simpa[TV.has]using hn)]
 | .fn f a b,h=>by simp only[ao];rw[encL_congr a λn hn=>h n (by simp[TV.has,hn]),encL_congr b λn hn=>h n (by simp[TV.has,hn])]
 | .junk,_=>by simp[ao]
theorem encL_congr{ω ω':Nat->Nat}:∀l:List (TV V.N),(∀n,TV.hasL n l=true->ω' n=ω n)->encL V ω' l=encL V ω l
 |[],_=>rfl
 |x::r,h=>by
  simp only[encL]
  rw[iQ x λn hn=>h n (by simp[TV.hasL,hn]),encL_congr r λn hn=>h n (by simp[TV.hasL,hn])]
end
theorem qm{ω ω':Nat->Nat}(o:TO V.N)(h:∀n,TO.has n o=true->ω' n=ω n):aZ V ω' o=aZ V ω o:=by
 cases o with
 |box oty cells=>simp only[aZ];rw[encL_congr cells h]
 |bst i x=>rfl
 |vec te e xs=>rfl
 |dvec te e xs=>rfl
 |pvec te e xs=>rfl
 |map k v es=>rfl
 |iter s p=>rfl
 |miter m k v es rest cur=>rfl
 |que te e xs=>rfl
 |maps te k v es al=>rfl
 |bar m e xs=>rfl
 |alias m=>rfl
 |gone l=>rfl
end
end Go.Tx
end
section
namespace Go.Tx
open Go.Awp
variable [Inhabited GMem]
structure TE {ι:Type} (N:ι->Type)where
 val:TV N
 acc:List Nat:=[]
 upd:List (Nat×TO N):=[]
 new:List Nat:=[]
section
variable {ι:Type} {N:ι->Type}
def tvc:Value->TV N
 | .int k n=> .lf (.int k) n
 | .bool b=> .lf .bool b
 | .string s=> .lf .str s
 |v=> .raw v
def Bz:Operand->Bool
 | .const .nilIface=>true
 |_=>false
def tev(S:TS N):Operand->TV N
 | .tmp t=>S.get t
 | .const v=>tvc v
 | .global g=> .raw (.pointer (some ⟨g,0,none⟩))
 | .func f=> .fn f [] []
def fnT:TV N->TV N
 | .fn f [] []=> .lf .fnc f
 |v=>v
def TV.one:TV N->Bool
 | .lf t _=>t.cell
 | .raw v=>ct v&&v.oneCell'
 | .bp .. =>true
 | .vh .. =>true
 | .ep .. =>true
 | .sv .. =>true
 | .mp .. =>true
 | .np .. =>true
 | .sd .. =>true
 | .rp .. =>true
 | .fn .. =>true
 |_=>false
def Lb(dst:Option Tmp)(x:TV N)(l:List (Nat×TV N)):List (Nat×TV N):=match dst with|some d=>(d,x)::l|none=>l
def TS.app(S:TS N)(dst:Option Tmp)(e:TE N):TS N:={tmps:=Lb dst e.val S.tmps,own:=e.upd++S.own}
end
section
variable (V:jj)
def L0(t:Ty V.ι):cj V.N->cj V.N
 |⟨.fnc,f⟩=>match t with
  | .fno=>⟨.fno,some f⟩
  |_=>⟨.fnc,f⟩
 |l=>l
def mu(ex:Bool)(t:Ty V.ι):TV V.N->Option (cj V.N)
 | .lf t' x=>some (L0 V t ⟨t',x⟩)
 | .raw v=>match v,t with
  | .pointer none, .op e=>some ⟨.op e,none⟩
  | .nilFunc, .fno=>some ⟨.fno,none⟩
  | .slice none 0 0, .sl e=>match ex with
   |true=>none
   |false=>some ⟨.sl e,[]⟩
  | .nilIface, .er=>match ex with
   |true=>none
   |false=>some ⟨.er,false⟩
  |_,_=>none
 |_=>none
def cx(ex:Bool):List (Ty V.ι)->List (TV V.N)->Option (List (cj V.N))
 |[],[]=>some []
 |t::ts,x::xs=>match mu V ex t x,cx ex ts xs with
  |some l,some ls=>some (l::ls)
  |_,_=>none
 |_,_=>none
def DW:Option (TO V.N)->Option (List (TV V.N))
 |some (.box _ cells)=>some cells
 |some (.bst i x)=>some ((V.cells i x).map λl=> .lf l.t l.x)
 |_=>none
def xZ(ag:Bool)(off sz:Nat)(ot:Option (Ty V.ι)):Option (TO V.N)->Option (TV V.N)
 |some (.bst i x)=>if ag=true/\off=0/\sz=V.sz i/\ot=some (.st i)then some (.lf (.st i) x)else none
 |some (.bar n e xs)=>if ag=true/\off=0/\sz=tsz V.sz (.ar n e)/\ot=some (.ar n e)then some (.lf (.ar n e) xs)else none
 |_=>none
def Ap(v:TV V.N)(cs:List (TV V.N)):TO V.N:=match v with
 | .lf (.st i) x=> .bst i x
 |_=> .box none cs
def Lo:Option (TO V.N)->Option TypeId
 |some (.box o _)=>o
 |_=>none
def EW(o:Option TypeId)(v:TV V.N)(cs:List (TV V.N)):TO V.N:=match o with
 |none=>Ap V v cs
 |some t=> .box (some t) cs
def mkV(ex:Bool)(ot:Option (Ty V.ι))(cs:List (TV V.N)):TV V.N:=match ot with
 |some (.st i)=>match cx V ex (V.tys i) cs with
  |some ls=>match V.ofCells i ls with
   |some x=> .lf (.st i) x
   |none=> .agg cs
  |none=> .agg cs
 |_=> .agg cs
def Ei(t:TypeId):List (TV V.N)->Option TypeId
 | .raw (.pointer none):: .raw (.slice none 0 0)::_=>some t
 |_=>none
def aN:(t:Ty V.ι)->den V.N t->List (cj V.N)
 | .st i,x=>V.cells i x
 | .ar n e,xs=>arL (n *tsz V.sz e) ⟨.bool,false⟩ (xs.map λx=>aN e x).flatten
 |t,x=>[⟨t,x⟩]
def TV.cells:TV V.N->Option (List (TV V.N))
 | .lf t x=>some ((aN V t x).map λl=> .lf l.t l.x)
 | .raw v=>if ct v then some [.raw v]else none
 | .agg cs=>some cs
 | .tup _=>none
 | .junk=>none
 |v=>some [v]
def uH{α β:Type}(f:List α->Option β)(sz:Nat):Nat->List α->Option (List β)
 |0,_=>some []
 |n+1,cs=>match f (cs.take sz),uH f sz n (cs.drop sz)with
  |some x,some r=>some (x::r)
  |_,_=>none
def cA(ex:Bool):(e:Ty V.ι)->List (TV V.N)->Option (den V.N e)
 | .st i,cs=>match cx V ex (V.tys i) cs with
  |some ls=>V.ofCells i ls
  |none=>none
 | .ar n e,cs=>if cs.length=n *tsz V.sz e then uH (cA ex e) (tsz V.sz e) n cs else none
 |t,[x]=>match mu V ex t x with
  |some l=>if h:l.t=t then some (h▸l.x)else none
  |none=>none
 |_,_=>none
def i6:(e:Ty V.ι)->List (cj V.N)->Option (den V.N e)
 | .st i,ls=>V.ofCells i ls
 | .ar _ _,_=>none
 |t,[l]=>if h:l.t=t then some (h▸l.x)else none
 |_,_=>none
def yT(ex:Bool)(ag:Bool)(sz:Nat)(ot:Option (Ty V.ι))(cells:List (TV V.N)):Option (TV V.N):=match ag with
 |true=>if sz<=cells.length then some (mkV V ex ot (cells.take sz))else none
 |false=>cells.head?
def tT(ag:Bool)(sz:Nat)(ot:Option (Ty V.ι))(t:Ty V.ι)(x:den V.N t)(off:Nat):Option (TV V.N):=match ag with
 |true=>if off=0/\ot=some t/\t.cell=false/\sz=tsz V.sz t then some (.lf t x)else match ot with
  |some (.st i)=>if off+sz<=(aN V t x).length then match V.ofCells i (((aN V t x).drop off).take sz)with
   |some y=>some (.lf (.st i) y)
   |none=>none
   else none
  |_=>none
 |false=>match((aN V t x).drop off).head? with
  |some l=>some (.lf l.t l.x)
  |none=>none
def vF(pl:List (Nat×Nat)):List (TV V.N)->List (Nat×TV V.N)->Option (List (TV V.N))
 |cells,[]=>some cells
 |cells,(i,x)::r=>match pl[i]?,TV.cells V x with
  |some (off,sz),some cs=>if cs.length=sz/\off+sz<=cells.length then vF pl (cells.take off++cs++cells.drop (off+cs.length)) r else none
  |_,_=>none
def D9(ex:Bool)(e:Ty V.ι)(x:TV V.N):Option (den V.N e):=match x with
 | .lf t y=>if h:t=e then some (h▸y)else none
 |x=>match TV.cells V x with
  |some cs=>cA V ex e cs
  |none=>none
def L5(nm:Nat->Nat):Option Tmp->Bool
 |some d=> !(Ph (nm d) d)
 |none=>false
def zw(ex:Bool)(e:Ty V.ι):Nat->List (Nat×TV V.N)->Option (List (den V.N e))
 |_,[]=>some []
 |i,(j,x)::r=>if i=j then match D9 V ex e x,zw ex e (i+1) r with
   |some y,some ys=>some (y::ys)
   |_,_=>none
  else none
def K5{ι:Type}{N:ι->Type}:cj N->cj N->Bool
 |⟨.int _,a⟩,⟨.int _,b⟩=>Mp.ieq a b
 |⟨.bool,a⟩,⟨.bool,b⟩=>Mp.beq a b
 |⟨.str,a⟩,⟨.str,b⟩=>Mp.seq a b
 |_,_=>false
def Bb{ι:Type}{N:ι->Type}:List (cj N)->List (cj N)->Bool
 |[],[]=>true
 |[a],[b]=>K5 a b
 |a::r,b::s=>K5 a b&&Bb r s
 |_,_=>false
def keq{ι:Type}{N:ι->Type}(cells:(i:ι)->N i->List (cj N)):(t:Ty ι)->den N t->den N t->Bool
 | .int _=>Mp.ieq
 | .bool=>Mp.beq
 | .str=>Mp.seq
 | .st i=>λx y=>Bb (cells i x) (cells i y)
 |_=>λ_ _=>false
def klt{ι:Type}{N:ι->Type}:(t:Ty ι)->den N t->den N t->Bool
 | .int _=>Mp.ilt
 | .bool=>Mp.blt
 | .str=>Mp.slt
 |_=>λ_ _=>false
def eQ{ι:Type}:Option TypeDesc->Ty ι->Bool
 |some (.int k), .int k'=>decide (k=k')
 |some .string, .str=>true
 |some .bool, .bool=>true
 |_,_=>false
def mM:List D->Option (List Value)
 |[]=>some []
 | .v x::r=>match mM r with
  |some l=>some (x::l)
  |none=>none
 |_::_=>none
def ofZ(ex:Bool):(t:Ty V.ι)->D->Option (den V.N t)
 | .int k, .v (.int k' n)=>if k=k' then some n else none
 | .bool, .v (.bool b)=>some b
 | .str, .v (.string s)=>some s
 | .sl _, .v (.slice none 0 0)=>match ex with
  |true=>none
  |false=>some []
 | .st i, .agg ds=>match mM ds with
  |some z=>if z.all ct=true then cA V ex (.st i) (z.map tvc)else none
  |none=>none
 |_,_=>none
def Kd(S:TS V.N):Option Operand->Bool
 |none=>true
 |some x=>match tev S x with
  | .lf (.int _) _=>true
  |_=>false
def FZ(S:TS V.N):Option Operand->Int->Option Int
 |some l,_=>match tev S l with
  | .lf (.int _) n=>some n
  |_=>none
 |none,n=>some n
def qT:Operand->Operand->Bool
 | .tmp a, .tmp b=>Ph a b
 |_,_=>false
def most:Nat:=4294967296
variable (P:Program) (nm:Nat->Nat)
abbrev aB:=(A:Type)->Nat->List (TV V.N)->TS V.N->(TE V.N->Option A)->Option A
def Kg(P:Program)(t:TypeId):Bool:=match P.underlying t with
 |some .string=>true
 |_=>false
def BB(P:Program)(t e:TypeId):Bool:=match P.underlying t with
 |some (.pointer e')=>Ph e' e
 |_=>false
def GH(P:Program)(t:TypeId):Bool:=match mh P t with
 |some (.v (.int .u8 n))=>n==0
 |_=>false
def xS{A:Type}(b:Builtin)(rt:TypeId)(args:List (TV V.N))(tys:List TypeId)(dst:Option Tmp)(S:TS V.N)(k:TE V.N->Option A):Option A:=match b,args with
 | .len,[.lf (.sl _) xs]=>if cE P tys=2 then k {val:= .lf (.int .i64) xs.length}else none
 | .len,[.vh n]=>if cE P tys=2 then k {val:= .lf (.int .i64) (S.len n)}else none
 | .len,[.mp n]=>match S.own? n with
  |some (.map _ _ es)=>if cE P tys=3 then k {val:= .lf (.int .i64) es.length,acc:=[n]}else none
  |_=>none
 | .len,[.lf .str s]=>if cE P tys=1 then k {val:= .lf (.int .i64) s.size}else none
 | .min,[.lf (.int kx) a, .lf (.int _) b]=>k {val:= .lf (.int kx) (min a b)}
 | .max,[.lf (.int kx) a, .lf (.int _) b]=>k {val:= .lf (.int kx) (max a b)}
 | .append,[x, .lf (.sl e') news]=>match dst,tys with
  |some d,[t,t']=>match bg P t with
   |some (te,sz,bytes)=>match x with
    | .vh n=>match S.own? n with
     |some (.vec te2 e xs)=>if h:e'=e then
      if t=t'/\te=te2/\sz=tsz V.sz e/\bytes<=32768/\¬n=nm d then
       if xs.length+news.length<=most then k {val:= .vh (nm d),acc:=[n],upd:=[(nm d, .vec te e (xs++h▸news)),(n, .gone xs.length)],new:=[nm d]}else none
      else none
      else none
     |_=>none
    | .raw (.slice none 0 0)=>if t=t'/\sz=tsz V.sz e'/\bytes<=32768 then
       if news.length<=most then k {val:= .vh (nm d),upd:=[(nm d, .vec te e' news)],new:=[nm d]}else none
      else none
    |_=>none
   |none=>none
  |_,_=>none
 | .append,[x, .lf .str s]=>match dst,tys with
  |some d,[t,t']=>match bg P t with
   |some (te,sz,bytes)=>if Kg P t'=true/\sz=1/\bytes=1/\GH P te=true then match x with
    | .vh n=>match S.own? n with
     |some (.vec te2 (.int .u8) xs)=>if te=te2/\¬n=nm d then
      if xs.length+s.size<=most then k {val:= .vh (nm d),acc:=[n],upd:=[(nm d, .vec te (.int .u8) (xs++Bs.ints s)),(n, .gone xs.length)],new:=[nm d]}else none
      else none
     |_=>none
    | .raw (.slice none 0 0)=>if s.size<=most then k {val:= .vh (nm d),upd:=[(nm d, .vec te (.int .u8) (Bs.ints s))],new:=[nm d]}else none
    |_=>none
    else none
   |none=>none
  |_,_=>none
 | .unsafeSliceData,[.vh n]=>match S.own? n with
  |some (.vec _ _ _)=>if lJ P rt=true then k {val:= .sd n,acc:=[n]}else none
  |_=>none
 | .unsafeString,[.sd n, .lf (.int ki) l]=>match S.own? n,tys with
  |some (.vec te (.int .u8) xs),[pt,_]=>if BB P pt te=true/\P.cellsOf te=1/\ki= .i64 then
   if l=xs.length/\xs.length<=most then k {val:= .lf .str (Bs.bytes xs),acc:=[n],upd:=[(n, .gone xs.length)]}else none
   else none
  |_,_=>none
 |_,_=>none
def Lf{A:Type}(t:TypeId)(x i y:Operand)(S:TS V.N)(k:TE V.N->Option A):Option A:=match P.underlying t,tev S x,tev S i,tev S y with
 |some (.map kt _), .mp n, .lf tk key, .lf tv z=>match S.own? n with
  |some (.map tk' tv' es)=>if h:tk=tk' then
   if h':tv=tv' then
    if eQ (P.underlying kt) tk'=true then k {val:= .junk,acc:=[n],upd:=[(n, .map tk' tv' (Mp.set (keq V.cells tk') (klt tk') (h▸key) (h'▸z) es))]}else none
   else none
   else none
  |_=>none
 |_,_,_,_=>none
def Hz{ι:Type}:Ty ι->Bool
 | .int _=>true
 | .bool=>true
 | .str=>true
 |_=>false
def Jd{α:Type}:List α->List (α×List α)
 |[]=>[]
 |a::r=>(a,r)::(Jd r).map λq=>(q.1,a::q.2)
open Classical in
noncomputable def same{A:Type}(l:List A):Option A:=
 if h:∃x,l≠[]/\∀a∈l,a=x then some h.choose else none
theorem uK{A:Type}{l:List A}{x:A}:same l=some x↔l≠[]/\∀a∈l,a=x:=by
 unfold same
 constructor
 ·intro h
  split at h
  ·rename_i hx
   cases h
   exact hx.choose_spec
  ·cases h
 ·intro h
  have hx:∃x,l≠[]/\∀a∈l,a=x:=⟨x,h⟩
  rw[dif_pos hx]
  obtain⟨a,ha⟩:=List.exists_mem_of_ne_nil l h.1
  rw[<-h.2 a ha,<-hx.choose_spec.2 a ha]
noncomputable def GS{α A:Type}(l:List α)(k:α->Option A):Option A:=Q5 k l>>=same
theorem m6{α A:Type}{k:α->Option A}:∀{l:List α} {xs:List A},Q5 k l=some xs↔xs.length=l.length/\∀(i:Nat) (a:α),l[i]?=some a->k a=xs[i]?
 |[],xs=>by
  simp only[List.mapM_nil]
  constructor
  ·intro h;cases h;simp
  ·intro h;rw[OL h.1];rfl
 |a::r,xs=>by
  rw[Ru]
  constructor
  ·intro h
   cases hk:k a with
   |none=>rw[hk]at h;cases h
   |some y=>
    rw[hk]at h
    cases hr:Q5 k r with
    |none=>rw[hr]at h;cases h
    |some ys=>
     rw[hr]at h
     cases h
     obtain⟨h1,h2⟩:=m6.1 hr
     refine⟨by simp[h1],λi b hb=> ?_⟩
     cases i with
     |zero=>simp at hb;subst hb;simpa using hk
     |succ i=>simpa using h2 i b (by simpa using hb)
  ·intro ⟨h1,h2⟩
   cases xs with
   |nil=>simp at h1
   |cons y ys=>
    have hk:=h2 0 a rfl
    have hr:Q5 k r=some ys:=m6.2 ⟨by simpa using h1,λi b hb=>by simpa using h2 (i+1) b (by simpa using hb)⟩
    simp only[PW]at hk
    rw[hk,hr];rfl
theorem yh{α A:Type}{l:List α}{k:α->Option A}{x:A}:GS l k=some x↔l≠[]/\∀a∈l,k a=some x:=by
 unfold GS
 constructor
 ·intro h
  cases hm:Q5 k l with
  |none=>rw[hm]at h;cases h
  |some xs=>
   rw[hm]at h
   obtain⟨h1,h2⟩:=m6.1 hm
   obtain⟨h3,h4⟩:=uK.1 h
   refine⟨λe=>h3 (OL (by rw[h1,e];rfl)),λa ha=> ?_⟩
   obtain⟨i,hi⟩:=Py ha
   rw[h2 i a hi]
   have:i<xs.length:=by rw[h1];exact(Ol.1 hi).1
   rw[Ou this,h4 _ (Pn this)]
 ·intro ⟨h1,h2⟩
  have hm:Q5 k l=some (l.map λ_=>x):=m6.2 ⟨by simp,λi a hi=>by rw[h2 a (OA hi),Oq,hi];rfl⟩
  rw[hm]
  exact uK.2 ⟨by simpa using h1,by simp⟩
theorem C9{α:Type}{l:List α}:∀{i:Nat} {a:α},l[i]?=some a->(a,l.eraseIdx i)∈Jd l:=by
 induction l with
 |nil=>intro i a h;simp at h
 |cons x r ih=>
  intro i a h
  cases i with
  |zero=>simp at h;subst h;exact Ox
  |succ i=>exact Ot _ (OT.2 ⟨_,ih (by simpa using h),rfl⟩)
def wB:BinOp->Option Bool
 | .shl=>some true
 | .shr=>some false
 |_=>none
def tx{A:Type}(call:aB V)(ex:Bool)(o:Oper)(S:TS V.N)(k:TE V.N->Option A):Option A:=match o.op with
 | .move x=>k {val:=tev S x}
 | .assign x=>k {val:=tev S x}
 | .pick c x y=>match tev S c with
  | .lf .bool b=>if b=true then k {val:=tev S x}else k {val:=tev S y}
  |_=>none
 | .alloc t=>match gn P t,o.dst with
  |some z,some d=>if z.all ct=true then k {val:= .bp (nm d) 0,upd:=[(nm d, .box (tP t z) (z.map tvc))],new:=[nm d]}else none
  |_,_=>none
 | .box t x=>match TV.cells V (tev S x),o.dst with
  |some cs,some d=>k {val:= .bp (nm d) 0,upd:=[(nm d,EW V (Ei V t cs) (tev S x) cs)],new:=[nm d]}
  |_,_=>none
 | .load t x=>match bu P t with
  |some (ag,sz)=>match tev S x with
   | .bp n off=>match xZ V ag off sz (V.ty t) (S.own? n)with
    |some v=>k {val:=v,acc:=[n]}
    |none=>match DW V (S.own? n)with
     |some cells=>match yT V ex ag sz (V.ty t) (cells.drop off)with
      |some v=>k {val:=v,acc:=[n]}
      |none=>none
     |none=>none
   | .ep n s i off=>match S.own? n with
    |some (.vec _ e xs)=>if s=tsz V.sz e then xs[i]?>>=λx=>match tT V ag sz (V.ty t) e x off with
     |some v=>k {val:=v,acc:=[n]}
     |none=>none
     else none
    |_=>none
   | .rp t' x off=>match tT V ag sz (V.ty t) t' x off with
    |some v=>k {val:=v}
    |none=>none
   |_=>none
  |none=>none
 | .store t x y=>match bu P t with
  |some (_,sz)=>match tev S x,TV.cells V (tev S y)with
   | .bp n off,some cs=>match DW V (S.own? n)with
    |some cells=>if cs.length=sz/\cs.all TV.one=true/\off+sz<=cells.length then
     if off=0/\sz=cells.length then k {val:= .junk,acc:=[n],upd:=[(n,EW V (Lo V (S.own? n)) (tev S y) cs)]}
     else k {val:= .junk,acc:=[n],upd:=[(n, .box (Lo V (S.own? n)) (cells.take off++cs++cells.drop (off+cs.length)))]}
     else none
    |none=>none
   | .ep n s i off,some cs=>match S.own? n with
    |some (.vec te e xs)=>if s=tsz V.sz e/\cs.length=sz/\cs.all TV.one=true/\off+sz<=s then
     xs[i]?>>=λx=>match cA V true e ((((aN V e x).take off).map λl=> .lf l.t l.x)++cs++(((aN V e x).drop (off+cs.length)).map λl=> .lf l.t l.x))with
      |some y=>k {val:= .junk,acc:=[n],upd:=[(n, .vec te e (xs.set i y))]}
      |none=>none
     else none
    |_=>none
   |_,_=>none
  |none=>none
 | .nilCheck x=>match tev S x with
  | .bp n off=>k {val:= .bp n off}
  | .ep n s i off=>k {val:= .ep n s i off}
  | .rp t x off=>k {val:= .rp t x off}
  | .np n b=>if b=true then k {val:= .bp n 0}else none
  |_=>none
 | .binOp op xt x y _=>match tev S x,tev S y with
  | .lf (.int kx) a, .lf (.int ky) b=>match wB op with
   |some true=>if 0<=b then k {val:= .lf (.int kx) (Bs.ishl kx a b)}else none
   |some false=>if 0<=b then k {val:= .lf (.int kx) (Bs.ishr kx a b)}else none
   |none=>if kx=ky then match op with
    | .add=>k {val:= .lf (.int kx) (kx.wrap (a+b))}
    | .sub=>k {val:= .lf (.int kx) (kx.wrap (a-b))}
    | .mul=>k {val:= .lf (.int kx) (kx.wrap (a *b))}
    | .eql=>k {val:= .lf .bool (a==b)}
    | .neq=>k {val:= .lf .bool (a !=b)}
    | .lss=>k {val:= .lf .bool (decide (a<b))}
    | .leq=>k {val:= .lf .bool (decide (a<=b))}
    | .gtr=>k {val:= .lf .bool (decide (a>b))}
    | .geq=>k {val:= .lf .bool (decide (a>=b))}
    | .quo=>if b=0 then none else k {val:= .lf (.int kx) (kx.wrap (a.tdiv b))}
    | .rem=>if b=0 then none else k {val:= .lf (.int kx) (a.tmod b)}
    | .and=>k {val:= .lf (.int kx) (Bs.iand kx a b)}
    | .or=>k {val:= .lf (.int kx) (Bs.ior kx a b)}
    | .xor=>k {val:= .lf (.int kx) (Bs.ixor kx a b)}
    | .andNot=>k {val:= .lf (.int kx) (Bs.iandn kx a b)}
    |_=>none
   else none
  | .lf .bool a, .lf .bool b=>match P.underlying xt,op with
   |some .bool, .eql=>k {val:= .lf .bool (a==b)}
   |some .bool, .neq=>k {val:= .lf .bool (!(a==b))}
   |_,_=>none
  | .lf .str a, .lf .str b=>match op with
   | .eql=>k {val:= .lf .bool (a.toList==b.toList)}
   | .neq=>k {val:= .lf .bool (!(a.toList==b.toList))}
   | .add=>if a.size+b.size<=most then k {val:= .lf .str (a++b)}else none
   |op=>match Bs.scmp op a b with
    |some c=>k {val:= .lf .bool c}
    |none=>none
  | .raw (.slice a _ _), .raw (.slice none 0 0)=>match isSl P xt,op with
   |true, .eql=>k {val:= .lf .bool a.isNone}
   |true, .neq=>k {val:= .lf .bool (!a.isNone)}
   |_,_=>none
  | .lf (.sl _) (_::_), .raw (.slice none 0 0)=>match isSl P xt,op with
   |true, .eql=>k {val:= .lf .bool false}
   |true, .neq=>k {val:= .lf .bool true}
   |_,_=>none
  | .np _ b, .raw (.pointer none)=>match lJ P xt,op with
   |true, .eql=>k {val:= .lf .bool (!b)}
   |true, .neq=>k {val:= .lf .bool b}
   |_,_=>none
  | .lf .er b, .raw .nilIface=>if Hx P xt=true/\Bz y=true then match op with
    | .eql=>k {val:= .lf .bool (!b)}
    | .neq=>k {val:= .lf .bool b}
    |_=>none
   else none
  |_,_=>none
 | .makeInterface t _=>match Iq P t with
  |true=>k {val:= .lf .er true}
  |false=>none
 | .unOp op _ x=>match op,tev S x with
  | .not, .lf .bool b=>k {val:= .lf .bool (!b)}
  | .neg, .lf (.int ki) n=>k {val:= .lf (.int ki) (ki.wrap (0-n))}
  |_,_=>none
 | .convert s t x=>match P.underlying s,P.underlying t,tev S x with
  |some _,some (.int ki), .lf (.int _) n=>k {val:= .lf (.int ki) (ki.wrap n)}
  |some _,some .string, .lf (.int _) n=>k {val:= .lf .str (Bs.enc1 n)}
  |some .string,some (.slice e), .lf .str x=>match P.underlying e,o.dst with
   |some (.int .i32),some d=>if x.size<=most then k {val:= .vh (nm d),upd:=[(nm d, .vec e (.int .i32) (Bs.runes x))],new:=[nm d]}else none
   |some (.int .u8),_=>k {val:= .lf (.sl (.int .u8)) (Bs.ints x)}
   |_,_=>none
  |some (.slice e),some .string, .lf (.sl (.int ik)) xs=>match P.underlying e,ik with
   |some (.int .i32), .i32=>k {val:= .lf .str (Bs.text xs)}
   |some (.int .u8), .u8=>k {val:= .lf .str (Bs.bytes xs)}
   |_,_=>none
  |some (.slice e),some .string, .raw (.slice none 0 0)=>match P.underlying e with
   |some (.int .i32)=>k {val:= .lf .str O7}
   |some (.int .u8)=>k {val:= .lf .str O7}
   |_=>none
  |_,_,_=>none
 | .build t parts=>match gn P t,places P t with
  |some z,some pl=>if z.all ct=true then match vF V pl (z.map tvc) (parts.toList.map λ(i,x)=>(i,tev S x))with
   |some cs=>match L5 nm o.dst with
    |true=>k {val:= .agg cs}
    |false=>k {val:=mkV V ex (V.ty t) cs}
   |none=>none
   else none
  |_,_=>none
 | .buildSlice t len parts=>match bg P t,V.ty t with
  |some (te,sz,_),some (.sl e)=>if sz=tsz V.sz e then match zw V ex e 0 (parts.toList.map λ(i,x)=>(i,fnT (tev S x)))with
   |some ys=>if parts.toList.length=len/\len *sz<=16777216 then match o.dst with
    |some d=>if nm d=d then k {val:= .lf (.sl e) ys}else k {val:= .vh (nm d),upd:=[(nm d, .vec te e ys)],new:=[nm d]}
    |none=>k {val:= .lf (.sl e) ys}
    else none
   |none=>none
   else none
  |_,_=>none
 | .makeSlice t l c=>match bg P t,V.ty t,o.dst with
  |some (te,sz,bytes),some (.sl e),some d=>match gn P te,tev S l,tev S c with
   |some z, .lf (.int _) n, .lf (.int _) m=>match cA V ex e (z.map tvc)with
    |some y=>if sz=tsz V.sz e/\bytes<=32768/\z.all ct=true then
     match qT l c with
     |true=>if 0<=m then
      if m<=4294967296 then k {val:= .vh (nm d),upd:=[(nm d, .vec te e (Pc m.toNat y))],new:=[nm d]}else none
      else none
     |false=>if n=0 then
      if 0<=m then
       if m<=4294967296 then k {val:= .vh (nm d),upd:=[(nm d, .vec te e [])],new:=[nm d]}else none
      else none
      else none
     else none
    |none=>none
   |_,_,_=>none
  |_,_,_=>none
 | .makeMap t hint=>match P.underlying t,o.dst with
  |some (.map kt et),some d=>match V.ty kt,V.ty et with
   |some tk,some tv=>if Kd V S hint=true then k {val:= .mp (nm d),upd:=[(nm d, .map tk tv [])],new:=[nm d]}else none
   |_,_=>none
  |_,_=>none
 | .lookup t x i c=>match P.underlying t,tev S x,tev S i with
  |some (.map kt et), .mp n, .lf tk key=>match S.own? n,mh P et with
   |some (.map tk' tv es),some d=>match ofZ V ex tv d with
    |some z=>if h:tk=tk' then
     if eQ (P.underlying kt) tk'=true then match c with
      |true=>k {val:= .tup [.lf tv ((Mp.get (keq V.cells tk') (h▸key) es).getD z), .lf .bool (Mp.get (keq V.cells tk') (h▸key) es).isSome],acc:=[n]}
      |false=>k {val:= .lf tv ((Mp.get (keq V.cells tk') (h▸key) es).getD z),acc:=[n]}
     else none
     else none
    |none=>none
   |_,_=>none
  |_,_,_=>none
 | .range t x=>match P.underlying t,tev S x,o.dst with
  |some .string, .lf .str s,some d=>k {val:= .bp (nm d) 0,upd:=[(nm d, .iter s 0)],new:=[nm d]}
  |some (.map _ _), .mp m,some d=>match S.own? m with
   |some (.map tk tv es)=>k {val:= .bp (nm d) 0,acc:=[m],upd:=[(nm d, .miter m tk tv es es none),(m, .gone 0)],new:=[nm d]}
   |_=>none
  |_,_,_=>none
 | .next x true=>match tev S x with
  | .bp n 0=>match S.own? n with
   |some (.iter s p)=>if 0<=p then
    if p<s.size then k {val:= .tup [.lf .bool true, .lf (.int .i64) p, .lf (.int .i32) (Bs.dec s p)],acc:=[n],upd:=[(n, .iter s (p+Bs.wid s p))]}
    else k {val:= .tup [.lf .bool false],acc:=[n]}
    else none
   |_=>none
  |_=>none
 | .entry x=>match tev S x with
  | .bp n 0=>match S.own? n with
   |some (.miter _ tk tv _ _ (some p))=>if Hz tk=true then k {val:= .tup [.lf tk p.1, .lf tv p.2],acc:=[n]}else none
   |_=>none
  |_=>none
 | .mapUpdate t x i y=>Lf V P t x i y S k
 | .insert t x i y=>Lf V P t x i y S k
 | .fieldAddr s x f=>match rm P s f with
  |some fo=>match tev S x with
   | .bp n off=>k {val:= .bp n (off+fo)}
   | .ep n sz i off=>k {val:= .ep n sz i (off+fo)}
   | .rp t x off=>if off+fo<=(aN V t x).length then k {val:= .rp t x (off+fo)}else none
   |_=>none
  |none=>none
 | .field s x f=>match rn P s f,tev S x with
  |some (off,ag,sz), .lf t y=>if t.cell=false then match tT V ag sz (match P.underlying s with|some (.struct fs)=>(fs[f]?).bind λfd=>V.ty fd.type|_=>none) t y off with
   |some v=>k {val:=v}
   |none=>none
   else none
  |some (off,ag,sz), .agg cs=>match yT V ex ag sz (match P.underlying s with|some (.struct fs)=>(fs[f]?).bind λfd=>V.ty fd.type|_=>none) (cs.drop off)with
   |some v=>k {val:=v}
   |none=>none
  |_,_=>none
 | .indexAddr t x i=>match bg P t with
  |some (_,sz,_)=>match tev S x,tev S i with
   | .lf (.sl e) xs, .lf (.int _) n=>if sz=tsz V.sz e then
     if 0<=n then xs[n.toNat]?>>=λx=>k {val:= .rp e x 0}else none
    else none
   | .vh m, .lf (.int _) n=>match S.own? m with
    |some (.vec _ _ xs)=>if 0<=n/\n<xs.length then k {val:= .ep m sz n.toNat 0,acc:=[m]}else none
    |_=>none
   |_,_=>none
  |none=>none
 | .index t x i=>match P.underlying t,tev S x,tev S i with
  |some .string, .lf .str s, .lf (.int _) n=>if 0<=n then s[n.toNat]?>>=λb=>k {val:= .lf (.int .u8) b.toNat}else none
  |_,_,_=>none
 | .slice t x lo hi none=>match P.underlying t,tev S x with
  |some .string, .lf .str s=>match FZ V S lo 0,FZ V S hi s.size with
   |some l,some h=>if 0<=l/\l<=h/\h<=s.size then k {val:= .lf .str (s.extract l.toNat h.toNat)}else none
   |_,_=>none
  |some (.slice _), .lf (.sl e) xs=>match bg P t,FZ V S lo 0,FZ V S hi xs.length with
   |some (_,sz',_),some l,some h=>if sz'=tsz V.sz e then
    if 0<=l/\l<=h/\h<=xs.length then k {val:= .lf (.sl e) ((xs.take h.toNat).drop l.toNat)}else none
    else none
   |_,_,_=>none
  |_,_=>none
 | .extract x i=>match tev S x with
  | .tup vs=>match vs[i]? with
   |some v=>k {val:=v}
   |none=>none
  |_=>none
 | .makeFunc (.func f) first captured=>k {val:= .fn f (first.toList.map (tev S)) (captured.toList.map (tev S))}
 | .call c=>match c.callee with
  | .value f=>match tev S f with
   | .fn fid first captured=>call A fid (first++c.args.toList.map (tev S)++captured) S k
   | .lf .fnc fid=>call A fid (c.args.toList.map (tev S)) S k
   | .lf .fno x=>x>>=λfid=>call A fid (c.args.toList.map (tev S)) S k
   |_=>none
  | .builtin b=>xS V P nm b o.type (c.args.toList.map (tev S)) c.argTypes.toList o.dst S k
  |_=>none
 |_=>none
end
end Go.Tx
end
section
namespace Go.Tx
open Go.Awp
variable [Inhabited GMem]
structure ELe (ex:Bool) (e' e:Eff):Prop where
 val:H.le e'.val e.val
 new:e'.new=e.new
 none:∀n,gt e.upd n=none->gt e'.upd n=none
 some:∀n o,gt e.upd n=some (some o)->∃o',gt e'.upd n=some (some o')/\OLe o' o
 eq:ex=true->e'.val=e.val/\e'.upd=e.upd/\e'.acc=e.acc
theorem Sim.le{C:Ctx}{E:Env}{M:Mem}{S S':ab}{a:Act}{w:World}(h:Sim C E M S a w)
 (ht:∀t x,gt S'.tmps t=some x->∃y,gt S.tmps t=some y/\H.le y x)(ho:∀n o,S'.own? n=some o->∃o',S.own? n=some o'/\OLe o' o):Sim C E M S' a w:=
 { h with
   tmps:=λt x hx=>by
    obtain⟨y,hy,hle⟩:=ht t x hx
    obtain⟨v,hv,hr⟩:=h.tmps t y hy
    exact⟨v,hv,hle E M v hr⟩
   own:=λn o hn=>by
    obtain⟨o',ho',hle⟩:=ho n o hn
    exact hle.ok E M w n (h.own n o' ho')
   apart:=λn m o o' b hne hn hm hb hb'=>by
    obtain⟨o1,h1,l1⟩:=ho n o hn
    obtain⟨o2,h2,l2⟩:=ho m o' hm
    exact h.apart n m o1 o2 b hne h1 h2 (l1.foot E M w n b (h.own n o1 h1) hb) (l2.foot E M w m b (h.own m o2 h2) hb')
   home:=λn o b hn hb=>by
    obtain⟨o1,h1,l1⟩:=ho n o hn
    exact h.home n o1 b h1 (l1.foot E M w n b (h.own n o1 h1) hb)}
theorem H.le.junk(x:H):H.le x .junk:=λ_ _ v _=> .junk v
theorem OLe.box{o o':Option TypeId}(ho:o=none\/o=o'){l l':List H}(hl:l'.length=l.length)(h:∀(i:Nat) (x:H),l[i]?=some x->∃y,l'[i]?=some y/\H.le y x):OLe (.box o' l') (.box o l):=by
 refine⟨?_,λ_ _ _ _ _ _ h=>h⟩
 rintro E M w n ⟨b,cs,ty,h1,h2,h3,h4,h5,h6⟩
 refine⟨b,cs,ty,h1,h2,by omega,λi c x hc hx=> ?_,h5,λt ht=>by
  rcases ho with ho|ho
  ·rw[ho]at ht;cases ht
  ·rw[ho]at ht;exact h6 t ht⟩
 obtain⟨y,hy,hle⟩:=h i x hx
 exact hle E M c (h4 i c y hc hy)
section
variable {V:jj}
def fP(ω:Nat->Nat)(e:TE V.N):Eff:={val:=ao V ω e.val,acc:=e.acc,upd:=e.upd.map λp=>(p.1,aZ V ω p.2),new:=e.new}
def n9(S:TS V.N)(e:TE V.N):Prop:=∀m o,gt e.upd m=some o->m∈e.new\/TO.len (some o)=S.len m
theorem mU(S:TS V.N)(dst:Option Tmp)(e:TE V.N)(n:Nat):(S.app dst e).own? n=match gt e.upd n with
 |some o=>some o
 |none=>S.own? n:=by
 unfold TS.app TS.own?
 simp only[eG]
 cases gt e.upd n<;>rfl
theorem bX(S:TS V.N)(dst:Option Tmp)(e:TE V.N)(n:Nat):(S.app dst e).len n=match gt e.upd n with
 |some o=>TO.len (some o)
 |none=>S.len n:=by
 unfold TS.len
 rw[mU]
 cases gt e.upd n<;>rfl
theorem fresh_tmp{S:TS V.N}{n:Nat}(h:S.fresh n=true){t:Nat}{x:TV V.N}(hx:gt S.tmps t=some x):TV.has n x=false:=by
 simp[TS.fresh]at h;exact h.1.2 _ _ (bI hx)
theorem fresh_own{S:TS V.N}{n:Nat}(h:S.fresh n=true){m:Nat}{o:TO V.N}(ho:S.own? m=some o):TO.has n o=false:=by
 simp[TS.fresh]at h;exact h.2 _ _ (bI ho)
theorem DS{S:TS V.N}{dst:Option Tmp}{te:TE V.N}(hg:n9 S te)(hn:∀d∈te.new,S.fresh d=true):
 (∀t v,gt S.tmps t=some v->ao V (S.app dst te).len v=ao V S.len v)/\(∀n o,S.own? n=some o->aZ V (S.app dst te).len o=aZ V S.len o):=by
 have keep:∀n,n∉te.new->(S.app dst te).len n=S.len n:=by
  intro n hnn
  rw[bX]
  cases hu:gt te.upd n with
  |none=>rfl
  |some o=>exact(hg n o hu).resolve_left hnn
 refine⟨λt v hv=>iQ v λn hnv=>keep n λhd=> ?_,λn o ho=>qm o λm hm=>keep m λhd=> ?_⟩
 ·rw[fresh_tmp (hn n hd) hv]at hnv;cases hnv
 ·rw[fresh_own (hn m hd) ho]at hm;cases hm
theorem rl{S:TS V.N}{dst:Option Tmp}{te:TE V.N}(hg:n9 S te)(hn:∀d∈te.new,S.fresh d=true):
 (∀t,gt (az V (S.app dst te)).tmps t=gt ((az V S).app dst (fP (S.app dst te).len te)).tmps t)/\
 (∀n,(az V (S.app dst te)).own? n=((az V S).app dst (fP (S.app dst te).len te)).own? n):=by
 obtain⟨k1,k2⟩:=DS (dst:=dst) hg hn
 refine⟨λt=> ?_,λn=> ?_⟩
 ·rw[bR]
  have:gt (S.app dst te).tmps t=if dst=some t then some te.val else gt S.tmps t:=by
   unfold TS.app Lb
   cases dst with
   |none=>simp
   |some d=>simp only[af,Om]
  rw[this]
  simp only[ab.app,mR]
  cases dst with
  |none=>
   simp only[reduceCtorEq,RP,bR]
   cases hq:gt S.tmps t with
   |none=>rfl
   |some v=>simp only[OW];rw[k1 t v hq]
  |some d=>
   simp only[af,Om,bR]
   by_cases hd:d=t
   ·rw[RS hd,RS hd];rfl
   ·rw[RR hd,RR hd]
    cases hq:gt S.tmps t with
    |none=>rfl
    |some v=>simp only[OW];rw[k1 t v hq]
 ·rw[aH,mU]
  simp only[ab.own?,ab.app,eG]
  have hu:gt (fP (S.app dst te).len te).upd n=(gt te.upd n).map (aZ V (S.app dst te).len):=by simp only[fP,fU]
  rw[hu]
  cases hq:gt te.upd n with
  |some o=>rfl
  |none=>
   simp only[QE]
   have:=aH S n
   unfold ab.own? at this
   rw[this]
   cases ho:S.own? n with
   |none=>rfl
   |some o=>simp only[PX];rw[k2 n o ho]
theorem Sim.tapp{C:Ctx}{E:Env}{M:Mem}{S:TS V.N}{dst:Option Tmp}{te:TE V.N}{e':Eff}{a:Act}{w:World}{ex:Bool}(hg:n9 S te)(hn:∀d∈te.new,S.fresh d=true)
 (hle:ELe ex e' (fP (S.app dst te).len te))(hs:Sim C E M ((az V S).app dst e') a w):Sim C E M (az V (S.app dst te)) a w:=by
 obtain⟨h1,h2⟩:=rl (dst:=dst) hg hn
 refine Sim.le hs (λt x hx=> ?_) (λn o ho=> ?_)
 ·rw[h1]at hx
  simp only[ab.app,mR]at hx⊢
  cases dst with
  |none=>exact⟨x,hx,H.le.refl _⟩
  |some d=>
   simp only[af]at hx⊢
   by_cases hd:d=t
   ·rw[RS hd]at hx⊢;simp at hx;subst hx;exact⟨_,rfl,hle.val⟩
   ·rw[RR hd]at hx⊢;exact⟨x,hx,H.le.refl _⟩
 ·rw[h2]at ho
  simp only[ab.own?,ab.app,eG]at ho⊢
  cases hu:gt (fP (S.app dst te).len te).upd n with
  |none=>
   rw[hu]at ho
   rw[hle.none n hu]
   exact⟨o,ho,OLe.refl _⟩
  |some oo=>
   rw[hu]at ho
   simp at ho
   subst ho
   obtain⟨o',k1,k2⟩:=hle.some n o hu
   exact⟨o',by rw[k1];rfl,k2⟩
theorem am(S:TS V.N)(x:Operand):ev (az V S) x=ao V S.len (tev S x):=by
 cases x with
 |tmp t=>exact Ea S t
 |const v=>cases v<;>simp[ev,tev,tvc,ao,aL,bx]
 |global g=>simp[ev,tev,ao,bx]
 |func f=>simp[ev,tev,ao,encL]
theorem jP(ω:Nat->Nat)(i:V.ι)(x:V.N i):ao V ω (.lf (.st i) x)= .d (.agg (V.enc i x)):=by simp only[ao,aL]
theorem bZ:∀(t:Ty V.ι) (x:den V.N t),aV V.sz V.enc t x=(aN V t x).map λl=>aL V.sz V.enc l.t l.x
 | .st i,x=>by simp only[aV,aN];exact V.enc_cells i x
 | .ar n e,xs=>by
  simp only[aV,aN,ve,QY,OQ]
  congr 2
  exact OP λx _=>bZ e x
 | .int _,x=>rfl
 | .bool,x=>rfl
 | .str,x=>rfl
 | .sl e,x=>rfl
 | .mp k v,x=>rfl
 | .er,x=>rfl
 | .op e,x=>rfl
 | .fnc,x=>rfl
 | .fno,x=>rfl
theorem dl:∀l:List D,DD.toL (l.map .d)=some l
 |[]=>by simp[DD.toL]
 |x::r=>by simp[DD.toL,DD.toD,dl r]
theorem Jy(m:Nat)(x:D):DD.toL (Pc m (.d x))=some (Pc m x):=by
 have:=dl (Pc m x)
 rwa [Qp]at this
theorem xU:∀{l:List DD} {r:List D} (m:Nat),DD.toL l=some r->DD.toL (l.take m)=some (r.take m)
 |_,_,0,_=>by simp[DD.toL]
 |[],r,m+1,h=>by simp[DD.toL]at h;subst h;simp[DD.toL]
 |x::l,r,m+1,h=>by
  simp only[DD.toL]at h
  split at h
  ·rename_i y z hy hz
   cases h
   simp only[RC,DD.toL,hy,xU m hz]
  ·cases h
theorem nY:∀(t:Ty V.ι) (x:den V.N t),DD.toL (bT V.sz V.enc V.tid V.encd t x)=some (aV V.sz V.enc t x)
 | .st i,x=>by simp only[bT,aV];exact V.encd_toL i x
 | .sl e,xs=>by
  have h:DD.toR (xs.map λx=>bT V.sz V.enc V.tid V.encd e x)=some (xs.map λx=>aV V.sz V.enc e x):=by
   induction xs with
   |nil=>simp[DD.toR]
   |cons x r ih=>simp[DD.toR,nY e x,ih]
  simp[bT,aV,DD.toL,DD.toD,h]
 | .int k,x=>by simp only[bT];exact dl _
 | .bool,x=>by simp only[bT];exact dl _
 | .str,x=>by simp only[bT];exact dl _
 | .mp k v,x=>by simp only[bT];exact dl _
 | .er,x=>by simp only[bT];exact dl _
 | .op e,x=>by simp only[bT];exact dl _
 | .fnc,x=>by simp only[bT];exact dl _
 | .fno,x=>by simp only[bT];exact dl _
 | .ar n e,xs=>by
  have h:DD.toL (xs.map λx=>bT V.sz V.enc V.tid V.encd e x).flatten=some (xs.map λx=>aV V.sz V.enc e x).flatten:=by
   induction xs with
   |nil=>simp[DD.toL]
   |cons x r ih=>simp only[Ow,O4];exact DD.toL_app (nY e x) ih
  simp only[bT,aV,arL]
  exact xU _ (DD.toL_app h (Jy _ _))
theorem sk{e:Ty V.ι}:∀ys:List (den V.N e),DD.toR (ys.map λx=>bT V.sz V.enc V.tid V.encd e x)=some (ys.map λx=>aV V.sz V.enc e x)
 |[]=>by simp[DD.toR]
 |y::r=>by
  have:=sk r
  simp only[Ow,DD.toR,nY]at this⊢
  rw[this]
theorem fc(t:Ty V.ι)(x:den V.N t):(aN V t x).length=tsz V.sz t:=by
 cases t with
 |st i=>exact V.len_cells i x
 |ar n e=>exact GT _ _ _
 |_=>rfl
theorem bH(t:Ty V.ι)(x:den V.N t):(aV V.sz V.enc t x).length=tsz V.sz t:=by
 rw[bZ,On,fc]
theorem GU{α:Type}{m:Nat}{pad y:α}{l:List α}(h:y∈arL m pad l):y∈l\/y=pad:=by
 unfold arL at h
 rcases ON.1 (Pg h)with h|h
 ·exact .inl h
 ·exact .inr (Q4.1 h).2
theorem j8:∀(t:Ty V.ι) (x:den V.N t),∀l∈aN V t x,l.t.cell=true
 | .st i,x=>V.one_cells i x
 | .ar n e,xs=>λl hl=>by
  rcases GU hl with h|h
  ·obtain⟨c,h1,h2⟩:=List.mem_flatten.1 h
   obtain⟨x,_,rfl⟩:=OT.1 h1
   exact j8 e x l h2
  ·subst h;rfl
 | .int _,x=>by simp[aN,Ty.cell]
 | .bool,x=>by simp[aN,Ty.cell]
 | .str,x=>by simp[aN,Ty.cell]
 | .sl e,x=>by simp[aN,Ty.cell]
 | .mp k v,x=>by simp[aN,Ty.cell]
 | .er,x=>by simp[aN,Ty.cell]
 | .op e,x=>by simp[aN,Ty.cell]
 | .fnc,x=>by simp[aN,Ty.cell]
 | .fno,x=>by simp[aN,Ty.cell]
theorem nW{l:cj V.N}(h:l.t.cell=true):(H.d (aL V.sz V.enc l.t l.x)).one=true:=by
 obtain⟨t,x⟩:=l
 cases t<;>first|(simp[Ty.cell]at h;done)|rfl|exact Iv _|exact Ed _
theorem rq{ω:Nat->Nat}(v:TV V.N):ao V ω (fnT v)=fnD (ao V ω v):=by
 unfold fnT
 split
 ·simp[ao,encL,fnD,aL]
 ·rename_i hno
  cases v with
  |fn f a b=>
   simp only[ao]
   unfold fnD
   split
   ·rename_i h
    cases a with
    |nil=>cases b with
     |nil=>exact(hno f rfl).elim
     |cons _ _=>simp[encL]at h
    |cons _ _=>simp[encL]at h
   ·rfl
  |agg cs=>simp only[ao,bA];split<;>rfl
  |raw v=>cases v<;>rfl
  |_=>rfl
theorem yP(x:Option Nat):(H.d (JH x)).cells=some [H.d (JH x)]:=by cases x<;>rfl
theorem CB(x:Option (List D)):(H.d (opD x)).cells=some [H.d (opD x)]:=by cases x<;>rfl
theorem ce{ω:Nat->Nat}{v:TV V.N}{cs:List (TV V.N)}(h:TV.cells V v=some cs):(ao V ω v).cells=some (encL V ω cs):=by
 cases v with
 |lf t x=>
  simp only[TV.cells,Om]at h
  subst h
  have e:encL V ω ((aN V t x).map λl=>TV.lf l.t l.x)=(aV V.sz V.enc t x).map H.d:=by
   rw[bZ,encL_map,OQ,OQ]
   exact OP λl _=>by simp[ao]
  rw[e]
  cases t with
  |op e=>simp only[ao,aL,aV,CB,Ow,O0]
  |fno=>simp only[ao,aL,aV,yP,Ow,O0]
  |_=>simp[ao,aL,aV,H.cells,ct]
 |raw v=>
  simp only[TV.cells]at h
  split at h
  ·rename_i hc
   simp at h;subst h
   cases v<;>first|(simp[ct]at hc;done)|simp[ao,encL,bx,H.cells,ct]
  ·cases h
 |agg cs'=>
  simp only[TV.cells,Om]at h
  subst h
  simp only[ao,bA]
  split
  ·rename_i ds hds
   simp only[H.cells]
   congr 1
   obtain⟨h1,h2⟩:=eT hds
   apply Pf
   intro i
   rw[h2,Oq]
  ·rfl
 |tup vs=>simp[TV.cells]at h
 |junk=>simp[TV.cells]at h
 |rp t x off=>simp[TV.cells]at h;subst h;simp[ao,encL,H.cells]
 |bp n off=>simp[TV.cells]at h;subst h;simp[ao,encL,H.cells]
 |vh n=>simp[TV.cells]at h;subst h;simp[ao,encL,H.cells]
 |ep n s i off=>simp[TV.cells]at h;subst h;simp[ao,encL,H.cells]
 |sv n s i off=>simp[TV.cells]at h;subst h;simp[ao,encL,H.cells]
 |mp n=>simp[TV.cells]at h;subst h;simp[ao,encL,H.cells]
 |np n b=>simp[TV.cells]at h;subst h;simp[ao,encL,H.cells]
 |sd n=>simp[TV.cells]at h;subst h;simp[ao,encL,H.cells]
 |fn f a b=>simp[TV.cells]at h;subst h;simp[ao,encL,H.cells]
 |ai n s i off=>simp[TV.cells]at h;subst h;simp[ao,encL,H.cells]
theorem CA{ω:Nat->Nat}{v:TV V.N}(h:v.one=true):(ao V ω v).one=true:=by
 cases v with
 |lf t x=>simp only[TV.one]at h;simp only[ao];exact nW (l:=⟨t,x⟩) h
 |raw v=>
  simp only[TV.one,Oy]at h
  cases v<;>first|(simp[ct]at h;done)|(simp only[ao,bx,H.one,D.one];exact h.2)
 |agg cs=>simp[TV.one]at h
 |tup cs=>simp[TV.one]at h
 |junk=>simp[TV.one]at h
 |_=>simp[ao,H.one,D.one]
theorem dR{ω:Nat->Nat}{l:List (TV V.N)}(h:l.all TV.one=true):(encL V ω l).all H.one=true:=by
 rw[encL_map,PL]
 rw[OD]at h⊢
 exactλx hx=>CA (h x hx)
theorem xl(t:Ty V.ι)(l:cj V.N):aL V.sz V.enc (L0 V t l).t (L0 V t l).x=aL V.sz V.enc l.t l.x:=by
 obtain⟨t',x⟩:=l
 cases t'<;>try rfl
 cases t<;>rfl
theorem cf{ω:Nat->Nat}{ex:Bool}:∀{ts:List (Ty V.ι)} {cs:List (TV V.N)} {ls:List (cj V.N)},cx V ex ts cs=some ls->
 ∃ds,encL V ω cs=ds.map H.d/\D.Les ds (ls.map λl=>aL V.sz V.enc l.t l.x)/\(ex=true->ds=ls.map λl=>aL V.sz V.enc l.t l.x)
 |[],[],ls,h=>by simp[cx]at h;subst h;exact⟨[],rfl, .nil,λ_=>rfl⟩
 |[],_::_,ls,h=>by simp[cx]at h
 |_::_,[],ls,h=>by simp[cx]at h
 |t::ts,x::xs,ls,h=>by
  simp only[cx]at h
  split at h
  ·rename_i l ls' h1 h2
   simp at h;subst h
   obtain⟨ds,e1,e2,e3⟩:=cf (ω:=ω) h2
   cases x with
   |lf t' y=>
    simp only[mu,Om]at h1;subst h1
    exact⟨aL V.sz V.enc t' y::ds,by simp[encL,ao,e1], .cons ((xl (V:=V) t ⟨t',y⟩)▸D.le.refl _) e2,λhx=>by simp[e3 hx,xl]⟩
   |raw v=>
    simp only[mu]at h1
    split at h1
    ·simp at h1;subst h1
     exact⟨.v (.pointer none)::ds,by simp[encL,ao,bx,e1], .cons (D.le.refl _) e2,λhx=>by rw[e3 hx];rfl⟩
    ·simp at h1;subst h1
     exact⟨.v .nilFunc::ds,by simp[encL,ao,bx,e1], .cons (D.le.refl _) e2,λhx=>by rw[e3 hx];rfl⟩
    ·split at h1
     ·cases h1
     ·simp at h1;subst h1
      exact⟨.v (.slice none 0 0)::ds,by simp[encL,ao,bx,e1], .cons (D.le.nil _) e2,λhx=>by simp at hx⟩
    ·split at h1
     ·cases h1
     ·simp at h1;subst h1
      exact⟨.v .nilIface::ds,by simp[encL,ao,bx,e1], .cons D.le.ern e2,λhx=>by simp at hx⟩
    ·cases h1
   |_=>simp[mu]at h1
  ·cases h
theorem c_(ds:List D):fL (ds.map H.d)=some ds:=by
 induction ds with
 |nil=>rfl
 |cons x r ih=>simp[fL,ih]
theorem f5{ω:Nat->Nat}{ex:Bool}{ot:Option (Ty V.ι)}{cs:List (TV V.N)}:H.le (bA (encL V ω cs)) (ao V ω (mkV V ex ot cs))/\(ex=true->bA (encL V ω cs)=ao V ω (mkV V ex ot cs)):=by
 unfold mkV
 have dflt:H.le (bA (encL V ω cs)) (ao V ω (.agg cs))/\(ex=true->bA (encL V ω cs)=ao V ω (.agg cs)):=by
  rw[ao];exact⟨H.le.refl _,λ_=>rfl⟩
 split
 ·rename_i i
  split
  ·rename_i ls hls
   split
   ·rename_i x hx
    obtain⟨ds,e1,e2,e3⟩:=cf (ω:=ω) hls
    have hc:=V.of_cells i ls x hx
    have he:ao V ω (.lf (.st i) x)= .d (.agg (ls.map λl=>aL V.sz V.enc l.t l.x)):=by
     rw[jP,V.enc_cells,hc]
    rw[e1,bA,c_,he]
    exact⟨H.le.d (D.le.agg e2),λh=>by rw[e3 h]⟩
   ·exact dflt
  ·exact dflt
 ·exact dflt
theorem jU{ω:Nat->Nat}{ex ag:Bool}{sz:Nat}{ot:Option (Ty V.ι)}{cells:List (TV V.N)}{v:TV V.N}(h:yT V ex ag sz ot cells=some v):
 ∃x,eX ag sz (encL V ω cells)=some x/\H.le x (ao V ω v)/\(ex=true->x=ao V ω v):=by
 cases ag with
 |true=>
  simp only[yT]at h
  split at h
  ·rename_i hle
   simp at h;subst h
   refine⟨bA (encL V ω (cells.take sz)),?_,f5⟩
   simp only[eX,encL_map,On]
   rw[RS hle,Pq]
  ·cases h
 |false=>
  simp only[yT]at h
  cases cells with
  |nil=>simp at h
  |cons c r=>simp at h;subst h;exact⟨ao V ω c,by simp[eX,encL],H.le.refl _,λ_=>rfl⟩
theorem fp{ω:Nat->Nat}{ag:Bool}{sz:Nat}{ot:Option (Ty V.ι)}{t:Ty V.ι}{x:den V.N t}{off:Nat}{v:TV V.N}(h:tT V ag sz ot t x off=some v):
 ∃d,de ag sz ((aV V.sz V.enc t x).drop off)=some d/\ao V ω v= .d d:=by
 cases ag with
 |true=>
  simp only[tT]at h
  split at h
  ·rename_i hc
   obtain⟨h1,h2,h3,h4⟩:=hc
   simp at h;subst h
   subst h1;subst h4
   have hl:=bH t x
   refine⟨.agg (aV V.sz V.enc t x),?_,?_⟩
   ·simp only[de,OZ]
    rw[RS (by omega),O8 (by omega)]
   ·cases t<;>first|(simp[Ty.cell]at h3;done)|simp[ao,aL,aV]
  ·split at h
   ·split at h
    ·rename_i hle
     split at h
     ·rename_i y hy
      simp at h;subst h
      have hc:=V.of_cells _ _ _ hy
      refine⟨.agg (((aV V.sz V.enc t x).drop off).take sz),?_,?_⟩
      ·simp only[de]
       rw[RS (by rw[O5,bH];rw[fc]at hle;omega)]
      ·rw[jP,V.enc_cells,hc,bZ,Pq,Pr]
     ·cases h
    ·cases h
   ·cases h
 |false=>
  simp only[tT]at h
  split at h
  ·rename_i l hl
   simp at h;subst h
   refine⟨aL V.sz V.enc l.t l.x,?_,by simp[ao]⟩
   simp only[de,bZ]
   rw[<-Pr,List.head?_map,hl];rfl
  ·cases h
theorem tt(ω:Nat->Nat)(n:Nat)(l:List (TV V.N)):encL V ω (l.take n)=(encL V ω l).take n:=by simp[encL_map,Pq]
theorem hO(ω:Nat->Nat)(n:Nat)(l:List (TV V.N)):encL V ω (l.drop n)=(encL V ω l).drop n:=by simp[encL_map,Pr]
theorem fB(ω:Nat->Nat)(l m:List (TV V.N)):encL V ω (l++m)=encL V ω l++encL V ω m:=by simp[encL_map]
theorem aK(ω:Nat->Nat)(l:List (TV V.N)):(encL V ω l).length=l.length:=by simp[encL_map]
theorem gv{ω:Nat->Nat}{pl:List (Nat×Nat)}:∀{parts:List (Nat×TV V.N)} {cells cs:List (TV V.N)},vF V pl cells parts=some cs->
 mN pl (encL V ω cells) (parts.map λp=>(p.1,ao V ω p.2))=some (encL V ω cs)
 |[],cells,cs,h=>by simp[vF]at h;subst h;rfl
 |(i,x)::r,cells,cs,h=>by
  simp only[vF]at h
  split at h
  ·rename_i off sz cc h1 h2
   split at h
   ·rename_i hc
    have ih:=gv (ω:=ω) h
    simp only[Ow,mN,h1,ce (ω:=ω) h2,aK]
    rw[RS hc]
    simp only[d7,aK]
    rw[fB,fB,tt,hO]at ih
    exact ih
   ·cases h
  ·cases h
theorem D.Les.app{a b c d:List D}(h:D.Les a b)(k:D.Les c d):D.Les (a++c) (b++d):=by
 induction h with
 |nil=>exact k
 |cons h _ ih=>exact .cons h ih
theorem DT{α:Type}{m:Nat}{pad:α}{l:List α}(h:l.length=m):arL m pad l=l:=by
 unfold arL
 rw[PO (by omega),O8 (by omega)]
theorem tB{α:Type}{sz:Nat}:∀{l:List (List α)},(∀r∈l,r.length=sz)->l.flatten.length=l.length *sz
 |[],_=>by simp
 |r::l,h=>by
  rw[O4,OJ,h r Ox,tB λq hq=>h q (Ot _ hq),O_,OY,Nat.add_comm]
theorem uI{α β:Type}{f:List α->Option β}{sz:Nat}:∀{n:Nat} {cs:List α} {r:List β},uH f sz n cs=some r->r.length=n
 |0,cs,r,h=>by simp[uH]at h;subst h;rfl
 |n+1,cs,r,h=>by
  simp only[uH]at h
  split at h
  ·rename_i x r' h1 h2
   cases h
   simp[uI h2]
  ·cases h
theorem dC{ω:Nat->Nat}{ex:Bool}:∀{e:Ty V.ι} {cs:List (TV V.N)} {y:den V.N e} (_:cA V ex e cs=some y),
 ∃ds,encL V ω cs=ds.map H.d/\D.Les ds (aV V.sz V.enc e y)/\(ex=true->ds=aV V.sz V.enc e y):=by
 have single:∀(t:Ty V.ι) (y:den V.N t) (cs:List (TV V.N)),(∃x l,cs=[x]/\mu V ex t x=some l/\∃ht:l.t=t,ht▸l.x=y)->aN V t y=[⟨t,y⟩]->∃ds,encL V ω cs=ds.map H.d/\D.Les ds (aV V.sz V.enc t y)/\(ex=true->ds=aV V.sz V.enc t y):=by
  rintro t y cs ⟨x,⟨lt,lx⟩,rfl,hl,ht,rfl⟩ hrc
  simp only at ht
  subst ht
  rw[bZ,hrc]
  have hls:cx V ex [lt] [x]=some [⟨lt,lx⟩]:=by simp[cx,hl]
  exact cf (ω:=ω) hls
 intro e
 induction e with
 |fno=>
  intro cs y h
  refine single .fno y cs ?_ rfl
  match cs,h with
  |[],h=>simp[cA]at h
  |_::_::_,h=>simp[cA]at h
  |[x],h=>
   simp only[cA]at h
   split at h
   ·rename_i l hl
    split at h
    ·rename_i ht;simp only[Om]at h;exact⟨x,l,rfl,hl,ht,h⟩
    ·cases h
   ·cases h
 |ar n e ih=>
  intro cs y h
  simp only[cA]at h
  split at h
  ·rename_i hlen
   have go:∀(n:Nat) (cs:List (TV V.N)) (ys:List (den V.N e)),cs.length=n *tsz V.sz e->uH (cA V ex e) (tsz V.sz e) n cs=some ys->
    ∃ds,encL V ω cs=ds.map H.d/\D.Les ds (ys.map λx=>aV V.sz V.enc e x).flatten/\(ex=true->ds=(ys.map λx=>aV V.sz V.enc e x).flatten):=by
    intro n
    induction n with
    |zero=>
     intro cs ys hl h
     simp[uH]at h
     subst h
     rw[P6]at hl
     rw[OL hl]
     exact⟨[],rfl, .nil,λ_=>rfl⟩
    |succ n ihn=>
     intro cs ys hl h
     simp only[uH]at h
     split at h
     ·rename_i x r h1 h2
      cases h
      rw[OY]at hl
      obtain⟨d1,a1,a2,a3⟩:=ih h1
      obtain⟨d2,b1,b2,b3⟩:=ihn _ _ (by rw[O5];omega) h2
      refine⟨d1++d2,?_,by simpa using D.Les.app a2 b2,λhx=>by rw[a3 hx,b3 hx];rfl⟩
      rw[O6,<-a1,<-b1,<-fB,PH]
     ·cases h
   obtain⟨ds,a1,a2,a3⟩:=go n cs y hlen h
   have hl:(y.map λx=>aV V.sz V.enc e x).flatten.length=n *tsz V.sz e:=by
    rw[tB (sz:=tsz V.sz e) (λr hr=>by obtain⟨x,_,rfl⟩:=OT.1 hr;exact bH e x),On,uI h]
   have he:aV V.sz V.enc (.ar n e) y=(y.map λx=>aV V.sz V.enc e x).flatten:=DT hl
   exact⟨ds,a1,by rw[he];exact a2,λhx=>by rw[he];exact a3 hx⟩
  ·cases h
 |st i=>
  intro cs y h
  simp only[cA]at h
  split at h
  ·rename_i ls hls
   obtain⟨ds,e1,e2,e3⟩:=cf (ω:=ω) hls
   have hc:=V.of_cells i ls y h
   refine⟨ds,e1,?_,?_⟩<;>simp only[aV]<;>rw[V.enc_cells,hc]
   ·exact e2
   ·exact e3
  ·cases h
 |int k=>
  intro cs y h
  refine single (.int k) y cs ?_ rfl
  match cs,h with
  |[],h=>simp[cA]at h
  |_::_::_,h=>simp[cA]at h
  |[x],h=>
   simp only[cA]at h
   split at h
   ·rename_i l hl
    split at h
    ·rename_i ht;simp only[Om]at h;exact⟨x,l,rfl,hl,ht,h⟩
    ·cases h
   ·cases h
 |bool=>
  intro cs y h
  refine single .bool y cs ?_ rfl
  match cs,h with
  |[],h=>simp[cA]at h
  |_::_::_,h=>simp[cA]at h
  |[x],h=>
   simp only[cA]at h
   split at h
   ·rename_i l hl
    split at h
    ·rename_i ht;simp only[Om]at h;exact⟨x,l,rfl,hl,ht,h⟩
    ·cases h
   ·cases h
 |op e _=>
  intro cs y h
  refine single (.op e) y cs ?_ rfl
  match cs,h with
  |[],h=>simp[cA]at h
  |_::_::_,h=>simp[cA]at h
  |[x],h=>
   simp only[cA]at h
   split at h
   ·rename_i l hl
    split at h
    ·rename_i ht;simp only[Om]at h;exact⟨x,l,rfl,hl,ht,h⟩
    ·cases h
   ·cases h
 |er=>
  intro cs y h
  refine single .er y cs ?_ rfl
  match cs,h with
  |[],h=>simp[cA]at h
  |_::_::_,h=>simp[cA]at h
  |[x],h=>
   simp only[cA]at h
   split at h
   ·rename_i l hl
    split at h
    ·rename_i ht;simp only[Om]at h;exact⟨x,l,rfl,hl,ht,h⟩
    ·cases h
   ·cases h
 |fnc=>
  intro cs y h
  refine single .fnc y cs ?_ rfl
  match cs,h with
  |[],h=>simp[cA]at h
  |_::_::_,h=>simp[cA]at h
  |[x],h=>
   simp only[cA]at h
   split at h
   ·rename_i l hl
    split at h
    ·rename_i ht;simp only[Om]at h;exact⟨x,l,rfl,hl,ht,h⟩
    ·cases h
   ·cases h
 |str=>
  intro cs y h
  refine single .str y cs ?_ rfl
  match cs,h with
  |[],h=>simp[cA]at h
  |_::_::_,h=>simp[cA]at h
  |[x],h=>
   simp only[cA]at h
   split at h
   ·rename_i l hl
    split at h
    ·rename_i ht;simp only[Om]at h;exact⟨x,l,rfl,hl,ht,h⟩
    ·cases h
   ·cases h
 |sl e _=>
  intro cs y h
  refine single (.sl e) y cs ?_ rfl
  match cs,h with
  |[],h=>simp[cA]at h
  |_::_::_,h=>simp[cA]at h
  |[x],h=>
   simp only[cA]at h
   split at h
   ·rename_i l hl
    split at h
    ·rename_i ht;simp only[Om]at h;exact⟨x,l,rfl,hl,ht,h⟩
    ·cases h
   ·cases h
 |mp tk tv _ _=>
  intro cs y h
  refine single (.mp tk tv) y cs ?_ rfl
  match cs,h with
  |[],h=>simp[cA]at h
  |_::_::_,h=>simp[cA]at h
  |[x],h=>
   simp only[cA]at h
   split at h
   ·rename_i l hl
    split at h
    ·rename_i ht;simp only[Om]at h;exact⟨x,l,rfl,hl,ht,h⟩
    ·cases h
   ·cases h
end
end Go.Tx
end
section
namespace Go.Tx
open Go.Awp
variable [Inhabited GMem]
section
variable {V:jj}
def aj(P:Program)(call:aB V):Prop:=∀(A:Type) (fid:Nat) (args:List (TV V.N)) (S:TS V.N) (dst:Option Tmp) (k:TE V.N->Option A) (r:A),call A fid args S k=some r->
 ∃te,k te=some r/\n9 S te/\u_ P fid (encL V S.len args) (az V S).own? λe'=>ELe true e' (fP (S.app dst te).len te)
def OpS(ex:Bool)(P:Program)(nm:Nat->Nat){A:Type}(o:Oper)(S:TS V.N)(k:TE V.N->Option A)(r:A):Prop:=
 ∃te,k te=some r/\n9 S te/\aT P nm o (ev (az V S)) (az V S).own? λe'=>ELe ex e' (fP (S.app o.dst te).len te)
theorem eW(S:TS V.N)(v:TV V.N)(l:List Nat):n9 S {val:=v,acc:=l}:=λm o h=>by simp[gt]at h
theorem vd(S:TS V.N)(dst:Option Tmp)(v:TV V.N)(l:List Nat):(S.app dst {val:=v,acc:=l}).len=S.len:=by
 funext n;rw[bX];rfl
theorem A7{ex:Bool}{S:TS V.N}{dst:Option Tmp}{v:TV V.N}{x:H}{l:List Nat}(h:H.le x (ao V S.len v))(hx:ex=true->x=ao V S.len v):ELe ex {val:=x,acc:=l} (fP (S.app dst {val:=v,acc:=l}).len {val:=v,acc:=l}):=by
 rw[vd]
 exact{val:=h,new:=rfl,none:=λn _=>rfl,some:=λn o h=>by simp[fP,gt]at h,eq:=λh=>⟨hx h,rfl,rfl⟩}
theorem mq{ex:Bool}{S:TS V.N}{dst:Option Tmp}{v:TV V.N}{x:H}{l:List Nat}(h:x=ao V S.len v):ELe ex {val:=x,acc:=l} (fP (S.app dst {val:=v,acc:=l}).len {val:=v,acc:=l}):=A7 (h▸H.le.refl _) λ_=>h
theorem bq{ex:Bool}{ω:Nat->Nat}{te:TE V.N}{e':Eff}(hv:e'.val=ao V ω te.val)(hn:e'.new=te.new)(hu:e'.upd=te.upd.map λp=>(p.1,aZ V ω p.2))(ha:e'.acc=te.acc):ELe ex e' (fP ω te)where
 val:=by rw[hv];exact H.le.refl _
 new:=hn
 none:=λn h=>by rw[hu];exact h
 some:=λn o h=>⟨o,by rw[hu];exact h,OLe.refl o⟩
 eq:=λ_=>⟨hv,hu,ha⟩
theorem wU(ω:Nat->Nat)(x:Value):ao V ω (tvc x)=bx x:=by
 cases x<;>simp[tvc,ao,aL,bx]
theorem eR(S:TS V.N)(l:List Operand):l.map (ev (az V S))=encL V S.len (l.map (tev S)):=by
 rw[encL_map,OQ]
 exact OP λx _=>am S x
theorem BO(S:TS V.N)(l:List (Nat×Operand)):l.map (λp=>(p.1,ev (az V S) p.2))=(l.map λp=>(p.1,tev S p.2)).map λp=>(p.1,ao V S.len p.2):=by
 rw[OQ]
 exact OP λx _=>by simp[am]
theorem fQ{S:TS V.N}{lo:Option Operand}{d n:Int}(h:FZ V S lo d=some n):bnd (ev (az V S)) lo d=some n:=by
 cases lo with
 |none=>exact h
 |some x=>
  simp only[FZ]at h
  simp only[bnd,am]
  split at h
  ·rename_i hx;rw[hx];simpa[ao,aL]using h
  ·cases h
theorem cg{S:TS V.N}{n:Nat}{te:TypeId}{e:Ty V.ι}{xs:List (den V.N e)}(h:S.own? n=some (.vec te e xs)):
 (az V S).own? n=some (.vec te (tsz V.sz e) (xs.map λx=>aV V.sz V.enc e x)):=by rw[aH,h];rfl
theorem jJ(ω:Nat->Nat)(i:V.ι)(x:V.N i):encL V ω ((V.cells i x).map λl=>(.lf l.t l.x:TV V.N))=(V.enc i x).map .d:=by
 rw[V.enc_cells,encL_map,OQ,OQ]
 exact OP λl _=>by simp[ao]
theorem gL{S:TS V.N}{n:Nat}{cells:List (TV V.N)}(h:DW V (S.own? n)=some cells):(az V S).own? n=some (.box (Lo V (S.own? n)) (encL V S.len cells)):=by
 rw[aH]
 cases ho:S.own? n with
 |none=>rw[ho]at h;cases h
 |some o=>
  rw[ho]at h
  cases o with
  |box oty cs=>simp only[DW,Om]at h;subst h;rfl
  |bst i x=>simp only[DW,Om]at h;subst h;simp only[PX,aZ,jJ];rfl
  |vec te e xs=>cases h
  |dvec te e xs=>cases h
  |pvec te e xs=>cases h
  |map tk tv es=>cases h
  |iter s p=>cases h
  |miter m tk tv es rest cur=>cases h
  |que te e xs=>cases h
  |maps te k v es al=>cases h
  |bar n e xs=>cases h
  |alias m=>cases h
  |gone l=>cases h
theorem w5{S:TS V.N}{n:Nat}{cells:List (TV V.N)}(h:DW V (S.own? n)=some cells):S.len n=0:=by
 unfold TS.len
 cases ho:S.own? n with
 |none=>rfl
 |some o=>
  rw[ho]at h
  cases o<;>first|rfl|cases h
theorem Aq{ω:Nat->Nat}{v:TV V.N}{cs:List (TV V.N)}(h:TV.cells V v=some cs):aZ V ω (Ap V v cs)=some (.box none (encL V ω cs)):=by
 unfold Ap
 split
 ·rename_i i x
  simp only[TV.cells,aN,Om]at h
  subst h
  simp only[aZ,jJ]
 ·rfl
theorem uE{ω:Nat->Nat}{o:Option TypeId}{v:TV V.N}{cs:List (TV V.N)}(h:TV.cells V v=some cs):aZ V ω (EW V o v cs)=some (.box o (encL V ω cs)):=by
 cases o with
 |none=>exact Aq h
 |some t=>rfl
theorem Ar{v:TV V.N}{cs:List (TV V.N)}:TO.len (some (Ap V v cs))=0:=by
 unfold Ap
 split<;>rfl
theorem CM{o:Option TypeId}{v:TV V.N}{cs:List (TV V.N)}:TO.len (some (EW V o v cs))=0:=by
 cases o with
 |none=>exact Ar
 |some t=>rfl
theorem dh{S:TS V.N}{n:Nat}{te:TypeId}{e:Ty V.ι}{xs:List (den V.N e)}(h:S.own? n=some (.vec te e xs)):S.len n=xs.length:=by unfold TS.len;rw[h];rfl
theorem si{t:Ty V.ι}{x:den V.N t}:((aV V.sz V.enc t x).all D.one)=true:=by
 rw[bZ,PL,OD]
 exactλl hl=>by have:=nW (V:=V) (j8 t x l hl);simpa[H.one]using this
variable {P:Program} {nm:Nat->Nat} {call:aB V} {A:Type} {S:TS V.N} {k:TE V.N->Option A} {r:A} {o:Oper} {ex:Bool}
theorem aD{v:TV V.N}{l:List Nat}(hk:k {val:=v,acc:=l}=some r)(h:∀K:Eff->Prop,K {val:=ao V S.len v,acc:=l}->aT P nm o (ev (az V S)) (az V S).own? K):OpS ex P nm o S k r:=
 ⟨_,hk,eW S v l,h _ (mq rfl)⟩
theorem mD{v:TV V.N}{l:List Nat}(hk:k {val:=v,acc:=l}=some r)(h:∀K:Eff->Prop,(∀x,H.le x (ao V S.len v)->(ex=true->x=ao V S.len v)->K {val:=x,acc:=l})->aT P nm o (ev (az V S)) (az V S).own? K):OpS ex P nm o S k r:=
 ⟨_,hk,eW S v l,h _ λ_ hx hy=>A7 hx hy⟩
theorem FQ(S:TS V.N)(dst:Option Tmp)(d:Nat)(v:TV V.N)(b:TO V.N)(cs:List (TV V.N))(hf:∀n,TV.hasL n cs=true->n≠d):
 encL V (S.app dst {val:=v,upd:=[(d,b)],new:=[d]}).len cs=encL V S.len cs:=by
 refine encL_congr cs λn hn=> ?_
 rw[bX]
 simp only[af]
 rw[RR (λe=>hf n hn e.symm)]
 rfl
theorem Dh{S:TS V.N}{d:Nat}(h:S.fresh d=true)(x:Operand):TV.has d (tev S x)=false:=by
 cases x with
 |tmp t=>
  simp only[tev,TS.get]
  cases hg:gt S.tmps t with
  |none=>simp[TV.has]
  |some v=>exact fresh_tmp h hg
 |const v=>cases v<;>simp[tev,tvc,TV.has]
 |global g=>simp[tev,TV.has]
 |func f=>simp[tev,TV.has,TV.hasL]
theorem qu{d:Nat}{l:List (TV V.N)}(h:∀x∈l,TV.has d x=false):TV.hasL d l=false:=by
 induction l with
 |nil=>simp[TV.hasL]
 |cons y r ih=>rw[TV.hasL,h y Ox,ih λx hx=>h x (Ot _ hx)];rfl
theorem vy{d:Nat}{v:TV V.N}{cs:List (TV V.N)}(h:TV.cells V v=some cs)(hv:TV.has d v=false):TV.hasL d cs=false:=by
 cases v with
 |lf t x=>
  simp only[TV.cells,Om]at h
  subst h
  exact qu λy hy=>by
   obtain⟨l,_,rfl⟩:=OT.1 hy
   simp[TV.has]
 |raw v=>
  simp only[TV.cells]at h
  split at h
  ·simp at h;subst h;simp[TV.hasL,TV.has]
  ·cases h
 |agg cs'=>simp only[TV.cells,Om]at h;subst h;simpa[TV.has]using hv
 |tup vs=>simp[TV.cells]at h
 |junk=>simp[TV.cells]at h
 |rp t x off=>simp[TV.cells]at h;subst h;simp[TV.hasL,TV.has]
 |ai n s i off=>simp[TV.cells]at h;subst h;simpa[TV.hasL]using hv
 |bp n off=>simp[TV.cells]at h;subst h;simpa[TV.hasL]using hv
 |vh n=>simp[TV.cells]at h;subst h;simpa[TV.hasL]using hv
 |ep n s i off=>simp[TV.cells]at h;subst h;simpa[TV.hasL]using hv
 |sv n s i off=>simp[TV.cells]at h;subst h;simpa[TV.hasL]using hv
 |mp n=>simp[TV.cells]at h;subst h;simpa[TV.hasL]using hv
 |np n b=>simp[TV.cells]at h;subst h;simpa[TV.hasL]using hv
 |sd n=>simp[TV.cells]at h;subst h;simpa[TV.hasL]using hv
 |fn f a b=>simp[TV.cells]at h;subst h;simpa[TV.hasL]using hv
theorem CD{d:Nat}{b:TO V.N}{oty:Option TypeId}{cs:List (TV V.N)}(hb:∀ω,aZ V ω b=some (.box oty (encL V ω cs)))(hk:k {val:= .bp (nm d) 0,upd:=[(nm d,b)],new:=[nm d]}=some r)(hf:TV.hasL (nm d) cs=false)
 (h:∀K:Eff->Prop,K {val:= .bp (nm d) 0,acc:=[],upd:=[(nm d,some (.box oty (encL V S.len cs)))],new:=[nm d]}->aT P nm o (ev (az V S)) (az V S).own? K):OpS ex P nm o S k r:=by
 refine⟨_,hk,λm o hm=> ?_,h _ (bq (by simp[ao]) rfl ?_ rfl)⟩
 ·simp only[af]at hm
  split at hm
  ·rename_i e;left;simp[e]
  ·simp[gt]at hm
 ·simp only[Ow,O0,hb]
  rw[FQ S o.dst (nm d) (.bp (nm d) 0) b cs λn hn e=>by subst e;rw[hf]at hn;cases hn]
theorem se{n:Nat}{o':TO V.N}(hk:k {val:= .junk,acc:=[n],upd:=[(n,o')]}=some r)(hl:TO.len (some o')=S.len n)
 (h:∀K:Eff->Prop,K {val:= .junk,acc:=[n],upd:=[(n,aZ V S.len o')]}->aT P nm o (ev (az V S)) (az V S).own? K):OpS ex P nm o S k r:=by
 have hlen:(S.app o.dst {val:= .junk,acc:=[n],upd:=[(n,o')]}).len=S.len:=by
  funext m
  rw[bX]
  simp only[af]
  by_cases hm:n=m
  ·subst hm;simpa using hl
  ·rw[RR hm];simp[gt]
 refine⟨_,hk,λm o hm=> ?_,h _ (bq (by simp[ao]) rfl ?_ rfl)⟩
 ·simp only[af]at hm
  split at hm
  ·rename_i e;simp at hm;subst hm;subst e;exact .inr hl
  ·simp[gt]at hm
 ·simp only[Ow,O0]
  rw[hlen]
theorem oK{d:Nat}{te:TypeId}{e:Ty V.ι}{ys:List (den V.N e)}{old:List (Nat×Nat)}{l:List Nat}(hold:∀p∈old,S.len p.1=p.2)(hk:k {val:= .vh (nm d),acc:=l,upd:=(nm d, .vec te e ys)::old.map (λp=>(p.1, .gone p.2)),new:=[nm d]}=some r)
 (h:∀K:Eff->Prop,K {val:= .vh (nm d) ys.length,acc:=l,upd:=(nm d,some (.vec te (tsz V.sz e) (ys.map λx=>aV V.sz V.enc e x)))::old.map (λp=>(p.1,none)),new:=[nm d]}->aT P nm o (ev (az V S)) (az V S).own? K):OpS ex P nm o S k r:=by
 refine⟨_,hk,λm o hm=> ?_,h _ (bq ?_ rfl ?_ rfl)⟩
 ·simp only[af]at hm
  split at hm
  ·rename_i e;left;simp[e]
  ·right
   have:=bI hm
   obtain⟨p,hp,he⟩:=OT.1 this
   simp only[OV]at he
   obtain⟨rfl,rfl⟩:=he
   exact(hold p hp).symm
 ·simp only[ao]
  rw[bX]
  simp[af,TO.len]
 ·simp[aZ,OQ,Function.comp_def]
theorem iF{n:Nat}{tk tv:Ty V.ι}{es:List (den V.N tk×den V.N tv)}(h:S.own? n=some (.map tk tv es)):
 (az V S).own? n=some (.map (es.map λp=>(dQ V.enc tk p.1,aL V.sz V.enc tv p.2))):=by rw[aH,h];rfl
theorem rC{n:Nat}{tk tv:Ty V.ι}{es:List (den V.N tk×den V.N tv)}(h:S.own? n=some (.map tk tv es)):S.len n=0:=by unfold TS.len;rw[h];rfl
theorem xG{n:Nat}{s:ByteArray}{p:Int}(h:S.own? n=some (.iter s p)):(az V S).own? n=some (.iter s p.toNat):=by rw[aH,h];rfl
theorem Ek{n:Nat}{s:ByteArray}{p:Int}(h:S.own? n=some (.iter s p)):S.len n=0:=by unfold TS.len;rw[h];rfl
theorem uw{n m:Nat}{tk tv:Ty V.ι}{es rest:List (den V.N tk×den V.N tv)}{cur:Option (den V.N tk×den V.N tv)}(h:S.own? n=some (.miter m tk tv es rest cur)):
 (az V S).own? n=some (.miter m (es.map λp=>(dQ V.enc tk p.1,aL V.sz V.enc tv p.2)) (rest.map λp=>(dQ V.enc tk p.1,aL V.sz V.enc tv p.2)) (cur.map λp=>(dQ V.enc tk p.1,aL V.sz V.enc tv p.2))):=by rw[aH,h];rfl
theorem tQ{n m:Nat}{tk tv:Ty V.ι}{es rest:List (den V.N tk×den V.N tv)}{cur:Option (den V.N tk×den V.N tv)}(h:S.own? n=some (.miter m tk tv es rest cur)):S.len n=0:=by unfold TS.len;rw[h];rfl
theorem BE{tk:Ty V.ι}(hk:Hz tk=true)(x:den V.N tk):aL V.sz V.enc tk x= .v (dQ V.enc tk x):=by
 cases tk<;>first|rfl|cases hk
theorem wl{d:Nat}{s:ByteArray}(hk:k {val:= .bp (nm d) 0,upd:=[(nm d, .iter s 0)],new:=[nm d]}=some r)
 (h:∀K:Eff->Prop,K {val:= .bp (nm d) 0,acc:=[],upd:=[(nm d,some (.iter s 0))],new:=[nm d]}->aT P nm o (ev (az V S)) (az V S).own? K):OpS ex P nm o S k r:=by
 refine⟨_,hk,λm o hm=> ?_,h _ (bq (by simp[ao]) rfl (by simp[aZ]) rfl)⟩
 simp only[af]at hm
 split at hm
 ·rename_i e;left;simp[e]
 ·simp[gt]at hm
theorem EG{n l:Nat}{v:TV V.N}(hv:∀ω ω':Nat->Nat,ao V ω v=ao V ω' v)(hk:k {val:=v,acc:=[n],upd:=[(n, .gone l)]}=some r)(hl:S.len n=l)
 (h:∀K:Eff->Prop,K {val:=ao V S.len v,acc:=[n],upd:=[(n,none)]}->aT P nm o (ev (az V S)) (az V S).own? K):OpS ex P nm o S k r:=by
 refine⟨_,hk,λm o hm=> ?_,h _ (bq (hv _ _) rfl (by simp[aZ]) rfl)⟩
 simp only[af]at hm
 split at hm
 ·rename_i e;right;simp at hm;subst hm;subst e;simp[TO.len,hl]
 ·simp[gt]at hm
theorem tN(ik:IntKind):∀l:List Int,pO ik (l.map (row1 ik))=some l
 |[]=>rfl
 |n::r=>by simp[row1,pO,tN ik r]
theorem oi(ik:IntKind)(l:List (den V.N (.int ik))):pO ik (l.map λx=>aV V.sz V.enc (.int ik) x)=some l:=tN ik l
theorem oW(s:ByteArray):∀n i:Nat,(Bs.runesAt s n i).length<=n
 |0,_=>OO _
 |n+1,i=>by
  unfold Bs.runesAt
  split
  ·simp only[O_];have:=oW s n (i+(Utf8.decode s i).2);omega
  ·simp
theorem CQ(s:ByteArray):(Bs.runes s).length<=s.size:=oW s _ _
theorem zg{d:Nat}{tk tv:Ty V.ι}(hk:k {val:= .mp (nm d),upd:=[(nm d, .map tk tv [])],new:=[nm d]}=some r)
 (h:∀K:Eff->Prop,K {val:= .mp (nm d),acc:=[],upd:=[(nm d,some (.map []))],new:=[nm d]}->aT P nm o (ev (az V S)) (az V S).own? K):OpS ex P nm o S k r:=by
 refine⟨_,hk,λm o hm=> ?_,h _ (bq (by simp[ao]) rfl (by simp[aZ]) rfl)⟩
 simp only[af]at hm
 split at hm
 ·rename_i e;left;simp[e]
 ·simp[gt]at hm
theorem kL{tk:Ty V.ι}{kind:TypeDesc}(hk:eQ (some kind) tk=true)(x y:den V.N tk):Instr.sameNow kind (dQ V.enc tk x) (dQ V.enc tk y)=some (keq V.cells tk x y):=by
 cases kind<;>cases tk<;>simp_all [eQ,dQ,keq,Instr.sameNow,Mp.ieq,Mp.beq,Mp.seq]
theorem iV{tk:Ty V.ι}{kind:TypeDesc}(hk:eQ (some kind) tk=true):d6 kind=true:=by
 cases kind<;>cases tk<;>simp_all [eQ,d6]
theorem rA{tk:Ty V.ι}{kind:TypeDesc}(hk:eQ (some kind) tk=true)(x:den V.N tk):aL V.sz V.enc tk x= .v (dQ V.enc tk x):=by
 cases kind<;>cases tk<;>simp_all [eQ,dQ,aL]
theorem xi{tk tv:Ty V.ι}{kind:TypeDesc}(hk:eQ (some kind) tk=true)(x:den V.N tk):∀es:List (den V.N tk×den V.N tv),
 tw kind (dQ V.enc tk x) (es.map λp=>(dQ V.enc tk p.1,aL V.sz V.enc tv p.2))=some ((Mp.get (keq V.cells tk) x es).map (aL V.sz V.enc tv))
 |[]=>rfl
 |p::r=>by
  simp only[Ow,tw,kL hk,Mp.get]
  cases keq V.cells tk x p.1 with
  |true=>rfl
  |false=>exact xi hk x r
theorem CU{tk tv:Ty V.ι}{kind:TypeDesc}(hk:eQ (some kind) tk=true)(x:den V.N tk)(y:den V.N tv):∀es:List (den V.N tk×den V.N tv),
 Gy kind (dQ V.enc tk x) (aL V.sz V.enc tv y) (es.map λp=>(dQ V.enc tk p.1,aL V.sz V.enc tv p.2))=some ((Mp.put (keq V.cells tk) x y es).map λp=>(dQ V.enc tk p.1,aL V.sz V.enc tv p.2))
 |[]=>rfl
 |p::r=>by
  simp only[Ow,Gy,kL hk,Mp.put]
  cases keq V.cells tk x p.1 with
  |true=>rfl
  |false=>simp only[CU hk x y r];rfl
theorem me{tk tv:Ty V.ι}{kind:TypeDesc}(hk:eQ (some kind) tk=true)(x:den V.N tk)(es:List (den V.N tk×den V.N tv)):
 gQ kind (dQ V.enc tk x) (es.map λp=>(dQ V.enc tk p.1,aL V.sz V.enc tv p.2))=true:=by
 unfold gQ
 rw[PL,OD]
 intro p _
 simp only[Q8,kL hk,Option.isSome_some]
theorem pC:∀{ds:List D} {z:List Value},mM ds=some z->ds=z.map .v
 |[],z,h=>by simp[mM]at h;subst h;rfl
 | .v x::r,z,h=>by
  simp only[mM]at h
  split at h
  ·rename_i l hl
   simp at h;subst h
   rw[pC hl];rfl
  ·cases h
 | .agg _::_,_,h=>by simp[mM]at h
 | .sl _ _::_,_,h=>by simp[mM]at h
 | .rp _::_,_,h=>by simp[mM]at h
theorem aS{α β:Type}{x:Option α}{f:α->Option β}{r:β}(h:x>>=f=some r):∃y,x=some y/\f y=some r:=by
 cases x with
 |none=>cases h
 |some y=>exact⟨y,rfl,h⟩
theorem ah{c:Prop}[Decidable c]{β:Type}{x:Option β}{r:β}(h:(if c then x else none)=some r):c/\x=some r:=by
 split at h
 ·exact⟨‹_›,h⟩
 ·cases h
theorem nV{ω:Nat->Nat}{e:Ty V.ι}{x:TV V.N}{y:den V.N e}(h:D9 V ex e x=some y):
 ∃cs ds,TV.cells V x=some cs/\encL V ω cs=ds.map H.d/\D.Les ds (aV V.sz V.enc e y)/\(ex=true->ds=aV V.sz V.enc e y):=by
 unfold D9 at h
 split at h
 ·rename_i t z
  split at h
  ·rename_i ht
   subst ht
   simp only[Om]at h;subst h
   refine⟨_,aV V.sz V.enc t z,rfl,?_,D.Les.refl _,λ_=>rfl⟩
   rw[bZ,encL_map,OQ,OQ]
   exact OP λl _=>by simp[ao]
  ·cases h
 ·split at h
  ·rename_i cs hcs
   obtain⟨ds,e1,e2,e3⟩:=dC (ω:=ω) h
   exact⟨cs,ds,hcs,e1,e2,e3⟩
  ·cases h
theorem j9{ω:Nat->Nat}{e:Ty V.ι}:∀{i:Nat} {parts:List (Nat×TV V.N)} {ys:List (den V.N e)},zw V ex e i parts=some ys->
 ∃rows,oR (tsz V.sz e) i (parts.map λp=>(p.1,ao V ω p.2))=some rows/\rows.length=parts.length/\D.Rows rows (ys.map λx=>aV V.sz V.enc e x)/\(ex=true->rows=ys.map λx=>aV V.sz V.enc e x)
 |i,[],ys,h=>by simp[zw]at h;subst h;exact⟨[],rfl,rfl, .nil,λ_=>rfl⟩
 |i,(j,x)::r,ys,h=>by
  simp only[zw]at h
  obtain⟨hij,h⟩:=ah h
  split at h
  ·rename_i y ys' h1 h2
   simp at h;subst h
   obtain⟨cs,ds,hcs,e1,e2,e3⟩:=nV (ω:=ω) h1
   obtain⟨rows,f1,f2,f3,f4⟩:=j9 (ω:=ω) h2
   have hds:ds.length=tsz V.sz e:=by rw[e2.len,bH]
   refine⟨ds::rows,?_,by simp[f2], .cons e2 f3,λhx=>by simp[e3 hx,f4 hx]⟩
   simp only[Ow,oR,ce (ω:=ω) hcs,e1,c_,f1]
   rw[RS hij,RS hds]
  ·cases h
end
end Go.Tx
end
section
namespace Go.Tx
open Go.Awp
variable [Inhabited GMem]
section
variable {V:jj} {P:Program} {nm:Nat->Nat} {call:aB V} {A:Type} {S:TS V.N} {k:TE V.N->Option A} {r:A} {o:Oper} {ex:Bool}
theorem kT(l:List H):H.le (bA l) (.agg l):=λE M v h=>by
 unfold bA at h
 split at h
 ·rename_i ds hds
  obtain⟨cs,rfl,h1,h2⟩:=h.dagg
  obtain⟨g1,g2⟩:=eT hds
  refine .agg cs l (by omega) λi c x hc hx=> ?_
  rw[g2]at hx
  cases hd:ds[i]? with
  |none=>rw[hd]at hx;cases hx
  |some d=>rw[hd]at hx;simp at hx;subst hx;exact .d (h2 i c d hc hd)
 ·exact h
theorem rM(l:List H):H.le (.agg l) (bA l):=λE M v h=>by
 obtain⟨cs,rfl,h1,h2⟩:=h.hagg
 exact aP.mk_agg h1 h2
theorem FV{l l':List H}(hl:l.length=l'.length)(h:∀(i:Nat) (x:H),l'[i]?=some x->∃y,l[i]?=some y/\H.le y x):H.le (.agg l) (.agg l'):=λE M v hv=>by
 obtain⟨cs,rfl,h1,h2⟩:=hv.hagg
 refine .agg cs l' (by omega) λi c x hc hx=> ?_
 obtain⟨y,hy,hle⟩:=h i x hx
 exact hle E M c (h2 i c y hc hy)
theorem xW{l l':List H}(hl:l.length=l'.length)(h:∀(i:Nat) (x:H),l'[i]?=some x->∃y,l[i]?=some y/\H.le y x):H.le (.tup l) (.tup l'):=λE M v hv=>by
 obtain⟨cs,rfl,h1,h2⟩:=hv.htup
 refine .tup cs l' (by omega) λi c x hc hx=> ?_
 obtain⟨y,hy,hle⟩:=h i x hx
 exact hle E M c (h2 i c y hc hy)
theorem OLe.vec{te:TypeId}{sz:Nat}{a b:List (List D)}(h:D.Rows a b):OLe (.vec te sz a) (.vec te sz b):=by
 refine⟨?_,λ_ _ _ _ _ _ h=>h⟩
 rintro E M w n ⟨xs,h1,h2,h3,h4⟩
 refine⟨xs,by rw[<-h.len];exact h1,λr hr=> ?_,λi j r c x hr hx hc=> ?_,h4⟩
 ·obtain⟨i,hi,rfl⟩:=QB hr
  obtain⟨y,hy,hyr⟩:=h.get i _ (Ou hi)
  rw[<-hyr.len];exact h2 y (OA hy)
 ·obtain⟨y,hy,hyr⟩:=h.get i r hr
  obtain⟨z,hz,hzx⟩:=hyr.get j x hx
  exact hzx M c (h3 i j y c z hy hz hc)
theorem Dp{x:Operand}(ho:o.op= .move x\/o.op= .assign x)(h:tx V P nm call ex o S k=some r):OpS ex P nm o S k r:=by
 have hk:k {val:=tev S x}=some r:=by rcases ho with ho|ho<;>simpa only[tx,ho]using h
 refine aD hk λK hK=> ?_
 rcases ho with ho|ho<;>(simp only[aT,ho,am];exact hK)
theorem JC{c x y:Operand}(ho:o.op= .pick c x y)(h:tx V P nm call ex o S k=some r):OpS ex P nm o S k r:=by
 simp only[tx,ho]at h
 split at h
 ·rename_i b hb
  cases b with
  |true=>
   refine aD (by simpa using h) λK hK=> ?_
   simp only[aT,ho,am,hb,ao,aL];exact hK
  |false=>
   refine aD (by simpa using h) λK hK=> ?_
   simp only[aT,ho,am,hb,ao,aL];exact hK
 ·cases h
theorem jc{ω:Nat->Nat}{z:List Value}(hz:z.all ct=true):encL V ω (z.map tvc)=z.map λx=> .d (.v x):=by
 rw[encL_map,OQ]
 rw[OD]at hz
 refine OP λx hx=> ?_
 have:=hz x hx
 simp only[Q8,wU]
 cases x<;>first|(simp[ct]at this;done)|rfl
theorem Fv{t:TypeId}(ho:o.op= .alloc t)(h:tx V P nm call ex o S k=some r):OpS ex P nm o S k r:=by
 simp only[tx,ho]at h
 split at h
 ·rename_i z d hz hd
  obtain⟨hz1,h⟩:=ah h
  refine CD (d:=d) (λω=>rfl) h (qu λx hx=> ?_) λK hK=> ?_
  ·obtain⟨v,_,rfl⟩:=OT.1 hx
   cases v<;>simp[tvc,TV.has]
  ·simp only[aT,ho,hz,hd]
   rw[jc hz1]at hK;exact hK
 ·cases h
theorem KP{t:TypeId}{x:Operand}(ho:o.op= .box t x)(hf:∀te,k te=some r->∀d∈te.new,S.fresh d=true)(h:tx V P nm call ex o S k=some r):OpS ex P nm o S k r:=by
 simp only[tx,ho]at h
 split at h
 ·rename_i cs d hcs hd
  have hfr:=hf _ h (nm d) (by simp)
  refine CD (d:=d) (oty:=Ei V t cs) (λω=>uE hcs) h (vy hcs (Dh hfr x)) λK hK=> ?_
  simp only[aT,ho,am,ce (ω:=S.len) hcs,hd]
  refine⟨Ei V t cs,?_,hK⟩
  unfold Ei
  split
  ·exact .inr rfl
  ·exact .inl rfl
 ·cases h
theorem JA{t:TypeId}{x:Operand}(ho:o.op= .load t x)(h:tx V P nm call ex o S k=some r):OpS ex P nm o S k r:=by
 simp only[tx,ho]at h
 split at h
 ·rename_i ag sz ht
  split at h
  ·rename_i n off hx
   split at h
   ·rename_i v hw
    unfold xZ at hw
    split at hw
    ·rename_i i y hn
     have hw':=ah hw;clear hw
     obtain⟨⟨e1,e2,e3,hot⟩,hw⟩:=hw'
     subst e1;subst e2;subst e3
     simp only[Om]at hw;subst hw
     have hb:DW V (S.own? n)=some ((V.cells i y).map λl=> .lf l.t l.x):=by rw[hn];rfl
     refine aD h λK hK=> ?_
     simp only[aT,ho,ht,am,hx,gL hb,jJ,eX,OZ]
     rw[jP]at hK
     simp only[ao,gL hb,jJ,On,OZ]
     have hl:(V.enc i y).length=V.sz i:=by rw[V.enc_cells,On,V.len_cells]
     rw[RS (by omega),O8 (by rw[On];omega),bA,c_]
     exact hK
    ·rename_i m e xs hn
     have hw':=ah hw;clear hw
     obtain⟨⟨e1,e2,e3,hot⟩,hw⟩:=hw'
     subst e1;subst e2;subst e3
     simp only[Om]at hw;subst hw
     have ho1:(az V S).own? n=some (.box none ((aV V.sz V.enc (.ar m e) xs).map .d)):=by rw[aH,hn];rfl
     refine aD h λK hK=> ?_
     simp only[aT,ho,ht,am,hx,ao,ho1,eX,On,OZ]
     have hl:=bH (V:=V) (.ar m e) xs
     rw[RS (by omega),O8 (by rw[On];omega),bA,c_]
     exact hK
    ·cases hw
   ·split at h
    ·rename_i cells hc
     split at h
     ·rename_i v hv
      obtain⟨y,h1,h2,h3⟩:=jU (ω:=S.len) hv
      rw[hO]at h1
      refine mD h λK hK=> ?_
      simp only[aT,ho,ht,am,hx,ao,gL hc,h1]
      exact hK y h2 h3
     ·cases h
    ·cases h
  ·rename_i n s i off hx
   split at h
   ·rename_i te e xs hc
    obtain⟨hs,h⟩:=ah h
    obtain⟨y,hy,h⟩:=aS h
    split at h
    ·rename_i v hv
     obtain⟨d,h1,h2⟩:=fp (ω:=S.len) hv
     refine aD h λK hK=> ?_
     simp only[aT,ho,ht,am,hx,ao,cg hc,Oq,hy,OW,h1]
     refine⟨hs,?_⟩
     rw[<-h2];exact hK
    ·cases h
   ·cases h
  ·rename_i t' y off hx
   split at h
   ·rename_i v hv
    obtain⟨d,h1,h2⟩:=fp (ω:=S.len) hv
    refine aD h λK hK=> ?_
    simp only[aT,ho,ht,am,hx,ao,h1]
    rw[<-h2];exact hK
   ·cases h
  ·cases h
 ·cases h
theorem FE{t:TypeId}{x y:Operand}(ho:o.op= .store t x y)(h:tx V P nm call ex o S k=some r):OpS ex P nm o S k r:=by
 simp only[tx,ho]at h
 split at h
 ·rename_i ag sz ht
  split at h
  ·rename_i n off cs hx hy
   split at h
   ·rename_i cells hc
    have h':=ah h;clear h
    obtain⟨⟨h1,h2,h3⟩,h⟩:=h'
    split at h
    ·rename_i hwh
     obtain⟨e0,hsz⟩:=hwh
     subst e0
     refine se h (by rw[w5 hc];exact CM) λK hK=> ?_
     simp only[aT,ho,ht,am,hx,ao,gL hc,ce (ω:=S.len) hy,aK]
     refine⟨⟨h1,dR h2,h3⟩,?_⟩
     rw[uE hy]at hK
     simp only[d7,aK,QK,OM,OS]
     rw[Rt (by rw[aK];omega),Pj]
     exact hK
    ·refine se h (by rw[w5 hc];rfl) λK hK=> ?_
     simp only[aT,ho,ht,am,hx,ao,gL hc,ce (ω:=S.len) hy,aK]
     refine⟨⟨h1,dR h2,h3⟩,?_⟩
     simp only[aZ,fB,tt,hO]at hK
     simp only[d7,aK]
     exact hK
   ·cases h
  ·rename_i n s i off cs hx hy
   split at h
   ·rename_i te e xs hc
    obtain⟨⟨h0,h1,h2,h3⟩,h⟩:=ah h
    obtain⟨x',hx',h⟩:=aS h
    split at h
    ·rename_i y' hy'
     obtain⟨ds,e1,_,e3⟩:=dC (ω:=S.len) hy'
     have e3:=e3 rfl
     subst e3
     have hcs:∃es,fL (encL V S.len cs)=some es/\aV V.sz V.enc e y'=(aV V.sz V.enc e x').take off++es++(aV V.sz V.enc e x').drop (off+es.length)/\es.length=cs.length:=by
      have hm:∀l:List (cj V.N),encL V S.len (l.map λl=>TV.lf l.t l.x)=(l.map λl=>aL V.sz V.enc l.t l.x).map H.d:=by
       intro l
       rw[encL_map,OQ,OQ]
       exact OP λl _=>by simp[ao]
      rw[fB,fB,hm,hm,Pq,Pr,<-bZ]at e1
      have hall:∃es:List D,encL V S.len cs=es.map H.d:=by
       have:∀(a b c:List H) (l:List D),a++b++c=l.map H.d->∃es:List D,b=es.map H.d:=by
        intro a b c l hl
        refine⟨(l.drop a.length).take b.length,?_⟩
        rw[Pq,Pr,<-hl]
        simp
       exact this _ _ _ _ e1
      obtain⟨es,hes⟩:=hall
      have hlen:es.length=cs.length:=by have:=congrArg Qh hes;simpa[aK]using this.symm
      refine⟨es,by rw[hes,c_],?_,hlen⟩
      rw[hes,<-O6,<-O6]at e1
      have inj:∀(a b:List D),a.map H.d=b.map H.d->a=b:=λa b hab=>by
       have:=congrArg fL hab
       rw[c_,c_]at this
       simpa using this
      rw[hlen]
      exact(inj _ _ e1).symm
     obtain⟨es,he1,he2,he3⟩:=hcs
     refine se h (by rw[dh hc];simp[TO.len]) λK hK=> ?_
     simp only[aT,ho,ht,am,hx,ao,cg hc,ce (ω:=S.len) hy,aK,Oq,hx',OW,he1]
     refine⟨⟨h0,h1,dR h2,by rw[<-h0];exact h3⟩,?_⟩
     simp only[aZ,P1,he2]at hK
     exact hK
    ·cases h
   ·cases h
  ·cases h
 ·cases h
theorem wQ{x:Operand}(ho:o.op= .nilCheck x)(h:tx V P nm call ex o S k=some r):OpS ex P nm o S k r:=by
 simp only[tx,ho]at h
 split at h
 ·rename_i n off hx
  refine aD h λK hK=> ?_
  simp only[aT,ho,am,hx,ao]at hK⊢;exact hK
 ·rename_i n s i off hx
  refine aD h λK hK=> ?_
  simp only[aT,ho,am,hx,ao]at hK⊢;exact hK
 ·rename_i t x off hx
  refine aD h λK hK=> ?_
  simp only[aT,ho,am,hx,ao]at hK⊢;exact hK
 ·rename_i n b hx
  obtain⟨hb,h⟩:=ah h
  subst hb
  refine aD h λK hK=> ?_
  simp only[aT,ho,am,hx,ao]at hK⊢;exact hK
 ·cases h
theorem BA{y:Operand}(h:Bz y=true):y= .const .nilIface:=by
 unfold Bz at h
 split at h
 ·rfl
 ·cases h
theorem Fw{op:BinOp}{t t':TypeId}{x y:Operand}(ho:o.op= .binOp op t x y t')(h:tx V P nm call ex o S k=some r):OpS ex P nm o S k r:=by
 simp only[tx,ho]at h
 split at h
 ·rename_i kx a ky b hx hy
  split at h
  ·rename_i hs
   obtain⟨hb,h⟩:=ah h
   cases op<;>simp only[wB,reduceCtorEq,Om]at hs
   refine aD h λK hK=> ?_
   simp only[aT,ho,am,hx,hy,ao,aL,oh]at hK⊢;exact⟨hb,hK⟩
  ·rename_i hs
   obtain⟨hb,h⟩:=ah h
   cases op<;>simp only[wB,reduceCtorEq,Om]at hs
   refine aD h λK hK=> ?_
   simp only[aT,ho,am,hx,hy,ao,aL,oh]at hK⊢;exact⟨hb,hK⟩
  rename_i hs
  obtain⟨hk,h⟩:=ah h
  subst hk
  cases op<;>simp only[]at h<;>first
   |(cases h;done)
   |(obtain⟨hb,h⟩:b≠0/\_:=by
      split at h
      ·cases h
      ·exact⟨‹_›,h⟩
     refine aD h λK hK=> ?_
     simp only[aT,ho,am,hx,hy,ao,aL,oh]at hK⊢;exact⟨⟨trivial,hb⟩,hK⟩)
   |(refine aD h λK hK=> ?_
     simp only[aT,ho,am,hx,hy,ao,aL,oh]at hK⊢;exact⟨trivial,hK⟩)
 ·rename_i a b hx hy
  split at h
  ·rename_i hu
   refine aD h λK hK=> ?_
   simp only[aT,ho,am,hx,hy,ao,aL]at hK⊢;exact⟨hu,hK⟩
  ·rename_i hu
   refine aD h λK hK=> ?_
   simp only[aT,ho,am,hx,hy,ao,aL]at hK⊢;exact⟨hu,hK⟩
  ·cases h
 ·rename_i a b hx hy
  split at h
  ·refine aD h λK hK=> ?_
   simp only[aT,ho,am,hx,hy,ao,aL]at hK⊢;exact hK
  ·refine aD h λK hK=> ?_
   simp only[aT,ho,am,hx,hy,ao,aL]at hK⊢;exact hK
  ·obtain⟨hl,h⟩:=ah h
   refine aD h λK hK=> ?_
   simp only[aT,ho,am,hx,hy,ao,aL]at hK⊢;exact⟨by unfold most at hl;omega,hK⟩
  ·split at h
   ·rename_i hq
    cases op<;>simp only[Bs.scmp,Om,reduceCtorEq]at hq<;>(
     subst hq
     refine aD h λK hK=> ?_
     simp only[aT,ho,am,hx,hy,ao,aL,Bs.scmp]at hK⊢;exact hK)
   ·cases h
 ·rename_i a n c hx hy
  split at h
  ·rename_i hu
   refine aD h λK hK=> ?_
   simp only[aT,ho,am,hx,hy,ao,bx,aL]at hK⊢;exact⟨hu,hK⟩
  ·rename_i hu
   refine aD h λK hK=> ?_
   simp only[aT,ho,am,hx,hy,ao,bx,aL]at hK⊢;exact⟨hu,hK⟩
  ·cases h
 ·rename_i e y ys hx hy
  split at h
  ·rename_i hu
   refine aD h λK hK=> ?_
   simp only[aT,ho,am,hx,hy,ao,bx,aL,Ow]at hK⊢;exact⟨hu,hK⟩
  ·rename_i hu
   refine aD h λK hK=> ?_
   simp only[aT,ho,am,hx,hy,ao,bx,aL,Ow]at hK⊢;exact⟨hu,hK⟩
  ·cases h
 ·rename_i n b hx hy
  split at h
  ·rename_i hu
   refine aD h λK hK=> ?_
   simp only[aT,ho,am,hx,hy,ao,bx,aL]at hK⊢;exact⟨hu,hK⟩
  ·rename_i hu
   refine aD h λK hK=> ?_
   simp only[aT,ho,am,hx,hy,ao,bx,aL]at hK⊢;exact⟨hu,hK⟩
  ·cases h
 ·rename_i b hx hy
  obtain⟨⟨hu,hn⟩,h⟩:=ah h
  have hyc:=BA hn
  split at h
  ·refine aD h λK hK=> ?_
   simp only[aT,ho,am,hx,hy,ao,bx,aL]at hK⊢;exact⟨⟨hu,hyc⟩,hK⟩
  ·refine aD h λK hK=> ?_
   simp only[aT,ho,am,hx,hy,ao,bx,aL]at hK⊢;exact⟨⟨hu,hyc⟩,hK⟩
  ·cases h
 ·cases h
theorem JD{op:UnOp}{t:TypeId}{x:Operand}(ho:o.op= .unOp op t x)(h:tx V P nm call ex o S k=some r):OpS ex P nm o S k r:=by
 simp only[tx,ho]at h
 split at h
 ·rename_i b hx
  refine aD h λK hK=> ?_
  simp only[aT,ho,am,hx,ao,aL]at hK⊢;exact hK
 ·rename_i ki n hx
  refine aD h λK hK=> ?_
  simp only[aT,ho,am,hx,ao,aL]at hK⊢;exact hK
 ·cases h
theorem mT{t:TypeId}{x:Operand}(ho:o.op= .makeInterface t x)(h:tx V P nm call ex o S k=some r):OpS ex P nm o S k r:=by
 simp only[tx,ho]at h
 split at h
 ·rename_i hn
  refine aD h λK hK=> ?_
  simp only[aT,ho,ao,aL]at hK⊢
  exact⟨hn,hK⟩
 ·cases h
theorem zV{s t:TypeId}{x:Operand}(ho:o.op= .convert s t x)(h:tx V P nm call ex o S k=some r):OpS ex P nm o S k r:=by
 simp only[tx,ho]at h
 split at h
 ·rename_i d ki kk n h1 h2 hx
  refine aD h λK hK=> ?_
  simp only[aT,ho,h1,h2,am,hx,ao,aL]at hK⊢;exact hK
 ·rename_i d kk n h1 h2 hx
  refine aD h λK hK=> ?_
  simp only[aT,ho,h1,h2,am,hx,ao,aL]at hK⊢;exact hK
 ·rename_i e x h1 h2 hx
  split at h
  ·rename_i d hu hd
   obtain⟨hl,h⟩:=ah h
   refine oK (d:=d) (e:= .int .i32) (old:=[]) (λp hp=>by cases hp) h λK hK=> ?_
   simp only[aT,ho,h1,h2,am,hx,ao,aL,hu,hd]at hK⊢
   exact⟨by have:=CQ x;unfold most at hl;omega,hK⟩
  ·rename_i hu
   refine aD h λK hK=> ?_
   simp only[aT,ho,h1,h2,am,hx,ao,aL,aV,tsz,hu]at hK⊢
   exact hK
  ·cases h
 ·rename_i e ik xs h1 h2 hx
  split at h
  ·rename_i hu
   refine aD h λK hK=> ?_
   simp only[aT,ho,h1,h2,am,hx,ao,aL,hu]at hK⊢
   erw[oi]
   exact⟨rfl,hK⟩
  ·rename_i hu
   refine aD h λK hK=> ?_
   simp only[aT,ho,h1,h2,am,hx,ao,aL,hu]at hK⊢
   erw[oi]
   exact⟨rfl,hK⟩
  ·cases h
 ·rename_i e h1 h2 hx
  split at h
  ·rename_i hu
   refine aD h λK hK=> ?_
   simp only[aT,ho,h1,h2,am,hx,ao,aL,bx,hu]at hK⊢;exact hK
  ·rename_i hu
   refine aD h λK hK=> ?_
   simp only[aT,ho,h1,h2,am,hx,ao,aL,bx,hu]at hK⊢;exact hK
  ·cases h
 ·cases h
theorem FC{t:TypeId}{x:Operand}(ho:o.op= .range t x)(h:tx V P nm call ex o S k=some r):OpS ex P nm o S k r:=by
 simp only[tx,ho]at h
 split at h
 ·rename_i s d ht hx hd
  refine wl h λK hK=> ?_
  simp only[aT,ho,ht,hd,am,hx,ao,aL]
  exact hK
 ·rename_i kt et m d ht hx hd
  split at h
  ·rename_i tk tv es hown
   refine⟨_,h,λm' o hm=> ?_,?_⟩
   ·simp only[af]at hm
    split at hm
    ·rename_i e;left;simp[e]
    ·split at hm
     ·rename_i e;right;simp at hm;subst hm;subst e;simp[TO.len,rC hown]
     ·simp[gt]at hm
   ·simp only[aT,ho,ht,hd,am,hx,ao,iF hown]
    exact bq (by simp[ao]) rfl (by simp[aZ]) rfl
  ·cases h
 ·cases h
theorem Fz{x:Operand}(ho:o.op= .entry x)(h:tx V P nm call ex o S k=some r):OpS ex P nm o S k r:=by
 simp only[tx,ho]at h
 split at h
 ·rename_i n hx
  split at h
  ·rename_i m tk tv es rest p hown
   obtain⟨hk,h⟩:=ah h
   refine aD h λK hK=> ?_
   simp only[aT,ho,am,hx,ao,encL,uw hown,OW]at hK⊢
   rw[BE hk]at hK
   exact⟨trivial,hK⟩
  ·cases h
 ·cases h
theorem JB{x:Operand}{b:Bool}(ho:o.op= .next x b)(h:tx V P nm call ex o S k=some r):OpS ex P nm o S k r:=by
 cases b with
 |false=>simp only[tx,ho]at h;cases h
 |true=>
 simp only[tx,ho]at h
 split at h
 ·rename_i n hx
  split at h
  ·rename_i s p hown
   obtain⟨h0,h⟩:=ah h
   split at h
   ·rename_i hlt
    have hl:(PQ p.toNat s.size)=true:=by rw[P8];omega
    refine⟨_,h,λm o hm=> ?_,?_⟩
    ·simp only[af]at hm
     split at hm
     ·rename_i e;right;simp at hm;subst hm;subst e;simp[TO.len,Ek hown]
     ·simp[gt]at hm
    ·have hp:((p.toNat:Nat):Int)=p:=by omega
     have hw:(p+Bs.wid s p).toNat=p.toNat+(Utf8.decode s p.toNat).2:=by unfold Bs.wid;omega
     simp only[aT,ho,am,hx,ao,xG hown,hl]
     refine⟨trivial,bq (by simp only[ao,encL,aL,Bs.dec,hp]) rfl (by simp[aZ,hw]) rfl⟩
   ·rename_i hlt
    have hl:(PQ p.toNat s.size)=false:=by rw[Ra];intro h;rw[P8]at h;omega
    refine aD h λK hK=> ?_
    simp only[aT,ho,am,hx,ao,encL,aL,xG hown,hl]at hK⊢
    exact⟨trivial,hK⟩
  ·cases h
 ·cases h
theorem Fy{t:TypeId}{parts:Array (Nat×Operand)}(ho:o.op= .build t parts)(h:tx V P nm call ex o S k=some r):OpS ex P nm o S k r:=by
 simp only[tx,ho]at h
 split at h
 ·rename_i z pl hz hp
  obtain⟨hz1,h⟩:=ah h
  split at h
  ·rename_i cs hcs
   have hf:=gv (ω:=S.len) hcs
   rw[jc hz1]at hf
   split at h
   ·refine mD h λK hK=> ?_
    simp only[aT,ho,hz,hp,BO,hf]
    exact hK _ (by rw[ao];exact H.le.refl _) (λ_=>by rw[ao])
   ·refine mD h λK hK=> ?_
    simp only[aT,ho,hz,hp,BO,hf]
    exact hK _ f5.1 f5.2
  ·cases h
 ·cases h
theorem vY(S:TS V.N)(l:List (Nat×Operand)):(l.map λp=>(p.1,fnD (Go.Awp.ev (az V S) p.2)))=(l.map λp=>(p.1,fnT (tev S p.2))).map λp=>(p.1,ao V S.len p.2):=by
 rw[OQ]
 exact OP λp _=>by simp only[Q8,am,rq]
theorem sH{t:TypeId}{len:Nat}{parts:Array (Nat×Operand)}(ho:o.op= .buildSlice t len parts)(h:tx V P nm call ex o S k=some r):OpS ex P nm o S k r:=by
 simp only[tx,ho]at h
 split at h
 ·rename_i te sz by_ e ht hty
  obtain⟨hsz,h⟩:=ah h
  subst hsz
  split at h
  ·rename_i ys hys
   obtain⟨rows,f1,f2,f3,f4⟩:=j9 (ω:=S.len) hys
   simp only[On]at f2
   obtain⟨⟨hl,hs⟩,h⟩:=ah h
   have hl':rows.length=len/\len *tsz V.sz e<=16777216:=⟨by omega,hs⟩
   cases hd:o.dst with
   |none=>
    simp only[hd]at h
    refine mD h λK hK=> ?_
    simp only[aT,ho,ht,vY,f1,hd]
    refine⟨hl',hK _ ?_ λhx=> ?_⟩
    ·simp only[ao,aL]
     exact H.le.d (D.le.sl f3)
    ·simp only[ao,aL]
     rw[f4 hx]
   |some d=>
    simp only[hd]at h
    by_cases hn:nm d=d
    ·rw[RS hn]at h
     refine mD h λK hK=> ?_
     simp only[aT,ho,ht,vY,f1,hd]
     refine⟨hl',?_⟩
     rw[RS hn]
     refine hK _ ?_ λhx=> ?_
     ·simp only[ao,aL]
      exact H.le.d (D.le.sl f3)
     ·simp only[ao,aL]
      rw[f4 hx]
    ·rw[RR hn]at h
     refine⟨_,h,λm o hm=> ?_,?_⟩
     ·simp only[af]at hm
      split at hm
      ·rename_i e;left;simp[e]
      ·simp[gt]at hm
     ·simp only[aT,ho,ht,vY,f1,hd]
      refine⟨hl',?_⟩
      rw[RR hn]
      refine{val:= ?_,new:=rfl,none:=λn hg=> ?_,some:=λn o' hg=> ?_,eq:=λhx=> ?_}
      ·simp only[fP,ao]
       rw[bX]
       simp only[af,RO,TO.len]
       rw[f3.len,On]
       exact H.le.refl _
      ·simp only[fP,Ow,O0,af]at hg⊢
       split at hg
       ·simp at hg
       ·rename_i hne;rw[RR hne];rfl
      ·simp only[fP,Ow,O0,af]at hg⊢
       split at hg
       ·rename_i hne
        simp only[aZ,Om]at hg
        subst hg
        exact⟨_,by rw[RS hne],OLe.vec f3⟩
       ·simp[gt]at hg
      ·simp only[fP,ao,Ow,O0,aZ]
       rw[bX]
       simp only[af,RO,TO.len]
       rw[f4 hx,On]
       first|exact⟨rfl,rfl,rfl⟩|exact⟨rfl,trivial⟩|simp
  ·cases h
 ·cases h
theorem CS{l c:Operand}(h:qT l c=true):l=c:=by
 cases l<;>cases c<;>simp_all [qT]
theorem uJ{e:Ty V.ι}{y:den V.N e}{ds:List D}(h1:D.Les ds (aV V.sz V.enc e y)):∀N:Nat,D.Rows (Pc N ds) ((Pc N y).map λx=>aV V.sz V.enc e x)
 |0=> .nil
 |N+1=> .cons h1 (uJ h1 N)
theorem uZ{d:Nat}{te:TypeId}{e:Ty V.ι}{y:den V.N e}{ds:List D}{N:Nat}(_:o.dst=some d)(h1:D.Les ds (aV V.sz V.enc e y))(h2:ex=true->ds=aV V.sz V.enc e y)
 (h:k {val:= .vh (nm d),upd:=[(nm d, .vec te e (Pc N y))],new:=[nm d]}=some r)
 (hv:∀K:Eff->Prop,K {val:= .vh (nm d) N,acc:=[],upd:=[(nm d,some (.vec te (tsz V.sz e) (Pc N ds)))],new:=[nm d]}->aT P nm o (ev (az V S)) (az V S).own? K):OpS ex P nm o S k r:=by
 refine⟨_,h,λm o hm=> ?_,hv _ ?_⟩
 ·simp only[af]at hm
  split at hm
  ·rename_i e;left;simp[e]
  ·simp[gt]at hm
 ·have f3:=uJ h1 N
  refine{val:= ?_,new:=rfl,none:=λn hg=> ?_,some:=λn o' hg=> ?_,eq:=λhx=> ?_}
  ·simp only[fP,ao]
   rw[bX]
   simp only[af,RO,TO.len,P5]
   exact H.le.refl _
  ·simp only[fP,Ow,O0,af]at hg⊢
   split at hg
   ·simp[aZ]at hg
   ·rename_i hne;rw[RR hne];rfl
  ·simp only[fP,Ow,O0,af]at hg⊢
   split at hg
   ·rename_i hne
    simp only[aZ,Om]at hg
    subst hg
    exact⟨_,by rw[RS hne],OLe.vec f3⟩
   ·simp[gt]at hg
  ·simp only[fP,ao,Ow,O0,aZ]
   rw[bX]
   simp only[af,RO,TO.len,P5,Qp,h2 hx]
   first|exact⟨rfl,rfl,rfl⟩|exact⟨rfl,trivial⟩|simp
theorem kS:∀{ds:List D} {z:List Value},(z.map λx=>H.d (.v x))=ds.map H.d->ds=z.map .v
 |[],[],_=>rfl
 |[],_::_,h=>by simp at h
 |_::_,[],h=>by simp at h
 |d::ds,x::z,h=>by
  simp only[Ow,PF,H.d.injEq]at h
  rw[<-h.1,kS h.2];rfl
theorem uY{t:TypeId}{l c:Operand}(ho:o.op= .makeSlice t l c)(h:tx V P nm call ex o S k=some r):OpS ex P nm o S k r:=by
 simp only[tx,ho]at h
 split at h
 ·rename_i te sz by_ e d ht hty hd
  split at h
  ·rename_i z kl n kc m hz hl hc
   split at h
   ·rename_i y hy
    have h':=ah h;clear h
    obtain⟨⟨hsz,hby,hzc⟩,h⟩:=h'
    subst hsz
    obtain⟨ds,e1,e2,e3⟩:=dC (ω:=S.len) hy
    rw[jc hzc]at e1
    have hds:=kS e1
    subst hds
    split at h
    ·rename_i hs
     have hs:=CS hs
     subst hs
     obtain⟨h0,h⟩:=ah h
     obtain⟨h1,h⟩:=ah h
     have hnm:n=m:=by rw[hl]at hc;cases hc;rfl
     subst hnm
     refine uZ hd e2 e3 h λK hK=> ?_
     simp only[aT,ho,ht,hd,hz,am,hl,hc,ao,aL]
     exact⟨⟨.inl trivial,h0,h0,h1,hby⟩,hK⟩
    ·have h':=ah h;clear h
     obtain⟨h2,h⟩:=h'
     subst h2
     have h':=ah h;clear h
     obtain⟨h0,h⟩:=h'
     have h':=ah h;clear h
     obtain⟨h1,h⟩:=h'
     refine uZ (N:=0) (y:=y) hd e2 e3 h λK hK=> ?_
     simp only[aT,ho,ht,hd,hz,am,hl,hc,ao,aL]
     exact⟨⟨.inr trivial,Int.le_refl _,h0,h1,hby⟩,hK⟩
   ·cases h
  ·cases h
 ·cases h
theorem oJ{t:Ty V.ι}{d:D}{z:den V.N t}(h:ofZ V ex t d=some z):D.le d (aL V.sz V.enc t z)/\(ex=true->d=aL V.sz V.enc t z):=by
 unfold ofZ at h
 split at h
 ·obtain⟨hk,h⟩:=ah h
  subst hk
  have h:=‹some _=some z›
  simp only[Om]at h;subst h
  exact⟨D.le.refl _,λ_=>rfl⟩
 ·cases h;exact⟨D.le.refl _,λ_=>rfl⟩
 ·cases h;exact⟨D.le.refl _,λ_=>rfl⟩
 ·split at h
  ·cases h
  ·cases h;exact⟨by simp only[aL,O0];exact D.le.nil _,λh=>by cases h⟩
 ·split at h
  ·rename_i z' hz
   obtain⟨hc,h⟩:=ah h
   obtain⟨ds',e1,e2,e3⟩:=dC (ω:=λ_=>0) h
   rw[jc hc]at e1
   have:=kS e1
   subst this
   rw[pC hz]
   exact⟨D.le.agg e2,λhx=>by rw[e3 hx];rfl⟩
  ·cases h
 ·cases h
theorem zX{t:TypeId}{hint:Option Operand}(ho:o.op= .makeMap t hint)(h:tx V P nm call ex o S k=some r):OpS ex P nm o S k r:=by
 simp only[tx,ho]at h
 split at h
 ·rename_i kt et d ht hd
  split at h
  ·obtain⟨hh,h⟩:=ah h
   refine zg h λK hK=> ?_
   have hx:od (ev (az V S)) hint=true:=by
    cases hint with
    |none=>rfl
    |some x=>
     simp only[Kd]at hh
     simp only[od,am]
     split at hh
     ·rename_i hx;rw[hx];simp[ao,aL]
     ·cases hh
   simp only[aT,ho,ht,hd]
   exact⟨hx,hK⟩
  ·cases h
 ·cases h
theorem Do{t:TypeId}{x i:Operand}{c:Bool}(ho:o.op= .lookup t x i c)(h:tx V P nm call ex o S k=some r):OpS ex P nm o S k r:=by
 simp only[tx,ho]at h
 split at h
 ·rename_i kt et n tk key ht hx hi
  split at h
  ·rename_i tk' tv es d hown hz
   split at h
   ·rename_i z hzz
    obtain⟨z1,z2⟩:=oJ hzz
    split at h
    ·rename_i htk
     subst htk
     obtain⟨hk,h⟩:=ah h
     cases hkt:P.underlying kt with
     |none=>rw[hkt]at hk;simp[eQ]at hk
     |some kind=>
      rw[hkt]at hk
      have hf:=xi (tv:=tv) hk key es
      have hle:H.le (.d (((Mp.get (keq V.cells tk) key es).map (aL V.sz V.enc tv)).getD d)) (ao V S.len (.lf tv ((Mp.get (keq V.cells tk) key es).getD z)))/\
       (ex=true->H.d (((Mp.get (keq V.cells tk) key es).map (aL V.sz V.enc tv)).getD d)=ao V S.len (.lf tv ((Mp.get (keq V.cells tk) key es).getD z))):=by
       cases Mp.get (keq V.cells tk) key es with
       |none=>simp only[QE,Option.getD_none,ao];exact⟨H.le.d z1,λhx=>by rw[z2 hx]⟩
       |some y=>simp only[OW,Pw,ao];exact⟨H.le.refl _,λ_=>trivial⟩
      cases c with
      |true=>
       refine mD h λK hK=> ?_
       simp only[aT,ho,ht,hkt,hz,am,hx,hi,ao,rA hk,iF hown,hf]
       refine⟨⟨iV hk,me hk key es⟩,hK _ ?_ λhx=> ?_⟩
       ·simp only[ao,encL]
        refine xW rfl λi x hx=> ?_
        match i with
        |0=>simp at hx;subst hx;exact⟨_,rfl,by simpa only[ao]using hle.1⟩
        |1=>
         simp at hx;subst hx
         refine⟨_,rfl,?_⟩
         simp only[aL,Q9]
         exact H.le.refl _
        |i+2=>simp at hx
       ·simp only[ao,encL]
        have:=hle.2 hx
        simp only[ao]at this
        rw[this]
        simp only[aL,Q9]
      |false=>
       refine mD h λK hK=> ?_
       simp only[aT,ho,ht,hkt,hz,am,hx,hi,ao,rA hk,iF hown,hf]
       exact⟨⟨iV hk,me hk key es⟩,hK _ hle.1 hle.2⟩
    ·cases h
   ·cases h
  ·cases h
 ·cases h
theorem GE{t:TypeId}{x i y:Operand}(hop:∀(ρ:Operand->H) (ω:Nat->Option Own) (K:Eff->Prop),FI P ρ ω t x i y K->aT P nm o ρ ω K)(h:Lf V P t x i y S k=some r):OpS ex P nm o S k r:=by
 simp only[Lf]at h
 split at h
 ·rename_i kt et n tk key tv z ht hx hi hy
  split at h
  ·rename_i tk' tv' es hown
   split at h
   ·rename_i htk
    subst htk
    split at h
    ·rename_i htv
     subst htv
     obtain⟨hk,h⟩:=ah h
     cases hkt:P.underlying kt with
     |none=>rw[hkt]at hk;simp[eQ]at hk
     |some kind=>
      rw[hkt]at hk
      refine se h (by rw[rC hown];rfl) λK hK=>hop _ _ _ ?_
      simp only[FI,ht,hkt,am,hx,hi,hy,ao,rA hk,iF hown,CU hk]
      exact⟨⟨iV hk,me hk key es⟩,_,(Mp.set_perm _ _ _ _ _).map _,hK⟩
    ·cases h
   ·cases h
  ·cases h
 ·cases h
theorem uW{s:TypeId}{x:Operand}{f:Nat}(ho:o.op= .fieldAddr s x f)(h:tx V P nm call ex o S k=some r):OpS ex P nm o S k r:=by
 simp only[tx,ho]at h
 split at h
 ·rename_i fo hfo
  split at h
  ·rename_i n off hx
   refine aD h λK hK=> ?_
   simp only[aT,ho,hfo,am,hx,ao]at hK⊢;exact hK
  ·rename_i n sz i off hx
   refine aD h λK hK=> ?_
   simp only[aT,ho,hfo,am,hx,ao]at hK⊢;exact hK
  ·rename_i t x off hx
   obtain⟨hl,h⟩:=ah h
   refine aD h λK hK=> ?_
   simp only[aT,ho,hfo,am,hx,ao,PJ]at hK⊢
   refine⟨?_,hK⟩
   rw[fc]at hl
   rw[O5,bH];omega
  ·cases h
 ·cases h
theorem FA{s:TypeId}{x:Operand}{f:Nat}(ho:o.op= .field s x f)(h:tx V P nm call ex o S k=some r):OpS ex P nm o S k r:=by
 simp only[tx,ho]at h
 split at h
 ·rename_i off ag sz t y hft hx
  obtain⟨hc,h⟩:=ah h
  split at h
  ·rename_i v hv
   obtain⟨d,h1,h2⟩:=fp (ω:=S.len) hv
   have he:ao V S.len (.lf t y)= .d (.agg (aV V.sz V.enc t y)):=by
    cases t<;>first|(simp[Ty.cell]at hc;done)|simp[ao,aL,aV]
   refine aD h λK hK=> ?_
   simp only[aT,ho,hft,am,hx,he,h1]
   rw[<-h2];exact hK
  ·cases h
 ·rename_i off ag sz cs hft hx
  split at h
  ·rename_i v hv
   obtain⟨y,h1,h2,h3⟩:=jU (ω:=S.len) hv
   rw[hO]at h1
   refine mD h λK hK=> ?_
   simp only[aT,ho,hft,am,hx,ao,bA]
   cases ha:fL (encL V S.len cs)with
   |none=>simp only[h1];exact hK y h2 h3
   |some ds=>
    have hds:encL V S.len cs=ds.map H.d:=by
     obtain⟨g1,g2⟩:=eT ha
     apply Pf
     intro i;rw[g2,Oq]
    rw[hds,<-Pr]at h1
    have:∃d,de ag sz (ds.drop off)=some d/\y= .d d:=by
     cases ag with
     |false=>
      simp only[eX,de]at h1⊢
      cases hdr:ds.drop off with
      |nil=>rw[hdr]at h1;cases h1
      |cons c rr=>rw[hdr]at h1;simp at h1;exact⟨c,rfl,h1.symm⟩
     |true=>
      simp only[eX,de,On]at h1⊢
      split at h1
      ·rename_i hle
       rw[RS hle]
       rw[<-Pq,bA,c_]at h1
       simp at h1
       exact⟨_,rfl,h1.symm⟩
      ·cases h1
    obtain⟨d,hd1,rfl⟩:=this
    simp only[hd1]
    exact hK _ h2 h3
  ·cases h
 ·cases h
theorem uX{t:TypeId}{x i:Operand}(ho:o.op= .indexAddr t x i)(h:tx V P nm call ex o S k=some r):OpS ex P nm o S k r:=by
 simp only[tx,ho]at h
 split at h
 ·rename_i te sz by_ ht
  split at h
  ·rename_i e xs kk n hx hi
   obtain⟨hsz,h⟩:=ah h
   obtain⟨hn,h⟩:=ah h
   obtain⟨y,hy,h⟩:=aS h
   refine aD h λK hK=> ?_
   simp only[aT,ho,ht,am,hx,hi,ao,aL,Oq,hy,OW,OZ]at hK⊢
   exact⟨⟨hsz,hn⟩,hK⟩
  ·rename_i m kk n hx hi
   split at h
   ·rename_i te2 e xs hc
    obtain⟨⟨h1,h2⟩,h⟩:=ah h
    refine aD h λK hK=> ?_
    simp only[aT,ho,ht,am,hx,hi,ao,aL,cg hc,dh hc]at hK⊢
    exact⟨⟨h1,by exact_mod_cast h2⟩,hK⟩
   ·cases h
  ·cases h
 ·cases h
theorem FB{t:TypeId}{x i:Operand}(ho:o.op= .index t x i)(h:tx V P nm call ex o S k=some r):OpS ex P nm o S k r:=by
 simp only[tx,ho]at h
 split at h
 ·rename_i s kk n ht hx hi
  obtain⟨hn,h⟩:=ah h
  obtain⟨b,hb,h⟩:=aS h
  refine aD h λK hK=> ?_
  simp only[aT,ho,ht,am,hx,hi,ao,aL,hb]at hK⊢
  exact⟨hn,hK⟩
 ·cases h
theorem FD{t:TypeId}{x:Operand}{lo hi mx:Option Operand}(ho:o.op= .slice t x lo hi mx)(h:tx V P nm call ex o S k=some r):OpS ex P nm o S k r:=by
 cases mx with
 |some m=>simp only[tx,ho]at h;cases h
 |none=>
 simp only[tx,ho]at h
 split at h
 ·rename_i s ht hx
  split at h
  ·rename_i l hh hl hh'
   obtain⟨hc,h⟩:=ah h
   refine aD h λK hK=> ?_
   simp only[aT,ho,ht,am,hx,ao,aL,fQ hl,fQ hh']at hK⊢
   exact⟨hc,hK⟩
  ·cases h
 ·rename_i te e xs ht hx
  split at h
  ·rename_i te2 sz' by_ l hh hel hl hh'
   obtain⟨hsz,h⟩:=ah h
   obtain⟨hc,h⟩:=ah h
   refine aD h λK hK=> ?_
   simp only[aT,ho,ht,am,hx,ao,aL,fQ hl,fQ hh',hel,On,Pr,Pq]at hK⊢
   exact⟨⟨hsz,hc⟩,hK⟩
  ·cases h
 ·cases h
theorem zW{x:Operand}{i:Nat}(ho:o.op= .extract x i)(h:tx V P nm call ex o S k=some r):OpS ex P nm o S k r:=by
 simp only[tx,ho]at h
 split at h
 ·rename_i vs hx
  split at h
  ·rename_i v hv
   refine aD h λK hK=> ?_
   simp only[aT,ho,am,hx,ao,encL_map,Oq,hv,OW]at hK⊢
   exact hK
  ·cases h
 ·cases h
theorem wP{fn:Fn}{first captured:Array Operand}(ho:o.op= .makeFunc fn first captured)(h:tx V P nm call ex o S k=some r):OpS ex P nm o S k r:=by
 cases fn with
 |func f=>
  simp only[tx,ho]at h
  refine aD h λK hK=> ?_
  simp only[aT,ho,ao,eR]at hK⊢;exact hK
 |_=>simp only[tx,ho]at h;cases h
theorem Jz{c:Call}{f:Operand}(hcall:aj P call)(ho:o.op= .call c)(hc:c.callee= .value f)(h:tx V P nm call ex o S k=some r):OpS ex P nm o S k r:=by
 simp only[tx,ho,hc]at h
 split at h
 ·rename_i fid first captured hf
  obtain⟨te,h1,h2,h3⟩:=hcall A fid _ S o.dst k r h
  refine⟨te,h1,h2,?_⟩
  simp only[aT,ho,hc,am,hf,ao,eR]
  rw[fB,fB]at h3
  obtain⟨own,rr,own',q1,q2,q3⟩:=h3
  exact⟨own,rr,own',q1,q2,{q3 with eq:=λ_=>q3.eq rfl}⟩
 ·rename_i fid hf
  obtain⟨te,h1,h2,h3⟩:=hcall A fid _ S o.dst k r h
  refine⟨te,h1,h2,?_⟩
  simp only[aT,ho,hc,am,hf,ao,aL,eR]
  obtain⟨own,rr,own',q1,q2,q3⟩:=h3
  exact⟨own,rr,own',q1,q2,{q3 with eq:=λ_=>q3.eq rfl}⟩
 ·rename_i x hf
  cases x with
  |none=>cases h
  |some fid=>
   obtain⟨te,h1,h2,h3⟩:=hcall A fid _ S o.dst k r h
   refine⟨te,h1,h2,?_⟩
   simp only[aT,ho,hc,am,hf,ao,aL,JH,eR]
   obtain⟨own,rr,own',q1,q2,q3⟩:=h3
   exact⟨own,rr,own',q1,q2,{q3 with eq:=λ_=>q3.eq rfl}⟩
 ·cases h
theorem zU{c:Call}{b:Builtin}(ho:o.op= .call c)(hc:c.callee= .builtin b)(h:tx V P nm call ex o S k=some r):OpS ex P nm o S k r:=by
 simp only[tx,ho,hc,xS]at h
 split at h
 ·rename_i e xs harg
  obtain⟨hk,h⟩:=ah h
  refine aD h λK hK=> ?_
  simp only[aT,ho,hc,eR,harg,encL,ao,aL,On]at hK⊢;exact⟨hk,hK⟩
 ·rename_i n harg
  obtain⟨hk,h⟩:=ah h
  refine aD h λK hK=> ?_
  simp only[aT,ho,hc,eR,harg,encL,ao,aL]at hK⊢;exact⟨hk,hK⟩
 ·rename_i n harg
  split at h
  ·rename_i tk tv es hown
   obtain⟨hk,h⟩:=ah h
   refine aD h λK hK=> ?_
   simp only[aT,ho,hc,eR,harg,encL,ao,aL,iF hown,On]at hK⊢;exact⟨hk,hK⟩
  ·cases h
 ·rename_i s harg
  obtain⟨hk,h⟩:=ah h
  refine aD h λK hK=> ?_
  simp only[aT,ho,hc,eR,harg,encL,ao,aL]at hK⊢;exact⟨hk,hK⟩
 ·rename_i kx a ky b harg
  refine aD h λK hK=> ?_
  simp only[aT,ho,hc,eR,harg,encL,ao,aL]at hK⊢;exact hK
 ·rename_i kx a ky b harg
  refine aD h λK hK=> ?_
  simp only[aT,ho,hc,eR,harg,encL,ao,aL]at hK⊢;exact hK
 ·rename_i x e' news harg
  split at h
  ·rename_i d t t' hd htys
   split at h
   ·rename_i te sz bytes hel
    have hone:∀l:List (den V.N e'),((l.map λx=>aV V.sz V.enc e' x).all λr=>r.all D.one)=true:=by
     intro l
     rw[PL,OD]
     exactλx _=>si
    have hby:∀n:Nat,bytes<=32768->n<=most->n *bytes<=140737488355328:=by
     intro n h1 h2
     have:n *bytes<=most *32768:=QP h2 h1
     unfold most at this
     omega
    split at h
    ·rename_i n
     split at h
     ·rename_i te2 e xs hc'
      split at h
      ·rename_i hee
       subst hee
       obtain⟨⟨h1,h2,h3,h4,h5⟩,h⟩:=ah h
       obtain⟨h6,h⟩:=ah h
       refine oK (d:=d) (old:=[(n,xs.length)]) (λp hp=>by simp at hp;subst hp;exact dh hc') h λK hK=> ?_
       simp only[aT,ho,hc,eR,harg,encL,ao,aL,hd,htys,hel,cg hc',On,dh hc']at hK⊢
       refine⟨⟨h1,h2,h3,h3,trivial,hone news,hby _ h4 h6,by unfold most at h6;omega⟩,?_⟩
       have:=hK
       simp only[O6,OJ]at this
       exact h3▸this
      ·cases h
     ·cases h
    ·obtain⟨⟨h1,h2,h3⟩,h⟩:=ah h
     obtain⟨h4,h⟩:=ah h
     refine oK (d:=d) (old:=[]) (λp hp=>by cases hp) h λK hK=> ?_
     simp only[aT,ho,hc,eR,harg,encL,ao,aL,bx,hd,htys,hel,On]at hK⊢
     refine⟨⟨h1,h2,hone news,hby _ h3 h4,by unfold most at h4;omega⟩,?_⟩
     exact h2▸hK
    ·cases h
   ·cases h
  ·cases h
 ·rename_i x s harg
  split at h
  ·rename_i d t t' hd htys
   split at h
   ·rename_i te sz bytes hel
    obtain⟨⟨g1,g2,g3,g4⟩,h⟩:=ah h
    have hs:P.underlying t'=some .string:=by
     unfold Kg at g1
     split at g1
     ·assumption
     ·cases g1
    have hz:mh P te=some (.v (.int .u8 0)):=by
     unfold GH at g4
     split at g4
     ·rename_i n hn;have:n=0:=by simpa using g4
      rw[this]at hn;exact hn
     ·cases g4
    split at h
    ·rename_i n _
     split at h
     ·rename_i te2 xs hc'
      obtain⟨⟨h1,h2⟩,h⟩:=ah h
      obtain⟨h6,h⟩:=ah h
      refine oK (d:=d) (e:= .int .u8) (old:=[(n,xs.length)]) (λp hp=>by simp at hp;subst hp;exact dh hc') h λK hK=> ?_
      simp only[aT,ho,hc,eR,harg,encL,ao,aL,hd,htys,hel,cg hc',On,dh hc']at hK⊢
      refine⟨⟨hs,hz,h1,g2,rfl,g3,trivial,by unfold most at h6;omega⟩,?_⟩
      have:=hK
      simp only[O6,OJ]at this
      exact this
     ·cases h
    ·obtain⟨h4,h⟩:=ah h
     refine oK (d:=d) (e:= .int .u8) (old:=[]) (λp hp=>by cases hp) h λK hK=> ?_
     simp only[aT,ho,hc,eR,harg,encL,ao,aL,bx,hd,htys,hel,On]at hK⊢
     exact⟨⟨hs,hz,g2,g3,by unfold most at h4;omega⟩,hK⟩
    ·cases h
   ·cases h
  ·cases h
 ·rename_i n harg
  split at h
  ·rename_i te e xs hown
   obtain⟨hk,h⟩:=ah h
   refine aD h λK hK=> ?_
   simp only[aT,ho,hc,eR,harg,encL,ao,aL,cg hown]at hK⊢
   exact⟨hk,hK⟩
  ·cases h
 ·rename_i n ki l harg
  split at h
  ·rename_i te xs pt it hown htys
   obtain⟨⟨h1,h2,h3⟩,h⟩:=ah h
   obtain⟨⟨h4,h5⟩,h⟩:=ah h
   have hp:P.underlying pt=some (.pointer te):=by
    unfold BB at h1
    split at h1
    ·rename_i e' he;rw[O2 h1]at he;exact he
    ·cases h1
   refine EG (λ_ _=>by simp[ao]) h (dh hown) λK hK=> ?_
   simp only[aT,ho,hc,eR,harg,encL,ao,aL,cg hown,htys,On]at hK⊢
   erw[oi]
   exact⟨⟨hp,h2,rfl,h3,h4,by unfold most at h5;subst h4;show(xs.length:Int)<=1000000000000;omega⟩,hK⟩
  ·cases h
 ·cases h
theorem xY(hcall:aj P call)(hf:∀te,k te=some r->∀d∈te.new,S.fresh d=true)(h:tx V P nm call ex o S k=some r):OpS ex P nm o S k r:=by
 cases ho:o.op with
 |move x=>exact Dp (.inl ho) h
 |assign x=>exact Dp (.inr ho) h
 |pick c x y=>exact JC ho h
 |alloc t=>exact Fv ho h
 |box t x=>exact KP ho hf h
 |load t x=>exact JA ho h
 |store t x y=>exact FE ho h
 |nilCheck x=>exact wQ ho h
 |binOp op t x y t'=>exact Fw ho h
 |unOp op t x=>exact JD ho h
 |convert s t x=>exact zV ho h
 |build t ps=>exact Fy ho h
 |buildSlice t n ps=>exact sH ho h
 |fieldAddr s x f=>exact uW ho h
 |field s x f=>exact FA ho h
 |indexAddr t x i=>exact uX ho h
 |index t x i=>exact FB ho h
 |slice t x lo hi mx=>exact FD ho h
 |extract x i=>exact zW ho h
 |makeFunc fn a b=>exact wP ho h
 |makeInterface t x=>exact mT ho h
 |makeSlice t l c=>exact uY ho h
 |makeMap t c=>exact zX ho h
 |range t x=>exact FC ho h
 |next x b=>exact JB ho h
 |entry x=>exact Fz ho h
 |lookup t x i c=>exact Do ho h
 |mapUpdate t x i y=>exact GE (λρ ω K hh=>by simpa only[aT,ho]using hh) (by simpa only[tx,ho]using h)
 |insert t x i y=>exact GE (λρ ω K hh=>by simpa only[aT,ho]using hh) (by simpa only[tx,ho]using h)
 |call c=>
  cases hc:c.callee with
  |value f=>exact Jz hcall ho hc h
  |builtin b=>exact zU ho hc h
  |invoke x m=>simp only[tx,ho,hc]at h;cases h
 |_=>simp only[tx,ho]at h;cases h
end
end Go.Tx
end
section
namespace Go.Tx
open Go.Awp
variable [Inhabited GMem]
inductive Pt (ι:Type)where
 |dat (t:Ty ι)
 |bp (c off:Nat)
 |vh (c:Nat)
 |mp (c:Nat)
 |np (c:Nat)
 /-- the nil of an interface -/
 |nif
 |fn (f:Nat) (a b:List Nat)
 /-- a struct, some of its cells owned slices -/
 |ag (cs:List (Ty ι⊕Nat))
 /-- a cut of an owned slice -/
 |sv (c sz:Nat)
inductive OPt (ι:Type)where
 |box (o:Option TypeId) (cells:List (Pt ι))
 |st (i:ι)
 |vec (te:TypeId) (e:Ty ι)
 /-- a slice whose elements own what they hold: all of them are there, or some are out -/
 |dvec (te:TypeId) (e:Ty ι) (out:Bool)
 |map (k v:Ty ι)
 |iter
 |miter (m:Nat) (k v:Ty ι)
 |que (te:TypeId) (e:Ty ι)
 |maps (te:TypeId) (k v:Ty ι)
 |bar (n:Nat) (e:Ty ι)
structure Cut (ι:Type)where
 slots:List (Nat×Pt ι)
 objs:List (Nat×OPt ι)
section
variable {ι:Type}
def GQ:List (Ty ι⊕Nat)->List (Ty ι)
 |[]=>[]
 | .inl t::r=>t::GQ r
 | .inr _::r=>GQ r
def Pt.tys:Pt ι->List (Ty ι)
 | .dat t=>[t]
 | .ag cs=>GQ cs
 | .np _=>[.bool]
 | .sv _ _=>[.int .i64, .int .i64]
 |_=>[]
def CI:List (Pt ι)->List (Ty ι)
 |[]=>[]
 |p::r=>p.tys++CI r
def C2:List (Nat×Pt ι)->List (Ty ι)
 |[]=>[]
 |p::r=>p.2.tys++C2 r
def OPt.tys:OPt ι->List (Ty ι)
 | .box _ cells=>CI cells
 | .st i=>[.st i]
 | .vec _ e=>[.sl e]
 | .dvec _ e out=>match out with
  |true=>[.sl (.op e)]
  |false=>[.sl e]
 | .map k v=>[.mp k v]
 | .iter=>[.str, .int .i64]
 | .miter _ k v=>[.mp k v, .mp k v]
 | .que _ e=>[.sl e]
 | .maps _ k v=>[.sl (.op (.mp k v))]
 | .bar n e=>[.ar n e]
def Cs:List (Nat×OPt ι)->List (Ty ι)
 |[]=>[]
 |p::r=>p.2.tys++Cs r
def Cut.tys(c:Cut ι):List (Ty ι):=C2 c.slots++Cs c.objs
def JT{α:Type}:List (Option α)->Option (List α)
 |[]=>some []
 |x::r=>match x with
  |none=>none
  |some y=>match JT r with
   |some l=>some (y::l)
   |none=>none
theorem Aj{α:Type}:∀{l:List (Option α)} {r:List α},JT l=some r->l=r.map some
 |[],r,h=>by simp[JT]at h;subst h;rfl
 |x::l,r,h=>by
  simp only[JT]at h
  split at h
  ·cases h
  ·split at h
   ·rename_i l' hl
    cases h
    rw[Aj hl];rfl
   ·cases h
@[reducible] def HL (N:ι->Type):List (Ty ι)->Type
 |[]=>Unit
 |t::r=>den N t×HL N r
def Kv{N:ι->Type}:(ts:List (Ty ι))->HL N ts->List (cj N)
 |[],_=>[]
 |t::r,v=>⟨t,v.1⟩::Kv r v.2
def GD[DecidableEq ι]{N:ι->Type}:(ts:List (Ty ι))->List (cj N)->Option (HL N ts)
 |[],[]=>some ()
 |t::r,l::ls=>if h:l.t=t then match GD r ls with
  |some v=>some (h▸l.x,v)
  |none=>none
  else none
 |_,_=>none
theorem sG[DecidableEq ι]{N:ι->Type}:∀{ts:List (Ty ι)} {ls:List (cj N)} {v:HL N ts},GD ts ls=some v->Kv ts v=ls
 |[],[],v,_=>rfl
 |[],_::_,v,h=>by simp[GD]at h
 |_::_,[],v,h=>by simp[GD]at h
 |t::r,l::ls,v,h=>by
  simp only[GD]at h
  split at h
  ·rename_i ht
   split at h
   ·rename_i w hw
    obtain⟨lt,lx⟩:=l
    simp only at ht
    subst ht
    simp at h;subst h
    simp[Kv,sG hw]
   ·cases h
  ·cases h
abbrev cu:=List (Nat×Nat)
def nr(σ:cu)(c n:Nat):Option cu:=match gt σ c with
 |some m=>if m=n then some σ else none
 |none=>if σ.any (λp=>Ph p.2 n)=true then none else some ((c,n)::σ)
def sP{N:ι->Type}(σ:cu):List Nat->List (TV N)->Option cu
 |[],[]=>some σ
 |c::r, .bp n 0::s=>match nr σ c n with
  |some σ'=>sP σ' r s
  |none=>none
 |_,_=>none
end
section
variable (V:jj)
def mtC(σ:cu):List (Ty V.ι⊕Nat)->List (TV V.N)->Option (cu×List (cj V.N))
 |[],[]=>some (σ,[])
 | .inl t::r,x::s=>match mu V false t x with
  |some l=>match mtC σ r s with
   |some (σ',ls)=>some (σ',l::ls)
   |none=>none
  |none=>none
 | .inr c::r, .vh n::s=>match nr σ c n with
  |some σ'=>mtC σ' r s
  |none=>none
 |_,_=>none
def mt1(σ:cu):Pt V.ι->TV V.N->Option (cu×List (cj V.N))
 | .dat t, .lf t' x=>if t'=t then some (σ,[⟨t',x⟩])else none
 | .dat (.sl e), .raw (.slice none 0 0)=>some (σ,[⟨.sl e,[]⟩])
 | .dat .er, .raw .nilIface=>some (σ,[⟨.er,false⟩])
 | .dat (.st i), .agg cs=>match mkV V false (some (.st i)) cs with
  | .lf t x=>some (σ,[⟨t,x⟩])
  |_=>none
 | .bp c off, .bp n off'=>if off=off' then(nr σ c n).map λσ'=>(σ',[])else none
 | .vh c, .vh n=>(nr σ c n).map λσ'=>(σ',[])
 | .mp c, .mp n=>(nr σ c n).map λσ'=>(σ',[])
 | .np c, .np n b=>(nr σ c n).map λσ'=>(σ',[⟨.bool,b⟩])
 | .np c, .bp n 0=>(nr σ c n).map λσ'=>(σ',[⟨.bool,true⟩])
 | .np _, .raw (.pointer none)=>some (σ,[⟨.bool,false⟩])
 | .nif, .raw .nilIface=>some (σ,[])
 | .dat (.op e), .raw (.pointer none)=>some (σ,[⟨.op e,none⟩])
 | .sv c z, .sv n s i off=>if s=z then(nr σ c n).map λσ'=>(σ',[⟨.int .i64,(i:Int)⟩,⟨.int .i64,(off:Int)⟩])else none
 | .fn f a b, .fn f' a' b'=>if f=f' then match sP σ a a' with
   |some σ'=>(sP σ' b b').map λσ''=>(σ'',[])
   |none=>none
  else none
 | .ag cs, .agg vs=>mtC V σ cs vs
 |_,_=>none
def mtL(σ:cu):List (Pt V.ι)->List (TV V.N)->Option (cu×List (cj V.N))
 |[],[]=>some (σ,[])
 |p::r,x::s=>match mt1 V σ p x with
  |some (σ',l)=>match mtL σ' r s with
   |some (σ'',l')=>some (σ'',l++l')
   |none=>none
  |none=>none
 |_,_=>none
def mtO(S:TS V.N)(σ:cu):List (Nat×OPt V.ι)->Option (cu×List (cj V.N))
 |[]=>some (σ,[])
 |(c,p)::r=>match gt σ c with
  |some n=>match p,S.own? n with
   | .box o ps,some (.box o' cells)=>if o=none\/o=o' then match mtL V σ ps cells with
    |some (σ',l)=>match mtO S σ' r with
     |some (σ'',l')=>some (σ'',l++l')
     |none=>none
    |none=>none
    else none
   | .st i,some (.box _ cells)=>match mkV V false (some (.st i)) cells with
    | .lf (.st j) x=>match mtO S σ r with
     |some (σ'',l')=>some (σ'',⟨.st j,x⟩::l')
     |none=>none
    |_=>none
   | .st i,some (.bst j x)=>if i=j then match mtO S σ r with
     |some (σ'',l')=>some (σ'',⟨.st j,x⟩::l')
     |none=>none
    else none
   | .box none ps,some (.bst j x)=>match mtL V σ ps ((V.cells j x).map λl=> .lf l.t l.x)with
    |some (σ',l)=>match mtO S σ' r with
     |some (σ'',l')=>some (σ'',l++l')
     |none=>none
    |none=>none
   | .vec te e,some (.vec te' e' xs)=>if te=te'/\e=e' then match mtO S σ r with
     |some (σ'',l')=>some (σ'',⟨.sl e',xs⟩::l')
     |none=>none
    else none
   | .dvec te e true,some (.pvec te' e' xs)=>if te=te'/\e=e' then match mtO S σ r with
     |some (σ'',l')=>some (σ'',⟨.sl (.op e'),xs⟩::l')
     |none=>none
    else none
   | .dvec te e true,some (.dvec te' e' xs)=>if te=te'/\e=e' then match mtO S σ r with
     |some (σ'',l')=>some (σ'',⟨.sl (.op e'),xs.map some⟩::l')
     |none=>none
    else none
   | .dvec te e false,some (.dvec te' e' xs)=>if te=te'/\e=e' then match mtO S σ r with
     |some (σ'',l')=>some (σ'',⟨.sl e',xs⟩::l')
     |none=>none
    else none
   | .iter,some (.iter s p)=>match mtO S σ r with
     |some (σ'',l')=>some (σ'',⟨.str,s⟩::⟨.int .i64,p⟩::l')
     |none=>none
   | .miter cm tk tv,some (.miter m tk' tv' es rest _)=>if tk=tk'/\tv=tv' then match nr σ cm m with
     |some σ'=>match mtO S σ' r with
      |some (σ'',l')=>some (σ'',⟨.mp tk' tv',es⟩::⟨.mp tk' tv',rest⟩::l')
      |none=>none
     |none=>none
    else none
   | .map tk tv,some (.map tk' tv' es)=>if tk=tk'/\tv=tv' then match mtO S σ r with
     |some (σ'',l')=>some (σ'',⟨.mp tk' tv',es⟩::l')
     |none=>none
    else none
   | .que te e,some (.que te' e' xs)=>if te=te'/\e=e' then match mtO S σ r with
     |some (σ'',l')=>some (σ'',⟨.sl e',xs⟩::l')
     |none=>none
    else none
   | .maps te tk tv,some (.maps te' tk' tv' es _)=>if te=te'/\tk=tk'/\tv=tv' then match mtO S σ r with
     |some (σ'',l')=>some (σ'',⟨.sl (.op (.mp tk' tv')),es⟩::l')
     |none=>none
    else none
   | .bar m e,some (.bar m' e' xs)=>if m=m'/\e=e' then match mtO S σ r with
     |some (σ'',l')=>some (σ'',⟨.ar m' e',xs⟩::l')
     |none=>none
    else none
   |_,_=>none
  |none=>none
def bdC:List (Ty V.ι⊕Nat)->List (cj V.N)->Option (List (TV V.N)×List (cj V.N))
 |[],ls=>some ([],ls)
 | .inl _::r,l::ls=>match bdC r ls with
  |some (vs,ls')=>some (.lf l.t l.x::vs,ls')
  |none=>none
 | .inl _::_,[]=>none
 | .inr c::r,ls=>match bdC r ls with
  |some (vs,ls')=>some (.vh c::vs,ls')
  |none=>none
def bd1:(p:Pt V.ι)->List (cj V.N)->Option (TV V.N×List (cj V.N))
 | .dat _,l::ls=>some (.lf l.t l.x,ls)
 | .dat _,[]=>none
 | .bp c off,ls=>some (.bp c off,ls)
 | .vh c,ls=>some (.vh c,ls)
 | .mp c,ls=>some (.mp c,ls)
 | .np c,⟨.bool,b⟩::ls=>some (.np c b,ls)
 | .np _,_=>none
 | .nif,ls=>some (.raw .nilIface,ls)
 | .sv c z,⟨.int .i64,i⟩::⟨.int .i64,off⟩::ls=>some (.sv c z i.toNat off.toNat,ls)
 | .sv _ _,_=>none
 | .fn f a b,ls=>some (.fn f (a.map λc=> .bp c 0) (b.map λc=> .bp c 0),ls)
 | .ag cs,ls=>match bdC V cs ls with
  |some (vs,ls')=>some (.agg vs,ls')
  |none=>none
def bdL:List (Pt V.ι)->List (cj V.N)->Option (List (TV V.N)×List (cj V.N))
 |[],ls=>some ([],ls)
 |p::r,ls=>match bd1 V p ls with
  |some (x,ls')=>match bdL r ls' with
   |some (xs,ls'')=>some (x::xs,ls'')
   |none=>none
  |none=>none
def bdO:List (Nat×OPt V.ι)->List (cj V.N)->Option (List (Nat×TO V.N))
 |[],[]=>some []
 |[],_::_=>none
 |(c, .box o ps)::r,ls=>match bdL V ps ls with
  |some (xs,ls')=>match bdO r ls' with
   |some os=>some ((c, .box o xs)::os)
   |none=>none
  |none=>none
 |(c, .st i)::r,⟨.st j,x⟩::ls=>if j=i then match bdO r ls with
    |some os=>some ((c, .bst j x)::os)
    |none=>none
  else none
 |(c, .vec te e)::r,⟨.sl e',xs⟩::ls=>if e'=e then match bdO r ls with
    |some os=>some ((c, .vec te e' xs)::os)
    |none=>none
  else none
 |(c, .dvec te e true)::r,⟨.sl (.op e'),xs⟩::ls=>if e'=e then match bdO r ls with
    |some os=>some ((c, .pvec te e' xs)::os)
    |none=>none
  else none
 |(c, .dvec te e false)::r,⟨.sl e',xs⟩::ls=>if e'=e then match bdO r ls with
    |some os=>some ((c, .dvec te e' xs)::os)
    |none=>none
  else none
 |(c, .iter)::r,⟨.str,s⟩::⟨.int .i64,p⟩::ls=>match bdO r ls with
    |some os=>some ((c, .iter s p)::os)
    |none=>none
 |(c, .miter cm tk tv)::r,⟨.mp tk' tv',es⟩::⟨.mp tk2 tv2,rest⟩::ls=>if h:(tk2=tk'/\tv2=tv')/\tk'=tk/\tv'=tv then match bdO r ls with
    |some os=>some ((c, .miter cm tk' tv' es (h.1.1▸h.1.2▸rest) none)::os)
    |none=>none
  else none
 |(c, .map tk tv)::r,⟨.mp tk' tv',es⟩::ls=>if tk'=tk/\tv'=tv then match bdO r ls with
    |some os=>some ((c, .map tk' tv' es)::os)
    |none=>none
  else none
 |(c, .que te e)::r,⟨.sl e',xs⟩::ls=>if e'=e then match bdO r ls with
    |some os=>some ((c, .que te e' xs)::os)
    |none=>none
  else none
 |(c, .maps te tk tv)::r,⟨.sl (.op (.mp tk' tv')),es⟩::ls=>if tk'=tk/\tv'=tv then match bdO r ls with
    |some os=>some ((c, .maps te tk' tv' es none)::os)
    |none=>none
  else none
 |(c, .bar m e)::r,⟨.ar m' e',xs⟩::ls=>if m'=m/\e'=e then match bdO r ls with
    |some os=>some ((c, .bar m' e' xs)::os)
    |none=>none
  else none
 |_,_=>none
def build(c:Cut V.ι)(ls:List (cj V.N)):TS V.N:=match bdL V (c.slots.map (·.2)) ls with
 |some (xs,ls')=>match bdO V c.objs ls' with
  |some os=>{tmps:=(c.slots.map (·.1)).zip xs,own:=os}
  |none=>{tmps:=[],own:=[]}
 |none=>{tmps:=[],own:=[]}
def bi(c:Cut V.ι)(v:HL V.N c.tys):TS V.N:=build V c (Kv c.tys v)
def Gr(n:Nat)(e:Ty V.ι)(xs:List (den V.N e))(v:TV V.N):TV V.N:=match v with
 | .vh m=>if m=n then .lf (.sl e) xs else .vh m
 |v=>if TV.has n v=true then .junk else v
def L1(n:Nat)(e:Ty V.ι)(xs:List (den V.N e))(v:TV V.N):TV V.N:=match v with
 | .agg cs=> .agg (cs.map (Gr V n e xs))
 |v=>Gr V n e xs v
def tF(n:Nat)(e:Ty V.ι)(xs:List (den V.N e)):TO V.N->TO V.N
 | .box o cells=> .box o (cells.map (Gr V n e xs))
 |o=>o
def TS.frz(S:TS V.N)(n:Nat)(e:Ty V.ι)(xs:List (den V.N e)):TS V.N:=
 {tmps:=S.tmps.map λp=>(p.1,L1 V n e xs p.2),own:=(n, .gone xs.length)::S.own.map λp=>(p.1,tF V n e xs p.2)}
def Hn(S:TS V.N)(v:TV V.N):TS V.N:=match v with
 | .vh n=>match S.own? n with
  |some (.vec _ e xs)=>S.frz V n e xs
  |some (.dvec te e ys)=>TS.frz V {S with own:=(n, .vec te e ys)::S.own} n e ys
  |_=>S
 |_=>S
def frzL(S:TS V.N):List (TV V.N)->TS V.N
 |[]=>S
 |v::r=>frzL (Hn V S v) r
def Du:List (Ty V.ι⊕Nat)->List (TV V.N)->List (TV V.N)
 | .inl _::r,v::s=>v::Du r s
 | .inr _::r,_::s=>Du r s
 |_,_=>[]
def JF:Pt V.ι->TV V.N->List (TV V.N)
 | .dat _, .vh n=>[.vh n]
 | .dat _, .agg cs=>cs
 | .ag cs, .agg vs=>Du V cs vs
 |_,_=>[]
def JJ(dv:Bool)(te:TypeId)(e:Ty V.ι):TO V.N:=match dv with
 |true=> .dvec te e []
 |false=> .vec te e []
def wg(dv:Bool)(te:TypeId)(e:Ty V.ι)(S:TS V.N)(t:Nat):TS V.N:=match gt S.tmps t with
 |some (.raw (.slice none 0 0))=>if S.fresh (60000+t)=true/\PQ (60000+t) given=true then{tmps:=(t, .vh (60000+t))::S.tmps,own:=(60000+t,JJ V dv te e)::S.own}else S
 |_=>S
def qD(dv:Bool)(te:TypeId)(e:Ty V.ι)(S:TS V.N)(b i:Nat):TS V.N:=match S.own? b with
 |some (.box o cells)=>match cells[i]? with
  |some (.raw (.slice none 0 0))=>if S.fresh (70000+S.own.length)=true/\PQ (70000+S.own.length) given=true then
   {tmps:=S.tmps,own:=(b, .box o (cells.set i (.vh (70000+S.own.length))))::(70000+S.own.length,JJ V dv te e)::S.own}else S
  |_=>S
 |_=>S
def cellAt(S:TS V.N)(b i:Nat):TV V.N:=match S.own? b with
 |some (.box _ cells)=>(cells[i]?).getD .junk
 |_=> .junk
def eS(objs:List (Nat×OPt V.ι))(b:Nat):Nat->List (Pt V.ι)->TS V.N->TS V.N
 |_,[],S=>S
 |i, .vh c::r,S=>match gt objs c with
  |some (.vec te e)=>eS objs b (i+1) r (qD V false te e S b i)
  |some (.dvec te e _)=>eS objs b (i+1) r (qD V true te e S b i)
  |_=>eS objs b (i+1) r S
 |i, .dat ty::r,S=>eS objs b (i+1) r (frzL V S (JF V (.dat ty) (cellAt V S b i)))
 |i,_::r,S=>eS objs b (i+1) r S
def CF(objs:List (Nat×OPt V.ι))(c b:Nat)(S:TS V.N):TS V.N:=match gt objs c with
 |some (.box _ ps)=>eS V objs b 0 ps S
 |some (.st _)=>match S.own? b with
  |some (.box _ cells)=>frzL V S cells
  |_=>S
 |_=>S
def Gw:Pt V.ι->TV V.N->List (Nat×Nat)
 | .bp c _, .bp n _=>[(c,n)]
 | .mp c, .mp n=>[(c,n)]
 | .fn _ a b, .fn _ a' b'=>(a++b).zip ((a'++b').map λv=>match v with
  | .bp n _=>n
  |_=>0)
 |_,_=>[]
def Gx:List (Pt V.ι)->List (TV V.N)->List (Nat×Nat)
 |p::ps,v::vs=>Gw V p v++Gx ps vs
 |_,_=>[]
def Ky(objs:List (Nat×OPt V.ι))(S:TS V.N)(c b:Nat):List (Nat×Nat):=match gt objs c,S.own? b with
 |some (.box _ ps),some (.box _ cells)=>Gx V ps cells
 |_,_=>[]
def JL(objs:List (Nat×OPt V.ι)):Nat->List (Nat×Nat)->TS V.N->TS V.N
 |0,_,S=>S
 |_,[],S=>S
 |m+1,(c,b)::r,S=>JL objs m (r++Ky V objs S c b) (CF V objs c b S)
def sI(objs:List (Nat×OPt V.ι))(S:TS V.N):List (Nat×Pt V.ι)->TS V.N
 |[]=>S
 |(t, .vh c)::r=>match gt objs c with
  |some (.vec te e)=>sI objs (wg V false te e S t) r
  |some (.dvec te e _)=>sI objs (wg V true te e S t) r
  |_=>sI objs S r
 |(t, .dat ty)::r=>sI objs (frzL V S (JF V (.dat ty) (S.get t))) r
 |(t, .ag cs)::r=>sI objs (frzL V S (JF V (.ag cs) (S.get t))) r
 |_::r=>sI objs S r
def Mv(objs:List (Nat×OPt V.ι))(S:TS V.N)(slots:List (Nat×Pt V.ι)):TS V.N:=match objs with
 |[]=>sI V objs S slots
 |_=>JL V objs (4 *objs.length) (slots.flatMap λp=>Gw V p.2 (S.get p.1)) (sI V objs S slots)
def Hk(c:Cut V.ι)(S:TS V.N):Option (cu×List (cj V.N)):=match mtL V [] (c.slots.map (·.2)) (c.slots.map λp=>S.get p.1)with
 |some (σ,l)=>match mtO V S σ c.objs with
  |some (σ',l')=>some (σ',l++l')
  |none=>none
 |none=>none
def u9(objs:List (Nat×OPt V.ι)):Pt V.ι->Bool
 | .vh c=>objs.any λp=>Ph p.1 c
 | .ag cs=>cs.all λx=>match x with
  | .inr c=>objs.any λp=>Ph p.1 c
  | .inl _=>true
 |_=>true
def Ct(c:Cut V.ι)(σ:cu):Bool:=σ.all (λp=>PQ p.1 given||Ph p.1 p.2)&&c.slots.all (λp=>u9 V c.objs p.2)&&c.objs.all (λp=>match p.2 with
 | .box _ ps=>ps.all (u9 V c.objs)
 |_=>true)
def xh(c:Cut V.ι)(S:TS V.N):Option (HL V.N c.tys):=match Hk V c (Mv V c.objs S c.slots)with
 |some (σ,ls)=>if Ct V c σ=true then GD c.tys ls else none
 |none=>none
end
end Go.Tx
end
section
namespace Go.Tx
open Go.Awp
variable [Inhabited GMem]
def Sub(σ σ':cu):Prop:=∀c n,gt σ c=some n->gt σ' c=some n
theorem Sub.refl(σ:cu):Sub σ σ:=λ_ _ h=>h
theorem Sub.trans{a b c:cu}(h:Sub a b)(k:Sub b c):Sub a c:=λx n hx=>k x n (h x n hx)
def Inj(σ:cu):Prop:=∀c c' n,gt σ c=some n->gt σ c'=some n->c=c'
theorem cw{σ σ':cu}{c n:Nat}(h:nr σ c n=some σ'):Sub σ σ'/\gt σ' c=some n/\(Inj σ->Inj σ'):=by
 unfold nr at h
 split at h
 ·rename_i m hm
  split at h
  ·rename_i e;cases h;subst e;exact⟨Sub.refl _,hm,id⟩
  ·cases h
 ·rename_i hc
  split at h
  ·cases h
  ·rename_i hn
   cases h
   have hn':∀x,gt σ x≠some n:=λx hx=>by
    apply hn
    rw[PG]
    exact⟨(x,n),bI hx,by simp⟩
   refine⟨λx m hx=> ?_,by simp[af],λhi x y m hx hy=> ?_⟩
   ·rw[af]
    by_cases e:c=x
    ·subst e;rw[hc]at hx;cases hx
    ·rw[RR e];exact hx
   ·rw[af]at hx hy
    by_cases e:c=x<;>by_cases e':c=y
    ·rw[<-e,<-e']
    ·rw[RS e]at hx;rw[RR e']at hy;cases hx;exact(hn' _ hy).elim
    ·rw[RS e']at hy;rw[RR e]at hx;cases hy;exact(hn' _ hx).elim
    ·rw[RR e]at hx;rw[RR e']at hy;exact hi x y m hx hy
section
variable {V:jj}
theorem H.le.nil(sz:Nat):H.le (.d (.v (.slice none 0 0))) (.d (.sl sz [])):=H.le.d (D.le.nil sz)
structure Tr (σ:cu) (objs:List (Nat×OPt V.ι)) (E E':Env) (ω ω':Nat->Nat):Prop where
 env:∀c n,gt σ c=some n->E' c=E n
 len:∀c n,(objs.any λp=>Ph p.1 c)=true->gt σ c=some n->ω' c=ω n
theorem jI:∀{l:List Nat} {vs:List (TV V.N)} {σ σ':cu},sP σ l vs=some σ'->Sub σ σ'/\(Inj σ->Inj σ')/\l.length=vs.length/\
 ∀(i:Nat) (c:Nat) (v:TV V.N),l[i]?=some c->vs[i]?=some v->∃n,v= .bp n 0/\gt σ' c=some n
 |[],[],σ,σ',h=>by simp[sP]at h;subst h;exact⟨Sub.refl _,id,rfl,λi c v hc=>by simp at hc⟩
 |[],_::_,σ,σ',h=>by simp[sP]at h
 |_::_,[],σ,σ',h=>by simp[sP]at h
 |c::r,v::s,σ,σ',h=>by
  unfold sP at h
  split at h
  ·rename_i heq1 heq2;cases heq1
  ·rename_i c' r' n s' heq1 heq2
   simp only[PF]at heq1 heq2
   obtain⟨rfl,rfl⟩:=heq1
   obtain⟨rfl,rfl⟩:=heq2
   split at h
   ·rename_i σ1 h1
    obtain⟨a1,a2,a3⟩:=cw h1
    obtain⟨b1,b2,b3,b4⟩:=jI h
    refine⟨a1.trans b1,λhi=>b2 (a3 hi),by simp[b3],λi x w hx hw=> ?_⟩
    cases i with
    |zero=>simp at hx hw;subst hx;subst hw;exact⟨n,rfl,b1 _ _ a2⟩
    |succ i=>exact b4 i x w (by simpa using hx) (by simpa using hw)
   ·cases h
  ·cases h
theorem As{E E':Env}{M:Mem}{σ:cu}{ω ω':Nat->Nat}(hE:∀c n,gt σ c=some n->E' c=E n){l:List Nat}{vs:List (TV V.N)}(hl:l.length=vs.length)
 (h:∀(i:Nat) (c:Nat) (v:TV V.N),l[i]?=some c->vs[i]?=some v->∃n,v= .bp n 0/\gt σ c=some n){av:Array Value}
 (hs:av.size=(encL V ω vs).length)(hr:∀(i:Nat) (c:Value) (x:H),av[i]?=some c->(encL V ω vs)[i]?=some x->aP E M c x):
 av.size=(encL V ω' (l.map λc=>(.bp c 0:TV V.N))).length/\∀(i:Nat) (c:Value) (x:H),av[i]?=some c->(encL V ω' (l.map λc=>(.bp c 0:TV V.N)))[i]?=some x->aP E' M c x:=by
 rw[aK]at hs
 refine⟨by rw[aK,On];omega,λi c x hc hx=> ?_⟩
 simp only[encL_map,Oq,Option.map_map]at hx
 cases hli:l[i]? with
 |none=>rw[hli]at hx;cases hx
 |some k=>
  rw[hli]at hx
  simp[ao]at hx;subst hx
  have hi:i<vs.length:=by rw[<-hl];exact(Ol.1 hli).1
  obtain⟨n,hv,hn⟩:=h i k _ hli (Ou hi)
  have:=hr i c (.bp n 0) hc (by rw[encL_map,Oq,Ou hi,hv];simp[ao])
  cases this with
  |bp _ off b hb=>exact .bp k 0 b (by rw[hE k n hn];exact hb)
theorem oB:∀{cs:List (Ty V.ι⊕Nat)} {vs:List (TV V.N)} {σ σ1:cu} {l:List (cj V.N)},mtC V σ cs vs=some (σ1,l)->Sub σ σ1/\(Inj σ->Inj σ1)/\
 ∃vs':List (TV V.N),vs'.length=vs.length/\(∀rest,bdC V cs (l++rest)=some (vs',rest))/\∀(i:Nat) (v v':TV V.N),vs[i]?=some v->vs'[i]?=some v'->
  ∀(τ:cu) (objs:List (Nat×OPt V.ι)) (E E':Env) (M:Mem) (ω ω':Nat->Nat) (a:Value),Sub σ1 τ->u9 V objs (.ag cs)=true->Tr τ objs E E' ω ω'->aP E M a (ao V ω v)->aP E' M a (ao V ω' v')
 |[],[],σ,σ1,l,h=>by
  simp[mtC]at h;obtain⟨rfl,rfl⟩:=h
  exact⟨Sub.refl _,id,[],rfl,λrest=>rfl,λi v v' hv=>by simp at hv⟩
 |[],_::_,σ,σ1,l,h=>by simp[mtC]at h
 |_::_,[],σ,σ1,l,h=>by unfold mtC at h;split at h<;>first|(cases h;done)|contradiction
 | .inl t::r,x::s,σ,σ1,l,h=>by
  simp only[mtC]at h
  split at h
  ·rename_i l0 hl
   split at h
   ·rename_i σ' ls h2
    simp at h;obtain⟨rfl,rfl⟩:=h
    obtain⟨b1,b2,vs',b4,b5,b6⟩:=oB h2
    refine⟨b1,b2, .lf l0.t l0.x::vs',by simp[b4],λrest=> ?_,λi w w' hw hw' τ objs E E' M ω ω' a hs hv ht hr=> ?_⟩
    ·simp only[OG,bdC,b5]
    ·cases i with
     |zero=>
      simp at hw hw';subst hw;subst hw'
      have hls:cx V false [t] [x]=some [l0]:=by simp[cx,hl]
      obtain⟨ds,e1,e2,_⟩:=cf (ω:=ω) hls
      simp only[encL]at e1
      obtain⟨d,hd⟩:∃d,ds=[d]:=by
       match ds,e1 with
       |[d],_=>exact⟨d,rfl⟩
       |[],e1=>simp at e1
       |_::_::_,e1=>simp at e1
      subst hd
      simp only[Ow,O0,PF,and_true]at e1
      rw[e1]at hr
      simp only[ao]
      obtain⟨d0,g1,g2⟩:=e2.get 0 (aL V.sz V.enc l0.t l0.x) rfl
      simp at g1;subst g1
      cases hr with
      |d q=>exact .d (g2 M a q)
     |succ i=>
      refine b6 i w w' (by simpa using hw) (by simpa using hw') τ objs E E' M ω ω' a hs ?_ ht hr
      simp only[u9,PC,Oy]at hv⊢;exact hv.2
   ·cases h
  ·cases h
 | .inr c::r,x::s,σ,σ1,l,h=>by
  unfold mtC at h
  split at h
  ·rename_i heq _;cases heq
  ·rename_i heq _;simp at heq
  ·rename_i c' r' n s' heq1 heq2
   simp only[PF,Sum.inr.injEq]at heq1 heq2
   obtain⟨rfl,rfl⟩:=heq1
   obtain⟨rfl,rfl⟩:=heq2
   split at h
   ·rename_i σ' hb
    obtain⟨a1,a2,a3⟩:=cw hb
    obtain⟨b1,b2,vs',b4,b5,b6⟩:=oB h
    refine⟨a1.trans b1,λhi=>b2 (a3 hi), .vh c::vs',by simp[b4],λrest=> ?_,λi w w' hw hw' τ objs E E' M ω ω' a hs hv ht hr=> ?_⟩
    ·simp only[bdC,b5]
    ·simp only[u9,PC,Oy]at hv
     cases i with
     |zero=>
      simp at hw hw';subst hw;subst hw'
      simp only[ao]at hr⊢
      rw[ht.len c n hv.1 (hs _ _ (b1 _ _ a2))]
      cases hr with
      |vh _ len l cc ad hE hl=>exact .vh c _ l cc ad (by rw[ht.env c n (hs _ _ (b1 _ _ a2))];exact hE) hl
     |succ i=>
      refine b6 i w w' (by simpa using hw) (by simpa using hw') τ objs E E' M ω ω' a hs ?_ ht hr
      simp only[u9];exact hv.2
   ·cases h
  ·cases h
theorem oA{σ σ1:cu}{p:Pt V.ι}{v:TV V.N}{l:List (cj V.N)}(h:mt1 V σ p v=some (σ1,l)):Sub σ σ1/\(Inj σ->Inj σ1)/\v≠ .junk/\
 ∃v',(∀rest,bd1 V p (l++rest)=some (v',rest))/\∀(τ:cu) (objs:List (Nat×OPt V.ι)) (E E':Env) (M:Mem) (ω ω':Nat->Nat) (a:Value),Sub σ1 τ->u9 V objs p=true->Tr τ objs E E' ω ω'->
  aP E M a (ao V ω v)->aP E' M a (ao V ω' v'):=by
 unfold mt1 at h
 split at h
 ·rename_i t t' x
  obtain⟨rfl,h⟩:=ah h
  simp at h;obtain⟨rfl,rfl⟩:=h
  refine⟨Sub.refl _,id,by simp, .lf t' x,λrest=>rfl,λτ objs E E' M ω ω' a _ _ _ hr=> ?_⟩
  simp only[ao]at hr⊢
  exact hr.mono (Mem.le_refl _) λn hn=>by simp[H.has]at hn
 ·rename_i e
  simp at h;obtain⟨rfl,rfl⟩:=h
  refine⟨Sub.refl _,id,by simp, .lf (.sl e) [],λrest=>rfl,λτ objs E E' M ω ω' a _ _ _ hr=> ?_⟩
  simp only[ao,bx,aL,O0]at hr⊢
  exact H.le.nil _ E' M a (hr.mono (Mem.le_refl _) λn hn=>by simp[H.has]at hn)
 ·simp at h;obtain⟨rfl,rfl⟩:=h
  refine⟨Sub.refl _,id,by simp, .lf .er false,λrest=>rfl,λτ objs E E' M ω ω' a _ _ _ hr=> ?_⟩
  simp only[ao,bx,aL]at hr⊢
  exact H.le.d D.le.ern E' M a (hr.mono (Mem.le_refl _) λn hn=>by simp[H.has]at hn)
 ·rename_i i cs
  split at h
  ·rename_i t x hx
   simp at h;obtain⟨rfl,rfl⟩:=h
   refine⟨Sub.refl _,id,by simp, .lf t x,λrest=>rfl,λτ objs E E' M ω ω' a _ _ _ hr=> ?_⟩
   have hm:=(f5 (V:=V) (ω:=ω) (ex:=false) (ot:=some (.st i)) (cs:=cs)).1
   rw[hx]at hm
   simp only[ao]at hr hm⊢
   exact(hm E M a hr).mono (Mem.le_refl _) λn hn=>by simp[H.has]at hn
  ·cases h
 ·rename_i c off n off'
  have h':=ah h;clear h
  obtain⟨e,h⟩:=h'
  subst e
  rw[OB]at h
  obtain⟨σ',hb,h⟩:=h
  simp at h;obtain⟨rfl,rfl⟩:=h
  obtain⟨h1,h2,h3⟩:=cw hb
  refine⟨h1,h3,by simp, .bp c off,λrest=>rfl,λτ objs E E' M ω ω' a hs _ ht hr=> ?_⟩
  simp only[ao]at hr⊢
  cases hr with
  |bp _ _ b hb=>exact .bp c off b (by rw[ht.env c n (hs _ _ h2)];exact hb)
 ·rename_i c n
  rw[OB]at h
  obtain⟨σ',hb,h⟩:=h
  simp at h;obtain⟨rfl,rfl⟩:=h
  obtain⟨h1,h2,h3⟩:=cw hb
  refine⟨h1,h3,by simp, .vh c,λrest=>rfl,λτ objs E E' M ω ω' a hs hv ht hr=> ?_⟩
  simp only[ao]at hr⊢
  rw[ht.len c n (by simpa[u9]using hv) (hs _ _ h2)]
  cases hr with
  |vh _ len l cc ad hE hl=>exact .vh c _ l cc ad (by rw[ht.env c n (hs _ _ h2)];exact hE) hl
 ·rename_i c n
  rw[OB]at h
  obtain⟨σ',hb,h⟩:=h
  simp at h;obtain⟨rfl,rfl⟩:=h
  obtain⟨h1,h2,h3⟩:=cw hb
  refine⟨h1,h3,by simp, .mp c,λrest=>rfl,λτ objs E E' M ω ω' a hs _ ht hr=> ?_⟩
  simp only[ao]at hr⊢
  cases hr with
  |mp _ b hE=>exact .mp c b (by rw[ht.env c n (hs _ _ h2)];exact hE)
 ·rename_i c n b
  rw[OB]at h
  obtain⟨σ',hb,h⟩:=h
  simp at h;obtain⟨rfl,rfl⟩:=h
  obtain⟨h1,h2,h3⟩:=cw hb
  refine⟨h1,h3,by simp, .np c b,λrest=>rfl,λτ objs E E' M ω ω' a hs _ ht hr=> ?_⟩
  simp only[ao]at hr⊢
  cases hr with
  |np0=>exact .np0 c
  |np1 _ b hE=>exact .np1 c b (by rw[ht.env c n (hs _ _ h2)];exact hE)
 ·rename_i c n
  rw[OB]at h
  obtain⟨σ',hb,h⟩:=h
  simp at h;obtain⟨rfl,rfl⟩:=h
  obtain⟨h1,h2,h3⟩:=cw hb
  refine⟨h1,h3,by simp, .np c true,λrest=>rfl,λτ objs E E' M ω ω' a hs _ ht hr=> ?_⟩
  simp only[ao]at hr⊢
  cases hr with
  |bp _ _ b hE=>exact .np1 c b (by rw[ht.env c n (hs _ _ h2)];exact hE)
 ·rename_i c
  simp at h;obtain⟨rfl,rfl⟩:=h
  refine⟨Sub.refl _,id,by simp, .np c false,λrest=>rfl,λτ objs E E' M ω ω' a _ _ _ hr=> ?_⟩
  simp only[ao,bx]at hr⊢
  rw[hr.dv]
  exact .np0 c
 ·simp at h;obtain⟨rfl,rfl⟩:=h
  refine⟨Sub.refl _,id,by simp, .raw .nilIface,λrest=>rfl,λτ objs E E' M ω ω' a _ _ _ hr=> ?_⟩
  simp only[ao,bx]at hr⊢
  exact hr.mono (Mem.le_refl _) λn hn=>by simp[H.has]at hn
 ·rename_i e
  simp at h;obtain⟨rfl,rfl⟩:=h
  refine⟨Sub.refl _,id,by simp, .lf (.op e) none,λrest=>rfl,λτ objs E E' M ω ω' a _ _ _ hr=> ?_⟩
  simp only[ao,bx,aL,QE,opD]at hr⊢
  exact hr.mono (Mem.le_refl _) λn hn=>by simp[H.has]at hn
 ·rename_i c z n s i off
  have h':=ah h;clear h
  obtain⟨e,h⟩:=h'
  subst e
  rw[OB]at h
  obtain⟨σ',hb,h⟩:=h
  simp at h;obtain⟨rfl,rfl⟩:=h
  obtain⟨h1,h2,h3⟩:=cw hb
  refine⟨h1,h3,by simp, .sv c s i off,λrest=>rfl,λτ objs E E' M ω ω' a hs _ ht hr=> ?_⟩
  simp only[ao]at hr⊢
  cases hr with
  |sv0 _ _ hE=>exact .sv0 c s (by rw[ht.env c n (hs _ _ h2)];exact hE)
  |sv _ _ _ _ g l cc hE hl=>exact .sv c s i off g l cc (by rw[ht.env c n (hs _ _ h2)];exact hE) hl
 ·rename_i f a b f' a' b'
  have h':=ah h;clear h
  obtain⟨e,h⟩:=h'
  subst e
  split at h
  ·rename_i σ' ha
   rw[OB]at h
   obtain⟨σ'',hb,h⟩:=h
   simp at h;obtain⟨rfl,rfl⟩:=h
   obtain⟨a1,a2,a3,a4⟩:=jI ha
   obtain⟨b1,b2,b3,b4⟩:=jI hb
   refine⟨a1.trans b1,λhi=>b2 (a2 hi),by simp, .fn f (a.map λc=> .bp c 0) (b.map λc=> .bp c 0),λrest=>rfl,λτ objs E E' M ω ω' v hs _ ht hr=> ?_⟩
   simp only[ao]at hr⊢
   cases hr with
   |fn _ first captured l l' h1 h2 h3 h4=>
    obtain⟨x1,x2⟩:=As (V:=V) (ω':=ω') (λc n hc=>ht.env c n hc) a3 (λi c v hc hv=>by
     obtain⟨n,q1,q2⟩:=a4 i c v hc hv
     exact⟨n,q1,hs _ _ (b1 _ _ q2)⟩) h1 h3
    obtain⟨y1,y2⟩:=As (V:=V) (ω':=ω') (λc n hc=>ht.env c n hc) b3 (λi c v hc hv=>by
     obtain⟨n,q1,q2⟩:=b4 i c v hc hv
     exact⟨n,q1,hs _ _ q2⟩) h2 h4
    exact .fn f first captured _ _ x1 y1 x2 y2
  ·cases h
 ·rename_i cs vs
  obtain⟨b1,b2,vs',b4,b5,b6⟩:=oB h
  refine⟨b1,b2,by simp, .agg vs',λrest=>by simp only[bd1,b5],λτ objs E E' M ω ω' a hs hv ht hr=> ?_⟩
  simp only[ao]at hr⊢
  have h1:=kT _ E M a hr
  obtain⟨xs,rfl,h2,h3⟩:=h1.hagg
  refine rM _ E' M _ (.agg xs _ (by rw[aK]at h2⊢;omega) λi c x hc hx=> ?_)
  rw[encL_map,Oq,OB]at hx
  obtain⟨v',hv',rfl⟩:=hx
  have hi:i<vs.length:=by rw[<-b4];exact(Ol.1 hv').1
  exact b6 i _ v' (Ou hi) hv' τ objs E E' M ω ω' c hs hv ht (h3 i c _ hc (by rw[encL_map,Oq,Ou hi];rfl))
 ·cases h
theorem ir:∀{ps:List (Pt V.ι)} {vs:List (TV V.N)} {σ σ1:cu} {l:List (cj V.N)},mtL V σ ps vs=some (σ1,l)->Sub σ σ1/\(Inj σ->Inj σ1)/\ps.length=vs.length/\
 ∃vs':List (TV V.N),vs'.length=vs.length/\(∀rest,bdL V ps (l++rest)=some (vs',rest))/\∀(i:Nat) (v v':TV V.N),vs[i]?=some v->vs'[i]?=some v'->v≠ .junk/\
  ∀(τ:cu) (objs:List (Nat×OPt V.ι)) (E E':Env) (M:Mem) (ω ω':Nat->Nat) (a:Value),Sub σ1 τ->ps.all (u9 V objs)=true->Tr τ objs E E' ω ω'->aP E M a (ao V ω v)->aP E' M a (ao V ω' v')
 |[],[],σ,σ1,l,h=>by
  simp[mtL]at h;obtain⟨rfl,rfl⟩:=h
  exact⟨Sub.refl _,id,rfl,[],rfl,λrest=>rfl,λi v v' hv=>by simp at hv⟩
 |[],_::_,σ,σ1,l,h=>by simp[mtL]at h
 |_::_,[],σ,σ1,l,h=>by simp[mtL]at h
 |p::r,v::s,σ,σ1,l,h=>by
  simp only[mtL]at h
  split at h
  ·rename_i σ' l1 h1
   split at h
   ·rename_i σ'' l2 h2
    simp at h;obtain⟨rfl,rfl⟩:=h
    obtain⟨a1,a2,a3,v',a4,a5⟩:=oA h1
    obtain⟨b1,b2,b3,vs',b4,b5,b6⟩:=ir h2
    refine⟨a1.trans b1,λhi=>b2 (a2 hi),by simp[b3],v'::vs',by simp[b4],λrest=> ?_,λi w w' hw hw'=> ?_⟩
    ·simp only[bdL,O9,a4,b5]
    ·cases i with
     |zero=>
      simp at hw hw';subst hw;subst hw'
      refine⟨a3,λτ objs E E' M ω ω' a hs hv ht hr=>a5 τ objs E E' M ω ω' a (b1.trans hs) ?_ ht hr⟩
      simp only[PC,Oy]at hv;exact hv.1
     |succ i=>
      obtain⟨c1,c2⟩:=b6 i w w' (by simpa using hw) (by simpa using hw')
      refine⟨c1,λτ objs E E' M ω ω' a hs hv ht hr=>c2 τ objs E E' M ω ω' a hs ?_ ht hr⟩
      simp only[PC,Oy]at hv;exact hv.2
   ·cases h
  ·cases h
theorem bK{S:TS V.N}:∀{objs:List (Nat×OPt V.ι)} {σ σ1:cu} {l:List (cj V.N)},mtO V S σ objs=some (σ1,l)->Sub σ σ1/\(Inj σ->Inj σ1)/\
 ∃os:List (Nat×TO V.N),os.length=objs.length/\bdO V objs l=some os/\(∀c o',(c,o')∈os->∃n o,gt σ1 c=some n/\S.own? n=some o/\TO.len (some o')=TO.len (some o)/\
  ∃x:(Nat->Nat)->Own,(∀ω,aZ V ω o=some (x ω))/\∃x':(Nat->Nat)->Own,(∀ω,aZ V ω o'=some (x' ω))/\
  (∀(τ:cu) (all:List (Nat×OPt V.ι)) (E E':Env) (M:Mem) (w:World) (ω ω':Nat->Nat),Sub σ1 τ->(∀p∈objs,match p.2 with| .box _ ps=>ps.all (u9 V all)=true|_=>True)->Tr τ all E E' ω ω'->
    aJ E M w n (x ω)->aJ E' M w c (x' ω'))/\
  ∀(E E':Env) (M:Mem) (w:World) (ω ω':Nat->Nat) (b:Nat),aJ E M w n (x ω)->E' c=E n->(x' ω').foot w (E' c) b->(x ω).foot w (E n) b)/\os.map (·.1)=objs.map (·.1)
 |[],σ,σ1,l,h=>by
  simp[mtO]at h;obtain⟨rfl,rfl⟩:=h
  exact⟨Sub.refl _,id,[],rfl,rfl,λc o' h=>by simp at h,rfl⟩
 |(c,p)::r,σ,σ1,l,h=>by
  simp only[mtO]at h
  split at h
  ·rename_i n hn
   split at h
   ·rename_i oo ps oo' cells hown
    have h':=ah h;clear h
    obtain⟨hoo,h⟩:=h'
    split at h
    ·rename_i σ' l1 h1
     split at h
     ·rename_i σ'' l2 h2
      simp at h;obtain⟨rfl,rfl⟩:=h
      obtain⟨a1,a2,a3,vs',a4,a5,a6⟩:=ir h1
      obtain⟨b1,b2,os,b3,b4,b5,b6⟩:=bK h2
      refine⟨a1.trans b1,λhi=>b2 (a2 hi),(c, .box oo vs')::os,by simp[b3],by simp only[bdO,a5,b4],λc' o' hm=> ?_,by simp[b6]⟩
      rcases Oz.1 hm with he|hm
      ·simp only[OV]at he
       obtain⟨rfl,rfl⟩:=he
       refine⟨n, .box oo' cells,b1 _ _ (a1 _ _ hn),hown,rfl,λω=> .box oo' (encL V ω cells),λω=>rfl,λω=> .box oo (encL V ω vs'),λω=>rfl,λτ all E E' M w ω ω' hs hv ht ho=> ?_,λE E' M w ω ω' b _ he hb=>by rw[he]at hb;exact hb⟩
       have hv0:ps.all (u9 V all)=true:=hv (c', .box oo ps) Ox
       obtain⟨b,cs,ty,k1,k2,k3,k4,k5,k6⟩:=ho
       rw[aK]at k3
       refine⟨b,cs,ty,by rw[ht.env c' n (hs _ _ (b1 _ _ (a1 _ _ hn)))];exact k1,k2,by rw[aK];omega,λi x y hx hy=> ?_,k5,λt htt=>by
        rcases hoo with hoo|hoo
        ·rw[hoo]at htt;cases htt
        ·rw[hoo]at htt;exact k6 t htt⟩
       simp only[encL_map,Oq]at hy
       cases hvi:vs'[i]? with
       |none=>rw[hvi]at hy;cases hy
       |some v'=>
        rw[hvi]at hy;simp at hy;subst hy
        have hi:i<cells.length:=by rw[<-a4];exact(Ol.1 hvi).1
        obtain⟨_,q⟩:=a6 i _ v' (Ou hi) hvi
        exact q τ all E E' M ω ω' x (b1.trans hs) hv0 ht (k4 i x _ hx (by rw[encL_map,Oq,Ou hi];rfl))
      ·obtain⟨n',o,q1,q2,q3,x,q4,x',q5,q6,q7⟩:=b5 c' o' hm
       exact⟨n',o,q1,q2,q3,x,q4,x',q5,λτ all E E' M w ω ω' hs hv ht ho=>q6 τ all E E' M w ω ω' hs (λp hp=>hv p (Ot _ hp)) ht ho,q7⟩
     ·cases h
    ·cases h
   ·rename_i i oty cells hown
    split at h
    ·rename_i j x hx
     split at h
     ·rename_i σ'' l2 h2
      simp at h;obtain⟨rfl,rfl⟩:=h
      obtain⟨b1,b2,os,b3,b4,b5,b6⟩:=bK h2
      have hmk:i=j/\∃ls,cx V false (V.tys i) cells=some ls/\∃y:V.N i,V.ofCells i ls=some y/\(TV.lf (.st i) y:TV V.N)= .lf (.st j) x:=by
       unfold mkV at hx
       simp only at hx
       split at hx
       ·rename_i ls hls
        split at hx
        ·rename_i y hy
         have:i=j:=by cases hx;rfl
         exact⟨this,ls,hls,y,hy,hx⟩
        ·cases hx
       ·cases hx
      obtain⟨rfl,ls,hls,y,hy,he⟩:=hmk
      have he:y=x:=by cases he;rfl
      subst he
      refine⟨b1,b2,(c, .bst i y)::os,by simp[b3],by simp[bdO,b4],λc' o' hm=> ?_,by simp[b6]⟩
      rcases Oz.1 hm with he|hm
      ·simp only[OV]at he
       obtain⟨rfl,rfl⟩:=he
       refine⟨n, .box oty cells,b1 _ _ hn,hown,rfl,λω=> .box oty (encL V ω cells),λω=>rfl,λ_=> .box none ((V.enc i y).map .d),λω=>rfl,λτ all E E' M w ω ω' hs _ ht ho=> ?_,λE E' M w ω ω' b _ he hb=>by rw[he]at hb;exact hb⟩
       obtain⟨ds,e1,e2,_⟩:=cf (ω:=ω) hls
       obtain⟨b,cs,ty,k1,k2,k3,k4,k5,_⟩:=ho
       have hc:=V.of_cells i ls y hy
       have hnew:(V.enc i y).map H.d=(ls.map λl=>aL V.sz V.enc l.t l.x).map H.d:=by
        rw[V.enc_cells,hc]
       refine⟨b,cs,ty,by rw[ht.env c' n (hs _ _ (b1 _ _ hn))];exact k1,k2,?_,λi' a z ha hz=> ?_,k5,λt htt=>by cases htt⟩
       ·rw[k3,hnew,e1,On,On];exact e2.len
       ·rw[hnew,Oq]at hz
        cases hd:(ls.map λl=>aL V.sz V.enc l.t l.x)[i']? with
        |none=>rw[hd]at hz;cases hz
        |some d=>
         rw[hd]at hz;simp at hz;subst hz
         obtain⟨d0,g1,g2⟩:=e2.get i' d hd
         have:=k4 i' a (.d d0) ha (by rw[e1,Oq,g1];rfl)
         cases this with
         |d q=>exact .d (g2 M a q)
      ·obtain⟨n',o,q1,q2,q3,x,q4,x',q5,q6,q7⟩:=b5 c' o' hm
       exact⟨n',o,q1,q2,q3,x,q4,x',q5,λτ all E E' M w ω ω' hs hv ht ho=>q6 τ all E E' M w ω ω' hs (λp hp=>hv p (Ot _ hp)) ht ho,q7⟩
     ·cases h
    ·cases h
   ·rename_i i j x hown
    have h':=ah h;clear h
    obtain⟨e1,h⟩:=h'
    subst e1
    split at h
    ·rename_i σ'' l2 h2
     simp at h;obtain⟨rfl,rfl⟩:=h
     obtain⟨b1,b2,os,b3,b4,b5,b6⟩:=bK h2
     refine⟨b1,b2,(c, .bst i x)::os,by simp[b3],by simp[bdO,b4],λc' o' hm=> ?_,by simp[b6]⟩
     rcases Oz.1 hm with he|hm
     ·simp only[OV]at he
      obtain⟨rfl,rfl⟩:=he
      refine⟨n, .bst i x,b1 _ _ hn,hown,rfl,λ_=> .box none ((V.enc i x).map .d),λω=>rfl,λ_=> .box none ((V.enc i x).map .d),λω=>rfl,λτ all E E' M w ω ω' hs _ ht ho=> ?_,λE E' M w ω ω' b _ he hb=>by rw[he]at hb;exact hb⟩
      obtain⟨b,cs,ty,k1,k2,k3,k4,k5⟩:=ho
      refine⟨b,cs,ty,by rw[ht.env c' n (hs _ _ (b1 _ _ hn))];exact k1,k2,k3,λi' a z ha hz=> ?_,k5⟩
      have hq:=k4 i' a z ha hz
      rw[Oq,OB]at hz
      obtain⟨d,_,rfl⟩:=hz
      exact hq.mono (Mem.le_refl _) λm hm=>by simp[H.has]at hm
     ·obtain⟨n',o,q1,q2,q3,x,q4,x',q5,q6,q7⟩:=b5 c' o' hm
      exact⟨n',o,q1,q2,q3,x,q4,x',q5,λτ all E E' M w ω ω' hs hv ht ho=>q6 τ all E E' M w ω ω' hs (λp hp=>hv p (Ot _ hp)) ht ho,q7⟩
    ·cases h
   ·rename_i ps j x hown
    split at h
    ·rename_i σ' l1 h1
     split at h
     ·rename_i σ'' l2 h2
      simp at h;obtain⟨rfl,rfl⟩:=h
      obtain⟨a1,a2,a3,vs',a4,a5,a6⟩:=ir h1
      obtain⟨b1,b2,os,b3,b4,b5,b6⟩:=bK h2
      refine⟨a1.trans b1,λhi=>b2 (a2 hi),(c, .box none vs')::os,by simp[b3],by simp only[bdO,a5,b4],λc' o' hm=> ?_,by simp[b6]⟩
      rcases Oz.1 hm with he|hm
      ·simp only[OV]at he
       obtain⟨rfl,rfl⟩:=he
       refine⟨n, .bst j x,b1 _ _ (a1 _ _ hn),hown,rfl,λ_=> .box none ((V.enc j x).map .d),λω=>rfl,λω=> .box none (encL V ω vs'),λω=>rfl,λτ all E E' M w ω ω' hs hv ht ho=> ?_,λE E' M w ω ω' b _ he hb=>by rw[he]at hb;exact hb⟩
       have hv0:ps.all (u9 V all)=true:=hv (c', .box none ps) Ox
       obtain⟨b,cs,ty,k1,k2,k3,k4,k5⟩:=ho
       rw[<-jJ ω,aK]at k3
       refine⟨b,cs,ty,by rw[ht.env c' n (hs _ _ (b1 _ _ (a1 _ _ hn)))];exact k1,k2,by rw[aK];omega,λi x' y hx hy=> ?_,k5⟩
       simp only[encL_map,Oq]at hy
       cases hvi:vs'[i]? with
       |none=>rw[hvi]at hy;cases hy
       |some v'=>
        rw[hvi]at hy;simp at hy;subst hy
        have hi:i<((V.cells j x).map λl=>(.lf l.t l.x:TV V.N)).length:=by rw[<-a4];exact(Ol.1 hvi).1
        obtain⟨_,q⟩:=a6 i _ v' (Ou hi) hvi
        exact q τ all E E' M ω ω' x' (b1.trans hs) hv0 ht (k4 i x' _ hx (by rw[<-jJ ω,encL_map,Oq,Ou hi];rfl))
      ·obtain⟨n',o,q1,q2,q3,x,q4,x',q5,q6,q7⟩:=b5 c' o' hm
       exact⟨n',o,q1,q2,q3,x,q4,x',q5,λτ all E E' M w ω ω' hs hv ht ho=>q6 τ all E E' M w ω ω' hs (λp hp=>hv p (Ot _ hp)) ht ho,q7⟩
     ·cases h
    ·cases h
   ·rename_i te e te' e' xs hown
    have h':=ah h;clear h
    obtain⟨⟨e1,e2⟩,h⟩:=h'
    subst e1;subst e2
    split at h
    ·rename_i σ'' l2 h2
     simp at h;obtain⟨rfl,rfl⟩:=h
     obtain⟨b1,b2,os,b3,b4,b5,b6⟩:=bK h2
     refine⟨b1,b2,(c, .vec te e xs)::os,by simp[b3],by simp[bdO,b4],λc' o' hm=> ?_,by simp[b6]⟩
     rcases Oz.1 hm with he|hm
     ·simp only[OV]at he
      obtain⟨rfl,rfl⟩:=he
      refine⟨n, .vec te e xs,b1 _ _ hn,hown,rfl,λ_=> .vec te (tsz V.sz e) (xs.map λx=>aV V.sz V.enc e x),λω=>rfl,λ_=> .vec te (tsz V.sz e) (xs.map λx=>aV V.sz V.enc e x),λω=>rfl,λτ all E E' M w ω ω' hs _ ht ho=> ?_,λE E' M w ω ω' b _ he hb=>by rw[he]at hb;exact hb⟩
      obtain⟨ys,k1,k2,k3,k4⟩:=ho
      have he:=ht.env c' n (hs _ _ (b1 _ _ hn))
      exact⟨ys,by rw[he];exact k1,k2,k3,by rw[he];exact k4⟩
     ·obtain⟨n',o,q1,q2,q3,x,q4,x',q5,q6,q7⟩:=b5 c' o' hm
      exact⟨n',o,q1,q2,q3,x,q4,x',q5,λτ all E E' M w ω ω' hs hv ht ho=>q6 τ all E E' M w ω ω' hs (λp hp=>hv p (Ot _ hp)) ht ho,q7⟩
    ·cases h
   ·rename_i te e te' e' xs hown
    have h':=ah h;clear h
    obtain⟨⟨e1,e2⟩,h⟩:=h'
    subst e1;subst e2
    split at h
    ·rename_i σ'' l2 h2
     simp at h;obtain⟨rfl,rfl⟩:=h
     obtain⟨b1,b2,os,b3,b4,b5,b6⟩:=bK h2
     refine⟨b1,b2,(c, .pvec te e xs)::os,by simp[b3],by simp[bdO,b4],λc' o' hm=> ?_,by simp[b6]⟩
     rcases Oz.1 hm with he|hm
     ·simp only[OV]at he
      obtain⟨rfl,rfl⟩:=he
      refine⟨n, .pvec te e xs,b1 _ _ hn,hown,rfl,λ_=> .dvec te (tsz V.sz e) (xs.map λx=>p6 V e x),λω=>rfl,λ_=> .dvec te (tsz V.sz e) (xs.map λx=>p6 V e x),λω=>rfl,λτ all E E' M w ω ω' hs _ ht ho=> ?_,λE E' M w ω ω' b _ he hb=> ?_⟩
      ·obtain⟨B,k1,k2⟩:=ho
       have he:=ht.env c' n (hs _ _ (b1 _ _ hn))
       exact⟨B,by rw[he];exact k1,k2⟩
      ·rw[he]at hb;exact hb
     ·obtain⟨n',o,q1,q2,q3,x,q4,x',q5,q6,q7⟩:=b5 c' o' hm
      exact⟨n',o,q1,q2,q3,x,q4,x',q5,λτ all E E' M w ω ω' hs hv ht ho=>q6 τ all E E' M w ω ω' hs (λp hp=>hv p (Ot _ hp)) ht ho,q7⟩
    ·cases h
   ·rename_i te e te' e' xs hown
    have h':=ah h;clear h
    obtain⟨⟨e1,e2⟩,h⟩:=h'
    subst e1;subst e2
    split at h
    ·rename_i σ'' l2 h2
     simp at h;obtain⟨rfl,rfl⟩:=h
     obtain⟨b1,b2,os,b3,b4,b5,b6⟩:=bK h2
     refine⟨b1,b2,(c, .pvec te e (xs.map some))::os,by simp[b3],by simp[bdO,b4],λc' o' hm=> ?_,by simp[b6]⟩
     rcases Oz.1 hm with he|hm
     ·simp only[OV]at he
      obtain⟨rfl,rfl⟩:=he
      refine⟨n, .dvec te e xs,b1 _ _ hn,hown,by simp[TO.len],λ_=> .dvec te (tsz V.sz e) (xs.map λx=>bT V.sz V.enc V.tid V.encd e x),λω=>rfl,λ_=> .dvec te (tsz V.sz e) ((xs.map some).map λx=>p6 V e x),λω=>rfl,λτ all E E' M w ω ω' hs _ ht ho=> ?_,λE E' M w ω ω' b _ he hb=> ?_⟩
      ·obtain⟨B,k1,k2⟩:=ho
       have he:=ht.env c' n (hs _ _ (b1 _ _ hn))
       exact⟨B,by rw[he];rw[OQ];exact k1,k2⟩
      ·rw[he]at hb;rw[OQ]at hb;exact hb
     ·obtain⟨n',o,q1,q2,q3,x,q4,x',q5,q6,q7⟩:=b5 c' o' hm
      exact⟨n',o,q1,q2,q3,x,q4,x',q5,λτ all E E' M w ω ω' hs hv ht ho=>q6 τ all E E' M w ω ω' hs (λp hp=>hv p (Ot _ hp)) ht ho,q7⟩
    ·cases h
   ·rename_i te e te' e' xs hown
    have h':=ah h;clear h
    obtain⟨⟨e1,e2⟩,h⟩:=h'
    subst e1;subst e2
    split at h
    ·rename_i σ'' l2 h2
     simp at h;obtain⟨rfl,rfl⟩:=h
     obtain⟨b1,b2,os,b3,b4,b5,b6⟩:=bK h2
     refine⟨b1,b2,(c, .dvec te e xs)::os,by simp[b3],by simp[bdO,b4],λc' o' hm=> ?_,by simp[b6]⟩
     rcases Oz.1 hm with he|hm
     ·simp only[OV]at he
      obtain⟨rfl,rfl⟩:=he
      refine⟨n, .dvec te e xs,b1 _ _ hn,hown,rfl,λ_=> .dvec te (tsz V.sz e) (xs.map λx=>bT V.sz V.enc V.tid V.encd e x),λω=>rfl,λ_=> .dvec te (tsz V.sz e) (xs.map λx=>bT V.sz V.enc V.tid V.encd e x),λω=>rfl,λτ all E E' M w ω ω' hs _ ht ho=> ?_,λE E' M w ω ω' b _ he hb=> ?_⟩
      ·obtain⟨B,k1,k2⟩:=ho
       have he:=ht.env c' n (hs _ _ (b1 _ _ hn))
       exact⟨B,by rw[he];exact k1,k2⟩
      ·rw[he]at hb;exact hb
     ·obtain⟨n',o,q1,q2,q3,x,q4,x',q5,q6,q7⟩:=b5 c' o' hm
      exact⟨n',o,q1,q2,q3,x,q4,x',q5,λτ all E E' M w ω ω' hs hv ht ho=>q6 τ all E E' M w ω ω' hs (λp hp=>hv p (Ot _ hp)) ht ho,q7⟩
    ·cases h
   ·rename_i s p hown
    split at h
    ·rename_i σ'' l2 h2
     simp at h;obtain⟨rfl,rfl⟩:=h
     obtain⟨b1,b2,os,b3,b4,b5,b6⟩:=bK h2
     refine⟨b1,b2,(c, .iter s p)::os,by simp[b3],by simp[bdO,b4],λc' o' hm=> ?_,by simp[b6]⟩
     rcases Oz.1 hm with he|hm
     ·simp only[OV]at he
      obtain⟨rfl,rfl⟩:=he
      refine⟨n, .iter s p,b1 _ _ hn,hown,rfl,λ_=> .iter s p.toNat,λω=>rfl,λ_=> .iter s p.toNat,λω=>rfl,λτ all E E' M w ω ω' hs _ ht ho=> ?_,λE E' M w ω ω' b _ he hb=>by rw[he]at hb;exact hb⟩
      obtain⟨b,k1,k2,k3⟩:=ho
      have he:=ht.env c' n (hs _ _ (b1 _ _ hn))
      exact⟨b,by rw[he];exact k1,k2,k3⟩
     ·obtain⟨n',o,q1,q2,q3,x,q4,x',q5,q6,q7⟩:=b5 c' o' hm
      exact⟨n',o,q1,q2,q3,x,q4,x',q5,λτ all E E' M w ω ω' hs hv ht ho=>q6 τ all E E' M w ω ω' hs (λp hp=>hv p (Ot _ hp)) ht ho,q7⟩
    ·cases h
   ·rename_i cm tk tv m tk' tv' es rest cur hown
    have h':=ah h;clear h
    obtain⟨⟨e1,e2⟩,h⟩:=h'
    subst e1;subst e2
    split at h
    ·rename_i σ' hb
     obtain⟨a1,a2,a3⟩:=cw hb
     split at h
     ·rename_i σ'' l2 h2
      simp at h;obtain⟨rfl,rfl⟩:=h
      obtain⟨b1,b2,os,b3,b4,b5,b6⟩:=bK h2
      refine⟨a1.trans b1,λhi=>b2 (a3 hi),(c, .miter cm tk tv es rest none)::os,by simp[b3],by simp[bdO,b4],λc' o' hm=> ?_,by simp[b6]⟩
      rcases Oz.1 hm with he|hm
      ·simp only[OV]at he
       obtain⟨rfl,rfl⟩:=he
       refine⟨n, .miter m tk tv es rest cur,b1 _ _ (a1 _ _ hn),hown,rfl,λ_=> .miter m (es.map λp=>(dQ V.enc tk p.1,aL V.sz V.enc tv p.2)) (rest.map λp=>(dQ V.enc tk p.1,aL V.sz V.enc tv p.2)) (cur.map λp=>(dQ V.enc tk p.1,aL V.sz V.enc tv p.2)),λω=>rfl,
        λ_=> .miter cm (es.map λp=>(dQ V.enc tk p.1,aL V.sz V.enc tv p.2)) (rest.map λp=>(dQ V.enc tk p.1,aL V.sz V.enc tv p.2)) none,λω=>rfl,λτ all E E' M w ω ω' hs _ ht ho=> ?_,λE E' M w ω ω' b _ he hb=>by rw[he]at hb;exact hb⟩
       obtain⟨r',b,es',clock,since,seen,last,k1,k2,k3,k4,k5,k6,k7,k8,k9,k10,_,k12⟩:=ho
       have he:=ht.env c' n (hs _ _ (b1 _ _ (a1 _ _ hn)))
       have he2:=ht.env cm m (hs _ _ (b1 _ _ a2))
       exact⟨r',b,es',clock,since,seen,last,by rw[he];exact k1,by rw[he2];exact k2,k3,k4,k5,k6,k7,k8,k9,k10,(λp hp=>by cases hp),k12⟩
      ·obtain⟨n',o,q1,q2,q3,x,q4,x',q5,q6,q7⟩:=b5 c' o' hm
       exact⟨n',o,q1,q2,q3,x,q4,x',q5,λτ all E E' M w ω ω' hs hv ht ho=>q6 τ all E E' M w ω ω' hs (λp hp=>hv p (Ot _ hp)) ht ho,q7⟩
     ·cases h
    ·cases h
   ·rename_i tk tv tk' tv' es hown
    have h':=ah h;clear h
    obtain⟨⟨e1,e2⟩,h⟩:=h'
    subst e1;subst e2
    split at h
    ·rename_i σ'' l2 h2
     simp at h;obtain⟨rfl,rfl⟩:=h
     obtain⟨b1,b2,os,b3,b4,b5,b6⟩:=bK h2
     refine⟨b1,b2,(c, .map tk tv es)::os,by simp[b3],by simp[bdO,b4],λc' o' hm=> ?_,by simp[b6]⟩
     rcases Oz.1 hm with he|hm
     ·simp only[OV]at he
      obtain⟨rfl,rfl⟩:=he
      refine⟨n, .map tk tv es,b1 _ _ hn,hown,rfl,λ_=> .map (es.map λp=>(dQ V.enc tk p.1,aL V.sz V.enc tv p.2)),λω=>rfl,λ_=> .map (es.map λp=>(dQ V.enc tk p.1,aL V.sz V.enc tv p.2)),λω=>rfl,λτ all E E' M w ω ω' hs _ ht ho=> ?_,λE E' M w ω ω' b _ he hb=>by rw[he]at hb;exact hb⟩
      obtain⟨b,es',clock,k1,k2,k3,k4,k5⟩:=ho
      have he:=ht.env c' n (hs _ _ (b1 _ _ hn))
      exact⟨b,es',clock,by rw[he];exact k1,k2,k3,k4,k5⟩
     ·obtain⟨n',o,q1,q2,q3,x,q4,x',q5,q6,q7⟩:=b5 c' o' hm
      exact⟨n',o,q1,q2,q3,x,q4,x',q5,λτ all E E' M w ω ω' hs hv ht ho=>q6 τ all E E' M w ω ω' hs (λp hp=>hv p (Ot _ hp)) ht ho,q7⟩
    ·cases h
   ·rename_i te e te' e' xs hown
    have h':=ah h;clear h
    obtain⟨⟨e1,e2⟩,h⟩:=h'
    subst e1;subst e2
    split at h
    ·rename_i σ'' l2 h2
     simp at h;obtain⟨rfl,rfl⟩:=h
     obtain⟨b1,b2,os,b3,b4,b5,b6⟩:=bK h2
     refine⟨b1,b2,(c, .que te e xs)::os,by simp[b3],by simp[bdO,b4],λc' o' hm=> ?_,by simp[b6]⟩
     rcases Oz.1 hm with he|hm
     ·simp only[OV]at he
      obtain⟨rfl,rfl⟩:=he
      refine⟨n, .que te e xs,b1 _ _ hn,hown,rfl,λ_=> .que te (tsz V.sz e) (xs.map λx=>aV V.sz V.enc e x),λω=>rfl,λ_=> .que te (tsz V.sz e) (xs.map λx=>aV V.sz V.enc e x),λω=>rfl,λτ all E E' M w ω ω' hs _ ht ho=> ?_,λE E' M w ω ω' b _ he hb=>by rw[he]at hb;exact hb⟩
      obtain⟨B,k1,k2⟩:=ho
      have he:=ht.env c' n (hs _ _ (b1 _ _ hn))
      exact⟨B,by rw[he];exact k1,k2⟩
     ·obtain⟨n',o,q1,q2,q3,x,q4,x',q5,q6,q7⟩:=b5 c' o' hm
      exact⟨n',o,q1,q2,q3,x,q4,x',q5,λτ all E E' M w ω ω' hs hv ht ho=>q6 τ all E E' M w ω ω' hs (λp hp=>hv p (Ot _ hp)) ht ho,q7⟩
    ·cases h
   ·rename_i te tk tv te' tk' tv' es al hown
    have h':=ah h;clear h
    obtain⟨⟨e0,e1,e2⟩,h⟩:=h'
    subst e0;subst e1;subst e2
    split at h
    ·rename_i σ'' l2 h2
     simp at h;obtain⟨rfl,rfl⟩:=h
     obtain⟨b1,b2,os,b3,b4,b5,b6⟩:=bK h2
     refine⟨b1,b2,(c, .maps te tk tv es none)::os,by simp[b3],by simp[bdO,b4],λc' o' hm=> ?_,by simp[b6]⟩
     rcases Oz.1 hm with he|hm
     ·simp only[OV]at he
      obtain⟨rfl,rfl⟩:=he
      refine⟨n, .maps te tk tv es al,b1 _ _ hn,hown,rfl,λ_=> .maps te (es.map λo=>o.map λl=>l.map λp=>(dQ V.enc tk p.1,aL V.sz V.enc tv p.2)) al,λω=>rfl,λ_=> .maps te (es.map λo=>o.map λl=>l.map λp=>(dQ V.enc tk p.1,aL V.sz V.enc tv p.2)) none,λω=>rfl,λτ all E E' M w ω ω' hs _ ht ho=> ?_,λE E' M w ω ω' b ho he hb=> ?_⟩
      ·obtain⟨B,k1,k2⟩:=OLe.noAlias.1 E M w n ho
       have he:=ht.env c' n (hs _ _ (b1 _ _ hn))
       exact⟨B,by rw[he];exact k1,k2⟩
      ·rw[he]at hb
       exact OLe.noAlias.2 E M w n b ho hb
     ·obtain⟨n',o,q1,q2,q3,x,q4,x',q5,q6,q7⟩:=b5 c' o' hm
      exact⟨n',o,q1,q2,q3,x,q4,x',q5,λτ all E E' M w ω ω' hs hv ht ho=>q6 τ all E E' M w ω ω' hs (λp hp=>hv p (Ot _ hp)) ht ho,q7⟩
    ·cases h
   ·rename_i m e m' e' xs hown
    have h':=ah h;clear h
    obtain⟨⟨e1,e2⟩,h⟩:=h'
    subst e1;subst e2
    split at h
    ·rename_i σ'' l2 h2
     simp at h;obtain⟨rfl,rfl⟩:=h
     obtain⟨b1,b2,os,b3,b4,b5,b6⟩:=bK h2
     refine⟨b1,b2,(c, .bar m e xs)::os,by simp[b3],by simp[bdO,b4],λc' o' hm=> ?_,by simp[b6]⟩
     rcases Oz.1 hm with he|hm
     ·simp only[OV]at he
      obtain⟨rfl,rfl⟩:=he
      refine⟨n, .bar m e xs,b1 _ _ hn,hown,rfl,λ_=> .box none ((aV V.sz V.enc (.ar m e) xs).map .d),λω=>rfl,λ_=> .box none ((aV V.sz V.enc (.ar m e) xs).map .d),λω=>rfl,λτ all E E' M w ω ω' hs _ ht ho=> ?_,λE E' M w ω ω' b _ he hb=>by rw[he]at hb;exact hb⟩
      obtain⟨b,cs,ty,k1,k2,k3,k4,k5⟩:=ho
      refine⟨b,cs,ty,by rw[ht.env c' n (hs _ _ (b1 _ _ hn))];exact k1,k2,k3,λi' a z ha hz=> ?_,k5⟩
      have hq:=k4 i' a z ha hz
      rw[Oq,OB]at hz
      obtain⟨d,_,rfl⟩:=hz
      exact hq.mono (Mem.le_refl _) λm hm=>by simp[H.has]at hm
     ·obtain⟨n',o,q1,q2,q3,x,q4,x',q5,q6,q7⟩:=b5 c' o' hm
      exact⟨n',o,q1,q2,q3,x,q4,x',q5,λτ all E E' M w ω ω' hs hv ht ho=>q6 τ all E E' M w ω ω' hs (λp hp=>hv p (Ot _ hp)) ht ho,q7⟩
    ·cases h
   ·cases h
  ·cases h
theorem Gs{α:Type}:∀{ks:List Nat} {vs:List α} {t:Nat} {x:α},gt (ks.zip vs) t=some x->∃i:Nat,ks[i]?=some t/\vs[i]?=some x
 |[],_,t,x,h=>by simp[gt]at h
 |_::_,[],t,x,h=>by simp[gt]at h
 |k::ks,v::vs,t,x,h=>by
  simp only[QF,af]at h
  by_cases hk:k=t
  ·rw[RS hk]at h;cases h;exact⟨0,by simp[hk],rfl⟩
  ·rw[RR hk]at h
   obtain⟨i,h1,h2⟩:=Gs h
   exact⟨i+1,by simpa using h1,by simpa using h2⟩
theorem Hh{S:TS V.N}{c:Cut V.ι}{σ:cu}{ls:List (cj V.N)}(h:Hk V c S=some (σ,ls))(hok:Ct V c σ=true):Ent (az V S) (az V (build V c ls)):=by
 unfold Hk at h
 split at h
 ·rename_i σ0 l0 h0
  split at h
  ·rename_i σ1 l1 h1
   simp at h;obtain⟨rfl,rfl⟩:=h
   obtain⟨a1,a2,a3,vs',a4,a5,a6⟩:=ir h0
   obtain⟨b1,b2,os,b3,b4,b5,b6⟩:=bK h1
   have hinj:Inj σ1:=b2 (a2 λc c' n h=>by simp[gt]at h)
   simp only[Ct,Oy,OD]at hok
   obtain⟨⟨hg,hsl⟩,hob⟩:=hok
   have hbuild:build V c (l0++l1)={tmps:=(c.slots.map (·.1)).zip vs',own:=os}:=by
    unfold build
    rw[a5 l1]
    simp only[b4]
   rw[hbuild]
   let S':TS V.N:={tmps:=(c.slots.map (·.1)).zip vs',own:=os}
   have hown:∀n o,S'.own? n=some o->(n,o)∈os:=λn o ho=>bI ho
   have hkey:∀n,(c.objs.any λp=>Ph p.1 n)=true->∃o,S'.own? n=some o:=by
    intro n hn
    rw[PG]at hn
    obtain⟨p,hp,hpn⟩:=hn
    have hpn:p.1=n:=by simpa using hpn
    have hm:n∈os.map (·.1):=by rw[b6,<-hpn];exact OR hp
    exact fN hm
   intro C E M a w hs
   let E':Env:=λm=>match gt σ1 m with
    |some n=>E n
    |none=>E m
   have hE:∀k n,gt σ1 k=some n->E' k=E n:=λk n hk=>by simp only[E',hk]
   have ht:Tr σ1 c.objs E E' S.len S'.len:=by
    refine⟨hE,λk n hk hkn=> ?_⟩
    obtain⟨o,ho⟩:=hkey k hk
    obtain⟨n',o',q1,q2,q3,_⟩:=b5 k o (hown k o ho)
    rw[hkn]at q1;cases q1
    unfold TS.len;rw[ho,q2];exact q3
   have hob':∀p∈c.objs,match p.2 with| .box _ ps=>ps.all (u9 V c.objs)=true|_=>True:=by
    intro p hp
    have:=hob p hp
    cases hq:p.2 with
    |box oty ps=>rw[hq]at this;simpa using this
    |st i=>trivial
    |vec te e=>trivial
    |dvec te e out=>trivial
    |map tk tv=>trivial
    |iter=>trivial
    |miter m k v=>trivial
    |que te e=>trivial
    |maps te k v=>trivial
    |bar m e=>trivial
   have hfind:∀n o,(az V S').own? n=some o->∃n0 o0,gt σ1 n=some n0/\(az V S).own? n0=some o0/\(∀w,aJ E M w n0 o0->aJ E' M w n o)/\∀b,o.foot w (E' n) b->o0.foot w (E n0) b:=by
    intro n o ho
    rw[aH,PV]at ho
    obtain⟨o',ho',hoo⟩:=ho
    obtain⟨n0,o0,q1,q2,_,x,q4,x',q5,q6,q7⟩:=b5 n o' (hown n o' ho')
    rw[q5]at hoo
    simp only[Om]at hoo
    subst hoo
    exact⟨n0,x S.len,q1,by rw[aH,q2];exact q4 _,λw hw=>q6 σ1 c.objs E E' M w S.len S'.len (Sub.refl _) hob' ht hw,λb hb=>q7 E E' M w S.len S'.len b (hs.own n0 _ (by rw[aH,q2];exact q4 _)) (hE _ _ q1) hb⟩
   refine⟨E',M,{size:=hs.size,defers:=hs.defers,fixed:=hs.fixed,tmps:=λt x hx=> ?_,mem:=hs.mem,own:=λn o hn=> ?_,apart:=λn m o o' b hne hn hm hb=> ?_,home:=λn o b hn hb=> ?_,m0:=hs.m0,mnew:=hs.mnew,frame:=hs.frame,grows:=hs.grows,os:=hs.os,tape:=hs.tape,output:=hs.output,env:=λn hn=> ?_}⟩
   ·rw[bR,OB]at hx
    obtain⟨v',hv',rfl⟩:=hx
    obtain⟨i,g1,g2⟩:=Gs hv'
    have hi:i<(c.slots.map λp=>S.get p.1).length:=by rw[<-a4];exact(Ol.1 g2).1
    have hget:(c.slots.map λp=>S.get p.1)[i]?=some (S.get t):=by
     rw[Oq]at g1⊢
     cases hsl':c.slots[i]? with
     |none=>rw[hsl']at g1;cases g1
     |some p=>rw[hsl']at g1;simp at g1;subst g1;rfl
    obtain⟨k1,k2⟩:=a6 i _ v' hget g2
    have hgt:∃v,gt S.tmps t=some v/\S.get t=v:=by
     unfold TS.get at k1⊢
     cases hq:gt S.tmps t with
     |none=>rw[hq]at k1;exact(k1 rfl).elim
     |some v=>exact⟨v,rfl,rfl⟩
    obtain⟨v,hv1,hv2⟩:=hgt
    obtain⟨av,hav,hrep⟩:=hs.tmps t (ao V S.len v) (by rw[bR,hv1];rfl)
    refine⟨av,hav,k2 σ1 c.objs E E' M S.len S'.len av b1 ?_ ht (by rw[hv2];exact hrep)⟩
    rw[PL]
    exact OD.2 hsl
   ·obtain⟨n0,o0,q1,q2,q3⟩:=hfind n o hn
    exact q3.1 w (hs.own n0 _ q2)
   ·obtain⟨n0,o0,q1,q2,q3⟩:=hfind n o hn
    obtain⟨m0,o1,r1,r2,r3⟩:=hfind m o' hm
    intro hb'
    exact hs.apart n0 m0 _ _ b (λe=>by subst e;exact hne (hinj n m n0 q1 r1)) q2 r2 (q3.2 b hb) (r3.2 b hb')
   ·obtain⟨n0,o0,q1,q2,q3⟩:=hfind n o hn
    exact hs.home n0 _ b q2 (q3.2 b hb)
   ·cases hq:gt σ1 n with
    |none=>simp only[E',hq];exact hs.env n hn
    |some m=>
     have:=hg _ (bI hq)
     simp only[Pk,P8]at this
     rcases this with h|h
     ·omega
     ·have e:n=m:=by simpa using h
      rw[hE n m hq,<-e];exact hs.env n hn
  ·cases h
 ·cases h
end
end Go.Tx
end
