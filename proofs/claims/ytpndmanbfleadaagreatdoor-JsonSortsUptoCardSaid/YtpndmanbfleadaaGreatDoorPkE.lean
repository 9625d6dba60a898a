/-
  Texts of this claim, joined by a program of mine: what the theorem uses.
-/
import Derived.Test.YtpndmanbfleadaaGreatDoorPkD
import Derived.Scope
open Array renaming getElem?_append_left→Qw,getElem?_eq_getElem→OU,replicate→Qj,toList_inj→PZ
open Bool renaming and_eq_true→Oy,false_eq_true→Pe,not_eq_true'→Qy,not_false→PS,not_true→PK,or_eq_false_iff→PM
open Function renaming comp_apply→Qa
open List renaming all_cons→PC,all_eq_true→OD,all_map→PL,append_assoc→O9,append_nil→Pj,cons_append→OG,drop_append→Rj,drop_drop→PJ,drop_eq_nil_of_le→P2,drop_of_length_le→Rt,drop_zero→OZ,eq_nil_of_length_eq_zero→OL,eraseIdx_cons_succ→Rn,ext_getElem?→Pf,filterMap_cons→Qm,flatten_cons→O4,getElem?_append→RA,getElem?_cons_zero→PW,getElem?_drop→OX,getElem?_eq_some_iff→Ol,getElem?_map→Oq,getElem?_range→PP,getElem?_replicate→QS,getElem?_set→Pa,getElem?_take→OE,length→Qh,length_append→OJ,length_cons→O_,length_drop→O5,length_map→On,length_nil→Pv,length_replicate→P5,length_set→Pi,length_take→O1,map→Ry,map_append→O6,map_congr_left→OP,map_cons→Ow,map_drop→Pr,map_flatten→QY,map_id→RN,map_map→OQ,map_nil→O0,map_replicate→Qp,map_set→P1,map_take→Pq,mem_append_left→PY,mem_append_right→Qf,mem_cons→Oz,mem_cons_of_mem→Ot,mem_cons_self→Ox,mem_filter→Qr,mem_map→OT,mem_map_of_mem→OR,mem_of_mem_take→Pg,mem_replicate→Q4,nil_append→OM,nodup_cons→Pp,range→P9,replicate→Pc,take_append→Rg,take_append_drop→PH,take_append_of_le_length→PO,take_of_length_le→O8,take_take→Q2,take_zero→QK
open List.cons renaming injEq→PF
open Nat renaming add_zero→Pd,beq→Ph,beq_refl→Qo,ble→QR,blt→PQ,blt_eq→P8,div_add_mod→Qq,eq_of_beq_eq_true→O2,le_of_ble_eq_true→Qe,le_refl→OO,min_eq_left→PA,mul_comm→P0,mul_le_mul→QP,mul_le_mul_right→OH,sub_zero→Rf,succ_mul→OY,zero_add→OS
open Ne renaming symm→O3
open Option renaming bind_eq_some_iff→PV,bind_some→PX,getD_some→Pw,isSome_iff_exists→QN,isSome_map→Q9,map_eq_some_iff→OB,map_none→QE,map_some→OW
open Option.some renaming injEq→Om
open Prod.mk renaming injEq→OV
noncomputable section
set_option linter.unusedSectionVars false
set_option linter.unusedSimpArgs false
section
namespace Go.Tx
open Go.Awp
variable [Inhabited GMem]
theorem Ent.le{S S':ab}(ht:∀t x,gt S'.tmps t=some x->∃y,gt S.tmps t=some y/\H.le y x)(ho:∀n o,S'.own? n=some o->∃o',S.own? n=some o'/\OLe o' o):Ent S S':=
 λ_ E M _ _ hs=>⟨E,M,Sim.le hs ht ho⟩
theorem kH{a b c:H}(h:H.le a b)(k:H.le b c):H.le a c:=λE M v x=>k E M v (h E M v x)
mutual
theorem xn{n sz:Nat}{rows:List (List D)}:∀x:H,H.has n x=false->H.le (H.frz n sz rows x) x
 | .d x,_=>by simp only[H.frz];exact H.le.refl _
 | .junk,_=>by simp only[H.frz];exact H.le.refl _
 | .bp m o,_=>by simp only[H.frz];exact H.le.refl _
 | .vh m l,h=>by
  simp only[H.has]at h
  have:m≠n:=by intro e;subst e;simp at h
  simp only[H.frz]
  rw[RR (λe=>this e.1)]
  exact H.le.refl _
 | .ep m s i o,_=>by simp only[H.frz];exact H.le.refl _
 | .sv m s i o,_=>by simp only[H.frz];exact H.le.refl _
 | .mp m,_=>by simp only[H.frz];exact H.le.refl _
 | .np m b,_=>by simp only[H.frz];exact H.le.refl _
 | .sd m,_=>by simp only[H.frz];exact H.le.refl _
 | .agg cs,h=>by
  simp only[H.frz]
  simp only[H.has]at h
  exact kH (kT _) (FV (H.frzL_len ..) (frzL_le cs h))
 | .tup cs,h=>by
  simp only[H.frz]
  simp only[H.has]at h
  exact xW (H.frzL_len ..) (frzL_le cs h)
 | .fn f a b,_=>by simp only[H.frz];exact H.le.refl _
theorem frzL_le{n sz:Nat}{rows:List (List D)}:∀l:List H,H.hasL n l=false->∀(i:Nat) (x:H),l[i]?=some x->∃y,(H.frzL n sz rows l)[i]?=some y/\H.le y x
 |[],_,i,x,hx=>by simp at hx
 |y::r,h,0,x,hx=>by
  rw[H.hasL,PM]at h
  simp at hx;subst hx
  exact⟨H.frz n sz rows y,by simp[H.frzL],xn y h.1⟩
 |y::r,h,i+1,x,hx=>by
  rw[H.hasL,PM]at h
  obtain⟨z,h1,h2⟩:=frzL_le r h.2 i x (by simpa using hx)
  exact⟨z,by simpa[H.frzL]using h1,h2⟩
end
section
variable {V:jj}
theorem Bi{S:TS V.N}{n:Nat}{te:TypeId}{e:Ty V.ι}{xs:List (den V.N e)}(hn:S.own? n=some (.vec te e xs)):(S.frz V n e xs).len=S.len:=by
 funext m
 unfold TS.len
 unfold TS.own? at hn⊢
 unfold TS.frz
 simp only[af]
 by_cases hm:n=m
 ·subst hm;rw[RS rfl,hn];rfl
 ·rw[RR hm,fU (tF V n e xs)]
  cases gt S.own m with
  |none=>rfl
  |some o=>cases o<;>rfl
theorem vJ{S:TS V.N}{n:Nat}{te:TypeId}{e:Ty V.ι}{xs:List (den V.N e)}(hn:S.own? n=some (.vec te e xs))(v:TV V.N):
 H.le (H.frz n (tsz V.sz e) (xs.map λx=>aV V.sz V.enc e x) (ao V S.len v)) (ao V (S.frz V n e xs).len (Gr V n e xs v)):=by
 have other:∀v:TV V.N,H.le (H.frz n (tsz V.sz e) (xs.map λx=>aV V.sz V.enc e x) (ao V S.len v)) (ao V (S.frz V n e xs).len (if TV.has n v=true then .junk else v)):=by
  intro v
  split
  ·simp only[ao];exact H.le.junk _
  ·rename_i hh
   have hh:TV.has n v=false:=by simpa using hh
   rw[Bi hn]
   exact xn _ (by rw[iR];exact hh)
 unfold Gr
 split
 ·rename_i m
  by_cases hm:m=n
  ·subst hm
   rw[RS rfl]
   simp only[ao,aL,H.frz,dh hn,On,and_self,RO]
   exact H.le.refl _
  ·rw[RR hm]
   simp only[ao,H.frz]
   rw[RR (λe=>hm e.1),Bi hn]
   exact H.le.refl _
 ·exact other v
theorem Ho{S:TS V.N}{n:Nat}{te:TypeId}{e:Ty V.ι}{xs:List (den V.N e)}(hn:S.own? n=some (.vec te e xs))(v:TV V.N):
 H.le (H.frz n (tsz V.sz e) (xs.map λx=>aV V.sz V.enc e x) (ao V S.len v)) (ao V (S.frz V n e xs).len (L1 V n e xs v)):=by
 unfold L1
 split
 ·rename_i cs
  simp only[ao]
  refine kH ?_ (rM _)
  have hp:∀(l:List H),(∀(i:Nat) (x:H),(encL V (S.frz V n e xs).len (cs.map (Gr V n e xs)))[i]?=some x->∃y,l[i]?=some y/\H.le y x)->l.length=cs.length->
   H.le (.agg l) (.agg (encL V (S.frz V n e xs).len (cs.map (Gr V n e xs)))):=λl h hl=>FV (by rw[aK,On];exact hl) h
  have hfrz:∀(i:Nat) (x:H),(encL V (S.frz V n e xs).len (cs.map (Gr V n e xs)))[i]?=some x->
   ∃y,(encL V S.len cs)[i]?=some y/\H.le (H.frz n (tsz V.sz e) (xs.map λx=>aV V.sz V.enc e x) y) x:=by
   intro i x hx
   simp only[encL_map,Oq]at hx⊢
   cases hc:cs[i]? with
   |none=>rw[hc]at hx;cases hx
   |some c=>rw[hc]at hx;simp at hx;subst hx;exact⟨_,rfl,vJ hn c⟩
  unfold bA
  split
  ·rename_i ds hds
   obtain⟨g1,g2⟩:=eT hds
   simp only[H.frz]
   have e1:H.le (.d (.agg ds)) (.agg (encL V S.len cs)):=by
    have:=kT (encL V S.len cs)
    unfold bA at this
    rw[hds]at this;exact this
   refine kH e1 (hp _ (λi x hx=> ?_) (aK ..))
   obtain⟨y,hy,hle⟩:=hfrz i x hx
   refine⟨y,hy,?_⟩
   rw[g2]at hy
   cases hd:ds[i]? with
   |none=>rw[hd]at hy;cases hy
   |some d=>rw[hd]at hy;simp at hy;subst hy;simpa only[H.frz]using hle
  ·simp only[H.frz]
   refine kH (kT _) (hp _ (λi x hx=> ?_) (by rw[H.frzL_len,aK]))
   obtain⟨y,hy,hle⟩:=hfrz i x hx
   exact⟨_,by rw[H.frzL_get,hy];rfl,hle⟩
 ·exact vJ hn v
theorem Bh{S:TS V.N}{n:Nat}{te:TypeId}{e:Ty V.ι}{xs:List (den V.N e)}(hn:S.own? n=some (.vec te e xs)):Ent (az V S) (az V (S.frz V n e xs)):=by
 refine Ent.trans (Ent.freeze (cg hn)) (Ent.le (λt x hx=> ?_) λm o ho=> ?_)
 ·rw[bR]at hx
  simp only[TS.frz,fU]at hx
  cases hq:gt S.tmps t with
  |none=>rw[hq]at hx;cases hx
  |some v=>
   rw[hq]at hx;simp at hx;subst hx
   refine⟨_,by simp only[ab.frz,fU,bR,hq,OW],Ho hn v⟩
 ·rw[aH,PV]at ho
  obtain⟨o1,ho1,ho⟩:=ho
  have hown:(S.frz V n e xs).own? m=if n=m then some (.gone xs.length)else(S.own? m).map (tF V n e xs):=by
   unfold TS.own? TS.frz
   simp only[af]
   split
   ·rfl
   ·rw[fU (tF V n e xs)]
  rw[hown]at ho1
  by_cases hm:n=m
  ·rw[RS hm]at ho1;simp at ho1;subst ho1;simp[aZ]at ho
  ·rw[RR hm]at ho1
   cases hq:S.own? m with
   |none=>rw[hq]at ho1;cases ho1
   |some o0=>
    rw[hq]at ho1;simp at ho1;subst ho1
    have hsrc:∀x,aZ V S.len o0=some x->((az V S).frz n (tsz V.sz e) (xs.map λx=>aV V.sz V.enc e x)).own? m=some (Own.frz n (tsz V.sz e) (xs.map λx=>aV V.sz V.enc e x) x):=by
     intro x hx
     have:=aH S m
     rw[hq]at this
     simp only[PX,hx]at this
     unfold ab.own? at this⊢
     simp only[ab.frz,af]
     rw[RR hm,fU (λx:Option Own=>x.map (Own.frz n (tsz V.sz e) (xs.map λx=>aV V.sz V.enc e x)))]
     cases hg:gt (az V S).own m with
     |none=>rw[hg]at this;cases this
     |some oo=>rw[hg]at this;simp at this;subst this;rfl
    cases o0 with
    |gone l=>simp[tF,aZ]at ho
    |bst i y=>
     simp only[tF,aZ,Om]at ho
     subst ho
     refine⟨_,hsrc _ rfl,?_⟩
     simp only[Own.frz]
     refine OLe.box (.inr rfl) (by rw[H.frzL_len]) λi' x hx=> ?_
     refine⟨_,by rw[H.frzL_get,hx];rfl,?_⟩
     rw[Oq,OB]at hx
     obtain⟨d,_,rfl⟩:=hx
     exact xn _ (by simp[H.has])
    |vec te' e' ys=>
     simp only[tF,aZ,Om]at ho
     subst ho
     exact⟨_,hsrc _ rfl,OLe.refl _⟩
    |dvec te' e' ys=>
     simp only[tF,aZ,Om]at ho
     subst ho
     exact⟨_,hsrc _ rfl,OLe.refl _⟩
    |pvec te' e' ys=>
     simp only[tF,aZ,Om]at ho
     subst ho
     exact⟨_,hsrc _ rfl,OLe.refl _⟩
    |map tk tv es=>
     simp only[tF,aZ,Om]at ho
     subst ho
     exact⟨_,hsrc _ rfl,OLe.refl _⟩
    |iter s p=>
     simp only[tF,aZ,Om]at ho
     subst ho
     exact⟨_,hsrc _ rfl,OLe.refl _⟩
    |miter m k v es rest cur=>
     simp only[tF,aZ,Om]at ho
     subst ho
     exact⟨_,hsrc _ rfl,OLe.refl _⟩
    |que te' e' ys=>
     simp only[tF,aZ,Om]at ho
     subst ho
     exact⟨_,hsrc _ rfl,OLe.refl _⟩
    |maps te' tk tv es al=>
     simp only[tF,aZ,Om]at ho
     subst ho
     refine⟨_,hsrc _ rfl,?_⟩
     cases al<;>exact OLe.refl _
    |alias m'=>simp[tF,aZ]at ho
    |bar k e' y=>
     simp only[tF,aZ,Om]at ho
     subst ho
     refine⟨_,hsrc _ rfl,?_⟩
     simp only[Own.frz]
     refine OLe.box (.inr rfl) (by rw[H.frzL_len]) λi' x hx=> ?_
     refine⟨_,by rw[H.frzL_get,hx];rfl,?_⟩
     rw[Oq,OB]at hx
     obtain⟨d,_,rfl⟩:=hx
     exact xn _ (by simp[H.has])
    |box oty cells=>
     simp only[tF,aZ,Om]at ho
     subst ho
     refine⟨_,hsrc _ rfl,?_⟩
     simp only[Own.frz]
     refine OLe.box (.inr rfl) (by rw[H.frzL_len,aK,aK,On]) λi x hx=> ?_
     simp only[encL_map,Oq]at hx
     cases hc:cells[i]? with
     |none=>rw[hc]at hx;cases hx
     |some c=>
      rw[hc]at hx;simp at hx;subst hx
      exact⟨_,by rw[H.frzL_get,encL_map,Oq,hc];rfl,vJ hn c⟩
theorem Ent.tle{S S':TS V.N}(hl:S'.len=S.len)(ht:∀t v,gt S'.tmps t=some v->gt S.tmps t=some v)
 (ho:∀n o x,S'.own? n=some o->aZ V S.len o=some x->∃o' x',S.own? n=some o'/\aZ V S.len o'=some x'/\OLe x' x):Ent (az V S) (az V S'):=by
 refine Ent.le (λt x hx=> ?_) λn x hx=> ?_
 ·rw[bR,OB]at hx
  obtain⟨v,hv,rfl⟩:=hx
  exact⟨_,by rw[bR,ht t v hv];rfl,by rw[hl];exact H.le.refl _⟩
 ·rw[aH,PV]at hx
  obtain⟨o,ho1,ho2⟩:=hx
  rw[hl]at ho2
  obtain⟨o',x',h1,h2,h3⟩:=ho n o x ho1 ho2
  exact⟨x',by rw[aH,h1];exact h2,h3⟩
theorem gM{S:TS V.N}{n:Nat}{te:TypeId}{e:Ty V.ι}{xs:List (den V.N e)}(h:S.own? n=some (.dvec te e xs)):
 (az V S).own? n=some (.dvec te (tsz V.sz e) (xs.map λx=>bT V.sz V.enc V.tid V.encd e x)):=by rw[aH,h];rfl
theorem m9{S:TS V.N}{n:Nat}{te:TypeId}{e:Ty V.ι}{xs:List (Option (den V.N e))}(h:S.own? n=some (.pvec te e xs)):
 (az V S).own? n=some (.dvec te (tsz V.sz e) (xs.map λx=>p6 V e x)):=by rw[aH,h];rfl
theorem xF(S:TS V.N)(n:Nat)(o:TO V.N)(m:Nat):({S with own:=(n,o)::S.own}:TS V.N).own? m=if n=m then some o else S.own? m:=by
 unfold TS.own?
 rw[af]
theorem Hi{S:TS V.N}{n:Nat}{te:TypeId}{e:Ty V.ι}{ys:List (den V.N e)}(hn:S.own? n=some (.dvec te e ys)):
 Ent (az V S) (az V {S with own:=(n, .vec te e ys)::S.own}):=λC E M a w hs=>by
 obtain⟨M',h1⟩:=hs.dfrz (gM hn) (sk ys)
 refine⟨E,M',?_⟩
 have hl:({S with own:=(n, .vec te e ys)::S.own}:TS V.N).len=S.len:=by
  funext m
  unfold TS.len
  rw[xF]
  by_cases h:n=m
  ·subst h;rw[RS rfl,hn];simp[TO.len]
  ·rw[RR h]
 have:az V {S with own:=(n, .vec te e ys)::S.own}={az V S with own:=(n,some (.vec te (tsz V.sz e) (ys.map λx=>aV V.sz V.enc e x)))::(az V S).own}:=by
  unfold az
  rw[hl]
  rfl
 rw[this]
 exact h1
theorem Bg(S:TS V.N)(v:TV V.N):Ent (az V S) (az V (Hn V S v)):=by
 unfold Hn
 split
 ·rename_i n
  split
  ·rename_i te e xs hn;exact Bh hn
  ·rename_i te e ys hn
   exact Ent.trans (Hi hn) (Bh (by rw[xF,RS rfl]))
  ·exact Ent.refl _
 ·exact Ent.refl _
theorem Cr{S1 S2:TS V.N}{n:Nat}{te:TypeId}{e:Ty V.ι}(ht:S2.tmps=S1.tmps)(h1:S1.own? n=some (.vec te e []))(h2:S2.own? n=some (.dvec te e []))(h3:∀k,k≠n->S2.own? k=S1.own? k):Ent (az V S1) (az V S2):=by
 have hl:S2.len=S1.len:=by
  funext m
  unfold TS.len
  by_cases h:m=n
  ·subst h;rw[h1,h2];rfl
  ·rw[h3 m h]
 refine Ent.tle hl (λt v hv=>by rw[<-ht];exact hv) λk o x hk hx=> ?_
 by_cases h:k=n
 ·subst h
  rw[h2]at hk;cases hk
  simp only[aZ,O0,Om]at hx;subst hx
  exact⟨_,_,h1,rfl,by simpa using (OLe.v2d (e:=te) (sz:=tsz V.sz e) (rows:=[]))⟩
 ·rw[h3 k h]at hk
  exact⟨o,x,hk,hx,OLe.refl _⟩
theorem dp:∀(l:List (TV V.N)) (S:TS V.N),Ent (az V S) (az V (frzL V S l))
 |[],_=>Ent.refl _
 |v::r,S=>Ent.trans (Bg S v) (dp r _)
theorem qC(te:TypeId)(e:Ty V.ι)(S:TS V.N)(t:Nat):Ent (az V S) (az V (wg V false te e S t)):=by
 unfold wg JJ
 simp only
 split
 ·rename_i ht
  split
  ·rename_i hf
   obtain⟨hf,hg⟩:=hf
   have hg:60000+t<given:=by simpa[P8]using hg
   have h1:gt (az V S).tmps t=some (.d (.v (.slice none 0 0))):=by rw[bR,ht];simp[ao,bx]
   have h2:(az V S).fresh (60000+t)=true:=ed hf
   refine Ent.trans (Ent.nilvec (e:=te) (sz:=tsz V.sz e) h1 h2 hg) λC E M a w hs=>⟨E,M,?_⟩
   exact Sim.tapp (V:=V) (S:=S) (dst:=some t) (te:={val:= .vh (60000+t),upd:=[(60000+t, .vec te e [])],new:=[60000+t]}) (ex:=false)
    (e':={val:= .vh (60000+t) 0,upd:=[(60000+t,some (.vec te (tsz V.sz e) []))],new:=[60000+t]}) (λm o hm=>by
      simp only[af]at hm
      split at hm
      ·rename_i e;left;simp[e]
      ·simp[gt]at hm) (λd hd=>by simp at hd;subst hd;exact hf) (bq (by
      simp only[ao]
      rw[bX]
      simp[af,TO.len]) rfl (by simp[aZ]) rfl) hs
  ·exact Ent.refl _
 ·exact Ent.refl _
theorem oG(dv:Bool)(te:TypeId)(e:Ty V.ι)(S:TS V.N)(t:Nat):Ent (az V S) (az V (wg V dv te e S t)):=by
 cases dv with
 |false=>exact qC te e S t
 |true=>
  refine Ent.trans (qC te e S t) ?_
  unfold wg JJ
  simp only
  split
  ·split
   ·refine Cr (n:=60000+t) (te:=te) (e:=e) rfl ?_ ?_ λk hk=> ?_<;>unfold TS.own?<;>simp only[af]
    ·simp
    ·simp
    ·rw[RR (O3 hk),RR (O3 hk)]
   ·exact Ent.refl _
  ·exact Ent.refl _
theorem en(objs:List (Nat×OPt V.ι)):∀(l:List (Nat×Pt V.ι)) (S:TS V.N),Ent (az V S) (az V (sI V objs S l))
 |[],_=>Ent.refl _
 |(t, .vh c)::r,S=>by
  simp only[sI]
  split
  ·exact Ent.trans (oG _ _ _ S t) (en objs r _)
  ·exact Ent.trans (oG _ _ _ S t) (en objs r _)
  ·exact en objs r S
 |(t, .dat ty)::r,S=>by
  simp only[sI]
  exact Ent.trans (dp _ S) (en objs r _)
 |(t, .bp c off)::r,S=>by simp only[sI];exact en objs r S
 |(t, .mp c)::r,S=>by simp only[sI];exact en objs r S
 |(t, .np c)::r,S=>by simp only[sI];exact en objs r S
 |(t, .nif)::r,S=>by simp only[sI];exact en objs r S
 |(t, .sv c z)::r,S=>by simp only[sI];exact en objs r S
 |(t, .ag cs)::r,S=>by
  simp only[sI]
  exact Ent.trans (dp _ S) (en objs r _)
 |(t, .fn f a b)::r,S=>by simp only[sI];exact en objs r S
theorem oH(te:TypeId)(e:Ty V.ι)(S:TS V.N)(b i:Nat):Ent (az V S) (az V (qD V false te e S b i)):=by
 unfold qD JJ
 simp only
 split
 ·rename_i oty cells hb
  split
  ·rename_i hc
   split
   ·rename_i hf
    obtain⟨hf,hg⟩:=hf
    generalize hn:70000+S.own.length=n at hf hg⊢
    have hg:n<given:=by simpa[P8]using hg
    have h1:(az V S).own? b=some (.box oty (encL V S.len cells)):=by rw[aH,hb];rfl
    have h2:(encL V S.len cells)[i]?=some (.d (.v (.slice none 0 0))):=by rw[encL_map,Oq,hc];simp[ao,bx]
    have hfr:=hf
    unfold TS.fresh at hfr
    simp only[Oy,OD]at hfr
    obtain⟨⟨f1,f2⟩,f3⟩:=hfr
    have hbn:b≠n:=by
     rintro rfl
     rw[hb]at f1;cases f1
    have hcn:TV.hasL n cells=false:=by
     have:=f3 (b, .box oty cells) (bI hb)
     simpa[TO.has]using this
    refine Ent.trans (Ent.nilcell (e:=te) (sz:=tsz V.sz e) h1 h2 (ed hf) hg) λC E M a w hs=>⟨E,M,?_⟩
    refine Sim.tapp (V:=V) (S:=S) (dst:=none) (te:={val:= .junk,upd:=[(b, .box oty (cells.set i (.vh n))),(n, .vec te e [])],new:=[n]}) (ex:=false)
     (e':={val:= .junk,upd:=[(b,some (.box oty ((encL V S.len cells).set i (.vh n 0)))),(n,some (.vec te (tsz V.sz e) []))],new:=[n]}) (λm o hm=> ?_) (λd hd=>by simp at hd;subst hd;exact hf) (bq ?_ rfl ?_ rfl) hs
    ·simp only[af]at hm
     split at hm
     ·rename_i e1
      right
      simp at hm;subst hm;subst e1
      unfold TS.len
      rw[hb];rfl
     ·split at hm
      ·rename_i e1;left;simp[e1]
      ·simp[gt]at hm
    ·simp[ao]
    ·simp only[Ow,O0,aZ]
     have hl:∀m,(S.app none ({val:= .junk,upd:=[(b, .box oty (cells.set i (.vh n))),(n, .vec te e [])],new:=[n]}:TE V.N)).len m=if m=n then 0 else S.len m:=by
      intro m
      rw[bX]
      simp only[af]
      by_cases hmb:b=m
      ·subst hmb
       rw[RS rfl,RR hbn]
       simp only[TO.len]
       unfold TS.len;rw[hb];rfl
      ·rw[RR hmb]
       by_cases hmn:n=m
       ·subst hmn;simp[TO.len]
       ·rw[RR hmn,RR (λe=>hmn e.symm)];rfl
     have hcells:encL V (S.app none ({val:= .junk,upd:=[(b, .box oty (cells.set i (.vh n))),(n, .vec te e [])],new:=[n]}:TE V.N)).len (cells.set i (.vh n))=(encL V S.len cells).set i (.vh n 0):=by
      rw[encL_map,P1,encL_map]
      congr 1
      ·rw[<-encL_map,<-encL_map]
       refine encL_congr cells λm hm=> ?_
       rw[hl,RR]
       rintro rfl
       rw[hcn]at hm;cases hm
      ·simp only[ao]
       rw[hl,RS rfl]
     rw[hcells]
   ·exact Ent.refl _
  ·exact Ent.refl _
 ·exact Ent.refl _
theorem qE(dv:Bool)(te:TypeId)(e:Ty V.ι)(S:TS V.N)(b i:Nat):Ent (az V S) (az V (qD V dv te e S b i)):=by
 cases dv with
 |false=>exact oH te e S b i
 |true=>
  refine Ent.trans (oH te e S b i) ?_
  unfold qD JJ
  simp only
  split
  ·rename_i oty cells hb
   split
   ·split
    ·rename_i hf
     have hbn:b≠70000+S.own.length:=λe=>by
      have h1:=hf.1
      unfold TS.fresh at h1
      simp only[Oy]at h1
      rw[<-e,hb]at h1;exact absurd h1.1.1 (by simp)
     refine Cr (n:=70000+S.own.length) (te:=te) (e:=e) rfl ?_ ?_ λk hk=> ?_<;>unfold TS.own?<;>simp only[af]
     ·rw[RR hbn];simp
     ·rw[RR hbn];simp
     ·rw[RR (O3 hk),RR (O3 hk)]
    ·exact Ent.refl _
   ·exact Ent.refl _
  ·exact Ent.refl _
theorem b9(objs:List (Nat×OPt V.ι))(b:Nat):∀(l:List (Pt V.ι)) (i:Nat) (S:TS V.N),Ent (az V S) (az V (eS V objs b i l S))
 |[],_,_=>Ent.refl _
 | .vh c::r,i,S=>by
  simp only[eS]
  split
  ·exact Ent.trans (qE _ _ _ S b i) (b9 objs b r _ _)
  ·exact Ent.trans (qE _ _ _ S b i) (b9 objs b r _ _)
  ·exact b9 objs b r _ S
 | .dat ty::r,i,S=>by simp only[eS];exact Ent.trans (dp _ S) (b9 objs b r _ _)
 | .bp c off::r,i,S=>by simp only[eS];exact b9 objs b r _ S
 | .mp c::r,i,S=>by simp only[eS];exact b9 objs b r _ S
 | .np c::r,i,S=>by simp only[eS];exact b9 objs b r _ S
 | .nif::r,i,S=>by simp only[eS];exact b9 objs b r _ S
 | .sv c z::r,i,S=>by simp only[eS];exact b9 objs b r _ S
 | .ag cs::r,i,S=>by simp only[eS];exact b9 objs b r _ S
 | .fn f x y::r,i,S=>by simp only[eS];exact b9 objs b r _ S
theorem zr(objs:List (Nat×OPt V.ι))(c b:Nat)(S:TS V.N):Ent (az V S) (az V (CF V objs c b S)):=by
 unfold CF
 split
 ·exact b9 objs b _ 0 S
 ·split
  ·exact dp _ S
  ·exact Ent.refl _
 ·exact Ent.refl _
theorem xI(objs:List (Nat×OPt V.ι)):∀(m:Nat) (l:List (Nat×Nat)) (S:TS V.N),Ent (az V S) (az V (JL V objs m l S))
 |0,_,_=>by simp only[JL];exact Ent.refl _
 |_+1,[],_=>by simp only[JL];exact Ent.refl _
 |m+1,(c,b)::r,S=>by simp only[JL];exact Ent.trans (zr objs c b S) (xI objs m _ _)
theorem EU(objs:List (Nat×OPt V.ι))(l:List (Nat×Pt V.ι))(S:TS V.N):Ent (az V S) (az V (Mv V objs S l)):=by
 unfold Mv
 split
 ·exact en _ l S
 ·exact Ent.trans (en _ l S) (xI _ _ _ _)
theorem db{c:Cut V.ι}{S:TS V.N}{v:HL V.N c.tys}(h:xh V c S=some v):Ent (az V S) (az V (bi V c v)):=by
 unfold xh at h
 split at h
 ·rename_i σ ls hx
  obtain⟨hok,h⟩:=ah h
  have:=sG h
  unfold bi
  rw[this]
  exact Ent.trans (EU c.objs c.slots S) (Hh hx hok)
 ·cases h
end
end Go.Tx
end
section
namespace Go.Tx
open Go.Awp
variable [Inhabited GMem]
theorem Ab(x:D):DD.toL [.d x]=some [x]:=by simp[DD.toL,DD.toD]
theorem Np{t z:Nat}{rows:List (List DD)}{ds:List (List D)}(h:DD.toR rows=some ds):DD.toL [.sl t z rows]=some [.sl z ds]:=by simp[DD.toL,DD.toD,h]
theorem Nq{r:List DD}{s:List (List DD)}{x:List D}{y:List (List D)}(h:DD.toL r=some x)(h':DD.toR s=some y):DD.toR (r::s)=some (x::y):=by simp[DD.toR,h,h']
theorem Nr{α:Type}{f:α->List DD}{g:α->List D}(h:∀x,DD.toL (f x)=some (g x)):∀l:List α,DD.toR (l.map f)=some (l.map g)
 |[]=>by simp[DD.toR]
 |x::r=>Nq (h x) (Nr h r)
section
variable (V:jj)
def JK:Ty V.ι->Bool
 | .st i=>V.flat i
 | .sl _=>false
 | .ar _ e=>JK e
 |_=>true
def uy(e:Ty V.ι)(ys:List (den V.N e)):TO V.N:=match JK V e with
 |true=> .vec (V.tid e) e ys
 |false=> .dvec (V.tid e) e ys
def gm(b:Nat):Nat->List (cj V.N)->List (TV V.N)×List (Nat×TO V.N)
 |_,[]=>([],[])
 |j,l::r=>match l with
  |⟨.sl e,ys⟩=>(.vh (xQ b j)::(gm b (j+1) r).1,(xQ b j,uy V e ys)::(gm b (j+1) r).2)
  |⟨t,x⟩=>(.lf t x::(gm b (j+1) r).1,(gm b (j+1) r).2)
def nin(n:Nat):List Nat->Bool
 |[]=>true
 |k::r=> !Ph k n&&nin n r
def vB:List Nat->Bool
 |[]=>true
 |k::r=>nin k r&&vB r
def Kf{α:Type}:List α->Bool
 |[]=>true
 |_::_=>false
def Iy(ag:Bool)(ot:Option (Ty V.ι))(vs:List (TV V.N)):Option (TV V.N):=match ag with
 |true=>some (mkV V true ot vs)
 |false=>match vs with
  |[v]=>some v
  |_=>none
variable (P:Program) (nm:Nat->Nat)
def El{A:Type}(t:TypeId)(ag:Bool)(sz n s i off d:Nat)(te:TypeId)(e:Ty V.ι)(xs:List (Option (den V.N e)))(y:den V.N e)(k:TE V.N->Option A):Option A:=
 if s=tsz V.sz e/\off+fX ag sz<=s then match gm V (nm d) off (((aN V e y).drop off).take (fX ag sz))with
  |(vs,os)=>match Iy V ag (V.ty t) vs,vB (os.map (·.1))with
   |some v,true=>match Kf os with
    |true=>k {val:=v,acc:=[n]}
    |false=>k {val:=v,acc:=[n],upd:=(n, .pvec te e (xs.set i none))::os,new:=os.map (·.1)}
   |_,_=>none
 else none
def Dk{A:Type}(t:TypeId)(x:Operand)(dst:Option Tmp)(S:TS V.N)(k:TE V.N->Option A):Option A:=match bu P t,tev S x,dst with
 |some (ag,sz), .ep n s i off,some d=>match S.own? n with
  |some (.dvec te e ys)=>ys[i]?>>=λy=>El V nm t ag sz n s i off d te e (ys.map some) y k
  |some (.pvec te e xs)=>xs[i]?>>=λox=>ox>>=λy=>El V nm t ag sz n s i off d te e xs y k
  |_=>none
 |_,_,_=>none
def give1(S:TS V.N):Ty V.ι->TV V.N->Option (cj V.N×Option Nat)
 | .sl e, .vh n=>match S.own? n with
  |some (.vec te e' xs)=>if te=V.tid e'/\e'=e/\JK V e'=true then some (⟨.sl e',xs⟩,some n)else none
  |some (.dvec te e' ys)=>if te=V.tid e'/\e'=e then some (⟨.sl e',ys⟩,some n)else none
  |_=>none
 | .sl e, .raw (.slice none 0 0)=>some (⟨.sl e,[]⟩,none)
 | .sl _,_=>none
 |t, .lf t' x=>if t'=t then some (⟨t',x⟩,none)else none
 |_,_=>none
def tG(S:TS V.N):List (Ty V.ι)->List (TV V.N)->Option (List (cj V.N)×List (Option Nat))
 |[],[]=>some ([],[])
 |t::ts,v::vs=>match give1 V S t v,tG S ts vs with
  |some (l,n),some (ls,ns)=>some (l::ls,n::ns)
  |_,_=>none
 |_,_=>none
def AY:Ty V.ι->List (Ty V.ι)
 | .st i=>V.tys i
 |t=>[t]
def xP{A:Type}(s sz n:Nat)(e:Ty V.ι)(cs:List (TV V.N))(S:TS V.N)(k:den V.N e->List Nat->Option A):Option A:=
 if s=tsz V.sz e/\sz=s/\cs.length=s/\cs.all TV.one=true then match tG V S (AY V e) cs with
  |some (ls,ns)=>match i6 V e ls with
   |some y=>match vB (fy ns)&&nin n (fy ns)with
    |true=>k y (fy ns)
    |false=>none
   |none=>none
  |none=>none
 else none
def tH(S:TS V.N)(ns:List Nat):List (Nat×TO V.N):=ns.map λm=>(m, .gone (S.len m))
def wT{A:Type}(t:TypeId)(x y:Operand)(S:TS V.N)(k:TE V.N->Option A):Option A:=match bu P t,tev S x,TV.cells V (tev S y)with
 |some (_,sz), .ep n s i 0,some cs=>match S.own? n with
  |some (.dvec te e ys)=>ys[i]?>>=λ_=>xP V s sz n e cs S λy ns=>k {val:= .junk,acc:=n::ns,upd:=(n, .dvec te e (ys.set i y))::tH V S ns}
  |some (.pvec te e xs)=>xs[i]?>>=λ_=>xP V s sz n e cs S λy ns=>JT (xs.set i (some y))>>=λys=>k {val:= .junk,acc:=n::ns,upd:=(n, .dvec te e ys)::tH V S ns}
  |_=>none
 |_,_,_=>none
def wH{A:Type}(t:TypeId)(len:Nat)(parts:List (Nat×Operand))(dst:Option Tmp)(S:TS V.N)(k:TE V.N->Option A):Option A:=match parts,dst,bg P t,V.ty t with
 |[(0,x)],some d,some (te,sz,_),some (.sl e)=>match TV.cells V (tev S x)with
  |some cs=>if len=1/\sz=tsz V.sz e/\sz<=16777216/\cs.length=sz then match tG V S (AY V e) cs with
   |some (ls,ns)=>match i6 V e ls with
    |some y=>match vB (fy ns)with
     |true=>k {val:= .vh (nm d),acc:=fy ns,upd:=(nm d, .dvec te e [y])::tH V S (fy ns),new:=[nm d]}
     |false=>none
    |none=>none
   |none=>none
   else none
  |none=>none
 |_,_,_,_=>none
def Ji{A:Type}(args:List (TV V.N))(tys:List TypeId)(dst:Option Tmp)(S:TS V.N)(k:TE V.N->Option A):Option A:=match args,tys,dst with
 |[x, .vh n2],[t,t'],some d=>match bg P t,S.own? n2 with
  |some (te,sz,bytes),some (.dvec te2 e ys)=>if t=t'/\te=te2/\sz=tsz V.sz e/\bytes<=32768/\¬n2=nm d then match x with
   | .vh n=>if¬n=nm d/\¬n=n2 then match S.own? n with
     |some (.dvec te1 e1 xs)=>if h:e=e1 then
      if te1=te then
       if xs.length+ys.length<=most then k {val:= .vh (nm d),acc:=[n,n2],upd:=[(nm d, .dvec te e1 (xs++h▸ys)),(n, .gone (S.len n)),(n2, .gone (S.len n2))],new:=[nm d]}else none
      else none
      else none
     |some (.pvec te1 e1 xs)=>if h:e=e1 then
      if te1=te then
       if xs.length+ys.length<=most then k {val:= .vh (nm d),acc:=[n,n2],upd:=[(nm d, .pvec te e1 (xs++h▸ys.map some)),(n, .gone (S.len n)),(n2, .gone (S.len n2))],new:=[nm d]}else none
      else none
      else none
     |_=>none
    else none
   | .raw (.slice none 0 0)=>if ys.length<=most then k {val:= .vh (nm d),acc:=[n2],upd:=[(nm d, .dvec te e ys),(n2, .gone (S.len n2))],new:=[nm d]}else none
   |_=>none
   else none
  |_,_=>none
 |_,_,_=>none
def Js{A:Type}(t:TypeId)(x i:Operand)(S:TS V.N)(k:TE V.N->Option A):Option A:=match bg P t,tev S x,tev S i with
 |some (_,sz,_), .vh m, .lf (.int _) n=>match S.own? m with
  |some (.dvec _ _ xs)=>if 0<=n/\n<xs.length then k {val:= .ep m sz n.toNat 0,acc:=[m]}else none
  |some (.pvec _ _ xs)=>if 0<=n/\n<xs.length then k {val:= .ep m sz n.toNat 0,acc:=[m]}else none
  |_=>none
 |_,_,_=>none
def Jo{A:Type}(t:TypeId)(x:Operand)(lo hi mx:Option Operand)(S:TS V.N)(k:TE V.N->Option A):Option A:=match mx,bg P t,tev S x with
 |none,some (_,sz,_), .vh n=>match S.own? n with
  |some (.vec _ e xs)=>match FZ V S lo 0,FZ V S hi xs.length with
   |some l,some h=>if sz=tsz V.sz e then if 0<=l/\l<=h/\h<=xs.length then k {val:= .sv n sz l.toNat (h.toNat-l.toNat),acc:=[n]}else none else none
   |_,_=>none
  |_=>none
 |_,_,_=>none
def Di{A:Type}(args:List (TV V.N))(tys:List TypeId)(dst:Option Tmp)(S:TS V.N)(k:TE V.N->Option A):Option A:=match args,tys,dst with
 |[.sv n sz lo i, .sv n2 sz2 j len],[t,t'],some d=>match bg P t,S.own? n with
  |some (te,sz',_),some (.vec te1 e xs)=>if((t=t'/\te=te1)/\(sz'=tsz V.sz e/\sz=sz')/\(sz2=sz'/\n2=n))/\(lo=0/\len=xs.length-j)/\(i<=j/\j<=xs.length/\0<xs.length)then
   k {val:= .vh (nm d),acc:=[n],upd:=[(nm d, .vec te1 e (xs.take i++xs.drop j)),(n, .gone (S.len n))],new:=[nm d]}
   else none
  |_,_=>none
 |_,_,_=>none
def lO(b:Nat):Nat->List (Ty V.ι)->List Value->List (TV V.N)×List (Nat×TO V.N)
 |j,t::ts,z::zs=>match t,z with
  | .sl e, .slice none 0 0=>(.vh (xQ b j)::(lO b (j+1) ts zs).1,(xQ b j,uy V e [])::(lO b (j+1) ts zs).2)
  |_,z=>(tvc z::(lO b (j+1) ts zs).1,(lO b (j+1) ts zs).2)
 |_,_,zs=>(zs.map tvc,[])
def Dn{A:Type}(t:TypeId)(parts:List (Nat×Operand))(dst:Option Tmp)(k:TE V.N->Option A):Option A:=match parts,gn P t,places P t with
 |[],some z,some _=>match V.ty t,dst with
  |some (.st i),some d=>match z.all ct,lO V d 0 (V.tys i) z with
   |true,(vs,os)=>match vB (os.map (·.1))with
    |true=>k {val:= .agg vs,acc:=[],upd:=os,new:=os.map (·.1)}
    |false=>none
   |false,_=>none
  |_,_=>none
 |_,_,_=>none
def isD:Option (TO V.N)->Bool
 |some (.dvec ..)=>true
 |some (.pvec ..)=>true
 |_=>false
def J5(pre:Nat->Bool)(o:Oper)(S:TS V.N):Bool:=match o.op with
 | .load _ x=>match tev S x with
  | .ep n _ _ _=>isD V (S.own? n)
  |_=>false
 | .store _ x _=>match tev S x with
  | .ep n _ _ _=>isD V (S.own? n)
  |_=>false
 | .indexAddr _ x _=>match tev S x with
  | .vh n=>isD V (S.own? n)
  |_=>false
 | .buildSlice _ _ _=>match o.dst with
  |some d=>pre (1000000+d)
  |none=>false
 | .call c=>match c.callee with
  | .builtin .append=>match c.args.toList with
   |[_,y]=>match tev S y with
    | .vh n=>isD V (S.own? n)
    | .sv .. =>true
    |_=>false
   |_=>false
  |_=>false
 | .slice _ _ _ _ _=>match o.dst with
  |some d=>pre (3000000+d)
  |none=>false
 | .build _ parts=>match parts.toList,o.dst with
  |[],some d=>pre (1000000+d)
  |_,_=>false
 |_=>false
def Jq{A:Type}(o:Oper)(S:TS V.N)(k:TE V.N->Option A):Option A:=match o.op with
 | .load t x=>Dk V P nm t x o.dst S k
 | .store t x y=>wT V P t x y S k
 | .indexAddr t x i=>Js V P t x i S k
 | .buildSlice t len parts=>wH V P nm t len parts.toList o.dst S k
 | .call c=>match c.callee with
  | .builtin .append=>match c.args.toList.map (tev S)with
   |[_, .sv ..]=>Di V P nm (c.args.toList.map (tev S)) c.argTypes.toList o.dst S k
   |_=>Ji V P nm (c.args.toList.map (tev S)) c.argTypes.toList o.dst S k
  |_=>none
 | .slice t x lo hi mx=>Jo V P t x lo hi mx S k
 | .build t parts=>Dn V P t parts.toList o.dst k
 |_=>none
end
section
variable {V:jj}
theorem lH:∀{e:Ty V.ι} (_:JK V e=true) (y:den V.N e),bT V.sz V.enc V.tid V.encd e y=(aV V.sz V.enc e y).map .d
 | .st i,h,y=>by
  simp only[bT,aV]
  rw[V.encd_cells,V.enc_cells,OQ]
  refine OP λl hl=> ?_
  have:=V.flat_cells i y h l hl
  obtain⟨t,x⟩:=l
  cases t<;>first|rfl|simp[Ty.isSl]at this
 | .sl e,h,_=>by simp[JK]at h
 | .ar n e,h,xs=>by
  simp only[JK]at h
  simp only[bT,aV,ve,QY,OQ]
  congr 2
  exact OP λx _=>lH h x
 | .int _,_,_=>rfl
 | .bool,_,_=>rfl
 | .str,_,_=>rfl
 | .mp _ _,_,_=>rfl
 | .er,_,_=>rfl
 | .op _,_,_=>rfl
 | .fnc,_,_=>rfl
 | .fno,_,_=>rfl
theorem EH(e:Ty V.ι)(ys:List (den V.N e)):∃o,(∀ω,aZ V ω (uy V e ys)=some o)/\OLe (.dvec (V.tid e) (tsz V.sz e) (ys.map λx=>bT V.sz V.enc V.tid V.encd e x)) o:=by
 unfold uy
 split
 ·rename_i h
  refine⟨_,λ_=>rfl,?_⟩
  have:(ys.map λx=>bT V.sz V.enc V.tid V.encd e x)=(ys.map λx=>aV V.sz V.enc e x).map λr=>r.map .d:=by
   rw[OQ]
   exact OP λx _=>lH h x
  rw[this]
  exact OLe.d2v
 ·exact⟨_,λ_=>rfl,OLe.refl _⟩
theorem uz(e:Ty V.ι)(ys:List (den V.N e)):TO.len (some (uy V e ys))=ys.length:=by
 unfold uy
 split<;>rfl
theorem fj:∀(e:Ty V.ι) (y:den V.N e),bT V.sz V.enc V.tid V.encd e y=(aN V e y).map λl=>fi V.sz V.enc V.tid V.encd l.t l.x
 | .st i,y=>by simp only[bT,aN];exact V.encd_cells i y
 | .sl e,_=>rfl
 | .ar n e,xs=>by
  simp only[bT,aN,ve,QY,OQ]
  congr 2
  exact OP λx _=>fj e x
 | .int _,_=>rfl
 | .bool,_=>rfl
 | .str,_=>rfl
 | .mp _ _,_=>rfl
 | .er,_=>rfl
 | .op _,_=>rfl
 | .fnc,_=>rfl
 | .fno,_=>rfl
theorem pw(b:Nat):∀(ls:List (cj V.N)) (j:Nat),∃hs os os' ds,lq (xQ b) j (ls.map λl=>fi V.sz V.enc V.tid V.encd l.t l.x)=some (hs,os,ds)/\PLe os os'/\(∀ω,os'.map (λp=>(p.1,some p.2))=(gm V b j ls).2.map λp=>(p.1,aZ V ω p.2))/\
 (∀ω:Nat->Nat,(∀p∈(gm V b j ls).2,ω p.1=TO.len (some p.2))->hs=encL V ω (gm V b j ls).1)/\((gm V b j ls).2=[]->os=[]/\ds=ls.map λl=>fi V.sz V.enc V.tid V.encd l.t l.x)
 |[],j=>⟨[],[],[],[],rfl, .nil,λ_=>rfl,λ_ _=>rfl,λ_=>⟨rfl,rfl⟩⟩
 |⟨t,x⟩::r,j=>by
  obtain⟨hs,os,os',ds,h1,h2,h3,h4,h5⟩:=pw b r (j+1)
  have other:∀(t:Ty V.ι) (x:den V.N t),fi V.sz V.enc V.tid V.encd t x= .d (aL V.sz V.enc t x)->gm V b j (⟨t,x⟩::r)=(.lf t x::(gm V b (j+1) r).1,(gm V b (j+1) r).2)->
   ∃hs os os' ds,lq (xQ b) j ((⟨t,x⟩::r:List (cj V.N)).map λl=>fi V.sz V.enc V.tid V.encd l.t l.x)=some (hs,os,ds)/\PLe os os'/\(∀ω,os'.map (λp=>(p.1,some p.2))=(gm V b j (⟨t,x⟩::r)).2.map λp=>(p.1,aZ V ω p.2))/\
  (∀ω:Nat->Nat,(∀p∈(gm V b j (⟨t,x⟩::r)).2,ω p.1=TO.len (some p.2))->hs=encL V ω (gm V b j (⟨t,x⟩::r)).1)/\
    ((gm V b j (⟨t,x⟩::r)).2=[]->os=[]/\ds=(⟨t,x⟩::r:List (cj V.N)).map λl=>fi V.sz V.enc V.tid V.encd l.t l.x):=by
    intro t x he ht
    rw[ht]
    refine⟨.d (aL V.sz V.enc t x)::hs,os,os', .d (aL V.sz V.enc t x)::ds,?_,h2,h3,λω hω=> ?_,λhn=>⟨(h5 hn).1,?_⟩⟩
    ·simp only[Ow,lq,h1,he]
    ·simp only[encL,ao]
     rw[h4 ω hω]
    ·rw[Ow,(h5 hn).2,he]
  cases t with
  |sl e=>
   obtain⟨o,o1,o2⟩:=EH (V:=V) e x
   refine⟨.vh (xQ b j) x.length::hs,(xQ b j, .dvec (V.tid e) (tsz V.sz e) (x.map λy=>bT V.sz V.enc V.tid V.encd e y))::os,(xQ b j,o)::os', .junk::ds,?_, .cons o2 h2,λω=> ?_,λω hω=> ?_,λhn=> ?_⟩
   ·simp only[Ow,lq,h1]
    simp only[fi,On]
   ·simp only[gm,Ow,h3 ω,o1]
   ·simp only[gm,encL,ao]at hω⊢
    have:=hω _ Ox
    simp only at this
    rw[this,uz,h4 ω λp hp=>hω p (Ot _ hp)]
   ·simp only[gm]at hn;cases hn
  |int k=>exact other _ x rfl rfl
  |bool=>exact other _ x rfl rfl
  |str=>exact other _ x rfl rfl
  |st i=>exact other _ x rfl rfl
  |mp k v=>exact other _ x rfl rfl
  |er=>exact other _ x rfl rfl
  |op e=>exact other _ x rfl rfl
  |fnc=>exact other _ x rfl rfl
  |fno=>exact other _ x rfl rfl
  |ar n e=>exact other _ x rfl rfl
theorem wh{n:Nat}:∀{l:List Nat},nin n l=true->n∉l
 |[],_=>by simp
 |k::r,h=>by
  simp only[nin,Oy,Qy]at h
  intro hm
  rcases Oz.1 hm with q|q
  ·subst q;simp at h
  ·exact wh h.2 q
theorem fh:∀{l:List Nat},vB l=true->l.Nodup
 |[],_=> .nil
 |a::r,h=>by
  simp only[vB,Oy]at h
  exact Pp.2 ⟨wh h.1,fh h.2⟩
theorem jC{e:Ty V.ι}{ls:List (cj V.N)}{y:den V.N e}(h:i6 V e ls=some y):aN V e y=ls:=by
 have single:∀(t:Ty V.ι) (y:den V.N t) (l:cj V.N),(if h:l.t=t then some (h▸l.x:den V.N t)else none)=some y->[(⟨t,y⟩:cj V.N)]=[l]:=by
  intro t y l h
  split at h
  ·rename_i ht
   obtain⟨lt,lx⟩:=l
   simp only at ht;subst ht
   simp only[Om]at h
   subst h;rfl
  ·cases h
 cases e with
 |st i=>exact V.of_cells _ _ _ h
 |ar n e=>simp[i6]at h
 |_=>
  cases ls with
  |nil=>simp[i6]at h
  |cons l r=>
   cases r with
   |nil=>exact single _ y l h
   |cons a b=>simp[i6]at h
theorem vK{S:TS V.N}{t:Ty V.ι}{v:TV V.N}{l:cj V.N}{n:Option Nat}(h:give1 V S t v=some (l,n)):jF (az V S).own? (ao V S.len v) (fi V.sz V.enc V.tid V.encd l.t l.x) n:=by
 unfold give1 at h
 split at h
 ·rename_i e n'
  split at h
  ·rename_i te e' xs hn
   have h':=ah h;clear h
   obtain⟨⟨h1,h2,hf⟩,h⟩:=h'
   subst h1;subst h2
   simp only[Om,OV]at h
   obtain⟨rfl,rfl⟩:=h
   have:=jF.v (ω:=(az V S).own?) n' (V.tid e') (tsz V.sz e') _ (cg hn)
   simp only[ao,dh hn,fi]
   rw[On]at this
   have he:(xs.map λx=>bT V.sz V.enc V.tid V.encd e' x)=(xs.map λx=>aV V.sz V.enc e' x).map λr=>r.map .d:=by
    rw[OQ]
    exact OP λx _=>lH hf x
   rw[he];exact this
  ·rename_i te e' ys hn
   have h':=ah h;clear h
   obtain⟨⟨h1,h2⟩,h⟩:=h'
   subst h1;subst h2
   simp only[Om,OV]at h
   obtain⟨rfl,rfl⟩:=h
   have:=jF.dv (ω:=(az V S).own?) n' (V.tid e') (tsz V.sz e') _ (gM hn)
   have hl:S.len n'=ys.length:=by unfold TS.len;rw[hn];rfl
   simp only[ao,hl,fi]
   rw[On]at this
   exact this
  ·cases h
 ·rename_i e
  simp only[Om,OV]at h
  obtain⟨rfl,rfl⟩:=h
  exact .nil _ _
 ·cases h
 ·rename_i t' x hne
  have h':=ah h;clear h
  obtain⟨h1,h⟩:=h'
  subst h1
  simp only[Om,OV]at h
  obtain⟨rfl,rfl⟩:=h
  have:fi V.sz V.enc V.tid V.encd t' x= .d (aL V.sz V.enc t' x):=by
   cases t'<;>first|rfl|simp_all
  rw[this]
  exact .d _
 ·cases h
theorem jR{S:TS V.N}:∀{ts:List (Ty V.ι)} {vs:List (TV V.N)} {ls:List (cj V.N)} {ns:List (Option Nat)},tG V S ts vs=some (ls,ns)->
 ∃l:List (H×DD×Option Nat),(l.map λp=>p.1)=encL V S.len vs/\(l.map λp=>p.2.1)=(ls.map λl=>fi V.sz V.enc V.tid V.encd l.t l.x)/\(l.map λp=>p.2.2)=ns/\∀p∈l,jF (az V S).own? p.1 p.2.1 p.2.2
 |[],[],ls,ns,h=>by
  simp only[tG,Om,OV]at h
  obtain⟨rfl,rfl⟩:=h
  exact⟨[],rfl,rfl,rfl,λp hp=>by cases hp⟩
 |[],_::_,ls,ns,h=>by simp[tG]at h
 |_::_,[],ls,ns,h=>by simp[tG]at h
 |t::ts,v::vs,ls,ns,h=>by
  simp only[tG]at h
  split at h
  ·rename_i l n ls' ns' h1 h2
   simp only[Om,OV]at h
   obtain⟨rfl,rfl⟩:=h
   obtain⟨L,a1,a2,a3,a4⟩:=jR h2
   refine⟨(ao V S.len v,fi V.sz V.enc V.tid V.encd l.t l.x,n)::L,by simp[encL,a1],by simp[a2],by simp[a3],λp hp=> ?_⟩
   rcases Oz.1 hp with q|q
   ·subst q;exact vK h1
   ·exact a4 p q
  ·cases h
theorem A8{l:cj V.N}(h:l.t.cell=true):DD.one (fi V.sz V.enc V.tid V.encd l.t l.x)=true:=by
 obtain⟨t,x⟩:=l
 have:=nW (l:=⟨t,x⟩) h
 cases t<;>first|rfl|(simp[Ty.cell]at h;done)|simpa[fi,DD.one,H.one]using this
theorem A_(e:Ty V.ι)(y:den V.N e):(bT V.sz V.enc V.tid V.encd e y).all DD.one=true:=by
 rw[fj,PL,OD]
 exactλl hl=>A8 (j8 e y l hl)
theorem dlen{S:TS V.N}{n:Nat}{te:TypeId}{e:Ty V.ι}{xs:List (den V.N e)}(h:S.own? n=some (.dvec te e xs)):S.len n=xs.length:=by unfold TS.len;rw[h];rfl
theorem La{S:TS V.N}{n:Nat}{te:TypeId}{e:Ty V.ι}{xs:List (Option (den V.N e))}(h:S.own? n=some (.pvec te e xs)):S.len n=xs.length:=by unfold TS.len;rw[h];rfl
theorem fv{e:Ty V.ι}(ys:List (den V.N e)):((ys.map some).map λx=>p6 V e x)=ys.map λx=>bT V.sz V.enc V.tid V.encd e x:=by
 rw[OQ];rfl
theorem n_{S:TS V.N}{ns:List Nat}{m:Nat}{o:TO V.N}(h:gt (tH V S ns) m=some o):TO.len (some o)=S.len m:=by
 obtain⟨k,_,hk⟩:=OT.1 (bI h)
 simp only[OV]at hk
 obtain⟨rfl,rfl⟩:=hk
 rfl
theorem n8(ω:Nat->Nat)(S:TS V.N)(ns:List Nat):(tH V S ns).map (λp=>(p.1,aZ V ω p.2))=ns.map λn=>(n,none):=by
 unfold tH
 rw[OQ]
 rfl
theorem rx{α:Type}:∀{l:List (Nat×α)} {n:Nat} {x:α},(l.map (·.1)).Nodup->(n,x)∈l->gt l n=some x
 |[],_,_,_,h=>by cases h
 |(k,y)::r,n,x,hn,h=>by
  rw[Ow,Pp]at hn
  rw[af]
  rcases Oz.1 h with q|q
  ·cases q;rw[RS rfl]
  ·rw[RR λe=>hn.1 (by rw[e];exact OT.2 ⟨_,q,rfl⟩)]
   exact rx hn.2 q
theorem oz{α:Type}{l:List (Nat×α)}{n:Nat}{x:α}(h:(n,x)∈l):n∈l.map (·.1):=OT.2 ⟨_,h,rfl⟩
section
variable {P:Program} {nm:Nat->Nat} {o:Oper} {S:TS V.N} {A:Type} {k:TE V.N->Option A} {r:A}
def OpD(P:Program)(nm:Nat->Nat)(o:Oper)(S:TS V.N)(k:TE V.N->Option A)(r:A):Prop:=
 ∃te,k te=some r/\n9 S te/\∃e',pE P nm o (Go.Awp.ev (az V S)) (az V S).own? e'/\ELe true e' (fP (S.app o.dst te).len te)
theorem xu{t:TypeId}{x:Operand}{ag:Bool}{sz n s i off d:Nat}{te:TypeId}{e:Ty V.ι}{xs:List (Option (den V.N e))}{y:den V.N e}(hf:∀te,k te=some r->∀d∈te.new,S.fresh d=true)(ho:o.op= .load t x)(hdst:o.dst=some d)
 (ht:bu P t=some (ag,sz))(hx:tev S x= .ep n s i off)(hn:(az V S).own? n=some (.dvec te (tsz V.sz e) (xs.map λx=>p6 V e x)))(hsome:S.own? n≠none)(hln:S.len n=xs.length)(hox:xs[i]?=some (some y))
 (h:El V nm t ag sz n s i off d te e xs y k=some r):OpD P nm o S k r:=by
 unfold El at h
 have h':=ah h;clear h
 obtain⟨⟨hse,hfit⟩,h⟩:=h'
 generalize hT:gm V (nm d) off (((aN V e y).drop off).take (fX ag sz))=T at h
 obtain⟨vs,os⟩:=T
 simp only at h
 obtain⟨hh,hos,hos',ds,b1,b2,b3,b4,b5⟩:=pw (V:=V) (nm d) (((aN V e y).drop off).take (fX ag sz)) off
 rw[hT]at b3 b4 b5
 simp only at b3 b4 b5
 have hrl:=fc e y
 let all:=(aN V e y).map λl=>fi V.sz V.enc V.tid V.encd l.t l.x
 have hrow:(xs.map λx=>p6 V e x)[i]?=some all:=by
  rw[Oq,hox]
  simp only[OW,p6,all]
  rw[fj]
 have hmid:(all.drop off).take (fX ag sz)=(((aN V e y).drop off).take (fX ag sz)).map λl=>fi V.sz V.enc V.tid V.encd l.t l.x:=by
  simp only[all,Pr,Pq]
 have hal:all.length=s:=by simp only[all];rw[On,hrl,hse]
 have hsn:(az V S).own? n=some (.dvec te s (xs.map λx=>p6 V e x)):=by rw[hn,hse]
 have hxe:Go.Awp.ev (az V S) x= .ep n s i off:=by rw[am,hx];rfl
 have hnames:os.map (·.1)=hos'.map (·.1):=by
  have:=congrArg (Ry (·.1)) (b3 λ_=>0)
  rw[OQ,OQ]at this
  exact this.symm
 split at h
 ·rename_i v hv hdi
  have hdi:=fh hdi
  have hval:∀ω:Nat->Nat,hh=encL V ω vs->(ag=true/\ao V ω v=bA hh\/ag=false/\hh=[ao V ω v]):=by
   intro ω hω
   cases ag with
   |true=>
    simp only[Iy,Om]at hv
    subst hv
    exact .inl ⟨rfl,by rw[hω];exact(f5.2 rfl).symm⟩
   |false=>
    simp only[Iy]at hv
    split at hv
    ·rename_i v0
     cases hv
     exact .inr ⟨rfl,by rw[hω];rfl⟩
    ·cases hv
  cases hni:Kf os with
  |true=>
   rw[hni]at h
   simp only at h
   have hos0:os=[]:=by cases os with|nil=>rfl|cons a b=>cases hni
   subst hos0
   obtain⟨q1,q2⟩:=b5 rfl
   subst q1
   rw[<-hmid]at q2
   subst q2
   refine⟨_,h,eW S v [n],_, .load0 (val:=ao V S.len v) ho hdst ht hxe hsn hrow hal hfit (by rw[<-hmid]at b1;exact b1) (hval _ (b4 _ λp hp=>by cases hp)),mq rfl⟩
  |false=>
   rw[hni]at h
   simp only at h
   have hfr:=hf _ h
   have hlen:∀p∈os,(S.app o.dst {val:=v,acc:=[n],upd:=(n, .pvec te e (xs.set i none))::os,new:=os.map (·.1)}).len p.1=TO.len (some p.2):=by
    intro p hp
    rw[bX]
    have hpn:n≠p.1:=λe1=>by
     have:=hfr p.1 (OR hp)
     unfold TS.fresh at this
     simp only[Oy]at this
     have h9:=this.1.1
     rw[<-e1]at h9
     cases hq:S.own? n with
     |none=>exact hsome hq
     |some o9=>rw[hq]at h9;cases h9
    simp only[af,RR hpn]
    have:gt os p.1=some p.2:=rx hdi hp
    rw[this]
   refine⟨_,h,λm p hm=> ?_,_, .load (val:=ao V (S.app o.dst {val:=v,acc:=[n],upd:=(n, .pvec te e (xs.set i none))::os,new:=os.map (·.1)}).len v) ho hdst ht hxe hsn hrow hal hfit (by rw[<-hmid]at b1;exact b1) (hval _ (b4 _ hlen)) b2 (by rw[<-hnames];exact hdi),
    bq rfl hnames.symm ?_ rfl⟩
   ·simp only[af]at hm
    by_cases hnm:n=m
    ·subst hnm
     rw[RS rfl]at hm;cases hm
     right;rw[hln];simp[TO.len]
    ·rw[RR hnm]at hm
     exact .inl (oz (bI hm))
   ·rw[Ow]
    refine congr (congrArg List.cons ?_) (b3 _)
    simp only[aZ,P1,p6,hse]
 ·cases h
theorem Fr{t:TypeId}{x:Operand}(hf:∀te,k te=some r->∀d∈te.new,S.fresh d=true)(ho:o.op= .load t x)(h:Dk V P nm t x o.dst S k=some r):OpD P nm o S k r:=by
 unfold Dk at h
 split at h
 ·rename_i ag sz n s i off d ht hx hdst
  split at h
  ·rename_i te e ys hn
   obtain⟨y,hy,h2⟩:=aS h
   exact xu hf ho hdst ht hx (by rw[fv];exact gM hn) (by rw[hn];simp) (by rw[dlen hn,On]) (by rw[Oq,hy];rfl) h2
  ·rename_i te e xs hn
   obtain⟨ox,hox,h2⟩:=aS h
   obtain⟨y,hy,h3⟩:=aS h2
   exact xu hf ho hdst ht hx (m9 hn) (by rw[hn];simp) (La hn) (by rw[hox,hy]) h3
  ·cases h
 ·cases h
theorem uP{t:TypeId}{x y:Operand}{ag:Bool}{sz n s i:Nat}{te:TypeId}{e:Ty V.ι}{xs:List (Option (den V.N e))}{ox:Option (den V.N e)}{cs:List (TV V.N)}{f:den V.N e->List Nat->Option A}(ho:o.op= .store t x y)
 (ht:bu P t=some (ag,sz))(hx:tev S x= .ep n s i 0)(hcs:TV.cells V (tev S y)=some cs)(hn:(az V S).own? n=some (.dvec te (tsz V.sz e) (xs.map λx=>p6 V e x)))(hox:xs[i]?=some ox)
 (h:xP V s sz n e cs S f=some r):∃y' ns,f y' ns=some r/\pE P nm o (Go.Awp.ev (az V S)) (az V S).own? {val:= .junk,acc:=n::ns,upd:=(n,some (.dvec te (tsz V.sz e) ((xs.set i (some y')).map λx=>p6 V e x)))::ns.map λm=>(m,none)}:=by
 unfold xP at h
 have h':=ah h;clear h
 obtain⟨⟨hse,hss,hcl,hone⟩,h⟩:=h'
 rw[hss]at ht
 split at h
 ·rename_i ls ns hg
  split at h
  ·rename_i y' hy'
   split at h
   ·rename_i hdi
    rw[Oy]at hdi
    obtain⟨l,l1,l2,l3,l4⟩:=jR hg
    have hrc:=jC hy'
    have hll:l.length=s:=by
     have:=congrArg Qh l1
     rw[On,aK]at this;omega
    have hrow:(xs.map λx=>p6 V e x)[i]?=some (p6 V e ox):=by rw[Oq,hox];rfl
    refine⟨y',fy ns,h,?_⟩
    have:=pE.store (ρ:=Go.Awp.ev (az V S)) (ω:=(az V S).own?) (nm:=nm) (l:=l) ho ht (by rw[am,hx];rfl) (by rw[hn,hse]) hrow (by rw[am,l1];exact ce hcs) hll (by rw[l1];exact dR hone) l4 (by rw[l3];exact fh hdi.1) (by rw[l3];exact wh hdi.2)
    rw[l2,l3]at this
    have hq:p6 V e (some y')=ls.map λl=>fi V.sz V.enc V.tid V.encd l.t l.x:=by
     simp only[p6]
     rw[fj,hrc]
    rw[P1,hq,<-hse]
    exact this
   ·cases h
  ·cases h
 ·cases h
theorem Dq{t:TypeId}{x y:Operand}(ho:o.op= .store t x y)(h:wT V P t x y S k=some r):OpD P nm o S k r:=by
 have fin:∀(n:Nat) (te:TypeId) (e:Ty V.ι) (ys:List (den V.N e)) (ns:List Nat),S.len n=ys.length->k {val:= .junk,acc:=n::ns,upd:=(n, .dvec te e ys)::tH V S ns}=some r->
  pE P nm o (Go.Awp.ev (az V S)) (az V S).own? {val:= .junk,acc:=n::ns,upd:=(n,some (.dvec te (tsz V.sz e) (ys.map λx=>bT V.sz V.enc V.tid V.encd e x)))::ns.map λm=>(m,none)}->OpD P nm o S k r:=by
  intro n te e ys ns hl h hs'
  refine⟨_,h,λm p hm=> ?_,_,hs',bq rfl rfl ?_ rfl⟩
  ·simp only[af]at hm
   by_cases hnm:n=m
   ·subst hnm
    rw[RS rfl]at hm;cases hm
    right;rw[hl];rfl
   ·rw[RR hnm]at hm
    exact .inr (n_ hm)
  ·rw[Ow,n8];rfl
 unfold wT at h
 split at h
 ·rename_i ag sz n s i cs ht hx hcs
  split at h
  ·rename_i te e ys hn
   obtain⟨y0,hy0,h2⟩:=aS h
   obtain⟨y',ns,h3,h4⟩:=uP (nm:=nm) (xs:=ys.map some) ho ht hx hcs (by rw[fv];exact gM hn) (by rw[Oq,hy0];rfl) h2
   refine fin n te e _ ns (by rw[dlen hn,Pi]) h3 ?_
   rw[<-fv,P1]
   exact h4
  ·rename_i te e xs hn
   obtain⟨ox,hox,h2⟩:=aS h
   obtain⟨y',ns,h3,h4⟩:=uP (nm:=nm) ho ht hx hcs (m9 hn) hox h2
   obtain⟨ys,hys,h5⟩:=aS h3
   have hq:=Aj hys
   refine fin n te e ys ns ?_ h5 ?_
   ·rw[La hn]
    have:=congrArg Qh hq
    rw[Pi,On]at this;exact this
   ·rw[<-fv,<-hq];exact h4
  ·cases h
 ·cases h
theorem De{t:TypeId}{len:Nat}{parts:Array (Nat×Operand)}(ho:o.op= .buildSlice t len parts)(h:wH V P nm t len parts.toList o.dst S k=some r):OpD P nm o S k r:=by
 unfold wH at h
 split at h
 ·rename_i x d te sz by_ e hparts hdst ht hty
  split at h
  ·rename_i cs hcs
   have h':=ah h;clear h
   obtain⟨⟨h0,hse,hsm,hcl⟩,h⟩:=h'
   subst h0
   split at h
   ·rename_i ls ns hg
    split at h
    ·rename_i y' hy'
     split at h
     ·rename_i hdi
      obtain⟨l,l1,l2,l3,l4⟩:=jR hg
      have hrc:=jC hy'
      have hll:l.length=sz:=by
       have:=congrArg Qh l1
       rw[On,aK]at this;omega
      have hpa:parts= #[(0,x)]:=by rw[<-PZ];exact hparts
      subst hpa
      have:=pE.build (ρ:=Go.Awp.ev (az V S)) (ω:=(az V S).own?) (nm:=nm) (l:=l) ho hdst ht hsm (by rw[am,l1];exact ce hcs) hll l4 (by rw[l3];exact fh hdi)
      rw[l2,l3]at this
      refine⟨_,h,λm p hm=> ?_,_,this,bq ?_ rfl ?_ rfl⟩
      ·simp only[af]at hm
       by_cases hnm:nm d=m
       ·left;simp[hnm]
       ·rw[RR hnm]at hm
        exact .inr (n_ hm)
      ·simp only[ao]
       rw[bX]
       simp only[af,RO]
       rfl
      ·rw[Ow,n8]
       have hq:bT V.sz V.enc V.tid V.encd e y'=ls.map λl=>fi V.sz V.enc V.tid V.encd l.t l.x:=by
        rw[fj,hrc]
       simp only[aZ,Ow,O0]
       rw[hq,hse]
     ·cases h
    ·cases h
   ·cases h
  ·cases h
 ·cases h
theorem Jt{t:TypeId}{x i:Operand}(ho:o.op= .indexAddr t x i)(h:Js V P t x i S k=some r):OpD P nm o S k r:=by
 unfold Js at h
 split at h
 ·rename_i te sz by_ m kk n ht hx hi
  split at h
  ·rename_i te' e' xs hm
   have h':=ah h;clear h
   obtain⟨⟨h0,h1⟩,h⟩:=h'
   exact⟨_,h,eW S _ _,_, .index ho ht (by rw[am,hx];rfl) (by rw[am,hi];rfl) (gM hm) h0 (by rw[dlen hm];exact h1),mq rfl⟩
  ·rename_i te' e' xs hm
   have h':=ah h;clear h
   obtain⟨⟨h0,h1⟩,h⟩:=h'
   exact⟨_,h,eW S _ _,_, .index ho ht (by rw[am,hx];rfl) (by rw[am,hi];rfl) (m9 hm) h0 (by rw[La hm];exact h1),mq rfl⟩
  ·cases h
 ·cases h
theorem Jk{c:Call}(ho:o.op= .call c)(hc:c.callee= .builtin .append)(h:Ji V P nm (c.args.toList.map (tev S)) c.argTypes.toList o.dst S k=some r):OpD P nm o S k r:=by
 unfold Ji at h
 split at h
 ·rename_i x n2 t t' d hargs htys hdst
  split at h
  ·rename_i te sz bytes te2 e ys ht hn2
   have h':=ah h;clear h
   obtain⟨⟨h1,h2,hse,hby,hnd⟩,h⟩:=h'
   subst h1;subst h2
   obtain⟨p,q,hpq,hpx,hqx⟩:∃p q,c.args.toList=[p,q]/\tev S p=x/\tev S q= .vh n2:=by
    match hcl:c.args.toList,hargs with
    |[p,q],hargs=>simp at hargs;exact⟨p,q,rfl,hargs.1,hargs.2⟩
    |[],hargs=>simp at hargs
    |[_],hargs=>simp at hargs
    |_::_::_::_,hargs=>simp at hargs
   have hca:c.args= #[p,q]:=by rw[<-PZ];exact hpq
   have hct:c.argTypes= #[t,t]:=by rw[<-PZ];exact htys
   have hqe:Go.Awp.ev (az V S) q= .vh n2 (ys.map λx=>bT V.sz V.enc V.tid V.encd e x).length:=by
    rw[am,hqx];simp only[ao];rw[dlen hn2];simp
   have hone:(ys.map λx=>bT V.sz V.enc V.tid V.encd e x).flatten.all DD.one=true:=by
    rw[List.all_flatten,PL,OD]
    intro y _
    exact A_ e y
   have hown2:(az V S).own? n2=some (.dvec te sz (ys.map λx=>bT V.sz V.enc V.tid V.encd e x)):=by rw[gM hn2,hse]
   have good2:∀(n:Nat) (o1:TO V.N) (m:Nat) (p:TO V.N),gt [(nm d,o1),(n, .gone (S.len n)),(n2, .gone (S.len n2))] m=some p->m∈[nm d]\/TO.len (some p)=S.len m:=by
    intro n o1 m p hm
    simp only[af]at hm
    by_cases e1:nm d=m
    ·left;simp[e1]
    ·rw[RR e1]at hm
     right
     by_cases e2:n=m
     ·rw[RS e2]at hm;cases hm;subst e2;rfl
     ·rw[RR e2]at hm
      by_cases e3:n2=m
      ·rw[RS e3]at hm;cases hm;subst e3;rfl
      ·rw[RR e3]at hm;simp[gt]at hm
   have two:∀(n:Nat) (xs:List (Option (den V.N e))) (o1:TO V.N),tev S p= .vh n->¬n=n2->S.len n=xs.length->(az V S).own? n=some (.dvec te sz (xs.map λx=>p6 V e x))->TO.len (some o1)=xs.length+ys.length->
    (∀ω,aZ V ω o1=some (.dvec te sz ((xs.map λx=>p6 V e x)++ys.map λx=>bT V.sz V.enc V.tid V.encd e x)))->
    (if xs.length+ys.length<=most then k {val:= .vh (nm d),acc:=[n,n2],upd:=[(nm d,o1),(n, .gone (S.len n)),(n2, .gone (S.len n2))],new:=[nm d]}else none)=some r->OpD P nm o S k r:=by
    intro n xs o1 hp hn12 hln hown hlo henc h
    have h':=ah h;clear h
    obtain⟨hle,h⟩:=h'
    have hby':((xs.map λx=>p6 V e x).length+(ys.map λx=>bT V.sz V.enc V.tid V.encd e x).length) *bytes<=140737488355328:=by
     simp only[On,most]at hle⊢
     have:(xs.length+ys.length) *bytes<=4294967296 *32768:=QP hle hby
     omega
    refine⟨_,h,λm p hm=>good2 n o1 m p hm,_, .append (nm:=nm) (rows:=xs.map λx=>p6 V e x) (ns:=[n,n2]) ho hc hca hct hdst ht (.inl ⟨n,by rw[am,hp];simp only[ao];rw[hln];simp,hown,hn12,rfl⟩) hqe hown2 hone hby' (by simp only[On,most]at hle⊢;omega),bq ?_ rfl ?_ rfl⟩
    ·simp only[ao]
     rw[bX]
     simp only[af,RO]
     rw[hlo,On,On]
    ·simp only[Ow,O0,henc]
     rfl
   split at h
   ·rename_i n
    have h':=ah h;clear h
    obtain⟨⟨hnn,hn12⟩,h⟩:=h'
    split at h
    ·rename_i te1 e1 xs hn
     split at h
     ·rename_i he
      subst he
      have h':=ah h;clear h
      obtain⟨h3,h⟩:=h'
      subst h3
      refine two n (xs.map some) (.dvec te1 e (xs++ys)) hpx hn12 (by rw[dlen hn,On]) (by rw[fv,gM hn,hse]) (by simp[TO.len]) (λω=> ?_) (by rw[On];exact h)
      simp only[aZ,O6]
      rw[fv,hse]
     ·cases h
    ·rename_i te1 e1 xs hn
     split at h
     ·rename_i he
      subst he
      have h':=ah h;clear h
      obtain⟨h3,h⟩:=h'
      subst h3
      refine two n xs (.pvec te1 e (xs++ys.map some)) hpx hn12 (La hn) (by rw[m9 hn,hse]) (by simp[TO.len]) (λω=> ?_) h
      simp only[aZ,O6]
      rw[fv,hse]
     ·cases h
    ·cases h
   ·have h':=ah h;clear h
    obtain⟨hle,h⟩:=h'
    have hby':(([]:List (List DD)).length+(ys.map λx=>bT V.sz V.enc V.tid V.encd e x).length) *bytes<=140737488355328:=by
     simp only[On,Pv,most]at hle⊢
     have:ys.length *bytes<=4294967296 *32768:=QP hle hby
     rw[OS];omega
    refine⟨_,h,λm p hm=> ?_,_, .append (nm:=nm) (rows:=[]) (ns:=[n2]) ho hc hca hct hdst ht (.inr ⟨by rw[am,hpx];rfl,rfl,rfl⟩) hqe hown2 hone hby' (by simp only[On,Pv,most]at hle⊢;omega),bq ?_ rfl ?_ rfl⟩
    ·simp only[af]at hm
     by_cases e1:nm d=m
     ·left;simp[e1]
     ·rw[RR e1]at hm
      right
      by_cases e3:n2=m
      ·rw[RS e3]at hm;cases hm;subst e3;rfl
      ·rw[RR e3]at hm;simp[gt]at hm
    ·simp only[ao]
     rw[bX]
     simp only[af,RO,TO.len,On,Pv,OS]
    ·simp only[Ow,O0,aZ,OM,hse]
   ·cases h
  ·cases h
 ·cases h
theorem Jp{t:TypeId}{x:Operand}{lo hi mx:Option Operand}(ho:o.op= .slice t x lo hi mx)(h:Jo V P t x lo hi mx S k=some r):OpD P nm o S k r:=by
 unfold Jo at h
 split at h
 ·rename_i te sz by_ n ht hx
  split at h
  ·rename_i te1 e xs hn
   split at h
   ·rename_i l u hl hu
    have h':=ah h;clear h
    obtain⟨hse,h⟩:=h'
    have h':=ah h;clear h
    obtain⟨⟨h0,h1,h2⟩,h⟩:=h'
    have hlen:S.len n=xs.length:=by unfold TS.len;rw[hn];rfl
    exact⟨_,h,eW S _ _,_, .cut (rows:=xs.map λx=>aV V.sz V.enc e x) (e:=te1) ho ht (by rw[am,hx];simp only[ao];rw[hlen,On]) (by rw[cg hn,hse]) (fQ hl) (by rw[On];exact fQ hu) h0 h1 (by rw[On];exact h2),mq rfl⟩
   ·cases h
  ·cases h
 ·cases h
theorem Fp{c:Call}(ho:o.op= .call c)(hc:c.callee= .builtin .append)(h:Di V P nm (c.args.toList.map (tev S)) c.argTypes.toList o.dst S k=some r):OpD P nm o S k r:=by
 unfold Di at h
 split at h
 ·rename_i n sz lo i n2 sz2 j len t t' d hargs htys hdst
  split at h
  ·rename_i te sz' by_ te1 e xs ht hn
   have h':=ah h;clear h
   obtain⟨⟨⟨e1,e2⟩,⟨e3,e4⟩,e5,e6⟩,⟨e7,e8⟩,e9,e10,e11⟩:=h'.1
   have h:=h'.2
   subst e1;subst e2;subst e4;subst e5;subst e6;subst e7;subst e8
   obtain⟨p,q,hpq,hpx,hqx⟩:∃p q,c.args.toList=[p,q]/\tev S p= .sv n2 sz2 0 i/\tev S q= .sv n2 sz2 j (xs.length-j):=by
    match hcl:c.args.toList,hargs with
    |[p,q],hargs=>simp at hargs;exact⟨p,q,rfl,hargs.1,hargs.2⟩
    |[],hargs=>simp at hargs
    |[_],hargs=>simp at hargs
    |_::_::_::_,hargs=>simp at hargs
   have hca:c.args= #[p,q]:=by rw[<-PZ];exact hpq
   have hct:c.argTypes= #[t,t]:=by rw[<-PZ];exact htys
   have hone:(xs.map λx=>aV V.sz V.enc e x).all (λr=>r.all D.one)=true:=by
    rw[PL,OD]
    intro y _
    exact si
   refine⟨_,h,λm o1 hm=> ?_,_, .join (nm:=nm) (rows:=xs.map λx=>aV V.sz V.enc e x) (m:=n2) (i:=i) (j:=j) ho hc hca hct hdst ht (by rw[am,hpx];rfl) (by rw[am,hqx];simp only[ao,On]) (by rw[cg hn,e3]) e9 (by rw[On];exact e10) hone (λe0=>by have:=congrArg Qh e0;rw[On,Pv]at this;omega),bq ?_ rfl ?_ rfl⟩
   ·simp only[af]at hm
    by_cases q1:nm d=m
    ·left;simp[q1]
    ·rw[RR q1]at hm
     right
     by_cases q2:n2=m
     ·rw[RS q2]at hm;cases hm;subst q2;rfl
     ·rw[RR q2]at hm;simp[gt]at hm
   ·simp only[ao]
    rw[bX]
    simp only[af,RO,TO.len,OJ,O1,O5,On]
    rw[PA (by omega)]
   ·simp only[Ow,O0,aZ,O6,Pq,Pr,e3]
  ·cases h
 ·cases h
theorem FG{ω:Nat->Nat}{z:List Value}(hz:z.all ct=true):wX z (encL V ω (z.map tvc)) []:=by
 rw[jc hz]
 induction z with
 |nil=>exact .nil
 |cons x z ih=>exact .keep x (ih (by simp only[PC,Oy]at hz;exact hz.2))
theorem CE(e:Ty V.ι)(ω:Nat->Nat):∃o,aZ V ω (uy V e [])=some o/\∃a s,o= .vec a s []\/o= .dvec a s []:=by
 unfold uy
 split
 ·exact⟨_,rfl,V.tid e,_, .inl rfl⟩
 ·exact⟨_,rfl,V.tid e,_, .inr rfl⟩
theorem j6(b:Nat)(ω:Nat->Nat):∀(z:List Value) (ts:List (Ty V.ι)) (j:Nat),z.all ct=true->(∀p∈(lO V b j ts z).2,ω p.1=0)->
 ∃os,wX z (encL V ω (lO V b j ts z).1) os/\os.map (λp=>(p.1,some p.2))=(lO V b j ts z).2.map (λp=>(p.1,aZ V ω p.2))
 |[],ts,j,hz,_=>by
  cases ts<;>exact⟨[], .nil,rfl⟩
 |x::z,[],j,hz,_=>⟨[],by simp only[lO];exact FG hz,rfl⟩
 |x::z,t::ts,j,hz,hω=>by
  have hz2:ct x=true/\z.all ct=true:=by simpa only[PC,Oy]using hz
  unfold lO at hω⊢
  split
  ·rename_i e
   obtain⟨os,h1,h2⟩:=j6 b ω z ts (j+1) hz2.2 λp hp=>hω p (Ot _ hp)
   obtain⟨o,o1,a,s,o2⟩:=CE (V:=V) e ω
   refine⟨(xQ b j,o)::os,?_,by simp only[Ow,h2,o1]⟩
   simp only[encL,ao]
   have:=hω _ Ox
   simp only at this
   rw[this]
   exact .new _ a s o o2 h1
  ·rename_i hno
   have hω':∀p∈(lO V b (j+1) ts z).2,ω p.1=0:=by
    intro p hp
    refine hω p ?_
    split
    ·exact Ot _ hp
    ·exact hp
   obtain⟨os,h1,h2⟩:=j6 b ω z ts (j+1) hz2.2 hω'
   refine⟨os,?_,h2⟩
   simp only[encL]
   have:ao V ω (tvc x)= .d (.v x):=by
    have:=jc (V:=V) (ω:=ω) (z:=[x]) (by simp[hz2.1])
    simpa[encL]using this
   rw[this]
   exact .keep x h1
theorem oI(b:Nat):∀(z:List Value) (ts:List (Ty V.ι)) (j:Nat),∀p∈(lO V b j ts z).2,TO.len (some p.2)=0
 |[],ts,j,p,hp=>by cases ts<;>cases hp
 |x::z,[],j,p,hp=>by cases hp
 |x::z,t::ts,j,p,hp=>by
  unfold lO at hp
  split at hp
  ·rcases Oz.1 hp with rfl|hp
   ·exact uz _ _
   ·exact oI b z ts (j+1) p hp
  ·exact oI b z ts (j+1) p hp
theorem Fu{t:TypeId}{parts:Array (Nat×Operand)}(ho:o.op= .build t parts)(h:Dn V P t parts.toList o.dst k=some r):OpD P nm o S k r:=by
 unfold Dn at h
 split at h
 ·rename_i z pl hparts hz hpl
  have hpa:parts= #[]:=by rw[<-PZ];exact hparts
  subst hpa
  split at h
  ·rename_i i d hty hdst
   split at h
   ·rename_i vs os hall hT
    split at h
    ·rename_i hdi
     have hdi:=fh hdi
     have hlen:∀p∈os,(S.app o.dst {val:= .agg vs,acc:=[],upd:=os,new:=os.map (·.1)}).len p.1=0:=by
      intro p hp
      rw[bX]
      have:gt os p.1=some p.2:=rx hdi hp
      simp only[this]
      have h9:=oI (V:=V) d z (V.tys i) 0
      rw[hT]at h9
      exact h9 p hp
     obtain⟨os',h1,h2⟩:=j6 (V:=V) d (S.app o.dst {val:= .agg vs,acc:=[],upd:=os,new:=os.map (·.1)}).len z (V.tys i) 0 hall (by rw[hT];exact hlen)
     rw[hT]at h1 h2
     simp only at h1 h2
     have hnames:os.map (·.1)=os'.map (·.1):=by
      have:=congrArg (Ry (·.1)) h2
      rw[OQ,OQ]at this
      exact this.symm
     refine⟨_,h,λm p hm=> .inl (oz (bI hm)),_, .nils ho hdst hz hpl h1 (by rw[<-hnames];exact hdi),bq rfl hnames.symm h2 rfl⟩
    ·cases h
   ·cases h
  ·cases h
 ·cases h
theorem wL(hf:∀te,k te=some r->∀d∈te.new,S.fresh d=true)(h:Jq V P nm o S k=some r):OpD P nm o S k r:=by
 unfold Jq at h
 split at h
 ·rename_i t x ho;exact Fr hf ho h
 ·rename_i t x y ho;exact Dq ho h
 ·rename_i t x i ho;exact Jt ho h
 ·rename_i t len parts ho;exact De ho h
 ·rename_i c ho
  split at h
  ·rename_i hc
   split at h
   ·exact Fp ho hc h
   ·exact Jk ho hc h
  ·cases h
 ·rename_i t x lo hi mx ho;exact Jp ho h
 ·rename_i t parts ho;exact Fu ho h
 ·cases h
end
end
end Go.Tx
end
section
namespace Go.Tx
open Go.Awp
variable [Inhabited GMem]
section
variable {V:jj}
theorem xk{α:Type}{s:Nat}:∀{rows:List (List α)} {i:Nat} {r:List α},(∀r∈rows,r.length=s)->rows[i]?=some r->(rows.flatten.drop (i *s)).take s=r
 |[],i,r,_,h=>by simp at h
 |x::rows,0,r,hz,h=>by
  simp only[PW,Om]at h
  subst h
  have:=hz x Ox
  simp[O4,Rg,this]
 |x::rows,i+1,r,hz,h=>by
  have hx:=hz x Ox
  have:=xk (λr hr=>hz r (Ot _ hr)) (by simpa using h)
  rw[O4,OY,Rj,hx,P2 (by omega),OM]
  rw[show i *s+s-s=i *s by omega]
  exact this
theorem dm{α:Type}{s:Nat}:∀{rows:List (List α)},(∀r∈rows,r.length=s)->rows.flatten.length=rows.length *s
 |[],_=>by simp
 |x::r,h=>by
  rw[O4,OJ,h x Ox,dm λy hy=>h y (Ot _ hy),O_,OY]
  omega
theorem kE(e:Ty V.ι)(xs:List (den V.N e)):∀r∈xs.map (λx=>aV V.sz V.enc e x),r.length=tsz V.sz e:=λr hr=>by
 obtain⟨x,_,rfl⟩:=OT.1 hr
 exact bH e x
theorem rf{n i:Nat}{e:Ty V.ι}{xs:List (den V.N e)}{y:den V.N e}(hi:i<n)(hx:xs[i]?=some y):((aV V.sz V.enc (.ar n e) xs).drop (i *tsz V.sz e)).take (tsz V.sz e)=aV V.sz V.enc e y:=by
 have h1:=xk (s:=tsz V.sz e) (kE e xs) (i:=i) (r:=aV V.sz V.enc e y) (by rw[Oq,hx];rfl)
 have hil:i<xs.length:=(Ol.1 hx).1
 have h2:=dm (kE (V:=V) e xs)
 rw[On]at h2
 have m1:(i+1) *tsz V.sz e<=n *tsz V.sz e:=OH _ hi
 have m2:(i+1) *tsz V.sz e<=xs.length *tsz V.sz e:=OH _ hil
 rw[OY]at m1 m2
 simp only[aV,arL]
 rw[List.drop_take,Q2,PA (by omega),List.drop_append_of_le_length (by omega),PO (by rw[O5];omega)]
 exact h1
theorem gz{α:Type}{s:Nat}:∀{rows:List (List α)} {i:Nat} {r:List α},(∀r∈rows,r.length=s)->i<rows.length->(rows.set i r).flatten=rows.flatten.take (i *s)++r++rows.flatten.drop (i *s+s)
 |[],i,r,_,h=>by simp at h
 |x::rows,0,r,hz,h=>by
  have hx:=hz x Ox
  simp[O4,hx]
 |x::rows,i+1,r,hz,h=>by
  have hx:=hz x Ox
  have ih:=gz (r:=r) (λr hr=>hz r (Ot _ hr)) (by simpa using h)
  have e1:(x++rows.flatten).take ((i+1) *s)=x++rows.flatten.take (i *s):=by
   rw[Rg,O8 (l:=x) (by rw[hx,OY];omega),hx,OY,Nat.add_sub_cancel]
  have e2:(x++rows.flatten).drop ((i+1) *s+s)=rows.flatten.drop (i *s+s):=by
   rw[Rj,(P2 (by rw[hx,OY];omega):x.drop _=[]),hx,OY,OM]
   congr 1;omega
  simp only[List.set_cons_succ,O4]
  rw[ih,e1,e2]
  simp[O9]
theorem Al{n i:Nat}{e:Ty V.ι}{xs:List (den V.N e)}{y':den V.N e}(hi:i<n)(hx:i<xs.length):
 aV V.sz V.enc (.ar n e) (xs.set i y')=(aV V.sz V.enc (.ar n e) xs).take (i *tsz V.sz e)++aV V.sz V.enc e y'++(aV V.sz V.enc (.ar n e) xs).drop (i *tsz V.sz e+tsz V.sz e):=by
 have h2:=dm (kE (V:=V) e xs)
 rw[On]at h2
 have m1:(i+1) *tsz V.sz e<=n *tsz V.sz e:=OH _ hi
 have m2:(i+1) *tsz V.sz e<=xs.length *tsz V.sz e:=OH _ hx
 rw[OY]at m1 m2
 have hl:=bH e y'
 simp only[aV,arL,P1]
 rw[gz (kE e xs) (by rw[On];exact hx)]
 generalize (Ry (λx=>aV V.sz V.enc e x) xs).flatten=F at h2
 generalize aV V.sz V.enc e y'=c at hl
 generalize hs:tsz V.sz e=s at *
 generalize n *s=N at *
 apply Pf
 intro k
 simp only[OE,RA,OJ,O1,OX,QS,O5,P5]
 grind
theorem FW{ω:Nat->Nat}{n:Nat}{e:Ty V.ι}{xs:List (den V.N e)}:ao V ω (.lf (.ar n e) xs)= .d (.agg (aV V.sz V.enc (.ar n e) xs)):=rfl
theorem BK{e:Ty V.ι}{y:den V.N e}{ds:List D}{ag:Bool}(h:ds.take (tsz V.sz e)=aV V.sz V.enc e y)(ha:ag= !e.cell):de ag (tsz V.sz e) ds=some (aL V.sz V.enc e y):=by
 have hl:=bH (V:=V) e y
 have hdl:tsz V.sz e<=ds.length:=by
  have:=congrArg Qh h
  rw[hl,O1]at this;omega
 have cell:e.cell=true->aV V.sz V.enc e y=[aL V.sz V.enc e y]->tsz V.sz e=1->de ag (tsz V.sz e) ds=some (aL V.sz V.enc e y):=by
  intro hc h1 h2
  rw[hc]at ha
  subst ha
  simp only[de,PK]
  rw[h1,h2]at h
  cases ds with
  |nil=>simp at h
  |cons d r=>simp at h;simp[h]
 cases e with
 |st i=>
  subst ha
  simp only[Ty.cell,PS,de,RS hdl,h]
  rfl
 |ar n e=>
  subst ha
  simp only[Ty.cell,PS,de,RS hdl,h]
  rfl
 |_=>exact cell rfl rfl rfl
theorem oL{S:TS V.N}{n m:Nat}{e:Ty V.ι}{xs:List (den V.N e)}(h:S.own? n=some (.bar m e xs)):(az V S).own? n=some (.box none ((aV V.sz V.enc (.ar m e) xs).map .d)):=by rw[aH,h];rfl
theorem BF{S:TS V.N}{n m:Nat}{e:Ty V.ι}{xs:List (den V.N e)}(h:S.own? n=some (.bar m e xs)):S.len n=0:=by unfold TS.len;rw[h];rfl
theorem sf{S:TS V.N}{n:Nat}{te:TypeId}{e:Ty V.ι}{xs:List (den V.N e)}(h:S.own? n=some (.que te e xs)):(az V S).own? n=some (.que te (tsz V.sz e) (xs.map λx=>aV V.sz V.enc e x)):=by rw[aH,h];rfl
theorem vS{S:TS V.N}{n:Nat}{te:TypeId}{e:Ty V.ι}{xs:List (den V.N e)}(h:S.own? n=some (.que te e xs)):S.len n=xs.length:=by unfold TS.len;rw[h];rfl
theorem gN{S:TS V.N}{n:Nat}{te:TypeId}{k v:Ty V.ι}{es:List (Option (List (den V.N k×den V.N v)))}{al:Option (Nat×Nat)}(h:S.own? n=some (.maps te k v es al)):
 (az V S).own? n=some (.maps te (es.map λo=>o.map λl=>l.map λp=>(dQ V.enc k p.1,aL V.sz V.enc v p.2)) al):=by rw[aH,h];rfl
theorem gD{S:TS V.N}{n:Nat}{te:TypeId}{k v:Ty V.ι}{es:List (Option (List (den V.N k×den V.N v)))}{al:Option (Nat×Nat)}(h:S.own? n=some (.maps te k v es al)):S.len n=es.length:=by unfold TS.len;rw[h];rfl
theorem kZ{S:TS V.N}{n m:Nat}(h:S.own? n=some (.alias m)):(az V S).own? n=none:=by rw[aH,h];rfl
theorem kN{S:TS V.N}{n m:Nat}(h:S.own? n=some (.alias m)):S.len n=0:=by unfold TS.len;rw[h];rfl
end
section
variable (V:jj) (P:Program) (nm:Nat->Nat)
def fnF(e:Ty V.ι):TV V.N->TV V.N
 | .lf .fnc f=>match e with
  | .fno=> .lf .fno (some f)
  |_=> .lf .fnc f
 |v=>v
def wM{A:Type}(t:TypeId)(x i:Operand)(S:TS V.N)(k:TE V.N->Option A):Option A:=match sN P t,tev S x,tev S i with
 |some (len,_,ag,sz), .lf (.ar n e) xs, .lf (.int _) j=>if n=len/\sz=tsz V.sz e/\ag= !e.cell then
  if 0<=j/\j<len then xs[j.toNat]?>>=λy=>k {val:= .lf e y}else none
  else none
 |_,_,_=>none
def Jr{A:Type}(t:TypeId)(x i:Operand)(S:TS V.N)(k:TE V.N->Option A):Option A:=match sN P t,tev S i with
 |some (len,_,_,sz), .lf (.int _) j=>match tev S x with
  | .bp m 0=>match S.own? m with
   |some (.bar n e _)=>if n=len/\sz=tsz V.sz e then
    if 0<=j/\j<len then k {val:= .ai m sz j.toNat 0}else none
    else none
   |_=>none
  | .rp (.ar n e) xs 0=>if n=len/\sz=tsz V.sz e then
    if 0<=j/\j<len then xs[j.toNat]?>>=λy=>k {val:= .rp e y 0}else none
   else none
  | .ep m s i' off=>if 0<=j/\j<len then k {val:= .ep m s i' (off+j.toNat *sz)}else none
  |_=>none
 |_,_=>none
def vT{A:Type}(ag:Bool)(sz:Nat)(ot:Option (Ty V.ι)):(t:Ty V.ι)->den V.N t->Nat->(TV V.N->Option A)->Option A
 | .ar n e,xs,off,k=>if off=0/\ot=some (.ar n e)/\ag=true/\sz=tsz V.sz (.ar n e)then k (.lf (.ar n e) xs)
   else if off/tsz V.sz e<n then xs[off/tsz V.sz e]?>>=λy=>vT ag sz ot e y (off%tsz V.sz e) k else none
 |t,x,off,k=>match tT V ag sz ot t x off with
  |some v=>k v
  |none=>none
def xT{A:Type}(t:TypeId)(x:Operand)(S:TS V.N)(k:TE V.N->Option A):Option A:=match bu P t with
 |some (ag,sz)=>match tev S x with
  | .ai n s i off=>match S.own? n with
   |some (.bar m e xs)=>if s=tsz V.sz e/\off+fX ag sz<=s then
    if i<m then xs[i]?>>=λy=>vT V ag sz (V.ty t) e y off λv=>k {val:=v,acc:=[n]}else none
    else none
   |_=>none
  | .bp n 0=>match S.own? n with
   |some (.bar m e xs)=>if V.ty t=some (.ar m e)/\ag=true/\sz=tsz V.sz (.ar m e)then k {val:= .lf (.ar m e) xs,acc:=[n]}else none
   |_=>none
  | .ep n s i off=>match S.own? n with
   |some (.vec _ e xs)=>if s=tsz V.sz e then xs[i]?>>=λy=>vT V ag sz (V.ty t) e y off λv=>k {val:=v,acc:=[n]}else none
   |some (.que _ e xs)=>if s=tsz V.sz e then xs[i]?>>=λy=>vT V ag sz (V.ty t) e y off λv=>k {val:=v,acc:=[n]}else none
   |_=>none
  | .rp t' y off=>vT V ag sz (V.ty t) t' y off λv=>k {val:=v}
  |_=>none
 |none=>none
def wS{A:Type}(t:TypeId)(x y:Operand)(S:TS V.N)(k:TE V.N->Option A):Option A:=match bu P t,TV.cells V (tev S y)with
 |some (_,sz),some cs=>match tev S x with
  | .ai n s i 0=>match S.own? n with
   |some (.bar m e xs)=>if s=tsz V.sz e/\cs.length=sz/\sz=s/\cs.all TV.one=true then
    if i<m then if i<xs.length then match cA V true e cs with
     |some z=>k {val:= .junk,acc:=[n],upd:=[(n, .bar m e (xs.set i z))]}
     |none=>none
    else none else none
    else none
   |_=>none
  | .bp n 0=>match S.own? n,tev S y with
   |some (.bar m e _), .lf (.ar m' e') ys=>if m'=m/\e'=e/\sz=tsz V.sz (.ar m e)then k {val:= .junk,acc:=[n],upd:=[(n, .bar m' e' ys)]}else none
   |_,_=>none
  |_=>none
 |_,_=>none
def zeq:Value->Value->Bool
 | .int k n, .int k' n'=>decide (k=k')&&decide (n=n')
 | .bool a, .bool b=>a==b
 | .nilFunc, .nilFunc=>true
 | .string a, .string b=>decide (a=b)
 |_,_=>false
def Lg:List Value->List Value->Bool
 |[],[]=>true
 |a::r,b::s=>zeq a b&&Lg r s
 |_,_=>false
def wF{A:Type}(t:TypeId)(dst:Option Tmp)(k:TE V.N->Option A):Option A:=match V.ty t,gn P t,dst with
 |some (.ar n e),some z,some d=>match cA V true e ((z.take (tsz V.sz e)).map tvc)with
  |some y=>if z.all ct=true/\tP t z=none/\Lg z (Pc n (z.take (tsz V.sz e))).flatten=true then k {val:= .bp (nm d) 0,upd:=[(nm d, .bar n e (Pc n y))],new:=[nm d]}else none
  |none=>none
 |_,_,_=>none
def Jl{A:Type}(x:Operand)(dst:Option Tmp)(S:TS V.N)(k:TE V.N->Option A):Option A:=match tev S x,dst with
 | .lf (.ar n e) xs,some d=>k {val:= .bp (nm d) 0,upd:=[(nm d, .bar n e xs)],new:=[nm d]}
 |_,_=>none
def Jw{A:Type}(x:Operand)(S:TS V.N)(k:TE V.N->Option A):Option A:=match tev S x with
 | .lf (.op e) y=>y>>=λz=>k {val:= .rp e z 0}
 |_=>none
def dU:List (Ty V.ι)->Option (List CK)
 |[]=>some []
 |t::r=>match t,dU r with
  | .int k,some l=>some (.int k::l)
  | .bool,some l=>some (.bool::l)
  | .str,some l=>some (.str::l)
  |_,_=>none
def BC(P:Program)(t:TypeId):Bool:=match P.underlying t with
 |some (.struct _)=>true
 |_=>false
def Ke(P:Program)(t:TypeId):Bool:=match P.underlying t with
 |some (.func _ _ _)=>true
 |_=>false
def Jn{A:Type}(op:BinOp)(xt:TypeId)(x y:Operand)(S:TS V.N)(k:TE V.N->Option A):Option A:=match LZ op,tev S x,tev S y with
 |some q, .lf (.op _) a, .raw (.pointer none)=>match lJ P xt with
  |true=>match q with
   |true=>k {val:= .lf .bool a.isNone}
   |false=>k {val:= .lf .bool a.isSome}
  |false=>none
 |some q, .lf .fno a, .raw .nilFunc=>match Ke P xt with
  |true=>match q with
   |true=>k {val:= .lf .bool a.isNone}
   |false=>k {val:= .lf .bool a.isSome}
  |false=>none
 |some q, .lf (.st i) a, .lf (.st j) b=>if i=j/\BC P xt=true/\P.eqGuardType P.depth xt=false/\(hU P 100 xt).isSome=true/\dU V (V.tys i)=hU P 100 xt then match q with
  |true=>k {val:= .lf .bool (Bb (V.cells i a) (V.cells j b))}
  |false=>k {val:= .lf .bool (!Bb (V.cells i a) (V.cells j b))}
  else none
 |_,_,_=>none
def KK{α:Type}:List α->Nat->α->List α
 |[],_,_=>[]
 |_::r,0,x=>x::r
 |a::r,i+1,x=>a::KK r i x
def KJ(e:Ty V.ι):List (den V.N e)->List (Nat×TV V.N)->Option (List (den V.N e))
 |ys,[]=>some ys
 |ys,(i,x)::r=>if i<ys.length then match D9 V true e x with
  |some y=>KJ e (KK ys i y) r
  |none=>none
  else none
def wG{A:Type}(t:TypeId)(parts:List (Nat×Operand))(S:TS V.N)(k:TE V.N->Option A):Option A:=match V.ty t,sN P t,gn P t with
 |some (.ar n e),some (len,_,_,sz),some z=>match cA V true (.ar n e) (z.map tvc)with
  |some ys0=>if(n=len/\sz=tsz V.sz e)/\z.all ct=true/\Qh ys0=n then
   match KJ V e ys0 (parts.map λ(i,x)=>(i,fnF V e (fnT (tev S x))))with
   |some ys=>k {val:= .lf (.ar n e) ys}
   |none=>none
   else none
  |none=>none
 |_,_,_=>none
def wI{A:Type}(t:TypeId)(parts:List (Nat×Operand))(S:TS V.N)(k:TE V.N->Option A):Option A:=match gn P t,places P t with
 |some z,some pl=>if z.all ct=true then match vF V pl (z.map tvc) (parts.map λ(i,x)=>(i,fnT (tev S x)))with
  |some cs=>k {val:=mkV V true (V.ty t) cs}
  |none=>none
  else none
 |_,_=>none
def tM:Nat->List (TV V.N)->Option Nat
 |_,[]=>none
 |j,x::r=>match x with
  | .raw (.slice none 0 0)=>some j
  |_=>tM (j+1) r
def wJ{A:Type}(t:TypeId)(parts:List (Nat×Operand))(dst:Option Tmp)(S:TS V.N)(k:TE V.N->Option A):Option A:=match gn P t,places P t,V.ty t,dst with
 |some z,some pl,some (.st s),some d=>if z.all ct=true then match vF V pl (z.map tvc) (parts.map λ(i,x)=>(i,tev S x))with
  |some cs=>match tM V 0 cs with
   |some j=>match(V.tys s)[j]? with
    |some (.sl e)=>match TV.hasL (53000+d) cs with
     |false=>k {val:= .agg (KK cs j (.vh (53000+d))),upd:=[(53000+d, .vec (V.tid e) e [])],new:=[53000+d]}
     |true=>none
    |_=>none
   |none=>none
  |none=>none
  else none
 |_,_,_,_=>none
end
section
variable {V:jj} {P:Program} {nm:Nat->Nat} {o:Oper} {S:TS V.N} {A:Type} {k:TE V.N->Option A} {r:A}
def _root_.Go.Tx.Ty.flat0{ι:Type}:Ty ι->Bool
 | .int _=>true
 | .bool=>true
 | .str=>true
 |_=>false
theorem cB{v:TV V.N}{l:List Nat}{h:H}(hk:k {val:=v,acc:=l}=some r)(hs:aC P nm o (Go.Awp.ev (az V S)) (az V S).own? {val:=h,acc:=l})(he:h=ao V S.len v):OpD P nm o S k r:=
 ⟨_,hk,eW S _ _,_, .sem hs,mq he⟩
theorem zR{t:TypeId}{x i:Operand}(ho:o.op= .index t x i)(h:wM V P t x i S k=some r):OpD P nm o S k r:=by
 unfold wM at h
 split at h
 ·rename_i len te ag sz n e xs kk j ht hx hi
  replace h:=ah h
  obtain⟨⟨e1,e2,e3⟩,h⟩:=h
  replace h:=ah h
  obtain⟨⟨h0,h1⟩,h⟩:=h
  replace h:=aS h
  obtain⟨y,hy,h⟩:=h
  subst e1;subst e2
  refine cB h (.index (n:=j) (ds:=aV V.sz V.enc (.ar n e) xs) ho ht (by rw[am,hx];rfl) (by rw[am,hi];rfl) h0 h1 (BK (y:=y) (rf ((Int.toNat_lt h0).2 h1) hy) e3)) (by simp only[ao])
 ·cases h
theorem Fo{t:TypeId}{x i:Operand}(ho:o.op= .indexAddr t x i)(h:Jr V P t x i S k=some r):OpD P nm o S k r:=by
 unfold Jr at h
 split at h
 ·rename_i len te ag sz kk j ht hi
  have hi':Go.Awp.ev (az V S) i= .d (.v (.int kk j)):=by rw[am,hi];rfl
  split at h
  ·rename_i m hx
   split at h
   ·rename_i n e xs hown
    replace h:=ah h
    obtain⟨⟨e1,e2⟩,h⟩:=h
    replace h:=ah h
    obtain⟨⟨h0,h1⟩,h⟩:=h
    exact cB h (.indexArr (hx':= .bp m (0+j.toNat *sz)) ho ht hi' h0 h1 (.inl ⟨m,0,by rw[am,hx];rfl,rfl⟩)) (by simp[ao])
   ·cases h
  ·rename_i n e xs hx
   replace h:=ah h
   obtain⟨⟨e1,e2⟩,h⟩:=h
   replace h:=ah h
   obtain⟨⟨h0,h1⟩,h⟩:=h
   replace h:=aS h
   obtain⟨y,hy,h⟩:=h
   subst e1;subst e2
   have hj:Int.toNat j<n:=(Int.toNat_lt h0).2 h1
   have m1:(j.toNat+1) *tsz V.sz e<=n *tsz V.sz e:=OH _ hj
   rw[OY]at m1
   refine cB h (.indexArr (n:=j) (hx':= .d (.rp (((aV V.sz V.enc (.ar n e) xs).drop (j.toNat *tsz V.sz e)).take (tsz V.sz e)))) ho ht hi' h0 h1 (.inr (.inr ⟨aV V.sz V.enc (.ar n e) xs,by rw[am,hx];simp[ao],?_,rfl⟩))) ?_
   ·rw[bH];exact m1
   ·rw[rf hj hy];simp[ao]
  ·rename_i m s i' off hx
   replace h:=ah h
   obtain⟨⟨h0,h1⟩,h⟩:=h
   exact cB h (.indexArr ho ht hi' h0 h1 (.inr (.inl ⟨m,s,i',off,by rw[am,hx];rfl,rfl⟩))) (by simp[ao])
  ·cases h
 ·cases h
theorem BJ{ag:Bool}{sz:Nat}{a b:List D}{d:D}(h:de ag sz a=some d):de ag sz (a++b)=some d:=by
 cases ag with
 |true=>
  simp only[de]at h⊢
  split at h
  ·rename_i hl
   rw[RS (by rw[OJ];omega),PO hl];exact h
  ·cases h
 |false=>
  cases a with
  |nil=>simp[de]at h
  |cons x r=>exact h
theorem tS{ag:Bool}{sz m off:Nat}{l row:List D}{d:D}(hr:l.take m=row)(h:de ag sz (row.drop off)=some d):de ag sz (l.drop off)=some d:=by
 rw[<-PH m l,hr,Rj]
 exact BJ h
theorem BI{ag:Bool}{sz:Nat}{ds:List D}{d:D}(h:de ag sz ds=some d):eX ag sz (ds.map H.d)=some (.d d):=by
 cases ag with
 |true=>
  simp only[de,eX,On]at h⊢
  split at h
  ·rename_i hl
   rw[RS hl,<-Pq,bA,c_]
   simp only[Om]at h;subst h;rfl
  ·cases h
 |false=>
  cases ds with
  |nil=>simp[de]at h
  |cons x r=>simp[de]at h;subst h;rfl
theorem fm{ω:Nat->Nat}{ag:Bool}{sz:Nat}{ot:Option (Ty V.ι)}{B:Type}{f:TV V.N->Option B}{b:B}:∀(t:Ty V.ι) (x:den V.N t) (off:Nat),vT V ag sz ot t x off f=some b->
 ∃v,f v=some b/\∃d,de ag sz ((aV V.sz V.enc t x).drop off)=some d/\∀ω,ao V ω v= .d d
 | .ar n e,xs,off,h=>by
  simp only[vT]at h
  split at h
  ·rename_i hc
   obtain⟨rfl,_,rfl,rfl⟩:=hc
   refine⟨_,h, .agg (aV V.sz V.enc (.ar n e) xs),?_,λω=>rfl⟩
   have hl:=bH (V:=V) (.ar n e) xs
   simp only[de,OZ]
   rw[RS (by omega),O8 (by omega)]
  ·obtain⟨hn,h⟩:=ah h
   replace h:=aS h
   obtain⟨y,hy,h⟩:=h
   obtain⟨v,h1,d,h2,h3⟩:=fm (ω:=ω) e y _ h
   refine⟨v,h1,d,?_,h3⟩
   have:=tS (rf hn hy) h2
   rw[PJ]at this
   rw[P0,Qq]at this
   exact this
 | .int _,x,off,h=>loadL_k h
 | .bool,x,off,h=>loadL_k h
 | .str,x,off,h=>loadL_k h
 | .st _,x,off,h=>loadL_k h
 | .sl _,x,off,h=>loadL_k h
 | .mp _ _,x,off,h=>loadL_k h
 | .er,x,off,h=>loadL_k h
 | .op _,x,off,h=>loadL_k h
 | .fnc,x,off,h=>loadL_k h
 | .fno,x,off,h=>loadL_k h
where
 loadL_k {ag:Bool} {sz:Nat} {ot:Option (Ty V.ι)} {B:Type} {f:TV V.N->Option B} {b:B} {t:Ty V.ι} {x:den V.N t} {off:Nat} (h:(match tT V ag sz ot t x off with|some v=>f v|none=>none)=some b):
  ∃v,f v=some b/\∃d,de ag sz ((aV V.sz V.enc t x).drop off)=some d/\∀ω,ao V ω v= .d d:=by
  split at h
  ·rename_i v hv
   obtain⟨d,h1,h2⟩:=fp (ω:=λ_=>0) hv
   refine⟨v,h,d,h1,λω=> ?_⟩
   obtain⟨d',h1',h2'⟩:=fp (ω:=ω) hv
   rw[h1]at h1';cases h1'
   exact h2'
  ·cases h
theorem uS{t:TypeId}{x:Operand}(ho:o.op= .load t x)(h:xT V P t x S k=some r):OpD P nm o S k r:=by
 unfold xT at h
 split at h
 ·rename_i ag sz ht
  have hop:o.op.operands= #[x]:=by rw[ho];rfl
  split at h
  ·rename_i n s i off hx
   split at h
   ·rename_i m e xs hown
    replace h:=ah h
    obtain⟨⟨e1,e2⟩,h⟩:=h
    replace h:=ah h
    obtain⟨hi,h⟩:=h
    replace h:=aS h
    obtain⟨y,hy,h⟩:=h
    obtain⟨v,h1,d,h2,h3⟩:=fm (ω:=S.len) _ _ _ h
    subst e1
    refine cB h1 (.ofAVal λρ' ω' hρ hω=> ?_) (h3 _).symm
    have hx':ρ' x= .bp n (i *tsz V.sz e+off):=by rw[hρ x (by rw[hop];simp),am,hx];rfl
    have ho':ω' n=_:=(hω n (by simp)).trans (oL hown)
    simp only[aT,ho,ht,hx',ho']
    have:=tS (rf hi hy) h2
    rw[PJ]at this
    rw[<-Pr,BI this]
   ·cases h
  ·rename_i n hx
   split at h
   ·rename_i m e xs hown
    replace h:=ah h
    obtain⟨⟨e1,e2,e3⟩,h⟩:=h
    subst e2;subst e3
    refine cB h (.ofAVal (e:={val:= .d (.agg (aV V.sz V.enc (.ar m e) xs)),acc:=[n]}) λρ' ω' hρ hω=> ?_) rfl
    have hx':ρ' x= .bp n 0:=by rw[hρ x (by rw[hop];simp),am,hx];rfl
    have ho':ω' n=_:=(hω n (by simp)).trans (oL hown)
    simp only[aT,ho,ht,hx',ho']
    have hl:=bH (V:=V) (.ar m e) xs
    rw[OZ,BI (d:= .agg (aV V.sz V.enc (.ar m e) xs)) (by simp only[de];rw[RS (by omega),O8 (by omega)])]
   ·cases h
  ·rename_i n s i off hx
   split at h
   ·rename_i te e xs hown
    replace h:=ah h
    obtain⟨e1,h⟩:=h
    replace h:=aS h
    obtain⟨y,hy,h⟩:=h
    obtain⟨v,h1,d,h2,h3⟩:=fm (ω:=S.len) _ _ _ h
    subst e1
    refine cB h1 (.ofAVal λρ' ω' hρ hω=> ?_) (h3 _).symm
    have hx':ρ' x= .ep n (tsz V.sz e) i off:=by rw[hρ x (by rw[hop];simp),am,hx];rfl
    have ho':ω' n=_:=(hω n (by simp)).trans (cg hown)
    simp only[aT,ho,ht,hx',ho',Oq,hy,OW,h2]
    exact⟨trivial,trivial⟩
   ·rename_i te e xs hown
    replace h:=ah h
    obtain⟨e1,h⟩:=h
    replace h:=aS h
    obtain⟨y,hy,h⟩:=h
    obtain⟨v,h1,d,h2,h3⟩:=fm (ω:=S.len) _ _ _ h
    subst e1
    exact cB h1 (.qload ho ht (by rw[am,hx];rfl) (sf hown) (r:=aV V.sz V.enc e y) (by rw[Oq,hy];rfl) h2) (h3 _).symm
   ·cases h
  ·rename_i t' y off hx
   obtain⟨v,h1,d,h2,h3⟩:=fm (ω:=S.len) _ _ _ h
   refine cB h1 (.ofAVal λρ' ω' hρ hω=> ?_) (h3 _).symm
   have hx':ρ' x= .d (.rp ((aV V.sz V.enc t' y).drop off)):=by rw[hρ x (by rw[hop];simp),am,hx];rfl
   simp only[aT,ho,ht,hx',h2]
  ·cases h
 ·cases h
theorem wk{n:Nat}{o':TO V.N}{x:Own}{l:List Nat}(hx:∀ω,aZ V ω o'=some x)(hl:TO.len (some o')=S.len n)(hk:k {val:= .junk,acc:=l,upd:=[(n,o')]}=some r)
 (h:aC P nm o (Go.Awp.ev (az V S)) (az V S).own? {val:= .junk,acc:=l,upd:=[(n,some x)]}):OpD P nm o S k r:=by
 refine⟨_,hk,λm o1 hm=> ?_,_, .sem h,bq rfl rfl (by simp[hx]) rfl⟩
 simp only[af]at hm
 split at hm
 ·rename_i e;right;simp at hm;subst hm;subst e;exact hl
 ·simp[gt]at hm
theorem sb{d:Nat}{v:TV V.N}{h:H}{o':TO V.N}{x:Own}{l:List Nat}(hx:∀ω,aZ V ω o'=some x)(hv:∀ω:Nat->Nat,ω d=TO.len (some o')->ao V ω v=h)(hk:k {val:=v,acc:=l,upd:=[(d,o')],new:=[d]}=some r)
 (hs:aC P nm o (Go.Awp.ev (az V S)) (az V S).own? {val:=h,acc:=l,upd:=[(d,some x)],new:=[d]}):OpD P nm o S k r:=by
 refine⟨_,hk,λm o1 hm=> ?_,_, .sem hs,bq (hv _ ?_).symm rfl (by simp[hx]) rfl⟩
 ·simp only[af]at hm
  split at hm
  ·rename_i e;left;simp[e]
  ·simp[gt]at hm
 ·rw[bX];simp[af]
theorem zZ{t:TypeId}{x y:Operand}(ho:o.op= .store t x y)(h:wS V P t x y S k=some r):OpD P nm o S k r:=by
 unfold wS at h
 split at h
 ·rename_i ag sz cs ht hcs
  have hop:o.op.operands= #[x,y]:=by rw[ho];rfl
  have hyc:=ce (ω:=S.len) hcs
  split at h
  ·rename_i n s i hx
   split at h
   ·rename_i m e xs hown
    replace h:=ah h
    obtain⟨⟨e1,e2,e3,e4⟩,h⟩:=h
    replace h:=ah h
    obtain⟨hi,h⟩:=h
    replace h:=ah h
    obtain⟨hil,h⟩:=h
    split at h
    ·rename_i z hz
     obtain⟨ds,d1,_,d3⟩:=dC (ω:=S.len) hz
     replace d3:=d3 rfl
     subst d3
     refine wk (x:= .box none ((aV V.sz V.enc (.ar m e) (xs.set i z)).map .d)) (λω=>rfl) (by rw[BF hown];rfl) h (.ofAVal λρ' ω' hρ hω=> ?_)
     have hx':ρ' x= .bp n (i *s+0):=by rw[hρ x (by rw[hop];simp),am,hx];rfl
     have hy':(ρ' y).cells=some (encL V S.len cs):=by rw[hρ y (by rw[hop];simp),am];exact hyc
     have ho':ω' n=_:=(hω n (by simp)).trans (oL hown)
     simp only[aT,ho,ht,hx',hy',ho',aK]
     have hl:=bH (V:=V) (.ar m e) xs
     have m1:(i+1) *tsz V.sz e<=m *tsz V.sz e:=OH _ hi
     rw[OY]at m1
     have hl2:(aV V.sz V.enc (.ar m e) xs).length=m *tsz V.sz e:=hl
     subst e1
     refine⟨⟨e2,dR e4,by rw[On,hl2];omega⟩,?_⟩
     have hzl:=bH (V:=V) e z
     rw[Al hi hil,d7,aK,d1]
     simp only[O6,Pq,Pr,Pd]
     have:cs.length=tsz V.sz e:=by omega
     rw[this]
    ·cases h
   ·cases h
  ·rename_i n hx
   split at h
   ·rename_i m e xs m' e' ys hown hy
    replace h:=ah h
    obtain⟨⟨e1,e2,e3⟩,h⟩:=h
    subst e1;subst e2
    rw[hy]at hcs
    simp only[TV.cells,Om]at hcs
    subst hcs
    have he:encL V S.len ((aN V (.ar m' e') ys).map λl=>TV.lf l.t l.x)=(aV V.sz V.enc (.ar m' e') ys).map H.d:=by
     rw[bZ,encL_map,OQ,OQ]
     exact OP λl _=>by simp[ao]
    rw[he]at hyc
    refine wk (x:= .box none ((aV V.sz V.enc (.ar m' e') ys).map .d)) (λω=>rfl) (by rw[BF hown];rfl) h (.ofAVal λρ' ω' hρ hω=> ?_)
    have hx':ρ' x= .bp n 0:=by rw[hρ x (by rw[hop];simp),am,hx];rfl
    have hy':(ρ' y).cells=some ((aV V.sz V.enc (.ar m' e') ys).map H.d):=by rw[hρ y (by rw[hop];simp),am];exact hyc
    have ho':ω' n=_:=(hω n (by simp)).trans (oL hown)
    simp only[aT,ho,ht,hx',hy',ho']
    have hl:=bH (V:=V) (.ar m' e') ys
    have hl2:=bH (V:=V) (.ar m' e') xs
    refine⟨⟨by rw[On,hl,e3],?_,by rw[On,hl2,e3];omega⟩,?_⟩
    ·rw[PL]
     exact si
    ·simp only[d7,QK,OM,On,OS]
     rw[Rt (by rw[On];omega),Pj]
   ·cases h
  ·cases h
 ·cases h
theorem KV{a b:Value}(h:zeq a b=true):a=b:=by
 unfold zeq at h
 split at h
 ·simp only[Oy,RQ]at h
  rw[h.1,h.2]
 ·rename_i a b
  have:a=b:=by simpa using h
  rw[this]
 ·rfl
 ·simp only[RQ]at h;rw[h]
 ·cases h
theorem DC:∀{a b:List Value},Lg a b=true->a=b
 |[],[],_=>rfl
 |a::r,b::s,h=>by
  simp only[Lg,Oy]at h
  rw[KV h.1,DC h.2]
 |[],_::_,h=>by cases h
 |_::_,[],h=>by cases h
theorem zM{t:TypeId}(ho:o.op= .alloc t)(h:wF V P nm t o.dst k=some r):OpD P nm o S k r:=by
 unfold wF at h
 split at h
 ·rename_i n e z d hty hz hd
  split at h
  ·rename_i y hy
   replace h:=ah h
   obtain⟨⟨h1,h2,h3⟩,h⟩:=h
   obtain⟨ds,d1,_,d3⟩:=dC (ω:=S.len) hy
   replace d3:=d3 rfl
   subst d3
   have h3:=DC h3
   have hrow:aV V.sz V.enc e y=(z.take (tsz V.sz e)).map .v:=by
    apply kS
    rw[<-d1,encL_map]
    simp only[OQ]
    refine(OP λu hu=> ?_)
    have:ct u=true:=OD.1 h1 u (Pg hu)
    simp only[Qa,wU]
    cases u<;>first|rfl|cases this
   have harr:aV V.sz V.enc (.ar n e) (Pc n y)=z.map .v:=by
    simp only[aV,arL,Qp]
    have hl:=bH (V:=V) e y
    rw[PO (by rw[dm (s:=tsz V.sz e) (λr hr=>by rw[(Q4.1 hr).2];exact hl),P5];exact OO _),
     O8 (by rw[dm (s:=tsz V.sz e) (λr hr=>by rw[(Q4.1 hr).2];exact hl),P5];exact OO _)]
    rw[h3,QY,Qp,hrow]
   refine sb (h:= .bp (nm d) 0) (x:= .box none ((aV V.sz V.enc (.ar n e) (Pc n y)).map .d)) (λω=>rfl) (λω _=>rfl) h (.ofAVal λρ' ω' hρ hω=> ?_)
   simp only[aT,ho,hz,hd,h2]
   rw[harr,OQ]
   try rfl
  ·cases h
 ·cases h
theorem Fj{t:TypeId}{x:Operand}(ho:o.op= .box t x)(h:Jl V nm x o.dst S k=some r):OpD P nm o S k r:=by
 unfold Jl at h
 split at h
 ·rename_i n e xs d hx hd
  refine sb (h:= .bp (nm d) 0) (x:= .box none ((aV V.sz V.enc (.ar n e) xs).map .d)) (λω=>rfl) (λω _=>rfl) h (.ofAVal λρ' ω' hρ hω=> ?_)
  have hx':ρ' x= .d (.agg (aV V.sz V.enc (.ar n e) xs)):=by rw[hρ x (by rw[ho];simp[Op.operands]),am,hx];rfl
  simp only[aT,ho,hx',H.cells,hd]
  exact⟨none, .inl rfl,rfl⟩
 ·cases h
theorem Ft{x:Operand}(ho:o.op= .nilCheck x)(h:Jw V x S k=some r):OpD P nm o S k r:=by
 unfold Jw at h
 split at h
 ·rename_i e y hx
  replace h:=aS h
  obtain⟨z,rfl,h⟩:=h
  refine cB h (.ofAVal (e:={val:= .d (.rp (aV V.sz V.enc e z))}) λρ' ω' hρ hω=> ?_) (by simp[ao])
  have hx':ρ' x= .d (.rp (aV V.sz V.enc e z)):=by rw[hρ x (by rw[ho];simp[Op.operands]),am,hx];rfl
  simp only[aT,ho,hx']
 ·cases h
def ib{ι:Type}{N:ι->Type}:cj N->Value
 |⟨.int k,n⟩=> .int k n
 |⟨.bool,b⟩=> .bool b
 |⟨.str,s⟩=> .string s
 |_=> .nilIface
theorem kM:∀{ls:List (cj V.N)} {ks:List CK},dU V (ls.map λl=>l.t)=some ks->(ls.map λl=>aL V.sz V.enc l.t l.x)=(ls.map ib).map .v/\gw ks (ls.map ib)=true
 |[],ks,h=>by simp[dU]at h;subst h;exact⟨rfl,rfl⟩
 |⟨t,x⟩::r,ks,h=>by
  simp only[Ow,dU]at h
  split at h
  ·rename_i k l hl
   simp at h;subst h
   obtain⟨h1,h2⟩:=kM hl
   exact⟨by simp only[Ow,h1];rfl,by simp[gw,ib,CK.is,h2]⟩
  ·rename_i l hl
   simp at h;subst h
   obtain⟨h1,h2⟩:=kM hl
   exact⟨by simp only[Ow,h1];rfl,by simp[gw,ib,CK.is,h2]⟩
  ·rename_i l hl
   simp at h;subst h
   obtain⟨h1,h2⟩:=kM hl
   exact⟨by simp only[Ow,h1];rfl,by simp[gw,ib,CK.is,h2]⟩
  ·cases h
theorem JW(x y:ByteArray):(x==y)=true↔x=y:=by
 obtain⟨a⟩:=x
 obtain⟨b⟩:=y
 show(a==b)=true↔_
 simp
theorem Hj{t:Ty V.ι}{x y:den V.N t}(ht:t.flat0=true):n4 (ib (⟨t,x⟩:cj V.N)) (ib ⟨t,y⟩)=K5 (⟨t,x⟩:cj V.N) ⟨t,y⟩:=by
 cases t with
 |int k=>rfl
 |bool=>rfl
 |str=>
  simp only[ib,K5,Mp.seq]
  rw[Bool.eq_iff_iff,qn (k:= .str) rfl rfl]
  have e1:(Value.string x=Value.string y)↔(x=y):=by simp
  exact e1.trans (JW x y).symm
 |_=>cases ht
theorem Bc:∀{ls ls':List (cj V.N)} {ks:List CK},dU V (ls.map λl=>l.t)=some ks->dU V (ls'.map λl=>l.t)=some ks->(ls.map λl=>l.t)=(ls'.map λl=>l.t)->bY (ls.map ib) (ls'.map ib)=Bb ls ls'
 |[],[],_,_,_,_=>rfl
 |[],_::_,_,_,_,h=>by simp at h
 |_::_,[],_,_,_,h=>by simp at h
 |⟨t,x⟩::r,⟨t',y⟩::r',ks,h1,h2,h=>by
  simp only[Ow,PF]at h
  obtain⟨rfl,h⟩:=h
  have tl:∀{t:Ty V.ι} {ts:List (Ty V.ι)} {ks:List CK},dU V (t::ts)=some ks->t.flat0=true/\∃ks',dU V ts=some ks':=by
   intro t ts ks h
   simp only[dU]at h
   split at h<;>first|(exact⟨rfl,_,‹_›⟩)|cases h
  simp only[Ow]at h1 h2
  obtain⟨f1,k1,g1⟩:=tl h1
  obtain⟨f2,k2,g2⟩:=tl h2
  have g3:=g2
  rw[<-h]at g3
  have ih:=Bc (ks:=k1) g1 (by rw[<-h];exact g1) h
  have he:=Hj (V:=V) (x:=x) (y:=y) f1
  simp only[Ow,bY,he,ih]
  cases r with
  |nil=>
   cases r' with
   |nil=>simp[Bb]
   |cons b s=>simp at h
  |cons a q=>
   cases r' with
   |nil=>simp at h
   |cons b s=>simp[Bb]
theorem dq{i:V.ι}{a:V.N i}{ks:List CK}(h:dU V (V.tys i)=some ks):V.enc i a=((V.cells i a).map ib).map .v/\gw ks ((V.cells i a).map ib)=true:=by
 rw[<-V.tys_cells i a]at h
 rw[V.enc_cells]
 exact kM h
theorem xq{i:V.ι}{a b:V.N i}{ks:List CK}(h:dU V (V.tys i)=some ks):bY ((V.cells i a).map ib) ((V.cells i b).map ib)=Bb (V.cells i a) (V.cells i b):=
 Bc (ks:=ks) (by rw[V.tys_cells];exact h) (by rw[V.tys_cells];exact h) (by rw[V.tys_cells,V.tys_cells])
theorem Fl{op:BinOp}{xt yt:TypeId}{x y:Operand}(ho:o.op= .binOp op xt x y yt)(h:Jn V P op xt x y S k=some r):OpD P nm o S k r:=by
 unfold Jn at h
 split at h
 ·rename_i q e a hq hx hy
  split at h
  ·rename_i hp
   have key:∀b:Bool,k {val:= .lf .bool (if q=true then b else !b)}=some r->ni P xt (aL V.sz V.enc (.op e) a) (.v (.pointer none)) b->OpD P nm o S k r:=λb hk hc=>
    cB hk (.cmp ho hq (by rw[am,hx];rfl) (by rw[am,hy];rfl) hc) rfl
   have hc:ni P xt (aL V.sz V.enc (.op e) a) (.v (.pointer none)) a.isNone:=by
    cases a with
    |none=>exact .pn hp
    |some z=>exact .rp hp
   refine key _ ?_ hc
   split at h<;>cases a<;>exact h
  ·cases h
 ·rename_i q a hq hx hy
  split at h
  ·rename_i hp
   have hp':∃x y z,P.underlying xt=some (.func x y z):=by
    unfold Ke at hp
    split at hp
    ·exact⟨_,_,_,‹_›⟩
    ·cases hp
   have key:∀b:Bool,k {val:= .lf .bool (if q=true then b else !b)}=some r->ni P xt (aL V.sz V.enc .fno a) (.v .nilFunc) b->OpD P nm o S k r:=λb hk hc=>
    cB hk (.cmp ho hq (by rw[am,hx];rfl) (by rw[am,hy];rfl) hc) rfl
   have hc:ni P xt (aL V.sz V.enc .fno a) (.v .nilFunc) (Option.isNone (α:=Nat) a):=by
    cases a with
    |none=>exact .nf hp'
    |some z=>exact .fn hp'
   refine key _ ?_ hc
   split at h<;>cases a<;>exact h
  ·cases h
 ·rename_i q i a j b hq hx hy
  replace h:=ah h
  obtain⟨⟨e1,hs,hg,hf,hks⟩,h⟩:=h
  subst e1
  obtain⟨ks,hks'⟩:=QN.1 hf
  rw[hks']at hks
  obtain⟨a1,a2⟩:=dq (a:=a) hks
  obtain⟨b1,b2⟩:=dq (a:=b) hks
  have hs':∃fs,P.underlying xt=some (.struct fs):=by
   unfold BC at hs
   split at hs
   ·exact⟨_,‹_›⟩
   ·cases hs
  have hc:ni P xt (.agg (V.enc i a)) (.agg (V.enc i b)) (Bb (V.cells i a) (V.cells i b)):=by
   rw[a1,b1,<-xq hks]
   exact .st hs' hg (by decide) hks' a2 b2
  have key:k {val:= .lf .bool (if q=true then Bb (V.cells i a) (V.cells i b)else !Bb (V.cells i a) (V.cells i b))}=some r->OpD P nm o S k r:=λhk=>
   cB hk (.cmp ho hq (by rw[am,hx,jP]) (by rw[am,hy,jP]) hc) rfl
  refine key ?_
  split at h<;>exact h
 ·cases h
theorem Ak{n sz i:Nat}(h:i<n):(yj n sz)[i]?=some (i *sz,sz):=by
 unfold yj
 rw[Oq,PP h];rfl
theorem Hm{ω:Nat->Nat}(e:Ty V.ι)(v:TV V.N):ao V ω (fnF V e v)=ao V ω v:=by
 unfold fnF
 split
 ·cases e<;>rfl
 ·rfl
theorem wA{α:Type}:∀(l:List α) (i:Nat) (x:α),KK l i x=l.set i x
 |[],_,_=>rfl
 |_::_,0,_=>rfl
 |a::r,i+1,x=>by rw[KK,wA r i x];rfl
theorem mi{ω:Nat->Nat}{z:List Value}(h:z.all ct=true):encL V ω (z.map tvc)=z.map λx=>H.d (.v x):=by
 rw[encL_map]
 simp only[OQ]
 refine OP λu hu=> ?_
 have:ct u=true:=OD.1 h u hu
 simp only[Qa,wU]
 cases u<;>first|rfl|cases this
theorem qU{ω:Nat->Nat}{n:Nat}{e:Ty V.ι}:∀{parts:List (Nat×TV V.N)} {ys ys':List (den V.N e)},KJ V e ys parts=some ys'->ys.length=n->
 mN (yj n (tsz V.sz e)) ((aV V.sz V.enc (.ar n e) ys).map .d) (parts.map λp=>(p.1,ao V ω p.2))=some ((aV V.sz V.enc (.ar n e) ys').map .d)
 |[],ys,ys',h,_=>by
  simp only[KJ,Om]at h
  subst h;rfl
 |(i,x)::r,ys,ys',h,hn=>by
  simp only[KJ]at h
  replace h:=ah h
  obtain⟨hi,h⟩:=h
  split at h
  ·rename_i y hy
   obtain⟨cs,ds,h1,h2,_,h4⟩:=nV (ω:=ω) hy
   replace h4:=h4 rfl
   subst h4
   have hc:=ce (ω:=ω) h1
   have hl:=bH (V:=V) e y
   have hcl:cs.length=tsz V.sz e:=by
    have:=congrArg Qh h2
    rw[aK,On,hl]at this;exact this
   have hL:=bH (V:=V) (.ar n e) ys
   have hL2:(aV V.sz V.enc (.ar n e) ys).length=n *tsz V.sz e:=hL
   have m1:(i+1) *tsz V.sz e<=n *tsz V.sz e:=OH _ (by omega)
   rw[OY]at m1
   rw[wA]at h
   have ih:=qU (ω:=ω) (n:=n) h (by rw[Pi];exact hn)
   simp only[Ow,mN,Ak (by omega:i<n),hc]
   rw[RS ⟨by rw[aK];exact hcl,by rw[On,hL2];omega⟩,<-ih]
   congr 1
   rw[d7,aK,hcl,h2,Al (by omega) hi]
   simp only[O6,Pq,Pr]
  ·cases h
theorem zN{t:TypeId}{parts:Array (Nat×Operand)}(ho:o.op= .build t parts)(h:wG V P t parts.toList S k=some r):OpD P nm o S k r:=by
 unfold wG at h
 split at h
 ·rename_i n e len te ag sz z hty ht hz
  split at h
  ·rename_i ys0 hys0
   replace h:=ah h
   obtain⟨⟨⟨e1,e2⟩,e3,e4⟩,h⟩:=h
   split at h
   ·rename_i ys hys
    subst e1;subst e2
    obtain⟨ds,d1,_,d3⟩:=dC (ω:=S.len) hys0
    replace d3:=d3 rfl
    subst d3
    rw[mi e3]at d1
    have hf:=qU (ω:=S.len) (n:=n) hys e4
    have hp:((parts.toList.map λ(i,x)=>(i,fnF V e (fnT (tev S x)))).map λp=>(p.1,ao V S.len p.2))=parts.toList.map λ(i,x)=>(i,fnD (Go.Awp.ev (az V S) x)):=by
     rw[OQ]
     refine OP λp _=> ?_
     simp only[Qa,Hm,rq,am]
    rw[hp,<-d1]at hf
    refine cB h (.buildArr ho ht hz hf) ?_
    rw[bA,c_,FW]
   ·cases h
  ·cases h
 ·cases h
theorem zO{t:TypeId}{parts:Array (Nat×Operand)}(ho:o.op= .build t parts)(h:wI V P t parts.toList S k=some r):OpD P nm o S k r:=by
 unfold wI at h
 split at h
 ·rename_i z pl hz hpl
  replace h:=ah h
  obtain⟨hzc,h⟩:=h
  split at h
  ·rename_i cs hcs
   have hf:=gv (ω:=S.len) hcs
   have hp:((parts.toList.map λ(i,x)=>(i,fnT (tev S x))).map λp=>(p.1,ao V S.len p.2))=parts.toList.map λ(i,x)=>(i,fnD (Go.Awp.ev (az V S) x)):=by
    rw[OQ]
    refine OP λp _=> ?_
    simp only[Qa,rq,am]
   rw[hp,mi hzc]at hf
   exact cB h (.buildSt ho hz hpl hf) (f5.2 rfl)
  ·cases h
 ·cases h
theorem oe:∀{l:List (TV V.N)} {j i:Nat},tM V j l=some i->j<=i/\l[i-j]?=some (.raw (.slice none 0 0))
 |[],_,_,h=>by simp[tM]at h
 |x::r,j,i,h=>by
  simp only[tM]at h
  split at h
  ·simp only[Om]at h
   subst h
   exact⟨OO _,by simp⟩
  ·obtain⟨h1,h2⟩:=oe h
   refine⟨by omega,?_⟩
   have:i-j=(i-(j+1))+1:=by omega
   rw[this]
   simpa using h2
theorem zP{t:TypeId}{parts:Array (Nat×Operand)}(ho:o.op= .build t parts)(h:wJ V P t parts.toList o.dst S k=some r):OpD P nm o S k r:=by
 unfold wJ at h
 split at h
 ·rename_i z pl s d hz hpl hty hd
  replace h:=ah h
  obtain⟨hzc,h⟩:=h
  split at h
  ·rename_i cs hcs
   split at h
   ·rename_i j hj
    split at h
    ·rename_i e he
     split at h
     ·rename_i hno
      rw[wA]at h
      have hf:=gv (ω:=S.len) hcs
      have hp:((parts.toList.map λ(i,x)=>(i,tev S x)).map λp=>(p.1,ao V S.len p.2))=parts.toList.map λ(i,x)=>(i,Go.Awp.ev (az V S) x):=by
       rw[OQ]
       refine OP λp _=> ?_
       simp only[Qa,am]
      rw[hp,mi hzc]at hf
      have hjc:cs[j]?=some (.raw (.slice none 0 0)):=by have:=(oe hj).2;simpa using this
      have base:aC P nm o (Go.Awp.ev (az V S)) (az V S).own? {val:=bA (encL V S.len cs)}:= .ofAVal λρ' ω' hρ hω=>by
       have hpp:(parts.toList.map λ(i,x)=>(i,ρ' x))=parts.toList.map λ(i,x)=>(i,Go.Awp.ev (az V S) x):=by
        refine OP λp hp=> ?_
        have:ρ' p.2=_:=hρ p.2 (by rw[ho];simp only[Op.operands];simpa using ⟨p.1,by simpa using hp⟩)
        simp only[this]
       simp only[aT,ho,hz,hpl,hpp,hf]
      refine⟨_,h,λm o1 hm=> ?_,_, .sem (.nilTop (nn:=53000+d) (e:=V.tid e) (sz:=tsz V.sz e) (i:=j) hd (by rw[encL_map,Oq,hjc];rfl) (by rw[encL_has];exact hno) base),bq ?_ rfl rfl rfl⟩
      ·simp only[af]at hm
       split at hm
       ·rename_i q;left;simp[q]
       ·simp[gt]at hm
      ·simp only[ao]
       congr 1
       rw[encL_map _ (cs.set j _),P1]
       congr 1
       ·rw[<-encL_map]
        refine(encL_congr cs λq hq=> ?_).symm
        rw[bX]
        simp only[af]
        rw[RR λe0=>by rw[<-e0,hno]at hq;cases hq]
        rfl
       ·simp only[ao]
        rw[bX]
        simp only[af,RO]
        rfl
     ·cases h
    ·cases h
   ·cases h
  ·cases h
 ·cases h
end
end Go.Tx
end
section
namespace Go.Tx
open Go.Awp
variable [Inhabited GMem]
section
variable (V:jj) (P:Program) (nm:Nat->Nat)
def aX(d:Nat):Nat:=50000+d
def kK(kt:TypeId):Ty V.ι->Bool
 | .st i=>BC P kt&&match hU P 100 kt with
  |some ks=>decide (dU V (V.tys i)=some ks)
  |none=>false
 |tk=>eQ (P.underlying kt) tk
def qb{B:Type}(S:TS V.N)(n:Nat)(f:(m:Nat)->TypeId->(tk tv:Ty V.ι)->List (Option (List (den V.N tk×den V.N tv)))->Nat->List (den V.N tk×den V.N tv)->Option B):Option B:=match S.own? n with
 |some (.alias m)=>match S.own? m with
  |some (.maps te tk tv es (some (n',i)))=>if n'=n/\¬n=m then es[i]?>>=λo=>o>>=λm0=>f m te tk tv es i m0 else none
  |_=>none
 |_=>none
def Em{B:Type}(c:Bool)(tk tv:Ty V.ι)(key:den V.N tk)(z:den V.N tv)(es:List (den V.N tk×den V.N tv))(f:TV V.N->B):B:=match c with
 |true=>f (.tup [.lf tv ((Mp.get (keq V.cells tk) key es).getD z), .lf .bool (Mp.get (keq V.cells tk) key es).isSome])
 |false=>f (.lf tv ((Mp.get (keq V.cells tk) key es).getD z))
def Dl{A:Type}(t:TypeId)(x i:Operand)(c:Bool)(S:TS V.N)(k:TE V.N->Option A):Option A:=match P.underlying t,tev S x,tev S i with
 |some (.map kt et), .mp n, .lf tk key=>match mh P et with
  |some d=>match S.own? n with
   |some (.map tk' tv es)=>match ofZ V true tv d with
    |some z=>if h:tk=tk' then if kK V P kt tk'=true then Em V c tk' tv (h▸key) z es λv=>k {val:=v,acc:=[n]}else none else none
    |none=>none
   |_=>qb V S n λm te tk' tv es j m0=>match ofZ V true tv d with
    |some z=>if h:tk=tk' then if kK V P kt tk'=true then Em V c tk' tv (h▸key) z m0 λv=>k {val:=v,acc:=[m,n],upd:=[(m, .maps te tk' tv es (some (n,j))),(n, .alias m)]}else none else none
    |none=>none
  |none=>none
 |_,_,_=>none
def FF{A:Type}(t:TypeId)(x i y:Operand)(S:TS V.N)(k:TE V.N->Option A):Option A:=match P.underlying t,tev S x,tev S i,tev S y with
 |some (.map kt _), .mp n, .lf tk key, .lf tv z=>match S.own? n with
  |some (.map tk' tv' es)=>if h:tk=tk' then
   if h':tv=tv' then
    if kK V P kt tk'=true then k {val:= .junk,acc:=[n],upd:=[(n, .map tk' tv' (Mp.set (keq V.cells tk') (klt tk') (h▸key) (h'▸z) es))]}else none
   else none
   else none
  |_=>qb V S n λm te tk' tv' es j m0=>if h:tk=tk' then
   if h':tv=tv' then
    if kK V P kt tk'=true then k {val:= .junk,acc:=[m,n],upd:=[(m, .maps te tk' tv' (es.set j (some (Mp.set (keq V.cells tk') (klt tk') (h▸key) (h'▸z) m0))) (some (n,j))),(n, .alias m)]}else none
   else none
   else none
 |_,_,_,_=>none
def Ju{A:Type}(args:List (TV V.N))(tys:List TypeId)(S:TS V.N)(k:TE V.N->Option A):Option A:=match args with
 |[.mp n]=>if cE P tys=3 then qb V S n λm te tk tv es j m0=>k {val:= .lf (.int .i64) m0.length,acc:=[m,n],upd:=[(m, .maps te tk tv es (some (n,j))),(n, .alias m)]}else none
 |_=>none
def wO{A:Type}(t:TypeId)(x:Operand)(dst:Option Tmp)(S:TS V.N)(k:TE V.N->Option A):Option A:=match P.underlying t,tev S x,dst with
 |some (.map _ _), .mp n,some d=>qb V S n λm te tk tv es j m0=>
  if¬aX d=n/\¬aX d=m then k {val:= .bp (aX d) 0,acc:=[m,n],upd:=[(aX d, .miter n tk tv m0 m0 none),(n, .gone 0),(m, .maps te tk tv (es.set j none) none)],new:=[aX d]}else none
 |_,_,_=>none
def sE{A:Type}(t:TypeId)(x i:Operand)(S:TS V.N)(k:TE V.N->Option A):Option A:=match bg P t,tev S x,tev S i with
 |some (_,sz,_), .vh m, .lf (.int _) n=>match S.own? m with
  |some (.maps _ _ _ es _)=>if 0<=n/\n<es.length then k {val:= .ep m sz n.toNat 0,acc:=[m]}else none
  |some (.que _ _ xs)=>if 0<=n/\n<xs.length then k {val:= .ep m sz n.toNat 0,acc:=[m]}else none
  |_=>none
 |_,_,_=>none
def pz{A:Type}(t:TypeId)(x:Operand)(dst:Option Tmp)(S:TS V.N)(k:TE V.N->Option A):Option A:=match bu P t,tev S x,dst with
 |some (false,1), .ep m 1 i 0,some d=>match S.own? m with
  |some (.maps te tk tv es _)=>es[i]?>>=λo=>o>>=λ_=>if¬aX d=m then k {val:= .mp (aX d),acc:=[m],upd:=[(m, .maps te tk tv es (some (aX d,i))),(aX d, .alias m)],new:=[aX d]}else none
  |_=>none
 |_,_,_=>none
def mg{A:Type}(t:TypeId)(x y:Operand)(S:TS V.N)(k:TE V.N->Option A):Option A:=match bu P t,tev S x,tev S y with
 |some (_,1), .ep m 1 i 0, .mp n=>match S.own? m,S.own? n with
  |some (.maps te tk tv es _),some (.map tk' tv' e0)=>if h:tk'=tk/\tv'=tv then
   if i<es.length/\¬n=m then k {val:= .junk,acc:=[m,n],upd:=[(m, .maps te tk tv (es.set i (some (h.1▸h.2▸e0))) none),(n, .gone 0)]}else none
   else none
  |_,_=>none
 |_,_,_=>none
def py{A:Type}(t:TypeId)(l c:Operand)(dst:Option Tmp)(S:TS V.N)(k:TE V.N->Option A):Option A:=match V.ty t,bg P t,dst with
 |some (.sl (.mp tk tv)),some (te,1,bytes),some d=>match gn P te,tev S l,tev S c with
  |some [_], .lf (.int _) _, .lf (.int _) m=>match qT l c with
   |true=>if bytes<=32768 then if 0<=m then if m<=4294967296 then k {val:= .vh (aX d),upd:=[(aX d, .maps te tk tv (Pc m.toNat none) none)],new:=[aX d]}else none else none else none
   |false=>none
  |_,_,_=>none
 |_,_,_=>none
def wK{A:Type}(t:TypeId)(len:Nat)(parts:List (Nat×Operand))(dst:Option Tmp)(S:TS V.N)(k:TE V.N->Option A):Option A:=match bg P t,V.ty t,dst with
 |some (te,sz,_),some (.sl e),some d=>if sz=tsz V.sz e/\parts.length=len/\len *sz<=16777216/\0<len then
  match zw V true e 0 (parts.map λ(i,x)=>(i,fnT (tev S x)))with
  |some ys=>k {val:= .vh (aX d),upd:=[(aX d, .que te e ys)],new:=[aX d]}
  |none=>none
  else none
 |_,_,_=>none
def wR{A:Type}(t:TypeId)(x:Operand)(lo hi mx:Option Operand)(dst:Option Tmp)(S:TS V.N)(k:TE V.N->Option A):Option A:=match mx,bg P t,dst,tev S x with
 |none,some (_,sz,_),some d, .vh m=>match lo,hi,S.own? m with
  |some l,none,some (.que te e xs)=>match tev S l with
   | .lf (.int _) n=>if sz=tsz V.sz e then if 0<=n then if n<=xs.length then k {val:= .vh (aX d),acc:=[m],upd:=[(aX d, .que te e (xs.drop n.toNat)),(m, .gone (S.len m))],new:=[aX d]}else none else none else none
   |_=>none
  |none,some h,some (.vec te e xs)=>match tev S h with
   | .lf (.int _) n=>if 0<=n then if n<=xs.length then k {val:= .vh (aX d),acc:=[m],upd:=[(aX d, .vec te e (xs.take n.toNat)),(m, .gone (S.len m))],new:=[aX d]}else none else none
   |_=>none
  |_,_,_=>none
 |_,_,_,_=>none
def Jj{A:Type}(args:List (TV V.N))(tys:List TypeId)(dst:Option Tmp)(S:TS V.N)(k:TE V.N->Option A):Option A:=match args,tys,dst with
 |[x,y],[t,t'],some d=>match bg P t with
  |some (te,sz,bytes)=>if t=t'/\bytes<=32768 then match y with
   | .lf (.sl e') (y0::ys)=>match x with
    | .vh n=>match S.own? n with
     |some (.que te2 e xs)=>if h:e'=e then
      if te=te2/\sz=tsz V.sz e then
       if xs.length+(y0::ys).length<=most then k {val:= .vh (aX d),acc:=[n],upd:=[(aX d, .que te e (xs++h▸(y0::ys))),(n, .gone (S.len n))],new:=[aX d]}else none
      else none
      else none
     |_=>none
    |_=>none
   | .sv m sz2 lo len=>match S.own? m with
    |some (.vec _ e2 xs2)=>if sz=tsz V.sz e2/\sz2=sz then
     if lo+len<=xs2.length then match x with
      | .vh n=>match S.own? n with
       |some (.vec te1 e xs)=>if h:e2=e then
        if te=te1/\¬n=m then
         if xs.length+len<=most then k {val:= .vh (aX d),acc:=[m,n],upd:=[(aX d, .vec te e (xs++h▸(xs2.drop lo).take len)),(n, .gone (S.len n))],new:=[aX d]}else none
        else none
        else none
       |_=>none
      | .raw (.slice none 0 0)=>if len<=most then k {val:= .vh (aX d),acc:=[m],upd:=[(aX d, .vec te e2 ((xs2.drop lo).take len))],new:=[aX d]}else none
      |_=>none
     else none
     else none
    |_=>none
   |_=>none
   else none
  |none=>none
 |_,_,_=>none
def Df{A:Type}(args:List (TV V.N))(tys:List TypeId)(S:TS V.N)(k:TE V.N->Option A):Option A:=match args,tys with
 |[.vh m,y],t::_=>match bg P t,S.own? m with
  |some (te,sz,_),some (.vec te1 e xs)=>if te=te1/\sz=tsz V.sz e then match y with
   | .sv m2 sz2 lo len=>match S.own? m2 with
    |some (.vec _ e2 xs2)=>if h:e2=e then
     if sz2=sz/\¬m2=m then
      if lo+len<=xs2.length then k {val:= .lf (.int .i64) (min len xs.length:Nat),acc:=[m,m2],upd:=[(m, .vec te e (((h▸(xs2.drop lo).take len).take xs.length)++xs.drop len))]}else none
     else none
     else none
    |_=>none
   | .lf (.sl e2) ys=>if h:e2=e then k {val:= .lf (.int .i64) (min ys.length xs.length:Nat),acc:=[m],upd:=[(m, .vec te e (((h▸ys).take xs.length)++xs.drop ys.length))]}else none
   |_=>none
   else none
  |_,_=>none
 |_,_=>none
def Jm{A:Type}(x:Operand)(S:TS V.N)(k:TE V.N->Option A):Option A:=match tev S x with
 | .lf (.st i) y=>k {val:= .lf (.op (.st i)) (some y)}
 |_=>none
end
section
variable {V:jj} {P:Program} {nm:Nat->Nat} {o:Oper} {S:TS V.N} {A:Type} {k:TE V.N->Option A} {r:A}
theorem Eh{t:TypeId}(h:BC P t=true):∃fs,P.underlying t=some (.struct fs):=by
 unfold BC at h
 split at h
 ·exact⟨_,‹_›⟩
 ·cases h
theorem rz{kt:TypeId}{i:V.ι}(h:kK V P kt (.st i)=true):∃fs ks,P.underlying kt=some (.struct fs)/\hU P 100 kt=some ks/\dU V (V.tys i)=some ks:=by
 simp only[kK,Oy]at h
 obtain⟨fs,hfs⟩:=Eh h.1
 have h2:=h.2
 split at h2
 ·rename_i ks hks
  exact⟨fs,ks,hfs,hks,by simpa using h2⟩
 ·cases h2
theorem FJ(xs:List Value):(xs.map D.v).map Nt=xs:=by
 rw[OQ]
 exact(OP λx _=>rfl).trans (RN xs)
theorem oj{kt:TypeId}{i:V.ι}(h:kK V P kt (.st i)=true)(x:V.N i):V.enc i x=((V.cells i x).map ib).map .v/\dQ V.enc (.st i) x= .agg ((V.cells i x).map ib).toArray:=by
 obtain⟨fs,ks,h1,h2,h3⟩:=rz h
 obtain⟨a1,a2⟩:=dq (a:=x) h3
 refine⟨a1,?_⟩
 simp only[dQ]
 rw[a1,FJ]
theorem ia{kt:TypeId}{tk:Ty V.ι}(h:kK V P kt tk=true):(∃i,tk= .st i)\/∃kind,P.underlying kt=some kind/\eQ (some kind) tk=true:=by
 cases tk with
 |st i=>exact .inl ⟨i,rfl⟩
 |_=>
  right
  simp only[kK]at h
  cases hu:P.underlying kt with
  |none=>rw[hu]at h;simp[eQ]at h
  |some kind=>rw[hu]at h;exact⟨kind,rfl,h⟩
theorem K6{kt:TypeId}{tk:Ty V.ι}(h:kK V P kt tk=true)(x:den V.N tk):∀M v,bW M v (aL V.sz V.enc tk x)->v=dQ V.enc tk x:=by
 intro M v hv
 rcases ia h with⟨i,rfl⟩|⟨kind,hu,hk⟩
 ·obtain⟨h1,h2⟩:=oj h x
  rw[h2]
  simp only[aL]at hv
  rw[h1]at hv
  exact nU hv
 ·rw[rA hk]at hv
  cases hv;rfl
theorem ry{kt:TypeId}{tk:Ty V.ι}(h:kK V P kt tk=true)(x y:den V.N tk):keq V.cells tk x y=true↔dQ V.enc tk x=dQ V.enc tk y:=by
 rcases ia h with⟨i,rfl⟩|⟨kind,hu,hk⟩
 ·obtain⟨fs,ks,h1,h2,h3⟩:=rz h
  rw[(oj h x).2,(oj h y).2]
  simp only[keq]
  rw[<-xq h3,gr (dq h3).2 (dq h3).2]
  simp
 ·have hs:=kL hk x y
  cases he:keq V.cells tk x y with
  |true=>
   rw[he]at hs
   simp only[true_iff]
   exact fe hs
  |false=>
   rw[he]at hs
   simp only[Pe,false_iff]
   exact i7 hs
theorem m5{kt:TypeId}{tk tv:Ty V.ι}(h:kK V P kt tk=true)(x:den V.N tk)(es:List (den V.N tk×den V.N tv)):pF P kt (dQ V.enc tk x) ((es.map λp=>(dQ V.enc tk p.1,aL V.sz V.enc tv p.2)).map (·.1)):=by
 rcases ia h with⟨i,rfl⟩|⟨kind,hu,hk⟩
 ·obtain⟨fs,ks,h1,h2,h3⟩:=rz h
  rw[(oj h x).2]
  refine .struct (d:=100) h1 (by decide) h2 (dq h3).2 λk hk=> ?_
  rw[OQ]at hk
  obtain⟨p,_,rfl⟩:=OT.1 hk
  exact⟨(V.cells i p.1).map ib,(oj h p.1).2,(dq h3).2⟩
 ·refine .simple hu (iV hk) λk hkm=> ?_
  have:∃y:den V.N tk,k=dQ V.enc tk y:=by
   rcases Oz.1 hkm with rfl|hkm
   ·exact⟨x,rfl⟩
   ·rw[OQ]at hkm
    obtain⟨p,_,rfl⟩:=OT.1 hkm
    exact⟨p.1,rfl⟩
  obtain⟨y,rfl⟩:=this
  rw[kL hk x y];rfl
theorem Bl{kt:TypeId}{tk tv:Ty V.ι}(h:kK V P kt tk=true)(x:den V.N tk):∀es:List (den V.N tk×den V.N tv),
 GK (dQ V.enc tk x) (es.map λp=>(dQ V.enc tk p.1,aL V.sz V.enc tv p.2)) ((Mp.get (keq V.cells tk) x es).map (aL V.sz V.enc tv))
 |[]=> .inl ⟨rfl,λp hp=>by cases hp⟩
 |p::r=>by
  simp only[Mp.get,Ow]
  cases he:keq V.cells tk x p.1 with
  |true=>
   exact .inr ⟨_,Ox,((ry h x p.1).1 he).symm,rfl⟩
  |false=>
   have hne:¬dQ V.enc tk x=dQ V.enc tk p.1:=λe=>by rw[(ry h x p.1).2 e]at he;cases he
   rw[RR (by decide)]
   rcases Bl h x r with⟨h1,h2⟩|⟨q,h1,h2,h3⟩
   ·refine .inl ⟨h1,λq hq=> ?_⟩
    rcases Oz.1 hq with rfl|hq
    ·exactλe=>hne e.symm
    ·exact h2 q hq
   ·exact .inr ⟨q,Ot _ h1,h2,h3⟩
theorem CL{kt:TypeId}{tk tv:Ty V.ι}(h:kK V P kt tk=true)(x:den V.N tk)(y:den V.N tv):∀es:List (den V.N tk×den V.N tv),
 Af (dQ V.enc tk x) (aL V.sz V.enc tv y) (es.map λp=>(dQ V.enc tk p.1,aL V.sz V.enc tv p.2)) ((Mp.put (keq V.cells tk) x y es).map λp=>(dQ V.enc tk p.1,aL V.sz V.enc tv p.2))
 |[]=> .inl ⟨rfl,λp hp=>by cases hp⟩
 |p::r=>by
  simp only[Mp.put,Ow]
  cases he:keq V.cells tk x p.1 with
  |true=>
   exact .inr ⟨0,_,rfl,((ry h x p.1).1 he).symm,rfl⟩
  |false=>
   have hne:¬dQ V.enc tk x=dQ V.enc tk p.1:=λe=>by rw[(ry h x p.1).2 e]at he;cases he
   rw[RR (by decide)]
   rcases CL h x y r with⟨h1,h2⟩|⟨j,q,h1,h2,h3⟩
   ·refine .inl ⟨by rw[Ow,h1];rfl,λq hq=> ?_⟩
    rcases Oz.1 hq with rfl|hq
    ·exactλe=>hne e.symm
    ·exact h2 q hq
   ·exact .inr ⟨j+1,q,by simpa using h1,h2,by rw[Ow,h3];rfl⟩
theorem gp{B:Type}{n:Nat}{b:B}{f:(m:Nat)->TypeId->(tk tv:Ty V.ι)->List (Option (List (den V.N tk×den V.N tv)))->Nat->List (den V.N tk×den V.N tv)->Option B}(h:qb V S n f=some b):
 ∃m te tk tv es i m0,S.own? n=some (.alias m)/\S.own? m=some (.maps te tk tv es (some (n,i)))/\n≠m/\es[i]?=some (some m0)/\f m te tk tv es i m0=some b:=by
 unfold qb at h
 split at h
 ·rename_i m hn
  split at h
  ·rename_i te tk tv es n' i hm
   replace h:=ah h
   obtain⟨⟨rfl,hnm⟩,h⟩:=h
   replace h:=aS h
   obtain⟨o,ho,h⟩:=h
   replace h:=aS h
   obtain⟨m0,rfl,h⟩:=h
   exact⟨m,te,tk,tv,es,i,m0,hn,hm,hnm,ho,h⟩
  ·cases h
 ·cases h
theorem xN{α:Type}{l:List α}{i:Nat}{x:α}(h:l[i]?=some x):l.set i x=l:=by
 apply Pf
 intro j
 rw[Pa]
 split
 ·rename_i e;subst e
  rw[RS (Ol.1 h).1,h]
 ·rfl
theorem sc{n m:Nat}{o1 o2:TO V.N}{x1 x2:Option Own}{v:TV V.N}{h:H}{l:List Nat}(h1:∀ω,aZ V ω o1=x1)(h2:∀ω,aZ V ω o2=x2)(hl1:TO.len (some o1)=S.len n)(hl2:TO.len (some o2)=S.len m)(hv:∀ω,ao V ω v=h)
 (hk:k {val:=v,acc:=l,upd:=[(n,o1),(m,o2)]}=some r)(hs:aC P nm o (Go.Awp.ev (az V S)) (az V S).own? {val:=h,acc:=l,upd:=[(n,x1),(m,x2)]}):OpD P nm o S k r:=by
 refine⟨_,hk,λq o' hq=> ?_,_, .sem hs,bq (hv _).symm rfl (by simp[h1,h2]) rfl⟩
 simp only[af]at hq
 right
 split at hq
 ·rename_i e;simp at hq;subst hq;subst e;exact hl1
 ·split at hq
  ·rename_i e;simp at hq;subst hq;subst e;exact hl2
  ·simp[gt]at hq
def nX(tk tv:Ty V.ι)(l:List (den V.N tk×den V.N tv)):List (Value×D):=l.map λp=>(dQ V.enc tk p.1,aL V.sz V.enc tv p.2)
theorem qA{c:Bool}{tk tv:Ty V.ι}{key:den V.N tk}{z:den V.N tv}{es:List (den V.N tk×den V.N tv)}{f:TV V.N->Option A}(h:Em V c tk tv key z es f=some r):
 ∃v,f v=some r/\∀ω,ao V ω v=if c=true then .tup [.d (((Mp.get (keq V.cells tk) key es).map (aL V.sz V.enc tv)).getD (aL V.sz V.enc tv z)), .d (.v (.bool ((Mp.get (keq V.cells tk) key es).map (aL V.sz V.enc tv)).isSome))]
  else .d (((Mp.get (keq V.cells tk) key es).map (aL V.sz V.enc tv)).getD (aL V.sz V.enc tv z)):=by
 unfold Em at h
 cases c with
 |true=>
  refine⟨_,h,λω=> ?_⟩
  simp only[ao,encL,RO,Q9]
  cases Mp.get (keq V.cells tk) key es<;>rfl
 |false=>
  refine⟨_,h,λω=> ?_⟩
  simp only[ao,Pe,RP]
  cases Mp.get (keq V.cells tk) key es<;>rfl
theorem Dm{t:TypeId}{x i:Operand}{c:Bool}(ho:o.op= .lookup t x i c)(h:Dl V P t x i c S k=some r):OpD P nm o S k r:=by
 unfold Dl at h
 split at h
 ·rename_i kt et n tk key ht hx hi
  split at h
  ·rename_i d hd
   split at h
   ·rename_i tk' tv es hown
    split at h
    ·rename_i z hz
     split at h
     ·rename_i htk
      subst htk
      replace h:=ah h
      obtain⟨hk,h⟩:=h
      obtain⟨v,h,hv⟩:=qA h
      exact cB h (.lookupK ho ht hd (by rw[am,hx];rfl) (by rw[am,hi];rfl) (K6 hk key) (iF hown) (m5 hk key es) (Bl hk key es)) (by rw[hv,(oJ hz).2 rfl])
     ·cases h
    ·cases h
   ·obtain⟨m,te,tk',tv,es,j,m0,hn,hm,hnm,hj,h⟩:=gp h
    split at h
    ·rename_i z hz
     split at h
     ·rename_i htk
      subst htk
      replace h:=ah h
      obtain⟨hk,h⟩:=h
      obtain⟨v,h,hv⟩:=qA h
      have hj':(es.map λo=>o.map (nX (V:=V) tk tv))[j]?=some (some (nX tk tv m0)):=by rw[Oq,hj];rfl
      refine sc (x1:=some (.maps te (es.map λo=>o.map (nX tk tv)) (some (n,j)))) (x2:=none) (λω=>rfl) (λω=>rfl) (by rw[gD hm];rfl) (by rw[kN hn];rfl) hv h ?_
      have:=aC.viaAlias (P:=P) (nm:=nm) (o:=o) (ρ:=Go.Awp.ev (az V S)) (m1:=nX tk tv m0) (gN hm) hj' (kZ hn) hnm
       (v:=if c=true then .tup [.d (((Mp.get (keq V.cells tk) key m0).map (aL V.sz V.enc tv)).getD (aL V.sz V.enc tv z)), .d (.v (.bool ((Mp.get (keq V.cells tk) key m0).map (aL V.sz V.enc tv)).isSome))]
         else .d (((Mp.get (keq V.cells tk) key m0).map (aL V.sz V.enc tv)).getD (aL V.sz V.enc tv z)))
       λω' hω'=> .told hω' (by
        have:=aC.lookupK (nm:=nm) ho ht hd (ω:=ω') (c:=c) (key:=dQ V.enc tk key) (dk:=aL V.sz V.enc tk key) (ρ:=Go.Awp.ev (az V S)) (by rw[am,hx];rfl) (by rw[am,hi];rfl) (K6 hk key) hω' (m5 hk key m0) (Bl hk key m0)
        rw[(oJ hz).2 rfl]at this
        exact this)
      have hs:(es.map λo=>o.map λl=>l.map λp=>(dQ V.enc tk p.1,aL V.sz V.enc tv p.2)).set j (some (nX tk tv m0))=es.map λo=>o.map λl=>l.map λp=>(dQ V.enc tk p.1,aL V.sz V.enc tv p.2):=xN hj'
      rw[hs]at this
      exact this
     ·cases h
    ·cases h
  ·cases h
 ·cases h
theorem xX{t:TypeId}{x i y:Operand}(ho:o.op= .mapUpdate t x i y\/o.op= .insert t x i y)(h:FF V P t x i y S k=some r):OpD P nm o S k r:=by
 unfold FF at h
 split at h
 ·rename_i kt et n tk key tv z ht hx hi hy
  split at h
  ·rename_i tk' tv' es hown
   split at h
   ·rename_i e1
    subst e1
    split at h
    ·rename_i e2
     subst e2
     replace h:=ah h
     obtain⟨hk,h⟩:=h
     exact wk (x:= .map (nX tk tv (Mp.set (keq V.cells tk) (klt tk) key z es))) (λω=>rfl) (by rw[rC hown];rfl) h
      (.updateK ho ht (by rw[am,hx];rfl) (by rw[am,hi];rfl) (K6 hk key) (by rw[am,hy];rfl) (iF hown) (m5 hk key es) (CL hk key z es) ((Mp.set_perm _ _ _ _ _).map _))
    ·cases h
   ·cases h
  ·obtain⟨m,te,tk',tv',es,j,m0,hn,hm,hnm,hj,h⟩:=gp h
   split at h
   ·rename_i e1
    subst e1
    split at h
    ·rename_i e2
     subst e2
     replace h:=ah h
     obtain⟨hk,h⟩:=h
     have hj':(es.map λo=>o.map (nX (V:=V) tk tv))[j]?=some (some (nX tk tv m0)):=by rw[Oq,hj];rfl
     refine sc (x1:=some (.maps te ((es.map λo=>o.map (nX tk tv)).set j (some (nX tk tv (Mp.set (keq V.cells tk) (klt tk) key z m0)))) (some (n,j)))) (x2:=none) (h:= .junk) (λω=>by simp only[aZ,P1];rfl) (λω=>rfl) (by rw[gD hm];simp[TO.len]) (by rw[kN hn];rfl) (λω=>rfl) h ?_
     exact aC.viaAlias (gN hm) hj' (kZ hn) hnm λω' hω'=>
      .updateK (ω:=ω') ho ht (by rw[am,hx];rfl) (by rw[am,hi];rfl) (K6 hk key) (by rw[am,hy];rfl) hω' (m5 hk key m0) (CL hk key z m0) ((Mp.set_perm _ _ _ _ _).map _)
    ·cases h
   ·cases h
 ·cases h
theorem Fq{c:Call}(ho:o.op= .call c)(hc:c.callee= .builtin .len)(h:Ju V P (c.args.toList.map (tev S)) c.argTypes.toList S k=some r):OpD P nm o S k r:=by
 unfold Ju at h
 split at h
 ·rename_i n hargs
  replace h:=ah h
  obtain⟨hk,h⟩:=h
  obtain⟨m,te,tk,tv,es,j,m0,hn,hm,hnm,hj,h⟩:=gp h
  obtain⟨p,hpq,hpx⟩:∃p,c.args.toList=[p]/\tev S p= .mp n:=by
   match hcl:c.args.toList,hargs with
   |[p],hargs=>simp at hargs;exact⟨p,rfl,hargs⟩
   |[],hargs=>simp at hargs
   |_::_::_,hargs=>simp at hargs
  have hj':(es.map λo=>o.map (nX (V:=V) tk tv))[j]?=some (some (nX tk tv m0)):=by rw[Oq,hj];rfl
  have hs:(es.map λo=>o.map λl=>l.map λp=>(dQ V.enc tk p.1,aL V.sz V.enc tv p.2)).set j (some (nX tk tv m0))=es.map λo=>o.map λl=>l.map λp=>(dQ V.enc tk p.1,aL V.sz V.enc tv p.2):=xN hj'
  refine sc (x1:=some (.maps te (es.map λo=>o.map (nX tk tv)) (some (n,j)))) (x2:=none) (h:= .d (.v (.int .i64 m0.length))) (λω=>rfl) (λω=>rfl) (by rw[gD hm];rfl) (by rw[kN hn];rfl) (λω=>rfl) h ?_
  have:=aC.viaAlias (P:=P) (nm:=nm) (o:=o) (ρ:=Go.Awp.ev (az V S)) (v:= .d (.v (.int .i64 m0.length))) (m1:=nX tk tv m0) (gN hm) hj' (kZ hn) hnm λω' hω'=> .told hω' (.ofAVal λρ' ω2 hρ hω=>by
   have hx':ρ' p= .mp n:=by
    rw[hρ p (by rw[ho];simp only[Op.operands,Call.operands,hc];(have:p∈c.args.toList:=by rw[hpq];simp);simpa using this),am,hpx];rfl
   have ho':ω2 n=some (.map (nX tk tv m0)):=(hω n (by simp)).trans hω'
   simp only[aT,ho,hc,hpq,Ow,O0,hx',ho']
   exact⟨hk,by rw[nX,On]⟩)
  rw[hs]at this
  exact this
 ·cases h
theorem zT{t:TypeId}{x:Operand}(ho:o.op= .range t x)(h:wO V P t x o.dst S k=some r):OpD P nm o S k r:=by
 unfold wO at h
 split at h
 ·rename_i kt et n d ht hx hd
  obtain⟨m,te,tk,tv,es,j,m0,hn,hm,hnm,hj,h⟩:=gp h
  replace h:=ah h
  obtain⟨⟨hf1,hf2⟩,h⟩:=h
  have hj':(es.map λo=>o.map (nX (V:=V) tk tv))[j]?=some (some (nX tk tv m0)):=by rw[Oq,hj];rfl
  refine⟨_,h,λq o' hq=> ?_,_, .sem (.rangeAlias (nn:=aX d) ho ⟨_,_,ht⟩ (by rw[am,hx];rfl) (by rw[hd];simp) (gN hm) hj' (kZ hn) ⟨hf1,hf2⟩),bq rfl rfl (by simp only[Ow,O0,aZ,P1];rfl) rfl⟩
  simp only[af]at hq
  split at hq
  ·rename_i e;left;simp[e]
  ·right
   split at hq
   ·rename_i e;simp at hq;subst hq;subst e;rw[kN hn];rfl
   ·split at hq
    ·rename_i e;simp at hq;subst hq;subst e;rw[gD hm];simp[TO.len]
    ·simp[gt]at hq
 ·cases h
theorem wN{t:TypeId}{x i:Operand}(ho:o.op= .indexAddr t x i)(h:sE V P t x i S k=some r):OpD P nm o S k r:=by
 unfold sE at h
 split at h
 ·rename_i te sz by_ m kk n ht hx hi
  split at h
  ·rename_i te2 tk tv es al hm
   replace h:=ah h
   obtain⟨⟨h0,h1⟩,h⟩:=h
   refine cB h (.indexMaps ho ht ?_ (by rw[am,hi];rfl) (gN hm) h0 (by rw[On];exact h1)) rfl
   rw[am,hx,On]
   simp only[ao,gD hm]
  ·rename_i te2 e xs hm
   replace h:=ah h
   obtain⟨⟨h0,h1⟩,h⟩:=h
   refine cB h (.qindex ho ht ?_ (by rw[am,hi];rfl) (sf hm) h0 (by rw[On];exact h1)) rfl
   rw[am,hx,On]
   simp only[ao,vS hm]
  ·cases h
 ·cases h
theorem aC.more{v:H}{acc new:List Nat}{upd:List (Nat×Option Own)}{d:Nat}{ρ:Operand->H}{ω:Nat->Option Own}(h:aC P nm o ρ ω {val:=v,acc:=acc,upd:=upd,new:=new}):aC P nm o ρ ω {val:=v,acc:=acc,upd:=upd++[(d,none)],new:=new}:=by
 refine aC.ole h λown n o hn=>⟨o,?_,OLe.refl _⟩
 simp only[O9,eG]at hn⊢
 cases hu:gt upd n with
 |some x=>rw[hu]at hn;exact hn
 |none=>
  rw[hu]at hn
  simp only[OG,OM,af]at hn
  by_cases e:d=n
  ·rw[RS e]at hn;cases hn
  ·rw[RR e]at hn
   simpa[gt]using hn
theorem uV{t:TypeId}{x:Operand}(ho:o.op= .load t x)(h:pz V P t x o.dst S k=some r):OpD P nm o S k r:=by
 unfold pz at h
 split at h
 ·rename_i m i d ht hx hd
  split at h
  ·rename_i te tk tv es al hm
   replace h:=aS h
   obtain⟨o1,ho1,h⟩:=h
   replace h:=aS h
   obtain⟨m0,rfl,h⟩:=h
   replace h:=ah h
   obtain⟨hf,h⟩:=h
   have hj':(es.map λo=>o.map (nX (V:=V) tk tv))[i]?=some (some (nX tk tv m0)):=by rw[Oq,ho1];rfl
   refine⟨_,h,λq o' hq=> ?_,_, .sem (aC.more (d:=aX d) (.loadMap (d:=aX d) ho ht (by rw[am,hx];rfl) (gN hm) hj' hf)),bq rfl rfl rfl rfl⟩
   simp only[af]at hq
   split at hq
   ·rename_i e;right;simp at hq;subst hq;subst e;rw[gD hm];rfl
   ·split at hq
    ·rename_i e;left;simp[e]
    ·simp[gt]at hq
  ·cases h
 ·cases h
theorem sF{t:TypeId}{x y:Operand}(ho:o.op= .store t x y)(h:mg V P t x y S k=some r):OpD P nm o S k r:=by
 unfold mg at h
 split at h
 ·rename_i ag m i n ht hx hy
  split at h
  ·rename_i te tk tv es al tk' tv' e0 hm hn
   split at h
   ·rename_i hh
    obtain⟨e1,e2⟩:=hh
    subst e1;subst e2
    replace h:=ah h
    obtain⟨⟨hi,hnm⟩,h⟩:=h
    refine sc (x1:=some (.maps te ((es.map λo=>o.map (nX tk' tv')).set i (some (nX tk' tv' e0))) none)) (x2:=none) (h:= .junk) (λω=>by simp only[aZ,P1];rfl) (λω=>rfl) (by rw[gD hm];simp[TO.len]) (by rw[rC hn];rfl) (λω=>rfl) h ?_
    exact .storeMap ho ht (by rw[am,hx];rfl) (by rw[am,hy];rfl) (gN hm) (iF hn) (by rw[On];exact hi) hnm
   ·cases h
  ·cases h
 ·cases h
theorem zA{l c:Operand}(h:qT l c=true):l=c:=by
 unfold qT at h
 split at h
 ·rw[O2 h]
 ·cases h
theorem uU{t:TypeId}{l c:Operand}(ho:o.op= .makeSlice t l c)(h:py V P t l c o.dst S k=some r):OpD P nm o S k r:=by
 unfold py at h
 split at h
 ·rename_i tk tv te bytes d hty ht hd
  split at h
  ·rename_i z0 kn n km m hz hl hc
   split at h
   ·rename_i hsame
    replace h:=ah h
    obtain⟨hb,h⟩:=h
    replace h:=ah h
    obtain⟨h0,h⟩:=h
    replace h:=ah h
    obtain⟨h1,h⟩:=h
    have hlc:=zA hsame
    subst hlc
    rw[hl]at hc
    simp only[TV.lf.injEq]at hc
    obtain⟨e1,e2⟩:=hc
    cases e1
    have e2:=eq_of_heq e2
    subst e2
    refine sb (d:=aX d) (h:= .vh (aX d) n.toNat) (x:= .maps te (Pc n.toNat none) none) (λω=>by simp only[aZ,Qp];rfl) (λω hω=>by simp only[ao,hω,TO.len,P5]) h ?_
    refine aC.ole (upd:=[(aX d,some (.vec te 1 (Pc n.toNat ([z0].map .v))))]) (.ofAVal (nm:=aX) λρ' ω' hρ hω=> ?_) λown q o1 hq=> ?_
    ·have hx':ρ' l= .d (.v (.int kn n)):=by rw[hρ l (by rw[ho];simp[Op.operands]),am,hl];rfl
     simp only[aT,ho,ht,hd,hz,hx']
     exact⟨⟨.inl trivial,h0,h0,h1,hb⟩,trivial⟩
    ·simp only[OG,OM,af]at hq⊢
     by_cases e:aX d=q
     ·rw[RS e]at hq⊢
      simp only[Pw,Om]at hq
      subst hq
      refine⟨_,rfl,?_⟩
      have:=OLe.v2maps (e:=te) (rows:=Pc n.toNat ([z0].map D.v))
      rw[Qp]at this
      exact this
     ·rw[RR e]at hq⊢
      exact⟨o1,hq,OLe.refl _⟩
   ·cases h
  ·cases h
 ·cases h
theorem zQ{t:TypeId}{len:Nat}{parts:Array (Nat×Operand)}(ho:o.op= .buildSlice t len parts)(h:wK V P t len parts.toList o.dst S k=some r):OpD P nm o S k r:=by
 unfold wK at h
 split at h
 ·rename_i te sz by_ e d ht hty hd
  replace h:=ah h
  obtain⟨⟨e1,e2,e3,e4⟩,h⟩:=h
  split at h
  ·rename_i ys hys
   obtain⟨rows,h1,h2,_,h4⟩:=j9 (ω:=S.len) hys
   replace h4:=h4 rfl
   have hp:((parts.toList.map λ(i,x)=>(i,fnT (tev S x))).map λp=>(p.1,ao V S.len p.2))=parts.toList.map λ(i,x)=>(i,fnD (Go.Awp.ev (az V S) x)):=by
    rw[OQ]
    refine OP λp _=> ?_
    simp only[Qa,rq,am]
   rw[hp,<-e1]at h1
   rw[On,e2]at h2
   have hyl:ys.length=len:=by
    have:=congrArg Qh h4
    rw[On]at this;omega
   have hne:rows≠[]:=λe=>by rw[e]at h2;simp at h2;omega
   refine sb (d:=aX d) (h:= .vh (aX d) rows.length) (x:= .que te sz rows) (λω=>by rw[h4,e1];rfl) (λω hω=>by simp only[ao,hω,TO.len,hyl,h2]) h ?_
   refine aC.ole (upd:=[(aX d,some (.vec te sz rows))]) (.ofAVal (nm:=aX) λρ' ω' hρ hω=> ?_) λown q o1 hq=> ?_
   ·have hpp:(parts.toList.map λ(i,x)=>(i,fnD (ρ' x)))=parts.toList.map λ(i,x)=>(i,fnD (Go.Awp.ev (az V S) x)):=by
     refine OP λp hp=> ?_
     have:ρ' p.2=_:=hρ p.2 (by rw[ho];simp only[Op.operands];simpa using ⟨p.1,by simpa using hp⟩)
     simp only[this]
    have hnd:¬aX d=d:=by unfold aX;omega
    simp only[aT,ho,ht,hd,hpp,h1]
    refine⟨⟨h2,e3⟩,?_⟩
    rw[RR hnd]
    trivial
   ·simp only[OG,OM,af]at hq⊢
    by_cases e:aX d=q
    ·rw[RS e]at hq⊢
     simp only[Pw,Om]at hq
     subst hq
     exact⟨_,rfl,OLe.v2q hne⟩
    ·rw[RR e]at hq⊢
     exact⟨o1,hq,OLe.refl _⟩
  ·cases h
 ·cases h
theorem kY{d:Nat}{ns:List Nat}{v:TV V.N}{h:H}{o':TO V.N}{x:Own}{l:List Nat}(hx:∀ω,aZ V ω o'=some x)(hv:∀ω:Nat->Nat,ω d=TO.len (some o')->ao V ω v=h)
 (hk:k {val:=v,acc:=l,upd:=(d,o')::tH V S ns,new:=[d]}=some r)
 (hs:aC P nm o (Go.Awp.ev (az V S)) (az V S).own? {val:=h,acc:=l,upd:=(d,some x)::ns.map (λn=>(n,none)),new:=[d]}):OpD P nm o S k r:=by
 refine⟨_,hk,λm o1 hm=> ?_,_, .sem hs,bq (hv _ ?_).symm rfl (by rw[Ow,n8,hx]) rfl⟩
 ·simp only[af]at hm
  split at hm
  ·rename_i e;left;simp[e]
  ·exact .inr (n_ hm)
 ·rw[bX];simp[af]
theorem zY{t:TypeId}{x:Operand}{lo hi mx:Option Operand}(ho:o.op= .slice t x lo hi mx)(h:wR V P t x lo hi mx o.dst S k=some r):OpD P nm o S k r:=by
 unfold wR at h
 split at h
 ·rename_i te0 sz0 by0 d m ht hd hx
  split at h
  ·rename_i l te e xs hm
   split at h
   ·rename_i kk n hl
    replace h:=ah h
    obtain⟨hse,h⟩:=h
    subst hse
    replace h:=ah h
    obtain⟨h0,h⟩:=h
    replace h:=ah h
    obtain⟨h1,h⟩:=h
    refine kY (ns:=[m]) (x:= .que te (tsz V.sz e) ((xs.map λx=>aV V.sz V.enc e x).drop n.toNat)) (h:= .vh (aX d) ((xs.map λx=>aV V.sz V.enc e x).length-n.toNat)) (λω=>by simp only[aZ,Pr]) (λω hω=>by simp only[ao,hω,TO.len,O5,On]) h ?_
    exact .qtail ho ht (by rw[am,hx,On];simp only[ao,vS hm]) (sf hm) (by rw[am,hl];rfl) h0 (by rw[On];exact h1)
   ·cases h
  ·rename_i hh te e xs hm
   split at h
   ·rename_i kk n hl
    replace h:=ah h
    obtain⟨h0,h⟩:=h
    replace h:=ah h
    obtain⟨h1,h⟩:=h
    have h2:n.toNat<=xs.length:=Int.toNat_le.2 h1
    refine kY (ns:=[m]) (x:= .vec te (tsz V.sz e) ((xs.map λx=>aV V.sz V.enc e x).take n.toNat)) (h:= .vh (aX d) n.toNat) (λω=>by simp only[aZ,Pq]) (λω hω=>by simp only[ao,hω,TO.len,O1];rw[PA h2]) h ?_
    exact .trunc ho ht (by rw[am,hx,On];simp only[ao,dh hm]) (cg hm) (by rw[am,hl];rfl) h0 (by rw[On];exact h1)
   ·cases h
  ·cases h
 ·cases h
theorem JV{c:Call}{x y:TV V.N}(h:c.args.toList.map (tev S)=[x,y]):∃p q,c.args= #[p,q]/\tev S p=x/\tev S q=y:=by
 match hcl:c.args.toList,h with
 |[p,q],h=>simp at h;exact⟨p,q,by rw[<-PZ];exact hcl,h.1,h.2⟩
 |[],h=>simp at h
 |[_],h=>simp at h
 |_::_::_::_,h=>simp at h
theorem lc(e:Ty V.ι)(xs:List (den V.N e)):(xs.map λx=>aV V.sz V.enc e x).all (λr=>r.all D.one)=true:=by
 rw[PL,OD]
 intro y _
 exact si
theorem ri{a b:Nat}(h:a<=most)(hb:b<=32768):a *b<=140737488355328:=by
 have:a *b<=4294967296 *32768:=QP h hb
 omega
theorem Fi{c:Call}(ho:o.op= .call c)(hc:c.callee= .builtin .append)(h:Jj V P (c.args.toList.map (tev S)) c.argTypes.toList o.dst S k=some r):OpD P nm o S k r:=by
 unfold Jj at h
 split at h
 ·rename_i x y t t' d hargs htys hd
  obtain⟨p,q,hpq,rfl,hqy⟩:=JV hargs
  split at h
  ·rename_i te sz bytes ht
   replace h:=ah h
   obtain⟨⟨e1,hby⟩,h⟩:=h
   subst e1
   have hct:c.argTypes= #[t,t]:=by rw[<-PZ];exact htys
   split at h
   ·rename_i e' y0 ys
    split at h
    ·rename_i n hx
     split at h
     ·rename_i te2 e xs hown
      split at h
      ·rename_i e2
       subst e2
       replace h:=ah h
       obtain⟨⟨e3,e4⟩,h⟩:=h
       subst e3;subst e4
       replace h:=ah h
       obtain⟨hle,h⟩:=h
       refine kY (ns:=[n]) (x:= .que te (tsz V.sz e') ((xs.map λx=>aV V.sz V.enc e' x)++((y0::ys).map λx=>aV V.sz V.enc e' x))) (h:= .vh (aX d) ((xs.map λx=>aV V.sz V.enc e' x).length+((y0::ys).map λx=>aV V.sz V.enc e' x).length)) (λω=>by simp only[aZ,O6]) (λω hω=>by simp only[ao,hω,TO.len,OJ,On]) h ?_
       refine .qappend ho hc hpq hct ht (by rw[am,hx,On];simp only[ao,vS hown]) (sf hown) (by rw[am,hqy];rfl) (by simp) (lc e' _) ?_ ?_
       ·rw[On,On];exact ri hle hby
       ·rw[On,On];unfold most at hle;omega
      ·cases h
     ·cases h
    ·cases h
   ·rename_i m sz2 lo len
    split at h
    ·rename_i te2 e2 xs2 hm
     replace h:=ah h
     obtain⟨⟨e3,e4⟩,h⟩:=h
     subst e4;subst e3
     replace h:=ah h
     obtain⟨hll,h⟩:=h
     split at h
     ·rename_i n hx
      split at h
      ·rename_i te1 e xs hown
       split at h
       ·rename_i e5
        subst e5
        replace h:=ah h
        obtain⟨⟨e6,hnm⟩,h⟩:=h
        subst e6
        replace h:=ah h
        obtain⟨hle,h⟩:=h
        refine kY (ns:=[n]) (x:= .vec te (tsz V.sz e2) ((xs.map λx=>aV V.sz V.enc e2 x)++(((xs2.map λx=>aV V.sz V.enc e2 x).drop lo).take len))) (h:= .vh (aX d) ((xs.map λx=>aV V.sz V.enc e2 x).length+len)) (λω=>by simp only[aZ,O6,Pq,Pr]) (λω hω=>by
         simp only[ao,hω,TO.len,OJ,On,O1,O5]
         rw[PA (by omega)]) h ?_
        refine .appendCut ho hc hpq hct ht (.inl ⟨n,by rw[am,hx,On];simp only[ao,dh hown],cg hown,hnm,rfl⟩) (by rw[am,hqy];rfl) (cg hm) (by rw[On];exact hll) (lc e2 _) ?_ ?_
        ·rw[On];exact ri hle hby
        ·rw[On];unfold most at hle;omega
       ·cases h
      ·cases h
     ·rename_i hx
      replace h:=ah h
      obtain⟨hle,h⟩:=h
      refine kY (ns:=[]) (x:= .vec te (tsz V.sz e2) ([]++(((xs2.map λx=>aV V.sz V.enc e2 x).drop lo).take len))) (h:= .vh (aX d) (([]:List (List D)).length+len)) (λω=>by simp only[aZ,Pq,Pr,OM]) (λω hω=>by
       simp only[ao,hω,TO.len,O1,O5,Pv]
       rw[PA (by omega),OS]) h ?_
      refine .appendCut ho hc hpq hct ht (.inr ⟨by rw[am,hx];rfl,rfl,rfl⟩) (by rw[am,hqy];rfl) (cg hm) (by rw[On];exact hll) (lc e2 _) ?_ ?_
      ·rw[Pv,OS];exact ri hle hby
      ·rw[Pv,OS];unfold most at hle;omega
     ·cases h
    ·cases h
   ·cases h
  ·cases h
 ·cases h
theorem xD{n:Nat}{o':TO V.N}{x:Own}{l:List Nat}{v:TV V.N}{h:H}(hx:∀ω,aZ V ω o'=some x)(hv:∀ω,ao V ω v=h)(hl:TO.len (some o')=S.len n)(hk:k {val:=v,acc:=l,upd:=[(n,o')]}=some r)
 (hs:aC P nm o (Go.Awp.ev (az V S)) (az V S).own? {val:=h,acc:=l,upd:=[(n,some x)]}):OpD P nm o S k r:=by
 refine⟨_,hk,λm o1 hm=> ?_,_, .sem hs,bq (hv _).symm rfl (by simp[hx]) rfl⟩
 simp only[af]at hm
 split at hm
 ·rename_i e;right;simp at hm;subst hm;subst e;exact hl
 ·simp[gt]at hm
theorem xd{α:Type}(xs ys:List α)(n:Nat)(h:ys.length=n):(ys.take xs.length++xs.drop n).length=xs.length:=by
 rw[OJ,O1,O5,h]
 omega
theorem Dg{c:Call}(ho:o.op= .call c)(hc:c.callee= .builtin .copy)(h:Df V P (c.args.toList.map (tev S)) c.argTypes.toList S k=some r):OpD P nm o S k r:=by
 unfold Df at h
 split at h
 ·rename_i m y t rest hargs htys
  obtain⟨p,q,hpq,hpx,hqy⟩:=JV hargs
  have hct:c.argTypes[0]?=some t:=by
   have:c.argTypes.toList[0]?=some t:=by rw[htys];rfl
   simpa using this
  split at h
  ·rename_i te sz by_ te1 e xs ht hm
   replace h:=ah h
   obtain⟨⟨e1,e2⟩,h⟩:=h
   subst e1;subst e2
   split at h
   ·rename_i m2 sz2 lo len
    split at h
    ·rename_i te2 e2 xs2 hm2
     split at h
     ·rename_i e3
      subst e3
      replace h:=ah h
      obtain⟨⟨e4,hne⟩,h⟩:=h
      subst e4
      replace h:=ah h
      obtain⟨hll,h⟩:=h
      have hnl:(((xs2.map λx=>aV V.sz V.enc e2 x).drop lo).take len).length=len:=by rw[O1,O5,On];omega
      have hnl':((xs2.drop lo).take len).length=len:=by rw[O1,O5];omega
      have:=aC.copy (P:=P) (nm:=nm) (ω:=(az V S).own?) (ρ:=Go.Awp.ev (az V S)) (rows:=xs.map λx=>aV V.sz V.enc e2 x) (news:=((xs2.map λx=>aV V.sz V.enc e2 x).drop lo).take len) (acc:=[m,m2]) ho hc hpq hct ht (by rw[am,hpx,On];simp only[ao,dh hm]) (cg hm)
       (.inr ⟨m2,te2,lo,xs2.map λx=>aV V.sz V.enc e2 x,by rw[am,hqy,hnl];rfl,cg hm2,by rw[hnl,On];exact hll,by rw[hnl],hne,rfl⟩)
       (by
         rw[<-Pr,<-Pq];exact lc e2 _)
      rw[hnl,On]at this
      refine xD (x:= .vec te (tsz V.sz e2) ((((xs2.map λx=>aV V.sz V.enc e2 x).drop lo).take len).take xs.length++(xs.map λx=>aV V.sz V.enc e2 x).drop len)) (λω=>by simp only[aZ,O6,Pq,Pr]) (λω=>rfl) (by rw[dh hm];exact xd xs _ _ hnl') h this
     ·cases h
    ·cases h
   ·rename_i e2 ys
    split at h
    ·rename_i e3
     subst e3
     have:=aC.copy (P:=P) (nm:=nm) (ω:=(az V S).own?) (ρ:=Go.Awp.ev (az V S)) (rows:=xs.map λx=>aV V.sz V.enc e2 x) (news:=ys.map λx=>aV V.sz V.enc e2 x) (acc:=[m]) ho hc hpq hct ht (by rw[am,hpx,On];simp only[ao,dh hm]) (cg hm)
      (.inl ⟨by rw[am,hqy];rfl,rfl⟩) (lc e2 _)
     rw[On,On]at this
     exact xD (x:= .vec te (tsz V.sz e2) ((ys.map λx=>aV V.sz V.enc e2 x).take xs.length++(xs.map λx=>aV V.sz V.enc e2 x).drop ys.length)) (λω=>by simp only[aZ,O6,Pq,Pr]) (λω=>rfl) (by rw[dh hm];exact xd xs _ _ rfl) h this
    ·cases h
   ·cases h
  ·cases h
 ·cases h
theorem Fk{t:TypeId}{x:Operand}(ho:o.op= .box t x)(h:Jm V x S k=some r):OpD P nm o S k r:=by
 unfold Jm at h
 split at h
 ·rename_i i y hx
  exact cB h (.freezeBox (ds:=V.enc i y) ho (by rw[am,hx,jP];rfl)) rfl
 ·cases h
end
section
variable (V:jj) (P:Program) (nm:Nat->Nat)
def Hu:TV V.N->Bool
 | .lf (.ar _ _) _=>true
 |_=>false
def Ht:Option (Ty V.ι)->Bool
 |some (.ar _ _)=>true
 |_=>false
def L4:Option (Ty V.ι)->Bool
 |some (.sl (.mp _ _))=>true
 |_=>false
def L3:Ty V.ι->Bool
 | .fno=>true
 |_=>false
def Gt:Option (Ty V.ι)->Bool
 |some (.st i)=>(V.tys i).any (L3 V)
 |_=>false
def Hw:Option (TO V.N)->Bool
 |some (.bar ..)=>true
 |_=>false
def Eg:Option (TO V.N)->Bool
 |some (.que ..)=>true
 |_=>false
def xp:Option (TO V.N)->Bool
 |some (.maps ..)=>true
 |_=>false
def Hs:Option (TO V.N)->Bool
 |some (.alias ..)=>true
 |_=>false
def Hv:Option (TO V.N)->Bool
 |some (.vec _ (.ar _ _) _)=>true
 |_=>false
def Hy:TV V.N->Bool
 | .lf (.st _) _=>true
 |_=>false
def sL(S:TS V.N):TV V.N->Bool
 | .mp n=>Hs V (S.own? n)
 |_=>false
def Be(pre:Nat->Bool)(m:Nat):Option Tmp->Bool
 |some d=>pre (m+d)
 |none=>false
def Ku(pre:Nat->Bool)(o:Oper)(S:TS V.N):Bool:=match o.op with
 | .index _ x _=>Hu V (tev S x)
 | .indexAddr _ x _=>match tev S x with
  | .bp n 0=>Hw V (S.own? n)
  | .rp (.ar _ _) _ _=>true
  | .ep .. =>true
  | .vh m=>Eg V (S.own? m)||xp V (S.own? m)
  |_=>false
 | .load _ x=>match tev S x with
  | .ai .. =>true
  | .bp n _=>Hw V (S.own? n)
  | .ep n _ _ _=>Eg V (S.own? n)||xp V (S.own? n)||Hv V (S.own? n)
  | .rp (.ar _ _) _ _=>true
  |_=>false
 | .store _ x _=>match tev S x with
  | .ai .. =>true
  | .bp n _=>Hw V (S.own? n)
  | .ep n _ _ _=>xp V (S.own? n)
  |_=>false
 | .alloc t=>Ht V (V.ty t)
 | .box _ x=>Hu V (tev S x)||Be pre 7000000 o.dst
 | .nilCheck x=>match tev S x with
  | .lf (.op _) _=>true
  |_=>false
 | .binOp _ _ x y _=>match tev S x,tev S y with
  | .lf (.op _) _, .raw (.pointer none)=>true
  | .lf .fno _, .raw .nilFunc=>true
  | .lf (.st _) _, .lf (.st _) _=>true
  |_,_=>false
 | .build t parts=>Ht V (V.ty t)||Gt V (V.ty t)||(!parts.toList.isEmpty&&Be pre 1000000 o.dst)
 | .makeSlice t _ _=>L4 V (V.ty t)
 | .lookup _ x i _=>sL V S (tev S x)||Hy V (tev S i)
 | .mapUpdate _ x i _=>sL V S (tev S x)||Hy V (tev S i)
 | .insert _ x i _=>sL V S (tev S x)||Hy V (tev S i)
 | .range _ x=>sL V S (tev S x)
 | .slice _ x _ _ _=>Be pre 5000000 o.dst||match tev S x with
  | .vh m=>Eg V (S.own? m)
  |_=>false
 | .buildSlice _ _ _=>Be pre 6000000 o.dst
 | .call c=>match c.callee with
  | .builtin .len=>match c.args.toList with
   |[x]=>sL V S (tev S x)
   |_=>false
  | .builtin .copy=>true
  | .builtin .append=>match c.args.toList with
   |[x,y]=>match tev S x,tev S y with
    | .sv ..,_=>false
    |_, .sv .. =>true
    | .vh n, .lf .. =>Eg V (S.own? n)
    |_,_=>false
   |_=>false
  |_=>false
 |_=>false
def M6{A:Type}(o:Oper)(S:TS V.N)(k:TE V.N->Option A):Option A:=match o.op with
 | .index t x i=>wM V P t x i S k
 | .indexAddr t x i=>match tev S x with
  | .vh _=>sE V P t x i S k
  |_=>Jr V P t x i S k
 | .load t x=>match tev S x with
  | .ep n _ _ _=>match xp V (S.own? n)with
   |true=>pz V P t x o.dst S k
   |false=>xT V P t x S k
  |_=>xT V P t x S k
 | .store t x y=>match tev S x with
  | .ep .. =>mg V P t x y S k
  |_=>wS V P t x y S k
 | .alloc t=>wF V P nm t o.dst k
 | .box _ x=>match Hu V (tev S x)with
  |true=>Jl V nm x o.dst S k
  |false=>Jm V x S k
 | .nilCheck x=>Jw V x S k
 | .binOp op xt x y _=>Jn V P op xt x y S k
 | .build t parts=>match Ht V (V.ty t)with
  |true=>wG V P t parts.toList S k
  |false=>match Gt V (V.ty t)with
   |true=>wI V P t parts.toList S k
   |false=>wJ V P t parts.toList o.dst S k
 | .makeSlice t l c=>py V P t l c o.dst S k
 | .lookup t x i c=>Dl V P t x i c S k
 | .mapUpdate t x i y=>FF V P t x i y S k
 | .insert t x i y=>FF V P t x i y S k
 | .range t x=>wO V P t x o.dst S k
 | .slice t x lo hi mx=>wR V P t x lo hi mx o.dst S k
 | .buildSlice t len parts=>wK V P t len parts.toList o.dst S k
 | .call c=>match c.callee with
  | .builtin .len=>Ju V P (c.args.toList.map (tev S)) c.argTypes.toList S k
  | .builtin .copy=>Df V P (c.args.toList.map (tev S)) c.argTypes.toList S k
  | .builtin .append=>Jj V P (c.args.toList.map (tev S)) c.argTypes.toList o.dst S k
  |_=>none
 |_=>none
def opX(pre:Nat->Bool)(o:Oper)(S:TS V.N):Bool:=Ku V pre o S||J5 V pre o S
def tdX{A:Type}(pre:Nat->Bool)(o:Oper)(S:TS V.N)(k:TE V.N->Option A):Option A:=match Ku V pre o S with
 |true=>M6 V P nm o S k
 |false=>Jq V P nm o S k
def GW(S:TS V.N)(t:Nat):TS V.N:=match gt S.tmps t with
 |some (.bp b 0)=>match S.own? b with
  |some (.bst i x)=>{tmps:=(t, .lf (.op (.st i)) (some x))::S.tmps,own:=(b, .gone 0)::S.own}
  |_=>S
 |_=>S
def MS(S:TS V.N)(t:Nat):TS V.N:=match gt S.tmps t with
 |some (.vh n)=>match S.own? n with
  |some (.vec _ e xs)=>{S with tmps:=(t, .sv n (tsz V.sz e) 0 xs.length)::S.tmps}
  |_=>S
 |_=>S
def Jf(S:TS V.N)(x:Operand)(ty:TypeId):TS V.N:=match x with
 | .tmp t=>match bg P ty,V.ty ty with
  |some (te,_,_),some (.sl e)=>MS V (wg V false te e S t) t
  |_,_=>S
 |_=>S
def q8(S:TS V.N):List Operand->List TypeId->TS V.N
 |x::r,ty::s=>q8 (Jf V P S x ty) r s
 |_,_=>S
def Bw:Nat->List (TV V.N)->Option (Nat×Nat×Nat×Nat)
 |_,[]=>none
 |i,x::r=>match x with
  | .sv m sz 0 l=>some (i,m,sz,l)
  |_=>Bw (i+1) r
def qp(S:TS V.N):List (Nat×TO V.N)->Option (Nat×Option TypeId×List (TV V.N)×Nat×Nat×Nat×Nat)
 |[]=>none
 |(b,_)::r=>match S.own? b with
  |some (.box o cells)=>match Bw V 0 cells with
   |some q=>some (b,o,cells,q)
   |none=>qp S r
  |_=>qp S r
def Hq{A:Type}(S:TS V.N)(k:TS V.N->Option A):Option A:=match qp V S S.own with
 |some (b,o,cells,i,m,sz,l)=>match S.own? m with
  |some (.vec te e xs)=>if sz=tsz V.sz e/\¬b=m/\S.fresh (75000+S.own.length)=true/\PQ (75000+S.own.length) given=true then
   if l<=xs.length then k {tmps:=S.tmps,own:=(b, .box o (cells.set i (.vh (75000+S.own.length))))::(75000+S.own.length, .vec te e (xs.take l))::(m, .gone (S.len m))::S.own}else none
   else none
  |_=>none
 |none=>none
def Bo{A:Type}(pre:Nat->Bool)(o:Oper)(S:TS V.N)(k:TS V.N->Option A):Option A:=match Be pre 8000000 o.dst with
 |true=>Hq V S k
 |false=>match o.op with
  | .store _ _ (.tmp t)=>match pre (7000000+t)with
   |true=>k (GW V S t)
   |false=>k S
  | .call c=>match c.callee with
   | .value f=>match tev S f with
    | .fn fid _ _=>match pre (9000000+fid)with
     |true=>k (q8 V P S c.args.toList c.argTypes.toList)
     |false=>k S
    |_=>k S
   |_=>k S
  |_=>k S
end
section
variable {V:jj} {P:Program} {nm:Nat->Nat} {pre:Nat->Bool} {o:Oper} {S:TS V.N} {A:Type} {k:TE V.N->Option A} {r:A}
theorem zS(h:M6 V P nm o S k=some r):OpD P nm o S k r:=by
 unfold M6 at h
 split at h
 ·rename_i t x i ho;exact zR ho h
 ·rename_i t x i ho
  split at h
  ·exact wN ho h
  ·exact Fo ho h
 ·rename_i t x ho
  split at h
  ·split at h
   ·exact uV ho h
   ·exact uS ho h
  ·exact uS ho h
 ·rename_i t x y ho
  split at h
  ·exact sF ho h
  ·exact zZ ho h
 ·rename_i t ho;exact zM ho h
 ·rename_i t x ho
  split at h
  ·exact Fj ho h
  ·exact Fk ho h
 ·rename_i x ho;exact Ft ho h
 ·rename_i op xt x y yt ho;exact Fl ho h
 ·rename_i t parts ho
  split at h
  ·exact zN ho h
  ·split at h
   ·exact zO ho h
   ·exact zP ho h
 ·rename_i t l c ho;exact uU ho h
 ·rename_i t x i c ho;exact Dm ho h
 ·rename_i t x i y ho;exact xX (.inl ho) h
 ·rename_i t x i y ho;exact xX (.inr ho) h
 ·rename_i t x ho;exact zT ho h
 ·rename_i t x lo hi mx ho;exact zY ho h
 ·rename_i t len parts ho;exact zQ ho h
 ·rename_i c ho
  split at h
  ·rename_i hc;exact Fq ho hc h
  ·rename_i hc;exact Dg ho hc h
  ·rename_i hc;exact Fi ho hc h
  ·cases h
 ·cases h
theorem uR(hf:∀te,k te=some r->∀d∈te.new,S.fresh d=true)(h:tdX V P nm pre o S k=some r):OpD P nm o S k r:=by
 unfold tdX at h
 split at h
 ·exact zS h
 ·exact wL hf h
theorem Ao(S:TS V.N)(t:Nat):Ent (az V S) (az V (GW V S t)):=by
 unfold GW
 split
 ·rename_i b ht
  split
  ·rename_i i x hb
   have h1:gt (az V S).tmps t=some (.bp b 0):=by rw[bR,ht];rfl
   have h2:(az V S).own? b=some (.box none ((V.enc i x).map .d)):=by rw[aH,hb];rfl
   refine Ent.trans (Ent.boxData h1 h2) ?_
   have hl:({tmps:=(t, .lf (.op (.st i)) (some x))::S.tmps,own:=(b, .gone 0)::S.own}:TS V.N).len=S.len:=by
    funext m
    unfold TS.len TS.own?
    rw[af]
    by_cases e:b=m
    ·subst e
     rw[RS rfl]
     unfold TS.own? at hb
     rw[hb];rfl
    ·rw[RR e]
   have:az V {tmps:=(t, .lf (.op (.st i)) (some x))::S.tmps,own:=(b, .gone 0)::S.own}={tmps:=(t, .d (.rp (V.enc i x)))::(az V S).tmps,own:=(b,none)::(az V S).own}:=by
    unfold az
    rw[hl];rfl
   rw[this]
   exact Ent.refl _
  ·exact Ent.refl _
 ·exact Ent.refl _
theorem Fh(S:TS V.N)(t:Nat):Ent (az V S) (az V (MS V S t)):=by
 unfold MS
 split
 ·rename_i n ht
  split
  ·rename_i te e xs hn
   have h1:gt (az V S).tmps t=some (.vh n (xs.map λx=>aV V.sz V.enc e x).length):=by
    rw[bR,ht,On]
    simp only[OW,ao,dh hn]
   have:=Ent.vh2sv h1 (cg hn)
   rw[On]at this
   exact this
  ·exact Ent.refl _
 ·exact Ent.refl _
theorem Da(S:TS V.N)(x:Operand)(ty:TypeId):Ent (az V S) (az V (Jf V P S x ty)):=by
 unfold Jf
 split
 ·split
  ·exact Ent.trans (oG _ _ _ S _) (Fh _ _)
  ·exact Ent.refl _
 ·exact Ent.refl _
theorem q9:∀(l:List Operand) (tys:List TypeId) (S:TS V.N),Ent (az V S) (az V (q8 V P S l tys))
 |[],_,S=>by simp only[q8];exact Ent.refl _
 |_::_,[],S=>by simp only[q8];exact Ent.refl _
 |x::r,ty::s,S=>by
  simp only[q8]
  exact Ent.trans (Da S x ty) (q9 r s _)
theorem qx:∀{l:List (TV V.N)} {j i m sz n:Nat},Bw V j l=some (i,m,sz,n)->j<=i/\l[i-j]?=some (.sv m sz 0 n)
 |[],_,_,_,_,_,h=>by simp[Bw]at h
 |x::r,j,i,m,sz,n,h=>by
  simp only[Bw]at h
  split at h
  ·simp only[Om,OV]at h
   obtain⟨rfl,rfl,rfl,rfl⟩:=h
   exact⟨OO _,by simp⟩
  ·obtain⟨h1,h2⟩:=qx h
   refine⟨by omega,?_⟩
   have:i-j=(i-(j+1))+1:=by omega
   rw[this]
   simpa using h2
theorem jQ:∀{l:List (Nat×TO V.N)} {b:Nat} {o:Option TypeId} {cells:List (TV V.N)} {i m sz n:Nat},qp V S l=some (b,o,cells,i,m,sz,n)->S.own? b=some (.box o cells)/\cells[i]?=some (.sv m sz 0 n)
 |[],_,_,_,_,_,_,_,h=>by simp[qp]at h
 |(b',_)::r,b,o,cells,i,m,sz,n,h=>by
  simp only[qp]at h
  split at h
  ·rename_i o' cells' hb
   split at h
   ·rename_i q hq
    simp only[Om,OV]at h
    obtain⟨rfl,rfl,rfl,rfl⟩:=h
    have:=(qx hq).2
    exact⟨hb,by simpa using this⟩
   ·exact jQ h
  ·exact jQ h
theorem Bv{k:TS V.N->Option A}(h:Hq V S k=some r):∃S',k S'=some r/\Ent (az V S) (az V S'):=by
 unfold Hq at h
 split at h
 ·rename_i b oty cells i m sz l hfs
  obtain⟨hb,hi⟩:=jQ hfs
  split at h
  ·rename_i te e xs hm
   replace h:=ah h
   obtain⟨⟨e1,hbm,hf,hg⟩,h⟩:=h
   replace h:=ah h
   obtain⟨hl,h⟩:=h
   subst e1
   generalize 75000+S.own.length=nn at *
   refine⟨_,h,?_⟩
   have hg:nn<given:=by simpa[P8]using hg
   have h1:(az V S).own? b=some (.box oty (encL V S.len cells)):=by rw[aH,hb];rfl
   have h2:(encL V S.len cells)[i]?=some (.sv m (tsz V.sz e) 0 l):=by rw[encL_map,Oq,hi];rfl
   have hfr:=ed hf
   refine Ent.trans (Ent.head h1 h2 (cg hm) (by rw[On];exact hl) hbm ⟨hfr,hg⟩) ?_
   have hcn:TV.hasL nn cells=false:=by
    have:=hf
    unfold TS.fresh at this
    simp only[Oy,OD]at this
    have:=this.2 (b, .box oty cells) (bI hb)
    simpa[TO.has]using this
   have hfo:S.own? nn=none:=by
    have:=hf
    unfold TS.fresh at this
    simp only[Oy]at this
    have:=this.1.1
    cases ho:S.own? nn with
    |none=>rfl
    |some x=>rw[ho]at this;cases this
   have hbn:b≠nn:=λe0=>by subst e0;rw[hb]at hfo;cases hfo
   have hmn:m≠nn:=λe0=>by subst e0;rw[hm]at hfo;cases hfo
   generalize hS':({tmps:=S.tmps,own:=(b, .box oty (cells.set i (.vh nn)))::(nn, .vec te e (xs.take l))::(m, .gone (S.len m))::S.own}:TS V.N)=S'
   have hlen:∀q,q≠nn->S'.len q=S.len q:=by
    intro q hq
    subst hS'
    unfold TS.len TS.own?
    simp only[af]
    by_cases q1:b=q
    ·subst q1
     rw[RS rfl]
     unfold TS.own? at hb
     rw[hb];rfl
    ·rw[RR q1,RR (O3 hq)]
     by_cases q2:m=q
     ·subst q2;rw[RS rfl];rfl
     ·rw[RR q2]
   have hlnn:S'.len nn=l:=by
    subst hS'
    unfold TS.len TS.own?
    simp only[af,RR hbn,RO,TO.len,O1]
    omega
   refine Ent.le (λt x hx=> ?_) λn x hx=> ?_
   ·rw[bR,OB]at hx
    obtain⟨v,hv,rfl⟩:=hx
    have hv':gt S.tmps t=some v:=by subst hS';exact hv
    refine⟨ao V S.len v,by simp only[bR,hv'];rfl,?_⟩
    have:ao V S'.len v=ao V S.len v:=iQ v λq hq=>hlen q λe0=>by
     subst e0
     have:=fresh_tmp hf hv'
     rw[hq]at this;cases this
    rw[this]
    exact H.le.refl _
   ·rw[aH,PV]at hx
    obtain⟨oo,ho1,ho2⟩:=hx
    refine⟨x,?_,OLe.refl _⟩
    subst hS'
    unfold TS.own? at ho1
    unfold ab.own?
    simp only[af]at ho1⊢
    by_cases q1:b=n
    ·rw[RS q1]at ho1⊢
     simp only[Om]at ho1;subst ho1
     simp only[aZ,Om]at ho2;subst ho2
     have hc:encL V (TS.len {tmps:=S.tmps,own:=(b, .box oty (cells.set i (.vh nn)))::(nn, .vec te e (xs.take l))::(m, .gone (S.len m))::S.own}) (cells.set i (.vh nn))=(encL V S.len cells).set i (.vh nn l):=by
      rw[encL_map,P1,encL_map]
      congr 1
      ·rw[<-encL_map,<-encL_map]
       refine encL_congr cells λq hq=>hlen q λe0=> ?_
       subst e0;rw[hcn]at hq;cases hq
      ·simp only[ao,hlnn]
     rw[hc]
     rfl
    ·rw[RR q1]at ho1⊢
     by_cases q2:nn=n
     ·rw[RS q2]at ho1⊢
      simp only[Om]at ho1;subst ho1
      simp only[aZ,Om]at ho2;subst ho2
      rw[Pq];rfl
     ·rw[RR q2]at ho1⊢
      by_cases q3:m=n
      ·rw[RS q3]at ho1
       simp only[Om]at ho1;subst ho1
       cases ho2
      ·rw[RR q3]at ho1⊢
       have hq:(az V S).own? n=some x:=by
        rw[aH]
        unfold TS.own?
        rw[ho1]
        have:aZ V S.len oo=aZ V (TS.len {tmps:=S.tmps,own:=(b, .box oty (cells.set i (.vh nn)))::(nn, .vec te e (xs.take l))::(m, .gone (S.len m))::S.own}) oo:=(qm oo λq hq=>hlen q λe0=>by
         subst e0
         have:=hf
         unfold TS.fresh at this
         simp only[Oy,OD]at this
         have:=this.2 (n,oo) (bI ho1)
         simp[hq]at this).symm
        rw[PX,this];exact ho2
       exact hq
  ·cases h
 ·cases h
theorem yR{k:TS V.N->Option A}(h:Bo V P pre o S k=some r):∃S',k S'=some r/\Ent (az V S) (az V S'):=by
 unfold Bo at h
 split at h
 ·exact Bv h
 ·split at h
  ·split at h
   ·exact⟨_,h,Ao S _⟩
   ·exact⟨_,h,Ent.refl _⟩
  ·split at h
   ·split at h
    ·split at h
     ·exact⟨_,h,q9 _ _ S⟩
     ·exact⟨_,h,Ent.refl _⟩
    ·exact⟨_,h,Ent.refl _⟩
   ·exact⟨_,h,Ent.refl _⟩
  ·exact⟨_,h,Ent.refl _⟩
end
end Go.Tx
end
section
namespace Go.Tx
open Go.Awp
variable [Inhabited GMem]
section
variable {ι:Type} {N:ι->Type}
def setB(S:TS N)(d:Nat)(b:Bool):TS N:={S with tmps:=(d, .lf .bool b)::S.tmps}
def tK(S:TS N)(all:List Oper)(j:Nat):Option (Nat×TV N):=match all[j]? with
 |some o=>match o.dst with
  |some d=>match gt S.tmps d with
   |some v=>some (d,v)
   |none=>none
  |none=>none
 |none=>none
def A6(n:Nat)(pre:Nat->Bool)(o:Oper):Bool:=match o.dst with
 |some d=>PQ d n&& !pre (4000000+d)
 |none=>true
def eO(S:TS N)(e:TE N):Bool:=e.new.all λd=>S.fresh d&&PQ d given
end
section
variable (V:jj) (P:Program) (n:Nat) (nm:Nat->Nat) (call:aB V)
def nc:TV V.N->List (TV V.N)
 | .vh n=>[.vh n]
 | .agg cs=>cs
 |_=>[]
def GG(b c:Bool):TV V.N->List (TV V.N)
 | .vh n=>match b with
  |true=>[.vh n]
  |false=>[]
 | .agg cs=>match c with
  |true=>[]
  |false=>cs
 |_=>[]
def CG(pre:Nat->Bool)(o:Oper)(S:TS V.N):TS V.N:=match o.op with
 | .buildSlice _ _ parts=>frzL V S (parts.toList.flatMap λp=>nc V (tev S p.2))
 | .convert _ _ x=>frzL V S (nc V (tev S x))
 | .slice _ x _ _ _=>frzL V S (nc V (tev S x))
 | .store _ x y=>match tev S x with
  | .ep .. =>frzL V S (nc V (tev S y))
  |_=>S
 | .call c=>match c.callee with
  | .value f=>match tev S f with
   | .fn fid first captured=>frzL V S ((first++c.args.toList.map (tev S)++captured).flatMap (GG V (pre fid) (pre (2000000+fid))))
   | .lf .fnc _=>frzL V S ((c.args.toList.map (tev S)).flatMap (GG V false false))
   |_=>S
  | .builtin .append=>match c.args.toList,c.argTypes.toList with
   |[_, .tmp t],ty::_=>match gt S.tmps t,V.ty ty with
    |some (.vh n),_=>frzL V S [.vh n]
    |some (.raw (.slice (some _) 0 _)),some (.sl e)=>{S with tmps:=(t, .lf (.sl e) [])::S.tmps}
    |some (.raw (.slice none 0 0)),some (.sl e)=>{S with tmps:=(t, .lf (.sl e) [])::S.tmps}
    |_,_=>S
   |_,_=>S
  |_=>S
 |_=>S
def tD{α β:Type}:List α->(List α->β)->β
 |[],k=>k []
 |x::r,k=>tD r λl=>k (x::l)
theorem n7{α β:Type}:∀(l:List α) (k:List α->β),tD l k=k l
 |[],_=>rfl
 |x::r,k=>by rw[tD,n7 r]
def xm{ι:Type}{N:ι->Type}{β:Type}(S:TS N)(k:TS N->β):β:=tD S.tmps λt=>tD S.own λo=>k ⟨t,o⟩
theorem tE{ι:Type}{N:ι->Type}{β:Type}(S:TS N)(k:TS N->β):xm S k=k S:=by
 unfold xm
 rw[n7,n7]
noncomputable def Jv{A:Type}(x:Operand)(S:TS V.N)(k:TE V.N->Option A):Option A:=match tev S x with
 | .bp n 0=>match S.own? n with
  |some (.miter m tk tv es rest _)=>if Hz tk=true/\S.len m=0 then
   if rest.isEmpty=true then k {val:= .tup [.lf .bool false],acc:=[n,m],upd:=[(m, .map tk tv es),(n, .gone 0)]}
   else GS (Jd rest) λq=>k {val:= .tup [.lf .bool true, .lf tk q.1.1, .lf tv q.1.2],acc:=[n],upd:=[(n, .miter m tk tv es q.2 (some q.1))]}
   else none
  |_=>none
 |_=>none
noncomputable def txo(pre:Nat->Bool)(o:Oper){A:Type}(S:TS V.N)(k:TS V.N->Option A):Option A:=match o.op with
 | .next x false=>Jv V x S λte=>match eO S te with
  |true=>k (S.app o.dst te)
  |false=>none
 |_=>Bo V P pre o S λS=>match opX V pre o S with
  |true=>tdX V P nm pre o S λte=>match eO S te with
   |true=>k (S.app o.dst te)
   |false=>none
  |false=>tx V P nm call false o (CG V pre o S) λte=>match eO (CG V pre o S) te with
   |true=>k ((CG V pre o S).app o.dst te)
   |false=>none
noncomputable def txs(pre:Nat->Bool)(all:List Oper){A:Type}:List Oper->TS V.N->(TS V.N->Option A)->Option A
 |[],S,k=>k S
 |o::os,S,k=>xm S λS=>match A6 n pre o with
  |false=>none
  |true=>match o.guard with
   |none=>txo V P nm call pre o S λS'=>txs pre all os S' k
   |some (j,want)=>match tK S all j with
    |some (d, .lf .bool b)=>if b=true then
      match want with
      |true=>txo V P nm call pre o (setB S d true) λS'=>txs pre all os S' k
      |false=>txs pre all os ((setB S d true).app o.dst {val:= .tup []}) k
     else
      match want with
      |false=>txo V P nm call pre o (setB S d false) λS'=>txs pre all os S' k
      |true=>txs pre all os ((setB S d false).app o.dst {val:= .tup []}) k
    |some (_, .tup [])=>txs pre all os (S.app o.dst {val:= .tup []}) k
    |_=>none
def txq(pre:Nat->Bool)(o:Oper){A:Type}(S:TS V.N)(k:TE V.N->Option A):Option A:=match opX V pre o S with
 |true=>tdX V P nm pre o S k
 |false=>tx V P nm call true o S k
def txd(pre:Nat->Bool)(all:List Oper){A:Type}:List Oper->TS V.N->List Tr1->(TS V.N->List Tr1->Option A)->Option A
 |[],S,tr,k=>k S tr
 |o::os,S,tr,k=>xm S λS=>match A6 n pre o with
  |false=>none
  |true=>match det o.op with
   |false=>none
   |true=>match o.guard with
   |none=>txq V P nm call pre o S λte=>match eO S te with
    |true=>txd pre all os (S.app o.dst te) (tr++[⟨fP (S.app o.dst te).len te,true⟩]) k
    |false=>none
   |some (j,want)=>match tK S all j with
    |some (d, .lf .bool b)=>if b=true then
      match want with
      |true=>txq V P nm call pre o (setB S d true) λte=>match eO (setB S d true) te with
       |true=>txd pre all os ((setB S d true).app o.dst te) (tr++[⟨fP ((setB S d true).app o.dst te).len te,true⟩]) k
       |false=>none
      |false=>txd pre all os ((setB S d true).app o.dst {val:= .tup []}) (tr++[⟨{val:= .tup []},false⟩]) k
     else
      match want with
      |false=>txq V P nm call pre o (setB S d false) λte=>match eO (setB S d false) te with
       |true=>txd pre all os ((setB S d false).app o.dst te) (tr++[⟨fP ((setB S d false).app o.dst te).len te,true⟩]) k
       |false=>none
      |true=>txd pre all os ((setB S d false).app o.dst {val:= .tup []}) (tr++[⟨{val:= .tup []},false⟩]) k
    |some (_, .tup [])=>txd pre all os (S.app o.dst {val:= .tup []}) (tr++[⟨{val:= .tup []},false⟩]) k
    |_=>none
end
section
variable {V:jj}
theorem sr{C:Ctx}{E:Env}{M:Mem}{S:TS V.N}{d:Nat}{b:Bool}{a:Act}{w:World}(hd:gt S.tmps d=some (.lf .bool b))(hs:Sim C E M (az V S) a w):Sim C E M (az V (setB S d b)) a w:=by
 have hl:(setB S d b).len=S.len:=rfl
 refine Sim.le hs (λt x hx=> ?_) λn o ho=>⟨o,ho,OLe.refl _⟩
 rw[bR]at hx⊢
 simp only[setB,af]at hx
 by_cases h:d=t
 ·subst h
  rw[RS rfl]at hx
  rw[hd]
  exact⟨x,hx,H.le.refl _⟩
 ·rw[RR h]at hx
  exact⟨x,hx,H.le.refl _⟩
theorem jT{S:TS V.N}{all:List Oper}{j d:Nat}{v:TV V.N}(h:tK S all j=some (d,v)):gt S.tmps d=some v/\∃o,all[j]?=some o/\o.dst=some d:=by
 unfold tK at h
 split at h
 ·rename_i o ho
  split at h
  ·rename_i d' hd
   split at h
   ·rename_i v' hv
    simp at h;obtain⟨rfl,rfl⟩:=h
    exact⟨hv,o,ho,hd⟩
   ·cases h
  ·cases h
 ·cases h
theorem kG{S:TS V.N}{σ:ab}(hσ:∀t,gt σ.tmps t=gt (az V S).tmps t){all:List Oper}{j d:Nat}{v:TV V.N}{want b:Bool}(h:tK S all j=some (d,v))
 (hv:v= .lf .bool b\/v= .tup []/\b= !want):jr σ all j want=some b:=by
 obtain⟨h1,o,h2,h3⟩:=jT h
 have hg:σ.get d=ao V S.len v:=by
  unfold ab.get
  rw[hσ,bR,h1];rfl
 unfold jr
 simp only[h2,h3,hg]
 rcases hv with rfl|⟨rfl,rfl⟩
 ·simp[ao,aL]
 ·simp[ao,encL]
theorem dB{S:TS V.N}{te:TE V.N}(h:eO S te=true):(∀d∈te.new,S.fresh d=true)/\∀d∈te.new,d<given:=by
 unfold eO at h
 rw[OD]at h
 refine⟨λd hd=> ?_,λd hd=> ?_⟩
 ·have:=h d hd
  simp only[Oy]at this
  exact this.1
 ·have:=h d hd
  simp only[Oy,P8]at this
  exact this.2
def Fx(C:Ctx)(pre:Nat->Bool):Prop:=∀p∈C.fix,pre (4000000+p.1)=true
theorem rk{C:Ctx}{pre:Nat->Bool}{o:Oper}(hF:Fx C pre)(h:A6 C.N pre o=true):∀d,o.dst=some d->C.wr d:=by
 intro d hd
 unfold A6 at h
 rw[hd]at h
 simp only[Oy,P8,Qy]at h
 refine⟨h.1,λp hp e=> ?_⟩
 have:=hF p hp
 rw[e,h.2]at this
 cases this
theorem xV(S:TS V.N):n9 S {val:= .tup []}:=eW S _ _
theorem JE{C:Ctx}{E:Env}{M:Mem}{S:TS V.N}{o:Oper}{a:Act}{w:World}(hd:∀d,o.dst=some d->C.wr d)(hs:Sim C E M (az V S) a w):Sim C E M (az V (S.app o.dst {val:= .tup []})) (a.put o.dst undef) w:=by
 have h1:=hs.app_val (o:=o) hd (e:={val:= .tup []}) rfl GF
 refine Sim.tapp (ex:=false) (e':={val:= .tup []}) (xV S) (λd h=>by cases h) (mq ?_) h1
 simp[ao,encL]
theorem M7{C:Ctx}{nm:Nat->Nat}{call:aB V}{ex:Bool}{o:Oper}{S:TS V.N}{A:Type}{k:TS V.N->Option A}{r:A}{E:Env}{M:Mem}{a:Act}{w:World}{K:Act->World->Prop}{Q:Exit->Act->World->Prop}
 (hcall:aj C.P call)(hd:∀d,o.dst=some d->C.wr d)(h:(tx V C.P nm call ex o S λte=>match eO S te with|true=>k (S.app o.dst te)|false=>none)=some r)(hs:Sim C E M (az V S) a w)
 (hK:∀te E' M' a' w',k (S.app o.dst te)=some r->Sim C E' M' (az V (S.app o.dst te)) a' w'->K a' w'):o.wp C.P a w K Q:=by
 have hnew:∀te:TE V.N,(match eO S te with|true=>k (S.app o.dst te)|false=>none)=some r->eO S te=true/\k (S.app o.dst te)=some r:=by
  intro te h
  cases hq:eO S te with
  |true=>rw[hq]at h;exact⟨rfl,h⟩
  |false=>rw[hq]at h;cases h
 obtain⟨te,h1,h2,h3⟩:=xY hcall (λte hte=>(dB (hnew te hte).1).1) h
 obtain⟨hn,hk⟩:=hnew te h1
 obtain⟨f1,f2⟩:=dB hn
 refine uq hd E M (az V S) a w K Q (λe=>ELe ex e (fP (S.app o.dst te).len te)) hs (nh (λe he=>⟨λd hd=> ?_,he⟩) h3) λe E' M' a' w' he hs'=>hK te E' M' a' w' hk (Sim.tapp h2 f1 he hs')
 have hd:d∈te.new:=by rw[he.new]at hd;exact hd
 exact⟨ed (f1 d hd),f2 d hd⟩
theorem Fm{C:Ctx}{nm:Nat->Nat}{pre:Nat->Bool}{o:Oper}{S:TS V.N}{A:Type}{k:TS V.N->Option A}{r:A}{E:Env}{M:Mem}{a:Act}{w:World}{K:Act->World->Prop}{Q:Exit->Act->World->Prop}
 (hd:∀d,o.dst=some d->C.wr d)(h:(tdX V C.P nm pre o S λte=>match eO S te with|true=>k (S.app o.dst te)|false=>none)=some r)(hs:Sim C E M (az V S) a w)
 (hK:∀te E' M' a' w',k (S.app o.dst te)=some r->Sim C E' M' (az V (S.app o.dst te)) a' w'->K a' w'):o.wp C.P a w K Q:=by
 have hnew:∀te:TE V.N,(match eO S te with|true=>k (S.app o.dst te)|false=>none)=some r->eO S te=true/\k (S.app o.dst te)=some r:=by
  intro te h
  cases hq:eO S te with
  |true=>rw[hq]at h;exact⟨rfl,h⟩
  |false=>rw[hq]at h;cases h
 obtain⟨te,h1,h2,e',h3,h4⟩:=uR (λte hte=>(dB (hnew te hte).1).1) h
 obtain⟨hn,hk⟩:=hnew te h1
 obtain⟨f1,f2⟩:=dB hn
 refine h3.ok hd hs (λd hd=> ?_) λE' M' a' w' hs'=>hK te E' M' a' w' hk (Sim.tapp h2 f1 h4 hs')
 have hd:d∈te.new:=by rw[h4.new]at hd;exact hd
 exact⟨ed (f1 d hd),f2 d hd⟩
theorem ud{α β:Type}(f:α->β):∀(l:List α) (i:Nat),(l.eraseIdx i).map f=(l.map f).eraseIdx i
 |[],_=>rfl
 |_::_,0=>rfl
 |x::r,i+1=>by simp[Rn,ud f r i]
theorem Fs{C:Ctx}{nm:Nat->Nat}{o:Oper}{S:TS V.N}{A:Type}{k:TS V.N->Option A}{r:A}{E:Env}{M:Mem}{a:Act}{w:World}{K:Act->World->Prop}{Q:Exit->Act->World->Prop}{x:Operand}
 (ho:o.op= .next x false)(hd:∀d,o.dst=some d->C.wr d)(h:(Jv V x S λte=>match eO S te with|true=>k (S.app o.dst te)|false=>none)=some r)(hs:Sim C E M (az V S) a w)
 (hK:∀te E' M' a' w',k (S.app o.dst te)=some r->Sim C E' M' (az V (S.app o.dst te)) a' w'->K a' w'):o.wp C.P a w K Q:=by
 have hnew:∀te:TE V.N,(match eO S te with|true=>k (S.app o.dst te)|false=>none)=some r->eO S te=true/\k (S.app o.dst te)=some r:=by
  intro te h
  cases hq:eO S te with
  |true=>rw[hq]at h;exact⟨rfl,h⟩
  |false=>rw[hq]at h;cases h
 have go:∀(te:TE V.N) (e:Eff),(match eO S te with|true=>k (S.app o.dst te)|false=>none)=some r->n9 S te->ELe false e (fP (S.app o.dst te).len te)->
  (∀d∈e.new,(az V S).fresh d=true/\d<given)/\∃te,n9 S te/\(∀d∈te.new,S.fresh d=true)/\ELe false e (fP (S.app o.dst te).len te)/\k (S.app o.dst te)=some r:=by
  intro te e h hg he
  obtain⟨hn,hk⟩:=hnew te h
  obtain⟨f1,f2⟩:=dB hn
  exact⟨λd hd=>by
   have hd:d∈te.new:=by rw[he.new]at hd;exact hd
   exact⟨ed (f1 d hd),f2 d hd⟩,te,hg,f1,he,hk⟩
 unfold Jv at h
 split at h
 ·rename_i n hx
  split at h
  ·rename_i m tk tv es rest cur hown
   obtain⟨⟨hkey,hlm⟩,h⟩:=ah h
   refine uq (nm:=nm) hd E M (az V S) a w K Q (λe=>∃te,n9 S te/\(∀d∈te.new,S.fresh d=true)/\ELe false e (fP (S.app o.dst te).len te)/\k (S.app o.dst te)=some r) hs ?_
    λe E' M' a' w' ⟨te,h2,f1,he,hk⟩ hs'=>hK te E' M' a' w' hk (Sim.tapp h2 f1 he hs')
   simp only[aT,ho,am,hx,ao,uw hown]
   refine⟨trivial,λhr=> ?_,λi p hp=> ?_⟩
   ·have hr:rest=[]:=by simpa using hr
    subst hr
    simp only[List.isEmpty_nil,RO]at h
    refine go {val:= .tup [.lf .bool false],acc:=[n,m],upd:=[(m, .map tk tv es),(n, .gone 0)]} {val:= .tup [.d (.v (.bool false))],acc:=[n,m],upd:=[(m,some (.map (es.map λp=>(dQ V.enc tk p.1,aL V.sz V.enc tv p.2)))),(n,none)]} h (λm' o' hm=> ?_)
     (bq (by simp[ao,encL,aL]) rfl (by simp[aZ]) rfl)
    simp only[af]at hm
    right
    split at hm
    ·rename_i e;simp at hm;subst hm;subst e;simp[TO.len,hlm]
    ·split at hm
     ·rename_i e;simp at hm;subst hm;subst e;simp[TO.len,tQ hown]
     ·simp[gt]at hm
   ·rw[Oq,OB]at hp
    obtain⟨q,hq,rfl⟩:=hp
    have hne:rest.isEmpty=false:=by cases rest with|nil=>simp at hq|cons a r=>rfl
    rw[RR (by simp[hne]),yh]at h
    have h:=h.2 _ (C9 hq)
    refine go {val:= .tup [.lf .bool true, .lf tk q.1, .lf tv q.2],acc:=[n],upd:=[(n, .miter m tk tv es (rest.eraseIdx i) (some q))]}
     {val:= .tup [.d (.v (.bool true)), .d (.v (dQ V.enc tk q.1)), .d (aL V.sz V.enc tv q.2)],acc:=[n],upd:=[(n,some (.miter m (es.map λp=>(dQ V.enc tk p.1,aL V.sz V.enc tv p.2)) ((rest.map λp=>(dQ V.enc tk p.1,aL V.sz V.enc tv p.2)).eraseIdx i) (some (dQ V.enc tk q.1,aL V.sz V.enc tv q.2))))]} h (λm' o' hm=> ?_)
     (bq (by simp only[ao,encL,BE hkey];rfl) rfl (by simp[aZ,ud]) rfl)
    simp only[af]at hm
    right
    split at hm
    ·rename_i e;simp at hm;subst hm;subst e;simp[TO.len,tQ hown]
    ·simp[gt]at hm
  ·cases h
 ·cases h
theorem C3{S:TS V.N}{t:Nat}{v v':TV V.N}(ht:gt S.tmps t=some v)(h:H.le (ao V S.len v) (ao V S.len v')):Ent (az V S) (az V {S with tmps:=(t,v')::S.tmps}):=
 Ent.le (λd x hx=>by
  have hl:({S with tmps:=(t,v')::S.tmps}:TS V.N).len=S.len:=rfl
  rw[bR]at hx
  simp only[af,hl]at hx
  by_cases h1:t=d
  ·subst h1
   rw[RS rfl]at hx
   simp at hx;subst hx
   exact⟨_,by rw[bR,ht];rfl,h⟩
  ·rw[RR h1]at hx
   exact⟨x,by rw[bR];exact hx,H.le.refl _⟩) λn o ho=>⟨o,ho,OLe.refl _⟩
theorem CH(pre:Nat->Bool)(o:Oper)(S:TS V.N):Ent (az V S) (az V (CG V pre o S)):=by
 unfold CG
 split
 ·exact dp _ S
 ·exact dp _ S
 ·exact dp _ S
 ·split
  ·exact dp _ S
  ·exact Ent.refl _
 ·split
  ·split
   ·exact dp _ S
   ·exact dp _ S
   ·exact Ent.refl _
  ·split
   ·split
    ·exact dp _ S
    ·rename_i ht _
     refine C3 ht ?_
     simp only[ao,bx,aL,O0]
     exactλE M v h=>by rw[h.dv];exact .d (.slmt _ _ _)
    ·rename_i ht _
     refine C3 ht ?_
     simp only[ao,bx,aL,O0]
     exactλE M v h=>by rw[h.dv];exact .d (.slnil _)
    ·exact Ent.refl _
   ·exact Ent.refl _
  ·exact Ent.refl _
 ·exact Ent.refl _
theorem KQ{C:Ctx}{nm:Nat->Nat}{call:aB V}{pre:Nat->Bool}{o:Oper}{S:TS V.N}{A:Type}{k:TS V.N->Option A}{r:A}{E:Env}{M:Mem}{a:Act}{w:World}{K:Act->World->Prop}{Q:Exit->Act->World->Prop}
 (hcall:aj C.P call)(hd:∀d,o.dst=some d->C.wr d)(h:txo V C.P nm call pre o S k=some r)(hs:Sim C E M (az V S) a w)
 (hK:∀S' E' M' a' w',k S'=some r->Sim C E' M' (az V S') a' w'->K a' w'):o.wp C.P a w K Q:=by
 unfold txo at h
 split at h
 ·rename_i x hx
  exact Fs (nm:=nm) hx hd h hs λte E' M' a' w' hk hs'=>hK _ E' M' a' w' hk hs'
 ·obtain⟨S1,h,he⟩:=yR h
  obtain⟨E,M,hs⟩:=he C E M a w hs
  split at h
  ·exact Fm hd h hs λte E' M' a' w' hk hs'=>hK _ E' M' a' w' hk hs'
  ·obtain⟨_,_,hs1⟩:=CH pre o S1 C E M a w hs
   exact M7 hcall hd h hs1 λte E' M' a' w' hk hs'=>hK _ E' M' a' w' hk hs'
theorem pB{C:Ctx}{nm:Nat->Nat}{call:aB V}{pre:Nat->Bool}{ops:Array Oper}{Q:Exit->Act->World->Prop}{A:Type}{r:A}(hcall:aj C.P call)(hF:Fx C pre):∀(l:List Oper) (i:Nat) (S:TS V.N) (k:TS V.N->Option A) (E:Env) (M:Mem) (a:Act) (w:World),
 ops.toList.drop i=l->txs V C.P C.N nm call pre ops.toList l S k=some r->Sim C E M (az V S) a w->(∀S' E' M' a' w',k S'=some r->Sim C E' M' (az V S') a' w'->Q .normal a' w')->
 wpOps C.P ops Q ((P9 l.length).map (i+ ·)) a w
 |[],i,S,k,E,M,a,w,_,h,hs,hQ=>by
  simp only[txs]at h
  simpa[wpOps]using hQ S E M a w h hs
 |o::os,i,S,k,E,M,a,w,hl,h,hs,hQ=>by
  have hi:ops[i]?=some o:=by
   have:(ops.toList.drop i)[0]?=some o:=by rw[hl];rfl
   simpa using this
  have hl':ops.toList.drop (i+1)=os:=by
   rw[<-List.tail_drop,hl];rfl
  have hlist:(P9 (o::os).length).map (i+ ·)=i::(P9 os.length).map (i+1+ ·):=by
   simp only[O_,List.range_succ_eq_map,Ow,OQ,Pd]
   congr 1
   apply OP
   intro x _
   simp;omega
  rw[hlist]
  simp only[txs,tE]at h
  split at h
  ·cases h
  rename_i hdst
  have run:∀(S:TS V.N),Sim C E M (az V S) a w->(txo V C.P nm call pre o S λS'=>txs V C.P C.N nm call pre ops.toList os S' k)=some r->
   o.wp C.P a w (wpOps C.P ops Q ((P9 os.length).map (i+1+ ·))) Q:=λS hs h=>
   KQ (k:=λS'=>txs V C.P C.N nm call pre ops.toList os S' k) hcall (rk hF hdst) h hs λS' E' M' a' w' hk hs'=>pB hcall hF os (i+1) _ k E' M' a' w' hl' hk hs' hQ
  have off:∀(S:TS V.N),Sim C E M (az V S) a w->txs V C.P C.N nm call pre ops.toList os (S.app o.dst {val:= .tup []}) k=some r->
   wpOps C.P ops Q ((P9 os.length).map (i+1+ ·)) (a.put o.dst undef) w:=λS hs h=>
   pB hcall hF os (i+1) _ k E M _ w hl' h (JE (rk hF hdst) hs) hQ
  simp only[wpOps,hi]
  cases hg:o.guard with
  |none=>
   simp only[hg]at h
   rw[RS (by simp[Region.wanted,hg])]
   exact .inl (run S hs h)
  |some g=>
   obtain⟨j,want⟩:=g
   simp only[hg]at h
   split at h
   ·rename_i d b hgv
    have hb:=kG (V:=V) (S:=S) (σ:=az V S) (λt=>rfl) (want:=want) hgv (.inl rfl)
    have hy:=hs.guard hb
    have hgt:=(jT hgv).1
    cases b with
    |true=>
     rw[RS rfl]at h
     have hs':=sr hgt hs
     cases want with
     |true=>
      rw[RS (by simp[Region.wanted,hg,hy])]
      exact .inl (run _ hs' h)
     |false=>
      rw[RR (by simp[Region.wanted,hg,hy])]
      exact off _ hs' h
    |false=>
     rw[RR (by simp)]at h
     have hs':=sr hgt hs
     cases want with
     |false=>
      rw[RS (by simp[Region.wanted,hg,hy])]
      exact .inl (run _ hs' h)
     |true=>
      rw[RR (by simp[Region.wanted,hg,hy])]
      exact off _ hs' h
   ·rename_i d hgv
    have hb:=kG (V:=V) (S:=S) (σ:=az V S) (λt=>rfl) (want:=want) hgv (.inr ⟨rfl,rfl⟩)
    have hy:=hs.guard hb
    rw[RR (by cases want<;>simp[Region.wanted,hg,hy])]
    exact off _ hs h
   ·cases h
structure Rl (σ:ab) (S:TS V.N):Prop where
 tmp:∀t,gt σ.tmps t=gt (az V S).tmps t
 own:∀n,σ.own? n=(az V S).own? n
 fresh:∀d,S.fresh d=true->σ.fresh d=true
theorem Rl.refl(S:TS V.N):Rl (az V S) S:=⟨λ_=>rfl,λ_=>rfl,λ_ h=>ed h⟩
theorem Rl.ent{σ:ab}{S:TS V.N}(h:Rl σ S):Ent σ (az V S):=Ent.le (λt x hx=>⟨x,by rw[h.tmp];exact hx,H.le.refl _⟩) λn o ho=>⟨o,by rw[h.own];exact ho,OLe.refl _⟩
theorem Rl.setB{σ:ab}{S:TS V.N}(h:Rl σ S){d:Nat}{b:Bool}(hd:gt S.tmps d=some (.lf .bool b)):Rl σ (setB S d b)where
 tmp:=λt=>by
  rw[h.tmp,bR,bR]
  simp only[Tx.setB,af]
  by_cases e:d=t
  ·subst e;rw[RS rfl,hd];simp[ao]
  ·rw[RR e];rfl
 own:=λn=>h.own n
 fresh:=λn hn=>h.fresh n (by
  unfold TS.fresh at hn⊢
  simp only[Oy]at hn⊢
  refine⟨⟨hn.1.1,?_⟩,hn.2⟩
  have:=hn.1.2
  simp only[Tx.setB,PC,Oy]at this
  exact this.2)
theorem Rl.app{σ:ab}{S:TS V.N}(h:Rl σ S){dst:Option Tmp}{te:TE V.N}(hg:n9 S te)(hn:∀d∈te.new,S.fresh d=true):Rl (σ.app dst (fP (S.app dst te).len te)) (S.app dst te)where
 tmp:=λt=>by
  rw[(rl (dst:=dst) hg hn).1]
  simp only[ab.app,mR]
  cases dst with
  |none=>exact h.tmp t
  |some d=>simp only[af];rw[h.tmp]
 own:=λn=>by
  rw[(rl (dst:=dst) hg hn).2]
  have:=h.own n
  unfold ab.own? at this⊢
  simp only[ab.app,eG]
  cases gt (fP (S.app dst te).len te).upd n with
  |some o=>rfl
  |none=>exact this
 fresh:=λn hn'=>by
  unfold TS.fresh at hn'
  simp only[Oy]at hn'
  obtain⟨⟨f1,f2⟩,f3⟩:=hn'
  have hu:gt te.upd n=none:=by
   rw[mU]at f1
   cases hq:gt te.upd n with
   |none=>rfl
   |some o=>rw[hq]at f1;cases f1
  have hs:S.fresh n=true:=by
   unfold TS.fresh
   simp only[Oy]
   refine⟨⟨?_,?_⟩,?_⟩
   ·rw[mU,hu]at f1;exact f1
   ·rw[OD]at f2⊢
    intro p hp
    refine f2 p ?_
    unfold TS.app Lb
    cases dst with
    |none=>exact hp
    |some d=>exact Ot _ hp
   ·rw[OD]at f3⊢
    exactλp hp=>f3 p (Qf _ hp)
  have hσ:=h.fresh n hs
  unfold ab.fresh at hσ⊢
  simp only[Oy]at hσ⊢
  obtain⟨⟨g1,g2⟩,g3⟩:=hσ
  refine⟨⟨?_,?_⟩,?_⟩
  ·have hq:gt (fP (S.app dst te).len te).upd n=none:=by simp only[fP,fU,hu];rfl
   unfold ab.own? at g1⊢
   simp only[ab.app,eG,hq]
   exact g1
  ·simp only[ab.app,mR]
   cases dst with
   |none=>exact g2
   |some d=>
    rw[PC,Oy]
    refine⟨?_,g2⟩
    rw[OD]at f2
    have:=f2 (d,te.val) (by simp[TS.app,Lb])
    simpa[fP,iR]using this
  ·simp only[ab.app,List.all_append,Oy]
   refine⟨?_,g3⟩
   rw[OD]at f3⊢
   intro p hp
   simp only[fP,OT]at hp
   obtain⟨q,hq,rfl⟩:=hp
   have:=f3 q (PY _ hq)
   simp only
   cases ho:aZ V (S.app dst te).len q.2 with
   |none=>rfl
   |some o=>simp only[kD _ n ho];exact this
theorem Rl.tup{σ:ab}{S:TS V.N}(h:Rl σ S){dst:Option Tmp}:Rl (σ.app dst {val:= .tup []}) (S.app dst {val:= .tup []}):=by
 have:=h.app (dst:=dst) (te:={val:= .tup []}) (xV S) λd h=>by cases h
 simpa[fP,ao,encL]using this
theorem Dr{P:Program}{nm:Nat->Nat}{call:aB V}{pre:Nat->Bool}{o:Oper}{S:TS V.N}{A:Type}{k:TE V.N->Option A}{r:A}(hcall:aj P call)(hf:∀te,k te=some r->∀d∈te.new,S.fresh d=true)(h:txq V P nm call pre o S k=some r):
 ∃te,k te=some r/\n9 S te/\u5 P nm o (ev (az V S)) (az V S).own? λe=>ELe true e (fP (S.app o.dst te).len te):=by
 unfold txq at h
 split at h
 ·obtain⟨te,h1,h2,e',h3,h4⟩:=uR hf h
  exact⟨te,h1,h2, .inr ⟨e',h3,h4⟩⟩
 ·obtain⟨te,h1,h2,h3⟩:=xY hcall hf h
  exact⟨te,h1,h2, .inl h3⟩
theorem pA{P:Program}{n:Nat}{W:Nat->Prop}{nm:Nat->Nat}{call:aB V}{pre:Nat->Bool}{all:List Oper}{A:Type}{r:A}(hcall:aj P call)(hW:∀o,A6 n pre o=true->∀d,o.dst=some d->W d):∀(l:List Oper) (S:TS V.N) (σ:ab) (tr:List Tr1) (k:TS V.N->List Tr1->Option A),
 txd V P n nm call pre all l S tr k=some r->Rl σ S->je P W nm all l σ tr λσ' tr'=>∃S',Rl σ' S'/\k S' tr'=some r
 |[],S,σ,tr,k,h,hr=>by
  simp only[txd]at h
  exact⟨S,hr,h⟩
 |o::os,S,σ,tr,k,h,hr=>by
  simp only[txd,tE]at h
  split at h
  ·cases h
  rename_i hdst
  split at h
  ·cases h
  rename_i hdet
  have run:∀(S:TS V.N),Rl σ S->(txq V P nm call pre o S λte=>match eO S te with|true=>txd V P n nm call pre all os (S.app o.dst te) (tr++[⟨fP (S.app o.dst te).len te,true⟩]) k|false=>none)=some r->
   u5 P nm o (ev σ) σ.own? λe=>(∀d∈e.new,σ.fresh d=true/\d<given)/\je P W nm all os (σ.app o.dst e) (tr++[⟨e,true⟩]) λσ' tr'=>∃S',Rl σ' S'/\k S' tr'=some r:=by
   intro S hr h
   have hnew:∀te:TE V.N,(match eO S te with|true=>txd V P n nm call pre all os (S.app o.dst te) (tr++[⟨fP (S.app o.dst te).len te,true⟩]) k|false=>none)=some r->
    eO S te=true/\txd V P n nm call pre all os (S.app o.dst te) (tr++[⟨fP (S.app o.dst te).len te,true⟩]) k=some r:=by
    intro te h
    cases hq:eO S te with
    |true=>rw[hq]at h;exact⟨rfl,h⟩
    |false=>rw[hq]at h;cases h
   obtain⟨te,h1,h2,h3⟩:=Dr hcall (λte hte=>(dB (hnew te hte).1).1) h
   obtain⟨hn,hk⟩:=hnew te h1
   obtain⟨f1,f2⟩:=dB hn
   have e1:ev σ=ev (az V S):=by
    funext x
    cases x with
    |tmp t=>simp only[ev,ab.get,hr.tmp]
    |_=>rfl
   have e2:σ.own?=(az V S).own?:=funext hr.own
   rw[e1,e2]
   refine kv (λe he=> ?_) h3
   have he':e=fP (S.app o.dst te).len te:=by
    obtain⟨q1,q2,q3⟩:=he.eq rfl
    have q4:=he.new
    cases e
    simp only at q1 q2 q3 q4
    subst q1;subst q2;subst q3;subst q4;rfl
   subst he'
   exact⟨λd hd=>⟨hr.fresh d (f1 d hd),f2 d hd⟩,pA hcall hW os _ _ _ k hk (hr.app h2 f1)⟩
  have off:∀(S:TS V.N),Rl σ S->txd V P n nm call pre all os (S.app o.dst {val:= .tup []}) (tr++[⟨{val:= .tup []},false⟩]) k=some r->
   je P W nm all os (σ.app o.dst {val:= .tup []}) (tr++[⟨{val:= .tup []},false⟩]) λσ' tr'=>∃S',Rl σ' S'/\k S' tr'=some r:=λS hr h=>
   pA hcall hW os _ _ _ k h hr.tup
  simp only[je]
  refine⟨⟨hW o hdst,hdet⟩,?_⟩
  cases hg:o.guard with
  |none=>
   simp only[hg]at h
   exact run S hr h
  |some g=>
   obtain⟨j,want⟩:=g
   simp only[hg]at h
   split at h
   ·rename_i d b hgv
    have hb:=kG (V:=V) (S:=S) (σ:=σ) hr.tmp (want:=want) hgv (.inl rfl)
    have hgt:=(jT hgv).1
    simp only[hb]
    cases b with
    |true=>
     rw[RS rfl]at h
     have hr':=hr.setB hgt
     cases want with
     |true=>exact⟨λ_=>run _ hr' h,λe=>by simp at e⟩
     |false=>exact⟨λe=>by simp at e,λ_=>off _ hr' h⟩
    |false=>
     rw[RR (by simp)]at h
     have hr':=hr.setB hgt
     cases want with
     |false=>exact⟨λ_=>run _ hr' h,λe=>by simp at e⟩
     |true=>exact⟨λe=>by simp at e,λ_=>off _ hr' h⟩
   ·rename_i d hgv
    have hb:=kG (V:=V) (S:=S) (σ:=σ) hr.tmp (want:=want) hgv (.inr ⟨rfl,rfl⟩)
    simp only[hb]
    exact⟨λe=>by cases want<;>simp at e,λ_=>off _ hr h⟩
   ·cases h
end
end Go.Tx
end
section
namespace Go.Tx
open Go.Awp
variable [Inhabited GMem]
inductive Alt where
 |norm
 |ret
 |exit (id:Nat)
 deriving DecidableEq
section
variable (V:jj)
structure bc where
 exits:Nat->Cut V.ι:=λ_=>⟨[],[]⟩
 rcut:Cut V.ι
variable {V}
def cJ(sh:bc V)(jt:List (Ty V.ι)):Alt->List (Ty V.ι)
 | .norm=>jt
 | .ret=>sh.rcut.tys
 | .exit id=>(sh.exits id).tys
def vc(E:Alt->List (Ty V.ι)):List Alt->Type
 |[]=>Empty
 |[a]=>HL V.N (E a)
 |a::b::r=>HL V.N (E a)⊕vc E (b::r)
def inj(E:Alt->List (Ty V.ι)):(alts:List Alt)->(a:Alt)->HL V.N (E a)->Option (vc E alts)
 |[],_,_=>none
 |[b],a,v=>if h:a=b then some (h▸v)else none
 |b::c::r,a,v=>if h:a=b then some (.inl (h▸v))else match inj E (c::r) a v with
  |some o=>some (.inr o)
  |none=>none
def qt(E:Alt->List (Ty V.ι)){A:Type}:(alts:List Alt)->vc E alts->((a:Alt)->HL V.N (E a)->Option A)->Option A
 |[],_,_=>none
 |[a],v,f=>f a v
 |a::b::r,o,f=>match o with
  | .inl v=>f a v
  | .inr o'=>qt E (b::r) o' f
theorem dc{E:Alt->List (Ty V.ι)}{A:Type}{f:(a:Alt)->HL V.N (E a)->Option A}:∀{alts:List Alt} {a:Alt} {v:HL V.N (E a)} {o:vc E alts},inj E alts a v=some o->qt E alts o f=f a v
 |[],a,v,o,h=>by simp[inj]at h
 |[b],a,v,o,h=>by
  simp only[inj]at h
  split at h
  ·rename_i e;subst e;cases h;rfl
  ·cases h
 |b::c::r,a,v,o,h=>by
  simp only[inj]at h
  split at h
  ·rename_i e;subst e;cases h;rfl
  ·split at h
   ·rename_i o' ho
    cases h
    show qt E (c::r) o' f=f a v
    exact dc (f:=f) ho
   ·cases h
variable (V)
structure yd (sh:bc V)where
 cut:Cut V.ι
 alts:List Alt
 F:HL V.N cut.tys->Option (vc (cJ sh []) alts)
structure Xc where
 P:Program
 n:Nat
 nm:Nat->Nat:=id
 call:aB V
 pre:Nat->Bool:=λ_=>false
 sh:bc V
 joins:Nat->Option (Cut V.ι×List Alt):=λ_=>none
 regs:Nat->Option (Cut V.ι):=λ_=>none
 loops:Nat->Option (yd V sh):=λ_=>none
 pair:Nat->PT:=λ_=> .leaf
 jumps:Nat->Option (Nat×yd V sh):=λ_=>none
def cF:Code->Nat
 | .region id _ _=>id
 | .seq a b=>if cF a=1000000 then cF b else cF a
 | .block _ x=>cF x
 | .cond _ a b=>if cF a=1000000 then cF b else cF a
 | .loop b=>cF b
 | .scope b=>cF b
 |_=>1000000
variable {V}
noncomputable def both{A:Type}(x y:Option A):Option A:=by classical exact if x=y then x else none
theorem sR{A:Type}{x y:Option A}{r:A}(h:both x y=some r):x=some r/\y=some r:=by
 unfold both at h
 split at h
 ·rename_i e;exact⟨h,e▸h⟩
 ·cases h
theorem GV{A:Type}{x y:Option A}{r:A}(h:x=some r)(h2:y=some r):both x y=some r:=by
 unfold both;rw[RS (h.trans h2.symm),h]
def Mw(X:Xc V){A:Type}(ops:Array Oper)(S:TS V.N)(k:TS V.N->Option A):Option A:=
 txd V X.P X.n X.nm X.call X.pre ops.toList ops.toList S [] λS' tr=>match xe ops.toList tr with
  |true=>k S'
  |false=>none
def xH(i j n:Nat):Bool:= !Ph i j&&PQ i n&&PQ j n
noncomputable def KH(X:Xc V){A:Type}(S:TS V.N)(k:TS V.N->Option A):PT->Array Oper->Option A
 | .leaf,ops=>Mw X ops S k
 | .node i j a b,ops=>match xH i j ops.size with
  |true=>both (KH X S k a (eK i i i j ops)) (KH X S k b (eK i j j i ops))
  |false=>none
noncomputable def KI(X:Xc V){A:Type}(id:Nat)(ops:Array Oper)(draw:Bool)(S:TS V.N)(k:TS V.N->Option A):Option A:=match draw with
 |false=>txs V X.P X.n X.nm X.call X.pre ops.toList ops.toList S k
 |true=>KH X S k (X.pair id) ops
def mC{A:Type}(ke:Nat->TS V.N->Option A):Nat->TS V.N->Option A:=λid S=>match PQ id 1000000 with
 |true=>ke id S
 |false=>none
noncomputable def ex(X:Xc V):Code->(A:Type)->TS V.N->(TS V.N->Option A)->(Nat->TS V.N->Option A)->(HL V.N X.sh.rcut.tys->Option A)->Option A
 | .skip,_,S,kn,_,_=>kn S
 | .ret,_,S,_,_,kr=>match xh V X.sh.rcut S with
  |some v=>kr v
  |none=>none
 | .exit id,_,S,_,ke,_=>mC ke id S
 | .goto l,_,S,_,ke,_=>ke (1000000+l) S
 | .label _,_,S,kn,_,_=>kn S
 | .seq x y,A,S,kn,ke,kr=>match X.joins (cF y)with
  |none=>ex X x A S (λS'=>ex X y A S' kn ke kr) ke kr
  |some (cut,alts)=>
   ex X x (vc (cJ X.sh cut.tys) alts) S
    (λS'=>match xh V cut S' with
      |some v=>inj (cJ X.sh cut.tys) alts .norm v
      |none=>none)
    (λid S'=>match xh V (X.sh.exits id) S' with
      |some v=>inj (cJ X.sh cut.tys) alts (.exit id) v
      |none=>none)
    (λv=>inj (cJ X.sh cut.tys) alts .ret v)>>=λout=>
   qt (cJ X.sh cut.tys) alts out λa=>match a with
    | .norm=>λv=>ex X y A (bi V cut v) kn ke kr
    | .ret=>λv=>kr v
    | .exit id=>λv=>ke id (bi V (X.sh.exits id) v)
 | .block id x,A,S,kn,ke,kr=>match PQ id 1000000 with
  |true=>ex X x A S kn (λid' S'=>if id'=id then kn S' else ke id' S') kr
  |false=>none
 | .cond c x y,A,S,kn,ke,kr=>match c with
  | .tmp t=>match gt S.tmps t with
   |some (.lf .bool b)=>if b=true then ex X x A (setB S t true) kn ke kr else ex X y A (setB S t false) kn ke kr
   |_=>none
  | .const (.bool b)=>match b with
   |true=>ex X x A S kn ke kr
   |false=>ex X y A S kn ke kr
  |_=>none
 | .region id ops draw,_,S,kn,_,_=>match X.regs id with
  |none=>KI X id ops draw S kn
  |some cut=>(KI X id ops draw S λS'=>xh V cut S')>>=λv=>kn (bi V cut v)
 | .scope c,A,S,kn,ke,kr=>match X.jumps (cF c)with
  |none=>ex X c A S kn (mC ke) kr
  |some (l,la)=>ex X c A S kn (λid S'=>match Ph id (1000000+l)with
   |true=>match xh V la.cut S' with
    |none=>none
    |some v=>la.F v>>=λout=>qt (cJ X.sh []) la.alts out λa=>match a with
     | .norm=>λ_=>none
     | .ret=>λv=>kr v
     | .exit id=>λv=>ke id (bi V (X.sh.exits id) v)
   |false=>mC ke id S') kr
 | .loop b,_,S,_,ke,kr=>match X.loops (cF b)with
  |none=>none
  |some la=>match xh V la.cut S with
   |none=>none
   |some v=>la.F v>>=λout=>qt (cJ X.sh []) la.alts out λa=>match a with
    | .norm=>λ_=>none
    | .ret=>λv=>kr v
    | .exit id=>λv=>ke id (bi V (X.sh.exits id) v)
 |_,_,_,_,_,_=>none
noncomputable def exL(X:Xc V)(b:Code)(cut:Cut V.ι)(alts:List Alt)(F:HL V.N cut.tys->Option (vc (cJ X.sh []) alts))(v:HL V.N cut.tys):Option (vc (cJ X.sh []) alts):=
 ex X b _ (bi V cut v)
  (λS'=>match xh V cut S' with
    |some v=>F v
    |none=>none)
  (mC λid S'=>match xh V (X.sh.exits id) S' with
    |some v=>inj (cJ X.sh []) alts (.exit id) v
    |none=>none)
  (λv=>inj (cJ X.sh []) alts .ret v)
noncomputable def exJ(X:Xc V)(b:Code)(l:Nat)(cut:Cut V.ι)(alts:List Alt)(F:HL V.N cut.tys->Option (vc (cJ X.sh []) alts))(v:HL V.N cut.tys):Option (vc (cJ X.sh []) alts):=
 ex X b _ (bi V cut v)
  (λ_=>none)
  (λid S'=>match Ph id (1000000+l)with
    |true=>match xh V cut S' with
     |some v=>F v
     |none=>none
    |false=>mC (λid S'=>match xh V (X.sh.exits id) S' with
     |some v=>inj (cJ X.sh []) alts (.exit id) v
     |none=>none) id S')
  (λv=>inj (cJ X.sh []) alts .ret v)
def ea(C:Ctx)(c:Code)(S:ab)(Q:Exit->ab->Prop):Prop:=
 ∀(E:Env) (M:Mem) (a:Act) (w:World),Sim C E M S a w->∀(b:Frame) (k:List Item) (cs:List Frame),
  ∃e a' w',(∃S' E' M',Q e S'/\Sim C E' M' S' a' w')/\Arrives C.P (lone (b.at a (.code c:: .inLoop c::k)) cs w) b k cs e a' w'
theorem ea.loop{C:Ctx}{c:Code}{S:ab}{Q:Exit->ab->Prop}(h:ea C c S Q):AWp C (.loop c) S Q:=λE M a w hs b k cs=>
 let⟨e,a',w',hq,harr⟩:=h E M a w hs b k cs
 ⟨e,a',w',hq, .of_steps (.one step_loop) harr⟩
theorem ea.ent{C:Ctx}{c:Code}{S S':ab}{Q:Exit->ab->Prop}(he:Ent S S')(h:ea C c S' Q):ea C c S Q:=λE M a w hs=>
 let⟨E',M',hs'⟩:=he C E M a w hs
 h E' M' a w hs'
theorem ea.round{C:Ctx}{c:Code}{S:ab}{Q:Exit->ab->Prop}(h:AWp C c S (J7 (λS'=>ea C c S' Q) Q)):ea C c S Q:=by
 intro E M a w hs b k cs
 obtain⟨e,a₁,w₁,⟨S₁,E₁,M₁,hq,hs₁⟩,harr⟩:=h E M a w hs b (.inLoop c::k) cs
 cases e with
 |normal=>
  obtain⟨e₂,a₂,w₂,hq₂,harr₂⟩:=hq E₁ M₁ a₁ w₁ hs₁ b k cs
  exact⟨e₂,a₂,w₂,hq₂, .of_steps (Steps.trans harr (.one step_inLoop)) harr₂⟩
 |exit id=>exact⟨_,a₁,w₁,⟨S₁,E₁,M₁,hq,hs₁⟩, .pass (x:= .inLoop c) rfl (λ_ _=> .inl (by simp)) harr⟩
 |goto l=>exact⟨_,a₁,w₁,⟨S₁,E₁,M₁,hq,hs₁⟩, .pass (x:= .inLoop c) rfl (λ_ _=> .inl (by simp)) harr⟩
 |ret=>exact⟨_,a₁,w₁,⟨S₁,E₁,M₁,hq,hs₁⟩, .pass (x:= .inLoop c) rfl (λ_ _=> .inl (by simp)) harr⟩
 |panic ch=>exact⟨_,a₁,w₁,⟨S₁,E₁,M₁,hq,hs₁⟩, .pass (x:= .inLoop c) rfl (λ_ _=> .inl (by simp)) harr⟩
 |outgrown=>exact⟨_,a₁,w₁,⟨S₁,E₁,M₁,hq,hs₁⟩, .pass (x:= .inLoop c) rfl (λ_ _=> .inl (by simp)) harr⟩
def u4(C:Ctx)(x rest:Code)(S:ab)(Q:Exit->ab->Prop):Prop:=
 ∀(E:Env) (M:Mem) (a:Act) (w:World),Sim C E M S a w->∀(b:Frame) (k:List Item) (cs:List Frame),
  ∃e a' w',(∃S' E' M',Q e S'/\Sim C E' M' S' a' w')/\Arrives C.P (lone (b.at a (.code rest:: .inScope x::k)) cs w) b k cs e a' w'
def J6(l:Nat)(J:ab->Prop)(Q:Exit->ab->Prop):Exit->ab->Prop
 | .goto l',S=>l'=l/\J S
 |e,S=>Q e S
theorem u4.ent{C:Ctx}{x rest:Code}{S S':ab}{Q:Exit->ab->Prop}(he:Ent S S')(h:u4 C x rest S' Q):u4 C x rest S Q:=λE M a w hs=>
 let⟨E',M',hs'⟩:=he C E M a w hs
 h E' M' a w hs'
theorem u4.mono{C:Ctx}{x rest:Code}{S:ab}{Q Q':Exit->ab->Prop}(h:u4 C x rest S Q)(hq:∀e S,Q e S->Q' e S):u4 C x rest S Q':=λE M a w hs b k cs=>
 let⟨e,a',w',⟨S',E',M',hq',hs'⟩,harr⟩:=h E M a w hs b k cs
 ⟨e,a',w',⟨S',E',M',hq e S' hq',hs'⟩,harr⟩
theorem u4.pass{C:Ctx}{x rest:Code}{l:Nat}{S:ab}{Q:Exit->ab->Prop}(hf:findLabel x l=some rest)(h:AWp C rest S (J6 l (λS'=>u4 C x rest S' Q) Q)):u4 C x rest S Q:=by
 intro E M a w hs b k cs
 have hg:gotoIn l (.inScope x::k)=some (.code rest:: .inScope x::k):=by simp[gotoIn,hf]
 obtain⟨e,a₁,w₁,⟨S₁,E₁,M₁,hq,hs₁⟩,harr⟩:=h E M a w hs b (.inScope x::k) cs
 cases e with
 |normal=>exact⟨.normal,a₁,w₁,⟨S₁,E₁,M₁,hq,hs₁⟩,Steps.trans harr (.one step_inScope)⟩
 |exit id=>exact⟨.exit id,a₁,w₁,⟨S₁,E₁,M₁,hq,hs₁⟩,λk' hk=>harr k' (by simp[exitTo,hk])⟩
 |goto l'=>
  obtain⟨rfl,hJ⟩:=hq
  obtain⟨e₂,a₂,w₂,hq₂,harr₂⟩:=hJ E₁ M₁ a₁ w₁ hs₁ b k cs
  exact⟨e₂,a₂,w₂,hq₂, .of_steps (harr _ hg) harr₂⟩
 |ret=>exact⟨_,a₁,w₁,⟨S₁,E₁,M₁,hq,hs₁⟩,harr⟩
 |panic ch=>exact⟨_,a₁,w₁,⟨S₁,E₁,M₁,hq,hs₁⟩,harr⟩
 |outgrown=>exact⟨_,a₁,w₁,⟨S₁,E₁,M₁,hq,hs₁⟩,harr⟩
theorem no{C:Ctx}{x rest:Code}{l:Nat}{S:ab}{Q:Exit->ab->Prop}(hf:findLabel x l=some rest)(h:AWp C x S (J6 l (λS'=>u4 C x rest S' Q) Q)):AWp C (.scope x) S Q:=by
 intro E M a w hs b k cs
 have hg:gotoIn l (.inScope x::k)=some (.code rest:: .inScope x::k):=by simp[gotoIn,hf]
 obtain⟨e,a₁,w₁,⟨S₁,E₁,M₁,hq,hs₁⟩,harr⟩:=h E M a w hs b (.inScope x::k) cs
 cases e with
 |normal=>exact⟨.normal,a₁,w₁,⟨S₁,E₁,M₁,hq,hs₁⟩, .head step_scope (Steps.trans harr (.one step_inScope))⟩
 |exit id=>exact⟨.exit id,a₁,w₁,⟨S₁,E₁,M₁,hq,hs₁⟩,λk' hk=> .head step_scope (harr k' (by simp[exitTo,hk]))⟩
 |goto l'=>
  obtain⟨rfl,hJ⟩:=hq
  obtain⟨e₂,a₂,w₂,hq₂,harr₂⟩:=hJ E₁ M₁ a₁ w₁ hs₁ b k cs
  exact⟨e₂,a₂,w₂,hq₂, .of_steps (.head step_scope (harr _ hg)) harr₂⟩
 |ret=>exact⟨_,a₁,w₁,⟨S₁,E₁,M₁,hq,hs₁⟩, .of_steps (.one step_scope) harr⟩
 |panic ch=>exact⟨_,a₁,w₁,⟨S₁,E₁,M₁,hq,hs₁⟩, .of_steps (.one step_scope) harr⟩
 |outgrown=>exact⟨_,a₁,w₁,⟨S₁,E₁,M₁,hq,hs₁⟩, .of_steps (.one step_scope) harr⟩
theorem mV(l:Nat):PQ (1000000+l) 1000000=false:=by
 cases h:PQ (1000000+l) 1000000 with
 |false=>rfl
 |true=>rw[P8]at h;omega
theorem ek{A:Type}{ke:Nat->TS V.N->Option A}{id:Nat}{S:TS V.N}{r:A}(h:mC ke id S=some r):PQ id 1000000=true/\ke id S=some r:=by
 unfold mC at h
 split at h
 ·exact⟨‹_›,h⟩
 ·cases h
theorem gK{A:Type}{ke:Nat->TS V.N->Option A}{l:Nat}{S:TS V.N}{r:A}(h:mC ke (1000000+l) S=some r):False:=by
 have:=(ek h).1
 rw[mV]at this;cases this
structure Nu (sh:bc V) {A:Type} (kn:TS V.N->Option A) (ke:Nat->TS V.N->Option A) (kr:HL V.N sh.rcut.tys->Option A) (r:A) (Q:Exit->ab->Prop):Prop where
 norm:∀S σ,kn S=some r->Ent σ (az V S)->Q .normal σ
 exit:∀id S σ,PQ id 1000000=true->ke id S=some r->Ent σ (az V S)->Q (.exit id) σ
 jump:∀l S σ,ke (1000000+l) S=some r->Ent σ (az V S)->Q (.goto l) σ
 ret:∀v σ,kr v=some r->Ent σ (az V (bi V sh.rcut v))->Q .ret σ
def eL(sh:bc V)(alts:List Alt)(out:vc (cJ sh []) alts)(e:Exit)(σ:ab):Prop:=match e with
 | .exit id=>PQ id 1000000=true/\∃v:HL V.N (sh.exits id).tys,inj (cJ sh []) alts (.exit id) v=some out/\Ent σ (az V (bi V (sh.exits id) v))
 | .ret=>∃v:HL V.N sh.rcut.tys,inj (cJ sh []) alts .ret v=some out/\Ent σ (az V (bi V sh.rcut v))
 |_=>False
def bC(C:Ctx)(b:Code){sh:bc V}(la:yd V sh):Prop:=∀v out,la.F v=some out->ea C b (az V (bi V la.cut v)) (eL sh la.alts out)
def sK(C:Ctx)(x:Code)(l:Nat){sh:bc V}(la:yd V sh):Prop:=
 ∃rest,findLabel x l=some rest/\∀v out,la.F v=some out->u4 C x rest (az V (bi V la.cut v)) (eL sh la.alts out)
def LOk(C:Ctx)(X:Xc V):Code->Prop
 | .seq x y=>LOk C X x/\LOk C X y
 | .block _ x=>LOk C X x
 | .scope x=>LOk C X x/\∀l la,X.jumps (cF x)=some (l,la)->sK C x l la
 | .cond _ x y=>LOk C X x/\LOk C X y
 | .loop b=>∀la,X.loops (cF b)=some la->bC C b la
 |_=>True
theorem iM{P:Program}{N:Nat->Prop}{nm:Nat->Nat}{all:List Oper}:∀{os:List Oper} {S:ab} {tr:List Tr1} {k k':ab->List Tr1->Prop},(∀S tr,k S tr->k' S tr)->je P N nm all os S tr k->je P N nm all os S tr k'
 |[],S,tr,k,k',hk,h=>hk _ _ h
 |o::os,S,tr,k,k',hk,h=>by
  simp only[je]at h⊢
  obtain⟨hd,h⟩:=h
  refine⟨hd,?_⟩
  cases hg:o.guard with
  |none=>
   simp only[hg]at h⊢
   exact kv (λe ⟨h1,h2⟩=>⟨h1,iM hk h2⟩) h
  |some g=>
   obtain⟨j,want⟩:=g
   simp only[hg]at h⊢
   split at h
   ·exact⟨λe=>kv (λe ⟨h1,h2⟩=>⟨h1,iM hk h2⟩) (h.1 e),λe=>iM hk (h.2 e)⟩
   ·exact h.elim
def NJ(Q:Exit->ab->Prop):Exit->ab->Prop
 | .goto _,_=>False
 |e,S=>Q e S
theorem Am{C:Ctx}{c:Code}{S:ab}{Q:Exit->ab->Prop}(h:AWp C c S (NJ Q)):AWp C (.scope c) S Q:=λE M a w hs=>
 wp_scope_straight (wp_mono (h E M a w hs) λe a' w'=>by
  rintro⟨S',E',M',hq,hs'⟩
  cases e with
  |goto l=>exact hq.elim
  |_=>exact⟨S',E',M',hq,hs'⟩)
theorem mX{C:Ctx}{X:Xc V}(hP:C.P=X.P)(hn:C.N=X.n/\Fx C X.pre)(hm:X.P.follows .mixedOrders=true)(hcall:aj X.P X.call):∀(c:Code) (A:Type) (S:TS V.N) (kn:TS V.N->Option A) (ke:Nat->TS V.N->Option A)
 (kr:HL V.N X.sh.rcut.tys->Option A) (r:A) (Q:Exit->ab->Prop),LOk C X c->ex X c A S kn ke kr=some r->Nu X.sh kn ke kr r Q->AWp C c (az V S) Q:=by
 intro c
 induction c with
 |skip=>intro A S kn ke kr r Q _ h hp;exact .skip (hp.norm S _ h (Ent.refl _))
 |label l=>intro A S kn ke kr r Q _ h hp;exact .label (hp.norm S _ h (Ent.refl _))
 |exit id=>
  intro A S kn ke kr r Q _ h hp
  simp only[ex]at h
  obtain⟨h1,h2⟩:=ek h
  exact .exit (hp.exit id S _ h1 h2 (Ent.refl _))
 |goto l=>intro A S kn ke kr r Q _ h hp;exact .goto (hp.jump l S _ h (Ent.refl _))
 |ret=>
  intro A S kn ke kr r Q _ h hp
  simp only[ex]at h
  split at h
  ·rename_i v hv;exact .ret (hp.ret v _ h (db hv))
  ·cases h
 |seq x y ihx ihy=>
  intro A S kn ke kr r Q hl h hp
  obtain⟨hlx,hly⟩:=hl
  simp only[ex]at h
  split at h
  ·refine .seq (ihx A S _ ke kr r _ hlx h ⟨λS' σ hk he=> ?_,hp.exit,hp.jump,λv σ hk he=>hp.ret v σ hk he⟩)
   exact .ent he (ihy A S' kn ke kr r Q hly hk hp)
  ·rename_i cut alts hj
   obtain⟨out,h1,h2⟩:=aS h
   refine .seq (ihx _ S _ _ _ out _ hlx h1 ⟨λS' σ hk he=> ?_,λid S' σ hb hk he=> ?_,λl S' σ hk he=> ?_,λv σ hk he=> ?_⟩)
   ·split at hk
    ·rename_i v hv
     rw[dc hk]at h2
     exact .ent (Ent.trans he (db hv)) (ihy A _ kn ke kr r Q hly h2 hp)
    ·cases hk
   ·split at hk
    ·rename_i v hv
     rw[dc hk]at h2
     exact hp.exit id _ σ hb h2 (Ent.trans he (db hv))
    ·cases hk
   ·split at hk
    ·rename_i v hv
     rw[dc hk]at h2
     exact hp.jump l _ σ h2 (Ent.trans he (db hv))
    ·cases hk
   ·rw[dc hk]at h2
    exact hp.ret v σ h2 he
 |block id x ih=>
  intro A S kn ke kr r Q hl h hp
  simp only[ex]at h
  split at h
  ·rename_i hb
   refine .block (ih A S kn _ kr r _ hl h ⟨λS' σ hk he=>hp.norm S' σ hk he,λid' S' σ hb' hk he=> ?_,λl S' σ hk he=> ?_,λv σ hk he=>hp.ret v σ hk he⟩)
   ·simp only[xf]
    split at hk
    ·rename_i e;rw[RS e];exact hp.norm S' σ hk he
    ·rename_i e;rw[RR e];exact hp.exit id' S' σ hb' hk he
   ·simp only[xf]
    rw[RR (λe=>by rw[<-e,mV]at hb;cases hb)]at hk
    exact hp.jump l S' σ hk he
  ·cases h
 |cond c x y ihx ihy=>
  intro A S kn ke kr r Q hl h hp
  obtain⟨hlx,hly⟩:=hl
  simp only[ex]at h
  split at h
  ·rename_i t
   split at h
   ·rename_i b hb
    have hev:ev (az V S) (.tmp t)= .d (.v (.bool b)):=by
     rw[am]
     simp only[tev,TS.get,hb,Pw,ao,aL]
    have hset:∀b',b=b'->Ent (az V S) (az V (setB S t b')):=λb' e C E M a w hs=>⟨E,M,sr (by rw[hb,e]) hs⟩
    cases b with
    |true=>
     rw[RS rfl]at h
     exact .cond hev (λ_=> .ent (hset true rfl) (ihx A _ kn ke kr r Q hlx h hp)) (λe=>by cases e)
    |false=>
     rw[RR (by simp)]at h
     exact .cond hev (λe=>by cases e) (λ_=> .ent (hset false rfl) (ihy A _ kn ke kr r Q hly h hp))
   ·cases h
  ·rename_i b
   have hev:ev (az V S) (.const (.bool b))= .d (.v (.bool b)):=rfl
   cases b with
   |true=>exact .cond hev (λ_=>ihx A _ kn ke kr r Q hlx h hp) (λe=>by cases e)
   |false=>exact .cond hev (λe=>by cases e) (λ_=>ihy A _ kn ke kr r Q hly h hp)
  ·cases h
 |region id ops draw=>
  intro A S kn ke kr r Q _ h hp
  have key:∀{B:Type} (k:TS V.N->Option B) (s:B),KI X id ops draw S k=some s->(∀S' σ,k S'=some s->Ent σ (az V S')->Q .normal σ)->AWp C (.region id ops draw) (az V S) Q:=by
   intro B k s hr hq
   cases draw with
   |false=>
    simp only[KI]at hr
    rw[<-hP,<-hn.1]at hr
    intro E M a w hs
    refine wp_region ?_
    have:=pB (C:=C) (ops:=ops) (Q:=λe a' w'=>∃S' E' M',Q e S'/\Sim C E' M' S' a' w') (hP▸hcall) hn.2 ops.toList 0 S k E M a w (by simp) hr hs
     λS' E' M' a' w' hk hs'=>⟨_,E',M',hq S' _ hk (Ent.refl _),hs'⟩
    have e:(P9 ops.toList.length).map (0+ ·)=P9 ops.size:=by simp
    rw[e]at this
    exact this
   |true=>
    simp only[KI]at hr
    have one:∀(ops:Array Oper),Mw X ops S k=some s->je C.P C.wr X.nm ops.toList ops.toList (az V S) [] (λS' tr=>xe ops.toList tr=true/\Q .normal S'):=by
     intro ops hr
     simp only[Mw]at hr
     rw[hP]
     have h2:=pA (W:=C.wr) hcall (λo ho=>rk hn.2 (by rw[hn.1];exact ho)) ops.toList S (az V S) [] _ hr (Rl.refl S)
     refine iM (λσ' tr' ⟨S',hrl,hk⟩=> ?_) h2
     split at hk
     ·rename_i hd;exact⟨hd,hq S' σ' hk hrl.ent⟩
     ·cases hk
    have tree:∀(t:PT) (ops:Array Oper),KH X S k t ops=some s->PT.ok C X.nm (az V S) (Q .normal) t ops:=by
     intro t
     induction t with
     |leaf=>intro ops hr;exact one ops hr
     |node i j ta tb iha ihb=>
      intro ops hr
      simp only[KH]at hr
      split at hr
      ·rename_i hf
       obtain⟨h1,h2⟩:=sR hr
       simp only[xH,Oy,Qy,P8]at hf
       obtain⟨⟨f1,f2⟩,f3⟩:=hf
       exact⟨⟨(λe=>by rw[e,Qo]at f1;cases f1),f2,f3⟩,iha _ h1,ihb _ h2⟩
      ·cases hr
    exact .drawT X.nm (X.pair id) (by rw[hP];exact hm) (tree _ _ hr)
  simp only[ex]at h
  split at h
  ·exact key kn r h λS' σ hk he=>hp.norm S' σ hk he
  ·rename_i cut _
   obtain⟨v,h1,h2⟩:=aS h
   exact key _ v h1 λS' σ hk he=>hp.norm _ σ h2 (Ent.trans he (db hk))
 |scope x ih=>
  intro A S kn ke kr r Q hl h hp
  simp only[ex]at h
  split at h
  ·exact Am (ih A S kn _ kr r _ hl.1 h ⟨λS' σ hk he=>hp.norm S' σ hk he,λid' S' σ hb hk he=>hp.exit id' S' σ hb (ek hk).2 he,λl S' σ hk he=>(gK hk).elim,λv σ hk he=>hp.ret v σ hk he⟩)
  ·rename_i l la hj
   obtain⟨rest,hf,hok⟩:=hl.2 l la hj
   refine no hf (ih A S kn _ kr r _ hl.1 h ⟨λS' σ hk he=>hp.norm S' σ hk he,λid' S' σ hb hk he=> ?_,λl' S' σ hk he=> ?_,λv σ hk he=>hp.ret v σ hk he⟩)
   ·split at hk
    ·rename_i e
     have:=O2 e
     rw[this,mV]at hb;cases hb
    ·exact hp.exit id' S' σ hb (ek hk).2 he
   ·split at hk
    ·rename_i e
     have e:=O2 e
     refine⟨by omega,?_⟩
     split at hk
     ·cases hk
     ·rename_i v hv
      obtain⟨out,h1,h2⟩:=aS hk
      refine .ent (Ent.trans he (db hv)) ((hok v out h1).mono λe σ hq=> ?_)
      unfold eL at hq
      split at hq
      ·obtain⟨hb,w,hw1,hw2⟩:=hq
       rw[dc hw1]at h2
       exact hp.exit _ _ σ hb h2 hw2
      ·obtain⟨w,hw1,hw2⟩:=hq
       rw[dc hw1]at h2
       exact hp.ret w σ h2 hw2
      ·exact hq.elim
    ·exact(gK hk).elim
 |loop b ih=>
  intro A S kn ke kr r Q hl h hp
  simp only[ex]at h
  split at h
  ·cases h
  ·rename_i la hla
   split at h
   ·cases h
   ·rename_i v hv
    obtain⟨out,h1,h2⟩:=aS h
    refine .ent (db hv) ((ea.loop (hl la hla v out h1)).mono λe σ hq=> ?_)
    unfold eL at hq
    split at hq
    ·obtain⟨hb,w,hw1,hw2⟩:=hq
     rw[dc hw1]at h2
     exact hp.exit _ _ σ hb h2 hw2
    ·obtain⟨w,hw1,hw2⟩:=hq
     rw[dc hw1]at h2
     exact hp.ret w σ h2 hw2
    ·exact hq.elim
 |_=>intro A S kn ke kr r Q _ h hp;simp only[ex]at h;cases h
theorem aI{C:Ctx}{X:Xc V}(hP:C.P=X.P)(hn:C.N=X.n/\Fx C X.pre)(hm:X.P.follows .mixedOrders=true)(hcall:aj X.P X.call){b:Code}(hl:LOk C X b){cut:Cut V.ι}{alts:List Alt}
 {F:HL V.N cut.tys->Option (vc (cJ X.sh []) alts)}(ih:∀v out,F v=some out->ea C b (az V (bi V cut v)) (eL X.sh alts out)){v:HL V.N cut.tys}{out:vc (cJ X.sh []) alts}
 (h:exL X b cut alts F v=some out):ea C b (az V (bi V cut v)) (eL X.sh alts out):=by
 refine ea.round (mX hP hn hm hcall b _ _ _ _ _ out _ hl h ⟨λS' σ hk he=> ?_,λid S' σ hb hk he=> ?_,λl S' σ hk he=>(gK hk).elim,λv σ hk he=> ?_⟩)
 ·split at hk
  ·rename_i w hw;exact .ent (Ent.trans he (db hw)) (ih w out hk)
  ·cases hk
 ·have hk:=(ek hk).2
  split at hk
  ·rename_i w hw;exact⟨hb,w,hk,Ent.trans he (db hw)⟩
  ·cases hk
 ·exact⟨v,hk,he⟩
theorem tO{C:Ctx}{X:Xc V}(hP:C.P=X.P)(hn:C.N=X.n/\Fx C X.pre)(hm:X.P.follows .mixedOrders=true)(hcall:aj X.P X.call){x b:Code}{l:Nat}(hf:findLabel x l=some b)(hl:LOk C X b){cut:Cut V.ι}{alts:List Alt}
 {F:HL V.N cut.tys->Option (vc (cJ X.sh []) alts)}(ih:∀v out,F v=some out->u4 C x b (az V (bi V cut v)) (eL X.sh alts out)){v:HL V.N cut.tys}{out:vc (cJ X.sh []) alts}
 (h:exJ X b l cut alts F v=some out):u4 C x b (az V (bi V cut v)) (eL X.sh alts out):=by
 refine u4.pass hf (mX hP hn hm hcall b _ _ _ _ _ out _ hl h ⟨λS' σ hk he=>(by cases hk),λid S' σ hb hk he=> ?_,λl' S' σ hk he=> ?_,λv σ hk he=> ?_⟩)
 ·split at hk
  ·rename_i e
   have:=O2 e
   rw[this,mV]at hb;cases hb
  ·have hk:=(ek hk).2
   split at hk
   ·rename_i w hw;exact⟨hb,w,hk,Ent.trans he (db hw)⟩
   ·cases hk
 ·split at hk
  ·rename_i e
   have e:=O2 e
   refine⟨by omega,?_⟩
   split at hk
   ·rename_i w hw;exact .ent (Ent.trans he (db hw)) (ih w out hk)
   ·cases hk
  ·exact(gK hk).elim
 ·exact⟨v,hk,he⟩
end
end Go.Tx
end
section
namespace Go.Tx
open Go.Awp
variable [Inhabited GMem]
def Ae(P:Program)(rs:List ResultVar)(r:H)(own':List (Nat×Own))(e:Exit)(S:ab):Prop:=
 (e= .normal\/e= .ret)/\∃S',Ent S S'/\∃h,IB P S' rs=some h/\H.le h r/\∀n o,gt own' n=some o->S'.own? n=some o
theorem qr{P:Program}{f:FuncId}{fn:Func}{c:Code}{args:List H}{own own':List (Nat×Own)}{r:H}(hf:P.funcs[f]?=some fn)(hb:fn.body=some c)
 (hname:(fn.name != "runtime.NumGoroutine")=true)(hn:args.length<=fn.ntmps)
 (h:∀C:Ctx,C.P=P->C.N=fn.ntmps/\C.fix=[]->AWp C c ⟨jE 0 args,qZ own⟩ (Ae P fn.results.toList r own')):c8 P f args own r own':=by
 refine⟨by simp[dS,hf,hb,hname],λE M w vs hgm hm how hvs=> ?_⟩
 refine calls_of_wp hf hb ?_
 let C:Ctx:=⟨P,fn.ntmps,w,M,E,mO E w own,hgm,λb ⟨n,o,hn,hb⟩=>((how.ok n o hn).block hb).2,[],[]⟩
 have hs:Sim C E M ⟨jE 0 args,qZ own⟩ {tmps:=vs++Qj (fn.ntmps-vs.size) undef,defers:=[]} w:=by
  have hvs1:=hvs.1
  refine{size:=by simp[C];omega,defers:=rfl,fixed:=λp hp=>(by cases hp),tmps:=λt x hx=> ?_,mem:=hm,own:=λn o ho=> ?_,apart:=λn m o o' b hne ho ho'=> ?_,home:=λn o b ho hb=> ?_,m0:=Mem.le_refl M,mnew:=λb o v hv=> .inl hv,frame:=λ_ _ _=>rfl,grows:=OO _,os:=rfl,tape:=rfl,output:=rfl,env:=λ_ _=>rfl}
  ·obtain⟨_,h2⟩:=tI args 0 t x hx
   simp only[Rf]at h2
   have hlt:t<vs.size:=by have:=(Ol.1 h2).1;omega
   exact⟨vs[t],by simp[Qw hlt,hlt],hvs.2 t _ x (OU hlt) h2⟩
  ·have ho':gt own n=some o:=by rw[<-fV];exact ho
   exact how.ok n o ho'
  ·have h1:gt own n=some o:=by rw[<-fV];exact ho
   have h2:gt own m=some o':=by rw[<-fV];exact ho'
   exact how.apart n m o o' b hne h1 h2
  ·have h1:gt own n=some o:=by rw[<-fV];exact ho
   exact .inl ⟨n,o,h1,hb⟩
 refine wp_mono (h C rfl ⟨rfl,rfl⟩ E M _ w hs) ?_
 rintro e a' w' ⟨S',E',M',⟨he,S'',hent,hh,hres,hle,hown⟩,hs'⟩
 obtain⟨E2,M2,hs2⟩:=hent C E' M' a' w' hs'
 obtain⟨v,hrun,hrep⟩:=EZ (C:=C) hs2 hres
 have hpost:p9 E M own w v r own' E2 M2 w':=
  {rep:=hle _ _ _ hrep,owns:=⟨λn o ho=>hs2.own n o (hown n o ho),λn m o o' b hne h1 h2=>hs2.apart n m o o' b hne (hown n o h1) (hown m o' h2)⟩,mle:=hs2.m0,mem:=hs2.mem,mnew:=hs2.mnew,home:=λn o b ho hb=>hs2.home n o b (hown n o ho) hb,frame:=hs2.frame,grows:=hs2.grows,os:=hs2.os,tape:=hs2.tape,output:=hs2.output,env:=hs2.env}
 rcases he with rfl|rfl
 ·exact⟨hs2.defers,v,hrun,v,E2,M2,rfl,hpost⟩
 ·exact⟨hs2.defers,v,hrun,v,E2,M2,rfl,hpost⟩
section
variable (V:jj)
structure Sig where
 params:List (Pt V.ι)
 objs:List (Nat×OPt V.ι):=[]
 rcut:Cut V.ι
 rvars:List ResultVar
 keep:List Nat:=[]
variable {V}
def Sig.tys(sig:Sig V):List (Ty V.ι):=CI sig.params++Cs sig.objs
def yL{α:Type}:Nat->List α->List (Nat×α)
 |_,[]=>[]
 |i,x::r=>(i,x)::yL (i+1) r
def bj(sig:Sig V)(v:HL V.N sig.tys):List (TV V.N)×List (Nat×TO V.N):=match bdL V sig.params (Kv sig.tys v)with
 |some (xs,ls)=>match bdO V sig.objs ls with
  |some os=>(xs,os)
  |none=>([],[])
 |none=>([],[])
def aE(sig:Sig V)(v:HL V.N sig.tys):TS V.N:={tmps:=yL 0 (bj sig v).1,own:=(bj sig v).2}
def IC(P:Program)(S:TS V.N):ResultVar->Option (TV V.N)
 | .tmp t=>gt S.tmps t
 | .cell a t=>match gt S.tmps a with
  |some (.bp n off)=>match bu P t with
   |some (ag,sz)=>match xZ V ag off sz (V.ty t) (S.own? n)with
    |some v=>some v
    |none=>match DW V (S.own? n)with
     |some cells=>yT V false ag sz (V.ty t) (cells.drop off)
     |none=>none
   |none=>none
  |_=>none
def CO(P:Program)(S:TS V.N):List ResultVar->Option (List (TV V.N))
 |[]=>some []
 |x::r=>match IC P S x,CO P S r with
  |some h,some l=>some (h::l)
  |_,_=>none
def Kx:List (TV V.N)->TV V.N
 |[x]=>x
 |l=> .tup l
def lS(P:Program)(sig:Sig V)(r:HL V.N sig.rcut.tys):Option (TV V.N):=(CO P (bi V sig.rcut r) sig.rvars).map Kx
def br(ω:Nat->Nat)(os:List (Nat×TO V.N)):List (Nat×Own):=os.filterMap λp=>(aZ V ω p.2).map λo=>(p.1,o)
def gY(sig:Sig V)(r:HL V.N sig.rcut.tys):List (Nat×TO V.N):=(bi V sig.rcut r).own.filter λp=>sig.keep.contains p.1
def bd(P:Program)(fid:FuncId)(sig:Sig V)(F:HL V.N sig.tys->Option (HL V.N sig.rcut.tys)):Prop:=
 ∀v r x,F v=some r->lS P sig r=some x->
  c8 P fid (encL V (aE sig v).len (bj sig v).1) (br (aE sig v).len (aE sig v).own) (ao V (bi V sig.rcut r).len x) (br (bi V sig.rcut r).len (gY sig r))
noncomputable def exF(X:Xc V)(sig:Sig V)(h:X.sh.rcut=sig.rcut)(c:Code)(v:HL V.N sig.tys):Option (HL V.N sig.rcut.tys):=
 ex X c _ (aE sig v) (λS=>xh V sig.rcut S) (λ_ _=>none) (λr=>some (h▸r))
theorem dE{α β:Type}{f:α->Option β}:∀{l:List (Nat×α)} {n:Nat} {y:β},gt (l.filterMap λp=>(f p.2).map λo=>(p.1,o)) n=some y->∃x,(n,x)∈l/\f x=some y
 |[],n,y,h=>by simp[gt]at h
 |(k,x)::r,n,y,h=>by
  rw[Qm]at h
  cases hx:f x with
  |none=>
   simp only[hx,QE]at h
   obtain⟨z,h1,h2⟩:=dE h
   exact⟨z,Ot _ h1,h2⟩
  |some z=>
   simp only[hx,OW,af]at h
   by_cases hk:k=n
   ·rw[RS hk]at h;cases h;subst hk;exact⟨x,Ox,hx⟩
   ·rw[RR hk]at h
    obtain⟨w,h1,h2⟩:=dE h
    exact⟨w,Ot _ h1,h2⟩
def fA:List Nat->Bool
 |[]=>true
 |x::r=> !r.contains x&&fA r
theorem jS{α:Type}:∀{l:List (Nat×α)} {n:Nat} {x:α},fA (l.map (·.1))=true->(n,x)∈l->gt l n=some x
 |[],n,x,_,h=>by cases h
 |(k,y)::r,n,x,hd,h=>by
  simp only[Ow,fA,Oy]at hd
  rw[af]
  rcases Oz.1 h with he|h
  ·simp only[OV]at he
   obtain⟨rfl,rfl⟩:=he
   rw[RS rfl]
  ·have:k≠n:=by
    intro e;subst e
    have h1:=hd.1
    have:k∈r.map (·.1):=OR h
    simp at h1
    simp at this
    exact h1 _ this.choose_spec
   rw[RR this]
   exact jS hd.2 h
theorem lR{P:Program}{S:TS V.N}:∀{rs:List ResultVar} {vs:List (TV V.N)},CO P S rs=some vs->
 ∃hs,iG P (az V S) rs=some hs/\hs.length=vs.length/\∀(i:Nat) (v:TV V.N),vs[i]?=some v->∃h,hs[i]?=some h/\H.le h (ao V S.len v)
 |[],vs,h=>by simp[CO]at h;subst h;exact⟨[],rfl,rfl,λi v hv=>by simp at hv⟩
 |x::r,vs,h=>by
  simp only[CO]at h
  split at h
  ·rename_i v l h1 h2
   simp at h;subst h
   obtain⟨hs,g1,g2,g3⟩:=lR h2
   have:∃y,oQ P (az V S) x=some y/\H.le y (ao V S.len v):=by
    cases x with
    |tmp t=>
     simp only[IC]at h1
     refine⟨(az V S).get t,rfl,?_⟩
     unfold ab.get
     rw[bR,h1]
     exact H.le.refl _
    |cell a t=>
     simp only[IC]at h1
     split at h1
     ·rename_i n off hn
      have hg:(az V S).get a= .bp n off:=by
       unfold ab.get
       rw[bR,hn];simp[ao]
      split at h1
      ·rename_i ag sz ht
       split at h1
       ·rename_i w hw
        simp only[Om]at h1;subst h1
        unfold xZ at hw
        split at hw
        ·rename_i i y hnn
         have hw':=ah hw;clear hw
         obtain⟨⟨e1,e2,e3,hot⟩,hw⟩:=hw'
         subst e1;subst e2;subst e3
         simp only[Om]at hw;subst hw
         have hb:DW V (S.own? n)=some ((V.cells i y).map λl=> .lf l.t l.x):=by rw[hnn];rfl
         have hl:(V.enc i y).length=V.sz i:=by rw[V.enc_cells,On,V.len_cells]
         refine⟨ao V S.len (.lf (.st i) y),?_,H.le.refl _⟩
         simp only[oQ,hg,gL hb,ht,jJ,eX,OZ,jP,On]
         rw[RS (by omega),O8 (by rw[On];omega),bA,c_]
        ·rename_i m e xs hnn
         have hw':=ah hw;clear hw
         obtain⟨⟨e1,e2,e3,hot⟩,hw⟩:=hw'
         subst e1;subst e2;subst e3
         simp only[Om]at hw;subst hw
         have ho1:=oL hnn
         have hl:=bH (V:=V) (.ar m e) xs
         refine⟨ao V S.len (.lf (.ar m e) xs),?_,H.le.refl _⟩
         simp only[oQ,hg,ho1,ht,eX,OZ,FW,On]
         rw[RS (by omega),O8 (by rw[On];omega),bA,c_]
        ·cases hw
       ·split at h1
        ·rename_i cells hc
         obtain⟨y,k1,k2,_⟩:=jU (ω:=S.len) h1
         rw[hO]at k1
         refine⟨y,?_,k2⟩
         simp only[oQ,hg,gL hc,ht,k1]
        ·cases h1
      ·cases h1
     ·cases h1
   obtain⟨y,y1,y2⟩:=this
   refine⟨y::hs,by simp only[iG,y1,g1],by simp[g2],λi w hw=> ?_⟩
   cases i with
   |zero=>simp at hw;subst hw;exact⟨y,rfl,y2⟩
   |succ i=>obtain⟨z,z1,z2⟩:=g3 i w (by simpa using hw);exact⟨z,by simpa using z1,z2⟩
  ·cases h
theorem ko{ω:Nat->Nat}:∀(l:List (TV V.N)) (i:Nat),jE i (encL V ω l)=(yL i l).map λp=>(p.1,ao V ω p.2)
 |[],i=>rfl
 |x::r,i=>by simp[encL,jE,yL,ko r (i+1)]
theorem An:∀{ps:List (Pt V.ι)} {ls ls':List (cj V.N)} {xs:List (TV V.N)},bdL V ps ls=some (xs,ls')->xs.length=ps.length
 |[],ls,ls',xs,h=>by simp[bdL]at h;rw[h.1];rfl
 |p::r,ls,ls',xs,h=>by
  simp only[bdL]at h
  split at h
  ·rename_i x l1 h1
   split at h
   ·rename_i ys l2 h2
    simp at h
    rw[<-h.1]
    simp[An h2]
   ·cases h
  ·cases h
theorem cC:∀{objs:List (Nat×OPt V.ι)} {ls:List (cj V.N)} {os:List (Nat×TO V.N)},bdO V objs ls=some os->os.map (·.1)=objs.map (·.1)
 |[],[],os,h=>by simp[bdO]at h;subst h;rfl
 |[],_::_,os,h=>by simp[bdO]at h
 |(c, .box oty ps)::r,ls,os,h=>by
  simp only[bdO]at h
  split at h
  ·split at h
   ·rename_i os' h2
    simp at h;subst h
    simp[cC h2]
   ·cases h
  ·cases h
 |(c, .st i)::r,[],os,h=>by simp[bdO]at h
 |(c, .vec te e)::r,[],os,h=>by simp[bdO]at h
 |(c, .st i)::r,⟨t,x⟩::ls,os,h=>by
  cases t<;>simp only[bdO]at h<;>first
   |(cases h;done)
   |(split at h
     ·split at h
      ·rename_i os' h2
       simp at h;subst h
       simp[cC h2]
      ·cases h
     ·cases h)
 |(c, .vec te e)::r,⟨t,x⟩::ls,os,h=>by
  cases t<;>simp only[bdO]at h<;>first
   |(cases h;done)
   |(split at h
     ·split at h
      ·rename_i os' h2
       simp at h;subst h
       simp[cC h2]
      ·cases h
     ·cases h)
 |(c, .dvec te e true)::r,[],os,h=>by simp[bdO]at h
 |(c, .dvec te e false)::r,[],os,h=>by simp[bdO]at h
 |(c, .dvec te e true)::r,⟨t,x⟩::ls,os,h=>by
  cases t<;>first
   |(simp[bdO]at h;done)
   |(rename_i t2;cases t2<;>first
    |(simp[bdO]at h;done)
    |(simp only[bdO]at h
      split at h
      ·split at h
       ·rename_i os' h2
        simp at h;subst h
        simp[cC h2]
       ·cases h
      ·cases h))
 |(c, .dvec te e false)::r,⟨t,x⟩::ls,os,h=>by
  cases t<;>simp only[bdO]at h<;>first
   |(cases h;done)
   |(split at h
     ·split at h
      ·rename_i os' h2
       simp at h;subst h
       simp[cC h2]
      ·cases h
     ·cases h)
 |(c, .que te e)::r,[],os,h=>by simp[bdO]at h
 |(c, .que te e)::r,⟨t,x⟩::ls,os,h=>by
  cases t<;>simp only[bdO]at h<;>first
   |(cases h;done)
   |(split at h
     ·split at h
      ·rename_i os' h2
       simp at h;subst h
       simp[cC h2]
      ·cases h
     ·cases h)
 |(c, .bar m e)::r,[],os,h=>by simp[bdO]at h
 |(c, .bar m e)::r,⟨t,x⟩::ls,os,h=>by
  cases t<;>simp only[bdO]at h<;>first
   |(cases h;done)
   |(split at h
     ·split at h
      ·rename_i os' h2
       simp at h;subst h
       simp[cC h2]
      ·cases h
     ·cases h)
 |(c, .maps te tk tv)::r,[],os,h=>by simp[bdO]at h
 |(c, .maps te tk tv)::r,⟨t,x⟩::ls,os,h=>by
  cases t<;>first
   |(simp[bdO]at h;done)
   |(rename_i t2;cases t2<;>first
    |(simp[bdO]at h;done)
    |(rename_i t3;cases t3<;>first
     |(simp[bdO]at h;done)
     |(simp only[bdO]at h
       split at h
       ·split at h
        ·rename_i os' h2
         simp at h;subst h
         simp[cC h2]
        ·cases h
       ·cases h)))
 |(c, .iter)::r,[],os,h=>by simp[bdO]at h
 |(c, .iter)::r,[⟨t,x⟩],os,h=>by
  cases t<;>simp[bdO]at h
 |(c, .iter)::r,⟨t,x⟩::⟨t2,x2⟩::ls,os,h=>by
  cases t<;>first
   |(simp[bdO]at h;done)
   |(cases t2<;>first
    |(simp[bdO]at h;done)
    |(rename_i ki;cases ki<;>first
     |(simp[bdO]at h;done)
     |(simp only[bdO]at h
       split at h
       ·rename_i os' h2
        simp at h;subst h
        simp[cC h2]
       ·cases h)))
 |(c, .miter cm k v)::r,[],os,h=>by simp[bdO]at h
 |(c, .miter cm k v)::r,[⟨t,x⟩],os,h=>by
  cases t<;>simp[bdO]at h
 |(c, .miter cm k v)::r,⟨t,x⟩::⟨t2,x2⟩::ls,os,h=>by
  cases t<;>first
   |(simp[bdO]at h;done)
   |(cases t2<;>first
    |(simp[bdO]at h;done)
    |(simp only[bdO]at h
      split at h
      ·split at h
       ·rename_i os' h2
        simp at h;subst h
        simp[cC h2]
       ·cases h
      ·cases h))
 |(c, .map tk tv)::r,[],os,h=>by simp[bdO]at h
 |(c, .map tk tv)::r,⟨t,x⟩::ls,os,h=>by
  cases t<;>simp only[bdO]at h<;>first
   |(cases h;done)
   |(split at h
     ·split at h
      ·rename_i os' h2
       simp at h;subst h
       simp[cC h2]
      ·cases h
     ·cases h)
theorem nt(c:Cut V.ι)(ls:List (cj V.N))(h:fA (c.objs.map (·.1))=true):fA ((build V c ls).own.map (·.1))=true:=by
 unfold build
 split
 ·split
  ·rename_i os ho
   simp only
   rw[cC ho];exact h
  ·rfl
 ·rfl
theorem m4{ω:Nat->Nat}:∀{os:List (Nat×TO V.N)} {n:Nat} {x:TO V.N} {o:Own},gt os n=some x->aZ V ω x=some o->gt (br ω os) n=some o
 |[],n,x,o,h,_=>by simp[gt]at h
 |(k,y)::r,n,x,o,h,ho=>by
  rw[af]at h
  unfold br
  rw[Qm]
  by_cases hk:k=n
  ·rw[RS hk]at h;cases h
   simp only[ho,OW,af]
   rw[RS hk]
  ·rw[RR hk]at h
   have ih:=m4 (ω:=ω) h ho
   unfold br at ih
   cases hy:aZ V ω y with
   |none=>simp only[hy,QE];exact ih
   |some z=>
    simp only[hy,OW,af]
    rw[RR hk];exact ih
theorem bk{X:Xc V}{sig:Sig V}(hsh:X.sh.rcut=sig.rcut){fid:FuncId}{fn:Func}{c:Code}(hf:X.P.funcs[fid]?=some fn)(hb:fn.body=some c)(hn:fn.ntmps=X.n)(hrs:fn.results.toList=sig.rvars)
 (hname:(fn.name != "runtime.NumGoroutine")=true)(hlen:QR sig.params.length X.n=true)(hm:X.P.follows .mixedOrders=true)(hcall:aj X.P X.call)
 (hdr:fA (sig.rcut.objs.map (·.1))=true)(hl:∀C:Ctx,C.P=X.P->C.N=X.n/\Fx C X.pre->LOk C X c){v:HL V.N sig.tys}{r:HL V.N sig.rcut.tys}(h:exF X sig hsh c v=some r):
 ∀x,lS X.P sig r=some x->
  c8 X.P fid (encL V (aE sig v).len (bj sig v).1) (br (aE sig v).len (aE sig v).own) (ao V (bi V sig.rcut r).len x) (br (bi V sig.rcut r).len (gY sig r)):=by
 obtain⟨params,objs,rcut,rvars,keep⟩:=sig
 simp only at hsh
 subst hsh
 intro x hx
 have hargs:(bj ⟨params,objs,X.sh.rcut,rvars,keep⟩ v).1.length<=X.n:=by
  have hp:params.length<=X.n:=Qe hlen
  unfold bj
  split
  ·rename_i xs ls h1
   split
   ·simp only;rw[An h1];exact hp
   ·simp
  ·simp
 refine qr hf hb hname (by rw[aK,hn];exact hargs) λC hP hN=> ?_
 have hent:Ent ⟨jE 0 (encL V (aE ⟨params,objs,X.sh.rcut,rvars,keep⟩ v).len (bj ⟨params,objs,X.sh.rcut,rvars,keep⟩ v).1),qZ (br (aE ⟨params,objs,X.sh.rcut,rvars,keep⟩ v).len (aE ⟨params,objs,X.sh.rcut,rvars,keep⟩ v).own)⟩
  (az V (aE ⟨params,objs,X.sh.rcut,rvars,keep⟩ v)):=by
  refine Ent.le (λt y hy=>⟨y,?_,H.le.refl _⟩) λn o ho=>⟨o,?_,OLe.refl _⟩
  ·rw[ko];exact hy
  ·rw[aH,PV]at ho
   obtain⟨o',ho',hoo⟩:=ho
   have:=m4 (os:=(aE ⟨params,objs,X.sh.rcut,rvars,keep⟩ v).own) ho' hoo
   unfold ab.own?
   rw[fV]
   exact this
 have hend:∀e σ,(e= .normal\/e= .ret)->Ent σ (az V (bi V X.sh.rcut r))->
  Ae X.P fn.results.toList (ao V (bi V X.sh.rcut r).len x) (br (bi V X.sh.rcut r).len (gY ⟨params,objs,X.sh.rcut,rvars,keep⟩ r)) e σ:=by
  intro e σ he hσ
  unfold lS at hx
  rw[OB]at hx
  obtain⟨vs,hvs,hone⟩:=hx
  obtain⟨hs,g1,g2,g3⟩:=lR hvs
  have hh:∃y,IB X.P (az V (bi V X.sh.rcut r)) fn.results.toList=some y/\H.le y (ao V (bi V X.sh.rcut r).len x):=by
   rw[hrs]
   unfold IB
   rw[g1]
   cases vs with
   |nil=>
    have:hs=[]:=OL (by simpa using g2)
    subst this;subst hone
    exact⟨.tup [],rfl,by simp only[Kx,ao,encL];exact H.le.refl _⟩
   |cons a l=>
    cases l with
    |nil=>
     cases hs with
     |nil=>simp at g2
     |cons y l'=>
      have:l'=[]:=OL (by simpa using g2)
      subst this;subst hone
      obtain⟨z,z1,z2⟩:=g3 0 a rfl
      simp at z1;subst z1
      exact⟨y,rfl,z2⟩
    |cons b l=>
     cases hs with
     |nil=>simp at g2
     |cons y l'=>
      cases l' with
      |nil=>simp at g2
      |cons y2 l2=>
       subst hone
       refine⟨.tup (y::y2::l2),rfl,?_⟩
       simp only[Kx,ao]
       refine xW (by rw[aK];exact g2) λi w hw=> ?_
       rw[encL_map,Oq,OB]at hw
       obtain⟨u,hu,rfl⟩:=hw
       exact g3 i u hu
  obtain⟨y,hy1,hy2⟩:=hh
  refine⟨he,_,hσ,y,hy1,hy2,λn o ho=> ?_⟩
  obtain⟨o',h1,h2⟩:=dE ho
  have h1:(n,o')∈(bi V X.sh.rcut r).own:=(Qr.1 h1).1
  have:=jS (nt X.sh.rcut _ hdr) h1
  rw[aH]
  unfold TS.own?
  unfold bi at *
  rw[this]
  exact h2
 refine .ent hent (mX hP ⟨by rw[hN.1,hn],λp hp=>(by rw[hN.2]at hp;cases hp)⟩ hm hcall c _ _ _ _ _ r _ (hl C hP ⟨by rw[hN.1,hn],λp hp=>(by rw[hN.2]at hp;cases hp)⟩) h ⟨λS σ hk he=> ?_,λid S σ _ hk he=>(by cases hk),λl S σ hk he=>(by cases hk),λw σ hk he=> ?_⟩)
 ·exact hend _ σ (.inl rfl) (Ent.trans he (db hk))
 ·have:w=r:=by simpa using hk
  subst this
  exact hend _ σ (.inr rfl) he
end
end Go.Tx
end
