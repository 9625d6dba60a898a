/-
  Texts of this claim, joined by a program of mine: what the theorem uses.
-/
import Derived.Test.YtpndmanbfleadaaGreatDoorPkD
import Derived.Scope
open Array renaming getElem?_append_left→PL,getElem?_eq_getElem→N4,replicate→Px,toList_inj→Pb
open Bool renaming and_eq_true→NH,false_eq_true→Oq,not_eq_true'→PN,not_false→O6,not_true→OY,or_eq_false_iff→O0
open Function renaming comp_apply→Pn
open List renaming all_cons→OQ,all_eq_true→NM,all_map→OZ,append_assoc→Oi,append_nil→Ox,cons_append→NQ,drop_append→Qy,drop_drop→OX,drop_eq_nil_of_le→Pe,drop_of_length_le→QH,drop_zero→N9,eq_nil_of_length_eq_zero→NV,eraseIdx_cons_succ→QB,ext_getElem?→Ot,filterMap_cons→PA,flatten_cons→Od,getElem?_append→QO,getElem?_cons_zero→O9,getElem?_drop→N7,getElem?_eq_some_iff→Nx,getElem?_map→NB,getElem?_range→O3,getElem?_replicate→P8,getElem?_set→Ol,getElem?_take→NO,length→Pv,length_append→NT,length_cons→Oj,length_drop→Oe,length_map→Nz,length_nil→OJ,length_replicate→Ph,length_set→Ow,length_take→Oa,map→QM,map_append→Of,map_congr_left→NZ,map_cons→NF,map_drop→OG,map_flatten→Qd,map_id→Q1,map_map→N0,map_nil→N_,map_replicate→PE,map_set→Pd,map_take→OE,mem_append_left→Pa,mem_append_right→Ps,mem_cons→NI,mem_cons_of_mem→NC,mem_cons_self→NG,mem_filter→PG,mem_map→N3,mem_map_of_mem→N1,mem_of_mem_take→Ou,mem_replicate→Qj,nil_append→NW,nodup_cons→OD,range→Pl,replicate→On,take_append→Qv,take_append_drop→OV,take_append_of_le_length→O2,take_of_length_le→Oh,take_take→Qh,take_zero→P0
open List.cons renaming injEq→OT
open Nat renaming add_zero→Oo,beq→Ov,beq_refl→PD,ble→P7,blt→O4,blt_eq→Pk,div_add_mod→PF,eq_of_beq_eq_true→Ob,le_of_ble_eq_true→Pr,le_refl→NY,min_eq_left→OO,mul_comm→Pc,mul_le_mul→P5,mul_le_mul_right→NR,sub_zero→Qu,succ_mul→N8,zero_add→N2
open Ne renaming symm→Oc
open Option renaming bind_eq_some_iff→O8,bind_some→O_,getD_some→OK,isSome_iff_exists→P3,isSome_map→Qo,map_eq_some_iff→NK,map_none→PU,map_some→N6
open Option.some renaming injEq→Ny
open Prod.mk renaming injEq→N5
noncomputable section
set_option linter.unusedSectionVars false
set_option linter.unusedSimpArgs false
section
namespace Go.Tx
open Go.Awp
variable [Inhabited GMem]
theorem Ent.le{S S':ab}(ht:∀t x,gt S'.tmps t=some x->∃y,gt S.tmps t=some y/\H.le y x)(ho:∀n o,S'.own? n=some o->∃o',S.own? n=some o'/\OLe o' o):Ent S S':=
 λ_ E M _ _ hs=>⟨E,M,Sim.le hs ht ho⟩
theorem kb{a b c:H}(h:H.le a b)(k:H.le b c):H.le a c:=λE M v x=>k E M v (h E M v x)
mutual
theorem wQ{n sz:Nat}{rows:List (List D)}:∀x:H,H.has n x=false->H.le (H.frz n sz rows x) x
 | .d x,_=>by simp only[H.frz];exact H.le.refl _
 | .junk,_=>by simp only[H.frz];exact H.le.refl _
 | .bp m o,_=>by simp only[H.frz];exact H.le.refl _
 | .vh m l,h=>by
  simp only[H.has]at h
  have:m≠n:=by intro e;subst e;simp at h
  simp only[H.frz]
  rw[Q5 (λe=>this e.1)]
  exact H.le.refl _
 | .ep m s i o,_=>by simp only[H.frz];exact H.le.refl _
 | .sv m s i o,_=>by simp only[H.frz];exact H.le.refl _
 | .mp m,_=>by simp only[H.frz];exact H.le.refl _
 | .np m b,_=>by simp only[H.frz];exact H.le.refl _
 | .sd m,_=>by simp only[H.frz];exact H.le.refl _
 | .agg cs,h=>by
  simp only[H.frz]
  simp only[H.has]at h
  exact kb (kA _) (EZ (H.frzL_len ..) (frzL_le cs h))
 | .tup cs,h=>by
  simp only[H.frz]
  simp only[H.has]at h
  exact xn (H.frzL_len ..) (frzL_le cs h)
 | .fn f a b,_=>by simp only[H.frz];exact H.le.refl _
theorem frzL_le{n sz:Nat}{rows:List (List D)}:∀l:List H,H.hasL n l=false->∀(i:Nat) (x:H),l[i]?=some x->∃y,(H.frzL n sz rows l)[i]?=some y/\H.le y x
 |[],_,i,x,hx=>by simp at hx
 |y::r,h,0,x,hx=>by
  rw[H.hasL,O0]at h
  simp at hx;subst hx
  exact⟨H.frz n sz rows y,by simp[H.frzL],wQ y h.1⟩
 |y::r,h,i+1,x,hx=>by
  rw[H.hasL,O0]at h
  obtain⟨z,h1,h2⟩:=frzL_le r h.2 i x (by simpa using hx)
  exact⟨z,by simpa[H.frzL]using h1,h2⟩
end
section
variable {V:i7}
theorem Av{S:TS V.N}{n:Nat}{te:TypeId}{e:Ty V.ι}{xs:List (den V.N e)}(hn:S.own? n=some (.vec te e xs)):(S.frz V n e xs).len=S.len:=by
 funext m
 unfold TS.len
 unfold TS.own? at hn⊢
 unfold TS.frz
 simp only[af]
 by_cases hm:n=m
 ·subst hm;rw[Q6 rfl,hn];rfl
 ·rw[Q5 hm,fK (sS V n e xs)]
  cases gt S.own m with
  |none=>rfl
  |some o=>cases o<;>rfl
theorem u6{S:TS V.N}{n:Nat}{te:TypeId}{e:Ty V.ι}{xs:List (den V.N e)}(hn:S.own? n=some (.vec te e xs))(v:TV V.N):
 H.le (H.frz n (tsz V.sz e) (xs.map λx=>aT V.sz V.enc e x) (an V S.len v)) (an V (S.frz V n e xs).len (Ft V n e xs v)):=by
 have other:∀v:TV V.N,H.le (H.frz n (tsz V.sz e) (xs.map λx=>aT V.sz V.enc e x) (an V S.len v)) (an V (S.frz V n e xs).len (if TV.has n v=true then .junk else v)):=by
  intro v
  split
  ·simp only[an];exact H.le.junk _
  ·rename_i hh
   have hh:TV.has n v=false:=by simpa using hh
   rw[Av hn]
   exact wQ _ (by rw[iF];exact hh)
 unfold Ft
 split
 ·rename_i m
  by_cases hm:m=n
  ·subst hm
   rw[Q6 rfl]
   simp only[an,aK,H.frz,dc hn,Nz,and_self,Q2]
   exact H.le.refl _
  ·rw[Q5 hm]
   simp only[an,H.frz]
   rw[Q5 (λe=>hm e.1),Av hn]
   exact H.le.refl _
 ·exact other v
theorem Gr{S:TS V.N}{n:Nat}{te:TypeId}{e:Ty V.ι}{xs:List (den V.N e)}(hn:S.own? n=some (.vec te e xs))(v:TV V.N):
 H.le (H.frz n (tsz V.sz e) (xs.map λx=>aT V.sz V.enc e x) (an V S.len v)) (an V (S.frz V n e xs).len (La V n e xs v)):=by
 unfold La
 split
 ·rename_i cs
  simp only[an]
  refine kb ?_ (rf _)
  have hp:∀(l:List H),(∀(i:Nat) (x:H),(encL V (S.frz V n e xs).len (cs.map (Ft V n e xs)))[i]?=some x->∃y,l[i]?=some y/\H.le y x)->l.length=cs.length->
   H.le (.agg l) (.agg (encL V (S.frz V n e xs).len (cs.map (Ft V n e xs)))):=λl h hl=>EZ (by rw[aJ,Nz];exact hl) h
  have hfrz:∀(i:Nat) (x:H),(encL V (S.frz V n e xs).len (cs.map (Ft V n e xs)))[i]?=some x->
   ∃y,(encL V S.len cs)[i]?=some y/\H.le (H.frz n (tsz V.sz e) (xs.map λx=>aT V.sz V.enc e x) y) x:=by
   intro i x hx
   simp only[encL_map,NB]at hx⊢
   cases hc:cs[i]? with
   |none=>rw[hc]at hx;cases hx
   |some c=>rw[hc]at hx;simp at hx;subst hx;exact⟨_,rfl,u6 hn c⟩
  unfold bA
  split
  ·rename_i ds hds
   obtain⟨g1,g2⟩:=eN hds
   simp only[H.frz]
   have e1:H.le (.d (.agg ds)) (.agg (encL V S.len cs)):=by
    have:=kA (encL V S.len cs)
    unfold bA at this
    rw[hds]at this;exact this
   refine kb e1 (hp _ (λi x hx=> ?_) (aJ ..))
   obtain⟨y,hy,hle⟩:=hfrz i x hx
   refine⟨y,hy,?_⟩
   rw[g2]at hy
   cases hd:ds[i]? with
   |none=>rw[hd]at hy;cases hy
   |some d=>rw[hd]at hy;simp at hy;subst hy;simpa only[H.frz]using hle
  ·simp only[H.frz]
   refine kb (kA _) (hp _ (λi x hx=> ?_) (by rw[H.frzL_len,aJ]))
   obtain⟨y,hy,hle⟩:=hfrz i x hx
   exact⟨_,by rw[H.frzL_get,hy];rfl,hle⟩
 ·exact u6 hn v
theorem Au{S:TS V.N}{n:Nat}{te:TypeId}{e:Ty V.ι}{xs:List (den V.N e)}(hn:S.own? n=some (.vec te e xs)):Ent (az V S) (az V (S.frz V n e xs)):=by
 refine Ent.trans (Ent.freeze (cf hn)) (Ent.le (λt x hx=> ?_) λm o ho=> ?_)
 ·rw[bP]at hx
  simp only[TS.frz,fK]at hx
  cases hq:gt S.tmps t with
  |none=>rw[hq]at hx;cases hx
  |some v=>
   rw[hq]at hx;simp at hx;subst hx
   refine⟨_,by simp only[ab.frz,fK,bP,hq,N6],Gr hn v⟩
 ·rw[aG,O8]at ho
  obtain⟨o1,ho1,ho⟩:=ho
  have hown:(S.frz V n e xs).own? m=if n=m then some (.gone xs.length)else(S.own? m).map (sS V n e xs):=by
   unfold TS.own? TS.frz
   simp only[af]
   split
   ·rfl
   ·rw[fK (sS V n e xs)]
  rw[hown]at ho1
  by_cases hm:n=m
  ·rw[Q6 hm]at ho1;simp at ho1;subst ho1;simp[aX]at ho
  ·rw[Q5 hm]at ho1
   cases hq:S.own? m with
   |none=>rw[hq]at ho1;cases ho1
   |some o0=>
    rw[hq]at ho1;simp at ho1;subst ho1
    have hsrc:∀x,aX V S.len o0=some x->((az V S).frz n (tsz V.sz e) (xs.map λx=>aT V.sz V.enc e x)).own? m=some (Own.frz n (tsz V.sz e) (xs.map λx=>aT V.sz V.enc e x) x):=by
     intro x hx
     have:=aG S m
     rw[hq]at this
     simp only[O_,hx]at this
     unfold ab.own? at this⊢
     simp only[ab.frz,af]
     rw[Q5 hm,fK (λx:Option Own=>x.map (Own.frz n (tsz V.sz e) (xs.map λx=>aT V.sz V.enc e x)))]
     cases hg:gt (az V S).own m with
     |none=>rw[hg]at this;cases this
     |some oo=>rw[hg]at this;simp at this;subst this;rfl
    cases o0 with
    |gone l=>simp[sS,aX]at ho
    |bst i y=>
     simp only[sS,aX,Ny]at ho
     subst ho
     refine⟨_,hsrc _ rfl,?_⟩
     simp only[Own.frz]
     refine OLe.box (.inr rfl) (by rw[H.frzL_len]) λi' x hx=> ?_
     refine⟨_,by rw[H.frzL_get,hx];rfl,?_⟩
     rw[NB,NK]at hx
     obtain⟨d,_,rfl⟩:=hx
     exact wQ _ (by simp[H.has])
    |vec te' e' ys=>
     simp only[sS,aX,Ny]at ho
     subst ho
     exact⟨_,hsrc _ rfl,OLe.refl _⟩
    |dvec te' e' ys=>
     simp only[sS,aX,Ny]at ho
     subst ho
     exact⟨_,hsrc _ rfl,OLe.refl _⟩
    |pvec te' e' ys=>
     simp only[sS,aX,Ny]at ho
     subst ho
     exact⟨_,hsrc _ rfl,OLe.refl _⟩
    |map tk tv es=>
     simp only[sS,aX,Ny]at ho
     subst ho
     exact⟨_,hsrc _ rfl,OLe.refl _⟩
    |iter s p=>
     simp only[sS,aX,Ny]at ho
     subst ho
     exact⟨_,hsrc _ rfl,OLe.refl _⟩
    |miter m k v es rest cur=>
     simp only[sS,aX,Ny]at ho
     subst ho
     exact⟨_,hsrc _ rfl,OLe.refl _⟩
    |que te' e' ys=>
     simp only[sS,aX,Ny]at ho
     subst ho
     exact⟨_,hsrc _ rfl,OLe.refl _⟩
    |maps te' tk tv es al=>
     simp only[sS,aX,Ny]at ho
     subst ho
     refine⟨_,hsrc _ rfl,?_⟩
     cases al<;>exact OLe.refl _
    |alias m'=>simp[sS,aX]at ho
    |bar k e' y=>
     simp only[sS,aX,Ny]at ho
     subst ho
     refine⟨_,hsrc _ rfl,?_⟩
     simp only[Own.frz]
     refine OLe.box (.inr rfl) (by rw[H.frzL_len]) λi' x hx=> ?_
     refine⟨_,by rw[H.frzL_get,hx];rfl,?_⟩
     rw[NB,NK]at hx
     obtain⟨d,_,rfl⟩:=hx
     exact wQ _ (by simp[H.has])
    |box oty cells=>
     simp only[sS,aX,Ny]at ho
     subst ho
     refine⟨_,hsrc _ rfl,?_⟩
     simp only[Own.frz]
     refine OLe.box (.inr rfl) (by rw[H.frzL_len,aJ,aJ,Nz]) λi x hx=> ?_
     simp only[encL_map,NB]at hx
     cases hc:cells[i]? with
     |none=>rw[hc]at hx;cases hx
     |some c=>
      rw[hc]at hx;simp at hx;subst hx
      exact⟨_,by rw[H.frzL_get,encL_map,NB,hc];rfl,u6 hn c⟩
theorem Ent.tle{S S':TS V.N}(hl:S'.len=S.len)(ht:∀t v,gt S'.tmps t=some v->gt S.tmps t=some v)
 (ho:∀n o x,S'.own? n=some o->aX V S.len o=some x->∃o' x',S.own? n=some o'/\aX V S.len o'=some x'/\OLe x' x):Ent (az V S) (az V S'):=by
 refine Ent.le (λt x hx=> ?_) λn x hx=> ?_
 ·rw[bP,NK]at hx
  obtain⟨v,hv,rfl⟩:=hx
  exact⟨_,by rw[bP,ht t v hv];rfl,by rw[hl];exact H.le.refl _⟩
 ·rw[aG,O8]at hx
  obtain⟨o,ho1,ho2⟩:=hx
  rw[hl]at ho2
  obtain⟨o',x',h1,h2,h3⟩:=ho n o x ho1 ho2
  exact⟨x',by rw[aG,h1];exact h2,h3⟩
theorem gC{S:TS V.N}{n:Nat}{te:TypeId}{e:Ty V.ι}{xs:List (den V.N e)}(h:S.own? n=some (.dvec te e xs)):
 (az V S).own? n=some (.dvec te (tsz V.sz e) (xs.map λx=>bR V.sz V.enc V.tid V.encd e x)):=by rw[aG,h];rfl
theorem mP{S:TS V.N}{n:Nat}{te:TypeId}{e:Ty V.ι}{xs:List (Option (den V.N e))}(h:S.own? n=some (.pvec te e xs)):
 (az V S).own? n=some (.dvec te (tsz V.sz e) (xs.map λx=>px V e x)):=by rw[aG,h];rfl
theorem w8(S:TS V.N)(n:Nat)(o:TO V.N)(m:Nat):({S with own:=(n,o)::S.own}:TS V.N).own? m=if n=m then some o else S.own? m:=by
 unfold TS.own?
 rw[af]
theorem Gk{S:TS V.N}{n:Nat}{te:TypeId}{e:Ty V.ι}{ys:List (den V.N e)}(hn:S.own? n=some (.dvec te e ys)):
 Ent (az V S) (az V {S with own:=(n, .vec te e ys)::S.own}):=λC E M a w hs=>by
 obtain⟨M',h1⟩:=hs.dfrz (gC hn) (rM ys)
 refine⟨E,M',?_⟩
 have hl:({S with own:=(n, .vec te e ys)::S.own}:TS V.N).len=S.len:=by
  funext m
  unfold TS.len
  rw[w8]
  by_cases h:n=m
  ·subst h;rw[Q6 rfl,hn];simp[TO.len]
  ·rw[Q5 h]
 have:az V {S with own:=(n, .vec te e ys)::S.own}={az V S with own:=(n,some (.vec te (tsz V.sz e) (ys.map λx=>aT V.sz V.enc e x)))::(az V S).own}:=by
  unfold az
  rw[hl]
  rfl
 rw[this]
 exact h1
theorem At(S:TS V.N)(v:TV V.N):Ent (az V S) (az V (Gq V S v)):=by
 unfold Gq
 split
 ·rename_i n
  split
  ·rename_i te e xs hn;exact Au hn
  ·rename_i te e ys hn
   exact Ent.trans (Gk hn) (Au (by rw[w8,Q6 rfl]))
  ·exact Ent.refl _
 ·exact Ent.refl _
theorem BA{S1 S2:TS V.N}{n:Nat}{te:TypeId}{e:Ty V.ι}(ht:S2.tmps=S1.tmps)(h1:S1.own? n=some (.vec te e []))(h2:S2.own? n=some (.dvec te e []))(h3:∀k,k≠n->S2.own? k=S1.own? k):Ent (az V S1) (az V S2):=by
 have hl:S2.len=S1.len:=by
  funext m
  unfold TS.len
  by_cases h:m=n
  ·subst h;rw[h1,h2];rfl
  ·rw[h3 m h]
 refine Ent.tle hl (λt v hv=>by rw[<-ht];exact hv) λk o x hk hx=> ?_
 by_cases h:k=n
 ·subst h
  rw[h2]at hk;cases hk
  simp only[aX,N_,Ny]at hx;subst hx
  exact⟨_,_,h1,rfl,by simpa using (OLe.v2d (e:=te) (sz:=tsz V.sz e) (rows:=[]))⟩
 ·rw[h3 k h]at hk
  exact⟨o,x,hk,hx,OLe.refl _⟩
theorem dl:∀(l:List (TV V.N)) (S:TS V.N),Ent (az V S) (az V (frzL V S l))
 |[],_=>Ent.refl _
 |v::r,S=>Ent.trans (At S v) (dl r _)
theorem pZ(te:TypeId)(e:Ty V.ι)(S:TS V.N)(t:Nat):Ent (az V S) (az V (vC V false te e S t)):=by
 unfold vC Iy
 simp only
 split
 ·rename_i ht
  split
  ·rename_i hf
   obtain⟨hf,hg⟩:=hf
   have hg:60000+t<given:=by simpa[Pk]using hg
   have h1:gt (az V S).tmps t=some (.d (.v (.slice none 0 0))):=by rw[bP,ht];simp[an,bw]
   have h2:(az V S).fresh (60000+t)=true:=d7 hf
   refine Ent.trans (Ent.nilvec (e:=te) (sz:=tsz V.sz e) h1 h2 hg) λC E M a w hs=>⟨E,M,?_⟩
   exact Sim.tapp (V:=V) (S:=S) (dst:=some t) (te:={val:= .vh (60000+t),upd:=[(60000+t, .vec te e [])],new:=[60000+t]}) (ex:=false)
    (e':={val:= .vh (60000+t) 0,upd:=[(60000+t,some (.vec te (tsz V.sz e) []))],new:=[60000+t]}) (λm o hm=>by
      simp only[af]at hm
      split at hm
      ·rename_i e;left;simp[e]
      ·simp[gt]at hm) (λd hd=>by simp at hd;subst hd;exact hf) (bq (by
      simp only[an]
      rw[bV]
      simp[af,TO.len]) rfl (by simp[aX]) rfl) hs
  ·exact Ent.refl _
 ·exact Ent.refl _
theorem n5(dv:Bool)(te:TypeId)(e:Ty V.ι)(S:TS V.N)(t:Nat):Ent (az V S) (az V (vC V dv te e S t)):=by
 cases dv with
 |false=>exact pZ te e S t
 |true=>
  refine Ent.trans (pZ te e S t) ?_
  unfold vC Iy
  simp only
  split
  ·split
   ·refine BA (n:=60000+t) (te:=te) (e:=e) rfl ?_ ?_ λk hk=> ?_<;>unfold TS.own?<;>simp only[af]
    ·simp
    ·simp
    ·rw[Q5 (Oc hk),Q5 (Oc hk)]
   ·exact Ent.refl _
  ·exact Ent.refl _
theorem eb(objs:List (Nat×OPt V.ι)):∀(l:List (Nat×Pt V.ι)) (S:TS V.N),Ent (az V S) (az V (r8 V objs S l))
 |[],_=>Ent.refl _
 |(t, .vh c)::r,S=>by
  simp only[r8]
  split
  ·exact Ent.trans (n5 _ _ _ S t) (eb objs r _)
  ·exact Ent.trans (n5 _ _ _ S t) (eb objs r _)
  ·exact eb objs r S
 |(t, .dat ty)::r,S=>by
  simp only[r8]
  exact Ent.trans (dl _ S) (eb objs r _)
 |(t, .bp c off)::r,S=>by simp only[r8];exact eb objs r S
 |(t, .mp c)::r,S=>by simp only[r8];exact eb objs r S
 |(t, .np c)::r,S=>by simp only[r8];exact eb objs r S
 |(t, .nif)::r,S=>by simp only[r8];exact eb objs r S
 |(t, .sv c z)::r,S=>by simp only[r8];exact eb objs r S
 |(t, .ag cs)::r,S=>by
  simp only[r8]
  exact Ent.trans (dl _ S) (eb objs r _)
 |(t, .fn f a b)::r,S=>by simp only[r8];exact eb objs r S
theorem n6(te:TypeId)(e:Ty V.ι)(S:TS V.N)(b i:Nat):Ent (az V S) (az V (p5 V false te e S b i)):=by
 unfold p5 Iy
 simp only
 split
 ·rename_i oty cells hb
  split
  ·rename_i hc
   split
   ·rename_i hf
    obtain⟨hf,hg⟩:=hf
    generalize hn:70000+S.own.length=n at hf hg⊢
    have hg:n<given:=by simpa[Pk]using hg
    have h1:(az V S).own? b=some (.box oty (encL V S.len cells)):=by rw[aG,hb];rfl
    have h2:(encL V S.len cells)[i]?=some (.d (.v (.slice none 0 0))):=by rw[encL_map,NB,hc];simp[an,bw]
    have hfr:=hf
    unfold TS.fresh at hfr
    simp only[NH,NM]at hfr
    obtain⟨⟨f1,f2⟩,f3⟩:=hfr
    have hbn:b≠n:=by
     rintro rfl
     rw[hb]at f1;cases f1
    have hcn:TV.hasL n cells=false:=by
     have:=f3 (b, .box oty cells) (bH hb)
     simpa[TO.has]using this
    refine Ent.trans (Ent.nilcell (e:=te) (sz:=tsz V.sz e) h1 h2 (d7 hf) hg) λC E M a w hs=>⟨E,M,?_⟩
    refine Sim.tapp (V:=V) (S:=S) (dst:=none) (te:={val:= .junk,upd:=[(b, .box oty (cells.set i (.vh n))),(n, .vec te e [])],new:=[n]}) (ex:=false)
     (e':={val:= .junk,upd:=[(b,some (.box oty ((encL V S.len cells).set i (.vh n 0)))),(n,some (.vec te (tsz V.sz e) []))],new:=[n]}) (λm o hm=> ?_) (λd hd=>by simp at hd;subst hd;exact hf) (bq ?_ rfl ?_ rfl) hs
    ·simp only[af]at hm
     split at hm
     ·rename_i e1
      right
      simp at hm;subst hm;subst e1
      unfold TS.len
      rw[hb];rfl
     ·split at hm
      ·rename_i e1;left;simp[e1]
      ·simp[gt]at hm
    ·simp[an]
    ·simp only[NF,N_,aX]
     have hl:∀m,(S.app none ({val:= .junk,upd:=[(b, .box oty (cells.set i (.vh n))),(n, .vec te e [])],new:=[n]}:TE V.N)).len m=if m=n then 0 else S.len m:=by
      intro m
      rw[bV]
      simp only[af]
      by_cases hmb:b=m
      ·subst hmb
       rw[Q6 rfl,Q5 hbn]
       simp only[TO.len]
       unfold TS.len;rw[hb];rfl
      ·rw[Q5 hmb]
       by_cases hmn:n=m
       ·subst hmn;simp[TO.len]
       ·rw[Q5 hmn,Q5 (λe=>hmn e.symm)];rfl
     have hcells:encL V (S.app none ({val:= .junk,upd:=[(b, .box oty (cells.set i (.vh n))),(n, .vec te e [])],new:=[n]}:TE V.N)).len (cells.set i (.vh n))=(encL V S.len cells).set i (.vh n 0):=by
      rw[encL_map,Pd,encL_map]
      congr 1
      ·rw[<-encL_map,<-encL_map]
       refine encL_congr cells λm hm=> ?_
       rw[hl,Q5]
       rintro rfl
       rw[hcn]at hm;cases hm
      ·simp only[an]
       rw[hl,Q6 rfl]
     rw[hcells]
   ·exact Ent.refl _
  ·exact Ent.refl _
 ·exact Ent.refl _
theorem p6(dv:Bool)(te:TypeId)(e:Ty V.ι)(S:TS V.N)(b i:Nat):Ent (az V S) (az V (p5 V dv te e S b i)):=by
 cases dv with
 |false=>exact n6 te e S b i
 |true=>
  refine Ent.trans (n6 te e S b i) ?_
  unfold p5 Iy
  simp only
  split
  ·rename_i oty cells hb
   split
   ·split
    ·rename_i hf
     have hbn:b≠70000+S.own.length:=λe=>by
      have h1:=hf.1
      unfold TS.fresh at h1
      simp only[NH]at h1
      rw[<-e,hb]at h1;exact absurd h1.1.1 (by simp)
     refine BA (n:=70000+S.own.length) (te:=te) (e:=e) rfl ?_ ?_ λk hk=> ?_<;>unfold TS.own?<;>simp only[af]
     ·rw[Q5 hbn];simp
     ·rw[Q5 hbn];simp
     ·rw[Q5 (Oc hk),Q5 (Oc hk)]
    ·exact Ent.refl _
   ·exact Ent.refl _
  ·exact Ent.refl _
theorem bY(objs:List (Nat×OPt V.ι))(b:Nat):∀(l:List (Pt V.ι)) (i:Nat) (S:TS V.N),Ent (az V S) (az V (eM V objs b i l S))
 |[],_,_=>Ent.refl _
 | .vh c::r,i,S=>by
  simp only[eM]
  split
  ·exact Ent.trans (p6 _ _ _ S b i) (bY objs b r _ _)
  ·exact Ent.trans (p6 _ _ _ S b i) (bY objs b r _ _)
  ·exact bY objs b r _ S
 | .dat ty::r,i,S=>by simp only[eM];exact Ent.trans (dl _ S) (bY objs b r _ _)
 | .bp c off::r,i,S=>by simp only[eM];exact bY objs b r _ S
 | .mp c::r,i,S=>by simp only[eM];exact bY objs b r _ S
 | .np c::r,i,S=>by simp only[eM];exact bY objs b r _ S
 | .nif::r,i,S=>by simp only[eM];exact bY objs b r _ S
 | .sv c z::r,i,S=>by simp only[eM];exact bY objs b r _ S
 | .ag cs::r,i,S=>by simp only[eM];exact bY objs b r _ S
 | .fn f x y::r,i,S=>by simp only[eM];exact bY objs b r _ S
theorem yQ(objs:List (Nat×OPt V.ι))(c b:Nat)(S:TS V.N):Ent (az V S) (az V (BO V objs c b S)):=by
 unfold BO
 split
 ·exact bY objs b _ 0 S
 ·split
  ·exact dl _ S
  ·exact Ent.refl _
 ·exact Ent.refl _
theorem xa(objs:List (Nat×OPt V.ι)):∀(m:Nat) (l:List (Nat×Nat)) (S:TS V.N),Ent (az V S) (az V (IA V objs m l S))
 |0,_,_=>by simp only[IA];exact Ent.refl _
 |_+1,[],_=>by simp only[IA];exact Ent.refl _
 |m+1,(c,b)::r,S=>by simp only[IA];exact Ent.trans (yQ objs c b S) (xa objs m _ _)
theorem D5(objs:List (Nat×OPt V.ι))(l:List (Nat×Pt V.ι))(S:TS V.N):Ent (az V S) (az V (LF V objs S l)):=by
 unfold LF
 split
 ·exact eb _ l S
 ·exact Ent.trans (eb _ l S) (xa _ _ _ _)
theorem c8{c:Cut V.ι}{S:TS V.N}{v:HL V.N c.tys}(h:wK V c S=some v):Ent (az V S) (az V (bh V c v)):=by
 unfold wK at h
 split at h
 ·rename_i σ ls hx
  obtain⟨hok,h⟩:=ah h
  have:=r6 h
  unfold bh
  rw[this]
  exact Ent.trans (D5 c.objs c.slots S) (Gj hx hok)
 ·cases h
end
end Go.Tx
end
section
namespace Go.Tx
open Go.Awp
variable [Inhabited GMem]
theorem zy(x:D):DD.toL [.d x]=some [x]:=by simp[DD.toL,DD.toD]
theorem My{t z:Nat}{rows:List (List DD)}{ds:List (List D)}(h:DD.toR rows=some ds):DD.toL [.sl t z rows]=some [.sl z ds]:=by simp[DD.toL,DD.toD,h]
theorem Mz{r:List DD}{s:List (List DD)}{x:List D}{y:List (List D)}(h:DD.toL r=some x)(h':DD.toR s=some y):DD.toR (r::s)=some (x::y):=by simp[DD.toR,h,h']
theorem MA{α:Type}{f:α->List DD}{g:α->List D}(h:∀x,DD.toL (f x)=some (g x)):∀l:List α,DD.toR (l.map f)=some (l.map g)
 |[]=>by simp[DD.toR]
 |x::r=>Mz (h x) (MA h r)
section
variable (V:i7)
def Iz:Ty V.ι->Bool
 | .st i=>V.flat i
 | .sl _=>false
 | .ar _ e=>Iz e
 |_=>true
def tW(e:Ty V.ι)(ys:List (den V.N e)):TO V.N:=match Iz V e with
 |true=> .vec (V.tid e) e ys
 |false=> .dvec (V.tid e) e ys
def f8(b:Nat):Nat->List (cg V.N)->List (TV V.N)×List (Nat×TO V.N)
 |_,[]=>([],[])
 |j,l::r=>match l with
  |⟨.sl e,ys⟩=>(.vh (xh b j)::(f8 b (j+1) r).1,(xh b j,tW V e ys)::(f8 b (j+1) r).2)
  |⟨t,x⟩=>(.lf t x::(f8 b (j+1) r).1,(f8 b (j+1) r).2)
def nin(n:Nat):List Nat->Bool
 |[]=>true
 |k::r=> !Ov k n&&nin n r
def uV:List Nat->Bool
 |[]=>true
 |k::r=>nin k r&&uV r
def I9{α:Type}:List α->Bool
 |[]=>true
 |_::_=>false
def Hq(ag:Bool)(ot:Option (Ty V.ι))(vs:List (TV V.N)):Option (TV V.N):=match ag with
 |true=>some (mkV V true ot vs)
 |false=>match vs with
  |[v]=>some v
  |_=>none
variable (P:Program) (nm:Nat->Nat)
def Du{A:Type}(t:TypeId)(ag:Bool)(sz n s i off d:Nat)(te:TypeId)(e:Ty V.ι)(xs:List (Option (den V.N e)))(y:den V.N e)(k:TE V.N->Option A):Option A:=
 if s=tsz V.sz e/\off+fN ag sz<=s then match f8 V (nm d) off (((aL V e y).drop off).take (fN ag sz))with
  |(vs,os)=>match Hq V ag (V.ty t) vs,uV (os.map (·.1))with
   |some v,true=>match I9 os with
    |true=>k {val:=v,acc:=[n]}
    |false=>k {val:=v,acc:=[n],upd:=(n, .pvec te e (xs.set i none))::os,new:=os.map (·.1)}
   |_,_=>none
 else none
def Cy{A:Type}(t:TypeId)(x:Operand)(dst:Option Tmp)(S:TS V.N)(k:TE V.N->Option A):Option A:=match bt P t,tev S x,dst with
 |some (ag,sz), .ep n s i off,some d=>match S.own? n with
  |some (.dvec te e ys)=>ys[i]?>>=λy=>Du V nm t ag sz n s i off d te e (ys.map some) y k
  |some (.pvec te e xs)=>xs[i]?>>=λox=>ox>>=λy=>Du V nm t ag sz n s i off d te e xs y k
  |_=>none
 |_,_,_=>none
def give1(S:TS V.N):Ty V.ι->TV V.N->Option (cg V.N×Option Nat)
 | .sl e, .vh n=>match S.own? n with
  |some (.vec te e' xs)=>if te=V.tid e'/\e'=e/\Iz V e'=true then some (⟨.sl e',xs⟩,some n)else none
  |some (.dvec te e' ys)=>if te=V.tid e'/\e'=e then some (⟨.sl e',ys⟩,some n)else none
  |_=>none
 | .sl e, .raw (.slice none 0 0)=>some (⟨.sl e,[]⟩,none)
 | .sl _,_=>none
 |t, .lf t' x=>if t'=t then some (⟨t',x⟩,none)else none
 |_,_=>none
def sT(S:TS V.N):List (Ty V.ι)->List (TV V.N)->Option (List (cg V.N)×List (Option Nat))
 |[],[]=>some ([],[])
 |t::ts,v::vs=>match give1 V S t v,sT S ts vs with
  |some (l,n),some (ls,ns)=>some (l::ls,n::ns)
  |_,_=>none
 |_,_=>none
def z_:Ty V.ι->List (Ty V.ι)
 | .st i=>V.tys i
 |t=>[t]
def xg{A:Type}(s sz n:Nat)(e:Ty V.ι)(cs:List (TV V.N))(S:TS V.N)(k:den V.N e->List Nat->Option A):Option A:=
 if s=tsz V.sz e/\sz=s/\cs.length=s/\cs.all TV.one=true then match sT V S (z_ V e) cs with
  |some (ls,ns)=>match iO V e ls with
   |some y=>match uV (fm ns)&&nin n (fm ns)with
    |true=>k y (fm ns)
    |false=>none
   |none=>none
  |none=>none
 else none
def sU(S:TS V.N)(ns:List Nat):List (Nat×TO V.N):=ns.map λm=>(m, .gone (S.len m))
def wm{A:Type}(t:TypeId)(x y:Operand)(S:TS V.N)(k:TE V.N->Option A):Option A:=match bt P t,tev S x,TV.cells V (tev S y)with
 |some (_,sz), .ep n s i 0,some cs=>match S.own? n with
  |some (.dvec te e ys)=>ys[i]?>>=λ_=>xg V s sz n e cs S λy ns=>k {val:= .junk,acc:=n::ns,upd:=(n, .dvec te e (ys.set i y))::sU V S ns}
  |some (.pvec te e xs)=>xs[i]?>>=λ_=>xg V s sz n e cs S λy ns=>II (xs.set i (some y))>>=λys=>k {val:= .junk,acc:=n::ns,upd:=(n, .dvec te e ys)::sU V S ns}
  |_=>none
 |_,_,_=>none
def v8{A:Type}(t:TypeId)(len:Nat)(parts:List (Nat×Operand))(dst:Option Tmp)(S:TS V.N)(k:TE V.N->Option A):Option A:=match parts,dst,bf P t,V.ty t with
 |[(0,x)],some d,some (te,sz,_),some (.sl e)=>match TV.cells V (tev S x)with
  |some cs=>if len=1/\sz=tsz V.sz e/\sz<=16777216/\cs.length=sz then match sT V S (z_ V e) cs with
   |some (ls,ns)=>match iO V e ls with
    |some y=>match uV (fm ns)with
     |true=>k {val:= .vh (nm d),acc:=fm ns,upd:=(nm d, .dvec te e [y])::sU V S (fm ns),new:=[nm d]}
     |false=>none
    |none=>none
   |none=>none
   else none
  |none=>none
 |_,_,_,_=>none
def HY{A:Type}(args:List (TV V.N))(tys:List TypeId)(dst:Option Tmp)(S:TS V.N)(k:TE V.N->Option A):Option A:=match args,tys,dst with
 |[x, .vh n2],[t,t'],some d=>match bf P t,S.own? n2 with
  |some (te,sz,bytes),some (.dvec te2 e ys)=>if t=t'/\te=te2/\sz=tsz V.sz e/\bytes<=32768/\¬n2=nm d then match x with
   | .vh n=>if¬n=nm d/\¬n=n2 then match S.own? n with
     |some (.dvec te1 e1 xs)=>if h:e=e1 then
      if te1=te then
       if xs.length+ys.length<=most then k {val:= .vh (nm d),acc:=[n,n2],upd:=[(nm d, .dvec te e1 (xs++h▸ys)),(n, .gone (S.len n)),(n2, .gone (S.len n2))],new:=[nm d]}else none
      else none
      else none
     |some (.pvec te1 e1 xs)=>if h:e=e1 then
      if te1=te then
       if xs.length+ys.length<=most then k {val:= .vh (nm d),acc:=[n,n2],upd:=[(nm d, .pvec te e1 (xs++h▸ys.map some)),(n, .gone (S.len n)),(n2, .gone (S.len n2))],new:=[nm d]}else none
      else none
      else none
     |_=>none
    else none
   | .raw (.slice none 0 0)=>if ys.length<=most then k {val:= .vh (nm d),acc:=[n2],upd:=[(nm d, .dvec te e ys),(n2, .gone (S.len n2))],new:=[nm d]}else none
   |_=>none
   else none
  |_,_=>none
 |_,_,_=>none
def H9{A:Type}(t:TypeId)(x i:Operand)(S:TS V.N)(k:TE V.N->Option A):Option A:=match bf P t,tev S x,tev S i with
 |some (_,sz,_), .vh m, .lf (.int _) n=>match S.own? m with
  |some (.dvec _ _ xs)=>if 0<=n/\n<xs.length then k {val:= .ep m sz n.toNat 0,acc:=[m]}else none
  |some (.pvec _ _ xs)=>if 0<=n/\n<xs.length then k {val:= .ep m sz n.toNat 0,acc:=[m]}else none
  |_=>none
 |_,_,_=>none
def H5{A:Type}(t:TypeId)(x:Operand)(lo hi mx:Option Operand)(S:TS V.N)(k:TE V.N->Option A):Option A:=match mx,bf P t,tev S x with
 |none,some (_,sz,_), .vh n=>match S.own? n with
  |some (.vec _ e xs)=>match E6 V S lo 0,E6 V S hi xs.length with
   |some l,some h=>if sz=tsz V.sz e then if 0<=l/\l<=h/\h<=xs.length then k {val:= .sv n sz l.toNat (h.toNat-l.toNat),acc:=[n]}else none else none
   |_,_=>none
  |_=>none
 |_,_,_=>none
def Cw{A:Type}(args:List (TV V.N))(tys:List TypeId)(dst:Option Tmp)(S:TS V.N)(k:TE V.N->Option A):Option A:=match args,tys,dst with
 |[.sv n sz lo i, .sv n2 sz2 j len],[t,t'],some d=>match bf P t,S.own? n with
  |some (te,sz',_),some (.vec te1 e xs)=>if((t=t'/\te=te1)/\(sz'=tsz V.sz e/\sz=sz')/\(sz2=sz'/\n2=n))/\(lo=0/\len=xs.length-j)/\(i<=j/\j<=xs.length/\0<xs.length)then
   k {val:= .vh (nm d),acc:=[n],upd:=[(nm d, .vec te1 e (xs.take i++xs.drop j)),(n, .gone (S.len n))],new:=[nm d]}
   else none
  |_,_=>none
 |_,_,_=>none
def lD(b:Nat):Nat->List (Ty V.ι)->List Value->List (TV V.N)×List (Nat×TO V.N)
 |j,t::ts,z::zs=>match t,z with
  | .sl e, .slice none 0 0=>(.vh (xh b j)::(lD b (j+1) ts zs).1,(xh b j,tW V e [])::(lD b (j+1) ts zs).2)
  |_,z=>(tvc z::(lD b (j+1) ts zs).1,(lD b (j+1) ts zs).2)
 |_,_,zs=>(zs.map tvc,[])
def CB{A:Type}(t:TypeId)(parts:List (Nat×Operand))(dst:Option Tmp)(k:TE V.N->Option A):Option A:=match parts,f_ P t,places P t with
 |[],some z,some _=>match V.ty t,dst with
  |some (.st i),some d=>match z.all cp,lD V d 0 (V.tys i) z with
   |true,(vs,os)=>match uV (os.map (·.1))with
    |true=>k {val:= .agg vs,acc:=[],upd:=os,new:=os.map (·.1)}
    |false=>none
   |false,_=>none
  |_,_=>none
 |_,_,_=>none
def isD:Option (TO V.N)->Bool
 |some (.dvec ..)=>true
 |some (.pvec ..)=>true
 |_=>false
def IY(pre:Nat->Bool)(o:Oper)(S:TS V.N):Bool:=match o.op with
 | .load _ x=>match tev S x with
  | .ep n _ _ _=>isD V (S.own? n)
  |_=>false
 | .store _ x _=>match tev S x with
  | .ep n _ _ _=>isD V (S.own? n)
  |_=>false
 | .indexAddr _ x _=>match tev S x with
  | .vh n=>isD V (S.own? n)
  |_=>false
 | .buildSlice _ _ _=>match o.dst with
  |some d=>pre (1000000+d)
  |none=>false
 | .call c=>match c.callee with
  | .builtin .append=>match c.args.toList with
   |[_,y]=>match tev S y with
    | .vh n=>isD V (S.own? n)
    | .sv .. =>true
    |_=>false
   |_=>false
  |_=>false
 | .slice _ _ _ _ _=>match o.dst with
  |some d=>pre (3000000+d)
  |none=>false
 | .build _ parts=>match parts.toList,o.dst with
  |[],some d=>pre (1000000+d)
  |_,_=>false
 |_=>false
def H7{A:Type}(o:Oper)(S:TS V.N)(k:TE V.N->Option A):Option A:=match o.op with
 | .load t x=>Cy V P nm t x o.dst S k
 | .store t x y=>wm V P t x y S k
 | .indexAddr t x i=>H9 V P t x i S k
 | .buildSlice t len parts=>v8 V P nm t len parts.toList o.dst S k
 | .call c=>match c.callee with
  | .builtin .append=>match c.args.toList.map (tev S)with
   |[_, .sv ..]=>Cw V P nm (c.args.toList.map (tev S)) c.argTypes.toList o.dst S k
   |_=>HY V P nm (c.args.toList.map (tev S)) c.argTypes.toList o.dst S k
  |_=>none
 | .slice t x lo hi mx=>H5 V P t x lo hi mx S k
 | .build t parts=>CB V P t parts.toList o.dst k
 |_=>none
end
section
variable {V:i7}
theorem lq:∀{e:Ty V.ι} (_:Iz V e=true) (y:den V.N e),bR V.sz V.enc V.tid V.encd e y=(aT V.sz V.enc e y).map .d
 | .st i,h,y=>by
  simp only[bR,aT]
  rw[V.encd_cells,V.enc_cells,N0]
  refine NZ λl hl=> ?_
  have:=V.flat_cells i y h l hl
  obtain⟨t,x⟩:=l
  cases t<;>first|rfl|simp[Ty.isSl]at this
 | .sl e,h,_=>by simp[Iz]at h
 | .ar n e,h,xs=>by
  simp only[Iz]at h
  simp only[bR,aT,uE,Qd,N0]
  congr 2
  exact NZ λx _=>lq h x
 | .int _,_,_=>rfl
 | .bool,_,_=>rfl
 | .str,_,_=>rfl
 | .mp _ _,_,_=>rfl
 | .er,_,_=>rfl
 | .op _,_,_=>rfl
 | .fnc,_,_=>rfl
 | .fno,_,_=>rfl
theorem DS(e:Ty V.ι)(ys:List (den V.N e)):∃o,(∀ω,aX V ω (tW V e ys)=some o)/\OLe (.dvec (V.tid e) (tsz V.sz e) (ys.map λx=>bR V.sz V.enc V.tid V.encd e x)) o:=by
 unfold tW
 split
 ·rename_i h
  refine⟨_,λ_=>rfl,?_⟩
  have:(ys.map λx=>bR V.sz V.enc V.tid V.encd e x)=(ys.map λx=>aT V.sz V.enc e x).map λr=>r.map .d:=by
   rw[N0]
   exact NZ λx _=>lq h x
  rw[this]
  exact OLe.d2v
 ·exact⟨_,λ_=>rfl,OLe.refl _⟩
theorem tX(e:Ty V.ι)(ys:List (den V.N e)):TO.len (some (tW V e ys))=ys.length:=by
 unfold tW
 split<;>rfl
theorem fa:∀(e:Ty V.ι) (y:den V.N e),bR V.sz V.enc V.tid V.encd e y=(aL V e y).map λl=>e_ V.sz V.enc V.tid V.encd l.t l.x
 | .st i,y=>by simp only[bR,aL];exact V.encd_cells i y
 | .sl e,_=>rfl
 | .ar n e,xs=>by
  simp only[bR,aL,uE,Qd,N0]
  congr 2
  exact NZ λx _=>fa e x
 | .int _,_=>rfl
 | .bool,_=>rfl
 | .str,_=>rfl
 | .mp _ _,_=>rfl
 | .er,_=>rfl
 | .op _,_=>rfl
 | .fnc,_=>rfl
 | .fno,_=>rfl
theorem oR(b:Nat):∀(ls:List (cg V.N)) (j:Nat),∃hs os os' ds,kW (xh b) j (ls.map λl=>e_ V.sz V.enc V.tid V.encd l.t l.x)=some (hs,os,ds)/\PLe os os'/\(∀ω,os'.map (λp=>(p.1,some p.2))=(f8 V b j ls).2.map λp=>(p.1,aX V ω p.2))/\
 (∀ω:Nat->Nat,(∀p∈(f8 V b j ls).2,ω p.1=TO.len (some p.2))->hs=encL V ω (f8 V b j ls).1)/\((f8 V b j ls).2=[]->os=[]/\ds=ls.map λl=>e_ V.sz V.enc V.tid V.encd l.t l.x)
 |[],j=>⟨[],[],[],[],rfl, .nil,λ_=>rfl,λ_ _=>rfl,λ_=>⟨rfl,rfl⟩⟩
 |⟨t,x⟩::r,j=>by
  obtain⟨hs,os,os',ds,h1,h2,h3,h4,h5⟩:=oR b r (j+1)
  have other:∀(t:Ty V.ι) (x:den V.N t),e_ V.sz V.enc V.tid V.encd t x= .d (aK V.sz V.enc t x)->f8 V b j (⟨t,x⟩::r)=(.lf t x::(f8 V b (j+1) r).1,(f8 V b (j+1) r).2)->
   ∃hs os os' ds,kW (xh b) j ((⟨t,x⟩::r:List (cg V.N)).map λl=>e_ V.sz V.enc V.tid V.encd l.t l.x)=some (hs,os,ds)/\PLe os os'/\(∀ω,os'.map (λp=>(p.1,some p.2))=(f8 V b j (⟨t,x⟩::r)).2.map λp=>(p.1,aX V ω p.2))/\
  (∀ω:Nat->Nat,(∀p∈(f8 V b j (⟨t,x⟩::r)).2,ω p.1=TO.len (some p.2))->hs=encL V ω (f8 V b j (⟨t,x⟩::r)).1)/\
    ((f8 V b j (⟨t,x⟩::r)).2=[]->os=[]/\ds=(⟨t,x⟩::r:List (cg V.N)).map λl=>e_ V.sz V.enc V.tid V.encd l.t l.x):=by
    intro t x he ht
    rw[ht]
    refine⟨.d (aK V.sz V.enc t x)::hs,os,os', .d (aK V.sz V.enc t x)::ds,?_,h2,h3,λω hω=> ?_,λhn=>⟨(h5 hn).1,?_⟩⟩
    ·simp only[NF,kW,h1,he]
    ·simp only[encL,an]
     rw[h4 ω hω]
    ·rw[NF,(h5 hn).2,he]
  cases t with
  |sl e=>
   obtain⟨o,o1,o2⟩:=DS (V:=V) e x
   refine⟨.vh (xh b j) x.length::hs,(xh b j, .dvec (V.tid e) (tsz V.sz e) (x.map λy=>bR V.sz V.enc V.tid V.encd e y))::os,(xh b j,o)::os', .junk::ds,?_, .cons o2 h2,λω=> ?_,λω hω=> ?_,λhn=> ?_⟩
   ·simp only[NF,kW,h1]
    simp only[e_,Nz]
   ·simp only[f8,NF,h3 ω,o1]
   ·simp only[f8,encL,an]at hω⊢
    have:=hω _ NG
    simp only at this
    rw[this,tX,h4 ω λp hp=>hω p (NC _ hp)]
   ·simp only[f8]at hn;cases hn
  |int k=>exact other _ x rfl rfl
  |bool=>exact other _ x rfl rfl
  |str=>exact other _ x rfl rfl
  |st i=>exact other _ x rfl rfl
  |mp k v=>exact other _ x rfl rfl
  |er=>exact other _ x rfl rfl
  |op e=>exact other _ x rfl rfl
  |fnc=>exact other _ x rfl rfl
  |fno=>exact other _ x rfl rfl
  |ar n e=>exact other _ x rfl rfl
theorem vD{n:Nat}:∀{l:List Nat},nin n l=true->n∉l
 |[],_=>by simp
 |k::r,h=>by
  simp only[nin,NH,PN]at h
  intro hm
  rcases NI.1 hm with q|q
  ·subst q;simp at h
  ·exact vD h.2 q
theorem eZ:∀{l:List Nat},uV l=true->l.Nodup
 |[],_=> .nil
 |a::r,h=>by
  simp only[uV,NH]at h
  exact OD.2 ⟨vD h.1,eZ h.2⟩
theorem ji{e:Ty V.ι}{ls:List (cg V.N)}{y:den V.N e}(h:iO V e ls=some y):aL V e y=ls:=by
 have single:∀(t:Ty V.ι) (y:den V.N t) (l:cg V.N),(if h:l.t=t then some (h▸l.x:den V.N t)else none)=some y->[(⟨t,y⟩:cg V.N)]=[l]:=by
  intro t y l h
  split at h
  ·rename_i ht
   obtain⟨lt,lx⟩:=l
   simp only at ht;subst ht
   simp only[Ny]at h
   subst h;rfl
  ·cases h
 cases e with
 |st i=>exact V.of_cells _ _ _ h
 |ar n e=>simp[iO]at h
 |_=>
  cases ls with
  |nil=>simp[iO]at h
  |cons l r=>
   cases r with
   |nil=>exact single _ y l h
   |cons a b=>simp[iO]at h
theorem u7{S:TS V.N}{t:Ty V.ι}{v:TV V.N}{l:cg V.N}{n:Option Nat}(h:give1 V S t v=some (l,n)):jm (az V S).own? (an V S.len v) (e_ V.sz V.enc V.tid V.encd l.t l.x) n:=by
 unfold give1 at h
 split at h
 ·rename_i e n'
  split at h
  ·rename_i te e' xs hn
   have h':=ah h;clear h
   obtain⟨⟨h1,h2,hf⟩,h⟩:=h'
   subst h1;subst h2
   simp only[Ny,N5]at h
   obtain⟨rfl,rfl⟩:=h
   have:=jm.v (ω:=(az V S).own?) n' (V.tid e') (tsz V.sz e') _ (cf hn)
   simp only[an,dc hn,e_]
   rw[Nz]at this
   have he:(xs.map λx=>bR V.sz V.enc V.tid V.encd e' x)=(xs.map λx=>aT V.sz V.enc e' x).map λr=>r.map .d:=by
    rw[N0]
    exact NZ λx _=>lq hf x
   rw[he];exact this
  ·rename_i te e' ys hn
   have h':=ah h;clear h
   obtain⟨⟨h1,h2⟩,h⟩:=h'
   subst h1;subst h2
   simp only[Ny,N5]at h
   obtain⟨rfl,rfl⟩:=h
   have:=jm.dv (ω:=(az V S).own?) n' (V.tid e') (tsz V.sz e') _ (gC hn)
   have hl:S.len n'=ys.length:=by unfold TS.len;rw[hn];rfl
   simp only[an,hl,e_]
   rw[Nz]at this
   exact this
  ·cases h
 ·rename_i e
  simp only[Ny,N5]at h
  obtain⟨rfl,rfl⟩:=h
  exact .nil _ _
 ·cases h
 ·rename_i t' x hne
  have h':=ah h;clear h
  obtain⟨h1,h⟩:=h'
  subst h1
  simp only[Ny,N5]at h
  obtain⟨rfl,rfl⟩:=h
  have:e_ V.sz V.enc V.tid V.encd t' x= .d (aK V.sz V.enc t' x):=by
   cases t'<;>first|rfl|simp_all
  rw[this]
  exact .d _
 ·cases h
theorem jF{S:TS V.N}:∀{ts:List (Ty V.ι)} {vs:List (TV V.N)} {ls:List (cg V.N)} {ns:List (Option Nat)},sT V S ts vs=some (ls,ns)->
 ∃l:List (H×DD×Option Nat),(l.map λp=>p.1)=encL V S.len vs/\(l.map λp=>p.2.1)=(ls.map λl=>e_ V.sz V.enc V.tid V.encd l.t l.x)/\(l.map λp=>p.2.2)=ns/\∀p∈l,jm (az V S).own? p.1 p.2.1 p.2.2
 |[],[],ls,ns,h=>by
  simp only[sT,Ny,N5]at h
  obtain⟨rfl,rfl⟩:=h
  exact⟨[],rfl,rfl,rfl,λp hp=>by cases hp⟩
 |[],_::_,ls,ns,h=>by simp[sT]at h
 |_::_,[],ls,ns,h=>by simp[sT]at h
 |t::ts,v::vs,ls,ns,h=>by
  simp only[sT]at h
  split at h
  ·rename_i l n ls' ns' h1 h2
   simp only[Ny,N5]at h
   obtain⟨rfl,rfl⟩:=h
   obtain⟨L,a1,a2,a3,a4⟩:=jF h2
   refine⟨(an V S.len v,e_ V.sz V.enc V.tid V.encd l.t l.x,n)::L,by simp[encL,a1],by simp[a2],by simp[a3],λp hp=> ?_⟩
   rcases NI.1 hp with q|q
   ·subst q;exact u7 h1
   ·exact a4 p q
  ·cases h
theorem Ak{l:cg V.N}(h:l.t.cell=true):DD.one (e_ V.sz V.enc V.tid V.encd l.t l.x)=true:=by
 obtain⟨t,x⟩:=l
 have:=nr (l:=⟨t,x⟩) h
 cases t<;>first|rfl|(simp[Ty.cell]at h;done)|simpa[e_,DD.one,H.one]using this
theorem Am(e:Ty V.ι)(y:den V.N e):(bR V.sz V.enc V.tid V.encd e y).all DD.one=true:=by
 rw[fa,OZ,NM]
 exactλl hl=>Ak (jS e y l hl)
theorem dlen{S:TS V.N}{n:Nat}{te:TypeId}{e:Ty V.ι}{xs:List (den V.N e)}(h:S.own? n=some (.dvec te e xs)):S.len n=xs.length:=by unfold TS.len;rw[h];rfl
theorem Kl{S:TS V.N}{n:Nat}{te:TypeId}{e:Ty V.ι}{xs:List (Option (den V.N e))}(h:S.own? n=some (.pvec te e xs)):S.len n=xs.length:=by unfold TS.len;rw[h];rfl
theorem fj{e:Ty V.ι}(ys:List (den V.N e)):((ys.map some).map λx=>px V e x)=ys.map λx=>bR V.sz V.enc V.tid V.encd e x:=by
 rw[N0];rfl
theorem nD{S:TS V.N}{ns:List Nat}{m:Nat}{o:TO V.N}(h:gt (sU V S ns) m=some o):TO.len (some o)=S.len m:=by
 obtain⟨k,_,hk⟩:=N3.1 (bH h)
 simp only[N5]at hk
 obtain⟨rfl,rfl⟩:=hk
 rfl
theorem nB(ω:Nat->Nat)(S:TS V.N)(ns:List Nat):(sU V S ns).map (λp=>(p.1,aX V ω p.2))=ns.map λn=>(n,none):=by
 unfold sU
 rw[N0]
 rfl
theorem qS{α:Type}:∀{l:List (Nat×α)} {n:Nat} {x:α},(l.map (·.1)).Nodup->(n,x)∈l->gt l n=some x
 |[],_,_,_,h=>by cases h
 |(k,y)::r,n,x,hn,h=>by
  rw[NF,OD]at hn
  rw[af]
  rcases NI.1 h with q|q
  ·cases q;rw[Q6 rfl]
  ·rw[Q5 λe=>hn.1 (by rw[e];exact N3.2 ⟨_,q,rfl⟩)]
   exact qS hn.2 q
theorem nU{α:Type}{l:List (Nat×α)}{n:Nat}{x:α}(h:(n,x)∈l):n∈l.map (·.1):=N3.2 ⟨_,h,rfl⟩
section
variable {P:Program} {nm:Nat->Nat} {o:Oper} {S:TS V.N} {A:Type} {k:TE V.N->Option A} {r:A}
def OpD(P:Program)(nm:Nat->Nat)(o:Oper)(S:TS V.N)(k:TE V.N->Option A)(r:A):Prop:=
 ∃te,k te=some r/\nC S te/\∃e',o7 P nm o (Go.Awp.ev (az V S)) (az V S).own? e'/\ELe true e' (fF (S.app o.dst te).len te)
theorem wV{t:TypeId}{x:Operand}{ag:Bool}{sz n s i off d:Nat}{te:TypeId}{e:Ty V.ι}{xs:List (Option (den V.N e))}{y:den V.N e}(hf:∀te,k te=some r->∀d∈te.new,S.fresh d=true)(ho:o.op= .load t x)(hdst:o.dst=some d)
 (ht:bt P t=some (ag,sz))(hx:tev S x= .ep n s i off)(hn:(az V S).own? n=some (.dvec te (tsz V.sz e) (xs.map λx=>px V e x)))(hsome:S.own? n≠none)(hln:S.len n=xs.length)(hox:xs[i]?=some (some y))
 (h:Du V nm t ag sz n s i off d te e xs y k=some r):OpD P nm o S k r:=by
 unfold Du at h
 have h':=ah h;clear h
 obtain⟨⟨hse,hfit⟩,h⟩:=h'
 generalize hT:f8 V (nm d) off (((aL V e y).drop off).take (fN ag sz))=T at h
 obtain⟨vs,os⟩:=T
 simp only at h
 obtain⟨hh,hos,hos',ds,b1,b2,b3,b4,b5⟩:=oR (V:=V) (nm d) (((aL V e y).drop off).take (fN ag sz)) off
 rw[hT]at b3 b4 b5
 simp only at b3 b4 b5
 have hrl:=eW e y
 let all:=(aL V e y).map λl=>e_ V.sz V.enc V.tid V.encd l.t l.x
 have hrow:(xs.map λx=>px V e x)[i]?=some all:=by
  rw[NB,hox]
  simp only[N6,px,all]
  rw[fa]
 have hmid:(all.drop off).take (fN ag sz)=(((aL V e y).drop off).take (fN ag sz)).map λl=>e_ V.sz V.enc V.tid V.encd l.t l.x:=by
  simp only[all,OG,OE]
 have hal:all.length=s:=by simp only[all];rw[Nz,hrl,hse]
 have hsn:(az V S).own? n=some (.dvec te s (xs.map λx=>px V e x)):=by rw[hn,hse]
 have hxe:Go.Awp.ev (az V S) x= .ep n s i off:=by rw[ak,hx];rfl
 have hnames:os.map (·.1)=hos'.map (·.1):=by
  have:=congrArg (QM (·.1)) (b3 λ_=>0)
  rw[N0,N0]at this
  exact this.symm
 split at h
 ·rename_i v hv hdi
  have hdi:=eZ hdi
  have hval:∀ω:Nat->Nat,hh=encL V ω vs->(ag=true/\an V ω v=bA hh\/ag=false/\hh=[an V ω v]):=by
   intro ω hω
   cases ag with
   |true=>
    simp only[Hq,Ny]at hv
    subst hv
    exact .inl ⟨rfl,by rw[hω];exact(fQ.2 rfl).symm⟩
   |false=>
    simp only[Hq]at hv
    split at hv
    ·rename_i v0
     cases hv
     exact .inr ⟨rfl,by rw[hω];rfl⟩
    ·cases hv
  cases hni:I9 os with
  |true=>
   rw[hni]at h
   simp only at h
   have hos0:os=[]:=by cases os with|nil=>rfl|cons a b=>cases hni
   subst hos0
   obtain⟨q1,q2⟩:=b5 rfl
   subst q1
   rw[<-hmid]at q2
   subst q2
   refine⟨_,h,eQ S v [n],_, .load0 (val:=an V S.len v) ho hdst ht hxe hsn hrow hal hfit (by rw[<-hmid]at b1;exact b1) (hval _ (b4 _ λp hp=>by cases hp)),lT rfl⟩
  |false=>
   rw[hni]at h
   simp only at h
   have hfr:=hf _ h
   have hlen:∀p∈os,(S.app o.dst {val:=v,acc:=[n],upd:=(n, .pvec te e (xs.set i none))::os,new:=os.map (·.1)}).len p.1=TO.len (some p.2):=by
    intro p hp
    rw[bV]
    have hpn:n≠p.1:=λe1=>by
     have:=hfr p.1 (N1 hp)
     unfold TS.fresh at this
     simp only[NH]at this
     have h9:=this.1.1
     rw[<-e1]at h9
     cases hq:S.own? n with
     |none=>exact hsome hq
     |some o9=>rw[hq]at h9;cases h9
    simp only[af,Q5 hpn]
    have:gt os p.1=some p.2:=qS hdi hp
    rw[this]
   refine⟨_,h,λm p hm=> ?_,_, .load (val:=an V (S.app o.dst {val:=v,acc:=[n],upd:=(n, .pvec te e (xs.set i none))::os,new:=os.map (·.1)}).len v) ho hdst ht hxe hsn hrow hal hfit (by rw[<-hmid]at b1;exact b1) (hval _ (b4 _ hlen)) b2 (by rw[<-hnames];exact hdi),
    bq rfl hnames.symm ?_ rfl⟩
   ·simp only[af]at hm
    by_cases hnm:n=m
    ·subst hnm
     rw[Q6 rfl]at hm;cases hm
     right;rw[hln];simp[TO.len]
    ·rw[Q5 hnm]at hm
     exact .inl (nU (bH hm))
   ·rw[NF]
    refine congr (congrArg List.cons ?_) (b3 _)
    simp only[aX,Pd,px,hse]
 ·cases h
theorem Ew{t:TypeId}{x:Operand}(hf:∀te,k te=some r->∀d∈te.new,S.fresh d=true)(ho:o.op= .load t x)(h:Cy V P nm t x o.dst S k=some r):OpD P nm o S k r:=by
 unfold Cy at h
 split at h
 ·rename_i ag sz n s i off d ht hx hdst
  split at h
  ·rename_i te e ys hn
   obtain⟨y,hy,h2⟩:=aR h
   exact wV hf ho hdst ht hx (by rw[fj];exact gC hn) (by rw[hn];simp) (by rw[dlen hn,Nz]) (by rw[NB,hy];rfl) h2
  ·rename_i te e xs hn
   obtain⟨ox,hox,h2⟩:=aR h
   obtain⟨y,hy,h3⟩:=aR h2
   exact wV hf ho hdst ht hx (mP hn) (by rw[hn];simp) (Kl hn) (by rw[hox,hy]) h3
  ·cases h
 ·cases h
theorem ui{t:TypeId}{x y:Operand}{ag:Bool}{sz n s i:Nat}{te:TypeId}{e:Ty V.ι}{xs:List (Option (den V.N e))}{ox:Option (den V.N e)}{cs:List (TV V.N)}{f:den V.N e->List Nat->Option A}(ho:o.op= .store t x y)
 (ht:bt P t=some (ag,sz))(hx:tev S x= .ep n s i 0)(hcs:TV.cells V (tev S y)=some cs)(hn:(az V S).own? n=some (.dvec te (tsz V.sz e) (xs.map λx=>px V e x)))(hox:xs[i]?=some ox)
 (h:xg V s sz n e cs S f=some r):∃y' ns,f y' ns=some r/\o7 P nm o (Go.Awp.ev (az V S)) (az V S).own? {val:= .junk,acc:=n::ns,upd:=(n,some (.dvec te (tsz V.sz e) ((xs.set i (some y')).map λx=>px V e x)))::ns.map λm=>(m,none)}:=by
 unfold xg at h
 have h':=ah h;clear h
 obtain⟨⟨hse,hss,hcl,hone⟩,h⟩:=h'
 rw[hss]at ht
 split at h
 ·rename_i ls ns hg
  split at h
  ·rename_i y' hy'
   split at h
   ·rename_i hdi
    rw[NH]at hdi
    obtain⟨l,l1,l2,l3,l4⟩:=jF hg
    have hrc:=ji hy'
    have hll:l.length=s:=by
     have:=congrArg Pv l1
     rw[Nz,aJ]at this;omega
    have hrow:(xs.map λx=>px V e x)[i]?=some (px V e ox):=by rw[NB,hox];rfl
    refine⟨y',fm ns,h,?_⟩
    have:=o7.store (ρ:=Go.Awp.ev (az V S)) (ω:=(az V S).own?) (nm:=nm) (l:=l) ho ht (by rw[ak,hx];rfl) (by rw[hn,hse]) hrow (by rw[ak,l1];exact cd hcs) hll (by rw[l1];exact dN hone) l4 (by rw[l3];exact eZ hdi.1) (by rw[l3];exact vD hdi.2)
    rw[l2,l3]at this
    have hq:px V e (some y')=ls.map λl=>e_ V.sz V.enc V.tid V.encd l.t l.x:=by
     simp only[px]
     rw[fa,hrc]
    rw[Pd,hq,<-hse]
    exact this
   ·cases h
  ·cases h
 ·cases h
theorem CE{t:TypeId}{x y:Operand}(ho:o.op= .store t x y)(h:wm V P t x y S k=some r):OpD P nm o S k r:=by
 have fin:∀(n:Nat) (te:TypeId) (e:Ty V.ι) (ys:List (den V.N e)) (ns:List Nat),S.len n=ys.length->k {val:= .junk,acc:=n::ns,upd:=(n, .dvec te e ys)::sU V S ns}=some r->
  o7 P nm o (Go.Awp.ev (az V S)) (az V S).own? {val:= .junk,acc:=n::ns,upd:=(n,some (.dvec te (tsz V.sz e) (ys.map λx=>bR V.sz V.enc V.tid V.encd e x)))::ns.map λm=>(m,none)}->OpD P nm o S k r:=by
  intro n te e ys ns hl h hs'
  refine⟨_,h,λm p hm=> ?_,_,hs',bq rfl rfl ?_ rfl⟩
  ·simp only[af]at hm
   by_cases hnm:n=m
   ·subst hnm
    rw[Q6 rfl]at hm;cases hm
    right;rw[hl];rfl
   ·rw[Q5 hnm]at hm
    exact .inr (nD hm)
  ·rw[NF,nB];rfl
 unfold wm at h
 split at h
 ·rename_i ag sz n s i cs ht hx hcs
  split at h
  ·rename_i te e ys hn
   obtain⟨y0,hy0,h2⟩:=aR h
   obtain⟨y',ns,h3,h4⟩:=ui (nm:=nm) (xs:=ys.map some) ho ht hx hcs (by rw[fj];exact gC hn) (by rw[NB,hy0];rfl) h2
   refine fin n te e _ ns (by rw[dlen hn,Ow]) h3 ?_
   rw[<-fj,Pd]
   exact h4
  ·rename_i te e xs hn
   obtain⟨ox,hox,h2⟩:=aR h
   obtain⟨y',ns,h3,h4⟩:=ui (nm:=nm) ho ht hx hcs (mP hn) hox h2
   obtain⟨ys,hys,h5⟩:=aR h3
   have hq:=zF hys
   refine fin n te e ys ns ?_ h5 ?_
   ·rw[Kl hn]
    have:=congrArg Pv hq
    rw[Ow,Nz]at this;exact this
   ·rw[<-fj,<-hq];exact h4
  ·cases h
 ·cases h
theorem Cs{t:TypeId}{len:Nat}{parts:Array (Nat×Operand)}(ho:o.op= .buildSlice t len parts)(h:v8 V P nm t len parts.toList o.dst S k=some r):OpD P nm o S k r:=by
 unfold v8 at h
 split at h
 ·rename_i x d te sz by_ e hparts hdst ht hty
  split at h
  ·rename_i cs hcs
   have h':=ah h;clear h
   obtain⟨⟨h0,hse,hsm,hcl⟩,h⟩:=h'
   subst h0
   split at h
   ·rename_i ls ns hg
    split at h
    ·rename_i y' hy'
     split at h
     ·rename_i hdi
      obtain⟨l,l1,l2,l3,l4⟩:=jF hg
      have hrc:=ji hy'
      have hll:l.length=sz:=by
       have:=congrArg Pv l1
       rw[Nz,aJ]at this;omega
      have hpa:parts= #[(0,x)]:=by rw[<-Pb];exact hparts
      subst hpa
      have:=o7.build (ρ:=Go.Awp.ev (az V S)) (ω:=(az V S).own?) (nm:=nm) (l:=l) ho hdst ht hsm (by rw[ak,l1];exact cd hcs) hll l4 (by rw[l3];exact eZ hdi)
      rw[l2,l3]at this
      refine⟨_,h,λm p hm=> ?_,_,this,bq ?_ rfl ?_ rfl⟩
      ·simp only[af]at hm
       by_cases hnm:nm d=m
       ·left;simp[hnm]
       ·rw[Q5 hnm]at hm
        exact .inr (nD hm)
      ·simp only[an]
       rw[bV]
       simp only[af,Q2]
       rfl
      ·rw[NF,nB]
       have hq:bR V.sz V.enc V.tid V.encd e y'=ls.map λl=>e_ V.sz V.enc V.tid V.encd l.t l.x:=by
        rw[fa,hrc]
       simp only[aX,NF,N_]
       rw[hq,hse]
     ·cases h
    ·cases h
   ·cases h
  ·cases h
 ·cases h
theorem H_{t:TypeId}{x i:Operand}(ho:o.op= .indexAddr t x i)(h:H9 V P t x i S k=some r):OpD P nm o S k r:=by
 unfold H9 at h
 split at h
 ·rename_i te sz by_ m kk n ht hx hi
  split at h
  ·rename_i te' e' xs hm
   have h':=ah h;clear h
   obtain⟨⟨h0,h1⟩,h⟩:=h'
   exact⟨_,h,eQ S _ _,_, .index ho ht (by rw[ak,hx];rfl) (by rw[ak,hi];rfl) (gC hm) h0 (by rw[dlen hm];exact h1),lT rfl⟩
  ·rename_i te' e' xs hm
   have h':=ah h;clear h
   obtain⟨⟨h0,h1⟩,h⟩:=h'
   exact⟨_,h,eQ S _ _,_, .index ho ht (by rw[ak,hx];rfl) (by rw[ak,hi];rfl) (mP hm) h0 (by rw[Kl hm];exact h1),lT rfl⟩
  ·cases h
 ·cases h
theorem H1{c:Call}(ho:o.op= .call c)(hc:c.callee= .builtin .append)(h:HY V P nm (c.args.toList.map (tev S)) c.argTypes.toList o.dst S k=some r):OpD P nm o S k r:=by
 unfold HY at h
 split at h
 ·rename_i x n2 t t' d hargs htys hdst
  split at h
  ·rename_i te sz bytes te2 e ys ht hn2
   have h':=ah h;clear h
   obtain⟨⟨h1,h2,hse,hby,hnd⟩,h⟩:=h'
   subst h1;subst h2
   obtain⟨p,q,hpq,hpx,hqx⟩:∃p q,c.args.toList=[p,q]/\tev S p=x/\tev S q= .vh n2:=by
    match hcl:c.args.toList,hargs with
    |[p,q],hargs=>simp at hargs;exact⟨p,q,rfl,hargs.1,hargs.2⟩
    |[],hargs=>simp at hargs
    |[_],hargs=>simp at hargs
    |_::_::_::_,hargs=>simp at hargs
   have hca:c.args= #[p,q]:=by rw[<-Pb];exact hpq
   have hct:c.argTypes= #[t,t]:=by rw[<-Pb];exact htys
   have hqe:Go.Awp.ev (az V S) q= .vh n2 (ys.map λx=>bR V.sz V.enc V.tid V.encd e x).length:=by
    rw[ak,hqx];simp only[an];rw[dlen hn2];simp
   have hone:(ys.map λx=>bR V.sz V.enc V.tid V.encd e x).flatten.all DD.one=true:=by
    rw[List.all_flatten,OZ,NM]
    intro y _
    exact Am e y
   have hown2:(az V S).own? n2=some (.dvec te sz (ys.map λx=>bR V.sz V.enc V.tid V.encd e x)):=by rw[gC hn2,hse]
   have good2:∀(n:Nat) (o1:TO V.N) (m:Nat) (p:TO V.N),gt [(nm d,o1),(n, .gone (S.len n)),(n2, .gone (S.len n2))] m=some p->m∈[nm d]\/TO.len (some p)=S.len m:=by
    intro n o1 m p hm
    simp only[af]at hm
    by_cases e1:nm d=m
    ·left;simp[e1]
    ·rw[Q5 e1]at hm
     right
     by_cases e2:n=m
     ·rw[Q6 e2]at hm;cases hm;subst e2;rfl
     ·rw[Q5 e2]at hm
      by_cases e3:n2=m
      ·rw[Q6 e3]at hm;cases hm;subst e3;rfl
      ·rw[Q5 e3]at hm;simp[gt]at hm
   have two:∀(n:Nat) (xs:List (Option (den V.N e))) (o1:TO V.N),tev S p= .vh n->¬n=n2->S.len n=xs.length->(az V S).own? n=some (.dvec te sz (xs.map λx=>px V e x))->TO.len (some o1)=xs.length+ys.length->
    (∀ω,aX V ω o1=some (.dvec te sz ((xs.map λx=>px V e x)++ys.map λx=>bR V.sz V.enc V.tid V.encd e x)))->
    (if xs.length+ys.length<=most then k {val:= .vh (nm d),acc:=[n,n2],upd:=[(nm d,o1),(n, .gone (S.len n)),(n2, .gone (S.len n2))],new:=[nm d]}else none)=some r->OpD P nm o S k r:=by
    intro n xs o1 hp hn12 hln hown hlo henc h
    have h':=ah h;clear h
    obtain⟨hle,h⟩:=h'
    have hby':((xs.map λx=>px V e x).length+(ys.map λx=>bR V.sz V.enc V.tid V.encd e x).length) *bytes<=140737488355328:=by
     simp only[Nz,most]at hle⊢
     have:(xs.length+ys.length) *bytes<=4294967296 *32768:=P5 hle hby
     omega
    refine⟨_,h,λm p hm=>good2 n o1 m p hm,_, .append (nm:=nm) (rows:=xs.map λx=>px V e x) (ns:=[n,n2]) ho hc hca hct hdst ht (.inl ⟨n,by rw[ak,hp];simp only[an];rw[hln];simp,hown,hn12,rfl⟩) hqe hown2 hone hby' (by simp only[Nz,most]at hle⊢;omega),bq ?_ rfl ?_ rfl⟩
    ·simp only[an]
     rw[bV]
     simp only[af,Q2]
     rw[hlo,Nz,Nz]
    ·simp only[NF,N_,henc]
     rfl
   split at h
   ·rename_i n
    have h':=ah h;clear h
    obtain⟨⟨hnn,hn12⟩,h⟩:=h'
    split at h
    ·rename_i te1 e1 xs hn
     split at h
     ·rename_i he
      subst he
      have h':=ah h;clear h
      obtain⟨h3,h⟩:=h'
      subst h3
      refine two n (xs.map some) (.dvec te1 e (xs++ys)) hpx hn12 (by rw[dlen hn,Nz]) (by rw[fj,gC hn,hse]) (by simp[TO.len]) (λω=> ?_) (by rw[Nz];exact h)
      simp only[aX,Of]
      rw[fj,hse]
     ·cases h
    ·rename_i te1 e1 xs hn
     split at h
     ·rename_i he
      subst he
      have h':=ah h;clear h
      obtain⟨h3,h⟩:=h'
      subst h3
      refine two n xs (.pvec te1 e (xs++ys.map some)) hpx hn12 (Kl hn) (by rw[mP hn,hse]) (by simp[TO.len]) (λω=> ?_) h
      simp only[aX,Of]
      rw[fj,hse]
     ·cases h
    ·cases h
   ·have h':=ah h;clear h
    obtain⟨hle,h⟩:=h'
    have hby':(([]:List (List DD)).length+(ys.map λx=>bR V.sz V.enc V.tid V.encd e x).length) *bytes<=140737488355328:=by
     simp only[Nz,OJ,most]at hle⊢
     have:ys.length *bytes<=4294967296 *32768:=P5 hle hby
     rw[N2];omega
    refine⟨_,h,λm p hm=> ?_,_, .append (nm:=nm) (rows:=[]) (ns:=[n2]) ho hc hca hct hdst ht (.inr ⟨by rw[ak,hpx];rfl,rfl,rfl⟩) hqe hown2 hone hby' (by simp only[Nz,OJ,most]at hle⊢;omega),bq ?_ rfl ?_ rfl⟩
    ·simp only[af]at hm
     by_cases e1:nm d=m
     ·left;simp[e1]
     ·rw[Q5 e1]at hm
      right
      by_cases e3:n2=m
      ·rw[Q6 e3]at hm;cases hm;subst e3;rfl
      ·rw[Q5 e3]at hm;simp[gt]at hm
    ·simp only[an]
     rw[bV]
     simp only[af,Q2,TO.len,Nz,OJ,N2]
    ·simp only[NF,N_,aX,NW,hse]
   ·cases h
  ·cases h
 ·cases h
theorem H6{t:TypeId}{x:Operand}{lo hi mx:Option Operand}(ho:o.op= .slice t x lo hi mx)(h:H5 V P t x lo hi mx S k=some r):OpD P nm o S k r:=by
 unfold H5 at h
 split at h
 ·rename_i te sz by_ n ht hx
  split at h
  ·rename_i te1 e xs hn
   split at h
   ·rename_i l u hl hu
    have h':=ah h;clear h
    obtain⟨hse,h⟩:=h'
    have h':=ah h;clear h
    obtain⟨⟨h0,h1,h2⟩,h⟩:=h'
    have hlen:S.len n=xs.length:=by unfold TS.len;rw[hn];rfl
    exact⟨_,h,eQ S _ _,_, .cut (rows:=xs.map λx=>aT V.sz V.enc e x) (e:=te1) ho ht (by rw[ak,hx];simp only[an];rw[hlen,Nz]) (by rw[cf hn,hse]) (fG hl) (by rw[Nz];exact fG hu) h0 h1 (by rw[Nz];exact h2),lT rfl⟩
   ·cases h
  ·cases h
 ·cases h
theorem Eu{c:Call}(ho:o.op= .call c)(hc:c.callee= .builtin .append)(h:Cw V P nm (c.args.toList.map (tev S)) c.argTypes.toList o.dst S k=some r):OpD P nm o S k r:=by
 unfold Cw at h
 split at h
 ·rename_i n sz lo i n2 sz2 j len t t' d hargs htys hdst
  split at h
  ·rename_i te sz' by_ te1 e xs ht hn
   have h':=ah h;clear h
   obtain⟨⟨⟨e1,e2⟩,⟨e3,e4⟩,e5,e6⟩,⟨e7,e8⟩,e9,e10,e11⟩:=h'.1
   have h:=h'.2
   subst e1;subst e2;subst e4;subst e5;subst e6;subst e7;subst e8
   obtain⟨p,q,hpq,hpx,hqx⟩:∃p q,c.args.toList=[p,q]/\tev S p= .sv n2 sz2 0 i/\tev S q= .sv n2 sz2 j (xs.length-j):=by
    match hcl:c.args.toList,hargs with
    |[p,q],hargs=>simp at hargs;exact⟨p,q,rfl,hargs.1,hargs.2⟩
    |[],hargs=>simp at hargs
    |[_],hargs=>simp at hargs
    |_::_::_::_,hargs=>simp at hargs
   have hca:c.args= #[p,q]:=by rw[<-Pb];exact hpq
   have hct:c.argTypes= #[t,t]:=by rw[<-Pb];exact htys
   have hone:(xs.map λx=>aT V.sz V.enc e x).all (λr=>r.all D.one)=true:=by
    rw[OZ,NM]
    intro y _
    exact rK
   refine⟨_,h,λm o1 hm=> ?_,_, .join (nm:=nm) (rows:=xs.map λx=>aT V.sz V.enc e x) (m:=n2) (i:=i) (j:=j) ho hc hca hct hdst ht (by rw[ak,hpx];rfl) (by rw[ak,hqx];simp only[an,Nz]) (by rw[cf hn,e3]) e9 (by rw[Nz];exact e10) hone (λe0=>by have:=congrArg Pv e0;rw[Nz,OJ]at this;omega),bq ?_ rfl ?_ rfl⟩
   ·simp only[af]at hm
    by_cases q1:nm d=m
    ·left;simp[q1]
    ·rw[Q5 q1]at hm
     right
     by_cases q2:n2=m
     ·rw[Q6 q2]at hm;cases hm;subst q2;rfl
     ·rw[Q5 q2]at hm;simp[gt]at hm
   ·simp only[an]
    rw[bV]
    simp only[af,Q2,TO.len,NT,Oa,Oe,Nz]
    rw[OO (by omega)]
   ·simp only[NF,N_,aX,Of,OE,OG,e3]
  ·cases h
 ·cases h
theorem EK{ω:Nat->Nat}{z:List Value}(hz:z.all cp=true):ws z (encL V ω (z.map tvc)) []:=by
 rw[iV hz]
 induction z with
 |nil=>exact .nil
 |cons x z ih=>exact .keep x (ih (by simp only[OQ,NH]at hz;exact hz.2))
theorem BN(e:Ty V.ι)(ω:Nat->Nat):∃o,aX V ω (tW V e [])=some o/\∃a s,o= .vec a s []\/o= .dvec a s []:=by
 unfold tW
 split
 ·exact⟨_,rfl,V.tid e,_, .inl rfl⟩
 ·exact⟨_,rfl,V.tid e,_, .inr rfl⟩
theorem jQ(b:Nat)(ω:Nat->Nat):∀(z:List Value) (ts:List (Ty V.ι)) (j:Nat),z.all cp=true->(∀p∈(lD V b j ts z).2,ω p.1=0)->
 ∃os,ws z (encL V ω (lD V b j ts z).1) os/\os.map (λp=>(p.1,some p.2))=(lD V b j ts z).2.map (λp=>(p.1,aX V ω p.2))
 |[],ts,j,hz,_=>by
  cases ts<;>exact⟨[], .nil,rfl⟩
 |x::z,[],j,hz,_=>⟨[],by simp only[lD];exact EK hz,rfl⟩
 |x::z,t::ts,j,hz,hω=>by
  have hz2:cp x=true/\z.all cp=true:=by simpa only[OQ,NH]using hz
  unfold lD at hω⊢
  split
  ·rename_i e
   obtain⟨os,h1,h2⟩:=jQ b ω z ts (j+1) hz2.2 λp hp=>hω p (NC _ hp)
   obtain⟨o,o1,a,s,o2⟩:=BN (V:=V) e ω
   refine⟨(xh b j,o)::os,?_,by simp only[NF,h2,o1]⟩
   simp only[encL,an]
   have:=hω _ NG
   simp only at this
   rw[this]
   exact .new _ a s o o2 h1
  ·rename_i hno
   have hω':∀p∈(lD V b (j+1) ts z).2,ω p.1=0:=by
    intro p hp
    refine hω p ?_
    split
    ·exact NC _ hp
    ·exact hp
   obtain⟨os,h1,h2⟩:=jQ b ω z ts (j+1) hz2.2 hω'
   refine⟨os,?_,h2⟩
   simp only[encL]
   have:an V ω (tvc x)= .d (.v x):=by
    have:=iV (V:=V) (ω:=ω) (z:=[x]) (by simp[hz2.1])
    simpa[encL]using this
   rw[this]
   exact .keep x h1
theorem n7(b:Nat):∀(z:List Value) (ts:List (Ty V.ι)) (j:Nat),∀p∈(lD V b j ts z).2,TO.len (some p.2)=0
 |[],ts,j,p,hp=>by cases ts<;>cases hp
 |x::z,[],j,p,hp=>by cases hp
 |x::z,t::ts,j,p,hp=>by
  unfold lD at hp
  split at hp
  ·rcases NI.1 hp with rfl|hp
   ·exact tX _ _
   ·exact n7 b z ts (j+1) p hp
  ·exact n7 b z ts (j+1) p hp
theorem Ez{t:TypeId}{parts:Array (Nat×Operand)}(ho:o.op= .build t parts)(h:CB V P t parts.toList o.dst k=some r):OpD P nm o S k r:=by
 unfold CB at h
 split at h
 ·rename_i z pl hparts hz hpl
  have hpa:parts= #[]:=by rw[<-Pb];exact hparts
  subst hpa
  split at h
  ·rename_i i d hty hdst
   split at h
   ·rename_i vs os hall hT
    split at h
    ·rename_i hdi
     have hdi:=eZ hdi
     have hlen:∀p∈os,(S.app o.dst {val:= .agg vs,acc:=[],upd:=os,new:=os.map (·.1)}).len p.1=0:=by
      intro p hp
      rw[bV]
      have:gt os p.1=some p.2:=qS hdi hp
      simp only[this]
      have h9:=n7 (V:=V) d z (V.tys i) 0
      rw[hT]at h9
      exact h9 p hp
     obtain⟨os',h1,h2⟩:=jQ (V:=V) d (S.app o.dst {val:= .agg vs,acc:=[],upd:=os,new:=os.map (·.1)}).len z (V.tys i) 0 hall (by rw[hT];exact hlen)
     rw[hT]at h1 h2
     simp only at h1 h2
     have hnames:os.map (·.1)=os'.map (·.1):=by
      have:=congrArg (QM (·.1)) h2
      rw[N0,N0]at this
      exact this.symm
     refine⟨_,h,λm p hm=> .inl (nU (bH hm)),_, .nils ho hdst hz hpl h1 (by rw[<-hnames];exact hdi),bq rfl hnames.symm h2 rfl⟩
    ·cases h
   ·cases h
  ·cases h
 ·cases h
theorem wc(hf:∀te,k te=some r->∀d∈te.new,S.fresh d=true)(h:H7 V P nm o S k=some r):OpD P nm o S k r:=by
 unfold H7 at h
 split at h
 ·rename_i t x ho;exact Ew hf ho h
 ·rename_i t x y ho;exact CE ho h
 ·rename_i t x i ho;exact H_ ho h
 ·rename_i t len parts ho;exact Cs ho h
 ·rename_i c ho
  split at h
  ·rename_i hc
   split at h
   ·exact Eu ho hc h
   ·exact H1 ho hc h
  ·cases h
 ·rename_i t x lo hi mx ho;exact H6 ho h
 ·rename_i t parts ho;exact Ez ho h
 ·cases h
end
end
end Go.Tx
end
section
namespace Go.Tx
open Go.Awp
variable [Inhabited GMem]
section
variable {V:i7}
theorem wN{α:Type}{s:Nat}:∀{rows:List (List α)} {i:Nat} {r:List α},(∀r∈rows,r.length=s)->rows[i]?=some r->(rows.flatten.drop (i *s)).take s=r
 |[],i,r,_,h=>by simp at h
 |x::rows,0,r,hz,h=>by
  simp only[O9,Ny]at h
  subst h
  have:=hz x NG
  simp[Od,Qv,this]
 |x::rows,i+1,r,hz,h=>by
  have hx:=hz x NG
  have:=wN (λr hr=>hz r (NC _ hr)) (by simpa using h)
  rw[Od,N8,Qy,hx,Pe (by omega),NW]
  rw[show i *s+s-s=i *s by omega]
  exact this
theorem di{α:Type}{s:Nat}:∀{rows:List (List α)},(∀r∈rows,r.length=s)->rows.flatten.length=rows.length *s
 |[],_=>by simp
 |x::r,h=>by
  rw[Od,NT,h x NG,di λy hy=>h y (NC _ hy),Oj,N8]
  omega
theorem j9(e:Ty V.ι)(xs:List (den V.N e)):∀r∈xs.map (λx=>aT V.sz V.enc e x),r.length=tsz V.sz e:=λr hr=>by
 obtain⟨x,_,rfl⟩:=N3.1 hr
 exact bG e x
theorem qF{n i:Nat}{e:Ty V.ι}{xs:List (den V.N e)}{y:den V.N e}(hi:i<n)(hx:xs[i]?=some y):((aT V.sz V.enc (.ar n e) xs).drop (i *tsz V.sz e)).take (tsz V.sz e)=aT V.sz V.enc e y:=by
 have h1:=wN (s:=tsz V.sz e) (j9 e xs) (i:=i) (r:=aT V.sz V.enc e y) (by rw[NB,hx];rfl)
 have hil:i<xs.length:=(Nx.1 hx).1
 have h2:=di (j9 (V:=V) e xs)
 rw[Nz]at h2
 have m1:(i+1) *tsz V.sz e<=n *tsz V.sz e:=NR _ hi
 have m2:(i+1) *tsz V.sz e<=xs.length *tsz V.sz e:=NR _ hil
 rw[N8]at m1 m2
 simp only[aT,arL]
 rw[List.drop_take,Qh,OO (by omega),List.drop_append_of_le_length (by omega),O2 (by rw[Oe];omega)]
 exact h1
theorem gk{α:Type}{s:Nat}:∀{rows:List (List α)} {i:Nat} {r:List α},(∀r∈rows,r.length=s)->i<rows.length->(rows.set i r).flatten=rows.flatten.take (i *s)++r++rows.flatten.drop (i *s+s)
 |[],i,r,_,h=>by simp at h
 |x::rows,0,r,hz,h=>by
  have hx:=hz x NG
  simp[Od,hx]
 |x::rows,i+1,r,hz,h=>by
  have hx:=hz x NG
  have ih:=gk (r:=r) (λr hr=>hz r (NC _ hr)) (by simpa using h)
  have e1:(x++rows.flatten).take ((i+1) *s)=x++rows.flatten.take (i *s):=by
   rw[Qv,Oh (l:=x) (by rw[hx,N8];omega),hx,N8,Nat.add_sub_cancel]
  have e2:(x++rows.flatten).drop ((i+1) *s+s)=rows.flatten.drop (i *s+s):=by
   rw[Qy,(Pe (by rw[hx,N8];omega):x.drop _=[]),hx,N8,NW]
   congr 1;omega
  simp only[List.set_cons_succ,Od]
  rw[ih,e1,e2]
  simp[Oi]
theorem zH{n i:Nat}{e:Ty V.ι}{xs:List (den V.N e)}{y':den V.N e}(hi:i<n)(hx:i<xs.length):
 aT V.sz V.enc (.ar n e) (xs.set i y')=(aT V.sz V.enc (.ar n e) xs).take (i *tsz V.sz e)++aT V.sz V.enc e y'++(aT V.sz V.enc (.ar n e) xs).drop (i *tsz V.sz e+tsz V.sz e):=by
 have h2:=di (j9 (V:=V) e xs)
 rw[Nz]at h2
 have m1:(i+1) *tsz V.sz e<=n *tsz V.sz e:=NR _ hi
 have m2:(i+1) *tsz V.sz e<=xs.length *tsz V.sz e:=NR _ hx
 rw[N8]at m1 m2
 have hl:=bG e y'
 simp only[aT,arL,Pd]
 rw[gk (j9 e xs) (by rw[Nz];exact hx)]
 generalize (QM (λx=>aT V.sz V.enc e x) xs).flatten=F at h2
 generalize aT V.sz V.enc e y'=c at hl
 generalize hs:tsz V.sz e=s at *
 generalize n *s=N at *
 apply Ot
 intro k
 simp only[NO,QO,NT,Oa,N7,P8,Oe,Ph]
 grind
theorem E3{ω:Nat->Nat}{n:Nat}{e:Ty V.ι}{xs:List (den V.N e)}:an V ω (.lf (.ar n e) xs)= .d (.agg (aT V.sz V.enc (.ar n e) xs)):=rfl
theorem AX{e:Ty V.ι}{y:den V.N e}{ds:List D}{ag:Bool}(h:ds.take (tsz V.sz e)=aT V.sz V.enc e y)(ha:ag= !e.cell):da ag (tsz V.sz e) ds=some (aK V.sz V.enc e y):=by
 have hl:=bG (V:=V) e y
 have hdl:tsz V.sz e<=ds.length:=by
  have:=congrArg Pv h
  rw[hl,Oa]at this;omega
 have cell:e.cell=true->aT V.sz V.enc e y=[aK V.sz V.enc e y]->tsz V.sz e=1->da ag (tsz V.sz e) ds=some (aK V.sz V.enc e y):=by
  intro hc h1 h2
  rw[hc]at ha
  subst ha
  simp only[da,OY]
  rw[h1,h2]at h
  cases ds with
  |nil=>simp at h
  |cons d r=>simp at h;simp[h]
 cases e with
 |st i=>
  subst ha
  simp only[Ty.cell,O6,da,Q6 hdl,h]
  rfl
 |ar n e=>
  subst ha
  simp only[Ty.cell,O6,da,Q6 hdl,h]
  rfl
 |_=>exact cell rfl rfl rfl
theorem n_{S:TS V.N}{n m:Nat}{e:Ty V.ι}{xs:List (den V.N e)}(h:S.own? n=some (.bar m e xs)):(az V S).own? n=some (.box none ((aT V.sz V.enc (.ar m e) xs).map .d)):=by rw[aG,h];rfl
theorem AQ{S:TS V.N}{n m:Nat}{e:Ty V.ι}{xs:List (den V.N e)}(h:S.own? n=some (.bar m e xs)):S.len n=0:=by unfold TS.len;rw[h];rfl
theorem rI{S:TS V.N}{n:Nat}{te:TypeId}{e:Ty V.ι}{xs:List (den V.N e)}(h:S.own? n=some (.que te e xs)):(az V S).own? n=some (.que te (tsz V.sz e) (xs.map λx=>aT V.sz V.enc e x)):=by rw[aG,h];rfl
theorem vi{S:TS V.N}{n:Nat}{te:TypeId}{e:Ty V.ι}{xs:List (den V.N e)}(h:S.own? n=some (.que te e xs)):S.len n=xs.length:=by unfold TS.len;rw[h];rfl
theorem gD{S:TS V.N}{n:Nat}{te:TypeId}{k v:Ty V.ι}{es:List (Option (List (den V.N k×den V.N v)))}{al:Option (Nat×Nat)}(h:S.own? n=some (.maps te k v es al)):
 (az V S).own? n=some (.maps te (es.map λo=>o.map λl=>l.map λp=>(dM V.enc k p.1,aK V.sz V.enc v p.2)) al):=by rw[aG,h];rfl
theorem gp{S:TS V.N}{n:Nat}{te:TypeId}{k v:Ty V.ι}{es:List (Option (List (den V.N k×den V.N v)))}{al:Option (Nat×Nat)}(h:S.own? n=some (.maps te k v es al)):S.len n=es.length:=by unfold TS.len;rw[h];rfl
theorem kJ{S:TS V.N}{n m:Nat}(h:S.own? n=some (.alias m)):(az V S).own? n=none:=by rw[aG,h];rfl
theorem kp{S:TS V.N}{n m:Nat}(h:S.own? n=some (.alias m)):S.len n=0:=by unfold TS.len;rw[h];rfl
end
section
variable (V:i7) (P:Program) (nm:Nat->Nat)
def fnF(e:Ty V.ι):TV V.N->TV V.N
 | .lf .fnc f=>match e with
  | .fno=> .lf .fno (some f)
  |_=> .lf .fnc f
 |v=>v
def wd{A:Type}(t:TypeId)(x i:Operand)(S:TS V.N)(k:TE V.N->Option A):Option A:=match sc P t,tev S x,tev S i with
 |some (len,_,ag,sz), .lf (.ar n e) xs, .lf (.int _) j=>if n=len/\sz=tsz V.sz e/\ag= !e.cell then
  if 0<=j/\j<len then xs[j.toNat]?>>=λy=>k {val:= .lf e y}else none
  else none
 |_,_,_=>none
def H8{A:Type}(t:TypeId)(x i:Operand)(S:TS V.N)(k:TE V.N->Option A):Option A:=match sc P t,tev S i with
 |some (len,_,_,sz), .lf (.int _) j=>match tev S x with
  | .bp m 0=>match S.own? m with
   |some (.bar n e _)=>if n=len/\sz=tsz V.sz e then
    if 0<=j/\j<len then k {val:= .ai m sz j.toNat 0}else none
    else none
   |_=>none
  | .rp (.ar n e) xs 0=>if n=len/\sz=tsz V.sz e then
    if 0<=j/\j<len then xs[j.toNat]?>>=λy=>k {val:= .rp e y 0}else none
   else none
  | .ep m s i' off=>if 0<=j/\j<len then k {val:= .ep m s i' (off+j.toNat *sz)}else none
  |_=>none
 |_,_=>none
def vj{A:Type}(ag:Bool)(sz:Nat)(ot:Option (Ty V.ι)):(t:Ty V.ι)->den V.N t->Nat->(TV V.N->Option A)->Option A
 | .ar n e,xs,off,k=>if off=0/\ot=some (.ar n e)/\ag=true/\sz=tsz V.sz (.ar n e)then k (.lf (.ar n e) xs)
   else if off/tsz V.sz e<n then xs[off/tsz V.sz e]?>>=λy=>vj ag sz ot e y (off%tsz V.sz e) k else none
 |t,x,off,k=>match td V ag sz ot t x off with
  |some v=>k v
  |none=>none
def xk{A:Type}(t:TypeId)(x:Operand)(S:TS V.N)(k:TE V.N->Option A):Option A:=match bt P t with
 |some (ag,sz)=>match tev S x with
  | .ai n s i off=>match S.own? n with
   |some (.bar m e xs)=>if s=tsz V.sz e/\off+fN ag sz<=s then
    if i<m then xs[i]?>>=λy=>vj V ag sz (V.ty t) e y off λv=>k {val:=v,acc:=[n]}else none
    else none
   |_=>none
  | .bp n 0=>match S.own? n with
   |some (.bar m e xs)=>if V.ty t=some (.ar m e)/\ag=true/\sz=tsz V.sz (.ar m e)then k {val:= .lf (.ar m e) xs,acc:=[n]}else none
   |_=>none
  | .ep n s i off=>match S.own? n with
   |some (.vec _ e xs)=>if s=tsz V.sz e then xs[i]?>>=λy=>vj V ag sz (V.ty t) e y off λv=>k {val:=v,acc:=[n]}else none
   |some (.que _ e xs)=>if s=tsz V.sz e then xs[i]?>>=λy=>vj V ag sz (V.ty t) e y off λv=>k {val:=v,acc:=[n]}else none
   |_=>none
  | .rp t' y off=>vj V ag sz (V.ty t) t' y off λv=>k {val:=v}
  |_=>none
 |none=>none
def wl{A:Type}(t:TypeId)(x y:Operand)(S:TS V.N)(k:TE V.N->Option A):Option A:=match bt P t,TV.cells V (tev S y)with
 |some (_,sz),some cs=>match tev S x with
  | .ai n s i 0=>match S.own? n with
   |some (.bar m e xs)=>if s=tsz V.sz e/\cs.length=sz/\sz=s/\cs.all TV.one=true then
    if i<m then if i<xs.length then match cy V true e cs with
     |some z=>k {val:= .junk,acc:=[n],upd:=[(n, .bar m e (xs.set i z))]}
     |none=>none
    else none else none
    else none
   |_=>none
  | .bp n 0=>match S.own? n,tev S y with
   |some (.bar m e _), .lf (.ar m' e') ys=>if m'=m/\e'=e/\sz=tsz V.sz (.ar m e)then k {val:= .junk,acc:=[n],upd:=[(n, .bar m' e' ys)]}else none
   |_,_=>none
  |_=>none
 |_,_=>none
def zeq:Value->Value->Bool
 | .int k n, .int k' n'=>decide (k=k')&&decide (n=n')
 | .bool a, .bool b=>a==b
 | .nilFunc, .nilFunc=>true
 | .string a, .string b=>decide (a=b)
 |_,_=>false
def Kq:List Value->List Value->Bool
 |[],[]=>true
 |a::r,b::s=>zeq a b&&Kq r s
 |_,_=>false
def v6{A:Type}(t:TypeId)(dst:Option Tmp)(k:TE V.N->Option A):Option A:=match V.ty t,f_ P t,dst with
 |some (.ar n e),some z,some d=>match cy V true e ((z.take (tsz V.sz e)).map tvc)with
  |some y=>if z.all cp=true/\s8 t z=none/\Kq z (On n (z.take (tsz V.sz e))).flatten=true then k {val:= .bp (nm d) 0,upd:=[(nm d, .bar n e (On n y))],new:=[nm d]}else none
  |none=>none
 |_,_,_=>none
def H2{A:Type}(x:Operand)(dst:Option Tmp)(S:TS V.N)(k:TE V.N->Option A):Option A:=match tev S x,dst with
 | .lf (.ar n e) xs,some d=>k {val:= .bp (nm d) 0,upd:=[(nm d, .bar n e xs)],new:=[nm d]}
 |_,_=>none
def Ic{A:Type}(x:Operand)(S:TS V.N)(k:TE V.N->Option A):Option A:=match tev S x with
 | .lf (.op e) y=>y>>=λz=>k {val:= .rp e z 0}
 |_=>none
def dQ:List (Ty V.ι)->Option (List CK)
 |[]=>some []
 |t::r=>match t,dQ r with
  | .int k,some l=>some (.int k::l)
  | .bool,some l=>some (.bool::l)
  | .str,some l=>some (.str::l)
  |_,_=>none
def AN(P:Program)(t:TypeId):Bool:=match P.underlying t with
 |some (.struct _)=>true
 |_=>false
def I8(P:Program)(t:TypeId):Bool:=match P.underlying t with
 |some (.func _ _ _)=>true
 |_=>false
def H4{A:Type}(op:BinOp)(xt:TypeId)(x y:Operand)(S:TS V.N)(k:TE V.N->Option A):Option A:=match K9 op,tev S x,tev S y with
 |some q, .lf (.op _) a, .raw (.pointer none)=>match lu P xt with
  |true=>match q with
   |true=>k {val:= .lf .bool a.isNone}
   |false=>k {val:= .lf .bool a.isSome}
  |false=>none
 |some q, .lf .fno a, .raw .nilFunc=>match I8 P xt with
  |true=>match q with
   |true=>k {val:= .lf .bool a.isNone}
   |false=>k {val:= .lf .bool a.isSome}
  |false=>none
 |some q, .lf (.st i) a, .lf (.st j) b=>if i=j/\AN P xt=true/\P.eqGuardType P.depth xt=false/\(gY P 100 xt).isSome=true/\dQ V (V.tys i)=gY P 100 xt then match q with
  |true=>k {val:= .lf .bool (Ao (V.cells i a) (V.cells j b))}
  |false=>k {val:= .lf .bool (!Ao (V.cells i a) (V.cells j b))}
  else none
 |_,_,_=>none
def JA{α:Type}:List α->Nat->α->List α
 |[],_,_=>[]
 |_::r,0,x=>x::r
 |a::r,i+1,x=>a::JA r i x
def Jz(e:Ty V.ι):List (den V.N e)->List (Nat×TV V.N)->Option (List (den V.N e))
 |ys,[]=>some ys
 |ys,(i,x)::r=>if i<ys.length then match Dh V true e x with
  |some y=>Jz e (JA ys i y) r
  |none=>none
  else none
def v7{A:Type}(t:TypeId)(parts:List (Nat×Operand))(S:TS V.N)(k:TE V.N->Option A):Option A:=match V.ty t,sc P t,f_ P t with
 |some (.ar n e),some (len,_,_,sz),some z=>match cy V true (.ar n e) (z.map tvc)with
  |some ys0=>if(n=len/\sz=tsz V.sz e)/\z.all cp=true/\Pv ys0=n then
   match Jz V e ys0 (parts.map λ(i,x)=>(i,fnF V e (fnT (tev S x))))with
   |some ys=>k {val:= .lf (.ar n e) ys}
   |none=>none
   else none
  |none=>none
 |_,_,_=>none
def v_{A:Type}(t:TypeId)(parts:List (Nat×Operand))(S:TS V.N)(k:TE V.N->Option A):Option A:=match f_ P t,places P t with
 |some z,some pl=>if z.all cp=true then match uZ V pl (z.map tvc) (parts.map λ(i,x)=>(i,fnT (tev S x)))with
  |some cs=>k {val:=mkV V true (V.ty t) cs}
  |none=>none
  else none
 |_,_=>none
def s5:Nat->List (TV V.N)->Option Nat
 |_,[]=>none
 |j,x::r=>match x with
  | .raw (.slice none 0 0)=>some j
  |_=>s5 (j+1) r
def wa{A:Type}(t:TypeId)(parts:List (Nat×Operand))(dst:Option Tmp)(S:TS V.N)(k:TE V.N->Option A):Option A:=match f_ P t,places P t,V.ty t,dst with
 |some z,some pl,some (.st s),some d=>if z.all cp=true then match uZ V pl (z.map tvc) (parts.map λ(i,x)=>(i,tev S x))with
  |some cs=>match s5 V 0 cs with
   |some j=>match(V.tys s)[j]? with
    |some (.sl e)=>match TV.hasL (53000+d) cs with
     |false=>k {val:= .agg (JA cs j (.vh (53000+d))),upd:=[(53000+d, .vec (V.tid e) e [])],new:=[53000+d]}
     |true=>none
    |_=>none
   |none=>none
  |none=>none
  else none
 |_,_,_,_=>none
end
section
variable {V:i7} {P:Program} {nm:Nat->Nat} {o:Oper} {S:TS V.N} {A:Type} {k:TE V.N->Option A} {r:A}
def _root_.Go.Tx.Ty.flat0{ι:Type}:Ty ι->Bool
 | .int _=>true
 | .bool=>true
 | .str=>true
 |_=>false
theorem cz{v:TV V.N}{l:List Nat}{h:H}(hk:k {val:=v,acc:=l}=some r)(hs:aB P nm o (Go.Awp.ev (az V S)) (az V S).own? {val:=h,acc:=l})(he:h=an V S.len v):OpD P nm o S k r:=
 ⟨_,hk,eQ S _ _,_, .sem hs,lT he⟩
theorem zj{t:TypeId}{x i:Operand}(ho:o.op= .index t x i)(h:wd V P t x i S k=some r):OpD P nm o S k r:=by
 unfold wd at h
 split at h
 ·rename_i len te ag sz n e xs kk j ht hx hi
  replace h:=ah h
  obtain⟨⟨e1,e2,e3⟩,h⟩:=h
  replace h:=ah h
  obtain⟨⟨h0,h1⟩,h⟩:=h
  replace h:=aR h
  obtain⟨y,hy,h⟩:=h
  subst e1;subst e2
  refine cz h (.index (n:=j) (ds:=aT V.sz V.enc (.ar n e) xs) ho ht (by rw[ak,hx];rfl) (by rw[ak,hi];rfl) h0 h1 (AX (y:=y) (qF ((Int.toNat_lt h0).2 h1) hy) e3)) (by simp only[an])
 ·cases h
theorem Et{t:TypeId}{x i:Operand}(ho:o.op= .indexAddr t x i)(h:H8 V P t x i S k=some r):OpD P nm o S k r:=by
 unfold H8 at h
 split at h
 ·rename_i len te ag sz kk j ht hi
  have hi':Go.Awp.ev (az V S) i= .d (.v (.int kk j)):=by rw[ak,hi];rfl
  split at h
  ·rename_i m hx
   split at h
   ·rename_i n e xs hown
    replace h:=ah h
    obtain⟨⟨e1,e2⟩,h⟩:=h
    replace h:=ah h
    obtain⟨⟨h0,h1⟩,h⟩:=h
    exact cz h (.indexArr (hx':= .bp m (0+j.toNat *sz)) ho ht hi' h0 h1 (.inl ⟨m,0,by rw[ak,hx];rfl,rfl⟩)) (by simp[an])
   ·cases h
  ·rename_i n e xs hx
   replace h:=ah h
   obtain⟨⟨e1,e2⟩,h⟩:=h
   replace h:=ah h
   obtain⟨⟨h0,h1⟩,h⟩:=h
   replace h:=aR h
   obtain⟨y,hy,h⟩:=h
   subst e1;subst e2
   have hj:Int.toNat j<n:=(Int.toNat_lt h0).2 h1
   have m1:(j.toNat+1) *tsz V.sz e<=n *tsz V.sz e:=NR _ hj
   rw[N8]at m1
   refine cz h (.indexArr (n:=j) (hx':= .d (.rp (((aT V.sz V.enc (.ar n e) xs).drop (j.toNat *tsz V.sz e)).take (tsz V.sz e)))) ho ht hi' h0 h1 (.inr (.inr ⟨aT V.sz V.enc (.ar n e) xs,by rw[ak,hx];simp[an],?_,rfl⟩))) ?_
   ·rw[bG];exact m1
   ·rw[qF hj hy];simp[an]
  ·rename_i m s i' off hx
   replace h:=ah h
   obtain⟨⟨h0,h1⟩,h⟩:=h
   exact cz h (.indexArr ho ht hi' h0 h1 (.inr (.inl ⟨m,s,i',off,by rw[ak,hx];rfl,rfl⟩))) (by simp[an])
  ·cases h
 ·cases h
theorem AW{ag:Bool}{sz:Nat}{a b:List D}{d:D}(h:da ag sz a=some d):da ag sz (a++b)=some d:=by
 cases ag with
 |true=>
  simp only[da]at h⊢
  split at h
  ·rename_i hl
   rw[Q6 (by rw[NT];omega),O2 hl];exact h
  ·cases h
 |false=>
  cases a with
  |nil=>simp[da]at h
  |cons x r=>exact h
theorem tc{ag:Bool}{sz m off:Nat}{l row:List D}{d:D}(hr:l.take m=row)(h:da ag sz (row.drop off)=some d):da ag sz (l.drop off)=some d:=by
 rw[<-OV m l,hr,Qy]
 exact AW h
theorem AV{ag:Bool}{sz:Nat}{ds:List D}{d:D}(h:da ag sz ds=some d):eR ag sz (ds.map H.d)=some (.d d):=by
 cases ag with
 |true=>
  simp only[da,eR,Nz]at h⊢
  split at h
  ·rename_i hl
   rw[Q6 hl,<-OE,bA,cY]
   simp only[Ny]at h;subst h;rfl
  ·cases h
 |false=>
  cases ds with
  |nil=>simp[da]at h
  |cons x r=>simp[da]at h;subst h;rfl
theorem fe{ω:Nat->Nat}{ag:Bool}{sz:Nat}{ot:Option (Ty V.ι)}{B:Type}{f:TV V.N->Option B}{b:B}:∀(t:Ty V.ι) (x:den V.N t) (off:Nat),vj V ag sz ot t x off f=some b->
 ∃v,f v=some b/\∃d,da ag sz ((aT V.sz V.enc t x).drop off)=some d/\∀ω,an V ω v= .d d
 | .ar n e,xs,off,h=>by
  simp only[vj]at h
  split at h
  ·rename_i hc
   obtain⟨rfl,_,rfl,rfl⟩:=hc
   refine⟨_,h, .agg (aT V.sz V.enc (.ar n e) xs),?_,λω=>rfl⟩
   have hl:=bG (V:=V) (.ar n e) xs
   simp only[da,N9]
   rw[Q6 (by omega),Oh (by omega)]
  ·obtain⟨hn,h⟩:=ah h
   replace h:=aR h
   obtain⟨y,hy,h⟩:=h
   obtain⟨v,h1,d,h2,h3⟩:=fe (ω:=ω) e y _ h
   refine⟨v,h1,d,?_,h3⟩
   have:=tc (qF hn hy) h2
   rw[OX]at this
   rw[Pc,PF]at this
   exact this
 | .int _,x,off,h=>loadL_k h
 | .bool,x,off,h=>loadL_k h
 | .str,x,off,h=>loadL_k h
 | .st _,x,off,h=>loadL_k h
 | .sl _,x,off,h=>loadL_k h
 | .mp _ _,x,off,h=>loadL_k h
 | .er,x,off,h=>loadL_k h
 | .op _,x,off,h=>loadL_k h
 | .fnc,x,off,h=>loadL_k h
 | .fno,x,off,h=>loadL_k h
where
 loadL_k {ag:Bool} {sz:Nat} {ot:Option (Ty V.ι)} {B:Type} {f:TV V.N->Option B} {b:B} {t:Ty V.ι} {x:den V.N t} {off:Nat} (h:(match td V ag sz ot t x off with|some v=>f v|none=>none)=some b):
  ∃v,f v=some b/\∃d,da ag sz ((aT V.sz V.enc t x).drop off)=some d/\∀ω,an V ω v= .d d:=by
  split at h
  ·rename_i v hv
   obtain⟨d,h1,h2⟩:=ff (ω:=λ_=>0) hv
   refine⟨v,h,d,h1,λω=> ?_⟩
   obtain⟨d',h1',h2'⟩:=ff (ω:=ω) hv
   rw[h1]at h1';cases h1'
   exact h2'
  ·cases h
theorem ul{t:TypeId}{x:Operand}(ho:o.op= .load t x)(h:xk V P t x S k=some r):OpD P nm o S k r:=by
 unfold xk at h
 split at h
 ·rename_i ag sz ht
  have hop:o.op.operands= #[x]:=by rw[ho];rfl
  split at h
  ·rename_i n s i off hx
   split at h
   ·rename_i m e xs hown
    replace h:=ah h
    obtain⟨⟨e1,e2⟩,h⟩:=h
    replace h:=ah h
    obtain⟨hi,h⟩:=h
    replace h:=aR h
    obtain⟨y,hy,h⟩:=h
    obtain⟨v,h1,d,h2,h3⟩:=fe (ω:=S.len) _ _ _ h
    subst e1
    refine cz h1 (.ofAVal λρ' ω' hρ hω=> ?_) (h3 _).symm
    have hx':ρ' x= .bp n (i *tsz V.sz e+off):=by rw[hρ x (by rw[hop];simp),ak,hx];rfl
    have ho':ω' n=_:=(hω n (by simp)).trans (n_ hown)
    simp only[aS,ho,ht,hx',ho']
    have:=tc (qF hi hy) h2
    rw[OX]at this
    rw[<-OG,AV this]
   ·cases h
  ·rename_i n hx
   split at h
   ·rename_i m e xs hown
    replace h:=ah h
    obtain⟨⟨e1,e2,e3⟩,h⟩:=h
    subst e2;subst e3
    refine cz h (.ofAVal (e:={val:= .d (.agg (aT V.sz V.enc (.ar m e) xs)),acc:=[n]}) λρ' ω' hρ hω=> ?_) rfl
    have hx':ρ' x= .bp n 0:=by rw[hρ x (by rw[hop];simp),ak,hx];rfl
    have ho':ω' n=_:=(hω n (by simp)).trans (n_ hown)
    simp only[aS,ho,ht,hx',ho']
    have hl:=bG (V:=V) (.ar m e) xs
    rw[N9,AV (d:= .agg (aT V.sz V.enc (.ar m e) xs)) (by simp only[da];rw[Q6 (by omega),Oh (by omega)])]
   ·cases h
  ·rename_i n s i off hx
   split at h
   ·rename_i te e xs hown
    replace h:=ah h
    obtain⟨e1,h⟩:=h
    replace h:=aR h
    obtain⟨y,hy,h⟩:=h
    obtain⟨v,h1,d,h2,h3⟩:=fe (ω:=S.len) _ _ _ h
    subst e1
    refine cz h1 (.ofAVal λρ' ω' hρ hω=> ?_) (h3 _).symm
    have hx':ρ' x= .ep n (tsz V.sz e) i off:=by rw[hρ x (by rw[hop];simp),ak,hx];rfl
    have ho':ω' n=_:=(hω n (by simp)).trans (cf hown)
    simp only[aS,ho,ht,hx',ho',NB,hy,N6,h2]
    exact⟨trivial,trivial⟩
   ·rename_i te e xs hown
    replace h:=ah h
    obtain⟨e1,h⟩:=h
    replace h:=aR h
    obtain⟨y,hy,h⟩:=h
    obtain⟨v,h1,d,h2,h3⟩:=fe (ω:=S.len) _ _ _ h
    subst e1
    exact cz h1 (.qload ho ht (by rw[ak,hx];rfl) (rI hown) (r:=aT V.sz V.enc e y) (by rw[NB,hy];rfl) h2) (h3 _).symm
   ·cases h
  ·rename_i t' y off hx
   obtain⟨v,h1,d,h2,h3⟩:=fe (ω:=S.len) _ _ _ h
   refine cz h1 (.ofAVal λρ' ω' hρ hω=> ?_) (h3 _).symm
   have hx':ρ' x= .d (.rp ((aT V.sz V.enc t' y).drop off)):=by rw[hρ x (by rw[hop];simp),ak,hx];rfl
   simp only[aS,ho,ht,hx',h2]
  ·cases h
 ·cases h
theorem vG{n:Nat}{o':TO V.N}{x:Own}{l:List Nat}(hx:∀ω,aX V ω o'=some x)(hl:TO.len (some o')=S.len n)(hk:k {val:= .junk,acc:=l,upd:=[(n,o')]}=some r)
 (h:aB P nm o (Go.Awp.ev (az V S)) (az V S).own? {val:= .junk,acc:=l,upd:=[(n,some x)]}):OpD P nm o S k r:=by
 refine⟨_,hk,λm o1 hm=> ?_,_, .sem h,bq rfl rfl (by simp[hx]) rfl⟩
 simp only[af]at hm
 split at hm
 ·rename_i e;right;simp at hm;subst hm;subst e;exact hl
 ·simp[gt]at hm
theorem rF{d:Nat}{v:TV V.N}{h:H}{o':TO V.N}{x:Own}{l:List Nat}(hx:∀ω,aX V ω o'=some x)(hv:∀ω:Nat->Nat,ω d=TO.len (some o')->an V ω v=h)(hk:k {val:=v,acc:=l,upd:=[(d,o')],new:=[d]}=some r)
 (hs:aB P nm o (Go.Awp.ev (az V S)) (az V S).own? {val:=h,acc:=l,upd:=[(d,some x)],new:=[d]}):OpD P nm o S k r:=by
 refine⟨_,hk,λm o1 hm=> ?_,_, .sem hs,bq (hv _ ?_).symm rfl (by simp[hx]) rfl⟩
 ·simp only[af]at hm
  split at hm
  ·rename_i e;left;simp[e]
  ·simp[gt]at hm
 ·rw[bV];simp[af]
theorem zr{t:TypeId}{x y:Operand}(ho:o.op= .store t x y)(h:wl V P t x y S k=some r):OpD P nm o S k r:=by
 unfold wl at h
 split at h
 ·rename_i ag sz cs ht hcs
  have hop:o.op.operands= #[x,y]:=by rw[ho];rfl
  have hyc:=cd (ω:=S.len) hcs
  split at h
  ·rename_i n s i hx
   split at h
   ·rename_i m e xs hown
    replace h:=ah h
    obtain⟨⟨e1,e2,e3,e4⟩,h⟩:=h
    replace h:=ah h
    obtain⟨hi,h⟩:=h
    replace h:=ah h
    obtain⟨hil,h⟩:=h
    split at h
    ·rename_i z hz
     obtain⟨ds,d1,_,d3⟩:=dz (ω:=S.len) hz
     replace d3:=d3 rfl
     subst d3
     refine vG (x:= .box none ((aT V.sz V.enc (.ar m e) (xs.set i z)).map .d)) (λω=>rfl) (by rw[AQ hown];rfl) h (.ofAVal λρ' ω' hρ hω=> ?_)
     have hx':ρ' x= .bp n (i *s+0):=by rw[hρ x (by rw[hop];simp),ak,hx];rfl
     have hy':(ρ' y).cells=some (encL V S.len cs):=by rw[hρ y (by rw[hop];simp),ak];exact hyc
     have ho':ω' n=_:=(hω n (by simp)).trans (n_ hown)
     simp only[aS,ho,ht,hx',hy',ho',aJ]
     have hl:=bG (V:=V) (.ar m e) xs
     have m1:(i+1) *tsz V.sz e<=m *tsz V.sz e:=NR _ hi
     rw[N8]at m1
     have hl2:(aT V.sz V.enc (.ar m e) xs).length=m *tsz V.sz e:=hl
     subst e1
     refine⟨⟨e2,dN e4,by rw[Nz,hl2];omega⟩,?_⟩
     have hzl:=bG (V:=V) e z
     rw[zH hi hil,dX,aJ,d1]
     simp only[Of,OE,OG,Oo]
     have:cs.length=tsz V.sz e:=by omega
     rw[this]
    ·cases h
   ·cases h
  ·rename_i n hx
   split at h
   ·rename_i m e xs m' e' ys hown hy
    replace h:=ah h
    obtain⟨⟨e1,e2,e3⟩,h⟩:=h
    subst e1;subst e2
    rw[hy]at hcs
    simp only[TV.cells,Ny]at hcs
    subst hcs
    have he:encL V S.len ((aL V (.ar m' e') ys).map λl=>TV.lf l.t l.x)=(aT V.sz V.enc (.ar m' e') ys).map H.d:=by
     rw[bX,encL_map,N0,N0]
     exact NZ λl _=>by simp[an]
    rw[he]at hyc
    refine vG (x:= .box none ((aT V.sz V.enc (.ar m' e') ys).map .d)) (λω=>rfl) (by rw[AQ hown];rfl) h (.ofAVal λρ' ω' hρ hω=> ?_)
    have hx':ρ' x= .bp n 0:=by rw[hρ x (by rw[hop];simp),ak,hx];rfl
    have hy':(ρ' y).cells=some ((aT V.sz V.enc (.ar m' e') ys).map H.d):=by rw[hρ y (by rw[hop];simp),ak];exact hyc
    have ho':ω' n=_:=(hω n (by simp)).trans (n_ hown)
    simp only[aS,ho,ht,hx',hy',ho']
    have hl:=bG (V:=V) (.ar m' e') ys
    have hl2:=bG (V:=V) (.ar m' e') xs
    refine⟨⟨by rw[Nz,hl,e3],?_,by rw[Nz,hl2,e3];omega⟩,?_⟩
    ·rw[OZ]
     exact rK
    ·simp only[dX,P0,NW,Nz,N2]
     rw[QH (by rw[Nz];omega),Ox]
   ·cases h
  ·cases h
 ·cases h
theorem J1{a b:Value}(h:zeq a b=true):a=b:=by
 unfold zeq at h
 split at h
 ·simp only[NH,Q4]at h
  rw[h.1,h.2]
 ·rename_i a b
  have:a=b:=by simpa using h
  rw[this]
 ·rfl
 ·simp only[Q4]at h;rw[h]
 ·cases h
theorem CR:∀{a b:List Value},Kq a b=true->a=b
 |[],[],_=>rfl
 |a::r,b::s,h=>by
  simp only[Kq,NH]at h
  rw[J1 h.1,CR h.2]
 |[],_::_,h=>by cases h
 |_::_,[],h=>by cases h
theorem ze{t:TypeId}(ho:o.op= .alloc t)(h:v6 V P nm t o.dst k=some r):OpD P nm o S k r:=by
 unfold v6 at h
 split at h
 ·rename_i n e z d hty hz hd
  split at h
  ·rename_i y hy
   replace h:=ah h
   obtain⟨⟨h1,h2,h3⟩,h⟩:=h
   obtain⟨ds,d1,_,d3⟩:=dz (ω:=S.len) hy
   replace d3:=d3 rfl
   subst d3
   have h3:=CR h3
   have hrow:aT V.sz V.enc e y=(z.take (tsz V.sz e)).map .v:=by
    apply kz
    rw[<-d1,encL_map]
    simp only[N0]
    refine(NZ λu hu=> ?_)
    have:cp u=true:=NM.1 h1 u (Ou hu)
    simp only[Pn,wn]
    cases u<;>first|rfl|cases this
   have harr:aT V.sz V.enc (.ar n e) (On n y)=z.map .v:=by
    simp only[aT,arL,PE]
    have hl:=bG (V:=V) e y
    rw[O2 (by rw[di (s:=tsz V.sz e) (λr hr=>by rw[(Qj.1 hr).2];exact hl),Ph];exact NY _),
     Oh (by rw[di (s:=tsz V.sz e) (λr hr=>by rw[(Qj.1 hr).2];exact hl),Ph];exact NY _)]
    rw[h3,Qd,PE,hrow]
   refine rF (h:= .bp (nm d) 0) (x:= .box none ((aT V.sz V.enc (.ar n e) (On n y)).map .d)) (λω=>rfl) (λω _=>rfl) h (.ofAVal λρ' ω' hρ hω=> ?_)
   simp only[aS,ho,hz,hd,h2]
   rw[harr,N0]
   try rfl
  ·cases h
 ·cases h
theorem Eo{t:TypeId}{x:Operand}(ho:o.op= .box t x)(h:H2 V nm x o.dst S k=some r):OpD P nm o S k r:=by
 unfold H2 at h
 split at h
 ·rename_i n e xs d hx hd
  refine rF (h:= .bp (nm d) 0) (x:= .box none ((aT V.sz V.enc (.ar n e) xs).map .d)) (λω=>rfl) (λω _=>rfl) h (.ofAVal λρ' ω' hρ hω=> ?_)
  have hx':ρ' x= .d (.agg (aT V.sz V.enc (.ar n e) xs)):=by rw[hρ x (by rw[ho];simp[Op.operands]),ak,hx];rfl
  simp only[aS,ho,hx',H.cells,hd]
  exact⟨none, .inl rfl,rfl⟩
 ·cases h
theorem Ey{x:Operand}(ho:o.op= .nilCheck x)(h:Ic V x S k=some r):OpD P nm o S k r:=by
 unfold Ic at h
 split at h
 ·rename_i e y hx
  replace h:=aR h
  obtain⟨z,rfl,h⟩:=h
  refine cz h (.ofAVal (e:={val:= .d (.rp (aT V.sz V.enc e z))}) λρ' ω' hρ hω=> ?_) (by simp[an])
  have hx':ρ' x= .d (.rp (aT V.sz V.enc e z)):=by rw[hρ x (by rw[ho];simp[Op.operands]),ak,hx];rfl
  simp only[aS,ho,hx']
 ·cases h
def g7{ι:Type}{N:ι->Type}:cg N->Value
 |⟨.int k,n⟩=> .int k n
 |⟨.bool,b⟩=> .bool b
 |⟨.str,s⟩=> .string s
 |_=> .nilIface
theorem ko:∀{ls:List (cg V.N)} {ks:List CK},dQ V (ls.map λl=>l.t)=some ks->(ls.map λl=>aK V.sz V.enc l.t l.x)=(ls.map g7).map .v/\gi ks (ls.map g7)=true
 |[],ks,h=>by simp[dQ]at h;subst h;exact⟨rfl,rfl⟩
 |⟨t,x⟩::r,ks,h=>by
  simp only[NF,dQ]at h
  split at h
  ·rename_i k l hl
   simp at h;subst h
   obtain⟨h1,h2⟩:=ko hl
   exact⟨by simp only[NF,h1];rfl,by simp[gi,g7,CK.is,h2]⟩
  ·rename_i l hl
   simp at h;subst h
   obtain⟨h1,h2⟩:=ko hl
   exact⟨by simp only[NF,h1];rfl,by simp[gi,g7,CK.is,h2]⟩
  ·rename_i l hl
   simp at h;subst h
   obtain⟨h1,h2⟩:=ko hl
   exact⟨by simp only[NF,h1];rfl,by simp[gi,g7,CK.is,h2]⟩
  ·cases h
theorem IL(x y:ByteArray):(x==y)=true↔x=y:=by
 obtain⟨a⟩:=x
 obtain⟨b⟩:=y
 show(a==b)=true↔_
 simp
theorem Gl{t:Ty V.ι}{x y:den V.N t}(ht:t.flat0=true):nx (g7 (⟨t,x⟩:cg V.N)) (g7 ⟨t,y⟩)=Ka (⟨t,x⟩:cg V.N) ⟨t,y⟩:=by
 cases t with
 |int k=>rfl
 |bool=>rfl
 |str=>
  simp only[g7,Ka,Mp.seq]
  rw[Bool.eq_iff_iff,pM (k:= .str) rfl rfl]
  have e1:(Value.string x=Value.string y)↔(x=y):=by simp
  exact e1.trans (IL x y).symm
 |_=>cases ht
theorem Ap:∀{ls ls':List (cg V.N)} {ks:List CK},dQ V (ls.map λl=>l.t)=some ks->dQ V (ls'.map λl=>l.t)=some ks->(ls.map λl=>l.t)=(ls'.map λl=>l.t)->bW (ls.map g7) (ls'.map g7)=Ao ls ls'
 |[],[],_,_,_,_=>rfl
 |[],_::_,_,_,_,h=>by simp at h
 |_::_,[],_,_,_,h=>by simp at h
 |⟨t,x⟩::r,⟨t',y⟩::r',ks,h1,h2,h=>by
  simp only[NF,OT]at h
  obtain⟨rfl,h⟩:=h
  have tl:∀{t:Ty V.ι} {ts:List (Ty V.ι)} {ks:List CK},dQ V (t::ts)=some ks->t.flat0=true/\∃ks',dQ V ts=some ks':=by
   intro t ts ks h
   simp only[dQ]at h
   split at h<;>first|(exact⟨rfl,_,‹_›⟩)|cases h
  simp only[NF]at h1 h2
  obtain⟨f1,k1,g1⟩:=tl h1
  obtain⟨f2,k2,g2⟩:=tl h2
  have g3:=g2
  rw[<-h]at g3
  have ih:=Ap (ks:=k1) g1 (by rw[<-h];exact g1) h
  have he:=Gl (V:=V) (x:=x) (y:=y) f1
  simp only[NF,bW,he,ih]
  cases r with
  |nil=>
   cases r' with
   |nil=>simp[Ao]
   |cons b s=>simp at h
  |cons a q=>
   cases r' with
   |nil=>simp at h
   |cons b s=>simp[Ao]
theorem dm{i:V.ι}{a:V.N i}{ks:List CK}(h:dQ V (V.tys i)=some ks):V.enc i a=((V.cells i a).map g7).map .v/\gi ks ((V.cells i a).map g7)=true:=by
 rw[<-V.tys_cells i a]at h
 rw[V.enc_cells]
 exact ko h
theorem wT{i:V.ι}{a b:V.N i}{ks:List CK}(h:dQ V (V.tys i)=some ks):bW ((V.cells i a).map g7) ((V.cells i b).map g7)=Ao (V.cells i a) (V.cells i b):=
 Ap (ks:=ks) (by rw[V.tys_cells];exact h) (by rw[V.tys_cells];exact h) (by rw[V.tys_cells,V.tys_cells])
theorem Er{op:BinOp}{xt yt:TypeId}{x y:Operand}(ho:o.op= .binOp op xt x y yt)(h:H4 V P op xt x y S k=some r):OpD P nm o S k r:=by
 unfold H4 at h
 split at h
 ·rename_i q e a hq hx hy
  split at h
  ·rename_i hp
   have key:∀b:Bool,k {val:= .lf .bool (if q=true then b else !b)}=some r->mW P xt (aK V.sz V.enc (.op e) a) (.v (.pointer none)) b->OpD P nm o S k r:=λb hk hc=>
    cz hk (.cmp ho hq (by rw[ak,hx];rfl) (by rw[ak,hy];rfl) hc) rfl
   have hc:mW P xt (aK V.sz V.enc (.op e) a) (.v (.pointer none)) a.isNone:=by
    cases a with
    |none=>exact .pn hp
    |some z=>exact .rp hp
   refine key _ ?_ hc
   split at h<;>cases a<;>exact h
  ·cases h
 ·rename_i q a hq hx hy
  split at h
  ·rename_i hp
   have hp':∃x y z,P.underlying xt=some (.func x y z):=by
    unfold I8 at hp
    split at hp
    ·exact⟨_,_,_,‹_›⟩
    ·cases hp
   have key:∀b:Bool,k {val:= .lf .bool (if q=true then b else !b)}=some r->mW P xt (aK V.sz V.enc .fno a) (.v .nilFunc) b->OpD P nm o S k r:=λb hk hc=>
    cz hk (.cmp ho hq (by rw[ak,hx];rfl) (by rw[ak,hy];rfl) hc) rfl
   have hc:mW P xt (aK V.sz V.enc .fno a) (.v .nilFunc) (Option.isNone (α:=Nat) a):=by
    cases a with
    |none=>exact .nf hp'
    |some z=>exact .fn hp'
   refine key _ ?_ hc
   split at h<;>cases a<;>exact h
  ·cases h
 ·rename_i q i a j b hq hx hy
  replace h:=ah h
  obtain⟨⟨e1,hs,hg,hf,hks⟩,h⟩:=h
  subst e1
  obtain⟨ks,hks'⟩:=P3.1 hf
  rw[hks']at hks
  obtain⟨a1,a2⟩:=dm (a:=a) hks
  obtain⟨b1,b2⟩:=dm (a:=b) hks
  have hs':∃fs,P.underlying xt=some (.struct fs):=by
   unfold AN at hs
   split at hs
   ·exact⟨_,‹_›⟩
   ·cases hs
  have hc:mW P xt (.agg (V.enc i a)) (.agg (V.enc i b)) (Ao (V.cells i a) (V.cells i b)):=by
   rw[a1,b1,<-wT hks]
   exact .st hs' hg (by decide) hks' a2 b2
  have key:k {val:= .lf .bool (if q=true then Ao (V.cells i a) (V.cells i b)else !Ao (V.cells i a) (V.cells i b))}=some r->OpD P nm o S k r:=λhk=>
   cz hk (.cmp ho hq (by rw[ak,hx,jD]) (by rw[ak,hy,jD]) hc) rfl
  refine key ?_
  split at h<;>exact h
 ·cases h
theorem zG{n sz i:Nat}(h:i<n):(xE n sz)[i]?=some (i *sz,sz):=by
 unfold xE
 rw[NB,O3 h];rfl
theorem Gp{ω:Nat->Nat}(e:Ty V.ι)(v:TV V.N):an V ω (fnF V e v)=an V ω v:=by
 unfold fnF
 split
 ·cases e<;>rfl
 ·rfl
theorem vU{α:Type}:∀(l:List α) (i:Nat) (x:α),JA l i x=l.set i x
 |[],_,_=>rfl
 |_::_,0,_=>rfl
 |a::r,i+1,x=>by rw[JA,vU r i x];rfl
theorem lP{ω:Nat->Nat}{z:List Value}(h:z.all cp=true):encL V ω (z.map tvc)=z.map λx=>H.d (.v x):=by
 rw[encL_map]
 simp only[N0]
 refine NZ λu hu=> ?_
 have:cp u=true:=NM.1 h u hu
 simp only[Pn,wn]
 cases u<;>first|rfl|cases this
theorem qn{ω:Nat->Nat}{n:Nat}{e:Ty V.ι}:∀{parts:List (Nat×TV V.N)} {ys ys':List (den V.N e)},Jz V e ys parts=some ys'->ys.length=n->
 mh (xE n (tsz V.sz e)) ((aT V.sz V.enc (.ar n e) ys).map .d) (parts.map λp=>(p.1,an V ω p.2))=some ((aT V.sz V.enc (.ar n e) ys').map .d)
 |[],ys,ys',h,_=>by
  simp only[Jz,Ny]at h
  subst h;rfl
 |(i,x)::r,ys,ys',h,hn=>by
  simp only[Jz]at h
  replace h:=ah h
  obtain⟨hi,h⟩:=h
  split at h
  ·rename_i y hy
   obtain⟨cs,ds,h1,h2,_,h4⟩:=nq (ω:=ω) hy
   replace h4:=h4 rfl
   subst h4
   have hc:=cd (ω:=ω) h1
   have hl:=bG (V:=V) e y
   have hcl:cs.length=tsz V.sz e:=by
    have:=congrArg Pv h2
    rw[aJ,Nz,hl]at this;exact this
   have hL:=bG (V:=V) (.ar n e) ys
   have hL2:(aT V.sz V.enc (.ar n e) ys).length=n *tsz V.sz e:=hL
   have m1:(i+1) *tsz V.sz e<=n *tsz V.sz e:=NR _ (by omega)
   rw[N8]at m1
   rw[vU]at h
   have ih:=qn (ω:=ω) (n:=n) h (by rw[Ow];exact hn)
   simp only[NF,mh,zG (by omega:i<n),hc]
   rw[Q6 ⟨by rw[aJ];exact hcl,by rw[Nz,hL2];omega⟩,<-ih]
   congr 1
   rw[dX,aJ,hcl,h2,zH (by omega) hi]
   simp only[Of,OE,OG]
  ·cases h
theorem zf{t:TypeId}{parts:Array (Nat×Operand)}(ho:o.op= .build t parts)(h:v7 V P t parts.toList S k=some r):OpD P nm o S k r:=by
 unfold v7 at h
 split at h
 ·rename_i n e len te ag sz z hty ht hz
  split at h
  ·rename_i ys0 hys0
   replace h:=ah h
   obtain⟨⟨⟨e1,e2⟩,e3,e4⟩,h⟩:=h
   split at h
   ·rename_i ys hys
    subst e1;subst e2
    obtain⟨ds,d1,_,d3⟩:=dz (ω:=S.len) hys0
    replace d3:=d3 rfl
    subst d3
    rw[lP e3]at d1
    have hf:=qn (ω:=S.len) (n:=n) hys e4
    have hp:((parts.toList.map λ(i,x)=>(i,fnF V e (fnT (tev S x)))).map λp=>(p.1,an V S.len p.2))=parts.toList.map λ(i,x)=>(i,fnD (Go.Awp.ev (az V S) x)):=by
     rw[N0]
     refine NZ λp _=> ?_
     simp only[Pn,Gp,qP,ak]
    rw[hp,<-d1]at hf
    refine cz h (.buildArr ho ht hz hf) ?_
    rw[bA,cY,E3]
   ·cases h
  ·cases h
 ·cases h
theorem zg{t:TypeId}{parts:Array (Nat×Operand)}(ho:o.op= .build t parts)(h:v_ V P t parts.toList S k=some r):OpD P nm o S k r:=by
 unfold v_ at h
 split at h
 ·rename_i z pl hz hpl
  replace h:=ah h
  obtain⟨hzc,h⟩:=h
  split at h
  ·rename_i cs hcs
   have hf:=gh (ω:=S.len) hcs
   have hp:((parts.toList.map λ(i,x)=>(i,fnT (tev S x))).map λp=>(p.1,an V S.len p.2))=parts.toList.map λ(i,x)=>(i,fnD (Go.Awp.ev (az V S) x)):=by
    rw[N0]
    refine NZ λp _=> ?_
    simp only[Pn,qP,ak]
   rw[hp,lP hzc]at hf
   exact cz h (.buildSt ho hz hpl hf) (fQ.2 rfl)
  ·cases h
 ·cases h
theorem nI:∀{l:List (TV V.N)} {j i:Nat},s5 V j l=some i->j<=i/\l[i-j]?=some (.raw (.slice none 0 0))
 |[],_,_,h=>by simp[s5]at h
 |x::r,j,i,h=>by
  simp only[s5]at h
  split at h
  ·simp only[Ny]at h
   subst h
   exact⟨NY _,by simp⟩
  ·obtain⟨h1,h2⟩:=nI h
   refine⟨by omega,?_⟩
   have:i-j=(i-(j+1))+1:=by omega
   rw[this]
   simpa using h2
theorem zh{t:TypeId}{parts:Array (Nat×Operand)}(ho:o.op= .build t parts)(h:wa V P t parts.toList o.dst S k=some r):OpD P nm o S k r:=by
 unfold wa at h
 split at h
 ·rename_i z pl s d hz hpl hty hd
  replace h:=ah h
  obtain⟨hzc,h⟩:=h
  split at h
  ·rename_i cs hcs
   split at h
   ·rename_i j hj
    split at h
    ·rename_i e he
     split at h
     ·rename_i hno
      rw[vU]at h
      have hf:=gh (ω:=S.len) hcs
      have hp:((parts.toList.map λ(i,x)=>(i,tev S x)).map λp=>(p.1,an V S.len p.2))=parts.toList.map λ(i,x)=>(i,Go.Awp.ev (az V S) x):=by
       rw[N0]
       refine NZ λp _=> ?_
       simp only[Pn,ak]
      rw[hp,lP hzc]at hf
      have hjc:cs[j]?=some (.raw (.slice none 0 0)):=by have:=(nI hj).2;simpa using this
      have base:aB P nm o (Go.Awp.ev (az V S)) (az V S).own? {val:=bA (encL V S.len cs)}:= .ofAVal λρ' ω' hρ hω=>by
       have hpp:(parts.toList.map λ(i,x)=>(i,ρ' x))=parts.toList.map λ(i,x)=>(i,Go.Awp.ev (az V S) x):=by
        refine NZ λp hp=> ?_
        have:ρ' p.2=_:=hρ p.2 (by rw[ho];simp only[Op.operands];simpa using ⟨p.1,by simpa using hp⟩)
        simp only[this]
       simp only[aS,ho,hz,hpl,hpp,hf]
      refine⟨_,h,λm o1 hm=> ?_,_, .sem (.nilTop (nn:=53000+d) (e:=V.tid e) (sz:=tsz V.sz e) (i:=j) hd (by rw[encL_map,NB,hjc];rfl) (by rw[encL_has];exact hno) base),bq ?_ rfl rfl rfl⟩
      ·simp only[af]at hm
       split at hm
       ·rename_i q;left;simp[q]
       ·simp[gt]at hm
      ·simp only[an]
       congr 1
       rw[encL_map _ (cs.set j _),Pd]
       congr 1
       ·rw[<-encL_map]
        refine(encL_congr cs λq hq=> ?_).symm
        rw[bV]
        simp only[af]
        rw[Q5 λe0=>by rw[<-e0,hno]at hq;cases hq]
        rfl
       ·simp only[an]
        rw[bV]
        simp only[af,Q2]
        rfl
     ·cases h
    ·cases h
   ·cases h
  ·cases h
 ·cases h
end
end Go.Tx
end
section
namespace Go.Tx
open Go.Awp
variable [Inhabited GMem]
section
variable (V:i7) (P:Program) (nm:Nat->Nat)
def aV(d:Nat):Nat:=50000+d
def kh(kt:TypeId):Ty V.ι->Bool
 | .st i=>AN P kt&&match gY P 100 kt with
  |some ks=>decide (dQ V (V.tys i)=some ks)
  |none=>false
 |tk=>eK (P.underlying kt) tk
def pC{B:Type}(S:TS V.N)(n:Nat)(f:(m:Nat)->TypeId->(tk tv:Ty V.ι)->List (Option (List (den V.N tk×den V.N tv)))->Nat->List (den V.N tk×den V.N tv)->Option B):Option B:=match S.own? n with
 |some (.alias m)=>match S.own? m with
  |some (.maps te tk tv es (some (n',i)))=>if n'=n/\¬n=m then es[i]?>>=λo=>o>>=λm0=>f m te tk tv es i m0 else none
  |_=>none
 |_=>none
def Dv{B:Type}(c:Bool)(tk tv:Ty V.ι)(key:den V.N tk)(z:den V.N tv)(es:List (den V.N tk×den V.N tv))(f:TV V.N->B):B:=match c with
 |true=>f (.tup [.lf tv ((Mp.get (keq V.cells tk) key es).getD z), .lf .bool (Mp.get (keq V.cells tk) key es).isSome])
 |false=>f (.lf tv ((Mp.get (keq V.cells tk) key es).getD z))
def Cz{A:Type}(t:TypeId)(x i:Operand)(c:Bool)(S:TS V.N)(k:TE V.N->Option A):Option A:=match P.underlying t,tev S x,tev S i with
 |some (.map kt et), .mp n, .lf tk key=>match lO P et with
  |some d=>match S.own? n with
   |some (.map tk' tv es)=>match ofZ V true tv d with
    |some z=>if h:tk=tk' then if kh V P kt tk'=true then Dv V c tk' tv (h▸key) z es λv=>k {val:=v,acc:=[n]}else none else none
    |none=>none
   |_=>pC V S n λm te tk' tv es j m0=>match ofZ V true tv d with
    |some z=>if h:tk=tk' then if kh V P kt tk'=true then Dv V c tk' tv (h▸key) z m0 λv=>k {val:=v,acc:=[m,n],upd:=[(m, .maps te tk' tv es (some (n,j))),(n, .alias m)]}else none else none
    |none=>none
  |none=>none
 |_,_,_=>none
def EJ{A:Type}(t:TypeId)(x i y:Operand)(S:TS V.N)(k:TE V.N->Option A):Option A:=match P.underlying t,tev S x,tev S i,tev S y with
 |some (.map kt _), .mp n, .lf tk key, .lf tv z=>match S.own? n with
  |some (.map tk' tv' es)=>if h:tk=tk' then
   if h':tv=tv' then
    if kh V P kt tk'=true then k {val:= .junk,acc:=[n],upd:=[(n, .map tk' tv' (Mp.set (keq V.cells tk') (klt tk') (h▸key) (h'▸z) es))]}else none
   else none
   else none
  |_=>pC V S n λm te tk' tv' es j m0=>if h:tk=tk' then
   if h':tv=tv' then
    if kh V P kt tk'=true then k {val:= .junk,acc:=[m,n],upd:=[(m, .maps te tk' tv' (es.set j (some (Mp.set (keq V.cells tk') (klt tk') (h▸key) (h'▸z) m0))) (some (n,j))),(n, .alias m)]}else none
   else none
   else none
 |_,_,_,_=>none
def Ia{A:Type}(args:List (TV V.N))(tys:List TypeId)(S:TS V.N)(k:TE V.N->Option A):Option A:=match args with
 |[.mp n]=>if cC P tys=3 then pC V S n λm te tk tv es j m0=>k {val:= .lf (.int .i64) m0.length,acc:=[m,n],upd:=[(m, .maps te tk tv es (some (n,j))),(n, .alias m)]}else none
 |_=>none
def wh{A:Type}(t:TypeId)(x:Operand)(dst:Option Tmp)(S:TS V.N)(k:TE V.N->Option A):Option A:=match P.underlying t,tev S x,dst with
 |some (.map _ _), .mp n,some d=>pC V S n λm te tk tv es j m0=>
  if¬aV d=n/\¬aV d=m then k {val:= .bp (aV d) 0,acc:=[m,n],upd:=[(aV d, .miter n tk tv m0 m0 none),(n, .gone 0),(m, .maps te tk tv (es.set j none) none)],new:=[aV d]}else none
 |_,_,_=>none
def rZ{A:Type}(t:TypeId)(x i:Operand)(S:TS V.N)(k:TE V.N->Option A):Option A:=match bf P t,tev S x,tev S i with
 |some (_,sz,_), .vh m, .lf (.int _) n=>match S.own? m with
  |some (.maps _ _ _ es _)=>if 0<=n/\n<es.length then k {val:= .ep m sz n.toNat 0,acc:=[m]}else none
  |some (.que _ _ xs)=>if 0<=n/\n<xs.length then k {val:= .ep m sz n.toNat 0,acc:=[m]}else none
  |_=>none
 |_,_,_=>none
def oV{A:Type}(t:TypeId)(x:Operand)(dst:Option Tmp)(S:TS V.N)(k:TE V.N->Option A):Option A:=match bt P t,tev S x,dst with
 |some (false,1), .ep m 1 i 0,some d=>match S.own? m with
  |some (.maps te tk tv es _)=>es[i]?>>=λo=>o>>=λ_=>if¬aV d=m then k {val:= .mp (aV d),acc:=[m],upd:=[(m, .maps te tk tv es (some (aV d,i))),(aV d, .alias m)],new:=[aV d]}else none
  |_=>none
 |_,_,_=>none
def lN{A:Type}(t:TypeId)(x y:Operand)(S:TS V.N)(k:TE V.N->Option A):Option A:=match bt P t,tev S x,tev S y with
 |some (_,1), .ep m 1 i 0, .mp n=>match S.own? m,S.own? n with
  |some (.maps te tk tv es _),some (.map tk' tv' e0)=>if h:tk'=tk/\tv'=tv then
   if i<es.length/\¬n=m then k {val:= .junk,acc:=[m,n],upd:=[(m, .maps te tk tv (es.set i (some (h.1▸h.2▸e0))) none),(n, .gone 0)]}else none
   else none
  |_,_=>none
 |_,_,_=>none
def oU{A:Type}(t:TypeId)(l c:Operand)(dst:Option Tmp)(S:TS V.N)(k:TE V.N->Option A):Option A:=match V.ty t,bf P t,dst with
 |some (.sl (.mp tk tv)),some (te,1,bytes),some d=>match f_ P te,tev S l,tev S c with
  |some [_], .lf (.int _) _, .lf (.int _) m=>match qm l c with
   |true=>if bytes<=32768 then if 0<=m then if m<=4294967296 then k {val:= .vh (aV d),upd:=[(aV d, .maps te tk tv (On m.toNat none) none)],new:=[aV d]}else none else none else none
   |false=>none
  |_,_,_=>none
 |_,_,_=>none
def wb{A:Type}(t:TypeId)(len:Nat)(parts:List (Nat×Operand))(dst:Option Tmp)(S:TS V.N)(k:TE V.N->Option A):Option A:=match bf P t,V.ty t,dst with
 |some (te,sz,_),some (.sl e),some d=>if sz=tsz V.sz e/\parts.length=len/\len *sz<=16777216/\0<len then
  match yT V true e 0 (parts.map λ(i,x)=>(i,fnT (tev S x)))with
  |some ys=>k {val:= .vh (aV d),upd:=[(aV d, .que te e ys)],new:=[aV d]}
  |none=>none
  else none
 |_,_,_=>none
def wk{A:Type}(t:TypeId)(x:Operand)(lo hi mx:Option Operand)(dst:Option Tmp)(S:TS V.N)(k:TE V.N->Option A):Option A:=match mx,bf P t,dst,tev S x with
 |none,some (_,sz,_),some d, .vh m=>match lo,hi,S.own? m with
  |some l,none,some (.que te e xs)=>match tev S l with
   | .lf (.int _) n=>if sz=tsz V.sz e then if 0<=n then if n<=xs.length then k {val:= .vh (aV d),acc:=[m],upd:=[(aV d, .que te e (xs.drop n.toNat)),(m, .gone (S.len m))],new:=[aV d]}else none else none else none
   |_=>none
  |none,some h,some (.vec te e xs)=>match tev S h with
   | .lf (.int _) n=>if 0<=n then if n<=xs.length then k {val:= .vh (aV d),acc:=[m],upd:=[(aV d, .vec te e (xs.take n.toNat)),(m, .gone (S.len m))],new:=[aV d]}else none else none
   |_=>none
  |_,_,_=>none
 |_,_,_,_=>none
def HZ{A:Type}(args:List (TV V.N))(tys:List TypeId)(dst:Option Tmp)(S:TS V.N)(k:TE V.N->Option A):Option A:=match args,tys,dst with
 |[x,y],[t,t'],some d=>match bf P t with
  |some (te,sz,bytes)=>if t=t'/\bytes<=32768 then match y with
   | .lf (.sl e') (y0::ys)=>match x with
    | .vh n=>match S.own? n with
     |some (.que te2 e xs)=>if h:e'=e then
      if te=te2/\sz=tsz V.sz e then
       if xs.length+(y0::ys).length<=most then k {val:= .vh (aV d),acc:=[n],upd:=[(aV d, .que te e (xs++h▸(y0::ys))),(n, .gone (S.len n))],new:=[aV d]}else none
      else none
      else none
     |_=>none
    |_=>none
   | .sv m sz2 lo len=>match S.own? m with
    |some (.vec _ e2 xs2)=>if sz=tsz V.sz e2/\sz2=sz then
     if lo+len<=xs2.length then match x with
      | .vh n=>match S.own? n with
       |some (.vec te1 e xs)=>if h:e2=e then
        if te=te1/\¬n=m then
         if xs.length+len<=most then k {val:= .vh (aV d),acc:=[m,n],upd:=[(aV d, .vec te e (xs++h▸(xs2.drop lo).take len)),(n, .gone (S.len n))],new:=[aV d]}else none
        else none
        else none
       |_=>none
      | .raw (.slice none 0 0)=>if len<=most then k {val:= .vh (aV d),acc:=[m],upd:=[(aV d, .vec te e2 ((xs2.drop lo).take len))],new:=[aV d]}else none
      |_=>none
     else none
     else none
    |_=>none
   |_=>none
   else none
  |none=>none
 |_,_,_=>none
def Ct{A:Type}(args:List (TV V.N))(tys:List TypeId)(S:TS V.N)(k:TE V.N->Option A):Option A:=match args,tys with
 |[.vh m,y],t::_=>match bf P t,S.own? m with
  |some (te,sz,_),some (.vec te1 e xs)=>if te=te1/\sz=tsz V.sz e then match y with
   | .sv m2 sz2 lo len=>match S.own? m2 with
    |some (.vec _ e2 xs2)=>if h:e2=e then
     if sz2=sz/\¬m2=m then
      if lo+len<=xs2.length then k {val:= .lf (.int .i64) (min len xs.length:Nat),acc:=[m,m2],upd:=[(m, .vec te e (((h▸(xs2.drop lo).take len).take xs.length)++xs.drop len))]}else none
     else none
     else none
    |_=>none
   | .lf (.sl e2) ys=>if h:e2=e then k {val:= .lf (.int .i64) (min ys.length xs.length:Nat),acc:=[m],upd:=[(m, .vec te e (((h▸ys).take xs.length)++xs.drop ys.length))]}else none
   |_=>none
   else none
  |_,_=>none
 |_,_=>none
def H3{A:Type}(x:Operand)(S:TS V.N)(k:TE V.N->Option A):Option A:=match tev S x with
 | .lf (.st i) y=>k {val:= .lf (.op (.st i)) (some y)}
 |_=>none
end
section
variable {V:i7} {P:Program} {nm:Nat->Nat} {o:Oper} {S:TS V.N} {A:Type} {k:TE V.N->Option A} {r:A}
theorem Dq{t:TypeId}(h:AN P t=true):∃fs,P.underlying t=some (.struct fs):=by
 unfold AN at h
 split at h
 ·exact⟨_,‹_›⟩
 ·cases h
theorem qU{kt:TypeId}{i:V.ι}(h:kh V P kt (.st i)=true):∃fs ks,P.underlying kt=some (.struct fs)/\gY P 100 kt=some ks/\dQ V (V.tys i)=some ks:=by
 simp only[kh,NH]at h
 obtain⟨fs,hfs⟩:=Dq h.1
 have h2:=h.2
 split at h2
 ·rename_i ks hks
  exact⟨fs,ks,hfs,hks,by simpa using h2⟩
 ·cases h2
theorem EN(xs:List Value):(xs.map D.v).map MC=xs:=by
 rw[N0]
 exact(NZ λx _=>rfl).trans (Q1 xs)
theorem nM{kt:TypeId}{i:V.ι}(h:kh V P kt (.st i)=true)(x:V.N i):V.enc i x=((V.cells i x).map g7).map .v/\dM V.enc (.st i) x= .agg ((V.cells i x).map g7).toArray:=by
 obtain⟨fs,ks,h1,h2,h3⟩:=qU h
 obtain⟨a1,a2⟩:=dm (a:=x) h3
 refine⟨a1,?_⟩
 simp only[dM]
 rw[a1,EN]
theorem g6{kt:TypeId}{tk:Ty V.ι}(h:kh V P kt tk=true):(∃i,tk= .st i)\/∃kind,P.underlying kt=some kind/\eK (some kind) tk=true:=by
 cases tk with
 |st i=>exact .inl ⟨i,rfl⟩
 |_=>
  right
  simp only[kh]at h
  cases hu:P.underlying kt with
  |none=>rw[hu]at h;simp[eK]at h
  |some kind=>rw[hu]at h;exact⟨kind,rfl,h⟩
theorem Kb{kt:TypeId}{tk:Ty V.ι}(h:kh V P kt tk=true)(x:den V.N tk):∀M v,bU M v (aK V.sz V.enc tk x)->v=dM V.enc tk x:=by
 intro M v hv
 rcases g6 h with⟨i,rfl⟩|⟨kind,hu,hk⟩
 ·obtain⟨h1,h2⟩:=nM h x
  rw[h2]
  simp only[aK]at hv
  rw[h1]at hv
  exact no hv
 ·rw[qV hk]at hv
  cases hv;rfl
theorem qT{kt:TypeId}{tk:Ty V.ι}(h:kh V P kt tk=true)(x y:den V.N tk):keq V.cells tk x y=true↔dM V.enc tk x=dM V.enc tk y:=by
 rcases g6 h with⟨i,rfl⟩|⟨kind,hu,hk⟩
 ·obtain⟨fs,ks,h1,h2,h3⟩:=qU h
  rw[(nM h x).2,(nM h y).2]
  simp only[keq]
  rw[<-wT h3,gd (dm h3).2 (dm h3).2]
  simp
 ·have hs:=kj hk x y
  cases he:keq V.cells tk x y with
  |true=>
   rw[he]at hs
   simp only[true_iff]
   exact eX hs
  |false=>
   rw[he]at hs
   simp only[Oq,false_iff]
   exact iP hs
theorem mL{kt:TypeId}{tk tv:Ty V.ι}(h:kh V P kt tk=true)(x:den V.N tk)(es:List (den V.N tk×den V.N tv)):o8 P kt (dM V.enc tk x) ((es.map λp=>(dM V.enc tk p.1,aK V.sz V.enc tv p.2)).map (·.1)):=by
 rcases g6 h with⟨i,rfl⟩|⟨kind,hu,hk⟩
 ·obtain⟨fs,ks,h1,h2,h3⟩:=qU h
  rw[(nM h x).2]
  refine .struct (d:=100) h1 (by decide) h2 (dm h3).2 λk hk=> ?_
  rw[N0]at hk
  obtain⟨p,_,rfl⟩:=N3.1 hk
  exact⟨(V.cells i p.1).map g7,(nM h p.1).2,(dm h3).2⟩
 ·refine .simple hu (iJ hk) λk hkm=> ?_
  have:∃y:den V.N tk,k=dM V.enc tk y:=by
   rcases NI.1 hkm with rfl|hkm
   ·exact⟨x,rfl⟩
   ·rw[N0]at hkm
    obtain⟨p,_,rfl⟩:=N3.1 hkm
    exact⟨p.1,rfl⟩
  obtain⟨y,rfl⟩:=this
  rw[kj hk x y];rfl
theorem Ax{kt:TypeId}{tk tv:Ty V.ι}(h:kh V P kt tk=true)(x:den V.N tk):∀es:List (den V.N tk×den V.N tv),
 FM (dM V.enc tk x) (es.map λp=>(dM V.enc tk p.1,aK V.sz V.enc tv p.2)) ((Mp.get (keq V.cells tk) x es).map (aK V.sz V.enc tv))
 |[]=> .inl ⟨rfl,λp hp=>by cases hp⟩
 |p::r=>by
  simp only[Mp.get,NF]
  cases he:keq V.cells tk x p.1 with
  |true=>
   exact .inr ⟨_,NG,((qT h x p.1).1 he).symm,rfl⟩
  |false=>
   have hne:¬dM V.enc tk x=dM V.enc tk p.1:=λe=>by rw[(qT h x p.1).2 e]at he;cases he
   rw[Q5 (by decide)]
   rcases Ax h x r with⟨h1,h2⟩|⟨q,h1,h2,h3⟩
   ·refine .inl ⟨h1,λq hq=> ?_⟩
    rcases NI.1 hq with rfl|hq
    ·exactλe=>hne e.symm
    ·exact h2 q hq
   ·exact .inr ⟨q,NC _ h1,h2,h3⟩
theorem BT{kt:TypeId}{tk tv:Ty V.ι}(h:kh V P kt tk=true)(x:den V.N tk)(y:den V.N tv):∀es:List (den V.N tk×den V.N tv),
 zB (dM V.enc tk x) (aK V.sz V.enc tv y) (es.map λp=>(dM V.enc tk p.1,aK V.sz V.enc tv p.2)) ((Mp.put (keq V.cells tk) x y es).map λp=>(dM V.enc tk p.1,aK V.sz V.enc tv p.2))
 |[]=> .inl ⟨rfl,λp hp=>by cases hp⟩
 |p::r=>by
  simp only[Mp.put,NF]
  cases he:keq V.cells tk x p.1 with
  |true=>
   exact .inr ⟨0,_,rfl,((qT h x p.1).1 he).symm,rfl⟩
  |false=>
   have hne:¬dM V.enc tk x=dM V.enc tk p.1:=λe=>by rw[(qT h x p.1).2 e]at he;cases he
   rw[Q5 (by decide)]
   rcases BT h x y r with⟨h1,h2⟩|⟨j,q,h1,h2,h3⟩
   ·refine .inl ⟨by rw[NF,h1];rfl,λq hq=> ?_⟩
    rcases NI.1 hq with rfl|hq
    ·exactλe=>hne e.symm
    ·exact h2 q hq
   ·exact .inr ⟨j+1,q,by simpa using h1,h2,by rw[NF,h3];rfl⟩
theorem ga{B:Type}{n:Nat}{b:B}{f:(m:Nat)->TypeId->(tk tv:Ty V.ι)->List (Option (List (den V.N tk×den V.N tv)))->Nat->List (den V.N tk×den V.N tv)->Option B}(h:pC V S n f=some b):
 ∃m te tk tv es i m0,S.own? n=some (.alias m)/\S.own? m=some (.maps te tk tv es (some (n,i)))/\n≠m/\es[i]?=some (some m0)/\f m te tk tv es i m0=some b:=by
 unfold pC at h
 split at h
 ·rename_i m hn
  split at h
  ·rename_i te tk tv es n' i hm
   replace h:=ah h
   obtain⟨⟨rfl,hnm⟩,h⟩:=h
   replace h:=aR h
   obtain⟨o,ho,h⟩:=h
   replace h:=aR h
   obtain⟨m0,rfl,h⟩:=h
   exact⟨m,te,tk,tv,es,i,m0,hn,hm,hnm,ho,h⟩
  ·cases h
 ·cases h
theorem xf{α:Type}{l:List α}{i:Nat}{x:α}(h:l[i]?=some x):l.set i x=l:=by
 apply Ot
 intro j
 rw[Ol]
 split
 ·rename_i e;subst e
  rw[Q6 (Nx.1 h).1,h]
 ·rfl
theorem rG{n m:Nat}{o1 o2:TO V.N}{x1 x2:Option Own}{v:TV V.N}{h:H}{l:List Nat}(h1:∀ω,aX V ω o1=x1)(h2:∀ω,aX V ω o2=x2)(hl1:TO.len (some o1)=S.len n)(hl2:TO.len (some o2)=S.len m)(hv:∀ω,an V ω v=h)
 (hk:k {val:=v,acc:=l,upd:=[(n,o1),(m,o2)]}=some r)(hs:aB P nm o (Go.Awp.ev (az V S)) (az V S).own? {val:=h,acc:=l,upd:=[(n,x1),(m,x2)]}):OpD P nm o S k r:=by
 refine⟨_,hk,λq o' hq=> ?_,_, .sem hs,bq (hv _).symm rfl (by simp[h1,h2]) rfl⟩
 simp only[af]at hq
 right
 split at hq
 ·rename_i e;simp at hq;subst hq;subst e;exact hl1
 ·split at hq
  ·rename_i e;simp at hq;subst hq;subst e;exact hl2
  ·simp[gt]at hq
def nt(tk tv:Ty V.ι)(l:List (den V.N tk×den V.N tv)):List (Value×D):=l.map λp=>(dM V.enc tk p.1,aK V.sz V.enc tv p.2)
theorem pX{c:Bool}{tk tv:Ty V.ι}{key:den V.N tk}{z:den V.N tv}{es:List (den V.N tk×den V.N tv)}{f:TV V.N->Option A}(h:Dv V c tk tv key z es f=some r):
 ∃v,f v=some r/\∀ω,an V ω v=if c=true then .tup [.d (((Mp.get (keq V.cells tk) key es).map (aK V.sz V.enc tv)).getD (aK V.sz V.enc tv z)), .d (.v (.bool ((Mp.get (keq V.cells tk) key es).map (aK V.sz V.enc tv)).isSome))]
  else .d (((Mp.get (keq V.cells tk) key es).map (aK V.sz V.enc tv)).getD (aK V.sz V.enc tv z)):=by
 unfold Dv at h
 cases c with
 |true=>
  refine⟨_,h,λω=> ?_⟩
  simp only[an,encL,Q2,Qo]
  cases Mp.get (keq V.cells tk) key es<;>rfl
 |false=>
  refine⟨_,h,λω=> ?_⟩
  simp only[an,Oq,Q3]
  cases Mp.get (keq V.cells tk) key es<;>rfl
theorem CA{t:TypeId}{x i:Operand}{c:Bool}(ho:o.op= .lookup t x i c)(h:Cz V P t x i c S k=some r):OpD P nm o S k r:=by
 unfold Cz at h
 split at h
 ·rename_i kt et n tk key ht hx hi
  split at h
  ·rename_i d hd
   split at h
   ·rename_i tk' tv es hown
    split at h
    ·rename_i z hz
     split at h
     ·rename_i htk
      subst htk
      replace h:=ah h
      obtain⟨hk,h⟩:=h
      obtain⟨v,h,hv⟩:=pX h
      exact cz h (.lookupK ho ht hd (by rw[ak,hx];rfl) (by rw[ak,hi];rfl) (Kb hk key) (ir hown) (mL hk key es) (Ax hk key es)) (by rw[hv,(n8 hz).2 rfl])
     ·cases h
    ·cases h
   ·obtain⟨m,te,tk',tv,es,j,m0,hn,hm,hnm,hj,h⟩:=ga h
    split at h
    ·rename_i z hz
     split at h
     ·rename_i htk
      subst htk
      replace h:=ah h
      obtain⟨hk,h⟩:=h
      obtain⟨v,h,hv⟩:=pX h
      have hj':(es.map λo=>o.map (nt (V:=V) tk tv))[j]?=some (some (nt tk tv m0)):=by rw[NB,hj];rfl
      refine rG (x1:=some (.maps te (es.map λo=>o.map (nt tk tv)) (some (n,j)))) (x2:=none) (λω=>rfl) (λω=>rfl) (by rw[gp hm];rfl) (by rw[kp hn];rfl) hv h ?_
      have:=aB.viaAlias (P:=P) (nm:=nm) (o:=o) (ρ:=Go.Awp.ev (az V S)) (m1:=nt tk tv m0) (gD hm) hj' (kJ hn) hnm
       (v:=if c=true then .tup [.d (((Mp.get (keq V.cells tk) key m0).map (aK V.sz V.enc tv)).getD (aK V.sz V.enc tv z)), .d (.v (.bool ((Mp.get (keq V.cells tk) key m0).map (aK V.sz V.enc tv)).isSome))]
         else .d (((Mp.get (keq V.cells tk) key m0).map (aK V.sz V.enc tv)).getD (aK V.sz V.enc tv z)))
       λω' hω'=> .told hω' (by
        have:=aB.lookupK (nm:=nm) ho ht hd (ω:=ω') (c:=c) (key:=dM V.enc tk key) (dk:=aK V.sz V.enc tk key) (ρ:=Go.Awp.ev (az V S)) (by rw[ak,hx];rfl) (by rw[ak,hi];rfl) (Kb hk key) hω' (mL hk key m0) (Ax hk key m0)
        rw[(n8 hz).2 rfl]at this
        exact this)
      have hs:(es.map λo=>o.map λl=>l.map λp=>(dM V.enc tk p.1,aK V.sz V.enc tv p.2)).set j (some (nt tk tv m0))=es.map λo=>o.map λl=>l.map λp=>(dM V.enc tk p.1,aK V.sz V.enc tv p.2):=xf hj'
      rw[hs]at this
      exact this
     ·cases h
    ·cases h
  ·cases h
 ·cases h
theorem xo{t:TypeId}{x i y:Operand}(ho:o.op= .mapUpdate t x i y\/o.op= .insert t x i y)(h:EJ V P t x i y S k=some r):OpD P nm o S k r:=by
 unfold EJ at h
 split at h
 ·rename_i kt et n tk key tv z ht hx hi hy
  split at h
  ·rename_i tk' tv' es hown
   split at h
   ·rename_i e1
    subst e1
    split at h
    ·rename_i e2
     subst e2
     replace h:=ah h
     obtain⟨hk,h⟩:=h
     exact vG (x:= .map (nt tk tv (Mp.set (keq V.cells tk) (klt tk) key z es))) (λω=>rfl) (by rw[qX hown];rfl) h
      (.updateK ho ht (by rw[ak,hx];rfl) (by rw[ak,hi];rfl) (Kb hk key) (by rw[ak,hy];rfl) (ir hown) (mL hk key es) (BT hk key z es) ((Mp.set_perm _ _ _ _ _).map _))
    ·cases h
   ·cases h
  ·obtain⟨m,te,tk',tv',es,j,m0,hn,hm,hnm,hj,h⟩:=ga h
   split at h
   ·rename_i e1
    subst e1
    split at h
    ·rename_i e2
     subst e2
     replace h:=ah h
     obtain⟨hk,h⟩:=h
     have hj':(es.map λo=>o.map (nt (V:=V) tk tv))[j]?=some (some (nt tk tv m0)):=by rw[NB,hj];rfl
     refine rG (x1:=some (.maps te ((es.map λo=>o.map (nt tk tv)).set j (some (nt tk tv (Mp.set (keq V.cells tk) (klt tk) key z m0)))) (some (n,j)))) (x2:=none) (h:= .junk) (λω=>by simp only[aX,Pd];rfl) (λω=>rfl) (by rw[gp hm];simp[TO.len]) (by rw[kp hn];rfl) (λω=>rfl) h ?_
     exact aB.viaAlias (gD hm) hj' (kJ hn) hnm λω' hω'=>
      .updateK (ω:=ω') ho ht (by rw[ak,hx];rfl) (by rw[ak,hi];rfl) (Kb hk key) (by rw[ak,hy];rfl) hω' (mL hk key m0) (BT hk key z m0) ((Mp.set_perm _ _ _ _ _).map _)
    ·cases h
   ·cases h
 ·cases h
theorem Ev{c:Call}(ho:o.op= .call c)(hc:c.callee= .builtin .len)(h:Ia V P (c.args.toList.map (tev S)) c.argTypes.toList S k=some r):OpD P nm o S k r:=by
 unfold Ia at h
 split at h
 ·rename_i n hargs
  replace h:=ah h
  obtain⟨hk,h⟩:=h
  obtain⟨m,te,tk,tv,es,j,m0,hn,hm,hnm,hj,h⟩:=ga h
  obtain⟨p,hpq,hpx⟩:∃p,c.args.toList=[p]/\tev S p= .mp n:=by
   match hcl:c.args.toList,hargs with
   |[p],hargs=>simp at hargs;exact⟨p,rfl,hargs⟩
   |[],hargs=>simp at hargs
   |_::_::_,hargs=>simp at hargs
  have hj':(es.map λo=>o.map (nt (V:=V) tk tv))[j]?=some (some (nt tk tv m0)):=by rw[NB,hj];rfl
  have hs:(es.map λo=>o.map λl=>l.map λp=>(dM V.enc tk p.1,aK V.sz V.enc tv p.2)).set j (some (nt tk tv m0))=es.map λo=>o.map λl=>l.map λp=>(dM V.enc tk p.1,aK V.sz V.enc tv p.2):=xf hj'
  refine rG (x1:=some (.maps te (es.map λo=>o.map (nt tk tv)) (some (n,j)))) (x2:=none) (h:= .d (.v (.int .i64 m0.length))) (λω=>rfl) (λω=>rfl) (by rw[gp hm];rfl) (by rw[kp hn];rfl) (λω=>rfl) h ?_
  have:=aB.viaAlias (P:=P) (nm:=nm) (o:=o) (ρ:=Go.Awp.ev (az V S)) (v:= .d (.v (.int .i64 m0.length))) (m1:=nt tk tv m0) (gD hm) hj' (kJ hn) hnm λω' hω'=> .told hω' (.ofAVal λρ' ω2 hρ hω=>by
   have hx':ρ' p= .mp n:=by
    rw[hρ p (by rw[ho];simp only[Op.operands,Call.operands,hc];(have:p∈c.args.toList:=by rw[hpq];simp);simpa using this),ak,hpx];rfl
   have ho':ω2 n=some (.map (nt tk tv m0)):=(hω n (by simp)).trans hω'
   simp only[aS,ho,hc,hpq,NF,N_,hx',ho']
   exact⟨hk,by rw[nt,Nz]⟩)
  rw[hs]at this
  exact this
 ·cases h
theorem zl{t:TypeId}{x:Operand}(ho:o.op= .range t x)(h:wh V P t x o.dst S k=some r):OpD P nm o S k r:=by
 unfold wh at h
 split at h
 ·rename_i kt et n d ht hx hd
  obtain⟨m,te,tk,tv,es,j,m0,hn,hm,hnm,hj,h⟩:=ga h
  replace h:=ah h
  obtain⟨⟨hf1,hf2⟩,h⟩:=h
  have hj':(es.map λo=>o.map (nt (V:=V) tk tv))[j]?=some (some (nt tk tv m0)):=by rw[NB,hj];rfl
  refine⟨_,h,λq o' hq=> ?_,_, .sem (.rangeAlias (nn:=aV d) ho ⟨_,_,ht⟩ (by rw[ak,hx];rfl) (by rw[hd];simp) (gD hm) hj' (kJ hn) ⟨hf1,hf2⟩),bq rfl rfl (by simp only[NF,N_,aX,Pd];rfl) rfl⟩
  simp only[af]at hq
  split at hq
  ·rename_i e;left;simp[e]
  ·right
   split at hq
   ·rename_i e;simp at hq;subst hq;subst e;rw[kp hn];rfl
   ·split at hq
    ·rename_i e;simp at hq;subst hq;subst e;rw[gp hm];simp[TO.len]
    ·simp[gt]at hq
 ·cases h
theorem wg{t:TypeId}{x i:Operand}(ho:o.op= .indexAddr t x i)(h:rZ V P t x i S k=some r):OpD P nm o S k r:=by
 unfold rZ at h
 split at h
 ·rename_i te sz by_ m kk n ht hx hi
  split at h
  ·rename_i te2 tk tv es al hm
   replace h:=ah h
   obtain⟨⟨h0,h1⟩,h⟩:=h
   refine cz h (.indexMaps ho ht ?_ (by rw[ak,hi];rfl) (gD hm) h0 (by rw[Nz];exact h1)) rfl
   rw[ak,hx,Nz]
   simp only[an,gp hm]
  ·rename_i te2 e xs hm
   replace h:=ah h
   obtain⟨⟨h0,h1⟩,h⟩:=h
   refine cz h (.qindex ho ht ?_ (by rw[ak,hi];rfl) (rI hm) h0 (by rw[Nz];exact h1)) rfl
   rw[ak,hx,Nz]
   simp only[an,vi hm]
  ·cases h
 ·cases h
theorem aB.more{v:H}{acc new:List Nat}{upd:List (Nat×Option Own)}{d:Nat}{ρ:Operand->H}{ω:Nat->Option Own}(h:aB P nm o ρ ω {val:=v,acc:=acc,upd:=upd,new:=new}):aB P nm o ρ ω {val:=v,acc:=acc,upd:=upd++[(d,none)],new:=new}:=by
 refine aB.ole h λown n o hn=>⟨o,?_,OLe.refl _⟩
 simp only[Oi,ez]at hn⊢
 cases hu:gt upd n with
 |some x=>rw[hu]at hn;exact hn
 |none=>
  rw[hu]at hn
  simp only[NQ,NW,af]at hn
  by_cases e:d=n
  ·rw[Q6 e]at hn;cases hn
  ·rw[Q5 e]at hn
   simpa[gt]using hn
theorem uo{t:TypeId}{x:Operand}(ho:o.op= .load t x)(h:oV V P t x o.dst S k=some r):OpD P nm o S k r:=by
 unfold oV at h
 split at h
 ·rename_i m i d ht hx hd
  split at h
  ·rename_i te tk tv es al hm
   replace h:=aR h
   obtain⟨o1,ho1,h⟩:=h
   replace h:=aR h
   obtain⟨m0,rfl,h⟩:=h
   replace h:=ah h
   obtain⟨hf,h⟩:=h
   have hj':(es.map λo=>o.map (nt (V:=V) tk tv))[i]?=some (some (nt tk tv m0)):=by rw[NB,ho1];rfl
   refine⟨_,h,λq o' hq=> ?_,_, .sem (aB.more (d:=aV d) (.loadMap (d:=aV d) ho ht (by rw[ak,hx];rfl) (gD hm) hj' hf)),bq rfl rfl rfl rfl⟩
   simp only[af]at hq
   split at hq
   ·rename_i e;right;simp at hq;subst hq;subst e;rw[gp hm];rfl
   ·split at hq
    ·rename_i e;left;simp[e]
    ·simp[gt]at hq
  ·cases h
 ·cases h
theorem r5{t:TypeId}{x y:Operand}(ho:o.op= .store t x y)(h:lN V P t x y S k=some r):OpD P nm o S k r:=by
 unfold lN at h
 split at h
 ·rename_i ag m i n ht hx hy
  split at h
  ·rename_i te tk tv es al tk' tv' e0 hm hn
   split at h
   ·rename_i hh
    obtain⟨e1,e2⟩:=hh
    subst e1;subst e2
    replace h:=ah h
    obtain⟨⟨hi,hnm⟩,h⟩:=h
    refine rG (x1:=some (.maps te ((es.map λo=>o.map (nt tk' tv')).set i (some (nt tk' tv' e0))) none)) (x2:=none) (h:= .junk) (λω=>by simp only[aX,Pd];rfl) (λω=>rfl) (by rw[gp hm];simp[TO.len]) (by rw[qX hn];rfl) (λω=>rfl) h ?_
    exact .storeMap ho ht (by rw[ak,hx];rfl) (by rw[ak,hy];rfl) (gD hm) (ir hn) (by rw[Nz];exact hi) hnm
   ·cases h
  ·cases h
 ·cases h
theorem yX{l c:Operand}(h:qm l c=true):l=c:=by
 unfold qm at h
 split at h
 ·rw[Ob h]
 ·cases h
theorem un{t:TypeId}{l c:Operand}(ho:o.op= .makeSlice t l c)(h:oU V P t l c o.dst S k=some r):OpD P nm o S k r:=by
 unfold oU at h
 split at h
 ·rename_i tk tv te bytes d hty ht hd
  split at h
  ·rename_i z0 kn n km m hz hl hc
   split at h
   ·rename_i hsame
    replace h:=ah h
    obtain⟨hb,h⟩:=h
    replace h:=ah h
    obtain⟨h0,h⟩:=h
    replace h:=ah h
    obtain⟨h1,h⟩:=h
    have hlc:=yX hsame
    subst hlc
    rw[hl]at hc
    simp only[TV.lf.injEq]at hc
    obtain⟨e1,e2⟩:=hc
    cases e1
    have e2:=eq_of_heq e2
    subst e2
    refine rF (d:=aV d) (h:= .vh (aV d) n.toNat) (x:= .maps te (On n.toNat none) none) (λω=>by simp only[aX,PE];rfl) (λω hω=>by simp only[an,hω,TO.len,Ph]) h ?_
    refine aB.ole (upd:=[(aV d,some (.vec te 1 (On n.toNat ([z0].map .v))))]) (.ofAVal (nm:=aV) λρ' ω' hρ hω=> ?_) λown q o1 hq=> ?_
    ·have hx':ρ' l= .d (.v (.int kn n)):=by rw[hρ l (by rw[ho];simp[Op.operands]),ak,hl];rfl
     simp only[aS,ho,ht,hd,hz,hx']
     exact⟨⟨.inl trivial,h0,h0,h1,hb⟩,trivial⟩
    ·simp only[NQ,NW,af]at hq⊢
     by_cases e:aV d=q
     ·rw[Q6 e]at hq⊢
      simp only[OK,Ny]at hq
      subst hq
      refine⟨_,rfl,?_⟩
      have:=OLe.v2maps (e:=te) (rows:=On n.toNat ([z0].map D.v))
      rw[PE]at this
      exact this
     ·rw[Q5 e]at hq⊢
      exact⟨o1,hq,OLe.refl _⟩
   ·cases h
  ·cases h
 ·cases h
theorem zi{t:TypeId}{len:Nat}{parts:Array (Nat×Operand)}(ho:o.op= .buildSlice t len parts)(h:wb V P t len parts.toList o.dst S k=some r):OpD P nm o S k r:=by
 unfold wb at h
 split at h
 ·rename_i te sz by_ e d ht hty hd
  replace h:=ah h
  obtain⟨⟨e1,e2,e3,e4⟩,h⟩:=h
  split at h
  ·rename_i ys hys
   obtain⟨rows,h1,h2,_,h4⟩:=jT (ω:=S.len) hys
   replace h4:=h4 rfl
   have hp:((parts.toList.map λ(i,x)=>(i,fnT (tev S x))).map λp=>(p.1,an V S.len p.2))=parts.toList.map λ(i,x)=>(i,fnD (Go.Awp.ev (az V S) x)):=by
    rw[N0]
    refine NZ λp _=> ?_
    simp only[Pn,qP,ak]
   rw[hp,<-e1]at h1
   rw[Nz,e2]at h2
   have hyl:ys.length=len:=by
    have:=congrArg Pv h4
    rw[Nz]at this;omega
   have hne:rows≠[]:=λe=>by rw[e]at h2;simp at h2;omega
   refine rF (d:=aV d) (h:= .vh (aV d) rows.length) (x:= .que te sz rows) (λω=>by rw[h4,e1];rfl) (λω hω=>by simp only[an,hω,TO.len,hyl,h2]) h ?_
   refine aB.ole (upd:=[(aV d,some (.vec te sz rows))]) (.ofAVal (nm:=aV) λρ' ω' hρ hω=> ?_) λown q o1 hq=> ?_
   ·have hpp:(parts.toList.map λ(i,x)=>(i,fnD (ρ' x)))=parts.toList.map λ(i,x)=>(i,fnD (Go.Awp.ev (az V S) x)):=by
     refine NZ λp hp=> ?_
     have:ρ' p.2=_:=hρ p.2 (by rw[ho];simp only[Op.operands];simpa using ⟨p.1,by simpa using hp⟩)
     simp only[this]
    have hnd:¬aV d=d:=by unfold aV;omega
    simp only[aS,ho,ht,hd,hpp,h1]
    refine⟨⟨h2,e3⟩,?_⟩
    rw[Q5 hnd]
    trivial
   ·simp only[NQ,NW,af]at hq⊢
    by_cases e:aV d=q
    ·rw[Q6 e]at hq⊢
     simp only[OK,Ny]at hq
     subst hq
     exact⟨_,rfl,OLe.v2q hne⟩
    ·rw[Q5 e]at hq⊢
     exact⟨o1,hq,OLe.refl _⟩
  ·cases h
 ·cases h
theorem kI{d:Nat}{ns:List Nat}{v:TV V.N}{h:H}{o':TO V.N}{x:Own}{l:List Nat}(hx:∀ω,aX V ω o'=some x)(hv:∀ω:Nat->Nat,ω d=TO.len (some o')->an V ω v=h)
 (hk:k {val:=v,acc:=l,upd:=(d,o')::sU V S ns,new:=[d]}=some r)
 (hs:aB P nm o (Go.Awp.ev (az V S)) (az V S).own? {val:=h,acc:=l,upd:=(d,some x)::ns.map (λn=>(n,none)),new:=[d]}):OpD P nm o S k r:=by
 refine⟨_,hk,λm o1 hm=> ?_,_, .sem hs,bq (hv _ ?_).symm rfl (by rw[NF,nB,hx]) rfl⟩
 ·simp only[af]at hm
  split at hm
  ·rename_i e;left;simp[e]
  ·exact .inr (nD hm)
 ·rw[bV];simp[af]
theorem zq{t:TypeId}{x:Operand}{lo hi mx:Option Operand}(ho:o.op= .slice t x lo hi mx)(h:wk V P t x lo hi mx o.dst S k=some r):OpD P nm o S k r:=by
 unfold wk at h
 split at h
 ·rename_i te0 sz0 by0 d m ht hd hx
  split at h
  ·rename_i l te e xs hm
   split at h
   ·rename_i kk n hl
    replace h:=ah h
    obtain⟨hse,h⟩:=h
    subst hse
    replace h:=ah h
    obtain⟨h0,h⟩:=h
    replace h:=ah h
    obtain⟨h1,h⟩:=h
    refine kI (ns:=[m]) (x:= .que te (tsz V.sz e) ((xs.map λx=>aT V.sz V.enc e x).drop n.toNat)) (h:= .vh (aV d) ((xs.map λx=>aT V.sz V.enc e x).length-n.toNat)) (λω=>by simp only[aX,OG]) (λω hω=>by simp only[an,hω,TO.len,Oe,Nz]) h ?_
    exact .qtail ho ht (by rw[ak,hx,Nz];simp only[an,vi hm]) (rI hm) (by rw[ak,hl];rfl) h0 (by rw[Nz];exact h1)
   ·cases h
  ·rename_i hh te e xs hm
   split at h
   ·rename_i kk n hl
    replace h:=ah h
    obtain⟨h0,h⟩:=h
    replace h:=ah h
    obtain⟨h1,h⟩:=h
    have h2:n.toNat<=xs.length:=Int.toNat_le.2 h1
    refine kI (ns:=[m]) (x:= .vec te (tsz V.sz e) ((xs.map λx=>aT V.sz V.enc e x).take n.toNat)) (h:= .vh (aV d) n.toNat) (λω=>by simp only[aX,OE]) (λω hω=>by simp only[an,hω,TO.len,Oa];rw[OO h2]) h ?_
    exact .trunc ho ht (by rw[ak,hx,Nz];simp only[an,dc hm]) (cf hm) (by rw[ak,hl];rfl) h0 (by rw[Nz];exact h1)
   ·cases h
  ·cases h
 ·cases h
theorem IK{c:Call}{x y:TV V.N}(h:c.args.toList.map (tev S)=[x,y]):∃p q,c.args= #[p,q]/\tev S p=x/\tev S q=y:=by
 match hcl:c.args.toList,h with
 |[p,q],h=>simp at h;exact⟨p,q,by rw[<-Pb];exact hcl,h.1,h.2⟩
 |[],h=>simp at h
 |[_],h=>simp at h
 |_::_::_::_,h=>simp at h
theorem kL(e:Ty V.ι)(xs:List (den V.N e)):(xs.map λx=>aT V.sz V.enc e x).all (λr=>r.all D.one)=true:=by
 rw[OZ,NM]
 intro y _
 exact rK
theorem qI{a b:Nat}(h:a<=most)(hb:b<=32768):a *b<=140737488355328:=by
 have:a *b<=4294967296 *32768:=P5 h hb
 omega
theorem En{c:Call}(ho:o.op= .call c)(hc:c.callee= .builtin .append)(h:HZ V P (c.args.toList.map (tev S)) c.argTypes.toList o.dst S k=some r):OpD P nm o S k r:=by
 unfold HZ at h
 split at h
 ·rename_i x y t t' d hargs htys hd
  obtain⟨p,q,hpq,rfl,hqy⟩:=IK hargs
  split at h
  ·rename_i te sz bytes ht
   replace h:=ah h
   obtain⟨⟨e1,hby⟩,h⟩:=h
   subst e1
   have hct:c.argTypes= #[t,t]:=by rw[<-Pb];exact htys
   split at h
   ·rename_i e' y0 ys
    split at h
    ·rename_i n hx
     split at h
     ·rename_i te2 e xs hown
      split at h
      ·rename_i e2
       subst e2
       replace h:=ah h
       obtain⟨⟨e3,e4⟩,h⟩:=h
       subst e3;subst e4
       replace h:=ah h
       obtain⟨hle,h⟩:=h
       refine kI (ns:=[n]) (x:= .que te (tsz V.sz e') ((xs.map λx=>aT V.sz V.enc e' x)++((y0::ys).map λx=>aT V.sz V.enc e' x))) (h:= .vh (aV d) ((xs.map λx=>aT V.sz V.enc e' x).length+((y0::ys).map λx=>aT V.sz V.enc e' x).length)) (λω=>by simp only[aX,Of]) (λω hω=>by simp only[an,hω,TO.len,NT,Nz]) h ?_
       refine .qappend ho hc hpq hct ht (by rw[ak,hx,Nz];simp only[an,vi hown]) (rI hown) (by rw[ak,hqy];rfl) (by simp) (kL e' _) ?_ ?_
       ·rw[Nz,Nz];exact qI hle hby
       ·rw[Nz,Nz];unfold most at hle;omega
      ·cases h
     ·cases h
    ·cases h
   ·rename_i m sz2 lo len
    split at h
    ·rename_i te2 e2 xs2 hm
     replace h:=ah h
     obtain⟨⟨e3,e4⟩,h⟩:=h
     subst e4;subst e3
     replace h:=ah h
     obtain⟨hll,h⟩:=h
     split at h
     ·rename_i n hx
      split at h
      ·rename_i te1 e xs hown
       split at h
       ·rename_i e5
        subst e5
        replace h:=ah h
        obtain⟨⟨e6,hnm⟩,h⟩:=h
        subst e6
        replace h:=ah h
        obtain⟨hle,h⟩:=h
        refine kI (ns:=[n]) (x:= .vec te (tsz V.sz e2) ((xs.map λx=>aT V.sz V.enc e2 x)++(((xs2.map λx=>aT V.sz V.enc e2 x).drop lo).take len))) (h:= .vh (aV d) ((xs.map λx=>aT V.sz V.enc e2 x).length+len)) (λω=>by simp only[aX,Of,OE,OG]) (λω hω=>by
         simp only[an,hω,TO.len,NT,Nz,Oa,Oe]
         rw[OO (by omega)]) h ?_
        refine .appendCut ho hc hpq hct ht (.inl ⟨n,by rw[ak,hx,Nz];simp only[an,dc hown],cf hown,hnm,rfl⟩) (by rw[ak,hqy];rfl) (cf hm) (by rw[Nz];exact hll) (kL e2 _) ?_ ?_
        ·rw[Nz];exact qI hle hby
        ·rw[Nz];unfold most at hle;omega
       ·cases h
      ·cases h
     ·rename_i hx
      replace h:=ah h
      obtain⟨hle,h⟩:=h
      refine kI (ns:=[]) (x:= .vec te (tsz V.sz e2) ([]++(((xs2.map λx=>aT V.sz V.enc e2 x).drop lo).take len))) (h:= .vh (aV d) (([]:List (List D)).length+len)) (λω=>by simp only[aX,OE,OG,NW]) (λω hω=>by
       simp only[an,hω,TO.len,Oa,Oe,OJ]
       rw[OO (by omega),N2]) h ?_
      refine .appendCut ho hc hpq hct ht (.inr ⟨by rw[ak,hx];rfl,rfl,rfl⟩) (by rw[ak,hqy];rfl) (cf hm) (by rw[Nz];exact hll) (kL e2 _) ?_ ?_
      ·rw[OJ,N2];exact qI hle hby
      ·rw[OJ,N2];unfold most at hle;omega
     ·cases h
    ·cases h
   ·cases h
  ·cases h
 ·cases h
theorem w6{n:Nat}{o':TO V.N}{x:Own}{l:List Nat}{v:TV V.N}{h:H}(hx:∀ω,aX V ω o'=some x)(hv:∀ω,an V ω v=h)(hl:TO.len (some o')=S.len n)(hk:k {val:=v,acc:=l,upd:=[(n,o')]}=some r)
 (hs:aB P nm o (Go.Awp.ev (az V S)) (az V S).own? {val:=h,acc:=l,upd:=[(n,some x)]}):OpD P nm o S k r:=by
 refine⟨_,hk,λm o1 hm=> ?_,_, .sem hs,bq (hv _).symm rfl (by simp[hx]) rfl⟩
 simp only[af]at hm
 split at hm
 ·rename_i e;right;simp at hm;subst hm;subst e;exact hl
 ·simp[gt]at hm
theorem wG{α:Type}(xs ys:List α)(n:Nat)(h:ys.length=n):(ys.take xs.length++xs.drop n).length=xs.length:=by
 rw[NT,Oa,Oe,h]
 omega
theorem Cu{c:Call}(ho:o.op= .call c)(hc:c.callee= .builtin .copy)(h:Ct V P (c.args.toList.map (tev S)) c.argTypes.toList S k=some r):OpD P nm o S k r:=by
 unfold Ct at h
 split at h
 ·rename_i m y t rest hargs htys
  obtain⟨p,q,hpq,hpx,hqy⟩:=IK hargs
  have hct:c.argTypes[0]?=some t:=by
   have:c.argTypes.toList[0]?=some t:=by rw[htys];rfl
   simpa using this
  split at h
  ·rename_i te sz by_ te1 e xs ht hm
   replace h:=ah h
   obtain⟨⟨e1,e2⟩,h⟩:=h
   subst e1;subst e2
   split at h
   ·rename_i m2 sz2 lo len
    split at h
    ·rename_i te2 e2 xs2 hm2
     split at h
     ·rename_i e3
      subst e3
      replace h:=ah h
      obtain⟨⟨e4,hne⟩,h⟩:=h
      subst e4
      replace h:=ah h
      obtain⟨hll,h⟩:=h
      have hnl:(((xs2.map λx=>aT V.sz V.enc e2 x).drop lo).take len).length=len:=by rw[Oa,Oe,Nz];omega
      have hnl':((xs2.drop lo).take len).length=len:=by rw[Oa,Oe];omega
      have:=aB.copy (P:=P) (nm:=nm) (ω:=(az V S).own?) (ρ:=Go.Awp.ev (az V S)) (rows:=xs.map λx=>aT V.sz V.enc e2 x) (news:=((xs2.map λx=>aT V.sz V.enc e2 x).drop lo).take len) (acc:=[m,m2]) ho hc hpq hct ht (by rw[ak,hpx,Nz];simp only[an,dc hm]) (cf hm)
       (.inr ⟨m2,te2,lo,xs2.map λx=>aT V.sz V.enc e2 x,by rw[ak,hqy,hnl];rfl,cf hm2,by rw[hnl,Nz];exact hll,by rw[hnl],hne,rfl⟩)
       (by
         rw[<-OG,<-OE];exact kL e2 _)
      rw[hnl,Nz]at this
      refine w6 (x:= .vec te (tsz V.sz e2) ((((xs2.map λx=>aT V.sz V.enc e2 x).drop lo).take len).take xs.length++(xs.map λx=>aT V.sz V.enc e2 x).drop len)) (λω=>by simp only[aX,Of,OE,OG]) (λω=>rfl) (by rw[dc hm];exact wG xs _ _ hnl') h this
     ·cases h
    ·cases h
   ·rename_i e2 ys
    split at h
    ·rename_i e3
     subst e3
     have:=aB.copy (P:=P) (nm:=nm) (ω:=(az V S).own?) (ρ:=Go.Awp.ev (az V S)) (rows:=xs.map λx=>aT V.sz V.enc e2 x) (news:=ys.map λx=>aT V.sz V.enc e2 x) (acc:=[m]) ho hc hpq hct ht (by rw[ak,hpx,Nz];simp only[an,dc hm]) (cf hm)
      (.inl ⟨by rw[ak,hqy];rfl,rfl⟩) (kL e2 _)
     rw[Nz,Nz]at this
     exact w6 (x:= .vec te (tsz V.sz e2) ((ys.map λx=>aT V.sz V.enc e2 x).take xs.length++(xs.map λx=>aT V.sz V.enc e2 x).drop ys.length)) (λω=>by simp only[aX,Of,OE,OG]) (λω=>rfl) (by rw[dc hm];exact wG xs _ _ rfl) h this
    ·cases h
   ·cases h
  ·cases h
 ·cases h
theorem Ep{t:TypeId}{x:Operand}(ho:o.op= .box t x)(h:H3 V x S k=some r):OpD P nm o S k r:=by
 unfold H3 at h
 split at h
 ·rename_i i y hx
  exact cz h (.freezeBox (ds:=V.enc i y) ho (by rw[ak,hx,jD];rfl)) rfl
 ·cases h
end
section
variable (V:i7) (P:Program) (nm:Nat->Nat)
def Gx:TV V.N->Bool
 | .lf (.ar _ _) _=>true
 |_=>false
def Gw:Option (Ty V.ι)->Bool
 |some (.ar _ _)=>true
 |_=>false
def Ld:Option (Ty V.ι)->Bool
 |some (.sl (.mp _ _))=>true
 |_=>false
def Lc:Ty V.ι->Bool
 | .fno=>true
 |_=>false
def Fv:Option (Ty V.ι)->Bool
 |some (.st i)=>(V.tys i).any (Lc V)
 |_=>false
def Gz:Option (TO V.N)->Bool
 |some (.bar ..)=>true
 |_=>false
def Dp:Option (TO V.N)->Bool
 |some (.que ..)=>true
 |_=>false
def wS:Option (TO V.N)->Bool
 |some (.maps ..)=>true
 |_=>false
def Gv:Option (TO V.N)->Bool
 |some (.alias ..)=>true
 |_=>false
def Gy:Option (TO V.N)->Bool
 |some (.vec _ (.ar _ _) _)=>true
 |_=>false
def GB:TV V.N->Bool
 | .lf (.st _) _=>true
 |_=>false
def sa(S:TS V.N):TV V.N->Bool
 | .mp n=>Gv V (S.own? n)
 |_=>false
def Ar(pre:Nat->Bool)(m:Nat):Option Tmp->Bool
 |some d=>pre (m+d)
 |none=>false
def Jj(pre:Nat->Bool)(o:Oper)(S:TS V.N):Bool:=match o.op with
 | .index _ x _=>Gx V (tev S x)
 | .indexAddr _ x _=>match tev S x with
  | .bp n 0=>Gz V (S.own? n)
  | .rp (.ar _ _) _ _=>true
  | .ep .. =>true
  | .vh m=>Dp V (S.own? m)||wS V (S.own? m)
  |_=>false
 | .load _ x=>match tev S x with
  | .ai .. =>true
  | .bp n _=>Gz V (S.own? n)
  | .ep n _ _ _=>Dp V (S.own? n)||wS V (S.own? n)||Gy V (S.own? n)
  | .rp (.ar _ _) _ _=>true
  |_=>false
 | .store _ x _=>match tev S x with
  | .ai .. =>true
  | .bp n _=>Gz V (S.own? n)
  | .ep n _ _ _=>wS V (S.own? n)
  |_=>false
 | .alloc t=>Gw V (V.ty t)
 | .box _ x=>Gx V (tev S x)||Ar pre 7000000 o.dst
 | .nilCheck x=>match tev S x with
  | .lf (.op _) _=>true
  |_=>false
 | .binOp _ _ x y _=>match tev S x,tev S y with
  | .lf (.op _) _, .raw (.pointer none)=>true
  | .lf .fno _, .raw .nilFunc=>true
  | .lf (.st _) _, .lf (.st _) _=>true
  |_,_=>false
 | .build t parts=>Gw V (V.ty t)||Fv V (V.ty t)||(!parts.toList.isEmpty&&Ar pre 1000000 o.dst)
 | .makeSlice t _ _=>Ld V (V.ty t)
 | .lookup _ x i _=>sa V S (tev S x)||GB V (tev S i)
 | .mapUpdate _ x i _=>sa V S (tev S x)||GB V (tev S i)
 | .insert _ x i _=>sa V S (tev S x)||GB V (tev S i)
 | .range _ x=>sa V S (tev S x)
 | .slice _ x _ _ _=>Ar pre 5000000 o.dst||match tev S x with
  | .vh m=>Dp V (S.own? m)
  |_=>false
 | .buildSlice _ _ _=>Ar pre 6000000 o.dst
 | .call c=>match c.callee with
  | .builtin .len=>match c.args.toList with
   |[x]=>sa V S (tev S x)
   |_=>false
  | .builtin .copy=>true
  | .builtin .append=>match c.args.toList with
   |[x,y]=>match tev S x,tev S y with
    | .sv ..,_=>false
    |_, .sv .. =>true
    | .vh n, .lf .. =>Dp V (S.own? n)
    |_,_=>false
   |_=>false
  |_=>false
 |_=>false
def Md{A:Type}(o:Oper)(S:TS V.N)(k:TE V.N->Option A):Option A:=match o.op with
 | .index t x i=>wd V P t x i S k
 | .indexAddr t x i=>match tev S x with
  | .vh _=>rZ V P t x i S k
  |_=>H8 V P t x i S k
 | .load t x=>match tev S x with
  | .ep n _ _ _=>match wS V (S.own? n)with
   |true=>oV V P t x o.dst S k
   |false=>xk V P t x S k
  |_=>xk V P t x S k
 | .store t x y=>match tev S x with
  | .ep .. =>lN V P t x y S k
  |_=>wl V P t x y S k
 | .alloc t=>v6 V P nm t o.dst k
 | .box _ x=>match Gx V (tev S x)with
  |true=>H2 V nm x o.dst S k
  |false=>H3 V x S k
 | .nilCheck x=>Ic V x S k
 | .binOp op xt x y _=>H4 V P op xt x y S k
 | .build t parts=>match Gw V (V.ty t)with
  |true=>v7 V P t parts.toList S k
  |false=>match Fv V (V.ty t)with
   |true=>v_ V P t parts.toList S k
   |false=>wa V P t parts.toList o.dst S k
 | .makeSlice t l c=>oU V P t l c o.dst S k
 | .lookup t x i c=>Cz V P t x i c S k
 | .mapUpdate t x i y=>EJ V P t x i y S k
 | .insert t x i y=>EJ V P t x i y S k
 | .range t x=>wh V P t x o.dst S k
 | .slice t x lo hi mx=>wk V P t x lo hi mx o.dst S k
 | .buildSlice t len parts=>wb V P t len parts.toList o.dst S k
 | .call c=>match c.callee with
  | .builtin .len=>Ia V P (c.args.toList.map (tev S)) c.argTypes.toList S k
  | .builtin .copy=>Ct V P (c.args.toList.map (tev S)) c.argTypes.toList S k
  | .builtin .append=>HZ V P (c.args.toList.map (tev S)) c.argTypes.toList o.dst S k
  |_=>none
 |_=>none
def opX(pre:Nat->Bool)(o:Oper)(S:TS V.N):Bool:=Jj V pre o S||IY V pre o S
def tdX{A:Type}(pre:Nat->Bool)(o:Oper)(S:TS V.N)(k:TE V.N->Option A):Option A:=match Jj V pre o S with
 |true=>Md V P nm o S k
 |false=>H7 V P nm o S k
def FY(S:TS V.N)(t:Nat):TS V.N:=match gt S.tmps t with
 |some (.bp b 0)=>match S.own? b with
  |some (.bst i x)=>{tmps:=(t, .lf (.op (.st i)) (some x))::S.tmps,own:=(b, .gone 0)::S.own}
  |_=>S
 |_=>S
def L2(S:TS V.N)(t:Nat):TS V.N:=match gt S.tmps t with
 |some (.vh n)=>match S.own? n with
  |some (.vec _ e xs)=>{S with tmps:=(t, .sv n (tsz V.sz e) 0 xs.length)::S.tmps}
  |_=>S
 |_=>S
def HV(S:TS V.N)(x:Operand)(ty:TypeId):TS V.N:=match x with
 | .tmp t=>match bf P ty,V.ty ty with
  |some (te,_,_),some (.sl e)=>L2 V (vC V false te e S t) t
  |_,_=>S
 |_=>S
def qy(S:TS V.N):List Operand->List TypeId->TS V.N
 |x::r,ty::s=>qy (HV V P S x ty) r s
 |_,_=>S
def AH:Nat->List (TV V.N)->Option (Nat×Nat×Nat×Nat)
 |_,[]=>none
 |i,x::r=>match x with
  | .sv m sz 0 l=>some (i,m,sz,l)
  |_=>AH (i+1) r
def pO(S:TS V.N):List (Nat×TO V.N)->Option (Nat×Option TypeId×List (TV V.N)×Nat×Nat×Nat×Nat)
 |[]=>none
 |(b,_)::r=>match S.own? b with
  |some (.box o cells)=>match AH V 0 cells with
   |some q=>some (b,o,cells,q)
   |none=>pO S r
  |_=>pO S r
def Gt{A:Type}(S:TS V.N)(k:TS V.N->Option A):Option A:=match pO V S S.own with
 |some (b,o,cells,i,m,sz,l)=>match S.own? m with
  |some (.vec te e xs)=>if sz=tsz V.sz e/\¬b=m/\S.fresh (75000+S.own.length)=true/\O4 (75000+S.own.length) given=true then
   if l<=xs.length then k {tmps:=S.tmps,own:=(b, .box o (cells.set i (.vh (75000+S.own.length))))::(75000+S.own.length, .vec te e (xs.take l))::(m, .gone (S.len m))::S.own}else none
   else none
  |_=>none
 |none=>none
def AA{A:Type}(pre:Nat->Bool)(o:Oper)(S:TS V.N)(k:TS V.N->Option A):Option A:=match Ar pre 8000000 o.dst with
 |true=>Gt V S k
 |false=>match o.op with
  | .store _ _ (.tmp t)=>match pre (7000000+t)with
   |true=>k (FY V S t)
   |false=>k S
  | .call c=>match c.callee with
   | .value f=>match tev S f with
    | .fn fid _ _=>match pre (9000000+fid)with
     |true=>k (qy V P S c.args.toList c.argTypes.toList)
     |false=>k S
    |_=>k S
   |_=>k S
  |_=>k S
end
section
variable {V:i7} {P:Program} {nm:Nat->Nat} {pre:Nat->Bool} {o:Oper} {S:TS V.N} {A:Type} {k:TE V.N->Option A} {r:A}
theorem zk(h:Md V P nm o S k=some r):OpD P nm o S k r:=by
 unfold Md at h
 split at h
 ·rename_i t x i ho;exact zj ho h
 ·rename_i t x i ho
  split at h
  ·exact wg ho h
  ·exact Et ho h
 ·rename_i t x ho
  split at h
  ·split at h
   ·exact uo ho h
   ·exact ul ho h
  ·exact ul ho h
 ·rename_i t x y ho
  split at h
  ·exact r5 ho h
  ·exact zr ho h
 ·rename_i t ho;exact ze ho h
 ·rename_i t x ho
  split at h
  ·exact Eo ho h
  ·exact Ep ho h
 ·rename_i x ho;exact Ey ho h
 ·rename_i op xt x y yt ho;exact Er ho h
 ·rename_i t parts ho
  split at h
  ·exact zf ho h
  ·split at h
   ·exact zg ho h
   ·exact zh ho h
 ·rename_i t l c ho;exact un ho h
 ·rename_i t x i c ho;exact CA ho h
 ·rename_i t x i y ho;exact xo (.inl ho) h
 ·rename_i t x i y ho;exact xo (.inr ho) h
 ·rename_i t x ho;exact zl ho h
 ·rename_i t x lo hi mx ho;exact zq ho h
 ·rename_i t len parts ho;exact zi ho h
 ·rename_i c ho
  split at h
  ·rename_i hc;exact Ev ho hc h
  ·rename_i hc;exact Cu ho hc h
  ·rename_i hc;exact En ho hc h
  ·cases h
 ·cases h
theorem uk(hf:∀te,k te=some r->∀d∈te.new,S.fresh d=true)(h:tdX V P nm pre o S k=some r):OpD P nm o S k r:=by
 unfold tdX at h
 split at h
 ·exact zk h
 ·exact wc hf h
theorem zK(S:TS V.N)(t:Nat):Ent (az V S) (az V (FY V S t)):=by
 unfold FY
 split
 ·rename_i b ht
  split
  ·rename_i i x hb
   have h1:gt (az V S).tmps t=some (.bp b 0):=by rw[bP,ht];rfl
   have h2:(az V S).own? b=some (.box none ((V.enc i x).map .d)):=by rw[aG,hb];rfl
   refine Ent.trans (Ent.boxData h1 h2) ?_
   have hl:({tmps:=(t, .lf (.op (.st i)) (some x))::S.tmps,own:=(b, .gone 0)::S.own}:TS V.N).len=S.len:=by
    funext m
    unfold TS.len TS.own?
    rw[af]
    by_cases e:b=m
    ·subst e
     rw[Q6 rfl]
     unfold TS.own? at hb
     rw[hb];rfl
    ·rw[Q5 e]
   have:az V {tmps:=(t, .lf (.op (.st i)) (some x))::S.tmps,own:=(b, .gone 0)::S.own}={tmps:=(t, .d (.rp (V.enc i x)))::(az V S).tmps,own:=(b,none)::(az V S).own}:=by
    unfold az
    rw[hl];rfl
   rw[this]
   exact Ent.refl _
  ·exact Ent.refl _
 ·exact Ent.refl _
theorem Em(S:TS V.N)(t:Nat):Ent (az V S) (az V (L2 V S t)):=by
 unfold L2
 split
 ·rename_i n ht
  split
  ·rename_i te e xs hn
   have h1:gt (az V S).tmps t=some (.vh n (xs.map λx=>aT V.sz V.enc e x).length):=by
    rw[bP,ht,Nz]
    simp only[N6,an,dc hn]
   have:=Ent.vh2sv h1 (cf hn)
   rw[Nz]at this
   exact this
  ·exact Ent.refl _
 ·exact Ent.refl _
theorem Co(S:TS V.N)(x:Operand)(ty:TypeId):Ent (az V S) (az V (HV V P S x ty)):=by
 unfold HV
 split
 ·split
  ·exact Ent.trans (n5 _ _ _ S _) (Em _ _)
  ·exact Ent.refl _
 ·exact Ent.refl _
theorem qz:∀(l:List Operand) (tys:List TypeId) (S:TS V.N),Ent (az V S) (az V (qy V P S l tys))
 |[],_,S=>by simp only[qy];exact Ent.refl _
 |_::_,[],S=>by simp only[qy];exact Ent.refl _
 |x::r,ty::s,S=>by
  simp only[qy]
  exact Ent.trans (Co S x ty) (qz r s _)
theorem pU:∀{l:List (TV V.N)} {j i m sz n:Nat},AH V j l=some (i,m,sz,n)->j<=i/\l[i-j]?=some (.sv m sz 0 n)
 |[],_,_,_,_,_,h=>by simp[AH]at h
 |x::r,j,i,m,sz,n,h=>by
  simp only[AH]at h
  split at h
  ·simp only[Ny,N5]at h
   obtain⟨rfl,rfl,rfl,rfl⟩:=h
   exact⟨NY _,by simp⟩
  ·obtain⟨h1,h2⟩:=pU h
   refine⟨by omega,?_⟩
   have:i-j=(i-(j+1))+1:=by omega
   rw[this]
   simpa using h2
theorem jE:∀{l:List (Nat×TO V.N)} {b:Nat} {o:Option TypeId} {cells:List (TV V.N)} {i m sz n:Nat},pO V S l=some (b,o,cells,i,m,sz,n)->S.own? b=some (.box o cells)/\cells[i]?=some (.sv m sz 0 n)
 |[],_,_,_,_,_,_,_,h=>by simp[pO]at h
 |(b',_)::r,b,o,cells,i,m,sz,n,h=>by
  simp only[pO]at h
  split at h
  ·rename_i o' cells' hb
   split at h
   ·rename_i q hq
    simp only[Ny,N5]at h
    obtain⟨rfl,rfl,rfl,rfl⟩:=h
    have:=(pU hq).2
    exact⟨hb,by simpa using this⟩
   ·exact jE h
  ·exact jE h
theorem AG{k:TS V.N->Option A}(h:Gt V S k=some r):∃S',k S'=some r/\Ent (az V S) (az V S'):=by
 unfold Gt at h
 split at h
 ·rename_i b oty cells i m sz l hfs
  obtain⟨hb,hi⟩:=jE hfs
  split at h
  ·rename_i te e xs hm
   replace h:=ah h
   obtain⟨⟨e1,hbm,hf,hg⟩,h⟩:=h
   replace h:=ah h
   obtain⟨hl,h⟩:=h
   subst e1
   generalize 75000+S.own.length=nn at *
   refine⟨_,h,?_⟩
   have hg:nn<given:=by simpa[Pk]using hg
   have h1:(az V S).own? b=some (.box oty (encL V S.len cells)):=by rw[aG,hb];rfl
   have h2:(encL V S.len cells)[i]?=some (.sv m (tsz V.sz e) 0 l):=by rw[encL_map,NB,hi];rfl
   have hfr:=d7 hf
   refine Ent.trans (Ent.head h1 h2 (cf hm) (by rw[Nz];exact hl) hbm ⟨hfr,hg⟩) ?_
   have hcn:TV.hasL nn cells=false:=by
    have:=hf
    unfold TS.fresh at this
    simp only[NH,NM]at this
    have:=this.2 (b, .box oty cells) (bH hb)
    simpa[TO.has]using this
   have hfo:S.own? nn=none:=by
    have:=hf
    unfold TS.fresh at this
    simp only[NH]at this
    have:=this.1.1
    cases ho:S.own? nn with
    |none=>rfl
    |some x=>rw[ho]at this;cases this
   have hbn:b≠nn:=λe0=>by subst e0;rw[hb]at hfo;cases hfo
   have hmn:m≠nn:=λe0=>by subst e0;rw[hm]at hfo;cases hfo
   generalize hS':({tmps:=S.tmps,own:=(b, .box oty (cells.set i (.vh nn)))::(nn, .vec te e (xs.take l))::(m, .gone (S.len m))::S.own}:TS V.N)=S'
   have hlen:∀q,q≠nn->S'.len q=S.len q:=by
    intro q hq
    subst hS'
    unfold TS.len TS.own?
    simp only[af]
    by_cases q1:b=q
    ·subst q1
     rw[Q6 rfl]
     unfold TS.own? at hb
     rw[hb];rfl
    ·rw[Q5 q1,Q5 (Oc hq)]
     by_cases q2:m=q
     ·subst q2;rw[Q6 rfl];rfl
     ·rw[Q5 q2]
   have hlnn:S'.len nn=l:=by
    subst hS'
    unfold TS.len TS.own?
    simp only[af,Q5 hbn,Q2,TO.len,Oa]
    omega
   refine Ent.le (λt x hx=> ?_) λn x hx=> ?_
   ·rw[bP,NK]at hx
    obtain⟨v,hv,rfl⟩:=hx
    have hv':gt S.tmps t=some v:=by subst hS';exact hv
    refine⟨an V S.len v,by simp only[bP,hv'];rfl,?_⟩
    have:an V S'.len v=an V S.len v:=iE v λq hq=>hlen q λe0=>by
     subst e0
     have:=fresh_tmp hf hv'
     rw[hq]at this;cases this
    rw[this]
    exact H.le.refl _
   ·rw[aG,O8]at hx
    obtain⟨oo,ho1,ho2⟩:=hx
    refine⟨x,?_,OLe.refl _⟩
    subst hS'
    unfold TS.own? at ho1
    unfold ab.own?
    simp only[af]at ho1⊢
    by_cases q1:b=n
    ·rw[Q6 q1]at ho1⊢
     simp only[Ny]at ho1;subst ho1
     simp only[aX,Ny]at ho2;subst ho2
     have hc:encL V (TS.len {tmps:=S.tmps,own:=(b, .box oty (cells.set i (.vh nn)))::(nn, .vec te e (xs.take l))::(m, .gone (S.len m))::S.own}) (cells.set i (.vh nn))=(encL V S.len cells).set i (.vh nn l):=by
      rw[encL_map,Pd,encL_map]
      congr 1
      ·rw[<-encL_map,<-encL_map]
       refine encL_congr cells λq hq=>hlen q λe0=> ?_
       subst e0;rw[hcn]at hq;cases hq
      ·simp only[an,hlnn]
     rw[hc]
     rfl
    ·rw[Q5 q1]at ho1⊢
     by_cases q2:nn=n
     ·rw[Q6 q2]at ho1⊢
      simp only[Ny]at ho1;subst ho1
      simp only[aX,Ny]at ho2;subst ho2
      rw[OE];rfl
     ·rw[Q5 q2]at ho1⊢
      by_cases q3:m=n
      ·rw[Q6 q3]at ho1
       simp only[Ny]at ho1;subst ho1
       cases ho2
      ·rw[Q5 q3]at ho1⊢
       have hq:(az V S).own? n=some x:=by
        rw[aG]
        unfold TS.own?
        rw[ho1]
        have:aX V S.len oo=aX V (TS.len {tmps:=S.tmps,own:=(b, .box oty (cells.set i (.vh nn)))::(nn, .vec te e (xs.take l))::(m, .gone (S.len m))::S.own}) oo:=(pL oo λq hq=>hlen q λe0=>by
         subst e0
         have:=hf
         unfold TS.fresh at this
         simp only[NH,NM]at this
         have:=this.2 (n,oo) (bH ho1)
         simp[hq]at this).symm
        rw[O_,this];exact ho2
       exact hq
  ·cases h
 ·cases h
theorem yh{k:TS V.N->Option A}(h:AA V P pre o S k=some r):∃S',k S'=some r/\Ent (az V S) (az V S'):=by
 unfold AA at h
 split at h
 ·exact AG h
 ·split at h
  ·split at h
   ·exact⟨_,h,zK S _⟩
   ·exact⟨_,h,Ent.refl _⟩
  ·split at h
   ·split at h
    ·split at h
     ·exact⟨_,h,qz _ _ S⟩
     ·exact⟨_,h,Ent.refl _⟩
    ·exact⟨_,h,Ent.refl _⟩
   ·exact⟨_,h,Ent.refl _⟩
  ·exact⟨_,h,Ent.refl _⟩
end
end Go.Tx
end
section
namespace Go.Tx
open Go.Awp
variable [Inhabited GMem]
section
variable {ι:Type} {N:ι->Type}
def setB(S:TS N)(d:Nat)(b:Bool):TS N:={S with tmps:=(d, .lf .bool b)::S.tmps}
def sY(S:TS N)(all:List Oper)(j:Nat):Option (Nat×TV N):=match all[j]? with
 |some o=>match o.dst with
  |some d=>match gt S.tmps d with
   |some v=>some (d,v)
   |none=>none
  |none=>none
 |none=>none
def Ai(n:Nat)(pre:Nat->Bool)(o:Oper):Bool:=match o.dst with
 |some d=>O4 d n&& !pre (4000000+d)
 |none=>true
def eI(S:TS N)(e:TE N):Bool:=e.new.all λd=>S.fresh d&&O4 d given
end
section
variable (V:i7) (P:Program) (n:Nat) (nm:Nat->Nat) (call:bm V)
def mT:TV V.N->List (TV V.N)
 | .vh n=>[.vh n]
 | .agg cs=>cs
 |_=>[]
def FI(b c:Bool):TV V.N->List (TV V.N)
 | .vh n=>match b with
  |true=>[.vh n]
  |false=>[]
 | .agg cs=>match c with
  |true=>[]
  |false=>cs
 |_=>[]
def BP(pre:Nat->Bool)(o:Oper)(S:TS V.N):TS V.N:=match o.op with
 | .buildSlice _ _ parts=>frzL V S (parts.toList.flatMap λp=>mT V (tev S p.2))
 | .convert _ _ x=>frzL V S (mT V (tev S x))
 | .slice _ x _ _ _=>frzL V S (mT V (tev S x))
 | .store _ x y=>match tev S x with
  | .ep .. =>frzL V S (mT V (tev S y))
  |_=>S
 | .call c=>match c.callee with
  | .value f=>match tev S f with
   | .fn fid first captured=>frzL V S ((first++c.args.toList.map (tev S)++captured).flatMap (FI V (pre fid) (pre (2000000+fid))))
   | .lf .fnc _=>frzL V S ((c.args.toList.map (tev S)).flatMap (FI V false false))
   |_=>S
  | .builtin .append=>match c.args.toList,c.argTypes.toList with
   |[_, .tmp t],ty::_=>match gt S.tmps t,V.ty ty with
    |some (.vh n),_=>frzL V S [.vh n]
    |some (.raw (.slice (some _) 0 _)),some (.sl e)=>{S with tmps:=(t, .lf (.sl e) [])::S.tmps}
    |some (.raw (.slice none 0 0)),some (.sl e)=>{S with tmps:=(t, .lf (.sl e) [])::S.tmps}
    |_,_=>S
   |_,_=>S
  |_=>S
 |_=>S
def sQ{α β:Type}:List α->(List α->β)->β
 |[],k=>k []
 |x::r,k=>sQ r λl=>k (x::l)
theorem nA{α β:Type}:∀(l:List α) (k:List α->β),sQ l k=k l
 |[],_=>rfl
 |x::r,k=>by rw[sQ,nA r]
def wP{ι:Type}{N:ι->Type}{β:Type}(S:TS N)(k:TS N->β):β:=sQ S.tmps λt=>sQ S.own λo=>k ⟨t,o⟩
theorem sR{ι:Type}{N:ι->Type}{β:Type}(S:TS N)(k:TS N->β):wP S k=k S:=by
 unfold wP
 rw[nA,nA]
noncomputable def Ib{A:Type}(x:Operand)(S:TS V.N)(k:TE V.N->Option A):Option A:=match tev S x with
 | .bp n 0=>match S.own? n with
  |some (.miter m tk tv es rest _)=>if GC tk=true/\S.len m=0 then
   if rest.isEmpty=true then k {val:= .tup [.lf .bool false],acc:=[n,m],upd:=[(m, .map tk tv es),(n, .gone 0)]}
   else FU (HT rest) λq=>k {val:= .tup [.lf .bool true, .lf tk q.1.1, .lf tv q.1.2],acc:=[n],upd:=[(n, .miter m tk tv es q.2 (some q.1))]}
   else none
  |_=>none
 |_=>none
noncomputable def txo(pre:Nat->Bool)(o:Oper){A:Type}(S:TS V.N)(k:TS V.N->Option A):Option A:=match o.op with
 | .next x false=>Ib V x S λte=>match eI S te with
  |true=>k (S.app o.dst te)
  |false=>none
 |_=>AA V P pre o S λS=>match opX V pre o S with
  |true=>tdX V P nm pre o S λte=>match eI S te with
   |true=>k (S.app o.dst te)
   |false=>none
  |false=>tx V P nm call false o (BP V pre o S) λte=>match eI (BP V pre o S) te with
   |true=>k ((BP V pre o S).app o.dst te)
   |false=>none
noncomputable def txs(pre:Nat->Bool)(all:List Oper){A:Type}:List Oper->TS V.N->(TS V.N->Option A)->Option A
 |[],S,k=>k S
 |o::os,S,k=>wP S λS=>match Ai n pre o with
  |false=>none
  |true=>match o.guard with
   |none=>txo V P nm call pre o S λS'=>txs pre all os S' k
   |some (j,want)=>match sY S all j with
    |some (d, .lf .bool b)=>if b=true then
      match want with
      |true=>txo V P nm call pre o (setB S d true) λS'=>txs pre all os S' k
      |false=>txs pre all os ((setB S d true).app o.dst {val:= .tup []}) k
     else
      match want with
      |false=>txo V P nm call pre o (setB S d false) λS'=>txs pre all os S' k
      |true=>txs pre all os ((setB S d false).app o.dst {val:= .tup []}) k
    |some (_, .tup [])=>txs pre all os (S.app o.dst {val:= .tup []}) k
    |_=>none
def txq(pre:Nat->Bool)(o:Oper){A:Type}(S:TS V.N)(k:TE V.N->Option A):Option A:=match opX V pre o S with
 |true=>tdX V P nm pre o S k
 |false=>tx V P nm call true o S k
def txd(pre:Nat->Bool)(all:List Oper){A:Type}:List Oper->TS V.N->List Tr1->(TS V.N->List Tr1->Option A)->Option A
 |[],S,tr,k=>k S tr
 |o::os,S,tr,k=>wP S λS=>match Ai n pre o with
  |false=>none
  |true=>match det o.op with
   |false=>none
   |true=>match o.guard with
   |none=>txq V P nm call pre o S λte=>match eI S te with
    |true=>txd pre all os (S.app o.dst te) (tr++[⟨fF (S.app o.dst te).len te,true⟩]) k
    |false=>none
   |some (j,want)=>match sY S all j with
    |some (d, .lf .bool b)=>if b=true then
      match want with
      |true=>txq V P nm call pre o (setB S d true) λte=>match eI (setB S d true) te with
       |true=>txd pre all os ((setB S d true).app o.dst te) (tr++[⟨fF ((setB S d true).app o.dst te).len te,true⟩]) k
       |false=>none
      |false=>txd pre all os ((setB S d true).app o.dst {val:= .tup []}) (tr++[⟨{val:= .tup []},false⟩]) k
     else
      match want with
      |false=>txq V P nm call pre o (setB S d false) λte=>match eI (setB S d false) te with
       |true=>txd pre all os ((setB S d false).app o.dst te) (tr++[⟨fF ((setB S d false).app o.dst te).len te,true⟩]) k
       |false=>none
      |true=>txd pre all os ((setB S d false).app o.dst {val:= .tup []}) (tr++[⟨{val:= .tup []},false⟩]) k
    |some (_, .tup [])=>txd pre all os (S.app o.dst {val:= .tup []}) (tr++[⟨{val:= .tup []},false⟩]) k
    |_=>none
end
section
variable {V:i7}
theorem rQ{C:Ctx}{E:Env}{M:Mem}{S:TS V.N}{d:Nat}{b:Bool}{a:Act}{w:World}(hd:gt S.tmps d=some (.lf .bool b))(hs:Sim C E M (az V S) a w):Sim C E M (az V (setB S d b)) a w:=by
 have hl:(setB S d b).len=S.len:=rfl
 refine Sim.le hs (λt x hx=> ?_) λn o ho=>⟨o,ho,OLe.refl _⟩
 rw[bP]at hx⊢
 simp only[setB,af]at hx
 by_cases h:d=t
 ·subst h
  rw[Q6 rfl]at hx
  rw[hd]
  exact⟨x,hx,H.le.refl _⟩
 ·rw[Q5 h]at hx
  exact⟨x,hx,H.le.refl _⟩
theorem jH{S:TS V.N}{all:List Oper}{j d:Nat}{v:TV V.N}(h:sY S all j=some (d,v)):gt S.tmps d=some v/\∃o,all[j]?=some o/\o.dst=some d:=by
 unfold sY at h
 split at h
 ·rename_i o ho
  split at h
  ·rename_i d' hd
   split at h
   ·rename_i v' hv
    simp at h;obtain⟨rfl,rfl⟩:=h
    exact⟨hv,o,ho,hd⟩
   ·cases h
  ·cases h
 ·cases h
theorem ka{S:TS V.N}{σ:ab}(hσ:∀t,gt σ.tmps t=gt (az V S).tmps t){all:List Oper}{j d:Nat}{v:TV V.N}{want b:Bool}(h:sY S all j=some (d,v))
 (hv:v= .lf .bool b\/v= .tup []/\b= !want):i8 σ all j want=some b:=by
 obtain⟨h1,o,h2,h3⟩:=jH h
 have hg:σ.get d=an V S.len v:=by
  unfold ab.get
  rw[hσ,bP,h1];rfl
 unfold i8
 simp only[h2,h3,hg]
 rcases hv with rfl|⟨rfl,rfl⟩
 ·simp[an,aK]
 ·simp[an,encL]
theorem dw{S:TS V.N}{te:TE V.N}(h:eI S te=true):(∀d∈te.new,S.fresh d=true)/\∀d∈te.new,d<given:=by
 unfold eI at h
 rw[NM]at h
 refine⟨λd hd=> ?_,λd hd=> ?_⟩
 ·have:=h d hd
  simp only[NH]at this
  exact this.1
 ·have:=h d hd
  simp only[NH,Pk]at this
  exact this.2
def Fx(C:Ctx)(pre:Nat->Bool):Prop:=∀p∈C.fix,pre (4000000+p.1)=true
theorem qK{C:Ctx}{pre:Nat->Bool}{o:Oper}(hF:Fx C pre)(h:Ai C.N pre o=true):∀d,o.dst=some d->C.wr d:=by
 intro d hd
 unfold Ai at h
 rw[hd]at h
 simp only[NH,Pk,PN]at h
 refine⟨h.1,λp hp e=> ?_⟩
 have:=hF p hp
 rw[e,h.2]at this
 cases this
theorem xm(S:TS V.N):nC S {val:= .tup []}:=eQ S _ _
theorem Il{C:Ctx}{E:Env}{M:Mem}{S:TS V.N}{o:Oper}{a:Act}{w:World}(hd:∀d,o.dst=some d->C.wr d)(hs:Sim C E M (az V S) a w):Sim C E M (az V (S.app o.dst {val:= .tup []})) (a.put o.dst undef) w:=by
 have h1:=hs.app_val (o:=o) hd (e:={val:= .tup []}) rfl FH
 refine Sim.tapp (ex:=false) (e':={val:= .tup []}) (xm S) (λd h=>by cases h) (lT ?_) h1
 simp[an,encL]
theorem Me{C:Ctx}{nm:Nat->Nat}{call:bm V}{ex:Bool}{o:Oper}{S:TS V.N}{A:Type}{k:TS V.N->Option A}{r:A}{E:Env}{M:Mem}{a:Act}{w:World}{K:Act->World->Prop}{Q:Exit->Act->World->Prop}
 (hcall:ay C.P call)(hd:∀d,o.dst=some d->C.wr d)(h:(tx V C.P nm call ex o S λte=>match eI S te with|true=>k (S.app o.dst te)|false=>none)=some r)(hs:Sim C E M (az V S) a w)
 (hK:∀te E' M' a' w',k (S.app o.dst te)=some r->Sim C E' M' (az V (S.app o.dst te)) a' w'->K a' w'):o.wp C.P a w K Q:=by
 have hnew:∀te:TE V.N,(match eI S te with|true=>k (S.app o.dst te)|false=>none)=some r->eI S te=true/\k (S.app o.dst te)=some r:=by
  intro te h
  cases hq:eI S te with
  |true=>rw[hq]at h;exact⟨rfl,h⟩
  |false=>rw[hq]at h;cases h
 obtain⟨te,h1,h2,h3⟩:=xp hcall (λte hte=>(dw (hnew te hte).1).1) h
 obtain⟨hn,hk⟩:=hnew te h1
 obtain⟨f1,f2⟩:=dw hn
 refine tP hd E M (az V S) a w K Q (λe=>ELe ex e (fF (S.app o.dst te).len te)) hs (mV (λe he=>⟨λd hd=> ?_,he⟩) h3) λe E' M' a' w' he hs'=>hK te E' M' a' w' hk (Sim.tapp h2 f1 he hs')
 have hd:d∈te.new:=by rw[he.new]at hd;exact hd
 exact⟨d7 (f1 d hd),f2 d hd⟩
theorem Es{C:Ctx}{nm:Nat->Nat}{pre:Nat->Bool}{o:Oper}{S:TS V.N}{A:Type}{k:TS V.N->Option A}{r:A}{E:Env}{M:Mem}{a:Act}{w:World}{K:Act->World->Prop}{Q:Exit->Act->World->Prop}
 (hd:∀d,o.dst=some d->C.wr d)(h:(tdX V C.P nm pre o S λte=>match eI S te with|true=>k (S.app o.dst te)|false=>none)=some r)(hs:Sim C E M (az V S) a w)
 (hK:∀te E' M' a' w',k (S.app o.dst te)=some r->Sim C E' M' (az V (S.app o.dst te)) a' w'->K a' w'):o.wp C.P a w K Q:=by
 have hnew:∀te:TE V.N,(match eI S te with|true=>k (S.app o.dst te)|false=>none)=some r->eI S te=true/\k (S.app o.dst te)=some r:=by
  intro te h
  cases hq:eI S te with
  |true=>rw[hq]at h;exact⟨rfl,h⟩
  |false=>rw[hq]at h;cases h
 obtain⟨te,h1,h2,e',h3,h4⟩:=uk (λte hte=>(dw (hnew te hte).1).1) h
 obtain⟨hn,hk⟩:=hnew te h1
 obtain⟨f1,f2⟩:=dw hn
 refine h3.ok hd hs (λd hd=> ?_) λE' M' a' w' hs'=>hK te E' M' a' w' hk (Sim.tapp h2 f1 h4 hs')
 have hd:d∈te.new:=by rw[h4.new]at hd;exact hd
 exact⟨d7 (f1 d hd),f2 d hd⟩
theorem tC{α β:Type}(f:α->β):∀(l:List α) (i:Nat),(l.eraseIdx i).map f=(l.map f).eraseIdx i
 |[],_=>rfl
 |_::_,0=>rfl
 |x::r,i+1=>by simp[QB,tC f r i]
theorem Ex{C:Ctx}{nm:Nat->Nat}{o:Oper}{S:TS V.N}{A:Type}{k:TS V.N->Option A}{r:A}{E:Env}{M:Mem}{a:Act}{w:World}{K:Act->World->Prop}{Q:Exit->Act->World->Prop}{x:Operand}
 (ho:o.op= .next x false)(hd:∀d,o.dst=some d->C.wr d)(h:(Ib V x S λte=>match eI S te with|true=>k (S.app o.dst te)|false=>none)=some r)(hs:Sim C E M (az V S) a w)
 (hK:∀te E' M' a' w',k (S.app o.dst te)=some r->Sim C E' M' (az V (S.app o.dst te)) a' w'->K a' w'):o.wp C.P a w K Q:=by
 have hnew:∀te:TE V.N,(match eI S te with|true=>k (S.app o.dst te)|false=>none)=some r->eI S te=true/\k (S.app o.dst te)=some r:=by
  intro te h
  cases hq:eI S te with
  |true=>rw[hq]at h;exact⟨rfl,h⟩
  |false=>rw[hq]at h;cases h
 have go:∀(te:TE V.N) (e:Eff),(match eI S te with|true=>k (S.app o.dst te)|false=>none)=some r->nC S te->ELe false e (fF (S.app o.dst te).len te)->
  (∀d∈e.new,(az V S).fresh d=true/\d<given)/\∃te,nC S te/\(∀d∈te.new,S.fresh d=true)/\ELe false e (fF (S.app o.dst te).len te)/\k (S.app o.dst te)=some r:=by
  intro te e h hg he
  obtain⟨hn,hk⟩:=hnew te h
  obtain⟨f1,f2⟩:=dw hn
  exact⟨λd hd=>by
   have hd:d∈te.new:=by rw[he.new]at hd;exact hd
   exact⟨d7 (f1 d hd),f2 d hd⟩,te,hg,f1,he,hk⟩
 unfold Ib at h
 split at h
 ·rename_i n hx
  split at h
  ·rename_i m tk tv es rest cur hown
   obtain⟨⟨hkey,hlm⟩,h⟩:=ah h
   refine tP (nm:=nm) hd E M (az V S) a w K Q (λe=>∃te,nC S te/\(∀d∈te.new,S.fresh d=true)/\ELe false e (fF (S.app o.dst te).len te)/\k (S.app o.dst te)=some r) hs ?_
    λe E' M' a' w' ⟨te,h2,f1,he,hk⟩ hs'=>hK te E' M' a' w' hk (Sim.tapp h2 f1 he hs')
   simp only[aS,ho,ak,hx,an,tU hown]
   refine⟨trivial,λhr=> ?_,λi p hp=> ?_⟩
   ·have hr:rest=[]:=by simpa using hr
    subst hr
    simp only[List.isEmpty_nil,Q2]at h
    refine go {val:= .tup [.lf .bool false],acc:=[n,m],upd:=[(m, .map tk tv es),(n, .gone 0)]} {val:= .tup [.d (.v (.bool false))],acc:=[n,m],upd:=[(m,some (.map (es.map λp=>(dM V.enc tk p.1,aK V.sz V.enc tv p.2)))),(n,none)]} h (λm' o' hm=> ?_)
     (bq (by simp[an,encL,aK]) rfl (by simp[aX]) rfl)
    simp only[af]at hm
    right
    split at hm
    ·rename_i e;simp at hm;subst hm;subst e;simp[TO.len,hlm]
    ·split at hm
     ·rename_i e;simp at hm;subst hm;subst e;simp[TO.len,s9 hown]
     ·simp[gt]at hm
   ·rw[NB,NK]at hp
    obtain⟨q,hq,rfl⟩:=hp
    have hne:rest.isEmpty=false:=by cases rest with|nil=>simp at hq|cons a r=>rfl
    rw[Q5 (by simp[hne]),xC]at h
    have h:=h.2 _ (Cm hq)
    refine go {val:= .tup [.lf .bool true, .lf tk q.1, .lf tv q.2],acc:=[n],upd:=[(n, .miter m tk tv es (rest.eraseIdx i) (some q))]}
     {val:= .tup [.d (.v (.bool true)), .d (.v (dM V.enc tk q.1)), .d (aK V.sz V.enc tv q.2)],acc:=[n],upd:=[(n,some (.miter m (es.map λp=>(dM V.enc tk p.1,aK V.sz V.enc tv p.2)) ((rest.map λp=>(dM V.enc tk p.1,aK V.sz V.enc tv p.2)).eraseIdx i) (some (dM V.enc tk q.1,aK V.sz V.enc tv q.2))))]} h (λm' o' hm=> ?_)
     (bq (by simp only[an,encL,AP hkey];rfl) rfl (by simp[aX,tC]) rfl)
    simp only[af]at hm
    right
    split at hm
    ·rename_i e;simp at hm;subst hm;subst e;simp[TO.len,s9 hown]
    ·simp[gt]at hm
  ·cases h
 ·cases h
theorem Cg{S:TS V.N}{t:Nat}{v v':TV V.N}(ht:gt S.tmps t=some v)(h:H.le (an V S.len v) (an V S.len v')):Ent (az V S) (az V {S with tmps:=(t,v')::S.tmps}):=
 Ent.le (λd x hx=>by
  have hl:({S with tmps:=(t,v')::S.tmps}:TS V.N).len=S.len:=rfl
  rw[bP]at hx
  simp only[af,hl]at hx
  by_cases h1:t=d
  ·subst h1
   rw[Q6 rfl]at hx
   simp at hx;subst hx
   exact⟨_,by rw[bP,ht];rfl,h⟩
  ·rw[Q5 h1]at hx
   exact⟨x,by rw[bP];exact hx,H.le.refl _⟩) λn o ho=>⟨o,ho,OLe.refl _⟩
theorem BQ(pre:Nat->Bool)(o:Oper)(S:TS V.N):Ent (az V S) (az V (BP V pre o S)):=by
 unfold BP
 split
 ·exact dl _ S
 ·exact dl _ S
 ·exact dl _ S
 ·split
  ·exact dl _ S
  ·exact Ent.refl _
 ·split
  ·split
   ·exact dl _ S
   ·exact dl _ S
   ·exact Ent.refl _
  ·split
   ·split
    ·exact dl _ S
    ·rename_i ht _
     refine Cg ht ?_
     simp only[an,bw,aK,N_]
     exactλE M v h=>by rw[h.dv];exact .d (.slmt _ _ _)
    ·rename_i ht _
     refine Cg ht ?_
     simp only[an,bw,aK,N_]
     exactλE M v h=>by rw[h.dv];exact .d (.slnil _)
    ·exact Ent.refl _
   ·exact Ent.refl _
  ·exact Ent.refl _
 ·exact Ent.refl _
theorem JW{C:Ctx}{nm:Nat->Nat}{call:bm V}{pre:Nat->Bool}{o:Oper}{S:TS V.N}{A:Type}{k:TS V.N->Option A}{r:A}{E:Env}{M:Mem}{a:Act}{w:World}{K:Act->World->Prop}{Q:Exit->Act->World->Prop}
 (hcall:ay C.P call)(hd:∀d,o.dst=some d->C.wr d)(h:txo V C.P nm call pre o S k=some r)(hs:Sim C E M (az V S) a w)
 (hK:∀S' E' M' a' w',k S'=some r->Sim C E' M' (az V S') a' w'->K a' w'):o.wp C.P a w K Q:=by
 unfold txo at h
 split at h
 ·rename_i x hx
  exact Ex (nm:=nm) hx hd h hs λte E' M' a' w' hk hs'=>hK _ E' M' a' w' hk hs'
 ·obtain⟨S1,h,he⟩:=yh h
  obtain⟨E,M,hs⟩:=he C E M a w hs
  split at h
  ·exact Es hd h hs λte E' M' a' w' hk hs'=>hK _ E' M' a' w' hk hs'
  ·obtain⟨_,_,hs1⟩:=BQ pre o S1 C E M a w hs
   exact Me hcall hd h hs1 λte E' M' a' w' hk hs'=>hK _ E' M' a' w' hk hs'
theorem oX{C:Ctx}{nm:Nat->Nat}{call:bm V}{pre:Nat->Bool}{ops:Array Oper}{Q:Exit->Act->World->Prop}{A:Type}{r:A}(hcall:ay C.P call)(hF:Fx C pre):∀(l:List Oper) (i:Nat) (S:TS V.N) (k:TS V.N->Option A) (E:Env) (M:Mem) (a:Act) (w:World),
 ops.toList.drop i=l->txs V C.P C.N nm call pre ops.toList l S k=some r->Sim C E M (az V S) a w->(∀S' E' M' a' w',k S'=some r->Sim C E' M' (az V S') a' w'->Q .normal a' w')->
 wpOps C.P ops Q ((Pl l.length).map (i+ ·)) a w
 |[],i,S,k,E,M,a,w,_,h,hs,hQ=>by
  simp only[txs]at h
  simpa[wpOps]using hQ S E M a w h hs
 |o::os,i,S,k,E,M,a,w,hl,h,hs,hQ=>by
  have hi:ops[i]?=some o:=by
   have:(ops.toList.drop i)[0]?=some o:=by rw[hl];rfl
   simpa using this
  have hl':ops.toList.drop (i+1)=os:=by
   rw[<-List.tail_drop,hl];rfl
  have hlist:(Pl (o::os).length).map (i+ ·)=i::(Pl os.length).map (i+1+ ·):=by
   simp only[Oj,List.range_succ_eq_map,NF,N0,Oo]
   congr 1
   apply NZ
   intro x _
   simp;omega
  rw[hlist]
  simp only[txs,sR]at h
  split at h
  ·cases h
  rename_i hdst
  have run:∀(S:TS V.N),Sim C E M (az V S) a w->(txo V C.P nm call pre o S λS'=>txs V C.P C.N nm call pre ops.toList os S' k)=some r->
   o.wp C.P a w (wpOps C.P ops Q ((Pl os.length).map (i+1+ ·))) Q:=λS hs h=>
   JW (k:=λS'=>txs V C.P C.N nm call pre ops.toList os S' k) hcall (qK hF hdst) h hs λS' E' M' a' w' hk hs'=>oX hcall hF os (i+1) _ k E' M' a' w' hl' hk hs' hQ
  have off:∀(S:TS V.N),Sim C E M (az V S) a w->txs V C.P C.N nm call pre ops.toList os (S.app o.dst {val:= .tup []}) k=some r->
   wpOps C.P ops Q ((Pl os.length).map (i+1+ ·)) (a.put o.dst undef) w:=λS hs h=>
   oX hcall hF os (i+1) _ k E M _ w hl' h (Il (qK hF hdst) hs) hQ
  simp only[wpOps,hi]
  cases hg:o.guard with
  |none=>
   simp only[hg]at h
   rw[Q6 (by simp[Region.wanted,hg])]
   exact .inl (run S hs h)
  |some g=>
   obtain⟨j,want⟩:=g
   simp only[hg]at h
   split at h
   ·rename_i d b hgv
    have hb:=ka (V:=V) (S:=S) (σ:=az V S) (λt=>rfl) (want:=want) hgv (.inl rfl)
    have hy:=hs.guard hb
    have hgt:=(jH hgv).1
    cases b with
    |true=>
     rw[Q6 rfl]at h
     have hs':=rQ hgt hs
     cases want with
     |true=>
      rw[Q6 (by simp[Region.wanted,hg,hy])]
      exact .inl (run _ hs' h)
     |false=>
      rw[Q5 (by simp[Region.wanted,hg,hy])]
      exact off _ hs' h
    |false=>
     rw[Q5 (by simp)]at h
     have hs':=rQ hgt hs
     cases want with
     |false=>
      rw[Q6 (by simp[Region.wanted,hg,hy])]
      exact .inl (run _ hs' h)
     |true=>
      rw[Q5 (by simp[Region.wanted,hg,hy])]
      exact off _ hs' h
   ·rename_i d hgv
    have hb:=ka (V:=V) (S:=S) (σ:=az V S) (λt=>rfl) (want:=want) hgv (.inr ⟨rfl,rfl⟩)
    have hy:=hs.guard hb
    rw[Q5 (by cases want<;>simp[Region.wanted,hg,hy])]
    exact off _ hs h
   ·cases h
structure Rl (σ:ab) (S:TS V.N):Prop where
 tmp:∀t,gt σ.tmps t=gt (az V S).tmps t
 own:∀n,σ.own? n=(az V S).own? n
 fresh:∀d,S.fresh d=true->σ.fresh d=true
theorem Rl.refl(S:TS V.N):Rl (az V S) S:=⟨λ_=>rfl,λ_=>rfl,λ_ h=>d7 h⟩
theorem Rl.ent{σ:ab}{S:TS V.N}(h:Rl σ S):Ent σ (az V S):=Ent.le (λt x hx=>⟨x,by rw[h.tmp];exact hx,H.le.refl _⟩) λn o ho=>⟨o,by rw[h.own];exact ho,OLe.refl _⟩
theorem Rl.setB{σ:ab}{S:TS V.N}(h:Rl σ S){d:Nat}{b:Bool}(hd:gt S.tmps d=some (.lf .bool b)):Rl σ (setB S d b)where
 tmp:=λt=>by
  rw[h.tmp,bP,bP]
  simp only[Tx.setB,af]
  by_cases e:d=t
  ·subst e;rw[Q6 rfl,hd];simp[an]
  ·rw[Q5 e];rfl
 own:=λn=>h.own n
 fresh:=λn hn=>h.fresh n (by
  unfold TS.fresh at hn⊢
  simp only[NH]at hn⊢
  refine⟨⟨hn.1.1,?_⟩,hn.2⟩
  have:=hn.1.2
  simp only[Tx.setB,OQ,NH]at this
  exact this.2)
theorem Rl.app{σ:ab}{S:TS V.N}(h:Rl σ S){dst:Option Tmp}{te:TE V.N}(hg:nC S te)(hn:∀d∈te.new,S.fresh d=true):Rl (σ.app dst (fF (S.app dst te).len te)) (S.app dst te)where
 tmp:=λt=>by
  rw[(qL (dst:=dst) hg hn).1]
  simp only[ab.app,mm]
  cases dst with
  |none=>exact h.tmp t
  |some d=>simp only[af];rw[h.tmp]
 own:=λn=>by
  rw[(qL (dst:=dst) hg hn).2]
  have:=h.own n
  unfold ab.own? at this⊢
  simp only[ab.app,ez]
  cases gt (fF (S.app dst te).len te).upd n with
  |some o=>rfl
  |none=>exact this
 fresh:=λn hn'=>by
  unfold TS.fresh at hn'
  simp only[NH]at hn'
  obtain⟨⟨f1,f2⟩,f3⟩:=hn'
  have hu:gt te.upd n=none:=by
   rw[mE]at f1
   cases hq:gt te.upd n with
   |none=>rfl
   |some o=>rw[hq]at f1;cases f1
  have hs:S.fresh n=true:=by
   unfold TS.fresh
   simp only[NH]
   refine⟨⟨?_,?_⟩,?_⟩
   ·rw[mE,hu]at f1;exact f1
   ·rw[NM]at f2⊢
    intro p hp
    refine f2 p ?_
    unfold TS.app Km
    cases dst with
    |none=>exact hp
    |some d=>exact NC _ hp
   ·rw[NM]at f3⊢
    exactλp hp=>f3 p (Ps _ hp)
  have hσ:=h.fresh n hs
  unfold ab.fresh at hσ⊢
  simp only[NH]at hσ⊢
  obtain⟨⟨g1,g2⟩,g3⟩:=hσ
  refine⟨⟨?_,?_⟩,?_⟩
  ·have hq:gt (fF (S.app dst te).len te).upd n=none:=by simp only[fF,fK,hu];rfl
   unfold ab.own? at g1⊢
   simp only[ab.app,ez,hq]
   exact g1
  ·simp only[ab.app,mm]
   cases dst with
   |none=>exact g2
   |some d=>
    rw[OQ,NH]
    refine⟨?_,g2⟩
    rw[NM]at f2
    have:=f2 (d,te.val) (by simp[TS.app,Km])
    simpa[fF,iF]using this
  ·simp only[ab.app,List.all_append,NH]
   refine⟨?_,g3⟩
   rw[NM]at f3⊢
   intro p hp
   simp only[fF,N3]at hp
   obtain⟨q,hq,rfl⟩:=hp
   have:=f3 q (Pa _ hq)
   simp only
   cases ho:aX V (S.app dst te).len q.2 with
   |none=>rfl
   |some o=>simp only[j8 _ n ho];exact this
theorem Rl.tup{σ:ab}{S:TS V.N}(h:Rl σ S){dst:Option Tmp}:Rl (σ.app dst {val:= .tup []}) (S.app dst {val:= .tup []}):=by
 have:=h.app (dst:=dst) (te:={val:= .tup []}) (xm S) λd h=>by cases h
 simpa[fF,an,encL]using this
theorem CF{P:Program}{nm:Nat->Nat}{call:bm V}{pre:Nat->Bool}{o:Oper}{S:TS V.N}{A:Type}{k:TE V.N->Option A}{r:A}(hcall:ay P call)(hf:∀te,k te=some r->∀d∈te.new,S.fresh d=true)(h:txq V P nm call pre o S k=some r):
 ∃te,k te=some r/\nC S te/\ux P nm o (ev (az V S)) (az V S).own? λe=>ELe true e (fF (S.app o.dst te).len te):=by
 unfold txq at h
 split at h
 ·obtain⟨te,h1,h2,e',h3,h4⟩:=uk hf h
  exact⟨te,h1,h2, .inr ⟨e',h3,h4⟩⟩
 ·obtain⟨te,h1,h2,h3⟩:=xp hcall hf h
  exact⟨te,h1,h2, .inl h3⟩
theorem oW{P:Program}{n:Nat}{W:Nat->Prop}{nm:Nat->Nat}{call:bm V}{pre:Nat->Bool}{all:List Oper}{A:Type}{r:A}(hcall:ay P call)(hW:∀o,Ai n pre o=true->∀d,o.dst=some d->W d):∀(l:List Oper) (S:TS V.N) (σ:ab) (tr:List Tr1) (k:TS V.N->List Tr1->Option A),
 txd V P n nm call pre all l S tr k=some r->Rl σ S->iX P W nm all l σ tr λσ' tr'=>∃S',Rl σ' S'/\k S' tr'=some r
 |[],S,σ,tr,k,h,hr=>by
  simp only[txd]at h
  exact⟨S,hr,h⟩
 |o::os,S,σ,tr,k,h,hr=>by
  simp only[txd,sR]at h
  split at h
  ·cases h
  rename_i hdst
  split at h
  ·cases h
  rename_i hdet
  have run:∀(S:TS V.N),Rl σ S->(txq V P nm call pre o S λte=>match eI S te with|true=>txd V P n nm call pre all os (S.app o.dst te) (tr++[⟨fF (S.app o.dst te).len te,true⟩]) k|false=>none)=some r->
   ux P nm o (ev σ) σ.own? λe=>(∀d∈e.new,σ.fresh d=true/\d<given)/\iX P W nm all os (σ.app o.dst e) (tr++[⟨e,true⟩]) λσ' tr'=>∃S',Rl σ' S'/\k S' tr'=some r:=by
   intro S hr h
   have hnew:∀te:TE V.N,(match eI S te with|true=>txd V P n nm call pre all os (S.app o.dst te) (tr++[⟨fF (S.app o.dst te).len te,true⟩]) k|false=>none)=some r->
    eI S te=true/\txd V P n nm call pre all os (S.app o.dst te) (tr++[⟨fF (S.app o.dst te).len te,true⟩]) k=some r:=by
    intro te h
    cases hq:eI S te with
    |true=>rw[hq]at h;exact⟨rfl,h⟩
    |false=>rw[hq]at h;cases h
   obtain⟨te,h1,h2,h3⟩:=CF hcall (λte hte=>(dw (hnew te hte).1).1) h
   obtain⟨hn,hk⟩:=hnew te h1
   obtain⟨f1,f2⟩:=dw hn
   have e1:ev σ=ev (az V S):=by
    funext x
    cases x with
    |tmp t=>simp only[ev,ab.get,hr.tmp]
    |_=>rfl
   have e2:σ.own?=(az V S).own?:=funext hr.own
   rw[e1,e2]
   refine jY (λe he=> ?_) h3
   have he':e=fF (S.app o.dst te).len te:=by
    obtain⟨q1,q2,q3⟩:=he.eq rfl
    have q4:=he.new
    cases e
    simp only at q1 q2 q3 q4
    subst q1;subst q2;subst q3;subst q4;rfl
   subst he'
   exact⟨λd hd=>⟨hr.fresh d (f1 d hd),f2 d hd⟩,oW hcall hW os _ _ _ k hk (hr.app h2 f1)⟩
  have off:∀(S:TS V.N),Rl σ S->txd V P n nm call pre all os (S.app o.dst {val:= .tup []}) (tr++[⟨{val:= .tup []},false⟩]) k=some r->
   iX P W nm all os (σ.app o.dst {val:= .tup []}) (tr++[⟨{val:= .tup []},false⟩]) λσ' tr'=>∃S',Rl σ' S'/\k S' tr'=some r:=λS hr h=>
   oW hcall hW os _ _ _ k h hr.tup
  simp only[iX]
  refine⟨⟨hW o hdst,hdet⟩,?_⟩
  cases hg:o.guard with
  |none=>
   simp only[hg]at h
   exact run S hr h
  |some g=>
   obtain⟨j,want⟩:=g
   simp only[hg]at h
   split at h
   ·rename_i d b hgv
    have hb:=ka (V:=V) (S:=S) (σ:=σ) hr.tmp (want:=want) hgv (.inl rfl)
    have hgt:=(jH hgv).1
    simp only[hb]
    cases b with
    |true=>
     rw[Q6 rfl]at h
     have hr':=hr.setB hgt
     cases want with
     |true=>exact⟨λ_=>run _ hr' h,λe=>by simp at e⟩
     |false=>exact⟨λe=>by simp at e,λ_=>off _ hr' h⟩
    |false=>
     rw[Q5 (by simp)]at h
     have hr':=hr.setB hgt
     cases want with
     |false=>exact⟨λ_=>run _ hr' h,λe=>by simp at e⟩
     |true=>exact⟨λe=>by simp at e,λ_=>off _ hr' h⟩
   ·rename_i d hgv
    have hb:=ka (V:=V) (S:=S) (σ:=σ) hr.tmp (want:=want) hgv (.inr ⟨rfl,rfl⟩)
    simp only[hb]
    exact⟨λe=>by cases want<;>simp at e,λ_=>off _ hr h⟩
   ·cases h
end
end Go.Tx
end
section
namespace Go.Tx
open Go.Awp
variable [Inhabited GMem]
inductive Alt where
 |norm
 |ret
 |exit (id:Nat)
 deriving DecidableEq
section
variable (V:i7)
structure ba where
 exits:Nat->Cut V.ι:=λ_=>⟨[],[]⟩
 rcut:Cut V.ι
variable {V}
def cH(sh:ba V)(jt:List (Ty V.ι)):Alt->List (Ty V.ι)
 | .norm=>jt
 | .ret=>sh.rcut.tys
 | .exit id=>(sh.exits id).tys
def uC(E:Alt->List (Ty V.ι)):List Alt->Type
 |[]=>Empty
 |[a]=>HL V.N (E a)
 |a::b::r=>HL V.N (E a)⊕uC E (b::r)
def inj(E:Alt->List (Ty V.ι)):(alts:List Alt)->(a:Alt)->HL V.N (E a)->Option (uC E alts)
 |[],_,_=>none
 |[b],a,v=>if h:a=b then some (h▸v)else none
 |b::c::r,a,v=>if h:a=b then some (.inl (h▸v))else match inj E (c::r) a v with
  |some o=>some (.inr o)
  |none=>none
def pR(E:Alt->List (Ty V.ι)){A:Type}:(alts:List Alt)->uC E alts->((a:Alt)->HL V.N (E a)->Option A)->Option A
 |[],_,_=>none
 |[a],v,f=>f a v
 |a::b::r,o,f=>match o with
  | .inl v=>f a v
  | .inr o'=>pR E (b::r) o' f
theorem c_{E:Alt->List (Ty V.ι)}{A:Type}{f:(a:Alt)->HL V.N (E a)->Option A}:∀{alts:List Alt} {a:Alt} {v:HL V.N (E a)} {o:uC E alts},inj E alts a v=some o->pR E alts o f=f a v
 |[],a,v,o,h=>by simp[inj]at h
 |[b],a,v,o,h=>by
  simp only[inj]at h
  split at h
  ·rename_i e;subst e;cases h;rfl
  ·cases h
 |b::c::r,a,v,o,h=>by
  simp only[inj]at h
  split at h
  ·rename_i e;subst e;cases h;rfl
  ·split at h
   ·rename_i o' ho
    cases h
    show pR E (c::r) o' f=f a v
    exact c_ (f:=f) ho
   ·cases h
variable (V)
structure xy (sh:ba V)where
 cut:Cut V.ι
 alts:List Alt
 F:HL V.N cut.tys->Option (uC (cH sh []) alts)
structure Xc where
 P:Program
 n:Nat
 nm:Nat->Nat:=id
 call:bm V
 pre:Nat->Bool:=λ_=>false
 sh:ba V
 joins:Nat->Option (Cut V.ι×List Alt):=λ_=>none
 regs:Nat->Option (Cut V.ι):=λ_=>none
 loops:Nat->Option (xy V sh):=λ_=>none
 pair:Nat->PT:=λ_=> .leaf
 jumps:Nat->Option (Nat×xy V sh):=λ_=>none
def cD:Code->Nat
 | .region id _ _=>id
 | .seq a b=>if cD a=1000000 then cD b else cD a
 | .block _ x=>cD x
 | .cond _ a b=>if cD a=1000000 then cD b else cD a
 | .loop b=>cD b
 | .scope b=>cD b
 |_=>1000000
variable {V}
noncomputable def both{A:Type}(x y:Option A):Option A:=by classical exact if x=y then x else none
theorem sj{A:Type}{x y:Option A}{r:A}(h:both x y=some r):x=some r/\y=some r:=by
 unfold both at h
 split at h
 ·rename_i e;exact⟨h,e▸h⟩
 ·cases h
theorem FX{A:Type}{x y:Option A}{r:A}(h:x=some r)(h2:y=some r):both x y=some r:=by
 unfold both;rw[Q6 (h.trans h2.symm),h]
def LG(X:Xc V){A:Type}(ops:Array Oper)(S:TS V.N)(k:TS V.N->Option A):Option A:=
 txd V X.P X.n X.nm X.call X.pre ops.toList ops.toList S [] λS' tr=>match wH ops.toList tr with
  |true=>k S'
  |false=>none
def w_(i j n:Nat):Bool:= !Ov i j&&O4 i n&&O4 j n
noncomputable def Jw(X:Xc V){A:Type}(S:TS V.N)(k:TS V.N->Option A):PT->Array Oper->Option A
 | .leaf,ops=>LG X ops S k
 | .node i j a b,ops=>match w_ i j ops.size with
  |true=>both (Jw X S k a (eE i i i j ops)) (Jw X S k b (eE i j j i ops))
  |false=>none
noncomputable def Jy(X:Xc V){A:Type}(id:Nat)(ops:Array Oper)(draw:Bool)(S:TS V.N)(k:TS V.N->Option A):Option A:=match draw with
 |false=>txs V X.P X.n X.nm X.call X.pre ops.toList ops.toList S k
 |true=>Jw X S k (X.pair id) ops
def l7{A:Type}(ke:Nat->TS V.N->Option A):Nat->TS V.N->Option A:=λid S=>match O4 id 1000000 with
 |true=>ke id S
 |false=>none
noncomputable def ex(X:Xc V):Code->(A:Type)->TS V.N->(TS V.N->Option A)->(Nat->TS V.N->Option A)->(HL V.N X.sh.rcut.tys->Option A)->Option A
 | .skip,_,S,kn,_,_=>kn S
 | .ret,_,S,_,_,kr=>match wK V X.sh.rcut S with
  |some v=>kr v
  |none=>none
 | .exit id,_,S,_,ke,_=>l7 ke id S
 | .goto l,_,S,_,ke,_=>ke (1000000+l) S
 | .label _,_,S,kn,_,_=>kn S
 | .seq x y,A,S,kn,ke,kr=>match X.joins (cD y)with
  |none=>ex X x A S (λS'=>ex X y A S' kn ke kr) ke kr
  |some (cut,alts)=>
   ex X x (uC (cH X.sh cut.tys) alts) S
    (λS'=>match wK V cut S' with
      |some v=>inj (cH X.sh cut.tys) alts .norm v
      |none=>none)
    (λid S'=>match wK V (X.sh.exits id) S' with
      |some v=>inj (cH X.sh cut.tys) alts (.exit id) v
      |none=>none)
    (λv=>inj (cH X.sh cut.tys) alts .ret v)>>=λout=>
   pR (cH X.sh cut.tys) alts out λa=>match a with
    | .norm=>λv=>ex X y A (bh V cut v) kn ke kr
    | .ret=>λv=>kr v
    | .exit id=>λv=>ke id (bh V (X.sh.exits id) v)
 | .block id x,A,S,kn,ke,kr=>match O4 id 1000000 with
  |true=>ex X x A S kn (λid' S'=>if id'=id then kn S' else ke id' S') kr
  |false=>none
 | .cond c x y,A,S,kn,ke,kr=>match c with
  | .tmp t=>match gt S.tmps t with
   |some (.lf .bool b)=>if b=true then ex X x A (setB S t true) kn ke kr else ex X y A (setB S t false) kn ke kr
   |_=>none
  | .const (.bool b)=>match b with
   |true=>ex X x A S kn ke kr
   |false=>ex X y A S kn ke kr
  |_=>none
 | .region id ops draw,_,S,kn,_,_=>match X.regs id with
  |none=>Jy X id ops draw S kn
  |some cut=>(Jy X id ops draw S λS'=>wK V cut S')>>=λv=>kn (bh V cut v)
 | .scope c,A,S,kn,ke,kr=>match X.jumps (cD c)with
  |none=>ex X c A S kn (l7 ke) kr
  |some (l,la)=>ex X c A S kn (λid S'=>match Ov id (1000000+l)with
   |true=>match wK V la.cut S' with
    |none=>none
    |some v=>la.F v>>=λout=>pR (cH X.sh []) la.alts out λa=>match a with
     | .norm=>λ_=>none
     | .ret=>λv=>kr v
     | .exit id=>λv=>ke id (bh V (X.sh.exits id) v)
   |false=>l7 ke id S') kr
 | .loop b,_,S,_,ke,kr=>match X.loops (cD b)with
  |none=>none
  |some la=>match wK V la.cut S with
   |none=>none
   |some v=>la.F v>>=λout=>pR (cH X.sh []) la.alts out λa=>match a with
    | .norm=>λ_=>none
    | .ret=>λv=>kr v
    | .exit id=>λv=>ke id (bh V (X.sh.exits id) v)
 |_,_,_,_,_,_=>none
noncomputable def exL(X:Xc V)(b:Code)(cut:Cut V.ι)(alts:List Alt)(F:HL V.N cut.tys->Option (uC (cH X.sh []) alts))(v:HL V.N cut.tys):Option (uC (cH X.sh []) alts):=
 ex X b _ (bh V cut v)
  (λS'=>match wK V cut S' with
    |some v=>F v
    |none=>none)
  (l7 λid S'=>match wK V (X.sh.exits id) S' with
    |some v=>inj (cH X.sh []) alts (.exit id) v
    |none=>none)
  (λv=>inj (cH X.sh []) alts .ret v)
noncomputable def exJ(X:Xc V)(b:Code)(l:Nat)(cut:Cut V.ι)(alts:List Alt)(F:HL V.N cut.tys->Option (uC (cH X.sh []) alts))(v:HL V.N cut.tys):Option (uC (cH X.sh []) alts):=
 ex X b _ (bh V cut v)
  (λ_=>none)
  (λid S'=>match Ov id (1000000+l)with
    |true=>match wK V cut S' with
     |some v=>F v
     |none=>none
    |false=>l7 (λid S'=>match wK V (X.sh.exits id) S' with
     |some v=>inj (cH X.sh []) alts (.exit id) v
     |none=>none) id S')
  (λv=>inj (cH X.sh []) alts .ret v)
def d6(C:Ctx)(c:Code)(S:ab)(Q:Exit->ab->Prop):Prop:=
 ∀(E:Env) (M:Mem) (a:Act) (w:World),Sim C E M S a w->∀(b:Frame) (k:List Item) (cs:List Frame),
  ∃e a' w',(∃S' E' M',Q e S'/\Sim C E' M' S' a' w')/\Arrives C.P (lone (b.at a (.code c:: .inLoop c::k)) cs w) b k cs e a' w'
theorem d6.loop{C:Ctx}{c:Code}{S:ab}{Q:Exit->ab->Prop}(h:d6 C c S Q):AWp C (.loop c) S Q:=λE M a w hs b k cs=>
 let⟨e,a',w',hq,harr⟩:=h E M a w hs b k cs
 ⟨e,a',w',hq, .of_steps (.one step_loop) harr⟩
theorem d6.ent{C:Ctx}{c:Code}{S S':ab}{Q:Exit->ab->Prop}(he:Ent S S')(h:d6 C c S' Q):d6 C c S Q:=λE M a w hs=>
 let⟨E',M',hs'⟩:=he C E M a w hs
 h E' M' a w hs'
theorem d6.round{C:Ctx}{c:Code}{S:ab}{Q:Exit->ab->Prop}(h:AWp C c S (I0 (λS'=>d6 C c S' Q) Q)):d6 C c S Q:=by
 intro E M a w hs b k cs
 obtain⟨e,a₁,w₁,⟨S₁,E₁,M₁,hq,hs₁⟩,harr⟩:=h E M a w hs b (.inLoop c::k) cs
 cases e with
 |normal=>
  obtain⟨e₂,a₂,w₂,hq₂,harr₂⟩:=hq E₁ M₁ a₁ w₁ hs₁ b k cs
  exact⟨e₂,a₂,w₂,hq₂, .of_steps (Steps.trans harr (.one step_inLoop)) harr₂⟩
 |exit id=>exact⟨_,a₁,w₁,⟨S₁,E₁,M₁,hq,hs₁⟩, .pass (x:= .inLoop c) rfl (λ_ _=> .inl (by simp)) harr⟩
 |goto l=>exact⟨_,a₁,w₁,⟨S₁,E₁,M₁,hq,hs₁⟩, .pass (x:= .inLoop c) rfl (λ_ _=> .inl (by simp)) harr⟩
 |ret=>exact⟨_,a₁,w₁,⟨S₁,E₁,M₁,hq,hs₁⟩, .pass (x:= .inLoop c) rfl (λ_ _=> .inl (by simp)) harr⟩
 |panic ch=>exact⟨_,a₁,w₁,⟨S₁,E₁,M₁,hq,hs₁⟩, .pass (x:= .inLoop c) rfl (λ_ _=> .inl (by simp)) harr⟩
 |outgrown=>exact⟨_,a₁,w₁,⟨S₁,E₁,M₁,hq,hs₁⟩, .pass (x:= .inLoop c) rfl (λ_ _=> .inl (by simp)) harr⟩
def uw(C:Ctx)(x rest:Code)(S:ab)(Q:Exit->ab->Prop):Prop:=
 ∀(E:Env) (M:Mem) (a:Act) (w:World),Sim C E M S a w->∀(b:Frame) (k:List Item) (cs:List Frame),
  ∃e a' w',(∃S' E' M',Q e S'/\Sim C E' M' S' a' w')/\Arrives C.P (lone (b.at a (.code rest:: .inScope x::k)) cs w) b k cs e a' w'
def IZ(l:Nat)(J:ab->Prop)(Q:Exit->ab->Prop):Exit->ab->Prop
 | .goto l',S=>l'=l/\J S
 |e,S=>Q e S
theorem uw.ent{C:Ctx}{x rest:Code}{S S':ab}{Q:Exit->ab->Prop}(he:Ent S S')(h:uw C x rest S' Q):uw C x rest S Q:=λE M a w hs=>
 let⟨E',M',hs'⟩:=he C E M a w hs
 h E' M' a w hs'
theorem uw.mono{C:Ctx}{x rest:Code}{S:ab}{Q Q':Exit->ab->Prop}(h:uw C x rest S Q)(hq:∀e S,Q e S->Q' e S):uw C x rest S Q':=λE M a w hs b k cs=>
 let⟨e,a',w',⟨S',E',M',hq',hs'⟩,harr⟩:=h E M a w hs b k cs
 ⟨e,a',w',⟨S',E',M',hq e S' hq',hs'⟩,harr⟩
theorem uw.pass{C:Ctx}{x rest:Code}{l:Nat}{S:ab}{Q:Exit->ab->Prop}(hf:findLabel x l=some rest)(h:AWp C rest S (IZ l (λS'=>uw C x rest S' Q) Q)):uw C x rest S Q:=by
 intro E M a w hs b k cs
 have hg:gotoIn l (.inScope x::k)=some (.code rest:: .inScope x::k):=by simp[gotoIn,hf]
 obtain⟨e,a₁,w₁,⟨S₁,E₁,M₁,hq,hs₁⟩,harr⟩:=h E M a w hs b (.inScope x::k) cs
 cases e with
 |normal=>exact⟨.normal,a₁,w₁,⟨S₁,E₁,M₁,hq,hs₁⟩,Steps.trans harr (.one step_inScope)⟩
 |exit id=>exact⟨.exit id,a₁,w₁,⟨S₁,E₁,M₁,hq,hs₁⟩,λk' hk=>harr k' (by simp[exitTo,hk])⟩
 |goto l'=>
  obtain⟨rfl,hJ⟩:=hq
  obtain⟨e₂,a₂,w₂,hq₂,harr₂⟩:=hJ E₁ M₁ a₁ w₁ hs₁ b k cs
  exact⟨e₂,a₂,w₂,hq₂, .of_steps (harr _ hg) harr₂⟩
 |ret=>exact⟨_,a₁,w₁,⟨S₁,E₁,M₁,hq,hs₁⟩,harr⟩
 |panic ch=>exact⟨_,a₁,w₁,⟨S₁,E₁,M₁,hq,hs₁⟩,harr⟩
 |outgrown=>exact⟨_,a₁,w₁,⟨S₁,E₁,M₁,hq,hs₁⟩,harr⟩
theorem mZ{C:Ctx}{x rest:Code}{l:Nat}{S:ab}{Q:Exit->ab->Prop}(hf:findLabel x l=some rest)(h:AWp C x S (IZ l (λS'=>uw C x rest S' Q) Q)):AWp C (.scope x) S Q:=by
 intro E M a w hs b k cs
 have hg:gotoIn l (.inScope x::k)=some (.code rest:: .inScope x::k):=by simp[gotoIn,hf]
 obtain⟨e,a₁,w₁,⟨S₁,E₁,M₁,hq,hs₁⟩,harr⟩:=h E M a w hs b (.inScope x::k) cs
 cases e with
 |normal=>exact⟨.normal,a₁,w₁,⟨S₁,E₁,M₁,hq,hs₁⟩, .head step_scope (Steps.trans harr (.one step_inScope))⟩
 |exit id=>exact⟨.exit id,a₁,w₁,⟨S₁,E₁,M₁,hq,hs₁⟩,λk' hk=> .head step_scope (harr k' (by simp[exitTo,hk]))⟩
 |goto l'=>
  obtain⟨rfl,hJ⟩:=hq
  obtain⟨e₂,a₂,w₂,hq₂,harr₂⟩:=hJ E₁ M₁ a₁ w₁ hs₁ b k cs
  exact⟨e₂,a₂,w₂,hq₂, .of_steps (.head step_scope (harr _ hg)) harr₂⟩
 |ret=>exact⟨_,a₁,w₁,⟨S₁,E₁,M₁,hq,hs₁⟩, .of_steps (.one step_scope) harr⟩
 |panic ch=>exact⟨_,a₁,w₁,⟨S₁,E₁,M₁,hq,hs₁⟩, .of_steps (.one step_scope) harr⟩
 |outgrown=>exact⟨_,a₁,w₁,⟨S₁,E₁,M₁,hq,hs₁⟩, .of_steps (.one step_scope) harr⟩
theorem mF(l:Nat):O4 (1000000+l) 1000000=false:=by
 cases h:O4 (1000000+l) 1000000 with
 |false=>rfl
 |true=>rw[Pk]at h;omega
theorem ea{A:Type}{ke:Nat->TS V.N->Option A}{id:Nat}{S:TS V.N}{r:A}(h:l7 ke id S=some r):O4 id 1000000=true/\ke id S=some r:=by
 unfold l7 at h
 split at h
 ·exact⟨‹_›,h⟩
 ·cases h
theorem gA{A:Type}{ke:Nat->TS V.N->Option A}{l:Nat}{S:TS V.N}{r:A}(h:l7 ke (1000000+l) S=some r):False:=by
 have:=(ea h).1
 rw[mF]at this;cases this
structure MD (sh:ba V) {A:Type} (kn:TS V.N->Option A) (ke:Nat->TS V.N->Option A) (kr:HL V.N sh.rcut.tys->Option A) (r:A) (Q:Exit->ab->Prop):Prop where
 norm:∀S σ,kn S=some r->Ent σ (az V S)->Q .normal σ
 exit:∀id S σ,O4 id 1000000=true->ke id S=some r->Ent σ (az V S)->Q (.exit id) σ
 jump:∀l S σ,ke (1000000+l) S=some r->Ent σ (az V S)->Q (.goto l) σ
 ret:∀v σ,kr v=some r->Ent σ (az V (bh V sh.rcut v))->Q .ret σ
def eF(sh:ba V)(alts:List Alt)(out:uC (cH sh []) alts)(e:Exit)(σ:ab):Prop:=match e with
 | .exit id=>O4 id 1000000=true/\∃v:HL V.N (sh.exits id).tys,inj (cH sh []) alts (.exit id) v=some out/\Ent σ (az V (bh V (sh.exits id) v))
 | .ret=>∃v:HL V.N sh.rcut.tys,inj (cH sh []) alts .ret v=some out/\Ent σ (az V (bh V sh.rcut v))
 |_=>False
def bC(C:Ctx)(b:Code){sh:ba V}(la:xy V sh):Prop:=∀v out,la.F v=some out->d6 C b (az V (bh V la.cut v)) (eF sh la.alts out)
def r_(C:Ctx)(x:Code)(l:Nat){sh:ba V}(la:xy V sh):Prop:=
 ∃rest,findLabel x l=some rest/\∀v out,la.F v=some out->uw C x rest (az V (bh V la.cut v)) (eF sh la.alts out)
def LOk(C:Ctx)(X:Xc V):Code->Prop
 | .seq x y=>LOk C X x/\LOk C X y
 | .block _ x=>LOk C X x
 | .scope x=>LOk C X x/\∀l la,X.jumps (cD x)=some (l,la)->r_ C x l la
 | .cond _ x y=>LOk C X x/\LOk C X y
 | .loop b=>∀la,X.loops (cD b)=some la->bC C b la
 |_=>True
theorem iA{P:Program}{N:Nat->Prop}{nm:Nat->Nat}{all:List Oper}:∀{os:List Oper} {S:ab} {tr:List Tr1} {k k':ab->List Tr1->Prop},(∀S tr,k S tr->k' S tr)->iX P N nm all os S tr k->iX P N nm all os S tr k'
 |[],S,tr,k,k',hk,h=>hk _ _ h
 |o::os,S,tr,k,k',hk,h=>by
  simp only[iX]at h⊢
  obtain⟨hd,h⟩:=h
  refine⟨hd,?_⟩
  cases hg:o.guard with
  |none=>
   simp only[hg]at h⊢
   exact jY (λe ⟨h1,h2⟩=>⟨h1,iA hk h2⟩) h
  |some g=>
   obtain⟨j,want⟩:=g
   simp only[hg]at h⊢
   split at h
   ·exact⟨λe=>jY (λe ⟨h1,h2⟩=>⟨h1,iA hk h2⟩) (h.1 e),λe=>iA hk (h.2 e)⟩
   ·exact h.elim
def MU(Q:Exit->ab->Prop):Exit->ab->Prop
 | .goto _,_=>False
 |e,S=>Q e S
theorem zI{C:Ctx}{c:Code}{S:ab}{Q:Exit->ab->Prop}(h:AWp C c S (MU Q)):AWp C (.scope c) S Q:=λE M a w hs=>
 wp_scope_straight (wp_mono (h E M a w hs) λe a' w'=>by
  rintro⟨S',E',M',hq,hs'⟩
  cases e with
  |goto l=>exact hq.elim
  |_=>exact⟨S',E',M',hq,hs'⟩)
theorem mH{C:Ctx}{X:Xc V}(hP:C.P=X.P)(hn:C.N=X.n/\Fx C X.pre)(hm:X.P.follows .mixedOrders=true)(hcall:ay X.P X.call):∀(c:Code) (A:Type) (S:TS V.N) (kn:TS V.N->Option A) (ke:Nat->TS V.N->Option A)
 (kr:HL V.N X.sh.rcut.tys->Option A) (r:A) (Q:Exit->ab->Prop),LOk C X c->ex X c A S kn ke kr=some r->MD X.sh kn ke kr r Q->AWp C c (az V S) Q:=by
 intro c
 induction c with
 |skip=>intro A S kn ke kr r Q _ h hp;exact .skip (hp.norm S _ h (Ent.refl _))
 |label l=>intro A S kn ke kr r Q _ h hp;exact .label (hp.norm S _ h (Ent.refl _))
 |exit id=>
  intro A S kn ke kr r Q _ h hp
  simp only[ex]at h
  obtain⟨h1,h2⟩:=ea h
  exact .exit (hp.exit id S _ h1 h2 (Ent.refl _))
 |goto l=>intro A S kn ke kr r Q _ h hp;exact .goto (hp.jump l S _ h (Ent.refl _))
 |ret=>
  intro A S kn ke kr r Q _ h hp
  simp only[ex]at h
  split at h
  ·rename_i v hv;exact .ret (hp.ret v _ h (c8 hv))
  ·cases h
 |seq x y ihx ihy=>
  intro A S kn ke kr r Q hl h hp
  obtain⟨hlx,hly⟩:=hl
  simp only[ex]at h
  split at h
  ·refine .seq (ihx A S _ ke kr r _ hlx h ⟨λS' σ hk he=> ?_,hp.exit,hp.jump,λv σ hk he=>hp.ret v σ hk he⟩)
   exact .ent he (ihy A S' kn ke kr r Q hly hk hp)
  ·rename_i cut alts hj
   obtain⟨out,h1,h2⟩:=aR h
   refine .seq (ihx _ S _ _ _ out _ hlx h1 ⟨λS' σ hk he=> ?_,λid S' σ hb hk he=> ?_,λl S' σ hk he=> ?_,λv σ hk he=> ?_⟩)
   ·split at hk
    ·rename_i v hv
     rw[c_ hk]at h2
     exact .ent (Ent.trans he (c8 hv)) (ihy A _ kn ke kr r Q hly h2 hp)
    ·cases hk
   ·split at hk
    ·rename_i v hv
     rw[c_ hk]at h2
     exact hp.exit id _ σ hb h2 (Ent.trans he (c8 hv))
    ·cases hk
   ·split at hk
    ·rename_i v hv
     rw[c_ hk]at h2
     exact hp.jump l _ σ h2 (Ent.trans he (c8 hv))
    ·cases hk
   ·rw[c_ hk]at h2
    exact hp.ret v σ h2 he
 |block id x ih=>
  intro A S kn ke kr r Q hl h hp
  simp only[ex]at h
  split at h
  ·rename_i hb
   refine .block (ih A S kn _ kr r _ hl h ⟨λS' σ hk he=>hp.norm S' σ hk he,λid' S' σ hb' hk he=> ?_,λl S' σ hk he=> ?_,λv σ hk he=>hp.ret v σ hk he⟩)
   ·simp only[wI]
    split at hk
    ·rename_i e;rw[Q6 e];exact hp.norm S' σ hk he
    ·rename_i e;rw[Q5 e];exact hp.exit id' S' σ hb' hk he
   ·simp only[wI]
    rw[Q5 (λe=>by rw[<-e,mF]at hb;cases hb)]at hk
    exact hp.jump l S' σ hk he
  ·cases h
 |cond c x y ihx ihy=>
  intro A S kn ke kr r Q hl h hp
  obtain⟨hlx,hly⟩:=hl
  simp only[ex]at h
  split at h
  ·rename_i t
   split at h
   ·rename_i b hb
    have hev:ev (az V S) (.tmp t)= .d (.v (.bool b)):=by
     rw[ak]
     simp only[tev,TS.get,hb,OK,an,aK]
    have hset:∀b',b=b'->Ent (az V S) (az V (setB S t b')):=λb' e C E M a w hs=>⟨E,M,rQ (by rw[hb,e]) hs⟩
    cases b with
    |true=>
     rw[Q6 rfl]at h
     exact .cond hev (λ_=> .ent (hset true rfl) (ihx A _ kn ke kr r Q hlx h hp)) (λe=>by cases e)
    |false=>
     rw[Q5 (by simp)]at h
     exact .cond hev (λe=>by cases e) (λ_=> .ent (hset false rfl) (ihy A _ kn ke kr r Q hly h hp))
   ·cases h
  ·rename_i b
   have hev:ev (az V S) (.const (.bool b))= .d (.v (.bool b)):=rfl
   cases b with
   |true=>exact .cond hev (λ_=>ihx A _ kn ke kr r Q hlx h hp) (λe=>by cases e)
   |false=>exact .cond hev (λe=>by cases e) (λ_=>ihy A _ kn ke kr r Q hly h hp)
  ·cases h
 |region id ops draw=>
  intro A S kn ke kr r Q _ h hp
  have key:∀{B:Type} (k:TS V.N->Option B) (s:B),Jy X id ops draw S k=some s->(∀S' σ,k S'=some s->Ent σ (az V S')->Q .normal σ)->AWp C (.region id ops draw) (az V S) Q:=by
   intro B k s hr hq
   cases draw with
   |false=>
    simp only[Jy]at hr
    rw[<-hP,<-hn.1]at hr
    intro E M a w hs
    refine wp_region ?_
    have:=oX (C:=C) (ops:=ops) (Q:=λe a' w'=>∃S' E' M',Q e S'/\Sim C E' M' S' a' w') (hP▸hcall) hn.2 ops.toList 0 S k E M a w (by simp) hr hs
     λS' E' M' a' w' hk hs'=>⟨_,E',M',hq S' _ hk (Ent.refl _),hs'⟩
    have e:(Pl ops.toList.length).map (0+ ·)=Pl ops.size:=by simp
    rw[e]at this
    exact this
   |true=>
    simp only[Jy]at hr
    have one:∀(ops:Array Oper),LG X ops S k=some s->iX C.P C.wr X.nm ops.toList ops.toList (az V S) [] (λS' tr=>wH ops.toList tr=true/\Q .normal S'):=by
     intro ops hr
     simp only[LG]at hr
     rw[hP]
     have h2:=oW (W:=C.wr) hcall (λo ho=>qK hn.2 (by rw[hn.1];exact ho)) ops.toList S (az V S) [] _ hr (Rl.refl S)
     refine iA (λσ' tr' ⟨S',hrl,hk⟩=> ?_) h2
     split at hk
     ·rename_i hd;exact⟨hd,hq S' σ' hk hrl.ent⟩
     ·cases hk
    have tree:∀(t:PT) (ops:Array Oper),Jw X S k t ops=some s->PT.ok C X.nm (az V S) (Q .normal) t ops:=by
     intro t
     induction t with
     |leaf=>intro ops hr;exact one ops hr
     |node i j ta tb iha ihb=>
      intro ops hr
      simp only[Jw]at hr
      split at hr
      ·rename_i hf
       obtain⟨h1,h2⟩:=sj hr
       simp only[w_,NH,PN,Pk]at hf
       obtain⟨⟨f1,f2⟩,f3⟩:=hf
       exact⟨⟨(λe=>by rw[e,PD]at f1;cases f1),f2,f3⟩,iha _ h1,ihb _ h2⟩
      ·cases hr
    exact .drawT X.nm (X.pair id) (by rw[hP];exact hm) (tree _ _ hr)
  simp only[ex]at h
  split at h
  ·exact key kn r h λS' σ hk he=>hp.norm S' σ hk he
  ·rename_i cut _
   obtain⟨v,h1,h2⟩:=aR h
   exact key _ v h1 λS' σ hk he=>hp.norm _ σ h2 (Ent.trans he (c8 hk))
 |scope x ih=>
  intro A S kn ke kr r Q hl h hp
  simp only[ex]at h
  split at h
  ·exact zI (ih A S kn _ kr r _ hl.1 h ⟨λS' σ hk he=>hp.norm S' σ hk he,λid' S' σ hb hk he=>hp.exit id' S' σ hb (ea hk).2 he,λl S' σ hk he=>(gA hk).elim,λv σ hk he=>hp.ret v σ hk he⟩)
  ·rename_i l la hj
   obtain⟨rest,hf,hok⟩:=hl.2 l la hj
   refine mZ hf (ih A S kn _ kr r _ hl.1 h ⟨λS' σ hk he=>hp.norm S' σ hk he,λid' S' σ hb hk he=> ?_,λl' S' σ hk he=> ?_,λv σ hk he=>hp.ret v σ hk he⟩)
   ·split at hk
    ·rename_i e
     have:=Ob e
     rw[this,mF]at hb;cases hb
    ·exact hp.exit id' S' σ hb (ea hk).2 he
   ·split at hk
    ·rename_i e
     have e:=Ob e
     refine⟨by omega,?_⟩
     split at hk
     ·cases hk
     ·rename_i v hv
      obtain⟨out,h1,h2⟩:=aR hk
      refine .ent (Ent.trans he (c8 hv)) ((hok v out h1).mono λe σ hq=> ?_)
      unfold eF at hq
      split at hq
      ·obtain⟨hb,w,hw1,hw2⟩:=hq
       rw[c_ hw1]at h2
       exact hp.exit _ _ σ hb h2 hw2
      ·obtain⟨w,hw1,hw2⟩:=hq
       rw[c_ hw1]at h2
       exact hp.ret w σ h2 hw2
      ·exact hq.elim
    ·exact(gA hk).elim
 |loop b ih=>
  intro A S kn ke kr r Q hl h hp
  simp only[ex]at h
  split at h
  ·cases h
  ·rename_i la hla
   split at h
   ·cases h
   ·rename_i v hv
    obtain⟨out,h1,h2⟩:=aR h
    refine .ent (c8 hv) ((d6.loop (hl la hla v out h1)).mono λe σ hq=> ?_)
    unfold eF at hq
    split at hq
    ·obtain⟨hb,w,hw1,hw2⟩:=hq
     rw[c_ hw1]at h2
     exact hp.exit _ _ σ hb h2 hw2
    ·obtain⟨w,hw1,hw2⟩:=hq
     rw[c_ hw1]at h2
     exact hp.ret w σ h2 hw2
    ·exact hq.elim
 |_=>intro A S kn ke kr r Q _ h hp;simp only[ex]at h;cases h
theorem aH{C:Ctx}{X:Xc V}(hP:C.P=X.P)(hn:C.N=X.n/\Fx C X.pre)(hm:X.P.follows .mixedOrders=true)(hcall:ay X.P X.call){b:Code}(hl:LOk C X b){cut:Cut V.ι}{alts:List Alt}
 {F:HL V.N cut.tys->Option (uC (cH X.sh []) alts)}(ih:∀v out,F v=some out->d6 C b (az V (bh V cut v)) (eF X.sh alts out)){v:HL V.N cut.tys}{out:uC (cH X.sh []) alts}
 (h:exL X b cut alts F v=some out):d6 C b (az V (bh V cut v)) (eF X.sh alts out):=by
 refine d6.round (mH hP hn hm hcall b _ _ _ _ _ out _ hl h ⟨λS' σ hk he=> ?_,λid S' σ hb hk he=> ?_,λl S' σ hk he=>(gA hk).elim,λv σ hk he=> ?_⟩)
 ·split at hk
  ·rename_i w hw;exact .ent (Ent.trans he (c8 hw)) (ih w out hk)
  ·cases hk
 ·have hk:=(ea hk).2
  split at hk
  ·rename_i w hw;exact⟨hb,w,hk,Ent.trans he (c8 hw)⟩
  ·cases hk
 ·exact⟨v,hk,he⟩
theorem s7{C:Ctx}{X:Xc V}(hP:C.P=X.P)(hn:C.N=X.n/\Fx C X.pre)(hm:X.P.follows .mixedOrders=true)(hcall:ay X.P X.call){x b:Code}{l:Nat}(hf:findLabel x l=some b)(hl:LOk C X b){cut:Cut V.ι}{alts:List Alt}
 {F:HL V.N cut.tys->Option (uC (cH X.sh []) alts)}(ih:∀v out,F v=some out->uw C x b (az V (bh V cut v)) (eF X.sh alts out)){v:HL V.N cut.tys}{out:uC (cH X.sh []) alts}
 (h:exJ X b l cut alts F v=some out):uw C x b (az V (bh V cut v)) (eF X.sh alts out):=by
 refine uw.pass hf (mH hP hn hm hcall b _ _ _ _ _ out _ hl h ⟨λS' σ hk he=>(by cases hk),λid S' σ hb hk he=> ?_,λl' S' σ hk he=> ?_,λv σ hk he=> ?_⟩)
 ·split at hk
  ·rename_i e
   have:=Ob e
   rw[this,mF]at hb;cases hb
  ·have hk:=(ea hk).2
   split at hk
   ·rename_i w hw;exact⟨hb,w,hk,Ent.trans he (c8 hw)⟩
   ·cases hk
 ·split at hk
  ·rename_i e
   have e:=Ob e
   refine⟨by omega,?_⟩
   split at hk
   ·rename_i w hw;exact .ent (Ent.trans he (c8 hw)) (ih w out hk)
   ·cases hk
  ·exact(gA hk).elim
 ·exact⟨v,hk,he⟩
end
end Go.Tx
end
section
namespace Go.Tx
open Go.Awp
variable [Inhabited GMem]
def zA(P:Program)(rs:List ResultVar)(r:H)(own':List (Nat×Own))(e:Exit)(S:ab):Prop:=
 (e= .normal\/e= .ret)/\∃S',Ent S S'/\∃h,Ht P S' rs=some h/\H.le h r/\∀n o,gt own' n=some o->S'.own? n=some o
theorem pQ{P:Program}{f:FuncId}{fn:Func}{c:Code}{args:List H}{own own':List (Nat×Own)}{r:H}(hf:P.funcs[f]?=some fn)(hb:fn.body=some c)
 (hname:(fn.name != "runtime.NumGoroutine")=true)(hn:args.length<=fn.ntmps)
 (h:∀C:Ctx,C.P=P->C.N=fn.ntmps/\C.fix=[]->AWp C c ⟨jk 0 args,qx own⟩ (zA P fn.results.toList r own')):cX P f args own r own':=by
 refine⟨by simp[dO,hf,hb,hname],λE M w vs hgm hm how hvs=> ?_⟩
 refine calls_of_wp hf hb ?_
 let C:Ctx:=⟨P,fn.ntmps,w,M,E,mi E w own,hgm,λb ⟨n,o,hn,hb⟩=>((how.ok n o hn).block hb).2,[],[]⟩
 have hs:Sim C E M ⟨jk 0 args,qx own⟩ {tmps:=vs++Px (fn.ntmps-vs.size) undef,defers:=[]} w:=by
  have hvs1:=hvs.1
  refine{size:=by simp[C];omega,defers:=rfl,fixed:=λp hp=>(by cases hp),tmps:=λt x hx=> ?_,mem:=hm,own:=λn o ho=> ?_,apart:=λn m o o' b hne ho ho'=> ?_,home:=λn o b ho hb=> ?_,m0:=Mem.le_refl M,mnew:=λb o v hv=> .inl hv,frame:=λ_ _ _=>rfl,grows:=NY _,os:=rfl,tape:=rfl,output:=rfl,env:=λ_ _=>rfl}
  ·obtain⟨_,h2⟩:=sV args 0 t x hx
   simp only[Qu]at h2
   have hlt:t<vs.size:=by have:=(Nx.1 h2).1;omega
   exact⟨vs[t],by simp[PL hlt,hlt],hvs.2 t _ x (N4 hlt) h2⟩
  ·have ho':gt own n=some o:=by rw[<-fL];exact ho
   exact how.ok n o ho'
  ·have h1:gt own n=some o:=by rw[<-fL];exact ho
   have h2:gt own m=some o':=by rw[<-fL];exact ho'
   exact how.apart n m o o' b hne h1 h2
  ·have h1:gt own n=some o:=by rw[<-fL];exact ho
   exact .inl ⟨n,o,h1,hb⟩
 refine wp_mono (h C rfl ⟨rfl,rfl⟩ E M _ w hs) ?_
 rintro e a' w' ⟨S',E',M',⟨he,S'',hent,hh,hres,hle,hown⟩,hs'⟩
 obtain⟨E2,M2,hs2⟩:=hent C E' M' a' w' hs'
 obtain⟨v,hrun,hrep⟩:=D_ (C:=C) hs2 hres
 have hpost:pA E M own w v r own' E2 M2 w':=
  {rep:=hle _ _ _ hrep,owns:=⟨λn o ho=>hs2.own n o (hown n o ho),λn m o o' b hne h1 h2=>hs2.apart n m o o' b hne (hown n o h1) (hown m o' h2)⟩,mle:=hs2.m0,mem:=hs2.mem,mnew:=hs2.mnew,home:=λn o b ho hb=>hs2.home n o b (hown n o ho) hb,frame:=hs2.frame,grows:=hs2.grows,os:=hs2.os,tape:=hs2.tape,output:=hs2.output,env:=hs2.env}
 rcases he with rfl|rfl
 ·exact⟨hs2.defers,v,hrun,v,E2,M2,rfl,hpost⟩
 ·exact⟨hs2.defers,v,hrun,v,E2,M2,rfl,hpost⟩
section
variable (V:i7)
structure Sig where
 params:List (Pt V.ι)
 objs:List (Nat×OPt V.ι):=[]
 rcut:Cut V.ι
 rvars:List ResultVar
 keep:List Nat:=[]
variable {V}
def Sig.tys(sig:Sig V):List (Ty V.ι):=BR sig.params++BB sig.objs
def yb{α:Type}:Nat->List α->List (Nat×α)
 |_,[]=>[]
 |i,x::r=>(i,x)::yb (i+1) r
def bi(sig:Sig V)(v:HL V.N sig.tys):List (TV V.N)×List (Nat×TO V.N):=match bdL V sig.params (Jk sig.tys v)with
 |some (xs,ls)=>match bdO V sig.objs ls with
  |some os=>(xs,os)
  |none=>([],[])
 |none=>([],[])
def aD(sig:Sig V)(v:HL V.N sig.tys):TS V.N:={tmps:=yb 0 (bi sig v).1,own:=(bi sig v).2}
def Hu(P:Program)(S:TS V.N):ResultVar->Option (TV V.N)
 | .tmp t=>gt S.tmps t
 | .cell a t=>match gt S.tmps a with
  |some (.bp n off)=>match bt P t with
   |some (ag,sz)=>match xq V ag off sz (V.ty t) (S.own? n)with
    |some v=>some v
    |none=>match C8 V (S.own? n)with
     |some cells=>yj V false ag sz (V.ty t) (cells.drop off)
     |none=>none
   |none=>none
  |_=>none
def BW(P:Program)(S:TS V.N):List ResultVar->Option (List (TV V.N))
 |[]=>some []
 |x::r=>match Hu P S x,BW P S r with
  |some h,some l=>some (h::l)
  |_,_=>none
def Jm:List (TV V.N)->TV V.N
 |[x]=>x
 |l=> .tup l
def lG(P:Program)(sig:Sig V)(r:HL V.N sig.rcut.tys):Option (TV V.N):=(BW P (bh V sig.rcut r) sig.rvars).map Jm
def br(ω:Nat->Nat)(os:List (Nat×TO V.N)):List (Nat×Own):=os.filterMap λp=>(aX V ω p.2).map λo=>(p.1,o)
def gO(sig:Sig V)(r:HL V.N sig.rcut.tys):List (Nat×TO V.N):=(bh V sig.rcut r).own.filter λp=>sig.keep.contains p.1
def bc(P:Program)(fid:FuncId)(sig:Sig V)(F:HL V.N sig.tys->Option (HL V.N sig.rcut.tys)):Prop:=
 ∀v r x,F v=some r->lG P sig r=some x->
  cX P fid (encL V (aD sig v).len (bi sig v).1) (br (aD sig v).len (aD sig v).own) (an V (bh V sig.rcut r).len x) (br (bh V sig.rcut r).len (gO sig r))
noncomputable def exF(X:Xc V)(sig:Sig V)(h:X.sh.rcut=sig.rcut)(c:Code)(v:HL V.N sig.tys):Option (HL V.N sig.rcut.tys):=
 ex X c _ (aD sig v) (λS=>wK V sig.rcut S) (λ_ _=>none) (λr=>some (h▸r))
theorem dB{α β:Type}{f:α->Option β}:∀{l:List (Nat×α)} {n:Nat} {y:β},gt (l.filterMap λp=>(f p.2).map λo=>(p.1,o)) n=some y->∃x,(n,x)∈l/\f x=some y
 |[],n,y,h=>by simp[gt]at h
 |(k,x)::r,n,y,h=>by
  rw[PA]at h
  cases hx:f x with
  |none=>
   simp only[hx,PU]at h
   obtain⟨z,h1,h2⟩:=dB h
   exact⟨z,NC _ h1,h2⟩
  |some z=>
   simp only[hx,N6,af]at h
   by_cases hk:k=n
   ·rw[Q6 hk]at h;cases h;subst hk;exact⟨x,NG,hx⟩
   ·rw[Q5 hk]at h
    obtain⟨w,h1,h2⟩:=dB h
    exact⟨w,NC _ h1,h2⟩
def fq:List Nat->Bool
 |[]=>true
 |x::r=> !r.contains x&&fq r
theorem jG{α:Type}:∀{l:List (Nat×α)} {n:Nat} {x:α},fq (l.map (·.1))=true->(n,x)∈l->gt l n=some x
 |[],n,x,_,h=>by cases h
 |(k,y)::r,n,x,hd,h=>by
  simp only[NF,fq,NH]at hd
  rw[af]
  rcases NI.1 h with he|h
  ·simp only[N5]at he
   obtain⟨rfl,rfl⟩:=he
   rw[Q6 rfl]
  ·have:k≠n:=by
    intro e;subst e
    have h1:=hd.1
    have:k∈r.map (·.1):=N1 h
    simp at h1
    simp at this
    exact h1 _ this.choose_spec
   rw[Q5 this]
   exact jG hd.2 h
theorem lF{P:Program}{S:TS V.N}:∀{rs:List ResultVar} {vs:List (TV V.N)},BW P S rs=some vs->
 ∃hs,iu P (az V S) rs=some hs/\hs.length=vs.length/\∀(i:Nat) (v:TV V.N),vs[i]?=some v->∃h,hs[i]?=some h/\H.le h (an V S.len v)
 |[],vs,h=>by simp[BW]at h;subst h;exact⟨[],rfl,rfl,λi v hv=>by simp at hv⟩
 |x::r,vs,h=>by
  simp only[BW]at h
  split at h
  ·rename_i v l h1 h2
   simp at h;subst h
   obtain⟨hs,g1,g2,g3⟩:=lF h2
   have:∃y,oe P (az V S) x=some y/\H.le y (an V S.len v):=by
    cases x with
    |tmp t=>
     simp only[Hu]at h1
     refine⟨(az V S).get t,rfl,?_⟩
     unfold ab.get
     rw[bP,h1]
     exact H.le.refl _
    |cell a t=>
     simp only[Hu]at h1
     split at h1
     ·rename_i n off hn
      have hg:(az V S).get a= .bp n off:=by
       unfold ab.get
       rw[bP,hn];simp[an]
      split at h1
      ·rename_i ag sz ht
       split at h1
       ·rename_i w hw
        simp only[Ny]at h1;subst h1
        unfold xq at hw
        split at hw
        ·rename_i i y hnn
         have hw':=ah hw;clear hw
         obtain⟨⟨e1,e2,e3,hot⟩,hw⟩:=hw'
         subst e1;subst e2;subst e3
         simp only[Ny]at hw;subst hw
         have hb:C8 V (S.own? n)=some ((V.cells i y).map λl=> .lf l.t l.x):=by rw[hnn];rfl
         have hl:(V.enc i y).length=V.sz i:=by rw[V.enc_cells,Nz,V.len_cells]
         refine⟨an V S.len (.lf (.st i) y),?_,H.le.refl _⟩
         simp only[oe,hg,gB hb,ht,jq,eR,N9,jD,Nz]
         rw[Q6 (by omega),Oh (by rw[Nz];omega),bA,cY]
        ·rename_i m e xs hnn
         have hw':=ah hw;clear hw
         obtain⟨⟨e1,e2,e3,hot⟩,hw⟩:=hw'
         subst e1;subst e2;subst e3
         simp only[Ny]at hw;subst hw
         have ho1:=n_ hnn
         have hl:=bG (V:=V) (.ar m e) xs
         refine⟨an V S.len (.lf (.ar m e) xs),?_,H.le.refl _⟩
         simp only[oe,hg,ho1,ht,eR,N9,E3,Nz]
         rw[Q6 (by omega),Oh (by rw[Nz];omega),bA,cY]
        ·cases hw
       ·split at h1
        ·rename_i cells hc
         obtain⟨y,k1,k2,_⟩:=jI (ω:=S.len) h1
         rw[gX]at k1
         refine⟨y,?_,k2⟩
         simp only[oe,hg,gB hc,ht,k1]
        ·cases h1
      ·cases h1
     ·cases h1
   obtain⟨y,y1,y2⟩:=this
   refine⟨y::hs,by simp only[iu,y1,g1],by simp[g2],λi w hw=> ?_⟩
   cases i with
   |zero=>simp at hw;subst hw;exact⟨y,rfl,y2⟩
   |succ i=>obtain⟨z,z1,z2⟩:=g3 i w (by simpa using hw);exact⟨z,by simpa using z1,z2⟩
  ·cases h
theorem jU{ω:Nat->Nat}:∀(l:List (TV V.N)) (i:Nat),jk i (encL V ω l)=(yb i l).map λp=>(p.1,an V ω p.2)
 |[],i=>rfl
 |x::r,i=>by simp[encL,jk,yb,jU r (i+1)]
theorem zJ:∀{ps:List (Pt V.ι)} {ls ls':List (cg V.N)} {xs:List (TV V.N)},bdL V ps ls=some (xs,ls')->xs.length=ps.length
 |[],ls,ls',xs,h=>by simp[bdL]at h;rw[h.1];rfl
 |p::r,ls,ls',xs,h=>by
  simp only[bdL]at h
  split at h
  ·rename_i x l1 h1
   split at h
   ·rename_i ys l2 h2
    simp at h
    rw[<-h.1]
    simp[zJ h2]
   ·cases h
  ·cases h
theorem cA:∀{objs:List (Nat×OPt V.ι)} {ls:List (cg V.N)} {os:List (Nat×TO V.N)},bdO V objs ls=some os->os.map (·.1)=objs.map (·.1)
 |[],[],os,h=>by simp[bdO]at h;subst h;rfl
 |[],_::_,os,h=>by simp[bdO]at h
 |(c, .box oty ps)::r,ls,os,h=>by
  simp only[bdO]at h
  split at h
  ·split at h
   ·rename_i os' h2
    simp at h;subst h
    simp[cA h2]
   ·cases h
  ·cases h
 |(c, .st i)::r,[],os,h=>by simp[bdO]at h
 |(c, .vec te e)::r,[],os,h=>by simp[bdO]at h
 |(c, .st i)::r,⟨t,x⟩::ls,os,h=>by
  cases t<;>simp only[bdO]at h<;>first
   |(cases h;done)
   |(split at h
     ·split at h
      ·rename_i os' h2
       simp at h;subst h
       simp[cA h2]
      ·cases h
     ·cases h)
 |(c, .vec te e)::r,⟨t,x⟩::ls,os,h=>by
  cases t<;>simp only[bdO]at h<;>first
   |(cases h;done)
   |(split at h
     ·split at h
      ·rename_i os' h2
       simp at h;subst h
       simp[cA h2]
      ·cases h
     ·cases h)
 |(c, .dvec te e true)::r,[],os,h=>by simp[bdO]at h
 |(c, .dvec te e false)::r,[],os,h=>by simp[bdO]at h
 |(c, .dvec te e true)::r,⟨t,x⟩::ls,os,h=>by
  cases t<;>first
   |(simp[bdO]at h;done)
   |(rename_i t2;cases t2<;>first
    |(simp[bdO]at h;done)
    |(simp only[bdO]at h
      split at h
      ·split at h
       ·rename_i os' h2
        simp at h;subst h
        simp[cA h2]
       ·cases h
      ·cases h))
 |(c, .dvec te e false)::r,⟨t,x⟩::ls,os,h=>by
  cases t<;>simp only[bdO]at h<;>first
   |(cases h;done)
   |(split at h
     ·split at h
      ·rename_i os' h2
       simp at h;subst h
       simp[cA h2]
      ·cases h
     ·cases h)
 |(c, .que te e)::r,[],os,h=>by simp[bdO]at h
 |(c, .que te e)::r,⟨t,x⟩::ls,os,h=>by
  cases t<;>simp only[bdO]at h<;>first
   |(cases h;done)
   |(split at h
     ·split at h
      ·rename_i os' h2
       simp at h;subst h
       simp[cA h2]
      ·cases h
     ·cases h)
 |(c, .bar m e)::r,[],os,h=>by simp[bdO]at h
 |(c, .bar m e)::r,⟨t,x⟩::ls,os,h=>by
  cases t<;>simp only[bdO]at h<;>first
   |(cases h;done)
   |(split at h
     ·split at h
      ·rename_i os' h2
       simp at h;subst h
       simp[cA h2]
      ·cases h
     ·cases h)
 |(c, .maps te tk tv)::r,[],os,h=>by simp[bdO]at h
 |(c, .maps te tk tv)::r,⟨t,x⟩::ls,os,h=>by
  cases t<;>first
   |(simp[bdO]at h;done)
   |(rename_i t2;cases t2<;>first
    |(simp[bdO]at h;done)
    |(rename_i t3;cases t3<;>first
     |(simp[bdO]at h;done)
     |(simp only[bdO]at h
       split at h
       ·split at h
        ·rename_i os' h2
         simp at h;subst h
         simp[cA h2]
        ·cases h
       ·cases h)))
 |(c, .iter)::r,[],os,h=>by simp[bdO]at h
 |(c, .iter)::r,[⟨t,x⟩],os,h=>by
  cases t<;>simp[bdO]at h
 |(c, .iter)::r,⟨t,x⟩::⟨t2,x2⟩::ls,os,h=>by
  cases t<;>first
   |(simp[bdO]at h;done)
   |(cases t2<;>first
    |(simp[bdO]at h;done)
    |(rename_i ki;cases ki<;>first
     |(simp[bdO]at h;done)
     |(simp only[bdO]at h
       split at h
       ·rename_i os' h2
        simp at h;subst h
        simp[cA h2]
       ·cases h)))
 |(c, .miter cm k v)::r,[],os,h=>by simp[bdO]at h
 |(c, .miter cm k v)::r,[⟨t,x⟩],os,h=>by
  cases t<;>simp[bdO]at h
 |(c, .miter cm k v)::r,⟨t,x⟩::⟨t2,x2⟩::ls,os,h=>by
  cases t<;>first
   |(simp[bdO]at h;done)
   |(cases t2<;>first
    |(simp[bdO]at h;done)
    |(simp only[bdO]at h
      split at h
      ·split at h
       ·rename_i os' h2
        simp at h;subst h
        simp[cA h2]
       ·cases h
      ·cases h))
 |(c, .map tk tv)::r,[],os,h=>by simp[bdO]at h
 |(c, .map tk tv)::r,⟨t,x⟩::ls,os,h=>by
  cases t<;>simp only[bdO]at h<;>first
   |(cases h;done)
   |(split at h
     ·split at h
      ·rename_i os' h2
       simp at h;subst h
       simp[cA h2]
      ·cases h
     ·cases h)
theorem m6(c:Cut V.ι)(ls:List (cg V.N))(h:fq (c.objs.map (·.1))=true):fq ((build V c ls).own.map (·.1))=true:=by
 unfold build
 split
 ·split
  ·rename_i os ho
   simp only
   rw[cA ho];exact h
  ·rfl
 ·rfl
theorem mK{ω:Nat->Nat}:∀{os:List (Nat×TO V.N)} {n:Nat} {x:TO V.N} {o:Own},gt os n=some x->aX V ω x=some o->gt (br ω os) n=some o
 |[],n,x,o,h,_=>by simp[gt]at h
 |(k,y)::r,n,x,o,h,ho=>by
  rw[af]at h
  unfold br
  rw[PA]
  by_cases hk:k=n
  ·rw[Q6 hk]at h;cases h
   simp only[ho,N6,af]
   rw[Q6 hk]
  ·rw[Q5 hk]at h
   have ih:=mK (ω:=ω) h ho
   unfold br at ih
   cases hy:aX V ω y with
   |none=>simp only[hy,PU];exact ih
   |some z=>
    simp only[hy,N6,af]
    rw[Q5 hk];exact ih
theorem bj{X:Xc V}{sig:Sig V}(hsh:X.sh.rcut=sig.rcut){fid:FuncId}{fn:Func}{c:Code}(hf:X.P.funcs[fid]?=some fn)(hb:fn.body=some c)(hn:fn.ntmps=X.n)(hrs:fn.results.toList=sig.rvars)
 (hname:(fn.name != "runtime.NumGoroutine")=true)(hlen:P7 sig.params.length X.n=true)(hm:X.P.follows .mixedOrders=true)(hcall:ay X.P X.call)
 (hdr:fq (sig.rcut.objs.map (·.1))=true)(hl:∀C:Ctx,C.P=X.P->C.N=X.n/\Fx C X.pre->LOk C X c){v:HL V.N sig.tys}{r:HL V.N sig.rcut.tys}(h:exF X sig hsh c v=some r):
 ∀x,lG X.P sig r=some x->
  cX X.P fid (encL V (aD sig v).len (bi sig v).1) (br (aD sig v).len (aD sig v).own) (an V (bh V sig.rcut r).len x) (br (bh V sig.rcut r).len (gO sig r)):=by
 obtain⟨params,objs,rcut,rvars,keep⟩:=sig
 simp only at hsh
 subst hsh
 intro x hx
 have hargs:(bi ⟨params,objs,X.sh.rcut,rvars,keep⟩ v).1.length<=X.n:=by
  have hp:params.length<=X.n:=Pr hlen
  unfold bi
  split
  ·rename_i xs ls h1
   split
   ·simp only;rw[zJ h1];exact hp
   ·simp
  ·simp
 refine pQ hf hb hname (by rw[aJ,hn];exact hargs) λC hP hN=> ?_
 have hent:Ent ⟨jk 0 (encL V (aD ⟨params,objs,X.sh.rcut,rvars,keep⟩ v).len (bi ⟨params,objs,X.sh.rcut,rvars,keep⟩ v).1),qx (br (aD ⟨params,objs,X.sh.rcut,rvars,keep⟩ v).len (aD ⟨params,objs,X.sh.rcut,rvars,keep⟩ v).own)⟩
  (az V (aD ⟨params,objs,X.sh.rcut,rvars,keep⟩ v)):=by
  refine Ent.le (λt y hy=>⟨y,?_,H.le.refl _⟩) λn o ho=>⟨o,?_,OLe.refl _⟩
  ·rw[jU];exact hy
  ·rw[aG,O8]at ho
   obtain⟨o',ho',hoo⟩:=ho
   have:=mK (os:=(aD ⟨params,objs,X.sh.rcut,rvars,keep⟩ v).own) ho' hoo
   unfold ab.own?
   rw[fL]
   exact this
 have hend:∀e σ,(e= .normal\/e= .ret)->Ent σ (az V (bh V X.sh.rcut r))->
  zA X.P fn.results.toList (an V (bh V X.sh.rcut r).len x) (br (bh V X.sh.rcut r).len (gO ⟨params,objs,X.sh.rcut,rvars,keep⟩ r)) e σ:=by
  intro e σ he hσ
  unfold lG at hx
  rw[NK]at hx
  obtain⟨vs,hvs,hone⟩:=hx
  obtain⟨hs,g1,g2,g3⟩:=lF hvs
  have hh:∃y,Ht X.P (az V (bh V X.sh.rcut r)) fn.results.toList=some y/\H.le y (an V (bh V X.sh.rcut r).len x):=by
   rw[hrs]
   unfold Ht
   rw[g1]
   cases vs with
   |nil=>
    have:hs=[]:=NV (by simpa using g2)
    subst this;subst hone
    exact⟨.tup [],rfl,by simp only[Jm,an,encL];exact H.le.refl _⟩
   |cons a l=>
    cases l with
    |nil=>
     cases hs with
     |nil=>simp at g2
     |cons y l'=>
      have:l'=[]:=NV (by simpa using g2)
      subst this;subst hone
      obtain⟨z,z1,z2⟩:=g3 0 a rfl
      simp at z1;subst z1
      exact⟨y,rfl,z2⟩
    |cons b l=>
     cases hs with
     |nil=>simp at g2
     |cons y l'=>
      cases l' with
      |nil=>simp at g2
      |cons y2 l2=>
       subst hone
       refine⟨.tup (y::y2::l2),rfl,?_⟩
       simp only[Jm,an]
       refine xn (by rw[aJ];exact g2) λi w hw=> ?_
       rw[encL_map,NB,NK]at hw
       obtain⟨u,hu,rfl⟩:=hw
       exact g3 i u hu
  obtain⟨y,hy1,hy2⟩:=hh
  refine⟨he,_,hσ,y,hy1,hy2,λn o ho=> ?_⟩
  obtain⟨o',h1,h2⟩:=dB ho
  have h1:(n,o')∈(bh V X.sh.rcut r).own:=(PG.1 h1).1
  have:=jG (m6 X.sh.rcut _ hdr) h1
  rw[aG]
  unfold TS.own?
  unfold bh at *
  rw[this]
  exact h2
 refine .ent hent (mH hP ⟨by rw[hN.1,hn],λp hp=>(by rw[hN.2]at hp;cases hp)⟩ hm hcall c _ _ _ _ _ r _ (hl C hP ⟨by rw[hN.1,hn],λp hp=>(by rw[hN.2]at hp;cases hp)⟩) h ⟨λS σ hk he=> ?_,λid S σ _ hk he=>(by cases hk),λl S σ hk he=>(by cases hk),λw σ hk he=> ?_⟩)
 ·exact hend _ σ (.inl rfl) (Ent.trans he (c8 hk))
 ·have:w=r:=by simpa using hk
  subst this
  exact hend _ σ (.inr rfl) he
end
end Go.Tx
end
