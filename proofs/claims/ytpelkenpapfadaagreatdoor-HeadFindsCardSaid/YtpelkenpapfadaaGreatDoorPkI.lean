/-
  Texts of this claim, joined by a program of mine: what the theorem uses.
-/
import Derived.Test.YtpelkenpapfadaaGreatDoorPkH
import Derived.Test.YtpelkenpapfadaaGreatDoorPkE
open Bool renaming and_eq_true→Uf,and_false→Wk,and_true→Wc,false_and→Vh,false_eq_true→TT,false_ne_true→Ul,false_or→Ux,not_eq_true'→VL,not_false→TY,not_true→T1,or_assoc→Xp,or_eq_false_iff→UQ,or_eq_true→UB,or_false→U_,or_true→Vb,true_and→U9,true_eq_false→T0,true_or→UD
open ByteArray renaming mk→TZ
open Int renaming le_refl→WQ,mul_nonneg→Xj,natCast_nonneg→TX,natCast_zero→Vd,ofNat_eq_natCast→U2,ofNat_lt→T3,toNat→U1,toNat_natCast→TW,toNat_zero→Vj,zero_add→Xz
open List renaming all_cons→Vi,all_eq_true→Uj,any_cons→Wb,any_eq_false→WY,any_eq_true→Vl,any_nil→W7,append_assoc→UO,append_nil→UZ,cons_append→Uo,drop_append→W6,drop_drop→VU,drop_eq_getElem_cons→Vw,drop_eq_nil_of_le→Vt,drop_zero→UJ,findIdx?_eq_some_iff_findIdx_eq→VJ,foldl_cons→Va,foldl_nil→Wy,getD_eq_getElem?_getD→Um,getElem?_append_left→Uu,getElem?_append_right→Ut,getElem?_drop→UT,getElem?_eq_getElem→T8,getElem?_map→Ua,getElem?_replicate→V_,getElem_mem→Vk,length→V5,length_append→Uc,length_cons→Ue,length_drop→UR,length_eq_zero_iff→U3,length_map→Ub,length_nil→Uv,length_singleton→T5,length_take→UY,map→VC,map_append→UV,map_cons→Ud,map_map→UC,map_nil→UL,map_set→V9,map_singleton→Wv,mem_append→Uk,mem_cons→Uh,mem_cons_of_mem→T6,mem_cons_self→T_,mem_map→Us,mem_of_getElem?→Ui,mem_or_eq_of_mem_set→Vv,mem_singleton→UP,nil_append→UK,not_all_eq_any_not→W8,replicate→UX,set_append_right→Wi,singleton_append→Xh,suffix_cons→WC,suffix_refl→Ur,tail_cons→WO,tail_suffix→VQ,take→WS,takeWhile_cons→VE,takeWhile_nil→Wu,take_add_one→V2,take_of_length_le→UU
open Nat renaming add_assoc→Vf,add_sub_cancel→WR,add_zero→UE,eq_zero_or_pos→Wt,le_refl→Up,le_trans→UW,lt_irrefl→Vy,lt_or_ge→Xx,lt_succ_self→V7,pow_le_pow_right→Xl,sub_self→Xw,zero_add→UG,zero_le→Vs
open Ne renaming symm→UA
open Option renaming bind_eq_bind→TR,bind_none→T2,bind_some→TU,getD_some→Vr,map_some→Uw
open Sum renaming inl→UF,inr→UI
open UInt8 renaming toNat_inj→W_
noncomputable section
set_option linter.unusedSimpArgs false
set_option linter.unusedVariables false
section
namespace Go.Proofs.YtpelkenpapfadaaGreatDoor
open Go.Tx
set_option maxRecDepth 20000
open Go.Lib
def qZ(l:List UInt8):List ByteArray:=(lz 0 l).map λp=>mkB p.2
theorem zW(l:List UInt8):(qZ l).length<=l.length:=by unfold qZ;rw[Ub];exact jT _ _ 0 (Up _)
def aZ(st:List (List ByteArray)×Int×Int)(l:List UInt8):List (List ByteArray)×Int×Int:=
 if hsh l then(st.1++[qZ l],st.2)else(qZ l).foldl (cW id) st
def aP(s:List UInt8):List (List ByteArray):=((lines s).foldl aZ ([],-1,0)).1
def CN(ls:List (List UInt8)):Nat:=(ls.map λl=>l.length+1).sum
theorem fW(l:List UInt8)(r:List (List UInt8)):CN (l::r)=l.length+1+CN r:=by simp[CN]
theorem jV(s:List UInt8):CN (lines s)=s.length+1:=by
 refine lQ (M:=λs=>CN (lines s)=s.length+1) (λl h=> ?_) (λa b h ih=> ?_) s.length s (Up _)
 ·rw[jI h,fW];rfl
 ·rw[gF h,fW,ih,Uc,Ue];omega
theorem Inv.hash{B:Nat}{α:Type}{out:List (List α)}{op dp:Int}(h:Inv B out op dp)(x:List α)(n:Nat)(hx:x.length<=n)(hn:1<=n):Inv (B+n) (out++[x]) op dp:=by
 refine⟨?_,h.d0,by have:=h.d1;omega,by rw[Uc,T5];have:=h.len;omega,λy hy=> ?_⟩
 ·rcases h.op with e|⟨k,e,hk⟩
  ·exact .inl e
  ·exact .inr ⟨k,e,by rw[Uc];omega⟩
 ·rcases Uk.1 hy with hy|hy
  ·have:=h.row y hy;omega
  ·rw[UP.1 hy];omega
theorem Inv.line{B:Nat}{st:List (List ByteArray)×Int×Int}(h:Inv B st.1 st.2.1 st.2.2)(l:List UInt8):Inv (B+(l.length+1)) (aZ st l).1 (aZ st l).2.1 (aZ st l).2.2:=by
 unfold aZ
 have hl:=zW l
 split
 ·exact h.hash _ _ (by omega) (by omega)
 ·exact(h.steps (f:=id) (qZ l)).mono (by omega)
theorem PA(ls:List (List UInt8)):∀(m j:Nat) (st:List (List ByteArray)×Int×Int) (B:Nat),ls.length-j=m->Inv B st.1 st.2.1 st.2.2->B+CN (ls.drop j)<=900000000->ls.length<=1000000000->
 mc (st.2.1,st.2.2,ls.map mkB,(ls.length:Int),(j:Int),st.1,())=some (((ls.drop j).foldl aZ st).1,()):=by
 intro m
 induction m with
 |zero=>
  intro j st B hm hi hB hl
  have hlt:¬j<ls.length:=by omega
  rw[mc]
  simp only[TR,TU,T2,XC,XD,TT,T0,TW,TX,XH,XE,T3,hlt,XJ,dk hlt,Wy]
 |succ m ih=>
  intro j st B hm hi hB hl
  have hlt:j<ls.length:=by omega
  obtain⟨l,hp,hpm,hd,g1,g2⟩:=dW hlt
  have hp':(ls.map mkB)[j]?=some (mkB l):=by rw[Ua,hp];rfl
  rw[hd,fW]at hB
  have hn:=ih (j+1) (aZ st l) _ (by omega) (hi.line l) (by omega) hl
  have hx1:(TZ #[35])=sE:=rfl
  have ht:OH (mkB l)=qZ l:=by unfold OH qZ;rw[dC]
  have h52:=f52 (mkB l) (by rw[lT];omega)
  rw[ht]at h52
  rw[hd,Va,mc]
  have hlen:=hi.len
  have hln:st.1.length+1<=4294967296:=by omega
  cases hh:hsh l with
  |true=>
   rw[show aZ st l=(st.1++[qZ l],st.2) by rw[aZ,XG hh]]at hn⊢
   simp only[TR,TU,T2,XC,XD,TT,T0,TW,TX,XH,XE,T3,hlt,XI,g1,g2,hp',hx1,f66,dC,hh,h52,T5,hln,aX (a:=j) (by omega)]
   exact hn
  |false=>
   have hls:aZ st l=(qZ l).foldl (cW id) st:=by rw[aZ,XF (by rw[hh];exact Ul)]
   rw[hls]at hn⊢
   have htl:=zW l
   have h9:=PB (ls.map mkB) ls.length j (qZ l) _ 0 st.1 st.2.1 st.2.2 B rfl hi (by omega) (by omega)
   rw[UJ]at h9
   have h9:md (st.2.1,st.2.2,ls.map mkB,(ls.length:Int),(j:Int),((qZ l).length:Int),0,st.1,qZ l,())=_:=h9
   simp only[TR,TU,T2,XC,XD,TT,T0,TW,TX,XH,XE,T3,hlt,XI,g1,g2,hp',hx1,f66,dC,hh,h52,h9,aX (a:=j) (by omega)]
   exact hn
theorem Inv.zero{α:Type}:Inv 0 ([]:List (List α)) (-1) 0:=⟨.inl rfl,by omega,by omega,by simp,by simp⟩
theorem uU:∀(ls:List (List UInt8)) (B:Nat) (st:List (List ByteArray)×Int×Int),Inv B st.1 st.2.1 st.2.2->Inv (B+CN ls) (ls.foldl aZ st).1 (ls.foldl aZ st).2.1 (ls.foldl aZ st).2.2
 |[],B,st,h=>h
 |l::r,B,st,h=>by
  rw[Va,fW,<-Vf]
  exact uU r _ _ (h.line l)
theorem f34(s:ByteArray)(hs:s.size<=800000000):Oh (s,())=some (aP s.data.toList,()):=by
 have hw:=jV s.data.toList
 rw[bR]at hw
 have hl:=uV s.data.toList
 have hc:=zc s.data.toList 10
 rw[bR]at hc
 have h:=PA (lines s.data.toList) _ 0 ([],-1,0) 0 rfl Inv.zero (by rw[UJ];omega) (by omega)
 have h:mc (-1,0,(lines s.data.toList).map mkB,((lines s.data.toList).length:Int),0,[],())=some (aP s.data.toList,()):=h
 rw[Oh]
 have hx:(TZ #[10])=nlB:=rfl
 simp only[hx,f65 s (by omega),TR,TU,T2,XC,XD,TT,T0,TW,TX,XH,XE,T3,Ub,h]
def fy(out:List (List ByteArray)):Prop:=∀x∈out,∀t∈x,qy t
theorem fy.step{out:List (List ByteArray)}{op dp:Int}{t:ByteArray}(h:fy out)(ht:qy t):fy (cW id (out,op,dp) t).1:=by
 have ho:fy (opn out op).1:=by
  unfold opn;split
  ·intro x hx
   rcases Uk.1 hx with hx|hx
   ·exact h x hx
   ·rw[UP.1 hx];simp
  ·exact h
 intro x hx
 rcases Vv hx with hx|rfl
 ·exact ho x hx
 ·intro y hy
  rcases Uk.1 hy with hy|hy
  ·rw[Um]at hy
   cases hg:(opn out op).1[(opn out op).2.toNat]? with
   |none=>rw[hg]at hy;cases hy
   |some z=>rw[hg]at hy;exact ho z (Ui hg) y hy
  ·rw[UP.1 hy];exact ht
theorem fy.steps:∀(ts:List ByteArray) (st:List (List ByteArray)×Int×Int),fy st.1->(∀t∈ts,qy t)->fy (ts.foldl (cW id) st).1
 |[],st,h,_=>h
 |t::r,st,h,ht=>fy.steps r _ (h.step (ht t T_)) λx hx=>ht x (T6 _ hx)
theorem F1(l:List UInt8):∀t∈qZ l,qy t:=by
 intro t ht
 obtain⟨p,hp,rfl⟩:=Us.1 ht
 exact yQ _ _ 0 (Up _) p hp
theorem fy.lines:∀(ls:List (List UInt8)) (st:List (List ByteArray)×Int×Int),fy st.1->fy (ls.foldl aZ st).1
 |[],st,h=>h
 |l::r,st,h=>by
  rw[Va]
  refine fy.lines r _ ?_
  unfold aZ
  split
  ·intro x hx
   rcases Uk.1 hx with hx|hx
   ·exact h x hx
   ·rw[UP.1 hx];exact F1 l
  ·exact fy.steps _ _ h (F1 l)
theorem Fd(s:List UInt8):fy (aP s):=fy.lines _ _ (by intro x hx;cases hx)
theorem BG(s:List UInt8):(aP s).length<=s.length+1/\∀x∈aP s,x.length<=s.length+1:=by
 have h:=uU (lines s) 0 ([],-1,0) Inv.zero
 rw[UG,jV]at h
 exact⟨h.len,h.row⟩
def T(o:Nat)(l:List UInt8):List aH:=(lz o l).map λp=>⟨(p.1:Int),mkB p.2⟩
theorem PF(s:ByteArray)(hs:s.size<=1000000000)(f:Int)(out:List aH):∀(m a:Nat),s.size-a=m->a<=s.size->
 nH (s,(a:Int),f,out,())=some (s,((a+((s.data.toList.drop a).takeWhile rQ).length:Nat):Int),f,out,()):=by
 intro m
 induction m with
 |zero=>
  intro a hm hl
  have hlt:¬a<s.size:=by omega
  rw[nH]
  simp only[TR,TU,T2,XC,XD,TT,T0,TW,TX,XH,XE,T3,hlt,XJ,gY hlt,Wu,Uv,UE]
 |succ m ih=>
  intro a hm hl
  have hlt:a<s.size:=by omega
  have h:=ih (a+1) (by omega) (by omega)
  rw[nH,gc hlt,VE]
  cases h1:A8 ((s.data.toList.getD a 0).toNat:Int)with
  |true=>
   have e:rQ (s.data.toList.getD a 0)=true:=by unfold rQ isL;rw[h1];rfl
   simp only[TR,TU,T2,XC,XD,TT,T0,TW,TX,XH,XE,T3,hlt,XI,bK hlt,f88,h1,aX (a:=a) (by omega),h,e,Ue]
   congr 4;omega
  |false=>
   cases h2:uR ((s.data.toList.getD a 0).toNat:Int)with
   |true=>
    have e:rQ (s.data.toList.getD a 0)=true:=by unfold rQ isL isD;rw[h1,h2];rfl
    simp only[TR,TU,T2,XC,XD,TT,T0,TW,TX,XH,XE,T3,hlt,XI,bK hlt,f88,f89,h1,h2,aX (a:=a) (by omega),h,e,Ue]
    congr 4;omega
   |false=>
    have e:rQ (s.data.toList.getD a 0)=false:=by unfold rQ isL isD;rw[h1,h2];rfl
    simp only[TR,TU,T2,XC,XD,TT,T0,TW,TX,XH,XE,T3,hlt,XI,bK hlt,f88,f89,h1,h2,e,Uv,UE]
theorem MM(s:ByteArray)(hs:s.size<=1000000000)(f:Int)(out:List aH):∀(m a:Nat),s.size-a=m->a<=s.size->
 jg (s,(a:Int),f,out,())=some (s,((a+((s.data.toList.drop a).takeWhile isD).length:Nat):Int),f,out,()):=by
 intro m
 induction m with
 |zero=>
  intro a hm hl
  have hlt:¬a<s.size:=by omega
  rw[jg]
  simp only[TR,TU,T2,XC,XD,TT,T0,TW,TX,XH,XE,T3,hlt,XJ,gY hlt,Wu,Uv,UE]
 |succ m ih=>
  intro a hm hl
  have hlt:a<s.size:=by omega
  have h:=ih (a+1) (by omega) (by omega)
  rw[jg,gc hlt,VE]
  cases h2:uR ((s.data.toList.getD a 0).toNat:Int)with
  |true=>
   have e:isD (s.data.toList.getD a 0)=true:=h2
   simp only[TR,TU,T2,XC,XD,TT,T0,TW,TX,XH,XE,T3,hlt,XI,bK hlt,f89,h2,aX (a:=a) (by omega),h,e,Ue]
   congr 4;omega
  |false=>
   have e:isD (s.data.toList.getD a 0)=false:=h2
   simp only[TR,TU,T2,XC,XD,TT,T0,TW,TX,XH,XE,T3,hlt,XI,bK hlt,f89,h2,e,Uv,UE]
theorem PE(s:ByteArray)(hs:s.size<=1000000000):∀(m a:Nat) (out:List aH),s.size-a<=m->a<=s.size->out.length<=a->
 jh (s,(a:Int),out,())=some (out++T a (s.data.toList.drop a),()):=by
 intro m
 induction m with
 |zero=>
  intro a out hm hl ho
  have hlt:¬a<s.size:=by omega
  rw[jh]
  simp only[TR,TU,T2,XC,XD,TT,T0,TW,TX,XH,XE,T3,hlt,XJ,gY hlt,T,dE,UL,UZ]
 |succ m ih=>
  intro a out hm hl ho
  by_cases hlt:a<s.size
  ·have hg:=gc hlt
   rw[jh]
   cases hw:isW (s.data.toList.getD a 0)with
   |true=>
    have h:=ih (a+1) out (by omega) (by omega) (by omega)
    rw[hg,T,iL hw]
    rw[T]at h
    rw[<-h]
    have hw':((((s.data.toList.getD a 0).toNat:Int)==32)=true)\/((((s.data.toList.getD a 0).toNat:Int)==32)=false)/\((((s.data.toList.getD a 0).toNat:Int)==9)=true)\/
     ((((s.data.toList.getD a 0).toNat:Int)==32)=false)/\((((s.data.toList.getD a 0).toNat:Int)==9)=false)/\((((s.data.toList.getD a 0).toNat:Int)==10)=true):=by
     unfold isW at hw
     revert hw
     cases (((s.data.toList.getD a 0).toNat:Int)==32)<;>cases (((s.data.toList.getD a 0).toNat:Int)==9)<;>simp
    rcases hw' with e1|⟨e1,e2⟩|⟨e1,e2,e3⟩<;>
     simp only[hlt,XI,XC,TX,TW,T3,bK hlt, *,TT,XD,TR,TU,aX (a:=a) (by omega)]
   |false=>
    have hw':((((s.data.toList.getD a 0).toNat:Int)==32)=false)/\((((s.data.toList.getD a 0).toNat:Int)==9)=false)/\((((s.data.toList.getD a 0).toNat:Int)==10)=false):=by
     unfold isW at hw
     revert hw
     cases (((s.data.toList.getD a 0).toNat:Int)==32)<;>cases (((s.data.toList.getD a 0).toNat:Int)==9)<;>simp
    obtain⟨e1,e2,e3⟩:=hw'
    have htl:=qk (s.data.toList.drop a)
    rw[UR,bR]at htl
    have htp:=eC (s.data.toList.getD a 0) (s.data.toList.drop (a+1))
    rw[<-hg]at htp
    have h:=ih (a+eT (s.data.toList.drop a)) (out++[⟨(a:Int),s.extract a (a+eT (s.data.toList.drop a))⟩]) (by omega) (by omega) (by rw[Uc,T5];omega)
    have hx:out++T a (s.data.toList.drop a)=(out++[⟨(a:Int),s.extract a (a+eT (s.data.toList.drop a))⟩])++T (a+eT (s.data.toList.drop a)) (s.data.toList.drop (a+eT (s.data.toList.drop a))):=by
     rw[g8,UO,Xh]
     unfold T
     conv=>lhs;rw[hg,iK hw,<-hg,Ud,VU]
    rw[hx,<-h]
    have hout:(out.length+1<=4294967296):=by omega
    have hbd:(a:Int)<=((a+eT (s.data.toList.drop a):Nat):Int)/\((a+eT (s.data.toList.drop a):Nat):Int)<=(s.size:Int):=by omega
    cases h1:A8 ((s.data.toList.getD a 0).toNat:Int)with
    |true=>
     have ht:eT (s.data.toList.drop a)=1+((s.data.toList.drop (a+1)).takeWhile rQ).length:=by
      rw[hg,cS,XG (show isL _=true from h1)]
     have h9:=PF s hs a out _ (a+1) rfl (by omega)
     rw[Vf,<-ht]at h9
     simp only[hlt,XI,XC,TX,TW,T3,bK hlt,e1,e2,e3,TT,XD,TR,TU,f88,h1,aX (a:=a) (by omega),h9,hbd,true_and,and_self,T5,hout]
    |false=>
     cases h2:uR ((s.data.toList.getD a 0).toNat:Int)with
     |true=>
      have ht:eT (s.data.toList.drop a)=1+((s.data.toList.drop (a+1)).takeWhile isD).length:=by
       rw[hg,cS,XF (by rw[show isL _=false from h1];exact Ul),XG (show isD _=true from h2)]
      have h9:=MM s hs a out _ (a+1) rfl (by omega)
      rw[Vf,<-ht]at h9
      simp only[hlt,XI,XC,TX,TW,T3,bK hlt,e1,e2,e3,TT,XD,TR,TU,f88,f89,h1,h2,aX (a:=a) (by omega),h9,hbd,true_and,and_self,T5,hout]
     |false=>
      have ht:eT (s.data.toList.drop a)=1:=by
       rw[hg,cS,XF (by rw[show isL _=false from h1];exact Ul),XF (by rw[show isD _=false from h2];exact Ul)]
      rw[ht]at hbd⊢
      have hw1:IntKind.i64.wrap ((a:Int)+1)=((a+1:Nat):Int):=aX (by omega)
      simp only[hlt,XI,XC,TX,TW,T3,bK hlt,e1,e2,e3,TT,XD,TR,TU,f88,f89,h1,h2,hw1,hbd,true_and,and_self,T5,hout]
  ·rw[jh]
   simp only[TR,TU,T2,XC,XD,TT,T0,TW,TX,XH,XE,T3,hlt,XJ,gY hlt,T,dE,UL,UZ]
theorem f53(s:ByteArray)(hs:s.size<=1000000000):Oq (s,())=some (T 0 s.data.toList,()):=by
 have h:=PE s hs s.size 0 [] (by omega) (by omega) (by simp)
 have h:jh (s,0,[],())=some (T 0 s.data.toList,()):=h
 rw[Oq]
 simp only[h,TR,TU,T2,XC,XD,TT,T0,TW,TX,XH,XE,T3]
end Go.Proofs.YtpelkenpapfadaaGreatDoor
end
section
namespace Go.Proofs.YtpelkenpapfadaaGreatDoor
open Go.Tx
open IntKind (i64)
set_option maxRecDepth 20000
open Go.Lib
theorem Ns(s:ByteArray)(ins:List Bool)(all:List aH)(ln:Int)(i:Nat)(p:Nat)(w:ByteArray)(out:List (List aH))(op dp:Int)(B:Nat)
 (hi:all[i]?=some ⟨(p:Int),w⟩)(hn:i<all.length)(hal:all.length<=1000000000)(hp:ins[p]?=some false)(hv:Inv B out op dp)(hB:B<=1000000000):
 cZ (s,ins,all,op,ln,dp,(i:Int),out,())=
  cZ (s,ins,all,(cW aH.text (out,op,dp) ⟨(p:Int),w⟩).2.1,ln,(cW aH.text (out,op,dp) ⟨(p:Int),w⟩).2.2,((i+1:Nat):Int),(cW aH.text (out,op,dp) ⟨(p:Int),w⟩).1,()):=by
 obtain⟨k,out1,e,hk,hl,hr,hc⟩:=hv.opn
 have h0:=hv.d0
 have h1:=hv.d1
 have hol:=hv.len
 have hrow:out1[k]?=some (out1.getD k []):=by rw[Um,T8 hk];rfl
 have hrl:(out1.getD k []).length<=B:=hr _ (by rw[Um,T8 hk];exact Vk hk)
 have b1:(out1.getD k []).length+1<=4294967296:=by omega
 have b2:out.length+1<=4294967296:=by omega
 have b3:(0:Int)<=(k:Int)/\(k:Int)<(out1.length:Int):=by omega
 have hsl:((out1.map some).set k none).length=out1.length:=by simp
 have wd:i64.wrap (dp+1)=dp+1:=c6 (by omega) (by omega)
 have wd2:i64.wrap (dp-1)=dp-1:=c6 (by omega) (by omega)
 have x1:(TZ #[123])=oB:=rfl
 have x2:(TZ #[125])=cB:=rfl
 have x3:(TZ #[59])=sB:=rfl
 have hs:cW aH.text (out,op,dp) ⟨(p:Int),w⟩=(out1.set k (out1.getD k []++[⟨(p:Int),w⟩]),nxt w (k:Int) dp):=by
  unfold cW;simp only[e,TW];rfl
 have hop:((op<0)=True/\out++[[]]=out1/\i64.wrap ((out1.length:Int) -1)=(k:Int))\/(((k:Int)<0)=False/\op=(k:Int)/\out=out1):=by
  rcases hc with⟨a,b,c⟩|⟨a,b⟩
  ·refine .inl ⟨by rw[a];simp,b,?_⟩
   rw[<-b,Uc,T5]
   exact(c6 (by omega) (by omega)).trans (by omega)
  ·exact .inr ⟨by simp,a,b⟩
 rw[hs]
 conv=>lhs;rw[cZ]
 by_cases c1:w=oB
 ·have hx:nxt w (k:Int) dp=((k:Int),dp+1):=by rw[nxt,XG c1]
  rw[hx]
  rcases hop with⟨a,b,c⟩|⟨a,b,c⟩<;>simp only[a,b,c,TR,TU,T2,XC,XD,TT,T0,TW,TX,XH,XE,T3,hn,hi,hp,XI,XJ,and_self,b2,b3,hrow,T5,b1,hsl,ea _ _ hk,cY,x1,aI,c1,wd,aX (a:=i) (by omega)]
 ·by_cases c2:w=cB
  ·have hx:nxt w (k:Int) dp=((k:Int),max (dp-1) 0):=by rw[nxt,XF c1,XG c2]
   rw[hx]
   rcases hop with⟨a,b,c⟩|⟨a,b,c⟩<;>simp only[a,b,c,TR,TU,T2,XC,XD,TT,T0,TW,TX,XH,XE,T3,hn,hi,hp,XI,XJ,and_self,b2,b3,hrow,T5,b1,hsl,ea _ _ hk,cY,x1,x2,aI,c2,oc,wd2,aX (a:=i) (by omega)]
  ·by_cases c3:w=sB
   ·by_cases hd0:dp=0
    ·have hx:nxt w (k:Int) dp=(-1,dp):=by rw[nxt,XF c1,XF c2,XG c3,XG hd0]
     rw[hx]
     rcases hop with⟨a,b,c⟩|⟨a,b,c⟩<;>simp only[a,b,c,TR,TU,T2,XC,XD,TT,T0,TW,TX,XH,XE,T3,hn,hi,hp,XI,XJ,and_self,b2,b3,hrow,T5,b1,hsl,ea _ _ hk,cY,x1,x2,x3,aI,c3,so,sc,hd0,beq_self_eq_true,aX (a:=i) (by omega)]
    ·have hx:nxt w (k:Int) dp=((k:Int),dp):=by rw[nxt,XF c1,XF c2,XG c3,XF hd0]
     rw[hx]
     have hd1:(dp==0)=false:=beq_eq_false_iff_ne.2 hd0
     rcases hop with⟨a,b,c⟩|⟨a,b,c⟩<;>simp only[a,b,c,TR,TU,XC,XD,TT,TW,TX,T3,hn,hi,hp,XI,XJ,and_self,b2,b3,hrow,T5,b1,hsl,ea _ _ hk,cY,x1,x2,x3,aI,c3,so,sc,hd1,aX (a:=i) (by omega)]
   ·have hx:nxt w (k:Int) dp=((k:Int),dp):=by rw[nxt,XF c1,XF c2,XF c3]
    rw[hx]
    rcases hop with⟨a,b,c⟩|⟨a,b,c⟩<;>simp only[a,b,c,TR,TU,T2,XC,XD,TT,T0,TW,TX,XH,XE,T3,hn,hi,hp,XI,XJ,and_self,b2,b3,hrow,T5,b1,hsl,ea _ _ hk,cY,x1,x2,x3,aI,c1,c2,c3,aX (a:=i) (by omega)]
theorem Nj(c:UInt8):((c.toNat:Int)==10)=(c==10):=by
 have h10:(c.toNat=10)↔c=10:=⟨λh=>W_.1 h,λh=>by rw[h];rfl⟩
 by_cases h:c=10
 ·rw[h];rfl
 ·rw[beq_eq_false_iff_ne.2 h,beq_eq_false_iff_ne];intro e;exact h (h10.1 (by omega))
theorem Nq(s:ByteArray)(ins:List Bool)(all:List aH)(ln op dp:Int)(i:Nat)(p:Nat)(w:ByteArray)(out:List (List aH))
 (hi:all[i]?=some ⟨(p:Int),w⟩)(hn:i<all.length)(hal:all.length<=1000000000)(hp:ins[p]?=some true)(hps:p<=s.size)(hsz:s.size<=1000000000)(hst:p=0\/s.data.toList.getD (p-1) 0=10)(hol:out.length<=1000000000):
 cZ (s,ins,all,op,ln,dp,(i:Int),out,())=cZ (s,ins,all,op,(out.length:Int),dp,((i+1:Nat):Int),out++[[⟨(p:Int),w⟩]],()):=by
 have b2:out.length+1<=4294967296:=by omega
 have h01:(0+1<=4294967296)=True:=by simp
 have e1:i64.wrap (((out++[([]:List aH)]).length:Int) -1)=(out.length:Int):=by
  rw[Uc,T5];exact(c6 (by omega) (by omega)).trans (by omega)
 have hk:out.length<(out++[([]:List aH)]).length:=by simp
 have hrow:(out++[([]:List aH)])[out.length]?=some []:=by simp
 have b3:(0:Int)<=(out.length:Int)/\(out.length:Int)<((out++[([]:List aH)]).length:Int):=by omega
 have hsl:(((out++[([]:List aH)]).map some).set out.length none).length=(out++[([]:List aH)]).length:=by simp
 have hset:(out++[([]:List aH)]).set out.length [⟨(p:Int),w⟩]=out++[[⟨(p:Int),w⟩]]:=by
  rw[Wi _ _ (Up _),Xw];rfl
 conv=>lhs;rw[cZ]
 rcases Wt p with h0|h0
 ·have z:((p:Int)==0)=true:=by rw[h0];rfl
  simp only[z,XC,XD,TT,TR,TU,TW,TX,T3,hn,hi,hp,XI,e1,b2,b3,and_self,hrow,Uv,T5,h01,hsl,ea _ _ hk,cY,UK,hset,aX (a:=i) (by omega)]
 ·have z:((p:Int)==0)=false:=beq_eq_false_iff_ne.2 (by omega)
  have z1:i64.wrap ((p:Int) -1)=((p-1:Nat):Int):=(c6 (by omega) (by omega)).trans (by omega)
  have z2:s.data.toList.getD (p-1) 0=10:=by rcases hst with h|h;omega;exact h
  have z3:((((10:UInt8).toNat:Nat):Int)==10)=true:=rfl
  simp only[z,z1,bK (s:=s) (i:=p-1) (by omega),z2,z3,XC,XD,TT,TR,TU,TW,TX,T3,hn,hi,hp,XI,e1,b2,b3,and_self,hrow,Uv,T5,h01,hsl,ea _ _ hk,cY,UK,hset,aX (a:=i) (by omega)]
theorem Nr(s:ByteArray)(ins:List Bool)(all:List aH)(op dp:Int)(i:Nat)(p:Nat)(w:ByteArray)(out:List (List aH))(row:List aH)
 (hi:all[i]?=some ⟨(p:Int),w⟩)(hn:i<all.length)(hal:all.length<=1000000000)(hp:ins[p]?=some true)(hps:p<=s.size)(hsz:s.size<=1000000000)(h0:0<p)(hst:¬s.data.toList.getD (p-1) 0=10)(hol:out.length<=1000000000)(hrl:row.length<=1000000000):
 cZ (s,ins,all,op,(out.length:Int),dp,(i:Int),out++[row],())=cZ (s,ins,all,op,(out.length:Int),dp,((i+1:Nat):Int),out++[row++[⟨(p:Int),w⟩]],()):=by
 have hk:out.length<(out++[row]).length:=by simp
 have hrow:(out++[row])[out.length]?=some row:=by simp
 have b1:row.length+1<=4294967296:=by omega
 have b3:(0:Int)<=(out.length:Int)/\(out.length:Int)<((out++[row]).length:Int):=by omega
 have hsl:(((out++[row]).map some).set out.length none).length=(out++[row]).length:=by simp
 have hset:(out++[row]).set out.length (row++[⟨(p:Int),w⟩])=out++[row++[⟨(p:Int),w⟩]]:=by
  rw[Wi _ _ (Up _),Xw];rfl
 have z:((p:Int)==0)=false:=beq_eq_false_iff_ne.2 (by omega)
 have z1:i64.wrap ((p:Int) -1)=((p-1:Nat):Int):=(c6 (by omega) (by omega)).trans (by omega)
 have z3:((((s.data.toList.getD (p-1) 0).toNat:Nat):Int)==10)=false:=by rw[Nj];exact beq_eq_false_iff_ne.2 hst
 conv=>lhs;rw[cZ]
 simp only[z,z1,bK (s:=s) (i:=p-1) (by omega),z3,XC,XD,TT,TR,TU,TW,TX,T3,hn,hi,hp,XI,b1,b3,and_self,hrow,T5,hsl,ea _ _ hk,cY,hset,aX (a:=i) (by omega)]
theorem ww{α:Type}{xs:List α}{i:Nat}{x:α}{r:List α}(h:xs.drop i=x::r):xs[i]?=some x/\i<xs.length/\xs.drop (i+1)=r:=by
 have hlt:i<xs.length:=by
  rcases Xx i xs.length with h'|h'
  ·exact h'
  ·rw[Vt h']at h;cases h
 rw[Vw hlt]at h
 injection h with h1 h2
 exact⟨by rw[T8 hlt,h1],hlt,h2⟩
theorem Fl(s:ByteArray)(ins:List Bool)(all:List aH)(ln:Int)(hal:all.length<=1000000000):∀(ts:List (Nat×List UInt8)) (rest:List aH) (i:Nat) (out:List (List aH)) (op dp:Int) (B:Nat),
 all.drop i=(ts.map λp=>(⟨(p.1:Int),mkB p.2⟩:aH))++rest->(∀p∈ts,ins[p.1]?=some false)->Inv B out op dp->B+ts.length<=1000000000->
 cZ (s,ins,all,op,ln,dp,(i:Int),out,())=
  cZ (s,ins,all,((ts.map λp=>(⟨(p.1:Int),mkB p.2⟩:aH)).foldl (cW aH.text) (out,op,dp)).2.1,ln,((ts.map λp=>(⟨(p.1:Int),mkB p.2⟩:aH)).foldl (cW aH.text) (out,op,dp)).2.2,((i+ts.length:Nat):Int),((ts.map λp=>(⟨(p.1:Int),mkB p.2⟩:aH)).foldl (cW aH.text) (out,op,dp)).1,())
  /\all.drop (i+ts.length)=rest
 |[],rest,i,out,op,dp,B,hd,hp,hv,hB=>⟨rfl,hd⟩
 |(p,l)::r,rest,i,out,op,dp,B,hd,hp,hv,hB=>by
  rw[Ud,Uo]at hd
  obtain⟨h1,h2,h3⟩:=ww hd
  rw[Ue]at hB
  have hs:=Ns s ins all ln i p (mkB l) out op dp B h1 h2 hal (hp (p,l) T_) hv (by omega)
  obtain⟨k1,k2⟩:=Fl s ins all ln hal r rest (i+1) _ _ _ (B+1) h3 (λq hq=>hp q (T6 _ hq)) (hv.step (f:=aH.text) ⟨(p:Int),mkB l⟩) (by omega)
  rw[hs,Ud,Va,Ue,show i+(r.length+1)=i+1+r.length by omega]
  exact⟨k1,k2⟩
theorem Fk(s:ByteArray)(ins:List Bool)(all:List aH)(op dp:Int)(hal:all.length<=1000000000)(hsz:s.size<=1000000000)(out:List (List aH))(hol:out.length<=1000000000):∀(ts:List (Nat×List UInt8)) (rest:List aH) (i:Nat) (row:List aH),
 all.drop i=(ts.map λp=>(⟨(p.1:Int),mkB p.2⟩:aH))++rest->(∀p∈ts,ins[p.1]?=some true/\p.1<=s.size/\0<p.1/\¬s.data.toList.getD (p.1-1) 0=10)->row.length+ts.length<=1000000000->
 cZ (s,ins,all,op,(out.length:Int),dp,(i:Int),out++[row],())=
  cZ (s,ins,all,op,(out.length:Int),dp,((i+ts.length:Nat):Int),out++[row++(ts.map λp=>(⟨(p.1:Int),mkB p.2⟩:aH))],())
  /\all.drop (i+ts.length)=rest
 |[],rest,i,row,hd,hp,hB=>⟨by rw[UL,UZ];rfl,hd⟩
 |(p,l)::r,rest,i,row,hd,hp,hB=>by
  rw[Ud,Uo]at hd
  obtain⟨h1,h2,h3⟩:=ww hd
  rw[Ue]at hB
  obtain⟨q1,q2,q3,q4⟩:=hp (p,l) T_
  have hs:=Nr s ins all op dp i p (mkB l) out row h1 h2 hal q1 q2 hsz q3 q4 hol (by omega)
  obtain⟨k1,k2⟩:=Fk s ins all op dp hal hsz out hol r rest (i+1) (row++[⟨(p:Int),mkB l⟩]) h3 (λq hq=>hp q (T6 _ hq)) (by rw[Uc,T5];omega)
  rw[hs,Ud,Ue,show i+(r.length+1)=i+1+r.length by omega]
  rw[UO]at k1
  exact⟨k1,k2⟩
def txt(out:List (List aH)):List (List ByteArray):=out.map λr=>r.map aH.text
theorem K9{α β:Type}(g:α->β)(out:List (List α))(op:Int):opn (out.map λr=>r.map g) op=((opn out op).1.map (λr=>r.map g),(opn out op).2):=by
 unfold opn;split<;>simp
theorem JI{α β:Type}(g:α->β)(out:List (List α))(k:Nat)(t:α):add (out.map λr=>r.map g) k (g t)=(add out k t).map λr=>r.map g:=by
 unfold add
 rw[V9,UV,Wv]
 congr 2
 rw[Um,Um,Ua]
 cases out[k]?<;>rfl
theorem vK:∀(ts:List aH) (out:List (List aH)) (op dp:Int),
 (ts.map aH.text).foldl (cW id) (txt out,op,dp)=(txt (ts.foldl (cW aH.text) (out,op,dp)).1,(ts.foldl (cW aH.text) (out,op,dp)).2)
 |[],out,op,dp=>rfl
 |t::r,out,op,dp=>by
  have:cW id (txt out,op,dp) t.text=(txt (cW aH.text (out,op,dp) t).1,(cW aH.text (out,op,dp) t).2):=by
   unfold cW txt
   simp only[K9,JI,id]
  rw[Ud,Va,Va,this]
  exact vK r _ _ _
theorem LY(o:Nat)(l:List UInt8):(T o l).map aH.text=qZ l:=by
 unfold T qZ
 rw[UC]
 have:=nc _ l o 0 (Up _)
 have h2:=congrArg (VC mkB) this
 rw[UC,UC]at h2
 exact h2
theorem uy:∀(a:List UInt8) (b:Bool),10∉a->nY b false a=UX a.length b
 |[],b,_=>rfl
 |c::r,b,h=>by
  have h1:(c==10)=false:=beq_eq_false_iff_ne.2 λe=>h (by rw[e];exact T_)
  rw[nY,h1,uy r _ λe=>h (T6 _ e)];rfl
theorem ux(a:List UInt8)(b:Bool)(h:10∉a)(hne:a≠[]):nY b true a=UX a.length (hsh a):=by
 cases a with
 |nil=>exact(hne rfl).elim
 |cons c r=>
  have h1:(c==10)=false:=beq_eq_false_iff_ne.2 λe=>h (by rw[e];exact T_)
  rw[nY,h1,uy r _ λe=>h (T6 _ e)];rfl
theorem Dv:∀(a r:List UInt8) (b st:Bool),10∉a->∃b' x,nY b st (a++10::r)=nY b st a++x::nY b' true r
 |[],r,b,st,_=>⟨_,_,rfl⟩
 |c::a,r,b,st,h=>by
  have h1:(c==10)=false:=beq_eq_false_iff_ne.2 λe=>h (by rw[e];exact T_)
  obtain⟨b',x,e⟩:=Dv a r (if st then c==35 else b) false λe=>h (T6 _ e)
  refine⟨b',x,?_⟩
  rw[Uo,nY,h1,e,nY,h1];rfl
theorem Hb{a:List UInt8}(h:hsh a=true):∃r,a=35::r:=by
 cases a with
 |nil=>cases h
 |cons c r=>exact⟨r,by rw[eq_of_beq h]⟩
theorem Jq(s:ByteArray)(hsz:s.size<=400000000)(ins:List Bool)(all:List aH)(hal:all.length<=1000000000)(ln op dp:Int)(i:Nat)(out:List (List aH))(B:Nat)(a:List UInt8)(o:Nat)(rest:List aH)
 (hnl:10∉a)(hseg:∀k,k<a.length->s.data.toList.getD (o+k) 0=a.getD k 0)(hosz:o+a.length<=s.size)(hst:o=0\/s.data.toList.getD (o-1) 0=10)
 (hins:∀k,k<a.length->ins[o+k]?=some (hsh a))(hd:all.drop i=T o a++rest)(hv:Inv B out op dp)(hB:B+(a.length+1)<=900000000):
 ∃(ln' op' dp':Int) (i':Nat) (out':List (List aH)),cZ (s,ins,all,op,ln,dp,(i:Int),out,())=cZ (s,ins,all,op',ln',dp',(i':Int),out',())/\all.drop i'=rest/\
  (txt out',op',dp')=aZ (txt out,op,dp) a/\Inv (B+(a.length+1)) out' op' dp':=by
 have htl:=jT _ a o (Up _)
 have hat:=tH _ a o (Up _)
 cases hh:hsh a with
 |false=>
  obtain⟨k1,k2⟩:=Fl s ins all ln hal (lz o a) rest i out op dp B hd (λp hp=>by
   have:=hat p hp
   have h2:=hins (p.1-o) (by omega)
   rw[show o+(p.1-o)=p.1 by omega,hh]at h2;exact h2) hv (by omega)
  refine⟨_,_,_,_,_,k1,k2,?_,((hv.steps (f:=aH.text) (T o a)).mono (by unfold T;rw[Ub];omega))⟩
  rw[aZ,XF (by rw[hh];exact Ul),<-LY o a,vK];rfl
 |true=>
  obtain⟨r,rfl⟩:=Hb hh
  rw[T,vN,Ud,Uo]at hd
  obtain⟨q1,q2,q3⟩:=ww hd
  have hlen:(35::r).length=r.length+1:=rfl
  have hin0:=hins 0 (by omega)
  rw[hh,UE]at hin0
  have hol:=hv.len
  have e1:=Nq s ins all ln op dp i o (mkB [35]) out q1 q2 hal hin0 (by omega) (by omega) hst (by omega)
  have hat2:=tH _ r (o+1) (Up _)
  have htl2:=jT _ r (o+1) (Up _)
  obtain⟨k1,k2⟩:=Fk s ins all op dp hal (by omega) out (by omega) (lz (o+1) r) rest (i+1) [⟨(o:Int),mkB [35]⟩] q3 (λp hp=>by
   have hp':=hat2 p hp
   have h2:=hins (p.1-o) (by omega)
   rw[show o+(p.1-o)=p.1 by omega,hh]at h2
   refine⟨h2,by omega,by omega,?_⟩
   have h3:=hseg (p.1-1-o) (by omega)
   rw[show o+(p.1-1-o)=p.1-1 by omega]at h3
   rw[h3]
   intro h4
   refine hnl ?_
   rw[<-h4]
   have h5:p.1-1-o<(35::r).length:=by omega
   rw[Um,T8 h5]
   exact Vk h5) (by simp only[T5];omega)
  refine⟨_,_,_,_,_,e1.trans k1,k2,?_,hv.hash _ _ ?_ (by omega)⟩
  ·rw[aZ,XG hh,<-LY o (35::r),T,vN]
   unfold txt
   rw[UV];rfl
  ·rw[Uc,T5,Ub];omega
theorem Ld(s:ByteArray)(hsz:s.size<=400000000)(ins:List Bool)(all:List aH)(hal:all.length<=1000000000):∀(n:Nat) (l:List UInt8),l.length<=n->∀(b:Bool) (o i:Nat) (ln op dp:Int) (out:List (List aH)) (B:Nat),
 s.data.toList.drop o=l->o+l.length=s.size->(o=0\/s.data.toList.getD (o-1) 0=10)->ins.drop o=nY b true l->all.drop i=T o l->Inv B out op dp->B+CN (lines l)<=900000000->
 ∃out',cZ (s,ins,all,op,ln,dp,(i:Int),out,())=some (out',())/\txt out'=((lines l).foldl aZ (txt out,op,dp)).1:=by
 intro n l hn
 refine lQ (M:=λl=>∀(b:Bool) (o i:Nat) (ln op dp:Int) (out:List (List aH)) (B:Nat),
  s.data.toList.drop o=l->o+l.length=s.size->(o=0\/s.data.toList.getD (o-1) 0=10)->ins.drop o=nY b true l->all.drop i=T o l->Inv B out op dp->B+CN (lines l)<=900000000->
  ∃out',cZ (s,ins,all,op,ln,dp,(i:Int),out,())=some (out',())/\txt out'=((lines l).foldl aZ (txt out,op,dp)).1) ?_ ?_ n l hn
 ·intro a ha b o i ln op dp out B hs ho hst hins hall hv hB
  rw[jI ha,fW]at hB
  obtain⟨ln',op',dp',i',out',e1,e2,e3,e4⟩:=Jq s hsz ins all hal ln op dp i out B a o [] ha (λk hk=>by
   rw[<-hs,Um,Um,UT]) (by omega) hst (λk hk=>by
   rw[ux a b ha (by intro e;rw[e]at hk;cases hk)]at hins
   have:(ins.drop o)[k]?=some (hsh a):=by rw[hins,V_,XG hk]
   rw[UT]at this;exact this) (by rw[hall,UZ]) hv (by have:CN []=0:=rfl;omega)
  refine⟨out',?_,?_⟩
  ·rw[e1,cZ]
   have hge:¬i'<all.length:=by
    intro h
    rw[Vw h]at e2;cases e2
   simp only[TR,TU,T2,XC,XD,TT,T0,TW,TX,XH,XE,T3,hge,XJ]
  ·rw[jI ha,Va,Wy,<-e3]
 ·intro a r ha ih b o i ln op dp out B hs ho hst hins hall hv hB
  rw[gF ha,fW]at hB
  rw[Uc,Ue]at ho
  obtain⟨b',x,hdr⟩:=Dv a r b true ha
  rw[hdr]at hins
  have hT:T o (a++10::r)=T o a++T (o+a.length+1) r:=by unfold T;rw[tG _ a r o (Up _),UV]
  rw[hT]at hall
  have hdl:=zd b true a
  obtain⟨ln',op',dp',i',out',e1,e2,e3,e4⟩:=Jq s hsz ins all hal ln op dp i out B a o _ ha (λk hk=>by
   have:(s.data.toList.drop o)[k]?=a[k]?:=by rw[hs,Uu hk]
   rw[Um,Um,<-this,UT]) (by omega) hst (λk hk=>by
   have:(ins.drop o)[k]?=some (hsh a):=by
    rw[hins,Uu (by omega),ux a b ha (by intro e;rw[e]at hk;cases hk),V_,XG hk]
   rw[UT]at this;exact this) hall hv (by omega)
  have hdr1:s.data.toList.drop (o+a.length+1)=r:=by
   have:(s.data.toList.drop o).drop (a.length+1)=(a++10::r).drop (a.length+1):=by rw[hs]
   rw[VU]at this
   rw[Vf,this,W6,Vt (by omega)];simp
  have hnl:s.data.toList.getD (o+a.length+1-1) 0=10:=by
   have:(s.data.toList.drop o)[a.length]?=some 10:=by rw[hs,Ut (Up _),Xw];rfl
   rw[UT]at this
   rw[WR,Um,this];rfl
  have hins2:ins.drop (o+a.length+1)=nY b' true r:=by
   have:(ins.drop o).drop (a.length+1)=(nY b true a++x::nY b' true r).drop (a.length+1):=by rw[hins]
   rw[VU]at this
   rw[Vf,this,W6,Vt (by omega),hdl];simp
  obtain⟨out2,f1,f2⟩:=ih b' (o+a.length+1) i' ln' op' dp' out' _ hdr1 (by omega) (.inr hnl) hins2 e2 e4 (by omega)
  refine⟨out2,by rw[e1,f1],?_⟩
  rw[f2,gF ha,Va,<-e3]
theorem f49(s:ByteArray)(hs:s.size<=400000000):∃P,Nf (s,())=some (P,())/\txt P=aP s.data.toList:=by
 have htl:=jT _ s.data.toList 0 (Up _)
 rw[bR]at htl
 obtain⟨P,h1,h2⟩:=Ld s hs (nY false true s.data.toList) (T 0 s.data.toList) (by unfold T;rw[Ub];omega) _ s.data.toList (Up _) false 0 0 (-1) (-1) 0 [] 0
  rfl (by rw[UG,bR]) (.inl rfl) rfl rfl Inv.zero (by rw[jV,bR];omega)
 refine⟨P,?_,h2⟩
 have h1:cZ (s,nY false true s.data.toList,T 0 s.data.toList,-1,-1,0,0,[],())=some (P,()):=h1
 rw[Nf]
 simp only[f85 s (by omega),f53 s (by omega),TR,TU,T2,XC,XD,TT,T0,TW,TX,XH,XE,T3,h1]
theorem Sn(ts:List aH)(hl:ts.length<=1000000000):∀(m j:Nat),ts.length-j=m->j<=ts.length->ml (ts,(j:Int),(ts.map aH.text).take j,())=some (ts.map aH.text,()):=by
 intro m
 induction m with
 |zero=>
  intro j hm hj
  have hlt:¬j<ts.length:=by omega
  rw[ml]
  simp only[TR,TU,T2,XC,XD,TT,T0,TW,TX,XH,XE,T3,hlt,XJ]
  rw[UU (by rw[Ub];omega)]
 |succ m ih=>
  intro j hm hj
  have hlt:j<ts.length:=by omega
  obtain⟨t,hp,hpm,hd,g1,g2⟩:=dW hlt
  have h:=ih (j+1) (by omega) (by omega)
  have ht:(ts.map aH.text).take (j+1)=(ts.map aH.text).take j++[t.text]:=by
   rw[V2,Ua,hp];rfl
  rw[ht]at h
  have hlen:((ts.map aH.text).take j).length+1<=4294967296:=by rw[UY,Ub];omega
  rw[ml]
  simp only[TR,TU,T2,XC,XD,TT,T0,TW,TX,XH,XE,T3,hlt,XI,g1,hp,T5,hlen,aX (a:=j) (by omega),h]
theorem f51(ts:List aH)(hl:ts.length<=1000000000):Nh (ts,())=some (ts.map aH.text,()):=by
 have h:=Sn ts hl _ 0 rfl (by omega)
 have h:ml (ts,0,[],())=some (ts.map aH.text,()):=h
 rw[Nh]
 simp only[h,TR,TU,T2,XC,XD,TT,T0,TW,TX,XH,XE,T3]
end Go.Proofs.YtpelkenpapfadaaGreatDoor
end
section
namespace Go.Proofs.YtpelkenpapfadaaGreatDoor
open Go.Tx
set_option maxRecDepth 20000
open Go.Lib
abbrev BA:=ByteArray
def e0:BA:=TZ #[]
def Ps(α:Type):=List BA->Option (α×List BA)
def ret{α:Type}(a:α):Ps α:=λl=>some (a,l)
def bnd{α β:Type}(p:Ps α)(q:α->Ps β):Ps β:=λl=>match p l with
 |none=>none
 |some (a,r)=>q a r
def nay(b:Bool):Ps Unit:=λl=>if b=true then none else some ((),l)
structure Sim {α:Type} (p:Ps α) (l:List BA) (w:Bool) (a:α) (l':List BA) (w':Bool):Prop where
 suf:l'<:+l
 bad:w=true->w'=true
 ok:w=false->∀b r,p l=some (b,r)->w'=false/\a=b/\l'=r
 no:w=false->p l=none->w'=true
theorem Sim.bnd{α β:Type}{p:Ps α}{q:α->Ps β}{l l1 l2:List BA}{w w1 w2:Bool}{a:α}{c:β}(h1:Sim p l w a l1 w1)(h2:Sim (q a) l1 w1 c l2 w2):Sim (bnd p q) l w c l2 w2:=by
 refine⟨h2.suf.trans h1.suf,λhw=>h2.bad (h1.bad hw),λhw b r hb=> ?_,λhw hb=> ?_⟩
 ·unfold Proofs.YtpelkenpapfadaaGreatDoor.bnd at hb
  cases hp:p l with
  |none=>rw[hp]at hb;cases hb
  |some x=>
   obtain⟨x1,x2⟩:=x
   rw[hp]at hb
   obtain⟨rfl,rfl,rfl⟩:=h1.ok hw _ _ hp
   exact h2.ok rfl b r hb
 ·unfold Proofs.YtpelkenpapfadaaGreatDoor.bnd at hb
  cases hp:p l with
  |none=>exact h2.bad (h1.no hw hp)
  |some x=>
   obtain⟨x1,x2⟩:=x
   rw[hp]at hb
   obtain⟨rfl,rfl,rfl⟩:=h1.ok hw _ _ hp
   exact h2.no rfl hb
theorem Sim.ret{α:Type}(a:α)(l:List BA)(w:Bool):Sim (ret a) l w a l w:=by
 refine⟨Ur l,id,λhw b r hb=> ?_,λhw hb=>by cases hb⟩
 cases hb;exact⟨hw,rfl,rfl⟩
theorem Sim.nay(b:Bool)(l:List BA)(w:Bool):Sim (nay b) l w () l (w||b):=by
 refine⟨Ur l,λh=>by rw[h];rfl,λhw x r hb=> ?_,λhw hb=> ?_⟩
 ·unfold Proofs.YtpelkenpapfadaaGreatDoor.nay at hb
  cases b with
  |true=>cases hb
  |false=>cases hb;exact⟨by rw[hw];rfl,rfl,rfl⟩
 ·unfold Proofs.YtpelkenpapfadaaGreatDoor.nay at hb
  cases b with
  |true=>cases w<;>rfl
  |false=>cases hb
theorem Sim.any{α:Type}{p:Ps α}{l l':List BA}(a:α)(h:l'<:+l):Sim p l true a l' true:=⟨h,λ_=>rfl,λh=>(by cases h),λh=>(by cases h)⟩
theorem Sim.wrong{α:Type}{p:Ps α}{l l':List BA}{w:Bool}(a:α)(h:l'<:+l)(hn:p l=none):Sim p l w a l' true:=⟨h,λ_=>rfl,λ_ b r hb=>(by rw[hn]at hb;cases hb),λ_ _=>rfl⟩
theorem Sim.len{α:Type}{p:Ps α}{l l1:List BA}{w w1:Bool}{a:α}(h:Sim p l w a l1 w1):l1.length<=l.length:=h.suf.length_le
theorem Sim.congr{α:Type}{p p':Ps α}{l l1:List BA}{w w1:Bool}{a:α}(h:Sim p l w a l1 w1)(e:p' l=p l):Sim p' l w a l1 w1:=⟨h.suf,h.bad,λhw b r hb=>h.ok hw b r (by rw[<-e];exact hb),λhw hb=>h.no hw (by rw[<-e];exact hb)⟩
def tO(l:List BA):Prop:=∀t∈l,qy t/\t.size<=1000000000
theorem tO.suf{l l':List BA}(h:tO l)(hs:l'<:+l):tO l':=λt ht=>h t (hs.subset ht)
def dB(w:BA):List BA->Bool
 |[]=>false
 |s::_=>decide (s=w)
def tm:Ps BA
 |[]=>none
 |s::r=>if s=e0 then none else some (s,r)
def vu(w:BA):Ps Bool:=λl=>some (dB w l,if dB w l=true then l.tail else l)
def pQ(w:BA):Ps Unit:=λl=>if dB w l=true then some ((),l.tail)else none
def cu:List BA->Ps Unit
 |[]=>ret ()
 |w::r=>bnd (pQ w) λ_=>cu r
theorem jF{w:BA}{l:List BA}(h:dB w l=true):∃r,l=w::r:=by
 cases l with
 |nil=>cases h
 |cons s r=>exact⟨r,by rw[of_decide_eq_true h]⟩
theorem dm{α A B:Type}(F:Nat->Option (A⊕B))(xs:List α)(pred:α->Bool)(hit:Nat->A)(e:B)
 (h1:∀j x,j<xs.length->xs[j]?=some x->F j=if pred x=true then some (.inl (hit j))else F (j+1))(h2:F xs.length=some (.inr e)):
 F 0=some (match xs.findIdx? pred with|some k=> .inl (hit k)|none=> .inr e):=by
 have go:∀(m j:Nat),xs.length-j=m->j<=xs.length->F j=some (match(xs.drop j).findIdx? pred with|some k=> .inl (hit (j+k))|none=> .inr e):=by
  intro m
  induction m with
  |zero=>
   intro j hm hj
   have:j=xs.length:=by omega
   rw[this,h2,List.drop_length];rfl
  |succ m ih=>
   intro j hm hj
   have hlt:j<xs.length:=by omega
   rw[h1 j _ hlt (T8 hlt),Vw hlt,List.findIdx?_cons]
   cases hp:pred xs[j]with
   |true=>simp
   |false=>
    rw[XF Ul,ih (j+1) (by omega) (by omega)]
    cases (xs.drop (j+1)).findIdx? pred with
    |none=>simp
    |some k=>simp only[TT,XD,Uw];congr 3;omega
 have:=go _ 0 rfl (Vs _)
 rw[UJ]at this
 rw[this]
 cases xs.findIdx? pred with
 |none=>rfl
 |some k=>simp
def ly{α:Type}(xs:List α)(pred:α->Bool):Int:=match xs.findIdx? pred with|some k=>(k:Int)|none=> -1
theorem eP{α:Type}(xs:List α)(pred:α->Bool):decide (ly xs pred>=0)=xs.any pred:=by
 unfold ly
 cases h:xs.findIdx? pred with
 |none=>
  rw[List.findIdx?_eq_none_iff]at h
  have:xs.any pred=false:=by rw[WY];intro x hx;rw[h x hx];exact Ul
  rw[this];rfl
 |some k=>
  have hs:(xs.findIdx? pred).isSome=true:=by rw[h];rfl
  rw[List.findIdx?_isSome]at hs
  rw[hs];simp
def kn(k:Int)(name:BA)(x:Item):Bool:=x.kind==k&&decide (x.name0=name)
def eJ(it:List Item)(k:Int)(name:BA):Bool:=it.any (kn k name)
def z0:aa:=aa.mk 0 0 false []
def zI:Item:=Item.mk 0 e0 0 [] z0
def fG(it:List Item)(k:Int)(name:BA):Item:=(it.find? (kn k name)).getD zI
def inE(name:BA)(x:Item):Bool:=x.kind==1&&x.names.any λs=>decide (name=s)
def gj(it:List Item)(name:BA):Bool:=eJ it 0 name||it.any (inE name)
theorem M3(k:Int)(name:BA)(x:Item):(if(x.kind==k)=true then some ((x.name0.toList==name.toList,k,name,()):Bool×Int×BA×Unit)else some (false,k,name,()))=some (kn k name x,k,name,()):=by
 unfold kn
 cases (x.kind==k)with
 |true=>simp[aI]
 |false=>simp
theorem Sg(x:Item)(k:Int)(name:BA):jM (x,k,name,())=some (kn k name x,k,name,()):=by
 have h:=M3 k name x
 rw[jM]
 simp only[h,TR,TU]
theorem f84(x:Item)(k:Int)(name:BA):jk (x,k,name,())=some (kn k name x,k,name,()):=by
 have h:=M3 k name x
 rw[jk]
 simp only[h,TR,TU]
theorem So(it:List Item)(hl:it.length<=1000000000)(k:Int)(name:BA):mr (it,k,name,())=some (ly it (kn k name),it,k,name,()):=by
 have h:=dm (λj=>cL ((it.length:Int),(j:Int),it,k,name,())) it (kn k name) (λj=>((j:Int),it,k,name,())) (it,k,name,()) (λj x hj hx=>by
  have g:(0:Int)<=(j:Int)/\(j:Int)<(it.length:Int):=by omega
  rw[cL]
  simp only[TR,TU,T2,XC,XD,TT,T0,TW,TX,XH,XE,T3,hj,g,and_self,XI,hx,Sg,aX (a:=j) (by omega)]) (by
  rw[cL]
  simp only[TR,TU,T2,XC,XD,TT,T0,TW,TX,XH,XE,T3,Vy,XJ])
 have h:cL ((it.length:Int),0,it,k,name,())=_:=h
 rw[mr]
 simp only[h,TR,TU,T2,XC,XD,TT,T0,TW,TX,XH,XE,T3,ly]
 cases it.findIdx? (kn k name)<;>rfl
theorem Sp(it:List Item)(hl:it.length<=1000000000)(k:Int)(name:BA):mq (it,k,name,())=some (ly it (kn k name),it,k,name,()):=by
 have h:=dm (λj=>cK ((it.length:Int),(j:Int),it,k,name,())) it (kn k name) (λj=>((j:Int),it,k,name,())) (it,k,name,()) (λj x hj hx=>by
  have g:(0:Int)<=(j:Int)/\(j:Int)<(it.length:Int):=by omega
  rw[cK]
  simp only[TR,TU,T2,XC,XD,TT,T0,TW,TX,XH,XE,T3,hj,g,and_self,XI,hx,f84,aX (a:=j) (by omega)]) (by
  rw[cK]
  simp only[TR,TU,T2,XC,XD,TT,T0,TW,TX,XH,XE,T3,Vy,XJ])
 have h:cK ((it.length:Int),0,it,k,name,())=_:=h
 rw[mq]
 simp only[h,TR,TU,T2,XC,XD,TT,T0,TW,TX,XH,XE,T3,ly]
 cases it.findIdx? (kn k name)<;>rfl
theorem Kd(k:Int)(name:BA)(it:List Item)(hl:it.length<=1000000000):dt (k,name,it,())=some (eJ it k name,it,()):=by
 rw[dt,mY]
 simp only[So it hl,TR,TU,T2,XC,XD,TT,T0,TW,TX,XH,XE,T3,eP];rfl
theorem g9{α:Type}{xs:List α}{pred:α->Bool}:xs.find? pred=(xs.findIdx? pred).bind λi=>xs[i]?:=by
 induction xs with
 |nil=>rfl
 |cons x r ih=>
  rw[List.find?_cons,List.findIdx?_cons]
  cases pred x with
  |true=>rfl
  |false=>
   simp only[TT,XD,ih]
   cases r.findIdx? pred<;>rfl
theorem f47(k:Int)(name:BA)(it:List Item)(hl:it.length<=1000000000):mh (k,name,it,())=some (eJ it k name,it,fG it k name,()):=by
 rw[mh]
 simp only[Sp it hl,TR,TU,T2,XC,XD,TT,T0,TW,TX,XH,XE,T3]
 unfold eJ fG
 rw[<-eP,g9]
 unfold ly
 cases h:it.findIdx? (kn k name)with
 |none=>rfl
 |some i=>
  have hi:i<it.length:=(VJ.1 h).1
  have c1:¬((i:Int)<0):=by omega
  have c2:(0:Int)<=(i:Int)/\(i:Int)<(it.length:Int):=by omega
  have c3:(i:Int)>=0:=by omega
  simp only[c1,c2,c3,XJ,XI,XC,and_self,TW,T8 hi,TU,Vr,TT,XD]
theorem f44(l:List BA)(hl:l.length<=1000000000)(name:BA):KF (l,name,())=some (ly l (λs=>decide (name=s)),()):=by
 have h:=dm (λj=>mg (l,name,(l.length:Int),(j:Int),())) l (λs=>decide (name=s)) (λj=>((j:Int),())) () (λj x hj hx=>by
  rw[mg]
  simp only[TR,TU,T2,XC,XD,TT,T0,TW,TX,XH,XE,T3,hj,XI,hx,aI,aX (a:=j) (by omega)]) (by
  rw[mg]
  simp only[TR,TU,T2,XC,XD,TT,T0,TW,TX,XH,XE,T3,Vy,XJ])
 have h:mg (l,name,(l.length:Int),0,())=_:=h
 rw[KF]
 simp only[h,TR,TU,T2,XC,XD,TT,T0,TW,TX,XH,XE,T3,ly]
 cases l.findIdx? _<;>rfl
theorem RK(l:List BA)(hl:l.length<=1000000000)(name:BA):Eo (l,name,())=some (l.any (λs=>decide (name=s)),()):=by
 rw[Eo]
 simp only[f44 l hl,TR,TU,T2,XC,XD,TT,T0,TW,TX,XH,XE,T3,eP]
def iQ(it:List Item):Prop:=∀x∈it,x.names.length<=1000000000
theorem Sf(x:Item)(hx:x.names.length<=1000000000)(name:BA):jL (x,name,())=some (inE name x,name,()):=by
 rw[jL]
 unfold inE
 cases (x.kind==1)with
 |true=>simp[RK _ hx]
 |false=>simp
theorem Sq(it:List Item)(hl:it.length<=1000000000)(hn:iQ it)(name:BA):mu (it,name,())=some (ly it (inE name),it,name,()):=by
 have h:=dm (λj=>cM ((it.length:Int),(j:Int),it,name,())) it (inE name) (λj=>((j:Int),it,name,())) (it,name,()) (λj x hj hx=>by
  have g:(0:Int)<=(j:Int)/\(j:Int)<(it.length:Int):=by omega
  rw[cM]
  simp only[TR,TU,T2,XC,XD,TT,T0,TW,TX,XH,XE,T3,hj,g,and_self,XI,hx,Sf x (hn x (Ui hx)),aX (a:=j) (by omega)]) (by
  rw[cM]
  simp only[TR,TU,T2,XC,XD,TT,T0,TW,TX,XH,XE,T3,Vy,XJ])
 have h:cM ((it.length:Int),0,it,name,())=_:=h
 rw[mu]
 simp only[h,TR,TU,T2,XC,XD,TT,T0,TW,TX,XH,XE,T3,ly]
 cases it.findIdx? (inE name)<;>rfl
theorem Pz(it:List Item)(hl:it.length<=1000000000)(hn:iQ it)(name:BA):jK (it,name,())=some (it.any (inE name),it,name,()):=by
 rw[jK]
 simp only[Sq it hl hn,TR,TU,T2,XC,XD,TT,T0,TW,TX,XH,XE,T3,eP]
theorem RI(name:BA)(it:List Item)(hl:it.length<=1000000000)(hn:iQ it):gQ (name,it,())=some (gj it name,it,()):=by
 rw[gQ]
 unfold gj
 cases hh:eJ it 0 name with
 |true=>simp only[Kd _ _ _ hl,hh,TR,TU,T2,XC,XD,TT,T0,TW,TX,XH,XE,T3,UD]
 |false=>simp only[Kd _ _ _ hl,hh,Pz it hl hn,TR,TU,T2,XC,XD,TT,T0,TW,TX,XH,XE,T3,Ux]
def gW(it:List Item)(l:List BA):Bool:=l.any (gj it)
theorem Se(l:List BA)(hll:l.length<=1000000000)(it:List Item)(hl:it.length<=1000000000)(hn:iQ it):jJ (l,it,())=some (gW it l,l,it,()):=by
 have h:=dm (λj=>cd ((l.length:Int),(j:Int),l,it,())) l (gj it) (λj=>((j:Int),l,it,())) (l,it,()) (λj x hj hx=>by
  have g:(0:Int)<=(j:Int)/\(j:Int)<(l.length:Int):=by omega
  rw[cd]
  simp only[TR,TU,T2,XC,XD,TT,T0,TW,TX,XH,XE,T3,hj,g,and_self,XI,hx,RI x it hl hn,aX (a:=j) (by omega)]) (by
  rw[cd]
  simp only[TR,TU,T2,XC,XD,TT,T0,TW,TX,XH,XE,T3,Vy,XJ])
 have h:cd ((l.length:Int),0,l,it,())=_:=h
 have h2:jN (l,it,())=some (ly l (gj it),l,it,()):=by
  rw[jN]
  simp only[h,TR,TU,T2,XC,XD,TT,T0,TW,TX,XH,XE,T3,ly]
  cases l.findIdx? (gj it)<;>rfl
 rw[jJ]
 simp only[h2,TR,TU,T2,XC,XD,TT,T0,TW,TX,XH,XE,T3,eP];rfl
def GK(l:List BA):Nat->Nat->Bool
 |_,0=>false
 |j,m+1=>(l.take j).any (λs=>decide (l.getD j e0=s))||GK l (j+1) m
def jA(l:List BA):Bool:=GK l 0 l.length
theorem xC{l:List BA}{j:Nat}(h:j<l.length):l[j]?=some (l.getD j e0):=by
 rw[Um,T8 h];rfl
theorem f160(l:List BA)(hl:l.length<=1000000000):xT (l,())=some (!jA l,()):=by
 have go:∀(m j:Nat),l.length-j=m->j<=l.length->im (l,l,(l.length:Int),(j:Int),())=some (if GK l j m=true then .inl (false,())else .inr ()):=by
  intro m
  induction m with
  |zero=>
   intro j hm hj
   have hlt:¬j<l.length:=by omega
   rw[im]
   simp only[TR,TU,T2,XC,XD,TT,T0,TW,TX,XH,XE,T3,hlt,XJ,GK]
  |succ m ih=>
   intro j hm hj
   have hlt:j<l.length:=by omega
   have g:(0:Int)<=0/\(0:Int)<=(j:Int)/\(j:Int)<=(l.length:Int):=by omega
   have ht:(l.take j).length<=1000000000:=by rw[UY];omega
   rw[im,GK]
   simp only[TR,TU,T2,XC,XD,TT,T0,TW,TX,XH,XE,T3,hlt,XI,g,and_self,xC hlt,RK _ ht,aX (a:=j) (by omega),ih (j+1) (by omega) (by omega)]
   cases (l.take j).any (λs=>decide (l.getD j e0=s))<;>simp
 have h:=go _ 0 rfl (Vs _)
 have h:im (l,l,(l.length:Int),0,())=some (if GK l 0 l.length=true then .inl (false,())else .inr ()):=h
 rw[xT]
 simp only[h,TR,TU,T2,XC,XD,TT,T0,TW,TX,XH,XE,T3,jA]
 cases GK l 0 l.length<;>rfl
end Go.Proofs.YtpelkenpapfadaaGreatDoor
end
section
namespace Go.Proofs.YtpelkenpapfadaaGreatDoor
open Go.Tx
set_option maxRecDepth 20000
open Go.Lib
def nT:BA:=TZ #[117,110,115,105,103,110,101,100]
def ff:BA:=TZ #[99,104,97,114]
def dy:BA:=TZ #[115,104,111,114,116]
def ra:BA:=TZ #[105,110,116]
def iP:BA:=TZ #[108,111,110,103]
def co:BA:=TZ #[118,111,105,100]
def bF:BA:=TZ #[115,116,114,117,99,116]
def gr:BA:=TZ #[101,110,117,109]
def fV:BA:=TZ #[42]
def LQ(s:BA):Bool:=decide (s=ff)||(decide (s=dy)||(decide (s=ra)||(decide (s=iP)||(decide (s=nT)||(decide (s=co)||(decide (s=bF)||decide (s=gr)))))))
theorem MZ(a b:Bool):(if a=true then some ((true,()):Bool×Unit)else some (b,()))=some (a||b,()):=by cases a<;>rfl
theorem Py(s:BA):En (s,())=some (LQ s,()):=by
 rw[En]
 have e1:ff=TZ #[99,104,97,114]:=rfl
 have e2:dy=TZ #[115,104,111,114,116]:=rfl
 have e3:ra=TZ #[105,110,116]:=rfl
 have e4:iP=TZ #[108,111,110,103]:=rfl
 have e5:nT=TZ #[117,110,115,105,103,110,101,100]:=rfl
 have e6:co=TZ #[118,111,105,100]:=rfl
 have e7:bF=TZ #[115,116,114,117,99,116]:=rfl
 have e8:gr=TZ #[101,110,117,109]:=rfl
 simp only[<-e1,<-e2,<-e3,<-e4,<-e5,<-e6,<-e7,<-e8,aI,MZ,TR,TU]
 simp only[U_];rfl
theorem f169(s:BA):HG (s,())=some (LQ s,()):=by
 have:=Py s
 rw[En]at this
 rw[HG];exact this
theorem jS{s:BA}(h:¬s=e0):0<s.size:=by
 rcases Wt s.size with h0|h0
 ·refine(h (y8 ?_)).elim
  have:s.data.toList.length=0:=by rw[bR,h0]
  rw[U3.1 this];rfl
 ·exact h0
theorem DN{s:BA}(h:¬s=e0):s.data.toList=s.data.toList.getD 0 0::s.data.toList.drop 1:=by
 have:=gc (jS h);rw[UJ]at this;exact this
def hd(l:List BA):BA:=l.headD e0
def cp(l:List BA):List BA:=if hd l=e0 then l else l.tail
theorem lG(l:List BA):cp l<:+l:=by unfold cp;split;exact Ur l;exact VQ l
theorem sK(w:BA)(l:List BA):(if dB w l=true then l.tail else l)<:+l:=by split;exact VQ l;exact Ur l
theorem A7{w:BA}(hw:¬w=e0)(l:List BA):decide (hd l=w)=dB w l:=by
 cases l with
 |nil=>rw[dB];exact decide_eq_false λe=>hw e.symm
 |cons s r=>rfl
theorem Ke(l:List BA)(w:Bool)(it:List Item):ft (l,w,it,())=some (hd l,l,w,it,()):=by
 rw[ft]
 cases l with
 |nil=>rfl
 |cons s r=>
  have:(((s::r).length:Int)==0)=false:=beq_eq_false_iff_ne.2 (by rw[Ue];omega)
  simp only[this,TT,XD];rfl
theorem Ka(l:List BA):(WS l.length l).drop (U1 1)=l.tail:=by
 rw[List.take_length];exact List.drop_one
theorem St{l:List BA}{w:BA}(h:dB w l=true):(0:Int)<=1/\(1:Int)<=(l.length:Int)/\(l.length:Int)<=(l.length:Int):=by
 obtain⟨r,rfl⟩:=jF h
 rw[Ue];omega
theorem f156(s:BA)(hs:¬s=e0)(l:List BA)(w:Bool)(it:List Item):cU (s,l,w,it,())=some (dB s l,(if dB s l=true then l.tail else l),w,it,()):=by
 have hx:(TZ #[])=e0:=rfl
 have hsd:decide (s=e0)=false:=decide_eq_false hs
 have hh:=A7 hs l
 rw[cU]
 simp only[Ke,TR,TU,T2,XC,XD,TT,T0,TW,TX,XH,XE,T3,aI,hx,hsd]
 cases h:dB s l with
 |true=>
  rw[h]at hh
  simp only[hh,T1,TR,TU,T2,XC,XD,TT,T0,TW,TX,XH,XE,T3,St h,and_self,Ka]
 |false=>
  rw[h]at hh
  simp only[hh,TY,TR,TU,T2,XC,XD,TT,T0,TW,TX,XH,XE,T3]
theorem Sim.may(s:BA)(l:List BA)(w:Bool):Sim (vu s) l w (dB s l) (if dB s l=true then l.tail else l) w:=by
 refine⟨sK s l,id,λhw b r hb=> ?_,λhw hb=>by cases hb⟩
 cases hb;exact⟨hw,rfl,rfl⟩
theorem Sim.want(s:BA)(l:List BA)(w:Bool):Sim (pQ s) l w () (if dB s l=true then l.tail else l) (w|| !dB s l):=by
 refine⟨sK s l,λh=>by rw[h];rfl,λhw b r hb=> ?_,λhw hb=> ?_⟩
 ·unfold pQ at hb
  cases h:dB s l with
  |true=>rw[h]at hb;cases hb;exact⟨by rw[hw];rfl,rfl,rfl⟩
  |false=>rw[h]at hb;cases hb
 ·unfold pQ at hb
  cases h:dB s l with
  |true=>rw[h]at hb;cases hb
  |false=>cases w<;>rfl
theorem Px(ss:List BA)(hss:∀s∈ss,¬s=e0)(hsl:ss.length<=1000)(it:List Item):∀(m j:Nat) (l:List BA) (w:Bool),ss.length-j=m->
 ∃l' w',cb (ss,(ss.length:Int),(j:Int),l,w,it,())=some (l',w',it,())/\Sim (cu (ss.drop j)) l w () l' w':=by
 intro m
 induction m with
 |zero=>
  intro j l w hm
  have hlt:¬j<ss.length:=by omega
  refine⟨l,w,?_,?_⟩
  ·rw[cb]
   simp only[TR,TU,T2,XC,XD,TT,T0,TW,TX,XH,XE,T3,hlt,XJ]
  ·rw[dk hlt];exact .ret _ _ _
 |succ m ih=>
  intro j l w hm
  have hlt:j<ss.length:=by omega
  obtain⟨s,hp,hpm,hdr,g1,g2⟩:=dW hlt
  obtain⟨l',w',h1,h2⟩:=ih (j+1) (if dB s l=true then l.tail else l) (w|| !dB s l) (by omega)
  refine⟨l',w',?_,?_⟩
  ·rw[cb,<-h1]
   cases h:dB s l with
   |true=>simp only[TR,TU,T2,XC,XD,TT,T0,TW,TX,XH,XE,T3,hlt,XI,g1,hp,f156 s (hss s hpm),h,T1,U_,aX (a:=j) (by omega)]
   |false=>simp only[TR,TU,T2,XC,XD,TT,T0,TW,TX,XH,XE,T3,hlt,XI,g1,hp,f156 s (hss s hpm),h,TY,Vb,aX (a:=j) (by omega)]
  ·rw[hdr];exact(Sim.want s l w).bnd h2
theorem f154(ss:List BA)(hss:∀s∈ss,¬s=e0)(hsl:ss.length<=1000)(l:List BA)(w:Bool)(it:List Item):
 ∃l' w',bv (ss,l,w,it,())=some (l',w',it,())/\Sim (cu ss) l w () l' w':=by
 obtain⟨l',w',h1,h2⟩:=Px ss hss hsl it _ 0 l w rfl
 have h1:cb (ss,(ss.length:Int),0,l,w,it,())=some (l',w',it,()):=h1
 refine⟨l',w',?_,h2⟩
 rw[bv]
 simp only[h1,TR,TU,T2,XC,XD,TT,T0,TW,TX,XH,XE,T3]
theorem GN(l:List BA)(w:Bool)(it:List Item):en (l,w,it,())=some (hd l,cp l,w,it,()):=by
 have hx:(TZ #[])=e0:=rfl
 rw[en]
 unfold cp
 by_cases h:hd l=e0
 ·simp only[Ke,TR,TU,T2,XC,XD,TT,T0,TW,TX,XH,XE,T3,aI,hx,h,XI,T1]
 ·have hl:(0:Int)<=1/\(1:Int)<=(l.length:Int)/\(l.length:Int)<=(l.length:Int):=by
   cases l with
   |nil=>exact(h rfl).elim
   |cons s r=>rw[Ue];omega
  simp only[Ke,TR,TU,T2,XC,XD,TT,T0,TW,TX,XH,XE,T3,aI,hx,h,XJ,TY,hl,and_self,Ka]
def bO(s:BA):Bool:=match s.data.toList with
 |[]=>false
 |c::_=>isL c&& !LQ s
def dL:Ps BA
 |[]=>none
 |s::r=>if bO s=true then some (s,r)else none
def eR(s:BA):Bool:=match s.data.toList with
 |[]=>false
 |c::_=>isD c&&decide (s.size<=9)
def pM(s:BA):Int:=match Lib.atoiAll s.data.toList with
 | .ok n=>n
 | .range=>Lib.atoiSat s.data.toList
 |_=>0
def K_:Ps Int
 |[]=>none
 |s::r=>if eR s=true then some (pM s,r)else none
theorem vi{s:BA}(h:¬s=e0):bO s=(A8 ((s.data.toList.getD 0 0).toNat:Int)&& !LQ s):=by
 unfold bO;rw[DN h];rfl
theorem tg{s:BA}(h:¬s=e0):eR s=(uR ((s.data.toList.getD 0 0).toNat:Int)&&decide (s.size<=9)):=by
 unfold eR;rw[DN h];rfl
theorem pI:bO e0=false:=rfl
theorem HP:eR e0=false:=rfl
theorem tA{α:Type}{p:Ps α}{okB:BA->Bool}{f:BA->α}(h0:okB e0=false)(hn:p []=none)(hc:∀s r,p (s::r)=if okB s=true then some (f s,r)else none)(l:List BA)(w:Bool)(a:α)(ha:okB (hd l)=true->a=f (hd l)):
 Sim p l w a (cp l) (w|| !okB (hd l)):=by
 refine⟨lG l,λh=>by rw[h];rfl,λhw b r hb=> ?_,λhw hb=> ?_⟩
 ·cases l with
  |nil=>rw[hn]at hb;cases hb
  |cons s r'=>
   rw[hc]at hb
   cases h:okB s with
   |false=>rw[h]at hb;cases hb
   |true=>
    rw[h]at hb;cases hb
    have hs:¬s=e0:=λe=>by rw[e,h0]at h;cases h
    exact⟨by rw[hw];show(false|| !okB s)=false;rw[h];rfl,ha h,by unfold cp;rw[XF (show¬hd (s::r)=e0 from hs)];rfl⟩
 ·cases l with
  |nil=>show(w|| !okB e0)=true;rw[h0];cases w<;>rfl
  |cons s r'=>
   rw[hc]at hb
   show(w|| !okB s)=true
   cases h:okB s with
   |true=>rw[h]at hb;cases hb
   |false=>cases w<;>rfl
theorem Sim.name(l:List BA)(w:Bool):Sim dL l w (hd l) (cp l) (w|| !bO (hd l)):=tA (f:=id) pI rfl (λ_ _=>rfl) l w _ λ_=>rfl
theorem Sim.num(l:List BA)(w:Bool)(a:Int)(ha:eR (hd l)=true->a=pM (hd l)):Sim K_ l w a (cp l) (w|| !eR (hd l)):=tA (f:=pM) HP rfl (λ_ _=>rfl) l w _ ha
theorem DE(l:List BA)(w:Bool)(it:List Item):bU (l,w,it,())=some (hd l,cp l,w|| !bO (hd l),it,()):=by
 have hx:(TZ #[])=e0:=rfl
 rw[bU]
 by_cases h:hd l=e0
 ·have hn:bO (hd l)=false:=by rw[h];rfl
  simp only[GN,TR,TU,T2,XC,XD,TT,T0,TW,TX,XH,XE,T3,aI,hx,h,XI,pI,TY,Vb]
 ·have hg:(hd l)[0]?=some ((hd l).data.toList.getD 0 0):=bK (jS h)
  rw[vi h]
  cases h1:A8 (((hd l).data.toList.getD 0 0).toNat:Int)with
  |false=>simp only[GN,TR,TU,T2,XC,XD,TT,T0,TW,TX,XH,XE,T3,aI,hx,h,XJ,Vj,hg,f86,h1,TY,Vh,Vb]
  |true=>
   cases h2:LQ (hd l)with
   |false=>simp only[GN,TR,TU,T2,XC,XD,TT,T0,TW,TX,XH,XE,T3,aI,hx,h,XJ,Vj,hg,f86,h1,Py,h2,T1,TY,U9,U_]
   |true=>simp only[GN,TR,TU,T2,XC,XD,TT,T0,TW,TX,XH,XE,T3,aI,hx,h,XJ,Vj,hg,f86,h1,Py,h2,T1,TY,U9,Vb]
theorem pR:∀(l:List UInt8) (acc j:Nat),(∀x∈l,isD x=true)->acc<10^j->j+l.length<=9->∃n,Lib.parseUint10 acc l= .ok n/\n<1000000000
 |[],acc,j,_,h1,h2=>⟨acc,rfl,by
  have:10^j<=10^9:=Xl (by omega) (by simpa using h2)
  have e:(10:Nat)^9=1000000000:=by decide
  omega⟩
 |c::r,acc,j,hd,h1,h2=>by
  have hc:=hd c T_
  unfold isD uR at hc
  simp only[Uf,XE]at hc
  have hc1:48<=c.toNat/\c.toNat<=57:=by omega
  rw[Ue]at h2
  have:10^(j+1)<=10^9:=Xl (by omega) (by omega)
  have e:(10:Nat)^9=1000000000:=by decide
  have e2:(10:Nat)^(j+1)=10^j *10:=Nat.pow_succ ..
  obtain⟨n,h3,h4⟩:=pR r (acc *10+(c.toNat-48)) (j+1) (λx hx=>hd x (T6 _ hx)) (by omega) (by omega)
  refine⟨n,?_,h4⟩
  rw[Lib.parseUint10,XG hc1,XF (by omega),XF (by omega),h3]
theorem rf{s:BA}(ht:qy s)(h:eR s=true):∃n:Int,Lib.atoiAll s.data.toList= .ok n/\0<=n/\n<1000000000:=by
 obtain⟨c,r,e,hr⟩:=ht
 unfold eR at h
 rw[e]at h
 simp only[Uf,XE]at h
 have hsz:=bR s
 rw[e,Ue]at hsz
 obtain⟨n,h1,h2⟩:=pR (c::r) 0 0 (λx hx=>by
  rcases Uh.1 hx with rfl|hx
  ·exact h.1
  ·exact hr h.1 x hx) (by decide) (by rw[Ue];omega)
 have hc:=h.1
 unfold isD uR at hc
 simp only[Uf,XE]at hc
 refine⟨n,?_,by omega,by omega⟩
 rw[e]
 unfold Lib.atoiAll Lib.parseMag
 have c1:¬c.toNat=43:=by omega
 have c2:¬c.toNat=45:=by omega
 have c3:¬(9223372036854775808<=n):=by omega
 simp only[c1,c2,c3,or_self,XD,reduceCtorEq,h1,not_false_eq_true,true_and,false_and]
theorem HQ{s:BA}(ht:qy s)(h:eR s=true):0<=pM s/\pM s<1000000000:=by
 obtain⟨n,h1,h2,h3⟩:=rf ht h
 unfold pM;rw[h1];exact⟨h2,h3⟩
theorem xI{l:List BA}(hg:tO l):hd l=e0\/qy (hd l)/\(hd l).size<=1000000000:=by
 cases l with
 |nil=>exact .inl rfl
 |cons s r=>exact .inr (hg s T_)
theorem DO{l:List BA}(hg:tO l):(hd l).size<=1000000000:=by
 rcases xI hg with h|h
 ·rw[h];decide
 ·exact h.2
theorem RJ(s:BA)(hs:s.size<=1000000000):∃er,Bq (s,())=some (pM s,er,())/\(er=false↔∃n,Lib.atoiAll s.data.toList= .ok n):=by
 rw[Bq]
 have:s.size<=1000000000000:=by omega
 unfold pM
 simp only[this,XC]
 cases h:Lib.atoiAll s.data.toList with
 |ok n=>exact⟨false,rfl,by simp⟩
 |range=>exact⟨true,rfl,by simp⟩
 |_=>exact⟨true,rfl,by simp⟩
theorem RH(l:List BA)(hg:tO l)(w:Bool)(it:List Item):gP (l,w,it,())=some (pM (hd l),cp l,w|| !eR (hd l),it,()):=by
 obtain⟨er,h1,h2⟩:=RJ (hd l) (DO hg)
 rw[gP]
 cases er with
 |true=>
  have hn:eR (hd l)=false:=by
   cases h:eR (hd l)with
   |false=>rfl
   |true=>
    rcases xI hg with e|e
    ·rw[e]at h;cases h
    ·obtain⟨n,h3,_⟩:=rf e.1 h
     have:=h2.2 ⟨n,h3⟩;cases this
  simp only[GN,TR,TU,T2,XC,XD,TT,T0,TW,TX,XH,XE,T3,h1,hn,TY,Vb]
 |false=>
  have h:¬hd l=e0:=λe=>by
   obtain⟨n,h3⟩:=h2.1 rfl
   rw[e]at h3;cases h3
  have hgt:(hd l)[0]?=some ((hd l).data.toList.getD 0 0):=bK (jS h)
  rw[tg h]
  cases h3:uR (((hd l).data.toList.getD 0 0).toNat:Int)with
  |false=>simp only[GN,TR,TU,T2,XC,XD,TT,T0,TW,TX,XH,XE,T3,h1,Vj,hgt,f87,h3,TY,Vh,Vb]
  |true=>
   by_cases h4:(hd l).size<=9
   ·have h5:¬(((hd l).size:Int)>9):=by omega
    simp only[GN,TR,TU,T2,XC,XD,TT,T0,TW,TX,XH,XE,T3,h1,Vj,hgt,f87,h3,h4,h5,XI,XJ,T1,TY,U9,U_]
   ·have h5:(((hd l).size:Int)>9):=by omega
    simp only[GN,TR,TU,T2,XC,XD,TT,T0,TW,TX,XH,XE,T3,h1,Vj,hgt,f87,h3,h4,h5,XI,XJ,T1,TY,U9,Vb]
structure eL (it:List Item):Prop where
 len:it.length<=1000000
 names:∀x∈it,x.names.length<=1000000
 fits:∀x∈it,x.layout.Fits
 val:∀x∈it,jv x.layout=0
 str:∀x∈it,x.kind=2->x.layout.kind=6
theorem eL.nm{it:List Item}(h:eL it):iQ it:=λx hx=>by have:=h.names x hx;omega
theorem si{p:aa}:∀{ps:List aa},p∈ps->p.all.length<=(aa.allL ps).length
 |q::r,h=>by
  rw[aa.allL,Uc]
  rcases Uh.1 h with rfl|h
  ·omega
  ·have:=si h;omega
theorem JL(l:aa):1<=l.all.length:=by rw[l.all_eq,Ue];omega
theorem CW:∀ps:List aa,ps.length<=(aa.allL ps).length
 |[]=>Up _
 |p::r=>by rw[aa.allL,Uc,Ue];have:=CW r;have:=JL p;omega
theorem f196:∀l:aa,l.all.length<=1000000->n_196 (l,())=some (l,()):=by
 refine aa.ind λl ih hn=> ?_
 rw[l.all_eq,Ue]at hn
 have hpl:=CW l.parts
 have loop:∀(m k:Nat),l.parts.length-k=m->k<=l.parts.length->eQ (l.parts,(l.parts.length:Int),(k:Int),l,z0,l.parts.take k,())=some (l,z0,l.parts,()):=by
  intro m
  induction m with
  |zero=>
   intro k hm hk
   have hlt:¬k<l.parts.length:=by omega
   rw[eQ]
   simp only[TR,TU,T2,XC,XD,TT,T0,TW,TX,XH,XE,T3,hlt,XJ,UU (show l.parts.length<=k by omega)]
  |succ m ihm=>
   intro k hm hk
   have hlt:k<l.parts.length:=by omega
   obtain⟨p,hp,hpm,hdr,g1,g2⟩:=dW hlt
   have hpa:=si hpm
   have h:=ihm (k+1) (by omega) (by omega)
   rw[V2,hp]at h
   have ht:(l.parts.take k).length+[p].length<=4294967296:=by rw[UY,T5];omega
   rw[eQ]
   simp only[TR,TU,T2,XC,XD,TT,T0,TW,TX,XH,XE,T3,hlt,XI,g1,hp,ih p hpm (by omega),ht,aX (a:=k) (by omega)]
   exact h
 have h:=loop _ 0 rfl (Vs _)
 have h:eQ (l.parts,(l.parts.length:Int),0,l,aa.mk 0 0 false [],[],())=some (l,z0,l.parts,()):=h
 rw[n_196]
 simp only[h,TR,TU,T2,XC,XD,TT,T0,TW,TX,XH,XE,T3,eta]
theorem og(it:List Item)(k:Int)(name:BA):fG it k name=zI/\eJ it k name=false\/fG it k name∈it/\(fG it k name).kind=k/\eJ it k name=true:=by
 unfold fG eJ
 cases h:it.find? (kn k name)with
 |none=>
  refine .inl ⟨rfl,?_⟩
  rw[List.find?_eq_none]at h
  rw[WY];exact h
 |some x=>
  have h1:=List.find?_some h
  have h2:=List.mem_of_find?_eq_some h
  refine .inr ⟨h2,?_,Vl.2 ⟨x,h2,h1⟩⟩
  unfold kn at h1
  rw[Uf]at h1
  exact eq_of_beq h1.1
theorem Gc{l:aa}(h:jv l=0):l.all.length<=60/\l.depth<=5:=by
 unfold jv at h
 split at h
 ·cases h
 ·rename_i hc
  simp only[aa.large,UB,XE,not_or]at hc
  omega
theorem G7{it:List Item}(h:eL it)(k:Int)(name:BA):(fG it k name).layout.all.length<=60:=by
 rcases og it k name with⟨e,_⟩|⟨e,_,_⟩
 ·rw[e];decide
 ·exact(Gc (h.val _ e)).1
def pP(it:List Item):Ps aa:=bnd (vu nT) λu=>bnd tm λs=>
 if s=ff then ret (aa.mk 2 8 (!u) [])else if s=dy then ret (aa.mk 2 16 (!u) [])else if s=ra then ret (aa.mk 2 32 (!u) [])
 else bnd (nay u) λ_=>if s=iP then ret (aa.mk 3 0 false [])else if s=co then ret z0
 else if s=bF then bnd dL λn=>bnd (nay (!eJ it 2 n)) λ_=>ret (fG it 2 n).layout
 else if s=gr then bnd dL λn=>bnd (nay (!eJ it 1 n)) λ_=>ret (aa.mk 2 32 true [])
 else bnd (nay true) λ_=>ret z0
theorem Sim.word(l:List BA)(w:Bool):Sim tm l w (hd l) (cp l) (w||decide (hd l=e0)):=by
 have:=tA (p:=tm) (okB:=λs=>decide (¬s=e0)) (f:=id) (by simp) rfl (λs r=>by unfold tm;by_cases h:s=e0<;>simp[h]) l w (hd l) λ_=>rfl
 simpa using this
theorem Sim.strict{α:Type}{p:Ps α}{l l1:List BA}{w w1 w2:Bool}{a:α}(h:Sim p l w a l1 w1)(h1:w1=true->w2=true)(h2:w2=true->w1=true):Sim p l w a l1 w2:=by
 have:w1=w2:=by cases w1<;>cases w2<;>simp_all
 rw[<-this];exact h
theorem eF{a b:BA}(h:¬a.data.toList=b.data.toList):¬a=b:=λe=>h (by rw[e])
theorem PL(s:BA)(h:s=ff\/s=dy\/s=ra):(Mp.get Mp.seq s (Mp.set Mp.seq Mp.slt (TZ #[105,110,116]) (32:Int) (Mp.set Mp.seq Mp.slt (TZ #[115,104,111,114,116]) (16:Int) (Mp.set Mp.seq Mp.slt (TZ #[99,104,97,114]) (8:Int) [])))).getD (0:Int)=
 if s=ff then 8 else if s=dy then 16 else 32:=by
 rcases h with rfl|rfl|rfl
 ·kernel_rfl
 ·rw[XF (eF (by decide))];kernel_rfl
 ·rw[XF (eF (by decide)),XF (eF (by decide))];kernel_rfl
end Go.Proofs.YtpelkenpapfadaaGreatDoor
end
section
namespace Go.Proofs.YtpelkenpapfadaaGreatDoor
open Go.Tx
set_option maxRecDepth 20000
open Go.Lib
theorem vT:¬nT=e0:=eF (by decide)
theorem tK:ff=TZ #[99,104,97,114]:=rfl
theorem oA:dy=TZ #[115,104,111,114,116]:=rfl
theorem z8:ra=TZ #[105,110,116]:=rfl
theorem tL:iP=TZ #[108,111,110,103]:=rfl
theorem Aa:nT=TZ #[117,110,115,105,103,110,101,100]:=rfl
theorem jy:co=TZ #[118,111,105,100]:=rfl
theorem gV:bF=TZ #[115,116,114,117,99,116]:=rfl
theorem nd:gr=TZ #[101,110,117,109]:=rfl
theorem qr:fV=TZ #[42]:=rfl
theorem mK:¬ff=e0:=eF (by decide)
theorem jB:¬dy=e0:=eF (by decide)
theorem rJ:¬ra=e0:=eF (by decide)
theorem sr:¬iP=e0:=eF (by decide)
theorem mN:¬co=e0:=eF (by decide)
theorem gA:¬bF=e0:=eF (by decide)
theorem mM:¬gr=e0:=eF (by decide)
theorem sc1:¬dy=ff:=eF (by decide)
theorem ic1:¬ra=ff:=eF (by decide)
theorem is1:¬ra=dy:=eF (by decide)
theorem lc1:¬iP=ff:=eF (by decide)
theorem ls1:¬iP=dy:=eF (by decide)
theorem li1:¬iP=ra:=eF (by decide)
theorem vc1:¬co=ff:=eF (by decide)
theorem vs1:¬co=dy:=eF (by decide)
theorem vi1:¬co=ra:=eF (by decide)
theorem vl1:¬co=iP:=eF (by decide)
theorem tc1:¬bF=ff:=eF (by decide)
theorem ts1:¬bF=dy:=eF (by decide)
theorem ti1:¬bF=ra:=eF (by decide)
theorem tl1:¬bF=iP:=eF (by decide)
theorem tv1:¬bF=co:=eF (by decide)
theorem ec1:¬gr=ff:=eF (by decide)
theorem es1:¬gr=dy:=eF (by decide)
theorem ei1:¬gr=ra:=eF (by decide)
theorem el1:¬gr=iP:=eF (by decide)
theorem ev1:¬gr=co:=eF (by decide)
theorem et1:¬gr=bF:=eF (by decide)
def dw(it:List Item)(u:Bool)(s:BA):Ps aa:=
 if s=ff then ret (aa.mk 2 8 (!u) [])else if s=dy then ret (aa.mk 2 16 (!u) [])else if s=ra then ret (aa.mk 2 32 (!u) [])
 else bnd (nay u) λ_=>if s=iP then ret (aa.mk 3 0 false [])else if s=co then ret z0
 else if s=bF then bnd dL λn=>bnd (nay (!eJ it 2 n)) λ_=>ret (fG it 2 n).layout
 else if s=gr then bnd dL λn=>bnd (nay (!eJ it 1 n)) λ_=>ret (aa.mk 2 32 true [])
 else bnd (nay true) λ_=>ret z0
theorem eB(it:List Item):pP it=bnd (vu nT) λu=>bnd tm λs=>dw it u s:=rfl
theorem qS{s:BA}(w:Bool)(h:¬s=e0):(w||decide (s=e0))=w:=by rw[decide_eq_false h,U_]
theorem Sh(it:List Item)(hi:eL it)(l:List BA)(w:Bool):∃l' w' t,gR (l,w,it,())=some (l',w',it,t,())/\Sim (pP it) l w t l' w':=by
 have hlen:=hi.len
 have m1:=Sim.may nT l w
 have h156:=f156 nT vT l w it
 obtain⟨u,hu⟩:∃u,dB nT l=u:=⟨_,rfl⟩
 obtain⟨l1,hl1⟩:∃l1,(if dB nT l=true then l.tail else l)=l1:=⟨_,rfl⟩
 rw[hl1]at h156 m1
 rw[hu]at h156 m1
 have m2:=Sim.word l1 w
 have h164:=GN l1 w it
 obtain⟨s,hs⟩:∃s,hd l1=s:=⟨_,rfl⟩
 obtain⟨l2,hl2⟩:∃l2,cp l1=l2:=⟨_,rfl⟩
 rw[hs,hl2]at h164 m2
 have rest:∃l' w' t,gR (l,w,it,())=some (l',w',it,t,())/\Sim (dw it u s) l2 (w||decide (s=e0)) t l' w':=by
  rw[gR]
  rw[<-Aa,h156,TR,TU]
  simp only[XC]
  rw[h164,TR,TU]
  simp only[XC,aI,<-tK,<-oA,<-z8,<-tL,<-jy,<-gV,<-nd]
  have hm (h:s=ff\/s=dy\/s=ra):(Mp.get Mp.seq s (Mp.set Mp.seq Mp.slt ra (32:Int) (Mp.set Mp.seq Mp.slt dy (16:Int) (Mp.set Mp.seq Mp.slt ff (8:Int) [])))).getD (0:Int)=if s=ff then 8 else if s=dy then 16 else 32:=PL s h
  by_cases a1:s=ff
  ·have h:=hm (.inl a1)
   rw[XG a1]at h
   refine⟨l2,w,aa.mk 2 8 (!u) [],?_,?_⟩
   ·rw[a1]at h
    simp only[a1,XI,TR,TU,XC,XD,TT,T1,TY,h]
   ·rw[a1,qS w mK,dw,XG rfl];exact .ret _ _ _
  by_cases a2:s=dy
  ·have h:=hm (.inr (.inl a2))
   rw[XF a1,XG a2]at h
   refine⟨l2,w,aa.mk 2 16 (!u) [],?_,?_⟩
   ·rw[a2]at h
    simp only[a2,sc1,XI,XJ,TR,TU,XC,XD,TT,T1,TY,h]
   ·rw[a2,qS w jB,dw,XF sc1,XG rfl];exact .ret _ _ _
  by_cases a3:s=ra
  ·have h:=hm (.inr (.inr a3))
   rw[XF a1,XF a2]at h
   refine⟨l2,w,aa.mk 2 32 (!u) [],?_,?_⟩
   ·rw[a3]at h
    simp only[a3,ic1,is1,XI,XJ,TR,TU,XC,XD,TT,T1,TY,h]
   ·rw[a3,qS w rJ,dw,XF ic1,XF is1,XG rfl];exact .ret _ _ _
  have hw1:(if w=true then some ((s,l2,true,aa.mk 0 0 false [],it,()):BA×List BA×Bool×aa×List Item×Unit)else some (s,l2,u,aa.mk 0 0 false [],it,()))=some (s,l2,w||u,aa.mk 0 0 false [],it,()):=by cases w<;>rfl
  simp only[a1,a2,a3,XJ,TR,TU,XC,XD,TT,T1,TY,hw1]
  have hR:dw it u s=bnd (nay u) λ_=>if s=iP then ret (aa.mk 3 0 false [])else if s=co then ret z0
   else if s=bF then bnd dL λn=>bnd (nay (!eJ it 2 n)) λ_=>ret (fG it 2 n).layout
   else if s=gr then bnd dL λn=>bnd (nay (!eJ it 1 n)) λ_=>ret (aa.mk 2 32 true [])
   else bnd (nay true) λ_=>ret z0:=by rw[dw,XF a1,XF a2,XF a3]
  rw[hR]
  have m3:=Sim.nay u l2 (w||decide (s=e0))
  by_cases b1:s=iP
  ·refine⟨l2,w||u,aa.mk 3 0 false [],?_,?_⟩
   ·simp only[b1,XI,TR,TU,XC,XD,TT,T1,TY]
   ·rw[b1,qS w sr]at m3⊢
    refine m3.bnd ?_
    rw[XG rfl];exact .ret _ _ _
  by_cases b2:s=co
  ·refine⟨l2,w||u,z0,?_,?_⟩
   ·simp only[b2,vl1,XI,XJ,TR,TU,XC,XD,TT,T1,TY];rfl
   ·rw[b2,qS w mN]at m3⊢
    refine m3.bnd ?_
    rw[XF vl1,XG rfl];exact .ret _ _ _
  have h155:=DE l2 (w||u) it
  have m4:=Sim.name l2 (w||u)
  obtain⟨n,hn⟩:∃n,hd l2=n:=⟨_,rfl⟩
  obtain⟨l3,hl3⟩:∃l3,cp l2=l3:=⟨_,rfl⟩
  obtain⟨w3,hw3⟩:∃w3,(w||u|| !bO n)=w3:=⟨_,rfl⟩
  rw[hn,hl3,hw3]at h155 m4
  by_cases b3:s=bF
  ·have m5:=Sim.nay (!eJ it 2 n) l3 w3
   refine⟨l3,w3|| !eJ it 2 n,(fG it 2 n).layout,?_,?_⟩
   ·have hc:=f196 _ (UW (G7 hi 2 n) (by omega))
    simp only[b3,tl1,tv1,XI,XJ,TR,TU,XC,XD,TT,T1,TY,kU,h155,f47 _ _ it (by omega),eta]
    cases w3 with
    |true=>simp only[TR,TU,XC,XD,TT,T1,TY,hc,UD]
    |false=>simp only[TR,TU,XC,XD,TT,T1,TY,hc,Ux]
   ·rw[b3,qS w gA]at m3⊢
    refine m3.bnd ?_
    rw[XF tl1,XF tv1,XG rfl]
    exact m4.bnd (m5.bnd (.ret _ _ _))
  by_cases b4:s=gr
  ·have m5:=Sim.nay (!eJ it 1 n) l3 w3
   refine⟨l3,w3|| !eJ it 1 n,aa.mk 2 32 true [],?_,?_⟩
   ·simp only[b4,el1,ev1,et1,XI,XJ,TR,TU,XC,XD,TT,T1,TY,kU,h155,Kd _ _ it (by omega)]
    cases eJ it 1 n with
    |true=>simp only[TR,TU,XC,XD,TT,T1,TY,U_]
    |false=>simp only[TR,TU,XC,XD,TT,T1,TY,Vb]
   ·rw[b4,qS w mM]at m3⊢
    refine m3.bnd ?_
    rw[XF el1,XF ev1,XF et1,XG rfl]
    exact m4.bnd (m5.bnd (.ret _ _ _))
  ·refine⟨l2,true,z0,?_,?_⟩
   ·simp only[b1,b2,b3,b4,XJ,TR,TU,XC,XD,TT,T1,TY];rfl
   ·refine m3.bnd ?_
    rw[XF b1,XF b2,XF b3,XF b4]
    have:=(Sim.nay true l2 (w||decide (s=e0)||u)).bnd (q:=λ_=>ret z0) (.ret z0 _ _)
    rw[Vb]at this;exact this
 obtain⟨l',w',t,h1,h2⟩:=rest
 exact⟨l',w',t,h1,by rw[eB];exact m1.bnd (m2.bnd h2)⟩
def stars:aa->List BA->aa×List BA
 |t,[]=>(t,[])
 |t,s::r=>if s=fV then stars (aa.mk 3 0 false []) r else(t,s::r)
def zG(t:aa):Ps aa:=λl=>some (stars t l)
theorem qg:∀(l:List BA) (t:aa),(stars t l).2<:+l
 |[],t=>Ur _
 |s::r,t=>by
  unfold stars;split
  ·exact(qg r _).trans (WC _ _)
  ·exact Ur _
theorem Sim.stars(t:aa)(l:List BA)(w:Bool):Sim (zG t) l w (stars t l).1 (stars t l).2 w:=by
 refine⟨qg l t,id,λhw b r hb=> ?_,λhw hb=>by cases hb⟩
 have hb:some (Proofs.YtpelkenpapfadaaGreatDoor.stars t l)=some (b,r):=hb
 injection hb with hb
 rw[hb];exact⟨hw,rfl,rfl⟩
theorem qf:¬fV=e0:=eF (by decide)
theorem MK(x:aa)(res w:Bool)(it:List Item):∀(l:List BA) (t:aa),cA (res,l,w,x,t,it,())=some (res,(stars t l).2,w,x,(stars t l).1,it,())
 |[],t=>by
  rw[cA]
  simp only[<-qr,f156 fV qf,dB,TR,TU,XC,XD,TT,T1,TY];rfl
 |s::r,t=>by
  rw[cA]
  simp only[<-qr,f156 fV qf,dB,TR,TU,XC,XD,TT,T1,TY]
  by_cases h:s=fV
  ·rw[stars,XG h,<-MK x res w it r]
   simp only[h,XI,XC,WO]
  ·rw[stars,XF h]
   simp only[h,XJ,TR,TU,XC,XD,TT,T1,TY]
def qT(it:List Item)(res:Bool):Ps aa:=bnd (pP it) λt=>bnd (zG t) λt=>bnd (nay (t.kind==0&& !res)) λ_=>ret t
theorem f163(it:List Item)(hi:eL it)(res:Bool)(l:List BA)(w:Bool):∃l' w' t,fu (res,l,w,it,())=some (l',w',it,t,())/\Sim (qT it res) l w t l' w':=by
 obtain⟨l1,w1,t,h1,m1⟩:=Sh it hi l w
 have m2:=Sim.stars t l1 w1
 have h2:=MK (aa.mk 0 0 false []) res w1 it l1 t
 obtain⟨t2,ht2⟩:∃t2,(stars t l1).1=t2:=⟨_,rfl⟩
 obtain⟨l2,hl2⟩:∃l2,(stars t l1).2=l2:=⟨_,rfl⟩
 rw[ht2,hl2]at h2 m2
 refine⟨l2,w1||(t2.kind==0&& !res),t2,?_,m1.bnd (m2.bnd ((Sim.nay _ _ _).bnd (.ret _ _ _)))⟩
 rw[fu]
 simp only[h1,h2,TR,TU,XC,XD,TT,T1,TY]
 cases w1<;>cases (t2.kind==0)<;>rfl
end Go.Proofs.YtpelkenpapfadaaGreatDoor
end
section
namespace Go.Proofs.YtpelkenpapfadaaGreatDoor
open Go.Tx
set_option maxRecDepth 20000
open Go.Lib
def q_:BA:=TZ #[35]
def gq:BA:=TZ #[100,101,102,105,110,101]
def jw:BA:=TZ #[45]
def cg:BA:=TZ #[44]
def yV:BA:=TZ #[40]
def du:BA:=TZ #[41]
def tQ:BA:=TZ #[91]
def LR:BA:=TZ #[93]
theorem Gj:q_=TZ #[35]:=rfl
theorem vY:gq=TZ #[100,101,102,105,110,101]:=rfl
theorem z_:jw=TZ #[45]:=rfl
theorem dF:cg=TZ #[44]:=rfl
theorem tM:yV=TZ #[40]:=rfl
theorem tN:du=TZ #[41]:=rfl
theorem se:tQ=TZ #[91]:=rfl
theorem vZ:LR=TZ #[93]:=rfl
theorem OK:oB=TZ #[123]:=rfl
theorem Gi:cB=TZ #[125]:=rfl
theorem rb:sB=TZ #[59]:=rfl
theorem EM:¬q_=e0:=eF (by decide)
theorem vk:¬gq=e0:=eF (by decide)
theorem zA:¬jw=e0:=eF (by decide)
theorem gg:¬cg=e0:=eF (by decide)
theorem EN:¬yV=e0:=eF (by decide)
theorem EO:¬du=e0:=eF (by decide)
theorem zz:¬tQ=e0:=eF (by decide)
theorem Jl:¬LR=e0:=eF (by decide)
theorem OA:¬oB=e0:=eF (by decide)
theorem HN:¬cB=e0:=eF (by decide)
theorem GO:¬sB=e0:=eF (by decide)
def Km(b:Bool)(v:Int):Int:=if b=true then IntKind.i64.wrap (0-v)else v
def oX(it:List Item):Ps Item:=bnd (cu [q_,gq]) λ_=>bnd dL λn=>bnd (vu jw) λm=>bnd K_ λv=>
 bnd (nay (gj it n)) λ_=>ret (Item.mk 0 n (Km m v) [] z0)
theorem Sc(it:List Item)(hi:eL it)(l:List BA)(hg:tO l)(w:Bool):∃l' w' x,fi (l,w,it,())=some (l',w',it,x,())/\Sim (oX it) l w x l' w':=by
 have hlen:=hi.len
 obtain⟨l1,w1,h1,m1⟩:=f154 [q_,gq] (by simp[EM,vk]) (by simp) l w it
 have g1:=hg.suf m1.suf
 have h2:=DE l1 w1 it
 have m2:=Sim.name l1 w1
 obtain⟨n,hn⟩:∃n,hd l1=n:=⟨_,rfl⟩
 obtain⟨l2,hl2⟩:∃l2,cp l1=l2:=⟨_,rfl⟩
 obtain⟨w2,hw2⟩:∃w2,(w1|| !bO n)=w2:=⟨_,rfl⟩
 rw[hn,hl2,hw2]at h2 m2
 have g2:=g1.suf m2.suf
 have h3:=f156 jw zA l2 w2 it
 have m3:=Sim.may jw l2 w2
 obtain⟨b,hb⟩:∃b,dB jw l2=b:=⟨_,rfl⟩
 obtain⟨l3,hl3⟩:∃l3,(if dB jw l2=true then l2.tail else l2)=l3:=⟨_,rfl⟩
 rw[hl3]at h3 m3
 rw[hb]at h3 m3
 have g3:=g2.suf m3.suf
 have h4:=RH l3 g3 w2 it
 have m4:=Sim.num l3 w2 (pM (hd l3)) λ_=>rfl
 obtain⟨v,hv⟩:∃v,pM (hd l3)=v:=⟨_,rfl⟩
 obtain⟨l4,hl4⟩:∃l4,cp l3=l4:=⟨_,rfl⟩
 obtain⟨w4,hw4⟩:∃w4,(w2|| !eR (hd l3))=w4:=⟨_,rfl⟩
 rw[hv,hl4,hw4]at h4 m4
 refine⟨l4,w4||gj it n,Item.mk 0 n (Km b v) [] z0,?_,m1.bnd (m2.bnd (m3.bnd (m4.bnd ((Sim.nay _ _ _).bnd (.ret _ _ _)))))⟩
 have h5:=RI n it (by omega) hi.nm
 rw[fi]
 simp only[<-Gj,<-vY,<-z_,h1,h2,h3,h4,TR,TU,XC,XD,TT,T1,TY]
 cases b<;>cases w4<;>simp only[TR,TU,XC,XD,TT,T1,TY,h5,UD,Ux]<;>rfl
def my:Nat->List BA->Ps (List BA)
 |0,_=>λ_=>none
 |k+1,acc=>bnd dL λa=>bnd (vu cg) λc=>if c=true then my k (acc++[a])else ret (acc++[a])
def Fb:Ps (List BA):=λl=>my (l.length+1) [] l
def xr(it:List Item):Ps Item:=bnd (cu [gr]) λ_=>bnd dL λn=>bnd (cu [oB]) λ_=>bnd Fb λns=>bnd (cu [cB,sB]) λ_=>
 bnd (nay (jA ns||gW it ns)) λ_=>ret (Item.mk 1 n 0 ns z0)
def fresh(it:List Item)(k:Int)(x:Item):Ps Item:=bnd (nay (eJ it k x.name0)) λ_=>ret x
theorem ju{w:BA}{l:List BA}(h:dB w l=true):l.tail.length+1=l.length:=by
 obtain⟨r,rfl⟩:=jF h;rfl
theorem Pu(it:List Item)(x:Item)(a:Int)(nm:BA)(b c d:Int)(e:Bool)(ps:List aa):∀(m:Nat) (l:List BA) (w:Bool) (acc:List BA),l.length<=m->acc.length+l.length<=10000000->
 ∃ns l' w',bZ (l,w,x,a,nm,b,c,d,e,acc,ps,it,())=some (l',w',x,a,nm,b,c,d,e,ns,ps,it,())/\ns.length<=acc.length+l.length+1/\l'<:+l/\∀k,l.length<k->Sim (my k acc) l w ns l' w':=by
 intro m
 induction m with
 |zero=>
  intro l w acc hl hb
  have hl0:l=[]:=U3.1 (by omega)
  subst hl0
  refine⟨acc++[e0],[],w|| !bO (hd []),?_,by simp,Ur _,λk hk=> ?_⟩
  ·have ht:acc.length+1<=4294967296:=by omega
   rw[bZ]
   simp only[DE,<-dF,f156 cg gg,TR,TU,XC,XD,TT,T1,TY,T5,ht]
   rfl
  ·obtain⟨k,rfl⟩:∃j,k=j+1:=⟨k-1,by omega⟩
   exact Sim.wrong _ (Ur _) rfl|>.strict (λ_=>by cases w<;>rfl) (λ_=>rfl)
 |succ m ih=>
  intro l w acc hl hb
  have h2:=DE l w it
  have m2:=Sim.name l w
  obtain⟨n,hn⟩:∃n,hd l=n:=⟨_,rfl⟩
  obtain⟨l2,hl2⟩:∃l2,cp l=l2:=⟨_,rfl⟩
  obtain⟨w2,hw2⟩:∃w2,(w|| !bO n)=w2:=⟨_,rfl⟩
  rw[hn,hl2,hw2]at h2 m2
  have hlen2:=m2.len
  have h3:=f156 cg gg l2 w2 it
  have m3:=Sim.may cg l2 w2
  have ht:acc.length+1<=4294967296:=by omega
  cases hb2:dB cg l2 with
  |false=>
   rw[hb2,XF Ul]at h3 m3
   refine⟨acc++[n],l2,w2,?_,by rw[Uc,T5];omega,m2.suf,λk hk=> ?_⟩
   ·rw[bZ]
    simp only[h2,<-dF,h3,TR,TU,XC,XD,TT,T1,TY,T5,ht]
   ·obtain⟨k,rfl⟩:∃j,k=j+1:=⟨k-1,by omega⟩
    exact m2.bnd (m3.bnd (.ret _ _ _))
  |true=>
   rw[hb2,XG rfl]at h3 m3
   have htl:=ju hb2
   obtain⟨ns,l',w',i1,i2,i3,i4⟩:=ih l2.tail w2 (acc++[n]) (by omega) (by rw[Uc,T5];omega)
   refine⟨ns,l',w',?_,by rw[Uc,T5]at i2;omega,i3.trans ((VQ l2).trans m2.suf),λk hk=> ?_⟩
   ·rw[bZ]
    simp only[h2,<-dF,h3,TR,TU,XC,XD,TT,T1,TY,T5,ht]
    exact i1
   ·obtain⟨k,rfl⟩:∃j,k=j+1:=⟨k-1,by omega⟩
    exact m2.bnd (m3.bnd (i4 k (by omega)))
theorem Sim.fuel{α:Type}{p:Nat->Ps α}{l l':List BA}{w w':Bool}{a:α}(h:Sim (p (l.length+1)) l w a l' w'):Sim (λl=>p (l.length+1) l) l w a l' w':=h.congr rfl
theorem f123(it:List Item)(hi:eL it)(l:List BA)(hl:l.length<=1000000)(w:Bool):∃l' w' x,fj (l,w,it,())=some (l',w',it,x,())/\Sim (bnd (xr it) (fresh it 1)) l w x l' w':=by
 have hlen:=hi.len
 obtain⟨l1,w1,h1,m1⟩:=f154 [gr] (by simp[mM]) (by simp) l w it
 have h2:=DE l1 w1 it
 have m2:=Sim.name l1 w1
 obtain⟨n,hn⟩:∃n,hd l1=n:=⟨_,rfl⟩
 obtain⟨l2,hl2⟩:∃l2,cp l1=l2:=⟨_,rfl⟩
 obtain⟨w2,hw2⟩:∃w2,(w1|| !bO n)=w2:=⟨_,rfl⟩
 rw[hn,hl2,hw2]at h2 m2
 obtain⟨l3,w3,h3,m3⟩:=f154 [oB] (by simp[OA]) (by simp) l2 w2 it
 have hlen3:=UW (UW m3.len m2.len) m1.len
 obtain⟨ns,l4,w4,h4,hns,_,m4⟩:=Pu it (Item.mk 0 (TZ #[]) 0 [] (aa.mk 0 0 false [])) 1 n 0 0 0 false [] _ l3 w3 [] (Up _) (by simp only[Uv];omega)
 have m4:=Sim.fuel (p:=λk=>my k []) (m4 _ (V7 _))
 rw[Uv]at hns
 obtain⟨l5,w5,h5,m5⟩:=f154 [cB,sB] (by simp[HN,GO]) (by simp) l4 w4 it
 have main0:Sim (xr it) l w (Item.mk 1 n 0 ns z0) l5 (w5||(jA ns||gW it ns)):=by unfold xr;exact m1.bnd (m2.bnd (m3.bnd (m4.bnd (m5.bnd ((Sim.nay _ _ _).bnd (.ret _ _ _))))))
 have main1:Sim (fresh it 1 (Item.mk 1 n 0 ns z0)) l5 (w5||(jA ns||gW it ns)) (Item.mk 1 n 0 ns z0) l5 (w5||(jA ns||gW it ns)||eJ it 1 n):=(Sim.nay _ _ _).bnd (.ret _ _ _)
 have main:=main0.bnd main1
 refine⟨l5,_,_,?_,main⟩
 have h6:=Kd 1 n it (by omega)
 have h7:=f160 ns (by omega)
 have h8:=Se ns (by omega) it (by omega) hi.nm
 rw[fj]
 simp only[<-nd,<-OK,<-Gi,<-rb,h1,h2,h3,h4,h5,TR,TU,XC,XD,TT,T1,TY]
 cases w5 with
 |true=>simp only[TR,TU,XC,XD,TT,T1,TY,UD];rfl
 |false=>
  cases hh:eJ it 1 n with
  |true=>simp only[TR,TU,XC,XD,TT,T1,TY,h6,hh,Vb];rfl
  |false=>
   cases hd:jA ns with
   |true=>simp only[TR,TU,XC,XD,TT,T1,TY,h6,hh,h7,hd,Vb,UD];rfl
   |false=>simp only[TR,TU,XC,XD,TT,T1,TY,h6,hh,h7,hd,h8,Ux,U_];rfl
def wv(mx:Int)(t:aa)(b:Bool):Ps aa:=if b=true then bnd K_ λv=>bnd (nay (decide (v<1)||decide (v>mx))) λ_=>bnd (cu [LR]) λ_=>ret (aa.mk 5 v false [t])else ret t
def j8(it:List Item)(mx:Int):Ps (aa×BA):=bnd (qT it false) λt=>bnd dL λn=>bnd (vu tQ) λb=>bnd (wv mx t b) λt'=>bnd (cu [sB]) λ_=>ret (t',n)
def bH(it:List Item)(mx:Int):Nat->List BA->List aa->Ps (List BA×List aa)
 |0,_,_=>λ_=>none
 |k+1,ns,ps=>λl=>if dB cB l=true then some ((ns,ps),l)else bnd (j8 it mx) (λp=>bH it mx k (ns++[p.2]) (ps++[p.1])) l
def lr(it:List Item)(mx:Int):Ps (List BA×List aa):=λl=>bH it mx (l.length+1) [] [] l
def dI(it:List Item)(mx:Int):Ps Item:=bnd (cu [bF]) λ_=>bnd dL λn=>bnd (cu [oB]) λ_=>bnd (lr it mx) λp=>bnd (cu [cB,sB]) λ_=>
 bnd (nay (p.1.isEmpty||jA p.1)) λ_=>ret (Item.mk 2 n 0 p.1 (aa.mk 6 0 false p.2))
def Lep{α:Type}(p:Ps α):Prop:=∀l a r,p l=some (a,r)->r.length<=l.length
def Ltp{α:Type}(p:Ps α):Prop:=∀l a r,p l=some (a,r)->r.length<l.length
theorem ap{α β:Type}{p:Ps α}{q:α->Ps β}{l:List BA}{c:β}{r:List BA}(h:bnd p q l=some (c,r)):∃a r1,p l=some (a,r1)/\q a r1=some (c,r):=by
 unfold bnd at h
 cases hp:p l with
 |none=>rw[hp]at h;cases h
 |some x=>obtain⟨a,r1⟩:=x;rw[hp]at h;exact⟨a,r1,rfl,h⟩
theorem Ltp.le{α:Type}{p:Ps α}(h:Ltp p):Lep p:=λl a r hp=>Nat.le_of_lt (h l a r hp)
theorem Lep.bnd{α β:Type}{p:Ps α}{q:α->Ps β}(h1:Lep p)(h2:∀a,Lep (q a)):Lep (bnd p q):=λl c r h=>by
 obtain⟨a,r1,e1,e2⟩:=ap h
 have:=h1 _ _ _ e1;have:=h2 _ _ _ _ e2;omega
theorem Ltp.bnd{α β:Type}{p:Ps α}{q:α->Ps β}(h1:Ltp p)(h2:∀a,Lep (q a)):Ltp (bnd p q):=λl c r h=>by
 obtain⟨a,r1,e1,e2⟩:=ap h
 have:=h1 _ _ _ e1;have:=h2 _ _ _ _ e2;omega
theorem Ltp.bnd'{α β:Type}{p:Ps α}{q:α->Ps β}(h1:Lep p)(h2:∀a,Ltp (q a)):Ltp (Proofs.YtpelkenpapfadaaGreatDoor.bnd p q):=λl c r h=>by
 obtain⟨a,r1,e1,e2⟩:=ap h
 have:=h1 _ _ _ e1;have:=h2 _ _ _ _ e2;omega
theorem Lep.ret{α:Type}(a:α):Lep (ret a):=λl b r h=>by cases h;exact Up _
theorem Lep.nay(b:Bool):Lep (nay b):=λl a r h=>by
 unfold Proofs.YtpelkenpapfadaaGreatDoor.nay at h;split at h;cases h;cases h;exact Up _
theorem Lep.may(w:BA):Lep (vu w):=λl a r h=>by
 unfold vu at h;cases h;exact(sK w l).length_le
theorem Ltp.want(w:BA):Ltp (pQ w):=λl a r h=>by
 unfold pQ at h;split at h
 ·rename_i hh;cases h;have:=ju hh;omega
 ·cases h
theorem Lep.wants:∀ws:List BA,Lep (cu ws)
 |[]=>Lep.ret _
 |w::r=>(Ltp.want w).le.bnd λ_=>Lep.wants r
theorem Ltp.word:Ltp tm:=λl a r h=>by
 cases l with
 |nil=>cases h
 |cons s t=>
  rw[show tm (s::t)=if s=e0 then none else some (s,t)from rfl]at h
  split at h
  ·cases h
  ·cases h;simp
theorem Ltp.name:Ltp dL:=λl a r h=>by
 cases l with
 |nil=>cases h
 |cons s t=>
  rw[show dL (s::t)=if bO s=true then some (s,t)else none from rfl]at h
  split at h
  ·cases h;simp
  ·cases h
theorem Ltp.num:Ltp K_:=λl a r h=>by
 cases l with
 |nil=>cases h
 |cons s t=>
  rw[show K_ (s::t)=if eR s=true then some (pM s,t)else none from rfl]at h
  split at h
  ·cases h;simp
  ·cases h
theorem Lep.stars(t:aa):Lep (zG t):=λl a r h=>by
 have h:some (Proofs.YtpelkenpapfadaaGreatDoor.stars t l)=some (a,r):=h
 injection h with h
 have:=(qg l t).length_le
 rw[h]at this;exact this
theorem Ltp.base(it:List Item):Ltp (pP it):=by
 rw[eB]
 refine Ltp.bnd' (Lep.may _) λu=>Ltp.word.bnd λs=> ?_
 unfold dw
 (repeat' split)<;>first
   |exact Lep.ret _
   |(refine(Lep.nay _).bnd λ_=> ?_
     (repeat' split)<;>first
      |exact Lep.ret _
      |exact Ltp.name.le.bnd λn=>(Lep.nay _).bnd λ_=>Lep.ret _
      |exact(Lep.nay _).bnd λ_=>Lep.ret _)
theorem Ltp.kind(it:List Item)(b:Bool):Ltp (qT it b):=(Ltp.base it).bnd λt=>(Lep.stars t).bnd λ_=>(Lep.nay _).bnd λ_=>Lep.ret _
theorem Lep.arr(mx:Int)(t:aa)(b:Bool):Lep (wv mx t b):=by
 unfold wv;split
 ·exact Ltp.num.le.bnd λv=>(Lep.nay _).bnd λ_=>(Lep.wants _).bnd λ_=>Lep.ret _
 ·exact Lep.ret _
theorem Ltp.part(it:List Item)(mx:Int):Ltp (j8 it mx):=(Ltp.kind it false).bnd λt=>Ltp.name.le.bnd λn=>(Lep.may _).bnd λb=>(Lep.arr _ _ _).bnd λt'=>(Lep.wants _).bnd λ_=>Lep.ret _
theorem Sim.lt{α:Type}{p:Ps α}{l l1:List BA}{a:α}(h:Sim p l false a l1 false)(hp:Ltp p):l1.length<l.length:=by
 cases e:p l with
 |none=>have:=h.no rfl e;cases this
 |some x=>
  obtain⟨b,r⟩:=x
  obtain⟨_,rfl,rfl⟩:=h.ok rfl b r e
  exact hp _ _ _ e
def iM:Int:=1000000000
theorem Pv(it:List Item)(hi:eL it)(x:Item)(a:Int)(nm:BA)(b c d:Int)(e:Bool):∀(m:Nat) (l:List BA) (w:Bool) (ns:List BA) (ps:List aa),tO l->(w=true\/l.length<=m)->ns.length+l.length<=10000000->ps.length+l.length<=10000000->
 ∃ns' ps' l' w',aS (l,w,x,a,nm,b,c,d,e,ns,ps,it,())=some (l',w',x,a,nm,b,c,d,e,ns',ps',it,())/\ns'.length<=ns.length+l.length+1/\l'<:+l/\∀k,l.length<k->Sim (bH it iM k ns ps) l w (ns',ps') l' w':=by
 intro m
 induction m with
 |zero=>
  intro l w ns ps hg hm hb hb2
  cases w with
  |true=>
   refine⟨ns,ps,l,true,?_,by omega,Ur _,λk hk=>Sim.any _ (Ur _)⟩
   rw[aS]
   simp only[TR,TU,XC,XD,TT,T1,TY]
  |false=>
   have hl0:l=[]:=U3.1 (by rcases hm with h|h;cases h;omega)
   subst hl0
   obtain⟨l1,w1,t,h1,m1⟩:=f163 it hi false [] false
   have hl1:l1=[]:=U3.1 (by have:=m1.len;simpa using this)
   subst hl1
   have hw1:w1=true:=m1.no rfl rfl
   subst hw1
   obtain⟨l5,w5,h5,m5⟩:=f154 [sB] (by simp[GO]) (by simp) [] true it
   have hl5:l5=[]:=U3.1 (by have:=m5.len;simpa using this)
   have hw5:w5=true:=m5.bad rfl
   subst hl5 hw5
   have ht:ns.length+1<=4294967296:=by omega
   have ht2:ps.length+1<=4294967296:=by omega
   refine⟨ns++[e0],ps++[t],[],true,?_,by simp,Ur _,λk hk=> ?_⟩
   ·rw[aS]
    have hd0:hd []=e0:=rfl
    have hdw:cp []=[]:=rfl
    have hz:decide (e0=cB)=false:=decide_eq_false λh=>HN h.symm
    have ha:dB tQ []=false:=rfl
    simp only[TR,TU,XC,XD,TT,T1,TY,Ke,hd0,aI,<-Gi,hz,h1,DE,hdw,T5,ht,<-se,f156 tQ zz,ha,<-rb,h5,ht2,UD]
    rw[aS]
    simp only[TR,TU,XC,XD,TT,T1,TY]
   ·obtain⟨k,rfl⟩:∃j,k=j+1:=⟨k-1,by omega⟩
    exact Sim.wrong _ (Ur _) rfl
 |succ m ih=>
  intro l w ns ps hg hm hb hb2
  cases w with
  |true=>
   refine⟨ns,ps,l,true,?_,by omega,Ur _,λk hk=>Sim.any _ (Ur _)⟩
   rw[aS]
   simp only[TR,TU,XC,XD,TT,T1,TY]
  |false=>
   have hml:l.length<=m+1:=by rcases hm with h|h;cases h;exact h
   have hat:=A7 HN l
   cases hc:dB cB l with
   |true=>
    rw[hc]at hat
    refine⟨ns,ps,l,false,?_,by omega,Ur _,λk hk=> ?_⟩
    ·rw[aS]
     simp only[TR,TU,XC,XD,TT,T1,TY,Ke,aI,<-Gi,hat]
    ·obtain⟨k,rfl⟩:∃j,k=j+1:=⟨k-1,by omega⟩
     exact(Sim.ret (ns,ps) l false).congr (by unfold bH;rw[hc,XG rfl];rfl)
   |false=>
    rw[hc]at hat
    obtain⟨l1,w1,t,h1,m1⟩:=f163 it hi false l false
    have h2:=DE l1 w1 it
    have m2:=Sim.name l1 w1
    obtain⟨n,hn⟩:∃n,hd l1=n:=⟨_,rfl⟩
    obtain⟨l2,hl2⟩:∃l2,cp l1=l2:=⟨_,rfl⟩
    obtain⟨w2,hw2⟩:∃w2,(w1|| !bO n)=w2:=⟨_,rfl⟩
    rw[hn,hl2,hw2]at h2 m2
    have h3:=f156 tQ zz l2 w2 it
    have m3:=Sim.may tQ l2 w2
    have ht:ns.length+1<=4294967296:=by omega
    have ht2:ps.length+1<=4294967296:=by omega
    have arr:∃l4 w4 t4,Sim (wv iM t (dB tQ l2)) (if dB tQ l2=true then l2.tail else l2) w2 t4 l4 w4/\
     ∀l5 w5,bv ([sB],l4,w4,it,())=some (l5,w5,it,())->aS (l,false,x,a,nm,b,c,d,e,ns,ps,it,())=aS (l5,w5,x,a,nm,b,c,d,e,ns++[n],ps++[t4],it,()):=by
     cases hb3:dB tQ l2 with
     |false=>
      rw[hb3,XF Ul]at h3
      refine⟨l2,w2,t,?_,λl5 w5 h5=> ?_⟩
      ·rw[XF Ul];exact .ret _ _ _
      ·conv=>lhs;rw[aS]
       simp only[TR,TU,XC,XD,TT,T1,TY,Ke,aI,<-Gi,hat,h1,h2,T5,ht,<-se,h3,<-rb,h5,ht2]
     |true=>
      rw[hb3,XG rfl]at h3
      rw[XG rfl]
      have g2:tO l2.tail:=hg.suf (((VQ l2).trans m2.suf).trans m1.suf)
      have h4:=RH l2.tail g2 w2 it
      have m4:=Sim.num l2.tail w2 (pM (hd l2.tail)) λ_=>rfl
      have hvb:eR (hd l2.tail)=true->0<=pM (hd l2.tail)/\pM (hd l2.tail)<1000000000:=by
       intro h
       rcases xI g2 with e|e
       ·rw[e]at h;cases h
       ·exact HQ e.1 h
      obtain⟨v,hv⟩:∃v,pM (hd l2.tail)=v:=⟨_,rfl⟩
      obtain⟨l4,hl4⟩:∃l4,cp l2.tail=l4:=⟨_,rfl⟩
      obtain⟨w4,hw4⟩:∃w4,(w2|| !eR (hd l2.tail))=w4:=⟨_,rfl⟩
      rw[hv]at hvb
      rw[hv,hl4,hw4]at h4 m4
      obtain⟨l6,w6,h6,m6⟩:=f154 [LR] (by simp[Jl]) (by simp) l4 (w4||decide (v<1)) it
      refine⟨l6,w6,aa.mk 5 v false [t],?_,λl5 w5 h5=> ?_⟩
      ·have hst:Sim (nay (decide (v<1)||decide (v>iM))) l4 w4 () l4 (w4||decide (v<1)):=by
        refine(Sim.nay _ _ _).strict (λh=> ?_) λh=> ?_
        ·cases hw4':w4 with
         |true=>rfl
         |false=>
          rw[hw4',Ux]at h
          have hno:eR (hd l2.tail)=true:=by
           rw[hw4']at hw4
           cases hq:eR (hd l2.tail)with
           |true=>rfl
           |false=>rw[hq]at hw4;cases w2<;>cases hw4
          have:=hvb hno
          have h2:decide (v>iM)=false:=decide_eq_false (by unfold iM;omega)
          rw[h2,U_]at h
          rw[h];rfl
        ·cases w4 with
         |true=>rfl
         |false=>rw[Ux]at h⊢;rw[h];rfl
       unfold wv
       rw[XG rfl]
       exact m4.bnd (hst.bnd (m6.bnd (.ret _ _ _)))
      ·conv=>lhs;rw[aS]
       simp only[TR,TU,XC,XD,TT,T1,TY,Ke,aI,<-Gi,hat,h1,h2,T5,ht,<-se,h3,h4]
       cases w4 with
       |true=>
        rw[UD]at h6
        simp only[TR,TU,XC,XD,TT,T1,TY,<-vZ,h6,<-rb,h5,ht2]
       |false=>
        rw[Ux]at h6
        simp only[TR,TU,XC,XD,TT,T1,TY,<-vZ,h6,<-rb,h5,ht2]
    obtain⟨l4,w4,t4,m4,harr⟩:=arr
    obtain⟨l5,w5,h5,m5⟩:=f154 [sB] (by simp[GO]) (by simp) l4 w4 it
    have hpart:Sim (j8 it iM) l false (t4,n) l5 w5:=m1.bnd (m2.bnd (m3.bnd (m4.bnd (m5.bnd (.ret _ _ _)))))
    have hnative:=harr l5 w5 h5
    have hl5:=hpart.len
    have hlt:w5=true\/l5.length<l.length:=by
     cases w5 with
     |true=>exact .inl rfl
     |false=>exact .inr (hpart.lt (Ltp.part it iM))
    rcases Decidable.em (w5=true)with hw5|hw5
    ·subst hw5
     refine⟨ns++[n],ps++[t4],l5,true,?_,by rw[Uc,T5];omega,hpart.suf,λk hk=> ?_⟩
     ·rw[hnative,aS]
      simp only[TR,TU,XC,XD,TT,T1,TY]
     ·obtain⟨k,rfl⟩:∃j,k=j+1:=⟨k-1,by omega⟩
      refine(hpart.bnd (q:=λp=>bH it iM k (ns++[p.2]) (ps++[p.1])) (Sim.any _ (Ur _))).congr (by conv=>lhs;unfold bH;rw[hc,XF Ul])
    ·have hlt:l5.length<l.length:=by rcases hlt with h|h;exact(hw5 h).elim;exact h
     obtain⟨ns',ps',l',w',i1,i2,i3,i4⟩:=ih l5 w5 (ns++[n]) (ps++[t4]) (hg.suf hpart.suf) (.inr (by omega)) (by simp only[Uc,T5];omega) (by simp only[Uc,T5];omega)
     refine⟨ns',ps',l',w',by rw[hnative,i1],?_,i3.trans hpart.suf,λk hk=> ?_⟩
     ·rw[Uc,T5]at i2;omega
     ·obtain⟨k,rfl⟩:∃j,k=j+1:=⟨k-1,by omega⟩
      exact(hpart.bnd (q:=λp=>bH it iM k (ns++[p.2]) (ps++[p.1])) (i4 k (by omega))).congr (by conv=>lhs;unfold bH;rw[hc,XF Ul])
theorem f124(it:List Item)(hi:eL it)(l:List BA)(hg:tO l)(hl:l.length<=1000000)(w:Bool):∃l' w' x,fk (l,w,it,())=some (l',w',it,x,())/\Sim (bnd (dI it iM) (fresh it 2)) l w x l' w':=by
 have hlen:=hi.len
 obtain⟨l1,w1,h1,m1⟩:=f154 [bF] (by simp[gA]) (by simp) l w it
 have h2:=DE l1 w1 it
 have m2:=Sim.name l1 w1
 obtain⟨n,hn⟩:∃n,hd l1=n:=⟨_,rfl⟩
 obtain⟨l2,hl2⟩:∃l2,cp l1=l2:=⟨_,rfl⟩
 obtain⟨w2,hw2⟩:∃w2,(w1|| !bO n)=w2:=⟨_,rfl⟩
 rw[hn,hl2,hw2]at h2 m2
 obtain⟨l3,w3,h3,m3⟩:=f154 [oB] (by simp[OA]) (by simp) l2 w2 it
 have s123:=(m3.suf.trans m2.suf).trans m1.suf
 have hlen3:=s123.length_le
 obtain⟨ns,ps,l4,w4,h4,hns,_,m4⟩:=Pv it hi (Item.mk 0 (TZ #[]) 0 [] (aa.mk 0 0 false [])) 2 n 0 6 0 false _ l3 w3 [] [] (hg.suf s123) (.inr (Up _)) (by simp only[Uv];omega) (by simp only[Uv];omega)
 have m4:=Sim.fuel (p:=λk=>bH it iM k [] []) (m4 _ (V7 _))
 rw[Uv]at hns
 obtain⟨l5,w5,h5,m5⟩:=f154 [cB,sB] (by simp[HN,GO]) (by simp) l4 w4 it
 have main0:Sim (dI it iM) l w (Item.mk 2 n 0 ns (aa.mk 6 0 false ps)) l5 (w5||(ns.isEmpty||jA ns)):=by unfold dI;exact m1.bnd (m2.bnd (m3.bnd (m4.bnd (m5.bnd ((Sim.nay _ _ _).bnd (.ret _ _ _))))))
 have main1:Sim (fresh it 2 (Item.mk 2 n 0 ns (aa.mk 6 0 false ps))) l5 (w5||(ns.isEmpty||jA ns)) (Item.mk 2 n 0 ns (aa.mk 6 0 false ps)) l5 (w5||(ns.isEmpty||jA ns)||eJ it 2 n):=(Sim.nay _ _ _).bnd (.ret _ _ _)
 have main:=main0.bnd main1
 refine⟨l5,_,_,?_,main⟩
 have h6:=Kd 2 n it (by omega)
 have h7:=f160 ns (by omega)
 have hz:((ns.length:Int)==0)=ns.isEmpty:=by
  cases ns with
  |nil=>rfl
  |cons y r=>exact beq_eq_false_iff_ne.2 (by rw[Ue];omega)
 rw[fk]
 simp only[<-gV,<-OK,<-Gi,<-rb,h1,h2,h3,h4,h5,TR,TU,XC,XD,TT,T1,TY,hz]
 cases w5 with
 |true=>simp only[TR,TU,XC,XD,TT,T1,TY,UD]
 |false=>
  cases he:ns.isEmpty with
  |true=>simp only[TR,TU,XC,XD,TT,T1,TY,UD,Vb]
  |false=>
   cases hd:jA ns with
   |true=>simp only[TR,TU,XC,XD,TT,T1,TY,h7,hd,Vb,UD]
   |false=>simp only[TR,TU,XC,XD,TT,T1,TY,h6,h7,hd,Ux,U_]
def Fa(it:List Item):Nat->List BA->List aa->Ps (List BA×List aa)
 |0,_,_=>λ_=>none
 |k+1,ns,ps=>bnd (qT it false) λt=>bnd dL λn=>bnd (vu cg) λc=>if c=true then Fa it k (ns++[n]) (ps++[t])else ret (ns++[n],ps++[t])
def vW:List BA->Bool
 |a::b::_=>decide (a=co)&&decide (b=du)
 |_=>false
def kj(it:List Item):Ps (List BA×List aa):=λl=>if vW l=true then some (([],[]),l.tail)else Fa it (l.length+1) [] [] l
def xu(it:List Item):Ps Item:=bnd (qT it true) λt=>bnd dL λn=>bnd (cu [yV]) λ_=>bnd (kj it) λp=>bnd (cu [du,sB]) λ_=>
 bnd (nay (jA p.1)) λ_=>ret (Item.mk 3 n 0 p.1 (aa.mk 6 0 false (p.2++[t])))
theorem Pw(it:List Item)(hi:eL it)(x:Item)(y:aa)(a:Int)(nm:BA)(b c d:Int)(e:Bool):∀(m:Nat) (l:List BA) (w:Bool) (ns:List BA) (ps:List aa),l.length<=m->ns.length+l.length<=10000000->ps.length+l.length<=10000000->
 ∃ns' ps' l' w',b9 (l,w,x,y,a,nm,b,c,d,e,ns,ps,it,())=some (l',w',x,y,a,nm,b,c,d,e,ns',ps',it,())/\ns'.length<=ns.length+l.length+1/\ps'.length<=ps.length+l.length+1/\l'<:+l/\∀k,l.length<k->Sim (Fa it k ns ps) l w (ns',ps') l' w':=by
 intro m
 induction m with
 |zero=>
  intro l w ns ps hl hb hb2
  have hl0:l=[]:=U3.1 (by omega)
  subst hl0
  obtain⟨l1,w1,t,h1,m1⟩:=f163 it hi false [] w
  have hl1:l1=[]:=U3.1 (by have:=m1.len;simpa using this)
  subst hl1
  have hn:bO (hd [])=false:=rfl
  have m2:=Sim.name [] w1
  have m3:=Sim.may cg [] (w1|| !bO (hd []))
  have ht:ns.length+1<=4294967296:=by omega
  have ht2:ps.length+1<=4294967296:=by omega
  refine⟨ns++[e0],ps++[t],[],w1|| !bO (hd []),?_,by simp,by simp,Ur _,λk hk=> ?_⟩
  ·have ha:dB cg []=false:=rfl
   have hdw:cp []=[]:=rfl
   rw[b9]
   simp only[h1,DE,hdw,<-dF,f156 cg gg,ha,TR,TU,XC,XD,TT,T1,TY,T5,ht,ht2]
   rfl
  ·obtain⟨k,rfl⟩:∃j,k=j+1:=⟨k-1,by omega⟩
   exact m1.bnd (m2.bnd (m3.bnd (.ret _ _ _)))
 |succ m ih=>
  intro l w ns ps hl hb hb2
  obtain⟨l1,w1,t,h1,m1⟩:=f163 it hi false l w
  have h2:=DE l1 w1 it
  have m2:=Sim.name l1 w1
  obtain⟨n,hn⟩:∃n,hd l1=n:=⟨_,rfl⟩
  obtain⟨l2,hl2⟩:∃l2,cp l1=l2:=⟨_,rfl⟩
  obtain⟨w2,hw2⟩:∃w2,(w1|| !bO n)=w2:=⟨_,rfl⟩
  rw[hn,hl2,hw2]at h2 m2
  have hlen2:=UW m2.len m1.len
  have h3:=f156 cg gg l2 w2 it
  have m3:=Sim.may cg l2 w2
  have ht:ns.length+1<=4294967296:=by omega
  have ht2:ps.length+1<=4294967296:=by omega
  cases hb3:dB cg l2 with
  |false=>
   rw[hb3,XF Ul]at h3 m3
   refine⟨ns++[n],ps++[t],l2,w2,?_,by rw[Uc,T5];omega,by rw[Uc,T5];omega,m2.suf.trans m1.suf,λk hk=> ?_⟩
   ·rw[b9]
    simp only[h1,h2,<-dF,h3,TR,TU,XC,XD,TT,T1,TY,T5,ht,ht2]
   ·obtain⟨k,rfl⟩:∃j,k=j+1:=⟨k-1,by omega⟩
    exact m1.bnd (m2.bnd (m3.bnd (.ret _ _ _)))
  |true=>
   rw[hb3,XG rfl]at h3 m3
   have htl:=ju hb3
   obtain⟨ns',ps',l',w',i1,i2,i2',i3,i4⟩:=ih l2.tail w2 (ns++[n]) (ps++[t]) (by omega) (by rw[Uc,T5];omega) (by rw[Uc,T5];omega)
   refine⟨ns',ps',l',w',?_,by rw[Uc,T5]at i2;omega,by rw[Uc,T5]at i2';omega,i3.trans ((VQ l2).trans (m2.suf.trans m1.suf)),λk hk=> ?_⟩
   ·rw[b9]
    simp only[h1,h2,<-dF,h3,TR,TU,XC,XD,TT,T1,TY,T5,ht,ht2]
    exact i1
   ·obtain⟨k,rfl⟩:∃j,k=j+1:=⟨k-1,by omega⟩
    exact m1.bnd (m2.bnd (m3.bnd (i4 k (by omega))))
theorem vX{l:List BA}(h:vW l=true):∃r,l=co::du::r:=by
 match l,h with
 |a::b::r,h=>
  unfold vW at h
  rw[Uf,XE,XE]at h
  exact⟨r,by rw[h.1,h.2]⟩
theorem f125(it:List Item)(hi:eL it)(l:List BA)(hl:l.length<=1000000)(w:Bool):∃l' w' x,dR (l,w,it,())=some (l',w',it,x,())/\Sim (bnd (xu it) (fresh it 3)) l w x l' w':=by
 have hlen:=hi.len
 obtain⟨l1,w1,t,h1,m1⟩:=f163 it hi true l w
 have h2:=DE l1 w1 it
 have m2:=Sim.name l1 w1
 obtain⟨n,hn⟩:∃n,hd l1=n:=⟨_,rfl⟩
 obtain⟨l2,hl2⟩:∃l2,cp l1=l2:=⟨_,rfl⟩
 obtain⟨w2,hw2⟩:∃w2,(w1|| !bO n)=w2:=⟨_,rfl⟩
 rw[hn,hl2,hw2]at h2 m2
 obtain⟨l3,w3,h3,m3⟩:=f154 [yV] (by simp[EN]) (by simp) l2 w2 it
 have hlen3:=UW (UW m3.len m2.len) m1.len
 have args:∃ns ps l4 w4,Sim (kj it) l3 w3 (ns,ps) l4 w4/\ns.length<=2000000/\ps.length<=2000000/\∀l5 w5,bv ([du,sB],l4,w4,it,())=some (l5,w5,it,())->
  dR (l,w,it,())=some (l5,w5||jA ns||eJ it 3 n,it,Item.mk 3 n 0 ns (aa.mk 6 0 false (ps++[t])),()):=by
  cases hv:vW l3 with
  |true=>
   obtain⟨r,rfl⟩:=vX hv
   refine⟨[],[],du::r,w3,?_,by simp,by simp,λl5 w5 h5=> ?_⟩
   ·refine⟨WC _ _,id,λhw b r' hb=> ?_,λhw hb=> ?_⟩
    ·unfold kj at hb;rw[hv,XG rfl]at hb;cases hb;exact⟨hw,rfl,rfl⟩
    ·unfold kj at hb;rw[hv,XG rfl]at hb;cases hb
   ·have c1:¬(((co::du::r).length:Int)<2):=by simp only[Ue];omega
    have c2:(co::du::r)[U1 0]?=some co:=rfl
    have c3:(co::du::r)[U1 1]?=some du:=rfl
    have c4:hd (co::du::r)=co:=rfl
    have c5:cp (co::du::r)=du::r:=rfl
    have h7:=f160 [] (by simp)
    have h8:jA []=false:=rfl
    have h6:=Kd 3 n it (by omega)
    rw[dR]
    simp only[h1,h2,<-tM,h3,TR,TU,XC,XD,TT,T1,TY,c1,c2,c3,XJ,aI,<-jy,<-tN,XI,GN,c5,<-rb,h5,Uv,T5,show(0+1<=4294967296)=True by simp]
    cases w5 with
    |true=>simp only[TR,TU,XC,XD,TT,T1,TY,UD]
    |false=>simp only[TR,TU,XC,XD,TT,T1,TY,h7,h8,h6,Ux]
  |false=>
   obtain⟨ns,ps,l4,w4,h4,hns,hps,_,m4⟩:=Pw it hi (Item.mk 0 (TZ #[]) 0 [] (aa.mk 0 0 false [])) t 3 n 0 6 0 false _ l3 w3 [] [] (Up _) (by simp only[Uv];omega) (by simp only[Uv];omega)
   rw[Uv]at hns hps
   refine⟨ns,ps,l4,w4,(m4 _ (V7 _)).congr (by unfold kj;rw[hv,XF Ul]),by omega,by omega,λl5 w5 h5=> ?_⟩
   have ht2:ps.length+1<=4294967296:=by omega
   have h7:=f160 ns (by omega)
   have h6:=Kd 3 n it (by omega)
   rw[dR]
   simp only[h1,h2,<-tM,h3,TR,TU,XC,XD,TT,T1,TY,aI,<-jy,<-tN]
   have fin:(if w5=true then some ((l5,true,Item.mk 0 (TZ #[]) 0 [] (aa.mk 0 0 false []),(3:Int),n,(0:Int),(6:Int),(0:Int),false,ns,ps++[t],it,()):List BA×Bool×Item×Int×BA×Int×Int×Int×Bool×List BA×List aa×List Item×Unit)
    else(xT (ns,())).bind λx6=>if(!x6.1)=true then some (l5,true,Item.mk 0 (TZ #[]) 0 [] (aa.mk 0 0 false []),(3:Int),n,(0:Int),(6:Int),(0:Int),false,ns,ps++[t],it,())
     else(dt (3,n,it,())).bind λx7=>if x7.2.1.length=it.length then some (l5,x7.1,Item.mk 0 (TZ #[]) 0 [] (aa.mk 0 0 false []),(3:Int),n,(0:Int),(6:Int),(0:Int),false,ns,ps++[t],x7.2.1,())else none)
    =some (l5,w5||jA ns||eJ it 3 n,Item.mk 0 (TZ #[]) 0 [] (aa.mk 0 0 false []),3,n,0,6,0,false,ns,ps++[t],it,()):=by
    cases w5 with
    |true=>simp only[TR,TU,XC,XD,TT,T1,TY,UD]
    |false=>
     cases hd:jA ns with
     |true=>simp only[TR,TU,XC,XD,TT,T1,TY,h7,hd,UD,Ux]
     |false=>simp only[TR,TU,XC,XD,TT,T1,TY,h7,hd,h6,Ux]
   by_cases c1:((l3.length:Int)<2)
   ·simp only[c1,XI,TR,TU,XC,XD,TT,T1,TY,h4,<-rb,h5,T5,ht2]
    simp only[fin,TR,TU,XC,XD,TT,T1,TY]
   ·match l3,hv,c1 with
    |[],_,c1=>exact(c1 (by simp)).elim
    |[y],_,c1=>exact(c1 (by simp)).elim
    |y::z::r,hv,c1=>
     have c2:(y::z::r)[U1 0]?=some y:=rfl
     have c3:(y::z::r)[U1 1]?=some z:=rfl
     by_cases e1:y=co
     ·have e2:¬z=du:=λe2=>by
       have hv:(decide (y=co)&&decide (z=du))=false:=hv
       rw[decide_eq_true e1,decide_eq_true e2]at hv;cases hv
      subst e1
      simp only[c1,c2,c3,e2,XI,XJ,TR,TU,XC,XD,TT,T1,TY,h4,<-rb,h5,T5,ht2]
      simp only[fin,TR,TU,XC,XD,TT,T1,TY]
     ·simp only[c1,c2,e1,XI,XJ,TR,TU,XC,XD,TT,T1,TY,h4,<-rb,h5,T5,ht2]
      simp only[fin,TR,TU,XC,XD,TT,T1,TY]
 obtain⟨ns,ps,l4,w4,m4,hns,hps,harg⟩:=args
 obtain⟨l5,w5,h5,m5⟩:=f154 [du,sB] (by simp[EO,GO]) (by simp) l4 w4 it
 have main0:Sim (xu it) l w (Item.mk 3 n 0 ns (aa.mk 6 0 false (ps++[t]))) l5 (w5||jA ns):=by unfold xu;exact m1.bnd (m2.bnd (m3.bnd (m4.bnd (m5.bnd ((Sim.nay _ _ _).bnd (.ret _ _ _))))))
 have main1:Sim (fresh it 3 (Item.mk 3 n 0 ns (aa.mk 6 0 false (ps++[t])))) l5 (w5||jA ns) (Item.mk 3 n 0 ns (aa.mk 6 0 false (ps++[t]))) l5 (w5||jA ns||eJ it 3 n):=(Sim.nay _ _ _).bnd (.ret _ _ _)
 exact⟨l5,_,_,harg l5 w5 h5,main0.bnd main1⟩
end Go.Proofs.YtpelkenpapfadaaGreatDoor
end
section
namespace Go.Proofs.YtpelkenpapfadaaGreatDoor
open Go.Tx
set_option maxRecDepth 20000
open Go.Lib
def jR(l:List BA)(w:Bool):BA:=if w=true then e0 else hd l
def cV(l:List BA)(w:Bool):List BA:=if w=true then l else cp l
theorem D0(l:List BA)(w:Bool):cV l w<:+l:=by unfold cV;split;exact Ur l;exact lG l
theorem G6(l:List BA)(w:Bool)(it:List Item):ek (l,w,it,())=some (jR l w,l,w,it,()):=by
 rw[ek]
 cases w with
 |true=>simp only[TR,TU,XC,XD,TT,T1,TY];rfl
 |false=>
  cases l with
  |nil=>simp only[TR,TU,XC,XD,TT,T1,TY];rfl
  |cons s r=>
   have:(((s::r).length:Int)==0)=false:=beq_eq_false_iff_ne.2 (by rw[Ue];omega)
   simp only[TR,TU,XC,XD,TT,T1,TY,this];rfl
theorem f138(l:List BA)(w:Bool)(it:List Item):cT (l,w,it,())=some (jR l w,cV l w,w||decide (hd l=e0),it,()):=by
 have hx:(TZ #[])=e0:=rfl
 rw[cT]
 unfold cV cp
 cases w with
 |true=>
  have hs:jR l true=e0:=rfl
  simp only[G6,TR,TU,XC,XD,TT,T1,TY,hs,hx,aI,XI,UD]
 |false=>
  have hs:jR l false=hd l:=rfl
  by_cases h:hd l=e0
  ·simp only[G6,TR,TU,XC,XD,TT,T1,TY,hs,hx,aI,h,XI,Ux]
  ·have hl:(0:Int)<=1/\(1:Int)<=(l.length:Int)/\(l.length:Int)<=(l.length:Int):=by
    cases l with
    |nil=>exact(h rfl).elim
    |cons s r=>rw[Ue];omega
   simp only[G6,TR,TU,XC,XD,TT,T1,TY,hs,hx,aI,h,XJ,Ux,hl,and_self,TW,Ka]
theorem wm(s:BA)(hs:¬s=e0)(l:List BA)(w:Bool)(it:List Item):∃l' w',aQ (s,l,w,it,())=some (l',w',it,())/\Sim (pQ s) l w () l' w':=by
 rw[aQ]
 cases w with
 |true=>
  have h1:jR l true=e0:=rfl
  have h2:¬e0=s:=λe=>hs e.symm
  have h3:cV l true=l:=rfl
  refine⟨l,true,?_,Sim.any _ (Ur l)⟩
  simp only[f138,TR,TU,XC,XD,TT,T1,TY,h1,h3,aI,h2,XJ]
 |false=>
  have h1:jR l false=hd l:=rfl
  have h3:cV l false=cp l:=rfl
  have hat:=A7 hs l
  cases h:dB s l with
  |true=>
   rw[h]at hat
   obtain⟨r,rfl⟩:=jF h
   have h4:hd (s::r)=s:=rfl
   have h5:cp (s::r)=r:=by unfold cp;rw[XF (show¬hd (s::r)=e0 from hs)];rfl
   refine⟨r,false,?_,?_⟩
   ·simp only[f138,TR,TU,XC,XD,TT,T1,TY,h1,h3,h4,h5,aI,XI,hs,XJ,Ux]
   ·have:=Sim.want s (s::r) false
    rw[h,XG rfl]at this;exact this
  |false=>
   rw[h]at hat
   refine⟨cp l,true,?_,Sim.wrong _ (lG l) (by unfold pQ;rw[h,XF Ul])⟩
   simp only[f138,TR,TU,XC,XD,TT,T1,TY,h1,h3,aI,hat]
theorem AV(l:List BA)(w:Bool)(it:List Item):bL (l,w,it,())=some (jR l w,cV l w,w|| !bO (hd l),it,()):=by
 have hx:(TZ #[])=e0:=rfl
 rw[bL]
 cases w with
 |true=>
  have h1:jR l true=e0:=rfl
  simp only[f138,TR,TU,XC,XD,TT,T1,TY,h1,hx,aI,XI,UD]
 |false=>
  have h1:jR l false=hd l:=rfl
  by_cases h:hd l=e0
  ·simp only[f138,TR,TU,XC,XD,TT,T1,TY,h1,hx,aI,h,XI,pI,Vb]
  ·have hg:(hd l)[0]?=some ((hd l).data.toList.getD 0 0):=bK (jS h)
   rw[vi h]
   cases h2:A8 (((hd l).data.toList.getD 0 0).toNat:Int)with
   |false=>simp only[f138,TR,TU,XC,XD,TT,T1,TY,h1,hx,aI,h,XJ,Vj,hg,f88,h2,Vh,Vb]
   |true=>
    cases h3:LQ (hd l)with
    |false=>simp only[f138,TR,TU,XC,XD,TT,T1,TY,h1,hx,aI,h,XJ,Vj,hg,f88,h2,f169,h3,U9,U_]
    |true=>simp only[f138,TR,TU,XC,XD,TT,T1,TY,h1,hx,aI,h,XJ,Vj,hg,f88,h2,f169,h3,U9,Vb]
theorem Sim.nameR(l:List BA)(w:Bool):Sim dL l w (jR l w) (cV l w) (w|| !bO (hd l)):=by
 cases w with
 |true=>exact Sim.any _ (Ur l)
 |false=>exact Sim.name l false
def mayR(s:BA)(l:List BA)(w:Bool):Bool:= !w&&dB s l
theorem GM(s:BA)(hs:¬s=e0)(l:List BA)(w:Bool)(it:List Item):dS (s,l,w,it,())=some (mayR s l w,(if mayR s l w=true then l.tail else l),w,it,()):=by
 rw[dS]
 have h2:¬e0=s:=λe=>hs e.symm
 cases w with
 |true=>
  have h1:jR l true=e0:=rfl
  have h3:mayR s l true=false:=rfl
  simp only[G6,TR,TU,XC,XD,TT,T1,TY,h1,h3,aI,h2,XJ]
 |false=>
  have h1:jR l false=hd l:=rfl
  have h3:mayR s l false=dB s l:=rfl
  have hat:=A7 hs l
  cases h:dB s l with
  |true=>
   obtain⟨r,rfl⟩:=jF h
   have h4:hd (s::r)=s:=rfl
   have h5:cV (s::r) false=r:=by unfold cV cp;rw[XF Ul,XF (show¬hd (s::r)=e0 from hs)];rfl
   simp only[G6,f138,TR,TU,XC,XD,TT,T1,TY,h1,h3,h,h4,h5,hs,aI,XI,XJ,U_,WO]
  |false=>
   rw[h]at hat
   simp only[G6,TR,TU,XC,XD,TT,T1,TY,h1,h3,h,aI,hat]
theorem Sim.mayR(s:BA)(l:List BA)(w:Bool):Sim (vu s) l w (mayR s l w) (if mayR s l w=true then l.tail else l) w:=by
 cases w with
 |true=>exact Sim.any _ (Ur l)
 |false=>exact Sim.may s l false
theorem RG(l:List BA)(hg:tO l)(w:Bool)(it:List Item):∃v,gO (l,w,it,())=some (v,cV l w,w|| !eR (hd l),it,())/\Sim K_ l w v (cV l w) (w|| !eR (hd l))/\(w=false->eR (hd l)=true->v=pM (hd l)):=by
 have hx:(TZ #[])=e0:=rfl
 rw[gO]
 cases w with
 |true=>
  have h1:jR l true=e0:=rfl
  refine⟨0,?_,Sim.any _ (Ur l),λh=>by cases h⟩
  simp only[f138,TR,TU,XC,XD,TT,T1,TY,h1,hx,aI,XI,UD]
 |false=>
  have h1:jR l false=hd l:=rfl
  have h3:cV l false=cp l:=rfl
  cases hn:eR (hd l)with
  |false=>
   have hs:=Sim.num l false 0 (λh=>by rw[hn]at h;cases h)
   rw[hn]at hs
   refine⟨0,?_,hs,λ_ h=>by cases h⟩
   by_cases h:hd l=e0
   ·simp only[f138,TR,TU,XC,XD,TT,T1,TY,h1,hx,aI,h,XI,Vb]
   ·have hgt:(hd l)[0]?=some ((hd l).data.toList.getD 0 0):=bK (jS h)
    rw[tg h]at hn
    cases h4:uR (((hd l).data.toList.getD 0 0).toNat:Int)with
    |false=>simp only[f138,TR,TU,XC,XD,TT,T1,TY,h1,hx,aI,h,XJ,Vj,hgt,f89,h4,Vb]
    |true=>
     rw[h4,U9,decide_eq_false_iff_not]at hn
     have h5:((hd l).size:Int)>9:=by omega
     simp only[f138,TR,TU,XC,XD,TT,T1,TY,h1,hx,aI,h,XJ,XI,Vj,hgt,f89,h4,h5,Vb]
  |true=>
   have hs:=Sim.num l false (pM (hd l)) (λ_=>rfl)
   rw[hn]at hs
   refine⟨pM (hd l),?_,hs,λ_ _=>rfl⟩
   have h:¬hd l=e0:=λe=>by rw[e]at hn;cases hn
   have hgt:(hd l)[0]?=some ((hd l).data.toList.getD 0 0):=bK (jS h)
   rw[tg h,Uf,XE]at hn
   have h5:¬((hd l).size:Int)>9:=by omega
   obtain⟨er,h6,_⟩:=RJ (hd l) (DO hg)
   simp only[f138,TR,TU,XC,XD,TT,T1,TY,h1,h3,hx,aI,h,XJ,Vj,hgt,f89,hn.1,h5,h6,U_]
theorem f48(it:List Item)(hl:it.length<=1000000000)(k:Int)(name:BA):fP (k,name,it,())=some (eJ it k name,it,fG it k name,()):=by
 have h:=dm (λj=>cH (k,name,(j:Int),it,zI,())) it (kn k name) (λj=>(true,it,it.getD j zI,())) (it,zI,()) (λj x hj hx=>by
  have g:(0:Int)<=(j:Int)/\(j:Int)<(it.length:Int):=by omega
  have hgd:it.getD j zI=x:=by rw[Um,hx];rfl
  rw[cH]
  have hk:(if(x.kind==k)=true then some ((k,name,(j:Int),x.name0.toList==name.toList,it,zI,()):Int×BA×Int×Bool×List Item×Item×Unit)else some (k,name,(j:Int),false,it,zI,()))=some (k,name,(j:Int),kn k name x,it,zI,()):=by
   unfold kn;cases (x.kind==k)<;>simp[aI]
  simp only[TR,TU,XC,T3,TW,hj,g,and_self,XI,hx,hk,hgd]
  cases kn k name x<;>simp[aX (a:=j) (by omega)]) (by
  rw[cH]
  simp only[TR,TU,T2,XC,XD,TT,T0,TW,TX,XH,XE,T3,Vy,XJ])
 have h:cH (k,name,0,it,zI,())=_:=h
 have hz:Item.mk 0 (TZ #[]) 0 [] (aa.mk 0 0 false [])=zI:=rfl
 rw[fP]
 simp only[hz,h,TR,TU,T2,XC,XD,TT,T0,TW,TX,XH,XE,T3]
 unfold eJ fG
 rw[<-eP,g9]
 unfold ly
 cases h2:it.findIdx? (kn k name)with
 |none=>rfl
 |some i=>
  have hi:i<it.length:=(VJ.1 h2).1
  have c3:(i:Int)>=0:=by omega
  simp only[c3,XI,Um,T8 hi,Vr,TU]
theorem f134(it:List Item)(hl:it.length<=1000000000)(hn:iQ it)(name:BA):Ej (it,name,())=some (gj it name,()):=by
 have inner (j:Nat) (x:Item) (hj:j<it.length) (hx:it[j]?=some x):fL (it,name,(j:Int),0,())=some (if inE name x=true then .inl (true,())else .inr (it,name,(j:Int),())):=by
  have hnx:=hn x (Ui hx)
  unfold inE
  cases hk:(x.kind==1)with
  |false=>
   rw[fL]
   by_cases h0:(0:Int)<(x.names.length:Int)
   ·simp only[TX,TW,hx,TR,TU,XC,XD,TT,T1,TY,h0,XI,hk,Vh]
   ·simp only[TX,TW,hx,TR,TU,XC,XD,TT,T1,TY,h0,XJ,hk,Vh]
  |true=>
   have h:=dm (λk=>fL (it,name,(j:Int),(k:Int),())) x.names (λs=>decide (name=s)) (λ_=>(true,())) (it,name,(j:Int),()) (λk s hks hs=>by
    rw[fL]
    simp only[TX,TW,hx,TR,TU,XC,XD,TT,T1,TY,T3,hks,XI,hk,hs,aI,aX (a:=k) (by omega),eq_comm (a:=s) (b:=name)]) (by
    rw[fL]
    simp only[TX,TW,hx,TR,TU,XC,XD,TT,T1,TY,T3,Vy,XJ])
   have h:fL (it,name,(j:Int),0,())=_:=h
   rw[h,U9,<-eP]
   unfold ly
   cases x.names.findIdx? _ with
   |none=>rfl
   |some i=>rw[decide_eq_true (show(i:Int)>=0 by omega)];rfl
 have h:=dm (λj=>ie (it,name,(j:Int),())) it (λx=>kn 0 name x||inE name x) (λ_=>(true,())) () (λj x hj hx=>by
  rw[ie]
  have hk:(if(x.kind==0)=true then some ((it,name,(j:Int),x.name0.toList==name.toList,()):List Item×BA×Int×Bool×Unit)else some (it,name,(j:Int),false,()))=some (it,name,(j:Int),kn 0 name x,()):=by
   unfold kn;cases (x.kind==0)<;>simp[aI]
  simp only[TX,TW,TR,TU,XC,XD,TT,T1,TY,T3,hj,XI,hx,hk]
  cases kn 0 name x with
  |true=>simp only[TR,TU,XC,XD,TT,T1,TY,UD]
  |false=>
   simp only[TR,TU,XC,XD,TT,T1,TY,inner j x hj hx,Ux]
   cases inE name x<;>simp[aX (a:=j) (by omega)]) (by
  rw[ie]
  simp only[TR,TU,T2,XC,XD,TT,T0,TW,TX,XH,XE,T3,Vy,XJ])
 have h:ie (it,name,0,())=_:=h
 have ha:it.any (λx=>kn 0 name x||inE name x)=gj it name:=by
  unfold gj eJ
  generalize it=l
  induction l with
  |nil=>rfl
  |cons x r ih=>simp only[Wb,ih];cases kn 0 name x<;>cases inE name x<;>simp
 rw[Ej]
 simp only[h,TR,TU,T2,XC,XD,TT,T0,TW,TX,XH,XE,T3]
 rw[<-ha,<-eP]
 unfold ly
 cases it.findIdx? _ with
 |none=>rfl
 |some i=>rw[decide_eq_true (show(i:Int)>=0 by omega)]
theorem f135(ns:List BA)(hl:ns.length<=1000000000)(l:List BA)(w:Bool)(it:List Item):fm (ns,l,w,it,())=some (l,w||jA ns,it,()):=by
 have inner (i:Nat) (hi:i<ns.length):∀(m k:Nat) (w:Bool),i-k=m->k<=i->ca (ns,(i:Int),(k:Int),l,w,it,())=some (ns,(i:Int),l,w||((ns.take i).drop k).any (λs=>decide (ns.getD i e0=s)),it,()):=by
  intro m
  induction m with
  |zero=>
   intro k w hm hk
   have hlt:¬k<i:=by omega
   rw[ca]
   simp only[TR,TU,T2,XC,XD,TT,T0,TW,TX,XH,XE,T3,hlt,XJ,Vt (show(ns.take i).length<=k by rw[UY];omega),W7,U_]
  |succ m ih=>
   intro k w hm hk
   have hlt:k<i:=by omega
   have hdr:(ns.take i).drop k=ns.getD k e0::(ns.take i).drop (k+1):=by
    have hkl:k<(ns.take i).length:=by rw[UY];omega
    rw[Vw hkl,List.getElem_take,Um,T8 (by omega)];rfl
   rw[ca,hdr,Wb]
   simp only[TX,TW,TR,TU,XC,XD,TT,T1,TY,T3,hlt,XI,xC hi,xC (show k<ns.length by omega),aI]
   by_cases he:ns.getD i e0=ns.getD k e0
   ·simp only[he,XI,TR,TU,XC,XD,TT,T1,TY,aX (a:=k) (by omega)]
    have:=ih (k+1) true (by omega) (by omega)
    rw[he]at this
    rw[this];simp
   ·simp only[he,XJ,TR,TU,XC,XD,TT,T1,TY,aX (a:=k) (by omega),ih (k+1) w (by omega) (by omega),Ux]
 have outer:∀(m i:Nat) (w:Bool),ns.length-i=m->i<=ns.length->b_ (ns,(i:Int),l,w,it,())=some (l,w||GK ns i m,it,()):=by
  intro m
  induction m with
  |zero=>
   intro i w hm hi
   have hlt:¬i<ns.length:=by omega
   rw[b_]
   simp only[TR,TU,T2,XC,XD,TT,T0,TW,TX,XH,XE,T3,hlt,XJ,GK,U_]
  |succ m ih=>
   intro i w hm hi
   have hlt:i<ns.length:=by omega
   have h:=inner i hlt _ 0 w rfl (by omega)
   rw[UJ]at h
   have h:ca (ns,(i:Int),0,l,w,it,())=_:=h
   rw[b_,GK]
   simp only[TR,TU,XC,XD,TT,T1,TY,T3,hlt,XI,h,aX (a:=i) (by omega),ih (i+1) _ (by omega) (by omega),Xp]
 have h:=outer _ 0 w rfl (Vs _)
 have h:b_ (ns,0,l,w,it,())=some (l,w||jA ns,it,()):=h
 rw[fm]
 simp only[h,TR,TU,XC,XD,TT,T1,TY]
theorem MI(x:aa)(res:Bool)(it:List Item):∀(l:List BA) (v:Bool) (t:aa),bu (res,v,l,false,x,t,it,())=some (res,v&& !dB fV l,(stars t l).2,false,x,(stars t l).1,it,())
 |[],v,t=>by
  have ha:mayR fV [] false=false:=rfl
  have ha2:dB fV []=false:=rfl
  rw[bu]
  simp only[<-qr,GM fV qf,ha,ha2,TR,TU,XC,XD,TT,T1,TY,Wc];rfl
 |s::r,v,t=>by
  have ha:mayR fV (s::r) false=decide (s=fV):=by unfold mayR dB;rfl
  have ha2:dB fV (s::r)=decide (s=fV):=rfl
  rw[bu]
  simp only[<-qr,GM fV qf,ha,ha2,TR,TU,XC,XD,TT,T1,TY]
  by_cases h:s=fV
  ·rw[stars,XG h]
   simp only[h,XI,XC,WO,MI x res it r,Vh,TR,TU,XC,XD,TT,T1,TY,Wk]
  ·rw[stars,XF h]
   simp only[h,XJ,TR,TU,XC,XD,TT,T1,TY,Wc]
theorem MJ(x:aa)(res:Bool)(it:List Item)(l:List BA)(v:Bool)(t:aa):bu (res,v,l,true,x,t,it,())=some (res,v,l,true,x,t,it,()):=by
 have ha:mayR fV l true=false:=rfl
 rw[bu]
 simp only[<-qr,GM fV qf,ha,TR,TU,XC,XD,TT,T1,TY]
theorem sb:∀(l:List BA) (t:aa) (v:Bool),v=(t.kind==0)->(v&& !dB fV l)=((stars t l).1.kind==0)
 |[],t,v,h=>by rw[show dB fV []=false from rfl,TY,Wc];exact h
 |s::r,t,v,h=>by
  have ha2:dB fV (s::r)=decide (s=fV):=rfl
  by_cases hs:s=fV
  ·rw[ha2,decide_eq_true hs,T1,Wk,stars,XG hs]
   exact sb r (aa.mk 3 0 false []) false rfl
  ·rw[ha2,decide_eq_false hs,TY,Wc,stars,XF hs];exact h
abbrev R7:=Bool×Bool×(List BA)×Bool×aa×aa×(List Item)×Unit
def R6(x4:R7):Option ((List BA)×Bool×(List Item)×aa×Unit):=
 (if x4.2.2.2.1=true then
   some ((x4.2.2.1,true,x4.2.2.2.2.1,x4.2.2.2.2.2.1,x4.2.2.2.2.2.2.1,()))
   else if x4.2.1=true then
    some ((x4.2.2.1,!x4.1,x4.2.2.2.2.1,x4.2.2.2.2.2.1,x4.2.2.2.2.2.2.1,()))
   else some ((x4.2.2.1,false,x4.2.2.2.2.1,x4.2.2.2.2.2.1,x4.2.2.2.2.2.2.1,())))>>=λx5=>
 some ((x5.1,x5.2.1,x5.2.2.2.2.1,x5.2.2.2.1,()))
end Go.Proofs.YtpelkenpapfadaaGreatDoor
end
section
namespace Go.Proofs.YtpelkenpapfadaaGreatDoor
open Go.Tx
set_option maxRecDepth 20000
open Go.Lib
theorem uc1:¬nT=ff:=eF (by decide)
theorem JN(res:Bool)(it:List Item)(hi:eL it)(l:List BA):∃v l2 w2 t,dq (res,l,false,it,())=(bu (res,v,l2,w2,z0,t,it,())).bind R6/\Sim (pP it) l false t l2 w2/\(w2=false->v=(t.kind==0)):=by
 have hlen:=hi.len
 have m1:=Sim.may nT l false
 have hat:=A7 vT l
 cases hu:dB nT l with
 |true=>
  rw[hu]at hat
  obtain⟨r,rfl⟩:=jF hu
  have h1:=f138 (nT::r) false it
  rw[show jR (nT::r) false=nT from rfl,show cV (nT::r) false=r from by unfold cV cp;rw[XF Ul,XF (show¬hd (nT::r)=e0 from vT)];rfl,show(false||decide (hd (nT::r)=e0))=false from decide_eq_false vT]at h1
  rw[hu,XG rfl,show(nT::r).tail=r from rfl]at m1
  have m2:=Sim.word r false
  have h2:=f138 r false it
  rw[show jR r false=hd r from rfl,show cV r false=cp r from rfl]at h2
  obtain⟨s,hs⟩:∃s,hd r=s:=⟨_,rfl⟩
  obtain⟨l2,hl2⟩:∃l2,cp r=l2:=⟨_,rfl⟩
  have hsuf:l2<:+nT::r:=by rw[<-hl2];exact(lG r).trans (WC _ _)
  rw[hs,hl2]at h2 m2
  rw[dq]
  simp only[<-Aa,<-tK,<-oA,<-z8,<-tL,<-jy,<-gV,<-nd,h1,h2,TR,TU,XC,XD,TT,T1,TY,aI,XI]
  by_cases a1:s=ff
  ·refine⟨false,l2,false,aa.mk 2 8 false [],?_,?_,λ_=>rfl⟩
   ·simp only[a1,mK,uc1,lc1,vc1,tc1,ec1,UA lc1,UA vc1,UA tc1,UA ec1,XI,XJ,TR,TU,XC,XD,TT,T1,TY,U_];rfl
   ·rw[eB]
    refine m1.bnd (m2.bnd ?_)
    rw[a1,qS false mK,dw,XG rfl];exact .ret _ _ _
  by_cases a2:s=dy
  ·refine⟨false,l2,false,aa.mk 2 16 false [],?_,?_,λ_=>rfl⟩
   ·simp only[a2,jB,sc1,UA ls1,UA vs1,UA ts1,UA es1,XI,XJ,TR,TU,XC,XD,TT,T1,TY,U_];rfl
   ·rw[eB]
    refine m1.bnd (m2.bnd ?_)
    rw[a2,qS false jB,dw,XF sc1,XG rfl];exact .ret _ _ _
  by_cases a3:s=ra
  ·refine⟨false,l2,false,aa.mk 2 32 false [],?_,?_,λ_=>rfl⟩
   ·simp only[a3,rJ,ic1,is1,UA li1,UA vi1,UA ti1,UA ei1,XI,XJ,TR,TU,XC,XD,TT,T1,TY,U_];rfl
   ·rw[eB]
    refine m1.bnd (m2.bnd ?_)
    rw[a3,qS false rJ,dw,XF ic1,XF is1,XG rfl];exact .ret _ _ _
  have hnone:pP it (nT::r)=none:=by
   rw[eB]
   unfold bnd vu
   rw[hu,XG rfl]
   simp only[WO]
   cases hp:tm r with
   |none=>rfl
   |some x=>
    obtain⟨y,z⟩:=x
    have hy:=(Sim.word r false).ok rfl y z hp
    rw[hs]at hy
    simp only[<-hy.2.1]
    rw[dw,XF a1,XF a2,XF a3];rfl
  by_cases b1:s=iP
  ·refine⟨false,l2,true,aa.mk 3 0 false [],?_,Sim.wrong _ hsuf hnone,λh=>by cases h⟩
   simp only[b1,lc1,ls1,li1,XI,XJ,TR,TU,XC,XD,TT,T1,TY];rfl
  by_cases b2:s=co
  ·refine⟨true,l2,true,z0,?_,Sim.wrong _ hsuf hnone,λh=>by cases h⟩
   simp only[b2,vl1,vc1,vs1,vi1,XI,XJ,TR,TU,XC,XD,TT,T1,TY];rfl
  by_cases b3:s=bF
  ·refine⟨false,l2,true,(fG it 2 e0).layout,?_,Sim.wrong _ hsuf hnone,λh=>by cases h⟩
   simp only[b3,tl1,tv1,tc1,ts1,ti1,XI,XJ,TR,TU,XC,XD,TT,T1,TY,kU,AV,show jR l2 true=e0 from rfl,show cV l2 true=l2 from rfl,UD,f48 it (show it.length<=1000000000 by omega),eta];rfl
  by_cases b4:s=gr
  ·refine⟨false,l2,true,aa.mk 2 32 true [],?_,Sim.wrong _ hsuf hnone,λh=>by cases h⟩
   simp only[b4,el1,ev1,et1,ec1,es1,ei1,XI,XJ,TR,TU,XC,XD,TT,T1,TY,kU,AV,show jR l2 true=e0 from rfl,show cV l2 true=l2 from rfl,UD,f48 it (show it.length<=1000000000 by omega)];rfl
  ·refine⟨false,l2,true,z0,?_,Sim.wrong _ hsuf hnone,λh=>by cases h⟩
   simp only[a1,a2,a3,b1,b2,b3,b4,XI,XJ,TR,TU,XC,XD,TT,T1,TY];rfl
 |false=>
  rw[hu]at hat
  have hnu:¬hd l=nT:=of_decide_eq_false hat
  have h1:=f138 l false it
  rw[show jR l false=hd l from rfl,show cV l false=cp l from rfl,Ux]at h1
  rw[hu,XF Ul]at m1
  have m2:=Sim.word l false
  rw[Ux]at m2
  obtain⟨s,hs⟩:∃s,hd l=s:=⟨_,rfl⟩
  obtain⟨l2,hl2⟩:∃l2,cp l=l2:=⟨_,rfl⟩
  rw[hs,hl2]at h1 m2
  rw[hs]at hnu
  rw[dq]
  simp only[<-Aa,<-tK,<-oA,<-z8,<-tL,<-jy,<-gV,<-nd,h1,hnu,TR,TU,XC,XD,TT,T1,TY,aI,XJ]
  have rest:∀t w2,Sim (dw it false s) l2 (decide (s=e0)) t l2 w2->Sim (pP it) l false t l2 w2:=λt w2 h=>by rw[eB];exact m1.bnd (m2.bnd h)
  have rest':∀t l3 w2,Sim (dw it false s) l2 (decide (s=e0)) t l3 w2->Sim (pP it) l false t l3 w2:=λt l3 w2 h=>by rw[eB];exact m1.bnd (m2.bnd h)
  by_cases a1:s=ff
  ·refine⟨false,l2,false,aa.mk 2 8 true [],?_,rest _ _ ?_,λ_=>rfl⟩
   ·simp only[a1,mK,XI,XJ,TR,TU,XC,XD,TT,T1,TY];rfl
   ·rw[a1,decide_eq_false mK,dw,XG rfl];exact .ret _ _ _
  by_cases a2:s=dy
  ·refine⟨false,l2,false,aa.mk 2 16 true [],?_,rest _ _ ?_,λ_=>rfl⟩
   ·simp only[a2,sc1,jB,XI,XJ,TR,TU,XC,XD,TT,T1,TY];rfl
   ·rw[a2,decide_eq_false jB,dw,XF sc1,XG rfl];exact .ret _ _ _
  by_cases a3:s=ra
  ·refine⟨false,l2,false,aa.mk 2 32 true [],?_,rest _ _ ?_,λ_=>rfl⟩
   ·simp only[a3,ic1,is1,rJ,XI,XJ,TR,TU,XC,XD,TT,T1,TY];rfl
   ·rw[a3,decide_eq_false rJ,dw,XF ic1,XF is1,XG rfl];exact .ret _ _ _
  have hR:dw it false s=bnd (nay false) λ_=>if s=iP then ret (aa.mk 3 0 false [])else if s=co then ret z0
   else if s=bF then bnd dL λn=>bnd (nay (!eJ it 2 n)) λ_=>ret (fG it 2 n).layout
   else if s=gr then bnd dL λn=>bnd (nay (!eJ it 1 n)) λ_=>ret (aa.mk 2 32 true [])
   else bnd (nay true) λ_=>ret z0:=by rw[dw,XF a1,XF a2,XF a3]
  rw[hR]at rest rest'
  have m3:=Sim.nay false l2 (decide (s=e0))
  rw[U_]at m3
  by_cases b1:s=iP
  ·refine⟨false,l2,false,aa.mk 3 0 false [],?_,rest _ _ ?_,λ_=>rfl⟩
   ·simp only[b1,lc1,ls1,li1,sr,XI,XJ,TR,TU,XC,XD,TT,T1,TY];rfl
   ·rw[b1,decide_eq_false sr]at m3⊢
    refine m3.bnd ?_
    rw[XG rfl];exact .ret _ _ _
  by_cases b2:s=co
  ·refine⟨true,l2,false,z0,?_,rest _ _ ?_,λ_=>rfl⟩
   ·simp only[b2,vl1,vc1,vs1,vi1,mN,XI,XJ,TR,TU,XC,XD,TT,T1,TY];rfl
   ·rw[b2,decide_eq_false mN]at m3⊢
    refine m3.bnd ?_
    rw[XF vl1,XG rfl];exact .ret _ _ _
  have h155:=AV l2 false it
  rw[show jR l2 false=hd l2 from rfl,show cV l2 false=cp l2 from rfl,Ux]at h155
  have m4:=Sim.name l2 false
  rw[Ux]at m4
  obtain⟨n,hn⟩:∃n,hd l2=n:=⟨_,rfl⟩
  obtain⟨l3,hl3⟩:∃l3,cp l2=l3:=⟨_,rfl⟩
  obtain⟨w3,hw3⟩:∃w3,(!bO n)=w3:=⟨_,rfl⟩
  rw[hn,hl3,hw3]at h155 m4
  by_cases b3:s=bF
  ·have m5:=Sim.nay (!eJ it 2 n) l3 w3
   refine⟨false,l3,w3|| !eJ it 2 n,(fG it 2 n).layout,?_,rest' _ _ _ ?_,λh=> ?_⟩
   ·simp only[b3,tl1,tv1,tc1,ts1,ti1,gA,XI,XJ,TR,TU,XC,XD,TT,T1,TY,kU,h155,f48 it (show it.length<=1000000000 by omega),eta]
    cases w3 with
    |true=>simp only[TR,TU,XC,XD,TT,T1,TY,UD];rfl
    |false=>simp only[TR,TU,XC,XD,TT,T1,TY,Ux];rfl
   ·rw[b3,decide_eq_false gA]at m3⊢
    refine m3.bnd ?_
    rw[XF tl1,XF tv1,XG rfl]
    exact m4.bnd (m5.bnd (.ret _ _ _))
   ·rw[UQ,Bool.not_eq_false']at h
    rcases og it 2 n with⟨_,e⟩|⟨e1,e2,_⟩
    ·rw[e]at h;exact(Ul h.2).elim
    ·have:=hi.str _ e1 e2;rw[this];rfl
  by_cases b4:s=gr
  ·have m5:=Sim.nay (!eJ it 1 n) l3 w3
   refine⟨false,l3,w3|| !eJ it 1 n,aa.mk 2 32 true [],?_,rest' _ _ _ ?_,λh=>rfl⟩
   ·simp only[b4,el1,ev1,et1,ec1,es1,ei1,mM,XI,XJ,TR,TU,XC,XD,TT,T1,TY,kU,h155,f48 it (show it.length<=1000000000 by omega)]
    cases w3 with
    |true=>simp only[TR,TU,XC,XD,TT,T1,TY,UD];rfl
    |false=>simp only[TR,TU,XC,XD,TT,T1,TY,Ux];rfl
   ·rw[b4,decide_eq_false mM]at m3⊢
    refine m3.bnd ?_
    rw[XF el1,XF ev1,XF et1,XG rfl]
    exact m4.bnd (m5.bnd (.ret _ _ _))
  ·refine⟨false,l2,true,z0,?_,rest _ _ ?_,λh=>by cases h⟩
   ·simp only[a1,a2,a3,b1,b2,b3,b4,XI,XJ,TR,TU,XC,XD,TT,T1,TY];rfl
   ·refine m3.bnd ?_
    rw[XF b1,XF b2,XF b3,XF b4]
    have:=(Sim.nay true l2 (decide (s=e0))).bnd (q:=λ_=>ret z0) (.ret z0 _ _)
    rw[Vb]at this;exact this
theorem f137(it:List Item)(hi:eL it)(res:Bool)(l:List BA)(w:Bool):∃l' w' t,dq (res,l,w,it,())=some (l',w',it,t,())/\Sim (qT it res) l w t l' w':=by
 cases w with
 |true=>
  have h1:=f138 l true it
  rw[show jR l true=e0 from rfl,show cV l true=l from rfl,UD]at h1
  refine⟨l,true,z0,?_,Sim.any _ (Ur l)⟩
  rw[dq]
  simp only[<-Aa,<-tK,<-oA,<-z8,<-tL,<-jy,<-gV,<-nd,h1,TR,TU,XC,XD,TT,T1,TY,aI,UA vT,UA mK,UA jB,UA rJ,UA sr,UA mN,UA gA,UA mM,XJ,MJ]
  rfl
 |false=>
  obtain⟨v,l2,w2,t,h1,m1,h2⟩:=JN res it hi l
  cases w2 with
  |true=>
   refine⟨l2,true,t,?_,m1.bnd (q:=λt=>bnd (zG t) λt=>bnd (nay (t.kind==0&& !res)) λ_=>ret t) (Sim.any _ (Ur l2))⟩
   rw[h1,MJ];rfl
  |false=>
   have hk:=sb l2 t v (h2 rfl)
   have m2:=Sim.stars t l2 false
   refine⟨(stars t l2).2,(stars t l2).1.kind==0&& !res,(stars t l2).1,?_,m1.bnd (m2.bnd ((Sim.nay _ _ _).bnd (.ret _ _ _)))⟩
   rw[h1,MI,hk]
   cases ((stars t l2).1.kind==0)<;>rfl
theorem R9(it:List Item)(hi:eL it)(l:List BA)(hg:tO l)(w:Bool):∃l' w' x,gL (l,w,it,())=some (l',w',it,x,())/\Sim (oX it) l w x l' w':=by
 have hlen:=hi.len
 obtain⟨l0,w0,h0,m0⟩:=wm q_ EM l w it
 obtain⟨l1,w1,h1,m1⟩:=wm gq vk l0 w0 it
 have g1:=(hg.suf m0.suf).suf m1.suf
 have h2:=AV l1 w1 it
 have m2:=Sim.nameR l1 w1
 obtain⟨n,hn⟩:∃n,jR l1 w1=n:=⟨_,rfl⟩
 obtain⟨l2,hl2⟩:∃l2,cV l1 w1=l2:=⟨_,rfl⟩
 obtain⟨w2,hw2⟩:∃w2,(w1|| !bO (hd l1))=w2:=⟨_,rfl⟩
 rw[hn,hl2,hw2]at h2 m2
 have g2:=g1.suf m2.suf
 have h3:=GM jw zA l2 w2 it
 have m3:=Sim.mayR jw l2 w2
 obtain⟨b,hb⟩:∃b,mayR jw l2 w2=b:=⟨_,rfl⟩
 obtain⟨l3,hl3⟩:∃l3,(if mayR jw l2 w2=true then l2.tail else l2)=l3:=⟨_,rfl⟩
 rw[hl3]at h3 m3
 rw[hb]at h3 m3
 have g3:=g2.suf m3.suf
 obtain⟨v,h4,m4,_⟩:=RG l3 g3 w2 it
 obtain⟨l4,hl4⟩:∃l4,cV l3 w2=l4:=⟨_,rfl⟩
 obtain⟨w4,hw4⟩:∃w4,(w2|| !eR (hd l3))=w4:=⟨_,rfl⟩
 rw[hl4,hw4]at h4 m4
 have m01:Sim (cu [q_,gq]) l w () l1 w1:=m0.bnd (m1.bnd (.ret _ _ _))
 refine⟨l4,w4||gj it n,Item.mk 0 n (Km b v) [] z0,?_,m01.bnd (m2.bnd (m3.bnd (m4.bnd ((Sim.nay _ _ _).bnd (.ret _ _ _)))))⟩
 have h5:=f134 it (by omega) hi.nm n
 rw[gL]
 simp only[<-Gj,<-vY,<-z_,h0,h1,h2,h3,h4,TR,TU,XC,XD,TT,T1,TY]
 cases b<;>cases w4<;>simp only[TR,TU,XC,XD,TT,T1,TY,h5,UD,Ux]<;>rfl
theorem Gd{a b:BA}{l l0 l1:List BA}{w w0 w1:Bool}(m0:Sim (pQ a) l w () l0 w0)(m1:Sim (pQ b) l0 w0 () l1 w1):Sim (cu [a,b]) l w () l1 w1:=m0.bnd (m1.bnd (.ret _ _ _))
theorem qq{a:BA}{l l0:List BA}{w w0:Bool}(m0:Sim (pQ a) l w () l0 w0):Sim (cu [a]) l w () l0 w0:=m0.bnd (.ret _ _ _)
theorem D8{s:BA}{l:List BA}{w:Bool}(h:mayR s l w=true):w=false/\dB s l=true:=by
 unfold mayR at h;rw[Uf,VL]at h;exact h
theorem Po(it:List Item)(x:Item)(a:Int)(nm:BA)(b c d:Int)(e:Bool)(ps:List aa):∀(m:Nat) (l:List BA) (w:Bool) (acc:List BA),l.length<=m->acc.length+l.length<=10000000->
 ∃ns l' w',bY (l,w,x,a,nm,b,c,d,e,it,acc,ps,())=some (l',w',x,a,nm,b,c,d,e,it,ns,ps,())/\ns.length<=acc.length+l.length+1/\l'<:+l/\
  ∀k,l.length<k->Sim (bnd (vu cg) λc=>if c=true then my k acc else ret acc) l w ns l' w':=by
 intro m
 induction m with
 |zero=>
  intro l w acc hl hb
  have hl0:l=[]:=U3.1 (by omega)
  subst hl0
  have ha:mayR cg [] w=false:=by cases w<;>rfl
  have h3:=GM cg gg [] w it
  have m3:=Sim.mayR cg [] w
  rw[ha,XF Ul]at h3 m3
  refine⟨acc,[],w,?_,by omega,Ur _,λk hk=>m3.bnd (.ret _ _ _)⟩
  rw[bY]
  simp only[<-dF,h3,TR,TU,XC,XD,TT,T1,TY]
 |succ m ih=>
  intro l w acc hl hb
  have h3:=GM cg gg l w it
  have m3:=Sim.mayR cg l w
  cases hb2:mayR cg l w with
  |false=>
   rw[hb2,XF Ul]at h3 m3
   refine⟨acc,l,w,?_,by omega,Ur _,λk hk=>m3.bnd (.ret _ _ _)⟩
   rw[bY]
   simp only[<-dF,h3,TR,TU,XC,XD,TT,T1,TY]
  |true=>
   rw[hb2,XG rfl]at h3 m3
   obtain⟨rfl,hat⟩:=D8 hb2
   have htl:=ju hat
   have h2:=AV l.tail false it
   have m2:=Sim.nameR l.tail false
   obtain⟨n,hn⟩:∃n,jR l.tail false=n:=⟨_,rfl⟩
   obtain⟨l2,hl2⟩:∃l2,cV l.tail false=l2:=⟨_,rfl⟩
   obtain⟨w2,hw2⟩:∃w2,(false|| !bO (hd l.tail))=w2:=⟨_,rfl⟩
   rw[hn,hl2,hw2]at h2 m2
   have hlen2:=m2.len
   have ht:acc.length+1<=4294967296:=by omega
   obtain⟨ns,l',w',i1,i2,i3,i4⟩:=ih l2 w2 (acc++[n]) (by omega) (by rw[Uc,T5];omega)
   refine⟨ns,l',w',?_,by rw[Uc,T5]at i2;omega,i3.trans (m2.suf.trans (VQ l)),λk hk=> ?_⟩
   ·rw[bY]
    simp only[<-dF,h3,h2,TR,TU,XC,XD,TT,T1,TY,T5,ht]
    exact i1
   ·obtain⟨k,rfl⟩:∃j,k=j+1:=⟨k-1,by omega⟩
    refine m3.bnd ?_
    rw[XG rfl]
    exact m2.bnd (i4 k (by omega))
theorem mZ:∀(k j:Nat) (l:List BA) (acc:List BA),l.length<k->l.length<j->my k acc l=my j acc l
 |0,j,l,acc,h,_=>by omega
 |k+1,0,l,acc,_,h=>by omega
 |k+1,j+1,l,acc,h1,h2=>by
  show bnd dL _ l=bnd dL _ l
  unfold bnd
  cases hp:dL l with
  |none=>rfl
  |some x=>
   obtain⟨a,r⟩:=x
   have hr:=Ltp.name l a r hp
   simp only
   unfold vu
   simp only
   cases hc:dB cg r with
   |false=>rfl
   |true=>
    have:=ju hc
    simp only[XC]
    exact mZ k j r.tail (acc++[a]) (by omega) (by omega)
theorem Pp(it:List Item)(hi:eL it)(x:Item)(a:Int)(nm:BA)(b c d:Int)(e:Bool)(ps:List aa)(ns:List BA)(hns:ns.length<=2000000)(l:List BA):∀(m i:Nat) (w:Bool),ns.length-i=m->
 bJ ((i:Int),l,w,x,a,nm,b,ns,c,d,e,it,ps,())=some (l,w||(ns.drop i).any (gj it),x,a,nm,b,ns,c,d,e,it,ps,()):=by
 intro m
 have hlen:=hi.len
 induction m with
 |zero=>
  intro i w hm
  have hlt:¬i<ns.length:=by omega
  rw[bJ]
  simp only[TR,TU,XC,XD,TT,T1,TY,T3,hlt,XJ,dk hlt,W7,U_]
 |succ m ih=>
  intro i w hm
  have hlt:i<ns.length:=by omega
  obtain⟨s,hp,hpm,hdr,g1,g2⟩:=dW hlt
  rw[bJ,hdr,Wb]
  cases w with
  |true=>simp only[TR,TU,XC,XD,TT,T1,TY,T3,hlt,XI,aX (a:=i) (by omega),ih (i+1) true (by omega),UD]
  |false=>simp only[TR,TU,XC,XD,TT,T1,TY,T3,hlt,XI,TX,TW,hp,f134 it (show it.length<=1000000000 by omega) hi.nm s,aX (a:=i) (by omega),ih (i+1) _ (by omega),Ux]
theorem f102(it:List Item)(hi:eL it)(l:List BA)(hl:l.length<=1000000)(w:Bool):∃l' w' x,gM (l,w,it,())=some (l',w',it,x,())/\Sim (xr it) l w x l' w':=by
 have hlen:=hi.len
 obtain⟨l1,w1,h1,m1⟩:=wm gr mM l w it
 have h2:=AV l1 w1 it
 have m2:=Sim.nameR l1 w1
 obtain⟨n,hn⟩:∃n,jR l1 w1=n:=⟨_,rfl⟩
 obtain⟨l2,hl2⟩:∃l2,cV l1 w1=l2:=⟨_,rfl⟩
 obtain⟨w2,hw2⟩:∃w2,(w1|| !bO (hd l1))=w2:=⟨_,rfl⟩
 rw[hn,hl2,hw2]at h2 m2
 obtain⟨l3,w3,h3,m3⟩:=wm oB OA l2 w2 it
 have hlen3:=UW (UW m3.len m2.len) m1.len
 have h4:=AV l3 w3 it
 have m4:=Sim.nameR l3 w3
 obtain⟨n4,hn4⟩:∃n,jR l3 w3=n:=⟨_,rfl⟩
 obtain⟨l4,hl4⟩:∃l2,cV l3 w3=l2:=⟨_,rfl⟩
 obtain⟨w4,hw4⟩:∃w2,(w3|| !bO (hd l3))=w2:=⟨_,rfl⟩
 rw[hn4,hl4,hw4]at h4 m4
 have hlen4:=m4.len
 obtain⟨ns,l5,w5,h5,hns,_,m5⟩:=Po it (Item.mk 0 (TZ #[]) 0 [] (aa.mk 0 0 false [])) 1 n 0 0 0 false [] _ l4 w4 [n4] (Up _) (by simp only[T5];omega)
 rw[T5]at hns
 have mL:Sim Fb l3 w3 ns l5 w5:=by
  have:Sim (my (l4.length+1+1) []) l3 w3 ns l5 w5:=m4.bnd (m5 (l4.length+1) (by omega))
  cases w3 with
  |true=>exact Sim.strict (Sim.any _ this.suf) (λ_=>this.bad rfl) λ_=>rfl
  |false=>
   refine⟨this.suf,this.bad,λhw b r hb=> ?_,λhw hb=> ?_⟩
   ·refine this.ok rfl b r ?_
    rw[<-hb]
    show bnd dL _ l3=bnd dL _ l3
    unfold bnd
    cases hp:dL l3 with
    |none=>rfl
    |some y=>
     obtain⟨y1,y2⟩:=y
     have e:=m4.ok rfl y1 y2 hp
     have hlt:=Ltp.name l3 y1 y2 hp
     rw[<-e.2.2]at hlt⊢
     simp only
     unfold vu
     simp only
     cases hc:dB cg l4 with
     |false=>rfl
     |true=>
      have:=ju hc
      simp only[XC]
      exact mZ _ _ _ _ (by omega) (by omega)
   ·refine this.no rfl ?_
    rw[<-hb]
    show bnd dL _ l3=bnd dL _ l3
    unfold bnd
    cases hp:dL l3 with
    |none=>rfl
    |some y=>
     obtain⟨y1,y2⟩:=y
     have e:=m4.ok rfl y1 y2 hp
     have hlt:=Ltp.name l3 y1 y2 hp
     rw[<-e.2.2]at hlt⊢
     simp only
     unfold vu
     simp only
     cases hc:dB cg l4 with
     |false=>rfl
     |true=>
      have:=ju hc
      simp only[XC]
      exact mZ _ _ _ _ (by omega) (by omega)
 obtain⟨l6,w6,h6,m6⟩:=wm cB HN l5 w5 it
 obtain⟨l7,w7,h7,m7⟩:=wm sB GO l6 w6 it
 have h8:=f135 ns (by omega) l7 w7 it
 have h9:=Pp it hi (Item.mk 0 (TZ #[]) 0 [] (aa.mk 0 0 false [])) 1 n 0 0 0 false [] ns (by omega) l7 _ 0 (w7||jA ns) rfl
 rw[UJ]at h9
 have h9:bJ (0,l7,(w7||jA ns),Item.mk 0 (TZ #[]) 0 [] (aa.mk 0 0 false []),1,n,0,ns,0,0,false,it,[],())=_:=h9
 refine⟨l7,w7||jA ns||gW it ns,Item.mk 1 n 0 ns z0,?_,?_⟩
 ·rw[gM]
  simp only[<-nd,<-OK,<-Gi,<-rb,h1,h2,h3,h4,TR,TU,XC,XD,TT,T1,TY,Uv,T5,show(0+1<=4294967296)=True by simp,UK,h5,h6,h7,h8,h9]
  rfl
 ·unfold xr
  have:=(Sim.nay (jA ns||gW it ns) l7 w7).bnd (q:=λ_=>ret (Item.mk 1 n 0 ns z0)) (.ret _ _ _)
  rw[<-Xp]at this
  exact(qq m1).bnd (m2.bnd ((qq m3).bnd (mL.bnd ((Gd m6 m7).bnd this))))
end Go.Proofs.YtpelkenpapfadaaGreatDoor
end
section
namespace Go.Proofs.YtpelkenpapfadaaGreatDoor
open Go.Tx
set_option maxRecDepth 20000
open Go.Lib
def iv(it:List Item)(mx:Int):Ps (List BA×List aa):=λl=>if dB cB l=true then none else bH it mx (l.length+1) [] [] l
def sy(it:List Item)(mx:Int):Ps Item:=bnd (cu [bF]) λ_=>bnd dL λn=>bnd (cu [oB]) λ_=>bnd (iv it mx) λp=>bnd (cu [cB,sB]) λ_=>
 bnd (nay (p.1.isEmpty||jA p.1)) λ_=>ret (Item.mk 2 n 0 p.1 (aa.mk 6 0 false p.2))
theorem C2{α β:Type}{p:Ps α}{q q':α->Ps β}(h:∀a,q a=q' a):bnd p q=bnd p q':=by
 rw[show q=q' from funext h]
theorem AW(it:List Item)(mx:Int):dI it mx=sy it mx:=by
 unfold dI sy
 refine C2 λ_=>C2 λn=>C2 λ_=> ?_
 funext l
 unfold bnd
 cases h:dB cB l with
 |false=>
  have:iv it mx l=lr it mx l:=by unfold iv lr;rw[h,XF Ul]
  rw[this]
 |true=>
  have e1:iv it mx l=none:=by unfold iv;rw[h,XG rfl]
  have e2:lr it mx l=some (([],[]),l):=by unfold lr bH;rw[h,XG rfl]
  rw[e1,e2]
  simp only
  cases cu [cB,sB] l with
  |none=>rfl
  |some x=>rfl
theorem Aw(it:List Item)(r:List BA):pP it (cB::r)=none:=by
 have b0:¬cB=nT:=eF (by decide)
 have b1:¬cB=ff:=eF (by decide)
 have b2:¬cB=dy:=eF (by decide)
 have b3:¬cB=ra:=eF (by decide)
 have b4:¬cB=iP:=eF (by decide)
 have b5:¬cB=co:=eF (by decide)
 have b6:¬cB=bF:=eF (by decide)
 have b7:¬cB=gr:=eF (by decide)
 have hu:dB nT (cB::r)=false:=by show decide (cB=nT)=false;exact decide_eq_false b0
 have hwd:tm (cB::r)=some (cB,r):=by show(if cB=e0 then none else some (cB,r))=_;rw[XF HN]
 rw[eB]
 unfold bnd vu
 rw[hu,XF Ul]
 simp only
 rw[hwd]
 show dw it false cB r=none
 unfold dw
 rw[XF b1,XF b2,XF b3,XF b4,XF b5,XF b6,XF b7]
 rfl
theorem Pq(it:List Item)(hi:eL it)(x:Item)(a:Int)(nm:BA)(b c d:Int)(e:Bool):∀(m:Nat) (l:List BA) (w:Bool) (ns:List BA) (ps:List aa),tO l->(w=true\/l.length<=m)->ns.length+l.length<=10000000->ps.length+l.length<=10000000->
 ∃ns' ps' l' w',aR (l,w,x,a,nm,b,c,d,e,it,ns,ps,())=some (l',w',x,a,nm,b,c,d,e,it,ns',ps',())/\ns'.length<=ns.length+l.length+1/\l'<:+l/\∀k,l.length<k->
  Sim (λl=>if(ns.isEmpty&&dB cB l)=true then none else bH it 1000 k ns ps l) l w (ns',ps') l' w':=by
 intro m
 induction m with
 |zero=>
  intro l w ns ps hg hm hb hb2
  cases w with
  |true=>
   refine⟨ns,ps,l,true,?_,by omega,Ur _,λk hk=>Sim.any _ (Ur _)⟩
   rw[aR]
   simp only[TR,TU,XC,XD,TT,T1,TY]
  |false=>
   have hl0:l=[]:=U3.1 (by rcases hm with h|h;cases h;omega)
   subst hl0
   obtain⟨l1,w1,t,h1,m1⟩:=f137 it hi false [] false
   have hl1:l1=[]:=U3.1 (by have:=m1.len;simpa using this)
   subst hl1
   have hw1:w1=true:=m1.no rfl rfl
   subst hw1
   obtain⟨l5,w5,h5,m5⟩:=wm sB GO [] true it
   have hl5:l5=[]:=U3.1 (by have:=m5.len;simpa using this)
   have hw5:w5=true:=m5.bad rfl
   subst hl5 hw5
   have ht:ns.length+1<=4294967296:=by omega
   have ht2:ps.length+1<=4294967296:=by omega
   refine⟨ns++[e0],ps++[t],[],true,?_,by simp,Ur _,λk hk=> ?_⟩
   ·have hz:decide (e0=cB)=false:=decide_eq_false λh=>HN h.symm
    have ha:mayR tQ [] true=false:=rfl
    have hif:(if((ns.length:Int)==0)=true then some ((true,([]:List BA),false,x,a,nm,b,c,d,e,it,ns,ps,()):Bool×List BA×Bool×Item×Int×BA×Int×Int×Int×Bool×List Item×List BA×List aa×Unit)else some (true,[],false,x,a,nm,b,c,d,e,it,ns,ps,()))=some (true,[],false,x,a,nm,b,c,d,e,it,ns,ps,()):=by split<;>rfl
    rw[aR]
    simp only[TR,TU,XC,XD,TT,T1,TY,G6,show jR [] false=e0 from rfl,aI,<-Gi,hz,hif,h1,AV,show jR [] true=e0 from rfl,show cV [] true=[]from rfl,T5,ht,<-se,GM tQ zz,ha,<-rb,h5,ht2,UD]
    rw[aR]
    simp only[TR,TU,XC,XD,TT,T1,TY]
   ·obtain⟨k,rfl⟩:∃j,k=j+1:=⟨k-1,by omega⟩
    refine Sim.wrong _ (Ur _) ?_
    rw[show dB cB []=false from rfl,Wk,XF Ul];rfl
 |succ m ih=>
  intro l w ns ps hg hm hb hb2
  cases w with
  |true=>
   refine⟨ns,ps,l,true,?_,by omega,Ur _,λk hk=>Sim.any _ (Ur _)⟩
   rw[aR]
   simp only[TR,TU,XC,XD,TT,T1,TY]
  |false=>
   have hml:l.length<=m+1:=by rcases hm with h|h;cases h;exact h
   have hat:=A7 HN l
   have hz:((ns.length:Int)==0)=ns.isEmpty:=by
    cases ns with
    |nil=>rfl
    |cons y r=>exact beq_eq_false_iff_ne.2 (by rw[Ue];omega)
   cases hgo:(!ns.isEmpty&&dB cB l)with
   |true=>
    rw[Uf,VL]at hgo
    rw[hgo.2]at hat
    refine⟨ns,ps,l,false,?_,by omega,Ur _,λk hk=> ?_⟩
    ·rw[aR]
     simp only[TR,TU,XC,XD,TT,T1,TY,hz,hgo.1,G6,show jR l false=hd l from rfl,aI,<-Gi,hat]
    ·obtain⟨k,rfl⟩:∃j,k=j+1:=⟨k-1,by omega⟩
     refine(Sim.ret (ns,ps) l false).congr ?_
     rw[hgo.1,Vh,XF Ul]
     unfold bH;rw[hgo.2,XG rfl];rfl
   |false=>
    have hcond:(if((ns.length:Int)==0)=true then some ((true,l,false,x,a,nm,b,c,d,e,it,ns,ps,()):Bool×List BA×Bool×Item×Int×BA×Int×Int×Int×Bool×List Item×List BA×List aa×Unit)
     else(ek (l,false,it,())).bind λx1=>if x1.2.2.2.1.length=it.length then some (!x1.1.toList==(TZ #[125]).toList,x1.2.1,x1.2.2.1,x,a,nm,b,c,d,e,x1.2.2.2.1,ns,ps,())else none)=some (true,l,false,x,a,nm,b,c,d,e,it,ns,ps,()):=by
     rw[hz]
     cases hne:ns.isEmpty with
     |true=>rfl
     |false=>
      rw[hne,TY,U9]at hgo
      rw[hgo]at hat
      simp only[TR,TU,XC,XD,TT,T1,TY,G6,show jR l false=hd l from rfl,aI,<-Gi,hat]
    obtain⟨l1,w1,t,h1,m1⟩:=f137 it hi false l false
    have h2:=AV l1 w1 it
    have m2:=Sim.nameR l1 w1
    obtain⟨n,hn⟩:∃n,jR l1 w1=n:=⟨_,rfl⟩
    obtain⟨l2,hl2⟩:∃l2,cV l1 w1=l2:=⟨_,rfl⟩
    obtain⟨w2,hw2⟩:∃w2,(w1|| !bO (hd l1))=w2:=⟨_,rfl⟩
    rw[hn,hl2,hw2]at h2 m2
    have h3:=GM tQ zz l2 w2 it
    have m3:=Sim.mayR tQ l2 w2
    have ht:ns.length+1<=4294967296:=by omega
    have ht2:ps.length+1<=4294967296:=by omega
    have arr:∃l4 w4 t4,Sim (wv 1000 t (mayR tQ l2 w2)) (if mayR tQ l2 w2=true then l2.tail else l2) w2 t4 l4 w4/\
     ∀l5 w5,aQ (sB,l4,w4,it,())=some (l5,w5,it,())->aR (l,false,x,a,nm,b,c,d,e,it,ns,ps,())=aR (l5,w5,x,a,nm,b,c,d,e,it,ns++[n],ps++[t4],()):=by
     cases hb3:mayR tQ l2 w2 with
     |false=>
      rw[hb3,XF Ul]at h3
      refine⟨l2,w2,t,?_,λl5 w5 h5=> ?_⟩
      ·rw[XF Ul];exact .ret _ _ _
      ·conv=>lhs;rw[aR]
       simp only[TR,TU,XC,XD,TT,T1,TY]at hcond⊢
       simp only[hcond,TR,TU,XC,XD,TT,T1,TY,h1,h2,T5,ht,<-se,h3,<-rb,h5,ht2]
     |true=>
      rw[hb3,XG rfl]at h3
      rw[XG rfl]
      have g2:tO l2.tail:=hg.suf (((VQ l2).trans m2.suf).trans m1.suf)
      obtain⟨v,h4,m4,_⟩:=RG l2.tail g2 w2 it
      obtain⟨l4,hl4⟩:∃l4,cV l2.tail w2=l4:=⟨_,rfl⟩
      obtain⟨w4,hw4⟩:∃w4,(w2|| !eR (hd l2.tail))=w4:=⟨_,rfl⟩
      rw[hl4,hw4]at h4 m4
      obtain⟨l6,w6,h6,m6⟩:=wm LR Jl l4 (w4||(decide (v<1)||decide (v>1000))) it
      refine⟨l6,w6,aa.mk 5 v false [t],?_,λl5 w5 h5=> ?_⟩
      ·unfold wv
       rw[XG rfl]
       exact m4.bnd ((Sim.nay _ _ _).bnd ((qq m6).bnd (.ret _ _ _)))
      ·conv=>lhs;rw[aR]
       simp only[TR,TU,XC,XD,TT,T1,TY]at hcond⊢
       simp only[hcond,TR,TU,XC,XD,TT,T1,TY,h1,h2,T5,ht,<-se,h3,h4]
       cases w4 with
       |true=>
        rw[UD]at h6
        simp only[TR,TU,XC,XD,TT,T1,TY,<-vZ,h6,<-rb,h5,ht2]
       |false=>
        rw[Ux]at h6
        by_cases hv1:v<1
        ·rw[decide_eq_true hv1,UD]at h6
         simp only[TR,TU,XC,XD,TT,T1,TY,hv1,XI,<-vZ,h6,<-rb,h5,ht2]
        ·rw[decide_eq_false hv1,Ux]at h6
         simp only[TR,TU,XC,XD,TT,T1,TY,hv1,XJ,<-vZ,h6,<-rb,h5,ht2]
    obtain⟨l4,w4,t4,m4,harr⟩:=arr
    obtain⟨l5,w5,h5,m5⟩:=wm sB GO l4 w4 it
    have hpart:Sim (j8 it 1000) l false (t4,n) l5 w5:=m1.bnd (m2.bnd (m3.bnd (m4.bnd ((qq m5).bnd (.ret _ _ _)))))
    have hnative:=harr l5 w5 h5
    have hl5:=hpart.len
    have hlt:w5=true\/l5.length<l.length:=by
     cases w5 with
     |true=>exact .inl rfl
     |false=>exact .inr (hpart.lt (Ltp.part it 1000))
    have step (k:Nat):(if(ns.isEmpty&&dB cB l)=true then none else bH it 1000 (k+1) ns ps l)=bnd (j8 it 1000) (λp=>λr=>if((ns++[p.2]).isEmpty&&dB cB r)=true then none else bH it 1000 k (ns++[p.2]) (ps++[p.1]) r) l:=by
     have hne (y:BA):(ns++[y]).isEmpty=false:=by cases ns<;>rfl
     have hr:(bnd (j8 it 1000) (λp=>λr=>if((ns++[p.2]).isEmpty&&dB cB r)=true then none else bH it 1000 k (ns++[p.2]) (ps++[p.1]) r) l)=bnd (j8 it 1000) (λp=>bH it 1000 k (ns++[p.2]) (ps++[p.1])) l:=by
      congr 1;funext p r;rw[hne,Vh,XF Ul]
     rw[hr]
     cases hc:dB cB l with
     |false=>
      rw[Wk,XF Ul]
      conv=>lhs;unfold bH
      rw[hc,XF Ul]
     |true=>
      rw[hc,Wc,Bool.not_eq_false']at hgo
      rw[hgo,U9,XG rfl]
      have hk:pP it l=none:=by
       obtain⟨r,rfl⟩:=jF hc
       exact Aw it r
      have hkd:qT it false l=none:=by unfold qT bnd;rw[hk]
      unfold bnd j8
      unfold bnd
      rw[hkd]
    rcases Decidable.em (w5=true)with hw5|hw5
    ·subst hw5
     refine⟨ns++[n],ps++[t4],l5,true,?_,by rw[Uc,T5];omega,hpart.suf,λk hk=> ?_⟩
     ·rw[hnative,aR]
      simp only[TR,TU,XC,XD,TT,T1,TY]
     ·obtain⟨k,rfl⟩:∃j,k=j+1:=⟨k-1,by omega⟩
      exact(hpart.bnd (Sim.any _ (Ur _))).congr (step k)
    ·have hlt:l5.length<l.length:=by rcases hlt with h|h;exact(hw5 h).elim;exact h
     obtain⟨ns',ps',l',w',i1,i2,i3,i4⟩:=ih l5 w5 (ns++[n]) (ps++[t4]) (hg.suf hpart.suf) (.inr (by omega)) (by simp only[Uc,T5];omega) (by simp only[Uc,T5];omega)
     refine⟨ns',ps',l',w',by rw[hnative,i1],?_,i3.trans hpart.suf,λk hk=> ?_⟩
     ·rw[Uc,T5]at i2;omega
     ·obtain⟨k,rfl⟩:∃j,k=j+1:=⟨k-1,by omega⟩
      exact(hpart.bnd (q:=λp=>λr=>if((ns++[p.2]).isEmpty&&dB cB r)=true then none else bH it 1000 k (ns++[p.2]) (ps++[p.1]) r) (i4 k (by omega))).congr (step k)
theorem f103(it:List Item)(hi:eL it)(l:List BA)(hg:tO l)(hl:l.length<=1000000)(w:Bool):∃l' w' x,gN (l,w,it,())=some (l',w',it,x,())/\Sim (dI it 1000) l w x l' w':=by
 have hlen:=hi.len
 obtain⟨l1,w1,h1,m1⟩:=wm bF gA l w it
 have h2:=AV l1 w1 it
 have m2:=Sim.nameR l1 w1
 obtain⟨n,hn⟩:∃n,jR l1 w1=n:=⟨_,rfl⟩
 obtain⟨l2,hl2⟩:∃l2,cV l1 w1=l2:=⟨_,rfl⟩
 obtain⟨w2,hw2⟩:∃w2,(w1|| !bO (hd l1))=w2:=⟨_,rfl⟩
 rw[hn,hl2,hw2]at h2 m2
 obtain⟨l3,w3,h3,m3⟩:=wm oB OA l2 w2 it
 have s123:=(m3.suf.trans m2.suf).trans m1.suf
 have hlen3:=s123.length_le
 obtain⟨ns,ps,l4,w4,h4,hns,_,m4⟩:=Pq it hi (Item.mk 0 (TZ #[]) 0 [] (aa.mk 0 0 false [])) 2 n 0 6 0 false _ l3 w3 [] [] (hg.suf s123) (.inr (Up _)) (by simp only[Uv];omega) (by simp only[Uv];omega)
 rw[Uv]at hns
 have m4:Sim (iv it 1000) l3 w3 (ns,ps) l4 w4:=(m4 (l3.length+1) (V7 _)).congr (by
  unfold iv;rw[show([]:List BA).isEmpty=true from rfl,U9])
 obtain⟨l5,w5,h5,m5⟩:=wm cB HN l4 w4 it
 obtain⟨l6,w6,h6,m6⟩:=wm sB GO l5 w5 it
 have h7:=f135 ns (by omega) l6 w6 it
 have hne:w6=false->ns.isEmpty=false:=by
  intro hw
  cases w4 with
  |true=>have:=m6.bad (m5.bad rfl);rw[hw]at this;cases this
  |false=>
   cases w3 with
   |true=>have:=m4.bad rfl;cases this
   |false=>
    cases hp:iv it 1000 l3 with
    |none=>have:=m4.no rfl hp;cases this
    |some y=>
     obtain⟨y1,y2⟩:=y
     obtain⟨_,e,_⟩:=m4.ok rfl y1 y2 hp
     cases hns':ns with
     |cons z r=>rfl
     |nil=>
      unfold iv at hp
      split at hp
      ·cases hp
      ·rename_i hc
       unfold bH at hp
       rw[XF hc]at hp
       obtain⟨a,r1,e1,e2⟩:=ap hp
       have grow:∀(k:Nat) (ns0:List BA) (ps0:List aa) (l:List BA) (q:List BA×List aa) (r:List BA),bH it 1000 k ns0 ps0 l=some (q,r)->ns0.length<=q.1.length:=by
        intro k
        induction k with
        |zero=>intro ns0 ps0 l q r h;cases h
        |succ k ihk=>
         intro ns0 ps0 l q r h
         unfold bH at h
         split at h
         ·cases h;exact Up _
         ·obtain⟨a,r1,e1,e2⟩:=ap h
          have:=ihk _ _ _ _ _ e2
          rw[Uc,T5]at this;omega
       have:=grow _ _ _ _ _ _ e2
       rw[<-e,hns']at this
       simp at this
 rw[AW]
 refine⟨l6,w6||jA ns,Item.mk 2 n 0 ns (aa.mk 6 0 false ps),?_,?_⟩
 ·rw[gN]
  simp only[<-gV,<-OK,<-Gi,<-rb,h1,h2,h3,h4,h5,h6,h7,TR,TU,XC,XD,TT,T1,TY]
 ·unfold sy
  have fin:Sim (bnd (nay (ns.isEmpty||jA ns)) λ_=>ret (Item.mk 2 n 0 ns (aa.mk 6 0 false ps))) l6 w6 (Item.mk 2 n 0 ns (aa.mk 6 0 false ps)) l6 (w6||jA ns):=by
   have:=(Sim.nay (ns.isEmpty||jA ns) l6 w6).bnd (q:=λ_=>ret (Item.mk 2 n 0 ns (aa.mk 6 0 false ps))) (.ret _ _ _)
   cases w6 with
   |true=>exact this
   |false=>rw[hne rfl,Ux]at this⊢;exact this
  exact(qq m1).bnd (m2.bnd ((qq m3).bnd (m4.bnd ((Gd m5 m6).bnd fin))))
theorem G5(x:Item)(y:aa)(a:Int)(nm:BA)(b c d:Int)(e:Bool)(it:List Item)(l:List BA)(w more:Bool)(ns:List BA)(ps:List aa)(h:more=false\/w=true):
 bz (more,l,w,x,y,a,nm,b,c,d,e,it,ns,ps,())=some (l,w,x,y,a,nm,b,c,d,e,it,ns,ps,()):=by
 rw[bz]
 cases more with
 |false=>simp only[TR,TU,XC,XD,TT,T1,TY]
 |true=>
  rcases h with h|h
  ·cases h
  ·rw[h];simp only[TR,TU,XC,XD,TT,T1,TY]
theorem Pr(it:List Item)(hi:eL it)(x:Item)(y:aa)(a:Int)(nm:BA)(b c d:Int)(e:Bool):∀(m:Nat) (l:List BA) (w:Bool) (ns:List BA) (ps:List aa),l.length<=m->ns.length+l.length<=10000000->ps.length+l.length<=10000000->
 ∃ns' ps' l' w',bz (true,l,w,x,y,a,nm,b,c,d,e,it,ns,ps,())=some (l',w',x,y,a,nm,b,c,d,e,it,ns',ps',())/\ns'.length<=ns.length+l.length+1/\ps'.length<=ps.length+l.length+1/\l'<:+l/\∀k,l.length<k->Sim (Fa it k ns ps) l w (ns',ps') l' w':=by
 intro m
 induction m with
 |zero=>
  intro l w ns ps hl hb hb2
  have hl0:l=[]:=U3.1 (by omega)
  subst hl0
  cases w with
  |true=>exact⟨ns,ps,[],true,G5 _ _ _ _ _ _ _ _ _ _ _ _ _ _ (.inr rfl),by omega,by omega,Ur _,λk hk=>Sim.any _ (Ur _)⟩
  |false=>
   obtain⟨l1,w1,t,h1,m1⟩:=f137 it hi false [] false
   have hl1:l1=[]:=U3.1 (by have:=m1.len;simpa using this)
   subst hl1
   have hw1:w1=true:=m1.no rfl rfl
   subst hw1
   have ht:ns.length+1<=4294967296:=by omega
   have ht2:ps.length+1<=4294967296:=by omega
   have ha:mayR cg [] true=false:=rfl
   refine⟨ns++[e0],ps++[t],[],true,?_,by simp,by simp,Ur _,λk hk=> ?_⟩
   ·rw[bz]
    simp only[TR,TU,XC,XD,TT,T1,TY,h1,AV,show jR [] true=e0 from rfl,show cV [] true=[]from rfl,UD,<-dF,GM cg gg,ha,T5,ht,ht2,G5 x y a nm b c d e it [] true false _ _ (.inl rfl)]
   ·obtain⟨k,rfl⟩:∃j,k=j+1:=⟨k-1,by omega⟩
    exact Sim.wrong _ (Ur _) rfl
 |succ m ih=>
  intro l w ns ps hl hb hb2
  cases w with
  |true=>exact⟨ns,ps,l,true,G5 _ _ _ _ _ _ _ _ _ _ _ _ _ _ (.inr rfl),by omega,by omega,Ur _,λk hk=>Sim.any _ (Ur _)⟩
  |false=>
   obtain⟨l1,w1,t,h1,m1⟩:=f137 it hi false l false
   have h2:=AV l1 w1 it
   have m2:=Sim.nameR l1 w1
   obtain⟨n,hn⟩:∃n,jR l1 w1=n:=⟨_,rfl⟩
   obtain⟨l2,hl2⟩:∃l2,cV l1 w1=l2:=⟨_,rfl⟩
   obtain⟨w2,hw2⟩:∃w2,(w1|| !bO (hd l1))=w2:=⟨_,rfl⟩
   rw[hn,hl2,hw2]at h2 m2
   have hlen2:=UW m2.len m1.len
   have h3:=GM cg gg l2 w2 it
   have m3:=Sim.mayR cg l2 w2
   have ht:ns.length+1<=4294967296:=by omega
   have ht2:ps.length+1<=4294967296:=by omega
   cases hb3:mayR cg l2 w2 with
   |false=>
    rw[hb3,XF Ul]at h3 m3
    refine⟨ns++[n],ps++[t],l2,w2,?_,by rw[Uc,T5];omega,by rw[Uc,T5];omega,m2.suf.trans m1.suf,λk hk=> ?_⟩
    ·rw[bz]
     simp only[TR,TU,XC,XD,TT,T1,TY,h1,h2,<-dF,h3,T5,ht,ht2,G5 x y a nm b c d e it l2 w2 false _ _ (.inl rfl)]
    ·obtain⟨k,rfl⟩:∃j,k=j+1:=⟨k-1,by omega⟩
     exact m1.bnd (m2.bnd (m3.bnd (.ret _ _ _)))
   |true=>
    rw[hb3,XG rfl]at h3 m3
    obtain⟨rfl,hat⟩:=D8 hb3
    have htl:=ju hat
    obtain⟨ns',ps',l',w',i1,i2,i2',i3,i4⟩:=ih l2.tail false (ns++[n]) (ps++[t]) (by omega) (by rw[Uc,T5];omega) (by rw[Uc,T5];omega)
    refine⟨ns',ps',l',w',?_,by rw[Uc,T5]at i2;omega,by rw[Uc,T5]at i2';omega,i3.trans ((VQ l2).trans (m2.suf.trans m1.suf)),λk hk=> ?_⟩
    ·rw[bz]
     simp only[TR,TU,XC,XD,TT,T1,TY,h1,h2,<-dF,h3,T5,ht,ht2]
     exact i1
    ·obtain⟨k,rfl⟩:∃j,k=j+1:=⟨k-1,by omega⟩
     exact m1.bnd (m2.bnd (m3.bnd (i4 k (by omega))))
theorem f104(it:List Item)(hi:eL it)(l:List BA)(hl:l.length<=1000000)(w:Bool):∃l' w' x,ej (l,w,it,())=some (l',w',it,x,())/\Sim (xu it) l w x l' w':=by
 have hlen:=hi.len
 obtain⟨l1,w1,t,h1,m1⟩:=f137 it hi true l w
 have h2:=AV l1 w1 it
 have m2:=Sim.nameR l1 w1
 obtain⟨n,hn⟩:∃n,jR l1 w1=n:=⟨_,rfl⟩
 obtain⟨l2,hl2⟩:∃l2,cV l1 w1=l2:=⟨_,rfl⟩
 obtain⟨w2,hw2⟩:∃w2,(w1|| !bO (hd l1))=w2:=⟨_,rfl⟩
 rw[hn,hl2,hw2]at h2 m2
 obtain⟨l3,w3,h3,m3⟩:=wm yV EN l2 w2 it
 have hlen3:=UW (UW m3.len m2.len) m1.len
 have args:∃ns ps l4 w4,Sim (kj it) l3 w3 (ns,ps) l4 w4/\ns.length<=2000000/\ps.length<=2000000/\∀l5 w5 l6 w6,aQ (du,l4,w4,it,())=some (l5,w5,it,())->aQ (sB,l5,w5,it,())=some (l6,w6,it,())->
  ej (l,w,it,())=some (l6,w6||jA ns,it,Item.mk 3 n 0 ns (aa.mk 6 0 false (ps++[t])),()):=by
  cases hv:vW l3 with
  |true=>
   obtain⟨r,rfl⟩:=vX hv
   have hleft:cV (co::du::r) w3<:+co::du::r:=D0 _ _
   refine⟨[],[],cV (co::du::r) w3,w3,?_,by simp,by simp,λl5 w5 l6 w6 h5 h6=> ?_⟩
   ·cases w3 with
    |true=>exact Sim.any _ hleft
    |false=>
     have e:cV (co::du::r) false=du::r:=by unfold cV cp;rw[XF Ul,XF (show¬hd (co::du::r)=e0 from mN)];rfl
     rw[e]
     refine⟨WC _ _,id,λhw b r' hb=> ?_,λhw hb=> ?_⟩
     ·unfold kj at hb;rw[hv,XG rfl]at hb;cases hb;exact⟨hw,rfl,rfl⟩
     ·unfold kj at hb;rw[hv,XG rfl]at hb;cases hb
   ·have c1:(((co::du::r).length:Int)>1):=by simp only[Ue];omega
    have c2:(co::du::r)[U1 0]?=some co:=rfl
    have c3:(co::du::r)[U1 1]?=some du:=rfl
    have c4:hd (co::du::r)=co:=rfl
    have h7:=f135 [] (by simp) l6 w6 it
    have h8:jA []=false:=rfl
    rw[h8,U_]at h7
    rw[ej]
    simp only[h1,h2,<-tM,h3,TR,TU,XC,XD,TT,T1,TY,c1,c2,c3,XI,aI,<-jy,<-tN,f138,c4,mN,XJ,U_,h5,<-rb,h6,h7,h8,Uv,T5,show(0+1<=4294967296)=True by simp]
  |false=>
   obtain⟨ns,ps,l4,w4,h4,hns,hps,_,m4⟩:=Pr it hi (Item.mk 0 (TZ #[]) 0 [] (aa.mk 0 0 false [])) t 3 n 0 6 0 false _ l3 w3 [] [] (Up _) (by simp only[Uv];omega) (by simp only[Uv];omega)
   rw[Uv]at hns hps
   refine⟨ns,ps,l4,w4,(m4 _ (V7 _)).congr (by unfold kj;rw[hv,XF Ul]),by omega,by omega,λl5 w5 l6 w6 h5 h6=> ?_⟩
   have ht2:ps.length+1<=4294967296:=by omega
   have h7:=f135 ns (by omega) l6 w6 it
   rw[ej]
   simp only[h1,h2,<-tM,h3,TR,TU,XC,XD,TT,T1,TY,aI,<-jy,<-tN]
   by_cases c1:((l3.length:Int)>1)
   ·match l3,hv,c1 with
    |[],_,c1=>simp at c1
    |[y],_,c1=>simp at c1
    |y::z::r,hv,c1=>
     have c2:(y::z::r)[U1 0]?=some y:=rfl
     have c3:(y::z::r)[U1 1]?=some z:=rfl
     by_cases e1:y=co
     ·have e2:¬z=du:=λe2=>by
       have hv:(decide (y=co)&&decide (z=du))=false:=hv
       rw[decide_eq_true e1,decide_eq_true e2]at hv;cases hv
      subst e1
      simp only[c1,c2,c3,e2,XI,XJ,TR,TU,XC,XD,TT,T1,TY,h4,h5,<-rb,h6,h7,T5,ht2]
     ·simp only[c1,c2,e1,XI,XJ,TR,TU,XC,XD,TT,T1,TY,h4,h5,<-rb,h6,h7,T5,ht2]
   ·simp only[c1,XJ,TR,TU,XC,XD,TT,T1,TY,h4,h5,<-rb,h6,h7,T5,ht2]
 obtain⟨ns,ps,l4,w4,m4,hns,hps,harg⟩:=args
 obtain⟨l5,w5,h5,m5⟩:=wm du EO l4 w4 it
 obtain⟨l6,w6,h6,m6⟩:=wm sB GO l5 w5 it
 refine⟨l6,_,_,harg l5 w5 l6 w6 h5 h6,?_⟩
 unfold xu
 exact m1.bnd (m2.bnd ((qq m3).bnd (m4.bnd ((Gd m5 m6).bnd ((Sim.nay _ _ _).bnd (.ret _ _ _))))))
end Go.Proofs.YtpelkenpapfadaaGreatDoor
end
section
namespace Go.Proofs.YtpelkenpapfadaaGreatDoor
set_option maxRecDepth 20000
theorem y56(l:aa):Bn (l,())=some (j4 l,()):=by
 simp only[Bn,j4,XH];(repeat' split)<;>simp_all
theorem y58(l:aa):HB (l,())=some (j4 l,()):=by
 simp only[HB,j4,XH];(repeat' split)<;>simp_all
theorem R5(xs:List Int)(hx:∀x∈xs,0<=x)(hl:xs.length<=1000000)(k:Nat)(a:Int)(h0:0<=a)(h1:a<=far):
 lm (a,xs,xs.length,k,())=some ((xs.drop k).foldl (λn x=>min far (n+min x far)) a,()):=by
 have hf:far=1099511627776:=rfl
 rw[lm]
 by_cases hlt:k<xs.length
 ·obtain⟨p,hp,hm,hd,g1,g2⟩:=dW hlt
  have hp0:=hx p hm
  have e1:IntKind.i64.wrap (a+min p 1099511627776)=a+min p 1099511627776:=c6 (by omega) (by omega)
  simp only[TR,TU,T2,XC,XD,TT,T0,TW,TX,XH,XE,T3,g1,g2,hp,e1,bm hlt (UW hl (by decide)),hd,Va,hlt]
  exact R5 xs hx hl (k+1) _ (by omega) (by omega)
 ·obtain⟨hd,g1⟩:=iB hlt
  simp only[TR,TU,T2,XC,XD,TT,T0,TW,TX,XH,XE,T3,g1,hd,Wy,hlt]
termination_by xs.length-k
theorem y72(xs:List Int)(hx:∀x∈xs,0<=x)(hl:xs.length<=1000000):lk (xs,())=some (OE xs,()):=by
 have:=R5 xs hx hl 0 0 (by omega) (by decide)
 simp only[U2,Vd]at this
 simp only[lk,this,TR,TU,T2,XC,XD,TT,T0,TW,TX,XH,XE,T3,UJ,OE]
theorem LU{a b:Int}(ha:0<=a)(hb:0<=b):lk ([a,b],())=some (min far (a+b),()):=by
 rw[y72 [a,b] (by simp;omega) (by simp),QY a b ha hb]
theorem R4(l:aa)(hn:l.parts.length<=9223372036854775807)(k:Nat)(a:Int)(h0:0<=a)(h1:a<=100000):lj (a,k,l,())=some ((l.parts.drop k).foldl (λn p=>min (n+min (j4 p) 1000) 100000) a,()):=by
 rw[lj]
 by_cases hlt:k<l.parts.length
 ·obtain⟨p,hp,hm,hd,g1,g2⟩:=dW hlt
  have b1:=f8 p
  have e1:IntKind.i64.wrap (a+min (j4 p) 1000)=a+min (j4 p) 1000:=c6 (by omega) (by omega)
  simp only[TR,TU,T2,XC,XD,TT,T0,TW,TX,XH,XE,T3,g1,g2,hp,y58,e1,bm hlt hn,hd,Va,hlt]
  exact R4 l hn (k+1) _ (by omega) (by omega)
 ·obtain⟨hd,g1⟩:=iB hlt
  simp only[TR,TU,T2,XC,XD,TT,T0,TW,TX,XH,XE,T3,g1,hd,Wy,hlt]
termination_by l.parts.length-k
theorem y52(l:aa)(hn:l.parts.length<=9223372036854775807):Hk (l,())=some (jq l.parts,()):=by
 have:=R4 l hn 0 0 (by omega) (by omega)
 simp only[Vd,U2,UJ]at this
 simp only[Hk,this,TR,TU,T2,XC,XD,TT,T0,TW,TX,XH,XE,T3,jq]
end Go.Proofs.YtpelkenpapfadaaGreatDoor
end
section
namespace Go.Proofs.YtpelkenpapfadaaGreatDoor
open IntKind (i64)
set_option maxRecDepth 20000
theorem y47:∀(l:aa),l.Fits->l.depth<=1000000->n_139 (l,())=some ((l.depth:Int),()):=by
 refine aa.ind λl ih hl hd0=> ?_
 have loop:∀(m k:Nat) (a:Int),l.parts.length-k=m->0<=a->fM (a,k,l,())=some (max a (aa.depthL (l.parts.drop k)),()):=by
  intro m
  induction m with
  |zero=>
   intro k a hk h0
   have hlt:¬k<l.parts.length:=by omega
   obtain⟨hd,g1⟩:=iB hlt
   rw[fM]
   simp only[TR,TU,T2,XC,XD,TT,T0,TW,TX,XH,XE,T3,hlt,hd,aa.depthL]
   have:max a (0:Nat)=a:=by omega
   rw[this]
  |succ m ihm=>
   intro k a hk h0
   have hlt:k<l.parts.length:=by omega
   obtain⟨p,hp,hm,hd,g1,g2⟩:=dW hlt
   have:=aa.depth_mem hm
   rw[fM]
   simp only[TR,TU,T2,XC,XD,TT,T0,TW,TX,XH,XE,T3,g1,g2,hlt,hp,ih p hm (hl.part hm) (by omega),bm hlt hl.len,hd,aa.depthL]
   rw[ihm (k+1) _ (by omega) (by omega)]
   have e:max (max a (p.depth:Int)) ((aa.depthL (l.parts.drop (k+1)):Nat):Int)=max a ((max p.depth (aa.depthL (l.parts.drop (k+1))):Nat):Int):=by omega
   rw[e]
 have h:=loop _ 0 0 rfl (by omega)
 have e:=l.depth_eq
 simp only[Vd,U2,UJ]at h
 have e1:i64.wrap (max 0 ((aa.depthL l.parts:Nat):Int)+1)=(l.depth:Int):=by rw[c6 (by omega) (by omega)];omega
 rw[n_139]
 simp only[h,TR,TU,T2,XC,XD,TT,T0,TW,TX,XH,XE,T3,e1]
theorem y48:∀(l:aa),l.Fits->l.arr->n_127 (l,())=some (min far l.cells,()):=by
 refine aa.ind λl ih hl hr=> ?_
 have hf:far=1099511627776:=rfl
 have loop:∀(m k:Nat) (a:Int),l.parts.length-k=m->0<=a->a<=far->fK (a,l.parts,l.parts.length,k,l,())=some (min far (a+aa.cellsL (l.parts.drop k)),l,()):=by
  intro m
  induction m with
  |zero=>
   intro k a hk h0 h1
   have hlt:¬k<l.parts.length:=by omega
   obtain⟨hd,g1⟩:=iB hlt
   rw[fK]
   have e:min far (a+0)=a:=by omega
   simp only[TR,TU,T2,XC,XD,TT,T0,TW,TX,XH,XE,T3,hlt,hd,aa.cellsL,e]
  |succ m ihm=>
   intro k a hk h0 h1
   have hlt:k<l.parts.length:=by omega
   obtain⟨p,hp,hm,hd,g1,g2⟩:=dW hlt
   have b1:=p.cells_pos
   have b2:=aa.cellsL_nonneg (l.parts.drop (k+1))
   rw[fK]
   simp only[TR,TU,T2,XC,XD,TT,T0,TW,TX,XH,XE,T3,g1,g2,hlt,hp,ih p hm (hl.part hm) (hr.part hm),LU h0 (show(0:Int)<=min far p.cells by omega),bm hlt hl.len,hd,aa.cellsL]
   rw[ihm (k+1) _ (by omega) (by omega) (by omega)]
   have e:min far (min far (a+min far p.cells)+aa.cellsL (l.parts.drop (k+1)))=min far (a+(p.cells+aa.cellsL (l.parts.drop (k+1)))):=by omega
   rw[e]
 have h:=loop _ 0 0 rfl (by omega) (by decide)
 simp only[Vd,U2,UJ,Xz]at h
 have b2:=aa.cellsL_nonneg l.parts
 rw[n_127]
 simp only[h,TR,TU,T2,XC,XD,TT,T0,TW,TX,XH,XE,T3]
 have b0:0<=min far (aa.cellsL l.parts):=by omega
 by_cases h5:l.kind=5
 ·have hn:=hr.self h5
  have b3:0<=max 0 l.n *min far (aa.cellsL l.parts):=Xj (by omega) b0
  have b4:max 0 l.n *min far (aa.cellsL l.parts)<=1000000 *1099511627776:=Int.mul_le_mul (by omega) (by omega) b0 (by decide)
  have e1:i64.wrap (max 0 l.n *min far (aa.cellsL l.parts))=max 0 l.n *min far (aa.cellsL l.parts):=c6 (by omega) (by omega)
  rw[XG h5,e1,LU (by omega) b3,Fy (by omega) b2 (by decide),l.cells_eq,XG h5]
  rfl
 ·rw[XF h5,LU (by omega) b0]
  have e1:min far (1+min far (aa.cellsL l.parts))=min far l.cells:=by rw[l.cells_eq,XF h5];omega
  rw[e1]
  rfl
theorem y50:∀(l:aa),l.Fits->n_140 (l,())=some (min 100000 l.cells,()):=by
 refine aa.ind λl ih hl=> ?_
 have loop:∀(m k:Nat) (a:Int),l.parts.length-k=m->0<=a->a<=100000->fN (a,k,l,())=some (min 100000 (a+aa.cellsL (l.parts.drop k)),l,()):=by
  intro m
  induction m with
  |zero=>
   intro k a hk h0 h1
   have hlt:¬k<l.parts.length:=by omega
   obtain⟨hd,g1⟩:=iB hlt
   rw[fN]
   have e:min 100000 (a+0)=a:=by omega
   simp only[TR,TU,T2,XC,XD,TT,T0,TW,TX,XH,XE,T3,hlt,hd,aa.cellsL,e]
  |succ m ihm=>
   intro k a hk h0 h1
   have hlt:k<l.parts.length:=by omega
   obtain⟨p,hp,hm,hd,g1,g2⟩:=dW hlt
   have b1:=p.cells_pos
   have b2:=aa.cellsL_nonneg (l.parts.drop (k+1))
   have e1:i64.wrap (a+min 100000 p.cells)=a+min 100000 p.cells:=c6 (by omega) (by omega)
   rw[fN]
   simp only[TR,TU,T2,XC,XD,TT,T0,TW,TX,XH,XE,T3,g1,g2,hlt,hp,ih p hm (hl.part hm),e1,bm hlt hl.len,hd,aa.cellsL]
   rw[ihm (k+1) _ (by omega) (by omega) (by omega)]
   have e:min 100000 (min (a+min 100000 p.cells) 100000+aa.cellsL (l.parts.drop (k+1)))=min 100000 (a+(p.cells+aa.cellsL (l.parts.drop (k+1)))):=by omega
   rw[e]
 have h:=loop _ 0 0 rfl (by omega) (by decide)
 simp only[Vd,U2,UJ,Xz]at h
 have b2:=aa.cellsL_nonneg l.parts
 rw[n_140]
 simp only[h,TR,TU,T2,XC,XD,TT,T0,TW,TX,XH,XE,T3]
 have b0:0<=min 100000 (aa.cellsL l.parts):=by omega
 by_cases h5:l.kind=5
 ·have b3:0<=min (max l.n 0) 100000 *min 100000 (aa.cellsL l.parts):=Xj (by omega) b0
  have b4:min (max l.n 0) 100000 *min 100000 (aa.cellsL l.parts)<=100000 *100000:=Int.mul_le_mul (by omega) (by omega) b0 (by decide)
  have e1:i64.wrap (min (max l.n 0) 100000 *min 100000 (aa.cellsL l.parts))=min (max l.n 0) 100000 *min 100000 (aa.cellsL l.parts):=c6 (by omega) (by omega)
  have e2:i64.wrap (min (max l.n 0) 100000 *min 100000 (aa.cellsL l.parts)+1)=min (max l.n 0) 100000 *min 100000 (aa.cellsL l.parts)+1:=c6 (by omega) (by omega)
  have e3:min (min (max l.n 0) 100000 *min 100000 (aa.cellsL l.parts)+1) 100000=min 100000 l.cells:=by
   rw[Ic (by omega) b2 (by decide),l.cells_eq,XG h5,show max l.n 0=max 0 l.n by omega]
  simp only[h5,TR,TU,T2,XC,XD,TT,T0,TW,TX,XH,XE,T3,e1,e2,e3]
 ·have e2:i64.wrap (min 100000 (aa.cellsL l.parts)+1)=min 100000 (aa.cellsL l.parts)+1:=c6 (by omega) (by omega)
  have e3:min (min 100000 (aa.cellsL l.parts)+1) 100000=min 100000 l.cells:=by rw[l.cells_eq,XF h5];omega
  simp only[h5,TR,TU,T2,XC,XD,TT,T0,TW,TX,XH,XE,T3,e2,e3]
theorem y46:∀(l:aa),l.Fits->l.all.length<=1000000->n_57 (l,())=some (l.all,()):=by
 refine aa.ind λl ih hl hsz=> ?_
 have loop:∀(m k:Nat) (acc:List aa),l.parts.length-k=m->acc++aa.allL (l.parts.drop k)=l.all->ji (k,l,acc,())=some (l.all,()):=by
  intro m
  induction m with
  |zero=>
   intro k acc hk ha
   have hlt:¬k<l.parts.length:=by omega
   obtain⟨hd,g1⟩:=iB hlt
   rw[hd,aa.allL,UZ]at ha
   rw[ji]
   simp only[TR,TU,T2,XC,XD,TT,T0,TW,TX,XH,XE,T3,hlt,ha]
  |succ m ihm=>
   intro k acc hk ha
   have hlt:k<l.parts.length:=by omega
   obtain⟨p,hp,hm,hd,g1,g2⟩:=dW hlt
   rw[hd,aa.allL,<-UO]at ha
   have hsz2:acc.length+p.all.length<=1000000:=by
    have:=congrArg V5 ha
    simp only[Uc]at this
    omega
   have hle:acc.length+p.all.length<=4294967296:=by omega
   rw[ji]
   simp only[TR,TU,T2,XC,XD,TT,T0,TW,TX,XH,XE,T3,g1,g2,hlt,hp,ih p hm (hl.part hm) (by omega),bm hlt hl.len,hle]
   exact ihm (k+1) _ (by omega) ha
 have h:=loop _ 0 [l] rfl (by rw[l.all_eq];rfl)
 simp only[Vd,U2,UJ]at h
 rw[n_57]
 simp only[h,TR,TU,T2,XC,XD,TT,T0,TW,TX,XH,XE,T3]
theorem R3(dep:Int)(c:al)(l:aa)(ps:List aa)(hn:ps.length<=9223372036854775807)(k:Nat)(a:Int)(h0:0<=a)(h1:a<=far):
 aC (dep,a,ps,ps.length,k,c,l,())=some (dep,min far (a+cX (ps.drop k)),c,l,()):=by
 have hf:far=1099511627776:=rfl
 rw[aC]
 by_cases hlt:k<ps.length
 ·obtain⟨p,hp,hm,hd,g1,g2⟩:=dW hlt
  have b1:=f8 p
  have b2:=gp (ps.drop (k+1))
  simp only[TR,TU,T2,XC,XD,TT,T0,TW,TX,XH,XE,T3,g1,g2,hlt,hp,y56,LU h0 b1,bm hlt hn]
  rw[R3 dep c l ps hn (k+1) _ (by omega) (by omega),hd,cX]
  have e:min far (min far (a+j4 p)+cX (ps.drop (k+1)))=min far (a+(j4 p+cX (ps.drop (k+1)))):=by omega
  rw[e]
 ·obtain⟨hd,g1⟩:=iB hlt
  have e:min far (a+0)=a:=by omega
  simp only[TR,TU,T2,XC,XD,TT,T0,TW,TX,XH,XE,T3,hlt,hd,cX,e]
termination_by ps.length-k
def J7(s:Int×Int×Bool):al:=⟨s.1,s.2.1,s.2.2⟩
theorem y45:∀(l:aa) (dep c d:Int) (g:Bool),l.Fits->0<=c->c+l.all.length<=1000000->0<=dep->dep+l.depth<=1000000->
 n_126sf4a5 (l,dep,⟨c,d,g⟩,())=some (J7 (l.look dep c d g),()):=by
 refine aa.ind λl ih dep c d g hl hc0 hc1 hd0 hd1=> ?_
 have hf:far=1099511627776:=rfl
 have hlen:=hl.len
 have loop:∀(m k:Nat) (s:Int×Int×Bool),l.parts.length-k=m->0<=s.1->s.1+(aa.allL (l.parts.drop k)).length<=1000000->
  bt (dep,l.parts,l.parts.length,k,J7 s,())=some (J7 (aa.lookL (l.parts.drop k) (dep+1) s),()):=by
  intro m
  induction m with
  |zero=>
   intro k s hk hs0 hs1
   have hlt:¬k<l.parts.length:=by omega
   obtain⟨hd,g1⟩:=iB hlt
   rw[bt]
   simp only[TR,TU,T2,XC,XD,TT,T0,TW,TX,XH,XE,T3,hlt,hd,aa.lookL]
  |succ m ihm=>
   intro k s hk hs0 hs1
   have hlt:k<l.parts.length:=by omega
   obtain⟨p,hp,hm,hd,g1,g2⟩:=dW hlt
   rw[hd]at hs1⊢
   simp only[aa.allL,Uc]at hs1
   have hdp:=aa.depth_mem hm
   have hcnt:=p.look_cnt (dep+1) s.1 s.2.1 s.2.2
   have e3:i64.wrap (dep+1)=dep+1:=c6 (by omega) (by omega)
   rw[bt]
   have hih:=ih p hm (dep+1) s.1 s.2.1 s.2.2 (hl.part hm) hs0 (by omega) (by omega) (by omega)
   simp only[TR,TU,T2,XC,XD,TT,T0,TW,TX,XH,XE,T3,g1,g2,hlt,hp,e3]
   have:(J7 s)=⟨s.1,s.2.1,s.2.2⟩:=rfl
   rw[this,hih]
   simp only[TR,TU,T2,XC,XD,TT,T0,TW,TX,XH,XE,T3,bm hlt hlen,aa.lookL]
   exact ihm (k+1) _ (by omega) (by omega) (by omega)
 have hall:1<=l.all.length:=by rw[l.all_eq];simp
 have e1:i64.wrap (c+1)=c+1:=c6 (by omega) (by omega)
 have h14:=R3 dep ⟨c+1,max d dep,g||decide (c+1>60)||decide (dep>5)||decide ((l.parts.length:Int)>12)⟩ l l.parts hlen 0 0 (by omega) (by decide)
 simp only[Vd,U2,UJ,Xz]at h14
 have p1:(if g=true then some (dep,al.mk (i64.wrap (c+(1:Int))) (max d dep) true,l,())
  else if decide (i64.wrap (c+(1:Int))>(60:Int))=true then some (dep,al.mk (i64.wrap (c+(1:Int))) (max d dep) true,l,())
  else if decide (dep>(5:Int))=true then some (dep,al.mk (i64.wrap (c+(1:Int))) (max d dep) true,l,())
  else some (dep,al.mk (i64.wrap (c+(1:Int))) (max d dep) (decide ((l.parts.length:Int)>(12:Int))),l,()))=
  some (dep,(⟨c+1,max d dep,g||decide (c+1>60)||decide (dep>5)||decide ((l.parts.length:Int)>12)⟩:al),l,()):=by
  rw[e1]
  cases g
  ·by_cases h1:c+1>60
   ·simp[h1]
   ·by_cases h2:dep>5
    ·simp[h1,h2]
    ·simp[h1,h2]
  ·simp
 rw[n_126sf4a5]
 simp only[]
 rw[p1]
 simp only[TR,TU,T2,XC,XD,TT,T0,TW,TX,XH,XE,T3]
 rw[l.look_eq]
 generalize hg1:(g||decide (c+1>60)||decide (dep>5)||decide ((l.parts.length:Int)>12))=g1 at h14⊢
 have p2:∀{B:Type} (K:Int×al×aa×Unit->Option B),(((if l.kind=2 then(if g1=true then some (dep,al.mk (c+1) (max d dep) true,l,())else some (dep,al.mk (c+1) (max d dep) (decide (l.n>64)),l,())).bind λx2=>some (x2.1,x2.2.1,x2.2.2.1,())
  else if l.kind=5 then(if g1=true then some (dep,al.mk (c+1) (max d dep) true,l,())else some (dep,al.mk (c+1) (max d dep) (decide (l.n>1000)),l,())).bind λx2=>some (x2.1,x2.2.1,x2.2.2.1,())
  else if l.kind=7 then(if g1=true then some (dep,al.mk (c+1) (max d dep) true,l,())else some (dep,al.mk (c+1) (max d dep) (decide (l.n>65536)),l,())).bind λx2=>some (x2.1,x2.2.1,x2.2.2.1,())
  else if l.kind=9 then(aC (dep,0,l.parts,(l.parts.length:Int),0,⟨c+1,max d dep,g1⟩,l,())).bind λx2=>(if x2.2.2.1.large=true then some (x2.1,al.mk x2.2.2.1.count x2.2.2.1.deep true,x2.2.2.2.1,())else some (x2.1,al.mk x2.2.2.1.count x2.2.2.1.deep (decide (x2.2.1>64)),x2.2.2.2.1,())).bind λx3=>some (x3.1,x3.2.1,x3.2.2.1,())
  else some (dep,(⟨c+1,max d dep,g1⟩:al),l,())):Option (Int×al×aa×Unit)).bind K)=K (dep,⟨c+1,max d dep,g1||l.big1⟩,l,()):=by
  intro B K
  by_cases h2:l.kind=2
  ·have e2:l.big1=decide (l.n>64):=by simp[aa.big1,h2]
   rw[e2];cases g1<;>simp[h2]
  by_cases h5:l.kind=5
  ·have e2:l.big1=decide (l.n>1000):=by simp[aa.big1,h5]
   rw[e2];cases g1<;>simp[h5]
  by_cases h7:l.kind=7
  ·have e2:l.big1=decide (l.n>65536):=by simp[aa.big1,h7]
   rw[e2];cases g1<;>simp[h7]
  by_cases h9:l.kind=9
  ·have e2:l.big1=decide (min far (cX l.parts)>64):=by simp[aa.big1,h9]
   rw[e2,h14];cases g1<;>simp[h9]
  ·have e2:l.big1=false:=by simp[aa.big1,h2,h5,h7,h9]
   simp[h2,h5,h7,h9,e2]
 rw[p2]
 simp only[]
 cases hg2:(g1||l.big1)with
 |true=>simp[J7]
 |false=>
  have h:=loop _ 0 (c+1,max d dep,false) rfl (by simp only[];omega) (by rw[l.all_eq,Ue]at hc1;simp only[UJ];omega)
  simp only[Vd,U2,UJ,J7]at h
  simp only[TR,TU,T2,XC,XD,TT,T0,TW,TX,XH,XE,T3,h]
  rfl
end Go.Proofs.YtpelkenpapfadaaGreatDoor
end
section
namespace Go.Proofs.YtpelkenpapfadaaGreatDoor
set_option maxRecDepth 20000
theorem y62(n lo hi:Int):Hm (n,lo,hi,())=some (decide (lo<=n/\n<=hi),()):=by
 by_cases h1:n>=lo<;>simp[Hm,h1]
theorem y76(l:aa):HI (l,())=some (pS l,()):=by
 unfold HI pS
 by_cases h4:l.kind=4
 ·simp[h4]
 by_cases h5:l.kind=5
 ·simp[h5]
 by_cases h6:l.kind=6
 ·simp[h6]
 by_cases h9:l.kind=9
 ·simp[h9]
 by_cases h8:l.kind=8
 ·simp[h8]
 ·simp[h4,h5,h6,h9,h8]
theorem y51(k:Int):Hx (k,())=some (uN k,()):=by
 simp only[Hx,uN,XH];(repeat' split)<;>simp_all
theorem Rk(l:aa)(hn:l.parts.length<=9223372036854775807)(k:Nat):il (k,l,())=some (if(l.parts.drop k).all fz=true then .inr (l,())else .inl (false,())):=by
 rw[il]
 by_cases hlt:k<l.parts.length
 ·obtain⟨p,hp,hm,hd,g1,g2⟩:=dW hlt
  rw[hd,Vi]
  by_cases q1:p.kind=1
  ·have hb:fz p=true:=by simp[fz,q1]
   have q1':(p.kind !=1)=false:=by simp[q1]
   simp only[TR,TU,T2,XC,XD,TT,T0,TW,TX,XH,XE,T3,g1,g2,hlt,hp,q1',bm hlt hn,hb,U9]
   exact Rk l hn (k+1)
  ·have q1':(p.kind !=1)=true:=by simp[q1]
   by_cases q2:p.kind=2
   ·have hb:fz p=true:=by simp[fz,q2]
    have q2':(p.kind !=2)=false:=by simp[q2]
    simp only[TR,TU,T2,XC,XD,TT,T0,TW,TX,XH,XE,T3,g1,g2,hlt,hp,q1',q2',bm hlt hn,hb,U9]
    exact Rk l hn (k+1)
   ·have hb:fz p=false:=by simp[fz,q1,q2]
    have q2':(p.kind !=2)=true:=by simp[q2]
    simp only[TR,TU,T2,XC,XD,TT,T0,TW,TX,XH,XE,T3,g1,g2,hlt,hp,q1',q2',bm hlt hn,hb,Vh]
 ·obtain⟨hd,g1⟩:=iB hlt
  simp only[TR,TU,T2,XC,XD,TT,T0,TW,TX,XH,XE,T3,hlt,hd,List.all_nil]
termination_by l.parts.length-k
theorem y53(l:aa)(hn:l.parts.length<=9223372036854775807):Hz (l,())=some (l.isS,()):=by
 have h:=Rk l hn 0
 simp only[Vd,U2,UJ]at h
 unfold Hz aa.isS
 simp only[y62,y76,TR,TU,T2,XC,XD,TT,T0,TW,TX,XH,XE,T3]
 by_cases h1:0<=l.kind/\l.kind<=9
 ·cases h2:pS l
  ·simp[h1,h2]
  ·have e:(l.flag&&l.kind !=2)=(if l.flag=true then(l.kind !=2)else false):=by cases l.flag<;>simp
   cases h3:(l.flag&&l.kind !=2)
   ·have h3':(if l.flag=true then some (l.kind !=2,l,())else some (false,l,()))=some (false,l,()):=by
     rw[e]at h3;cases hf:l.flag<;>simp_all
    simp only[h1,and_self,XI,T1,TT,XD,TU,h3',TY,Bool.and_self,U9]
    unfold Nl
    by_cases k2:l.kind=2
    ·simp[k2]
    by_cases k7:l.kind=7
    ·simp[k7]
    by_cases k5:l.kind=5
    ·simp[k5]
    by_cases k9:l.kind=9
    ·simp only[k9]
     simp[h]
     cases hb:l.parts.all fz
     ·have hb':¬∀x∈l.parts,fz x=true:=by rw[<-Uj,hb];simp
      simp[hb']
     ·have hb':∀x∈l.parts,fz x=true:=Uj.1 hb
      rw[XG hb'];simp
    ·simp[k2,k7,k5,k9]
   ·have h3':(if l.flag=true then some (l.kind !=2,l,())else some (false,l,()))=some (true,l,()):=by
     rw[e]at h3;cases hf:l.flag<;>simp_all
    simp[h1,h3']
 ·simp[h1]
theorem PG(F:(List aa×Int×Int×Unit)->Option ((Int×Unit)⊕Unit))(g:aa×Unit->Option (Bool×Unit))(pred:aa->Bool)(ps:List aa)(hn:ps.length<=9223372036854775807)
 (hg:∀p∈ps,g (p,())=some (pred p,()))
 (hF:∀v,F v=(if decide (v.2.2.1<v.2.1)=true then
   if(0:Int)<=v.2.2.1 then
    v.1[v.2.2.1.toNat]?>>=λx1=>
    g (x1,())>>=λx2=>
    if x2.1=true then some (UF (v.2.2.1,()))
    else F (v.1,v.2.1,IntKind.i64.wrap (v.2.2.1+(1:Int)),())
   else none
 else some (UI ())))(k:Nat):
 F (ps,ps.length,k,())=some (if DQ pred (ps.drop k) k= -1 then .inr ()else .inl (DQ pred (ps.drop k) k,())):=by
 rw[hF]
 by_cases hlt:k<ps.length
 ·obtain⟨p,hp,hm,hd,g1,g2⟩:=dW hlt
  rw[hd,DQ]
  cases hq:pred p
  ·simp only[TR,TU,T2,XC,XD,TT,T0,TW,TX,XH,XE,T3,g1,g2,hlt,hp,hg p hm,hq,bm hlt hn]
   rw[PG F g pred ps hn hg hF (k+1)]
   simp
  ·have:¬((k:Int)= -1):=by omega
   simp only[TR,TU,T2,XC,XD,TT,T0,TW,TX,XH,XE,T3,g1,g2,hlt,hp,hg p hm,hq,this]
 ·obtain⟨hd,g1⟩:=iB hlt
  simp only[TR,TU,T2,XC,XD,TT,T0,TW,TX,XH,XE,T3,hlt,hd,DQ]
termination_by ps.length-k
theorem y74(p:aa):Em (p,())=some (!fz p,()):=by
 unfold Em fz
 by_cases h1:p.kind=1
 ·simp[h1]
 ·have:(p.kind==1)=false:=by simp[h1]
  simp[h1,this]
  rfl
theorem TQ(ps:List aa)(hn:ps.length<=9223372036854775807):jd (ps,())=some (ps.any λp=> !fz p,()):=by
 have h:=PG dK Em (λp=> !fz p) ps hn (λp _=>y74 p) (λv=>by rw[dK]) 0
 simp only[Vd,U2,UJ]at h
 have h2:l_ (ps,())=some (DQ (λp=> !fz p) ps 0,()):=by
  unfold l_
  simp only[h,TR,TU,T2,XC,XD,TT,T0,TW,TX,XH,XE,T3]
  by_cases hi:DQ (λp=> !fz p) ps 0= -1<;>simp[hi]
 unfold jd
 simp only[h2,TR,TU,T2,XC,XD,TT,T0,TW,TX,XH,XE,T3,sF _ ps 0 (WQ 0)]
theorem y49:∀(l:aa),l.Fits->fY (l,())=some (l.right,()):=by
 refine aa.ind λl ih hl=> ?_
 have hn:=hl.len
 have h:=PG n_189c167l2 n_167 (λp=> !p.right) l.parts hn (λp hp=>by rw[n_167];simp only[ih p hp (hl.part hp),TR,TU,T2,XC,XD,TT,T0,TW,TX,XH,XE,T3]) (λv=>by rw[n_189c167l2]) 0
 simp only[Vd,U2,UJ]at h
 have h2:n_189c167 (l.parts,())=some (DQ (λp=> !p.right) l.parts 0,()):=by
  rw[n_189c167]
  simp only[h,TR,TU,T2,XC,XD,TT,T0,TW,TX,XH,XE,T3]
  by_cases hi:DQ (λp=> !p.right) l.parts 0= -1<;>simp[hi]
 have h75:n_165c167 (l.parts,())=some (l.parts.any λp=> !p.right,()):=by
  rw[n_165c167]
  simp only[h2,TR,TU,T2,XC,XD,TT,T0,TW,TX,XH,XE,T3,sF _ l.parts 0 (WQ 0)]
 have h74:=TQ l.parts hn
 have he:((l.parts.any λp=> !p.right))= !(l.parts.all aa.right):=by rw[W8]
 rw[he]at h75
 have key:0<=l.kind/\l.kind<=9->fY (l,())=some ((nbS l&& !((l.parts.length:Int) !=pcS l)&& !(l.flag&&l.kind !=2)&& !(l.kind==9&&l.parts.any λp=> !fz p))&&l.parts.all aa.right,()):=by
  intro hk
  have hk':l.kind=0\/l.kind=1\/l.kind=2\/l.kind=3\/l.kind=4\/l.kind=5\/l.kind=6\/l.kind=7\/l.kind=8\/l.kind=9:=by omega
  rw[fY]
  unfold nbS pcS
  generalize l.parts.all aa.right=ar at h75⊢
  generalize (l.parts.any λp=> !fz p)=ab at h74⊢
  rcases hk' with h0|h0|h0|h0|h0|h0|h0|h0|h0|h0
  ·cases hf:l.flag<;>by_cases hn0:l.n=0<;>by_cases hp:l.parts=[]<;>cases ar<;>(try rw[hp]at h75)<;>simp[h0,hf,hn0,hp,h75]
  ·cases hf:l.flag<;>by_cases hn0:l.n=0<;>by_cases hp:l.parts=[]<;>cases ar<;>(try rw[hp]at h75)<;>simp[h0,hf,hn0,hp,h75]
  ·cases hf:l.flag<;>by_cases hn0:1<=l.n<;>by_cases hp:l.parts=[]<;>cases ar<;>(try rw[hp]at h75)<;>simp[h0,hf,hn0,hp,h75]
  ·cases hf:l.flag<;>by_cases hn0:l.n=0<;>by_cases hp:l.parts=[]<;>cases ar<;>(try rw[hp]at h75)<;>simp[h0,hf,hn0,hp,h75]
  ·cases hf:l.flag<;>by_cases hn0:l.n=0<;>by_cases hp:(l.parts.length:Int)=1<;>cases ar<;>simp[h0,hf,hn0,hp,h75]
  ·cases hf:l.flag<;>by_cases hn0:0<=l.n<;>by_cases hp:(l.parts.length:Int)=1<;>cases ar<;>simp[h0,hf,hn0,hp,h75]
  ·cases hf:l.flag<;>by_cases hn0:l.n=0<;>cases ar<;>simp[h0,hf,hn0,h75]
  ·cases hf:l.flag<;>by_cases hn0:1<=l.n<;>by_cases hp:l.parts=[]<;>cases ar<;>(try rw[hp]at h75)<;>simp[h0,hf,hn0,hp,h75]
  ·cases hf:l.flag<;>by_cases hn0:l.n=0<;>by_cases hp:(l.parts.length:Int)<1<;>cases ar<;>simp[h0,hf,hn0,hp,h75]<;>omega
  ·cases hf:l.flag<;>by_cases hn0:l.n=0<;>cases ab<;>cases ar<;>simp[h0,hf,hn0,h75,h74]
 rw[l.right_eq]
 by_cases hk:0<=l.kind/\l.kind<=9
 ·rw[key hk,MX l hk]
 ·have hf:l.isS=false:=by unfold aa.isS;simp[hk]
  have h0:¬l.kind=0:=by omega
  have h1:¬l.kind=1:=by omega
  have h2:¬l.kind=2:=by omega
  have h3:¬l.kind=3:=by omega
  have h4:¬l.kind=4:=by omega
  have h5:¬l.kind=5:=by omega
  have h6:¬l.kind=6:=by omega
  have h7:¬l.kind=7:=by omega
  have h8:¬l.kind=8:=by omega
  have h9:¬l.kind=9:=by omega
  rw[fY,hf]
  simp[h0,h1,h2,h3,h4,h5,h6,h7,h8,h9]
theorem y20(l:aa)(hl:l.Fits)(hs:l.all.length<=900000)(hd:l.depth<=900000):EK (l,())=some (jv l,()):=by
 have h:=y45 l 1 0 0 false hl (by omega) (by omega) (by omega) (by omega)
 unfold EK
 simp only[h,TR,TU,T2,XC,XD,TT,T0,TW,TX,XH,XE,T3]
 have hlarge:=Bb l
 have:(J7 (l.look 1 0 0 false)).large=l.large:=hlarge
 rw[this]
 unfold jv
 cases hg:l.large with
 |true=>simp
 |false=>
  simp only[TR,TU,T2,XC,XD,TT,T0,TW,TX,XH,XE,T3,y48 l hl (tX hg),y49 l hl,Ux]
  by_cases hcl:l.cells>4096
  ·have e1:min far l.cells>4096:=by simp[far];omega
   simp[hcl,e1]
  ·have e1:¬(min far l.cells>4096):=by simp[far];omega
   cases hr:l.right<;>simp[hcl,e1]
theorem Rj(l:aa)(hl:l.Fits)(qs:List aa)(hq:∀q∈qs,q∈l.all)(hn:qs.length<=9223372036854775807)(k:Nat):lh (qs,k,())=some (if(qs.drop k).any aa.big=true then .inl (3,())else .inr (qs,())):=by
 rw[lh]
 by_cases hlt:k<qs.length
 ·obtain⟨p,hp,hm,hd,g1,g2⟩:=dW hlt
  have hpf:=hl.mem (hq p hm)
  have hbe:=JP p (hl p (hq p hm))
  rw[hd,Wb,<-hbe]
  simp only[TR,TU,T2,XC,XD,TT,T0,TW,TX,XH,XE,T3,g1,g2,hlt,hp,y51,y52 p hpf.len]
  by_cases h1:(p.parts.length:Int)>12
  ·have hb:CM p=true:=by unfold CM;simp[h1]
   simp only[h1,TR,TU,T2,XC,XD,TT,T0,TW,TX,XH,XE,T3,hb,UD]
  by_cases h2:p.n>uN p.kind
  ·have hb:CM p=true:=by unfold CM;simp[h2]
   simp only[h1,h2,TR,TU,T2,XC,XD,TT,T0,TW,TX,XH,XE,T3,hb,UD]
  by_cases h3:p.kind=9
  ·by_cases h4:jq p.parts>64
   ·have hb:CM p=true:=by unfold CM;simp[h3,h4]
    simp only[h1,h2,h3,h4,TR,TU,T2,XC,XD,TT,T0,TW,TX,XH,XE,T3,hb,UD,XI]
    simp only[h3]at h2
    simp[h2]
   ·have hb:CM p=false:=by unfold CM;simp[h1,h2,h4]
    have ih:=Rj l hl qs hq hn (k+1)
    simp only[h1,h2,h4,TR,TU,T2,XC,XD,TT,T0,TW,TX,XH,XE,T3,hb,Ux,XJ,bm hlt hn]
    rw[XG h3]
    simp only[TR,TU,T2,XC,XD,TT,T0,TW,TX,XH,XE,T3,bm hlt hn]
    exact ih
  ·have hb:CM p=false:=by unfold CM;simp[h1,h2,h3]
   simp only[h1,h2,h3,TR,TU,T2,XC,XD,TT,T0,TW,TX,XH,XE,T3,hb,Ux,XJ,bm hlt hn]
   exact Rj l hl qs hq hn (k+1)
 ·obtain⟨hd,g1⟩:=iB hlt
  simp only[TR,TU,T2,XC,XD,TT,T0,TW,TX,XH,XE,T3,hlt,hd,W7]
termination_by qs.length-k
theorem R2(l:aa)(hl:l.Fits)(qs:List aa)(hq:∀q∈qs,q∈l.all)(hn:qs.length<=9223372036854775807)(k:Nat):ib (qs,k,())=some (if(qs.drop k).all aa.isS=true then .inr ()else .inl (1,())):=by
 rw[ib]
 by_cases hlt:k<qs.length
 ·obtain⟨p,hp,hm,hd,g1,g2⟩:=dW hlt
  have hpf:=hl.mem (hq p hm)
  rw[hd,Vi]
  simp only[TR,TU,T2,XC,XD,TT,T0,TW,TX,XH,XE,T3,g1,g2,hlt,hp,y53 p hpf.len]
  cases hi:p.isS
  ·simp
  ·simp only[TR,TU,T2,XC,XD,TT,T0,TW,TX,XH,XE,T3,T1,U9,bm hlt hn]
   exact R2 l hl qs hq hn (k+1)
 ·obtain⟨hd,g1⟩:=iB hlt
  simp only[TR,TU,T2,XC,XD,TT,T0,TW,TX,XH,XE,T3,hlt,hd,List.all_nil]
termination_by qs.length-k
theorem y21(l:aa)(hl:l.Fits)(hs:l.all.length<=900000)(hd:l.depth<=900000):Bd (l,())=some (jv l,()):=by
 unfold Bd
 have a:=Rj l hl l.all (λq h=>h) (by omega) 0
 have b:=R2 l hl l.all (λq h=>h) (by omega) 0
 simp only[Vd,U2,UJ]at a b
 simp only[TR,TU,T2,XC,XD,TT,T0,TW,TX,XH,XE,T3,y46 l hl (by omega),y47 l hl (by omega),y50 l hl]
 by_cases h1:(l.all.length:Int)>60
 ·have:jv l=3:=by unfold jv aa.large;simp;omega
  simp[h1,this]
 by_cases h2:(l.depth:Int)>5
 ·have:jv l=3:=by unfold jv aa.large;simp;omega
  simp[h1,h2,this]
 by_cases h3:l.cells>4096
 ·have:jv l=3:=by unfold jv;simp[h3]
  have e1:min 100000 l.cells>4096:=by omega
  simp[h1,h2,e1,this]
 have e1:¬min 100000 l.cells>4096:=by omega
 have hval:jv l=if l.all.any aa.big=true then 3 else if l.right=true then 0 else 1:=by
  unfold jv aa.large
  rw[decide_eq_false (by omega),decide_eq_false (by omega),decide_eq_false (by omega)];simp
 simp only[h1,h2,e1,TR,TU,T2,XC,XD,TT,T0,TW,TX,XH,XE,T3,a,hval,XJ]
 cases hb:l.all.any aa.big
 ·simp only[TR,TU,T2,XC,XD,TT,T0,TW,TX,XH,XE,T3,b]
  have hr:l.right=l.all.all aa.isS:=rfl
  rw[hr]
  cases hi:l.all.all aa.isS<;>simp
 ·simp
end Go.Proofs.YtpelkenpapfadaaGreatDoor
end
