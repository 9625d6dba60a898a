/-
  Texts of this claim, joined by a program of mine: what the theorem uses.
-/
import Derived.Test.YtpelkenpapfadaaGreatDoorPkH
import Derived.Test.YtpelkenpapfadaaGreatDoorPkE
open Bool renaming and_eq_true→Uk,and_false→Wt,and_true→Wl,false_and→Vx,false_eq_true→TZ,false_ne_true→Up,false_or→UD,not_eq_true'→VP,not_false→T5,not_true→T7,or_assoc→Xt,or_eq_false_iff→UY,or_eq_true→UI,or_false→Vc,or_true→Ve,true_and→Vg,true_eq_false→T6,true_or→UJ
open ByteArray renaming mk→T3
open Int renaming le_refl→WY,mul_nonneg→Xn,natCast_nonneg→T2,natCast_zero→Vr,ofNat_eq_natCast→Vf,ofNat_lt→T9,toNat→U6,toNat_natCast→T1,toNat_zero→Vs,zero_add→XD
open List renaming all_cons→Vq,all_eq_true→Uo,any_cons→Wk,any_eq_false→W5,any_eq_true→Vu,any_nil→Xe,append_assoc→UQ,append_nil→U0,cons_append→Ut,drop_append→Xd,drop_drop→VY,drop_eq_getElem_cons→VC,drop_eq_nil_of_le→Vz,drop_zero→UT,findIdx?_eq_some_iff_findIdx_eq→V6,foldl_cons→Vd,foldl_nil→WF,getD_eq_getElem?_getD→Uu,getElem?_append_left→UA,getElem?_append_right→Uz,getElem?_drop→U2,getElem?_eq_getElem→Ub,getElem?_map→Ue,getElem?_replicate→Wi,getElem_mem→Vt,length→Wd,length_append→Uh,length_cons→Ui,length_drop→UV,length_eq_zero_iff→U8,length_map→Ug,length_nil→Uw,length_singleton→T_,length_take→UU,map→VI,map_append→UZ,map_cons→Uj,map_map→UH,map_nil→UM,map_set→Wh,map_singleton→WD,mem_append→Ur,mem_cons→Um,mem_cons_of_mem→Ua,mem_cons_self→Uf,mem_map→Uy,mem_of_getElem?→Un,mem_or_eq_of_mem_set→VB,mem_singleton→UX,nil_append→UN,not_all_eq_any_not→Xf,replicate→U5,set_append_right→Wq,singleton_append→WL,suffix_cons→WJ,suffix_refl→Ux,tail_cons→WW,tail_suffix→VW,take→W0,takeWhile_cons→Vv,takeWhile_nil→V5,take_add_one→VK,take_of_length_le→UP
open Nat renaming add_assoc→Vh,add_sub_cancel→WZ,add_zero→UF,eq_zero_or_pos→WC,le_refl→Us,le_trans→U4,lt_irrefl→V0,lt_or_ge→XB,lt_succ_self→Wf,pow_le_pow_right→Xp,sub_self→XA,zero_add→UK,zero_le→Vp
open Ne renaming symm→UG
open Option renaming bind_eq_bind→TY,bind_none→T8,bind_some→T0,getD_some→VF,map_some→UB
open Sum renaming inl→UR,inr→UW
open UInt8 renaming toNat_inj→Xh
noncomputable section
set_option linter.unusedSimpArgs false
set_option linter.unusedVariables false
section
namespace Go.Proofs.YtpelkenpapfadaaGreatDoor
open Go.Tx
set_option maxRecDepth 20000
open Go.Lib
def rf(l:List UInt8):List ByteArray:=(j_ 0 l).map λp=>mkB p.2
theorem Ae(l:List UInt8):(rf l).length<=l.length:=by unfold rf;rw[Ug];exact gj _ _ 0 (Us _)
def aZ(st:List (List ByteArray)×Int×Int)(l:List UInt8):List (List ByteArray)×Int×Int:=
 if hsh l then(st.1++[rf l],st.2)else(rf l).foldl (cZ id) st
def aN(s:List UInt8):List (List ByteArray):=((lines s).foldl aZ ([],-1,0)).1
def C2(ls:List (List UInt8)):Nat:=(ls.map λl=>l.length+1).sum
theorem fW(l:List UInt8)(r:List (List UInt8)):C2 (l::r)=l.length+1+C2 r:=by simp[C2]
theorem jW(s:List UInt8):C2 (lines s)=s.length+1:=by
 refine lO (M:=λs=>C2 (lines s)=s.length+1) (λl h=> ?_) (λa b h ih=> ?_) s.length s (Us _)
 ·rw[jK h,fW];rfl
 ·rw[gG h,fW,ih,Uh,Ui];omega
theorem Inv.hash{B:Nat}{α:Type}{out:List (List α)}{op dp:Int}(h:Inv B out op dp)(x:List α)(n:Nat)(hx:x.length<=n)(hn:1<=n):Inv (B+n) (out++[x]) op dp:=by
 refine⟨?_,h.d0,by have:=h.d1;omega,by rw[Uh,T_];have:=h.len;omega,λy hy=> ?_⟩
 ·rcases h.op with e|⟨k,e,hk⟩
  ·exact .inl e
  ·exact .inr ⟨k,e,by rw[Uh];omega⟩
 ·rcases Ur.1 hy with hy|hy
  ·have:=h.row y hy;omega
  ·rw[UX.1 hy];omega
theorem Inv.line{B:Nat}{st:List (List ByteArray)×Int×Int}(h:Inv B st.1 st.2.1 st.2.2)(l:List UInt8):Inv (B+(l.length+1)) (aZ st l).1 (aZ st l).2.1 (aZ st l).2.2:=by
 unfold aZ
 have hl:=Ae l
 split
 ·exact h.hash _ _ (by omega) (by omega)
 ·exact(h.steps (f:=id) (rf l)).mono (by omega)
theorem PL(ls:List (List UInt8)):∀(m j:Nat) (st:List (List ByteArray)×Int×Int) (B:Nat),ls.length-j=m->Inv B st.1 st.2.1 st.2.2->B+C2 (ls.drop j)<=900000000->ls.length<=1000000000->
 l_ (st.2.1,st.2.2,ls.map mkB,(ls.length:Int),(j:Int),st.1,())=some (((ls.drop j).foldl aZ st).1,()):=by
 intro m
 induction m with
 |zero=>
  intro j st B hm hi hB hl
  have hlt:¬j<ls.length:=by omega
  rw[l_]
  simp only[TY,T0,T8,XG,XH,TZ,T6,T1,T2,XL,XI,T9,hlt,XN,eX hlt,WF]
 |succ m ih=>
  intro j st B hm hi hB hl
  have hlt:j<ls.length:=by omega
  obtain⟨l,hp,hpm,hd,g1,g2⟩:=eg hlt
  have hp':(ls.map mkB)[j]?=some (mkB l):=by rw[Ue,hp];rfl
  rw[hd,fW]at hB
  have hn:=ih (j+1) (aZ st l) _ (by omega) (hi.line l) (by omega) hl
  have hx1:(T3 #[35])=sL:=rfl
  have ht:CP (mkB l)=rf l:=by unfold CP rf;rw[bM]
  have h52:=f52 (mkB l) (by rw[c8];omega)
  rw[ht]at h52
  rw[hd,Vd,l_]
  have hlen:=hi.len
  have hln:st.1.length+1<=4294967296:=by omega
  cases hh:hsh l with
  |true=>
   rw[show aZ st l=(st.1++[rf l],st.2) by rw[aZ,XK hh]]at hn⊢
   simp only[TY,T0,T8,XG,XH,TZ,T6,T1,T2,XL,XI,T9,hlt,XM,g1,g2,hp',hx1,f66,bM,hh,h52,T_,hln,aR (a:=j) (by omega)]
   exact hn
  |false=>
   have hls:aZ st l=(rf l).foldl (cZ id) st:=by rw[aZ,XJ (by rw[hh];exact Up)]
   rw[hls]at hn⊢
   have htl:=Ae l
   have h9:=PM (ls.map mkB) ls.length j (rf l) _ 0 st.1 st.2.1 st.2.2 B rfl hi (by omega) (by omega)
   rw[UT]at h9
   have h9:ma (st.2.1,st.2.2,ls.map mkB,(ls.length:Int),(j:Int),((rf l).length:Int),0,st.1,rf l,())=_:=h9
   simp only[TY,T0,T8,XG,XH,TZ,T6,T1,T2,XL,XI,T9,hlt,XM,g1,g2,hp',hx1,f66,bM,hh,h52,h9,aR (a:=j) (by omega)]
   exact hn
theorem Inv.zero{α:Type}:Inv 0 ([]:List (List α)) (-1) 0:=⟨.inl rfl,by omega,by omega,by simp,by simp⟩
theorem u4:∀(ls:List (List UInt8)) (B:Nat) (st:List (List ByteArray)×Int×Int),Inv B st.1 st.2.1 st.2.2->Inv (B+C2 ls) (ls.foldl aZ st).1 (ls.foldl aZ st).2.1 (ls.foldl aZ st).2.2
 |[],B,st,h=>h
 |l::r,B,st,h=>by
  rw[Vd,fW,<-Vh]
  exact u4 r _ _ (h.line l)
theorem f34(s:ByteArray)(hs:s.size<=800000000):LY (s,())=some (aN s.data.toList,()):=by
 have hw:=jW s.data.toList
 rw[br]at hw
 have hl:=u5 s.data.toList
 have hc:=zr s.data.toList 10
 rw[br]at hc
 have h:=PL (lines s.data.toList) _ 0 ([],-1,0) 0 rfl Inv.zero (by rw[UT];omega) (by omega)
 have h:l_ (-1,0,(lines s.data.toList).map mkB,((lines s.data.toList).length:Int),0,[],())=some (aN s.data.toList,()):=h
 rw[LY]
 have hx:(T3 #[10])=nlB:=rfl
 simp only[hx,f65 s (by omega),TY,T0,T8,XG,XH,TZ,T6,T1,T2,XL,XI,T9,Ug,h]
def fz(out:List (List ByteArray)):Prop:=∀x∈out,∀t∈x,qG t
theorem fz.step{out:List (List ByteArray)}{op dp:Int}{t:ByteArray}(h:fz out)(ht:qG t):fz (cZ id (out,op,dp) t).1:=by
 have ho:fz (opn out op).1:=by
  unfold opn;split
  ·intro x hx
   rcases Ur.1 hx with hx|hx
   ·exact h x hx
   ·rw[UX.1 hx];simp
  ·exact h
 intro x hx
 rcases VB hx with hx|rfl
 ·exact ho x hx
 ·intro y hy
  rcases Ur.1 hy with hy|hy
  ·rw[Uu]at hy
   cases hg:(opn out op).1[(opn out op).2.toNat]? with
   |none=>rw[hg]at hy;cases hy
   |some z=>rw[hg]at hy;exact ho z (Un hg) y hy
  ·rw[UX.1 hy];exact ht
theorem fz.steps:∀(ts:List ByteArray) (st:List (List ByteArray)×Int×Int),fz st.1->(∀t∈ts,qG t)->fz (ts.foldl (cZ id) st).1
 |[],st,h,_=>h
 |t::r,st,h,ht=>fz.steps r _ (h.step (ht t Uf)) λx hx=>ht x (Ua _ hx)
theorem Gk(l:List UInt8):∀t∈rf l,qG t:=by
 intro t ht
 obtain⟨p,hp,rfl⟩:=Uy.1 ht
 exact zc _ _ 0 (Us _) p hp
theorem fz.lines:∀(ls:List (List UInt8)) (st:List (List ByteArray)×Int×Int),fz st.1->fz (ls.foldl aZ st).1
 |[],st,h=>h
 |l::r,st,h=>by
  rw[Vd]
  refine fz.lines r _ ?_
  unfold aZ
  split
  ·intro x hx
   rcases Ur.1 hx with hx|hx
   ·exact h x hx
   ·rw[UX.1 hx];exact Gk l
  ·exact fz.steps _ _ h (Gk l)
theorem Fv(s:List UInt8):fz (aN s):=fz.lines _ _ (by intro x hx;cases hx)
theorem BP(s:List UInt8):(aN s).length<=s.length+1/\∀x∈aN s,x.length<=s.length+1:=by
 have h:=u4 (lines s) 0 ([],-1,0) Inv.zero
 rw[UK,jW]at h
 exact⟨h.len,h.row⟩
def T(o:Nat)(l:List UInt8):List aD:=(j_ o l).map λp=>⟨(p.1:Int),mkB p.2⟩
theorem PQ(s:ByteArray)(hs:s.size<=1000000000)(f:Int)(out:List aD):∀(m a:Nat),s.size-a=m->a<=s.size->
 nI (s,(a:Int),f,out,())=some (s,((a+((s.data.toList.drop a).takeWhile mA).length:Nat):Int),f,out,()):=by
 intro m
 induction m with
 |zero=>
  intro a hm hl
  have hlt:¬a<s.size:=by omega
  rw[nI]
  simp only[TY,T0,T8,XG,XH,TZ,T6,T1,T2,XL,XI,T9,hlt,XN,en hlt,V5,Uw,UF]
 |succ m ih=>
  intro a hm hl
  have hlt:a<s.size:=by omega
  have h:=ih (a+1) (by omega) (by omega)
  rw[nI,dZ hlt,Vv]
  cases h1:xW ((s.data.toList.getD a 0).toNat:Int)with
  |true=>
   have e:mA (s.data.toList.getD a 0)=true:=by unfold mA isL;rw[h1];rfl
   simp only[TY,T0,T8,XG,XH,TZ,T6,T1,T2,XL,XI,T9,hlt,XM,ba hlt,f88,h1,aR (a:=a) (by omega),h,e,Ui]
   congr 4;omega
  |false=>
   cases h2:rW ((s.data.toList.getD a 0).toNat:Int)with
   |true=>
    have e:mA (s.data.toList.getD a 0)=true:=by unfold mA isL isD;rw[h1,h2];rfl
    simp only[TY,T0,T8,XG,XH,TZ,T6,T1,T2,XL,XI,T9,hlt,XM,ba hlt,f88,f89,h1,h2,aR (a:=a) (by omega),h,e,Ui]
    congr 4;omega
   |false=>
    have e:mA (s.data.toList.getD a 0)=false:=by unfold mA isL isD;rw[h1,h2];rfl
    simp only[TY,T0,T8,XG,XH,TZ,T6,T1,T2,XL,XI,T9,hlt,XM,ba hlt,f88,f89,h1,h2,e,Uw,UF]
theorem M4(s:ByteArray)(hs:s.size<=1000000000)(f:Int)(out:List aD):∀(m a:Nat),s.size-a=m->a<=s.size->
 jj (s,(a:Int),f,out,())=some (s,((a+((s.data.toList.drop a).takeWhile isD).length:Nat):Int),f,out,()):=by
 intro m
 induction m with
 |zero=>
  intro a hm hl
  have hlt:¬a<s.size:=by omega
  rw[jj]
  simp only[TY,T0,T8,XG,XH,TZ,T6,T1,T2,XL,XI,T9,hlt,XN,en hlt,V5,Uw,UF]
 |succ m ih=>
  intro a hm hl
  have hlt:a<s.size:=by omega
  have h:=ih (a+1) (by omega) (by omega)
  rw[jj,dZ hlt,Vv]
  cases h2:rW ((s.data.toList.getD a 0).toNat:Int)with
  |true=>
   have e:isD (s.data.toList.getD a 0)=true:=h2
   simp only[TY,T0,T8,XG,XH,TZ,T6,T1,T2,XL,XI,T9,hlt,XM,ba hlt,f89,h2,aR (a:=a) (by omega),h,e,Ui]
   congr 4;omega
  |false=>
   have e:isD (s.data.toList.getD a 0)=false:=h2
   simp only[TY,T0,T8,XG,XH,TZ,T6,T1,T2,XL,XI,T9,hlt,XM,ba hlt,f89,h2,e,Uw,UF]
theorem PP(s:ByteArray)(hs:s.size<=1000000000):∀(m a:Nat) (out:List aD),s.size-a<=m->a<=s.size->out.length<=a->
 jk (s,(a:Int),out,())=some (out++T a (s.data.toList.drop a),()):=by
 intro m
 induction m with
 |zero=>
  intro a out hm hl ho
  have hlt:¬a<s.size:=by omega
  rw[jk]
  simp only[TY,T0,T8,XG,XH,TZ,T6,T1,T2,XL,XI,T9,hlt,XN,en hlt,T,da,UM,U0]
 |succ m ih=>
  intro a out hm hl ho
  by_cases hlt:a<s.size
  ·have hg:=dZ hlt
   rw[jk]
   cases hw:isW (s.data.toList.getD a 0)with
   |true=>
    have h:=ih (a+1) out (by omega) (by omega) (by omega)
    rw[hg,T,gY hw]
    rw[T]at h
    rw[<-h]
    have hw':((((s.data.toList.getD a 0).toNat:Int)==32)=true)\/((((s.data.toList.getD a 0).toNat:Int)==32)=false)/\((((s.data.toList.getD a 0).toNat:Int)==9)=true)\/
     ((((s.data.toList.getD a 0).toNat:Int)==32)=false)/\((((s.data.toList.getD a 0).toNat:Int)==9)=false)/\((((s.data.toList.getD a 0).toNat:Int)==10)=true):=by
     unfold isW at hw
     revert hw
     cases (((s.data.toList.getD a 0).toNat:Int)==32)<;>cases (((s.data.toList.getD a 0).toNat:Int)==9)<;>simp
    rcases hw' with e1|⟨e1,e2⟩|⟨e1,e2,e3⟩<;>
     simp only[hlt,XM,XG,T2,T1,T9,ba hlt, *,TZ,XH,TY,T0,aR (a:=a) (by omega)]
   |false=>
    have hw':((((s.data.toList.getD a 0).toNat:Int)==32)=false)/\((((s.data.toList.getD a 0).toNat:Int)==9)=false)/\((((s.data.toList.getD a 0).toNat:Int)==10)=false):=by
     unfold isW at hw
     revert hw
     cases (((s.data.toList.getD a 0).toNat:Int)==32)<;>cases (((s.data.toList.getD a 0).toNat:Int)==9)<;>simp
    obtain⟨e1,e2,e3⟩:=hw'
    have htl:=nb (s.data.toList.drop a)
    rw[UV,br]at htl
    have htp:=ef (s.data.toList.getD a 0) (s.data.toList.drop (a+1))
    rw[<-hg]at htp
    have h:=ih (a+dH (s.data.toList.drop a)) (out++[⟨(a:Int),s.extract a (a+dH (s.data.toList.drop a))⟩]) (by omega) (by omega) (by rw[Uh,T_];omega)
    have hx:out++T a (s.data.toList.drop a)=(out++[⟨(a:Int),s.extract a (a+dH (s.data.toList.drop a))⟩])++T (a+dH (s.data.toList.drop a)) (s.data.toList.drop (a+dH (s.data.toList.drop a))):=by
     rw[fG,UQ,WL]
     unfold T
     conv=>lhs;rw[hg,gX hw,<-hg,Uj,VY]
    rw[hx,<-h]
    have hout:(out.length+1<=4294967296):=by omega
    have hbd:(a:Int)<=((a+dH (s.data.toList.drop a):Nat):Int)/\((a+dH (s.data.toList.drop a):Nat):Int)<=(s.size:Int):=by omega
    cases h1:xW ((s.data.toList.getD a 0).toNat:Int)with
    |true=>
     have ht:dH (s.data.toList.drop a)=1+((s.data.toList.drop (a+1)).takeWhile mA).length:=by
      rw[hg,bS,XK (show isL _=true from h1)]
     have h9:=PQ s hs a out _ (a+1) rfl (by omega)
     rw[Vh,<-ht]at h9
     simp only[hlt,XM,XG,T2,T1,T9,ba hlt,e1,e2,e3,TZ,XH,TY,T0,f88,h1,aR (a:=a) (by omega),h9,hbd,true_and,and_self,T_,hout]
    |false=>
     cases h2:rW ((s.data.toList.getD a 0).toNat:Int)with
     |true=>
      have ht:dH (s.data.toList.drop a)=1+((s.data.toList.drop (a+1)).takeWhile isD).length:=by
       rw[hg,bS,XJ (by rw[show isL _=false from h1];exact Up),XK (show isD _=true from h2)]
      have h9:=M4 s hs a out _ (a+1) rfl (by omega)
      rw[Vh,<-ht]at h9
      simp only[hlt,XM,XG,T2,T1,T9,ba hlt,e1,e2,e3,TZ,XH,TY,T0,f88,f89,h1,h2,aR (a:=a) (by omega),h9,hbd,true_and,and_self,T_,hout]
     |false=>
      have ht:dH (s.data.toList.drop a)=1:=by
       rw[hg,bS,XJ (by rw[show isL _=false from h1];exact Up),XJ (by rw[show isD _=false from h2];exact Up)]
      rw[ht]at hbd⊢
      have hw1:IntKind.i64.wrap ((a:Int)+1)=((a+1:Nat):Int):=aR (by omega)
      simp only[hlt,XM,XG,T2,T1,T9,ba hlt,e1,e2,e3,TZ,XH,TY,T0,f88,f89,h1,h2,hw1,hbd,true_and,and_self,T_,hout]
  ·rw[jk]
   simp only[TY,T0,T8,XG,XH,TZ,T6,T1,T2,XL,XI,T9,hlt,XN,en hlt,T,da,UM,U0]
theorem f53(s:ByteArray)(hs:s.size<=1000000000):Nx (s,())=some (T 0 s.data.toList,()):=by
 have h:=PP s hs s.size 0 [] (by omega) (by omega) (by simp)
 have h:jk (s,0,[],())=some (T 0 s.data.toList,()):=h
 rw[Nx]
 simp only[h,TY,T0,T8,XG,XH,TZ,T6,T1,T2,XL,XI,T9]
end Go.Proofs.YtpelkenpapfadaaGreatDoor
end
section
namespace Go.Proofs.YtpelkenpapfadaaGreatDoor
open Go.Tx
open IntKind (i64)
set_option maxRecDepth 20000
open Go.Lib
theorem NH(s:ByteArray)(ins:List Bool)(all:List aD)(ln:Int)(i:Nat)(p:Nat)(w:ByteArray)(out:List (List aD))(op dp:Int)(B:Nat)
 (hi:all[i]?=some ⟨(p:Int),w⟩)(hn:i<all.length)(hal:all.length<=1000000000)(hp:ins[p]?=some false)(hv:Inv B out op dp)(hB:B<=1000000000):
 c_ (s,ins,all,op,ln,dp,(i:Int),out,())=
  c_ (s,ins,all,(cZ aD.text (out,op,dp) ⟨(p:Int),w⟩).2.1,ln,(cZ aD.text (out,op,dp) ⟨(p:Int),w⟩).2.2,((i+1:Nat):Int),(cZ aD.text (out,op,dp) ⟨(p:Int),w⟩).1,()):=by
 obtain⟨k,out1,e,hk,hl,hr,hc⟩:=hv.opn
 have h0:=hv.d0
 have h1:=hv.d1
 have hol:=hv.len
 have hrow:out1[k]?=some (out1.getD k []):=by rw[Uu,Ub hk];rfl
 have hrl:(out1.getD k []).length<=B:=hr _ (by rw[Uu,Ub hk];exact Vt hk)
 have b1:(out1.getD k []).length+1<=4294967296:=by omega
 have b2:out.length+1<=4294967296:=by omega
 have b3:(0:Int)<=(k:Int)/\(k:Int)<(out1.length:Int):=by omega
 have hsl:((out1.map some).set k none).length=out1.length:=by simp
 have wd:i64.wrap (dp+1)=dp+1:=cV (by omega) (by omega)
 have wd2:i64.wrap (dp-1)=dp-1:=cV (by omega) (by omega)
 have x1:(T3 #[123])=oB:=rfl
 have x2:(T3 #[125])=cB:=rfl
 have x3:(T3 #[59])=sB:=rfl
 have hs:cZ aD.text (out,op,dp) ⟨(p:Int),w⟩=(out1.set k (out1.getD k []++[⟨(p:Int),w⟩]),nxt w (k:Int) dp):=by
  unfold cZ;simp only[e,T1];rfl
 have hop:((op<0)=True/\out++[[]]=out1/\i64.wrap ((out1.length:Int) -1)=(k:Int))\/(((k:Int)<0)=False/\op=(k:Int)/\out=out1):=by
  rcases hc with⟨a,b,c⟩|⟨a,b⟩
  ·refine .inl ⟨by rw[a];simp,b,?_⟩
   rw[<-b,Uh,T_]
   exact(cV (by omega) (by omega)).trans (by omega)
  ·exact .inr ⟨by simp,a,b⟩
 rw[hs]
 conv=>lhs;rw[c_]
 by_cases c1:w=oB
 ·have hx:nxt w (k:Int) dp=((k:Int),dp+1):=by rw[nxt,XK c1]
  rw[hx]
  rcases hop with⟨a,b,c⟩|⟨a,b,c⟩<;>simp only[a,b,c,TY,T0,T8,XG,XH,TZ,T6,T1,T2,XL,XI,T9,hn,hi,hp,XM,XN,and_self,b2,b3,hrow,T_,b1,hsl,ee _ _ hk,c7,x1,aI,c1,wd,aR (a:=i) (by omega)]
 ·by_cases c2:w=cB
  ·have hx:nxt w (k:Int) dp=((k:Int),max (dp-1) 0):=by rw[nxt,XJ c1,XK c2]
   rw[hx]
   rcases hop with⟨a,b,c⟩|⟨a,b,c⟩<;>simp only[a,b,c,TY,T0,T8,XG,XH,TZ,T6,T1,T2,XL,XI,T9,hn,hi,hp,XM,XN,and_self,b2,b3,hrow,T_,b1,hsl,ee _ _ hk,c7,x1,x2,aI,c2,oc,wd2,aR (a:=i) (by omega)]
  ·by_cases c3:w=sB
   ·by_cases hd0:dp=0
    ·have hx:nxt w (k:Int) dp=(-1,dp):=by rw[nxt,XJ c1,XJ c2,XK c3,XK hd0]
     rw[hx]
     rcases hop with⟨a,b,c⟩|⟨a,b,c⟩<;>simp only[a,b,c,TY,T0,T8,XG,XH,TZ,T6,T1,T2,XL,XI,T9,hn,hi,hp,XM,XN,and_self,b2,b3,hrow,T_,b1,hsl,ee _ _ hk,c7,x1,x2,x3,aI,c3,so,sc,hd0,beq_self_eq_true,aR (a:=i) (by omega)]
    ·have hx:nxt w (k:Int) dp=((k:Int),dp):=by rw[nxt,XJ c1,XJ c2,XK c3,XJ hd0]
     rw[hx]
     have hd1:(dp==0)=false:=beq_eq_false_iff_ne.2 hd0
     rcases hop with⟨a,b,c⟩|⟨a,b,c⟩<;>simp only[a,b,c,TY,T0,XG,XH,TZ,T1,T2,T9,hn,hi,hp,XM,XN,and_self,b2,b3,hrow,T_,b1,hsl,ee _ _ hk,c7,x1,x2,x3,aI,c3,so,sc,hd1,aR (a:=i) (by omega)]
   ·have hx:nxt w (k:Int) dp=((k:Int),dp):=by rw[nxt,XJ c1,XJ c2,XJ c3]
    rw[hx]
    rcases hop with⟨a,b,c⟩|⟨a,b,c⟩<;>simp only[a,b,c,TY,T0,T8,XG,XH,TZ,T6,T1,T2,XL,XI,T9,hn,hi,hp,XM,XN,and_self,b2,b3,hrow,T_,b1,hsl,ee _ _ hk,c7,x1,x2,x3,aI,c1,c2,c3,aR (a:=i) (by omega)]
theorem Nz(c:UInt8):((c.toNat:Int)==10)=(c==10):=by
 have h10:(c.toNat=10)↔c=10:=⟨λh=>Xh.1 h,λh=>by rw[h];rfl⟩
 by_cases h:c=10
 ·rw[h];rfl
 ·rw[beq_eq_false_iff_ne.2 h,beq_eq_false_iff_ne];intro e;exact h (h10.1 (by omega))
theorem NF(s:ByteArray)(ins:List Bool)(all:List aD)(ln op dp:Int)(i:Nat)(p:Nat)(w:ByteArray)(out:List (List aD))
 (hi:all[i]?=some ⟨(p:Int),w⟩)(hn:i<all.length)(hal:all.length<=1000000000)(hp:ins[p]?=some true)(hps:p<=s.size)(hsz:s.size<=1000000000)(hst:p=0\/s.data.toList.getD (p-1) 0=10)(hol:out.length<=1000000000):
 c_ (s,ins,all,op,ln,dp,(i:Int),out,())=c_ (s,ins,all,op,(out.length:Int),dp,((i+1:Nat):Int),out++[[⟨(p:Int),w⟩]],()):=by
 have b2:out.length+1<=4294967296:=by omega
 have h01:(0+1<=4294967296)=True:=by simp
 have e1:i64.wrap (((out++[([]:List aD)]).length:Int) -1)=(out.length:Int):=by
  rw[Uh,T_];exact(cV (by omega) (by omega)).trans (by omega)
 have hk:out.length<(out++[([]:List aD)]).length:=by simp
 have hrow:(out++[([]:List aD)])[out.length]?=some []:=by simp
 have b3:(0:Int)<=(out.length:Int)/\(out.length:Int)<((out++[([]:List aD)]).length:Int):=by omega
 have hsl:(((out++[([]:List aD)]).map some).set out.length none).length=(out++[([]:List aD)]).length:=by simp
 have hset:(out++[([]:List aD)]).set out.length [⟨(p:Int),w⟩]=out++[[⟨(p:Int),w⟩]]:=by
  rw[Wq _ _ (Us _),XA];rfl
 conv=>lhs;rw[c_]
 rcases WC p with h0|h0
 ·have z:((p:Int)==0)=true:=by rw[h0];rfl
  simp only[z,XG,XH,TZ,TY,T0,T1,T2,T9,hn,hi,hp,XM,e1,b2,b3,and_self,hrow,Uw,T_,h01,hsl,ee _ _ hk,c7,UN,hset,aR (a:=i) (by omega)]
 ·have z:((p:Int)==0)=false:=beq_eq_false_iff_ne.2 (by omega)
  have z1:i64.wrap ((p:Int) -1)=((p-1:Nat):Int):=(cV (by omega) (by omega)).trans (by omega)
  have z2:s.data.toList.getD (p-1) 0=10:=by rcases hst with h|h;omega;exact h
  have z3:((((10:UInt8).toNat:Nat):Int)==10)=true:=rfl
  simp only[z,z1,ba (s:=s) (i:=p-1) (by omega),z2,z3,XG,XH,TZ,TY,T0,T1,T2,T9,hn,hi,hp,XM,e1,b2,b3,and_self,hrow,Uw,T_,h01,hsl,ee _ _ hk,c7,UN,hset,aR (a:=i) (by omega)]
theorem NG(s:ByteArray)(ins:List Bool)(all:List aD)(op dp:Int)(i:Nat)(p:Nat)(w:ByteArray)(out:List (List aD))(row:List aD)
 (hi:all[i]?=some ⟨(p:Int),w⟩)(hn:i<all.length)(hal:all.length<=1000000000)(hp:ins[p]?=some true)(hps:p<=s.size)(hsz:s.size<=1000000000)(h0:0<p)(hst:¬s.data.toList.getD (p-1) 0=10)(hol:out.length<=1000000000)(hrl:row.length<=1000000000):
 c_ (s,ins,all,op,(out.length:Int),dp,(i:Int),out++[row],())=c_ (s,ins,all,op,(out.length:Int),dp,((i+1:Nat):Int),out++[row++[⟨(p:Int),w⟩]],()):=by
 have hk:out.length<(out++[row]).length:=by simp
 have hrow:(out++[row])[out.length]?=some row:=by simp
 have b1:row.length+1<=4294967296:=by omega
 have b3:(0:Int)<=(out.length:Int)/\(out.length:Int)<((out++[row]).length:Int):=by omega
 have hsl:(((out++[row]).map some).set out.length none).length=(out++[row]).length:=by simp
 have hset:(out++[row]).set out.length (row++[⟨(p:Int),w⟩])=out++[row++[⟨(p:Int),w⟩]]:=by
  rw[Wq _ _ (Us _),XA];rfl
 have z:((p:Int)==0)=false:=beq_eq_false_iff_ne.2 (by omega)
 have z1:i64.wrap ((p:Int) -1)=((p-1:Nat):Int):=(cV (by omega) (by omega)).trans (by omega)
 have z3:((((s.data.toList.getD (p-1) 0).toNat:Nat):Int)==10)=false:=by rw[Nz];exact beq_eq_false_iff_ne.2 hst
 conv=>lhs;rw[c_]
 simp only[z,z1,ba (s:=s) (i:=p-1) (by omega),z3,XG,XH,TZ,TY,T0,T1,T2,T9,hn,hi,hp,XM,b1,b3,and_self,hrow,T_,hsl,ee _ _ hk,c7,hset,aR (a:=i) (by omega)]
theorem wJ{α:Type}{xs:List α}{i:Nat}{x:α}{r:List α}(h:xs.drop i=x::r):xs[i]?=some x/\i<xs.length/\xs.drop (i+1)=r:=by
 have hlt:i<xs.length:=by
  rcases XB i xs.length with h'|h'
  ·exact h'
  ·rw[Vz h']at h;cases h
 rw[VC hlt]at h
 injection h with h1 h2
 exact⟨by rw[Ub hlt,h1],hlt,h2⟩
theorem FF(s:ByteArray)(ins:List Bool)(all:List aD)(ln:Int)(hal:all.length<=1000000000):∀(ts:List (Nat×List UInt8)) (rest:List aD) (i:Nat) (out:List (List aD)) (op dp:Int) (B:Nat),
 all.drop i=(ts.map λp=>(⟨(p.1:Int),mkB p.2⟩:aD))++rest->(∀p∈ts,ins[p.1]?=some false)->Inv B out op dp->B+ts.length<=1000000000->
 c_ (s,ins,all,op,ln,dp,(i:Int),out,())=
  c_ (s,ins,all,((ts.map λp=>(⟨(p.1:Int),mkB p.2⟩:aD)).foldl (cZ aD.text) (out,op,dp)).2.1,ln,((ts.map λp=>(⟨(p.1:Int),mkB p.2⟩:aD)).foldl (cZ aD.text) (out,op,dp)).2.2,((i+ts.length:Nat):Int),((ts.map λp=>(⟨(p.1:Int),mkB p.2⟩:aD)).foldl (cZ aD.text) (out,op,dp)).1,())
  /\all.drop (i+ts.length)=rest
 |[],rest,i,out,op,dp,B,hd,hp,hv,hB=>⟨rfl,hd⟩
 |(p,l)::r,rest,i,out,op,dp,B,hd,hp,hv,hB=>by
  rw[Uj,Ut]at hd
  obtain⟨h1,h2,h3⟩:=wJ hd
  rw[Ui]at hB
  have hs:=NH s ins all ln i p (mkB l) out op dp B h1 h2 hal (hp (p,l) Uf) hv (by omega)
  obtain⟨k1,k2⟩:=FF s ins all ln hal r rest (i+1) _ _ _ (B+1) h3 (λq hq=>hp q (Ua _ hq)) (hv.step (f:=aD.text) ⟨(p:Int),mkB l⟩) (by omega)
  rw[hs,Uj,Vd,Ui,show i+(r.length+1)=i+1+r.length by omega]
  exact⟨k1,k2⟩
theorem FE(s:ByteArray)(ins:List Bool)(all:List aD)(op dp:Int)(hal:all.length<=1000000000)(hsz:s.size<=1000000000)(out:List (List aD))(hol:out.length<=1000000000):∀(ts:List (Nat×List UInt8)) (rest:List aD) (i:Nat) (row:List aD),
 all.drop i=(ts.map λp=>(⟨(p.1:Int),mkB p.2⟩:aD))++rest->(∀p∈ts,ins[p.1]?=some true/\p.1<=s.size/\0<p.1/\¬s.data.toList.getD (p.1-1) 0=10)->row.length+ts.length<=1000000000->
 c_ (s,ins,all,op,(out.length:Int),dp,(i:Int),out++[row],())=
  c_ (s,ins,all,op,(out.length:Int),dp,((i+ts.length:Nat):Int),out++[row++(ts.map λp=>(⟨(p.1:Int),mkB p.2⟩:aD))],())
  /\all.drop (i+ts.length)=rest
 |[],rest,i,row,hd,hp,hB=>⟨by rw[UM,U0];rfl,hd⟩
 |(p,l)::r,rest,i,row,hd,hp,hB=>by
  rw[Uj,Ut]at hd
  obtain⟨h1,h2,h3⟩:=wJ hd
  rw[Ui]at hB
  obtain⟨q1,q2,q3,q4⟩:=hp (p,l) Uf
  have hs:=NG s ins all op dp i p (mkB l) out row h1 h2 hal q1 q2 hsz q3 q4 hol (by omega)
  obtain⟨k1,k2⟩:=FE s ins all op dp hal hsz out hol r rest (i+1) (row++[⟨(p:Int),mkB l⟩]) h3 (λq hq=>hp q (Ua _ hq)) (by rw[Uh,T_];omega)
  rw[hs,Uj,Ui,show i+(r.length+1)=i+1+r.length by omega]
  rw[UQ]at k1
  exact⟨k1,k2⟩
def txt(out:List (List aD)):List (List ByteArray):=out.map λr=>r.map aD.text
theorem Lp{α β:Type}(g:α->β)(out:List (List α))(op:Int):opn (out.map λr=>r.map g) op=((opn out op).1.map (λr=>r.map g),(opn out op).2):=by
 unfold opn;split<;>simp
theorem J7{α β:Type}(g:α->β)(out:List (List α))(k:Nat)(t:α):add (out.map λr=>r.map g) k (g t)=(add out k t).map λr=>r.map g:=by
 unfold add
 rw[Wh,UZ,WD]
 congr 2
 rw[Uu,Uu,Ue]
 cases out[k]?<;>rfl
theorem vX:∀(ts:List aD) (out:List (List aD)) (op dp:Int),
 (ts.map aD.text).foldl (cZ id) (txt out,op,dp)=(txt (ts.foldl (cZ aD.text) (out,op,dp)).1,(ts.foldl (cZ aD.text) (out,op,dp)).2)
 |[],out,op,dp=>rfl
 |t::r,out,op,dp=>by
  have:cZ id (txt out,op,dp) t.text=(txt (cZ aD.text (out,op,dp) t).1,(cZ aD.text (out,op,dp) t).2):=by
   unfold cZ txt
   simp only[Lp,J7,id]
  rw[Uj,Vd,Vd,this]
  exact vX r _ _ _
theorem Mf(o:Nat)(l:List UInt8):(T o l).map aD.text=rf l:=by
 unfold T rf
 rw[UH]
 have:=nc _ l o 0 (Us _)
 have h2:=congrArg (VI mkB) this
 rw[UH,UH]at h2
 exact h2
theorem uI:∀(a:List UInt8) (b:Bool),10∉a->nX b false a=U5 a.length b
 |[],b,_=>rfl
 |c::r,b,h=>by
  have h1:(c==10)=false:=beq_eq_false_iff_ne.2 λe=>h (by rw[e];exact Uf)
  rw[nX,h1,uI r _ λe=>h (Ua _ e)];rfl
theorem uH(a:List UInt8)(b:Bool)(h:10∉a)(hne:a≠[]):nX b true a=U5 a.length (hsh a):=by
 cases a with
 |nil=>exact(hne rfl).elim
 |cons c r=>
  have h1:(c==10)=false:=beq_eq_false_iff_ne.2 λe=>h (by rw[e];exact Uf)
  rw[nX,h1,uI r _ λe=>h (Ua _ e)];rfl
theorem DK:∀(a r:List UInt8) (b st:Bool),10∉a->∃b' x,nX b st (a++10::r)=nX b st a++x::nX b' true r
 |[],r,b,st,_=>⟨_,_,rfl⟩
 |c::a,r,b,st,h=>by
  have h1:(c==10)=false:=beq_eq_false_iff_ne.2 λe=>h (by rw[e];exact Uf)
  obtain⟨b',x,e⟩:=DK a r (if st then c==35 else b) false λe=>h (Ua _ e)
  refine⟨b',x,?_⟩
  rw[Ut,nX,h1,e,nX,h1];rfl
theorem Hx{a:List UInt8}(h:hsh a=true):∃r,a=35::r:=by
 cases a with
 |nil=>cases h
 |cons c r=>exact⟨r,by rw[eq_of_beq h]⟩
theorem JP(s:ByteArray)(hsz:s.size<=400000000)(ins:List Bool)(all:List aD)(hal:all.length<=1000000000)(ln op dp:Int)(i:Nat)(out:List (List aD))(B:Nat)(a:List UInt8)(o:Nat)(rest:List aD)
 (hnl:10∉a)(hseg:∀k,k<a.length->s.data.toList.getD (o+k) 0=a.getD k 0)(hosz:o+a.length<=s.size)(hst:o=0\/s.data.toList.getD (o-1) 0=10)
 (hins:∀k,k<a.length->ins[o+k]?=some (hsh a))(hd:all.drop i=T o a++rest)(hv:Inv B out op dp)(hB:B+(a.length+1)<=900000000):
 ∃(ln' op' dp':Int) (i':Nat) (out':List (List aD)),c_ (s,ins,all,op,ln,dp,(i:Int),out,())=c_ (s,ins,all,op',ln',dp',(i':Int),out',())/\all.drop i'=rest/\
  (txt out',op',dp')=aZ (txt out,op,dp) a/\Inv (B+(a.length+1)) out' op' dp':=by
 have htl:=gj _ a o (Us _)
 have hat:=tO _ a o (Us _)
 cases hh:hsh a with
 |false=>
  obtain⟨k1,k2⟩:=FF s ins all ln hal (j_ o a) rest i out op dp B hd (λp hp=>by
   have:=hat p hp
   have h2:=hins (p.1-o) (by omega)
   rw[show o+(p.1-o)=p.1 by omega,hh]at h2;exact h2) hv (by omega)
  refine⟨_,_,_,_,_,k1,k2,?_,((hv.steps (f:=aD.text) (T o a)).mono (by unfold T;rw[Ug];omega))⟩
  rw[aZ,XJ (by rw[hh];exact Up),<-Mf o a,vX];rfl
 |true=>
  obtain⟨r,rfl⟩:=Hx hh
  rw[T,v6,Uj,Ut]at hd
  obtain⟨q1,q2,q3⟩:=wJ hd
  have hlen:(35::r).length=r.length+1:=rfl
  have hin0:=hins 0 (by omega)
  rw[hh,UF]at hin0
  have hol:=hv.len
  have e1:=NF s ins all ln op dp i o (mkB [35]) out q1 q2 hal hin0 (by omega) (by omega) hst (by omega)
  have hat2:=tO _ r (o+1) (Us _)
  have htl2:=gj _ r (o+1) (Us _)
  obtain⟨k1,k2⟩:=FE s ins all op dp hal (by omega) out (by omega) (j_ (o+1) r) rest (i+1) [⟨(o:Int),mkB [35]⟩] q3 (λp hp=>by
   have hp':=hat2 p hp
   have h2:=hins (p.1-o) (by omega)
   rw[show o+(p.1-o)=p.1 by omega,hh]at h2
   refine⟨h2,by omega,by omega,?_⟩
   have h3:=hseg (p.1-1-o) (by omega)
   rw[show o+(p.1-1-o)=p.1-1 by omega]at h3
   rw[h3]
   intro h4
   refine hnl ?_
   rw[<-h4]
   have h5:p.1-1-o<(35::r).length:=by omega
   rw[Uu,Ub h5]
   exact Vt h5) (by simp only[T_];omega)
  refine⟨_,_,_,_,_,e1.trans k1,k2,?_,hv.hash _ _ ?_ (by omega)⟩
  ·rw[aZ,XK hh,<-Mf o (35::r),T,v6]
   unfold txt
   rw[UZ];rfl
  ·rw[Uh,T_,Ug];omega
theorem Lu(s:ByteArray)(hsz:s.size<=400000000)(ins:List Bool)(all:List aD)(hal:all.length<=1000000000):∀(n:Nat) (l:List UInt8),l.length<=n->∀(b:Bool) (o i:Nat) (ln op dp:Int) (out:List (List aD)) (B:Nat),
 s.data.toList.drop o=l->o+l.length=s.size->(o=0\/s.data.toList.getD (o-1) 0=10)->ins.drop o=nX b true l->all.drop i=T o l->Inv B out op dp->B+C2 (lines l)<=900000000->
 ∃out',c_ (s,ins,all,op,ln,dp,(i:Int),out,())=some (out',())/\txt out'=((lines l).foldl aZ (txt out,op,dp)).1:=by
 intro n l hn
 refine lO (M:=λl=>∀(b:Bool) (o i:Nat) (ln op dp:Int) (out:List (List aD)) (B:Nat),
  s.data.toList.drop o=l->o+l.length=s.size->(o=0\/s.data.toList.getD (o-1) 0=10)->ins.drop o=nX b true l->all.drop i=T o l->Inv B out op dp->B+C2 (lines l)<=900000000->
  ∃out',c_ (s,ins,all,op,ln,dp,(i:Int),out,())=some (out',())/\txt out'=((lines l).foldl aZ (txt out,op,dp)).1) ?_ ?_ n l hn
 ·intro a ha b o i ln op dp out B hs ho hst hins hall hv hB
  rw[jK ha,fW]at hB
  obtain⟨ln',op',dp',i',out',e1,e2,e3,e4⟩:=JP s hsz ins all hal ln op dp i out B a o [] ha (λk hk=>by
   rw[<-hs,Uu,Uu,U2]) (by omega) hst (λk hk=>by
   rw[uH a b ha (by intro e;rw[e]at hk;cases hk)]at hins
   have:(ins.drop o)[k]?=some (hsh a):=by rw[hins,Wi,XK hk]
   rw[U2]at this;exact this) (by rw[hall,U0]) hv (by have:C2 []=0:=rfl;omega)
  refine⟨out',?_,?_⟩
  ·rw[e1,c_]
   have hge:¬i'<all.length:=by
    intro h
    rw[VC h]at e2;cases e2
   simp only[TY,T0,T8,XG,XH,TZ,T6,T1,T2,XL,XI,T9,hge,XN]
  ·rw[jK ha,Vd,WF,<-e3]
 ·intro a r ha ih b o i ln op dp out B hs ho hst hins hall hv hB
  rw[gG ha,fW]at hB
  rw[Uh,Ui]at ho
  obtain⟨b',x,hdr⟩:=DK a r b true ha
  rw[hdr]at hins
  have hT:T o (a++10::r)=T o a++T (o+a.length+1) r:=by unfold T;rw[tN _ a r o (Us _),UZ]
  rw[hT]at hall
  have hdl:=zt b true a
  obtain⟨ln',op',dp',i',out',e1,e2,e3,e4⟩:=JP s hsz ins all hal ln op dp i out B a o _ ha (λk hk=>by
   have:(s.data.toList.drop o)[k]?=a[k]?:=by rw[hs,UA hk]
   rw[Uu,Uu,<-this,U2]) (by omega) hst (λk hk=>by
   have:(ins.drop o)[k]?=some (hsh a):=by
    rw[hins,UA (by omega),uH a b ha (by intro e;rw[e]at hk;cases hk),Wi,XK hk]
   rw[U2]at this;exact this) hall hv (by omega)
  have hdr1:s.data.toList.drop (o+a.length+1)=r:=by
   have:(s.data.toList.drop o).drop (a.length+1)=(a++10::r).drop (a.length+1):=by rw[hs]
   rw[VY]at this
   rw[Vh,this,Xd,Vz (by omega)];simp
  have hnl:s.data.toList.getD (o+a.length+1-1) 0=10:=by
   have:(s.data.toList.drop o)[a.length]?=some 10:=by rw[hs,Uz (Us _),XA];rfl
   rw[U2]at this
   rw[WZ,Uu,this];rfl
  have hins2:ins.drop (o+a.length+1)=nX b' true r:=by
   have:(ins.drop o).drop (a.length+1)=(nX b true a++x::nX b' true r).drop (a.length+1):=by rw[hins]
   rw[VY]at this
   rw[Vh,this,Xd,Vz (by omega),hdl];simp
  obtain⟨out2,f1,f2⟩:=ih b' (o+a.length+1) i' ln' op' dp' out' _ hdr1 (by omega) (.inr hnl) hins2 e2 e4 (by omega)
  refine⟨out2,by rw[e1,f1],?_⟩
  rw[f2,gG ha,Vd,<-e3]
theorem f49(s:ByteArray)(hs:s.size<=400000000):∃P,L2 (s,())=some (P,())/\txt P=aN s.data.toList:=by
 have htl:=gj _ s.data.toList 0 (Us _)
 rw[br]at htl
 obtain⟨P,h1,h2⟩:=Lu s hs (nX false true s.data.toList) (T 0 s.data.toList) (by unfold T;rw[Ug];omega) _ s.data.toList (Us _) false 0 0 (-1) (-1) 0 [] 0
  rfl (by rw[UK,br]) (.inl rfl) rfl rfl Inv.zero (by rw[jW,br];omega)
 refine⟨P,?_,h2⟩
 have h1:c_ (s,nX false true s.data.toList,T 0 s.data.toList,-1,-1,0,0,[],())=some (P,()):=h1
 rw[L2]
 simp only[f85 s (by omega),f53 s (by omega),TY,T0,T8,XG,XH,TZ,T6,T1,T2,XL,XI,T9,h1]
theorem Su(ts:List aD)(hl:ts.length<=1000000000):∀(m j:Nat),ts.length-j=m->j<=ts.length->mg (ts,(j:Int),(ts.map aD.text).take j,())=some (ts.map aD.text,()):=by
 intro m
 induction m with
 |zero=>
  intro j hm hj
  have hlt:¬j<ts.length:=by omega
  rw[mg]
  simp only[TY,T0,T8,XG,XH,TZ,T6,T1,T2,XL,XI,T9,hlt,XN]
  rw[UP (by rw[Ug];omega)]
 |succ m ih=>
  intro j hm hj
  have hlt:j<ts.length:=by omega
  obtain⟨t,hp,hpm,hd,g1,g2⟩:=eg hlt
  have h:=ih (j+1) (by omega) (by omega)
  have ht:(ts.map aD.text).take (j+1)=(ts.map aD.text).take j++[t.text]:=by
   rw[VK,Ue,hp];rfl
  rw[ht]at h
  have hlen:((ts.map aD.text).take j).length+1<=4294967296:=by rw[UU,Ug];omega
  rw[mg]
  simp only[TY,T0,T8,XG,XH,TZ,T6,T1,T2,XL,XI,T9,hlt,XM,g1,hp,T_,hlen,aR (a:=j) (by omega),h]
theorem f51(ts:List aD)(hl:ts.length<=1000000000):K2 (ts,())=some (ts.map aD.text,()):=by
 have h:=Su ts hl _ 0 rfl (by omega)
 have h:mg (ts,0,[],())=some (ts.map aD.text,()):=h
 rw[K2]
 simp only[h,TY,T0,T8,XG,XH,TZ,T6,T1,T2,XL,XI,T9]
end Go.Proofs.YtpelkenpapfadaaGreatDoor
end
section
namespace Go.Proofs.YtpelkenpapfadaaGreatDoor
open Go.Tx
set_option maxRecDepth 20000
open Go.Lib
abbrev BA:=ByteArray
def e0:BA:=T3 #[]
def Ps(α:Type):=List BA->Option (α×List BA)
def ret{α:Type}(a:α):Ps α:=λl=>some (a,l)
def bnd{α β:Type}(p:Ps α)(q:α->Ps β):Ps β:=λl=>match p l with
 |none=>none
 |some (a,r)=>q a r
def nay(b:Bool):Ps Unit:=λl=>if b=true then none else some ((),l)
structure Sim {α:Type} (p:Ps α) (l:List BA) (w:Bool) (a:α) (l':List BA) (w':Bool):Prop where
 suf:l'<:+l
 bad:w=true->w'=true
 ok:w=false->∀b r,p l=some (b,r)->w'=false/\a=b/\l'=r
 no:w=false->p l=none->w'=true
theorem Sim.bnd{α β:Type}{p:Ps α}{q:α->Ps β}{l l1 l2:List BA}{w w1 w2:Bool}{a:α}{c:β}(h1:Sim p l w a l1 w1)(h2:Sim (q a) l1 w1 c l2 w2):Sim (bnd p q) l w c l2 w2:=by
 refine⟨h2.suf.trans h1.suf,λhw=>h2.bad (h1.bad hw),λhw b r hb=> ?_,λhw hb=> ?_⟩
 ·unfold Proofs.YtpelkenpapfadaaGreatDoor.bnd at hb
  cases hp:p l with
  |none=>rw[hp]at hb;cases hb
  |some x=>
   obtain⟨x1,x2⟩:=x
   rw[hp]at hb
   obtain⟨rfl,rfl,rfl⟩:=h1.ok hw _ _ hp
   exact h2.ok rfl b r hb
 ·unfold Proofs.YtpelkenpapfadaaGreatDoor.bnd at hb
  cases hp:p l with
  |none=>exact h2.bad (h1.no hw hp)
  |some x=>
   obtain⟨x1,x2⟩:=x
   rw[hp]at hb
   obtain⟨rfl,rfl,rfl⟩:=h1.ok hw _ _ hp
   exact h2.no rfl hb
theorem Sim.ret{α:Type}(a:α)(l:List BA)(w:Bool):Sim (ret a) l w a l w:=by
 refine⟨Ux l,id,λhw b r hb=> ?_,λhw hb=>by cases hb⟩
 cases hb;exact⟨hw,rfl,rfl⟩
theorem Sim.nay(b:Bool)(l:List BA)(w:Bool):Sim (nay b) l w () l (w||b):=by
 refine⟨Ux l,λh=>by rw[h];rfl,λhw x r hb=> ?_,λhw hb=> ?_⟩
 ·unfold Proofs.YtpelkenpapfadaaGreatDoor.nay at hb
  cases b with
  |true=>cases hb
  |false=>cases hb;exact⟨by rw[hw];rfl,rfl,rfl⟩
 ·unfold Proofs.YtpelkenpapfadaaGreatDoor.nay at hb
  cases b with
  |true=>cases w<;>rfl
  |false=>cases hb
theorem Sim.any{α:Type}{p:Ps α}{l l':List BA}(a:α)(h:l'<:+l):Sim p l true a l' true:=⟨h,λ_=>rfl,λh=>(by cases h),λh=>(by cases h)⟩
theorem Sim.wrong{α:Type}{p:Ps α}{l l':List BA}{w:Bool}(a:α)(h:l'<:+l)(hn:p l=none):Sim p l w a l' true:=⟨h,λ_=>rfl,λ_ b r hb=>(by rw[hn]at hb;cases hb),λ_ _=>rfl⟩
theorem Sim.len{α:Type}{p:Ps α}{l l1:List BA}{w w1:Bool}{a:α}(h:Sim p l w a l1 w1):l1.length<=l.length:=h.suf.length_le
theorem Sim.congr{α:Type}{p p':Ps α}{l l1:List BA}{w w1:Bool}{a:α}(h:Sim p l w a l1 w1)(e:p' l=p l):Sim p' l w a l1 w1:=⟨h.suf,h.bad,λhw b r hb=>h.ok hw b r (by rw[<-e];exact hb),λhw hb=>h.no hw (by rw[<-e];exact hb)⟩
def tU(l:List BA):Prop:=∀t∈l,qG t/\t.size<=1000000000
theorem tU.suf{l l':List BA}(h:tU l)(hs:l'<:+l):tU l':=λt ht=>h t (hs.subset ht)
def dF(w:BA):List BA->Bool
 |[]=>false
 |s::_=>decide (s=w)
def tA:Ps BA
 |[]=>none
 |s::r=>if s=e0 then none else some (s,r)
def vH(w:BA):Ps Bool:=λl=>some (dF w l,if dF w l=true then l.tail else l)
def pZ(w:BA):Ps Unit:=λl=>if dF w l=true then some ((),l.tail)else none
def cy:List BA->Ps Unit
 |[]=>ret ()
 |w::r=>bnd (pZ w) λ_=>cy r
theorem jH{w:BA}{l:List BA}(h:dF w l=true):∃r,l=w::r:=by
 cases l with
 |nil=>cases h
 |cons s r=>exact⟨r,by rw[of_decide_eq_true h]⟩
theorem e_{α A B:Type}(F:Nat->Option (A⊕B))(xs:List α)(pred:α->Bool)(hit:Nat->A)(e:B)
 (h1:∀j x,j<xs.length->xs[j]?=some x->F j=if pred x=true then some (.inl (hit j))else F (j+1))(h2:F xs.length=some (.inr e)):
 F 0=some (match xs.findIdx? pred with|some k=> .inl (hit k)|none=> .inr e):=by
 have go:∀(m j:Nat),xs.length-j=m->j<=xs.length->F j=some (match(xs.drop j).findIdx? pred with|some k=> .inl (hit (j+k))|none=> .inr e):=by
  intro m
  induction m with
  |zero=>
   intro j hm hj
   have:j=xs.length:=by omega
   rw[this,h2,List.drop_length];rfl
  |succ m ih=>
   intro j hm hj
   have hlt:j<xs.length:=by omega
   rw[h1 j _ hlt (Ub hlt),VC hlt,List.findIdx?_cons]
   cases hp:pred xs[j]with
   |true=>simp
   |false=>
    rw[XJ Up,ih (j+1) (by omega) (by omega)]
    cases (xs.drop (j+1)).findIdx? pred with
    |none=>simp
    |some k=>simp only[TZ,XH,UB];congr 3;omega
 have:=go _ 0 rfl (Vp _)
 rw[UT]at this
 rw[this]
 cases xs.findIdx? pred with
 |none=>rfl
 |some k=>simp
def sM{α:Type}(xs:List α)(pred:α->Bool):Int:=match xs.findIdx? pred with|some k=>(k:Int)|none=> -1
theorem hO{α:Type}(xs:List α)(pred:α->Bool):decide (sM xs pred>=0)=xs.any pred:=by
 unfold sM
 cases h:xs.findIdx? pred with
 |none=>
  rw[List.findIdx?_eq_none_iff]at h
  have:xs.any pred=false:=by rw[W5];intro x hx;rw[h x hx];exact Up
  rw[this];rfl
 |some k=>
  have hs:(xs.findIdx? pred).isSome=true:=by rw[h];rfl
  rw[List.findIdx?_isSome]at hs
  rw[hs];simp
def kn(k:Int)(name:BA)(x:Item):Bool:=x.kind==k&&decide (x.name0=name)
def fm(it:List Item)(k:Int)(name:BA):Bool:=it.any (kn k name)
def z0:aa:=aa.mk 0 0 false []
def zI:Item:=Item.mk 0 e0 0 [] z0
def iP(it:List Item)(k:Int)(name:BA):Item:=(it.find? (kn k name)).getD zI
def inE(name:BA)(x:Item):Bool:=x.kind==1&&x.names.any λs=>decide (name=s)
def gi(it:List Item)(name:BA):Bool:=fm it 0 name||it.any (inE name)
theorem Nn(k:Int)(name:BA)(x:Item):(if(x.kind==k)=true then some ((x.name0.toList==name.toList,k,name,()):Bool×Int×BA×Unit)else some (false,k,name,()))=some (kn k name x,k,name,()):=by
 unfold kn
 cases (x.kind==k)with
 |true=>simp[aI]
 |false=>simp
theorem Sp(x:Item)(k:Int)(name:BA):jO (x,k,name,())=some (kn k name x,k,name,()):=by
 have h:=Nn k name x
 rw[jO]
 simp only[h,TY,T0]
theorem f84(x:Item)(k:Int)(name:BA):jn (x,k,name,())=some (kn k name x,k,name,()):=by
 have h:=Nn k name x
 rw[jn]
 simp only[h,TY,T0]
theorem Sv(it:List Item)(hl:it.length<=1000000000)(k:Int)(name:BA):mn (it,k,name,())=some (sM it (kn k name),it,k,name,()):=by
 have h:=e_ (λj=>cR ((it.length:Int),(j:Int),it,k,name,())) it (kn k name) (λj=>((j:Int),it,k,name,())) (it,k,name,()) (λj x hj hx=>by
  have g:(0:Int)<=(j:Int)/\(j:Int)<(it.length:Int):=by omega
  rw[cR]
  simp only[TY,T0,T8,XG,XH,TZ,T6,T1,T2,XL,XI,T9,hj,g,and_self,XM,hx,Sp,aR (a:=j) (by omega)]) (by
  rw[cR]
  simp only[TY,T0,T8,XG,XH,TZ,T6,T1,T2,XL,XI,T9,V0,XN])
 have h:cR ((it.length:Int),0,it,k,name,())=_:=h
 rw[mn]
 simp only[h,TY,T0,T8,XG,XH,TZ,T6,T1,T2,XL,XI,T9,sM]
 cases it.findIdx? (kn k name)<;>rfl
theorem Sw(it:List Item)(hl:it.length<=1000000000)(k:Int)(name:BA):mm (it,k,name,())=some (sM it (kn k name),it,k,name,()):=by
 have h:=e_ (λj=>cQ ((it.length:Int),(j:Int),it,k,name,())) it (kn k name) (λj=>((j:Int),it,k,name,())) (it,k,name,()) (λj x hj hx=>by
  have g:(0:Int)<=(j:Int)/\(j:Int)<(it.length:Int):=by omega
  rw[cQ]
  simp only[TY,T0,T8,XG,XH,TZ,T6,T1,T2,XL,XI,T9,hj,g,and_self,XM,hx,f84,aR (a:=j) (by omega)]) (by
  rw[cQ]
  simp only[TY,T0,T8,XG,XH,TZ,T6,T1,T2,XL,XI,T9,V0,XN])
 have h:cQ ((it.length:Int),0,it,k,name,())=_:=h
 rw[mm]
 simp only[h,TY,T0,T8,XG,XH,TZ,T6,T1,T2,XL,XI,T9,sM]
 cases it.findIdx? (kn k name)<;>rfl
theorem KC(k:Int)(name:BA)(it:List Item)(hl:it.length<=1000000000):dy (k,name,it,())=some (fm it k name,it,()):=by
 rw[dy,mV]
 simp only[Sv it hl,TY,T0,T8,XG,XH,TZ,T6,T1,T2,XL,XI,T9,hO];rfl
theorem kW{α:Type}{xs:List α}{pred:α->Bool}:xs.find? pred=(xs.findIdx? pred).bind λi=>xs[i]?:=by
 induction xs with
 |nil=>rfl
 |cons x r ih=>
  rw[List.find?_cons,List.findIdx?_cons]
  cases pred x with
  |true=>rfl
  |false=>
   simp only[TZ,XH,ih]
   cases r.findIdx? pred<;>rfl
theorem f47(k:Int)(name:BA)(it:List Item)(hl:it.length<=1000000000):me (k,name,it,())=some (fm it k name,it,iP it k name,()):=by
 rw[me]
 simp only[Sw it hl,TY,T0,T8,XG,XH,TZ,T6,T1,T2,XL,XI,T9]
 unfold fm iP
 rw[<-hO,kW]
 unfold sM
 cases h:it.findIdx? (kn k name)with
 |none=>rfl
 |some i=>
  have hi:i<it.length:=(V6.1 h).1
  have c1:¬((i:Int)<0):=by omega
  have c2:(0:Int)<=(i:Int)/\(i:Int)<(it.length:Int):=by omega
  have c3:(i:Int)>=0:=by omega
  simp only[c1,c2,c3,XN,XM,XG,and_self,T1,Ub hi,T0,VF,TZ,XH]
theorem f44(l:List BA)(hl:l.length<=1000000000)(name:BA):L0 (l,name,())=some (sM l (λs=>decide (name=s)),()):=by
 have h:=e_ (λj=>md (l,name,(l.length:Int),(j:Int),())) l (λs=>decide (name=s)) (λj=>((j:Int),())) () (λj x hj hx=>by
  rw[md]
  simp only[TY,T0,T8,XG,XH,TZ,T6,T1,T2,XL,XI,T9,hj,XM,hx,aI,aR (a:=j) (by omega)]) (by
  rw[md]
  simp only[TY,T0,T8,XG,XH,TZ,T6,T1,T2,XL,XI,T9,V0,XN])
 have h:md (l,name,(l.length:Int),0,())=_:=h
 rw[L0]
 simp only[h,TY,T0,T8,XG,XH,TZ,T6,T1,T2,XL,XI,T9,sM]
 cases l.findIdx? _<;>rfl
theorem RT(l:List BA)(hl:l.length<=1000000000)(name:BA):Ez (l,name,())=some (l.any (λs=>decide (name=s)),()):=by
 rw[Ez]
 simp only[f44 l hl,TY,T0,T8,XG,XH,TZ,T6,T1,T2,XL,XI,T9,hO]
def mC(it:List Item):Prop:=∀x∈it,x.names.length<=1000000000
theorem So(x:Item)(hx:x.names.length<=1000000000)(name:BA):jN (x,name,())=some (inE name x,name,()):=by
 rw[jN]
 unfold inE
 cases (x.kind==1)with
 |true=>simp[RT _ hx]
 |false=>simp
theorem Sx(it:List Item)(hl:it.length<=1000000000)(hn:mC it)(name:BA):mo (it,name,())=some (sM it (inE name),it,name,()):=by
 have h:=e_ (λj=>cS ((it.length:Int),(j:Int),it,name,())) it (inE name) (λj=>((j:Int),it,name,())) (it,name,()) (λj x hj hx=>by
  have g:(0:Int)<=(j:Int)/\(j:Int)<(it.length:Int):=by omega
  rw[cS]
  simp only[TY,T0,T8,XG,XH,TZ,T6,T1,T2,XL,XI,T9,hj,g,and_self,XM,hx,So x (hn x (Un hx)),aR (a:=j) (by omega)]) (by
  rw[cS]
  simp only[TY,T0,T8,XG,XH,TZ,T6,T1,T2,XL,XI,T9,V0,XN])
 have h:cS ((it.length:Int),0,it,name,())=_:=h
 rw[mo]
 simp only[h,TY,T0,T8,XG,XH,TZ,T6,T1,T2,XL,XI,T9,sM]
 cases it.findIdx? (inE name)<;>rfl
theorem PK(it:List Item)(hl:it.length<=1000000000)(hn:mC it)(name:BA):jM (it,name,())=some (it.any (inE name),it,name,()):=by
 rw[jM]
 simp only[Sx it hl hn,TY,T0,T8,XG,XH,TZ,T6,T1,T2,XL,XI,T9,hO]
theorem RR(name:BA)(it:List Item)(hl:it.length<=1000000000)(hn:mC it):gR (name,it,())=some (gi it name,it,()):=by
 rw[gR]
 unfold gi
 cases hh:fm it 0 name with
 |true=>simp only[KC _ _ _ hl,hh,TY,T0,T8,XG,XH,TZ,T6,T1,T2,XL,XI,T9,UJ]
 |false=>simp only[KC _ _ _ hl,hh,PK it hl hn,TY,T0,T8,XG,XH,TZ,T6,T1,T2,XL,XI,T9,UD]
def g5(it:List Item)(l:List BA):Bool:=l.any (gi it)
theorem Sn(l:List BA)(hll:l.length<=1000000000)(it:List Item)(hl:it.length<=1000000000)(hn:mC it):jL (l,it,())=some (g5 it l,l,it,()):=by
 have h:=e_ (λj=>cg ((l.length:Int),(j:Int),l,it,())) l (gi it) (λj=>((j:Int),l,it,())) (l,it,()) (λj x hj hx=>by
  have g:(0:Int)<=(j:Int)/\(j:Int)<(l.length:Int):=by omega
  rw[cg]
  simp only[TY,T0,T8,XG,XH,TZ,T6,T1,T2,XL,XI,T9,hj,g,and_self,XM,hx,RR x it hl hn,aR (a:=j) (by omega)]) (by
  rw[cg]
  simp only[TY,T0,T8,XG,XH,TZ,T6,T1,T2,XL,XI,T9,V0,XN])
 have h:cg ((l.length:Int),0,l,it,())=_:=h
 have h2:jP (l,it,())=some (sM l (gi it),l,it,()):=by
  rw[jP]
  simp only[h,TY,T0,T8,XG,XH,TZ,T6,T1,T2,XL,XI,T9,sM]
  cases l.findIdx? (gi it)<;>rfl
 rw[jL]
 simp only[h2,TY,T0,T8,XG,XH,TZ,T6,T1,T2,XL,XI,T9,hO];rfl
def G5(l:List BA):Nat->Nat->Bool
 |_,0=>false
 |j,m+1=>(l.take j).any (λs=>decide (l.getD j e0=s))||G5 l (j+1) m
def jC(l:List BA):Bool:=G5 l 0 l.length
theorem xO{l:List BA}{j:Nat}(h:j<l.length):l[j]?=some (l.getD j e0):=by
 rw[Uu,Ub h];rfl
theorem f160(l:List BA)(hl:l.length<=1000000000):ye (l,())=some (!jC l,()):=by
 have go:∀(m j:Nat),l.length-j=m->j<=l.length->iq (l,l,(l.length:Int),(j:Int),())=some (if G5 l j m=true then .inl (false,())else .inr ()):=by
  intro m
  induction m with
  |zero=>
   intro j hm hj
   have hlt:¬j<l.length:=by omega
   rw[iq]
   simp only[TY,T0,T8,XG,XH,TZ,T6,T1,T2,XL,XI,T9,hlt,XN,G5]
  |succ m ih=>
   intro j hm hj
   have hlt:j<l.length:=by omega
   have g:(0:Int)<=0/\(0:Int)<=(j:Int)/\(j:Int)<=(l.length:Int):=by omega
   have ht:(l.take j).length<=1000000000:=by rw[UU];omega
   rw[iq,G5]
   simp only[TY,T0,T8,XG,XH,TZ,T6,T1,T2,XL,XI,T9,hlt,XM,g,and_self,xO hlt,RT _ ht,aR (a:=j) (by omega),ih (j+1) (by omega) (by omega)]
   cases (l.take j).any (λs=>decide (l.getD j e0=s))<;>simp
 have h:=go _ 0 rfl (Vp _)
 have h:iq (l,l,(l.length:Int),0,())=some (if G5 l 0 l.length=true then .inl (false,())else .inr ()):=h
 rw[ye]
 simp only[h,TY,T0,T8,XG,XH,TZ,T6,T1,T2,XL,XI,T9,jC]
 cases G5 l 0 l.length<;>rfl
end Go.Proofs.YtpelkenpapfadaaGreatDoor
end
section
namespace Go.Proofs.YtpelkenpapfadaaGreatDoor
open Go.Tx
set_option maxRecDepth 20000
open Go.Lib
def nU:BA:=T3 #[117,110,115,105,103,110,101,100]
def fh:BA:=T3 #[99,104,97,114]
def dC:BA:=T3 #[115,104,111,114,116]
def rh:BA:=T3 #[105,110,116]
def iS:BA:=T3 #[108,111,110,103]
def cv:BA:=T3 #[118,111,105,100]
def bH:BA:=T3 #[115,116,114,117,99,116]
def gq:BA:=T3 #[101,110,117,109]
def fV:BA:=T3 #[42]
def L8(s:BA):Bool:=decide (s=fh)||(decide (s=dC)||(decide (s=rh)||(decide (s=iS)||(decide (s=nU)||(decide (s=cv)||(decide (s=bH)||decide (s=gq)))))))
theorem Nm(a b:Bool):(if a=true then some ((true,()):Bool×Unit)else some (b,()))=some (a||b,()):=by cases a<;>rfl
theorem PJ(s:BA):Ey (s,())=some (L8 s,()):=by
 rw[Ey]
 have e1:fh=T3 #[99,104,97,114]:=rfl
 have e2:dC=T3 #[115,104,111,114,116]:=rfl
 have e3:rh=T3 #[105,110,116]:=rfl
 have e4:iS=T3 #[108,111,110,103]:=rfl
 have e5:nU=T3 #[117,110,115,105,103,110,101,100]:=rfl
 have e6:cv=T3 #[118,111,105,100]:=rfl
 have e7:bH=T3 #[115,116,114,117,99,116]:=rfl
 have e8:gq=T3 #[101,110,117,109]:=rfl
 simp only[<-e1,<-e2,<-e3,<-e4,<-e5,<-e6,<-e7,<-e8,aI,Nm,TY,T0]
 simp only[Vc];rfl
theorem f169(s:BA):H4 (s,())=some (L8 s,()):=by
 have:=PJ s
 rw[Ey]at this
 rw[H4];exact this
theorem jU{s:BA}(h:¬s=e0):0<s.size:=by
 rcases WC s.size with h0|h0
 ·refine(h (zn ?_)).elim
  have:s.data.toList.length=0:=by rw[br,h0]
  rw[U8.1 this];rfl
 ·exact h0
theorem D1{s:BA}(h:¬s=e0):s.data.toList=s.data.toList.getD 0 0::s.data.toList.drop 1:=by
 have:=dZ (jU h);rw[UT]at this;exact this
def hd(l:List BA):BA:=l.headD e0
def cw(l:List BA):List BA:=if hd l=e0 then l else l.tail
theorem lG(l:List BA):cw l<:+l:=by unfold cw;split;exact Ux l;exact VW l
theorem sT(w:BA)(l:List BA):(if dF w l=true then l.tail else l)<:+l:=by split;exact VW l;exact Ux l
theorem Bh{w:BA}(hw:¬w=e0)(l:List BA):decide (hd l=w)=dF w l:=by
 cases l with
 |nil=>rw[dF];exact decide_eq_false λe=>hw e.symm
 |cons s r=>rfl
theorem KD(l:List BA)(w:Bool)(it:List Item):fv (l,w,it,())=some (hd l,l,w,it,()):=by
 rw[fv]
 cases l with
 |nil=>rfl
 |cons s r=>
  have:(((s::r).length:Int)==0)=false:=beq_eq_false_iff_ne.2 (by rw[Ui];omega)
  simp only[this,TZ,XH];rfl
theorem Kz(l:List BA):(W0 l.length l).drop (U6 1)=l.tail:=by
 rw[List.take_length];exact List.drop_one
theorem SA{l:List BA}{w:BA}(h:dF w l=true):(0:Int)<=1/\(1:Int)<=(l.length:Int)/\(l.length:Int)<=(l.length:Int):=by
 obtain⟨r,rfl⟩:=jH h
 rw[Ui];omega
theorem f156(s:BA)(hs:¬s=e0)(l:List BA)(w:Bool)(it:List Item):cX (s,l,w,it,())=some (dF s l,(if dF s l=true then l.tail else l),w,it,()):=by
 have hx:(T3 #[])=e0:=rfl
 have hsd:decide (s=e0)=false:=decide_eq_false hs
 have hh:=Bh hs l
 rw[cX]
 simp only[KD,TY,T0,T8,XG,XH,TZ,T6,T1,T2,XL,XI,T9,aI,hx,hsd]
 cases h:dF s l with
 |true=>
  rw[h]at hh
  simp only[hh,T7,TY,T0,T8,XG,XH,TZ,T6,T1,T2,XL,XI,T9,SA h,and_self,Kz]
 |false=>
  rw[h]at hh
  simp only[hh,T5,TY,T0,T8,XG,XH,TZ,T6,T1,T2,XL,XI,T9]
theorem Sim.may(s:BA)(l:List BA)(w:Bool):Sim (vH s) l w (dF s l) (if dF s l=true then l.tail else l) w:=by
 refine⟨sT s l,id,λhw b r hb=> ?_,λhw hb=>by cases hb⟩
 cases hb;exact⟨hw,rfl,rfl⟩
theorem Sim.want(s:BA)(l:List BA)(w:Bool):Sim (pZ s) l w () (if dF s l=true then l.tail else l) (w|| !dF s l):=by
 refine⟨sT s l,λh=>by rw[h];rfl,λhw b r hb=> ?_,λhw hb=> ?_⟩
 ·unfold pZ at hb
  cases h:dF s l with
  |true=>rw[h]at hb;cases hb;exact⟨by rw[hw];rfl,rfl,rfl⟩
  |false=>rw[h]at hb;cases hb
 ·unfold pZ at hb
  cases h:dF s l with
  |true=>rw[h]at hb;cases hb
  |false=>cases w<;>rfl
theorem PI(ss:List BA)(hss:∀s∈ss,¬s=e0)(hsl:ss.length<=1000)(it:List Item):∀(m j:Nat) (l:List BA) (w:Bool),ss.length-j=m->
 ∃l' w',cf (ss,(ss.length:Int),(j:Int),l,w,it,())=some (l',w',it,())/\Sim (cy (ss.drop j)) l w () l' w':=by
 intro m
 induction m with
 |zero=>
  intro j l w hm
  have hlt:¬j<ss.length:=by omega
  refine⟨l,w,?_,?_⟩
  ·rw[cf]
   simp only[TY,T0,T8,XG,XH,TZ,T6,T1,T2,XL,XI,T9,hlt,XN]
  ·rw[eX hlt];exact .ret _ _ _
 |succ m ih=>
  intro j l w hm
  have hlt:j<ss.length:=by omega
  obtain⟨s,hp,hpm,hdr,g1,g2⟩:=eg hlt
  obtain⟨l',w',h1,h2⟩:=ih (j+1) (if dF s l=true then l.tail else l) (w|| !dF s l) (by omega)
  refine⟨l',w',?_,?_⟩
  ·rw[cf,<-h1]
   cases h:dF s l with
   |true=>simp only[TY,T0,T8,XG,XH,TZ,T6,T1,T2,XL,XI,T9,hlt,XM,g1,hp,f156 s (hss s hpm),h,T7,Vc,aR (a:=j) (by omega)]
   |false=>simp only[TY,T0,T8,XG,XH,TZ,T6,T1,T2,XL,XI,T9,hlt,XM,g1,hp,f156 s (hss s hpm),h,T5,Ve,aR (a:=j) (by omega)]
  ·rw[hdr];exact(Sim.want s l w).bnd h2
theorem f154(ss:List BA)(hss:∀s∈ss,¬s=e0)(hsl:ss.length<=1000)(l:List BA)(w:Bool)(it:List Item):
 ∃l' w',bw (ss,l,w,it,())=some (l',w',it,())/\Sim (cy ss) l w () l' w':=by
 obtain⟨l',w',h1,h2⟩:=PI ss hss hsl it _ 0 l w rfl
 have h1:cf (ss,(ss.length:Int),0,l,w,it,())=some (l',w',it,()):=h1
 refine⟨l',w',?_,h2⟩
 rw[bw]
 simp only[h1,TY,T0,T8,XG,XH,TZ,T6,T1,T2,XL,XI,T9]
theorem G7(l:List BA)(w:Bool)(it:List Item):eA (l,w,it,())=some (hd l,cw l,w,it,()):=by
 have hx:(T3 #[])=e0:=rfl
 rw[eA]
 unfold cw
 by_cases h:hd l=e0
 ·simp only[KD,TY,T0,T8,XG,XH,TZ,T6,T1,T2,XL,XI,T9,aI,hx,h,XM,T7]
 ·have hl:(0:Int)<=1/\(1:Int)<=(l.length:Int)/\(l.length:Int)<=(l.length:Int):=by
   cases l with
   |nil=>exact(h rfl).elim
   |cons s r=>rw[Ui];omega
  simp only[KD,TY,T0,T8,XG,XH,TZ,T6,T1,T2,XL,XI,T9,aI,hx,h,XN,T5,hl,and_self,Kz]
def bR(s:BA):Bool:=match s.data.toList with
 |[]=>false
 |c::_=>isL c&& !L8 s
def dM:Ps BA
 |[]=>none
 |s::r=>if bR s=true then some (s,r)else none
def eS(s:BA):Bool:=match s.data.toList with
 |[]=>false
 |c::_=>isD c&&decide (s.size<=9)
def pV(s:BA):Int:=match Lib.atoiAll s.data.toList with
 | .ok n=>n
 | .range=>Lib.atoiSat s.data.toList
 |_=>0
def Lq:Ps Int
 |[]=>none
 |s::r=>if eS s=true then some (pV s,r)else none
theorem vx{s:BA}(h:¬s=e0):bR s=(xW ((s.data.toList.getD 0 0).toNat:Int)&& !L8 s):=by
 unfold bR;rw[D1 h];rfl
theorem tu{s:BA}(h:¬s=e0):eS s=(rW ((s.data.toList.getD 0 0).toNat:Int)&&decide (s.size<=9)):=by
 unfold eS;rw[D1 h];rfl
theorem pR:bR e0=false:=rfl
theorem Ib:eS e0=false:=rfl
theorem tH{α:Type}{p:Ps α}{okB:BA->Bool}{f:BA->α}(h0:okB e0=false)(hn:p []=none)(hc:∀s r,p (s::r)=if okB s=true then some (f s,r)else none)(l:List BA)(w:Bool)(a:α)(ha:okB (hd l)=true->a=f (hd l)):
 Sim p l w a (cw l) (w|| !okB (hd l)):=by
 refine⟨lG l,λh=>by rw[h];rfl,λhw b r hb=> ?_,λhw hb=> ?_⟩
 ·cases l with
  |nil=>rw[hn]at hb;cases hb
  |cons s r'=>
   rw[hc]at hb
   cases h:okB s with
   |false=>rw[h]at hb;cases hb
   |true=>
    rw[h]at hb;cases hb
    have hs:¬s=e0:=λe=>by rw[e,h0]at h;cases h
    exact⟨by rw[hw];show(false|| !okB s)=false;rw[h];rfl,ha h,by unfold cw;rw[XJ (show¬hd (s::r)=e0 from hs)];rfl⟩
 ·cases l with
  |nil=>show(w|| !okB e0)=true;rw[h0];cases w<;>rfl
  |cons s r'=>
   rw[hc]at hb
   show(w|| !okB s)=true
   cases h:okB s with
   |true=>rw[h]at hb;cases hb
   |false=>cases w<;>rfl
theorem Sim.name(l:List BA)(w:Bool):Sim dM l w (hd l) (cw l) (w|| !bR (hd l)):=tH (f:=id) pR rfl (λ_ _=>rfl) l w _ λ_=>rfl
theorem Sim.num(l:List BA)(w:Bool)(a:Int)(ha:eS (hd l)=true->a=pV (hd l)):Sim Lq l w a (cw l) (w|| !eS (hd l)):=tH (f:=pV) Ib rfl (λ_ _=>rfl) l w _ ha
theorem DS(l:List BA)(w:Bool)(it:List Item):bX (l,w,it,())=some (hd l,cw l,w|| !bR (hd l),it,()):=by
 have hx:(T3 #[])=e0:=rfl
 rw[bX]
 by_cases h:hd l=e0
 ·have hn:bR (hd l)=false:=by rw[h];rfl
  simp only[G7,TY,T0,T8,XG,XH,TZ,T6,T1,T2,XL,XI,T9,aI,hx,h,XM,pR,T5,Ve]
 ·have hg:(hd l)[0]?=some ((hd l).data.toList.getD 0 0):=ba (jU h)
  rw[vx h]
  cases h1:xW (((hd l).data.toList.getD 0 0).toNat:Int)with
  |false=>simp only[G7,TY,T0,T8,XG,XH,TZ,T6,T1,T2,XL,XI,T9,aI,hx,h,XN,Vs,hg,f86,h1,T5,Vx,Ve]
  |true=>
   cases h2:L8 (hd l)with
   |false=>simp only[G7,TY,T0,T8,XG,XH,TZ,T6,T1,T2,XL,XI,T9,aI,hx,h,XN,Vs,hg,f86,h1,PJ,h2,T7,T5,Vg,Vc]
   |true=>simp only[G7,TY,T0,T8,XG,XH,TZ,T6,T1,T2,XL,XI,T9,aI,hx,h,XN,Vs,hg,f86,h1,PJ,h2,T7,T5,Vg,Ve]
theorem p4:∀(l:List UInt8) (acc j:Nat),(∀x∈l,isD x=true)->acc<10^j->j+l.length<=9->∃n,Lib.parseUint10 acc l= .ok n/\n<1000000000
 |[],acc,j,_,h1,h2=>⟨acc,rfl,by
  have:10^j<=10^9:=Xp (by omega) (by simpa using h2)
  have e:(10:Nat)^9=1000000000:=by decide
  omega⟩
 |c::r,acc,j,hd,h1,h2=>by
  have hc:=hd c Uf
  unfold isD rW at hc
  simp only[Uk,XI]at hc
  have hc1:48<=c.toNat/\c.toNat<=57:=by omega
  rw[Ui]at h2
  have:10^(j+1)<=10^9:=Xp (by omega) (by omega)
  have e:(10:Nat)^9=1000000000:=by decide
  have e2:(10:Nat)^(j+1)=10^j *10:=Nat.pow_succ ..
  obtain⟨n,h3,h4⟩:=p4 r (acc *10+(c.toNat-48)) (j+1) (λx hx=>hd x (Ua _ hx)) (by omega) (by omega)
  refine⟨n,?_,h4⟩
  rw[Lib.parseUint10,XK hc1,XJ (by omega),XJ (by omega),h3]
theorem rl{s:BA}(ht:qG s)(h:eS s=true):∃n:Int,Lib.atoiAll s.data.toList= .ok n/\0<=n/\n<1000000000:=by
 obtain⟨c,r,e,hr⟩:=ht
 unfold eS at h
 rw[e]at h
 simp only[Uk,XI]at h
 have hsz:=br s
 rw[e,Ui]at hsz
 obtain⟨n,h1,h2⟩:=p4 (c::r) 0 0 (λx hx=>by
  rcases Um.1 hx with rfl|hx
  ·exact h.1
  ·exact hr h.1 x hx) (by decide) (by rw[Ui];omega)
 have hc:=h.1
 unfold isD rW at hc
 simp only[Uk,XI]at hc
 refine⟨n,?_,by omega,by omega⟩
 rw[e]
 unfold Lib.atoiAll Lib.parseMag
 have c1:¬c.toNat=43:=by omega
 have c2:¬c.toNat=45:=by omega
 have c3:¬(9223372036854775808<=n):=by omega
 simp only[c1,c2,c3,or_self,XH,reduceCtorEq,h1,not_false_eq_true,true_and,false_and]
theorem Ic{s:BA}(ht:qG s)(h:eS s=true):0<=pV s/\pV s<1000000000:=by
 obtain⟨n,h1,h2,h3⟩:=rl ht h
 unfold pV;rw[h1];exact⟨h2,h3⟩
theorem xU{l:List BA}(hg:tU l):hd l=e0\/qG (hd l)/\(hd l).size<=1000000000:=by
 cases l with
 |nil=>exact .inl rfl
 |cons s r=>exact .inr (hg s Uf)
theorem D2{l:List BA}(hg:tU l):(hd l).size<=1000000000:=by
 rcases xU hg with h|h
 ·rw[h];decide
 ·exact h.2
theorem RS(s:BA)(hs:s.size<=1000000000):∃er,BD (s,())=some (pV s,er,())/\(er=false↔∃n,Lib.atoiAll s.data.toList= .ok n):=by
 rw[BD]
 have:s.size<=1000000000000:=by omega
 unfold pV
 simp only[this,XG]
 cases h:Lib.atoiAll s.data.toList with
 |ok n=>exact⟨false,rfl,by simp⟩
 |range=>exact⟨true,rfl,by simp⟩
 |_=>exact⟨true,rfl,by simp⟩
theorem RQ(l:List BA)(hg:tU l)(w:Bool)(it:List Item):gQ (l,w,it,())=some (pV (hd l),cw l,w|| !eS (hd l),it,()):=by
 obtain⟨er,h1,h2⟩:=RS (hd l) (D2 hg)
 rw[gQ]
 cases er with
 |true=>
  have hn:eS (hd l)=false:=by
   cases h:eS (hd l)with
   |false=>rfl
   |true=>
    rcases xU hg with e|e
    ·rw[e]at h;cases h
    ·obtain⟨n,h3,_⟩:=rl e.1 h
     have:=h2.2 ⟨n,h3⟩;cases this
  simp only[G7,TY,T0,T8,XG,XH,TZ,T6,T1,T2,XL,XI,T9,h1,hn,T5,Ve]
 |false=>
  have h:¬hd l=e0:=λe=>by
   obtain⟨n,h3⟩:=h2.1 rfl
   rw[e]at h3;cases h3
  have hgt:(hd l)[0]?=some ((hd l).data.toList.getD 0 0):=ba (jU h)
  rw[tu h]
  cases h3:rW (((hd l).data.toList.getD 0 0).toNat:Int)with
  |false=>simp only[G7,TY,T0,T8,XG,XH,TZ,T6,T1,T2,XL,XI,T9,h1,Vs,hgt,f87,h3,T5,Vx,Ve]
  |true=>
   by_cases h4:(hd l).size<=9
   ·have h5:¬(((hd l).size:Int)>9):=by omega
    simp only[G7,TY,T0,T8,XG,XH,TZ,T6,T1,T2,XL,XI,T9,h1,Vs,hgt,f87,h3,h4,h5,XM,XN,T7,T5,Vg,Vc]
   ·have h5:(((hd l).size:Int)>9):=by omega
    simp only[G7,TY,T0,T8,XG,XH,TZ,T6,T1,T2,XL,XI,T9,h1,Vs,hgt,f87,h3,h4,h5,XM,XN,T7,T5,Vg,Ve]
structure eN (it:List Item):Prop where
 len:it.length<=1000000
 names:∀x∈it,x.names.length<=1000000
 fits:∀x∈it,x.layout.Fits
 val:∀x∈it,jx x.layout=0
 str:∀x∈it,x.kind=2->x.layout.kind=6
theorem eN.nm{it:List Item}(h:eN it):mC it:=λx hx=>by have:=h.names x hx;omega
theorem sr{p:aa}:∀{ps:List aa},p∈ps->p.all.length<=(aa.allL ps).length
 |q::r,h=>by
  rw[aa.allL,Uh]
  rcases Um.1 h with rfl|h
  ·omega
  ·have:=sr h;omega
theorem J_(l:aa):1<=l.all.length:=by rw[l.all_eq,Ui];omega
theorem Da:∀ps:List aa,ps.length<=(aa.allL ps).length
 |[]=>Us _
 |p::r=>by rw[aa.allL,Uh,Ui];have:=Da r;have:=J_ p;omega
theorem f196:∀l:aa,l.all.length<=1000000->n_196 (l,())=some (l,()):=by
 refine aa.ind λl ih hn=> ?_
 rw[l.all_eq,Ui]at hn
 have hpl:=Da l.parts
 have loop:∀(m k:Nat),l.parts.length-k=m->k<=l.parts.length->eR (l.parts,(l.parts.length:Int),(k:Int),l,z0,l.parts.take k,())=some (l,z0,l.parts,()):=by
  intro m
  induction m with
  |zero=>
   intro k hm hk
   have hlt:¬k<l.parts.length:=by omega
   rw[eR]
   simp only[TY,T0,T8,XG,XH,TZ,T6,T1,T2,XL,XI,T9,hlt,XN,UP (show l.parts.length<=k by omega)]
  |succ m ihm=>
   intro k hm hk
   have hlt:k<l.parts.length:=by omega
   obtain⟨p,hp,hpm,hdr,g1,g2⟩:=eg hlt
   have hpa:=sr hpm
   have h:=ihm (k+1) (by omega) (by omega)
   rw[VK,hp]at h
   have ht:(l.parts.take k).length+[p].length<=4294967296:=by rw[UU,T_];omega
   rw[eR]
   simp only[TY,T0,T8,XG,XH,TZ,T6,T1,T2,XL,XI,T9,hlt,XM,g1,hp,ih p hpm (by omega),ht,aR (a:=k) (by omega)]
   exact h
 have h:=loop _ 0 rfl (Vp _)
 have h:eR (l.parts,(l.parts.length:Int),0,l,aa.mk 0 0 false [],[],())=some (l,z0,l.parts,()):=h
 rw[n_196]
 simp only[h,TY,T0,T8,XG,XH,TZ,T6,T1,T2,XL,XI,T9,eta]
theorem sJ(it:List Item)(k:Int)(name:BA):iP it k name=zI/\fm it k name=false\/iP it k name∈it/\(iP it k name).kind=k/\fm it k name=true:=by
 unfold iP fm
 cases h:it.find? (kn k name)with
 |none=>
  refine .inl ⟨rfl,?_⟩
  rw[List.find?_eq_none]at h
  rw[W5];exact h
 |some x=>
  have h1:=List.find?_some h
  have h2:=List.mem_of_find?_eq_some h
  refine .inr ⟨h2,?_,Vu.2 ⟨x,h2,h1⟩⟩
  unfold kn at h1
  rw[Uk]at h1
  exact eq_of_beq h1.1
theorem Gx{l:aa}(h:jx l=0):l.all.length<=60/\l.depth<=5:=by
 unfold jx at h
 split at h
 ·cases h
 ·rename_i hc
  simp only[aa.large,UI,XI,not_or]at hc
  omega
theorem Hs{it:List Item}(h:eN it)(k:Int)(name:BA):(iP it k name).layout.all.length<=60:=by
 rcases sJ it k name with⟨e,_⟩|⟨e,_,_⟩
 ·rw[e];decide
 ·exact(Gx (h.val _ e)).1
def pY(it:List Item):Ps aa:=bnd (vH nU) λu=>bnd tA λs=>
 if s=fh then ret (aa.mk 2 8 (!u) [])else if s=dC then ret (aa.mk 2 16 (!u) [])else if s=rh then ret (aa.mk 2 32 (!u) [])
 else bnd (nay u) λ_=>if s=iS then ret (aa.mk 3 0 false [])else if s=cv then ret z0
 else if s=bH then bnd dM λn=>bnd (nay (!fm it 2 n)) λ_=>ret (iP it 2 n).layout
 else if s=gq then bnd dM λn=>bnd (nay (!fm it 1 n)) λ_=>ret (aa.mk 2 32 true [])
 else bnd (nay true) λ_=>ret z0
theorem Sim.word(l:List BA)(w:Bool):Sim tA l w (hd l) (cw l) (w||decide (hd l=e0)):=by
 have:=tH (p:=tA) (okB:=λs=>decide (¬s=e0)) (f:=id) (by simp) rfl (λs r=>by unfold tA;by_cases h:s=e0<;>simp[h]) l w (hd l) λ_=>rfl
 simpa using this
theorem Sim.strict{α:Type}{p:Ps α}{l l1:List BA}{w w1 w2:Bool}{a:α}(h:Sim p l w a l1 w1)(h1:w1=true->w2=true)(h2:w2=true->w1=true):Sim p l w a l1 w2:=by
 have:w1=w2:=by cases w1<;>cases w2<;>simp_all
 rw[<-this];exact h
theorem eI{a b:BA}(h:¬a.data.toList=b.data.toList):¬a=b:=λe=>h (by rw[e])
theorem PY(s:BA)(h:s=fh\/s=dC\/s=rh):(Mp.get Mp.seq s (Mp.set Mp.seq Mp.slt (T3 #[105,110,116]) (32:Int) (Mp.set Mp.seq Mp.slt (T3 #[115,104,111,114,116]) (16:Int) (Mp.set Mp.seq Mp.slt (T3 #[99,104,97,114]) (8:Int) [])))).getD (0:Int)=
 if s=fh then 8 else if s=dC then 16 else 32:=by
 rcases h with rfl|rfl|rfl
 ·kernel_rfl
 ·rw[XJ (eI (by decide))];kernel_rfl
 ·rw[XJ (eI (by decide)),XJ (eI (by decide))];kernel_rfl
end Go.Proofs.YtpelkenpapfadaaGreatDoor
end
section
namespace Go.Proofs.YtpelkenpapfadaaGreatDoor
open Go.Tx
set_option maxRecDepth 20000
open Go.Lib
theorem wc:¬nU=e0:=eI (by decide)
theorem tQ:fh=T3 #[99,104,97,114]:=rfl
theorem oC:dC=T3 #[115,104,111,114,116]:=rfl
theorem Ak:rh=T3 #[105,110,116]:=rfl
theorem tR:iS=T3 #[108,111,110,103]:=rfl
theorem Am:nU=T3 #[117,110,115,105,103,110,101,100]:=rfl
theorem jA:cv=T3 #[118,111,105,100]:=rfl
theorem gZ:bH=T3 #[115,116,114,117,99,116]:=rfl
theorem nd:gq=T3 #[101,110,117,109]:=rfl
theorem qA:fV=T3 #[42]:=rfl
theorem mI:¬fh=e0:=eI (by decide)
theorem jD:¬dC=e0:=eI (by decide)
theorem rP:¬rh=e0:=eI (by decide)
theorem sC:¬iS=e0:=eI (by decide)
theorem mK:¬cv=e0:=eI (by decide)
theorem gA:¬bH=e0:=eI (by decide)
theorem mJ:¬gq=e0:=eI (by decide)
theorem sc1:¬dC=fh:=eI (by decide)
theorem ic1:¬rh=fh:=eI (by decide)
theorem is1:¬rh=dC:=eI (by decide)
theorem lc1:¬iS=fh:=eI (by decide)
theorem ls1:¬iS=dC:=eI (by decide)
theorem li1:¬iS=rh:=eI (by decide)
theorem vc1:¬cv=fh:=eI (by decide)
theorem vs1:¬cv=dC:=eI (by decide)
theorem vi1:¬cv=rh:=eI (by decide)
theorem vl1:¬cv=iS:=eI (by decide)
theorem tc1:¬bH=fh:=eI (by decide)
theorem ts1:¬bH=dC:=eI (by decide)
theorem ti1:¬bH=rh:=eI (by decide)
theorem tl1:¬bH=iS:=eI (by decide)
theorem tv1:¬bH=cv:=eI (by decide)
theorem ec1:¬gq=fh:=eI (by decide)
theorem es1:¬gq=dC:=eI (by decide)
theorem ei1:¬gq=rh:=eI (by decide)
theorem el1:¬gq=iS:=eI (by decide)
theorem ev1:¬gq=cv:=eI (by decide)
theorem et1:¬gq=bH:=eI (by decide)
def dA(it:List Item)(u:Bool)(s:BA):Ps aa:=
 if s=fh then ret (aa.mk 2 8 (!u) [])else if s=dC then ret (aa.mk 2 16 (!u) [])else if s=rh then ret (aa.mk 2 32 (!u) [])
 else bnd (nay u) λ_=>if s=iS then ret (aa.mk 3 0 false [])else if s=cv then ret z0
 else if s=bH then bnd dM λn=>bnd (nay (!fm it 2 n)) λ_=>ret (iP it 2 n).layout
 else if s=gq then bnd dM λn=>bnd (nay (!fm it 1 n)) λ_=>ret (aa.mk 2 32 true [])
 else bnd (nay true) λ_=>ret z0
theorem eF(it:List Item):pY it=bnd (vH nU) λu=>bnd tA λs=>dA it u s:=rfl
theorem qY{s:BA}(w:Bool)(h:¬s=e0):(w||decide (s=e0))=w:=by rw[decide_eq_false h,Vc]
theorem Sq(it:List Item)(hi:eN it)(l:List BA)(w:Bool):∃l' w' t,gS (l,w,it,())=some (l',w',it,t,())/\Sim (pY it) l w t l' w':=by
 have hlen:=hi.len
 have m1:=Sim.may nU l w
 have h156:=f156 nU wc l w it
 obtain⟨u,hu⟩:∃u,dF nU l=u:=⟨_,rfl⟩
 obtain⟨l1,hl1⟩:∃l1,(if dF nU l=true then l.tail else l)=l1:=⟨_,rfl⟩
 rw[hl1]at h156 m1
 rw[hu]at h156 m1
 have m2:=Sim.word l1 w
 have h164:=G7 l1 w it
 obtain⟨s,hs⟩:∃s,hd l1=s:=⟨_,rfl⟩
 obtain⟨l2,hl2⟩:∃l2,cw l1=l2:=⟨_,rfl⟩
 rw[hs,hl2]at h164 m2
 have rest:∃l' w' t,gS (l,w,it,())=some (l',w',it,t,())/\Sim (dA it u s) l2 (w||decide (s=e0)) t l' w':=by
  rw[gS]
  rw[<-Am,h156,TY,T0]
  simp only[XG]
  rw[h164,TY,T0]
  simp only[XG,aI,<-tQ,<-oC,<-Ak,<-tR,<-jA,<-gZ,<-nd]
  have hm (h:s=fh\/s=dC\/s=rh):(Mp.get Mp.seq s (Mp.set Mp.seq Mp.slt rh (32:Int) (Mp.set Mp.seq Mp.slt dC (16:Int) (Mp.set Mp.seq Mp.slt fh (8:Int) [])))).getD (0:Int)=if s=fh then 8 else if s=dC then 16 else 32:=PY s h
  by_cases a1:s=fh
  ·have h:=hm (.inl a1)
   rw[XK a1]at h
   refine⟨l2,w,aa.mk 2 8 (!u) [],?_,?_⟩
   ·rw[a1]at h
    simp only[a1,XM,TY,T0,XG,XH,TZ,T7,T5,h]
   ·rw[a1,qY w mI,dA,XK rfl];exact .ret _ _ _
  by_cases a2:s=dC
  ·have h:=hm (.inr (.inl a2))
   rw[XJ a1,XK a2]at h
   refine⟨l2,w,aa.mk 2 16 (!u) [],?_,?_⟩
   ·rw[a2]at h
    simp only[a2,sc1,XM,XN,TY,T0,XG,XH,TZ,T7,T5,h]
   ·rw[a2,qY w jD,dA,XJ sc1,XK rfl];exact .ret _ _ _
  by_cases a3:s=rh
  ·have h:=hm (.inr (.inr a3))
   rw[XJ a1,XJ a2]at h
   refine⟨l2,w,aa.mk 2 32 (!u) [],?_,?_⟩
   ·rw[a3]at h
    simp only[a3,ic1,is1,XM,XN,TY,T0,XG,XH,TZ,T7,T5,h]
   ·rw[a3,qY w rP,dA,XJ ic1,XJ is1,XK rfl];exact .ret _ _ _
  have hw1:(if w=true then some ((s,l2,true,aa.mk 0 0 false [],it,()):BA×List BA×Bool×aa×List Item×Unit)else some (s,l2,u,aa.mk 0 0 false [],it,()))=some (s,l2,w||u,aa.mk 0 0 false [],it,()):=by cases w<;>rfl
  simp only[a1,a2,a3,XN,TY,T0,XG,XH,TZ,T7,T5,hw1]
  have hR:dA it u s=bnd (nay u) λ_=>if s=iS then ret (aa.mk 3 0 false [])else if s=cv then ret z0
   else if s=bH then bnd dM λn=>bnd (nay (!fm it 2 n)) λ_=>ret (iP it 2 n).layout
   else if s=gq then bnd dM λn=>bnd (nay (!fm it 1 n)) λ_=>ret (aa.mk 2 32 true [])
   else bnd (nay true) λ_=>ret z0:=by rw[dA,XJ a1,XJ a2,XJ a3]
  rw[hR]
  have m3:=Sim.nay u l2 (w||decide (s=e0))
  by_cases b1:s=iS
  ·refine⟨l2,w||u,aa.mk 3 0 false [],?_,?_⟩
   ·simp only[b1,XM,TY,T0,XG,XH,TZ,T7,T5]
   ·rw[b1,qY w sC]at m3⊢
    refine m3.bnd ?_
    rw[XK rfl];exact .ret _ _ _
  by_cases b2:s=cv
  ·refine⟨l2,w||u,z0,?_,?_⟩
   ·simp only[b2,vl1,XM,XN,TY,T0,XG,XH,TZ,T7,T5];rfl
   ·rw[b2,qY w mK]at m3⊢
    refine m3.bnd ?_
    rw[XJ vl1,XK rfl];exact .ret _ _ _
  have h155:=DS l2 (w||u) it
  have m4:=Sim.name l2 (w||u)
  obtain⟨n,hn⟩:∃n,hd l2=n:=⟨_,rfl⟩
  obtain⟨l3,hl3⟩:∃l3,cw l2=l3:=⟨_,rfl⟩
  obtain⟨w3,hw3⟩:∃w3,(w||u|| !bR n)=w3:=⟨_,rfl⟩
  rw[hn,hl3,hw3]at h155 m4
  by_cases b3:s=bH
  ·have m5:=Sim.nay (!fm it 2 n) l3 w3
   refine⟨l3,w3|| !fm it 2 n,(iP it 2 n).layout,?_,?_⟩
   ·have hc:=f196 _ (U4 (Hs hi 2 n) (by omega))
    simp only[b3,tl1,tv1,XM,XN,TY,T0,XG,XH,TZ,T7,T5,kV,h155,f47 _ _ it (by omega),eta]
    cases w3 with
    |true=>simp only[TY,T0,XG,XH,TZ,T7,T5,hc,UJ]
    |false=>simp only[TY,T0,XG,XH,TZ,T7,T5,hc,UD]
   ·rw[b3,qY w gA]at m3⊢
    refine m3.bnd ?_
    rw[XJ tl1,XJ tv1,XK rfl]
    exact m4.bnd (m5.bnd (.ret _ _ _))
  by_cases b4:s=gq
  ·have m5:=Sim.nay (!fm it 1 n) l3 w3
   refine⟨l3,w3|| !fm it 1 n,aa.mk 2 32 true [],?_,?_⟩
   ·simp only[b4,el1,ev1,et1,XM,XN,TY,T0,XG,XH,TZ,T7,T5,kV,h155,KC _ _ it (by omega)]
    cases fm it 1 n with
    |true=>simp only[TY,T0,XG,XH,TZ,T7,T5,Vc]
    |false=>simp only[TY,T0,XG,XH,TZ,T7,T5,Ve]
   ·rw[b4,qY w mJ]at m3⊢
    refine m3.bnd ?_
    rw[XJ el1,XJ ev1,XJ et1,XK rfl]
    exact m4.bnd (m5.bnd (.ret _ _ _))
  ·refine⟨l2,true,z0,?_,?_⟩
   ·simp only[b1,b2,b3,b4,XN,TY,T0,XG,XH,TZ,T7,T5];rfl
   ·refine m3.bnd ?_
    rw[XJ b1,XJ b2,XJ b3,XJ b4]
    have:=(Sim.nay true l2 (w||decide (s=e0)||u)).bnd (q:=λ_=>ret z0) (.ret z0 _ _)
    rw[Ve]at this;exact this
 obtain⟨l',w',t,h1,h2⟩:=rest
 exact⟨l',w',t,h1,by rw[eF];exact m1.bnd (m2.bnd h2)⟩
def stars:aa->List BA->aa×List BA
 |t,[]=>(t,[])
 |t,s::r=>if s=fV then stars (aa.mk 3 0 false []) r else(t,s::r)
def zU(t:aa):Ps aa:=λl=>some (stars t l)
theorem qo:∀(l:List BA) (t:aa),(stars t l).2<:+l
 |[],t=>Ux _
 |s::r,t=>by
  unfold stars;split
  ·exact(qo r _).trans (WJ _ _)
  ·exact Ux _
theorem Sim.stars(t:aa)(l:List BA)(w:Bool):Sim (zU t) l w (stars t l).1 (stars t l).2 w:=by
 refine⟨qo l t,id,λhw b r hb=> ?_,λhw hb=>by cases hb⟩
 have hb:some (Proofs.YtpelkenpapfadaaGreatDoor.stars t l)=some (b,r):=hb
 injection hb with hb
 rw[hb];exact⟨hw,rfl,rfl⟩
theorem qn:¬fV=e0:=eI (by decide)
theorem MZ(x:aa)(res w:Bool)(it:List Item):∀(l:List BA) (t:aa),cF (res,l,w,x,t,it,())=some (res,(stars t l).2,w,x,(stars t l).1,it,())
 |[],t=>by
  rw[cF]
  simp only[<-qA,f156 fV qn,dF,TY,T0,XG,XH,TZ,T7,T5];rfl
 |s::r,t=>by
  rw[cF]
  simp only[<-qA,f156 fV qn,dF,TY,T0,XG,XH,TZ,T7,T5]
  by_cases h:s=fV
  ·rw[stars,XK h,<-MZ x res w it r]
   simp only[h,XM,XG,WW]
  ·rw[stars,XJ h]
   simp only[h,XN,TY,T0,XG,XH,TZ,T7,T5]
def qZ(it:List Item)(res:Bool):Ps aa:=bnd (pY it) λt=>bnd (zU t) λt=>bnd (nay (t.kind==0&& !res)) λ_=>ret t
theorem f163(it:List Item)(hi:eN it)(res:Bool)(l:List BA)(w:Bool):∃l' w' t,fw (res,l,w,it,())=some (l',w',it,t,())/\Sim (qZ it res) l w t l' w':=by
 obtain⟨l1,w1,t,h1,m1⟩:=Sq it hi l w
 have m2:=Sim.stars t l1 w1
 have h2:=MZ (aa.mk 0 0 false []) res w1 it l1 t
 obtain⟨t2,ht2⟩:∃t2,(stars t l1).1=t2:=⟨_,rfl⟩
 obtain⟨l2,hl2⟩:∃l2,(stars t l1).2=l2:=⟨_,rfl⟩
 rw[ht2,hl2]at h2 m2
 refine⟨l2,w1||(t2.kind==0&& !res),t2,?_,m1.bnd (m2.bnd ((Sim.nay _ _ _).bnd (.ret _ _ _)))⟩
 rw[fw]
 simp only[h1,h2,TY,T0,XG,XH,TZ,T7,T5]
 cases w1<;>cases (t2.kind==0)<;>rfl
end Go.Proofs.YtpelkenpapfadaaGreatDoor
end
section
namespace Go.Proofs.YtpelkenpapfadaaGreatDoor
open Go.Tx
set_option maxRecDepth 20000
open Go.Lib
def rg:BA:=T3 #[35]
def gp:BA:=T3 #[100,101,102,105,110,101]
def jy:BA:=T3 #[45]
def ck:BA:=T3 #[44]
def zh:BA:=T3 #[40]
def dz:BA:=T3 #[41]
def tV:BA:=T3 #[91]
def L9:BA:=T3 #[93]
theorem GE:rg=T3 #[35]:=rfl
theorem wk:gp=T3 #[100,101,102,105,110,101]:=rfl
theorem Al:jy=T3 #[45]:=rfl
theorem dI:ck=T3 #[44]:=rfl
theorem tS:zh=T3 #[40]:=rfl
theorem tT:dz=T3 #[41]:=rfl
theorem sn:tV=T3 #[91]:=rfl
theorem wl:L9=T3 #[93]:=rfl
theorem OY:oB=T3 #[123]:=rfl
theorem GD:cB=T3 #[125]:=rfl
theorem ri:sB=T3 #[59]:=rfl
theorem E8:¬rg=e0:=eI (by decide)
theorem vz:¬gp=e0:=eI (by decide)
theorem zP:¬jy=e0:=eI (by decide)
theorem gf:¬ck=e0:=eI (by decide)
theorem E_:¬zh=e0:=eI (by decide)
theorem Fa:¬dz=e0:=eI (by decide)
theorem zO:¬tV=e0:=eI (by decide)
theorem JK:¬L9=e0:=eI (by decide)
theorem OP:¬oB=e0:=eI (by decide)
theorem H_:¬cB=e0:=eI (by decide)
theorem G9:¬sB=e0:=eI (by decide)
def KM(b:Bool)(v:Int):Int:=if b=true then IntKind.i64.wrap (0-v)else v
def oZ(it:List Item):Ps Item:=bnd (cy [rg,gp]) λ_=>bnd dM λn=>bnd (vH jy) λm=>bnd Lq λv=>
 bnd (nay (gi it n)) λ_=>ret (Item.mk 0 n (KM m v) [] z0)
theorem Sl(it:List Item)(hi:eN it)(l:List BA)(hg:tU l)(w:Bool):∃l' w' x,fp (l,w,it,())=some (l',w',it,x,())/\Sim (oZ it) l w x l' w':=by
 have hlen:=hi.len
 obtain⟨l1,w1,h1,m1⟩:=f154 [rg,gp] (by simp[E8,vz]) (by simp) l w it
 have g1:=hg.suf m1.suf
 have h2:=DS l1 w1 it
 have m2:=Sim.name l1 w1
 obtain⟨n,hn⟩:∃n,hd l1=n:=⟨_,rfl⟩
 obtain⟨l2,hl2⟩:∃l2,cw l1=l2:=⟨_,rfl⟩
 obtain⟨w2,hw2⟩:∃w2,(w1|| !bR n)=w2:=⟨_,rfl⟩
 rw[hn,hl2,hw2]at h2 m2
 have g2:=g1.suf m2.suf
 have h3:=f156 jy zP l2 w2 it
 have m3:=Sim.may jy l2 w2
 obtain⟨b,hb⟩:∃b,dF jy l2=b:=⟨_,rfl⟩
 obtain⟨l3,hl3⟩:∃l3,(if dF jy l2=true then l2.tail else l2)=l3:=⟨_,rfl⟩
 rw[hl3]at h3 m3
 rw[hb]at h3 m3
 have g3:=g2.suf m3.suf
 have h4:=RQ l3 g3 w2 it
 have m4:=Sim.num l3 w2 (pV (hd l3)) λ_=>rfl
 obtain⟨v,hv⟩:∃v,pV (hd l3)=v:=⟨_,rfl⟩
 obtain⟨l4,hl4⟩:∃l4,cw l3=l4:=⟨_,rfl⟩
 obtain⟨w4,hw4⟩:∃w4,(w2|| !eS (hd l3))=w4:=⟨_,rfl⟩
 rw[hv,hl4,hw4]at h4 m4
 refine⟨l4,w4||gi it n,Item.mk 0 n (KM b v) [] z0,?_,m1.bnd (m2.bnd (m3.bnd (m4.bnd ((Sim.nay _ _ _).bnd (.ret _ _ _)))))⟩
 have h5:=RR n it (by omega) hi.nm
 rw[fp]
 simp only[<-GE,<-wk,<-Al,h1,h2,h3,h4,TY,T0,XG,XH,TZ,T7,T5]
 cases b<;>cases w4<;>simp only[TY,T0,XG,XH,TZ,T7,T5,h5,UJ,UD]<;>rfl
def mr:Nat->List BA->Ps (List BA)
 |0,_=>λ_=>none
 |k+1,acc=>bnd dM λa=>bnd (vH ck) λc=>if c=true then mr k (acc++[a])else ret (acc++[a])
def Ft:Ps (List BA):=λl=>mr (l.length+1) [] l
def xG(it:List Item):Ps Item:=bnd (cy [gq]) λ_=>bnd dM λn=>bnd (cy [oB]) λ_=>bnd Ft λns=>bnd (cy [cB,sB]) λ_=>
 bnd (nay (jC ns||g5 it ns)) λ_=>ret (Item.mk 1 n 0 ns z0)
def fresh(it:List Item)(k:Int)(x:Item):Ps Item:=bnd (nay (fm it k x.name0)) λ_=>ret x
theorem jw{w:BA}{l:List BA}(h:dF w l=true):l.tail.length+1=l.length:=by
 obtain⟨r,rfl⟩:=jH h;rfl
theorem PF(it:List Item)(x:Item)(a:Int)(nm:BA)(b c d:Int)(e:Bool)(ps:List aa):∀(m:Nat) (l:List BA) (w:Bool) (acc:List BA),l.length<=m->acc.length+l.length<=10000000->
 ∃ns l' w',ca (l,w,x,a,nm,b,c,d,e,acc,ps,it,())=some (l',w',x,a,nm,b,c,d,e,ns,ps,it,())/\ns.length<=acc.length+l.length+1/\l'<:+l/\∀k,l.length<k->Sim (mr k acc) l w ns l' w':=by
 intro m
 induction m with
 |zero=>
  intro l w acc hl hb
  have hl0:l=[]:=U8.1 (by omega)
  subst hl0
  refine⟨acc++[e0],[],w|| !bR (hd []),?_,by simp,Ux _,λk hk=> ?_⟩
  ·have ht:acc.length+1<=4294967296:=by omega
   rw[ca]
   simp only[DS,<-dI,f156 ck gf,TY,T0,XG,XH,TZ,T7,T5,T_,ht]
   rfl
  ·obtain⟨k,rfl⟩:∃j,k=j+1:=⟨k-1,by omega⟩
   exact Sim.wrong _ (Ux _) rfl|>.strict (λ_=>by cases w<;>rfl) (λ_=>rfl)
 |succ m ih=>
  intro l w acc hl hb
  have h2:=DS l w it
  have m2:=Sim.name l w
  obtain⟨n,hn⟩:∃n,hd l=n:=⟨_,rfl⟩
  obtain⟨l2,hl2⟩:∃l2,cw l=l2:=⟨_,rfl⟩
  obtain⟨w2,hw2⟩:∃w2,(w|| !bR n)=w2:=⟨_,rfl⟩
  rw[hn,hl2,hw2]at h2 m2
  have hlen2:=m2.len
  have h3:=f156 ck gf l2 w2 it
  have m3:=Sim.may ck l2 w2
  have ht:acc.length+1<=4294967296:=by omega
  cases hb2:dF ck l2 with
  |false=>
   rw[hb2,XJ Up]at h3 m3
   refine⟨acc++[n],l2,w2,?_,by rw[Uh,T_];omega,m2.suf,λk hk=> ?_⟩
   ·rw[ca]
    simp only[h2,<-dI,h3,TY,T0,XG,XH,TZ,T7,T5,T_,ht]
   ·obtain⟨k,rfl⟩:∃j,k=j+1:=⟨k-1,by omega⟩
    exact m2.bnd (m3.bnd (.ret _ _ _))
  |true=>
   rw[hb2,XK rfl]at h3 m3
   have htl:=jw hb2
   obtain⟨ns,l',w',i1,i2,i3,i4⟩:=ih l2.tail w2 (acc++[n]) (by omega) (by rw[Uh,T_];omega)
   refine⟨ns,l',w',?_,by rw[Uh,T_]at i2;omega,i3.trans ((VW l2).trans m2.suf),λk hk=> ?_⟩
   ·rw[ca]
    simp only[h2,<-dI,h3,TY,T0,XG,XH,TZ,T7,T5,T_,ht]
    exact i1
   ·obtain⟨k,rfl⟩:∃j,k=j+1:=⟨k-1,by omega⟩
    exact m2.bnd (m3.bnd (i4 k (by omega)))
theorem Sim.fuel{α:Type}{p:Nat->Ps α}{l l':List BA}{w w':Bool}{a:α}(h:Sim (p (l.length+1)) l w a l' w'):Sim (λl=>p (l.length+1) l) l w a l' w':=h.congr rfl
theorem f123(it:List Item)(hi:eN it)(l:List BA)(hl:l.length<=1000000)(w:Bool):∃l' w' x,fq (l,w,it,())=some (l',w',it,x,())/\Sim (bnd (xG it) (fresh it 1)) l w x l' w':=by
 have hlen:=hi.len
 obtain⟨l1,w1,h1,m1⟩:=f154 [gq] (by simp[mJ]) (by simp) l w it
 have h2:=DS l1 w1 it
 have m2:=Sim.name l1 w1
 obtain⟨n,hn⟩:∃n,hd l1=n:=⟨_,rfl⟩
 obtain⟨l2,hl2⟩:∃l2,cw l1=l2:=⟨_,rfl⟩
 obtain⟨w2,hw2⟩:∃w2,(w1|| !bR n)=w2:=⟨_,rfl⟩
 rw[hn,hl2,hw2]at h2 m2
 obtain⟨l3,w3,h3,m3⟩:=f154 [oB] (by simp[OP]) (by simp) l2 w2 it
 have hlen3:=U4 (U4 m3.len m2.len) m1.len
 obtain⟨ns,l4,w4,h4,hns,_,m4⟩:=PF it (Item.mk 0 (T3 #[]) 0 [] (aa.mk 0 0 false [])) 1 n 0 0 0 false [] _ l3 w3 [] (Us _) (by simp only[Uw];omega)
 have m4:=Sim.fuel (p:=λk=>mr k []) (m4 _ (Wf _))
 rw[Uw]at hns
 obtain⟨l5,w5,h5,m5⟩:=f154 [cB,sB] (by simp[H_,G9]) (by simp) l4 w4 it
 have main0:Sim (xG it) l w (Item.mk 1 n 0 ns z0) l5 (w5||(jC ns||g5 it ns)):=by unfold xG;exact m1.bnd (m2.bnd (m3.bnd (m4.bnd (m5.bnd ((Sim.nay _ _ _).bnd (.ret _ _ _))))))
 have main1:Sim (fresh it 1 (Item.mk 1 n 0 ns z0)) l5 (w5||(jC ns||g5 it ns)) (Item.mk 1 n 0 ns z0) l5 (w5||(jC ns||g5 it ns)||fm it 1 n):=(Sim.nay _ _ _).bnd (.ret _ _ _)
 have main:=main0.bnd main1
 refine⟨l5,_,_,?_,main⟩
 have h6:=KC 1 n it (by omega)
 have h7:=f160 ns (by omega)
 have h8:=Sn ns (by omega) it (by omega) hi.nm
 rw[fq]
 simp only[<-nd,<-OY,<-GD,<-ri,h1,h2,h3,h4,h5,TY,T0,XG,XH,TZ,T7,T5]
 cases w5 with
 |true=>simp only[TY,T0,XG,XH,TZ,T7,T5,UJ];rfl
 |false=>
  cases hh:fm it 1 n with
  |true=>simp only[TY,T0,XG,XH,TZ,T7,T5,h6,hh,Ve];rfl
  |false=>
   cases hd:jC ns with
   |true=>simp only[TY,T0,XG,XH,TZ,T7,T5,h6,hh,h7,hd,Ve,UJ];rfl
   |false=>simp only[TY,T0,XG,XH,TZ,T7,T5,h6,hh,h7,hd,h8,UD,Vc];rfl
def wI(mx:Int)(t:aa)(b:Bool):Ps aa:=if b=true then bnd Lq λv=>bnd (nay (decide (v<1)||decide (v>mx))) λ_=>bnd (cy [L9]) λ_=>ret (aa.mk 5 v false [t])else ret t
def j9(it:List Item)(mx:Int):Ps (aa×BA):=bnd (qZ it false) λt=>bnd dM λn=>bnd (vH tV) λb=>bnd (wI mx t b) λt'=>bnd (cy [sB]) λ_=>ret (t',n)
def bK(it:List Item)(mx:Int):Nat->List BA->List aa->Ps (List BA×List aa)
 |0,_,_=>λ_=>none
 |k+1,ns,ps=>λl=>if dF cB l=true then some ((ns,ps),l)else bnd (j9 it mx) (λp=>bK it mx k (ns++[p.2]) (ps++[p.1])) l
def lv(it:List Item)(mx:Int):Ps (List BA×List aa):=λl=>bK it mx (l.length+1) [] [] l
def dK(it:List Item)(mx:Int):Ps Item:=bnd (cy [bH]) λ_=>bnd dM λn=>bnd (cy [oB]) λ_=>bnd (lv it mx) λp=>bnd (cy [cB,sB]) λ_=>
 bnd (nay (p.1.isEmpty||jC p.1)) λ_=>ret (Item.mk 2 n 0 p.1 (aa.mk 6 0 false p.2))
def Lep{α:Type}(p:Ps α):Prop:=∀l a r,p l=some (a,r)->r.length<=l.length
def Ltp{α:Type}(p:Ps α):Prop:=∀l a r,p l=some (a,r)->r.length<l.length
theorem ap{α β:Type}{p:Ps α}{q:α->Ps β}{l:List BA}{c:β}{r:List BA}(h:bnd p q l=some (c,r)):∃a r1,p l=some (a,r1)/\q a r1=some (c,r):=by
 unfold bnd at h
 cases hp:p l with
 |none=>rw[hp]at h;cases h
 |some x=>obtain⟨a,r1⟩:=x;rw[hp]at h;exact⟨a,r1,rfl,h⟩
theorem Ltp.le{α:Type}{p:Ps α}(h:Ltp p):Lep p:=λl a r hp=>Nat.le_of_lt (h l a r hp)
theorem Lep.bnd{α β:Type}{p:Ps α}{q:α->Ps β}(h1:Lep p)(h2:∀a,Lep (q a)):Lep (bnd p q):=λl c r h=>by
 obtain⟨a,r1,e1,e2⟩:=ap h
 have:=h1 _ _ _ e1;have:=h2 _ _ _ _ e2;omega
theorem Ltp.bnd{α β:Type}{p:Ps α}{q:α->Ps β}(h1:Ltp p)(h2:∀a,Lep (q a)):Ltp (bnd p q):=λl c r h=>by
 obtain⟨a,r1,e1,e2⟩:=ap h
 have:=h1 _ _ _ e1;have:=h2 _ _ _ _ e2;omega
theorem Ltp.bnd'{α β:Type}{p:Ps α}{q:α->Ps β}(h1:Lep p)(h2:∀a,Ltp (q a)):Ltp (Proofs.YtpelkenpapfadaaGreatDoor.bnd p q):=λl c r h=>by
 obtain⟨a,r1,e1,e2⟩:=ap h
 have:=h1 _ _ _ e1;have:=h2 _ _ _ _ e2;omega
theorem Lep.ret{α:Type}(a:α):Lep (ret a):=λl b r h=>by cases h;exact Us _
theorem Lep.nay(b:Bool):Lep (nay b):=λl a r h=>by
 unfold Proofs.YtpelkenpapfadaaGreatDoor.nay at h;split at h;cases h;cases h;exact Us _
theorem Lep.may(w:BA):Lep (vH w):=λl a r h=>by
 unfold vH at h;cases h;exact(sT w l).length_le
theorem Ltp.want(w:BA):Ltp (pZ w):=λl a r h=>by
 unfold pZ at h;split at h
 ·rename_i hh;cases h;have:=jw hh;omega
 ·cases h
theorem Lep.wants:∀ws:List BA,Lep (cy ws)
 |[]=>Lep.ret _
 |w::r=>(Ltp.want w).le.bnd λ_=>Lep.wants r
theorem Ltp.word:Ltp tA:=λl a r h=>by
 cases l with
 |nil=>cases h
 |cons s t=>
  rw[show tA (s::t)=if s=e0 then none else some (s,t)from rfl]at h
  split at h
  ·cases h
  ·cases h;simp
theorem Ltp.name:Ltp dM:=λl a r h=>by
 cases l with
 |nil=>cases h
 |cons s t=>
  rw[show dM (s::t)=if bR s=true then some (s,t)else none from rfl]at h
  split at h
  ·cases h;simp
  ·cases h
theorem Ltp.num:Ltp Lq:=λl a r h=>by
 cases l with
 |nil=>cases h
 |cons s t=>
  rw[show Lq (s::t)=if eS s=true then some (pV s,t)else none from rfl]at h
  split at h
  ·cases h;simp
  ·cases h
theorem Lep.stars(t:aa):Lep (zU t):=λl a r h=>by
 have h:some (Proofs.YtpelkenpapfadaaGreatDoor.stars t l)=some (a,r):=h
 injection h with h
 have:=(qo l t).length_le
 rw[h]at this;exact this
theorem Ltp.base(it:List Item):Ltp (pY it):=by
 rw[eF]
 refine Ltp.bnd' (Lep.may _) λu=>Ltp.word.bnd λs=> ?_
 unfold dA
 (repeat' split)<;>first
   |exact Lep.ret _
   |(refine(Lep.nay _).bnd λ_=> ?_
     (repeat' split)<;>first
      |exact Lep.ret _
      |exact Ltp.name.le.bnd λn=>(Lep.nay _).bnd λ_=>Lep.ret _
      |exact(Lep.nay _).bnd λ_=>Lep.ret _)
theorem Ltp.kind(it:List Item)(b:Bool):Ltp (qZ it b):=(Ltp.base it).bnd λt=>(Lep.stars t).bnd λ_=>(Lep.nay _).bnd λ_=>Lep.ret _
theorem Lep.arr(mx:Int)(t:aa)(b:Bool):Lep (wI mx t b):=by
 unfold wI;split
 ·exact Ltp.num.le.bnd λv=>(Lep.nay _).bnd λ_=>(Lep.wants _).bnd λ_=>Lep.ret _
 ·exact Lep.ret _
theorem Ltp.part(it:List Item)(mx:Int):Ltp (j9 it mx):=(Ltp.kind it false).bnd λt=>Ltp.name.le.bnd λn=>(Lep.may _).bnd λb=>(Lep.arr _ _ _).bnd λt'=>(Lep.wants _).bnd λ_=>Lep.ret _
theorem Sim.lt{α:Type}{p:Ps α}{l l1:List BA}{a:α}(h:Sim p l false a l1 false)(hp:Ltp p):l1.length<l.length:=by
 cases e:p l with
 |none=>have:=h.no rfl e;cases this
 |some x=>
  obtain⟨b,r⟩:=x
  obtain⟨_,rfl,rfl⟩:=h.ok rfl b r e
  exact hp _ _ _ e
def iO:Int:=1000000000
theorem PG(it:List Item)(hi:eN it)(x:Item)(a:Int)(nm:BA)(b c d:Int)(e:Bool):∀(m:Nat) (l:List BA) (w:Bool) (ns:List BA) (ps:List aa),tU l->(w=true\/l.length<=m)->ns.length+l.length<=10000000->ps.length+l.length<=10000000->
 ∃ns' ps' l' w',aT (l,w,x,a,nm,b,c,d,e,ns,ps,it,())=some (l',w',x,a,nm,b,c,d,e,ns',ps',it,())/\ns'.length<=ns.length+l.length+1/\l'<:+l/\∀k,l.length<k->Sim (bK it iO k ns ps) l w (ns',ps') l' w':=by
 intro m
 induction m with
 |zero=>
  intro l w ns ps hg hm hb hb2
  cases w with
  |true=>
   refine⟨ns,ps,l,true,?_,by omega,Ux _,λk hk=>Sim.any _ (Ux _)⟩
   rw[aT]
   simp only[TY,T0,XG,XH,TZ,T7,T5]
  |false=>
   have hl0:l=[]:=U8.1 (by rcases hm with h|h;cases h;omega)
   subst hl0
   obtain⟨l1,w1,t,h1,m1⟩:=f163 it hi false [] false
   have hl1:l1=[]:=U8.1 (by have:=m1.len;simpa using this)
   subst hl1
   have hw1:w1=true:=m1.no rfl rfl
   subst hw1
   obtain⟨l5,w5,h5,m5⟩:=f154 [sB] (by simp[G9]) (by simp) [] true it
   have hl5:l5=[]:=U8.1 (by have:=m5.len;simpa using this)
   have hw5:w5=true:=m5.bad rfl
   subst hl5 hw5
   have ht:ns.length+1<=4294967296:=by omega
   have ht2:ps.length+1<=4294967296:=by omega
   refine⟨ns++[e0],ps++[t],[],true,?_,by simp,Ux _,λk hk=> ?_⟩
   ·rw[aT]
    have hd0:hd []=e0:=rfl
    have hdw:cw []=[]:=rfl
    have hz:decide (e0=cB)=false:=decide_eq_false λh=>H_ h.symm
    have ha:dF tV []=false:=rfl
    simp only[TY,T0,XG,XH,TZ,T7,T5,KD,hd0,aI,<-GD,hz,h1,DS,hdw,T_,ht,<-sn,f156 tV zO,ha,<-ri,h5,ht2,UJ]
    rw[aT]
    simp only[TY,T0,XG,XH,TZ,T7,T5]
   ·obtain⟨k,rfl⟩:∃j,k=j+1:=⟨k-1,by omega⟩
    exact Sim.wrong _ (Ux _) rfl
 |succ m ih=>
  intro l w ns ps hg hm hb hb2
  cases w with
  |true=>
   refine⟨ns,ps,l,true,?_,by omega,Ux _,λk hk=>Sim.any _ (Ux _)⟩
   rw[aT]
   simp only[TY,T0,XG,XH,TZ,T7,T5]
  |false=>
   have hml:l.length<=m+1:=by rcases hm with h|h;cases h;exact h
   have hat:=Bh H_ l
   cases hc:dF cB l with
   |true=>
    rw[hc]at hat
    refine⟨ns,ps,l,false,?_,by omega,Ux _,λk hk=> ?_⟩
    ·rw[aT]
     simp only[TY,T0,XG,XH,TZ,T7,T5,KD,aI,<-GD,hat]
    ·obtain⟨k,rfl⟩:∃j,k=j+1:=⟨k-1,by omega⟩
     exact(Sim.ret (ns,ps) l false).congr (by unfold bK;rw[hc,XK rfl];rfl)
   |false=>
    rw[hc]at hat
    obtain⟨l1,w1,t,h1,m1⟩:=f163 it hi false l false
    have h2:=DS l1 w1 it
    have m2:=Sim.name l1 w1
    obtain⟨n,hn⟩:∃n,hd l1=n:=⟨_,rfl⟩
    obtain⟨l2,hl2⟩:∃l2,cw l1=l2:=⟨_,rfl⟩
    obtain⟨w2,hw2⟩:∃w2,(w1|| !bR n)=w2:=⟨_,rfl⟩
    rw[hn,hl2,hw2]at h2 m2
    have h3:=f156 tV zO l2 w2 it
    have m3:=Sim.may tV l2 w2
    have ht:ns.length+1<=4294967296:=by omega
    have ht2:ps.length+1<=4294967296:=by omega
    have arr:∃l4 w4 t4,Sim (wI iO t (dF tV l2)) (if dF tV l2=true then l2.tail else l2) w2 t4 l4 w4/\
     ∀l5 w5,bw ([sB],l4,w4,it,())=some (l5,w5,it,())->aT (l,false,x,a,nm,b,c,d,e,ns,ps,it,())=aT (l5,w5,x,a,nm,b,c,d,e,ns++[n],ps++[t4],it,()):=by
     cases hb3:dF tV l2 with
     |false=>
      rw[hb3,XJ Up]at h3
      refine⟨l2,w2,t,?_,λl5 w5 h5=> ?_⟩
      ·rw[XJ Up];exact .ret _ _ _
      ·conv=>lhs;rw[aT]
       simp only[TY,T0,XG,XH,TZ,T7,T5,KD,aI,<-GD,hat,h1,h2,T_,ht,<-sn,h3,<-ri,h5,ht2]
     |true=>
      rw[hb3,XK rfl]at h3
      rw[XK rfl]
      have g2:tU l2.tail:=hg.suf (((VW l2).trans m2.suf).trans m1.suf)
      have h4:=RQ l2.tail g2 w2 it
      have m4:=Sim.num l2.tail w2 (pV (hd l2.tail)) λ_=>rfl
      have hvb:eS (hd l2.tail)=true->0<=pV (hd l2.tail)/\pV (hd l2.tail)<1000000000:=by
       intro h
       rcases xU g2 with e|e
       ·rw[e]at h;cases h
       ·exact Ic e.1 h
      obtain⟨v,hv⟩:∃v,pV (hd l2.tail)=v:=⟨_,rfl⟩
      obtain⟨l4,hl4⟩:∃l4,cw l2.tail=l4:=⟨_,rfl⟩
      obtain⟨w4,hw4⟩:∃w4,(w2|| !eS (hd l2.tail))=w4:=⟨_,rfl⟩
      rw[hv]at hvb
      rw[hv,hl4,hw4]at h4 m4
      obtain⟨l6,w6,h6,m6⟩:=f154 [L9] (by simp[JK]) (by simp) l4 (w4||decide (v<1)) it
      refine⟨l6,w6,aa.mk 5 v false [t],?_,λl5 w5 h5=> ?_⟩
      ·have hst:Sim (nay (decide (v<1)||decide (v>iO))) l4 w4 () l4 (w4||decide (v<1)):=by
        refine(Sim.nay _ _ _).strict (λh=> ?_) λh=> ?_
        ·cases hw4':w4 with
         |true=>rfl
         |false=>
          rw[hw4',UD]at h
          have hno:eS (hd l2.tail)=true:=by
           rw[hw4']at hw4
           cases hq:eS (hd l2.tail)with
           |true=>rfl
           |false=>rw[hq]at hw4;cases w2<;>cases hw4
          have:=hvb hno
          have h2:decide (v>iO)=false:=decide_eq_false (by unfold iO;omega)
          rw[h2,Vc]at h
          rw[h];rfl
        ·cases w4 with
         |true=>rfl
         |false=>rw[UD]at h⊢;rw[h];rfl
       unfold wI
       rw[XK rfl]
       exact m4.bnd (hst.bnd (m6.bnd (.ret _ _ _)))
      ·conv=>lhs;rw[aT]
       simp only[TY,T0,XG,XH,TZ,T7,T5,KD,aI,<-GD,hat,h1,h2,T_,ht,<-sn,h3,h4]
       cases w4 with
       |true=>
        rw[UJ]at h6
        simp only[TY,T0,XG,XH,TZ,T7,T5,<-wl,h6,<-ri,h5,ht2]
       |false=>
        rw[UD]at h6
        simp only[TY,T0,XG,XH,TZ,T7,T5,<-wl,h6,<-ri,h5,ht2]
    obtain⟨l4,w4,t4,m4,harr⟩:=arr
    obtain⟨l5,w5,h5,m5⟩:=f154 [sB] (by simp[G9]) (by simp) l4 w4 it
    have hpart:Sim (j9 it iO) l false (t4,n) l5 w5:=m1.bnd (m2.bnd (m3.bnd (m4.bnd (m5.bnd (.ret _ _ _)))))
    have hnative:=harr l5 w5 h5
    have hl5:=hpart.len
    have hlt:w5=true\/l5.length<l.length:=by
     cases w5 with
     |true=>exact .inl rfl
     |false=>exact .inr (hpart.lt (Ltp.part it iO))
    rcases Decidable.em (w5=true)with hw5|hw5
    ·subst hw5
     refine⟨ns++[n],ps++[t4],l5,true,?_,by rw[Uh,T_];omega,hpart.suf,λk hk=> ?_⟩
     ·rw[hnative,aT]
      simp only[TY,T0,XG,XH,TZ,T7,T5]
     ·obtain⟨k,rfl⟩:∃j,k=j+1:=⟨k-1,by omega⟩
      refine(hpart.bnd (q:=λp=>bK it iO k (ns++[p.2]) (ps++[p.1])) (Sim.any _ (Ux _))).congr (by conv=>lhs;unfold bK;rw[hc,XJ Up])
    ·have hlt:l5.length<l.length:=by rcases hlt with h|h;exact(hw5 h).elim;exact h
     obtain⟨ns',ps',l',w',i1,i2,i3,i4⟩:=ih l5 w5 (ns++[n]) (ps++[t4]) (hg.suf hpart.suf) (.inr (by omega)) (by simp only[Uh,T_];omega) (by simp only[Uh,T_];omega)
     refine⟨ns',ps',l',w',by rw[hnative,i1],?_,i3.trans hpart.suf,λk hk=> ?_⟩
     ·rw[Uh,T_]at i2;omega
     ·obtain⟨k,rfl⟩:∃j,k=j+1:=⟨k-1,by omega⟩
      exact(hpart.bnd (q:=λp=>bK it iO k (ns++[p.2]) (ps++[p.1])) (i4 k (by omega))).congr (by conv=>lhs;unfold bK;rw[hc,XJ Up])
theorem f124(it:List Item)(hi:eN it)(l:List BA)(hg:tU l)(hl:l.length<=1000000)(w:Bool):∃l' w' x,ft (l,w,it,())=some (l',w',it,x,())/\Sim (bnd (dK it iO) (fresh it 2)) l w x l' w':=by
 have hlen:=hi.len
 obtain⟨l1,w1,h1,m1⟩:=f154 [bH] (by simp[gA]) (by simp) l w it
 have h2:=DS l1 w1 it
 have m2:=Sim.name l1 w1
 obtain⟨n,hn⟩:∃n,hd l1=n:=⟨_,rfl⟩
 obtain⟨l2,hl2⟩:∃l2,cw l1=l2:=⟨_,rfl⟩
 obtain⟨w2,hw2⟩:∃w2,(w1|| !bR n)=w2:=⟨_,rfl⟩
 rw[hn,hl2,hw2]at h2 m2
 obtain⟨l3,w3,h3,m3⟩:=f154 [oB] (by simp[OP]) (by simp) l2 w2 it
 have s123:=(m3.suf.trans m2.suf).trans m1.suf
 have hlen3:=s123.length_le
 obtain⟨ns,ps,l4,w4,h4,hns,_,m4⟩:=PG it hi (Item.mk 0 (T3 #[]) 0 [] (aa.mk 0 0 false [])) 2 n 0 6 0 false _ l3 w3 [] [] (hg.suf s123) (.inr (Us _)) (by simp only[Uw];omega) (by simp only[Uw];omega)
 have m4:=Sim.fuel (p:=λk=>bK it iO k [] []) (m4 _ (Wf _))
 rw[Uw]at hns
 obtain⟨l5,w5,h5,m5⟩:=f154 [cB,sB] (by simp[H_,G9]) (by simp) l4 w4 it
 have main0:Sim (dK it iO) l w (Item.mk 2 n 0 ns (aa.mk 6 0 false ps)) l5 (w5||(ns.isEmpty||jC ns)):=by unfold dK;exact m1.bnd (m2.bnd (m3.bnd (m4.bnd (m5.bnd ((Sim.nay _ _ _).bnd (.ret _ _ _))))))
 have main1:Sim (fresh it 2 (Item.mk 2 n 0 ns (aa.mk 6 0 false ps))) l5 (w5||(ns.isEmpty||jC ns)) (Item.mk 2 n 0 ns (aa.mk 6 0 false ps)) l5 (w5||(ns.isEmpty||jC ns)||fm it 2 n):=(Sim.nay _ _ _).bnd (.ret _ _ _)
 have main:=main0.bnd main1
 refine⟨l5,_,_,?_,main⟩
 have h6:=KC 2 n it (by omega)
 have h7:=f160 ns (by omega)
 have hz:((ns.length:Int)==0)=ns.isEmpty:=by
  cases ns with
  |nil=>rfl
  |cons y r=>exact beq_eq_false_iff_ne.2 (by rw[Ui];omega)
 rw[ft]
 simp only[<-gZ,<-OY,<-GD,<-ri,h1,h2,h3,h4,h5,TY,T0,XG,XH,TZ,T7,T5,hz]
 cases w5 with
 |true=>simp only[TY,T0,XG,XH,TZ,T7,T5,UJ]
 |false=>
  cases he:ns.isEmpty with
  |true=>simp only[TY,T0,XG,XH,TZ,T7,T5,UJ,Ve]
  |false=>
   cases hd:jC ns with
   |true=>simp only[TY,T0,XG,XH,TZ,T7,T5,h7,hd,Ve,UJ]
   |false=>simp only[TY,T0,XG,XH,TZ,T7,T5,h6,h7,hd,UD,Vc]
def Fs(it:List Item):Nat->List BA->List aa->Ps (List BA×List aa)
 |0,_,_=>λ_=>none
 |k+1,ns,ps=>bnd (qZ it false) λt=>bnd dM λn=>bnd (vH ck) λc=>if c=true then Fs it k (ns++[n]) (ps++[t])else ret (ns++[n],ps++[t])
def wi:List BA->Bool
 |a::b::_=>decide (a=cv)&&decide (b=dz)
 |_=>false
def ko(it:List Item):Ps (List BA×List aa):=λl=>if wi l=true then some (([],[]),l.tail)else Fs it (l.length+1) [] [] l
def xH(it:List Item):Ps Item:=bnd (qZ it true) λt=>bnd dM λn=>bnd (cy [zh]) λ_=>bnd (ko it) λp=>bnd (cy [dz,sB]) λ_=>
 bnd (nay (jC p.1)) λ_=>ret (Item.mk 3 n 0 p.1 (aa.mk 6 0 false (p.2++[t])))
theorem PH(it:List Item)(hi:eN it)(x:Item)(y:aa)(a:Int)(nm:BA)(b c d:Int)(e:Bool):∀(m:Nat) (l:List BA) (w:Bool) (ns:List BA) (ps:List aa),l.length<=m->ns.length+l.length<=10000000->ps.length+l.length<=10000000->
 ∃ns' ps' l' w',cb (l,w,x,y,a,nm,b,c,d,e,ns,ps,it,())=some (l',w',x,y,a,nm,b,c,d,e,ns',ps',it,())/\ns'.length<=ns.length+l.length+1/\ps'.length<=ps.length+l.length+1/\l'<:+l/\∀k,l.length<k->Sim (Fs it k ns ps) l w (ns',ps') l' w':=by
 intro m
 induction m with
 |zero=>
  intro l w ns ps hl hb hb2
  have hl0:l=[]:=U8.1 (by omega)
  subst hl0
  obtain⟨l1,w1,t,h1,m1⟩:=f163 it hi false [] w
  have hl1:l1=[]:=U8.1 (by have:=m1.len;simpa using this)
  subst hl1
  have hn:bR (hd [])=false:=rfl
  have m2:=Sim.name [] w1
  have m3:=Sim.may ck [] (w1|| !bR (hd []))
  have ht:ns.length+1<=4294967296:=by omega
  have ht2:ps.length+1<=4294967296:=by omega
  refine⟨ns++[e0],ps++[t],[],w1|| !bR (hd []),?_,by simp,by simp,Ux _,λk hk=> ?_⟩
  ·have ha:dF ck []=false:=rfl
   have hdw:cw []=[]:=rfl
   rw[cb]
   simp only[h1,DS,hdw,<-dI,f156 ck gf,ha,TY,T0,XG,XH,TZ,T7,T5,T_,ht,ht2]
   rfl
  ·obtain⟨k,rfl⟩:∃j,k=j+1:=⟨k-1,by omega⟩
   exact m1.bnd (m2.bnd (m3.bnd (.ret _ _ _)))
 |succ m ih=>
  intro l w ns ps hl hb hb2
  obtain⟨l1,w1,t,h1,m1⟩:=f163 it hi false l w
  have h2:=DS l1 w1 it
  have m2:=Sim.name l1 w1
  obtain⟨n,hn⟩:∃n,hd l1=n:=⟨_,rfl⟩
  obtain⟨l2,hl2⟩:∃l2,cw l1=l2:=⟨_,rfl⟩
  obtain⟨w2,hw2⟩:∃w2,(w1|| !bR n)=w2:=⟨_,rfl⟩
  rw[hn,hl2,hw2]at h2 m2
  have hlen2:=U4 m2.len m1.len
  have h3:=f156 ck gf l2 w2 it
  have m3:=Sim.may ck l2 w2
  have ht:ns.length+1<=4294967296:=by omega
  have ht2:ps.length+1<=4294967296:=by omega
  cases hb3:dF ck l2 with
  |false=>
   rw[hb3,XJ Up]at h3 m3
   refine⟨ns++[n],ps++[t],l2,w2,?_,by rw[Uh,T_];omega,by rw[Uh,T_];omega,m2.suf.trans m1.suf,λk hk=> ?_⟩
   ·rw[cb]
    simp only[h1,h2,<-dI,h3,TY,T0,XG,XH,TZ,T7,T5,T_,ht,ht2]
   ·obtain⟨k,rfl⟩:∃j,k=j+1:=⟨k-1,by omega⟩
    exact m1.bnd (m2.bnd (m3.bnd (.ret _ _ _)))
  |true=>
   rw[hb3,XK rfl]at h3 m3
   have htl:=jw hb3
   obtain⟨ns',ps',l',w',i1,i2,i2',i3,i4⟩:=ih l2.tail w2 (ns++[n]) (ps++[t]) (by omega) (by rw[Uh,T_];omega) (by rw[Uh,T_];omega)
   refine⟨ns',ps',l',w',?_,by rw[Uh,T_]at i2;omega,by rw[Uh,T_]at i2';omega,i3.trans ((VW l2).trans (m2.suf.trans m1.suf)),λk hk=> ?_⟩
   ·rw[cb]
    simp only[h1,h2,<-dI,h3,TY,T0,XG,XH,TZ,T7,T5,T_,ht,ht2]
    exact i1
   ·obtain⟨k,rfl⟩:∃j,k=j+1:=⟨k-1,by omega⟩
    exact m1.bnd (m2.bnd (m3.bnd (i4 k (by omega))))
theorem wj{l:List BA}(h:wi l=true):∃r,l=cv::dz::r:=by
 match l,h with
 |a::b::r,h=>
  unfold wi at h
  rw[Uk,XI,XI]at h
  exact⟨r,by rw[h.1,h.2]⟩
theorem f125(it:List Item)(hi:eN it)(l:List BA)(hl:l.length<=1000000)(w:Bool):∃l' w' x,dS (l,w,it,())=some (l',w',it,x,())/\Sim (bnd (xH it) (fresh it 3)) l w x l' w':=by
 have hlen:=hi.len
 obtain⟨l1,w1,t,h1,m1⟩:=f163 it hi true l w
 have h2:=DS l1 w1 it
 have m2:=Sim.name l1 w1
 obtain⟨n,hn⟩:∃n,hd l1=n:=⟨_,rfl⟩
 obtain⟨l2,hl2⟩:∃l2,cw l1=l2:=⟨_,rfl⟩
 obtain⟨w2,hw2⟩:∃w2,(w1|| !bR n)=w2:=⟨_,rfl⟩
 rw[hn,hl2,hw2]at h2 m2
 obtain⟨l3,w3,h3,m3⟩:=f154 [zh] (by simp[E_]) (by simp) l2 w2 it
 have hlen3:=U4 (U4 m3.len m2.len) m1.len
 have args:∃ns ps l4 w4,Sim (ko it) l3 w3 (ns,ps) l4 w4/\ns.length<=2000000/\ps.length<=2000000/\∀l5 w5,bw ([dz,sB],l4,w4,it,())=some (l5,w5,it,())->
  dS (l,w,it,())=some (l5,w5||jC ns||fm it 3 n,it,Item.mk 3 n 0 ns (aa.mk 6 0 false (ps++[t])),()):=by
  cases hv:wi l3 with
  |true=>
   obtain⟨r,rfl⟩:=wj hv
   refine⟨[],[],dz::r,w3,?_,by simp,by simp,λl5 w5 h5=> ?_⟩
   ·refine⟨WJ _ _,id,λhw b r' hb=> ?_,λhw hb=> ?_⟩
    ·unfold ko at hb;rw[hv,XK rfl]at hb;cases hb;exact⟨hw,rfl,rfl⟩
    ·unfold ko at hb;rw[hv,XK rfl]at hb;cases hb
   ·have c1:¬(((cv::dz::r).length:Int)<2):=by simp only[Ui];omega
    have c2:(cv::dz::r)[U6 0]?=some cv:=rfl
    have c3:(cv::dz::r)[U6 1]?=some dz:=rfl
    have c4:hd (cv::dz::r)=cv:=rfl
    have c5:cw (cv::dz::r)=dz::r:=rfl
    have h7:=f160 [] (by simp)
    have h8:jC []=false:=rfl
    have h6:=KC 3 n it (by omega)
    rw[dS]
    simp only[h1,h2,<-tS,h3,TY,T0,XG,XH,TZ,T7,T5,c1,c2,c3,XN,aI,<-jA,<-tT,XM,G7,c5,<-ri,h5,Uw,T_,show(0+1<=4294967296)=True by simp]
    cases w5 with
    |true=>simp only[TY,T0,XG,XH,TZ,T7,T5,UJ]
    |false=>simp only[TY,T0,XG,XH,TZ,T7,T5,h7,h8,h6,UD]
  |false=>
   obtain⟨ns,ps,l4,w4,h4,hns,hps,_,m4⟩:=PH it hi (Item.mk 0 (T3 #[]) 0 [] (aa.mk 0 0 false [])) t 3 n 0 6 0 false _ l3 w3 [] [] (Us _) (by simp only[Uw];omega) (by simp only[Uw];omega)
   rw[Uw]at hns hps
   refine⟨ns,ps,l4,w4,(m4 _ (Wf _)).congr (by unfold ko;rw[hv,XJ Up]),by omega,by omega,λl5 w5 h5=> ?_⟩
   have ht2:ps.length+1<=4294967296:=by omega
   have h7:=f160 ns (by omega)
   have h6:=KC 3 n it (by omega)
   rw[dS]
   simp only[h1,h2,<-tS,h3,TY,T0,XG,XH,TZ,T7,T5,aI,<-jA,<-tT]
   have fin:(if w5=true then some ((l5,true,Item.mk 0 (T3 #[]) 0 [] (aa.mk 0 0 false []),(3:Int),n,(0:Int),(6:Int),(0:Int),false,ns,ps++[t],it,()):List BA×Bool×Item×Int×BA×Int×Int×Int×Bool×List BA×List aa×List Item×Unit)
    else(ye (ns,())).bind λx6=>if(!x6.1)=true then some (l5,true,Item.mk 0 (T3 #[]) 0 [] (aa.mk 0 0 false []),(3:Int),n,(0:Int),(6:Int),(0:Int),false,ns,ps++[t],it,())
     else(dy (3,n,it,())).bind λx7=>if x7.2.1.length=it.length then some (l5,x7.1,Item.mk 0 (T3 #[]) 0 [] (aa.mk 0 0 false []),(3:Int),n,(0:Int),(6:Int),(0:Int),false,ns,ps++[t],x7.2.1,())else none)
    =some (l5,w5||jC ns||fm it 3 n,Item.mk 0 (T3 #[]) 0 [] (aa.mk 0 0 false []),3,n,0,6,0,false,ns,ps++[t],it,()):=by
    cases w5 with
    |true=>simp only[TY,T0,XG,XH,TZ,T7,T5,UJ]
    |false=>
     cases hd:jC ns with
     |true=>simp only[TY,T0,XG,XH,TZ,T7,T5,h7,hd,UJ,UD]
     |false=>simp only[TY,T0,XG,XH,TZ,T7,T5,h7,hd,h6,UD]
   by_cases c1:((l3.length:Int)<2)
   ·simp only[c1,XM,TY,T0,XG,XH,TZ,T7,T5,h4,<-ri,h5,T_,ht2]
    simp only[fin,TY,T0,XG,XH,TZ,T7,T5]
   ·match l3,hv,c1 with
    |[],_,c1=>exact(c1 (by simp)).elim
    |[y],_,c1=>exact(c1 (by simp)).elim
    |y::z::r,hv,c1=>
     have c2:(y::z::r)[U6 0]?=some y:=rfl
     have c3:(y::z::r)[U6 1]?=some z:=rfl
     by_cases e1:y=cv
     ·have e2:¬z=dz:=λe2=>by
       have hv:(decide (y=cv)&&decide (z=dz))=false:=hv
       rw[decide_eq_true e1,decide_eq_true e2]at hv;cases hv
      subst e1
      simp only[c1,c2,c3,e2,XM,XN,TY,T0,XG,XH,TZ,T7,T5,h4,<-ri,h5,T_,ht2]
      simp only[fin,TY,T0,XG,XH,TZ,T7,T5]
     ·simp only[c1,c2,e1,XM,XN,TY,T0,XG,XH,TZ,T7,T5,h4,<-ri,h5,T_,ht2]
      simp only[fin,TY,T0,XG,XH,TZ,T7,T5]
 obtain⟨ns,ps,l4,w4,m4,hns,hps,harg⟩:=args
 obtain⟨l5,w5,h5,m5⟩:=f154 [dz,sB] (by simp[Fa,G9]) (by simp) l4 w4 it
 have main0:Sim (xH it) l w (Item.mk 3 n 0 ns (aa.mk 6 0 false (ps++[t]))) l5 (w5||jC ns):=by unfold xH;exact m1.bnd (m2.bnd (m3.bnd (m4.bnd (m5.bnd ((Sim.nay _ _ _).bnd (.ret _ _ _))))))
 have main1:Sim (fresh it 3 (Item.mk 3 n 0 ns (aa.mk 6 0 false (ps++[t])))) l5 (w5||jC ns) (Item.mk 3 n 0 ns (aa.mk 6 0 false (ps++[t]))) l5 (w5||jC ns||fm it 3 n):=(Sim.nay _ _ _).bnd (.ret _ _ _)
 exact⟨l5,_,_,harg l5 w5 h5,main0.bnd main1⟩
end Go.Proofs.YtpelkenpapfadaaGreatDoor
end
section
namespace Go.Proofs.YtpelkenpapfadaaGreatDoor
open Go.Tx
set_option maxRecDepth 20000
open Go.Lib
def jT(l:List BA)(w:Bool):BA:=if w=true then e0 else hd l
def cY(l:List BA)(w:Bool):List BA:=if w=true then l else cw l
theorem Ec(l:List BA)(w:Bool):cY l w<:+l:=by unfold cY;split;exact Ux l;exact lG l
theorem Hr(l:List BA)(w:Bool)(it:List Item):ez (l,w,it,())=some (jT l w,l,w,it,()):=by
 rw[ez]
 cases w with
 |true=>simp only[TY,T0,XG,XH,TZ,T7,T5];rfl
 |false=>
  cases l with
  |nil=>simp only[TY,T0,XG,XH,TZ,T7,T5];rfl
  |cons s r=>
   have:(((s::r).length:Int)==0)=false:=beq_eq_false_iff_ne.2 (by rw[Ui];omega)
   simp only[TY,T0,XG,XH,TZ,T7,T5,this];rfl
theorem f138(l:List BA)(w:Bool)(it:List Item):cW (l,w,it,())=some (jT l w,cY l w,w||decide (hd l=e0),it,()):=by
 have hx:(T3 #[])=e0:=rfl
 rw[cW]
 unfold cY cw
 cases w with
 |true=>
  have hs:jT l true=e0:=rfl
  simp only[Hr,TY,T0,XG,XH,TZ,T7,T5,hs,hx,aI,XM,UJ]
 |false=>
  have hs:jT l false=hd l:=rfl
  by_cases h:hd l=e0
  ·simp only[Hr,TY,T0,XG,XH,TZ,T7,T5,hs,hx,aI,h,XM,UD]
  ·have hl:(0:Int)<=1/\(1:Int)<=(l.length:Int)/\(l.length:Int)<=(l.length:Int):=by
    cases l with
    |nil=>exact(h rfl).elim
    |cons s r=>rw[Ui];omega
   simp only[Hr,TY,T0,XG,XH,TZ,T7,T5,hs,hx,aI,h,XN,UD,hl,and_self,T1,Kz]
theorem wD(s:BA)(hs:¬s=e0)(l:List BA)(w:Bool)(it:List Item):∃l' w',aQ (s,l,w,it,())=some (l',w',it,())/\Sim (pZ s) l w () l' w':=by
 rw[aQ]
 cases w with
 |true=>
  have h1:jT l true=e0:=rfl
  have h2:¬e0=s:=λe=>hs e.symm
  have h3:cY l true=l:=rfl
  refine⟨l,true,?_,Sim.any _ (Ux l)⟩
  simp only[f138,TY,T0,XG,XH,TZ,T7,T5,h1,h3,aI,h2,XN]
 |false=>
  have h1:jT l false=hd l:=rfl
  have h3:cY l false=cw l:=rfl
  have hat:=Bh hs l
  cases h:dF s l with
  |true=>
   rw[h]at hat
   obtain⟨r,rfl⟩:=jH h
   have h4:hd (s::r)=s:=rfl
   have h5:cw (s::r)=r:=by unfold cw;rw[XJ (show¬hd (s::r)=e0 from hs)];rfl
   refine⟨r,false,?_,?_⟩
   ·simp only[f138,TY,T0,XG,XH,TZ,T7,T5,h1,h3,h4,h5,aI,XM,hs,XN,UD]
   ·have:=Sim.want s (s::r) false
    rw[h,XK rfl]at this;exact this
  |false=>
   rw[h]at hat
   refine⟨cw l,true,?_,Sim.wrong _ (lG l) (by unfold pZ;rw[h,XJ Up])⟩
   simp only[f138,TY,T0,XG,XH,TZ,T7,T5,h1,h3,aI,hat]
theorem A_(l:List BA)(w:Bool)(it:List Item):bO (l,w,it,())=some (jT l w,cY l w,w|| !bR (hd l),it,()):=by
 have hx:(T3 #[])=e0:=rfl
 rw[bO]
 cases w with
 |true=>
  have h1:jT l true=e0:=rfl
  simp only[f138,TY,T0,XG,XH,TZ,T7,T5,h1,hx,aI,XM,UJ]
 |false=>
  have h1:jT l false=hd l:=rfl
  by_cases h:hd l=e0
  ·simp only[f138,TY,T0,XG,XH,TZ,T7,T5,h1,hx,aI,h,XM,pR,Ve]
  ·have hg:(hd l)[0]?=some ((hd l).data.toList.getD 0 0):=ba (jU h)
   rw[vx h]
   cases h2:xW (((hd l).data.toList.getD 0 0).toNat:Int)with
   |false=>simp only[f138,TY,T0,XG,XH,TZ,T7,T5,h1,hx,aI,h,XN,Vs,hg,f88,h2,Vx,Ve]
   |true=>
    cases h3:L8 (hd l)with
    |false=>simp only[f138,TY,T0,XG,XH,TZ,T7,T5,h1,hx,aI,h,XN,Vs,hg,f88,h2,f169,h3,Vg,Vc]
    |true=>simp only[f138,TY,T0,XG,XH,TZ,T7,T5,h1,hx,aI,h,XN,Vs,hg,f88,h2,f169,h3,Vg,Ve]
theorem Sim.nameR(l:List BA)(w:Bool):Sim dM l w (jT l w) (cY l w) (w|| !bR (hd l)):=by
 cases w with
 |true=>exact Sim.any _ (Ux l)
 |false=>exact Sim.name l false
def mayR(s:BA)(l:List BA)(w:Bool):Bool:= !w&&dF s l
theorem G6(s:BA)(hs:¬s=e0)(l:List BA)(w:Bool)(it:List Item):dT (s,l,w,it,())=some (mayR s l w,(if mayR s l w=true then l.tail else l),w,it,()):=by
 rw[dT]
 have h2:¬e0=s:=λe=>hs e.symm
 cases w with
 |true=>
  have h1:jT l true=e0:=rfl
  have h3:mayR s l true=false:=rfl
  simp only[Hr,TY,T0,XG,XH,TZ,T7,T5,h1,h3,aI,h2,XN]
 |false=>
  have h1:jT l false=hd l:=rfl
  have h3:mayR s l false=dF s l:=rfl
  have hat:=Bh hs l
  cases h:dF s l with
  |true=>
   obtain⟨r,rfl⟩:=jH h
   have h4:hd (s::r)=s:=rfl
   have h5:cY (s::r) false=r:=by unfold cY cw;rw[XJ Up,XJ (show¬hd (s::r)=e0 from hs)];rfl
   simp only[Hr,f138,TY,T0,XG,XH,TZ,T7,T5,h1,h3,h,h4,h5,hs,aI,XM,XN,Vc,WW]
  |false=>
   rw[h]at hat
   simp only[Hr,TY,T0,XG,XH,TZ,T7,T5,h1,h3,h,aI,hat]
theorem Sim.mayR(s:BA)(l:List BA)(w:Bool):Sim (vH s) l w (mayR s l w) (if mayR s l w=true then l.tail else l) w:=by
 cases w with
 |true=>exact Sim.any _ (Ux l)
 |false=>exact Sim.may s l false
theorem RP(l:List BA)(hg:tU l)(w:Bool)(it:List Item):∃v,gP (l,w,it,())=some (v,cY l w,w|| !eS (hd l),it,())/\Sim Lq l w v (cY l w) (w|| !eS (hd l))/\(w=false->eS (hd l)=true->v=pV (hd l)):=by
 have hx:(T3 #[])=e0:=rfl
 rw[gP]
 cases w with
 |true=>
  have h1:jT l true=e0:=rfl
  refine⟨0,?_,Sim.any _ (Ux l),λh=>by cases h⟩
  simp only[f138,TY,T0,XG,XH,TZ,T7,T5,h1,hx,aI,XM,UJ]
 |false=>
  have h1:jT l false=hd l:=rfl
  have h3:cY l false=cw l:=rfl
  cases hn:eS (hd l)with
  |false=>
   have hs:=Sim.num l false 0 (λh=>by rw[hn]at h;cases h)
   rw[hn]at hs
   refine⟨0,?_,hs,λ_ h=>by cases h⟩
   by_cases h:hd l=e0
   ·simp only[f138,TY,T0,XG,XH,TZ,T7,T5,h1,hx,aI,h,XM,Ve]
   ·have hgt:(hd l)[0]?=some ((hd l).data.toList.getD 0 0):=ba (jU h)
    rw[tu h]at hn
    cases h4:rW (((hd l).data.toList.getD 0 0).toNat:Int)with
    |false=>simp only[f138,TY,T0,XG,XH,TZ,T7,T5,h1,hx,aI,h,XN,Vs,hgt,f89,h4,Ve]
    |true=>
     rw[h4,Vg,decide_eq_false_iff_not]at hn
     have h5:((hd l).size:Int)>9:=by omega
     simp only[f138,TY,T0,XG,XH,TZ,T7,T5,h1,hx,aI,h,XN,XM,Vs,hgt,f89,h4,h5,Ve]
  |true=>
   have hs:=Sim.num l false (pV (hd l)) (λ_=>rfl)
   rw[hn]at hs
   refine⟨pV (hd l),?_,hs,λ_ _=>rfl⟩
   have h:¬hd l=e0:=λe=>by rw[e]at hn;cases hn
   have hgt:(hd l)[0]?=some ((hd l).data.toList.getD 0 0):=ba (jU h)
   rw[tu h,Uk,XI]at hn
   have h5:¬((hd l).size:Int)>9:=by omega
   obtain⟨er,h6,_⟩:=RS (hd l) (D2 hg)
   simp only[f138,TY,T0,XG,XH,TZ,T7,T5,h1,h3,hx,aI,h,XN,Vs,hgt,f89,hn.1,h5,h6,Vc]
theorem f48(it:List Item)(hl:it.length<=1000000000)(k:Int)(name:BA):fP (k,name,it,())=some (fm it k name,it,iP it k name,()):=by
 have h:=e_ (λj=>cL (k,name,(j:Int),it,zI,())) it (kn k name) (λj=>(true,it,it.getD j zI,())) (it,zI,()) (λj x hj hx=>by
  have g:(0:Int)<=(j:Int)/\(j:Int)<(it.length:Int):=by omega
  have hgd:it.getD j zI=x:=by rw[Uu,hx];rfl
  rw[cL]
  have hk:(if(x.kind==k)=true then some ((k,name,(j:Int),x.name0.toList==name.toList,it,zI,()):Int×BA×Int×Bool×List Item×Item×Unit)else some (k,name,(j:Int),false,it,zI,()))=some (k,name,(j:Int),kn k name x,it,zI,()):=by
   unfold kn;cases (x.kind==k)<;>simp[aI]
  simp only[TY,T0,XG,T9,T1,hj,g,and_self,XM,hx,hk,hgd]
  cases kn k name x<;>simp[aR (a:=j) (by omega)]) (by
  rw[cL]
  simp only[TY,T0,T8,XG,XH,TZ,T6,T1,T2,XL,XI,T9,V0,XN])
 have h:cL (k,name,0,it,zI,())=_:=h
 have hz:Item.mk 0 (T3 #[]) 0 [] (aa.mk 0 0 false [])=zI:=rfl
 rw[fP]
 simp only[hz,h,TY,T0,T8,XG,XH,TZ,T6,T1,T2,XL,XI,T9]
 unfold fm iP
 rw[<-hO,kW]
 unfold sM
 cases h2:it.findIdx? (kn k name)with
 |none=>rfl
 |some i=>
  have hi:i<it.length:=(V6.1 h2).1
  have c3:(i:Int)>=0:=by omega
  simp only[c3,XM,Uu,Ub hi,VF,T0]
theorem f134(it:List Item)(hl:it.length<=1000000000)(hn:mC it)(name:BA):Eu (it,name,())=some (gi it name,()):=by
 have inner (j:Nat) (x:Item) (hj:j<it.length) (hx:it[j]?=some x):fM (it,name,(j:Int),0,())=some (if inE name x=true then .inl (true,())else .inr (it,name,(j:Int),())):=by
  have hnx:=hn x (Un hx)
  unfold inE
  cases hk:(x.kind==1)with
  |false=>
   rw[fM]
   by_cases h0:(0:Int)<(x.names.length:Int)
   ·simp only[T2,T1,hx,TY,T0,XG,XH,TZ,T7,T5,h0,XM,hk,Vx]
   ·simp only[T2,T1,hx,TY,T0,XG,XH,TZ,T7,T5,h0,XN,hk,Vx]
  |true=>
   have h:=e_ (λk=>fM (it,name,(j:Int),(k:Int),())) x.names (λs=>decide (name=s)) (λ_=>(true,())) (it,name,(j:Int),()) (λk s hks hs=>by
    rw[fM]
    simp only[T2,T1,hx,TY,T0,XG,XH,TZ,T7,T5,T9,hks,XM,hk,hs,aI,aR (a:=k) (by omega),eq_comm (a:=s) (b:=name)]) (by
    rw[fM]
    simp only[T2,T1,hx,TY,T0,XG,XH,TZ,T7,T5,T9,V0,XN])
   have h:fM (it,name,(j:Int),0,())=_:=h
   rw[h,Vg,<-hO]
   unfold sM
   cases x.names.findIdx? _ with
   |none=>rfl
   |some i=>rw[decide_eq_true (show(i:Int)>=0 by omega)];rfl
 have h:=e_ (λj=>il (it,name,(j:Int),())) it (λx=>kn 0 name x||inE name x) (λ_=>(true,())) () (λj x hj hx=>by
  rw[il]
  have hk:(if(x.kind==0)=true then some ((it,name,(j:Int),x.name0.toList==name.toList,()):List Item×BA×Int×Bool×Unit)else some (it,name,(j:Int),false,()))=some (it,name,(j:Int),kn 0 name x,()):=by
   unfold kn;cases (x.kind==0)<;>simp[aI]
  simp only[T2,T1,TY,T0,XG,XH,TZ,T7,T5,T9,hj,XM,hx,hk]
  cases kn 0 name x with
  |true=>simp only[TY,T0,XG,XH,TZ,T7,T5,UJ]
  |false=>
   simp only[TY,T0,XG,XH,TZ,T7,T5,inner j x hj hx,UD]
   cases inE name x<;>simp[aR (a:=j) (by omega)]) (by
  rw[il]
  simp only[TY,T0,T8,XG,XH,TZ,T6,T1,T2,XL,XI,T9,V0,XN])
 have h:il (it,name,0,())=_:=h
 have ha:it.any (λx=>kn 0 name x||inE name x)=gi it name:=by
  unfold gi fm
  generalize it=l
  induction l with
  |nil=>rfl
  |cons x r ih=>simp only[Wk,ih];cases kn 0 name x<;>cases inE name x<;>simp
 rw[Eu]
 simp only[h,TY,T0,T8,XG,XH,TZ,T6,T1,T2,XL,XI,T9]
 rw[<-ha,<-hO]
 unfold sM
 cases it.findIdx? _ with
 |none=>rfl
 |some i=>rw[decide_eq_true (show(i:Int)>=0 by omega)]
theorem f135(ns:List BA)(hl:ns.length<=1000000000)(l:List BA)(w:Bool)(it:List Item):fu (ns,l,w,it,())=some (l,w||jC ns,it,()):=by
 have inner (i:Nat) (hi:i<ns.length):∀(m k:Nat) (w:Bool),i-k=m->k<=i->ce (ns,(i:Int),(k:Int),l,w,it,())=some (ns,(i:Int),l,w||((ns.take i).drop k).any (λs=>decide (ns.getD i e0=s)),it,()):=by
  intro m
  induction m with
  |zero=>
   intro k w hm hk
   have hlt:¬k<i:=by omega
   rw[ce]
   simp only[TY,T0,T8,XG,XH,TZ,T6,T1,T2,XL,XI,T9,hlt,XN,Vz (show(ns.take i).length<=k by rw[UU];omega),Xe,Vc]
  |succ m ih=>
   intro k w hm hk
   have hlt:k<i:=by omega
   have hdr:(ns.take i).drop k=ns.getD k e0::(ns.take i).drop (k+1):=by
    have hkl:k<(ns.take i).length:=by rw[UU];omega
    rw[VC hkl,List.getElem_take,Uu,Ub (by omega)];rfl
   rw[ce,hdr,Wk]
   simp only[T2,T1,TY,T0,XG,XH,TZ,T7,T5,T9,hlt,XM,xO hi,xO (show k<ns.length by omega),aI]
   by_cases he:ns.getD i e0=ns.getD k e0
   ·simp only[he,XM,TY,T0,XG,XH,TZ,T7,T5,aR (a:=k) (by omega)]
    have:=ih (k+1) true (by omega) (by omega)
    rw[he]at this
    rw[this];simp
   ·simp only[he,XN,TY,T0,XG,XH,TZ,T7,T5,aR (a:=k) (by omega),ih (k+1) w (by omega) (by omega),UD]
 have outer:∀(m i:Nat) (w:Bool),ns.length-i=m->i<=ns.length->cd (ns,(i:Int),l,w,it,())=some (l,w||G5 ns i m,it,()):=by
  intro m
  induction m with
  |zero=>
   intro i w hm hi
   have hlt:¬i<ns.length:=by omega
   rw[cd]
   simp only[TY,T0,T8,XG,XH,TZ,T6,T1,T2,XL,XI,T9,hlt,XN,G5,Vc]
  |succ m ih=>
   intro i w hm hi
   have hlt:i<ns.length:=by omega
   have h:=inner i hlt _ 0 w rfl (by omega)
   rw[UT]at h
   have h:ce (ns,(i:Int),0,l,w,it,())=_:=h
   rw[cd,G5]
   simp only[TY,T0,XG,XH,TZ,T7,T5,T9,hlt,XM,h,aR (a:=i) (by omega),ih (i+1) _ (by omega) (by omega),Xt]
 have h:=outer _ 0 w rfl (Vp _)
 have h:cd (ns,0,l,w,it,())=some (l,w||jC ns,it,()):=h
 rw[fu]
 simp only[h,TY,T0,XG,XH,TZ,T7,T5]
theorem MX(x:aa)(res:Bool)(it:List Item):∀(l:List BA) (v:Bool) (t:aa),bv (res,v,l,false,x,t,it,())=some (res,v&& !dF fV l,(stars t l).2,false,x,(stars t l).1,it,())
 |[],v,t=>by
  have ha:mayR fV [] false=false:=rfl
  have ha2:dF fV []=false:=rfl
  rw[bv]
  simp only[<-qA,G6 fV qn,ha,ha2,TY,T0,XG,XH,TZ,T7,T5,Wl];rfl
 |s::r,v,t=>by
  have ha:mayR fV (s::r) false=decide (s=fV):=by unfold mayR dF;rfl
  have ha2:dF fV (s::r)=decide (s=fV):=rfl
  rw[bv]
  simp only[<-qA,G6 fV qn,ha,ha2,TY,T0,XG,XH,TZ,T7,T5]
  by_cases h:s=fV
  ·rw[stars,XK h]
   simp only[h,XM,XG,WW,MX x res it r,Vx,TY,T0,XG,XH,TZ,T7,T5,Wt]
  ·rw[stars,XJ h]
   simp only[h,XN,TY,T0,XG,XH,TZ,T7,T5,Wl]
theorem MY(x:aa)(res:Bool)(it:List Item)(l:List BA)(v:Bool)(t:aa):bv (res,v,l,true,x,t,it,())=some (res,v,l,true,x,t,it,()):=by
 have ha:mayR fV l true=false:=rfl
 rw[bv]
 simp only[<-qA,G6 fV qn,ha,TY,T0,XG,XH,TZ,T7,T5]
theorem sm:∀(l:List BA) (t:aa) (v:Bool),v=(t.kind==0)->(v&& !dF fV l)=((stars t l).1.kind==0)
 |[],t,v,h=>by rw[show dF fV []=false from rfl,T5,Wl];exact h
 |s::r,t,v,h=>by
  have ha2:dF fV (s::r)=decide (s=fV):=rfl
  by_cases hs:s=fV
  ·rw[ha2,decide_eq_true hs,T7,Wt,stars,XK hs]
   exact sm r (aa.mk 3 0 false []) false rfl
  ·rw[ha2,decide_eq_false hs,T5,Wl,stars,XJ hs];exact h
abbrev Sf:=Bool×Bool×(List BA)×Bool×aa×aa×(List Item)×Unit
def Se(x4:Sf):Option ((List BA)×Bool×(List Item)×aa×Unit):=
 (if x4.2.2.2.1=true then
   some ((x4.2.2.1,true,x4.2.2.2.2.1,x4.2.2.2.2.2.1,x4.2.2.2.2.2.2.1,()))
   else if x4.2.1=true then
    some ((x4.2.2.1,!x4.1,x4.2.2.2.2.1,x4.2.2.2.2.2.1,x4.2.2.2.2.2.2.1,()))
   else some ((x4.2.2.1,false,x4.2.2.2.2.1,x4.2.2.2.2.2.1,x4.2.2.2.2.2.2.1,())))>>=λx5=>
 some ((x5.1,x5.2.1,x5.2.2.2.2.1,x5.2.2.2.1,()))
end Go.Proofs.YtpelkenpapfadaaGreatDoor
end
section
namespace Go.Proofs.YtpelkenpapfadaaGreatDoor
open Go.Tx
set_option maxRecDepth 20000
open Go.Lib
theorem uc1:¬nU=fh:=eI (by decide)
theorem Kb(res:Bool)(it:List Item)(hi:eN it)(l:List BA):∃v l2 w2 t,dw (res,l,false,it,())=(bv (res,v,l2,w2,z0,t,it,())).bind Se/\Sim (pY it) l false t l2 w2/\(w2=false->v=(t.kind==0)):=by
 have hlen:=hi.len
 have m1:=Sim.may nU l false
 have hat:=Bh wc l
 cases hu:dF nU l with
 |true=>
  rw[hu]at hat
  obtain⟨r,rfl⟩:=jH hu
  have h1:=f138 (nU::r) false it
  rw[show jT (nU::r) false=nU from rfl,show cY (nU::r) false=r from by unfold cY cw;rw[XJ Up,XJ (show¬hd (nU::r)=e0 from wc)];rfl,show(false||decide (hd (nU::r)=e0))=false from decide_eq_false wc]at h1
  rw[hu,XK rfl,show(nU::r).tail=r from rfl]at m1
  have m2:=Sim.word r false
  have h2:=f138 r false it
  rw[show jT r false=hd r from rfl,show cY r false=cw r from rfl]at h2
  obtain⟨s,hs⟩:∃s,hd r=s:=⟨_,rfl⟩
  obtain⟨l2,hl2⟩:∃l2,cw r=l2:=⟨_,rfl⟩
  have hsuf:l2<:+nU::r:=by rw[<-hl2];exact(lG r).trans (WJ _ _)
  rw[hs,hl2]at h2 m2
  rw[dw]
  simp only[<-Am,<-tQ,<-oC,<-Ak,<-tR,<-jA,<-gZ,<-nd,h1,h2,TY,T0,XG,XH,TZ,T7,T5,aI,XM]
  by_cases a1:s=fh
  ·refine⟨false,l2,false,aa.mk 2 8 false [],?_,?_,λ_=>rfl⟩
   ·simp only[a1,mI,uc1,lc1,vc1,tc1,ec1,UG lc1,UG vc1,UG tc1,UG ec1,XM,XN,TY,T0,XG,XH,TZ,T7,T5,Vc];rfl
   ·rw[eF]
    refine m1.bnd (m2.bnd ?_)
    rw[a1,qY false mI,dA,XK rfl];exact .ret _ _ _
  by_cases a2:s=dC
  ·refine⟨false,l2,false,aa.mk 2 16 false [],?_,?_,λ_=>rfl⟩
   ·simp only[a2,jD,sc1,UG ls1,UG vs1,UG ts1,UG es1,XM,XN,TY,T0,XG,XH,TZ,T7,T5,Vc];rfl
   ·rw[eF]
    refine m1.bnd (m2.bnd ?_)
    rw[a2,qY false jD,dA,XJ sc1,XK rfl];exact .ret _ _ _
  by_cases a3:s=rh
  ·refine⟨false,l2,false,aa.mk 2 32 false [],?_,?_,λ_=>rfl⟩
   ·simp only[a3,rP,ic1,is1,UG li1,UG vi1,UG ti1,UG ei1,XM,XN,TY,T0,XG,XH,TZ,T7,T5,Vc];rfl
   ·rw[eF]
    refine m1.bnd (m2.bnd ?_)
    rw[a3,qY false rP,dA,XJ ic1,XJ is1,XK rfl];exact .ret _ _ _
  have hnone:pY it (nU::r)=none:=by
   rw[eF]
   unfold bnd vH
   rw[hu,XK rfl]
   simp only[WW]
   cases hp:tA r with
   |none=>rfl
   |some x=>
    obtain⟨y,z⟩:=x
    have hy:=(Sim.word r false).ok rfl y z hp
    rw[hs]at hy
    simp only[<-hy.2.1]
    rw[dA,XJ a1,XJ a2,XJ a3];rfl
  by_cases b1:s=iS
  ·refine⟨false,l2,true,aa.mk 3 0 false [],?_,Sim.wrong _ hsuf hnone,λh=>by cases h⟩
   simp only[b1,lc1,ls1,li1,XM,XN,TY,T0,XG,XH,TZ,T7,T5];rfl
  by_cases b2:s=cv
  ·refine⟨true,l2,true,z0,?_,Sim.wrong _ hsuf hnone,λh=>by cases h⟩
   simp only[b2,vl1,vc1,vs1,vi1,XM,XN,TY,T0,XG,XH,TZ,T7,T5];rfl
  by_cases b3:s=bH
  ·refine⟨false,l2,true,(iP it 2 e0).layout,?_,Sim.wrong _ hsuf hnone,λh=>by cases h⟩
   simp only[b3,tl1,tv1,tc1,ts1,ti1,XM,XN,TY,T0,XG,XH,TZ,T7,T5,kV,A_,show jT l2 true=e0 from rfl,show cY l2 true=l2 from rfl,UJ,f48 it (show it.length<=1000000000 by omega),eta];rfl
  by_cases b4:s=gq
  ·refine⟨false,l2,true,aa.mk 2 32 true [],?_,Sim.wrong _ hsuf hnone,λh=>by cases h⟩
   simp only[b4,el1,ev1,et1,ec1,es1,ei1,XM,XN,TY,T0,XG,XH,TZ,T7,T5,kV,A_,show jT l2 true=e0 from rfl,show cY l2 true=l2 from rfl,UJ,f48 it (show it.length<=1000000000 by omega)];rfl
  ·refine⟨false,l2,true,z0,?_,Sim.wrong _ hsuf hnone,λh=>by cases h⟩
   simp only[a1,a2,a3,b1,b2,b3,b4,XM,XN,TY,T0,XG,XH,TZ,T7,T5];rfl
 |false=>
  rw[hu]at hat
  have hnu:¬hd l=nU:=of_decide_eq_false hat
  have h1:=f138 l false it
  rw[show jT l false=hd l from rfl,show cY l false=cw l from rfl,UD]at h1
  rw[hu,XJ Up]at m1
  have m2:=Sim.word l false
  rw[UD]at m2
  obtain⟨s,hs⟩:∃s,hd l=s:=⟨_,rfl⟩
  obtain⟨l2,hl2⟩:∃l2,cw l=l2:=⟨_,rfl⟩
  rw[hs,hl2]at h1 m2
  rw[hs]at hnu
  rw[dw]
  simp only[<-Am,<-tQ,<-oC,<-Ak,<-tR,<-jA,<-gZ,<-nd,h1,hnu,TY,T0,XG,XH,TZ,T7,T5,aI,XN]
  have rest:∀t w2,Sim (dA it false s) l2 (decide (s=e0)) t l2 w2->Sim (pY it) l false t l2 w2:=λt w2 h=>by rw[eF];exact m1.bnd (m2.bnd h)
  have rest':∀t l3 w2,Sim (dA it false s) l2 (decide (s=e0)) t l3 w2->Sim (pY it) l false t l3 w2:=λt l3 w2 h=>by rw[eF];exact m1.bnd (m2.bnd h)
  by_cases a1:s=fh
  ·refine⟨false,l2,false,aa.mk 2 8 true [],?_,rest _ _ ?_,λ_=>rfl⟩
   ·simp only[a1,mI,XM,XN,TY,T0,XG,XH,TZ,T7,T5];rfl
   ·rw[a1,decide_eq_false mI,dA,XK rfl];exact .ret _ _ _
  by_cases a2:s=dC
  ·refine⟨false,l2,false,aa.mk 2 16 true [],?_,rest _ _ ?_,λ_=>rfl⟩
   ·simp only[a2,sc1,jD,XM,XN,TY,T0,XG,XH,TZ,T7,T5];rfl
   ·rw[a2,decide_eq_false jD,dA,XJ sc1,XK rfl];exact .ret _ _ _
  by_cases a3:s=rh
  ·refine⟨false,l2,false,aa.mk 2 32 true [],?_,rest _ _ ?_,λ_=>rfl⟩
   ·simp only[a3,ic1,is1,rP,XM,XN,TY,T0,XG,XH,TZ,T7,T5];rfl
   ·rw[a3,decide_eq_false rP,dA,XJ ic1,XJ is1,XK rfl];exact .ret _ _ _
  have hR:dA it false s=bnd (nay false) λ_=>if s=iS then ret (aa.mk 3 0 false [])else if s=cv then ret z0
   else if s=bH then bnd dM λn=>bnd (nay (!fm it 2 n)) λ_=>ret (iP it 2 n).layout
   else if s=gq then bnd dM λn=>bnd (nay (!fm it 1 n)) λ_=>ret (aa.mk 2 32 true [])
   else bnd (nay true) λ_=>ret z0:=by rw[dA,XJ a1,XJ a2,XJ a3]
  rw[hR]at rest rest'
  have m3:=Sim.nay false l2 (decide (s=e0))
  rw[Vc]at m3
  by_cases b1:s=iS
  ·refine⟨false,l2,false,aa.mk 3 0 false [],?_,rest _ _ ?_,λ_=>rfl⟩
   ·simp only[b1,lc1,ls1,li1,sC,XM,XN,TY,T0,XG,XH,TZ,T7,T5];rfl
   ·rw[b1,decide_eq_false sC]at m3⊢
    refine m3.bnd ?_
    rw[XK rfl];exact .ret _ _ _
  by_cases b2:s=cv
  ·refine⟨true,l2,false,z0,?_,rest _ _ ?_,λ_=>rfl⟩
   ·simp only[b2,vl1,vc1,vs1,vi1,mK,XM,XN,TY,T0,XG,XH,TZ,T7,T5];rfl
   ·rw[b2,decide_eq_false mK]at m3⊢
    refine m3.bnd ?_
    rw[XJ vl1,XK rfl];exact .ret _ _ _
  have h155:=A_ l2 false it
  rw[show jT l2 false=hd l2 from rfl,show cY l2 false=cw l2 from rfl,UD]at h155
  have m4:=Sim.name l2 false
  rw[UD]at m4
  obtain⟨n,hn⟩:∃n,hd l2=n:=⟨_,rfl⟩
  obtain⟨l3,hl3⟩:∃l3,cw l2=l3:=⟨_,rfl⟩
  obtain⟨w3,hw3⟩:∃w3,(!bR n)=w3:=⟨_,rfl⟩
  rw[hn,hl3,hw3]at h155 m4
  by_cases b3:s=bH
  ·have m5:=Sim.nay (!fm it 2 n) l3 w3
   refine⟨false,l3,w3|| !fm it 2 n,(iP it 2 n).layout,?_,rest' _ _ _ ?_,λh=> ?_⟩
   ·simp only[b3,tl1,tv1,tc1,ts1,ti1,gA,XM,XN,TY,T0,XG,XH,TZ,T7,T5,kV,h155,f48 it (show it.length<=1000000000 by omega),eta]
    cases w3 with
    |true=>simp only[TY,T0,XG,XH,TZ,T7,T5,UJ];rfl
    |false=>simp only[TY,T0,XG,XH,TZ,T7,T5,UD];rfl
   ·rw[b3,decide_eq_false gA]at m3⊢
    refine m3.bnd ?_
    rw[XJ tl1,XJ tv1,XK rfl]
    exact m4.bnd (m5.bnd (.ret _ _ _))
   ·rw[UY,Bool.not_eq_false']at h
    rcases sJ it 2 n with⟨_,e⟩|⟨e1,e2,_⟩
    ·rw[e]at h;exact(Up h.2).elim
    ·have:=hi.str _ e1 e2;rw[this];rfl
  by_cases b4:s=gq
  ·have m5:=Sim.nay (!fm it 1 n) l3 w3
   refine⟨false,l3,w3|| !fm it 1 n,aa.mk 2 32 true [],?_,rest' _ _ _ ?_,λh=>rfl⟩
   ·simp only[b4,el1,ev1,et1,ec1,es1,ei1,mJ,XM,XN,TY,T0,XG,XH,TZ,T7,T5,kV,h155,f48 it (show it.length<=1000000000 by omega)]
    cases w3 with
    |true=>simp only[TY,T0,XG,XH,TZ,T7,T5,UJ];rfl
    |false=>simp only[TY,T0,XG,XH,TZ,T7,T5,UD];rfl
   ·rw[b4,decide_eq_false mJ]at m3⊢
    refine m3.bnd ?_
    rw[XJ el1,XJ ev1,XJ et1,XK rfl]
    exact m4.bnd (m5.bnd (.ret _ _ _))
  ·refine⟨false,l2,true,z0,?_,rest _ _ ?_,λh=>by cases h⟩
   ·simp only[a1,a2,a3,b1,b2,b3,b4,XM,XN,TY,T0,XG,XH,TZ,T7,T5];rfl
   ·refine m3.bnd ?_
    rw[XJ b1,XJ b2,XJ b3,XJ b4]
    have:=(Sim.nay true l2 (decide (s=e0))).bnd (q:=λ_=>ret z0) (.ret z0 _ _)
    rw[Ve]at this;exact this
theorem f137(it:List Item)(hi:eN it)(res:Bool)(l:List BA)(w:Bool):∃l' w' t,dw (res,l,w,it,())=some (l',w',it,t,())/\Sim (qZ it res) l w t l' w':=by
 cases w with
 |true=>
  have h1:=f138 l true it
  rw[show jT l true=e0 from rfl,show cY l true=l from rfl,UJ]at h1
  refine⟨l,true,z0,?_,Sim.any _ (Ux l)⟩
  rw[dw]
  simp only[<-Am,<-tQ,<-oC,<-Ak,<-tR,<-jA,<-gZ,<-nd,h1,TY,T0,XG,XH,TZ,T7,T5,aI,UG wc,UG mI,UG jD,UG rP,UG sC,UG mK,UG gA,UG mJ,XN,MY]
  rfl
 |false=>
  obtain⟨v,l2,w2,t,h1,m1,h2⟩:=Kb res it hi l
  cases w2 with
  |true=>
   refine⟨l2,true,t,?_,m1.bnd (q:=λt=>bnd (zU t) λt=>bnd (nay (t.kind==0&& !res)) λ_=>ret t) (Sim.any _ (Ux l2))⟩
   rw[h1,MY];rfl
  |false=>
   have hk:=sm l2 t v (h2 rfl)
   have m2:=Sim.stars t l2 false
   refine⟨(stars t l2).2,(stars t l2).1.kind==0&& !res,(stars t l2).1,?_,m1.bnd (m2.bnd ((Sim.nay _ _ _).bnd (.ret _ _ _)))⟩
   rw[h1,MX,hk]
   cases ((stars t l2).1.kind==0)<;>rfl
theorem Sh(it:List Item)(hi:eN it)(l:List BA)(hg:tU l)(w:Bool):∃l' w' x,gM (l,w,it,())=some (l',w',it,x,())/\Sim (oZ it) l w x l' w':=by
 have hlen:=hi.len
 obtain⟨l0,w0,h0,m0⟩:=wD rg E8 l w it
 obtain⟨l1,w1,h1,m1⟩:=wD gp vz l0 w0 it
 have g1:=(hg.suf m0.suf).suf m1.suf
 have h2:=A_ l1 w1 it
 have m2:=Sim.nameR l1 w1
 obtain⟨n,hn⟩:∃n,jT l1 w1=n:=⟨_,rfl⟩
 obtain⟨l2,hl2⟩:∃l2,cY l1 w1=l2:=⟨_,rfl⟩
 obtain⟨w2,hw2⟩:∃w2,(w1|| !bR (hd l1))=w2:=⟨_,rfl⟩
 rw[hn,hl2,hw2]at h2 m2
 have g2:=g1.suf m2.suf
 have h3:=G6 jy zP l2 w2 it
 have m3:=Sim.mayR jy l2 w2
 obtain⟨b,hb⟩:∃b,mayR jy l2 w2=b:=⟨_,rfl⟩
 obtain⟨l3,hl3⟩:∃l3,(if mayR jy l2 w2=true then l2.tail else l2)=l3:=⟨_,rfl⟩
 rw[hl3]at h3 m3
 rw[hb]at h3 m3
 have g3:=g2.suf m3.suf
 obtain⟨v,h4,m4,_⟩:=RP l3 g3 w2 it
 obtain⟨l4,hl4⟩:∃l4,cY l3 w2=l4:=⟨_,rfl⟩
 obtain⟨w4,hw4⟩:∃w4,(w2|| !eS (hd l3))=w4:=⟨_,rfl⟩
 rw[hl4,hw4]at h4 m4
 have m01:Sim (cy [rg,gp]) l w () l1 w1:=m0.bnd (m1.bnd (.ret _ _ _))
 refine⟨l4,w4||gi it n,Item.mk 0 n (KM b v) [] z0,?_,m01.bnd (m2.bnd (m3.bnd (m4.bnd ((Sim.nay _ _ _).bnd (.ret _ _ _)))))⟩
 have h5:=f134 it (by omega) hi.nm n
 rw[gM]
 simp only[<-GE,<-wk,<-Al,h0,h1,h2,h3,h4,TY,T0,XG,XH,TZ,T7,T5]
 cases b<;>cases w4<;>simp only[TY,T0,XG,XH,TZ,T7,T5,h5,UJ,UD]<;>rfl
theorem Gy{a b:BA}{l l0 l1:List BA}{w w0 w1:Bool}(m0:Sim (pZ a) l w () l0 w0)(m1:Sim (pZ b) l0 w0 () l1 w1):Sim (cy [a,b]) l w () l1 w1:=m0.bnd (m1.bnd (.ret _ _ _))
theorem qz{a:BA}{l l0:List BA}{w w0:Bool}(m0:Sim (pZ a) l w () l0 w0):Sim (cy [a]) l w () l0 w0:=m0.bnd (.ret _ _ _)
theorem El{s:BA}{l:List BA}{w:Bool}(h:mayR s l w=true):w=false/\dF s l=true:=by
 unfold mayR at h;rw[Uk,VP]at h;exact h
theorem PB(it:List Item)(x:Item)(a:Int)(nm:BA)(b c d:Int)(e:Bool)(ps:List aa):∀(m:Nat) (l:List BA) (w:Bool) (acc:List BA),l.length<=m->acc.length+l.length<=10000000->
 ∃ns l' w',b_ (l,w,x,a,nm,b,c,d,e,it,acc,ps,())=some (l',w',x,a,nm,b,c,d,e,it,ns,ps,())/\ns.length<=acc.length+l.length+1/\l'<:+l/\
  ∀k,l.length<k->Sim (bnd (vH ck) λc=>if c=true then mr k acc else ret acc) l w ns l' w':=by
 intro m
 induction m with
 |zero=>
  intro l w acc hl hb
  have hl0:l=[]:=U8.1 (by omega)
  subst hl0
  have ha:mayR ck [] w=false:=by cases w<;>rfl
  have h3:=G6 ck gf [] w it
  have m3:=Sim.mayR ck [] w
  rw[ha,XJ Up]at h3 m3
  refine⟨acc,[],w,?_,by omega,Ux _,λk hk=>m3.bnd (.ret _ _ _)⟩
  rw[b_]
  simp only[<-dI,h3,TY,T0,XG,XH,TZ,T7,T5]
 |succ m ih=>
  intro l w acc hl hb
  have h3:=G6 ck gf l w it
  have m3:=Sim.mayR ck l w
  cases hb2:mayR ck l w with
  |false=>
   rw[hb2,XJ Up]at h3 m3
   refine⟨acc,l,w,?_,by omega,Ux _,λk hk=>m3.bnd (.ret _ _ _)⟩
   rw[b_]
   simp only[<-dI,h3,TY,T0,XG,XH,TZ,T7,T5]
  |true=>
   rw[hb2,XK rfl]at h3 m3
   obtain⟨rfl,hat⟩:=El hb2
   have htl:=jw hat
   have h2:=A_ l.tail false it
   have m2:=Sim.nameR l.tail false
   obtain⟨n,hn⟩:∃n,jT l.tail false=n:=⟨_,rfl⟩
   obtain⟨l2,hl2⟩:∃l2,cY l.tail false=l2:=⟨_,rfl⟩
   obtain⟨w2,hw2⟩:∃w2,(false|| !bR (hd l.tail))=w2:=⟨_,rfl⟩
   rw[hn,hl2,hw2]at h2 m2
   have hlen2:=m2.len
   have ht:acc.length+1<=4294967296:=by omega
   obtain⟨ns,l',w',i1,i2,i3,i4⟩:=ih l2 w2 (acc++[n]) (by omega) (by rw[Uh,T_];omega)
   refine⟨ns,l',w',?_,by rw[Uh,T_]at i2;omega,i3.trans (m2.suf.trans (VW l)),λk hk=> ?_⟩
   ·rw[b_]
    simp only[<-dI,h3,h2,TY,T0,XG,XH,TZ,T7,T5,T_,ht]
    exact i1
   ·obtain⟨k,rfl⟩:∃j,k=j+1:=⟨k-1,by omega⟩
    refine m3.bnd ?_
    rw[XK rfl]
    exact m2.bnd (i4 k (by omega))
theorem mW:∀(k j:Nat) (l:List BA) (acc:List BA),l.length<k->l.length<j->mr k acc l=mr j acc l
 |0,j,l,acc,h,_=>by omega
 |k+1,0,l,acc,_,h=>by omega
 |k+1,j+1,l,acc,h1,h2=>by
  show bnd dM _ l=bnd dM _ l
  unfold bnd
  cases hp:dM l with
  |none=>rfl
  |some x=>
   obtain⟨a,r⟩:=x
   have hr:=Ltp.name l a r hp
   simp only
   unfold vH
   simp only
   cases hc:dF ck r with
   |false=>rfl
   |true=>
    have:=jw hc
    simp only[XG]
    exact mW k j r.tail (acc++[a]) (by omega) (by omega)
theorem PC(it:List Item)(hi:eN it)(x:Item)(a:Int)(nm:BA)(b c d:Int)(e:Bool)(ps:List aa)(ns:List BA)(hns:ns.length<=2000000)(l:List BA):∀(m i:Nat) (w:Bool),ns.length-i=m->
 bN ((i:Int),l,w,x,a,nm,b,ns,c,d,e,it,ps,())=some (l,w||(ns.drop i).any (gi it),x,a,nm,b,ns,c,d,e,it,ps,()):=by
 intro m
 have hlen:=hi.len
 induction m with
 |zero=>
  intro i w hm
  have hlt:¬i<ns.length:=by omega
  rw[bN]
  simp only[TY,T0,XG,XH,TZ,T7,T5,T9,hlt,XN,eX hlt,Xe,Vc]
 |succ m ih=>
  intro i w hm
  have hlt:i<ns.length:=by omega
  obtain⟨s,hp,hpm,hdr,g1,g2⟩:=eg hlt
  rw[bN,hdr,Wk]
  cases w with
  |true=>simp only[TY,T0,XG,XH,TZ,T7,T5,T9,hlt,XM,aR (a:=i) (by omega),ih (i+1) true (by omega),UJ]
  |false=>simp only[TY,T0,XG,XH,TZ,T7,T5,T9,hlt,XM,T2,T1,hp,f134 it (show it.length<=1000000000 by omega) hi.nm s,aR (a:=i) (by omega),ih (i+1) _ (by omega),UD]
theorem f102(it:List Item)(hi:eN it)(l:List BA)(hl:l.length<=1000000)(w:Bool):∃l' w' x,gN (l,w,it,())=some (l',w',it,x,())/\Sim (xG it) l w x l' w':=by
 have hlen:=hi.len
 obtain⟨l1,w1,h1,m1⟩:=wD gq mJ l w it
 have h2:=A_ l1 w1 it
 have m2:=Sim.nameR l1 w1
 obtain⟨n,hn⟩:∃n,jT l1 w1=n:=⟨_,rfl⟩
 obtain⟨l2,hl2⟩:∃l2,cY l1 w1=l2:=⟨_,rfl⟩
 obtain⟨w2,hw2⟩:∃w2,(w1|| !bR (hd l1))=w2:=⟨_,rfl⟩
 rw[hn,hl2,hw2]at h2 m2
 obtain⟨l3,w3,h3,m3⟩:=wD oB OP l2 w2 it
 have hlen3:=U4 (U4 m3.len m2.len) m1.len
 have h4:=A_ l3 w3 it
 have m4:=Sim.nameR l3 w3
 obtain⟨n4,hn4⟩:∃n,jT l3 w3=n:=⟨_,rfl⟩
 obtain⟨l4,hl4⟩:∃l2,cY l3 w3=l2:=⟨_,rfl⟩
 obtain⟨w4,hw4⟩:∃w2,(w3|| !bR (hd l3))=w2:=⟨_,rfl⟩
 rw[hn4,hl4,hw4]at h4 m4
 have hlen4:=m4.len
 obtain⟨ns,l5,w5,h5,hns,_,m5⟩:=PB it (Item.mk 0 (T3 #[]) 0 [] (aa.mk 0 0 false [])) 1 n 0 0 0 false [] _ l4 w4 [n4] (Us _) (by simp only[T_];omega)
 rw[T_]at hns
 have mL:Sim Ft l3 w3 ns l5 w5:=by
  have:Sim (mr (l4.length+1+1) []) l3 w3 ns l5 w5:=m4.bnd (m5 (l4.length+1) (by omega))
  cases w3 with
  |true=>exact Sim.strict (Sim.any _ this.suf) (λ_=>this.bad rfl) λ_=>rfl
  |false=>
   refine⟨this.suf,this.bad,λhw b r hb=> ?_,λhw hb=> ?_⟩
   ·refine this.ok rfl b r ?_
    rw[<-hb]
    show bnd dM _ l3=bnd dM _ l3
    unfold bnd
    cases hp:dM l3 with
    |none=>rfl
    |some y=>
     obtain⟨y1,y2⟩:=y
     have e:=m4.ok rfl y1 y2 hp
     have hlt:=Ltp.name l3 y1 y2 hp
     rw[<-e.2.2]at hlt⊢
     simp only
     unfold vH
     simp only
     cases hc:dF ck l4 with
     |false=>rfl
     |true=>
      have:=jw hc
      simp only[XG]
      exact mW _ _ _ _ (by omega) (by omega)
   ·refine this.no rfl ?_
    rw[<-hb]
    show bnd dM _ l3=bnd dM _ l3
    unfold bnd
    cases hp:dM l3 with
    |none=>rfl
    |some y=>
     obtain⟨y1,y2⟩:=y
     have e:=m4.ok rfl y1 y2 hp
     have hlt:=Ltp.name l3 y1 y2 hp
     rw[<-e.2.2]at hlt⊢
     simp only
     unfold vH
     simp only
     cases hc:dF ck l4 with
     |false=>rfl
     |true=>
      have:=jw hc
      simp only[XG]
      exact mW _ _ _ _ (by omega) (by omega)
 obtain⟨l6,w6,h6,m6⟩:=wD cB H_ l5 w5 it
 obtain⟨l7,w7,h7,m7⟩:=wD sB G9 l6 w6 it
 have h8:=f135 ns (by omega) l7 w7 it
 have h9:=PC it hi (Item.mk 0 (T3 #[]) 0 [] (aa.mk 0 0 false [])) 1 n 0 0 0 false [] ns (by omega) l7 _ 0 (w7||jC ns) rfl
 rw[UT]at h9
 have h9:bN (0,l7,(w7||jC ns),Item.mk 0 (T3 #[]) 0 [] (aa.mk 0 0 false []),1,n,0,ns,0,0,false,it,[],())=_:=h9
 refine⟨l7,w7||jC ns||g5 it ns,Item.mk 1 n 0 ns z0,?_,?_⟩
 ·rw[gN]
  simp only[<-nd,<-OY,<-GD,<-ri,h1,h2,h3,h4,TY,T0,XG,XH,TZ,T7,T5,Uw,T_,show(0+1<=4294967296)=True by simp,UN,h5,h6,h7,h8,h9]
  rfl
 ·unfold xG
  have:=(Sim.nay (jC ns||g5 it ns) l7 w7).bnd (q:=λ_=>ret (Item.mk 1 n 0 ns z0)) (.ret _ _ _)
  rw[<-Xt]at this
  exact(qz m1).bnd (m2.bnd ((qz m3).bnd (mL.bnd ((Gy m6 m7).bnd this))))
end Go.Proofs.YtpelkenpapfadaaGreatDoor
end
section
namespace Go.Proofs.YtpelkenpapfadaaGreatDoor
open Go.Tx
set_option maxRecDepth 20000
open Go.Lib
def iz(it:List Item)(mx:Int):Ps (List BA×List aa):=λl=>if dF cB l=true then none else bK it mx (l.length+1) [] [] l
def sG(it:List Item)(mx:Int):Ps Item:=bnd (cy [bH]) λ_=>bnd dM λn=>bnd (cy [oB]) λ_=>bnd (iz it mx) λp=>bnd (cy [cB,sB]) λ_=>
 bnd (nay (p.1.isEmpty||jC p.1)) λ_=>ret (Item.mk 2 n 0 p.1 (aa.mk 6 0 false p.2))
theorem Df{α β:Type}{p:Ps α}{q q':α->Ps β}(h:∀a,q a=q' a):bnd p q=bnd p q':=by
 rw[show q=q' from funext h]
theorem Ba(it:List Item)(mx:Int):dK it mx=sG it mx:=by
 unfold dK sG
 refine Df λ_=>Df λn=>Df λ_=> ?_
 funext l
 unfold bnd
 cases h:dF cB l with
 |false=>
  have:iz it mx l=lv it mx l:=by unfold iz lv;rw[h,XJ Up]
  rw[this]
 |true=>
  have e1:iz it mx l=none:=by unfold iz;rw[h,XK rfl]
  have e2:lv it mx l=some (([],[]),l):=by unfold lv bK;rw[h,XK rfl]
  rw[e1,e2]
  simp only
  cases cy [cB,sB] l with
  |none=>rfl
  |some x=>rfl
theorem AJ(it:List Item)(r:List BA):pY it (cB::r)=none:=by
 have b0:¬cB=nU:=eI (by decide)
 have b1:¬cB=fh:=eI (by decide)
 have b2:¬cB=dC:=eI (by decide)
 have b3:¬cB=rh:=eI (by decide)
 have b4:¬cB=iS:=eI (by decide)
 have b5:¬cB=cv:=eI (by decide)
 have b6:¬cB=bH:=eI (by decide)
 have b7:¬cB=gq:=eI (by decide)
 have hu:dF nU (cB::r)=false:=by show decide (cB=nU)=false;exact decide_eq_false b0
 have hwd:tA (cB::r)=some (cB,r):=by show(if cB=e0 then none else some (cB,r))=_;rw[XJ H_]
 rw[eF]
 unfold bnd vH
 rw[hu,XJ Up]
 simp only
 rw[hwd]
 show dA it false cB r=none
 unfold dA
 rw[XJ b1,XJ b2,XJ b3,XJ b4,XJ b5,XJ b6,XJ b7]
 rfl
theorem PD(it:List Item)(hi:eN it)(x:Item)(a:Int)(nm:BA)(b c d:Int)(e:Bool):∀(m:Nat) (l:List BA) (w:Bool) (ns:List BA) (ps:List aa),tU l->(w=true\/l.length<=m)->ns.length+l.length<=10000000->ps.length+l.length<=10000000->
 ∃ns' ps' l' w',aS (l,w,x,a,nm,b,c,d,e,it,ns,ps,())=some (l',w',x,a,nm,b,c,d,e,it,ns',ps',())/\ns'.length<=ns.length+l.length+1/\l'<:+l/\∀k,l.length<k->
  Sim (λl=>if(ns.isEmpty&&dF cB l)=true then none else bK it 1000 k ns ps l) l w (ns',ps') l' w':=by
 intro m
 induction m with
 |zero=>
  intro l w ns ps hg hm hb hb2
  cases w with
  |true=>
   refine⟨ns,ps,l,true,?_,by omega,Ux _,λk hk=>Sim.any _ (Ux _)⟩
   rw[aS]
   simp only[TY,T0,XG,XH,TZ,T7,T5]
  |false=>
   have hl0:l=[]:=U8.1 (by rcases hm with h|h;cases h;omega)
   subst hl0
   obtain⟨l1,w1,t,h1,m1⟩:=f137 it hi false [] false
   have hl1:l1=[]:=U8.1 (by have:=m1.len;simpa using this)
   subst hl1
   have hw1:w1=true:=m1.no rfl rfl
   subst hw1
   obtain⟨l5,w5,h5,m5⟩:=wD sB G9 [] true it
   have hl5:l5=[]:=U8.1 (by have:=m5.len;simpa using this)
   have hw5:w5=true:=m5.bad rfl
   subst hl5 hw5
   have ht:ns.length+1<=4294967296:=by omega
   have ht2:ps.length+1<=4294967296:=by omega
   refine⟨ns++[e0],ps++[t],[],true,?_,by simp,Ux _,λk hk=> ?_⟩
   ·have hz:decide (e0=cB)=false:=decide_eq_false λh=>H_ h.symm
    have ha:mayR tV [] true=false:=rfl
    have hif:(if((ns.length:Int)==0)=true then some ((true,([]:List BA),false,x,a,nm,b,c,d,e,it,ns,ps,()):Bool×List BA×Bool×Item×Int×BA×Int×Int×Int×Bool×List Item×List BA×List aa×Unit)else some (true,[],false,x,a,nm,b,c,d,e,it,ns,ps,()))=some (true,[],false,x,a,nm,b,c,d,e,it,ns,ps,()):=by split<;>rfl
    rw[aS]
    simp only[TY,T0,XG,XH,TZ,T7,T5,Hr,show jT [] false=e0 from rfl,aI,<-GD,hz,hif,h1,A_,show jT [] true=e0 from rfl,show cY [] true=[]from rfl,T_,ht,<-sn,G6 tV zO,ha,<-ri,h5,ht2,UJ]
    rw[aS]
    simp only[TY,T0,XG,XH,TZ,T7,T5]
   ·obtain⟨k,rfl⟩:∃j,k=j+1:=⟨k-1,by omega⟩
    refine Sim.wrong _ (Ux _) ?_
    rw[show dF cB []=false from rfl,Wt,XJ Up];rfl
 |succ m ih=>
  intro l w ns ps hg hm hb hb2
  cases w with
  |true=>
   refine⟨ns,ps,l,true,?_,by omega,Ux _,λk hk=>Sim.any _ (Ux _)⟩
   rw[aS]
   simp only[TY,T0,XG,XH,TZ,T7,T5]
  |false=>
   have hml:l.length<=m+1:=by rcases hm with h|h;cases h;exact h
   have hat:=Bh H_ l
   have hz:((ns.length:Int)==0)=ns.isEmpty:=by
    cases ns with
    |nil=>rfl
    |cons y r=>exact beq_eq_false_iff_ne.2 (by rw[Ui];omega)
   cases hgo:(!ns.isEmpty&&dF cB l)with
   |true=>
    rw[Uk,VP]at hgo
    rw[hgo.2]at hat
    refine⟨ns,ps,l,false,?_,by omega,Ux _,λk hk=> ?_⟩
    ·rw[aS]
     simp only[TY,T0,XG,XH,TZ,T7,T5,hz,hgo.1,Hr,show jT l false=hd l from rfl,aI,<-GD,hat]
    ·obtain⟨k,rfl⟩:∃j,k=j+1:=⟨k-1,by omega⟩
     refine(Sim.ret (ns,ps) l false).congr ?_
     rw[hgo.1,Vx,XJ Up]
     unfold bK;rw[hgo.2,XK rfl];rfl
   |false=>
    have hcond:(if((ns.length:Int)==0)=true then some ((true,l,false,x,a,nm,b,c,d,e,it,ns,ps,()):Bool×List BA×Bool×Item×Int×BA×Int×Int×Int×Bool×List Item×List BA×List aa×Unit)
     else(ez (l,false,it,())).bind λx1=>if x1.2.2.2.1.length=it.length then some (!x1.1.toList==(T3 #[125]).toList,x1.2.1,x1.2.2.1,x,a,nm,b,c,d,e,x1.2.2.2.1,ns,ps,())else none)=some (true,l,false,x,a,nm,b,c,d,e,it,ns,ps,()):=by
     rw[hz]
     cases hne:ns.isEmpty with
     |true=>rfl
     |false=>
      rw[hne,T5,Vg]at hgo
      rw[hgo]at hat
      simp only[TY,T0,XG,XH,TZ,T7,T5,Hr,show jT l false=hd l from rfl,aI,<-GD,hat]
    obtain⟨l1,w1,t,h1,m1⟩:=f137 it hi false l false
    have h2:=A_ l1 w1 it
    have m2:=Sim.nameR l1 w1
    obtain⟨n,hn⟩:∃n,jT l1 w1=n:=⟨_,rfl⟩
    obtain⟨l2,hl2⟩:∃l2,cY l1 w1=l2:=⟨_,rfl⟩
    obtain⟨w2,hw2⟩:∃w2,(w1|| !bR (hd l1))=w2:=⟨_,rfl⟩
    rw[hn,hl2,hw2]at h2 m2
    have h3:=G6 tV zO l2 w2 it
    have m3:=Sim.mayR tV l2 w2
    have ht:ns.length+1<=4294967296:=by omega
    have ht2:ps.length+1<=4294967296:=by omega
    have arr:∃l4 w4 t4,Sim (wI 1000 t (mayR tV l2 w2)) (if mayR tV l2 w2=true then l2.tail else l2) w2 t4 l4 w4/\
     ∀l5 w5,aQ (sB,l4,w4,it,())=some (l5,w5,it,())->aS (l,false,x,a,nm,b,c,d,e,it,ns,ps,())=aS (l5,w5,x,a,nm,b,c,d,e,it,ns++[n],ps++[t4],()):=by
     cases hb3:mayR tV l2 w2 with
     |false=>
      rw[hb3,XJ Up]at h3
      refine⟨l2,w2,t,?_,λl5 w5 h5=> ?_⟩
      ·rw[XJ Up];exact .ret _ _ _
      ·conv=>lhs;rw[aS]
       simp only[TY,T0,XG,XH,TZ,T7,T5]at hcond⊢
       simp only[hcond,TY,T0,XG,XH,TZ,T7,T5,h1,h2,T_,ht,<-sn,h3,<-ri,h5,ht2]
     |true=>
      rw[hb3,XK rfl]at h3
      rw[XK rfl]
      have g2:tU l2.tail:=hg.suf (((VW l2).trans m2.suf).trans m1.suf)
      obtain⟨v,h4,m4,_⟩:=RP l2.tail g2 w2 it
      obtain⟨l4,hl4⟩:∃l4,cY l2.tail w2=l4:=⟨_,rfl⟩
      obtain⟨w4,hw4⟩:∃w4,(w2|| !eS (hd l2.tail))=w4:=⟨_,rfl⟩
      rw[hl4,hw4]at h4 m4
      obtain⟨l6,w6,h6,m6⟩:=wD L9 JK l4 (w4||(decide (v<1)||decide (v>1000))) it
      refine⟨l6,w6,aa.mk 5 v false [t],?_,λl5 w5 h5=> ?_⟩
      ·unfold wI
       rw[XK rfl]
       exact m4.bnd ((Sim.nay _ _ _).bnd ((qz m6).bnd (.ret _ _ _)))
      ·conv=>lhs;rw[aS]
       simp only[TY,T0,XG,XH,TZ,T7,T5]at hcond⊢
       simp only[hcond,TY,T0,XG,XH,TZ,T7,T5,h1,h2,T_,ht,<-sn,h3,h4]
       cases w4 with
       |true=>
        rw[UJ]at h6
        simp only[TY,T0,XG,XH,TZ,T7,T5,<-wl,h6,<-ri,h5,ht2]
       |false=>
        rw[UD]at h6
        by_cases hv1:v<1
        ·rw[decide_eq_true hv1,UJ]at h6
         simp only[TY,T0,XG,XH,TZ,T7,T5,hv1,XM,<-wl,h6,<-ri,h5,ht2]
        ·rw[decide_eq_false hv1,UD]at h6
         simp only[TY,T0,XG,XH,TZ,T7,T5,hv1,XN,<-wl,h6,<-ri,h5,ht2]
    obtain⟨l4,w4,t4,m4,harr⟩:=arr
    obtain⟨l5,w5,h5,m5⟩:=wD sB G9 l4 w4 it
    have hpart:Sim (j9 it 1000) l false (t4,n) l5 w5:=m1.bnd (m2.bnd (m3.bnd (m4.bnd ((qz m5).bnd (.ret _ _ _)))))
    have hnative:=harr l5 w5 h5
    have hl5:=hpart.len
    have hlt:w5=true\/l5.length<l.length:=by
     cases w5 with
     |true=>exact .inl rfl
     |false=>exact .inr (hpart.lt (Ltp.part it 1000))
    have step (k:Nat):(if(ns.isEmpty&&dF cB l)=true then none else bK it 1000 (k+1) ns ps l)=bnd (j9 it 1000) (λp=>λr=>if((ns++[p.2]).isEmpty&&dF cB r)=true then none else bK it 1000 k (ns++[p.2]) (ps++[p.1]) r) l:=by
     have hne (y:BA):(ns++[y]).isEmpty=false:=by cases ns<;>rfl
     have hr:(bnd (j9 it 1000) (λp=>λr=>if((ns++[p.2]).isEmpty&&dF cB r)=true then none else bK it 1000 k (ns++[p.2]) (ps++[p.1]) r) l)=bnd (j9 it 1000) (λp=>bK it 1000 k (ns++[p.2]) (ps++[p.1])) l:=by
      congr 1;funext p r;rw[hne,Vx,XJ Up]
     rw[hr]
     cases hc:dF cB l with
     |false=>
      rw[Wt,XJ Up]
      conv=>lhs;unfold bK
      rw[hc,XJ Up]
     |true=>
      rw[hc,Wl,Bool.not_eq_false']at hgo
      rw[hgo,Vg,XK rfl]
      have hk:pY it l=none:=by
       obtain⟨r,rfl⟩:=jH hc
       exact AJ it r
      have hkd:qZ it false l=none:=by unfold qZ bnd;rw[hk]
      unfold bnd j9
      unfold bnd
      rw[hkd]
    rcases Decidable.em (w5=true)with hw5|hw5
    ·subst hw5
     refine⟨ns++[n],ps++[t4],l5,true,?_,by rw[Uh,T_];omega,hpart.suf,λk hk=> ?_⟩
     ·rw[hnative,aS]
      simp only[TY,T0,XG,XH,TZ,T7,T5]
     ·obtain⟨k,rfl⟩:∃j,k=j+1:=⟨k-1,by omega⟩
      exact(hpart.bnd (Sim.any _ (Ux _))).congr (step k)
    ·have hlt:l5.length<l.length:=by rcases hlt with h|h;exact(hw5 h).elim;exact h
     obtain⟨ns',ps',l',w',i1,i2,i3,i4⟩:=ih l5 w5 (ns++[n]) (ps++[t4]) (hg.suf hpart.suf) (.inr (by omega)) (by simp only[Uh,T_];omega) (by simp only[Uh,T_];omega)
     refine⟨ns',ps',l',w',by rw[hnative,i1],?_,i3.trans hpart.suf,λk hk=> ?_⟩
     ·rw[Uh,T_]at i2;omega
     ·obtain⟨k,rfl⟩:∃j,k=j+1:=⟨k-1,by omega⟩
      exact(hpart.bnd (q:=λp=>λr=>if((ns++[p.2]).isEmpty&&dF cB r)=true then none else bK it 1000 k (ns++[p.2]) (ps++[p.1]) r) (i4 k (by omega))).congr (step k)
theorem f103(it:List Item)(hi:eN it)(l:List BA)(hg:tU l)(hl:l.length<=1000000)(w:Bool):∃l' w' x,gO (l,w,it,())=some (l',w',it,x,())/\Sim (dK it 1000) l w x l' w':=by
 have hlen:=hi.len
 obtain⟨l1,w1,h1,m1⟩:=wD bH gA l w it
 have h2:=A_ l1 w1 it
 have m2:=Sim.nameR l1 w1
 obtain⟨n,hn⟩:∃n,jT l1 w1=n:=⟨_,rfl⟩
 obtain⟨l2,hl2⟩:∃l2,cY l1 w1=l2:=⟨_,rfl⟩
 obtain⟨w2,hw2⟩:∃w2,(w1|| !bR (hd l1))=w2:=⟨_,rfl⟩
 rw[hn,hl2,hw2]at h2 m2
 obtain⟨l3,w3,h3,m3⟩:=wD oB OP l2 w2 it
 have s123:=(m3.suf.trans m2.suf).trans m1.suf
 have hlen3:=s123.length_le
 obtain⟨ns,ps,l4,w4,h4,hns,_,m4⟩:=PD it hi (Item.mk 0 (T3 #[]) 0 [] (aa.mk 0 0 false [])) 2 n 0 6 0 false _ l3 w3 [] [] (hg.suf s123) (.inr (Us _)) (by simp only[Uw];omega) (by simp only[Uw];omega)
 rw[Uw]at hns
 have m4:Sim (iz it 1000) l3 w3 (ns,ps) l4 w4:=(m4 (l3.length+1) (Wf _)).congr (by
  unfold iz;rw[show([]:List BA).isEmpty=true from rfl,Vg])
 obtain⟨l5,w5,h5,m5⟩:=wD cB H_ l4 w4 it
 obtain⟨l6,w6,h6,m6⟩:=wD sB G9 l5 w5 it
 have h7:=f135 ns (by omega) l6 w6 it
 have hne:w6=false->ns.isEmpty=false:=by
  intro hw
  cases w4 with
  |true=>have:=m6.bad (m5.bad rfl);rw[hw]at this;cases this
  |false=>
   cases w3 with
   |true=>have:=m4.bad rfl;cases this
   |false=>
    cases hp:iz it 1000 l3 with
    |none=>have:=m4.no rfl hp;cases this
    |some y=>
     obtain⟨y1,y2⟩:=y
     obtain⟨_,e,_⟩:=m4.ok rfl y1 y2 hp
     cases hns':ns with
     |cons z r=>rfl
     |nil=>
      unfold iz at hp
      split at hp
      ·cases hp
      ·rename_i hc
       unfold bK at hp
       rw[XJ hc]at hp
       obtain⟨a,r1,e1,e2⟩:=ap hp
       have grow:∀(k:Nat) (ns0:List BA) (ps0:List aa) (l:List BA) (q:List BA×List aa) (r:List BA),bK it 1000 k ns0 ps0 l=some (q,r)->ns0.length<=q.1.length:=by
        intro k
        induction k with
        |zero=>intro ns0 ps0 l q r h;cases h
        |succ k ihk=>
         intro ns0 ps0 l q r h
         unfold bK at h
         split at h
         ·cases h;exact Us _
         ·obtain⟨a,r1,e1,e2⟩:=ap h
          have:=ihk _ _ _ _ _ e2
          rw[Uh,T_]at this;omega
       have:=grow _ _ _ _ _ _ e2
       rw[<-e,hns']at this
       simp at this
 rw[Ba]
 refine⟨l6,w6||jC ns,Item.mk 2 n 0 ns (aa.mk 6 0 false ps),?_,?_⟩
 ·rw[gO]
  simp only[<-gZ,<-OY,<-GD,<-ri,h1,h2,h3,h4,h5,h6,h7,TY,T0,XG,XH,TZ,T7,T5]
 ·unfold sG
  have fin:Sim (bnd (nay (ns.isEmpty||jC ns)) λ_=>ret (Item.mk 2 n 0 ns (aa.mk 6 0 false ps))) l6 w6 (Item.mk 2 n 0 ns (aa.mk 6 0 false ps)) l6 (w6||jC ns):=by
   have:=(Sim.nay (ns.isEmpty||jC ns) l6 w6).bnd (q:=λ_=>ret (Item.mk 2 n 0 ns (aa.mk 6 0 false ps))) (.ret _ _ _)
   cases w6 with
   |true=>exact this
   |false=>rw[hne rfl,UD]at this⊢;exact this
  exact(qz m1).bnd (m2.bnd ((qz m3).bnd (m4.bnd ((Gy m5 m6).bnd fin))))
theorem Hq(x:Item)(y:aa)(a:Int)(nm:BA)(b c d:Int)(e:Bool)(it:List Item)(l:List BA)(w more:Bool)(ns:List BA)(ps:List aa)(h:more=false\/w=true):
 bA (more,l,w,x,y,a,nm,b,c,d,e,it,ns,ps,())=some (l,w,x,y,a,nm,b,c,d,e,it,ns,ps,()):=by
 rw[bA]
 cases more with
 |false=>simp only[TY,T0,XG,XH,TZ,T7,T5]
 |true=>
  rcases h with h|h
  ·cases h
  ·rw[h];simp only[TY,T0,XG,XH,TZ,T7,T5]
theorem PE(it:List Item)(hi:eN it)(x:Item)(y:aa)(a:Int)(nm:BA)(b c d:Int)(e:Bool):∀(m:Nat) (l:List BA) (w:Bool) (ns:List BA) (ps:List aa),l.length<=m->ns.length+l.length<=10000000->ps.length+l.length<=10000000->
 ∃ns' ps' l' w',bA (true,l,w,x,y,a,nm,b,c,d,e,it,ns,ps,())=some (l',w',x,y,a,nm,b,c,d,e,it,ns',ps',())/\ns'.length<=ns.length+l.length+1/\ps'.length<=ps.length+l.length+1/\l'<:+l/\∀k,l.length<k->Sim (Fs it k ns ps) l w (ns',ps') l' w':=by
 intro m
 induction m with
 |zero=>
  intro l w ns ps hl hb hb2
  have hl0:l=[]:=U8.1 (by omega)
  subst hl0
  cases w with
  |true=>exact⟨ns,ps,[],true,Hq _ _ _ _ _ _ _ _ _ _ _ _ _ _ (.inr rfl),by omega,by omega,Ux _,λk hk=>Sim.any _ (Ux _)⟩
  |false=>
   obtain⟨l1,w1,t,h1,m1⟩:=f137 it hi false [] false
   have hl1:l1=[]:=U8.1 (by have:=m1.len;simpa using this)
   subst hl1
   have hw1:w1=true:=m1.no rfl rfl
   subst hw1
   have ht:ns.length+1<=4294967296:=by omega
   have ht2:ps.length+1<=4294967296:=by omega
   have ha:mayR ck [] true=false:=rfl
   refine⟨ns++[e0],ps++[t],[],true,?_,by simp,by simp,Ux _,λk hk=> ?_⟩
   ·rw[bA]
    simp only[TY,T0,XG,XH,TZ,T7,T5,h1,A_,show jT [] true=e0 from rfl,show cY [] true=[]from rfl,UJ,<-dI,G6 ck gf,ha,T_,ht,ht2,Hq x y a nm b c d e it [] true false _ _ (.inl rfl)]
   ·obtain⟨k,rfl⟩:∃j,k=j+1:=⟨k-1,by omega⟩
    exact Sim.wrong _ (Ux _) rfl
 |succ m ih=>
  intro l w ns ps hl hb hb2
  cases w with
  |true=>exact⟨ns,ps,l,true,Hq _ _ _ _ _ _ _ _ _ _ _ _ _ _ (.inr rfl),by omega,by omega,Ux _,λk hk=>Sim.any _ (Ux _)⟩
  |false=>
   obtain⟨l1,w1,t,h1,m1⟩:=f137 it hi false l false
   have h2:=A_ l1 w1 it
   have m2:=Sim.nameR l1 w1
   obtain⟨n,hn⟩:∃n,jT l1 w1=n:=⟨_,rfl⟩
   obtain⟨l2,hl2⟩:∃l2,cY l1 w1=l2:=⟨_,rfl⟩
   obtain⟨w2,hw2⟩:∃w2,(w1|| !bR (hd l1))=w2:=⟨_,rfl⟩
   rw[hn,hl2,hw2]at h2 m2
   have hlen2:=U4 m2.len m1.len
   have h3:=G6 ck gf l2 w2 it
   have m3:=Sim.mayR ck l2 w2
   have ht:ns.length+1<=4294967296:=by omega
   have ht2:ps.length+1<=4294967296:=by omega
   cases hb3:mayR ck l2 w2 with
   |false=>
    rw[hb3,XJ Up]at h3 m3
    refine⟨ns++[n],ps++[t],l2,w2,?_,by rw[Uh,T_];omega,by rw[Uh,T_];omega,m2.suf.trans m1.suf,λk hk=> ?_⟩
    ·rw[bA]
     simp only[TY,T0,XG,XH,TZ,T7,T5,h1,h2,<-dI,h3,T_,ht,ht2,Hq x y a nm b c d e it l2 w2 false _ _ (.inl rfl)]
    ·obtain⟨k,rfl⟩:∃j,k=j+1:=⟨k-1,by omega⟩
     exact m1.bnd (m2.bnd (m3.bnd (.ret _ _ _)))
   |true=>
    rw[hb3,XK rfl]at h3 m3
    obtain⟨rfl,hat⟩:=El hb3
    have htl:=jw hat
    obtain⟨ns',ps',l',w',i1,i2,i2',i3,i4⟩:=ih l2.tail false (ns++[n]) (ps++[t]) (by omega) (by rw[Uh,T_];omega) (by rw[Uh,T_];omega)
    refine⟨ns',ps',l',w',?_,by rw[Uh,T_]at i2;omega,by rw[Uh,T_]at i2';omega,i3.trans ((VW l2).trans (m2.suf.trans m1.suf)),λk hk=> ?_⟩
    ·rw[bA]
     simp only[TY,T0,XG,XH,TZ,T7,T5,h1,h2,<-dI,h3,T_,ht,ht2]
     exact i1
    ·obtain⟨k,rfl⟩:∃j,k=j+1:=⟨k-1,by omega⟩
     exact m1.bnd (m2.bnd (m3.bnd (i4 k (by omega))))
theorem f104(it:List Item)(hi:eN it)(l:List BA)(hl:l.length<=1000000)(w:Bool):∃l' w' x,ew (l,w,it,())=some (l',w',it,x,())/\Sim (xH it) l w x l' w':=by
 have hlen:=hi.len
 obtain⟨l1,w1,t,h1,m1⟩:=f137 it hi true l w
 have h2:=A_ l1 w1 it
 have m2:=Sim.nameR l1 w1
 obtain⟨n,hn⟩:∃n,jT l1 w1=n:=⟨_,rfl⟩
 obtain⟨l2,hl2⟩:∃l2,cY l1 w1=l2:=⟨_,rfl⟩
 obtain⟨w2,hw2⟩:∃w2,(w1|| !bR (hd l1))=w2:=⟨_,rfl⟩
 rw[hn,hl2,hw2]at h2 m2
 obtain⟨l3,w3,h3,m3⟩:=wD zh E_ l2 w2 it
 have hlen3:=U4 (U4 m3.len m2.len) m1.len
 have args:∃ns ps l4 w4,Sim (ko it) l3 w3 (ns,ps) l4 w4/\ns.length<=2000000/\ps.length<=2000000/\∀l5 w5 l6 w6,aQ (dz,l4,w4,it,())=some (l5,w5,it,())->aQ (sB,l5,w5,it,())=some (l6,w6,it,())->
  ew (l,w,it,())=some (l6,w6||jC ns,it,Item.mk 3 n 0 ns (aa.mk 6 0 false (ps++[t])),()):=by
  cases hv:wi l3 with
  |true=>
   obtain⟨r,rfl⟩:=wj hv
   have hleft:cY (cv::dz::r) w3<:+cv::dz::r:=Ec _ _
   refine⟨[],[],cY (cv::dz::r) w3,w3,?_,by simp,by simp,λl5 w5 l6 w6 h5 h6=> ?_⟩
   ·cases w3 with
    |true=>exact Sim.any _ hleft
    |false=>
     have e:cY (cv::dz::r) false=dz::r:=by unfold cY cw;rw[XJ Up,XJ (show¬hd (cv::dz::r)=e0 from mK)];rfl
     rw[e]
     refine⟨WJ _ _,id,λhw b r' hb=> ?_,λhw hb=> ?_⟩
     ·unfold ko at hb;rw[hv,XK rfl]at hb;cases hb;exact⟨hw,rfl,rfl⟩
     ·unfold ko at hb;rw[hv,XK rfl]at hb;cases hb
   ·have c1:(((cv::dz::r).length:Int)>1):=by simp only[Ui];omega
    have c2:(cv::dz::r)[U6 0]?=some cv:=rfl
    have c3:(cv::dz::r)[U6 1]?=some dz:=rfl
    have c4:hd (cv::dz::r)=cv:=rfl
    have h7:=f135 [] (by simp) l6 w6 it
    have h8:jC []=false:=rfl
    rw[h8,Vc]at h7
    rw[ew]
    simp only[h1,h2,<-tS,h3,TY,T0,XG,XH,TZ,T7,T5,c1,c2,c3,XM,aI,<-jA,<-tT,f138,c4,mK,XN,Vc,h5,<-ri,h6,h7,h8,Uw,T_,show(0+1<=4294967296)=True by simp]
  |false=>
   obtain⟨ns,ps,l4,w4,h4,hns,hps,_,m4⟩:=PE it hi (Item.mk 0 (T3 #[]) 0 [] (aa.mk 0 0 false [])) t 3 n 0 6 0 false _ l3 w3 [] [] (Us _) (by simp only[Uw];omega) (by simp only[Uw];omega)
   rw[Uw]at hns hps
   refine⟨ns,ps,l4,w4,(m4 _ (Wf _)).congr (by unfold ko;rw[hv,XJ Up]),by omega,by omega,λl5 w5 l6 w6 h5 h6=> ?_⟩
   have ht2:ps.length+1<=4294967296:=by omega
   have h7:=f135 ns (by omega) l6 w6 it
   rw[ew]
   simp only[h1,h2,<-tS,h3,TY,T0,XG,XH,TZ,T7,T5,aI,<-jA,<-tT]
   by_cases c1:((l3.length:Int)>1)
   ·match l3,hv,c1 with
    |[],_,c1=>simp at c1
    |[y],_,c1=>simp at c1
    |y::z::r,hv,c1=>
     have c2:(y::z::r)[U6 0]?=some y:=rfl
     have c3:(y::z::r)[U6 1]?=some z:=rfl
     by_cases e1:y=cv
     ·have e2:¬z=dz:=λe2=>by
       have hv:(decide (y=cv)&&decide (z=dz))=false:=hv
       rw[decide_eq_true e1,decide_eq_true e2]at hv;cases hv
      subst e1
      simp only[c1,c2,c3,e2,XM,XN,TY,T0,XG,XH,TZ,T7,T5,h4,h5,<-ri,h6,h7,T_,ht2]
     ·simp only[c1,c2,e1,XM,XN,TY,T0,XG,XH,TZ,T7,T5,h4,h5,<-ri,h6,h7,T_,ht2]
   ·simp only[c1,XN,TY,T0,XG,XH,TZ,T7,T5,h4,h5,<-ri,h6,h7,T_,ht2]
 obtain⟨ns,ps,l4,w4,m4,hns,hps,harg⟩:=args
 obtain⟨l5,w5,h5,m5⟩:=wD dz Fa l4 w4 it
 obtain⟨l6,w6,h6,m6⟩:=wD sB G9 l5 w5 it
 refine⟨l6,_,_,harg l5 w5 l6 w6 h5 h6,?_⟩
 unfold xH
 exact m1.bnd (m2.bnd ((qz m3).bnd (m4.bnd ((Gy m5 m6).bnd ((Sim.nay _ _ _).bnd (.ret _ _ _))))))
end Go.Proofs.YtpelkenpapfadaaGreatDoor
end
section
namespace Go.Proofs.YtpelkenpapfadaaGreatDoor
set_option maxRecDepth 20000
theorem y56(l:aa):Bz (l,())=some (j5 l,()):=by
 simp only[Bz,j5,XL];(repeat' split)<;>simp_all
theorem y58(l:aa):HY (l,())=some (j5 l,()):=by
 simp only[HY,j5,XL];(repeat' split)<;>simp_all
theorem Sd(xs:List Int)(hx:∀x∈xs,0<=x)(hl:xs.length<=1000000)(k:Nat)(a:Int)(h0:0<=a)(h1:a<=far):
 lq (a,xs,xs.length,k,())=some ((xs.drop k).foldl (λn x=>min far (n+min x far)) a,()):=by
 have hf:far=1099511627776:=rfl
 rw[lq]
 by_cases hlt:k<xs.length
 ·obtain⟨p,hp,hm,hd,g1,g2⟩:=eg hlt
  have hp0:=hx p hm
  have e1:IntKind.i64.wrap (a+min p 1099511627776)=a+min p 1099511627776:=cV (by omega) (by omega)
  simp only[TY,T0,T8,XG,XH,TZ,T6,T1,T2,XL,XI,T9,g1,g2,hp,e1,bC hlt (U4 hl (by decide)),hd,Vd,hlt]
  exact Sd xs hx hl (k+1) _ (by omega) (by omega)
 ·obtain⟨hd,g1⟩:=iE hlt
  simp only[TY,T0,T8,XG,XH,TZ,T6,T1,T2,XL,XI,T9,g1,hd,WF,hlt]
termination_by xs.length-k
theorem y72(xs:List Int)(hx:∀x∈xs,0<=x)(hl:xs.length<=1000000):lp (xs,())=some (OU xs,()):=by
 have:=Sd xs hx hl 0 0 (by omega) (by decide)
 simp only[Vf,Vr]at this
 simp only[lp,this,TY,T0,T8,XG,XH,TZ,T6,T1,T2,XL,XI,T9,UT,OU]
theorem Mb{a b:Int}(ha:0<=a)(hb:0<=b):lp ([a,b],())=some (min far (a+b),()):=by
 rw[y72 [a,b] (by simp;omega) (by simp),Q7 a b ha hb]
theorem Sc(l:aa)(hn:l.parts.length<=9223372036854775807)(k:Nat)(a:Int)(h0:0<=a)(h1:a<=100000):lm (a,k,l,())=some ((l.parts.drop k).foldl (λn p=>min (n+min (j5 p) 1000) 100000) a,()):=by
 rw[lm]
 by_cases hlt:k<l.parts.length
 ·obtain⟨p,hp,hm,hd,g1,g2⟩:=eg hlt
  have b1:=f8 p
  have e1:IntKind.i64.wrap (a+min (j5 p) 1000)=a+min (j5 p) 1000:=cV (by omega) (by omega)
  simp only[TY,T0,T8,XG,XH,TZ,T6,T1,T2,XL,XI,T9,g1,g2,hp,y58,e1,bC hlt hn,hd,Vd,hlt]
  exact Sc l hn (k+1) _ (by omega) (by omega)
 ·obtain⟨hd,g1⟩:=iE hlt
  simp only[TY,T0,T8,XG,XH,TZ,T6,T1,T2,XL,XI,T9,g1,hd,WF,hlt]
termination_by l.parts.length-k
theorem y52(l:aa)(hn:l.parts.length<=9223372036854775807):HG (l,())=some (js l.parts,()):=by
 have:=Sc l hn 0 0 (by omega) (by omega)
 simp only[Vr,Vf,UT]at this
 simp only[HG,this,TY,T0,T8,XG,XH,TZ,T6,T1,T2,XL,XI,T9,js]
end Go.Proofs.YtpelkenpapfadaaGreatDoor
end
section
namespace Go.Proofs.YtpelkenpapfadaaGreatDoor
open IntKind (i64)
set_option maxRecDepth 20000
theorem y47:∀(l:aa),l.Fits->l.depth<=1000000->n_139 (l,())=some ((l.depth:Int),()):=by
 refine aa.ind λl ih hl hd0=> ?_
 have loop:∀(m k:Nat) (a:Int),l.parts.length-k=m->0<=a->fN (a,k,l,())=some (max a (aa.depthL (l.parts.drop k)),()):=by
  intro m
  induction m with
  |zero=>
   intro k a hk h0
   have hlt:¬k<l.parts.length:=by omega
   obtain⟨hd,g1⟩:=iE hlt
   rw[fN]
   simp only[TY,T0,T8,XG,XH,TZ,T6,T1,T2,XL,XI,T9,hlt,hd,aa.depthL]
   have:max a (0:Nat)=a:=by omega
   rw[this]
  |succ m ihm=>
   intro k a hk h0
   have hlt:k<l.parts.length:=by omega
   obtain⟨p,hp,hm,hd,g1,g2⟩:=eg hlt
   have:=aa.depth_mem hm
   rw[fN]
   simp only[TY,T0,T8,XG,XH,TZ,T6,T1,T2,XL,XI,T9,g1,g2,hlt,hp,ih p hm (hl.part hm) (by omega),bC hlt hl.len,hd,aa.depthL]
   rw[ihm (k+1) _ (by omega) (by omega)]
   have e:max (max a (p.depth:Int)) ((aa.depthL (l.parts.drop (k+1)):Nat):Int)=max a ((max p.depth (aa.depthL (l.parts.drop (k+1))):Nat):Int):=by omega
   rw[e]
 have h:=loop _ 0 0 rfl (by omega)
 have e:=l.depth_eq
 simp only[Vr,Vf,UT]at h
 have e1:i64.wrap (max 0 ((aa.depthL l.parts:Nat):Int)+1)=(l.depth:Int):=by rw[cV (by omega) (by omega)];omega
 rw[n_139]
 simp only[h,TY,T0,T8,XG,XH,TZ,T6,T1,T2,XL,XI,T9,e1]
theorem y48:∀(l:aa),l.Fits->l.arr->n_127 (l,())=some (min far l.cells,()):=by
 refine aa.ind λl ih hl hr=> ?_
 have hf:far=1099511627776:=rfl
 have loop:∀(m k:Nat) (a:Int),l.parts.length-k=m->0<=a->a<=far->fL (a,l.parts,l.parts.length,k,l,())=some (min far (a+aa.cellsL (l.parts.drop k)),l,()):=by
  intro m
  induction m with
  |zero=>
   intro k a hk h0 h1
   have hlt:¬k<l.parts.length:=by omega
   obtain⟨hd,g1⟩:=iE hlt
   rw[fL]
   have e:min far (a+0)=a:=by omega
   simp only[TY,T0,T8,XG,XH,TZ,T6,T1,T2,XL,XI,T9,hlt,hd,aa.cellsL,e]
  |succ m ihm=>
   intro k a hk h0 h1
   have hlt:k<l.parts.length:=by omega
   obtain⟨p,hp,hm,hd,g1,g2⟩:=eg hlt
   have b1:=p.cells_pos
   have b2:=aa.cellsL_nonneg (l.parts.drop (k+1))
   rw[fL]
   simp only[TY,T0,T8,XG,XH,TZ,T6,T1,T2,XL,XI,T9,g1,g2,hlt,hp,ih p hm (hl.part hm) (hr.part hm),Mb h0 (show(0:Int)<=min far p.cells by omega),bC hlt hl.len,hd,aa.cellsL]
   rw[ihm (k+1) _ (by omega) (by omega) (by omega)]
   have e:min far (min far (a+min far p.cells)+aa.cellsL (l.parts.drop (k+1)))=min far (a+(p.cells+aa.cellsL (l.parts.drop (k+1)))):=by omega
   rw[e]
 have h:=loop _ 0 0 rfl (by omega) (by decide)
 simp only[Vr,Vf,UT,XD]at h
 have b2:=aa.cellsL_nonneg l.parts
 rw[n_127]
 simp only[h,TY,T0,T8,XG,XH,TZ,T6,T1,T2,XL,XI,T9]
 have b0:0<=min far (aa.cellsL l.parts):=by omega
 by_cases h5:l.kind=5
 ·have hn:=hr.self h5
  have b3:0<=max 0 l.n *min far (aa.cellsL l.parts):=Xn (by omega) b0
  have b4:max 0 l.n *min far (aa.cellsL l.parts)<=1000000 *1099511627776:=Int.mul_le_mul (by omega) (by omega) b0 (by decide)
  have e1:i64.wrap (max 0 l.n *min far (aa.cellsL l.parts))=max 0 l.n *min far (aa.cellsL l.parts):=cV (by omega) (by omega)
  rw[XK h5,e1,Mb (by omega) b3,FP (by omega) b2 (by decide),l.cells_eq,XK h5]
  rfl
 ·rw[XJ h5,Mb (by omega) b0]
  have e1:min far (1+min far (aa.cellsL l.parts))=min far l.cells:=by rw[l.cells_eq,XJ h5];omega
  rw[e1]
  rfl
theorem y50:∀(l:aa),l.Fits->n_140 (l,())=some (min 100000 l.cells,()):=by
 refine aa.ind λl ih hl=> ?_
 have loop:∀(m k:Nat) (a:Int),l.parts.length-k=m->0<=a->a<=100000->fO (a,k,l,())=some (min 100000 (a+aa.cellsL (l.parts.drop k)),l,()):=by
  intro m
  induction m with
  |zero=>
   intro k a hk h0 h1
   have hlt:¬k<l.parts.length:=by omega
   obtain⟨hd,g1⟩:=iE hlt
   rw[fO]
   have e:min 100000 (a+0)=a:=by omega
   simp only[TY,T0,T8,XG,XH,TZ,T6,T1,T2,XL,XI,T9,hlt,hd,aa.cellsL,e]
  |succ m ihm=>
   intro k a hk h0 h1
   have hlt:k<l.parts.length:=by omega
   obtain⟨p,hp,hm,hd,g1,g2⟩:=eg hlt
   have b1:=p.cells_pos
   have b2:=aa.cellsL_nonneg (l.parts.drop (k+1))
   have e1:i64.wrap (a+min 100000 p.cells)=a+min 100000 p.cells:=cV (by omega) (by omega)
   rw[fO]
   simp only[TY,T0,T8,XG,XH,TZ,T6,T1,T2,XL,XI,T9,g1,g2,hlt,hp,ih p hm (hl.part hm),e1,bC hlt hl.len,hd,aa.cellsL]
   rw[ihm (k+1) _ (by omega) (by omega) (by omega)]
   have e:min 100000 (min (a+min 100000 p.cells) 100000+aa.cellsL (l.parts.drop (k+1)))=min 100000 (a+(p.cells+aa.cellsL (l.parts.drop (k+1)))):=by omega
   rw[e]
 have h:=loop _ 0 0 rfl (by omega) (by decide)
 simp only[Vr,Vf,UT,XD]at h
 have b2:=aa.cellsL_nonneg l.parts
 rw[n_140]
 simp only[h,TY,T0,T8,XG,XH,TZ,T6,T1,T2,XL,XI,T9]
 have b0:0<=min 100000 (aa.cellsL l.parts):=by omega
 by_cases h5:l.kind=5
 ·have b3:0<=min (max l.n 0) 100000 *min 100000 (aa.cellsL l.parts):=Xn (by omega) b0
  have b4:min (max l.n 0) 100000 *min 100000 (aa.cellsL l.parts)<=100000 *100000:=Int.mul_le_mul (by omega) (by omega) b0 (by decide)
  have e1:i64.wrap (min (max l.n 0) 100000 *min 100000 (aa.cellsL l.parts))=min (max l.n 0) 100000 *min 100000 (aa.cellsL l.parts):=cV (by omega) (by omega)
  have e2:i64.wrap (min (max l.n 0) 100000 *min 100000 (aa.cellsL l.parts)+1)=min (max l.n 0) 100000 *min 100000 (aa.cellsL l.parts)+1:=cV (by omega) (by omega)
  have e3:min (min (max l.n 0) 100000 *min 100000 (aa.cellsL l.parts)+1) 100000=min 100000 l.cells:=by
   rw[IA (by omega) b2 (by decide),l.cells_eq,XK h5,show max l.n 0=max 0 l.n by omega]
  simp only[h5,TY,T0,T8,XG,XH,TZ,T6,T1,T2,XL,XI,T9,e1,e2,e3]
 ·have e2:i64.wrap (min 100000 (aa.cellsL l.parts)+1)=min 100000 (aa.cellsL l.parts)+1:=cV (by omega) (by omega)
  have e3:min (min 100000 (aa.cellsL l.parts)+1) 100000=min 100000 l.cells:=by rw[l.cells_eq,XJ h5];omega
  simp only[h5,TY,T0,T8,XG,XH,TZ,T6,T1,T2,XL,XI,T9,e2,e3]
theorem y46:∀(l:aa),l.Fits->l.all.length<=1000000->n_57 (l,())=some (l.all,()):=by
 refine aa.ind λl ih hl hsz=> ?_
 have loop:∀(m k:Nat) (acc:List aa),l.parts.length-k=m->acc++aa.allL (l.parts.drop k)=l.all->jl (k,l,acc,())=some (l.all,()):=by
  intro m
  induction m with
  |zero=>
   intro k acc hk ha
   have hlt:¬k<l.parts.length:=by omega
   obtain⟨hd,g1⟩:=iE hlt
   rw[hd,aa.allL,U0]at ha
   rw[jl]
   simp only[TY,T0,T8,XG,XH,TZ,T6,T1,T2,XL,XI,T9,hlt,ha]
  |succ m ihm=>
   intro k acc hk ha
   have hlt:k<l.parts.length:=by omega
   obtain⟨p,hp,hm,hd,g1,g2⟩:=eg hlt
   rw[hd,aa.allL,<-UQ]at ha
   have hsz2:acc.length+p.all.length<=1000000:=by
    have:=congrArg Wd ha
    simp only[Uh]at this
    omega
   have hle:acc.length+p.all.length<=4294967296:=by omega
   rw[jl]
   simp only[TY,T0,T8,XG,XH,TZ,T6,T1,T2,XL,XI,T9,g1,g2,hlt,hp,ih p hm (hl.part hm) (by omega),bC hlt hl.len,hle]
   exact ihm (k+1) _ (by omega) ha
 have h:=loop _ 0 [l] rfl (by rw[l.all_eq];rfl)
 simp only[Vr,Vf,UT]at h
 rw[n_57]
 simp only[h,TY,T0,T8,XG,XH,TZ,T6,T1,T2,XL,XI,T9]
theorem Sb(dep:Int)(c:al)(l:aa)(ps:List aa)(hn:ps.length<=9223372036854775807)(k:Nat)(a:Int)(h0:0<=a)(h1:a<=far):
 aC (dep,a,ps,ps.length,k,c,l,())=some (dep,min far (a+c6 (ps.drop k)),c,l,()):=by
 have hf:far=1099511627776:=rfl
 rw[aC]
 by_cases hlt:k<ps.length
 ·obtain⟨p,hp,hm,hd,g1,g2⟩:=eg hlt
  have b1:=f8 p
  have b2:=gn (ps.drop (k+1))
  simp only[TY,T0,T8,XG,XH,TZ,T6,T1,T2,XL,XI,T9,g1,g2,hlt,hp,y56,Mb h0 b1,bC hlt hn]
  rw[Sb dep c l ps hn (k+1) _ (by omega) (by omega),hd,c6]
  have e:min far (min far (a+j5 p)+c6 (ps.drop (k+1)))=min far (a+(j5 p+c6 (ps.drop (k+1)))):=by omega
  rw[e]
 ·obtain⟨hd,g1⟩:=iE hlt
  have e:min far (a+0)=a:=by omega
  simp only[TY,T0,T8,XG,XH,TZ,T6,T1,T2,XL,XI,T9,hlt,hd,c6,e]
termination_by ps.length-k
def Ku(s:Int×Int×Bool):al:=⟨s.1,s.2.1,s.2.2⟩
theorem y45:∀(l:aa) (dep c d:Int) (g:Bool),l.Fits->0<=c->c+l.all.length<=1000000->0<=dep->dep+l.depth<=1000000->
 n_126sf4a5 (l,dep,⟨c,d,g⟩,())=some (Ku (l.look dep c d g),()):=by
 refine aa.ind λl ih dep c d g hl hc0 hc1 hd0 hd1=> ?_
 have hf:far=1099511627776:=rfl
 have hlen:=hl.len
 have loop:∀(m k:Nat) (s:Int×Int×Bool),l.parts.length-k=m->0<=s.1->s.1+(aa.allL (l.parts.drop k)).length<=1000000->
  bu (dep,l.parts,l.parts.length,k,Ku s,())=some (Ku (aa.lookL (l.parts.drop k) (dep+1) s),()):=by
  intro m
  induction m with
  |zero=>
   intro k s hk hs0 hs1
   have hlt:¬k<l.parts.length:=by omega
   obtain⟨hd,g1⟩:=iE hlt
   rw[bu]
   simp only[TY,T0,T8,XG,XH,TZ,T6,T1,T2,XL,XI,T9,hlt,hd,aa.lookL]
  |succ m ihm=>
   intro k s hk hs0 hs1
   have hlt:k<l.parts.length:=by omega
   obtain⟨p,hp,hm,hd,g1,g2⟩:=eg hlt
   rw[hd]at hs1⊢
   simp only[aa.allL,Uh]at hs1
   have hdp:=aa.depth_mem hm
   have hcnt:=p.look_cnt (dep+1) s.1 s.2.1 s.2.2
   have e3:i64.wrap (dep+1)=dep+1:=cV (by omega) (by omega)
   rw[bu]
   have hih:=ih p hm (dep+1) s.1 s.2.1 s.2.2 (hl.part hm) hs0 (by omega) (by omega) (by omega)
   simp only[TY,T0,T8,XG,XH,TZ,T6,T1,T2,XL,XI,T9,g1,g2,hlt,hp,e3]
   have:(Ku s)=⟨s.1,s.2.1,s.2.2⟩:=rfl
   rw[this,hih]
   simp only[TY,T0,T8,XG,XH,TZ,T6,T1,T2,XL,XI,T9,bC hlt hlen,aa.lookL]
   exact ihm (k+1) _ (by omega) (by omega) (by omega)
 have hall:1<=l.all.length:=by rw[l.all_eq];simp
 have e1:i64.wrap (c+1)=c+1:=cV (by omega) (by omega)
 have h14:=Sb dep ⟨c+1,max d dep,g||decide (c+1>60)||decide (dep>5)||decide ((l.parts.length:Int)>12)⟩ l l.parts hlen 0 0 (by omega) (by decide)
 simp only[Vr,Vf,UT,XD]at h14
 have p1:(if g=true then some (dep,al.mk (i64.wrap (c+(1:Int))) (max d dep) true,l,())
  else if decide (i64.wrap (c+(1:Int))>(60:Int))=true then some (dep,al.mk (i64.wrap (c+(1:Int))) (max d dep) true,l,())
  else if decide (dep>(5:Int))=true then some (dep,al.mk (i64.wrap (c+(1:Int))) (max d dep) true,l,())
  else some (dep,al.mk (i64.wrap (c+(1:Int))) (max d dep) (decide ((l.parts.length:Int)>(12:Int))),l,()))=
  some (dep,(⟨c+1,max d dep,g||decide (c+1>60)||decide (dep>5)||decide ((l.parts.length:Int)>12)⟩:al),l,()):=by
  rw[e1]
  cases g
  ·by_cases h1:c+1>60
   ·simp[h1]
   ·by_cases h2:dep>5
    ·simp[h1,h2]
    ·simp[h1,h2]
  ·simp
 rw[n_126sf4a5]
 simp only[]
 rw[p1]
 simp only[TY,T0,T8,XG,XH,TZ,T6,T1,T2,XL,XI,T9]
 rw[l.look_eq]
 generalize hg1:(g||decide (c+1>60)||decide (dep>5)||decide ((l.parts.length:Int)>12))=g1 at h14⊢
 have p2:∀{B:Type} (K:Int×al×aa×Unit->Option B),(((if l.kind=2 then(if g1=true then some (dep,al.mk (c+1) (max d dep) true,l,())else some (dep,al.mk (c+1) (max d dep) (decide (l.n>64)),l,())).bind λx2=>some (x2.1,x2.2.1,x2.2.2.1,())
  else if l.kind=5 then(if g1=true then some (dep,al.mk (c+1) (max d dep) true,l,())else some (dep,al.mk (c+1) (max d dep) (decide (l.n>1000)),l,())).bind λx2=>some (x2.1,x2.2.1,x2.2.2.1,())
  else if l.kind=7 then(if g1=true then some (dep,al.mk (c+1) (max d dep) true,l,())else some (dep,al.mk (c+1) (max d dep) (decide (l.n>65536)),l,())).bind λx2=>some (x2.1,x2.2.1,x2.2.2.1,())
  else if l.kind=9 then(aC (dep,0,l.parts,(l.parts.length:Int),0,⟨c+1,max d dep,g1⟩,l,())).bind λx2=>(if x2.2.2.1.large=true then some (x2.1,al.mk x2.2.2.1.count x2.2.2.1.deep true,x2.2.2.2.1,())else some (x2.1,al.mk x2.2.2.1.count x2.2.2.1.deep (decide (x2.2.1>64)),x2.2.2.2.1,())).bind λx3=>some (x3.1,x3.2.1,x3.2.2.1,())
  else some (dep,(⟨c+1,max d dep,g1⟩:al),l,())):Option (Int×al×aa×Unit)).bind K)=K (dep,⟨c+1,max d dep,g1||l.big1⟩,l,()):=by
  intro B K
  by_cases h2:l.kind=2
  ·have e2:l.big1=decide (l.n>64):=by simp[aa.big1,h2]
   rw[e2];cases g1<;>simp[h2]
  by_cases h5:l.kind=5
  ·have e2:l.big1=decide (l.n>1000):=by simp[aa.big1,h5]
   rw[e2];cases g1<;>simp[h5]
  by_cases h7:l.kind=7
  ·have e2:l.big1=decide (l.n>65536):=by simp[aa.big1,h7]
   rw[e2];cases g1<;>simp[h7]
  by_cases h9:l.kind=9
  ·have e2:l.big1=decide (min far (c6 l.parts)>64):=by simp[aa.big1,h9]
   rw[e2,h14];cases g1<;>simp[h9]
  ·have e2:l.big1=false:=by simp[aa.big1,h2,h5,h7,h9]
   simp[h2,h5,h7,h9,e2]
 rw[p2]
 simp only[]
 cases hg2:(g1||l.big1)with
 |true=>simp[Ku]
 |false=>
  have h:=loop _ 0 (c+1,max d dep,false) rfl (by simp only[];omega) (by rw[l.all_eq,Ui]at hc1;simp only[UT];omega)
  simp only[Vr,Vf,UT,Ku]at h
  simp only[TY,T0,T8,XG,XH,TZ,T6,T1,T2,XL,XI,T9,h]
  rfl
end Go.Proofs.YtpelkenpapfadaaGreatDoor
end
section
namespace Go.Proofs.YtpelkenpapfadaaGreatDoor
set_option maxRecDepth 20000
theorem y62(n lo hi:Int):HI (n,lo,hi,())=some (decide (lo<=n/\n<=hi),()):=by
 by_cases h1:n>=lo<;>simp[HI,h1]
theorem y76(l:aa):H6 (l,())=some (p5 l,()):=by
 unfold H6 p5
 by_cases h4:l.kind=4
 ·simp[h4]
 by_cases h5:l.kind=5
 ·simp[h5]
 by_cases h6:l.kind=6
 ·simp[h6]
 by_cases h9:l.kind=9
 ·simp[h9]
 by_cases h8:l.kind=8
 ·simp[h8]
 ·simp[h4,h5,h6,h9,h8]
theorem y51(k:Int):HU (k,())=some (uX k,()):=by
 simp only[HU,uX,XL];(repeat' split)<;>simp_all
theorem Ru(l:aa)(hn:l.parts.length<=9223372036854775807)(k:Nat):ip (k,l,())=some (if(l.parts.drop k).all fA=true then .inr (l,())else .inl (false,())):=by
 rw[ip]
 by_cases hlt:k<l.parts.length
 ·obtain⟨p,hp,hm,hd,g1,g2⟩:=eg hlt
  rw[hd,Vq]
  by_cases q1:p.kind=1
  ·have hb:fA p=true:=by simp[fA,q1]
   have q1':(p.kind !=1)=false:=by simp[q1]
   simp only[TY,T0,T8,XG,XH,TZ,T6,T1,T2,XL,XI,T9,g1,g2,hlt,hp,q1',bC hlt hn,hb,Vg]
   exact Ru l hn (k+1)
  ·have q1':(p.kind !=1)=true:=by simp[q1]
   by_cases q2:p.kind=2
   ·have hb:fA p=true:=by simp[fA,q2]
    have q2':(p.kind !=2)=false:=by simp[q2]
    simp only[TY,T0,T8,XG,XH,TZ,T6,T1,T2,XL,XI,T9,g1,g2,hlt,hp,q1',q2',bC hlt hn,hb,Vg]
    exact Ru l hn (k+1)
   ·have hb:fA p=false:=by simp[fA,q1,q2]
    have q2':(p.kind !=2)=true:=by simp[q2]
    simp only[TY,T0,T8,XG,XH,TZ,T6,T1,T2,XL,XI,T9,g1,g2,hlt,hp,q1',q2',bC hlt hn,hb,Vx]
 ·obtain⟨hd,g1⟩:=iE hlt
  simp only[TY,T0,T8,XG,XH,TZ,T6,T1,T2,XL,XI,T9,hlt,hd,List.all_nil]
termination_by l.parts.length-k
theorem y53(l:aa)(hn:l.parts.length<=9223372036854775807):HW (l,())=some (l.isS,()):=by
 have h:=Ru l hn 0
 simp only[Vr,Vf,UT]at h
 unfold HW aa.isS
 simp only[y62,y76,TY,T0,T8,XG,XH,TZ,T6,T1,T2,XL,XI,T9]
 by_cases h1:0<=l.kind/\l.kind<=9
 ·cases h2:p5 l
  ·simp[h1,h2]
  ·have e:(l.flag&&l.kind !=2)=(if l.flag=true then(l.kind !=2)else false):=by cases l.flag<;>simp
   cases h3:(l.flag&&l.kind !=2)
   ·have h3':(if l.flag=true then some (l.kind !=2,l,())else some (false,l,()))=some (false,l,()):=by
     rw[e]at h3;cases hf:l.flag<;>simp_all
    simp only[h1,and_self,XM,T7,TZ,XH,T0,h3',T5,Bool.and_self,Vg]
    unfold NB
    by_cases k2:l.kind=2
    ·simp[k2]
    by_cases k7:l.kind=7
    ·simp[k7]
    by_cases k5:l.kind=5
    ·simp[k5]
    by_cases k9:l.kind=9
    ·simp only[k9]
     simp[h]
     cases hb:l.parts.all fA
     ·have hb':¬∀x∈l.parts,fA x=true:=by rw[<-Uo,hb];simp
      simp[hb']
     ·have hb':∀x∈l.parts,fA x=true:=Uo.1 hb
      rw[XK hb'];simp
    ·simp[k2,k7,k5,k9]
   ·have h3':(if l.flag=true then some (l.kind !=2,l,())else some (false,l,()))=some (true,l,()):=by
     rw[e]at h3;cases hf:l.flag<;>simp_all
    simp[h1,h3']
 ·simp[h1]
theorem PR(F:(List aa×Int×Int×Unit)->Option ((Int×Unit)⊕Unit))(g:aa×Unit->Option (Bool×Unit))(pred:aa->Bool)(ps:List aa)(hn:ps.length<=9223372036854775807)
 (hg:∀p∈ps,g (p,())=some (pred p,()))
 (hF:∀v,F v=(if decide (v.2.2.1<v.2.1)=true then
   if(0:Int)<=v.2.2.1 then
    v.1[v.2.2.1.toNat]?>>=λx1=>
    g (x1,())>>=λx2=>
    if x2.1=true then some (UR (v.2.2.1,()))
    else F (v.1,v.2.1,IntKind.i64.wrap (v.2.2.1+(1:Int)),())
   else none
 else some (UW ())))(k:Nat):
 F (ps,ps.length,k,())=some (if D4 pred (ps.drop k) k= -1 then .inr ()else .inl (D4 pred (ps.drop k) k,())):=by
 rw[hF]
 by_cases hlt:k<ps.length
 ·obtain⟨p,hp,hm,hd,g1,g2⟩:=eg hlt
  rw[hd,D4]
  cases hq:pred p
  ·simp only[TY,T0,T8,XG,XH,TZ,T6,T1,T2,XL,XI,T9,g1,g2,hlt,hp,hg p hm,hq,bC hlt hn]
   rw[PR F g pred ps hn hg hF (k+1)]
   simp
  ·have:¬((k:Int)= -1):=by omega
   simp only[TY,T0,T8,XG,XH,TZ,T6,T1,T2,XL,XI,T9,g1,g2,hlt,hp,hg p hm,hq,this]
 ·obtain⟨hd,g1⟩:=iE hlt
  simp only[TY,T0,T8,XG,XH,TZ,T6,T1,T2,XL,XI,T9,hlt,hd,D4]
termination_by ps.length-k
theorem y74(p:aa):Ex (p,())=some (!fA p,()):=by
 unfold Ex fA
 by_cases h1:p.kind=1
 ·simp[h1]
 ·have:(p.kind==1)=false:=by simp[h1]
  simp[h1,this]
  rfl
theorem TX(ps:List aa)(hn:ps.length<=9223372036854775807):jg (ps,())=some (ps.any λp=> !fA p,()):=by
 have h:=PR dL Ex (λp=> !fA p) ps hn (λp _=>y74 p) (λv=>by rw[dL]) 0
 simp only[Vr,Vf,UT]at h
 have h2:lY (ps,())=some (D4 (λp=> !fA p) ps 0,()):=by
  unfold lY
  simp only[h,TY,T0,T8,XG,XH,TZ,T6,T1,T2,XL,XI,T9]
  by_cases hi:D4 (λp=> !fA p) ps 0= -1<;>simp[hi]
 unfold jg
 simp only[h2,TY,T0,T8,XG,XH,TZ,T6,T1,T2,XL,XI,T9,sN _ ps 0 (WY 0)]
theorem y49:∀(l:aa),l.Fits->fX (l,())=some (l.right,()):=by
 refine aa.ind λl ih hl=> ?_
 have hn:=hl.len
 have h:=PR n_189c167l2 n_167 (λp=> !p.right) l.parts hn (λp hp=>by rw[n_167];simp only[ih p hp (hl.part hp),TY,T0,T8,XG,XH,TZ,T6,T1,T2,XL,XI,T9]) (λv=>by rw[n_189c167l2]) 0
 simp only[Vr,Vf,UT]at h
 have h2:n_189c167 (l.parts,())=some (D4 (λp=> !p.right) l.parts 0,()):=by
  rw[n_189c167]
  simp only[h,TY,T0,T8,XG,XH,TZ,T6,T1,T2,XL,XI,T9]
  by_cases hi:D4 (λp=> !p.right) l.parts 0= -1<;>simp[hi]
 have h75:n_165c167 (l.parts,())=some (l.parts.any λp=> !p.right,()):=by
  rw[n_165c167]
  simp only[h2,TY,T0,T8,XG,XH,TZ,T6,T1,T2,XL,XI,T9,sN _ l.parts 0 (WY 0)]
 have h74:=TX l.parts hn
 have he:((l.parts.any λp=> !p.right))= !(l.parts.all aa.right):=by rw[Xf]
 rw[he]at h75
 have key:0<=l.kind/\l.kind<=9->fX (l,())=some ((nbS l&& !((l.parts.length:Int) !=pcS l)&& !(l.flag&&l.kind !=2)&& !(l.kind==9&&l.parts.any λp=> !fA p))&&l.parts.all aa.right,()):=by
  intro hk
  have hk':l.kind=0\/l.kind=1\/l.kind=2\/l.kind=3\/l.kind=4\/l.kind=5\/l.kind=6\/l.kind=7\/l.kind=8\/l.kind=9:=by omega
  rw[fX]
  unfold nbS pcS
  generalize l.parts.all aa.right=ar at h75⊢
  generalize (l.parts.any λp=> !fA p)=ab at h74⊢
  rcases hk' with h0|h0|h0|h0|h0|h0|h0|h0|h0|h0
  ·cases hf:l.flag<;>by_cases hn0:l.n=0<;>by_cases hp:l.parts=[]<;>cases ar<;>(try rw[hp]at h75)<;>simp[h0,hf,hn0,hp,h75]
  ·cases hf:l.flag<;>by_cases hn0:l.n=0<;>by_cases hp:l.parts=[]<;>cases ar<;>(try rw[hp]at h75)<;>simp[h0,hf,hn0,hp,h75]
  ·cases hf:l.flag<;>by_cases hn0:1<=l.n<;>by_cases hp:l.parts=[]<;>cases ar<;>(try rw[hp]at h75)<;>simp[h0,hf,hn0,hp,h75]
  ·cases hf:l.flag<;>by_cases hn0:l.n=0<;>by_cases hp:l.parts=[]<;>cases ar<;>(try rw[hp]at h75)<;>simp[h0,hf,hn0,hp,h75]
  ·cases hf:l.flag<;>by_cases hn0:l.n=0<;>by_cases hp:(l.parts.length:Int)=1<;>cases ar<;>simp[h0,hf,hn0,hp,h75]
  ·cases hf:l.flag<;>by_cases hn0:0<=l.n<;>by_cases hp:(l.parts.length:Int)=1<;>cases ar<;>simp[h0,hf,hn0,hp,h75]
  ·cases hf:l.flag<;>by_cases hn0:l.n=0<;>cases ar<;>simp[h0,hf,hn0,h75]
  ·cases hf:l.flag<;>by_cases hn0:1<=l.n<;>by_cases hp:l.parts=[]<;>cases ar<;>(try rw[hp]at h75)<;>simp[h0,hf,hn0,hp,h75]
  ·cases hf:l.flag<;>by_cases hn0:l.n=0<;>by_cases hp:(l.parts.length:Int)<1<;>cases ar<;>simp[h0,hf,hn0,hp,h75]<;>omega
  ·cases hf:l.flag<;>by_cases hn0:l.n=0<;>cases ab<;>cases ar<;>simp[h0,hf,hn0,h75,h74]
 rw[l.right_eq]
 by_cases hk:0<=l.kind/\l.kind<=9
 ·rw[key hk,Nk l hk]
 ·have hf:l.isS=false:=by unfold aa.isS;simp[hk]
  have h0:¬l.kind=0:=by omega
  have h1:¬l.kind=1:=by omega
  have h2:¬l.kind=2:=by omega
  have h3:¬l.kind=3:=by omega
  have h4:¬l.kind=4:=by omega
  have h5:¬l.kind=5:=by omega
  have h6:¬l.kind=6:=by omega
  have h7:¬l.kind=7:=by omega
  have h8:¬l.kind=8:=by omega
  have h9:¬l.kind=9:=by omega
  rw[fX,hf]
  simp[h0,h1,h2,h3,h4,h5,h6,h7,h8,h9]
theorem y20(l:aa)(hl:l.Fits)(hs:l.all.length<=900000)(hd:l.depth<=900000):E3 (l,())=some (jx l,()):=by
 have h:=y45 l 1 0 0 false hl (by omega) (by omega) (by omega) (by omega)
 unfold E3
 simp only[h,TY,T0,T8,XG,XH,TZ,T6,T1,T2,XL,XI,T9]
 have hlarge:=Bm l
 have:(Ku (l.look 1 0 0 false)).large=l.large:=hlarge
 rw[this]
 unfold jx
 cases hg:l.large with
 |true=>simp
 |false=>
  simp only[TY,T0,T8,XG,XH,TZ,T6,T1,T2,XL,XI,T9,y48 l hl (t_ hg),y49 l hl,UD]
  by_cases hcl:l.cells>4096
  ·have e1:min far l.cells>4096:=by simp[far];omega
   simp[hcl,e1]
  ·have e1:¬(min far l.cells>4096):=by simp[far];omega
   cases hr:l.right<;>simp[hcl,e1]
theorem Rt(l:aa)(hl:l.Fits)(qs:List aa)(hq:∀q∈qs,q∈l.all)(hn:qs.length<=9223372036854775807)(k:Nat):lk (qs,k,())=some (if(qs.drop k).any aa.big=true then .inl (3,())else .inr (qs,())):=by
 rw[lk]
 by_cases hlt:k<qs.length
 ·obtain⟨p,hp,hm,hd,g1,g2⟩:=eg hlt
  have hpf:=hl.mem (hq p hm)
  have hbe:=Kd p (hl p (hq p hm))
  rw[hd,Wk,<-hbe]
  simp only[TY,T0,T8,XG,XH,TZ,T6,T1,T2,XL,XI,T9,g1,g2,hlt,hp,y51,y52 p hpf.len]
  by_cases h1:(p.parts.length:Int)>12
  ·have hb:CZ p=true:=by unfold CZ;simp[h1]
   simp only[h1,TY,T0,T8,XG,XH,TZ,T6,T1,T2,XL,XI,T9,hb,UJ]
  by_cases h2:p.n>uX p.kind
  ·have hb:CZ p=true:=by unfold CZ;simp[h2]
   simp only[h1,h2,TY,T0,T8,XG,XH,TZ,T6,T1,T2,XL,XI,T9,hb,UJ]
  by_cases h3:p.kind=9
  ·by_cases h4:js p.parts>64
   ·have hb:CZ p=true:=by unfold CZ;simp[h3,h4]
    simp only[h1,h2,h3,h4,TY,T0,T8,XG,XH,TZ,T6,T1,T2,XL,XI,T9,hb,UJ,XM]
    simp only[h3]at h2
    simp[h2]
   ·have hb:CZ p=false:=by unfold CZ;simp[h1,h2,h4]
    have ih:=Rt l hl qs hq hn (k+1)
    simp only[h1,h2,h4,TY,T0,T8,XG,XH,TZ,T6,T1,T2,XL,XI,T9,hb,UD,XN,bC hlt hn]
    rw[XK h3]
    simp only[TY,T0,T8,XG,XH,TZ,T6,T1,T2,XL,XI,T9,bC hlt hn]
    exact ih
  ·have hb:CZ p=false:=by unfold CZ;simp[h1,h2,h3]
   simp only[h1,h2,h3,TY,T0,T8,XG,XH,TZ,T6,T1,T2,XL,XI,T9,hb,UD,XN,bC hlt hn]
   exact Rt l hl qs hq hn (k+1)
 ·obtain⟨hd,g1⟩:=iE hlt
  simp only[TY,T0,T8,XG,XH,TZ,T6,T1,T2,XL,XI,T9,hlt,hd,Xe]
termination_by qs.length-k
theorem Sa(l:aa)(hl:l.Fits)(qs:List aa)(hq:∀q∈qs,q∈l.all)(hn:qs.length<=9223372036854775807)(k:Nat):ig (qs,k,())=some (if(qs.drop k).all aa.isS=true then .inr ()else .inl (1,())):=by
 rw[ig]
 by_cases hlt:k<qs.length
 ·obtain⟨p,hp,hm,hd,g1,g2⟩:=eg hlt
  have hpf:=hl.mem (hq p hm)
  rw[hd,Vq]
  simp only[TY,T0,T8,XG,XH,TZ,T6,T1,T2,XL,XI,T9,g1,g2,hlt,hp,y53 p hpf.len]
  cases hi:p.isS
  ·simp
  ·simp only[TY,T0,T8,XG,XH,TZ,T6,T1,T2,XL,XI,T9,T7,Vg,bC hlt hn]
   exact Sa l hl qs hq hn (k+1)
 ·obtain⟨hd,g1⟩:=iE hlt
  simp only[TY,T0,T8,XG,XH,TZ,T6,T1,T2,XL,XI,T9,hlt,hd,List.all_nil]
termination_by qs.length-k
theorem y21(l:aa)(hl:l.Fits)(hs:l.all.length<=900000)(hd:l.depth<=900000):Bo (l,())=some (jx l,()):=by
 unfold Bo
 have a:=Rt l hl l.all (λq h=>h) (by omega) 0
 have b:=Sa l hl l.all (λq h=>h) (by omega) 0
 simp only[Vr,Vf,UT]at a b
 simp only[TY,T0,T8,XG,XH,TZ,T6,T1,T2,XL,XI,T9,y46 l hl (by omega),y47 l hl (by omega),y50 l hl]
 by_cases h1:(l.all.length:Int)>60
 ·have:jx l=3:=by unfold jx aa.large;simp;omega
  simp[h1,this]
 by_cases h2:(l.depth:Int)>5
 ·have:jx l=3:=by unfold jx aa.large;simp;omega
  simp[h1,h2,this]
 by_cases h3:l.cells>4096
 ·have:jx l=3:=by unfold jx;simp[h3]
  have e1:min 100000 l.cells>4096:=by omega
  simp[h1,h2,e1,this]
 have e1:¬min 100000 l.cells>4096:=by omega
 have hval:jx l=if l.all.any aa.big=true then 3 else if l.right=true then 0 else 1:=by
  unfold jx aa.large
  rw[decide_eq_false (by omega),decide_eq_false (by omega),decide_eq_false (by omega)];simp
 simp only[h1,h2,e1,TY,T0,T8,XG,XH,TZ,T6,T1,T2,XL,XI,T9,a,hval,XN]
 cases hb:l.all.any aa.big
 ·simp only[TY,T0,T8,XG,XH,TZ,T6,T1,T2,XL,XI,T9,b]
  have hr:l.right=l.all.all aa.isS:=rfl
  rw[hr]
  cases hi:l.all.all aa.isS<;>simp
 ·simp
end Go.Proofs.YtpelkenpapfadaaGreatDoor
end
