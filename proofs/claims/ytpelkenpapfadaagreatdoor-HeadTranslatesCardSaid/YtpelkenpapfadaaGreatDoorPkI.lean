/-
  Texts of this claim, joined by a program of mine: what the theorem uses.
-/
import Derived.Test.YtpelkenpapfadaaGreatDoorPkH
import Derived.Test.YtpelkenpapfadaaGreatDoorPkE
open Bool renaming and_eq_true→VE,and_false→XL,and_true→XB,false_and→WP,false_eq_true→Vj,false_ne_true→VK,false_or→VX,not_eq_true'→W7,not_false→Vo,not_true→Vq,or_assoc→YP,or_eq_false_iff→We,or_eq_true→V0,or_false→Wx,or_true→Wz,true_and→WA,true_eq_false→Vn,true_or→V2
open ByteArray renaming mk→Vp
open Int renaming le_refl→Yf,mul_nonneg→YJ,natCast_nonneg→Vm,natCast_zero→WB,ofNat_eq_natCast→Wn,ofNat_lt→Vs,toNat→Wq,toNat_natCast→Vl,toNat_zero→WH,zero_add→Yx
open List renaming all_cons→WG,all_eq_true→VH,any_cons→XA,any_eq_false→Yn,any_eq_true→WJ,any_nil→Yw,append_assoc→Wc,append_nil→Wo,cons_append→VM,drop_append→Yv,drop_drop→Xj,drop_eq_getElem_cons→WU,drop_eq_nil_of_le→WR,drop_zero→V6,findIdx?_eq_some_iff_findIdx_eq→Xm,foldl_cons→Wy,foldl_nil→XY,getD_eq_getElem?_getD→VS,getElem?_append_left→VT,getElem?_append_right→VR,getElem?_drop→Wi,getElem?_eq_getElem→Vw,getElem?_map→Vz,getElem?_replicate→Xy,getElem_mem→WI,length→Xt,length_append→VB,length_cons→VD,length_eq_zero_iff→Wr,length_map→VA,length_nil→VU,length_singleton→Vt,length_take→Wj,map→W0,map_append→Wk,map_cons→VC,map_map→V1,map_nil→V8,map_set→Xx,map_singleton→XW,mem_cons→VG,mem_cons_of_mem→Vu,mem_cons_self→Vy,mem_of_getElem?→VI,nil_append→V7,not_all_eq_any_not→Yy,replicate→Wm,set_append_right→XJ,suffix_cons→X2,suffix_refl→VP,tail_cons→Yd,tail_suffix→Xd,take→Yh,take_add_one→Xg,take_of_length_le→Wf
open Nat renaming add_assoc→WE,add_sub_cancel→Yg,add_zero→V3,eq_zero_or_pos→XU,le_refl→VN,le_trans→Wl,lt_irrefl→Xh,lt_or_ge→YX,lt_succ_self→Xv,pow_le_pow_right→YL,sub_self→YW,zero_add→V4,zero_le→WL
open Ne renaming symm→VZ
open Option renaming bind_eq_bind→Vi,bind_none→Vr,bind_some→Vk,getD_some→WY,map_some→VV
open Sum renaming inl→V_,inr→V9
open UInt8 renaming toNat_inj→YA
noncomputable section
set_option linter.unusedSimpArgs false
set_option linter.unusedVariables false
section
namespace Go.Proofs.YtpelkenpapfadaaGreatDoor
open Go.Tx
open IntKind (i64)
set_option maxRecDepth 20000
open Go.Lib
theorem P9(s:ByteArray)(ins:List Bool)(all:List aK)(ln:Int)(i:Nat)(p:Nat)(w:ByteArray)(out:List (List aK))(op dp:Int)(B:Nat)
 (hi:all[i]?=some ⟨(p:Int),w⟩)(hn:i<all.length)(hal:all.length<=1000000000)(hp:ins[p]?=some false)(hv:Inv B out op dp)(hB:B<=1000000000):
 df (s,ins,all,op,ln,dp,(i:Int),out,())=
  df (s,ins,all,(dd aK.text (out,op,dp) ⟨(p:Int),w⟩).2.1,ln,(dd aK.text (out,op,dp) ⟨(p:Int),w⟩).2.2,((i+1:Nat):Int),(dd aK.text (out,op,dp) ⟨(p:Int),w⟩).1,()):=by
 obtain⟨k,out1,e,hk,hl,hr,hc⟩:=hv.opn
 have h0:=hv.d0
 have h1:=hv.d1
 have hol:=hv.len
 have hrow:out1[k]?=some (out1.getD k []):=by rw[VS,Vw hk];rfl
 have hrl:(out1.getD k []).length<=B:=hr _ (by rw[VS,Vw hk];exact WI hk)
 have b1:(out1.getD k []).length+1<=4294967296:=by omega
 have b2:out.length+1<=4294967296:=by omega
 have b3:(0:Int)<=(k:Int)/\(k:Int)<(out1.length:Int):=by omega
 have hsl:((out1.map some).set k none).length=out1.length:=by simp
 have wd:i64.wrap (dp+1)=dp+1:=cN (by omega) (by omega)
 have wd2:i64.wrap (dp-1)=dp-1:=cN (by omega) (by omega)
 have x1:(Vp #[123])=oB:=rfl
 have x2:(Vp #[125])=cB:=rfl
 have x3:(Vp #[59])=sB:=rfl
 have hs:dd aK.text (out,op,dp) ⟨(p:Int),w⟩=(out1.set k (out1.getD k []++[⟨(p:Int),w⟩]),nxt w (k:Int) dp):=by
  unfold dd;simp only[e,Vl];rfl
 have hop:((op<0)=True/\out++[[]]=out1/\i64.wrap ((out1.length:Int) -1)=(k:Int))\/(((k:Int)<0)=False/\op=(k:Int)/\out=out1):=by
  rcases hc with⟨a,b,c⟩|⟨a,b⟩
  ·refine .inl ⟨by rw[a];simp,b,?_⟩
   rw[<-b,VB,Vt]
   exact(cN (by omega) (by omega)).trans (by omega)
  ·exact .inr ⟨by simp,a,b⟩
 rw[hs]
 conv=>lhs;rw[df]
 by_cases c1:w=oB
 ·have hx:nxt w (k:Int) dp=((k:Int),dp+1):=by rw[nxt,Y5 c1]
  rw[hx]
  rcases hop with⟨a,b,c⟩|⟨a,b,c⟩<;>simp only[a,b,c,Vi,Vk,Vr,Y1,Y2,Vj,Vn,Vl,Vm,Y6,Y3,Vs,hn,hi,hp,Y7,Y8,and_self,b2,b3,hrow,Vt,b1,hsl,eu _ _ hk,de,x1,aL,c1,wd,bh (a:=i) (by omega)]
 ·by_cases c2:w=cB
  ·have hx:nxt w (k:Int) dp=((k:Int),max (dp-1) 0):=by rw[nxt,Y4 c1,Y5 c2]
   rw[hx]
   rcases hop with⟨a,b,c⟩|⟨a,b,c⟩<;>simp only[a,b,c,Vi,Vk,Vr,Y1,Y2,Vj,Vn,Vl,Vm,Y6,Y3,Vs,hn,hi,hp,Y7,Y8,and_self,b2,b3,hrow,Vt,b1,hsl,eu _ _ hk,de,x1,x2,aL,c2,oc,wd2,bh (a:=i) (by omega)]
  ·by_cases c3:w=sB
   ·by_cases hd0:dp=0
    ·have hx:nxt w (k:Int) dp=(-1,dp):=by rw[nxt,Y4 c1,Y4 c2,Y5 c3,Y5 hd0]
     rw[hx]
     rcases hop with⟨a,b,c⟩|⟨a,b,c⟩<;>simp only[a,b,c,Vi,Vk,Vr,Y1,Y2,Vj,Vn,Vl,Vm,Y6,Y3,Vs,hn,hi,hp,Y7,Y8,and_self,b2,b3,hrow,Vt,b1,hsl,eu _ _ hk,de,x1,x2,x3,aL,c3,so,sc,hd0,beq_self_eq_true,bh (a:=i) (by omega)]
    ·have hx:nxt w (k:Int) dp=((k:Int),dp):=by rw[nxt,Y4 c1,Y4 c2,Y5 c3,Y4 hd0]
     rw[hx]
     have hd1:(dp==0)=false:=beq_eq_false_iff_ne.2 hd0
     rcases hop with⟨a,b,c⟩|⟨a,b,c⟩<;>simp only[a,b,c,Vi,Vk,Y1,Y2,Vj,Vl,Vm,Vs,hn,hi,hp,Y7,Y8,and_self,b2,b3,hrow,Vt,b1,hsl,eu _ _ hk,de,x1,x2,x3,aL,c3,so,sc,hd1,bh (a:=i) (by omega)]
   ·have hx:nxt w (k:Int) dp=((k:Int),dp):=by rw[nxt,Y4 c1,Y4 c2,Y4 c3]
    rw[hx]
    rcases hop with⟨a,b,c⟩|⟨a,b,c⟩<;>simp only[a,b,c,Vi,Vk,Vr,Y1,Y2,Vj,Vn,Vl,Vm,Y6,Y3,Vs,hn,hi,hp,Y7,Y8,and_self,b2,b3,hrow,Vt,b1,hsl,eu _ _ hk,de,x1,x2,x3,aL,c1,c2,c3,bh (a:=i) (by omega)]
theorem PZ(c:UInt8):((c.toNat:Int)==10)=(c==10):=by
 have h10:(c.toNat=10)↔c=10:=⟨λh=>YA.1 h,λh=>by rw[h];rfl⟩
 by_cases h:c=10
 ·rw[h];rfl
 ·rw[beq_eq_false_iff_ne.2 h,beq_eq_false_iff_ne];intro e;exact h (h10.1 (by omega))
theorem P7(s:ByteArray)(ins:List Bool)(all:List aK)(ln op dp:Int)(i:Nat)(p:Nat)(w:ByteArray)(out:List (List aK))
 (hi:all[i]?=some ⟨(p:Int),w⟩)(hn:i<all.length)(hal:all.length<=1000000000)(hp:ins[p]?=some true)(hps:p<=s.size)(hsz:s.size<=1000000000)(hst:p=0\/s.data.toList.getD (p-1) 0=10)(hol:out.length<=1000000000):
 df (s,ins,all,op,ln,dp,(i:Int),out,())=df (s,ins,all,op,(out.length:Int),dp,((i+1:Nat):Int),out++[[⟨(p:Int),w⟩]],()):=by
 have b2:out.length+1<=4294967296:=by omega
 have h01:(0+1<=4294967296)=True:=by simp
 have e1:i64.wrap (((out++[([]:List aK)]).length:Int) -1)=(out.length:Int):=by
  rw[VB,Vt];exact(cN (by omega) (by omega)).trans (by omega)
 have hk:out.length<(out++[([]:List aK)]).length:=by simp
 have hrow:(out++[([]:List aK)])[out.length]?=some []:=by simp
 have b3:(0:Int)<=(out.length:Int)/\(out.length:Int)<((out++[([]:List aK)]).length:Int):=by omega
 have hsl:(((out++[([]:List aK)]).map some).set out.length none).length=(out++[([]:List aK)]).length:=by simp
 have hset:(out++[([]:List aK)]).set out.length [⟨(p:Int),w⟩]=out++[[⟨(p:Int),w⟩]]:=by
  rw[XJ _ _ (VN _),YW];rfl
 conv=>lhs;rw[df]
 rcases XU p with h0|h0
 ·have z:((p:Int)==0)=true:=by rw[h0];rfl
  simp only[z,Y1,Y2,Vj,Vi,Vk,Vl,Vm,Vs,hn,hi,hp,Y7,e1,b2,b3,and_self,hrow,VU,Vt,h01,hsl,eu _ _ hk,de,V7,hset,bh (a:=i) (by omega)]
 ·have z:((p:Int)==0)=false:=beq_eq_false_iff_ne.2 (by omega)
  have z1:i64.wrap ((p:Int) -1)=((p-1:Nat):Int):=(cN (by omega) (by omega)).trans (by omega)
  have z2:s.data.toList.getD (p-1) 0=10:=by rcases hst with h|h;omega;exact h
  have z3:((((10:UInt8).toNat:Nat):Int)==10)=true:=rfl
  simp only[z,z1,bU (s:=s) (i:=p-1) (by omega),z2,z3,Y1,Y2,Vj,Vi,Vk,Vl,Vm,Vs,hn,hi,hp,Y7,e1,b2,b3,and_self,hrow,VU,Vt,h01,hsl,eu _ _ hk,de,V7,hset,bh (a:=i) (by omega)]
theorem P8(s:ByteArray)(ins:List Bool)(all:List aK)(op dp:Int)(i:Nat)(p:Nat)(w:ByteArray)(out:List (List aK))(row:List aK)
 (hi:all[i]?=some ⟨(p:Int),w⟩)(hn:i<all.length)(hal:all.length<=1000000000)(hp:ins[p]?=some true)(hps:p<=s.size)(hsz:s.size<=1000000000)(h0:0<p)(hst:¬s.data.toList.getD (p-1) 0=10)(hol:out.length<=1000000000)(hrl:row.length<=1000000000):
 df (s,ins,all,op,(out.length:Int),dp,(i:Int),out++[row],())=df (s,ins,all,op,(out.length:Int),dp,((i+1:Nat):Int),out++[row++[⟨(p:Int),w⟩]],()):=by
 have hk:out.length<(out++[row]).length:=by simp
 have hrow:(out++[row])[out.length]?=some row:=by simp
 have b1:row.length+1<=4294967296:=by omega
 have b3:(0:Int)<=(out.length:Int)/\(out.length:Int)<((out++[row]).length:Int):=by omega
 have hsl:(((out++[row]).map some).set out.length none).length=(out++[row]).length:=by simp
 have hset:(out++[row]).set out.length (row++[⟨(p:Int),w⟩])=out++[row++[⟨(p:Int),w⟩]]:=by
  rw[XJ _ _ (VN _),YW];rfl
 have z:((p:Int)==0)=false:=beq_eq_false_iff_ne.2 (by omega)
 have z1:i64.wrap ((p:Int) -1)=((p-1:Nat):Int):=(cN (by omega) (by omega)).trans (by omega)
 have z3:((((s.data.toList.getD (p-1) 0).toNat:Nat):Int)==10)=false:=by rw[PZ];exact beq_eq_false_iff_ne.2 hst
 conv=>lhs;rw[df]
 simp only[z,z1,bU (s:=s) (i:=p-1) (by omega),z3,Y1,Y2,Vj,Vi,Vk,Vl,Vm,Vs,hn,hi,hp,Y7,b1,b3,and_self,hrow,Vt,hsl,eu _ _ hk,de,hset,bh (a:=i) (by omega)]
theorem yW{α:Type}{xs:List α}{i:Nat}{x:α}{r:List α}(h:xs.drop i=x::r):xs[i]?=some x/\i<xs.length/\xs.drop (i+1)=r:=by
 have hlt:i<xs.length:=by
  rcases YX i xs.length with h'|h'
  ·exact h'
  ·rw[WR h']at h;cases h
 rw[WU hlt]at h
 injection h with h1 h2
 exact⟨by rw[Vw hlt,h1],hlt,h2⟩
theorem Hg(s:ByteArray)(ins:List Bool)(all:List aK)(ln:Int)(hal:all.length<=1000000000):∀(ts:List (Nat×List UInt8)) (rest:List aK) (i:Nat) (out:List (List aK)) (op dp:Int) (B:Nat),
 all.drop i=(ts.map λp=>(⟨(p.1:Int),mkB p.2⟩:aK))++rest->(∀p∈ts,ins[p.1]?=some false)->Inv B out op dp->B+ts.length<=1000000000->
 df (s,ins,all,op,ln,dp,(i:Int),out,())=
  df (s,ins,all,((ts.map λp=>(⟨(p.1:Int),mkB p.2⟩:aK)).foldl (dd aK.text) (out,op,dp)).2.1,ln,((ts.map λp=>(⟨(p.1:Int),mkB p.2⟩:aK)).foldl (dd aK.text) (out,op,dp)).2.2,((i+ts.length:Nat):Int),((ts.map λp=>(⟨(p.1:Int),mkB p.2⟩:aK)).foldl (dd aK.text) (out,op,dp)).1,())
  /\all.drop (i+ts.length)=rest
 |[],rest,i,out,op,dp,B,hd,hp,hv,hB=>⟨rfl,hd⟩
 |(p,l)::r,rest,i,out,op,dp,B,hd,hp,hv,hB=>by
  rw[VC,VM]at hd
  obtain⟨h1,h2,h3⟩:=yW hd
  rw[VD]at hB
  have hs:=P9 s ins all ln i p (mkB l) out op dp B h1 h2 hal (hp (p,l) Vy) hv (by omega)
  obtain⟨k1,k2⟩:=Hg s ins all ln hal r rest (i+1) _ _ _ (B+1) h3 (λq hq=>hp q (Vu _ hq)) (hv.step (f:=aK.text) ⟨(p:Int),mkB l⟩) (by omega)
  rw[hs,VC,Wy,VD,show i+(r.length+1)=i+1+r.length by omega]
  exact⟨k1,k2⟩
theorem Hf(s:ByteArray)(ins:List Bool)(all:List aK)(op dp:Int)(hal:all.length<=1000000000)(hsz:s.size<=1000000000)(out:List (List aK))(hol:out.length<=1000000000):∀(ts:List (Nat×List UInt8)) (rest:List aK) (i:Nat) (row:List aK),
 all.drop i=(ts.map λp=>(⟨(p.1:Int),mkB p.2⟩:aK))++rest->(∀p∈ts,ins[p.1]?=some true/\p.1<=s.size/\0<p.1/\¬s.data.toList.getD (p.1-1) 0=10)->row.length+ts.length<=1000000000->
 df (s,ins,all,op,(out.length:Int),dp,(i:Int),out++[row],())=
  df (s,ins,all,op,(out.length:Int),dp,((i+ts.length:Nat):Int),out++[row++(ts.map λp=>(⟨(p.1:Int),mkB p.2⟩:aK))],())
  /\all.drop (i+ts.length)=rest
 |[],rest,i,row,hd,hp,hB=>⟨by rw[V8,Wo];rfl,hd⟩
 |(p,l)::r,rest,i,row,hd,hp,hB=>by
  rw[VC,VM]at hd
  obtain⟨h1,h2,h3⟩:=yW hd
  rw[VD]at hB
  obtain⟨q1,q2,q3,q4⟩:=hp (p,l) Vy
  have hs:=P8 s ins all op dp i p (mkB l) out row h1 h2 hal q1 q2 hsz q3 q4 hol (by omega)
  obtain⟨k1,k2⟩:=Hf s ins all op dp hal hsz out hol r rest (i+1) (row++[⟨(p:Int),mkB l⟩]) h3 (λq hq=>hp q (Vu _ hq)) (by rw[VB,Vt];omega)
  rw[hs,VC,VD,show i+(r.length+1)=i+1+r.length by omega]
  rw[Wc]at k1
  exact⟨k1,k2⟩
def txt(out:List (List aK)):List (List ByteArray):=out.map λr=>r.map aK.text
theorem NA{α β:Type}(g:α->β)(out:List (List α))(op:Int):opn (out.map λr=>r.map g) op=((opn out op).1.map (λr=>r.map g),(opn out op).2):=by
 unfold opn;split<;>simp
theorem L6{α β:Type}(g:α->β)(out:List (List α))(k:Nat)(t:α):add (out.map λr=>r.map g) k (g t)=(add out k t).map λr=>r.map g:=by
 unfold add
 rw[Xx,Wk,XW]
 congr 2
 rw[VS,VS,Vz]
 cases out[k]?<;>rfl
theorem yk:∀(ts:List aK) (out:List (List aK)) (op dp:Int),
 (ts.map aK.text).foldl (dd id) (txt out,op,dp)=(txt (ts.foldl (dd aK.text) (out,op,dp)).1,(ts.foldl (dd aK.text) (out,op,dp)).2)
 |[],out,op,dp=>rfl
 |t::r,out,op,dp=>by
  have:dd id (txt out,op,dp) t.text=(txt (dd aK.text (out,op,dp) t).1,(dd aK.text (out,op,dp) t).2):=by
   unfold dd txt
   simp only[NA,L6,id]
  rw[VC,Wy,Wy,this]
  exact yk r _ _ _
theorem OC(o:Nat)(l:List UInt8):(T o l).map aK.text=sS l:=by
 unfold T sS
 rw[V1]
 have:=nL _ l o 0 (VN _)
 have h2:=congrArg (W0 mkB) this
 rw[V1,V1]at h2
 exact h2
theorem wK:∀(a:List UInt8) (b:Bool),10∉a->oR b false a=Wm a.length b
 |[],b,_=>rfl
 |c::r,b,h=>by
  have h1:(c==10)=false:=beq_eq_false_iff_ne.2 λe=>h (by rw[e];exact Vy)
  rw[oR,h1,wK r _ λe=>h (Vu _ e)];rfl
theorem wJ(a:List UInt8)(b:Bool)(h:10∉a)(hne:a≠[]):oR b true a=Wm a.length (hsh a):=by
 cases a with
 |nil=>exact(hne rfl).elim
 |cons c r=>
  have h1:(c==10)=false:=beq_eq_false_iff_ne.2 λe=>h (by rw[e];exact Vy)
  rw[oR,h1,wK r _ λe=>h (Vu _ e)];rfl
theorem Fq:∀(a r:List UInt8) (b st:Bool),10∉a->∃b' x,oR b st (a++10::r)=oR b st a++x::oR b' true r
 |[],r,b,st,_=>⟨_,_,rfl⟩
 |c::a,r,b,st,h=>by
  have h1:(c==10)=false:=beq_eq_false_iff_ne.2 λe=>h (by rw[e];exact Vy)
  obtain⟨b',x,e⟩:=Fq a r (if st then c==35 else b) false λe=>h (Vu _ e)
  refine⟨b',x,?_⟩
  rw[VM,oR,h1,e,oR,h1];rfl
theorem I9{a:List UInt8}(h:hsh a=true):∃r,a=35::r:=by
 cases a with
 |nil=>cases h
 |cons c r=>exact⟨r,by rw[eq_of_beq h]⟩
theorem Lz(s:ByteArray)(hsz:s.size<=400000000)(ins:List Bool)(all:List aK)(hal:all.length<=1000000000)(ln op dp:Int)(i:Nat)(out:List (List aK))(B:Nat)(a:List UInt8)(o:Nat)(rest:List aK)
 (hnl:10∉a)(hseg:∀k,k<a.length->s.data.toList.getD (o+k) 0=a.getD k 0)(hosz:o+a.length<=s.size)(hst:o=0\/s.data.toList.getD (o-1) 0=10)
 (hins:∀k,k<a.length->ins[o+k]?=some (hsh a))(hd:all.drop i=T o a++rest)(hv:Inv B out op dp)(hB:B+(a.length+1)<=900000000):
 ∃(ln' op' dp':Int) (i':Nat) (out':List (List aK)),df (s,ins,all,op,ln,dp,(i:Int),out,())=df (s,ins,all,op',ln',dp',(i':Int),out',())/\all.drop i'=rest/\
  (txt out',op',dp')=bi (txt out,op,dp) a/\Inv (B+(a.length+1)) out' op' dp':=by
 have htl:=ku _ a o (VN _)
 have hat:=vD _ a o (VN _)
 cases hh:hsh a with
 |false=>
  obtain⟨k1,k2⟩:=Hg s ins all ln hal (mb o a) rest i out op dp B hd (λp hp=>by
   have:=hat p hp
   have h2:=hins (p.1-o) (by omega)
   rw[show o+(p.1-o)=p.1 by omega,hh]at h2;exact h2) hv (by omega)
  refine⟨_,_,_,_,_,k1,k2,?_,((hv.steps (f:=aK.text) (T o a)).mono (by unfold T;rw[VA];omega))⟩
  rw[bi,Y4 (by rw[hh];exact VK),<-OC o a,yk];rfl
 |true=>
  obtain⟨r,rfl⟩:=I9 hh
  rw[T,yn,VC,VM]at hd
  obtain⟨q1,q2,q3⟩:=yW hd
  have hlen:(35::r).length=r.length+1:=rfl
  have hin0:=hins 0 (by omega)
  rw[hh,V3]at hin0
  have hol:=hv.len
  have e1:=P7 s ins all ln op dp i o (mkB [35]) out q1 q2 hal hin0 (by omega) (by omega) hst (by omega)
  have hat2:=vD _ r (o+1) (VN _)
  have htl2:=ku _ r (o+1) (VN _)
  obtain⟨k1,k2⟩:=Hf s ins all op dp hal (by omega) out (by omega) (mb (o+1) r) rest (i+1) [⟨(o:Int),mkB [35]⟩] q3 (λp hp=>by
   have hp':=hat2 p hp
   have h2:=hins (p.1-o) (by omega)
   rw[show o+(p.1-o)=p.1 by omega,hh]at h2
   refine⟨h2,by omega,by omega,?_⟩
   have h3:=hseg (p.1-1-o) (by omega)
   rw[show o+(p.1-1-o)=p.1-1 by omega]at h3
   rw[h3]
   intro h4
   refine hnl ?_
   rw[<-h4]
   have h5:p.1-1-o<(35::r).length:=by omega
   rw[VS,Vw h5]
   exact WI h5) (by simp only[Vt];omega)
  refine⟨_,_,_,_,_,e1.trans k1,k2,?_,hv.hash _ _ ?_ (by omega)⟩
  ·rw[bi,Y5 hh,<-OC o (35::r),T,yn]
   unfold txt
   rw[Wk];rfl
  ·rw[VB,Vt,VA];omega
theorem NG(s:ByteArray)(hsz:s.size<=400000000)(ins:List Bool)(all:List aK)(hal:all.length<=1000000000):∀(n:Nat) (l:List UInt8),l.length<=n->∀(b:Bool) (o i:Nat) (ln op dp:Int) (out:List (List aK)) (B:Nat),
 s.data.toList.drop o=l->o+l.length=s.size->(o=0\/s.data.toList.getD (o-1) 0=10)->ins.drop o=oR b true l->all.drop i=T o l->Inv B out op dp->B+D3 (lines l)<=900000000->
 ∃out',df (s,ins,all,op,ln,dp,(i:Int),out,())=some (out',())/\txt out'=((lines l).foldl bi (txt out,op,dp)).1:=by
 intro n l hn
 refine my (M:=λl=>∀(b:Bool) (o i:Nat) (ln op dp:Int) (out:List (List aK)) (B:Nat),
  s.data.toList.drop o=l->o+l.length=s.size->(o=0\/s.data.toList.getD (o-1) 0=10)->ins.drop o=oR b true l->all.drop i=T o l->Inv B out op dp->B+D3 (lines l)<=900000000->
  ∃out',df (s,ins,all,op,ln,dp,(i:Int),out,())=some (out',())/\txt out'=((lines l).foldl bi (txt out,op,dp)).1) ?_ ?_ n l hn
 ·intro a ha b o i ln op dp out B hs ho hst hins hall hv hB
  rw[kd ha,gp]at hB
  obtain⟨ln',op',dp',i',out',e1,e2,e3,e4⟩:=Lz s hsz ins all hal ln op dp i out B a o [] ha (λk hk=>by
   rw[<-hs,VS,VS,Wi]) (by omega) hst (λk hk=>by
   rw[wJ a b ha (by intro e;rw[e]at hk;cases hk)]at hins
   have:(ins.drop o)[k]?=some (hsh a):=by rw[hins,Xy,Y5 hk]
   rw[Wi]at this;exact this) (by rw[hall,Wo]) hv (by have:D3 []=0:=rfl;omega)
  refine⟨out',?_,?_⟩
  ·rw[e1,df]
   have hge:¬i'<all.length:=by
    intro h
    rw[WU h]at e2;cases e2
   simp only[Vi,Vk,Vr,Y1,Y2,Vj,Vn,Vl,Vm,Y6,Y3,Vs,hge,Y8]
  ·rw[kd ha,Wy,XY,<-e3]
 ·intro a r ha ih b o i ln op dp out B hs ho hst hins hall hv hB
  rw[gY ha,gp]at hB
  rw[VB,VD]at ho
  obtain⟨b',x,hdr⟩:=Fq a r b true ha
  rw[hdr]at hins
  have hT:T o (a++10::r)=T o a++T (o+a.length+1) r:=by unfold T;rw[vC _ a r o (VN _),Wk]
  rw[hT]at hall
  have hdl:=AR b true a
  obtain⟨ln',op',dp',i',out',e1,e2,e3,e4⟩:=Lz s hsz ins all hal ln op dp i out B a o _ ha (λk hk=>by
   have:(s.data.toList.drop o)[k]?=a[k]?:=by rw[hs,VT hk]
   rw[VS,VS,<-this,Wi]) (by omega) hst (λk hk=>by
   have:(ins.drop o)[k]?=some (hsh a):=by
    rw[hins,VT (by omega),wJ a b ha (by intro e;rw[e]at hk;cases hk),Xy,Y5 hk]
   rw[Wi]at this;exact this) hall hv (by omega)
  have hdr1:s.data.toList.drop (o+a.length+1)=r:=by
   have:(s.data.toList.drop o).drop (a.length+1)=(a++10::r).drop (a.length+1):=by rw[hs]
   rw[Xj]at this
   rw[WE,this,Yv,WR (by omega)];simp
  have hnl:s.data.toList.getD (o+a.length+1-1) 0=10:=by
   have:(s.data.toList.drop o)[a.length]?=some 10:=by rw[hs,VR (VN _),YW];rfl
   rw[Wi]at this
   rw[Yg,VS,this];rfl
  have hins2:ins.drop (o+a.length+1)=oR b' true r:=by
   have:(ins.drop o).drop (a.length+1)=(oR b true a++x::oR b' true r).drop (a.length+1):=by rw[hins]
   rw[Xj]at this
   rw[WE,this,Yv,WR (by omega),hdl];simp
  obtain⟨out2,f1,f2⟩:=ih b' (o+a.length+1) i' ln' op' dp' out' _ hdr1 (by omega) (.inr hnl) hins2 e2 e4 (by omega)
  refine⟨out2,by rw[e1,f1],?_⟩
  rw[f2,gY ha,Wy,<-e3]
theorem f49(s:ByteArray)(hs:s.size<=400000000):∃P,PN (s,())=some (P,())/\txt P=aO s.data.toList:=by
 have htl:=ku _ s.data.toList 0 (VN _)
 rw[b_]at htl
 obtain⟨P,h1,h2⟩:=NG s hs (oR false true s.data.toList) (T 0 s.data.toList) (by unfold T;rw[VA];omega) _ s.data.toList (VN _) false 0 0 (-1) (-1) 0 [] 0
  rfl (by rw[V4,b_]) (.inl rfl) rfl rfl Inv.zero (by rw[kw,b_];omega)
 refine⟨P,?_,h2⟩
 have h1:df (s,oR false true s.data.toList,T 0 s.data.toList,-1,-1,0,0,[],())=some (P,()):=h1
 rw[PN]
 simp only[f85 s (by omega),f53 s (by omega),Vi,Vk,Vr,Y1,Y2,Vj,Vn,Vl,Vm,Y6,Y3,Vs,h1]
theorem Uk(ts:List aK)(hl:ts.length<=1000000000):∀(m j:Nat),ts.length-j=m->j<=ts.length->mS (ts,(j:Int),(ts.map aK.text).take j,())=some (ts.map aK.text,()):=by
 intro m
 induction m with
 |zero=>
  intro j hm hj
  have hlt:¬j<ts.length:=by omega
  rw[mS]
  simp only[Vi,Vk,Vr,Y1,Y2,Vj,Vn,Vl,Vm,Y6,Y3,Vs,hlt,Y8]
  rw[Wf (by rw[VA];omega)]
 |succ m ih=>
  intro j hm hj
  have hlt:j<ts.length:=by omega
  obtain⟨t,hp,hpm,hd,g1,g2⟩:=dP hlt
  have h:=ih (j+1) (by omega) (by omega)
  have ht:(ts.map aK.text).take (j+1)=(ts.map aK.text).take j++[t.text]:=by
   rw[Xg,Vz,hp];rfl
  rw[ht]at h
  have hlen:((ts.map aK.text).take j).length+1<=4294967296:=by rw[Wj,VA];omega
  rw[mS]
  simp only[Vi,Vk,Vr,Y1,Y2,Vj,Vn,Vl,Vm,Y6,Y3,Vs,hlt,Y7,g1,hp,Vt,hlen,bh (a:=j) (by omega),h]
theorem f51(ts:List aK)(hl:ts.length<=1000000000):PP (ts,())=some (ts.map aK.text,()):=by
 have h:=Uk ts hl _ 0 rfl (by omega)
 have h:mS (ts,0,[],())=some (ts.map aK.text,()):=h
 rw[PP]
 simp only[h,Vi,Vk,Vr,Y1,Y2,Vj,Vn,Vl,Vm,Y6,Y3,Vs]
end Go.Proofs.YtpelkenpapfadaaGreatDoor
end
section
namespace Go.Proofs.YtpelkenpapfadaaGreatDoor
open Go.Tx
set_option maxRecDepth 20000
open Go.Lib
abbrev BA:=ByteArray
def e0:BA:=Vp #[]
def Ps(α:Type):=List BA->Option (α×List BA)
def ret{α:Type}(a:α):Ps α:=λl=>some (a,l)
def bnd{α β:Type}(p:Ps α)(q:α->Ps β):Ps β:=λl=>match p l with
 |none=>none
 |some (a,r)=>q a r
def nay(b:Bool):Ps Unit:=λl=>if b=true then none else some ((),l)
structure Sim {α:Type} (p:Ps α) (l:List BA) (w:Bool) (a:α) (l':List BA) (w':Bool):Prop where
 suf:l'<:+l
 bad:w=true->w'=true
 ok:w=false->∀b r,p l=some (b,r)->w'=false/\a=b/\l'=r
 no:w=false->p l=none->w'=true
theorem Sim.bnd{α β:Type}{p:Ps α}{q:α->Ps β}{l l1 l2:List BA}{w w1 w2:Bool}{a:α}{c:β}(h1:Sim p l w a l1 w1)(h2:Sim (q a) l1 w1 c l2 w2):Sim (bnd p q) l w c l2 w2:=by
 refine⟨h2.suf.trans h1.suf,λhw=>h2.bad (h1.bad hw),λhw b r hb=> ?_,λhw hb=> ?_⟩
 ·unfold Proofs.YtpelkenpapfadaaGreatDoor.bnd at hb
  cases hp:p l with
  |none=>rw[hp]at hb;cases hb
  |some x=>
   obtain⟨x1,x2⟩:=x
   rw[hp]at hb
   obtain⟨rfl,rfl,rfl⟩:=h1.ok hw _ _ hp
   exact h2.ok rfl b r hb
 ·unfold Proofs.YtpelkenpapfadaaGreatDoor.bnd at hb
  cases hp:p l with
  |none=>exact h2.bad (h1.no hw hp)
  |some x=>
   obtain⟨x1,x2⟩:=x
   rw[hp]at hb
   obtain⟨rfl,rfl,rfl⟩:=h1.ok hw _ _ hp
   exact h2.no rfl hb
theorem Sim.ret{α:Type}(a:α)(l:List BA)(w:Bool):Sim (ret a) l w a l w:=by
 refine⟨VP l,id,λhw b r hb=> ?_,λhw hb=>by cases hb⟩
 cases hb;exact⟨hw,rfl,rfl⟩
theorem Sim.nay(b:Bool)(l:List BA)(w:Bool):Sim (nay b) l w () l (w||b):=by
 refine⟨VP l,λh=>by rw[h];rfl,λhw x r hb=> ?_,λhw hb=> ?_⟩
 ·unfold Proofs.YtpelkenpapfadaaGreatDoor.nay at hb
  cases b with
  |true=>cases hb
  |false=>cases hb;exact⟨by rw[hw];rfl,rfl,rfl⟩
 ·unfold Proofs.YtpelkenpapfadaaGreatDoor.nay at hb
  cases b with
  |true=>cases w<;>rfl
  |false=>cases hb
theorem Sim.any{α:Type}{p:Ps α}{l l':List BA}(a:α)(h:l'<:+l):Sim p l true a l' true:=⟨h,λ_=>rfl,λh=>(by cases h),λh=>(by cases h)⟩
theorem Sim.wrong{α:Type}{p:Ps α}{l l':List BA}{w:Bool}(a:α)(h:l'<:+l)(hn:p l=none):Sim p l w a l' true:=⟨h,λ_=>rfl,λ_ b r hb=>(by rw[hn]at hb;cases hb),λ_ _=>rfl⟩
theorem Sim.len{α:Type}{p:Ps α}{l l1:List BA}{w w1:Bool}{a:α}(h:Sim p l w a l1 w1):l1.length<=l.length:=h.suf.length_le
theorem Sim.congr{α:Type}{p p':Ps α}{l l1:List BA}{w w1:Bool}{a:α}(h:Sim p l w a l1 w1)(e:p' l=p l):Sim p' l w a l1 w1:=⟨h.suf,h.bad,λhw b r hb=>h.ok hw b r (by rw[<-e];exact hb),λhw hb=>h.no hw (by rw[<-e];exact hb)⟩
def vK(l:List BA):Prop:=∀t∈l,se t/\t.size<=1000000000
theorem vK.suf{l l':List BA}(h:vK l)(hs:l'<:+l):vK l':=λt ht=>h t (hs.subset ht)
def dK(w:BA):List BA->Bool
 |[]=>false
 |s::_=>decide (s=w)
def vm:Ps BA
 |[]=>none
 |s::r=>if s=e0 then none else some (s,r)
def xO(w:BA):Ps Bool:=λl=>some (dK w l,if dK w l=true then l.tail else l)
def qZ(w:BA):Ps Unit:=λl=>if dK w l=true then some ((),l.tail)else none
def cG:List BA->Ps Unit
 |[]=>ret ()
 |w::r=>bnd (qZ w) λ_=>cG r
theorem j_{w:BA}{l:List BA}(h:dK w l=true):∃r,l=w::r:=by
 cases l with
 |nil=>cases h
 |cons s r=>exact⟨r,by rw[of_decide_eq_true h]⟩
theorem fx{α A B:Type}(F:Nat->Option (A⊕B))(xs:List α)(pred:α->Bool)(hit:Nat->A)(e:B)
 (h1:∀j x,j<xs.length->xs[j]?=some x->F j=if pred x=true then some (.inl (hit j))else F (j+1))(h2:F xs.length=some (.inr e)):
 F 0=some (match xs.findIdx? pred with|some k=> .inl (hit k)|none=> .inr e):=by
 have go:∀(m j:Nat),xs.length-j=m->j<=xs.length->F j=some (match(xs.drop j).findIdx? pred with|some k=> .inl (hit (j+k))|none=> .inr e):=by
  intro m
  induction m with
  |zero=>
   intro j hm hj
   have:j=xs.length:=by omega
   rw[this,h2,List.drop_length];rfl
  |succ m ih=>
   intro j hm hj
   have hlt:j<xs.length:=by omega
   rw[h1 j _ hlt (Vw hlt),WU hlt,List.findIdx?_cons]
   cases hp:pred xs[j]with
   |true=>simp
   |false=>
    rw[Y4 VK,ih (j+1) (by omega) (by omega)]
    cases (xs.drop (j+1)).findIdx? pred with
    |none=>simp
    |some k=>simp only[Vj,Y2,VV];congr 3;omega
 have:=go _ 0 rfl (WL _)
 rw[V6]at this
 rw[this]
 cases xs.findIdx? pred with
 |none=>rfl
 |some k=>simp
def uM{α:Type}(xs:List α)(pred:α->Bool):Int:=match xs.findIdx? pred with|some k=>(k:Int)|none=> -1
theorem ix{α:Type}(xs:List α)(pred:α->Bool):decide (uM xs pred>=0)=xs.any pred:=by
 unfold uM
 cases h:xs.findIdx? pred with
 |none=>
  rw[List.findIdx?_eq_none_iff]at h
  have:xs.any pred=false:=by rw[Yn];intro x hx;rw[h x hx];exact VK
  rw[this];rfl
 |some k=>
  have hs:(xs.findIdx? pred).isSome=true:=by rw[h];rfl
  rw[List.findIdx?_isSome]at hs
  rw[hs];simp
def kn(k:Int)(name:BA)(x:Item):Bool:=x.kind==k&&decide (x.name0=name)
def fH(it:List Item)(k:Int)(name:BA):Bool:=it.any (kn k name)
def z0:aa:=aa.mk 0 0 false []
def zI:Item:=Item.mk 0 e0 0 [] z0
def je(it:List Item)(k:Int)(name:BA):Item:=(it.find? (kn k name)).getD zI
def inE(name:BA)(x:Item):Bool:=x.kind==1&&x.names.any λs=>decide (name=s)
def gG(it:List Item)(name:BA):Bool:=fH it 0 name||it.any (inE name)
theorem PD(k:Int)(name:BA)(x:Item):(if(x.kind==k)=true then some ((x.name0.toList==name.toList,k,name,()):Bool×Int×BA×Unit)else some (false,k,name,()))=some (kn k name x,k,name,()):=by
 unfold kn
 cases (x.kind==k)with
 |true=>simp[aL]
 |false=>simp
theorem Uf(x:Item)(k:Int)(name:BA):hH (x,k,name,())=some (kn k name x,k,name,()):=by
 have h:=PD k name x
 rw[hH]
 simp only[h,Vi,Vk]
theorem f84(x:Item)(k:Int)(name:BA):gd (x,k,name,())=some (kn k name x,k,name,()):=by
 have h:=PD k name x
 rw[gd]
 simp only[h,Vi,Vk]
theorem Ul(it:List Item)(hl:it.length<=1000000000)(k:Int)(name:BA):jL (it,k,name,())=some (uM it (kn k name),it,k,name,()):=by
 have h:=fx (λj=>cZ ((it.length:Int),(j:Int),it,k,name,())) it (kn k name) (λj=>((j:Int),it,k,name,())) (it,k,name,()) (λj x hj hx=>by
  have g:(0:Int)<=(j:Int)/\(j:Int)<(it.length:Int):=by omega
  rw[cZ]
  simp only[Vi,Vk,Vr,Y1,Y2,Vj,Vn,Vl,Vm,Y6,Y3,Vs,hj,g,and_self,Y7,hx,Uf,bh (a:=j) (by omega)]) (by
  rw[cZ]
  simp only[Vi,Vk,Vr,Y1,Y2,Vj,Vn,Vl,Vm,Y6,Y3,Vs,Xh,Y8])
 have h:cZ ((it.length:Int),0,it,k,name,())=_:=h
 rw[jL]
 simp only[h,Vi,Vk,Vr,Y1,Y2,Vj,Vn,Vl,Vm,Y6,Y3,Vs,uM]
 cases it.findIdx? (kn k name)<;>rfl
theorem Um(it:List Item)(hl:it.length<=1000000000)(k:Int)(name:BA):jK (it,k,name,())=some (uM it (kn k name),it,k,name,()):=by
 have h:=fx (λj=>cY ((it.length:Int),(j:Int),it,k,name,())) it (kn k name) (λj=>((j:Int),it,k,name,())) (it,k,name,()) (λj x hj hx=>by
  have g:(0:Int)<=(j:Int)/\(j:Int)<(it.length:Int):=by omega
  rw[cY]
  simp only[Vi,Vk,Vr,Y1,Y2,Vj,Vn,Vl,Vm,Y6,Y3,Vs,hj,g,and_self,Y7,hx,f84,bh (a:=j) (by omega)]) (by
  rw[cY]
  simp only[Vi,Vk,Vr,Y1,Y2,Vj,Vn,Vl,Vm,Y6,Y3,Vs,Xh,Y8])
 have h:cY ((it.length:Int),0,it,k,name,())=_:=h
 rw[jK]
 simp only[h,Vi,Vk,Vr,Y1,Y2,Vj,Vn,Vl,Vm,Y6,Y3,Vs,uM]
 cases it.findIdx? (kn k name)<;>rfl
theorem MB(k:Int)(name:BA)(it:List Item)(hl:it.length<=1000000000):bO (k,name,it,())=some (fH it k name,it,()):=by
 rw[bO,kf]
 simp only[Ul it hl,Vi,Vk,Vr,Y1,Y2,Vj,Vn,Vl,Vm,Y6,Y3,Vs,ix];rfl
theorem lA{α:Type}{xs:List α}{pred:α->Bool}:xs.find? pred=(xs.findIdx? pred).bind λi=>xs[i]?:=by
 induction xs with
 |nil=>rfl
 |cons x r ih=>
  rw[List.find?_cons,List.findIdx?_cons]
  cases pred x with
  |true=>rfl
  |false=>
   simp only[Vj,Y2,ih]
   cases r.findIdx? pred<;>rfl
theorem f47(k:Int)(name:BA)(it:List Item)(hl:it.length<=1000000000):jC (k,name,it,())=some (fH it k name,it,je it k name,()):=by
 rw[jC]
 simp only[Um it hl,Vi,Vk,Vr,Y1,Y2,Vj,Vn,Vl,Vm,Y6,Y3,Vs]
 unfold fH je
 rw[<-ix,lA]
 unfold uM
 cases h:it.findIdx? (kn k name)with
 |none=>rfl
 |some i=>
  have hi:i<it.length:=(Xm.1 h).1
  have c1:¬((i:Int)<0):=by omega
  have c2:(0:Int)<=(i:Int)/\(i:Int)<(it.length:Int):=by omega
  have c3:(i:Int)>=0:=by omega
  simp only[c1,c2,c3,Y8,Y7,Y1,and_self,Vl,Vw hi,Vk,WY,Vj,Y2]
theorem f44(l:List BA)(hl:l.length<=1000000000)(name:BA):Lr (l,name,())=some (uM l (λs=>decide (name=s)),()):=by
 have h:=fx (λj=>mQ (l,name,(l.length:Int),(j:Int),())) l (λs=>decide (name=s)) (λj=>((j:Int),())) () (λj x hj hx=>by
  rw[mQ]
  simp only[Vi,Vk,Vr,Y1,Y2,Vj,Vn,Vl,Vm,Y6,Y3,Vs,hj,Y7,hx,aL,bh (a:=j) (by omega)]) (by
  rw[mQ]
  simp only[Vi,Vk,Vr,Y1,Y2,Vj,Vn,Vl,Vm,Y6,Y3,Vs,Xh,Y8])
 have h:mQ (l,name,(l.length:Int),0,())=_:=h
 rw[Lr]
 simp only[h,Vi,Vk,Vr,Y1,Y2,Vj,Vn,Vl,Vm,Y6,Y3,Vs,uM]
 cases l.findIdx? _<;>rfl
theorem Tq(l:List BA)(hl:l.length<=1000000000)(name:BA):Ai (l,name,())=some (l.any (λs=>decide (name=s)),()):=by
 rw[Ai]
 simp only[f44 l hl,Vi,Vk,Vr,Y1,Y2,Vj,Vn,Vl,Vm,Y6,Y3,Vs,ix]
def m9(it:List Item):Prop:=∀x∈it,x.names.length<=1000000000
theorem Ue(x:Item)(hx:x.names.length<=1000000000)(name:BA):hG (x,name,())=some (inE name x,name,()):=by
 rw[hG]
 unfold inE
 cases (x.kind==1)with
 |true=>simp[Tq _ hx]
 |false=>simp
theorem Un(it:List Item)(hl:it.length<=1000000000)(hn:m9 it)(name:BA):jM (it,name,())=some (uM it (inE name),it,name,()):=by
 have h:=fx (λj=>c6 ((it.length:Int),(j:Int),it,name,())) it (inE name) (λj=>((j:Int),it,name,())) (it,name,()) (λj x hj hx=>by
  have g:(0:Int)<=(j:Int)/\(j:Int)<(it.length:Int):=by omega
  rw[c6]
  simp only[Vi,Vk,Vr,Y1,Y2,Vj,Vn,Vl,Vm,Y6,Y3,Vs,hj,g,and_self,Y7,hx,Ue x (hn x (VI hx)),bh (a:=j) (by omega)]) (by
  rw[c6]
  simp only[Vi,Vk,Vr,Y1,Y2,Vj,Vn,Vl,Vm,Y6,Y3,Vs,Xh,Y8])
 have h:c6 ((it.length:Int),0,it,name,())=_:=h
 rw[jM]
 simp only[h,Vi,Vk,Vr,Y1,Y2,Vj,Vn,Vl,Vm,Y6,Y3,Vs,uM]
 cases it.findIdx? (inE name)<;>rfl
theorem RY(it:List Item)(hl:it.length<=1000000000)(hn:m9 it)(name:BA):g_ (it,name,())=some (it.any (inE name),it,name,()):=by
 rw[g_]
 simp only[Un it hl hn,Vi,Vk,Vr,Y1,Y2,Vj,Vn,Vl,Vm,Y6,Y3,Vs,ix]
theorem To(name:BA)(it:List Item)(hl:it.length<=1000000000)(hn:m9 it):eG (name,it,())=some (gG it name,it,()):=by
 rw[eG]
 unfold gG
 cases hh:fH it 0 name with
 |true=>simp only[MB _ _ _ hl,hh,Vi,Vk,Vr,Y1,Y2,Vj,Vn,Vl,Vm,Y6,Y3,Vs,V2]
 |false=>simp only[MB _ _ _ hl,hh,RY it hl hn,Vi,Vk,Vr,Y1,Y2,Vj,Vn,Vl,Vm,Y6,Y3,Vs,VX]
def ij(it:List Item)(l:List BA):Bool:=l.any (gG it)
theorem Ud(l:List BA)(hll:l.length<=1000000000)(it:List Item)(hl:it.length<=1000000000)(hn:m9 it):g9 (l,it,())=some (ij it l,l,it,()):=by
 have h:=fx (λj=>co ((l.length:Int),(j:Int),l,it,())) l (gG it) (λj=>((j:Int),l,it,())) (l,it,()) (λj x hj hx=>by
  have g:(0:Int)<=(j:Int)/\(j:Int)<(l.length:Int):=by omega
  rw[co]
  simp only[Vi,Vk,Vr,Y1,Y2,Vj,Vn,Vl,Vm,Y6,Y3,Vs,hj,g,and_self,Y7,hx,To x it hl hn,bh (a:=j) (by omega)]) (by
  rw[co]
  simp only[Vi,Vk,Vr,Y1,Y2,Vj,Vn,Vl,Vm,Y6,Y3,Vs,Xh,Y8])
 have h:co ((l.length:Int),0,l,it,())=_:=h
 have h2:hI (l,it,())=some (uM l (gG it),l,it,()):=by
  rw[hI]
  simp only[h,Vi,Vk,Vr,Y1,Y2,Vj,Vn,Vl,Vm,Y6,Y3,Vs,uM]
  cases l.findIdx? (gG it)<;>rfl
 rw[g9]
 simp only[h2,Vi,Vk,Vr,Y1,Y2,Vj,Vn,Vl,Vm,Y6,Y3,Vs,ix];rfl
def ID(l:List BA):Nat->Nat->Bool
 |_,0=>false
 |j,m+1=>(l.take j).any (λs=>decide (l.getD j e0=s))||ID l (j+1) m
def j5(l:List BA):Bool:=ID l 0 l.length
theorem zS{l:List BA}{j:Nat}(h:j<l.length):l[j]?=some (l.getD j e0):=by
 rw[VS,Vw h];rfl
theorem f160(l:List BA)(hl:l.length<=1000000000):sx (l,())=some (!j5 l,()):=by
 have go:∀(m j:Nat),l.length-j=m->j<=l.length->iM (l,l,(l.length:Int),(j:Int),())=some (if ID l j m=true then .inl (false,())else .inr ()):=by
  intro m
  induction m with
  |zero=>
   intro j hm hj
   have hlt:¬j<l.length:=by omega
   rw[iM]
   simp only[Vi,Vk,Vr,Y1,Y2,Vj,Vn,Vl,Vm,Y6,Y3,Vs,hlt,Y8,ID]
  |succ m ih=>
   intro j hm hj
   have hlt:j<l.length:=by omega
   have g:(0:Int)<=0/\(0:Int)<=(j:Int)/\(j:Int)<=(l.length:Int):=by omega
   have ht:(l.take j).length<=1000000000:=by rw[Wj];omega
   rw[iM,ID]
   simp only[Vi,Vk,Vr,Y1,Y2,Vj,Vn,Vl,Vm,Y6,Y3,Vs,hlt,Y7,g,and_self,zS hlt,Tq _ ht,bh (a:=j) (by omega),ih (j+1) (by omega) (by omega)]
   cases (l.take j).any (λs=>decide (l.getD j e0=s))<;>simp
 have h:=go _ 0 rfl (WL _)
 have h:iM (l,l,(l.length:Int),0,())=some (if ID l 0 l.length=true then .inl (false,())else .inr ()):=h
 rw[sx]
 simp only[h,Vi,Vk,Vr,Y1,Y2,Vj,Vn,Vl,Vm,Y6,Y3,Vs,j5]
 cases ID l 0 l.length<;>rfl
end Go.Proofs.YtpelkenpapfadaaGreatDoor
end
section
namespace Go.Proofs.YtpelkenpapfadaaGreatDoor
open Go.Tx
set_option maxRecDepth 20000
open Go.Lib
def oO:BA:=Vp #[117,110,115,105,103,110,101,100]
def fE:BA:=Vp #[99,104,97,114]
def dH:BA:=Vp #[115,104,111,114,116]
def sU:BA:=Vp #[105,110,116]
def jh:BA:=Vp #[108,111,110,103]
def cz:BA:=Vp #[118,111,105,100]
def bP:BA:=Vp #[115,116,114,117,99,116]
def gM:BA:=Vp #[101,110,117,109]
def gn:BA:=Vp #[42]
def Ou(s:BA):Bool:=decide (s=fE)||(decide (s=dH)||(decide (s=sU)||(decide (s=jh)||(decide (s=oO)||(decide (s=cz)||(decide (s=bP)||decide (s=gM)))))))
theorem PC(a b:Bool):(if a=true then some ((true,()):Bool×Unit)else some (b,()))=some (a||b,()):=by cases a<;>rfl
theorem RX(s:BA):C_ (s,())=some (Ou s,()):=by
 rw[C_]
 have e1:fE=Vp #[99,104,97,114]:=rfl
 have e2:dH=Vp #[115,104,111,114,116]:=rfl
 have e3:sU=Vp #[105,110,116]:=rfl
 have e4:jh=Vp #[108,111,110,103]:=rfl
 have e5:oO=Vp #[117,110,115,105,103,110,101,100]:=rfl
 have e6:cz=Vp #[118,111,105,100]:=rfl
 have e7:bP=Vp #[115,116,114,117,99,116]:=rfl
 have e8:gM=Vp #[101,110,117,109]:=rfl
 simp only[<-e1,<-e2,<-e3,<-e4,<-e5,<-e6,<-e7,<-e8,aL,PC,Vi,Vk]
 simp only[Wx];rfl
theorem f169(s:BA):Gr (s,())=some (Ou s,()):=by
 have:=RX s
 rw[C_]at this
 rw[Gr];exact this
theorem kq{s:BA}(h:¬s=e0):0<s.size:=by
 rcases XU s.size with h0|h0
 ·refine(h (AN ?_)).elim
  have:s.data.toList.length=0:=by rw[b_,h0]
  rw[Wr.1 this];rfl
 ·exact h0
theorem FJ{s:BA}(h:¬s=e0):s.data.toList=s.data.toList.getD 0 0::s.data.toList.drop 1:=by
 have:=gA (kq h);rw[V6]at this;exact this
def hd(l:List BA):BA:=l.headD e0
def cA(l:List BA):List BA:=if hd l=e0 then l else l.tail
theorem mj(l:List BA):cA l<:+l:=by unfold cA;split;exact VP l;exact Xd l
theorem uS(w:BA)(l:List BA):(if dK w l=true then l.tail else l)<:+l:=by split;exact Xd l;exact VP l
theorem CR{w:BA}(hw:¬w=e0)(l:List BA):decide (hd l=w)=dK w l:=by
 cases l with
 |nil=>rw[dK];exact decide_eq_false λe=>hw e.symm
 |cons s r=>rfl
theorem MC(l:List BA)(w:Bool)(it:List Item):dD (l,w,it,())=some (hd l,l,w,it,()):=by
 rw[dD]
 cases l with
 |nil=>rfl
 |cons s r=>
  have:(((s::r).length:Int)==0)=false:=beq_eq_false_iff_ne.2 (by rw[VD];omega)
  simp only[this,Vj,Y2];rfl
theorem My(l:List BA):(Yh l.length l).drop (Wq 1)=l.tail:=by
 rw[List.take_length];exact List.drop_one
theorem Uq{l:List BA}{w:BA}(h:dK w l=true):(0:Int)<=1/\(1:Int)<=(l.length:Int)/\(l.length:Int)<=(l.length:Int):=by
 obtain⟨r,rfl⟩:=j_ h
 rw[VD];omega
theorem f156(s:BA)(hs:¬s=e0)(l:List BA)(w:Bool)(it:List Item):bz (s,l,w,it,())=some (dK s l,(if dK s l=true then l.tail else l),w,it,()):=by
 have hx:(Vp #[])=e0:=rfl
 have hsd:decide (s=e0)=false:=decide_eq_false hs
 have hh:=CR hs l
 rw[bz]
 simp only[MC,Vi,Vk,Vr,Y1,Y2,Vj,Vn,Vl,Vm,Y6,Y3,Vs,aL,hx,hsd]
 cases h:dK s l with
 |true=>
  rw[h]at hh
  simp only[hh,Vq,Vi,Vk,Vr,Y1,Y2,Vj,Vn,Vl,Vm,Y6,Y3,Vs,Uq h,and_self,My]
 |false=>
  rw[h]at hh
  simp only[hh,Vo,Vi,Vk,Vr,Y1,Y2,Vj,Vn,Vl,Vm,Y6,Y3,Vs]
theorem Sim.may(s:BA)(l:List BA)(w:Bool):Sim (xO s) l w (dK s l) (if dK s l=true then l.tail else l) w:=by
 refine⟨uS s l,id,λhw b r hb=> ?_,λhw hb=>by cases hb⟩
 cases hb;exact⟨hw,rfl,rfl⟩
theorem Sim.want(s:BA)(l:List BA)(w:Bool):Sim (qZ s) l w () (if dK s l=true then l.tail else l) (w|| !dK s l):=by
 refine⟨uS s l,λh=>by rw[h];rfl,λhw b r hb=> ?_,λhw hb=> ?_⟩
 ·unfold qZ at hb
  cases h:dK s l with
  |true=>rw[h]at hb;cases hb;exact⟨by rw[hw];rfl,rfl,rfl⟩
  |false=>rw[h]at hb;cases hb
 ·unfold qZ at hb
  cases h:dK s l with
  |true=>rw[h]at hb;cases hb
  |false=>cases w<;>rfl
theorem RW(ss:List BA)(hss:∀s∈ss,¬s=e0)(hsl:ss.length<=1000)(it:List Item):∀(m j:Nat) (l:List BA) (w:Bool),ss.length-j=m->
 ∃l' w',cn (ss,(ss.length:Int),(j:Int),l,w,it,())=some (l',w',it,())/\Sim (cG (ss.drop j)) l w () l' w':=by
 intro m
 induction m with
 |zero=>
  intro j l w hm
  have hlt:¬j<ss.length:=by omega
  refine⟨l,w,?_,?_⟩
  ·rw[cn]
   simp only[Vi,Vk,Vr,Y1,Y2,Vj,Vn,Vl,Vm,Y6,Y3,Vs,hlt,Y8]
  ·rw[dy hlt];exact .ret _ _ _
 |succ m ih=>
  intro j l w hm
  have hlt:j<ss.length:=by omega
  obtain⟨s,hp,hpm,hdr,g1,g2⟩:=dP hlt
  obtain⟨l',w',h1,h2⟩:=ih (j+1) (if dK s l=true then l.tail else l) (w|| !dK s l) (by omega)
  refine⟨l',w',?_,?_⟩
  ·rw[cn,<-h1]
   cases h:dK s l with
   |true=>simp only[Vi,Vk,Vr,Y1,Y2,Vj,Vn,Vl,Vm,Y6,Y3,Vs,hlt,Y7,g1,hp,f156 s (hss s hpm),h,Vq,Wx,bh (a:=j) (by omega)]
   |false=>simp only[Vi,Vk,Vr,Y1,Y2,Vj,Vn,Vl,Vm,Y6,Y3,Vs,hlt,Y7,g1,hp,f156 s (hss s hpm),h,Vo,Wz,bh (a:=j) (by omega)]
  ·rw[hdr];exact(Sim.want s l w).bnd h2
theorem f154(ss:List BA)(hss:∀s∈ss,¬s=e0)(hsl:ss.length<=1000)(l:List BA)(w:Bool)(it:List Item):
 ∃l' w',ba (ss,l,w,it,())=some (l',w',it,())/\Sim (cG ss) l w () l' w':=by
 obtain⟨l',w',h1,h2⟩:=RW ss hss hsl it _ 0 l w rfl
 have h1:cn (ss,(ss.length:Int),0,l,w,it,())=some (l',w',it,()):=h1
 refine⟨l',w',?_,h2⟩
 rw[ba]
 simp only[h1,Vi,Vk,Vr,Y1,Y2,Vj,Vn,Vl,Vm,Y6,Y3,Vs]
theorem IF(l:List BA)(w:Bool)(it:List Item):cF (l,w,it,())=some (hd l,cA l,w,it,()):=by
 have hx:(Vp #[])=e0:=rfl
 rw[cF]
 unfold cA
 by_cases h:hd l=e0
 ·simp only[MC,Vi,Vk,Vr,Y1,Y2,Vj,Vn,Vl,Vm,Y6,Y3,Vs,aL,hx,h,Y7,Vq]
 ·have hl:(0:Int)<=1/\(1:Int)<=(l.length:Int)/\(l.length:Int)<=(l.length:Int):=by
   cases l with
   |nil=>exact(h rfl).elim
   |cons s r=>rw[VD];omega
  simp only[MC,Vi,Vk,Vr,Y1,Y2,Vj,Vn,Vl,Vm,Y6,Y3,Vs,aL,hx,h,Y8,Vo,hl,and_self,My]
def bY(s:BA):Bool:=match s.data.toList with
 |[]=>false
 |c::_=>isL c&& !Ou s
def dU:Ps BA
 |[]=>none
 |s::r=>if bY s=true then some (s,r)else none
def fi(s:BA):Bool:=match s.data.toList with
 |[]=>false
 |c::_=>isD c&&decide (s.size<=9)
def qV(s:BA):Int:=match Lib.atoiAll s.data.toList with
 | .ok n=>n
 | .range=>Lib.atoiSat s.data.toList
 |_=>0
def NB:Ps Int
 |[]=>none
 |s::r=>if fi s=true then some (qV s,r)else none
theorem xE{s:BA}(h:¬s=e0):bY s=(CS ((s.data.toList.getD 0 0).toNat:Int)&& !Ou s):=by
 unfold bY;rw[FJ h];rfl
theorem vj{s:BA}(h:¬s=e0):fi s=(xd ((s.data.toList.getD 0 0).toNat:Int)&&decide (s.size<=9)):=by
 unfold fi;rw[FJ h];rfl
theorem qR:bY e0=false:=rfl
theorem JF:fi e0=false:=rfl
theorem vv{α:Type}{p:Ps α}{okB:BA->Bool}{f:BA->α}(h0:okB e0=false)(hn:p []=none)(hc:∀s r,p (s::r)=if okB s=true then some (f s,r)else none)(l:List BA)(w:Bool)(a:α)(ha:okB (hd l)=true->a=f (hd l)):
 Sim p l w a (cA l) (w|| !okB (hd l)):=by
 refine⟨mj l,λh=>by rw[h];rfl,λhw b r hb=> ?_,λhw hb=> ?_⟩
 ·cases l with
  |nil=>rw[hn]at hb;cases hb
  |cons s r'=>
   rw[hc]at hb
   cases h:okB s with
   |false=>rw[h]at hb;cases hb
   |true=>
    rw[h]at hb;cases hb
    have hs:¬s=e0:=λe=>by rw[e,h0]at h;cases h
    exact⟨by rw[hw];show(false|| !okB s)=false;rw[h];rfl,ha h,by unfold cA;rw[Y4 (show¬hd (s::r)=e0 from hs)];rfl⟩
 ·cases l with
  |nil=>show(w|| !okB e0)=true;rw[h0];cases w<;>rfl
  |cons s r'=>
   rw[hc]at hb
   show(w|| !okB s)=true
   cases h:okB s with
   |true=>rw[h]at hb;cases hb
   |false=>cases w<;>rfl
theorem Sim.name(l:List BA)(w:Bool):Sim dU l w (hd l) (cA l) (w|| !bY (hd l)):=vv (f:=id) qR rfl (λ_ _=>rfl) l w _ λ_=>rfl
theorem Sim.num(l:List BA)(w:Bool)(a:Int)(ha:fi (hd l)=true->a=qV (hd l)):Sim NB l w a (cA l) (w|| !fi (hd l)):=vv (f:=qV) JF rfl (λ_ _=>rfl) l w _ ha
theorem Fz(l:List BA)(w:Bool)(it:List Item):bx (l,w,it,())=some (hd l,cA l,w|| !bY (hd l),it,()):=by
 have hx:(Vp #[])=e0:=rfl
 rw[bx]
 by_cases h:hd l=e0
 ·have hn:bY (hd l)=false:=by rw[h];rfl
  simp only[IF,Vi,Vk,Vr,Y1,Y2,Vj,Vn,Vl,Vm,Y6,Y3,Vs,aL,hx,h,Y7,qR,Vo,Wz]
 ·have hg:(hd l)[0]?=some ((hd l).data.toList.getD 0 0):=bU (kq h)
  rw[xE h]
  cases h1:CS (((hd l).data.toList.getD 0 0).toNat:Int)with
  |false=>simp only[IF,Vi,Vk,Vr,Y1,Y2,Vj,Vn,Vl,Vm,Y6,Y3,Vs,aL,hx,h,Y8,WH,hg,f86,h1,Vo,WP,Wz]
  |true=>
   cases h2:Ou (hd l)with
   |false=>simp only[IF,Vi,Vk,Vr,Y1,Y2,Vj,Vn,Vl,Vm,Y6,Y3,Vs,aL,hx,h,Y8,WH,hg,f86,h1,RX,h2,Vq,Vo,WA,Wx]
   |true=>simp only[IF,Vi,Vk,Vr,Y1,Y2,Vj,Vn,Vl,Vm,Y6,Y3,Vs,aL,hx,h,Y8,WH,hg,f86,h1,RX,h2,Vq,Vo,WA,Wz]
theorem q_:∀(l:List UInt8) (acc j:Nat),(∀x∈l,isD x=true)->acc<10^j->j+l.length<=9->∃n,Lib.parseUint10 acc l= .ok n/\n<1000000000
 |[],acc,j,_,h1,h2=>⟨acc,rfl,by
  have:10^j<=10^9:=YL (by omega) (by simpa using h2)
  have e:(10:Nat)^9=1000000000:=by decide
  omega⟩
 |c::r,acc,j,hd,h1,h2=>by
  have hc:=hd c Vy
  unfold isD xd at hc
  simp only[VE,Y3]at hc
  have hc1:48<=c.toNat/\c.toNat<=57:=by omega
  rw[VD]at h2
  have:10^(j+1)<=10^9:=YL (by omega) (by omega)
  have e:(10:Nat)^9=1000000000:=by decide
  have e2:(10:Nat)^(j+1)=10^j *10:=Nat.pow_succ ..
  obtain⟨n,h3,h4⟩:=q_ r (acc *10+(c.toNat-48)) (j+1) (λx hx=>hd x (Vu _ hx)) (by omega) (by omega)
  refine⟨n,?_,h4⟩
  rw[Lib.parseUint10,Y5 hc1,Y4 (by omega),Y4 (by omega),h3]
theorem sY{s:BA}(ht:se s)(h:fi s=true):∃n:Int,Lib.atoiAll s.data.toList= .ok n/\0<=n/\n<1000000000:=by
 obtain⟨c,r,e,hr⟩:=ht
 unfold fi at h
 rw[e]at h
 simp only[VE,Y3]at h
 have hsz:=b_ s
 rw[e,VD]at hsz
 obtain⟨n,h1,h2⟩:=q_ (c::r) 0 0 (λx hx=>by
  rcases VG.1 hx with rfl|hx
  ·exact h.1
  ·exact hr h.1 x hx) (by decide) (by rw[VD];omega)
 have hc:=h.1
 unfold isD xd at hc
 simp only[VE,Y3]at hc
 refine⟨n,?_,by omega,by omega⟩
 rw[e]
 unfold Lib.atoiAll Lib.parseMag
 have c1:¬c.toNat=43:=by omega
 have c2:¬c.toNat=45:=by omega
 have c3:¬(9223372036854775808<=n):=by omega
 simp only[c1,c2,c3,or_self,Y2,reduceCtorEq,h1,not_false_eq_true,true_and,false_and]
theorem JG{s:BA}(ht:se s)(h:fi s=true):0<=qV s/\qV s<1000000000:=by
 obtain⟨n,h1,h2,h3⟩:=sY ht h
 unfold qV;rw[h1];exact⟨h2,h3⟩
theorem zY{l:List BA}(hg:vK l):hd l=e0\/se (hd l)/\(hd l).size<=1000000000:=by
 cases l with
 |nil=>exact .inl rfl
 |cons s r=>exact .inr (hg s Vy)
theorem FK{l:List BA}(hg:vK l):(hd l).size<=1000000000:=by
 rcases zY hg with h|h
 ·rw[h];decide
 ·exact h.2
theorem Tp(s:BA)(hs:s.size<=1000000000):∃er,xq (s,())=some (qV s,er,())/\(er=false↔∃n,Lib.atoiAll s.data.toList= .ok n):=by
 rw[xq]
 have:s.size<=1000000000000:=by omega
 unfold qV
 simp only[this,Y1]
 cases h:Lib.atoiAll s.data.toList with
 |ok n=>exact⟨false,rfl,by simp⟩
 |range=>exact⟨true,rfl,by simp⟩
 |_=>exact⟨true,rfl,by simp⟩
theorem Tn(l:List BA)(hg:vK l)(w:Bool)(it:List Item):eF (l,w,it,())=some (qV (hd l),cA l,w|| !fi (hd l),it,()):=by
 obtain⟨er,h1,h2⟩:=Tp (hd l) (FK hg)
 rw[eF]
 cases er with
 |true=>
  have hn:fi (hd l)=false:=by
   cases h:fi (hd l)with
   |false=>rfl
   |true=>
    rcases zY hg with e|e
    ·rw[e]at h;cases h
    ·obtain⟨n,h3,_⟩:=sY e.1 h
     have:=h2.2 ⟨n,h3⟩;cases this
  simp only[IF,Vi,Vk,Vr,Y1,Y2,Vj,Vn,Vl,Vm,Y6,Y3,Vs,h1,hn,Vo,Wz]
 |false=>
  have h:¬hd l=e0:=λe=>by
   obtain⟨n,h3⟩:=h2.1 rfl
   rw[e]at h3;cases h3
  have hgt:(hd l)[0]?=some ((hd l).data.toList.getD 0 0):=bU (kq h)
  rw[vj h]
  cases h3:xd (((hd l).data.toList.getD 0 0).toNat:Int)with
  |false=>simp only[IF,Vi,Vk,Vr,Y1,Y2,Vj,Vn,Vl,Vm,Y6,Y3,Vs,h1,WH,hgt,f87,h3,Vo,WP,Wz]
  |true=>
   by_cases h4:(hd l).size<=9
   ·have h5:¬(((hd l).size:Int)>9):=by omega
    simp only[IF,Vi,Vk,Vr,Y1,Y2,Vj,Vn,Vl,Vm,Y6,Y3,Vs,h1,WH,hgt,f87,h3,h4,h5,Y7,Y8,Vq,Vo,WA,Wx]
   ·have h5:(((hd l).size:Int)>9):=by omega
    simp only[IF,Vi,Vk,Vr,Y1,Y2,Vj,Vn,Vl,Vm,Y6,Y3,Vs,h1,WH,hgt,f87,h3,h4,h5,Y7,Y8,Vq,Vo,WA,Wz]
structure eV (it:List Item):Prop where
 len:it.length<=1000000
 names:∀x∈it,x.names.length<=1000000
 fits:∀x∈it,x.layout.Fits
 val:∀x∈it,jW x.layout=0
 str:∀x∈it,x.kind=2->x.layout.kind=6
theorem eV.nm{it:List Item}(h:eV it):m9 it:=λx hx=>by have:=h.names x hx;omega
theorem ux{p:aa}:∀{ps:List aa},p∈ps->p.all.length<=(aa.allL ps).length
 |q::r,h=>by
  rw[aa.allL,VB]
  rcases VG.1 h with rfl|h
  ·omega
  ·have:=ux h;omega
theorem L9(l:aa):1<=l.all.length:=by rw[l.all_eq,VD];omega
theorem Eb:∀ps:List aa,ps.length<=(aa.allL ps).length
 |[]=>VN _
 |p::r=>by rw[aa.allL,VB,VD];have:=Eb r;have:=L9 p;omega
theorem f196:∀l:aa,l.all.length<=1000000->n_196 (l,())=some (l,()):=by
 refine aa.ind λl ih hn=> ?_
 rw[l.all_eq,VD]at hn
 have hpl:=Eb l.parts
 have loop:∀(m k:Nat),l.parts.length-k=m->k<=l.parts.length->fh (l.parts,(l.parts.length:Int),(k:Int),l,z0,l.parts.take k,())=some (l,z0,l.parts,()):=by
  intro m
  induction m with
  |zero=>
   intro k hm hk
   have hlt:¬k<l.parts.length:=by omega
   rw[fh]
   simp only[Vi,Vk,Vr,Y1,Y2,Vj,Vn,Vl,Vm,Y6,Y3,Vs,hlt,Y8,Wf (show l.parts.length<=k by omega)]
  |succ m ihm=>
   intro k hm hk
   have hlt:k<l.parts.length:=by omega
   obtain⟨p,hp,hpm,hdr,g1,g2⟩:=dP hlt
   have hpa:=ux hpm
   have h:=ihm (k+1) (by omega) (by omega)
   rw[Xg,hp]at h
   have ht:(l.parts.take k).length+[p].length<=4294967296:=by rw[Wj,Vt];omega
   rw[fh]
   simp only[Vi,Vk,Vr,Y1,Y2,Vj,Vn,Vl,Vm,Y6,Y3,Vs,hlt,Y7,g1,hp,ih p hpm (by omega),ht,bh (a:=k) (by omega)]
   exact h
 have h:=loop _ 0 rfl (WL _)
 have h:fh (l.parts,(l.parts.length:Int),0,l,aa.mk 0 0 false [],[],())=some (l,z0,l.parts,()):=h
 rw[n_196]
 simp only[h,Vi,Vk,Vr,Y1,Y2,Vj,Vn,Vl,Vm,Y6,Y3,Vs,eta]
theorem uJ(it:List Item)(k:Int)(name:BA):je it k name=zI/\fH it k name=false\/je it k name∈it/\(je it k name).kind=k/\fH it k name=true:=by
 unfold je fH
 cases h:it.find? (kn k name)with
 |none=>
  refine .inl ⟨rfl,?_⟩
  rw[List.find?_eq_none]at h
  rw[Yn];exact h
 |some x=>
  have h1:=List.find?_some h
  have h2:=List.mem_of_find?_eq_some h
  refine .inr ⟨h2,?_,WJ.2 ⟨x,h2,h1⟩⟩
  unfold kn at h1
  rw[VE]at h1
  exact eq_of_beq h1.1
theorem H4{l:aa}(h:jW l=0):l.all.length<=60/\l.depth<=5:=by
 unfold jW at h
 split at h
 ·cases h
 ·rename_i hc
  simp only[aa.large,V0,Y3,not_or]at hc
  omega
theorem I4{it:List Item}(h:eV it)(k:Int)(name:BA):(je it k name).layout.all.length<=60:=by
 rcases uJ it k name with⟨e,_⟩|⟨e,_,_⟩
 ·rw[e];decide
 ·exact(H4 (h.val _ e)).1
def qY(it:List Item):Ps aa:=bnd (xO oO) λu=>bnd vm λs=>
 if s=fE then ret (aa.mk 2 8 (!u) [])else if s=dH then ret (aa.mk 2 16 (!u) [])else if s=sU then ret (aa.mk 2 32 (!u) [])
 else bnd (nay u) λ_=>if s=jh then ret (aa.mk 3 0 false [])else if s=cz then ret z0
 else if s=bP then bnd dU λn=>bnd (nay (!fH it 2 n)) λ_=>ret (je it 2 n).layout
 else if s=gM then bnd dU λn=>bnd (nay (!fH it 1 n)) λ_=>ret (aa.mk 2 32 true [])
 else bnd (nay true) λ_=>ret z0
theorem Sim.word(l:List BA)(w:Bool):Sim vm l w (hd l) (cA l) (w||decide (hd l=e0)):=by
 have:=vv (p:=vm) (okB:=λs=>decide (¬s=e0)) (f:=id) (by simp) rfl (λs r=>by unfold vm;by_cases h:s=e0<;>simp[h]) l w (hd l) λ_=>rfl
 simpa using this
theorem Sim.strict{α:Type}{p:Ps α}{l l1:List BA}{w w1 w2:Bool}{a:α}(h:Sim p l w a l1 w1)(h1:w1=true->w2=true)(h2:w2=true->w1=true):Sim p l w a l1 w2:=by
 have:w1=w2:=by cases w1<;>cases w2<;>simp_all
 rw[<-this];exact h
theorem eZ{a b:BA}(h:¬a.data.toList=b.data.toList):¬a=b:=λe=>h (by rw[e])
theorem R9(s:BA)(h:s=fE\/s=dH\/s=sU):(Mp.get Mp.seq s (Mp.set Mp.seq Mp.slt (Vp #[105,110,116]) (32:Int) (Mp.set Mp.seq Mp.slt (Vp #[115,104,111,114,116]) (16:Int) (Mp.set Mp.seq Mp.slt (Vp #[99,104,97,114]) (8:Int) [])))).getD (0:Int)=
 if s=fE then 8 else if s=dH then 16 else 32:=by
 rcases h with rfl|rfl|rfl
 ·kernel_rfl
 ·rw[Y4 (eZ (by decide))];kernel_rfl
 ·rw[Y4 (eZ (by decide)),Y4 (eZ (by decide))];kernel_rfl
end Go.Proofs.YtpelkenpapfadaaGreatDoor
end
section
namespace Go.Proofs.YtpelkenpapfadaaGreatDoor
open Go.Tx
set_option maxRecDepth 20000
open Go.Lib
theorem yu:¬oO=e0:=eZ (by decide)
theorem vG:fE=Vp #[99,104,97,114]:=rfl
theorem pn:dH=Vp #[115,104,111,114,116]:=rfl
theorem BK:sU=Vp #[105,110,116]:=rfl
theorem vH:jh=Vp #[108,111,110,103]:=rfl
theorem BM:oO=Vp #[117,110,115,105,103,110,101,100]:=rfl
theorem jZ:cz=Vp #[118,111,105,100]:=rfl
theorem ig:bP=Vp #[115,116,114,117,99,116]:=rfl
theorem nM:gM=Vp #[101,110,117,109]:=rfl
theorem rZ:gn=Vp #[42]:=rfl
theorem nj:¬fE=e0:=eZ (by decide)
theorem j6:¬dH=e0:=eZ (by decide)
theorem tL:¬sU=e0:=eZ (by decide)
theorem uC:¬jh=e0:=eZ (by decide)
theorem nn:¬cz=e0:=eZ (by decide)
theorem gT:¬bP=e0:=eZ (by decide)
theorem nk:¬gM=e0:=eZ (by decide)
theorem sc1:¬dH=fE:=eZ (by decide)
theorem ic1:¬sU=fE:=eZ (by decide)
theorem is1:¬sU=dH:=eZ (by decide)
theorem lc1:¬jh=fE:=eZ (by decide)
theorem ls1:¬jh=dH:=eZ (by decide)
theorem li1:¬jh=sU:=eZ (by decide)
theorem vc1:¬cz=fE:=eZ (by decide)
theorem vs1:¬cz=dH:=eZ (by decide)
theorem vi1:¬cz=sU:=eZ (by decide)
theorem vl1:¬cz=jh:=eZ (by decide)
theorem tc1:¬bP=fE:=eZ (by decide)
theorem ts1:¬bP=dH:=eZ (by decide)
theorem ti1:¬bP=sU:=eZ (by decide)
theorem tl1:¬bP=jh:=eZ (by decide)
theorem tv1:¬bP=cz:=eZ (by decide)
theorem ec1:¬gM=fE:=eZ (by decide)
theorem es1:¬gM=dH:=eZ (by decide)
theorem ei1:¬gM=sU:=eZ (by decide)
theorem el1:¬gM=jh:=eZ (by decide)
theorem ev1:¬gM=cz:=eZ (by decide)
theorem et1:¬gM=bP:=eZ (by decide)
def dF(it:List Item)(u:Bool)(s:BA):Ps aa:=
 if s=fE then ret (aa.mk 2 8 (!u) [])else if s=dH then ret (aa.mk 2 16 (!u) [])else if s=sU then ret (aa.mk 2 32 (!u) [])
 else bnd (nay u) λ_=>if s=jh then ret (aa.mk 3 0 false [])else if s=cz then ret z0
 else if s=bP then bnd dU λn=>bnd (nay (!fH it 2 n)) λ_=>ret (je it 2 n).layout
 else if s=gM then bnd dU λn=>bnd (nay (!fH it 1 n)) λ_=>ret (aa.mk 2 32 true [])
 else bnd (nay true) λ_=>ret z0
theorem eS(it:List Item):qY it=bnd (xO oO) λu=>bnd vm λs=>dF it u s:=rfl
theorem sL{s:BA}(w:Bool)(h:¬s=e0):(w||decide (s=e0))=w:=by rw[decide_eq_false h,Wx]
theorem Ug(it:List Item)(hi:eV it)(l:List BA)(w:Bool):∃l' w' t,fO (l,w,it,())=some (l',w',it,t,())/\Sim (qY it) l w t l' w':=by
 have hlen:=hi.len
 have m1:=Sim.may oO l w
 have h156:=f156 oO yu l w it
 obtain⟨u,hu⟩:∃u,dK oO l=u:=⟨_,rfl⟩
 obtain⟨l1,hl1⟩:∃l1,(if dK oO l=true then l.tail else l)=l1:=⟨_,rfl⟩
 rw[hl1]at h156 m1
 rw[hu]at h156 m1
 have m2:=Sim.word l1 w
 have h164:=IF l1 w it
 obtain⟨s,hs⟩:∃s,hd l1=s:=⟨_,rfl⟩
 obtain⟨l2,hl2⟩:∃l2,cA l1=l2:=⟨_,rfl⟩
 rw[hs,hl2]at h164 m2
 have rest:∃l' w' t,fO (l,w,it,())=some (l',w',it,t,())/\Sim (dF it u s) l2 (w||decide (s=e0)) t l' w':=by
  rw[fO]
  rw[<-BM,h156,Vi,Vk]
  simp only[Y1]
  rw[h164,Vi,Vk]
  simp only[Y1,aL,<-vG,<-pn,<-BK,<-vH,<-jZ,<-ig,<-nM]
  have hm (h:s=fE\/s=dH\/s=sU):(Mp.get Mp.seq s (Mp.set Mp.seq Mp.slt sU (32:Int) (Mp.set Mp.seq Mp.slt dH (16:Int) (Mp.set Mp.seq Mp.slt fE (8:Int) [])))).getD (0:Int)=if s=fE then 8 else if s=dH then 16 else 32:=R9 s h
  by_cases a1:s=fE
  ·have h:=hm (.inl a1)
   rw[Y5 a1]at h
   refine⟨l2,w,aa.mk 2 8 (!u) [],?_,?_⟩
   ·rw[a1]at h
    simp only[a1,Y7,Vi,Vk,Y1,Y2,Vj,Vq,Vo,h]
   ·rw[a1,sL w nj,dF,Y5 rfl];exact .ret _ _ _
  by_cases a2:s=dH
  ·have h:=hm (.inr (.inl a2))
   rw[Y4 a1,Y5 a2]at h
   refine⟨l2,w,aa.mk 2 16 (!u) [],?_,?_⟩
   ·rw[a2]at h
    simp only[a2,sc1,Y7,Y8,Vi,Vk,Y1,Y2,Vj,Vq,Vo,h]
   ·rw[a2,sL w j6,dF,Y4 sc1,Y5 rfl];exact .ret _ _ _
  by_cases a3:s=sU
  ·have h:=hm (.inr (.inr a3))
   rw[Y4 a1,Y4 a2]at h
   refine⟨l2,w,aa.mk 2 32 (!u) [],?_,?_⟩
   ·rw[a3]at h
    simp only[a3,ic1,is1,Y7,Y8,Vi,Vk,Y1,Y2,Vj,Vq,Vo,h]
   ·rw[a3,sL w tL,dF,Y4 ic1,Y4 is1,Y5 rfl];exact .ret _ _ _
  have hw1:(if w=true then some ((s,l2,true,aa.mk 0 0 false [],it,()):BA×List BA×Bool×aa×List Item×Unit)else some (s,l2,u,aa.mk 0 0 false [],it,()))=some (s,l2,w||u,aa.mk 0 0 false [],it,()):=by cases w<;>rfl
  simp only[a1,a2,a3,Y8,Vi,Vk,Y1,Y2,Vj,Vq,Vo,hw1]
  have hR:dF it u s=bnd (nay u) λ_=>if s=jh then ret (aa.mk 3 0 false [])else if s=cz then ret z0
   else if s=bP then bnd dU λn=>bnd (nay (!fH it 2 n)) λ_=>ret (je it 2 n).layout
   else if s=gM then bnd dU λn=>bnd (nay (!fH it 1 n)) λ_=>ret (aa.mk 2 32 true [])
   else bnd (nay true) λ_=>ret z0:=by rw[dF,Y4 a1,Y4 a2,Y4 a3]
  rw[hR]
  have m3:=Sim.nay u l2 (w||decide (s=e0))
  by_cases b1:s=jh
  ·refine⟨l2,w||u,aa.mk 3 0 false [],?_,?_⟩
   ·simp only[b1,Y7,Vi,Vk,Y1,Y2,Vj,Vq,Vo]
   ·rw[b1,sL w uC]at m3⊢
    refine m3.bnd ?_
    rw[Y5 rfl];exact .ret _ _ _
  by_cases b2:s=cz
  ·refine⟨l2,w||u,z0,?_,?_⟩
   ·simp only[b2,vl1,Y7,Y8,Vi,Vk,Y1,Y2,Vj,Vq,Vo];rfl
   ·rw[b2,sL w nn]at m3⊢
    refine m3.bnd ?_
    rw[Y4 vl1,Y5 rfl];exact .ret _ _ _
  have h155:=Fz l2 (w||u) it
  have m4:=Sim.name l2 (w||u)
  obtain⟨n,hn⟩:∃n,hd l2=n:=⟨_,rfl⟩
  obtain⟨l3,hl3⟩:∃l3,cA l2=l3:=⟨_,rfl⟩
  obtain⟨w3,hw3⟩:∃w3,(w||u|| !bY n)=w3:=⟨_,rfl⟩
  rw[hn,hl3,hw3]at h155 m4
  by_cases b3:s=bP
  ·have m5:=Sim.nay (!fH it 2 n) l3 w3
   refine⟨l3,w3|| !fH it 2 n,(je it 2 n).layout,?_,?_⟩
   ·have hc:=f196 _ (Wl (I4 hi 2 n) (by omega))
    simp only[b3,tl1,tv1,Y7,Y8,Vi,Vk,Y1,Y2,Vj,Vq,Vo,lz,h155,f47 _ _ it (by omega),eta]
    cases w3 with
    |true=>simp only[Vi,Vk,Y1,Y2,Vj,Vq,Vo,hc,V2]
    |false=>simp only[Vi,Vk,Y1,Y2,Vj,Vq,Vo,hc,VX]
   ·rw[b3,sL w gT]at m3⊢
    refine m3.bnd ?_
    rw[Y4 tl1,Y4 tv1,Y5 rfl]
    exact m4.bnd (m5.bnd (.ret _ _ _))
  by_cases b4:s=gM
  ·have m5:=Sim.nay (!fH it 1 n) l3 w3
   refine⟨l3,w3|| !fH it 1 n,aa.mk 2 32 true [],?_,?_⟩
   ·simp only[b4,el1,ev1,et1,Y7,Y8,Vi,Vk,Y1,Y2,Vj,Vq,Vo,lz,h155,MB _ _ it (by omega)]
    cases fH it 1 n with
    |true=>simp only[Vi,Vk,Y1,Y2,Vj,Vq,Vo,Wx]
    |false=>simp only[Vi,Vk,Y1,Y2,Vj,Vq,Vo,Wz]
   ·rw[b4,sL w nk]at m3⊢
    refine m3.bnd ?_
    rw[Y4 el1,Y4 ev1,Y4 et1,Y5 rfl]
    exact m4.bnd (m5.bnd (.ret _ _ _))
  ·refine⟨l2,true,z0,?_,?_⟩
   ·simp only[b1,b2,b3,b4,Y8,Vi,Vk,Y1,Y2,Vj,Vq,Vo];rfl
   ·refine m3.bnd ?_
    rw[Y4 b1,Y4 b2,Y4 b3,Y4 b4]
    have:=(Sim.nay true l2 (w||decide (s=e0)||u)).bnd (q:=λ_=>ret z0) (.ret z0 _ _)
    rw[Wz]at this;exact this
 obtain⟨l',w',t,h1,h2⟩:=rest
 exact⟨l',w',t,h1,by rw[eS];exact m1.bnd (m2.bnd h2)⟩
def stars:aa->List BA->aa×List BA
 |t,[]=>(t,[])
 |t,s::r=>if s=gn then stars (aa.mk 3 0 false []) r else(t,s::r)
def Bm(t:aa):Ps aa:=λl=>some (stars t l)
theorem rO:∀(l:List BA) (t:aa),(stars t l).2<:+l
 |[],t=>VP _
 |s::r,t=>by
  unfold stars;split
  ·exact(rO r _).trans (X2 _ _)
  ·exact VP _
theorem Sim.stars(t:aa)(l:List BA)(w:Bool):Sim (Bm t) l w (stars t l).1 (stars t l).2 w:=by
 refine⟨rO l t,id,λhw b r hb=> ?_,λhw hb=>by cases hb⟩
 have hb:some (Proofs.YtpelkenpapfadaaGreatDoor.stars t l)=some (b,r):=hb
 injection hb with hb
 rw[hb];exact⟨hw,rfl,rfl⟩
theorem rN:¬gn=e0:=eZ (by decide)
theorem Pl(x:aa)(res w:Bool)(it:List Item):∀(l:List BA) (t:aa),cM (res,l,w,x,t,it,())=some (res,(stars t l).2,w,x,(stars t l).1,it,())
 |[],t=>by
  rw[cM]
  simp only[<-rZ,f156 gn rN,dK,Vi,Vk,Y1,Y2,Vj,Vq,Vo];rfl
 |s::r,t=>by
  rw[cM]
  simp only[<-rZ,f156 gn rN,dK,Vi,Vk,Y1,Y2,Vj,Vq,Vo]
  by_cases h:s=gn
  ·rw[stars,Y5 h,<-Pl x res w it r]
   simp only[h,Y7,Y1,Yd]
  ·rw[stars,Y4 h]
   simp only[h,Y8,Vi,Vk,Y1,Y2,Vj,Vq,Vo]
def sM(it:List Item)(res:Bool):Ps aa:=bnd (qY it) λt=>bnd (Bm t) λt=>bnd (nay (t.kind==0&& !res)) λ_=>ret t
theorem f163(it:List Item)(hi:eV it)(res:Bool)(l:List BA)(w:Bool):∃l' w' t,d8 (res,l,w,it,())=some (l',w',it,t,())/\Sim (sM it res) l w t l' w':=by
 obtain⟨l1,w1,t,h1,m1⟩:=Ug it hi l w
 have m2:=Sim.stars t l1 w1
 have h2:=Pl (aa.mk 0 0 false []) res w1 it l1 t
 obtain⟨t2,ht2⟩:∃t2,(stars t l1).1=t2:=⟨_,rfl⟩
 obtain⟨l2,hl2⟩:∃l2,(stars t l1).2=l2:=⟨_,rfl⟩
 rw[ht2,hl2]at h2 m2
 refine⟨l2,w1||(t2.kind==0&& !res),t2,?_,m1.bnd (m2.bnd ((Sim.nay _ _ _).bnd (.ret _ _ _)))⟩
 rw[d8]
 simp only[h1,h2,Vi,Vk,Y1,Y2,Vj,Vq,Vo]
 cases w1<;>cases (t2.kind==0)<;>rfl
end Go.Proofs.YtpelkenpapfadaaGreatDoor
end
section
namespace Go.Proofs.YtpelkenpapfadaaGreatDoor
open Go.Tx
set_option maxRecDepth 20000
open Go.Lib
def sT:BA:=Vp #[35]
def gL:BA:=Vp #[100,101,102,105,110,101]
def jX:BA:=Vp #[45]
def cu:BA:=Vp #[44]
def AF:BA:=Vp #[40]
def dE:BA:=Vp #[41]
def vM:BA:=Vp #[91]
def Ov:BA:=Vp #[93]
theorem Ia:sT=Vp #[35]:=rfl
theorem yz:gL=Vp #[100,101,102,105,110,101]:=rfl
theorem BL:jX=Vp #[45]:=rfl
theorem dO:cu=Vp #[44]:=rfl
theorem vI:AF=Vp #[40]:=rfl
theorem vJ:dE=Vp #[41]:=rfl
theorem uv:vM=Vp #[91]:=rfl
theorem yA:Ov=Vp #[93]:=rfl
theorem Rf:oB=Vp #[123]:=rfl
theorem H_:cB=Vp #[125]:=rfl
theorem sV:sB=Vp #[59]:=rfl
theorem GO:¬sT=e0:=eZ (by decide)
theorem xG:¬gL=e0:=eZ (by decide)
theorem Bg:¬jX=e0:=eZ (by decide)
theorem gD:¬cu=e0:=eZ (by decide)
theorem GP:¬AF=e0:=eZ (by decide)
theorem GQ:¬dE=e0:=eZ (by decide)
theorem Bf:¬vM=e0:=eZ (by decide)
theorem Lu:¬Ov=e0:=eZ (by decide)
theorem Q4:¬oB=e0:=eZ (by decide)
theorem JD:¬cB=e0:=eZ (by decide)
theorem IG:¬sB=e0:=eZ (by decide)
def ML(b:Bool)(v:Int):Int:=if b=true then IntKind.i64.wrap (0-v)else v
def ql(it:List Item):Ps Item:=bnd (cG [sT,gL]) λ_=>bnd dU λn=>bnd (xO jX) λm=>bnd NB λv=>
 bnd (nay (gG it n)) λ_=>ret (Item.mk 0 n (ML m v) [] z0)
theorem Ua(it:List Item)(hi:eV it)(l:List BA)(hg:vK l)(w:Bool):∃l' w' x,fL (l,w,it,())=some (l',w',it,x,())/\Sim (ql it) l w x l' w':=by
 have hlen:=hi.len
 obtain⟨l1,w1,h1,m1⟩:=f154 [sT,gL] (by simp[GO,xG]) (by simp) l w it
 have g1:=hg.suf m1.suf
 have h2:=Fz l1 w1 it
 have m2:=Sim.name l1 w1
 obtain⟨n,hn⟩:∃n,hd l1=n:=⟨_,rfl⟩
 obtain⟨l2,hl2⟩:∃l2,cA l1=l2:=⟨_,rfl⟩
 obtain⟨w2,hw2⟩:∃w2,(w1|| !bY n)=w2:=⟨_,rfl⟩
 rw[hn,hl2,hw2]at h2 m2
 have g2:=g1.suf m2.suf
 have h3:=f156 jX Bg l2 w2 it
 have m3:=Sim.may jX l2 w2
 obtain⟨b,hb⟩:∃b,dK jX l2=b:=⟨_,rfl⟩
 obtain⟨l3,hl3⟩:∃l3,(if dK jX l2=true then l2.tail else l2)=l3:=⟨_,rfl⟩
 rw[hl3]at h3 m3
 rw[hb]at h3 m3
 have g3:=g2.suf m3.suf
 have h4:=Tn l3 g3 w2 it
 have m4:=Sim.num l3 w2 (qV (hd l3)) λ_=>rfl
 obtain⟨v,hv⟩:∃v,qV (hd l3)=v:=⟨_,rfl⟩
 obtain⟨l4,hl4⟩:∃l4,cA l3=l4:=⟨_,rfl⟩
 obtain⟨w4,hw4⟩:∃w4,(w2|| !fi (hd l3))=w4:=⟨_,rfl⟩
 rw[hv,hl4,hw4]at h4 m4
 refine⟨l4,w4||gG it n,Item.mk 0 n (ML b v) [] z0,?_,m1.bnd (m2.bnd (m3.bnd (m4.bnd ((Sim.nay _ _ _).bnd (.ret _ _ _)))))⟩
 have h5:=To n it (by omega) hi.nm
 rw[fL]
 simp only[<-Ia,<-yz,<-BL,h1,h2,h3,h4,Vi,Vk,Y1,Y2,Vj,Vq,Vo]
 cases b<;>cases w4<;>simp only[Vi,Vk,Y1,Y2,Vj,Vq,Vo,h5,V2,VX]<;>rfl
def mU:Nat->List BA->Ps (List BA)
 |0,_=>λ_=>none
 |k+1,acc=>bnd dU λa=>bnd (xO cu) λc=>if c=true then mU k (acc++[a])else ret (acc++[a])
def G7:Ps (List BA):=λl=>mU (l.length+1) [] l
def zK(it:List Item):Ps Item:=bnd (cG [gM]) λ_=>bnd dU λn=>bnd (cG [oB]) λ_=>bnd G7 λns=>bnd (cG [cB,sB]) λ_=>
 bnd (nay (j5 ns||ij it ns)) λ_=>ret (Item.mk 1 n 0 ns z0)
def fresh(it:List Item)(k:Int)(x:Item):Ps Item:=bnd (nay (fH it k x.name0)) λ_=>ret x
theorem jV{w:BA}{l:List BA}(h:dK w l=true):l.tail.length+1=l.length:=by
 obtain⟨r,rfl⟩:=j_ h;rfl
theorem RT(it:List Item)(x:Item)(a:Int)(nm:BA)(b c d:Int)(e:Bool)(ps:List aa):∀(m:Nat) (l:List BA) (w:Bool) (acc:List BA),l.length<=m->acc.length+l.length<=10000000->
 ∃ns l' w',cg (l,w,x,a,nm,b,c,d,e,acc,ps,it,())=some (l',w',x,a,nm,b,c,d,e,ns,ps,it,())/\ns.length<=acc.length+l.length+1/\l'<:+l/\∀k,l.length<k->Sim (mU k acc) l w ns l' w':=by
 intro m
 induction m with
 |zero=>
  intro l w acc hl hb
  have hl0:l=[]:=Wr.1 (by omega)
  subst hl0
  refine⟨acc++[e0],[],w|| !bY (hd []),?_,by simp,VP _,λk hk=> ?_⟩
  ·have ht:acc.length+1<=4294967296:=by omega
   rw[cg]
   simp only[Fz,<-dO,f156 cu gD,Vi,Vk,Y1,Y2,Vj,Vq,Vo,Vt,ht]
   rfl
  ·obtain⟨k,rfl⟩:∃j,k=j+1:=⟨k-1,by omega⟩
   exact Sim.wrong _ (VP _) rfl|>.strict (λ_=>by cases w<;>rfl) (λ_=>rfl)
 |succ m ih=>
  intro l w acc hl hb
  have h2:=Fz l w it
  have m2:=Sim.name l w
  obtain⟨n,hn⟩:∃n,hd l=n:=⟨_,rfl⟩
  obtain⟨l2,hl2⟩:∃l2,cA l=l2:=⟨_,rfl⟩
  obtain⟨w2,hw2⟩:∃w2,(w|| !bY n)=w2:=⟨_,rfl⟩
  rw[hn,hl2,hw2]at h2 m2
  have hlen2:=m2.len
  have h3:=f156 cu gD l2 w2 it
  have m3:=Sim.may cu l2 w2
  have ht:acc.length+1<=4294967296:=by omega
  cases hb2:dK cu l2 with
  |false=>
   rw[hb2,Y4 VK]at h3 m3
   refine⟨acc++[n],l2,w2,?_,by rw[VB,Vt];omega,m2.suf,λk hk=> ?_⟩
   ·rw[cg]
    simp only[h2,<-dO,h3,Vi,Vk,Y1,Y2,Vj,Vq,Vo,Vt,ht]
   ·obtain⟨k,rfl⟩:∃j,k=j+1:=⟨k-1,by omega⟩
    exact m2.bnd (m3.bnd (.ret _ _ _))
  |true=>
   rw[hb2,Y5 rfl]at h3 m3
   have htl:=jV hb2
   obtain⟨ns,l',w',i1,i2,i3,i4⟩:=ih l2.tail w2 (acc++[n]) (by omega) (by rw[VB,Vt];omega)
   refine⟨ns,l',w',?_,by rw[VB,Vt]at i2;omega,i3.trans ((Xd l2).trans m2.suf),λk hk=> ?_⟩
   ·rw[cg]
    simp only[h2,<-dO,h3,Vi,Vk,Y1,Y2,Vj,Vq,Vo,Vt,ht]
    exact i1
   ·obtain⟨k,rfl⟩:∃j,k=j+1:=⟨k-1,by omega⟩
    exact m2.bnd (m3.bnd (i4 k (by omega)))
theorem Sim.fuel{α:Type}{p:Nat->Ps α}{l l':List BA}{w w':Bool}{a:α}(h:Sim (p (l.length+1)) l w a l' w'):Sim (λl=>p (l.length+1) l) l w a l' w':=h.congr rfl
theorem f123(it:List Item)(hi:eV it)(l:List BA)(hl:l.length<=1000000)(w:Bool):∃l' w' x,fM (l,w,it,())=some (l',w',it,x,())/\Sim (bnd (zK it) (fresh it 1)) l w x l' w':=by
 have hlen:=hi.len
 obtain⟨l1,w1,h1,m1⟩:=f154 [gM] (by simp[nk]) (by simp) l w it
 have h2:=Fz l1 w1 it
 have m2:=Sim.name l1 w1
 obtain⟨n,hn⟩:∃n,hd l1=n:=⟨_,rfl⟩
 obtain⟨l2,hl2⟩:∃l2,cA l1=l2:=⟨_,rfl⟩
 obtain⟨w2,hw2⟩:∃w2,(w1|| !bY n)=w2:=⟨_,rfl⟩
 rw[hn,hl2,hw2]at h2 m2
 obtain⟨l3,w3,h3,m3⟩:=f154 [oB] (by simp[Q4]) (by simp) l2 w2 it
 have hlen3:=Wl (Wl m3.len m2.len) m1.len
 obtain⟨ns,l4,w4,h4,hns,_,m4⟩:=RT it (Item.mk 0 (Vp #[]) 0 [] (aa.mk 0 0 false [])) 1 n 0 0 0 false [] _ l3 w3 [] (VN _) (by simp only[VU];omega)
 have m4:=Sim.fuel (p:=λk=>mU k []) (m4 _ (Xv _))
 rw[VU]at hns
 obtain⟨l5,w5,h5,m5⟩:=f154 [cB,sB] (by simp[JD,IG]) (by simp) l4 w4 it
 have main0:Sim (zK it) l w (Item.mk 1 n 0 ns z0) l5 (w5||(j5 ns||ij it ns)):=by unfold zK;exact m1.bnd (m2.bnd (m3.bnd (m4.bnd (m5.bnd ((Sim.nay _ _ _).bnd (.ret _ _ _))))))
 have main1:Sim (fresh it 1 (Item.mk 1 n 0 ns z0)) l5 (w5||(j5 ns||ij it ns)) (Item.mk 1 n 0 ns z0) l5 (w5||(j5 ns||ij it ns)||fH it 1 n):=(Sim.nay _ _ _).bnd (.ret _ _ _)
 have main:=main0.bnd main1
 refine⟨l5,_,_,?_,main⟩
 have h6:=MB 1 n it (by omega)
 have h7:=f160 ns (by omega)
 have h8:=Ud ns (by omega) it (by omega) hi.nm
 rw[fM]
 simp only[<-nM,<-Rf,<-H_,<-sV,h1,h2,h3,h4,h5,Vi,Vk,Y1,Y2,Vj,Vq,Vo]
 cases w5 with
 |true=>simp only[Vi,Vk,Y1,Y2,Vj,Vq,Vo,V2];rfl
 |false=>
  cases hh:fH it 1 n with
  |true=>simp only[Vi,Vk,Y1,Y2,Vj,Vq,Vo,h6,hh,Wz];rfl
  |false=>
   cases hd:j5 ns with
   |true=>simp only[Vi,Vk,Y1,Y2,Vj,Vq,Vo,h6,hh,h7,hd,Wz,V2];rfl
   |false=>simp only[Vi,Vk,Y1,Y2,Vj,Vq,Vo,h6,hh,h7,hd,h8,VX,Wx];rfl
def yV(mx:Int)(t:aa)(b:Bool):Ps aa:=if b=true then bnd NB λv=>bnd (nay (decide (v<1)||decide (v>mx))) λ_=>bnd (cG [Ov]) λ_=>ret (aa.mk 5 v false [t])else ret t
def kG(it:List Item)(mx:Int):Ps (aa×BA):=bnd (sM it false) λt=>bnd dU λn=>bnd (xO vM) λb=>bnd (yV mx t b) λt'=>bnd (cG [sB]) λ_=>ret (t',n)
def bR(it:List Item)(mx:Int):Nat->List BA->List aa->Ps (List BA×List aa)
 |0,_,_=>λ_=>none
 |k+1,ns,ps=>λl=>if dK cB l=true then some ((ns,ps),l)else bnd (kG it mx) (λp=>bR it mx k (ns++[p.2]) (ps++[p.1])) l
def lT(it:List Item)(mx:Int):Ps (List BA×List aa):=λl=>bR it mx (l.length+1) [] [] l
def dR(it:List Item)(mx:Int):Ps Item:=bnd (cG [bP]) λ_=>bnd dU λn=>bnd (cG [oB]) λ_=>bnd (lT it mx) λp=>bnd (cG [cB,sB]) λ_=>
 bnd (nay (p.1.isEmpty||j5 p.1)) λ_=>ret (Item.mk 2 n 0 p.1 (aa.mk 6 0 false p.2))
def Lep{α:Type}(p:Ps α):Prop:=∀l a r,p l=some (a,r)->r.length<=l.length
def Ltp{α:Type}(p:Ps α):Prop:=∀l a r,p l=some (a,r)->r.length<l.length
theorem au{α β:Type}{p:Ps α}{q:α->Ps β}{l:List BA}{c:β}{r:List BA}(h:bnd p q l=some (c,r)):∃a r1,p l=some (a,r1)/\q a r1=some (c,r):=by
 unfold bnd at h
 cases hp:p l with
 |none=>rw[hp]at h;cases h
 |some x=>obtain⟨a,r1⟩:=x;rw[hp]at h;exact⟨a,r1,rfl,h⟩
theorem Ltp.le{α:Type}{p:Ps α}(h:Ltp p):Lep p:=λl a r hp=>Nat.le_of_lt (h l a r hp)
theorem Lep.bnd{α β:Type}{p:Ps α}{q:α->Ps β}(h1:Lep p)(h2:∀a,Lep (q a)):Lep (bnd p q):=λl c r h=>by
 obtain⟨a,r1,e1,e2⟩:=au h
 have:=h1 _ _ _ e1;have:=h2 _ _ _ _ e2;omega
theorem Ltp.bnd{α β:Type}{p:Ps α}{q:α->Ps β}(h1:Ltp p)(h2:∀a,Lep (q a)):Ltp (bnd p q):=λl c r h=>by
 obtain⟨a,r1,e1,e2⟩:=au h
 have:=h1 _ _ _ e1;have:=h2 _ _ _ _ e2;omega
theorem Ltp.bnd'{α β:Type}{p:Ps α}{q:α->Ps β}(h1:Lep p)(h2:∀a,Ltp (q a)):Ltp (Proofs.YtpelkenpapfadaaGreatDoor.bnd p q):=λl c r h=>by
 obtain⟨a,r1,e1,e2⟩:=au h
 have:=h1 _ _ _ e1;have:=h2 _ _ _ _ e2;omega
theorem Lep.ret{α:Type}(a:α):Lep (ret a):=λl b r h=>by cases h;exact VN _
theorem Lep.nay(b:Bool):Lep (nay b):=λl a r h=>by
 unfold Proofs.YtpelkenpapfadaaGreatDoor.nay at h;split at h;cases h;cases h;exact VN _
theorem Lep.may(w:BA):Lep (xO w):=λl a r h=>by
 unfold xO at h;cases h;exact(uS w l).length_le
theorem Ltp.want(w:BA):Ltp (qZ w):=λl a r h=>by
 unfold qZ at h;split at h
 ·rename_i hh;cases h;have:=jV hh;omega
 ·cases h
theorem Lep.wants:∀ws:List BA,Lep (cG ws)
 |[]=>Lep.ret _
 |w::r=>(Ltp.want w).le.bnd λ_=>Lep.wants r
theorem Ltp.word:Ltp vm:=λl a r h=>by
 cases l with
 |nil=>cases h
 |cons s t=>
  rw[show vm (s::t)=if s=e0 then none else some (s,t)from rfl]at h
  split at h
  ·cases h
  ·cases h;simp
theorem Ltp.name:Ltp dU:=λl a r h=>by
 cases l with
 |nil=>cases h
 |cons s t=>
  rw[show dU (s::t)=if bY s=true then some (s,t)else none from rfl]at h
  split at h
  ·cases h;simp
  ·cases h
theorem Ltp.num:Ltp NB:=λl a r h=>by
 cases l with
 |nil=>cases h
 |cons s t=>
  rw[show NB (s::t)=if fi s=true then some (qV s,t)else none from rfl]at h
  split at h
  ·cases h;simp
  ·cases h
theorem Lep.stars(t:aa):Lep (Bm t):=λl a r h=>by
 have h:some (Proofs.YtpelkenpapfadaaGreatDoor.stars t l)=some (a,r):=h
 injection h with h
 have:=(rO l t).length_le
 rw[h]at this;exact this
theorem Ltp.base(it:List Item):Ltp (qY it):=by
 rw[eS]
 refine Ltp.bnd' (Lep.may _) λu=>Ltp.word.bnd λs=> ?_
 unfold dF
 (repeat' split)<;>first
   |exact Lep.ret _
   |(refine(Lep.nay _).bnd λ_=> ?_
     (repeat' split)<;>first
      |exact Lep.ret _
      |exact Ltp.name.le.bnd λn=>(Lep.nay _).bnd λ_=>Lep.ret _
      |exact(Lep.nay _).bnd λ_=>Lep.ret _)
theorem Ltp.kind(it:List Item)(b:Bool):Ltp (sM it b):=(Ltp.base it).bnd λt=>(Lep.stars t).bnd λ_=>(Lep.nay _).bnd λ_=>Lep.ret _
theorem Lep.arr(mx:Int)(t:aa)(b:Bool):Lep (yV mx t b):=by
 unfold yV;split
 ·exact Ltp.num.le.bnd λv=>(Lep.nay _).bnd λ_=>(Lep.wants _).bnd λ_=>Lep.ret _
 ·exact Lep.ret _
theorem Ltp.part(it:List Item)(mx:Int):Ltp (kG it mx):=(Ltp.kind it false).bnd λt=>Ltp.name.le.bnd λn=>(Lep.may _).bnd λb=>(Lep.arr _ _ _).bnd λt'=>(Lep.wants _).bnd λ_=>Lep.ret _
theorem Sim.lt{α:Type}{p:Ps α}{l l1:List BA}{a:α}(h:Sim p l false a l1 false)(hp:Ltp p):l1.length<l.length:=by
 cases e:p l with
 |none=>have:=h.no rfl e;cases this
 |some x=>
  obtain⟨b,r⟩:=x
  obtain⟨_,rfl,rfl⟩:=h.ok rfl b r e
  exact hp _ _ _ e
def jc:Int:=1000000000
theorem RU(it:List Item)(hi:eV it)(x:Item)(a:Int)(nm:BA)(b c d:Int)(e:Bool):∀(m:Nat) (l:List BA) (w:Bool) (ns:List BA) (ps:List aa),vK l->(w=true\/l.length<=m)->ns.length+l.length<=10000000->ps.length+l.length<=10000000->
 ∃ns' ps' l' w',aY (l,w,x,a,nm,b,c,d,e,ns,ps,it,())=some (l',w',x,a,nm,b,c,d,e,ns',ps',it,())/\ns'.length<=ns.length+l.length+1/\l'<:+l/\∀k,l.length<k->Sim (bR it jc k ns ps) l w (ns',ps') l' w':=by
 intro m
 induction m with
 |zero=>
  intro l w ns ps hg hm hb hb2
  cases w with
  |true=>
   refine⟨ns,ps,l,true,?_,by omega,VP _,λk hk=>Sim.any _ (VP _)⟩
   rw[aY]
   simp only[Vi,Vk,Y1,Y2,Vj,Vq,Vo]
  |false=>
   have hl0:l=[]:=Wr.1 (by rcases hm with h|h;cases h;omega)
   subst hl0
   obtain⟨l1,w1,t,h1,m1⟩:=f163 it hi false [] false
   have hl1:l1=[]:=Wr.1 (by have:=m1.len;simpa using this)
   subst hl1
   have hw1:w1=true:=m1.no rfl rfl
   subst hw1
   obtain⟨l5,w5,h5,m5⟩:=f154 [sB] (by simp[IG]) (by simp) [] true it
   have hl5:l5=[]:=Wr.1 (by have:=m5.len;simpa using this)
   have hw5:w5=true:=m5.bad rfl
   subst hl5 hw5
   have ht:ns.length+1<=4294967296:=by omega
   have ht2:ps.length+1<=4294967296:=by omega
   refine⟨ns++[e0],ps++[t],[],true,?_,by simp,VP _,λk hk=> ?_⟩
   ·rw[aY]
    have hd0:hd []=e0:=rfl
    have hdw:cA []=[]:=rfl
    have hz:decide (e0=cB)=false:=decide_eq_false λh=>JD h.symm
    have ha:dK vM []=false:=rfl
    simp only[Vi,Vk,Y1,Y2,Vj,Vq,Vo,MC,hd0,aL,<-H_,hz,h1,Fz,hdw,Vt,ht,<-uv,f156 vM Bf,ha,<-sV,h5,ht2,V2]
    rw[aY]
    simp only[Vi,Vk,Y1,Y2,Vj,Vq,Vo]
   ·obtain⟨k,rfl⟩:∃j,k=j+1:=⟨k-1,by omega⟩
    exact Sim.wrong _ (VP _) rfl
 |succ m ih=>
  intro l w ns ps hg hm hb hb2
  cases w with
  |true=>
   refine⟨ns,ps,l,true,?_,by omega,VP _,λk hk=>Sim.any _ (VP _)⟩
   rw[aY]
   simp only[Vi,Vk,Y1,Y2,Vj,Vq,Vo]
  |false=>
   have hml:l.length<=m+1:=by rcases hm with h|h;cases h;exact h
   have hat:=CR JD l
   cases hc:dK cB l with
   |true=>
    rw[hc]at hat
    refine⟨ns,ps,l,false,?_,by omega,VP _,λk hk=> ?_⟩
    ·rw[aY]
     simp only[Vi,Vk,Y1,Y2,Vj,Vq,Vo,MC,aL,<-H_,hat]
    ·obtain⟨k,rfl⟩:∃j,k=j+1:=⟨k-1,by omega⟩
     exact(Sim.ret (ns,ps) l false).congr (by unfold bR;rw[hc,Y5 rfl];rfl)
   |false=>
    rw[hc]at hat
    obtain⟨l1,w1,t,h1,m1⟩:=f163 it hi false l false
    have h2:=Fz l1 w1 it
    have m2:=Sim.name l1 w1
    obtain⟨n,hn⟩:∃n,hd l1=n:=⟨_,rfl⟩
    obtain⟨l2,hl2⟩:∃l2,cA l1=l2:=⟨_,rfl⟩
    obtain⟨w2,hw2⟩:∃w2,(w1|| !bY n)=w2:=⟨_,rfl⟩
    rw[hn,hl2,hw2]at h2 m2
    have h3:=f156 vM Bf l2 w2 it
    have m3:=Sim.may vM l2 w2
    have ht:ns.length+1<=4294967296:=by omega
    have ht2:ps.length+1<=4294967296:=by omega
    have arr:∃l4 w4 t4,Sim (yV jc t (dK vM l2)) (if dK vM l2=true then l2.tail else l2) w2 t4 l4 w4/\
     ∀l5 w5,ba ([sB],l4,w4,it,())=some (l5,w5,it,())->aY (l,false,x,a,nm,b,c,d,e,ns,ps,it,())=aY (l5,w5,x,a,nm,b,c,d,e,ns++[n],ps++[t4],it,()):=by
     cases hb3:dK vM l2 with
     |false=>
      rw[hb3,Y4 VK]at h3
      refine⟨l2,w2,t,?_,λl5 w5 h5=> ?_⟩
      ·rw[Y4 VK];exact .ret _ _ _
      ·conv=>lhs;rw[aY]
       simp only[Vi,Vk,Y1,Y2,Vj,Vq,Vo,MC,aL,<-H_,hat,h1,h2,Vt,ht,<-uv,h3,<-sV,h5,ht2]
     |true=>
      rw[hb3,Y5 rfl]at h3
      rw[Y5 rfl]
      have g2:vK l2.tail:=hg.suf (((Xd l2).trans m2.suf).trans m1.suf)
      have h4:=Tn l2.tail g2 w2 it
      have m4:=Sim.num l2.tail w2 (qV (hd l2.tail)) λ_=>rfl
      have hvb:fi (hd l2.tail)=true->0<=qV (hd l2.tail)/\qV (hd l2.tail)<1000000000:=by
       intro h
       rcases zY g2 with e|e
       ·rw[e]at h;cases h
       ·exact JG e.1 h
      obtain⟨v,hv⟩:∃v,qV (hd l2.tail)=v:=⟨_,rfl⟩
      obtain⟨l4,hl4⟩:∃l4,cA l2.tail=l4:=⟨_,rfl⟩
      obtain⟨w4,hw4⟩:∃w4,(w2|| !fi (hd l2.tail))=w4:=⟨_,rfl⟩
      rw[hv]at hvb
      rw[hv,hl4,hw4]at h4 m4
      obtain⟨l6,w6,h6,m6⟩:=f154 [Ov] (by simp[Lu]) (by simp) l4 (w4||decide (v<1)) it
      refine⟨l6,w6,aa.mk 5 v false [t],?_,λl5 w5 h5=> ?_⟩
      ·have hst:Sim (nay (decide (v<1)||decide (v>jc))) l4 w4 () l4 (w4||decide (v<1)):=by
        refine(Sim.nay _ _ _).strict (λh=> ?_) λh=> ?_
        ·cases hw4':w4 with
         |true=>rfl
         |false=>
          rw[hw4',VX]at h
          have hno:fi (hd l2.tail)=true:=by
           rw[hw4']at hw4
           cases hq:fi (hd l2.tail)with
           |true=>rfl
           |false=>rw[hq]at hw4;cases w2<;>cases hw4
          have:=hvb hno
          have h2:decide (v>jc)=false:=decide_eq_false (by unfold jc;omega)
          rw[h2,Wx]at h
          rw[h];rfl
        ·cases w4 with
         |true=>rfl
         |false=>rw[VX]at h⊢;rw[h];rfl
       unfold yV
       rw[Y5 rfl]
       exact m4.bnd (hst.bnd (m6.bnd (.ret _ _ _)))
      ·conv=>lhs;rw[aY]
       simp only[Vi,Vk,Y1,Y2,Vj,Vq,Vo,MC,aL,<-H_,hat,h1,h2,Vt,ht,<-uv,h3,h4]
       cases w4 with
       |true=>
        rw[V2]at h6
        simp only[Vi,Vk,Y1,Y2,Vj,Vq,Vo,<-yA,h6,<-sV,h5,ht2]
       |false=>
        rw[VX]at h6
        simp only[Vi,Vk,Y1,Y2,Vj,Vq,Vo,<-yA,h6,<-sV,h5,ht2]
    obtain⟨l4,w4,t4,m4,harr⟩:=arr
    obtain⟨l5,w5,h5,m5⟩:=f154 [sB] (by simp[IG]) (by simp) l4 w4 it
    have hpart:Sim (kG it jc) l false (t4,n) l5 w5:=m1.bnd (m2.bnd (m3.bnd (m4.bnd (m5.bnd (.ret _ _ _)))))
    have hnative:=harr l5 w5 h5
    have hl5:=hpart.len
    have hlt:w5=true\/l5.length<l.length:=by
     cases w5 with
     |true=>exact .inl rfl
     |false=>exact .inr (hpart.lt (Ltp.part it jc))
    rcases Decidable.em (w5=true)with hw5|hw5
    ·subst hw5
     refine⟨ns++[n],ps++[t4],l5,true,?_,by rw[VB,Vt];omega,hpart.suf,λk hk=> ?_⟩
     ·rw[hnative,aY]
      simp only[Vi,Vk,Y1,Y2,Vj,Vq,Vo]
     ·obtain⟨k,rfl⟩:∃j,k=j+1:=⟨k-1,by omega⟩
      refine(hpart.bnd (q:=λp=>bR it jc k (ns++[p.2]) (ps++[p.1])) (Sim.any _ (VP _))).congr (by conv=>lhs;unfold bR;rw[hc,Y4 VK])
    ·have hlt:l5.length<l.length:=by rcases hlt with h|h;exact(hw5 h).elim;exact h
     obtain⟨ns',ps',l',w',i1,i2,i3,i4⟩:=ih l5 w5 (ns++[n]) (ps++[t4]) (hg.suf hpart.suf) (.inr (by omega)) (by simp only[VB,Vt];omega) (by simp only[VB,Vt];omega)
     refine⟨ns',ps',l',w',by rw[hnative,i1],?_,i3.trans hpart.suf,λk hk=> ?_⟩
     ·rw[VB,Vt]at i2;omega
     ·obtain⟨k,rfl⟩:∃j,k=j+1:=⟨k-1,by omega⟩
      exact(hpart.bnd (q:=λp=>bR it jc k (ns++[p.2]) (ps++[p.1])) (i4 k (by omega))).congr (by conv=>lhs;unfold bR;rw[hc,Y4 VK])
theorem f124(it:List Item)(hi:eV it)(l:List BA)(hg:vK l)(hl:l.length<=1000000)(w:Bool):∃l' w' x,fN (l,w,it,())=some (l',w',it,x,())/\Sim (bnd (dR it jc) (fresh it 2)) l w x l' w':=by
 have hlen:=hi.len
 obtain⟨l1,w1,h1,m1⟩:=f154 [bP] (by simp[gT]) (by simp) l w it
 have h2:=Fz l1 w1 it
 have m2:=Sim.name l1 w1
 obtain⟨n,hn⟩:∃n,hd l1=n:=⟨_,rfl⟩
 obtain⟨l2,hl2⟩:∃l2,cA l1=l2:=⟨_,rfl⟩
 obtain⟨w2,hw2⟩:∃w2,(w1|| !bY n)=w2:=⟨_,rfl⟩
 rw[hn,hl2,hw2]at h2 m2
 obtain⟨l3,w3,h3,m3⟩:=f154 [oB] (by simp[Q4]) (by simp) l2 w2 it
 have s123:=(m3.suf.trans m2.suf).trans m1.suf
 have hlen3:=s123.length_le
 obtain⟨ns,ps,l4,w4,h4,hns,_,m4⟩:=RU it hi (Item.mk 0 (Vp #[]) 0 [] (aa.mk 0 0 false [])) 2 n 0 6 0 false _ l3 w3 [] [] (hg.suf s123) (.inr (VN _)) (by simp only[VU];omega) (by simp only[VU];omega)
 have m4:=Sim.fuel (p:=λk=>bR it jc k [] []) (m4 _ (Xv _))
 rw[VU]at hns
 obtain⟨l5,w5,h5,m5⟩:=f154 [cB,sB] (by simp[JD,IG]) (by simp) l4 w4 it
 have main0:Sim (dR it jc) l w (Item.mk 2 n 0 ns (aa.mk 6 0 false ps)) l5 (w5||(ns.isEmpty||j5 ns)):=by unfold dR;exact m1.bnd (m2.bnd (m3.bnd (m4.bnd (m5.bnd ((Sim.nay _ _ _).bnd (.ret _ _ _))))))
 have main1:Sim (fresh it 2 (Item.mk 2 n 0 ns (aa.mk 6 0 false ps))) l5 (w5||(ns.isEmpty||j5 ns)) (Item.mk 2 n 0 ns (aa.mk 6 0 false ps)) l5 (w5||(ns.isEmpty||j5 ns)||fH it 2 n):=(Sim.nay _ _ _).bnd (.ret _ _ _)
 have main:=main0.bnd main1
 refine⟨l5,_,_,?_,main⟩
 have h6:=MB 2 n it (by omega)
 have h7:=f160 ns (by omega)
 have hz:((ns.length:Int)==0)=ns.isEmpty:=by
  cases ns with
  |nil=>rfl
  |cons y r=>exact beq_eq_false_iff_ne.2 (by rw[VD];omega)
 rw[fN]
 simp only[<-ig,<-Rf,<-H_,<-sV,h1,h2,h3,h4,h5,Vi,Vk,Y1,Y2,Vj,Vq,Vo,hz]
 cases w5 with
 |true=>simp only[Vi,Vk,Y1,Y2,Vj,Vq,Vo,V2]
 |false=>
  cases he:ns.isEmpty with
  |true=>simp only[Vi,Vk,Y1,Y2,Vj,Vq,Vo,V2,Wz]
  |false=>
   cases hd:j5 ns with
   |true=>simp only[Vi,Vk,Y1,Y2,Vj,Vq,Vo,h7,hd,Wz,V2]
   |false=>simp only[Vi,Vk,Y1,Y2,Vj,Vq,Vo,h6,h7,hd,VX,Wx]
def G6(it:List Item):Nat->List BA->List aa->Ps (List BA×List aa)
 |0,_,_=>λ_=>none
 |k+1,ns,ps=>bnd (sM it false) λt=>bnd dU λn=>bnd (xO cu) λc=>if c=true then G6 it k (ns++[n]) (ps++[t])else ret (ns++[n],ps++[t])
def yx:List BA->Bool
 |a::b::_=>decide (a=cz)&&decide (b=dE)
 |_=>false
def kV(it:List Item):Ps (List BA×List aa):=λl=>if yx l=true then some (([],[]),l.tail)else G6 it (l.length+1) [] [] l
def zL(it:List Item):Ps Item:=bnd (sM it true) λt=>bnd dU λn=>bnd (cG [AF]) λ_=>bnd (kV it) λp=>bnd (cG [dE,sB]) λ_=>
 bnd (nay (j5 p.1)) λ_=>ret (Item.mk 3 n 0 p.1 (aa.mk 6 0 false (p.2++[t])))
theorem RV(it:List Item)(hi:eV it)(x:Item)(y:aa)(a:Int)(nm:BA)(b c d:Int)(e:Bool):∀(m:Nat) (l:List BA) (w:Bool) (ns:List BA) (ps:List aa),l.length<=m->ns.length+l.length<=10000000->ps.length+l.length<=10000000->
 ∃ns' ps' l' w',ci (l,w,x,y,a,nm,b,c,d,e,ns,ps,it,())=some (l',w',x,y,a,nm,b,c,d,e,ns',ps',it,())/\ns'.length<=ns.length+l.length+1/\ps'.length<=ps.length+l.length+1/\l'<:+l/\∀k,l.length<k->Sim (G6 it k ns ps) l w (ns',ps') l' w':=by
 intro m
 induction m with
 |zero=>
  intro l w ns ps hl hb hb2
  have hl0:l=[]:=Wr.1 (by omega)
  subst hl0
  obtain⟨l1,w1,t,h1,m1⟩:=f163 it hi false [] w
  have hl1:l1=[]:=Wr.1 (by have:=m1.len;simpa using this)
  subst hl1
  have hn:bY (hd [])=false:=rfl
  have m2:=Sim.name [] w1
  have m3:=Sim.may cu [] (w1|| !bY (hd []))
  have ht:ns.length+1<=4294967296:=by omega
  have ht2:ps.length+1<=4294967296:=by omega
  refine⟨ns++[e0],ps++[t],[],w1|| !bY (hd []),?_,by simp,by simp,VP _,λk hk=> ?_⟩
  ·have ha:dK cu []=false:=rfl
   have hdw:cA []=[]:=rfl
   rw[ci]
   simp only[h1,Fz,hdw,<-dO,f156 cu gD,ha,Vi,Vk,Y1,Y2,Vj,Vq,Vo,Vt,ht,ht2]
   rfl
  ·obtain⟨k,rfl⟩:∃j,k=j+1:=⟨k-1,by omega⟩
   exact m1.bnd (m2.bnd (m3.bnd (.ret _ _ _)))
 |succ m ih=>
  intro l w ns ps hl hb hb2
  obtain⟨l1,w1,t,h1,m1⟩:=f163 it hi false l w
  have h2:=Fz l1 w1 it
  have m2:=Sim.name l1 w1
  obtain⟨n,hn⟩:∃n,hd l1=n:=⟨_,rfl⟩
  obtain⟨l2,hl2⟩:∃l2,cA l1=l2:=⟨_,rfl⟩
  obtain⟨w2,hw2⟩:∃w2,(w1|| !bY n)=w2:=⟨_,rfl⟩
  rw[hn,hl2,hw2]at h2 m2
  have hlen2:=Wl m2.len m1.len
  have h3:=f156 cu gD l2 w2 it
  have m3:=Sim.may cu l2 w2
  have ht:ns.length+1<=4294967296:=by omega
  have ht2:ps.length+1<=4294967296:=by omega
  cases hb3:dK cu l2 with
  |false=>
   rw[hb3,Y4 VK]at h3 m3
   refine⟨ns++[n],ps++[t],l2,w2,?_,by rw[VB,Vt];omega,by rw[VB,Vt];omega,m2.suf.trans m1.suf,λk hk=> ?_⟩
   ·rw[ci]
    simp only[h1,h2,<-dO,h3,Vi,Vk,Y1,Y2,Vj,Vq,Vo,Vt,ht,ht2]
   ·obtain⟨k,rfl⟩:∃j,k=j+1:=⟨k-1,by omega⟩
    exact m1.bnd (m2.bnd (m3.bnd (.ret _ _ _)))
  |true=>
   rw[hb3,Y5 rfl]at h3 m3
   have htl:=jV hb3
   obtain⟨ns',ps',l',w',i1,i2,i2',i3,i4⟩:=ih l2.tail w2 (ns++[n]) (ps++[t]) (by omega) (by rw[VB,Vt];omega) (by rw[VB,Vt];omega)
   refine⟨ns',ps',l',w',?_,by rw[VB,Vt]at i2;omega,by rw[VB,Vt]at i2';omega,i3.trans ((Xd l2).trans (m2.suf.trans m1.suf)),λk hk=> ?_⟩
   ·rw[ci]
    simp only[h1,h2,<-dO,h3,Vi,Vk,Y1,Y2,Vj,Vq,Vo,Vt,ht,ht2]
    exact i1
   ·obtain⟨k,rfl⟩:∃j,k=j+1:=⟨k-1,by omega⟩
    exact m1.bnd (m2.bnd (m3.bnd (i4 k (by omega))))
theorem yy{l:List BA}(h:yx l=true):∃r,l=cz::dE::r:=by
 match l,h with
 |a::b::r,h=>
  unfold yx at h
  rw[VE,Y3,Y3]at h
  exact⟨r,by rw[h.1,h.2]⟩
theorem f125(it:List Item)(hi:eV it)(l:List BA)(hl:l.length<=1000000)(w:Bool):∃l' w' x,d7 (l,w,it,())=some (l',w',it,x,())/\Sim (bnd (zL it) (fresh it 3)) l w x l' w':=by
 have hlen:=hi.len
 obtain⟨l1,w1,t,h1,m1⟩:=f163 it hi true l w
 have h2:=Fz l1 w1 it
 have m2:=Sim.name l1 w1
 obtain⟨n,hn⟩:∃n,hd l1=n:=⟨_,rfl⟩
 obtain⟨l2,hl2⟩:∃l2,cA l1=l2:=⟨_,rfl⟩
 obtain⟨w2,hw2⟩:∃w2,(w1|| !bY n)=w2:=⟨_,rfl⟩
 rw[hn,hl2,hw2]at h2 m2
 obtain⟨l3,w3,h3,m3⟩:=f154 [AF] (by simp[GP]) (by simp) l2 w2 it
 have hlen3:=Wl (Wl m3.len m2.len) m1.len
 have args:∃ns ps l4 w4,Sim (kV it) l3 w3 (ns,ps) l4 w4/\ns.length<=2000000/\ps.length<=2000000/\∀l5 w5,ba ([dE,sB],l4,w4,it,())=some (l5,w5,it,())->
  d7 (l,w,it,())=some (l5,w5||j5 ns||fH it 3 n,it,Item.mk 3 n 0 ns (aa.mk 6 0 false (ps++[t])),()):=by
  cases hv:yx l3 with
  |true=>
   obtain⟨r,rfl⟩:=yy hv
   refine⟨[],[],dE::r,w3,?_,by simp,by simp,λl5 w5 h5=> ?_⟩
   ·refine⟨X2 _ _,id,λhw b r' hb=> ?_,λhw hb=> ?_⟩
    ·unfold kV at hb;rw[hv,Y5 rfl]at hb;cases hb;exact⟨hw,rfl,rfl⟩
    ·unfold kV at hb;rw[hv,Y5 rfl]at hb;cases hb
   ·have c1:¬(((cz::dE::r).length:Int)<2):=by simp only[VD];omega
    have c2:(cz::dE::r)[Wq 0]?=some cz:=rfl
    have c3:(cz::dE::r)[Wq 1]?=some dE:=rfl
    have c4:hd (cz::dE::r)=cz:=rfl
    have c5:cA (cz::dE::r)=dE::r:=rfl
    have h7:=f160 [] (by simp)
    have h8:j5 []=false:=rfl
    have h6:=MB 3 n it (by omega)
    rw[d7]
    simp only[h1,h2,<-vI,h3,Vi,Vk,Y1,Y2,Vj,Vq,Vo,c1,c2,c3,Y8,aL,<-jZ,<-vJ,Y7,IF,c5,<-sV,h5,VU,Vt,show(0+1<=4294967296)=True by simp]
    cases w5 with
    |true=>simp only[Vi,Vk,Y1,Y2,Vj,Vq,Vo,V2]
    |false=>simp only[Vi,Vk,Y1,Y2,Vj,Vq,Vo,h7,h8,h6,VX]
  |false=>
   obtain⟨ns,ps,l4,w4,h4,hns,hps,_,m4⟩:=RV it hi (Item.mk 0 (Vp #[]) 0 [] (aa.mk 0 0 false [])) t 3 n 0 6 0 false _ l3 w3 [] [] (VN _) (by simp only[VU];omega) (by simp only[VU];omega)
   rw[VU]at hns hps
   refine⟨ns,ps,l4,w4,(m4 _ (Xv _)).congr (by unfold kV;rw[hv,Y4 VK]),by omega,by omega,λl5 w5 h5=> ?_⟩
   have ht2:ps.length+1<=4294967296:=by omega
   have h7:=f160 ns (by omega)
   have h6:=MB 3 n it (by omega)
   rw[d7]
   simp only[h1,h2,<-vI,h3,Vi,Vk,Y1,Y2,Vj,Vq,Vo,aL,<-jZ,<-vJ]
   have fin:(if w5=true then some ((l5,true,Item.mk 0 (Vp #[]) 0 [] (aa.mk 0 0 false []),(3:Int),n,(0:Int),(6:Int),(0:Int),false,ns,ps++[t],it,()):List BA×Bool×Item×Int×BA×Int×Int×Int×Bool×List BA×List aa×List Item×Unit)
    else(sx (ns,())).bind λx6=>if(!x6.1)=true then some (l5,true,Item.mk 0 (Vp #[]) 0 [] (aa.mk 0 0 false []),(3:Int),n,(0:Int),(6:Int),(0:Int),false,ns,ps++[t],it,())
     else(bO (3,n,it,())).bind λx7=>if x7.2.1.length=it.length then some (l5,x7.1,Item.mk 0 (Vp #[]) 0 [] (aa.mk 0 0 false []),(3:Int),n,(0:Int),(6:Int),(0:Int),false,ns,ps++[t],x7.2.1,())else none)
    =some (l5,w5||j5 ns||fH it 3 n,Item.mk 0 (Vp #[]) 0 [] (aa.mk 0 0 false []),3,n,0,6,0,false,ns,ps++[t],it,()):=by
    cases w5 with
    |true=>simp only[Vi,Vk,Y1,Y2,Vj,Vq,Vo,V2]
    |false=>
     cases hd:j5 ns with
     |true=>simp only[Vi,Vk,Y1,Y2,Vj,Vq,Vo,h7,hd,V2,VX]
     |false=>simp only[Vi,Vk,Y1,Y2,Vj,Vq,Vo,h7,hd,h6,VX]
   by_cases c1:((l3.length:Int)<2)
   ·simp only[c1,Y7,Vi,Vk,Y1,Y2,Vj,Vq,Vo,h4,<-sV,h5,Vt,ht2]
    simp only[fin,Vi,Vk,Y1,Y2,Vj,Vq,Vo]
   ·match l3,hv,c1 with
    |[],_,c1=>exact(c1 (by simp)).elim
    |[y],_,c1=>exact(c1 (by simp)).elim
    |y::z::r,hv,c1=>
     have c2:(y::z::r)[Wq 0]?=some y:=rfl
     have c3:(y::z::r)[Wq 1]?=some z:=rfl
     by_cases e1:y=cz
     ·have e2:¬z=dE:=λe2=>by
       have hv:(decide (y=cz)&&decide (z=dE))=false:=hv
       rw[decide_eq_true e1,decide_eq_true e2]at hv;cases hv
      subst e1
      simp only[c1,c2,c3,e2,Y7,Y8,Vi,Vk,Y1,Y2,Vj,Vq,Vo,h4,<-sV,h5,Vt,ht2]
      simp only[fin,Vi,Vk,Y1,Y2,Vj,Vq,Vo]
     ·simp only[c1,c2,e1,Y7,Y8,Vi,Vk,Y1,Y2,Vj,Vq,Vo,h4,<-sV,h5,Vt,ht2]
      simp only[fin,Vi,Vk,Y1,Y2,Vj,Vq,Vo]
 obtain⟨ns,ps,l4,w4,m4,hns,hps,harg⟩:=args
 obtain⟨l5,w5,h5,m5⟩:=f154 [dE,sB] (by simp[GQ,IG]) (by simp) l4 w4 it
 have main0:Sim (zL it) l w (Item.mk 3 n 0 ns (aa.mk 6 0 false (ps++[t]))) l5 (w5||j5 ns):=by unfold zL;exact m1.bnd (m2.bnd (m3.bnd (m4.bnd (m5.bnd ((Sim.nay _ _ _).bnd (.ret _ _ _))))))
 have main1:Sim (fresh it 3 (Item.mk 3 n 0 ns (aa.mk 6 0 false (ps++[t])))) l5 (w5||j5 ns) (Item.mk 3 n 0 ns (aa.mk 6 0 false (ps++[t]))) l5 (w5||j5 ns||fH it 3 n):=(Sim.nay _ _ _).bnd (.ret _ _ _)
 exact⟨l5,_,_,harg l5 w5 h5,main0.bnd main1⟩
end Go.Proofs.YtpelkenpapfadaaGreatDoor
end
section
namespace Go.Proofs.YtpelkenpapfadaaGreatDoor
open Go.Tx
set_option maxRecDepth 20000
open Go.Lib
def ko(l:List BA)(w:Bool):BA:=if w=true then e0 else hd l
def dc(l:List BA)(w:Bool):List BA:=if w=true then l else cA l
theorem FW(l:List BA)(w:Bool):dc l w<:+l:=by unfold dc;split;exact VP l;exact mj l
theorem I3(l:List BA)(w:Bool)(it:List Item):db (l,w,it,())=some (ko l w,l,w,it,()):=by
 rw[db]
 cases w with
 |true=>simp only[Vi,Vk,Y1,Y2,Vj,Vq,Vo];rfl
 |false=>
  cases l with
  |nil=>simp only[Vi,Vk,Y1,Y2,Vj,Vq,Vo];rfl
  |cons s r=>
   have:(((s::r).length:Int)==0)=false:=beq_eq_false_iff_ne.2 (by rw[VD];omega)
   simp only[Vi,Vk,Y1,Y2,Vj,Vq,Vo,this];rfl
theorem f138(l:List BA)(w:Bool)(it:List Item):bG (l,w,it,())=some (ko l w,dc l w,w||decide (hd l=e0),it,()):=by
 have hx:(Vp #[])=e0:=rfl
 rw[bG]
 unfold dc cA
 cases w with
 |true=>
  have hs:ko l true=e0:=rfl
  simp only[I3,Vi,Vk,Y1,Y2,Vj,Vq,Vo,hs,hx,aL,Y7,V2]
 |false=>
  have hs:ko l false=hd l:=rfl
  by_cases h:hd l=e0
  ·simp only[I3,Vi,Vk,Y1,Y2,Vj,Vq,Vo,hs,hx,aL,h,Y7,VX]
  ·have hl:(0:Int)<=1/\(1:Int)<=(l.length:Int)/\(l.length:Int)<=(l.length:Int):=by
    cases l with
    |nil=>exact(h rfl).elim
    |cons s r=>rw[VD];omega
   simp only[I3,Vi,Vk,Y1,Y2,Vj,Vq,Vo,hs,hx,aL,h,Y8,VX,hl,and_self,Vl,My]
theorem yO(s:BA)(hs:¬s=e0)(l:List BA)(w:Bool)(it:List Item):∃l' w',aM (s,l,w,it,())=some (l',w',it,())/\Sim (qZ s) l w () l' w':=by
 rw[aM]
 cases w with
 |true=>
  have h1:ko l true=e0:=rfl
  have h2:¬e0=s:=λe=>hs e.symm
  have h3:dc l true=l:=rfl
  refine⟨l,true,?_,Sim.any _ (VP l)⟩
  simp only[f138,Vi,Vk,Y1,Y2,Vj,Vq,Vo,h1,h3,aL,h2,Y8]
 |false=>
  have h1:ko l false=hd l:=rfl
  have h3:dc l false=cA l:=rfl
  have hat:=CR hs l
  cases h:dK s l with
  |true=>
   rw[h]at hat
   obtain⟨r,rfl⟩:=j_ h
   have h4:hd (s::r)=s:=rfl
   have h5:cA (s::r)=r:=by unfold cA;rw[Y4 (show¬hd (s::r)=e0 from hs)];rfl
   refine⟨r,false,?_,?_⟩
   ·simp only[f138,Vi,Vk,Y1,Y2,Vj,Vq,Vo,h1,h3,h4,h5,aL,Y7,hs,Y8,VX]
   ·have:=Sim.want s (s::r) false
    rw[h,Y5 rfl]at this;exact this
  |false=>
   rw[h]at hat
   refine⟨cA l,true,?_,Sim.wrong _ (mj l) (by unfold qZ;rw[h,Y4 VK])⟩
   simp only[f138,Vi,Vk,Y1,Y2,Vj,Vq,Vo,h1,h3,aL,hat]
theorem CJ(l:List BA)(w:Bool)(it:List Item):bm (l,w,it,())=some (ko l w,dc l w,w|| !bY (hd l),it,()):=by
 have hx:(Vp #[])=e0:=rfl
 rw[bm]
 cases w with
 |true=>
  have h1:ko l true=e0:=rfl
  simp only[f138,Vi,Vk,Y1,Y2,Vj,Vq,Vo,h1,hx,aL,Y7,V2]
 |false=>
  have h1:ko l false=hd l:=rfl
  by_cases h:hd l=e0
  ·simp only[f138,Vi,Vk,Y1,Y2,Vj,Vq,Vo,h1,hx,aL,h,Y7,qR,Wz]
  ·have hg:(hd l)[0]?=some ((hd l).data.toList.getD 0 0):=bU (kq h)
   rw[xE h]
   cases h2:CS (((hd l).data.toList.getD 0 0).toNat:Int)with
   |false=>simp only[f138,Vi,Vk,Y1,Y2,Vj,Vq,Vo,h1,hx,aL,h,Y8,WH,hg,f88,h2,WP,Wz]
   |true=>
    cases h3:Ou (hd l)with
    |false=>simp only[f138,Vi,Vk,Y1,Y2,Vj,Vq,Vo,h1,hx,aL,h,Y8,WH,hg,f88,h2,f169,h3,WA,Wx]
    |true=>simp only[f138,Vi,Vk,Y1,Y2,Vj,Vq,Vo,h1,hx,aL,h,Y8,WH,hg,f88,h2,f169,h3,WA,Wz]
theorem Sim.nameR(l:List BA)(w:Bool):Sim dU l w (ko l w) (dc l w) (w|| !bY (hd l)):=by
 cases w with
 |true=>exact Sim.any _ (VP l)
 |false=>exact Sim.name l false
def mayR(s:BA)(l:List BA)(w:Bool):Bool:= !w&&dK s l
theorem IE(s:BA)(hs:¬s=e0)(l:List BA)(w:Bool)(it:List Item):bV (s,l,w,it,())=some (mayR s l w,(if mayR s l w=true then l.tail else l),w,it,()):=by
 rw[bV]
 have h2:¬e0=s:=λe=>hs e.symm
 cases w with
 |true=>
  have h1:ko l true=e0:=rfl
  have h3:mayR s l true=false:=rfl
  simp only[I3,Vi,Vk,Y1,Y2,Vj,Vq,Vo,h1,h3,aL,h2,Y8]
 |false=>
  have h1:ko l false=hd l:=rfl
  have h3:mayR s l false=dK s l:=rfl
  have hat:=CR hs l
  cases h:dK s l with
  |true=>
   obtain⟨r,rfl⟩:=j_ h
   have h4:hd (s::r)=s:=rfl
   have h5:dc (s::r) false=r:=by unfold dc cA;rw[Y4 VK,Y4 (show¬hd (s::r)=e0 from hs)];rfl
   simp only[I3,f138,Vi,Vk,Y1,Y2,Vj,Vq,Vo,h1,h3,h,h4,h5,hs,aL,Y7,Y8,Wx,Yd]
  |false=>
   rw[h]at hat
   simp only[I3,Vi,Vk,Y1,Y2,Vj,Vq,Vo,h1,h3,h,aL,hat]
theorem Sim.mayR(s:BA)(l:List BA)(w:Bool):Sim (xO s) l w (mayR s l w) (if mayR s l w=true then l.tail else l) w:=by
 cases w with
 |true=>exact Sim.any _ (VP l)
 |false=>exact Sim.may s l false
theorem Tm(l:List BA)(hg:vK l)(w:Bool)(it:List Item):∃v,eE (l,w,it,())=some (v,dc l w,w|| !fi (hd l),it,())/\Sim NB l w v (dc l w) (w|| !fi (hd l))/\(w=false->fi (hd l)=true->v=qV (hd l)):=by
 have hx:(Vp #[])=e0:=rfl
 rw[eE]
 cases w with
 |true=>
  have h1:ko l true=e0:=rfl
  refine⟨0,?_,Sim.any _ (VP l),λh=>by cases h⟩
  simp only[f138,Vi,Vk,Y1,Y2,Vj,Vq,Vo,h1,hx,aL,Y7,V2]
 |false=>
  have h1:ko l false=hd l:=rfl
  have h3:dc l false=cA l:=rfl
  cases hn:fi (hd l)with
  |false=>
   have hs:=Sim.num l false 0 (λh=>by rw[hn]at h;cases h)
   rw[hn]at hs
   refine⟨0,?_,hs,λ_ h=>by cases h⟩
   by_cases h:hd l=e0
   ·simp only[f138,Vi,Vk,Y1,Y2,Vj,Vq,Vo,h1,hx,aL,h,Y7,Wz]
   ·have hgt:(hd l)[0]?=some ((hd l).data.toList.getD 0 0):=bU (kq h)
    rw[vj h]at hn
    cases h4:xd (((hd l).data.toList.getD 0 0).toNat:Int)with
    |false=>simp only[f138,Vi,Vk,Y1,Y2,Vj,Vq,Vo,h1,hx,aL,h,Y8,WH,hgt,f89,h4,Wz]
    |true=>
     rw[h4,WA,decide_eq_false_iff_not]at hn
     have h5:((hd l).size:Int)>9:=by omega
     simp only[f138,Vi,Vk,Y1,Y2,Vj,Vq,Vo,h1,hx,aL,h,Y8,Y7,WH,hgt,f89,h4,h5,Wz]
  |true=>
   have hs:=Sim.num l false (qV (hd l)) (λ_=>rfl)
   rw[hn]at hs
   refine⟨qV (hd l),?_,hs,λ_ _=>rfl⟩
   have h:¬hd l=e0:=λe=>by rw[e]at hn;cases hn
   have hgt:(hd l)[0]?=some ((hd l).data.toList.getD 0 0):=bU (kq h)
   rw[vj h,VE,Y3]at hn
   have h5:¬((hd l).size:Int)>9:=by omega
   obtain⟨er,h6,_⟩:=Tp (hd l) (FK hg)
   simp only[f138,Vi,Vk,Y1,Y2,Vj,Vq,Vo,h1,h3,hx,aL,h,Y8,WH,hgt,f89,hn.1,h5,h6,Wx]
theorem f48(it:List Item)(hl:it.length<=1000000000)(k:Int)(name:BA):en (k,name,it,())=some (fH it k name,it,je it k name,()):=by
 have h:=fx (λj=>cV (k,name,(j:Int),it,zI,())) it (kn k name) (λj=>(true,it,it.getD j zI,())) (it,zI,()) (λj x hj hx=>by
  have g:(0:Int)<=(j:Int)/\(j:Int)<(it.length:Int):=by omega
  have hgd:it.getD j zI=x:=by rw[VS,hx];rfl
  rw[cV]
  have hk:(if(x.kind==k)=true then some ((k,name,(j:Int),x.name0.toList==name.toList,it,zI,()):Int×BA×Int×Bool×List Item×Item×Unit)else some (k,name,(j:Int),false,it,zI,()))=some (k,name,(j:Int),kn k name x,it,zI,()):=by
   unfold kn;cases (x.kind==k)<;>simp[aL]
  simp only[Vi,Vk,Y1,Vs,Vl,hj,g,and_self,Y7,hx,hk,hgd]
  cases kn k name x<;>simp[bh (a:=j) (by omega)]) (by
  rw[cV]
  simp only[Vi,Vk,Vr,Y1,Y2,Vj,Vn,Vl,Vm,Y6,Y3,Vs,Xh,Y8])
 have h:cV (k,name,0,it,zI,())=_:=h
 have hz:Item.mk 0 (Vp #[]) 0 [] (aa.mk 0 0 false [])=zI:=rfl
 rw[en]
 simp only[hz,h,Vi,Vk,Vr,Y1,Y2,Vj,Vn,Vl,Vm,Y6,Y3,Vs]
 unfold fH je
 rw[<-ix,lA]
 unfold uM
 cases h2:it.findIdx? (kn k name)with
 |none=>rfl
 |some i=>
  have hi:i<it.length:=(Xm.1 h2).1
  have c3:(i:Int)>=0:=by omega
  simp only[c3,Y7,VS,Vw hi,WY,Vk]
theorem f134(it:List Item)(hl:it.length<=1000000000)(hn:m9 it)(name:BA):Ad (it,name,())=some (gG it name,()):=by
 have inner (j:Nat) (x:Item) (hj:j<it.length) (hx:it[j]?=some x):ga (it,name,(j:Int),0,())=some (if inE name x=true then .inl (true,())else .inr (it,name,(j:Int),())):=by
  have hnx:=hn x (VI hx)
  unfold inE
  cases hk:(x.kind==1)with
  |false=>
   rw[ga]
   by_cases h0:(0:Int)<(x.names.length:Int)
   ·simp only[Vm,Vl,hx,Vi,Vk,Y1,Y2,Vj,Vq,Vo,h0,Y7,hk,WP]
   ·simp only[Vm,Vl,hx,Vi,Vk,Y1,Y2,Vj,Vq,Vo,h0,Y8,hk,WP]
  |true=>
   have h:=fx (λk=>ga (it,name,(j:Int),(k:Int),())) x.names (λs=>decide (name=s)) (λ_=>(true,())) (it,name,(j:Int),()) (λk s hks hs=>by
    rw[ga]
    simp only[Vm,Vl,hx,Vi,Vk,Y1,Y2,Vj,Vq,Vo,Vs,hks,Y7,hk,hs,aL,bh (a:=k) (by omega),eq_comm (a:=s) (b:=name)]) (by
    rw[ga]
    simp only[Vm,Vl,hx,Vi,Vk,Y1,Y2,Vj,Vq,Vo,Vs,Xh,Y8])
   have h:ga (it,name,(j:Int),0,())=_:=h
   rw[h,WA,<-ix]
   unfold uM
   cases x.names.findIdx? _ with
   |none=>rfl
   |some i=>rw[decide_eq_true (show(i:Int)>=0 by omega)];rfl
 have h:=fx (λj=>iI (it,name,(j:Int),())) it (λx=>kn 0 name x||inE name x) (λ_=>(true,())) () (λj x hj hx=>by
  rw[iI]
  have hk:(if(x.kind==0)=true then some ((it,name,(j:Int),x.name0.toList==name.toList,()):List Item×BA×Int×Bool×Unit)else some (it,name,(j:Int),false,()))=some (it,name,(j:Int),kn 0 name x,()):=by
   unfold kn;cases (x.kind==0)<;>simp[aL]
  simp only[Vm,Vl,Vi,Vk,Y1,Y2,Vj,Vq,Vo,Vs,hj,Y7,hx,hk]
  cases kn 0 name x with
  |true=>simp only[Vi,Vk,Y1,Y2,Vj,Vq,Vo,V2]
  |false=>
   simp only[Vi,Vk,Y1,Y2,Vj,Vq,Vo,inner j x hj hx,VX]
   cases inE name x<;>simp[bh (a:=j) (by omega)]) (by
  rw[iI]
  simp only[Vi,Vk,Vr,Y1,Y2,Vj,Vn,Vl,Vm,Y6,Y3,Vs,Xh,Y8])
 have h:iI (it,name,0,())=_:=h
 have ha:it.any (λx=>kn 0 name x||inE name x)=gG it name:=by
  unfold gG fH
  generalize it=l
  induction l with
  |nil=>rfl
  |cons x r ih=>simp only[XA,ih];cases kn 0 name x<;>cases inE name x<;>simp
 rw[Ad]
 simp only[h,Vi,Vk,Vr,Y1,Y2,Vj,Vn,Vl,Vm,Y6,Y3,Vs]
 rw[<-ha,<-ix]
 unfold uM
 cases it.findIdx? _ with
 |none=>rfl
 |some i=>rw[decide_eq_true (show(i:Int)>=0 by omega)]
theorem f135(ns:List BA)(hl:ns.length<=1000000000)(l:List BA)(w:Bool)(it:List Item):dB (ns,l,w,it,())=some (l,w||j5 ns,it,()):=by
 have inner (i:Nat) (hi:i<ns.length):∀(m k:Nat) (w:Bool),i-k=m->k<=i->ck (ns,(i:Int),(k:Int),l,w,it,())=some (ns,(i:Int),l,w||((ns.take i).drop k).any (λs=>decide (ns.getD i e0=s)),it,()):=by
  intro m
  induction m with
  |zero=>
   intro k w hm hk
   have hlt:¬k<i:=by omega
   rw[ck]
   simp only[Vi,Vk,Vr,Y1,Y2,Vj,Vn,Vl,Vm,Y6,Y3,Vs,hlt,Y8,WR (show(ns.take i).length<=k by rw[Wj];omega),Yw,Wx]
  |succ m ih=>
   intro k w hm hk
   have hlt:k<i:=by omega
   have hdr:(ns.take i).drop k=ns.getD k e0::(ns.take i).drop (k+1):=by
    have hkl:k<(ns.take i).length:=by rw[Wj];omega
    rw[WU hkl,List.getElem_take,VS,Vw (by omega)];rfl
   rw[ck,hdr,XA]
   simp only[Vm,Vl,Vi,Vk,Y1,Y2,Vj,Vq,Vo,Vs,hlt,Y7,zS hi,zS (show k<ns.length by omega),aL]
   by_cases he:ns.getD i e0=ns.getD k e0
   ·simp only[he,Y7,Vi,Vk,Y1,Y2,Vj,Vq,Vo,bh (a:=k) (by omega)]
    have:=ih (k+1) true (by omega) (by omega)
    rw[he]at this
    rw[this];simp
   ·simp only[he,Y8,Vi,Vk,Y1,Y2,Vj,Vq,Vo,bh (a:=k) (by omega),ih (k+1) w (by omega) (by omega),VX]
 have outer:∀(m i:Nat) (w:Bool),ns.length-i=m->i<=ns.length->cj (ns,(i:Int),l,w,it,())=some (l,w||ID ns i m,it,()):=by
  intro m
  induction m with
  |zero=>
   intro i w hm hi
   have hlt:¬i<ns.length:=by omega
   rw[cj]
   simp only[Vi,Vk,Vr,Y1,Y2,Vj,Vn,Vl,Vm,Y6,Y3,Vs,hlt,Y8,ID,Wx]
  |succ m ih=>
   intro i w hm hi
   have hlt:i<ns.length:=by omega
   have h:=inner i hlt _ 0 w rfl (by omega)
   rw[V6]at h
   have h:ck (ns,(i:Int),0,l,w,it,())=_:=h
   rw[cj,ID]
   simp only[Vi,Vk,Y1,Y2,Vj,Vq,Vo,Vs,hlt,Y7,h,bh (a:=i) (by omega),ih (i+1) _ (by omega) (by omega),YP]
 have h:=outer _ 0 w rfl (WL _)
 have h:cj (ns,0,l,w,it,())=some (l,w||j5 ns,it,()):=h
 rw[dB]
 simp only[h,Vi,Vk,Y1,Y2,Vj,Vq,Vo]
theorem Pj(x:aa)(res:Bool)(it:List Item):∀(l:List BA) (v:Bool) (t:aa),bF (res,v,l,false,x,t,it,())=some (res,v&& !dK gn l,(stars t l).2,false,x,(stars t l).1,it,())
 |[],v,t=>by
  have ha:mayR gn [] false=false:=rfl
  have ha2:dK gn []=false:=rfl
  rw[bF]
  simp only[<-rZ,IE gn rN,ha,ha2,Vi,Vk,Y1,Y2,Vj,Vq,Vo,XB];rfl
 |s::r,v,t=>by
  have ha:mayR gn (s::r) false=decide (s=gn):=by unfold mayR dK;rfl
  have ha2:dK gn (s::r)=decide (s=gn):=rfl
  rw[bF]
  simp only[<-rZ,IE gn rN,ha,ha2,Vi,Vk,Y1,Y2,Vj,Vq,Vo]
  by_cases h:s=gn
  ·rw[stars,Y5 h]
   simp only[h,Y7,Y1,Yd,Pj x res it r,WP,Vi,Vk,Y1,Y2,Vj,Vq,Vo,XL]
  ·rw[stars,Y4 h]
   simp only[h,Y8,Vi,Vk,Y1,Y2,Vj,Vq,Vo,XB]
theorem Pk(x:aa)(res:Bool)(it:List Item)(l:List BA)(v:Bool)(t:aa):bF (res,v,l,true,x,t,it,())=some (res,v,l,true,x,t,it,()):=by
 have ha:mayR gn l true=false:=rfl
 rw[bF]
 simp only[<-rZ,IE gn rN,ha,Vi,Vk,Y1,Y2,Vj,Vq,Vo]
theorem uu:∀(l:List BA) (t:aa) (v:Bool),v=(t.kind==0)->(v&& !dK gn l)=((stars t l).1.kind==0)
 |[],t,v,h=>by rw[show dK gn []=false from rfl,Vo,XB];exact h
 |s::r,t,v,h=>by
  have ha2:dK gn (s::r)=decide (s=gn):=rfl
  by_cases hs:s=gn
  ·rw[ha2,decide_eq_true hs,Vq,XL,stars,Y5 hs]
   exact uu r (aa.mk 3 0 false []) false rfl
  ·rw[ha2,decide_eq_false hs,Vo,XB,stars,Y4 hs];exact h
abbrev T5:=Bool×Bool×(List BA)×Bool×aa×aa×(List Item)×Unit
def T3(x4:T5):Option ((List BA)×Bool×(List Item)×aa×Unit):=
 (if x4.2.2.2.1=true then
   some ((x4.2.2.1,true,x4.2.2.2.2.1,x4.2.2.2.2.2.1,x4.2.2.2.2.2.2.1,()))
   else if x4.2.1=true then
    some ((x4.2.2.1,!x4.1,x4.2.2.2.2.1,x4.2.2.2.2.2.1,x4.2.2.2.2.2.2.1,()))
   else some ((x4.2.2.1,false,x4.2.2.2.2.1,x4.2.2.2.2.2.1,x4.2.2.2.2.2.2.1,())))>>=λx5=>
 some ((x5.1,x5.2.1,x5.2.2.2.2.1,x5.2.2.2.1,()))
end Go.Proofs.YtpelkenpapfadaaGreatDoor
end
section
namespace Go.Proofs.YtpelkenpapfadaaGreatDoor
open Go.Tx
set_option maxRecDepth 20000
open Go.Lib
theorem uc1:¬oO=fE:=eZ (by decide)
theorem Ma(res:Bool)(it:List Item)(hi:eV it)(l:List BA):∃v l2 w2 t,cE (res,l,false,it,())=(bF (res,v,l2,w2,z0,t,it,())).bind T3/\Sim (qY it) l false t l2 w2/\(w2=false->v=(t.kind==0)):=by
 have hlen:=hi.len
 have m1:=Sim.may oO l false
 have hat:=CR yu l
 cases hu:dK oO l with
 |true=>
  rw[hu]at hat
  obtain⟨r,rfl⟩:=j_ hu
  have h1:=f138 (oO::r) false it
  rw[show ko (oO::r) false=oO from rfl,show dc (oO::r) false=r from by unfold dc cA;rw[Y4 VK,Y4 (show¬hd (oO::r)=e0 from yu)];rfl,show(false||decide (hd (oO::r)=e0))=false from decide_eq_false yu]at h1
  rw[hu,Y5 rfl,show(oO::r).tail=r from rfl]at m1
  have m2:=Sim.word r false
  have h2:=f138 r false it
  rw[show ko r false=hd r from rfl,show dc r false=cA r from rfl]at h2
  obtain⟨s,hs⟩:∃s,hd r=s:=⟨_,rfl⟩
  obtain⟨l2,hl2⟩:∃l2,cA r=l2:=⟨_,rfl⟩
  have hsuf:l2<:+oO::r:=by rw[<-hl2];exact(mj r).trans (X2 _ _)
  rw[hs,hl2]at h2 m2
  rw[cE]
  simp only[<-BM,<-vG,<-pn,<-BK,<-vH,<-jZ,<-ig,<-nM,h1,h2,Vi,Vk,Y1,Y2,Vj,Vq,Vo,aL,Y7]
  by_cases a1:s=fE
  ·refine⟨false,l2,false,aa.mk 2 8 false [],?_,?_,λ_=>rfl⟩
   ·simp only[a1,nj,uc1,lc1,vc1,tc1,ec1,VZ lc1,VZ vc1,VZ tc1,VZ ec1,Y7,Y8,Vi,Vk,Y1,Y2,Vj,Vq,Vo,Wx];rfl
   ·rw[eS]
    refine m1.bnd (m2.bnd ?_)
    rw[a1,sL false nj,dF,Y5 rfl];exact .ret _ _ _
  by_cases a2:s=dH
  ·refine⟨false,l2,false,aa.mk 2 16 false [],?_,?_,λ_=>rfl⟩
   ·simp only[a2,j6,sc1,VZ ls1,VZ vs1,VZ ts1,VZ es1,Y7,Y8,Vi,Vk,Y1,Y2,Vj,Vq,Vo,Wx];rfl
   ·rw[eS]
    refine m1.bnd (m2.bnd ?_)
    rw[a2,sL false j6,dF,Y4 sc1,Y5 rfl];exact .ret _ _ _
  by_cases a3:s=sU
  ·refine⟨false,l2,false,aa.mk 2 32 false [],?_,?_,λ_=>rfl⟩
   ·simp only[a3,tL,ic1,is1,VZ li1,VZ vi1,VZ ti1,VZ ei1,Y7,Y8,Vi,Vk,Y1,Y2,Vj,Vq,Vo,Wx];rfl
   ·rw[eS]
    refine m1.bnd (m2.bnd ?_)
    rw[a3,sL false tL,dF,Y4 ic1,Y4 is1,Y5 rfl];exact .ret _ _ _
  have hnone:qY it (oO::r)=none:=by
   rw[eS]
   unfold bnd xO
   rw[hu,Y5 rfl]
   simp only[Yd]
   cases hp:vm r with
   |none=>rfl
   |some x=>
    obtain⟨y,z⟩:=x
    have hy:=(Sim.word r false).ok rfl y z hp
    rw[hs]at hy
    simp only[<-hy.2.1]
    rw[dF,Y4 a1,Y4 a2,Y4 a3];rfl
  by_cases b1:s=jh
  ·refine⟨false,l2,true,aa.mk 3 0 false [],?_,Sim.wrong _ hsuf hnone,λh=>by cases h⟩
   simp only[b1,lc1,ls1,li1,Y7,Y8,Vi,Vk,Y1,Y2,Vj,Vq,Vo];rfl
  by_cases b2:s=cz
  ·refine⟨true,l2,true,z0,?_,Sim.wrong _ hsuf hnone,λh=>by cases h⟩
   simp only[b2,vl1,vc1,vs1,vi1,Y7,Y8,Vi,Vk,Y1,Y2,Vj,Vq,Vo];rfl
  by_cases b3:s=bP
  ·refine⟨false,l2,true,(je it 2 e0).layout,?_,Sim.wrong _ hsuf hnone,λh=>by cases h⟩
   simp only[b3,tl1,tv1,tc1,ts1,ti1,Y7,Y8,Vi,Vk,Y1,Y2,Vj,Vq,Vo,lz,CJ,show ko l2 true=e0 from rfl,show dc l2 true=l2 from rfl,V2,f48 it (show it.length<=1000000000 by omega),eta];rfl
  by_cases b4:s=gM
  ·refine⟨false,l2,true,aa.mk 2 32 true [],?_,Sim.wrong _ hsuf hnone,λh=>by cases h⟩
   simp only[b4,el1,ev1,et1,ec1,es1,ei1,Y7,Y8,Vi,Vk,Y1,Y2,Vj,Vq,Vo,lz,CJ,show ko l2 true=e0 from rfl,show dc l2 true=l2 from rfl,V2,f48 it (show it.length<=1000000000 by omega)];rfl
  ·refine⟨false,l2,true,z0,?_,Sim.wrong _ hsuf hnone,λh=>by cases h⟩
   simp only[a1,a2,a3,b1,b2,b3,b4,Y7,Y8,Vi,Vk,Y1,Y2,Vj,Vq,Vo];rfl
 |false=>
  rw[hu]at hat
  have hnu:¬hd l=oO:=of_decide_eq_false hat
  have h1:=f138 l false it
  rw[show ko l false=hd l from rfl,show dc l false=cA l from rfl,VX]at h1
  rw[hu,Y4 VK]at m1
  have m2:=Sim.word l false
  rw[VX]at m2
  obtain⟨s,hs⟩:∃s,hd l=s:=⟨_,rfl⟩
  obtain⟨l2,hl2⟩:∃l2,cA l=l2:=⟨_,rfl⟩
  rw[hs,hl2]at h1 m2
  rw[hs]at hnu
  rw[cE]
  simp only[<-BM,<-vG,<-pn,<-BK,<-vH,<-jZ,<-ig,<-nM,h1,hnu,Vi,Vk,Y1,Y2,Vj,Vq,Vo,aL,Y8]
  have rest:∀t w2,Sim (dF it false s) l2 (decide (s=e0)) t l2 w2->Sim (qY it) l false t l2 w2:=λt w2 h=>by rw[eS];exact m1.bnd (m2.bnd h)
  have rest':∀t l3 w2,Sim (dF it false s) l2 (decide (s=e0)) t l3 w2->Sim (qY it) l false t l3 w2:=λt l3 w2 h=>by rw[eS];exact m1.bnd (m2.bnd h)
  by_cases a1:s=fE
  ·refine⟨false,l2,false,aa.mk 2 8 true [],?_,rest _ _ ?_,λ_=>rfl⟩
   ·simp only[a1,nj,Y7,Y8,Vi,Vk,Y1,Y2,Vj,Vq,Vo];rfl
   ·rw[a1,decide_eq_false nj,dF,Y5 rfl];exact .ret _ _ _
  by_cases a2:s=dH
  ·refine⟨false,l2,false,aa.mk 2 16 true [],?_,rest _ _ ?_,λ_=>rfl⟩
   ·simp only[a2,sc1,j6,Y7,Y8,Vi,Vk,Y1,Y2,Vj,Vq,Vo];rfl
   ·rw[a2,decide_eq_false j6,dF,Y4 sc1,Y5 rfl];exact .ret _ _ _
  by_cases a3:s=sU
  ·refine⟨false,l2,false,aa.mk 2 32 true [],?_,rest _ _ ?_,λ_=>rfl⟩
   ·simp only[a3,ic1,is1,tL,Y7,Y8,Vi,Vk,Y1,Y2,Vj,Vq,Vo];rfl
   ·rw[a3,decide_eq_false tL,dF,Y4 ic1,Y4 is1,Y5 rfl];exact .ret _ _ _
  have hR:dF it false s=bnd (nay false) λ_=>if s=jh then ret (aa.mk 3 0 false [])else if s=cz then ret z0
   else if s=bP then bnd dU λn=>bnd (nay (!fH it 2 n)) λ_=>ret (je it 2 n).layout
   else if s=gM then bnd dU λn=>bnd (nay (!fH it 1 n)) λ_=>ret (aa.mk 2 32 true [])
   else bnd (nay true) λ_=>ret z0:=by rw[dF,Y4 a1,Y4 a2,Y4 a3]
  rw[hR]at rest rest'
  have m3:=Sim.nay false l2 (decide (s=e0))
  rw[Wx]at m3
  by_cases b1:s=jh
  ·refine⟨false,l2,false,aa.mk 3 0 false [],?_,rest _ _ ?_,λ_=>rfl⟩
   ·simp only[b1,lc1,ls1,li1,uC,Y7,Y8,Vi,Vk,Y1,Y2,Vj,Vq,Vo];rfl
   ·rw[b1,decide_eq_false uC]at m3⊢
    refine m3.bnd ?_
    rw[Y5 rfl];exact .ret _ _ _
  by_cases b2:s=cz
  ·refine⟨true,l2,false,z0,?_,rest _ _ ?_,λ_=>rfl⟩
   ·simp only[b2,vl1,vc1,vs1,vi1,nn,Y7,Y8,Vi,Vk,Y1,Y2,Vj,Vq,Vo];rfl
   ·rw[b2,decide_eq_false nn]at m3⊢
    refine m3.bnd ?_
    rw[Y4 vl1,Y5 rfl];exact .ret _ _ _
  have h155:=CJ l2 false it
  rw[show ko l2 false=hd l2 from rfl,show dc l2 false=cA l2 from rfl,VX]at h155
  have m4:=Sim.name l2 false
  rw[VX]at m4
  obtain⟨n,hn⟩:∃n,hd l2=n:=⟨_,rfl⟩
  obtain⟨l3,hl3⟩:∃l3,cA l2=l3:=⟨_,rfl⟩
  obtain⟨w3,hw3⟩:∃w3,(!bY n)=w3:=⟨_,rfl⟩
  rw[hn,hl3,hw3]at h155 m4
  by_cases b3:s=bP
  ·have m5:=Sim.nay (!fH it 2 n) l3 w3
   refine⟨false,l3,w3|| !fH it 2 n,(je it 2 n).layout,?_,rest' _ _ _ ?_,λh=> ?_⟩
   ·simp only[b3,tl1,tv1,tc1,ts1,ti1,gT,Y7,Y8,Vi,Vk,Y1,Y2,Vj,Vq,Vo,lz,h155,f48 it (show it.length<=1000000000 by omega),eta]
    cases w3 with
    |true=>simp only[Vi,Vk,Y1,Y2,Vj,Vq,Vo,V2];rfl
    |false=>simp only[Vi,Vk,Y1,Y2,Vj,Vq,Vo,VX];rfl
   ·rw[b3,decide_eq_false gT]at m3⊢
    refine m3.bnd ?_
    rw[Y4 tl1,Y4 tv1,Y5 rfl]
    exact m4.bnd (m5.bnd (.ret _ _ _))
   ·rw[We,Bool.not_eq_false']at h
    rcases uJ it 2 n with⟨_,e⟩|⟨e1,e2,_⟩
    ·rw[e]at h;exact(VK h.2).elim
    ·have:=hi.str _ e1 e2;rw[this];rfl
  by_cases b4:s=gM
  ·have m5:=Sim.nay (!fH it 1 n) l3 w3
   refine⟨false,l3,w3|| !fH it 1 n,aa.mk 2 32 true [],?_,rest' _ _ _ ?_,λh=>rfl⟩
   ·simp only[b4,el1,ev1,et1,ec1,es1,ei1,nk,Y7,Y8,Vi,Vk,Y1,Y2,Vj,Vq,Vo,lz,h155,f48 it (show it.length<=1000000000 by omega)]
    cases w3 with
    |true=>simp only[Vi,Vk,Y1,Y2,Vj,Vq,Vo,V2];rfl
    |false=>simp only[Vi,Vk,Y1,Y2,Vj,Vq,Vo,VX];rfl
   ·rw[b4,decide_eq_false nk]at m3⊢
    refine m3.bnd ?_
    rw[Y4 el1,Y4 ev1,Y4 et1,Y5 rfl]
    exact m4.bnd (m5.bnd (.ret _ _ _))
  ·refine⟨false,l2,true,z0,?_,rest _ _ ?_,λh=>by cases h⟩
   ·simp only[a1,a2,a3,b1,b2,b3,b4,Y7,Y8,Vi,Vk,Y1,Y2,Vj,Vq,Vo];rfl
   ·refine m3.bnd ?_
    rw[Y4 b1,Y4 b2,Y4 b3,Y4 b4]
    have:=(Sim.nay true l2 (decide (s=e0))).bnd (q:=λ_=>ret z0) (.ret z0 _ _)
    rw[Wz]at this;exact this
theorem f137(it:List Item)(hi:eV it)(res:Bool)(l:List BA)(w:Bool):∃l' w' t,cE (res,l,w,it,())=some (l',w',it,t,())/\Sim (sM it res) l w t l' w':=by
 cases w with
 |true=>
  have h1:=f138 l true it
  rw[show ko l true=e0 from rfl,show dc l true=l from rfl,V2]at h1
  refine⟨l,true,z0,?_,Sim.any _ (VP l)⟩
  rw[cE]
  simp only[<-BM,<-vG,<-pn,<-BK,<-vH,<-jZ,<-ig,<-nM,h1,Vi,Vk,Y1,Y2,Vj,Vq,Vo,aL,VZ yu,VZ nj,VZ j6,VZ tL,VZ uC,VZ nn,VZ gT,VZ nk,Y8,Pk]
  rfl
 |false=>
  obtain⟨v,l2,w2,t,h1,m1,h2⟩:=Ma res it hi l
  cases w2 with
  |true=>
   refine⟨l2,true,t,?_,m1.bnd (q:=λt=>bnd (Bm t) λt=>bnd (nay (t.kind==0&& !res)) λ_=>ret t) (Sim.any _ (VP l2))⟩
   rw[h1,Pk];rfl
  |false=>
   have hk:=uu l2 t v (h2 rfl)
   have m2:=Sim.stars t l2 false
   refine⟨(stars t l2).2,(stars t l2).1.kind==0&& !res,(stars t l2).1,?_,m1.bnd (m2.bnd ((Sim.nay _ _ _).bnd (.ret _ _ _)))⟩
   rw[h1,Pj,hk]
   cases ((stars t l2).1.kind==0)<;>rfl
theorem T7(it:List Item)(hi:eV it)(l:List BA)(hg:vK l)(w:Bool):∃l' w' x,fI (l,w,it,())=some (l',w',it,x,())/\Sim (ql it) l w x l' w':=by
 have hlen:=hi.len
 obtain⟨l0,w0,h0,m0⟩:=yO sT GO l w it
 obtain⟨l1,w1,h1,m1⟩:=yO gL xG l0 w0 it
 have g1:=(hg.suf m0.suf).suf m1.suf
 have h2:=CJ l1 w1 it
 have m2:=Sim.nameR l1 w1
 obtain⟨n,hn⟩:∃n,ko l1 w1=n:=⟨_,rfl⟩
 obtain⟨l2,hl2⟩:∃l2,dc l1 w1=l2:=⟨_,rfl⟩
 obtain⟨w2,hw2⟩:∃w2,(w1|| !bY (hd l1))=w2:=⟨_,rfl⟩
 rw[hn,hl2,hw2]at h2 m2
 have g2:=g1.suf m2.suf
 have h3:=IE jX Bg l2 w2 it
 have m3:=Sim.mayR jX l2 w2
 obtain⟨b,hb⟩:∃b,mayR jX l2 w2=b:=⟨_,rfl⟩
 obtain⟨l3,hl3⟩:∃l3,(if mayR jX l2 w2=true then l2.tail else l2)=l3:=⟨_,rfl⟩
 rw[hl3]at h3 m3
 rw[hb]at h3 m3
 have g3:=g2.suf m3.suf
 obtain⟨v,h4,m4,_⟩:=Tm l3 g3 w2 it
 obtain⟨l4,hl4⟩:∃l4,dc l3 w2=l4:=⟨_,rfl⟩
 obtain⟨w4,hw4⟩:∃w4,(w2|| !fi (hd l3))=w4:=⟨_,rfl⟩
 rw[hl4,hw4]at h4 m4
 have m01:Sim (cG [sT,gL]) l w () l1 w1:=m0.bnd (m1.bnd (.ret _ _ _))
 refine⟨l4,w4||gG it n,Item.mk 0 n (ML b v) [] z0,?_,m01.bnd (m2.bnd (m3.bnd (m4.bnd ((Sim.nay _ _ _).bnd (.ret _ _ _)))))⟩
 have h5:=f134 it (by omega) hi.nm n
 rw[fI]
 simp only[<-Ia,<-yz,<-BL,h0,h1,h2,h3,h4,Vi,Vk,Y1,Y2,Vj,Vq,Vo]
 cases b<;>cases w4<;>simp only[Vi,Vk,Y1,Y2,Vj,Vq,Vo,h5,V2,VX]<;>rfl
theorem H5{a b:BA}{l l0 l1:List BA}{w w0 w1:Bool}(m0:Sim (qZ a) l w () l0 w0)(m1:Sim (qZ b) l0 w0 () l1 w1):Sim (cG [a,b]) l w () l1 w1:=m0.bnd (m1.bnd (.ret _ _ _))
theorem rY{a:BA}{l l0:List BA}{w w0:Bool}(m0:Sim (qZ a) l w () l0 w0):Sim (cG [a]) l w () l0 w0:=m0.bnd (.ret _ _ _)
theorem F4{s:BA}{l:List BA}{w:Bool}(h:mayR s l w=true):w=false/\dK s l=true:=by
 unfold mayR at h;rw[VE,W7]at h;exact h
theorem RP(it:List Item)(x:Item)(a:Int)(nm:BA)(b c d:Int)(e:Bool)(ps:List aa):∀(m:Nat) (l:List BA) (w:Bool) (acc:List BA),l.length<=m->acc.length+l.length<=10000000->
 ∃ns l' w',cf (l,w,x,a,nm,b,c,d,e,it,acc,ps,())=some (l',w',x,a,nm,b,c,d,e,it,ns,ps,())/\ns.length<=acc.length+l.length+1/\l'<:+l/\
  ∀k,l.length<k->Sim (bnd (xO cu) λc=>if c=true then mU k acc else ret acc) l w ns l' w':=by
 intro m
 induction m with
 |zero=>
  intro l w acc hl hb
  have hl0:l=[]:=Wr.1 (by omega)
  subst hl0
  have ha:mayR cu [] w=false:=by cases w<;>rfl
  have h3:=IE cu gD [] w it
  have m3:=Sim.mayR cu [] w
  rw[ha,Y4 VK]at h3 m3
  refine⟨acc,[],w,?_,by omega,VP _,λk hk=>m3.bnd (.ret _ _ _)⟩
  rw[cf]
  simp only[<-dO,h3,Vi,Vk,Y1,Y2,Vj,Vq,Vo]
 |succ m ih=>
  intro l w acc hl hb
  have h3:=IE cu gD l w it
  have m3:=Sim.mayR cu l w
  cases hb2:mayR cu l w with
  |false=>
   rw[hb2,Y4 VK]at h3 m3
   refine⟨acc,l,w,?_,by omega,VP _,λk hk=>m3.bnd (.ret _ _ _)⟩
   rw[cf]
   simp only[<-dO,h3,Vi,Vk,Y1,Y2,Vj,Vq,Vo]
  |true=>
   rw[hb2,Y5 rfl]at h3 m3
   obtain⟨rfl,hat⟩:=F4 hb2
   have htl:=jV hat
   have h2:=CJ l.tail false it
   have m2:=Sim.nameR l.tail false
   obtain⟨n,hn⟩:∃n,ko l.tail false=n:=⟨_,rfl⟩
   obtain⟨l2,hl2⟩:∃l2,dc l.tail false=l2:=⟨_,rfl⟩
   obtain⟨w2,hw2⟩:∃w2,(false|| !bY (hd l.tail))=w2:=⟨_,rfl⟩
   rw[hn,hl2,hw2]at h2 m2
   have hlen2:=m2.len
   have ht:acc.length+1<=4294967296:=by omega
   obtain⟨ns,l',w',i1,i2,i3,i4⟩:=ih l2 w2 (acc++[n]) (by omega) (by rw[VB,Vt];omega)
   refine⟨ns,l',w',?_,by rw[VB,Vt]at i2;omega,i3.trans (m2.suf.trans (Xd l)),λk hk=> ?_⟩
   ·rw[cf]
    simp only[<-dO,h3,h2,Vi,Vk,Y1,Y2,Vj,Vq,Vo,Vt,ht]
    exact i1
   ·obtain⟨k,rfl⟩:∃j,k=j+1:=⟨k-1,by omega⟩
    refine m3.bnd ?_
    rw[Y5 rfl]
    exact m2.bnd (i4 k (by omega))
theorem nA:∀(k j:Nat) (l:List BA) (acc:List BA),l.length<k->l.length<j->mU k acc l=mU j acc l
 |0,j,l,acc,h,_=>by omega
 |k+1,0,l,acc,_,h=>by omega
 |k+1,j+1,l,acc,h1,h2=>by
  show bnd dU _ l=bnd dU _ l
  unfold bnd
  cases hp:dU l with
  |none=>rfl
  |some x=>
   obtain⟨a,r⟩:=x
   have hr:=Ltp.name l a r hp
   simp only
   unfold xO
   simp only
   cases hc:dK cu r with
   |false=>rfl
   |true=>
    have:=jV hc
    simp only[Y1]
    exact nA k j r.tail (acc++[a]) (by omega) (by omega)
theorem RQ(it:List Item)(hi:eV it)(x:Item)(a:Int)(nm:BA)(b c d:Int)(e:Bool)(ps:List aa)(ns:List BA)(hns:ns.length<=2000000)(l:List BA):∀(m i:Nat) (w:Bool),ns.length-i=m->
 bS ((i:Int),l,w,x,a,nm,b,ns,c,d,e,it,ps,())=some (l,w||(ns.drop i).any (gG it),x,a,nm,b,ns,c,d,e,it,ps,()):=by
 intro m
 have hlen:=hi.len
 induction m with
 |zero=>
  intro i w hm
  have hlt:¬i<ns.length:=by omega
  rw[bS]
  simp only[Vi,Vk,Y1,Y2,Vj,Vq,Vo,Vs,hlt,Y8,dy hlt,Yw,Wx]
 |succ m ih=>
  intro i w hm
  have hlt:i<ns.length:=by omega
  obtain⟨s,hp,hpm,hdr,g1,g2⟩:=dP hlt
  rw[bS,hdr,XA]
  cases w with
  |true=>simp only[Vi,Vk,Y1,Y2,Vj,Vq,Vo,Vs,hlt,Y7,bh (a:=i) (by omega),ih (i+1) true (by omega),V2]
  |false=>simp only[Vi,Vk,Y1,Y2,Vj,Vq,Vo,Vs,hlt,Y7,Vm,Vl,hp,f134 it (show it.length<=1000000000 by omega) hi.nm s,bh (a:=i) (by omega),ih (i+1) _ (by omega),VX]
theorem f102(it:List Item)(hi:eV it)(l:List BA)(hl:l.length<=1000000)(w:Bool):∃l' w' x,fJ (l,w,it,())=some (l',w',it,x,())/\Sim (zK it) l w x l' w':=by
 have hlen:=hi.len
 obtain⟨l1,w1,h1,m1⟩:=yO gM nk l w it
 have h2:=CJ l1 w1 it
 have m2:=Sim.nameR l1 w1
 obtain⟨n,hn⟩:∃n,ko l1 w1=n:=⟨_,rfl⟩
 obtain⟨l2,hl2⟩:∃l2,dc l1 w1=l2:=⟨_,rfl⟩
 obtain⟨w2,hw2⟩:∃w2,(w1|| !bY (hd l1))=w2:=⟨_,rfl⟩
 rw[hn,hl2,hw2]at h2 m2
 obtain⟨l3,w3,h3,m3⟩:=yO oB Q4 l2 w2 it
 have hlen3:=Wl (Wl m3.len m2.len) m1.len
 have h4:=CJ l3 w3 it
 have m4:=Sim.nameR l3 w3
 obtain⟨n4,hn4⟩:∃n,ko l3 w3=n:=⟨_,rfl⟩
 obtain⟨l4,hl4⟩:∃l2,dc l3 w3=l2:=⟨_,rfl⟩
 obtain⟨w4,hw4⟩:∃w2,(w3|| !bY (hd l3))=w2:=⟨_,rfl⟩
 rw[hn4,hl4,hw4]at h4 m4
 have hlen4:=m4.len
 obtain⟨ns,l5,w5,h5,hns,_,m5⟩:=RP it (Item.mk 0 (Vp #[]) 0 [] (aa.mk 0 0 false [])) 1 n 0 0 0 false [] _ l4 w4 [n4] (VN _) (by simp only[Vt];omega)
 rw[Vt]at hns
 have mL:Sim G7 l3 w3 ns l5 w5:=by
  have:Sim (mU (l4.length+1+1) []) l3 w3 ns l5 w5:=m4.bnd (m5 (l4.length+1) (by omega))
  cases w3 with
  |true=>exact Sim.strict (Sim.any _ this.suf) (λ_=>this.bad rfl) λ_=>rfl
  |false=>
   refine⟨this.suf,this.bad,λhw b r hb=> ?_,λhw hb=> ?_⟩
   ·refine this.ok rfl b r ?_
    rw[<-hb]
    show bnd dU _ l3=bnd dU _ l3
    unfold bnd
    cases hp:dU l3 with
    |none=>rfl
    |some y=>
     obtain⟨y1,y2⟩:=y
     have e:=m4.ok rfl y1 y2 hp
     have hlt:=Ltp.name l3 y1 y2 hp
     rw[<-e.2.2]at hlt⊢
     simp only
     unfold xO
     simp only
     cases hc:dK cu l4 with
     |false=>rfl
     |true=>
      have:=jV hc
      simp only[Y1]
      exact nA _ _ _ _ (by omega) (by omega)
   ·refine this.no rfl ?_
    rw[<-hb]
    show bnd dU _ l3=bnd dU _ l3
    unfold bnd
    cases hp:dU l3 with
    |none=>rfl
    |some y=>
     obtain⟨y1,y2⟩:=y
     have e:=m4.ok rfl y1 y2 hp
     have hlt:=Ltp.name l3 y1 y2 hp
     rw[<-e.2.2]at hlt⊢
     simp only
     unfold xO
     simp only
     cases hc:dK cu l4 with
     |false=>rfl
     |true=>
      have:=jV hc
      simp only[Y1]
      exact nA _ _ _ _ (by omega) (by omega)
 obtain⟨l6,w6,h6,m6⟩:=yO cB JD l5 w5 it
 obtain⟨l7,w7,h7,m7⟩:=yO sB IG l6 w6 it
 have h8:=f135 ns (by omega) l7 w7 it
 have h9:=RQ it hi (Item.mk 0 (Vp #[]) 0 [] (aa.mk 0 0 false [])) 1 n 0 0 0 false [] ns (by omega) l7 _ 0 (w7||j5 ns) rfl
 rw[V6]at h9
 have h9:bS (0,l7,(w7||j5 ns),Item.mk 0 (Vp #[]) 0 [] (aa.mk 0 0 false []),1,n,0,ns,0,0,false,it,[],())=_:=h9
 refine⟨l7,w7||j5 ns||ij it ns,Item.mk 1 n 0 ns z0,?_,?_⟩
 ·rw[fJ]
  simp only[<-nM,<-Rf,<-H_,<-sV,h1,h2,h3,h4,Vi,Vk,Y1,Y2,Vj,Vq,Vo,VU,Vt,show(0+1<=4294967296)=True by simp,V7,h5,h6,h7,h8,h9]
  rfl
 ·unfold zK
  have:=(Sim.nay (j5 ns||ij it ns) l7 w7).bnd (q:=λ_=>ret (Item.mk 1 n 0 ns z0)) (.ret _ _ _)
  rw[<-YP]at this
  exact(rY m1).bnd (m2.bnd ((rY m3).bnd (mL.bnd ((H5 m6 m7).bnd this))))
end Go.Proofs.YtpelkenpapfadaaGreatDoor
end
section
namespace Go.Proofs.YtpelkenpapfadaaGreatDoor
open Go.Tx
set_option maxRecDepth 20000
open Go.Lib
def iS(it:List Item)(mx:Int):Ps (List BA×List aa):=λl=>if dK cB l=true then none else bR it mx (l.length+1) [] [] l
def uG(it:List Item)(mx:Int):Ps Item:=bnd (cG [bP]) λ_=>bnd dU λn=>bnd (cG [oB]) λ_=>bnd (iS it mx) λp=>bnd (cG [cB,sB]) λ_=>
 bnd (nay (p.1.isEmpty||j5 p.1)) λ_=>ret (Item.mk 2 n 0 p.1 (aa.mk 6 0 false p.2))
theorem Eg{α β:Type}{p:Ps α}{q q':α->Ps β}(h:∀a,q a=q' a):bnd p q=bnd p q':=by
 rw[show q=q' from funext h]
theorem CK(it:List Item)(mx:Int):dR it mx=uG it mx:=by
 unfold dR uG
 refine Eg λ_=>Eg λn=>Eg λ_=> ?_
 funext l
 unfold bnd
 cases h:dK cB l with
 |false=>
  have:iS it mx l=lT it mx l:=by unfold iS lT;rw[h,Y4 VK]
  rw[this]
 |true=>
  have e1:iS it mx l=none:=by unfold iS;rw[h,Y5 rfl]
  have e2:lT it mx l=some (([],[]),l):=by unfold lT bR;rw[h,Y5 rfl]
  rw[e1,e2]
  simp only
  cases cG [cB,sB] l with
  |none=>rfl
  |some x=>rfl
theorem Cd(it:List Item)(r:List BA):qY it (cB::r)=none:=by
 have b0:¬cB=oO:=eZ (by decide)
 have b1:¬cB=fE:=eZ (by decide)
 have b2:¬cB=dH:=eZ (by decide)
 have b3:¬cB=sU:=eZ (by decide)
 have b4:¬cB=jh:=eZ (by decide)
 have b5:¬cB=cz:=eZ (by decide)
 have b6:¬cB=bP:=eZ (by decide)
 have b7:¬cB=gM:=eZ (by decide)
 have hu:dK oO (cB::r)=false:=by show decide (cB=oO)=false;exact decide_eq_false b0
 have hwd:vm (cB::r)=some (cB,r):=by show(if cB=e0 then none else some (cB,r))=_;rw[Y4 JD]
 rw[eS]
 unfold bnd xO
 rw[hu,Y4 VK]
 simp only
 rw[hwd]
 show dF it false cB r=none
 unfold dF
 rw[Y4 b1,Y4 b2,Y4 b3,Y4 b4,Y4 b5,Y4 b6,Y4 b7]
 rfl
theorem RR(it:List Item)(hi:eV it)(x:Item)(a:Int)(nm:BA)(b c d:Int)(e:Bool):∀(m:Nat) (l:List BA) (w:Bool) (ns:List BA) (ps:List aa),vK l->(w=true\/l.length<=m)->ns.length+l.length<=10000000->ps.length+l.length<=10000000->
 ∃ns' ps' l' w',aX (l,w,x,a,nm,b,c,d,e,it,ns,ps,())=some (l',w',x,a,nm,b,c,d,e,it,ns',ps',())/\ns'.length<=ns.length+l.length+1/\l'<:+l/\∀k,l.length<k->
  Sim (λl=>if(ns.isEmpty&&dK cB l)=true then none else bR it 1000 k ns ps l) l w (ns',ps') l' w':=by
 intro m
 induction m with
 |zero=>
  intro l w ns ps hg hm hb hb2
  cases w with
  |true=>
   refine⟨ns,ps,l,true,?_,by omega,VP _,λk hk=>Sim.any _ (VP _)⟩
   rw[aX]
   simp only[Vi,Vk,Y1,Y2,Vj,Vq,Vo]
  |false=>
   have hl0:l=[]:=Wr.1 (by rcases hm with h|h;cases h;omega)
   subst hl0
   obtain⟨l1,w1,t,h1,m1⟩:=f137 it hi false [] false
   have hl1:l1=[]:=Wr.1 (by have:=m1.len;simpa using this)
   subst hl1
   have hw1:w1=true:=m1.no rfl rfl
   subst hw1
   obtain⟨l5,w5,h5,m5⟩:=yO sB IG [] true it
   have hl5:l5=[]:=Wr.1 (by have:=m5.len;simpa using this)
   have hw5:w5=true:=m5.bad rfl
   subst hl5 hw5
   have ht:ns.length+1<=4294967296:=by omega
   have ht2:ps.length+1<=4294967296:=by omega
   refine⟨ns++[e0],ps++[t],[],true,?_,by simp,VP _,λk hk=> ?_⟩
   ·have hz:decide (e0=cB)=false:=decide_eq_false λh=>JD h.symm
    have ha:mayR vM [] true=false:=rfl
    have hif:(if((ns.length:Int)==0)=true then some ((true,([]:List BA),false,x,a,nm,b,c,d,e,it,ns,ps,()):Bool×List BA×Bool×Item×Int×BA×Int×Int×Int×Bool×List Item×List BA×List aa×Unit)else some (true,[],false,x,a,nm,b,c,d,e,it,ns,ps,()))=some (true,[],false,x,a,nm,b,c,d,e,it,ns,ps,()):=by split<;>rfl
    rw[aX]
    simp only[Vi,Vk,Y1,Y2,Vj,Vq,Vo,I3,show ko [] false=e0 from rfl,aL,<-H_,hz,hif,h1,CJ,show ko [] true=e0 from rfl,show dc [] true=[]from rfl,Vt,ht,<-uv,IE vM Bf,ha,<-sV,h5,ht2,V2]
    rw[aX]
    simp only[Vi,Vk,Y1,Y2,Vj,Vq,Vo]
   ·obtain⟨k,rfl⟩:∃j,k=j+1:=⟨k-1,by omega⟩
    refine Sim.wrong _ (VP _) ?_
    rw[show dK cB []=false from rfl,XL,Y4 VK];rfl
 |succ m ih=>
  intro l w ns ps hg hm hb hb2
  cases w with
  |true=>
   refine⟨ns,ps,l,true,?_,by omega,VP _,λk hk=>Sim.any _ (VP _)⟩
   rw[aX]
   simp only[Vi,Vk,Y1,Y2,Vj,Vq,Vo]
  |false=>
   have hml:l.length<=m+1:=by rcases hm with h|h;cases h;exact h
   have hat:=CR JD l
   have hz:((ns.length:Int)==0)=ns.isEmpty:=by
    cases ns with
    |nil=>rfl
    |cons y r=>exact beq_eq_false_iff_ne.2 (by rw[VD];omega)
   cases hgo:(!ns.isEmpty&&dK cB l)with
   |true=>
    rw[VE,W7]at hgo
    rw[hgo.2]at hat
    refine⟨ns,ps,l,false,?_,by omega,VP _,λk hk=> ?_⟩
    ·rw[aX]
     simp only[Vi,Vk,Y1,Y2,Vj,Vq,Vo,hz,hgo.1,I3,show ko l false=hd l from rfl,aL,<-H_,hat]
    ·obtain⟨k,rfl⟩:∃j,k=j+1:=⟨k-1,by omega⟩
     refine(Sim.ret (ns,ps) l false).congr ?_
     rw[hgo.1,WP,Y4 VK]
     unfold bR;rw[hgo.2,Y5 rfl];rfl
   |false=>
    have hcond:(if((ns.length:Int)==0)=true then some ((true,l,false,x,a,nm,b,c,d,e,it,ns,ps,()):Bool×List BA×Bool×Item×Int×BA×Int×Int×Int×Bool×List Item×List BA×List aa×Unit)
     else(db (l,false,it,())).bind λx1=>if x1.2.2.2.1.length=it.length then some (!x1.1.toList==(Vp #[125]).toList,x1.2.1,x1.2.2.1,x,a,nm,b,c,d,e,x1.2.2.2.1,ns,ps,())else none)=some (true,l,false,x,a,nm,b,c,d,e,it,ns,ps,()):=by
     rw[hz]
     cases hne:ns.isEmpty with
     |true=>rfl
     |false=>
      rw[hne,Vo,WA]at hgo
      rw[hgo]at hat
      simp only[Vi,Vk,Y1,Y2,Vj,Vq,Vo,I3,show ko l false=hd l from rfl,aL,<-H_,hat]
    obtain⟨l1,w1,t,h1,m1⟩:=f137 it hi false l false
    have h2:=CJ l1 w1 it
    have m2:=Sim.nameR l1 w1
    obtain⟨n,hn⟩:∃n,ko l1 w1=n:=⟨_,rfl⟩
    obtain⟨l2,hl2⟩:∃l2,dc l1 w1=l2:=⟨_,rfl⟩
    obtain⟨w2,hw2⟩:∃w2,(w1|| !bY (hd l1))=w2:=⟨_,rfl⟩
    rw[hn,hl2,hw2]at h2 m2
    have h3:=IE vM Bf l2 w2 it
    have m3:=Sim.mayR vM l2 w2
    have ht:ns.length+1<=4294967296:=by omega
    have ht2:ps.length+1<=4294967296:=by omega
    have arr:∃l4 w4 t4,Sim (yV 1000 t (mayR vM l2 w2)) (if mayR vM l2 w2=true then l2.tail else l2) w2 t4 l4 w4/\
     ∀l5 w5,aM (sB,l4,w4,it,())=some (l5,w5,it,())->aX (l,false,x,a,nm,b,c,d,e,it,ns,ps,())=aX (l5,w5,x,a,nm,b,c,d,e,it,ns++[n],ps++[t4],()):=by
     cases hb3:mayR vM l2 w2 with
     |false=>
      rw[hb3,Y4 VK]at h3
      refine⟨l2,w2,t,?_,λl5 w5 h5=> ?_⟩
      ·rw[Y4 VK];exact .ret _ _ _
      ·conv=>lhs;rw[aX]
       simp only[Vi,Vk,Y1,Y2,Vj,Vq,Vo]at hcond⊢
       simp only[hcond,Vi,Vk,Y1,Y2,Vj,Vq,Vo,h1,h2,Vt,ht,<-uv,h3,<-sV,h5,ht2]
     |true=>
      rw[hb3,Y5 rfl]at h3
      rw[Y5 rfl]
      have g2:vK l2.tail:=hg.suf (((Xd l2).trans m2.suf).trans m1.suf)
      obtain⟨v,h4,m4,_⟩:=Tm l2.tail g2 w2 it
      obtain⟨l4,hl4⟩:∃l4,dc l2.tail w2=l4:=⟨_,rfl⟩
      obtain⟨w4,hw4⟩:∃w4,(w2|| !fi (hd l2.tail))=w4:=⟨_,rfl⟩
      rw[hl4,hw4]at h4 m4
      obtain⟨l6,w6,h6,m6⟩:=yO Ov Lu l4 (w4||(decide (v<1)||decide (v>1000))) it
      refine⟨l6,w6,aa.mk 5 v false [t],?_,λl5 w5 h5=> ?_⟩
      ·unfold yV
       rw[Y5 rfl]
       exact m4.bnd ((Sim.nay _ _ _).bnd ((rY m6).bnd (.ret _ _ _)))
      ·conv=>lhs;rw[aX]
       simp only[Vi,Vk,Y1,Y2,Vj,Vq,Vo]at hcond⊢
       simp only[hcond,Vi,Vk,Y1,Y2,Vj,Vq,Vo,h1,h2,Vt,ht,<-uv,h3,h4]
       cases w4 with
       |true=>
        rw[V2]at h6
        simp only[Vi,Vk,Y1,Y2,Vj,Vq,Vo,<-yA,h6,<-sV,h5,ht2]
       |false=>
        rw[VX]at h6
        by_cases hv1:v<1
        ·rw[decide_eq_true hv1,V2]at h6
         simp only[Vi,Vk,Y1,Y2,Vj,Vq,Vo,hv1,Y7,<-yA,h6,<-sV,h5,ht2]
        ·rw[decide_eq_false hv1,VX]at h6
         simp only[Vi,Vk,Y1,Y2,Vj,Vq,Vo,hv1,Y8,<-yA,h6,<-sV,h5,ht2]
    obtain⟨l4,w4,t4,m4,harr⟩:=arr
    obtain⟨l5,w5,h5,m5⟩:=yO sB IG l4 w4 it
    have hpart:Sim (kG it 1000) l false (t4,n) l5 w5:=m1.bnd (m2.bnd (m3.bnd (m4.bnd ((rY m5).bnd (.ret _ _ _)))))
    have hnative:=harr l5 w5 h5
    have hl5:=hpart.len
    have hlt:w5=true\/l5.length<l.length:=by
     cases w5 with
     |true=>exact .inl rfl
     |false=>exact .inr (hpart.lt (Ltp.part it 1000))
    have step (k:Nat):(if(ns.isEmpty&&dK cB l)=true then none else bR it 1000 (k+1) ns ps l)=bnd (kG it 1000) (λp=>λr=>if((ns++[p.2]).isEmpty&&dK cB r)=true then none else bR it 1000 k (ns++[p.2]) (ps++[p.1]) r) l:=by
     have hne (y:BA):(ns++[y]).isEmpty=false:=by cases ns<;>rfl
     have hr:(bnd (kG it 1000) (λp=>λr=>if((ns++[p.2]).isEmpty&&dK cB r)=true then none else bR it 1000 k (ns++[p.2]) (ps++[p.1]) r) l)=bnd (kG it 1000) (λp=>bR it 1000 k (ns++[p.2]) (ps++[p.1])) l:=by
      congr 1;funext p r;rw[hne,WP,Y4 VK]
     rw[hr]
     cases hc:dK cB l with
     |false=>
      rw[XL,Y4 VK]
      conv=>lhs;unfold bR
      rw[hc,Y4 VK]
     |true=>
      rw[hc,XB,Bool.not_eq_false']at hgo
      rw[hgo,WA,Y5 rfl]
      have hk:qY it l=none:=by
       obtain⟨r,rfl⟩:=j_ hc
       exact Cd it r
      have hkd:sM it false l=none:=by unfold sM bnd;rw[hk]
      unfold bnd kG
      unfold bnd
      rw[hkd]
    rcases Decidable.em (w5=true)with hw5|hw5
    ·subst hw5
     refine⟨ns++[n],ps++[t4],l5,true,?_,by rw[VB,Vt];omega,hpart.suf,λk hk=> ?_⟩
     ·rw[hnative,aX]
      simp only[Vi,Vk,Y1,Y2,Vj,Vq,Vo]
     ·obtain⟨k,rfl⟩:∃j,k=j+1:=⟨k-1,by omega⟩
      exact(hpart.bnd (Sim.any _ (VP _))).congr (step k)
    ·have hlt:l5.length<l.length:=by rcases hlt with h|h;exact(hw5 h).elim;exact h
     obtain⟨ns',ps',l',w',i1,i2,i3,i4⟩:=ih l5 w5 (ns++[n]) (ps++[t4]) (hg.suf hpart.suf) (.inr (by omega)) (by simp only[VB,Vt];omega) (by simp only[VB,Vt];omega)
     refine⟨ns',ps',l',w',by rw[hnative,i1],?_,i3.trans hpart.suf,λk hk=> ?_⟩
     ·rw[VB,Vt]at i2;omega
     ·obtain⟨k,rfl⟩:∃j,k=j+1:=⟨k-1,by omega⟩
      exact(hpart.bnd (q:=λp=>λr=>if((ns++[p.2]).isEmpty&&dK cB r)=true then none else bR it 1000 k (ns++[p.2]) (ps++[p.1]) r) (i4 k (by omega))).congr (step k)
theorem f103(it:List Item)(hi:eV it)(l:List BA)(hg:vK l)(hl:l.length<=1000000)(w:Bool):∃l' w' x,fK (l,w,it,())=some (l',w',it,x,())/\Sim (dR it 1000) l w x l' w':=by
 have hlen:=hi.len
 obtain⟨l1,w1,h1,m1⟩:=yO bP gT l w it
 have h2:=CJ l1 w1 it
 have m2:=Sim.nameR l1 w1
 obtain⟨n,hn⟩:∃n,ko l1 w1=n:=⟨_,rfl⟩
 obtain⟨l2,hl2⟩:∃l2,dc l1 w1=l2:=⟨_,rfl⟩
 obtain⟨w2,hw2⟩:∃w2,(w1|| !bY (hd l1))=w2:=⟨_,rfl⟩
 rw[hn,hl2,hw2]at h2 m2
 obtain⟨l3,w3,h3,m3⟩:=yO oB Q4 l2 w2 it
 have s123:=(m3.suf.trans m2.suf).trans m1.suf
 have hlen3:=s123.length_le
 obtain⟨ns,ps,l4,w4,h4,hns,_,m4⟩:=RR it hi (Item.mk 0 (Vp #[]) 0 [] (aa.mk 0 0 false [])) 2 n 0 6 0 false _ l3 w3 [] [] (hg.suf s123) (.inr (VN _)) (by simp only[VU];omega) (by simp only[VU];omega)
 rw[VU]at hns
 have m4:Sim (iS it 1000) l3 w3 (ns,ps) l4 w4:=(m4 (l3.length+1) (Xv _)).congr (by
  unfold iS;rw[show([]:List BA).isEmpty=true from rfl,WA])
 obtain⟨l5,w5,h5,m5⟩:=yO cB JD l4 w4 it
 obtain⟨l6,w6,h6,m6⟩:=yO sB IG l5 w5 it
 have h7:=f135 ns (by omega) l6 w6 it
 have hne:w6=false->ns.isEmpty=false:=by
  intro hw
  cases w4 with
  |true=>have:=m6.bad (m5.bad rfl);rw[hw]at this;cases this
  |false=>
   cases w3 with
   |true=>have:=m4.bad rfl;cases this
   |false=>
    cases hp:iS it 1000 l3 with
    |none=>have:=m4.no rfl hp;cases this
    |some y=>
     obtain⟨y1,y2⟩:=y
     obtain⟨_,e,_⟩:=m4.ok rfl y1 y2 hp
     cases hns':ns with
     |cons z r=>rfl
     |nil=>
      unfold iS at hp
      split at hp
      ·cases hp
      ·rename_i hc
       unfold bR at hp
       rw[Y4 hc]at hp
       obtain⟨a,r1,e1,e2⟩:=au hp
       have grow:∀(k:Nat) (ns0:List BA) (ps0:List aa) (l:List BA) (q:List BA×List aa) (r:List BA),bR it 1000 k ns0 ps0 l=some (q,r)->ns0.length<=q.1.length:=by
        intro k
        induction k with
        |zero=>intro ns0 ps0 l q r h;cases h
        |succ k ihk=>
         intro ns0 ps0 l q r h
         unfold bR at h
         split at h
         ·cases h;exact VN _
         ·obtain⟨a,r1,e1,e2⟩:=au h
          have:=ihk _ _ _ _ _ e2
          rw[VB,Vt]at this;omega
       have:=grow _ _ _ _ _ _ e2
       rw[<-e,hns']at this
       simp at this
 rw[CK]
 refine⟨l6,w6||j5 ns,Item.mk 2 n 0 ns (aa.mk 6 0 false ps),?_,?_⟩
 ·rw[fK]
  simp only[<-ig,<-Rf,<-H_,<-sV,h1,h2,h3,h4,h5,h6,h7,Vi,Vk,Y1,Y2,Vj,Vq,Vo]
 ·unfold uG
  have fin:Sim (bnd (nay (ns.isEmpty||j5 ns)) λ_=>ret (Item.mk 2 n 0 ns (aa.mk 6 0 false ps))) l6 w6 (Item.mk 2 n 0 ns (aa.mk 6 0 false ps)) l6 (w6||j5 ns):=by
   have:=(Sim.nay (ns.isEmpty||j5 ns) l6 w6).bnd (q:=λ_=>ret (Item.mk 2 n 0 ns (aa.mk 6 0 false ps))) (.ret _ _ _)
   cases w6 with
   |true=>exact this
   |false=>rw[hne rfl,VX]at this⊢;exact this
  exact(rY m1).bnd (m2.bnd ((rY m3).bnd (m4.bnd ((H5 m5 m6).bnd fin))))
theorem I2(x:Item)(y:aa)(a:Int)(nm:BA)(b c d:Int)(e:Bool)(it:List Item)(l:List BA)(w more:Bool)(ns:List BA)(ps:List aa)(h:more=false\/w=true):
 bJ (more,l,w,x,y,a,nm,b,c,d,e,it,ns,ps,())=some (l,w,x,y,a,nm,b,c,d,e,it,ns,ps,()):=by
 rw[bJ]
 cases more with
 |false=>simp only[Vi,Vk,Y1,Y2,Vj,Vq,Vo]
 |true=>
  rcases h with h|h
  ·cases h
  ·rw[h];simp only[Vi,Vk,Y1,Y2,Vj,Vq,Vo]
theorem RS(it:List Item)(hi:eV it)(x:Item)(y:aa)(a:Int)(nm:BA)(b c d:Int)(e:Bool):∀(m:Nat) (l:List BA) (w:Bool) (ns:List BA) (ps:List aa),l.length<=m->ns.length+l.length<=10000000->ps.length+l.length<=10000000->
 ∃ns' ps' l' w',bJ (true,l,w,x,y,a,nm,b,c,d,e,it,ns,ps,())=some (l',w',x,y,a,nm,b,c,d,e,it,ns',ps',())/\ns'.length<=ns.length+l.length+1/\ps'.length<=ps.length+l.length+1/\l'<:+l/\∀k,l.length<k->Sim (G6 it k ns ps) l w (ns',ps') l' w':=by
 intro m
 induction m with
 |zero=>
  intro l w ns ps hl hb hb2
  have hl0:l=[]:=Wr.1 (by omega)
  subst hl0
  cases w with
  |true=>exact⟨ns,ps,[],true,I2 _ _ _ _ _ _ _ _ _ _ _ _ _ _ (.inr rfl),by omega,by omega,VP _,λk hk=>Sim.any _ (VP _)⟩
  |false=>
   obtain⟨l1,w1,t,h1,m1⟩:=f137 it hi false [] false
   have hl1:l1=[]:=Wr.1 (by have:=m1.len;simpa using this)
   subst hl1
   have hw1:w1=true:=m1.no rfl rfl
   subst hw1
   have ht:ns.length+1<=4294967296:=by omega
   have ht2:ps.length+1<=4294967296:=by omega
   have ha:mayR cu [] true=false:=rfl
   refine⟨ns++[e0],ps++[t],[],true,?_,by simp,by simp,VP _,λk hk=> ?_⟩
   ·rw[bJ]
    simp only[Vi,Vk,Y1,Y2,Vj,Vq,Vo,h1,CJ,show ko [] true=e0 from rfl,show dc [] true=[]from rfl,V2,<-dO,IE cu gD,ha,Vt,ht,ht2,I2 x y a nm b c d e it [] true false _ _ (.inl rfl)]
   ·obtain⟨k,rfl⟩:∃j,k=j+1:=⟨k-1,by omega⟩
    exact Sim.wrong _ (VP _) rfl
 |succ m ih=>
  intro l w ns ps hl hb hb2
  cases w with
  |true=>exact⟨ns,ps,l,true,I2 _ _ _ _ _ _ _ _ _ _ _ _ _ _ (.inr rfl),by omega,by omega,VP _,λk hk=>Sim.any _ (VP _)⟩
  |false=>
   obtain⟨l1,w1,t,h1,m1⟩:=f137 it hi false l false
   have h2:=CJ l1 w1 it
   have m2:=Sim.nameR l1 w1
   obtain⟨n,hn⟩:∃n,ko l1 w1=n:=⟨_,rfl⟩
   obtain⟨l2,hl2⟩:∃l2,dc l1 w1=l2:=⟨_,rfl⟩
   obtain⟨w2,hw2⟩:∃w2,(w1|| !bY (hd l1))=w2:=⟨_,rfl⟩
   rw[hn,hl2,hw2]at h2 m2
   have hlen2:=Wl m2.len m1.len
   have h3:=IE cu gD l2 w2 it
   have m3:=Sim.mayR cu l2 w2
   have ht:ns.length+1<=4294967296:=by omega
   have ht2:ps.length+1<=4294967296:=by omega
   cases hb3:mayR cu l2 w2 with
   |false=>
    rw[hb3,Y4 VK]at h3 m3
    refine⟨ns++[n],ps++[t],l2,w2,?_,by rw[VB,Vt];omega,by rw[VB,Vt];omega,m2.suf.trans m1.suf,λk hk=> ?_⟩
    ·rw[bJ]
     simp only[Vi,Vk,Y1,Y2,Vj,Vq,Vo,h1,h2,<-dO,h3,Vt,ht,ht2,I2 x y a nm b c d e it l2 w2 false _ _ (.inl rfl)]
    ·obtain⟨k,rfl⟩:∃j,k=j+1:=⟨k-1,by omega⟩
     exact m1.bnd (m2.bnd (m3.bnd (.ret _ _ _)))
   |true=>
    rw[hb3,Y5 rfl]at h3 m3
    obtain⟨rfl,hat⟩:=F4 hb3
    have htl:=jV hat
    obtain⟨ns',ps',l',w',i1,i2,i2',i3,i4⟩:=ih l2.tail false (ns++[n]) (ps++[t]) (by omega) (by rw[VB,Vt];omega) (by rw[VB,Vt];omega)
    refine⟨ns',ps',l',w',?_,by rw[VB,Vt]at i2;omega,by rw[VB,Vt]at i2';omega,i3.trans ((Xd l2).trans (m2.suf.trans m1.suf)),λk hk=> ?_⟩
    ·rw[bJ]
     simp only[Vi,Vk,Y1,Y2,Vj,Vq,Vo,h1,h2,<-dO,h3,Vt,ht,ht2]
     exact i1
    ·obtain⟨k,rfl⟩:∃j,k=j+1:=⟨k-1,by omega⟩
     exact m1.bnd (m2.bnd (m3.bnd (i4 k (by omega))))
theorem f104(it:List Item)(hi:eV it)(l:List BA)(hl:l.length<=1000000)(w:Bool):∃l' w' x,d6 (l,w,it,())=some (l',w',it,x,())/\Sim (zL it) l w x l' w':=by
 have hlen:=hi.len
 obtain⟨l1,w1,t,h1,m1⟩:=f137 it hi true l w
 have h2:=CJ l1 w1 it
 have m2:=Sim.nameR l1 w1
 obtain⟨n,hn⟩:∃n,ko l1 w1=n:=⟨_,rfl⟩
 obtain⟨l2,hl2⟩:∃l2,dc l1 w1=l2:=⟨_,rfl⟩
 obtain⟨w2,hw2⟩:∃w2,(w1|| !bY (hd l1))=w2:=⟨_,rfl⟩
 rw[hn,hl2,hw2]at h2 m2
 obtain⟨l3,w3,h3,m3⟩:=yO AF GP l2 w2 it
 have hlen3:=Wl (Wl m3.len m2.len) m1.len
 have args:∃ns ps l4 w4,Sim (kV it) l3 w3 (ns,ps) l4 w4/\ns.length<=2000000/\ps.length<=2000000/\∀l5 w5 l6 w6,aM (dE,l4,w4,it,())=some (l5,w5,it,())->aM (sB,l5,w5,it,())=some (l6,w6,it,())->
  d6 (l,w,it,())=some (l6,w6||j5 ns,it,Item.mk 3 n 0 ns (aa.mk 6 0 false (ps++[t])),()):=by
  cases hv:yx l3 with
  |true=>
   obtain⟨r,rfl⟩:=yy hv
   have hleft:dc (cz::dE::r) w3<:+cz::dE::r:=FW _ _
   refine⟨[],[],dc (cz::dE::r) w3,w3,?_,by simp,by simp,λl5 w5 l6 w6 h5 h6=> ?_⟩
   ·cases w3 with
    |true=>exact Sim.any _ hleft
    |false=>
     have e:dc (cz::dE::r) false=dE::r:=by unfold dc cA;rw[Y4 VK,Y4 (show¬hd (cz::dE::r)=e0 from nn)];rfl
     rw[e]
     refine⟨X2 _ _,id,λhw b r' hb=> ?_,λhw hb=> ?_⟩
     ·unfold kV at hb;rw[hv,Y5 rfl]at hb;cases hb;exact⟨hw,rfl,rfl⟩
     ·unfold kV at hb;rw[hv,Y5 rfl]at hb;cases hb
   ·have c1:(((cz::dE::r).length:Int)>1):=by simp only[VD];omega
    have c2:(cz::dE::r)[Wq 0]?=some cz:=rfl
    have c3:(cz::dE::r)[Wq 1]?=some dE:=rfl
    have c4:hd (cz::dE::r)=cz:=rfl
    have h7:=f135 [] (by simp) l6 w6 it
    have h8:j5 []=false:=rfl
    rw[h8,Wx]at h7
    rw[d6]
    simp only[h1,h2,<-vI,h3,Vi,Vk,Y1,Y2,Vj,Vq,Vo,c1,c2,c3,Y7,aL,<-jZ,<-vJ,f138,c4,nn,Y8,Wx,h5,<-sV,h6,h7,h8,VU,Vt,show(0+1<=4294967296)=True by simp]
  |false=>
   obtain⟨ns,ps,l4,w4,h4,hns,hps,_,m4⟩:=RS it hi (Item.mk 0 (Vp #[]) 0 [] (aa.mk 0 0 false [])) t 3 n 0 6 0 false _ l3 w3 [] [] (VN _) (by simp only[VU];omega) (by simp only[VU];omega)
   rw[VU]at hns hps
   refine⟨ns,ps,l4,w4,(m4 _ (Xv _)).congr (by unfold kV;rw[hv,Y4 VK]),by omega,by omega,λl5 w5 l6 w6 h5 h6=> ?_⟩
   have ht2:ps.length+1<=4294967296:=by omega
   have h7:=f135 ns (by omega) l6 w6 it
   rw[d6]
   simp only[h1,h2,<-vI,h3,Vi,Vk,Y1,Y2,Vj,Vq,Vo,aL,<-jZ,<-vJ]
   by_cases c1:((l3.length:Int)>1)
   ·match l3,hv,c1 with
    |[],_,c1=>simp at c1
    |[y],_,c1=>simp at c1
    |y::z::r,hv,c1=>
     have c2:(y::z::r)[Wq 0]?=some y:=rfl
     have c3:(y::z::r)[Wq 1]?=some z:=rfl
     by_cases e1:y=cz
     ·have e2:¬z=dE:=λe2=>by
       have hv:(decide (y=cz)&&decide (z=dE))=false:=hv
       rw[decide_eq_true e1,decide_eq_true e2]at hv;cases hv
      subst e1
      simp only[c1,c2,c3,e2,Y7,Y8,Vi,Vk,Y1,Y2,Vj,Vq,Vo,h4,h5,<-sV,h6,h7,Vt,ht2]
     ·simp only[c1,c2,e1,Y7,Y8,Vi,Vk,Y1,Y2,Vj,Vq,Vo,h4,h5,<-sV,h6,h7,Vt,ht2]
   ·simp only[c1,Y8,Vi,Vk,Y1,Y2,Vj,Vq,Vo,h4,h5,<-sV,h6,h7,Vt,ht2]
 obtain⟨ns,ps,l4,w4,m4,hns,hps,harg⟩:=args
 obtain⟨l5,w5,h5,m5⟩:=yO dE GQ l4 w4 it
 obtain⟨l6,w6,h6,m6⟩:=yO sB IG l5 w5 it
 refine⟨l6,_,_,harg l5 w5 l6 w6 h5 h6,?_⟩
 unfold zL
 exact m1.bnd (m2.bnd ((rY m3).bnd (m4.bnd ((H5 m5 m6).bnd ((Sim.nay _ _ _).bnd (.ret _ _ _))))))
end Go.Proofs.YtpelkenpapfadaaGreatDoor
end
section
namespace Go.Proofs.YtpelkenpapfadaaGreatDoor
set_option maxRecDepth 20000
theorem y56(l:aa):Ah (l,())=some (jd l,()):=by
 simp only[Ah,jd,Y6];(repeat' split)<;>simp_all
theorem y58(l:aa):Gm (l,())=some (jd l,()):=by
 simp only[Gm,jd,Y6];(repeat' split)<;>simp_all
theorem T2(xs:List Int)(hx:∀x∈xs,0<=x)(hl:xs.length<=1000000)(k:Nat)(a:Int)(h0:0<=a)(h1:a<=far):
 lP (a,xs,xs.length,k,())=some ((xs.drop k).foldl (λn x=>min far (n+min x far)) a,()):=by
 have hf:far=1099511627776:=rfl
 rw[lP]
 by_cases hlt:k<xs.length
 ·obtain⟨p,hp,hm,hd,g1,g2⟩:=dP hlt
  have hp0:=hx p hm
  have e1:IntKind.i64.wrap (a+min p 1099511627776)=a+min p 1099511627776:=cN (by omega) (by omega)
  simp only[Vi,Vk,Vr,Y1,Y2,Vj,Vn,Vl,Vm,Y6,Y3,Vs,g1,g2,hp,e1,bq hlt (Wl hl (by decide)),hd,Wy,hlt]
  exact T2 xs hx hl (k+1) _ (by omega) (by omega)
 ·obtain⟨hd,g1⟩:=gO hlt
  simp only[Vi,Vk,Vr,Y1,Y2,Vj,Vn,Vl,Vm,Y6,Y3,Vs,g1,hd,XY,hlt]
termination_by xs.length-k
theorem y72(xs:List Int)(hx:∀x∈xs,0<=x)(hl:xs.length<=1000000):lO (xs,())=some (Q_ xs,()):=by
 have:=T2 xs hx hl 0 0 (by omega) (by decide)
 simp only[Wn,WB]at this
 simp only[lO,this,Vi,Vk,Vr,Y1,Y2,Vj,Vn,Vl,Vm,Y6,Y3,Vs,V6,Q_]
theorem Oy{a b:Int}(ha:0<=a)(hb:0<=b):lO ([a,b],())=some (min far (a+b),()):=by
 rw[y72 [a,b] (by simp;omega) (by simp),Sx a b ha hb]
theorem T1(ps:List aa)(hn:ps.length<=9223372036854775807)(k:Nat)(a:Int)(h0:0<=a)(hb:a+bT (ps.drop k)<=4611686018427387904):lQ (a,ps,ps.length,k,())=some (a+bT (ps.drop k),()):=by
 rw[lQ]
 by_cases hlt:k<ps.length
 ·obtain⟨p,hp,hm,hd,g1,g2⟩:=dP hlt
  rw[hd]at hb⊢
  simp only[bT]at hb⊢
  have b1:=eW p
  have b2:=eT (ps.drop (k+1))
  have e1:IntKind.i64.wrap (a+jd p)=a+jd p:=cN (by omega) (by omega)
  simp only[Vi,Vk,Vr,Y1,Y2,Vj,Vn,Vl,Vm,Y6,Y3,Vs,g1,g2,hp,y56,e1,bq hlt hn,hlt]
  rw[T1 ps hn (k+1) _ (by omega) (by omega),Int.add_assoc]
 ·obtain⟨hd,g1⟩:=gO hlt
  simp only[Vi,Vk,Vr,Y1,Y2,Vj,Vn,Vl,Vm,Y6,Y3,Vs,g1,hd,bT,Int.add_zero,hlt]
termination_by ps.length-k
theorem y55(l:aa)(hn:l.parts.length<=9223372036854775807)(hb:bT l.parts<=4611686018427387904):Gc (l,())=some (bT l.parts,()):=by
 have:=T1 l.parts hn 0 0 (by omega) (by simpa using hb)
 simp only[WB,Wn,Yx,V6]at this
 simp only[Gc,this,Vi,Vk,Vr,Y1,Y2,Vj,Vn,Vl,Vm,Y6,Y3,Vs]
theorem T0(l:aa)(hn:l.parts.length<=9223372036854775807)(k:Nat)(a:Int)(h0:0<=a)(h1:a<=100000):lN (a,k,l,())=some ((l.parts.drop k).foldl (λn p=>min (n+min (jd p) 1000) 100000) a,()):=by
 rw[lN]
 by_cases hlt:k<l.parts.length
 ·obtain⟨p,hp,hm,hd,g1,g2⟩:=dP hlt
  have b1:=eW p
  have e1:IntKind.i64.wrap (a+min (jd p) 1000)=a+min (jd p) 1000:=cN (by omega) (by omega)
  simp only[Vi,Vk,Vr,Y1,Y2,Vj,Vn,Vl,Vm,Y6,Y3,Vs,g1,g2,hp,y58,e1,bq hlt hn,hd,Wy,hlt]
  exact T0 l hn (k+1) _ (by omega) (by omega)
 ·obtain⟨hd,g1⟩:=gO hlt
  simp only[Vi,Vk,Vr,Y1,Y2,Vj,Vn,Vl,Vm,Y6,Y3,Vs,g1,hd,XY,hlt]
termination_by l.parts.length-k
theorem y52(l:aa)(hn:l.parts.length<=9223372036854775807):Ga (l,())=some (jS l.parts,()):=by
 have:=T0 l hn 0 0 (by omega) (by omega)
 simp only[WB,Wn,V6]at this
 simp only[Ga,this,Vi,Vk,Vr,Y1,Y2,Vj,Vn,Vl,Vm,Y6,Y3,Vs,jS]
end Go.Proofs.YtpelkenpapfadaaGreatDoor
end
section
namespace Go.Proofs.YtpelkenpapfadaaGreatDoor
open IntKind (i64)
set_option maxRecDepth 20000
theorem y47:∀(l:aa),l.Fits->l.depth<=1000000->n_139 (l,())=some ((l.depth:Int),()):=by
 refine aa.ind λl ih hl hd0=> ?_
 have loop:∀(m k:Nat) (a:Int),l.parts.length-k=m->0<=a->gb (a,k,l,())=some (max a (aa.depthL (l.parts.drop k)),()):=by
  intro m
  induction m with
  |zero=>
   intro k a hk h0
   have hlt:¬k<l.parts.length:=by omega
   obtain⟨hd,g1⟩:=gO hlt
   rw[gb]
   simp only[Vi,Vk,Vr,Y1,Y2,Vj,Vn,Vl,Vm,Y6,Y3,Vs,hlt,hd,aa.depthL]
   have:max a (0:Nat)=a:=by omega
   rw[this]
  |succ m ihm=>
   intro k a hk h0
   have hlt:k<l.parts.length:=by omega
   obtain⟨p,hp,hm,hd,g1,g2⟩:=dP hlt
   have:=aa.depth_mem hm
   rw[gb]
   simp only[Vi,Vk,Vr,Y1,Y2,Vj,Vn,Vl,Vm,Y6,Y3,Vs,g1,g2,hlt,hp,ih p hm (hl.part hm) (by omega),bq hlt hl.len,hd,aa.depthL]
   rw[ihm (k+1) _ (by omega) (by omega)]
   have e:max (max a (p.depth:Int)) ((aa.depthL (l.parts.drop (k+1)):Nat):Int)=max a ((max p.depth (aa.depthL (l.parts.drop (k+1))):Nat):Int):=by omega
   rw[e]
 have h:=loop _ 0 0 rfl (by omega)
 have e:=l.depth_eq
 simp only[WB,Wn,V6]at h
 have e1:i64.wrap (max 0 ((aa.depthL l.parts:Nat):Int)+1)=(l.depth:Int):=by rw[cN (by omega) (by omega)];omega
 rw[n_139]
 simp only[h,Vi,Vk,Vr,Y1,Y2,Vj,Vn,Vl,Vm,Y6,Y3,Vs,e1]
theorem y48:∀(l:aa),l.Fits->l.arr->n_127 (l,())=some (min far l.cells,()):=by
 refine aa.ind λl ih hl hr=> ?_
 have hf:far=1099511627776:=rfl
 have loop:∀(m k:Nat) (a:Int),l.parts.length-k=m->0<=a->a<=far->f9 (a,l.parts,l.parts.length,k,l,())=some (min far (a+aa.cellsL (l.parts.drop k)),l,()):=by
  intro m
  induction m with
  |zero=>
   intro k a hk h0 h1
   have hlt:¬k<l.parts.length:=by omega
   obtain⟨hd,g1⟩:=gO hlt
   rw[f9]
   have e:min far (a+0)=a:=by omega
   simp only[Vi,Vk,Vr,Y1,Y2,Vj,Vn,Vl,Vm,Y6,Y3,Vs,hlt,hd,aa.cellsL,e]
  |succ m ihm=>
   intro k a hk h0 h1
   have hlt:k<l.parts.length:=by omega
   obtain⟨p,hp,hm,hd,g1,g2⟩:=dP hlt
   have b1:=p.cells_pos
   have b2:=aa.cellsL_nonneg (l.parts.drop (k+1))
   rw[f9]
   simp only[Vi,Vk,Vr,Y1,Y2,Vj,Vn,Vl,Vm,Y6,Y3,Vs,g1,g2,hlt,hp,ih p hm (hl.part hm) (hr.part hm),Oy h0 (show(0:Int)<=min far p.cells by omega),bq hlt hl.len,hd,aa.cellsL]
   rw[ihm (k+1) _ (by omega) (by omega) (by omega)]
   have e:min far (min far (a+min far p.cells)+aa.cellsL (l.parts.drop (k+1)))=min far (a+(p.cells+aa.cellsL (l.parts.drop (k+1)))):=by omega
   rw[e]
 have h:=loop _ 0 0 rfl (by omega) (by decide)
 simp only[WB,Wn,V6,Yx]at h
 have b2:=aa.cellsL_nonneg l.parts
 rw[n_127]
 simp only[h,Vi,Vk,Vr,Y1,Y2,Vj,Vn,Vl,Vm,Y6,Y3,Vs]
 have b0:0<=min far (aa.cellsL l.parts):=by omega
 by_cases h5:l.kind=5
 ·have hn:=hr.self h5
  have b3:0<=max 0 l.n *min far (aa.cellsL l.parts):=YJ (by omega) b0
  have b4:max 0 l.n *min far (aa.cellsL l.parts)<=1000000 *1099511627776:=Int.mul_le_mul (by omega) (by omega) b0 (by decide)
  have e1:i64.wrap (max 0 l.n *min far (aa.cellsL l.parts))=max 0 l.n *min far (aa.cellsL l.parts):=cN (by omega) (by omega)
  rw[Y5 h5,e1,Oy (by omega) b3,Hs (by omega) b2 (by decide),l.cells_eq,Y5 h5]
  rfl
 ·rw[Y4 h5,Oy (by omega) b0]
  have e1:min far (1+min far (aa.cellsL l.parts))=min far l.cells:=by rw[l.cells_eq,Y4 h5];omega
  rw[e1]
  rfl
theorem y50:∀(l:aa),l.Fits->n_140 (l,())=some (min 100000 l.cells,()):=by
 refine aa.ind λl ih hl=> ?_
 have loop:∀(m k:Nat) (a:Int),l.parts.length-k=m->0<=a->a<=100000->gc (a,k,l,())=some (min 100000 (a+aa.cellsL (l.parts.drop k)),l,()):=by
  intro m
  induction m with
  |zero=>
   intro k a hk h0 h1
   have hlt:¬k<l.parts.length:=by omega
   obtain⟨hd,g1⟩:=gO hlt
   rw[gc]
   have e:min 100000 (a+0)=a:=by omega
   simp only[Vi,Vk,Vr,Y1,Y2,Vj,Vn,Vl,Vm,Y6,Y3,Vs,hlt,hd,aa.cellsL,e]
  |succ m ihm=>
   intro k a hk h0 h1
   have hlt:k<l.parts.length:=by omega
   obtain⟨p,hp,hm,hd,g1,g2⟩:=dP hlt
   have b1:=p.cells_pos
   have b2:=aa.cellsL_nonneg (l.parts.drop (k+1))
   have e1:i64.wrap (a+min 100000 p.cells)=a+min 100000 p.cells:=cN (by omega) (by omega)
   rw[gc]
   simp only[Vi,Vk,Vr,Y1,Y2,Vj,Vn,Vl,Vm,Y6,Y3,Vs,g1,g2,hlt,hp,ih p hm (hl.part hm),e1,bq hlt hl.len,hd,aa.cellsL]
   rw[ihm (k+1) _ (by omega) (by omega) (by omega)]
   have e:min 100000 (min (a+min 100000 p.cells) 100000+aa.cellsL (l.parts.drop (k+1)))=min 100000 (a+(p.cells+aa.cellsL (l.parts.drop (k+1)))):=by omega
   rw[e]
 have h:=loop _ 0 0 rfl (by omega) (by decide)
 simp only[WB,Wn,V6,Yx]at h
 have b2:=aa.cellsL_nonneg l.parts
 rw[n_140]
 simp only[h,Vi,Vk,Vr,Y1,Y2,Vj,Vn,Vl,Vm,Y6,Y3,Vs]
 have b0:0<=min 100000 (aa.cellsL l.parts):=by omega
 by_cases h5:l.kind=5
 ·have b3:0<=min (max l.n 0) 100000 *min 100000 (aa.cellsL l.parts):=YJ (by omega) b0
  have b4:min (max l.n 0) 100000 *min 100000 (aa.cellsL l.parts)<=100000 *100000:=Int.mul_le_mul (by omega) (by omega) b0 (by decide)
  have e1:i64.wrap (min (max l.n 0) 100000 *min 100000 (aa.cellsL l.parts))=min (max l.n 0) 100000 *min 100000 (aa.cellsL l.parts):=cN (by omega) (by omega)
  have e2:i64.wrap (min (max l.n 0) 100000 *min 100000 (aa.cellsL l.parts)+1)=min (max l.n 0) 100000 *min 100000 (aa.cellsL l.parts)+1:=cN (by omega) (by omega)
  have e3:min (min (max l.n 0) 100000 *min 100000 (aa.cellsL l.parts)+1) 100000=min 100000 l.cells:=by
   rw[J1 (by omega) b2 (by decide),l.cells_eq,Y5 h5,show max l.n 0=max 0 l.n by omega]
  simp only[h5,Vi,Vk,Vr,Y1,Y2,Vj,Vn,Vl,Vm,Y6,Y3,Vs,e1,e2,e3]
 ·have e2:i64.wrap (min 100000 (aa.cellsL l.parts)+1)=min 100000 (aa.cellsL l.parts)+1:=cN (by omega) (by omega)
  have e3:min (min 100000 (aa.cellsL l.parts)+1) 100000=min 100000 l.cells:=by rw[l.cells_eq,Y4 h5];omega
  simp only[h5,Vi,Vk,Vr,Y1,Y2,Vj,Vn,Vl,Vm,Y6,Y3,Vs,e2,e3]
theorem y46:∀(l:aa),l.Fits->l.all.length<=1000000->n_57 (l,())=some (l.all,()):=by
 refine aa.ind λl ih hl hsz=> ?_
 have loop:∀(m k:Nat) (acc:List aa),l.parts.length-k=m->acc++aa.allL (l.parts.drop k)=l.all->jF (k,l,acc,())=some (l.all,()):=by
  intro m
  induction m with
  |zero=>
   intro k acc hk ha
   have hlt:¬k<l.parts.length:=by omega
   obtain⟨hd,g1⟩:=gO hlt
   rw[hd,aa.allL,Wo]at ha
   rw[jF]
   simp only[Vi,Vk,Vr,Y1,Y2,Vj,Vn,Vl,Vm,Y6,Y3,Vs,hlt,ha]
  |succ m ihm=>
   intro k acc hk ha
   have hlt:k<l.parts.length:=by omega
   obtain⟨p,hp,hm,hd,g1,g2⟩:=dP hlt
   rw[hd,aa.allL,<-Wc]at ha
   have hsz2:acc.length+p.all.length<=1000000:=by
    have:=congrArg Xt ha
    simp only[VB]at this
    omega
   have hle:acc.length+p.all.length<=4294967296:=by omega
   rw[jF]
   simp only[Vi,Vk,Vr,Y1,Y2,Vj,Vn,Vl,Vm,Y6,Y3,Vs,g1,g2,hlt,hp,ih p hm (hl.part hm) (by omega),bq hlt hl.len,hle]
   exact ihm (k+1) _ (by omega) ha
 have h:=loop _ 0 [l] rfl (by rw[l.all_eq];rfl)
 simp only[WB,Wn,V6]at h
 rw[n_57]
 simp only[h,Vi,Vk,Vr,Y1,Y2,Vj,Vn,Vl,Vm,Y6,Y3,Vs]
theorem TZ(dep:Int)(c:an)(l:aa)(ps:List aa)(hn:ps.length<=9223372036854775807)(k:Nat)(a:Int)(h0:0<=a)(h1:a<=far):
 aE (dep,a,ps,ps.length,k,c,l,())=some (dep,min far (a+bT (ps.drop k)),c,l,()):=by
 have hf:far=1099511627776:=rfl
 rw[aE]
 by_cases hlt:k<ps.length
 ·obtain⟨p,hp,hm,hd,g1,g2⟩:=dP hlt
  have b1:=eW p
  have b2:=eT (ps.drop (k+1))
  simp only[Vi,Vk,Vr,Y1,Y2,Vj,Vn,Vl,Vm,Y6,Y3,Vs,g1,g2,hlt,hp,y56,Oy h0 b1,bq hlt hn]
  rw[TZ dep c l ps hn (k+1) _ (by omega) (by omega),hd,bT]
  have e:min far (min far (a+jd p)+bT (ps.drop (k+1)))=min far (a+(jd p+bT (ps.drop (k+1)))):=by omega
  rw[e]
 ·obtain⟨hd,g1⟩:=gO hlt
  have e:min far (a+0)=a:=by omega
  simp only[Vi,Vk,Vr,Y1,Y2,Vj,Vn,Vl,Vm,Y6,Y3,Vs,hlt,hd,bT,e]
termination_by ps.length-k
def Mu(s:Int×Int×Bool):an:=⟨s.1,s.2.1,s.2.2⟩
theorem y45:∀(l:aa) (dep c d:Int) (g:Bool),l.Fits->0<=c->c+l.all.length<=1000000->0<=dep->dep+l.depth<=1000000->
 n_126sf4a5 (l,dep,⟨c,d,g⟩,())=some (Mu (l.look dep c d g),()):=by
 refine aa.ind λl ih dep c d g hl hc0 hc1 hd0 hd1=> ?_
 have hf:far=1099511627776:=rfl
 have hlen:=hl.len
 have loop:∀(m k:Nat) (s:Int×Int×Bool),l.parts.length-k=m->0<=s.1->s.1+(aa.allL (l.parts.drop k)).length<=1000000->
  bE (dep,l.parts,l.parts.length,k,Mu s,())=some (Mu (aa.lookL (l.parts.drop k) (dep+1) s),()):=by
  intro m
  induction m with
  |zero=>
   intro k s hk hs0 hs1
   have hlt:¬k<l.parts.length:=by omega
   obtain⟨hd,g1⟩:=gO hlt
   rw[bE]
   simp only[Vi,Vk,Vr,Y1,Y2,Vj,Vn,Vl,Vm,Y6,Y3,Vs,hlt,hd,aa.lookL]
  |succ m ihm=>
   intro k s hk hs0 hs1
   have hlt:k<l.parts.length:=by omega
   obtain⟨p,hp,hm,hd,g1,g2⟩:=dP hlt
   rw[hd]at hs1⊢
   simp only[aa.allL,VB]at hs1
   have hdp:=aa.depth_mem hm
   have hcnt:=p.look_cnt (dep+1) s.1 s.2.1 s.2.2
   have e3:i64.wrap (dep+1)=dep+1:=cN (by omega) (by omega)
   rw[bE]
   have hih:=ih p hm (dep+1) s.1 s.2.1 s.2.2 (hl.part hm) hs0 (by omega) (by omega) (by omega)
   simp only[Vi,Vk,Vr,Y1,Y2,Vj,Vn,Vl,Vm,Y6,Y3,Vs,g1,g2,hlt,hp,e3]
   have:(Mu s)=⟨s.1,s.2.1,s.2.2⟩:=rfl
   rw[this,hih]
   simp only[Vi,Vk,Vr,Y1,Y2,Vj,Vn,Vl,Vm,Y6,Y3,Vs,bq hlt hlen,aa.lookL]
   exact ihm (k+1) _ (by omega) (by omega) (by omega)
 have hall:1<=l.all.length:=by rw[l.all_eq];simp
 have e1:i64.wrap (c+1)=c+1:=cN (by omega) (by omega)
 have h14:=TZ dep ⟨c+1,max d dep,g||decide (c+1>60)||decide (dep>5)||decide ((l.parts.length:Int)>12)⟩ l l.parts hlen 0 0 (by omega) (by decide)
 simp only[WB,Wn,V6,Yx]at h14
 have p1:(if g=true then some (dep,an.mk (i64.wrap (c+(1:Int))) (max d dep) true,l,())
  else if decide (i64.wrap (c+(1:Int))>(60:Int))=true then some (dep,an.mk (i64.wrap (c+(1:Int))) (max d dep) true,l,())
  else if decide (dep>(5:Int))=true then some (dep,an.mk (i64.wrap (c+(1:Int))) (max d dep) true,l,())
  else some (dep,an.mk (i64.wrap (c+(1:Int))) (max d dep) (decide ((l.parts.length:Int)>(12:Int))),l,()))=
  some (dep,(⟨c+1,max d dep,g||decide (c+1>60)||decide (dep>5)||decide ((l.parts.length:Int)>12)⟩:an),l,()):=by
  rw[e1]
  cases g
  ·by_cases h1:c+1>60
   ·simp[h1]
   ·by_cases h2:dep>5
    ·simp[h1,h2]
    ·simp[h1,h2]
  ·simp
 rw[n_126sf4a5]
 simp only[]
 rw[p1]
 simp only[Vi,Vk,Vr,Y1,Y2,Vj,Vn,Vl,Vm,Y6,Y3,Vs]
 rw[l.look_eq]
 generalize hg1:(g||decide (c+1>60)||decide (dep>5)||decide ((l.parts.length:Int)>12))=g1 at h14⊢
 have p2:∀{B:Type} (K:Int×an×aa×Unit->Option B),(((if l.kind=2 then(if g1=true then some (dep,an.mk (c+1) (max d dep) true,l,())else some (dep,an.mk (c+1) (max d dep) (decide (l.n>64)),l,())).bind λx2=>some (x2.1,x2.2.1,x2.2.2.1,())
  else if l.kind=5 then(if g1=true then some (dep,an.mk (c+1) (max d dep) true,l,())else some (dep,an.mk (c+1) (max d dep) (decide (l.n>1000)),l,())).bind λx2=>some (x2.1,x2.2.1,x2.2.2.1,())
  else if l.kind=7 then(if g1=true then some (dep,an.mk (c+1) (max d dep) true,l,())else some (dep,an.mk (c+1) (max d dep) (decide (l.n>65536)),l,())).bind λx2=>some (x2.1,x2.2.1,x2.2.2.1,())
  else if l.kind=9 then(aE (dep,0,l.parts,(l.parts.length:Int),0,⟨c+1,max d dep,g1⟩,l,())).bind λx2=>(if x2.2.2.1.large=true then some (x2.1,an.mk x2.2.2.1.count x2.2.2.1.deep true,x2.2.2.2.1,())else some (x2.1,an.mk x2.2.2.1.count x2.2.2.1.deep (decide (x2.2.1>64)),x2.2.2.2.1,())).bind λx3=>some (x3.1,x3.2.1,x3.2.2.1,())
  else some (dep,(⟨c+1,max d dep,g1⟩:an),l,())):Option (Int×an×aa×Unit)).bind K)=K (dep,⟨c+1,max d dep,g1||l.big1⟩,l,()):=by
  intro B K
  by_cases h2:l.kind=2
  ·have e2:l.big1=decide (l.n>64):=by simp[aa.big1,h2]
   rw[e2];cases g1<;>simp[h2]
  by_cases h5:l.kind=5
  ·have e2:l.big1=decide (l.n>1000):=by simp[aa.big1,h5]
   rw[e2];cases g1<;>simp[h5]
  by_cases h7:l.kind=7
  ·have e2:l.big1=decide (l.n>65536):=by simp[aa.big1,h7]
   rw[e2];cases g1<;>simp[h7]
  by_cases h9:l.kind=9
  ·have e2:l.big1=decide (min far (bT l.parts)>64):=by simp[aa.big1,h9]
   rw[e2,h14];cases g1<;>simp[h9]
  ·have e2:l.big1=false:=by simp[aa.big1,h2,h5,h7,h9]
   simp[h2,h5,h7,h9,e2]
 rw[p2]
 simp only[]
 cases hg2:(g1||l.big1)with
 |true=>simp[Mu]
 |false=>
  have h:=loop _ 0 (c+1,max d dep,false) rfl (by simp only[];omega) (by rw[l.all_eq,VD]at hc1;simp only[V6];omega)
  simp only[WB,Wn,V6,Mu]at h
  simp only[Vi,Vk,Vr,Y1,Y2,Vj,Vn,Vl,Vm,Y6,Y3,Vs,h]
  rfl
end Go.Proofs.YtpelkenpapfadaaGreatDoor
end
section
namespace Go.Proofs.YtpelkenpapfadaaGreatDoor
set_option maxRecDepth 20000
theorem y62(n lo hi:Int):Gd (n,lo,hi,())=some (decide (lo<=n/\n<=hi),()):=by
 by_cases h1:n>=lo<;>simp[Gd,h1]
theorem y76(l:aa):Gs (l,())=some (ra l,()):=by
 unfold Gs ra
 by_cases h4:l.kind=4
 ·simp[h4]
 by_cases h5:l.kind=5
 ·simp[h5]
 by_cases h6:l.kind=6
 ·simp[h6]
 by_cases h9:l.kind=9
 ·simp[h9]
 by_cases h8:l.kind=8
 ·simp[h8]
 ·simp[h4,h5,h6,h9,h8]
theorem y51(k:Int):Gk (k,())=some (w_ k,()):=by
 simp only[Gk,w_,Y6];(repeat' split)<;>simp_all
theorem SU(l:aa)(hn:l.parts.length<=9223372036854775807)(k:Nat):iL (k,l,())=some (if(l.parts.drop k).all fT=true then .inr (l,())else .inl (false,())):=by
 rw[iL]
 by_cases hlt:k<l.parts.length
 ·obtain⟨p,hp,hm,hd,g1,g2⟩:=dP hlt
  rw[hd,WG]
  by_cases q1:p.kind=1
  ·have hb:fT p=true:=by simp[fT,q1]
   have q1':(p.kind !=1)=false:=by simp[q1]
   simp only[Vi,Vk,Vr,Y1,Y2,Vj,Vn,Vl,Vm,Y6,Y3,Vs,g1,g2,hlt,hp,q1',bq hlt hn,hb,WA]
   exact SU l hn (k+1)
  ·have q1':(p.kind !=1)=true:=by simp[q1]
   by_cases q2:p.kind=2
   ·have hb:fT p=true:=by simp[fT,q2]
    have q2':(p.kind !=2)=false:=by simp[q2]
    simp only[Vi,Vk,Vr,Y1,Y2,Vj,Vn,Vl,Vm,Y6,Y3,Vs,g1,g2,hlt,hp,q1',q2',bq hlt hn,hb,WA]
    exact SU l hn (k+1)
   ·have hb:fT p=false:=by simp[fT,q1,q2]
    have q2':(p.kind !=2)=true:=by simp[q2]
    simp only[Vi,Vk,Vr,Y1,Y2,Vj,Vn,Vl,Vm,Y6,Y3,Vs,g1,g2,hlt,hp,q1',q2',bq hlt hn,hb,WP]
 ·obtain⟨hd,g1⟩:=gO hlt
  simp only[Vi,Vk,Vr,Y1,Y2,Vj,Vn,Vl,Vm,Y6,Y3,Vs,hlt,hd,List.all_nil]
termination_by l.parts.length-k
theorem y53(l:aa)(hn:l.parts.length<=9223372036854775807):Gl (l,())=some (l.isS,()):=by
 have h:=SU l hn 0
 simp only[WB,Wn,V6]at h
 unfold Gl aa.isS
 simp only[y62,y76,Vi,Vk,Vr,Y1,Y2,Vj,Vn,Vl,Vm,Y6,Y3,Vs]
 by_cases h1:0<=l.kind/\l.kind<=9
 ·cases h2:ra l
  ·simp[h1,h2]
  ·have e:(l.flag&&l.kind !=2)=(if l.flag=true then(l.kind !=2)else false):=by cases l.flag<;>simp
   cases h3:(l.flag&&l.kind !=2)
   ·have h3':(if l.flag=true then some (l.kind !=2,l,())else some (false,l,()))=some (false,l,()):=by
     rw[e]at h3;cases hf:l.flag<;>simp_all
    simp only[h1,and_self,Y7,Vq,Vj,Y2,Vk,h3',Vo,Bool.and_self,WA]
    unfold P1
    by_cases k2:l.kind=2
    ·simp[k2]
    by_cases k7:l.kind=7
    ·simp[k7]
    by_cases k5:l.kind=5
    ·simp[k5]
    by_cases k9:l.kind=9
    ·simp only[k9]
     simp[h]
     cases hb:l.parts.all fT
     ·have hb':¬∀x∈l.parts,fT x=true:=by rw[<-VH,hb];simp
      simp[hb']
     ·have hb':∀x∈l.parts,fT x=true:=VH.1 hb
      rw[Y5 hb'];simp
    ·simp[k2,k7,k5,k9]
   ·have h3':(if l.flag=true then some (l.kind !=2,l,())else some (false,l,()))=some (true,l,()):=by
     rw[e]at h3;cases hf:l.flag<;>simp_all
    simp[h1,h3']
 ·simp[h1]
theorem R5(F:(List aa×Int×Int×Unit)->Option ((Int×Unit)⊕Unit))(g:aa×Unit->Option (Bool×Unit))(pred:aa->Bool)(ps:List aa)(hn:ps.length<=9223372036854775807)
 (hg:∀p∈ps,g (p,())=some (pred p,()))
 (hF:∀v,F v=(if decide (v.2.2.1<v.2.1)=true then
   if(0:Int)<=v.2.2.1 then
    v.1[v.2.2.1.toNat]?>>=λx1=>
    g (x1,())>>=λx2=>
    if x2.1=true then some (V_ (v.2.2.1,()))
    else F (v.1,v.2.1,IntKind.i64.wrap (v.2.2.1+(1:Int)),())
   else none
 else some (V9 ())))(k:Nat):
 F (ps,ps.length,k,())=some (if FM pred (ps.drop k) k= -1 then .inr ()else .inl (FM pred (ps.drop k) k,())):=by
 rw[hF]
 by_cases hlt:k<ps.length
 ·obtain⟨p,hp,hm,hd,g1,g2⟩:=dP hlt
  rw[hd,FM]
  cases hq:pred p
  ·simp only[Vi,Vk,Vr,Y1,Y2,Vj,Vn,Vl,Vm,Y6,Y3,Vs,g1,g2,hlt,hp,hg p hm,hq,bq hlt hn]
   rw[R5 F g pred ps hn hg hF (k+1)]
   simp
  ·have:¬((k:Int)= -1):=by omega
   simp only[Vi,Vk,Vr,Y1,Y2,Vj,Vn,Vl,Vm,Y6,Y3,Vs,g1,g2,hlt,hp,hg p hm,hq,this]
 ·obtain⟨hd,g1⟩:=gO hlt
  simp only[Vi,Vk,Vr,Y1,Y2,Vj,Vn,Vl,Vm,Y6,Y3,Vs,hlt,hd,FM]
termination_by ps.length-k
theorem y74(p:aa):C9 (p,())=some (!fT p,()):=by
 unfold C9 fT
 by_cases h1:p.kind=1
 ·simp[h1]
 ·have:(p.kind==1)=false:=by simp[h1]
  simp[h1,this]
  rfl
theorem Vh(ps:List aa)(hn:ps.length<=9223372036854775807):jz (ps,())=some (ps.any λp=> !fT p,()):=by
 have h:=R5 dT C9 (λp=> !fT p) ps hn (λp _=>y74 p) (λv=>by rw[dT]) 0
 simp only[WB,Wn,V6]at h
 have h2:jA (ps,())=some (FM (λp=> !fT p) ps 0,()):=by
  unfold jA
  simp only[h,Vi,Vk,Vr,Y1,Y2,Vj,Vn,Vl,Vm,Y6,Y3,Vs]
  by_cases hi:FM (λp=> !fT p) ps 0= -1<;>simp[hi]
 unfold jz
 simp only[h2,Vi,Vk,Vr,Y1,Y2,Vj,Vn,Vl,Vm,Y6,Y3,Vs,uN _ ps 0 (Yf 0)]
theorem y49:∀(l:aa),l.Fits->f_ (l,())=some (l.right,()):=by
 refine aa.ind λl ih hl=> ?_
 have hn:=hl.len
 have h:=R5 n_189c167l2 n_167 (λp=> !p.right) l.parts hn (λp hp=>by rw[n_167];simp only[ih p hp (hl.part hp),Vi,Vk,Vr,Y1,Y2,Vj,Vn,Vl,Vm,Y6,Y3,Vs]) (λv=>by rw[n_189c167l2]) 0
 simp only[WB,Wn,V6]at h
 have h2:n_189c167 (l.parts,())=some (FM (λp=> !p.right) l.parts 0,()):=by
  rw[n_189c167]
  simp only[h,Vi,Vk,Vr,Y1,Y2,Vj,Vn,Vl,Vm,Y6,Y3,Vs]
  by_cases hi:FM (λp=> !p.right) l.parts 0= -1<;>simp[hi]
 have h75:n_165c167 (l.parts,())=some (l.parts.any λp=> !p.right,()):=by
  rw[n_165c167]
  simp only[h2,Vi,Vk,Vr,Y1,Y2,Vj,Vn,Vl,Vm,Y6,Y3,Vs,uN _ l.parts 0 (Yf 0)]
 have h74:=Vh l.parts hn
 have he:((l.parts.any λp=> !p.right))= !(l.parts.all aa.right):=by rw[Yy]
 rw[he]at h75
 have key:0<=l.kind/\l.kind<=9->f_ (l,())=some ((nbS l&& !((l.parts.length:Int) !=pcS l)&& !(l.flag&&l.kind !=2)&& !(l.kind==9&&l.parts.any λp=> !fT p))&&l.parts.all aa.right,()):=by
  intro hk
  have hk':l.kind=0\/l.kind=1\/l.kind=2\/l.kind=3\/l.kind=4\/l.kind=5\/l.kind=6\/l.kind=7\/l.kind=8\/l.kind=9:=by omega
  rw[f_]
  unfold nbS pcS
  generalize l.parts.all aa.right=ar at h75⊢
  generalize (l.parts.any λp=> !fT p)=ab at h74⊢
  rcases hk' with h0|h0|h0|h0|h0|h0|h0|h0|h0|h0
  ·cases hf:l.flag<;>by_cases hn0:l.n=0<;>by_cases hp:l.parts=[]<;>cases ar<;>(try rw[hp]at h75)<;>simp[h0,hf,hn0,hp,h75]
  ·cases hf:l.flag<;>by_cases hn0:l.n=0<;>by_cases hp:l.parts=[]<;>cases ar<;>(try rw[hp]at h75)<;>simp[h0,hf,hn0,hp,h75]
  ·cases hf:l.flag<;>by_cases hn0:1<=l.n<;>by_cases hp:l.parts=[]<;>cases ar<;>(try rw[hp]at h75)<;>simp[h0,hf,hn0,hp,h75]
  ·cases hf:l.flag<;>by_cases hn0:l.n=0<;>by_cases hp:l.parts=[]<;>cases ar<;>(try rw[hp]at h75)<;>simp[h0,hf,hn0,hp,h75]
  ·cases hf:l.flag<;>by_cases hn0:l.n=0<;>by_cases hp:(l.parts.length:Int)=1<;>cases ar<;>simp[h0,hf,hn0,hp,h75]
  ·cases hf:l.flag<;>by_cases hn0:0<=l.n<;>by_cases hp:(l.parts.length:Int)=1<;>cases ar<;>simp[h0,hf,hn0,hp,h75]
  ·cases hf:l.flag<;>by_cases hn0:l.n=0<;>cases ar<;>simp[h0,hf,hn0,h75]
  ·cases hf:l.flag<;>by_cases hn0:1<=l.n<;>by_cases hp:l.parts=[]<;>cases ar<;>(try rw[hp]at h75)<;>simp[h0,hf,hn0,hp,h75]
  ·cases hf:l.flag<;>by_cases hn0:l.n=0<;>by_cases hp:(l.parts.length:Int)<1<;>cases ar<;>simp[h0,hf,hn0,hp,h75]<;>omega
  ·cases hf:l.flag<;>by_cases hn0:l.n=0<;>cases ab<;>cases ar<;>simp[h0,hf,hn0,h75,h74]
 rw[l.right_eq]
 by_cases hk:0<=l.kind/\l.kind<=9
 ·rw[key hk,PA l hk]
 ·have hf:l.isS=false:=by unfold aa.isS;simp[hk]
  have h0:¬l.kind=0:=by omega
  have h1:¬l.kind=1:=by omega
  have h2:¬l.kind=2:=by omega
  have h3:¬l.kind=3:=by omega
  have h4:¬l.kind=4:=by omega
  have h5:¬l.kind=5:=by omega
  have h6:¬l.kind=6:=by omega
  have h7:¬l.kind=7:=by omega
  have h8:¬l.kind=8:=by omega
  have h9:¬l.kind=9:=by omega
  rw[f_,hf]
  simp[h0,h1,h2,h3,h4,h5,h6,h7,h8,h9]
theorem y20(l:aa)(hl:l.Fits)(hs:l.all.length<=900000)(hd:l.depth<=900000):D2 (l,())=some (jW l,()):=by
 have h:=y45 l 1 0 0 false hl (by omega) (by omega) (by omega) (by omega)
 unfold D2
 simp only[h,Vi,Vk,Vr,Y1,Y2,Vj,Vn,Vl,Vm,Y6,Y3,Vs]
 have hlarge:=CW l
 have:(Mu (l.look 1 0 0 false)).large=l.large:=hlarge
 rw[this]
 unfold jW
 cases hg:l.large with
 |true=>simp
 |false=>
  simp only[Vi,Vk,Vr,Y1,Y2,Vj,Vn,Vl,Vm,Y6,Y3,Vs,y48 l hl (vT hg),y49 l hl,VX]
  by_cases hcl:l.cells>4096
  ·have e1:min far l.cells>4096:=by simp[far];omega
   simp[hcl,e1]
  ·have e1:¬(min far l.cells>4096):=by simp[far];omega
   cases hr:l.right<;>simp[hcl,e1]
theorem ST(l:aa)(hl:l.Fits)(qs:List aa)(hq:∀q∈qs,q∈l.all)(hn:qs.length<=9223372036854775807)(k:Nat):lM (qs,k,())=some (if(qs.drop k).any aa.big=true then .inl (3,())else .inr (qs,())):=by
 rw[lM]
 by_cases hlt:k<qs.length
 ·obtain⟨p,hp,hm,hd,g1,g2⟩:=dP hlt
  have hpf:=hl.mem (hq p hm)
  have hbe:=Mc p (hl p (hq p hm))
  rw[hd,XA,<-hbe]
  simp only[Vi,Vk,Vr,Y1,Y2,Vj,Vn,Vl,Vm,Y6,Y3,Vs,g1,g2,hlt,hp,y51,y52 p hpf.len]
  by_cases h1:(p.parts.length:Int)>12
  ·have hb:D1 p=true:=by unfold D1;simp[h1]
   simp only[h1,Vi,Vk,Vr,Y1,Y2,Vj,Vn,Vl,Vm,Y6,Y3,Vs,hb,V2]
  by_cases h2:p.n>w_ p.kind
  ·have hb:D1 p=true:=by unfold D1;simp[h2]
   simp only[h1,h2,Vi,Vk,Vr,Y1,Y2,Vj,Vn,Vl,Vm,Y6,Y3,Vs,hb,V2]
  by_cases h3:p.kind=9
  ·by_cases h4:jS p.parts>64
   ·have hb:D1 p=true:=by unfold D1;simp[h3,h4]
    simp only[h1,h2,h3,h4,Vi,Vk,Vr,Y1,Y2,Vj,Vn,Vl,Vm,Y6,Y3,Vs,hb,V2,Y7]
    simp only[h3]at h2
    simp[h2]
   ·have hb:D1 p=false:=by unfold D1;simp[h1,h2,h4]
    have ih:=ST l hl qs hq hn (k+1)
    simp only[h1,h2,h4,Vi,Vk,Vr,Y1,Y2,Vj,Vn,Vl,Vm,Y6,Y3,Vs,hb,VX,Y8,bq hlt hn]
    rw[Y5 h3]
    simp only[Vi,Vk,Vr,Y1,Y2,Vj,Vn,Vl,Vm,Y6,Y3,Vs,bq hlt hn]
    exact ih
  ·have hb:D1 p=false:=by unfold D1;simp[h1,h2,h3]
   simp only[h1,h2,h3,Vi,Vk,Vr,Y1,Y2,Vj,Vn,Vl,Vm,Y6,Y3,Vs,hb,VX,Y8,bq hlt hn]
   exact ST l hl qs hq hn (k+1)
 ·obtain⟨hd,g1⟩:=gO hlt
  simp only[Vi,Vk,Vr,Y1,Y2,Vj,Vn,Vl,Vm,Y6,Y3,Vs,hlt,hd,Yw]
termination_by qs.length-k
theorem TY(l:aa)(hl:l.Fits)(qs:List aa)(hq:∀q∈qs,q∈l.all)(hn:qs.length<=9223372036854775807)(k:Nat):iG (qs,k,())=some (if(qs.drop k).all aa.isS=true then .inr ()else .inl (1,())):=by
 rw[iG]
 by_cases hlt:k<qs.length
 ·obtain⟨p,hp,hm,hd,g1,g2⟩:=dP hlt
  have hpf:=hl.mem (hq p hm)
  rw[hd,WG]
  simp only[Vi,Vk,Vr,Y1,Y2,Vj,Vn,Vl,Vm,Y6,Y3,Vs,g1,g2,hlt,hp,y53 p hpf.len]
  cases hi:p.isS
  ·simp
  ·simp only[Vi,Vk,Vr,Y1,Y2,Vj,Vn,Vl,Vm,Y6,Y3,Vs,Vq,WA,bq hlt hn]
   exact TY l hl qs hq hn (k+1)
 ·obtain⟨hd,g1⟩:=gO hlt
  simp only[Vi,Vk,Vr,Y1,Y2,Vj,Vn,Vl,Vm,Y6,Y3,Vs,hlt,hd,List.all_nil]
termination_by qs.length-k
theorem y21(l:aa)(hl:l.Fits)(hs:l.all.length<=900000)(hd:l.depth<=900000):z_ (l,())=some (jW l,()):=by
 unfold z_
 have a:=ST l hl l.all (λq h=>h) (by omega) 0
 have b:=TY l hl l.all (λq h=>h) (by omega) 0
 simp only[WB,Wn,V6]at a b
 simp only[Vi,Vk,Vr,Y1,Y2,Vj,Vn,Vl,Vm,Y6,Y3,Vs,y46 l hl (by omega),y47 l hl (by omega),y50 l hl]
 by_cases h1:(l.all.length:Int)>60
 ·have:jW l=3:=by unfold jW aa.large;simp;omega
  simp[h1,this]
 by_cases h2:(l.depth:Int)>5
 ·have:jW l=3:=by unfold jW aa.large;simp;omega
  simp[h1,h2,this]
 by_cases h3:l.cells>4096
 ·have:jW l=3:=by unfold jW;simp[h3]
  have e1:min 100000 l.cells>4096:=by omega
  simp[h1,h2,e1,this]
 have e1:¬min 100000 l.cells>4096:=by omega
 have hval:jW l=if l.all.any aa.big=true then 3 else if l.right=true then 0 else 1:=by
  unfold jW aa.large
  rw[decide_eq_false (by omega),decide_eq_false (by omega),decide_eq_false (by omega)];simp
 simp only[h1,h2,e1,Vi,Vk,Vr,Y1,Y2,Vj,Vn,Vl,Vm,Y6,Y3,Vs,a,hval,Y8]
 cases hb:l.all.any aa.big
 ·simp only[Vi,Vk,Vr,Y1,Y2,Vj,Vn,Vl,Vm,Y6,Y3,Vs,b]
  have hr:l.right=l.all.all aa.isS:=rfl
  rw[hr]
  cases hi:l.all.all aa.isS<;>simp
 ·simp
end Go.Proofs.YtpelkenpapfadaaGreatDoor
end
