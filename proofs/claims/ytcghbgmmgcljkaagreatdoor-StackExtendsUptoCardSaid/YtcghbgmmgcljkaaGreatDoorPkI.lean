/-
  Texts of this claim, joined by a program of mine: what the theorem uses.
-/
import Derived.Test.YtcghbgmmgcljkaaGreatDoorPkH
open Bool renaming and_eq_true→Qk,false_eq_true→Qj,false_or→SW,not_false→R6,not_true→Q8,or_eq_false_iff→Ro,or_eq_true→QX,true_and→RU
open ByteArray renaming mk→Qc
open Int renaming le_refl→RS,natCast_zero→Q5,reduceLE→TH,reduceLT→TG,reduceToNat→Tf,toNat→Q1,toNat_natCast→Qs,toNat_of_nonneg→SJ
open Int.ofNat renaming inj→Ts
open List renaming all_cons→Rb,all_eq_true→Qq,any_cons→SS,any_eq_true→Rs,countP_le_length→Tl,drop→SP,drop_succ_cons→Tz,drop_zero→QV,getD_eq_getElem?_getD→RT,getElem?_append_right→Qx,getElem?_cons_succ→Sx,getElem?_cons_zero→Ri,getElem?_eq_getElem→Qi,getElem?_map→Qh,getElem_mem→Q7,length_append→QB,length_cons→QA,length_drop→QO,length_map→Qg,length_replicate→Ra,length_reverse→Sd,length_set→Q6,length_singleton→Rq,length_take→QQ,map→RM,map_append→QU,map_cons→Qp,map_drop→Q_,map_nil→QW,map_replicate→RZ,map_set→RQ,map_take→Q9,mem_append→Q0,mem_append_left→Rz,mem_cons→Qu,mem_cons_of_mem→Qm,mem_cons_self→Qo,mem_map→QD,mem_of_getElem?→Qn,mem_singleton→Q3,range→RC,replicate→QK,reverse_cons→S3,take→Sp,take_of_length_le→QP
open Nat renaming le_refl→QF,reduceEqDiff→S7,reduceLT→TC,zero_add→Qy
open Option renaming bind_eq_bind→Ql,bind_some→Qe,getD_some→Rk,isNone_none→Sg,isSome_some→St
open Option.some renaming injEq→Qd
open Sum renaming inl→Rx,inr→Sc
noncomputable section
set_option linter.unusedSimpArgs false
set_option linter.unusedVariables false
section
namespace Go.Proofs.YtcghbgmmgcljkaaGreatDoor
open IntKind (i64)
set_option maxRecDepth 20000
def i7:List aB->ByteArray->Nat->Int
 |[],_,_=> -1
 |f::r,s,k=>if f.name0=s then(k:Int)else i7 r s (k+1)
def cJ(l:List aB)(s:ByteArray):Int:=i7 l s 0
theorem qs:∀(l:List aB) (s:ByteArray) (k:Nat),i7 l s k= -1\/((k:Int)<=i7 l s k/\i7 l s k<k+l.length)
 |[],_,_=> .inl rfl
 |f::r,s,k=>by
  rw[i7]
  split
  ·right;simp;omega
  ·rcases qs r s (k+1)with h|h
   ·exact .inl h
   ·right;rw[QA];omega
theorem pA(l:List aB)(hl:l.length<=4294967296)(s:ByteArray):∀(j k:Nat),k+j=l.length->
 dF (l,(l.length:Int),(k:Int),s,())=if i7 (l.drop k) s k= -1 then some (.inr (s,()))else some (.inl (i7 (l.drop k) s k,s,()))
 |0,k,h=>by
  rw[dF,dI (by omega)]
  have:¬(k:Int)<(l.length:Int):=by omega
  simp[this,i7]
 |j+1,k,h=>by
  obtain⟨x,hx,hm,hd⟩:=cY (l:=l) (k:=k) (by omega)
  have h1:(k:Int)<(l.length:Int):=by omega
  have h2:(0:Int)<=(k:Int):=by omega
  have w:i64.wrap ((k:Int)+1)=((k+1:Nat):Int):=by rw[w64 (by omega) (by omega)];omega
  have ih:=pA l hl s j (k+1) (by omega)
  rw[dF,hd,i7]
  simp only[h1,h2,TQ,TK,Qs,hx,Ql,Qe,nN,iT,TM,w]
  by_cases e:x.name0=s
  ·have:¬(k:Int)= -1:=by omega
   simp[e,this]
  ·simp only[e,TL]
   exact ih
theorem mh(l:List aB)(hl:l.length<=4294967296)(s:ByteArray):I7 (l,s,())=some (cJ l s,()):=by
 have h:=pA l hl s _ 0 (Qy _)
 rw[Q5,QV]at h
 rw[I7,nM]
 unfold cJ
 by_cases e:i7 l s 0= -1
 ·rw[TP e]at h
  rw[h,e];rfl
 ·rw[TN e]at h
  rw[h];rfl
def rng(n a b:Int):Bool:=decide (a<=n/\n<=b)
theorem Bj(n a b:Int):CI (n,a,b,())=some (rng n a b,()):=by
 rw[CI];unfold rng
 by_cases h:a<=n<;>simp[h]
def zT(t:aG):Bool:=Mp.ieq t.base 0&&(Mp.ieq t.bits 0&&(Mp.seq t.name0 (Qc #[])&&(Mp.beq t.opt false&&Mp.beq t.err false)))
def noN(s:ByteArray):Bool:=decide (s=Qc #[])
noncomputable def dc(l:List aB)(f:aB)(c:aM):Bool:=
 if c.op=0 then rng c.a (-2147483648) 2147483648&&c.b==0&&(gR c.type0&& !c.type0.opt&& !c.type0.err)&&noN c.name0
 else if c.op=2\/c.op=3 then rng c.a 0 (i64.wrap (f.places-1))&&c.b==0&&zT c.type0&&noN c.name0
 else if c.op=5 then rng c.a 5 17&&c.b==0&&dZ c.type0&&noN c.name0
 else if c.op=6 then rng c.a 18 23&&c.b==0&&zT c.type0&&noN c.name0
 else if c.op=7\/c.op=9\/c.op=10 then c.a==0&&c.b==0&&dZ c.type0&&noN c.name0
 else if c.op=12\/c.op=13\/c.op=14\/c.op=15 then rng c.a 0 (i64.wrap ((f.code.length:Int) -1))&&c.b==0&&zT c.type0&&noN c.name0
 else if c.op=16 then c.a==0&&zT c.type0&&decide (0<=cJ l c.name0)&&(match l[(cJ l c.name0).toNat]? with|some g=>c.b==g.params|none=>false)
 else if c.op=18 then c.a==0&&c.b==0&&zT c.type0&&ny c.name0
 else if c.op=19 then rng c.a 1 5&&c.b==0&&zT c.type0&&noN c.name0
 else if c.op=1\/c.op=4\/c.op=8\/c.op=11\/c.op=17 then c.a==0&&c.b==0&&zT c.type0&&noN c.name0
 else false
end Go.Proofs.YtcghbgmmgcljkaaGreatDoor
end
section
namespace Go.Proofs.YtcghbgmmgcljkaaGreatDoor
set_option maxRecDepth 20000
theorem L4(t:aG):(gR t&& !t.opt&& !t.err)=if dZ t=true then true else if(dR t&& !t.opt&& !t.err)=true then decide (t.base<=1)else false:=by
 unfold dZ gR
 cases h:dR t<;>cases ho:t.opt<;>cases he:t.err<;>by_cases h2:t.base=2<;>by_cases h3:t.base=3<;>simp[h2,h3]<;>omega
set_option maxHeartbeats 4000000 in
theorem Ew(l:List aB)(hl:l.length<=4294967296)(f:aB)(c:aM):jS (c,l,f,())=some (!(dc l f c),l,f,()):=by
 rw[jS,Ma]
 simp only[Bj,Ql,Qe,iT]
 have ez:(Mp.ieq c.type0.base 0&&(Mp.ieq c.type0.bits 0&&(Mp.seq c.type0.name0 (Qc #[])&&(Mp.beq c.type0.opt false&&Mp.beq c.type0.err false))))=zT c.type0:=rfl
 have eb:∀b:Bool,Mp.beq b true=b:=λb=>by cases b<;>rfl
 simp only[ez,eb,Is,sN,qV,Qe]
 by_cases hr:0<=c.op/\c.op<=19
 ·have hk:c.op=0\/c.op=1\/c.op=2\/c.op=3\/c.op=4\/c.op=5\/c.op=6\/c.op=7\/c.op=8\/c.op=9\/c.op=10\/c.op=11\/c.op=12\/c.op=13\/c.op=14\/c.op=15\/c.op=17\/c.op=18\/c.op=19\/c.op=16:=by omega
  rcases hk with h|h|h|h|h|h|h|h|h|h|h|h|h|h|h|h|h|h|h|h
  rotate_left 19
  ·have hf:cJ l c.name0<0\/∃g,l[(cJ l c.name0).toNat]?=some g/\0<=cJ l c.name0:=by
    rcases qs l c.name0 0 with hq|hq
    ·left;unfold cJ;omega
    ·right
     refine⟨l[(cJ l c.name0).toNat]'(by unfold cJ;omega),Qi _,by unfold cJ;omega⟩
   simp[h,dc,mh l hl]
   rcases hf with hf|⟨g,hg,hf⟩
   ·have hf':¬0<=cJ l c.name0:=by omega
    simp[hf']
   ·by_cases ha:c.a=0<;>cases hz:zT c.type0<;>simp[ha,hf,hg]
  ·rw[dc,TP h,L4]
   by_cases hb:c.b=0<;>by_cases hn:c.name0=Qc #[]<;>cases hi:dZ c.type0<;>cases hp:(dR c.type0&& !c.type0.opt&& !c.type0.err)<;>simp[h,hb,hn,noN,-Bool.not_and,-Qk]
   all_goals try simp[Bool.and_assoc]
  all_goals simp[h,dc,noN]
  all_goals by_cases ha:c.a=0<;>by_cases hb:c.b=0<;>cases hz:zT c.type0<;>by_cases hn:c.name0=Qc #[]<;>simp[ha,hb,hn]
  all_goals try simp[Bool.or_assoc]
 ·have hc:dc l f c=false:=by
   unfold dc
   rw[TN (by omega),TN (by omega),TN (by omega),TN (by omega),TN (by omega),TN (by omega),TN (by omega),TN (by omega),TN (by omega),TN (by omega)]
  rw[hc]
  have hk:c.op≠0/\c.op≠1/\c.op≠2/\c.op≠3/\c.op≠4/\c.op≠5/\c.op≠6/\c.op≠7/\c.op≠8/\c.op≠9/\c.op≠10/\c.op≠11/\c.op≠12/\c.op≠13/\c.op≠14/\c.op≠15/\c.op≠17/\c.op≠18/\c.op≠19/\c.op≠16:=by omega
  simp[hk]
end Go.Proofs.YtcghbgmmgcljkaaGreatDoor
end
section
namespace Go.Proofs.YtcghbgmmgcljkaaGreatDoor
open IntKind (i64)
set_option maxRecDepth 20000
def fi(a:Int)(l:List aB):Int:=l.foldl (λa f=>i64.wrap (a+(f.code.length:Int))) a
def nx(l:List aB):Bool:=l.any (λf=>decide (f.places>200))
theorem nZ(l:List aB)(hl:l.length<=4294967296):∀(j k:Nat) (a:Int),k+j=l.length->kR (a,l,(l.length:Int),(k:Int),())=some (fi a (l.drop k),())
 |0,k,a,h=>by
  rw[kR,dI (by omega)]
  have:¬(k:Int)<(l.length:Int):=by omega
  simp[this,fi]
 |j+1,k,a,h=>by
  obtain⟨x,hx,hm,hd⟩:=cY (l:=l) (k:=k) (by omega)
  have h1:(k:Int)<(l.length:Int):=by omega
  have h2:(0:Int)<=(k:Int):=by omega
  have w:i64.wrap ((k:Int)+1)=((k+1:Nat):Int):=by rw[w64 (by omega) (by omega)];omega
  rw[kR,hd]
  simp only[h1,h2,TQ,TK,Qs,hx,Ql,Qe,w]
  exact nZ l hl j (k+1) _ (by omega)
theorem Be(l:List aB)(hl:l.length<=4294967296):Lo (l,())=some (fi 0 l,()):=by
 have h:=nZ l hl _ 0 0 (Qy _)
 rw[Q5,QV]at h
 rw[Lo,h];rfl
theorem sK(l:List aB)(hl:l.length<=4294967296):∀(j k:Nat),k+j=l.length->(nx (l.drop k)=true->∃i:Nat,ed (l,(l.length:Int),(k:Int),())=some (.inl ((i:Int),())))/\(nx (l.drop k)=false->ed (l,(l.length:Int),(k:Int),())=some (.inr ()))
 |0,k,h=>by
  rw[ed,dI (by omega)]
  have:¬(k:Int)<(l.length:Int):=by omega
  simp[this,nx]
 |j+1,k,h=>by
  obtain⟨x,hx,hm,hd⟩:=cY (l:=l) (k:=k) (by omega)
  have h1:(k:Int)<(l.length:Int):=by omega
  have h2:(0:Int)<=(k:Int):=by omega
  have w:i64.wrap ((k:Int)+1)=((k+1:Nat):Int):=by rw[w64 (by omega) (by omega)];omega
  have ih:=sK l hl j (k+1) (by omega)
  rw[ed,hd]
  simp only[h1,h2,TQ,TK,Qs,hx,Ql,Qe,L_,w]
  unfold nx at ih⊢
  rw[SS]
  by_cases e:x.places>200
  ·simp only[e,TQ,Bool.true_or,TK]
   exact⟨λ_=>⟨k,rfl⟩,λh=>by cases h⟩
  ·simp only[e,TR,SW,Qj,TL]
   exact ih
theorem Ip(l:List aB)(hl:l.length<=4294967296):qO (l,())=some (nx l,()):=by
 obtain⟨h1,h2⟩:=sK l hl _ 0 (Qy _)
 rw[Q5,QV]at h1 h2
 rw[qO,uo]
 cases e:nx l
 ·rw[h2 e];rfl
 ·obtain⟨i,h⟩:=h1 e
  have:(0:Int)<=(i:Int):=by omega
  rw[h];simp[this]
theorem nY(l:List aB)(hl:l.length<=4294967296)(f:aB)(cs:List aM)(hf:cs.length<=4294967296):∀(j k:Nat),k+j=cs.length->
 ((cs.drop k).all (dc l f)=true->cV (cs,(cs.length:Int),(k:Int),l,f,())=some (.inr (l,f,())))/\((cs.drop k).all (dc l f)=false->∃i:Nat,cV (cs,(cs.length:Int),(k:Int),l,f,())=some (.inl ((i:Int),l,f,())))
 |0,k,h=>by
  rw[cV,dI (by omega)]
  have:¬(k:Int)<(cs.length:Int):=by omega
  simp[this]
 |j+1,k,h=>by
  obtain⟨x,hx,hm,hd⟩:=cY (l:=cs) (k:=k) (by omega)
  have h1:(k:Int)<(cs.length:Int):=by omega
  have h2:(0:Int)<=(k:Int):=by omega
  have w:i64.wrap ((k:Int)+1)=((k+1:Nat):Int):=by rw[w64 (by omega) (by omega)];omega
  have ih:=nY l hl f cs hf j (k+1) (by omega)
  rw[cV,hd,Rb]
  simp only[h1,h2,TQ,TK,Qs,hx,Ql,Qe,Ew l hl,w]
  cases dc l f x
  ·simp only[R6,TK,Bool.false_and]
   exact⟨(λh=>by cases h),λ_=>⟨k,rfl⟩⟩
  ·simp only[Q8,Qj,TL,RU]
   exact ih
theorem Bd(l:List aB)(hl:l.length<=4294967296)(f:aB)(cs:List aM)(hf:cs.length<=4294967296):jR (cs,l,f,())=some (!(cs.all (dc l f)),l,f,()):=by
 obtain⟨h1,h2⟩:=nY l hl f cs hf _ 0 (Qy _)
 rw[Q5,QV]at h1 h2
 rw[jR,kv]
 cases e:cs.all (dc l f)
 ·obtain⟨i,h⟩:=h2 e
  have:(0:Int)<=(i:Int):=by omega
  rw[h];simp[this]
 ·rw[h1 e];rfl
noncomputable def jA(l:List aB)(f:aB):Bool:=
 ny f.name0&&rng f.params 0 f.places&&gR f.type0&&decide (1<=f.code.length)&&f.code.all (dc l f)
theorem Ey(l:List aB)(hl:l.length<=4294967296)(f:aB)(hf:f.code.length<=4294967296):Lp (l,f,())=some (jA l f,()):=by
 rw[Lp]
 simp only[qV,Bj,sP,Ql,Qe]
 unfold jA gR
 cases ny f.name0
 ·simp
 cases rng f.params 0 f.places
 ·simp
 by_cases h0:f.code.length=0
 ·have:((f.code.length:Int)==0)=true:=by simpa using h0
  simp[h0]
 ·have h1:((f.code.length:Int)==0)=false:=by simpa using h0
  have h2:1<=f.code.length:=by omega
  cases dR f.type0
  ·simp[h1]
  ·by_cases hb:f.type0.base>=4
   ·have:¬f.type0.base<=3:=by omega
    simp[h1,hb,this]
   ·have:f.type0.base<=3:=by omega
    simp[h1,hb,this,h2,Bd l hl f f.code hf]
end Go.Proofs.YtcghbgmmgcljkaaGreatDoor
end
section
namespace Go.Proofs.YtcghbgmmgcljkaaGreatDoor
set_option maxRecDepth 20000
noncomputable def fS(l:List aB):Nat->List aB->Bool
 |_,[]=>true
 |k,f::r=>jA l f&&decide (cJ l f.name0=(k:Int))&&fS l (k+1) r
theorem n4(l:List aB)(hl:l.length<=4294967296)(hc:∀f∈l,f.code.length<=4294967296):∀(j k:Nat),k+j=l.length->
 kQ (l,l,(l.length:Int),(k:Int),())=if fS l k (l.drop k)=true then some (.inr ())else some (.inl (1,()))
 |0,k,h=>by
  rw[kQ,dI (by omega)]
  have:¬(k:Int)<(l.length:Int):=by omega
  simp[this,fS]
 |j+1,k,h=>by
  obtain⟨x,hx,hm,hd⟩:=cY (l:=l) (k:=k) (by omega)
  have h1:(k:Int)<(l.length:Int):=by omega
  have h2:(0:Int)<=(k:Int):=by omega
  have w:IntKind.i64.wrap ((k:Int)+1)=((k+1:Nat):Int):=by rw[w64 (by omega) (by omega)];omega
  have ih:=n4 l hl hc j (k+1) (by omega)
  rw[kQ,hd,fS]
  simp only[h1,h2,TQ,TK,Qs,hx,Ql,Qe,Ey l hl x (hc x hm),mh l hl]
  cases jA l x
  ·simp
  ·by_cases e:cJ l x.name0=(k:Int)
   ·have:(cJ l x.name0 !=(k:Int))=false:=by simpa using e
    simp only[e,Q8,Qj,TL,Qe,TQ,RU,bne_self_eq_false]
    rw[w]
    exact ih
   ·have:(cJ l x.name0 !=(k:Int))=true:=by simpa using e
    simp[this,e]
noncomputable def dG(l:List aB):Int:=
 if l.length>48\/fi 0 l>2000\/nx l=true then 3 else if fS l 0 l=true then 0 else 1
theorem n7(l:List aB)(hl:l.length<=4294967296)(hc:∀f∈l,f.code.length<=4294967296):I6 (l,())=some (dG l,()):=by
 have c:=n4 l hl hc _ 0 (Qy _)
 rw[Q5,QV]at c
 rw[I6]
 unfold dG
 by_cases h1:l.length>48
 ·have:(l.length:Int)>48:=by omega
  simp[h1,this]
 ·have e1:¬(l.length:Int)>48:=by omega
  simp only[e1,h1,TR,Qj,TL,Be l hl,Ql,Qe,false_or]
  by_cases h2:fi 0 l>2000
  ·simp[h2]
  ·simp only[h2,TR,Qj,TL,false_or,Ip l hl,Qe,c]
   cases nx l
   ·simp only[Qj,TL]
    cases fS l 0 l<;>rfl
   ·rfl
end Go.Proofs.YtcghbgmmgcljkaaGreatDoor
end
section
namespace Go.Proofs.YtcghbgmmgcljkaaGreatDoor
open IntKind (i64)
set_option maxRecDepth 20000
def bE(c:aM):Int:=
 if c.op=0\/c.op=1\/c.op=2\/c.op=18 then 0 else if c.op=3\/c.op=4\/c.op=15\/c.op=17 then 1 else if c.op=5\/c.op=6 then 2 else if c.op=16 then c.b else if c.op=14\/c.op=19 then 0 else 1
def bY(c:aM):Int:=
 if c.op=3\/c.op=4\/c.op=15\/c.op=17\/c.op=14\/c.op=19 then 0 else 1
def gU(c:aM):Bool:= !(decide (c.op=14)||decide (c.op=17)||decide (c.op=19))
def dL(c:aM):Bool:=decide (c.op=12)||decide (c.op=13)||decide (c.op=14)||decide (c.op=15)
theorem uT(c:aM):Lr (c,())=some (mu.mk (bE c) (bY c) (gU c),()):=by
 rw[Lr]
 unfold bE bY gU
 by_cases h0:c.op=0
 ·simp[h0]
 by_cases h1:c.op=1
 ·simp[h1]
 by_cases h2:c.op=2
 ·simp[h2]
 by_cases h18:c.op=18
 ·simp[h18]
 by_cases h3:c.op=3
 ·simp[h3]
 by_cases h4:c.op=4
 ·simp[h4]
 by_cases h15:c.op=15
 ·simp[h15]
 by_cases h17:c.op=17
 ·simp[h17]
 by_cases h5:c.op=5
 ·simp[h5]
 by_cases h6:c.op=6
 ·simp[h6]
 by_cases h16:c.op=16
 ·simp[h16]
 by_cases h14:c.op=14
 ·simp[h14]
 by_cases h19:c.op=19
 ·simp[h19]
 simp[h0,h1,h2,h18,h3,h4,h15,h17,h5,h6,h16,h14,h19]
theorem qw(c:aM):Ls (c.op,())=some (dL c,()):=by
 rw[Ls]
 unfold dL
 by_cases h12:c.op=12
 ·simp[h12]
 by_cases h13:c.op=13
 ·simp[h13]
 by_cases h14:c.op=14
 ·simp[h14]
 by_cases h15:c.op=15
 ·simp[h15]
 simp[h12,h13,h14,h15]
def cu(c:aM)(h:Int):Int:=h-bE c+bY c
def okS(c:aM)(h:Int):Prop:=bE c<=h/\h<=64
instance (c:aM) (h:Int):Decidable (okS c h):=by unfold okS;infer_instance
def eo(at0:Int)(c:aM)(h:Int):List (Int×Int):=
 if c.op=14 then[(c.a,cu c h)]
 else if c.op=17\/c.op=19 then[]
 else if c.op=15\/c.op=13 then[(at0+1,cu c h),(c.a,cu c h)]
 else if c.op=12 then[(at0+1,h),(c.a,h-1)]
 else[(at0+1,cu c h)]
theorem r9(c:aM):0<=bY c/\bY c<=1:=by unfold bY;split<;>omega
end Go.Proofs.YtcghbgmmgcljkaaGreatDoor
end
section
namespace Go.Proofs.YtcghbgmmgcljkaaGreatDoor
set_option maxRecDepth 20000
section
variable {κ ν:Type} {eq:κ->κ->Bool} (he:∀a b,eq a b=true↔a=b)
include he
variable [DecidableEq κ]
theorem vU(s x:κ)(y:ν):∀es:List (κ×ν),Mp.get eq s (Mp.put eq x y es)=if s=x then some y else Mp.get eq s es
 |[]=>by
  simp only[Mp.put,Mp.get,he]
 |p::r=>by
  simp only[Mp.put,he]
  by_cases h:x=p.1
  ·rw[TP h]
   simp only[Mp.get,he]
   by_cases h2:s=x
   ·rw[TP h2,TP h2]
   ·rw[TN h2,TN h2,TN (by rw[<-h];exact h2)]
  ·rw[TN h]
   simp only[Mp.get,he]
   by_cases h2:s=p.1
   ·rw[TP h2,TP h2,TN (by rw[h2];exactλe=>h e.symm)]
   ·rw[TN h2,TN h2]
    exact vU s x y r
theorem vT(lt:κ->κ->Bool)(s x:κ)(y:ν):∀es:List (κ×ν),es.any (λp=>eq x p.1)=false->Mp.get eq s (Mp.ins lt x y es)=if s=x then some y else Mp.get eq s es
 |[],_=>by simp only[Mp.ins,Mp.get,he]
 |p::r,h=>by
  rw[SS,Ro]at h
  have hx:¬x=p.1:=λe=>by have:=(he _ _).2 e;rw[h.1]at this;cases this
  rw[Mp.ins]
  split
  ·simp only[Mp.get,he]
  ·simp only[Mp.get,he]
   rw[vT lt s x y r h.2]
   by_cases h2:s=p.1
   ·rw[TP h2,TP h2,TN (by rw[h2];exactλe=>hx e.symm)]
   ·rw[TN h2,TN h2]
theorem mb(lt:κ->κ->Bool)(s x:κ)(y:ν)(es:List (κ×ν)):Mp.get eq s (Mp.set eq lt x y es)=if s=x then some y else Mp.get eq s es:=by
 unfold Mp.set
 split
 ·exact vU he s x y es
 ·rename_i h
  exact vT he lt s x y es (by cases hq:es.any (λp=>eq x p.1)with|true=>exact(h hq).elim|false=>rfl)
end
theorem vx{α:Type}{p q:α->Bool}:∀{l:List α},(∀x,p x=true->q x=true)->(∃x∈l,q x=true/\p x=false)->l.countP p<l.countP q
 |[],_,h=>by obtain⟨x,h,_⟩:=h;cases h
 |a::r,hpq,h=>by
  have hle:r.countP p<=r.countP q:=List.countP_mono_left λx _=>hpq x
  rw[List.countP_cons,List.countP_cons]
  obtain⟨x,hx,h1,h2⟩:=h
  rw[Qu]at hx
  rcases hx with hx|hx
  ·subst hx;rw[h1,h2];simp;omega
  ·have ih:=vx hpq ⟨x,hx,h1,h2⟩
   cases hp:p a
   ·simp;omega
   ·rw[hpq a hp];simp;omega
def box(n:Nat):List (Nat×Nat):=(RC n).flatMap λa=>(RC 66).map λh=>(a,h)
theorem Hh{n a h:Nat}(ha:a<n)(hh:h<66):(a,h)∈box n:=by
 unfold box
 rw[List.mem_flatMap]
 exact⟨a,List.mem_range.mpr ha,QD.mpr ⟨h,List.mem_range.mpr hh,rfl⟩⟩
inductive Reach (f:aB):Nat->Int->Prop
 |start:Reach f 0 0
 |step {a:Nat} {h:Int} {c:aM} {b:Nat} {k:Int}:Reach f a h->f.code[a]?=some c->okS c h->((b:Int),k)∈eo (a:Int) c h->b<f.code.length->Reach f b k
def gV(f:aB):Prop:=
 ∃a h c,Reach f a h/\f.code[a]?=some c/\(¬okS c h\/(okS c h/\∃k,((f.code.length:Int),k)∈eo (a:Int) c h)\/∃h',Reach f a h'/\h'≠h)
theorem jX{f:aB}(hf:1<=f.code.length){a:Nat}{h:Int}(r:Reach f a h):a<f.code.length:=by
 cases r with
 |start=>omega
 |step _ _ _ _ hb=>exact hb
theorem EV{l:List aB}{f:aB}{c:aM}(hl:∀g∈l,0<=g.params)(hc:dc l f c=true):0<=bE c:=by
 unfold bE
 by_cases h16:c.op=16
 ·unfold dc at hc
  simp[h16]at hc
  cases hg:l[(cJ l c.name0).toNat]? with
  |none=>rw[hg]at hc;simp at hc
  |some g=>
   rw[hg]at hc
   have hb:c.b=g.params:=by simpa using hc.2
   have:=hl g (Qn hg)
   simp[h16];omega
 ·split
  ·omega
  ·split
   ·omega
   ·split
    ·omega
    ·split<;>omega
theorem u_{c:aM}{at0 h b k:Int}(h0:0<=bE c)(hk:okS c h)(hw:(b,k)∈eo at0 c h):0<=k/\k<=65:=by
 have lv:=r9 c
 obtain⟨h1,h2⟩:=hk
 have hn:0<=cu c h/\cu c h<=65:=by unfold cu;omega
 unfold eo at hw
 by_cases h14:c.op=14
 ·simp[h14]at hw;omega
 by_cases h17:c.op=17\/c.op=19
 ·simp[h14,h17]at hw
 by_cases h15:c.op=15\/c.op=13
 ·simp[h14,h17,h15]at hw
  rcases hw with hw|hw<;>omega
 by_cases h12:c.op=12
 ·have:bE c=1:=by unfold bE;simp[h12]
  simp[h12]at hw
  rcases hw with hw|hw<;>omega
 ·simp[h14,h17,h15,h12]at hw;omega
end Go.Proofs.YtcghbgmmgcljkaaGreatDoor
end
section
namespace Go.Proofs.YtcghbgmmgcljkaaGreatDoor
set_option maxRecDepth 20000
abbrev peq(x y:aP):Bool:=Mp.ieq x.at0 y.at0&&Mp.ieq x.height y.height
theorem nt(a b:Int):Mp.ieq a b=true↔a=b:=by unfold Mp.ieq;simp
theorem Bf(a b:aP):peq a b=true↔a=b:=by
 obtain⟨a1,a2⟩:=a
 obtain⟨b1,b2⟩:=b
 show(Mp.ieq a1 b1&&Mp.ieq a2 b2)=true↔_
 rw[Qk,nt,nt,aP.mk.injEq]
instance:DecidableEq aP:=λa b=>decidable_of_iff (peq a b=true) (Bf a b)
def has(m:List (aP×Bool))(p:aP):Bool:=(Mp.get peq p m).getD false
def Iu(m:List (aP×Bool))(p:aP):List (aP×Bool):=Mp.set peq (λ_ _=>false) p true m
theorem nk(m:List (aP×Bool))(p q:aP):has (Iu m p) q=(decide (q=p)||has m q):=by
 unfold has Iu
 rw[mb Bf]
 by_cases h:q=p<;>simp[h]
def Gx(n:Nat):List aP:=(box n).map λx=>aP.mk (x.1:Int) (x.2:Int)
theorem wd{n a:Nat}{h:Int}(ha:a<n)(h0:0<=h)(h1:h<=65):aP.mk (a:Int) h∈Gx n:=by
 unfold Gx
 rw[QD]
 exact⟨(a,h.toNat),Hh ha (by omega),by show aP.mk (a:Int) (h.toNat:Int)=_;rw[SJ h0]⟩
def ja(n:Nat)(m:List (aP×Bool)):Nat:=(Gx n).countP λp=> !has m p
theorem Di{n:Nat}{m:List (aP×Bool)}{p:aP}(hp:p∈Gx n)(hm:has m p=false):ja n (Iu m p)<ja n m:=by
 unfold ja
 refine vx ?_ ⟨p,hp,by rw[hm];rfl,by rw[nk];simp⟩
 intro x hx
 rw[nk]at hx
 cases h:has m x
 ·rfl
 ·rw[h]at hx;simp at hx
def j9(p:aP)(m:List (aP×Bool))(q:List aP):List (aP×Bool)×List aP:=if has m p=true then(m,q)else(Iu m p,q++[p])
theorem FZ(p:aP)(m:List (aP×Bool))(q:List aP)(hq:q.length<4294967296):fp (p,m,q,())=some ((j9 p m q).1,(j9 p m q).2,()):=by
 rw[fp]
 unfold j9
 show(if(!(has m p))=true then _ else _)=_
 cases h:has m p
 ·simp only[R6,TK,Qj,TL,Rq]
  rw[TP (by omega)];rfl
 ·rfl
theorem gX(p:aP)(m:List (aP×Bool))(q:List aP)(x:aP):has (j9 p m q).1 x=(decide (x=p)||has m x):=by
 unfold j9
 by_cases h:has m p=true
 ·rw[TP h]
  by_cases e:x=p
  ·rw[e,h];simp
  ·simp[e]
 ·rw[TN h];exact nk m p x
theorem yO(p:aP)(m:List (aP×Bool))(q:List aP)(x:aP)(hx:has (j9 p m q).1 x=true):has m x=true\/x∈(j9 p m q).2:=by
 unfold j9 at *
 by_cases h:has m p=true
 ·rw[TP h]at hx;exact .inl hx
 ·rw[TN h]at hx⊢
  rw[nk]at hx
  by_cases e:x=p
  ·right;simp[e]
  ·left;simpa[e]using hx
theorem tF(p:aP)(m:List (aP×Bool))(q:List aP)(x:aP)(hx:x∈q):x∈(j9 p m q).2:=by
 unfold j9
 split
 ·exact hx
 ·exact Rz _ hx
theorem tE(p:aP)(m:List (aP×Bool))(q:List aP)(x:aP)(hx:x∈(j9 p m q).2):x∈q\/x=p:=by
 unfold j9 at hx
 split at hx
 ·exact .inl hx
 ·rw[Q0,Q3]at hx;exact hx
theorem vk{n:Nat}(p:aP)(m:List (aP×Bool))(q:List aP)(hp:p∈Gx n):
 2 *ja n (j9 p m q).1+(j9 p m q).2.length<=2 *ja n m+q.length/\ja n (j9 p m q).1+(j9 p m q).2.length<=ja n m+q.length:=by
 unfold j9
 cases h:has m p
 ·have:=Di hp h
  simp only[Qj,TL,QB,Rq]
  omega
 ·simp
def Gt(a w:Int):Int:=if w<0\/a<w then a else w
theorem uj(a w:Int):gl (a,w,())=some (Gt a w,()):=by
 rw[gl];unfold Gt
 by_cases h1:w<0
 ·simp[h1]
 ·by_cases h2:a<w<;>simp[h1,h2]
theorem ku{a w:Int}(ha:0<=a):0<=Gt a w:=by unfold Gt;split<;>omega
end Go.Proofs.YtcghbgmmgcljkaaGreatDoor
end
section
namespace Go.Proofs.YtcghbgmmgcljkaaGreatDoor
open IntKind (i64)
set_option maxRecDepth 20000
def w1S(hm:List (Int×Int))(w:Int)(p:aP):Int:=
 match Mp.get Mp.ieq p.at0 hm with
 |some h=>if h=p.height then w else Gt p.at0 w
 |none=>w
def hmS(hm:List (Int×Int))(p:aP):List (Int×Int):=Mp.set Mp.ieq Mp.ilt p.at0 p.height hm
def c7(c:aM)(p:aP)(m:List (aP×Bool))(q:List aP):List (aP×Bool)×List aP:=
 if dL c=true then j9 (aP.mk c.a (if c.op=12 then cu c p.height-1 else cu c p.height)) m q else(m,q)
theorem G8(p:aP)(m:List (aP×Bool))(q:List aP):(j9 p m q).2.length<=q.length+1:=by
 unfold j9
 split
 ·show q.length<=q.length+1;omega
 ·simp
theorem As(f:aB)(hm:List (Int×Int))(w:Int)(m:List (aP×Bool))(p:aP)(q:List aP){a:Nat}{c:aM}(ha:p.at0=(a:Int))(hc:f.code[a]?=some c)
 (hp0:0<=p.height)(hp1:p.height<=65)(ht0:0<=bE c)(hq:q.length<4294967000)(hl:f.code.length<=4294967296)(hal:a<f.code.length):
 eN (f,hm,w,m,p::q,())=
  if okS c p.height then
   let j:=c7 c p m q
   if gU c=true then
    if a+1=f.code.length then eN (f,hmS hm p,Gt (a:Int) (w1S hm w p),j.1,j.2,())
    else
     let k:=j9 (aP.mk ((a+1:Nat):Int) (cu c p.height)) j.1 j.2
     eN (f,hmS hm p,w1S hm w p,k.1,k.2,())
   else eN (f,hmS hm p,w1S hm w p,j.1,j.2,())
  else eN (f,hmS hm p,Gt (a:Int) (w1S hm w p),m,q,()):=by
 have lv:=r9 c
 have h0:(0:Int)<=(a:Int):=by omega
 have l1:((q.length+1:Nat):Int)>0:=by omega
 have l2:(1:Int)<=((q.length+1:Nat):Int):=by omega
 conv=>lhs;rw[eN]
 simp only[QA,l1,l2,TQ,TK,RS,true_and,Int.toNat_zero,Ri,Ql,Qe,ha,Tz,QV,show Q1 1=1 from rfl]
 have hw1:w1S hm w p=match Mp.get Mp.ieq (a:Int) hm with|some h=>if h=p.height then w else Gt (a:Int) w|none=>w:=by unfold w1S;rw[ha]
 have hhm:hmS hm p=Mp.set Mp.ieq Mp.ilt (a:Int) p.height hm:=by unfold hmS;rw[ha]
 rw[hw1,hhm]
 have en:i64.wrap (i64.wrap (p.height-bE c)+bY c)=cu c p.height\/¬okS c p.height:=by
  by_cases hk:okS c p.height
  ·left
   obtain⟨k1,k2⟩:=hk
   rw[w64 (x:=p.height-bE c) (by omega) (by omega),w64 (by omega) (by omega)];rfl
  ·exact .inr hk
 have ea:i64.wrap ((a:Int)+1)=((a+1:Nat):Int):=by rw[w64 (by omega) (by omega)];omega
 have e12:cu c p.height-1=i64.wrap (cu c p.height-1)\/¬okS c p.height:=by
  by_cases hk:okS c p.height
  ·left
   obtain⟨k1,k2⟩:=hk
   unfold cu
   rw[w64 (by omega) (by omega)]
  ·exact .inr hk
 have hadd:∀(x:aP),fp (x,m,q,())=some ((j9 x m q).1,(j9 x m q).2,()):=λx=>FZ x m q (by omega)
 have hq2:(c7 c p m q).2.length<=q.length+1:=by
  unfold c7
  split
  ·exact G8 _ m q
  ·show q.length<=q.length+1;omega
 have hadd2:∀(x:aP),fp (x,(c7 c p m q).1,(c7 c p m q).2,())=some ((j9 x (c7 c p m q).1 (c7 c p m q).2).1,(j9 x (c7 c p m q).1 (c7 c p m q).2).2,()):=λx=>FZ x _ _ (by omega)
 have hle:(((a+1:Nat):Int)==(f.code.length:Int))=decide (a+1=f.code.length):=by
  by_cases e:a+1=f.code.length
  ·simp[e]
  ·simp[e];omega
 cases hg:Mp.get Mp.ieq (a:Int) hm with
 |none=>
  simp only[Option.isSome_none,Qj,TL,Qe,ha,h0,TK,Qs,hc,uT,qw,uj]
  by_cases hk:okS c p.height
  ·have k1:¬p.height<bE c:=by have:=hk.1;omega
   have k2:¬p.height>64:=by have:=hk.2;omega
   have en':=en.resolve_right (λh=>h hk)
   have e12':=e12.resolve_right (λh=>h hk)
   simp only[k1,k2,TR,Qj,TL,Qe,TP hk,en',ha]
   cases hj:dL c
   ·have hjs:c7 c p m q=(m,q):=by unfold c7;rw[hj];rfl
    simp only[Qj,TL,Qe,hjs,ha,ea,hle]
    cases hgo:gU c
    ·rfl
    ·simp only[Q8,Qj,TL,TK,TM,Qe,hadd]
   ·have hjs:c7 c p m q=j9 (aP.mk c.a (if c.op=12 then cu c p.height-1 else cu c p.height)) m q:=by unfold c7;rw[TP hj]
    rw[hjs]at hadd2
    rw[hjs]
    by_cases h12:c.op=12
    ·have h12':(c.op==12)=true:=by simpa using h12
     rw[TP h12]at hadd2⊢
     simp only[h12',TK,Qe,hadd,ha,ea,hle,<-e12']
     cases hgo:gU c
     ·rfl
     ·simp only[Q8,Qj,TL,TK,TM,Qe,hadd2]
    ·have h12':(c.op==12)=false:=by simpa using h12
     rw[TN h12]at hadd2⊢
     simp only[h12',Qj,TL,TK,Qe,hadd,ha,ea,hle]
     cases hgo:gU c
     ·rfl
     ·simp only[Q8,Qj,TL,TK,TM,Qe,hadd2]
  ·rw[TN hk]
   by_cases k1:p.height<bE c
   ·simp only[k1,TQ,TK,Qe,ha]
   ·have k2:p.height>64:=by
     by_cases k2:p.height>64
     ·exact k2
     ·exact absurd ⟨by omega,by omega⟩ hk
    simp only[k1,k2,TQ,TR,Qj,TL,TK,Qe,ha]
 |some h=>
  by_cases heq:h=p.height
  ·have hb:(h !=p.height)=false:=by simpa using heq
   simp only[St,TK,Rk,Qe,hb,Qj,TL,ha,h0,Qs,hc,uT,qw,uj,TP heq]
   by_cases hk:okS c p.height
   ·have k1:¬p.height<bE c:=by have:=hk.1;omega
    have k2:¬p.height>64:=by have:=hk.2;omega
    have en':=en.resolve_right (λh=>h hk)
    have e12':=e12.resolve_right (λh=>h hk)
    simp only[k1,k2,TR,Qj,TL,Qe,TP hk,en',ha]
    cases hj:dL c
    ·have hjs:c7 c p m q=(m,q):=by unfold c7;rw[hj];rfl
     simp only[Qj,TL,Qe,hjs,ha,ea,hle]
     cases hgo:gU c
     ·rfl
     ·simp only[Q8,Qj,TL,TK,TM,Qe,hadd]
    ·have hjs:c7 c p m q=j9 (aP.mk c.a (if c.op=12 then cu c p.height-1 else cu c p.height)) m q:=by unfold c7;rw[TP hj]
     rw[hjs]at hadd2
     rw[hjs]
     by_cases h12:c.op=12
     ·have h12':(c.op==12)=true:=by simpa using h12
      rw[TP h12]at hadd2⊢
      simp only[h12',TK,Qe,hadd,ha,ea,hle,<-e12']
      cases hgo:gU c
      ·rfl
      ·simp only[Q8,Qj,TL,TK,TM,Qe,hadd2]
     ·have h12':(c.op==12)=false:=by simpa using h12
      rw[TN h12]at hadd2⊢
      simp only[h12',Qj,TL,TK,Qe,hadd,ha,ea,hle]
      cases hgo:gU c
      ·rfl
      ·simp only[Q8,Qj,TL,TK,TM,Qe,hadd2]
   ·rw[TN hk]
    by_cases k1:p.height<bE c
    ·simp only[k1,TQ,TK,Qe,ha]
    ·have k2:p.height>64:=by
      by_cases k2:p.height>64
      ·exact k2
      ·exact absurd ⟨by omega,by omega⟩ hk
     simp only[k1,k2,TQ,TR,Qj,TL,TK,Qe,ha]
  ·have hb:(h !=p.height)=true:=by simpa using heq
   simp only[St,TK,Rk,Qe,hb,ha,h0,Qs,hc,uT,qw,uj,TN heq]
   by_cases hk:okS c p.height
   ·have k1:¬p.height<bE c:=by have:=hk.1;omega
    have k2:¬p.height>64:=by have:=hk.2;omega
    have en':=en.resolve_right (λh=>h hk)
    have e12':=e12.resolve_right (λh=>h hk)
    simp only[k1,k2,TR,Qj,TL,Qe,TP hk,en',ha]
    cases hj:dL c
    ·have hjs:c7 c p m q=(m,q):=by unfold c7;rw[hj];rfl
     simp only[Qj,TL,Qe,hjs,ha,ea,hle]
     cases hgo:gU c
     ·rfl
     ·simp only[Q8,Qj,TL,TK,TM,Qe,hadd]
    ·have hjs:c7 c p m q=j9 (aP.mk c.a (if c.op=12 then cu c p.height-1 else cu c p.height)) m q:=by unfold c7;rw[TP hj]
     rw[hjs]at hadd2
     rw[hjs]
     by_cases h12:c.op=12
     ·have h12':(c.op==12)=true:=by simpa using h12
      rw[TP h12]at hadd2⊢
      simp only[h12',TK,Qe,hadd,ha,ea,hle,<-e12']
      cases hgo:gU c
      ·rfl
      ·simp only[Q8,Qj,TL,TK,TM,Qe,hadd2]
     ·have h12':(c.op==12)=false:=by simpa using h12
      rw[TN h12]at hadd2⊢
      simp only[h12',Qj,TL,TK,Qe,hadd,ha,ea,hle]
      cases hgo:gU c
      ·rfl
      ·simp only[Q8,Qj,TL,TK,TM,Qe,hadd2]
   ·rw[TN hk]
    by_cases k1:p.height<bE c
    ·simp only[k1,TQ,TK,Qe,ha]
    ·have k2:p.height>64:=by
      by_cases k2:p.height>64
      ·exact k2
      ·exact absurd ⟨by omega,by omega⟩ hk
     simp only[k1,k2,TQ,TR,Qj,TL,TK,Qe,ha]
end Go.Proofs.YtcghbgmmgcljkaaGreatDoor
end
section
namespace Go.Proofs.YtcghbgmmgcljkaaGreatDoor
set_option maxRecDepth 20000
def NU(f:aB)(hm:List (Int×Int))(m:List (aP×Bool))(x:aP):Prop:=
 ∃(a:Nat) (c:aM),x.at0=(a:Int)/\f.code[a]?=some c/\Mp.get Mp.ieq x.at0 hm=some x.height/\okS c x.height/\∀b k,(b,k)∈eo (a:Int) c x.height->b≠(f.code.length:Int)/\has m (aP.mk b k)=true
structure Inv (f:aB) (hm:List (Int×Int)) (w:Int) (m:List (aP×Bool)) (q:List aP):Prop where
 reach:∀x,has m x=true->∃a:Nat,x.at0=(a:Int)/\Reach f a x.height
 queue:∀x∈q,has m x=true
 done:w<0->∀x,has m x=true->x∈q\/NU f hm m x
 fault:0<=w->gV f
 hms:∀a h,Mp.get Mp.ieq a hm=some h->∃n:Nat,a=(n:Int)/\Reach f n h
 zero:has m (aP.mk 0 0)=true
theorem lX{f:aB}{hm:List (Int×Int)}{w:Int}{m:List (aP×Bool)}{p:aP}{q:List aP}(I:Inv f hm w m (p::q)){a:Nat}{c:aM}(ha:p.at0=(a:Int))(hc:f.code[a]?=some c)
 {w':Int}{m':List (aP×Bool)}{q':List aP}
 (W1:0<=w->0<=w')(W2:0<=w'->gV f)
 (W3:w'<0->okS c p.height/\(∀h,Mp.get Mp.ieq p.at0 hm=some h->h=p.height)/\∀b k,(b,k)∈eo (a:Int) c p.height->b≠(f.code.length:Int)/\has m' (aP.mk b k)=true)
 (M1:∀x,has m x=true->has m' x=true)(M2:∀x,has m' x=true->has m x=true\/(x∈q'/\∃b:Nat,x.at0=(b:Int)/\Reach f b x.height))
 (M3:∀x∈q',has m' x=true)(M5:∀x∈q,x∈q'):Inv f (hmS hm p) w' m' q' where
 reach x hx:=by
  rcases M2 x hx with h|h
  ·exact I.reach x h
  ·exact h.2
 queue:=M3
 done hw x hx:=by
  have hw0:w<0:=by
   by_cases h:0<=w
   ·have:=W1 h;omega
   ·omega
  obtain⟨k1,k2,k3⟩:=W3 hw
  rcases M2 x hx with h|h
  ·rcases I.done hw0 x h with hq|⟨a',c',e1,e2,e3,e4,e5⟩
   ·rw[Qu]at hq
    rcases hq with hq|hq
    ·subst hq
     refine .inr ⟨a,c,ha,hc,?_,k1,k3⟩
     unfold hmS;rw[mb nt,TP rfl]
    ·exact .inl (M5 x hq)
   ·refine .inr ⟨a',c',e1,e2,?_,e4,λb k hb=>⟨(e5 b k hb).1,M1 _ (e5 b k hb).2⟩⟩
    unfold hmS
    rw[mb nt]
    by_cases e:x.at0=p.at0
    ·rw[TP e]
     rw[e]at e3
     rw[k2 _ e3]
    ·rw[TN e];exact e3
  ·exact .inl h.1
 fault:=W2
 hms b h hb:=by
  unfold hmS at hb
  rw[mb nt]at hb
  by_cases e:b=p.at0
  ·rw[TP e,Qd]at hb
   subst hb
   have:=I.reach p (I.queue p (Qo ..))
   rw[e];exact this
  ·rw[TN e]at hb
   exact I.hms b h hb
 zero:=M1 _ I.zero
theorem Hz{f:aB}{hm:List (Int×Int)}{w:Int}{m:List (aP×Bool)}(I:Inv f hm w m []):0<=w↔gV f:=by
 refine⟨I.fault,λF=> ?_⟩
 by_cases hw:0<=w
 ·exact hw
 ·exfalso
  have all:∀a h,Reach f a h->has m (aP.mk (a:Int) h)=true:=by
   intro a h r
   induction r with
   |start=>exact I.zero
   |step r hc hk hw' hb ih=>
    rcases I.done (by omega) _ ih with h|⟨a',c',e1,e2,e3,e4,e5⟩
    ·cases h
    ·have ea:a'=_:=(Ts e1).symm
     subst ea
     rw[hc,Qd]at e2
     subst e2
     exact(e5 _ _ hw').2
  have dn:∀a h,Reach f a h->NU f hm m (aP.mk (a:Int) h):=by
   intro a h r
   rcases I.done (by omega) _ (all a h r)with h|h
   ·cases h
   ·exact h
  obtain⟨a,h,c,r,hc,hF⟩:=F
  obtain⟨a',c',e1,e2,e3,e4,e5⟩:=dn a h r
  have ea:a'=a:=(Ts e1).symm
  subst ea
  rw[hc,Qd]at e2
  subst e2
  rcases hF with hF|⟨_,k,hF⟩|⟨h',r',hF⟩
  ·exact hF e4
  ·exact(e5 _ _ hF).1 rfl
  ·obtain⟨_,_,_,_,e3',_,_⟩:=dn a' h' r'
   have e3'':Mp.get Mp.ieq (a':Int) hm=some h:=e3
   have e4'':Mp.get Mp.ieq (a':Int) hm=some h':=e3'
   rw[e3'',Qd]at e4''
   exact hF e4''.symm
end Go.Proofs.YtcghbgmmgcljkaaGreatDoor
end
section
namespace Go.Proofs.YtcghbgmmgcljkaaGreatDoor
set_option maxRecDepth 20000
def Jh(c:aM)(h:Int):Int:=if c.op=12 then cu c h-1 else cu c h
theorem cI{at0:Int}{c:aM}{h b k:Int}:(b,k)∈eo at0 c h↔(dL c=true/\b=c.a/\k=Jh c h)\/(gU c=true/\b=at0+1/\k=cu c h):=by
 unfold eo dL gU Jh
 by_cases h14:c.op=14
 ·simp[h14]
 by_cases h17:c.op=17
 ·simp[h17]
 by_cases h19:c.op=19
 ·simp[h19]
 by_cases h15:c.op=15
 ·simp[h15,or_comm]
 by_cases h13:c.op=13
 ·simp[h13,or_comm]
 by_cases h12:c.op=12
 ·have e:cu c h=h:=by unfold cu bE bY;simp[h12]
  simp[h12,e,or_comm]
 simp[h14,h17,h19,h15,h13,h12]
def CN(f:aB):Prop:=1<=f.code.length/\f.code.length<=3000/\∀c∈f.code,0<=bE c/\(dL c=true->∃b:Nat,c.a=(b:Int)/\b<f.code.length)
theorem Br{f:aB}(S:CN f){a:Nat}{h:Int}(r:Reach f a h):0<=h/\h<=65:=by
 cases r with
 |start=>omega
 |step _ hc hk hw _=>exact u_ (S.2.2 _ (Qn hc)).1 hk hw
theorem ia{f:aB}(S:CN f):∀(N:Nat) (hm:List (Int×Int)) (w:Int) (m:List (aP×Bool)) (q:List aP),2 *ja f.code.length m+q.length<=N->ja f.code.length m+q.length<=4294960000->Inv f hm w m q->
 ∃w' m',eN (f,hm,w,m,q,())=some (w',m',())/\(0<=w'↔gV f)
 |N,hm,w,m,[],hN,hB,I=>by
  refine⟨w,m,?_,Hz I⟩
  rw[eN]
  simp
 |0,hm,w,m,p::q,hN,hB,I=>by simp at hN
 |N+1,hm,w,m,p::q,hN,hB,I=>by
  obtain⟨a,ha,r⟩:=I.reach p (I.queue p (Qo ..))
  have hal:=jX S.1 r
  obtain⟨c,hc⟩:∃c,f.code[a]?=some c:=⟨_,Qi hal⟩
  obtain⟨t0,tj⟩:=S.2.2 c (Qn hc)
  obtain⟨p0,p1⟩:=Br S r
  rw[QA]at hN hB
  have a0:(0:Int)<=(a:Int):=by omega
  have c1:0<=w->0<=w1S hm w p:=by
   intro h;unfold w1S
   split
   ·split
    ·exact h
    ·rw[ha];exact ku a0
   ·exact h
  have c2:0<=w1S hm w p->gV f:=by
   intro h;unfold w1S at h
   split at h
   ·rename_i h' hg
    split at h
    ·exact I.fault h
    ·rename_i hne
     obtain⟨n,e,r'⟩:=I.hms _ _ hg
     have en:n=a:=by rw[ha]at e;exact(Ts e).symm
     subst en
     exact⟨n,p.height,c,r,hc, .inr (.inr ⟨h',r',hne⟩)⟩
   ·exact I.fault h
  have c3:w1S hm w p<0->∀h,Mp.get Mp.ieq p.at0 hm=some h->h=p.height:=by
   intro hw h hg;unfold w1S at hw
   rw[hg]at hw
   simp only at hw
   split at hw
   ·assumption
   ·rw[ha]at hw;have:=ku (w:=w) a0;omega
  rw[As f hm w m p q ha hc p0 p1 t0 (by omega) (by have:=S.2.1;omega) hal]
  by_cases hk:okS c p.height
  ·rw[TP hk]
   have J1:∀x,has m x=true->has (c7 c p m q).1 x=true:=by
    intro x hx;unfold c7
    split
    ·rw[gX,hx];simp
    ·exact hx
   have J2:∀x,has (c7 c p m q).1 x=true->has m x=true\/(x∈(c7 c p m q).2/\∃b:Nat,x.at0=(b:Int)/\Reach f b x.height):=by
    intro x hx
    unfold c7 at hx⊢
    by_cases hj:dL c=true
    ·rw[TP hj]at hx⊢
     rcases yO _ _ _ _ hx with h|h
     ·exact .inl h
     ·by_cases hm0:has m x=true
      ·exact .inl hm0
      ·right
       rw[gX]at hx
       have e:x=aP.mk c.a (if c.op=12 then cu c p.height-1 else cu c p.height):=by
        cases hh:has m x
        ·rw[hh]at hx;simpa using hx
        ·exact absurd hh hm0
       refine⟨h,?_⟩
       obtain⟨b,eb,hb⟩:=tj hj
       rw[e]
       exact⟨b,eb,Reach.step r hc hk (cI.mpr (.inl ⟨hj,eb.symm,rfl⟩)) hb⟩
    ·rw[TN hj]at hx;exact .inl hx
   have J3:∀x∈(c7 c p m q).2,has (c7 c p m q).1 x=true:=by
    intro x hx
    unfold c7 at hx⊢
    by_cases hj:dL c=true
    ·rw[TP hj]at hx⊢
     rw[gX]
     rcases tE _ _ _ _ hx with h|h
     ·rw[I.queue x (Qm _ h)];simp
     ·simp[h]
    ·rw[TN hj]at hx⊢;exact I.queue x (Qm _ hx)
   have J5:∀x∈q,x∈(c7 c p m q).2:=by
    intro x hx;unfold c7
    split
    ·exact tF _ _ _ _ hx
    ·exact hx
   have J6:dL c=true->has (c7 c p m q).1 (aP.mk c.a (Jh c p.height))=true:=by
    intro hj;unfold c7;rw[TP hj,gX];simp[Jh]
   have J7:2 *ja f.code.length (c7 c p m q).1+(c7 c p m q).2.length<=2 *ja f.code.length m+q.length/\ja f.code.length (c7 c p m q).1+(c7 c p m q).2.length<=ja f.code.length m+q.length:=by
    unfold c7
    by_cases hj:dL c=true
    ·rw[TP hj]
     obtain⟨b,eb,hb⟩:=tj hj
     have hh:=u_ (at0:=(a:Int)) (b:=c.a) (k:=Jh c p.height) t0 hk (cI.mpr (.inl ⟨hj,rfl,rfl⟩))
     refine vk _ m q ?_
     rw[eb]
     exact wd hb hh.1 hh.2
    ·rw[TN hj];exact⟨QF _,QF _⟩
   simp only[]
   by_cases hg:gU c=true
   ·rw[TP hg]
    by_cases hend:a+1=f.code.length
    ·rw[TP hend]
     refine ia S N _ _ _ _ (by omega) (by omega) (lX I ha hc (λ_=>ku a0) (λ_=> ?_) (λh=> ?_) J1 J2 J3 J5)
     ·exact⟨a,p.height,c,r,hc, .inr (.inl ⟨hk,cu c p.height,cI.mpr (.inr ⟨hg,by omega,rfl⟩)⟩)⟩
     ·have:=ku (w:=w1S hm w p) a0;omega
    ·rw[TN hend]
     have hh:=u_ (at0:=(a:Int)) (b:=(a:Int)+1) (k:=cu c p.height) t0 hk (cI.mpr (.inr ⟨hg,rfl,rfl⟩))
     have sz:=vk (n:=f.code.length) (aP.mk ((a+1:Nat):Int) (cu c p.height)) (c7 c p m q).1 (c7 c p m q).2 (wd (by omega) hh.1 hh.2)
     refine ia S N _ _ _ _ (by omega) (by omega) (lX I ha hc c1 c2 (λh=>⟨hk,c3 h,?_⟩) ?_ ?_ ?_ ?_)
     ·intro b k hw
      rcases cI.mp hw with⟨h1,h2,h3⟩|⟨h1,h2,h3⟩
      ·obtain⟨b',eb,hb⟩:=tj h1
       refine⟨by omega,?_⟩
       rw[gX,h2,h3,J6 h1];simp
      ·refine⟨by omega,?_⟩
       rw[gX,h2,h3]
       simp
     ·intro x hx;rw[gX,J1 x hx];simp
     ·intro x hx
      rcases yO _ _ _ _ hx with h|h
      ·rcases J2 x h with h|⟨h,h'⟩
       ·exact .inl h
       ·exact .inr ⟨tF _ _ _ _ h,h'⟩
      ·rcases tE _ _ _ _ h with h'|h'
       ·rcases J2 x (J3 x h')with h2|⟨_,h2⟩
        ·exact .inl h2
        ·exact .inr ⟨h,h2⟩
       ·refine .inr ⟨h,?_⟩
        rw[h']
        exact⟨a+1,rfl,Reach.step r hc hk (cI.mpr (.inr ⟨hg,by omega,rfl⟩)) (by omega)⟩
     ·intro x hx
      rw[gX]
      rcases tE _ _ _ _ hx with h|h
      ·rw[J3 x h];simp
      ·simp[h]
     ·intro x hx;exact tF _ _ _ _ (J5 x hx)
   ·rw[TN hg]
    refine ia S N _ _ _ _ (by omega) (by omega) (lX I ha hc c1 c2 (λh=>⟨hk,c3 h,?_⟩) J1 J2 J3 J5)
    intro b k hw
    rcases cI.mp hw with⟨h1,h2,h3⟩|⟨h1,h2,h3⟩
    ·obtain⟨b',eb,hb⟩:=tj h1
     refine⟨by omega,?_⟩
     rw[h2,h3];exact J6 h1
    ·exact absurd h1 hg
  ·rw[TN hk]
   refine ia S N _ _ _ _ (by omega) (by omega) (lX I ha hc (λ_=>ku a0) (λ_=>⟨a,p.height,c,r,hc, .inl hk⟩) (λh=> ?_) (λ_ h=>h) (λ_ h=> .inl h) (λx hx=>I.queue x (Qm _ hx)) (λ_ h=>h))
   have:=ku (w:=w1S hm w p) a0;omega
end Go.Proofs.YtcghbgmmgcljkaaGreatDoor
end
section
namespace Go.Proofs.YtcghbgmmgcljkaaGreatDoor
set_option maxRecDepth 20000
theorem HK(n:Nat)(m:List (aP×Bool)):ja n m<=66 *n:=by
 have h1:ja n m<=(Gx n).length:=Tl
 have h2:(Gx n).length=66 *n:=by
  unfold Gx box
  rw[Qg,List.length_flatMap]
  have:∀k:Nat,((RC k).map λa=>((RC 66).map λh=>(a,h)).length).sum=66 *k:=by
   intro k
   induction k with
   |zero=>rfl
   |succ k ih=>rw[List.range_succ (n:=k),QU,List.sum_append,ih];simp;omega
  exact this n
 omega
theorem HN{f:aB}(S:CN f):∃w m,Lq (f,())=some (w,m,())/\(0<=w↔gV f):=by
 have hs:=nk [] (aP.mk 0 0)
 have hn:∀x,has [] x=false:=λ_=>rfl
 have I:Inv f [] (-1) (Iu [] (aP.mk 0 0)) [aP.mk 0 0]:=
  { reach:=λx hx=>by
     rw[hs,hn,Bool.or_false,TM]at hx
     rw[hx];exact⟨0,rfl,Reach.start⟩
    queue:=λx hx=>by
     rw[Q3]at hx
     rw[hs,hx];simp
    done:=λ_ x hx=>by
     rw[hs,hn,Bool.or_false,TM]at hx
     left;rw[hx];exact Q3.mpr rfl
    fault:=λh=>by omega
    hms:=λa h hb=>by cases hb
    zero:=by rw[hs];simp}
 have hl:=HK f.code.length (Iu [] (aP.mk 0 0))
 have:=S.2.1
 obtain⟨w,m,h,hF⟩:=ia S _ [] (-1) (Iu [] (aP.mk 0 0)) [aP.mk 0 0] (QF _) (by rw[Rq];omega) I
 rw[Lq]
 have e:eN (f,[],(-1:Int),Mp.set (λx y=>Mp.ieq x.at0 y.at0&&Mp.ieq x.height y.height) (λx x_1=>false) (aP.mk 0 0) true [],[aP.mk 0 0],())=some (w,m,()):=h
 rw[e]
 exact⟨w,m,rfl,hF⟩
end Go.Proofs.YtcghbgmmgcljkaaGreatDoor
end
section
namespace Go.Proofs.YtcghbgmmgcljkaaGreatDoor
set_option maxRecDepth 20000
end Go.Proofs.YtcghbgmmgcljkaaGreatDoor
end
section
namespace Go.Proofs.YtcghbgmmgcljkaaGreatDoor
set_option maxRecDepth 20000
def Lj(M:List (List (Int×Bool)))(a:Nat)(h:Int):Bool:=match M[a]? with|some m=>(Mp.get Mp.ieq h m).getD false|none=>false
def Ly(m:List (Int×Bool)):Prop:=(m.map Prod.fst).Nodup/\∀e∈m,e.2=true
end Go.Proofs.YtcghbgmmgcljkaaGreatDoor
end
section
namespace Go.Proofs.YtcghbgmmgcljkaaGreatDoor
set_option maxRecDepth 20000
structure InvR (f:aB) (M:List (List (Int×Bool))) (out:List Bool) (q:List (List Int)):Prop where
 lenM:M.length=f.code.length
 lenO:out.length=f.code.length
 reach:∀(a:Nat) h,Lj M a h=true->Reach f a h
 queue:∀x∈q,∃(a:Nat) (h:Int),x=[(a:Int),h]/\Reach f a h
 done:∀(a:Nat) h c,Lj M a h=true->f.code[a]?=some c->okS c h->∀b k,(b,k)∈eo (a:Int) c h->(b=(f.code.length:Int)->out[a]?=some true)/\∀b':Nat,b=(b':Int)->b'<f.code.length->Lj M b' k=true\/[(b':Int),k]∈q
 outs:∀a:Nat,out[a]?=some true->∃h c k,Reach f a h/\f.code[a]?=some c/\okS c h/\((f.code.length:Int),k)∈eo (a:Int) c h
 zero:Lj M 0 0=true\/[(0:Int),0]∈q
 good:∀m∈M,Ly m
end Go.Proofs.YtcghbgmmgcljkaaGreatDoor
end
section
namespace Go.Proofs.YtcghbgmmgcljkaaGreatDoor
set_option maxRecDepth 20000
end Go.Proofs.YtcghbgmmgcljkaaGreatDoor
end
section
namespace Go.Proofs.YtcghbgmmgcljkaaGreatDoor
set_option maxRecDepth 20000
end Go.Proofs.YtcghbgmmgcljkaaGreatDoor
end
section
namespace Go.Proofs.YtcghbgmmgcljkaaGreatDoor
set_option maxRecDepth 20000
end Go.Proofs.YtcghbgmmgcljkaaGreatDoor
end
section
namespace Go.Proofs.YtcghbgmmgcljkaaGreatDoor
set_option maxRecDepth 20000
end Go.Proofs.YtcghbgmmgcljkaaGreatDoor
end
section
namespace Go.Proofs.YtcghbgmmgcljkaaGreatDoor
set_option maxRecDepth 20000
end Go.Proofs.YtcghbgmmgcljkaaGreatDoor
end
section
namespace Go.Proofs.YtcghbgmmgcljkaaGreatDoor
set_option maxRecDepth 20000
theorem IA{l:List aB}(hl:∀g∈l,0<=g.params){f:aB}(h:jA l f=true)(h3:f.code.length<=3000):CN f:=by
 unfold jA at h
 simp only[Qk,TM,Qq]at h
 refine⟨h.1.2,h3,λc hc=>⟨EV hl (h.2 c hc),λhj=> ?_⟩⟩
 have hc:=h.2 c hc
 have h1:=h.1.2
 have w:IntKind.i64.wrap ((f.code.length:Int) -1)=(f.code.length:Int) -1:=w64 (by omega) (by omega)
 have hr:rng c.a 0 (IntKind.i64.wrap ((f.code.length:Int) -1))=true:=by
  unfold dL at hj
  simp only[QX,TM]at hj
  unfold dc at hc
  rw[TN (by omega),TN (by omega),TN (by omega),TN (by omega),TN (by omega),TP (by omega)]at hc
  simp only[Qk]at hc
  exact hc.1.1.1
 rw[w]at hr
 unfold rng at hr
 rw[TM]at hr
 exact⟨c.a.toNat,by omega,by omega⟩
end Go.Proofs.YtcghbgmmgcljkaaGreatDoor
end
section
namespace Go.Proofs.YtcghbgmmgcljkaaGreatDoor
set_option maxRecDepth 20000
theorem nX(l:List aB)(hl:l.length<=3000)(S:∀f∈l,CN f):∀(j k:Nat),k+j=l.length->
 ((∃f∈l.drop k,gV f)/\∃a b,jQ (l,(l.length:Int),(k:Int),())=some (.inl (a,b,7,())))\/(¬(∃f∈l.drop k,gV f)/\jQ (l,(l.length:Int),(k:Int),())=some (.inr ()))
 |0,k,h=>by
  right
  rw[jQ,dI (by omega)]
  have:¬(k:Int)<(l.length:Int):=by omega
  simp[this]
 |j+1,k,h=>by
  obtain⟨x,hx,hm,hd⟩:=cY (l:=l) (k:=k) (by omega)
  have h1:(k:Int)<(l.length:Int):=by omega
  have h2:(0:Int)<=(k:Int):=by omega
  have w:IntKind.i64.wrap ((k:Int)+1)=((k+1:Nat):Int):=by rw[w64 (by omega) (by omega)];omega
  obtain⟨v,m,hv,hF⟩:=HN (S x hm)
  have ih:=nX l hl S j (k+1) (by omega)
  rw[jQ,hd]
  simp only[h1,h2,TQ,TK,Qs,hx,Ql,Qe,hv,w,ge_iff_le,Qu,exists_eq_or_imp]
  by_cases hp:0<=v
  ·left
   simp only[hp,TQ,TK]
   exact⟨.inl (hF.mp hp),_,_,rfl⟩
  ·simp only[hp,TR,Qj,TL]
   have nf:¬gV x:=λh=>hp (hF.mpr h)
   simp only[nf,false_or]
   exact ih
end Go.Proofs.YtcghbgmmgcljkaaGreatDoor
end
section
namespace Go.Proofs.YtcghbgmmgcljkaaGreatDoor
set_option maxRecDepth 20000
theorem rX(l:List aB):∀(r:List aB) (k:Nat),fS l k r=true->∀f∈r,jA l f=true
 |[],_,_,f,hf=>by cases hf
 |g::r,k,h,f,hf=>by
  rw[fS,Qk,Qk]at h
  rw[Qu]at hf
  rcases hf with hf|hf
  ·rw[hf];exact h.1.1
  ·exact rX l r (k+1) h.2 f hf
theorem wm{l:List aB}(h:dG l=0)(h3:∀f∈l,f.code.length<=3000):∀f∈l,jA l f=true/\0<=f.params/\f.params<=f.places/\CN f:=by
 have hf:fS l 0 l=true:=by
  unfold dG at h
  split at h
  ·cases h
  ·split at h
   ·assumption
   ·cases h
 have all:=rX l l 0 hf
 have hp:∀f∈l,0<=f.params/\f.params<=f.places:=by
  intro f hm
  have:=all f hm
  unfold jA rng at this
  simp only[Qk,TM]at this
  exact this.1.1.1.2
 exactλf hm=>⟨all f hm,(hp f hm).1,(hp f hm).2,IA (λg hg=>(hp g hg).1) (all f hm) (h3 f hm)⟩
end Go.Proofs.YtcghbgmmgcljkaaGreatDoor
end
section
namespace Go.Proofs.YtcghbgmmgcljkaaGreatDoor
set_option maxRecDepth 20000
def G6(l:List aB):Prop:=dG l=0/\¬∃f∈l,gV f
open Classical in
noncomputable def eT(l:List aB):Int:=if dG l=0 then(if∃f∈l,gV f then 7 else 0)else dG l
theorem iy{l:List aB}:eT l=0↔G6 l:=by
 unfold eT G6
 by_cases h:dG l=0
 ·by_cases h2:∃f∈l,gV f
  ·simp[h,h2]
  ·simp only[h,h2,TK,TL,true_and,not_false_eq_true]
 ·simp[h]
theorem Bc(l:List aB)(hl:l.length<=3000)(h3:∀f∈l,f.code.length<=3000):∃a b,Ln (l,())=some (a,b,eT l,()):=by
 have hv:=n7 l (by omega) (λf hf=>by have:=h3 f hf;omega)
 rw[Ln]
 simp only[hv,Ql,Qe]
 unfold eT
 by_cases h:dG l=0
 ·have S:=wm h h3
  have c:=nX l hl (λf hf=>(S f hf).2.2.2) _ 0 (Qy _)
  rw[Q5,QV]at c
  simp only[h,TK,bne_self_eq_false,Qj,TL]
  rcases c with⟨c1,a,b,c2⟩|⟨c1,c2⟩
  ·rw[c2,TP c1];exact⟨a,b,rfl⟩
  ·rw[c2,TN c1];exact⟨0,0,rfl⟩
 ·have hb:(dG l !=0)=true:=by simpa using h
  simp only[hb,TK,TN h]
  exact⟨0,0,rfl⟩
def s4(args:List aD):Bool:=args.all λv=>decide (-2147483648<=v.n/\v.n<=2147483648)
theorem n5(q:Int)(args:List aD)(hl:args.length<=4294967296):∀(j k:Nat),k+j=args.length->ij (q,args,(args.length:Int),(k:Int),())=if s4 (args.drop k)=true then some (.inr (q,()))else some (.inl (0,1,()))
 |0,k,h=>by
  rw[ij,dI (by omega)]
  have:¬(k:Int)<(args.length:Int):=by omega
  simp[this,s4]
 |j+1,k,h=>by
  obtain⟨x,hx,hm,hd⟩:=cY (l:=args) (k:=k) (by omega)
  have h1:(k:Int)<(args.length:Int):=by omega
  have h2:(0:Int)<=(k:Int):=by omega
  have w:IntKind.i64.wrap ((k:Int)+1)=((k+1:Nat):Int):=by rw[w64 (by omega) (by omega)];omega
  have ih:=n5 q args hl j (k+1) (by omega)
  rw[ij,hd]
  unfold s4 at ih⊢
  simp only[h1,h2,TQ,TK,Qs,hx,Ql,Qe,Rb]
  by_cases e1:x.n< -2147483648
  ·have:¬(-2147483648<=x.n/\x.n<=2147483648):=by omega
   simp[e1,this]
  ·by_cases e2:x.n>2147483648
   ·have:¬(-2147483648<=x.n/\x.n<=2147483648):=by omega
    simp[e1,e2,this]
   ·have e3:(-2147483648<=x.n/\x.n<=2147483648):=by omega
    simp only[e1,e2,e3,TR,Qj,TL,Qe,TQ,RU,and_self,w]
    exact ih
theorem qt(l:List aB)(s:ByteArray):cJ l s<0\/∃k:Nat,∃g,cJ l s=(k:Int)/\k<l.length/\l[k]?=some g:=by
 rcases qs l s 0 with h|h
 ·left;unfold cJ;omega
 ·right
  refine⟨(cJ l s).toNat,l[(cJ l s).toNat]'(by unfold cJ;omega),?_,?_,Qi _⟩
  ·unfold cJ;omega
  ·unfold cJ;omega
noncomputable def dW(l:List aB)(s:ByteArray)(args:List aD):Int:=
 if eT l=0 then
  if cJ l s<0 then 4 else
  match l[(cJ l s).toNat]? with
  |some g=>if(args.length:Int)=g.params then(if s4 args=true then 0 else 1)else 10
  |none=>0
 else eT l
theorem uA(l:List aB)(hl:l.length<=3000)(h3:∀f∈l,f.code.length<=3000)(s:ByteArray)(args:List aD)(ha:args.length<=4294967296):
 Lm (l,s,args,())=some (if dW l s args=0 then cJ l s else 0,dW l s args,()):=by
 have hv:=n7 l (by omega) (λf hf=>by have:=h3 f hf;omega)
 obtain⟨a,b,hc⟩:=Bc l hl h3
 have h39:dG l=0->Gu (l,s,())=some (max (cJ l s) 0,decide (cJ l s>=0),0,()):=by
  intro h0
  rw[Gu]
  simp only[hv,mh l (by omega),Ql,Qe,h0,bne_self_eq_false,Qj,TL]
 rw[Lm]
 simp only[hv,hc,Ql,Qe]
 unfold dW
 by_cases h:eT l=0
 ·have h0:=(iy.mp h).1
  simp only[h,h0,TK,bne_self_eq_false,Qj,TL,h39 h0,Qe]
  rcases qt l s with hf|⟨k,g,hk,hkl,hg⟩
  ·have:¬0<=cJ l s:=by omega
   simp[hf,this]
  ·have n1:¬(k:Int)<0:=by omega
   have n2:(0:Int)<=(k:Int):=by omega
   have n3:max (k:Int) 0=(k:Int):=by omega
   have lp:=n5 (k:Int) args ha _ 0 (Qy _)
   rw[Q5,QV]at lp
   simp only[hk,n1,n2,n3,TQ,Q8,Qj,TL,TK,Qs,hg,Qe,lp]
   by_cases hp:(args.length:Int)=g.params
   ·rw[TP hp]
    have hp':((args.length:Int) !=g.params)=false:=by simpa using hp
    rw[hp']
    cases hs:s4 args<;>simp[]
   ·have hp':((args.length:Int) !=g.params)=true:=by simpa using hp
    rw[TN hp,hp'];simp
 ·by_cases h0:dG l=0
  ·have hb:(eT l !=0)=true:=by simpa using h
   simp[h0,h,hb]
  ·have hb:(dG l !=0)=true:=by simpa using h0
   have e:eT l=dG l:=by unfold eT;rw[TN h0]
   simp[e,hb,h0]
end Go.Proofs.YtcghbgmmgcljkaaGreatDoor
end
section
namespace Go.Proofs.YtcghbgmmgcljkaaGreatDoor
set_option maxRecDepth 20000
def dh(n:Int):Item:=Item.mk n false (Qc #[])
def j6(b:Bool):Item:=if b=true then dh 1 else dh 0
def val(x:Item):aD:=aD.mk (aG.mk 0 0 (Qc #[]) false false) x.n x.null x.err (aG.mk 0 0 (Qc #[]) false false)
def vd(t:aG)(n:Int):Int:=if t.base=0 then 0 else if t.base=1 then(if n=0 then 0 else 1)else rk (t.base==3) t.bits n
def bt(t:aG)(n:Int):Int:=rk (t.base==3) t.bits n
def opS(ck:Bool)(op:Int)(t:aG)(y x:Item):Item×Int:=
 if ck=true then(dh (if(doS op (t.base==3) t.bits (bt t y.n) (bt t x.n)).2=0 then(doS op (t.base==3) t.bits (bt t y.n) (bt t x.n)).1 else 0),(doS op (t.base==3) t.bits (bt t y.n) (bt t x.n)).2)
 else(dh (doS op (t.base==3) t.bits (bt t y.n) (bt t x.n)).1,0)
def vN(op a b:Int):Bool:=
 if op=18 then a==b else if op=19 then a !=b else if op=20 then decide (a<b)else if op=21 then decide (a<=b)else if op=22 then decide (a>b)else decide (a>=b)
def dm(ck:Bool)(op:Int)(t:aG)(x:Item):Item×Int:=
 if op=8 then(j6 (x.n==0),0)
 else if op=11 then(if ck=true/\x.null=true then(dh 0,4)else(dh x.n,0))
 else if op=7 then(if ck=true/\¬inT (t.base==3) t.bits (-(bt t x.n))then(dh 0,1)else(dh (bt t (-(bt t x.n))),0))
 else if op=9 then(if ck=true/\¬inT (t.base==3) t.bits x.n then(dh 0,3)else(dh (bt t x.n),0))
 else(dh (bt t x.n),0)
inductive Act where
 |go (at1:Int) (pl st:List Item)
 |ret (x:Item)
 |stop (why:Int)
 |call
def fO(r:Item×Int)(at1:Int)(pl s:List Item):Act:=if r.2=0 then .go at1 pl (r.1::s)else .stop r.2
def cB(ck:Bool)(c:aM)(at1:Int)(pl st:List Item):Act:=
 if c.op=0 then .go at1 pl (dh (vd c.type0 c.a)::st)
 else if c.op=1 then .go at1 pl (Item.mk 0 true (Qc #[])::st)
 else if c.op=18 then .go at1 pl (Item.mk 0 false c.name0::st)
 else if c.op=2 then .go at1 pl (pl.getD c.a.toNat (dh 0)::st)
 else if c.op=3 then .go at1 (pl.set c.a.toNat (st.headD (dh 0))) st.tail
 else if c.op=4 then .go at1 pl st.tail
 else if c.op=5 then fO (opS ck c.a c.type0 (st.tail.headD (dh 0)) (st.headD (dh 0))) at1 pl st.tail.tail
 else if c.op=6 then .go at1 pl (j6 (vN c.a (st.tail.headD (dh 0)).n (st.headD (dh 0)).n)::st.tail.tail)
 else if c.op=7\/c.op=8\/c.op=9\/c.op=10\/c.op=11 then fO (dm ck c.op c.type0 (st.headD (dh 0))) at1 pl st.tail
 else if c.op=12 then(if(st.headD (dh 0)).null=true then .go c.a pl st.tail else .go at1 pl st)
 else if c.op=13 then(if(st.headD (dh 0)).err=Qc #[]then .go at1 pl st else .go c.a pl st)
 else if c.op=14 then .go c.a pl st
 else if c.op=15 then(if(st.headD (dh 0)).n=0 then .go c.a pl st.tail else .go at1 pl st.tail)
 else if c.op=16 then .call
 else if c.op=17 then .ret (st.headD (dh 0))
 else if ck=true then .stop c.a else .ret (dh 0)
structure Lg where
 kind:Int
 stop:Int
 steps:Int
 high:Int
 counts:List Int
 seen:List Item
def oO(d place:Int)(c:aM)(st:List Item)(seen:List Item):List Item:=
 if c.op=3/\d=1/\place=c.a/\seen.length<100 then seen++[st.headD (dh 0)]else seen
def d9(d h:Int)(n:Nat):Int:=if d=1 then max h (n:Int)else h
def tw(cs:List Int)(k:Nat):List Int:=cs.set k (IntKind.i64.wrap (cs.getD k 0+1))
def c8(f:aB)(args:List Item):List Item:=args++QK (f.places.toNat-args.length) (dh 0)
def Co(g:Lg):Item×Lg:=(dh 0,{g with kind:=2})
def f5(l:List aB)(ck:Bool)(place:Int):Nat->aB->Int->Int->List Item->List Item->Lg->Item×Lg
 |0,_,_,_,_,_,g=>Co g
 |N+1,f,d,at0,pl,st,g=>
  if g.steps=40000 then Co g else
  match f.code[at0.toNat]? with
  |none=>(dh 0,g)
  |some c=>
   match cB ck c (at0+1) pl st with
   | .go at1 pl1 st1=>f5 l ck place N f d at1 pl1 st1 {g with steps:=g.steps+1,high:=d9 d g.high st1.length,seen:=oO d place c st g.seen}
   | .ret x=>(x,{g with steps:=g.steps+1})
   | .stop w=>(dh 0,{g with steps:=g.steps+1,kind:=1,stop:=w})
   | .call=>
    match l[(cJ l c.name0).toNat]? with
    |none=>(dh 0,g)
    |some h=>
     if 30<d+1 then Co {g with steps:=g.steps+1}else
     let r:=f5 l ck place N h (d+1) 0 (c8 h (st.take c.b.toNat).reverse) [] {g with steps:=g.steps+1,counts:=tw g.counts (cJ l c.name0).toNat}
     if r.2.kind=0 then f5 l ck place N f d (at0+1) pl (r.1::st.drop c.b.toNat) {r.2 with high:=d9 d r.2.high (st.length-c.b.toNat+1)}else(dh 0,r.2)
def lg0(l:List aB):Lg:={kind:=0,stop:=0,steps:=0,high:=0,counts:=QK l.length 0,seen:=[]}
def lg1(l:List aB)(place:Int)(k:Nat)(f:aB)(args:List Item):Lg:=
 {lg0 l with counts:=tw (lg0 l).counts k,seen:=if(1:Int)=1/\0<=place then(lg0 l).seen++[(c8 f args).getD place.toNat (dh 0)]else(lg0 l).seen}
def xS(l:List aB)(ck:Bool)(place:Int)(k:Nat)(f:aB)(args:List Item):Item×Lg:=
 f5 l ck place 40000 f 1 0 (c8 f args) [] (lg1 l place k f args)
structure kK (l:List aB):Prop where
 len:l.length<=3000
 valid:dG l=0
 fns:∀f∈l,jA l f=true/\0<=f.params/\f.params<=f.places/\CN f
 nofault:∀f∈l,¬gV f
 places:∀f∈l,f.places<=200
theorem Iz{l:List aB}(hl:l.length<=3000)(h3:∀f∈l,f.code.length<=3000)(h:G6 l):kK l where
 len:=hl
 valid:=h.1
 fns:=wm h.1 h3
 nofault f hf F:=h.2 ⟨f,hf,F⟩
 places f hf:=by
  have h1:=h.1
  unfold dG at h1
  split at h1
  ·cases h1
  ·rename_i hb
   by_cases hp:f.places<=200
   ·exact hp
   ·exfalso
    apply hb
    have:nx l=true:=by
     unfold nx
     rw[Rs]
     exact⟨f,hf,by simpa using hp⟩
    simp[this]
theorem tU{l:List aB}{f:aB}(h:jA l f=true){c:aM}(hc:c∈f.code):dc l f c=true:=by
 unfold jA at h
 simp only[Qk,Qq]at h
 exact h.2 c hc
theorem mf{l:List aB}{f:aB}{c:aM}(h:dc l f c=true):0<=c.op/\c.op<=19:=by
 unfold dc at h
 by_cases hr:0<=c.op/\c.op<=19
 ·exact hr
 ·exfalso
  rw[TN (by omega),TN (by omega),TN (by omega),TN (by omega),TN (by omega),TN (by omega),TN (by omega),TN (by omega),TN (by omega),TN (by omega)]at h
  cases h
theorem kD{l:List aB}(R:kK l){f:aB}(hf:f∈l){a:Nat}{h:Int}(r:Reach f a h){c:aM}(hc:f.code[a]?=some c):
 okS c h/\∀b k,(b,k)∈eo (a:Int) c h->∃b':Nat,b=(b':Int)/\Reach f b' k:=by
 have S:=(R.fns f hf).2.2.2
 have nf:=R.nofault f hf
 have hk:okS c h:=by
  by_cases hk:okS c h
  ·exact hk
  ·exact absurd ⟨a,h,c,r,hc, .inl hk⟩ nf
 refine⟨hk,λb k hw=> ?_⟩
 have hal:=jX S.1 r
 rcases cI.mp hw with⟨h1,h2,h3⟩|⟨h1,h2,h3⟩
 ·obtain⟨b',eb,hb⟩:=(S.2.2 c (Qn hc)).2 h1
  refine⟨b',by rw[h2,eb],Reach.step r hc hk (by rw[<-eb,<-h2];exact hw) hb⟩
 ·refine⟨a+1,by rw[h2];rfl,?_⟩
  have e2:b=((a+1:Nat):Int):=by rw[h2];rfl
  by_cases hend:a+1=f.code.length
  ·exact absurd ⟨a,h,c,r,hc, .inr (.inl ⟨hk,k,by rw[<-hend,<-e2];exact hw⟩)⟩ nf
  ·exact Reach.step r hc hk (by rw[<-e2];exact hw) (by omega)
end Go.Proofs.YtcghbgmmgcljkaaGreatDoor
end
section
namespace Go.Proofs.YtcghbgmmgcljkaaGreatDoor
set_option maxRecDepth 20000
theorem wi{r:Item×Int}{at1 at2:Int}{pl pl1 s st1:List Item}(h:fO r at1 pl s= .go at2 pl1 st1):at2=at1/\pl1=pl/\st1=r.1::s:=by
 unfold fO at h
 split at h
 ·injection h with h1 h2 h3
  exact⟨h1.symm,h2.symm,h3.symm⟩
 ·cases h
theorem eO{st:List Item}{h:Int}(e:h=(st.length:Int))(h1:1<=h):∃x s,st=x::s:=by
 cases st with
 |nil=>simp at e;omega
 |cons x s=>exact⟨x,s,rfl⟩
theorem wq{st:List Item}{h:Int}(e:h=(st.length:Int))(h1:2<=h):∃x y s,st=x::y::s:=by
 cases st with
 |nil=>simp at e;omega
 |cons x s=>cases s with
  |nil=>simp at e;omega
  |cons y s=>exact⟨x,y,s,rfl⟩
theorem b_{c:aM}(h0:0<=c.op)(h1:c.op<=19)(h16:c.op≠16):(c.op=5\/c.op=6->bE c=2)/\(c.op=3\/c.op=4\/c.op=15\/c.op=17\/(7<=c.op/\c.op<=13)->bE c=1):=by
 unfold bE
 constructor
 ·intro h
  rw[TN (by omega),TN (by omega),TP (by omega)]
 ·intro h
  rw[TN (by omega)]
  by_cases h2:c.op=3\/c.op=4\/c.op=15\/c.op=17
  ·rw[TP h2]
  ·rw[TN h2,TN (by omega),TN h16,TN (by omega)]
theorem Jg{l:List aB}{f:aB}{c:aM}(hcode:dc l f c=true){ck:Bool}{a:Int}{pl st pl1 st1:List Item}{at1:Int}(hk:okS c (st.length:Int))
 (h:cB ck c (a+1) pl st= .go at1 pl1 st1):(at1,(st1.length:Int))∈eo a c (st.length:Int)/\pl1.length=pl.length:=by
 have hr:=mf hcode
 obtain⟨ht,_⟩:=hk
 have hk:c.op=0\/c.op=1\/c.op=2\/c.op=18\/c.op=3\/c.op=4\/c.op=5\/c.op=6\/(c.op=7\/c.op=8\/c.op=9\/c.op=10\/c.op=11)\/c.op=12\/c.op=13\/c.op=14\/c.op=15\/c.op=17\/c.op=19\/c.op=16:=by omega
 rcases hk with e|e|e|e|e|e|e|e|e|e|e|e|e|e|e|e
 ·simp only[cB,e,TK]at h
  injection h with h1 h2 h3
  subst h1 h2 h3
  simp[eo,cu,bE,bY,e]
 ·simp[cB,e]at h
  obtain⟨h1,h2,h3⟩:=h
  subst h1 h2 h3
  simp[eo,cu,bE,bY,e]
 ·simp[cB,e]at h
  obtain⟨h1,h2,h3⟩:=h
  subst h1 h2 h3
  simp[eo,cu,bE,bY,e]
 ·simp[cB,e]at h
  obtain⟨h1,h2,h3⟩:=h
  subst h1 h2 h3
  simp[eo,cu,bE,bY,e]
 ·have h1:bE c=1:=(b_ hr.1 hr.2 (by omega)).2 (by omega)
  obtain⟨x,s,rfl⟩:=eO rfl (h1▸ht)
  simp[cB,e]at h
  obtain⟨h1,h2,h3⟩:=h
  subst h1 h2 h3
  simp[eo,cu,bE,bY,e]
 ·have h1:bE c=1:=(b_ hr.1 hr.2 (by omega)).2 (by omega)
  obtain⟨x,s,rfl⟩:=eO rfl (h1▸ht)
  simp[cB,e]at h
  obtain⟨h1,h2,h3⟩:=h
  subst h1 h2 h3
  simp[eo,cu,bE,bY,e]
 ·have h1:bE c=2:=(b_ hr.1 hr.2 (by omega)).1 (by omega)
  obtain⟨x,y,s,rfl⟩:=wq rfl (h1▸ht)
  simp only[cB,e,show¬(5:Int)=0 by decide,show¬(5:Int)=1 by decide,show¬(5:Int)=18 by decide,show¬(5:Int)=2 by decide,show¬(5:Int)=3 by decide,show¬(5:Int)=4 by decide,TL,TK]at h
  obtain⟨h1,h2,h3⟩:=wi h
  subst h1 h2 h3
  simp[eo,cu,bE,bY,e];omega
 ·have h1:bE c=2:=(b_ hr.1 hr.2 (by omega)).1 (by omega)
  obtain⟨x,y,s,rfl⟩:=wq rfl (h1▸ht)
  simp[cB,e]at h
  obtain⟨h1,h2,h3⟩:=h
  subst h1 h2 h3
  simp[eo,cu,bE,bY,e];omega
 ·have h1:bE c=1:=(b_ hr.1 hr.2 (by omega)).2 (by omega)
  obtain⟨x,s,rfl⟩:=eO rfl (h1▸ht)
  rw[cB,TN (by omega),TN (by omega),TN (by omega),TN (by omega),TN (by omega),TN (by omega),TN (by omega),TN (by omega),TP e]at h
  obtain⟨h2,h3,h4⟩:=wi h
  subst h2 h3 h4
  refine⟨?_,rfl⟩
  have hl:bY c=1:=by unfold bY;rw[TN (by omega)]
  rw[eo,TN (by omega),TN (by omega),TN (by omega),TN (by omega),Q3,cu,h1,hl]
  simp
 ·have h1:bE c=1:=(b_ hr.1 hr.2 (by omega)).2 (by omega)
  obtain⟨x,s,rfl⟩:=eO rfl (h1▸ht)
  simp[cB,e]at h
  split at h
  ·injection h with h1 h2 h3
   subst h1 h2 h3
   simp[eo,e]
  ·injection h with h1 h2 h3
   subst h1 h2 h3
   simp[eo,e]
 ·have h1:bE c=1:=(b_ hr.1 hr.2 (by omega)).2 (by omega)
  obtain⟨x,s,rfl⟩:=eO rfl (h1▸ht)
  simp[cB,e]at h
  split at h
  ·injection h with h1 h2 h3
   subst h1 h2 h3
   simp[eo,cu,bE,bY,e]
  ·injection h with h1 h2 h3
   subst h1 h2 h3
   simp[eo,cu,bE,bY,e]
 ·simp[cB,e]at h
  obtain⟨h1,h2,h3⟩:=h
  subst h1 h2 h3
  simp[eo,cu,bE,bY,e]
 ·have h1:bE c=1:=(b_ hr.1 hr.2 (by omega)).2 (by omega)
  obtain⟨x,s,rfl⟩:=eO rfl (h1▸ht)
  simp[cB,e]at h
  split at h
  ·injection h with h1 h2 h3
   subst h1 h2 h3
   simp[eo,cu,bE,bY,e]
  ·injection h with h1 h2 h3
   subst h1 h2 h3
   simp[eo,cu,bE,bY,e]
 ·simp[cB,e]at h
 ·simp[cB,e]at h
  split at h<;>cases h
 ·simp[cB,e]at h
theorem wj{r:Item×Int}{at1:Int}{pl s:List Item}:fO r at1 pl s≠ .call:=by
 unfold fO
 split<;>exactλh=>by cases h
theorem qf{l:List aB}{f:aB}{c:aM}(hcode:dc l f c=true){ck:Bool}{at1:Int}{pl st:List Item}:cB ck c at1 pl st= .call↔c.op=16:=by
 have hr:=mf hcode
 constructor
 ·intro h
  by_cases e:c.op=16
  ·exact e
  ·exfalso
   have hk:c.op=0\/c.op=1\/c.op=2\/c.op=18\/c.op=3\/c.op=4\/c.op=5\/c.op=6\/(c.op=7\/c.op=8\/c.op=9\/c.op=10\/c.op=11)\/c.op=12\/c.op=13\/c.op=14\/c.op=15\/c.op=17\/c.op=19:=by omega
   rcases hk with e|e|e|e|e|e|e|e|e|e|e|e|e|e|e
   ·simp[cB,e]at h
   ·simp[cB,e]at h
   ·simp[cB,e]at h
   ·simp[cB,e]at h
   ·simp[cB,e]at h
   ·simp[cB,e]at h
   ·simp[cB,e]at h;exact wj h
   ·simp[cB,e]at h
   ·rw[cB,TN (by omega),TN (by omega),TN (by omega),TN (by omega),TN (by omega),TN (by omega),TN (by omega),TN (by omega),TP e]at h
    exact wj h
   ·simp[cB,e]at h;split at h<;>cases h
   ·simp[cB,e]at h;split at h<;>cases h
   ·simp[cB,e]at h
   ·simp[cB,e]at h;split at h<;>cases h
   ·simp[cB,e]at h
   ·simp[cB,e]at h;split at h<;>cases h
 ·intro e
  simp[cB,e]
theorem Hn{l:List aB}{f:aB}{c:aM}(hcode:dc l f c=true)(e:c.op=16):∃k:Nat,∃g,cJ l c.name0=(k:Int)/\k<l.length/\l[k]?=some g/\c.b=g.params/\bE c=c.b/\bY c=1:=by
 unfold dc at hcode
 simp[e]at hcode
 rcases qt l c.name0 with hf|⟨k,g,hk,hkl,hg⟩
 ·omega
 ·refine⟨k,g,hk,hkl,hg,?_,by simp[bE,e],by simp[bY,e]⟩
  rw[hk]at hcode
  simp[hg]at hcode
  exact hcode.2
end Go.Proofs.YtcghbgmmgcljkaaGreatDoor
end
section
namespace Go.Proofs.YtcghbgmmgcljkaaGreatDoor
set_option maxRecDepth 20000
theorem CV{t:aG}(h:gR t=true)(h0:t.base≠0)(h1:t.base≠1):1<=t.bits/\t.bits<=31:=by
 unfold gR dR at h
 simp only[Qk,TM]at h
 obtain⟨h2,h3⟩:=h
 by_cases hb:t.base=2\/t.base=3
 ·rw[TP hb]at h2
  simp only[Qk,TM]at h2
  exact h2.1
 ·rw[TN hb,TN (by omega),TN h0,TN (by omega)]at h2
  simp only[Qk,TM]at h2
  exact absurd h2.1.1 h1
theorem iv{t:aG}(h:dZ t=true):(t.base=2\/t.base=3)/\1<=t.bits/\t.bits<=31:=by
 unfold dZ dR at h
 simp only[Qk,TM]at h
 obtain⟨⟨⟨h2,hb⟩,_⟩,_⟩:=h
 rw[TP hb]at h2
 simp only[Qk,TM]at h2
 exact⟨hb,h2.1⟩
theorem Fq{t:aG}(h:dZ t=true)(n:Int):vd t n=bt t n:=by
 obtain⟨hb,_⟩:=iv h
 unfold vd bt
 rw[TN (by omega),TN (by omega)]
theorem n6(b:Bool):xo (b,())=some (val (j6 b),()):=by rw[xo];cases b<;>rfl
theorem il(n:Int):qJ (n,())=some (val (dh n),()):=by rw[qJ];rfl
theorem jV(t:aG):si (t,())=some (b9.mk (t.base==3) t.bits,()):=by rw[si]
theorem qb(t:aG)(n:Int)(h:gR t=true):nI (t,n,())=some (vd t n,()):=by
 rw[nI]
 unfold vd
 by_cases h0:t.base=0
 ·simp[h0]
 by_cases h1:t.base=1
 ·by_cases hn:n=0<;>simp[h1,hn,n6,j6,val,dh]
 ·obtain⟨b1,b2⟩:=CV h h0 h1
  have e0:(t.base==0)=false:=by simpa using h0
  have e1:(t.base==1)=false:=by simpa using h1
  simp only[e0,e1,h0,h1,Qj,TL,jV,Dr (b9.mk (t.base==3) t.bits) n b1 b2,Ql,Qe]
theorem Iv{t:aG}(h:dZ t=true):gR t=true:=by
 have hb:=(iv h).1
 unfold dZ at h
 unfold gR
 simp only[Qk,TM]at h⊢
 exact⟨h.1.1.1,by omega⟩
theorem fM(t:aG)(n:Int)(h:dZ t=true):nI (t,n,())=some (bt t n,()):=by
 rw[qb t n (Iv h),Fq h]
theorem Hi{t:aG}(h:dZ t=true)(n:Int):inT (t.base==3) t.bits (bt t n):=by
 obtain⟨_,b1,b2⟩:=iv h
 exact Hd b1 b2
end Go.Proofs.YtcghbgmmgcljkaaGreatDoor
end
section
namespace Go.Proofs.YtcghbgmmgcljkaaGreatDoor
set_option maxRecDepth 20000
def tu{α:Type}(f:aB)(d at1:Int)(res:Option aD)(l:List aB)(ck:Bool)(steps place high:Int)(en:Option bH)(pl st:List Item)(cnt:List Int)(sn:List Item)(t:α):=
 (f.name0,f.params,f.places,f.type0.base,f.type0.bits,f.type0.name0,f.type0.opt,f.type0.err,f.code,d,at1,res,l,ck,steps,place,high,en,pl.map val,(st.map val).reverse,cnt,sn.map val,t)
theorem kB(st:List Item):((st.map val).reverse).length=st.length:=by simp
theorem Bv(x:Item)(st:List Item):(((x::st).map val).reverse)[st.length]?=some (val x):=by
 rw[Qp,S3,Qx (by simp)];simp
theorem EI(x:Item)(st:List Item):Sp st.length (((x::st).map val).reverse)=(st.map val).reverse:=by
 rw[Qp,S3,List.take_left' (by simp)]
section
variable (f:aB) (d at1:Int) (res:Option aD) (l:List aB) (ck:Bool) (steps place high:Int) (en:Option bH) (pl st:List Item) (cnt:List Int) (sn:List Item)
theorem fc(x:Item)(hs:st.length<4294967296):cA (val x,tu f d at1 res l ck steps place high en pl st cnt sn ())=some (tu f d at1 res l ck steps place (d9 d high (st.length+1)) en pl (x::st) cnt sn ()):=by
 rw[cA]
 have e:(st.map val).reverse++[val x]=((x::st).map val).reverse:=by simp
 have h1:(st.map val).reverse.length+[val x].length<=4294967296:=by simp;omega
 have h2:(((x::st).map val).reverse.length:Int)=((st.length+1:Nat):Int):=by rw[kB];rfl
 unfold tu
 simp only[]
 rw[TP h1]
 simp only[e,h2]
 unfold d9
 by_cases hd:d=1
 ·have hb:(d==1)=true:=by simpa using hd
  rw[TP hb,TP hd]
 ·have hb:¬(d==1)=true:=by simpa using hd
  rw[TN hb,TN hd]
theorem eR(x:Item)(hs:st.length<4294967296):bW (tu f d at1 res l ck steps place high en pl (x::st) cnt sn ())=some (tu f d at1 res l ck steps place high en pl st cnt sn (val x,())):=by
 rw[bW]
 have h1:((((x::st).map val).reverse).length:Int)=(st.length:Int)+1:=by rw[kB];rfl
 have w:IntKind.i64.wrap ((st.length:Int)+1-1)=(st.length:Int):=by rw[w64 (by omega) (by omega)];omega
 have h2:(0:Int)<=(st.length:Int):=by omega
 have h3:(st.length:Int)<(st.length:Int)+1:=by omega
 have h4:(st.length:Int)<=(st.length:Int)+1:=by omega
 unfold tu
 simp only[h1,w,h2,h3,h4,and_self,TK,Qs,Bv,EI,Ql,Qe]
theorem Bm(x:Item)(hs:st.length<4294967296):gj (tu f d at1 res l ck steps place high en pl (x::st) cnt sn ())=some (tu f d at1 res l ck steps place high en pl (x::st) cnt sn (val x,())):=by
 rw[gj]
 have h1:((((x::st).map val).reverse).length:Int)=(st.length:Int)+1:=by rw[kB];rfl
 have w:IntKind.i64.wrap ((st.length:Int)+1-1)=(st.length:Int):=by rw[w64 (by omega) (by omega)];omega
 have h2:(0:Int)<=(st.length:Int):=by omega
 have h3:(st.length:Int)<(st.length:Int)+1:=by omega
 unfold tu
 simp only[h1,w,h2,h3,and_self,TK,Qs,Bv,Ql,Qe]
theorem wg(b:Bool)(q:Int):gk (b,q,tu f d at1 res l ck steps place high en pl st cnt sn ())=some (tu f d (if b=true then q else at1) res l ck steps place high en pl st cnt sn ()):=by
 rw[gk]
 unfold tu
 cases b<;>rfl
theorem mi(n loose why:Int)(hs:st.length<4294967296):eD (n,loose,why,tu f d at1 res l ck steps place high en pl st cnt sn ())=
 some (if why≠0/\ck=true then tu f d at1 res l ck steps place high (some (bH.mk 1 why)) pl st cnt sn ()else tu f d at1 res l ck steps place (d9 d high (st.length+1)) en pl (dh (if why=0 then n else loose)::st) cnt sn ()):=by
 have hp:=λx=>fc f d at1 res l ck steps place high en pl st cnt sn x hs
 unfold tu at hp
 rw[eD]
 unfold tu
 by_cases hw:why=0
 ·subst hw
  simp only[bne_self_eq_false,Qj,TL,Ql,Qe,il,hp,Qg,TK,ne_eq,not_true_eq_false,false_and]
 ·have hb:(why !=0)=true:=by simpa using hw
  cases ck
  ·simp only[hb,hw,TK,TL,Qj,Ql,Qe,il,hp,Qg,and_false]
  ·simp only[hb,hw,TK,Ql,Qe,dM,Qg,ne_eq,not_false_eq_true,and_self]
theorem Bl(p:Int)(x:Item)(hp0:0<=p)(hp1:p<(pl.length:Int))(hs:sn.length<=100):iI (p,val x,tu f d at1 res l ck steps place high en pl st cnt sn ())=
 some (tu f d at1 res l ck steps place high en (pl.set p.toNat x) st cnt (if d=1/\place=p/\sn.length<100 then sn++[x]else sn) ()):=by
 rw[iI]
 unfold tu
 have h1:p<((pl.map val).length:Int):=by simpa using hp1
 obtain⟨y,hy⟩:∃y,(pl.map val)[p.toNat]?=some y:=⟨_,Qi (by simp;omega)⟩
 have e:(pl.map val).set p.toNat (val x)=(pl.set p.toNat x).map val:=by rw[RQ]
 have ev:aD.mk (aG.mk (val x).type0.base (val x).type0.bits (val x).type0.name0 (val x).type0.opt (val x).type0.err) (val x).n (val x).null (val x).err (aG.mk (val x).of0.base (val x).of0.bits (val x).of0.name0 (val x).of0.opt (val x).of0.err)=val x:=rfl
 simp only[hp0,hp1,and_self,TK,hy,Ql,Qe,e,Qg,Rq]
 by_cases hd:d=1
 ·have hb:(d==1)=true:=by simpa using hd
  by_cases hpl:place=p
  ·have hb2:(p==place)=true:=by simp[hpl]
   by_cases hn:sn.length<100
   ·have hn':(sn.length:Int)<100:=by omega
    have hl:sn.length+1<=4294967296:=by omega
    simp only[TK,hn',TQ,Qg,hl,hd,hpl,hn,and_self,beq_self_eq_true,Qe,QU,Qp,QW]
   ·have hn':¬(sn.length:Int)<100:=by omega
    simp only[TK,hn',TR,Qj,TL,hd,hpl,hn,and_false,beq_self_eq_true,Qe]
  ·have hb2:(p==place)=false:=by simp;exactλh=>hpl h.symm
   simp only[hb2,TK,Qj,TL,hd,hpl,false_and,and_false,beq_self_eq_true,Qe]
 ·have hb:(d==1)=false:=by simpa using hd
  simp only[hb,Qj,TL,hd,false_and,Qe]
end
end Go.Proofs.YtcghbgmmgcljkaaGreatDoor
end
section
namespace Go.Proofs.YtcghbgmmgcljkaaGreatDoor
set_option maxRecDepth 20000
section
variable (f:aB) (d at1:Int) (res:Option aD) (l:List aB) (ck:Bool) (steps place high:Int) (en:Option bH) (pl st:List Item) (cnt:List Int) (sn:List Item) (c:aM)
theorem p77(hs:st.length<4294967000)(ht:gR c.type0=true):fq (c,tu f d at1 res l ck steps place high en pl st cnt sn ())=
 some (tu f d at1 res l ck steps place (d9 d high (st.length+1)) en pl (dh (vd c.type0 c.a)::st) cnt sn ()):=by
 have hp:=λx=>fc f d at1 res l ck steps place high en pl st cnt sn x (by omega)
 unfold tu at hp
 rw[fq];unfold tu
 simp only[qb _ _ ht,il,hp,Ql,Qe,TK]
theorem p78(hs:st.length<4294967000):ft (c,tu f d at1 res l ck steps place high en pl st cnt sn ())=
 some (tu f d at1 res l ck steps place (d9 d high (st.length+1)) en pl (Item.mk 0 true (Qc #[])::st) cnt sn ()):=by
 have hp:=fc f d at1 res l ck steps place high en pl st cnt sn (Item.mk 0 true (Qc #[])) (by omega)
 unfold tu val at hp
 rw[ft];unfold tu val
 simp only[hp,Ql,Qe,TK]
theorem p95(hs:st.length<4294967000):fJ (c,tu f d at1 res l ck steps place high en pl st cnt sn ())=
 some (tu f d at1 res l ck steps place (d9 d high (st.length+1)) en pl (Item.mk 0 false c.name0::st) cnt sn ()):=by
 have hp:=fc f d at1 res l ck steps place high en pl st cnt sn (Item.mk 0 false c.name0) (by omega)
 unfold tu val at hp
 rw[fJ];unfold tu val
 simp only[hp,Ql,Qe,TK]
theorem p79(hs:st.length<4294967000)(h0:0<=c.a)(h1:c.a<(pl.length:Int)):fu (c,tu f d at1 res l ck steps place high en pl st cnt sn ())=
 some (tu f d at1 res l ck steps place (d9 d high (st.length+1)) en pl (pl.getD c.a.toNat (dh 0)::st) cnt sn ()):=by
 have hp:=λx=>fc f d at1 res l ck steps place high en pl st cnt sn x (by omega)
 unfold tu at hp
 have hlt:c.a.toNat<pl.length:=by omega
 have e:(pl.map val)[c.a.toNat]?=some (val (pl.getD c.a.toNat (dh 0))):=by
  rw[Qh,RT,Qi hlt];rfl
 have h1':c.a<((pl.map val).length:Int):=by simpa using h1
 rw[fu];unfold tu
 simp only[h0,h1',and_self,TK,e,hp,Ql,Qe]
theorem p80(x:Item)(hs:st.length<4294967000)(h0:0<=c.a)(h1:c.a<(pl.length:Int))(hn:sn.length<=100):fv (c,tu f d at1 res l ck steps place high en pl (x::st) cnt sn ())=
 some (tu f d at1 res l ck steps place high en (pl.set c.a.toNat x) st cnt (if d=1/\place=c.a/\sn.length<100 then sn++[x]else sn) ()):=by
 have hp:=eR f d at1 res l ck steps place high en pl st cnt sn x (by omega)
 have hq:=Bl f d at1 res l ck steps place high en pl st cnt sn c.a x h0 h1 hn
 unfold tu at hp hq
 rw[fv];unfold tu
 simp only[hp,hq,TK,Ql,Qe,Qg,Q6]
theorem p81(x:Item)(hs:st.length<4294967000):fw (c,tu f d at1 res l ck steps place high en pl (x::st) cnt sn ())=
 some (tu f d at1 res l ck steps place high en pl st cnt sn ()):=by
 have hp:=eR f d at1 res l ck steps place high en pl st cnt sn x (by omega)
 unfold tu at hp
 rw[fw];unfold tu
 simp only[hp,TK,Ql,Qe]
theorem p82(y x:Item)(hs:st.length<4294967000)(ht:dZ c.type0=true)(ho:5<=c.a/\c.a<=17):fx (c,tu f d at1 res l ck steps place high en pl (x::y::st) cnt sn ())=
 some (if(opS ck c.a c.type0 y x).2=0 then tu f d at1 res l ck steps place (d9 d high (st.length+1)) en pl ((opS ck c.a c.type0 y x).1::st) cnt sn ()
  else tu f d at1 res l ck steps place high (some (bH.mk 1 (opS ck c.a c.type0 y x).2)) pl st cnt sn ()):=by
 have hp:=λx st hs=>eR f d at1 res l ck steps place high en pl st cnt sn x hs
 have hm:=λn lo w=>mi f d at1 res l ck steps place high en pl st cnt sn n lo w (by omega)
 unfold tu at hp hm
 obtain⟨_,b1,b2⟩:=iv ht
 have i1:=Hi ht y.n
 have i2:=Hi ht x.n
 have hc:=wZ c.a (b9.mk (c.type0.base==3) c.type0.bits) _ _ b1 b2 i1 i2 ho
 have hl:=Dn c.a (b9.mk (c.type0.base==3) c.type0.bits) _ _ b1 b2 i1 i2 ho
 have en:∀z,(val z).n=z.n:=λ_=>rfl
 rw[fx];unfold tu
 rw[show((RM val (x::y::st)).reverse)=((RM val (x::(y::st))).reverse)from rfl]
 simp only[hp x (y::st) (by simp;omega),hp y st (by omega),en,fM _ _ ht,jV,hc,hl,hm,TK,Ql,Qe]
 unfold opS
 generalize doS c.a (c.type0.base==3) c.type0.bits (bt c.type0 y.n) (bt c.type0 x.n)=r
 by_cases hr:r.2=0
 ·cases ck<;>simp only[hr,ne_eq,not_true_eq_false,false_and,TL,TK,Qj]
 ·cases ck
  ·simp only[hr,Qj,and_false,TL,TK]
  ·simp only[hr,ne_eq,not_false_eq_true,and_self,TK,TL]
theorem p83(y x:Item)(hs:st.length<4294967000)(ho:18<=c.a/\c.a<=23):fy (c,tu f d at1 res l ck steps place high en pl (x::y::st) cnt sn ())=
 some (tu f d at1 res l ck steps place (d9 d high (st.length+1)) en pl (j6 (vN c.a y.n x.n)::st) cnt sn ()):=by
 have hp:=λx st hs=>eR f d at1 res l ck steps place high en pl st cnt sn x hs
 have hq:=λx=>fc f d at1 res l ck steps place high en pl st cnt sn x (by omega)
 unfold tu at hp hq
 have en:∀z,(val z).n=z.n:=λ_=>rfl
 have w:IntKind.i64.wrap (c.a-18)=c.a-18:=w64 (by omega) (by omega)
 have w1:0<=c.a-18:=by omega
 have w2:c.a-18<6:=by omega
 have e:[y.n==x.n,y.n !=x.n,decide (y.n<x.n),decide (y.n<=x.n),decide (y.n>x.n),decide (y.n>=x.n)][(c.a-18).toNat]?=some (vN c.a y.n x.n):=by
  have hk:c.a=18\/c.a=19\/c.a=20\/c.a=21\/c.a=22\/c.a=23:=by omega
  rcases hk with h|h|h|h|h|h<;>rw[h]<;>rfl
 rw[fy];unfold tu
 simp only[hp x (y::st) (by simp;omega),hp y st (by omega),en,w,w1,w2,and_self,e,n6,hq,TK,Ql,Qe,show((6:Nat):Int)=6 from rfl]
theorem p84(x:Item)(hs:st.length<4294967000)(ht:dZ c.type0=true):fz (c,tu f d at1 res l ck steps place high en pl (x::st) cnt sn ())=
 some (if(dm ck 7 c.type0 x).2=0 then tu f d at1 res l ck steps place (d9 d high (st.length+1)) en pl ((dm ck 7 c.type0 x).1::st) cnt sn ()
  else tu f d at1 res l ck steps place high (some (bH.mk 1 (dm ck 7 c.type0 x).2)) pl st cnt sn ()):=by
 have hp:=λx st hs=>eR f d at1 res l ck steps place high en pl st cnt sn x hs
 have hm:=λn lo w=>mi f d at1 res l ck steps place high en pl st cnt sn n lo w (by omega)
 unfold tu at hp hm
 obtain⟨_,b1,b2⟩:=iv ht
 have i1:=Hi ht x.n
 have l1:=Dk b1 b2 i1
 have w:IntKind.i64.wrap (0-bt c.type0 x.n)= -(bt c.type0 x.n):=by rw[w64 (by omega) (by omega)];omega
 have hn:=HP (b9.mk (c.type0.base==3) c.type0.bits) _ b1 b2 i1
 have en:∀z,(val z).n=z.n:=λ_=>rfl
 rw[fz];unfold tu
 simp only[hp x st (by omega),en,fM _ _ ht,jV,hn,w,TK,Ql,Qe]
 unfold dm
 by_cases hin:inT (c.type0.base==3) c.type0.bits (-(bt c.type0 x.n))
 ·have e:=kd b1 b2 hin
  have e':bt c.type0 (-(bt c.type0 x.n))= -(bt c.type0 x.n):=e
  cases ck<;>simp[hin,hm,e']
 ·cases ck<;>simp[hin,hm]
theorem p85(x:Item)(hs:st.length<4294967000):fA (c,tu f d at1 res l ck steps place high en pl (x::st) cnt sn ())=
 some (tu f d at1 res l ck steps place (d9 d high (st.length+1)) en pl (j6 (x.n==0)::st) cnt sn ()):=by
 have hp:=λx st hs=>eR f d at1 res l ck steps place high en pl st cnt sn x hs
 have hq:=λx=>fc f d at1 res l ck steps place high en pl st cnt sn x (by omega)
 unfold tu at hp hq
 have en:∀z,(val z).n=z.n:=λ_=>rfl
 rw[fA];unfold tu
 simp only[hp x st (by omega),en,n6,hq,TK,Ql,Qe]
theorem p86(x:Item)(hs:st.length<4294967000)(ht:dZ c.type0=true):fB (c,tu f d at1 res l ck steps place high en pl (x::st) cnt sn ())=
 some (if(dm ck 9 c.type0 x).2=0 then tu f d at1 res l ck steps place (d9 d high (st.length+1)) en pl ((dm ck 9 c.type0 x).1::st) cnt sn ()
  else tu f d at1 res l ck steps place high (some (bH.mk 1 (dm ck 9 c.type0 x).2)) pl st cnt sn ()):=by
 have hp:=λx st hs=>eR f d at1 res l ck steps place high en pl st cnt sn x hs
 have hm:=λn lo w=>mi f d at1 res l ck steps place high en pl st cnt sn n lo w (by omega)
 unfold tu at hp hm
 obtain⟨_,b1,b2⟩:=iv ht
 have hn:=Dp (b9.mk (c.type0.base==3) c.type0.bits) x.n b1 b2
 have en:∀z,(val z).n=z.n:=λ_=>rfl
 rw[fB];unfold tu
 simp only[hp x st (by omega),en,jV,hn,TK,Ql,Qe]
 unfold dm
 by_cases hin:inT (c.type0.base==3) c.type0.bits x.n
 ·have e:=kd b1 b2 hin
  have e':bt c.type0 x.n=x.n:=e
  cases ck<;>simp[hin,hm,e',fM _ _ ht]
 ·cases ck<;>simp[hin,hm,fM _ _ ht]
theorem p87(x:Item)(hs:st.length<4294967000)(ht:dZ c.type0=true):fC (c,tu f d at1 res l ck steps place high en pl (x::st) cnt sn ())=
 some (tu f d at1 res l ck steps place (d9 d high (st.length+1)) en pl (dh (bt c.type0 x.n)::st) cnt sn ()):=by
 have hp:=λx st hs=>eR f d at1 res l ck steps place high en pl st cnt sn x hs
 have hq:=λx=>fc f d at1 res l ck steps place high en pl st cnt sn x (by omega)
 unfold tu at hp hq
 have en:∀z,(val z).n=z.n:=λ_=>rfl
 rw[fC];unfold tu
 simp only[hp x st (by omega),en,fM _ _ ht,il,hq,TK,Ql,Qe]
theorem p88(x:Item)(hs:st.length<4294967000):fD (c,tu f d at1 res l ck steps place high en pl (x::st) cnt sn ())=
 some (if(dm ck 11 c.type0 x).2=0 then tu f d at1 res l ck steps place (d9 d high (st.length+1)) en pl ((dm ck 11 c.type0 x).1::st) cnt sn ()
  else tu f d at1 res l ck steps place high (some (bH.mk 1 (dm ck 11 c.type0 x).2)) pl st cnt sn ()):=by
 have hp:=λx st hs=>eR f d at1 res l ck steps place high en pl st cnt sn x hs
 have hm:=λn lo w=>mi f d at1 res l ck steps place high en pl st cnt sn n lo w (by omega)
 unfold tu at hp hm
 have en:∀z,(val z).n=z.n:=λ_=>rfl
 have en2:∀z,(val z).null=z.null:=λ_=>rfl
 rw[fD];unfold tu
 simp only[hp x st (by omega),en2,TK,Ql,Qe]
 unfold dm
 cases hx:x.null<;>cases ck<;>simp[hm,en]
theorem p89(x:Item)(hs:st.length<4294967000):fE (c,tu f d at1 res l ck steps place high en pl (x::st) cnt sn ())=
 some (if x.null=true then tu f d c.a res l ck steps place high en pl st cnt sn ()else tu f d at1 res l ck steps place high en pl (x::st) cnt sn ()):=by
 have hp:=λx st hs=>eR f d at1 res l ck steps place high en pl st cnt sn x hs
 have hq:=Bm f d at1 res l ck steps place high en pl st cnt sn x (by omega)
 unfold tu at hp hq
 have en2:∀z,(val z).null=z.null:=λ_=>rfl
 rw[fE];unfold tu
 simp only[hq,hp x st (by omega),en2,TK,Ql,Qe]
 cases hx:x.null<;>simp
theorem p90(x:Item)(hs:st.length<4294967000):fF (c,tu f d at1 res l ck steps place high en pl (x::st) cnt sn ())=
 some (if x.err=Qc #[]then tu f d at1 res l ck steps place high en pl (x::st) cnt sn ()else tu f d c.a res l ck steps place high en pl (x::st) cnt sn ()):=by
 have hq:=Bm f d at1 res l ck steps place high en pl st cnt sn x (by omega)
 have hj:=λb q=>wg f d at1 res l ck steps place high en pl (x::st) cnt sn b q
 unfold tu at hq hj
 have en2:∀z,(val z).err=z.err:=λ_=>rfl
 rw[fF];unfold tu
 simp only[hq,hj,en2,iT,TK,Ql,Qe]
 by_cases hx:x.err=Qc #[]<;>simp[hx]
theorem p91:fG (c,tu f d at1 res l ck steps place high en pl st cnt sn ())=some (tu f d c.a res l ck steps place high en pl st cnt sn ()):=by
 rw[fG];rfl
theorem p92(x:Item)(hs:st.length<4294967000):fH (c,tu f d at1 res l ck steps place high en pl (x::st) cnt sn ())=
 some (tu f d (if x.n=0 then c.a else at1) res l ck steps place high en pl st cnt sn ()):=by
 have hp:=λx st hs=>eR f d at1 res l ck steps place high en pl st cnt sn x hs
 have hj:=λb q=>wg f d at1 res l ck steps place high en pl st cnt sn b q
 unfold tu at hp hj
 have en:∀z,(val z).n=z.n:=λ_=>rfl
 rw[fH];unfold tu
 simp only[hp x st (by omega),hj,en,beq_iff_eq,TK,Ql,Qe]
theorem p94(x:Item)(hs:st.length<4294967000):fI (c,tu f d at1 res l ck steps place high en pl (x::st) cnt sn ())=
 some (tu f d at1 (some (val x)) l ck steps place high en pl st cnt sn ()):=by
 have hp:=λx st hs=>eR f d at1 res l ck steps place high en pl st cnt sn x hs
 unfold tu at hp
 rw[fI];unfold tu
 simp only[hp x st (by omega),TK,Ql,Qe]
theorem p96:fK (c,tu f d at1 res l ck steps place high en pl st cnt sn ())=
 some (if ck=true then tu f d at1 res l ck steps place high (some (bH.mk 1 c.a)) pl st cnt sn ()else tu f d at1 (some (val (dh 0))) l ck steps place high en pl st cnt sn ()):=by
 rw[fK];unfold tu
 cases ck
 ·simp only[il,Qj,TL,Ql,Qe]
 ·simp only[dM,TK,Ql,Qe]
end
end Go.Proofs.YtcghbgmmgcljkaaGreatDoor
end
section
namespace Go.Proofs.YtcghbgmmgcljkaaGreatDoor
set_option maxRecDepth 20000
structure OkG (l:List aB) (g:Lg):Prop where
 s0:0<=g.steps
 s1:g.steps<=40000
 kind:g.kind=0
 stop:g.stop=0
 cnt:g.counts.length=l.length
 seen:g.seen.length<=100
structure OkA (l:List aB) (f:aB) (d:Int) (a:Nat) (pl st:List Item):Prop where
 mem:f∈l
 reach:Reach f a (st.length:Int)
 pls:(pl.length:Int)=f.places
 d1:1<=d
 d2:d<=30
theorem BB{d place:Int}{c:aM}{st seen:List Item}(h:seen.length<=100):(oO d place c st seen).length<=100:=by
 unfold oO
 split
 ·rw[QB,Rq];omega
 ·exact h
theorem OkA.st_le{l:List aB}{f:aB}{d:Int}{a:Nat}{pl st:List Item}(A:OkA l f d a pl st)(R:kK l):st.length<=65:=by
 have:=Br (R.fns f A.mem).2.2.2 A.reach
 omega
theorem OkA.code{l:List aB}{f:aB}{d:Int}{a:Nat}{pl st:List Item}(A:OkA l f d a pl st)(R:kK l):∃c,f.code[a]?=some c/\c∈f.code/\dc l f c=true/\a<f.code.length/\f.code.length<=3000:=by
 have S:=(R.fns f A.mem).2.2.2
 have h:=jX S.1 A.reach
 exact⟨_,Qi h,Q7 h,tU (R.fns f A.mem).1 (Q7 h),h,S.2.1⟩
theorem ur{l:List aB}(R:kK l){f:aB}{d:Int}{a:Nat}{pl st:List Item}(A:OkA l f d a pl st){g:Lg}(G:OkG l g)(hs:¬g.steps=40000){c:aM}(hc:f.code[a]?=some c)
 {ck:Bool}{place at1:Int}{pl1 st1:List Item}(h:cB ck c ((a:Int)+1) pl st= .go at1 pl1 st1):
 (∃b:Nat,at1=(b:Int)/\OkA l f d b pl1 st1)/\OkG l {g with steps:=g.steps+1,high:=d9 d g.high st1.length,seen:=oO d place c st g.seen}:=by
 have hcode:=tU (R.fns f A.mem).1 (Qn hc)
 obtain⟨hk,hw⟩:=kD R A.mem A.reach hc
 obtain⟨h1,h2⟩:=Jg hcode hk h
 obtain⟨b,hb,hr⟩:=hw _ _ h1
 refine⟨⟨b,hb,A.mem,hr,by rw[h2];exact A.pls,A.d1,A.d2⟩,?_⟩
 have:=G.s0
 have:=G.s1
 exact⟨by simp only[];omega,by simp only[];omega,G.kind,G.stop,G.cnt,BB G.seen⟩
theorem nO{l:List aB}(R:kK l){f:aB}{d:Int}{a:Nat}{pl st:List Item}(A:OkA l f d a pl st){c:aM}(hc:f.code[a]?=some c)(e:c.op=16):
 ∃(k:Nat) (h:aB) (b:Nat),cJ l c.name0=(k:Int)/\k<l.length/\l[k]?=some h/\c.b=(b:Int)/\b<=st.length/\(b:Int)=h.params/\(b:Int)<=h.places/\h.places<=200/\
  (∀x,OkA l f d (a+1) pl (x::st.drop b))/\(d+1<=30->OkA l h (d+1) 0 (c8 h (st.take b).reverse) []):=by
 have hcode:=tU (R.fns f A.mem).1 (Qn hc)
 obtain⟨hk,hw⟩:=kD R A.mem A.reach hc
 obtain⟨k,h,h1,h2,h3,h4,h5,h6⟩:=Hn hcode e
 have hm:=Qn h3
 obtain⟨_,hp0,hp1,_⟩:=R.fns h hm
 have hp2:=R.places h hm
 obtain⟨hk1,hk2⟩:=hk
 have hb:c.b=((c.b.toNat:Nat):Int):=by omega
 have hble:c.b.toNat<=st.length:=by omega
 refine⟨k,h,c.b.toNat,h1,h2,h3,hb,hble,by omega,by omega,hp2,λx=> ?_,λhd=> ?_⟩
 ·obtain⟨b',hb',hr⟩:=hw ((a:Int)+1) (cu c (st.length:Int)) (cI.mpr (.inr ⟨by unfold gU;simp[e],rfl,rfl⟩))
  have eb:b'=a+1:=by omega
  subst eb
  refine⟨A.mem,?_,A.pls,A.d1,A.d2⟩
  have en:cu c (st.length:Int)=(((x::st.drop c.b.toNat).length:Nat):Int):=by
   unfold cu;rw[h5,h6,QA,QO];omega
  rw[<-en];exact hr
 ·refine⟨hm,Reach.start,?_,by have:=A.d1;omega,hd⟩
  unfold c8
  rw[QB,Ra,Sd,QQ]
  omega
theorem vL{d h:Int}{n:Nat}(hd:d=1):(n:Int)<=d9 d h n:=by unfold d9;rw[TP hd];omega
theorem vM{d h:Int}{n:Nat}(hd:d≠1):d9 d h n=h:=by unfold d9;rw[TN hd]
theorem fT{d h:Int}{n:Nat}(hd:d=1->(n:Int)<=h):d9 d h n=h:=by unfold d9;split<;>omega
structure Left (l:List aB) (d:Int) (g:Lg) (r:Item×Lg):Prop where
 s0:g.steps<=r.2.steps
 s1:r.2.steps<=40000
 cnt:r.2.counts.length=l.length
 seen:r.2.seen.length<=100
 high:d≠1->r.2.high=g.high
 stop:r.2.kind=0->r.2.stop=0
 zero:r.2.kind≠0->r.1=dh 0
 kinds:r.2.kind=0\/r.2.kind=1\/(r.2.kind=2/\r.2.stop=0)
theorem Mc{p:Prop}(h:(2:Int)=0):p:=absurd h (by decide)
theorem OL{p:Prop}(h:(1:Int)=0):p:=absurd h (by decide)
theorem gf{l:List aB}(R:kK l)(ck:Bool)(place:Int):∀(N:Nat) (f:aB) (d:Int) (a:Nat) (pl st:List Item) (g:Lg),OkA l f d a pl st->OkG l g->Left l d g (f5 l ck place N f d (a:Int) pl st g)
 |0,f,d,a,pl,st,g,A,G=>by
  rw[f5]
  exact⟨RS _,G.s1,G.cnt,G.seen,λ_=>rfl,λh=>Mc h,λ_=>rfl, .inr (.inr ⟨rfl,G.stop⟩)⟩
 |N+1,f,d,a,pl,st,g,A,G=>by
  obtain⟨c,hc,hcm,hcode,hal,hl3⟩:=A.code R
  have s0:=G.s0
  have s1:=G.s1
  rw[f5]
  by_cases hs:g.steps=40000
  ·rw[TP hs]
   exact⟨RS _,G.s1,G.cnt,G.seen,λ_=>rfl,λh=>Mc h,λ_=>rfl, .inr (.inr ⟨rfl,G.stop⟩)⟩
  ·rw[TN hs]
   simp only[Qs,hc]
   cases ha:cB ck c ((a:Int)+1) pl st with
   |go at1 pl1 st1=>
    obtain⟨⟨b,hb,A'⟩,G'⟩:=ur (place:=place) R A G hs hc ha
    simp only[]
    subst hb
    have ih:=gf R ck place N f d b pl1 st1 _ A' G'
    exact⟨by have:=ih.s0;simp only[]at this;omega,ih.s1,ih.cnt,ih.seen,λhd=>by rw[ih.high hd];exact vM hd,ih.stop,ih.zero,ih.kinds⟩
   |ret x=>exact⟨by simp only[];omega,by simp only[];omega,G.cnt,G.seen,λ_=>rfl,λ_=>G.stop,λh=>absurd G.kind h, .inl G.kind⟩
   |stop w=>
    exact⟨by simp only[];omega,by simp only[];omega,G.cnt,G.seen,λ_=>rfl,λh=>OL h,λ_=>rfl, .inr (.inl rfl)⟩
   |call=>
    obtain⟨k,h,b,h1,h2,h3,h4,h5,h6,h7,h8,h9,h10⟩:=nO R A hc ((qf hcode).mp ha)
    simp only[h1,h3,h4,Qs]
    by_cases hd:30<d+1
    ·rw[TP hd]
     exact⟨by simp only[Co];omega,by simp only[Co];omega,G.cnt,G.seen,λ_=>rfl,λh=>Mc h,λ_=>rfl, .inr (.inr ⟨rfl,G.stop⟩)⟩
    ·rw[TN hd]
     have G1:OkG l {g with steps:=g.steps+1,counts:=tw g.counts k}:=⟨by simp only[];omega,by simp only[];omega,G.kind,G.stop,by simp only[tw,Q6];exact G.cnt,G.seen⟩
     have L:=gf R ck place N h (d+1) 0 _ [] _ (h10 (by omega)) G1
     rw[Q5]at L
     generalize f5 l ck place N h (d+1) 0 (c8 h (st.take b).reverse) [] {g with steps:=g.steps+1,counts:=tw g.counts k}=r at L⊢
     have hd1:=A.d1
     have L0:=L.s0
     have L1:=L.s1
     have Lh:=L.high (by omega)
     simp only[]at L0 Lh
     by_cases hk:r.2.kind=0
     ·rw[TP hk]
      have G2:OkG l {r.2 with high:=d9 d r.2.high (st.length-b+1)}:=⟨by simp only[];omega,L1,hk,L.stop hk,L.cnt,L.seen⟩
      have ih:=gf R ck place N f d (a+1) pl _ _ (h9 r.1) G2
      have e1:(((a+1:Nat):Int))=(a:Int)+1:=rfl
      rw[e1]at ih
      exact⟨by have:=ih.s0;simp only[]at this;omega,ih.s1,ih.cnt,ih.seen,λhd=>by rw[ih.high hd];simp only[];rw[vM hd,Lh],ih.stop,ih.zero,ih.kinds⟩
     ·rw[TN hk]
      exact⟨by simp only[];omega,L1,L.cnt,L.seen,λ_=>Lh,L.stop,λ_=>rfl,L.kinds⟩
end Go.Proofs.YtcghbgmmgcljkaaGreatDoor
end
section
namespace Go.Proofs.YtcghbgmmgcljkaaGreatDoor
set_option maxRecDepth 20000
set_option maxHeartbeats 8000000
def Nr:List (Option Nat):=[some 77,some 78,some 79,some 80,some 81,some 82,some 83,some 84,some 85,some 86,some 87,some 88,some 89,some 90,some 91,some 92,some 93,some 94,some 95,some 96]
theorem K7:Kj ()=some (Nr,()):=by rw[Kj];rfl
def lt(b e:Nat)(l:List aB)(ck:Bool)(steps place high:Int)(en:Option bH)(argv:List aD)(z:aD)(f:aB)(d at1:Int)(res:Option aD)(cnt:List Int)(sn pl st:List Item):=
 ((b:Int),(e:Int),l,ck,steps,place,high,en,argv,z,f.name0,f.params,f.places,f.type0.base,f.type0.bits,f.type0.name0,f.type0.opt,f.type0.err,f.code,d,at1,res,Nr,cnt,sn.map val,pl.map val,(st.map val).reverse,())
abbrev TuT:=ByteArray×Int×Int×Int×Int×ByteArray×Bool×Bool×List aM×Int×Int×Option aD×List aB×Bool×Int×Int×Int×Option bH×List aD×List aD×List Int×List aD×Unit
def LpS(n:aM×TuT->Option TuT)(op:Int)(seen stk:Bool):Prop:=
 ∀(b e:Nat) (l:List aB) (ck:Bool) (steps place high:Int) (argv:List aD) (z:aD) (f:aB) (d:Int) (a:Nat) (cnt:List Int) (sn pl st:List Item) {c:aM},
  c.op=op->f.code[a]?=some c->¬steps=40000->0<=steps->steps<=40000->a<=3000->∀{at2 steps2 high2:Int} {res2:Option aD} {en2:Option bH} {pl2 st2:List Item} {cnt2:List Int} {sn2:List Item},
  n (c,tu f d ((a:Int)+1) none l ck (steps+1) place high none pl st cnt sn ())=some (tu f d at2 res2 l ck steps2 place high2 en2 pl2 st2 cnt2 sn2 ())->
  pl2.length=pl.length->cnt2.length=cnt.length->(seen=true->sn2.length=sn.length)->(stk=true->st2.length=st.length)->
  aR (lt b e l ck steps place high none argv z f d (a:Int) none cnt sn pl st)=if en2.isSome=true then some (Rx ((b:Int),(e:Int),l,ck,steps2,place,high2,en2,argv,cnt2,sn2.map val,val (dh 0),()))
   else aR (lt b e l ck steps2 place high2 en2 argv z f d at2 res2 cnt2 sn2 pl2 st2)
theorem lps:LpS fq 0 true false/\LpS ft 1 true false/\LpS fu 2 true false/\LpS fv 3 false false/\LpS fw 4 true false/\LpS fx 5 true false/\LpS fy 6 true false/\LpS fz 7 true false/\LpS fA 8 true false/\LpS fB 9 true false/\LpS fC 10 true false/\LpS fD 11 true false/\LpS fE 12 true false/\LpS fF 13 true true/\LpS fG 14 true true/\LpS fH 15 true false/\LpS n_93sae8a 16 false false/\LpS fI 17 true false/\LpS fJ 18 true false/\LpS fK 19 true true:=by
 refine⟨?_,?_,?_,?_,?_,?_,?_,?_,?_,?_,?_,?_,?_,?_,?_,?_,?_,?_,?_,?_⟩<;>(
  intro b e l ck steps place high argv z f d a cnt sn pl st c h hc hs h0 h1 ha at2 steps2 high2 res2 en2 pl2 st2 cnt2 sn2 hr e1 e2 e3 e4
  have w1:IntKind.i64.wrap ((a:Int)+1)=(a:Int)+1:=w64 (by omega) (by omega)
  have w2:IntKind.i64.wrap (steps+1)=steps+1:=w64 (by omega) (by omega)
  have hb:(steps==40000)=false:=by simpa using hs
  have ha0:(0:Int)<=(a:Int):=by omega
  have hq:((20:Nat):Int)=20:=rfl
  unfold tu at hr
  conv=>lhs;rw[aR]
  unfold lt Nr
  first
   |simp only[Sg,TK,hb,Qj,TL,ha0,Qs,hc,Ql,Qe,h,TH,TG,Tf,Sx,Ri,w1,w2,hr,Qg,Sd,e1,e2,e3 rfl,e4 rfl,and_self,S7,TC,hq]
   |simp only[Sg,TK,hb,Qj,TL,ha0,Qs,hc,Ql,Qe,h,TH,TG,Tf,Sx,Ri,w1,w2,hr,Qg,Sd,e1,e2,e3 rfl,and_self,S7,TC,hq]
   |simp only[Sg,TK,hb,Qj,TL,ha0,Qs,hc,Ql,Qe,h,TH,TG,Tf,Sx,Ri,w1,w2,hr,Qg,Sd,e1,e2,and_self,S7,TC,hq]
  rfl)
theorem Oy:LpS fq 0 true false:=lps.1
theorem Oz:LpS ft 1 true false:=lps.2.1
theorem OA:LpS fu 2 true false:=lps.2.2.1
theorem OB:LpS fv 3 false false:=lps.2.2.2.1
theorem OC:LpS fw 4 true false:=lps.2.2.2.2.1
theorem Ob:LpS fx 5 true false:=lps.2.2.2.2.2.1
theorem OD:LpS fy 6 true false:=lps.2.2.2.2.2.2.1
theorem Oc:LpS fz 7 true false:=lps.2.2.2.2.2.2.2.1
theorem OE:LpS fA 8 true false:=lps.2.2.2.2.2.2.2.2.1
theorem Od:LpS fB 9 true false:=lps.2.2.2.2.2.2.2.2.2.1
theorem OG:LpS fC 10 true false:=lps.2.2.2.2.2.2.2.2.2.2.1
theorem Oe:LpS fD 11 true false:=lps.2.2.2.2.2.2.2.2.2.2.2.1
theorem Of:LpS fE 12 true false:=lps.2.2.2.2.2.2.2.2.2.2.2.2.1
theorem Og:LpS fF 13 true true:=lps.2.2.2.2.2.2.2.2.2.2.2.2.2.1
theorem OH:LpS fG 14 true true:=lps.2.2.2.2.2.2.2.2.2.2.2.2.2.2.1
theorem OI:LpS fH 15 true false:=lps.2.2.2.2.2.2.2.2.2.2.2.2.2.2.2.1
theorem L7:LpS n_93sae8a 16 false false:=lps.2.2.2.2.2.2.2.2.2.2.2.2.2.2.2.2.1
theorem OJ:LpS fI 17 true false:=lps.2.2.2.2.2.2.2.2.2.2.2.2.2.2.2.2.2.1
theorem OK:LpS fJ 18 true false:=lps.2.2.2.2.2.2.2.2.2.2.2.2.2.2.2.2.2.2.1
theorem Oh:LpS fK 19 true true:=lps.2.2.2.2.2.2.2.2.2.2.2.2.2.2.2.2.2.2.2
end Go.Proofs.YtcghbgmmgcljkaaGreatDoor
end
section
namespace Go.Proofs.YtcghbgmmgcljkaaGreatDoor
set_option maxRecDepth 20000
set_option maxHeartbeats 4000000
def zH(g:Lg):Option bH:=if g.kind=0 then none else some (bH.mk g.kind g.stop)
def lr(b e:Nat)(l:List aB)(ck:Bool)(steps place high:Int)(en:Option bH)(argv:List aD)(z:aD)(f:aB)(d at1:Int)(res:Option aD)(cnt:List Int)(sn pl st:List Item):=
 ((b:Int),(e:Int),l,ck,steps,place,high,en,argv,z,f.name0,f.params,f.places,f.type0.base,f.type0.bits,f.type0.name0,f.type0.opt,f.type0.err,f.code,d,at1,res,cnt,sn.map val,pl.map val,(st.map val).reverse,())
theorem At(b e:Nat)(l:List aB)(ck:Bool)(steps place high:Int)(en:Option bH)(argv:List aD)(z:aD)(f:aB)(d at1:Int)(v:aD)(cnt:List Int)(sn pl st:List Item):
 aR (lt b e l ck steps place high en argv z f d at1 (some v) cnt sn pl st)=some (Sc (lr b e l ck steps place high en argv z f d at1 (some v) cnt sn pl st)):=by
 rw[aR]
 unfold lt lr
 simp only[Option.isNone_some,Qj,TL,Qs]
theorem se(b e:Nat)(l:List aB)(ck:Bool)(place high:Int)(argv:List aD)(z:aD)(f:aB)(d at1:Int)(cnt:List Int)(sn pl st:List Item):
 aR (lt b e l ck 40000 place high none argv z f d at1 none cnt sn pl st)=some (Rx ((b:Int),(e:Int),l,ck,40000,place,high,some (bH.mk 2 0),argv,cnt,sn.map val,val (dh 0),())):=by
 rw[aR]
 unfold lt
 simp only[Sg,TK,beq_self_eq_true,dM,Ql,Qe,Qs]
 rfl
def tC(b e:Nat)(l:List aB)(ck:Bool)(place:Int)(argv:List aD)(z:aD)(f:aB)(d:Int)(a:Nat)(g:Lg)(pl st:List Item)(r:Item×Lg):Prop:=
 (r.2.kind=0/\∃at2 pl2 st2,aR (lt b e l ck g.steps place g.high none argv z f d (a:Int) none g.counts g.seen pl st)=some (Sc (lr b e l ck r.2.steps place r.2.high none argv z f d at2 (some (val r.1)) r.2.counts r.2.seen pl2 st2)))\/
 (r.2.kind≠0/\aR (lt b e l ck g.steps place g.high none argv z f d (a:Int) none g.counts g.seen pl st)=some (Rx ((b:Int),(e:Int),l,ck,r.2.steps,place,r.2.high,some (bH.mk r.2.kind r.2.stop),argv,r.2.counts,r.2.seen.map val,val (dh 0),())))
theorem zJ(h:aB)(args:List Item)(hp:(args.length:Int)<=h.places):
 Sp (QK h.places.toNat (val (dh 0))).length (args.map val)++SP args.length (QK h.places.toNat (val (dh 0)))=(c8 h args).map val:=by
 unfold c8
 rw[Ra,QP (by simp;omega),List.drop_replicate,QU,RZ]
theorem p40{l:List aB}{k:Nat}{h:aB}(hk:l[k]?=some h){b e:Nat}{argv:List aD}{args:List Item}(hb:b+e<=argv.length)(ha:Sp e (SP b argv)=args.map val)(he:args.length=e)
 {ck:Bool}{place d:Int}{g:Lg}(hd:¬30<d)(hp0:(e:Int)<=h.places)(hp1:h.places<=200)(hg:g.kind=0)(hc:g.counts.length=l.length)(hkl:k<l.length)
 (hpl:d=1->place<h.places)(hs:d=1->g.seen.length<=99){r:Item×Lg}
 (hl:tC b e l ck place argv (val (dh 0)) h d 0 {g with counts:=tw g.counts k,seen:=if d=1/\0<=place then g.seen++[(c8 h args).getD place.toNat (dh 0)]else g.seen} (c8 h args) [] r)(hz:r.2.kind≠0->r.1=dh 0):
 n_40s78a4 ((k:Int),(b:Int),(e:Int),d,l,ck,g.steps,place,g.high,none,argv,g.counts,g.seen.map val,())=
  some ((b:Int),(e:Int),l,ck,r.2.steps,place,r.2.high,zH r.2,argv,r.2.counts,r.2.seen.map val,val r.1,()):=by
 have hk0:(0:Int)<=(k:Int):=by omega
 have hk1:(k:Int)<(g.counts.length:Int):=by omega
 obtain⟨x,hx⟩:∃x,g.counts[k]?=some x:=⟨_,Qi (by omega)⟩
 have hbump:g.counts.set k (IntKind.i64.wrap (x+1))=tw g.counts k:=by
  unfold tw;rw[RT,hx];rfl
 have h0:0<=h.places:=by omega
 have h4:h.places<=4294967296:=by omega
 have em:=zJ h args (by omega)
 rw[he]at em
 rw[n_40s78a4]
 have hz0:aD.mk (aG.mk 0 0 (Qc #[]) false false) 0 false (Qc #[]) (aG.mk 0 0 (Qc #[]) false false)=val (dh 0):=rfl
 have hd':¬d>30:=by omega
 simp only[hd',TR,Qj,TL,hk0,hk1,and_self,TK,Qs,hx,hk,h0,h4,Ql,Qe,hb,hz0,ha,em,hbump,K7]
 have fin:∀{α:Type} (X:Option α) (y:α),X=some y->X=some y:=λ_ _ h=>h
 have key:∀sn:List Item,sn=(if d=1/\0<=place then g.seen++[(c8 h args).getD place.toNat (dh 0)]else g.seen)->
  (aR (lt b e l ck g.steps place g.high none argv (val (dh 0)) h d 0 none (tw g.counts k) sn (c8 h args) [])>>=λx6=>match x6 with
    | .inl y6=>some y6
    | .inr y6=>(y6.2.2.2.2.2.2.2.2.2.2.2.2.2.2.2.2.2.2.2.2.2.1:Option (aD))>>=λx7=>
     some (((↑y6.1.toNat:Int),(↑y6.2.1.toNat:Int),y6.2.2.1,y6.2.2.2.1,y6.2.2.2.2.1,y6.2.2.2.2.2.1,y6.2.2.2.2.2.2.1,y6.2.2.2.2.2.2.2.1,y6.2.2.2.2.2.2.2.2.1,y6.2.2.2.2.2.2.2.2.2.2.2.2.2.2.2.2.2.2.2.2.2.2.1,y6.2.2.2.2.2.2.2.2.2.2.2.2.2.2.2.2.2.2.2.2.2.2.2.1,x7,())))=
  some ((b:Int),(e:Int),l,ck,r.2.steps,place,r.2.high,zH r.2,argv,r.2.counts,r.2.seen.map val,val r.1,()):=by
  intro sn hsn
  subst hsn
  rcases hl with⟨hk0,at2,pl2,st2,hl⟩|⟨hk0,hl⟩
  ·simp only[Q5]at hl
   rw[hl]
   unfold lr zH
   simp only[Ql,Qe,Qs,hk0,TK]
  ·simp only[Q5]at hl
   rw[hl]
   unfold zH
   simp only[Ql,Qe,hk0,TL,hz hk0]
 unfold lt at key
 by_cases h1:d=1
 ·have hb1:(d==1)=true:=by simpa using h1
  simp only[hb1,TK,Qe,Qs]
  by_cases hp:0<=place
  ·have hlt:=hpl h1
   have hlen:(c8 h args).length=h.places.toNat:=by
    unfold c8
    rw[QB,Ra];omega
   have hlt2:place<(((c8 h args).map val).length:Int):=by rw[Qg,hlen];omega
   have hget:((c8 h args).map val)[place.toNat]?=some (val ((c8 h args).getD place.toNat (dh 0))):=by
    rw[Qh,RT,Qi (by omega)];rfl
   have hs':(g.seen.map val).length+[val ((c8 h args).getD place.toNat (dh 0))].length<=4294967296:=by have:=hs h1;simp;omega
   simp only[ge_iff_le,hp,TQ,TK,hlt2,and_self,hget,Qe,hs',Qs]
   refine Eq.trans ?_ (key _ (by rw[TP ⟨h1,hp⟩]))
   rw[QU]
   rfl
  ·simp only[ge_iff_le,hp,TR,Qj,TL,Qe,Qs]
   exact key _ (by rw[TN (λh=>hp h.2)])
 ·have hb1:(d==1)=false:=by simpa using h1
  simp only[hb1,Qj,TL,Qe,Qs]
  exact key _ (by rw[TN (λh=>h1 h.1)])
end Go.Proofs.YtcghbgmmgcljkaaGreatDoor
end
section
namespace Go.Proofs.YtcghbgmmgcljkaaGreatDoor
set_option maxRecDepth 20000
set_option maxHeartbeats 4000000
theorem Eu{l:List aB}{k b e:Nat}{argv:List aD}{ck:Bool}{place d:Int}{g:Lg}(hd:30<d):
 n_40s78a4 ((k:Int),(b:Int),(e:Int),d,l,ck,g.steps,place,g.high,none,argv,g.counts,g.seen.map val,())=
  some ((b:Int),(e:Int),l,ck,g.steps,place,g.high,some (bH.mk 2 0),argv,g.counts,g.seen.map val,val (dh 0),()):=by
 rw[n_40s78a4]
 have hd':d>30:=hd
 simp only[hd',TQ,TK,dM,Ql,Qe,Qs]
 rfl
theorem Ir{l:List aB}(R:kK l)(s:ByteArray):Gu (l,s,())=some (max (cJ l s) 0,decide (cJ l s>=0),0,()):=by
 have hv:=n7 l (by have:=R.len;omega) (λf hf=>by have:=(R.fns f hf).2.2.2.2.1;omega)
 rw[Gu]
 simp only[hv,mh l (by have:=R.len;omega),Ql,Qe,R.valid,bne_self_eq_false,Qj,TL]
theorem GM(st:List Item){b:Nat}(hb:b<=st.length):Sp (st.length-b) (st.map val).reverse=((st.drop b).map val).reverse/\Sp b (SP (st.length-b) (st.map val).reverse)=((st.take b).reverse).map val:=by
 constructor
 ·rw[List.take_reverse,Qg,show st.length-(st.length-b)=b by omega,Q_]
 ·rw[List.drop_reverse,Qg,show st.length-(st.length-b)=b by omega,QP (by simp;omega),List.map_reverse,Q9]
theorem p93{l:List aB}(R:kK l){c:aM}{k b:Nat}(hk:cJ l c.name0=(k:Int))(hb:c.b=(b:Int)){st:List Item}(hbl:b<=st.length)(hst:st.length<=65)(f:aB){d at1:Int}(hd1:1<=d)(hd2:d<=30)(ck:Bool)(place:Int)(pl:List Item)(g:Lg)
 {x:Item}{g2:Lg}(hc:g2.counts.length=g.counts.length){en:Option bH}
 (h40:n_40s78a4 ((k:Int),((st.length-b:Nat):Int),(b:Int),d+1,l,ck,g.steps,place,g.high,none,(st.map val).reverse,g.counts,g.seen.map val,())=
   some (((st.length-b:Nat):Int),(b:Int),l,ck,g2.steps,place,g2.high,en,(st.map val).reverse,g2.counts,g2.seen.map val,val x,())):
 n_93sae8a (c,tu f d at1 none l ck g.steps place g.high none pl st g.counts g.seen ())=
  some (if en.isNone=true then tu f d at1 none l ck g2.steps place (d9 d g2.high (st.length-b+1)) en pl (x::st.drop b) g2.counts g2.seen ()
   else tu f d at1 none l ck g2.steps place g2.high en pl (st.drop b) g2.counts g2.seen ()):=by
 have hp:=fc f d at1 none l ck g2.steps place g2.high en pl (st.drop b) g2.counts g2.seen x (by rw[QO];omega)
 rw[QO]at hp
 unfold tu at hp
 obtain⟨c1,c2⟩:=GM st hbl
 have hL:(((st.map val).reverse).length:Int)=(st.length:Int):=by rw[kB]
 have w:IntKind.i64.wrap ((st.length:Int) -(b:Int))=((st.length-b:Nat):Int):=by rw[w64 (by omega) (by omega)];omega
 have w2:IntKind.i64.wrap (d+1)=d+1:=w64 (by omega) (by omega)
 have i1:(0:Int)<=((st.length-b:Nat):Int):=by omega
 have i2:((st.length-b:Nat):Int)<=(st.length:Int):=by omega
 have i3:(st.length:Int)<=(st.length:Int):=RS _
 have hmax:max (k:Int) 0=(k:Int):=by omega
 have e1:st.length-(st.length-b)=b:=by omega
 have e2:st.length-b-Q1 0=st.length-b:=rfl
 have e3:st.length-b<=((st.map val).reverse).length:=by rw[kB];omega
 rw[n_93sae8a]
 unfold tu
 simp only[hL,hb,w,i1,i2,i3,and_self,TK,RS,Ir R,hk,hmax,Ql,Qe,Qs,e1,e2,w2,h40,hc,e3,c1]
 cases hen:en with
 |none=>
  rw[hen]at hp
  simp only[Sg,TK,hp,hc,Qe]
 |some y=>simp only[Option.isNone_some,Qj,TL]
theorem LS{l:List aB}{f:aB}{c:aM}(h:dc l f c=true)(e:c.op=0):gR c.type0=true:=by
 unfold dc at h
 rw[TP e]at h
 simp only[Qk]at h
 exact h.1.2.1.1
theorem vu{l:List aB}{f:aB}{c:aM}(h:dc l f c=true)(e:c.op=2\/c.op=3)(h0:0<=f.places)(h1:f.places<=200):0<=c.a/\c.a<f.places:=by
 unfold dc at h
 rw[TN (by omega),TP e]at h
 simp only[Qk,rng,TM]at h
 have w:IntKind.i64.wrap (f.places-1)=f.places-1:=w64 (by omega) (by omega)
 have:=h.1.1.1
 rw[w]at this
 omega
theorem LT{l:List aB}{f:aB}{c:aM}(h:dc l f c=true)(e:c.op=5):(5<=c.a/\c.a<=17)/\dZ c.type0=true:=by
 unfold dc at h
 rw[TN (by omega),TN (by omega),TP e]at h
 simp only[Qk,rng,TM]at h
 exact⟨h.1.1.1,h.1.2⟩
theorem LU{l:List aB}{f:aB}{c:aM}(h:dc l f c=true)(e:c.op=6):18<=c.a/\c.a<=23:=by
 unfold dc at h
 rw[TN (by omega),TN (by omega),TN (by omega),TP e]at h
 simp only[Qk,rng,TM]at h
 exact h.1.1.1
theorem Ho{l:List aB}{f:aB}{c:aM}(h:dc l f c=true)(e:c.op=7\/c.op=9\/c.op=10):dZ c.type0=true:=by
 unfold dc at h
 rw[TN (by omega),TN (by omega),TN (by omega),TN (by omega),TP e]at h
 simp only[Qk]at h
 exact h.1.2
theorem Jf{ck:Bool}{c:aM}{at1:Int}{pl:List Item}{x:Item}{s:List Item}(e:c.op=7\/c.op=8\/c.op=9\/c.op=10\/c.op=11):cB ck c at1 pl (x::s)=fO (dm ck c.op c.type0 x) at1 pl s:=by
 rw[cB,TN (by omega),TN (by omega),TN (by omega),TN (by omega),TN (by omega),TN (by omega),TN (by omega),TN (by omega),TP e]
 rfl
theorem jW{l:List aB}(R:kK l)(ck:Bool)(place:Int):∀(N:Nat) (f:aB) (d:Int) (a:Nat) (pl st:List Item) (g:Lg),OkA l f d a pl st->OkG l g->(d=1->(st.length:Int)<=g.high)->40000-g.steps<=(N:Int)->
 ∀(b e:Nat) (argv:List aD) (z:aD),tC b e l ck place argv z f d a g pl st (f5 l ck place N f d (a:Int) pl st g)
 |0,f,d,a,pl,st,g,A,G,hh,hN,b,e,argv,z=>by
  have hs:g.steps=40000:=by have:=G.s1;omega
  rw[f5]
  refine .inr ⟨by simp[Co],?_⟩
  rw[hs,se]
  simp only[Co,hs,G.stop]
 |N+1,f,d,a,pl,st,g,A,G,hh,hN,b,e,argv,z=>by
  obtain⟨c,hc,hcm,hcode,hal,hl3⟩:=A.code R
  have s0:=G.s0
  have s1:=G.s1
  have hst:=A.st_le R
  have hd1:=A.d1
  have hd2:=A.d2
  rw[f5]
  by_cases hs:g.steps=40000
  ·rw[TP hs]
   refine .inr ⟨by simp[Co],?_⟩
   rw[hs,se]
   simp only[Co,hs,G.stop]
  ·rw[TN hs]
   simp only[Qs,hc]
   obtain⟨hk,hw⟩:=kD R A.mem A.reach hc
   have ht:=hk.1
   have hr:=mf hcode
   have go:∀(at1:Int) (pl1 st1:List Item),cB ck c ((a:Int)+1) pl st= .go at1 pl1 st1->
    aR (lt b e l ck g.steps place g.high none argv z f d (a:Int) none g.counts g.seen pl st)=aR (lt b e l ck (g.steps+1) place (d9 d g.high st1.length) none argv z f d at1 none g.counts (oO d place c st g.seen) pl1 st1)->
    tC b e l ck place argv z f d a g pl st (f5 l ck place N f d at1 pl1 st1 {g with steps:=g.steps+1,high:=d9 d g.high st1.length,seen:=oO d place c st g.seen}):=by
    intro at1 pl1 st1 ha hn
    obtain⟨⟨b',hb',A'⟩,G'⟩:=ur (place:=place) R A G hs hc ha
    subst hb'
    have ih:=jW R ck place N f d b' pl1 st1 _ A' G' (λhd=>vL hd) (by simp only[];omega) b e argv z
    unfold tC at ih⊢
    rw[hn]
    exact ih
   have ret:∀(x:Item) (at2:Int) (pl2 st2:List Item),
    aR (lt b e l ck g.steps place g.high none argv z f d (a:Int) none g.counts g.seen pl st)=aR (lt b e l ck (g.steps+1) place g.high none argv z f d at2 (some (val x)) g.counts g.seen pl2 st2)->
    tC b e l ck place argv z f d a g pl st (x,{g with steps:=g.steps+1}):=by
    intro x at2 pl2 st2 hn
    refine .inl ⟨G.kind,at2,pl2,st2,?_⟩
    rw[hn,At]
   have stop:∀(w:Int) (hi:Int),aR (lt b e l ck g.steps place g.high none argv z f d (a:Int) none g.counts g.seen pl st)=
    some (Rx ((b:Int),(e:Int),l,ck,g.steps+1,place,g.high,some (bH.mk 1 w),argv,g.counts,g.seen.map val,val (dh 0),()))->
    tC b e l ck place argv z f d a g pl st (dh 0,{g with steps:=g.steps+1,kind:=1,stop:=w}):=by
    intro w hi hn
    exact .inr ⟨by simp,hn⟩
   have hop:c.op=0\/c.op=1\/c.op=2\/c.op=3\/c.op=4\/c.op=5\/c.op=6\/c.op=7\/c.op=8\/c.op=9\/c.op=10\/c.op=11\/c.op=12\/c.op=13\/c.op=14\/c.op=15\/c.op=16\/c.op=17\/c.op=18\/c.op=19:=by omega
   have hse:c.op≠3->oO d place c st g.seen=g.seen:=λh=>by unfold oO;rw[TN (λq=>h q.1)]
   have hpl:=A.pls
   have hplc:=R.places f A.mem
   have hfn:=R.fns f A.mem
   rcases hop with e0|e0|e0|e0|e0|e0|e0|e0|e0|e0|e0|e0|e0|e0|e0|e0|e0|e0|e0|e0
   ·have ha:cB ck c ((a:Int)+1) pl st= .go ((a:Int)+1) pl (dh (vd c.type0 c.a)::st):=by simp[cB,e0]
    rw[ha]
    refine go _ _ _ ha ?_
    rw[Oy b e l ck g.steps place g.high argv z f d a g.counts g.seen pl st e0 hc hs s0 s1 (by omega) (p77 f d ((a:Int)+1) none l ck (g.steps+1) place g.high none pl st g.counts g.seen c (by omega) (LS hcode e0)) rfl rfl (λ_=>rfl) nofun,hse (by omega)]
    rfl
   ·have ha:cB ck c ((a:Int)+1) pl st= .go ((a:Int)+1) pl (Item.mk 0 true (Qc #[])::st):=by simp[cB,e0]
    rw[ha]
    refine go _ _ _ ha ?_
    rw[Oz b e l ck g.steps place g.high argv z f d a g.counts g.seen pl st e0 hc hs s0 s1 (by omega) (p78 f d ((a:Int)+1) none l ck (g.steps+1) place g.high none pl st g.counts g.seen c (by omega)) rfl rfl (λ_=>rfl) nofun,hse (by omega)]
    rfl
   ·obtain⟨a0,a1⟩:=vu hcode (by omega) (by omega) hplc
    have ha:cB ck c ((a:Int)+1) pl st= .go ((a:Int)+1) pl (pl.getD c.a.toNat (dh 0)::st):=by simp[cB,e0]
    rw[ha]
    refine go _ _ _ ha ?_
    rw[OA b e l ck g.steps place g.high argv z f d a g.counts g.seen pl st e0 hc hs s0 s1 (by omega) (p79 f d ((a:Int)+1) none l ck (g.steps+1) place g.high none pl st g.counts g.seen c (by omega) a0 (by omega)) rfl rfl (λ_=>rfl) nofun,hse (by omega)]
    rfl
   ·obtain⟨a0,a1⟩:=vu hcode (by omega) (by omega) hplc
    obtain⟨x,s,rfl⟩:=eO rfl (by rw[(b_ hr.1 hr.2 (by omega)).2 (by omega)]at ht;exact ht)
    rw[QA]at hst
    have ha:cB ck c ((a:Int)+1) pl (x::s)= .go ((a:Int)+1) (pl.set c.a.toNat x) s:=by simp[cB,e0]
    rw[ha]
    refine go _ _ _ ha ?_
    have hsn:oO d place c (x::s) g.seen=if d=1/\place=c.a/\g.seen.length<100 then g.seen++[x]else g.seen:=by unfold oO;simp[e0]
    rw[OB b e l ck g.steps place g.high argv z f d a g.counts g.seen pl (x::s) e0 hc hs s0 s1 (by omega) (p80 f d ((a:Int)+1) none l ck (g.steps+1) place g.high none pl s g.counts g.seen c x (by omega) a0 (by omega) G.seen) (by rw[Q6]) rfl nofun nofun,hsn,fT (λq=>by have:=hh q;simp only[QA]at this;omega)]
    rfl
   ·obtain⟨x,s,rfl⟩:=eO rfl (by rw[(b_ hr.1 hr.2 (by omega)).2 (by omega)]at ht;exact ht)
    rw[QA]at hst
    have ha:cB ck c ((a:Int)+1) pl (x::s)= .go ((a:Int)+1) pl s:=by simp[cB,e0]
    rw[ha]
    refine go _ _ _ ha ?_
    rw[OC b e l ck g.steps place g.high argv z f d a g.counts g.seen pl (x::s) e0 hc hs s0 s1 (by omega) (p81 f d ((a:Int)+1) none l ck (g.steps+1) place g.high none pl s g.counts g.seen c x (by omega)) rfl rfl (λ_=>rfl) nofun,hse (by omega),fT (λq=>by have:=hh q;simp only[QA]at this;omega)]
    rfl
   ·obtain⟨o1,o2⟩:=LT hcode e0
    obtain⟨x,y,s,rfl⟩:=wq rfl (by rw[(b_ hr.1 hr.2 (by omega)).1 (by omega)]at ht;exact ht)
    rw[QA,QA]at hst
    have ha:cB ck c ((a:Int)+1) pl (x::y::s)=fO (opS ck c.a c.type0 y x) ((a:Int)+1) pl s:=by simp[cB,e0]
    have hp:=p82 f d ((a:Int)+1) none l ck (g.steps+1) place g.high none pl s g.counts g.seen c y x (by omega) o2 o1
    generalize opS ck c.a c.type0 y x=r at ha hp
    unfold fO at ha
    by_cases h0:r.2=0
    ·rw[TP h0]at ha hp
     rw[ha]
     refine go _ _ _ ha ?_
     rw[Ob b e l ck g.steps place g.high argv z f d a g.counts g.seen pl (x::y::s) e0 hc hs s0 s1 (by omega) hp rfl rfl (λ_=>rfl) nofun,hse (by omega)]
     rfl
    ·rw[TN h0]at ha hp
     rw[ha]
     refine stop _ 0 ?_
     rw[Ob b e l ck g.steps place g.high argv z f d a g.counts g.seen pl (x::y::s) e0 hc hs s0 s1 (by omega) hp rfl rfl (λ_=>rfl) nofun]
     rfl
   ·have o1:=LU hcode e0
    obtain⟨x,y,s,rfl⟩:=wq rfl (by rw[(b_ hr.1 hr.2 (by omega)).1 (by omega)]at ht;exact ht)
    rw[QA,QA]at hst
    have ha:cB ck c ((a:Int)+1) pl (x::y::s)= .go ((a:Int)+1) pl (j6 (vN c.a y.n x.n)::s):=by simp[cB,e0]
    rw[ha]
    refine go _ _ _ ha ?_
    rw[OD b e l ck g.steps place g.high argv z f d a g.counts g.seen pl (x::y::s) e0 hc hs s0 s1 (by omega) (p83 f d ((a:Int)+1) none l ck (g.steps+1) place g.high none pl s g.counts g.seen c y x (by omega) o1) rfl rfl (λ_=>rfl) nofun,hse (by omega)]
    rfl
   ·have o2:=Ho hcode (by omega)
    obtain⟨x,s,rfl⟩:=eO rfl (by rw[(b_ hr.1 hr.2 (by omega)).2 (by omega)]at ht;exact ht)
    rw[QA]at hst
    have ha:cB ck c ((a:Int)+1) pl (x::s)=fO (dm ck c.op c.type0 x) ((a:Int)+1) pl s:=Jf (by omega)
    rw[e0]at ha
    have hp:=p84 f d ((a:Int)+1) none l ck (g.steps+1) place g.high none pl s g.counts g.seen c x (by omega) o2
    generalize dm ck 7 c.type0 x=r at ha hp
    unfold fO at ha
    by_cases h0:r.2=0
    ·rw[TP h0]at ha hp
     rw[ha]
     refine go _ _ _ ha ?_
     rw[Oc b e l ck g.steps place g.high argv z f d a g.counts g.seen pl (x::s) e0 hc hs s0 s1 (by omega) hp rfl rfl (λ_=>rfl) nofun,hse (by omega)]
     rfl
    ·rw[TN h0]at ha hp
     rw[ha]
     refine stop _ 0 ?_
     rw[Oc b e l ck g.steps place g.high argv z f d a g.counts g.seen pl (x::s) e0 hc hs s0 s1 (by omega) hp rfl rfl (λ_=>rfl) nofun]
     rfl
   ·obtain⟨x,s,rfl⟩:=eO rfl (by rw[(b_ hr.1 hr.2 (by omega)).2 (by omega)]at ht;exact ht)
    rw[QA]at hst
    have ha:cB ck c ((a:Int)+1) pl (x::s)=fO (dm ck c.op c.type0 x) ((a:Int)+1) pl s:=Jf (by omega)
    rw[e0]at ha
    have hal2:dm ck 8 c.type0 x=(j6 (x.n==0),0):=rfl
    rw[hal2]at ha
    have ha2:cB ck c ((a:Int)+1) pl (x::s)= .go ((a:Int)+1) pl (j6 (x.n==0)::s):=ha
    rw[ha2]
    refine go _ _ _ ha2 ?_
    rw[OE b e l ck g.steps place g.high argv z f d a g.counts g.seen pl (x::s) e0 hc hs s0 s1 (by omega) (p85 f d ((a:Int)+1) none l ck (g.steps+1) place g.high none pl s g.counts g.seen c x (by omega)) rfl rfl (λ_=>rfl) nofun,hse (by omega)]
    rfl
   ·have o2:=Ho hcode (by omega)
    obtain⟨x,s,rfl⟩:=eO rfl (by rw[(b_ hr.1 hr.2 (by omega)).2 (by omega)]at ht;exact ht)
    rw[QA]at hst
    have ha:cB ck c ((a:Int)+1) pl (x::s)=fO (dm ck c.op c.type0 x) ((a:Int)+1) pl s:=Jf (by omega)
    rw[e0]at ha
    have hp:=p86 f d ((a:Int)+1) none l ck (g.steps+1) place g.high none pl s g.counts g.seen c x (by omega) o2
    generalize dm ck 9 c.type0 x=r at ha hp
    unfold fO at ha
    by_cases h0:r.2=0
    ·rw[TP h0]at ha hp
     rw[ha]
     refine go _ _ _ ha ?_
     rw[Od b e l ck g.steps place g.high argv z f d a g.counts g.seen pl (x::s) e0 hc hs s0 s1 (by omega) hp rfl rfl (λ_=>rfl) nofun,hse (by omega)]
     rfl
    ·rw[TN h0]at ha hp
     rw[ha]
     refine stop _ 0 ?_
     rw[Od b e l ck g.steps place g.high argv z f d a g.counts g.seen pl (x::s) e0 hc hs s0 s1 (by omega) hp rfl rfl (λ_=>rfl) nofun]
     rfl
   ·have o2:=Ho hcode (by omega)
    obtain⟨x,s,rfl⟩:=eO rfl (by rw[(b_ hr.1 hr.2 (by omega)).2 (by omega)]at ht;exact ht)
    rw[QA]at hst
    have ha:cB ck c ((a:Int)+1) pl (x::s)=fO (dm ck c.op c.type0 x) ((a:Int)+1) pl s:=Jf (by omega)
    rw[e0]at ha
    have hal2:dm ck 10 c.type0 x=(dh (bt c.type0 x.n),0):=rfl
    rw[hal2]at ha
    have ha2:cB ck c ((a:Int)+1) pl (x::s)= .go ((a:Int)+1) pl (dh (bt c.type0 x.n)::s):=ha
    rw[ha2]
    refine go _ _ _ ha2 ?_
    rw[OG b e l ck g.steps place g.high argv z f d a g.counts g.seen pl (x::s) e0 hc hs s0 s1 (by omega) (p87 f d ((a:Int)+1) none l ck (g.steps+1) place g.high none pl s g.counts g.seen c x (by omega) o2) rfl rfl (λ_=>rfl) nofun,hse (by omega)]
    rfl
   ·obtain⟨x,s,rfl⟩:=eO rfl (by rw[(b_ hr.1 hr.2 (by omega)).2 (by omega)]at ht;exact ht)
    rw[QA]at hst
    have ha:cB ck c ((a:Int)+1) pl (x::s)=fO (dm ck c.op c.type0 x) ((a:Int)+1) pl s:=Jf (by omega)
    rw[e0]at ha
    have hp:=p88 f d ((a:Int)+1) none l ck (g.steps+1) place g.high none pl s g.counts g.seen c x (by omega)
    generalize dm ck 11 c.type0 x=r at ha hp
    unfold fO at ha
    by_cases h0:r.2=0
    ·rw[TP h0]at ha hp
     rw[ha]
     refine go _ _ _ ha ?_
     rw[Oe b e l ck g.steps place g.high argv z f d a g.counts g.seen pl (x::s) e0 hc hs s0 s1 (by omega) hp rfl rfl (λ_=>rfl) nofun,hse (by omega)]
     rfl
    ·rw[TN h0]at ha hp
     rw[ha]
     refine stop _ 0 ?_
     rw[Oe b e l ck g.steps place g.high argv z f d a g.counts g.seen pl (x::s) e0 hc hs s0 s1 (by omega) hp rfl rfl (λ_=>rfl) nofun]
     rfl
   ·obtain⟨x,s,rfl⟩:=eO rfl (by rw[(b_ hr.1 hr.2 (by omega)).2 (by omega)]at ht;exact ht)
    rw[QA]at hst
    have ha:cB ck c ((a:Int)+1) pl (x::s)=if x.null=true then .go c.a pl s else .go ((a:Int)+1) pl (x::s):=by simp[cB,e0]
    have hp:=p89 f d ((a:Int)+1) none l ck (g.steps+1) place g.high none pl s g.counts g.seen c x (by omega)
    by_cases h0:x.null=true
    ·rw[TP h0]at ha hp
     rw[ha]
     refine go _ _ _ ha ?_
     rw[Of b e l ck g.steps place g.high argv z f d a g.counts g.seen pl (x::s) e0 hc hs s0 s1 (by omega) hp rfl rfl (λ_=>rfl) nofun,hse (by omega),fT (λq=>by have:=hh q;simp only[QA]at this;omega)]
     rfl
    ·rw[TN h0]at ha hp
     rw[ha]
     refine go _ _ _ ha ?_
     rw[Of b e l ck g.steps place g.high argv z f d a g.counts g.seen pl (x::s) e0 hc hs s0 s1 (by omega) hp rfl rfl (λ_=>rfl) nofun,hse (by omega),fT hh]
     rfl
   ·obtain⟨x,s,rfl⟩:=eO rfl (by rw[(b_ hr.1 hr.2 (by omega)).2 (by omega)]at ht;exact ht)
    rw[QA]at hst
    have ha:cB ck c ((a:Int)+1) pl (x::s)=if x.err=Qc #[]then .go ((a:Int)+1) pl (x::s)else .go c.a pl (x::s):=by simp[cB,e0]
    have hp:=p90 f d ((a:Int)+1) none l ck (g.steps+1) place g.high none pl s g.counts g.seen c x (by omega)
    by_cases h0:x.err=Qc #[]
    ·rw[TP h0]at ha hp
     rw[ha]
     refine go _ _ _ ha ?_
     rw[Og b e l ck g.steps place g.high argv z f d a g.counts g.seen pl (x::s) e0 hc hs s0 s1 (by omega) hp rfl rfl (λ_=>rfl) (λ_=>rfl),hse (by omega),fT hh]
     rfl
    ·rw[TN h0]at ha hp
     rw[ha]
     refine go _ _ _ ha ?_
     rw[Og b e l ck g.steps place g.high argv z f d a g.counts g.seen pl (x::s) e0 hc hs s0 s1 (by omega) hp rfl rfl (λ_=>rfl) (λ_=>rfl),hse (by omega),fT hh]
     rfl
   ·have ha:cB ck c ((a:Int)+1) pl st= .go c.a pl st:=by simp[cB,e0]
    rw[ha]
    refine go _ _ _ ha ?_
    rw[OH b e l ck g.steps place g.high argv z f d a g.counts g.seen pl st e0 hc hs s0 s1 (by omega) (p91 f d ((a:Int)+1) none l ck (g.steps+1) place g.high none pl st g.counts g.seen c) rfl rfl (λ_=>rfl) (λ_=>rfl),hse (by omega),fT hh]
    rfl
   ·obtain⟨x,s,rfl⟩:=eO rfl (by rw[(b_ hr.1 hr.2 (by omega)).2 (by omega)]at ht;exact ht)
    rw[QA]at hst
    have ha:cB ck c ((a:Int)+1) pl (x::s)= .go (if x.n=0 then c.a else(a:Int)+1) pl s:=by
     by_cases h0:x.n=0<;>simp[cB,e0,h0]
    rw[ha]
    refine go _ _ _ ha ?_
    rw[OI b e l ck g.steps place g.high argv z f d a g.counts g.seen pl (x::s) e0 hc hs s0 s1 (by omega) (p92 f d ((a:Int)+1) none l ck (g.steps+1) place g.high none pl s g.counts g.seen c x (by omega)) rfl rfl (λ_=>rfl) nofun,hse (by omega),fT (λq=>by have:=hh q;simp only[QA]at this;omega)]
    rfl
   ·have ha:=(qf hcode (ck:=ck) (at1:=(a:Int)+1) (pl:=pl) (st:=st)).mpr e0
    rw[ha]
    obtain⟨k,h,n,h1,h2,h3,h4,h5,h6,h7,h8,h9,h10⟩:=nO R A hc e0
    simp only[h1,h3,h4,Qs]
    by_cases hd:30<d+1
    ·rw[TP hd]
     have q:=p93 R h1 h4 h5 hst f (at1:=(a:Int)+1) hd1 hd2 ck place pl {g with steps:=g.steps+1} (x:=dh 0) (g2:={g with steps:=g.steps+1}) rfl (Eu (g:={g with steps:=g.steps+1}) hd)
     refine .inr ⟨by simp[Co],?_⟩
     rw[L7 b e l ck g.steps place g.high argv z f d a g.counts g.seen pl st e0 hc hs s0 s1 (by omega) q rfl rfl nofun nofun]
     simp only[Co,G.stop]
     rfl
    ·rw[TN hd]
     have G1:OkG l {g with steps:=g.steps+1,counts:=tw g.counts k}:=⟨by simp only[];omega,by simp only[];omega,G.kind,G.stop,by simp only[tw,Q6];exact G.cnt,G.seen⟩
     have A1:=h10 (by omega)
     have L:=gf R ck place N h (d+1) 0 _ [] _ A1 G1
     have I:=jW R ck place N h (d+1) 0 _ [] _ A1 G1 (λq=>by omega) (by simp only[];omega) (st.length-n) n ((st.map val).reverse) (val (dh 0))
     rw[Q5]at L I
     generalize hrr:f5 l ck place N h (d+1) 0 (c8 h (st.take n).reverse) [] {g with steps:=g.steps+1,counts:=tw g.counts k}=r at L I⊢
     have L0:=L.s0
     have L1:=L.s1
     have Lh:=L.high (by omega)
     simp only[]at L0 Lh
     have h40:=p40 h3 (b:=st.length-n) (e:=n) (argv:=(st.map val).reverse) (args:=(st.take n).reverse) (by rw[kB];omega) (GM st h5).2 (by simp;omega) (ck:=ck) (place:=place) (d:=d+1) (g:={g with steps:=g.steps+1}) (by omega) (by omega) h8 G.kind G.cnt h2 (λq=>by omega) (λq=>by omega) (r:=r) (by
      rw[TN (λq=>by omega)]
      exact I) L.zero
     have q:=p93 R h1 h4 h5 hst f (at1:=(a:Int)+1) hd1 hd2 ck place pl {g with steps:=g.steps+1} (x:=r.1) (g2:=r.2) (by rw[L.cnt];exact G.cnt.symm) h40
     by_cases hk:r.2.kind=0
     ·rw[TP hk]
      have een:zH r.2=none:=by unfold zH;rw[TP hk]
      rw[een]at q
      have G2:OkG l {r.2 with high:=d9 d r.2.high (st.length-n+1)}:=⟨by simp only[];omega,L1,hk,L.stop hk,L.cnt,L.seen⟩
      have ih:=jW R ck place N f d (a+1) pl _ _ (h9 r.1) G2 (λq=>by
       have:(((r.1::st.drop n).length:Nat):Int)=((st.length-n+1:Nat):Int):=by rw[QA,QO]
       rw[this];exact vL q) (by simp only[];omega) b e argv z
      have e1:(((a+1:Nat):Int))=(a:Int)+1:=rfl
      rw[e1]at ih
      unfold tC at ih⊢
      rw[e1]at ih
      rw[L7 b e l ck g.steps place g.high argv z f d a g.counts g.seen pl st e0 hc hs s0 s1 (by omega) q rfl (by rw[L.cnt];exact G.cnt.symm) nofun nofun]
      exact ih
     ·rw[TN hk]
      have een:zH r.2=some (bH.mk r.2.kind r.2.stop):=by unfold zH;rw[TN hk]
      rw[een]at q
      refine .inr ⟨hk,?_⟩
      rw[L7 b e l ck g.steps place g.high argv z f d a g.counts g.seen pl st e0 hc hs s0 s1 (by omega) q rfl (by rw[L.cnt];exact G.cnt.symm) nofun nofun]
      rfl
   ·obtain⟨x,s,rfl⟩:=eO rfl (by rw[(b_ hr.1 hr.2 (by omega)).2 (by omega)]at ht;exact ht)
    rw[QA]at hst
    have ha:cB ck c ((a:Int)+1) pl (x::s)= .ret x:=by simp[cB,e0]
    rw[ha]
    refine ret x ((a:Int)+1) pl s ?_
    rw[OJ b e l ck g.steps place g.high argv z f d a g.counts g.seen pl (x::s) e0 hc hs s0 s1 (by omega) (p94 f d ((a:Int)+1) none l ck (g.steps+1) place g.high none pl s g.counts g.seen c x (by omega)) rfl rfl (λ_=>rfl) nofun]
    rfl
   ·have ha:cB ck c ((a:Int)+1) pl st= .go ((a:Int)+1) pl (Item.mk 0 false c.name0::st):=by simp[cB,e0]
    rw[ha]
    refine go _ _ _ ha ?_
    rw[OK b e l ck g.steps place g.high argv z f d a g.counts g.seen pl st e0 hc hs s0 s1 (by omega) (p95 f d ((a:Int)+1) none l ck (g.steps+1) place g.high none pl st g.counts g.seen c (by omega)) rfl rfl (λ_=>rfl) nofun,hse (by omega)]
    rfl
   ·have ha:cB ck c ((a:Int)+1) pl st=if ck=true then .stop c.a else .ret (dh 0):=by simp[cB,e0]
    have hp:=p96 f d ((a:Int)+1) none l ck (g.steps+1) place g.high none pl st g.counts g.seen c
    by_cases h0:ck=true
    ·rw[TP h0]at ha hp
     rw[ha]
     refine stop _ 0 ?_
     rw[Oh b e l ck g.steps place g.high argv z f d a g.counts g.seen pl st e0 hc hs s0 s1 (by omega) hp rfl rfl (λ_=>rfl) (λ_=>rfl)]
     rfl
    ·rw[TN h0]at ha hp
     rw[ha]
     refine ret _ ((a:Int)+1) pl st ?_
     rw[Oh b e l ck g.steps place g.high argv z f d a g.counts g.seen pl st e0 hc hs s0 s1 (by omega) hp rfl rfl (λ_=>rfl) (λ_=>rfl)]
     rfl
end Go.Proofs.YtcghbgmmgcljkaaGreatDoor
end
