/-
  Texts of this claim, joined by a program of mine: what the theorem uses.
-/
import Derived.Test.YtcghbgmmgcljkaaGreatDoorPkI
open Array renaming length_toList→Rp,toList_inj→Rz
open Bool renaming and_eq_false_iff→Tj,and_eq_true→Qg,false_eq_true→Qf,false_or→SW,not_false→R7,not_true→Q8,or_eq_false_iff→Rm,or_eq_true→QV,true_and→RS
open ByteArray renaming mk→Qa
open ByteArray.toList renaming loop→SH
open Int renaming emod_emod_of_dvd→Tm,emod_nonneg→SK,le_refl→R0,mul_nonneg→Sy,natCast_dvd_natCast→SB,natCast_zero→Q_,one_mul→TG,toNat→QY,toNat_natCast→Qp,toNat_of_nonneg→SM
open Int.ofNat renaming inj→Tn
open List renaming all_cons→Rb,all_eq_true→Qm,any_cons→SU,any_eq_true→Rq,append_assoc→Q2,append_nil→Rj,countP_le_length→Ti,drop_eq_getElem_cons→S3,drop_eq_nil_of_le→RQ,drop_succ_cons→Tt,drop_zero→QW,getD_eq_getElem?_getD→So,getElem?_append_right→Qq,getElem?_cons_zero→Ri,getElem?_eq_getElem→Qe,getElem?_eq_none→RX,getElem?_map→Qc,getElem?_range→Rs,getElem_mem→Q3,length_append→Qx,length_cons→Qz,length_drop→QN,length_map→Qb,length_replicate→Rf,length_reverse→Sq,length_set→QU,length_singleton→RD,length_take→QM,map→RI,map_append→QT,map_cons→Qj,map_nil→QO,map_set→RC,mem_append→Qw,mem_append_left→Rx,mem_cons→Ql,mem_cons_of_mem→Qd,mem_cons_self→Qi,mem_map→QG,mem_of_getElem?→Qk,mem_of_mem_take→QX,mem_singleton→Q4,range→RA,replicate→QL,reverse_cons→SZ,take→R_,takeWhile_cons→Tp,take_of_length_le→QP
open List.cons renaming injEq→Rh
open Nat renaming le_refl→QB,min_eq_left→Rn,pow_dvd_pow→Tb,pow_le_pow_right→R1,pow_succ→TA,zero_add→Qt
open Option renaming bind_eq_bind→Qh,bind_some→P_,getD_some→Rc,isSome_some→St
open Option.some renaming injEq→P8
open Prod.mk renaming injEq→QD
open UInt8 renaming ofNat→Sk
noncomputable section
set_option linter.unusedSimpArgs false
set_option linter.unusedVariables false
section
namespace Go.Proofs.YtcghbgmmgcljkaaGreatDoor
open IntKind (i64)
set_option maxRecDepth 20000
def raw(b n:Int):Nat:=(n%2^b.toNat).toNat
def CR(op:Int)(x y:Nat):Nat:=if op=15 then x&&&y else if op=16 then x|||y else x^^^y
end Go.Proofs.YtcghbgmmgcljkaaGreatDoor
end
section
namespace Go.Proofs.YtcghbgmmgcljkaaGreatDoor
open IntKind (i64)
set_option maxRecDepth 20000
theorem lG{k:Nat}(h:k<=31)(c:Int)(hc: -2<=c/\c<=2):Bs.ishl .i64 c (k:Int)=c *2^k:=by
 have p2:2^k<=2^31:=R1 (by omega) h
 have e2:((2:Int)^k)=((2^k:Nat):Int):=by simp
 have p0:(0:Int)<2^k:=Int.pow_pos (by decide)
 show i64.wrap (c *2^min ((k:Int)).toNat 64)=_
 rw[Qp,Rn (by omega)]
 have:c= -2\/c= -1\/c=0\/c=1\/c=2:=by omega
 rcases this with h|h|h|h|h<;>subst h<;>exact w64 (by omega) (by omega)
theorem C9(t:bn)(h1:1<=t.bits)(h2:t.bits<=31):xp (t,())=some (hi t.signed t.bits,()):=by
 obtain⟨p1,p2,p3⟩:=iP h1 h2
 rw[xp]
 unfold hi
 by_cases hs:t.signed=true
 ·simp only[hs,TH]
  have e:i64.wrap (t.bits-1)=((t.bits.toNat-1:Nat):Int):=by rw[w64 (by omega) (by omega)];omega
  rw[e,TL (by omega),lG (by omega) 1 (by omega),w64 (by omega) (by omega),TG]
 ·simp only[hs,TI,Qf]
  have e:t.bits=((t.bits.toNat:Nat):Int):=by omega
  rw[TL (by omega),e,lG (by omega) 1 (by omega),<-e,w64 (by omega) (by omega),TG]
theorem HD(t:bn)(h1:1<=t.bits)(h2:t.bits<=31):Az (t,())=some (lo t.signed t.bits,()):=by
 obtain⟨p1,p2,p3⟩:=iP h1 h2
 rw[Az]
 unfold lo
 by_cases hs:t.signed=true
 ·simp only[hs,TH]
  have e:i64.wrap (t.bits-1)=((t.bits.toNat-1:Nat):Int):=by rw[w64 (by omega) (by omega)];omega
  rw[e,TL (by omega),lG (by omega) (-1) (by omega)]
  simp
 ·simp only[hs,TI,Qf]
theorem dU(t:bn)(n:Int)(h1:1<=t.bits)(h2:t.bits<=31):lj (t,n,())=some (decide (inT t.signed t.bits n),()):=by
 rw[lj]
 simp only[HD t h1 h2,C9 t h1 h2,Qh,P_,ge_iff_le,TJ]
 unfold inT
 by_cases h:lo t.signed t.bits<=n
 ·simp[h]
 ·simp[h]
theorem dI(t:bn)(n:Int)(h1:1<=t.bits)(h2:t.bits<=31):uc (t,n,())=some (q8 t.signed t.bits n,()):=by
 obtain⟨p1,p2,p3⟩:=iP h1 h2
 have m1:=SK n (show(2:Int)^t.bits.toNat≠0 by omega)
 have m2:=Int.emod_lt_of_pos n (show(0:Int)<2^t.bits.toNat by omega)
 have e:t.bits=((t.bits.toNat:Nat):Int):=by omega
 have es:Bs.ishl .i64 1 t.bits=2^t.bits.toNat:=by
  rw[e,lG (by omega) 1 (by omega),<-e,TG]
 have em:Bs.iand .i64 n (i64.wrap (2^t.bits.toNat-1))=n%2^t.bits.toNat:=by
  rw[w64 (by omega) (by omega),zW n (by omega)]
 rw[uc]
 simp only[C9 t h1 h2,es,em,Qh,P_,gt_iff_lt,TJ]
 rw[TL (by omega)]
 unfold q8 hi
 by_cases hs:t.signed=true
 ·simp only[hs,TH,true_and]
  by_cases h:2^(t.bits.toNat-1) -1<n%2^t.bits.toNat
  ·rw[TL h,TL (by omega),TL (by omega),w64 (by omega) (by omega)]
   rfl
  ·rw[TK h,TK (by omega)]
   rfl
 ·simp only[hs,TI,Qf,false_and]
  rw[TK (by omega)]
  rfl
theorem lQ(t:bn)(h1:1<=t.bits)(h2:t.bits<=31):nr (t,())=some (0,()):=by
 rw[nr]
 rw[TK (by simp;omega)]
 have:¬31<t.bits:=by omega
 simp[this]
def fl(op x y:Int):Option Int:=
 if op=5\/op=10\/op=13 then some (x+y)else if op=6\/op=11\/op=14 then some (x-y)else if op=7\/op=12 then some (x *y)else if y=0 then none else some (x.tdiv y)
def doS(op:Int)(s:Bool)(b x y:Int):Int×Int:=
 if 15<=op then(q8 s b ((CR op (raw b x) (raw b y):Nat):Int),0)else
 match fl op x y with
 |none=>(if op=9 then x else 0,2)
 |some n=>
  if op=10\/op=11\/op=12 then(q8 s b n,0)else
  if op=13\/op=14 then(L_ s b n,0)else
  if inT s b n then(if op=9 then x.tmod y else n,0)else(if op=9 then 0 else q8 s b n,1)
theorem HH{x y M:Int}(hx: -M<=x)(hx':x<=M)(hy: -M<=y)(hy':y<=M): -(M *M)<=x *y/\x *y<=M *M:=by
 have h1:0<=(M-x) *(M-y):=Sy (by omega) (by omega)
 have h2:0<=(M+x) *(M+y):=Sy (by omega) (by omega)
 have h3:0<=(M-x) *(M+y):=Sy (by omega) (by omega)
 have h4:0<=(M+x) *(M-y):=Sy (by omega) (by omega)
 simp only[Int.sub_mul,Int.add_mul,Int.mul_sub,Int.mul_add]at h1 h2 h3 h4
 have c1:=Int.mul_comm x M
 constructor<;>omega
theorem EW{x y:Int}: -(x.natAbs:Int)<=x.tdiv y/\x.tdiv y<=(x.natAbs:Int):=by
 have h:(x.tdiv y).natAbs<=x.natAbs:=by rw[Int.natAbs_tdiv];exact Nat.div_le_self _ _
 omega
theorem E4{x y:Int}(hy:y≠0):(0<=x->0<=x.tmod y/\x.tmod y<=x)/\(x<=0->x<=x.tmod y/\x.tmod y<=0):=by
 have hn:(x.tmod y).natAbs<=x.natAbs:=by rw[Int.natAbs_tmod];exact Nat.mod_le _ _
 constructor
 ·intro h
  have:=Int.tmod_nonneg y h
  omega
 ·intro h
  have:=Int.tmod_nonneg y (show 0<= -x by omega)
  rw[Int.neg_tmod]at this
  omega
theorem Ji{b:Int}(h1:1<=b)(h2:b<=31)(s:Bool): -1073741824<=lo s b/\lo s b<=0/\0<=hi s b/\hi s b<=2147483647:=by
 obtain⟨p1,p2,p3⟩:=iP h1 h2
 unfold lo hi
 cases s<;>simp<;>omega
end Go.Proofs.YtcghbgmmgcljkaaGreatDoor
end
section
namespace Go.Proofs.YtcghbgmmgcljkaaGreatDoor
open IntKind (i64)
set_option maxRecDepth 20000
def sG(n:Int):Nat:=(BitVec.ofInt 64 n).toNat
theorem EA(n:Int):(sG n:Int)=n%2^64:=by
 unfold sG
 rw[BitVec.toNat_ofInt]
 have:=SK n (show((2^64:Nat):Int)≠0 by decide)
 rw[SM this]
 rfl
theorem sH(n:Int){b:Int}(h1:1<=b)(h2:b<=31):sG n%2^b.toNat=raw b n:=by
 have e:=EA n
 have e2:((2:Int)^b.toNat)=((2^b.toNat:Nat):Int):=by simp
 have h:((sG n%2^b.toNat:Nat):Int)=n%2^b.toNat:=by
  rw[Int.natCast_emod,e,<-e2]
  exact Tm n (by
   rw[e2,show(2:Int)^64=((2^64:Nat):Int) by rfl,SB]
   exact Tb 2 (by omega))
 unfold raw
 omega
theorem Fm{m:Nat}(h:m<2^64):i64.wrap (m:Int)=if m<2^63 then(m:Int)else(m:Int) -2^64:=by
 unfold IntKind.wrap
 simp only[IntKind.bits,IntKind.signed,RS]
 split<;>rename_i h'<;>simp at h'<;>split<;>omega
def wL(op:Int)(x y:Int):Int:=if op=15 then Bs.iand .i64 x y else if op=16 then Bs.ior .i64 x y else Bs.ixor .i64 x y
theorem CQ(op x y:Int):wL op x y=i64.wrap ((CR op (sG x) (sG y):Nat):Int):=by
 unfold wL CR
 split
 ·show i64.wrap ((BitVec.ofInt 64 x&&&BitVec.ofInt 64 y).toNat:Int)=_
  rw[BitVec.toNat_and];rfl
 ·split
  ·show i64.wrap ((BitVec.ofInt 64 x|||BitVec.ofInt 64 y).toNat:Int)=_
   rw[BitVec.toNat_or];rfl
  ·show i64.wrap ((BitVec.ofInt 64 x^^^BitVec.ofInt 64 y).toNat:Int)=_
   rw[BitVec.toNat_xor];rfl
theorem G8(op:Int){x y k:Nat}(hx:x<2^k)(hy:y<2^k):CR op x y<2^k:=by
 unfold CR
 split
 ·exact Nat.and_lt_two_pow _ hy
 ·split
  ·exact Nat.or_lt_two_pow hx hy
  ·exact Nat.xor_lt_two_pow hx hy
theorem CS(op:Int)(x y k:Nat):CR op x y%2^k=CR op (x%2^k) (y%2^k):=by
 unfold CR
 split
 ·exact Nat.and_mod_two_pow
 ·split
  ·exact Nat.or_mod_two_pow
  ·exact Nat.xor_mod_two_pow
theorem pY(op:Int){s:Bool}{b x y:Int}(h1:1<=b)(h2:b<=31):
 q8 s b (wL op x y)=q8 s b ((CR op (raw b x) (raw b y):Nat):Int):=by
 refine wK ?_
 have lx:sG x<2^64:=(BitVec.ofInt 64 x).isLt
 have ly:sG y<2^64:=(BitVec.ofInt 64 y).isLt
 have lz:=G8 op lx ly
 rw[CQ,<-sH x h1 h2,<-sH y h1 h2,<-CS]
 have e2:((2:Int)^b.toNat)=((2^b.toNat:Nat):Int):=by simp
 rw[e2,Int.natCast_emod,Int.emod_emod,Fm lz]
 split
 ·rfl
 ·have hd:((2^b.toNat:Nat):Int)∣2^64:=by
   rw[show(2:Int)^64=((2^64:Nat):Int) by rfl,SB]
   exact Tb 2 (by omega)
  obtain⟨c,hc⟩:=hd
  rw[hc,Int.sub_mul_emod_self_left]
end Go.Proofs.YtcghbgmmgcljkaaGreatDoor
end
section
namespace Go.Proofs.YtcghbgmmgcljkaaGreatDoor
open IntKind (i64)
set_option maxRecDepth 20000
theorem vV{s:Bool}{b:Int}(h1:1<=b)(h2:b<=31)(n:Int):max (lo s b) (min (hi s b) n)=L_ s b n:=by
 have:=Ji h1 h2 s
 unfold L_
 split
 ·omega
 ·split<;>omega
theorem JZ(op:Int)(t:bn)(x y:Int)(h1:1<=t.bits)(h2:t.bits<=31)(hx:inT t.signed t.bits x)(hy:inT t.signed t.bits y)(ho:5<=op/\op<=17):
 Ay (op,t,x,y,())=some ((doS op t.signed t.bits x y).1,(doS op t.signed t.bits x y).2,()):=by
 have lx:=Dg h1 h2 hx
 have ly:=Dg h1 h2 hy
 have m:=HH (x:=x) (y:=y) (M:=2147483647) (by omega) (by omega) (by omega) (by omega)
 have d:=EW (x:=x) (y:=y)
 have w1:i64.wrap (x+y)=x+y:=w64 (by omega) (by omega)
 have w2:i64.wrap (x-y)=x-y:=w64 (by omega) (by omega)
 have w3:i64.wrap (x *y)=x *y:=w64 (by omega) (by omega)
 have w4:i64.wrap (x.tdiv y)=x.tdiv y:=w64 (by omega) (by omega)
 have hb:=Ji h1 h2 t.signed
 have k:op=5\/op=6\/op=7\/op=8\/op=9\/op=10\/op=11\/op=12\/op=13\/op=14\/op=15\/op=16\/op=17:=by omega
 rw[Ay]
 rcases k with h|h|h|h|h|h|h|h|h|h|h|h|h<;>subst h
 ·by_cases hin:inT t.signed t.bits (x+y)<;>
   simp[gN,xq,doS,fl,w1,dU t _ h1 h2,dI t _ h1 h2,hin]
 ·by_cases hin:inT t.signed t.bits (x-y)<;>
   simp[gN,xr,doS,fl,w2,dU t _ h1 h2,dI t _ h1 h2,hin]
 ·by_cases hin:inT t.signed t.bits (x *y)<;>
   simp[gN,AA,doS,fl,w3,dU t _ h1 h2,dI t _ h1 h2,hin]
 ·by_cases hy0:y=0
  ·simp[doS,fl,hy0]
  by_cases hin:inT t.signed t.bits (x.tdiv y)<;>
   simp[gN,D2,doS,fl,w4,dU t _ h1 h2,dI t _ h1 h2,hin,hy0]
 ·by_cases hy0:y=0
  ·simp[doS,fl,hy0]
  have hm:inT t.signed t.bits (x.tmod y):=by
   obtain⟨m1,m2⟩:=E4 (x:=x) hy0
   obtain⟨q1,q2⟩:=hx
   refine⟨?_,?_⟩
   ·rcases Int.le_total 0 x with h|h
    ·have:=m1 h;omega
    ·have:=m2 h;omega
   ·rcases Int.le_total 0 x with h|h
    ·have:=m1 h;omega
    ·have:=m2 h;omega
  by_cases hin:inT t.signed t.bits (x.tdiv y)
  ·simp[gN,AB,doS,fl,w4,dU t _ h1 h2,dI t _ h1 h2,hin,hy0,hm]
  ·have h0:x.tmod y=0:=by
    have hxy:x=y *x.tdiv y+x.tmod y:=(Int.mul_tdiv_add_tmod x y).symm
    have hd:(x.tdiv y).natAbs=x.natAbs/y.natAbs:=Int.natAbs_tdiv x y
    have hya:1<=y.natAbs:=by omega
    by_cases hy1:y.natAbs=1
    ·have:y=1\/y= -1:=by omega
     rcases this with h|h<;>subst h
     ·exact Int.tmod_one x
     ·rw[Int.tmod_neg];exact Int.tmod_one x
    ·exfalso
     refine hin ?_
     have h2':x.natAbs/y.natAbs<=x.natAbs/2:=Nat.div_le_div_left (by omega) (by omega)
     obtain⟨q1,q2⟩:=hx
     obtain⟨q3,q4⟩:=hy
     have hlh:t.signed=true->lo t.signed t.bits= -hi t.signed t.bits-1:=by
      intro hs;unfold lo hi;simp[hs];omega
     by_cases hs:t.signed=true
     ·have:=hlh hs
      refine⟨by omega,by omega⟩
     ·have hl0:lo t.signed t.bits=0:=by unfold lo;simp[hs]
      have:=Int.tdiv_nonneg (a:=x) (b:=y) (by omega) (by omega)
      refine⟨by omega,by omega⟩
   have hb0:q8 t.signed t.bits 0=0:=jP h1 h2 ⟨hb.2.1,hb.2.2.1⟩
   simp[gN,AB,doS,fl,w4,dU t _ h1 h2,dI t _ h1 h2,hin,hy0,hm,h0,hb0]
 ·simp[gN,xq,doS,fl,w1,dU t _ h1 h2,dI t _ h1 h2]
 ·simp[gN,xr,doS,fl,w2,dU t _ h1 h2,dI t _ h1 h2]
 ·simp[gN,AA,doS,fl,w3,dU t _ h1 h2,dI t _ h1 h2]
 ·simp[gN,xq,AC,doS,fl,w1,C9 t h1 h2,HD t h1 h2,vV h1 h2]
 ·simp[gN,xr,AC,doS,fl,w2,C9 t h1 h2,HD t h1 h2,vV h1 h2]
 ·have e:=pY 15 (s:=t.signed) (x:=x) (y:=y) h1 h2
  simp only[wL,TH]at e
  simp[gN,D6,doS,dI t _ h1 h2,e]
 ·have e:=pY 16 (s:=t.signed) (x:=x) (y:=y) h1 h2
  simp only[wL,TH,show(16:Int)≠15 by decide,TI]at e
  simp[gN,D8,doS,dI t _ h1 h2,e]
 ·have e:=pY 17 (s:=t.signed) (x:=x) (y:=y) h1 h2
  simp only[wL,show(17:Int)≠15 by decide,show(17:Int)≠16 by decide,TI]at e
  simp[gN,D_,doS,dI t _ h1 h2,e]
theorem vf(op:Int)(t:bn)(x y:Int)(h1:1<=t.bits)(h2:t.bits<=31)(hx:inT t.signed t.bits x)(hy:inT t.signed t.bits y)(ho:5<=op/\op<=17):
 Ax (op,t,x,y,())=some (0,()):=by
 rw[Ax]
 have a1:¬op<5:=by omega
 have a2:¬17<op:=by omega
 simp[lQ t h1 h2,dU t _ h1 h2,hx,hy,a1,a2]
theorem wV(op:Int)(t:bn)(x y:Int)(h1:1<=t.bits)(h2:t.bits<=31)(hx:inT t.signed t.bits x)(hy:inT t.signed t.bits y)(ho:5<=op/\op<=17):
 Dx (op,t,x,y,())=some (if(doS op t.signed t.bits x y).2=0 then(doS op t.signed t.bits x y).1 else 0,(doS op t.signed t.bits x y).2,0,()):=by
 rw[Dx]
 simp only[vf op t x y h1 h2 hx hy ho,JZ op t x y h1 h2 hx hy ho,Qh,P_,bne_self_eq_false,Qf,TI]
 by_cases h:(doS op t.signed t.bits x y).2=0
 ·simp[h]
 ·simp[h]
theorem Dk(op:Int)(t:bn)(x y:Int)(h1:1<=t.bits)(h2:t.bits<=31)(hx:inT t.signed t.bits x)(hy:inT t.signed t.bits y)(ho:5<=op/\op<=17):
 Dz (op,t,x,y,())=some ((doS op t.signed t.bits x y).1,0,()):=by
 rw[Dz]
 simp only[vf op t x y h1 h2 hx hy ho,JZ op t x y h1 h2 hx hy ho,Qh,P_,bne_self_eq_false,Qf,TI]
theorem Dn(t:bn)(n:Int)(h1:1<=t.bits)(h2:t.bits<=31):DO (t,n,())=some (q8 t.signed t.bits n,0,()):=by
 rw[DO]
 simp[lQ t h1 h2,dI t _ h1 h2]
theorem Dm(t:bn)(n:Int)(h1:1<=t.bits)(h2:t.bits<=31):DE (t,n,())=some (decide (inT t.signed t.bits n),0,()):=by
 rw[DE]
 simp[lQ t h1 h2,dU t _ h1 h2]
theorem HG(t:bn)(n:Int)(h1:1<=t.bits)(h2:t.bits<=31)(hn:inT t.signed t.bits n):
 DB (t,n,())=some (if inT t.signed t.bits (-n)then(-n,0,0,())else(0,1,0,())):=by
 have ln:=Dg h1 h2 hn
 have w:i64.wrap (-n)= -n:=w64 (by omega) (by omega)
 rw[DB]
 by_cases h:inT t.signed t.bits (-n)<;>simp[lQ t h1 h2,dU t _ h1 h2,hn,w,h]
end Go.Proofs.YtcghbgmmgcljkaaGreatDoor
end
section
namespace Go.Proofs.YtcghbgmmgcljkaaGreatDoor
set_option maxRecDepth 20000
open Go.Lib
theorem cA{α:Type}{l:List α}{k:Nat}(h:k<l.length):∃p,l[k]?=some p/\p∈l/\l.drop k=p::l.drop (k+1):=
 ⟨l[k],Qe h,Q3 h,S3 h⟩
theorem cY{α:Type}{l:List α}{k:Nat}(h:¬k<l.length):l.drop k=[]:=RQ (by omega)
theorem ew(s:ByteArray):s.data.toList.length=s.size:=Rp
theorem oa(s:ByteArray):∀(n i:Nat) (r:List UInt8),s.size-i=n->SH s i r=r.reverse++s.data.toList.drop i
 |0,i,r,h=>by
  have hs:=ew s
  rw[SH,TK (by omega),RQ (by omega),Rj]
 |n+1,i,r,h=>by
  have hs:=ew s
  have hi:i<s.data.toList.length:=by omega
  rw[SH,TL (by omega),oa s n (i+1) _ (by omega),S3 hi,SZ,Q2]
  have:s.get! i=s.data.toList[i]:=by
   show s.data[i]! =_
   rw[getElem!_pos s.data i (by rw[<-Rp];exact hi)];rfl
  rw[this];rfl
theorem n_(s:ByteArray):s.toList=s.data.toList:=by
 unfold ByteArray.toList
 rw[oa s _ 0 [] rfl];simp
theorem rf{a b:ByteArray}(h:a.data.toList=b.data.toList):a=b:=by
 cases a;cases b;simp only at h;congr 1;exact Rz.mp h
theorem io(a b:ByteArray):(a.toList==b.toList)=decide (a=b):=by
 rw[n_,n_]
 by_cases h:a=b
 ·subst h;simp
 ·rw[decide_eq_false h]
  exact beq_eq_false_iff_ne.mpr λh2=>h (rf h2)
theorem vg(s:ByteArray)(i:Nat):s[i]?=s.data.toList[i]?:=by
 have hs:=ew s
 by_cases h:i<s.size
 ·rw[getElem?_pos s i h,Qe (by omega)];rfl
 ·rw[getElem?_neg s i h,RX (by omega)]
def g_(c:UInt8):Bool:=(decide (97<=c.toNat)&&decide (c.toNat<=122))||(decide (65<=c.toNat)&&decide (c.toNat<=90))||decide (c.toNat=95)
def ga(c:UInt8):Bool:=decide (48<=c.toNat)&&decide (c.toNat<=57)
def gm(c:UInt8):Bool:=g_ c||ga c
def u2:List UInt8->Bool
 |[]=>false
 |c::r=>g_ c&&r.all gm
def yD(l:List UInt8):Nat:=(l.takeWhile gm).length
end Go.Proofs.YtcghbgmmgcljkaaGreatDoor
end
section
namespace Go.Proofs.YtcghbgmmgcljkaaGreatDoor
set_option maxRecDepth 20000
open Go.Lib
end Go.Proofs.YtcghbgmmgcljkaaGreatDoor
end
section
namespace Go.Proofs.YtcghbgmmgcljkaaGreatDoor
set_option maxRecDepth 20000
open Go.Lib
theorem oQ(s:ByteArray){a b:Nat}(hb:b<=s.size):(s.extract a b).data.toList=(s.data.toList.drop a).take (b-a):=by
 rw[ByteArray.data_extract,Array.toList_extract,List.extract_eq_take_drop]
end Go.Proofs.YtcghbgmmgcljkaaGreatDoor
end
section
namespace Go.Proofs.YtcghbgmmgcljkaaGreatDoor
open IntKind (u8)
set_option maxRecDepth 20000
open Go.Lib
def m4:Nat->Tq8->Option ((List Int)×(List Int)×Unit)
 |0,_=>none
 |k+1,v=>
 if decide (v.1<=122)=true then
  if 0<=v.1/\v.1<((256:Nat):Int)then
   if v.1.toNat<256 then
    if v.1.toNat<v.2.2.1.length then
     if 0<=u8.wrap (u8.wrap (v.1-97)+65)/\u8.wrap (u8.wrap (v.1-97)+65)<((256:Nat):Int)then
      if(u8.wrap (u8.wrap (v.1-97)+65)).toNat<256 then
       if(u8.wrap (u8.wrap (v.1-97)+65)).toNat<(v.2.2.1.set v.1.toNat 2).length then
        m4 k (u8.wrap (v.1+1),v.2.1,(v.2.2.1.set v.1.toNat 2).set (u8.wrap (u8.wrap (v.1-97)+65)).toNat 2,())
       else none
      else none
     else none
    else none
   else none
  else none
 else some ((v.2.1,v.2.2.1,()))
theorem f8{c:Prop}[Decidable c]{α:Type}{a b:Option α}{r:α}(h:(if c then a else none)=some r)(hab:a=some r->b=some r):(if c then b else none)=some r:=by
 by_cases hc:c
 ·rw[TL hc]at h⊢;exact hab h
 ·rw[TK hc]at h;cases h
theorem vG{c:Prop}[Decidable c]{α:Type}{a b d:Option α}{r:α}(h:(if c then a else d)=some r)(hab:a=some r->b=some r):(if c then b else d)=some r:=by
 by_cases hc:c
 ·rw[TL hc]at h⊢;exact hab h
 ·rw[TK hc]at h⊢;exact h
theorem Ke:∀(k:Nat) (v:Tq8) r,m4 k v=some r->iK v=some r
 |0,v,r,h=>by cases h
 |k+1,v,r,h=>by
  rw[m4]at h;rw[iK]
  exact vG h λh=>f8 h λh=>f8 h λh=>f8 h λh=>f8 h λh=>f8 h λh=>f8 h λh=>Ke k _ _ h
def m8:Nat->Tq8->Option ((List Int)×(List Int)×Unit)
 |0,_=>none
 |k+1,v=>
 if decide (v.1<=57)=true then
  if 0<=v.1/\v.1<((256:Nat):Int)then
   if v.1.toNat<256 then
    if v.1.toNat<v.2.2.1.length then
     m8 k (u8.wrap (v.1+1),v.2.1,v.2.2.1.set v.1.toNat 3,())
    else none
   else none
  else none
 else some ((v.2.1,v.2.2.1,()))
theorem Kf:∀(k:Nat) (v:Tq8) r,m8 k v=some r->iL v=some r
 |0,v,r,h=>by cases h
 |k+1,v,r,h=>by
  rw[m8]at h;rw[iL]
  exact vG h λh=>f8 h λh=>f8 h λh=>f8 h λh=>Kf k _ _ h
def o_(n:Nat):Int:=if n=32\/n=10 then 1 else if(97<=n/\n<=122)\/(65<=n/\n<=90)\/n=95 then 2 else if 48<=n/\n<=57 then 3 else 0
def tab:List Int:=(RA 256).map o_
theorem B8(c:UInt8):tab[c.toNat]?=some (o_ c.toNat):=by
 have:=c.toNat_lt
 unfold tab
 rw[Qc,Rs (by omega)];rfl
theorem EP:DG ()=some (tab,()):=by
 have h:(m4 30 (97,QL 256 0,(((QL 256 0).set (QY 32) 1).set (QY 10) 1).set (QY 95) 2,())>>=λx1=>m8 30 (48,x1.1,x1.2.1,())>>=λx2=>some (x2.2.1,()))=some (tab,()):=by kernel_rfl
 rw[DG]
 cases e:m4 30 (97,QL 256 0,(((QL 256 0).set (QY 32) 1).set (QY 10) 1).set (QY 95) 2,())with
 |none=>rw[e]at h;cases h
 |some x1=>
  rw[e]at h
  rw[Ke _ _ _ e]
  simp only[Qh,P_]at h⊢
  cases e2:m8 30 (48,x1.1,x1.2.1,())with
  |none=>rw[e2]at h;cases h
  |some x2=>
   rw[e2]at h
   rw[Kf _ _ _ e2]
   exact h
theorem Ad(c:UInt8):decide (o_ c.toNat>=2)=gm c:=by
 unfold o_ gm g_ ga
 by_cases h1:c.toNat=32\/c.toNat=10
 ·rw[TL h1]
  rcases h1 with h|h<;>rw[h]<;>rfl
 ·rw[TK h1]
  by_cases h2:(97<=c.toNat/\c.toNat<=122)\/(65<=c.toNat/\c.toNat<=90)\/c.toNat=95
  ·rw[TL h2]
   rcases h2 with h|h|h<;>simp[h]
  ·rw[TK h2]
   by_cases h3:48<=c.toNat/\c.toNat<=57
   ·rw[TL h3];simp[h3]
   ·rw[TK h3]
    symm
    simp only[ge_iff_le,Rm,Tj,decide_eq_false_iff_not,show¬(2:Int)<=0 by decide,TN]
    omega
theorem t7(c:UInt8):(o_ c.toNat==2)=g_ c:=by
 unfold o_ g_
 by_cases h1:c.toNat=32\/c.toNat=10
 ·rw[TL h1]
  rcases h1 with h|h<;>rw[h]<;>rfl
 ·rw[TK h1]
  by_cases h2:(97<=c.toNat/\c.toNat<=122)\/(65<=c.toNat/\c.toNat<=90)\/c.toNat=95
  ·rw[TL h2]
   rcases h2 with h|h|h<;>simp[h]
  ·rw[TK h2]
   have:((if 48<=c.toNat/\c.toNat<=57 then 3 else 0:Int)==2)=false:=by split<;>rfl
   rw[this]
   symm
   simp only[Rm,Tj,decide_eq_false_iff_not]
   omega
theorem sE(s:ByteArray)(hs:s.size<=8):∀(j i:Nat),i+j=s.size->co (s,(i:Int),tab,())=some (((i+yD (s.data.toList.drop i):Nat):Int),tab,())
 |0,i,h=>by
  rw[co]
  have hz:=ew s
  rw[cY (by omega)]
  have:¬(i:Int)<(s.size:Int):=by omega
  simp[this,yD]
 |j+1,i,h=>by
  have hz:=ew s
  obtain⟨c,hc,_,hd⟩:=cA (l:=s.data.toList) (k:=i) (by omega)
  have h1:(i:Int)<(s.size:Int):=by omega
  have h2:(0:Int)<=(i:Int):=by omega
  have hcl:=c.toNat_lt
  rw[co,hd]
  simp only[h1,h2,TM,TH,Qp,vg,hc,Qh,P_,B8,Ad]
  rw[TL (by omega),TL (by omega)]
  have e:yD (c::s.data.toList.drop (i+1))=if gm c=true then yD (s.data.toList.drop (i+1))+1 else 0:=by
   unfold yD
   rw[Tp]
   split<;>simp
  have ih:=sE s hs j (i+1) (by omega)
  have w:IntKind.i64.wrap ((i:Int)+1)=((i+1:Nat):Int):=by rw[w64 (by omega) (by omega)];omega
  rw[e]
  simp only[P_,w,ih]
  cases hl:gm c
  ·simp
  ·simp only[TH]
   rw[show i+1+yD (s.data.toList.drop (i+1))=i+(yD (s.data.toList.drop (i+1))+1) by omega]
theorem EF(l:List UInt8):(yD l=l.length)↔l.all gm=true:=by
 induction l with
 |nil=>simp[yD]
 |cons c r ih=>
  unfold yD at ih⊢
  rw[Tp,Rb]
  cases h:gm c
  ·simp
  ·simp[ih]
theorem Ez(s:ByteArray)(hs:s.size<=8):Do (s,())=some (u2 s.data.toList,()):=by
 have hz:=ew s
 rw[Do]
 simp only[EP,Qh,P_,io]
 match hd:s.data.toList with
 |[]=>
  have:s=Qa #[]:=rf hd
  simp[this,u2]
 |c::r=>
  have hne:¬s=Qa #[]:=by intro h;rw[h]at hd;simp at hd
  have hc:s[QY 0]?=some c:=by rw[vg,hd];rfl
  have hcl:=c.toNat_lt
  have hp:=sE s hs s.size 0 (by omega)
  rw[Q_,QW,hd,Qt]at hp
  simp only[hne,TN,R7,TH,hc,P_,Qp,B8,t7]
  rw[TL (by omega),TL (by omega),j3,hp]
  simp only[Qh,P_,u2]
  have ra:=EF (c::r)
  have hlen:(c::r).length=s.size:=by rw[<-hd,hz]
  cases hl:g_ c
  ·simp
  ·simp only[TH,P_,RS,P8,QD,and_true]
   have iw:gm c=true:=by simp[gm,hl]
   rw[Rb,iw,RS,hlen]at ra
   cases hr:r.all gm
   ·have:¬yD (c::r)=s.size:=by rw[ra,hr];decide
    simp;omega
   ·have:yD (c::r)=s.size:=by rw[ra,hr]
    simp[this]
end Go.Proofs.YtcghbgmmgcljkaaGreatDoor
end
section
namespace Go.Proofs.YtcghbgmmgcljkaaGreatDoor
set_option maxRecDepth 20000
open Go.Lib
instance (s:ByteArray) (R:List ByteArray):Decidable (s∈R):=decidable_of_iff (∃x∈R,x=s) (by simp)
abbrev Bzq(l:Array UInt8):ByteArray:=ByteArray.mk l
noncomputable def n_135 (v:Unit):Option ((List ByteArray) × Unit):=some (([Bzq #[102,110],Bzq #[99,111,110,115,116],Bzq #[118,97,114],Bzq #[99,111,109,112,116,105,109,101],Bzq #[114,101,116,117,114,110],Bzq #[101,114,114,111,114],Bzq #[105,102],Bzq #[101,108,115,101],Bzq #[119,104,105,108,101],Bzq #[102,111,114],Bzq #[105,110,108,105,110,101],Bzq #[115,119,105,116,99,104],Bzq #[100,101,102,101,114],Bzq #[101,114,114,100,101,102,101,114],Bzq #[98,114,101,97,107],Bzq #[99,111,110,116,105,110,117,101],Bzq #[103,105,118,101],Bzq #[117,110,114,101,97,99,104,97,98,108,101],Bzq #[116,114,117,101],Bzq #[102,97,108,115,101],Bzq #[97,110,100],Bzq #[111,114],Bzq #[116,114,121],Bzq #[99,97,116,99,104],Bzq #[111,114,101,108,115,101],Bzq #[100,111],Bzq #[118,111,105,100],Bzq #[98,111,111,108],Bzq #[116,121,112,101],Bzq #[95]],()))
noncomputable def xe:List ByteArray:=((n_135 ()).getD ([],())).1
theorem Dc:xe.length=30:=by kernel_rfl
theorem zI{c:ByteArray}{R:List ByteArray}(h1:c.size<4294967281/\c.data.toList.all (λb=>decide (b.toNat<128))=true)
 (h2:(Lib.fields c.data.toList).map (λl=>(⟨l.toArray⟩:ByteArray))=R):Aw (c,())=some (R,()):=by
 rw[Aw]
 simp only[]
 rw[TL h1,h2]
theorem oZ(R:List ByteArray)(hR:R.length<=100)(s:ByteArray):∀(j k:Nat),k+j=R.length->
 (s∈R.drop k/\∃i:Nat,gd (R,s,(R.length:Int),(k:Int),())=some (.inl ((i:Int),())))\/(¬s∈R.drop k/\gd (R,s,(R.length:Int),(k:Int),())=some (.inr ()))
 |0,k,h=>by
  right
  rw[gd,cY (by omega)]
  have:¬(k:Int)<(R.length:Int):=by omega
  simp[this]
 |j+1,k,h=>by
  obtain⟨x,hx,hm,hd⟩:=cA (l:=R) (k:=k) (by omega)
  have h1:(k:Int)<(R.length:Int):=by omega
  have h2:(0:Int)<=(k:Int):=by omega
  have w:IntKind.i64.wrap ((k:Int)+1)=((k+1:Nat):Int):=by rw[w64 (by omega) (by omega)];omega
  have ih:=oZ R hR s j (k+1) (by omega)
  rw[gd,hd]
  simp only[h1,h2,TM,TH,Qp,hx,Qh,P_,io,TJ,Ql,w]
  by_cases e:s=x
  ·left
   rw[TL e]
   exact⟨.inl e,k,rfl⟩
  ·simp only[e,TI,false_or]
   exact ih
theorem Ih(s:ByteArray):Dq (s,())=some (decide (s∈xe),()):=by
 rw[Dq,zI (R:=xe)]
 ·have h:=oZ xe (by rw[Dc];decide) s _ 0 (Qt _)
  rw[Q_,QW]at h
  simp only[Qh,P_,HM,HQ]
  rcases h with⟨hm,i,h⟩|⟨hm,h⟩
  ·simp only[h,P_,hm,TM]
   have:(0:Int)<=(i:Int):=by omega
   simp[this]
  ·simp[h,hm]
 ·refine⟨?_,?_⟩
  ·decide
  ·decide
 ·kernel_rfl
end Go.Proofs.YtcghbgmmgcljkaaGreatDoor
end
section
namespace Go.Proofs.YtcghbgmmgcljkaaGreatDoor
set_option maxRecDepth 20000
open Go.Lib
def Hk(d:Nat):ByteArray:=Qa #[Sk (48+d)]
def N5:ByteArray:=Qa #[48,49,50,51,52,53,54,55,56,57,97,98,99,100,101,102]
def Li:Nat->Nat->ByteArray->ByteArray
 |0,n,a=>Hk n++a
 |k+1,n,a=>if n<10 then Hk n++a else Li k (n/10) (Hk (n%10)++a)
def dec(n:Nat):ByteArray:=Li 7 n (Qa #[])
theorem zw{d:Nat}(h:d<10):∃x,N5[d]?=some x/\Bs.enc1 (x.toNat:Int)=Hk d:=by
 have:d=0\/d=1\/d=2\/d=3\/d=4\/d=5\/d=6\/d=7\/d=8\/d=9:=by omega
 rcases this with h|h|h|h|h|h|h|h|h|h<;>subst h<;>exact⟨_,rfl,by decide⟩
theorem mD(d:Nat):(Hk d).size=1:=rfl
theorem wY{n:Nat}(hn:n<1000000000):(n:Int).tmod 10=((n%10:Nat):Int)/\IntKind.i64.wrap ((n:Int).tdiv 10)=((n/10:Nat):Int):=by
 have e1:(n:Int).tdiv 10=((n/10:Nat):Int):=by
  rw[Int.tdiv_eq_ediv_of_nonneg (by omega)];omega
 refine⟨?_,?_⟩
 ·rw[Int.tmod_eq_emod_of_nonneg (by omega)];omega
 ·rw[e1,w64 (by omega) (by omega)]
theorem sC:∀(k n:Nat) (a:ByteArray),n<10^(k+1)->k<=7->a.size+k<=100->
 ∃(m:Nat) (a':ByteArray),cv ((n:Int),10,a,())=some ((m:Int),a',())/\m<10/\Hk m++a'=Li k n a/\a'.size<=100
 |0,n,a,hn,hk,ha=>by
  have:n<10:=by simpa using hn
  rw[cv]
  have h1:¬(10:Int)<=(n:Int):=by omega
  simp only[ge_iff_le,h1,TN,Qf,TI]
  exact⟨n,a,rfl,this,rfl,by omega⟩
 |k+1,n,a,hn,hk,ha=>by
  rw[cv,Li]
  by_cases h:n<10
  ·have h1:¬(10:Int)<=(n:Int):=by omega
   simp only[ge_iff_le,h1,TN,Qf,TI,TL h]
   exact⟨n,a,rfl,h,rfl,by omega⟩
  ·have h1:(10:Int)<=(n:Int):=by omega
   have p8:10^(k+1+1)<=10^8:=R1 (by omega) (by omega)
   obtain⟨e1,e2⟩:=wY (n:=n) (by omega)
   obtain⟨x,hx,he⟩:=zw (d:=n%10) (by omega)
   have hx':(Qa #[48,49,50,51,52,53,54,55,56,57,97,98,99,100,101,102])[n%10]?=some x:=hx
   have h0:(0:Int)<=((n%10:Nat):Int):=by omega
   have ih:=sC k (n/10) (Hk (n%10)++a) (by rw[TA]at hn;omega) (by omega) (by rw[ByteArray.size_append,mD];omega)
   simp only[ge_iff_le,h1,TM,TH,e1,e2,h0,Qp,hx',Qh,P_,he,show¬(10:Int)=0 by decide,TI,TK h,mD]
   rw[TL (by omega)]
   exact ih
theorem Id{n:Nat}(hn:n<100000000):oq ((n:Int),10,())=some (dec n,()):=by
 obtain⟨m,a,h,hm,hd,hs⟩:=sC 7 n (Qa #[]) (by simpa using hn) (by omega) (by decide)
 obtain⟨x,hx,he⟩:=zw hm
 have hx':(Qa #[48,49,50,51,52,53,54,55,56,57,97,98,99,100,101,102])[m]?=some x:=hx
 have h1:¬(n:Int)<0:=by omega
 have h0:(0:Int)<=(m:Int):=by omega
 rw[oq]
 simp only[h1,TN,Qf,TI,h,Qh,P_,h0,TH,Qp,hx',he,mD]
 rw[TL (by omega),hd];rfl
end Go.Proofs.YtcghbgmmgcljkaaGreatDoor
end
section
namespace Go.Proofs.YtcghbgmmgcljkaaGreatDoor
set_option maxRecDepth 20000
open Go.Lib
def fN:List UInt8->Nat->Option Nat
 |[],a=>some a
 |c::r,a=>if ga c=true then fN r (10 *a+(c.toNat-48))else none
theorem mZ(c:UInt8):Lib.indexByte [48,49,50,51,52,53,54,55,56,57] c=if ga c=true then((c.toNat-48:Nat):Int)else-1:=by
 have h:∀n:Fin 256,Lib.indexByte [48,49,50,51,52,53,54,55,56,57] (Sk n.val)=if ga (Sk n.val)=true then(((Sk n.val).toNat-48:Nat):Int)else-1:=by decide+kernel
 have hc:=c.toNat_lt
 have:=h ⟨c.toNat,by omega⟩
 simp only[UInt8.ofNat_toNat]at this
 exact this
theorem JY:(N5.extract 0 10).data.toList=[48,49,50,51,52,53,54,55,56,57]:=by decide
theorem pg(s:ByteArray)(hs:s.size<=7):∀(j i a:Nat),i+j=s.size->a<10^i->
 gM (s,10,(a:Int),s,(s.size:Int),(i:Int),())=match fN (s.data.toList.drop i) a with
  |none=>some (.inl (0,2,()))
  |some n=>some (.inr (s,10,(n:Int),s,()))
 |0,i,a,h,ha=>by
  have hz:=ew s
  rw[gM,cY (by omega)]
  have:¬(i:Int)<(s.size:Int):=by omega
  simp[this,fN]
 |j+1,i,a,h,ha=>by
  have hz:=ew s
  obtain⟨c,hc,_,hd⟩:=cA (l:=s.data.toList) (k:=i) (by omega)
  have h1:(i:Int)<(s.size:Int):=by omega
  have h2:(0:Int)<=(i:Int):=by omega
  have hcl:=c.toNat_lt
  have p7:10^i<=10^7:=R1 (by omega) (by omega)
  have h16:(Qa #[48,49,50,51,52,53,54,55,56,57,97,98,99,100,101,102]).size=16:=rfl
  have hx:=JY
  have hx':((Qa #[48,49,50,51,52,53,54,55,56,57,97,98,99,100,101,102]).extract (QY 0) (QY 10)).data.toList=[48,49,50,51,52,53,54,55,56,57]:=hx
  have hcn:c.toNat.toUInt8=c:=UInt8.ofNat_toNat
  have w:IntKind.i64.wrap ((i:Int)+1)=((i+1:Nat):Int):=by rw[w64 (by omega) (by omega)];omega
  have w1:IntKind.i64.wrap ((a:Int) *10)=((10 *a:Nat):Int):=by rw[w64 (by omega) (by omega)];omega
  rw[gM,hd,fN]
  simp only[h1,h2,TM,TH,h16]
  rw[TL (by omega)]
  simp only[Qp,vg,hc,Qh,P_,HS,HU,hx',hcn]
  cases hg:ga c
  ·have hix:Lib.indexByte [48,49,50,51,52,53,54,55,56,57] c= -1:=by rw[mZ,hg];rfl
   rw[hix]
   rfl
  ·have hix:Lib.indexByte [48,49,50,51,52,53,54,55,56,57] c=((c.toNat-48:Nat):Int):=by rw[mZ,hg];rfl
   rw[hix]
   have hg':48<=c.toNat/\c.toNat<=57:=by unfold ga at hg;simpa using hg
   have h3:¬((c.toNat-48:Nat):Int)<0:=by omega
   have h4:¬(a:Int)>1099511627776:=by omega
   have ih:=pg s hs j (i+1) (10 *a+(c.toNat-48)) (by omega) (by rw[TA];omega)
   have w2:IntKind.i64.wrap (((10 *a:Nat):Int)+((c.toNat-48:Nat):Int))=((10 *a+(c.toNat-48):Nat):Int):=by rw[w64 (by omega) (by omega)];omega
   simp only[TH,h3,h4,TN,Qf,TI,P_,w2,w1,w]
   exact ih
theorem sx:∀(l:List UInt8) (a n k:Nat),fN l a=some n->a<10^k->n<10^(k+l.length)
 |[],a,n,k,h,ha=>by simp[fN]at h;rw[<-h];exact ha
 |c::r,a,n,k,h,ha=>by
  rw[fN]at h
  cases hg:ga c
  ·rw[hg]at h;simp at h
  ·rw[hg]at h
   simp only[TH]at h
   have hg':48<=c.toNat/\c.toNat<=57:=by unfold ga at hg;simpa using hg
   have:=sx r (10 *a+(c.toNat-48)) n (k+1) h (by rw[TA];omega)
   rw[Qz,show k+(r.length+1)=k+1+r.length by omega]
   exact this
theorem Ep(s:ByteArray)(hs:s.size<=7)(hw:∀c∈s.data.toList,gm c=true):
 DK (s,10,())=some (match fN s.data.toList 0 with|none=>(0,2,())|some n=>if dec n=s then((n:Int),0,())else(0,2,())):=by
 have hz:=ew s
 have hp:DS (s,Qa #[45],())=some (s,()):=by
  have h45:(Qa #[45]).size=1:=rfl
  rw[DS,HT,HV]
  simp only[h45,io]
  by_cases h1:1<=s.size
  ·rw[TL (by simp;omega),TL (by omega)]
   have:¬s.extract 0 1=Qa #[45]:=by
    intro e
    have e2:(s.extract 0 1).data.toList=[45]:=by
     rw[e]
    rw[oQ s h1,QW]at e2
    have:(45:UInt8)∈s.data.toList:=by
     have:(45:UInt8)∈s.data.toList.take (1-0):=by rw[e2];exact Qi ..
     exact QX this
    have:=hw _ this
    revert this;decide
   show(some (decide (s.extract 0 1=Qa #[45]),())>>=_)>>=_=_
   simp[this]
  ·rw[TK (by simp;omega)]
   simp
 have lp:=pg s hs s.size 0 0 (by omega) (by decide)
 rw[Q_,QW]at lp
 rw[DK,HR]
 simp only[hp,Qh,show decide ((10:Int)>=2)=true by decide,show decide ((10:Int)<=16)=true by decide,TH,P_,Q8,Qf,TI,lp]
 cases h:fN s.data.toList 0 with
 |none=>rfl
 |some n=>
  have hn:=sx _ 0 n 0 h (by decide)
  have p7:10^(0+s.data.toList.length)<=10^7:=R1 (by omega) (by omega)
  have h1:¬(n:Int)< -1099511627776:=by omega
  have h2:¬(n:Int)>1099511627776:=by omega
  simp only[P_,Int.lt_irrefl,TN,Qf,TI,h1,h2,Id (n:=n) (by omega),io]
  by_cases e:dec n=s
  ·simp[e]
  ·simp[e]
end Go.Proofs.YtcghbgmmgcljkaaGreatDoor
end
section
namespace Go.Proofs.YtcghbgmmgcljkaaGreatDoor
set_option maxRecDepth 20000
open Go.Lib
def CF(s:Bool)(b:Nat):ByteArray:=(if s=true then Qa #[105]else Qa #[117])++dec b
def k_(s:ByteArray):Nat->Nat->Bool
 |0,_=>false
 |j+1,b=>decide (CF false b=s)||decide (CF true b=s)||k_ s j (b+1)
theorem j_(s:ByteArray):∀(j b:Nat),k_ s j b=true↔∃n,b<=n/\n<b+j/\(CF false n=s\/CF true n=s)
 |0,b=>by
  constructor
  ·intro h;cases h
  ·rintro⟨n,h1,h2,_⟩;omega
 |j+1,b=>by
  rw[k_,QV,QV,TJ,TJ,j_ s j (b+1)]
  constructor
  ·rintro(h|⟨n,h1,h2,h3⟩)
   ·exact⟨b,QB _,by omega,h⟩
   ·exact⟨n,by omega,by omega,h3⟩
  ·rintro⟨n,h1,h2,h3⟩
   by_cases e:n=b
   ·subst e;exact .inl h3
   ·exact .inr ⟨n,by omega,by omega,h3⟩
theorem rx:∀n:Fin 32,fN (dec n.val).data.toList 0=some n.val:=by decide+kernel
theorem gD(s:Bool)(b:Nat):(CF s b).data.toList=(if s=true then 105 else 117)::(dec b).data.toList:=by
 unfold CF
 rw[ByteArray.data_append,Array.toList_append]
 cases s<;>rfl
theorem Ex(s:ByteArray)(hs:s.size<=8)(hw:u2 s.data.toList=true):∃e t,Ds (s,())=some (e,t,())/\(e !=0)= !(k_ s 31 1):=by
 have hz:=ew s
 have no:(∀n,1<=n->n<32->CF false n≠s/\CF true n≠s)->k_ s 31 1=false:=by
  intro h
  cases e:k_ s 31 1
  ·rfl
  ·obtain⟨n,h1,h2,h3⟩:=(j_ s 31 1).mp e
   have:=h n h1 (by omega)
   rcases h3 with h3|h3
   ·exact absurd h3 this.1
   ·exact absurd h3 this.2
 match hd:s.data.toList,hw with
 |c::r,hw=>
  rw[u2,Qg]at hw
  have hc:s[QY 0]?=some c:=by rw[vg,hd];rfl
  have hlen:r.length+1=s.size:=by rw[<-hz,hd,Qz]
  have hcl:=c.toNat_lt
  rw[Ds]
  by_cases h2:s.size<2
  ·have h2':(s.size:Int)<2:=by omega
   simp only[h2',TM,TH,Qh,P_]
   refine⟨_,_,rfl,?_⟩
   rw[no]
   ·rfl
   ·intro n h1 h3
    have hr:r=[]:=List.length_eq_zero_iff.mp (by omega)
    have hp:=rx ⟨n,by omega⟩
    refine⟨?_,?_⟩<;>intro e<;>have e2:=congrArg (λb=>b.data.toList) e<;>simp only[gD,hd,hr,Rh]at e2<;>simp only[e2.2,fN,P8]at hp<;>omega
  ·have h2':¬(s.size:Int)<2:=by omega
   simp only[h2',TN,Qf,TI,hc,Qh,P_]
   by_cases hui:c=117\/c=105
   ·have hq:((if(((c.toNat:Int) !=117)=true)then some (s,(c.toNat:Int) !=105,bn.mk false 0,())else some (s,false,bn.mk false 0,())):Option (ByteArray×Bool×bn×Unit))=some (s,false,bn.mk false 0,()):=by
     rcases hui with h|h<;>subst h<;>rfl
    rw[hq]
    simp only[P_,Qf,TI]
    have h1s:(1:Int)<=(s.size:Int):=by omega
    rw[TL ⟨by decide,h1s,R0 _⟩]
    have hx:(s.extract (QY 1) (QY (s.size:Int))).data.toList=r:=by
     rw[Qp,oQ s (QB _),hd]
     show(r.take (s.size-1))=r
     exact QP (by omega)
    have hxs:(s.extract (QY 1) (QY (s.size:Int))).size=r.length:=by rw[<-ew,hx]
    have hp:=Ep (s.extract (QY 1) (QY (s.size:Int))) (by omega) (by rw[hx];exactλc hc=>Qm.mp hw.2 c hc)
    rw[hx]at hp
    generalize hr:s.extract (QY 1) (QY (s.size:Int))=rb at *
    have key:∀n,1<=n->n<32->(CF false n=s\/CF true n=s)->fN r 0=some n/\dec n=rb:=by
     intro n h1 h3 h4
     have hp:=rx ⟨n,by omega⟩
     have e:(dec n).data.toList=r:=by
      rcases h4 with h4|h4<;>have e2:=congrArg (λb=>b.data.toList) h4<;>simp only[gD,hd,Rh]at e2<;>exact e2.2
     exact⟨by rw[<-e];exact hp,rf (by rw[e,hx])⟩
    simp only[hp,P_,hc]
    cases hpl:fN r 0 with
    |none=>
     simp only[]
     refine⟨_,_,rfl,?_⟩
     rw[no]
     ·rfl
     ·intro n h1 h3
      refine⟨?_,?_⟩<;>intro e
      ·have:=(key n h1 h3 (.inl e)).1;rw[hpl]at this;cases this
      ·have:=(key n h1 h3 (.inr e)).1;rw[hpl]at this;cases this
    |some n=>
     simp only[]
     by_cases hdn:dec n=rb
     ·rw[TL hdn]
      simp only[bne_self_eq_false,Qf,TI,nr]
      by_cases hb:1<=n/\n<=31
      ·have b1:¬(n:Int)<1:=by omega
       have b2:¬(n:Int)>31:=by omega
       simp only[b1,b2,TN,Qf,TI,P_,bne_self_eq_false]
       refine⟨_,_,rfl,?_⟩
       have:k_ s 31 1=true:=by
        rw[j_]
        refine⟨n,hb.1,by omega,?_⟩
        have hrl:(dec n).data.toList=r:=by rw[hdn,hx]
        rcases hui with h|h
        ·left;exact rf (by rw[gD,hrl,hd,h];rfl)
        ·right;exact rf (by rw[gD,hrl,hd,h];rfl)
       rw[this];rfl
      ·have hb':(if decide ((n:Int)<1)=true then some (true,())else some (decide ((n:Int)>31),()))=some (true,()):=by
        by_cases b1:(n:Int)<1
        ·simp[b1]
        ·have:(n:Int)>31:=by omega
         simp[b1,this]
       rw[hb']
       refine⟨_,_,rfl,?_⟩
       rw[no]
       ·rfl
       ·intro m h1 h3
        refine⟨?_,?_⟩<;>intro e
        ·have:=(key m h1 h3 (.inl e)).1;rw[hpl,P8]at this;omega
        ·have:=(key m h1 h3 (.inr e)).1;rw[hpl,P8]at this;omega
     ·rw[TK hdn]
      refine⟨_,_,rfl,?_⟩
      rw[no]
      ·rfl
      ·intro m h1 h3
       refine⟨?_,?_⟩<;>intro e
       ·have:=key m h1 h3 (.inl e);rw[hpl,P8]at this;rw[this.1]at hdn;exact hdn this.2
       ·have:=key m h1 h3 (.inr e);rw[hpl,P8]at this;rw[this.1]at hdn;exact hdn this.2
   ·have n1:((c.toNat:Int) !=117)=true:=by
     have:c≠117:=λe=>hui (.inl e)
     have:c.toNat≠117:=λe=>this (UInt8.toNat_inj.mp e)
     simp;omega
    have n2:((c.toNat:Int) !=105)=true:=by
     have:c≠105:=λe=>hui (.inr e)
     have:c.toNat≠105:=λe=>this (UInt8.toNat_inj.mp e)
     simp;omega
    simp only[n1,n2,TH,P_]
    refine⟨_,_,rfl,?_⟩
    rw[no]
    ·rfl
    ·intro n h1 h3
     refine⟨?_,?_⟩<;>intro e<;>have e2:=congrArg (λb=>b.data.toList) e<;>simp only[gD,hd,Rh]at e2
     ·exact hui (.inl e2.1.symm)
     ·exact hui (.inr e2.1.symm)
noncomputable def m7(s:ByteArray):Bool:=decide (s.size<=8)&&u2 s.data.toList&& !(decide (s∈xe))&& !(k_ s 31 1)
theorem jz(s:ByteArray):I2 (s,())=some (m7 s,()):=by
 rw[I2]
 unfold m7
 by_cases h8:s.size<=8
 ·have h1:¬(s.size:Int)>8:=by omega
  simp only[h1,TN,Qf,TI,Ez s h8,Ih,Qh,P_,h8,TM,RS]
  cases hw:u2 s.data.toList
  ·rfl
  ·obtain⟨e,t,ht,he⟩:=Ex s h8 hw
   by_cases hk:s∈xe
   ·simp[hk]
   ·simp only[hk,TN,Q8,Qf,TI,P_,ht,R7,RS,he]
 ·have h1:(s.size:Int)>8:=by omega
  simp[h1,h8]
end Go.Proofs.YtcghbgmmgcljkaaGreatDoor
end
section
namespace Go.Proofs.YtcghbgmmgcljkaaGreatDoor
set_option maxRecDepth 20000
noncomputable def c8(t:ak):Bool:=
 if t.base=2\/t.base=3 then decide (1<=t.bits/\t.bits<=31)&&decide (t.name0=Qa #[])
 else if t.base=5 then decide (t.bits=0)&&m7 t.name0
 else if t.base=0 then decide (t.bits=0)&&decide (t.name0=Qa #[])&& !t.opt
 else if t.base=4 then decide (t.bits=0)&&decide (t.name0=Qa #[])&& !t.opt&& !t.err
 else decide (t.base=1)&&decide (t.bits=0)&&decide (t.name0=Qa #[])
theorem Ey(t:ak):Du (t,())=some (c8 t,()):=by
 rw[Du]
 unfold c8
 simp only[io,jz,Qh,beq_iff_eq,HO,HP,nr]
 by_cases h2:t.base=2
 ·by_cases hb1:t.bits<1
  ·cases ho:t.opt<;>cases he:t.err<;>simp[h2,hb1,ho,he]<;>omega
  ·by_cases hb2:t.bits>31
   ·cases ho:t.opt<;>cases he:t.err<;>simp[h2,hb1,hb2,ho,he]<;>omega
   ·have:1<=t.bits/\t.bits<=31:=⟨by omega,by omega⟩
    cases ho:t.opt<;>cases he:t.err<;>simp[h2,hb1,hb2,ho,he,this]
 by_cases h3:t.base=3
 ·by_cases hb1:t.bits<1
  ·cases ho:t.opt<;>cases he:t.err<;>simp[h3,hb1,ho,he]<;>omega
  ·by_cases hb2:t.bits>31
   ·cases ho:t.opt<;>cases he:t.err<;>simp[h3,hb1,hb2,ho,he]<;>omega
   ·have:1<=t.bits/\t.bits<=31:=⟨by omega,by omega⟩
    cases ho:t.opt<;>cases he:t.err<;>simp[h3,hb1,hb2,ho,he,this]
 by_cases h5:t.base=5
 ·by_cases hb:t.bits=0<;>cases ho:t.opt<;>cases he:t.err<;>cases hn:m7 t.name0<;>simp[h5,hb,ho,he,hn]
 by_cases h0:t.base=0
 ·by_cases hb:t.bits=0<;>by_cases hn:t.name0=Qa #[]<;>cases ho:t.opt<;>cases he:t.err<;>simp[h0,hb,hn,ho,he]
 by_cases h4:t.base=4
 ·by_cases hb:t.bits=0<;>by_cases hn:t.name0=Qa #[]<;>cases ho:t.opt<;>cases he:t.err<;>simp[h4,hb,hn,ho,he]
 by_cases h1:t.base=1
 ·by_cases hb:t.bits=0<;>by_cases hn:t.name0=Qa #[]<;>cases ho:t.opt<;>cases he:t.err<;>simp[h1,hb,hn,ho,he]
 ·have:t.base<0\/t.base>5:=by omega
  rcases this with h|h
  ·simp[h2,h3,h5,h0,h4,h1,h]
  ·by_cases h':t.base<0
   ·simp[h2,h3,h5,h0,h4,h1,h']
   ·simp[h2,h3,h5,h0,h4,h1,h,h']
noncomputable def gn(t:ak):Bool:=c8 t&&decide (t.base<=3)
noncomputable def de(t:ak):Bool:=c8 t&&decide (t.base=2\/t.base=3)&& !t.opt&& !t.err
theorem sF(t:ak):Kk (t,())=some (if c8 t=true then 0 else 1,()):=by
 rw[Kk]
 cases h:c8 t<;>simp[Ey,h]
theorem gR(t:ak):At (t,())=some (c8 t&& !t.opt&& !t.err,()):=by
 rw[At]
 simp only[sF]
 cases h:c8 t<;>cases ho:t.opt<;>cases he:t.err<;>simp[ho,he]
theorem qJ(t:ak):xi (t,())=some (de t,()):=by
 rw[xi]
 simp only[gR]
 unfold de
 cases h:c8 t<;>cases ho:t.opt<;>cases he:t.err<;>by_cases h2:t.base=2<;>by_cases h3:t.base=3<;>simp[ho,he,h2,h3]
end Go.Proofs.YtcghbgmmgcljkaaGreatDoor
end
section
namespace Go.Proofs.YtcghbgmmgcljkaaGreatDoor
open IntKind (i64)
set_option maxRecDepth 20000
def mM:List af->ByteArray->Nat->Int
 |[],_,_=> -1
 |f::r,s,k=>if f.name0=s then(k:Int)else mM r s (k+1)
def bP(l:List af)(s:ByteArray):Int:=mM l s 0
theorem qe:∀(l:List af) (s:ByteArray) (k:Nat),mM l s k= -1\/((k:Int)<=mM l s k/\mM l s k<k+l.length)
 |[],_,_=> .inl rfl
 |f::r,s,k=>by
  rw[mM]
  split
  ·right;simp;omega
  ·rcases qe r s (k+1)with h|h
   ·exact .inl h
   ·right;rw[Qz];omega
theorem ph(l:List af)(hl:l.length<=4294967296)(s:ByteArray):∀(j k:Nat),k+j=l.length->
 cM (l,(l.length:Int),(k:Int),s,())=if mM (l.drop k) s k= -1 then some (.inr (s,()))else some (.inl (mM (l.drop k) s k,s,()))
 |0,k,h=>by
  rw[cM,cY (by omega)]
  have:¬(k:Int)<(l.length:Int):=by omega
  simp[this,mM]
 |j+1,k,h=>by
  obtain⟨x,hx,hm,hd⟩:=cA (l:=l) (k:=k) (by omega)
  have h1:(k:Int)<(l.length:Int):=by omega
  have h2:(0:Int)<=(k:Int):=by omega
  have w:i64.wrap ((k:Int)+1)=((k+1:Nat):Int):=by rw[w64 (by omega) (by omega)];omega
  have ih:=ph l hl s j (k+1) (by omega)
  rw[cM,hd,mM]
  simp only[h1,h2,TM,TH,Qp,hx,Qh,P_,nu,io,TJ,w]
  by_cases e:x.name0=s
  ·have:¬(k:Int)= -1:=by omega
   simp[e,this]
  ·simp only[e,TI]
   exact ih
theorem jx(l:List af)(hl:l.length<=4294967296)(s:ByteArray):I1 (l,s,())=some (bP l s,()):=by
 have h:=ph l hl s _ 0 (Qt _)
 rw[Q_,QW]at h
 rw[I1,nt]
 unfold bP
 by_cases e:mM l s 0= -1
 ·rw[TL e]at h
  rw[h,e];rfl
 ·rw[TK e]at h
  rw[h];rfl
def rng(n a b:Int):Bool:=decide (a<=n/\n<=b)
theorem qK(n a b:Int):CG (n,a,b,())=some (rng n a b,()):=by
 rw[CG];unfold rng
 by_cases h:a<=n<;>simp[h]
def zT(t:ak):Bool:=Mp.ieq t.base 0&&(Mp.ieq t.bits 0&&(Mp.seq t.name0 (Qa #[])&&(Mp.beq t.opt false&&Mp.beq t.err false)))
def noN(s:ByteArray):Bool:=decide (s=Qa #[])
noncomputable def cT(l:List af)(f:af)(c:au):Bool:=
 if c.op=0 then rng c.a (-2147483648) 2147483648&&c.b==0&&(gn c.type0&& !c.type0.opt&& !c.type0.err)&&noN c.name0
 else if c.op=2\/c.op=3 then rng c.a 0 (i64.wrap (f.places-1))&&c.b==0&&zT c.type0&&noN c.name0
 else if c.op=5 then rng c.a 5 17&&c.b==0&&de c.type0&&noN c.name0
 else if c.op=6 then rng c.a 18 23&&c.b==0&&zT c.type0&&noN c.name0
 else if c.op=7\/c.op=9\/c.op=10 then c.a==0&&c.b==0&&de c.type0&&noN c.name0
 else if c.op=12\/c.op=13\/c.op=14\/c.op=15 then rng c.a 0 (i64.wrap ((f.code.length:Int) -1))&&c.b==0&&zT c.type0&&noN c.name0
 else if c.op=16 then c.a==0&&zT c.type0&&decide (0<=bP l c.name0)&&(match l[(bP l c.name0).toNat]? with|some g=>c.b==g.params|none=>false)
 else if c.op=18 then c.a==0&&c.b==0&&zT c.type0&&m7 c.name0
 else if c.op=19 then rng c.a 1 5&&c.b==0&&zT c.type0&&noN c.name0
 else if c.op=1\/c.op=4\/c.op=8\/c.op=11\/c.op=17 then c.a==0&&c.b==0&&zT c.type0&&noN c.name0
 else false
theorem jI(t:ak):ak.mk t.base t.bits t.name0 t.opt t.err=t:=by cases t;rfl
end Go.Proofs.YtcghbgmmgcljkaaGreatDoor
end
section
namespace Go.Proofs.YtcghbgmmgcljkaaGreatDoor
set_option maxRecDepth 20000
theorem L4(t:ak):(gn t&& !t.opt&& !t.err)=if de t=true then true else if(c8 t&& !t.opt&& !t.err)=true then decide (t.base<=1)else false:=by
 unfold de gn
 cases h:c8 t<;>cases ho:t.opt<;>cases he:t.err<;>by_cases h2:t.base=2<;>by_cases h3:t.base=3<;>simp[h2,h3]<;>omega
set_option maxHeartbeats 4000000 in
theorem Es(l:List af)(hl:l.length<=4294967296)(f:af)(c:au):ju (c,l,f,())=some (!(cT l f c),l,f,()):=by
 rw[ju,L9]
 simp only[qK,Qh,P_,jI,io]
 have ez:(Mp.ieq c.type0.base 0&&(Mp.ieq c.type0.bits 0&&(Mp.seq c.type0.name0 (Qa #[])&&(Mp.beq c.type0.opt false&&Mp.beq c.type0.err false))))=zT c.type0:=rfl
 have eb:∀b:Bool,Mp.beq b true=b:=λb=>by cases b<;>rfl
 simp only[ez,eb,qJ,gR,jz,jx l hl,P_]
 by_cases hr:0<=c.op/\c.op<=19
 ·have hk:c.op=0\/c.op=1\/c.op=2\/c.op=3\/c.op=4\/c.op=5\/c.op=6\/c.op=7\/c.op=8\/c.op=9\/c.op=10\/c.op=11\/c.op=12\/c.op=13\/c.op=14\/c.op=15\/c.op=17\/c.op=18\/c.op=19\/c.op=16:=by omega
  rcases hk with h|h|h|h|h|h|h|h|h|h|h|h|h|h|h|h|h|h|h|h
  rotate_left 19
  ·have hf:bP l c.name0<0\/∃g,l[(bP l c.name0).toNat]?=some g/\0<=bP l c.name0:=by
    rcases qe l c.name0 0 with hq|hq
    ·left;unfold bP;omega
    ·right
     refine⟨l[(bP l c.name0).toNat]'(by unfold bP;omega),Qe _,by unfold bP;omega⟩
   simp[h,cT,jx l hl,eb]
   rcases hf with hf|⟨g,hg,hf⟩
   ·have hf':¬0<=bP l c.name0:=by omega
    simp[hf',h]
   ·by_cases ha:c.a=0<;>cases hz:zT c.type0<;>simp[ha,hz,hf,hg,h]
  ·rw[cT,TL h,L4]
   by_cases hb:c.b=0<;>by_cases hn:c.name0=Qa #[]<;>cases hi:de c.type0<;>cases hp:(c8 c.type0&& !c.type0.opt&& !c.type0.err)<;>simp[h,hb,hn,hi,hp,noN,eb,qJ,gR,-Bool.not_and,-Qg]
   all_goals try simp[Bool.and_assoc]
  all_goals simp[h,cT,noN,eb,qJ,gR,jz,qK]
  all_goals by_cases ha:c.a=0<;>by_cases hb:c.b=0<;>cases hz:zT c.type0<;>by_cases hn:c.name0=Qa #[]<;>simp[h,ha,hb,hz,hn,eb,qJ,gR,jz,qK]
  all_goals try simp[Bool.or_assoc]
 ·have hc:cT l f c=false:=by
   unfold cT
   rw[TK (by omega),TK (by omega),TK (by omega),TK (by omega),TK (by omega),TK (by omega),TK (by omega),TK (by omega),TK (by omega),TK (by omega)]
  rw[hc]
  have hk:c.op≠0/\c.op≠1/\c.op≠2/\c.op≠3/\c.op≠4/\c.op≠5/\c.op≠6/\c.op≠7/\c.op≠8/\c.op≠9/\c.op≠10/\c.op≠11/\c.op≠12/\c.op≠13/\c.op≠14/\c.op≠15/\c.op≠17/\c.op≠18/\c.op≠19/\c.op≠16:=by omega
  simp[hk]
end Go.Proofs.YtcghbgmmgcljkaaGreatDoor
end
section
namespace Go.Proofs.YtcghbgmmgcljkaaGreatDoor
open IntKind (i64)
set_option maxRecDepth 20000
def fA(a:Int)(l:List af):Int:=l.foldl (λa f=>i64.wrap (a+(f.code.length:Int))) a
def om(l:List af):Bool:=l.any (λf=>decide (f.places>200))
theorem nG(l:List af)(hl:l.length<=4294967296):∀(j k:Nat) (a:Int),k+j=l.length->kp (a,l,(l.length:Int),(k:Int),())=some (fA a (l.drop k),())
 |0,k,a,h=>by
  rw[kp,cY (by omega)]
  have:¬(k:Int)<(l.length:Int):=by omega
  simp[this,fA]
 |j+1,k,a,h=>by
  obtain⟨x,hx,hm,hd⟩:=cA (l:=l) (k:=k) (by omega)
  have h1:(k:Int)<(l.length:Int):=by omega
  have h2:(0:Int)<=(k:Int):=by omega
  have w:i64.wrap ((k:Int)+1)=((k+1:Nat):Int):=by rw[w64 (by omega) (by omega)];omega
  rw[kp,hd]
  simp only[h1,h2,TM,TH,Qp,hx,Qh,P_,w]
  exact nG l hl j (k+1) _ (by omega)
theorem A7(l:List af)(hl:l.length<=4294967296):Lo (l,())=some (fA 0 l,()):=by
 have h:=nG l hl _ 0 0 (Qt _)
 rw[Q_,QW]at h
 rw[Lo,h];rfl
theorem sB(l:List af)(hl:l.length<=4294967296):∀(j k:Nat),k+j=l.length->(om (l.drop k)=true->∃i:Nat,dl (l,(l.length:Int),(k:Int),())=some (.inl ((i:Int),())))/\(om (l.drop k)=false->dl (l,(l.length:Int),(k:Int),())=some (.inr ()))
 |0,k,h=>by
  rw[dl,cY (by omega)]
  have:¬(k:Int)<(l.length:Int):=by omega
  simp[this,om]
 |j+1,k,h=>by
  obtain⟨x,hx,hm,hd⟩:=cA (l:=l) (k:=k) (by omega)
  have h1:(k:Int)<(l.length:Int):=by omega
  have h2:(0:Int)<=(k:Int):=by omega
  have w:i64.wrap ((k:Int)+1)=((k+1:Nat):Int):=by rw[w64 (by omega) (by omega)];omega
  have ih:=sB l hl j (k+1) (by omega)
  rw[dl,hd]
  simp only[h1,h2,TM,TH,Qp,hx,Qh,P_,L8,w]
  unfold om at ih⊢
  rw[SU]
  by_cases e:x.places>200
  ·simp only[e,TM,Bool.true_or,TH]
   exact⟨λ_=>⟨k,rfl⟩,λh=>by cases h⟩
  ·simp only[e,TN,SW,Qf,TI]
   exact ih
theorem Ic(l:List af)(hl:l.length<=4294967296):qB (l,())=some (om l,()):=by
 obtain⟨h1,h2⟩:=sB l hl _ 0 (Qt _)
 rw[Q_,QW]at h1 h2
 rw[qB,uf]
 cases e:om l
 ·rw[h2 e];rfl
 ·obtain⟨i,h⟩:=h1 e
  have:(0:Int)<=(i:Int):=by omega
  rw[h];simp[this]
theorem nF(l:List af)(hl:l.length<=4294967296)(f:af)(cs:List au)(hf:cs.length<=4294967296):∀(j k:Nat),k+j=cs.length->
 ((cs.drop k).all (cT l f)=true->b9 (cs,(cs.length:Int),(k:Int),l,f,())=some (.inr (l,f,())))/\((cs.drop k).all (cT l f)=false->∃i:Nat,b9 (cs,(cs.length:Int),(k:Int),l,f,())=some (.inl ((i:Int),l,f,())))
 |0,k,h=>by
  rw[b9,cY (by omega)]
  have:¬(k:Int)<(cs.length:Int):=by omega
  simp[this]
 |j+1,k,h=>by
  obtain⟨x,hx,hm,hd⟩:=cA (l:=cs) (k:=k) (by omega)
  have h1:(k:Int)<(cs.length:Int):=by omega
  have h2:(0:Int)<=(k:Int):=by omega
  have w:i64.wrap ((k:Int)+1)=((k+1:Nat):Int):=by rw[w64 (by omega) (by omega)];omega
  have ih:=nF l hl f cs hf j (k+1) (by omega)
  rw[b9,hd,Rb]
  simp only[h1,h2,TM,TH,Qp,hx,Qh,P_,Es l hl,w]
  cases cT l f x
  ·simp only[R7,TH,Bool.false_and]
   exact⟨(λh=>by cases h),λ_=>⟨k,rfl⟩⟩
  ·simp only[Q8,Qf,TI,RS]
   exact ih
theorem A6(l:List af)(hl:l.length<=4294967296)(f:af)(cs:List au)(hf:cs.length<=4294967296):js (cs,l,f,())=some (!(cs.all (cT l f)),l,f,()):=by
 obtain⟨h1,h2⟩:=nF l hl f cs hf _ 0 (Qt _)
 rw[Q_,QW]at h1 h2
 rw[js,jZ]
 cases e:cs.all (cT l f)
 ·obtain⟨i,h⟩:=h2 e
  have:(0:Int)<=(i:Int):=by omega
  rw[h];simp[this]
 ·rw[h1 e];rfl
noncomputable def lh(l:List af)(f:af):Bool:=
 m7 f.name0&&rng f.params 0 f.places&&gn f.type0&&decide (1<=f.code.length)&&f.code.all (cT l f)
theorem Eu(l:List af)(hl:l.length<=4294967296)(f:af)(hf:f.code.length<=4294967296):Lp (l,f,())=some (lh l f,()):=by
 rw[Lp]
 simp only[jz,qK,sF,jI,Qh,P_]
 unfold lh gn
 cases m7 f.name0
 ·simp
 cases rng f.params 0 f.places
 ·simp
 by_cases h0:f.code.length=0
 ·have:((f.code.length:Int)==0)=true:=by simpa using h0
  simp[this,h0]
 ·have h1:((f.code.length:Int)==0)=false:=by simpa using h0
  have h2:1<=f.code.length:=by omega
  cases c8 f.type0
  ·simp[h1]
  ·by_cases hb:f.type0.base>=4
   ·have:¬f.type0.base<=3:=by omega
    simp[h1,hb,this]
   ·have:f.type0.base<=3:=by omega
    simp[h1,hb,this,h2,A6 l hl f f.code hf]
end Go.Proofs.YtcghbgmmgcljkaaGreatDoor
end
section
namespace Go.Proofs.YtcghbgmmgcljkaaGreatDoor
set_option maxRecDepth 20000
noncomputable def ja(l:List af):Nat->List af->Bool
 |_,[]=>true
 |k,f::r=>lh l f&&decide (bP l f.name0=(k:Int))&&ja l (k+1) r
theorem nH(l:List af)(hl:l.length<=4294967296)(hc:∀f∈l,f.code.length<=4294967296):∀(j k:Nat),k+j=l.length->
 ko (l,l,(l.length:Int),(k:Int),())=if ja l k (l.drop k)=true then some (.inr ())else some (.inl (1,()))
 |0,k,h=>by
  rw[ko,cY (by omega)]
  have:¬(k:Int)<(l.length:Int):=by omega
  simp[this,ja]
 |j+1,k,h=>by
  obtain⟨x,hx,hm,hd⟩:=cA (l:=l) (k:=k) (by omega)
  have h1:(k:Int)<(l.length:Int):=by omega
  have h2:(0:Int)<=(k:Int):=by omega
  have w:IntKind.i64.wrap ((k:Int)+1)=((k+1:Nat):Int):=by rw[w64 (by omega) (by omega)];omega
  have ih:=nH l hl hc j (k+1) (by omega)
  rw[ko,hd,ja]
  simp only[h1,h2,TM,TH,Qp,hx,Qh,P_,Eu l hl x (hc x hm),jx l hl,w]
  cases lh l x
  ·simp
  ·by_cases e:bP l x.name0=(k:Int)
   ·have:(bP l x.name0 !=(k:Int))=false:=by simpa using e
    simp only[this,e,Q8,Qf,TI,P_,TM,RS,bne_self_eq_false]
    rw[w]
    exact ih
   ·have:(bP l x.name0 !=(k:Int))=true:=by simpa using e
    simp[this,e]
noncomputable def dS(l:List af):Int:=
 if l.length>48\/fA 0 l>2000\/om l=true then 3 else if ja l 0 l=true then 0 else 1
theorem nK(l:List af)(hl:l.length<=4294967296)(hc:∀f∈l,f.code.length<=4294967296):I0 (l,())=some (dS l,()):=by
 have c:=nH l hl hc _ 0 (Qt _)
 rw[Q_,QW]at c
 rw[I0]
 unfold dS
 by_cases h1:l.length>48
 ·have:(l.length:Int)>48:=by omega
  simp[h1,this]
 ·have e1:¬(l.length:Int)>48:=by omega
  simp only[e1,h1,TN,Qf,TI,A7 l hl,Qh,P_,false_or]
  by_cases h2:fA 0 l>2000
  ·simp[h2]
  ·simp only[h2,TN,Qf,TI,false_or,Ic l hl,P_,c]
   cases om l
   ·simp only[Qf,TI]
    cases ja l 0 l<;>rfl
   ·rfl
end Go.Proofs.YtcghbgmmgcljkaaGreatDoor
end
section
namespace Go.Proofs.YtcghbgmmgcljkaaGreatDoor
open IntKind (i64)
set_option maxRecDepth 20000
def aQ(c:au):Int:=
 if c.op=0\/c.op=1\/c.op=2\/c.op=18 then 0 else if c.op=3\/c.op=4\/c.op=15\/c.op=17 then 1 else if c.op=5\/c.op=6 then 2 else if c.op=16 then c.b else if c.op=14\/c.op=19 then 0 else 1
def bm(c:au):Int:=
 if c.op=3\/c.op=4\/c.op=15\/c.op=17\/c.op=14\/c.op=19 then 0 else 1
def gr(c:au):Bool:= !(decide (c.op=14)||decide (c.op=17)||decide (c.op=19))
def cS(c:au):Bool:=decide (c.op=12)||decide (c.op=13)||decide (c.op=14)||decide (c.op=15)
theorem uJ(c:au):Lr (c,())=some (jM.mk (aQ c) (bm c) (gr c),()):=by
 rw[Lr]
 unfold aQ bm gr
 by_cases h0:c.op=0
 ·simp[h0]
 by_cases h1:c.op=1
 ·simp[h1]
 by_cases h2:c.op=2
 ·simp[h2]
 by_cases h18:c.op=18
 ·simp[h18]
 by_cases h3:c.op=3
 ·simp[h3]
 by_cases h4:c.op=4
 ·simp[h4]
 by_cases h15:c.op=15
 ·simp[h15]
 by_cases h17:c.op=17
 ·simp[h17]
 by_cases h5:c.op=5
 ·simp[h5]
 by_cases h6:c.op=6
 ·simp[h6]
 by_cases h16:c.op=16
 ·simp[h16]
 by_cases h14:c.op=14
 ·simp[h14]
 by_cases h19:c.op=19
 ·simp[h19]
 simp[h0,h1,h2,h18,h3,h4,h15,h17,h5,h6,h16,h14,h19]
theorem qi(c:au):Ls (c.op,())=some (cS c,()):=by
 rw[Ls]
 unfold cS
 by_cases h12:c.op=12
 ·simp[h12]
 by_cases h13:c.op=13
 ·simp[h13]
 by_cases h14:c.op=14
 ·simp[h14]
 by_cases h15:c.op=15
 ·simp[h15]
 simp[h12,h13,h14,h15]
def bz(c:au)(h:Int):Int:=h-aQ c+bm c
def okS(c:au)(h:Int):Prop:=aQ c<=h/\h<=64
instance (c:au) (h:Int):Decidable (okS c h):=by unfold okS;infer_instance
def dw(at0:Int)(c:au)(h:Int):List (Int×Int):=
 if c.op=14 then[(c.a,bz c h)]
 else if c.op=17\/c.op=19 then[]
 else if c.op=15\/c.op=13 then[(at0+1,bz c h),(c.a,bz c h)]
 else if c.op=12 then[(at0+1,h),(c.a,h-1)]
 else[(at0+1,bz c h)]
theorem rS(c:au):0<=bm c/\bm c<=1:=by unfold bm;split<;>omega
end Go.Proofs.YtcghbgmmgcljkaaGreatDoor
end
section
namespace Go.Proofs.YtcghbgmmgcljkaaGreatDoor
set_option maxRecDepth 20000
section
variable {κ ν:Type} {eq:κ->κ->Bool} (he:∀a b,eq a b=true↔a=b)
include he
variable [DecidableEq κ]
theorem vN(s x:κ)(y:ν):∀es:List (κ×ν),Mp.get eq s (Mp.put eq x y es)=if s=x then some y else Mp.get eq s es
 |[]=>by
  simp only[Mp.put,Mp.get,he]
 |p::r=>by
  simp only[Mp.put,he]
  by_cases h:x=p.1
  ·rw[TL h]
   simp only[Mp.get,he]
   by_cases h2:s=x
   ·rw[TL h2,TL h2]
   ·rw[TK h2,TK h2,TK (by rw[<-h];exact h2)]
  ·rw[TK h]
   simp only[Mp.get,he]
   by_cases h2:s=p.1
   ·rw[TL h2,TL h2,TK (by rw[h2];exactλe=>h e.symm)]
   ·rw[TK h2,TK h2]
    exact vN s x y r
theorem vM(lt:κ->κ->Bool)(s x:κ)(y:ν):∀es:List (κ×ν),es.any (λp=>eq x p.1)=false->Mp.get eq s (Mp.ins lt x y es)=if s=x then some y else Mp.get eq s es
 |[],_=>by simp only[Mp.ins,Mp.get,he]
 |p::r,h=>by
  rw[SU,Rm]at h
  have hx:¬x=p.1:=λe=>by have:=(he _ _).2 e;rw[h.1]at this;cases this
  rw[Mp.ins]
  split
  ·simp only[Mp.get,he]
  ·simp only[Mp.get,he]
   rw[vM lt s x y r h.2]
   by_cases h2:s=p.1
   ·rw[TL h2,TL h2,TK (by rw[h2];exactλe=>hx e.symm)]
   ·rw[TK h2,TK h2]
theorem lJ(lt:κ->κ->Bool)(s x:κ)(y:ν)(es:List (κ×ν)):Mp.get eq s (Mp.set eq lt x y es)=if s=x then some y else Mp.get eq s es:=by
 unfold Mp.set
 split
 ·exact vN he s x y es
 ·rename_i h
  exact vM he lt s x y es (by cases hq:es.any (λp=>eq x p.1)with|true=>exact(h hq).elim|false=>rfl)
end
theorem vm{α:Type}{p q:α->Bool}:∀{l:List α},(∀x,p x=true->q x=true)->(∃x∈l,q x=true/\p x=false)->l.countP p<l.countP q
 |[],_,h=>by obtain⟨x,h,_⟩:=h;cases h
 |a::r,hpq,h=>by
  have hle:r.countP p<=r.countP q:=List.countP_mono_left λx _=>hpq x
  rw[List.countP_cons,List.countP_cons]
  obtain⟨x,hx,h1,h2⟩:=h
  rw[Ql]at hx
  rcases hx with hx|hx
  ·subst hx;rw[h1,h2];simp;omega
  ·have ih:=vm hpq ⟨x,hx,h1,h2⟩
   cases hp:p a
   ·simp;omega
   ·rw[hpq a hp];simp;omega
def box(n:Nat):List (Nat×Nat):=(RA n).flatMap λa=>(RA 66).map λh=>(a,h)
theorem Ha{n a h:Nat}(ha:a<n)(hh:h<66):(a,h)∈box n:=by
 unfold box
 rw[List.mem_flatMap]
 exact⟨a,List.mem_range.mpr ha,QG.mpr ⟨h,List.mem_range.mpr hh,rfl⟩⟩
inductive Reach (f:af):Nat->Int->Prop
 |start:Reach f 0 0
 |step {a:Nat} {h:Int} {c:au} {b:Nat} {k:Int}:Reach f a h->f.code[a]?=some c->okS c h->((b:Int),k)∈dw (a:Int) c h->b<f.code.length->Reach f b k
def iW(f:af):Prop:=
 ∃a h c,Reach f a h/\f.code[a]?=some c/\(¬okS c h\/(okS c h/\∃k,((f.code.length:Int),k)∈dw (a:Int) c h)\/∃h',Reach f a h'/\h'≠h)
theorem qM{f:af}(hf:1<=f.code.length){a:Nat}{h:Int}(r:Reach f a h):a<f.code.length:=by
 cases r with
 |start=>omega
 |step _ _ _ _ hb=>exact hb
theorem EQ{l:List af}{f:af}{c:au}(hl:∀g∈l,0<=g.params)(hc:cT l f c=true):0<=aQ c:=by
 unfold aQ
 by_cases h16:c.op=16
 ·unfold cT at hc
  simp[h16]at hc
  cases hg:l[(bP l c.name0).toNat]? with
  |none=>rw[hg]at hc;simp at hc
  |some g=>
   rw[hg]at hc
   have hb:c.b=g.params:=by simpa using hc.2
   have:=hl g (Qk hg)
   simp[h16];omega
 ·split
  ·omega
  ·split
   ·omega
   ·split
    ·omega
    ·split<;>omega
theorem u1{c:au}{at0 h b k:Int}(h0:0<=aQ c)(hk:okS c h)(hw:(b,k)∈dw at0 c h):0<=k/\k<=65:=by
 have lv:=rS c
 obtain⟨h1,h2⟩:=hk
 have hn:0<=bz c h/\bz c h<=65:=by unfold bz;omega
 unfold dw at hw
 by_cases h14:c.op=14
 ·simp[h14]at hw;omega
 by_cases h17:c.op=17\/c.op=19
 ·simp[h14,h17]at hw
 by_cases h15:c.op=15\/c.op=13
 ·simp[h14,h17,h15]at hw
  rcases hw with hw|hw<;>omega
 by_cases h12:c.op=12
 ·have:aQ c=1:=by unfold aQ;simp[h12]
  simp[h12]at hw
  rcases hw with hw|hw<;>omega
 ·simp[h14,h17,h15,h12]at hw;omega
end Go.Proofs.YtcghbgmmgcljkaaGreatDoor
end
section
namespace Go.Proofs.YtcghbgmmgcljkaaGreatDoor
set_option maxRecDepth 20000
abbrev peq(x y:ay):Bool:=Mp.ieq x.at0 y.at0&&Mp.ieq x.height y.height
theorem mY(a b:Int):Mp.ieq a b=true↔a=b:=by unfold Mp.ieq;simp
theorem A8(a b:ay):peq a b=true↔a=b:=by
 obtain⟨a1,a2⟩:=a
 obtain⟨b1,b2⟩:=b
 show(Mp.ieq a1 b1&&Mp.ieq a2 b2)=true↔_
 rw[Qg,mY,mY,ay.mk.injEq]
instance:DecidableEq ay:=λa b=>decidable_of_iff (peq a b=true) (A8 a b)
def has(m:List (ay×Bool))(p:ay):Bool:=(Mp.get peq p m).getD false
def Ii(m:List (ay×Bool))(p:ay):List (ay×Bool):=Mp.set peq (λ_ _=>false) p true m
theorem mU(m:List (ay×Bool))(p q:ay):has (Ii m p) q=(decide (q=p)||has m q):=by
 unfold has Ii
 rw[lJ A8]
 by_cases h:q=p<;>simp[h]
def Gt(n:Nat):List ay:=(box n).map λx=>ay.mk (x.1:Int) (x.2:Int)
theorem v8{n a:Nat}{h:Int}(ha:a<n)(h0:0<=h)(h1:h<=65):ay.mk (a:Int) h∈Gt n:=by
 unfold Gt
 rw[QG]
 exact⟨(a,h.toNat),Ha ha (by omega),by show ay.mk (a:Int) (h.toNat:Int)=_;rw[SM h0]⟩
def iI(n:Nat)(m:List (ay×Bool)):Nat:=(Gt n).countP λp=> !has m p
theorem De{n:Nat}{m:List (ay×Bool)}{p:ay}(hp:p∈Gt n)(hm:has m p=false):iI n (Ii m p)<iI n m:=by
 unfold iI
 refine vm ?_ ⟨p,hp,by rw[hm];rfl,by rw[mU];simp⟩
 intro x hx
 rw[mU]at hx
 cases h:has m x
 ·rfl
 ·rw[h]at hx;simp at hx
def jK(p:ay)(m:List (ay×Bool))(q:List ay):List (ay×Bool)×List ay:=if has m p=true then(m,q)else(Ii m p,q++[p])
theorem FU(p:ay)(m:List (ay×Bool))(q:List ay)(hq:q.length<4294967296):eJ (p,m,q,())=some ((jK p m q).1,(jK p m q).2,()):=by
 rw[eJ]
 unfold jK
 show(if(!(has m p))=true then _ else _)=_
 cases h:has m p
 ·simp only[R7,TH,Qf,TI,RD]
  rw[TL (by omega)];rfl
 ·rfl
theorem gv(p:ay)(m:List (ay×Bool))(q:List ay)(x:ay):has (jK p m q).1 x=(decide (x=p)||has m x):=by
 unfold jK
 by_cases h:has m p=true
 ·rw[TL h]
  by_cases e:x=p
  ·rw[e,h];simp
  ·simp[e]
 ·rw[TK h];exact mU m p x
theorem yI(p:ay)(m:List (ay×Bool))(q:List ay)(x:ay)(hx:has (jK p m q).1 x=true):has m x=true\/x∈(jK p m q).2:=by
 unfold jK at *
 by_cases h:has m p=true
 ·rw[TL h]at hx;exact .inl hx
 ·rw[TK h]at hx⊢
  rw[mU]at hx
  by_cases e:x=p
  ·right;simp[e]
  ·left;simpa[e]using hx
theorem tm(p:ay)(m:List (ay×Bool))(q:List ay)(x:ay)(hx:x∈q):x∈(jK p m q).2:=by
 unfold jK
 split
 ·exact hx
 ·exact Rx _ hx
theorem ti(p:ay)(m:List (ay×Bool))(q:List ay)(x:ay)(hx:x∈(jK p m q).2):x∈q\/x=p:=by
 unfold jK at hx
 split at hx
 ·exact .inl hx
 ·rw[Qw,Q4]at hx;exact hx
theorem vc{n:Nat}(p:ay)(m:List (ay×Bool))(q:List ay)(hp:p∈Gt n):
 2 *iI n (jK p m q).1+(jK p m q).2.length<=2 *iI n m+q.length/\iI n (jK p m q).1+(jK p m q).2.length<=iI n m+q.length:=by
 unfold jK
 cases h:has m p
 ·have:=De hp h
  simp only[Qf,TI,Qx,RD]
  omega
 ·simp
def Gp(a w:Int):Int:=if w<0\/a<w then a else w
theorem dV(a w:Int):fM (a,w,())=some (Gp a w,()):=by
 rw[fM];unfold Gp
 by_cases h1:w<0
 ·simp[h1]
 ·by_cases h2:a<w<;>simp[h1,h2]
theorem jY{a w:Int}(ha:0<=a):0<=Gp a w:=by unfold Gp;split<;>omega
end Go.Proofs.YtcghbgmmgcljkaaGreatDoor
end
section
namespace Go.Proofs.YtcghbgmmgcljkaaGreatDoor
open IntKind (i64)
set_option maxRecDepth 20000
def w1S(hm:List (Int×Int))(w:Int)(p:ay):Int:=
 match Mp.get Mp.ieq p.at0 hm with
 |some h=>if h=p.height then w else Gp p.at0 w
 |none=>w
def hmS(hm:List (Int×Int))(p:ay):List (Int×Int):=Mp.set Mp.ieq Mp.ilt p.at0 p.height hm
def cj(c:au)(p:ay)(m:List (ay×Bool))(q:List ay):List (ay×Bool)×List ay:=
 if cS c=true then jK (ay.mk c.a (if c.op=12 then bz c p.height-1 else bz c p.height)) m q else(m,q)
theorem G0(p:ay)(m:List (ay×Bool))(q:List ay):(jK p m q).2.length<=q.length+1:=by
 unfold jK
 split
 ·show q.length<=q.length+1;omega
 ·simp
theorem Al(f:af)(hm:List (Int×Int))(w:Int)(m:List (ay×Bool))(p:ay)(q:List ay){a:Nat}{c:au}(ha:p.at0=(a:Int))(hc:f.code[a]?=some c)
 (hp0:0<=p.height)(hp1:p.height<=65)(ht0:0<=aQ c)(hq:q.length<4294967000)(hl:f.code.length<=4294967296)(hal:a<f.code.length):
 dQ (f,hm,w,m,p::q,())=
  if okS c p.height then
   let j:=cj c p m q
   if gr c=true then
    if a+1=f.code.length then dQ (f,hmS hm p,Gp (a:Int) (w1S hm w p),j.1,j.2,())
    else
     let k:=jK (ay.mk ((a+1:Nat):Int) (bz c p.height)) j.1 j.2
     dQ (f,hmS hm p,w1S hm w p,k.1,k.2,())
   else dQ (f,hmS hm p,w1S hm w p,j.1,j.2,())
  else dQ (f,hmS hm p,Gp (a:Int) (w1S hm w p),m,q,()):=by
 have lv:=rS c
 have h0:(0:Int)<=(a:Int):=by omega
 have l1:((q.length+1:Nat):Int)>0:=by omega
 have l2:(1:Int)<=((q.length+1:Nat):Int):=by omega
 conv=>lhs;rw[dQ]
 simp only[Qz,l1,l2,TM,TH,R0,true_and,Int.toNat_zero,Ri,Qh,P_,ha,Tt,QW,show QY 1=1 from rfl]
 have hw1:w1S hm w p=match Mp.get Mp.ieq (a:Int) hm with|some h=>if h=p.height then w else Gp (a:Int) w|none=>w:=by unfold w1S;rw[ha]
 have hhm:hmS hm p=Mp.set Mp.ieq Mp.ilt (a:Int) p.height hm:=by unfold hmS;rw[ha]
 rw[hw1,hhm]
 have en:i64.wrap (i64.wrap (p.height-aQ c)+bm c)=bz c p.height\/¬okS c p.height:=by
  by_cases hk:okS c p.height
  ·left
   obtain⟨k1,k2⟩:=hk
   rw[w64 (x:=p.height-aQ c) (by omega) (by omega),w64 (by omega) (by omega)];rfl
  ·exact .inr hk
 have ea:i64.wrap ((a:Int)+1)=((a+1:Nat):Int):=by rw[w64 (by omega) (by omega)];omega
 have e12:bz c p.height-1=i64.wrap (bz c p.height-1)\/¬okS c p.height:=by
  by_cases hk:okS c p.height
  ·left
   obtain⟨k1,k2⟩:=hk
   unfold bz
   rw[w64 (by omega) (by omega)]
  ·exact .inr hk
 have hadd:∀(x:ay),eJ (x,m,q,())=some ((jK x m q).1,(jK x m q).2,()):=λx=>FU x m q (by omega)
 have hq2:(cj c p m q).2.length<=q.length+1:=by
  unfold cj
  split
  ·exact G0 _ m q
  ·show q.length<=q.length+1;omega
 have hadd2:∀(x:ay),eJ (x,(cj c p m q).1,(cj c p m q).2,())=some ((jK x (cj c p m q).1 (cj c p m q).2).1,(jK x (cj c p m q).1 (cj c p m q).2).2,()):=λx=>FU x _ _ (by omega)
 have hle:(((a+1:Nat):Int)==(f.code.length:Int))=decide (a+1=f.code.length):=by
  by_cases e:a+1=f.code.length
  ·simp[e]
  ·simp[e];omega
 cases hg:Mp.get Mp.ieq (a:Int) hm with
 |none=>
  simp only[Option.isSome_none,Qf,TI,P_,ha,h0,TH,Qp,hc,uJ,qi,dV]
  by_cases hk:okS c p.height
  ·have k1:¬p.height<aQ c:=by have:=hk.1;omega
   have k2:¬p.height>64:=by have:=hk.2;omega
   have en':=en.resolve_right (λh=>h hk)
   have e12':=e12.resolve_right (λh=>h hk)
   simp only[k1,k2,TN,Qf,TI,P_,TL hk,en',ha]
   cases hj:cS c
   ·have hjs:cj c p m q=(m,q):=by unfold cj;rw[hj];rfl
    simp only[Qf,TI,P_,hjs,ha,ea,hle]
    cases hgo:gr c
    ·rfl
    ·simp only[Q8,Qf,TI,TH,TJ,dV,P_,hadd]
   ·have hjs:cj c p m q=jK (ay.mk c.a (if c.op=12 then bz c p.height-1 else bz c p.height)) m q:=by unfold cj;rw[TL hj]
    rw[hjs]at hadd2
    rw[hjs]
    by_cases h12:c.op=12
    ·have h12':(c.op==12)=true:=by simpa using h12
     rw[TL h12]at hadd2⊢
     simp only[h12',TH,P_,hadd,ha,ea,hle,<-e12']
     cases hgo:gr c
     ·rfl
     ·simp only[Q8,Qf,TI,TH,TJ,dV,P_,hadd2]
    ·have h12':(c.op==12)=false:=by simpa using h12
     rw[TK h12]at hadd2⊢
     simp only[h12',Qf,TI,TH,P_,hadd,ha,ea,hle]
     cases hgo:gr c
     ·rfl
     ·simp only[Q8,Qf,TI,TH,TJ,dV,P_,hadd2]
  ·rw[TK hk]
   by_cases k1:p.height<aQ c
   ·simp only[k1,TM,TH,P_,ha]
   ·have k2:p.height>64:=by
     by_cases k2:p.height>64
     ·exact k2
     ·exact absurd ⟨by omega,by omega⟩ hk
    simp only[k1,k2,TM,TN,Qf,TI,TH,P_,ha]
 |some h=>
  by_cases heq:h=p.height
  ·have hb:(h !=p.height)=false:=by simpa using heq
   simp only[St,TH,Rc,P_,hb,Qf,TI,ha,h0,Qp,hc,uJ,qi,dV,TL heq]
   by_cases hk:okS c p.height
   ·have k1:¬p.height<aQ c:=by have:=hk.1;omega
    have k2:¬p.height>64:=by have:=hk.2;omega
    have en':=en.resolve_right (λh=>h hk)
    have e12':=e12.resolve_right (λh=>h hk)
    simp only[k1,k2,TN,Qf,TI,P_,TL hk,en',ha]
    cases hj:cS c
    ·have hjs:cj c p m q=(m,q):=by unfold cj;rw[hj];rfl
     simp only[Qf,TI,P_,hjs,ha,ea,hle]
     cases hgo:gr c
     ·rfl
     ·simp only[Q8,Qf,TI,TH,TJ,dV,P_,hadd]
    ·have hjs:cj c p m q=jK (ay.mk c.a (if c.op=12 then bz c p.height-1 else bz c p.height)) m q:=by unfold cj;rw[TL hj]
     rw[hjs]at hadd2
     rw[hjs]
     by_cases h12:c.op=12
     ·have h12':(c.op==12)=true:=by simpa using h12
      rw[TL h12]at hadd2⊢
      simp only[h12',TH,P_,hadd,ha,ea,hle,<-e12']
      cases hgo:gr c
      ·rfl
      ·simp only[Q8,Qf,TI,TH,TJ,dV,P_,hadd2]
     ·have h12':(c.op==12)=false:=by simpa using h12
      rw[TK h12]at hadd2⊢
      simp only[h12',Qf,TI,TH,P_,hadd,ha,ea,hle]
      cases hgo:gr c
      ·rfl
      ·simp only[Q8,Qf,TI,TH,TJ,dV,P_,hadd2]
   ·rw[TK hk]
    by_cases k1:p.height<aQ c
    ·simp only[k1,TM,TH,P_,ha]
    ·have k2:p.height>64:=by
      by_cases k2:p.height>64
      ·exact k2
      ·exact absurd ⟨by omega,by omega⟩ hk
     simp only[k1,k2,TM,TN,Qf,TI,TH,P_,ha]
  ·have hb:(h !=p.height)=true:=by simpa using heq
   simp only[St,TH,Rc,P_,hb,Qf,TI,ha,h0,Qp,hc,uJ,qi,dV,TK heq]
   by_cases hk:okS c p.height
   ·have k1:¬p.height<aQ c:=by have:=hk.1;omega
    have k2:¬p.height>64:=by have:=hk.2;omega
    have en':=en.resolve_right (λh=>h hk)
    have e12':=e12.resolve_right (λh=>h hk)
    simp only[k1,k2,TN,Qf,TI,P_,TL hk,en',ha]
    cases hj:cS c
    ·have hjs:cj c p m q=(m,q):=by unfold cj;rw[hj];rfl
     simp only[Qf,TI,P_,hjs,ha,ea,hle]
     cases hgo:gr c
     ·rfl
     ·simp only[Q8,Qf,TI,TH,TJ,dV,P_,hadd]
    ·have hjs:cj c p m q=jK (ay.mk c.a (if c.op=12 then bz c p.height-1 else bz c p.height)) m q:=by unfold cj;rw[TL hj]
     rw[hjs]at hadd2
     rw[hjs]
     by_cases h12:c.op=12
     ·have h12':(c.op==12)=true:=by simpa using h12
      rw[TL h12]at hadd2⊢
      simp only[h12',TH,P_,hadd,ha,ea,hle,<-e12']
      cases hgo:gr c
      ·rfl
      ·simp only[Q8,Qf,TI,TH,TJ,dV,P_,hadd2]
     ·have h12':(c.op==12)=false:=by simpa using h12
      rw[TK h12]at hadd2⊢
      simp only[h12',Qf,TI,TH,P_,hadd,ha,ea,hle]
      cases hgo:gr c
      ·rfl
      ·simp only[Q8,Qf,TI,TH,TJ,dV,P_,hadd2]
   ·rw[TK hk]
    by_cases k1:p.height<aQ c
    ·simp only[k1,TM,TH,P_,ha]
    ·have k2:p.height>64:=by
      by_cases k2:p.height>64
      ·exact k2
      ·exact absurd ⟨by omega,by omega⟩ hk
     simp only[k1,k2,TM,TN,Qf,TI,TH,P_,ha]
end Go.Proofs.YtcghbgmmgcljkaaGreatDoor
end
section
namespace Go.Proofs.YtcghbgmmgcljkaaGreatDoor
set_option maxRecDepth 20000
def NR(f:af)(hm:List (Int×Int))(m:List (ay×Bool))(x:ay):Prop:=
 ∃(a:Nat) (c:au),x.at0=(a:Int)/\f.code[a]?=some c/\Mp.get Mp.ieq x.at0 hm=some x.height/\okS c x.height/\∀b k,(b,k)∈dw (a:Int) c x.height->b≠(f.code.length:Int)/\has m (ay.mk b k)=true
structure Inv (f:af) (hm:List (Int×Int)) (w:Int) (m:List (ay×Bool)) (q:List ay):Prop where
 reach:∀x,has m x=true->∃a:Nat,x.at0=(a:Int)/\Reach f a x.height
 queue:∀x∈q,has m x=true
 done:w<0->∀x,has m x=true->x∈q\/NR f hm m x
 fault:0<=w->iW f
 hms:∀a h,Mp.get Mp.ieq a hm=some h->∃n:Nat,a=(n:Int)/\Reach f n h
 zero:has m (ay.mk 0 0)=true
theorem lF{f:af}{hm:List (Int×Int)}{w:Int}{m:List (ay×Bool)}{p:ay}{q:List ay}(I:Inv f hm w m (p::q)){a:Nat}{c:au}(ha:p.at0=(a:Int))(hc:f.code[a]?=some c)
 {w':Int}{m':List (ay×Bool)}{q':List ay}
 (W1:0<=w->0<=w')(W2:0<=w'->iW f)
 (W3:w'<0->okS c p.height/\(∀h,Mp.get Mp.ieq p.at0 hm=some h->h=p.height)/\∀b k,(b,k)∈dw (a:Int) c p.height->b≠(f.code.length:Int)/\has m' (ay.mk b k)=true)
 (M1:∀x,has m x=true->has m' x=true)(M2:∀x,has m' x=true->has m x=true\/(x∈q'/\∃b:Nat,x.at0=(b:Int)/\Reach f b x.height))
 (M3:∀x∈q',has m' x=true)(M5:∀x∈q,x∈q'):Inv f (hmS hm p) w' m' q' where
 reach x hx:=by
  rcases M2 x hx with h|h
  ·exact I.reach x h
  ·exact h.2
 queue:=M3
 done hw x hx:=by
  have hw0:w<0:=by
   by_cases h:0<=w
   ·have:=W1 h;omega
   ·omega
  obtain⟨k1,k2,k3⟩:=W3 hw
  rcases M2 x hx with h|h
  ·rcases I.done hw0 x h with hq|⟨a',c',e1,e2,e3,e4,e5⟩
   ·rw[Ql]at hq
    rcases hq with hq|hq
    ·subst hq
     refine .inr ⟨a,c,ha,hc,?_,k1,k3⟩
     unfold hmS;rw[lJ mY,TL rfl]
    ·exact .inl (M5 x hq)
   ·refine .inr ⟨a',c',e1,e2,?_,e4,λb k hb=>⟨(e5 b k hb).1,M1 _ (e5 b k hb).2⟩⟩
    unfold hmS
    rw[lJ mY]
    by_cases e:x.at0=p.at0
    ·rw[TL e]
     rw[e]at e3
     rw[k2 _ e3]
    ·rw[TK e];exact e3
  ·exact .inl h.1
 fault:=W2
 hms b h hb:=by
  unfold hmS at hb
  rw[lJ mY]at hb
  by_cases e:b=p.at0
  ·rw[TL e,P8]at hb
   subst hb
   have:=I.reach p (I.queue p (Qi ..))
   rw[e];exact this
  ·rw[TK e]at hb
   exact I.hms b h hb
 zero:=M1 _ I.zero
theorem Hr{f:af}{hm:List (Int×Int)}{w:Int}{m:List (ay×Bool)}(I:Inv f hm w m []):0<=w↔iW f:=by
 refine⟨I.fault,λF=> ?_⟩
 by_cases hw:0<=w
 ·exact hw
 ·exfalso
  have all:∀a h,Reach f a h->has m (ay.mk (a:Int) h)=true:=by
   intro a h r
   induction r with
   |start=>exact I.zero
   |step r hc hk hw' hb ih=>
    rcases I.done (by omega) _ ih with h|⟨a',c',e1,e2,e3,e4,e5⟩
    ·cases h
    ·have ea:a'=_:=(Tn e1).symm
     subst ea
     rw[hc,P8]at e2
     subst e2
     exact(e5 _ _ hw').2
  have dn:∀a h,Reach f a h->NR f hm m (ay.mk (a:Int) h):=by
   intro a h r
   rcases I.done (by omega) _ (all a h r)with h|h
   ·cases h
   ·exact h
  obtain⟨a,h,c,r,hc,hF⟩:=F
  obtain⟨a',c',e1,e2,e3,e4,e5⟩:=dn a h r
  have ea:a'=a:=(Tn e1).symm
  subst ea
  rw[hc,P8]at e2
  subst e2
  rcases hF with hF|⟨_,k,hF⟩|⟨h',r',hF⟩
  ·exact hF e4
  ·exact(e5 _ _ hF).1 rfl
  ·obtain⟨_,_,_,_,e3',_,_⟩:=dn a' h' r'
   have e3'':Mp.get Mp.ieq (a':Int) hm=some h:=e3
   have e4'':Mp.get Mp.ieq (a':Int) hm=some h':=e3'
   rw[e3'',P8]at e4''
   exact hF e4''.symm
end Go.Proofs.YtcghbgmmgcljkaaGreatDoor
end
section
namespace Go.Proofs.YtcghbgmmgcljkaaGreatDoor
set_option maxRecDepth 20000
def Jd(c:au)(h:Int):Int:=if c.op=12 then bz c h-1 else bz c h
theorem b_{at0:Int}{c:au}{h b k:Int}:(b,k)∈dw at0 c h↔(cS c=true/\b=c.a/\k=Jd c h)\/(gr c=true/\b=at0+1/\k=bz c h):=by
 unfold dw cS gr Jd
 by_cases h14:c.op=14
 ·simp[h14]
 by_cases h17:c.op=17
 ·simp[h17]
 by_cases h19:c.op=19
 ·simp[h19]
 by_cases h15:c.op=15
 ·simp[h15,or_comm]
 by_cases h13:c.op=13
 ·simp[h13,or_comm]
 by_cases h12:c.op=12
 ·have e:bz c h=h:=by unfold bz aQ bm;simp[h12]
  simp[h12,e,or_comm]
 simp[h14,h17,h19,h15,h13,h12]
def GY(f:af):Prop:=1<=f.code.length/\f.code.length<=3000/\∀c∈f.code,0<=aQ c/\(cS c=true->∃b:Nat,c.a=(b:Int)/\b<f.code.length)
theorem Bh{f:af}(S:GY f){a:Nat}{h:Int}(r:Reach f a h):0<=h/\h<=65:=by
 cases r with
 |start=>omega
 |step _ hc hk hw _=>exact u1 (S.2.2 _ (Qk hc)).1 hk hw
theorem gJ{f:af}(S:GY f):∀(N:Nat) (hm:List (Int×Int)) (w:Int) (m:List (ay×Bool)) (q:List ay),2 *iI f.code.length m+q.length<=N->iI f.code.length m+q.length<=4294960000->Inv f hm w m q->
 ∃w' m',dQ (f,hm,w,m,q,())=some (w',m',())/\(0<=w'↔iW f)
 |N,hm,w,m,[],hN,hB,I=>by
  refine⟨w,m,?_,Hr I⟩
  rw[dQ]
  simp
 |0,hm,w,m,p::q,hN,hB,I=>by simp at hN
 |N+1,hm,w,m,p::q,hN,hB,I=>by
  obtain⟨a,ha,r⟩:=I.reach p (I.queue p (Qi ..))
  have hal:=qM S.1 r
  obtain⟨c,hc⟩:∃c,f.code[a]?=some c:=⟨_,Qe hal⟩
  obtain⟨t0,tj⟩:=S.2.2 c (Qk hc)
  obtain⟨p0,p1⟩:=Bh S r
  rw[Qz]at hN hB
  have a0:(0:Int)<=(a:Int):=by omega
  have c1:0<=w->0<=w1S hm w p:=by
   intro h;unfold w1S
   split
   ·split
    ·exact h
    ·rw[ha];exact jY a0
   ·exact h
  have c2:0<=w1S hm w p->iW f:=by
   intro h;unfold w1S at h
   split at h
   ·rename_i h' hg
    split at h
    ·exact I.fault h
    ·rename_i hne
     obtain⟨n,e,r'⟩:=I.hms _ _ hg
     have en:n=a:=by rw[ha]at e;exact(Tn e).symm
     subst en
     exact⟨n,p.height,c,r,hc, .inr (.inr ⟨h',r',hne⟩)⟩
   ·exact I.fault h
  have c3:w1S hm w p<0->∀h,Mp.get Mp.ieq p.at0 hm=some h->h=p.height:=by
   intro hw h hg;unfold w1S at hw
   rw[hg]at hw
   simp only at hw
   split at hw
   ·assumption
   ·rw[ha]at hw;have:=jY (w:=w) a0;omega
  rw[Al f hm w m p q ha hc p0 p1 t0 (by omega) (by have:=S.2.1;omega) hal]
  by_cases hk:okS c p.height
  ·rw[TL hk]
   have J1:∀x,has m x=true->has (cj c p m q).1 x=true:=by
    intro x hx;unfold cj
    split
    ·rw[gv,hx];simp
    ·exact hx
   have J2:∀x,has (cj c p m q).1 x=true->has m x=true\/(x∈(cj c p m q).2/\∃b:Nat,x.at0=(b:Int)/\Reach f b x.height):=by
    intro x hx
    unfold cj at hx⊢
    by_cases hj:cS c=true
    ·rw[TL hj]at hx⊢
     rcases yI _ _ _ _ hx with h|h
     ·exact .inl h
     ·by_cases hm0:has m x=true
      ·exact .inl hm0
      ·right
       rw[gv]at hx
       have e:x=ay.mk c.a (if c.op=12 then bz c p.height-1 else bz c p.height):=by
        cases hh:has m x
        ·rw[hh]at hx;simpa using hx
        ·exact absurd hh hm0
       refine⟨h,?_⟩
       obtain⟨b,eb,hb⟩:=tj hj
       rw[e]
       exact⟨b,eb,Reach.step r hc hk (b_.mpr (.inl ⟨hj,eb.symm,rfl⟩)) hb⟩
    ·rw[TK hj]at hx;exact .inl hx
   have J3:∀x∈(cj c p m q).2,has (cj c p m q).1 x=true:=by
    intro x hx
    unfold cj at hx⊢
    by_cases hj:cS c=true
    ·rw[TL hj]at hx⊢
     rw[gv]
     rcases ti _ _ _ _ hx with h|h
     ·rw[I.queue x (Qd _ h)];simp
     ·simp[h]
    ·rw[TK hj]at hx⊢;exact I.queue x (Qd _ hx)
   have J5:∀x∈q,x∈(cj c p m q).2:=by
    intro x hx;unfold cj
    split
    ·exact tm _ _ _ _ hx
    ·exact hx
   have J6:cS c=true->has (cj c p m q).1 (ay.mk c.a (Jd c p.height))=true:=by
    intro hj;unfold cj;rw[TL hj,gv];simp[Jd]
   have J7:2 *iI f.code.length (cj c p m q).1+(cj c p m q).2.length<=2 *iI f.code.length m+q.length/\iI f.code.length (cj c p m q).1+(cj c p m q).2.length<=iI f.code.length m+q.length:=by
    unfold cj
    by_cases hj:cS c=true
    ·rw[TL hj]
     obtain⟨b,eb,hb⟩:=tj hj
     have hh:=u1 (at0:=(a:Int)) (b:=c.a) (k:=Jd c p.height) t0 hk (b_.mpr (.inl ⟨hj,rfl,rfl⟩))
     refine vc _ m q ?_
     rw[eb]
     exact v8 hb hh.1 hh.2
    ·rw[TK hj];exact⟨QB _,QB _⟩
   simp only[]
   by_cases hg:gr c=true
   ·rw[TL hg]
    by_cases hend:a+1=f.code.length
    ·rw[TL hend]
     refine gJ S N _ _ _ _ (by omega) (by omega) (lF I ha hc (λ_=>jY a0) (λ_=> ?_) (λh=> ?_) J1 J2 J3 J5)
     ·exact⟨a,p.height,c,r,hc, .inr (.inl ⟨hk,bz c p.height,b_.mpr (.inr ⟨hg,by omega,rfl⟩)⟩)⟩
     ·have:=jY (w:=w1S hm w p) a0;omega
    ·rw[TK hend]
     have hh:=u1 (at0:=(a:Int)) (b:=(a:Int)+1) (k:=bz c p.height) t0 hk (b_.mpr (.inr ⟨hg,rfl,rfl⟩))
     have sz:=vc (n:=f.code.length) (ay.mk ((a+1:Nat):Int) (bz c p.height)) (cj c p m q).1 (cj c p m q).2 (v8 (by omega) hh.1 hh.2)
     refine gJ S N _ _ _ _ (by omega) (by omega) (lF I ha hc c1 c2 (λh=>⟨hk,c3 h,?_⟩) ?_ ?_ ?_ ?_)
     ·intro b k hw
      rcases b_.mp hw with⟨h1,h2,h3⟩|⟨h1,h2,h3⟩
      ·obtain⟨b',eb,hb⟩:=tj h1
       refine⟨by omega,?_⟩
       rw[gv,h2,h3,J6 h1];simp
      ·refine⟨by omega,?_⟩
       rw[gv,h2,h3]
       simp
     ·intro x hx;rw[gv,J1 x hx];simp
     ·intro x hx
      rcases yI _ _ _ _ hx with h|h
      ·rcases J2 x h with h|⟨h,h'⟩
       ·exact .inl h
       ·exact .inr ⟨tm _ _ _ _ h,h'⟩
      ·rcases ti _ _ _ _ h with h'|h'
       ·rcases J2 x (J3 x h')with h2|⟨_,h2⟩
        ·exact .inl h2
        ·exact .inr ⟨h,h2⟩
       ·refine .inr ⟨h,?_⟩
        rw[h']
        exact⟨a+1,rfl,Reach.step r hc hk (b_.mpr (.inr ⟨hg,by omega,rfl⟩)) (by omega)⟩
     ·intro x hx
      rw[gv]
      rcases ti _ _ _ _ hx with h|h
      ·rw[J3 x h];simp
      ·simp[h]
     ·intro x hx;exact tm _ _ _ _ (J5 x hx)
   ·rw[TK hg]
    refine gJ S N _ _ _ _ (by omega) (by omega) (lF I ha hc c1 c2 (λh=>⟨hk,c3 h,?_⟩) J1 J2 J3 J5)
    intro b k hw
    rcases b_.mp hw with⟨h1,h2,h3⟩|⟨h1,h2,h3⟩
    ·obtain⟨b',eb,hb⟩:=tj h1
     refine⟨by omega,?_⟩
     rw[h2,h3];exact J6 h1
    ·exact absurd h1 hg
  ·rw[TK hk]
   refine gJ S N _ _ _ _ (by omega) (by omega) (lF I ha hc (λ_=>jY a0) (λ_=>⟨a,p.height,c,r,hc, .inl hk⟩) (λh=> ?_) (λ_ h=>h) (λ_ h=> .inl h) (λx hx=>I.queue x (Qd _ hx)) (λ_ h=>h))
   have:=jY (w:=w1S hm w p) a0;omega
end Go.Proofs.YtcghbgmmgcljkaaGreatDoor
end
section
namespace Go.Proofs.YtcghbgmmgcljkaaGreatDoor
set_option maxRecDepth 20000
theorem HC(n:Nat)(m:List (ay×Bool)):iI n m<=66 *n:=by
 have h1:iI n m<=(Gt n).length:=Ti
 have h2:(Gt n).length=66 *n:=by
  unfold Gt box
  rw[Qb,List.length_flatMap]
  have:∀k:Nat,((RA k).map λa=>((RA 66).map λh=>(a,h)).length).sum=66 *k:=by
   intro k
   induction k with
   |zero=>rfl
   |succ k ih=>rw[List.range_succ (n:=k),QT,List.sum_append,ih];simp;omega
  exact this n
 omega
theorem HE{f:af}(S:GY f):∃w m,Lq (f,())=some (w,m,())/\(0<=w↔iW f):=by
 have hs:=mU [] (ay.mk 0 0)
 have hn:∀x,has [] x=false:=λ_=>rfl
 have I:Inv f [] (-1) (Ii [] (ay.mk 0 0)) [ay.mk 0 0]:=
  { reach:=λx hx=>by
     rw[hs,hn,Bool.or_false,TJ]at hx
     rw[hx];exact⟨0,rfl,Reach.start⟩
    queue:=λx hx=>by
     rw[Q4]at hx
     rw[hs,hx];simp
    done:=λ_ x hx=>by
     rw[hs,hn,Bool.or_false,TJ]at hx
     left;rw[hx];exact Q4.mpr rfl
    fault:=λh=>by omega
    hms:=λa h hb=>by cases hb
    zero:=by rw[hs];simp}
 have hl:=HC f.code.length (Ii [] (ay.mk 0 0))
 have:=S.2.1
 obtain⟨w,m,h,hF⟩:=gJ S _ [] (-1) (Ii [] (ay.mk 0 0)) [ay.mk 0 0] (QB _) (by rw[RD];omega) I
 rw[Lq]
 have e:dQ (f,[],(-1:Int),Mp.set (λx y=>Mp.ieq x.at0 y.at0&&Mp.ieq x.height y.height) (λx x_1=>false) (ay.mk 0 0) true [],[ay.mk 0 0],())=some (w,m,()):=h
 rw[e]
 exact⟨w,m,rfl,hF⟩
end Go.Proofs.YtcghbgmmgcljkaaGreatDoor
end
section
namespace Go.Proofs.YtcghbgmmgcljkaaGreatDoor
set_option maxRecDepth 20000
end Go.Proofs.YtcghbgmmgcljkaaGreatDoor
end
section
namespace Go.Proofs.YtcghbgmmgcljkaaGreatDoor
set_option maxRecDepth 20000
def Lk(M:List (List (Int×Bool)))(a:Nat)(h:Int):Bool:=match M[a]? with|some m=>(Mp.get Mp.ieq h m).getD false|none=>false
def Ly(m:List (Int×Bool)):Prop:=(m.map Prod.fst).Nodup/\∀e∈m,e.2=true
end Go.Proofs.YtcghbgmmgcljkaaGreatDoor
end
section
namespace Go.Proofs.YtcghbgmmgcljkaaGreatDoor
set_option maxRecDepth 20000
structure InvR (f:af) (M:List (List (Int×Bool))) (out:List Bool) (q:List (List Int)):Prop where
 lenM:M.length=f.code.length
 lenO:out.length=f.code.length
 reach:∀(a:Nat) h,Lk M a h=true->Reach f a h
 queue:∀x∈q,∃(a:Nat) (h:Int),x=[(a:Int),h]/\Reach f a h
 done:∀(a:Nat) h c,Lk M a h=true->f.code[a]?=some c->okS c h->∀b k,(b,k)∈dw (a:Int) c h->(b=(f.code.length:Int)->out[a]?=some true)/\∀b':Nat,b=(b':Int)->b'<f.code.length->Lk M b' k=true\/[(b':Int),k]∈q
 outs:∀a:Nat,out[a]?=some true->∃h c k,Reach f a h/\f.code[a]?=some c/\okS c h/\((f.code.length:Int),k)∈dw (a:Int) c h
 zero:Lk M 0 0=true\/[(0:Int),0]∈q
 good:∀m∈M,Ly m
end Go.Proofs.YtcghbgmmgcljkaaGreatDoor
end
section
namespace Go.Proofs.YtcghbgmmgcljkaaGreatDoor
set_option maxRecDepth 20000
end Go.Proofs.YtcghbgmmgcljkaaGreatDoor
end
section
namespace Go.Proofs.YtcghbgmmgcljkaaGreatDoor
set_option maxRecDepth 20000
end Go.Proofs.YtcghbgmmgcljkaaGreatDoor
end
section
namespace Go.Proofs.YtcghbgmmgcljkaaGreatDoor
set_option maxRecDepth 20000
end Go.Proofs.YtcghbgmmgcljkaaGreatDoor
end
section
namespace Go.Proofs.YtcghbgmmgcljkaaGreatDoor
set_option maxRecDepth 20000
end Go.Proofs.YtcghbgmmgcljkaaGreatDoor
end
section
namespace Go.Proofs.YtcghbgmmgcljkaaGreatDoor
set_option maxRecDepth 20000
end Go.Proofs.YtcghbgmmgcljkaaGreatDoor
end
section
namespace Go.Proofs.YtcghbgmmgcljkaaGreatDoor
set_option maxRecDepth 20000
theorem Ip{l:List af}(hl:∀g∈l,0<=g.params){f:af}(h:lh l f=true)(h3:f.code.length<=3000):GY f:=by
 unfold lh at h
 simp only[Qg,TJ,Qm]at h
 refine⟨h.1.2,h3,λc hc=>⟨EQ hl (h.2 c hc),λhj=> ?_⟩⟩
 have hc:=h.2 c hc
 have h1:=h.1.2
 have w:IntKind.i64.wrap ((f.code.length:Int) -1)=(f.code.length:Int) -1:=w64 (by omega) (by omega)
 have hr:rng c.a 0 (IntKind.i64.wrap ((f.code.length:Int) -1))=true:=by
  unfold cS at hj
  simp only[QV,TJ]at hj
  unfold cT at hc
  rw[TK (by omega),TK (by omega),TK (by omega),TK (by omega),TK (by omega),TL (by omega)]at hc
  simp only[Qg]at hc
  exact hc.1.1.1
 rw[w]at hr
 unfold rng at hr
 rw[TJ]at hr
 exact⟨c.a.toNat,by omega,by omega⟩
end Go.Proofs.YtcghbgmmgcljkaaGreatDoor
end
section
namespace Go.Proofs.YtcghbgmmgcljkaaGreatDoor
set_option maxRecDepth 20000
theorem nE(l:List af)(hl:l.length<=3000)(S:∀f∈l,GY f):∀(j k:Nat),k+j=l.length->
 ((∃f∈l.drop k,iW f)/\∃a b,jr (l,(l.length:Int),(k:Int),())=some (.inl (a,b,7,())))\/(¬(∃f∈l.drop k,iW f)/\jr (l,(l.length:Int),(k:Int),())=some (.inr ()))
 |0,k,h=>by
  right
  rw[jr,cY (by omega)]
  have:¬(k:Int)<(l.length:Int):=by omega
  simp[this]
 |j+1,k,h=>by
  obtain⟨x,hx,hm,hd⟩:=cA (l:=l) (k:=k) (by omega)
  have h1:(k:Int)<(l.length:Int):=by omega
  have h2:(0:Int)<=(k:Int):=by omega
  have w:IntKind.i64.wrap ((k:Int)+1)=((k+1:Nat):Int):=by rw[w64 (by omega) (by omega)];omega
  obtain⟨v,m,hv,hF⟩:=HE (S x hm)
  have ih:=nE l hl S j (k+1) (by omega)
  rw[jr,hd]
  simp only[h1,h2,TM,TH,Qp,hx,Qh,P_,hv,w,ge_iff_le,Ql,exists_eq_or_imp]
  by_cases hp:0<=v
  ·left
   simp only[hp,TM,TH]
   exact⟨.inl (hF.mp hp),_,_,rfl⟩
  ·simp only[hp,TN,Qf,TI]
   have nf:¬iW x:=λh=>hp (hF.mpr h)
   simp only[nf,false_or]
   exact ih
end Go.Proofs.YtcghbgmmgcljkaaGreatDoor
end
section
namespace Go.Proofs.YtcghbgmmgcljkaaGreatDoor
set_option maxRecDepth 20000
theorem rJ(l:List af):∀(r:List af) (k:Nat),ja l k r=true->∀f∈r,lh l f=true
 |[],_,_,f,hf=>by cases hf
 |g::r,k,h,f,hf=>by
  rw[ja,Qg,Qg]at h
  rw[Ql]at hf
  rcases hf with hf|hf
  ·rw[hf];exact h.1.1
  ·exact rJ l r (k+1) h.2 f hf
theorem wh{l:List af}(h:dS l=0)(h3:∀f∈l,f.code.length<=3000):∀f∈l,lh l f=true/\0<=f.params/\f.params<=f.places/\GY f:=by
 have hf:ja l 0 l=true:=by
  unfold dS at h
  split at h
  ·cases h
  ·split at h
   ·assumption
   ·cases h
 have all:=rJ l l 0 hf
 have hp:∀f∈l,0<=f.params/\f.params<=f.places:=by
  intro f hm
  have:=all f hm
  unfold lh rng at this
  simp only[Qg,TJ]at this
  exact this.1.1.1.2
 exactλf hm=>⟨all f hm,(hp f hm).1,(hp f hm).2,Ip (λg hg=>(hp g hg).1) (all f hm) (h3 f hm)⟩
end Go.Proofs.YtcghbgmmgcljkaaGreatDoor
end
section
namespace Go.Proofs.YtcghbgmmgcljkaaGreatDoor
set_option maxRecDepth 20000
def GZ(l:List af):Prop:=dS l=0/\¬∃f∈l,iW f
open Classical in
noncomputable def gk(l:List af):Int:=if dS l=0 then(if∃f∈l,iW f then 7 else 0)else dS l
theorem jR{l:List af}:gk l=0↔GZ l:=by
 unfold gk GZ
 by_cases h:dS l=0
 ·by_cases h2:∃f∈l,iW f
  ·simp[h,h2]
  ·simp only[h,h2,TH,TI,true_and,not_false_eq_true]
 ·simp[h]
theorem A5(l:List af)(hl:l.length<=3000)(h3:∀f∈l,f.code.length<=3000):∃a b,Ln (l,())=some (a,b,gk l,()):=by
 have hv:=nK l (by omega) (λf hf=>by have:=h3 f hf;omega)
 rw[Ln]
 simp only[hv,Qh,P_]
 unfold gk
 by_cases h:dS l=0
 ·have S:=wh h h3
  have c:=nE l hl (λf hf=>(S f hf).2.2.2) _ 0 (Qt _)
  rw[Q_,QW]at c
  simp only[h,TH,bne_self_eq_false,Qf,TI]
  rcases c with⟨c1,a,b,c2⟩|⟨c1,c2⟩
  ·rw[c2,TL c1];exact⟨a,b,rfl⟩
  ·rw[c2,TK c1];exact⟨0,0,rfl⟩
 ·have hb:(dS l !=0)=true:=by simpa using h
  simp only[hb,TH,TK h]
  exact⟨0,0,rfl⟩
def sP(args:List ah):Bool:=args.all λv=>decide (-2147483648<=v.n/\v.n<=2147483648)
theorem nI(q:Int)(args:List ah)(hl:args.length<=4294967296):∀(j k:Nat),k+j=args.length->gO (q,args,(args.length:Int),(k:Int),())=if sP (args.drop k)=true then some (.inr (q,()))else some (.inl (0,1,()))
 |0,k,h=>by
  rw[gO,cY (by omega)]
  have:¬(k:Int)<(args.length:Int):=by omega
  simp[this,sP]
 |j+1,k,h=>by
  obtain⟨x,hx,hm,hd⟩:=cA (l:=args) (k:=k) (by omega)
  have h1:(k:Int)<(args.length:Int):=by omega
  have h2:(0:Int)<=(k:Int):=by omega
  have w:IntKind.i64.wrap ((k:Int)+1)=((k+1:Nat):Int):=by rw[w64 (by omega) (by omega)];omega
  have ih:=nI q args hl j (k+1) (by omega)
  rw[gO,hd]
  unfold sP at ih⊢
  simp only[h1,h2,TM,TH,Qp,hx,Qh,P_,Rb,w]
  by_cases e1:x.n< -2147483648
  ·have:¬(-2147483648<=x.n/\x.n<=2147483648):=by omega
   simp[e1,this]
  ·by_cases e2:x.n>2147483648
   ·have:¬(-2147483648<=x.n/\x.n<=2147483648):=by omega
    simp[e1,e2,this]
   ·have e3:(-2147483648<=x.n/\x.n<=2147483648):=by omega
    simp only[e1,e2,e3,TN,Qf,TI,P_,TM,RS,and_self,w]
    exact ih
theorem qf(l:List af)(s:ByteArray):bP l s<0\/∃k:Nat,∃g,bP l s=(k:Int)/\k<l.length/\l[k]?=some g:=by
 rcases qe l s 0 with h|h
 ·left;unfold bP;omega
 ·right
  refine⟨(bP l s).toNat,l[(bP l s).toNat]'(by unfold bP;omega),?_,?_,Qe _⟩
  ·unfold bP;omega
  ·unfold bP;omega
noncomputable def dz(l:List af)(s:ByteArray)(args:List ah):Int:=
 if gk l=0 then
  if bP l s<0 then 4 else
  match l[(bP l s).toNat]? with
  |some g=>if(args.length:Int)=g.params then(if sP args=true then 0 else 1)else 10
  |none=>0
 else gk l
theorem nD(l:List af)(hl:l.length<=3000)(h3:∀f∈l,f.code.length<=3000)(s:ByteArray)(args:List ah)(ha:args.length<=4294967296):
 Kh (l,s,args,())=some (if dz l s args=0 then bP l s else 0,dz l s args,()):=by
 have hv:=nK l (by omega) (λf hf=>by have:=h3 f hf;omega)
 obtain⟨a,b,hc⟩:=A5 l hl h3
 have h39:dS l=0->Gq (l,s,())=some (max (bP l s) 0,decide (bP l s>=0),0,()):=by
  intro h0
  rw[Gq]
  simp only[hv,jx l (by omega),Qh,P_,h0,bne_self_eq_false,Qf,TI]
 rw[Kh]
 simp only[hv,hc,Qh,P_]
 unfold dz
 by_cases h:gk l=0
 ·have h0:=(jR.mp h).1
  simp only[h,h0,TH,bne_self_eq_false,Qf,TI,h39 h0,P_]
  rcases qf l s with hf|⟨k,g,hk,hkl,hg⟩
  ·have:¬0<=bP l s:=by omega
   simp[hf,this]
  ·have n1:¬(k:Int)<0:=by omega
   have n2:(0:Int)<=(k:Int):=by omega
   have n3:max (k:Int) 0=(k:Int):=by omega
   have lp:=nI (k:Int) args ha _ 0 (Qt _)
   rw[Q_,QW]at lp
   simp only[hk,n1,n2,n3,ge_iff_le,TM,Q8,Qf,TI,TH,Qp,hg,P_,lp]
   by_cases hp:(args.length:Int)=g.params
   ·rw[TL hp]
    have hp':((args.length:Int) !=g.params)=false:=by simpa using hp
    rw[hp']
    cases hs:sP args<;>simp[hs]
   ·have hp':((args.length:Int) !=g.params)=true:=by simpa using hp
    rw[TK hp,hp'];simp
 ·by_cases h0:dS l=0
  ·have hb:(gk l !=0)=true:=by simpa using h
   simp[h0,h,hb]
  ·have hb:(dS l !=0)=true:=by simpa using h0
   have e:gk l=dS l:=by unfold gk;rw[TK h0]
   simp[e,hb,h0]
end Go.Proofs.YtcghbgmmgcljkaaGreatDoor
end
section
namespace Go.Proofs.YtcghbgmmgcljkaaGreatDoor
set_option maxRecDepth 20000
def cI(n:Int):Item:=Item.mk n false (Qa #[])
def jH(b:Bool):Item:=if b=true then cI 1 else cI 0
def val(x:Item):ah:=ah.mk (ak.mk 0 0 (Qa #[]) false false) x.n x.null x.err (ak.mk 0 0 (Qa #[]) false false)
def u3(t:ak)(n:Int):Int:=if t.base=0 then 0 else if t.base=1 then(if n=0 then 0 else 1)else q8 (t.base==3) t.bits n
def bt(t:ak)(n:Int):Int:=q8 (t.base==3) t.bits n
def opS(ck:Bool)(op:Int)(t:ak)(y x:Item):Item×Int:=
 if ck=true then(cI (if(doS op (t.base==3) t.bits (bt t y.n) (bt t x.n)).2=0 then(doS op (t.base==3) t.bits (bt t y.n) (bt t x.n)).1 else 0),(doS op (t.base==3) t.bits (bt t y.n) (bt t x.n)).2)
 else(cI (doS op (t.base==3) t.bits (bt t y.n) (bt t x.n)).1,0)
def vF(op a b:Int):Bool:=
 if op=18 then a==b else if op=19 then a !=b else if op=20 then decide (a<b)else if op=21 then decide (a<=b)else if op=22 then decide (a>b)else decide (a>=b)
def bY(ck:Bool)(op:Int)(t:ak)(x:Item):Item×Int:=
 if op=8 then(jH (x.n==0),0)
 else if op=11 then(if ck=true/\x.null=true then(cI 0,4)else(cI x.n,0))
 else if op=7 then(if ck=true/\¬inT (t.base==3) t.bits (-(bt t x.n))then(cI 0,1)else(cI (bt t (-(bt t x.n))),0))
 else if op=9 then(if ck=true/\¬inT (t.base==3) t.bits x.n then(cI 0,3)else(cI (bt t x.n),0))
 else(cI (bt t x.n),0)
inductive Act where
 |go (at1:Int) (pl st:List Item)
 |ret (x:Item)
 |stop (why:Int)
 |call
def fe(r:Item×Int)(at1:Int)(pl s:List Item):Act:=if r.2=0 then .go at1 pl (r.1::s)else .stop r.2
def cf(ck:Bool)(c:au)(at1:Int)(pl st:List Item):Act:=
 if c.op=0 then .go at1 pl (cI (u3 c.type0 c.a)::st)
 else if c.op=1 then .go at1 pl (Item.mk 0 true (Qa #[])::st)
 else if c.op=18 then .go at1 pl (Item.mk 0 false c.name0::st)
 else if c.op=2 then .go at1 pl (pl.getD c.a.toNat (cI 0)::st)
 else if c.op=3 then .go at1 (pl.set c.a.toNat (st.headD (cI 0))) st.tail
 else if c.op=4 then .go at1 pl st.tail
 else if c.op=5 then fe (opS ck c.a c.type0 (st.tail.headD (cI 0)) (st.headD (cI 0))) at1 pl st.tail.tail
 else if c.op=6 then .go at1 pl (jH (vF c.a (st.tail.headD (cI 0)).n (st.headD (cI 0)).n)::st.tail.tail)
 else if c.op=7\/c.op=8\/c.op=9\/c.op=10\/c.op=11 then fe (bY ck c.op c.type0 (st.headD (cI 0))) at1 pl st.tail
 else if c.op=12 then(if(st.headD (cI 0)).null=true then .go c.a pl st.tail else .go at1 pl st)
 else if c.op=13 then(if(st.headD (cI 0)).err=Qa #[]then .go at1 pl st else .go c.a pl st)
 else if c.op=14 then .go c.a pl st
 else if c.op=15 then(if(st.headD (cI 0)).n=0 then .go c.a pl st.tail else .go at1 pl st.tail)
 else if c.op=16 then .call
 else if c.op=17 then .ret (st.headD (cI 0))
 else if ck=true then .stop c.a else .ret (cI 0)
structure Lg where
 kind:Int
 stop:Int
 steps:Int
 high:Int
 counts:List Int
 seen:List Item
def oC(d place:Int)(c:au)(st:List Item)(seen:List Item):List Item:=
 if c.op=3/\d=1/\place=c.a/\seen.length<100 then seen++[st.headD (cI 0)]else seen
def du(d h:Int)(n:Nat):Int:=if d=1 then max h (n:Int)else h
def tB(cs:List Int)(k:Nat):List Int:=cs.set k (IntKind.i64.wrap (cs.getD k 0+1))
def cF(f:af)(args:List Item):List Item:=args++QL (f.places.toNat-args.length) (cI 0)
def Ci(g:Lg):Item×Lg:=(cI 0,{g with kind:=2})
def fg(l:List af)(ck:Bool)(place:Int):Nat->af->Int->Int->List Item->List Item->Lg->Item×Lg
 |0,_,_,_,_,_,g=>Ci g
 |N+1,f,d,at0,pl,st,g=>
  if g.steps=40000 then Ci g else
  match f.code[at0.toNat]? with
  |none=>(cI 0,g)
  |some c=>
   match cf ck c (at0+1) pl st with
   | .go at1 pl1 st1=>fg l ck place N f d at1 pl1 st1 {g with steps:=g.steps+1,high:=du d g.high st1.length,seen:=oC d place c st g.seen}
   | .ret x=>(x,{g with steps:=g.steps+1})
   | .stop w=>(cI 0,{g with steps:=g.steps+1,kind:=1,stop:=w})
   | .call=>
    match l[(bP l c.name0).toNat]? with
    |none=>(cI 0,g)
    |some h=>
     if 30<d+1 then Ci {g with steps:=g.steps+1}else
     let r:=fg l ck place N h (d+1) 0 (cF h (st.take c.b.toNat).reverse) [] {g with steps:=g.steps+1,counts:=tB g.counts (bP l c.name0).toNat}
     if r.2.kind=0 then fg l ck place N f d (at0+1) pl (r.1::st.drop c.b.toNat) {r.2 with high:=du d r.2.high (st.length-c.b.toNat+1)}else(cI 0,r.2)
def lg0(l:List af):Lg:={kind:=0,stop:=0,steps:=0,high:=0,counts:=QL l.length 0,seen:=[]}
def lg1(l:List af)(place:Int)(k:Nat)(f:af)(args:List Item):Lg:=
 {lg0 l with counts:=tB (lg0 l).counts k,seen:=if(1:Int)=1/\0<=place then(lg0 l).seen++[(cF f args).getD place.toNat (cI 0)]else(lg0 l).seen}
def pq(l:List af)(ck:Bool)(place:Int)(k:Nat)(f:af)(args:List Item):Item×Lg:=
 fg l ck place 40000 f 1 0 (cF f args) [] (lg1 l place k f args)
structure og (l:List af):Prop where
 len:l.length<=3000
 valid:dS l=0
 fns:∀f∈l,lh l f=true/\0<=f.params/\f.params<=f.places/\GY f
 nofault:∀f∈l,¬iW f
 places:∀f∈l,f.places<=200
theorem Io{l:List af}(hl:l.length<=3000)(h3:∀f∈l,f.code.length<=3000)(h:GZ l):og l where
 len:=hl
 valid:=h.1
 fns:=wh h.1 h3
 nofault f hf F:=h.2 ⟨f,hf,F⟩
 places f hf:=by
  have h1:=h.1
  unfold dS at h1
  split at h1
  ·cases h1
  ·rename_i hb
   by_cases hp:f.places<=200
   ·exact hp
   ·exfalso
    apply hb
    have:om l=true:=by
     unfold om
     rw[Rq]
     exact⟨f,hf,by simpa using hp⟩
    simp[this]
theorem tM{l:List af}{f:af}(h:lh l f=true){c:au}(hc:c∈f.code):cT l f c=true:=by
 unfold lh at h
 simp only[Qg,Qm]at h
 exact h.2 c hc
theorem qE{l:List af}{f:af}{c:au}(h:cT l f c=true):0<=c.op/\c.op<=19:=by
 unfold cT at h
 by_cases hr:0<=c.op/\c.op<=19
 ·exact hr
 ·exfalso
  rw[TK (by omega),TK (by omega),TK (by omega),TK (by omega),TK (by omega),TK (by omega),TK (by omega),TK (by omega),TK (by omega),TK (by omega)]at h
  cases h
theorem j7{l:List af}(R:og l){f:af}(hf:f∈l){a:Nat}{h:Int}(r:Reach f a h){c:au}(hc:f.code[a]?=some c):
 okS c h/\∀b k,(b,k)∈dw (a:Int) c h->∃b':Nat,b=(b':Int)/\Reach f b' k:=by
 have S:=(R.fns f hf).2.2.2
 have nf:=R.nofault f hf
 have hk:okS c h:=by
  by_cases hk:okS c h
  ·exact hk
  ·exact absurd ⟨a,h,c,r,hc, .inl hk⟩ nf
 refine⟨hk,λb k hw=> ?_⟩
 have hal:=qM S.1 r
 rcases b_.mp hw with⟨h1,h2,h3⟩|⟨h1,h2,h3⟩
 ·obtain⟨b',eb,hb⟩:=(S.2.2 c (Qk hc)).2 h1
  refine⟨b',by rw[h2,eb],Reach.step r hc hk (by rw[<-eb,<-h2];exact hw) hb⟩
 ·refine⟨a+1,by rw[h2];rfl,?_⟩
  have e2:b=((a+1:Nat):Int):=by rw[h2];rfl
  by_cases hend:a+1=f.code.length
  ·exact absurd ⟨a,h,c,r,hc, .inr (.inl ⟨hk,k,by rw[<-hend,<-e2];exact hw⟩)⟩ nf
  ·exact Reach.step r hc hk (by rw[<-e2];exact hw) (by omega)
end Go.Proofs.YtcghbgmmgcljkaaGreatDoor
end
section
namespace Go.Proofs.YtcghbgmmgcljkaaGreatDoor
set_option maxRecDepth 20000
theorem wb{r:Item×Int}{at1 at2:Int}{pl pl1 s st1:List Item}(h:fe r at1 pl s= .go at2 pl1 st1):at2=at1/\pl1=pl/\st1=r.1::s:=by
 unfold fe at h
 split at h
 ·injection h with h1 h2 h3
  exact⟨h1.symm,h2.symm,h3.symm⟩
 ·cases h
theorem dR{st:List Item}{h:Int}(e:h=(st.length:Int))(h1:1<=h):∃x s,st=x::s:=by
 cases st with
 |nil=>simp at e;omega
 |cons x s=>exact⟨x,s,rfl⟩
theorem wk{st:List Item}{h:Int}(e:h=(st.length:Int))(h1:2<=h):∃x y s,st=x::y::s:=by
 cases st with
 |nil=>simp at e;omega
 |cons x s=>cases s with
  |nil=>simp at e;omega
  |cons y s=>exact⟨x,y,s,rfl⟩
theorem bv{c:au}(h0:0<=c.op)(h1:c.op<=19)(h16:c.op≠16):(c.op=5\/c.op=6->aQ c=2)/\(c.op=3\/c.op=4\/c.op=15\/c.op=17\/(7<=c.op/\c.op<=13)->aQ c=1):=by
 unfold aQ
 constructor
 ·intro h
  rw[TK (by omega),TK (by omega),TL (by omega)]
 ·intro h
  rw[TK (by omega)]
  by_cases h2:c.op=3\/c.op=4\/c.op=15\/c.op=17
  ·rw[TL h2]
  ·rw[TK h2,TK (by omega),TK h16,TK (by omega)]
theorem Jc{l:List af}{f:af}{c:au}(hcode:cT l f c=true){ck:Bool}{a:Int}{pl st pl1 st1:List Item}{at1:Int}(hk:okS c (st.length:Int))
 (h:cf ck c (a+1) pl st= .go at1 pl1 st1):(at1,(st1.length:Int))∈dw a c (st.length:Int)/\pl1.length=pl.length:=by
 have hr:=qE hcode
 obtain⟨ht,_⟩:=hk
 have hk:c.op=0\/c.op=1\/c.op=2\/c.op=18\/c.op=3\/c.op=4\/c.op=5\/c.op=6\/(c.op=7\/c.op=8\/c.op=9\/c.op=10\/c.op=11)\/c.op=12\/c.op=13\/c.op=14\/c.op=15\/c.op=17\/c.op=19\/c.op=16:=by omega
 rcases hk with e|e|e|e|e|e|e|e|e|e|e|e|e|e|e|e
 ·simp only[cf,e,TH]at h
  injection h with h1 h2 h3
  subst h1 h2 h3
  simp[dw,bz,aQ,bm,e]
 ·simp[cf,e]at h
  obtain⟨h1,h2,h3⟩:=h
  subst h1 h2 h3
  simp[dw,bz,aQ,bm,e]
 ·simp[cf,e]at h
  obtain⟨h1,h2,h3⟩:=h
  subst h1 h2 h3
  simp[dw,bz,aQ,bm,e]
 ·simp[cf,e]at h
  obtain⟨h1,h2,h3⟩:=h
  subst h1 h2 h3
  simp[dw,bz,aQ,bm,e]
 ·have h1:aQ c=1:=(bv hr.1 hr.2 (by omega)).2 (by omega)
  obtain⟨x,s,rfl⟩:=dR rfl (h1▸ht)
  simp[cf,e]at h
  obtain⟨h1,h2,h3⟩:=h
  subst h1 h2 h3
  simp[dw,bz,aQ,bm,e]
 ·have h1:aQ c=1:=(bv hr.1 hr.2 (by omega)).2 (by omega)
  obtain⟨x,s,rfl⟩:=dR rfl (h1▸ht)
  simp[cf,e]at h
  obtain⟨h1,h2,h3⟩:=h
  subst h1 h2 h3
  simp[dw,bz,aQ,bm,e]
 ·have h1:aQ c=2:=(bv hr.1 hr.2 (by omega)).1 (by omega)
  obtain⟨x,y,s,rfl⟩:=wk rfl (h1▸ht)
  simp only[cf,e,show¬(5:Int)=0 by decide,show¬(5:Int)=1 by decide,show¬(5:Int)=18 by decide,show¬(5:Int)=2 by decide,show¬(5:Int)=3 by decide,show¬(5:Int)=4 by decide,TI,TH]at h
  obtain⟨h1,h2,h3⟩:=wb h
  subst h1 h2 h3
  simp[dw,bz,aQ,bm,e];omega
 ·have h1:aQ c=2:=(bv hr.1 hr.2 (by omega)).1 (by omega)
  obtain⟨x,y,s,rfl⟩:=wk rfl (h1▸ht)
  simp[cf,e]at h
  obtain⟨h1,h2,h3⟩:=h
  subst h1 h2 h3
  simp[dw,bz,aQ,bm,e];omega
 ·have h1:aQ c=1:=(bv hr.1 hr.2 (by omega)).2 (by omega)
  obtain⟨x,s,rfl⟩:=dR rfl (h1▸ht)
  rw[cf,TK (by omega),TK (by omega),TK (by omega),TK (by omega),TK (by omega),TK (by omega),TK (by omega),TK (by omega),TL e]at h
  obtain⟨h2,h3,h4⟩:=wb h
  subst h2 h3 h4
  refine⟨?_,rfl⟩
  have hl:bm c=1:=by unfold bm;rw[TK (by omega)]
  rw[dw,TK (by omega),TK (by omega),TK (by omega),TK (by omega),Q4,bz,h1,hl]
  simp
 ·have h1:aQ c=1:=(bv hr.1 hr.2 (by omega)).2 (by omega)
  obtain⟨x,s,rfl⟩:=dR rfl (h1▸ht)
  simp[cf,e]at h
  split at h
  ·injection h with h1 h2 h3
   subst h1 h2 h3
   simp[dw,bz,aQ,bm,e]
  ·injection h with h1 h2 h3
   subst h1 h2 h3
   simp[dw,bz,aQ,bm,e]
 ·have h1:aQ c=1:=(bv hr.1 hr.2 (by omega)).2 (by omega)
  obtain⟨x,s,rfl⟩:=dR rfl (h1▸ht)
  simp[cf,e]at h
  split at h
  ·injection h with h1 h2 h3
   subst h1 h2 h3
   simp[dw,bz,aQ,bm,e]
  ·injection h with h1 h2 h3
   subst h1 h2 h3
   simp[dw,bz,aQ,bm,e]
 ·simp[cf,e]at h
  obtain⟨h1,h2,h3⟩:=h
  subst h1 h2 h3
  simp[dw,bz,aQ,bm,e]
 ·have h1:aQ c=1:=(bv hr.1 hr.2 (by omega)).2 (by omega)
  obtain⟨x,s,rfl⟩:=dR rfl (h1▸ht)
  simp[cf,e]at h
  split at h
  ·injection h with h1 h2 h3
   subst h1 h2 h3
   simp[dw,bz,aQ,bm,e]
  ·injection h with h1 h2 h3
   subst h1 h2 h3
   simp[dw,bz,aQ,bm,e]
 ·simp[cf,e]at h
 ·simp[cf,e]at h
  split at h<;>cases h
 ·simp[cf,e]at h
theorem wc{r:Item×Int}{at1:Int}{pl s:List Item}:fe r at1 pl s≠ .call:=by
 unfold fe
 split<;>exactλh=>by cases h
theorem u9{l:List af}{f:af}{c:au}(hcode:cT l f c=true){ck:Bool}{at1:Int}{pl st:List Item}:cf ck c at1 pl st= .call↔c.op=16:=by
 have hr:=qE hcode
 constructor
 ·intro h
  by_cases e:c.op=16
  ·exact e
  ·exfalso
   have hk:c.op=0\/c.op=1\/c.op=2\/c.op=18\/c.op=3\/c.op=4\/c.op=5\/c.op=6\/(c.op=7\/c.op=8\/c.op=9\/c.op=10\/c.op=11)\/c.op=12\/c.op=13\/c.op=14\/c.op=15\/c.op=17\/c.op=19:=by omega
   rcases hk with e|e|e|e|e|e|e|e|e|e|e|e|e|e|e
   ·simp[cf,e]at h
   ·simp[cf,e]at h
   ·simp[cf,e]at h
   ·simp[cf,e]at h
   ·simp[cf,e]at h
   ·simp[cf,e]at h
   ·simp[cf,e]at h;exact wc h
   ·simp[cf,e]at h
   ·rw[cf,TK (by omega),TK (by omega),TK (by omega),TK (by omega),TK (by omega),TK (by omega),TK (by omega),TK (by omega),TL e]at h
    exact wc h
   ·simp[cf,e]at h;split at h<;>cases h
   ·simp[cf,e]at h;split at h<;>cases h
   ·simp[cf,e]at h
   ·simp[cf,e]at h;split at h<;>cases h
   ·simp[cf,e]at h
   ·simp[cf,e]at h;split at h<;>cases h
 ·intro e
  simp[cf,e]
theorem Hg{l:List af}{f:af}{c:au}(hcode:cT l f c=true)(e:c.op=16):∃k:Nat,∃g,bP l c.name0=(k:Int)/\k<l.length/\l[k]?=some g/\c.b=g.params/\aQ c=c.b/\bm c=1:=by
 unfold cT at hcode
 simp[e]at hcode
 rcases qf l c.name0 with hf|⟨k,g,hk,hkl,hg⟩
 ·omega
 ·refine⟨k,g,hk,hkl,hg,?_,by simp[aQ,e],by simp[bm,e]⟩
  rw[hk]at hcode
  simp[hg]at hcode
  exact hcode.2
end Go.Proofs.YtcghbgmmgcljkaaGreatDoor
end
section
namespace Go.Proofs.YtcghbgmmgcljkaaGreatDoor
set_option maxRecDepth 20000
theorem CT{t:ak}(h:gn t=true)(h0:t.base≠0)(h1:t.base≠1):1<=t.bits/\t.bits<=31:=by
 unfold gn c8 at h
 simp only[Qg,TJ]at h
 obtain⟨h2,h3⟩:=h
 by_cases hb:t.base=2\/t.base=3
 ·rw[TL hb]at h2
  simp only[Qg,TJ]at h2
  exact h2.1
 ·rw[TK hb,TK (by omega),TK h0,TK (by omega)]at h2
  simp only[Qg,TJ]at h2
  exact absurd h2.1.1 h1
theorem gX{t:ak}(h:de t=true):(t.base=2\/t.base=3)/\1<=t.bits/\t.bits<=31:=by
 unfold de c8 at h
 simp only[Qg,TJ]at h
 obtain⟨⟨⟨h2,hb⟩,_⟩,_⟩:=h
 rw[TL hb]at h2
 simp only[Qg,TJ]at h2
 exact⟨hb,h2.1⟩
theorem Fl{t:ak}(h:de t=true)(n:Int):u3 t n=bt t n:=by
 obtain⟨hb,_⟩:=gX h
 unfold u3 bt
 rw[TK (by omega),TK (by omega)]
theorem nJ(b:Bool):xj (b,())=some (val (jH b),()):=by rw[xj];cases b<;>rfl
theorem gP(n:Int):qw (n,())=some (val (cI n),()):=by rw[qw];rfl
theorem jy(t:ak):rZ (t,())=some (bn.mk (t.base==3) t.bits,()):=by rw[rZ]
theorem pU(t:ak)(n:Int)(h:gn t=true):nj (t,n,())=some (u3 t n,()):=by
 rw[nj]
 unfold u3
 by_cases h0:t.base=0
 ·simp[h0]
 by_cases h1:t.base=1
 ·by_cases hn:n=0<;>simp[h0,h1,hn,nJ,jH,val,cI]
 ·obtain⟨b1,b2⟩:=CT h h0 h1
  have e0:(t.base==0)=false:=by simpa using h0
  have e1:(t.base==1)=false:=by simpa using h1
  simp only[e0,e1,h0,h1,Qf,TI,jy,Dn (bn.mk (t.base==3) t.bits) n b1 b2,Qh,P_]
theorem Ij{t:ak}(h:de t=true):gn t=true:=by
 have hb:=(gX h).1
 unfold de at h
 unfold gn
 simp only[Qg,TJ]at h⊢
 exact⟨h.1.1.1,by omega⟩
theorem dJ(t:ak)(n:Int)(h:de t=true):nj (t,n,())=some (bt t n,()):=by
 rw[pU t n (Ij h),Fl h]
theorem Hb{t:ak}(h:de t=true)(n:Int):inT (t.base==3) t.bits (bt t n):=by
 obtain⟨_,b1,b2⟩:=gX h
 exact G7 b1 b2
end Go.Proofs.YtcghbgmmgcljkaaGreatDoor
end
section
namespace Go.Proofs.YtcghbgmmgcljkaaGreatDoor
set_option maxRecDepth 20000
def tu{α:Type}(f:af)(d at1:Int)(res:Option ah)(l:List af)(ck:Bool)(steps place high:Int)(en:Option aT)(pl st:List Item)(cnt:List Int)(sn:List Item)(t:α):=
 (f.name0,f.params,f.places,f.type0.base,f.type0.bits,f.type0.name0,f.type0.opt,f.type0.err,f.code,d,at1,res,l,ck,steps,place,high,en,pl.map val,(st.map val).reverse,cnt,sn.map val,t)
theorem j6(st:List Item):((st.map val).reverse).length=st.length:=by simp
theorem Bl(x:Item)(st:List Item):(((x::st).map val).reverse)[st.length]?=some (val x):=by
 rw[Qj,SZ,Qq (by simp)];simp
theorem EE(x:Item)(st:List Item):R_ st.length (((x::st).map val).reverse)=(st.map val).reverse:=by
 rw[Qj,SZ,List.take_left' (by simp)]
section
variable (f:af) (d at1:Int) (res:Option ah) (l:List af) (ck:Bool) (steps place high:Int) (en:Option aT) (pl st:List Item) (cnt:List Int) (sn:List Item)
theorem eh(x:Item)(hs:st.length<4294967296):bJ (val x,tu f d at1 res l ck steps place high en pl st cnt sn ())=some (tu f d at1 res l ck steps place (du d high (st.length+1)) en pl (x::st) cnt sn ()):=by
 rw[bJ]
 have e:(st.map val).reverse++[val x]=((x::st).map val).reverse:=by simp
 have h1:(st.map val).reverse.length+[val x].length<=4294967296:=by simp;omega
 have h2:(((x::st).map val).reverse.length:Int)=((st.length+1:Nat):Int):=by rw[j6];rfl
 unfold tu
 simp only[]
 rw[TL h1]
 simp only[e,h2]
 unfold du
 by_cases hd:d=1
 ·have hb:(d==1)=true:=by simpa using hd
  rw[TL hb,TL hd]
 ·have hb:¬(d==1)=true:=by simpa using hd
  rw[TK hb,TK hd]
theorem dX(x:Item)(hs:st.length<4294967296):bk (tu f d at1 res l ck steps place high en pl (x::st) cnt sn ())=some (tu f d at1 res l ck steps place high en pl st cnt sn (val x,())):=by
 rw[bk]
 have h1:((((x::st).map val).reverse).length:Int)=(st.length:Int)+1:=by rw[j6];rfl
 have w:IntKind.i64.wrap ((st.length:Int)+1-1)=(st.length:Int):=by rw[w64 (by omega) (by omega)];omega
 have h2:(0:Int)<=(st.length:Int):=by omega
 have h3:(st.length:Int)<(st.length:Int)+1:=by omega
 have h4:(st.length:Int)<=(st.length:Int)+1:=by omega
 unfold tu
 simp only[h1,w,h2,h3,h4,and_self,TH,Qp,Bl,EE,Qh,P_]
theorem Bc(x:Item)(hs:st.length<4294967296):fK (tu f d at1 res l ck steps place high en pl (x::st) cnt sn ())=some (tu f d at1 res l ck steps place high en pl (x::st) cnt sn (val x,())):=by
 rw[fK]
 have h1:((((x::st).map val).reverse).length:Int)=(st.length:Int)+1:=by rw[j6];rfl
 have w:IntKind.i64.wrap ((st.length:Int)+1-1)=(st.length:Int):=by rw[w64 (by omega) (by omega)];omega
 have h2:(0:Int)<=(st.length:Int):=by omega
 have h3:(st.length:Int)<(st.length:Int)+1:=by omega
 unfold tu
 simp only[h1,w,h2,h3,and_self,TH,Qp,Bl,Qh,P_]
theorem v_(b:Bool)(q:Int):fL (b,q,tu f d at1 res l ck steps place high en pl st cnt sn ())=some (tu f d (if b=true then q else at1) res l ck steps place high en pl st cnt sn ()):=by
 rw[fL]
 unfold tu
 cases b<;>rfl
theorem lP(n loose why:Int)(hs:st.length<4294967296):dF (n,loose,why,tu f d at1 res l ck steps place high en pl st cnt sn ())=
 some (if why≠0/\ck=true then tu f d at1 res l ck steps place high (some (aT.mk 1 why)) pl st cnt sn ()else tu f d at1 res l ck steps place (du d high (st.length+1)) en pl (cI (if why=0 then n else loose)::st) cnt sn ()):=by
 have hp:=λx=>eh f d at1 res l ck steps place high en pl st cnt sn x hs
 unfold tu at hp
 rw[dF]
 unfold tu
 by_cases hw:why=0
 ·subst hw
  simp only[bne_self_eq_false,Qf,TI,Qh,P_,gP,hp,Qb,TH,ne_eq,not_true_eq_false,false_and]
 ·have hb:(why !=0)=true:=by simpa using hw
  cases ck
  ·simp only[hb,hw,TH,TI,Qf,Qh,P_,gP,hp,Qb,and_false]
  ·simp only[hb,hw,TH,Qh,P_,cW,Qb,ne_eq,not_false_eq_true,and_self]
theorem Bb(p:Int)(x:Item)(hp0:0<=p)(hp1:p<(pl.length:Int))(hs:sn.length<=100):hI (p,val x,tu f d at1 res l ck steps place high en pl st cnt sn ())=
 some (tu f d at1 res l ck steps place high en (pl.set p.toNat x) st cnt (if d=1/\place=p/\sn.length<100 then sn++[x]else sn) ()):=by
 rw[hI]
 unfold tu
 have h1:p<((pl.map val).length:Int):=by simpa using hp1
 obtain⟨y,hy⟩:∃y,(pl.map val)[p.toNat]?=some y:=⟨_,Qe (by simp;omega)⟩
 have e:(pl.map val).set p.toNat (val x)=(pl.set p.toNat x).map val:=by rw[RC]
 have ev:ah.mk (ak.mk (val x).type0.base (val x).type0.bits (val x).type0.name0 (val x).type0.opt (val x).type0.err) (val x).n (val x).null (val x).err (ak.mk (val x).of0.base (val x).of0.bits (val x).of0.name0 (val x).of0.opt (val x).of0.err)=val x:=rfl
 simp only[hp0,hp1,and_self,TH,hy,Qh,P_,ev,e,Qb,RD]
 by_cases hd:d=1
 ·have hb:(d==1)=true:=by simpa using hd
  by_cases hpl:place=p
  ·have hb2:(p==place)=true:=by simp[hpl]
   by_cases hn:sn.length<100
   ·have hn':(sn.length:Int)<100:=by omega
    have hl:sn.length+1<=4294967296:=by omega
    simp only[hb,hb2,TH,hn',TM,Qb,hl,hd,hpl,hn,and_self,beq_self_eq_true,P_,QT,Qj,QO]
   ·have hn':¬(sn.length:Int)<100:=by omega
    simp only[hb,hb2,TH,hn',TN,Qf,TI,hd,hpl,hn,and_false,beq_self_eq_true,P_]
  ·have hb2:(p==place)=false:=by simp;exactλh=>hpl h.symm
   simp only[hb,hb2,TH,Qf,TI,hd,hpl,false_and,and_false,beq_self_eq_true,P_]
 ·have hb:(d==1)=false:=by simpa using hd
  simp only[hb,Qf,TI,hd,false_and,P_]
end
end Go.Proofs.YtcghbgmmgcljkaaGreatDoor
end
section
namespace Go.Proofs.YtcghbgmmgcljkaaGreatDoor
set_option maxRecDepth 20000
section
variable (f:af) (d at1:Int) (res:Option ah) (l:List af) (ck:Bool) (steps place high:Int) (en:Option aT) (pl st:List Item) (cnt:List Int) (sn:List Item) (c:au)
theorem p77(hs:st.length<4294967000)(ht:gn c.type0=true):eK (c,tu f d at1 res l ck steps place high en pl st cnt sn ())=
 some (tu f d at1 res l ck steps place (du d high (st.length+1)) en pl (cI (u3 c.type0 c.a)::st) cnt sn ()):=by
 have hp:=λx=>eh f d at1 res l ck steps place high en pl st cnt sn x (by omega)
 unfold tu at hp
 rw[eK];unfold tu
 simp only[jI,pU _ _ ht,gP,hp,Qh,P_,TH]
theorem p78(hs:st.length<4294967000):eL (c,tu f d at1 res l ck steps place high en pl st cnt sn ())=
 some (tu f d at1 res l ck steps place (du d high (st.length+1)) en pl (Item.mk 0 true (Qa #[])::st) cnt sn ()):=by
 have hp:=eh f d at1 res l ck steps place high en pl st cnt sn (Item.mk 0 true (Qa #[])) (by omega)
 unfold tu val at hp
 rw[eL];unfold tu val
 simp only[hp,Qh,P_,TH]
theorem p95(hs:st.length<4294967000):fa (c,tu f d at1 res l ck steps place high en pl st cnt sn ())=
 some (tu f d at1 res l ck steps place (du d high (st.length+1)) en pl (Item.mk 0 false c.name0::st) cnt sn ()):=by
 have hp:=eh f d at1 res l ck steps place high en pl st cnt sn (Item.mk 0 false c.name0) (by omega)
 unfold tu val at hp
 rw[fa];unfold tu val
 simp only[hp,Qh,P_,TH]
theorem p79(hs:st.length<4294967000)(h0:0<=c.a)(h1:c.a<(pl.length:Int)):eM (c,tu f d at1 res l ck steps place high en pl st cnt sn ())=
 some (tu f d at1 res l ck steps place (du d high (st.length+1)) en pl (pl.getD c.a.toNat (cI 0)::st) cnt sn ()):=by
 have hp:=λx=>eh f d at1 res l ck steps place high en pl st cnt sn x (by omega)
 unfold tu at hp
 have hlt:c.a.toNat<pl.length:=by omega
 have e:(pl.map val)[c.a.toNat]?=some (val (pl.getD c.a.toNat (cI 0))):=by
  rw[Qc,So,Qe hlt];rfl
 have h1':c.a<((pl.map val).length:Int):=by simpa using h1
 rw[eM];unfold tu
 simp only[h0,h1',and_self,TH,e,hp,Qh,P_]
theorem p80(x:Item)(hs:st.length<4294967000)(h0:0<=c.a)(h1:c.a<(pl.length:Int))(hn:sn.length<=100):eN (c,tu f d at1 res l ck steps place high en pl (x::st) cnt sn ())=
 some (tu f d at1 res l ck steps place high en (pl.set c.a.toNat x) st cnt (if d=1/\place=c.a/\sn.length<100 then sn++[x]else sn) ()):=by
 have hp:=dX f d at1 res l ck steps place high en pl st cnt sn x (by omega)
 have hq:=Bb f d at1 res l ck steps place high en pl st cnt sn c.a x h0 h1 hn
 unfold tu at hp hq
 rw[eN];unfold tu
 simp only[hp,hq,TH,Qh,P_,Qb,QU]
theorem p81(x:Item)(hs:st.length<4294967000):eO (c,tu f d at1 res l ck steps place high en pl (x::st) cnt sn ())=
 some (tu f d at1 res l ck steps place high en pl st cnt sn ()):=by
 have hp:=dX f d at1 res l ck steps place high en pl st cnt sn x (by omega)
 unfold tu at hp
 rw[eO];unfold tu
 simp only[hp,TH,Qh,P_]
theorem p82(y x:Item)(hs:st.length<4294967000)(ht:de c.type0=true)(ho:5<=c.a/\c.a<=17):eP (c,tu f d at1 res l ck steps place high en pl (x::y::st) cnt sn ())=
 some (if(opS ck c.a c.type0 y x).2=0 then tu f d at1 res l ck steps place (du d high (st.length+1)) en pl ((opS ck c.a c.type0 y x).1::st) cnt sn ()
  else tu f d at1 res l ck steps place high (some (aT.mk 1 (opS ck c.a c.type0 y x).2)) pl st cnt sn ()):=by
 have hp:=λx st hs=>dX f d at1 res l ck steps place high en pl st cnt sn x hs
 have hm:=λn lo w=>lP f d at1 res l ck steps place high en pl st cnt sn n lo w (by omega)
 unfold tu at hp hm
 obtain⟨_,b1,b2⟩:=gX ht
 have i1:=Hb ht y.n
 have i2:=Hb ht x.n
 have hc:=wV c.a (bn.mk (c.type0.base==3) c.type0.bits) _ _ b1 b2 i1 i2 ho
 have hl:=Dk c.a (bn.mk (c.type0.base==3) c.type0.bits) _ _ b1 b2 i1 i2 ho
 have en:∀z,(val z).n=z.n:=λ_=>rfl
 rw[eP];unfold tu
 rw[show((RI val (x::y::st)).reverse)=((RI val (x::(y::st))).reverse)from rfl]
 simp only[hp x (y::st) (by simp;omega),hp y st (by omega),en,jI,dJ _ _ ht,jy,hc,hl,hm,TH,Qh,P_]
 unfold opS
 generalize doS c.a (c.type0.base==3) c.type0.bits (bt c.type0 y.n) (bt c.type0 x.n)=r
 by_cases hr:r.2=0
 ·cases ck<;>simp only[hr,ne_eq,not_true_eq_false,false_and,TI,TH,Qf]
 ·cases ck
  ·simp only[hr,Qf,and_false,TI,TH]
  ·simp only[hr,ne_eq,not_false_eq_true,and_self,TH,TI]
theorem p83(y x:Item)(hs:st.length<4294967000)(ho:18<=c.a/\c.a<=23):eQ (c,tu f d at1 res l ck steps place high en pl (x::y::st) cnt sn ())=
 some (tu f d at1 res l ck steps place (du d high (st.length+1)) en pl (jH (vF c.a y.n x.n)::st) cnt sn ()):=by
 have hp:=λx st hs=>dX f d at1 res l ck steps place high en pl st cnt sn x hs
 have hq:=λx=>eh f d at1 res l ck steps place high en pl st cnt sn x (by omega)
 unfold tu at hp hq
 have en:∀z,(val z).n=z.n:=λ_=>rfl
 have w:IntKind.i64.wrap (c.a-18)=c.a-18:=w64 (by omega) (by omega)
 have w1:0<=c.a-18:=by omega
 have w2:c.a-18<6:=by omega
 have e:[y.n==x.n,y.n !=x.n,decide (y.n<x.n),decide (y.n<=x.n),decide (y.n>x.n),decide (y.n>=x.n)][(c.a-18).toNat]?=some (vF c.a y.n x.n):=by
  have hk:c.a=18\/c.a=19\/c.a=20\/c.a=21\/c.a=22\/c.a=23:=by omega
  rcases hk with h|h|h|h|h|h<;>rw[h]<;>rfl
 rw[eQ];unfold tu
 simp only[hp x (y::st) (by simp;omega),hp y st (by omega),en,w,w1,w2,and_self,e,nJ,hq,TH,Qh,P_,show((6:Nat):Int)=6 from rfl]
theorem p84(x:Item)(hs:st.length<4294967000)(ht:de c.type0=true):eR (c,tu f d at1 res l ck steps place high en pl (x::st) cnt sn ())=
 some (if(bY ck 7 c.type0 x).2=0 then tu f d at1 res l ck steps place (du d high (st.length+1)) en pl ((bY ck 7 c.type0 x).1::st) cnt sn ()
  else tu f d at1 res l ck steps place high (some (aT.mk 1 (bY ck 7 c.type0 x).2)) pl st cnt sn ()):=by
 have hp:=λx st hs=>dX f d at1 res l ck steps place high en pl st cnt sn x hs
 have hm:=λn lo w=>lP f d at1 res l ck steps place high en pl st cnt sn n lo w (by omega)
 unfold tu at hp hm
 obtain⟨_,b1,b2⟩:=gX ht
 have i1:=Hb ht x.n
 have l1:=Dg b1 b2 i1
 have w:IntKind.i64.wrap (0-bt c.type0 x.n)= -(bt c.type0 x.n):=by rw[w64 (by omega) (by omega)];omega
 have hn:=HG (bn.mk (c.type0.base==3) c.type0.bits) _ b1 b2 i1
 have en:∀z,(val z).n=z.n:=λ_=>rfl
 rw[eR];unfold tu
 simp only[hp x st (by omega),en,jI,dJ _ _ ht,jy,hn,w,TH,Qh,P_]
 unfold bY
 by_cases hin:inT (c.type0.base==3) c.type0.bits (-(bt c.type0 x.n))
 ·have e:=jP b1 b2 hin
  have e':bt c.type0 (-(bt c.type0 x.n))= -(bt c.type0 x.n):=e
  cases ck<;>simp[hin,hm,e']
 ·cases ck<;>simp[hin,hm]
theorem p85(x:Item)(hs:st.length<4294967000):eS (c,tu f d at1 res l ck steps place high en pl (x::st) cnt sn ())=
 some (tu f d at1 res l ck steps place (du d high (st.length+1)) en pl (jH (x.n==0)::st) cnt sn ()):=by
 have hp:=λx st hs=>dX f d at1 res l ck steps place high en pl st cnt sn x hs
 have hq:=λx=>eh f d at1 res l ck steps place high en pl st cnt sn x (by omega)
 unfold tu at hp hq
 have en:∀z,(val z).n=z.n:=λ_=>rfl
 rw[eS];unfold tu
 simp only[hp x st (by omega),en,nJ,hq,TH,Qh,P_]
theorem p86(x:Item)(hs:st.length<4294967000)(ht:de c.type0=true):eT (c,tu f d at1 res l ck steps place high en pl (x::st) cnt sn ())=
 some (if(bY ck 9 c.type0 x).2=0 then tu f d at1 res l ck steps place (du d high (st.length+1)) en pl ((bY ck 9 c.type0 x).1::st) cnt sn ()
  else tu f d at1 res l ck steps place high (some (aT.mk 1 (bY ck 9 c.type0 x).2)) pl st cnt sn ()):=by
 have hp:=λx st hs=>dX f d at1 res l ck steps place high en pl st cnt sn x hs
 have hm:=λn lo w=>lP f d at1 res l ck steps place high en pl st cnt sn n lo w (by omega)
 unfold tu at hp hm
 obtain⟨_,b1,b2⟩:=gX ht
 have hn:=Dm (bn.mk (c.type0.base==3) c.type0.bits) x.n b1 b2
 have en:∀z,(val z).n=z.n:=λ_=>rfl
 rw[eT];unfold tu
 simp only[hp x st (by omega),en,jI,dJ _ _ ht,jy,hn,TH,Qh,P_]
 unfold bY
 by_cases hin:inT (c.type0.base==3) c.type0.bits x.n
 ·have e:=jP b1 b2 hin
  have e':bt c.type0 x.n=x.n:=e
  cases ck<;>simp[hin,hm,e',dJ _ _ ht,jI]
 ·cases ck<;>simp[hin,hm,dJ _ _ ht,jI]
theorem p87(x:Item)(hs:st.length<4294967000)(ht:de c.type0=true):eU (c,tu f d at1 res l ck steps place high en pl (x::st) cnt sn ())=
 some (tu f d at1 res l ck steps place (du d high (st.length+1)) en pl (cI (bt c.type0 x.n)::st) cnt sn ()):=by
 have hp:=λx st hs=>dX f d at1 res l ck steps place high en pl st cnt sn x hs
 have hq:=λx=>eh f d at1 res l ck steps place high en pl st cnt sn x (by omega)
 unfold tu at hp hq
 have en:∀z,(val z).n=z.n:=λ_=>rfl
 rw[eU];unfold tu
 simp only[hp x st (by omega),en,jI,dJ _ _ ht,gP,hq,TH,Qh,P_]
theorem p88(x:Item)(hs:st.length<4294967000):eV (c,tu f d at1 res l ck steps place high en pl (x::st) cnt sn ())=
 some (if(bY ck 11 c.type0 x).2=0 then tu f d at1 res l ck steps place (du d high (st.length+1)) en pl ((bY ck 11 c.type0 x).1::st) cnt sn ()
  else tu f d at1 res l ck steps place high (some (aT.mk 1 (bY ck 11 c.type0 x).2)) pl st cnt sn ()):=by
 have hp:=λx st hs=>dX f d at1 res l ck steps place high en pl st cnt sn x hs
 have hm:=λn lo w=>lP f d at1 res l ck steps place high en pl st cnt sn n lo w (by omega)
 unfold tu at hp hm
 have en:∀z,(val z).n=z.n:=λ_=>rfl
 have en2:∀z,(val z).null=z.null:=λ_=>rfl
 rw[eV];unfold tu
 simp only[hp x st (by omega),en,en2,TH,Qh,P_]
 unfold bY
 cases hx:x.null<;>cases ck<;>simp[hm,en]
theorem p89(x:Item)(hs:st.length<4294967000):eW (c,tu f d at1 res l ck steps place high en pl (x::st) cnt sn ())=
 some (if x.null=true then tu f d c.a res l ck steps place high en pl st cnt sn ()else tu f d at1 res l ck steps place high en pl (x::st) cnt sn ()):=by
 have hp:=λx st hs=>dX f d at1 res l ck steps place high en pl st cnt sn x hs
 have hq:=Bc f d at1 res l ck steps place high en pl st cnt sn x (by omega)
 unfold tu at hp hq
 have en2:∀z,(val z).null=z.null:=λ_=>rfl
 rw[eW];unfold tu
 simp only[hq,hp x st (by omega),en2,TH,Qh,P_]
 cases hx:x.null<;>simp
theorem p90(x:Item)(hs:st.length<4294967000):eX (c,tu f d at1 res l ck steps place high en pl (x::st) cnt sn ())=
 some (if x.err=Qa #[]then tu f d at1 res l ck steps place high en pl (x::st) cnt sn ()else tu f d c.a res l ck steps place high en pl (x::st) cnt sn ()):=by
 have hq:=Bc f d at1 res l ck steps place high en pl st cnt sn x (by omega)
 have hj:=λb q=>v_ f d at1 res l ck steps place high en pl (x::st) cnt sn b q
 unfold tu at hq hj
 have en2:∀z,(val z).err=z.err:=λ_=>rfl
 rw[eX];unfold tu
 simp only[hq,hj,en2,io,TH,Qh,P_]
 by_cases hx:x.err=Qa #[]<;>simp[hx]
theorem p91:eY (c,tu f d at1 res l ck steps place high en pl st cnt sn ())=some (tu f d c.a res l ck steps place high en pl st cnt sn ()):=by
 rw[eY];rfl
theorem p92(x:Item)(hs:st.length<4294967000):eZ (c,tu f d at1 res l ck steps place high en pl (x::st) cnt sn ())=
 some (tu f d (if x.n=0 then c.a else at1) res l ck steps place high en pl st cnt sn ()):=by
 have hp:=λx st hs=>dX f d at1 res l ck steps place high en pl st cnt sn x hs
 have hj:=λb q=>v_ f d at1 res l ck steps place high en pl st cnt sn b q
 unfold tu at hp hj
 have en:∀z,(val z).n=z.n:=λ_=>rfl
 rw[eZ];unfold tu
 simp only[hp x st (by omega),hj,en,beq_iff_eq,TH,Qh,P_]
theorem p94(x:Item)(hs:st.length<4294967000):e_ (c,tu f d at1 res l ck steps place high en pl (x::st) cnt sn ())=
 some (tu f d at1 (some (val x)) l ck steps place high en pl st cnt sn ()):=by
 have hp:=λx st hs=>dX f d at1 res l ck steps place high en pl st cnt sn x hs
 unfold tu at hp
 rw[e_];unfold tu
 simp only[hp x st (by omega),TH,Qh,P_]
theorem p96:fb (c,tu f d at1 res l ck steps place high en pl st cnt sn ())=
 some (if ck=true then tu f d at1 res l ck steps place high (some (aT.mk 1 c.a)) pl st cnt sn ()else tu f d at1 (some (val (cI 0))) l ck steps place high en pl st cnt sn ()):=by
 rw[fb];unfold tu
 cases ck
 ·simp only[gP,Qf,TI,Qh,P_]
 ·simp only[cW,TH,Qh,P_]
end
end Go.Proofs.YtcghbgmmgcljkaaGreatDoor
end
section
namespace Go.Proofs.YtcghbgmmgcljkaaGreatDoor
set_option maxRecDepth 20000
structure OkG (l:List af) (g:Lg):Prop where
 s0:0<=g.steps
 s1:g.steps<=40000
 kind:g.kind=0
 stop:g.stop=0
 cnt:g.counts.length=l.length
 seen:g.seen.length<=100
structure OkA (l:List af) (f:af) (d:Int) (a:Nat) (pl st:List Item):Prop where
 mem:f∈l
 reach:Reach f a (st.length:Int)
 pls:(pl.length:Int)=f.places
 d1:1<=d
 d2:d<=30
theorem Br{d place:Int}{c:au}{st seen:List Item}(h:seen.length<=100):(oC d place c st seen).length<=100:=by
 unfold oC
 split
 ·rw[Qx,RD];omega
 ·exact h
theorem OkA.st_le{l:List af}{f:af}{d:Int}{a:Nat}{pl st:List Item}(A:OkA l f d a pl st)(R:og l):st.length<=65:=by
 have:=Bh (R.fns f A.mem).2.2.2 A.reach
 omega
theorem OkA.code{l:List af}{f:af}{d:Int}{a:Nat}{pl st:List Item}(A:OkA l f d a pl st)(R:og l):∃c,f.code[a]?=some c/\c∈f.code/\cT l f c=true/\a<f.code.length/\f.code.length<=3000:=by
 have S:=(R.fns f A.mem).2.2.2
 have h:=qM S.1 A.reach
 exact⟨_,Qe h,Q3 h,tM (R.fns f A.mem).1 (Q3 h),h,S.2.1⟩
theorem AO{l:List af}(R:og l){f:af}{d:Int}{a:Nat}{pl st:List Item}(A:OkA l f d a pl st){g:Lg}(G:OkG l g)(hs:¬g.steps=40000){c:au}(hc:f.code[a]?=some c)
 {ck:Bool}{place at1:Int}{pl1 st1:List Item}(h:cf ck c ((a:Int)+1) pl st= .go at1 pl1 st1):
 (∃b:Nat,at1=(b:Int)/\OkA l f d b pl1 st1)/\OkG l {g with steps:=g.steps+1,high:=du d g.high st1.length,seen:=oC d place c st g.seen}:=by
 have hcode:=tM (R.fns f A.mem).1 (Qk hc)
 obtain⟨hk,hw⟩:=j7 R A.mem A.reach hc
 obtain⟨h1,h2⟩:=Jc hcode hk h
 obtain⟨b,hb,hr⟩:=hw _ _ h1
 refine⟨⟨b,hb,A.mem,hr,by rw[h2];exact A.pls,A.d1,A.d2⟩,?_⟩
 have:=G.s0
 have:=G.s1
 exact⟨by simp only[];omega,by simp only[];omega,G.kind,G.stop,G.cnt,Br G.seen⟩
theorem sf{l:List af}(R:og l){f:af}{d:Int}{a:Nat}{pl st:List Item}(A:OkA l f d a pl st){c:au}(hc:f.code[a]?=some c)(e:c.op=16):
 ∃(k:Nat) (h:af) (b:Nat),bP l c.name0=(k:Int)/\k<l.length/\l[k]?=some h/\c.b=(b:Int)/\b<=st.length/\(b:Int)=h.params/\(b:Int)<=h.places/\h.places<=200/\
  (∀x,OkA l f d (a+1) pl (x::st.drop b))/\(d+1<=30->OkA l h (d+1) 0 (cF h (st.take b).reverse) []):=by
 have hcode:=tM (R.fns f A.mem).1 (Qk hc)
 obtain⟨hk,hw⟩:=j7 R A.mem A.reach hc
 obtain⟨k,h,h1,h2,h3,h4,h5,h6⟩:=Hg hcode e
 have hm:=Qk h3
 obtain⟨_,hp0,hp1,_⟩:=R.fns h hm
 have hp2:=R.places h hm
 obtain⟨hk1,hk2⟩:=hk
 have hb:c.b=((c.b.toNat:Nat):Int):=by omega
 have hble:c.b.toNat<=st.length:=by omega
 refine⟨k,h,c.b.toNat,h1,h2,h3,hb,hble,by omega,by omega,hp2,λx=> ?_,λhd=> ?_⟩
 ·obtain⟨b',hb',hr⟩:=hw ((a:Int)+1) (bz c (st.length:Int)) (b_.mpr (.inr ⟨by unfold gr;simp[e],rfl,rfl⟩))
  have eb:b'=a+1:=by omega
  subst eb
  refine⟨A.mem,?_,A.pls,A.d1,A.d2⟩
  have en:bz c (st.length:Int)=(((x::st.drop c.b.toNat).length:Nat):Int):=by
   unfold bz;rw[h5,h6,Qz,QN];omega
  rw[<-en];exact hr
 ·refine⟨hm,Reach.start,?_,by have:=A.d1;omega,hd⟩
  unfold cF
  rw[Qx,Rf,Sq,QM]
  omega
theorem vD{d h:Int}{n:Nat}(hd:d=1):(n:Int)<=du d h n:=by unfold du;rw[TL hd];omega
theorem vE{d h:Int}{n:Nat}(hd:d≠1):du d h n=h:=by unfold du;rw[TK hd]
theorem fm{d h:Int}{n:Nat}(hd:d=1->(n:Int)<=h):du d h n=h:=by unfold du;split<;>omega
structure Left (l:List af) (d:Int) (g:Lg) (r:Item×Lg):Prop where
 s0:g.steps<=r.2.steps
 s1:r.2.steps<=40000
 cnt:r.2.counts.length=l.length
 seen:r.2.seen.length<=100
 high:d≠1->r.2.high=g.high
 stop:r.2.kind=0->r.2.stop=0
 zero:r.2.kind≠0->r.1=cI 0
 kinds:r.2.kind=0\/r.2.kind=1\/(r.2.kind=2/\r.2.stop=0)
theorem Ma{p:Prop}(h:(2:Int)=0):p:=absurd h (by decide)
theorem OH{p:Prop}(h:(1:Int)=0):p:=absurd h (by decide)
theorem gK{l:List af}(R:og l)(ck:Bool)(place:Int):∀(N:Nat) (f:af) (d:Int) (a:Nat) (pl st:List Item) (g:Lg),OkA l f d a pl st->OkG l g->Left l d g (fg l ck place N f d (a:Int) pl st g)
 |0,f,d,a,pl,st,g,A,G=>by
  rw[fg]
  exact⟨R0 _,G.s1,G.cnt,G.seen,λ_=>rfl,λh=>Ma h,λ_=>rfl, .inr (.inr ⟨rfl,G.stop⟩)⟩
 |N+1,f,d,a,pl,st,g,A,G=>by
  obtain⟨c,hc,hcm,hcode,hal,hl3⟩:=A.code R
  have s0:=G.s0
  have s1:=G.s1
  rw[fg]
  by_cases hs:g.steps=40000
  ·rw[TL hs]
   exact⟨R0 _,G.s1,G.cnt,G.seen,λ_=>rfl,λh=>Ma h,λ_=>rfl, .inr (.inr ⟨rfl,G.stop⟩)⟩
  ·rw[TK hs]
   simp only[Qp,hc]
   cases ha:cf ck c ((a:Int)+1) pl st with
   |go at1 pl1 st1=>
    obtain⟨⟨b,hb,A'⟩,G'⟩:=AO (place:=place) R A G hs hc ha
    simp only[]
    subst hb
    have ih:=gK R ck place N f d b pl1 st1 _ A' G'
    exact⟨by have:=ih.s0;simp only[]at this;omega,ih.s1,ih.cnt,ih.seen,λhd=>by rw[ih.high hd];exact vE hd,ih.stop,ih.zero,ih.kinds⟩
   |ret x=>exact⟨by simp only[];omega,by simp only[];omega,G.cnt,G.seen,λ_=>rfl,λ_=>G.stop,λh=>absurd G.kind h, .inl G.kind⟩
   |stop w=>
    exact⟨by simp only[];omega,by simp only[];omega,G.cnt,G.seen,λ_=>rfl,λh=>OH h,λ_=>rfl, .inr (.inl rfl)⟩
   |call=>
    obtain⟨k,h,b,h1,h2,h3,h4,h5,h6,h7,h8,h9,h10⟩:=sf R A hc ((u9 hcode).mp ha)
    simp only[h1,h3,h4,Qp]
    by_cases hd:30<d+1
    ·rw[TL hd]
     exact⟨by simp only[Ci];omega,by simp only[Ci];omega,G.cnt,G.seen,λ_=>rfl,λh=>Ma h,λ_=>rfl, .inr (.inr ⟨rfl,G.stop⟩)⟩
    ·rw[TK hd]
     have G1:OkG l {g with steps:=g.steps+1,counts:=tB g.counts k}:=⟨by simp only[];omega,by simp only[];omega,G.kind,G.stop,by simp only[tB,QU];exact G.cnt,G.seen⟩
     have L:=gK R ck place N h (d+1) 0 _ [] _ (h10 (by omega)) G1
     rw[Q_]at L
     generalize fg l ck place N h (d+1) 0 (cF h (st.take b).reverse) [] {g with steps:=g.steps+1,counts:=tB g.counts k}=r at L⊢
     have hd1:=A.d1
     have L0:=L.s0
     have L1:=L.s1
     have Lh:=L.high (by omega)
     simp only[]at L0 Lh
     by_cases hk:r.2.kind=0
     ·rw[TL hk]
      have G2:OkG l {r.2 with high:=du d r.2.high (st.length-b+1)}:=⟨by simp only[];omega,L1,hk,L.stop hk,L.cnt,L.seen⟩
      have ih:=gK R ck place N f d (a+1) pl _ _ (h9 r.1) G2
      have e1:(((a+1:Nat):Int))=(a:Int)+1:=rfl
      rw[e1]at ih
      exact⟨by have:=ih.s0;simp only[]at this;omega,ih.s1,ih.cnt,ih.seen,λhd=>by rw[ih.high hd];simp only[];rw[vE hd,Lh],ih.stop,ih.zero,ih.kinds⟩
     ·rw[TK hk]
      exact⟨by simp only[];omega,L1,L.cnt,L.seen,λ_=>Lh,L.stop,λ_=>rfl,L.kinds⟩
end Go.Proofs.YtcghbgmmgcljkaaGreatDoor
end
