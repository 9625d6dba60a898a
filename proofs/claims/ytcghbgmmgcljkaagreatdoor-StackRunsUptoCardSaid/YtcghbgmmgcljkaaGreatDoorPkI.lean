/-
  Texts of this claim, joined by a program of mine: what the theorem uses.
-/
import Derived.Test.YtcghbgmmgcljkaaGreatDoorPkH
open Array renaming length_toList→abI,toList_inj→acm
open Bool renaming and_eq_false_iff→ade,and_eq_true→Z8,false_eq_true→Z0,false_or→ab1,not_false→aaZ,not_true→aax,or_eq_false_iff→abg,or_eq_true→aaD,true_and→abq,true_or→acs
open ByteArray renaming mk→ZZ,size_append→abZ
open Int renaming emod_emod_of_dvd→adh,emod_lt_of_pos→ace,emod_nonneg→abQ,le_refl→aaz,mul_nonneg→acu,natCast_dvd_natCast→acw,natCast_zero→aao,one_mul→ady,reduceLE→adu,reduceLT→adt,reduceToNat→ac6,tdiv_eq_ediv_of_nonneg→acQ,tmod_eq_emod_of_nonneg→acP,toNat→aaq,toNat_natCast→Z5,toNat_of_nonneg→abG,toNat_zero→aaB
open Int.ofNat renaming inj→adi
open List renaming all_cons→abe,all_eq_true→aaf,any_cons→ab0,any_eq_true→aa1,append_assoc→abj,countP_le_length→acC,drop→ack,drop_eq_getElem_cons→abO,drop_eq_nil_of_le→abt,drop_replicate→ado,drop_succ_cons→acK,drop_zero→aap,eq_of_mem_replicate→ac0,getD_eq_getElem?_getD→aa0,getElem?_append_right→aaj,getElem?_cons_succ→ab9,getElem?_cons_zero→aa4,getElem?_drop→aaw,getElem?_eq_getElem→Z3,getElem?_eq_none→abX,getElem?_map→Z6,getElem?_range→abl,getElem?_replicate→acv,getElem?_set_ne→ab6,getElem?_set_self→ach,getElem_mem→aaQ,length_append→aas,length_cons→aaa,length_drop→aaE,length_eq_zero_iff→ac3,length_flatMap→adm,length_map→Z7,length_replicate→aaP,length_reverse→aaY,length_set→aaR,length_singleton→aa5,length_take→aaM,map→acl,map_append→aaV,map_cons→aac,map_nil→aaT,map_replicate→abN,map_set→abD,mem_append→aa9,mem_append_left→abf,mem_cons→aai,mem_cons_of_mem→aab,mem_cons_self→aag,mem_filter→acp,mem_map→aav,mem_of_getElem?→Z_,mem_of_mem_take→aa2,mem_or_eq_of_mem_set→acW,mem_singleton→aaN,nil_append→aad,nodup_cons→acG,range→abk,replicate→aak,reverse_cons→ab3,set_append_right→acA,take→abb,takeWhile_cons→abu,take_of_length_le→aaI,take_succ_cons→adl
open List.cons renaming injEq→aaS
open Nat renaming and_mod_two_pow→adk,le_refl→aat,le_trans→abv,min_eq_left→abx,pow_dvd_pow→ac5,pow_le_pow_right→abr,pow_succ→acF,reduceEqDiff→acX,reduceLT→adr,strongRecOn→acE,sub_zero→aaK,xor_mod_two_pow→adj,zero_add→Z9,zero_le→ab7
open Option renaming bind_eq_bind→Z1,bind_some→ZY,getD_some→abc,isNone_none→acb,isSome_some→acq
open Option.some renaming inj→aa3,injEq→Z2
open Prod.mk renaming injEq→aaC
open Sum renaming inl→aaG,inr→aa8
open UInt8 renaming ofNat→acg
noncomputable section
set_option linter.unusedSimpArgs false
set_option linter.unusedVariables false
section
namespace Go.Proofs.YtcghbgmmgcljkaaGreatDoor
open IntKind (i64)
set_option maxRecDepth 20000
theorem nj{k:Nat}(h:k<=31)(c:Int)(hc: -2<=c/\c<=2):Bs.ishl .i64 c (k:Int)=c *2^k:=by
 have p2:2^k<=2^31:=abr (by omega) h
 have e2:((2:Int)^k)=((2^k:Nat):Int):=by simp
 have p0:(0:Int)<2^k:=Int.pow_pos (by decide)
 show i64.wrap (c *2^min ((k:Int)).toNat 64)=_
 rw[Z5,abx (by omega)]
 have:c= -2\/c= -1\/c=0\/c=1\/c=2:=by omega
 rcases this with h|h|h|h|h<;>subst h<;>exact w64 (by omega) (by omega)
theorem He(t:bB)(h1:1<=t.bits)(h2:t.bits<=31):AU (t,())=some (hi t.signed t.bits,()):=by
 obtain⟨p1,p2,p3⟩:=fg h1 h2
 rw[AU]
 unfold hi
 by_cases hs:t.signed=true
 ·simp only[hs,adz]
  have e:i64.wrap (t.bits-1)=((t.bits.toNat-1:Nat):Int):=by rw[w64 (by omega) (by omega)];omega
  rw[e,adD (by omega),nj (by omega) 1 (by omega),w64 (by omega) (by omega),ady]
 ·simp only[hs,adA,Z0]
  have e:t.bits=((t.bits.toNat:Nat):Int):=by omega
  rw[adD (by omega),e,nj (by omega) 1 (by omega),<-e,w64 (by omega) (by omega),ady]
theorem Nd(t:bB)(h1:1<=t.bits)(h2:t.bits<=31):Er (t,())=some (lo t.signed t.bits,()):=by
 obtain⟨p1,p2,p3⟩:=fg h1 h2
 rw[Er]
 unfold lo
 by_cases hs:t.signed=true
 ·simp only[hs,adz]
  have e:i64.wrap (t.bits-1)=((t.bits.toNat-1:Nat):Int):=by rw[w64 (by omega) (by omega)];omega
  rw[e,adD (by omega),nj (by omega) (-1) (by omega)]
  simp
 ·simp only[hs,adA,Z0]
theorem hG(t:bB)(n:Int)(h1:1<=t.bits)(h2:t.bits<=31):mU (t,n,())=some (decide (inT t.signed t.bits n),()):=by
 rw[mU]
 simp only[Nd t h1 h2,He t h1 h2,Z1,ZY,ge_iff_le,adB]
 unfold inT
 by_cases h:lo t.signed t.bits<=n
 ·simp[h]
 ·simp[h]
theorem fj(t:bB)(n:Int)(h1:1<=t.bits)(h2:t.bits<=31):wI (t,n,())=some (pV t.signed t.bits n,()):=by
 obtain⟨p1,p2,p3⟩:=fg h1 h2
 have m1:=abQ n (show(2:Int)^t.bits.toNat≠0 by omega)
 have m2:=ace n (show(0:Int)<2^t.bits.toNat by omega)
 have e:t.bits=((t.bits.toNat:Nat):Int):=by omega
 have es:Bs.ishl .i64 1 t.bits=2^t.bits.toNat:=by
  rw[e,nj (by omega) 1 (by omega),<-e,ady]
 have em:Bs.iand .i64 n (i64.wrap (2^t.bits.toNat-1))=n%2^t.bits.toNat:=by
  rw[w64 (by omega) (by omega),DI n (by omega)]
 rw[wI]
 simp only[He t h1 h2,es,em,Z1,ZY,gt_iff_lt,adB]
 rw[adD (by omega)]
 unfold pV hi
 by_cases hs:t.signed=true
 ·simp only[hs,adz,true_and]
  by_cases h:2^(t.bits.toNat-1) -1<n%2^t.bits.toNat
  ·rw[adD h,adD (by omega),adD (by omega),w64 (by omega) (by omega)]
   rfl
  ·rw[adC h,adC (by omega)]
   rfl
 ·simp only[hs,adA,Z0,false_and]
  rw[adC (by omega)]
  rfl
theorem nE(t:bB)(h1:1<=t.bits)(h2:t.bits<=31):oY (t,())=some (0,()):=by
 rw[oY]
 rw[adC (by simp;omega)]
 have:¬31<t.bits:=by omega
 simp[this]
def eE(op x y:Int):Option Int:=
 if op=5\/op=10\/op=13 then some (x+y)else if op=6\/op=11\/op=14 then some (x-y)else if op=7\/op=12 then some (x *y)else if y=0 then none else some (x.tdiv y)
def doS(op:Int)(s:Bool)(b x y:Int):Int×Int:=
 if 15<=op then(pV s b ((zW op (raw b x) (raw b y):Nat):Int),0)else
 match eE op x y with
 |none=>(if op=9 then x else 0,2)
 |some n=>
  if op=10\/op=11\/op=12 then(pV s b n,0)else
  if op=13\/op=14 then(QV s b n,0)else
  if inT s b n then(if op=9 then x.tmod y else n,0)else(if op=9 then 0 else pV s b n,1)
theorem wF{x y M:Int}(hx: -M<=x)(hx':x<=M)(hy: -M<=y)(hy':y<=M): -(M *M)<=x *y/\x *y<=M *M:=by
 have h1:0<=(M-x) *(M-y):=acu (by omega) (by omega)
 have h2:0<=(M+x) *(M+y):=acu (by omega) (by omega)
 have h3:0<=(M-x) *(M+y):=acu (by omega) (by omega)
 have h4:0<=(M+x) *(M-y):=acu (by omega) (by omega)
 simp only[Int.sub_mul,Int.add_mul,Int.mul_sub,Int.mul_add]at h1 h2 h3 h4
 have c1:=Int.mul_comm x M
 constructor<;>omega
theorem zr{x y:Int}: -(x.natAbs:Int)<=x.tdiv y/\x.tdiv y<=(x.natAbs:Int):=by
 have h:(x.tdiv y).natAbs<=x.natAbs:=by rw[Int.natAbs_tdiv];exact Nat.div_le_self _ _
 omega
theorem JP{x y:Int}(hy:y≠0):(0<=x->0<=x.tmod y/\x.tmod y<=x)/\(x<=0->x<=x.tmod y/\x.tmod y<=0):=by
 have hn:(x.tmod y).natAbs<=x.natAbs:=by rw[Int.natAbs_tmod];exact Nat.mod_le _ _
 constructor
 ·intro h
  have:=Int.tmod_nonneg y h
  omega
 ·intro h
  have:=Int.tmod_nonneg y (show 0<= -x by omega)
  rw[Int.neg_tmod]at this
  omega
theorem yi(op:Int){x y:Int}(hx: -1073741824<=x/\x<=2147483647)(hy: -1073741824<=y/\y<=2147483647):
 Ej (op,x,y,())=some (match eE op x y with|some n=>(n,true,())|none=>(0,false,())):=by
 have m:=wF (x:=x) (y:=y) (M:=2147483647) (by omega) (by omega) (by omega) (by omega)
 have d:=zr (x:=x) (y:=y)
 rw[Ej]
 unfold eE
 have w1:i64.wrap (x+y)=x+y:=w64 (by omega) (by omega)
 have w2:i64.wrap (x-y)=x-y:=w64 (by omega) (by omega)
 have w3:i64.wrap (x *y)=x *y:=w64 (by omega) (by omega)
 have w4:i64.wrap (x.tdiv y)=x.tdiv y:=w64 (by omega) (by omega)
 by_cases a1:op=5
 ·simp[a1,w1]
 by_cases a2:op=10
 ·simp[a2,w1]
 by_cases a3:op=13
 ·simp[a3,w1]
 by_cases a4:op=6
 ·simp[a4,w2]
 by_cases a5:op=11
 ·simp[a5,w2]
 by_cases a6:op=14
 ·simp[a6,w2]
 by_cases a7:op=7
 ·simp[a7,w3]
 by_cases a8:op=12
 ·simp[a8,w3]
 by_cases hy0:y=0
 ·simp[a1,a2,a3,a4,a5,a6,a7,a8,hy0]
 ·simp[a1,a2,a3,a4,a5,a6,a7,a8,hy0,w4]
theorem Pc{b:Int}(h1:1<=b)(h2:b<=31)(s:Bool): -1073741824<=lo s b/\lo s b<=0/\0<=hi s b/\hi s b<=2147483647:=by
 obtain⟨p1,p2,p3⟩:=fg h1 h2
 unfold lo hi
 cases s<;>simp<;>omega
theorem uU(op:Int)(t:bB)(x y:Int)(h1:1<=t.bits)(h2:t.bits<=31)(hx:inT t.signed t.bits x)(hy:inT t.signed t.bits y):
 Ed (op,t,x,y,())=some (if(doS op t.signed t.bits x y).2=0 then(doS op t.signed t.bits x y).1 else 0,(doS op t.signed t.bits x y).2,()):=by
 have lx:=oP h1 h2 hx
 have ly:=oP h1 h2 hy
 rw[Ed]
 unfold doS
 by_cases hop:15<=op
 ·simp only[ge_iff_le,adB,hop,adz,zX op t x y h1 h2 hx hy,Z1,ZY]
 ·simp only[ge_iff_le,adB,hop,adA,yi op lx ly,Z1,ZY]
  cases he:eE op x y with
  |none=>simp
  |some n=>
   simp only[aax,Z0,adA,beq_iff_eq]
   by_cases a2:op=10
   ·simp[a2,iG t n h1 h2]
   by_cases a5:op=11
   ·simp[a5,iG t n h1 h2]
   by_cases a8:op=12
   ·simp[a8,iG t n h1 h2]
   by_cases a3:op=13
   ·simp[a3,ES t n h1 h2]
   by_cases a6:op=14
   ·simp[a6,ES t n h1 h2]
   have e1:(op==12)=false:=by simpa using a8
   have e2:(op==14)=false:=by simpa using a6
   simp only[a2,a5,a3,adA,e1,e2,ZY,Z0,QC t n h1 h2,or_self,a8,a6]
   by_cases hin:inT t.signed t.bits n
   ·simp only[hin,adE,aax,Z0,adA,adz]
    by_cases a9:op=9
    ·subst a9
     have hn:n=x.tdiv y/\y≠0:=by
      unfold eE at he
      simp at he
      exact⟨he.2.symm,he.1⟩
     have ln:=oP h1 h2 hin
     have m:=wF (x:=n) (y:=y) (M:=2147483647) (by omega) (by omega) (by omega) (by omega)
     simp only[adz]
     rw[w64 (x:=n *y) (by omega) (by omega),w64 (by omega) (by omega),Int.tmod_def,hn.1,Int.mul_comm y]
    ·simp[a9]
   ·simp[hin]
theorem Dx(op:Int)(t:bB)(x y:Int)(h1:1<=t.bits)(h2:t.bits<=31)(hx:inT t.signed t.bits x)(hy:inT t.signed t.bits y):
 HE (op,t,x,y,())=some ((doS op t.signed t.bits x y).1,()):=by
 have lx:=oP h1 h2 hx
 have ly:=oP h1 h2 hy
 rw[HE]
 simp only[uU op t x y h1 h2 hx hy,Z1,ZY]
 unfold doS
 by_cases hop:15<=op
 ·simp[hop]
 ·simp only[hop,adA]
  cases he:eE op x y with
  |none=>
   by_cases a9:op=9
   ·simp[a9]
   ·simp[a9]
  |some n=>
   simp only[]
   by_cases a2:op=10\/op=11\/op=12
   ·simp[a2]
   by_cases a3:op=13\/op=14
   ·simp[a2,a3]
   simp only[a2,a3,adA]
   by_cases hin:inT t.signed t.bits n
   ·simp[hin]
   ·by_cases a9:op=9
    ·simp[hin,a9]
    ·simp[hin,a9,yi op lx ly,he,iG t n h1 h2]
end Go.Proofs.YtcghbgmmgcljkaaGreatDoor
end
section
namespace Go.Proofs.YtcghbgmmgcljkaaGreatDoor
open IntKind (i64)
set_option maxRecDepth 20000
def uN(n:Int):Nat:=(BitVec.ofInt 64 n).toNat
theorem Jn(n:Int):(uN n:Int)=n%2^64:=by
 unfold uN
 rw[BitVec.toNat_ofInt]
 have:=abQ n (show((2^64:Nat):Int)≠0 by decide)
 rw[abG this]
 rfl
theorem uO(n:Int){b:Int}(h1:1<=b)(h2:b<=31):uN n%2^b.toNat=raw b n:=by
 have e:=Jn n
 have e2:((2:Int)^b.toNat)=((2^b.toNat:Nat):Int):=by simp
 have h:((uN n%2^b.toNat:Nat):Int)=n%2^b.toNat:=by
  rw[Int.natCast_emod,e,<-e2]
  exact adh n (by
   rw[e2,show(2:Int)^64=((2^64:Nat):Int) by rfl,acw]
   exact ac5 2 (by omega))
 unfold raw
 omega
theorem Kc{m:Nat}(h:m<2^64):i64.wrap (m:Int)=if m<2^63 then(m:Int)else(m:Int) -2^64:=by
 unfold IntKind.wrap
 simp only[IntKind.bits,IntKind.signed,abq]
 split<;>rename_i h'<;>simp at h'<;>split<;>omega
def zV(op:Int)(x y:Int):Int:=if op=15 then Bs.iand .i64 x y else if op=16 then Bs.ior .i64 x y else Bs.ixor .i64 x y
theorem GG(op x y:Int):zV op x y=i64.wrap ((zW op (uN x) (uN y):Nat):Int):=by
 unfold zV zW
 split
 ·show i64.wrap ((BitVec.ofInt 64 x&&&BitVec.ofInt 64 y).toNat:Int)=_
  rw[BitVec.toNat_and];rfl
 ·split
  ·show i64.wrap ((BitVec.ofInt 64 x|||BitVec.ofInt 64 y).toNat:Int)=_
   rw[BitVec.toNat_or];rfl
  ·show i64.wrap ((BitVec.ofInt 64 x^^^BitVec.ofInt 64 y).toNat:Int)=_
   rw[BitVec.toNat_xor];rfl
theorem Mq(op:Int){x y k:Nat}(hx:x<2^k)(hy:y<2^k):zW op x y<2^k:=by
 unfold zW
 split
 ·exact Nat.and_lt_two_pow _ hy
 ·split
  ·exact Nat.or_lt_two_pow hx hy
  ·exact Nat.xor_lt_two_pow hx hy
theorem GH(op:Int)(x y k:Nat):zW op x y%2^k=zW op (x%2^k) (y%2^k):=by
 unfold zW
 split
 ·exact adk
 ·split
  ·exact Nat.or_mod_two_pow
  ·exact adj
theorem rU(op:Int){s:Bool}{b x y:Int}(h1:1<=b)(h2:b<=31):
 pV s b (zV op x y)=pV s b ((zW op (raw b x) (raw b y):Nat):Int):=by
 refine zU ?_
 have lx:uN x<2^64:=(BitVec.ofInt 64 x).isLt
 have ly:uN y<2^64:=(BitVec.ofInt 64 y).isLt
 have lz:=Mq op lx ly
 rw[GG,<-uO x h1 h2,<-uO y h1 h2,<-GH]
 have e2:((2:Int)^b.toNat)=((2^b.toNat:Nat):Int):=by simp
 rw[e2,Int.natCast_emod,Int.emod_emod,Kc lz]
 split
 ·rfl
 ·have hd:((2^b.toNat:Nat):Int)∣2^64:=by
   rw[show(2:Int)^64=((2^64:Nat):Int) by rfl,acw]
   exact ac5 2 (by omega)
  obtain⟨c,hc⟩:=hd
  rw[hc,Int.sub_mul_emod_self_left]
end Go.Proofs.YtcghbgmmgcljkaaGreatDoor
end
section
namespace Go.Proofs.YtcghbgmmgcljkaaGreatDoor
open IntKind (i64)
set_option maxRecDepth 20000
theorem yW{s:Bool}{b:Int}(h1:1<=b)(h2:b<=31)(n:Int):max (lo s b) (min (hi s b) n)=QV s b n:=by
 have:=Pc h1 h2 s
 unfold QV
 split
 ·omega
 ·split<;>omega
theorem Qu(op:Int)(t:bB)(x y:Int)(h1:1<=t.bits)(h2:t.bits<=31)(hx:inT t.signed t.bits x)(hy:inT t.signed t.bits y)(ho:5<=op/\op<=17):
 Eo (op,t,x,y,())=some ((doS op t.signed t.bits x y).1,(doS op t.signed t.bits x y).2,()):=by
 have lx:=oP h1 h2 hx
 have ly:=oP h1 h2 hy
 have m:=wF (x:=x) (y:=y) (M:=2147483647) (by omega) (by omega) (by omega) (by omega)
 have d:=zr (x:=x) (y:=y)
 have w1:i64.wrap (x+y)=x+y:=w64 (by omega) (by omega)
 have w2:i64.wrap (x-y)=x-y:=w64 (by omega) (by omega)
 have w3:i64.wrap (x *y)=x *y:=w64 (by omega) (by omega)
 have w4:i64.wrap (x.tdiv y)=x.tdiv y:=w64 (by omega) (by omega)
 have hb:=Pc h1 h2 t.signed
 have k:op=5\/op=6\/op=7\/op=8\/op=9\/op=10\/op=11\/op=12\/op=13\/op=14\/op=15\/op=16\/op=17:=by omega
 rw[Eo]
 rcases k with h|h|h|h|h|h|h|h|h|h|h|h|h<;>subst h
 ·by_cases hin:inT t.signed t.bits (x+y)<;>
   simp[i9,AX,doS,eE,w1,hG t _ h1 h2,fj t _ h1 h2,hin]
 ·by_cases hin:inT t.signed t.bits (x-y)<;>
   simp[i9,AY,doS,eE,w2,hG t _ h1 h2,fj t _ h1 h2,hin]
 ·by_cases hin:inT t.signed t.bits (x *y)<;>
   simp[i9,Es,doS,eE,w3,hG t _ h1 h2,fj t _ h1 h2,hin]
 ·by_cases hy0:y=0
  ·simp[doS,eE,hy0]
  by_cases hin:inT t.signed t.bits (x.tdiv y)<;>
   simp[i9,II,doS,eE,w4,hG t _ h1 h2,fj t _ h1 h2,hin,hy0]
 ·by_cases hy0:y=0
  ·simp[doS,eE,hy0]
  have hm:inT t.signed t.bits (x.tmod y):=by
   obtain⟨m1,m2⟩:=JP (x:=x) hy0
   obtain⟨q1,q2⟩:=hx
   refine⟨?_,?_⟩
   ·rcases Int.le_total 0 x with h|h
    ·have:=m1 h;omega
    ·have:=m2 h;omega
   ·rcases Int.le_total 0 x with h|h
    ·have:=m1 h;omega
    ·have:=m2 h;omega
  by_cases hin:inT t.signed t.bits (x.tdiv y)
  ·simp[i9,Et,doS,eE,w4,hG t _ h1 h2,hin,hy0,hm]
  ·have h0:x.tmod y=0:=by
    have hxy:x=y *x.tdiv y+x.tmod y:=(Int.mul_tdiv_add_tmod x y).symm
    have hd:(x.tdiv y).natAbs=x.natAbs/y.natAbs:=Int.natAbs_tdiv x y
    have hya:1<=y.natAbs:=by omega
    by_cases hy1:y.natAbs=1
    ·have:y=1\/y= -1:=by omega
     rcases this with h|h<;>subst h
     ·exact Int.tmod_one x
     ·rw[Int.tmod_neg];exact Int.tmod_one x
    ·exfalso
     refine hin ?_
     have h2':x.natAbs/y.natAbs<=x.natAbs/2:=Nat.div_le_div_left (by omega) (by omega)
     obtain⟨q1,q2⟩:=hx
     obtain⟨q3,q4⟩:=hy
     have hlh:t.signed=true->lo t.signed t.bits= -hi t.signed t.bits-1:=by
      intro hs;unfold lo hi;simp[hs];omega
     by_cases hs:t.signed=true
     ·have:=hlh hs
      refine⟨by omega,by omega⟩
     ·have hl0:lo t.signed t.bits=0:=by unfold lo;simp[hs]
      have:=Int.tdiv_nonneg (a:=x) (b:=y) (by omega) (by omega)
      refine⟨by omega,by omega⟩
   have hb0:pV t.signed t.bits 0=0:=lD h1 h2 ⟨hb.2.1,hb.2.2.1⟩
   simp[i9,Et,doS,eE,w4,hG t _ h1 h2,fj t _ h1 h2,hin,hy0,h0,hb0]
 ·simp[i9,AX,doS,eE,w1,fj t _ h1 h2]
 ·simp[i9,AY,doS,eE,w2,fj t _ h1 h2]
 ·simp[i9,Es,doS,eE,w3,fj t _ h1 h2]
 ·simp[i9,AX,Eu,doS,eE,w1,He t h1 h2,Nd t h1 h2,yW h1 h2]
 ·simp[i9,AY,Eu,doS,eE,w2,He t h1 h2,Nd t h1 h2,yW h1 h2]
 ·have e:=rU 15 (s:=t.signed) (x:=x) (y:=y) h1 h2
  simp only[zV,adz]at e
  simp[i9,IM,doS,fj t _ h1 h2,e]
 ·have e:=rU 16 (s:=t.signed) (x:=x) (y:=y) h1 h2
  simp only[zV,adz,show(16:Int)≠15 by decide,adA]at e
  simp[i9,IQ,doS,fj t _ h1 h2,e]
 ·have e:=rU 17 (s:=t.signed) (x:=x) (y:=y) h1 h2
  simp only[zV,show(17:Int)≠15 by decide,show(17:Int)≠16 by decide,adA]at e
  simp[i9,IU,doS,fj t _ h1 h2,e]
theorem xV(op:Int)(t:bB)(x y:Int)(h1:1<=t.bits)(h2:t.bits<=31)(hx:inT t.signed t.bits x)(hy:inT t.signed t.bits y)(ho:5<=op/\op<=17):
 En (op,t,x,y,())=some (0,()):=by
 rw[En]
 have a1:¬op<5:=by omega
 have a2:¬17<op:=by omega
 simp[nE t h1 h2,hG t _ h1 h2,hx,hy,a1,a2]
theorem Ag(op:Int)(t:bB)(x y:Int)(h1:1<=t.bits)(h2:t.bits<=31)(hx:inT t.signed t.bits x)(hy:inT t.signed t.bits y)(ho:5<=op/\op<=17):
 HS (op,t,x,y,())=some (if(doS op t.signed t.bits x y).2=0 then(doS op t.signed t.bits x y).1 else 0,(doS op t.signed t.bits x y).2,0,()):=by
 rw[HS]
 simp only[xV op t x y h1 h2 hx hy ho,Qu op t x y h1 h2 hx hy ho,Z1,ZY,bne_self_eq_false,Z0,adA]
 by_cases h:(doS op t.signed t.bits x y).2=0
 ·simp[h]
 ·simp[h]
theorem Hr(op:Int)(t:bB)(x y:Int)(h1:1<=t.bits)(h2:t.bits<=31)(hx:inT t.signed t.bits x)(hy:inT t.signed t.bits y)(ho:5<=op/\op<=17):
 HU (op,t,x,y,())=some ((doS op t.signed t.bits x y).1,0,()):=by
 rw[HU]
 simp only[xV op t x y h1 h2 hx hy ho,Qu op t x y h1 h2 hx hy ho,Z1,ZY,bne_self_eq_false,Z0,adA]
theorem Hv(t:bB)(n:Int)(h1:1<=t.bits)(h2:t.bits<=31):Im (t,n,())=some (pV t.signed t.bits n,0,()):=by
 rw[Im]
 simp[nE t h1 h2,fj t _ h1 h2]
theorem Hu(t:bB)(n:Int)(h1:1<=t.bits)(h2:t.bits<=31):HY (t,n,())=some (decide (inT t.signed t.bits n),0,()):=by
 rw[HY]
 simp[nE t h1 h2,hG t _ h1 h2]
theorem Nh(t:bB)(n:Int)(h1:1<=t.bits)(h2:t.bits<=31)(hn:inT t.signed t.bits n):
 HW (t,n,())=some (if inT t.signed t.bits (-n)then(-n,0,0,())else(0,1,0,())):=by
 have ln:=oP h1 h2 hn
 have w:i64.wrap (-n)= -n:=w64 (by omega) (by omega)
 rw[HW]
 by_cases h:inT t.signed t.bits (-n)<;>simp[nE t h1 h2,hG t _ h1 h2,hn,w,h]
end Go.Proofs.YtcghbgmmgcljkaaGreatDoor
end
section
namespace Go.Proofs.YtcghbgmmgcljkaaGreatDoor
set_option maxRecDepth 20000
open Go.Lib
theorem bK{α:Type}{l:List α}{k:Nat}(h:k<l.length):∃p,l[k]?=some p/\p∈l/\l.drop k=p::l.drop (k+1):=
 ⟨l[k],Z3 h,aaQ h,abO h⟩
theorem cu{α:Type}{l:List α}{k:Nat}(h:¬k<l.length):l.drop k=[]:=abt (by omega)
theorem eB(s:ByteArray):s.data.toList.length=s.size:=abI
theorem qk{a b:ByteArray}(h:a.data.toList=b.data.toList):a=b:=by
 cases a;cases b;simp only at h;congr 1;exact acm.mp h
theorem ek(a b:ByteArray):(a.toList==b.toList)=decide (a=b):=by
 rw[toList_data,toList_data]
 by_cases h:a=b
 ·subst h;simp
 ·rw[decide_eq_false h]
  exact beq_eq_false_iff_ne.mpr λh2=>h (qk h2)
theorem lX(s:ByteArray)(i:Nat):s[i]?=s.data.toList[i]?:=by
 have hs:=eB s
 by_cases h:i<s.size
 ·rw[getElem?_pos s i h,Z3 (by omega)];rfl
 ·rw[getElem?_neg s i h,abX (by omega)]
def dg(c:UInt8):Bool:=(decide (97<=c.toNat)&&decide (c.toNat<=122))||(decide (65<=c.toNat)&&decide (c.toNat<=90))||decide (c.toNat=95)
def eS(c:UInt8):Bool:=decide (48<=c.toNat)&&decide (c.toNat<=57)
def dK(c:UInt8):Bool:=dg c||eS c
def j7:List UInt8->Bool
 |[]=>false
 |c::r=>dg c&&r.all dK
theorem ue(c:UInt8):AZ ((c.toNat:Int),())=some (dg c,()):=by
 have e1:decide ((c.toNat:Int)>=97)=decide (97<=c.toNat):=by rw[decide_eq_decide];omega
 have e2:decide ((c.toNat:Int)<=122)=decide (c.toNat<=122):=by rw[decide_eq_decide];omega
 have e3:decide ((c.toNat:Int)>=65)=decide (65<=c.toNat):=by rw[decide_eq_decide];omega
 have e4:decide ((c.toNat:Int)<=90)=decide (c.toNat<=90):=by rw[decide_eq_decide];omega
 have e5:((c.toNat:Int)==95)=decide (c.toNat=95):=by rw[Bool.beq_eq_decide_eq,decide_eq_decide];omega
 rw[AZ]
 simp only[e1,e2,e3,e4,e5]
 unfold dg
 cases decide (97<=c.toNat)<;>cases decide (c.toNat<=122)<;>cases decide (65<=c.toNat)<;>cases decide (c.toNat<=90)<;>rfl
theorem yd(c:UInt8):Ev ((c.toNat:Int),())=some (eS c,()):=by
 have e1:decide ((c.toNat:Int)>=48)=decide (48<=c.toNat):=by rw[decide_eq_decide];omega
 have e2:decide ((c.toNat:Int)<=57)=decide (c.toNat<=57):=by rw[decide_eq_decide];omega
 rw[Ev]
 simp only[e1,e2]
 unfold eS
 cases decide (48<=c.toNat)<;>rfl
def jg(l:List UInt8):Nat:=(l.takeWhile dK).length
theorem zj(s:ByteArray)(hs:s.size<=8):∀(j i:Nat),i+j=s.size->i_ (s,(i:Int),())=some (((i+jg (s.data.toList.drop i):Nat):Int),())
 |0,i,h=>by
  rw[i_]
  have hz:=eB s
  rw[cu (by omega)]
  have:¬(i:Int)<(s.size:Int):=by omega
  simp[this,jg]
 |j+1,i,h=>by
  have hz:=eB s
  obtain⟨c,hc,_,hd⟩:=bK (l:=s.data.toList) (k:=i) (by omega)
  have h1:(i:Int)<(s.size:Int):=by omega
  have h2:(0:Int)<=(i:Int):=by omega
  rw[i_,hd]
  simp only[h1,h2,adE,adz,Z5,lX,hc,Z1,ZY,ue,yd]
  have e:jg (c::s.data.toList.drop (i+1))=if dK c=true then jg (s.data.toList.drop (i+1))+1 else 0:=by
   unfold jg
   rw[abu]
   split<;>simp
  have ih:=zj s hs j (i+1) (by omega)
  have w:IntKind.i64.wrap ((i:Int)+1)=((i+1:Nat):Int):=by rw[w64 (by omega) (by omega)];omega
  rw[e]
  unfold dK
  cases hl:dg c
  ·cases hg:eS c
   ·simp
   ·simp only[Z0,adA,ZY,adz,Bool.or_true,w,ih]
    rw[show i+1+jg (s.data.toList.drop (i+1))=i+(jg (s.data.toList.drop (i+1))+1) by omega]
  ·simp only[adz,ZY,w,ih,acs]
   rw[show i+1+jg (s.data.toList.drop (i+1))=i+(jg (s.data.toList.drop (i+1))+1) by omega]
end Go.Proofs.YtcghbgmmgcljkaaGreatDoor
end
section
namespace Go.Proofs.YtcghbgmmgcljkaaGreatDoor
set_option maxRecDepth 20000
open Go.Lib
theorem xd(l:List UInt8):jg l<=l.length:=(List.takeWhile_sublist _).length_le
theorem zh{c:UInt8}{r:List UInt8}(h:dK c=true):1<=jg (c::r):=by
 unfold jg
 rw[abu,adD h,aaa];omega
theorem LJ(s:ByteArray)(hs:s.size<=8){i:Nat}(hi:i<=s.size):A0 (s,(i:Int),())=some (((i+jg (s.data.toList.drop i):Nat):Int),()):=by
 rw[A0,zj s hs (s.size-i) i (by omega)];rfl
theorem rH(s:ByteArray)(hs:s.size<=8){i:Nat}(hi:i<s.size)(l:List ByteArray)(hl:∀x∈l,1<=x.size/\x.size<=2)(h8:l.length<=100):∀(j k:Nat),k+j=l.length->
 (∃e:Nat,fz (s,(i:Int),l,(k:Int),())=some (.inl (2,(e:Int),true,()))/\i<e/\e<=s.size)\/fz (s,(i:Int),l,(k:Int),())=some (.inr ())
 |0,k,h=>by
  right
  rw[fz]
  have:¬(k:Int)<(l.length:Int):=by omega
  simp[this]
 |j+1,k,h=>by
  obtain⟨x,hx,hm,_⟩:=bK (l:=l) (k:=k) (by omega)
  obtain⟨s1,s2⟩:=hl x hm
  have ih:=rH s hs hi l hl h8 j (k+1) (by omega)
  have h1:(k:Int)<(l.length:Int):=by omega
  have h2:(0:Int)<=(k:Int):=by omega
  have w:IntKind.i64.wrap ((k:Int)+1)=((k+1:Nat):Int):=by rw[w64 (by omega) (by omega)];omega
  have w2:IntKind.i64.wrap ((i:Int)+(x.size:Int))=((i+x.size:Nat):Int):=by rw[w64 (by omega) (by omega)];omega
  rw[fz]
  simp only[h1,h2,adE,adz,Z5,hx,Z1,ZY,w2]
  by_cases hle:i+x.size<=s.size
  ·rw[adD (by simp;omega),adD (by omega)]
   simp only[ZY]
   split
   ·exact .inl ⟨_,rfl,by omega,hle⟩
   ·rw[w];exact ih
  ·rw[adC (by simp;omega)]
   simp only[ZY,Z0,adA]
   rw[w];exact ih
theorem yk(s:ByteArray)(hs:s.size<=8){i:Nat}{c:UInt8}{r:List UInt8}(hi:i<s.size)(hd:s.data.toList.drop i=c::r):
 if dg c=true then AV (s,(i:Int),())=some (0,((i+jg (s.data.toList.drop i):Nat):Int),true,())
 else AV (s,(i:Int),())=some (0,0,false,())\/∃(k:Int) (e:Nat),AV (s,(i:Int),())=some (k,(e:Int),true,())/\k≠0/\i<e/\e<=s.size:=by
 have hz:=eB s
 have hc:s.data.toList[i]?=some c:=by
  have:=aaw (xs:=s.data.toList) (i:=i) (j:=0)
  rw[hd]at this
  simpa using this.symm
 have h2:(0:Int)<=(i:Int):=by omega
 have hr:=LJ s hs (i:=i) (by omega)
 have hle:=xd (s.data.toList.drop i)
 rw[aaE]at hle
 rw[AV]
 simp only[h2,adz,Z5,lX,hc,Z1,ZY,ue,yd,hr]
 cases hl:dg c
 ·simp only[Z0,adA]
  cases hg:eS c
  ·simp only[Z0,adA]
   have w:IntKind.i64.wrap ((i:Int)+1)=((i+1:Nat):Int):=by rw[w64 (by omega) (by omega)];omega
   have w0:(0:Int)<=((i+1:Nat):Int):=by omega
   by_cases hat:((c.toNat:Int)==64)=true
   ·simp only[hat,adz,w]
    by_cases h1:i+1<s.size
    ·have h1':((i+1:Nat):Int)<(s.size:Int):=by omega
     obtain⟨c2,hc2,_,hd2⟩:=bK (l:=s.data.toList) (k:=i+1) (by omega)
     simp only[h1',adE,adz,w0,Z5,hc2,ZY]
     cases hl2:dg c2
     ·simp
     ·have hr2:=LJ s hs (i:=i+1) (by omega)
      simp only[adz,hr2,w,ZY]
      have hle2:=xd (s.data.toList.drop (i+1))
      rw[aaE]at hle2
      exact .inr ⟨3,_,rfl,by decide,by omega,by omega⟩
    ·have h1':¬((i+1:Nat):Int)<(s.size:Int):=by omega
     simp only[h1',adF,Z0,adA,ZY]
     exact .inl trivial
   ·simp only[hat]
    obtain⟨sg,hg1,hg2,hg3⟩:∃sg,IX ()=some (sg,())/\(∀x∈sg,1<=x.size/\x.size<=2)/\sg.length<=100:=⟨_,IX.eq_1 (),by decide,by decide⟩
    simp only[hg1,ZY]
    have sl:=rH s hs hi sg hg2 hg3 _ 0 (Z9 _)
    rw[aao]at sl
    rcases sl with⟨e,h,he⟩|h
    ·rw[h];exact .inr ⟨2,e,rfl,by decide,he⟩
    ·rw[h];exact .inl rfl
  ·have:=zh (c:=c) (r:=r) (by simp[dK,hg])
   rw[<-hd]at this
   simp only[adz]
   exact .inr ⟨1,_,rfl,by decide,by omega,by omega⟩
 ·simp
end Go.Proofs.YtcghbgmmgcljkaaGreatDoor
end
section
namespace Go.Proofs.YtcghbgmmgcljkaaGreatDoor
set_option maxRecDepth 20000
open Go.Lib
theorem jp(s:ByteArray){a b:Nat}(hb:b<=s.size):(s.extract a b).data.toList=(s.data.toList.drop a).take (b-a):=by
 rw[ByteArray.data_extract,Array.toList_extract,List.extract_eq_take_drop]
theorem F8(l:List UInt8):l.take (jg l)=l.takeWhile dK:=by
 unfold jg
 induction l with
 |nil=>rfl
 |cons c r ih=>
  rw[abu]
  split
  ·rw[aaa,adl,ih]
  ·rfl
theorem rQ(l:List UInt8):(l.takeWhile dK).all dK=true:=by
 induction l with
 |nil=>rfl
 |cons c r ih=>
  rw[abu]
  split
  ·rename_i h;rw[abe,h,ih];rfl
  ·rfl
theorem B8{c:UInt8}{r:List UInt8}(h:dg c=true):j7 ((c::r).takeWhile dK)=true:=by
 rw[abu,adD (by simp[dK,h]),j7,h,rQ];rfl
def O5(l:List j9):Prop:=∀t∈l,t.kind=0->j7 t.text.data.toList=true
theorem xE(s:ByteArray)(hs:s.size<=8):∀(n i:Nat) (out:List j9),s.size-i=n->i<=s.size->out.length<=i->O5 out->
 ∃l p ok,((fJ (s,(i:Int),out,())=some (.inl (l,p,ok,()))/\ok=false)\/(fJ (s,(i:Int),out,())=some (.inr (l,()))/\O5 l/\ok=true)):=by
 intro n
 induction n using acE with
 |ind n ihn=>
  intro i out hn hi ho hg
  have hz:=eB s
  rw[fJ]
  by_cases hlt:i<s.size
  ·have h1:(i:Int)<(s.size:Int):=by omega
   have h2:(0:Int)<=(i:Int):=by omega
   obtain⟨c,hc,_,hd⟩:=bK (l:=s.data.toList) (k:=i) (by omega)
   have w:IntKind.i64.wrap ((i:Int)+1)=((i+1:Nat):Int):=by rw[w64 (by omega) (by omega)];omega
   simp only[h1,h2,adE,adz,Z5,lX,hc,Z1,ZY]
   have hf:=yk s hs hlt hd
   have next:=ihn (s.size-(i+1)) (by omega) (i+1) out rfl (by omega) (by omega) hg
   rw[<-w]at next
   by_cases h32:((c.toNat:Int)==32)=true
   ·simp only[h32,adz,ZY]
    exact next
   ·simp only[h32,adA,ZY,Z0]
    by_cases h10:((c.toNat:Int)==10)=true
    ·simp only[h10,adz]
     exact next
    ·simp only[h10,adA,Z0]
     by_cases hl:dg c=true
     ·rw[adD hl]at hf
      have hp:=zh (c:=c) (r:=s.data.toList.drop (i+1)) (by simp[dK,hl])
      rw[<-hd]at hp
      have hle:=xd (s.data.toList.drop i)
      rw[aaE]at hle
      simp only[hf,ZY,aax,Z0,adA]
      rw[adD (by omega),adD (by simp;omega)]
      refine ihn (s.size-(i+jg (s.data.toList.drop i))) (by omega) (i+jg (s.data.toList.drop i)) _ rfl (by omega) (by simp;omega) ?_
      intro t ht hk
      rw[aa9,aaN]at ht
      rcases ht with ht|ht
      ·exact hg t ht hk
      ·rw[ht]
       show j7 (s.extract (aaq (i:Int)) (aaq ((i+jg (s.data.toList.drop i):Nat):Int))).data.toList=true
       rw[Z5,Z5,jp s (by omega),show i+jg (s.data.toList.drop i) -i=jg (s.data.toList.drop i) by omega,F8,hd]
       exact B8 hl
     ·rw[adC hl]at hf
      rcases hf with hf|⟨k,e,hf,hk0,he1,he2⟩
      ·simp only[hf,ZY,aaZ,adz]
       exact⟨_,_,_, .inl ⟨rfl,rfl⟩⟩
      ·simp only[hf,ZY,aax,Z0,adA]
       rw[adD (by omega),adD (by simp;omega)]
       refine ihn (s.size-e) (by omega) e _ rfl he2 (by simp;omega) ?_
       intro t ht hk
       rw[aa9,aaN]at ht
       rcases ht with ht|ht
       ·exact hg t ht hk
       ·rw[ht]at hk;exact absurd hk hk0
  ·have h1:¬(i:Int)<(s.size:Int):=by omega
   simp only[h1,adF,Z0,adA]
   exact⟨out,0,true, .inr ⟨rfl,hg,rfl⟩⟩
theorem OT(s:ByteArray)(hs:s.size<=8):SZ (s,())=some (j7 s.data.toList,()):=by
 have hz:=eB s
 rw[SZ,Nl,Nr]
 cases hw:j7 s.data.toList
 ·obtain⟨l,p,ok,h⟩:=xE s hs s.size 0 [] (by omega) (by omega) (by simp) (by intro t ht;simp at ht)
  rw[aao]at h
  rcases h with⟨h,hk⟩|⟨h,hg,hk⟩
  ·simp[h,hk]
  ·simp only[h,Z1,ZY,adz]
   match l,hg with
   |[],_=>simp
   |[t],hg=>
    have ht:=hg t (aag ..)
    by_cases hk0:t.kind=0
    ·have h1:=ht hk0
     have:¬t.text=s:=by intro e;rw[e,hw]at h1;cases h1
     simp[ek,this]
    ·simp[hk0]
   |a::b::r,_=>
    have:((r.length:Int)+1+1==1)=false:=by simp;omega
    simp[this]
 ·match hd:s.data.toList,hw with
  |c::r,hw=>
   rw[j7,Z8]at hw
   have hpos:0<s.size:=by rw[<-hz,hd];simp
   have hf:=yk s hs (i:=0) hpos (c:=c) (r:=r) (by rw[aap,hd])
   rw[adD hw.1]at hf
   have hall:(c::r).takeWhile dK=c::r:=by
    rw[abu,adD (by simp[dK,hw.1])]
    congr 1
    clear hd hf
    have h2:=hw.2
    induction r with
    |nil=>rfl
    |cons a r ih=>
     rw[abe,Z8]at h2
     rw[abu,adD h2.1,ih ⟨hw.1,h2.2⟩ h2.2]
   have hrl:jg (s.data.toList.drop 0)=s.size:=by
    unfold jg;rw[aap,hd,hall,<-hd,hz]
   rw[hrl,Z9,aao]at hf
   have h1:(0:Int)<(s.size:Int):=by omega
   have hc:s.data.toList[0]?=some c:=by rw[hd];rfl
   have n32:((c.toNat:Int)==32)=false:=by
    have:=hw.1;unfold dg at this
    simp at this⊢;omega
   have n10:((c.toNat:Int)==10)=false:=by
    have:=hw.1;unfold dg at this
    simp at this⊢;omega
   have hx:(s.extract 0 s.size)=s:=qk (by rw[jp s (aat _),aap,aaK,<-hz,List.take_length])
   rw[fJ]
   simp only[h1,adE,adz,aaz,aaB,lX,hc,Z1,ZY,n32,n10,Z0,adA,hf,aax]
   rw[adD ⟨trivial,by omega,trivial⟩,adD (by simp),fJ]
   simp only[Int.lt_irrefl,adF,Z0,adA,ZY,Z5,hx]
   simp[ek]
end Go.Proofs.YtcghbgmmgcljkaaGreatDoor
end
section
namespace Go.Proofs.YtcghbgmmgcljkaaGreatDoor
open IntKind (u8)
set_option maxRecDepth 20000
open Go.Lib
def m4:Nat->OW->Option ((List Int)×(List Int)×Unit)
 |0,_=>none
 |k+1,v=>
 if decide (v.1<=122)=true then
  if 0<=v.1/\v.1<((256:Nat):Int)then
   if v.1.toNat<256 then
    if v.1.toNat<v.2.2.1.length then
     if 0<=u8.wrap (u8.wrap (v.1-97)+65)/\u8.wrap (u8.wrap (v.1-97)+65)<((256:Nat):Int)then
      if(u8.wrap (u8.wrap (v.1-97)+65)).toNat<256 then
       if(u8.wrap (u8.wrap (v.1-97)+65)).toNat<(v.2.2.1.set v.1.toNat 2).length then
        m4 k (u8.wrap (v.1+1),v.2.1,(v.2.2.1.set v.1.toNat 2).set (u8.wrap (u8.wrap (v.1-97)+65)).toNat 2,())
       else none
      else none
     else none
    else none
   else none
  else none
 else some ((v.2.1,v.2.2.1,()))
theorem hU{c:Prop}[Decidable c]{α:Type}{a b:Option α}{r:α}(h:(if c then a else none)=some r)(hab:a=some r->b=some r):(if c then b else none)=some r:=by
 by_cases hc:c
 ·rw[adD hc]at h⊢;exact hab h
 ·rw[adC hc]at h;cases h
theorem yw{c:Prop}[Decidable c]{α:Type}{a b d:Option α}{r:α}(h:(if c then a else d)=some r)(hab:a=some r->b=some r):(if c then b else d)=some r:=by
 by_cases hc:c
 ·rw[adD hc]at h⊢;exact hab h
 ·rw[adC hc]at h⊢;exact h
theorem QG:∀(k:Nat) (v:OW) r,m4 k v=some r->jZ v=some r
 |0,v,r,h=>by cases h
 |k+1,v,r,h=>by
  rw[m4]at h;rw[jZ]
  exact yw h λh=>hU h λh=>hU h λh=>hU h λh=>hU h λh=>hU h λh=>hU h λh=>QG k _ _ h
def m8:Nat->OW->Option ((List Int)×(List Int)×Unit)
 |0,_=>none
 |k+1,v=>
 if decide (v.1<=57)=true then
  if 0<=v.1/\v.1<((256:Nat):Int)then
   if v.1.toNat<256 then
    if v.1.toNat<v.2.2.1.length then
     m8 k (u8.wrap (v.1+1),v.2.1,v.2.2.1.set v.1.toNat 3,())
    else none
   else none
  else none
 else some ((v.2.1,v.2.2.1,()))
theorem QH:∀(k:Nat) (v:OW) r,m8 k v=some r->j1 v=some r
 |0,v,r,h=>by cases h
 |k+1,v,r,h=>by
  rw[m8]at h;rw[j1]
  exact yw h λh=>hU h λh=>hU h λh=>hU h λh=>QH k _ _ h
def qP(n:Nat):Int:=if n=32\/n=10 then 1 else if(97<=n/\n<=122)\/(65<=n/\n<=90)\/n=95 then 2 else if 48<=n/\n<=57 then 3 else 0
def tab:List Int:=(abk 256).map qP
theorem F6(c:UInt8):tab[c.toNat]?=some (qP c.toNat):=by
 have:=c.toNat_lt
 unfold tab
 rw[Z6,abl (by omega)];rfl
theorem JG:Ic ()=some (tab,()):=by
 have h:(m4 30 (97,aak 256 0,(((aak 256 0).set (aaq 32) 1).set (aaq 10) 1).set (aaq 95) 2,())>>=λx1=>m8 30 (48,x1.1,x1.2.1,())>>=λx2=>some (x2.2.1,()))=some (tab,()):=by kernel_rfl
 rw[Ic]
 cases e:m4 30 (97,aak 256 0,(((aak 256 0).set (aaq 32) 1).set (aaq 10) 1).set (aaq 95) 2,())with
 |none=>rw[e]at h;cases h
 |some x1=>
  rw[e]at h
  rw[QG _ _ _ e]
  simp only[Z1,ZY]at h⊢
  cases e2:m8 30 (48,x1.1,x1.2.1,())with
  |none=>rw[e2]at h;cases h
  |some x2=>
   rw[e2]at h
   rw[QH _ _ _ e2]
   exact h
theorem DU(c:UInt8):decide (qP c.toNat>=2)=dK c:=by
 unfold qP dK dg eS
 by_cases h1:c.toNat=32\/c.toNat=10
 ·rw[adD h1]
  rcases h1 with h|h<;>rw[h]<;>rfl
 ·rw[adC h1]
  by_cases h2:(97<=c.toNat/\c.toNat<=122)\/(65<=c.toNat/\c.toNat<=90)\/c.toNat=95
  ·rw[adD h2]
   rcases h2 with h|h|h<;>simp[h]
  ·rw[adC h2]
   by_cases h3:48<=c.toNat/\c.toNat<=57
   ·rw[adD h3];simp[h3]
   ·rw[adC h3]
    symm
    simp only[ge_iff_le,abg,ade,decide_eq_false_iff_not,show¬(2:Int)<=0 by decide,adF]
    omega
theorem wz(c:UInt8):(qP c.toNat==2)=dg c:=by
 unfold qP dg
 by_cases h1:c.toNat=32\/c.toNat=10
 ·rw[adD h1]
  rcases h1 with h|h<;>rw[h]<;>rfl
 ·rw[adC h1]
  by_cases h2:(97<=c.toNat/\c.toNat<=122)\/(65<=c.toNat/\c.toNat<=90)\/c.toNat=95
  ·rw[adD h2]
   rcases h2 with h|h|h<;>simp[h]
  ·rw[adC h2]
   have:((if 48<=c.toNat/\c.toNat<=57 then 3 else 0:Int)==2)=false:=by split<;>rfl
   rw[this]
   symm
   simp only[abg,ade,decide_eq_false_iff_not]
   omega
theorem uL(s:ByteArray)(hs:s.size<=8):∀(j i:Nat),i+j=s.size->dt (s,(i:Int),tab,())=some (((i+jg (s.data.toList.drop i):Nat):Int),tab,())
 |0,i,h=>by
  rw[dt]
  have hz:=eB s
  rw[cu (by omega)]
  have:¬(i:Int)<(s.size:Int):=by omega
  simp[this,jg]
 |j+1,i,h=>by
  have hz:=eB s
  obtain⟨c,hc,_,hd⟩:=bK (l:=s.data.toList) (k:=i) (by omega)
  have h1:(i:Int)<(s.size:Int):=by omega
  have h2:(0:Int)<=(i:Int):=by omega
  have hcl:=c.toNat_lt
  rw[dt,hd]
  simp only[h1,h2,adE,adz,Z5,lX,hc,Z1,ZY,F6,DU]
  rw[adD (by omega),adD (by omega)]
  have e:jg (c::s.data.toList.drop (i+1))=if dK c=true then jg (s.data.toList.drop (i+1))+1 else 0:=by
   unfold jg
   rw[abu]
   split<;>simp
  have ih:=uL s hs j (i+1) (by omega)
  have w:IntKind.i64.wrap ((i:Int)+1)=((i+1:Nat):Int):=by rw[w64 (by omega) (by omega)];omega
  rw[e]
  simp only[ZY,w,ih]
  cases hl:dK c
  ·simp
  ·simp only[adz]
   rw[show i+1+jg (s.data.toList.drop (i+1))=i+(jg (s.data.toList.drop (i+1))+1) by omega]
theorem Ju(l:List UInt8):(jg l=l.length)↔l.all dK=true:=by
 induction l with
 |nil=>simp[jg]
 |cons c r ih=>
  unfold jg at ih⊢
  rw[abu,abe]
  cases h:dK c
  ·simp
  ·simp[ih]
theorem Jl(s:ByteArray)(hs:s.size<=8):HI (s,())=some (j7 s.data.toList,()):=by
 have hz:=eB s
 rw[HI]
 simp only[JG,Z1,ZY,ek]
 match hd:s.data.toList with
 |[]=>
  have:s=ZZ #[]:=qk hd
  simp[this,j7]
 |c::r=>
  have hne:¬s=ZZ #[]:=by intro h;rw[h]at hd;simp at hd
  have hc:s[aaq 0]?=some c:=by rw[lX,hd];rfl
  have hcl:=c.toNat_lt
  have hp:=uL s hs s.size 0 (by omega)
  rw[aao,aap,hd,Z9]at hp
  simp only[hne,adF,aaZ,adz,hc,ZY,Z5,F6,wz]
  rw[adD (by omega),adD (by omega),lM,hp]
  simp only[Z1,ZY,j7]
  have ra:=Ju (c::r)
  have hlen:(c::r).length=s.size:=by rw[<-hd,hz]
  cases hl:dg c
  ·simp
  ·simp only[adz,ZY,abq,Z2,aaC,and_true]
   have iw:dK c=true:=by simp[dK,hl]
   rw[abe,iw,abq,hlen]at ra
   cases hr:r.all dK
   ·have:¬jg (c::r)=s.size:=by rw[ra,hr];decide
    simp;omega
   ·have:jg (c::r)=s.size:=by rw[ra,hr]
    simp[this]
end Go.Proofs.YtcghbgmmgcljkaaGreatDoor
end
section
namespace Go.Proofs.YtcghbgmmgcljkaaGreatDoor
set_option maxRecDepth 20000
open Go.Lib
instance (s:ByteArray) (R:List ByteArray):Decidable (s∈R):=decidable_of_iff (∃x∈R,x=s) (by simp)
noncomputable def oM:List ByteArray:=((H2 ()).getD ([],())).1
theorem Hk:H2 ()=some (oM,()):=by kernel_rfl
theorem yA:oM.length=30:=by kernel_rfl
theorem Du{c:ByteArray}{R:List ByteArray}(h1:c.size<4294967281/\c.data.toList.all (λb=>decide (b.toNat<128))=true)
 (h2:(Lib.fields c.data.toList).map (λl=>(⟨l.toArray⟩:ByteArray))=R):Em (c,())=some (R,()):=by
 rw[Em]
 simp only[]
 rw[adD h1,h2]
theorem qL(R:List ByteArray)(hR:R.length<=100)(s:ByteArray):∀(j k:Nat),k+j=R.length->
 (s∈R.drop k/\∃i:Nat,ib (R,s,(R.length:Int),(k:Int),())=some (.inl ((i:Int),())))\/(¬s∈R.drop k/\ib (R,s,(R.length:Int),(k:Int),())=some (.inr ()))
 |0,k,h=>by
  right
  rw[ib,cu (by omega)]
  have:¬(k:Int)<(R.length:Int):=by omega
  simp[this]
 |j+1,k,h=>by
  obtain⟨x,hx,hm,hd⟩:=bK (l:=R) (k:=k) (by omega)
  have h1:(k:Int)<(R.length:Int):=by omega
  have h2:(0:Int)<=(k:Int):=by omega
  have w:IntKind.i64.wrap ((k:Int)+1)=((k+1:Nat):Int):=by rw[w64 (by omega) (by omega)];omega
  have ih:=qL R hR s j (k+1) (by omega)
  rw[ib,hd]
  simp only[h1,h2,adE,adz,Z5,hx,Z1,ZY,ek,adB,aai,w]
  by_cases e:s=x
  ·left
   rw[adD e]
   exact⟨.inl e,k,rfl⟩
  ·simp only[e,adA,false_or]
   exact ih
theorem yr(R:List ByteArray)(hR:R.length<=100)(s:ByteArray):∀(j k:Nat),k+j=R.length->
 mH (s,R,(k:Int),())=if s∈R.drop k then some (.inl (true,()))else some (.inr ())
 |0,k,h=>by
  rw[mH,cu (by omega)]
  have:¬(k:Int)<(R.length:Int):=by omega
  simp[this]
 |j+1,k,h=>by
  obtain⟨x,hx,hm,hd⟩:=bK (l:=R) (k:=k) (by omega)
  have h1:(k:Int)<(R.length:Int):=by omega
  have h2:(0:Int)<=(k:Int):=by omega
  have w:IntKind.i64.wrap ((k:Int)+1)=((k+1:Nat):Int):=by rw[w64 (by omega) (by omega)];omega
  have ih:=yr R hR s j (k+1) (by omega)
  rw[mH,hd]
  simp only[h1,h2,adE,adz,Z5,hx,Z1,ZY,ek,adB,aai,w]
  by_cases e:s=x
  ·rw[adD e.symm,adD (.inl e)]
  ·have e':¬x=s:=λh=>e h.symm
   simp only[e,e',adA,false_or]
   exact ih
theorem QD(s:ByteArray):S2 (s,())=some (decide (s∈oM),()):=by
 rw[S2]
 have h:=yr oM (by rw[yA];decide) s _ 0 (Z9 _)
 rw[aao,aap]at h
 simp only[Hk,Z1,ZY,h]
 by_cases e:s∈oM
 ·simp[e]
 ·simp[e]
theorem Ob(s:ByteArray):HK (s,())=some (decide (s∈oM),()):=by
 rw[HK,Du (R:=oM)]
 ·have h:=qL oM (by rw[yA];decide) s _ 0 (Z9 _)
  rw[aao,aap]at h
  simp only[Z1,ZY,Nn,Nt]
  rcases h with⟨hm,i,h⟩|⟨hm,h⟩
  ·simp only[h,ZY,hm,adE]
   have:(0:Int)<=(i:Int):=by omega
   simp[this]
  ·simp[h,hm]
 ·refine⟨?_,?_⟩
  ·decide
  ·decide
 ·kernel_rfl
end Go.Proofs.YtcghbgmmgcljkaaGreatDoor
end
section
namespace Go.Proofs.YtcghbgmmgcljkaaGreatDoor
set_option maxRecDepth 20000
open Go.Lib
def Al(d:Nat):ByteArray:=ZZ #[acg (48+d)]
def TB:ByteArray:=ZZ #[48,49,50,51,52,53,54,55,56,57,97,98,99,100,101,102]
def GW:Nat->Nat->ByteArray->ByteArray
 |0,n,a=>Al n++a
 |k+1,n,a=>if n<10 then Al n++a else GW k (n/10) (Al (n%10)++a)
def dec(n:Nat):ByteArray:=GW 7 n (ZZ #[])
theorem Di{d:Nat}(h:d<10):∃x,TB[d]?=some x/\Bs.enc1 (x.toNat:Int)=Al d:=by
 have:d=0\/d=1\/d=2\/d=3\/d=4\/d=5\/d=6\/d=7\/d=8\/d=9:=by omega
 rcases this with h|h|h|h|h|h|h|h|h|h<;>subst h<;>exact⟨_,rfl,by decide⟩
theorem Dj{d:Nat}(h:d<10):TB.extract d (d+1)=Al d:=by
 have:d=0\/d=1\/d=2\/d=3\/d=4\/d=5\/d=6\/d=7\/d=8\/d=9:=by omega
 rcases this with h|h|h|h|h|h|h|h|h|h<;>subst h<;>decide
theorem eC(d:Nat):(Al d).size=1:=rfl
theorem qy{n:Nat}(hn:n<1000000000):(n:Int).tmod 10=((n%10:Nat):Int)/\IntKind.i64.wrap ((n:Int).tdiv 10)=((n/10:Nat):Int):=by
 have e1:(n:Int).tdiv 10=((n/10:Nat):Int):=by
  rw[acQ (by omega)];omega
 refine⟨?_,?_⟩
 ·rw[acP (by omega)];omega
 ·rw[e1,w64 (by omega) (by omega)]
theorem ph:∀(k n:Nat) (a:ByteArray),n<10^(k+1)->k<=7->a.size+k<=100->
 ∃(m:Nat) (a':ByteArray),dE ((n:Int),10,a,())=some ((m:Int),a',())/\m<10/\Al m++a'=GW k n a/\a'.size<=100
 |0,n,a,hn,hk,ha=>by
  have:n<10:=by simpa using hn
  rw[dE]
  have h1:¬(10:Int)<=(n:Int):=by omega
  simp only[ge_iff_le,h1,adF,Z0,adA]
  exact⟨n,a,rfl,this,rfl,by omega⟩
 |k+1,n,a,hn,hk,ha=>by
  rw[dE,GW]
  by_cases h:n<10
  ·have h1:¬(10:Int)<=(n:Int):=by omega
   simp only[ge_iff_le,h1,adF,Z0,adA,adD h]
   exact⟨n,a,rfl,h,rfl,by omega⟩
  ·have h1:(10:Int)<=(n:Int):=by omega
   have p8:10^(k+1+1)<=10^8:=abr (by omega) (by omega)
   obtain⟨e1,e2⟩:=qy (n:=n) (by omega)
   obtain⟨x,hx,he⟩:=Di (d:=n%10) (by omega)
   have hx':(ZZ #[48,49,50,51,52,53,54,55,56,57,97,98,99,100,101,102])[n%10]?=some x:=hx
   have h0:(0:Int)<=((n%10:Nat):Int):=by omega
   have ih:=ph k (n/10) (Al (n%10)++a) (by rw[acF]at hn;omega) (by omega) (by rw[abZ,eC];omega)
   simp only[ge_iff_le,h1,adE,adz,e1,e2,h0,Z5,hx',Z1,ZY,he,show¬(10:Int)=0 by decide,adA,adC h,eC]
   rw[adD (by omega)]
   exact ih
theorem N9{n:Nat}(hn:n<100000000):pZ ((n:Int),10,())=some (dec n,()):=by
 obtain⟨m,a,h,hm,hd,hs⟩:=ph 7 n (ZZ #[]) (by simpa using hn) (by omega) (by decide)
 obtain⟨x,hx,he⟩:=Di hm
 have hx':(ZZ #[48,49,50,51,52,53,54,55,56,57,97,98,99,100,101,102])[m]?=some x:=hx
 have h1:¬(n:Int)<0:=by omega
 have h0:(0:Int)<=(m:Int):=by omega
 rw[pZ]
 simp only[h1,adF,Z0,adA,h,Z1,ZY,h0,adz,Z5,hx',he,eC]
 rw[adD (by omega),hd];rfl
theorem uP:∀(k n:Nat) (a:ByteArray),n<10^(k+1)->k<=7->a.size+k<=100->
 ∃(m:Nat) (a':ByteArray),dF ((n:Int),10,a,())=some ((m:Int),a',())/\m<10/\Al m++a'=GW k n a/\a'.size<=100
 |0,n,a,hn,hk,ha=>by
  have:n<10:=by simpa using hn
  rw[dF]
  have h1:¬(10:Int)<=(n:Int):=by omega
  simp only[ge_iff_le,h1,adF,Z0,adA]
  exact⟨n,a,rfl,this,rfl,by omega⟩
 |k+1,n,a,hn,hk,ha=>by
  rw[dF,GW]
  by_cases h:n<10
  ·have h1:¬(10:Int)<=(n:Int):=by omega
   simp only[ge_iff_le,h1,adF,Z0,adA,adD h]
   exact⟨n,a,rfl,h,rfl,by omega⟩
  ·have h1:(10:Int)<=(n:Int):=by omega
   have p8:10^(k+1+1)<=10^8:=abr (by omega) (by omega)
   obtain⟨e1,e2⟩:=qy (n:=n) (by omega)
   have hx:=Dj (d:=n%10) (by omega)
   have hx':(ZZ #[48,49,50,51,52,53,54,55,56,57,97,98,99,100,101,102]).extract (n%10) (n%10+1)=Al (n%10):=hx
   have h0:(0:Int)<=((n%10:Nat):Int):=by omega
   have w:IntKind.i64.wrap (((n%10:Nat):Int)+1)=((n%10+1:Nat):Int):=by rw[w64 (by omega) (by omega)];omega
   have ih:=uP k (n/10) (Al (n%10)++a) (by rw[acF]at hn;omega) (by omega) (by rw[abZ,eC];omega)
   simp only[ge_iff_le,h1,adE,adz,e1,e2,Z5,hx',w,show¬(10:Int)=0 by decide,adA,adC h,eC]
   have h16:(ZZ #[48,49,50,51,52,53,54,55,56,57,97,98,99,100,101,102]).size=16:=rfl
   rw[h16,adD (by omega),adD (by omega)]
   exact ih
theorem Oe{n:Nat}(hn:n<100000000):p9 ((n:Int),10,())=some (dec n,()):=by
 obtain⟨m,a,h,hm,hd,hs⟩:=uP 7 n (ZZ #[]) (by simpa using hn) (by omega) (by decide)
 have hx:=Dj hm
 have hx':(ZZ #[48,49,50,51,52,53,54,55,56,57,97,98,99,100,101,102]).extract m (m+1)=Al m:=hx
 have h1:¬(n:Int)<0:=by omega
 have w:IntKind.i64.wrap ((m:Int)+1)=((m+1:Nat):Int):=by rw[w64 (by omega) (by omega)];omega
 have h16:(ZZ #[48,49,50,51,52,53,54,55,56,57,97,98,99,100,101,102]).size=16:=rfl
 rw[p9]
 simp only[h1,adF,Z0,adA,h,Z1,ZY,Z5,w,hx',eC,h16]
 rw[adD (by omega),adD (by omega),hd];rfl
end Go.Proofs.YtcghbgmmgcljkaaGreatDoor
end
section
namespace Go.Proofs.YtcghbgmmgcljkaaGreatDoor
set_option maxRecDepth 20000
open Go.Lib
def gT:List UInt8->Nat->Option Nat
 |[],a=>some a
 |c::r,a=>if eS c=true then gT r (10 *a+(c.toNat-48))else none
theorem oI(c:UInt8):Lib.indexByte [48,49,50,51,52,53,54,55,56,57] c=if eS c=true then((c.toNat-48:Nat):Int)else-1:=by
 have h:∀n:Fin 256,Lib.indexByte [48,49,50,51,52,53,54,55,56,57] (acg n.val)=if eS (acg n.val)=true then(((acg n.val).toNat-48:Nat):Int)else-1:=by decide+kernel
 have hc:=c.toNat_lt
 have:=h ⟨c.toNat,by omega⟩
 simp only[UInt8.ofNat_toNat]at this
 exact this
theorem Qt:(TB.extract 0 10).data.toList=[48,49,50,51,52,53,54,55,56,57]:=by decide
theorem qV(s:ByteArray)(hs:s.size<=7):∀(j i a:Nat),i+j=s.size->a<10^i->
 i6 (s,10,(a:Int),s,(s.size:Int),(i:Int),())=match gT (s.data.toList.drop i) a with
  |none=>some (.inl (0,2,()))
  |some n=>some (.inr (s,10,(n:Int),s,()))
 |0,i,a,h,ha=>by
  have hz:=eB s
  rw[i6,cu (by omega)]
  have:¬(i:Int)<(s.size:Int):=by omega
  simp[this,gT]
 |j+1,i,a,h,ha=>by
  have hz:=eB s
  obtain⟨c,hc,_,hd⟩:=bK (l:=s.data.toList) (k:=i) (by omega)
  have h1:(i:Int)<(s.size:Int):=by omega
  have h2:(0:Int)<=(i:Int):=by omega
  have hcl:=c.toNat_lt
  have p7:10^i<=10^7:=abr (by omega) (by omega)
  have h16:(ZZ #[48,49,50,51,52,53,54,55,56,57,97,98,99,100,101,102]).size=16:=rfl
  have hx:=Qt
  have hx':((ZZ #[48,49,50,51,52,53,54,55,56,57,97,98,99,100,101,102]).extract (aaq 0) (aaq 10)).data.toList=[48,49,50,51,52,53,54,55,56,57]:=hx
  have hcn:c.toNat.toUInt8=c:=UInt8.ofNat_toNat
  have w:IntKind.i64.wrap ((i:Int)+1)=((i+1:Nat):Int):=by rw[w64 (by omega) (by omega)];omega
  have w1:IntKind.i64.wrap ((a:Int) *10)=((10 *a:Nat):Int):=by rw[w64 (by omega) (by omega)];omega
  rw[i6,hd,gT]
  simp only[h1,h2,adE,adz,h16]
  rw[adD (by omega)]
  simp only[Z5,lX,hc,Z1,ZY,Nv,Nx,hx',hcn]
  cases hg:eS c
  ·have hix:Lib.indexByte [48,49,50,51,52,53,54,55,56,57] c= -1:=by rw[oI,hg];rfl
   rw[hix]
   rfl
  ·have hix:Lib.indexByte [48,49,50,51,52,53,54,55,56,57] c=((c.toNat-48:Nat):Int):=by rw[oI,hg];rfl
   rw[hix]
   have hg':48<=c.toNat/\c.toNat<=57:=by unfold eS at hg;simpa using hg
   have h3:¬((c.toNat-48:Nat):Int)<0:=by omega
   have h4:¬(a:Int)>1099511627776:=by omega
   have ih:=qV s hs j (i+1) (10 *a+(c.toNat-48)) (by omega) (by rw[acF];omega)
   have w2:IntKind.i64.wrap (((10 *a:Nat):Int)+((c.toNat-48:Nat):Int))=((10 *a+(c.toNat-48):Nat):Int):=by rw[w64 (by omega) (by omega)];omega
   simp only[adz,h3,h4,adF,Z0,adA,ZY,w2,w1,w]
   exact ih
theorem uG:∀(l:List UInt8) (a n k:Nat),gT l a=some n->a<10^k->n<10^(k+l.length)
 |[],a,n,k,h,ha=>by simp[gT]at h;rw[<-h];exact ha
 |c::r,a,n,k,h,ha=>by
  rw[gT]at h
  cases hg:eS c
  ·rw[hg]at h;simp at h
  ·rw[hg]at h
   simp only[adz]at h
   have hg':48<=c.toNat/\c.toNat<=57:=by unfold eS at hg;simpa using hg
   have:=uG r (10 *a+(c.toNat-48)) n (k+1) h (by rw[acF];omega)
   rw[aaa,show k+(r.length+1)=k+1+r.length by omega]
   exact this
theorem Jd(s:ByteArray)(hs:s.size<=7)(hw:∀c∈s.data.toList,dK c=true):
 Ii (s,10,())=some (match gT s.data.toList 0 with|none=>(0,2,())|some n=>if dec n=s then((n:Int),0,())else(0,2,())):=by
 have hz:=eB s
 have hp:Iw (s,ZZ #[45],())=some (s,()):=by
  have h45:(ZZ #[45]).size=1:=rfl
  rw[Iw,Nw,Ny]
  simp only[h45,ek]
  by_cases h1:1<=s.size
  ·rw[adD (by simp;omega),adD (by omega)]
   have:¬s.extract 0 1=ZZ #[45]:=by
    intro e
    have e2:(s.extract 0 1).data.toList=[45]:=by
     rw[e]
    rw[jp s h1,aap]at e2
    have:(45:UInt8)∈s.data.toList:=by
     have:(45:UInt8)∈s.data.toList.take (1-0):=by rw[e2];exact aag ..
     exact aa2 this
    have:=hw _ this
    revert this;decide
   show(some (decide (s.extract 0 1=ZZ #[45]),())>>=_)>>=_=_
   simp[this]
  ·rw[adC (by simp;omega)]
   simp
 have lp:=qV s hs s.size 0 0 (by omega) (by decide)
 rw[aao,aap]at lp
 rw[Ii,Nu]
 simp only[hp,Z1,show decide ((10:Int)>=2)=true by decide,show decide ((10:Int)<=16)=true by decide,adz,ZY,aax,Z0,adA,lp]
 cases h:gT s.data.toList 0 with
 |none=>rfl
 |some n=>
  have hn:=uG _ 0 n 0 h (by decide)
  have p7:10^(0+s.data.toList.length)<=10^7:=abr (by omega) (by omega)
  have h1:¬(n:Int)< -1099511627776:=by omega
  have h2:¬(n:Int)>1099511627776:=by omega
  simp only[ZY,Int.lt_irrefl,adF,Z0,adA,h1,h2,N9 (n:=n) (by omega),ek]
  by_cases e:dec n=s
  ·simp[e]
  ·simp[e]
end Go.Proofs.YtcghbgmmgcljkaaGreatDoor
end
section
namespace Go.Proofs.YtcghbgmmgcljkaaGreatDoor
set_option maxRecDepth 20000
open Go.Lib
def yy(s:Bool)(b:Nat):ByteArray:=(if s=true then ZZ #[105]else ZZ #[117])++dec b
theorem DK(s:Bool){b:Nat}(hb:b<=31):Eg (bB.mk s (b:Int),())=some (yy s b,()):=by
 have hd:(dec b).size<=100:=by
  obtain⟨m,a,h,hm,hd,hs⟩:=ph 7 b (ZZ #[]) (by omega) (by omega) (by decide)
  unfold dec
  have:∀k n a,(GW k n a).size<=a.size+k+1:=by
   intro k
   induction k with
   |zero=>intro n a;rw[GW,abZ,eC];omega
   |succ k ih=>
    intro n a
    rw[GW]
    split
    ·rw[abZ,eC];omega
    ·have:=ih (n/10) (Al (n%10)++a)
     rw[abZ,eC]at this
     omega
  have:=this 7 b (ZZ #[])
  have e0:(ZZ #[]).size=0:=rfl
  omega
 have e1:(ZZ #[105]).size=1:=rfl
 have e2:(ZZ #[117]).size=1:=rfl
 rw[Eg]
 simp only[Iq,Oe (n:=b) (by omega),Z1,ZY,e1,e2]
 unfold yy
 cases s
 ·rw[adC (by decide),adD (by omega)];rfl
 ·rw[adD rfl,adD (by omega)];rfl
def gd(s:ByteArray):Nat->Nat->Bool
 |0,_=>false
 |j+1,b=>decide (yy false b=s)||decide (yy true b=s)||gd s j (b+1)
theorem lS(s:ByteArray):∀(j b:Nat),gd s j b=true↔∃n,b<=n/\n<b+j/\(yy false n=s\/yy true n=s)
 |0,b=>by
  constructor
  ·intro h;cases h
  ·rintro⟨n,h1,h2,_⟩;omega
 |j+1,b=>by
  rw[gd,aaD,aaD,adB,adB,lS s j (b+1)]
  constructor
  ·rintro(h|⟨n,h1,h2,h3⟩)
   ·exact⟨b,aat _,by omega,h⟩
   ·exact⟨n,by omega,by omega,h3⟩
  ·rintro⟨n,h1,h2,h3⟩
   by_cases e:n=b
   ·subst e;exact .inl h3
   ·exact .inr ⟨n,by omega,by omega,h3⟩
theorem uR(s:ByteArray):∀(j b:Nat),b+j=32->(gd s j b=true->∃t,kT (s,(b:Int),bB.mk false 0,())=some (.inl (0,t,())))/\(gd s j b=false->∃t,kT (s,(b:Int),bB.mk false 0,())=some (.inr (t,())))
 |0,b,h=>by
  rw[kT]
  have:¬(b:Int)<=31:=by omega
  simp[this,gd]
 |j+1,b,h=>by
  have h1:(b:Int)<=31:=by omega
  have w:IntKind.i64.wrap ((b:Int)+1)=((b+1:Nat):Int):=by rw[w64 (by omega) (by omega)];omega
  have ih:=uR s j (b+1) (by omega)
  rw[kT,gd]
  simp only[h1,adE,adz,DK false (b:=b) (by omega),DK true (b:=b) (by omega),Z1,ZY,ek,adB,w]
  by_cases e1:yy false b=s
  ·simp[e1]
  ·by_cases e2:yy true b=s
   ·simp[e1,e2]
   ·simp only[e1,e2,adA,adF,ab1]
    exact ih
theorem Of(s:ByteArray):∃t,S3 (s,())=some (if gd s 31 1=true then 0 else 2,t,()):=by
 have h:=uR s 31 1 rfl
 rw[S3]
 cases e:gd s 31 1
 ·obtain⟨t,ht⟩:=h.2 e
  rw[show((1:Nat):Int)=1 by rfl]at ht
  rw[ht];exact⟨_,rfl⟩
 ·obtain⟨t,ht⟩:=h.1 e
  rw[show((1:Nat):Int)=1 by rfl]at ht
  rw[ht];exact⟨_,rfl⟩
theorem tI:∀n:Fin 32,gT (dec n.val).data.toList 0=some n.val:=by decide+kernel
theorem iQ(s:Bool)(b:Nat):(yy s b).data.toList=(if s=true then 105 else 117)::(dec b).data.toList:=by
 unfold yy
 rw[ByteArray.data_append,Array.toList_append]
 cases s<;>rfl
theorem Jj(s:ByteArray)(hs:s.size<=8)(hw:j7 s.data.toList=true):∃e t,HN (s,())=some (e,t,())/\(e !=0)= !(gd s 31 1):=by
 have hz:=eB s
 have no:(∀n,1<=n->n<32->yy false n≠s/\yy true n≠s)->gd s 31 1=false:=by
  intro h
  cases e:gd s 31 1
  ·rfl
  ·obtain⟨n,h1,h2,h3⟩:=(lS s 31 1).mp e
   have:=h n h1 (by omega)
   rcases h3 with h3|h3
   ·exact absurd h3 this.1
   ·exact absurd h3 this.2
 match hd:s.data.toList,hw with
 |c::r,hw=>
  rw[j7,Z8]at hw
  have hc:s[aaq 0]?=some c:=by rw[lX,hd];rfl
  have hlen:r.length+1=s.size:=by rw[<-hz,hd,aaa]
  have hcl:=c.toNat_lt
  rw[HN]
  by_cases h2:s.size<2
  ·have h2':(s.size:Int)<2:=by omega
   simp only[h2',adE,adz,Z1,ZY]
   refine⟨_,_,rfl,?_⟩
   rw[no]
   ·rfl
   ·intro n h1 h3
    have hr:r=[]:=ac3.mp (by omega)
    have hp:=tI ⟨n,by omega⟩
    refine⟨?_,?_⟩<;>intro e<;>have e2:=congrArg (λb=>b.data.toList) e<;>simp only[iQ,hd,hr,aaS]at e2<;>simp only[e2.2,gT,Z2]at hp<;>omega
  ·have h2':¬(s.size:Int)<2:=by omega
   simp only[h2',adF,Z0,adA,hc,Z1,ZY]
   by_cases hui:c=117\/c=105
   ·have hq:((if(((c.toNat:Int) !=117)=true)then some (s,(c.toNat:Int) !=105,bB.mk false 0,())else some (s,false,bB.mk false 0,())):Option (ByteArray×Bool×bB×Unit))=some (s,false,bB.mk false 0,()):=by
     rcases hui with h|h<;>subst h<;>rfl
    rw[hq]
    simp only[ZY,Z0,adA]
    have h1s:(1:Int)<=(s.size:Int):=by omega
    rw[adD ⟨by decide,h1s,aaz _⟩]
    have hx:(s.extract (aaq 1) (aaq (s.size:Int))).data.toList=r:=by
     rw[Z5,jp s (aat _),hd]
     show(r.take (s.size-1))=r
     exact aaI (by omega)
    have hxs:(s.extract (aaq 1) (aaq (s.size:Int))).size=r.length:=by rw[<-eB,hx]
    have hp:=Jd (s.extract (aaq 1) (aaq (s.size:Int))) (by omega) (by rw[hx];exactλc hc=>aaf.mp hw.2 c hc)
    rw[hx]at hp
    generalize hr:s.extract (aaq 1) (aaq (s.size:Int))=rb at *
    have key:∀n,1<=n->n<32->(yy false n=s\/yy true n=s)->gT r 0=some n/\dec n=rb:=by
     intro n h1 h3 h4
     have hp:=tI ⟨n,by omega⟩
     have e:(dec n).data.toList=r:=by
      rcases h4 with h4|h4<;>have e2:=congrArg (λb=>b.data.toList) h4<;>simp only[iQ,hd,aaS]at e2<;>exact e2.2
     exact⟨by rw[<-e];exact hp,qk (by rw[e,hx])⟩
    simp only[hp,ZY,hc]
    cases hpl:gT r 0 with
    |none=>
     simp only[]
     refine⟨_,_,rfl,?_⟩
     rw[no]
     ·rfl
     ·intro n h1 h3
      refine⟨?_,?_⟩<;>intro e
      ·have:=(key n h1 h3 (.inl e)).1;rw[hpl]at this;cases this
      ·have:=(key n h1 h3 (.inr e)).1;rw[hpl]at this;cases this
    |some n=>
     simp only[]
     by_cases hdn:dec n=rb
     ·rw[adD hdn]
      simp only[bne_self_eq_false,Z0,adA,oY]
      by_cases hb:1<=n/\n<=31
      ·have b1:¬(n:Int)<1:=by omega
       have b2:¬(n:Int)>31:=by omega
       simp only[b1,b2,adF,Z0,adA]
       refine⟨_,_,rfl,?_⟩
       have:gd s 31 1=true:=by
        rw[lS]
        refine⟨n,hb.1,by omega,?_⟩
        have hrl:(dec n).data.toList=r:=by rw[hdn,hx]
        rcases hui with h|h
        ·left;exact qk (by rw[iQ,hrl,hd,h];rfl)
        ·right;exact qk (by rw[iQ,hrl,hd,h];rfl)
       rw[this];rfl
      ·have hb':(if decide ((n:Int)<1)=true then some (true,())else some (decide ((n:Int)>31),()))=some (true,()):=by
        by_cases b1:(n:Int)<1
        ·simp[b1]
        ·have:(n:Int)>31:=by omega
         simp[b1,this]
       rw[hb']
       refine⟨_,_,rfl,?_⟩
       rw[no]
       ·rfl
       ·intro m h1 h3
        refine⟨?_,?_⟩<;>intro e
        ·have:=(key m h1 h3 (.inl e)).1;rw[hpl,Z2]at this;omega
        ·have:=(key m h1 h3 (.inr e)).1;rw[hpl,Z2]at this;omega
     ·rw[adC hdn]
      refine⟨_,_,rfl,?_⟩
      rw[no]
      ·rfl
      ·intro m h1 h3
       refine⟨?_,?_⟩<;>intro e
       ·have:=key m h1 h3 (.inl e);rw[hpl,Z2]at this;rw[this.1]at hdn;exact hdn this.2
       ·have:=key m h1 h3 (.inr e);rw[hpl,Z2]at this;rw[this.1]at hdn;exact hdn this.2
   ·have n1:((c.toNat:Int) !=117)=true:=by
     have:c≠117:=λe=>hui (.inl e)
     have:c.toNat≠117:=λe=>this (UInt8.toNat_inj.mp e)
     simp;omega
    have n2:((c.toNat:Int) !=105)=true:=by
     have:c≠105:=λe=>hui (.inr e)
     have:c.toNat≠105:=λe=>this (UInt8.toNat_inj.mp e)
     simp;omega
    simp only[n1,n2,adz,ZY]
    refine⟨_,_,rfl,?_⟩
    rw[no]
    ·rfl
    ·intro n h1 h3
     refine⟨?_,?_⟩<;>intro e<;>have e2:=congrArg (λb=>b.data.toList) e<;>simp only[iQ,hd,aaS]at e2
     ·exact hui (.inl e2.1.symm)
     ·exact hui (.inr e2.1.symm)
noncomputable def jK(s:ByteArray):Bool:=decide (s.size<=8)&&j7 s.data.toList&& !(decide (s∈oM))&& !(gd s 31 1)
theorem wU(s:ByteArray):O0 (s,())=some (jK s,()):=by
 rw[O0]
 unfold jK
 by_cases h8:s.size<=8
 ·have h1:¬(s.size:Int)>8:=by omega
  obtain⟨t,ht⟩:=Of s
  simp only[h1,adF,Z0,adA,OT s h8,QD,Z1,ZY,h8,adE,abq]
  cases j7 s.data.toList
  ·rfl
  ·by_cases hk:s∈oM
   ·simp[hk]
   ·simp only[hk,adF,aax,Z0,adA,ZY,ht,aaZ,abq]
    cases gd s 31 1<;>rfl
 ·have h1:(s.size:Int)>8:=by omega
  simp[h1,h8]
theorem sP(s:ByteArray):O2 (s,())=some (jK s,()):=by
 rw[O2]
 unfold jK
 by_cases h8:s.size<=8
 ·have h1:¬(s.size:Int)>8:=by omega
  simp only[h1,adF,Z0,adA,Jl s h8,Ob,Z1,ZY,h8,adE,abq]
  cases hw:j7 s.data.toList
  ·rfl
  ·obtain⟨e,t,ht,he⟩:=Jj s h8 hw
   by_cases hk:s∈oM
   ·simp[hk]
   ·simp only[hk,adF,aax,Z0,adA,ZY,ht,aaZ,abq,he]
 ·have h1:(s.size:Int)>8:=by omega
  simp[h1,h8]
end Go.Proofs.YtcghbgmmgcljkaaGreatDoor
end
section
namespace Go.Proofs.YtcghbgmmgcljkaaGreatDoor
set_option maxRecDepth 20000
noncomputable def dA(t:aF):Bool:=
 if t.base=2\/t.base=3 then decide (1<=t.bits/\t.bits<=31)&&decide (t.name0=ZZ #[])
 else if t.base=5 then decide (t.bits=0)&&jK t.name0
 else if t.base=0 then decide (t.bits=0)&&decide (t.name0=ZZ #[])&& !t.opt
 else if t.base=4 then decide (t.bits=0)&&decide (t.name0=ZZ #[])&& !t.opt&& !t.err
 else decide (t.base=1)&&decide (t.bits=0)&&decide (t.name0=ZZ #[])
theorem OQ(t:aF):H5 (t,())=some (dA t,()):=by
 rw[H5]
 unfold dA
 simp only[ek,vm,wU,Z1,beq_iff_eq]
 by_cases h2:t.base=2
 ·by_cases hb:1<=t.bits/\t.bits<=31<;>simp[h2,hb]
 by_cases h3:t.base=3
 ·by_cases hb:1<=t.bits/\t.bits<=31<;>simp[h3,hb]
 by_cases h5:t.base=5
 ·by_cases hb:t.bits=0<;>simp[h5,hb]
 by_cases h0:t.base=0
 ·by_cases hb:t.bits=0<;>by_cases hn:t.name0=ZZ #[]<;>simp[h0,hb,hn]
 by_cases h4:t.base=4
 ·by_cases hb:t.bits=0<;>by_cases hn:t.name0=ZZ #[]<;>cases ho:t.opt<;>simp[h4,hb,hn,ho]
 by_cases h1:t.base=1
 ·by_cases hb:t.bits=0<;>by_cases hn:t.name0=ZZ #[]<;>simp[h1,hb,hn]
 ·simp[h2,h3,h5,h0,h4,h1]
theorem Jk(t:aF):HP (t,())=some (dA t,()):=by
 rw[HP]
 unfold dA
 simp only[ek,sP,Z1,beq_iff_eq,Np,Nq,oY]
 by_cases h2:t.base=2
 ·by_cases hb1:t.bits<1
  ·cases ho:t.opt<;>cases he:t.err<;>simp[h2,hb1]<;>omega
  ·by_cases hb2:t.bits>31
   ·cases ho:t.opt<;>cases he:t.err<;>simp[h2,hb1,hb2]<;>omega
   ·have:1<=t.bits/\t.bits<=31:=⟨by omega,by omega⟩
    cases ho:t.opt<;>cases he:t.err<;>simp[h2,hb1,hb2,this]
 by_cases h3:t.base=3
 ·by_cases hb1:t.bits<1
  ·cases ho:t.opt<;>cases he:t.err<;>simp[h3,hb1]<;>omega
  ·by_cases hb2:t.bits>31
   ·cases ho:t.opt<;>cases he:t.err<;>simp[h3,hb1,hb2]<;>omega
   ·have:1<=t.bits/\t.bits<=31:=⟨by omega,by omega⟩
    cases ho:t.opt<;>cases he:t.err<;>simp[h3,hb1,hb2,this]
 by_cases h5:t.base=5
 ·by_cases hb:t.bits=0<;>cases ho:t.opt<;>cases he:t.err<;>cases hn:jK t.name0<;>simp[h5,hb,hn]
 by_cases h0:t.base=0
 ·by_cases hb:t.bits=0<;>by_cases hn:t.name0=ZZ #[]<;>cases ho:t.opt<;>cases he:t.err<;>simp[h0,hb,hn]
 by_cases h4:t.base=4
 ·by_cases hb:t.bits=0<;>by_cases hn:t.name0=ZZ #[]<;>cases ho:t.opt<;>cases he:t.err<;>simp[h4,hb,hn]
 by_cases h1:t.base=1
 ·by_cases hb:t.bits=0<;>by_cases hn:t.name0=ZZ #[]<;>cases ho:t.opt<;>cases he:t.err<;>simp[h1,hb,hn]
 ·have:t.base<0\/t.base>5:=by omega
  rcases this with h|h
  ·simp[h2,h3,h5,h0,h4,h1,h]
  ·by_cases h':t.base<0
   ·simp[h2,h3,h5,h0,h4,h1,h']
   ·simp[h2,h3,h5,h0,h4,h1,h,h']
noncomputable def dZ(t:aF):Bool:=dA t&&decide (t.base<=3)
noncomputable def cL(t:aF):Bool:=dA t&&decide (t.base=2\/t.base=3)&& !t.opt&& !t.err
theorem Fl(t:aF):O1 (t,())=some (dZ t,()):=by
 rw[O1,Ni]
 unfold dZ
 cases h:dA t<;>simp[OQ,h]
theorem Qz(t:aF):HA (t,())=some (cL t,()):=by
 rw[HA]
 unfold cL
 simp only[Fl,dZ]
 cases h:dA t
 ·simp
 ·by_cases h2:t.base=2
  ·cases ho:t.opt<;>cases he:t.err<;>simp[h2]
  ·by_cases h3:t.base=3
   ·cases ho:t.opt<;>cases he:t.err<;>simp[h3]
   ·by_cases h4:t.base<=3<;>simp[h2,h3,h4]
theorem uM(t:aF):QT (t,())=some (if dA t=true then 0 else 1,()):=by
 rw[QT]
 cases h:dA t<;>simp[Jk,h]
theorem uJ(t:aF):Ee (t,())=some (dA t&& !t.opt&& !t.err,()):=by
 rw[Ee]
 simp only[uM]
 cases h:dA t<;>cases ho:t.opt<;>cases he:t.err<;>simp[]
theorem Oa(t:aF):AE (t,())=some (cL t,()):=by
 rw[AE]
 simp only[uJ]
 unfold cL
 cases h:dA t<;>cases ho:t.opt<;>cases he:t.err<;>by_cases h2:t.base=2<;>by_cases h3:t.base=3<;>simp[h2,h3]
end Go.Proofs.YtcghbgmmgcljkaaGreatDoor
end
section
namespace Go.Proofs.YtcghbgmmgcljkaaGreatDoor
open IntKind (i64)
set_option maxRecDepth 20000
def fv:List aC->ByteArray->Nat->Int
 |[],_,_=> -1
 |f::r,s,k=>if f.name0=s then(k:Int)else fv r s (k+1)
def cw(l:List aC)(s:ByteArray):Int:=fv l s 0
theorem na:∀(l:List aC) (s:ByteArray) (k:Nat),fv l s k= -1\/((k:Int)<=fv l s k/\fv l s k<k+l.length)
 |[],_,_=> .inl rfl
 |f::r,s,k=>by
  rw[fv]
  split
  ·right;simp;omega
  ·rcases na r s (k+1)with h|h
   ·exact .inl h
   ·right;rw[aaa];omega
theorem tR(l:List aC)(hl:l.length<=4294967296)(s:ByteArray):∀(j k:Nat),k+j=l.length->
 mi (l,s,(k:Int),())=if fv (l.drop k) s k= -1 then some (.inr ())else some (.inl (fv (l.drop k) s k,()))
 |0,k,h=>by
  rw[mi,cu (by omega)]
  have:¬(k:Int)<(l.length:Int):=by omega
  simp[this,fv]
 |j+1,k,h=>by
  obtain⟨x,hx,hm,hd⟩:=bK (l:=l) (k:=k) (by omega)
  have h1:(k:Int)<(l.length:Int):=by omega
  have h2:(0:Int)<=(k:Int):=by omega
  have w:i64.wrap ((k:Int)+1)=((k+1:Nat):Int):=by rw[w64 (by omega) (by omega)];omega
  have ih:=tR l hl s j (k+1) (by omega)
  rw[mi,hd,fv]
  simp only[h1,h2,adE,adz,Z5,hx,Z1,ZY,ek,adB,w]
  by_cases e:x.name0=s
  ·have:¬(k:Int)= -1:=by omega
   simp[e,this]
  ·simp only[e,adA]
   exact ih
theorem wm(l:List aC)(hl:l.length<=4294967296)(s:ByteArray):QO (l,s,())=some (cw l s,()):=by
 have h:=tR l hl s _ 0 (Z9 _)
 rw[aao,aap]at h
 rw[QO]
 unfold cw
 by_cases e:fv l s 0= -1
 ·rw[adD e]at h
  rw[h,e];rfl
 ·rw[adC e]at h
  rw[h];rfl
theorem qW(l:List aC)(hl:l.length<=4294967296)(s:ByteArray):∀(j k:Nat),k+j=l.length->
 dT (l,(l.length:Int),(k:Int),s,())=if fv (l.drop k) s k= -1 then some (.inr (s,()))else some (.inl (fv (l.drop k) s k,s,()))
 |0,k,h=>by
  rw[dT,cu (by omega)]
  have:¬(k:Int)<(l.length:Int):=by omega
  simp[this,fv]
 |j+1,k,h=>by
  obtain⟨x,hx,hm,hd⟩:=bK (l:=l) (k:=k) (by omega)
  have h1:(k:Int)<(l.length:Int):=by omega
  have h2:(0:Int)<=(k:Int):=by omega
  have w:i64.wrap ((k:Int)+1)=((k+1:Nat):Int):=by rw[w64 (by omega) (by omega)];omega
  have ih:=qW l hl s j (k+1) (by omega)
  rw[dT,hd,fv]
  simp only[h1,h2,adE,adz,Z5,hx,Z1,ZY,o8,ek,adB,w]
  by_cases e:x.name0=s
  ·have:¬(k:Int)= -1:=by omega
   simp[e,this]
  ·simp only[e,adA]
   exact ih
theorem ny(l:List aC)(hl:l.length<=4294967296)(s:ByteArray):OZ (l,s,())=some (cw l s,()):=by
 have h:=qW l hl s _ 0 (Z9 _)
 rw[aao,aap]at h
 rw[OZ,o7]
 unfold cw
 by_cases e:fv l s 0= -1
 ·rw[adD e]at h
  rw[h,e];rfl
 ·rw[adC e]at h
  rw[h];rfl
def rng(n a b:Int):Bool:=decide (a<=n/\n<=b)
theorem zg(n a b:Int):B9 (n,a,b,())=some (rng n a b,()):=by
 rw[B9];unfold rng
 by_cases h:a<=n<;>simp[h]
theorem Ff(n a b:Int):Gw (n,a,b,())=some (rng n a b,()):=by
 rw[Gw];unfold rng
 by_cases h:a<=n<;>simp[h]
def zT(t:aF):Bool:=Mp.ieq t.base 0&&(Mp.ieq t.bits 0&&(Mp.seq t.name0 (ZZ #[])&&(Mp.beq t.opt false&&Mp.beq t.err false)))
def noN(s:ByteArray):Bool:=decide (s=ZZ #[])
noncomputable def di(l:List aC)(f:aC)(c:aQ):Bool:=
 if c.op=0 then rng c.a (-2147483648) 2147483648&&c.b==0&&(dZ c.type0&& !c.type0.opt&& !c.type0.err)&&noN c.name0
 else if c.op=2\/c.op=3 then rng c.a 0 (i64.wrap (f.places-1))&&c.b==0&&zT c.type0&&noN c.name0
 else if c.op=5 then rng c.a 5 17&&c.b==0&&cL c.type0&&noN c.name0
 else if c.op=6 then rng c.a 18 23&&c.b==0&&zT c.type0&&noN c.name0
 else if c.op=7\/c.op=9\/c.op=10 then c.a==0&&c.b==0&&cL c.type0&&noN c.name0
 else if c.op=12\/c.op=13\/c.op=14\/c.op=15 then rng c.a 0 (i64.wrap ((f.code.length:Int) -1))&&c.b==0&&zT c.type0&&noN c.name0
 else if c.op=16 then c.a==0&&zT c.type0&&decide (0<=cw l c.name0)&&(match l[(cw l c.name0).toNat]? with|some g=>c.b==g.params|none=>false)
 else if c.op=18 then c.a==0&&c.b==0&&zT c.type0&&jK c.name0
 else if c.op=19 then rng c.a 1 5&&c.b==0&&zT c.type0&&noN c.name0
 else if c.op=1\/c.op=4\/c.op=8\/c.op=11\/c.op=17 then c.a==0&&c.b==0&&zT c.type0&&noN c.name0
 else false
theorem du(t:aF):aF.mk t.base t.bits t.name0 t.opt t.err=t:=by cases t;rfl
set_option maxHeartbeats 4000000 in
theorem MN(l:List aC)(hl:l.length<=4294967296)(f:aC)(c:aQ):SV (l,f,c,())=some (di l f c,()):=by
 rw[SV]
 simp only[zg,Z1,ZY,ek]
 by_cases hr:0<=c.op/\c.op<=19
 ·have hk:c.op=0\/c.op=1\/c.op=2\/c.op=3\/c.op=4\/c.op=5\/c.op=6\/c.op=7\/c.op=8\/c.op=9\/c.op=10\/c.op=11\/c.op=12\/c.op=13\/c.op=14\/c.op=15\/c.op=17\/c.op=18\/c.op=19\/c.op=16:=by omega
  have e0:rng c.op 0 19=true:=by unfold rng;simpa using hr
  rw[e0]
  have ez:(Mp.ieq c.type0.base 0&&(Mp.ieq c.type0.bits 0&&(Mp.seq c.type0.name0 (ZZ #[])&&(Mp.beq c.type0.opt false&&Mp.beq c.type0.err false))))=zT c.type0:=rfl
  simp only[ez]
  rcases hk with h|h|h|h|h|h|h|h|h|h|h|h|h|h|h|h|h|h|h|h
  rotate_left 19
  ·have hf:cw l c.name0<0\/∃g,l[(cw l c.name0).toNat]?=some g/\0<=cw l c.name0:=by
    rcases na l c.name0 0 with hq|hq
    ·left;unfold cw;omega
    ·right
     refine⟨l[(cw l c.name0).toNat]'(by unfold cw;omega),Z3 _,by unfold cw;omega⟩
   simp[h,Hx,di]
   rcases hf with hf|⟨g,hg,hf⟩
   ·have hf':¬0<=cw l c.name0:=by omega
    by_cases ha:c.a=0<;>cases hz:zT c.type0<;>simp[ha,hf',h,wm l hl]
   ·by_cases ha:c.a=0<;>cases hz:zT c.type0<;>simp[ha,hf,hg,h,wm l hl]
  all_goals simp[h,Hx,iz,di,noN,zg,Fl,Qz,wU]
  all_goals by_cases ha:c.a=0<;>by_cases hb:c.b=0<;>cases hz:zT c.type0<;>by_cases hn:c.name0=ZZ #[]<;>simp[h,ha,hb,hn]
  all_goals try(split<;>simp_all)
  all_goals(cases dZ c.type0<;>cases c.type0.opt<;>cases c.type0.err<;>rfl)
 ·have e0:rng c.op 0 19=false:=by unfold rng;simpa using hr
  rw[e0]
  unfold di
  simp only[aaZ,adz]
  rw[adC (by omega),adC (by omega),adC (by omega),adC (by omega),adC (by omega),adC (by omega),adC (by omega),adC (by omega),adC (by omega),adC (by omega)]
end Go.Proofs.YtcghbgmmgcljkaaGreatDoor
end
section
namespace Go.Proofs.YtcghbgmmgcljkaaGreatDoor
set_option maxRecDepth 20000
theorem TK(t:aF):(dZ t&& !t.opt&& !t.err)=if cL t=true then true else if(dA t&& !t.opt&& !t.err)=true then decide (t.base<=1)else false:=by
 unfold cL dZ
 cases h:dA t<;>cases ho:t.opt<;>cases he:t.err<;>by_cases h2:t.base=2<;>by_cases h3:t.base=3<;>simp[h2,h3]<;>omega
set_option maxHeartbeats 4000000 in
theorem Je(l:List aC)(hl:l.length<=4294967296)(f:aC)(c:aQ):kS (c,l,f,())=some (!(di l f c),l,f,()):=by
 rw[kS,TU]
 simp only[Ff,Z1,ZY,ek]
 have ez:(Mp.ieq c.type0.base 0&&(Mp.ieq c.type0.bits 0&&(Mp.seq c.type0.name0 (ZZ #[])&&(Mp.beq c.type0.opt false&&Mp.beq c.type0.err false))))=zT c.type0:=rfl
 have eb:∀b:Bool,Mp.beq b true=b:=λb=>by cases b<;>rfl
 simp only[ez,eb,Oa,uJ,sP,ZY]
 by_cases hr:0<=c.op/\c.op<=19
 ·have hk:c.op=0\/c.op=1\/c.op=2\/c.op=3\/c.op=4\/c.op=5\/c.op=6\/c.op=7\/c.op=8\/c.op=9\/c.op=10\/c.op=11\/c.op=12\/c.op=13\/c.op=14\/c.op=15\/c.op=17\/c.op=18\/c.op=19\/c.op=16:=by omega
  rcases hk with h|h|h|h|h|h|h|h|h|h|h|h|h|h|h|h|h|h|h|h
  rotate_left 19
  ·have hf:cw l c.name0<0\/∃g,l[(cw l c.name0).toNat]?=some g/\0<=cw l c.name0:=by
    rcases na l c.name0 0 with hq|hq
    ·left;unfold cw;omega
    ·right
     refine⟨l[(cw l c.name0).toNat]'(by unfold cw;omega),Z3 _,by unfold cw;omega⟩
   simp[h,di,ny l hl]
   rcases hf with hf|⟨g,hg,hf⟩
   ·have hf':¬0<=cw l c.name0:=by omega
    simp[hf']
   ·by_cases ha:c.a=0<;>cases hz:zT c.type0<;>simp[ha,hf,hg]
  ·rw[di,adD h,TK]
   by_cases hb:c.b=0<;>by_cases hn:c.name0=ZZ #[]<;>cases hi:cL c.type0<;>cases hp:(dA c.type0&& !c.type0.opt&& !c.type0.err)<;>simp[h,hb,hn,noN,-Bool.not_and,-Z8]
   all_goals try simp[Bool.and_assoc]
  all_goals simp[h,di,noN]
  all_goals by_cases ha:c.a=0<;>by_cases hb:c.b=0<;>cases hz:zT c.type0<;>by_cases hn:c.name0=ZZ #[]<;>simp[ha,hb,hn]
  all_goals try simp[Bool.or_assoc]
 ·have hc:di l f c=false:=by
   unfold di
   rw[adC (by omega),adC (by omega),adC (by omega),adC (by omega),adC (by omega),adC (by omega),adC (by omega),adC (by omega),adC (by omega),adC (by omega)]
  rw[hc]
  have hk:c.op≠0/\c.op≠1/\c.op≠2/\c.op≠3/\c.op≠4/\c.op≠5/\c.op≠6/\c.op≠7/\c.op≠8/\c.op≠9/\c.op≠10/\c.op≠11/\c.op≠12/\c.op≠13/\c.op≠14/\c.op≠15/\c.op≠17/\c.op≠18/\c.op≠19/\c.op≠16:=by omega
  simp[hk]
end Go.Proofs.YtcghbgmmgcljkaaGreatDoor
end
section
namespace Go.Proofs.YtcghbgmmgcljkaaGreatDoor
open IntKind (i64)
set_option maxRecDepth 20000
def e9(a:Int)(l:List aC):Int:=l.foldl (λa f=>i64.wrap (a+(f.code.length:Int))) a
def ku(l:List aC):Bool:=l.any (λf=>decide (f.places>200))
theorem qx(l:List aC)(hl:l.length<=4294967296):∀(j k:Nat) (a:Int),k+j=l.length->mh (l,a,(k:Int),())=some (e9 a (l.drop k),())
 |0,k,a,h=>by
  rw[mh,cu (by omega)]
  have:¬(k:Int)<(l.length:Int):=by omega
  simp[this,e9]
 |j+1,k,a,h=>by
  obtain⟨x,hx,hm,hd⟩:=bK (l:=l) (k:=k) (by omega)
  have h1:(k:Int)<(l.length:Int):=by omega
  have h2:(0:Int)<=(k:Int):=by omega
  have w:i64.wrap ((k:Int)+1)=((k+1:Nat):Int):=by rw[w64 (by omega) (by omega)];omega
  rw[mh,hd]
  simp only[h1,h2,adE,adz,Z5,hx,Z1,ZY,w]
  exact qx l hl j (k+1) _ (by omega)
theorem pg(l:List aC)(hl:l.length<=4294967296):∀(j k:Nat) (a:Int),k+j=l.length->mg (a,l,(l.length:Int),(k:Int),())=some (e9 a (l.drop k),())
 |0,k,a,h=>by
  rw[mg,cu (by omega)]
  have:¬(k:Int)<(l.length:Int):=by omega
  simp[this,e9]
 |j+1,k,a,h=>by
  obtain⟨x,hx,hm,hd⟩:=bK (l:=l) (k:=k) (by omega)
  have h1:(k:Int)<(l.length:Int):=by omega
  have h2:(0:Int)<=(k:Int):=by omega
  have w:i64.wrap ((k:Int)+1)=((k+1:Nat):Int):=by rw[w64 (by omega) (by omega)];omega
  rw[mg,hd]
  simp only[h1,h2,adE,adz,Z5,hx,Z1,ZY,w]
  exact pg l hl j (k+1) _ (by omega)
theorem GV(l:List aC)(hl:l.length<=4294967296):SU (l,())=some (e9 0 l,()):=by
 have h:=qx l hl _ 0 0 (Z9 _)
 rw[aao,aap]at h
 rw[SU,h];rfl
theorem Fa(l:List aC)(hl:l.length<=4294967296):SQ (l,())=some (e9 0 l,()):=by
 have h:=pg l hl _ 0 0 (Z9 _)
 rw[aao,aap]at h
 rw[SQ,h];rfl
theorem xW(l:List aC)(hl:l.length<=4294967296):∀(j k:Nat),k+j=l.length->mc (l,(k:Int),())=if ku (l.drop k)=true then some (.inl (3,()))else some (.inr (l,()))
 |0,k,h=>by
  rw[mc,cu (by omega)]
  have:¬(k:Int)<(l.length:Int):=by omega
  simp[this,ku]
 |j+1,k,h=>by
  obtain⟨x,hx,hm,hd⟩:=bK (l:=l) (k:=k) (by omega)
  have h1:(k:Int)<(l.length:Int):=by omega
  have h2:(0:Int)<=(k:Int):=by omega
  have w:i64.wrap ((k:Int)+1)=((k+1:Nat):Int):=by rw[w64 (by omega) (by omega)];omega
  have ih:=xW l hl j (k+1) (by omega)
  rw[mc,hd]
  simp only[h1,h2,adE,adz,Z5,hx,Z1,ZY,w,ih]
  unfold ku
  rw[ab0]
  by_cases e:x.places>200<;>simp[e]
theorem uH(l:List aC)(hl:l.length<=4294967296):∀(j k:Nat),k+j=l.length->(ku (l.drop k)=true->∃i:Nat,eH (l,(l.length:Int),(k:Int),())=some (.inl ((i:Int),())))/\(ku (l.drop k)=false->eH (l,(l.length:Int),(k:Int),())=some (.inr ()))
 |0,k,h=>by
  rw[eH,cu (by omega)]
  have:¬(k:Int)<(l.length:Int):=by omega
  simp[this,ku]
 |j+1,k,h=>by
  obtain⟨x,hx,hm,hd⟩:=bK (l:=l) (k:=k) (by omega)
  have h1:(k:Int)<(l.length:Int):=by omega
  have h2:(0:Int)<=(k:Int):=by omega
  have w:i64.wrap ((k:Int)+1)=((k+1:Nat):Int):=by rw[w64 (by omega) (by omega)];omega
  have ih:=uH l hl j (k+1) (by omega)
  rw[eH,hd]
  simp only[h1,h2,adE,adz,Z5,hx,Z1,ZY,TT,w]
  unfold ku at ih⊢
  rw[ab0]
  by_cases e:x.places>200
  ·simp only[e,adE,acs,adz]
   exact⟨λ_=>⟨k,rfl⟩,λh=>by cases h⟩
  ·simp only[e,adF,ab1,Z0,adA]
   exact ih
theorem N8(l:List aC)(hl:l.length<=4294967296):sH (l,())=some (ku l,()):=by
 obtain⟨h1,h2⟩:=uH l hl _ 0 (Z9 _)
 rw[aao,aap]at h1 h2
 rw[sH,wS]
 cases e:ku l
 ·rw[h2 e];rfl
 ·obtain⟨i,h⟩:=h1 e
  have:(0:Int)<=(i:Int):=by omega
  rw[h];simp[this]
theorem qw(l:List aC)(hl:l.length<=4294967296)(f:aC)(hf:f.code.length<=4294967296)(i:Int):∀(j k:Nat),k+j=f.code.length->
 jb (l,i,(k:Int),f,())=if(f.code.drop k).all (di l f)=true then some (.inr (l,i,()))else some (.inl (1,()))
 |0,k,h=>by
  rw[jb,cu (by omega)]
  have:¬(k:Int)<(f.code.length:Int):=by omega
  simp[this]
 |j+1,k,h=>by
  obtain⟨x,hx,hm,hd⟩:=bK (l:=f.code) (k:=k) (by omega)
  have h1:(k:Int)<(f.code.length:Int):=by omega
  have h2:(0:Int)<=(k:Int):=by omega
  have w:i64.wrap ((k:Int)+1)=((k+1:Nat):Int):=by rw[w64 (by omega) (by omega)];omega
  have ih:=qw l hl f hf i j (k+1) (by omega)
  rw[jb,hd,abe]
  simp only[h1,h2,adE,adz,Z5,hx,Z1,ZY,MN l hl,w,ih]
  cases di l f x<;>simp
theorem pf(l:List aC)(hl:l.length<=4294967296)(f:aC)(cs:List aQ)(hf:cs.length<=4294967296):∀(j k:Nat),k+j=cs.length->
 ((cs.drop k).all (di l f)=true->da (cs,(cs.length:Int),(k:Int),l,f,())=some (.inr (l,f,())))/\((cs.drop k).all (di l f)=false->∃i:Nat,da (cs,(cs.length:Int),(k:Int),l,f,())=some (.inl ((i:Int),l,f,())))
 |0,k,h=>by
  rw[da,cu (by omega)]
  have:¬(k:Int)<(cs.length:Int):=by omega
  simp[this]
 |j+1,k,h=>by
  obtain⟨x,hx,hm,hd⟩:=bK (l:=cs) (k:=k) (by omega)
  have h1:(k:Int)<(cs.length:Int):=by omega
  have h2:(0:Int)<=(k:Int):=by omega
  have w:i64.wrap ((k:Int)+1)=((k+1:Nat):Int):=by rw[w64 (by omega) (by omega)];omega
  have ih:=pf l hl f cs hf j (k+1) (by omega)
  rw[da,hd,abe]
  simp only[h1,h2,adE,adz,Z5,hx,Z1,ZY,Je l hl,w]
  cases di l f x
  ·simp only[aaZ,adz,Bool.false_and]
   exact⟨(λh=>by cases h),λ_=>⟨k,rfl⟩⟩
  ·simp only[aax,Z0,adA,abq]
   exact ih
theorem E_(l:List aC)(hl:l.length<=4294967296)(f:aC)(cs:List aQ)(hf:cs.length<=4294967296):kR (cs,l,f,())=some (!(cs.all (di l f)),l,f,()):=by
 obtain⟨h1,h2⟩:=pf l hl f cs hf _ 0 (Z9 _)
 rw[aao,aap]at h1 h2
 rw[kR,lL]
 cases e:cs.all (di l f)
 ·obtain⟨i,h⟩:=h2 e
  have:(0:Int)<=(i:Int):=by omega
  rw[h];simp[this]
 ·rw[h1 e];rfl
noncomputable def lI(l:List aC)(f:aC):Bool:=
 jK f.name0&&rng f.params 0 f.places&&dZ f.type0&&decide (1<=f.code.length)&&f.code.all (di l f)
theorem Jf(l:List aC)(hl:l.length<=4294967296)(f:aC)(hf:f.code.length<=4294967296):SR (l,f,())=some (lI l f,()):=by
 rw[SR]
 simp only[sP,Ff,uM,Z1,ZY]
 unfold lI dZ
 cases jK f.name0
 ·simp
 cases rng f.params 0 f.places
 ·simp
 by_cases h0:f.code.length=0
 ·have:((f.code.length:Int)==0)=true:=by simpa using h0
  simp[h0]
 ·have h1:((f.code.length:Int)==0)=false:=by simpa using h0
  have h2:1<=f.code.length:=by omega
  cases dA f.type0
  ·simp[h1]
  ·by_cases hb:f.type0.base>=4
   ·have:¬f.type0.base<=3:=by omega
    simp[h1,hb,this]
   ·have:f.type0.base<=3:=by omega
    simp[h1,hb,this,h2,E_ l hl f f.code hf]
end Go.Proofs.YtcghbgmmgcljkaaGreatDoor
end
section
namespace Go.Proofs.YtcghbgmmgcljkaaGreatDoor
set_option maxRecDepth 20000
noncomputable def gG(l:List aC):Nat->List aC->Bool
 |_,[]=>true
 |k,f::r=>lI l f&&decide (cw l f.name0=(k:Int))&&gG l (k+1) r
theorem Aq(l:List aC)(s:ByteArray)(f:aC)(hs:f.name0=s):∀(a k:Nat),l[k]?=some f->(a:Int)<=fv l s a/\fv l s a<=a+k:=by
 induction l with
 |nil=>intro a k h;simp at h
 |cons g r ih=>
  intro a k h
  rw[fv]
  split
  ·omega
  ·rename_i hne
   cases k with
   |zero=>simp at h;rw[h]at hne;exact absurd hs hne
   |succ k=>
    rw[ab9]at h
    have:=ih (a+1) k h
    omega
theorem qG(l:List aC)(hl:l.length<=4294967296)(hc:∀f∈l,f.code.length<=4294967296):∀(j k:Nat),k+j=l.length->
 md (l,(k:Int),())=if gG l k (l.drop k)=true then some (.inr ())else some (.inl (1,()))
 |0,k,h=>by
  rw[md,cu (by omega)]
  have:¬(k:Int)<(l.length:Int):=by omega
  simp[this,gG]
 |j+1,k,h=>by
  obtain⟨x,hx,hm,hd⟩:=bK (l:=l) (k:=k) (by omega)
  have h1:(k:Int)<(l.length:Int):=by omega
  have h2:(0:Int)<=(k:Int):=by omega
  have w:IntKind.i64.wrap ((k:Int)+1)=((k+1:Nat):Int):=by rw[w64 (by omega) (by omega)];omega
  have ih:=qG l hl hc j (k+1) (by omega)
  have cl:=qw l hl x (hc x hm) (k:Int) _ 0 (Z9 _)
  rw[aao,aap]at cl
  have hfs:=Aq l x.name0 x rfl 0 k hx
  rw[md,hd,gG]
  simp only[h1,h2,adE,adz,Z5,hx,Z1,ZY,wU,wm l hl,zg,Fl]
  unfold lI
  cases jK x.name0
  ·simp
  by_cases hlt:cw l x.name0<(k:Int)
  ·have:¬cw l x.name0=(k:Int):=by omega
   simp[hlt,this]
  ·have heq:cw l x.name0=(k:Int):=by unfold cw at hlt⊢;omega
   cases rng x.params 0 x.places
   ·simp[heq]
   cases dZ x.type0
   ·simp[heq]
   by_cases h0:x.code.length<1
   ·have e1:((x.code.length:Int)<1):=by omega
    have e2:¬1<=x.code.length:=by omega
    simp[heq,e1,e2]
   ·have e1:¬((x.code.length:Int)<1):=by omega
    have e2:1<=x.code.length:=by omega
    have e3:¬(k:Int)<(k:Int):=by omega
    cases hcd:x.code.all (di l x)
    ·rw[hcd]at cl
     simp only[Z0,adA]at cl
     simp[heq,e1,e2,e3,cl]
    ·rw[hcd]at cl
     simp only[adz]at cl
     simp only[heq,e1,e2,e3,adF,adE,aax,Z0,adA,ZY,abq,cl]
     rw[w,ih]
theorem pi(l:List aC)(hl:l.length<=4294967296)(hc:∀f∈l,f.code.length<=4294967296):∀(j k:Nat),k+j=l.length->
 mb (l,l,(l.length:Int),(k:Int),())=if gG l k (l.drop k)=true then some (.inr ())else some (.inl (1,()))
 |0,k,h=>by
  rw[mb,cu (by omega)]
  have:¬(k:Int)<(l.length:Int):=by omega
  simp[this,gG]
 |j+1,k,h=>by
  obtain⟨x,hx,hm,hd⟩:=bK (l:=l) (k:=k) (by omega)
  have h1:(k:Int)<(l.length:Int):=by omega
  have h2:(0:Int)<=(k:Int):=by omega
  have w:IntKind.i64.wrap ((k:Int)+1)=((k+1:Nat):Int):=by rw[w64 (by omega) (by omega)];omega
  have ih:=pi l hl hc j (k+1) (by omega)
  rw[mb,hd,gG]
  simp only[h1,h2,adE,adz,Z5,hx,Z1,ZY,Jf l hl x (hc x hm),ny l hl]
  cases lI l x
  ·simp
  ·by_cases e:cw l x.name0=(k:Int)
   ·have:(cw l x.name0 !=(k:Int))=false:=by simpa using e
    simp only[e,aax,Z0,adA,ZY,adE,abq,bne_self_eq_false]
    rw[w]
    exact ih
   ·have:(cw l x.name0 !=(k:Int))=true:=by simpa using e
    simp[this,e]
noncomputable def dM(l:List aC):Int:=
 if l.length>48\/e9 0 l>2000\/ku l=true then 3 else if gG l 0 l=true then 0 else 1
theorem zB(l:List aC)(hl:l.length<=4294967296)(hc:∀f∈l,f.code.length<=4294967296):QM (l,())=some (dM l,()):=by
 have b:=xW l hl _ 0 (Z9 _)
 have c:=qG l hl hc _ 0 (Z9 _)
 rw[aao,aap]at b c
 rw[QM]
 unfold dM
 by_cases h1:l.length>48
 ·have:(l.length:Int)>48:=by omega
  simp[h1,this]
 ·have e1:¬(l.length:Int)>48:=by omega
  simp only[e1,h1,adF,Z0,adA,GV l hl,Z1,ZY,false_or]
  by_cases h2:e9 0 l>2000
  ·simp[h2]
  ·simp only[h2,adF,Z0,adA,false_or,b]
   cases ku l
   ·simp only[Z0,adA,ZY,c]
    cases gG l 0 l<;>rfl
   ·rfl
theorem pm(l:List aC)(hl:l.length<=4294967296)(hc:∀f∈l,f.code.length<=4294967296):OY (l,())=some (dM l,()):=by
 have c:=pi l hl hc _ 0 (Z9 _)
 rw[aao,aap]at c
 rw[OY]
 unfold dM
 by_cases h1:l.length>48
 ·have:(l.length:Int)>48:=by omega
  simp[h1,this]
 ·have e1:¬(l.length:Int)>48:=by omega
  simp only[e1,h1,adF,Z0,adA,Fa l hl,Z1,ZY,false_or]
  by_cases h2:e9 0 l>2000
  ·simp[h2]
  ·simp only[h2,adF,Z0,adA,false_or,N8 l hl,ZY,c]
   cases ku l
   ·simp only[Z0,adA]
    cases gG l 0 l<;>rfl
   ·rfl
end Go.Proofs.YtcghbgmmgcljkaaGreatDoor
end
section
namespace Go.Proofs.YtcghbgmmgcljkaaGreatDoor
open IntKind (i64)
set_option maxRecDepth 20000
def bD(c:aQ):Int:=
 if c.op=0\/c.op=1\/c.op=2\/c.op=18 then 0 else if c.op=3\/c.op=4\/c.op=15\/c.op=17 then 1 else if c.op=5\/c.op=6 then 2 else if c.op=16 then c.b else if c.op=14\/c.op=19 then 0 else 1
def bZ(c:aQ):Int:=
 if c.op=3\/c.op=4\/c.op=15\/c.op=17\/c.op=14\/c.op=19 then 0 else 1
def iy(c:aQ):Bool:= !(decide (c.op=14)||decide (c.op=17)||decide (c.op=19))
def d4(c:aQ):Bool:=decide (c.op=12)||decide (c.op=13)||decide (c.op=14)||decide (c.op=15)
theorem zp(c:aQ):Eh (c,())=some (bD c,bZ c,()):=by
 rw[Eh]
 unfold bD bZ
 by_cases h0:c.op=0
 ·simp[h0]
 by_cases h1:c.op=1
 ·simp[h1]
 by_cases h2:c.op=2
 ·simp[h2]
 by_cases h18:c.op=18
 ·simp[h18]
 by_cases h3:c.op=3
 ·simp[h3]
 by_cases h4:c.op=4
 ·simp[h4]
 by_cases h15:c.op=15
 ·simp[h15]
 by_cases h17:c.op=17
 ·simp[h17]
 by_cases h5:c.op=5
 ·simp[h5]
 by_cases h6:c.op=6
 ·simp[h6]
 by_cases h16:c.op=16
 ·simp[h16]
 by_cases h14:c.op=14
 ·simp[h14]
 by_cases h19:c.op=19
 ·simp[h19]
 simp[h0,h1,h2,h18,h3,h4,h15,h17,h5,h6,h16,h14,h19]
theorem xu(c:aQ):SX (c,())=some (vC.mk (bD c) (bZ c) (iy c),()):=by
 rw[SX]
 unfold bD bZ iy
 by_cases h0:c.op=0
 ·simp[h0]
 by_cases h1:c.op=1
 ·simp[h1]
 by_cases h2:c.op=2
 ·simp[h2]
 by_cases h18:c.op=18
 ·simp[h18]
 by_cases h3:c.op=3
 ·simp[h3]
 by_cases h4:c.op=4
 ·simp[h4]
 by_cases h15:c.op=15
 ·simp[h15]
 by_cases h17:c.op=17
 ·simp[h17]
 by_cases h5:c.op=5
 ·simp[h5]
 by_cases h6:c.op=6
 ·simp[h6]
 by_cases h16:c.op=16
 ·simp[h16]
 by_cases h14:c.op=14
 ·simp[h14]
 by_cases h19:c.op=19
 ·simp[h19]
 simp[h0,h1,h2,h18,h3,h4,h15,h17,h5,h6,h16,h14,h19]
theorem se(c:aQ):SY (c.op,())=some (d4 c,()):=by
 rw[SY]
 unfold d4
 by_cases h12:c.op=12
 ·simp[h12]
 by_cases h13:c.op=13
 ·simp[h13]
 by_cases h14:c.op=14
 ·simp[h14]
 by_cases h15:c.op=15
 ·simp[h15]
 simp[h12,h13,h14,h15]
def cF(c:aQ)(h:Int):Int:=h-bD c+bZ c
def okS(c:aQ)(h:Int):Prop:=bD c<=h/\h<=64
instance (c:aQ) (h:Int):Decidable (okS c h):=by unfold okS;infer_instance
theorem t7(f:aC){at0:Nat}{c:aQ}(hc:f.code[at0]?=some c)(h:Int):Ec (f,(at0:Int),h,())=some (decide (okS c h),()):=by
 have h2:(0:Int)<=(at0:Int):=by omega
 rw[Ec]
 simp only[h2,adz,Z5,hc,zp,zg,Z1,ZY]
 rfl
def dq(at0:Int)(c:aQ)(h:Int):List (Int×Int):=
 if c.op=14 then[(c.a,cF c h)]
 else if c.op=17\/c.op=19 then[]
 else if c.op=15\/c.op=13 then[(at0+1,cF c h),(c.a,cF c h)]
 else if c.op=12 then[(at0+1,h),(c.a,h-1)]
 else[(at0+1,cF c h)]
theorem oN(c:aQ):0<=bZ c/\bZ c<=1:=by unfold bZ;split<;>omega
theorem OS(f:aC){at0:Nat}{c:aQ}(hc:f.code[at0]?=some c)(hl:at0<=4294967296)(h:Int)(h1:bD c<=h)(h2:h<=64)(h3:0<=bD c):
 H7 (f,(at0:Int),h,())=some ((dq (at0:Int) c h).map (λp=>[p.1,p.2]),()):=by
 have h0:(0:Int)<=(at0:Int):=by omega
 have lv:=oN c
 have w1:i64.wrap (h-bD c)=h-bD c:=w64 (by omega) (by omega)
 have w2:i64.wrap (h-bD c+bZ c)=h-bD c+bZ c:=w64 (by omega) (by omega)
 have w3:i64.wrap ((at0:Int)+1)=(at0:Int)+1:=w64 (by omega) (by omega)
 have w4:i64.wrap (h-1)=h-1:=w64 (by omega) (by omega)
 rw[H7]
 simp only[h0,adz,Z5,hc,zp,Z1,ZY,w1,w2]
 unfold dq cF
 by_cases h14:c.op=14
 ·simp[h14]
 by_cases h17:c.op=17
 ·simp[h17]
 by_cases h19:c.op=19
 ·simp[h19]
 by_cases h15:c.op=15
 ·simp[h15,w3]
 by_cases h13:c.op=13
 ·simp[h13,w3]
 by_cases h12:c.op=12
 ·simp[h12,w3,w4]
 simp[h14,h17,h19,h15,h13,h12,w3]
end Go.Proofs.YtcghbgmmgcljkaaGreatDoor
end
section
namespace Go.Proofs.YtcghbgmmgcljkaaGreatDoor
set_option maxRecDepth 20000
section
variable {κ ν:Type} {eq:κ->κ->Bool} (he:∀a b,eq a b=true↔a=b)
include he
variable [DecidableEq κ]
theorem yE(s x:κ)(y:ν):∀es:List (κ×ν),Mp.get eq s (Mp.put eq x y es)=if s=x then some y else Mp.get eq s es
 |[]=>by
  simp only[Mp.put,Mp.get,he]
 |p::r=>by
  simp only[Mp.put,he]
  by_cases h:x=p.1
  ·rw[adD h]
   simp only[Mp.get,he]
   by_cases h2:s=x
   ·rw[adD h2,adD h2]
   ·rw[adC h2,adC h2,adC (by rw[<-h];exact h2)]
  ·rw[adC h]
   simp only[Mp.get,he]
   by_cases h2:s=p.1
   ·rw[adD h2,adD h2,adC (by rw[h2];exactλe=>h e.symm)]
   ·rw[adC h2,adC h2]
    exact yE s x y r
theorem yD(lt:κ->κ->Bool)(s x:κ)(y:ν):∀es:List (κ×ν),es.any (λp=>eq x p.1)=false->Mp.get eq s (Mp.ins lt x y es)=if s=x then some y else Mp.get eq s es
 |[],_=>by simp only[Mp.ins,Mp.get,he]
 |p::r,h=>by
  rw[ab0,abg]at h
  have hx:¬x=p.1:=λe=>by have:=(he _ _).2 e;rw[h.1]at this;cases this
  rw[Mp.ins]
  split
  ·simp only[Mp.get,he]
  ·simp only[Mp.get,he]
   rw[yD lt s x y r h.2]
   by_cases h2:s=p.1
   ·rw[adD h2,adD h2,adC (by rw[h2];exactλe=>hx e.symm)]
   ·rw[adC h2,adC h2]
theorem kE(lt:κ->κ->Bool)(s x:κ)(y:ν)(es:List (κ×ν)):Mp.get eq s (Mp.set eq lt x y es)=if s=x then some y else Mp.get eq s es:=by
 unfold Mp.set
 split
 ·exact yE he s x y es
 ·rename_i h
  exact yD he lt s x y es (by cases hq:es.any (λp=>eq x p.1)with|true=>exact(h hq).elim|false=>rfl)
end
theorem r5{α:Type}{p q:α->Bool}:∀{l:List α},(∀x,p x=true->q x=true)->(∃x∈l,q x=true/\p x=false)->l.countP p<l.countP q
 |[],_,h=>by obtain⟨x,h,_⟩:=h;cases h
 |a::r,hpq,h=>by
  have hle:r.countP p<=r.countP q:=List.countP_mono_left λx _=>hpq x
  rw[List.countP_cons,List.countP_cons]
  obtain⟨x,hx,h1,h2⟩:=h
  rw[aai]at hx
  rcases hx with hx|hx
  ·subst hx;rw[h1,h2];simp;omega
  ·have ih:=r5 hpq ⟨x,hx,h1,h2⟩
   cases hp:p a
   ·simp;omega
   ·rw[hpq a hp];simp;omega
def box(n:Nat):List (Nat×Nat):=(abk n).flatMap λa=>(abk 66).map λh=>(a,h)
theorem Cq{n a h:Nat}(ha:a<n)(hh:h<66):(a,h)∈box n:=by
 unfold box
 rw[List.mem_flatMap]
 exact⟨a,List.mem_range.mpr ha,aav.mpr ⟨h,List.mem_range.mpr hh,rfl⟩⟩
inductive Reach (f:aC):Nat->Int->Prop
 |start:Reach f 0 0
 |step {a:Nat} {h:Int} {c:aQ} {b:Nat} {k:Int}:Reach f a h->f.code[a]?=some c->okS c h->((b:Int),k)∈dq (a:Int) c h->b<f.code.length->Reach f b k
def gY(f:aC):Prop:=
 ∃a h c,Reach f a h/\f.code[a]?=some c/\(¬okS c h\/(okS c h/\∃k,((f.code.length:Int),k)∈dq (a:Int) c h)\/∃h',Reach f a h'/\h'≠h)
theorem kZ{f:aC}(hf:1<=f.code.length){a:Nat}{h:Int}(r:Reach f a h):a<f.code.length:=by
 cases r with
 |start=>omega
 |step _ _ _ _ hb=>exact hb
theorem JH{l:List aC}{f:aC}{c:aQ}(hl:∀g∈l,0<=g.params)(hc:di l f c=true):0<=bD c:=by
 unfold bD
 by_cases h16:c.op=16
 ·unfold di at hc
  simp[h16]at hc
  cases hg:l[(cw l c.name0).toNat]? with
  |none=>rw[hg]at hc;simp at hc
  |some g=>
   rw[hg]at hc
   have hb:c.b=g.params:=by simpa using hc.2
   have:=hl g (Z_ hg)
   simp[h16];omega
 ·split
  ·omega
  ·split
   ·omega
   ·split
    ·omega
    ·split<;>omega
theorem xL{c:aQ}{at0 h b k:Int}(h0:0<=bD c)(hk:okS c h)(hw:(b,k)∈dq at0 c h):0<=k/\k<=65:=by
 have lv:=oN c
 obtain⟨h1,h2⟩:=hk
 have hn:0<=cF c h/\cF c h<=65:=by unfold cF;omega
 unfold dq at hw
 by_cases h14:c.op=14
 ·simp[h14]at hw;omega
 by_cases h17:c.op=17\/c.op=19
 ·simp[h14,h17]at hw
 by_cases h15:c.op=15\/c.op=13
 ·simp[h14,h17,h15]at hw
  rcases hw with hw|hw<;>omega
 by_cases h12:c.op=12
 ·have:bD c=1:=by unfold bD;simp[h12]
  simp[h12]at hw
  rcases hw with hw|hw<;>omega
 ·simp[h14,h17,h15,h12]at hw;omega
end Go.Proofs.YtcghbgmmgcljkaaGreatDoor
end
section
namespace Go.Proofs.YtcghbgmmgcljkaaGreatDoor
set_option maxRecDepth 20000
abbrev peq(x y:aZ):Bool:=Mp.ieq x.at0 y.at0&&Mp.ieq x.height y.height
theorem hO(a b:Int):Mp.ieq a b=true↔a=b:=by unfold Mp.ieq;simp
theorem Fb(a b:aZ):peq a b=true↔a=b:=by
 obtain⟨a1,a2⟩:=a
 obtain⟨b1,b2⟩:=b
 show(Mp.ieq a1 b1&&Mp.ieq a2 b2)=true↔_
 rw[Z8,hO,hO,aZ.mk.injEq]
instance:DecidableEq aZ:=λa b=>decidable_of_iff (peq a b=true) (Fb a b)
def has(m:List (aZ×Bool))(p:aZ):Bool:=(Mp.get peq p m).getD false
def Oc(m:List (aZ×Bool))(p:aZ):List (aZ×Bool):=Mp.set peq (λ_ _=>false) p true m
theorem oF(m:List (aZ×Bool))(p q:aZ):has (Oc m p) q=(decide (q=p)||has m q):=by
 unfold has Oc
 rw[kE Fb]
 by_cases h:q=p<;>simp[h]
def LG(n:Nat):List aZ:=(box n).map λx=>aZ.mk (x.1:Int) (x.2:Int)
theorem y9{n a:Nat}{h:Int}(ha:a<n)(h0:0<=h)(h1:h<=65):aZ.mk (a:Int) h∈LG n:=by
 unfold LG
 rw[aav]
 exact⟨(a,h.toNat),Cq ha (by omega),by show aZ.mk (a:Int) (h.toNat:Int)=_;rw[abG h0]⟩
def jX(n:Nat)(m:List (aZ×Bool)):Nat:=(LG n).countP λp=> !has m p
theorem Hn{n:Nat}{m:List (aZ×Bool)}{p:aZ}(hp:p∈LG n)(hm:has m p=false):jX n (Oc m p)<jX n m:=by
 unfold jX
 refine r5 ?_ ⟨p,hp,by rw[hm];rfl,by rw[oF];simp⟩
 intro x hx
 rw[oF]at hx
 cases h:has m x
 ·rfl
 ·rw[h]at hx;simp at hx
def lw(p:aZ)(m:List (aZ×Bool))(q:List aZ):List (aZ×Bool)×List aZ:=if has m p=true then(m,q)else(Oc m p,q++[p])
theorem KK(p:aZ)(m:List (aZ×Bool))(q:List aZ)(hq:q.length<4294967296):fK (p,m,q,())=some ((lw p m q).1,(lw p m q).2,()):=by
 rw[fK]
 unfold lw
 show(if(!(has m p))=true then _ else _)=_
 cases h:has m p
 ·simp only[aaZ,adz,Z0,adA,aa5]
  rw[adD (by omega)];rfl
 ·rfl
theorem iF(p:aZ)(m:List (aZ×Bool))(q:List aZ)(x:aZ):has (lw p m q).1 x=(decide (x=p)||has m x):=by
 unfold lw
 by_cases h:has m p=true
 ·rw[adD h]
  by_cases e:x=p
  ·rw[e,h];simp
  ·simp[e]
 ·rw[adC h];exact oF m p x
theorem Ce(p:aZ)(m:List (aZ×Bool))(q:List aZ)(x:aZ)(hx:has (lw p m q).1 x=true):has m x=true\/x∈(lw p m q).2:=by
 unfold lw at *
 by_cases h:has m p=true
 ·rw[adD h]at hx;exact .inl hx
 ·rw[adC h]at hx⊢
  rw[oF]at hx
  by_cases e:x=p
  ·right;simp[e]
  ·left;simpa[e]using hx
theorem vF(p:aZ)(m:List (aZ×Bool))(q:List aZ)(x:aZ)(hx:x∈q):x∈(lw p m q).2:=by
 unfold lw
 split
 ·exact hx
 ·exact abf _ hx
theorem vE(p:aZ)(m:List (aZ×Bool))(q:List aZ)(x:aZ)(hx:x∈(lw p m q).2):x∈q\/x=p:=by
 unfold lw at hx
 split at hx
 ·exact .inl hx
 ·rw[aa9,aaN]at hx;exact hx
theorem xR{n:Nat}(p:aZ)(m:List (aZ×Bool))(q:List aZ)(hp:p∈LG n):
 2 *jX n (lw p m q).1+(lw p m q).2.length<=2 *jX n m+q.length/\jX n (lw p m q).1+(lw p m q).2.length<=jX n m+q.length:=by
 unfold lw
 cases h:has m p
 ·have:=Hn hp h
  simp only[Z0,adA,aas,aa5]
  omega
 ·simp
def LB(a w:Int):Int:=if w<0\/a<w then a else w
theorem wE(a w:Int):gS (a,w,())=some (LB a w,()):=by
 rw[gS];unfold LB
 by_cases h1:w<0
 ·simp[h1]
 ·by_cases h2:a<w<;>simp[h1,h2]
theorem lK{a w:Int}(ha:0<=a):0<=LB a w:=by unfold LB;split<;>omega
end Go.Proofs.YtcghbgmmgcljkaaGreatDoor
end
section
namespace Go.Proofs.YtcghbgmmgcljkaaGreatDoor
open IntKind (i64)
set_option maxRecDepth 20000
def w1S(hm:List (Int×Int))(w:Int)(p:aZ):Int:=
 match Mp.get Mp.ieq p.at0 hm with
 |some h=>if h=p.height then w else LB p.at0 w
 |none=>w
def hmS(hm:List (Int×Int))(p:aZ):List (Int×Int):=Mp.set Mp.ieq Mp.ilt p.at0 p.height hm
def dp(c:aQ)(p:aZ)(m:List (aZ×Bool))(q:List aZ):List (aZ×Bool)×List aZ:=
 if d4 c=true then lw (aZ.mk c.a (if c.op=12 then cF c p.height-1 else cF c p.height)) m q else(m,q)
theorem Mg(p:aZ)(m:List (aZ×Bool))(q:List aZ):(lw p m q).2.length<=q.length+1:=by
 unfold lw
 split
 ·show q.length<=q.length+1;omega
 ·simp
theorem D4(f:aC)(hm:List (Int×Int))(w:Int)(m:List (aZ×Bool))(p:aZ)(q:List aZ){a:Nat}{c:aQ}(ha:p.at0=(a:Int))(hc:f.code[a]?=some c)
 (hp0:0<=p.height)(hp1:p.height<=65)(ht0:0<=bD c)(hq:q.length<4294967000)(hl:f.code.length<=4294967296)(hal:a<f.code.length):
 fc (f,hm,w,m,p::q,())=
  if okS c p.height then
   let j:=dp c p m q
   if iy c=true then
    if a+1=f.code.length then fc (f,hmS hm p,LB (a:Int) (w1S hm w p),j.1,j.2,())
    else
     let k:=lw (aZ.mk ((a+1:Nat):Int) (cF c p.height)) j.1 j.2
     fc (f,hmS hm p,w1S hm w p,k.1,k.2,())
   else fc (f,hmS hm p,w1S hm w p,j.1,j.2,())
  else fc (f,hmS hm p,LB (a:Int) (w1S hm w p),m,q,()):=by
 have lv:=oN c
 have h0:(0:Int)<=(a:Int):=by omega
 have l1:((q.length+1:Nat):Int)>0:=by omega
 have l2:(1:Int)<=((q.length+1:Nat):Int):=by omega
 conv=>lhs;rw[fc]
 simp only[aaa,l1,l2,adE,adz,aaz,true_and,aaB,aa4,Z1,ZY,ha,acK,aap,show aaq 1=1 from rfl]
 have hw1:w1S hm w p=match Mp.get Mp.ieq (a:Int) hm with|some h=>if h=p.height then w else LB (a:Int) w|none=>w:=by unfold w1S;rw[ha]
 have hhm:hmS hm p=Mp.set Mp.ieq Mp.ilt (a:Int) p.height hm:=by unfold hmS;rw[ha]
 rw[hw1,hhm]
 have en:i64.wrap (i64.wrap (p.height-bD c)+bZ c)=cF c p.height\/¬okS c p.height:=by
  by_cases hk:okS c p.height
  ·left
   obtain⟨k1,k2⟩:=hk
   rw[w64 (x:=p.height-bD c) (by omega) (by omega),w64 (by omega) (by omega)];rfl
  ·exact .inr hk
 have ea:i64.wrap ((a:Int)+1)=((a+1:Nat):Int):=by rw[w64 (by omega) (by omega)];omega
 have e12:cF c p.height-1=i64.wrap (cF c p.height-1)\/¬okS c p.height:=by
  by_cases hk:okS c p.height
  ·left
   obtain⟨k1,k2⟩:=hk
   unfold cF
   rw[w64 (by omega) (by omega)]
  ·exact .inr hk
 have hadd:∀(x:aZ),fK (x,m,q,())=some ((lw x m q).1,(lw x m q).2,()):=λx=>KK x m q (by omega)
 have hq2:(dp c p m q).2.length<=q.length+1:=by
  unfold dp
  split
  ·exact Mg _ m q
  ·show q.length<=q.length+1;omega
 have hadd2:∀(x:aZ),fK (x,(dp c p m q).1,(dp c p m q).2,())=some ((lw x (dp c p m q).1 (dp c p m q).2).1,(lw x (dp c p m q).1 (dp c p m q).2).2,()):=λx=>KK x _ _ (by omega)
 have hle:(((a+1:Nat):Int)==(f.code.length:Int))=decide (a+1=f.code.length):=by
  by_cases e:a+1=f.code.length
  ·simp[e]
  ·simp[e];omega
 cases hg:Mp.get Mp.ieq (a:Int) hm with
 |none=>
  simp only[Option.isSome_none,Z0,adA,ZY,ha,h0,adz,Z5,hc,xu,se,wE]
  by_cases hk:okS c p.height
  ·have k1:¬p.height<bD c:=by have:=hk.1;omega
   have k2:¬p.height>64:=by have:=hk.2;omega
   have en':=en.resolve_right (λh=>h hk)
   have e12':=e12.resolve_right (λh=>h hk)
   simp only[k1,k2,adF,Z0,adA,ZY,adD hk,en',ha]
   cases hj:d4 c
   ·have hjs:dp c p m q=(m,q):=by unfold dp;rw[hj];rfl
    simp only[Z0,adA,ZY,hjs,ha,ea,hle]
    cases hgo:iy c
    ·rfl
    ·simp only[aax,Z0,adA,adz,adB,ZY,hadd]
   ·have hjs:dp c p m q=lw (aZ.mk c.a (if c.op=12 then cF c p.height-1 else cF c p.height)) m q:=by unfold dp;rw[adD hj]
    rw[hjs]at hadd2
    rw[hjs]
    by_cases h12:c.op=12
    ·have h12':(c.op==12)=true:=by simpa using h12
     rw[adD h12]at hadd2⊢
     simp only[h12',adz,ZY,hadd,ha,ea,hle,<-e12']
     cases hgo:iy c
     ·rfl
     ·simp only[aax,Z0,adA,adz,adB,ZY,hadd2]
    ·have h12':(c.op==12)=false:=by simpa using h12
     rw[adC h12]at hadd2⊢
     simp only[h12',Z0,adA,adz,ZY,hadd,ha,ea,hle]
     cases hgo:iy c
     ·rfl
     ·simp only[aax,Z0,adA,adz,adB,ZY,hadd2]
  ·rw[adC hk]
   by_cases k1:p.height<bD c
   ·simp only[k1,adE,adz,ZY,ha]
   ·have k2:p.height>64:=by
     by_cases k2:p.height>64
     ·exact k2
     ·exact absurd ⟨by omega,by omega⟩ hk
    simp only[k1,k2,adE,adF,Z0,adA,adz,ZY,ha]
 |some h=>
  by_cases heq:h=p.height
  ·have hb:(h !=p.height)=false:=by simpa using heq
   simp only[acq,adz,abc,ZY,hb,Z0,adA,ha,h0,Z5,hc,xu,se,wE,adD heq]
   by_cases hk:okS c p.height
   ·have k1:¬p.height<bD c:=by have:=hk.1;omega
    have k2:¬p.height>64:=by have:=hk.2;omega
    have en':=en.resolve_right (λh=>h hk)
    have e12':=e12.resolve_right (λh=>h hk)
    simp only[k1,k2,adF,Z0,adA,ZY,adD hk,en',ha]
    cases hj:d4 c
    ·have hjs:dp c p m q=(m,q):=by unfold dp;rw[hj];rfl
     simp only[Z0,adA,ZY,hjs,ha,ea,hle]
     cases hgo:iy c
     ·rfl
     ·simp only[aax,Z0,adA,adz,adB,ZY,hadd]
    ·have hjs:dp c p m q=lw (aZ.mk c.a (if c.op=12 then cF c p.height-1 else cF c p.height)) m q:=by unfold dp;rw[adD hj]
     rw[hjs]at hadd2
     rw[hjs]
     by_cases h12:c.op=12
     ·have h12':(c.op==12)=true:=by simpa using h12
      rw[adD h12]at hadd2⊢
      simp only[h12',adz,ZY,hadd,ha,ea,hle,<-e12']
      cases hgo:iy c
      ·rfl
      ·simp only[aax,Z0,adA,adz,adB,ZY,hadd2]
     ·have h12':(c.op==12)=false:=by simpa using h12
      rw[adC h12]at hadd2⊢
      simp only[h12',Z0,adA,adz,ZY,hadd,ha,ea,hle]
      cases hgo:iy c
      ·rfl
      ·simp only[aax,Z0,adA,adz,adB,ZY,hadd2]
   ·rw[adC hk]
    by_cases k1:p.height<bD c
    ·simp only[k1,adE,adz,ZY,ha]
    ·have k2:p.height>64:=by
      by_cases k2:p.height>64
      ·exact k2
      ·exact absurd ⟨by omega,by omega⟩ hk
     simp only[k1,k2,adE,adF,Z0,adA,adz,ZY,ha]
  ·have hb:(h !=p.height)=true:=by simpa using heq
   simp only[acq,adz,abc,ZY,hb,ha,h0,Z5,hc,xu,se,wE,adC heq]
   by_cases hk:okS c p.height
   ·have k1:¬p.height<bD c:=by have:=hk.1;omega
    have k2:¬p.height>64:=by have:=hk.2;omega
    have en':=en.resolve_right (λh=>h hk)
    have e12':=e12.resolve_right (λh=>h hk)
    simp only[k1,k2,adF,Z0,adA,ZY,adD hk,en',ha]
    cases hj:d4 c
    ·have hjs:dp c p m q=(m,q):=by unfold dp;rw[hj];rfl
     simp only[Z0,adA,ZY,hjs,ha,ea,hle]
     cases hgo:iy c
     ·rfl
     ·simp only[aax,Z0,adA,adz,adB,ZY,hadd]
    ·have hjs:dp c p m q=lw (aZ.mk c.a (if c.op=12 then cF c p.height-1 else cF c p.height)) m q:=by unfold dp;rw[adD hj]
     rw[hjs]at hadd2
     rw[hjs]
     by_cases h12:c.op=12
     ·have h12':(c.op==12)=true:=by simpa using h12
      rw[adD h12]at hadd2⊢
      simp only[h12',adz,ZY,hadd,ha,ea,hle,<-e12']
      cases hgo:iy c
      ·rfl
      ·simp only[aax,Z0,adA,adz,adB,ZY,hadd2]
     ·have h12':(c.op==12)=false:=by simpa using h12
      rw[adC h12]at hadd2⊢
      simp only[h12',Z0,adA,adz,ZY,hadd,ha,ea,hle]
      cases hgo:iy c
      ·rfl
      ·simp only[aax,Z0,adA,adz,adB,ZY,hadd2]
   ·rw[adC hk]
    by_cases k1:p.height<bD c
    ·simp only[k1,adE,adz,ZY,ha]
    ·have k2:p.height>64:=by
      by_cases k2:p.height>64
      ·exact k2
      ·exact absurd ⟨by omega,by omega⟩ hk
     simp only[k1,k2,adE,adF,Z0,adA,adz,ZY,ha]
end Go.Proofs.YtcghbgmmgcljkaaGreatDoor
end
section
namespace Go.Proofs.YtcghbgmmgcljkaaGreatDoor
set_option maxRecDepth 20000
def Ws(f:aC)(hm:List (Int×Int))(m:List (aZ×Bool))(x:aZ):Prop:=
 ∃(a:Nat) (c:aQ),x.at0=(a:Int)/\f.code[a]?=some c/\Mp.get Mp.ieq x.at0 hm=some x.height/\okS c x.height/\∀b k,(b,k)∈dq (a:Int) c x.height->b≠(f.code.length:Int)/\has m (aZ.mk b k)=true
structure Inv (f:aC) (hm:List (Int×Int)) (w:Int) (m:List (aZ×Bool)) (q:List aZ):Prop where
 reach:∀x,has m x=true->∃a:Nat,x.at0=(a:Int)/\Reach f a x.height
 queue:∀x∈q,has m x=true
 done:w<0->∀x,has m x=true->x∈q\/Ws f hm m x
 fault:0<=w->gY f
 hms:∀a h,Mp.get Mp.ieq a hm=some h->∃n:Nat,a=(n:Int)/\Reach f n h
 zero:has m (aZ.mk 0 0)=true
theorem ni{f:aC}{hm:List (Int×Int)}{w:Int}{m:List (aZ×Bool)}{p:aZ}{q:List aZ}(I:Inv f hm w m (p::q)){a:Nat}{c:aQ}(ha:p.at0=(a:Int))(hc:f.code[a]?=some c)
 {w':Int}{m':List (aZ×Bool)}{q':List aZ}
 (W1:0<=w->0<=w')(W2:0<=w'->gY f)
 (W3:w'<0->okS c p.height/\(∀h,Mp.get Mp.ieq p.at0 hm=some h->h=p.height)/\∀b k,(b,k)∈dq (a:Int) c p.height->b≠(f.code.length:Int)/\has m' (aZ.mk b k)=true)
 (M1:∀x,has m x=true->has m' x=true)(M2:∀x,has m' x=true->has m x=true\/(x∈q'/\∃b:Nat,x.at0=(b:Int)/\Reach f b x.height))
 (M3:∀x∈q',has m' x=true)(M5:∀x∈q,x∈q'):Inv f (hmS hm p) w' m' q' where
 reach x hx:=by
  rcases M2 x hx with h|h
  ·exact I.reach x h
  ·exact h.2
 queue:=M3
 done hw x hx:=by
  have hw0:w<0:=by
   by_cases h:0<=w
   ·have:=W1 h;omega
   ·omega
  obtain⟨k1,k2,k3⟩:=W3 hw
  rcases M2 x hx with h|h
  ·rcases I.done hw0 x h with hq|⟨a',c',e1,e2,e3,e4,e5⟩
   ·rw[aai]at hq
    rcases hq with hq|hq
    ·subst hq
     refine .inr ⟨a,c,ha,hc,?_,k1,k3⟩
     unfold hmS;rw[kE hO,adD rfl]
    ·exact .inl (M5 x hq)
   ·refine .inr ⟨a',c',e1,e2,?_,e4,λb k hb=>⟨(e5 b k hb).1,M1 _ (e5 b k hb).2⟩⟩
    unfold hmS
    rw[kE hO]
    by_cases e:x.at0=p.at0
    ·rw[adD e]
     rw[e]at e3
     rw[k2 _ e3]
    ·rw[adC e];exact e3
  ·exact .inl h.1
 fault:=W2
 hms b h hb:=by
  unfold hmS at hb
  rw[kE hO]at hb
  by_cases e:b=p.at0
  ·rw[adD e,Z2]at hb
   subst hb
   have:=I.reach p (I.queue p (aag ..))
   rw[e];exact this
  ·rw[adC e]at hb
   exact I.hms b h hb
 zero:=M1 _ I.zero
theorem MX{f:aC}{hm:List (Int×Int)}{w:Int}{m:List (aZ×Bool)}(I:Inv f hm w m []):0<=w↔gY f:=by
 refine⟨I.fault,λF=> ?_⟩
 by_cases hw:0<=w
 ·exact hw
 ·exfalso
  have all:∀a h,Reach f a h->has m (aZ.mk (a:Int) h)=true:=by
   intro a h r
   induction r with
   |start=>exact I.zero
   |step r hc hk hw' hb ih=>
    rcases I.done (by omega) _ ih with h|⟨a',c',e1,e2,e3,e4,e5⟩
    ·cases h
    ·have ea:a'=_:=(adi e1).symm
     subst ea
     rw[hc,Z2]at e2
     subst e2
     exact(e5 _ _ hw').2
  have dn:∀a h,Reach f a h->Ws f hm m (aZ.mk (a:Int) h):=by
   intro a h r
   rcases I.done (by omega) _ (all a h r)with h|h
   ·cases h
   ·exact h
  obtain⟨a,h,c,r,hc,hF⟩:=F
  obtain⟨a',c',e1,e2,e3,e4,e5⟩:=dn a h r
  have ea:a'=a:=(adi e1).symm
  subst ea
  rw[hc,Z2]at e2
  subst e2
  rcases hF with hF|⟨_,k,hF⟩|⟨h',r',hF⟩
  ·exact hF e4
  ·exact(e5 _ _ hF).1 rfl
  ·obtain⟨_,_,_,_,e3',_,_⟩:=dn a' h' r'
   have e3'':Mp.get Mp.ieq (a':Int) hm=some h:=e3
   have e4'':Mp.get Mp.ieq (a':Int) hm=some h':=e3'
   rw[e3'',Z2]at e4''
   exact hF e4''.symm
end Go.Proofs.YtcghbgmmgcljkaaGreatDoor
end
section
namespace Go.Proofs.YtcghbgmmgcljkaaGreatDoor
set_option maxRecDepth 20000
def O8(c:aQ)(h:Int):Int:=if c.op=12 then cF c h-1 else cF c h
theorem cU{at0:Int}{c:aQ}{h b k:Int}:(b,k)∈dq at0 c h↔(d4 c=true/\b=c.a/\k=O8 c h)\/(iy c=true/\b=at0+1/\k=cF c h):=by
 unfold dq d4 iy O8
 by_cases h14:c.op=14
 ·simp[h14]
 by_cases h17:c.op=17
 ·simp[h17]
 by_cases h19:c.op=19
 ·simp[h19]
 by_cases h15:c.op=15
 ·simp[h15,or_comm]
 by_cases h13:c.op=13
 ·simp[h13,or_comm]
 by_cases h12:c.op=12
 ·have e:cF c h=h:=by unfold cF bD bZ;simp[h12]
  simp[h12,e,or_comm]
 simp[h14,h17,h19,h15,h13,h12]
def vB(f:aC):Prop:=1<=f.code.length/\f.code.length<=3000/\∀c∈f.code,0<=bD c/\(d4 c=true->∃b:Nat,c.a=(b:Int)/\b<f.code.length)
theorem w9{f:aC}(S:vB f){a:Nat}{h:Int}(r:Reach f a h):0<=h/\h<=65:=by
 cases r with
 |start=>omega
 |step _ hc hk hw _=>exact xL (S.2.2 _ (Z_ hc)).1 hk hw
theorem iV{f:aC}(S:vB f):∀(N:Nat) (hm:List (Int×Int)) (w:Int) (m:List (aZ×Bool)) (q:List aZ),2 *jX f.code.length m+q.length<=N->jX f.code.length m+q.length<=4294960000->Inv f hm w m q->
 ∃w' m',fc (f,hm,w,m,q,())=some (w',m',())/\(0<=w'↔gY f)
 |N,hm,w,m,[],hN,hB,I=>by
  refine⟨w,m,?_,MX I⟩
  rw[fc]
  simp
 |0,hm,w,m,p::q,hN,hB,I=>by simp at hN
 |N+1,hm,w,m,p::q,hN,hB,I=>by
  obtain⟨a,ha,r⟩:=I.reach p (I.queue p (aag ..))
  have hal:=kZ S.1 r
  obtain⟨c,hc⟩:∃c,f.code[a]?=some c:=⟨_,Z3 hal⟩
  obtain⟨t0,tj⟩:=S.2.2 c (Z_ hc)
  obtain⟨p0,p1⟩:=w9 S r
  rw[aaa]at hN hB
  have a0:(0:Int)<=(a:Int):=by omega
  have c1:0<=w->0<=w1S hm w p:=by
   intro h;unfold w1S
   split
   ·split
    ·exact h
    ·rw[ha];exact lK a0
   ·exact h
  have c2:0<=w1S hm w p->gY f:=by
   intro h;unfold w1S at h
   split at h
   ·rename_i h' hg
    split at h
    ·exact I.fault h
    ·rename_i hne
     obtain⟨n,e,r'⟩:=I.hms _ _ hg
     have en:n=a:=by rw[ha]at e;exact(adi e).symm
     subst en
     exact⟨n,p.height,c,r,hc, .inr (.inr ⟨h',r',hne⟩)⟩
   ·exact I.fault h
  have c3:w1S hm w p<0->∀h,Mp.get Mp.ieq p.at0 hm=some h->h=p.height:=by
   intro hw h hg;unfold w1S at hw
   rw[hg]at hw
   simp only at hw
   split at hw
   ·assumption
   ·rw[ha]at hw;have:=lK (w:=w) a0;omega
  rw[D4 f hm w m p q ha hc p0 p1 t0 (by omega) (by have:=S.2.1;omega) hal]
  by_cases hk:okS c p.height
  ·rw[adD hk]
   have J1:∀x,has m x=true->has (dp c p m q).1 x=true:=by
    intro x hx;unfold dp
    split
    ·rw[iF,hx];simp
    ·exact hx
   have J2:∀x,has (dp c p m q).1 x=true->has m x=true\/(x∈(dp c p m q).2/\∃b:Nat,x.at0=(b:Int)/\Reach f b x.height):=by
    intro x hx
    unfold dp at hx⊢
    by_cases hj:d4 c=true
    ·rw[adD hj]at hx⊢
     rcases Ce _ _ _ _ hx with h|h
     ·exact .inl h
     ·by_cases hm0:has m x=true
      ·exact .inl hm0
      ·right
       rw[iF]at hx
       have e:x=aZ.mk c.a (if c.op=12 then cF c p.height-1 else cF c p.height):=by
        cases hh:has m x
        ·rw[hh]at hx;simpa using hx
        ·exact absurd hh hm0
       refine⟨h,?_⟩
       obtain⟨b,eb,hb⟩:=tj hj
       rw[e]
       exact⟨b,eb,Reach.step r hc hk (cU.mpr (.inl ⟨hj,eb.symm,rfl⟩)) hb⟩
    ·rw[adC hj]at hx;exact .inl hx
   have J3:∀x∈(dp c p m q).2,has (dp c p m q).1 x=true:=by
    intro x hx
    unfold dp at hx⊢
    by_cases hj:d4 c=true
    ·rw[adD hj]at hx⊢
     rw[iF]
     rcases vE _ _ _ _ hx with h|h
     ·rw[I.queue x (aab _ h)];simp
     ·simp[h]
    ·rw[adC hj]at hx⊢;exact I.queue x (aab _ hx)
   have J5:∀x∈q,x∈(dp c p m q).2:=by
    intro x hx;unfold dp
    split
    ·exact vF _ _ _ _ hx
    ·exact hx
   have J6:d4 c=true->has (dp c p m q).1 (aZ.mk c.a (O8 c p.height))=true:=by
    intro hj;unfold dp;rw[adD hj,iF];simp[O8]
   have J7:2 *jX f.code.length (dp c p m q).1+(dp c p m q).2.length<=2 *jX f.code.length m+q.length/\jX f.code.length (dp c p m q).1+(dp c p m q).2.length<=jX f.code.length m+q.length:=by
    unfold dp
    by_cases hj:d4 c=true
    ·rw[adD hj]
     obtain⟨b,eb,hb⟩:=tj hj
     have hh:=xL (at0:=(a:Int)) (b:=c.a) (k:=O8 c p.height) t0 hk (cU.mpr (.inl ⟨hj,rfl,rfl⟩))
     refine xR _ m q ?_
     rw[eb]
     exact y9 hb hh.1 hh.2
    ·rw[adC hj];exact⟨aat _,aat _⟩
   simp only[]
   by_cases hg:iy c=true
   ·rw[adD hg]
    by_cases hend:a+1=f.code.length
    ·rw[adD hend]
     refine iV S N _ _ _ _ (by omega) (by omega) (ni I ha hc (λ_=>lK a0) (λ_=> ?_) (λh=> ?_) J1 J2 J3 J5)
     ·exact⟨a,p.height,c,r,hc, .inr (.inl ⟨hk,cF c p.height,cU.mpr (.inr ⟨hg,by omega,rfl⟩)⟩)⟩
     ·have:=lK (w:=w1S hm w p) a0;omega
    ·rw[adC hend]
     have hh:=xL (at0:=(a:Int)) (b:=(a:Int)+1) (k:=cF c p.height) t0 hk (cU.mpr (.inr ⟨hg,rfl,rfl⟩))
     have sz:=xR (n:=f.code.length) (aZ.mk ((a+1:Nat):Int) (cF c p.height)) (dp c p m q).1 (dp c p m q).2 (y9 (by omega) hh.1 hh.2)
     refine iV S N _ _ _ _ (by omega) (by omega) (ni I ha hc c1 c2 (λh=>⟨hk,c3 h,?_⟩) ?_ ?_ ?_ ?_)
     ·intro b k hw
      rcases cU.mp hw with⟨h1,h2,h3⟩|⟨h1,h2,h3⟩
      ·obtain⟨b',eb,hb⟩:=tj h1
       refine⟨by omega,?_⟩
       rw[iF,h2,h3,J6 h1];simp
      ·refine⟨by omega,?_⟩
       rw[iF,h2,h3]
       simp
     ·intro x hx;rw[iF,J1 x hx];simp
     ·intro x hx
      rcases Ce _ _ _ _ hx with h|h
      ·rcases J2 x h with h|⟨h,h'⟩
       ·exact .inl h
       ·exact .inr ⟨vF _ _ _ _ h,h'⟩
      ·rcases vE _ _ _ _ h with h'|h'
       ·rcases J2 x (J3 x h')with h2|⟨_,h2⟩
        ·exact .inl h2
        ·exact .inr ⟨h,h2⟩
       ·refine .inr ⟨h,?_⟩
        rw[h']
        exact⟨a+1,rfl,Reach.step r hc hk (cU.mpr (.inr ⟨hg,by omega,rfl⟩)) (by omega)⟩
     ·intro x hx
      rw[iF]
      rcases vE _ _ _ _ hx with h|h
      ·rw[J3 x h];simp
      ·simp[h]
     ·intro x hx;exact vF _ _ _ _ (J5 x hx)
   ·rw[adC hg]
    refine iV S N _ _ _ _ (by omega) (by omega) (ni I ha hc c1 c2 (λh=>⟨hk,c3 h,?_⟩) J1 J2 J3 J5)
    intro b k hw
    rcases cU.mp hw with⟨h1,h2,h3⟩|⟨h1,h2,h3⟩
    ·obtain⟨b',eb,hb⟩:=tj h1
     refine⟨by omega,?_⟩
     rw[h2,h3];exact J6 h1
    ·exact absurd h1 hg
  ·rw[adC hk]
   refine iV S N _ _ _ _ (by omega) (by omega) (ni I ha hc (λ_=>lK a0) (λ_=>⟨a,p.height,c,r,hc, .inl hk⟩) (λh=> ?_) (λ_ h=>h) (λ_ h=> .inl h) (λx hx=>I.queue x (aab _ hx)) (λ_ h=>h))
   have:=lK (w:=w1S hm w p) a0;omega
end Go.Proofs.YtcghbgmmgcljkaaGreatDoor
end
section
namespace Go.Proofs.YtcghbgmmgcljkaaGreatDoor
set_option maxRecDepth 20000
theorem Nc(n:Nat)(m:List (aZ×Bool)):jX n m<=66 *n:=by
 have h1:jX n m<=(LG n).length:=acC
 have h2:(LG n).length=66 *n:=by
  unfold LG box
  rw[Z7,adm]
  have:∀k:Nat,((abk k).map λa=>((abk 66).map λh=>(a,h)).length).sum=66 *k:=by
   intro k
   induction k with
   |zero=>rfl
   |succ k ih=>rw[List.range_succ (n:=k),aaV,List.sum_append,ih];simp;omega
  exact this n
 omega
theorem Nf{f:aC}(S:vB f):∃w m,SS (f,())=some (w,m,())/\(0<=w↔gY f):=by
 have hs:=oF [] (aZ.mk 0 0)
 have hn:∀x,has [] x=false:=λ_=>rfl
 have I:Inv f [] (-1) (Oc [] (aZ.mk 0 0)) [aZ.mk 0 0]:=
  { reach:=λx hx=>by
     rw[hs,hn,Bool.or_false,adB]at hx
     rw[hx];exact⟨0,rfl,Reach.start⟩
    queue:=λx hx=>by
     rw[aaN]at hx
     rw[hs,hx];simp
    done:=λ_ x hx=>by
     rw[hs,hn,Bool.or_false,adB]at hx
     left;rw[hx];exact aaN.mpr rfl
    fault:=λh=>by omega
    hms:=λa h hb=>by cases hb
    zero:=by rw[hs];simp}
 have hl:=Nc f.code.length (Oc [] (aZ.mk 0 0))
 have:=S.2.1
 obtain⟨w,m,h,hF⟩:=iV S _ [] (-1) (Oc [] (aZ.mk 0 0)) [aZ.mk 0 0] (aat _) (by rw[aa5];omega) I
 rw[SS]
 have e:fc (f,[],(-1:Int),Mp.set (λx y=>Mp.ieq x.at0 y.at0&&Mp.ieq x.height y.height) (λx x_1=>false) (aZ.mk 0 0) true [],[aZ.mk 0 0],())=some (w,m,()):=h
 rw[e]
 exact⟨w,m,rfl,hF⟩
end Go.Proofs.YtcghbgmmgcljkaaGreatDoor
end
section
namespace Go.Proofs.YtcghbgmmgcljkaaGreatDoor
set_option maxRecDepth 20000
theorem qF(f:aC)(n:Nat)(hn:n<=3000):∀(j k:Nat),k+j=n->
 iZ ((k:Int),f,aak k (some [])++aak j none,())=some (f,aak n (some []),())
 |0,k,h=>by
  rw[iZ]
  have e:k=n:=by omega
  simp[e]
 |j+1,k,h=>by
  have h1:(k:Int)<((k+(j+1):Nat):Int):=by omega
  have h2:(0:Int)<=(k:Int):=by omega
  have h3:k<k+(j+1):=by omega
  have w:IntKind.i64.wrap ((k:Int)+1)=((k+1:Nat):Int):=by rw[w64 (by omega) (by omega)];omega
  have ih:=qF f n hn j (k+1) (by omega)
  have e:(aak k (some ([]:List (Int×Bool)))++aak (j+1) none).set k (some [])=aak (k+1) (some [])++aak j none:=by
   rw[acA _ _ (by simp),aaP,Nat.sub_self,List.replicate_succ (n:=j),List.set_cons_zero,List.replicate_succ',abj]
   rfl
  rw[iZ]
  simp only[aas,aaP,h1,h2,h3,adE,adz,and_self,Z5,show¬24=1004 by decide,not_false_eq_true,w,e]
  exact ih
def E7(n:Int)(P:List (Int×Int)):Bool:=P.any λp=>decide (p.1>=n)
def inR(n:Int)(P:List (Int×Int)):List (List Int):=(P.filter λp=>decide (p.1<n)).map λp=>[p.1,p.2]
theorem pQ(f:aC)(a:Nat)(P:List (Int×Int))(hP:P.length<=100)(seen:List (Option (List (Int×Bool)))):∀(j k:Nat) (out:List Bool) (q:List (List Int)),k+j=P.length->a<out.length->q.length+j<4294967296->
 gq ((a:Int),P.map (λp=>[p.1,p.2]),(k:Int),f,seen,out,q,())=some (f,seen,if E7 (f.code.length:Int) (P.drop k)=true then out.set a true else out,q++inR (f.code.length:Int) (P.drop k),())
 |0,k,out,q,h,ha,hq=>by
  rw[gq,cu (by omega)]
  have:¬(k:Int)<((P.map (λp=>[p.1,p.2])).length:Int):=by rw[Z7];omega
  simp only[this,adF,Z0,adA]
  simp[E7,inR]
 |j+1,k,out,q,h,ha,hq=>by
  obtain⟨x,hx,hm,hd⟩:=bK (l:=P) (k:=k) (by omega)
  have h1:(k:Int)<((P.map (λp=>[p.1,p.2])).length:Int):=by rw[Z7];omega
  have h2:(0:Int)<=(k:Int):=by omega
  have h3:(0:Int)<=(a:Int):=by omega
  have h4:(a:Int)<(out.length:Int):=by omega
  have w:IntKind.i64.wrap ((k:Int)+1)=((k+1:Nat):Int):=by rw[w64 (by omega) (by omega)];omega
  have hx':(P.map (λp=>[p.1,p.2]))[k]?=some [x.1,x.2]:=by rw[Z6,hx];rfl
  have e0:[x.1,x.2][aaq 0]?=some x.1:=rfl
  rw[gq,hd]
  simp only[h1,h2,adE,adz,Z5,hx',e0,Z1,ZY]
  by_cases hb:x.1>=(f.code.length:Int)
  ·have ih:=pQ f a P hP seen j (k+1) (out.set a true) q (by omega) (by rw[aaR];exact ha) (by omega)
   have hb':¬x.1<(f.code.length:Int):=by omega
   simp only[hb,adE,adz,h3,h4,and_self,Z3 ha,ZY,w,ih]
   have e1:E7 (f.code.length:Int) (x::P.drop (k+1))=true:=by unfold E7;rw[ab0,decide_eq_true hb,acs]
   have e2:inR (f.code.length:Int) (x::P.drop (k+1))=inR (f.code.length:Int) (P.drop (k+1)):=by
    unfold inR;rw[List.filter_cons_of_neg (by simpa using hb)]
   rw[adD e1,e2,List.set_set]
   simp
  ·have ih:=pQ f a P hP seen j (k+1) out (q++[[x.1,x.2]]) (by omega) ha (by simp;omega)
   have hb':x.1<(f.code.length:Int):=by omega
   simp only[hb,adF,Z0,adA,aa5]
   rw[adD (by omega)]
   simp only[ZY,w,ih]
   have e1:E7 (f.code.length:Int) (x::P.drop (k+1))=E7 (f.code.length:Int) (P.drop (k+1)):=by unfold E7;rw[ab0,decide_eq_false hb,ab1]
   have e2:inR (f.code.length:Int) (x::P.drop (k+1))=[x.1,x.2]::inR (f.code.length:Int) (P.drop (k+1)):=by
    unfold inR;rw[List.filter_cons_of_pos (by simpa using hb')];rfl
   rw[e1,e2]
   simp
end Go.Proofs.YtcghbgmmgcljkaaGreatDoor
end
section
namespace Go.Proofs.YtcghbgmmgcljkaaGreatDoor
set_option maxRecDepth 20000
def mS(M:List (List (Int×Bool)))(a:Nat)(h:Int):Bool:=match M[a]? with|some m=>(Mp.get Mp.ieq h m).getD false|none=>false
def B_(M:List (List (Int×Bool)))(a:Nat)(h:Int):List (List (Int×Bool)):=match M[a]? with|some m=>M.set a (Mp.set Mp.ieq Mp.ilt h true m)|none=>M
theorem sb{M:List (List (Int×Bool))}{a:Nat}(ha:a<M.length)(h:Int)(b:Nat)(k:Int):mS (B_ M a h) b k=(decide (b=a/\k=h)||mS M b k):=by
 unfold B_
 rw[Z3 ha]
 unfold mS
 by_cases e:b=a
 ·subst e
  simp only[ach ha,Z3 ha,kE hO]
  by_cases e2:k=h<;>simp[e2]
 ·simp only[ab6 (λx=>e x.symm)]
  simp[e]
theorem zd(M:List (List (Int×Bool)))(a:Nat)(h:Int):(B_ M a h).length=M.length:=by
 unfold B_;split
 ·exact aaR
 ·rfl
def zM(m:List (Int×Bool)):Prop:=(m.map Prod.fst).Nodup/\∀e∈m,e.2=true
theorem Hd{m:List (Int×Bool)}(g:zM m){h:Int}(hh:(Mp.get Mp.ieq h m).getD false=false):zM (Mp.set Mp.ieq Mp.ilt h true m):=by
 have hnone:∀(m:List (Int×Bool)),(∀e∈m,e.2=true)->(Mp.get Mp.ieq h m).getD false=false->∀e∈m,e.1≠h:=by
  intro m
  induction m with
  |nil=>intro _ _ e he;cases he
  |cons x r ih=>
   intro hv hg e he
   simp only[Mp.get,hO]at hg
   by_cases hx:h=x.1
   ·rw[adD hx,hv x (aag ..)]at hg;cases hg
   ·rw[adC hx]at hg
    rw[aai]at he
    rcases he with he|he
    ·rw[he];exactλe=>hx e.symm
    ·exact ih (λe he=>hv e (aab _ he)) hg e he
 have hno:=hnone m g.2 hh
 have ins:∀(m:List (Int×Bool)),(Mp.ins Mp.ilt h true m).Perm ((h,true)::m):=by
  intro m
  induction m with
  |nil=>exact List.Perm.refl _
  |cons x r ih=>
   rw[Mp.ins]
   split
   ·exact List.Perm.refl _
   ·exact(ih.cons x).trans (List.Perm.swap ..)
 unfold Mp.set
 split
 ·rename_i ha
  rw[aa1]at ha
  obtain⟨e,he,e2⟩:=ha
  exact absurd ((hO _ _).mp e2).symm (hno e he)
 ·have p:=ins m
  refine⟨?_,λe he=> ?_⟩
  ·rw[(p.map Prod.fst).nodup_iff,aac,acG]
   refine⟨λhm=> ?_,g.1⟩
   rw[aav]at hm
   obtain⟨e,he,e2⟩:=hm
   exact hno e he e2
  ·have:=p.mem_iff.mp he
   rw[aai]at this
   rcases this with e1|e1
   ·rw[e1]
   ·exact g.2 e e1
theorem tX{M:List (List (Int×Bool))}(g:∀m∈M,zM m){a:Nat}{h:Int}(hs:mS M a h=false):∀m∈B_ M a h,zM m:=by
 intro m hm
 unfold B_ at hm
 unfold mS at hs
 cases hx:M[a]? with
 |none=>rw[hx]at hm;exact g m hm
 |some x=>
  rw[hx]at hm hs
  simp only at hm hs
  rcases acW hm with h1|h1
  ·exact g m h1
  ·rw[h1];exact Hd (g x (Z_ hx)) hs
theorem E8{f:aC}(S:vB f)(M:List (List (Int×Bool)))(hM:M.length=f.code.length)(out:List Bool)(ho:out.length=f.code.length)(a:Nat)(h:Int)(q:List (List Int)){c:aQ}(hc:f.code[a]?=some c)(hal:a<f.code.length)(hq:q.length<4294967000):
 eG (f,M.map some,out,[(a:Int),h]::q,())=
  if mS M a h=true then eG (f,M.map some,out,q,())
  else if okS c h then eG (f,(B_ M a h).map some,if E7 (f.code.length:Int) (dq (a:Int) c h)=true then out.set a true else out,q++inR (f.code.length:Int) (dq (a:Int) c h),())
  else eG (f,(B_ M a h).map some,out,q,()):=by
 have haM:a<M.length:=by omega
 have h0:(0:Int)<=(a:Int):=by omega
 have h1:(a:Int)<((M.map some).length:Int):=by rw[Z7];omega
 have l1:((q.length+1:Nat):Int)>0:=by omega
 have l2:(1:Int)<=((q.length+1:Nat):Int):=by omega
 have g0:[(a:Int),h][(0/1:Nat)]?=some (a:Int):=rfl
 have g1:[(a:Int),h][(1/1:Nat)]?=some h:=rfl
 have gm:(M.map some)[a]?=some (some M[a]):=by rw[Z6,Z3 haM];rfl
 have hp:(M.map some).set a (some (Mp.set Mp.ieq Mp.ilt h true M[a]))=(B_ M a h).map some:=by
  unfold B_;rw[Z3 haM,abD]
 have hh:mS M a h=(Mp.get Mp.ieq h M[a]).getD false:=by unfold mS;rw[Z3 haM]
 conv=>lhs;rw[eG]
 simp only[aaa,l1,l2,adE,adz,aaz,aaB,aa4,Z1,ZY,g0,g1,h0,h1,and_self,Z5,gm,acK,aap,show aaq 1=1 from rfl,hp,<-hh,t7 f hc]
 cases mS M a h
 ·simp only[Z0,adA]
  by_cases hk:okS c h
  ·obtain⟨k1,k2⟩:=hk
   have hk:okS c h:=⟨k1,k2⟩
   have t0:=(S.2.2 c (Z_ hc)).1
   have wl:(dq (a:Int) c h).length<=2:=by
    unfold dq;repeat' split
    all_goals simp
   have wo:=OS f hc (by have:=S.2.1;omega) h k1 k2 t0
   have lp:=pQ f a (dq (a:Int) c h) (by omega) ((B_ M a h).map some) _ 0 out q (Z9 _) (by omega) (by omega)
   rw[aao,aap]at lp
   simp only[hk,adE,aax,Z0,adA,wo,lp,ZY,adz]
  ·simp only[hk,adF,aaZ,adz,adA]
 ·simp
end Go.Proofs.YtcghbgmmgcljkaaGreatDoor
end
section
namespace Go.Proofs.YtcghbgmmgcljkaaGreatDoor
set_option maxRecDepth 20000
def wA(n:Nat)(M:List (List (Int×Bool))):Nat:=(box n).countP λp=> !mS M p.1 (p.2:Int)
theorem DX{n a:Nat}{M:List (List (Int×Bool))}{h:Int}(ha:a<M.length)(han:a<n)(h0:0<=h)(h1:h<=65)(hm:mS M a h=false):wA n (B_ M a h)<wA n M:=by
 unfold wA
 have e:((h.toNat:Nat):Int)=h:=abG h0
 refine r5 ?_ ⟨(a,h.toNat),Cq han (by omega),by rw[e,hm];rfl,by rw[sb ha,e];simp⟩
 intro x hx
 rw[sb ha]at hx
 cases h:mS M x.1 (x.2:Int)
 ·rfl
 ·rw[h]at hx;simp at hx
structure KH (f:aC) (M:List (List (Int×Bool))) (out:List Bool) (q:List (List Int)):Prop where
 lenM:M.length=f.code.length
 lenO:out.length=f.code.length
 reach:∀(a:Nat) h,mS M a h=true->Reach f a h
 queue:∀x∈q,∃(a:Nat) (h:Int),x=[(a:Int),h]/\Reach f a h
 done:∀(a:Nat) h c,mS M a h=true->f.code[a]?=some c->okS c h->∀b k,(b,k)∈dq (a:Int) c h->(b=(f.code.length:Int)->out[a]?=some true)/\∀b':Nat,b=(b':Int)->b'<f.code.length->mS M b' k=true\/[(b':Int),k]∈q
 outs:∀a:Nat,out[a]?=some true->∃h c k,Reach f a h/\f.code[a]?=some c/\okS c h/\((f.code.length:Int),k)∈dq (a:Int) c h
 zero:mS M 0 0=true\/[(0:Int),0]∈q
 good:∀m∈M,zM m
theorem Gi{f:aC}(S:vB f){a:Nat}{c:aQ}(hc:f.code[a]?=some c)(hal:a<f.code.length){h b k:Int}(hw:(b,k)∈dq (a:Int) c h):0<=b/\b<=(f.code.length:Int):=by
 rcases cU.mp hw with⟨h1,h2,_⟩|⟨_,h2,_⟩
 ·obtain⟨b',e,hb⟩:=(S.2.2 c (Z_ hc)).2 h1
  omega
 ·omega
theorem jz{f:aC}(S:vB f):∀(N:Nat) (M:List (List (Int×Bool))) (out:List Bool) (q:List (List Int)),3 *wA f.code.length M+q.length<=N->3 *wA f.code.length M+q.length<=4294960000->KH f M out q->
 ∃M' out',eG (f,M.map some,out,q,())=some (M'.map some,out',())/\KH f M' out' []
 |N,M,out,[],hN,hB,I=>by
  refine⟨M,out,?_,I⟩
  rw[eG]
  simp
 |0,M,out,p::q,hN,hB,I=>by simp at hN
 |N+1,M,out,p::q,hN,hB,I=>by
  obtain⟨a,h,ep,r⟩:=I.queue p (aag ..)
  subst ep
  have hal:=kZ S.1 r
  obtain⟨c,hc⟩:∃c,f.code[a]?=some c:=⟨_,Z3 hal⟩
  obtain⟨p0,p1⟩:=w9 S r
  have haM:a<M.length:=by have:=I.lenM;omega
  rw[aaa]at hN hB
  rw[E8 S M I.lenM out I.lenO a h q hc hal (by omega)]
  cases hs:mS M a h
  ·rw[adC (by decide)]
   have lp:=DX haM hal p0 p1 hs
   have hput:=sb haM h
   by_cases hk:okS c h
   ·rw[adD hk]
    have wl:(inR (f.code.length:Int) (dq (a:Int) c h)).length<=2:=by
     have:(dq (a:Int) c h).length<=2:=by
      unfold dq;repeat' split
      all_goals simp
     unfold inR
     rw[Z7]
     exact abv (List.length_filter_le _ _) this
    refine jz S N _ _ _ (by rw[aas];omega) (by rw[aas];omega) ?_
    refine{lenM:=by rw[zd];exact I.lenM,lenO:= ?_,reach:= ?_,queue:= ?_,done:= ?_,outs:= ?_,zero:= ?_,good:=tX I.good hs}
    ·split
     ·rw[aaR];exact I.lenO
     ·exact I.lenO
    ·intro b k hb
     rw[hput,aaD,adB]at hb
     rcases hb with⟨h1,h2⟩|hb
     ·rw[h1,h2];exact r
     ·exact I.reach b k hb
    ·intro x hx
     rw[aa9]at hx
     rcases hx with hx|hx
     ·exact I.queue x (aab _ hx)
     ·unfold inR at hx
      rw[aav]at hx
      obtain⟨y,hy,e⟩:=hx
      rw[acp,adB]at hy
      have hb:=Gi S hc hal (b:=y.1) (k:=y.2) hy.1
      refine⟨y.1.toNat,y.2,?_,Reach.step r hc hk ?_ (by omega)⟩
      ·rw[<-e,abG hb.1]
      ·rw[abG hb.1];exact hy.1
    ·intro b k c' hb hc' hk' b2 k2 hw
     rw[hput,aaD,adB]at hb
     rcases hb with⟨h1,h2⟩|hb
     ·subst h1 h2
      rw[hc,Z2]at hc'
      subst hc'
      refine⟨λe=> ?_,λb' e hb'=> .inr ?_⟩
      ·have:E7 (f.code.length:Int) (dq (b:Int) c k)=true:=by
        unfold E7;rw[aa1];exact⟨_,hw,by rw[e];simp⟩
       rw[adD this,ach (by have:=I.lenO;omega)]
      ·rw[aa9];right
       unfold inR;rw[aav]
       exact⟨(b2,k2),acp.mpr ⟨hw,by rw[e];simp;omega⟩,by rw[e]⟩
     ·obtain⟨d1,d2⟩:=I.done b k c' hb hc' hk' b2 k2 hw
      refine⟨λe=> ?_,λb' e hb'=> ?_⟩
      ·have:=d1 e
       split
       ·by_cases eb:b=a
        ·rw[eb,ach (by have:=I.lenO;omega)]
        ·rw[ab6 (λx=>eb x.symm)];exact this
       ·exact this
      ·rcases d2 b' e hb' with d|d
       ·left;rw[hput,d];simp
       ·rw[aai]at d
        rcases d with d|d
        ·left
         simp only[aaS,and_true]at d
         rw[hput]
         have:b'=a:=by omega
         simp[this,d.2]
        ·exact .inr (abf _ d)
    ·intro b hb
     split at hb
     ·rename_i ho
      by_cases eb:b=a
      ·subst eb
       unfold E7 at ho;rw[aa1]at ho
       obtain⟨y,hy,hy2⟩:=ho
       have hle:=Gi S hc hal (b:=y.1) (k:=y.2) hy
       have e:y.1=(f.code.length:Int):=by have:=of_decide_eq_true hy2;omega
       refine⟨h,c,y.2,r,hc,hk,?_⟩
       rw[<-e];exact hy
      ·rw[ab6 (λx=>eb x.symm)]at hb;exact I.outs b hb
     ·exact I.outs b hb
    ·rcases I.zero with z|z
     ·left;rw[hput,z];simp
     ·rw[aai]at z
      rcases z with z|z
      ·left
       simp only[aaS,and_true]at z
       rw[hput]
       have:0=a:=by omega
       simp[this,z.2]
      ·exact .inr (abf _ z)
   ·rw[adC hk]
    refine jz S N _ _ _ (by omega) (by omega) ?_
    refine{lenM:=by rw[zd];exact I.lenM,lenO:=I.lenO,reach:= ?_,queue:=λx hx=>I.queue x (aab _ hx),done:= ?_,outs:=I.outs,zero:= ?_,good:=tX I.good hs}
    ·intro b k hb
     rw[hput,aaD,adB]at hb
     rcases hb with⟨h1,h2⟩|hb
     ·rw[h1,h2];exact r
     ·exact I.reach b k hb
    ·intro b k c' hb hc' hk' b2 k2 hw
     rw[hput,aaD,adB]at hb
     rcases hb with⟨h1,h2⟩|hb
     ·subst h1 h2
      rw[hc,Z2]at hc'
      subst hc'
      exact absurd hk' hk
     ·obtain⟨d1,d2⟩:=I.done b k c' hb hc' hk' b2 k2 hw
      refine⟨d1,λb' e hb'=> ?_⟩
      rcases d2 b' e hb' with d|d
      ·left;rw[hput,d];simp
      ·rw[aai]at d
       rcases d with d|d
       ·left
        simp only[aaS,and_true]at d
        rw[hput]
        have:b'=a:=by omega
        simp[this,d.2]
       ·exact .inr d
    ·rcases I.zero with z|z
     ·left;rw[hput,z];simp
     ·rw[aai]at z
      rcases z with z|z
      ·left
       simp only[aaS,and_true]at z
       rw[hput]
       have:0=a:=by omega
       simp[this,z.2]
      ·exact .inr z
  ·rw[adD rfl]
   refine jz S N _ _ _ (by omega) (by omega) ?_
   refine{lenM:=I.lenM,lenO:=I.lenO,reach:=I.reach,queue:=λx hx=>I.queue x (aab _ hx),done:= ?_,outs:=I.outs,zero:= ?_,good:=I.good}
   ·intro b k c' hb hc' hk' b2 k2 hw
    obtain⟨d1,d2⟩:=I.done b k c' hb hc' hk' b2 k2 hw
    refine⟨d1,λb' e hb'=> ?_⟩
    rcases d2 b' e hb' with d|d
    ·exact .inl d
    ·rw[aai]at d
     rcases d with d|d
     ·left
      simp only[aaS,and_true]at d
      have:b'=a:=by omega
      rw[this,d.2];exact hs
     ·exact .inr d
   ·rcases I.zero with z|z
    ·exact .inl z
    ·rw[aai]at z
     rcases z with z|z
     ·left
      simp only[aaS,and_true]at z
      have:0=a:=by omega
      rw[this,z.2];exact hs
     ·exact .inr z
end Go.Proofs.YtcghbgmmgcljkaaGreatDoor
end
section
namespace Go.Proofs.YtcghbgmmgcljkaaGreatDoor
set_option maxRecDepth 20000
theorem Hm(n:Nat)(M:List (List (Int×Bool))):wA n M<=66 *n:=by
 have h1:wA n M<=(box n).length:=acC
 have h2:(box n).length=66 *n:=by
  unfold box
  rw[adm]
  have:∀k:Nat,((abk k).map λa=>((abk 66).map λh=>(a,h)).length).sum=66 *k:=by
   intro k
   induction k with
   |zero=>rfl
   |succ k ih=>rw[List.range_succ (n:=k),aaV,List.sum_append,ih];simp;omega
  exact this n
 omega
theorem Jc{f:aC}(S:vB f):∃M out,HC (f,())=some (out,M.map some,())/\KH f M out []:=by
 obtain⟨s1,s2,_⟩:=S
 have S:vB f:=⟨s1,s2,by assumption⟩
 have hz:∀(a:Nat) h,mS (aak f.code.length []) a h=false:=by
  intro a h;unfold mS
  by_cases ha:a<f.code.length
  ·rw[List.getElem?_replicate_of_lt ha];rfl
  ·rw[abX (by simp;omega)]
 have I:KH f (aak f.code.length []) (aak f.code.length false) [[0,0]]:=
  { lenM:=by simp
    lenO:=by simp
    reach:=λa h hb=>by rw[hz]at hb;cases hb
    queue:=λx hx=>by
     rw[aaN]at hx
     exact⟨0,0,hx,Reach.start⟩
    done:=λa h c hb=>by rw[hz]at hb;cases hb
    outs:=λa ha=>by
     rw[acv]at ha
     split at ha
     ·cases ha
     ·cases ha
    zero:= .inr (aaN.mpr rfl)
    good:=λm hm=>by rw[ac0 hm];exact⟨List.nodup_nil,λe he=>by cases he⟩}
 have hl:=Hm f.code.length (aak f.code.length [])
 obtain⟨M',out',h,I'⟩:=jz S _ _ _ _ (aat _) (by rw[aa5];omega) I
 have fl:=qF f f.code.length s2 f.code.length 0 (Z9 _)
 rw[aao,List.replicate_zero,aad]at fl
 rw[abN]at h
 refine⟨M',out',?_,I'⟩
 have hb:(f.code.length:Int)<=4294967296:=by omega
 rw[HC]
 simp only[hb,adz,Z5,fl,Z1,ZY,h]
theorem nD{f:aC}{M:List (List (Int×Bool))}{out:List Bool}(I:KH f M out []){a:Nat}{h:Int}(r:Reach f a h):mS M a h=true:=by
 induction r with
 |start=>
  rcases I.zero with z|z
  ·exact z
  ·cases z
 |step r hc hk hw hb ih=>
  rcases(I.done _ _ _ ih hc hk _ _ hw).2 _ rfl hb with d|d
  ·exact d
  ·cases d
def Bad(f:aC)(M:List (List (Int×Bool)))(out:List Bool)(a:Nat):Prop:=
 out[a]?=some true\/(∃h c,mS M a h=true/\f.code[a]?=some c/\¬okS c h)\/∃h h',mS M a h=true/\mS M a h'=true/\h≠h'
theorem Dt{f:aC}(S:vB f){M:List (List (Int×Bool))}{out:List Bool}(I:KH f M out []):gY f↔∃a,a<f.code.length/\Bad f M out a:=by
 constructor
 ·rintro⟨a,h,c,r,hc,hF⟩
  refine⟨a,kZ S.1 r,?_⟩
  rcases hF with hF|⟨hk,k,hF⟩|⟨h',r',hF⟩
  ·exact .inr (.inl ⟨h,c,nD I r,hc,hF⟩)
  ·exact .inl ((I.done a h c (nD I r) hc hk _ _ hF).1 rfl)
  ·exact .inr (.inr ⟨h',h,nD I r',nD I r,hF⟩)
 ·rintro⟨a,hal,hB⟩
  rcases hB with hB|⟨h,c,hs,hc,hk⟩|⟨h,h',h1,h2,hne⟩
  ·obtain⟨h,c,k,r,hc,hk,hw⟩:=I.outs a hB
   exact⟨a,h,c,r,hc, .inr (.inl ⟨hk,k,hw⟩)⟩
  ·exact⟨a,h,c,I.reach a h hs,hc, .inl hk⟩
  ·exact⟨a,h',f.code[a],I.reach a h' h2,Z3 hal, .inr (.inr ⟨h,I.reach a h h1,hne⟩)⟩
end Go.Proofs.YtcghbgmmgcljkaaGreatDoor
end
section
namespace Go.Proofs.YtcghbgmmgcljkaaGreatDoor
set_option maxRecDepth 20000
theorem u9{α:Type}(p:α->Bool):∀(l:List α) (x:α×List α),x∈Tx.steps l->(p x.1||x.2.any p)=l.any p/\x.2.length+1=l.length
 |[],x,h=>by simp[Tx.steps]at h
 |a::r,x,h=>by
  rw[Tx.steps,aai]at h
  rcases h with h|h
  ·rw[h];simp
  ·rw[aav]at h
   obtain⟨y,hy,e⟩:=h
   obtain⟨h1,h2⟩:=u9 p r y hy
   rw[<-e]
   refine⟨?_,by simp;omega⟩
   simp only[ab0,<-h1]
   cases p y.1<;>cases p a<;>simp
theorem iP(f:aC)(out:List Bool)(i:Nat){c:aQ}(hc:f.code[i]?=some c)(seen:List (Option (List (Int×Bool))))(m0:List (Int×Bool)):∀(n:Nat) (w:Bool) (l:List (Int×Bool)),l.length=n->
 mj (out,(i:Int),w,f,seen,m0,l,())=some (out,(i:Int),w||l.any (λe=> !decide (okS c e.1)),f,seen,())
 |0,w,l,h=>by
  have:l=[]:=ac3.mp h
  subst this
  rw[mj];simp
 |n+1,w,l,h=>by
  have hne:l.isEmpty=false:=by cases l with|nil=>simp at h|cons _ _=>rfl
  rw[mj]
  simp only[hne,Z0,adA]
  have hs:Tx.steps l≠[]:=by cases l with|nil=>simp at h|cons _ _=>simp[Tx.steps]
  refine Tx.anyOf_some.mpr ?_
  refine⟨hs,λx hx=> ?_⟩
  obtain⟨h1,h2⟩:=u9 (λe=> !decide (okS c e.1)) l x hx
  have ih:=λw=>iP f out i hc seen m0 n w x.2 (by omega)
  rw[t7 f hc]
  cases w
  ·simp only[Z0,adA,Z1,ZY,ih,ab1,<-h1]
  ·simp only[adz,Z1,ZY,ih,acs]
end Go.Proofs.YtcghbgmmgcljkaaGreatDoor
end
section
namespace Go.Proofs.YtcghbgmmgcljkaaGreatDoor
set_option maxRecDepth 20000
theorem sa{m:List (Int×Bool)}(hv:∀e∈m,e.2=true)(h:Int):(Mp.get Mp.ieq h m).getD false=true↔h∈m.map Prod.fst:=by
 induction m with
 |nil=>simp[Mp.get]
 |cons x r ih=>
  simp only[Mp.get,hO,aac,aai]
  by_cases hx:h=x.1
  ·rw[adD hx,hv x (aag ..)];simp[hx]
  ·rw[adC hx,ih (λe he=>hv e (aab _ he))];simp[hx]
theorem OP{m:List (Int×Bool)}(g:zM m):1<m.length↔∃h h',(Mp.get Mp.ieq h m).getD false=true/\(Mp.get Mp.ieq h' m).getD false=true/\h≠h':=by
 simp only[sa g.2]
 obtain⟨g1,_⟩:=g
 match m,g1 with
 |[],_=>simp
 |[x],_=>simp
 |x::y::r,g1=>
  simp only[aac,acG,aai,not_or]at g1
  refine⟨λ_=>⟨x.1,y.1,by simp,by simp,g1.1.1⟩,λ_=>by simp⟩
end Go.Proofs.YtcghbgmmgcljkaaGreatDoor
end
section
namespace Go.Proofs.YtcghbgmmgcljkaaGreatDoor
set_option maxRecDepth 20000
def O_(m:List (Int×Bool))(o:Bool)(c:aQ):Bool:=(decide (1<m.length)||o)||m.any (λe=> !decide (okS c e.1))
theorem BN(f:aC)(out:List Bool)(seen:List (Option (List (Int×Bool)))){k:Nat}{c:aQ}{m:List (Int×Bool)}{o:Bool}(hk:k<f.code.length)(hl:f.code.length<=3000)
 (hc:f.code[k]?=some c)(hs:seen[k]?=some (some m))(ho:out[k]?=some o)(hsl:seen.length=f.code.length):
 jc (out,(k:Int),f,seen,())=if O_ m o c=true then some (.inl ((k:Int),()))else jc (out,((k+1:Nat):Int),f,seen.set k none,()):=by
 have h0:(0:Int)<=(k:Int):=by omega
 have h1:(k:Int)<(f.code.length:Int):=by omega
 have h2:(k:Int)<(seen.length:Int):=by omega
 have w:IntKind.i64.wrap ((k:Int)+1)=((k+1:Nat):Int):=by rw[w64 (by omega) (by omega)];omega
 conv=>lhs;rw[jc]
 simp only[h0,h1,h2,adE,adz,and_self,Z5,hs,ho,Z1,ZY]
 unfold O_
 by_cases hm:1<m.length
 ·have hm':(m.length:Int)>1:=by omega
  simp only[hm',hm,adE,adz,ZY,h0,h2,and_self,Z5,hs,iP f out k hc _ _ _ _ _ rfl,acs]
 ·have hm':¬(m.length:Int)>1:=by omega
  simp only[hm',hm,adF,Z0,adA,ZY,h0,h2,and_self,adz,Z5,hs,iP f out k hc _ _ _ _ _ rfl,ab1,w]
end Go.Proofs.YtcghbgmmgcljkaaGreatDoor
end
section
namespace Go.Proofs.YtcghbgmmgcljkaaGreatDoor
set_option maxRecDepth 20000
theorem Mm{f:aC}{M:List (List (Int×Bool))}{out:List Bool}(I:KH f M out []){k:Nat}{c:aQ}{m:List (Int×Bool)}{o:Bool}(hc:f.code[k]?=some c)(hm:M[k]?=some m)(ho:out[k]?=some o):O_ m o c=true↔Bad f M out k:=by
 have g:=I.good m (Z_ hm)
 have hh:∀h,mS M k h=(Mp.get Mp.ieq h m).getD false:=by intro h;unfold mS;rw[hm]
 unfold O_ Bad
 rw[aaD,aaD,adB,OP g,ho,aa1]
 simp only[hh]
 constructor
 ·rintro((h|h)|⟨e,he,h⟩)
  ·exact .inr (.inr h)
  ·exact .inl (by rw[h])
  ·refine .inr (.inl ⟨e.1,c,(sa g.2 _).mpr (aav.mpr ⟨e,he,rfl⟩),hc,by simpa using h⟩)
 ·rintro(h|⟨h,c',h1,h2,h3⟩|h)
  ·exact .inl (.inr (aa3 h))
  ·rw[hc,Z2]at h2
   subst h2
   obtain⟨e,he,e1⟩:=aav.mp ((sa g.2 h).mp h1)
   exact .inr ⟨e,he,by rw[e1];simpa using h3⟩
  ·exact .inl (.inl h)
theorem rJ{f:aC}(hl:f.code.length<=3000){M:List (List (Int×Bool))}{out:List Bool}(I:KH f M out []):∀(j k:Nat) (seen:List (Option (List (Int×Bool)))),k+j=f.code.length->seen.length=f.code.length->(∀a,k<=a->seen[a]?=(M.map some)[a]?)->
 ((∃a,k<=a/\a<f.code.length/\Bad f M out a)/\∃i:Nat,jc (out,(k:Int),f,seen,())=some (.inl ((i:Int),())))\/(¬(∃a,k<=a/\a<f.code.length/\Bad f M out a)/\jc (out,(k:Int),f,seen,())=some (.inr ()))
 |0,k,seen,h,hs,hq=>by
  right
  refine⟨by rintro⟨a,h1,h2,_⟩;omega,?_⟩
  rw[jc]
  have:¬(k:Int)<(f.code.length:Int):=by omega
  simp[this]
 |j+1,k,seen,h,hs,hq=>by
  have hk:k<f.code.length:=by omega
  have hkM:k<M.length:=by rw[I.lenM];exact hk
  have hkO:k<out.length:=by rw[I.lenO];exact hk
  have hm:=Z3 hkM
  have ho:=Z3 hkO
  have hc:=Z3 hk
  have hsk:seen[k]?=some (some M[k]):=by rw[hq k (aat _),Z6,hm];rfl
  have bi:=Mm I hc hm ho
  rw[BN f out seen hk hl hc hsk ho hs]
  by_cases hb:O_ M[k] out[k] f.code[k]=true
  ·rw[adD hb]
   exact .inl ⟨⟨k,aat _,hk,bi.mp hb⟩,k,rfl⟩
  ·rw[adC hb]
   have ih:=rJ hl I j (k+1) (seen.set k none) (by omega) (by rw[aaR];exact hs) (λa ha=>by rw[ab6 (by omega)];exact hq a (by omega))
   rcases ih with⟨⟨a,a1,a2,a3⟩,hi⟩|⟨hn,hi⟩
   ·exact .inl ⟨⟨a,by omega,a2,a3⟩,hi⟩
   ·refine .inr ⟨?_,hi⟩
    rintro⟨a,a1,a2,a3⟩
    by_cases e:a=k
    ·subst e;exact hb (bi.mpr a3)
    ·exact hn ⟨a,by omega,a2,a3⟩
theorem B6{f:aC}(S:vB f):∃w,SW (f,())=some (w,())/\(0<=w↔gY f):=by
 obtain⟨M,out,h,I⟩:=Jc S
 rw[SW]
 simp only[h,Z1,ZY]
 have fb:=Dt S I
 have sl:=rJ S.2.1 I f.code.length 0 (M.map some) (Z9 _) (by rw[Z7];exact I.lenM) (λ_ _=>rfl)
 rw[aao]at sl
 rcases sl with⟨⟨a,_,a2,a3⟩,i,hi⟩|⟨hn,hi⟩
 ·rw[hi]
  exact⟨_,rfl,λ_=>fb.mpr ⟨a,a2,a3⟩,λ_=>by omega⟩
 ·rw[hi]
  refine⟨_,rfl,λh=>absurd h (by decide),λF=> ?_⟩
  obtain⟨a,a2,a3⟩:=fb.mp F
  exact absurd ⟨a,ab7 _,a2,a3⟩ hn
end Go.Proofs.YtcghbgmmgcljkaaGreatDoor
end
section
namespace Go.Proofs.YtcghbgmmgcljkaaGreatDoor
set_option maxRecDepth 20000
theorem Ol{l:List aC}(hl:∀g∈l,0<=g.params){f:aC}(h:lI l f=true)(h3:f.code.length<=3000):vB f:=by
 unfold lI at h
 simp only[Z8,adB,aaf]at h
 refine⟨h.1.2,h3,λc hc=>⟨JH hl (h.2 c hc),λhj=> ?_⟩⟩
 have hc:=h.2 c hc
 have h1:=h.1.2
 have w:IntKind.i64.wrap ((f.code.length:Int) -1)=(f.code.length:Int) -1:=w64 (by omega) (by omega)
 have hr:rng c.a 0 (IntKind.i64.wrap ((f.code.length:Int) -1))=true:=by
  unfold d4 at hj
  simp only[aaD,adB]at hj
  unfold di at hc
  rw[adC (by omega),adC (by omega),adC (by omega),adC (by omega),adC (by omega),adD (by omega)]at hc
  simp only[Z8]at hc
  exact hc.1.1.1
 rw[w]at hr
 unfold rng at hr
 rw[adB]at hr
 exact⟨c.a.toNat,by omega,by omega⟩
end Go.Proofs.YtcghbgmmgcljkaaGreatDoor
end
section
namespace Go.Proofs.YtcghbgmmgcljkaaGreatDoor
set_option maxRecDepth 20000
theorem pe(l:List aC)(hl:l.length<=3000)(S:∀f∈l,vB f):∀(j k:Nat),k+j=l.length->
 ((∃f∈l.drop k,gY f)/\∃a b,kN (l,(l.length:Int),(k:Int),())=some (.inl (a,b,7,())))\/(¬(∃f∈l.drop k,gY f)/\kN (l,(l.length:Int),(k:Int),())=some (.inr ()))
 |0,k,h=>by
  right
  rw[kN,cu (by omega)]
  have:¬(k:Int)<(l.length:Int):=by omega
  simp[this]
 |j+1,k,h=>by
  obtain⟨x,hx,hm,hd⟩:=bK (l:=l) (k:=k) (by omega)
  have h1:(k:Int)<(l.length:Int):=by omega
  have h2:(0:Int)<=(k:Int):=by omega
  have w:IntKind.i64.wrap ((k:Int)+1)=((k+1:Nat):Int):=by rw[w64 (by omega) (by omega)];omega
  obtain⟨v,m,hv,hF⟩:=Nf (S x hm)
  have ih:=pe l hl S j (k+1) (by omega)
  rw[kN,hd]
  simp only[h1,h2,adE,adz,Z5,hx,Z1,ZY,hv,w,ge_iff_le,aai,exists_eq_or_imp]
  by_cases hp:0<=v
  ·left
   simp only[hp,adE,adz]
   exact⟨.inl (hF.mp hp),_,_,rfl⟩
  ·simp only[hp,adF,Z0,adA]
   have nf:¬gY x:=λh=>hp (hF.mpr h)
   simp only[nf,false_or]
   exact ih
theorem qu(l:List aC)(hl:l.length<=3000)(S:∀f∈l,vB f):∀(j k:Nat),k+j=l.length->
 ((∃f∈l.drop k,gY f)/\∃a b,kQ (l,(k:Int),())=some (.inl (a,b,7,())))\/(¬(∃f∈l.drop k,gY f)/\kQ (l,(k:Int),())=some (.inr ()))
 |0,k,h=>by
  right
  rw[kQ,cu (by omega)]
  have:¬(k:Int)<(l.length:Int):=by omega
  simp[this]
 |j+1,k,h=>by
  obtain⟨x,hx,hm,hd⟩:=bK (l:=l) (k:=k) (by omega)
  have h1:(k:Int)<(l.length:Int):=by omega
  have h2:(0:Int)<=(k:Int):=by omega
  have w:IntKind.i64.wrap ((k:Int)+1)=((k+1:Nat):Int):=by rw[w64 (by omega) (by omega)];omega
  obtain⟨v,hv,hF⟩:=B6 (S x hm)
  have ih:=qu l hl S j (k+1) (by omega)
  rw[kQ,hd]
  simp only[h1,h2,adE,adz,Z5,hx,Z1,ZY,hv,w,ge_iff_le,aai,exists_eq_or_imp]
  by_cases hp:0<=v
  ·left
   simp only[hp,adE,adz]
   exact⟨.inl (hF.mp hp),_,_,rfl⟩
  ·simp only[hp,adF,Z0,adA]
   have nf:¬gY x:=λh=>hp (hF.mpr h)
   simp only[nf,false_or]
   exact ih
end Go.Proofs.YtcghbgmmgcljkaaGreatDoor
end
section
namespace Go.Proofs.YtcghbgmmgcljkaaGreatDoor
set_option maxRecDepth 20000
theorem tW(l:List aC):∀(r:List aC) (k:Nat),gG l k r=true->∀f∈r,lI l f=true
 |[],_,_,f,hf=>by cases hf
 |g::r,k,h,f,hf=>by
  rw[gG,Z8,Z8]at h
  rw[aai]at hf
  rcases hf with hf|hf
  ·rw[hf];exact h.1.1
  ·exact tW l r (k+1) h.2 f hf
theorem sT{l:List aC}(h:dM l=0)(h3:∀f∈l,f.code.length<=3000):∀f∈l,lI l f=true/\0<=f.params/\f.params<=f.places/\vB f:=by
 have hf:gG l 0 l=true:=by
  unfold dM at h
  split at h
  ·cases h
  ·split at h
   ·assumption
   ·cases h
 have all:=tW l l 0 hf
 have hp:∀f∈l,0<=f.params/\f.params<=f.places:=by
  intro f hm
  have:=all f hm
  unfold lI rng at this
  simp only[Z8,adB]at this
  exact this.1.1.1.2
 exactλf hm=>⟨all f hm,(hp f hm).1,(hp f hm).2,Ol (λg hg=>(hp g hg).1) (all f hm) (h3 f hm)⟩
end Go.Proofs.YtcghbgmmgcljkaaGreatDoor
end
section
namespace Go.Proofs.YtcghbgmmgcljkaaGreatDoor
set_option maxRecDepth 20000
def Mc(l:List aC):Prop:=dM l=0/\¬∃f∈l,gY f
open Classical in
noncomputable def eL(l:List aC):Int:=if dM l=0 then(if∃f∈l,gY f then 7 else 0)else dM l
theorem jm{l:List aC}:eL l=0↔Mc l:=by
 unfold eL Mc
 by_cases h:dM l=0
 ·by_cases h2:∃f∈l,gY f
  ·simp[h,h2]
  ·simp only[h,h2,adz,adA,true_and,not_false_eq_true]
 ·simp[h]
theorem GR(l:List aC)(hl:l.length<=3000)(h3:∀f∈l,f.code.length<=3000):∃a b,SM (l,())=some (a,b,eL l,()):=by
 have hv:=zB l (by omega) (λf hf=>by have:=h3 f hf;omega)
 rw[SM]
 simp only[hv,Z1,ZY]
 unfold eL
 by_cases h:dM l=0
 ·have S:=sT h h3
  have c:=qu l hl (λf hf=>(S f hf).2.2.2) _ 0 (Z9 _)
  rw[aao,aap]at c
  simp only[h,adz,bne_self_eq_false,Z0,adA]
  rcases c with⟨c1,a,b,c2⟩|⟨c1,c2⟩
  ·rw[c2,adD c1];exact⟨a,b,rfl⟩
  ·rw[c2,adC c1];exact⟨0,0,rfl⟩
 ·have hb:(dM l !=0)=true:=by simpa using h
  simp only[hb,adz,adC h]
  exact⟨0,0,rfl⟩
theorem E9(l:List aC)(hl:l.length<=3000)(h3:∀f∈l,f.code.length<=3000):∃a b,SL (l,())=some (a,b,eL l,()):=by
 have hv:=pm l (by omega) (λf hf=>by have:=h3 f hf;omega)
 rw[SL]
 simp only[hv,Z1,ZY]
 unfold eL
 by_cases h:dM l=0
 ·have S:=sT h h3
  have c:=pe l hl (λf hf=>(S f hf).2.2.2) _ 0 (Z9 _)
  rw[aao,aap]at c
  simp only[h,adz,bne_self_eq_false,Z0,adA]
  rcases c with⟨c1,a,b,c2⟩|⟨c1,c2⟩
  ·rw[c2,adD c1];exact⟨a,b,rfl⟩
  ·rw[c2,adC c1];exact⟨0,0,rfl⟩
 ·have hb:(dM l !=0)=true:=by simpa using h
  simp only[hb,adz,adC h]
  exact⟨0,0,rfl⟩
def jM(args:List aE):Bool:=args.all λv=>decide (-2147483648<=v.n/\v.n<=2147483648)
theorem rI(args:List aE)(hl:args.length<=4294967296):∀(j k:Nat),k+j=args.length->me (args,(k:Int),())=if jM (args.drop k)=true then some (.inr ())else some (.inl (1,()))
 |0,k,h=>by
  rw[me,cu (by omega)]
  have:¬(k:Int)<(args.length:Int):=by omega
  simp[this,jM]
 |j+1,k,h=>by
  obtain⟨x,hx,hm,hd⟩:=bK (l:=args) (k:=k) (by omega)
  have h1:(k:Int)<(args.length:Int):=by omega
  have h2:(0:Int)<=(k:Int):=by omega
  have w:IntKind.i64.wrap ((k:Int)+1)=((k+1:Nat):Int):=by rw[w64 (by omega) (by omega)];omega
  have ih:=rI args hl j (k+1) (by omega)
  rw[me,hd]
  unfold jM at ih⊢
  simp only[h1,h2,adE,adz,Z5,hx,Z1,ZY,abe]
  by_cases e1:x.n< -2147483648
  ·have:¬(-2147483648<=x.n/\x.n<=2147483648):=by omega
   simp[e1,this]
  ·by_cases e2:x.n>2147483648
   ·have:¬(-2147483648<=x.n/\x.n<=2147483648):=by omega
    simp[e1,e2,this]
   ·have e3:(-2147483648<=x.n/\x.n<=2147483648):=by omega
    simp only[e1,e2,e3,adF,Z0,adA,ZY,adE,abq,and_self,w]
    exact ih
theorem JC(args:List aE)(hl:args.length<=4294967296):SO (args,())=some (if jM args=true then 0 else 1,()):=by
 have h:=rI args hl _ 0 (Z9 _)
 rw[aao,aap]at h
 rw[SO,h]
 by_cases hs:jM args=true<;>simp[hs]
theorem pj(q:Int)(args:List aE)(hl:args.length<=4294967296):∀(j k:Nat),k+j=args.length->ja (q,args,(args.length:Int),(k:Int),())=if jM (args.drop k)=true then some (.inr (q,()))else some (.inl (0,1,()))
 |0,k,h=>by
  rw[ja,cu (by omega)]
  have:¬(k:Int)<(args.length:Int):=by omega
  simp[this,jM]
 |j+1,k,h=>by
  obtain⟨x,hx,hm,hd⟩:=bK (l:=args) (k:=k) (by omega)
  have h1:(k:Int)<(args.length:Int):=by omega
  have h2:(0:Int)<=(k:Int):=by omega
  have w:IntKind.i64.wrap ((k:Int)+1)=((k+1:Nat):Int):=by rw[w64 (by omega) (by omega)];omega
  have ih:=pj q args hl j (k+1) (by omega)
  rw[ja,hd]
  unfold jM at ih⊢
  simp only[h1,h2,adE,adz,Z5,hx,Z1,ZY,abe]
  by_cases e1:x.n< -2147483648
  ·have:¬(-2147483648<=x.n/\x.n<=2147483648):=by omega
   simp[e1,this]
  ·by_cases e2:x.n>2147483648
   ·have:¬(-2147483648<=x.n/\x.n<=2147483648):=by omega
    simp[e1,e2,this]
   ·have e3:(-2147483648<=x.n/\x.n<=2147483648):=by omega
    simp only[e1,e2,e3,adF,Z0,adA,ZY,adE,abq,and_self,w]
    exact ih
theorem qS(l:List aC)(hl:l.length<=4294967296)(s:ByteArray):∀(j k:Nat),k+j=l.length->
 ma (l,s,(k:Int),())=if fv (l.drop k) s k= -1 then some (.inr ())else some (.inl (fv (l.drop k) s k,()))
 |0,k,h=>by
  rw[ma,cu (by omega)]
  have:¬(k:Int)<(l.length:Int):=by omega
  simp[this,fv]
 |j+1,k,h=>by
  obtain⟨x,hx,hm,hd⟩:=bK (l:=l) (k:=k) (by omega)
  have h1:(k:Int)<(l.length:Int):=by omega
  have h2:(0:Int)<=(k:Int):=by omega
  have w:IntKind.i64.wrap ((k:Int)+1)=((k+1:Nat):Int):=by rw[w64 (by omega) (by omega)];omega
  have ih:=qS l hl s j (k+1) (by omega)
  rw[ma,hd,fv]
  simp only[h1,h2,adE,adz,Z5,hx,Z1,ZY,ek,adB,w]
  by_cases e:x.name0=s
  ·have:¬(k:Int)= -1:=by omega
   simp[e,this]
  ·simp only[e,adA]
   exact ih
theorem jy(l:List aC)(hl:l.length<=4294967296)(s:ByteArray):NG (l,s,())=some (cw l s,()):=by
 have h:=qS l hl s _ 0 (Z9 _)
 rw[aao,aap]at h
 rw[NG]
 unfold cw
 by_cases e:fv l s 0= -1
 ·rw[adD e]at h
  rw[h,e];rfl
 ·rw[adC e]at h
  rw[h];rfl
theorem nb(l:List aC)(s:ByteArray):cw l s<0\/∃k:Nat,∃g,cw l s=(k:Int)/\k<l.length/\l[k]?=some g:=by
 rcases na l s 0 with h|h
 ·left;unfold cw;omega
 ·right
  refine⟨(cw l s).toNat,l[(cw l s).toNat]'(by unfold cw;omega),?_,?_,Z3 _⟩
  ·unfold cw;omega
  ·unfold cw;omega
noncomputable def eA(l:List aC)(s:ByteArray)(args:List aE):Int:=
 if eL l=0 then
  if cw l s<0 then 4 else
  match l[(cw l s).toNat]? with
  |some g=>if(args.length:Int)=g.params then(if jM args=true then 0 else 1)else 10
  |none=>0
 else eL l
theorem zS(l:List aC)(hl:l.length<=3000)(h3:∀f∈l,f.code.length<=3000)(s:ByteArray)(args:List aE)(ha:args.length<=4294967296):
 SJ (l,s,args,())=some (eA l s args,()):=by
 have hv:=zB l (by omega) (λf hf=>by have:=h3 f hf;omega)
 obtain⟨a,b,hc⟩:=GR l hl h3
 rw[SJ]
 simp only[hv,hc,jy l (by omega),JC args ha,Z1,ZY]
 unfold eA
 by_cases h:eL l=0
 ·have h0:=(jm.mp h).1
  simp only[h,h0,adz,bne_self_eq_false,Z0,adA]
  rcases nb l s with hf|⟨k,g,hk,hkl,hg⟩
  ·simp[hf]
  ·have n1:¬(k:Int)<0:=by omega
   have n2:(0:Int)<=(k:Int):=by omega
   simp only[hk,n1,n2,adF,Z0,adA,adz,Z5,hg,ZY]
   by_cases hp:(args.length:Int)=g.params
   ·simp[hp]
   ·have hp':((args.length:Int) !=g.params)=true:=by simpa using hp
    simp[hp]
 ·by_cases h0:dM l=0
  ·have hb:(eL l !=0)=true:=by simpa using h
   simp[h0,h,hb]
  ·have hb:(dM l !=0)=true:=by simpa using h0
   have e:eL l=dM l:=by unfold eL;rw[adC h0]
   simp[e,hb,h0]
theorem w6(l:List aC)(hl:l.length<=3000)(h3:∀f∈l,f.code.length<=3000)(s:ByteArray)(args:List aE)(ha:args.length<=4294967296):
 SI (l,s,args,())=some (if eA l s args=0 then cw l s else 0,eA l s args,()):=by
 have hv:=pm l (by omega) (λf hf=>by have:=h3 f hf;omega)
 obtain⟨a,b,hc⟩:=E9 l hl h3
 have h39:dM l=0->LC (l,s,())=some (max (cw l s) 0,decide (cw l s>=0),0,()):=by
  intro h0
  rw[LC]
  simp only[hv,ny l (by omega),Z1,ZY,h0,bne_self_eq_false,Z0,adA]
 rw[SI]
 simp only[hv,hc,Z1,ZY]
 unfold eA
 by_cases h:eL l=0
 ·have h0:=(jm.mp h).1
  simp only[h,h0,adz,bne_self_eq_false,Z0,adA,h39 h0,ZY]
  rcases nb l s with hf|⟨k,g,hk,hkl,hg⟩
  ·have:¬0<=cw l s:=by omega
   simp[hf,this]
  ·have n1:¬(k:Int)<0:=by omega
   have n2:(0:Int)<=(k:Int):=by omega
   have n3:max (k:Int) 0=(k:Int):=by omega
   have lp:=pj (k:Int) args ha _ 0 (Z9 _)
   rw[aao,aap]at lp
   simp only[hk,n1,n2,n3,adE,aax,Z0,adA,adz,Z5,hg,ZY,lp]
   by_cases hp:(args.length:Int)=g.params
   ·rw[adD hp]
    have hp':((args.length:Int) !=g.params)=false:=by simpa using hp
    rw[hp']
    cases hs:jM args<;>simp[]
   ·have hp':((args.length:Int) !=g.params)=true:=by simpa using hp
    rw[adC hp,hp'];simp
 ·by_cases h0:dM l=0
  ·have hb:(eL l !=0)=true:=by simpa using h
   simp[h0,h,hb]
  ·have hb:(dM l !=0)=true:=by simpa using h0
   have e:eL l=dM l:=by unfold eL;rw[adC h0]
   simp[e,hb,h0]
end Go.Proofs.YtcghbgmmgcljkaaGreatDoor
end
section
namespace Go.Proofs.YtcghbgmmgcljkaaGreatDoor
set_option maxRecDepth 20000
def cj(n:Int):Item:=Item.mk n false (ZZ #[])
def gc(b:Bool):Item:=if b=true then cj 1 else cj 0
def val(x:Item):aE:=aE.mk (aF.mk 0 0 (ZZ #[]) false false) x.n x.null x.err (aF.mk 0 0 (ZZ #[]) false false)
def lq(t:aF)(n:Int):Int:=if t.base=0 then 0 else if t.base=1 then(if n=0 then 0 else 1)else pV (t.base==3) t.bits n
def bt(t:aF)(n:Int):Int:=pV (t.base==3) t.bits n
def opS(ck:Bool)(op:Int)(t:aF)(y x:Item):Item×Int:=
 if ck=true then(cj (if(doS op (t.base==3) t.bits (bt t y.n) (bt t x.n)).2=0 then(doS op (t.base==3) t.bits (bt t y.n) (bt t x.n)).1 else 0),(doS op (t.base==3) t.bits (bt t y.n) (bt t x.n)).2)
 else(cj (doS op (t.base==3) t.bits (bt t y.n) (bt t x.n)).1,0)
def jJ(op a b:Int):Bool:=
 if op=18 then a==b else if op=19 then a !=b else if op=20 then decide (a<b)else if op=21 then decide (a<=b)else if op=22 then decide (a>b)else decide (a>=b)
def bA(ck:Bool)(op:Int)(t:aF)(x:Item):Item×Int:=
 if op=8 then(gc (x.n==0),0)
 else if op=11 then(if ck=true/\x.null=true then(cj 0,4)else(cj x.n,0))
 else if op=7 then(if ck=true/\¬inT (t.base==3) t.bits (-(bt t x.n))then(cj 0,1)else(cj (bt t (-(bt t x.n))),0))
 else if op=9 then(if ck=true/\¬inT (t.base==3) t.bits x.n then(cj 0,3)else(cj (bt t x.n),0))
 else(cj (bt t x.n),0)
inductive Act where
 |go (at1:Int) (pl st:List Item)
 |ret (x:Item)
 |stop (why:Int)
 |call
def il(r:Item×Int)(at1:Int)(pl s:List Item):Act:=if r.2=0 then .go at1 pl (r.1::s)else .stop r.2
def cN(ck:Bool)(c:aQ)(at1:Int)(pl st:List Item):Act:=
 if c.op=0 then .go at1 pl (cj (lq c.type0 c.a)::st)
 else if c.op=1 then .go at1 pl (Item.mk 0 true (ZZ #[])::st)
 else if c.op=18 then .go at1 pl (Item.mk 0 false c.name0::st)
 else if c.op=2 then .go at1 pl (pl.getD c.a.toNat (cj 0)::st)
 else if c.op=3 then .go at1 (pl.set c.a.toNat (st.headD (cj 0))) st.tail
 else if c.op=4 then .go at1 pl st.tail
 else if c.op=5 then il (opS ck c.a c.type0 (st.tail.headD (cj 0)) (st.headD (cj 0))) at1 pl st.tail.tail
 else if c.op=6 then .go at1 pl (gc (jJ c.a (st.tail.headD (cj 0)).n (st.headD (cj 0)).n)::st.tail.tail)
 else if c.op=7\/c.op=8\/c.op=9\/c.op=10\/c.op=11 then il (bA ck c.op c.type0 (st.headD (cj 0))) at1 pl st.tail
 else if c.op=12 then(if(st.headD (cj 0)).null=true then .go c.a pl st.tail else .go at1 pl st)
 else if c.op=13 then(if(st.headD (cj 0)).err=ZZ #[]then .go at1 pl st else .go c.a pl st)
 else if c.op=14 then .go c.a pl st
 else if c.op=15 then(if(st.headD (cj 0)).n=0 then .go c.a pl st.tail else .go at1 pl st.tail)
 else if c.op=16 then .call
 else if c.op=17 then .ret (st.headD (cj 0))
 else if ck=true then .stop c.a else .ret (cj 0)
structure Lg where
 kind:Int
 stop:Int
 steps:Int
 high:Int
 counts:List Int
 seen:List Item
def iA(d place:Int)(c:aQ)(st:List Item)(seen:List Item):List Item:=
 if c.op=3/\d=1/\place=c.a/\seen.length<100 then seen++[st.headD (cj 0)]else seen
def aV(d h:Int)(n:Nat):Int:=if d=1 then max h (n:Int)else h
def pW(cs:List Int)(k:Nat):List Int:=cs.set k (IntKind.i64.wrap (cs.getD k 0+1))
def cH(f:aC)(args:List Item):List Item:=args++aak (f.places.toNat-args.length) (cj 0)
def zu(g:Lg):Item×Lg:=(cj 0,{g with kind:=2})
def gJ(l:List aC)(ck:Bool)(place:Int):Nat->aC->Int->Int->List Item->List Item->Lg->Item×Lg
 |0,_,_,_,_,_,g=>zu g
 |N+1,f,d,at0,pl,st,g=>
  if g.steps=40000 then zu g else
  match f.code[at0.toNat]? with
  |none=>(cj 0,g)
  |some c=>
   match cN ck c (at0+1) pl st with
   | .go at1 pl1 st1=>gJ l ck place N f d at1 pl1 st1 {g with steps:=g.steps+1,high:=aV d g.high st1.length,seen:=iA d place c st g.seen}
   | .ret x=>(x,{g with steps:=g.steps+1})
   | .stop w=>(cj 0,{g with steps:=g.steps+1,kind:=1,stop:=w})
   | .call=>
    match l[(cw l c.name0).toNat]? with
    |none=>(cj 0,g)
    |some h=>
     if 30<d+1 then zu {g with steps:=g.steps+1}else
     let r:=gJ l ck place N h (d+1) 0 (cH h (st.take c.b.toNat).reverse) [] {g with steps:=g.steps+1,counts:=pW g.counts (cw l c.name0).toNat}
     if r.2.kind=0 then gJ l ck place N f d (at0+1) pl (r.1::st.drop c.b.toNat) {r.2 with high:=aV d r.2.high (st.length-c.b.toNat+1)}else(cj 0,r.2)
def lg0(l:List aC):Lg:={kind:=0,stop:=0,steps:=0,high:=0,counts:=aak l.length 0,seen:=[]}
def lg1(l:List aC)(place:Int)(k:Nat)(f:aC)(args:List Item):Lg:=
 {lg0 l with counts:=pW (lg0 l).counts k,seen:=if(1:Int)=1/\0<=place then(lg0 l).seen++[(cH f args).getD place.toNat (cj 0)]else(lg0 l).seen}
def Bn(l:List aC)(ck:Bool)(place:Int)(k:Nat)(f:aC)(args:List Item):Item×Lg:=
 gJ l ck place 40000 f 1 0 (cH f args) [] (lg1 l place k f args)
structure nL (l:List aC):Prop where
 len:l.length<=3000
 valid:dM l=0
 fns:∀f∈l,lI l f=true/\0<=f.params/\f.params<=f.places/\vB f
 nofault:∀f∈l,¬gY f
 places:∀f∈l,f.places<=200
theorem Oj{l:List aC}(hl:l.length<=3000)(h3:∀f∈l,f.code.length<=3000)(h:Mc l):nL l where
 len:=hl
 valid:=h.1
 fns:=sT h.1 h3
 nofault f hf F:=h.2 ⟨f,hf,F⟩
 places f hf:=by
  have h1:=h.1
  unfold dM at h1
  split at h1
  ·cases h1
  ·rename_i hb
   by_cases hp:f.places<=200
   ·exact hp
   ·exfalso
    apply hb
    have:ku l=true:=by
     unfold ku
     rw[aa1]
     exact⟨f,hf,by simpa using hp⟩
    simp[this]
theorem wh{l:List aC}{f:aC}(h:lI l f=true){c:aQ}(hc:c∈f.code):di l f c=true:=by
 unfold lI at h
 simp only[Z8,aaf]at h
 exact h.2 c hc
theorem nw{l:List aC}{f:aC}{c:aQ}(h:di l f c=true):0<=c.op/\c.op<=19:=by
 unfold di at h
 by_cases hr:0<=c.op/\c.op<=19
 ·exact hr
 ·exfalso
  rw[adC (by omega),adC (by omega),adC (by omega),adC (by omega),adC (by omega),adC (by omega),adC (by omega),adC (by omega),adC (by omega),adC (by omega)]at h
  cases h
theorem jC{l:List aC}(R:nL l){f:aC}(hf:f∈l){a:Nat}{h:Int}(r:Reach f a h){c:aQ}(hc:f.code[a]?=some c):
 okS c h/\∀b k,(b,k)∈dq (a:Int) c h->∃b':Nat,b=(b':Int)/\Reach f b' k:=by
 have S:=(R.fns f hf).2.2.2
 have nf:=R.nofault f hf
 have hk:okS c h:=by
  by_cases hk:okS c h
  ·exact hk
  ·exact absurd ⟨a,h,c,r,hc, .inl hk⟩ nf
 refine⟨hk,λb k hw=> ?_⟩
 have hal:=kZ S.1 r
 rcases cU.mp hw with⟨h1,h2,h3⟩|⟨h1,h2,h3⟩
 ·obtain⟨b',eb,hb⟩:=(S.2.2 c (Z_ hc)).2 h1
  refine⟨b',by rw[h2,eb],Reach.step r hc hk (by rw[<-eb,<-h2];exact hw) hb⟩
 ·refine⟨a+1,by rw[h2];rfl,?_⟩
  have e2:b=((a+1:Nat):Int):=by rw[h2];rfl
  by_cases hend:a+1=f.code.length
  ·exact absurd ⟨a,h,c,r,hc, .inr (.inl ⟨hk,k,by rw[<-hend,<-e2];exact hw⟩)⟩ nf
  ·exact Reach.step r hc hk (by rw[<-e2];exact hw) (by omega)
end Go.Proofs.YtcghbgmmgcljkaaGreatDoor
end
section
namespace Go.Proofs.YtcghbgmmgcljkaaGreatDoor
set_option maxRecDepth 20000
theorem zb{r:Item×Int}{at1 at2:Int}{pl pl1 s st1:List Item}(h:il r at1 pl s= .go at2 pl1 st1):at2=at1/\pl1=pl/\st1=r.1::s:=by
 unfold il at h
 split at h
 ·injection h with h1 h2 h3
  exact⟨h1.symm,h2.symm,h3.symm⟩
 ·cases h
theorem de{st:List Item}{h:Int}(e:h=(st.length:Int))(h1:1<=h):∃x s,st=x::s:=by
 cases st with
 |nil=>simp at e;omega
 |cons x s=>exact⟨x,s,rfl⟩
theorem rK{st:List Item}{h:Int}(e:h=(st.length:Int))(h1:2<=h):∃x y s,st=x::y::s:=by
 cases st with
 |nil=>simp at e;omega
 |cons x s=>cases s with
  |nil=>simp at e;omega
  |cons y s=>exact⟨x,y,s,rfl⟩
theorem bH{c:aQ}(h0:0<=c.op)(h1:c.op<=19)(h16:c.op≠16):(c.op=5\/c.op=6->bD c=2)/\(c.op=3\/c.op=4\/c.op=15\/c.op=17\/(7<=c.op/\c.op<=13)->bD c=1):=by
 unfold bD
 constructor
 ·intro h
  rw[adC (by omega),adC (by omega),adD (by omega)]
 ·intro h
  rw[adC (by omega)]
  by_cases h2:c.op=3\/c.op=4\/c.op=15\/c.op=17
  ·rw[adD h2]
  ·rw[adC h2,adC (by omega),adC h16,adC (by omega)]
theorem O7{l:List aC}{f:aC}{c:aQ}(hcode:di l f c=true){ck:Bool}{a:Int}{pl st pl1 st1:List Item}{at1:Int}(hk:okS c (st.length:Int))
 (h:cN ck c (a+1) pl st= .go at1 pl1 st1):(at1,(st1.length:Int))∈dq a c (st.length:Int)/\pl1.length=pl.length:=by
 have hr:=nw hcode
 obtain⟨ht,_⟩:=hk
 have hk:c.op=0\/c.op=1\/c.op=2\/c.op=18\/c.op=3\/c.op=4\/c.op=5\/c.op=6\/(c.op=7\/c.op=8\/c.op=9\/c.op=10\/c.op=11)\/c.op=12\/c.op=13\/c.op=14\/c.op=15\/c.op=17\/c.op=19\/c.op=16:=by omega
 rcases hk with e|e|e|e|e|e|e|e|e|e|e|e|e|e|e|e
 ·simp only[cN,e,adz]at h
  injection h with h1 h2 h3
  subst h1 h2 h3
  simp[dq,cF,bD,bZ,e]
 ·simp[cN,e]at h
  obtain⟨h1,h2,h3⟩:=h
  subst h1 h2 h3
  simp[dq,cF,bD,bZ,e]
 ·simp[cN,e]at h
  obtain⟨h1,h2,h3⟩:=h
  subst h1 h2 h3
  simp[dq,cF,bD,bZ,e]
 ·simp[cN,e]at h
  obtain⟨h1,h2,h3⟩:=h
  subst h1 h2 h3
  simp[dq,cF,bD,bZ,e]
 ·have h1:bD c=1:=(bH hr.1 hr.2 (by omega)).2 (by omega)
  obtain⟨x,s,rfl⟩:=de rfl (h1▸ht)
  simp[cN,e]at h
  obtain⟨h1,h2,h3⟩:=h
  subst h1 h2 h3
  simp[dq,cF,bD,bZ,e]
 ·have h1:bD c=1:=(bH hr.1 hr.2 (by omega)).2 (by omega)
  obtain⟨x,s,rfl⟩:=de rfl (h1▸ht)
  simp[cN,e]at h
  obtain⟨h1,h2,h3⟩:=h
  subst h1 h2 h3
  simp[dq,cF,bD,bZ,e]
 ·have h1:bD c=2:=(bH hr.1 hr.2 (by omega)).1 (by omega)
  obtain⟨x,y,s,rfl⟩:=rK rfl (h1▸ht)
  simp only[cN,e,show¬(5:Int)=0 by decide,show¬(5:Int)=1 by decide,show¬(5:Int)=18 by decide,show¬(5:Int)=2 by decide,show¬(5:Int)=3 by decide,show¬(5:Int)=4 by decide,adA,adz]at h
  obtain⟨h1,h2,h3⟩:=zb h
  subst h1 h2 h3
  simp[dq,cF,bD,bZ,e];omega
 ·have h1:bD c=2:=(bH hr.1 hr.2 (by omega)).1 (by omega)
  obtain⟨x,y,s,rfl⟩:=rK rfl (h1▸ht)
  simp[cN,e]at h
  obtain⟨h1,h2,h3⟩:=h
  subst h1 h2 h3
  simp[dq,cF,bD,bZ,e];omega
 ·have h1:bD c=1:=(bH hr.1 hr.2 (by omega)).2 (by omega)
  obtain⟨x,s,rfl⟩:=de rfl (h1▸ht)
  rw[cN,adC (by omega),adC (by omega),adC (by omega),adC (by omega),adC (by omega),adC (by omega),adC (by omega),adC (by omega),adD e]at h
  obtain⟨h2,h3,h4⟩:=zb h
  subst h2 h3 h4
  refine⟨?_,rfl⟩
  have hl:bZ c=1:=by unfold bZ;rw[adC (by omega)]
  rw[dq,adC (by omega),adC (by omega),adC (by omega),adC (by omega),aaN,cF,h1,hl]
  simp
 ·have h1:bD c=1:=(bH hr.1 hr.2 (by omega)).2 (by omega)
  obtain⟨x,s,rfl⟩:=de rfl (h1▸ht)
  simp[cN,e]at h
  split at h
  ·injection h with h1 h2 h3
   subst h1 h2 h3
   simp[dq,e]
  ·injection h with h1 h2 h3
   subst h1 h2 h3
   simp[dq,e]
 ·have h1:bD c=1:=(bH hr.1 hr.2 (by omega)).2 (by omega)
  obtain⟨x,s,rfl⟩:=de rfl (h1▸ht)
  simp[cN,e]at h
  split at h
  ·injection h with h1 h2 h3
   subst h1 h2 h3
   simp[dq,cF,bD,bZ,e]
  ·injection h with h1 h2 h3
   subst h1 h2 h3
   simp[dq,cF,bD,bZ,e]
 ·simp[cN,e]at h
  obtain⟨h1,h2,h3⟩:=h
  subst h1 h2 h3
  simp[dq,cF,bD,bZ,e]
 ·have h1:bD c=1:=(bH hr.1 hr.2 (by omega)).2 (by omega)
  obtain⟨x,s,rfl⟩:=de rfl (h1▸ht)
  simp[cN,e]at h
  split at h
  ·injection h with h1 h2 h3
   subst h1 h2 h3
   simp[dq,cF,bD,bZ,e]
  ·injection h with h1 h2 h3
   subst h1 h2 h3
   simp[dq,cF,bD,bZ,e]
 ·simp[cN,e]at h
 ·simp[cN,e]at h
  split at h<;>cases h
 ·simp[cN,e]at h
theorem zc{r:Item×Int}{at1:Int}{pl s:List Item}:il r at1 pl s≠ .call:=by
 unfold il
 split<;>exactλh=>by cases h
theorem rP{l:List aC}{f:aC}{c:aQ}(hcode:di l f c=true){ck:Bool}{at1:Int}{pl st:List Item}:cN ck c at1 pl st= .call↔c.op=16:=by
 have hr:=nw hcode
 constructor
 ·intro h
  by_cases e:c.op=16
  ·exact e
  ·exfalso
   have hk:c.op=0\/c.op=1\/c.op=2\/c.op=18\/c.op=3\/c.op=4\/c.op=5\/c.op=6\/(c.op=7\/c.op=8\/c.op=9\/c.op=10\/c.op=11)\/c.op=12\/c.op=13\/c.op=14\/c.op=15\/c.op=17\/c.op=19:=by omega
   rcases hk with e|e|e|e|e|e|e|e|e|e|e|e|e|e|e
   ·simp[cN,e]at h
   ·simp[cN,e]at h
   ·simp[cN,e]at h
   ·simp[cN,e]at h
   ·simp[cN,e]at h
   ·simp[cN,e]at h
   ·simp[cN,e]at h;exact zc h
   ·simp[cN,e]at h
   ·rw[cN,adC (by omega),adC (by omega),adC (by omega),adC (by omega),adC (by omega),adC (by omega),adC (by omega),adC (by omega),adD e]at h
    exact zc h
   ·simp[cN,e]at h;split at h<;>cases h
   ·simp[cN,e]at h;split at h<;>cases h
   ·simp[cN,e]at h
   ·simp[cN,e]at h;split at h<;>cases h
   ·simp[cN,e]at h
   ·simp[cN,e]at h;split at h<;>cases h
 ·intro e
  simp[cN,e]
theorem ML{l:List aC}{f:aC}{c:aQ}(hcode:di l f c=true)(e:c.op=16):∃k:Nat,∃g,cw l c.name0=(k:Int)/\k<l.length/\l[k]?=some g/\c.b=g.params/\bD c=c.b/\bZ c=1:=by
 unfold di at hcode
 simp[e]at hcode
 rcases nb l c.name0 with hf|⟨k,g,hk,hkl,hg⟩
 ·omega
 ·refine⟨k,g,hk,hkl,hg,?_,by simp[bD,e],by simp[bZ,e]⟩
  rw[hk]at hcode
  simp[hg]at hcode
  exact hcode.2
end Go.Proofs.YtcghbgmmgcljkaaGreatDoor
end
section
namespace Go.Proofs.YtcghbgmmgcljkaaGreatDoor
set_option maxRecDepth 20000
theorem xX{t:aF}(h:dZ t=true)(h0:t.base≠0)(h1:t.base≠1):1<=t.bits/\t.bits<=31:=by
 unfold dZ dA at h
 simp only[Z8,adB]at h
 obtain⟨h2,h3⟩:=h
 by_cases hb:t.base=2\/t.base=3
 ·rw[adD hb]at h2
  simp only[Z8,adB]at h2
  exact h2.1
 ·rw[adC hb,adC (by omega),adC h0,adC (by omega)]at h2
  simp only[Z8,adB]at h2
  exact absurd h2.1.1 h1
theorem gi{t:aF}(h:cL t=true):(t.base=2\/t.base=3)/\1<=t.bits/\t.bits<=31:=by
 unfold cL dA at h
 simp only[Z8,adB]at h
 obtain⟨⟨⟨h2,hb⟩,_⟩,_⟩:=h
 rw[adD hb]at h2
 simp only[Z8,adB]at h2
 exact⟨hb,h2.1⟩
theorem Kb{t:aF}(h:cL t=true)(n:Int):lq t n=bt t n:=by
 obtain⟨hb,_⟩:=gi h
 unfold lq bt
 rw[adC (by omega),adC (by omega)]
theorem s8(b:Bool):AC (b,())=some (gc b,()):=by rw[AC];cases b<;>rfl
theorem pk(b:Bool):AF (b,())=some (val (gc b),()):=by rw[AF];cases b<;>rfl
theorem jd(n:Int):sB (n,())=some (val (cj n),()):=by rw[sB];rfl
theorem sc(t:aF):AD (t,())=some (bB.mk (t.base==3) t.bits,()):=by rw[AD]
theorem kW(t:aF):uj (t,())=some (bB.mk (t.base==3) t.bits,()):=by rw[uj]
theorem kY(t:aF)(n:Int)(h:dZ t=true):QP (t,n,())=some (cj (lq t n),()):=by
 rw[QP]
 unfold lq
 by_cases h0:t.base=0
 ·simp[h0];rfl
 by_cases h1:t.base=1
 ·by_cases hn:n=0<;>simp[h1,hn,s8,gc]
 ·obtain⟨b1,b2⟩:=xX h h0 h1
  have e0:(t.base==0)=false:=by simpa using h0
  have e1:(t.base==1)=false:=by simpa using h1
  simp only[e0,e1,h0,h1,Z0,adA,sc,iG (bB.mk (t.base==3) t.bits) n b1 b2,Z1,ZY]
  rfl
theorem rN(t:aF)(n:Int)(h:dZ t=true):oV (t,n,())=some (lq t n,()):=by
 rw[oV]
 unfold lq
 by_cases h0:t.base=0
 ·simp[h0]
 by_cases h1:t.base=1
 ·by_cases hn:n=0<;>simp[h1,hn,pk,gc,val,cj]
 ·obtain⟨b1,b2⟩:=xX h h0 h1
  have e0:(t.base==0)=false:=by simpa using h0
  have e1:(t.base==1)=false:=by simpa using h1
  simp only[e0,e1,h0,h1,Z0,adA,kW,Hv (bB.mk (t.base==3) t.bits) n b1 b2,Z1,ZY]
theorem Od{t:aF}(h:cL t=true):dZ t=true:=by
 have hb:=(gi h).1
 unfold cL at h
 unfold dZ
 simp only[Z8,adB]at h⊢
 exact⟨h.1.1.1,by omega⟩
theorem gf(t:aF)(n:Int)(h:cL t=true):oV (t,n,())=some (bt t n,()):=by
 rw[rN t n (Od h),Kb h]
theorem zY{t:aF}(h:cL t=true)(n:Int):inT (t.base==3) t.bits (bt t n):=by
 obtain⟨_,b1,b2⟩:=gi h
 exact Mn b1 b2
theorem qT(ck:Bool)(op:Int)(t:aF)(y x:Item)(h:cL t=true):QQ (op,t,y,x,ck,())=some ((opS ck op t y x).2,(opS ck op t y x).1,()):=by
 obtain⟨_,b1,b2⟩:=gi h
 have i1:=zY h y.n
 have i2:=zY h x.n
 rw[QQ]
 unfold opS
 have hb:∀n,kH (bB.mk (t.base==3) t.bits,n,())=some (bt t n,()):=λn=>iG _ n b1 b2
 simp only[sc,hb,Z1,ZY]
 cases ck
 ·simp only[aaZ,adz,Z0,adA,Dx op (bB.mk (t.base==3) t.bits) _ _ b1 b2 i1 i2,ZY]
  rfl
 ·simp only[aax,adz,Z0,adA,uU op (bB.mk (t.base==3) t.bits) _ _ b1 b2 i1 i2,ZY]
  rfl
theorem Hf(op a b:Int):HG (op,a,b,())=some (jJ op a b,()):=by
 rw[HG]
 unfold jJ
 by_cases h1:op=18
 ·simp[h1]
 by_cases h2:op=19
 ·simp[h2]
 by_cases h3:op=20
 ·simp[h3]
 by_cases h4:op=21
 ·simp[h4]
 by_cases h5:op=22
 ·simp[h5]
 simp[h1,h2,h3,h4,h5]
theorem om(op:Int)(y x:Item):QR (op,y,x,())=some (gc (jJ op y.n x.n),()):=by
 rw[QR]
 simp only[Hf,s8,Z1,ZY]
theorem xU(ck:Bool)(op:Int)(t:aF)(x:Item)(h:7<=op/\op<=11)(ht:op=7\/op=9\/op=10->cL t=true):
 QS (op,t,x,ck,())=some ((bA ck op t x).2,(bA ck op t x).1,()):=by
 rw[QS]
 unfold bA
 simp only[sc,Z1,ZY]
 have hk:op=8\/op=11\/op=7\/op=9\/op=10:=by omega
 rcases hk with e|e|e|e|e
 ·simp[e,s8]
 ·cases hn:x.null<;>cases ck<;>simp[e,cj]
 all_goals
  have hi:=ht (by omega)
  obtain⟨_,b1,b2⟩:=gi hi
  have hb:∀n,kH (bB.mk (t.base==3) t.bits,n,())=some (bt t n,()):=λn=>iG _ n b1 b2
  have his:∀n,wH (bB.mk (t.base==3) t.bits,n,())=some (decide (inT (t.base==3) t.bits n),()):=λn=>QC _ n b1 b2
 ·have i1:=zY hi x.n
  have l1:=oP b1 b2 i1
  have w:IntKind.i64.wrap (0-bt t x.n)= -(bt t x.n):=by rw[w64 (by omega) (by omega)];omega
  have w':IntKind.i64.wrap (-(bt t x.n))= -(bt t x.n):=by rw[w64 (by omega) (by omega)]
  cases ck
  ·simp[e,hb,w',cj]
  ·by_cases hin:inT (t.base==3) t.bits (-(bt t x.n))<;>simp[e,hb,his,w',hin,cj]
 ·cases ck
  ·simp[e,hb,cj]
  ·by_cases hin:inT (t.base==3) t.bits x.n<;>simp[e,hb,his,hin,cj]
 ·simp[e,hb,cj]
end Go.Proofs.YtcghbgmmgcljkaaGreatDoor
end
section
namespace Go.Proofs.YtcghbgmmgcljkaaGreatDoor
set_option maxRecDepth 20000
def tu{α:Type}(f:aC)(d at1:Int)(res:Option aE)(l:List aC)(ck:Bool)(steps place high:Int)(en:Option bX)(pl st:List Item)(cnt:List Int)(sn:List Item)(t:α):=
 (f.name0,f.params,f.places,f.type0.base,f.type0.bits,f.type0.name0,f.type0.opt,f.type0.err,f.code,d,at1,res,l,ck,steps,place,high,en,pl.map val,(st.map val).reverse,cnt,sn.map val,t)
theorem lO(st:List Item):((st.map val).reverse).length=st.length:=by simp
theorem Fr(x:Item)(st:List Item):(((x::st).map val).reverse)[st.length]?=some (val x):=by
 rw[aac,ab3,aaj (by simp)];simp
theorem Jr(x:Item)(st:List Item):abb st.length (((x::st).map val).reverse)=(st.map val).reverse:=by
 rw[aac,ab3,List.take_left' (by simp)]
section
variable (f:aC) (d at1:Int) (res:Option aE) (l:List aC) (ck:Bool) (steps place high:Int) (en:Option bX) (pl st:List Item) (cnt:List Int) (sn:List Item)
theorem fA(x:Item)(hs:st.length<4294967296):cM (val x,tu f d at1 res l ck steps place high en pl st cnt sn ())=some (tu f d at1 res l ck steps place (aV d high (st.length+1)) en pl (x::st) cnt sn ()):=by
 rw[cM]
 have e:(st.map val).reverse++[val x]=((x::st).map val).reverse:=by simp
 have h1:(st.map val).reverse.length+[val x].length<=4294967296:=by simp;omega
 have h2:(((x::st).map val).reverse.length:Int)=((st.length+1:Nat):Int):=by rw[lO];rfl
 unfold tu
 simp only[]
 rw[adD h1]
 simp only[e,h2]
 unfold aV
 by_cases hd:d=1
 ·have hb:(d==1)=true:=by simpa using hd
  rw[adD hb,adD hd]
 ·have hb:¬(d==1)=true:=by simpa using hd
  rw[adC hb,adC hd]
theorem fh(x:Item)(hs:st.length<4294967296):cq (tu f d at1 res l ck steps place high en pl (x::st) cnt sn ())=some (tu f d at1 res l ck steps place high en pl st cnt sn (val x,())):=by
 rw[cq]
 have h1:((((x::st).map val).reverse).length:Int)=(st.length:Int)+1:=by rw[lO];rfl
 have w:IntKind.i64.wrap ((st.length:Int)+1-1)=(st.length:Int):=by rw[w64 (by omega) (by omega)];omega
 have h2:(0:Int)<=(st.length:Int):=by omega
 have h3:(st.length:Int)<(st.length:Int)+1:=by omega
 have h4:(st.length:Int)<=(st.length:Int)+1:=by omega
 unfold tu
 simp only[h1,w,h2,h3,h4,and_self,adz,Z5,Fr,Jr,Z1,ZY]
theorem Fh(x:Item)(hs:st.length<4294967296):gQ (tu f d at1 res l ck steps place high en pl (x::st) cnt sn ())=some (tu f d at1 res l ck steps place high en pl (x::st) cnt sn (val x,())):=by
 rw[gQ]
 have h1:((((x::st).map val).reverse).length:Int)=(st.length:Int)+1:=by rw[lO];rfl
 have w:IntKind.i64.wrap ((st.length:Int)+1-1)=(st.length:Int):=by rw[w64 (by omega) (by omega)];omega
 have h2:(0:Int)<=(st.length:Int):=by omega
 have h3:(st.length:Int)<(st.length:Int)+1:=by omega
 unfold tu
 simp only[h1,w,h2,h3,and_self,adz,Z5,Fr,Z1,ZY]
theorem y_(b:Bool)(q:Int):gR (b,q,tu f d at1 res l ck steps place high en pl st cnt sn ())=some (tu f d (if b=true then q else at1) res l ck steps place high en pl st cnt sn ()):=by
 rw[gR]
 unfold tu
 cases b<;>rfl
theorem nA(n loose why:Int)(hs:st.length<4294967296):eU (n,loose,why,tu f d at1 res l ck steps place high en pl st cnt sn ())=
 some (if why≠0/\ck=true then tu f d at1 res l ck steps place high (some (bX.mk 1 why)) pl st cnt sn ()else tu f d at1 res l ck steps place (aV d high (st.length+1)) en pl (cj (if why=0 then n else loose)::st) cnt sn ()):=by
 have hp:=λx=>fA f d at1 res l ck steps place high en pl st cnt sn x hs
 unfold tu at hp
 rw[eU]
 unfold tu
 by_cases hw:why=0
 ·subst hw
  simp only[bne_self_eq_false,Z0,adA,Z1,ZY,jd,hp,Z7,adz,ne_eq,not_true_eq_false,false_and]
 ·have hb:(why !=0)=true:=by simpa using hw
  cases ck
  ·simp only[hb,hw,adz,adA,Z0,Z1,ZY,jd,hp,Z7,and_false]
  ·simp only[hb,hw,adz,Z1,ZY,d9,Z7,ne_eq,not_false_eq_true,and_self]
theorem Fg(p:Int)(x:Item)(hp0:0<=p)(hp1:p<(pl.length:Int))(hs:sn.length<=100):jw (p,val x,tu f d at1 res l ck steps place high en pl st cnt sn ())=
 some (tu f d at1 res l ck steps place high en (pl.set p.toNat x) st cnt (if d=1/\place=p/\sn.length<100 then sn++[x]else sn) ()):=by
 rw[jw]
 unfold tu
 have h1:p<((pl.map val).length:Int):=by simpa using hp1
 obtain⟨y,hy⟩:∃y,(pl.map val)[p.toNat]?=some y:=⟨_,Z3 (by simp;omega)⟩
 have e:(pl.map val).set p.toNat (val x)=(pl.set p.toNat x).map val:=by rw[abD]
 have ev:aE.mk (aF.mk (val x).type0.base (val x).type0.bits (val x).type0.name0 (val x).type0.opt (val x).type0.err) (val x).n (val x).null (val x).err (aF.mk (val x).of0.base (val x).of0.bits (val x).of0.name0 (val x).of0.opt (val x).of0.err)=val x:=rfl
 simp only[hp0,hp1,and_self,adz,hy,Z1,ZY,e,Z7,aa5]
 by_cases hd:d=1
 ·have hb:(d==1)=true:=by simpa using hd
  by_cases hpl:place=p
  ·have hb2:(p==place)=true:=by simp[hpl]
   by_cases hn:sn.length<100
   ·have hn':(sn.length:Int)<100:=by omega
    have hl:sn.length+1<=4294967296:=by omega
    simp only[adz,hn',adE,Z7,hl,hd,hpl,hn,and_self,beq_self_eq_true,ZY,aaV,aac,aaT]
   ·have hn':¬(sn.length:Int)<100:=by omega
    simp only[adz,hn',adF,Z0,adA,hd,hpl,hn,and_false,beq_self_eq_true,ZY]
  ·have hb2:(p==place)=false:=by simp;exactλh=>hpl h.symm
   simp only[hb2,adz,Z0,adA,hd,hpl,false_and,and_false,beq_self_eq_true,ZY]
 ·have hb:(d==1)=false:=by simpa using hd
  simp only[hb,Z0,adA,hd,false_and,ZY]
end
end Go.Proofs.YtcghbgmmgcljkaaGreatDoor
end
section
namespace Go.Proofs.YtcghbgmmgcljkaaGreatDoor
set_option maxRecDepth 20000
section
variable (f:aC) (d at1:Int) (res:Option aE) (l:List aC) (ck:Bool) (steps place high:Int) (en:Option bX) (pl st:List Item) (cnt:List Int) (sn:List Item) (c:aQ)
theorem p77(hs:st.length<4294967000)(ht:dZ c.type0=true):fL (c,tu f d at1 res l ck steps place high en pl st cnt sn ())=
 some (tu f d at1 res l ck steps place (aV d high (st.length+1)) en pl (cj (lq c.type0 c.a)::st) cnt sn ()):=by
 have hp:=λx=>fA f d at1 res l ck steps place high en pl st cnt sn x (by omega)
 unfold tu at hp
 rw[fL];unfold tu
 simp only[rN _ _ ht,jd,hp,Z1,ZY,adz]
theorem p78(hs:st.length<4294967000):fM (c,tu f d at1 res l ck steps place high en pl st cnt sn ())=
 some (tu f d at1 res l ck steps place (aV d high (st.length+1)) en pl (Item.mk 0 true (ZZ #[])::st) cnt sn ()):=by
 have hp:=fA f d at1 res l ck steps place high en pl st cnt sn (Item.mk 0 true (ZZ #[])) (by omega)
 unfold tu val at hp
 rw[fM];unfold tu val
 simp only[hp,Z1,ZY,adz]
theorem p95(hs:st.length<4294967000):f7 (c,tu f d at1 res l ck steps place high en pl st cnt sn ())=
 some (tu f d at1 res l ck steps place (aV d high (st.length+1)) en pl (Item.mk 0 false c.name0::st) cnt sn ()):=by
 have hp:=fA f d at1 res l ck steps place high en pl st cnt sn (Item.mk 0 false c.name0) (by omega)
 unfold tu val at hp
 rw[f7];unfold tu val
 simp only[hp,Z1,ZY,adz]
theorem p79(hs:st.length<4294967000)(h0:0<=c.a)(h1:c.a<(pl.length:Int)):fN (c,tu f d at1 res l ck steps place high en pl st cnt sn ())=
 some (tu f d at1 res l ck steps place (aV d high (st.length+1)) en pl (pl.getD c.a.toNat (cj 0)::st) cnt sn ()):=by
 have hp:=λx=>fA f d at1 res l ck steps place high en pl st cnt sn x (by omega)
 unfold tu at hp
 have hlt:c.a.toNat<pl.length:=by omega
 have e:(pl.map val)[c.a.toNat]?=some (val (pl.getD c.a.toNat (cj 0))):=by
  rw[Z6,aa0,Z3 hlt];rfl
 have h1':c.a<((pl.map val).length:Int):=by simpa using h1
 rw[fN];unfold tu
 simp only[h0,h1',and_self,adz,e,hp,Z1,ZY]
theorem p80(x:Item)(hs:st.length<4294967000)(h0:0<=c.a)(h1:c.a<(pl.length:Int))(hn:sn.length<=100):fO (c,tu f d at1 res l ck steps place high en pl (x::st) cnt sn ())=
 some (tu f d at1 res l ck steps place high en (pl.set c.a.toNat x) st cnt (if d=1/\place=c.a/\sn.length<100 then sn++[x]else sn) ()):=by
 have hp:=fh f d at1 res l ck steps place high en pl st cnt sn x (by omega)
 have hq:=Fg f d at1 res l ck steps place high en pl st cnt sn c.a x h0 h1 hn
 unfold tu at hp hq
 rw[fO];unfold tu
 simp only[hp,hq,adz,Z1,ZY,Z7,aaR]
theorem p81(x:Item)(hs:st.length<4294967000):fP (c,tu f d at1 res l ck steps place high en pl (x::st) cnt sn ())=
 some (tu f d at1 res l ck steps place high en pl st cnt sn ()):=by
 have hp:=fh f d at1 res l ck steps place high en pl st cnt sn x (by omega)
 unfold tu at hp
 rw[fP];unfold tu
 simp only[hp,adz,Z1,ZY]
theorem p82(y x:Item)(hs:st.length<4294967000)(ht:cL c.type0=true)(ho:5<=c.a/\c.a<=17):fQ (c,tu f d at1 res l ck steps place high en pl (x::y::st) cnt sn ())=
 some (if(opS ck c.a c.type0 y x).2=0 then tu f d at1 res l ck steps place (aV d high (st.length+1)) en pl ((opS ck c.a c.type0 y x).1::st) cnt sn ()
  else tu f d at1 res l ck steps place high (some (bX.mk 1 (opS ck c.a c.type0 y x).2)) pl st cnt sn ()):=by
 have hp:=λx st hs=>fh f d at1 res l ck steps place high en pl st cnt sn x hs
 have hm:=λn lo w=>nA f d at1 res l ck steps place high en pl st cnt sn n lo w (by omega)
 unfold tu at hp hm
 obtain⟨_,b1,b2⟩:=gi ht
 have i1:=zY ht y.n
 have i2:=zY ht x.n
 have hc:=Ag c.a (bB.mk (c.type0.base==3) c.type0.bits) _ _ b1 b2 i1 i2 ho
 have hl:=Hr c.a (bB.mk (c.type0.base==3) c.type0.bits) _ _ b1 b2 i1 i2 ho
 have en:∀z,(val z).n=z.n:=λ_=>rfl
 rw[fQ];unfold tu
 rw[show((acl val (x::y::st)).reverse)=((acl val (x::(y::st))).reverse)from rfl]
 simp only[hp x (y::st) (by simp;omega),hp y st (by omega),en,gf _ _ ht,kW,hc,hl,hm,adz,Z1,ZY]
 unfold opS
 generalize doS c.a (c.type0.base==3) c.type0.bits (bt c.type0 y.n) (bt c.type0 x.n)=r
 by_cases hr:r.2=0
 ·cases ck<;>simp only[hr,ne_eq,not_true_eq_false,false_and,adA,adz,Z0]
 ·cases ck
  ·simp only[hr,Z0,and_false,adA,adz]
  ·simp only[hr,ne_eq,not_false_eq_true,and_self,adz,adA]
theorem p83(y x:Item)(hs:st.length<4294967000)(ho:18<=c.a/\c.a<=23):fR (c,tu f d at1 res l ck steps place high en pl (x::y::st) cnt sn ())=
 some (tu f d at1 res l ck steps place (aV d high (st.length+1)) en pl (gc (jJ c.a y.n x.n)::st) cnt sn ()):=by
 have hp:=λx st hs=>fh f d at1 res l ck steps place high en pl st cnt sn x hs
 have hq:=λx=>fA f d at1 res l ck steps place high en pl st cnt sn x (by omega)
 unfold tu at hp hq
 have en:∀z,(val z).n=z.n:=λ_=>rfl
 have w:IntKind.i64.wrap (c.a-18)=c.a-18:=w64 (by omega) (by omega)
 have w1:0<=c.a-18:=by omega
 have w2:c.a-18<6:=by omega
 have e:[y.n==x.n,y.n !=x.n,decide (y.n<x.n),decide (y.n<=x.n),decide (y.n>x.n),decide (y.n>=x.n)][(c.a-18).toNat]?=some (jJ c.a y.n x.n):=by
  have hk:c.a=18\/c.a=19\/c.a=20\/c.a=21\/c.a=22\/c.a=23:=by omega
  rcases hk with h|h|h|h|h|h<;>rw[h]<;>rfl
 rw[fR];unfold tu
 simp only[hp x (y::st) (by simp;omega),hp y st (by omega),en,w,w1,w2,and_self,e,pk,hq,adz,Z1,ZY,show((6:Nat):Int)=6 from rfl]
theorem p84(x:Item)(hs:st.length<4294967000)(ht:cL c.type0=true):fS (c,tu f d at1 res l ck steps place high en pl (x::st) cnt sn ())=
 some (if(bA ck 7 c.type0 x).2=0 then tu f d at1 res l ck steps place (aV d high (st.length+1)) en pl ((bA ck 7 c.type0 x).1::st) cnt sn ()
  else tu f d at1 res l ck steps place high (some (bX.mk 1 (bA ck 7 c.type0 x).2)) pl st cnt sn ()):=by
 have hp:=λx st hs=>fh f d at1 res l ck steps place high en pl st cnt sn x hs
 have hm:=λn lo w=>nA f d at1 res l ck steps place high en pl st cnt sn n lo w (by omega)
 unfold tu at hp hm
 obtain⟨_,b1,b2⟩:=gi ht
 have i1:=zY ht x.n
 have l1:=oP b1 b2 i1
 have w:IntKind.i64.wrap (0-bt c.type0 x.n)= -(bt c.type0 x.n):=by rw[w64 (by omega) (by omega)];omega
 have hn:=Nh (bB.mk (c.type0.base==3) c.type0.bits) _ b1 b2 i1
 have en:∀z,(val z).n=z.n:=λ_=>rfl
 rw[fS];unfold tu
 simp only[hp x st (by omega),en,gf _ _ ht,kW,hn,w,adz,Z1,ZY]
 unfold bA
 by_cases hin:inT (c.type0.base==3) c.type0.bits (-(bt c.type0 x.n))
 ·have e:=lD b1 b2 hin
  have e':bt c.type0 (-(bt c.type0 x.n))= -(bt c.type0 x.n):=e
  cases ck<;>simp[hin,hm,e']
 ·cases ck<;>simp[hin,hm]
theorem p85(x:Item)(hs:st.length<4294967000):fT (c,tu f d at1 res l ck steps place high en pl (x::st) cnt sn ())=
 some (tu f d at1 res l ck steps place (aV d high (st.length+1)) en pl (gc (x.n==0)::st) cnt sn ()):=by
 have hp:=λx st hs=>fh f d at1 res l ck steps place high en pl st cnt sn x hs
 have hq:=λx=>fA f d at1 res l ck steps place high en pl st cnt sn x (by omega)
 unfold tu at hp hq
 have en:∀z,(val z).n=z.n:=λ_=>rfl
 rw[fT];unfold tu
 simp only[hp x st (by omega),en,pk,hq,adz,Z1,ZY]
theorem p86(x:Item)(hs:st.length<4294967000)(ht:cL c.type0=true):fU (c,tu f d at1 res l ck steps place high en pl (x::st) cnt sn ())=
 some (if(bA ck 9 c.type0 x).2=0 then tu f d at1 res l ck steps place (aV d high (st.length+1)) en pl ((bA ck 9 c.type0 x).1::st) cnt sn ()
  else tu f d at1 res l ck steps place high (some (bX.mk 1 (bA ck 9 c.type0 x).2)) pl st cnt sn ()):=by
 have hp:=λx st hs=>fh f d at1 res l ck steps place high en pl st cnt sn x hs
 have hm:=λn lo w=>nA f d at1 res l ck steps place high en pl st cnt sn n lo w (by omega)
 unfold tu at hp hm
 obtain⟨_,b1,b2⟩:=gi ht
 have hn:=Hu (bB.mk (c.type0.base==3) c.type0.bits) x.n b1 b2
 have en:∀z,(val z).n=z.n:=λ_=>rfl
 rw[fU];unfold tu
 simp only[hp x st (by omega),en,kW,hn,adz,Z1,ZY]
 unfold bA
 by_cases hin:inT (c.type0.base==3) c.type0.bits x.n
 ·have e:=lD b1 b2 hin
  have e':bt c.type0 x.n=x.n:=e
  cases ck<;>simp[hin,hm,e',gf _ _ ht]
 ·cases ck<;>simp[hin,hm,gf _ _ ht]
theorem p87(x:Item)(hs:st.length<4294967000)(ht:cL c.type0=true):fV (c,tu f d at1 res l ck steps place high en pl (x::st) cnt sn ())=
 some (tu f d at1 res l ck steps place (aV d high (st.length+1)) en pl (cj (bt c.type0 x.n)::st) cnt sn ()):=by
 have hp:=λx st hs=>fh f d at1 res l ck steps place high en pl st cnt sn x hs
 have hq:=λx=>fA f d at1 res l ck steps place high en pl st cnt sn x (by omega)
 unfold tu at hp hq
 have en:∀z,(val z).n=z.n:=λ_=>rfl
 rw[fV];unfold tu
 simp only[hp x st (by omega),en,gf _ _ ht,jd,hq,adz,Z1,ZY]
theorem p88(x:Item)(hs:st.length<4294967000):fW (c,tu f d at1 res l ck steps place high en pl (x::st) cnt sn ())=
 some (if(bA ck 11 c.type0 x).2=0 then tu f d at1 res l ck steps place (aV d high (st.length+1)) en pl ((bA ck 11 c.type0 x).1::st) cnt sn ()
  else tu f d at1 res l ck steps place high (some (bX.mk 1 (bA ck 11 c.type0 x).2)) pl st cnt sn ()):=by
 have hp:=λx st hs=>fh f d at1 res l ck steps place high en pl st cnt sn x hs
 have hm:=λn lo w=>nA f d at1 res l ck steps place high en pl st cnt sn n lo w (by omega)
 unfold tu at hp hm
 have en:∀z,(val z).n=z.n:=λ_=>rfl
 have en2:∀z,(val z).null=z.null:=λ_=>rfl
 rw[fW];unfold tu
 simp only[hp x st (by omega),en2,adz,Z1,ZY]
 unfold bA
 cases hx:x.null<;>cases ck<;>simp[hm,en]
theorem p89(x:Item)(hs:st.length<4294967000):fX (c,tu f d at1 res l ck steps place high en pl (x::st) cnt sn ())=
 some (if x.null=true then tu f d c.a res l ck steps place high en pl st cnt sn ()else tu f d at1 res l ck steps place high en pl (x::st) cnt sn ()):=by
 have hp:=λx st hs=>fh f d at1 res l ck steps place high en pl st cnt sn x hs
 have hq:=Fh f d at1 res l ck steps place high en pl st cnt sn x (by omega)
 unfold tu at hp hq
 have en2:∀z,(val z).null=z.null:=λ_=>rfl
 rw[fX];unfold tu
 simp only[hq,hp x st (by omega),en2,adz,Z1,ZY]
 cases hx:x.null<;>simp
theorem p90(x:Item)(hs:st.length<4294967000):fY (c,tu f d at1 res l ck steps place high en pl (x::st) cnt sn ())=
 some (if x.err=ZZ #[]then tu f d at1 res l ck steps place high en pl (x::st) cnt sn ()else tu f d c.a res l ck steps place high en pl (x::st) cnt sn ()):=by
 have hq:=Fh f d at1 res l ck steps place high en pl st cnt sn x (by omega)
 have hj:=λb q=>y_ f d at1 res l ck steps place high en pl (x::st) cnt sn b q
 unfold tu at hq hj
 have en2:∀z,(val z).err=z.err:=λ_=>rfl
 rw[fY];unfold tu
 simp only[hq,hj,en2,ek,adz,Z1,ZY]
 by_cases hx:x.err=ZZ #[]<;>simp[hx]
theorem p91:fZ (c,tu f d at1 res l ck steps place high en pl st cnt sn ())=some (tu f d c.a res l ck steps place high en pl st cnt sn ()):=by
 rw[fZ];rfl
theorem p92(x:Item)(hs:st.length<4294967000):f5 (c,tu f d at1 res l ck steps place high en pl (x::st) cnt sn ())=
 some (tu f d (if x.n=0 then c.a else at1) res l ck steps place high en pl st cnt sn ()):=by
 have hp:=λx st hs=>fh f d at1 res l ck steps place high en pl st cnt sn x hs
 have hj:=λb q=>y_ f d at1 res l ck steps place high en pl st cnt sn b q
 unfold tu at hp hj
 have en:∀z,(val z).n=z.n:=λ_=>rfl
 rw[f5];unfold tu
 simp only[hp x st (by omega),hj,en,beq_iff_eq,adz,Z1,ZY]
theorem p94(x:Item)(hs:st.length<4294967000):f6 (c,tu f d at1 res l ck steps place high en pl (x::st) cnt sn ())=
 some (tu f d at1 (some (val x)) l ck steps place high en pl st cnt sn ()):=by
 have hp:=λx st hs=>fh f d at1 res l ck steps place high en pl st cnt sn x hs
 unfold tu at hp
 rw[f6];unfold tu
 simp only[hp x st (by omega),adz,Z1,ZY]
theorem p96:f8 (c,tu f d at1 res l ck steps place high en pl st cnt sn ())=
 some (if ck=true then tu f d at1 res l ck steps place high (some (bX.mk 1 c.a)) pl st cnt sn ()else tu f d at1 (some (val (cj 0))) l ck steps place high en pl st cnt sn ()):=by
 rw[f8];unfold tu
 cases ck
 ·simp only[jd,Z0,adA,Z1,ZY]
 ·simp only[d9,adz,Z1,ZY]
end
end Go.Proofs.YtcghbgmmgcljkaaGreatDoor
end
section
namespace Go.Proofs.YtcghbgmmgcljkaaGreatDoor
set_option maxRecDepth 20000
structure OkG (l:List aC) (g:Lg):Prop where
 s0:0<=g.steps
 s1:g.steps<=40000
 kind:g.kind=0
 stop:g.stop=0
 cnt:g.counts.length=l.length
 seen:g.seen.length<=100
structure OkA (l:List aC) (f:aC) (d:Int) (a:Nat) (pl st:List Item):Prop where
 mem:f∈l
 reach:Reach f a (st.length:Int)
 pls:(pl.length:Int)=f.places
 d1:1<=d
 d2:d<=30
theorem Fw{d place:Int}{c:aQ}{st seen:List Item}(h:seen.length<=100):(iA d place c st seen).length<=100:=by
 unfold iA
 split
 ·rw[aas,aa5];omega
 ·exact h
theorem OkA.st_le{l:List aC}{f:aC}{d:Int}{a:Nat}{pl st:List Item}(A:OkA l f d a pl st)(R:nL l):st.length<=65:=by
 have:=w9 (R.fns f A.mem).2.2.2 A.reach
 omega
theorem OkA.code{l:List aC}{f:aC}{d:Int}{a:Nat}{pl st:List Item}(A:OkA l f d a pl st)(R:nL l):∃c,f.code[a]?=some c/\c∈f.code/\di l f c=true/\a<f.code.length/\f.code.length<=3000:=by
 have S:=(R.fns f A.mem).2.2.2
 have h:=kZ S.1 A.reach
 exact⟨_,Z3 h,aaQ h,wh (R.fns f A.mem).1 (aaQ h),h,S.2.1⟩
theorem wV{l:List aC}(R:nL l){f:aC}{d:Int}{a:Nat}{pl st:List Item}(A:OkA l f d a pl st){g:Lg}(G:OkG l g)(hs:¬g.steps=40000){c:aQ}(hc:f.code[a]?=some c)
 {ck:Bool}{place at1:Int}{pl1 st1:List Item}(h:cN ck c ((a:Int)+1) pl st= .go at1 pl1 st1):
 (∃b:Nat,at1=(b:Int)/\OkA l f d b pl1 st1)/\OkG l {g with steps:=g.steps+1,high:=aV d g.high st1.length,seen:=iA d place c st g.seen}:=by
 have hcode:=wh (R.fns f A.mem).1 (Z_ hc)
 obtain⟨hk,hw⟩:=jC R A.mem A.reach hc
 obtain⟨h1,h2⟩:=O7 hcode hk h
 obtain⟨b,hb,hr⟩:=hw _ _ h1
 refine⟨⟨b,hb,A.mem,hr,by rw[h2];exact A.pls,A.d1,A.d2⟩,?_⟩
 have:=G.s0
 have:=G.s1
 exact⟨by simp only[];omega,by simp only[];omega,G.kind,G.stop,G.cnt,Fw G.seen⟩
theorem o9{l:List aC}(R:nL l){f:aC}{d:Int}{a:Nat}{pl st:List Item}(A:OkA l f d a pl st){c:aQ}(hc:f.code[a]?=some c)(e:c.op=16):
 ∃(k:Nat) (h:aC) (b:Nat),cw l c.name0=(k:Int)/\k<l.length/\l[k]?=some h/\c.b=(b:Int)/\b<=st.length/\(b:Int)=h.params/\(b:Int)<=h.places/\h.places<=200/\
  (∀x,OkA l f d (a+1) pl (x::st.drop b))/\(d+1<=30->OkA l h (d+1) 0 (cH h (st.take b).reverse) []):=by
 have hcode:=wh (R.fns f A.mem).1 (Z_ hc)
 obtain⟨hk,hw⟩:=jC R A.mem A.reach hc
 obtain⟨k,h,h1,h2,h3,h4,h5,h6⟩:=ML hcode e
 have hm:=Z_ h3
 obtain⟨_,hp0,hp1,_⟩:=R.fns h hm
 have hp2:=R.places h hm
 obtain⟨hk1,hk2⟩:=hk
 have hb:c.b=((c.b.toNat:Nat):Int):=by omega
 have hble:c.b.toNat<=st.length:=by omega
 refine⟨k,h,c.b.toNat,h1,h2,h3,hb,hble,by omega,by omega,hp2,λx=> ?_,λhd=> ?_⟩
 ·obtain⟨b',hb',hr⟩:=hw ((a:Int)+1) (cF c (st.length:Int)) (cU.mpr (.inr ⟨by unfold iy;simp[e],rfl,rfl⟩))
  have eb:b'=a+1:=by omega
  subst eb
  refine⟨A.mem,?_,A.pls,A.d1,A.d2⟩
  have en:cF c (st.length:Int)=(((x::st.drop c.b.toNat).length:Nat):Int):=by
   unfold cF;rw[h5,h6,aaa,aaE];omega
  rw[<-en];exact hr
 ·refine⟨hm,Reach.start,?_,by have:=A.d1;omega,hd⟩
  unfold cH
  rw[aas,aaP,aaY,aaM]
  omega
theorem nh{d h:Int}{n:Nat}(hd:d=1):(n:Int)<=aV d h n:=by unfold aV;rw[adD hd];omega
theorem yu{d h:Int}{n:Nat}(hd:d≠1):aV d h n=h:=by unfold aV;rw[adC hd]
theorem gl{d h:Int}{n:Nat}(hd:d=1->(n:Int)<=h):aV d h n=h:=by unfold aV;split<;>omega
structure Left (l:List aC) (d:Int) (g:Lg) (r:Item×Lg):Prop where
 s0:g.steps<=r.2.steps
 s1:r.2.steps<=40000
 cnt:r.2.counts.length=l.length
 seen:r.2.seen.length<=100
 high:d≠1->r.2.high=g.high
 stop:r.2.kind=0->r.2.stop=0
 zero:r.2.kind≠0->r.1=cj 0
 kinds:r.2.kind=0\/r.2.kind=1\/(r.2.kind=2/\r.2.stop=0)
theorem S5{p:Prop}(h:(2:Int)=0):p:=absurd h (by decide)
theorem Xv{p:Prop}(h:(1:Int)=0):p:=absurd h (by decide)
theorem gK{l:List aC}(R:nL l)(ck:Bool)(place:Int):∀(N:Nat) (f:aC) (d:Int) (a:Nat) (pl st:List Item) (g:Lg),OkA l f d a pl st->OkG l g->Left l d g (gJ l ck place N f d (a:Int) pl st g)
 |0,f,d,a,pl,st,g,A,G=>by
  rw[gJ]
  exact⟨aaz _,G.s1,G.cnt,G.seen,λ_=>rfl,λh=>S5 h,λ_=>rfl, .inr (.inr ⟨rfl,G.stop⟩)⟩
 |N+1,f,d,a,pl,st,g,A,G=>by
  obtain⟨c,hc,hcm,hcode,hal,hl3⟩:=A.code R
  have s0:=G.s0
  have s1:=G.s1
  rw[gJ]
  by_cases hs:g.steps=40000
  ·rw[adD hs]
   exact⟨aaz _,G.s1,G.cnt,G.seen,λ_=>rfl,λh=>S5 h,λ_=>rfl, .inr (.inr ⟨rfl,G.stop⟩)⟩
  ·rw[adC hs]
   simp only[Z5,hc]
   cases ha:cN ck c ((a:Int)+1) pl st with
   |go at1 pl1 st1=>
    obtain⟨⟨b,hb,A'⟩,G'⟩:=wV (place:=place) R A G hs hc ha
    simp only[]
    subst hb
    have ih:=gK R ck place N f d b pl1 st1 _ A' G'
    exact⟨by have:=ih.s0;simp only[]at this;omega,ih.s1,ih.cnt,ih.seen,λhd=>by rw[ih.high hd];exact yu hd,ih.stop,ih.zero,ih.kinds⟩
   |ret x=>exact⟨by simp only[];omega,by simp only[];omega,G.cnt,G.seen,λ_=>rfl,λ_=>G.stop,λh=>absurd G.kind h, .inl G.kind⟩
   |stop w=>
    exact⟨by simp only[];omega,by simp only[];omega,G.cnt,G.seen,λ_=>rfl,λh=>Xv h,λ_=>rfl, .inr (.inl rfl)⟩
   |call=>
    obtain⟨k,h,b,h1,h2,h3,h4,h5,h6,h7,h8,h9,h10⟩:=o9 R A hc ((rP hcode).mp ha)
    simp only[h1,h3,h4,Z5]
    by_cases hd:30<d+1
    ·rw[adD hd]
     exact⟨by simp only[zu];omega,by simp only[zu];omega,G.cnt,G.seen,λ_=>rfl,λh=>S5 h,λ_=>rfl, .inr (.inr ⟨rfl,G.stop⟩)⟩
    ·rw[adC hd]
     have G1:OkG l {g with steps:=g.steps+1,counts:=pW g.counts k}:=⟨by simp only[];omega,by simp only[];omega,G.kind,G.stop,by simp only[pW,aaR];exact G.cnt,G.seen⟩
     have L:=gK R ck place N h (d+1) 0 _ [] _ (h10 (by omega)) G1
     rw[aao]at L
     generalize gJ l ck place N h (d+1) 0 (cH h (st.take b).reverse) [] {g with steps:=g.steps+1,counts:=pW g.counts k}=r at L⊢
     have hd1:=A.d1
     have L0:=L.s0
     have L1:=L.s1
     have Lh:=L.high (by omega)
     simp only[]at L0 Lh
     by_cases hk:r.2.kind=0
     ·rw[adD hk]
      have G2:OkG l {r.2 with high:=aV d r.2.high (st.length-b+1)}:=⟨by simp only[];omega,L1,hk,L.stop hk,L.cnt,L.seen⟩
      have ih:=gK R ck place N f d (a+1) pl _ _ (h9 r.1) G2
      have e1:(((a+1:Nat):Int))=(a:Int)+1:=rfl
      rw[e1]at ih
      exact⟨by have:=ih.s0;simp only[]at this;omega,ih.s1,ih.cnt,ih.seen,λhd=>by rw[ih.high hd];simp only[];rw[yu hd,Lh],ih.stop,ih.zero,ih.kinds⟩
     ·rw[adC hk]
      exact⟨by simp only[];omega,L1,L.cnt,L.seen,λ_=>Lh,L.stop,λ_=>rfl,L.kinds⟩
end Go.Proofs.YtcghbgmmgcljkaaGreatDoor
end
section
namespace Go.Proofs.YtcghbgmmgcljkaaGreatDoor
set_option maxRecDepth 20000
set_option maxHeartbeats 8000000
def V2:List (Option Nat):=[some 77,some 78,some 79,some 80,some 81,some 82,some 83,some 84,some 85,some 86,some 87,some 88,some 89,some 90,some 91,some 92,some 93,some 94,some 95,some 96]
theorem Ss:QN ()=some (V2,()):=by rw[QN];rfl
def lt(b e:Nat)(l:List aC)(ck:Bool)(steps place high:Int)(en:Option bX)(argv:List aE)(z:aE)(f:aC)(d at1:Int)(res:Option aE)(cnt:List Int)(sn pl st:List Item):=
 ((b:Int),(e:Int),l,ck,steps,place,high,en,argv,z,f.name0,f.params,f.places,f.type0.base,f.type0.bits,f.type0.name0,f.type0.opt,f.type0.err,f.code,d,at1,res,V2,cnt,sn.map val,pl.map val,(st.map val).reverse,())
abbrev TuT:=ByteArray×Int×Int×Int×Int×ByteArray×Bool×Bool×List aQ×Int×Int×Option aE×List aC×Bool×Int×Int×Int×Option bX×List aE×List aE×List Int×List aE×Unit
def LpS(n:aQ×TuT->Option TuT)(op:Int)(seen stk:Bool):Prop:=
 ∀(b e:Nat) (l:List aC) (ck:Bool) (steps place high:Int) (argv:List aE) (z:aE) (f:aC) (d:Int) (a:Nat) (cnt:List Int) (sn pl st:List Item) {c:aQ},
  c.op=op->f.code[a]?=some c->¬steps=40000->0<=steps->steps<=40000->a<=3000->∀{at2 steps2 high2:Int} {res2:Option aE} {en2:Option bX} {pl2 st2:List Item} {cnt2:List Int} {sn2:List Item},
  n (c,tu f d ((a:Int)+1) none l ck (steps+1) place high none pl st cnt sn ())=some (tu f d at2 res2 l ck steps2 place high2 en2 pl2 st2 cnt2 sn2 ())->
  pl2.length=pl.length->cnt2.length=cnt.length->(seen=true->sn2.length=sn.length)->(stk=true->st2.length=st.length)->
  aX (lt b e l ck steps place high none argv z f d (a:Int) none cnt sn pl st)=if en2.isSome=true then some (aaG ((b:Int),(e:Int),l,ck,steps2,place,high2,en2,argv,cnt2,sn2.map val,val (cj 0),()))
   else aX (lt b e l ck steps2 place high2 en2 argv z f d at2 res2 cnt2 sn2 pl2 st2)
theorem lps:LpS fL 0 true false/\LpS fM 1 true false/\LpS fN 2 true false/\LpS fO 3 false false/\LpS fP 4 true false/\LpS fQ 5 true false/\LpS fR 6 true false/\LpS fS 7 true false/\LpS fT 8 true false/\LpS fU 9 true false/\LpS fV 10 true false/\LpS fW 11 true false/\LpS fX 12 true false/\LpS fY 13 true true/\LpS fZ 14 true true/\LpS f5 15 true false/\LpS n_93sae8a 16 false false/\LpS f6 17 true false/\LpS f7 18 true false/\LpS f8 19 true true:=by
 refine⟨?_,?_,?_,?_,?_,?_,?_,?_,?_,?_,?_,?_,?_,?_,?_,?_,?_,?_,?_,?_⟩<;>(
  intro b e l ck steps place high argv z f d a cnt sn pl st c h hc hs h0 h1 ha at2 steps2 high2 res2 en2 pl2 st2 cnt2 sn2 hr e1 e2 e3 e4
  have w1:IntKind.i64.wrap ((a:Int)+1)=(a:Int)+1:=w64 (by omega) (by omega)
  have w2:IntKind.i64.wrap (steps+1)=steps+1:=w64 (by omega) (by omega)
  have hb:(steps==40000)=false:=by simpa using hs
  have ha0:(0:Int)<=(a:Int):=by omega
  have hq:((20:Nat):Int)=20:=rfl
  unfold tu at hr
  conv=>lhs;rw[aX]
  unfold lt V2
  first
   |simp only[acb,adz,hb,Z0,adA,ha0,Z5,hc,Z1,ZY,h,adu,adt,ac6,ab9,aa4,w1,w2,hr,Z7,aaY,e1,e2,e3 rfl,e4 rfl,and_self,acX,adr,hq]
   |simp only[acb,adz,hb,Z0,adA,ha0,Z5,hc,Z1,ZY,h,adu,adt,ac6,ab9,aa4,w1,w2,hr,Z7,aaY,e1,e2,e3 rfl,and_self,acX,adr,hq]
   |simp only[acb,adz,hb,Z0,adA,ha0,Z5,hc,Z1,ZY,h,adu,adt,ac6,ab9,aa4,w1,w2,hr,Z7,aaY,e1,e2,and_self,acX,adr,hq]
  rfl)
theorem Xj:LpS fL 0 true false:=lps.1
theorem Xk:LpS fM 1 true false:=lps.2.1
theorem Xl:LpS fN 2 true false:=lps.2.2.1
theorem Xm:LpS fO 3 false false:=lps.2.2.2.1
theorem Xn:LpS fP 4 true false:=lps.2.2.2.2.1
theorem WS:LpS fQ 5 true false:=lps.2.2.2.2.2.1
theorem Xo:LpS fR 6 true false:=lps.2.2.2.2.2.2.1
theorem WT:LpS fS 7 true false:=lps.2.2.2.2.2.2.2.1
theorem Xp:LpS fT 8 true false:=lps.2.2.2.2.2.2.2.2.1
theorem WU:LpS fU 9 true false:=lps.2.2.2.2.2.2.2.2.2.1
theorem Xq:LpS fV 10 true false:=lps.2.2.2.2.2.2.2.2.2.2.1
theorem WV:LpS fW 11 true false:=lps.2.2.2.2.2.2.2.2.2.2.2.1
theorem WW:LpS fX 12 true false:=lps.2.2.2.2.2.2.2.2.2.2.2.2.1
theorem WX:LpS fY 13 true true:=lps.2.2.2.2.2.2.2.2.2.2.2.2.2.1
theorem Xr:LpS fZ 14 true true:=lps.2.2.2.2.2.2.2.2.2.2.2.2.2.2.1
theorem Xs:LpS f5 15 true false:=lps.2.2.2.2.2.2.2.2.2.2.2.2.2.2.2.1
theorem TN:LpS n_93sae8a 16 false false:=lps.2.2.2.2.2.2.2.2.2.2.2.2.2.2.2.2.1
theorem Xt:LpS f6 17 true false:=lps.2.2.2.2.2.2.2.2.2.2.2.2.2.2.2.2.2.1
theorem Xu:LpS f7 18 true false:=lps.2.2.2.2.2.2.2.2.2.2.2.2.2.2.2.2.2.2.1
theorem WY:LpS f8 19 true true:=lps.2.2.2.2.2.2.2.2.2.2.2.2.2.2.2.2.2.2.2
end Go.Proofs.YtcghbgmmgcljkaaGreatDoor
end
section
namespace Go.Proofs.YtcghbgmmgcljkaaGreatDoor
set_option maxRecDepth 20000
set_option maxHeartbeats 4000000
def Dn(g:Lg):Option bX:=if g.kind=0 then none else some (bX.mk g.kind g.stop)
def lr(b e:Nat)(l:List aC)(ck:Bool)(steps place high:Int)(en:Option bX)(argv:List aE)(z:aE)(f:aC)(d at1:Int)(res:Option aE)(cnt:List Int)(sn pl st:List Item):=
 ((b:Int),(e:Int),l,ck,steps,place,high,en,argv,z,f.name0,f.params,f.places,f.type0.base,f.type0.bits,f.type0.name0,f.type0.opt,f.type0.err,f.code,d,at1,res,cnt,sn.map val,pl.map val,(st.map val).reverse,())
theorem D5(b e:Nat)(l:List aC)(ck:Bool)(steps place high:Int)(en:Option bX)(argv:List aE)(z:aE)(f:aC)(d at1:Int)(v:aE)(cnt:List Int)(sn pl st:List Item):
 aX (lt b e l ck steps place high en argv z f d at1 (some v) cnt sn pl st)=some (aa8 (lr b e l ck steps place high en argv z f d at1 (some v) cnt sn pl st)):=by
 rw[aX]
 unfold lt lr
 simp only[Option.isNone_some,Z0,adA,Z5]
theorem uh(b e:Nat)(l:List aC)(ck:Bool)(place high:Int)(argv:List aE)(z:aE)(f:aC)(d at1:Int)(cnt:List Int)(sn pl st:List Item):
 aX (lt b e l ck 40000 place high none argv z f d at1 none cnt sn pl st)=some (aaG ((b:Int),(e:Int),l,ck,40000,place,high,some (bX.mk 2 0),argv,cnt,sn.map val,val (cj 0),())):=by
 rw[aX]
 unfold lt
 simp only[acb,adz,beq_self_eq_true,d9,Z1,ZY,Z5]
 rfl
def vA(b e:Nat)(l:List aC)(ck:Bool)(place:Int)(argv:List aE)(z:aE)(f:aC)(d:Int)(a:Nat)(g:Lg)(pl st:List Item)(r:Item×Lg):Prop:=
 (r.2.kind=0/\∃at2 pl2 st2,aX (lt b e l ck g.steps place g.high none argv z f d (a:Int) none g.counts g.seen pl st)=some (aa8 (lr b e l ck r.2.steps place r.2.high none argv z f d at2 (some (val r.1)) r.2.counts r.2.seen pl2 st2)))\/
 (r.2.kind≠0/\aX (lt b e l ck g.steps place g.high none argv z f d (a:Int) none g.counts g.seen pl st)=some (aaG ((b:Int),(e:Int),l,ck,r.2.steps,place,r.2.high,some (bX.mk r.2.kind r.2.stop),argv,r.2.counts,r.2.seen.map val,val (cj 0),())))
theorem Dp(h:aC)(args:List Item)(hp:(args.length:Int)<=h.places):
 abb (aak h.places.toNat (val (cj 0))).length (args.map val)++ack args.length (aak h.places.toNat (val (cj 0)))=(cH h args).map val:=by
 unfold cH
 rw[aaP,aaI (by simp;omega),ado,aaV,abN]
theorem p40{l:List aC}{k:Nat}{h:aC}(hk:l[k]?=some h){b e:Nat}{argv:List aE}{args:List Item}(hb:b+e<=argv.length)(ha:abb e (ack b argv)=args.map val)(he:args.length=e)
 {ck:Bool}{place d:Int}{g:Lg}(hd:¬30<d)(hp0:(e:Int)<=h.places)(hp1:h.places<=200)(hg:g.kind=0)(hc:g.counts.length=l.length)(hkl:k<l.length)
 (hpl:d=1->place<h.places)(hs:d=1->g.seen.length<=99){r:Item×Lg}
 (hl:vA b e l ck place argv (val (cj 0)) h d 0 {g with counts:=pW g.counts k,seen:=if d=1/\0<=place then g.seen++[(cH h args).getD place.toNat (cj 0)]else g.seen} (cH h args) [] r)(hz:r.2.kind≠0->r.1=cj 0):
 n_40s78a4 ((k:Int),(b:Int),(e:Int),d,l,ck,g.steps,place,g.high,none,argv,g.counts,g.seen.map val,())=
  some ((b:Int),(e:Int),l,ck,r.2.steps,place,r.2.high,Dn r.2,argv,r.2.counts,r.2.seen.map val,val r.1,()):=by
 have hk0:(0:Int)<=(k:Int):=by omega
 have hk1:(k:Int)<(g.counts.length:Int):=by omega
 obtain⟨x,hx⟩:∃x,g.counts[k]?=some x:=⟨_,Z3 (by omega)⟩
 have hbump:g.counts.set k (IntKind.i64.wrap (x+1))=pW g.counts k:=by
  unfold pW;rw[aa0,hx];rfl
 have h0:0<=h.places:=by omega
 have h4:h.places<=4294967296:=by omega
 have em:=Dp h args (by omega)
 rw[he]at em
 rw[n_40s78a4]
 have hz0:aE.mk (aF.mk 0 0 (ZZ #[]) false false) 0 false (ZZ #[]) (aF.mk 0 0 (ZZ #[]) false false)=val (cj 0):=rfl
 have hd':¬d>30:=by omega
 simp only[hd',adF,Z0,adA,hk0,hk1,and_self,adz,Z5,hx,hk,h0,h4,Z1,ZY,hb,hz0,ha,em,hbump,Ss]
 have fin:∀{α:Type} (X:Option α) (y:α),X=some y->X=some y:=λ_ _ h=>h
 have key:∀sn:List Item,sn=(if d=1/\0<=place then g.seen++[(cH h args).getD place.toNat (cj 0)]else g.seen)->
  (aX (lt b e l ck g.steps place g.high none argv (val (cj 0)) h d 0 none (pW g.counts k) sn (cH h args) [])>>=λx6=>match x6 with
    | .inl y6=>some y6
    | .inr y6=>(y6.2.2.2.2.2.2.2.2.2.2.2.2.2.2.2.2.2.2.2.2.2.1:Option (aE))>>=λx7=>
     some (((↑y6.1.toNat:Int),(↑y6.2.1.toNat:Int),y6.2.2.1,y6.2.2.2.1,y6.2.2.2.2.1,y6.2.2.2.2.2.1,y6.2.2.2.2.2.2.1,y6.2.2.2.2.2.2.2.1,y6.2.2.2.2.2.2.2.2.1,y6.2.2.2.2.2.2.2.2.2.2.2.2.2.2.2.2.2.2.2.2.2.2.1,y6.2.2.2.2.2.2.2.2.2.2.2.2.2.2.2.2.2.2.2.2.2.2.2.1,x7,())))=
  some ((b:Int),(e:Int),l,ck,r.2.steps,place,r.2.high,Dn r.2,argv,r.2.counts,r.2.seen.map val,val r.1,()):=by
  intro sn hsn
  subst hsn
  rcases hl with⟨hk0,at2,pl2,st2,hl⟩|⟨hk0,hl⟩
  ·simp only[aao]at hl
   rw[hl]
   unfold lr Dn
   simp only[Z1,ZY,Z5,hk0,adz]
  ·simp only[aao]at hl
   rw[hl]
   unfold Dn
   simp only[Z1,ZY,hk0,adA,hz hk0]
 unfold lt at key
 by_cases h1:d=1
 ·have hb1:(d==1)=true:=by simpa using h1
  simp only[hb1,adz,ZY,Z5]
  by_cases hp:0<=place
  ·have hlt:=hpl h1
   have hlen:(cH h args).length=h.places.toNat:=by
    unfold cH
    rw[aas,aaP];omega
   have hlt2:place<(((cH h args).map val).length:Int):=by rw[Z7,hlen];omega
   have hget:((cH h args).map val)[place.toNat]?=some (val ((cH h args).getD place.toNat (cj 0))):=by
    rw[Z6,aa0,Z3 (by omega)];rfl
   have hs':(g.seen.map val).length+[val ((cH h args).getD place.toNat (cj 0))].length<=4294967296:=by have:=hs h1;simp;omega
   simp only[ge_iff_le,hp,adE,adz,hlt2,and_self,hget,ZY,hs',Z5]
   refine Eq.trans ?_ (key _ (by rw[adD ⟨h1,hp⟩]))
   rw[aaV]
   rfl
  ·simp only[ge_iff_le,hp,adF,Z0,adA,ZY,Z5]
   exact key _ (by rw[adC (λh=>hp h.2)])
 ·have hb1:(d==1)=false:=by simpa using h1
  simp only[hb1,Z0,adA,ZY,Z5]
  exact key _ (by rw[adC (λh=>h1 h.1)])
end Go.Proofs.YtcghbgmmgcljkaaGreatDoor
end
