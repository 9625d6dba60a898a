/-
  Texts of this claim, joined by a program of mine: what the theorem uses.
-/
import Derived.Test.YtcghbgmmgcljkaaGreatDoorPkF
import Derived.Test.YtcghbgmmgcljkaaGreatDoorPkC
import Derived.Test.YtcghbgmmgcljkaaGreatDoorPkG
open Array renaming length_toList→RB,toList_inj→RV
open Bool renaming and_eq_false_iff→Tm,and_eq_true→Qk,false_eq_true→Qj,not_false→R6,not_true→Q8,or_eq_false_iff→Ro,or_eq_true→QX,true_and→RU
open ByteArray renaming mk→Qc
open ByteArray.toList renaming loop→SD
open Int renaming emod_emod_of_dvd→Tq,emod_nonneg→SG,le_refl→RS,mul_nonneg→Sw,natCast_dvd_natCast→Sy,natCast_zero→Q5,one_mul→TJ,tmod_eq_emod_of_nonneg→SU,toNat→Q1,toNat_natCast→Qs,toNat_of_nonneg→SJ
open List renaming all_cons→Rb,all_eq_true→Qq,append_assoc→Rt,append_nil→RO,drop→SP,drop_eq_getElem_cons→S5,drop_eq_nil_of_le→RR,drop_zero→QV,getElem?_eq_getElem→Qi,getElem?_eq_none→So,getElem?_map→Qh,getElem?_range→Ru,getElem_mem→Q7,length_cons→QA,mem_cons→Qu,mem_cons_self→Qo,mem_of_mem_take→QY,range→RC,replicate→QK,reverse_cons→S3,take→Sp,takeWhile_cons→Tu,take_of_length_le→QP
open List.cons renaming injEq→Re
open Nat renaming le_refl→QF,min_eq_left→Rp,pow_dvd_pow→Td,pow_le_pow_right→R1,pow_succ→TD,zero_add→Qy
open Option renaming bind_eq_bind→Ql,bind_some→Qe
open Option.some renaming injEq→Qd
open Prod.mk renaming injEq→QI
open Sum renaming inl→Rx,inr→Sc
open UInt8 renaming ofNat→Si
noncomputable section
set_option linter.unusedVariables false
set_option linter.unusedSimpArgs false
section
namespace Go.Proofs.YtcghbgmmgcljkaaGreatDoor
open Go.Awp Go.Tx
open IntKind (i64)
open Go.Proofs.Tryz (prog)
set_option maxHeartbeats 4000000
set_option maxRecDepth 100000
def eA:Cut SN:=⟨[(0, .bp 100000 0),(2, .sv 100001 13),(8, .bp 8 0),(9, .bp 45 0),(10, .bp 10 0)],[(100000, .box none [Dq3,Dq4,Dq1, .vh 100002,Dq1, .vh 3005,Dq1,Dq5]),(100001,Oq2),(8, .st .myValueT),(45, .box none [.bp 100000 0,Dq6,Dq1,Dq1,Dq1,Dq1,Dq6,Dq4,Dq4,Dq7, .vh 3460, .vh 3461,Dq1,Dq1,Dq8]),(10, .bar 20 .fno),(100002,Oq9),(3005,Oq2),(3460,Oq2),(3461,Oq2)]⟩
def oZ:Cut SN:=⟨[(0, .bp 100000 0),(2, .sv 100001 13),(8, .bp 8 0),(9, .bp 45 0)],[(100000, .box none [Dq3,Dq4,Dq1, .vh 100002,Dq1, .vh 3005,Dq1,Dq5]),(100001,Oq2),(8, .st .myValueT),(45, .box none [.bp 100000 0,Dq6,Dq1,Dq1,Dq1,Dq1,Dq6,Dq4,Dq4,Dq7, .vh 3460, .vh 3461,Dq1,Dq1,Dq8]),(100002,Oq9),(3005,Oq2),(3460,Oq2),(3461,Oq2)]⟩
def wR:Cut SN:=⟨[(0, .bp 100000 0),(2, .sv 100001 13),(3,Dq1),(8, .bp 8 0),(9, .bp 45 0)],[(100000, .box none [Dq3,Dq4,Dq1, .vh 100002,Dq1, .vh 100003,Dq1,Dq5]),(100001,Oq2),(8, .st .myValueT),(45, .box none [.bp 100000 0,Dq6,Dq1,Dq1,Dq1,Dq1,Dq6,Dq4,Dq4,Dq7, .vh 3460, .vh 3461,Dq1,Dq1,Dq8]),(100002,Oq9),(100003,Oq2),(3460,Oq2),(3461,Oq2)]⟩
def wS:Cut SN:=⟨[(0, .bp 100000 0),(2, .sv 100001 13),(8, .bp 8 0),(9, .bp 45 0),(60,Dq4)],[(100000, .box none [Dq3,Dq4,Dq1, .vh 100002,Dq1, .vh 100003,Dq1,Dq5]),(100001,Oq2),(8, .st .myValueT),(45, .box none [.bp 100000 0,Dq6,Dq1,Dq1,Dq1,Dq1,Dq6,Dq4,Dq4,Dq7, .vh 3460, .vh 3461,Dq1,Dq1,Dq8]),(100002,Oq9),(100003,Oq2),(3460,Oq2),(3461,Oq2)]⟩
def rA:Cut SN:=⟨[(0, .bp 100000 0),(2, .sv 100001 13),(8, .bp 8 0)],[(100000, .box none [Dq3,Dq4,Dq1, .vh 100002,Dq1, .vh 3005,Dq1,Dq5]),(100001,Oq2),(100002,Oq9),(3005,Oq2),(8, .st .myValueT)]⟩
def oh:aU vw:=shL [(0,oZ)] rA
def cR:Sig vw:={params:=[.bp 100000 0,Dq1, .sv 100001 13,Dq1],objs:=[(100000, .box none [Dq3,Dq4,Dq1, .vh 100002,Dq1, .vh 100003,Dq1,Dq5]),(100001,Oq2),(100002,Oq9),(100003,Oq2)],rcut:=rA,rvars:=[.cell 8 31],keep:=[100000,100001,100002,3005]}
def B8:aU vw:={rcut:=jr}
def xL:Nat->Bool:=λk=>match k with|3000023=>true|3000030=>true|8000059=>true|_=>false
def c6:Sig vw:={params:=[.bp 100000 0,mo],objs:=[(100000, .box none [.bp 100001 0,Dq6,Dq1,Dq1,Dq1,Dq1,Dq6,Dq4,Dq4,Dq7, .vh 100002, .vh 100003,Dq1,Dq1,Dq8]),(100001, .box none [Dq3,Dq4,Dq1, .vh 100004,Dq1, .vh 100005,Dq1,Dq5]),(100002,Oq2),(100003,Oq2),(100004,Oq9),(100005,Oq2)],rcut:=jr,rvars:=[],keep:=[100000,100001,100002,3011,100004,3015]}
abbrev Tq3:=Int×Int×(List aB)×Bool×Int×Int×Int×(Option bH)×(List aD)×aD×ByteArray×Int×Int×Int×Int×ByteArray×Bool×Bool×(List aM)×Int×Int×(Option aD)×(List (Option Nat))×(List Int)×(List aD)×(List aD)×(List aD)×Unit
abbrev Tq5:=Int×Int×(List aB)×Bool×Int×Int×Int×(Option bH)×(List aD)×(List Int)×(List aD)×aD×Unit
abbrev Tq4:=Int×Int×(List aB)×Bool×Int×Int×Int×(Option bH)×(List aD)×aD×ByteArray×Int×Int×Int×Int×ByteArray×Bool×Bool×(List aM)×Int×Int×(Option aD)×(List Int)×(List aD)×(List aD)×(List aD)×Unit
abbrev Tq6:=Int×Int×Int×Int×(List aB)×Bool×Int×Int×Int×(Option bH)×(List aD)×(List Int)×(List aD)×Unit
mutual
noncomputable def aR(v:Tq3):Option (((Tq5)⊕(Tq4))):=let p:=v.2.2;let e:=p.2.2;let q:=e.2.2;let b:=q.2.2;let j:=b.2.2.2.2;let c:=j.2.2.2.2;let k:=c.2.2.2.2;let a:=k.2.2;let d:=a.2.2;let f:=a.2.1;let g:=v.2.1;let h:=d.2.1;let i:=b.2.1;let l:=v.1;let m:=b.1;let n:=a.1;let o:=d.1;let G2:=(f,o,());if k.2.1.isNone=true then if(e.1==40000)=true then dM ((2:Int),(0:Int),p.1,p.2.1,e.1,e.2.1,q.1,q.2.1,G2)>>=λx1=>let r:=x1.2.2.2.2;if r.2.2.1.length=f.length then if r.2.2.2.1.length=o.length then some (Rx ((↑l.toNat:Int),(↑g.toNat:Int),x1.1,x1.2.1,x1.2.2.1,x1.2.2.2.1,r.1,r.2.1,m,r.2.2.1,r.2.2.2.1,aD.mk (aG.mk (0:Int) (0:Int) (Qc #[]) false false) (0:Int) false (Qc #[]) (aG.mk (0:Int) (0:Int) (Qc #[]) false false),()))else none else none else if 0<=k.1 then c.2.2.1[k.1.toNat]?>>=λx1=>let G1:=(x1,b.2.2.1,b.2.2.2.1,j.1,j.2.1,j.2.2.1,j.2.2.2.1,c.1,c.2.1,c.2.2.1,c.2.2.2.1,i64.wrap (k.1+1),k.2.1,p.1,p.2.1,i64.wrap (e.1+1),e.2.1,q.1,q.2.1,h,d.2.2.1,G2);(if 0<=x1.op/\x1.op<(↑(20:Nat):Int)then if x1.op.toNat<(20:Nat)then n[x1.op.toNat]?>>=λx2=>(x2:Option (Nat))>>=λx3=>if x3=(52:Nat)then none else if x3=(53:Nat)then none else if x3=(77:Nat)then fq G1>>=λx4=>let t:=x4.2.2.2.2.2.2;let s:=t.2.2.2.2.2.2;let u:=s.2.2.2.2.2.2;if u.1.length=h.length then if u.2.2.1.length=f.length then if u.2.2.2.1.length=o.length then some (((↑l.toNat:Int),(↑g.toNat:Int),s.1,s.2.1,s.2.2.1,s.2.2.2.1,s.2.2.2.2.1,s.2.2.2.2.2.1,m,i,x4.1,x4.2.1,x4.2.2.1,x4.2.2.2.1,x4.2.2.2.2.1,x4.2.2.2.2.2.1,t.1,t.2.1,t.2.2.1,t.2.2.2.1,t.2.2.2.2.1,t.2.2.2.2.2.1,n,u.2.2.1,u.2.2.2.1,u.1,u.2.1,()))else none else none else none else if x3=(78:Nat)then ft G1>>=λx4=>let z:=x4.2.2.2.2.2.2;let w:=z.2.2.2.2.2.2;let aa:=w.2.2.2.2.2.2;if aa.1.length=h.length then if aa.2.2.1.length=f.length then if aa.2.2.2.1.length=o.length then some (((↑l.toNat:Int),(↑g.toNat:Int),w.1,w.2.1,w.2.2.1,w.2.2.2.1,w.2.2.2.2.1,w.2.2.2.2.2.1,m,i,x4.1,x4.2.1,x4.2.2.1,x4.2.2.2.1,x4.2.2.2.2.1,x4.2.2.2.2.2.1,z.1,z.2.1,z.2.2.1,z.2.2.2.1,z.2.2.2.2.1,z.2.2.2.2.2.1,n,aa.2.2.1,aa.2.2.2.1,aa.1,aa.2.1,()))else none else none else none else if x3=(79:Nat)then fu G1>>=λx4=>let ad:=x4.2.2.2.2.2.2;let ab:=ad.2.2.2.2.2.2;let ac:=ab.2.2.2.2.2.2;if ac.1.length=h.length then if ac.2.2.1.length=f.length then if ac.2.2.2.1.length=o.length then some (((↑l.toNat:Int),(↑g.toNat:Int),ab.1,ab.2.1,ab.2.2.1,ab.2.2.2.1,ab.2.2.2.2.1,ab.2.2.2.2.2.1,m,i,x4.1,x4.2.1,x4.2.2.1,x4.2.2.2.1,x4.2.2.2.2.1,x4.2.2.2.2.2.1,ad.1,ad.2.1,ad.2.2.1,ad.2.2.2.1,ad.2.2.2.2.1,ad.2.2.2.2.2.1,n,ac.2.2.1,ac.2.2.2.1,ac.1,ac.2.1,()))else none else none else none else if x3=(80:Nat)then fv G1>>=λx4=>let ag:=x4.2.2.2.2.2;let ae:=ag.2.2.2.2.2.2;let af:=ae.2.2.2.2.2.2;if af.2.1.length=h.length then if af.2.2.2.1.length=f.length then some (((↑l.toNat:Int),(↑g.toNat:Int),ae.2.1,ae.2.2.1,ae.2.2.2.1,ae.2.2.2.2.1,ae.2.2.2.2.2.1,af.1,m,i,x4.1,x4.2.1,x4.2.2.1,x4.2.2.2.1,x4.2.2.2.2.1,ag.1,ag.2.1,ag.2.2.1,ag.2.2.2.1,ag.2.2.2.2.1,ag.2.2.2.2.2.1,ae.1,n,af.2.2.2.1,af.2.2.2.2.1,af.2.1,af.2.2.1,()))else none else none else if x3=(81:Nat)then fw G1>>=λx4=>let aj:=x4.2.2.2.2.2.2;let ah:=aj.2.2.2.2.2.2;let ai:=ah.2.2.2.2.2.2;if ai.1.length=h.length then if ai.2.2.1.length=f.length then if ai.2.2.2.1.length=o.length then some (((↑l.toNat:Int),(↑g.toNat:Int),ah.1,ah.2.1,ah.2.2.1,ah.2.2.2.1,ah.2.2.2.2.1,ah.2.2.2.2.2.1,m,i,x4.1,x4.2.1,x4.2.2.1,x4.2.2.2.1,x4.2.2.2.2.1,x4.2.2.2.2.2.1,aj.1,aj.2.1,aj.2.2.1,aj.2.2.2.1,aj.2.2.2.2.1,aj.2.2.2.2.2.1,n,ai.2.2.1,ai.2.2.2.1,ai.1,ai.2.1,()))else none else none else none else if x3=(82:Nat)then fx G1>>=λx4=>let am:=x4.2.2.2.2.2.2;let ak:=am.2.2.2.2.2.2;let al:=ak.2.2.2.2.2.2;if al.1.length=h.length then if al.2.2.1.length=f.length then if al.2.2.2.1.length=o.length then some (((↑l.toNat:Int),(↑g.toNat:Int),ak.1,ak.2.1,ak.2.2.1,ak.2.2.2.1,ak.2.2.2.2.1,ak.2.2.2.2.2.1,m,i,x4.1,x4.2.1,x4.2.2.1,x4.2.2.2.1,x4.2.2.2.2.1,x4.2.2.2.2.2.1,am.1,am.2.1,am.2.2.1,am.2.2.2.1,am.2.2.2.2.1,am.2.2.2.2.2.1,n,al.2.2.1,al.2.2.2.1,al.1,al.2.1,()))else none else none else none else if x3=(83:Nat)then fy G1>>=λx4=>let ap:=x4.2.2.2.2.2.2;let an:=ap.2.2.2.2.2.2;let ao:=an.2.2.2.2.2.2;if ao.1.length=h.length then if ao.2.2.1.length=f.length then if ao.2.2.2.1.length=o.length then some (((↑l.toNat:Int),(↑g.toNat:Int),an.1,an.2.1,an.2.2.1,an.2.2.2.1,an.2.2.2.2.1,an.2.2.2.2.2.1,m,i,x4.1,x4.2.1,x4.2.2.1,x4.2.2.2.1,x4.2.2.2.2.1,x4.2.2.2.2.2.1,ap.1,ap.2.1,ap.2.2.1,ap.2.2.2.1,ap.2.2.2.2.1,ap.2.2.2.2.2.1,n,ao.2.2.1,ao.2.2.2.1,ao.1,ao.2.1,()))else none else none else none else if x3=(84:Nat)then fz G1>>=λx4=>let au:=x4.2.2.2.2.2.2;let aq:=au.2.2.2.2.2.2;let ar:=aq.2.2.2.2.2.2;if ar.1.length=h.length then if ar.2.2.1.length=f.length then if ar.2.2.2.1.length=o.length then some (((↑l.toNat:Int),(↑g.toNat:Int),aq.1,aq.2.1,aq.2.2.1,aq.2.2.2.1,aq.2.2.2.2.1,aq.2.2.2.2.2.1,m,i,x4.1,x4.2.1,x4.2.2.1,x4.2.2.2.1,x4.2.2.2.2.1,x4.2.2.2.2.2.1,au.1,au.2.1,au.2.2.1,au.2.2.2.1,au.2.2.2.2.1,au.2.2.2.2.2.1,n,ar.2.2.1,ar.2.2.2.1,ar.1,ar.2.1,()))else none else none else none else if x3=(85:Nat)then fA G1>>=λx4=>let ax:=x4.2.2.2.2.2.2;let av:=ax.2.2.2.2.2.2;let aw:=av.2.2.2.2.2.2;if aw.1.length=h.length then if aw.2.2.1.length=f.length then if aw.2.2.2.1.length=o.length then some (((↑l.toNat:Int),(↑g.toNat:Int),av.1,av.2.1,av.2.2.1,av.2.2.2.1,av.2.2.2.2.1,av.2.2.2.2.2.1,m,i,x4.1,x4.2.1,x4.2.2.1,x4.2.2.2.1,x4.2.2.2.2.1,x4.2.2.2.2.2.1,ax.1,ax.2.1,ax.2.2.1,ax.2.2.2.1,ax.2.2.2.2.1,ax.2.2.2.2.2.1,n,aw.2.2.1,aw.2.2.2.1,aw.1,aw.2.1,()))else none else none else none else if x3=(86:Nat)then fB G1>>=λx4=>let ba:=x4.2.2.2.2.2.2;let ay:=ba.2.2.2.2.2.2;let az:=ay.2.2.2.2.2.2;if az.1.length=h.length then if az.2.2.1.length=f.length then if az.2.2.2.1.length=o.length then some (((↑l.toNat:Int),(↑g.toNat:Int),ay.1,ay.2.1,ay.2.2.1,ay.2.2.2.1,ay.2.2.2.2.1,ay.2.2.2.2.2.1,m,i,x4.1,x4.2.1,x4.2.2.1,x4.2.2.2.1,x4.2.2.2.2.1,x4.2.2.2.2.2.1,ba.1,ba.2.1,ba.2.2.1,ba.2.2.2.1,ba.2.2.2.2.1,ba.2.2.2.2.2.1,n,az.2.2.1,az.2.2.2.1,az.1,az.2.1,()))else none else none else none else if x3=(87:Nat)then fC G1>>=λx4=>let bd:=x4.2.2.2.2.2.2;let bb:=bd.2.2.2.2.2.2;let bc:=bb.2.2.2.2.2.2;if bc.1.length=h.length then if bc.2.2.1.length=f.length then if bc.2.2.2.1.length=o.length then some (((↑l.toNat:Int),(↑g.toNat:Int),bb.1,bb.2.1,bb.2.2.1,bb.2.2.2.1,bb.2.2.2.2.1,bb.2.2.2.2.2.1,m,i,x4.1,x4.2.1,x4.2.2.1,x4.2.2.2.1,x4.2.2.2.2.1,x4.2.2.2.2.2.1,bd.1,bd.2.1,bd.2.2.1,bd.2.2.2.1,bd.2.2.2.2.1,bd.2.2.2.2.2.1,n,bc.2.2.1,bc.2.2.2.1,bc.1,bc.2.1,()))else none else none else none else if x3=(88:Nat)then fD G1>>=λx4=>let bg:=x4.2.2.2.2.2.2;let be:=bg.2.2.2.2.2.2;let bf:=be.2.2.2.2.2.2;if bf.1.length=h.length then if bf.2.2.1.length=f.length then if bf.2.2.2.1.length=o.length then some (((↑l.toNat:Int),(↑g.toNat:Int),be.1,be.2.1,be.2.2.1,be.2.2.2.1,be.2.2.2.2.1,be.2.2.2.2.2.1,m,i,x4.1,x4.2.1,x4.2.2.1,x4.2.2.2.1,x4.2.2.2.2.1,x4.2.2.2.2.2.1,bg.1,bg.2.1,bg.2.2.1,bg.2.2.2.1,bg.2.2.2.2.1,bg.2.2.2.2.2.1,n,bf.2.2.1,bf.2.2.2.1,bf.1,bf.2.1,()))else none else none else none else if x3=(89:Nat)then fE G1>>=λx4=>let bj:=x4.2.2.2.2.2.2;let bh:=bj.2.2.2.2.2.2;let bi:=bh.2.2.2.2.2.2;if bi.1.length=h.length then if bi.2.2.1.length=f.length then if bi.2.2.2.1.length=o.length then some (((↑l.toNat:Int),(↑g.toNat:Int),bh.1,bh.2.1,bh.2.2.1,bh.2.2.2.1,bh.2.2.2.2.1,bh.2.2.2.2.2.1,m,i,x4.1,x4.2.1,x4.2.2.1,x4.2.2.2.1,x4.2.2.2.2.1,x4.2.2.2.2.2.1,bj.1,bj.2.1,bj.2.2.1,bj.2.2.2.1,bj.2.2.2.2.1,bj.2.2.2.2.2.1,n,bi.2.2.1,bi.2.2.2.1,bi.1,bi.2.1,()))else none else none else none else if x3=(90:Nat)then fF G1>>=λx4=>let bm:=x4.2.2.2.2.2.2;let bk:=bm.2.2.2.2.2.2;let bl:=bk.2.2.2.2.2.2;if bl.1.length=h.length then if bl.2.1.length=d.2.2.1.length then if bl.2.2.1.length=f.length then if bl.2.2.2.1.length=o.length then some (((↑l.toNat:Int),(↑g.toNat:Int),bk.1,bk.2.1,bk.2.2.1,bk.2.2.2.1,bk.2.2.2.2.1,bk.2.2.2.2.2.1,m,i,x4.1,x4.2.1,x4.2.2.1,x4.2.2.2.1,x4.2.2.2.2.1,x4.2.2.2.2.2.1,bm.1,bm.2.1,bm.2.2.1,bm.2.2.2.1,bm.2.2.2.2.1,bm.2.2.2.2.2.1,n,bl.2.2.1,bl.2.2.2.1,bl.1,bl.2.1,()))else none else none else none else none else if x3=(91:Nat)then fG G1>>=λx4=>let bp:=x4.2.2.2.2.2.2;let bn:=bp.2.2.2.2.2.2;let bo:=bn.2.2.2.2.2.2;if bo.1.length=h.length then if bo.2.1.length=d.2.2.1.length then if bo.2.2.1.length=f.length then if bo.2.2.2.1.length=o.length then some (((↑l.toNat:Int),(↑g.toNat:Int),bn.1,bn.2.1,bn.2.2.1,bn.2.2.2.1,bn.2.2.2.2.1,bn.2.2.2.2.2.1,m,i,x4.1,x4.2.1,x4.2.2.1,x4.2.2.2.1,x4.2.2.2.2.1,x4.2.2.2.2.2.1,bp.1,bp.2.1,bp.2.2.1,bp.2.2.2.1,bp.2.2.2.2.1,bp.2.2.2.2.2.1,n,bo.2.2.1,bo.2.2.2.1,bo.1,bo.2.1,()))else none else none else none else none else if x3=(92:Nat)then fH G1>>=λx4=>let bs:=x4.2.2.2.2.2.2;let bq:=bs.2.2.2.2.2.2;let br:=bq.2.2.2.2.2.2;if br.1.length=h.length then if br.2.2.1.length=f.length then if br.2.2.2.1.length=o.length then some (((↑l.toNat:Int),(↑g.toNat:Int),bq.1,bq.2.1,bq.2.2.1,bq.2.2.2.1,bq.2.2.2.2.1,bq.2.2.2.2.2.1,m,i,x4.1,x4.2.1,x4.2.2.1,x4.2.2.2.1,x4.2.2.2.2.1,x4.2.2.2.2.2.1,bs.1,bs.2.1,bs.2.2.1,bs.2.2.2.1,bs.2.2.2.2.1,bs.2.2.2.2.2.1,n,br.2.2.1,br.2.2.2.1,br.1,br.2.1,()))else none else none else none else if x3=(93:Nat)then n_93sae8a G1>>=λx4=>let bv:=x4.2.2.2.2.2;let bt:=bv.2.2.2.2.2.2;let bu:=bt.2.2.2.2.2.2;if bu.2.1.length=h.length then if bu.2.2.2.1.length=f.length then some (((↑l.toNat:Int),(↑g.toNat:Int),bt.2.1,bt.2.2.1,bt.2.2.2.1,bt.2.2.2.2.1,bt.2.2.2.2.2.1,bu.1,m,i,x4.1,x4.2.1,x4.2.2.1,x4.2.2.2.1,x4.2.2.2.2.1,bv.1,bv.2.1,bv.2.2.1,bv.2.2.2.1,bv.2.2.2.2.1,bv.2.2.2.2.2.1,bt.1,n,bu.2.2.2.1,bu.2.2.2.2.1,bu.2.1,bu.2.2.1,()))else none else none else if x3=(94:Nat)then fI G1>>=λx4=>let bz:=x4.2.2.2.2.2.2;let bw:=bz.2.2.2.2.2.2;let bx:=bw.2.2.2.2.2.2;if bx.1.length=h.length then if bx.2.2.1.length=f.length then if bx.2.2.2.1.length=o.length then some (((↑l.toNat:Int),(↑g.toNat:Int),bw.1,bw.2.1,bw.2.2.1,bw.2.2.2.1,bw.2.2.2.2.1,bw.2.2.2.2.2.1,m,i,x4.1,x4.2.1,x4.2.2.1,x4.2.2.2.1,x4.2.2.2.2.1,x4.2.2.2.2.2.1,bz.1,bz.2.1,bz.2.2.1,bz.2.2.2.1,bz.2.2.2.2.1,bz.2.2.2.2.2.1,n,bx.2.2.1,bx.2.2.2.1,bx.1,bx.2.1,()))else none else none else none else if x3=(95:Nat)then fJ G1>>=λx4=>let cc:=x4.2.2.2.2.2.2;let ca:=cc.2.2.2.2.2.2;let cb:=ca.2.2.2.2.2.2;if cb.1.length=h.length then if cb.2.2.1.length=f.length then if cb.2.2.2.1.length=o.length then some (((↑l.toNat:Int),(↑g.toNat:Int),ca.1,ca.2.1,ca.2.2.1,ca.2.2.2.1,ca.2.2.2.2.1,ca.2.2.2.2.2.1,m,i,x4.1,x4.2.1,x4.2.2.1,x4.2.2.2.1,x4.2.2.2.2.1,x4.2.2.2.2.2.1,cc.1,cc.2.1,cc.2.2.1,cc.2.2.2.1,cc.2.2.2.2.1,cc.2.2.2.2.2.1,n,cb.2.2.1,cb.2.2.2.1,cb.1,cb.2.1,()))else none else none else none else if x3=(96:Nat)then fK G1>>=λx4=>let cf:=x4.2.2.2.2.2.2;let cd:=cf.2.2.2.2.2.2;let ce:=cd.2.2.2.2.2.2;if ce.1.length=h.length then if ce.2.1.length=d.2.2.1.length then if ce.2.2.1.length=f.length then if ce.2.2.2.1.length=o.length then some (((↑l.toNat:Int),(↑g.toNat:Int),cd.1,cd.2.1,cd.2.2.1,cd.2.2.2.1,cd.2.2.2.2.1,cd.2.2.2.2.2.1,m,i,x4.1,x4.2.1,x4.2.2.1,x4.2.2.2.1,x4.2.2.2.2.1,x4.2.2.2.2.2.1,cf.1,cf.2.1,cf.2.2.1,cf.2.2.2.1,cf.2.2.2.2.1,cf.2.2.2.2.2.1,n,ce.2.2.1,ce.2.2.2.1,ce.1,ce.2.1,()))else none else none else none else none else none else none else none)>>=λx2=>let cg:=x2.2.2.2.2.2;let ch:=cg.2.2.2.2.2.2.2.2.2.2.2.2.2.2.2.2.2.2;if cg.2.2.1.isSome=true then some (Rx ((↑x2.1.toNat:Int),(↑x2.2.1.toNat:Int),x2.2.2.1,x2.2.2.2.1,x2.2.2.2.2.1,cg.1,cg.2.1,cg.2.2.1,cg.2.2.2.1,ch.1,ch.2.1,aD.mk (aG.mk (0:Int) (0:Int) (Qc #[]) false false) (0:Int) false (Qc #[]) (aG.mk (0:Int) (0:Int) (Qc #[]) false false),()))else aR ((↑x2.1.toNat:Int),(↑x2.2.1.toNat:Int),x2.2.2)else none else some (Sc ((↑l.toNat:Int),(↑g.toNat:Int),p.1,p.2.1,e.1,e.2.1,q.1,q.2.1,m,i,b.2.2.1,b.2.2.2.1,j.1,j.2.1,j.2.2.1,j.2.2.2.1,c.1,c.2.1,c.2.2.1,c.2.2.2.1,k.1,k.2.1,a.2)) partial_fixpoint
noncomputable def n_93sae8a(v:Tq2):Option (Tq1):=let g:=v.2.2.2;let d:=g.2.2.2.2;let f:=d.2.2.2;let a:=f.2.2.2;let c:=a.2.2.2.2.2.2;let e:=c.2.1;let G2:=(i64.wrap ((↑e.length:Int) -v.1.b));if 0<=i64.wrap ((↑e.length:Int) -v.1.b)/\i64.wrap ((↑e.length:Int) -v.1.b)<=(↑e.length:Int)/\(↑e.length:Int)<=(↑e.length:Int)then if(0:Int)<=0/\0<=i64.wrap ((↑e.length:Int) -v.1.b)/\i64.wrap ((↑e.length:Int) -v.1.b)<=(↑e.length:Int)then Gu (a.1,v.1.name0,())>>=λx1=>n_40s78a4 (x1.1,(↑G2.toNat:Int),(↑((↑e.length:Int).toNat-G2.toNat):Int),i64.wrap (f.1+1),a.1,a.2.1,a.2.2.1,a.2.2.2.1,a.2.2.2.2.1,a.2.2.2.2.2.1,c.2)>>=λx2=>let i:=x2.2.2.2;let h:=i.2.2.2.2;let G1:=(v.2.1,v.2.2.1,g.1,g.2.1,g.2.2.1,g.2.2.2.1,d.1,d.2.1,d.2.2.1,f.1,f.2.1,f.2.2.1,x2.2.2.1,i.1,i.2.1,i.2.2.1,i.2.2.2.1,h.1,c.1,Sp (G2.toNat-Q1 0) h.2.1,h.2.2.1,h.2.2.2.1,());if h.2.1.length=e.length then if h.2.2.1.length=c.2.2.1.length then if G2.toNat-Q1 0<=h.2.1.length then if h.1.isNone=true then cA (h.2.2.2.2.1,G1)>>=λx3=>let j:=x3.2.2.2.2.2.2.2.2.2.2.2.2.2.2.2.2.2.2;if j.1.length=c.1.length then if j.2.2.1.length=h.2.2.1.length then if j.2.2.2.1.length=h.2.2.2.1.length then some (x3)else none else none else none else some (G1)else none else none else none else none else none partial_fixpoint
noncomputable def n_40s78a4(v:Tq6):Option (Tq5):=let b:=v.2.2.2;let a:=b.2.2.2.2;let c:=a.2.2.2.2;if decide (b.1>30)=true then dM ((2:Int),(0:Int),b.2.1,b.2.2.1,b.2.2.2.1,a.1,a.2.1,a.2.2.1,c)>>=λx1=>let d:=x1.2.2.2.2;if d.2.2.1.length=c.1.length then if d.2.2.2.1.length=c.2.1.length then some (((↑v.2.1.toNat:Int),(↑v.2.2.1.toNat:Int),x1.1,x1.2.1,x1.2.2.1,x1.2.2.2.1,d.1,d.2.1,a.2.2.2.1,d.2.2.1,d.2.2.2.1,aD.mk (aG.mk (0:Int) (0:Int) (Qc #[]) false false) (0:Int) false (Qc #[]) (aG.mk (0:Int) (0:Int) (Qc #[]) false false),()))else none else none else if 0<=v.1/\v.1<(↑c.1.length:Int)then c.1[v.1.toNat]?>>=λx1=>if 0<=v.1/\v.1<(↑c.1.length:Int)then c.1[v.1.toNat]?>>=λx2=>(if 0<=v.1 then b.2.1[v.1.toNat]?>>=λx3=>if 0<=v.1 then b.2.1[v.1.toNat]?>>=λx4=>if 0<=x4.places then if x4.places<=4294967296 then some (((↑v.2.1.toNat:Int),(↑v.2.2.1.toNat:Int),b.1,b.2.1,b.2.2.1,b.2.2.2.1,a.1,a.2.1,a.2.2.1,a.2.2.2.1,aD.mk (aG.mk (0:Int) (0:Int) (Qc #[]) false false) (0:Int) false (Qc #[]) (aG.mk (0:Int) (0:Int) (Qc #[]) false false),x3.name0,x3.params,x3.places,x3.type0.base,x3.type0.bits,x3.type0.name0,x3.type0.opt,x3.type0.err,x3.code,b.1,(0:Int),none,c.1.set v.1.toNat (i64.wrap (x1+1)),c.2.1,QK x4.places.toNat (aD.mk (aG.mk (0:Int) (0:Int) (Qc #[]) false false) (0:Int) false (Qc #[]) (aG.mk (0:Int) (0:Int) (Qc #[]) false false)),[],()))else none else none else none else none)>>=λx3=>let j:=x3.2;let g:=j.2.2.2.2;let e:=g.2.2.2.2;let h:=e.2.2.2.2;let f:=h.2.2.2.2.2;let i:=f.2.2.2.2;let G1:=(j.2.2.1,j.2.2.2.1,g.1,g.2.1,g.2.2.1,g.2.2.2.1,e.1,e.2.1,e.2.2.1,e.2.2.2.1,h.1,h.2.1,h.2.2.1,h.2.2.2.1,h.2.2.2.2.1,f.1,f.2.1,f.2.2.1,f.2.2.2.1,i.1,i.2.1,i.2.2.1,Sp i.2.2.2.1.length (Sp j.1.toNat (SP x3.1.toNat e.1))++SP j.1.toNat i.2.2.2.1,i.2.2.2.2);if x3.1.toNat+j.1.toNat<=e.1.length then((if(j.2.1==1)=true then some (((↑x3.1.toNat:Int),(↑j.1.toNat:Int),decide (g.2.1>=0),G1))else some (((↑x3.1.toNat:Int),(↑j.1.toNat:Int),false,G1)))>>=λx4=>let o:=x4.2.2.2;let l:=o.2.2.2;let n:=l.2.2.2.2;let k:=n.2.2.2.2;let q:=k.2.2.2;let m:=q.2.2.2.2;let p:=m.2.2.2;if x4.2.2.1=true then if 0<=l.1/\l.1<(↑p.2.1.length:Int)then p.2.1[l.1.toNat]?>>=λx5=>if p.1.length+[x5].length<=4294967296 then some (((↑x4.1.toNat:Int),(↑x4.2.1.toNat:Int),o.1,o.2.1,o.2.2.1,l.1,l.2.1,l.2.2.1,l.2.2.2.1,n.1,n.2.1,n.2.2.1,n.2.2.2.1,k.1,k.2.1,k.2.2.1,q.1,q.2.1,q.2.2.1,q.2.2.2.1,m.1,m.2.1,m.2.2.1,p.1++[x5],p.2))else none else none else some (((↑x4.1.toNat:Int),(↑x4.2.1.toNat:Int),o)))>>=λx4=>let s:=x4.2.2.2.2.2;let r:=s.2.2.2.2.2.2;let t:=r.2.2.2.2.2;Kj ()>>=λx5=>aR ((↑x4.1.toNat:Int),(↑x4.2.1.toNat:Int),x4.2.2.1,x4.2.2.2.1,x4.2.2.2.2.1,s.1,s.2.1,s.2.2.1,s.2.2.2.1,s.2.2.2.2.1,s.2.2.2.2.2.1,r.1,r.2.1,r.2.2.1,r.2.2.2.1,r.2.2.2.2.1,t.1,t.2.1,t.2.2.1,t.2.2.2.1,t.2.2.2.2.1,t.2.2.2.2.2.1,x5.1,t.2.2.2.2.2.2)>>=λx6=>match x6 with| .inl y6=>some y6| .inr y6=>let w:=y6.2.2.2.2;let u:=w.2.2.2.2.2.2.2.2.2.2.2.2.2.2.2.2.2;(u.1:Option (aD))>>=λx7=>some (((↑y6.1.toNat:Int),(↑y6.2.1.toNat:Int),y6.2.2.1,y6.2.2.2.1,w.1,w.2.1,w.2.2.1,w.2.2.2.1,w.2.2.2.2.1,u.2.1,u.2.2.1,x7,()))else none else none else none partial_fixpoint
end
def iZ(aR:Tq3->Option (((Tq5)⊕(Tq4))))(n_93sae8a:Tq2->Option (Tq1))(n_40s78a4:Tq6->Option (Tq5)):dl vw:=λA fid args S k=>if fid=52 then ci prog pI dM A args S k else if fid=53 then cG prog K4 Kj A args S k else if fid=77 then ci prog pJ fq A args S k else if fid=78 then ci prog pK ft A args S k else if fid=79 then ci prog pL fu A args S k else if fid=80 then ci prog pM fv A args S k else if fid=81 then ci prog pN fw A args S k else if fid=82 then ci prog pO fx A args S k else if fid=83 then ci prog pP fy A args S k else if fid=84 then ci prog pQ fz A args S k else if fid=85 then ci prog pR fA A args S k else if fid=86 then ci prog pS fB A args S k else if fid=87 then ci prog pT fC A args S k else if fid=88 then ci prog pU fD A args S k else if fid=89 then ci prog pV fE A args S k else if fid=90 then ci prog pW fF A args S k else if fid=91 then ci prog pX fG A args S k else if fid=92 then ci prog pY fH A args S k else if fid=93 then ci prog c6 n_93sae8a A args S k else if fid=94 then ci prog pZ fI A args S k else if fid=95 then ci prog p5 fJ A args S k else if fid=96 then ci prog p6 fK A args S k else none
def dz(aR:Tq3->Option (((Tq5)⊕(Tq4))))(n_93sae8a:Tq2->Option (Tq1))(n_40s78a4:Tq6->Option (Tq5)):Xc vw:={P:=prog,n:=138,call:=iZ aR n_93sae8a n_40s78a4,pre:=I_,sh:=oh,joins:=λk=>match k with|9=>some (oZ,[.norm])|_=>none,regs:=λk=>match k with|5=>some wR|7=>some wS|17=>some eA|_=>none,loops:=λk=>match k with|10=>some {cut:=eA,alts:=[.ret, .exit 0],F:=aR}|_=>none}
def mU(aR:Tq3->Option (((Tq5)⊕(Tq4))))(n_93sae8a:Tq2->Option (Tq1))(n_40s78a4:Tq6->Option (Tq5)):dl vw:=λA fid args S k=>match fid with|39=>cG prog K3 Gu A args S k|40=>ci prog cR n_40s78a4 A args S k|120=>ci prog oi cA A args S k|_=>none
def iL(aR:Tq3->Option (((Tq5)⊕(Tq4))))(n_93sae8a:Tq2->Option (Tq1))(n_40s78a4:Tq6->Option (Tq5)):Xc vw:={P:=prog,n:=70,call:=mU aR n_93sae8a n_40s78a4,pre:=xL,sh:=B8}
abbrev df(v:Tq3)(r:((Tq5)⊕(Tq4))):Prop:=(λv out=>∀C:Ctx,C.P=prog->C.N=138/\Fx C I_->tq C (cp (bA Tryz.f40) 0) (Go.Tx.aV vw (f_ vw eA v)) (CM oh [.ret, .exit 0] out)) v r
abbrev gi(v:Tq2)(r:Tq1):Prop:=(λv r=>∀x,Gy prog c6 r=some x->lS prog 93 (encL vw (cX c6 v).len (ek c6 v).1) (fj (cX c6 v).len (cX c6 v).own) (aK vw (f_ vw c6.rcut r).len x) (fj (f_ vw c6.rcut r).len (qy c6 r))) v r
abbrev gh(v:Tq6)(r:Tq5):Prop:=(λv r=>∀x,Gy prog cR r=some x->lS prog 40 (encL vw (cX cR v).len (ek cR v).1) (fj (cX cR v).len (cX cR v).own) (aK vw (f_ vw cR.rcut r).len x) (fj (f_ vw cR.rcut r).len (qy cR r))) v r
theorem qm(f0:Tq3->Option (((Tq5)⊕(Tq4))))(f1:Tq2->Option (Tq1))(h0:∀v r,f0 v=some r->df v r)(h1:∀v r,f1 v=some r->gi v r):bO prog (dz f0 f1 (λ_=>none)).call:=(by
 intro A fid args S dst k r h
 unfold dz iZ at h
 simp only at h
 rcases bB h with⟨e,h⟩|⟨e,h⟩
 ·subst e;exact aL (fU) h
 ·
  rcases bB h with⟨e,h⟩|⟨e,h⟩
  ·subst e;exact bM (AR) rfl rfl h
  ·
   rcases bB h with⟨e,h⟩|⟨e,h⟩
   ·subst e;exact aL (kS) h
   ·
    rcases bB h with⟨e,h⟩|⟨e,h⟩
    ·subst e;exact aL (kT) h
    ·
     rcases bB h with⟨e,h⟩|⟨e,h⟩
     ·subst e;exact aL (kU) h
     ·
      rcases bB h with⟨e,h⟩|⟨e,h⟩
      ·subst e;exact aL (kV) h
      ·
       rcases bB h with⟨e,h⟩|⟨e,h⟩
       ·subst e;exact aL (kW) h
       ·
        rcases bB h with⟨e,h⟩|⟨e,h⟩
        ·subst e;exact aL (kX) h
        ·
         rcases bB h with⟨e,h⟩|⟨e,h⟩
         ·subst e;exact aL (kY) h
         ·
          rcases bB h with⟨e,h⟩|⟨e,h⟩
          ·subst e;exact aL (kZ) h
          ·
           rcases bB h with⟨e,h⟩|⟨e,h⟩
           ·subst e;exact aL (k_) h
           ·
            rcases bB h with⟨e,h⟩|⟨e,h⟩
            ·subst e;exact aL (lb) h
            ·
             rcases bB h with⟨e,h⟩|⟨e,h⟩
             ·subst e;exact aL (lc) h
             ·
              rcases bB h with⟨e,h⟩|⟨e,h⟩
              ·subst e;exact aL (ld) h
              ·
               rcases bB h with⟨e,h⟩|⟨e,h⟩
               ·subst e;exact aL (lh) h
               ·
                rcases bB h with⟨e,h⟩|⟨e,h⟩
                ·subst e;exact aL (li) h
                ·
                 rcases bB h with⟨e,h⟩|⟨e,h⟩
                 ·subst e;exact aL (lj) h
                 ·
                  rcases bB h with⟨e,h⟩|⟨e,h⟩
                  ·subst e;exact aL (lk) h
                  ·
                   rcases bB h with⟨e,h⟩|⟨e,h⟩
                   ·subst e;exact aL ((λv r x h hx=>h1 v r h x hx)) h
                   ·
                    rcases bB h with⟨e,h⟩|⟨e,h⟩
                    ·subst e;exact aL (lm) h
                    ·
                     rcases bB h with⟨e,h⟩|⟨e,h⟩
                     ·subst e;exact aL (lq) h
                     ·
                      rcases bB h with⟨e,h⟩|⟨e,h⟩
                      ·subst e;exact aL (lu) h
                      ·
                       cases h)
theorem q_(f0:Tq3->Option (((Tq5)⊕(Tq4))))(f1:Tq2->Option (Tq1))(h0:∀v r,f0 v=some r->df v r)(h1:∀v r,f1 v=some r->gi v r)(v:Tq3)(r:((Tq5)⊕(Tq4)))(h:exL (dz f0 f1 (λ_=>none)) (cp (bA Tryz.f40) 0) eA [.ret, .exit 0] f0 v=some r):df v r:=λC hP hN=>nD (X:=dz f0 f1 (λ_=>none)) (b:=(cp (bA Tryz.f40) 0)) hP hN Ty.mixed (qm f0 f1 h0 h1) (h_ (X:=dz f0 f1 (λ_=>none)) (c:=(cp (bA Tryz.f40) 0)) (kq (by kernel_rfl:True=tB (iR C (dz f0 f1 (λ_=>none))) (cM (cp (bA Tryz.f40) 0))) trivial)) (cut:=eA) (alts:=[.ret, .exit 0]) (F:=f0) (λv out h=>h0 v out h C hP hN) h
theorem w6(f0:Tq6->Option (Tq5))(h0:∀v r,f0 v=some r->gh v r):bO prog (iL (λ_=>none) (λ_=>none) f0).call:=(by
 intro A fid args S dst k r h
 unfold iL mU at h
 simp only at h
 split at h
 ·exact bM (AO) rfl rfl h
 ·exact aL ((λv r x h hx=>h0 v r h x hx)) h
 ·exact aL (cy) h
 ·cases h)
theorem yn(f0:Tq6->Option (Tq5))(h0:∀v r,f0 v=some r->gh v r)(v:Tq2)(r:Tq1)(h:exF (iL (λ_=>none) (λ_=>none) f0) c6 rfl (bA Tryz.f93) v=some r):gi v r:=λx hx=>C_ (X:=iL (λ_=>none) (λ_=>none) f0) (sig:=c6) rfl Tryz.func93 (c:=bA Tryz.f93) (by kernel_rfl) Tryz.ntmps93 (by kernel_rfl) (by kernel_rfl) rfl Ty.mixed (w6 f0 h0) rfl (λC hP hN=>(h_ (X:=iL (λ_=>none) (λ_=>none) f0) (c:=(bA Tryz.f93)) (kq (by kernel_rfl:True=tB (iR C (iL (λ_=>none) (λ_=>none) f0)) (cM (bA Tryz.f93))) trivial))) h x hx
theorem w5(f0:Tq3->Option (((Tq5)⊕(Tq4))))(h0:∀v r,f0 v=some r->df v r):bO prog (dz f0 (λ_=>none) (λ_=>none)).call:=(by
 intro A fid args S dst k r h
 unfold dz iZ at h
 simp only at h
 rcases bB h with⟨e,h⟩|⟨e,h⟩
 ·subst e;exact aL (fU) h
 ·
  rcases bB h with⟨e,h⟩|⟨e,h⟩
  ·subst e;exact bM (AR) rfl rfl h
  ·
   rcases bB h with⟨e,h⟩|⟨e,h⟩
   ·subst e;exact aL (kS) h
   ·
    rcases bB h with⟨e,h⟩|⟨e,h⟩
    ·subst e;exact aL (kT) h
    ·
     rcases bB h with⟨e,h⟩|⟨e,h⟩
     ·subst e;exact aL (kU) h
     ·
      rcases bB h with⟨e,h⟩|⟨e,h⟩
      ·subst e;exact aL (kV) h
      ·
       rcases bB h with⟨e,h⟩|⟨e,h⟩
       ·subst e;exact aL (kW) h
       ·
        rcases bB h with⟨e,h⟩|⟨e,h⟩
        ·subst e;exact aL (kX) h
        ·
         rcases bB h with⟨e,h⟩|⟨e,h⟩
         ·subst e;exact aL (kY) h
         ·
          rcases bB h with⟨e,h⟩|⟨e,h⟩
          ·subst e;exact aL (kZ) h
          ·
           rcases bB h with⟨e,h⟩|⟨e,h⟩
           ·subst e;exact aL (k_) h
           ·
            rcases bB h with⟨e,h⟩|⟨e,h⟩
            ·subst e;exact aL (lb) h
            ·
             rcases bB h with⟨e,h⟩|⟨e,h⟩
             ·subst e;exact aL (lc) h
             ·
              rcases bB h with⟨e,h⟩|⟨e,h⟩
              ·subst e;exact aL (ld) h
              ·
               rcases bB h with⟨e,h⟩|⟨e,h⟩
               ·subst e;exact aL (lh) h
               ·
                rcases bB h with⟨e,h⟩|⟨e,h⟩
                ·subst e;exact aL (li) h
                ·
                 rcases bB h with⟨e,h⟩|⟨e,h⟩
                 ·subst e;exact aL (lj) h
                 ·
                  rcases bB h with⟨e,h⟩|⟨e,h⟩
                  ·subst e;exact aL (lk) h
                  ·
                   rcases bB h with⟨e,h⟩|⟨e,h⟩
                   ·subst e;exact aL ((λv r x h hx=>by cases h)) h
                   ·
                    rcases bB h with⟨e,h⟩|⟨e,h⟩
                    ·subst e;exact aL (lm) h
                    ·
                     rcases bB h with⟨e,h⟩|⟨e,h⟩
                     ·subst e;exact aL (lq) h
                     ·
                      rcases bB h with⟨e,h⟩|⟨e,h⟩
                      ·subst e;exact aL (lu) h
                      ·
                       cases h)
theorem ym(f0:Tq3->Option (((Tq5)⊕(Tq4))))(h0:∀v r,f0 v=some r->df v r)(v:Tq6)(r:Tq5)(h:exF (dz f0 (λ_=>none) (λ_=>none)) cR rfl (bA Tryz.f40) v=some r):gh v r:=λx hx=>C_ (X:=dz f0 (λ_=>none) (λ_=>none)) (sig:=cR) rfl Tryz.func40 (c:=bA Tryz.f40) (by kernel_rfl) Tryz.ntmps40 (by kernel_rfl) (by kernel_rfl) rfl Ty.mixed (w5 f0 h0) rfl (λC hP hN=>(h_ (X:=dz f0 (λ_=>none) (λ_=>none)) (c:=(bA Tryz.f40)) (kq (by kernel_rfl:tB (iR C (dz f0 (λ_=>none) (λ_=>none))) [(cp (bA Tryz.f40) 0)]=tB (iR C (dz f0 (λ_=>none) (λ_=>none))) (cM (bA Tryz.f40))) ⟨nC (X:=dz f0 (λ_=>none) (λ_=>none)) (b:=(cp (bA Tryz.f40) 0)) (by kernel_rfl) (show iQ C (cp (bA Tryz.f40) 0) (sh:=oh) {cut:=eA,alts:=[.ret, .exit 0],F:=f0}fromλv out h=>h0 v out h C hP hN),trivial⟩))) h x hx
theorem lN:(∀v r,aR v=some r->df v r)/\(∀v r,n_93sae8a v=some r->gi v r)/\(∀v r,n_40s78a4 v=some r->gh v r):=by
 refine aR.mutual_partial_correctness
  (motive_1:=df)
  (motive_2:=gi)
  (motive_3:=gh)
  ?_ ?_ ?_
 ·exact(λf0 f1 h0 h1 v r h=>q_ f0 f1 h0 h1 v r (kq (by kernel_rfl) h))
 ·exact(λf0 h0 v r h=>yn f0 h0 v r (kq (by kernel_rfl) h))
 ·exact(λf0 h0 v r h=>ym f0 h0 v r (kq (by kernel_rfl) h))
theorem sk:aT prog 40 cR n_40s78a4:=λv r x h hx=>lN.2.2 v r h x hx
def LH:Cut SN:=⟨[(1,Dq1),(2,FU),(11, .bp 11 0),(12, .bp 21 0)],[(11, .st .outcomeT),(21, .box none [Dq3,Dq4,Dq1, .vh 3213,Dq1, .vh 3215,Dq1,Dq5]),(3213,Oq9),(3215,Oq2)]⟩
def NZ:Cut SN:=⟨[(10, .bp 21 0),(11, .bp 11 0)],[(21, .box none [Dq3,Dq4,Dq1, .vh 3213,Dq1, .vh 3215,Dq1,Dq5]),(3213,Oq9),(3215,Oq2),(11, .st .outcomeT)]⟩
def OV:aU vw:={rcut:=NZ}
def Mf:Nat->Bool:=λk=>match k with|9000040=>true|_=>false
def M_:Sig vw:={params:=[Dq3,Dq1,FU,Dq4,Dq1],rcut:=NZ,rvars:=[.tmp 10, .cell 11 34],keep:=[21,3213,3215]}
noncomputable def Kh(v:(List aB)×Int×(List aD)×Bool×Int×Unit):Option ((List aB)×Bool×Int×Int×Int×(Option bH)×(List Int)×(List aD)×bP×Unit):=(if(↑v.1.length:Int)<=4294967296 then some ((v.2.1,v.2.2.1,bP.mk (0:Int) (aD.mk (aG.mk (0:Int) (0:Int) (Qc #[]) false false) (0:Int) false (Qc #[]) (aG.mk (0:Int) (0:Int) (Qc #[]) false false)) (0:Int) [],v.1,v.2.2.2.1,(0:Int),v.2.2.2.2.1,(0:Int),none,QK (↑v.1.length:Int).toNat (0:Int),[],()))else none)>>=λx1=>let a:=x1.2.2.2.2.2;jP (x1.2.1,())>>=λx2=>n_40s78a4 (x1.1,(↑(0:Nat):Int),(↑x2.1.length:Int),(1:Int),x1.2.2.2.1,x1.2.2.2.2.1,a.1,a.2.1,a.2.2.1,a.2.2.2.1,x2.1,a.2.2.2.2)>>=λx3=>let c:=x3.2.2.2;let b:=c.2.2.2;let d:=b.2.2.2;if b.2.2.1.length=x2.1.length then if d.1.length=a.2.2.2.2.1.length then if b.2.1.isSome=true then(b.2.1:Option (bH))>>=λx4=>(b.2.1:Option (bH))>>=λx5=>some ((x3.2.2.1,c.1,c.2.1,c.2.2.1,b.1,b.2.1,d.1,d.2.1,bP.mk x4.kind (aD.mk (aG.mk (0:Int) (0:Int) (Qc #[]) false false) (0:Int) false (Qc #[]) (aG.mk (0:Int) (0:Int) (Qc #[]) false false)) x5.why [],()))else some ((x3.2.2.1,c.1,c.2.1,c.2.2.1,b.1,b.2.1,d.1,d.2.1,bP.mk (0:Int) d.2.2.1 (0:Int) [],()))else none else none
def Gd:=kO sj (kO sk k0)
def x29:Xc vw:={P:=prog,n:=51,call:=Gd.1,pre:=Mf,sh:=OV,regs:=λk=>match k with|1=>some LH|_=>none}
theorem H6:aT prog 29 M_ Kh:=fn0 x29 Tryz.func29 Gd.2
def NX:Cut SN:=⟨[(8, .bp 8 0),(9,Dq1)],[(8, .st .outcomeT)]⟩
def OS:aU vw:={rcut:=NX}
def M7:Sig vw:=sg [Dq3,Dq6,FU,Dq4] NX [.cell 8 34, .tmp 9]
noncomputable def HT(v:(List aB)×ByteArray×(List aD)×Bool×Unit):Option (Int×bP×Unit):=Lm (v.1,v.2.1,v.2.2.1,())>>=λx1=>if(x1.2.1 !=0)=true then some ((x1.2.1,bP.mk (0:Int) (aD.mk (aG.mk (0:Int) (0:Int) (Qc #[]) false false) (0:Int) false (Qc #[]) (aG.mk (0:Int) (0:Int) (Qc #[]) false false)) (0:Int) [],()))else Kh (v.1,x1.1,v.2.2.1,v.2.2.2.1,(-1:Int),())>>=λx2=>some (((0:Int),x2.2.2.2.2.2.2.2.2))
def Gc:=kP H5 (kO H6 k0)
def x11:Xc vw:=mX prog 34 Gc.1 OS [] [] []
theorem AC:aT prog 11 M7 HT:=fn0 x11 Tryz.func11 Gc.2
def Hj:Cut SN:=⟨[(0,Dq4)],[]⟩
def OR:aU vw:={rcut:=Hj}
def M6:Sig vw:=sg [] Hj [.tmp 0]
noncomputable def HR(v:Unit):Option (Bool×Unit):=let G2:=(false,());let G1:=(Qc #[102]);HT ([aB.mk G1 (0:Int) (0:Int) (aG.mk (2:Int) (8:Int) (Qc #[]) false false) [aM.mk (0:Int) (200:Int) (0:Int) (aG.mk (2:Int) (8:Int) (Qc #[]) false false) (Qc #[]),aM.mk (0:Int) (100:Int) (0:Int) (aG.mk (2:Int) (8:Int) (Qc #[]) false false) (Qc #[]),aM.mk (5:Int) (5:Int) (0:Int) (aG.mk (2:Int) (8:Int) (Qc #[]) false false) (Qc #[]),aM.mk (17:Int) (0:Int) (0:Int) (aG.mk (0:Int) (0:Int) (Qc #[]) false false) (Qc #[])]],G1,[],true,())>>=λx1=>HT ([aB.mk G1 (0:Int) (0:Int) (aG.mk (2:Int) (8:Int) (Qc #[]) false false) [aM.mk (0:Int) (200:Int) (0:Int) (aG.mk (2:Int) (8:Int) (Qc #[]) false false) (Qc #[]),aM.mk (0:Int) (100:Int) (0:Int) (aG.mk (2:Int) (8:Int) (Qc #[]) false false) (Qc #[]),aM.mk (5:Int) (5:Int) (0:Int) (aG.mk (2:Int) (8:Int) (Qc #[]) false false) (Qc #[]),aM.mk (17:Int) (0:Int) (0:Int) (aG.mk (0:Int) (0:Int) (Qc #[]) false false) (Qc #[])]],G1,[],G2)>>=λx2=>(if(x1.2.1.kind==1)=true then if(x1.2.1.stop==1)=true then if(x1.1==0)=true then if(x2.2.1.value.n==44)=true then some ((x2.1==0,()))else some (G2)else some (G2)else some (G2)else some (G2))>>=λx3=>some (x3)
def Gb:=kP AC k0
def x10:Xc vw:=mX prog 51 Gb.1 OR [] [(5,Hj)] []
theorem HS:aT prog 10 M6 HR:=fn0 x10 Tryz.func10 Gb.2
noncomputable def L9(v:Unit):Option ((List ByteArray)×Unit):=some (([Qc #[102,110],Qc #[99,111,110,115,116],Qc #[118,97,114],Qc #[99,111,109,112,116,105,109,101],Qc #[114,101,116,117,114,110],Qc #[101,114,114,111,114],Qc #[105,102],Qc #[101,108,115,101],Qc #[119,104,105,108,101],Qc #[102,111,114],Qc #[105,110,108,105,110,101],Qc #[115,119,105,116,99,104],Qc #[100,101,102,101,114],Qc #[101,114,114,100,101,102,101,114],Qc #[98,114,101,97,107],Qc #[99,111,110,116,105,110,117,101],Qc #[103,105,118,101],Qc #[117,110,114,101,97,99,104,97,98,108,101],Qc #[116,114,117,101],Qc #[102,97,108,115,101],Qc #[97,110,100],Qc #[111,114],Qc #[116,114,121],Qc #[99,97,116,99,104],Qc #[111,114,101,108,115,101],Qc #[100,111],Qc #[118,111,105,100],Qc #[98,111,111,108],Qc #[116,121,112,101],Qc #[95]],()))
end Go.Proofs.YtcghbgmmgcljkaaGreatDoor
end
section
namespace Go.Proofs.YtcghbgmmgcljkaaGreatDoor
open Go.Awp Go.Tx
open IntKind (i64)
open Go.Proofs.Tryz (prog)
set_option maxHeartbeats 4000000
set_option maxRecDepth 100000
def Ju:Cut SN:=⟨[(2, .bp 2 0),(3, .bp 3 0),(5,Dq1)],[(2, .st .outcomeT),(3, .st .outcomeT)]⟩
def LE:Cut SN:=⟨[(2, .bp 2 0),(3, .bp 3 0),(33,Dq4)],[(2, .st .outcomeT),(3, .st .outcomeT)]⟩
def OT:aU vw:=shL [(0,jq)] dQ
def M8:Sig vw:=sg [.dat (.st .outcomeT), .dat (.st .outcomeT)] dQ [.tmp 4]
noncomputable def nJ(v:Int×bP×bP×Unit):Option (((Bool×Unit)⊕(Unit))):=if decide (v.1<(↑v.2.1.trace.length:Int))=true then if 0<=v.1 then v.2.1.trace[v.1.toNat]?>>=λx1=>if 0<=v.1 then v.2.2.1.trace[v.1.toNat]?>>=λx2=>if(!x1.toList==x2.toList)=true then some (Rx (false,()))else nJ (i64.wrap (v.1+1),v.2)else none else none else some (Sc ()) partial_fixpoint
noncomputable def Ll(v:bP×bP×Unit):Option (Bool×Unit):=let a:=v.2.1;let b:=v.1;(if(b.kind !=a.kind)=true then some (true,v)else if(!(Mp.ieq b.value.type0.base a.value.type0.base&&(Mp.ieq b.value.type0.bits a.value.type0.bits&&(Mp.seq b.value.type0.name0 a.value.type0.name0&&(Mp.beq b.value.type0.opt a.value.type0.opt&&(Mp.beq b.value.type0.err a.value.type0.err&&(Mp.ieq b.value.n a.value.n&&(Mp.beq b.value.null a.value.null&&(Mp.seq b.value.err a.value.err&&(Mp.ieq b.value.of0.base a.value.of0.base&&(Mp.ieq b.value.of0.bits a.value.of0.bits&&(Mp.seq b.value.of0.name0 a.value.of0.name0&&(Mp.beq b.value.of0.opt a.value.of0.opt&&Mp.beq b.value.of0.err a.value.of0.err)))))))))))))=true then some (true,v)else if(b.stop !=a.stop)=true then some (true,v)else some (((↑b.trace.length:Int) !=(↑a.trace.length:Int),v)))>>=λx1=>if x1.1=true then some ((false,()))else nJ ((0:Int),x1.2)>>=λx2=>match x2 with| .inl y2=>some y2| .inr y2=>some ((true,()))
def x13:Xc vw:=mX prog 52 c0 OT [] [(1,LE)] [(4,⟨Ju,[.ret, .exit 0],nJ⟩)]
theorem AD:mq x13 (cp (bA Tryz.f13) 0) ⟨Ju,[.ret, .exit 0],nJ⟩:=lp0 nJ.partial_correctness cv
theorem HU:aT prog 13 M8 Ll:=fn1 x13 Tryz.func13 cv AD
end Go.Proofs.YtcghbgmmgcljkaaGreatDoor
end
section
namespace Go.Proofs.YtcghbgmmgcljkaaGreatDoor
open Go.Awp Go.Tx
open IntKind (i64)
open Go.Proofs.Tryz (prog)
set_option maxHeartbeats 4000000
set_option maxRecDepth 100000
def N7:Cut SN:=⟨[(0,Dq3),(3,Dq1),(4,Dq1)],[]⟩
def Ou:Cut SN:=⟨[(0,Dq3),(3,Dq1)],[]⟩
def sh9:aU vw:=shL [(0,Ou)] jm
def Pb:Sig vw:=sg [Dq3] jm [.tmp 2]
noncomputable def sA(v:LA):Option (((Bool×Unit)⊕((List aB)×Int×Unit))):=let a:=v.2.2.1;if decide (a<(↑v.1.length:Int))=true then if 0<=a then v.1[a.toNat]?>>=λx1=>if 0<=a then v.1[a.toNat]?>>=λx2=>if decide (x2.places>2000)=true then some (Rx (true,()))else sA (v.1,i64.wrap (v.2.1+(↑x1.code.length:Int)),i64.wrap (a+1),())else none else none else some (Sc (v.1,v.2.1,())) partial_fixpoint
noncomputable def n_9(v:(List aB)×Unit):Option (Bool×Unit):=sA (v.1,(0:Int),(0:Int),())>>=λx1=>match x1 with| .inl y1=>some y1| .inr y1=>(if decide (y1.2.1>3000)=true then some ((true,()))else some ((decide ((↑y1.1.length:Int)>200),())))>>=λx2=>some (x2)
def x9:Xc vw:=mX prog 32 c0 sh9 [] [(8,jm)] [(3,⟨N7,[.ret, .exit 0],sA⟩)]
theorem Eh:mq x9 (cp (bA Tryz.f9) 0) ⟨N7,[.ret, .exit 0],sA⟩:=lp0 sA.partial_correctness cv
theorem Kl:aT prog 9 Pb n_9:=fn1 x9 Tryz.func9 cv Eh
def N2:Cut SN:=⟨[(0,Dq3),(2,GZ),(4, .bp 4 0),(7, .bp 7 0),(9, .vh 1009),(10,Dq1)],[(4, .st .askedT),(7, .st .outcomeT),(1009, .vec 42 (.st .myFuncT))]⟩
def Ot:Cut SN:=⟨[(0,Dq3),(2,GZ),(4, .bp 4 0),(20,Dq4)],[(4, .st .askedT)]⟩
def Oq:Cut SN:=⟨[(4, .bp 4 0),(7, .bp 7 0),(9, .vh 1009)],[(4, .st .askedT),(7, .st .outcomeT),(1009, .vec 42 (.st .myFuncT))]⟩
def sh4:aU vw:=shL [(0,Oq)] wU
def ON:Nat->Bool:=λk=>match k with|11=>true|_=>false
def Pa:Sig vw:=sg [Dq3, .dat (.st .askedT),GZ] wU [.tmp 6]
noncomputable def sm(v:(List aB)×Int×Int×ff×bP×(List aB)×Unit):Option ((ff×bP×(List aB)×Unit)):=let a:=v.2.2;if decide (a.1<(↑v.1.length:Int))=true then if 0<=a.1 then v.1[a.1.toNat]?>>=λx1=>let G1:=(i64.wrap (x1.places+i64.wrap (v.2.1.tmod (8:Int))));if 0+x1.code.length<=4294967296 then if([]++x1.code).length+[aM.mk (19:Int) (5:Int) (0:Int) (aG.mk (0:Int) (0:Int) (Qc #[]) false false) (Qc #[])].length<=4294967296 then if a.2.2.2.1.length+[aB.mk x1.name0 x1.params G1 x1.type0 ([]++x1.code++[aM.mk (19:Int) (5:Int) (0:Int) (aG.mk (0:Int) (0:Int) (Qc #[]) false false) (Qc #[])])].length<=4294967296 then sm (v.1,v.2.1,i64.wrap (a.1+1),a.2.1,a.2.2.1,a.2.2.2.1++[aB.mk x1.name0 x1.params G1 x1.type0 ([]++x1.code++[aM.mk (19:Int) (5:Int) (0:Int) (aG.mk (0:Int) (0:Int) (Qc #[]) false false) (Qc #[])])],())else none else none else none else none else some (a.2) partial_fixpoint
noncomputable def n_4(v:(List aB)×ff×Int×Unit):Option (Bool×Unit):=(n_9 (v.1,())>>=λx1=>if x1.1=true then some ((v.1,v.2.2.1,true,v.2.1,()))else some ((v.1,v.2.2.1,(↑v.1.length:Int)==0,v.2.1,())))>>=λx1=>let a:=x1.2.2.2.1;if x1.2.2.1=true then HR ()>>=λx2=>some (x2)else HT (x1.1,a.name0,a.args,a.checks,())>>=λx2=>if(x2.1 !=0)=true then HR ()>>=λx3=>some (x3)else sm (x1.1,x1.2.1,(0:Int),a,x2.2.1,[],())>>=λx3=>HT (x3.2.2.1,x3.1.name0,x3.1.args,x3.1.checks,())>>=λx4=>(if(x4.1==3)=true then HR ()>>=λx5=>some (x5)else if(x4.1==0)=true then Ll (x3.2.1,x4.2)>>=λx5=>if x5.1=true then HR ()>>=λx6=>some (x6)else some ((false,()))else some ((false,())))>>=λx5=>some (x5)
def Hm:=kP Kl (kP HS (kP AC (kP HU k0)))
def x4:Xc vw:={P:=prog,n:=90,nm:=λd=>match d with|53=>40053|_=>d,call:=Hm.1,pre:=ON,sh:=sh4,regs:=λk=>match k with|1=>some Ot|15=>some wU|_=>none,loops:=λk=>match k with|8=>some {cut:=N2,alts:=[.exit 0],F:=sm}|_=>none}
theorem Eg:mq x4 (cp (bA Tryz.f4) 0) ⟨N2,[.exit 0],sm⟩:=lp0 sm.partial_correctness Hm.2
theorem Ki:aT prog 4 Pa n_4:=fn1 x4 Tryz.func4 Hm.2 Eg
end Go.Proofs.YtcghbgmmgcljkaaGreatDoor
end
section
namespace Go.Proofs.YtcghbgmmgcljkaaGreatDoor
set_option maxRecDepth 20000
instance (s:Bool) (b n:Int):Decidable (inT s b n):=by unfold inT;infer_instance
def Mb(s:Bool)(b n:Int):Int:=if n<lo s b then lo s b else if hi s b<n then hi s b else n
end Go.Proofs.YtcghbgmmgcljkaaGreatDoor
end
section
namespace Go.Proofs.YtcghbgmmgcljkaaGreatDoor
open IntKind (i64)
set_option maxRecDepth 20000
def raw(b n:Int):Nat:=(n%2^b.toNat).toNat
def CT(op:Int)(x y:Nat):Nat:=if op=15 then x&&&y else if op=16 then x|||y else x^^^y
end Go.Proofs.YtcghbgmmgcljkaaGreatDoor
end
section
namespace Go.Proofs.YtcghbgmmgcljkaaGreatDoor
open IntKind (i64)
set_option maxRecDepth 20000
theorem lY{k:Nat}(h:k<=31)(c:Int)(hc: -2<=c/\c<=2):Bs.ishl .i64 c (k:Int)=c *2^k:=by
 have p2:2^k<=2^31:=R1 (by omega) h
 have e2:((2:Int)^k)=((2^k:Nat):Int):=by simp
 have p0:(0:Int)<2^k:=Int.pow_pos (by decide)
 show i64.wrap (c *2^min ((k:Int)).toNat 64)=_
 rw[Qs,Rp (by omega)]
 have:c= -2\/c= -1\/c=0\/c=1\/c=2:=by omega
 rcases this with h|h|h|h|h<;>subst h<;>exact w64 (by omega) (by omega)
theorem Dc(t:b9)(h1:1<=t.bits)(h2:t.bits<=31):xx (t,())=some (hi t.signed t.bits,()):=by
 obtain⟨p1,p2,p3⟩:=jh h1 h2
 rw[xx]
 unfold hi
 by_cases hs:t.signed=true
 ·simp only[hs,TK]
  have e:i64.wrap (t.bits-1)=((t.bits.toNat-1:Nat):Int):=by rw[w64 (by omega) (by omega)];omega
  rw[e,TP (by omega),lY (by omega) 1 (by omega),w64 (by omega) (by omega),TJ]
 ·simp only[hs,TL,Qj]
  have e:t.bits=((t.bits.toNat:Nat):Int):=by omega
  rw[TP (by omega),e,lY (by omega) 1 (by omega),<-e,w64 (by omega) (by omega),TJ]
theorem HM(t:b9)(h1:1<=t.bits)(h2:t.bits<=31):AH (t,())=some (lo t.signed t.bits,()):=by
 obtain⟨p1,p2,p3⟩:=jh h1 h2
 rw[AH]
 unfold lo
 by_cases hs:t.signed=true
 ·simp only[hs,TK]
  have e:i64.wrap (t.bits-1)=((t.bits.toNat-1:Nat):Int):=by rw[w64 (by omega) (by omega)];omega
  rw[e,TP (by omega),lY (by omega) (-1) (by omega)]
  simp
 ·simp only[hs,TL,Qj]
theorem gC(t:b9)(n:Int)(h1:1<=t.bits)(h2:t.bits<=31):lM (t,n,())=some (decide (inT t.signed t.bits n),()):=by
 rw[lM]
 simp only[HM t h1 h2,Dc t h1 h2,Ql,Qe,ge_iff_le,TM]
 unfold inT
 by_cases h:lo t.signed t.bits<=n
 ·simp[h]
 ·simp[h]
theorem eS(t:b9)(n:Int)(h1:1<=t.bits)(h2:t.bits<=31):ul (t,n,())=some (rk t.signed t.bits n,()):=by
 obtain⟨p1,p2,p3⟩:=jh h1 h2
 have m1:=SG n (show(2:Int)^t.bits.toNat≠0 by omega)
 have m2:=Int.emod_lt_of_pos n (show(0:Int)<2^t.bits.toNat by omega)
 have e:t.bits=((t.bits.toNat:Nat):Int):=by omega
 have es:Bs.ishl .i64 1 t.bits=2^t.bits.toNat:=by
  rw[e,lY (by omega) 1 (by omega),<-e,TJ]
 have em:Bs.iand .i64 n (i64.wrap (2^t.bits.toNat-1))=n%2^t.bits.toNat:=by
  rw[w64 (by omega) (by omega),z_ n (by omega)]
 rw[ul]
 simp only[Dc t h1 h2,es,em,Ql,Qe,gt_iff_lt,TM]
 rw[TP (by omega)]
 unfold rk hi
 by_cases hs:t.signed=true
 ·simp only[hs,TK,true_and]
  by_cases h:2^(t.bits.toNat-1) -1<n%2^t.bits.toNat
  ·rw[TP h,TP (by omega),TP (by omega),w64 (by omega) (by omega)]
   rfl
  ·rw[TN h,TN (by omega)]
   rfl
 ·simp only[hs,TL,Qj,false_and]
  rw[TN (by omega)]
  rfl
theorem mj(t:b9)(h1:1<=t.bits)(h2:t.bits<=31):nL (t,())=some (0,()):=by
 rw[nL]
 rw[TN (by simp;omega)]
 have:¬31<t.bits:=by omega
 simp[this]
def fR(op x y:Int):Option Int:=
 if op=5\/op=10\/op=13 then some (x+y)else if op=6\/op=11\/op=14 then some (x-y)else if op=7\/op=12 then some (x *y)else if y=0 then none else some (x.tdiv y)
def doS(op:Int)(s:Bool)(b x y:Int):Int×Int:=
 if 15<=op then(rk s b ((CT op (raw b x) (raw b y):Nat):Int),0)else
 match fR op x y with
 |none=>(if op=9 then x else 0,2)
 |some n=>
  if op=10\/op=11\/op=12 then(rk s b n,0)else
  if op=13\/op=14 then(Mb s b n,0)else
  if inT s b n then(if op=9 then x.tmod y else n,0)else(if op=9 then 0 else rk s b n,1)
theorem HQ{x y M:Int}(hx: -M<=x)(hx':x<=M)(hy: -M<=y)(hy':y<=M): -(M *M)<=x *y/\x *y<=M *M:=by
 have h1:0<=(M-x) *(M-y):=Sw (by omega) (by omega)
 have h2:0<=(M+x) *(M+y):=Sw (by omega) (by omega)
 have h3:0<=(M-x) *(M+y):=Sw (by omega) (by omega)
 have h4:0<=(M+x) *(M-y):=Sw (by omega) (by omega)
 simp only[Int.sub_mul,Int.add_mul,Int.mul_sub,Int.mul_add]at h1 h2 h3 h4
 have c1:=Int.mul_comm x M
 constructor<;>omega
theorem E4{x y:Int}: -(x.natAbs:Int)<=x.tdiv y/\x.tdiv y<=(x.natAbs:Int):=by
 have h:(x.tdiv y).natAbs<=x.natAbs:=by rw[Int.natAbs_tdiv];exact Nat.div_le_self _ _
 omega
theorem E8{x y:Int}(hy:y≠0):(0<=x->0<=x.tmod y/\x.tmod y<=x)/\(x<=0->x<=x.tmod y/\x.tmod y<=0):=by
 have hn:(x.tmod y).natAbs<=x.natAbs:=by rw[Int.natAbs_tmod];exact Nat.mod_le _ _
 constructor
 ·intro h
  have:=Int.tmod_nonneg y h
  omega
 ·intro h
  have:=Int.tmod_nonneg y (show 0<= -x by omega)
  rw[Int.neg_tmod]at this
  omega
theorem Jl{b:Int}(h1:1<=b)(h2:b<=31)(s:Bool): -1073741824<=lo s b/\lo s b<=0/\0<=hi s b/\hi s b<=2147483647:=by
 obtain⟨p1,p2,p3⟩:=jh h1 h2
 unfold lo hi
 cases s<;>simp<;>omega
end Go.Proofs.YtcghbgmmgcljkaaGreatDoor
end
section
namespace Go.Proofs.YtcghbgmmgcljkaaGreatDoor
open IntKind (i64)
set_option maxRecDepth 20000
def sQ(n:Int):Nat:=(BitVec.ofInt 64 n).toNat
theorem EE(n:Int):(sQ n:Int)=n%2^64:=by
 unfold sQ
 rw[BitVec.toNat_ofInt]
 have:=SG n (show((2^64:Nat):Int)≠0 by decide)
 rw[SJ this]
 rfl
theorem sR(n:Int){b:Int}(h1:1<=b)(h2:b<=31):sQ n%2^b.toNat=raw b n:=by
 have e:=EE n
 have e2:((2:Int)^b.toNat)=((2^b.toNat:Nat):Int):=by simp
 have h:((sQ n%2^b.toNat:Nat):Int)=n%2^b.toNat:=by
  rw[Int.natCast_emod,e,<-e2]
  exact Tq n (by
   rw[e2,show(2:Int)^64=((2^64:Nat):Int) by rfl,Sy]
   exact Td 2 (by omega))
 unfold raw
 omega
theorem Fr{m:Nat}(h:m<2^64):i64.wrap (m:Int)=if m<2^63 then(m:Int)else(m:Int) -2^64:=by
 unfold IntKind.wrap
 simp only[IntKind.bits,IntKind.signed,RU]
 split<;>rename_i h'<;>simp at h'<;>split<;>omega
def wO(op:Int)(x y:Int):Int:=if op=15 then Bs.iand .i64 x y else if op=16 then Bs.ior .i64 x y else Bs.ixor .i64 x y
theorem CS(op x y:Int):wO op x y=i64.wrap ((CT op (sQ x) (sQ y):Nat):Int):=by
 unfold wO CT
 split
 ·show i64.wrap ((BitVec.ofInt 64 x&&&BitVec.ofInt 64 y).toNat:Int)=_
  rw[BitVec.toNat_and];rfl
 ·split
  ·show i64.wrap ((BitVec.ofInt 64 x|||BitVec.ofInt 64 y).toNat:Int)=_
   rw[BitVec.toNat_or];rfl
  ·show i64.wrap ((BitVec.ofInt 64 x^^^BitVec.ofInt 64 y).toNat:Int)=_
   rw[BitVec.toNat_xor];rfl
theorem He(op:Int){x y k:Nat}(hx:x<2^k)(hy:y<2^k):CT op x y<2^k:=by
 unfold CT
 split
 ·exact Nat.and_lt_two_pow _ hy
 ·split
  ·exact Nat.or_lt_two_pow hx hy
  ·exact Nat.xor_lt_two_pow hx hy
theorem CU(op:Int)(x y k:Nat):CT op x y%2^k=CT op (x%2^k) (y%2^k):=by
 unfold CT
 split
 ·exact Nat.and_mod_two_pow
 ·split
  ·exact Nat.or_mod_two_pow
  ·exact Nat.xor_mod_two_pow
theorem qj(op:Int){s:Bool}{b x y:Int}(h1:1<=b)(h2:b<=31):
 rk s b (wO op x y)=rk s b ((CT op (raw b x) (raw b y):Nat):Int):=by
 refine wN ?_
 have lx:sQ x<2^64:=(BitVec.ofInt 64 x).isLt
 have ly:sQ y<2^64:=(BitVec.ofInt 64 y).isLt
 have lz:=He op lx ly
 rw[CS,<-sR x h1 h2,<-sR y h1 h2,<-CU]
 have e2:((2:Int)^b.toNat)=((2^b.toNat:Nat):Int):=by simp
 rw[e2,Int.natCast_emod,Int.emod_emod,Fr lz]
 split
 ·rfl
 ·have hd:((2^b.toNat:Nat):Int)∣2^64:=by
   rw[show(2:Int)^64=((2^64:Nat):Int) by rfl,Sy]
   exact Td 2 (by omega)
  obtain⟨c,hc⟩:=hd
  rw[hc,Int.sub_mul_emod_self_left]
end Go.Proofs.YtcghbgmmgcljkaaGreatDoor
end
section
namespace Go.Proofs.YtcghbgmmgcljkaaGreatDoor
open IntKind (i64)
set_option maxRecDepth 20000
theorem v7{s:Bool}{b:Int}(h1:1<=b)(h2:b<=31)(n:Int):max (lo s b) (min (hi s b) n)=Mb s b n:=by
 have:=Jl h1 h2 s
 unfold Mb
 split
 ·omega
 ·split<;>omega
theorem J4(op:Int)(t:b9)(x y:Int)(h1:1<=t.bits)(h2:t.bits<=31)(hx:inT t.signed t.bits x)(hy:inT t.signed t.bits y)(ho:5<=op/\op<=17):
 AG (op,t,x,y,())=some ((doS op t.signed t.bits x y).1,(doS op t.signed t.bits x y).2,()):=by
 have lx:=Dk h1 h2 hx
 have ly:=Dk h1 h2 hy
 have m:=HQ (x:=x) (y:=y) (M:=2147483647) (by omega) (by omega) (by omega) (by omega)
 have d:=E4 (x:=x) (y:=y)
 have w1:i64.wrap (x+y)=x+y:=w64 (by omega) (by omega)
 have w2:i64.wrap (x-y)=x-y:=w64 (by omega) (by omega)
 have w3:i64.wrap (x *y)=x *y:=w64 (by omega) (by omega)
 have w4:i64.wrap (x.tdiv y)=x.tdiv y:=w64 (by omega) (by omega)
 have hb:=Jl h1 h2 t.signed
 have k:op=5\/op=6\/op=7\/op=8\/op=9\/op=10\/op=11\/op=12\/op=13\/op=14\/op=15\/op=16\/op=17:=by omega
 rw[AG]
 rcases k with h|h|h|h|h|h|h|h|h|h|h|h|h<;>subst h
 ·by_cases hin:inT t.signed t.bits (x+y)<;>
   simp[ig,xy,doS,fR,w1,gC t _ h1 h2,eS t _ h1 h2,hin]
 ·by_cases hin:inT t.signed t.bits (x-y)<;>
   simp[ig,xz,doS,fR,w2,gC t _ h1 h2,eS t _ h1 h2,hin]
 ·by_cases hin:inT t.signed t.bits (x *y)<;>
   simp[ig,AJ,doS,fR,w3,gC t _ h1 h2,eS t _ h1 h2,hin]
 ·by_cases hy0:y=0
  ·simp[doS,fR,hy0]
  by_cases hin:inT t.signed t.bits (x.tdiv y)<;>
   simp[ig,D6,doS,fR,w4,gC t _ h1 h2,eS t _ h1 h2,hin,hy0]
 ·by_cases hy0:y=0
  ·simp[doS,fR,hy0]
  have hm:inT t.signed t.bits (x.tmod y):=by
   obtain⟨m1,m2⟩:=E8 (x:=x) hy0
   obtain⟨q1,q2⟩:=hx
   refine⟨?_,?_⟩
   ·rcases Int.le_total 0 x with h|h
    ·have:=m1 h;omega
    ·have:=m2 h;omega
   ·rcases Int.le_total 0 x with h|h
    ·have:=m1 h;omega
    ·have:=m2 h;omega
  by_cases hin:inT t.signed t.bits (x.tdiv y)
  ·simp[ig,AK,doS,fR,w4,gC t _ h1 h2,hin,hy0,hm]
  ·have h0:x.tmod y=0:=by
    have hxy:x=y *x.tdiv y+x.tmod y:=(Int.mul_tdiv_add_tmod x y).symm
    have hd:(x.tdiv y).natAbs=x.natAbs/y.natAbs:=Int.natAbs_tdiv x y
    have hya:1<=y.natAbs:=by omega
    by_cases hy1:y.natAbs=1
    ·have:y=1\/y= -1:=by omega
     rcases this with h|h<;>subst h
     ·exact Int.tmod_one x
     ·rw[Int.tmod_neg];exact Int.tmod_one x
    ·exfalso
     refine hin ?_
     have h2':x.natAbs/y.natAbs<=x.natAbs/2:=Nat.div_le_div_left (by omega) (by omega)
     obtain⟨q1,q2⟩:=hx
     obtain⟨q3,q4⟩:=hy
     have hlh:t.signed=true->lo t.signed t.bits= -hi t.signed t.bits-1:=by
      intro hs;unfold lo hi;simp[hs];omega
     by_cases hs:t.signed=true
     ·have:=hlh hs
      refine⟨by omega,by omega⟩
     ·have hl0:lo t.signed t.bits=0:=by unfold lo;simp[hs]
      have:=Int.tdiv_nonneg (a:=x) (b:=y) (by omega) (by omega)
      refine⟨by omega,by omega⟩
   have hb0:rk t.signed t.bits 0=0:=kd h1 h2 ⟨hb.2.1,hb.2.2.1⟩
   simp[ig,AK,doS,fR,w4,gC t _ h1 h2,eS t _ h1 h2,hin,hy0,h0,hb0]
 ·simp[ig,xy,doS,fR,w1,eS t _ h1 h2]
 ·simp[ig,xz,doS,fR,w2,eS t _ h1 h2]
 ·simp[ig,AJ,doS,fR,w3,eS t _ h1 h2]
 ·simp[ig,xy,AL,doS,fR,w1,Dc t h1 h2,HM t h1 h2,v7 h1 h2]
 ·simp[ig,xz,AL,doS,fR,w2,Dc t h1 h2,HM t h1 h2,v7 h1 h2]
 ·have e:=qj 15 (s:=t.signed) (x:=x) (y:=y) h1 h2
  simp only[wO,TK]at e
  simp[ig,D_,doS,eS t _ h1 h2,e]
 ·have e:=qj 16 (s:=t.signed) (x:=x) (y:=y) h1 h2
  simp only[wO,TK,show(16:Int)≠15 by decide,TL]at e
  simp[ig,Eb,doS,eS t _ h1 h2,e]
 ·have e:=qj 17 (s:=t.signed) (x:=x) (y:=y) h1 h2
  simp only[wO,show(17:Int)≠15 by decide,show(17:Int)≠16 by decide,TL]at e
  simp[ig,Ed,doS,eS t _ h1 h2,e]
theorem vn(op:Int)(t:b9)(x y:Int)(h1:1<=t.bits)(h2:t.bits<=31)(hx:inT t.signed t.bits x)(hy:inT t.signed t.bits y)(ho:5<=op/\op<=17):
 AF (op,t,x,y,())=some (0,()):=by
 rw[AF]
 have a1:¬op<5:=by omega
 have a2:¬17<op:=by omega
 simp[mj t h1 h2,gC t _ h1 h2,hx,hy,a1,a2]
theorem wZ(op:Int)(t:b9)(x y:Int)(h1:1<=t.bits)(h2:t.bits<=31)(hx:inT t.signed t.bits x)(hy:inT t.signed t.bits y)(ho:5<=op/\op<=17):
 DB (op,t,x,y,())=some (if(doS op t.signed t.bits x y).2=0 then(doS op t.signed t.bits x y).1 else 0,(doS op t.signed t.bits x y).2,0,()):=by
 rw[DB]
 simp only[vn op t x y h1 h2 hx hy ho,J4 op t x y h1 h2 hx hy ho,Ql,Qe,bne_self_eq_false,Qj,TL]
 by_cases h:(doS op t.signed t.bits x y).2=0
 ·simp[h]
 ·simp[h]
theorem Dn(op:Int)(t:b9)(x y:Int)(h1:1<=t.bits)(h2:t.bits<=31)(hx:inT t.signed t.bits x)(hy:inT t.signed t.bits y)(ho:5<=op/\op<=17):
 DE (op,t,x,y,())=some ((doS op t.signed t.bits x y).1,0,()):=by
 rw[DE]
 simp only[vn op t x y h1 h2 hx hy ho,J4 op t x y h1 h2 hx hy ho,Ql,Qe,bne_self_eq_false,Qj,TL]
theorem Dr(t:b9)(n:Int)(h1:1<=t.bits)(h2:t.bits<=31):DS (t,n,())=some (rk t.signed t.bits n,0,()):=by
 rw[DS]
 simp[mj t h1 h2,eS t _ h1 h2]
theorem Dp(t:b9)(n:Int)(h1:1<=t.bits)(h2:t.bits<=31):DI (t,n,())=some (decide (inT t.signed t.bits n),0,()):=by
 rw[DI]
 simp[mj t h1 h2,gC t _ h1 h2]
theorem HP(t:b9)(n:Int)(h1:1<=t.bits)(h2:t.bits<=31)(hn:inT t.signed t.bits n):
 DG (t,n,())=some (if inT t.signed t.bits (-n)then(-n,0,0,())else(0,1,0,())):=by
 have ln:=Dk h1 h2 hn
 have w:i64.wrap (-n)= -n:=w64 (by omega) (by omega)
 rw[DG]
 by_cases h:inT t.signed t.bits (-n)<;>simp[mj t h1 h2,gC t _ h1 h2,hn,w,h]
end Go.Proofs.YtcghbgmmgcljkaaGreatDoor
end
section
namespace Go.Proofs.YtcghbgmmgcljkaaGreatDoor
set_option maxRecDepth 20000
open Go.Lib
theorem cY{α:Type}{l:List α}{k:Nat}(h:k<l.length):∃p,l[k]?=some p/\p∈l/\l.drop k=p::l.drop (k+1):=
 ⟨l[k],Qi h,Q7 h,S5 h⟩
theorem dI{α:Type}{l:List α}{k:Nat}(h:¬k<l.length):l.drop k=[]:=RR (by omega)
theorem fg(s:ByteArray):s.data.toList.length=s.size:=RB
theorem oz(s:ByteArray):∀(n i:Nat) (r:List UInt8),s.size-i=n->SD s i r=r.reverse++s.data.toList.drop i
 |0,i,r,h=>by
  have hs:=fg s
  rw[SD,TN (by omega),RR (by omega),RO]
 |n+1,i,r,h=>by
  have hs:=fg s
  have hi:i<s.data.toList.length:=by omega
  rw[SD,TP (by omega),oz s n (i+1) _ (by omega),S5 hi,S3,Rt]
  have:s.get! i=s.data.toList[i]:=by
   show s.data[i]! =_
   rw[getElem!_pos s.data i (by rw[<-RB];exact hi)];rfl
  rw[this];rfl
theorem oy(s:ByteArray):s.toList=s.data.toList:=by
 unfold ByteArray.toList
 rw[oz s _ 0 [] rfl];simp
theorem rq{a b:ByteArray}(h:a.data.toList=b.data.toList):a=b:=by
 cases a;cases b;simp only at h;congr 1;exact RV.mp h
theorem iT(a b:ByteArray):(a.toList==b.toList)=decide (a=b):=by
 rw[oy,oy]
 by_cases h:a=b
 ·subst h;simp
 ·rw[decide_eq_false h]
  exact beq_eq_false_iff_ne.mpr λh2=>h (rq h2)
theorem vo(s:ByteArray)(i:Nat):s[i]?=s.data.toList[i]?:=by
 have hs:=fg s
 by_cases h:i<s.size
 ·rw[getElem?_pos s i h,Qi (by omega)];rfl
 ·rw[getElem?_neg s i h,So (by omega)]
def iG(c:UInt8):Bool:=(decide (97<=c.toNat)&&decide (c.toNat<=122))||(decide (65<=c.toNat)&&decide (c.toNat<=90))||decide (c.toNat=95)
def gG(c:UInt8):Bool:=decide (48<=c.toNat)&&decide (c.toNat<=57)
def gQ(c:UInt8):Bool:=iG c||gG c
def vc:List UInt8->Bool
 |[]=>false
 |c::r=>iG c&&r.all gQ
def yK(l:List UInt8):Nat:=(l.takeWhile gQ).length
end Go.Proofs.YtcghbgmmgcljkaaGreatDoor
end
section
namespace Go.Proofs.YtcghbgmmgcljkaaGreatDoor
set_option maxRecDepth 20000
open Go.Lib
end Go.Proofs.YtcghbgmmgcljkaaGreatDoor
end
section
namespace Go.Proofs.YtcghbgmmgcljkaaGreatDoor
set_option maxRecDepth 20000
open Go.Lib
theorem o_(s:ByteArray){a b:Nat}(hb:b<=s.size):(s.extract a b).data.toList=(s.data.toList.drop a).take (b-a):=by
 rw[ByteArray.data_extract,Array.toList_extract,List.extract_eq_take_drop]
end Go.Proofs.YtcghbgmmgcljkaaGreatDoor
end
section
namespace Go.Proofs.YtcghbgmmgcljkaaGreatDoor
open IntKind (u8)
set_option maxRecDepth 20000
open Go.Lib
def m4:Nat->Tq8->Option ((List Int)×(List Int)×Unit)
 |0,_=>none
 |k+1,v=>
 if decide (v.1<=122)=true then
  if 0<=v.1/\v.1<((256:Nat):Int)then
   if v.1.toNat<256 then
    if v.1.toNat<v.2.2.1.length then
     if 0<=u8.wrap (u8.wrap (v.1-97)+65)/\u8.wrap (u8.wrap (v.1-97)+65)<((256:Nat):Int)then
      if(u8.wrap (u8.wrap (v.1-97)+65)).toNat<256 then
       if(u8.wrap (u8.wrap (v.1-97)+65)).toNat<(v.2.2.1.set v.1.toNat 2).length then
        m4 k (u8.wrap (v.1+1),v.2.1,(v.2.2.1.set v.1.toNat 2).set (u8.wrap (u8.wrap (v.1-97)+65)).toNat 2,())
       else none
      else none
     else none
    else none
   else none
  else none
 else some ((v.2.1,v.2.2.1,()))
theorem gE{c:Prop}[Decidable c]{α:Type}{a b:Option α}{r:α}(h:(if c then a else none)=some r)(hab:a=some r->b=some r):(if c then b else none)=some r:=by
 by_cases hc:c
 ·rw[TP hc]at h⊢;exact hab h
 ·rw[TN hc]at h;cases h
theorem vO{c:Prop}[Decidable c]{α:Type}{a b d:Option α}{r:α}(h:(if c then a else d)=some r)(hab:a=some r->b=some r):(if c then b else d)=some r:=by
 by_cases hc:c
 ·rw[TP hc]at h⊢;exact hab h
 ·rw[TN hc]at h⊢;exact h
theorem Kf:∀(k:Nat) (v:Tq8) r,m4 k v=some r->jc v=some r
 |0,v,r,h=>by cases h
 |k+1,v,r,h=>by
  rw[m4]at h;rw[jc]
  exact vO h λh=>gE h λh=>gE h λh=>gE h λh=>gE h λh=>gE h λh=>gE h λh=>Kf k _ _ h
def m8:Nat->Tq8->Option ((List Int)×(List Int)×Unit)
 |0,_=>none
 |k+1,v=>
 if decide (v.1<=57)=true then
  if 0<=v.1/\v.1<((256:Nat):Int)then
   if v.1.toNat<256 then
    if v.1.toNat<v.2.2.1.length then
     m8 k (u8.wrap (v.1+1),v.2.1,v.2.2.1.set v.1.toNat 3,())
    else none
   else none
  else none
 else some ((v.2.1,v.2.2.1,()))
theorem Kg:∀(k:Nat) (v:Tq8) r,m8 k v=some r->jd v=some r
 |0,v,r,h=>by cases h
 |k+1,v,r,h=>by
  rw[m8]at h;rw[jd]
  exact vO h λh=>gE h λh=>gE h λh=>gE h λh=>Kg k _ _ h
def po(n:Nat):Int:=if n=32\/n=10 then 1 else if(97<=n/\n<=122)\/(65<=n/\n<=90)\/n=95 then 2 else if 48<=n/\n<=57 then 3 else 0
def tab:List Int:=(RC 256).map po
theorem Cf(c:UInt8):tab[c.toNat]?=some (po c.toNat):=by
 have:=c.toNat_lt
 unfold tab
 rw[Qh,Ru (by omega)];rfl
theorem EU:DK ()=some (tab,()):=by
 have h:(m4 30 (97,QK 256 0,(((QK 256 0).set (Q1 32) 1).set (Q1 10) 1).set (Q1 95) 2,())>>=λx1=>m8 30 (48,x1.1,x1.2.1,())>>=λx2=>some (x2.2.1,()))=some (tab,()):=by kernel_rfl
 rw[DK]
 cases e:m4 30 (97,QK 256 0,(((QK 256 0).set (Q1 32) 1).set (Q1 10) 1).set (Q1 95) 2,())with
 |none=>rw[e]at h;cases h
 |some x1=>
  rw[e]at h
  rw[Kf _ _ _ e]
  simp only[Ql,Qe]at h⊢
  cases e2:m8 30 (48,x1.1,x1.2.1,())with
  |none=>rw[e2]at h;cases h
  |some x2=>
   rw[e2]at h
   rw[Kg _ _ _ e2]
   exact h
theorem Al(c:UInt8):decide (po c.toNat>=2)=gQ c:=by
 unfold po gQ iG gG
 by_cases h1:c.toNat=32\/c.toNat=10
 ·rw[TP h1]
  rcases h1 with h|h<;>rw[h]<;>rfl
 ·rw[TN h1]
  by_cases h2:(97<=c.toNat/\c.toNat<=122)\/(65<=c.toNat/\c.toNat<=90)\/c.toNat=95
  ·rw[TP h2]
   rcases h2 with h|h|h<;>simp[h]
  ·rw[TN h2]
   by_cases h3:48<=c.toNat/\c.toNat<=57
   ·rw[TP h3];simp[h3]
   ·rw[TN h3]
    symm
    simp only[ge_iff_le,Ro,Tm,decide_eq_false_iff_not,show¬(2:Int)<=0 by decide,TR]
    omega
theorem ue(c:UInt8):(po c.toNat==2)=iG c:=by
 unfold po iG
 by_cases h1:c.toNat=32\/c.toNat=10
 ·rw[TP h1]
  rcases h1 with h|h<;>rw[h]<;>rfl
 ·rw[TN h1]
  by_cases h2:(97<=c.toNat/\c.toNat<=122)\/(65<=c.toNat/\c.toNat<=90)\/c.toNat=95
  ·rw[TP h2]
   rcases h2 with h|h|h<;>simp[h]
  ·rw[TN h2]
   have:((if 48<=c.toNat/\c.toNat<=57 then 3 else 0:Int)==2)=false:=by split<;>rfl
   rw[this]
   symm
   simp only[Ro,Tm,decide_eq_false_iff_not]
   omega
theorem sO(s:ByteArray)(hs:s.size<=8):∀(j i:Nat),i+j=s.size->c_ (s,(i:Int),tab,())=some (((i+yK (s.data.toList.drop i):Nat):Int),tab,())
 |0,i,h=>by
  rw[c_]
  have hz:=fg s
  rw[dI (by omega)]
  have:¬(i:Int)<(s.size:Int):=by omega
  simp[this,yK]
 |j+1,i,h=>by
  have hz:=fg s
  obtain⟨c,hc,_,hd⟩:=cY (l:=s.data.toList) (k:=i) (by omega)
  have h1:(i:Int)<(s.size:Int):=by omega
  have h2:(0:Int)<=(i:Int):=by omega
  have hcl:=c.toNat_lt
  rw[c_,hd]
  simp only[h1,h2,TQ,TK,Qs,vo,hc,Ql,Qe,Cf,Al]
  rw[TP (by omega),TP (by omega)]
  have e:yK (c::s.data.toList.drop (i+1))=if gQ c=true then yK (s.data.toList.drop (i+1))+1 else 0:=by
   unfold yK
   rw[Tu]
   split<;>simp
  have ih:=sO s hs j (i+1) (by omega)
  have w:IntKind.i64.wrap ((i:Int)+1)=((i+1:Nat):Int):=by rw[w64 (by omega) (by omega)];omega
  rw[e]
  simp only[Qe,w,ih]
  cases hl:gQ c
  ·simp
  ·simp only[TK]
   rw[show i+1+yK (s.data.toList.drop (i+1))=i+(yK (s.data.toList.drop (i+1))+1) by omega]
theorem EK(l:List UInt8):(yK l=l.length)↔l.all gQ=true:=by
 induction l with
 |nil=>simp[yK]
 |cons c r ih=>
  unfold yK at ih⊢
  rw[Tu,Rb]
  cases h:gQ c
  ·simp
  ·simp[ih]
theorem ED(s:ByteArray)(hs:s.size<=8):Ds (s,())=some (vc s.data.toList,()):=by
 have hz:=fg s
 rw[Ds]
 simp only[EU,Ql,Qe,iT]
 match hd:s.data.toList with
 |[]=>
  have:s=Qc #[]:=rq hd
  simp[this,vc]
 |c::r=>
  have hne:¬s=Qc #[]:=by intro h;rw[h]at hd;simp at hd
  have hc:s[Q1 0]?=some c:=by rw[vo,hd];rfl
  have hcl:=c.toNat_lt
  have hp:=sO s hs s.size 0 (by omega)
  rw[Q5,QV,hd,Qy]at hp
  simp only[hne,TR,R6,TK,hc,Qe,Qs,Cf,ue]
  rw[TP (by omega),TP (by omega),kw,hp]
  simp only[Ql,Qe,vc]
  have ra:=EK (c::r)
  have hlen:(c::r).length=s.size:=by rw[<-hd,hz]
  cases hl:iG c
  ·simp
  ·simp only[TK,Qe,RU,Qd,QI,and_true]
   have iw:gQ c=true:=by simp[gQ,hl]
   rw[Rb,iw,RU,hlen]at ra
   cases hr:r.all gQ
   ·have:¬yK (c::r)=s.size:=by rw[ra,hr];decide
    simp;omega
   ·have:yK (c::r)=s.size:=by rw[ra,hr]
    simp[this]
end Go.Proofs.YtcghbgmmgcljkaaGreatDoor
end
section
namespace Go.Proofs.YtcghbgmmgcljkaaGreatDoor
set_option maxRecDepth 20000
open Go.Lib
instance (s:ByteArray) (R:List ByteArray):Decidable (s∈R):=decidable_of_iff (∃x∈R,x=s) (by simp)
noncomputable def xj:List ByteArray:=((L9 ()).getD ([],())).1
theorem Dg:xj.length=30:=by kernel_rfl
theorem zN{c:ByteArray}{R:List ByteArray}(h1:c.size<4294967281/\c.data.toList.all (λb=>decide (b.toNat<128))=true)
 (h2:(Lib.fields c.data.toList).map (λl=>(⟨l.toArray⟩:ByteArray))=R):AE (c,())=some (R,()):=by
 rw[AE]
 simp only[]
 rw[TP h1,h2]
theorem pj(R:List ByteArray)(hR:R.length<=100)(s:ByteArray):∀(j k:Nat),k+j=R.length->
 (s∈R.drop k/\∃i:Nat,gJ (R,s,(R.length:Int),(k:Int),())=some (.inl ((i:Int),())))\/(¬s∈R.drop k/\gJ (R,s,(R.length:Int),(k:Int),())=some (.inr ()))
 |0,k,h=>by
  right
  rw[gJ,dI (by omega)]
  have:¬(k:Int)<(R.length:Int):=by omega
  simp[this]
 |j+1,k,h=>by
  obtain⟨x,hx,hm,hd⟩:=cY (l:=R) (k:=k) (by omega)
  have h1:(k:Int)<(R.length:Int):=by omega
  have h2:(0:Int)<=(k:Int):=by omega
  have w:IntKind.i64.wrap ((k:Int)+1)=((k+1:Nat):Int):=by rw[w64 (by omega) (by omega)];omega
  have ih:=pj R hR s j (k+1) (by omega)
  rw[gJ,hd]
  simp only[h1,h2,TQ,TK,Qs,hx,Ql,Qe,iT,TM,Qu,w]
  by_cases e:s=x
  ·left
   rw[TP e]
   exact⟨.inl e,k,rfl⟩
  ·simp only[e,TL,false_or]
   exact ih
theorem It(s:ByteArray):Du (s,())=some (decide (s∈xj),()):=by
 rw[Du,zN (R:=xj)]
 ·have h:=pj xj (by rw[Dg];decide) s _ 0 (Qy _)
  rw[Q5,QV]at h
  simp only[Ql,Qe,HV,HY]
  rcases h with⟨hm,i,h⟩|⟨hm,h⟩
  ·simp only[h,Qe,hm,TQ]
   have:(0:Int)<=(i:Int):=by omega
   simp[this]
  ·simp[h,hm]
 ·refine⟨?_,?_⟩
  ·decide
  ·decide
 ·kernel_rfl
end Go.Proofs.YtcghbgmmgcljkaaGreatDoor
end
section
namespace Go.Proofs.YtcghbgmmgcljkaaGreatDoor
set_option maxRecDepth 20000
open Go.Lib
def Hr(d:Nat):ByteArray:=Qc #[Si (48+d)]
def N8:ByteArray:=Qc #[48,49,50,51,52,53,54,55,56,57,97,98,99,100,101,102]
def Lf:Nat->Nat->ByteArray->ByteArray
 |0,n,a=>Hr n++a
 |k+1,n,a=>if n<10 then Hr n++a else Lf k (n/10) (Hr (n%10)++a)
def dec(n:Nat):ByteArray:=Lf 7 n (Qc #[])
theorem zD{d:Nat}(h:d<10):∃x,N8[d]?=some x/\Bs.enc1 (x.toNat:Int)=Hr d:=by
 have:d=0\/d=1\/d=2\/d=3\/d=4\/d=5\/d=6\/d=7\/d=8\/d=9:=by omega
 rcases this with h|h|h|h|h|h|h|h|h|h<;>subst h<;>exact⟨_,rfl,by decide⟩
theorem mZ(d:Nat):(Hr d).size=1:=rfl
theorem w8{n:Nat}(hn:n<1000000000):(n:Int).tmod 10=((n%10:Nat):Int)/\IntKind.i64.wrap ((n:Int).tdiv 10)=((n/10:Nat):Int):=by
 have e1:(n:Int).tdiv 10=((n/10:Nat):Int):=by
  rw[Int.tdiv_eq_ediv_of_nonneg (by omega)];omega
 refine⟨?_,?_⟩
 ·rw[SU (by omega)];omega
 ·rw[e1,w64 (by omega) (by omega)]
theorem sL:∀(k n:Nat) (a:ByteArray),n<10^(k+1)->k<=7->a.size+k<=100->
 ∃(m:Nat) (a':ByteArray),dg ((n:Int),10,a,())=some ((m:Int),a',())/\m<10/\Hr m++a'=Lf k n a/\a'.size<=100
 |0,n,a,hn,hk,ha=>by
  have:n<10:=by simpa using hn
  rw[dg]
  have h1:¬(10:Int)<=(n:Int):=by omega
  simp only[ge_iff_le,h1,TR,Qj,TL]
  exact⟨n,a,rfl,this,rfl,by omega⟩
 |k+1,n,a,hn,hk,ha=>by
  rw[dg,Lf]
  by_cases h:n<10
  ·have h1:¬(10:Int)<=(n:Int):=by omega
   simp only[ge_iff_le,h1,TR,Qj,TL,TP h]
   exact⟨n,a,rfl,h,rfl,by omega⟩
  ·have h1:(10:Int)<=(n:Int):=by omega
   have p8:10^(k+1+1)<=10^8:=R1 (by omega) (by omega)
   obtain⟨e1,e2⟩:=w8 (n:=n) (by omega)
   obtain⟨x,hx,he⟩:=zD (d:=n%10) (by omega)
   have hx':(Qc #[48,49,50,51,52,53,54,55,56,57,97,98,99,100,101,102])[n%10]?=some x:=hx
   have h0:(0:Int)<=((n%10:Nat):Int):=by omega
   have ih:=sL k (n/10) (Hr (n%10)++a) (by rw[TD]at hn;omega) (by omega) (by rw[ByteArray.size_append,mZ];omega)
   simp only[ge_iff_le,h1,TQ,TK,e1,e2,h0,Qs,hx',Ql,Qe,he,show¬(10:Int)=0 by decide,TL,TN h,mZ]
   rw[TP (by omega)]
   exact ih
theorem Iq{n:Nat}(hn:n<100000000):oH ((n:Int),10,())=some (dec n,()):=by
 obtain⟨m,a,h,hm,hd,hs⟩:=sL 7 n (Qc #[]) (by simpa using hn) (by omega) (by decide)
 obtain⟨x,hx,he⟩:=zD hm
 have hx':(Qc #[48,49,50,51,52,53,54,55,56,57,97,98,99,100,101,102])[m]?=some x:=hx
 have h1:¬(n:Int)<0:=by omega
 have h0:(0:Int)<=(m:Int):=by omega
 rw[oH]
 simp only[h1,TR,Qj,TL,h,Ql,Qe,h0,TK,Qs,hx',he,mZ]
 rw[TP (by omega),hd];rfl
end Go.Proofs.YtcghbgmmgcljkaaGreatDoor
end
section
namespace Go.Proofs.YtcghbgmmgcljkaaGreatDoor
set_option maxRecDepth 20000
open Go.Lib
def gm:List UInt8->Nat->Option Nat
 |[],a=>some a
 |c::r,a=>if gG c=true then gm r (10 *a+(c.toNat-48))else none
theorem nu(c:UInt8):Lib.indexByte [48,49,50,51,52,53,54,55,56,57] c=if gG c=true then((c.toNat-48:Nat):Int)else-1:=by
 have h:∀n:Fin 256,Lib.indexByte [48,49,50,51,52,53,54,55,56,57] (Si n.val)=if gG (Si n.val)=true then(((Si n.val).toNat-48:Nat):Int)else-1:=by decide+kernel
 have hc:=c.toNat_lt
 have:=h ⟨c.toNat,by omega⟩
 simp only[UInt8.ofNat_toNat]at this
 exact this
theorem J0:(N8.extract 0 10).data.toList=[48,49,50,51,52,53,54,55,56,57]:=by decide
theorem pz(s:ByteArray)(hs:s.size<=7):∀(j i a:Nat),i+j=s.size->a<10^i->
 ie (s,10,(a:Int),s,(s.size:Int),(i:Int),())=match gm (s.data.toList.drop i) a with
  |none=>some (.inl (0,2,()))
  |some n=>some (.inr (s,10,(n:Int),s,()))
 |0,i,a,h,ha=>by
  have hz:=fg s
  rw[ie,dI (by omega)]
  have:¬(i:Int)<(s.size:Int):=by omega
  simp[this,gm]
 |j+1,i,a,h,ha=>by
  have hz:=fg s
  obtain⟨c,hc,_,hd⟩:=cY (l:=s.data.toList) (k:=i) (by omega)
  have h1:(i:Int)<(s.size:Int):=by omega
  have h2:(0:Int)<=(i:Int):=by omega
  have hcl:=c.toNat_lt
  have p7:10^i<=10^7:=R1 (by omega) (by omega)
  have h16:(Qc #[48,49,50,51,52,53,54,55,56,57,97,98,99,100,101,102]).size=16:=rfl
  have hx:=J0
  have hx':((Qc #[48,49,50,51,52,53,54,55,56,57,97,98,99,100,101,102]).extract (Q1 0) (Q1 10)).data.toList=[48,49,50,51,52,53,54,55,56,57]:=hx
  have hcn:c.toNat.toUInt8=c:=UInt8.ofNat_toNat
  have w:IntKind.i64.wrap ((i:Int)+1)=((i+1:Nat):Int):=by rw[w64 (by omega) (by omega)];omega
  have w1:IntKind.i64.wrap ((a:Int) *10)=((10 *a:Nat):Int):=by rw[w64 (by omega) (by omega)];omega
  rw[ie,hd,gm]
  simp only[h1,h2,TQ,TK,h16]
  rw[TP (by omega)]
  simp only[Qs,vo,hc,Ql,Qe,H1,H3,hx',hcn]
  cases hg:gG c
  ·have hix:Lib.indexByte [48,49,50,51,52,53,54,55,56,57] c= -1:=by rw[nu,hg];rfl
   rw[hix]
   rfl
  ·have hix:Lib.indexByte [48,49,50,51,52,53,54,55,56,57] c=((c.toNat-48:Nat):Int):=by rw[nu,hg];rfl
   rw[hix]
   have hg':48<=c.toNat/\c.toNat<=57:=by unfold gG at hg;simpa using hg
   have h3:¬((c.toNat-48:Nat):Int)<0:=by omega
   have h4:¬(a:Int)>1099511627776:=by omega
   have ih:=pz s hs j (i+1) (10 *a+(c.toNat-48)) (by omega) (by rw[TD];omega)
   have w2:IntKind.i64.wrap (((10 *a:Nat):Int)+((c.toNat-48:Nat):Int))=((10 *a+(c.toNat-48):Nat):Int):=by rw[w64 (by omega) (by omega)];omega
   simp only[TK,h3,h4,TR,Qj,TL,Qe,w2,w1,w]
   exact ih
theorem sJ:∀(l:List UInt8) (a n k:Nat),gm l a=some n->a<10^k->n<10^(k+l.length)
 |[],a,n,k,h,ha=>by simp[gm]at h;rw[<-h];exact ha
 |c::r,a,n,k,h,ha=>by
  rw[gm]at h
  cases hg:gG c
  ·rw[hg]at h;simp at h
  ·rw[hg]at h
   simp only[TK]at h
   have hg':48<=c.toNat/\c.toNat<=57:=by unfold gG at hg;simpa using hg
   have:=sJ r (10 *a+(c.toNat-48)) n (k+1) h (by rw[TD];omega)
   rw[QA,show k+(r.length+1)=k+1+r.length by omega]
   exact this
theorem Ev(s:ByteArray)(hs:s.size<=7)(hw:∀c∈s.data.toList,gQ c=true):
 DO (s,10,())=some (match gm s.data.toList 0 with|none=>(0,2,())|some n=>if dec n=s then((n:Int),0,())else(0,2,())):=by
 have hz:=fg s
 have hp:DW (s,Qc #[45],())=some (s,()):=by
  have h45:(Qc #[45]).size=1:=rfl
  rw[DW,H2,H4]
  simp only[h45,iT]
  by_cases h1:1<=s.size
  ·rw[TP (by simp;omega),TP (by omega)]
   have:¬s.extract 0 1=Qc #[45]:=by
    intro e
    have e2:(s.extract 0 1).data.toList=[45]:=by
     rw[e]
    rw[o_ s h1,QV]at e2
    have:(45:UInt8)∈s.data.toList:=by
     have:(45:UInt8)∈s.data.toList.take (1-0):=by rw[e2];exact Qo ..
     exact QY this
    have:=hw _ this
    revert this;decide
   show(some (decide (s.extract 0 1=Qc #[45]),())>>=_)>>=_=_
   simp[this]
  ·rw[TN (by simp;omega)]
   simp
 have lp:=pz s hs s.size 0 0 (by omega) (by decide)
 rw[Q5,QV]at lp
 rw[DO,HZ]
 simp only[hp,Ql,show decide ((10:Int)>=2)=true by decide,show decide ((10:Int)<=16)=true by decide,TK,Qe,Q8,Qj,TL,lp]
 cases h:gm s.data.toList 0 with
 |none=>rfl
 |some n=>
  have hn:=sJ _ 0 n 0 h (by decide)
  have p7:10^(0+s.data.toList.length)<=10^7:=R1 (by omega) (by omega)
  have h1:¬(n:Int)< -1099511627776:=by omega
  have h2:¬(n:Int)>1099511627776:=by omega
  simp only[Qe,Int.lt_irrefl,TR,Qj,TL,h1,h2,Iq (n:=n) (by omega),iT]
  by_cases e:dec n=s
  ·simp[e]
  ·simp[e]
end Go.Proofs.YtcghbgmmgcljkaaGreatDoor
end
section
namespace Go.Proofs.YtcghbgmmgcljkaaGreatDoor
set_option maxRecDepth 20000
open Go.Lib
def CH(s:Bool)(b:Nat):ByteArray:=(if s=true then Qc #[105]else Qc #[117])++dec b
def lH(s:ByteArray):Nat->Nat->Bool
 |0,_=>false
 |j+1,b=>decide (CH false b=s)||decide (CH true b=s)||lH s j (b+1)
theorem kH(s:ByteArray):∀(j b:Nat),lH s j b=true↔∃n,b<=n/\n<b+j/\(CH false n=s\/CH true n=s)
 |0,b=>by
  constructor
  ·intro h;cases h
  ·rintro⟨n,h1,h2,_⟩;omega
 |j+1,b=>by
  rw[lH,QX,QX,TM,TM,kH s j (b+1)]
  constructor
  ·rintro(h|⟨n,h1,h2,h3⟩)
   ·exact⟨b,QF _,by omega,h⟩
   ·exact⟨n,by omega,by omega,h3⟩
  ·rintro⟨n,h1,h2,h3⟩
   by_cases e:n=b
   ·subst e;exact .inl h3
   ·exact .inr ⟨n,by omega,by omega,h3⟩
theorem rI:∀n:Fin 32,gm (dec n.val).data.toList 0=some n.val:=by decide+kernel
theorem hH(s:Bool)(b:Nat):(CH s b).data.toList=(if s=true then 105 else 117)::(dec b).data.toList:=by
 unfold CH
 rw[ByteArray.data_append,Array.toList_append]
 cases s<;>rfl
theorem EB(s:ByteArray)(hs:s.size<=8)(hw:vc s.data.toList=true):∃e t,Dw (s,())=some (e,t,())/\(e !=0)= !(lH s 31 1):=by
 have hz:=fg s
 have no:(∀n,1<=n->n<32->CH false n≠s/\CH true n≠s)->lH s 31 1=false:=by
  intro h
  cases e:lH s 31 1
  ·rfl
  ·obtain⟨n,h1,h2,h3⟩:=(kH s 31 1).mp e
   have:=h n h1 (by omega)
   rcases h3 with h3|h3
   ·exact absurd h3 this.1
   ·exact absurd h3 this.2
 match hd:s.data.toList,hw with
 |c::r,hw=>
  rw[vc,Qk]at hw
  have hc:s[Q1 0]?=some c:=by rw[vo,hd];rfl
  have hlen:r.length+1=s.size:=by rw[<-hz,hd,QA]
  have hcl:=c.toNat_lt
  rw[Dw]
  by_cases h2:s.size<2
  ·have h2':(s.size:Int)<2:=by omega
   simp only[h2',TQ,TK,Ql,Qe]
   refine⟨_,_,rfl,?_⟩
   rw[no]
   ·rfl
   ·intro n h1 h3
    have hr:r=[]:=List.length_eq_zero_iff.mp (by omega)
    have hp:=rI ⟨n,by omega⟩
    refine⟨?_,?_⟩<;>intro e<;>have e2:=congrArg (λb=>b.data.toList) e<;>simp only[hH,hd,hr,Re]at e2<;>simp only[e2.2,gm,Qd]at hp<;>omega
  ·have h2':¬(s.size:Int)<2:=by omega
   simp only[h2',TR,Qj,TL,hc,Ql,Qe]
   by_cases hui:c=117\/c=105
   ·have hq:((if(((c.toNat:Int) !=117)=true)then some (s,(c.toNat:Int) !=105,b9.mk false 0,())else some (s,false,b9.mk false 0,())):Option (ByteArray×Bool×b9×Unit))=some (s,false,b9.mk false 0,()):=by
     rcases hui with h|h<;>subst h<;>rfl
    rw[hq]
    simp only[Qe,Qj,TL]
    have h1s:(1:Int)<=(s.size:Int):=by omega
    rw[TP ⟨by decide,h1s,RS _⟩]
    have hx:(s.extract (Q1 1) (Q1 (s.size:Int))).data.toList=r:=by
     rw[Qs,o_ s (QF _),hd]
     show(r.take (s.size-1))=r
     exact QP (by omega)
    have hxs:(s.extract (Q1 1) (Q1 (s.size:Int))).size=r.length:=by rw[<-fg,hx]
    have hp:=Ev (s.extract (Q1 1) (Q1 (s.size:Int))) (by omega) (by rw[hx];exactλc hc=>Qq.mp hw.2 c hc)
    rw[hx]at hp
    generalize hr:s.extract (Q1 1) (Q1 (s.size:Int))=rb at *
    have key:∀n,1<=n->n<32->(CH false n=s\/CH true n=s)->gm r 0=some n/\dec n=rb:=by
     intro n h1 h3 h4
     have hp:=rI ⟨n,by omega⟩
     have e:(dec n).data.toList=r:=by
      rcases h4 with h4|h4<;>have e2:=congrArg (λb=>b.data.toList) h4<;>simp only[hH,hd,Re]at e2<;>exact e2.2
     exact⟨by rw[<-e];exact hp,rq (by rw[e,hx])⟩
    simp only[hp,Qe,hc]
    cases hpl:gm r 0 with
    |none=>
     simp only[]
     refine⟨_,_,rfl,?_⟩
     rw[no]
     ·rfl
     ·intro n h1 h3
      refine⟨?_,?_⟩<;>intro e
      ·have:=(key n h1 h3 (.inl e)).1;rw[hpl]at this;cases this
      ·have:=(key n h1 h3 (.inr e)).1;rw[hpl]at this;cases this
    |some n=>
     simp only[]
     by_cases hdn:dec n=rb
     ·rw[TP hdn]
      simp only[bne_self_eq_false,Qj,TL,nL]
      by_cases hb:1<=n/\n<=31
      ·have b1:¬(n:Int)<1:=by omega
       have b2:¬(n:Int)>31:=by omega
       simp only[b1,b2,TR,Qj,TL]
       refine⟨_,_,rfl,?_⟩
       have:lH s 31 1=true:=by
        rw[kH]
        refine⟨n,hb.1,by omega,?_⟩
        have hrl:(dec n).data.toList=r:=by rw[hdn,hx]
        rcases hui with h|h
        ·left;exact rq (by rw[hH,hrl,hd,h];rfl)
        ·right;exact rq (by rw[hH,hrl,hd,h];rfl)
       rw[this];rfl
      ·have hb':(if decide ((n:Int)<1)=true then some (true,())else some (decide ((n:Int)>31),()))=some (true,()):=by
        by_cases b1:(n:Int)<1
        ·simp[b1]
        ·have:(n:Int)>31:=by omega
         simp[b1,this]
       rw[hb']
       refine⟨_,_,rfl,?_⟩
       rw[no]
       ·rfl
       ·intro m h1 h3
        refine⟨?_,?_⟩<;>intro e
        ·have:=(key m h1 h3 (.inl e)).1;rw[hpl,Qd]at this;omega
        ·have:=(key m h1 h3 (.inr e)).1;rw[hpl,Qd]at this;omega
     ·rw[TN hdn]
      refine⟨_,_,rfl,?_⟩
      rw[no]
      ·rfl
      ·intro m h1 h3
       refine⟨?_,?_⟩<;>intro e
       ·have:=key m h1 h3 (.inl e);rw[hpl,Qd]at this;rw[this.1]at hdn;exact hdn this.2
       ·have:=key m h1 h3 (.inr e);rw[hpl,Qd]at this;rw[this.1]at hdn;exact hdn this.2
   ·have n1:((c.toNat:Int) !=117)=true:=by
     have:c≠117:=λe=>hui (.inl e)
     have:c.toNat≠117:=λe=>this (UInt8.toNat_inj.mp e)
     simp;omega
    have n2:((c.toNat:Int) !=105)=true:=by
     have:c≠105:=λe=>hui (.inr e)
     have:c.toNat≠105:=λe=>this (UInt8.toNat_inj.mp e)
     simp;omega
    simp only[n1,n2,TK,Qe]
    refine⟨_,_,rfl,?_⟩
    rw[no]
    ·rfl
    ·intro n h1 h3
     refine⟨?_,?_⟩<;>intro e<;>have e2:=congrArg (λb=>b.data.toList) e<;>simp only[hH,hd,Re]at e2
     ·exact hui (.inl e2.1.symm)
     ·exact hui (.inr e2.1.symm)
noncomputable def ny(s:ByteArray):Bool:=decide (s.size<=8)&&vc s.data.toList&& !(decide (s∈xj))&& !(lH s 31 1)
theorem qV(s:ByteArray):I8 (s,())=some (ny s,()):=by
 rw[I8]
 unfold ny
 by_cases h8:s.size<=8
 ·have h1:¬(s.size:Int)>8:=by omega
  simp only[h1,TR,Qj,TL,ED s h8,It,Ql,Qe,h8,TQ,RU]
  cases hw:vc s.data.toList
  ·rfl
  ·obtain⟨e,t,ht,he⟩:=EB s h8 hw
   by_cases hk:s∈xj
   ·simp[hk]
   ·simp only[hk,TR,Q8,Qj,TL,Qe,ht,R6,RU,he]
 ·have h1:(s.size:Int)>8:=by omega
  simp[h1,h8]
end Go.Proofs.YtcghbgmmgcljkaaGreatDoor
end
section
namespace Go.Proofs.YtcghbgmmgcljkaaGreatDoor
set_option maxRecDepth 20000
noncomputable def dR(t:aG):Bool:=
 if t.base=2\/t.base=3 then decide (1<=t.bits/\t.bits<=31)&&decide (t.name0=Qc #[])
 else if t.base=5 then decide (t.bits=0)&&ny t.name0
 else if t.base=0 then decide (t.bits=0)&&decide (t.name0=Qc #[])&& !t.opt
 else if t.base=4 then decide (t.bits=0)&&decide (t.name0=Qc #[])&& !t.opt&& !t.err
 else decide (t.base=1)&&decide (t.bits=0)&&decide (t.name0=Qc #[])
theorem EC(t:aG):Dy (t,())=some (dR t,()):=by
 rw[Dy]
 unfold dR
 simp only[iT,qV,Ql,beq_iff_eq,HW,HX,nL]
 by_cases h2:t.base=2
 ·by_cases hb1:t.bits<1
  ·cases ho:t.opt<;>cases he:t.err<;>simp[h2,hb1]<;>omega
  ·by_cases hb2:t.bits>31
   ·cases ho:t.opt<;>cases he:t.err<;>simp[h2,hb1,hb2]<;>omega
   ·have:1<=t.bits/\t.bits<=31:=⟨by omega,by omega⟩
    cases ho:t.opt<;>cases he:t.err<;>simp[h2,hb1,hb2,this]
 by_cases h3:t.base=3
 ·by_cases hb1:t.bits<1
  ·cases ho:t.opt<;>cases he:t.err<;>simp[h3,hb1]<;>omega
  ·by_cases hb2:t.bits>31
   ·cases ho:t.opt<;>cases he:t.err<;>simp[h3,hb1,hb2]<;>omega
   ·have:1<=t.bits/\t.bits<=31:=⟨by omega,by omega⟩
    cases ho:t.opt<;>cases he:t.err<;>simp[h3,hb1,hb2,this]
 by_cases h5:t.base=5
 ·by_cases hb:t.bits=0<;>cases ho:t.opt<;>cases he:t.err<;>cases hn:ny t.name0<;>simp[h5,hb,hn]
 by_cases h0:t.base=0
 ·by_cases hb:t.bits=0<;>by_cases hn:t.name0=Qc #[]<;>cases ho:t.opt<;>cases he:t.err<;>simp[h0,hb,hn]
 by_cases h4:t.base=4
 ·by_cases hb:t.bits=0<;>by_cases hn:t.name0=Qc #[]<;>cases ho:t.opt<;>cases he:t.err<;>simp[h4,hb,hn]
 by_cases h1:t.base=1
 ·by_cases hb:t.bits=0<;>by_cases hn:t.name0=Qc #[]<;>cases ho:t.opt<;>cases he:t.err<;>simp[h1,hb,hn]
 ·have:t.base<0\/t.base>5:=by omega
  rcases this with h|h
  ·simp[h2,h3,h5,h0,h4,h1,h]
  ·by_cases h':t.base<0
   ·simp[h2,h3,h5,h0,h4,h1,h']
   ·simp[h2,h3,h5,h0,h4,h1,h,h']
noncomputable def gR(t:aG):Bool:=dR t&&decide (t.base<=3)
noncomputable def dZ(t:aG):Bool:=dR t&&decide (t.base=2\/t.base=3)&& !t.opt&& !t.err
theorem sP(t:aG):Kk (t,())=some (if dR t=true then 0 else 1,()):=by
 rw[Kk]
 cases h:dR t<;>simp[EC,h]
theorem sN(t:aG):AB (t,())=some (dR t&& !t.opt&& !t.err,()):=by
 rw[AB]
 simp only[sP]
 cases h:dR t<;>cases ho:t.opt<;>cases he:t.err<;>simp[]
theorem Is(t:aG):xn (t,())=some (dZ t,()):=by
 rw[xn]
 simp only[sN]
 unfold dZ
 cases h:dR t<;>cases ho:t.opt<;>cases he:t.err<;>by_cases h2:t.base=2<;>by_cases h3:t.base=3<;>simp[h2,h3]
end Go.Proofs.YtcghbgmmgcljkaaGreatDoor
end
