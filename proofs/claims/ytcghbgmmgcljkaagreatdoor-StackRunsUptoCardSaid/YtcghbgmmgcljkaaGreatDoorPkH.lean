/-
  Texts of this claim, joined by a program of mine: what the theorem uses.
-/
import Derived.Test.YtcghbgmmgcljkaaGreatDoorPkF
import Derived.Test.YtcghbgmmgcljkaaGreatDoorPkC
import Derived.Test.YtcghbgmmgcljkaaGreatDoorPkG
open Bool renaming false_eq_true→Z0
open ByteArray renaming mk→ZZ
open Int renaming emod_eq_of_lt→ab4,emod_lt_of_pos→ace,emod_nonneg→abQ,mul_tdiv_cancel_left→ac2,natCast_zero→aao,pow_succ→adv,tdiv_eq_ediv_of_nonneg→acQ,tmod_eq_emod_of_nonneg→acP,toNat→aaq,toNat_natCast→Z5,toNat_of_nonneg→abG
open List renaming append_assoc→abj,append_nil→abY,drop→ack,drop_eq_getElem_cons→abO,drop_eq_nil_of_le→abt,drop_zero→aap,getElem?_eq_getElem→Z3,getElem_mem→aaQ,length_cons→aaa,length_singleton→aa5,mapM→acB,mem_cons→aai,mem_cons_of_mem→aab,mem_cons_self→aag,nil_append→aad,replicate→aak,take→abb
open Nat renaming mod_two_eq_zero_or_one→abi,pow_le_pow_right→abr,pow_succ→acF
open Option renaming bind_eq_bind→Z1,bind_some→ZY
open Sum renaming inl→aaG,inr→aa8
noncomputable section
set_option linter.unusedVariables false
set_option linter.unusedSimpArgs false
section
namespace Go.Proofs.YtcghbgmmgcljkaaGreatDoor
open Go.Awp Go.Tx
open IntKind (i64)
open Go.Proofs.Tryz (prog)
set_option maxHeartbeats 4000000
set_option maxRecDepth 100000
def eM:Cut SN:=⟨[(0, .bp 100000 0),(2, .sv 100001 13),(8, .bp 8 0),(9, .bp 45 0),(10, .bp 10 0)],[(100000, .box none [Dq3,Dq4,Dq1, .vh 100002,Dq1, .vh 3005,Dq1,Dq6]),(100001,Oq2),(8, .st .myValueT),(45, .box none [.bp 100000 0,Dq5,Dq1,Dq1,Dq1,Dq1,Dq5,Dq4,Dq4,Dq8, .vh 3460, .vh 3461,Dq1,Dq1,Dq9]),(10, .bar 20 .fno),(100002,Oq7),(3005,Oq2),(3460,Oq2),(3461,Oq2)]⟩
def qs:Cut SN:=⟨[(0, .bp 100000 0),(2, .sv 100001 13),(8, .bp 8 0),(9, .bp 45 0)],[(100000, .box none [Dq3,Dq4,Dq1, .vh 100002,Dq1, .vh 3005,Dq1,Dq6]),(100001,Oq2),(8, .st .myValueT),(45, .box none [.bp 100000 0,Dq5,Dq1,Dq1,Dq1,Dq1,Dq5,Dq4,Dq4,Dq8, .vh 3460, .vh 3461,Dq1,Dq1,Dq9]),(100002,Oq7),(3005,Oq2),(3460,Oq2),(3461,Oq2)]⟩
def z8:Cut SN:=⟨[(0, .bp 100000 0),(2, .sv 100001 13),(3,Dq1),(8, .bp 8 0),(9, .bp 45 0)],[(100000, .box none [Dq3,Dq4,Dq1, .vh 100002,Dq1, .vh 100003,Dq1,Dq6]),(100001,Oq2),(8, .st .myValueT),(45, .box none [.bp 100000 0,Dq5,Dq1,Dq1,Dq1,Dq1,Dq5,Dq4,Dq4,Dq8, .vh 3460, .vh 3461,Dq1,Dq1,Dq9]),(100002,Oq7),(100003,Oq2),(3460,Oq2),(3461,Oq2)]⟩
def z_:Cut SN:=⟨[(0, .bp 100000 0),(2, .sv 100001 13),(8, .bp 8 0),(9, .bp 45 0),(60,Dq4)],[(100000, .box none [Dq3,Dq4,Dq1, .vh 100002,Dq1, .vh 100003,Dq1,Dq6]),(100001,Oq2),(8, .st .myValueT),(45, .box none [.bp 100000 0,Dq5,Dq1,Dq1,Dq1,Dq1,Dq5,Dq4,Dq4,Dq8, .vh 3460, .vh 3461,Dq1,Dq1,Dq9]),(100002,Oq7),(100003,Oq2),(3460,Oq2),(3461,Oq2)]⟩
def tt:Cut SN:=⟨[(0, .bp 100000 0),(2, .sv 100001 13),(8, .bp 8 0)],[(100000, .box none [Dq3,Dq4,Dq1, .vh 100002,Dq1, .vh 3005,Dq1,Dq6]),(100001,Oq2),(100002,Oq7),(3005,Oq2),(8, .st .myValueT)]⟩
def pD:aN vw:=shL [(0,qs)] tt
def c7:Sig vw:={params:=[.bp 100000 0,Dq1, .sv 100001 13,Dq1],objs:=[(100000, .box none [Dq3,Dq4,Dq1, .vh 100002,Dq1, .vh 100003,Dq1,Dq6]),(100001,Oq2),(100002,Oq7),(100003,Oq2)],rcut:=tt,rvars:=[.cell 8 31],keep:=[100000,100001,100002,3005]}
def FY:aN vw:={rcut:=ka}
def Bf:Nat->Bool:=λk=>match k with|3000023=>true|3000030=>true|8000059=>true|_=>false
def dm:Sig vw:={params:=[.bp 100000 0,lV],objs:=[(100000, .box none [.bp 100001 0,Dq5,Dq1,Dq1,Dq1,Dq1,Dq5,Dq4,Dq4,Dq8, .vh 100002, .vh 100003,Dq1,Dq1,Dq9]),(100001, .box none [Dq3,Dq4,Dq1, .vh 100004,Dq1, .vh 100005,Dq1,Dq6]),(100002,Oq2),(100003,Oq2),(100004,Oq7),(100005,Oq2)],rcut:=ka,rvars:=[],keep:=[100000,100001,100002,3011,100004,3015]}
abbrev Tq3:=Int×Int×(List aC)×Bool×Int×Int×Int×(Option bX)×(List aE)×aE×ByteArray×Int×Int×Int×Int×ByteArray×Bool×Bool×(List aQ)×Int×Int×(Option aE)×(List (Option Nat))×(List Int)×(List aE)×(List aE)×(List aE)×Unit
abbrev Tq5:=Int×Int×(List aC)×Bool×Int×Int×Int×(Option bX)×(List aE)×(List Int)×(List aE)×aE×Unit
abbrev Tq4:=Int×Int×(List aC)×Bool×Int×Int×Int×(Option bX)×(List aE)×aE×ByteArray×Int×Int×Int×Int×ByteArray×Bool×Bool×(List aQ)×Int×Int×(Option aE)×(List Int)×(List aE)×(List aE)×(List aE)×Unit
abbrev Tq7:=Int×Int×Int×Int×(List aC)×Bool×Int×Int×Int×(Option bX)×(List aE)×(List Int)×(List aE)×Unit
mutual
noncomputable def aX(v:Tq3):Option (((Tq5)⊕(Tq4))):=let p:=v.2.2;let e:=p.2.2;let q:=e.2.2;let b:=q.2.2;let j:=b.2.2.2.2;let c:=j.2.2.2.2;let k:=c.2.2.2.2;let a:=k.2.2;let d:=a.2.2;let f:=a.2.1;let g:=v.2.1;let h:=d.2.1;let i:=b.2.1;let l:=v.1;let m:=b.1;let n:=a.1;let o:=d.1;let G2:=(f,o,());if k.2.1.isNone=true then if(e.1==40000)=true then d9 ((2:Int),(0:Int),p.1,p.2.1,e.1,e.2.1,q.1,q.2.1,G2)>>=λx1=>let r:=x1.2.2.2.2;if r.2.2.1.length=f.length then if r.2.2.2.1.length=o.length then some (aaG ((↑l.toNat:Int),(↑g.toNat:Int),x1.1,x1.2.1,x1.2.2.1,x1.2.2.2.1,r.1,r.2.1,m,r.2.2.1,r.2.2.2.1,aE.mk (aF.mk (0:Int) (0:Int) (ZZ #[]) false false) (0:Int) false (ZZ #[]) (aF.mk (0:Int) (0:Int) (ZZ #[]) false false),()))else none else none else if 0<=k.1 then c.2.2.1[k.1.toNat]?>>=λx1=>let G1:=(x1,b.2.2.1,b.2.2.2.1,j.1,j.2.1,j.2.2.1,j.2.2.2.1,c.1,c.2.1,c.2.2.1,c.2.2.2.1,i64.wrap (k.1+1),k.2.1,p.1,p.2.1,i64.wrap (e.1+1),e.2.1,q.1,q.2.1,h,d.2.2.1,G2);(if 0<=x1.op/\x1.op<(↑(20:Nat):Int)then if x1.op.toNat<(20:Nat)then n[x1.op.toNat]?>>=λx2=>(x2:Option (Nat))>>=λx3=>if x3=(52:Nat)then none else if x3=(53:Nat)then none else if x3=(77:Nat)then fL G1>>=λx4=>let t:=x4.2.2.2.2.2.2;let s:=t.2.2.2.2.2.2;let u:=s.2.2.2.2.2.2;if u.1.length=h.length then if u.2.2.1.length=f.length then if u.2.2.2.1.length=o.length then some (((↑l.toNat:Int),(↑g.toNat:Int),s.1,s.2.1,s.2.2.1,s.2.2.2.1,s.2.2.2.2.1,s.2.2.2.2.2.1,m,i,x4.1,x4.2.1,x4.2.2.1,x4.2.2.2.1,x4.2.2.2.2.1,x4.2.2.2.2.2.1,t.1,t.2.1,t.2.2.1,t.2.2.2.1,t.2.2.2.2.1,t.2.2.2.2.2.1,n,u.2.2.1,u.2.2.2.1,u.1,u.2.1,()))else none else none else none else if x3=(78:Nat)then fM G1>>=λx4=>let z:=x4.2.2.2.2.2.2;let w:=z.2.2.2.2.2.2;let aa:=w.2.2.2.2.2.2;if aa.1.length=h.length then if aa.2.2.1.length=f.length then if aa.2.2.2.1.length=o.length then some (((↑l.toNat:Int),(↑g.toNat:Int),w.1,w.2.1,w.2.2.1,w.2.2.2.1,w.2.2.2.2.1,w.2.2.2.2.2.1,m,i,x4.1,x4.2.1,x4.2.2.1,x4.2.2.2.1,x4.2.2.2.2.1,x4.2.2.2.2.2.1,z.1,z.2.1,z.2.2.1,z.2.2.2.1,z.2.2.2.2.1,z.2.2.2.2.2.1,n,aa.2.2.1,aa.2.2.2.1,aa.1,aa.2.1,()))else none else none else none else if x3=(79:Nat)then fN G1>>=λx4=>let ad:=x4.2.2.2.2.2.2;let ab:=ad.2.2.2.2.2.2;let ac:=ab.2.2.2.2.2.2;if ac.1.length=h.length then if ac.2.2.1.length=f.length then if ac.2.2.2.1.length=o.length then some (((↑l.toNat:Int),(↑g.toNat:Int),ab.1,ab.2.1,ab.2.2.1,ab.2.2.2.1,ab.2.2.2.2.1,ab.2.2.2.2.2.1,m,i,x4.1,x4.2.1,x4.2.2.1,x4.2.2.2.1,x4.2.2.2.2.1,x4.2.2.2.2.2.1,ad.1,ad.2.1,ad.2.2.1,ad.2.2.2.1,ad.2.2.2.2.1,ad.2.2.2.2.2.1,n,ac.2.2.1,ac.2.2.2.1,ac.1,ac.2.1,()))else none else none else none else if x3=(80:Nat)then fO G1>>=λx4=>let ag:=x4.2.2.2.2.2;let ae:=ag.2.2.2.2.2.2;let af:=ae.2.2.2.2.2.2;if af.2.1.length=h.length then if af.2.2.2.1.length=f.length then some (((↑l.toNat:Int),(↑g.toNat:Int),ae.2.1,ae.2.2.1,ae.2.2.2.1,ae.2.2.2.2.1,ae.2.2.2.2.2.1,af.1,m,i,x4.1,x4.2.1,x4.2.2.1,x4.2.2.2.1,x4.2.2.2.2.1,ag.1,ag.2.1,ag.2.2.1,ag.2.2.2.1,ag.2.2.2.2.1,ag.2.2.2.2.2.1,ae.1,n,af.2.2.2.1,af.2.2.2.2.1,af.2.1,af.2.2.1,()))else none else none else if x3=(81:Nat)then fP G1>>=λx4=>let aj:=x4.2.2.2.2.2.2;let ah:=aj.2.2.2.2.2.2;let ai:=ah.2.2.2.2.2.2;if ai.1.length=h.length then if ai.2.2.1.length=f.length then if ai.2.2.2.1.length=o.length then some (((↑l.toNat:Int),(↑g.toNat:Int),ah.1,ah.2.1,ah.2.2.1,ah.2.2.2.1,ah.2.2.2.2.1,ah.2.2.2.2.2.1,m,i,x4.1,x4.2.1,x4.2.2.1,x4.2.2.2.1,x4.2.2.2.2.1,x4.2.2.2.2.2.1,aj.1,aj.2.1,aj.2.2.1,aj.2.2.2.1,aj.2.2.2.2.1,aj.2.2.2.2.2.1,n,ai.2.2.1,ai.2.2.2.1,ai.1,ai.2.1,()))else none else none else none else if x3=(82:Nat)then fQ G1>>=λx4=>let am:=x4.2.2.2.2.2.2;let ak:=am.2.2.2.2.2.2;let al:=ak.2.2.2.2.2.2;if al.1.length=h.length then if al.2.2.1.length=f.length then if al.2.2.2.1.length=o.length then some (((↑l.toNat:Int),(↑g.toNat:Int),ak.1,ak.2.1,ak.2.2.1,ak.2.2.2.1,ak.2.2.2.2.1,ak.2.2.2.2.2.1,m,i,x4.1,x4.2.1,x4.2.2.1,x4.2.2.2.1,x4.2.2.2.2.1,x4.2.2.2.2.2.1,am.1,am.2.1,am.2.2.1,am.2.2.2.1,am.2.2.2.2.1,am.2.2.2.2.2.1,n,al.2.2.1,al.2.2.2.1,al.1,al.2.1,()))else none else none else none else if x3=(83:Nat)then fR G1>>=λx4=>let ap:=x4.2.2.2.2.2.2;let an:=ap.2.2.2.2.2.2;let ao:=an.2.2.2.2.2.2;if ao.1.length=h.length then if ao.2.2.1.length=f.length then if ao.2.2.2.1.length=o.length then some (((↑l.toNat:Int),(↑g.toNat:Int),an.1,an.2.1,an.2.2.1,an.2.2.2.1,an.2.2.2.2.1,an.2.2.2.2.2.1,m,i,x4.1,x4.2.1,x4.2.2.1,x4.2.2.2.1,x4.2.2.2.2.1,x4.2.2.2.2.2.1,ap.1,ap.2.1,ap.2.2.1,ap.2.2.2.1,ap.2.2.2.2.1,ap.2.2.2.2.2.1,n,ao.2.2.1,ao.2.2.2.1,ao.1,ao.2.1,()))else none else none else none else if x3=(84:Nat)then fS G1>>=λx4=>let au:=x4.2.2.2.2.2.2;let aq:=au.2.2.2.2.2.2;let ar:=aq.2.2.2.2.2.2;if ar.1.length=h.length then if ar.2.2.1.length=f.length then if ar.2.2.2.1.length=o.length then some (((↑l.toNat:Int),(↑g.toNat:Int),aq.1,aq.2.1,aq.2.2.1,aq.2.2.2.1,aq.2.2.2.2.1,aq.2.2.2.2.2.1,m,i,x4.1,x4.2.1,x4.2.2.1,x4.2.2.2.1,x4.2.2.2.2.1,x4.2.2.2.2.2.1,au.1,au.2.1,au.2.2.1,au.2.2.2.1,au.2.2.2.2.1,au.2.2.2.2.2.1,n,ar.2.2.1,ar.2.2.2.1,ar.1,ar.2.1,()))else none else none else none else if x3=(85:Nat)then fT G1>>=λx4=>let ax:=x4.2.2.2.2.2.2;let av:=ax.2.2.2.2.2.2;let aw:=av.2.2.2.2.2.2;if aw.1.length=h.length then if aw.2.2.1.length=f.length then if aw.2.2.2.1.length=o.length then some (((↑l.toNat:Int),(↑g.toNat:Int),av.1,av.2.1,av.2.2.1,av.2.2.2.1,av.2.2.2.2.1,av.2.2.2.2.2.1,m,i,x4.1,x4.2.1,x4.2.2.1,x4.2.2.2.1,x4.2.2.2.2.1,x4.2.2.2.2.2.1,ax.1,ax.2.1,ax.2.2.1,ax.2.2.2.1,ax.2.2.2.2.1,ax.2.2.2.2.2.1,n,aw.2.2.1,aw.2.2.2.1,aw.1,aw.2.1,()))else none else none else none else if x3=(86:Nat)then fU G1>>=λx4=>let ba:=x4.2.2.2.2.2.2;let ay:=ba.2.2.2.2.2.2;let az:=ay.2.2.2.2.2.2;if az.1.length=h.length then if az.2.2.1.length=f.length then if az.2.2.2.1.length=o.length then some (((↑l.toNat:Int),(↑g.toNat:Int),ay.1,ay.2.1,ay.2.2.1,ay.2.2.2.1,ay.2.2.2.2.1,ay.2.2.2.2.2.1,m,i,x4.1,x4.2.1,x4.2.2.1,x4.2.2.2.1,x4.2.2.2.2.1,x4.2.2.2.2.2.1,ba.1,ba.2.1,ba.2.2.1,ba.2.2.2.1,ba.2.2.2.2.1,ba.2.2.2.2.2.1,n,az.2.2.1,az.2.2.2.1,az.1,az.2.1,()))else none else none else none else if x3=(87:Nat)then fV G1>>=λx4=>let bd:=x4.2.2.2.2.2.2;let bb:=bd.2.2.2.2.2.2;let bc:=bb.2.2.2.2.2.2;if bc.1.length=h.length then if bc.2.2.1.length=f.length then if bc.2.2.2.1.length=o.length then some (((↑l.toNat:Int),(↑g.toNat:Int),bb.1,bb.2.1,bb.2.2.1,bb.2.2.2.1,bb.2.2.2.2.1,bb.2.2.2.2.2.1,m,i,x4.1,x4.2.1,x4.2.2.1,x4.2.2.2.1,x4.2.2.2.2.1,x4.2.2.2.2.2.1,bd.1,bd.2.1,bd.2.2.1,bd.2.2.2.1,bd.2.2.2.2.1,bd.2.2.2.2.2.1,n,bc.2.2.1,bc.2.2.2.1,bc.1,bc.2.1,()))else none else none else none else if x3=(88:Nat)then fW G1>>=λx4=>let bg:=x4.2.2.2.2.2.2;let be:=bg.2.2.2.2.2.2;let bf:=be.2.2.2.2.2.2;if bf.1.length=h.length then if bf.2.2.1.length=f.length then if bf.2.2.2.1.length=o.length then some (((↑l.toNat:Int),(↑g.toNat:Int),be.1,be.2.1,be.2.2.1,be.2.2.2.1,be.2.2.2.2.1,be.2.2.2.2.2.1,m,i,x4.1,x4.2.1,x4.2.2.1,x4.2.2.2.1,x4.2.2.2.2.1,x4.2.2.2.2.2.1,bg.1,bg.2.1,bg.2.2.1,bg.2.2.2.1,bg.2.2.2.2.1,bg.2.2.2.2.2.1,n,bf.2.2.1,bf.2.2.2.1,bf.1,bf.2.1,()))else none else none else none else if x3=(89:Nat)then fX G1>>=λx4=>let bj:=x4.2.2.2.2.2.2;let bh:=bj.2.2.2.2.2.2;let bi:=bh.2.2.2.2.2.2;if bi.1.length=h.length then if bi.2.2.1.length=f.length then if bi.2.2.2.1.length=o.length then some (((↑l.toNat:Int),(↑g.toNat:Int),bh.1,bh.2.1,bh.2.2.1,bh.2.2.2.1,bh.2.2.2.2.1,bh.2.2.2.2.2.1,m,i,x4.1,x4.2.1,x4.2.2.1,x4.2.2.2.1,x4.2.2.2.2.1,x4.2.2.2.2.2.1,bj.1,bj.2.1,bj.2.2.1,bj.2.2.2.1,bj.2.2.2.2.1,bj.2.2.2.2.2.1,n,bi.2.2.1,bi.2.2.2.1,bi.1,bi.2.1,()))else none else none else none else if x3=(90:Nat)then fY G1>>=λx4=>let bm:=x4.2.2.2.2.2.2;let bk:=bm.2.2.2.2.2.2;let bl:=bk.2.2.2.2.2.2;if bl.1.length=h.length then if bl.2.1.length=d.2.2.1.length then if bl.2.2.1.length=f.length then if bl.2.2.2.1.length=o.length then some (((↑l.toNat:Int),(↑g.toNat:Int),bk.1,bk.2.1,bk.2.2.1,bk.2.2.2.1,bk.2.2.2.2.1,bk.2.2.2.2.2.1,m,i,x4.1,x4.2.1,x4.2.2.1,x4.2.2.2.1,x4.2.2.2.2.1,x4.2.2.2.2.2.1,bm.1,bm.2.1,bm.2.2.1,bm.2.2.2.1,bm.2.2.2.2.1,bm.2.2.2.2.2.1,n,bl.2.2.1,bl.2.2.2.1,bl.1,bl.2.1,()))else none else none else none else none else if x3=(91:Nat)then fZ G1>>=λx4=>let bp:=x4.2.2.2.2.2.2;let bn:=bp.2.2.2.2.2.2;let bo:=bn.2.2.2.2.2.2;if bo.1.length=h.length then if bo.2.1.length=d.2.2.1.length then if bo.2.2.1.length=f.length then if bo.2.2.2.1.length=o.length then some (((↑l.toNat:Int),(↑g.toNat:Int),bn.1,bn.2.1,bn.2.2.1,bn.2.2.2.1,bn.2.2.2.2.1,bn.2.2.2.2.2.1,m,i,x4.1,x4.2.1,x4.2.2.1,x4.2.2.2.1,x4.2.2.2.2.1,x4.2.2.2.2.2.1,bp.1,bp.2.1,bp.2.2.1,bp.2.2.2.1,bp.2.2.2.2.1,bp.2.2.2.2.2.1,n,bo.2.2.1,bo.2.2.2.1,bo.1,bo.2.1,()))else none else none else none else none else if x3=(92:Nat)then f5 G1>>=λx4=>let bs:=x4.2.2.2.2.2.2;let bq:=bs.2.2.2.2.2.2;let br:=bq.2.2.2.2.2.2;if br.1.length=h.length then if br.2.2.1.length=f.length then if br.2.2.2.1.length=o.length then some (((↑l.toNat:Int),(↑g.toNat:Int),bq.1,bq.2.1,bq.2.2.1,bq.2.2.2.1,bq.2.2.2.2.1,bq.2.2.2.2.2.1,m,i,x4.1,x4.2.1,x4.2.2.1,x4.2.2.2.1,x4.2.2.2.2.1,x4.2.2.2.2.2.1,bs.1,bs.2.1,bs.2.2.1,bs.2.2.2.1,bs.2.2.2.2.1,bs.2.2.2.2.2.1,n,br.2.2.1,br.2.2.2.1,br.1,br.2.1,()))else none else none else none else if x3=(93:Nat)then n_93sae8a G1>>=λx4=>let bv:=x4.2.2.2.2.2;let bt:=bv.2.2.2.2.2.2;let bu:=bt.2.2.2.2.2.2;if bu.2.1.length=h.length then if bu.2.2.2.1.length=f.length then some (((↑l.toNat:Int),(↑g.toNat:Int),bt.2.1,bt.2.2.1,bt.2.2.2.1,bt.2.2.2.2.1,bt.2.2.2.2.2.1,bu.1,m,i,x4.1,x4.2.1,x4.2.2.1,x4.2.2.2.1,x4.2.2.2.2.1,bv.1,bv.2.1,bv.2.2.1,bv.2.2.2.1,bv.2.2.2.2.1,bv.2.2.2.2.2.1,bt.1,n,bu.2.2.2.1,bu.2.2.2.2.1,bu.2.1,bu.2.2.1,()))else none else none else if x3=(94:Nat)then f6 G1>>=λx4=>let bz:=x4.2.2.2.2.2.2;let bw:=bz.2.2.2.2.2.2;let bx:=bw.2.2.2.2.2.2;if bx.1.length=h.length then if bx.2.2.1.length=f.length then if bx.2.2.2.1.length=o.length then some (((↑l.toNat:Int),(↑g.toNat:Int),bw.1,bw.2.1,bw.2.2.1,bw.2.2.2.1,bw.2.2.2.2.1,bw.2.2.2.2.2.1,m,i,x4.1,x4.2.1,x4.2.2.1,x4.2.2.2.1,x4.2.2.2.2.1,x4.2.2.2.2.2.1,bz.1,bz.2.1,bz.2.2.1,bz.2.2.2.1,bz.2.2.2.2.1,bz.2.2.2.2.2.1,n,bx.2.2.1,bx.2.2.2.1,bx.1,bx.2.1,()))else none else none else none else if x3=(95:Nat)then f7 G1>>=λx4=>let cc:=x4.2.2.2.2.2.2;let ca:=cc.2.2.2.2.2.2;let cb:=ca.2.2.2.2.2.2;if cb.1.length=h.length then if cb.2.2.1.length=f.length then if cb.2.2.2.1.length=o.length then some (((↑l.toNat:Int),(↑g.toNat:Int),ca.1,ca.2.1,ca.2.2.1,ca.2.2.2.1,ca.2.2.2.2.1,ca.2.2.2.2.2.1,m,i,x4.1,x4.2.1,x4.2.2.1,x4.2.2.2.1,x4.2.2.2.2.1,x4.2.2.2.2.2.1,cc.1,cc.2.1,cc.2.2.1,cc.2.2.2.1,cc.2.2.2.2.1,cc.2.2.2.2.2.1,n,cb.2.2.1,cb.2.2.2.1,cb.1,cb.2.1,()))else none else none else none else if x3=(96:Nat)then f8 G1>>=λx4=>let cf:=x4.2.2.2.2.2.2;let cd:=cf.2.2.2.2.2.2;let ce:=cd.2.2.2.2.2.2;if ce.1.length=h.length then if ce.2.1.length=d.2.2.1.length then if ce.2.2.1.length=f.length then if ce.2.2.2.1.length=o.length then some (((↑l.toNat:Int),(↑g.toNat:Int),cd.1,cd.2.1,cd.2.2.1,cd.2.2.2.1,cd.2.2.2.2.1,cd.2.2.2.2.2.1,m,i,x4.1,x4.2.1,x4.2.2.1,x4.2.2.2.1,x4.2.2.2.2.1,x4.2.2.2.2.2.1,cf.1,cf.2.1,cf.2.2.1,cf.2.2.2.1,cf.2.2.2.2.1,cf.2.2.2.2.2.1,n,ce.2.2.1,ce.2.2.2.1,ce.1,ce.2.1,()))else none else none else none else none else none else none else none)>>=λx2=>let cg:=x2.2.2.2.2.2;let ch:=cg.2.2.2.2.2.2.2.2.2.2.2.2.2.2.2.2.2.2;if cg.2.2.1.isSome=true then some (aaG ((↑x2.1.toNat:Int),(↑x2.2.1.toNat:Int),x2.2.2.1,x2.2.2.2.1,x2.2.2.2.2.1,cg.1,cg.2.1,cg.2.2.1,cg.2.2.2.1,ch.1,ch.2.1,aE.mk (aF.mk (0:Int) (0:Int) (ZZ #[]) false false) (0:Int) false (ZZ #[]) (aF.mk (0:Int) (0:Int) (ZZ #[]) false false),()))else aX ((↑x2.1.toNat:Int),(↑x2.2.1.toNat:Int),x2.2.2)else none else some (aa8 ((↑l.toNat:Int),(↑g.toNat:Int),p.1,p.2.1,e.1,e.2.1,q.1,q.2.1,m,i,b.2.2.1,b.2.2.2.1,j.1,j.2.1,j.2.2.1,j.2.2.2.1,c.1,c.2.1,c.2.2.1,c.2.2.2.1,k.1,k.2.1,a.2)) partial_fixpoint
noncomputable def n_93sae8a(v:Tq2):Option (Tq1):=let g:=v.2.2.2;let d:=g.2.2.2.2;let f:=d.2.2.2;let a:=f.2.2.2;let c:=a.2.2.2.2.2.2;let e:=c.2.1;let G2:=(i64.wrap ((↑e.length:Int) -v.1.b));if 0<=i64.wrap ((↑e.length:Int) -v.1.b)/\i64.wrap ((↑e.length:Int) -v.1.b)<=(↑e.length:Int)/\(↑e.length:Int)<=(↑e.length:Int)then if(0:Int)<=0/\0<=i64.wrap ((↑e.length:Int) -v.1.b)/\i64.wrap ((↑e.length:Int) -v.1.b)<=(↑e.length:Int)then LC (a.1,v.1.name0,())>>=λx1=>n_40s78a4 (x1.1,(↑G2.toNat:Int),(↑((↑e.length:Int).toNat-G2.toNat):Int),i64.wrap (f.1+1),a.1,a.2.1,a.2.2.1,a.2.2.2.1,a.2.2.2.2.1,a.2.2.2.2.2.1,c.2)>>=λx2=>let i:=x2.2.2.2;let h:=i.2.2.2.2;let G1:=(v.2.1,v.2.2.1,g.1,g.2.1,g.2.2.1,g.2.2.2.1,d.1,d.2.1,d.2.2.1,f.1,f.2.1,f.2.2.1,x2.2.2.1,i.1,i.2.1,i.2.2.1,i.2.2.2.1,h.1,c.1,abb (G2.toNat-aaq 0) h.2.1,h.2.2.1,h.2.2.2.1,());if h.2.1.length=e.length then if h.2.2.1.length=c.2.2.1.length then if G2.toNat-aaq 0<=h.2.1.length then if h.1.isNone=true then cM (h.2.2.2.2.1,G1)>>=λx3=>let j:=x3.2.2.2.2.2.2.2.2.2.2.2.2.2.2.2.2.2.2;if j.1.length=c.1.length then if j.2.2.1.length=h.2.2.1.length then if j.2.2.2.1.length=h.2.2.2.1.length then some (x3)else none else none else none else some (G1)else none else none else none else none else none partial_fixpoint
noncomputable def n_40s78a4(v:Tq7):Option (Tq5):=let b:=v.2.2.2;let a:=b.2.2.2.2;let c:=a.2.2.2.2;if decide (b.1>30)=true then d9 ((2:Int),(0:Int),b.2.1,b.2.2.1,b.2.2.2.1,a.1,a.2.1,a.2.2.1,c)>>=λx1=>let d:=x1.2.2.2.2;if d.2.2.1.length=c.1.length then if d.2.2.2.1.length=c.2.1.length then some (((↑v.2.1.toNat:Int),(↑v.2.2.1.toNat:Int),x1.1,x1.2.1,x1.2.2.1,x1.2.2.2.1,d.1,d.2.1,a.2.2.2.1,d.2.2.1,d.2.2.2.1,aE.mk (aF.mk (0:Int) (0:Int) (ZZ #[]) false false) (0:Int) false (ZZ #[]) (aF.mk (0:Int) (0:Int) (ZZ #[]) false false),()))else none else none else if 0<=v.1/\v.1<(↑c.1.length:Int)then c.1[v.1.toNat]?>>=λx1=>if 0<=v.1/\v.1<(↑c.1.length:Int)then c.1[v.1.toNat]?>>=λx2=>(if 0<=v.1 then b.2.1[v.1.toNat]?>>=λx3=>if 0<=v.1 then b.2.1[v.1.toNat]?>>=λx4=>if 0<=x4.places then if x4.places<=4294967296 then some (((↑v.2.1.toNat:Int),(↑v.2.2.1.toNat:Int),b.1,b.2.1,b.2.2.1,b.2.2.2.1,a.1,a.2.1,a.2.2.1,a.2.2.2.1,aE.mk (aF.mk (0:Int) (0:Int) (ZZ #[]) false false) (0:Int) false (ZZ #[]) (aF.mk (0:Int) (0:Int) (ZZ #[]) false false),x3.name0,x3.params,x3.places,x3.type0.base,x3.type0.bits,x3.type0.name0,x3.type0.opt,x3.type0.err,x3.code,b.1,(0:Int),none,c.1.set v.1.toNat (i64.wrap (x1+1)),c.2.1,aak x4.places.toNat (aE.mk (aF.mk (0:Int) (0:Int) (ZZ #[]) false false) (0:Int) false (ZZ #[]) (aF.mk (0:Int) (0:Int) (ZZ #[]) false false)),[],()))else none else none else none else none)>>=λx3=>let j:=x3.2;let g:=j.2.2.2.2;let e:=g.2.2.2.2;let h:=e.2.2.2.2;let f:=h.2.2.2.2.2;let i:=f.2.2.2.2;let G1:=(j.2.2.1,j.2.2.2.1,g.1,g.2.1,g.2.2.1,g.2.2.2.1,e.1,e.2.1,e.2.2.1,e.2.2.2.1,h.1,h.2.1,h.2.2.1,h.2.2.2.1,h.2.2.2.2.1,f.1,f.2.1,f.2.2.1,f.2.2.2.1,i.1,i.2.1,i.2.2.1,abb i.2.2.2.1.length (abb j.1.toNat (ack x3.1.toNat e.1))++ack j.1.toNat i.2.2.2.1,i.2.2.2.2);if x3.1.toNat+j.1.toNat<=e.1.length then((if(j.2.1==1)=true then some (((↑x3.1.toNat:Int),(↑j.1.toNat:Int),decide (g.2.1>=0),G1))else some (((↑x3.1.toNat:Int),(↑j.1.toNat:Int),false,G1)))>>=λx4=>let o:=x4.2.2.2;let l:=o.2.2.2;let n:=l.2.2.2.2;let k:=n.2.2.2.2;let q:=k.2.2.2;let m:=q.2.2.2.2;let p:=m.2.2.2;if x4.2.2.1=true then if 0<=l.1/\l.1<(↑p.2.1.length:Int)then p.2.1[l.1.toNat]?>>=λx5=>if p.1.length+[x5].length<=4294967296 then some (((↑x4.1.toNat:Int),(↑x4.2.1.toNat:Int),o.1,o.2.1,o.2.2.1,l.1,l.2.1,l.2.2.1,l.2.2.2.1,n.1,n.2.1,n.2.2.1,n.2.2.2.1,k.1,k.2.1,k.2.2.1,q.1,q.2.1,q.2.2.1,q.2.2.2.1,m.1,m.2.1,m.2.2.1,p.1++[x5],p.2))else none else none else some (((↑x4.1.toNat:Int),(↑x4.2.1.toNat:Int),o)))>>=λx4=>let s:=x4.2.2.2.2.2;let r:=s.2.2.2.2.2.2;let t:=r.2.2.2.2.2;QN ()>>=λx5=>aX ((↑x4.1.toNat:Int),(↑x4.2.1.toNat:Int),x4.2.2.1,x4.2.2.2.1,x4.2.2.2.2.1,s.1,s.2.1,s.2.2.1,s.2.2.2.1,s.2.2.2.2.1,s.2.2.2.2.2.1,r.1,r.2.1,r.2.2.1,r.2.2.2.1,r.2.2.2.2.1,t.1,t.2.1,t.2.2.1,t.2.2.2.1,t.2.2.2.2.1,t.2.2.2.2.2.1,x5.1,t.2.2.2.2.2.2)>>=λx6=>match x6 with| .inl y6=>some y6| .inr y6=>let w:=y6.2.2.2.2;let u:=w.2.2.2.2.2.2.2.2.2.2.2.2.2.2.2.2.2;(u.1:Option (aE))>>=λx7=>some (((↑y6.1.toNat:Int),(↑y6.2.1.toNat:Int),y6.2.2.1,y6.2.2.2.1,w.1,w.2.1,w.2.2.1,w.2.2.2.1,w.2.2.2.2.1,u.2.1,u.2.2.1,x7,()))else none else none else none partial_fixpoint
end
def jQ(aX:Tq3->Option (((Tq5)⊕(Tq4))))(n_93sae8a:Tq2->Option (Tq1))(n_40s78a4:Tq7->Option (Tq5)):dh vw:=λA fid args S k=>if fid=52 then cy prog rh d9 A args S k else if fid=53 then ct prog Sk QN A args S k else if fid=77 then cy prog ri fL A args S k else if fid=78 then cy prog rj fM A args S k else if fid=79 then cy prog rk fN A args S k else if fid=80 then cy prog rl fO A args S k else if fid=81 then cy prog rm fP A args S k else if fid=82 then cy prog rn fQ A args S k else if fid=83 then cy prog rq fR A args S k else if fid=84 then cy prog ru fS A args S k else if fid=85 then cy prog rv fT A args S k else if fid=86 then cy prog rx fU A args S k else if fid=87 then cy prog ry fV A args S k else if fid=88 then cy prog rz fW A args S k else if fid=89 then cy prog rA fX A args S k else if fid=90 then cy prog rB fY A args S k else if fid=91 then cy prog rC fZ A args S k else if fid=92 then cy prog rD f5 A args S k else if fid=93 then cy prog dm n_93sae8a A args S k else if fid=94 then cy prog rE f6 A args S k else if fid=95 then cy prog rF f7 A args S k else if fid=96 then cy prog rG f8 A args S k else none
def dN(aX:Tq3->Option (((Tq5)⊕(Tq4))))(n_93sae8a:Tq2->Option (Tq1))(n_40s78a4:Tq7->Option (Tq5)):Xc vw:={P:=prog,n:=138,call:=jQ aX n_93sae8a n_40s78a4,pre:=Jh,sh:=pD,joins:=λk=>match k with|9=>some (qs,[.norm])|_=>none,regs:=λk=>match k with|5=>some z8|7=>some z_|17=>some eM|_=>none,loops:=λk=>match k with|10=>some {cut:=eM,alts:=[.ret, .exit 0],F:=aX}|_=>none}
def oh(aX:Tq3->Option (((Tq5)⊕(Tq4))))(n_93sae8a:Tq2->Option (Tq1))(n_40s78a4:Tq7->Option (Tq5)):dh vw:=λA fid args S k=>match fid with|39=>ct prog Sj LC A args S k|40=>cy prog c7 n_40s78a4 A args S k|120=>cy prog pE cM A args S k|_=>none
def jD(aX:Tq3->Option (((Tq5)⊕(Tq4))))(n_93sae8a:Tq2->Option (Tq1))(n_40s78a4:Tq7->Option (Tq5)):Xc vw:={P:=prog,n:=70,call:=oh aX n_93sae8a n_40s78a4,pre:=Bf,sh:=FY}
abbrev dC(v:Tq3)(r:((Tq5)⊕(Tq4))):Prop:=(λv out=>∀C:Ctx,C.P=prog->C.N=138/\Fx C Jh->pS C (aS (aO Tryz.f40) 0) (Go.Tx.a_ vw (fk vw eM v)) (xO pD [.ret, .exit 0] out)) v r
abbrev gP(v:Tq2)(r:Tq1):Prop:=(λv r=>∀x,Gx prog dm r=some x->lW prog 93 (encL vw (cD dm v).len (d6 dm v).1) (eP (cD dm v).len (cD dm v).own) (aL vw (fk vw dm.rcut r).len x) (eP (fk vw dm.rcut r).len (pY dm r))) v r
abbrev gN(v:Tq7)(r:Tq5):Prop:=(λv r=>∀x,Gx prog c7 r=some x->lW prog 40 (encL vw (cD c7 v).len (d6 c7 v).1) (eP (cD c7 v).len (cD c7 v).own) (aL vw (fk vw c7.rcut r).len x) (eP (fk vw c7.rcut r).len (pY c7 r))) v r
theorem rY(f0:Tq3->Option (((Tq5)⊕(Tq4))))(f1:Tq2->Option (Tq1))(h0:∀v r,f0 v=some r->dC v r)(h1:∀v r,f1 v=some r->gP v r):bG prog (dN f0 f1 (λ_=>none)).call:=(by
 intro A fid args S dst k r h
 unfold dN jQ at h
 simp only at h
 rcases bI h with⟨e,h⟩|⟨e,h⟩
 ·subst e;exact aP (gr) h
 ·
  rcases bI h with⟨e,h⟩|⟨e,h⟩
  ·subst e;exact aR (EI) rfl rfl h
  ·
   rcases bI h with⟨e,h⟩|⟨e,h⟩
   ·subst e;exact aP (ml) h
   ·
    rcases bI h with⟨e,h⟩|⟨e,h⟩
    ·subst e;exact aP (mm) h
    ·
     rcases bI h with⟨e,h⟩|⟨e,h⟩
     ·subst e;exact aP (mn) h
     ·
      rcases bI h with⟨e,h⟩|⟨e,h⟩
      ·subst e;exact aP (mo) h
      ·
       rcases bI h with⟨e,h⟩|⟨e,h⟩
       ·subst e;exact aP (mq) h
       ·
        rcases bI h with⟨e,h⟩|⟨e,h⟩
        ·subst e;exact aP (mr) h
        ·
         rcases bI h with⟨e,h⟩|⟨e,h⟩
         ·subst e;exact aP (mt) h
         ·
          rcases bI h with⟨e,h⟩|⟨e,h⟩
          ·subst e;exact aP (mu) h
          ·
           rcases bI h with⟨e,h⟩|⟨e,h⟩
           ·subst e;exact aP (mv) h
           ·
            rcases bI h with⟨e,h⟩|⟨e,h⟩
            ·subst e;exact aP (mw) h
            ·
             rcases bI h with⟨e,h⟩|⟨e,h⟩
             ·subst e;exact aP (my) h
             ·
              rcases bI h with⟨e,h⟩|⟨e,h⟩
              ·subst e;exact aP (mz) h
              ·
               rcases bI h with⟨e,h⟩|⟨e,h⟩
               ·subst e;exact aP (mA) h
               ·
                rcases bI h with⟨e,h⟩|⟨e,h⟩
                ·subst e;exact aP (mB) h
                ·
                 rcases bI h with⟨e,h⟩|⟨e,h⟩
                 ·subst e;exact aP (mC) h
                 ·
                  rcases bI h with⟨e,h⟩|⟨e,h⟩
                  ·subst e;exact aP (mD) h
                  ·
                   rcases bI h with⟨e,h⟩|⟨e,h⟩
                   ·subst e;exact aP ((λv r x h hx=>h1 v r h x hx)) h
                   ·
                    rcases bI h with⟨e,h⟩|⟨e,h⟩
                    ·subst e;exact aP (mE) h
                    ·
                     rcases bI h with⟨e,h⟩|⟨e,h⟩
                     ·subst e;exact aP (mF) h
                     ·
                      rcases bI h with⟨e,h⟩|⟨e,h⟩
                      ·subst e;exact aP (mG) h
                      ·
                       cases h)
theorem sV(f0:Tq3->Option (((Tq5)⊕(Tq4))))(f1:Tq2->Option (Tq1))(h0:∀v r,f0 v=some r->dC v r)(h1:∀v r,f1 v=some r->gP v r)(v:Tq3)(r:((Tq5)⊕(Tq4)))(h:exL (dN f0 f1 (λ_=>none)) (aS (aO Tryz.f40) 0) eM [.ret, .exit 0] f0 v=some r):dC v r:=λC hP hN=>gL (X:=dN f0 f1 (λ_=>none)) (b:=(aS (aO Tryz.f40) 0)) hP hN Ty.mixed (rY f0 f1 h0 h1) (eT (X:=dN f0 f1 (λ_=>none)) (c:=(aS (aO Tryz.f40) 0)) (fG (by kernel_rfl:True=pR (e7 C (dN f0 f1 (λ_=>none))) (cA (aS (aO Tryz.f40) 0))) trivial)) (cut:=eM) (alts:=[.ret, .exit 0]) (F:=f0) (λv out h=>h0 v out h C hP hN) h
theorem Aj(f0:Tq7->Option (Tq5))(h0:∀v r,f0 v=some r->gN v r):bG prog (jD (λ_=>none) (λ_=>none) f0).call:=(by
 intro A fid args S dst k r h
 unfold jD oh at h
 simp only at h
 split at h
 ·exact aR (Ez) rfl rfl h
 ·exact aP ((λv r x h hx=>h0 v r h x hx)) h
 ·exact aP (cJ) h
 ·cases h)
theorem BM(f0:Tq7->Option (Tq5))(h0:∀v r,f0 v=some r->gN v r)(v:Tq2)(r:Tq1)(h:exF (jD (λ_=>none) (λ_=>none) f0) dm rfl (aO Tryz.f93) v=some r):gP v r:=λx hx=>Au (X:=jD (λ_=>none) (λ_=>none) f0) (sig:=dm) rfl Tryz.func93 (c:=aO Tryz.f93) (by kernel_rfl) Tryz.ntmps93 (by kernel_rfl) (by kernel_rfl) rfl Ty.mixed (Aj f0 h0) rfl (λC hP hN=>(eT (X:=jD (λ_=>none) (λ_=>none) f0) (c:=(aO Tryz.f93)) (fG (by kernel_rfl:True=pR (e7 C (jD (λ_=>none) (λ_=>none) f0)) (cA (aO Tryz.f93))) trivial))) h x hx
theorem Ah(f0:Tq3->Option (((Tq5)⊕(Tq4))))(h0:∀v r,f0 v=some r->dC v r):bG prog (dN f0 (λ_=>none) (λ_=>none)).call:=(by
 intro A fid args S dst k r h
 unfold dN jQ at h
 simp only at h
 rcases bI h with⟨e,h⟩|⟨e,h⟩
 ·subst e;exact aP (gr) h
 ·
  rcases bI h with⟨e,h⟩|⟨e,h⟩
  ·subst e;exact aR (EI) rfl rfl h
  ·
   rcases bI h with⟨e,h⟩|⟨e,h⟩
   ·subst e;exact aP (ml) h
   ·
    rcases bI h with⟨e,h⟩|⟨e,h⟩
    ·subst e;exact aP (mm) h
    ·
     rcases bI h with⟨e,h⟩|⟨e,h⟩
     ·subst e;exact aP (mn) h
     ·
      rcases bI h with⟨e,h⟩|⟨e,h⟩
      ·subst e;exact aP (mo) h
      ·
       rcases bI h with⟨e,h⟩|⟨e,h⟩
       ·subst e;exact aP (mq) h
       ·
        rcases bI h with⟨e,h⟩|⟨e,h⟩
        ·subst e;exact aP (mr) h
        ·
         rcases bI h with⟨e,h⟩|⟨e,h⟩
         ·subst e;exact aP (mt) h
         ·
          rcases bI h with⟨e,h⟩|⟨e,h⟩
          ·subst e;exact aP (mu) h
          ·
           rcases bI h with⟨e,h⟩|⟨e,h⟩
           ·subst e;exact aP (mv) h
           ·
            rcases bI h with⟨e,h⟩|⟨e,h⟩
            ·subst e;exact aP (mw) h
            ·
             rcases bI h with⟨e,h⟩|⟨e,h⟩
             ·subst e;exact aP (my) h
             ·
              rcases bI h with⟨e,h⟩|⟨e,h⟩
              ·subst e;exact aP (mz) h
              ·
               rcases bI h with⟨e,h⟩|⟨e,h⟩
               ·subst e;exact aP (mA) h
               ·
                rcases bI h with⟨e,h⟩|⟨e,h⟩
                ·subst e;exact aP (mB) h
                ·
                 rcases bI h with⟨e,h⟩|⟨e,h⟩
                 ·subst e;exact aP (mC) h
                 ·
                  rcases bI h with⟨e,h⟩|⟨e,h⟩
                  ·subst e;exact aP (mD) h
                  ·
                   rcases bI h with⟨e,h⟩|⟨e,h⟩
                   ·subst e;exact aP ((λv r x h hx=>by cases h)) h
                   ·
                    rcases bI h with⟨e,h⟩|⟨e,h⟩
                    ·subst e;exact aP (mE) h
                    ·
                     rcases bI h with⟨e,h⟩|⟨e,h⟩
                     ·subst e;exact aP (mF) h
                     ·
                      rcases bI h with⟨e,h⟩|⟨e,h⟩
                      ·subst e;exact aP (mG) h
                      ·
                       cases h)
theorem BK(f0:Tq3->Option (((Tq5)⊕(Tq4))))(h0:∀v r,f0 v=some r->dC v r)(v:Tq7)(r:Tq5)(h:exF (dN f0 (λ_=>none) (λ_=>none)) c7 rfl (aO Tryz.f40) v=some r):gN v r:=λx hx=>Au (X:=dN f0 (λ_=>none) (λ_=>none)) (sig:=c7) rfl Tryz.func40 (c:=aO Tryz.f40) (by kernel_rfl) Tryz.ntmps40 (by kernel_rfl) (by kernel_rfl) rfl Ty.mixed (Ah f0 h0) rfl (λC hP hN=>(eT (X:=dN f0 (λ_=>none) (λ_=>none)) (c:=(aO Tryz.f40)) (fG (by kernel_rfl:pR (e7 C (dN f0 (λ_=>none) (λ_=>none))) [(aS (aO Tryz.f40) 0)]=pR (e7 C (dN f0 (λ_=>none) (λ_=>none))) (cA (aO Tryz.f40))) ⟨iW (X:=dN f0 (λ_=>none) (λ_=>none)) (b:=(aS (aO Tryz.f40) 0)) (by kernel_rfl) (show gC C (aS (aO Tryz.f40) 0) (sh:=pD) {cut:=eM,alts:=[.ret, .exit 0],F:=f0}fromλv out h=>h0 v out h C hP hN),trivial⟩))) h x hx
theorem mV:(∀v r,aX v=some r->dC v r)/\(∀v r,n_93sae8a v=some r->gP v r)/\(∀v r,n_40s78a4 v=some r->gN v r):=by
 refine aX.mutual_partial_correctness
  (motive_1:=dC)
  (motive_2:=gP)
  (motive_3:=gN)
  ?_ ?_ ?_
 ·exact(λf0 f1 h0 h1 v r h=>sV f0 f1 h0 h1 v r (fG (by kernel_rfl) h))
 ·exact(λf0 h0 v r h=>BM f0 h0 v r (fG (by kernel_rfl) h))
 ·exact(λf0 h0 v r h=>BK f0 h0 v r (fG (by kernel_rfl) h))
theorem ul:aM prog 40 c7 n_40s78a4:=λv r x h hx=>mV.2.2 v r h x hx
def Ti:Cut SN:=⟨[(1,Dq1),(2,vu),(11, .bp 11 0),(12, .bp 21 0)],[(11, .st .outcomeT),(21, .box none [Dq3,Dq4,Dq1, .vh 3213,Dq1, .vh 3215,Dq1,Dq6]),(3213,Oq7),(3215,Oq2)]⟩
def WC:Cut SN:=⟨[(10, .bp 21 0),(11, .bp 11 0)],[(21, .box none [Dq3,Dq4,Dq1, .vh 3213,Dq1, .vh 3215,Dq1,Dq6]),(3213,Oq7),(3215,Oq2),(11, .st .outcomeT)]⟩
def XV:aN vw:={rcut:=WC}
def TX:Nat->Bool:=λk=>match k with|9000040=>true|_=>false
def Vt:Sig vw:={params:=[Dq3,Dq1,vu,Dq4,Dq1],rcut:=WC,rvars:=[.tmp 10, .cell 11 34],keep:=[21,3213,3215]}
noncomputable def QJ(v:(List aC)×Int×(List aE)×Bool×Int×Unit):Option ((List aC)×Bool×Int×Int×Int×(Option bX)×(List Int)×(List aE)×cv×Unit):=(if(↑v.1.length:Int)<=4294967296 then some ((v.2.1,v.2.2.1,cv.mk (0:Int) (aE.mk (aF.mk (0:Int) (0:Int) (ZZ #[]) false false) (0:Int) false (ZZ #[]) (aF.mk (0:Int) (0:Int) (ZZ #[]) false false)) (0:Int) [],v.1,v.2.2.2.1,(0:Int),v.2.2.2.2.1,(0:Int),none,aak (↑v.1.length:Int).toNat (0:Int),[],()))else none)>>=λx1=>let a:=x1.2.2.2.2.2;kM (x1.2.1,())>>=λx2=>n_40s78a4 (x1.1,(↑(0:Nat):Int),(↑x2.1.length:Int),(1:Int),x1.2.2.2.1,x1.2.2.2.2.1,a.1,a.2.1,a.2.2.1,a.2.2.2.1,x2.1,a.2.2.2.2)>>=λx3=>let c:=x3.2.2.2;let b:=c.2.2.2;let d:=b.2.2.2;if b.2.2.1.length=x2.1.length then if d.1.length=a.2.2.2.2.1.length then if b.2.1.isSome=true then(b.2.1:Option (bX))>>=λx4=>(b.2.1:Option (bX))>>=λx5=>some ((x3.2.2.1,c.1,c.2.1,c.2.2.1,b.1,b.2.1,d.1,d.2.1,cv.mk x4.kind (aE.mk (aF.mk (0:Int) (0:Int) (ZZ #[]) false false) (0:Int) false (ZZ #[]) (aF.mk (0:Int) (0:Int) (ZZ #[]) false false)) x5.why [],()))else some ((x3.2.2.1,c.1,c.2.1,c.2.2.1,b.1,b.2.1,d.1,d.2.1,cv.mk (0:Int) d.2.2.1 (0:Int) [],()))else none else none
def K9:=kO uk (kO ul k0)
def x29:Xc vw:={P:=prog,n:=51,call:=K9.1,pre:=TX,sh:=XV,regs:=λk=>match k with|1=>some Ti|_=>none}
theorem NA:aM prog 29 Vt QJ:=fn0 x29 Tryz.func29 K9.2
def SC:Cut SN:=⟨[(8, .bp 8 0),(9,Dq1)],[(8, .st .outcomeT)]⟩
def XR:aN vw:={rcut:=SC}
def Vp:Sig vw:=sg [Dq3,Dq5,vu,Dq4] SC [.cell 8 34, .tmp 9]
abbrev Wv:=(List aC)×ByteArray×(List aE)×Bool×Unit
noncomputable def OX(v:Wv):Option (Int×cv×Unit):=SI (v.1,v.2.1,v.2.2.1,())>>=λx1=>if(x1.2.1 !=0)=true then some ((x1.2.1,cv.mk (0:Int) (aE.mk (aF.mk (0:Int) (0:Int) (ZZ #[]) false false) (0:Int) false (ZZ #[]) (aF.mk (0:Int) (0:Int) (ZZ #[]) false false)) (0:Int) [],()))else QJ (v.1,x1.1,v.2.2.1,v.2.2.2.1,(-1:Int),())>>=λx2=>some (((0:Int),x2.2.2.2.2.2.2.2.2))
def K7:=kP Nz (kO NA k0)
def x11:Xc vw:=mX prog 34 K7.1 XR [] [] []
theorem Ef:aM prog 11 Vp OX:=fn0 x11 Tryz.func11 K7.2
def Mv:Cut SN:=⟨[(0,Dq4)],[]⟩
def XQ:aN vw:={rcut:=Mv}
def Vo:Sig vw:=sg [] Mv [.tmp 0]
noncomputable def QI(v:Unit):Option (Bool×Unit):=let G2:=(false,());let G1:=(ZZ #[102]);OX ([aC.mk G1 (0:Int) (0:Int) (aF.mk (2:Int) (8:Int) (ZZ #[]) false false) [aQ.mk (0:Int) (200:Int) (0:Int) (aF.mk (2:Int) (8:Int) (ZZ #[]) false false) (ZZ #[]),aQ.mk (0:Int) (100:Int) (0:Int) (aF.mk (2:Int) (8:Int) (ZZ #[]) false false) (ZZ #[]),aQ.mk (5:Int) (5:Int) (0:Int) (aF.mk (2:Int) (8:Int) (ZZ #[]) false false) (ZZ #[]),aQ.mk (17:Int) (0:Int) (0:Int) (aF.mk (0:Int) (0:Int) (ZZ #[]) false false) (ZZ #[])]],G1,[],true,())>>=λx1=>OX ([aC.mk G1 (0:Int) (0:Int) (aF.mk (2:Int) (8:Int) (ZZ #[]) false false) [aQ.mk (0:Int) (200:Int) (0:Int) (aF.mk (2:Int) (8:Int) (ZZ #[]) false false) (ZZ #[]),aQ.mk (0:Int) (100:Int) (0:Int) (aF.mk (2:Int) (8:Int) (ZZ #[]) false false) (ZZ #[]),aQ.mk (5:Int) (5:Int) (0:Int) (aF.mk (2:Int) (8:Int) (ZZ #[]) false false) (ZZ #[]),aQ.mk (17:Int) (0:Int) (0:Int) (aF.mk (0:Int) (0:Int) (ZZ #[]) false false) (ZZ #[])]],G1,[],G2)>>=λx2=>(if(x1.2.1.kind==1)=true then if(x1.2.1.stop==1)=true then if(x1.1==0)=true then if(x2.2.1.value.n==44)=true then some ((x2.1==0,()))else some (G2)else some (G2)else some (G2)else some (G2))>>=λx3=>some (x3)
def K6:=kP Ef k0
def x10:Xc vw:=mX prog 51 K6.1 XQ [] [(5,Mv)] []
theorem Nj:aM prog 10 Vo QI:=fn0 x10 Tryz.func10 K6.2
def UM:aN vw:={rcut:=iH}
def RQ:Sig vw:=sg [Dq1,Dq1,Dq1] iH [.tmp 6]
noncomputable def El(v:Cd):Option (Bool×Unit):=(if decide (v.1>=v.2.1)=true then some ((decide (v.1<=v.2.2.1),()))else some ((false,())))>>=λx1=>some (x1)
def Zt:Xc vw:=mX prog 15 c0 UM [] [(1,iH)] []
theorem yP:aM prog 145 RQ El:=fn0 Zt Tryz.func145 bT
def Vj:aN vw:={rcut:=eO}
def Sd:Sig vw:=sg [OU] eO [.tmp 2]
noncomputable def AZ(v:Int×Unit):Option (Bool×Unit):=(if decide (v.1>=97)=true then if decide (v.1<=122)=true then some ((true,()))else if decide (v.1>=65)=true then if decide (v.1<=90)=true then some ((true,()))else some ((v.1==95,()))else some ((v.1==95,()))else if decide (v.1>=65)=true then if decide (v.1<=90)=true then some ((true,()))else some ((v.1==95,()))else some ((v.1==95,())))>>=λx1=>some (x1)
def ZU:Xc vw:=mX prog 21 c0 Vj [] [(1,eO)] []
theorem yU:aM prog 187 Sd AZ:=fn0 ZU Tryz.func187 bT
def Vl:aN vw:={rcut:=eO}
def Sf:Sig vw:=sg [OU] eO [.tmp 2]
noncomputable def Ev(v:Int×Unit):Option (Bool×Unit):=(if decide (v.1>=48)=true then some ((decide (v.1<=57),()))else some ((false,())))>>=λx1=>some (x1)
def ZV:Xc vw:=mX prog 9 c0 Vl [] [(1,eO)] []
theorem yV:aM prog 189 Sf Ev:=fn0 ZV Tryz.func189 bT
def K3:Cut SN:=⟨[(0,Dq5),(1,Dq1)],[]⟩
def PW:Cut SN:=⟨[(0,Dq5),(1,Dq1),(20,Dq4)],[]⟩
def Vk:aN vw:=shL [(0,K2)] bF
def Se:Sig vw:=sg [Dq5,Dq1] bF [.tmp 4]
noncomputable def i_(v:ByteArray×Int×Unit):Option ((Int×Unit)):=let a:=v.2.1;(if decide (a<(↑v.1.size:Int))=true then if 0<=a then v.1[a.toNat]?>>=λx1=>AZ ((↑x1.toNat:Int),())>>=λx2=>if x2.1=true then some ((v.1,a,true,()))else if 0<=a then v.1[a.toNat]?>>=λx3=>Ev ((↑x3.toNat:Int),())>>=λx4=>some (v.1,a,x4)else none else none else some ((v.1,a,false,())))>>=λx1=>if x1.2.2.1=true then i_ (x1.1,i64.wrap (x1.2.1+1),())else some ((x1.2.1,())) partial_fixpoint
noncomputable def A0(v:ByteArray×Int×Unit):Option (Int×Unit):=i_ v>>=λx1=>some (x1)
def wd:=kP yU (kP yV k0)
def Xe:Xc vw:=mX prog 24 wd.1 Vk [] [(1,PW)] [(1,⟨K3,[.exit 0],i_⟩)]
theorem A2:gg Xe (aS (aO Tryz.f188) 0) ⟨K3,[.exit 0],i_⟩:=lp0 i_.partial_correctness wd.2
theorem IW:aM prog 188 Se A0:=fn1 Xe Tryz.func188 wd.2 A2
def GO:Cut SN:=⟨[(0,KE)],[]⟩
def Vm:aN vw:={rcut:=GO}
def Sg:Sig vw:=sg [] GO [.tmp 0]
noncomputable def IX(v:Unit):Option ((List ByteArray)×Unit):=some (([ZZ #[61,61],ZZ #[33,61],ZZ #[60,61],ZZ #[62,61],ZZ #[43,37],ZZ #[43,124],ZZ #[45,37],ZZ #[45,124],ZZ #[42,37],ZZ #[46,46],ZZ #[46,63],ZZ #[61,62],ZZ #[40],ZZ #[41],ZZ #[123],ZZ #[125],ZZ #[44],ZZ #[59],ZZ #[58],ZZ #[61],ZZ #[33],ZZ #[60],ZZ #[62],ZZ #[43],ZZ #[45],ZZ #[42],ZZ #[47],ZZ #[37],ZZ #[38],ZZ #[124],ZZ #[94],ZZ #[63],ZZ #[46]],()))
def ZW:Xc vw:=mX prog 2 c0 Vm [] [] []
theorem IY:aM prog 190 Sg IX:=fn0 ZW Tryz.func190 bT
def Cv:Cut SN:=⟨[(0,Dq5),(1,Dq1),(8,KE),(9,Dq1)],[]⟩
def PU:Cut SN:=⟨[(0,Dq5),(1,Dq1),(40,Dq4)],[]⟩
def MG:Cut SN:=⟨[(0,Dq5),(1,Dq1),(8,KE),(9,Dq1),(10,Dq1),(73,Dq4)],[]⟩
def PV:Cut SN:=⟨[(4,Dq1),(5,Dq1),(6,Dq4)],[]⟩
def U9:aN vw:=shL [(1,dW)] PV
def Sa:Sig vw:=sg [Dq5,Dq1] PV [.tmp 4, .tmp 5, .tmp 6]
noncomputable def fz(v:ByteArray×Int×(List ByteArray)×Int×Unit):Option (((Int×Int×Bool×Unit)⊕(Unit))):=let a:=v.2.2.2.1;let b:=v.2.1;let c:=v.2.2.1;if decide (a<(↑c.length:Int))=true then if 0<=a then c[a.toNat]?>>=λx1=>(if decide (i64.wrap (b+(↑x1.size:Int))<=(↑v.1.size:Int))=true then if 0<=b/\b<=i64.wrap (b+(↑x1.size:Int))/\i64.wrap (b+(↑x1.size:Int))<=(↑v.1.size:Int)then if 0<=a then c[a.toNat]?>>=λx2=>some ((v.1,b,c,a,i64.wrap (b+(↑x1.size:Int)),(v.1.extract b.toNat (i64.wrap (b+(↑x1.size:Int))).toNat).toList==x2.toList,()))else none else none else some ((v.1,b,c,a,i64.wrap (b+(↑x1.size:Int)),false,())))>>=λx2=>if x2.2.2.2.2.2.1=true then some (aaG ((2:Int),x2.2.2.2.2.1,true,()))else fz (x2.1,x2.2.1,x2.2.2.1,i64.wrap (x2.2.2.2.1+1),())else none else some (aa8 ()) partial_fixpoint
noncomputable def AV(v:ByteArray×Int×Unit):Option (Int×Int×Bool×Unit):=let a:=v.2.1;if 0<=a then v.1[a.toNat]?>>=λx1=>AZ ((↑x1.toNat:Int),())>>=λx2=>if x2.1=true then A0 v>>=λx3=>some (((0:Int),x3.1,true,()))else Ev ((↑x1.toNat:Int),())>>=λx3=>if x3.1=true then A0 v>>=λx4=>some (((1:Int),x4.1,true,()))else if((↑x1.toNat:Int)==64)=true then(if decide (i64.wrap (a+1)<(↑v.1.size:Int))=true then if 0<=i64.wrap (a+1)then v.1[(i64.wrap (a+1)).toNat]?>>=λx4=>AZ ((↑x4.toNat:Int),())>>=λx5=>some (v.1,a,x5)else none else some ((v.1,a,false,())))>>=λx4=>if x4.2.2.1=true then A0 (x4.1,i64.wrap (x4.2.1+1),())>>=λx5=>some (((3:Int),x5.1,true,()))else some (((0:Int),(0:Int),false,()))else IX ()>>=λx4=>fz (v.1,a,x4.1,(0:Int),())>>=λx5=>match x5 with| .inl y5=>some y5| .inr y5=>some (((0:Int),(0:Int),false,()))else none
def wb:=kP yU (kP IW (kP yV (kP IY k0)))
def Xd:Xc vw:=mX prog 75 wb.1 U9 [] [(7,PU),(15,MG)] [(12,⟨Cv,[.ret, .exit 1],fz⟩)]
theorem wJ:gg Xd (aS (aO Tryz.f173) 0) ⟨Cv,[.ret, .exit 1],fz⟩:=lp0 fz.partial_correctness wb.2
theorem IB:aM prog 173 Sa AV:=fn1 Xd Tryz.func173 wb.2 wJ
abbrev Ta:OPt SN:= .vec 193 (.st .tokenT)
def KX:Cut SN:=⟨[(0,Dq5),(5, .vh 1005),(6,Dq1)],[(1005,Ta)]⟩
def PM:Cut SN:=⟨[(0,Dq5),(5, .vh 1005),(6,Dq1),(23,Dq4)],[(1005,Ta)]⟩
def PL:Cut SN:=⟨[(5, .vh 1005)],[(1005,Ta)]⟩
def PN:Cut SN:=⟨[(2, .dat (.sl (.st .tokenT))),(3,Dq1),(4,Dq4)],[]⟩
def UX:aN vw:=shL [(0,PL)] PN
def R1:Sig vw:=sg [Dq5] PN [.tmp 2, .tmp 3, .tmp 4]
noncomputable def fJ(v:ByteArray×Int×(List j9)×Unit):Option ((((List j9)×Int×Bool×Unit)⊕((List j9)×Unit))):=let a:=v.2.1;if decide (a<(↑v.1.size:Int))=true then(if 0<=a then v.1[a.toNat]?>>=λx1=>if((↑x1.toNat:Int)==32)=true then some (v.1,a,true,v.2.2)else if 0<=a then v.1[a.toNat]?>>=λx2=>some ((v.1,a,(↑x2.toNat:Int)==10,v.2.2))else none else none)>>=λx1=>let b:=x1.2.1;if x1.2.2.1=true then fJ (x1.1,i64.wrap (b+1),x1.2.2.2)else AV (x1.1,b,())>>=λx2=>if(!x2.2.2.1)=true then some (aaG ([],b,false,()))else if 0<=b/\b<=x2.2.1/\x2.2.1<=(↑x1.1.size:Int)then if x1.2.2.2.1.length+[j9.mk x2.1 b (x1.1.extract b.toNat x2.2.1.toNat)].length<=4294967296 then fJ (x1.1,x2.2.1,x1.2.2.2.1++[j9.mk x2.1 b (x1.1.extract b.toNat x2.2.1.toNat)],())else none else none else some (aa8 v.2.2) partial_fixpoint
noncomputable def Nr(v:ByteArray×Unit):Option ((List j9)×Int×Bool×Unit):=fJ (v.1,(0:Int),[],())>>=λx1=>match x1 with| .inl y1=>some y1| .inr y1=>some ((y1.1,(0:Int),true,()))
def v7:=kP IB k0
def W9:Xc vw:=mX prog 48 v7.1 UX [] [(4,PM)] [(3,⟨KX,[.ret, .exit 0],fJ⟩)]
theorem AN:gg W9 (aS (aO Tryz.f158) 0) ⟨KX,[.ret, .exit 0],fJ⟩:=lp0 fJ.partial_correctness v7.2
theorem Ip:aM prog 158 R1 Nr:=fn1 W9 Tryz.func158 v7.2 AN
def UB:aN vw:={rcut:=cE}
def RF:Sig vw:=sg [Dq1,Dq5] cE [.tmp 4]
noncomputable def Nl(v:Int×ByteArray×Unit):Option (Bool×Unit):=Nr v.2>>=λx1=>(if x1.2.2.1=true then if((↑x1.1.length:Int)==1)=true then x1.1[aaq 0]?>>=λx2=>if(x2.kind==v.1)=true then x1.1[aaq 0]?>>=λx3=>some ((x3.text.toList==v.2.1.toList,()))else some ((false,()))else some ((false,()))else some ((false,())))>>=λx2=>some (x2)
def CU:=kP Ip k0
def Zk:Xc vw:=mX prog 36 CU.1 UB [] [(2,cE)] []
theorem H1:aM prog 134 RF Nl:=fn0 Zk Tryz.func134 CU.2
def Yv:aN vw:={rcut:=eO}
def VX:Sig vw:=sg [Dq5] eO [.tmp 2]
noncomputable def SZ(v:ByteArray×Unit):Option (Bool×Unit):=Nl ((0:Int),v)>>=λx1=>some (x1)
def Lr:=kP H1 k0
def x97:Xc vw:=mX prog 5 Lr.1 Yv [] [] []
theorem NW:aM prog 97 VX SZ:=fn0 x97 Tryz.func97 Lr.2
def UC:aN vw:={rcut:=GO}
def RG:Sig vw:=sg [] GO [.tmp 0]
noncomputable def H2(v:Unit):Option ((List ByteArray)×Unit):=some (([ZZ #[102,110],ZZ #[99,111,110,115,116],ZZ #[118,97,114],ZZ #[99,111,109,112,116,105,109,101],ZZ #[114,101,116,117,114,110],ZZ #[101,114,114,111,114],ZZ #[105,102],ZZ #[101,108,115,101],ZZ #[119,104,105,108,101],ZZ #[102,111,114],ZZ #[105,110,108,105,110,101],ZZ #[115,119,105,116,99,104],ZZ #[100,101,102,101,114],ZZ #[101,114,114,100,101,102,101,114],ZZ #[98,114,101,97,107],ZZ #[99,111,110,116,105,110,117,101],ZZ #[103,105,118,101],ZZ #[117,110,114,101,97,99,104,97,98,108,101],ZZ #[116,114,117,101],ZZ #[102,97,108,115,101],ZZ #[97,110,100],ZZ #[111,114],ZZ #[116,114,121],ZZ #[99,97,116,99,104],ZZ #[111,114,101,108,115,101],ZZ #[100,111],ZZ #[118,111,105,100],ZZ #[98,111,111,108],ZZ #[116,121,112,101],ZZ #[95]],()))
def Zl:Xc vw:=mX prog 2 c0 UC [] [] []
theorem H3:aM prog 135 RG H2:=fn0 Zl Tryz.func135 bT
def Qm:Cut SN:=⟨[(0,Dq5),(3,KE),(4,Dq1)],[]⟩
def Yw:aN vw:=shL [(0,dW)] eO
def VY:Sig vw:=sg [Dq5] eO [.tmp 2]
noncomputable def mH(v:ByteArray×(List ByteArray)×Int×Unit):Option (((Bool×Unit)⊕(Unit))):=if decide (v.2.2.1<(↑v.2.1.length:Int))=true then if 0<=v.2.2.1 then v.2.1[v.2.2.1.toNat]?>>=λx1=>if(x1.toList==v.1.toList)=true then some (aaG (true,()))else mH (v.1,v.2.1,i64.wrap (v.2.2.1+1),())else none else some (aa8 ()) partial_fixpoint
noncomputable def S2(v:ByteArray×Unit):Option (Bool×Unit):=H2 ()>>=λx1=>mH (v.1,x1.1,(0:Int),())>>=λx2=>match x2 with| .inl y2=>some y2| .inr y2=>some ((false,()))
def Df:=kP H3 k0
def x98:Xc vw:=mX prog 18 Df.1 Yw [] [] [(3,⟨Qm,[.ret, .exit 0],mH⟩)]
theorem EQ:gg x98 (aS (aO Tryz.f98) 0) ⟨Qm,[.ret, .exit 0],mH⟩:=lp0 mH.partial_correctness Df.2
theorem NX:aM prog 98 VY S2:=fn1 x98 Tryz.func98 Df.2 EQ
def Jz:aN vw:=shL [(0,K1)] tn
def iv:Sig vw:=sg [Dq1,Dq1] tn [.tmp 4]
noncomputable def dF(v:xP):Option ((Int×ByteArray×Unit)):=let a:=v.2.1;let G2:=(i64.wrap (v.1.tmod a+1));let G1:=(ZZ #[48,49,50,51,52,53,54,55,56,57,97,98,99,100,101,102]);if decide (v.1>=a)=true then if a=0 then none else if a=0 then none else if 0<=v.1.tmod a/\v.1.tmod a<=i64.wrap (v.1.tmod a+1)/\i64.wrap (v.1.tmod a+1)<=(↑G1.size:Int)then if(G1.extract (v.1.tmod a).toNat G2.toNat).size+v.2.2.1.size<=4294967296 then if a=0 then none else dF (i64.wrap (v.1.tdiv a),a,G1.extract (v.1.tmod a).toNat G2.toNat++v.2.2.1,())else none else none else some (v.1,v.2.2) partial_fixpoint
noncomputable def p9(v:Int×Int×Unit):Option (ByteArray×Unit):=let G1:=(ZZ #[48,49,50,51,52,53,54,55,56,57,97,98,99,100,101,102]);if decide (v.1<0)=true then p9 (i64.wrap ((0:Int) -v.1),v.2)>>=λx1=>if(ZZ #[45]).size+x1.1.size<=4294967296 then some ((ZZ #[45]++x1.1,()))else none else dF (v.1,v.2.1,ZZ #[],())>>=λx1=>if 0<=x1.1/\x1.1<=i64.wrap (x1.1+1)/\i64.wrap (x1.1+1)<=(↑G1.size:Int)then if(G1.extract x1.1.toNat (i64.wrap (x1.1+1)).toNat).size+x1.2.1.size<=4294967296 then some ((G1.extract x1.1.toNat (i64.wrap (x1.1+1)).toNat++x1.2.1,()))else none else none partial_fixpoint
def wc(dF:xP->Option ((Int×ByteArray×Unit)))(p9:Int×Int×Unit->Option (ByteArray×Unit)):dh vw:=λA fid args S k=>match fid with|174=>ct prog iv p9 A args S k|_=>none
def zE(dF:xP->Option ((Int×ByteArray×Unit)))(p9:Int×Int×Unit->Option (ByteArray×Unit)):Xc vw:={P:=prog,n:=35,call:=wc dF p9,pre:=Jh,sh:=Jz,loops:=λk=>match k with|4=>some {cut:=iq,alts:=[.exit 0],F:=dF}|_=>none}
abbrev nt(v:xP)(r:(Int×ByteArray×Unit)):Prop:=(λv out=>∀C:Ctx,C.P=prog->C.N=35/\Fx C Jh->pS C (aS (aO Tryz.f174) 0) (Go.Tx.a_ vw (fk vw iq v)) (xO Jz [.exit 0] out)) v r
theorem GT(f0:xP->Option ((Int×ByteArray×Unit)))(h0:∀v r,f0 v=some r->nt v r):bG prog (zE f0 (λ_=>none)).call:=(by
 intro A fid args S dst k r h
 unfold zE wc at h
 simp only at h
 split at h
 ·exact aR ((λv r x h hx=>by cases h)) rfl rfl h
 ·cases h)
theorem JE(f0:xP->Option ((Int×ByteArray×Unit)))(h0:∀v r,f0 v=some r->nt v r)(v:xP)(r:(Int×ByteArray×Unit))(h:exL (zE f0 (λ_=>none)) (aS (aO Tryz.f174) 0) iq [.exit 0] f0 v=some r):nt v r:=λC hP hN=>gL (X:=zE f0 (λ_=>none)) (b:=(aS (aO Tryz.f174) 0)) hP hN Ty.mixed (GT f0 h0) (eT (X:=zE f0 (λ_=>none)) (c:=(aS (aO Tryz.f174) 0)) (fG (by kernel_rfl:True=pR (e7 C (zE f0 (λ_=>none))) (cA (aS (aO Tryz.f174) 0))) trivial)) (cut:=iq) (alts:=[.exit 0]) (F:=f0) (λv out h=>h0 v out h C hP hN) h
theorem AW:∀v out,dF v=some out->(λv out=>∀C:Ctx,C.P=prog->C.N=35/\Fx C Jh->pS C (aS (aO Tryz.f174) 0) (Go.Tx.a_ vw (fk vw iq v)) (xO Jz [.exit 0] out)) v out:=(dF.partial_correctness (motive:=nt) (λf0 h0 v r h=>JE f0 h0 v r (fG (by kernel_rfl) h)))
abbrev yH(v:Int×Int×Unit)(r:ByteArray×Unit):Prop:=(λv r=>∀x,Gx prog iv r=some x->lW prog 174 (encL vw (cD iv v).len (d6 iv v).1) (eP (cD iv v).len (cD iv v).own) (aL vw (fk vw iv.rcut r).len x) (eP (fk vw iv.rcut r).len (pY iv r))) v r
theorem Qq(f0:Int×Int×Unit->Option (ByteArray×Unit))(h0:∀v r,f0 v=some r->yH v r):bG prog (zE dF f0).call:=(by
 intro A fid args S dst k r h
 unfold zE wc at h
 simp only at h
 split at h
 ·exact aR ((λv r x h hx=>h0 v r h x hx)) rfl rfl h
 ·cases h)
theorem Sq(f0:Int×Int×Unit->Option (ByteArray×Unit))(h0:∀v r,f0 v=some r->yH v r)(v:Int×Int×Unit)(r:ByteArray×Unit)(h:exF (zE dF f0) iv rfl (aO Tryz.f174) v=some r):yH v r:=λx hx=>Au (X:=zE dF f0) (sig:=iv) rfl Tryz.func174 (c:=aO Tryz.f174) (by kernel_rfl) Tryz.ntmps174 (by kernel_rfl) (by kernel_rfl) rfl Ty.mixed (Qq f0 h0) rfl (λC hP hN=>(eT (X:=zE dF f0) (c:=(aO Tryz.f174)) (fG (by kernel_rfl:pR (e7 C (zE dF f0)) [(aS (aO Tryz.f174) 0)]=pR (e7 C (zE dF f0)) (cA (aO Tryz.f174))) ⟨iW (X:=zE dF f0) (b:=(aS (aO Tryz.f174) 0)) (by kernel_rfl) (show gC C (aS (aO Tryz.f174) 0) (sh:=Jz) {cut:=iq,alts:=[.exit 0],F:=dF}fromλv out h=>AW v out h C hP hN),trivial⟩))) h x hx
theorem IC:aM prog 174 iv p9:=λv r x h hx=>(p9.partial_correctness (motive:=yH) (λf0 h0 v r h=>Sq f0 h0 v r (fG (by kernel_rfl) h))) v r h x hx
def GN:Cut SN:=⟨[(2,Dq5)],[]⟩
def UY:aN vw:={rcut:=GN}
def R2:Sig vw:=sg [Dq1] GN [.tmp 2]
noncomputable def Iq(v:Int×Unit):Option (ByteArray×Unit):=p9 (v.1,(10:Int),())>>=λx1=>some (x1)
def C4:=kP IC k0
def ZC:Xc vw:=mX prog 5 C4.1 UY [] [] []
theorem Ir:aM prog 159 R2 Iq:=fn0 ZC Tryz.func159 C4.2
def UD:aN vw:={rcut:=GN}
def RH:Sig vw:=sg [m6] GN [.tmp 2]
noncomputable def Eg(v:bB×Unit):Option (ByteArray×Unit):=if v.1.signed=true then Iq (v.1.bits,())>>=λx1=>if(ZZ #[105]).size+x1.1.size<=4294967296 then some ((ZZ #[105]++x1.1,()))else none else Iq (v.1.bits,())>>=λx1=>if(ZZ #[117]).size+x1.1.size<=4294967296 then some ((ZZ #[117]++x1.1,()))else none
def CV:=kP Ir k0
def Zm:Xc vw:=mX prog 13 CV.1 UD [] [] []
theorem H4:aM prog 136 RH Eg:=fn0 Zm Tryz.func136 CV.2
def Qn:Cut SN:=⟨[(0,Dq5),(2, .bp 2 0),(4,Dq1)],[(2, .st .myIntT)]⟩
def Yx:aN vw:=shL [(0,vR)] GK
def VZ:Sig vw:=sg [Dq5] GK [.cell 2 135, .tmp 3]
noncomputable def kT(v:ByteArray×Int×bB×Unit):Option (((Int×bB×Unit)⊕(bB×Unit))):=if decide (v.2.1<=31)=true then Eg (bB.mk false v.2.1,())>>=λx1=>if(x1.1.toList==v.1.toList)=true then some (aaG ((0:Int),bB.mk false v.2.1,()))else Eg (bB.mk true v.2.1,())>>=λx2=>if(x2.1.toList==v.1.toList)=true then some (aaG ((0:Int),bB.mk true v.2.1,()))else kT (v.1,i64.wrap (v.2.1+1),v.2.2)else some (aa8 v.2.2) partial_fixpoint
noncomputable def S3(v:ByteArray×Unit):Option (Int×bB×Unit):=kT (v.1,(1:Int),bB.mk false (0:Int),())>>=λx1=>match x1 with| .inl y1=>some y1| .inr y1=>some (((2:Int),bB.mk false (0:Int),()))
def Dg:=kP H4 k0
def x99:Xc vw:=mX prog 26 Dg.1 Yx [] [] [(2,⟨Qn,[.ret, .exit 0],kT⟩)]
theorem ER:gg x99 (aS (aO Tryz.f99) 0) ⟨Qn,[.ret, .exit 0],kT⟩:=lp0 kT.partial_correctness Dg.2
theorem NY:aM prog 99 VZ S3:=fn1 x99 Tryz.func99 Dg.2 ER
def Yf:aN vw:={rcut:=eO}
def VL:Sig vw:=sg [Dq5] eO [.tmp 2]
noncomputable def O0(v:ByteArray×Unit):Option (Bool×Unit):=(if decide ((↑v.1.size:Int)>8)=true then some ((v.1,true,()))else SZ v>>=λx1=>if(!x1.1)=true then some ((v.1,true,()))else S2 v>>=λx2=>some (v.1,x2))>>=λx1=>if x1.2.1=true then some ((false,()))else S3 (x1.1,())>>=λx2=>some ((x2.1 !=0,()))
def Lf:=kP NW (kP NX (kP NY k0))
def x55:Xc vw:=mX prog 24 Lf.1 Yf [] [(1,Qf)] []
theorem wM:aM prog 55 VL O0:=fn0 x55 Tryz.func55 Lf.2
def Pu:Cut SN:=⟨[(1, .bp 1 0),(4,Dq1),(5,Dq4)],[(1, .st .myTypeT)]⟩
def UE:aN vw:={rcut:=eO}
def RI:Sig vw:=sg [vz] eO [.tmp 2]
noncomputable def H5(v:aF×Unit):Option (Bool×Unit):=let G1:=(false,());(if(v.1.base==2)=true then some (v.1.base,true,v)else some (v.1.base,v.1.base==3,v))>>=λx1=>let a:=x1.2.2.1;if x1.2.1=true then(El (a.bits,(1:Int),(31:Int),())>>=λx2=>if x2.1=true then some ((a.name0.toList==(ZZ #[]).toList,()))else some (G1))>>=λx2=>some (x2)else if(x1.1==5)=true then(if(a.bits==0)=true then O0 (a.name0,())>>=λx2=>some (x2)else some (G1))>>=λx2=>some (x2)else if(x1.1==0)=true then(if(a.bits==0)=true then if(a.name0.toList==(ZZ #[]).toList)=true then some ((!a.opt,()))else some (G1)else some (G1))>>=λx2=>some (x2)else if(x1.1==4)=true then(if(a.bits==0)=true then if(a.name0.toList==(ZZ #[]).toList)=true then if(!a.opt)=true then some ((!a.err,()))else some (G1)else some (G1)else some (G1))>>=λx2=>some (x2)else(if(a.base==1)=true then if(a.bits==0)=true then some ((a.name0.toList==(ZZ #[]).toList,()))else some (G1)else some (G1))>>=λx2=>some (x2)
def CW:=kP wM (kP yP k0)
def Zn:Xc vw:=mX prog 74 CW.1 UE [(4,Pu,[.norm])] [(4,eO),(6,eO),(8,eO),(10,eO),(11,eO)] []
theorem H6:aM prog 137 RI H5:=fn0 Zn Tryz.func137 CW.2
def Ua:aN vw:={rcut:=m9}
def Rb:Sig vw:=sg [vz] m9 [.tmp 2]
noncomputable def Ni(v:aF×Unit):Option (Int×Unit):=H5 v>>=λx1=>if(!x1.1)=true then some (((1:Int),()))else some (((0:Int),()))
def Cy:=kP H6 k0
def YV:Xc vw:=mX prog 6 Cy.1 Ua [] [] []
theorem Hw:aM prog 100 Rb Ni:=fn0 YV Tryz.func100 Cy.2
def Cs:Cut SN:=⟨[(6,Dq1),(7,Dq4)],[]⟩
def Mt:Cut SN:=⟨[(6,Dq1),(10,Dq4)],[]⟩
def Mu:Cut SN:=⟨[(6,Dq1),(19,Dq4)],[]⟩
def Pd:Cut SN:=⟨[(2,Dq4),(3,Dq4),(4,Dq4),(5,Dq4)],[]⟩
def Ub:aN vw:={rcut:=Pd}
def Rc:Sig vw:=sg [Dq1] Pd [.tmp 2, .tmp 3, .tmp 4, .tmp 5]
noncomputable def Hx(v:Int×Unit):Option (Bool×Bool×Bool×Bool×Unit):=let G1:=(true,());(if(v.1==0)=true then some (v.1,G1)else some ((v.1,v.1==5,())))>>=λx1=>let a:=x1.1;let G2:=(a,G1);if x1.2.1=true then some ((true,false,true,false,()))else(if(a==2)=true then some (G2)else if(a==3)=true then some (G2)else if(a==6)=true then some (G2)else if(a==12)=true then some (G2)else if(a==13)=true then some (G2)else if(a==14)=true then some (G2)else if(a==15)=true then some (G2)else some ((a,a==19,())))>>=λx2=>if x2.2.1=true then some ((true,false,false,false,()))else(if(x2.1==7)=true then some (x2.1,G1)else if(x2.1==9)=true then some (x2.1,G1)else some ((x2.1,x2.1==10,())))>>=λx3=>if x3.2.1=true then some ((false,false,true,false,()))else if(x3.1==16)=true then some (false,true,false,G1)else if(x3.1==18)=true then some (false,false,false,G1)else some ((false,false,false,false,()))
def YW:Xc vw:=mX prog 27 c0 Ub [(4,Cs,[.norm]),(13,Mt,[.norm]),(17,Mu,[.norm])] [] []
theorem Hy:aM prog 101 Rc Hx:=fn0 YW Tryz.func101 bT
end Go.Proofs.YtcghbgmmgcljkaaGreatDoor
end
section
namespace Go.Proofs.YtcghbgmmgcljkaaGreatDoor
open Go.Awp Go.Tx
open IntKind (i64)
open Go.Proofs.Tryz (prog)
set_option maxHeartbeats 4000000
set_option maxRecDepth 100000
def Yh:aN vw:={rcut:=iH}
def VN:Sig vw:=sg [Dq1,Dq1,Dq1] iH [.tmp 6]
noncomputable def B9(v:Cd):Option (Bool×Unit):=(if decide (v.1>=v.2.1)=true then some ((decide (v.1<=v.2.2.1),()))else some ((false,())))>>=λx1=>some (x1)
def x57:Xc vw:=mX prog 15 c0 Yh [] [(1,iH)] []
theorem sI:aM prog 57 VN B9:=fn0 x57 Tryz.func57 bT
def Pe:Cut SN:=⟨[(2, .bp 2 0),(3, .bp 3 0),(6,Dq1),(12,Dq4)],[(2, .st .myFuncT),(3, .st .myCodeT)]⟩
def Uc:aN vw:={rcut:=cE}
def Re:Sig vw:=sg [Cb,lV] cE [.tmp 4]
noncomputable def iz(v:aC×aQ×Unit):Option (Bool×Unit):=if(v.2.1.op==0)=true then B9 (v.2.1.a,(-2147483648:Int),(2147483648:Int),())>>=λx1=>some (x1)else(if(v.2.1.op==2)=true then some (v.2.1.op,true,v)else some (v.2.1.op,v.2.1.op==3,v))>>=λx1=>let b:=x1.2.2.2.1;if x1.2.1=true then B9 (b.a,(0:Int),i64.wrap (x1.2.2.1.places-1),())>>=λx2=>some (x2)else if(x1.1==5)=true then B9 (b.a,(5:Int),(17:Int),())>>=λx2=>some (x2)else if(x1.1==6)=true then B9 (b.a,(18:Int),(23:Int),())>>=λx2=>some (x2)else if(x1.1==19)=true then B9 (b.a,(1:Int),(5:Int),())>>=λx2=>some (x2)else B9 (b.a,(0:Int),i64.wrap ((↑x1.2.2.1.code.length:Int) -1),())>>=λx2=>some (x2)
def Cz:=kP sI k0
def YX:Xc vw:=mX prog 43 Cz.1 Uc [(6,Pe,[.norm])] [] []
theorem Hz:aM prog 102 Re iz:=fn0 YX Tryz.func102 Cz.2
def Yi:aN vw:={rcut:=eO}
def VO:Sig vw:=sg [vz] eO [.tmp 2]
noncomputable def O1(v:aF×Unit):Option (Bool×Unit):=(Ni v>>=λx1=>if(x1.1==0)=true then some ((decide (v.1.base<=3),()))else some ((false,())))>>=λx1=>some (x1)
def Li:=kP Hw k0
def x58:Xc vw:=mX prog 11 Li.1 Yi [] [(1,eO)] []
theorem wN:aM prog 58 VO O1:=fn0 x58 Tryz.func58 Li.2
def Ud:aN vw:={rcut:=eO}
def Rf:Sig vw:=sg [vz] eO [.tmp 2]
noncomputable def HA(v:aF×Unit):Option (Bool×Unit):=(O1 v>>=λx1=>if x1.1=true then if(v.1.base==2)=true then if(!v.1.opt)=true then some ((!v.1.err,()))else some ((false,()))else if(v.1.base==3)=true then if(!v.1.opt)=true then some ((!v.1.err,()))else some ((false,()))else some ((false,()))else some ((false,())))>>=λx1=>some (x1)
def CA:=kP wN k0
def YY:Xc vw:=mX prog 25 CA.1 Ud [] [(1,eO)] []
theorem HB:aM prog 103 Rf HA:=fn0 YY Tryz.func103 CA.2
def Px:Cut SN:=⟨[(1, .bp 1 0),(5,Dq1),(6,Dq4)],[(1, .st .myCodeT)]⟩
def Mz:Cut SN:=⟨[(1, .bp 1 0),(5,Dq1),(11,Dq4)],[(1, .st .myCodeT)]⟩
def MA:Cut SN:=⟨[(1, .bp 1 0),(5,Dq1),(16,Dq4)],[(1, .st .myCodeT)]⟩
def MB:Cut SN:=⟨[(23,Dq4)],[]⟩
def GL:Cut SN:=⟨[(2,Dq1),(3,Dq1)],[]⟩
def UG:aN vw:={rcut:=GL}
def RK:Sig vw:=sg [lV] GL [.tmp 2, .tmp 3]
noncomputable def Eh(v:aQ×Unit):Option (Int×Int×Unit):=let G2:=((1:Int),());(if(v.1.op==0)=true then some (v.1.op,true,v)else if(v.1.op==1)=true then some (v.1.op,true,v)else if(v.1.op==2)=true then some (v.1.op,true,v)else some (v.1.op,v.1.op==18,v))>>=λx1=>let G1:=(x1.1,true,x1.2.2);if x1.2.1=true then some (((0:Int),G2))else(if(x1.1==3)=true then some (G1)else if(x1.1==4)=true then some (G1)else if(x1.1==15)=true then some (G1)else some (x1.1,x1.1==17,x1.2.2))>>=λx2=>if x2.2.1=true then some (((1:Int),(0:Int),()))else(if(x2.1==5)=true then some (x2.1,true,x2.2.2)else some (x2.1,x2.1==6,x2.2.2))>>=λx3=>if x3.2.1=true then some (((2:Int),G2))else if(x3.1==16)=true then some (x3.2.2.1.b,G2)else(if(x3.1==14)=true then some ((true,()))else some ((x3.1==19,())))>>=λx4=>if x4.1=true then some (((0:Int),(0:Int),()))else some (((1:Int),G2))
def Zp:Xc vw:=mX prog 26 c0 UG [(6,Px,[.norm]),(11,Mz,[.norm]),(14,MA,[.norm]),(19,MB,[.norm])] [] []
theorem yM:aM prog 139 RK Eh:=fn0 Zp Tryz.func139 bT
def Uf:aN vw:={rcut:=iH}
def Ri:Sig vw:=sg [Cb,Dq1,Dq1] iH [.tmp 6]
noncomputable def Ec(v:aC×Int×Int×Unit):Option (Bool×Unit):=if 0<=v.2.1 then v.1.code[v.2.1.toNat]?>>=λx1=>Eh (x1,())>>=λx2=>B9 (v.2.2.1,x2.1,(64:Int),())>>=λx3=>some (x3)else none
def CB:=kP sI (kP yM k0)
def YZ:Xc vw:=mX prog 21 CB.1 Uf [] [] []
theorem yI:aM prog 105 Ri Ec:=fn0 YZ Tryz.func105 CB.2
def Pv:Cut SN:=⟨[(1,Dq1),(2,Dq1),(7, .bp 7 0),(10,Dq1),(27,Dq1),(35,Dq4)],[(7, .st .myCodeT)]⟩
def My:Cut SN:=⟨[(1,Dq1),(2,Dq1),(7, .bp 7 0),(10,Dq1),(27,Dq1),(38,Dq4)],[(7, .st .myCodeT)]⟩
def Pw:Cut SN:=⟨[(6, .dat (.sl (.ar 2 (.int .i64))))],[]⟩
def UF:aN vw:={rcut:=Pw}
def RJ:Sig vw:=sg [Cb,Dq1,Dq1] Pw [.tmp 6]
noncomputable def H7(v:aC×Int×Int×Unit):Option ((List (List Int))×Unit):=if 0<=v.2.1 then v.1.code[v.2.1.toNat]?>>=λx1=>Eh (x1,())>>=λx2=>let G1:=(i64.wrap (v.2.2.1-x2.1)+x2.2.1);if(x1.op==14)=true then some (([[x1.a,i64.wrap G1]],()))else(if(x1.op==17)=true then some ((v.2.1,v.2.2.1,i64.wrap G1,x1.op,true,x1,()))else some ((v.2.1,v.2.2.1,i64.wrap G1,x1.op,x1.op==19,x1,())))>>=λx3=>let b:=x3.2.2.2;if b.2.1=true then some (([],()))else(if(b.1==15)=true then some (x3.1,x3.2.1,x3.2.2.1,b.1,true,b.2.2)else some (x3.1,x3.2.1,x3.2.2.1,b.1,b.1==13,b.2.2))>>=λx4=>let c:=x4.2.2;if c.2.2.1=true then some (([[i64.wrap (x4.1+1),c.1],[c.2.2.2.1.a,c.1]],()))else if(c.2.1==12)=true then some (([[i64.wrap (x4.1+1),x4.2.1],[c.2.2.2.1.a,i64.wrap (x4.2.1-1)]],()))else some (([[i64.wrap (x4.1+1),c.1]],()))else none
def CX:=kP yM k0
def Zo:Xc vw:=mX prog 67 CX.1 UF [(9,Pv,[.norm]),(12,My,[.norm])] [] []
theorem H8:aM prog 138 RJ H7:=fn0 Zo Tryz.func138 CX.2
def KQ:Cut SN:=⟨[(1, .bp 1 0),(4, .vh 1004),(5,Dq1)],[(1, .st .myFuncT),(1004, .maps 145 (.int .i64) .bool)]⟩
def Ct:Cut SN:=⟨[(1, .bp 1 0),(4, .vh 1004),(6, .vh 1006),(7, .vh 1007)],[(1, .st .myFuncT),(1004, .maps 145 (.int .i64) .bool),(1006, .vec 4 .bool),(1007, .que 171 (.ar 2 (.int .i64)))]⟩
def vK:Cut SN:=⟨[(1, .bp 1 0),(4, .vh 1004),(6, .vh 1006),(7, .vh 1007),(8,Dq1),(10, .dat (.sl (.ar 2 (.int .i64)))),(11,Dq1)],[(1, .st .myFuncT),(1004, .maps 145 (.int .i64) .bool),(1006, .vec 4 .bool),(1007, .que 171 (.ar 2 (.int .i64)))]⟩
def Pf:Cut SN:=⟨[(1, .bp 1 0),(4, .vh 1004)],[(1, .st .myFuncT),(1004, .maps 145 (.int .i64) .bool)]⟩
def Pg:Cut SN:=⟨[(4, .vh 1004),(6, .vh 1006)],[(1004, .maps 145 (.int .i64) .bool),(1006, .vec 4 .bool)]⟩
abbrev SA:Pt SN:= .dat (.sl .bool)
def Ph:Cut SN:=⟨[(2, .vh 2002),(3,SA)],[(2002, .maps 145 (.int .i64) .bool)]⟩
def Ue:aN vw:=shL [(0,Pf),(2,Pg),(4,Ct)] Ph
def Q0:Nat->Bool:=λk=>match k with|6000031=>true|_=>false
def Rg:Sig vw:={params:=[Cb],rcut:=Ph,rvars:=[.tmp 2, .tmp 3],keep:=[2002]}
noncomputable def iZ(v:Int×aC×(List (Option (List (Int×Bool))))×Unit):Option ((aC×(List (Option (List (Int×Bool))))×Unit)):=if decide (v.1<(↑v.2.2.1.length:Int))=true then if 0<=v.1/\v.1<(↑v.2.2.1.length:Int)then if v.1.toNat<v.2.2.1.length/\¬(24:Nat)=(1004:Nat)then iZ (i64.wrap (v.1+1),v.2.1,v.2.2.1.set v.1.toNat (some []),())else none else none else some (v.2) partial_fixpoint
abbrev Wu:=aC×(List (Option (List (Int×Bool))))×(List Bool)×(List (List Int))×Unit
noncomputable def gq(v:Int×(List (List Int))×Int×aC×(List (Option (List (Int×Bool))))×(List Bool)×(List (List Int))×Unit):Option ((Wu)):=let a:=v.2.2;let b:=a.2.2.2;if decide (a.1<(↑v.2.1.length:Int))=true then(if 0<=a.1 then v.2.1[a.1.toNat]?>>=λx1=>x1[aaq 0]?>>=λx2=>if decide (x2>=(↑a.2.1.code.length:Int))=true then if 0<=v.1/\v.1<(↑b.1.length:Int)then b.1[v.1.toNat]?>>=λx3=>some (v.1,v.2.1,a.1,a.2.1,a.2.2.1,b.1.set v.1.toNat true,b.2)else none else if 0<=a.1 then v.2.1[a.1.toNat]?>>=λx3=>if b.2.1.length+[x3].length<=4294967296 then some ((v.1,v.2.1,a.1,a.2.1,a.2.2.1,b.1,b.2.1++[x3],()))else none else none else none)>>=λx1=>gq (x1.1,x1.2.1,i64.wrap (x1.2.2.1+1),x1.2.2.2)else some (a.2) partial_fixpoint
noncomputable def eG(v:Wu):Option (((List (Option (List (Int×Bool))))×(List Bool)×Unit)):=let a:=v.2.2.2.1;let b:=v.2.1;let G2:=(v.2.2.1,ack (aaq 1) a,());if decide ((↑a.length:Int)>0)=true then if(0:Int)<=0/\0<(↑a.length:Int)then a[aaq 0]?>>=λx1=>x1[(0/1:Nat)]?>>=λx2=>if(0:Int)<=0/\0<(↑a.length:Int)then a[aaq 0]?>>=λx3=>x3[(1/1:Nat)]?>>=λx4=>if(1:Int)<=(↑a.length:Int)then if 0<=x2/\x2<(↑b.length:Int)then b[x2.toNat]?>>=λx5=>(x5:Option (List (Int×Bool)))>>=λx6=>b[x2.toNat]?>>=λx7=>(x7:Option (List (Int×Bool)))>>=λx8=>if(Mp.get Mp.ieq x4 x8).getD false=true then eG (v.1,b,G2)else if 0<=x2/\x2<(↑b.length:Int)then b[x2.toNat]?>>=λx9=>(x9:Option (List (Int×Bool)))>>=λx10=>b[x2.toNat]?>>=λx11=>(x11:Option (List (Int×Bool)))>>=λx12=>let G1:=(v.1,b.set x2.toNat (some (Mp.set Mp.ieq Mp.ilt x4 true x12)),G2);Ec (v.1,x2,x4,())>>=λx13=>if(!x13.1)=true then eG G1 else H7 (v.1,x2,x4,())>>=λx14=>gq (x2,x14.1,(0:Int),G1)>>=λx15=>eG x15 else none else none else none else none else none else some ((b,v.2.2.1,())) partial_fixpoint
noncomputable def HC(v:aC×Unit):Option ((List Bool)×(List (Option (List (Int×Bool))))×Unit):=if(↑v.1.code.length:Int)<=4294967296 then iZ ((0:Int),v.1,aak (↑v.1.code.length:Int).toNat none,())>>=λx1=>if(↑x1.1.code.length:Int)<=4294967296 then eG (x1.1,x1.2.1,aak (↑x1.1.code.length:Int).toNat false,[[(0:Int),(0:Int)]],())>>=λx2=>some ((x2.2.1,x2.1,()))else none else none
def nU:=kP yI (kP H8 k0)
def S8:Xc vw:={P:=prog,n:=92,call:=nU.1,pre:=Q0,sh:=Ue,joins:=λk=>match k with|17=>some (vK,[.norm])|_=>none,loops:=λk=>match k with|3=>some {cut:=KQ,alts:=[.exit 0],F:=iZ}|8=>some {cut:=Ct,alts:=[.exit 2],F:=eG}|16=>some {cut:=vK,alts:=[.exit 4],F:=gq}|_=>none}
theorem AA:gg S8 (aS (aO Tryz.f104) 0) ⟨KQ,[.exit 0],iZ⟩:=lp0 iZ.partial_correctness nU.2
theorem wG:gg S8 (aS (aS (aO Tryz.f104) 1) 0) ⟨vK,[.exit 4],gq⟩:=lp0 gq.partial_correctness nU.2
theorem AB:gg S8 (aS (aO Tryz.f104) 1) ⟨Ct,[.exit 2],eG⟩:=lp1 eG.partial_correctness nU.2 wG
theorem HD:aM prog 104 Rg HC:=fn2 S8 Tryz.func104 nU.2 AA AB
def GJ:Cut SN:=⟨[(2, .bp 2 0)],[(2, .st .itemT)]⟩
def Ug:aN vw:={rcut:=GJ}
def Rj:Sig vw:=sg [Dq4] GJ [.cell 2 65]
noncomputable def AC(v:Bool×Unit):Option (Item×Unit):=if v.1=true then some ((Item.mk 1 false (ZZ #[]),()))else some ((Item.mk 0 false (ZZ #[]),()))
def Y0:Xc vw:=mX prog 6 c0 Ug [] [] []
theorem sx:aM prog 106 Rj AC:=fn0 Y0 Tryz.func106 bT
def KR:Cut SN:=⟨[(1, .bp 1 0),(3,Dq1),(4,Dq1)],[(1, .st .myIntT)]⟩
def UH:aN vw:=shL [(0,MJ)] m9
def RL:Sig vw:=sg [m6] m9 [.tmp 2]
noncomputable def i4(v:Int×Int×bB×Unit):Option ((Int×Unit)):=if decide (v.2.1<v.2.2.1.bits)=true then i4 (i64.wrap (v.1 *2),i64.wrap (v.2.1+1),v.2.2)else some ((v.1,())) partial_fixpoint
noncomputable def AG(v:bB×Unit):Option (Int×Unit):=i4 ((1:Int),(0:Int),v)>>=λx1=>some (x1)
def W6:Xc vw:=mX prog 14 c0 UH [] [] [(3,⟨KR,[.exit 0],i4⟩)]
theorem AH:gg W6 (aS (aO Tryz.f140) 0) ⟨KR,[.exit 0],i4⟩:=lp0 i4.partial_correctness bT
theorem sE:aM prog 140 RL AG:=fn1 W6 Tryz.func140 bT AH
def Pi:Cut SN:=⟨[(2, .bp 2 0),(5,Dq1),(6,Dq1)],[(2, .st .myIntT)]⟩
def Cu:Cut SN:=⟨[(6,Dq1)],[]⟩
def Pj:Cut SN:=⟨[(5,Dq1),(6,Dq1),(24,Dq4)],[]⟩
def Uh:aN vw:={rcut:=bF}
def Rk:Sig vw:=sg [m6,Dq1] bF [.tmp 4]
noncomputable def kH(v:bB×Int×Unit):Option (Int×Unit):=AG (v.1,())>>=λx1=>if x1.1=0 then none else(if decide (v.2.1.tmod x1.1<0)=true then some ((x1.1,i64.wrap (v.2.1.tmod x1.1+x1.1),v.1,()))else some ((x1.1,v.2.1.tmod x1.1,v.1,())))>>=λx2=>((if x2.2.2.1.signed=true then some ((x2.1,x2.2.1,decide (x2.2.1>=i64.wrap (x2.1.tdiv (2:Int))),()))else some ((x2.1,x2.2.1,false,())))>>=λx3=>if x3.2.2.1=true then some ((i64.wrap (x3.2.1-x3.1),()))else some ((x3.2.1,())))>>=λx3=>some (x3)
def CD:=kP sE k0
def Y1:Xc vw:=mX prog 29 CD.1 Uh [(5,Pi,[.norm]),(7,Cu,[.norm])] [(5,Pj)] []
theorem jv:aM prog 107 Rk kH:=fn0 Y1 Tryz.func107 CD.2
def Ui:aN vw:={rcut:=vR}
def Rm:Sig vw:=sg [vz] vR [.cell 2 135]
noncomputable def AD(v:aF×Unit):Option (bB×Unit):=some ((bB.mk (v.1.base==3) v.1.bits,()))
def Y2:Xc vw:=mX prog 9 c0 Ui [] [] []
theorem sy:aM prog 108 Rm AD:=fn0 Y2 Tryz.func108 bT
def UL:aN vw:={rcut:=GL}
def RP:Sig vw:=sg [m6] GL [.tmp 2, .tmp 3]
noncomputable def Ek(v:bB×Unit):Option (Int×Int×Unit):=AG v>>=λx1=>if v.1.signed=true then some ((i64.wrap ((0:Int) -i64.wrap (x1.1.tdiv (2:Int))),i64.wrap (i64.wrap (x1.1.tdiv (2:Int)) -1),()))else some (((0:Int),i64.wrap (x1.1-1),()))
def CZ:=kP sE k0
def Zs:Xc vw:=mX prog 17 CZ.1 UL [] [] []
theorem yO:aM prog 144 RP Ek:=fn0 Zs Tryz.func144 CZ.2
def Um:aN vw:={rcut:=cE}
def Rq:Sig vw:=sg [m6,Dq1] cE [.tmp 4]
noncomputable def wH(v:bB×Int×Unit):Option (Bool×Unit):=Ek (v.1,())>>=λx1=>El (v.2.1,x1)>>=λx2=>some (x2)
def CG:=kP yO (kP yP k0)
def Y6:Xc vw:=mX prog 16 CG.1 Um [] [] []
theorem yK:aM prog 112 Rq wH:=fn0 Y6 Tryz.func112 CG.2
def Pz:Cut SN:=⟨[(1,Dq1),(2,Dq1),(8,Dq1),(9,Dq4)],[]⟩
def PA:Cut SN:=⟨[(1,Dq1),(2,Dq1),(8,Dq1),(16,Dq4)],[]⟩
def MC:Cut SN:=⟨[(1,Dq1),(2,Dq1),(23,Dq4)],[]⟩
def UI:aN vw:={rcut:=Cs}
def RM:Sig vw:=sg [Dq1,Dq1,Dq1] Cs [.tmp 6, .tmp 7]
noncomputable def Ej(v:Cd):Option (Int×Bool×Unit):=let G1:=(true,());(if(v.1==5)=true then some (v.2.1,v.2.2.1,v.1,G1)else if(v.1==10)=true then some (v.2.1,v.2.2.1,v.1,G1)else some ((v.2.1,v.2.2.1,v.1,v.1==13,())))>>=λx1=>let a:=x1.2.2.1;if x1.2.2.2.1=true then some ((i64.wrap (x1.1+x1.2.1),G1))else(if(a==6)=true then some (x1.1,x1.2.1,a,G1)else if(a==11)=true then some (x1.1,x1.2.1,a,G1)else some ((x1.1,x1.2.1,a,a==14,())))>>=λx2=>if x2.2.2.2.1=true then some ((i64.wrap (x2.1-x2.2.1),G1))else(if(x2.2.2.1==7)=true then some (x2.1,x2.2.1,G1)else some ((x2.1,x2.2.1,x2.2.2.1==12,())))>>=λx3=>if x3.2.2.1=true then some ((i64.wrap (x3.1 *x3.2.1),G1))else if(x3.2.1==0)=true then some (((0:Int),false,()))else if x3.2.1=0 then none else some ((i64.wrap (x3.1.tdiv x3.2.1),G1))
def Zq:Xc vw:=mX prog 34 c0 UI [(5,Pz,[.norm]),(9,PA,[.norm]),(12,MC,[.norm])] [] []
theorem yN:aM prog 141 RM Ej:=fn0 Zq Tryz.func141 bT
def KY:Cut SN:=⟨[(1,Dq1),(2, .bp 2 0),(5, .vh 1005),(6,Dq1)],[(2, .st .myIntT),(1005,Oq7)]⟩
def PP:Cut SN:=⟨[(1,Dq1),(2, .bp 2 0)],[(2, .st .myIntT)]⟩
def PO:Cut SN:=⟨[(5, .vh 1005)],[(1005,Oq7)]⟩
abbrev L9:Pt SN:= .dat (.sl (.int .i64))
def PQ:Cut SN:=⟨[(4,L9)],[]⟩
def UZ:aN vw:=shL [(0,PO)] PQ
def R3:Sig vw:=sg [m6,Dq1] PQ [.tmp 4]
noncomputable def i7(v:Int×Int×bB×(List Int)×Unit):Option (((List Int)×Unit)):=if decide (v.2.1<v.2.2.1.bits)=true then if v.2.2.2.1.length+[v.1.tmod (2:Int)].length<=4294967296 then i7 (i64.wrap (v.1.tdiv (2:Int)),i64.wrap (v.2.1+1),v.2.2.1,v.2.2.2.1++[v.1.tmod (2:Int)],())else none else some (v.2.2.2) partial_fixpoint
noncomputable def Ep(v:bB×Int×Unit):Option ((List Int)×Unit):=(if decide (v.2.1<0)=true then AG (v.1,())>>=λx1=>some ((i64.wrap (v.2.1+x1.1),v.1,()))else some ((v.2.1,v.1,())))>>=λx1=>i7 (x1.1,(0:Int),x1.2.1,[],())>>=λx2=>some (x2)
def v8:=kP sE k0
def W_:Xc vw:=mX prog 27 v8.1 UZ [(3,PP,[.norm])] [] [(5,⟨KY,[.exit 0],i7⟩)]
theorem AO:gg W_ (aS (aO Tryz.f160) 0) ⟨KY,[.exit 0],i7⟩:=lp0 i7.partial_correctness v8.2
theorem Is:aM prog 160 R3 Ep:=fn1 W_ Tryz.func160 v8.2 AO
def KZ:Cut SN:=⟨[(1,L9),(2, .bp 2 0),(5,Dq1),(6,Dq1)],[(2, .st .myIntT)]⟩
def PR:Cut SN:=⟨[(2, .bp 2 0),(5,Dq1)],[(2, .st .myIntT)]⟩
def U0:aN vw:=shL [(0,PR)] bF
def R4:Sig vw:=sg [m6,L9] bF [.tmp 4]
noncomputable def i8(v:(List Int)×Int×Int×bB×Unit):Option ((Int×bB×Unit)):=if decide (v.2.2.1>=0)=true then if 0<=v.2.2.1 then v.1[v.2.2.1.toNat]?>>=λx1=>i8 (v.1,i64.wrap (i64.wrap ((2:Int) *v.2.1)+x1),i64.wrap (v.2.2.1-1),v.2.2.2)else none else some (v.2.1,v.2.2.2) partial_fixpoint
noncomputable def Ns(v:bB×(List Int)×Unit):Option (Int×Unit):=i8 (v.2.1,(0:Int),i64.wrap ((↑v.2.1.length:Int) -1),v.1,())>>=λx1=>kH (x1.2.1,x1.1,())>>=λx2=>some (x2)
def v_:=kP jv k0
def Xa:Xc vw:=mX prog 24 v_.1 U0 [] [] [(3,⟨KZ,[.exit 0],i8⟩)]
theorem AP:gg Xa (aS (aO Tryz.f161) 0) ⟨KZ,[.exit 0],i8⟩:=lp0 i8.partial_correctness v_.2
theorem It:aM prog 161 R4 Ns:=fn1 Xa Tryz.func161 v_.2 AP
def KS:Cut SN:=⟨[(0,Dq1),(5, .bp 5 0),(9,L9),(10,L9),(11, .vh 1011),(12,Dq1)],[(5, .st .myIntT),(1011,Oq7)]⟩
def MD:Cut SN:=⟨[(0,Dq1),(5, .bp 5 0),(9,L9),(10,L9),(11, .vh 1011),(12,Dq1),(13,Dq1)],[(5, .st .myIntT),(1011,Oq7)]⟩
def PB:Cut SN:=⟨[(5, .bp 5 0),(11, .vh 1011)],[(5, .st .myIntT),(1011,Oq7)]⟩
def UJ:aN vw:=shL [(0,PB)] z6
def RN:Sig vw:=sg [Dq1,m6,Dq1,Dq1] z6 [.tmp 8]
noncomputable def i5(v:Int×(List Int)×(List Int)×Int×bB×(List Int)×Unit):Option ((bB×(List Int)×Unit)):=let a:=v.2.2.2;if decide (a.1<(↑v.2.1.length:Int))=true then if 0<=a.1 then v.2.1[a.1.toNat]?>>=λx1=>if 0<=a.1 then v.2.2.1[a.1.toNat]?>>=λx2=>(if(v.1==15)=true then some ((v.1,v.2.1,v.2.2.1,a.1,i64.wrap ((i64.wrap (x1+x2)).tdiv (2:Int)),a.2))else if(v.1==16)=true then some ((v.1,v.2.1,v.2.2.1,a.1,i64.wrap ((i64.wrap (i64.wrap (x1+x2)+1)).tdiv (2:Int)),a.2))else some ((v.1,v.2.1,v.2.2.1,a.1,(i64.wrap (x1+x2)).tmod (2:Int),a.2)))>>=λx3=>let b:=x3.2.2.2.2;if b.2.2.1.length+[b.1].length<=4294967296 then i5 (x3.1,x3.2.1,x3.2.2.1,i64.wrap (x3.2.2.2.1+1),b.2.1,b.2.2.1++[b.1],())else none else none else none else some (a.2) partial_fixpoint
noncomputable def H9(v:Mf):Option (Int×Unit):=Ep (v.2.1,v.2.2.1,())>>=λx1=>Ep (v.2.1,v.2.2.2)>>=λx2=>i5 (v.1,x1.1,x2.1,(0:Int),v.2.1,[],())>>=λx3=>Ns x3>>=λx4=>some (x4)
def vY:=kP Is (kP It k0)
def W7:Xc vw:=mX prog 54 vY.1 UJ [(13,MD,[.norm])] [] [(4,⟨KS,[.exit 0],i5⟩)]
theorem AJ:gg W7 (aS (aO Tryz.f142) 0) ⟨KS,[.exit 0],i5⟩:=lp0 i5.partial_correctness vY.2
theorem H_:aM prog 142 RN H9:=fn1 W7 Tryz.func142 vY.2 AJ
def UK:aN vw:={rcut:=bF}
def RO:Sig vw:=sg [m6,Dq1] bF [.tmp 4]
noncomputable def Ia(v:bB×Int×Unit):Option (Int×Unit):=Ek (v.1,())>>=λx1=>if decide (v.2.1<x1.1)=true then some ((x1.1,()))else if decide (v.2.1>x1.2.1)=true then some (x1.2)else some (v.2)
def CY:=kP yO k0
def Zr:Xc vw:=mX prog 21 CY.1 UK [] [] []
theorem Ib:aM prog 143 RO Ia:=fn0 Zr Tryz.func143 CY.2
def Mw:Cut SN:=⟨[(0,Dq1),(2,Dq1),(3,Dq1),(5, .bp 5 0),(10,Dq1),(28,Dq1),(29,Dq4)],[(5, .st .myIntT)]⟩
def Mx:Cut SN:=⟨[(0,Dq1),(2,Dq1),(3,Dq1),(5, .bp 5 0),(10,Dq1),(36,Dq4)],[(5, .st .myIntT)]⟩
def Uk:aN vw:={rcut:=nS}
def Ro:Sig vw:=sg [Dq1,m6,Dq1,Dq1] nS [.tmp 8, .tmp 9]
noncomputable def Ed(v:Mf):Option (Int×Int×Unit):=let G2:=((0:Int),());if decide (v.1>=15)=true then H9 v>>=λx1=>some (x1.1,G2)else Ej (v.1,v.2.2)>>=λx1=>let G1:=(v.1,v.2.2.1,v.2.2.2.1,x1.1,v.1,true,v.2.1,());if(!x1.2.1)=true then some (((0:Int),(2:Int),()))else(if(v.1==10)=true then some (G1)else if(v.1==11)=true then some (G1)else some ((v.1,v.2.2.1,v.2.2.2.1,x1.1,v.1,v.1==12,v.2.1,())))>>=λx2=>let a:=x2.2.2.2;if a.2.2.1=true then kH (a.2.2.2.1,a.1,())>>=λx3=>some (x3.1,G2)else(if(a.2.1==13)=true then some (x2.1,x2.2.1,x2.2.2.1,a.1,true,a.2.2.2)else some (x2.1,x2.2.1,x2.2.2.1,a.1,a.2.1==14,a.2.2.2))>>=λx3=>let b:=x3.2.2.2;let G3:=(b.2.2.1,b.1,());if b.2.1=true then Ia G3>>=λx4=>some (x4.1,G2)else wH G3>>=λx4=>if(!x4.1)=true then some (((0:Int),(1:Int),()))else if(x3.1==9)=true then some ((i64.wrap (x3.2.1-i64.wrap (b.1 *x3.2.2.1)),G2))else some (b.1,G2)
def CF:=kP jv (kP yK (kP yN (kP H_ (kP Ib k0))))
def Y4:Xc vw:=mX prog 54 CF.1 Uk [(10,Mw,[.norm]),(13,Mx,[.norm])] [] []
theorem yJ:aM prog 110 Ro Ed:=fn0 Y4 Tryz.func110 CF.2
def Pk:Cut SN:=⟨[(0,Dq1),(2,Dq1),(3,Dq1),(5, .bp 5 0),(9,Dq1),(10,Dq1),(21,Dq4)],[(5, .st .myIntT)]⟩
def Pl:Cut SN:=⟨[(0,Dq1),(2,Dq1),(3,Dq1),(5, .bp 5 0),(9,Dq1),(29,Dq4)],[(5, .st .myIntT)]⟩
def Uj:aN vw:={rcut:=z6}
def Rn:Sig vw:=sg [Dq1,m6,Dq1,Dq1] z6 [.tmp 8]
noncomputable def HE(v:Mf):Option (Int×Unit):=Ed v>>=λx1=>(if(x1.2.1==2)=true then some ((v.1,v.2.2.1,v.2.2.2.1,x1.1,x1.2.1,v.1==9,v.2.1,()))else some ((v.1,v.2.2.1,v.2.2.2.1,x1.1,x1.2.1,false,v.2.1,())))>>=λx2=>let a:=x2.2.2;if a.2.2.2.1=true then some ((x2.2.1,()))else(if(a.2.2.1==1)=true then some (x2.1,x2.2.1,a.1,a.2.1,x2.1 !=9,a.2.2.2.2)else some (x2.1,x2.2.1,a.1,a.2.1,false,a.2.2.2.2))>>=λx3=>if x3.2.2.2.2.1=true then Ej (x3.1,x3.2.1,x3.2.2.1,())>>=λx4=>kH (x3.2.2.2.2.2.1,x4.1,())>>=λx5=>some (x5)else some ((x3.2.2.2.1,()))
def CE:=kP jv (kP yJ (kP yN k0))
def Y3:Xc vw:=mX prog 47 CE.1 Uj [] [(2,Pk),(4,Pl)] []
theorem HF:aM prog 109 Rn HE:=fn0 Y3 Tryz.func109 CE.2
def Ul:aN vw:={rcut:=iH}
def Rp:Sig vw:=sg [Dq1,Dq1,Dq1] iH [.tmp 6]
noncomputable def HG(v:Cd):Option (Bool×Unit):=let a:=v.2.2.1;if(v.1==18)=true then some ((v.2.1==a,()))else if(v.1==19)=true then some ((v.2.1 !=a,()))else if(v.1==20)=true then some ((decide (v.2.1<a),()))else if(v.1==21)=true then some ((decide (v.2.1<=a),()))else if(v.1==22)=true then some ((decide (v.2.1>a),()))else some ((decide (v.2.1>=a),()))
def Y5:Xc vw:=mX prog 36 c0 Ul [] [] []
theorem HH:aM prog 111 Rp HG:=fn0 Y5 Tryz.func111 bT
def GP:Cut SN:=⟨[(0,Dq3),(1,Dq5),(5,Dq1)],[]⟩
def X1:aN vw:=shL [(0,dW)] bF
def Si:Sig vw:=sg [Dq3,Dq5] bF [.tmp 4]
abbrev Wz:=(List aC)×ByteArray×Int×Unit
noncomputable def ma(v:Wz):Option (((Int×Unit)⊕(Unit))):=if decide (v.2.2.1<(↑v.1.length:Int))=true then if 0<=v.2.2.1 then v.1[v.2.2.1.toNat]?>>=λx1=>if(x1.name0.toList==v.2.1.toList)=true then some (aaG v.2.2)else ma (v.1,v.2.1,i64.wrap (v.2.2.1+1),())else none else some (aa8 ()) partial_fixpoint
noncomputable def NG(v:(List aC)×ByteArray×Unit):Option (Int×Unit):=ma (v.1,v.2.1,(0:Int),())>>=λx1=>match x1 with| .inl y1=>some y1| .inr y1=>some (((-1:Int),()))
def x36:Xc vw:=mX prog 20 c0 X1 [] [] [(2,⟨GP,[.ret, .exit 0],ma⟩)]
theorem Ew:gg x36 (aS (aO Tryz.f36) 0) ⟨GP,[.ret, .exit 0],ma⟩:=lp0 ma.partial_correctness bT
theorem oZ:aM prog 36 Si NG:=fn1 x36 Tryz.func36 bT Ew
def GQ:Cut SN:=⟨[(0,Dq3),(3,Dq1),(4,Dq1)],[]⟩
def Ye:aN vw:=shL [(0,MJ)] m9
def VK:Sig vw:=sg [Dq3] m9 [.tmp 2]
noncomputable def mh(v:SB):Option ((Int×Unit)):=if decide (v.2.2.1<(↑v.1.length:Int))=true then if 0<=v.2.2.1 then v.1[v.2.2.1.toNat]?>>=λx1=>mh (v.1,i64.wrap (v.2.1+(↑x1.code.length:Int)),i64.wrap (v.2.2.1+1),())else none else some ((v.2.1,())) partial_fixpoint
noncomputable def SU(v:(List aC)×Unit):Option (Int×Unit):=mh (v.1,(0:Int),(0:Int),())>>=λx1=>some (x1)
def x54:Xc vw:=mX prog 20 c0 Ye [] [] [(3,⟨GQ,[.exit 0],mh⟩)]
theorem EJ:gg x54 (aS (aO Tryz.f54) 0) ⟨GQ,[.exit 0],mh⟩:=lp0 mh.partial_correctness bT
theorem NQ:aM prog 54 VK SU:=fn1 x54 Tryz.func54 bT EJ
def Yg:aN vw:=shL [(0,dW)] bF
def VM:Sig vw:=sg [Dq3,Dq5] bF [.tmp 4]
noncomputable def mi(v:Wz):Option (((Int×Unit)⊕(Unit))):=if decide (v.2.2.1<(↑v.1.length:Int))=true then if 0<=v.2.2.1 then v.1[v.2.2.1.toNat]?>>=λx1=>if(x1.name0.toList==v.2.1.toList)=true then some (aaG v.2.2)else mi (v.1,v.2.1,i64.wrap (v.2.2.1+1),())else none else some (aa8 ()) partial_fixpoint
noncomputable def QO(v:(List aC)×ByteArray×Unit):Option (Int×Unit):=mi (v.1,v.2.1,(0:Int),())>>=λx1=>match x1 with| .inl y1=>some y1| .inr y1=>some (((-1:Int),()))
def x56:Xc vw:=mX prog 20 c0 Yg [] [] [(2,⟨GP,[.ret, .exit 0],mi⟩)]
theorem EL:gg x56 (aS (aO Tryz.f56) 0) ⟨GP,[.ret, .exit 0],mi⟩:=lp0 mi.partial_correctness bT
theorem EK:aM prog 56 VM QO:=fn1 x56 Tryz.func56 bT EL
def Ts:Cut SN:=⟨[(0,Dq3),(5, .bp 5 0),(9,Dq4),(67,Dq4)],[(5, .st .myCodeT)]⟩
def Yj:aN vw:={rcut:=iH}
def VP:Sig vw:=sg [Dq3,Cb,lV] iH [.tmp 6]
noncomputable def SV(v:Wy):Option (Bool×Unit):=let f:=v.2;let c:=f.2;let d:=c.1;let e:=v.1;let G3:=(false,());B9 (d.op,(0:Int),(19:Int),())>>=λx1=>if(!x1.1)=true then some (G3)else Hx (d.op,())>>=λx2=>let g:=x2.2.2.1;let h:=x2.2.2.2.1;let i:=x2.1;let G2:=(e,g,true,c);let G1:=(e,g,false,c);(if(!i)=true then if(d.a !=0)=true then some (G2)else if(!x2.2.1)=true then if(d.b !=0)=true then some (G2)else if(!g)=true then if(!(Mp.ieq d.type0.base (aF.mk (0:Int) (0:Int) (ZZ #[]) false false).base&&(Mp.ieq d.type0.bits (aF.mk (0:Int) (0:Int) (ZZ #[]) false false).bits&&(Mp.seq d.type0.name0 (aF.mk (0:Int) (0:Int) (ZZ #[]) false false).name0&&(Mp.beq d.type0.opt (aF.mk (0:Int) (0:Int) (ZZ #[]) false false).opt&&Mp.beq d.type0.err (aF.mk (0:Int) (0:Int) (ZZ #[]) false false).err)))))=true then some (G2)else if(!h)=true then if(!d.name0.toList==(ZZ #[]).toList)=true then some (G2)else if i=true then iz f>>=λx3=>some (e,g,!x3.1,c)else some (G1)else if i=true then iz f>>=λx3=>some (e,g,!x3.1,c)else some (G1)else if(!h)=true then if(!d.name0.toList==(ZZ #[]).toList)=true then some (G2)else if i=true then iz f>>=λx3=>some (e,g,!x3.1,c)else some (G1)else if i=true then iz f>>=λx3=>some (e,g,!x3.1,c)else some (G1)else if(!g)=true then if(!(Mp.ieq d.type0.base (aF.mk (0:Int) (0:Int) (ZZ #[]) false false).base&&(Mp.ieq d.type0.bits (aF.mk (0:Int) (0:Int) (ZZ #[]) false false).bits&&(Mp.seq d.type0.name0 (aF.mk (0:Int) (0:Int) (ZZ #[]) false false).name0&&(Mp.beq d.type0.opt (aF.mk (0:Int) (0:Int) (ZZ #[]) false false).opt&&Mp.beq d.type0.err (aF.mk (0:Int) (0:Int) (ZZ #[]) false false).err)))))=true then some (G2)else if(!h)=true then if(!d.name0.toList==(ZZ #[]).toList)=true then some (G2)else if i=true then iz f>>=λx3=>some (e,g,!x3.1,c)else some (G1)else if i=true then iz f>>=λx3=>some (e,g,!x3.1,c)else some (G1)else if(!h)=true then if(!d.name0.toList==(ZZ #[]).toList)=true then some (G2)else if i=true then iz f>>=λx3=>some (e,g,!x3.1,c)else some (G1)else if i=true then iz f>>=λx3=>some (e,g,!x3.1,c)else some (G1)else if(!x2.2.1)=true then if(d.b !=0)=true then some (G2)else if(!g)=true then if(!(Mp.ieq d.type0.base (aF.mk (0:Int) (0:Int) (ZZ #[]) false false).base&&(Mp.ieq d.type0.bits (aF.mk (0:Int) (0:Int) (ZZ #[]) false false).bits&&(Mp.seq d.type0.name0 (aF.mk (0:Int) (0:Int) (ZZ #[]) false false).name0&&(Mp.beq d.type0.opt (aF.mk (0:Int) (0:Int) (ZZ #[]) false false).opt&&Mp.beq d.type0.err (aF.mk (0:Int) (0:Int) (ZZ #[]) false false).err)))))=true then some (G2)else if(!h)=true then if(!d.name0.toList==(ZZ #[]).toList)=true then some (G2)else if i=true then iz f>>=λx3=>some (e,g,!x3.1,c)else some (G1)else if i=true then iz f>>=λx3=>some (e,g,!x3.1,c)else some (G1)else if(!h)=true then if(!d.name0.toList==(ZZ #[]).toList)=true then some (G2)else if i=true then iz f>>=λx3=>some (e,g,!x3.1,c)else some (G1)else if i=true then iz f>>=λx3=>some (e,g,!x3.1,c)else some (G1)else if(!g)=true then if(!(Mp.ieq d.type0.base (aF.mk (0:Int) (0:Int) (ZZ #[]) false false).base&&(Mp.ieq d.type0.bits (aF.mk (0:Int) (0:Int) (ZZ #[]) false false).bits&&(Mp.seq d.type0.name0 (aF.mk (0:Int) (0:Int) (ZZ #[]) false false).name0&&(Mp.beq d.type0.opt (aF.mk (0:Int) (0:Int) (ZZ #[]) false false).opt&&Mp.beq d.type0.err (aF.mk (0:Int) (0:Int) (ZZ #[]) false false).err)))))=true then some (G2)else if(!h)=true then if(!d.name0.toList==(ZZ #[]).toList)=true then some (G2)else if i=true then iz f>>=λx3=>some (e,g,!x3.1,c)else some (G1)else if i=true then iz f>>=λx3=>some (e,g,!x3.1,c)else some (G1)else if(!h)=true then if(!d.name0.toList==(ZZ #[]).toList)=true then some (G2)else if i=true then iz f>>=λx3=>some (e,g,!x3.1,c)else some (G1)else if i=true then iz f>>=λx3=>some (e,g,!x3.1,c)else some (G1))>>=λx3=>let j:=x3.2.2.2.1;if x3.2.2.1=true then some (G3)else if(j.op==0)=true then(O1 (j.type0,())>>=λx4=>if x4.1=true then if(!j.type0.opt)=true then some ((!j.type0.err,()))else some (G3)else some (G3))>>=λx4=>some (x4)else if x3.2.1=true then HA (j.type0,())>>=λx4=>some (x4)else if(j.op==18)=true then O0 (j.name0,())>>=λx4=>some (x4)else if(j.op==16)=true then QO (x3.1,j.name0,())>>=λx4=>(if decide (x4.1>=0)=true then if 0<=x4.1 then x3.1[x4.1.toNat]?>>=λx5=>some ((j.b==x5.params,()))else none else some (G3))>>=λx5=>some (x5)else some ((true,()))
def Lj:=kP wM (kP EK (kP sI (kP wN (kP Hy (kP Hz (kP HB k0))))))
def x59:Xc vw:=mX prog 119 Lj.1 Yj [] [(4,Ts),(7,iH),(14,iH)] []
theorem NR:aM prog 59 VP SV:=fn0 x59 Tryz.func59 Lj.2
def MH:Cut SN:=⟨[(0,Dq3),(3,Dq1)],[]⟩
def MI:Cut SN:=⟨[(0,Dq3),(4,Dq1)],[]⟩
def K5:Cut SN:=⟨[(0,Dq3),(4,Dq1),(5, .bp 5 0),(6,Dq1)],[(5, .st .myFuncT)]⟩
def Tm:Cut SN:=⟨[(0,Dq3),(14,Dq4)],[]⟩
def P0:Cut SN:=⟨[(0,Dq3),(4,Dq1),(5, .bp 5 0),(68,Dq4)],[(5, .st .myFuncT)]⟩
def Tl:Cut SN:=⟨[(0,Dq3)],[]⟩
def X5:aN vw:=shL [(0,Tl),(2,dW),(4,MI)] m9
def VB:Sig vw:=sg [Dq3] m9 [.tmp 2]
noncomputable def mc(v:(List aC)×Int×Unit):Option (((Int×Unit)⊕((List aC)×Unit))):=if decide (v.2.1<(↑v.1.length:Int))=true then if 0<=v.2.1 then v.1[v.2.1.toNat]?>>=λx1=>if decide (x1.places>200)=true then some (aaG ((3:Int),()))else mc (v.1,i64.wrap (v.2.1+1),())else none else some (aa8 (v.1,())) partial_fixpoint
noncomputable def jb(v:(List aC)×Int×Int×aC×Unit):Option (((Int×Unit)⊕((List aC)×Int×Unit))):=let a:=v.2.2;if decide (a.1<(↑a.2.1.code.length:Int))=true then if 0<=a.1 then a.2.1.code[a.1.toNat]?>>=λx1=>SV (v.1,a.2.1,x1,())>>=λx2=>if(!x2.1)=true then some (aaG ((1:Int),()))else jb (v.1,v.2.1,i64.wrap (a.1+1),a.2)else none else some (aa8 (v.1,v.2.1,())) partial_fixpoint
noncomputable def md(v:(List aC)×Int×Unit):Option (((Int×Unit)⊕(Unit))):=if decide (v.2.1<(↑v.1.length:Int))=true then if 0<=v.2.1 then v.1[v.2.1.toNat]?>>=λx1=>let G1:=(v.1,v.2.1,true,x1,());(O0 (x1.name0,())>>=λx2=>if(!x2.1)=true then some (G1)else QO (v.1,x1.name0,())>>=λx3=>if decide (x3.1<v.2.1)=true then some (G1)else B9 (x1.params,(0:Int),x1.places,())>>=λx4=>if(!x4.1)=true then some (G1)else O1 (x1.type0,())>>=λx5=>if(!x5.1)=true then some (G1)else some ((v.1,v.2.1,decide ((↑x1.code.length:Int)<1),x1,())))>>=λx2=>if x2.2.2.1=true then some (aaG ((1:Int),()))else jb (x2.1,x2.2.1,(0:Int),x2.2.2.2)>>=λx3=>match x3 with| .inl y3=>some (aaG y3)| .inr y3=>md (y3.1,i64.wrap (y3.2.1+1),())else none else some (aa8 ()) partial_fixpoint
noncomputable def QM(v:(List aC)×Unit):Option (Int×Unit):=(if decide ((↑v.1.length:Int)>48)=true then some ((v.1,true,()))else SU v>>=λx1=>some ((v.1,decide (x1.1>2000),())))>>=λx1=>if x1.2.1=true then some (((3:Int),()))else mc (x1.1,(0:Int),())>>=λx2=>match x2 with| .inl y2=>some y2| .inr y2=>md (y2.1,(0:Int),())>>=λx3=>match x3 with| .inl y3=>some y3| .inr y3=>some (((0:Int),()))
def tF:=kP NQ (kP wM (kP EK (kP sI (kP wN (kP NR k0)))))
def x41:Xc vw:=mX prog 85 tF.1 X5 [] [(1,Tm),(12,P0)] [(4,⟨MH,[.ret, .exit 0],mc⟩),(9,⟨MI,[.ret, .exit 2],md⟩),(15,⟨K5,[.ret, .exit 4],jb⟩)]
theorem EB:gg x41 (aS (aO Tryz.f41) 0) ⟨MH,[.ret, .exit 0],mc⟩:=lp0 mc.partial_correctness tF.2
theorem A4:gg x41 (aS (aS (aO Tryz.f41) 1) 0) ⟨K5,[.ret, .exit 4],jb⟩:=lp0 jb.partial_correctness tF.2
theorem EC:gg x41 (aS (aO Tryz.f41) 1) ⟨MI,[.ret, .exit 2],md⟩:=lp1 md.partial_correctness tF.2 A4
theorem EA:aM prog 41 VB QM:=fn2 x41 Tryz.func41 tF.2 EB EC
def Qa:Cut SN:=⟨[(1, .bp 1 0),(3, .vh 1003),(4,SA),(5,Dq1)],[(1, .st .myFuncT),(1003, .maps 145 (.int .i64) .bool)]⟩
def MK:Cut SN:=⟨[(1, .bp 1 0),(3, .vh 1003),(4,SA),(5,Dq1),(6,Dq4),(36, .bp 36 0)],[(1, .st .myFuncT),(1003, .maps 145 (.int .i64) .bool),(36, .miter 50035 (.int .i64) .bool)]⟩
def Qb:Cut SN:=⟨[(1, .bp 1 0),(3, .vh 1003),(4,SA),(5,Dq1),(6,Dq4)],[(1, .st .myFuncT),(1003, .maps 145 (.int .i64) .bool)]⟩
def Yk:aN vw:=shL [(0,dW),(2,Qb)] m9
def VQ:Sig vw:=sg [Cb] m9 [.tmp 2]
noncomputable def mj(v:(List Bool)×Int×Bool×aC×(List (Option (List (Int×Bool))))×(List (Int×Bool))×(List (Int×Bool))×Unit):Option (((List Bool)×Int×Bool×aC×(List (Option (List (Int×Bool))))×Unit)):=let a:=v.2.2.2;if a.2.2.2.1.isEmpty=true then some ((v.1,v.2.1,v.2.2.1,a.1,a.2.1,()))else acB (λq1=>(if v.2.2.1=true then some ((v.1,v.2.1,true,a.1,a.2.1,a.2.2.1,q1.2,()))else Ec (a.1,v.2.1,q1.1.1,())>>=λx2=>some ((v.1,v.2.1,!x2.1,a.1,a.2.1,a.2.2.1,q1.2,())))>>=λx2=>mj x2) (Tx.steps a.2.2.2.1)>>=same partial_fixpoint
noncomputable def jc(v:(List Bool)×Int×aC×(List (Option (List (Int×Bool))))×Unit):Option (((Int×Unit)⊕(Unit))):=let a:=v.2.1;if decide (a<(↑v.2.2.1.code.length:Int))=true then(if 0<=a/\a<(↑v.2.2.2.1.length:Int)then v.2.2.2.1[a.toNat]?>>=λx1=>(x1:Option (List (Int×Bool)))>>=λx2=>v.2.2.2.1[a.toNat]?>>=λx3=>(x3:Option (List (Int×Bool)))>>=λx4=>if decide ((↑x4.length:Int)>1)=true then some (v.1,a,true,v.2.2)else if 0<=a then v.1[a.toNat]?>>=λx5=>some (v.1,a,x5,v.2.2)else none else none)>>=λx1=>let b:=x1.2;let c:=b.2.2.2.1;if 0<=b.1/\b.1<(↑c.length:Int)then c[b.1.toNat]?>>=λx2=>(x2:Option (List (Int×Bool)))>>=λx3=>c[b.1.toNat]?>>=λx4=>(x4:Option (List (Int×Bool)))>>=λx5=>mj (x1.1,b.1,b.2.1,b.2.2.1,c.set b.1.toNat none,x5,x5,())>>=λx6=>if x6.2.2.1=true then some (aaG (x6.2.1,()))else jc (x6.1,i64.wrap (x6.2.1+1),x6.2.2.2)else none else some (aa8 ()) partial_fixpoint
noncomputable def SW(v:aC×Unit):Option (Int×Unit):=HC v>>=λx1=>jc (x1.1,(0:Int),v.1,x1.2)>>=λx2=>match x2 with| .inl y2=>some y2| .inr y2=>some (((-1:Int),()))
def x_:=kO HD (kP yI k0)
def x60:Xc vw:=mX prog 51 x_.1 Yk [] [(5,Qb),(9,MK)] [(3,⟨Qa,[.ret, .exit 0],jc⟩),(7,⟨MK,[.exit 2],mj⟩)]
theorem EN:gg x60 (aS (aS (aO Tryz.f60) 0) 0) ⟨MK,[.exit 2],mj⟩:=lp0 mj.partial_correctness x_.2
theorem EM:gg x60 (aS (aO Tryz.f60) 0) ⟨Qa,[.ret, .exit 0],jc⟩:=lp1 jc.partial_correctness x_.2 EN
theorem NS:aM prog 60 VQ SW:=fn1 x60 Tryz.func60 x_.2 EM
def P1:Cut SN:=⟨[(0,Dq3),(6,Dq1)],[]⟩
def X6:aN vw:=shL [(0,dW)] SD
def VC:Sig vw:=sg [Dq3] SD [.tmp 2, .tmp 3, .tmp 4]
noncomputable def kQ(v:(List aC)×Int×Unit):Option (((Cd)⊕(Unit))):=if decide (v.2.1<(↑v.1.length:Int))=true then if 0<=v.2.1 then v.1[v.2.1.toNat]?>>=λx1=>SW (x1,())>>=λx2=>if decide (x2.1>=0)=true then some (aaG (v.2.1,x2.1,(7:Int),()))else kQ (v.1,i64.wrap (v.2.1+1),())else none else some (aa8 ()) partial_fixpoint
noncomputable def SM(v:(List aC)×Unit):Option (Cd):=QM v>>=λx1=>if(x1.1 !=0)=true then some (((0:Int),(0:Int),x1))else kQ (v.1,(0:Int),())>>=λx2=>match x2 with| .inl y2=>some y2| .inr y2=>some (((0:Int),(0:Int),(0:Int),()))
def Dc:=kP EA (kP NS k0)
def x42:Xc vw:=mX prog 28 Dc.1 X6 [] [] [(5,⟨P1,[.ret, .exit 0],kQ⟩)]
theorem ED:gg x42 (aS (aO Tryz.f42) 0) ⟨P1,[.ret, .exit 0],kQ⟩:=lp0 kQ.partial_correctness Dc.2
theorem NI:aM prog 42 VC SM:=fn1 x42 Tryz.func42 Dc.2 ED
def P2:Cut SN:=⟨[(0,vu),(3,Dq1)],[]⟩
def Tn:Cut SN:=⟨[(0,vu),(3,Dq1),(23,Dq4)],[]⟩
def X7:aN vw:=shL [(0,dW)] m9
def VD:Sig vw:=sg [vu] m9 [.tmp 2]
noncomputable def me(v:(List aE)×Int×Unit):Option (((Int×Unit)⊕(Unit))):=let a:=v.2.1;if decide (a<(↑v.1.length:Int))=true then(if 0<=a then v.1[a.toNat]?>>=λx1=>if decide (x1.n<(-2147483648:Int))=true then some ((v.1,a,true,()))else if 0<=a then v.1[a.toNat]?>>=λx2=>some ((v.1,a,decide (x2.n>2147483648),()))else none else none)>>=λx1=>if x1.2.2.1=true then some (aaG ((1:Int),()))else me (x1.1,i64.wrap (x1.2.1+1),())else some (aa8 ()) partial_fixpoint
noncomputable def SO(v:(List aE)×Unit):Option (Int×Unit):=me (v.1,(0:Int),())>>=λx1=>match x1 with| .inl y1=>some y1| .inr y1=>some (((0:Int),()))
def x43:Xc vw:=mX prog 24 c0 X7 [] [(4,Tn)] [(2,⟨P2,[.ret, .exit 0],me⟩)]
theorem EE:gg x43 (aS (aO Tryz.f43) 0) ⟨P2,[.ret, .exit 0],me⟩:=lp0 me.partial_correctness bT
theorem NJ:aM prog 43 VD SO:=fn1 x43 Tryz.func43 bT EE
def XW:aN vw:={rcut:=Cu}
def Vu:Sig vw:=sg [Dq3,Dq5,vu] Cu [.tmp 6]
noncomputable def SJ(v:Ww):Option (Int×Unit):=QM (v.1,())>>=λx1=>if(x1.1 !=0)=true then some (x1)else SM (v.1,())>>=λx2=>if(x2.2.2.1 !=0)=true then some (x2.2.2)else NG (v.1,v.2.1,())>>=λx3=>if decide (x3.1<0)=true then some (((4:Int),()))else if 0<=x3.1 then v.1[x3.1.toNat]?>>=λx4=>if((↑v.2.2.1.length:Int) !=x4.params)=true then some (((10:Int),()))else SO v.2.2>>=λx5=>some (x5)else none
def K_:=kP oZ (kP EA (kP NI (kP NJ k0)))
def x30:Xc vw:=mX prog 41 K_.1 XW [] [] []
theorem NB:aM prog 30 Vu SJ:=fn0 x30 Tryz.func30 K_.2
def WJ:Cut SN:=⟨[(4, .bp 4 0)],[(4, .st .itemT)]⟩
def Yl:aN vw:={rcut:=WJ}
def Sl:Sig vw:=sg [vz,Dq1] WJ [.cell 4 65]
noncomputable def QP(v:aF×Int×Unit):Option (Item×Unit):=if(v.1.base==0)=true then some ((Item.mk 0 false (ZZ #[]),()))else if(v.1.base==1)=true then AC (v.2.1 !=0,())>>=λx1=>some (x1)else AD (v.1,())>>=λx1=>kH (x1.1,v.2)>>=λx2=>some ((Item.mk x2.1 false (ZZ #[]),()))
def Lk:=kP sx (kP jv (kP sy k0))
def x61:Xc vw:=mX prog 20 Lk.1 Yl [] [] []
theorem wO:aM prog 61 Sl QP:=fn0 x61 Tryz.func61 Lk.2
def WK:Cut SN:=⟨[(10, .bp 10 0),(11,Dq1)],[(10, .st .itemT)]⟩
def Ym:aN vw:={rcut:=WK}
abbrev L_:Pt SN:= .dat (.st .itemT)
def Sm:Sig vw:=sg [Dq1,vz,L_,L_,Dq4] WK [.cell 10 65, .tmp 11]
noncomputable def QQ(v:Int×aF×Item×Item×Bool×Unit):Option (Int×Item×Unit):=AD (v.2.1,())>>=λx1=>kH (x1.1,v.2.2.1.n,())>>=λx2=>kH (x1.1,v.2.2.2.1.n,())>>=λx3=>if(!v.2.2.2.2.1)=true then HE (v.1,x1.1,x2.1,x3)>>=λx4=>some (((0:Int),Item.mk x4.1 false (ZZ #[]),()))else Ed (v.1,x1.1,x2.1,x3)>>=λx4=>some ((x4.2.1,Item.mk x4.1 false (ZZ #[]),()))
def Ll:=kP jv (kP sy (kP HF (kP yJ k0)))
def x62:Xc vw:=mX prog 46 Ll.1 Ym [] [] []
theorem wP:aM prog 62 Sm QQ:=fn0 x62 Tryz.func62 Ll.2
def WL:Cut SN:=⟨[(6, .bp 6 0)],[(6, .st .itemT)]⟩
def Yn:aN vw:={rcut:=WL}
def Sn:Sig vw:=sg [Dq1,L_,L_] WL [.cell 6 65]
noncomputable def QR(v:Int×Item×Item×Unit):Option (Item×Unit):=HG (v.1,v.2.1.n,v.2.2.1.n,())>>=λx1=>AC x1>>=λx2=>some (x2)
def Lm:=kP sx (kP HH k0)
def x63:Xc vw:=mX prog 14 Lm.1 Yn [] [] []
theorem wQ:aM prog 63 Sn QR:=fn0 x63 Tryz.func63 Lm.2
def Qc:Cut SN:=⟨[(6, .bp 6 0),(8, .bp 8 0),(10, .bp 10 0)],[(6, .st .itemT),(8, .st .itemT),(10, .st .myIntT)]⟩
def Tt:Cut SN:=⟨[(6, .bp 6 0),(8, .bp 8 0),(27,Dq4)],[(6, .st .itemT),(8, .st .itemT)]⟩
def Qd:Cut SN:=⟨[(8, .bp 8 0),(10, .bp 10 0),(11,Dq1),(45,Dq4)],[(8, .st .itemT),(10, .st .myIntT)]⟩
def Qe:Cut SN:=⟨[(6, .bp 6 0),(8, .bp 8 0),(10, .bp 10 0),(60,Dq4)],[(6, .st .itemT),(8, .st .itemT),(10, .st .myIntT)]⟩
def WM:Cut SN:=⟨[(8, .bp 8 0),(9,Dq1)],[(8, .st .itemT)]⟩
def Yo:aN vw:={rcut:=WM}
def So:Sig vw:=sg [Dq1,vz,L_,Dq4] WM [.cell 8 65, .tmp 9]
noncomputable def QS(v:Int×aF×Item×Bool×Unit):Option (Int×Item×Unit):=let a:=v.2.2.1;AD (v.2.1,())>>=λx1=>(if(v.1==8)=true then AC (a.n==0,())>>=λx2=>some (aa8 ((0:Int),x2))else if(v.1==11)=true then(if a.null=true then some ((v.2.2.2.1,a,Item.mk 0 false (ZZ #[]),()))else some ((false,a,Item.mk 0 false (ZZ #[]),())))>>=λx2=>if x2.1=true then some (aa8 ((4:Int),Item.mk 0 false (ZZ #[]),()))else some (aa8 ((0:Int),Item.mk x2.2.1.n false (ZZ #[]),()))else if(v.1==7)=true then kH (x1.1,a.n,())>>=λx2=>(if v.2.2.2.1=true then wH (x1.1,i64.wrap ((0:Int) -x2.1),())>>=λx3=>some ((i64.wrap ((0:Int) -x2.1),!x3.1,Item.mk 0 false (ZZ #[]),x1))else some ((i64.wrap ((0:Int) -x2.1),false,Item.mk 0 false (ZZ #[]),x1)))>>=λx3=>if x3.2.1=true then some (aa8 ((1:Int),Item.mk 0 false (ZZ #[]),()))else kH (x3.2.2.2.1,x3.1,())>>=λx4=>some (aa8 ((0:Int),Item.mk x4.1 false (ZZ #[]),()))else if(v.1==9)=true then(if v.2.2.2.1=true then wH (x1.1,a.n,())>>=λx2=>some ((!x2.1,a,Item.mk 0 false (ZZ #[]),x1))else some ((false,a,Item.mk 0 false (ZZ #[]),x1)))>>=λx2=>if x2.1=true then some (aa8 ((3:Int),Item.mk 0 false (ZZ #[]),()))else some (aaG x2.2)else some (aaG (a,Item.mk 0 false (ZZ #[]),x1)))>>=λx2=>match x2 with| .inl y2=>kH (y2.2.2.1,y2.1.n,())>>=λx3=>some (((0:Int),Item.mk x3.1 false (ZZ #[]),()))| .inr y2=>some y2
def Ln:=kP sx (kP jv (kP sy (kP yK k0)))
def x64:Xc vw:=mX prog 67 Ln.1 Yo [(17,Qc,[.norm, .ret])] [(6,Tt),(11,Qd),(15,Qe)] []
theorem wR:aM prog 64 So QS:=fn0 x64 Tryz.func64 Ln.2
abbrev Sz:Pt SN:= .dat (.sl (.st .itemT))
abbrev lu:OPt SN:= .vec 65 (.st .itemT)
def fC:Cut SN:=⟨[(0,Dq3),(1,Dq1),(2,Sz),(3,Dq1),(4,Dq4),(11, .bp 11 0),(12, .bp 12 0),(13, .bp 13 0),(14, .vh 1014),(15,Dq1)],[(11, .box none [Dq1,Dq1,Dq1, .vh 3113,Dq1, .vh 3115,Dq1]),(12, .st .itemT),(13, .st .logT),(1014,lu),(3113,Oq7),(3115,lu)]⟩
def eN:Cut SN:=⟨[(0,Dq3),(1,Dq1),(3,Dq1),(4,Dq4),(11, .bp 11 0),(12, .bp 12 0),(13, .bp 13 0),(14, .vh 1014),(16, .vh 1016),(17,Dq1)],[(11, .box none [Dq1,Dq1,Dq1, .vh 3113,Dq1, .vh 3115,Dq1]),(12, .st .itemT),(13, .st .logT),(1014,lu),(1016,lu),(3113,Oq7),(3115,lu)]⟩
def nT:Cut SN:=⟨[(0,Dq3),(1,Dq1),(3,Dq1),(4,Dq4),(11, .bp 11 0),(12, .bp 12 0),(13, .bp 13 0),(14, .vh 1014)],[(11, .box none [Dq1,Dq1,Dq1, .vh 3113,Dq1, .vh 3115,Dq1]),(12, .st .itemT),(13, .st .logT),(1014,lu),(3113,Oq7),(3115,lu)]⟩
def vS:Cut SN:=⟨[(0,Dq3),(1,Dq1),(3,Dq1),(4,Dq4),(11, .bp 11 0),(12, .bp 12 0),(13, .bp 13 0),(14, .vh 1014),(16, .vh 1016),(17,Dq1),(18, .bp 18 0),(19, .bp 19 0),(20,Dq1)],[(11, .box none [Dq1,Dq1,Dq1, .vh 3113,Dq1, .vh 3115,Dq1]),(12, .st .itemT),(13, .st .logT),(1014,lu),(1016,lu),(18, .st .myCodeT),(19, .st .itemT),(3113,Oq7),(3115,lu)]⟩
def vT:Cut SN:=⟨[(0,Dq3),(1,Dq1),(3,Dq1),(4,Dq4),(11, .bp 11 0),(12, .bp 12 0),(13, .bp 13 0),(14, .vh 1014),(16, .vh 1016),(17,Dq1),(18, .bp 18 0),(19, .bp 19 0),(20,Dq1),(21,Dq1),(117,Dq1),(239,Dq4)],[(11, .box none [Dq1,Dq1,Dq1, .vh 3113,Dq1, .vh 3115,Dq1]),(12, .st .itemT),(13, .st .logT),(1014,lu),(1016,lu),(18, .st .myCodeT),(19, .st .itemT),(3113,Oq7),(3115,lu)]⟩
def vU:Cut SN:=⟨[(0,Dq3),(1,Dq1),(3,Dq1),(4,Dq4),(11, .bp 11 0),(12, .bp 12 0),(13, .bp 13 0),(14, .vh 1014),(16, .vh 1016),(17,Dq1),(21,Dq1)],[(11, .box none [Dq1,Dq1,Dq1, .vh 3113,Dq1, .vh 3115,Dq1]),(12, .st .itemT),(13, .st .logT),(1014,lu),(1016,lu),(3113,Oq7),(3115,lu)]⟩
def vV:Cut SN:=⟨[(0,Dq3),(1,Dq1),(3,Dq1),(4,Dq4),(11, .bp 11 0),(12, .bp 12 0),(13, .bp 13 0),(14, .vh 1014),(67,Dq4)],[(11, .box none [Dq1,Dq1,Dq1, .vh 3113,Dq1, .vh 3115,Dq1]),(12, .st .itemT),(13, .st .logT),(1014,lu),(3113,Oq7),(3115,lu)]⟩
def vW:Cut SN:=⟨[(0,Dq3),(1,Dq1),(3,Dq1),(4,Dq4),(11, .bp 11 0),(12, .bp 12 0),(13, .bp 13 0),(14, .vh 1014),(16, .vh 1016),(17,Dq1),(19, .bp 19 0),(21,Dq1),(182,Dq4)],[(11, .box none [Dq1,Dq1,Dq1, .vh 3113,Dq1, .vh 3115,Dq1]),(12, .st .itemT),(13, .st .logT),(1014,lu),(1016,lu),(19, .st .itemT),(3113,Oq7),(3115,lu)]⟩
def vX:Cut SN:=⟨[(0,Dq3),(1,Dq1),(3,Dq1),(4,Dq4),(11, .bp 11 0),(12, .bp 12 0),(13, .bp 13 0),(14, .vh 1014),(16, .vh 1016),(17,Dq1),(18, .bp 18 0),(21,Dq1),(22,Sz)],[(11, .box none [Dq1,Dq1,Dq1, .vh 3113,Dq1, .vh 3115,Dq1]),(12, .st .itemT),(13, .st .logT),(1014,lu),(1016,lu),(18, .st .myCodeT),(3113,Oq7),(3115,lu)]⟩
def tw:Cut SN:=⟨[(12, .bp 12 0),(13, .bp 13 0)],[(12, .st .itemT),(13, .box none [Dq1,Dq1,Dq1, .vh 6133,Dq1, .vh 6135,Dq1]),(6133,Oq7),(6135,lu)]⟩
def gX:aN vw:=shL [(0,nT)] tw
def jA:Nat->Bool:=λk=>match k with|2000044=>true|3000215=>true|3000226=>true|3000258=>true|3000302=>true|3000331=>true|5000167=>true|5000193=>true|5000269=>true|5000287=>true|_=>false
def c8:Sig vw:={params:=[Dq3,Dq1,Sz,Dq1,Dq4, .ag [.inl (.int .i64), .inl (.int .i64), .inl (.int .i64), .inr 100000, .inl (.int .i64), .inr 100001, .inl (.int .i64)]],objs:=[(100000,Oq7),(100001,lu)],rcut:=tw,rvars:=[.cell 12 65, .cell 13 68],keep:=[6133,6135]}
abbrev Tq9:=(List aC)×Int×(List Item)×Int×Bool×Int×Int×Int×Int×Int×Int×Item×Log×(List Item)×(List Int)×(List Item)×Unit
abbrev Md:=(List aC)×Int×Int×Bool×Int×Int×Int×Int×Int×Item×Log×(List Item)×(List Int)×(List Item)×Unit
noncomputable def bM(v:Tq9):Option ((Md)):=let c:=v.2.2;let a:=c.2.2.2;let b:=a.2.2.2.2.2;if decide (a.1<(↑c.1.length:Int))=true then if 0<=a.1 then c.1[a.1.toNat]?>>=λx1=>if 0<=a.1/\a.1<(↑b.2.2.2.1.length:Int)then b.2.2.2.1[a.1.toNat]?>>=λx2=>bM (v.1,v.2.1,c.1,c.2.1,c.2.2.1,i64.wrap (a.1+1),a.2.1,a.2.2.1,a.2.2.2.1,a.2.2.2.2.1,b.1,b.2.1,b.2.2.1,b.2.2.2.1.set a.1.toNat x1,b.2.2.2.2)else none else none else some (v.1,v.2.1,c.2.1,c.2.2.1,a.2) partial_fixpoint
abbrev Tq6:=(List aC)×Int×Int×Bool×Int×Int×Int×Int×Int×Int×Item×Log×(List Item)×(List Item)×(List Int)×(List Item)×Unit
abbrev Tq8:=Item×Int×Int×Int×Int×Int×(List Int)×(List Item)×Unit
abbrev Me:=(List aC)×Int×(List Item)×Int×Bool×Int×Int×Int×Int×Int×(List Int)×(List Item)×Unit
mutual
noncomputable def aA(v:Tq6):Option ((Tq8)):=let d:=v.2.2;let c:=d.2.2.2.2;let e:=c.2.2;if(c.2.1==40000)=true then some ((Item.mk 0 false (ZZ #[]),(2:Int),c.1,c.2.1,e.1,e.2.1,e.2.2.2.2.2.2))else(if(d.1==1)=true then some ((v.1,v.2.1,d.1,d.2.1,d.2.2.1,d.2.2.2.1,c.1,i64.wrap (c.2.1+1),max e.1 (↑e.2.2.2.2.2.1.length:Int),e.2))else some ((v.1,v.2.1,d.1,d.2.1,d.2.2.1,d.2.2.2.1,c.1,i64.wrap (c.2.1+1),e)))>>=λx1=>let i:=x1.2;let g:=i.2.2.2;let j:=g.2.2;let f:=j.2.2.2;let k:=f.2.2;let h:=k.2.2.1;if 0<=i.1 then x1.1[i.1.toNat]?>>=λx2=>if 0<=g.1 then x2.code[g.1.toNat]?>>=λx3=>(if decide (i64.wrap ((↑h.length:Int) -1)>=0)=true then if 0<=i64.wrap ((↑h.length:Int) -1)/\i64.wrap ((↑h.length:Int) -1)<(↑h.length:Int)then h[(i64.wrap ((↑h.length:Int) -1)).toNat]?>>=λx4=>some ((x1.1,i.1,i.2.1,i.2.2.1,i64.wrap (g.1+1),i64.wrap ((↑h.length:Int) -1),g.2.1,j.1,j.2.1,j.2.2.1,f.1,f.2.1,k.1,k.2.1,h,x3,x4,k.2.2.2))else none else some ((x1.1,i.1,i.2.1,i.2.2.1,i64.wrap (g.1+1),i64.wrap ((↑h.length:Int) -1),g.2.1,j.1,j.2.1,j.2.2.1,f.1,f.2.1,k.1,k.2.1,h,x3,Item.mk 0 false (ZZ #[]),k.2.2.2)))>>=λx4=>let p:=x4.2.2;let m:=p.2.2.2;let r:=m.2.2;let l:=r.2.2.2;let o:=l.2.2.2.2;let q:=o.2.1;let s:=l.2.2.2.1;let t:=p.2.2.1;let u:=x4.2.1;let w:=o.1;let z:=p.2.1;let aa:=r.2.2.1;let ab:=l.2.2.1;let ac:=o.2.2.2;let G7:=(i64.wrap (m.1-1));let G5:=(x4.1,u,p.1,z,t,m.1,(0:Int),q.op,true,m.2);let G2:=(m.2.1,r.1,r.2.1,aa,l.1,l.2.1,ab,s.set q.a.toNat o.2.2.1,abb m.1.toNat w,o.2.2);let G12:=(x4.1,u,p.1,z,t,(0:Int),false,G2);(if(q.op==0)=true then QP (q.type0,q.a,())>>=λx5=>if w.length+[x5.1].length<=4294967296 then some (aaG (x4.1,u,p.1,z,t,(0:Int),m.2.1,r.1,r.2.1,aa,l.1,l.2.1,ab,s,w++[x5.1],ac))else none else if(q.op==1)=true then if w.length+[Item.mk 0 true (ZZ #[])].length<=4294967296 then some (aaG (x4.1,u,p.1,z,t,(0:Int),m.2.1,r.1,r.2.1,aa,l.1,l.2.1,ab,s,w++[Item.mk 0 true (ZZ #[])],ac))else none else if(q.op==18)=true then if w.length+[Item.mk 0 false q.name0].length<=4294967296 then some (aaG (x4.1,u,p.1,z,t,(0:Int),m.2.1,r.1,r.2.1,aa,l.1,l.2.1,ab,s,w++[Item.mk 0 false q.name0],ac))else none else if(q.op==2)=true then if 0<=q.a/\q.a<(↑s.length:Int)then s[q.a.toNat]?>>=λx5=>if w.length+[x5].length<=4294967296 then some (aaG (x4.1,u,p.1,z,t,(0:Int),m.2.1,r.1,r.2.1,aa,l.1,l.2.1,ab,s,w++[x5],ac))else none else none else if(q.op==3)=true then if 0<=q.a/\q.a<(↑s.length:Int)then s[q.a.toNat]?>>=λx5=>if 0<=m.1 then if m.1<=(↑w.length:Int)then(if(p.1==1)=true then if(l.1==q.a)=true then some ((x4.1,u,p.1,z,t,(0:Int),decide ((↑ac.2.1.length:Int)<100),G2))else some (G12)else some (G12))>>=λx6=>let af:=x6.2.2.2.2;let ad:=af.2.2.2.2.2;let ae:=ad.2.2.2.2.2;if af.2.2.1=true then if ae.2.2.2.2.1.length+[ae.2.2.1].length<=4294967296 then some (aaG (x6.1,x6.2.1,x6.2.2.1,x6.2.2.2.1,af.1,af.2.1,af.2.2.2.1,af.2.2.2.2.1,ad.1,ad.2.1,ad.2.2.1,ad.2.2.2.1,ad.2.2.2.2.1,ae.1,ae.2.1,ae.2.2.2.1,ae.2.2.2.2.1++[ae.2.2.1],()))else none else some (aaG (x6.1,x6.2.1,x6.2.2.1,x6.2.2.2.1,af.1,af.2.1,af.2.2.2.1,af.2.2.2.2.1,ad.1,ad.2.1,ad.2.2.1,ad.2.2.2.1,ad.2.2.2.2.1,ae.1,ae.2.1,ae.2.2.2))else none else none else none else if(q.op==4)=true then if 0<=m.1 then if m.1<=(↑w.length:Int)then some (aaG (x4.1,u,p.1,z,t,(0:Int),m.2.1,r.1,r.2.1,aa,l.1,l.2.1,ab,s,abb m.1.toNat w,ac))else none else none else if(q.op==5)=true then if 0<=i64.wrap (m.1-1)/\i64.wrap (m.1-1)<(↑w.length:Int)then w[G7.toNat]?>>=λx5=>QQ (q.a,q.type0,x5,o.2.2.1,z,())>>=λx6=>if(0:Int)<=0/\0<=i64.wrap (m.1-1)/\i64.wrap (m.1-1)<=(↑w.length:Int)then if aaq 0+(G7.toNat-aaq 0)<=w.length then if 0+(G7.toNat-aaq 0)<=4294967296 then if([]++abb (G7.toNat-aaq 0) w).length+[x6.2.1].length<=4294967296 then some (aaG (x4.1,u,p.1,z,t,x6.1,m.2.1,r.1,r.2.1,aa,l.1,l.2.1,ab,s,[]++abb (G7.toNat-aaq 0) w++[x6.2.1],ac))else none else none else none else none else none else if(q.op==6)=true then if(0:Int)<=0/\0<=i64.wrap (m.1-1)/\i64.wrap (m.1-1)<=(↑w.length:Int)then if aaq 0+(G7.toNat-aaq 0)<=w.length then if 0+(G7.toNat-aaq 0)<=4294967296 then if 0<=i64.wrap (m.1-1)/\i64.wrap (m.1-1)<(↑w.length:Int)then w[G7.toNat]?>>=λx5=>QR (q.a,x5,o.2.2.1,())>>=λx6=>if([]++abb (G7.toNat-aaq 0) w).length+[x6.1].length<=4294967296 then some (aaG (x4.1,u,p.1,z,t,(0:Int),m.2.1,r.1,r.2.1,aa,l.1,l.2.1,ab,s,[]++abb (G7.toNat-aaq 0) w++[x6.1],ac))else none else none else none else none else none else(if(q.op==7)=true then some (G5)else if(q.op==8)=true then some (G5)else if(q.op==9)=true then some (G5)else if(q.op==10)=true then some (G5)else some ((x4.1,u,p.1,z,t,m.1,(0:Int),q.op,q.op==11,m.2)))>>=λx5=>let ak:=x5.2.2;let ai:=ak.2.2.2;let aj:=ai.2.2.2.2;let ag:=aj.2.2.2;let al:=ag.2.2;let ah:=al.2.2.2;let am:=ah.1;let an:=ah.2;let ao:=ak.2.1;let ap:=ai.2.2.1;let G8:=(aj.1,aj.2.1,aj.2.2.1,ag.1,ag.2.1,an.2.2);let G4:=(i64.wrap ((↑am.length:Int) -an.1.b));let G3:=(ai.2.1,aj.1,aj.2.1,aj.2.2.1,ag.1,ag.2.1,al.1,al.2.1,al.2.2.1,abb ai.1.toNat am,an.2.2);let G10:=(x5.1,x5.2.1,ak.1,ao,an.1.a,G3);let G1:=(aj.1,aj.2.1,aj.2.2.1,ag.1,ag.2.1,al.1,al.2.1,al.2.2.1,am,an.2.2);let G11:=(x5.1,x5.2.1,ak.1,ao,ak.2.2.1,ai.2.1,G1);let G9:=(x5.1,x5.2.1,ak.1,ao,an.1.a,ai.2.1,G1);if ai.2.2.2.1=true then QS (an.1.op,an.1.type0,an.2.1,ao,())>>=λx6=>if(0:Int)<=0/\0<=ai.1/\ai.1<=(↑am.length:Int)then if aaq 0+(ai.1.toNat-aaq 0)<=am.length then if 0+(ai.1.toNat-aaq 0)<=4294967296 then if([]++abb (ai.1.toNat-aaq 0) am).length+[x6.2.1].length<=4294967296 then some (aaG (x5.1,x5.2.1,ak.1,ao,ak.2.2.1,x6.1,aj.1,aj.2.1,aj.2.2.1,ag.1,ag.2.1,al.1,al.2.1,al.2.2.1,[]++abb (ai.1.toNat-aaq 0) am++[x6.2.1],an.2.2))else none else none else none else none else if(ap==12)=true then if an.2.1.null=true then if 0<=ai.1 then if ai.1<=(↑am.length:Int)then some (aaG G10)else none else none else some (aaG G11)else if(ap==13)=true then if(!an.2.1.err.toList==(ZZ #[]).toList)=true then some (aaG G9)else some (aaG G11)else if(ap==14)=true then some (aaG G9)else if(ap==15)=true then if 0<=ai.1 then if ai.1<=(↑am.length:Int)then if(an.2.1.n==0)=true then some (aaG G10)else some (aaG (x5.1,x5.2.1,ak.1,ao,ak.2.2.1,G3))else none else none else if(ap==16)=true then(if 0<=i64.wrap ((↑am.length:Int) -an.1.b)/\i64.wrap ((↑am.length:Int) -an.1.b)<=(↑am.length:Int)/\(↑am.length:Int)<=(↑am.length:Int)then if G4.toNat+((↑am.length:Int).toNat-G4.toNat)<=am.length then if 0+((↑am.length:Int).toNat-G4.toNat)<=4294967296 then some ((x5.1,x5.2.1,ak.1,ao,ak.2.2.1,ai.2.1,[]++abb ((↑am.length:Int).toNat-G4.toNat) (ack G4.toNat am),aj.1,aj.2.1,aj.2.2.1,ag.1,ag.2.1,al.1,al.2.1,al.2.2.1,am,an.1,an.2.2))else none else none else none)>>=λx6=>let ar:=x6.2.2.2.2.2.2;let aq:=ar.2.2.2.2.2.2.2;let au:=aq.2.2;let G6:=(i64.wrap ((↑au.1.length:Int) -au.2.1.b));NG (x6.1,au.2.1.name0,())>>=λx7=>n_44s5ed9 (x6.1,x7.1,ar.1,i64.wrap (x6.2.2.1+1),x6.2.2.2.1,ar.2.1,ar.2.2.1,ar.2.2.2.1,ar.2.2.2.2.1,ar.2.2.2.2.2.1,au.2.2)>>=λx8=>if(x8.2.1 !=0)=true then some (aa8 (Item.mk 0 false (ZZ #[]),x8.2))else if(0:Int)<=0/\0<=i64.wrap ((↑au.1.length:Int) -au.2.1.b)/\i64.wrap ((↑au.1.length:Int) -au.2.1.b)<=(↑au.1.length:Int)then if aaq 0+(G6.toNat-aaq 0)<=au.1.length then if 0+(G6.toNat-aaq 0)<=4294967296 then if([]++abb (G6.toNat-aaq 0) au.1).length+[x8.1].length<=4294967296 then some (aaG (x6.1,x6.2.1,x6.2.2.1,x6.2.2.2.1,x6.2.2.2.2.1,x6.2.2.2.2.2.1,x8.2.1,x8.2.2.1,x8.2.2.2.1,x8.2.2.2.2.1,x8.2.2.2.2.2.1,ar.2.2.2.2.2.2.1,aq.1,aq.2.1,[]++abb (G6.toNat-aaq 0) au.1++[x8.1],x8.2.2.2.2.2.2))else none else none else none else none else if(ap==17)=true then some (aa8 (an.2.1,G8))else if(!ao)=true then some (aa8 (Item.mk 0 false (ZZ #[]),G8))else some (aaG (x5.1,x5.2.1,ak.1,ao,ak.2.2.1,an.1.a,G1)))>>=λx5=>match x5 with| .inl y5=>let ax:=y5.2.2;let av:=ax.2.2.2;let aw:=av.2.2.2;if(av.1 !=0)=true then some ((Item.mk 0 false (ZZ #[]),(1:Int),av.1,aw.1,aw.2.1,aw.2.2.1,aw.2.2.2.2.2.2.2))else if(ax.1==1)=true then aA (y5.1,y5.2.1,ax.1,ax.2.1,ax.2.2.1,av.2.1,av.2.2.1,aw.1,max aw.2.1 (↑aw.2.2.2.2.2.2.1.length:Int),aw.2.2)else aA (y5.1,y5.2.1,ax.1,ax.2.1,ax.2.2.1,av.2)| .inr y5=>some y5 else none else none partial_fixpoint
noncomputable def n_44s5ed9(v:Me):Option (Tq8):=let d:=v.2.2.2;let a:=d.2.2.2;let b:=a.2.2.2.2.1;let c:=v.2.1;if decide (d.1>30)=true then some ((Item.mk 0 false (ZZ #[]),(2:Int),a))else if 0+b.length<=4294967296 then if 0<=c/\c<(↑([]++b).length:Int)then([]++b)[c.toNat]?>>=λx1=>if 0<=c/\c<(↑([]++b).length:Int)then([]++b)[c.toNat]?>>=λx2=>if 0<=c then v.1[c.toNat]?>>=λx3=>if 0<=x3.places then if x3.places<=4294967296 then bM (v.1,c,v.2.2.1,d.1,d.2.1,(0:Int),d.2.2.1,a.1,a.2.1,a.2.2.1,a.2.2.2.1,Item.mk 0 false (ZZ #[]),Log.mk (0:Int) (0:Int) (0:Int) [] (0:Int) [] (0:Int),aak x3.places.toNat (Item.mk 0 false (ZZ #[])),([]++b).set c.toNat (i64.wrap (x1+1)),a.2.2.2.2.2)>>=λx4=>let e:=x4.2.2;((if(e.1==1)=true then some ((x4.1,x4.2.1,e.1,e.2.1,decide (e.2.2.2.2.2.2.1>=0),e.2.2))else some (x4.1,x4.2.1,e.1,e.2.1,false,e.2.2))>>=λx5=>let g:=x5.2.2.2;let f:=g.2.2.2.2.2.2;let h:=f.2.2.2;if g.2.1=true then if 0<=f.1/\f.1<(↑h.1.length:Int)then h.1[f.1.toNat]?>>=λx6=>if h.2.2.1.length+[x6].length<=4294967296 then some ((x5.1,x5.2.1,x5.2.2.1,g.1,g.2.2.1,g.2.2.2.1,g.2.2.2.2.1,g.2.2.2.2.2.1,f.1,f.2.1,f.2.2.1,h.1,h.2.1,h.2.2.1++[x6],()))else none else none else some (x5.1,x5.2.1,x5.2.2.1,g.1,g.2.2))>>=λx5=>let i:=x5.2.2.2.2.2.2;aA (x5.1,x5.2.1,x5.2.2.1,x5.2.2.2.1,(0:Int),x5.2.2.2.2.1,x5.2.2.2.2.2.1,i.1,i.2.1,i.2.2.1,i.2.2.2.1,i.2.2.2.2.1,i.2.2.2.2.2.1,[],i.2.2.2.2.2.2)>>=λx6=>some x6 else none else none else none else none else none else none partial_fixpoint
end
def g5(bM:Tq9->Option ((Md)))(aA:Tq6->Option ((Tq8)))(n_44s5ed9:Me->Option (Tq8)):dh vw:=λA fid args S k=>match fid with|36=>ct prog Si NG A args S k|44=>cy prog c8 n_44s5ed9 A args S k|61=>ct prog Sl QP A args S k|62=>ct prog Sm QQ A args S k|63=>ct prog Sn QR A args S k|64=>ct prog So QS A args S k|_=>none
def cB(bM:Tq9->Option ((Md)))(aA:Tq6->Option ((Tq8)))(n_44s5ed9:Me->Option (Tq8)):Xc vw:={P:=prog,n:=355,nm:=λd=>match d with|30=>40030|211=>40211|222=>40222|255=>40255|295=>40295|324=>40324|_=>d,call:=g5 bM aA n_44s5ed9,pre:=jA,sh:=gX,joins:=λk=>match k with|13=>some (nT,[.norm])|21=>some (eN,[.norm])|27=>some (vS,[.norm])|57=>some (vT,[.norm])|81=>some (vU,[.norm, .ret])|_=>none,regs:=λk=>match k with|11=>some vV|43=>some vW|73=>some vX|_=>none,loops:=λk=>match k with|8=>some {cut:=fC,alts:=[.exit 0],F:=bM}|15=>some {cut:=eN,alts:=[.ret],F:=aA}|_=>none}
abbrev gp(v:Tq9)(r:(Md)):Prop:=(λv out=>∀C:Ctx,C.P=prog->C.N=355/\Fx C jA->pS C (aS (aO Tryz.f44) 0) (Go.Tx.a_ vw (fk vw fC v)) (xO gX [.exit 0] out)) v r
theorem tH(f0:Tq9->Option ((Md)))(h0:∀v r,f0 v=some r->gp v r):bG prog (cB f0 (λ_=>none) (λ_=>none)).call:=(by
 intro A fid args S dst k r h
 unfold cB g5 at h
 simp only at h
 split at h
 ·exact aR (oZ) rfl rfl h
 ·exact aP ((λv r x h hx=>by cases h)) h
 ·exact aR (wO) rfl rfl h
 ·exact aR (wP) rfl rfl h
 ·exact aR (wQ) rfl rfl h
 ·exact aR (wR) rfl rfl h
 ·cases h)
theorem uZ(f0:Tq9->Option ((Md)))(h0:∀v r,f0 v=some r->gp v r)(v:Tq9)(r:(Md))(h:exL (cB f0 (λ_=>none) (λ_=>none)) (aS (aO Tryz.f44) 0) fC [.exit 0] f0 v=some r):gp v r:=λC hP hN=>gL (X:=cB f0 (λ_=>none) (λ_=>none)) (b:=(aS (aO Tryz.f44) 0)) hP hN Ty.mixed (tH f0 h0) (eT (X:=cB f0 (λ_=>none) (λ_=>none)) (c:=(aS (aO Tryz.f44) 0)) (fG (by kernel_rfl:True=pR (e7 C (cB f0 (λ_=>none) (λ_=>none))) (cA (aS (aO Tryz.f44) 0))) trivial)) (cut:=fC) (alts:=[.exit 0]) (F:=f0) (λv out h=>h0 v out h C hP hN) h
theorem qb:∀v out,bM v=some out->(λv out=>∀C:Ctx,C.P=prog->C.N=355/\Fx C jA->pS C (aS (aO Tryz.f44) 0) (Go.Tx.a_ vw (fk vw fC v)) (xO gX [.exit 0] out)) v out:=(bM.partial_correctness (motive:=gp) (λf0 h0 v r h=>uZ f0 h0 v r (fG (by kernel_rfl) h)))
abbrev dD(v:Tq6)(r:(Tq8)):Prop:=(λv out=>∀C:Ctx,C.P=prog->C.N=355/\Fx C jA->pS C (aS (aO Tryz.f44) 1) (Go.Tx.a_ vw (fk vw eN v)) (xO gX [.ret] out)) v r
abbrev gO(v:Me)(r:Tq8):Prop:=(λv r=>∀x,Gx prog c8 r=some x->lW prog 44 (encL vw (cD c8 v).len (d6 c8 v).1) (eP (cD c8 v).len (cD c8 v).own) (aL vw (fk vw c8.rcut r).len x) (eP (fk vw c8.rcut r).len (pY c8 r))) v r
theorem rZ(f0:Tq6->Option ((Tq8)))(f1:Me->Option (Tq8))(h0:∀v r,f0 v=some r->dD v r)(h1:∀v r,f1 v=some r->gO v r):bG prog (cB (λ_=>none) f0 f1).call:=(by
 intro A fid args S dst k r h
 unfold cB g5 at h
 simp only at h
 split at h
 ·exact aR (oZ) rfl rfl h
 ·exact aP ((λv r x h hx=>h1 v r h x hx)) h
 ·exact aR (wO) rfl rfl h
 ·exact aR (wP) rfl rfl h
 ·exact aR (wQ) rfl rfl h
 ·exact aR (wR) rfl rfl h
 ·cases h)
theorem sW(f0:Tq6->Option ((Tq8)))(f1:Me->Option (Tq8))(h0:∀v r,f0 v=some r->dD v r)(h1:∀v r,f1 v=some r->gO v r)(v:Tq6)(r:(Tq8))(h:exL (cB (λ_=>none) f0 f1) (aS (aO Tryz.f44) 1) eN [.ret] f0 v=some r):dD v r:=λC hP hN=>gL (X:=cB (λ_=>none) f0 f1) (b:=(aS (aO Tryz.f44) 1)) hP hN Ty.mixed (rZ f0 f1 h0 h1) (eT (X:=cB (λ_=>none) f0 f1) (c:=(aS (aO Tryz.f44) 1)) (fG (by kernel_rfl:True=pR (e7 C (cB (λ_=>none) f0 f1)) (cA (aS (aO Tryz.f44) 1))) trivial)) (cut:=eN) (alts:=[.ret]) (F:=f0) (λv out h=>h0 v out h C hP hN) h
theorem Ai(f0:Tq6->Option ((Tq8)))(h0:∀v r,f0 v=some r->dD v r):bG prog (cB bM f0 (λ_=>none)).call:=(by
 intro A fid args S dst k r h
 unfold cB g5 at h
 simp only at h
 split at h
 ·exact aR (oZ) rfl rfl h
 ·exact aP ((λv r x h hx=>by cases h)) h
 ·exact aR (wO) rfl rfl h
 ·exact aR (wP) rfl rfl h
 ·exact aR (wQ) rfl rfl h
 ·exact aR (wR) rfl rfl h
 ·cases h)
theorem BL(f0:Tq6->Option ((Tq8)))(h0:∀v r,f0 v=some r->dD v r)(v:Me)(r:Tq8)(h:exF (cB bM f0 (λ_=>none)) c8 rfl (aO Tryz.f44) v=some r):gO v r:=λx hx=>Au (X:=cB bM f0 (λ_=>none)) (sig:=c8) rfl Tryz.func44 (c:=aO Tryz.f44) (by kernel_rfl) Tryz.ntmps44 (by kernel_rfl) (by kernel_rfl) rfl Ty.mixed (Ai f0 h0) rfl (λC hP hN=>(eT (X:=cB bM f0 (λ_=>none)) (c:=(aO Tryz.f44)) (fG (by kernel_rfl:pR (e7 C (cB bM f0 (λ_=>none))) [(aS (aO Tryz.f44) 0),(aS (aO Tryz.f44) 1)]=pR (e7 C (cB bM f0 (λ_=>none))) (cA (aO Tryz.f44))) ⟨iW (X:=cB bM f0 (λ_=>none)) (b:=(aS (aO Tryz.f44) 0)) (by kernel_rfl) (show gC C (aS (aO Tryz.f44) 0) (sh:=gX) {cut:=fC,alts:=[.exit 0],F:=bM}fromλv out h=>qb v out h C hP hN),iW (X:=cB bM f0 (λ_=>none)) (b:=(aS (aO Tryz.f44) 1)) (by kernel_rfl) (show gC C (aS (aO Tryz.f44) 1) (sh:=gX) {cut:=eN,alts:=[.ret],F:=f0}fromλv out h=>h0 v out h C hP hN),trivial⟩))) h x hx
theorem mW:(∀v r,aA v=some r->dD v r)/\(∀v r,n_44s5ed9 v=some r->gO v r):=by
 refine aA.mutual_partial_correctness
  (motive_1:=dD)
  (motive_2:=gO)
  ?_ ?_
 ·exact(λf0 f1 h0 h1 v r h=>sW f0 f1 h0 h1 v r (fG (by kernel_rfl) h))
 ·exact(λf0 h0 v r h=>BL f0 h0 v r (fG (by kernel_rfl) h))
theorem um:aM prog 44 c8 n_44s5ed9:=λv r x h hx=>mW.2 v r h x hx
def X0:aN vw:={rcut:=GJ}
def Vy:Sig vw:=sg [S_] GJ [.cell 2 65]
noncomputable def TR(v:aE×Unit):Option (Item×Unit):=some ((Item.mk v.1.n v.1.null v.1.err,()))
def x35:Xc vw:=mX prog 10 c0 X0 [] [] []
theorem NF:aM prog 35 Vy TR:=fn0 x35 Tryz.func35 bT
def P3:Cut SN:=⟨[(0,vu),(3, .vh 1003),(4,Dq1)],[(1003,lu)]⟩
def To:Cut SN:=⟨[(3, .vh 1003)],[(1003,lu)]⟩
def WG:Cut SN:=⟨[(2,Sz)],[]⟩
def X8:aN vw:=shL [(0,To)] WG
def VE:Sig vw:=sg [vu] WG [.tmp 2]
noncomputable def mf(v:(List aE)×Int×(List Item)×Unit):Option (((List Item)×Unit)):=if decide (v.2.1<(↑v.1.length:Int))=true then if 0<=v.2.1 then v.1[v.2.1.toNat]?>>=λx1=>TR (x1,())>>=λx2=>if v.2.2.1.length+[x2.1].length<=4294967296 then mf (v.1,i64.wrap (v.2.1+1),v.2.2.1++[x2.1],())else none else none else some (v.2.2) partial_fixpoint
noncomputable def SP(v:(List aE)×Unit):Option ((List Item)×Unit):=mf (v.1,(0:Int),[],())>>=λx1=>some (x1)
def Dd:=kP NF k0
def x45:Xc vw:=mX prog 20 Dd.1 X8 [] [] [(3,⟨P3,[.exit 0],mf⟩)]
theorem EF:gg x45 (aS (aO Tryz.f45) 0) ⟨P3,[.exit 0],mf⟩:=lp0 mf.partial_correctness Dd.2
theorem NK:aM prog 45 VE SP:=fn1 x45 Tryz.func45 Dd.2 EF
def WD:Cut SN:=⟨[(10, .bp 10 0),(11, .bp 11 0)],[(10, .st .itemT),(11, .st .logT)]⟩
def XX:aN vw:={rcut:=WD}
def TY:Nat->Bool:=λk=>match k with|1000023=>true|2000044=>true|_=>false
def Vv:Sig vw:=sg [Dq3,Dq5,vu,Dq4,Dq1] WD [.cell 10 65, .cell 11 68]
noncomputable def QK(v:(List aC)×ByteArray×(List aE)×Bool×Int×Unit):Option (Item×Log×Unit):=NG (v.1,v.2.1,())>>=λx1=>SP (v.2.2.1,())>>=λx2=>if(↑v.1.length:Int)<=4294967296 then n_44s5ed9 (v.1,x1.1,x2.1,(1:Int),v.2.2.2.1,(0:Int),(0:Int),(0:Int),(0:Int),v.2.2.2.2.1,aak (↑v.1.length:Int).toNat (0:Int),[],())>>=λx3=>let a:=x3.2.2.2;some ((x3.1,Log.mk x3.2.1 x3.2.2.1 a.1 a.2.2.2.1 a.2.1 a.2.2.2.2.1 a.2.2.1,()))else none
def La:=kP oZ (kO um (kP NK k0))
def x31:Xc vw:={P:=prog,n:=27,call:=La.1,pre:=TY,sh:=XX}
theorem NC:aM prog 31 Vv QK:=fn0 x31 Tryz.func31 La.2
def XZ:aN vw:={rcut:=zZ}
def Vx:Sig vw:=sg [L_] zZ [.cell 2 31]
noncomputable def TQ(v:Item×Unit):Option (aE×Unit):=some ((aE.mk (aF.mk (0:Int) (0:Int) (ZZ #[]) false false) v.1.n v.1.null v.1.err (aF.mk (0:Int) (0:Int) (ZZ #[]) false false),()))
def x34:Xc vw:=mX prog 10 c0 XZ [] [] []
theorem NE:aM prog 34 Vx TQ:=fn0 x34 Tryz.func34 bT
def WE:Cut SN:=⟨[(4, .bp 4 0)],[(4, .st .outcomeT)]⟩
def XY:aN vw:={rcut:=WE}
def Vw:Sig vw:=sg [L_, .dat (.st .logT)] WE [.cell 4 34]
noncomputable def SK(v:Item×Log×Unit):Option (cv×Unit):=if(v.2.1.kind==1)=true then some ((cv.mk (1:Int) (aE.mk (aF.mk (0:Int) (0:Int) (ZZ #[]) false false) (0:Int) false (ZZ #[]) (aF.mk (0:Int) (0:Int) (ZZ #[]) false false)) v.2.1.stop [],()))else if(v.2.1.kind==2)=true then some ((cv.mk (2:Int) (aE.mk (aF.mk (0:Int) (0:Int) (ZZ #[]) false false) (0:Int) false (ZZ #[]) (aF.mk (0:Int) (0:Int) (ZZ #[]) false false)) (0:Int) [],()))else TQ (v.1,())>>=λx1=>some ((cv.mk (0:Int) x1.1 (0:Int) [],()))
def Lb:=kP NE k0
def x32:Xc vw:=mX prog 18 Lb.1 XY [] [] []
theorem ND:aM prog 32 Vw SK:=fn0 x32 Tryz.func32 Lb.2
def XS:aN vw:={rcut:=SC}
def Vq:Sig vw:=sg [Dq3,Dq5,vu,Dq4] SC [.cell 8 34, .tmp 9]
noncomputable def SG(v:Wv):Option (Int×cv×Unit):=SJ (v.1,v.2.1,v.2.2.1,())>>=λx1=>if(x1.1 !=0)=true then some ((x1.1,cv.mk (0:Int) (aE.mk (aF.mk (0:Int) (0:Int) (ZZ #[]) false false) (0:Int) false (ZZ #[]) (aF.mk (0:Int) (0:Int) (ZZ #[]) false false)) (0:Int) [],()))else QK (v.1,v.2.1,v.2.2.1,v.2.2.2.1,(-1:Int),())>>=λx2=>SK x2>>=λx3=>some (((0:Int),x3))
def K8:=kP NB (kP NC (kP ND k0))
def x12:Xc vw:=mX prog 32 K8.1 XS [] [] []
theorem Nk:aM prog 12 Vq SG:=fn0 x12 Tryz.func12 K8.2
def Py:Cut SN:=⟨[(2, .bp 2 0),(3, .bp 3 0),(5,Dq1)],[(2, .st .outcomeT),(3, .st .outcomeT)]⟩
def Tf:Cut SN:=⟨[(2, .bp 2 0),(3, .bp 3 0),(33,Dq4)],[(2, .st .outcomeT),(3, .st .outcomeT)]⟩
def XT:aN vw:=shL [(0,dW)] cE
def Vr:Sig vw:=sg [.dat (.st .outcomeT), .dat (.st .outcomeT)] cE [.tmp 4]
noncomputable def oW(v:Int×cv×cv×Unit):Option (((Bool×Unit)⊕(Unit))):=if decide (v.1<(↑v.2.1.trace.length:Int))=true then if 0<=v.1 then v.2.1.trace[v.1.toNat]?>>=λx1=>if 0<=v.1 then v.2.2.1.trace[v.1.toNat]?>>=λx2=>if(!x1.toList==x2.toList)=true then some (aaG (false,()))else oW (i64.wrap (v.1+1),v.2)else none else none else some (aa8 ()) partial_fixpoint
noncomputable def SH(v:cv×cv×Unit):Option (Bool×Unit):=let a:=v.2.1;let b:=v.1;(if(b.kind !=a.kind)=true then some (true,v)else if(!(Mp.ieq b.value.type0.base a.value.type0.base&&(Mp.ieq b.value.type0.bits a.value.type0.bits&&(Mp.seq b.value.type0.name0 a.value.type0.name0&&(Mp.beq b.value.type0.opt a.value.type0.opt&&(Mp.beq b.value.type0.err a.value.type0.err&&(Mp.ieq b.value.n a.value.n&&(Mp.beq b.value.null a.value.null&&(Mp.seq b.value.err a.value.err&&(Mp.ieq b.value.of0.base a.value.of0.base&&(Mp.ieq b.value.of0.bits a.value.of0.bits&&(Mp.seq b.value.of0.name0 a.value.of0.name0&&(Mp.beq b.value.of0.opt a.value.of0.opt&&Mp.beq b.value.of0.err a.value.of0.err)))))))))))))=true then some (true,v)else if(b.stop !=a.stop)=true then some (true,v)else some (((↑b.trace.length:Int) !=(↑a.trace.length:Int),v)))>>=λx1=>if x1.1=true then some ((false,()))else oW ((0:Int),x1.2)>>=λx2=>match x2 with| .inl y2=>some y2| .inr y2=>some ((true,()))
def x13:Xc vw:=mX prog 52 c0 XT [] [(1,Tf)] [(4,⟨Py,[.ret, .exit 0],oW⟩)]
theorem Ei:gg x13 (aS (aO Tryz.f13) 0) ⟨Py,[.ret, .exit 0],oW⟩:=lp0 oW.partial_correctness bT
theorem Nm:aM prog 13 Vr SH:=fn1 x13 Tryz.func13 bT Ei
end Go.Proofs.YtcghbgmmgcljkaaGreatDoor
end
section
namespace Go.Proofs.YtcghbgmmgcljkaaGreatDoor
open Go.Awp Go.Tx
open Go.Proofs.Tryz (prog)
set_option maxHeartbeats 4000000
set_option maxRecDepth 100000
def sh9:aN vw:=shL [(0,MH)] eO
def Yz:Sig vw:=sg [Dq3] eO [.tmp 2]
noncomputable def uw(v:SB):Option (((Bool×Unit)⊕((List aC)×Int×Unit))):=let a:=v.2.2.1;if decide (a<(↑v.1.length:Int))=true then if 0<=a then v.1[a.toNat]?>>=λx1=>if 0<=a then v.1[a.toNat]?>>=λx2=>if decide (x2.places>2000)=true then some (aaG (true,()))else uw (v.1,IntKind.i64.wrap (v.2.1+(↑x1.code.length:Int)),IntKind.i64.wrap (a+1),())else none else none else some (aa8 (v.1,v.2.1,())) partial_fixpoint
noncomputable def n_9(v:(List aC)×Unit):Option (Bool×Unit):=uw (v.1,(0:Int),(0:Int),())>>=λx1=>match x1 with| .inl y1=>some y1| .inr y1=>(if decide (y1.2.1>3000)=true then some ((true,()))else some ((decide ((↑y1.1.length:Int)>200),())))>>=λx2=>some (x2)
def x9:Xc vw:=mX prog 32 c0 sh9 [] [(8,eO)] [(3,⟨GQ,[.ret, .exit 0],uw⟩)]
theorem I0:gg x9 (aS (aO Tryz.f9) 0) ⟨GQ,[.ret, .exit 0],uw⟩:=lp0 uw.partial_correctness bT
theorem QU:aM prog 9 Yz n_9:=fn1 x9 Tryz.func9 bT I0
def sh3:aN vw:={rcut:=cE}
def Yy:Sig vw:=sg [Dq3, .dat (.st .askedT)] cE [.tmp 4]
noncomputable def n_3(v:(List aC)×nI×Unit):Option (Bool×Unit):=let G1:=(v.1,v.2.1.name0,v.2.1.args,v.2.1.checks,());n_9 (v.1,())>>=λx1=>if x1.1=true then QI ()>>=λx2=>some (x2)else OX G1>>=λx2=>SG G1>>=λx3=>(SH (x2.2.1,x3.2)>>=λx4=>if x4.1=true then if(x2.1==x3.1)=true then QI ()>>=λx5=>some (x5)else some ((false,()))else some ((false,())))>>=λx4=>some (x4)
def Qo:=kP QU (kP Nj (kP Ef (kP Nk (kP Nm k0))))
def x3:Xc vw:=mX prog 45 Qo.1 sh3 [] [(5,cE)] []
theorem QL:aM prog 3 Yy n_3:=fn0 x3 Tryz.func3 Qo.2
end Go.Proofs.YtcghbgmmgcljkaaGreatDoor
end
section
namespace Go.Proofs.YtcghbgmmgcljkaaGreatDoor
set_option maxRecDepth 20000
theorem u6(t:bB)(h2:t.bits<=31):∀(j k:Nat),((k+j:Nat):Int)=t.bits->i4 ((2:Int)^k,(k:Int),t,())=some ((2:Int)^t.bits.toNat,())
 |0,k,h=>by
  rw[i4]
  rw[adC (by simp;omega)]
  have:k=t.bits.toNat:=by omega
  rw[this]
 |j+1,k,h=>by
  rw[i4]
  rw[adD (by simp;omega)]
  have p2:2^k<=2^31:=abr (by omega) (by omega)
  have e2:((2:Int)^k)=((2^k:Nat):Int):=by simp
  have p0:(0:Int)<2^k:=Int.pow_pos (by decide)
  simp only[]
  rw[w64 (by omega) (by omega),w64 (by omega) (by omega),<-adv]
  exact u6 t h2 j (k+1) (by omega)
theorem sX(t:bB)(h1:1<=t.bits)(h2:t.bits<=31):AG (t,())=some ((2:Int)^t.bits.toNat,()):=by
 rw[AG]
 have:=u6 t h2 t.bits.toNat 0 (by omega)
 simp only[Int.pow_zero,aao]at this
 simp only[this,Z1,ZY]
theorem JQ{n m:Int}(hm:0<m):(if n.tmod m<0 then n.tmod m+m else n.tmod m)=n%m:=by
 have:=abQ n (show m≠0 by omega)
 have:=ace n hm
 rw[Int.tmod_eq_emod]
 by_cases h:0<=n\/m∣n
 ·rw[adD h];simp;intro;omega
 ·rw[adC h]
  have:(m.natAbs:Int)=m:=by omega
  rw[adD (by omega)];omega
theorem iG(t:bB)(n:Int)(h1:1<=t.bits)(h2:t.bits<=31):kH (t,n,())=some (pV t.signed t.bits n,()):=by
 obtain⟨p1,p2,p3⟩:=fg h1 h2
 have m1:=abQ n (show(2:Int)^t.bits.toNat≠0 by omega)
 have m2:=ace n (show(0:Int)<2^t.bits.toNat by omega)
 have m3:=JQ (n:=n) (show(0:Int)<2^t.bits.toNat by omega)
 rw[kH]
 simp only[sX t h1 h2,Z1,ZY]
 rw[adC (by omega)]
 have e:(2:Int)^(t.bits.toNat-1)=((2:Int)^t.bits.toNat).tdiv 2:=by
  rw[p2,ac2 _ (by decide)]
 unfold pV
 rw[e]
 have e3:IntKind.i64.wrap (((2:Int)^t.bits.toNat).tdiv 2)=((2:Int)^t.bits.toNat).tdiv 2:=by
  rw[<-e];exact w64 (by omega) (by omega)
 by_cases hn:n.tmod (2^t.bits.toNat)<0
 ·rw[adD hn]at m3
  rw[adD (by simpa using hn)]
  simp only[ZY,m3,e3]
  rw[w64 (by omega) (by omega)]
  by_cases hs:t.signed=true
  ·simp only[hs,adz,ZY,true_and,adB,ge_iff_le]
   split
   ·simp only[ZY]
    rw[w64 (by omega) (by omega)]
   ·rfl
  ·simp[hs]
 ·rw[adC hn]at m3
  rw[adC (by simpa using hn)]
  simp only[ZY,m3,e3]
  by_cases hs:t.signed=true
  ·simp only[hs,adz,ZY,true_and,adB,ge_iff_le]
   split
   ·simp only[ZY]
    rw[w64 (by omega) (by omega)]
   ·rfl
  ·simp[hs]
theorem Do(t:bB)(h1:1<=t.bits)(h2:t.bits<=31):Ek (t,())=some (lo t.signed t.bits,hi t.signed t.bits,()):=by
 obtain⟨p1,p2,p3⟩:=fg h1 h2
 rw[Ek]
 simp only[sX t h1 h2,Z1,ZY]
 unfold lo hi
 have e:((2:Int)^t.bits.toNat).tdiv 2=(2:Int)^(t.bits.toNat-1):=by
  rw[p2,ac2 _ (by decide)]
 by_cases hs:t.signed=true
 ·have e3:IntKind.i64.wrap ((2:Int)^(t.bits.toNat-1))=(2:Int)^(t.bits.toNat-1):=w64 (by omega) (by omega)
  simp only[hs,adz,e,e3]
  rw[w64 (by omega) (by omega),w64 (by omega) (by omega)]
  simp
 ·simp only[hs,adA,Z0]
  rw[w64 (by omega) (by omega)]
theorem vm(n a b:Int):El (n,a,b,())=some (decide (a<=n/\n<=b),()):=by
 rw[El]
 by_cases h:a<=n
 ·simp[h]
 ·simp[h]
instance (s:Bool) (b n:Int):Decidable (inT s b n):=by unfold inT;infer_instance
theorem QC(t:bB)(n:Int)(h1:1<=t.bits)(h2:t.bits<=31):wH (t,n,())=some (decide (inT t.signed t.bits n),()):=by
 rw[wH]
 simp only[Do t h1 h2,vm,Z1,ZY]
 rfl
def QV(s:Bool)(b n:Int):Int:=if n<lo s b then lo s b else if hi s b<n then hi s b else n
theorem ES(t:bB)(n:Int)(h1:1<=t.bits)(h2:t.bits<=31):Ia (t,n,())=some (QV t.signed t.bits n,()):=by
 rw[Ia]
 simp only[Do t h1 h2,Z1,ZY,adB,gt_iff_lt]
 unfold QV
 split
 ·rfl
 ·split<;>rfl
end Go.Proofs.YtcghbgmmgcljkaaGreatDoor
end
section
namespace Go.Proofs.YtcghbgmmgcljkaaGreatDoor
open IntKind (i64)
set_option maxRecDepth 20000
def Mo(op:Int)(x y:Int):Int:=if op=15 then(x+y).tdiv 2 else if op=16 then(x+y+1).tdiv 2 else(x+y).tmod 2
def vx(op:Int):List Int->List Int->List Int
 |x::r,y::s=>Mo op x y::vx op r s
 |_,_=>[]
def raw(b n:Int):Nat:=(n%2^b.toNat).toNat
def zW(op:Int)(x y:Nat):Nat:=if op=15 then x&&&y else if op=16 then x|||y else x^^^y
theorem rV:∀(k n:Nat) {x:Int},x∈gv k n->x=0\/x=1
 |0,_,_,h=>by simp[gv]at h
 |k+1,n,x,h=>by
  rw[gv,aai]at h
  rcases h with h|h
  ·omega
  ·exact rV k _ h
theorem zI(op:Int):∀(k:Nat) (a b:Nat),a<2^k->b<2^k->N1 (vx op (gv k a) (gv k b))=((zW op a b:Nat):Int)
 |0,a,b,ha,hb=>by
  have h1:a=0:=by simpa using ha
  have h2:b=0:=by simpa using hb
  subst h1 h2
  simp[gv,vx,N1,zW]
 |k+1,a,b,ha,hb=>by
  rw[acF]at ha hb
  have ih:=zI op k (a/2) (b/2) (by omega) (by omega)
  rw[gv,gv,vx,N1,ih]
  have la:=DW a b
  have lb:=Hs a b
  have lc:=D6 a b
  have ha2:=abi a
  have hb2:=abi b
  unfold Mo zW
  by_cases h1:op=15
  ·simp only[h1,adz]
   rw[la]
   rcases ha2 with h|h<;>rcases hb2 with h'|h'<;>rw[h,h']<;>simp<;>omega
  ·by_cases h2:op=16
   ·simp only[h2,adz,show(16:Int)≠15 by decide,adA]
    rw[lb]
    rcases ha2 with h|h<;>rcases hb2 with h'|h'<;>rw[h,h']<;>simp<;>omega
   ·simp only[h1,h2,adA]
    rw[lc]
    rcases ha2 with h|h<;>rcases hb2 with h'|h'<;>rw[h,h']<;>simp<;>omega
theorem ti(t:bB)(h2:t.bits<=31):∀(j k:Nat) (n:Nat) (out:List Int),((k+j:Nat):Int)=t.bits->n<2^62->out.length=k->
 i7 ((n:Int),(k:Int),t,out,())=some (out++gv j n,())
 |0,k,n,out,h,hn,hl=>by
  rw[i7,adC (by simp;omega),gv,abY]
 |j+1,k,n,out,h,hn,hl=>by
  rw[i7,adD (by simp;omega)]
  simp only[aa5,hl]
  rw[adD (by omega)]
  have e1:(n:Int).tdiv 2=((n/2:Nat):Int):=by
   rw[acQ (by omega)];omega
  have e2:(n:Int).tmod 2=((n%2:Nat):Int):=by
   rw[acP (by omega)];omega
  rw[e1,e2,w64 (by omega) (by omega),w64 (by omega) (by omega)]
  have:=ti t h2 j (k+1) (n/2) (out++[((n%2:Nat):Int)]) (by omega) (by omega) (by simp[hl])
  rw[gv,show((k:Int)+1)=((k+1:Nat):Int) by omega,this,abj]
  rfl
theorem Q2(s:Bool){b n:Int}(h1:1<=b)(h2:b<=31)(h:inT s b n):(if n<0 then n+2^b.toNat else n)=(raw b n:Int):=by
 obtain⟨p1,p2,p3⟩:=fg h1 h2
 have m1:=abQ n (show(2:Int)^b.toNat≠0 by omega)
 obtain⟨q1,q2⟩:=h
 unfold lo at q1
 unfold hi at q2
 unfold raw
 rw[abG m1]
 by_cases hn:n<0
 ·rw[adD hn,<-Int.add_emod_right n,ab4]<;>cases s<;>simp at q1 q2<;>omega
 ·rw[adC hn,ab4]<;>cases s<;>simp at q1 q2<;>omega
theorem Fm{b n:Int}(h1:1<=b)(h2:b<=31):raw b n<2^b.toNat/\raw b n<2^31:=by
 obtain⟨p1,p2,p3⟩:=fg h1 h2
 have m1:=abQ n (show(2:Int)^b.toNat≠0 by omega)
 have m2:=ace n (show(0:Int)<2^b.toNat by omega)
 have e2:((2:Int)^b.toNat)=((2^b.toNat:Nat):Int):=by simp
 unfold raw
 refine⟨by omega,by omega⟩
theorem tJ(t:bB)(n:Int)(h1:1<=t.bits)(h2:t.bits<=31)(h:inT t.signed t.bits n):Ep (t,n,())=some (gv t.bits.toNat (raw t.bits n),()):=by
 have hr:=Q2 t.signed h1 h2 h
 obtain⟨r1,r2⟩:=Fm (n:=n) h1 h2
 have hl:=oP h1 h2 h
 obtain⟨p1,p2,p3⟩:=fg h1 h2
 have lp:=ti t h2 t.bits.toNat 0 (raw t.bits n) [] (by omega) (by omega) rfl
 rw[aad,aao]at lp
 rw[Ep]
 by_cases hn:n<0
 ·rw[adD hn]at hr
  simp only[sX t h1 h2,Z1,ZY,adB,adD hn]
  rw[w64 (by omega) (by omega),hr,lp];rfl
 ·rw[adC hn]at hr
  simp only[sX t h1 h2,Z1,ZY,adB,adC hn]
  rw[<-hr]at lp
  rw[lp];rfl
theorem zJ(op:Int)(t:bB)(x y:List Int)(hxy:x.length=y.length)(hx:∀n∈x,n=0\/n=1)(hy:∀n∈y,n=0\/n=1)(h3:x.length<=31):∀(j k:Nat) (out:List Int),k+j=x.length->out.length=k->
 i5 (op,x,y,(k:Int),t,out,())=some (t,out++vx op (x.drop k) (y.drop k),())
 |0,k,out,h,hl=>by
  rw[i5,adC (by simp;omega),abt (by omega),abt (by omega)]
  simp[vx]
 |j+1,k,out,h,hl=>by
  rw[i5,adD (by simp;omega)]
  simp only[]
  rw[adD (by omega)]
  have k1:k<x.length:=by omega
  have k2:k<y.length:=by omega
  rw[Z5,Z3 k1,Z3 k2]
  simp only[Z1,ZY]
  rw[adD (by omega)]
  have b1:=hx _ (aaQ k1)
  have b2:=hy _ (aaQ k2)
  have ih:=zJ op t x y hxy hx hy h3 j (k+1) (out++[Mo op x[k] y[k]]) (by omega) (by simp[hl])
  rw[abO k1,abO k2,vx]
  have e1:i64.wrap (x[k]+y[k])=x[k]+y[k]:=w64 (by omega) (by omega)
  have e2:i64.wrap (x[k]+y[k]+1)=x[k]+y[k]+1:=w64 (by omega) (by omega)
  have e3:i64.wrap ((x[k]+y[k]).tdiv 2)=(x[k]+y[k]).tdiv 2:=by
   rcases b1 with b1|b1<;>rcases b2 with b2|b2<;>rw[b1,b2]<;>rfl
  have e4:i64.wrap ((x[k]+y[k]+1).tdiv 2)=(x[k]+y[k]+1).tdiv 2:=by
   rcases b1 with b1|b1<;>rcases b2 with b2|b2<;>rw[b1,b2]<;>rfl
  have e5:i64.wrap ((k:Int)+1)=((k+1:Nat):Int):=by rw[w64 (by omega) (by omega)];omega
  simp only[e1,e2,e3,e4,beq_iff_eq,aa5]
  rw[show out++Mo op x[k] y[k]::vx op (x.drop (k+1)) (y.drop (k+1))=(out++[Mo op x[k] y[k]])++vx op (x.drop (k+1)) (y.drop (k+1)) by simp,<-ih]
  unfold Mo
  by_cases h15:op=15
  ·simp only[h15,adz,ZY]
   rw[adD (by omega),e5]
  ·by_cases h16:op=16
   ·simp only[h16,adz,ZY,show(16:Int)≠15 by decide,adA]
    rw[adD (by omega),e5]
   ·simp only[h15,h16,adA,ZY]
    rw[adD (by omega),e5]
theorem yY(t:bB)(x:List Int)(hx:∀n∈x,n=0\/n=1)(h3:x.length<=31):∀(k:Nat) (m:Int),k<=x.length->m=N1 (x.drop k)->0<=m->m<2^(x.length-k)->
 i8 (x,m,(k:Int) -1,t,())=some (N1 x,t,())
 |0,m,hk,hm,_,_=>by
  rw[i8,adC (by simp),hm];rfl
 |k+1,m,hk,hm,h0,hlt=>by
  have k1:k<x.length:=by omega
  have b1:=hx _ (aaQ k1)
  have p31:2^(x.length-(k+1))<=2^31:=abr (by omega) (by omega)
  have e2:((2:Int)^(x.length-(k+1)))=((2^(x.length-(k+1)):Nat):Int):=by simp
  have ps:(2:Int)^(x.length-k)=2 *2^(x.length-(k+1)):=by
   rw[show x.length-k=(x.length-(k+1))+1 by omega,adv];omega
  rw[i8]
  simp only[]
  rw[show(((k+1:Nat):Int) -1)=(k:Int) by omega,adD (by simp),adD (by omega),Z5,Z3 k1]
  simp only[Z1,ZY]
  rw[w64 (x:=2 *m) (by omega) (by omega),w64 (by omega) (by omega),w64 (by omega) (by omega)]
  refine yY t x hx h3 k _ (by omega) ?_ (by omega) (by omega)
  rw[abO k1,N1,<-hm]
theorem Gr(op:Int):∀(x y:List Int),(∀n∈x,n=0\/n=1)->(∀n∈y,n=0\/n=1)->∀n∈vx op x y,n=0\/n=1
 |[],_,_,_,n,h=>by simp[vx]at h
 |_::_,[],_,_,n,h=>by simp[vx]at h
 |a::r,b::s,hx,hy,n,h=>by
  rw[vx,aai]at h
  rcases h with h|h
  ·rw[h]
   have h1:=hx a (aag ..)
   have h2:=hy b (aag ..)
   unfold Mo
   rcases h1 with h1|h1<;>rcases h2 with h2|h2<;>rw[h1,h2]<;>(split;· decide)<;>(split<;>decide)
  ·exact Gr op r s (λn hn=>hx n (aab _ hn)) (λn hn=>hy n (aab _ hn)) n h
theorem zH(op:Int):∀(x y:List Int),x.length=y.length->(vx op x y).length=x.length
 |[],_,_=>rfl
 |_::_,[],h=>by simp at h
 |a::r,b::s,h=>by
  rw[vx,aaa,aaa,zH op r s (by simpa using h)]
theorem zX(op:Int)(t:bB)(x y:Int)(h1:1<=t.bits)(h2:t.bits<=31)(hx:inT t.signed t.bits x)(hy:inT t.signed t.bits y):
 H9 (op,t,x,y,())=some (pV t.signed t.bits ((zW op (raw t.bits x) (raw t.bits y):Nat):Int),()):=by
 obtain⟨r1,r2⟩:=Fm (n:=x) h1 h2
 obtain⟨s1,s2⟩:=Fm (n:=y) h1 h2
 have zx:∀n∈gv t.bits.toNat (raw t.bits x),n=0\/n=1:=λn hn=>rV _ _ hn
 have zy:∀n∈gv t.bits.toNat (raw t.bits y),n=0\/n=1:=λn hn=>rV _ _ hn
 have z:=zJ op t (gv t.bits.toNat (raw t.bits x)) (gv t.bits.toNat (raw t.bits y)) (by rw[e8,e8]) zx zy (by rw[e8];omega) t.bits.toNat 0 [] (by rw[e8];omega) rfl
 rw[aad,aap,aap,aao]at z
 have zl:(vx op (gv t.bits.toNat (raw t.bits x)) (gv t.bits.toNat (raw t.bits y))).length=t.bits.toNat:=by rw[zH _ _ _ (by rw[e8,e8]),e8]
 have nl:=yY t _ (Gr op _ _ zx zy) (by rw[zl];omega) t.bits.toNat 0 (by rw[zl];omega) (by rw[abt (by rw[zl];omega)];rfl) (by omega) (by rw[zl];simp)
 rw[zI op _ _ _ r1 s1]at nl
 rw[H9]
 simp only[tJ t x h1 h2 hx,tJ t y h1 h2 hy,Z1,ZY,z]
 rw[Ns]
 simp only[zl]
 rw[w64 (by omega) (by omega),nl]
 simp only[Z1,ZY,iG t _ h1 h2]
end Go.Proofs.YtcghbgmmgcljkaaGreatDoor
end
