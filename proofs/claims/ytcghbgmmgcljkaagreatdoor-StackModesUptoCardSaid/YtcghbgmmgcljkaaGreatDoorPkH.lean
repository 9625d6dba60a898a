/-
  Texts of this claim, joined by a program of mine: what the theorem uses.
-/
import Derived.Test.YtcghbgmmgcljkaaGreatDoorPkF
import Derived.Test.YtcghbgmmgcljkaaGreatDoorPkC
import Derived.Test.YtcghbgmmgcljkaaGreatDoorPkG
open Bool renaming false_eq_true→aaL
open ByteArray renaming mk→aaK
open Int renaming emod_lt_of_pos→ac0,emod_nonneg→acC,mul_tdiv_cancel_left→adO,natCast_zero→aa6,pow_succ→aeh,toNat→abb
open List renaming drop→ac6,mapM→adn,replicate→aa7,take→abY
open Nat renaming pow_le_pow_right→acd
open Option renaming bind_eq_bind→aaM,bind_some→aaJ
open Sum renaming inl→abr,inr→abQ
noncomputable section
set_option linter.unusedVariables false
set_option linter.unusedSimpArgs false
section
namespace Go.Proofs.YtcghbgmmgcljkaaGreatDoor
open Go.Awp Go.Tx
open IntKind (i64)
open Go.Proofs.Tryz (prog)
set_option maxHeartbeats 4000000
set_option maxRecDepth 100000
def eM:Cut SN:=⟨[(0, .bp 100000 0),(2, .sv 100001 13),(8, .bp 8 0),(9, .bp 45 0),(10, .bp 10 0)],[(100000, .box none [Dq3,Dq4,Dq1, .vh 100002,Dq1, .vh 3005,Dq1,Dq6]),(100001,Oq2),(8, .st .myValueT),(45, .box none [.bp 100000 0,Dq5,Dq1,Dq1,Dq1,Dq1,Dq5,Dq4,Dq4,Dq8, .vh 3460, .vh 3461,Dq1,Dq1,Dq9]),(10, .bar 20 .fno),(100002,Oq7),(3005,Oq2),(3460,Oq2),(3461,Oq2)]⟩
def qF:Cut SN:=⟨[(0, .bp 100000 0),(2, .sv 100001 13),(8, .bp 8 0),(9, .bp 45 0)],[(100000, .box none [Dq3,Dq4,Dq1, .vh 100002,Dq1, .vh 3005,Dq1,Dq6]),(100001,Oq2),(8, .st .myValueT),(45, .box none [.bp 100000 0,Dq5,Dq1,Dq1,Dq1,Dq1,Dq5,Dq4,Dq4,Dq8, .vh 3460, .vh 3461,Dq1,Dq1,Dq9]),(100002,Oq7),(3005,Oq2),(3460,Oq2),(3461,Oq2)]⟩
def Ai:Cut SN:=⟨[(0, .bp 100000 0),(2, .sv 100001 13),(3,Dq1),(8, .bp 8 0),(9, .bp 45 0)],[(100000, .box none [Dq3,Dq4,Dq1, .vh 100002,Dq1, .vh 100003,Dq1,Dq6]),(100001,Oq2),(8, .st .myValueT),(45, .box none [.bp 100000 0,Dq5,Dq1,Dq1,Dq1,Dq1,Dq5,Dq4,Dq4,Dq8, .vh 3460, .vh 3461,Dq1,Dq1,Dq9]),(100002,Oq7),(100003,Oq2),(3460,Oq2),(3461,Oq2)]⟩
def Aj:Cut SN:=⟨[(0, .bp 100000 0),(2, .sv 100001 13),(8, .bp 8 0),(9, .bp 45 0),(60,Dq4)],[(100000, .box none [Dq3,Dq4,Dq1, .vh 100002,Dq1, .vh 100003,Dq1,Dq6]),(100001,Oq2),(8, .st .myValueT),(45, .box none [.bp 100000 0,Dq5,Dq1,Dq1,Dq1,Dq1,Dq5,Dq4,Dq4,Dq8, .vh 3460, .vh 3461,Dq1,Dq1,Dq9]),(100002,Oq7),(100003,Oq2),(3460,Oq2),(3461,Oq2)]⟩
def tI:Cut SN:=⟨[(0, .bp 100000 0),(2, .sv 100001 13),(8, .bp 8 0)],[(100000, .box none [Dq3,Dq4,Dq1, .vh 100002,Dq1, .vh 3005,Dq1,Dq6]),(100001,Oq2),(100002,Oq7),(3005,Oq2),(8, .st .myValueT)]⟩
def pO:aN vw:=shL [(0,qF)] tI
def c7:Sig vw:={params:=[.bp 100000 0,Dq1, .sv 100001 13,Dq1],objs:=[(100000, .box none [Dq3,Dq4,Dq1, .vh 100002,Dq1, .vh 100003,Dq1,Dq6]),(100001,Oq2),(100002,Oq7),(100003,Oq2)],rcut:=tI,rvars:=[.cell 8 31],keep:=[100000,100001,100002,3005]}
def Ge:aN vw:={rcut:=kd}
def Bo:Nat->Bool:=λk=>match k with|3000023=>true|3000030=>true|8000059=>true|_=>false
def dm:Sig vw:={params:=[.bp 100000 0,lZ],objs:=[(100000, .box none [.bp 100001 0,Dq5,Dq1,Dq1,Dq1,Dq1,Dq5,Dq4,Dq4,Dq8, .vh 100002, .vh 100003,Dq1,Dq1,Dq9]),(100001, .box none [Dq3,Dq4,Dq1, .vh 100004,Dq1, .vh 100005,Dq1,Dq6]),(100002,Oq2),(100003,Oq2),(100004,Oq7),(100005,Oq2)],rcut:=kd,rvars:=[],keep:=[100000,100001,100002,3011,100004,3015]}
abbrev Tq3:=Int×Int×(List aB)×Bool×Int×Int×Int×(Option bX)×(List aE)×aE×ByteArray×Int×Int×Int×Int×ByteArray×Bool×Bool×(List aQ)×Int×Int×(Option aE)×(List (Option Nat))×(List Int)×(List aE)×(List aE)×(List aE)×Unit
abbrev Tq5:=Int×Int×(List aB)×Bool×Int×Int×Int×(Option bX)×(List aE)×(List Int)×(List aE)×aE×Unit
abbrev Tq4:=Int×Int×(List aB)×Bool×Int×Int×Int×(Option bX)×(List aE)×aE×ByteArray×Int×Int×Int×Int×ByteArray×Bool×Bool×(List aQ)×Int×Int×(Option aE)×(List Int)×(List aE)×(List aE)×(List aE)×Unit
abbrev Tq7:=Int×Int×Int×Int×(List aB)×Bool×Int×Int×Int×(Option bX)×(List aE)×(List Int)×(List aE)×Unit
mutual
noncomputable def aX(v:Tq3):Option (((Tq5)⊕(Tq4))):=let p:=v.2.2;let e:=p.2.2;let q:=e.2.2;let b:=q.2.2;let j:=b.2.2.2.2;let c:=j.2.2.2.2;let k:=c.2.2.2.2;let a:=k.2.2;let d:=a.2.2;let f:=a.2.1;let g:=v.2.1;let h:=d.2.1;let i:=b.2.1;let l:=v.1;let m:=b.1;let n:=a.1;let o:=d.1;let G2:=(f,o,());if k.2.1.isNone=true then if(e.1==40000)=true then d_ ((2:Int),(0:Int),p.1,p.2.1,e.1,e.2.1,q.1,q.2.1,G2)>>=λx1=>let r:=x1.2.2.2.2;if r.2.2.1.length=f.length then if r.2.2.2.1.length=o.length then some (abr ((↑l.toNat:Int),(↑g.toNat:Int),x1.1,x1.2.1,x1.2.2.1,x1.2.2.2.1,r.1,r.2.1,m,r.2.2.1,r.2.2.2.1,aE.mk (aF.mk (0:Int) (0:Int) (aaK #[]) false false) (0:Int) false (aaK #[]) (aF.mk (0:Int) (0:Int) (aaK #[]) false false),()))else none else none else if 0<=k.1 then c.2.2.1[k.1.toNat]?>>=λx1=>let G1:=(x1,b.2.2.1,b.2.2.2.1,j.1,j.2.1,j.2.2.1,j.2.2.2.1,c.1,c.2.1,c.2.2.1,c.2.2.2.1,i64.wrap (k.1+1),k.2.1,p.1,p.2.1,i64.wrap (e.1+1),e.2.1,q.1,q.2.1,h,d.2.2.1,G2);(if 0<=x1.op/\x1.op<(↑(20:Nat):Int)then if x1.op.toNat<(20:Nat)then n[x1.op.toNat]?>>=λx2=>(x2:Option (Nat))>>=λx3=>if x3=(52:Nat)then none else if x3=(53:Nat)then none else if x3=(77:Nat)then fM G1>>=λx4=>let t:=x4.2.2.2.2.2.2;let s:=t.2.2.2.2.2.2;let u:=s.2.2.2.2.2.2;if u.1.length=h.length then if u.2.2.1.length=f.length then if u.2.2.2.1.length=o.length then some (((↑l.toNat:Int),(↑g.toNat:Int),s.1,s.2.1,s.2.2.1,s.2.2.2.1,s.2.2.2.2.1,s.2.2.2.2.2.1,m,i,x4.1,x4.2.1,x4.2.2.1,x4.2.2.2.1,x4.2.2.2.2.1,x4.2.2.2.2.2.1,t.1,t.2.1,t.2.2.1,t.2.2.2.1,t.2.2.2.2.1,t.2.2.2.2.2.1,n,u.2.2.1,u.2.2.2.1,u.1,u.2.1,()))else none else none else none else if x3=(78:Nat)then fN G1>>=λx4=>let z:=x4.2.2.2.2.2.2;let w:=z.2.2.2.2.2.2;let aa:=w.2.2.2.2.2.2;if aa.1.length=h.length then if aa.2.2.1.length=f.length then if aa.2.2.2.1.length=o.length then some (((↑l.toNat:Int),(↑g.toNat:Int),w.1,w.2.1,w.2.2.1,w.2.2.2.1,w.2.2.2.2.1,w.2.2.2.2.2.1,m,i,x4.1,x4.2.1,x4.2.2.1,x4.2.2.2.1,x4.2.2.2.2.1,x4.2.2.2.2.2.1,z.1,z.2.1,z.2.2.1,z.2.2.2.1,z.2.2.2.2.1,z.2.2.2.2.2.1,n,aa.2.2.1,aa.2.2.2.1,aa.1,aa.2.1,()))else none else none else none else if x3=(79:Nat)then fO G1>>=λx4=>let ad:=x4.2.2.2.2.2.2;let ab:=ad.2.2.2.2.2.2;let ac:=ab.2.2.2.2.2.2;if ac.1.length=h.length then if ac.2.2.1.length=f.length then if ac.2.2.2.1.length=o.length then some (((↑l.toNat:Int),(↑g.toNat:Int),ab.1,ab.2.1,ab.2.2.1,ab.2.2.2.1,ab.2.2.2.2.1,ab.2.2.2.2.2.1,m,i,x4.1,x4.2.1,x4.2.2.1,x4.2.2.2.1,x4.2.2.2.2.1,x4.2.2.2.2.2.1,ad.1,ad.2.1,ad.2.2.1,ad.2.2.2.1,ad.2.2.2.2.1,ad.2.2.2.2.2.1,n,ac.2.2.1,ac.2.2.2.1,ac.1,ac.2.1,()))else none else none else none else if x3=(80:Nat)then fP G1>>=λx4=>let ag:=x4.2.2.2.2.2;let ae:=ag.2.2.2.2.2.2;let af:=ae.2.2.2.2.2.2;if af.2.1.length=h.length then if af.2.2.2.1.length=f.length then some (((↑l.toNat:Int),(↑g.toNat:Int),ae.2.1,ae.2.2.1,ae.2.2.2.1,ae.2.2.2.2.1,ae.2.2.2.2.2.1,af.1,m,i,x4.1,x4.2.1,x4.2.2.1,x4.2.2.2.1,x4.2.2.2.2.1,ag.1,ag.2.1,ag.2.2.1,ag.2.2.2.1,ag.2.2.2.2.1,ag.2.2.2.2.2.1,ae.1,n,af.2.2.2.1,af.2.2.2.2.1,af.2.1,af.2.2.1,()))else none else none else if x3=(81:Nat)then fQ G1>>=λx4=>let aj:=x4.2.2.2.2.2.2;let ah:=aj.2.2.2.2.2.2;let ai:=ah.2.2.2.2.2.2;if ai.1.length=h.length then if ai.2.2.1.length=f.length then if ai.2.2.2.1.length=o.length then some (((↑l.toNat:Int),(↑g.toNat:Int),ah.1,ah.2.1,ah.2.2.1,ah.2.2.2.1,ah.2.2.2.2.1,ah.2.2.2.2.2.1,m,i,x4.1,x4.2.1,x4.2.2.1,x4.2.2.2.1,x4.2.2.2.2.1,x4.2.2.2.2.2.1,aj.1,aj.2.1,aj.2.2.1,aj.2.2.2.1,aj.2.2.2.2.1,aj.2.2.2.2.2.1,n,ai.2.2.1,ai.2.2.2.1,ai.1,ai.2.1,()))else none else none else none else if x3=(82:Nat)then fR G1>>=λx4=>let am:=x4.2.2.2.2.2.2;let ak:=am.2.2.2.2.2.2;let al:=ak.2.2.2.2.2.2;if al.1.length=h.length then if al.2.2.1.length=f.length then if al.2.2.2.1.length=o.length then some (((↑l.toNat:Int),(↑g.toNat:Int),ak.1,ak.2.1,ak.2.2.1,ak.2.2.2.1,ak.2.2.2.2.1,ak.2.2.2.2.2.1,m,i,x4.1,x4.2.1,x4.2.2.1,x4.2.2.2.1,x4.2.2.2.2.1,x4.2.2.2.2.2.1,am.1,am.2.1,am.2.2.1,am.2.2.2.1,am.2.2.2.2.1,am.2.2.2.2.2.1,n,al.2.2.1,al.2.2.2.1,al.1,al.2.1,()))else none else none else none else if x3=(83:Nat)then fS G1>>=λx4=>let ap:=x4.2.2.2.2.2.2;let an:=ap.2.2.2.2.2.2;let ao:=an.2.2.2.2.2.2;if ao.1.length=h.length then if ao.2.2.1.length=f.length then if ao.2.2.2.1.length=o.length then some (((↑l.toNat:Int),(↑g.toNat:Int),an.1,an.2.1,an.2.2.1,an.2.2.2.1,an.2.2.2.2.1,an.2.2.2.2.2.1,m,i,x4.1,x4.2.1,x4.2.2.1,x4.2.2.2.1,x4.2.2.2.2.1,x4.2.2.2.2.2.1,ap.1,ap.2.1,ap.2.2.1,ap.2.2.2.1,ap.2.2.2.2.1,ap.2.2.2.2.2.1,n,ao.2.2.1,ao.2.2.2.1,ao.1,ao.2.1,()))else none else none else none else if x3=(84:Nat)then fT G1>>=λx4=>let au:=x4.2.2.2.2.2.2;let aq:=au.2.2.2.2.2.2;let ar:=aq.2.2.2.2.2.2;if ar.1.length=h.length then if ar.2.2.1.length=f.length then if ar.2.2.2.1.length=o.length then some (((↑l.toNat:Int),(↑g.toNat:Int),aq.1,aq.2.1,aq.2.2.1,aq.2.2.2.1,aq.2.2.2.2.1,aq.2.2.2.2.2.1,m,i,x4.1,x4.2.1,x4.2.2.1,x4.2.2.2.1,x4.2.2.2.2.1,x4.2.2.2.2.2.1,au.1,au.2.1,au.2.2.1,au.2.2.2.1,au.2.2.2.2.1,au.2.2.2.2.2.1,n,ar.2.2.1,ar.2.2.2.1,ar.1,ar.2.1,()))else none else none else none else if x3=(85:Nat)then fU G1>>=λx4=>let ax:=x4.2.2.2.2.2.2;let av:=ax.2.2.2.2.2.2;let aw:=av.2.2.2.2.2.2;if aw.1.length=h.length then if aw.2.2.1.length=f.length then if aw.2.2.2.1.length=o.length then some (((↑l.toNat:Int),(↑g.toNat:Int),av.1,av.2.1,av.2.2.1,av.2.2.2.1,av.2.2.2.2.1,av.2.2.2.2.2.1,m,i,x4.1,x4.2.1,x4.2.2.1,x4.2.2.2.1,x4.2.2.2.2.1,x4.2.2.2.2.2.1,ax.1,ax.2.1,ax.2.2.1,ax.2.2.2.1,ax.2.2.2.2.1,ax.2.2.2.2.2.1,n,aw.2.2.1,aw.2.2.2.1,aw.1,aw.2.1,()))else none else none else none else if x3=(86:Nat)then fV G1>>=λx4=>let ba:=x4.2.2.2.2.2.2;let ay:=ba.2.2.2.2.2.2;let az:=ay.2.2.2.2.2.2;if az.1.length=h.length then if az.2.2.1.length=f.length then if az.2.2.2.1.length=o.length then some (((↑l.toNat:Int),(↑g.toNat:Int),ay.1,ay.2.1,ay.2.2.1,ay.2.2.2.1,ay.2.2.2.2.1,ay.2.2.2.2.2.1,m,i,x4.1,x4.2.1,x4.2.2.1,x4.2.2.2.1,x4.2.2.2.2.1,x4.2.2.2.2.2.1,ba.1,ba.2.1,ba.2.2.1,ba.2.2.2.1,ba.2.2.2.2.1,ba.2.2.2.2.2.1,n,az.2.2.1,az.2.2.2.1,az.1,az.2.1,()))else none else none else none else if x3=(87:Nat)then fW G1>>=λx4=>let bd:=x4.2.2.2.2.2.2;let bb:=bd.2.2.2.2.2.2;let bc:=bb.2.2.2.2.2.2;if bc.1.length=h.length then if bc.2.2.1.length=f.length then if bc.2.2.2.1.length=o.length then some (((↑l.toNat:Int),(↑g.toNat:Int),bb.1,bb.2.1,bb.2.2.1,bb.2.2.2.1,bb.2.2.2.2.1,bb.2.2.2.2.2.1,m,i,x4.1,x4.2.1,x4.2.2.1,x4.2.2.2.1,x4.2.2.2.2.1,x4.2.2.2.2.2.1,bd.1,bd.2.1,bd.2.2.1,bd.2.2.2.1,bd.2.2.2.2.1,bd.2.2.2.2.2.1,n,bc.2.2.1,bc.2.2.2.1,bc.1,bc.2.1,()))else none else none else none else if x3=(88:Nat)then fX G1>>=λx4=>let bg:=x4.2.2.2.2.2.2;let be:=bg.2.2.2.2.2.2;let bf:=be.2.2.2.2.2.2;if bf.1.length=h.length then if bf.2.2.1.length=f.length then if bf.2.2.2.1.length=o.length then some (((↑l.toNat:Int),(↑g.toNat:Int),be.1,be.2.1,be.2.2.1,be.2.2.2.1,be.2.2.2.2.1,be.2.2.2.2.2.1,m,i,x4.1,x4.2.1,x4.2.2.1,x4.2.2.2.1,x4.2.2.2.2.1,x4.2.2.2.2.2.1,bg.1,bg.2.1,bg.2.2.1,bg.2.2.2.1,bg.2.2.2.2.1,bg.2.2.2.2.2.1,n,bf.2.2.1,bf.2.2.2.1,bf.1,bf.2.1,()))else none else none else none else if x3=(89:Nat)then fY G1>>=λx4=>let bj:=x4.2.2.2.2.2.2;let bh:=bj.2.2.2.2.2.2;let bi:=bh.2.2.2.2.2.2;if bi.1.length=h.length then if bi.2.2.1.length=f.length then if bi.2.2.2.1.length=o.length then some (((↑l.toNat:Int),(↑g.toNat:Int),bh.1,bh.2.1,bh.2.2.1,bh.2.2.2.1,bh.2.2.2.2.1,bh.2.2.2.2.2.1,m,i,x4.1,x4.2.1,x4.2.2.1,x4.2.2.2.1,x4.2.2.2.2.1,x4.2.2.2.2.2.1,bj.1,bj.2.1,bj.2.2.1,bj.2.2.2.1,bj.2.2.2.2.1,bj.2.2.2.2.2.1,n,bi.2.2.1,bi.2.2.2.1,bi.1,bi.2.1,()))else none else none else none else if x3=(90:Nat)then fZ G1>>=λx4=>let bm:=x4.2.2.2.2.2.2;let bk:=bm.2.2.2.2.2.2;let bl:=bk.2.2.2.2.2.2;if bl.1.length=h.length then if bl.2.1.length=d.2.2.1.length then if bl.2.2.1.length=f.length then if bl.2.2.2.1.length=o.length then some (((↑l.toNat:Int),(↑g.toNat:Int),bk.1,bk.2.1,bk.2.2.1,bk.2.2.2.1,bk.2.2.2.2.1,bk.2.2.2.2.2.1,m,i,x4.1,x4.2.1,x4.2.2.1,x4.2.2.2.1,x4.2.2.2.2.1,x4.2.2.2.2.2.1,bm.1,bm.2.1,bm.2.2.1,bm.2.2.2.1,bm.2.2.2.2.1,bm.2.2.2.2.2.1,n,bl.2.2.1,bl.2.2.2.1,bl.1,bl.2.1,()))else none else none else none else none else if x3=(91:Nat)then f5 G1>>=λx4=>let bp:=x4.2.2.2.2.2.2;let bn:=bp.2.2.2.2.2.2;let bo:=bn.2.2.2.2.2.2;if bo.1.length=h.length then if bo.2.1.length=d.2.2.1.length then if bo.2.2.1.length=f.length then if bo.2.2.2.1.length=o.length then some (((↑l.toNat:Int),(↑g.toNat:Int),bn.1,bn.2.1,bn.2.2.1,bn.2.2.2.1,bn.2.2.2.2.1,bn.2.2.2.2.2.1,m,i,x4.1,x4.2.1,x4.2.2.1,x4.2.2.2.1,x4.2.2.2.2.1,x4.2.2.2.2.2.1,bp.1,bp.2.1,bp.2.2.1,bp.2.2.2.1,bp.2.2.2.2.1,bp.2.2.2.2.2.1,n,bo.2.2.1,bo.2.2.2.1,bo.1,bo.2.1,()))else none else none else none else none else if x3=(92:Nat)then f7 G1>>=λx4=>let bs:=x4.2.2.2.2.2.2;let bq:=bs.2.2.2.2.2.2;let br:=bq.2.2.2.2.2.2;if br.1.length=h.length then if br.2.2.1.length=f.length then if br.2.2.2.1.length=o.length then some (((↑l.toNat:Int),(↑g.toNat:Int),bq.1,bq.2.1,bq.2.2.1,bq.2.2.2.1,bq.2.2.2.2.1,bq.2.2.2.2.2.1,m,i,x4.1,x4.2.1,x4.2.2.1,x4.2.2.2.1,x4.2.2.2.2.1,x4.2.2.2.2.2.1,bs.1,bs.2.1,bs.2.2.1,bs.2.2.2.1,bs.2.2.2.2.1,bs.2.2.2.2.2.1,n,br.2.2.1,br.2.2.2.1,br.1,br.2.1,()))else none else none else none else if x3=(93:Nat)then n_93sae8a G1>>=λx4=>let bv:=x4.2.2.2.2.2;let bt:=bv.2.2.2.2.2.2;let bu:=bt.2.2.2.2.2.2;if bu.2.1.length=h.length then if bu.2.2.2.1.length=f.length then some (((↑l.toNat:Int),(↑g.toNat:Int),bt.2.1,bt.2.2.1,bt.2.2.2.1,bt.2.2.2.2.1,bt.2.2.2.2.2.1,bu.1,m,i,x4.1,x4.2.1,x4.2.2.1,x4.2.2.2.1,x4.2.2.2.2.1,bv.1,bv.2.1,bv.2.2.1,bv.2.2.2.1,bv.2.2.2.2.1,bv.2.2.2.2.2.1,bt.1,n,bu.2.2.2.1,bu.2.2.2.2.1,bu.2.1,bu.2.2.1,()))else none else none else if x3=(94:Nat)then f8 G1>>=λx4=>let bz:=x4.2.2.2.2.2.2;let bw:=bz.2.2.2.2.2.2;let bx:=bw.2.2.2.2.2.2;if bx.1.length=h.length then if bx.2.2.1.length=f.length then if bx.2.2.2.1.length=o.length then some (((↑l.toNat:Int),(↑g.toNat:Int),bw.1,bw.2.1,bw.2.2.1,bw.2.2.2.1,bw.2.2.2.2.1,bw.2.2.2.2.2.1,m,i,x4.1,x4.2.1,x4.2.2.1,x4.2.2.2.1,x4.2.2.2.2.1,x4.2.2.2.2.2.1,bz.1,bz.2.1,bz.2.2.1,bz.2.2.2.1,bz.2.2.2.2.1,bz.2.2.2.2.2.1,n,bx.2.2.1,bx.2.2.2.1,bx.1,bx.2.1,()))else none else none else none else if x3=(95:Nat)then f_ G1>>=λx4=>let cc:=x4.2.2.2.2.2.2;let ca:=cc.2.2.2.2.2.2;let cb:=ca.2.2.2.2.2.2;if cb.1.length=h.length then if cb.2.2.1.length=f.length then if cb.2.2.2.1.length=o.length then some (((↑l.toNat:Int),(↑g.toNat:Int),ca.1,ca.2.1,ca.2.2.1,ca.2.2.2.1,ca.2.2.2.2.1,ca.2.2.2.2.2.1,m,i,x4.1,x4.2.1,x4.2.2.1,x4.2.2.2.1,x4.2.2.2.2.1,x4.2.2.2.2.2.1,cc.1,cc.2.1,cc.2.2.1,cc.2.2.2.1,cc.2.2.2.2.1,cc.2.2.2.2.2.1,n,cb.2.2.1,cb.2.2.2.1,cb.1,cb.2.1,()))else none else none else none else if x3=(96:Nat)then ga G1>>=λx4=>let cf:=x4.2.2.2.2.2.2;let cd:=cf.2.2.2.2.2.2;let ce:=cd.2.2.2.2.2.2;if ce.1.length=h.length then if ce.2.1.length=d.2.2.1.length then if ce.2.2.1.length=f.length then if ce.2.2.2.1.length=o.length then some (((↑l.toNat:Int),(↑g.toNat:Int),cd.1,cd.2.1,cd.2.2.1,cd.2.2.2.1,cd.2.2.2.2.1,cd.2.2.2.2.2.1,m,i,x4.1,x4.2.1,x4.2.2.1,x4.2.2.2.1,x4.2.2.2.2.1,x4.2.2.2.2.2.1,cf.1,cf.2.1,cf.2.2.1,cf.2.2.2.1,cf.2.2.2.2.1,cf.2.2.2.2.2.1,n,ce.2.2.1,ce.2.2.2.1,ce.1,ce.2.1,()))else none else none else none else none else none else none else none)>>=λx2=>let cg:=x2.2.2.2.2.2;let ch:=cg.2.2.2.2.2.2.2.2.2.2.2.2.2.2.2.2.2.2;if cg.2.2.1.isSome=true then some (abr ((↑x2.1.toNat:Int),(↑x2.2.1.toNat:Int),x2.2.2.1,x2.2.2.2.1,x2.2.2.2.2.1,cg.1,cg.2.1,cg.2.2.1,cg.2.2.2.1,ch.1,ch.2.1,aE.mk (aF.mk (0:Int) (0:Int) (aaK #[]) false false) (0:Int) false (aaK #[]) (aF.mk (0:Int) (0:Int) (aaK #[]) false false),()))else aX ((↑x2.1.toNat:Int),(↑x2.2.1.toNat:Int),x2.2.2)else none else some (abQ ((↑l.toNat:Int),(↑g.toNat:Int),p.1,p.2.1,e.1,e.2.1,q.1,q.2.1,m,i,b.2.2.1,b.2.2.2.1,j.1,j.2.1,j.2.2.1,j.2.2.2.1,c.1,c.2.1,c.2.2.1,c.2.2.2.1,k.1,k.2.1,a.2)) partial_fixpoint
noncomputable def n_93sae8a(v:Tq2):Option (Tq1):=let g:=v.2.2.2;let d:=g.2.2.2.2;let f:=d.2.2.2;let a:=f.2.2.2;let c:=a.2.2.2.2.2.2;let e:=c.2.1;let G2:=(i64.wrap ((↑e.length:Int) -v.1.b));if 0<=i64.wrap ((↑e.length:Int) -v.1.b)/\i64.wrap ((↑e.length:Int) -v.1.b)<=(↑e.length:Int)/\(↑e.length:Int)<=(↑e.length:Int)then if(0:Int)<=0/\0<=i64.wrap ((↑e.length:Int) -v.1.b)/\i64.wrap ((↑e.length:Int) -v.1.b)<=(↑e.length:Int)then LU (a.1,v.1.name0,())>>=λx1=>n_40s78a4 (x1.1,(↑G2.toNat:Int),(↑((↑e.length:Int).toNat-G2.toNat):Int),i64.wrap (f.1+1),a.1,a.2.1,a.2.2.1,a.2.2.2.1,a.2.2.2.2.1,a.2.2.2.2.2.1,c.2)>>=λx2=>let i:=x2.2.2.2;let h:=i.2.2.2.2;let G1:=(v.2.1,v.2.2.1,g.1,g.2.1,g.2.2.1,g.2.2.2.1,d.1,d.2.1,d.2.2.1,f.1,f.2.1,f.2.2.1,x2.2.2.1,i.1,i.2.1,i.2.2.1,i.2.2.2.1,h.1,c.1,abY (G2.toNat-abb 0) h.2.1,h.2.2.1,h.2.2.2.1,());if h.2.1.length=e.length then if h.2.2.1.length=c.2.2.1.length then if G2.toNat-abb 0<=h.2.1.length then if h.1.isNone=true then cM (h.2.2.2.2.1,G1)>>=λx3=>let j:=x3.2.2.2.2.2.2.2.2.2.2.2.2.2.2.2.2.2.2;if j.1.length=c.1.length then if j.2.2.1.length=h.2.2.1.length then if j.2.2.2.1.length=h.2.2.2.1.length then some (x3)else none else none else none else some (G1)else none else none else none else none else none partial_fixpoint
noncomputable def n_40s78a4(v:Tq7):Option (Tq5):=let b:=v.2.2.2;let a:=b.2.2.2.2;let c:=a.2.2.2.2;if decide (b.1>30)=true then d_ ((2:Int),(0:Int),b.2.1,b.2.2.1,b.2.2.2.1,a.1,a.2.1,a.2.2.1,c)>>=λx1=>let d:=x1.2.2.2.2;if d.2.2.1.length=c.1.length then if d.2.2.2.1.length=c.2.1.length then some (((↑v.2.1.toNat:Int),(↑v.2.2.1.toNat:Int),x1.1,x1.2.1,x1.2.2.1,x1.2.2.2.1,d.1,d.2.1,a.2.2.2.1,d.2.2.1,d.2.2.2.1,aE.mk (aF.mk (0:Int) (0:Int) (aaK #[]) false false) (0:Int) false (aaK #[]) (aF.mk (0:Int) (0:Int) (aaK #[]) false false),()))else none else none else if 0<=v.1/\v.1<(↑c.1.length:Int)then c.1[v.1.toNat]?>>=λx1=>if 0<=v.1/\v.1<(↑c.1.length:Int)then c.1[v.1.toNat]?>>=λx2=>(if 0<=v.1 then b.2.1[v.1.toNat]?>>=λx3=>if 0<=v.1 then b.2.1[v.1.toNat]?>>=λx4=>if 0<=x4.places then if x4.places<=4294967296 then some (((↑v.2.1.toNat:Int),(↑v.2.2.1.toNat:Int),b.1,b.2.1,b.2.2.1,b.2.2.2.1,a.1,a.2.1,a.2.2.1,a.2.2.2.1,aE.mk (aF.mk (0:Int) (0:Int) (aaK #[]) false false) (0:Int) false (aaK #[]) (aF.mk (0:Int) (0:Int) (aaK #[]) false false),x3.name0,x3.params,x3.places,x3.type0.base,x3.type0.bits,x3.type0.name0,x3.type0.opt,x3.type0.err,x3.code,b.1,(0:Int),none,c.1.set v.1.toNat (i64.wrap (x1+1)),c.2.1,aa7 x4.places.toNat (aE.mk (aF.mk (0:Int) (0:Int) (aaK #[]) false false) (0:Int) false (aaK #[]) (aF.mk (0:Int) (0:Int) (aaK #[]) false false)),[],()))else none else none else none else none)>>=λx3=>let j:=x3.2;let g:=j.2.2.2.2;let e:=g.2.2.2.2;let h:=e.2.2.2.2;let f:=h.2.2.2.2.2;let i:=f.2.2.2.2;let G1:=(j.2.2.1,j.2.2.2.1,g.1,g.2.1,g.2.2.1,g.2.2.2.1,e.1,e.2.1,e.2.2.1,e.2.2.2.1,h.1,h.2.1,h.2.2.1,h.2.2.2.1,h.2.2.2.2.1,f.1,f.2.1,f.2.2.1,f.2.2.2.1,i.1,i.2.1,i.2.2.1,abY i.2.2.2.1.length (abY j.1.toNat (ac6 x3.1.toNat e.1))++ac6 j.1.toNat i.2.2.2.1,i.2.2.2.2);if x3.1.toNat+j.1.toNat<=e.1.length then((if(j.2.1==1)=true then some (((↑x3.1.toNat:Int),(↑j.1.toNat:Int),decide (g.2.1>=0),G1))else some (((↑x3.1.toNat:Int),(↑j.1.toNat:Int),false,G1)))>>=λx4=>let o:=x4.2.2.2;let l:=o.2.2.2;let n:=l.2.2.2.2;let k:=n.2.2.2.2;let q:=k.2.2.2;let m:=q.2.2.2.2;let p:=m.2.2.2;if x4.2.2.1=true then if 0<=l.1/\l.1<(↑p.2.1.length:Int)then p.2.1[l.1.toNat]?>>=λx5=>if p.1.length+[x5].length<=4294967296 then some (((↑x4.1.toNat:Int),(↑x4.2.1.toNat:Int),o.1,o.2.1,o.2.2.1,l.1,l.2.1,l.2.2.1,l.2.2.2.1,n.1,n.2.1,n.2.2.1,n.2.2.2.1,k.1,k.2.1,k.2.2.1,q.1,q.2.1,q.2.2.1,q.2.2.2.1,m.1,m.2.1,m.2.2.1,p.1++[x5],p.2))else none else none else some (((↑x4.1.toNat:Int),(↑x4.2.1.toNat:Int),o)))>>=λx4=>let s:=x4.2.2.2.2.2;let r:=s.2.2.2.2.2.2;let t:=r.2.2.2.2.2;Re ()>>=λx5=>aX ((↑x4.1.toNat:Int),(↑x4.2.1.toNat:Int),x4.2.2.1,x4.2.2.2.1,x4.2.2.2.2.1,s.1,s.2.1,s.2.2.1,s.2.2.2.1,s.2.2.2.2.1,s.2.2.2.2.2.1,r.1,r.2.1,r.2.2.1,r.2.2.2.1,r.2.2.2.2.1,t.1,t.2.1,t.2.2.1,t.2.2.2.1,t.2.2.2.2.1,t.2.2.2.2.2.1,x5.1,t.2.2.2.2.2.2)>>=λx6=>match x6 with| .inl y6=>some y6| .inr y6=>let w:=y6.2.2.2.2;let u:=w.2.2.2.2.2.2.2.2.2.2.2.2.2.2.2.2.2;(u.1:Option (aE))>>=λx7=>some (((↑y6.1.toNat:Int),(↑y6.2.1.toNat:Int),y6.2.2.1,y6.2.2.2.1,w.1,w.2.1,w.2.2.1,w.2.2.2.1,w.2.2.2.2.1,u.2.1,u.2.2.1,x7,()))else none else none else none partial_fixpoint
end
def jS(aX:Tq3->Option (((Tq5)⊕(Tq4))))(n_93sae8a:Tq2->Option (Tq1))(n_40s78a4:Tq7->Option (Tq5)):dh vw:=λA fid args S k=>if fid=52 then cz prog rz d_ A args S k else if fid=53 then cv prog SM Re A args S k else if fid=77 then cz prog rA fM A args S k else if fid=78 then cz prog rB fN A args S k else if fid=79 then cz prog rC fO A args S k else if fid=80 then cz prog rD fP A args S k else if fid=81 then cz prog rE fQ A args S k else if fid=82 then cz prog rF fR A args S k else if fid=83 then cz prog rG fS A args S k else if fid=84 then cz prog rH fT A args S k else if fid=85 then cz prog rI fU A args S k else if fid=86 then cz prog rJ fV A args S k else if fid=87 then cz prog rK fW A args S k else if fid=88 then cz prog rL fX A args S k else if fid=89 then cz prog rM fY A args S k else if fid=90 then cz prog rN fZ A args S k else if fid=91 then cz prog rO f5 A args S k else if fid=92 then cz prog rP f7 A args S k else if fid=93 then cz prog dm n_93sae8a A args S k else if fid=94 then cz prog rQ f8 A args S k else if fid=95 then cz prog rR f_ A args S k else if fid=96 then cz prog rS ga A args S k else none
def dP(aX:Tq3->Option (((Tq5)⊕(Tq4))))(n_93sae8a:Tq2->Option (Tq1))(n_40s78a4:Tq7->Option (Tq5)):Xc vw:={P:=prog,n:=138,call:=jS aX n_93sae8a n_40s78a4,pre:=Jy,sh:=pO,joins:=λk=>match k with|9=>some (qF,[.norm])|_=>none,regs:=λk=>match k with|5=>some Ai|7=>some Aj|17=>some eM|_=>none,loops:=λk=>match k with|10=>some {cut:=eM,alts:=[.ret, .exit 0],F:=aX}|_=>none}
def oy(aX:Tq3->Option (((Tq5)⊕(Tq4))))(n_93sae8a:Tq2->Option (Tq1))(n_40s78a4:Tq7->Option (Tq5)):dh vw:=λA fid args S k=>match fid with|39=>cv prog SL LU A args S k|40=>cz prog c7 n_40s78a4 A args S k|120=>cz prog pP cM A args S k|_=>none
def jF(aX:Tq3->Option (((Tq5)⊕(Tq4))))(n_93sae8a:Tq2->Option (Tq1))(n_40s78a4:Tq7->Option (Tq5)):Xc vw:={P:=prog,n:=70,call:=oy aX n_93sae8a n_40s78a4,pre:=Bo,sh:=Ge}
abbrev dD(v:Tq3)(r:((Tq5)⊕(Tq4))):Prop:=(λv out=>∀C:Ctx,C.P=prog->C.N=138/\Fx C Jy->qf C (aS (aO Tryz.f40) 0) (Go.Tx.a_ vw (fk vw eM v)) (xZ pO [.ret, .exit 0] out)) v r
abbrev gQ(v:Tq2)(r:Tq1):Prop:=(λv r=>∀x,GO prog dm r=some x->l_ prog 93 (encL vw (cE dm v).len (d7 dm v).1) (eP (cE dm v).len (cE dm v).own) (aL vw (fk vw dm.rcut r).len x) (eP (fk vw dm.rcut r).len (ql dm r))) v r
abbrev gO(v:Tq7)(r:Tq5):Prop:=(λv r=>∀x,GO prog c7 r=some x->l_ prog 40 (encL vw (cE c7 v).len (d7 c7 v).1) (eP (cE c7 v).len (cE c7 v).own) (aL vw (fk vw c7.rcut r).len x) (eP (fk vw c7.rcut r).len (ql c7 r))) v r
theorem sf(f0:Tq3->Option (((Tq5)⊕(Tq4))))(f1:Tq2->Option (Tq1))(h0:∀v r,f0 v=some r->dD v r)(h1:∀v r,f1 v=some r->gQ v r):bH prog (dP f0 f1 (λ_=>none)).call:=(by
 intro A fid args S dst k r h
 unfold dP jS at h
 simp only at h
 rcases bJ h with⟨e,h⟩|⟨e,h⟩
 ·subst e;exact aP (gu) h
 ·
  rcases bJ h with⟨e,h⟩|⟨e,h⟩
  ·subst e;exact aR (EW) rfl rfl h
  ·
   rcases bJ h with⟨e,h⟩|⟨e,h⟩
   ·subst e;exact aP (mu) h
   ·
    rcases bJ h with⟨e,h⟩|⟨e,h⟩
    ·subst e;exact aP (mv) h
    ·
     rcases bJ h with⟨e,h⟩|⟨e,h⟩
     ·subst e;exact aP (mw) h
     ·
      rcases bJ h with⟨e,h⟩|⟨e,h⟩
      ·subst e;exact aP (my) h
      ·
       rcases bJ h with⟨e,h⟩|⟨e,h⟩
       ·subst e;exact aP (mz) h
       ·
        rcases bJ h with⟨e,h⟩|⟨e,h⟩
        ·subst e;exact aP (mA) h
        ·
         rcases bJ h with⟨e,h⟩|⟨e,h⟩
         ·subst e;exact aP (mB) h
         ·
          rcases bJ h with⟨e,h⟩|⟨e,h⟩
          ·subst e;exact aP (mC) h
          ·
           rcases bJ h with⟨e,h⟩|⟨e,h⟩
           ·subst e;exact aP (mD) h
           ·
            rcases bJ h with⟨e,h⟩|⟨e,h⟩
            ·subst e;exact aP (mE) h
            ·
             rcases bJ h with⟨e,h⟩|⟨e,h⟩
             ·subst e;exact aP (mF) h
             ·
              rcases bJ h with⟨e,h⟩|⟨e,h⟩
              ·subst e;exact aP (mG) h
              ·
               rcases bJ h with⟨e,h⟩|⟨e,h⟩
               ·subst e;exact aP (mH) h
               ·
                rcases bJ h with⟨e,h⟩|⟨e,h⟩
                ·subst e;exact aP (mI) h
                ·
                 rcases bJ h with⟨e,h⟩|⟨e,h⟩
                 ·subst e;exact aP (mJ) h
                 ·
                  rcases bJ h with⟨e,h⟩|⟨e,h⟩
                  ·subst e;exact aP (mK) h
                  ·
                   rcases bJ h with⟨e,h⟩|⟨e,h⟩
                   ·subst e;exact aP ((λv r x h hx=>h1 v r h x hx)) h
                   ·
                    rcases bJ h with⟨e,h⟩|⟨e,h⟩
                    ·subst e;exact aP (mL) h
                    ·
                     rcases bJ h with⟨e,h⟩|⟨e,h⟩
                     ·subst e;exact aP (mM) h
                     ·
                      rcases bJ h with⟨e,h⟩|⟨e,h⟩
                      ·subst e;exact aP (mN) h
                      ·
                       cases h)
theorem tc(f0:Tq3->Option (((Tq5)⊕(Tq4))))(f1:Tq2->Option (Tq1))(h0:∀v r,f0 v=some r->dD v r)(h1:∀v r,f1 v=some r->gQ v r)(v:Tq3)(r:((Tq5)⊕(Tq4)))(h:exL (dP f0 f1 (λ_=>none)) (aS (aO Tryz.f40) 0) eM [.ret, .exit 0] f0 v=some r):dD v r:=λC hP hN=>gM (X:=dP f0 f1 (λ_=>none)) (b:=(aS (aO Tryz.f40) 0)) hP hN Ty.mixed (sf f0 f1 h0 h1) (eT (X:=dP f0 f1 (λ_=>none)) (c:=(aS (aO Tryz.f40) 0)) (fH (by kernel_rfl:True=qe (e7 C (dP f0 f1 (λ_=>none))) (cB (aS (aO Tryz.f40) 0))) trivial)) (cut:=eM) (alts:=[.ret, .exit 0]) (F:=f0) (λv out h=>h0 v out h C hP hN) h
theorem As(f0:Tq7->Option (Tq5))(h0:∀v r,f0 v=some r->gO v r):bH prog (jF (λ_=>none) (λ_=>none) f0).call:=(by
 intro A fid args S dst k r h
 unfold jF oy at h
 simp only at h
 split at h
 ·exact aR (EN) rfl rfl h
 ·exact aP ((λv r x h hx=>h0 v r h x hx)) h
 ·exact aP (cJ) h
 ·cases h)
theorem BT(f0:Tq7->Option (Tq5))(h0:∀v r,f0 v=some r->gO v r)(v:Tq2)(r:Tq1)(h:exF (jF (λ_=>none) (λ_=>none) f0) dm rfl (aO Tryz.f93) v=some r):gQ v r:=λx hx=>AD (X:=jF (λ_=>none) (λ_=>none) f0) (sig:=dm) rfl Tryz.func93 (c:=aO Tryz.f93) (by kernel_rfl) Tryz.ntmps93 (by kernel_rfl) (by kernel_rfl) rfl Ty.mixed (As f0 h0) rfl (λC hP hN=>(eT (X:=jF (λ_=>none) (λ_=>none) f0) (c:=(aO Tryz.f93)) (fH (by kernel_rfl:True=qe (e7 C (jF (λ_=>none) (λ_=>none) f0)) (cB (aO Tryz.f93))) trivial))) h x hx
theorem Aq(f0:Tq3->Option (((Tq5)⊕(Tq4))))(h0:∀v r,f0 v=some r->dD v r):bH prog (dP f0 (λ_=>none) (λ_=>none)).call:=(by
 intro A fid args S dst k r h
 unfold dP jS at h
 simp only at h
 rcases bJ h with⟨e,h⟩|⟨e,h⟩
 ·subst e;exact aP (gu) h
 ·
  rcases bJ h with⟨e,h⟩|⟨e,h⟩
  ·subst e;exact aR (EW) rfl rfl h
  ·
   rcases bJ h with⟨e,h⟩|⟨e,h⟩
   ·subst e;exact aP (mu) h
   ·
    rcases bJ h with⟨e,h⟩|⟨e,h⟩
    ·subst e;exact aP (mv) h
    ·
     rcases bJ h with⟨e,h⟩|⟨e,h⟩
     ·subst e;exact aP (mw) h
     ·
      rcases bJ h with⟨e,h⟩|⟨e,h⟩
      ·subst e;exact aP (my) h
      ·
       rcases bJ h with⟨e,h⟩|⟨e,h⟩
       ·subst e;exact aP (mz) h
       ·
        rcases bJ h with⟨e,h⟩|⟨e,h⟩
        ·subst e;exact aP (mA) h
        ·
         rcases bJ h with⟨e,h⟩|⟨e,h⟩
         ·subst e;exact aP (mB) h
         ·
          rcases bJ h with⟨e,h⟩|⟨e,h⟩
          ·subst e;exact aP (mC) h
          ·
           rcases bJ h with⟨e,h⟩|⟨e,h⟩
           ·subst e;exact aP (mD) h
           ·
            rcases bJ h with⟨e,h⟩|⟨e,h⟩
            ·subst e;exact aP (mE) h
            ·
             rcases bJ h with⟨e,h⟩|⟨e,h⟩
             ·subst e;exact aP (mF) h
             ·
              rcases bJ h with⟨e,h⟩|⟨e,h⟩
              ·subst e;exact aP (mG) h
              ·
               rcases bJ h with⟨e,h⟩|⟨e,h⟩
               ·subst e;exact aP (mH) h
               ·
                rcases bJ h with⟨e,h⟩|⟨e,h⟩
                ·subst e;exact aP (mI) h
                ·
                 rcases bJ h with⟨e,h⟩|⟨e,h⟩
                 ·subst e;exact aP (mJ) h
                 ·
                  rcases bJ h with⟨e,h⟩|⟨e,h⟩
                  ·subst e;exact aP (mK) h
                  ·
                   rcases bJ h with⟨e,h⟩|⟨e,h⟩
                   ·subst e;exact aP ((λv r x h hx=>by cases h)) h
                   ·
                    rcases bJ h with⟨e,h⟩|⟨e,h⟩
                    ·subst e;exact aP (mL) h
                    ·
                     rcases bJ h with⟨e,h⟩|⟨e,h⟩
                     ·subst e;exact aP (mM) h
                     ·
                      rcases bJ h with⟨e,h⟩|⟨e,h⟩
                      ·subst e;exact aP (mN) h
                      ·
                       cases h)
theorem BR(f0:Tq3->Option (((Tq5)⊕(Tq4))))(h0:∀v r,f0 v=some r->dD v r)(v:Tq7)(r:Tq5)(h:exF (dP f0 (λ_=>none) (λ_=>none)) c7 rfl (aO Tryz.f40) v=some r):gO v r:=λx hx=>AD (X:=dP f0 (λ_=>none) (λ_=>none)) (sig:=c7) rfl Tryz.func40 (c:=aO Tryz.f40) (by kernel_rfl) Tryz.ntmps40 (by kernel_rfl) (by kernel_rfl) rfl Ty.mixed (Aq f0 h0) rfl (λC hP hN=>(eT (X:=dP f0 (λ_=>none) (λ_=>none)) (c:=(aO Tryz.f40)) (fH (by kernel_rfl:qe (e7 C (dP f0 (λ_=>none) (λ_=>none))) [(aS (aO Tryz.f40) 0)]=qe (e7 C (dP f0 (λ_=>none) (λ_=>none))) (cB (aO Tryz.f40))) ⟨iX (X:=dP f0 (λ_=>none) (λ_=>none)) (b:=(aS (aO Tryz.f40) 0)) (by kernel_rfl) (show gD C (aS (aO Tryz.f40) 0) (sh:=pO) {cut:=eM,alts:=[.ret, .exit 0],F:=f0}fromλv out h=>h0 v out h C hP hN),trivial⟩))) h x hx
theorem na:(∀v r,aX v=some r->dD v r)/\(∀v r,n_93sae8a v=some r->gQ v r)/\(∀v r,n_40s78a4 v=some r->gO v r):=by
 refine aX.mutual_partial_correctness
  (motive_1:=dD)
  (motive_2:=gQ)
  (motive_3:=gO)
  ?_ ?_ ?_
 ·exact(λf0 f1 h0 h1 v r h=>tc f0 f1 h0 h1 v r (fH (by kernel_rfl) h))
 ·exact(λf0 h0 v r h=>BT f0 h0 v r (fH (by kernel_rfl) h))
 ·exact(λf0 h0 v r h=>BR f0 h0 v r (fH (by kernel_rfl) h))
theorem uy:aM prog 40 c7 n_40s78a4:=λv r x h hx=>na.2.2 v r h x hx
def TZ:Cut SN:=⟨[(1,Dq1),(2,lY),(11, .bp 11 0),(12, .bp 21 0)],[(11, .st .outcomeT),(21, .box none [Dq3,Dq4,Dq1, .vh 3213,Dq1, .vh 3215,Dq1,Dq6]),(3213,Oq7),(3215,Oq2)]⟩
def Xl:Cut SN:=⟨[(10, .bp 21 0),(11, .bp 11 0)],[(21, .box none [Dq3,Dq4,Dq1, .vh 3213,Dq1, .vh 3215,Dq1,Dq6]),(3213,Oq7),(3215,Oq2),(11, .st .outcomeT)]⟩
def YF:aN vw:={rcut:=Xl}
def Uu:Nat->Bool:=λk=>match k with|9000040=>true|_=>false
def V8:Sig vw:={params:=[Dq3,Dq1,lY,Dq4,Dq1],rcut:=Xl,rvars:=[.tmp 10, .cell 11 34],keep:=[21,3213,3215]}
noncomputable def NY(v:(List aB)×Int×(List aE)×Bool×Int×Unit):Option ((List aB)×Bool×Int×Int×Int×(Option bX)×(List Int)×(List aE)×b9×Unit):=(if(↑v.1.length:Int)<=4294967296 then some ((v.2.1,v.2.2.1,b9.mk (0:Int) (aE.mk (aF.mk (0:Int) (0:Int) (aaK #[]) false false) (0:Int) false (aaK #[]) (aF.mk (0:Int) (0:Int) (aaK #[]) false false)) (0:Int) [],v.1,v.2.2.2.1,(0:Int),v.2.2.2.2.1,(0:Int),none,aa7 (↑v.1.length:Int).toNat (0:Int),[],()))else none)>>=λx1=>let a:=x1.2.2.2.2.2;kQ (x1.2.1,())>>=λx2=>n_40s78a4 (x1.1,(↑(0:Nat):Int),(↑x2.1.length:Int),(1:Int),x1.2.2.2.1,x1.2.2.2.2.1,a.1,a.2.1,a.2.2.1,a.2.2.2.1,x2.1,a.2.2.2.2)>>=λx3=>let c:=x3.2.2.2;let b:=c.2.2.2;let d:=b.2.2.2;if b.2.2.1.length=x2.1.length then if d.1.length=a.2.2.2.2.1.length then if b.2.1.isSome=true then(b.2.1:Option (bX))>>=λx4=>(b.2.1:Option (bX))>>=λx5=>some ((x3.2.2.1,c.1,c.2.1,c.2.2.1,b.1,b.2.1,d.1,d.2.1,b9.mk x4.kind (aE.mk (aF.mk (0:Int) (0:Int) (aaK #[]) false false) (0:Int) false (aaK #[]) (aF.mk (0:Int) (0:Int) (aaK #[]) false false)) x5.why [],()))else some ((x3.2.2.1,c.1,c.2.1,c.2.2.1,b.1,b.2.1,d.1,d.2.1,b9.mk (0:Int) d.2.2.1 (0:Int) [],()))else none else none
def Ls:=kO ux (kO uy k0)
def x29:Xc vw:={P:=prog,n:=51,call:=Ls.1,pre:=Uu,sh:=YF,regs:=λk=>match k with|1=>some TZ|_=>none}
theorem EH:aM prog 29 V8 NY:=fn0 x29 Tryz.func29 Ls.2
def S_:Cut SN:=⟨[(8, .bp 8 0),(9,Dq1)],[(8, .st .outcomeT)]⟩
def Yw:aN vw:={rcut:=S_}
def VZ:Sig vw:=sg [Dq3,Dq5,lY,Dq4] S_ [.cell 8 34, .tmp 9]
abbrev Xe:=(List aB)×ByteArray×(List aE)×Bool×Unit
noncomputable def Q7(v:Xe):Option (Int×b9×Unit):=Q9 (v.1,v.2.1,v.2.2.1,())>>=λx1=>if(x1.2.1 !=0)=true then some ((x1.2.1,b9.mk (0:Int) (aE.mk (aF.mk (0:Int) (0:Int) (aaK #[]) false false) (0:Int) false (aaK #[]) (aF.mk (0:Int) (0:Int) (aaK #[]) false false)) (0:Int) [],()))else NY (v.1,x1.1,v.2.2.1,v.2.2.2.1,(-1:Int),())>>=λx2=>some (((0:Int),x2.2.2.2.2.2.2.2.2))
def Lo:=kP EG (kO EH k0)
def x11:Xc vw:=mX prog 34 Lo.1 Yw [] [] []
theorem ND:aM prog 11 VZ Q7:=fn0 x11 Tryz.func11 Lo.2
def MN:Cut SN:=⟨[(0,Dq4)],[]⟩
def Yv:aN vw:={rcut:=MN}
def VY:Sig vw:=sg [] MN [.tmp 0]
noncomputable def Q6(v:Unit):Option (Bool×Unit):=let G2:=(false,());let G1:=(aaK #[102]);Q7 ([aB.mk G1 (0:Int) (0:Int) (aF.mk (2:Int) (8:Int) (aaK #[]) false false) [aQ.mk (0:Int) (200:Int) (0:Int) (aF.mk (2:Int) (8:Int) (aaK #[]) false false) (aaK #[]),aQ.mk (0:Int) (100:Int) (0:Int) (aF.mk (2:Int) (8:Int) (aaK #[]) false false) (aaK #[]),aQ.mk (5:Int) (5:Int) (0:Int) (aF.mk (2:Int) (8:Int) (aaK #[]) false false) (aaK #[]),aQ.mk (17:Int) (0:Int) (0:Int) (aF.mk (0:Int) (0:Int) (aaK #[]) false false) (aaK #[])]],G1,[],true,())>>=λx1=>Q7 ([aB.mk G1 (0:Int) (0:Int) (aF.mk (2:Int) (8:Int) (aaK #[]) false false) [aQ.mk (0:Int) (200:Int) (0:Int) (aF.mk (2:Int) (8:Int) (aaK #[]) false false) (aaK #[]),aQ.mk (0:Int) (100:Int) (0:Int) (aF.mk (2:Int) (8:Int) (aaK #[]) false false) (aaK #[]),aQ.mk (5:Int) (5:Int) (0:Int) (aF.mk (2:Int) (8:Int) (aaK #[]) false false) (aaK #[]),aQ.mk (17:Int) (0:Int) (0:Int) (aF.mk (0:Int) (0:Int) (aaK #[]) false false) (aaK #[])]],G1,[],G2)>>=λx2=>(if(x1.2.1.kind==1)=true then if(x1.2.1.stop==1)=true then if(x1.1==0)=true then if(x2.2.1.value.n==44)=true then some ((x2.1==0,()))else some (G2)else some (G2)else some (G2)else some (G2))>>=λx3=>some (x3)
def Ln:=kP ND k0
def x10:Xc vw:=mX prog 51 Ln.1 Yv [] [(5,MN)] []
theorem NC:aM prog 10 VY Q6:=fn0 x10 Tryz.func10 Ln.2
def Vl:aN vw:={rcut:=iI}
def Sh:Sig vw:=sg [Dq1,Dq1,Dq1] iI [.tmp 6]
noncomputable def Et(v:Ck):Option (Bool×Unit):=(if decide (v.1>=v.2.1)=true then some ((decide (v.1<=v.2.2.1),()))else some ((false,())))>>=λx1=>some (x1)
def aae:Xc vw:=mX prog 15 c0 Vl [] [(1,iI)] []
theorem y4:aM prog 145 Sh Et:=fn0 aae Tryz.func145 bP
def VT:aN vw:={rcut:=eO}
def SF:Sig vw:=sg [Pg] eO [.tmp 2]
noncomputable def A9(v:Int×Unit):Option (Bool×Unit):=(if decide (v.1>=97)=true then if decide (v.1<=122)=true then some ((true,()))else if decide (v.1>=65)=true then if decide (v.1<=90)=true then some ((true,()))else some ((v.1==95,()))else some ((v.1==95,()))else if decide (v.1>=65)=true then if decide (v.1<=90)=true then some ((true,()))else some ((v.1==95,()))else some ((v.1==95,())))>>=λx1=>some (x1)
def aaF:Xc vw:=mX prog 21 c0 VT [] [(1,eO)] []
theorem za:aM prog 187 SF A9:=fn0 aaF Tryz.func187 bP
def VV:aN vw:={rcut:=eO}
def SH:Sig vw:=sg [Pg] eO [.tmp 2]
noncomputable def ED(v:Int×Unit):Option (Bool×Unit):=(if decide (v.1>=48)=true then some ((decide (v.1<=57),()))else some ((false,())))>>=λx1=>some (x1)
def aaG:Xc vw:=mX prog 9 c0 VV [] [(1,eO)] []
theorem zb:aM prog 189 SH ED:=fn0 aaG Tryz.func189 bP
def Lk:Cut SN:=⟨[(0,Dq5),(1,Dq1)],[]⟩
def Qi:Cut SN:=⟨[(0,Dq5),(1,Dq1),(20,Dq4)],[]⟩
def VU:aN vw:=shL [(0,Lj)] bG
def SG:Sig vw:=sg [Dq5,Dq1] bG [.tmp 4]
noncomputable def ja(v:ByteArray×Int×Unit):Option ((Int×Unit)):=let a:=v.2.1;(if decide (a<(↑v.1.size:Int))=true then if 0<=a then v.1[a.toNat]?>>=λx1=>A9 ((↑x1.toNat:Int),())>>=λx2=>if x2.1=true then some ((v.1,a,true,()))else if 0<=a then v.1[a.toNat]?>>=λx3=>ED ((↑x3.toNat:Int),())>>=λx4=>some (v.1,a,x4)else none else none else some ((v.1,a,false,())))>>=λx1=>if x1.2.2.1=true then ja (x1.1,i64.wrap (x1.2.1+1),())else some ((x1.2.1,())) partial_fixpoint
noncomputable def A_(v:ByteArray×Int×Unit):Option (Int×Unit):=ja v>>=λx1=>some (x1)
def wv:=kP za (kP zb k0)
def XU:Xc vw:=mX prog 24 wv.1 VU [] [(1,Qi)] [(1,⟨Lk,[.exit 0],ja⟩)]
theorem Ba:fB XU (aS (aO Tryz.f188) 0) ⟨Lk,[.exit 0],ja⟩:=lp0 ja.partial_correctness wv.2
theorem Jc:aM prog 188 SG A_:=fn1 XU Tryz.func188 wv.2 Ba
def Hd:Cut SN:=⟨[(0,KU)],[]⟩
def VW:aN vw:={rcut:=Hd}
def SI:Sig vw:=sg [] Hd [.tmp 0]
noncomputable def Jd(v:Unit):Option ((List ByteArray)×Unit):=some (([aaK #[61,61],aaK #[33,61],aaK #[60,61],aaK #[62,61],aaK #[43,37],aaK #[43,124],aaK #[45,37],aaK #[45,124],aaK #[42,37],aaK #[46,46],aaK #[46,63],aaK #[61,62],aaK #[40],aaK #[41],aaK #[123],aaK #[125],aaK #[44],aaK #[59],aaK #[58],aaK #[61],aaK #[33],aaK #[60],aaK #[62],aaK #[43],aaK #[45],aaK #[42],aaK #[47],aaK #[37],aaK #[38],aaK #[124],aaK #[94],aaK #[63],aaK #[46]],()))
def aaH:Xc vw:=mX prog 2 c0 VW [] [] []
theorem Je:aM prog 190 SI Jd:=fn0 aaH Tryz.func190 bP
def CD:Cut SN:=⟨[(0,Dq5),(1,Dq1),(8,KU),(9,Dq1)],[]⟩
def Qf:Cut SN:=⟨[(0,Dq5),(1,Dq1),(40,Dq4)],[]⟩
def MY:Cut SN:=⟨[(0,Dq5),(1,Dq1),(8,KU),(9,Dq1),(10,Dq1),(73,Dq4)],[]⟩
def Qg:Cut SN:=⟨[(4,Dq1),(5,Dq1),(6,Dq4)],[]⟩
def VI:aN vw:=shL [(1,dL)] Qg
def SC:Sig vw:=sg [Dq5,Dq1] Qg [.tmp 4, .tmp 5, .tmp 6]
noncomputable def fz(v:ByteArray×Int×(List ByteArray)×Int×Unit):Option (((Int×Int×Bool×Unit)⊕(Unit))):=let a:=v.2.2.2.1;let b:=v.2.1;let c:=v.2.2.1;if decide (a<(↑c.length:Int))=true then if 0<=a then c[a.toNat]?>>=λx1=>(if decide (i64.wrap (b+(↑x1.size:Int))<=(↑v.1.size:Int))=true then if 0<=b/\b<=i64.wrap (b+(↑x1.size:Int))/\i64.wrap (b+(↑x1.size:Int))<=(↑v.1.size:Int)then if 0<=a then c[a.toNat]?>>=λx2=>some ((v.1,b,c,a,i64.wrap (b+(↑x1.size:Int)),(v.1.extract b.toNat (i64.wrap (b+(↑x1.size:Int))).toNat).toList==x2.toList,()))else none else none else some ((v.1,b,c,a,i64.wrap (b+(↑x1.size:Int)),false,())))>>=λx2=>if x2.2.2.2.2.2.1=true then some (abr ((2:Int),x2.2.2.2.2.1,true,()))else fz (x2.1,x2.2.1,x2.2.2.1,i64.wrap (x2.2.2.2.1+1),())else none else some (abQ ()) partial_fixpoint
noncomputable def A5(v:ByteArray×Int×Unit):Option (Int×Int×Bool×Unit):=let a:=v.2.1;if 0<=a then v.1[a.toNat]?>>=λx1=>A9 ((↑x1.toNat:Int),())>>=λx2=>if x2.1=true then A_ v>>=λx3=>some (((0:Int),x3.1,true,()))else ED ((↑x1.toNat:Int),())>>=λx3=>if x3.1=true then A_ v>>=λx4=>some (((1:Int),x4.1,true,()))else if((↑x1.toNat:Int)==64)=true then(if decide (i64.wrap (a+1)<(↑v.1.size:Int))=true then if 0<=i64.wrap (a+1)then v.1[(i64.wrap (a+1)).toNat]?>>=λx4=>A9 ((↑x4.toNat:Int),())>>=λx5=>some (v.1,a,x5)else none else some ((v.1,a,false,())))>>=λx4=>if x4.2.2.1=true then A_ (x4.1,i64.wrap (x4.2.1+1),())>>=λx5=>some (((3:Int),x5.1,true,()))else some (((0:Int),(0:Int),false,()))else Jd ()>>=λx4=>fz (v.1,a,x4.1,(0:Int),())>>=λx5=>match x5 with| .inl y5=>some y5| .inr y5=>some (((0:Int),(0:Int),false,()))else none
def wt:=kP za (kP Jc (kP zb (kP Je k0)))
def XT:Xc vw:=mX prog 75 wt.1 VI [] [(7,Qf),(15,MY)] [(12,⟨CD,[.ret, .exit 1],fz⟩)]
theorem wU:fB XT (aS (aO Tryz.f173) 0) ⟨CD,[.ret, .exit 1],fz⟩:=lp0 fz.partial_correctness wt.2
theorem IW:aM prog 173 SC A5:=fn1 XT Tryz.func173 wt.2 wU
abbrev TP:OPt SN:= .vec 193 (.st .tokenT)
def Lc:Cut SN:=⟨[(0,Dq5),(5, .vh 1005),(6,Dq1)],[(1005,TP)]⟩
def P9:Cut SN:=⟨[(0,Dq5),(5, .vh 1005),(6,Dq1),(23,Dq4)],[(1005,TP)]⟩
def P8:Cut SN:=⟨[(5, .vh 1005)],[(1005,TP)]⟩
def P_:Cut SN:=⟨[(2, .dat (.sl (.st .tokenT))),(3,Dq1),(4,Dq4)],[]⟩
def Vw:aN vw:=shL [(0,P8)] P_
def Ss:Sig vw:=sg [Dq5] P_ [.tmp 2, .tmp 3, .tmp 4]
noncomputable def fK(v:ByteArray×Int×(List ka)×Unit):Option ((((List ka)×Int×Bool×Unit)⊕((List ka)×Unit))):=let a:=v.2.1;if decide (a<(↑v.1.size:Int))=true then(if 0<=a then v.1[a.toNat]?>>=λx1=>if((↑x1.toNat:Int)==32)=true then some (v.1,a,true,v.2.2)else if 0<=a then v.1[a.toNat]?>>=λx2=>some ((v.1,a,(↑x2.toNat:Int)==10,v.2.2))else none else none)>>=λx1=>let b:=x1.2.1;if x1.2.2.1=true then fK (x1.1,i64.wrap (b+1),x1.2.2.2)else A5 (x1.1,b,())>>=λx2=>if(!x2.2.2.1)=true then some (abr ([],b,false,()))else if 0<=b/\b<=x2.2.1/\x2.2.1<=(↑x1.1.size:Int)then if x1.2.2.2.1.length+[ka.mk x2.1 b (x1.1.extract b.toNat x2.2.1.toNat)].length<=4294967296 then fK (x1.1,x2.2.1,x1.2.2.2.1++[ka.mk x2.1 b (x1.1.extract b.toNat x2.2.1.toNat)],())else none else none else some (abQ v.2.2) partial_fixpoint
noncomputable def NK(v:ByteArray×Unit):Option ((List ka)×Int×Bool×Unit):=fK (v.1,(0:Int),[],())>>=λx1=>match x1 with| .inl y1=>some y1| .inr y1=>some ((y1.1,(0:Int),true,()))
def wk:=kP IW k0
def XP:Xc vw:=mX prog 48 wk.1 Vw [] [(4,P9)] [(3,⟨Lc,[.ret, .exit 0],fK⟩)]
theorem AY:fB XP (aS (aO Tryz.f158) 0) ⟨Lc,[.ret, .exit 0],fK⟩:=lp0 fK.partial_correctness wk.2
theorem IG:aM prog 158 Ss NK:=fn1 XP Tryz.func158 wk.2 AY
def Va:aN vw:={rcut:=cw}
def R7:Sig vw:=sg [Dq1,Dq5] cw [.tmp 4]
noncomputable def NF(v:Int×ByteArray×Unit):Option (Bool×Unit):=NK v.2>>=λx1=>(if x1.2.2.1=true then if((↑x1.1.length:Int)==1)=true then x1.1[abb 0]?>>=λx2=>if(x2.kind==v.1)=true then x1.1[abb 0]?>>=λx3=>some ((x3.text.toList==v.2.1.toList,()))else some ((false,()))else some ((false,()))else some ((false,())))>>=λx2=>some (x2)
def C1:=kP IG k0
def Z6:Xc vw:=mX prog 36 C1.1 Va [] [(2,cw)] []
theorem Ij:aM prog 134 R7 NF:=fn0 Z6 Tryz.func134 C1.2
def Zg:aN vw:={rcut:=eO}
def WC:Sig vw:=sg [Dq5] eO [.tmp 2]
noncomputable def TD(v:ByteArray×Unit):Option (Bool×Unit):=NF ((0:Int),v)>>=λx1=>some (x1)
def LJ:=kP Ij k0
def x97:Xc vw:=mX prog 5 LJ.1 Zg [] [] []
theorem Oh:aM prog 97 WC TD:=fn0 x97 Tryz.func97 LJ.2
def Vb:aN vw:={rcut:=Hd}
def R8:Sig vw:=sg [] Hd [.tmp 0]
noncomputable def Ik(v:Unit):Option ((List ByteArray)×Unit):=some (([aaK #[102,110],aaK #[99,111,110,115,116],aaK #[118,97,114],aaK #[99,111,109,112,116,105,109,101],aaK #[114,101,116,117,114,110],aaK #[101,114,114,111,114],aaK #[105,102],aaK #[101,108,115,101],aaK #[119,104,105,108,101],aaK #[102,111,114],aaK #[105,110,108,105,110,101],aaK #[115,119,105,116,99,104],aaK #[100,101,102,101,114],aaK #[101,114,114,100,101,102,101,114],aaK #[98,114,101,97,107],aaK #[99,111,110,116,105,110,117,101],aaK #[103,105,118,101],aaK #[117,110,114,101,97,99,104,97,98,108,101],aaK #[116,114,117,101],aaK #[102,97,108,115,101],aaK #[97,110,100],aaK #[111,114],aaK #[116,114,121],aaK #[99,97,116,99,104],aaK #[111,114,101,108,115,101],aaK #[100,111],aaK #[118,111,105,100],aaK #[98,111,111,108],aaK #[116,121,112,101],aaK #[95]],()))
def Z7:Xc vw:=mX prog 2 c0 Vb [] [] []
theorem Il:aM prog 135 R8 Ik:=fn0 Z7 Tryz.func135 bP
def QK:Cut SN:=⟨[(0,Dq5),(3,KU),(4,Dq1)],[]⟩
def Zh:aN vw:=shL [(0,dL)] eO
def WD:Sig vw:=sg [Dq5] eO [.tmp 2]
noncomputable def mO(v:ByteArray×(List ByteArray)×Int×Unit):Option (((Bool×Unit)⊕(Unit))):=if decide (v.2.2.1<(↑v.2.1.length:Int))=true then if 0<=v.2.2.1 then v.2.1[v.2.2.1.toNat]?>>=λx1=>if(x1.toList==v.1.toList)=true then some (abr (true,()))else mO (v.1,v.2.1,i64.wrap (v.2.2.1+1),())else none else some (abQ ()) partial_fixpoint
noncomputable def TF(v:ByteArray×Unit):Option (Bool×Unit):=Ik ()>>=λx1=>mO (v.1,x1.1,(0:Int),())>>=λx2=>match x2 with| .inl y2=>some y2| .inr y2=>some ((false,()))
def Dn:=kP Il k0
def x98:Xc vw:=mX prog 18 Dn.1 Zh [] [] [(3,⟨QK,[.ret, .exit 0],mO⟩)]
theorem E6:fB x98 (aS (aO Tryz.f98) 0) ⟨QK,[.ret, .exit 0],mO⟩:=lp0 mO.partial_correctness Dn.2
theorem Oi:aM prog 98 WD TF:=fn1 x98 Tryz.func98 Dn.2 E6
def JP:aN vw:=shL [(0,Li)] tG
def ix:Sig vw:=sg [Dq1,Dq1] tG [.tmp 4]
noncomputable def dG(v:x_):Option ((Int×ByteArray×Unit)):=let a:=v.2.1;let G2:=(i64.wrap (v.1.tmod a+1));let G1:=(aaK #[48,49,50,51,52,53,54,55,56,57,97,98,99,100,101,102]);if decide (v.1>=a)=true then if a=0 then none else if a=0 then none else if 0<=v.1.tmod a/\v.1.tmod a<=i64.wrap (v.1.tmod a+1)/\i64.wrap (v.1.tmod a+1)<=(↑G1.size:Int)then if(G1.extract (v.1.tmod a).toNat G2.toNat).size+v.2.2.1.size<=4294967296 then if a=0 then none else dG (i64.wrap (v.1.tdiv a),a,G1.extract (v.1.tmod a).toNat G2.toNat++v.2.2.1,())else none else none else some (v.1,v.2.2) partial_fixpoint
noncomputable def qn(v:Int×Int×Unit):Option (ByteArray×Unit):=let G1:=(aaK #[48,49,50,51,52,53,54,55,56,57,97,98,99,100,101,102]);if decide (v.1<0)=true then qn (i64.wrap ((0:Int) -v.1),v.2)>>=λx1=>if(aaK #[45]).size+x1.1.size<=4294967296 then some ((aaK #[45]++x1.1,()))else none else dG (v.1,v.2.1,aaK #[],())>>=λx1=>if 0<=x1.1/\x1.1<=i64.wrap (x1.1+1)/\i64.wrap (x1.1+1)<=(↑G1.size:Int)then if(G1.extract x1.1.toNat (i64.wrap (x1.1+1)).toNat).size+x1.2.1.size<=4294967296 then some ((G1.extract x1.1.toNat (i64.wrap (x1.1+1)).toNat++x1.2.1,()))else none else none partial_fixpoint
def wu(dG:x_->Option ((Int×ByteArray×Unit)))(qn:Int×Int×Unit->Option (ByteArray×Unit)):dh vw:=λA fid args S k=>match fid with|174=>cv prog ix qn A args S k|_=>none
def zO(dG:x_->Option ((Int×ByteArray×Unit)))(qn:Int×Int×Unit->Option (ByteArray×Unit)):Xc vw:={P:=prog,n:=35,call:=wu dG qn,pre:=Jy,sh:=JP,loops:=λk=>match k with|4=>some {cut:=ir,alts:=[.exit 0],F:=dG}|_=>none}
abbrev nE(v:x_)(r:(Int×ByteArray×Unit)):Prop:=(λv out=>∀C:Ctx,C.P=prog->C.N=35/\Fx C Jy->qf C (aS (aO Tryz.f174) 0) (Go.Tx.a_ vw (fk vw ir v)) (xZ JP [.exit 0] out)) v r
theorem Hi(f0:x_->Option ((Int×ByteArray×Unit)))(h0:∀v r,f0 v=some r->nE v r):bH prog (zO f0 (λ_=>none)).call:=(by
 intro A fid args S dst k r h
 unfold zO wu at h
 simp only at h
 split at h
 ·exact aR ((λv r x h hx=>by cases h)) rfl rfl h
 ·cases h)
theorem JU(f0:x_->Option ((Int×ByteArray×Unit)))(h0:∀v r,f0 v=some r->nE v r)(v:x_)(r:(Int×ByteArray×Unit))(h:exL (zO f0 (λ_=>none)) (aS (aO Tryz.f174) 0) ir [.exit 0] f0 v=some r):nE v r:=λC hP hN=>gM (X:=zO f0 (λ_=>none)) (b:=(aS (aO Tryz.f174) 0)) hP hN Ty.mixed (Hi f0 h0) (eT (X:=zO f0 (λ_=>none)) (c:=(aS (aO Tryz.f174) 0)) (fH (by kernel_rfl:True=qe (e7 C (zO f0 (λ_=>none))) (cB (aS (aO Tryz.f174) 0))) trivial)) (cut:=ir) (alts:=[.exit 0]) (F:=f0) (λv out h=>h0 v out h C hP hN) h
theorem A6:∀v out,dG v=some out->(λv out=>∀C:Ctx,C.P=prog->C.N=35/\Fx C Jy->qf C (aS (aO Tryz.f174) 0) (Go.Tx.a_ vw (fk vw ir v)) (xZ JP [.exit 0] out)) v out:=(dG.partial_correctness (motive:=nE) (λf0 h0 v r h=>JU f0 h0 v r (fH (by kernel_rfl) h)))
abbrev yR(v:Int×Int×Unit)(r:ByteArray×Unit):Prop:=(λv r=>∀x,GO prog ix r=some x->l_ prog 174 (encL vw (cE ix v).len (d7 ix v).1) (eP (cE ix v).len (cE ix v).own) (aL vw (fk vw ix.rcut r).len x) (eP (fk vw ix.rcut r).len (ql ix r))) v r
theorem QO(f0:Int×Int×Unit->Option (ByteArray×Unit))(h0:∀v r,f0 v=some r->yR v r):bH prog (zO dG f0).call:=(by
 intro A fid args S dst k r h
 unfold zO wu at h
 simp only at h
 split at h
 ·exact aR ((λv r x h hx=>h0 v r h x hx)) rfl rfl h
 ·cases h)
theorem SU(f0:Int×Int×Unit->Option (ByteArray×Unit))(h0:∀v r,f0 v=some r->yR v r)(v:Int×Int×Unit)(r:ByteArray×Unit)(h:exF (zO dG f0) ix rfl (aO Tryz.f174) v=some r):yR v r:=λx hx=>AD (X:=zO dG f0) (sig:=ix) rfl Tryz.func174 (c:=aO Tryz.f174) (by kernel_rfl) Tryz.ntmps174 (by kernel_rfl) (by kernel_rfl) rfl Ty.mixed (QO f0 h0) rfl (λC hP hN=>(eT (X:=zO dG f0) (c:=(aO Tryz.f174)) (fH (by kernel_rfl:qe (e7 C (zO dG f0)) [(aS (aO Tryz.f174) 0)]=qe (e7 C (zO dG f0)) (cB (aO Tryz.f174))) ⟨iX (X:=zO dG f0) (b:=(aS (aO Tryz.f174) 0)) (by kernel_rfl) (show gD C (aS (aO Tryz.f174) 0) (sh:=JP) {cut:=ir,alts:=[.exit 0],F:=dG}fromλv out h=>A6 v out h C hP hN),trivial⟩))) h x hx
theorem IX:aM prog 174 ix qn:=λv r x h hx=>(qn.partial_correctness (motive:=yR) (λf0 h0 v r h=>SU f0 h0 v r (fH (by kernel_rfl) h))) v r h x hx
def Hc:Cut SN:=⟨[(2,Dq5)],[]⟩
def Vx:aN vw:={rcut:=Hc}
def St:Sig vw:=sg [Dq1] Hc [.tmp 2]
noncomputable def IH(v:Int×Unit):Option (ByteArray×Unit):=qn (v.1,(10:Int),())>>=λx1=>some (x1)
def Da:=kP IX k0
def aan:Xc vw:=mX prog 5 Da.1 Vx [] [] []
theorem II:aM prog 159 St IH:=fn0 aan Tryz.func159 Da.2
def Vc:aN vw:={rcut:=Hc}
def R9:Sig vw:=sg [nh] Hc [.tmp 2]
noncomputable def En(v:bB×Unit):Option (ByteArray×Unit):=if v.1.signed=true then IH (v.1.bits,())>>=λx1=>if(aaK #[105]).size+x1.1.size<=4294967296 then some ((aaK #[105]++x1.1,()))else none else IH (v.1.bits,())>>=λx1=>if(aaK #[117]).size+x1.1.size<=4294967296 then some ((aaK #[117]++x1.1,()))else none
def C2:=kP II k0
def Z8:Xc vw:=mX prog 13 C2.1 Vc [] [] []
theorem Im:aM prog 136 R9 En:=fn0 Z8 Tryz.func136 C2.2
def QL:Cut SN:=⟨[(0,Dq5),(2, .bp 2 0),(4,Dq1)],[(2, .st .myIntT)]⟩
def Zi:aN vw:=shL [(0,v8)] G_
def WE:Sig vw:=sg [Dq5] G_ [.cell 2 135, .tmp 3]
noncomputable def kV(v:ByteArray×Int×bB×Unit):Option (((Int×bB×Unit)⊕(bB×Unit))):=if decide (v.2.1<=31)=true then En (bB.mk false v.2.1,())>>=λx1=>if(x1.1.toList==v.1.toList)=true then some (abr ((0:Int),bB.mk false v.2.1,()))else En (bB.mk true v.2.1,())>>=λx2=>if(x2.1.toList==v.1.toList)=true then some (abr ((0:Int),bB.mk true v.2.1,()))else kV (v.1,i64.wrap (v.2.1+1),v.2.2)else some (abQ v.2.2) partial_fixpoint
noncomputable def TG(v:ByteArray×Unit):Option (Int×bB×Unit):=kV (v.1,(1:Int),bB.mk false (0:Int),())>>=λx1=>match x1 with| .inl y1=>some y1| .inr y1=>some (((2:Int),bB.mk false (0:Int),()))
def Do:=kP Im k0
def x99:Xc vw:=mX prog 26 Do.1 Zi [] [] [(2,⟨QL,[.ret, .exit 0],kV⟩)]
theorem E7:fB x99 (aS (aO Tryz.f99) 0) ⟨QL,[.ret, .exit 0],kV⟩:=lp0 kV.partial_correctness Do.2
theorem Oj:aM prog 99 WE TG:=fn1 x99 Tryz.func99 Do.2 E7
def Y1:aN vw:={rcut:=eO}
def Wq:Sig vw:=sg [Dq5] eO [.tmp 2]
noncomputable def Pl(v:ByteArray×Unit):Option (Bool×Unit):=(if decide ((↑v.1.size:Int)>8)=true then some ((v.1,true,()))else TD v>>=λx1=>if(!x1.1)=true then some ((v.1,true,()))else TF v>>=λx2=>some (v.1,x2))>>=λx1=>if x1.2.1=true then some ((false,()))else TG (x1.1,())>>=λx2=>some ((x2.1 !=0,()))
def Lz:=kP Oh (kP Oi (kP Oj k0))
def x55:Xc vw:=mX prog 24 Lz.1 Y1 [] [(1,QD)] []
theorem wX:aM prog 55 Wq Pl:=fn0 x55 Tryz.func55 Lz.2
def PQ:Cut SN:=⟨[(1, .bp 1 0),(4,Dq1),(5,Dq4)],[(1, .st .myTypeT)]⟩
def Vd:aN vw:={rcut:=eO}
def R_:Sig vw:=sg [vK] eO [.tmp 2]
noncomputable def Io(v:aF×Unit):Option (Bool×Unit):=let G1:=(false,());(if(v.1.base==2)=true then some (v.1.base,true,v)else some (v.1.base,v.1.base==3,v))>>=λx1=>let a:=x1.2.2.1;if x1.2.1=true then(Et (a.bits,(1:Int),(31:Int),())>>=λx2=>if x2.1=true then some ((a.name0.toList==(aaK #[]).toList,()))else some (G1))>>=λx2=>some (x2)else if(x1.1==5)=true then(if(a.bits==0)=true then Pl (a.name0,())>>=λx2=>some (x2)else some (G1))>>=λx2=>some (x2)else if(x1.1==0)=true then(if(a.bits==0)=true then if(a.name0.toList==(aaK #[]).toList)=true then some ((!a.opt,()))else some (G1)else some (G1))>>=λx2=>some (x2)else if(x1.1==4)=true then(if(a.bits==0)=true then if(a.name0.toList==(aaK #[]).toList)=true then if(!a.opt)=true then some ((!a.err,()))else some (G1)else some (G1)else some (G1))>>=λx2=>some (x2)else(if(a.base==1)=true then if(a.bits==0)=true then some ((a.name0.toList==(aaK #[]).toList,()))else some (G1)else some (G1))>>=λx2=>some (x2)
def C3:=kP wX (kP y4 k0)
def Z9:Xc vw:=mX prog 74 C3.1 Vd [(4,PQ,[.norm])] [(4,eO),(6,eO),(8,eO),(10,eO),(11,eO)] []
theorem Ip:aM prog 137 R_ Io:=fn0 Z9 Tryz.func137 C3.2
def UK:aN vw:={rcut:=nj}
def RG:Sig vw:=sg [vK] nj [.tmp 2]
noncomputable def NB(v:aF×Unit):Option (Int×Unit):=Io v>>=λx1=>if(!x1.1)=true then some (((1:Int),()))else some (((0:Int),()))
def CG:=kP Ip k0
def ZG:Xc vw:=mX prog 6 CG.1 UK [] [] []
theorem HO:aM prog 100 RG NB:=fn0 ZG Tryz.func100 CG.2
def Cz:Cut SN:=⟨[(6,Dq1),(7,Dq4)],[]⟩
def ML:Cut SN:=⟨[(6,Dq1),(10,Dq4)],[]⟩
def MM:Cut SN:=⟨[(6,Dq1),(19,Dq4)],[]⟩
def PA:Cut SN:=⟨[(2,Dq4),(3,Dq4),(4,Dq4),(5,Dq4)],[]⟩
def UL:aN vw:={rcut:=PA}
def RH:Sig vw:=sg [Dq1] PA [.tmp 2, .tmp 3, .tmp 4, .tmp 5]
noncomputable def HP(v:Int×Unit):Option (Bool×Bool×Bool×Bool×Unit):=let G1:=(true,());(if(v.1==0)=true then some (v.1,G1)else some ((v.1,v.1==5,())))>>=λx1=>let a:=x1.1;let G2:=(a,G1);if x1.2.1=true then some ((true,false,true,false,()))else(if(a==2)=true then some (G2)else if(a==3)=true then some (G2)else if(a==6)=true then some (G2)else if(a==12)=true then some (G2)else if(a==13)=true then some (G2)else if(a==14)=true then some (G2)else if(a==15)=true then some (G2)else some ((a,a==19,())))>>=λx2=>if x2.2.1=true then some ((true,false,false,false,()))else(if(x2.1==7)=true then some (x2.1,G1)else if(x2.1==9)=true then some (x2.1,G1)else some ((x2.1,x2.1==10,())))>>=λx3=>if x3.2.1=true then some ((false,false,true,false,()))else if(x3.1==16)=true then some (false,true,false,G1)else if(x3.1==18)=true then some (false,false,false,G1)else some ((false,false,false,false,()))
def ZH:Xc vw:=mX prog 27 c0 UL [(4,Cz,[.norm]),(13,ML,[.norm]),(17,MM,[.norm])] [] []
theorem HQ:aM prog 101 RH HP:=fn0 ZH Tryz.func101 bP
end Go.Proofs.YtcghbgmmgcljkaaGreatDoor
end
section
namespace Go.Proofs.YtcghbgmmgcljkaaGreatDoor
open Go.Awp Go.Tx
open IntKind (i64)
open Go.Proofs.Tryz (prog)
set_option maxHeartbeats 4000000
set_option maxRecDepth 100000
def Y3:aN vw:={rcut:=iI}
def Ws:Sig vw:=sg [Dq1,Dq1,Dq1] iI [.tmp 6]
noncomputable def Cf(v:Ck):Option (Bool×Unit):=(if decide (v.1>=v.2.1)=true then some ((decide (v.1<=v.2.2.1),()))else some ((false,())))>>=λx1=>some (x1)
def x57:Xc vw:=mX prog 15 c0 Y3 [] [(1,iI)] []
theorem sU:aM prog 57 Ws Cf:=fn0 x57 Tryz.func57 bP
def PB:Cut SN:=⟨[(2, .bp 2 0),(3, .bp 3 0),(6,Dq1),(12,Dq4)],[(2, .st .myFuncT),(3, .st .myCodeT)]⟩
def UM:aN vw:={rcut:=cw}
def RI:Sig vw:=sg [Ci,lZ] cw [.tmp 4]
noncomputable def iA(v:aB×aQ×Unit):Option (Bool×Unit):=if(v.2.1.op==0)=true then Cf (v.2.1.a,(-2147483648:Int),(2147483648:Int),())>>=λx1=>some (x1)else(if(v.2.1.op==2)=true then some (v.2.1.op,true,v)else some (v.2.1.op,v.2.1.op==3,v))>>=λx1=>let b:=x1.2.2.2.1;if x1.2.1=true then Cf (b.a,(0:Int),i64.wrap (x1.2.2.1.places-1),())>>=λx2=>some (x2)else if(x1.1==5)=true then Cf (b.a,(5:Int),(17:Int),())>>=λx2=>some (x2)else if(x1.1==6)=true then Cf (b.a,(18:Int),(23:Int),())>>=λx2=>some (x2)else if(x1.1==19)=true then Cf (b.a,(1:Int),(5:Int),())>>=λx2=>some (x2)else Cf (b.a,(0:Int),i64.wrap ((↑x1.2.2.1.code.length:Int) -1),())>>=λx2=>some (x2)
def CH:=kP sU k0
def ZI:Xc vw:=mX prog 43 CH.1 UM [(6,PB,[.norm])] [] []
theorem HR:aM prog 102 RI iA:=fn0 ZI Tryz.func102 CH.2
def Y4:aN vw:={rcut:=eO}
def Wt:Sig vw:=sg [vK] eO [.tmp 2]
noncomputable def Pm(v:aF×Unit):Option (Bool×Unit):=(NB v>>=λx1=>if(x1.1==0)=true then some ((decide (v.1.base<=3),()))else some ((false,())))>>=λx1=>some (x1)
def LA:=kP HO k0
def x58:Xc vw:=mX prog 11 LA.1 Y4 [] [(1,eO)] []
theorem wY:aM prog 58 Wt Pm:=fn0 x58 Tryz.func58 LA.2
def UN:aN vw:={rcut:=eO}
def RJ:Sig vw:=sg [vK] eO [.tmp 2]
noncomputable def HS(v:aF×Unit):Option (Bool×Unit):=(Pm v>>=λx1=>if x1.1=true then if(v.1.base==2)=true then if(!v.1.opt)=true then some ((!v.1.err,()))else some ((false,()))else if(v.1.base==3)=true then if(!v.1.opt)=true then some ((!v.1.err,()))else some ((false,()))else some ((false,()))else some ((false,())))>>=λx1=>some (x1)
def CI:=kP wY k0
def ZJ:Xc vw:=mX prog 25 CI.1 UN [] [(1,eO)] []
theorem HT:aM prog 103 RJ HS:=fn0 ZJ Tryz.func103 CI.2
def PU:Cut SN:=⟨[(1, .bp 1 0),(5,Dq1),(6,Dq4)],[(1, .st .myCodeT)]⟩
def MR:Cut SN:=⟨[(1, .bp 1 0),(5,Dq1),(11,Dq4)],[(1, .st .myCodeT)]⟩
def MS:Cut SN:=⟨[(1, .bp 1 0),(5,Dq1),(16,Dq4)],[(1, .st .myCodeT)]⟩
def MT:Cut SN:=⟨[(23,Dq4)],[]⟩
def Ha:Cut SN:=⟨[(2,Dq1),(3,Dq1)],[]⟩
def Vf:aN vw:={rcut:=Ha}
def Sb:Sig vw:=sg [lZ] Ha [.tmp 2, .tmp 3]
noncomputable def Eo(v:aQ×Unit):Option (Int×Int×Unit):=let G2:=((1:Int),());(if(v.1.op==0)=true then some (v.1.op,true,v)else if(v.1.op==1)=true then some (v.1.op,true,v)else if(v.1.op==2)=true then some (v.1.op,true,v)else some (v.1.op,v.1.op==18,v))>>=λx1=>let G1:=(x1.1,true,x1.2.2);if x1.2.1=true then some (((0:Int),G2))else(if(x1.1==3)=true then some (G1)else if(x1.1==4)=true then some (G1)else if(x1.1==15)=true then some (G1)else some (x1.1,x1.1==17,x1.2.2))>>=λx2=>if x2.2.1=true then some (((1:Int),(0:Int),()))else(if(x2.1==5)=true then some (x2.1,true,x2.2.2)else some (x2.1,x2.1==6,x2.2.2))>>=λx3=>if x3.2.1=true then some (((2:Int),G2))else if(x3.1==16)=true then some (x3.2.2.1.b,G2)else(if(x3.1==14)=true then some ((true,()))else some ((x3.1==19,())))>>=λx4=>if x4.1=true then some (((0:Int),(0:Int),()))else some (((1:Int),G2))
def aaa:Xc vw:=mX prog 26 c0 Vf [(6,PU,[.norm]),(11,MR,[.norm]),(14,MS,[.norm]),(19,MT,[.norm])] [] []
theorem yX:aM prog 139 Sb Eo:=fn0 aaa Tryz.func139 bP
def UP:aN vw:={rcut:=iI}
def RL:Sig vw:=sg [Ci,Dq1,Dq1] iI [.tmp 6]
noncomputable def Ek(v:aB×Int×Int×Unit):Option (Bool×Unit):=if 0<=v.2.1 then v.1.code[v.2.1.toNat]?>>=λx1=>Eo (x1,())>>=λx2=>Cf (v.2.2.1,x2.1,(64:Int),())>>=λx3=>some (x3)else none
def CJ:=kP sU (kP yX k0)
def ZK:Xc vw:=mX prog 21 CJ.1 UP [] [] []
theorem yT:aM prog 105 RL Ek:=fn0 ZK Tryz.func105 CJ.2
def PR:Cut SN:=⟨[(1,Dq1),(2,Dq1),(7, .bp 7 0),(10,Dq1),(27,Dq1),(35,Dq4)],[(7, .st .myCodeT)]⟩
def MQ:Cut SN:=⟨[(1,Dq1),(2,Dq1),(7, .bp 7 0),(10,Dq1),(27,Dq1),(38,Dq4)],[(7, .st .myCodeT)]⟩
def PS:Cut SN:=⟨[(6, .dat (.sl (.ar 2 (.int .i64))))],[]⟩
def Ve:aN vw:={rcut:=PS}
def Sa:Sig vw:=sg [Ci,Dq1,Dq1] PS [.tmp 6]
noncomputable def Iq(v:aB×Int×Int×Unit):Option ((List (List Int))×Unit):=if 0<=v.2.1 then v.1.code[v.2.1.toNat]?>>=λx1=>Eo (x1,())>>=λx2=>let G1:=(i64.wrap (v.2.2.1-x2.1)+x2.2.1);if(x1.op==14)=true then some (([[x1.a,i64.wrap G1]],()))else(if(x1.op==17)=true then some ((v.2.1,v.2.2.1,i64.wrap G1,x1.op,true,x1,()))else some ((v.2.1,v.2.2.1,i64.wrap G1,x1.op,x1.op==19,x1,())))>>=λx3=>let b:=x3.2.2.2;if b.2.1=true then some (([],()))else(if(b.1==15)=true then some (x3.1,x3.2.1,x3.2.2.1,b.1,true,b.2.2)else some (x3.1,x3.2.1,x3.2.2.1,b.1,b.1==13,b.2.2))>>=λx4=>let c:=x4.2.2;if c.2.2.1=true then some (([[i64.wrap (x4.1+1),c.1],[c.2.2.2.1.a,c.1]],()))else if(c.2.1==12)=true then some (([[i64.wrap (x4.1+1),x4.2.1],[c.2.2.2.1.a,i64.wrap (x4.2.1-1)]],()))else some (([[i64.wrap (x4.1+1),c.1]],()))else none
def C4:=kP yX k0
def Z_:Xc vw:=mX prog 67 C4.1 Ve [(9,PR,[.norm]),(12,MQ,[.norm])] [] []
theorem Ir:aM prog 138 Sa Iq:=fn0 Z_ Tryz.func138 C4.2
def K6:Cut SN:=⟨[(1, .bp 1 0),(4, .vh 1004),(5,Dq1)],[(1, .st .myFuncT),(1004, .maps 145 (.int .i64) .bool)]⟩
def CA:Cut SN:=⟨[(1, .bp 1 0),(4, .vh 1004),(6, .vh 1006),(7, .vh 1007)],[(1, .st .myFuncT),(1004, .maps 145 (.int .i64) .bool),(1006, .vec 4 .bool),(1007, .que 171 (.ar 2 (.int .i64)))]⟩
def vV:Cut SN:=⟨[(1, .bp 1 0),(4, .vh 1004),(6, .vh 1006),(7, .vh 1007),(8,Dq1),(10, .dat (.sl (.ar 2 (.int .i64)))),(11,Dq1)],[(1, .st .myFuncT),(1004, .maps 145 (.int .i64) .bool),(1006, .vec 4 .bool),(1007, .que 171 (.ar 2 (.int .i64)))]⟩
def PC:Cut SN:=⟨[(1, .bp 1 0),(4, .vh 1004)],[(1, .st .myFuncT),(1004, .maps 145 (.int .i64) .bool)]⟩
def PD:Cut SN:=⟨[(4, .vh 1004),(6, .vh 1006)],[(1004, .maps 145 (.int .i64) .bool),(1006, .vec 4 .bool)]⟩
abbrev S7:Pt SN:= .dat (.sl .bool)
def PE:Cut SN:=⟨[(2, .vh 2002),(3,S7)],[(2002, .maps 145 (.int .i64) .bool)]⟩
def UO:aN vw:=shL [(0,PC),(2,PD),(4,CA)] PE
def Ru:Nat->Bool:=λk=>match k with|6000031=>true|_=>false
def RK:Sig vw:={params:=[Ci],rcut:=PE,rvars:=[.tmp 2, .tmp 3],keep:=[2002]}
noncomputable def i4(v:Int×aB×(List (Option (List (Int×Bool))))×Unit):Option ((aB×(List (Option (List (Int×Bool))))×Unit)):=if decide (v.1<(↑v.2.2.1.length:Int))=true then if 0<=v.1/\v.1<(↑v.2.2.1.length:Int)then if v.1.toNat<v.2.2.1.length/\¬(24:Nat)=(1004:Nat)then i4 (i64.wrap (v.1+1),v.2.1,v.2.2.1.set v.1.toNat (some []),())else none else none else some (v.2) partial_fixpoint
abbrev Xd:=aB×(List (Option (List (Int×Bool))))×(List Bool)×(List (List Int))×Unit
noncomputable def gr(v:Int×(List (List Int))×Int×aB×(List (Option (List (Int×Bool))))×(List Bool)×(List (List Int))×Unit):Option ((Xd)):=let a:=v.2.2;let b:=a.2.2.2;if decide (a.1<(↑v.2.1.length:Int))=true then(if 0<=a.1 then v.2.1[a.1.toNat]?>>=λx1=>x1[abb 0]?>>=λx2=>if decide (x2>=(↑a.2.1.code.length:Int))=true then if 0<=v.1/\v.1<(↑b.1.length:Int)then b.1[v.1.toNat]?>>=λx3=>some (v.1,v.2.1,a.1,a.2.1,a.2.2.1,b.1.set v.1.toNat true,b.2)else none else if 0<=a.1 then v.2.1[a.1.toNat]?>>=λx3=>if b.2.1.length+[x3].length<=4294967296 then some ((v.1,v.2.1,a.1,a.2.1,a.2.2.1,b.1,b.2.1++[x3],()))else none else none else none)>>=λx1=>gr (x1.1,x1.2.1,i64.wrap (x1.2.2.1+1),x1.2.2.2)else some (a.2) partial_fixpoint
noncomputable def eG(v:Xd):Option (((List (Option (List (Int×Bool))))×(List Bool)×Unit)):=let a:=v.2.2.2.1;let b:=v.2.1;let G2:=(v.2.2.1,ac6 (abb 1) a,());if decide ((↑a.length:Int)>0)=true then if(0:Int)<=0/\0<(↑a.length:Int)then a[abb 0]?>>=λx1=>x1[(0/1:Nat)]?>>=λx2=>if(0:Int)<=0/\0<(↑a.length:Int)then a[abb 0]?>>=λx3=>x3[(1/1:Nat)]?>>=λx4=>if(1:Int)<=(↑a.length:Int)then if 0<=x2/\x2<(↑b.length:Int)then b[x2.toNat]?>>=λx5=>(x5:Option (List (Int×Bool)))>>=λx6=>b[x2.toNat]?>>=λx7=>(x7:Option (List (Int×Bool)))>>=λx8=>if(Mp.get Mp.ieq x4 x8).getD false=true then eG (v.1,b,G2)else if 0<=x2/\x2<(↑b.length:Int)then b[x2.toNat]?>>=λx9=>(x9:Option (List (Int×Bool)))>>=λx10=>b[x2.toNat]?>>=λx11=>(x11:Option (List (Int×Bool)))>>=λx12=>let G1:=(v.1,b.set x2.toNat (some (Mp.set Mp.ieq Mp.ilt x4 true x12)),G2);Ek (v.1,x2,x4,())>>=λx13=>if(!x13.1)=true then eG G1 else Iq (v.1,x2,x4,())>>=λx14=>gr (x2,x14.1,(0:Int),G1)>>=λx15=>eG x15 else none else none else none else none else none else some ((b,v.2.2.1,())) partial_fixpoint
noncomputable def HU(v:aB×Unit):Option ((List Bool)×(List (Option (List (Int×Bool))))×Unit):=if(↑v.1.code.length:Int)<=4294967296 then i4 ((0:Int),v.1,aa7 (↑v.1.code.length:Int).toNat none,())>>=λx1=>if(↑x1.1.code.length:Int)<=4294967296 then eG (x1.1,x1.2.1,aa7 (↑x1.1.code.length:Int).toNat false,[[(0:Int),(0:Int)]],())>>=λx2=>some ((x2.2.1,x2.1,()))else none else none
def n8:=kP yT (kP Ir k0)
def TL:Xc vw:={P:=prog,n:=92,call:=n8.1,pre:=Ru,sh:=UO,joins:=λk=>match k with|17=>some (vV,[.norm])|_=>none,loops:=λk=>match k with|3=>some {cut:=K6,alts:=[.exit 0],F:=i4}|8=>some {cut:=CA,alts:=[.exit 2],F:=eG}|16=>some {cut:=vV,alts:=[.exit 4],F:=gr}|_=>none}
theorem AK:fB TL (aS (aO Tryz.f104) 0) ⟨K6,[.exit 0],i4⟩:=lp0 i4.partial_correctness n8.2
theorem wR:fB TL (aS (aS (aO Tryz.f104) 1) 0) ⟨vV,[.exit 4],gr⟩:=lp0 gr.partial_correctness n8.2
theorem AL:fB TL (aS (aO Tryz.f104) 1) ⟨CA,[.exit 2],eG⟩:=lp1 eG.partial_correctness n8.2 wR
theorem HV:aM prog 104 RK HU:=fn2 TL Tryz.func104 n8.2 AK AL
def G0:Cut SN:=⟨[(2, .bp 2 0)],[(2, .st .itemT)]⟩
def UQ:aN vw:={rcut:=G0}
def RM:Sig vw:=sg [Dq4] G0 [.cell 2 65]
noncomputable def AM(v:Bool×Unit):Option (Item×Unit):=if v.1=true then some ((Item.mk 1 false (aaK #[]),()))else some ((Item.mk 0 false (aaK #[]),()))
def ZL:Xc vw:=mX prog 6 c0 UQ [] [] []
theorem sK:aM prog 106 RM AM:=fn0 ZL Tryz.func106 bP
def K7:Cut SN:=⟨[(1, .bp 1 0),(3,Dq1),(4,Dq1)],[(1, .st .myIntT)]⟩
def Vg:aN vw:=shL [(0,M6)] nj
def Sc:Sig vw:=sg [nh] nj [.tmp 2]
noncomputable def i5(v:Int×Int×bB×Unit):Option ((Int×Unit)):=if decide (v.2.1<v.2.2.1.bits)=true then i5 (i64.wrap (v.1 *2),i64.wrap (v.2.1+1),v.2.2)else some ((v.1,())) partial_fixpoint
noncomputable def AQ(v:bB×Unit):Option (Int×Unit):=i5 ((1:Int),(0:Int),v)>>=λx1=>some (x1)
def XM:Xc vw:=mX prog 14 c0 Vg [] [] [(3,⟨K7,[.exit 0],i5⟩)]
theorem AR:fB XM (aS (aO Tryz.f140) 0) ⟨K7,[.exit 0],i5⟩:=lp0 i5.partial_correctness bP
theorem sQ:aM prog 140 Sc AQ:=fn1 XM Tryz.func140 bP AR
def PF:Cut SN:=⟨[(2, .bp 2 0),(5,Dq1),(6,Dq1)],[(2, .st .myIntT)]⟩
def CB:Cut SN:=⟨[(6,Dq1)],[]⟩
def PG:Cut SN:=⟨[(5,Dq1),(6,Dq1),(24,Dq4)],[]⟩
def UR:aN vw:={rcut:=bG}
def RN:Sig vw:=sg [nh,Dq1] bG [.tmp 4]
noncomputable def kJ(v:bB×Int×Unit):Option (Int×Unit):=AQ (v.1,())>>=λx1=>if x1.1=0 then none else(if decide (v.2.1.tmod x1.1<0)=true then some ((x1.1,i64.wrap (v.2.1.tmod x1.1+x1.1),v.1,()))else some ((x1.1,v.2.1.tmod x1.1,v.1,())))>>=λx2=>((if x2.2.2.1.signed=true then some ((x2.1,x2.2.1,decide (x2.2.1>=i64.wrap (x2.1.tdiv (2:Int))),()))else some ((x2.1,x2.2.1,false,())))>>=λx3=>if x3.2.2.1=true then some ((i64.wrap (x3.2.1-x3.1),()))else some ((x3.2.1,())))>>=λx3=>some (x3)
def CL:=kP sQ k0
def ZM:Xc vw:=mX prog 29 CL.1 UR [(5,PF,[.norm]),(7,CB,[.norm])] [(5,PG)] []
theorem jx:aM prog 107 RN kJ:=fn0 ZM Tryz.func107 CL.2
def US:aN vw:={rcut:=v8}
def RO:Sig vw:=sg [vK] v8 [.cell 2 135]
noncomputable def AN(v:aF×Unit):Option (bB×Unit):=some ((bB.mk (v.1.base==3) v.1.bits,()))
def ZN:Xc vw:=mX prog 9 c0 US [] [] []
theorem sL:aM prog 108 RO AN:=fn0 ZN Tryz.func108 bP
def Vk:aN vw:={rcut:=Ha}
def Sg:Sig vw:=sg [nh] Ha [.tmp 2, .tmp 3]
noncomputable def Es(v:bB×Unit):Option (Int×Int×Unit):=AQ v>>=λx1=>if v.1.signed=true then some ((i64.wrap ((0:Int) -i64.wrap (x1.1.tdiv (2:Int))),i64.wrap (i64.wrap (x1.1.tdiv (2:Int)) -1),()))else some (((0:Int),i64.wrap (x1.1-1),()))
def C6:=kP sQ k0
def aad:Xc vw:=mX prog 17 C6.1 Vk [] [] []
theorem yZ:aM prog 144 Sg Es:=fn0 aad Tryz.func144 C6.2
def UW:aN vw:={rcut:=cw}
def RS:Sig vw:=sg [nh,Dq1] cw [.tmp 4]
noncomputable def wS(v:bB×Int×Unit):Option (Bool×Unit):=Es (v.1,())>>=λx1=>Et (v.2.1,x1)>>=λx2=>some (x2)
def CO:=kP yZ (kP y4 k0)
def ZR:Xc vw:=mX prog 16 CO.1 UW [] [] []
theorem yV:aM prog 112 RS wS:=fn0 ZR Tryz.func112 CO.2
def PW:Cut SN:=⟨[(1,Dq1),(2,Dq1),(8,Dq1),(9,Dq4)],[]⟩
def PX:Cut SN:=⟨[(1,Dq1),(2,Dq1),(8,Dq1),(16,Dq4)],[]⟩
def MU:Cut SN:=⟨[(1,Dq1),(2,Dq1),(23,Dq4)],[]⟩
def Vh:aN vw:={rcut:=Cz}
def Sd:Sig vw:=sg [Dq1,Dq1,Dq1] Cz [.tmp 6, .tmp 7]
noncomputable def Er(v:Ck):Option (Int×Bool×Unit):=let G1:=(true,());(if(v.1==5)=true then some (v.2.1,v.2.2.1,v.1,G1)else if(v.1==10)=true then some (v.2.1,v.2.2.1,v.1,G1)else some ((v.2.1,v.2.2.1,v.1,v.1==13,())))>>=λx1=>let a:=x1.2.2.1;if x1.2.2.2.1=true then some ((i64.wrap (x1.1+x1.2.1),G1))else(if(a==6)=true then some (x1.1,x1.2.1,a,G1)else if(a==11)=true then some (x1.1,x1.2.1,a,G1)else some ((x1.1,x1.2.1,a,a==14,())))>>=λx2=>if x2.2.2.2.1=true then some ((i64.wrap (x2.1-x2.2.1),G1))else(if(x2.2.2.1==7)=true then some (x2.1,x2.2.1,G1)else some ((x2.1,x2.2.1,x2.2.2.1==12,())))>>=λx3=>if x3.2.2.1=true then some ((i64.wrap (x3.1 *x3.2.1),G1))else if(x3.2.1==0)=true then some (((0:Int),false,()))else if x3.2.1=0 then none else some ((i64.wrap (x3.1.tdiv x3.2.1),G1))
def aab:Xc vw:=mX prog 34 c0 Vh [(5,PW,[.norm]),(9,PX,[.norm]),(12,MU,[.norm])] [] []
theorem yY:aM prog 141 Sd Er:=fn0 aab Tryz.func141 bP
def Ld:Cut SN:=⟨[(1,Dq1),(2, .bp 2 0),(5, .vh 1005),(6,Dq1)],[(2, .st .myIntT),(1005,Oq7)]⟩
def Qb:Cut SN:=⟨[(1,Dq1),(2, .bp 2 0)],[(2, .st .myIntT)]⟩
def Qa:Cut SN:=⟨[(5, .vh 1005)],[(1005,Oq7)]⟩
abbrev Mr:Pt SN:= .dat (.sl (.int .i64))
def Qc:Cut SN:=⟨[(4,Mr)],[]⟩
def Vy:aN vw:=shL [(0,Qa)] Qc
def Su:Sig vw:=sg [nh,Dq1] Qc [.tmp 4]
noncomputable def i8(v:Int×Int×bB×(List Int)×Unit):Option (((List Int)×Unit)):=if decide (v.2.1<v.2.2.1.bits)=true then if v.2.2.2.1.length+[v.1.tmod (2:Int)].length<=4294967296 then i8 (i64.wrap (v.1.tdiv (2:Int)),i64.wrap (v.2.1+1),v.2.2.1,v.2.2.2.1++[v.1.tmod (2:Int)],())else none else some (v.2.2.2) partial_fixpoint
noncomputable def Ex(v:bB×Int×Unit):Option ((List Int)×Unit):=(if decide (v.2.1<0)=true then AQ (v.1,())>>=λx1=>some ((i64.wrap (v.2.1+x1.1),v.1,()))else some ((v.2.1,v.1,())))>>=λx1=>i8 (x1.1,(0:Int),x1.2.1,[],())>>=λx2=>some (x2)
def wm:=kP sQ k0
def XQ:Xc vw:=mX prog 27 wm.1 Vy [(3,Qb,[.norm])] [] [(5,⟨Ld,[.exit 0],i8⟩)]
theorem AZ:fB XQ (aS (aO Tryz.f160) 0) ⟨Ld,[.exit 0],i8⟩:=lp0 i8.partial_correctness wm.2
theorem IJ:aM prog 160 Su Ex:=fn1 XQ Tryz.func160 wm.2 AZ
def Le:Cut SN:=⟨[(1,Mr),(2, .bp 2 0),(5,Dq1),(6,Dq1)],[(2, .st .myIntT)]⟩
def Qd:Cut SN:=⟨[(2, .bp 2 0),(5,Dq1)],[(2, .st .myIntT)]⟩
def Vz:aN vw:=shL [(0,Qd)] bG
def Sv:Sig vw:=sg [nh,Mr] bG [.tmp 4]
noncomputable def i9(v:(List Int)×Int×Int×bB×Unit):Option ((Int×bB×Unit)):=if decide (v.2.2.1>=0)=true then if 0<=v.2.2.1 then v.1[v.2.2.1.toNat]?>>=λx1=>i9 (v.1,i64.wrap (i64.wrap ((2:Int) *v.2.1)+x1),i64.wrap (v.2.2.1-1),v.2.2.2)else none else some (v.2.1,v.2.2.2) partial_fixpoint
noncomputable def NM(v:bB×(List Int)×Unit):Option (Int×Unit):=i9 (v.2.1,(0:Int),i64.wrap ((↑v.2.1.length:Int) -1),v.1,())>>=λx1=>kJ (x1.2.1,x1.1,())>>=λx2=>some (x2)
def wq:=kP jx k0
def XR:Xc vw:=mX prog 24 wq.1 Vz [] [] [(3,⟨Le,[.exit 0],i9⟩)]
theorem A0:fB XR (aS (aO Tryz.f161) 0) ⟨Le,[.exit 0],i9⟩:=lp0 i9.partial_correctness wq.2
theorem IK:aM prog 161 Sv NM:=fn1 XR Tryz.func161 wq.2 A0
def K8:Cut SN:=⟨[(0,Dq1),(5, .bp 5 0),(9,Mr),(10,Mr),(11, .vh 1011),(12,Dq1)],[(5, .st .myIntT),(1011,Oq7)]⟩
def MV:Cut SN:=⟨[(0,Dq1),(5, .bp 5 0),(9,Mr),(10,Mr),(11, .vh 1011),(12,Dq1),(13,Dq1)],[(5, .st .myIntT),(1011,Oq7)]⟩
def PY:Cut SN:=⟨[(5, .bp 5 0),(11, .vh 1011)],[(5, .st .myIntT),(1011,Oq7)]⟩
def Vi:aN vw:=shL [(0,PY)] Ah
def Se:Sig vw:=sg [Dq1,nh,Dq1,Dq1] Ah [.tmp 8]
noncomputable def i6(v:Int×(List Int)×(List Int)×Int×bB×(List Int)×Unit):Option ((bB×(List Int)×Unit)):=let a:=v.2.2.2;if decide (a.1<(↑v.2.1.length:Int))=true then if 0<=a.1 then v.2.1[a.1.toNat]?>>=λx1=>if 0<=a.1 then v.2.2.1[a.1.toNat]?>>=λx2=>(if(v.1==15)=true then some ((v.1,v.2.1,v.2.2.1,a.1,i64.wrap ((i64.wrap (x1+x2)).tdiv (2:Int)),a.2))else if(v.1==16)=true then some ((v.1,v.2.1,v.2.2.1,a.1,i64.wrap ((i64.wrap (i64.wrap (x1+x2)+1)).tdiv (2:Int)),a.2))else some ((v.1,v.2.1,v.2.2.1,a.1,(i64.wrap (x1+x2)).tmod (2:Int),a.2)))>>=λx3=>let b:=x3.2.2.2.2;if b.2.2.1.length+[b.1].length<=4294967296 then i6 (x3.1,x3.2.1,x3.2.2.1,i64.wrap (x3.2.2.2.1+1),b.2.1,b.2.2.1++[b.1],())else none else none else none else some (a.2) partial_fixpoint
noncomputable def Is(v:My):Option (Int×Unit):=Ex (v.2.1,v.2.2.1,())>>=λx1=>Ex (v.2.1,v.2.2.2)>>=λx2=>i6 (v.1,x1.1,x2.1,(0:Int),v.2.1,[],())>>=λx3=>NM x3>>=λx4=>some (x4)
def wh:=kP IJ (kP IK k0)
def XN:Xc vw:=mX prog 54 wh.1 Vi [(13,MV,[.norm])] [] [(4,⟨K8,[.exit 0],i6⟩)]
theorem AU:fB XN (aS (aO Tryz.f142) 0) ⟨K8,[.exit 0],i6⟩:=lp0 i6.partial_correctness wh.2
theorem It:aM prog 142 Se Is:=fn1 XN Tryz.func142 wh.2 AU
def Vj:aN vw:={rcut:=bG}
def Sf:Sig vw:=sg [nh,Dq1] bG [.tmp 4]
noncomputable def Iu(v:bB×Int×Unit):Option (Int×Unit):=Es (v.1,())>>=λx1=>if decide (v.2.1<x1.1)=true then some ((x1.1,()))else if decide (v.2.1>x1.2.1)=true then some (x1.2)else some (v.2)
def C5:=kP yZ k0
def aac:Xc vw:=mX prog 21 C5.1 Vj [] [] []
theorem Iv:aM prog 143 Sf Iu:=fn0 aac Tryz.func143 C5.2
def MO:Cut SN:=⟨[(0,Dq1),(2,Dq1),(3,Dq1),(5, .bp 5 0),(10,Dq1),(28,Dq1),(29,Dq4)],[(5, .st .myIntT)]⟩
def MP:Cut SN:=⟨[(0,Dq1),(2,Dq1),(3,Dq1),(5, .bp 5 0),(10,Dq1),(36,Dq4)],[(5, .st .myIntT)]⟩
def UU:aN vw:={rcut:=n6}
def RQ:Sig vw:=sg [Dq1,nh,Dq1,Dq1] n6 [.tmp 8, .tmp 9]
noncomputable def El(v:My):Option (Int×Int×Unit):=let G2:=((0:Int),());if decide (v.1>=15)=true then Is v>>=λx1=>some (x1.1,G2)else Er (v.1,v.2.2)>>=λx1=>let G1:=(v.1,v.2.2.1,v.2.2.2.1,x1.1,v.1,true,v.2.1,());if(!x1.2.1)=true then some (((0:Int),(2:Int),()))else(if(v.1==10)=true then some (G1)else if(v.1==11)=true then some (G1)else some ((v.1,v.2.2.1,v.2.2.2.1,x1.1,v.1,v.1==12,v.2.1,())))>>=λx2=>let a:=x2.2.2.2;if a.2.2.1=true then kJ (a.2.2.2.1,a.1,())>>=λx3=>some (x3.1,G2)else(if(a.2.1==13)=true then some (x2.1,x2.2.1,x2.2.2.1,a.1,true,a.2.2.2)else some (x2.1,x2.2.1,x2.2.2.1,a.1,a.2.1==14,a.2.2.2))>>=λx3=>let b:=x3.2.2.2;let G3:=(b.2.2.1,b.1,());if b.2.1=true then Iu G3>>=λx4=>some (x4.1,G2)else wS G3>>=λx4=>if(!x4.1)=true then some (((0:Int),(1:Int),()))else if(x3.1==9)=true then some ((i64.wrap (x3.2.1-i64.wrap (b.1 *x3.2.2.1)),G2))else some (b.1,G2)
def CN:=kP jx (kP yV (kP yY (kP It (kP Iv k0))))
def ZP:Xc vw:=mX prog 54 CN.1 UU [(10,MO,[.norm]),(13,MP,[.norm])] [] []
theorem yU:aM prog 110 RQ El:=fn0 ZP Tryz.func110 CN.2
def PH:Cut SN:=⟨[(0,Dq1),(2,Dq1),(3,Dq1),(5, .bp 5 0),(9,Dq1),(10,Dq1),(21,Dq4)],[(5, .st .myIntT)]⟩
def PI:Cut SN:=⟨[(0,Dq1),(2,Dq1),(3,Dq1),(5, .bp 5 0),(9,Dq1),(29,Dq4)],[(5, .st .myIntT)]⟩
def UT:aN vw:={rcut:=Ah}
def RP:Sig vw:=sg [Dq1,nh,Dq1,Dq1] Ah [.tmp 8]
noncomputable def HW(v:My):Option (Int×Unit):=El v>>=λx1=>(if(x1.2.1==2)=true then some ((v.1,v.2.2.1,v.2.2.2.1,x1.1,x1.2.1,v.1==9,v.2.1,()))else some ((v.1,v.2.2.1,v.2.2.2.1,x1.1,x1.2.1,false,v.2.1,())))>>=λx2=>let a:=x2.2.2;if a.2.2.2.1=true then some ((x2.2.1,()))else(if(a.2.2.1==1)=true then some (x2.1,x2.2.1,a.1,a.2.1,x2.1 !=9,a.2.2.2.2)else some (x2.1,x2.2.1,a.1,a.2.1,false,a.2.2.2.2))>>=λx3=>if x3.2.2.2.2.1=true then Er (x3.1,x3.2.1,x3.2.2.1,())>>=λx4=>kJ (x3.2.2.2.2.2.1,x4.1,())>>=λx5=>some (x5)else some ((x3.2.2.2.1,()))
def CM:=kP jx (kP yU (kP yY k0))
def ZO:Xc vw:=mX prog 47 CM.1 UT [] [(2,PH),(4,PI)] []
theorem HX:aM prog 109 RP HW:=fn0 ZO Tryz.func109 CM.2
def UV:aN vw:={rcut:=iI}
def RR:Sig vw:=sg [Dq1,Dq1,Dq1] iI [.tmp 6]
noncomputable def HY(v:Ck):Option (Bool×Unit):=let a:=v.2.2.1;if(v.1==18)=true then some ((v.2.1==a,()))else if(v.1==19)=true then some ((v.2.1 !=a,()))else if(v.1==20)=true then some ((decide (v.2.1<a),()))else if(v.1==21)=true then some ((decide (v.2.1<=a),()))else if(v.1==22)=true then some ((decide (v.2.1>a),()))else some ((decide (v.2.1>=a),()))
def ZQ:Xc vw:=mX prog 36 c0 UV [] [] []
theorem HZ:aM prog 111 RR HY:=fn0 ZQ Tryz.func111 bP
def He:Cut SN:=⟨[(0,Dq3),(1,Dq5),(5,Dq1)],[]⟩
def YM:aN vw:=shL [(0,dL)] bG
def SK:Sig vw:=sg [Dq3,Dq5] bG [.tmp 4]
abbrev Xi:=(List aB)×ByteArray×Int×Unit
noncomputable def mh(v:Xi):Option (((Int×Unit)⊕(Unit))):=if decide (v.2.2.1<(↑v.1.length:Int))=true then if 0<=v.2.2.1 then v.1[v.2.2.1.toNat]?>>=λx1=>if(x1.name0.toList==v.2.1.toList)=true then some (abr v.2.2)else mh (v.1,v.2.1,i64.wrap (v.2.2.1+1),())else none else some (abQ ()) partial_fixpoint
noncomputable def N3(v:(List aB)×ByteArray×Unit):Option (Int×Unit):=mh (v.1,v.2.1,(0:Int),())>>=λx1=>match x1 with| .inl y1=>some y1| .inr y1=>some (((-1:Int),()))
def x36:Xc vw:=mX prog 20 c0 YM [] [] [(2,⟨He,[.ret, .exit 0],mh⟩)]
theorem EK:fB x36 (aS (aO Tryz.f36) 0) ⟨He,[.ret, .exit 0],mh⟩:=lp0 mh.partial_correctness bP
theorem pg:aM prog 36 SK N3:=fn1 x36 Tryz.func36 bP EK
def Hf:Cut SN:=⟨[(0,Dq3),(3,Dq1),(4,Dq1)],[]⟩
def Y0:aN vw:=shL [(0,M6)] nj
def Wp:Sig vw:=sg [Dq3] nj [.tmp 2]
noncomputable def mq(v:S9):Option ((Int×Unit)):=if decide (v.2.2.1<(↑v.1.length:Int))=true then if 0<=v.2.2.1 then v.1[v.2.2.1.toNat]?>>=λx1=>mq (v.1,i64.wrap (v.2.1+(↑x1.code.length:Int)),i64.wrap (v.2.2.1+1),())else none else some ((v.2.1,())) partial_fixpoint
noncomputable def Tw(v:(List aB)×Unit):Option (Int×Unit):=mq (v.1,(0:Int),(0:Int),())>>=λx1=>some (x1)
def x54:Xc vw:=mX prog 20 c0 Y0 [] [] [(3,⟨Hf,[.exit 0],mq⟩)]
theorem EX:fB x54 (aS (aO Tryz.f54) 0) ⟨Hf,[.exit 0],mq⟩:=lp0 mq.partial_correctness bP
theorem Ob:aM prog 54 Wp Tw:=fn1 x54 Tryz.func54 bP EX
def Y2:aN vw:=shL [(0,dL)] bG
def Wr:Sig vw:=sg [Dq3,Dq5] bG [.tmp 4]
noncomputable def mr(v:Xi):Option (((Int×Unit)⊕(Unit))):=if decide (v.2.2.1<(↑v.1.length:Int))=true then if 0<=v.2.2.1 then v.1[v.2.2.1.toNat]?>>=λx1=>if(x1.name0.toList==v.2.1.toList)=true then some (abr v.2.2)else mr (v.1,v.2.1,i64.wrap (v.2.2.1+1),())else none else some (abQ ()) partial_fixpoint
noncomputable def Rf(v:(List aB)×ByteArray×Unit):Option (Int×Unit):=mr (v.1,v.2.1,(0:Int),())>>=λx1=>match x1 with| .inl y1=>some y1| .inr y1=>some (((-1:Int),()))
def x56:Xc vw:=mX prog 20 c0 Y2 [] [] [(2,⟨He,[.ret, .exit 0],mr⟩)]
theorem EZ:fB x56 (aS (aO Tryz.f56) 0) ⟨He,[.ret, .exit 0],mr⟩:=lp0 mr.partial_correctness bP
theorem EY:aM prog 56 Wr Rf:=fn1 x56 Tryz.func56 bP EZ
def T8:Cut SN:=⟨[(0,Dq3),(5, .bp 5 0),(9,Dq4),(67,Dq4)],[(5, .st .myCodeT)]⟩
def Y5:aN vw:={rcut:=iI}
def Wu:Sig vw:=sg [Dq3,Ci,lZ] iI [.tmp 6]
noncomputable def Tz(v:Xh):Option (Bool×Unit):=let f:=v.2;let c:=f.2;let d:=c.1;let e:=v.1;let G3:=(false,());Cf (d.op,(0:Int),(19:Int),())>>=λx1=>if(!x1.1)=true then some (G3)else HP (d.op,())>>=λx2=>let g:=x2.2.2.1;let h:=x2.2.2.2.1;let i:=x2.1;let G2:=(e,g,true,c);let G1:=(e,g,false,c);(if(!i)=true then if(d.a !=0)=true then some (G2)else if(!x2.2.1)=true then if(d.b !=0)=true then some (G2)else if(!g)=true then if(!(Mp.ieq d.type0.base (aF.mk (0:Int) (0:Int) (aaK #[]) false false).base&&(Mp.ieq d.type0.bits (aF.mk (0:Int) (0:Int) (aaK #[]) false false).bits&&(Mp.seq d.type0.name0 (aF.mk (0:Int) (0:Int) (aaK #[]) false false).name0&&(Mp.beq d.type0.opt (aF.mk (0:Int) (0:Int) (aaK #[]) false false).opt&&Mp.beq d.type0.err (aF.mk (0:Int) (0:Int) (aaK #[]) false false).err)))))=true then some (G2)else if(!h)=true then if(!d.name0.toList==(aaK #[]).toList)=true then some (G2)else if i=true then iA f>>=λx3=>some (e,g,!x3.1,c)else some (G1)else if i=true then iA f>>=λx3=>some (e,g,!x3.1,c)else some (G1)else if(!h)=true then if(!d.name0.toList==(aaK #[]).toList)=true then some (G2)else if i=true then iA f>>=λx3=>some (e,g,!x3.1,c)else some (G1)else if i=true then iA f>>=λx3=>some (e,g,!x3.1,c)else some (G1)else if(!g)=true then if(!(Mp.ieq d.type0.base (aF.mk (0:Int) (0:Int) (aaK #[]) false false).base&&(Mp.ieq d.type0.bits (aF.mk (0:Int) (0:Int) (aaK #[]) false false).bits&&(Mp.seq d.type0.name0 (aF.mk (0:Int) (0:Int) (aaK #[]) false false).name0&&(Mp.beq d.type0.opt (aF.mk (0:Int) (0:Int) (aaK #[]) false false).opt&&Mp.beq d.type0.err (aF.mk (0:Int) (0:Int) (aaK #[]) false false).err)))))=true then some (G2)else if(!h)=true then if(!d.name0.toList==(aaK #[]).toList)=true then some (G2)else if i=true then iA f>>=λx3=>some (e,g,!x3.1,c)else some (G1)else if i=true then iA f>>=λx3=>some (e,g,!x3.1,c)else some (G1)else if(!h)=true then if(!d.name0.toList==(aaK #[]).toList)=true then some (G2)else if i=true then iA f>>=λx3=>some (e,g,!x3.1,c)else some (G1)else if i=true then iA f>>=λx3=>some (e,g,!x3.1,c)else some (G1)else if(!x2.2.1)=true then if(d.b !=0)=true then some (G2)else if(!g)=true then if(!(Mp.ieq d.type0.base (aF.mk (0:Int) (0:Int) (aaK #[]) false false).base&&(Mp.ieq d.type0.bits (aF.mk (0:Int) (0:Int) (aaK #[]) false false).bits&&(Mp.seq d.type0.name0 (aF.mk (0:Int) (0:Int) (aaK #[]) false false).name0&&(Mp.beq d.type0.opt (aF.mk (0:Int) (0:Int) (aaK #[]) false false).opt&&Mp.beq d.type0.err (aF.mk (0:Int) (0:Int) (aaK #[]) false false).err)))))=true then some (G2)else if(!h)=true then if(!d.name0.toList==(aaK #[]).toList)=true then some (G2)else if i=true then iA f>>=λx3=>some (e,g,!x3.1,c)else some (G1)else if i=true then iA f>>=λx3=>some (e,g,!x3.1,c)else some (G1)else if(!h)=true then if(!d.name0.toList==(aaK #[]).toList)=true then some (G2)else if i=true then iA f>>=λx3=>some (e,g,!x3.1,c)else some (G1)else if i=true then iA f>>=λx3=>some (e,g,!x3.1,c)else some (G1)else if(!g)=true then if(!(Mp.ieq d.type0.base (aF.mk (0:Int) (0:Int) (aaK #[]) false false).base&&(Mp.ieq d.type0.bits (aF.mk (0:Int) (0:Int) (aaK #[]) false false).bits&&(Mp.seq d.type0.name0 (aF.mk (0:Int) (0:Int) (aaK #[]) false false).name0&&(Mp.beq d.type0.opt (aF.mk (0:Int) (0:Int) (aaK #[]) false false).opt&&Mp.beq d.type0.err (aF.mk (0:Int) (0:Int) (aaK #[]) false false).err)))))=true then some (G2)else if(!h)=true then if(!d.name0.toList==(aaK #[]).toList)=true then some (G2)else if i=true then iA f>>=λx3=>some (e,g,!x3.1,c)else some (G1)else if i=true then iA f>>=λx3=>some (e,g,!x3.1,c)else some (G1)else if(!h)=true then if(!d.name0.toList==(aaK #[]).toList)=true then some (G2)else if i=true then iA f>>=λx3=>some (e,g,!x3.1,c)else some (G1)else if i=true then iA f>>=λx3=>some (e,g,!x3.1,c)else some (G1))>>=λx3=>let j:=x3.2.2.2.1;if x3.2.2.1=true then some (G3)else if(j.op==0)=true then(Pm (j.type0,())>>=λx4=>if x4.1=true then if(!j.type0.opt)=true then some ((!j.type0.err,()))else some (G3)else some (G3))>>=λx4=>some (x4)else if x3.2.1=true then HS (j.type0,())>>=λx4=>some (x4)else if(j.op==18)=true then Pl (j.name0,())>>=λx4=>some (x4)else if(j.op==16)=true then Rf (x3.1,j.name0,())>>=λx4=>(if decide (x4.1>=0)=true then if 0<=x4.1 then x3.1[x4.1.toNat]?>>=λx5=>some ((j.b==x5.params,()))else none else some (G3))>>=λx5=>some (x5)else some ((true,()))
def LB:=kP wX (kP EY (kP sU (kP wY (kP HQ (kP HR (kP HT k0))))))
def x59:Xc vw:=mX prog 119 LB.1 Y5 [] [(4,T8),(7,iI),(14,iI)] []
theorem Oc:aM prog 59 Wu Tz:=fn0 x59 Tryz.func59 LB.2
def MZ:Cut SN:=⟨[(0,Dq3),(3,Dq1)],[]⟩
def M4:Cut SN:=⟨[(0,Dq3),(4,Dq1)],[]⟩
def Lm:Cut SN:=⟨[(0,Dq3),(4,Dq1),(5, .bp 5 0),(6,Dq1)],[(5, .st .myFuncT)]⟩
def T3:Cut SN:=⟨[(0,Dq3),(14,Dq4)],[]⟩
def Qn:Cut SN:=⟨[(0,Dq3),(4,Dq1),(5, .bp 5 0),(68,Dq4)],[(5, .st .myFuncT)]⟩
def T2:Cut SN:=⟨[(0,Dq3)],[]⟩
def YQ:aN vw:=shL [(0,T2),(2,dL),(4,M4)] nj
def Wg:Sig vw:=sg [Dq3] nj [.tmp 2]
noncomputable def mj(v:(List aB)×Int×Unit):Option (((Int×Unit)⊕((List aB)×Unit))):=if decide (v.2.1<(↑v.1.length:Int))=true then if 0<=v.2.1 then v.1[v.2.1.toNat]?>>=λx1=>if decide (x1.places>200)=true then some (abr ((3:Int),()))else mj (v.1,i64.wrap (v.2.1+1),())else none else some (abQ (v.1,())) partial_fixpoint
noncomputable def jc(v:(List aB)×Int×Int×aB×Unit):Option (((Int×Unit)⊕((List aB)×Int×Unit))):=let a:=v.2.2;if decide (a.1<(↑a.2.1.code.length:Int))=true then if 0<=a.1 then a.2.1.code[a.1.toNat]?>>=λx1=>Tz (v.1,a.2.1,x1,())>>=λx2=>if(!x2.1)=true then some (abr ((1:Int),()))else jc (v.1,v.2.1,i64.wrap (a.1+1),a.2)else none else some (abQ (v.1,v.2.1,())) partial_fixpoint
noncomputable def ml(v:(List aB)×Int×Unit):Option (((Int×Unit)⊕(Unit))):=if decide (v.2.1<(↑v.1.length:Int))=true then if 0<=v.2.1 then v.1[v.2.1.toNat]?>>=λx1=>let G1:=(v.1,v.2.1,true,x1,());(Pl (x1.name0,())>>=λx2=>if(!x2.1)=true then some (G1)else Rf (v.1,x1.name0,())>>=λx3=>if decide (x3.1<v.2.1)=true then some (G1)else Cf (x1.params,(0:Int),x1.places,())>>=λx4=>if(!x4.1)=true then some (G1)else Pm (x1.type0,())>>=λx5=>if(!x5.1)=true then some (G1)else some ((v.1,v.2.1,decide ((↑x1.code.length:Int)<1),x1,())))>>=λx2=>if x2.2.2.1=true then some (abr ((1:Int),()))else jc (x2.1,x2.2.1,(0:Int),x2.2.2.2)>>=λx3=>match x3 with| .inl y3=>some (abr y3)| .inr y3=>ml (y3.1,i64.wrap (y3.2.1+1),())else none else some (abQ ()) partial_fixpoint
noncomputable def Rc(v:(List aB)×Unit):Option (Int×Unit):=(if decide ((↑v.1.length:Int)>48)=true then some ((v.1,true,()))else Tw v>>=λx1=>some ((v.1,decide (x1.1>2000),())))>>=λx1=>if x1.2.1=true then some (((3:Int),()))else mj (x1.1,(0:Int),())>>=λx2=>match x2 with| .inl y2=>some y2| .inr y2=>ml (y2.1,(0:Int),())>>=λx3=>match x3 with| .inl y3=>some y3| .inr y3=>some (((0:Int),()))
def tQ:=kP Ob (kP wX (kP EY (kP sU (kP wY (kP Oc k0)))))
def x41:Xc vw:=mX prog 85 tQ.1 YQ [] [(1,T3),(12,Qn)] [(4,⟨MZ,[.ret, .exit 0],mj⟩),(9,⟨M4,[.ret, .exit 2],ml⟩),(15,⟨Lm,[.ret, .exit 4],jc⟩)]
theorem EP:fB x41 (aS (aO Tryz.f41) 0) ⟨MZ,[.ret, .exit 0],mj⟩:=lp0 mj.partial_correctness tQ.2
theorem Bc:fB x41 (aS (aS (aO Tryz.f41) 1) 0) ⟨Lm,[.ret, .exit 4],jc⟩:=lp0 jc.partial_correctness tQ.2
theorem EQ:fB x41 (aS (aO Tryz.f41) 1) ⟨M4,[.ret, .exit 2],ml⟩:=lp1 ml.partial_correctness tQ.2 Bc
theorem EO:aM prog 41 Wg Rc:=fn2 x41 Tryz.func41 tQ.2 EP EQ
def Qy:Cut SN:=⟨[(1, .bp 1 0),(3, .vh 1003),(4,S7),(5,Dq1)],[(1, .st .myFuncT),(1003, .maps 145 (.int .i64) .bool)]⟩
def M7:Cut SN:=⟨[(1, .bp 1 0),(3, .vh 1003),(4,S7),(5,Dq1),(6,Dq4),(36, .bp 36 0)],[(1, .st .myFuncT),(1003, .maps 145 (.int .i64) .bool),(36, .miter 50035 (.int .i64) .bool)]⟩
def Qz:Cut SN:=⟨[(1, .bp 1 0),(3, .vh 1003),(4,S7),(5,Dq1),(6,Dq4)],[(1, .st .myFuncT),(1003, .maps 145 (.int .i64) .bool)]⟩
def Y6:aN vw:=shL [(0,dL),(2,Qz)] nj
def Wv:Sig vw:=sg [Ci] nj [.tmp 2]
noncomputable def mt(v:(List Bool)×Int×Bool×aB×(List (Option (List (Int×Bool))))×(List (Int×Bool))×(List (Int×Bool))×Unit):Option (((List Bool)×Int×Bool×aB×(List (Option (List (Int×Bool))))×Unit)):=let a:=v.2.2.2;if a.2.2.2.1.isEmpty=true then some ((v.1,v.2.1,v.2.2.1,a.1,a.2.1,()))else adn (λq1=>(if v.2.2.1=true then some ((v.1,v.2.1,true,a.1,a.2.1,a.2.2.1,q1.2,()))else Ek (a.1,v.2.1,q1.1.1,())>>=λx2=>some ((v.1,v.2.1,!x2.1,a.1,a.2.1,a.2.2.1,q1.2,())))>>=λx2=>mt x2) (Tx.steps a.2.2.2.1)>>=same partial_fixpoint
noncomputable def jd(v:(List Bool)×Int×aB×(List (Option (List (Int×Bool))))×Unit):Option (((Int×Unit)⊕(Unit))):=let a:=v.2.1;if decide (a<(↑v.2.2.1.code.length:Int))=true then(if 0<=a/\a<(↑v.2.2.2.1.length:Int)then v.2.2.2.1[a.toNat]?>>=λx1=>(x1:Option (List (Int×Bool)))>>=λx2=>v.2.2.2.1[a.toNat]?>>=λx3=>(x3:Option (List (Int×Bool)))>>=λx4=>if decide ((↑x4.length:Int)>1)=true then some (v.1,a,true,v.2.2)else if 0<=a then v.1[a.toNat]?>>=λx5=>some (v.1,a,x5,v.2.2)else none else none)>>=λx1=>let b:=x1.2;let c:=b.2.2.2.1;if 0<=b.1/\b.1<(↑c.length:Int)then c[b.1.toNat]?>>=λx2=>(x2:Option (List (Int×Bool)))>>=λx3=>c[b.1.toNat]?>>=λx4=>(x4:Option (List (Int×Bool)))>>=λx5=>mt (x1.1,b.1,b.2.1,b.2.2.1,c.set b.1.toNat none,x5,x5,())>>=λx6=>if x6.2.2.1=true then some (abr (x6.2.1,()))else jd (x6.1,i64.wrap (x6.2.1+1),x6.2.2.2)else none else some (abQ ()) partial_fixpoint
noncomputable def TA(v:aB×Unit):Option (Int×Unit):=HU v>>=λx1=>jd (x1.1,(0:Int),v.1,x1.2)>>=λx2=>match x2 with| .inl y2=>some y2| .inr y2=>some (((-1:Int),()))
def yk:=kO HV (kP yT k0)
def x60:Xc vw:=mX prog 51 yk.1 Y6 [] [(5,Qz),(9,M7)] [(3,⟨Qy,[.ret, .exit 0],jd⟩),(7,⟨M7,[.exit 2],mt⟩)]
theorem E3:fB x60 (aS (aS (aO Tryz.f60) 0) 0) ⟨M7,[.exit 2],mt⟩:=lp0 mt.partial_correctness yk.2
theorem E1:fB x60 (aS (aO Tryz.f60) 0) ⟨Qy,[.ret, .exit 0],jd⟩:=lp1 jd.partial_correctness yk.2 E3
theorem Od:aM prog 60 Wv TA:=fn1 x60 Tryz.func60 yk.2 E1
def Qo:Cut SN:=⟨[(0,Dq3),(6,Dq1)],[]⟩
def YR:aN vw:=shL [(0,dL)] Tc
def Wh:Sig vw:=sg [Dq3] Tc [.tmp 2, .tmp 3, .tmp 4]
noncomputable def kS(v:(List aB)×Int×Unit):Option (((Ck)⊕(Unit))):=if decide (v.2.1<(↑v.1.length:Int))=true then if 0<=v.2.1 then v.1[v.2.1.toNat]?>>=λx1=>TA (x1,())>>=λx2=>if decide (x2.1>=0)=true then some (abr (v.2.1,x2.1,(7:Int),()))else kS (v.1,i64.wrap (v.2.1+1),())else none else some (abQ ()) partial_fixpoint
noncomputable def Tp(v:(List aB)×Unit):Option (Ck):=Rc v>>=λx1=>if(x1.1 !=0)=true then some (((0:Int),(0:Int),x1))else kS (v.1,(0:Int),())>>=λx2=>match x2 with| .inl y2=>some y2| .inr y2=>some (((0:Int),(0:Int),(0:Int),()))
def Dk:=kP EO (kP Od k0)
def x42:Xc vw:=mX prog 28 Dk.1 YR [] [] [(5,⟨Qo,[.ret, .exit 0],kS⟩)]
theorem ER:fB x42 (aS (aO Tryz.f42) 0) ⟨Qo,[.ret, .exit 0],kS⟩:=lp0 kS.partial_correctness Dk.2
theorem N5:aM prog 42 Wh Tp:=fn1 x42 Tryz.func42 Dk.2 ER
def Qp:Cut SN:=⟨[(0,lY),(3,Dq1)],[]⟩
def T4:Cut SN:=⟨[(0,lY),(3,Dq1),(23,Dq4)],[]⟩
def YS:aN vw:=shL [(0,dL)] nj
def Wi:Sig vw:=sg [lY] nj [.tmp 2]
noncomputable def mm(v:(List aE)×Int×Unit):Option (((Int×Unit)⊕(Unit))):=let a:=v.2.1;if decide (a<(↑v.1.length:Int))=true then(if 0<=a then v.1[a.toNat]?>>=λx1=>if decide (x1.n<(-2147483648:Int))=true then some ((v.1,a,true,()))else if 0<=a then v.1[a.toNat]?>>=λx2=>some ((v.1,a,decide (x2.n>2147483648),()))else none else none)>>=λx1=>if x1.2.2.1=true then some (abr ((1:Int),()))else mm (x1.1,i64.wrap (x1.2.1+1),())else some (abQ ()) partial_fixpoint
noncomputable def Tq(v:(List aE)×Unit):Option (Int×Unit):=mm (v.1,(0:Int),())>>=λx1=>match x1 with| .inl y1=>some y1| .inr y1=>some (((0:Int),()))
def x43:Xc vw:=mX prog 24 c0 YS [] [(4,T4)] [(2,⟨Qp,[.ret, .exit 0],mm⟩)]
theorem ES:fB x43 (aS (aO Tryz.f43) 0) ⟨Qp,[.ret, .exit 0],mm⟩:=lp0 mm.partial_correctness bP
theorem N6:aM prog 43 Wi Tq:=fn1 x43 Tryz.func43 bP ES
def YG:aN vw:={rcut:=CB}
def V9:Sig vw:=sg [Dq3,Dq5,lY] CB [.tmp 6]
noncomputable def Tl(v:S8):Option (Int×Unit):=Rc (v.1,())>>=λx1=>if(x1.1 !=0)=true then some (x1)else Tp (v.1,())>>=λx2=>if(x2.2.2.1 !=0)=true then some (x2.2.2)else N3 (v.1,v.2.1,())>>=λx3=>if decide (x3.1<0)=true then some (((4:Int),()))else if 0<=x3.1 then v.1[x3.1.toNat]?>>=λx4=>if((↑v.2.2.1.length:Int) !=x4.params)=true then some (((10:Int),()))else Tq v.2.2>>=λx5=>some (x5)else none
def Lt:=kP pg (kP EO (kP N5 (kP N6 k0)))
def x30:Xc vw:=mX prog 41 Lt.1 YG [] [] []
theorem NZ:aM prog 30 V9 Tl:=fn0 x30 Tryz.func30 Lt.2
def Xs:Cut SN:=⟨[(4, .bp 4 0)],[(4, .st .itemT)]⟩
def Y7:aN vw:={rcut:=Xs}
def SO:Sig vw:=sg [vK,Dq1] Xs [.cell 4 65]
noncomputable def Rg(v:aF×Int×Unit):Option (Item×Unit):=if(v.1.base==0)=true then some ((Item.mk 0 false (aaK #[]),()))else if(v.1.base==1)=true then AM (v.2.1 !=0,())>>=λx1=>some (x1)else AN (v.1,())>>=λx1=>kJ (x1.1,v.2)>>=λx2=>some ((Item.mk x2.1 false (aaK #[]),()))
def LC:=kP sK (kP jx (kP sL k0))
def x61:Xc vw:=mX prog 20 LC.1 Y7 [] [] []
theorem wZ:aM prog 61 SO Rg:=fn0 x61 Tryz.func61 LC.2
def Xt:Cut SN:=⟨[(10, .bp 10 0),(11,Dq1)],[(10, .st .itemT)]⟩
def Y8:aN vw:={rcut:=Xt}
abbrev Ms:Pt SN:= .dat (.st .itemT)
def SP:Sig vw:=sg [Dq1,vK,Ms,Ms,Dq4] Xt [.cell 10 65, .tmp 11]
noncomputable def Ri(v:Int×aF×Item×Item×Bool×Unit):Option (Int×Item×Unit):=AN (v.2.1,())>>=λx1=>kJ (x1.1,v.2.2.1.n,())>>=λx2=>kJ (x1.1,v.2.2.2.1.n,())>>=λx3=>if(!v.2.2.2.2.1)=true then HW (v.1,x1.1,x2.1,x3)>>=λx4=>some (((0:Int),Item.mk x4.1 false (aaK #[]),()))else El (v.1,x1.1,x2.1,x3)>>=λx4=>some ((x4.2.1,Item.mk x4.1 false (aaK #[]),()))
def LD:=kP jx (kP sL (kP HX (kP yU k0)))
def x62:Xc vw:=mX prog 46 LD.1 Y8 [] [] []
theorem w5:aM prog 62 SP Ri:=fn0 x62 Tryz.func62 LD.2
def Xu:Cut SN:=⟨[(6, .bp 6 0)],[(6, .st .itemT)]⟩
def Y9:aN vw:={rcut:=Xu}
def SQ:Sig vw:=sg [Dq1,Ms,Ms] Xu [.cell 6 65]
noncomputable def Rj(v:Int×Item×Item×Unit):Option (Item×Unit):=HY (v.1,v.2.1.n,v.2.2.1.n,())>>=λx1=>AM x1>>=λx2=>some (x2)
def LE:=kP sK (kP HZ k0)
def x63:Xc vw:=mX prog 14 LE.1 Y9 [] [] []
theorem w6:aM prog 63 SQ Rj:=fn0 x63 Tryz.func63 LE.2
def QA:Cut SN:=⟨[(6, .bp 6 0),(8, .bp 8 0),(10, .bp 10 0)],[(6, .st .itemT),(8, .st .itemT),(10, .st .myIntT)]⟩
def T9:Cut SN:=⟨[(6, .bp 6 0),(8, .bp 8 0),(27,Dq4)],[(6, .st .itemT),(8, .st .itemT)]⟩
def QB:Cut SN:=⟨[(8, .bp 8 0),(10, .bp 10 0),(11,Dq1),(45,Dq4)],[(8, .st .itemT),(10, .st .myIntT)]⟩
def QC:Cut SN:=⟨[(6, .bp 6 0),(8, .bp 8 0),(10, .bp 10 0),(60,Dq4)],[(6, .st .itemT),(8, .st .itemT),(10, .st .myIntT)]⟩
def Xv:Cut SN:=⟨[(8, .bp 8 0),(9,Dq1)],[(8, .st .itemT)]⟩
def Y_:aN vw:={rcut:=Xv}
def SR:Sig vw:=sg [Dq1,vK,Ms,Dq4] Xv [.cell 8 65, .tmp 9]
noncomputable def Rk(v:Int×aF×Item×Bool×Unit):Option (Int×Item×Unit):=let a:=v.2.2.1;AN (v.2.1,())>>=λx1=>(if(v.1==8)=true then AM (a.n==0,())>>=λx2=>some (abQ ((0:Int),x2))else if(v.1==11)=true then(if a.null=true then some ((v.2.2.2.1,a,Item.mk 0 false (aaK #[]),()))else some ((false,a,Item.mk 0 false (aaK #[]),())))>>=λx2=>if x2.1=true then some (abQ ((4:Int),Item.mk 0 false (aaK #[]),()))else some (abQ ((0:Int),Item.mk x2.2.1.n false (aaK #[]),()))else if(v.1==7)=true then kJ (x1.1,a.n,())>>=λx2=>(if v.2.2.2.1=true then wS (x1.1,i64.wrap ((0:Int) -x2.1),())>>=λx3=>some ((i64.wrap ((0:Int) -x2.1),!x3.1,Item.mk 0 false (aaK #[]),x1))else some ((i64.wrap ((0:Int) -x2.1),false,Item.mk 0 false (aaK #[]),x1)))>>=λx3=>if x3.2.1=true then some (abQ ((1:Int),Item.mk 0 false (aaK #[]),()))else kJ (x3.2.2.2.1,x3.1,())>>=λx4=>some (abQ ((0:Int),Item.mk x4.1 false (aaK #[]),()))else if(v.1==9)=true then(if v.2.2.2.1=true then wS (x1.1,a.n,())>>=λx2=>some ((!x2.1,a,Item.mk 0 false (aaK #[]),x1))else some ((false,a,Item.mk 0 false (aaK #[]),x1)))>>=λx2=>if x2.1=true then some (abQ ((3:Int),Item.mk 0 false (aaK #[]),()))else some (abr x2.2)else some (abr (a,Item.mk 0 false (aaK #[]),x1)))>>=λx2=>match x2 with| .inl y2=>kJ (y2.2.2.1,y2.1.n,())>>=λx3=>some (((0:Int),Item.mk x3.1 false (aaK #[]),()))| .inr y2=>some y2
def LF:=kP sK (kP jx (kP sL (kP yV k0)))
def x64:Xc vw:=mX prog 67 LF.1 Y_ [(17,QA,[.norm, .ret])] [(6,T9),(11,QB),(15,QC)] []
theorem w7:aM prog 64 SR Rk:=fn0 x64 Tryz.func64 LF.2
abbrev S5:Pt SN:= .dat (.sl (.st .itemT))
abbrev lA:OPt SN:= .vec 65 (.st .itemT)
def fD:Cut SN:=⟨[(0,Dq3),(1,Dq1),(2,S5),(3,Dq1),(4,Dq4),(11, .bp 11 0),(12, .bp 12 0),(13, .bp 13 0),(14, .vh 1014),(15,Dq1)],[(11, .box none [Dq1,Dq1,Dq1, .vh 3113,Dq1, .vh 3115,Dq1]),(12, .st .itemT),(13, .st .logT),(1014,lA),(3113,Oq7),(3115,lA)]⟩
def eN:Cut SN:=⟨[(0,Dq3),(1,Dq1),(3,Dq1),(4,Dq4),(11, .bp 11 0),(12, .bp 12 0),(13, .bp 13 0),(14, .vh 1014),(16, .vh 1016),(17,Dq1)],[(11, .box none [Dq1,Dq1,Dq1, .vh 3113,Dq1, .vh 3115,Dq1]),(12, .st .itemT),(13, .st .logT),(1014,lA),(1016,lA),(3113,Oq7),(3115,lA)]⟩
def n7:Cut SN:=⟨[(0,Dq3),(1,Dq1),(3,Dq1),(4,Dq4),(11, .bp 11 0),(12, .bp 12 0),(13, .bp 13 0),(14, .vh 1014)],[(11, .box none [Dq1,Dq1,Dq1, .vh 3113,Dq1, .vh 3115,Dq1]),(12, .st .itemT),(13, .st .logT),(1014,lA),(3113,Oq7),(3115,lA)]⟩
def v_:Cut SN:=⟨[(0,Dq3),(1,Dq1),(3,Dq1),(4,Dq4),(11, .bp 11 0),(12, .bp 12 0),(13, .bp 13 0),(14, .vh 1014),(16, .vh 1016),(17,Dq1),(18, .bp 18 0),(19, .bp 19 0),(20,Dq1)],[(11, .box none [Dq1,Dq1,Dq1, .vh 3113,Dq1, .vh 3115,Dq1]),(12, .st .itemT),(13, .st .logT),(1014,lA),(1016,lA),(18, .st .myCodeT),(19, .st .itemT),(3113,Oq7),(3115,lA)]⟩
def wa:Cut SN:=⟨[(0,Dq3),(1,Dq1),(3,Dq1),(4,Dq4),(11, .bp 11 0),(12, .bp 12 0),(13, .bp 13 0),(14, .vh 1014),(16, .vh 1016),(17,Dq1),(18, .bp 18 0),(19, .bp 19 0),(20,Dq1),(21,Dq1),(117,Dq1),(239,Dq4)],[(11, .box none [Dq1,Dq1,Dq1, .vh 3113,Dq1, .vh 3115,Dq1]),(12, .st .itemT),(13, .st .logT),(1014,lA),(1016,lA),(18, .st .myCodeT),(19, .st .itemT),(3113,Oq7),(3115,lA)]⟩
def wb:Cut SN:=⟨[(0,Dq3),(1,Dq1),(3,Dq1),(4,Dq4),(11, .bp 11 0),(12, .bp 12 0),(13, .bp 13 0),(14, .vh 1014),(16, .vh 1016),(17,Dq1),(21,Dq1)],[(11, .box none [Dq1,Dq1,Dq1, .vh 3113,Dq1, .vh 3115,Dq1]),(12, .st .itemT),(13, .st .logT),(1014,lA),(1016,lA),(3113,Oq7),(3115,lA)]⟩
def wc:Cut SN:=⟨[(0,Dq3),(1,Dq1),(3,Dq1),(4,Dq4),(11, .bp 11 0),(12, .bp 12 0),(13, .bp 13 0),(14, .vh 1014),(67,Dq4)],[(11, .box none [Dq1,Dq1,Dq1, .vh 3113,Dq1, .vh 3115,Dq1]),(12, .st .itemT),(13, .st .logT),(1014,lA),(3113,Oq7),(3115,lA)]⟩
def wd:Cut SN:=⟨[(0,Dq3),(1,Dq1),(3,Dq1),(4,Dq4),(11, .bp 11 0),(12, .bp 12 0),(13, .bp 13 0),(14, .vh 1014),(16, .vh 1016),(17,Dq1),(19, .bp 19 0),(21,Dq1),(182,Dq4)],[(11, .box none [Dq1,Dq1,Dq1, .vh 3113,Dq1, .vh 3115,Dq1]),(12, .st .itemT),(13, .st .logT),(1014,lA),(1016,lA),(19, .st .itemT),(3113,Oq7),(3115,lA)]⟩
def wg:Cut SN:=⟨[(0,Dq3),(1,Dq1),(3,Dq1),(4,Dq4),(11, .bp 11 0),(12, .bp 12 0),(13, .bp 13 0),(14, .vh 1014),(16, .vh 1016),(17,Dq1),(18, .bp 18 0),(21,Dq1),(22,S5)],[(11, .box none [Dq1,Dq1,Dq1, .vh 3113,Dq1, .vh 3115,Dq1]),(12, .st .itemT),(13, .st .logT),(1014,lA),(1016,lA),(18, .st .myCodeT),(3113,Oq7),(3115,lA)]⟩
def tJ:Cut SN:=⟨[(12, .bp 12 0),(13, .bp 13 0)],[(12, .st .itemT),(13, .box none [Dq1,Dq1,Dq1, .vh 6133,Dq1, .vh 6135,Dq1]),(6133,Oq7),(6135,lA)]⟩
def gY:aN vw:=shL [(0,n7)] tJ
def jC:Nat->Bool:=λk=>match k with|2000044=>true|3000215=>true|3000226=>true|3000258=>true|3000302=>true|3000331=>true|5000167=>true|5000193=>true|5000269=>true|5000287=>true|_=>false
def c8:Sig vw:={params:=[Dq3,Dq1,S5,Dq1,Dq4, .ag [.inl (.int .i64), .inl (.int .i64), .inl (.int .i64), .inr 100000, .inl (.int .i64), .inr 100001, .inl (.int .i64)]],objs:=[(100000,Oq7),(100001,lA)],rcut:=tJ,rvars:=[.cell 12 65, .cell 13 68],keep:=[6133,6135]}
abbrev Tq9:=(List aB)×Int×(List Item)×Int×Bool×Int×Int×Int×Int×Int×Int×Item×Log×(List Item)×(List Int)×(List Item)×Unit
abbrev Mw:=(List aB)×Int×Int×Bool×Int×Int×Int×Int×Int×Item×Log×(List Item)×(List Int)×(List Item)×Unit
noncomputable def bM(v:Tq9):Option ((Mw)):=let c:=v.2.2;let a:=c.2.2.2;let b:=a.2.2.2.2.2;if decide (a.1<(↑c.1.length:Int))=true then if 0<=a.1 then c.1[a.1.toNat]?>>=λx1=>if 0<=a.1/\a.1<(↑b.2.2.2.1.length:Int)then b.2.2.2.1[a.1.toNat]?>>=λx2=>bM (v.1,v.2.1,c.1,c.2.1,c.2.2.1,i64.wrap (a.1+1),a.2.1,a.2.2.1,a.2.2.2.1,a.2.2.2.2.1,b.1,b.2.1,b.2.2.1,b.2.2.2.1.set a.1.toNat x1,b.2.2.2.2)else none else none else some (v.1,v.2.1,c.2.1,c.2.2.1,a.2) partial_fixpoint
abbrev Tq6:=(List aB)×Int×Int×Bool×Int×Int×Int×Int×Int×Int×Item×Log×(List Item)×(List Item)×(List Int)×(List Item)×Unit
abbrev Tq8:=Item×Int×Int×Int×Int×Int×(List Int)×(List Item)×Unit
abbrev Mx:=(List aB)×Int×(List Item)×Int×Bool×Int×Int×Int×Int×Int×(List Int)×(List Item)×Unit
mutual
noncomputable def aA(v:Tq6):Option ((Tq8)):=let d:=v.2.2;let c:=d.2.2.2.2;let e:=c.2.2;if(c.2.1==40000)=true then some ((Item.mk 0 false (aaK #[]),(2:Int),c.1,c.2.1,e.1,e.2.1,e.2.2.2.2.2.2))else(if(d.1==1)=true then some ((v.1,v.2.1,d.1,d.2.1,d.2.2.1,d.2.2.2.1,c.1,i64.wrap (c.2.1+1),max e.1 (↑e.2.2.2.2.2.1.length:Int),e.2))else some ((v.1,v.2.1,d.1,d.2.1,d.2.2.1,d.2.2.2.1,c.1,i64.wrap (c.2.1+1),e)))>>=λx1=>let i:=x1.2;let g:=i.2.2.2;let j:=g.2.2;let f:=j.2.2.2;let k:=f.2.2;let h:=k.2.2.1;if 0<=i.1 then x1.1[i.1.toNat]?>>=λx2=>if 0<=g.1 then x2.code[g.1.toNat]?>>=λx3=>(if decide (i64.wrap ((↑h.length:Int) -1)>=0)=true then if 0<=i64.wrap ((↑h.length:Int) -1)/\i64.wrap ((↑h.length:Int) -1)<(↑h.length:Int)then h[(i64.wrap ((↑h.length:Int) -1)).toNat]?>>=λx4=>some ((x1.1,i.1,i.2.1,i.2.2.1,i64.wrap (g.1+1),i64.wrap ((↑h.length:Int) -1),g.2.1,j.1,j.2.1,j.2.2.1,f.1,f.2.1,k.1,k.2.1,h,x3,x4,k.2.2.2))else none else some ((x1.1,i.1,i.2.1,i.2.2.1,i64.wrap (g.1+1),i64.wrap ((↑h.length:Int) -1),g.2.1,j.1,j.2.1,j.2.2.1,f.1,f.2.1,k.1,k.2.1,h,x3,Item.mk 0 false (aaK #[]),k.2.2.2)))>>=λx4=>let p:=x4.2.2;let m:=p.2.2.2;let r:=m.2.2;let l:=r.2.2.2;let o:=l.2.2.2.2;let q:=o.2.1;let s:=l.2.2.2.1;let t:=p.2.2.1;let u:=x4.2.1;let w:=o.1;let z:=p.2.1;let aa:=r.2.2.1;let ab:=l.2.2.1;let ac:=o.2.2.2;let G7:=(i64.wrap (m.1-1));let G5:=(x4.1,u,p.1,z,t,m.1,(0:Int),q.op,true,m.2);let G2:=(m.2.1,r.1,r.2.1,aa,l.1,l.2.1,ab,s.set q.a.toNat o.2.2.1,abY m.1.toNat w,o.2.2);let G12:=(x4.1,u,p.1,z,t,(0:Int),false,G2);(if(q.op==0)=true then Rg (q.type0,q.a,())>>=λx5=>if w.length+[x5.1].length<=4294967296 then some (abr (x4.1,u,p.1,z,t,(0:Int),m.2.1,r.1,r.2.1,aa,l.1,l.2.1,ab,s,w++[x5.1],ac))else none else if(q.op==1)=true then if w.length+[Item.mk 0 true (aaK #[])].length<=4294967296 then some (abr (x4.1,u,p.1,z,t,(0:Int),m.2.1,r.1,r.2.1,aa,l.1,l.2.1,ab,s,w++[Item.mk 0 true (aaK #[])],ac))else none else if(q.op==18)=true then if w.length+[Item.mk 0 false q.name0].length<=4294967296 then some (abr (x4.1,u,p.1,z,t,(0:Int),m.2.1,r.1,r.2.1,aa,l.1,l.2.1,ab,s,w++[Item.mk 0 false q.name0],ac))else none else if(q.op==2)=true then if 0<=q.a/\q.a<(↑s.length:Int)then s[q.a.toNat]?>>=λx5=>if w.length+[x5].length<=4294967296 then some (abr (x4.1,u,p.1,z,t,(0:Int),m.2.1,r.1,r.2.1,aa,l.1,l.2.1,ab,s,w++[x5],ac))else none else none else if(q.op==3)=true then if 0<=q.a/\q.a<(↑s.length:Int)then s[q.a.toNat]?>>=λx5=>if 0<=m.1 then if m.1<=(↑w.length:Int)then(if(p.1==1)=true then if(l.1==q.a)=true then some ((x4.1,u,p.1,z,t,(0:Int),decide ((↑ac.2.1.length:Int)<100),G2))else some (G12)else some (G12))>>=λx6=>let af:=x6.2.2.2.2;let ad:=af.2.2.2.2.2;let ae:=ad.2.2.2.2.2;if af.2.2.1=true then if ae.2.2.2.2.1.length+[ae.2.2.1].length<=4294967296 then some (abr (x6.1,x6.2.1,x6.2.2.1,x6.2.2.2.1,af.1,af.2.1,af.2.2.2.1,af.2.2.2.2.1,ad.1,ad.2.1,ad.2.2.1,ad.2.2.2.1,ad.2.2.2.2.1,ae.1,ae.2.1,ae.2.2.2.1,ae.2.2.2.2.1++[ae.2.2.1],()))else none else some (abr (x6.1,x6.2.1,x6.2.2.1,x6.2.2.2.1,af.1,af.2.1,af.2.2.2.1,af.2.2.2.2.1,ad.1,ad.2.1,ad.2.2.1,ad.2.2.2.1,ad.2.2.2.2.1,ae.1,ae.2.1,ae.2.2.2))else none else none else none else if(q.op==4)=true then if 0<=m.1 then if m.1<=(↑w.length:Int)then some (abr (x4.1,u,p.1,z,t,(0:Int),m.2.1,r.1,r.2.1,aa,l.1,l.2.1,ab,s,abY m.1.toNat w,ac))else none else none else if(q.op==5)=true then if 0<=i64.wrap (m.1-1)/\i64.wrap (m.1-1)<(↑w.length:Int)then w[G7.toNat]?>>=λx5=>Ri (q.a,q.type0,x5,o.2.2.1,z,())>>=λx6=>if(0:Int)<=0/\0<=i64.wrap (m.1-1)/\i64.wrap (m.1-1)<=(↑w.length:Int)then if abb 0+(G7.toNat-abb 0)<=w.length then if 0+(G7.toNat-abb 0)<=4294967296 then if([]++abY (G7.toNat-abb 0) w).length+[x6.2.1].length<=4294967296 then some (abr (x4.1,u,p.1,z,t,x6.1,m.2.1,r.1,r.2.1,aa,l.1,l.2.1,ab,s,[]++abY (G7.toNat-abb 0) w++[x6.2.1],ac))else none else none else none else none else none else if(q.op==6)=true then if(0:Int)<=0/\0<=i64.wrap (m.1-1)/\i64.wrap (m.1-1)<=(↑w.length:Int)then if abb 0+(G7.toNat-abb 0)<=w.length then if 0+(G7.toNat-abb 0)<=4294967296 then if 0<=i64.wrap (m.1-1)/\i64.wrap (m.1-1)<(↑w.length:Int)then w[G7.toNat]?>>=λx5=>Rj (q.a,x5,o.2.2.1,())>>=λx6=>if([]++abY (G7.toNat-abb 0) w).length+[x6.1].length<=4294967296 then some (abr (x4.1,u,p.1,z,t,(0:Int),m.2.1,r.1,r.2.1,aa,l.1,l.2.1,ab,s,[]++abY (G7.toNat-abb 0) w++[x6.1],ac))else none else none else none else none else none else(if(q.op==7)=true then some (G5)else if(q.op==8)=true then some (G5)else if(q.op==9)=true then some (G5)else if(q.op==10)=true then some (G5)else some ((x4.1,u,p.1,z,t,m.1,(0:Int),q.op,q.op==11,m.2)))>>=λx5=>let ak:=x5.2.2;let ai:=ak.2.2.2;let aj:=ai.2.2.2.2;let ag:=aj.2.2.2;let al:=ag.2.2;let ah:=al.2.2.2;let am:=ah.1;let an:=ah.2;let ao:=ak.2.1;let ap:=ai.2.2.1;let G8:=(aj.1,aj.2.1,aj.2.2.1,ag.1,ag.2.1,an.2.2);let G4:=(i64.wrap ((↑am.length:Int) -an.1.b));let G3:=(ai.2.1,aj.1,aj.2.1,aj.2.2.1,ag.1,ag.2.1,al.1,al.2.1,al.2.2.1,abY ai.1.toNat am,an.2.2);let G10:=(x5.1,x5.2.1,ak.1,ao,an.1.a,G3);let G1:=(aj.1,aj.2.1,aj.2.2.1,ag.1,ag.2.1,al.1,al.2.1,al.2.2.1,am,an.2.2);let G11:=(x5.1,x5.2.1,ak.1,ao,ak.2.2.1,ai.2.1,G1);let G9:=(x5.1,x5.2.1,ak.1,ao,an.1.a,ai.2.1,G1);if ai.2.2.2.1=true then Rk (an.1.op,an.1.type0,an.2.1,ao,())>>=λx6=>if(0:Int)<=0/\0<=ai.1/\ai.1<=(↑am.length:Int)then if abb 0+(ai.1.toNat-abb 0)<=am.length then if 0+(ai.1.toNat-abb 0)<=4294967296 then if([]++abY (ai.1.toNat-abb 0) am).length+[x6.2.1].length<=4294967296 then some (abr (x5.1,x5.2.1,ak.1,ao,ak.2.2.1,x6.1,aj.1,aj.2.1,aj.2.2.1,ag.1,ag.2.1,al.1,al.2.1,al.2.2.1,[]++abY (ai.1.toNat-abb 0) am++[x6.2.1],an.2.2))else none else none else none else none else if(ap==12)=true then if an.2.1.null=true then if 0<=ai.1 then if ai.1<=(↑am.length:Int)then some (abr G10)else none else none else some (abr G11)else if(ap==13)=true then if(!an.2.1.err.toList==(aaK #[]).toList)=true then some (abr G9)else some (abr G11)else if(ap==14)=true then some (abr G9)else if(ap==15)=true then if 0<=ai.1 then if ai.1<=(↑am.length:Int)then if(an.2.1.n==0)=true then some (abr G10)else some (abr (x5.1,x5.2.1,ak.1,ao,ak.2.2.1,G3))else none else none else if(ap==16)=true then(if 0<=i64.wrap ((↑am.length:Int) -an.1.b)/\i64.wrap ((↑am.length:Int) -an.1.b)<=(↑am.length:Int)/\(↑am.length:Int)<=(↑am.length:Int)then if G4.toNat+((↑am.length:Int).toNat-G4.toNat)<=am.length then if 0+((↑am.length:Int).toNat-G4.toNat)<=4294967296 then some ((x5.1,x5.2.1,ak.1,ao,ak.2.2.1,ai.2.1,[]++abY ((↑am.length:Int).toNat-G4.toNat) (ac6 G4.toNat am),aj.1,aj.2.1,aj.2.2.1,ag.1,ag.2.1,al.1,al.2.1,al.2.2.1,am,an.1,an.2.2))else none else none else none)>>=λx6=>let ar:=x6.2.2.2.2.2.2;let aq:=ar.2.2.2.2.2.2.2;let au:=aq.2.2;let G6:=(i64.wrap ((↑au.1.length:Int) -au.2.1.b));N3 (x6.1,au.2.1.name0,())>>=λx7=>n_44s5ed9 (x6.1,x7.1,ar.1,i64.wrap (x6.2.2.1+1),x6.2.2.2.1,ar.2.1,ar.2.2.1,ar.2.2.2.1,ar.2.2.2.2.1,ar.2.2.2.2.2.1,au.2.2)>>=λx8=>if(x8.2.1 !=0)=true then some (abQ (Item.mk 0 false (aaK #[]),x8.2))else if(0:Int)<=0/\0<=i64.wrap ((↑au.1.length:Int) -au.2.1.b)/\i64.wrap ((↑au.1.length:Int) -au.2.1.b)<=(↑au.1.length:Int)then if abb 0+(G6.toNat-abb 0)<=au.1.length then if 0+(G6.toNat-abb 0)<=4294967296 then if([]++abY (G6.toNat-abb 0) au.1).length+[x8.1].length<=4294967296 then some (abr (x6.1,x6.2.1,x6.2.2.1,x6.2.2.2.1,x6.2.2.2.2.1,x6.2.2.2.2.2.1,x8.2.1,x8.2.2.1,x8.2.2.2.1,x8.2.2.2.2.1,x8.2.2.2.2.2.1,ar.2.2.2.2.2.2.1,aq.1,aq.2.1,[]++abY (G6.toNat-abb 0) au.1++[x8.1],x8.2.2.2.2.2.2))else none else none else none else none else if(ap==17)=true then some (abQ (an.2.1,G8))else if(!ao)=true then some (abQ (Item.mk 0 false (aaK #[]),G8))else some (abr (x5.1,x5.2.1,ak.1,ao,ak.2.2.1,an.1.a,G1)))>>=λx5=>match x5 with| .inl y5=>let ax:=y5.2.2;let av:=ax.2.2.2;let aw:=av.2.2.2;if(av.1 !=0)=true then some ((Item.mk 0 false (aaK #[]),(1:Int),av.1,aw.1,aw.2.1,aw.2.2.1,aw.2.2.2.2.2.2.2))else if(ax.1==1)=true then aA (y5.1,y5.2.1,ax.1,ax.2.1,ax.2.2.1,av.2.1,av.2.2.1,aw.1,max aw.2.1 (↑aw.2.2.2.2.2.2.1.length:Int),aw.2.2)else aA (y5.1,y5.2.1,ax.1,ax.2.1,ax.2.2.1,av.2)| .inr y5=>some y5 else none else none partial_fixpoint
noncomputable def n_44s5ed9(v:Mx):Option (Tq8):=let d:=v.2.2.2;let a:=d.2.2.2;let b:=a.2.2.2.2.1;let c:=v.2.1;if decide (d.1>30)=true then some ((Item.mk 0 false (aaK #[]),(2:Int),a))else if 0+b.length<=4294967296 then if 0<=c/\c<(↑([]++b).length:Int)then([]++b)[c.toNat]?>>=λx1=>if 0<=c/\c<(↑([]++b).length:Int)then([]++b)[c.toNat]?>>=λx2=>if 0<=c then v.1[c.toNat]?>>=λx3=>if 0<=x3.places then if x3.places<=4294967296 then bM (v.1,c,v.2.2.1,d.1,d.2.1,(0:Int),d.2.2.1,a.1,a.2.1,a.2.2.1,a.2.2.2.1,Item.mk 0 false (aaK #[]),Log.mk (0:Int) (0:Int) (0:Int) [] (0:Int) [] (0:Int),aa7 x3.places.toNat (Item.mk 0 false (aaK #[])),([]++b).set c.toNat (i64.wrap (x1+1)),a.2.2.2.2.2)>>=λx4=>let e:=x4.2.2;((if(e.1==1)=true then some ((x4.1,x4.2.1,e.1,e.2.1,decide (e.2.2.2.2.2.2.1>=0),e.2.2))else some (x4.1,x4.2.1,e.1,e.2.1,false,e.2.2))>>=λx5=>let g:=x5.2.2.2;let f:=g.2.2.2.2.2.2;let h:=f.2.2.2;if g.2.1=true then if 0<=f.1/\f.1<(↑h.1.length:Int)then h.1[f.1.toNat]?>>=λx6=>if h.2.2.1.length+[x6].length<=4294967296 then some ((x5.1,x5.2.1,x5.2.2.1,g.1,g.2.2.1,g.2.2.2.1,g.2.2.2.2.1,g.2.2.2.2.2.1,f.1,f.2.1,f.2.2.1,h.1,h.2.1,h.2.2.1++[x6],()))else none else none else some (x5.1,x5.2.1,x5.2.2.1,g.1,g.2.2))>>=λx5=>let i:=x5.2.2.2.2.2.2;aA (x5.1,x5.2.1,x5.2.2.1,x5.2.2.2.1,(0:Int),x5.2.2.2.2.1,x5.2.2.2.2.2.1,i.1,i.2.1,i.2.2.1,i.2.2.2.1,i.2.2.2.2.1,i.2.2.2.2.2.1,[],i.2.2.2.2.2.2)>>=λx6=>some x6 else none else none else none else none else none else none partial_fixpoint
end
def g7(bM:Tq9->Option ((Mw)))(aA:Tq6->Option ((Tq8)))(n_44s5ed9:Mx->Option (Tq8)):dh vw:=λA fid args S k=>match fid with|36=>cv prog SK N3 A args S k|44=>cz prog c8 n_44s5ed9 A args S k|61=>cv prog SO Rg A args S k|62=>cv prog SP Ri A args S k|63=>cv prog SQ Rj A args S k|64=>cv prog SR Rk A args S k|_=>none
def cC(bM:Tq9->Option ((Mw)))(aA:Tq6->Option ((Tq8)))(n_44s5ed9:Mx->Option (Tq8)):Xc vw:={P:=prog,n:=355,nm:=λd=>match d with|30=>40030|211=>40211|222=>40222|255=>40255|295=>40295|324=>40324|_=>d,call:=g7 bM aA n_44s5ed9,pre:=jC,sh:=gY,joins:=λk=>match k with|13=>some (n7,[.norm])|21=>some (eN,[.norm])|27=>some (v_,[.norm])|57=>some (wa,[.norm])|81=>some (wb,[.norm, .ret])|_=>none,regs:=λk=>match k with|11=>some wc|43=>some wd|73=>some wg|_=>none,loops:=λk=>match k with|8=>some {cut:=fD,alts:=[.exit 0],F:=bM}|15=>some {cut:=eN,alts:=[.ret],F:=aA}|_=>none}
abbrev gq(v:Tq9)(r:(Mw)):Prop:=(λv out=>∀C:Ctx,C.P=prog->C.N=355/\Fx C jC->qf C (aS (aO Tryz.f44) 0) (Go.Tx.a_ vw (fk vw fD v)) (xZ gY [.exit 0] out)) v r
theorem tS(f0:Tq9->Option ((Mw)))(h0:∀v r,f0 v=some r->gq v r):bH prog (cC f0 (λ_=>none) (λ_=>none)).call:=(by
 intro A fid args S dst k r h
 unfold cC g7 at h
 simp only at h
 split at h
 ·exact aR (pg) rfl rfl h
 ·exact aP ((λv r x h hx=>by cases h)) h
 ·exact aR (wZ) rfl rfl h
 ·exact aR (w5) rfl rfl h
 ·exact aR (w6) rfl rfl h
 ·exact aR (w7) rfl rfl h
 ·cases h)
theorem vk(f0:Tq9->Option ((Mw)))(h0:∀v r,f0 v=some r->gq v r)(v:Tq9)(r:(Mw))(h:exL (cC f0 (λ_=>none) (λ_=>none)) (aS (aO Tryz.f44) 0) fD [.exit 0] f0 v=some r):gq v r:=λC hP hN=>gM (X:=cC f0 (λ_=>none) (λ_=>none)) (b:=(aS (aO Tryz.f44) 0)) hP hN Ty.mixed (tS f0 h0) (eT (X:=cC f0 (λ_=>none) (λ_=>none)) (c:=(aS (aO Tryz.f44) 0)) (fH (by kernel_rfl:True=qe (e7 C (cC f0 (λ_=>none) (λ_=>none))) (cB (aS (aO Tryz.f44) 0))) trivial)) (cut:=fD) (alts:=[.exit 0]) (F:=f0) (λv out h=>h0 v out h C hP hN) h
theorem qp:∀v out,bM v=some out->(λv out=>∀C:Ctx,C.P=prog->C.N=355/\Fx C jC->qf C (aS (aO Tryz.f44) 0) (Go.Tx.a_ vw (fk vw fD v)) (xZ gY [.exit 0] out)) v out:=(bM.partial_correctness (motive:=gq) (λf0 h0 v r h=>vk f0 h0 v r (fH (by kernel_rfl) h)))
abbrev dE(v:Tq6)(r:(Tq8)):Prop:=(λv out=>∀C:Ctx,C.P=prog->C.N=355/\Fx C jC->qf C (aS (aO Tryz.f44) 1) (Go.Tx.a_ vw (fk vw eN v)) (xZ gY [.ret] out)) v r
abbrev gP(v:Mx)(r:Tq8):Prop:=(λv r=>∀x,GO prog c8 r=some x->l_ prog 44 (encL vw (cE c8 v).len (d7 c8 v).1) (eP (cE c8 v).len (cE c8 v).own) (aL vw (fk vw c8.rcut r).len x) (eP (fk vw c8.rcut r).len (ql c8 r))) v r
theorem si(f0:Tq6->Option ((Tq8)))(f1:Mx->Option (Tq8))(h0:∀v r,f0 v=some r->dE v r)(h1:∀v r,f1 v=some r->gP v r):bH prog (cC (λ_=>none) f0 f1).call:=(by
 intro A fid args S dst k r h
 unfold cC g7 at h
 simp only at h
 split at h
 ·exact aR (pg) rfl rfl h
 ·exact aP ((λv r x h hx=>h1 v r h x hx)) h
 ·exact aR (wZ) rfl rfl h
 ·exact aR (w5) rfl rfl h
 ·exact aR (w6) rfl rfl h
 ·exact aR (w7) rfl rfl h
 ·cases h)
theorem td(f0:Tq6->Option ((Tq8)))(f1:Mx->Option (Tq8))(h0:∀v r,f0 v=some r->dE v r)(h1:∀v r,f1 v=some r->gP v r)(v:Tq6)(r:(Tq8))(h:exL (cC (λ_=>none) f0 f1) (aS (aO Tryz.f44) 1) eN [.ret] f0 v=some r):dE v r:=λC hP hN=>gM (X:=cC (λ_=>none) f0 f1) (b:=(aS (aO Tryz.f44) 1)) hP hN Ty.mixed (si f0 f1 h0 h1) (eT (X:=cC (λ_=>none) f0 f1) (c:=(aS (aO Tryz.f44) 1)) (fH (by kernel_rfl:True=qe (e7 C (cC (λ_=>none) f0 f1)) (cB (aS (aO Tryz.f44) 1))) trivial)) (cut:=eN) (alts:=[.ret]) (F:=f0) (λv out h=>h0 v out h C hP hN) h
theorem Ar(f0:Tq6->Option ((Tq8)))(h0:∀v r,f0 v=some r->dE v r):bH prog (cC bM f0 (λ_=>none)).call:=(by
 intro A fid args S dst k r h
 unfold cC g7 at h
 simp only at h
 split at h
 ·exact aR (pg) rfl rfl h
 ·exact aP ((λv r x h hx=>by cases h)) h
 ·exact aR (wZ) rfl rfl h
 ·exact aR (w5) rfl rfl h
 ·exact aR (w6) rfl rfl h
 ·exact aR (w7) rfl rfl h
 ·cases h)
theorem BS(f0:Tq6->Option ((Tq8)))(h0:∀v r,f0 v=some r->dE v r)(v:Mx)(r:Tq8)(h:exF (cC bM f0 (λ_=>none)) c8 rfl (aO Tryz.f44) v=some r):gP v r:=λx hx=>AD (X:=cC bM f0 (λ_=>none)) (sig:=c8) rfl Tryz.func44 (c:=aO Tryz.f44) (by kernel_rfl) Tryz.ntmps44 (by kernel_rfl) (by kernel_rfl) rfl Ty.mixed (Ar f0 h0) rfl (λC hP hN=>(eT (X:=cC bM f0 (λ_=>none)) (c:=(aO Tryz.f44)) (fH (by kernel_rfl:qe (e7 C (cC bM f0 (λ_=>none))) [(aS (aO Tryz.f44) 0),(aS (aO Tryz.f44) 1)]=qe (e7 C (cC bM f0 (λ_=>none))) (cB (aO Tryz.f44))) ⟨iX (X:=cC bM f0 (λ_=>none)) (b:=(aS (aO Tryz.f44) 0)) (by kernel_rfl) (show gD C (aS (aO Tryz.f44) 0) (sh:=gY) {cut:=fD,alts:=[.exit 0],F:=bM}fromλv out h=>qp v out h C hP hN),iX (X:=cC bM f0 (λ_=>none)) (b:=(aS (aO Tryz.f44) 1)) (by kernel_rfl) (show gD C (aS (aO Tryz.f44) 1) (sh:=gY) {cut:=eN,alts:=[.ret],F:=f0}fromλv out h=>h0 v out h C hP hN),trivial⟩))) h x hx
theorem nb:(∀v r,aA v=some r->dE v r)/\(∀v r,n_44s5ed9 v=some r->gP v r):=by
 refine aA.mutual_partial_correctness
  (motive_1:=dE)
  (motive_2:=gP)
  ?_ ?_
 ·exact(λf0 f1 h0 h1 v r h=>td f0 f1 h0 h1 v r (fH (by kernel_rfl) h))
 ·exact(λf0 h0 v r h=>BS f0 h0 v r (fH (by kernel_rfl) h))
theorem uz:aM prog 44 c8 n_44s5ed9:=λv r x h hx=>nb.2 v r h x hx
def YL:aN vw:={rcut:=G0}
def Wd:Sig vw:=sg [TN] G0 [.cell 2 65]
noncomputable def Rb(v:aE×Unit):Option (Item×Unit):=some ((Item.mk v.1.n v.1.null v.1.err,()))
def x35:Xc vw:=mX prog 10 c0 YL [] [] []
theorem EJ:aM prog 35 Wd Rb:=fn0 x35 Tryz.func35 bP
def Qq:Cut SN:=⟨[(0,lY),(3, .vh 1003),(4,Dq1)],[(1003,lA)]⟩
def T5:Cut SN:=⟨[(3, .vh 1003)],[(1003,lA)]⟩
def Xp:Cut SN:=⟨[(2,S5)],[]⟩
def YT:aN vw:=shL [(0,T5)] Xp
def Wj:Sig vw:=sg [lY] Xp [.tmp 2]
noncomputable def mn(v:(List aE)×Int×(List Item)×Unit):Option (((List Item)×Unit)):=if decide (v.2.1<(↑v.1.length:Int))=true then if 0<=v.2.1 then v.1[v.2.1.toNat]?>>=λx1=>Rb (x1,())>>=λx2=>if v.2.2.1.length+[x2.1].length<=4294967296 then mn (v.1,i64.wrap (v.2.1+1),v.2.2.1++[x2.1],())else none else none else some (v.2.2) partial_fixpoint
noncomputable def Ts(v:(List aE)×Unit):Option ((List Item)×Unit):=mn (v.1,(0:Int),[],())>>=λx1=>some (x1)
def Dl:=kP EJ k0
def x45:Xc vw:=mX prog 20 Dl.1 YT [] [] [(3,⟨Qq,[.exit 0],mn⟩)]
theorem ET:fB x45 (aS (aO Tryz.f45) 0) ⟨Qq,[.exit 0],mn⟩:=lp0 mn.partial_correctness Dl.2
theorem N7:aM prog 45 Wj Ts:=fn1 x45 Tryz.func45 Dl.2 ET
def Xm:Cut SN:=⟨[(10, .bp 10 0),(11, .bp 11 0)],[(10, .st .itemT),(11, .st .logT)]⟩
def YH:aN vw:={rcut:=Xm}
def Uv:Nat->Bool:=λk=>match k with|1000023=>true|2000044=>true|_=>false
def V_:Sig vw:=sg [Dq3,Dq5,lY,Dq4,Dq1] Xm [.cell 10 65, .cell 11 68]
noncomputable def Q_(v:(List aB)×ByteArray×(List aE)×Bool×Int×Unit):Option (Item×Log×Unit):=N3 (v.1,v.2.1,())>>=λx1=>Ts (v.2.2.1,())>>=λx2=>if(↑v.1.length:Int)<=4294967296 then n_44s5ed9 (v.1,x1.1,x2.1,(1:Int),v.2.2.2.1,(0:Int),(0:Int),(0:Int),(0:Int),v.2.2.2.2.1,aa7 (↑v.1.length:Int).toNat (0:Int),[],())>>=λx3=>let a:=x3.2.2.2;some ((x3.1,Log.mk x3.2.1 x3.2.2.1 a.1 a.2.2.2.1 a.2.1 a.2.2.2.2.1 a.2.2.1,()))else none
def Lu:=kP pg (kO uz (kP N7 k0))
def x31:Xc vw:={P:=prog,n:=27,call:=Lu.1,pre:=Uv,sh:=YH}
theorem N0:aM prog 31 V_ Q_:=fn0 x31 Tryz.func31 Lu.2
def YK:aN vw:={rcut:=Ag}
def Wc:Sig vw:=sg [Ms] Ag [.cell 2 31]
noncomputable def Ra(v:Item×Unit):Option (aE×Unit):=some ((aE.mk (aF.mk (0:Int) (0:Int) (aaK #[]) false false) v.1.n v.1.null v.1.err (aF.mk (0:Int) (0:Int) (aaK #[]) false false),()))
def x34:Xc vw:=mX prog 10 c0 YK [] [] []
theorem EI:aM prog 34 Wc Ra:=fn0 x34 Tryz.func34 bP
def Xn:Cut SN:=⟨[(4, .bp 4 0)],[(4, .st .outcomeT)]⟩
def YI:aN vw:={rcut:=Xn}
def Wa:Sig vw:=sg [Ms, .dat (.st .logT)] Xn [.cell 4 34]
noncomputable def Tm(v:Item×Log×Unit):Option (b9×Unit):=if(v.2.1.kind==1)=true then some ((b9.mk (1:Int) (aE.mk (aF.mk (0:Int) (0:Int) (aaK #[]) false false) (0:Int) false (aaK #[]) (aF.mk (0:Int) (0:Int) (aaK #[]) false false)) v.2.1.stop [],()))else if(v.2.1.kind==2)=true then some ((b9.mk (2:Int) (aE.mk (aF.mk (0:Int) (0:Int) (aaK #[]) false false) (0:Int) false (aaK #[]) (aF.mk (0:Int) (0:Int) (aaK #[]) false false)) (0:Int) [],()))else Ra (v.1,())>>=λx1=>some ((b9.mk (0:Int) x1.1 (0:Int) [],()))
def Lv:=kP EI k0
def x32:Xc vw:=mX prog 18 Lv.1 YI [] [] []
theorem N1:aM prog 32 Wa Tm:=fn0 x32 Tryz.func32 Lv.2
def Yx:aN vw:={rcut:=S_}
def V0:Sig vw:=sg [Dq3,Dq5,lY,Dq4] S_ [.cell 8 34, .tmp 9]
noncomputable def Q8(v:Xe):Option (Int×b9×Unit):=Tl (v.1,v.2.1,v.2.2.1,())>>=λx1=>if(x1.1 !=0)=true then some ((x1.1,b9.mk (0:Int) (aE.mk (aF.mk (0:Int) (0:Int) (aaK #[]) false false) (0:Int) false (aaK #[]) (aF.mk (0:Int) (0:Int) (aaK #[]) false false)) (0:Int) [],()))else Q_ (v.1,v.2.1,v.2.2.1,v.2.2.2.1,(-1:Int),())>>=λx2=>Tm x2>>=λx3=>some (((0:Int),x3))
def Lp:=kP NZ (kP N0 (kP N1 k0))
def x12:Xc vw:=mX prog 32 Lp.1 Yx [] [] []
theorem NE:aM prog 12 V0 Q8:=fn0 x12 Tryz.func12 Lp.2
def PV:Cut SN:=⟨[(2, .bp 2 0),(3, .bp 3 0),(5,Dq1)],[(2, .st .outcomeT),(3, .st .outcomeT)]⟩
def TW:Cut SN:=⟨[(2, .bp 2 0),(3, .bp 3 0),(33,Dq4)],[(2, .st .outcomeT),(3, .st .outcomeT)]⟩
def Yy:aN vw:=shL [(0,dL)] cw
abbrev S6:Pt SN:= .dat (.st .outcomeT)
def V1:Sig vw:=sg [S6,S6] cw [.tmp 4]
noncomputable def pd(v:Int×b9×b9×Unit):Option (((Bool×Unit)⊕(Unit))):=if decide (v.1<(↑v.2.1.trace.length:Int))=true then if 0<=v.1 then v.2.1.trace[v.1.toNat]?>>=λx1=>if 0<=v.1 then v.2.2.1.trace[v.1.toNat]?>>=λx2=>if(!x1.toList==x2.toList)=true then some (abr (false,()))else pd (i64.wrap (v.1+1),v.2)else none else none else some (abQ ()) partial_fixpoint
noncomputable def Tf(v:b9×b9×Unit):Option (Bool×Unit):=let a:=v.2.1;let b:=v.1;(if(b.kind !=a.kind)=true then some (true,v)else if(!(Mp.ieq b.value.type0.base a.value.type0.base&&(Mp.ieq b.value.type0.bits a.value.type0.bits&&(Mp.seq b.value.type0.name0 a.value.type0.name0&&(Mp.beq b.value.type0.opt a.value.type0.opt&&(Mp.beq b.value.type0.err a.value.type0.err&&(Mp.ieq b.value.n a.value.n&&(Mp.beq b.value.null a.value.null&&(Mp.seq b.value.err a.value.err&&(Mp.ieq b.value.of0.base a.value.of0.base&&(Mp.ieq b.value.of0.bits a.value.of0.bits&&(Mp.seq b.value.of0.name0 a.value.of0.name0&&(Mp.beq b.value.of0.opt a.value.of0.opt&&Mp.beq b.value.of0.err a.value.of0.err)))))))))))))=true then some (true,v)else if(b.stop !=a.stop)=true then some (true,v)else some (((↑b.trace.length:Int) !=(↑a.trace.length:Int),v)))>>=λx1=>if x1.1=true then some ((false,()))else pd ((0:Int),x1.2)>>=λx2=>match x2 with| .inl y2=>some y2| .inr y2=>some ((true,()))
def x13:Xc vw:=mX prog 52 c0 Yy [] [(1,TW)] [(4,⟨PV,[.ret, .exit 0],pd⟩)]
theorem Ep:fB x13 (aS (aO Tryz.f13) 0) ⟨PV,[.ret, .exit 0],pd⟩:=lp0 pd.partial_correctness bP
theorem NG:aM prog 13 V1 Tf:=fn1 x13 Tryz.func13 bP Ep
def YJ:aN vw:={rcut:=cw}
def Wb:Sig vw:=sg [S6,S6] cw [.tmp 4]
noncomputable def Tn(v:b9×b9×Unit):Option (Bool×Unit):=let a:=v.2.1;let b:=v.1;(if(b.kind==a.kind)=true then if(Mp.ieq b.value.type0.base a.value.type0.base&&(Mp.ieq b.value.type0.bits a.value.type0.bits&&(Mp.seq b.value.type0.name0 a.value.type0.name0&&(Mp.beq b.value.type0.opt a.value.type0.opt&&(Mp.beq b.value.type0.err a.value.type0.err&&(Mp.ieq b.value.n a.value.n&&(Mp.beq b.value.null a.value.null&&(Mp.seq b.value.err a.value.err&&(Mp.ieq b.value.of0.base a.value.of0.base&&(Mp.ieq b.value.of0.bits a.value.of0.bits&&(Mp.seq b.value.of0.name0 a.value.of0.name0&&(Mp.beq b.value.of0.opt a.value.of0.opt&&Mp.beq b.value.of0.err a.value.of0.err))))))))))))=true then some ((b.stop==a.stop,()))else some ((false,()))else some ((false,())))>>=λx1=>some (x1)
def x33:Xc vw:=mX prog 24 c0 YJ [] [(1,cw)] []
theorem N2:aM prog 33 Wb Tn:=fn0 x33 Tryz.func33 bP
def Ta:Cut SN:=⟨[(6,Dq4),(7,Dq1)],[]⟩
def Yz:aN vw:={rcut:=Ta}
def V2:Sig vw:=sg [Dq3,Dq5,lY] Ta [.tmp 6, .tmp 7]
noncomputable def Tg(v:S8):Option (Bool×Int×Unit):=Q9 v>>=λx1=>if(x1.2.1 !=0)=true then some (false,x1.2)else NY (v.1,x1.1,v.2.2.1,true,(-1:Int),())>>=λx2=>NY (v.1,x1.1,v.2.2.1,false,(-1:Int),())>>=λx3=>Tn (x2.2.2.2.2.2.2.2.2.1,x3.2.2.2.2.2.2.2.2)>>=λx4=>some ((x4.1,(0:Int),()))
def Lq:=kP EG (kO EH (kP N2 k0))
def x15:Xc vw:=mX prog 41 Lq.1 Yz [] [] []
theorem NL:aM prog 15 V2 Tg:=fn0 x15 Tryz.func15 Lq.2
end Go.Proofs.YtcghbgmmgcljkaaGreatDoor
end
section
namespace Go.Proofs.YtcghbgmmgcljkaaGreatDoor
open Go.Awp Go.Tx
open IntKind (i64)
open Go.Proofs.Tryz (prog)
set_option maxHeartbeats 4000000
set_option maxRecDepth 100000
def YA:aN vw:={rcut:=Ta}
def V3:Sig vw:=sg [Dq3,Dq5,lY] Ta [.tmp 6, .tmp 7]
noncomputable def Th(v:S8):Option (Bool×Int×Unit):=Q8 (v.1,v.2.1,v.2.2.1,true,())>>=λx1=>if(x1.1 !=0)=true then some ((false,x1.1,()))else Q8 (v.1,v.2.1,v.2.2.1,false,())>>=λx2=>Tf (x1.2.1,x2.2)>>=λx3=>some ((x3.1,(0:Int),()))
def Lr:=kP NE (kP NG k0)
def x16:Xc vw:=mX prog 32 Lr.1 YA [] [] []
theorem NR:aM prog 16 V3 Th:=fn0 x16 Tryz.func16 Lr.2
def Qh:Cut SN:=⟨[(0,lY),(1,lY),(5,Dq1)],[]⟩
def YB:aN vw:=shL [(0,dL)] cw
def V4:Sig vw:=sg [lY,lY] cw [.tmp 4]
noncomputable def me(v:(List aE)×(List aE)×Int×Unit):Option (((Bool×Unit)⊕(Unit))):=let a:=v.2.2.1;if decide (a<(↑v.1.length:Int))=true then if 0<=a then v.1[a.toNat]?>>=λx1=>if 0<=a then v.2.1[a.toNat]?>>=λx2=>if(!(Mp.ieq x1.type0.base x2.type0.base&&(Mp.ieq x1.type0.bits x2.type0.bits&&(Mp.seq x1.type0.name0 x2.type0.name0&&(Mp.beq x1.type0.opt x2.type0.opt&&(Mp.beq x1.type0.err x2.type0.err&&(Mp.ieq x1.n x2.n&&(Mp.beq x1.null x2.null&&(Mp.seq x1.err x2.err&&(Mp.ieq x1.of0.base x2.of0.base&&(Mp.ieq x1.of0.bits x2.of0.bits&&(Mp.seq x1.of0.name0 x2.of0.name0&&(Mp.beq x1.of0.opt x2.of0.opt&&Mp.beq x1.of0.err x2.of0.err)))))))))))))=true then some (abr (false,()))else me (v.1,v.2.1,i64.wrap (a+1),())else none else none else some (abQ ()) partial_fixpoint
noncomputable def Ti(v:(List aE)×(List aE)×Unit):Option (Bool×Unit):=if((↑v.1.length:Int) !=(↑v.2.1.length:Int))=true then some ((false,()))else me (v.1,v.2.1,(0:Int),())>>=λx1=>match x1 with| .inl y1=>some y1| .inr y1=>some ((true,()))
def x17:Xc vw:=mX prog 26 c0 YB [] [] [(4,⟨Qh,[.ret, .exit 0],me⟩)]
theorem Ez:fB x17 (aS (aO Tryz.f17) 0) ⟨Qh,[.ret, .exit 0],me⟩:=lp0 me.partial_correctness bP
theorem NU:aM prog 17 V4 Ti:=fn1 x17 Tryz.func17 bP Ez
def Tb:Cut SN:=⟨[(2,lY)],[]⟩
def YC:aN vw:=shL [(0,lG)] Tb
def V5:Sig vw:=sg [lY] Tb [.tmp 2]
noncomputable def mf(v:Xf):Option (((List aE)×Unit)):=let a:=v.2.2;if decide (a.1<v.2.1)=true then if 0<=a.1 then v.1[a.1.toNat]?>>=λx1=>if a.2.1.length+[aE.mk (aF.mk (0:Int) (0:Int) (aaK #[]) false false) x1.n x1.null x1.err (aF.mk (0:Int) (0:Int) (aaK #[]) false false)].length<=4294967296 then mf (v.1,v.2.1,i64.wrap (a.1+1),a.2.1++[aE.mk (aF.mk (0:Int) (0:Int) (aaK #[]) false false) x1.n x1.null x1.err (aF.mk (0:Int) (0:Int) (aaK #[]) false false)],())else none else none else some (a.2) partial_fixpoint
noncomputable def Tj(v:(List aE)×Unit):Option ((List aE)×Unit):=mf (v.1,(↑v.1.length:Int),(0:Int),[],())>>=λx1=>some (x1)
def x18:Xc vw:=mX prog 24 c0 YC [] [] [(3,⟨jm,[.exit 0],mf⟩)]
theorem EE:fB x18 (aS (aO Tryz.f18) 0) ⟨jm,[.exit 0],mf⟩:=lp0 mf.partial_correctness bP
theorem NV:aM prog 18 V5 Tj:=fn1 x18 Tryz.func18 bP EE
def Qj:Cut SN:=⟨[(0,lY),(3, .vh 1003),(4,Dq1)],[(1003,Oq2)]⟩
def YD:aN vw:=shL [(0,lG)] Tb
def V6:Sig vw:=sg [lY] Tb [.tmp 2]
noncomputable def mg(v:(List aE)×Int×(List aE)×Unit):Option (((List aE)×Unit)):=if decide (v.2.1<(↑v.1.length:Int))=true then if 0<=v.2.1 then v.1[v.2.1.toNat]?>>=λx1=>Rb (x1,())>>=λx2=>Ra x2>>=λx3=>if v.2.2.1.length+[x3.1].length<=4294967296 then mg (v.1,i64.wrap (v.2.1+1),v.2.2.1++[x3.1],())else none else none else some (v.2.2) partial_fixpoint
noncomputable def Tk(v:(List aE)×Unit):Option ((List aE)×Unit):=mg (v.1,(0:Int),[],())>>=λx1=>some (x1)
def Dg:=kP EI (kP EJ k0)
def x19:Xc vw:=mX prog 21 Dg.1 YD [] [] [(3,⟨Qj,[.exit 0],mg⟩)]
theorem EF:fB x19 (aS (aO Tryz.f19) 0) ⟨Qj,[.exit 0],mg⟩:=lp0 mg.partial_correctness Dg.2
theorem NX:aM prog 19 V6 Tk:=fn1 x19 Tryz.func19 Dg.2 EF
def sh9:aN vw:=shL [(0,MZ)] eO
def Zk:Sig vw:=sg [Dq3] eO [.tmp 2]
noncomputable def uH(v:S9):Option (((Bool×Unit)⊕((List aB)×Int×Unit))):=let a:=v.2.2.1;if decide (a<(↑v.1.length:Int))=true then if 0<=a then v.1[a.toNat]?>>=λx1=>if 0<=a then v.1[a.toNat]?>>=λx2=>if decide (x2.places>2000)=true then some (abr (true,()))else uH (v.1,i64.wrap (v.2.1+(↑x1.code.length:Int)),i64.wrap (a+1),())else none else none else some (abQ (v.1,v.2.1,())) partial_fixpoint
noncomputable def n_9(v:(List aB)×Unit):Option (Bool×Unit):=uH (v.1,(0:Int),(0:Int),())>>=λx1=>match x1 with| .inl y1=>some y1| .inr y1=>(if decide (y1.2.1>3000)=true then some ((true,()))else some ((decide ((↑y1.1.length:Int)>200),())))>>=λx2=>some (x2)
def x9:Xc vw:=mX prog 32 c0 sh9 [] [(8,eO)] [(3,⟨Hf,[.ret, .exit 0],uH⟩)]
theorem Jg:fB x9 (aS (aO Tryz.f9) 0) ⟨Hf,[.ret, .exit 0],uH⟩:=lp0 uH.partial_correctness bP
theorem Ro:aM prog 9 Zk n_9:=fn1 x9 Tryz.func9 bP Jg
def sh6:aN vw:={rcut:=cw}
def Zj:Sig vw:=sg [Dq3, .dat (.st .askedT)] cw [.tmp 4]
noncomputable def n_6(v:(List aB)×nS×Unit):Option (Bool×Unit):=let G1:=(v.2.1.args,());n_9 (v.1,())>>=λx1=>if x1.1=true then Q6 ()>>=λx2=>some (x2)else Tg (v.1,v.2.1.name0,G1)>>=λx2=>Th (v.1,v.2.1.name0,G1)>>=λx3=>(if(x2.1==x3.1)=true then if(x2.2.1==x3.2.1)=true then Tj G1>>=λx4=>Tk G1>>=λx5=>Ti (x4.1,x5)>>=λx6=>if x6.1=true then Q6 ()>>=λx7=>some (x7)else some ((false,()))else some ((false,()))else some ((false,())))>>=λx4=>some (x4)
def QM:=kP Ro (kP NC (kP NL (kP NR (kP NU (kP NV (kP NX k0))))))
def x6:Xc vw:=mX prog 50 QM.1 sh6 [] [(5,cw)] []
theorem Rn:aM prog 6 Zj n_6:=fn0 x6 Tryz.func6 QM.2
end Go.Proofs.YtcghbgmmgcljkaaGreatDoor
end
section
namespace Go.Proofs.YtcghbgmmgcljkaaGreatDoor
set_option maxRecDepth 20000
theorem vl(t:bB)(h2:t.bits<=31):∀(j k:Nat),((k+j:Nat):Int)=t.bits->i5 ((2:Int)^k,(k:Int),t,())=some ((2:Int)^t.bits.toNat,())
 |0,k,h=>by
  rw[i5]
  rw[aeo (by simp;omega)]
  have:k=t.bits.toNat:=by omega
  rw[this]
 |j+1,k,h=>by
  rw[i5]
  rw[aep (by simp;omega)]
  have p2:2^k<=2^31:=acd (by omega) (by omega)
  have e2:((2:Int)^k)=((2^k:Nat):Int):=by simp
  have p0:(0:Int)<2^k:=Int.pow_pos (by decide)
  simp only[]
  rw[w64 (by omega) (by omega),w64 (by omega) (by omega),<-aeh]
  exact vl t h2 j (k+1) (by omega)
theorem tf(t:bB)(h1:1<=t.bits)(h2:t.bits<=31):AQ (t,())=some ((2:Int)^t.bits.toNat,()):=by
 rw[AQ]
 have:=vl t h2 t.bits.toNat 0 (by omega)
 simp only[Int.pow_zero,aa6]at this
 simp only[this,aaM,aaJ]
theorem Kb{n m:Int}(hm:0<m):(if n.tmod m<0 then n.tmod m+m else n.tmod m)=n%m:=by
 have:=acC n (show m≠0 by omega)
 have:=ac0 n hm
 rw[Int.tmod_eq_emod]
 by_cases h:0<=n\/m∣n
 ·rw[aep h];simp;intro;omega
 ·rw[aeo h]
  have:(m.natAbs:Int)=m:=by omega
  rw[aep (by omega)];omega
theorem iH(t:bB)(n:Int)(h1:1<=t.bits)(h2:t.bits<=31):kJ (t,n,())=some (qi t.signed t.bits n,()):=by
 obtain⟨p1,p2,p3⟩:=fg h1 h2
 have m1:=acC n (show(2:Int)^t.bits.toNat≠0 by omega)
 have m2:=ac0 n (show(0:Int)<2^t.bits.toNat by omega)
 have m3:=Kb (n:=n) (show(0:Int)<2^t.bits.toNat by omega)
 rw[kJ]
 simp only[tf t h1 h2,aaM,aaJ]
 rw[aeo (by omega)]
 have e:(2:Int)^(t.bits.toNat-1)=((2:Int)^t.bits.toNat).tdiv 2:=by
  rw[p2,adO _ (by decide)]
 unfold qi
 rw[e]
 have e3:IntKind.i64.wrap (((2:Int)^t.bits.toNat).tdiv 2)=((2:Int)^t.bits.toNat).tdiv 2:=by
  rw[<-e];exact w64 (by omega) (by omega)
 by_cases hn:n.tmod (2^t.bits.toNat)<0
 ·rw[aep hn]at m3
  rw[aep (by simpa using hn)]
  simp only[aaJ,m3,e3]
  rw[w64 (by omega) (by omega)]
  by_cases hs:t.signed=true
  ·simp only[hs,ael,aaJ,true_and,aen,ge_iff_le]
   split
   ·simp only[aaJ]
    rw[w64 (by omega) (by omega)]
   ·rfl
  ·simp[hs]
 ·rw[aeo hn]at m3
  rw[aeo (by simpa using hn)]
  simp only[aaJ,m3,e3]
  by_cases hs:t.signed=true
  ·simp only[hs,ael,aaJ,true_and,aen,ge_iff_le]
   split
   ·simp only[aaJ]
    rw[w64 (by omega) (by omega)]
   ·rfl
  ·simp[hs]
theorem Dw(t:bB)(h1:1<=t.bits)(h2:t.bits<=31):Es (t,())=some (lo t.signed t.bits,hi t.signed t.bits,()):=by
 obtain⟨p1,p2,p3⟩:=fg h1 h2
 rw[Es]
 simp only[tf t h1 h2,aaM,aaJ]
 unfold lo hi
 have e:((2:Int)^t.bits.toNat).tdiv 2=(2:Int)^(t.bits.toNat-1):=by
  rw[p2,adO _ (by decide)]
 by_cases hs:t.signed=true
 ·have e3:IntKind.i64.wrap ((2:Int)^(t.bits.toNat-1))=(2:Int)^(t.bits.toNat-1):=w64 (by omega) (by omega)
  simp only[hs,ael,e,e3]
  rw[w64 (by omega) (by omega),w64 (by omega) (by omega)]
  simp
 ·simp only[hs,aem,aaL]
  rw[w64 (by omega) (by omega)]
theorem vC(n a b:Int):Et (n,a,b,())=some (decide (a<=n/\n<=b),()):=by
 rw[Et]
 by_cases h:a<=n
 ·simp[h]
 ·simp[h]
instance (s:Bool) (b n:Int):Decidable (inT s b n):=by unfold inT;infer_instance
theorem Q0(t:bB)(n:Int)(h1:1<=t.bits)(h2:t.bits<=31):wS (t,n,())=some (decide (inT t.signed t.bits n),()):=by
 rw[wS]
 simp only[Dw t h1 h2,vC,aaM,aaJ]
 rfl
def Rp(s:Bool)(b n:Int):Int:=if n<lo s b then lo s b else if hi s b<n then hi s b else n
theorem E8(t:bB)(n:Int)(h1:1<=t.bits)(h2:t.bits<=31):Iu (t,n,())=some (Rp t.signed t.bits n,()):=by
 rw[Iu]
 simp only[Dw t h1 h2,aaM,aaJ,aen,gt_iff_lt]
 unfold Rp
 split
 ·rfl
 ·split<;>rfl
end Go.Proofs.YtcghbgmmgcljkaaGreatDoor
end
