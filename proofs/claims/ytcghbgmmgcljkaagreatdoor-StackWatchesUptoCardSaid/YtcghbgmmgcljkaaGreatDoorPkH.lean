/-
  Texts of this claim, joined by a program of mine: what the theorem uses.
-/
import Derived.Test.YtcghbgmmgcljkaaGreatDoorPkF
import Derived.Test.YtcghbgmmgcljkaaGreatDoorPkC
import Derived.Test.YtcghbgmmgcljkaaGreatDoorPkG
open ByteArray renaming mk→aae
open Int renaming toNat→aaG
open List renaming drop→acA,mapM→acR,replicate→aaA,take→abr
open Sum renaming inl→aaW,inr→abn
noncomputable section
set_option linter.unusedVariables false
section
namespace Go.Proofs.YtcghbgmmgcljkaaGreatDoor
open Go.Awp Go.Tx
open IntKind (i64)
open Go.Proofs.Tryz (prog)
set_option maxHeartbeats 4000000
set_option maxRecDepth 100000
def eM:Cut SN:=⟨[(0, .bp 100000 0),(2, .sv 100001 13),(8, .bp 8 0),(9, .bp 45 0),(10, .bp 10 0)],[(100000, .box none [Dq3,Dq4,Dq1, .vh 100002,Dq1, .vh 3005,Dq1,Dq6]),(100001,Oq2),(8, .st .myValueT),(45, .box none [.bp 100000 0,Dq5,Dq1,Dq1,Dq1,Dq1,Dq5,Dq4,Dq4,Dq8, .vh 3460, .vh 3461,Dq1,Dq1,Dq9]),(10, .bar 20 .fno),(100002,Oq7),(3005,Oq2),(3460,Oq2),(3461,Oq2)]⟩
def qB:Cut SN:=⟨[(0, .bp 100000 0),(2, .sv 100001 13),(8, .bp 8 0),(9, .bp 45 0)],[(100000, .box none [Dq3,Dq4,Dq1, .vh 100002,Dq1, .vh 3005,Dq1,Dq6]),(100001,Oq2),(8, .st .myValueT),(45, .box none [.bp 100000 0,Dq5,Dq1,Dq1,Dq1,Dq1,Dq5,Dq4,Dq4,Dq8, .vh 3460, .vh 3461,Dq1,Dq1,Dq9]),(100002,Oq7),(3005,Oq2),(3460,Oq2),(3461,Oq2)]⟩
def Af:Cut SN:=⟨[(0, .bp 100000 0),(2, .sv 100001 13),(3,Dq1),(8, .bp 8 0),(9, .bp 45 0)],[(100000, .box none [Dq3,Dq4,Dq1, .vh 100002,Dq1, .vh 100003,Dq1,Dq6]),(100001,Oq2),(8, .st .myValueT),(45, .box none [.bp 100000 0,Dq5,Dq1,Dq1,Dq1,Dq1,Dq5,Dq4,Dq4,Dq8, .vh 3460, .vh 3461,Dq1,Dq1,Dq9]),(100002,Oq7),(100003,Oq2),(3460,Oq2),(3461,Oq2)]⟩
def Ag:Cut SN:=⟨[(0, .bp 100000 0),(2, .sv 100001 13),(8, .bp 8 0),(9, .bp 45 0),(60,Dq4)],[(100000, .box none [Dq3,Dq4,Dq1, .vh 100002,Dq1, .vh 100003,Dq1,Dq6]),(100001,Oq2),(8, .st .myValueT),(45, .box none [.bp 100000 0,Dq5,Dq1,Dq1,Dq1,Dq1,Dq5,Dq4,Dq4,Dq8, .vh 3460, .vh 3461,Dq1,Dq1,Dq9]),(100002,Oq7),(100003,Oq2),(3460,Oq2),(3461,Oq2)]⟩
def tF:Cut SN:=⟨[(0, .bp 100000 0),(2, .sv 100001 13),(8, .bp 8 0)],[(100000, .box none [Dq3,Dq4,Dq1, .vh 100002,Dq1, .vh 3005,Dq1,Dq6]),(100001,Oq2),(100002,Oq7),(3005,Oq2),(8, .st .myValueT)]⟩
def pJ:aN vw:=shL [(0,qB)] tF
def c6:Sig vw:={params:=[.bp 100000 0,Dq1, .sv 100001 13,Dq1],objs:=[(100000, .box none [Dq3,Dq4,Dq1, .vh 100002,Dq1, .vh 100003,Dq1,Dq6]),(100001,Oq2),(100002,Oq7),(100003,Oq2)],rcut:=tF,rvars:=[.cell 8 31],keep:=[100000,100001,100002,3005]}
def F3:aN vw:={rcut:=kf}
def Bl:Nat->Bool:=λk=>match k with|3000023=>true|3000030=>true|8000059=>true|_=>false
def dl:Sig vw:={params:=[.bp 100000 0,ma],objs:=[(100000, .box none [.bp 100001 0,Dq5,Dq1,Dq1,Dq1,Dq1,Dq5,Dq4,Dq4,Dq8, .vh 100002, .vh 100003,Dq1,Dq1,Dq9]),(100001, .box none [Dq3,Dq4,Dq1, .vh 100004,Dq1, .vh 100005,Dq1,Dq6]),(100002,Oq2),(100003,Oq2),(100004,Oq7),(100005,Oq2)],rcut:=kf,rvars:=[],keep:=[100000,100001,100002,3011,100004,3015]}
abbrev Tq3:=Int×Int×(List aB)×Bool×Int×Int×Int×(Option bX)×(List aE)×aE×ByteArray×Int×Int×Int×Int×ByteArray×Bool×Bool×(List aQ)×Int×Int×(Option aE)×(List (Option Nat))×(List Int)×(List aE)×(List aE)×(List aE)×Unit
abbrev Tq5:=Int×Int×(List aB)×Bool×Int×Int×Int×(Option bX)×(List aE)×(List Int)×(List aE)×aE×Unit
abbrev Tq4:=Int×Int×(List aB)×Bool×Int×Int×Int×(Option bX)×(List aE)×aE×ByteArray×Int×Int×Int×Int×ByteArray×Bool×Bool×(List aQ)×Int×Int×(Option aE)×(List Int)×(List aE)×(List aE)×(List aE)×Unit
abbrev Tq7:=Int×Int×Int×Int×(List aB)×Bool×Int×Int×Int×(Option bX)×(List aE)×(List Int)×(List aE)×Unit
mutual
noncomputable def aX(v:Tq3):Option (((Tq5)⊕(Tq4))):=let p:=v.2.2;let e:=p.2.2;let q:=e.2.2;let b:=q.2.2;let j:=b.2.2.2.2;let c:=j.2.2.2.2;let k:=c.2.2.2.2;let a:=k.2.2;let d:=a.2.2;let f:=a.2.1;let g:=v.2.1;let h:=d.2.1;let i:=b.2.1;let l:=v.1;let m:=b.1;let n:=a.1;let o:=d.1;let G2:=(f,o,());if k.2.1.isNone=true then if(e.1==40000)=true then d_ ((2:Int),(0:Int),p.1,p.2.1,e.1,e.2.1,q.1,q.2.1,G2)>>=λx1=>let r:=x1.2.2.2.2;if r.2.2.1.length=f.length then if r.2.2.2.1.length=o.length then some (aaW ((↑l.toNat:Int),(↑g.toNat:Int),x1.1,x1.2.1,x1.2.2.1,x1.2.2.2.1,r.1,r.2.1,m,r.2.2.1,r.2.2.2.1,aE.mk (aF.mk (0:Int) (0:Int) (aae #[]) false false) (0:Int) false (aae #[]) (aF.mk (0:Int) (0:Int) (aae #[]) false false),()))else none else none else if 0<=k.1 then c.2.2.1[k.1.toNat]?>>=λx1=>let G1:=(x1,b.2.2.1,b.2.2.2.1,j.1,j.2.1,j.2.2.1,j.2.2.2.1,c.1,c.2.1,c.2.2.1,c.2.2.2.1,i64.wrap (k.1+1),k.2.1,p.1,p.2.1,i64.wrap (e.1+1),e.2.1,q.1,q.2.1,h,d.2.2.1,G2);(if 0<=x1.op/\x1.op<(↑(20:Nat):Int)then if x1.op.toNat<(20:Nat)then n[x1.op.toNat]?>>=λx2=>(x2:Option (Nat))>>=λx3=>if x3=(52:Nat)then none else if x3=(53:Nat)then none else if x3=(77:Nat)then fL G1>>=λx4=>let t:=x4.2.2.2.2.2.2;let s:=t.2.2.2.2.2.2;let u:=s.2.2.2.2.2.2;if u.1.length=h.length then if u.2.2.1.length=f.length then if u.2.2.2.1.length=o.length then some (((↑l.toNat:Int),(↑g.toNat:Int),s.1,s.2.1,s.2.2.1,s.2.2.2.1,s.2.2.2.2.1,s.2.2.2.2.2.1,m,i,x4.1,x4.2.1,x4.2.2.1,x4.2.2.2.1,x4.2.2.2.2.1,x4.2.2.2.2.2.1,t.1,t.2.1,t.2.2.1,t.2.2.2.1,t.2.2.2.2.1,t.2.2.2.2.2.1,n,u.2.2.1,u.2.2.2.1,u.1,u.2.1,()))else none else none else none else if x3=(78:Nat)then fM G1>>=λx4=>let z:=x4.2.2.2.2.2.2;let w:=z.2.2.2.2.2.2;let aa:=w.2.2.2.2.2.2;if aa.1.length=h.length then if aa.2.2.1.length=f.length then if aa.2.2.2.1.length=o.length then some (((↑l.toNat:Int),(↑g.toNat:Int),w.1,w.2.1,w.2.2.1,w.2.2.2.1,w.2.2.2.2.1,w.2.2.2.2.2.1,m,i,x4.1,x4.2.1,x4.2.2.1,x4.2.2.2.1,x4.2.2.2.2.1,x4.2.2.2.2.2.1,z.1,z.2.1,z.2.2.1,z.2.2.2.1,z.2.2.2.2.1,z.2.2.2.2.2.1,n,aa.2.2.1,aa.2.2.2.1,aa.1,aa.2.1,()))else none else none else none else if x3=(79:Nat)then fN G1>>=λx4=>let ad:=x4.2.2.2.2.2.2;let ab:=ad.2.2.2.2.2.2;let ac:=ab.2.2.2.2.2.2;if ac.1.length=h.length then if ac.2.2.1.length=f.length then if ac.2.2.2.1.length=o.length then some (((↑l.toNat:Int),(↑g.toNat:Int),ab.1,ab.2.1,ab.2.2.1,ab.2.2.2.1,ab.2.2.2.2.1,ab.2.2.2.2.2.1,m,i,x4.1,x4.2.1,x4.2.2.1,x4.2.2.2.1,x4.2.2.2.2.1,x4.2.2.2.2.2.1,ad.1,ad.2.1,ad.2.2.1,ad.2.2.2.1,ad.2.2.2.2.1,ad.2.2.2.2.2.1,n,ac.2.2.1,ac.2.2.2.1,ac.1,ac.2.1,()))else none else none else none else if x3=(80:Nat)then fO G1>>=λx4=>let ag:=x4.2.2.2.2.2;let ae:=ag.2.2.2.2.2.2;let af:=ae.2.2.2.2.2.2;if af.2.1.length=h.length then if af.2.2.2.1.length=f.length then some (((↑l.toNat:Int),(↑g.toNat:Int),ae.2.1,ae.2.2.1,ae.2.2.2.1,ae.2.2.2.2.1,ae.2.2.2.2.2.1,af.1,m,i,x4.1,x4.2.1,x4.2.2.1,x4.2.2.2.1,x4.2.2.2.2.1,ag.1,ag.2.1,ag.2.2.1,ag.2.2.2.1,ag.2.2.2.2.1,ag.2.2.2.2.2.1,ae.1,n,af.2.2.2.1,af.2.2.2.2.1,af.2.1,af.2.2.1,()))else none else none else if x3=(81:Nat)then fP G1>>=λx4=>let aj:=x4.2.2.2.2.2.2;let ah:=aj.2.2.2.2.2.2;let ai:=ah.2.2.2.2.2.2;if ai.1.length=h.length then if ai.2.2.1.length=f.length then if ai.2.2.2.1.length=o.length then some (((↑l.toNat:Int),(↑g.toNat:Int),ah.1,ah.2.1,ah.2.2.1,ah.2.2.2.1,ah.2.2.2.2.1,ah.2.2.2.2.2.1,m,i,x4.1,x4.2.1,x4.2.2.1,x4.2.2.2.1,x4.2.2.2.2.1,x4.2.2.2.2.2.1,aj.1,aj.2.1,aj.2.2.1,aj.2.2.2.1,aj.2.2.2.2.1,aj.2.2.2.2.2.1,n,ai.2.2.1,ai.2.2.2.1,ai.1,ai.2.1,()))else none else none else none else if x3=(82:Nat)then fQ G1>>=λx4=>let am:=x4.2.2.2.2.2.2;let ak:=am.2.2.2.2.2.2;let al:=ak.2.2.2.2.2.2;if al.1.length=h.length then if al.2.2.1.length=f.length then if al.2.2.2.1.length=o.length then some (((↑l.toNat:Int),(↑g.toNat:Int),ak.1,ak.2.1,ak.2.2.1,ak.2.2.2.1,ak.2.2.2.2.1,ak.2.2.2.2.2.1,m,i,x4.1,x4.2.1,x4.2.2.1,x4.2.2.2.1,x4.2.2.2.2.1,x4.2.2.2.2.2.1,am.1,am.2.1,am.2.2.1,am.2.2.2.1,am.2.2.2.2.1,am.2.2.2.2.2.1,n,al.2.2.1,al.2.2.2.1,al.1,al.2.1,()))else none else none else none else if x3=(83:Nat)then fR G1>>=λx4=>let ap:=x4.2.2.2.2.2.2;let an:=ap.2.2.2.2.2.2;let ao:=an.2.2.2.2.2.2;if ao.1.length=h.length then if ao.2.2.1.length=f.length then if ao.2.2.2.1.length=o.length then some (((↑l.toNat:Int),(↑g.toNat:Int),an.1,an.2.1,an.2.2.1,an.2.2.2.1,an.2.2.2.2.1,an.2.2.2.2.2.1,m,i,x4.1,x4.2.1,x4.2.2.1,x4.2.2.2.1,x4.2.2.2.2.1,x4.2.2.2.2.2.1,ap.1,ap.2.1,ap.2.2.1,ap.2.2.2.1,ap.2.2.2.2.1,ap.2.2.2.2.2.1,n,ao.2.2.1,ao.2.2.2.1,ao.1,ao.2.1,()))else none else none else none else if x3=(84:Nat)then fS G1>>=λx4=>let au:=x4.2.2.2.2.2.2;let aq:=au.2.2.2.2.2.2;let ar:=aq.2.2.2.2.2.2;if ar.1.length=h.length then if ar.2.2.1.length=f.length then if ar.2.2.2.1.length=o.length then some (((↑l.toNat:Int),(↑g.toNat:Int),aq.1,aq.2.1,aq.2.2.1,aq.2.2.2.1,aq.2.2.2.2.1,aq.2.2.2.2.2.1,m,i,x4.1,x4.2.1,x4.2.2.1,x4.2.2.2.1,x4.2.2.2.2.1,x4.2.2.2.2.2.1,au.1,au.2.1,au.2.2.1,au.2.2.2.1,au.2.2.2.2.1,au.2.2.2.2.2.1,n,ar.2.2.1,ar.2.2.2.1,ar.1,ar.2.1,()))else none else none else none else if x3=(85:Nat)then fT G1>>=λx4=>let ax:=x4.2.2.2.2.2.2;let av:=ax.2.2.2.2.2.2;let aw:=av.2.2.2.2.2.2;if aw.1.length=h.length then if aw.2.2.1.length=f.length then if aw.2.2.2.1.length=o.length then some (((↑l.toNat:Int),(↑g.toNat:Int),av.1,av.2.1,av.2.2.1,av.2.2.2.1,av.2.2.2.2.1,av.2.2.2.2.2.1,m,i,x4.1,x4.2.1,x4.2.2.1,x4.2.2.2.1,x4.2.2.2.2.1,x4.2.2.2.2.2.1,ax.1,ax.2.1,ax.2.2.1,ax.2.2.2.1,ax.2.2.2.2.1,ax.2.2.2.2.2.1,n,aw.2.2.1,aw.2.2.2.1,aw.1,aw.2.1,()))else none else none else none else if x3=(86:Nat)then fU G1>>=λx4=>let ba:=x4.2.2.2.2.2.2;let ay:=ba.2.2.2.2.2.2;let az:=ay.2.2.2.2.2.2;if az.1.length=h.length then if az.2.2.1.length=f.length then if az.2.2.2.1.length=o.length then some (((↑l.toNat:Int),(↑g.toNat:Int),ay.1,ay.2.1,ay.2.2.1,ay.2.2.2.1,ay.2.2.2.2.1,ay.2.2.2.2.2.1,m,i,x4.1,x4.2.1,x4.2.2.1,x4.2.2.2.1,x4.2.2.2.2.1,x4.2.2.2.2.2.1,ba.1,ba.2.1,ba.2.2.1,ba.2.2.2.1,ba.2.2.2.2.1,ba.2.2.2.2.2.1,n,az.2.2.1,az.2.2.2.1,az.1,az.2.1,()))else none else none else none else if x3=(87:Nat)then fV G1>>=λx4=>let bd:=x4.2.2.2.2.2.2;let bb:=bd.2.2.2.2.2.2;let bc:=bb.2.2.2.2.2.2;if bc.1.length=h.length then if bc.2.2.1.length=f.length then if bc.2.2.2.1.length=o.length then some (((↑l.toNat:Int),(↑g.toNat:Int),bb.1,bb.2.1,bb.2.2.1,bb.2.2.2.1,bb.2.2.2.2.1,bb.2.2.2.2.2.1,m,i,x4.1,x4.2.1,x4.2.2.1,x4.2.2.2.1,x4.2.2.2.2.1,x4.2.2.2.2.2.1,bd.1,bd.2.1,bd.2.2.1,bd.2.2.2.1,bd.2.2.2.2.1,bd.2.2.2.2.2.1,n,bc.2.2.1,bc.2.2.2.1,bc.1,bc.2.1,()))else none else none else none else if x3=(88:Nat)then fW G1>>=λx4=>let bg:=x4.2.2.2.2.2.2;let be:=bg.2.2.2.2.2.2;let bf:=be.2.2.2.2.2.2;if bf.1.length=h.length then if bf.2.2.1.length=f.length then if bf.2.2.2.1.length=o.length then some (((↑l.toNat:Int),(↑g.toNat:Int),be.1,be.2.1,be.2.2.1,be.2.2.2.1,be.2.2.2.2.1,be.2.2.2.2.2.1,m,i,x4.1,x4.2.1,x4.2.2.1,x4.2.2.2.1,x4.2.2.2.2.1,x4.2.2.2.2.2.1,bg.1,bg.2.1,bg.2.2.1,bg.2.2.2.1,bg.2.2.2.2.1,bg.2.2.2.2.2.1,n,bf.2.2.1,bf.2.2.2.1,bf.1,bf.2.1,()))else none else none else none else if x3=(89:Nat)then fX G1>>=λx4=>let bj:=x4.2.2.2.2.2.2;let bh:=bj.2.2.2.2.2.2;let bi:=bh.2.2.2.2.2.2;if bi.1.length=h.length then if bi.2.2.1.length=f.length then if bi.2.2.2.1.length=o.length then some (((↑l.toNat:Int),(↑g.toNat:Int),bh.1,bh.2.1,bh.2.2.1,bh.2.2.2.1,bh.2.2.2.2.1,bh.2.2.2.2.2.1,m,i,x4.1,x4.2.1,x4.2.2.1,x4.2.2.2.1,x4.2.2.2.2.1,x4.2.2.2.2.2.1,bj.1,bj.2.1,bj.2.2.1,bj.2.2.2.1,bj.2.2.2.2.1,bj.2.2.2.2.2.1,n,bi.2.2.1,bi.2.2.2.1,bi.1,bi.2.1,()))else none else none else none else if x3=(90:Nat)then fY G1>>=λx4=>let bm:=x4.2.2.2.2.2.2;let bk:=bm.2.2.2.2.2.2;let bl:=bk.2.2.2.2.2.2;if bl.1.length=h.length then if bl.2.1.length=d.2.2.1.length then if bl.2.2.1.length=f.length then if bl.2.2.2.1.length=o.length then some (((↑l.toNat:Int),(↑g.toNat:Int),bk.1,bk.2.1,bk.2.2.1,bk.2.2.2.1,bk.2.2.2.2.1,bk.2.2.2.2.2.1,m,i,x4.1,x4.2.1,x4.2.2.1,x4.2.2.2.1,x4.2.2.2.2.1,x4.2.2.2.2.2.1,bm.1,bm.2.1,bm.2.2.1,bm.2.2.2.1,bm.2.2.2.2.1,bm.2.2.2.2.2.1,n,bl.2.2.1,bl.2.2.2.1,bl.1,bl.2.1,()))else none else none else none else none else if x3=(91:Nat)then fZ G1>>=λx4=>let bp:=x4.2.2.2.2.2.2;let bn:=bp.2.2.2.2.2.2;let bo:=bn.2.2.2.2.2.2;if bo.1.length=h.length then if bo.2.1.length=d.2.2.1.length then if bo.2.2.1.length=f.length then if bo.2.2.2.1.length=o.length then some (((↑l.toNat:Int),(↑g.toNat:Int),bn.1,bn.2.1,bn.2.2.1,bn.2.2.2.1,bn.2.2.2.2.1,bn.2.2.2.2.2.1,m,i,x4.1,x4.2.1,x4.2.2.1,x4.2.2.2.1,x4.2.2.2.2.1,x4.2.2.2.2.2.1,bp.1,bp.2.1,bp.2.2.1,bp.2.2.2.1,bp.2.2.2.2.1,bp.2.2.2.2.2.1,n,bo.2.2.1,bo.2.2.2.1,bo.1,bo.2.1,()))else none else none else none else none else if x3=(92:Nat)then f5 G1>>=λx4=>let bs:=x4.2.2.2.2.2.2;let bq:=bs.2.2.2.2.2.2;let br:=bq.2.2.2.2.2.2;if br.1.length=h.length then if br.2.2.1.length=f.length then if br.2.2.2.1.length=o.length then some (((↑l.toNat:Int),(↑g.toNat:Int),bq.1,bq.2.1,bq.2.2.1,bq.2.2.2.1,bq.2.2.2.2.1,bq.2.2.2.2.2.1,m,i,x4.1,x4.2.1,x4.2.2.1,x4.2.2.2.1,x4.2.2.2.2.1,x4.2.2.2.2.2.1,bs.1,bs.2.1,bs.2.2.1,bs.2.2.2.1,bs.2.2.2.2.1,bs.2.2.2.2.2.1,n,br.2.2.1,br.2.2.2.1,br.1,br.2.1,()))else none else none else none else if x3=(93:Nat)then n_93sae8a G1>>=λx4=>let bv:=x4.2.2.2.2.2;let bt:=bv.2.2.2.2.2.2;let bu:=bt.2.2.2.2.2.2;if bu.2.1.length=h.length then if bu.2.2.2.1.length=f.length then some (((↑l.toNat:Int),(↑g.toNat:Int),bt.2.1,bt.2.2.1,bt.2.2.2.1,bt.2.2.2.2.1,bt.2.2.2.2.2.1,bu.1,m,i,x4.1,x4.2.1,x4.2.2.1,x4.2.2.2.1,x4.2.2.2.2.1,bv.1,bv.2.1,bv.2.2.1,bv.2.2.2.1,bv.2.2.2.2.1,bv.2.2.2.2.2.1,bt.1,n,bu.2.2.2.1,bu.2.2.2.2.1,bu.2.1,bu.2.2.1,()))else none else none else if x3=(94:Nat)then f6 G1>>=λx4=>let bz:=x4.2.2.2.2.2.2;let bw:=bz.2.2.2.2.2.2;let bx:=bw.2.2.2.2.2.2;if bx.1.length=h.length then if bx.2.2.1.length=f.length then if bx.2.2.2.1.length=o.length then some (((↑l.toNat:Int),(↑g.toNat:Int),bw.1,bw.2.1,bw.2.2.1,bw.2.2.2.1,bw.2.2.2.2.1,bw.2.2.2.2.2.1,m,i,x4.1,x4.2.1,x4.2.2.1,x4.2.2.2.1,x4.2.2.2.2.1,x4.2.2.2.2.2.1,bz.1,bz.2.1,bz.2.2.1,bz.2.2.2.1,bz.2.2.2.2.1,bz.2.2.2.2.2.1,n,bx.2.2.1,bx.2.2.2.1,bx.1,bx.2.1,()))else none else none else none else if x3=(95:Nat)then f7 G1>>=λx4=>let cc:=x4.2.2.2.2.2.2;let ca:=cc.2.2.2.2.2.2;let cb:=ca.2.2.2.2.2.2;if cb.1.length=h.length then if cb.2.2.1.length=f.length then if cb.2.2.2.1.length=o.length then some (((↑l.toNat:Int),(↑g.toNat:Int),ca.1,ca.2.1,ca.2.2.1,ca.2.2.2.1,ca.2.2.2.2.1,ca.2.2.2.2.2.1,m,i,x4.1,x4.2.1,x4.2.2.1,x4.2.2.2.1,x4.2.2.2.2.1,x4.2.2.2.2.2.1,cc.1,cc.2.1,cc.2.2.1,cc.2.2.2.1,cc.2.2.2.2.1,cc.2.2.2.2.2.1,n,cb.2.2.1,cb.2.2.2.1,cb.1,cb.2.1,()))else none else none else none else if x3=(96:Nat)then f_ G1>>=λx4=>let cf:=x4.2.2.2.2.2.2;let cd:=cf.2.2.2.2.2.2;let ce:=cd.2.2.2.2.2.2;if ce.1.length=h.length then if ce.2.1.length=d.2.2.1.length then if ce.2.2.1.length=f.length then if ce.2.2.2.1.length=o.length then some (((↑l.toNat:Int),(↑g.toNat:Int),cd.1,cd.2.1,cd.2.2.1,cd.2.2.2.1,cd.2.2.2.2.1,cd.2.2.2.2.2.1,m,i,x4.1,x4.2.1,x4.2.2.1,x4.2.2.2.1,x4.2.2.2.2.1,x4.2.2.2.2.2.1,cf.1,cf.2.1,cf.2.2.1,cf.2.2.2.1,cf.2.2.2.2.1,cf.2.2.2.2.2.1,n,ce.2.2.1,ce.2.2.2.1,ce.1,ce.2.1,()))else none else none else none else none else none else none else none)>>=λx2=>let cg:=x2.2.2.2.2.2;let ch:=cg.2.2.2.2.2.2.2.2.2.2.2.2.2.2.2.2.2.2;if cg.2.2.1.isSome=true then some (aaW ((↑x2.1.toNat:Int),(↑x2.2.1.toNat:Int),x2.2.2.1,x2.2.2.2.1,x2.2.2.2.2.1,cg.1,cg.2.1,cg.2.2.1,cg.2.2.2.1,ch.1,ch.2.1,aE.mk (aF.mk (0:Int) (0:Int) (aae #[]) false false) (0:Int) false (aae #[]) (aF.mk (0:Int) (0:Int) (aae #[]) false false),()))else aX ((↑x2.1.toNat:Int),(↑x2.2.1.toNat:Int),x2.2.2)else none else some (abn ((↑l.toNat:Int),(↑g.toNat:Int),p.1,p.2.1,e.1,e.2.1,q.1,q.2.1,m,i,b.2.2.1,b.2.2.2.1,j.1,j.2.1,j.2.2.1,j.2.2.2.1,c.1,c.2.1,c.2.2.1,c.2.2.2.1,k.1,k.2.1,a.2)) partial_fixpoint
noncomputable def n_93sae8a(v:Tq2):Option (Tq1):=let g:=v.2.2.2;let d:=g.2.2.2.2;let f:=d.2.2.2;let a:=f.2.2.2;let c:=a.2.2.2.2.2.2;let e:=c.2.1;let G2:=(i64.wrap ((↑e.length:Int) -v.1.b));if 0<=i64.wrap ((↑e.length:Int) -v.1.b)/\i64.wrap ((↑e.length:Int) -v.1.b)<=(↑e.length:Int)/\(↑e.length:Int)<=(↑e.length:Int)then if(0:Int)<=0/\0<=i64.wrap ((↑e.length:Int) -v.1.b)/\i64.wrap ((↑e.length:Int) -v.1.b)<=(↑e.length:Int)then LM (a.1,v.1.name0,())>>=λx1=>n_40s78a4 (x1.1,(↑G2.toNat:Int),(↑((↑e.length:Int).toNat-G2.toNat):Int),i64.wrap (f.1+1),a.1,a.2.1,a.2.2.1,a.2.2.2.1,a.2.2.2.2.1,a.2.2.2.2.2.1,c.2)>>=λx2=>let i:=x2.2.2.2;let h:=i.2.2.2.2;let G1:=(v.2.1,v.2.2.1,g.1,g.2.1,g.2.2.1,g.2.2.2.1,d.1,d.2.1,d.2.2.1,f.1,f.2.1,f.2.2.1,x2.2.2.1,i.1,i.2.1,i.2.2.1,i.2.2.2.1,h.1,c.1,abr (G2.toNat-aaG 0) h.2.1,h.2.2.1,h.2.2.2.1,());if h.2.1.length=e.length then if h.2.2.1.length=c.2.2.1.length then if G2.toNat-aaG 0<=h.2.1.length then if h.1.isNone=true then cK (h.2.2.2.2.1,G1)>>=λx3=>let j:=x3.2.2.2.2.2.2.2.2.2.2.2.2.2.2.2.2.2.2;if j.1.length=c.1.length then if j.2.2.1.length=h.2.2.1.length then if j.2.2.2.1.length=h.2.2.2.1.length then some (x3)else none else none else none else some (G1)else none else none else none else none else none partial_fixpoint
noncomputable def n_40s78a4(v:Tq7):Option (Tq5):=let b:=v.2.2.2;let a:=b.2.2.2.2;let c:=a.2.2.2.2;if decide (b.1>30)=true then d_ ((2:Int),(0:Int),b.2.1,b.2.2.1,b.2.2.2.1,a.1,a.2.1,a.2.2.1,c)>>=λx1=>let d:=x1.2.2.2.2;if d.2.2.1.length=c.1.length then if d.2.2.2.1.length=c.2.1.length then some (((↑v.2.1.toNat:Int),(↑v.2.2.1.toNat:Int),x1.1,x1.2.1,x1.2.2.1,x1.2.2.2.1,d.1,d.2.1,a.2.2.2.1,d.2.2.1,d.2.2.2.1,aE.mk (aF.mk (0:Int) (0:Int) (aae #[]) false false) (0:Int) false (aae #[]) (aF.mk (0:Int) (0:Int) (aae #[]) false false),()))else none else none else if 0<=v.1/\v.1<(↑c.1.length:Int)then c.1[v.1.toNat]?>>=λx1=>if 0<=v.1/\v.1<(↑c.1.length:Int)then c.1[v.1.toNat]?>>=λx2=>(if 0<=v.1 then b.2.1[v.1.toNat]?>>=λx3=>if 0<=v.1 then b.2.1[v.1.toNat]?>>=λx4=>if 0<=x4.places then if x4.places<=4294967296 then some (((↑v.2.1.toNat:Int),(↑v.2.2.1.toNat:Int),b.1,b.2.1,b.2.2.1,b.2.2.2.1,a.1,a.2.1,a.2.2.1,a.2.2.2.1,aE.mk (aF.mk (0:Int) (0:Int) (aae #[]) false false) (0:Int) false (aae #[]) (aF.mk (0:Int) (0:Int) (aae #[]) false false),x3.name0,x3.params,x3.places,x3.type0.base,x3.type0.bits,x3.type0.name0,x3.type0.opt,x3.type0.err,x3.code,b.1,(0:Int),none,c.1.set v.1.toNat (i64.wrap (x1+1)),c.2.1,aaA x4.places.toNat (aE.mk (aF.mk (0:Int) (0:Int) (aae #[]) false false) (0:Int) false (aae #[]) (aF.mk (0:Int) (0:Int) (aae #[]) false false)),[],()))else none else none else none else none)>>=λx3=>let j:=x3.2;let g:=j.2.2.2.2;let e:=g.2.2.2.2;let h:=e.2.2.2.2;let f:=h.2.2.2.2.2;let i:=f.2.2.2.2;let G1:=(j.2.2.1,j.2.2.2.1,g.1,g.2.1,g.2.2.1,g.2.2.2.1,e.1,e.2.1,e.2.2.1,e.2.2.2.1,h.1,h.2.1,h.2.2.1,h.2.2.2.1,h.2.2.2.2.1,f.1,f.2.1,f.2.2.1,f.2.2.2.1,i.1,i.2.1,i.2.2.1,abr i.2.2.2.1.length (abr j.1.toNat (acA x3.1.toNat e.1))++acA j.1.toNat i.2.2.2.1,i.2.2.2.2);if x3.1.toNat+j.1.toNat<=e.1.length then((if(j.2.1==1)=true then some (((↑x3.1.toNat:Int),(↑j.1.toNat:Int),decide (g.2.1>=0),G1))else some (((↑x3.1.toNat:Int),(↑j.1.toNat:Int),false,G1)))>>=λx4=>let o:=x4.2.2.2;let l:=o.2.2.2;let n:=l.2.2.2.2;let k:=n.2.2.2.2;let q:=k.2.2.2;let m:=q.2.2.2.2;let p:=m.2.2.2;if x4.2.2.1=true then if 0<=l.1/\l.1<(↑p.2.1.length:Int)then p.2.1[l.1.toNat]?>>=λx5=>if p.1.length+[x5].length<=4294967296 then some (((↑x4.1.toNat:Int),(↑x4.2.1.toNat:Int),o.1,o.2.1,o.2.2.1,l.1,l.2.1,l.2.2.1,l.2.2.2.1,n.1,n.2.1,n.2.2.1,n.2.2.2.1,k.1,k.2.1,k.2.2.1,q.1,q.2.1,q.2.2.1,q.2.2.2.1,m.1,m.2.1,m.2.2.1,p.1++[x5],p.2))else none else none else some (((↑x4.1.toNat:Int),(↑x4.2.1.toNat:Int),o)))>>=λx4=>let s:=x4.2.2.2.2.2;let r:=s.2.2.2.2.2.2;let t:=r.2.2.2.2.2;QV ()>>=λx5=>aX ((↑x4.1.toNat:Int),(↑x4.2.1.toNat:Int),x4.2.2.1,x4.2.2.2.1,x4.2.2.2.2.1,s.1,s.2.1,s.2.2.1,s.2.2.2.1,s.2.2.2.2.1,s.2.2.2.2.2.1,r.1,r.2.1,r.2.2.1,r.2.2.2.1,r.2.2.2.2.1,t.1,t.2.1,t.2.2.1,t.2.2.2.1,t.2.2.2.2.1,t.2.2.2.2.2.1,x5.1,t.2.2.2.2.2.2)>>=λx6=>match x6 with| .inl y6=>some y6| .inr y6=>let w:=y6.2.2.2.2;let u:=w.2.2.2.2.2.2.2.2.2.2.2.2.2.2.2.2.2;(u.1:Option (aE))>>=λx7=>some (((↑y6.1.toNat:Int),(↑y6.2.1.toNat:Int),y6.2.2.1,y6.2.2.2.1,w.1,w.2.1,w.2.2.1,w.2.2.2.1,w.2.2.2.2.1,u.2.1,u.2.2.1,x7,()))else none else none else none partial_fixpoint
end
def jS(aX:Tq3->Option (((Tq5)⊕(Tq4))))(n_93sae8a:Tq2->Option (Tq1))(n_40s78a4:Tq7->Option (Tq5)):dg vw:=λA fid args S k=>if fid=52 then cx prog rq d_ A args S k else if fid=53 then cu prog St QV A args S k else if fid=77 then cx prog ru fL A args S k else if fid=78 then cx prog rv fM A args S k else if fid=79 then cx prog rx fN A args S k else if fid=80 then cx prog ry fO A args S k else if fid=81 then cx prog rz fP A args S k else if fid=82 then cx prog rA fQ A args S k else if fid=83 then cx prog rB fR A args S k else if fid=84 then cx prog rC fS A args S k else if fid=85 then cx prog rD fT A args S k else if fid=86 then cx prog rE fU A args S k else if fid=87 then cx prog rF fV A args S k else if fid=88 then cx prog rG fW A args S k else if fid=89 then cx prog rH fX A args S k else if fid=90 then cx prog rI fY A args S k else if fid=91 then cx prog rJ fZ A args S k else if fid=92 then cx prog rK f5 A args S k else if fid=93 then cx prog dl n_93sae8a A args S k else if fid=94 then cx prog rL f6 A args S k else if fid=95 then cx prog rM f7 A args S k else if fid=96 then cx prog rN f_ A args S k else none
def dO(aX:Tq3->Option (((Tq5)⊕(Tq4))))(n_93sae8a:Tq2->Option (Tq1))(n_40s78a4:Tq7->Option (Tq5)):Xc vw:={P:=prog,n:=138,call:=jS aX n_93sae8a n_40s78a4,pre:=Jo,sh:=pJ,joins:=λk=>match k with|9=>some (qB,[.norm])|_=>none,regs:=λk=>match k with|5=>some Af|7=>some Ag|17=>some eM|_=>none,loops:=λk=>match k with|10=>some {cut:=eM,alts:=[.ret, .exit 0],F:=aX}|_=>none}
def ov(aX:Tq3->Option (((Tq5)⊕(Tq4))))(n_93sae8a:Tq2->Option (Tq1))(n_40s78a4:Tq7->Option (Tq5)):dg vw:=λA fid args S k=>match fid with|39=>cu prog Ss LM A args S k|40=>cx prog c6 n_40s78a4 A args S k|120=>cx prog pK cK A args S k|_=>none
def jF(aX:Tq3->Option (((Tq5)⊕(Tq4))))(n_93sae8a:Tq2->Option (Tq1))(n_40s78a4:Tq7->Option (Tq5)):Xc vw:={P:=prog,n:=70,call:=ov aX n_93sae8a n_40s78a4,pre:=Bl,sh:=F3}
abbrev dB(v:Tq3)(r:((Tq5)⊕(Tq4))):Prop:=(λv out=>∀C:Ctx,C.P=prog->C.N=138/\Fx C Jo->pZ C (aS (aO Tryz.f40) 0) (Go.Tx.a_ vw (fk vw eM v)) (xX pJ [.ret, .exit 0] out)) v r
abbrev gR(v:Tq2)(r:Tq1):Prop:=(λv r=>∀x,GD prog dl r=some x->mb prog 93 (encL vw (cC dl v).len (d7 dl v).1) (eP (cC dl v).len (cC dl v).own) (aL vw (fk vw dl.rcut r).len x) (eP (fk vw dl.rcut r).len (qf dl r))) v r
abbrev gP(v:Tq7)(r:Tq5):Prop:=(λv r=>∀x,GD prog c6 r=some x->mb prog 40 (encL vw (cC c6 v).len (d7 c6 v).1) (eP (cC c6 v).len (cC c6 v).own) (aL vw (fk vw c6.rcut r).len x) (eP (fk vw c6.rcut r).len (qf c6 r))) v r
theorem r_(f0:Tq3->Option (((Tq5)⊕(Tq4))))(f1:Tq2->Option (Tq1))(h0:∀v r,f0 v=some r->dB v r)(h1:∀v r,f1 v=some r->gR v r):bH prog (dO f0 f1 (λ_=>none)).call:=(by
 intro A fid args S dst k r h
 unfold dO jS at h
 simp only at h
 rcases bJ h with⟨e,h⟩|⟨e,h⟩
 ·subst e;exact aP (gu) h
 ·
  rcases bJ h with⟨e,h⟩|⟨e,h⟩
  ·subst e;exact aR (EN) rfl rfl h
  ·
   rcases bJ h with⟨e,h⟩|⟨e,h⟩
   ·subst e;exact aP (mu) h
   ·
    rcases bJ h with⟨e,h⟩|⟨e,h⟩
    ·subst e;exact aP (mv) h
    ·
     rcases bJ h with⟨e,h⟩|⟨e,h⟩
     ·subst e;exact aP (mw) h
     ·
      rcases bJ h with⟨e,h⟩|⟨e,h⟩
      ·subst e;exact aP (my) h
      ·
       rcases bJ h with⟨e,h⟩|⟨e,h⟩
       ·subst e;exact aP (mz) h
       ·
        rcases bJ h with⟨e,h⟩|⟨e,h⟩
        ·subst e;exact aP (mA) h
        ·
         rcases bJ h with⟨e,h⟩|⟨e,h⟩
         ·subst e;exact aP (mB) h
         ·
          rcases bJ h with⟨e,h⟩|⟨e,h⟩
          ·subst e;exact aP (mC) h
          ·
           rcases bJ h with⟨e,h⟩|⟨e,h⟩
           ·subst e;exact aP (mD) h
           ·
            rcases bJ h with⟨e,h⟩|⟨e,h⟩
            ·subst e;exact aP (mE) h
            ·
             rcases bJ h with⟨e,h⟩|⟨e,h⟩
             ·subst e;exact aP (mF) h
             ·
              rcases bJ h with⟨e,h⟩|⟨e,h⟩
              ·subst e;exact aP (mG) h
              ·
               rcases bJ h with⟨e,h⟩|⟨e,h⟩
               ·subst e;exact aP (mH) h
               ·
                rcases bJ h with⟨e,h⟩|⟨e,h⟩
                ·subst e;exact aP (mI) h
                ·
                 rcases bJ h with⟨e,h⟩|⟨e,h⟩
                 ·subst e;exact aP (mJ) h
                 ·
                  rcases bJ h with⟨e,h⟩|⟨e,h⟩
                  ·subst e;exact aP (mK) h
                  ·
                   rcases bJ h with⟨e,h⟩|⟨e,h⟩
                   ·subst e;exact aP ((λv r x h hx=>h1 v r h x hx)) h
                   ·
                    rcases bJ h with⟨e,h⟩|⟨e,h⟩
                    ·subst e;exact aP (mL) h
                    ·
                     rcases bJ h with⟨e,h⟩|⟨e,h⟩
                     ·subst e;exact aP (mM) h
                     ·
                      rcases bJ h with⟨e,h⟩|⟨e,h⟩
                      ·subst e;exact aP (mN) h
                      ·
                       cases h)
theorem s7(f0:Tq3->Option (((Tq5)⊕(Tq4))))(f1:Tq2->Option (Tq1))(h0:∀v r,f0 v=some r->dB v r)(h1:∀v r,f1 v=some r->gR v r)(v:Tq3)(r:((Tq5)⊕(Tq4)))(h:exL (dO f0 f1 (λ_=>none)) (aS (aO Tryz.f40) 0) eM [.ret, .exit 0] f0 v=some r):dB v r:=λC hP hN=>gN (X:=dO f0 f1 (λ_=>none)) (b:=(aS (aO Tryz.f40) 0)) hP hN Ty.mixed (r_ f0 f1 h0 h1) (eT (X:=dO f0 f1 (λ_=>none)) (c:=(aS (aO Tryz.f40) 0)) (fG (by kernel_rfl:True=pY (e7 C (dO f0 f1 (λ_=>none))) (cz (aS (aO Tryz.f40) 0))) trivial)) (cut:=eM) (alts:=[.ret, .exit 0]) (F:=f0) (λv out h=>h0 v out h C hP hN) h
theorem Ap(f0:Tq7->Option (Tq5))(h0:∀v r,f0 v=some r->gP v r):bH prog (jF (λ_=>none) (λ_=>none) f0).call:=(by
 intro A fid args S dst k r h
 unfold jF ov at h
 simp only at h
 split at h
 ·exact aR (EE) rfl rfl h
 ·exact aP ((λv r x h hx=>h0 v r h x hx)) h
 ·exact aP (cH) h
 ·cases h)
theorem BP(f0:Tq7->Option (Tq5))(h0:∀v r,f0 v=some r->gP v r)(v:Tq2)(r:Tq1)(h:exF (jF (λ_=>none) (λ_=>none) f0) dl rfl (aO Tryz.f93) v=some r):gR v r:=λx hx=>AA (X:=jF (λ_=>none) (λ_=>none) f0) (sig:=dl) rfl Tryz.func93 (c:=aO Tryz.f93) (by kernel_rfl) Tryz.ntmps93 (by kernel_rfl) (by kernel_rfl) rfl Ty.mixed (Ap f0 h0) rfl (λC hP hN=>(eT (X:=jF (λ_=>none) (λ_=>none) f0) (c:=(aO Tryz.f93)) (fG (by kernel_rfl:True=pY (e7 C (jF (λ_=>none) (λ_=>none) f0)) (cz (aO Tryz.f93))) trivial))) h x hx
theorem An(f0:Tq3->Option (((Tq5)⊕(Tq4))))(h0:∀v r,f0 v=some r->dB v r):bH prog (dO f0 (λ_=>none) (λ_=>none)).call:=(by
 intro A fid args S dst k r h
 unfold dO jS at h
 simp only at h
 rcases bJ h with⟨e,h⟩|⟨e,h⟩
 ·subst e;exact aP (gu) h
 ·
  rcases bJ h with⟨e,h⟩|⟨e,h⟩
  ·subst e;exact aR (EN) rfl rfl h
  ·
   rcases bJ h with⟨e,h⟩|⟨e,h⟩
   ·subst e;exact aP (mu) h
   ·
    rcases bJ h with⟨e,h⟩|⟨e,h⟩
    ·subst e;exact aP (mv) h
    ·
     rcases bJ h with⟨e,h⟩|⟨e,h⟩
     ·subst e;exact aP (mw) h
     ·
      rcases bJ h with⟨e,h⟩|⟨e,h⟩
      ·subst e;exact aP (my) h
      ·
       rcases bJ h with⟨e,h⟩|⟨e,h⟩
       ·subst e;exact aP (mz) h
       ·
        rcases bJ h with⟨e,h⟩|⟨e,h⟩
        ·subst e;exact aP (mA) h
        ·
         rcases bJ h with⟨e,h⟩|⟨e,h⟩
         ·subst e;exact aP (mB) h
         ·
          rcases bJ h with⟨e,h⟩|⟨e,h⟩
          ·subst e;exact aP (mC) h
          ·
           rcases bJ h with⟨e,h⟩|⟨e,h⟩
           ·subst e;exact aP (mD) h
           ·
            rcases bJ h with⟨e,h⟩|⟨e,h⟩
            ·subst e;exact aP (mE) h
            ·
             rcases bJ h with⟨e,h⟩|⟨e,h⟩
             ·subst e;exact aP (mF) h
             ·
              rcases bJ h with⟨e,h⟩|⟨e,h⟩
              ·subst e;exact aP (mG) h
              ·
               rcases bJ h with⟨e,h⟩|⟨e,h⟩
               ·subst e;exact aP (mH) h
               ·
                rcases bJ h with⟨e,h⟩|⟨e,h⟩
                ·subst e;exact aP (mI) h
                ·
                 rcases bJ h with⟨e,h⟩|⟨e,h⟩
                 ·subst e;exact aP (mJ) h
                 ·
                  rcases bJ h with⟨e,h⟩|⟨e,h⟩
                  ·subst e;exact aP (mK) h
                  ·
                   rcases bJ h with⟨e,h⟩|⟨e,h⟩
                   ·subst e;exact aP ((λv r x h hx=>by cases h)) h
                   ·
                    rcases bJ h with⟨e,h⟩|⟨e,h⟩
                    ·subst e;exact aP (mL) h
                    ·
                     rcases bJ h with⟨e,h⟩|⟨e,h⟩
                     ·subst e;exact aP (mM) h
                     ·
                      rcases bJ h with⟨e,h⟩|⟨e,h⟩
                      ·subst e;exact aP (mN) h
                      ·
                       cases h)
theorem BN(f0:Tq3->Option (((Tq5)⊕(Tq4))))(h0:∀v r,f0 v=some r->dB v r)(v:Tq7)(r:Tq5)(h:exF (dO f0 (λ_=>none) (λ_=>none)) c6 rfl (aO Tryz.f40) v=some r):gP v r:=λx hx=>AA (X:=dO f0 (λ_=>none) (λ_=>none)) (sig:=c6) rfl Tryz.func40 (c:=aO Tryz.f40) (by kernel_rfl) Tryz.ntmps40 (by kernel_rfl) (by kernel_rfl) rfl Ty.mixed (An f0 h0) rfl (λC hP hN=>(eT (X:=dO f0 (λ_=>none) (λ_=>none)) (c:=(aO Tryz.f40)) (fG (by kernel_rfl:pY (e7 C (dO f0 (λ_=>none) (λ_=>none))) [(aS (aO Tryz.f40) 0)]=pY (e7 C (dO f0 (λ_=>none) (λ_=>none))) (cz (aO Tryz.f40))) ⟨iY (X:=dO f0 (λ_=>none) (λ_=>none)) (b:=(aS (aO Tryz.f40) 0)) (by kernel_rfl) (show gD C (aS (aO Tryz.f40) 0) (sh:=pJ) {cut:=eM,alts:=[.ret, .exit 0],F:=f0}fromλv out h=>h0 v out h C hP hN),trivial⟩))) h x hx
theorem m9:(∀v r,aX v=some r->dB v r)/\(∀v r,n_93sae8a v=some r->gR v r)/\(∀v r,n_40s78a4 v=some r->gP v r):=by
 refine aX.mutual_partial_correctness
  (motive_1:=dB)
  (motive_2:=gR)
  (motive_3:=gP)
  ?_ ?_ ?_
 ·exact(λf0 f1 h0 h1 v r h=>s7 f0 f1 h0 h1 v r (fG (by kernel_rfl) h))
 ·exact(λf0 h0 v r h=>BP f0 h0 v r (fG (by kernel_rfl) h))
 ·exact(λf0 h0 v r h=>BN f0 h0 v r (fG (by kernel_rfl) h))
theorem uv:aM prog 40 c6 n_40s78a4:=λv r x h hx=>m9.2.2 v r h x hx
def Tw:Cut SN:=⟨[(1,Dq1),(2,l_),(11, .bp 11 0),(12, .bp 21 0)],[(11, .st .outcomeT),(21, .box none [Dq3,Dq4,Dq1, .vh 3213,Dq1, .vh 3215,Dq1,Dq6]),(3213,Oq7),(3215,Oq2)]⟩
def WR:Cut SN:=⟨[(10, .bp 21 0),(11, .bp 11 0)],[(21, .box none [Dq3,Dq4,Dq1, .vh 3213,Dq1, .vh 3215,Dq1,Dq6]),(3213,Oq7),(3215,Oq2),(11, .st .outcomeT)]⟩
def Yb:aN vw:={rcut:=WR}
def T_:Nat->Bool:=λk=>match k with|9000040=>true|_=>false
def VK:Sig vw:={params:=[Dq3,Dq1,l_,Dq4,Dq1],rcut:=WR,rvars:=[.tmp 10, .cell 11 34],keep:=[21,3213,3215]}
noncomputable def NL(v:(List aB)×Int×(List aE)×Bool×Int×Unit):Option ((List aB)×Bool×Int×Int×Int×(Option bX)×(List Int)×(List aE)×dQ×Unit):=(if(↑v.1.length:Int)<=4294967296 then some ((v.2.1,v.2.2.1,dQ.mk (0:Int) (aE.mk (aF.mk (0:Int) (0:Int) (aae #[]) false false) (0:Int) false (aae #[]) (aF.mk (0:Int) (0:Int) (aae #[]) false false)) (0:Int) [],v.1,v.2.2.2.1,(0:Int),v.2.2.2.2.1,(0:Int),none,aaA (↑v.1.length:Int).toNat (0:Int),[],()))else none)>>=λx1=>let a:=x1.2.2.2.2.2;kQ (x1.2.1,())>>=λx2=>n_40s78a4 (x1.1,(↑(0:Nat):Int),(↑x2.1.length:Int),(1:Int),x1.2.2.2.1,x1.2.2.2.2.1,a.1,a.2.1,a.2.2.1,a.2.2.2.1,x2.1,a.2.2.2.2)>>=λx3=>let c:=x3.2.2.2;let b:=c.2.2.2;let d:=b.2.2.2;if b.2.2.1.length=x2.1.length then if d.1.length=a.2.2.2.2.1.length then if b.2.1.isSome=true then(b.2.1:Option (bX))>>=λx4=>(b.2.1:Option (bX))>>=λx5=>some ((x3.2.2.1,c.1,c.2.1,c.2.2.1,b.1,b.2.1,d.1,d.2.1,dQ.mk x4.kind (aE.mk (aF.mk (0:Int) (0:Int) (aae #[]) false false) (0:Int) false (aae #[]) (aF.mk (0:Int) (0:Int) (aae #[]) false false)) x5.why [],()))else some ((x3.2.2.1,c.1,c.2.1,c.2.2.1,b.1,b.2.1,d.1,d.2.1,dQ.mk (0:Int) d.2.2.1 (0:Int) [],()))else none else none
def Lj:=kO uu (kO uv k0)
def x29:Xc vw:={P:=prog,n:=51,call:=Lj.1,pre:=T_,sh:=Yb,regs:=λk=>match k with|1=>some Tw|_=>none}
theorem wT:aM prog 29 VK NL:=fn0 x29 Tryz.func29 Lj.2
def WQ:Cut SN:=⟨[(8, .bp 8 0),(9,Dq1)],[(8, .st .outcomeT)]⟩
def X5:aN vw:={rcut:=WQ}
def VD:Sig vw:=sg [Dq3,Dq5,l_,Dq4] WQ [.cell 8 34, .tmp 9]
noncomputable def QS(v:(List aB)×ByteArray×(List aE)×Bool×Unit):Option (Int×dQ×Unit):=O5 (v.1,v.2.1,v.2.2.1,())>>=λx1=>if(x1.2.1 !=0)=true then some ((x1.2.1,dQ.mk (0:Int) (aE.mk (aF.mk (0:Int) (0:Int) (aae #[]) false false) (0:Int) false (aae #[]) (aF.mk (0:Int) (0:Int) (aae #[]) false false)) (0:Int) [],()))else NL (v.1,x1.1,v.2.2.1,v.2.2.2.1,(-1:Int),())>>=λx2=>some (((0:Int),x2.2.2.2.2.2.2.2.2))
def Ld:=kP wS (kO wT k0)
def x11:Xc vw:=mX prog 34 Ld.1 X5 [] [] []
theorem Nt:aM prog 11 VD QS:=fn0 x11 Tryz.func11 Ld.2
def ME:Cut SN:=⟨[(0,Dq4)],[]⟩
def X4:aN vw:={rcut:=ME}
def VC:Sig vw:=sg [] ME [.tmp 0]
noncomputable def QR(v:Unit):Option (Bool×Unit):=let G2:=(false,());let G1:=(aae #[102]);QS ([aB.mk G1 (0:Int) (0:Int) (aF.mk (2:Int) (8:Int) (aae #[]) false false) [aQ.mk (0:Int) (200:Int) (0:Int) (aF.mk (2:Int) (8:Int) (aae #[]) false false) (aae #[]),aQ.mk (0:Int) (100:Int) (0:Int) (aF.mk (2:Int) (8:Int) (aae #[]) false false) (aae #[]),aQ.mk (5:Int) (5:Int) (0:Int) (aF.mk (2:Int) (8:Int) (aae #[]) false false) (aae #[]),aQ.mk (17:Int) (0:Int) (0:Int) (aF.mk (0:Int) (0:Int) (aae #[]) false false) (aae #[])]],G1,[],true,())>>=λx1=>QS ([aB.mk G1 (0:Int) (0:Int) (aF.mk (2:Int) (8:Int) (aae #[]) false false) [aQ.mk (0:Int) (200:Int) (0:Int) (aF.mk (2:Int) (8:Int) (aae #[]) false false) (aae #[]),aQ.mk (0:Int) (100:Int) (0:Int) (aF.mk (2:Int) (8:Int) (aae #[]) false false) (aae #[]),aQ.mk (5:Int) (5:Int) (0:Int) (aF.mk (2:Int) (8:Int) (aae #[]) false false) (aae #[]),aQ.mk (17:Int) (0:Int) (0:Int) (aF.mk (0:Int) (0:Int) (aae #[]) false false) (aae #[])]],G1,[],G2)>>=λx2=>(if(x1.2.1.kind==1)=true then if(x1.2.1.stop==1)=true then if(x1.1==0)=true then if(x2.2.1.value.n==44)=true then some ((x2.1==0,()))else some (G2)else some (G2)else some (G2)else some (G2))>>=λx3=>some (x3)
def Lc:=kP Nt k0
def x10:Xc vw:=mX prog 51 Lc.1 X4 [] [(5,ME)] []
theorem Ns:aM prog 10 VC QR:=fn0 x10 Tryz.func10 Lc.2
def U0:aN vw:={rcut:=gG}
def RZ:Sig vw:=sg [Dq1,Dq1,Dq1] gG [.tmp 6]
noncomputable def Em(v:Cg):Option (Bool×Unit):=(if decide (v.1>=v.2.1)=true then some ((decide (v.1<=v.2.2.1),()))else some ((false,())))>>=λx1=>some (x1)
def ZJ:Xc vw:=mX prog 15 c0 U0 [] [(1,gG)] []
theorem yX:aM prog 145 RZ Em:=fn0 ZJ Tryz.func145 bT
def Vx:aN vw:={rcut:=eO}
def Sm:Sig vw:=sg [O1] eO [.tmp 2]
noncomputable def A6(v:Int×Unit):Option (Bool×Unit):=(if decide (v.1>=97)=true then if decide (v.1<=122)=true then some ((true,()))else if decide (v.1>=65)=true then if decide (v.1<=90)=true then some ((true,()))else some ((v.1==95,()))else some ((v.1==95,()))else if decide (v.1>=65)=true then if decide (v.1<=90)=true then some ((true,()))else some ((v.1==95,()))else some ((v.1==95,())))>>=λx1=>some (x1)
def Z_:Xc vw:=mX prog 21 c0 Vx [] [(1,eO)] []
theorem y8:aM prog 187 Sm A6:=fn0 Z_ Tryz.func187 bT
def Vz:aN vw:={rcut:=eO}
def So:Sig vw:=sg [O1] eO [.tmp 2]
noncomputable def Ex(v:Int×Unit):Option (Bool×Unit):=(if decide (v.1>=48)=true then some ((decide (v.1<=57),()))else some ((false,())))>>=λx1=>some (x1)
def aaa:Xc vw:=mX prog 9 c0 Vz [] [(1,eO)] []
theorem y9:aM prog 189 So Ex:=fn0 aaa Tryz.func189 bT
def K_:Cut SN:=⟨[(0,Dq5),(1,Dq1)],[]⟩
def P5:Cut SN:=⟨[(0,Dq5),(1,Dq1),(20,Dq4)],[]⟩
def Vy:aN vw:=shL [(0,K9)] bG
def Sn:Sig vw:=sg [Dq5,Dq1] bG [.tmp 4]
noncomputable def jb(v:ByteArray×Int×Unit):Option ((Int×Unit)):=let a:=v.2.1;(if decide (a<(↑v.1.size:Int))=true then if 0<=a then v.1[a.toNat]?>>=λx1=>A6 ((↑x1.toNat:Int),())>>=λx2=>if x2.1=true then some ((v.1,a,true,()))else if 0<=a then v.1[a.toNat]?>>=λx3=>Ex ((↑x3.toNat:Int),())>>=λx4=>some (v.1,a,x4)else none else none else some ((v.1,a,false,())))>>=λx1=>if x1.2.2.1=true then jb (x1.1,i64.wrap (x1.2.1+1),())else some ((x1.2.1,())) partial_fixpoint
noncomputable def A7(v:ByteArray×Int×Unit):Option (Int×Unit):=jb v>>=λx1=>some (x1)
def wq:=kP y8 (kP y9 k0)
def Xu:Xc vw:=mX prog 24 wq.1 Vy [] [(1,P5)] [(1,⟨K_,[.exit 0],jb⟩)]
theorem A8:gh Xu (aS (aO Tryz.f188) 0) ⟨K_,[.exit 0],jb⟩:=lp0 jb.partial_correctness wq.2
theorem I3:aM prog 188 Sn A7:=fn1 Xu Tryz.func188 wq.2 A8
def GU:Cut SN:=⟨[(0,KL)],[]⟩
def VA:aN vw:={rcut:=GU}
def Sp:Sig vw:=sg [] GU [.tmp 0]
noncomputable def I4(v:Unit):Option ((List ByteArray)×Unit):=some (([aae #[61,61],aae #[33,61],aae #[60,61],aae #[62,61],aae #[43,37],aae #[43,124],aae #[45,37],aae #[45,124],aae #[42,37],aae #[46,46],aae #[46,63],aae #[61,62],aae #[40],aae #[41],aae #[123],aae #[125],aae #[44],aae #[59],aae #[58],aae #[61],aae #[33],aae #[60],aae #[62],aae #[43],aae #[45],aae #[42],aae #[47],aae #[37],aae #[38],aae #[124],aae #[94],aae #[63],aae #[46]],()))
def aab:Xc vw:=mX prog 2 c0 VA [] [] []
theorem I5:aM prog 190 Sp I4:=fn0 aab Tryz.func190 bT
def Cy:Cut SN:=⟨[(0,Dq5),(1,Dq1),(8,KL),(9,Dq1)],[]⟩
def P2:Cut SN:=⟨[(0,Dq5),(1,Dq1),(40,Dq4)],[]⟩
def MP:Cut SN:=⟨[(0,Dq5),(1,Dq1),(8,KL),(9,Dq1),(10,Dq1),(73,Dq4)],[]⟩
def P3:Cut SN:=⟨[(4,Dq1),(5,Dq1),(6,Dq4)],[]⟩
def Vm:aN vw:=shL [(1,dX)] P3
def Sj:Sig vw:=sg [Dq5,Dq1] P3 [.tmp 4, .tmp 5, .tmp 6]
noncomputable def fz(v:ByteArray×Int×(List ByteArray)×Int×Unit):Option (((Int×Int×Bool×Unit)⊕(Unit))):=let a:=v.2.2.2.1;let b:=v.2.1;let c:=v.2.2.1;if decide (a<(↑c.length:Int))=true then if 0<=a then c[a.toNat]?>>=λx1=>(if decide (i64.wrap (b+(↑x1.size:Int))<=(↑v.1.size:Int))=true then if 0<=b/\b<=i64.wrap (b+(↑x1.size:Int))/\i64.wrap (b+(↑x1.size:Int))<=(↑v.1.size:Int)then if 0<=a then c[a.toNat]?>>=λx2=>some ((v.1,b,c,a,i64.wrap (b+(↑x1.size:Int)),(v.1.extract b.toNat (i64.wrap (b+(↑x1.size:Int))).toNat).toList==x2.toList,()))else none else none else some ((v.1,b,c,a,i64.wrap (b+(↑x1.size:Int)),false,())))>>=λx2=>if x2.2.2.2.2.2.1=true then some (aaW ((2:Int),x2.2.2.2.2.1,true,()))else fz (x2.1,x2.2.1,x2.2.2.1,i64.wrap (x2.2.2.2.1+1),())else none else some (abn ()) partial_fixpoint
noncomputable def A2(v:ByteArray×Int×Unit):Option (Int×Int×Bool×Unit):=let a:=v.2.1;if 0<=a then v.1[a.toNat]?>>=λx1=>A6 ((↑x1.toNat:Int),())>>=λx2=>if x2.1=true then A7 v>>=λx3=>some (((0:Int),x3.1,true,()))else Ex ((↑x1.toNat:Int),())>>=λx3=>if x3.1=true then A7 v>>=λx4=>some (((1:Int),x4.1,true,()))else if((↑x1.toNat:Int)==64)=true then(if decide (i64.wrap (a+1)<(↑v.1.size:Int))=true then if 0<=i64.wrap (a+1)then v.1[(i64.wrap (a+1)).toNat]?>>=λx4=>A6 ((↑x4.toNat:Int),())>>=λx5=>some (v.1,a,x5)else none else some ((v.1,a,false,())))>>=λx4=>if x4.2.2.1=true then A7 (x4.1,i64.wrap (x4.2.1+1),())>>=λx5=>some (((3:Int),x5.1,true,()))else some (((0:Int),(0:Int),false,()))else I4 ()>>=λx4=>fz (v.1,a,x4.1,(0:Int),())>>=λx5=>match x5 with| .inl y5=>some y5| .inr y5=>some (((0:Int),(0:Int),false,()))else none
def wk:=kP y8 (kP I3 (kP y9 (kP I5 k0)))
def Xt:Xc vw:=mX prog 75 wk.1 Vm [] [(7,P2),(15,MP)] [(12,⟨Cy,[.ret, .exit 1],fz⟩)]
theorem wR:gh Xt (aS (aO Tryz.f173) 0) ⟨Cy,[.ret, .exit 1],fz⟩:=lp0 fz.partial_correctness wk.2
theorem II:aM prog 173 Sj A2:=fn1 Xt Tryz.func173 wk.2 wR
abbrev Tl:OPt SN:= .vec 193 (.st .tokenT)
def K4:Cut SN:=⟨[(0,Dq5),(5, .vh 1005),(6,Dq1)],[(1005,Tl)]⟩
def PV:Cut SN:=⟨[(0,Dq5),(5, .vh 1005),(6,Dq1),(23,Dq4)],[(1005,Tl)]⟩
def PU:Cut SN:=⟨[(5, .vh 1005)],[(1005,Tl)]⟩
def PW:Cut SN:=⟨[(2, .dat (.sl (.st .tokenT))),(3,Dq1),(4,Dq4)],[]⟩
def Va:aN vw:=shL [(0,PU)] PW
def R_:Sig vw:=sg [Dq5] PW [.tmp 2, .tmp 3, .tmp 4]
noncomputable def fJ(v:ByteArray×Int×(List kb)×Unit):Option ((((List kb)×Int×Bool×Unit)⊕((List kb)×Unit))):=let a:=v.2.1;if decide (a<(↑v.1.size:Int))=true then(if 0<=a then v.1[a.toNat]?>>=λx1=>if((↑x1.toNat:Int)==32)=true then some (v.1,a,true,v.2.2)else if 0<=a then v.1[a.toNat]?>>=λx2=>some ((v.1,a,(↑x2.toNat:Int)==10,v.2.2))else none else none)>>=λx1=>let b:=x1.2.1;if x1.2.2.1=true then fJ (x1.1,i64.wrap (b+1),x1.2.2.2)else A2 (x1.1,b,())>>=λx2=>if(!x2.2.2.1)=true then some (aaW ([],b,false,()))else if 0<=b/\b<=x2.2.1/\x2.2.1<=(↑x1.1.size:Int)then if x1.2.2.2.1.length+[kb.mk x2.1 b (x1.1.extract b.toNat x2.2.1.toNat)].length<=4294967296 then fJ (x1.1,x2.2.1,x1.2.2.2.1++[kb.mk x2.1 b (x1.1.extract b.toNat x2.2.1.toNat)],())else none else none else some (abn v.2.2) partial_fixpoint
noncomputable def Ny(v:ByteArray×Unit):Option ((List kb)×Int×Bool×Unit):=fJ (v.1,(0:Int),[],())>>=λx1=>match x1 with| .inl y1=>some y1| .inr y1=>some ((y1.1,(0:Int),true,()))
def wg:=kP II k0
def Xp:Xc vw:=mX prog 48 wg.1 Va [] [(4,PV)] [(3,⟨K4,[.ret, .exit 0],fJ⟩)]
theorem AV:gh Xp (aS (aO Tryz.f158) 0) ⟨K4,[.ret, .exit 0],fJ⟩:=lp0 fJ.partial_correctness wg.2
theorem Iw:aM prog 158 R_ Ny:=fn1 Xp Tryz.func158 wg.2 AV
def UP:aN vw:={rcut:=cV}
def RO:Sig vw:=sg [Dq1,Dq5] cV [.tmp 4]
noncomputable def Nu(v:Int×ByteArray×Unit):Option (Bool×Unit):=Ny v.2>>=λx1=>(if x1.2.2.1=true then if((↑x1.1.length:Int)==1)=true then x1.1[aaG 0]?>>=λx2=>if(x2.kind==v.1)=true then x1.1[aaG 0]?>>=λx3=>some ((x3.text.toList==v.2.1.toList,()))else some ((false,()))else some ((false,()))else some ((false,())))>>=λx2=>some (x2)
def CX:=kP Iw k0
def ZA:Xc vw:=mX prog 36 CX.1 UP [] [(2,cV)] []
theorem H8:aM prog 134 RO Nu:=fn0 ZA Tryz.func134 CX.2
def YL:aN vw:={rcut:=eO}
def Wc:Sig vw:=sg [Dq5] eO [.tmp 2]
noncomputable def Ta(v:ByteArray×Unit):Option (Bool×Unit):=Nu ((0:Int),v)>>=λx1=>some (x1)
def Lz:=kP H8 k0
def x97:Xc vw:=mX prog 5 Lz.1 YL [] [] []
theorem N3:aM prog 97 Wc Ta:=fn0 x97 Tryz.func97 Lz.2
def UQ:aN vw:={rcut:=GU}
def RP:Sig vw:=sg [] GU [.tmp 0]
noncomputable def H9(v:Unit):Option ((List ByteArray)×Unit):=some (([aae #[102,110],aae #[99,111,110,115,116],aae #[118,97,114],aae #[99,111,109,112,116,105,109,101],aae #[114,101,116,117,114,110],aae #[101,114,114,111,114],aae #[105,102],aae #[101,108,115,101],aae #[119,104,105,108,101],aae #[102,111,114],aae #[105,110,108,105,110,101],aae #[115,119,105,116,99,104],aae #[100,101,102,101,114],aae #[101,114,114,100,101,102,101,114],aae #[98,114,101,97,107],aae #[99,111,110,116,105,110,117,101],aae #[103,105,118,101],aae #[117,110,114,101,97,99,104,97,98,108,101],aae #[116,114,117,101],aae #[102,97,108,115,101],aae #[97,110,100],aae #[111,114],aae #[116,114,121],aae #[99,97,116,99,104],aae #[111,114,101,108,115,101],aae #[100,111],aae #[118,111,105,100],aae #[98,111,111,108],aae #[116,121,112,101],aae #[95]],()))
def ZB:Xc vw:=mX prog 2 c0 UQ [] [] []
theorem H_:aM prog 135 RP H9:=fn0 ZB Tryz.func135 bT
def Qw:Cut SN:=⟨[(0,Dq5),(3,KL),(4,Dq1)],[]⟩
def YM:aN vw:=shL [(0,dX)] eO
def Wd:Sig vw:=sg [Dq5] eO [.tmp 2]
noncomputable def mO(v:ByteArray×(List ByteArray)×Int×Unit):Option (((Bool×Unit)⊕(Unit))):=if decide (v.2.2.1<(↑v.2.1.length:Int))=true then if 0<=v.2.2.1 then v.2.1[v.2.2.1.toNat]?>>=λx1=>if(x1.toList==v.1.toList)=true then some (aaW (true,()))else mO (v.1,v.2.1,i64.wrap (v.2.2.1+1),())else none else some (abn ()) partial_fixpoint
noncomputable def Tb(v:ByteArray×Unit):Option (Bool×Unit):=H9 ()>>=λx1=>mO (v.1,x1.1,(0:Int),())>>=λx2=>match x2 with| .inl y2=>some y2| .inr y2=>some ((false,()))
def Dj:=kP H_ k0
def x98:Xc vw:=mX prog 18 Dj.1 YM [] [] [(3,⟨Qw,[.ret, .exit 0],mO⟩)]
theorem EV:gh x98 (aS (aO Tryz.f98) 0) ⟨Qw,[.ret, .exit 0],mO⟩:=lp0 mO.partial_correctness Dj.2
theorem N4:aM prog 98 Wd Tb:=fn1 x98 Tryz.func98 Dj.2 EV
def JF:aN vw:=shL [(0,K8)] tD
def iz:Sig vw:=sg [Dq1,Dq1] tD [.tmp 4]
noncomputable def dE(v:xY):Option ((Int×ByteArray×Unit)):=let a:=v.2.1;let G2:=(i64.wrap (v.1.tmod a+1));let G1:=(aae #[48,49,50,51,52,53,54,55,56,57,97,98,99,100,101,102]);if decide (v.1>=a)=true then if a=0 then none else if a=0 then none else if 0<=v.1.tmod a/\v.1.tmod a<=i64.wrap (v.1.tmod a+1)/\i64.wrap (v.1.tmod a+1)<=(↑G1.size:Int)then if(G1.extract (v.1.tmod a).toNat G2.toNat).size+v.2.2.1.size<=4294967296 then if a=0 then none else dE (i64.wrap (v.1.tdiv a),a,G1.extract (v.1.tmod a).toNat G2.toNat++v.2.2.1,())else none else none else some (v.1,v.2.2) partial_fixpoint
noncomputable def qh(v:Int×Int×Unit):Option (ByteArray×Unit):=let G1:=(aae #[48,49,50,51,52,53,54,55,56,57,97,98,99,100,101,102]);if decide (v.1<0)=true then qh (i64.wrap ((0:Int) -v.1),v.2)>>=λx1=>if(aae #[45]).size+x1.1.size<=4294967296 then some ((aae #[45]++x1.1,()))else none else dE (v.1,v.2.1,aae #[],())>>=λx1=>if 0<=x1.1/\x1.1<=i64.wrap (x1.1+1)/\i64.wrap (x1.1+1)<=(↑G1.size:Int)then if(G1.extract x1.1.toNat (i64.wrap (x1.1+1)).toNat).size+x1.2.1.size<=4294967296 then some ((G1.extract x1.1.toNat (i64.wrap (x1.1+1)).toNat++x1.2.1,()))else none else none partial_fixpoint
def wm(dE:xY->Option ((Int×ByteArray×Unit)))(qh:Int×Int×Unit->Option (ByteArray×Unit)):dg vw:=λA fid args S k=>match fid with|174=>cu prog iz qh A args S k|_=>none
def zL(dE:xY->Option ((Int×ByteArray×Unit)))(qh:Int×Int×Unit->Option (ByteArray×Unit)):Xc vw:={P:=prog,n:=35,call:=wm dE qh,pre:=Jo,sh:=JF,loops:=λk=>match k with|4=>some {cut:=iv,alts:=[.exit 0],F:=dE}|_=>none}
abbrev nB(v:xY)(r:(Int×ByteArray×Unit)):Prop:=(λv out=>∀C:Ctx,C.P=prog->C.N=35/\Fx C Jo->pZ C (aS (aO Tryz.f174) 0) (Go.Tx.a_ vw (fk vw iv v)) (xX JF [.exit 0] out)) v r
theorem GZ(f0:xY->Option ((Int×ByteArray×Unit)))(h0:∀v r,f0 v=some r->nB v r):bH prog (zL f0 (λ_=>none)).call:=(by
 intro A fid args S dst k r h
 unfold zL wm at h
 simp only at h
 split at h
 ·exact aR ((λv r x h hx=>by cases h)) rfl rfl h
 ·cases h)
theorem JK(f0:xY->Option ((Int×ByteArray×Unit)))(h0:∀v r,f0 v=some r->nB v r)(v:xY)(r:(Int×ByteArray×Unit))(h:exL (zL f0 (λ_=>none)) (aS (aO Tryz.f174) 0) iv [.exit 0] f0 v=some r):nB v r:=λC hP hN=>gN (X:=zL f0 (λ_=>none)) (b:=(aS (aO Tryz.f174) 0)) hP hN Ty.mixed (GZ f0 h0) (eT (X:=zL f0 (λ_=>none)) (c:=(aS (aO Tryz.f174) 0)) (fG (by kernel_rfl:True=pY (e7 C (zL f0 (λ_=>none))) (cz (aS (aO Tryz.f174) 0))) trivial)) (cut:=iv) (alts:=[.exit 0]) (F:=f0) (λv out h=>h0 v out h C hP hN) h
theorem A3:∀v out,dE v=some out->(λv out=>∀C:Ctx,C.P=prog->C.N=35/\Fx C Jo->pZ C (aS (aO Tryz.f174) 0) (Go.Tx.a_ vw (fk vw iv v)) (xX JF [.exit 0] out)) v out:=(dE.partial_correctness (motive:=nB) (λf0 h0 v r h=>JK f0 h0 v r (fG (by kernel_rfl) h)))
abbrev yP(v:Int×Int×Unit)(r:ByteArray×Unit):Prop:=(λv r=>∀x,GD prog iz r=some x->mb prog 174 (encL vw (cC iz v).len (d7 iz v).1) (eP (cC iz v).len (cC iz v).own) (aL vw (fk vw iz.rcut r).len x) (eP (fk vw iz.rcut r).len (qf iz r))) v r
theorem QA(f0:Int×Int×Unit->Option (ByteArray×Unit))(h0:∀v r,f0 v=some r->yP v r):bH prog (zL dE f0).call:=(by
 intro A fid args S dst k r h
 unfold zL wm at h
 simp only at h
 split at h
 ·exact aR ((λv r x h hx=>h0 v r h x hx)) rfl rfl h
 ·cases h)
theorem Sz(f0:Int×Int×Unit->Option (ByteArray×Unit))(h0:∀v r,f0 v=some r->yP v r)(v:Int×Int×Unit)(r:ByteArray×Unit)(h:exF (zL dE f0) iz rfl (aO Tryz.f174) v=some r):yP v r:=λx hx=>AA (X:=zL dE f0) (sig:=iz) rfl Tryz.func174 (c:=aO Tryz.f174) (by kernel_rfl) Tryz.ntmps174 (by kernel_rfl) (by kernel_rfl) rfl Ty.mixed (QA f0 h0) rfl (λC hP hN=>(eT (X:=zL dE f0) (c:=(aO Tryz.f174)) (fG (by kernel_rfl:pY (e7 C (zL dE f0)) [(aS (aO Tryz.f174) 0)]=pY (e7 C (zL dE f0)) (cz (aO Tryz.f174))) ⟨iY (X:=zL dE f0) (b:=(aS (aO Tryz.f174) 0)) (by kernel_rfl) (show gD C (aS (aO Tryz.f174) 0) (sh:=JF) {cut:=iv,alts:=[.exit 0],F:=dE}fromλv out h=>A3 v out h C hP hN),trivial⟩))) h x hx
theorem IJ:aM prog 174 iz qh:=λv r x h hx=>(qh.partial_correctness (motive:=yP) (λf0 h0 v r h=>Sz f0 h0 v r (fG (by kernel_rfl) h))) v r h x hx
def GT:Cut SN:=⟨[(2,Dq5)],[]⟩
def Vb:aN vw:={rcut:=GT}
def Sa:Sig vw:=sg [Dq1] GT [.tmp 2]
noncomputable def Ix(v:Int×Unit):Option (ByteArray×Unit):=qh (v.1,(10:Int),())>>=λx1=>some (x1)
def C7:=kP IJ k0
def ZS:Xc vw:=mX prog 5 C7.1 Vb [] [] []
theorem Iy:aM prog 159 Sa Ix:=fn0 ZS Tryz.func159 C7.2
def UR:aN vw:={rcut:=GT}
def RQ:Sig vw:=sg [nd] GT [.tmp 2]
noncomputable def Ei(v:bB×Unit):Option (ByteArray×Unit):=if v.1.signed=true then Ix (v.1.bits,())>>=λx1=>if(aae #[105]).size+x1.1.size<=4294967296 then some ((aae #[105]++x1.1,()))else none else Ix (v.1.bits,())>>=λx1=>if(aae #[117]).size+x1.1.size<=4294967296 then some ((aae #[117]++x1.1,()))else none
def CY:=kP Iy k0
def ZC:Xc vw:=mX prog 13 CY.1 UR [] [] []
theorem Ia:aM prog 136 RQ Ei:=fn0 ZC Tryz.func136 CY.2
def Qx:Cut SN:=⟨[(0,Dq5),(2, .bp 2 0),(4,Dq1)],[(2, .st .myIntT)]⟩
def YN:aN vw:=shL [(0,vY)] GQ
def We:Sig vw:=sg [Dq5] GQ [.cell 2 135, .tmp 3]
noncomputable def kW(v:ByteArray×Int×bB×Unit):Option (((Int×bB×Unit)⊕(bB×Unit))):=if decide (v.2.1<=31)=true then Ei (bB.mk false v.2.1,())>>=λx1=>if(x1.1.toList==v.1.toList)=true then some (aaW ((0:Int),bB.mk false v.2.1,()))else Ei (bB.mk true v.2.1,())>>=λx2=>if(x2.1.toList==v.1.toList)=true then some (aaW ((0:Int),bB.mk true v.2.1,()))else kW (v.1,i64.wrap (v.2.1+1),v.2.2)else some (abn v.2.2) partial_fixpoint
noncomputable def Tc(v:ByteArray×Unit):Option (Int×bB×Unit):=kW (v.1,(1:Int),bB.mk false (0:Int),())>>=λx1=>match x1 with| .inl y1=>some y1| .inr y1=>some (((2:Int),bB.mk false (0:Int),()))
def Dk:=kP Ia k0
def x99:Xc vw:=mX prog 26 Dk.1 YN [] [] [(2,⟨Qx,[.ret, .exit 0],kW⟩)]
theorem EW:gh x99 (aS (aO Tryz.f99) 0) ⟨Qx,[.ret, .exit 0],kW⟩:=lp0 kW.partial_correctness Dk.2
theorem N5:aM prog 99 We Tc:=fn1 x99 Tryz.func99 Dk.2 EW
def Yv:aN vw:={rcut:=eO}
def V1:Sig vw:=sg [Dq5] eO [.tmp 2]
noncomputable def O9(v:ByteArray×Unit):Option (Bool×Unit):=(if decide ((↑v.1.size:Int)>8)=true then some ((v.1,true,()))else Ta v>>=λx1=>if(!x1.1)=true then some ((v.1,true,()))else Tb v>>=λx2=>some (v.1,x2))>>=λx1=>if x1.2.1=true then some ((false,()))else Tc (x1.1,())>>=λx2=>some ((x2.1 !=0,()))
def Lp:=kP N3 (kP N4 (kP N5 k0))
def x55:Xc vw:=mX prog 24 Lp.1 Yv [] [(1,Qp)] []
theorem wW:aM prog 55 V1 O9:=fn0 x55 Tryz.func55 Lp.2
def PD:Cut SN:=⟨[(1, .bp 1 0),(4,Dq1),(5,Dq4)],[(1, .st .myTypeT)]⟩
def US:aN vw:={rcut:=eO}
def RR:Sig vw:=sg [vG] eO [.tmp 2]
noncomputable def Ib(v:aF×Unit):Option (Bool×Unit):=let G1:=(false,());(if(v.1.base==2)=true then some (v.1.base,true,v)else some (v.1.base,v.1.base==3,v))>>=λx1=>let a:=x1.2.2.1;if x1.2.1=true then(Em (a.bits,(1:Int),(31:Int),())>>=λx2=>if x2.1=true then some ((a.name0.toList==(aae #[]).toList,()))else some (G1))>>=λx2=>some (x2)else if(x1.1==5)=true then(if(a.bits==0)=true then O9 (a.name0,())>>=λx2=>some (x2)else some (G1))>>=λx2=>some (x2)else if(x1.1==0)=true then(if(a.bits==0)=true then if(a.name0.toList==(aae #[]).toList)=true then some ((!a.opt,()))else some (G1)else some (G1))>>=λx2=>some (x2)else if(x1.1==4)=true then(if(a.bits==0)=true then if(a.name0.toList==(aae #[]).toList)=true then if(!a.opt)=true then some ((!a.err,()))else some (G1)else some (G1)else some (G1))>>=λx2=>some (x2)else(if(a.base==1)=true then if(a.bits==0)=true then some ((a.name0.toList==(aae #[]).toList,()))else some (G1)else some (G1))>>=λx2=>some (x2)
def CZ:=kP wW (kP yX k0)
def ZD:Xc vw:=mX prog 74 CZ.1 US [(4,PD,[.norm])] [(4,eO),(6,eO),(8,eO),(10,eO),(11,eO)] []
theorem Ic:aM prog 137 RR Ib:=fn0 ZD Tryz.func137 CZ.2
def Uo:aN vw:={rcut:=nh}
def Rn:Sig vw:=sg [vG] nh [.tmp 2]
noncomputable def Nr(v:aF×Unit):Option (Int×Unit):=Ib v>>=λx1=>if(!x1.1)=true then some (((1:Int),()))else some (((0:Int),()))
def CB:=kP Ic k0
def Za:Xc vw:=mX prog 6 CB.1 Uo [] [] []
theorem HD:aM prog 100 Rn Nr:=fn0 Za Tryz.func100 CB.2
def Cv:Cut SN:=⟨[(6,Dq1),(7,Dq4)],[]⟩
def MC:Cut SN:=⟨[(6,Dq1),(10,Dq4)],[]⟩
def MD:Cut SN:=⟨[(6,Dq1),(19,Dq4)],[]⟩
def Pm:Cut SN:=⟨[(2,Dq4),(3,Dq4),(4,Dq4),(5,Dq4)],[]⟩
def Up:aN vw:={rcut:=Pm}
def Ro:Sig vw:=sg [Dq1] Pm [.tmp 2, .tmp 3, .tmp 4, .tmp 5]
noncomputable def HE(v:Int×Unit):Option (Bool×Bool×Bool×Bool×Unit):=let G1:=(true,());(if(v.1==0)=true then some (v.1,G1)else some ((v.1,v.1==5,())))>>=λx1=>let a:=x1.1;let G2:=(a,G1);if x1.2.1=true then some ((true,false,true,false,()))else(if(a==2)=true then some (G2)else if(a==3)=true then some (G2)else if(a==6)=true then some (G2)else if(a==12)=true then some (G2)else if(a==13)=true then some (G2)else if(a==14)=true then some (G2)else if(a==15)=true then some (G2)else some ((a,a==19,())))>>=λx2=>if x2.2.1=true then some ((true,false,false,false,()))else(if(x2.1==7)=true then some (x2.1,G1)else if(x2.1==9)=true then some (x2.1,G1)else some ((x2.1,x2.1==10,())))>>=λx3=>if x3.2.1=true then some ((false,false,true,false,()))else if(x3.1==16)=true then some (false,true,false,G1)else if(x3.1==18)=true then some (false,false,false,G1)else some ((false,false,false,false,()))
def Zb:Xc vw:=mX prog 27 c0 Up [(4,Cv,[.norm]),(13,MC,[.norm]),(17,MD,[.norm])] [] []
theorem HF:aM prog 101 Ro HE:=fn0 Zb Tryz.func101 bT
end Go.Proofs.YtcghbgmmgcljkaaGreatDoor
end
section
namespace Go.Proofs.YtcghbgmmgcljkaaGreatDoor
open Go.Awp Go.Tx
open IntKind (i64)
open Go.Proofs.Tryz (prog)
set_option maxHeartbeats 4000000
set_option maxRecDepth 100000
def Yx:aN vw:={rcut:=gG}
def V3:Sig vw:=sg [Dq1,Dq1,Dq1] gG [.tmp 6]
noncomputable def Cb(v:Cg):Option (Bool×Unit):=(if decide (v.1>=v.2.1)=true then some ((decide (v.1<=v.2.2.1),()))else some ((false,())))>>=λx1=>some (x1)
def x57:Xc vw:=mX prog 15 c0 Yx [] [(1,gG)] []
theorem sQ:aM prog 57 V3 Cb:=fn0 x57 Tryz.func57 bT
def Pn:Cut SN:=⟨[(2, .bp 2 0),(3, .bp 3 0),(6,Dq1),(12,Dq4)],[(2, .st .myFuncT),(3, .st .myCodeT)]⟩
def Uq:aN vw:={rcut:=cV}
def Rp:Sig vw:=sg [Ce,ma] cV [.tmp 4]
noncomputable def iC(v:aB×aQ×Unit):Option (Bool×Unit):=if(v.2.1.op==0)=true then Cb (v.2.1.a,(-2147483648:Int),(2147483648:Int),())>>=λx1=>some (x1)else(if(v.2.1.op==2)=true then some (v.2.1.op,true,v)else some (v.2.1.op,v.2.1.op==3,v))>>=λx1=>let b:=x1.2.2.2.1;if x1.2.1=true then Cb (b.a,(0:Int),i64.wrap (x1.2.2.1.places-1),())>>=λx2=>some (x2)else if(x1.1==5)=true then Cb (b.a,(5:Int),(17:Int),())>>=λx2=>some (x2)else if(x1.1==6)=true then Cb (b.a,(18:Int),(23:Int),())>>=λx2=>some (x2)else if(x1.1==19)=true then Cb (b.a,(1:Int),(5:Int),())>>=λx2=>some (x2)else Cb (b.a,(0:Int),i64.wrap ((↑x1.2.2.1.code.length:Int) -1),())>>=λx2=>some (x2)
def CD:=kP sQ k0
def Zc:Xc vw:=mX prog 43 CD.1 Uq [(6,Pn,[.norm])] [] []
theorem HG:aM prog 102 Rp iC:=fn0 Zc Tryz.func102 CD.2
def Yy:aN vw:={rcut:=eO}
def V4:Sig vw:=sg [vG] eO [.tmp 2]
noncomputable def O_(v:aF×Unit):Option (Bool×Unit):=(Nr v>>=λx1=>if(x1.1==0)=true then some ((decide (v.1.base<=3),()))else some ((false,())))>>=λx1=>some (x1)
def Lq:=kP HD k0
def x58:Xc vw:=mX prog 11 Lq.1 Yy [] [(1,eO)] []
theorem wX:aM prog 58 V4 O_:=fn0 x58 Tryz.func58 Lq.2
def Ur:aN vw:={rcut:=eO}
def Rq:Sig vw:=sg [vG] eO [.tmp 2]
noncomputable def HH(v:aF×Unit):Option (Bool×Unit):=(O_ v>>=λx1=>if x1.1=true then if(v.1.base==2)=true then if(!v.1.opt)=true then some ((!v.1.err,()))else some ((false,()))else if(v.1.base==3)=true then if(!v.1.opt)=true then some ((!v.1.err,()))else some ((false,()))else some ((false,()))else some ((false,())))>>=λx1=>some (x1)
def CE:=kP wX k0
def Zd:Xc vw:=mX prog 25 CE.1 Ur [] [(1,eO)] []
theorem HI:aM prog 103 Rq HH:=fn0 Zd Tryz.func103 CE.2
def PG:Cut SN:=⟨[(1, .bp 1 0),(5,Dq1),(6,Dq4)],[(1, .st .myCodeT)]⟩
def MI:Cut SN:=⟨[(1, .bp 1 0),(5,Dq1),(11,Dq4)],[(1, .st .myCodeT)]⟩
def MJ:Cut SN:=⟨[(1, .bp 1 0),(5,Dq1),(16,Dq4)],[(1, .st .myCodeT)]⟩
def MK:Cut SN:=⟨[(23,Dq4)],[]⟩
def GR:Cut SN:=⟨[(2,Dq1),(3,Dq1)],[]⟩
def UU:aN vw:={rcut:=GR}
def RT:Sig vw:=sg [ma] GR [.tmp 2, .tmp 3]
noncomputable def Ej(v:aQ×Unit):Option (Int×Int×Unit):=let G2:=((1:Int),());(if(v.1.op==0)=true then some (v.1.op,true,v)else if(v.1.op==1)=true then some (v.1.op,true,v)else if(v.1.op==2)=true then some (v.1.op,true,v)else some (v.1.op,v.1.op==18,v))>>=λx1=>let G1:=(x1.1,true,x1.2.2);if x1.2.1=true then some (((0:Int),G2))else(if(x1.1==3)=true then some (G1)else if(x1.1==4)=true then some (G1)else if(x1.1==15)=true then some (G1)else some (x1.1,x1.1==17,x1.2.2))>>=λx2=>if x2.2.1=true then some (((1:Int),(0:Int),()))else(if(x2.1==5)=true then some (x2.1,true,x2.2.2)else some (x2.1,x2.1==6,x2.2.2))>>=λx3=>if x3.2.1=true then some (((2:Int),G2))else if(x3.1==16)=true then some (x3.2.2.1.b,G2)else(if(x3.1==14)=true then some ((true,()))else some ((x3.1==19,())))>>=λx4=>if x4.1=true then some (((0:Int),(0:Int),()))else some (((1:Int),G2))
def ZF:Xc vw:=mX prog 26 c0 UU [(6,PG,[.norm]),(11,MI,[.norm]),(14,MJ,[.norm]),(19,MK,[.norm])] [] []
theorem yU:aM prog 139 RT Ej:=fn0 ZF Tryz.func139 bT
def Ut:aN vw:={rcut:=gG}
def Rs:Sig vw:=sg [Ce,Dq1,Dq1] gG [.tmp 6]
noncomputable def Ef(v:aB×Int×Int×Unit):Option (Bool×Unit):=if 0<=v.2.1 then v.1.code[v.2.1.toNat]?>>=λx1=>Ej (x1,())>>=λx2=>Cb (v.2.2.1,x2.1,(64:Int),())>>=λx3=>some (x3)else none
def CF:=kP sQ (kP yU k0)
def Ze:Xc vw:=mX prog 21 CF.1 Ut [] [] []
theorem yQ:aM prog 105 Rs Ef:=fn0 Ze Tryz.func105 CF.2
def PE:Cut SN:=⟨[(1,Dq1),(2,Dq1),(7, .bp 7 0),(10,Dq1),(27,Dq1),(35,Dq4)],[(7, .st .myCodeT)]⟩
def MH:Cut SN:=⟨[(1,Dq1),(2,Dq1),(7, .bp 7 0),(10,Dq1),(27,Dq1),(38,Dq4)],[(7, .st .myCodeT)]⟩
def PF:Cut SN:=⟨[(6, .dat (.sl (.ar 2 (.int .i64))))],[]⟩
def UT:aN vw:={rcut:=PF}
def RS:Sig vw:=sg [Ce,Dq1,Dq1] PF [.tmp 6]
noncomputable def Ie(v:aB×Int×Int×Unit):Option ((List (List Int))×Unit):=if 0<=v.2.1 then v.1.code[v.2.1.toNat]?>>=λx1=>Ej (x1,())>>=λx2=>let G1:=(i64.wrap (v.2.2.1-x2.1)+x2.2.1);if(x1.op==14)=true then some (([[x1.a,i64.wrap G1]],()))else(if(x1.op==17)=true then some ((v.2.1,v.2.2.1,i64.wrap G1,x1.op,true,x1,()))else some ((v.2.1,v.2.2.1,i64.wrap G1,x1.op,x1.op==19,x1,())))>>=λx3=>let b:=x3.2.2.2;if b.2.1=true then some (([],()))else(if(b.1==15)=true then some (x3.1,x3.2.1,x3.2.2.1,b.1,true,b.2.2)else some (x3.1,x3.2.1,x3.2.2.1,b.1,b.1==13,b.2.2))>>=λx4=>let c:=x4.2.2;if c.2.2.1=true then some (([[i64.wrap (x4.1+1),c.1],[c.2.2.2.1.a,c.1]],()))else if(c.2.1==12)=true then some (([[i64.wrap (x4.1+1),x4.2.1],[c.2.2.2.1.a,i64.wrap (x4.2.1-1)]],()))else some (([[i64.wrap (x4.1+1),c.1]],()))else none
def C0:=kP yU k0
def ZE:Xc vw:=mX prog 67 C0.1 UT [(9,PE,[.norm]),(12,MH,[.norm])] [] []
theorem Ig:aM prog 138 RS Ie:=fn0 ZE Tryz.func138 C0.2
def KX:Cut SN:=⟨[(1, .bp 1 0),(4, .vh 1004),(5,Dq1)],[(1, .st .myFuncT),(1004, .maps 145 (.int .i64) .bool)]⟩
def Cw:Cut SN:=⟨[(1, .bp 1 0),(4, .vh 1004),(6, .vh 1006),(7, .vh 1007)],[(1, .st .myFuncT),(1004, .maps 145 (.int .i64) .bool),(1006, .vec 4 .bool),(1007, .que 171 (.ar 2 (.int .i64)))]⟩
def vR:Cut SN:=⟨[(1, .bp 1 0),(4, .vh 1004),(6, .vh 1006),(7, .vh 1007),(8,Dq1),(10, .dat (.sl (.ar 2 (.int .i64)))),(11,Dq1)],[(1, .st .myFuncT),(1004, .maps 145 (.int .i64) .bool),(1006, .vec 4 .bool),(1007, .que 171 (.ar 2 (.int .i64)))]⟩
def Po:Cut SN:=⟨[(1, .bp 1 0),(4, .vh 1004)],[(1, .st .myFuncT),(1004, .maps 145 (.int .i64) .bool)]⟩
def Pp:Cut SN:=⟨[(4, .vh 1004),(6, .vh 1006)],[(1004, .maps 145 (.int .i64) .bool),(1006, .vec 4 .bool)]⟩
abbrev SJ:Pt SN:= .dat (.sl .bool)
def Pq:Cut SN:=⟨[(2, .vh 2002),(3,SJ)],[(2002, .maps 145 (.int .i64) .bool)]⟩
def Us:aN vw:=shL [(0,Po),(2,Pp),(4,Cw)] Pq
def Q9:Nat->Bool:=λk=>match k with|6000031=>true|_=>false
def Rr:Sig vw:={params:=[Ce],rcut:=Pq,rvars:=[.tmp 2, .tmp 3],keep:=[2002]}
noncomputable def i5(v:Int×aB×(List (Option (List (Int×Bool))))×Unit):Option ((aB×(List (Option (List (Int×Bool))))×Unit)):=if decide (v.1<(↑v.2.2.1.length:Int))=true then if 0<=v.1/\v.1<(↑v.2.2.1.length:Int)then if v.1.toNat<v.2.2.1.length/\¬(24:Nat)=(1004:Nat)then i5 (i64.wrap (v.1+1),v.2.1,v.2.2.1.set v.1.toNat (some []),())else none else none else some (v.2) partial_fixpoint
abbrev WK:=aB×(List (Option (List (Int×Bool))))×(List Bool)×(List (List Int))×Unit
noncomputable def gr(v:Int×(List (List Int))×Int×aB×(List (Option (List (Int×Bool))))×(List Bool)×(List (List Int))×Unit):Option ((WK)):=let a:=v.2.2;let b:=a.2.2.2;if decide (a.1<(↑v.2.1.length:Int))=true then(if 0<=a.1 then v.2.1[a.1.toNat]?>>=λx1=>x1[aaG 0]?>>=λx2=>if decide (x2>=(↑a.2.1.code.length:Int))=true then if 0<=v.1/\v.1<(↑b.1.length:Int)then b.1[v.1.toNat]?>>=λx3=>some (v.1,v.2.1,a.1,a.2.1,a.2.2.1,b.1.set v.1.toNat true,b.2)else none else if 0<=a.1 then v.2.1[a.1.toNat]?>>=λx3=>if b.2.1.length+[x3].length<=4294967296 then some ((v.1,v.2.1,a.1,a.2.1,a.2.2.1,b.1,b.2.1++[x3],()))else none else none else none)>>=λx1=>gr (x1.1,x1.2.1,i64.wrap (x1.2.2.1+1),x1.2.2.2)else some (a.2) partial_fixpoint
noncomputable def eG(v:WK):Option (((List (Option (List (Int×Bool))))×(List Bool)×Unit)):=let a:=v.2.2.2.1;let b:=v.2.1;let G2:=(v.2.2.1,acA (aaG 1) a,());if decide ((↑a.length:Int)>0)=true then if(0:Int)<=0/\0<(↑a.length:Int)then a[aaG 0]?>>=λx1=>x1[(0/1:Nat)]?>>=λx2=>if(0:Int)<=0/\0<(↑a.length:Int)then a[aaG 0]?>>=λx3=>x3[(1/1:Nat)]?>>=λx4=>if(1:Int)<=(↑a.length:Int)then if 0<=x2/\x2<(↑b.length:Int)then b[x2.toNat]?>>=λx5=>(x5:Option (List (Int×Bool)))>>=λx6=>b[x2.toNat]?>>=λx7=>(x7:Option (List (Int×Bool)))>>=λx8=>if(Mp.get Mp.ieq x4 x8).getD false=true then eG (v.1,b,G2)else if 0<=x2/\x2<(↑b.length:Int)then b[x2.toNat]?>>=λx9=>(x9:Option (List (Int×Bool)))>>=λx10=>b[x2.toNat]?>>=λx11=>(x11:Option (List (Int×Bool)))>>=λx12=>let G1:=(v.1,b.set x2.toNat (some (Mp.set Mp.ieq Mp.ilt x4 true x12)),G2);Ef (v.1,x2,x4,())>>=λx13=>if(!x13.1)=true then eG G1 else Ie (v.1,x2,x4,())>>=λx14=>gr (x2,x14.1,(0:Int),G1)>>=λx15=>eG x15 else none else none else none else none else none else some ((b,v.2.2.1,())) partial_fixpoint
noncomputable def HJ(v:aB×Unit):Option ((List Bool)×(List (Option (List (Int×Bool))))×Unit):=if(↑v.1.code.length:Int)<=4294967296 then i5 ((0:Int),v.1,aaA (↑v.1.code.length:Int).toNat none,())>>=λx1=>if(↑x1.1.code.length:Int)<=4294967296 then eG (x1.1,x1.2.1,aaA (↑x1.1.code.length:Int).toNat false,[[(0:Int),(0:Int)]],())>>=λx2=>some ((x2.2.1,x2.1,()))else none else none
def n5:=kP yQ (kP Ig k0)
def Ti:Xc vw:={P:=prog,n:=92,call:=n5.1,pre:=Q9,sh:=Us,joins:=λk=>match k with|17=>some (vR,[.norm])|_=>none,loops:=λk=>match k with|3=>some {cut:=KX,alts:=[.exit 0],F:=i5}|8=>some {cut:=Cw,alts:=[.exit 2],F:=eG}|16=>some {cut:=vR,alts:=[.exit 4],F:=gr}|_=>none}
theorem AG:gh Ti (aS (aO Tryz.f104) 0) ⟨KX,[.exit 0],i5⟩:=lp0 i5.partial_correctness n5.2
theorem wO:gh Ti (aS (aS (aO Tryz.f104) 1) 0) ⟨vR,[.exit 4],gr⟩:=lp0 gr.partial_correctness n5.2
theorem AH:gh Ti (aS (aO Tryz.f104) 1) ⟨Cw,[.exit 2],eG⟩:=lp1 eG.partial_correctness n5.2 wO
theorem HK:aM prog 104 Rr HJ:=fn2 Ti Tryz.func104 n5.2 AG AH
def GP:Cut SN:=⟨[(2, .bp 2 0)],[(2, .st .itemT)]⟩
def Uu:aN vw:={rcut:=GP}
def Rt:Sig vw:=sg [Dq4] GP [.cell 2 65]
noncomputable def AJ(v:Bool×Unit):Option (Item×Unit):=if v.1=true then some ((Item.mk 1 false (aae #[]),()))else some ((Item.mk 0 false (aae #[]),()))
def Zf:Xc vw:=mX prog 6 c0 Uu [] [] []
theorem sG:aM prog 106 Rt AJ:=fn0 Zf Tryz.func106 bT
def KY:Cut SN:=⟨[(1, .bp 1 0),(3,Dq1),(4,Dq1)],[(1, .st .myIntT)]⟩
def UV:aN vw:=shL [(0,MS)] nh
def RU:Sig vw:=sg [nd] nh [.tmp 2]
noncomputable def i6(v:Int×Int×bB×Unit):Option ((Int×Unit)):=if decide (v.2.1<v.2.2.1.bits)=true then i6 (i64.wrap (v.1 *2),i64.wrap (v.2.1+1),v.2.2)else some ((v.1,())) partial_fixpoint
noncomputable def AN(v:bB×Unit):Option (Int×Unit):=i6 ((1:Int),(0:Int),v)>>=λx1=>some (x1)
def Xm:Xc vw:=mX prog 14 c0 UV [] [] [(3,⟨KY,[.exit 0],i6⟩)]
theorem AO:gh Xm (aS (aO Tryz.f140) 0) ⟨KY,[.exit 0],i6⟩:=lp0 i6.partial_correctness bT
theorem sM:aM prog 140 RU AN:=fn1 Xm Tryz.func140 bT AO
def Pr:Cut SN:=⟨[(2, .bp 2 0),(5,Dq1),(6,Dq1)],[(2, .st .myIntT)]⟩
def Cx:Cut SN:=⟨[(6,Dq1)],[]⟩
def Ps:Cut SN:=⟨[(5,Dq1),(6,Dq1),(24,Dq4)],[]⟩
def Uv:aN vw:={rcut:=bG}
def Ru:Sig vw:=sg [nd,Dq1] bG [.tmp 4]
noncomputable def kJ(v:bB×Int×Unit):Option (Int×Unit):=AN (v.1,())>>=λx1=>if x1.1=0 then none else(if decide (v.2.1.tmod x1.1<0)=true then some ((x1.1,i64.wrap (v.2.1.tmod x1.1+x1.1),v.1,()))else some ((x1.1,v.2.1.tmod x1.1,v.1,())))>>=λx2=>((if x2.2.2.1.signed=true then some ((x2.1,x2.2.1,decide (x2.2.1>=i64.wrap (x2.1.tdiv (2:Int))),()))else some ((x2.1,x2.2.1,false,())))>>=λx3=>if x3.2.2.1=true then some ((i64.wrap (x3.2.1-x3.1),()))else some ((x3.2.1,())))>>=λx3=>some (x3)
def CG:=kP sM k0
def Zg:Xc vw:=mX prog 29 CG.1 Uv [(5,Pr,[.norm]),(7,Cx,[.norm])] [(5,Ps)] []
theorem jy:aM prog 107 Ru kJ:=fn0 Zg Tryz.func107 CG.2
def Uw:aN vw:={rcut:=vY}
def Rv:Sig vw:=sg [vG] vY [.cell 2 135]
noncomputable def AK(v:aF×Unit):Option (bB×Unit):=some ((bB.mk (v.1.base==3) v.1.bits,()))
def Zh:Xc vw:=mX prog 9 c0 Uw [] [] []
theorem sH:aM prog 108 Rv AK:=fn0 Zh Tryz.func108 bT
def UZ:aN vw:={rcut:=GR}
def RY:Sig vw:=sg [nd] GR [.tmp 2, .tmp 3]
noncomputable def El(v:bB×Unit):Option (Int×Int×Unit):=AN v>>=λx1=>if v.1.signed=true then some ((i64.wrap ((0:Int) -i64.wrap (x1.1.tdiv (2:Int))),i64.wrap (i64.wrap (x1.1.tdiv (2:Int)) -1),()))else some (((0:Int),i64.wrap (x1.1-1),()))
def C2:=kP sM k0
def ZI:Xc vw:=mX prog 17 C2.1 UZ [] [] []
theorem yW:aM prog 144 RY El:=fn0 ZI Tryz.func144 C2.2
def UA:aN vw:={rcut:=cV}
def Rz:Sig vw:=sg [nd,Dq1] cV [.tmp 4]
noncomputable def wP(v:bB×Int×Unit):Option (Bool×Unit):=El (v.1,())>>=λx1=>Em (v.2.1,x1)>>=λx2=>some (x2)
def CJ:=kP yW (kP yX k0)
def Zl:Xc vw:=mX prog 16 CJ.1 UA [] [] []
theorem yS:aM prog 112 Rz wP:=fn0 Zl Tryz.func112 CJ.2
def PH:Cut SN:=⟨[(1,Dq1),(2,Dq1),(8,Dq1),(9,Dq4)],[]⟩
def PI:Cut SN:=⟨[(1,Dq1),(2,Dq1),(8,Dq1),(16,Dq4)],[]⟩
def ML:Cut SN:=⟨[(1,Dq1),(2,Dq1),(23,Dq4)],[]⟩
def UW:aN vw:={rcut:=Cv}
def RV:Sig vw:=sg [Dq1,Dq1,Dq1] Cv [.tmp 6, .tmp 7]
noncomputable def Ek(v:Cg):Option (Int×Bool×Unit):=let G1:=(true,());(if(v.1==5)=true then some (v.2.1,v.2.2.1,v.1,G1)else if(v.1==10)=true then some (v.2.1,v.2.2.1,v.1,G1)else some ((v.2.1,v.2.2.1,v.1,v.1==13,())))>>=λx1=>let a:=x1.2.2.1;if x1.2.2.2.1=true then some ((i64.wrap (x1.1+x1.2.1),G1))else(if(a==6)=true then some (x1.1,x1.2.1,a,G1)else if(a==11)=true then some (x1.1,x1.2.1,a,G1)else some ((x1.1,x1.2.1,a,a==14,())))>>=λx2=>if x2.2.2.2.1=true then some ((i64.wrap (x2.1-x2.2.1),G1))else(if(x2.2.2.1==7)=true then some (x2.1,x2.2.1,G1)else some ((x2.1,x2.2.1,x2.2.2.1==12,())))>>=λx3=>if x3.2.2.1=true then some ((i64.wrap (x3.1 *x3.2.1),G1))else if(x3.2.1==0)=true then some (((0:Int),false,()))else if x3.2.1=0 then none else some ((i64.wrap (x3.1.tdiv x3.2.1),G1))
def ZG:Xc vw:=mX prog 34 c0 UW [(5,PH,[.norm]),(9,PI,[.norm]),(12,ML,[.norm])] [] []
theorem yV:aM prog 141 RV Ek:=fn0 ZG Tryz.func141 bT
def K5:Cut SN:=⟨[(1,Dq1),(2, .bp 2 0),(5, .vh 1005),(6,Dq1)],[(2, .st .myIntT),(1005,Oq7)]⟩
def PY:Cut SN:=⟨[(1,Dq1),(2, .bp 2 0)],[(2, .st .myIntT)]⟩
def PX:Cut SN:=⟨[(5, .vh 1005)],[(1005,Oq7)]⟩
abbrev Mi:Pt SN:= .dat (.sl (.int .i64))
def PZ:Cut SN:=⟨[(4,Mi)],[]⟩
def Vc:aN vw:=shL [(0,PX)] PZ
def Sb:Sig vw:=sg [nd,Dq1] PZ [.tmp 4]
noncomputable def i9(v:Int×Int×bB×(List Int)×Unit):Option (((List Int)×Unit)):=if decide (v.2.1<v.2.2.1.bits)=true then if v.2.2.2.1.length+[v.1.tmod (2:Int)].length<=4294967296 then i9 (i64.wrap (v.1.tdiv (2:Int)),i64.wrap (v.2.1+1),v.2.2.1,v.2.2.2.1++[v.1.tmod (2:Int)],())else none else some (v.2.2.2) partial_fixpoint
noncomputable def Er(v:bB×Int×Unit):Option ((List Int)×Unit):=(if decide (v.2.1<0)=true then AN (v.1,())>>=λx1=>some ((i64.wrap (v.2.1+x1.1),v.1,()))else some ((v.2.1,v.1,())))>>=λx1=>i9 (x1.1,(0:Int),x1.2.1,[],())>>=λx2=>some (x2)
def wh:=kP sM k0
def Xq:Xc vw:=mX prog 27 wh.1 Vc [(3,PY,[.norm])] [] [(5,⟨K5,[.exit 0],i9⟩)]
theorem AW:gh Xq (aS (aO Tryz.f160) 0) ⟨K5,[.exit 0],i9⟩:=lp0 i9.partial_correctness wh.2
theorem Iz:aM prog 160 Sb Er:=fn1 Xq Tryz.func160 wh.2 AW
def K6:Cut SN:=⟨[(1,Mi),(2, .bp 2 0),(5,Dq1),(6,Dq1)],[(2, .st .myIntT)]⟩
def P0:Cut SN:=⟨[(2, .bp 2 0),(5,Dq1)],[(2, .st .myIntT)]⟩
def Vd:aN vw:=shL [(0,P0)] bG
def Sc:Sig vw:=sg [nd,Mi] bG [.tmp 4]
noncomputable def i_(v:(List Int)×Int×Int×bB×Unit):Option ((Int×bB×Unit)):=if decide (v.2.2.1>=0)=true then if 0<=v.2.2.1 then v.1[v.2.2.1.toNat]?>>=λx1=>i_ (v.1,i64.wrap (i64.wrap ((2:Int) *v.2.1)+x1),i64.wrap (v.2.2.1-1),v.2.2.2)else none else some (v.2.1,v.2.2.2) partial_fixpoint
noncomputable def Nz(v:bB×(List Int)×Unit):Option (Int×Unit):=i_ (v.2.1,(0:Int),i64.wrap ((↑v.2.1.length:Int) -1),v.1,())>>=λx1=>kJ (x1.2.1,x1.1,())>>=λx2=>some (x2)
def wi:=kP jy k0
def Xr:Xc vw:=mX prog 24 wi.1 Vd [] [] [(3,⟨K6,[.exit 0],i_⟩)]
theorem AX:gh Xr (aS (aO Tryz.f161) 0) ⟨K6,[.exit 0],i_⟩:=lp0 i_.partial_correctness wi.2
theorem IA:aM prog 161 Sc Nz:=fn1 Xr Tryz.func161 wi.2 AX
def KZ:Cut SN:=⟨[(0,Dq1),(5, .bp 5 0),(9,Mi),(10,Mi),(11, .vh 1011),(12,Dq1)],[(5, .st .myIntT),(1011,Oq7)]⟩
def MM:Cut SN:=⟨[(0,Dq1),(5, .bp 5 0),(9,Mi),(10,Mi),(11, .vh 1011),(12,Dq1),(13,Dq1)],[(5, .st .myIntT),(1011,Oq7)]⟩
def PJ:Cut SN:=⟨[(5, .bp 5 0),(11, .vh 1011)],[(5, .st .myIntT),(1011,Oq7)]⟩
def UX:aN vw:=shL [(0,PJ)] Ad
def RW:Sig vw:=sg [Dq1,nd,Dq1,Dq1] Ad [.tmp 8]
noncomputable def i7(v:Int×(List Int)×(List Int)×Int×bB×(List Int)×Unit):Option ((bB×(List Int)×Unit)):=let a:=v.2.2.2;if decide (a.1<(↑v.2.1.length:Int))=true then if 0<=a.1 then v.2.1[a.1.toNat]?>>=λx1=>if 0<=a.1 then v.2.2.1[a.1.toNat]?>>=λx2=>(if(v.1==15)=true then some ((v.1,v.2.1,v.2.2.1,a.1,i64.wrap ((i64.wrap (x1+x2)).tdiv (2:Int)),a.2))else if(v.1==16)=true then some ((v.1,v.2.1,v.2.2.1,a.1,i64.wrap ((i64.wrap (i64.wrap (x1+x2)+1)).tdiv (2:Int)),a.2))else some ((v.1,v.2.1,v.2.2.1,a.1,(i64.wrap (x1+x2)).tmod (2:Int),a.2)))>>=λx3=>let b:=x3.2.2.2.2;if b.2.2.1.length+[b.1].length<=4294967296 then i7 (x3.1,x3.2.1,x3.2.2.1,i64.wrap (x3.2.2.2.1+1),b.2.1,b.2.2.1++[b.1],())else none else none else none else some (a.2) partial_fixpoint
noncomputable def Ih(v:Mo):Option (Int×Unit):=Er (v.2.1,v.2.2.1,())>>=λx1=>Er (v.2.1,v.2.2.2)>>=λx2=>i7 (v.1,x1.1,x2.1,(0:Int),v.2.1,[],())>>=λx3=>Nz x3>>=λx4=>some (x4)
def wb:=kP Iz (kP IA k0)
def Xn:Xc vw:=mX prog 54 wb.1 UX [(13,MM,[.norm])] [] [(4,⟨KZ,[.exit 0],i7⟩)]
theorem AP:gh Xn (aS (aO Tryz.f142) 0) ⟨KZ,[.exit 0],i7⟩:=lp0 i7.partial_correctness wb.2
theorem Ii:aM prog 142 RW Ih:=fn1 Xn Tryz.func142 wb.2 AP
def UY:aN vw:={rcut:=bG}
def RX:Sig vw:=sg [nd,Dq1] bG [.tmp 4]
noncomputable def Ij(v:bB×Int×Unit):Option (Int×Unit):=El (v.1,())>>=λx1=>if decide (v.2.1<x1.1)=true then some ((x1.1,()))else if decide (v.2.1>x1.2.1)=true then some (x1.2)else some (v.2)
def C1:=kP yW k0
def ZH:Xc vw:=mX prog 21 C1.1 UY [] [] []
theorem Ik:aM prog 143 RX Ij:=fn0 ZH Tryz.func143 C1.2
def MF:Cut SN:=⟨[(0,Dq1),(2,Dq1),(3,Dq1),(5, .bp 5 0),(10,Dq1),(28,Dq1),(29,Dq4)],[(5, .st .myIntT)]⟩
def MG:Cut SN:=⟨[(0,Dq1),(2,Dq1),(3,Dq1),(5, .bp 5 0),(10,Dq1),(36,Dq4)],[(5, .st .myIntT)]⟩
def Uy:aN vw:={rcut:=nZ}
def Rx:Sig vw:=sg [Dq1,nd,Dq1,Dq1] nZ [.tmp 8, .tmp 9]
noncomputable def Eg(v:Mo):Option (Int×Int×Unit):=let G2:=((0:Int),());if decide (v.1>=15)=true then Ih v>>=λx1=>some (x1.1,G2)else Ek (v.1,v.2.2)>>=λx1=>let G1:=(v.1,v.2.2.1,v.2.2.2.1,x1.1,v.1,true,v.2.1,());if(!x1.2.1)=true then some (((0:Int),(2:Int),()))else(if(v.1==10)=true then some (G1)else if(v.1==11)=true then some (G1)else some ((v.1,v.2.2.1,v.2.2.2.1,x1.1,v.1,v.1==12,v.2.1,())))>>=λx2=>let a:=x2.2.2.2;if a.2.2.1=true then kJ (a.2.2.2.1,a.1,())>>=λx3=>some (x3.1,G2)else(if(a.2.1==13)=true then some (x2.1,x2.2.1,x2.2.2.1,a.1,true,a.2.2.2)else some (x2.1,x2.2.1,x2.2.2.1,a.1,a.2.1==14,a.2.2.2))>>=λx3=>let b:=x3.2.2.2;let G3:=(b.2.2.1,b.1,());if b.2.1=true then Ij G3>>=λx4=>some (x4.1,G2)else wP G3>>=λx4=>if(!x4.1)=true then some (((0:Int),(1:Int),()))else if(x3.1==9)=true then some ((i64.wrap (x3.2.1-i64.wrap (b.1 *x3.2.2.1)),G2))else some (b.1,G2)
def CI:=kP jy (kP yS (kP yV (kP Ii (kP Ik k0))))
def Zj:Xc vw:=mX prog 54 CI.1 Uy [(10,MF,[.norm]),(13,MG,[.norm])] [] []
theorem yR:aM prog 110 Rx Eg:=fn0 Zj Tryz.func110 CI.2
def Pu:Cut SN:=⟨[(0,Dq1),(2,Dq1),(3,Dq1),(5, .bp 5 0),(9,Dq1),(10,Dq1),(21,Dq4)],[(5, .st .myIntT)]⟩
def Pv:Cut SN:=⟨[(0,Dq1),(2,Dq1),(3,Dq1),(5, .bp 5 0),(9,Dq1),(29,Dq4)],[(5, .st .myIntT)]⟩
def Ux:aN vw:={rcut:=Ad}
def Rw:Sig vw:=sg [Dq1,nd,Dq1,Dq1] Ad [.tmp 8]
noncomputable def HM(v:Mo):Option (Int×Unit):=Eg v>>=λx1=>(if(x1.2.1==2)=true then some ((v.1,v.2.2.1,v.2.2.2.1,x1.1,x1.2.1,v.1==9,v.2.1,()))else some ((v.1,v.2.2.1,v.2.2.2.1,x1.1,x1.2.1,false,v.2.1,())))>>=λx2=>let a:=x2.2.2;if a.2.2.2.1=true then some ((x2.2.1,()))else(if(a.2.2.1==1)=true then some (x2.1,x2.2.1,a.1,a.2.1,x2.1 !=9,a.2.2.2.2)else some (x2.1,x2.2.1,a.1,a.2.1,false,a.2.2.2.2))>>=λx3=>if x3.2.2.2.2.1=true then Ek (x3.1,x3.2.1,x3.2.2.1,())>>=λx4=>kJ (x3.2.2.2.2.2.1,x4.1,())>>=λx5=>some (x5)else some ((x3.2.2.2.1,()))
def CH:=kP jy (kP yR (kP yV k0))
def Zi:Xc vw:=mX prog 47 CH.1 Ux [] [(2,Pu),(4,Pv)] []
theorem HN:aM prog 109 Rw HM:=fn0 Zi Tryz.func109 CH.2
def Uz:aN vw:={rcut:=gG}
def Ry:Sig vw:=sg [Dq1,Dq1,Dq1] gG [.tmp 6]
noncomputable def HO(v:Cg):Option (Bool×Unit):=let a:=v.2.2.1;if(v.1==18)=true then some ((v.2.1==a,()))else if(v.1==19)=true then some ((v.2.1 !=a,()))else if(v.1==20)=true then some ((decide (v.2.1<a),()))else if(v.1==21)=true then some ((decide (v.2.1<=a),()))else if(v.1==22)=true then some ((decide (v.2.1>a),()))else some ((decide (v.2.1>=a),()))
def Zk:Xc vw:=mX prog 36 c0 Uz [] [] []
theorem HP:aM prog 111 Ry HO:=fn0 Zk Tryz.func111 bT
def GV:Cut SN:=⟨[(0,Dq3),(1,Dq5),(5,Dq1)],[]⟩
def Yg:aN vw:=shL [(0,dX)] bG
def Sr:Sig vw:=sg [Dq3,Dq5] bG [.tmp 4]
abbrev WO:=(List aB)×ByteArray×Int×Unit
noncomputable def mh(v:WO):Option (((Int×Unit)⊕(Unit))):=if decide (v.2.2.1<(↑v.1.length:Int))=true then if 0<=v.2.2.1 then v.1[v.2.2.1.toNat]?>>=λx1=>if(x1.name0.toList==v.2.1.toList)=true then some (aaW v.2.2)else mh (v.1,v.2.1,i64.wrap (v.2.2.1+1),())else none else some (abn ()) partial_fixpoint
noncomputable def LL(v:(List aB)×ByteArray×Unit):Option (Int×Unit):=mh (v.1,v.2.1,(0:Int),())>>=λx1=>match x1 with| .inl y1=>some y1| .inr y1=>some (((-1:Int),()))
def x36:Xc vw:=mX prog 20 c0 Yg [] [] [(2,⟨GV,[.ret, .exit 0],mh⟩)]
theorem EB:gh x36 (aS (aO Tryz.f36) 0) ⟨GV,[.ret, .exit 0],mh⟩:=lp0 mh.partial_correctness bT
theorem lQ:aM prog 36 Sr LL:=fn1 x36 Tryz.func36 bT EB
def GW:Cut SN:=⟨[(0,Dq3),(3,Dq1),(4,Dq1)],[]⟩
def Yu:aN vw:=shL [(0,MS)] nh
def V0:Sig vw:=sg [Dq3] nh [.tmp 2]
noncomputable def mq(v:SL):Option ((Int×Unit)):=if decide (v.2.2.1<(↑v.1.length:Int))=true then if 0<=v.2.2.1 then v.1[v.2.2.1.toNat]?>>=λx1=>mq (v.1,i64.wrap (v.2.1+(↑x1.code.length:Int)),i64.wrap (v.2.2.1+1),())else none else some ((v.2.1,())) partial_fixpoint
noncomputable def S6(v:(List aB)×Unit):Option (Int×Unit):=mq (v.1,(0:Int),(0:Int),())>>=λx1=>some (x1)
def x54:Xc vw:=mX prog 20 c0 Yu [] [] [(3,⟨GW,[.exit 0],mq⟩)]
theorem EO:gh x54 (aS (aO Tryz.f54) 0) ⟨GW,[.exit 0],mq⟩:=lp0 mq.partial_correctness bT
theorem NX:aM prog 54 V0 S6:=fn1 x54 Tryz.func54 bT EO
def Yw:aN vw:=shL [(0,dX)] bG
def V2:Sig vw:=sg [Dq3,Dq5] bG [.tmp 4]
noncomputable def mr(v:WO):Option (((Int×Unit)⊕(Unit))):=if decide (v.2.2.1<(↑v.1.length:Int))=true then if 0<=v.2.2.1 then v.1[v.2.2.1.toNat]?>>=λx1=>if(x1.name0.toList==v.2.1.toList)=true then some (aaW v.2.2)else mr (v.1,v.2.1,i64.wrap (v.2.2.1+1),())else none else some (abn ()) partial_fixpoint
noncomputable def QW(v:(List aB)×ByteArray×Unit):Option (Int×Unit):=mr (v.1,v.2.1,(0:Int),())>>=λx1=>match x1 with| .inl y1=>some y1| .inr y1=>some (((-1:Int),()))
def x56:Xc vw:=mX prog 20 c0 Yw [] [] [(2,⟨GV,[.ret, .exit 0],mr⟩)]
theorem EQ:gh x56 (aS (aO Tryz.f56) 0) ⟨GV,[.ret, .exit 0],mr⟩:=lp0 mr.partial_correctness bT
theorem EP:aM prog 56 V2 QW:=fn1 x56 Tryz.func56 bT EQ
def TI:Cut SN:=⟨[(0,Dq3),(5, .bp 5 0),(9,Dq4),(67,Dq4)],[(5, .st .myCodeT)]⟩
def Yz:aN vw:={rcut:=gG}
def V5:Sig vw:=sg [Dq3,Ce,ma] gG [.tmp 6]
noncomputable def S7(v:WN):Option (Bool×Unit):=let f:=v.2;let c:=f.2;let d:=c.1;let e:=v.1;let G3:=(false,());Cb (d.op,(0:Int),(19:Int),())>>=λx1=>if(!x1.1)=true then some (G3)else HE (d.op,())>>=λx2=>let g:=x2.2.2.1;let h:=x2.2.2.2.1;let i:=x2.1;let G2:=(e,g,true,c);let G1:=(e,g,false,c);(if(!i)=true then if(d.a !=0)=true then some (G2)else if(!x2.2.1)=true then if(d.b !=0)=true then some (G2)else if(!g)=true then if(!(Mp.ieq d.type0.base (aF.mk (0:Int) (0:Int) (aae #[]) false false).base&&(Mp.ieq d.type0.bits (aF.mk (0:Int) (0:Int) (aae #[]) false false).bits&&(Mp.seq d.type0.name0 (aF.mk (0:Int) (0:Int) (aae #[]) false false).name0&&(Mp.beq d.type0.opt (aF.mk (0:Int) (0:Int) (aae #[]) false false).opt&&Mp.beq d.type0.err (aF.mk (0:Int) (0:Int) (aae #[]) false false).err)))))=true then some (G2)else if(!h)=true then if(!d.name0.toList==(aae #[]).toList)=true then some (G2)else if i=true then iC f>>=λx3=>some (e,g,!x3.1,c)else some (G1)else if i=true then iC f>>=λx3=>some (e,g,!x3.1,c)else some (G1)else if(!h)=true then if(!d.name0.toList==(aae #[]).toList)=true then some (G2)else if i=true then iC f>>=λx3=>some (e,g,!x3.1,c)else some (G1)else if i=true then iC f>>=λx3=>some (e,g,!x3.1,c)else some (G1)else if(!g)=true then if(!(Mp.ieq d.type0.base (aF.mk (0:Int) (0:Int) (aae #[]) false false).base&&(Mp.ieq d.type0.bits (aF.mk (0:Int) (0:Int) (aae #[]) false false).bits&&(Mp.seq d.type0.name0 (aF.mk (0:Int) (0:Int) (aae #[]) false false).name0&&(Mp.beq d.type0.opt (aF.mk (0:Int) (0:Int) (aae #[]) false false).opt&&Mp.beq d.type0.err (aF.mk (0:Int) (0:Int) (aae #[]) false false).err)))))=true then some (G2)else if(!h)=true then if(!d.name0.toList==(aae #[]).toList)=true then some (G2)else if i=true then iC f>>=λx3=>some (e,g,!x3.1,c)else some (G1)else if i=true then iC f>>=λx3=>some (e,g,!x3.1,c)else some (G1)else if(!h)=true then if(!d.name0.toList==(aae #[]).toList)=true then some (G2)else if i=true then iC f>>=λx3=>some (e,g,!x3.1,c)else some (G1)else if i=true then iC f>>=λx3=>some (e,g,!x3.1,c)else some (G1)else if(!x2.2.1)=true then if(d.b !=0)=true then some (G2)else if(!g)=true then if(!(Mp.ieq d.type0.base (aF.mk (0:Int) (0:Int) (aae #[]) false false).base&&(Mp.ieq d.type0.bits (aF.mk (0:Int) (0:Int) (aae #[]) false false).bits&&(Mp.seq d.type0.name0 (aF.mk (0:Int) (0:Int) (aae #[]) false false).name0&&(Mp.beq d.type0.opt (aF.mk (0:Int) (0:Int) (aae #[]) false false).opt&&Mp.beq d.type0.err (aF.mk (0:Int) (0:Int) (aae #[]) false false).err)))))=true then some (G2)else if(!h)=true then if(!d.name0.toList==(aae #[]).toList)=true then some (G2)else if i=true then iC f>>=λx3=>some (e,g,!x3.1,c)else some (G1)else if i=true then iC f>>=λx3=>some (e,g,!x3.1,c)else some (G1)else if(!h)=true then if(!d.name0.toList==(aae #[]).toList)=true then some (G2)else if i=true then iC f>>=λx3=>some (e,g,!x3.1,c)else some (G1)else if i=true then iC f>>=λx3=>some (e,g,!x3.1,c)else some (G1)else if(!g)=true then if(!(Mp.ieq d.type0.base (aF.mk (0:Int) (0:Int) (aae #[]) false false).base&&(Mp.ieq d.type0.bits (aF.mk (0:Int) (0:Int) (aae #[]) false false).bits&&(Mp.seq d.type0.name0 (aF.mk (0:Int) (0:Int) (aae #[]) false false).name0&&(Mp.beq d.type0.opt (aF.mk (0:Int) (0:Int) (aae #[]) false false).opt&&Mp.beq d.type0.err (aF.mk (0:Int) (0:Int) (aae #[]) false false).err)))))=true then some (G2)else if(!h)=true then if(!d.name0.toList==(aae #[]).toList)=true then some (G2)else if i=true then iC f>>=λx3=>some (e,g,!x3.1,c)else some (G1)else if i=true then iC f>>=λx3=>some (e,g,!x3.1,c)else some (G1)else if(!h)=true then if(!d.name0.toList==(aae #[]).toList)=true then some (G2)else if i=true then iC f>>=λx3=>some (e,g,!x3.1,c)else some (G1)else if i=true then iC f>>=λx3=>some (e,g,!x3.1,c)else some (G1))>>=λx3=>let j:=x3.2.2.2.1;if x3.2.2.1=true then some (G3)else if(j.op==0)=true then(O_ (j.type0,())>>=λx4=>if x4.1=true then if(!j.type0.opt)=true then some ((!j.type0.err,()))else some (G3)else some (G3))>>=λx4=>some (x4)else if x3.2.1=true then HH (j.type0,())>>=λx4=>some (x4)else if(j.op==18)=true then O9 (j.name0,())>>=λx4=>some (x4)else if(j.op==16)=true then QW (x3.1,j.name0,())>>=λx4=>(if decide (x4.1>=0)=true then if 0<=x4.1 then x3.1[x4.1.toNat]?>>=λx5=>some ((j.b==x5.params,()))else none else some (G3))>>=λx5=>some (x5)else some ((true,()))
def Lr:=kP wW (kP EP (kP sQ (kP wX (kP HF (kP HG (kP HI k0))))))
def x59:Xc vw:=mX prog 119 Lr.1 Yz [] [(4,TI),(7,gG),(14,gG)] []
theorem NY:aM prog 59 V5 S7:=fn0 x59 Tryz.func59 Lr.2
def MQ:Cut SN:=⟨[(0,Dq3),(3,Dq1)],[]⟩
def MR:Cut SN:=⟨[(0,Dq3),(4,Dq1)],[]⟩
def Lb:Cut SN:=⟨[(0,Dq3),(4,Dq1),(5, .bp 5 0),(6,Dq1)],[(5, .st .myFuncT)]⟩
def TC:Cut SN:=⟨[(0,Dq3),(14,Dq4)],[]⟩
def P_:Cut SN:=⟨[(0,Dq3),(4,Dq1),(5, .bp 5 0),(68,Dq4)],[(5, .st .myFuncT)]⟩
def TB:Cut SN:=⟨[(0,Dq3)],[]⟩
def Yk:aN vw:=shL [(0,TB),(2,dX),(4,MR)] nh
def VR:Sig vw:=sg [Dq3] nh [.tmp 2]
noncomputable def mj(v:(List aB)×Int×Unit):Option (((Int×Unit)⊕((List aB)×Unit))):=if decide (v.2.1<(↑v.1.length:Int))=true then if 0<=v.2.1 then v.1[v.2.1.toNat]?>>=λx1=>if decide (x1.places>200)=true then some (aaW ((3:Int),()))else mj (v.1,i64.wrap (v.2.1+1),())else none else some (abn (v.1,())) partial_fixpoint
noncomputable def jd(v:(List aB)×Int×Int×aB×Unit):Option (((Int×Unit)⊕((List aB)×Int×Unit))):=let a:=v.2.2;if decide (a.1<(↑a.2.1.code.length:Int))=true then if 0<=a.1 then a.2.1.code[a.1.toNat]?>>=λx1=>S7 (v.1,a.2.1,x1,())>>=λx2=>if(!x2.1)=true then some (aaW ((1:Int),()))else jd (v.1,v.2.1,i64.wrap (a.1+1),a.2)else none else some (abn (v.1,v.2.1,())) partial_fixpoint
noncomputable def ml(v:(List aB)×Int×Unit):Option (((Int×Unit)⊕(Unit))):=if decide (v.2.1<(↑v.1.length:Int))=true then if 0<=v.2.1 then v.1[v.2.1.toNat]?>>=λx1=>let G1:=(v.1,v.2.1,true,x1,());(O9 (x1.name0,())>>=λx2=>if(!x2.1)=true then some (G1)else QW (v.1,x1.name0,())>>=λx3=>if decide (x3.1<v.2.1)=true then some (G1)else Cb (x1.params,(0:Int),x1.places,())>>=λx4=>if(!x4.1)=true then some (G1)else O_ (x1.type0,())>>=λx5=>if(!x5.1)=true then some (G1)else some ((v.1,v.2.1,decide ((↑x1.code.length:Int)<1),x1,())))>>=λx2=>if x2.2.2.1=true then some (aaW ((1:Int),()))else jd (x2.1,x2.2.1,(0:Int),x2.2.2.2)>>=λx3=>match x3 with| .inl y3=>some (aaW y3)| .inr y3=>ml (y3.1,i64.wrap (y3.2.1+1),())else none else some (abn ()) partial_fixpoint
noncomputable def QU(v:(List aB)×Unit):Option (Int×Unit):=(if decide ((↑v.1.length:Int)>48)=true then some ((v.1,true,()))else S6 v>>=λx1=>some ((v.1,decide (x1.1>2000),())))>>=λx1=>if x1.2.1=true then some (((3:Int),()))else mj (x1.1,(0:Int),())>>=λx2=>match x2 with| .inl y2=>some y2| .inr y2=>ml (y2.1,(0:Int),())>>=λx3=>match x3 with| .inl y3=>some y3| .inr y3=>some (((0:Int),()))
def tN:=kP NX (kP wW (kP EP (kP sQ (kP wX (kP NY k0)))))
def x41:Xc vw:=mX prog 85 tN.1 Yk [] [(1,TC),(12,P_)] [(4,⟨MQ,[.ret, .exit 0],mj⟩),(9,⟨MR,[.ret, .exit 2],ml⟩),(15,⟨Lb,[.ret, .exit 4],jd⟩)]
theorem EG:gh x41 (aS (aO Tryz.f41) 0) ⟨MQ,[.ret, .exit 0],mj⟩:=lp0 mj.partial_correctness tN.2
theorem A_:gh x41 (aS (aS (aO Tryz.f41) 1) 0) ⟨Lb,[.ret, .exit 4],jd⟩:=lp0 jd.partial_correctness tN.2
theorem EH:gh x41 (aS (aO Tryz.f41) 1) ⟨MR,[.ret, .exit 2],ml⟩:=lp1 ml.partial_correctness tN.2 A_
theorem EF:aM prog 41 VR QU:=fn2 x41 Tryz.func41 tN.2 EG EH
def Qk:Cut SN:=⟨[(1, .bp 1 0),(3, .vh 1003),(4,SJ),(5,Dq1)],[(1, .st .myFuncT),(1003, .maps 145 (.int .i64) .bool)]⟩
def MT:Cut SN:=⟨[(1, .bp 1 0),(3, .vh 1003),(4,SJ),(5,Dq1),(6,Dq4),(36, .bp 36 0)],[(1, .st .myFuncT),(1003, .maps 145 (.int .i64) .bool),(36, .miter 50035 (.int .i64) .bool)]⟩
def Ql:Cut SN:=⟨[(1, .bp 1 0),(3, .vh 1003),(4,SJ),(5,Dq1),(6,Dq4)],[(1, .st .myFuncT),(1003, .maps 145 (.int .i64) .bool)]⟩
def YA:aN vw:=shL [(0,dX),(2,Ql)] nh
def V6:Sig vw:=sg [Ce] nh [.tmp 2]
noncomputable def mt(v:(List Bool)×Int×Bool×aB×(List (Option (List (Int×Bool))))×(List (Int×Bool))×(List (Int×Bool))×Unit):Option (((List Bool)×Int×Bool×aB×(List (Option (List (Int×Bool))))×Unit)):=let a:=v.2.2.2;if a.2.2.2.1.isEmpty=true then some ((v.1,v.2.1,v.2.2.1,a.1,a.2.1,()))else acR (λq1=>(if v.2.2.1=true then some ((v.1,v.2.1,true,a.1,a.2.1,a.2.2.1,q1.2,()))else Ef (a.1,v.2.1,q1.1.1,())>>=λx2=>some ((v.1,v.2.1,!x2.1,a.1,a.2.1,a.2.2.1,q1.2,())))>>=λx2=>mt x2) (Tx.steps a.2.2.2.1)>>=same partial_fixpoint
noncomputable def je(v:(List Bool)×Int×aB×(List (Option (List (Int×Bool))))×Unit):Option (((Int×Unit)⊕(Unit))):=let a:=v.2.1;if decide (a<(↑v.2.2.1.code.length:Int))=true then(if 0<=a/\a<(↑v.2.2.2.1.length:Int)then v.2.2.2.1[a.toNat]?>>=λx1=>(x1:Option (List (Int×Bool)))>>=λx2=>v.2.2.2.1[a.toNat]?>>=λx3=>(x3:Option (List (Int×Bool)))>>=λx4=>if decide ((↑x4.length:Int)>1)=true then some (v.1,a,true,v.2.2)else if 0<=a then v.1[a.toNat]?>>=λx5=>some (v.1,a,x5,v.2.2)else none else none)>>=λx1=>let b:=x1.2;let c:=b.2.2.2.1;if 0<=b.1/\b.1<(↑c.length:Int)then c[b.1.toNat]?>>=λx2=>(x2:Option (List (Int×Bool)))>>=λx3=>c[b.1.toNat]?>>=λx4=>(x4:Option (List (Int×Bool)))>>=λx5=>mt (x1.1,b.1,b.2.1,b.2.2.1,c.set b.1.toNat none,x5,x5,())>>=λx6=>if x6.2.2.1=true then some (aaW (x6.2.1,()))else je (x6.1,i64.wrap (x6.2.1+1),x6.2.2.2)else none else some (abn ()) partial_fixpoint
noncomputable def S8(v:aB×Unit):Option (Int×Unit):=HJ v>>=λx1=>je (x1.1,(0:Int),v.1,x1.2)>>=λx2=>match x2 with| .inl y2=>some y2| .inr y2=>some (((-1:Int),()))
def yi:=kO HK (kP yQ k0)
def x60:Xc vw:=mX prog 51 yi.1 YA [] [(5,Ql),(9,MT)] [(3,⟨Qk,[.ret, .exit 0],je⟩),(7,⟨MT,[.exit 2],mt⟩)]
theorem ES:gh x60 (aS (aS (aO Tryz.f60) 0) 0) ⟨MT,[.exit 2],mt⟩:=lp0 mt.partial_correctness yi.2
theorem ER:gh x60 (aS (aO Tryz.f60) 0) ⟨Qk,[.ret, .exit 0],je⟩:=lp1 je.partial_correctness yi.2 ES
theorem NZ:aM prog 60 V6 S8:=fn1 x60 Tryz.func60 yi.2 ER
def Qa:Cut SN:=⟨[(0,Dq3),(6,Dq1)],[]⟩
def Yl:aN vw:=shL [(0,dX)] SO
def VS:Sig vw:=sg [Dq3] SO [.tmp 2, .tmp 3, .tmp 4]
noncomputable def kT(v:(List aB)×Int×Unit):Option (((Cg)⊕(Unit))):=if decide (v.2.1<(↑v.1.length:Int))=true then if 0<=v.2.1 then v.1[v.2.1.toNat]?>>=λx1=>S8 (x1,())>>=λx2=>if decide (x2.1>=0)=true then some (aaW (v.2.1,x2.1,(7:Int),()))else kT (v.1,i64.wrap (v.2.1+1),())else none else some (abn ()) partial_fixpoint
noncomputable def SY(v:(List aB)×Unit):Option (Cg):=QU v>>=λx1=>if(x1.1 !=0)=true then some (((0:Int),(0:Int),x1))else kT (v.1,(0:Int),())>>=λx2=>match x2 with| .inl y2=>some y2| .inr y2=>some (((0:Int),(0:Int),(0:Int),()))
def Dg:=kP EF (kP NZ k0)
def x42:Xc vw:=mX prog 28 Dg.1 Yl [] [] [(5,⟨Qa,[.ret, .exit 0],kT⟩)]
theorem EI:gh x42 (aS (aO Tryz.f42) 0) ⟨Qa,[.ret, .exit 0],kT⟩:=lp0 kT.partial_correctness Dg.2
theorem NQ:aM prog 42 VS SY:=fn1 x42 Tryz.func42 Dg.2 EI
def Qb:Cut SN:=⟨[(0,l_),(3,Dq1)],[]⟩
def TD:Cut SN:=⟨[(0,l_),(3,Dq1),(23,Dq4)],[]⟩
def Ym:aN vw:=shL [(0,dX)] nh
def VT:Sig vw:=sg [l_] nh [.tmp 2]
noncomputable def mm(v:(List aE)×Int×Unit):Option (((Int×Unit)⊕(Unit))):=let a:=v.2.1;if decide (a<(↑v.1.length:Int))=true then(if 0<=a then v.1[a.toNat]?>>=λx1=>if decide (x1.n<(-2147483648:Int))=true then some ((v.1,a,true,()))else if 0<=a then v.1[a.toNat]?>>=λx2=>some ((v.1,a,decide (x2.n>2147483648),()))else none else none)>>=λx1=>if x1.2.2.1=true then some (aaW ((1:Int),()))else mm (x1.1,i64.wrap (x1.2.1+1),())else some (abn ()) partial_fixpoint
noncomputable def SZ(v:(List aE)×Unit):Option (Int×Unit):=mm (v.1,(0:Int),())>>=λx1=>match x1 with| .inl y1=>some y1| .inr y1=>some (((0:Int),()))
def x43:Xc vw:=mX prog 24 c0 Ym [] [(4,TD)] [(2,⟨Qb,[.ret, .exit 0],mm⟩)]
theorem EJ:gh x43 (aS (aO Tryz.f43) 0) ⟨Qb,[.ret, .exit 0],mm⟩:=lp0 mm.partial_correctness bT
theorem NR:aM prog 43 VT SZ:=fn1 x43 Tryz.func43 bT EJ
def Yc:aN vw:={rcut:=Cx}
def VL:Sig vw:=sg [Dq3,Dq5,l_] Cx [.tmp 6]
noncomputable def QT(v:SK):Option (Int×Unit):=QU (v.1,())>>=λx1=>if(x1.1 !=0)=true then some (x1)else SY (v.1,())>>=λx2=>if(x2.2.2.1 !=0)=true then some (x2.2.2)else LL (v.1,v.2.1,())>>=λx3=>if decide (x3.1<0)=true then some (((4:Int),()))else if 0<=x3.1 then v.1[x3.1.toNat]?>>=λx4=>if((↑v.2.2.1.length:Int) !=x4.params)=true then some (((10:Int),()))else SZ v.2.2>>=λx5=>some (x5)else none
def Lk:=kP lQ (kP EF (kP NQ (kP NR k0)))
def x30:Xc vw:=mX prog 41 Lk.1 Yc [] [] []
theorem Ez:aM prog 30 VL QT:=fn0 x30 Tryz.func30 Lk.2
def WX:Cut SN:=⟨[(4, .bp 4 0)],[(4, .st .itemT)]⟩
def YB:aN vw:={rcut:=WX}
def Su:Sig vw:=sg [vG,Dq1] WX [.cell 4 65]
noncomputable def QX(v:aF×Int×Unit):Option (Item×Unit):=if(v.1.base==0)=true then some ((Item.mk 0 false (aae #[]),()))else if(v.1.base==1)=true then AJ (v.2.1 !=0,())>>=λx1=>some (x1)else AK (v.1,())>>=λx1=>kJ (x1.1,v.2)>>=λx2=>some ((Item.mk x2.1 false (aae #[]),()))
def Ls:=kP sG (kP jy (kP sH k0))
def x61:Xc vw:=mX prog 20 Ls.1 YB [] [] []
theorem wY:aM prog 61 Su QX:=fn0 x61 Tryz.func61 Ls.2
def WY:Cut SN:=⟨[(10, .bp 10 0),(11,Dq1)],[(10, .st .itemT)]⟩
def YC:aN vw:={rcut:=WY}
abbrev O0:Pt SN:= .dat (.st .itemT)
def Sv:Sig vw:=sg [Dq1,vG,O0,O0,Dq4] WY [.cell 10 65, .tmp 11]
noncomputable def QY(v:Int×aF×Item×Item×Bool×Unit):Option (Int×Item×Unit):=AK (v.2.1,())>>=λx1=>kJ (x1.1,v.2.2.1.n,())>>=λx2=>kJ (x1.1,v.2.2.2.1.n,())>>=λx3=>if(!v.2.2.2.2.1)=true then HM (v.1,x1.1,x2.1,x3)>>=λx4=>some (((0:Int),Item.mk x4.1 false (aae #[]),()))else Eg (v.1,x1.1,x2.1,x3)>>=λx4=>some ((x4.2.1,Item.mk x4.1 false (aae #[]),()))
def Lt:=kP jy (kP sH (kP HN (kP yR k0)))
def x62:Xc vw:=mX prog 46 Lt.1 YC [] [] []
theorem wZ:aM prog 62 Sv QY:=fn0 x62 Tryz.func62 Lt.2
def WZ:Cut SN:=⟨[(6, .bp 6 0)],[(6, .st .itemT)]⟩
def YD:aN vw:={rcut:=WZ}
def Sw:Sig vw:=sg [Dq1,O0,O0] WZ [.cell 6 65]
noncomputable def QZ(v:Int×Item×Item×Unit):Option (Item×Unit):=HO (v.1,v.2.1.n,v.2.2.1.n,())>>=λx1=>AJ x1>>=λx2=>some (x2)
def Lu:=kP sG (kP HP k0)
def x63:Xc vw:=mX prog 14 Lu.1 YD [] [] []
theorem w5:aM prog 63 Sw QZ:=fn0 x63 Tryz.func63 Lu.2
def Qm:Cut SN:=⟨[(6, .bp 6 0),(8, .bp 8 0),(10, .bp 10 0)],[(6, .st .itemT),(8, .st .itemT),(10, .st .myIntT)]⟩
def TJ:Cut SN:=⟨[(6, .bp 6 0),(8, .bp 8 0),(27,Dq4)],[(6, .st .itemT),(8, .st .itemT)]⟩
def Qn:Cut SN:=⟨[(8, .bp 8 0),(10, .bp 10 0),(11,Dq1),(45,Dq4)],[(8, .st .itemT),(10, .st .myIntT)]⟩
def Qo:Cut SN:=⟨[(6, .bp 6 0),(8, .bp 8 0),(10, .bp 10 0),(60,Dq4)],[(6, .st .itemT),(8, .st .itemT),(10, .st .myIntT)]⟩
def W0:Cut SN:=⟨[(8, .bp 8 0),(9,Dq1)],[(8, .st .itemT)]⟩
def YE:aN vw:={rcut:=W0}
def Sx:Sig vw:=sg [Dq1,vG,O0,Dq4] W0 [.cell 8 65, .tmp 9]
noncomputable def Q0(v:Int×aF×Item×Bool×Unit):Option (Int×Item×Unit):=let a:=v.2.2.1;AK (v.2.1,())>>=λx1=>(if(v.1==8)=true then AJ (a.n==0,())>>=λx2=>some (abn ((0:Int),x2))else if(v.1==11)=true then(if a.null=true then some ((v.2.2.2.1,a,Item.mk 0 false (aae #[]),()))else some ((false,a,Item.mk 0 false (aae #[]),())))>>=λx2=>if x2.1=true then some (abn ((4:Int),Item.mk 0 false (aae #[]),()))else some (abn ((0:Int),Item.mk x2.2.1.n false (aae #[]),()))else if(v.1==7)=true then kJ (x1.1,a.n,())>>=λx2=>(if v.2.2.2.1=true then wP (x1.1,i64.wrap ((0:Int) -x2.1),())>>=λx3=>some ((i64.wrap ((0:Int) -x2.1),!x3.1,Item.mk 0 false (aae #[]),x1))else some ((i64.wrap ((0:Int) -x2.1),false,Item.mk 0 false (aae #[]),x1)))>>=λx3=>if x3.2.1=true then some (abn ((1:Int),Item.mk 0 false (aae #[]),()))else kJ (x3.2.2.2.1,x3.1,())>>=λx4=>some (abn ((0:Int),Item.mk x4.1 false (aae #[]),()))else if(v.1==9)=true then(if v.2.2.2.1=true then wP (x1.1,a.n,())>>=λx2=>some ((!x2.1,a,Item.mk 0 false (aae #[]),x1))else some ((false,a,Item.mk 0 false (aae #[]),x1)))>>=λx2=>if x2.1=true then some (abn ((3:Int),Item.mk 0 false (aae #[]),()))else some (aaW x2.2)else some (aaW (a,Item.mk 0 false (aae #[]),x1)))>>=λx2=>match x2 with| .inl y2=>kJ (y2.2.2.1,y2.1.n,())>>=λx3=>some (((0:Int),Item.mk x3.1 false (aae #[]),()))| .inr y2=>some y2
def Lv:=kP sG (kP jy (kP sH (kP yS k0)))
def x64:Xc vw:=mX prog 67 Lv.1 YE [(17,Qm,[.norm, .ret])] [(6,TJ),(11,Qn),(15,Qo)] []
theorem w6:aM prog 64 Sx Q0:=fn0 x64 Tryz.func64 Lv.2
abbrev SI:Pt SN:= .dat (.sl (.st .itemT))
abbrev lB:OPt SN:= .vec 65 (.st .itemT)
def fC:Cut SN:=⟨[(0,Dq3),(1,Dq1),(2,SI),(3,Dq1),(4,Dq4),(11, .bp 11 0),(12, .bp 12 0),(13, .bp 13 0),(14, .vh 1014),(15,Dq1)],[(11, .box none [Dq1,Dq1,Dq1, .vh 3113,Dq1, .vh 3115,Dq1]),(12, .st .itemT),(13, .st .logT),(1014,lB),(3113,Oq7),(3115,lB)]⟩
def eN:Cut SN:=⟨[(0,Dq3),(1,Dq1),(3,Dq1),(4,Dq4),(11, .bp 11 0),(12, .bp 12 0),(13, .bp 13 0),(14, .vh 1014),(16, .vh 1016),(17,Dq1)],[(11, .box none [Dq1,Dq1,Dq1, .vh 3113,Dq1, .vh 3115,Dq1]),(12, .st .itemT),(13, .st .logT),(1014,lB),(1016,lB),(3113,Oq7),(3115,lB)]⟩
def n4:Cut SN:=⟨[(0,Dq3),(1,Dq1),(3,Dq1),(4,Dq4),(11, .bp 11 0),(12, .bp 12 0),(13, .bp 13 0),(14, .vh 1014)],[(11, .box none [Dq1,Dq1,Dq1, .vh 3113,Dq1, .vh 3115,Dq1]),(12, .st .itemT),(13, .st .logT),(1014,lB),(3113,Oq7),(3115,lB)]⟩
def vZ:Cut SN:=⟨[(0,Dq3),(1,Dq1),(3,Dq1),(4,Dq4),(11, .bp 11 0),(12, .bp 12 0),(13, .bp 13 0),(14, .vh 1014),(16, .vh 1016),(17,Dq1),(18, .bp 18 0),(19, .bp 19 0),(20,Dq1)],[(11, .box none [Dq1,Dq1,Dq1, .vh 3113,Dq1, .vh 3115,Dq1]),(12, .st .itemT),(13, .st .logT),(1014,lB),(1016,lB),(18, .st .myCodeT),(19, .st .itemT),(3113,Oq7),(3115,lB)]⟩
def v6:Cut SN:=⟨[(0,Dq3),(1,Dq1),(3,Dq1),(4,Dq4),(11, .bp 11 0),(12, .bp 12 0),(13, .bp 13 0),(14, .vh 1014),(16, .vh 1016),(17,Dq1),(18, .bp 18 0),(19, .bp 19 0),(20,Dq1),(21,Dq1),(117,Dq1),(239,Dq4)],[(11, .box none [Dq1,Dq1,Dq1, .vh 3113,Dq1, .vh 3115,Dq1]),(12, .st .itemT),(13, .st .logT),(1014,lB),(1016,lB),(18, .st .myCodeT),(19, .st .itemT),(3113,Oq7),(3115,lB)]⟩
def v7:Cut SN:=⟨[(0,Dq3),(1,Dq1),(3,Dq1),(4,Dq4),(11, .bp 11 0),(12, .bp 12 0),(13, .bp 13 0),(14, .vh 1014),(16, .vh 1016),(17,Dq1),(21,Dq1)],[(11, .box none [Dq1,Dq1,Dq1, .vh 3113,Dq1, .vh 3115,Dq1]),(12, .st .itemT),(13, .st .logT),(1014,lB),(1016,lB),(3113,Oq7),(3115,lB)]⟩
def v8:Cut SN:=⟨[(0,Dq3),(1,Dq1),(3,Dq1),(4,Dq4),(11, .bp 11 0),(12, .bp 12 0),(13, .bp 13 0),(14, .vh 1014),(67,Dq4)],[(11, .box none [Dq1,Dq1,Dq1, .vh 3113,Dq1, .vh 3115,Dq1]),(12, .st .itemT),(13, .st .logT),(1014,lB),(3113,Oq7),(3115,lB)]⟩
def v_:Cut SN:=⟨[(0,Dq3),(1,Dq1),(3,Dq1),(4,Dq4),(11, .bp 11 0),(12, .bp 12 0),(13, .bp 13 0),(14, .vh 1014),(16, .vh 1016),(17,Dq1),(19, .bp 19 0),(21,Dq1),(182,Dq4)],[(11, .box none [Dq1,Dq1,Dq1, .vh 3113,Dq1, .vh 3115,Dq1]),(12, .st .itemT),(13, .st .logT),(1014,lB),(1016,lB),(19, .st .itemT),(3113,Oq7),(3115,lB)]⟩
def wa:Cut SN:=⟨[(0,Dq3),(1,Dq1),(3,Dq1),(4,Dq4),(11, .bp 11 0),(12, .bp 12 0),(13, .bp 13 0),(14, .vh 1014),(16, .vh 1016),(17,Dq1),(18, .bp 18 0),(21,Dq1),(22,SI)],[(11, .box none [Dq1,Dq1,Dq1, .vh 3113,Dq1, .vh 3115,Dq1]),(12, .st .itemT),(13, .st .logT),(1014,lB),(1016,lB),(18, .st .myCodeT),(3113,Oq7),(3115,lB)]⟩
def tG:Cut SN:=⟨[(12, .bp 12 0),(13, .bp 13 0)],[(12, .st .itemT),(13, .box none [Dq1,Dq1,Dq1, .vh 6133,Dq1, .vh 6135,Dq1]),(6133,Oq7),(6135,lB)]⟩
def gZ:aN vw:=shL [(0,n4)] tG
def jC:Nat->Bool:=λk=>match k with|2000044=>true|3000215=>true|3000226=>true|3000258=>true|3000302=>true|3000331=>true|5000167=>true|5000193=>true|5000269=>true|5000287=>true|_=>false
def c7:Sig vw:={params:=[Dq3,Dq1,SI,Dq1,Dq4, .ag [.inl (.int .i64), .inl (.int .i64), .inl (.int .i64), .inr 100000, .inl (.int .i64), .inr 100001, .inl (.int .i64)]],objs:=[(100000,Oq7),(100001,lB)],rcut:=tG,rvars:=[.cell 12 65, .cell 13 68],keep:=[6133,6135]}
abbrev Tq9:=(List aB)×Int×(List Item)×Int×Bool×Int×Int×Int×Int×Int×Int×Item×Log×(List Item)×(List Int)×(List Item)×Unit
abbrev Mm:=(List aB)×Int×Int×Bool×Int×Int×Int×Int×Int×Item×Log×(List Item)×(List Int)×(List Item)×Unit
noncomputable def bM(v:Tq9):Option ((Mm)):=let c:=v.2.2;let a:=c.2.2.2;let b:=a.2.2.2.2.2;if decide (a.1<(↑c.1.length:Int))=true then if 0<=a.1 then c.1[a.1.toNat]?>>=λx1=>if 0<=a.1/\a.1<(↑b.2.2.2.1.length:Int)then b.2.2.2.1[a.1.toNat]?>>=λx2=>bM (v.1,v.2.1,c.1,c.2.1,c.2.2.1,i64.wrap (a.1+1),a.2.1,a.2.2.1,a.2.2.2.1,a.2.2.2.2.1,b.1,b.2.1,b.2.2.1,b.2.2.2.1.set a.1.toNat x1,b.2.2.2.2)else none else none else some (v.1,v.2.1,c.2.1,c.2.2.1,a.2) partial_fixpoint
abbrev Tq6:=(List aB)×Int×Int×Bool×Int×Int×Int×Int×Int×Int×Item×Log×(List Item)×(List Item)×(List Int)×(List Item)×Unit
abbrev Tq8:=Item×Int×Int×Int×Int×Int×(List Int)×(List Item)×Unit
abbrev Mn:=(List aB)×Int×(List Item)×Int×Bool×Int×Int×Int×Int×Int×(List Int)×(List Item)×Unit
mutual
noncomputable def aA(v:Tq6):Option ((Tq8)):=let d:=v.2.2;let c:=d.2.2.2.2;let e:=c.2.2;if(c.2.1==40000)=true then some ((Item.mk 0 false (aae #[]),(2:Int),c.1,c.2.1,e.1,e.2.1,e.2.2.2.2.2.2))else(if(d.1==1)=true then some ((v.1,v.2.1,d.1,d.2.1,d.2.2.1,d.2.2.2.1,c.1,i64.wrap (c.2.1+1),max e.1 (↑e.2.2.2.2.2.1.length:Int),e.2))else some ((v.1,v.2.1,d.1,d.2.1,d.2.2.1,d.2.2.2.1,c.1,i64.wrap (c.2.1+1),e)))>>=λx1=>let i:=x1.2;let g:=i.2.2.2;let j:=g.2.2;let f:=j.2.2.2;let k:=f.2.2;let h:=k.2.2.1;if 0<=i.1 then x1.1[i.1.toNat]?>>=λx2=>if 0<=g.1 then x2.code[g.1.toNat]?>>=λx3=>(if decide (i64.wrap ((↑h.length:Int) -1)>=0)=true then if 0<=i64.wrap ((↑h.length:Int) -1)/\i64.wrap ((↑h.length:Int) -1)<(↑h.length:Int)then h[(i64.wrap ((↑h.length:Int) -1)).toNat]?>>=λx4=>some ((x1.1,i.1,i.2.1,i.2.2.1,i64.wrap (g.1+1),i64.wrap ((↑h.length:Int) -1),g.2.1,j.1,j.2.1,j.2.2.1,f.1,f.2.1,k.1,k.2.1,h,x3,x4,k.2.2.2))else none else some ((x1.1,i.1,i.2.1,i.2.2.1,i64.wrap (g.1+1),i64.wrap ((↑h.length:Int) -1),g.2.1,j.1,j.2.1,j.2.2.1,f.1,f.2.1,k.1,k.2.1,h,x3,Item.mk 0 false (aae #[]),k.2.2.2)))>>=λx4=>let p:=x4.2.2;let m:=p.2.2.2;let r:=m.2.2;let l:=r.2.2.2;let o:=l.2.2.2.2;let q:=o.2.1;let s:=l.2.2.2.1;let t:=p.2.2.1;let u:=x4.2.1;let w:=o.1;let z:=p.2.1;let aa:=r.2.2.1;let ab:=l.2.2.1;let ac:=o.2.2.2;let G7:=(i64.wrap (m.1-1));let G5:=(x4.1,u,p.1,z,t,m.1,(0:Int),q.op,true,m.2);let G2:=(m.2.1,r.1,r.2.1,aa,l.1,l.2.1,ab,s.set q.a.toNat o.2.2.1,abr m.1.toNat w,o.2.2);let G12:=(x4.1,u,p.1,z,t,(0:Int),false,G2);(if(q.op==0)=true then QX (q.type0,q.a,())>>=λx5=>if w.length+[x5.1].length<=4294967296 then some (aaW (x4.1,u,p.1,z,t,(0:Int),m.2.1,r.1,r.2.1,aa,l.1,l.2.1,ab,s,w++[x5.1],ac))else none else if(q.op==1)=true then if w.length+[Item.mk 0 true (aae #[])].length<=4294967296 then some (aaW (x4.1,u,p.1,z,t,(0:Int),m.2.1,r.1,r.2.1,aa,l.1,l.2.1,ab,s,w++[Item.mk 0 true (aae #[])],ac))else none else if(q.op==18)=true then if w.length+[Item.mk 0 false q.name0].length<=4294967296 then some (aaW (x4.1,u,p.1,z,t,(0:Int),m.2.1,r.1,r.2.1,aa,l.1,l.2.1,ab,s,w++[Item.mk 0 false q.name0],ac))else none else if(q.op==2)=true then if 0<=q.a/\q.a<(↑s.length:Int)then s[q.a.toNat]?>>=λx5=>if w.length+[x5].length<=4294967296 then some (aaW (x4.1,u,p.1,z,t,(0:Int),m.2.1,r.1,r.2.1,aa,l.1,l.2.1,ab,s,w++[x5],ac))else none else none else if(q.op==3)=true then if 0<=q.a/\q.a<(↑s.length:Int)then s[q.a.toNat]?>>=λx5=>if 0<=m.1 then if m.1<=(↑w.length:Int)then(if(p.1==1)=true then if(l.1==q.a)=true then some ((x4.1,u,p.1,z,t,(0:Int),decide ((↑ac.2.1.length:Int)<100),G2))else some (G12)else some (G12))>>=λx6=>let af:=x6.2.2.2.2;let ad:=af.2.2.2.2.2;let ae:=ad.2.2.2.2.2;if af.2.2.1=true then if ae.2.2.2.2.1.length+[ae.2.2.1].length<=4294967296 then some (aaW (x6.1,x6.2.1,x6.2.2.1,x6.2.2.2.1,af.1,af.2.1,af.2.2.2.1,af.2.2.2.2.1,ad.1,ad.2.1,ad.2.2.1,ad.2.2.2.1,ad.2.2.2.2.1,ae.1,ae.2.1,ae.2.2.2.1,ae.2.2.2.2.1++[ae.2.2.1],()))else none else some (aaW (x6.1,x6.2.1,x6.2.2.1,x6.2.2.2.1,af.1,af.2.1,af.2.2.2.1,af.2.2.2.2.1,ad.1,ad.2.1,ad.2.2.1,ad.2.2.2.1,ad.2.2.2.2.1,ae.1,ae.2.1,ae.2.2.2))else none else none else none else if(q.op==4)=true then if 0<=m.1 then if m.1<=(↑w.length:Int)then some (aaW (x4.1,u,p.1,z,t,(0:Int),m.2.1,r.1,r.2.1,aa,l.1,l.2.1,ab,s,abr m.1.toNat w,ac))else none else none else if(q.op==5)=true then if 0<=i64.wrap (m.1-1)/\i64.wrap (m.1-1)<(↑w.length:Int)then w[G7.toNat]?>>=λx5=>QY (q.a,q.type0,x5,o.2.2.1,z,())>>=λx6=>if(0:Int)<=0/\0<=i64.wrap (m.1-1)/\i64.wrap (m.1-1)<=(↑w.length:Int)then if aaG 0+(G7.toNat-aaG 0)<=w.length then if 0+(G7.toNat-aaG 0)<=4294967296 then if([]++abr (G7.toNat-aaG 0) w).length+[x6.2.1].length<=4294967296 then some (aaW (x4.1,u,p.1,z,t,x6.1,m.2.1,r.1,r.2.1,aa,l.1,l.2.1,ab,s,[]++abr (G7.toNat-aaG 0) w++[x6.2.1],ac))else none else none else none else none else none else if(q.op==6)=true then if(0:Int)<=0/\0<=i64.wrap (m.1-1)/\i64.wrap (m.1-1)<=(↑w.length:Int)then if aaG 0+(G7.toNat-aaG 0)<=w.length then if 0+(G7.toNat-aaG 0)<=4294967296 then if 0<=i64.wrap (m.1-1)/\i64.wrap (m.1-1)<(↑w.length:Int)then w[G7.toNat]?>>=λx5=>QZ (q.a,x5,o.2.2.1,())>>=λx6=>if([]++abr (G7.toNat-aaG 0) w).length+[x6.1].length<=4294967296 then some (aaW (x4.1,u,p.1,z,t,(0:Int),m.2.1,r.1,r.2.1,aa,l.1,l.2.1,ab,s,[]++abr (G7.toNat-aaG 0) w++[x6.1],ac))else none else none else none else none else none else(if(q.op==7)=true then some (G5)else if(q.op==8)=true then some (G5)else if(q.op==9)=true then some (G5)else if(q.op==10)=true then some (G5)else some ((x4.1,u,p.1,z,t,m.1,(0:Int),q.op,q.op==11,m.2)))>>=λx5=>let ak:=x5.2.2;let ai:=ak.2.2.2;let aj:=ai.2.2.2.2;let ag:=aj.2.2.2;let al:=ag.2.2;let ah:=al.2.2.2;let am:=ah.1;let an:=ah.2;let ao:=ak.2.1;let ap:=ai.2.2.1;let G8:=(aj.1,aj.2.1,aj.2.2.1,ag.1,ag.2.1,an.2.2);let G4:=(i64.wrap ((↑am.length:Int) -an.1.b));let G3:=(ai.2.1,aj.1,aj.2.1,aj.2.2.1,ag.1,ag.2.1,al.1,al.2.1,al.2.2.1,abr ai.1.toNat am,an.2.2);let G10:=(x5.1,x5.2.1,ak.1,ao,an.1.a,G3);let G1:=(aj.1,aj.2.1,aj.2.2.1,ag.1,ag.2.1,al.1,al.2.1,al.2.2.1,am,an.2.2);let G11:=(x5.1,x5.2.1,ak.1,ao,ak.2.2.1,ai.2.1,G1);let G9:=(x5.1,x5.2.1,ak.1,ao,an.1.a,ai.2.1,G1);if ai.2.2.2.1=true then Q0 (an.1.op,an.1.type0,an.2.1,ao,())>>=λx6=>if(0:Int)<=0/\0<=ai.1/\ai.1<=(↑am.length:Int)then if aaG 0+(ai.1.toNat-aaG 0)<=am.length then if 0+(ai.1.toNat-aaG 0)<=4294967296 then if([]++abr (ai.1.toNat-aaG 0) am).length+[x6.2.1].length<=4294967296 then some (aaW (x5.1,x5.2.1,ak.1,ao,ak.2.2.1,x6.1,aj.1,aj.2.1,aj.2.2.1,ag.1,ag.2.1,al.1,al.2.1,al.2.2.1,[]++abr (ai.1.toNat-aaG 0) am++[x6.2.1],an.2.2))else none else none else none else none else if(ap==12)=true then if an.2.1.null=true then if 0<=ai.1 then if ai.1<=(↑am.length:Int)then some (aaW G10)else none else none else some (aaW G11)else if(ap==13)=true then if(!an.2.1.err.toList==(aae #[]).toList)=true then some (aaW G9)else some (aaW G11)else if(ap==14)=true then some (aaW G9)else if(ap==15)=true then if 0<=ai.1 then if ai.1<=(↑am.length:Int)then if(an.2.1.n==0)=true then some (aaW G10)else some (aaW (x5.1,x5.2.1,ak.1,ao,ak.2.2.1,G3))else none else none else if(ap==16)=true then(if 0<=i64.wrap ((↑am.length:Int) -an.1.b)/\i64.wrap ((↑am.length:Int) -an.1.b)<=(↑am.length:Int)/\(↑am.length:Int)<=(↑am.length:Int)then if G4.toNat+((↑am.length:Int).toNat-G4.toNat)<=am.length then if 0+((↑am.length:Int).toNat-G4.toNat)<=4294967296 then some ((x5.1,x5.2.1,ak.1,ao,ak.2.2.1,ai.2.1,[]++abr ((↑am.length:Int).toNat-G4.toNat) (acA G4.toNat am),aj.1,aj.2.1,aj.2.2.1,ag.1,ag.2.1,al.1,al.2.1,al.2.2.1,am,an.1,an.2.2))else none else none else none)>>=λx6=>let ar:=x6.2.2.2.2.2.2;let aq:=ar.2.2.2.2.2.2.2;let au:=aq.2.2;let G6:=(i64.wrap ((↑au.1.length:Int) -au.2.1.b));LL (x6.1,au.2.1.name0,())>>=λx7=>n_44s5ed9 (x6.1,x7.1,ar.1,i64.wrap (x6.2.2.1+1),x6.2.2.2.1,ar.2.1,ar.2.2.1,ar.2.2.2.1,ar.2.2.2.2.1,ar.2.2.2.2.2.1,au.2.2)>>=λx8=>if(x8.2.1 !=0)=true then some (abn (Item.mk 0 false (aae #[]),x8.2))else if(0:Int)<=0/\0<=i64.wrap ((↑au.1.length:Int) -au.2.1.b)/\i64.wrap ((↑au.1.length:Int) -au.2.1.b)<=(↑au.1.length:Int)then if aaG 0+(G6.toNat-aaG 0)<=au.1.length then if 0+(G6.toNat-aaG 0)<=4294967296 then if([]++abr (G6.toNat-aaG 0) au.1).length+[x8.1].length<=4294967296 then some (aaW (x6.1,x6.2.1,x6.2.2.1,x6.2.2.2.1,x6.2.2.2.2.1,x6.2.2.2.2.2.1,x8.2.1,x8.2.2.1,x8.2.2.2.1,x8.2.2.2.2.1,x8.2.2.2.2.2.1,ar.2.2.2.2.2.2.1,aq.1,aq.2.1,[]++abr (G6.toNat-aaG 0) au.1++[x8.1],x8.2.2.2.2.2.2))else none else none else none else none else if(ap==17)=true then some (abn (an.2.1,G8))else if(!ao)=true then some (abn (Item.mk 0 false (aae #[]),G8))else some (aaW (x5.1,x5.2.1,ak.1,ao,ak.2.2.1,an.1.a,G1)))>>=λx5=>match x5 with| .inl y5=>let ax:=y5.2.2;let av:=ax.2.2.2;let aw:=av.2.2.2;if(av.1 !=0)=true then some ((Item.mk 0 false (aae #[]),(1:Int),av.1,aw.1,aw.2.1,aw.2.2.1,aw.2.2.2.2.2.2.2))else if(ax.1==1)=true then aA (y5.1,y5.2.1,ax.1,ax.2.1,ax.2.2.1,av.2.1,av.2.2.1,aw.1,max aw.2.1 (↑aw.2.2.2.2.2.2.1.length:Int),aw.2.2)else aA (y5.1,y5.2.1,ax.1,ax.2.1,ax.2.2.1,av.2)| .inr y5=>some y5 else none else none partial_fixpoint
noncomputable def n_44s5ed9(v:Mn):Option (Tq8):=let d:=v.2.2.2;let a:=d.2.2.2;let b:=a.2.2.2.2.1;let c:=v.2.1;if decide (d.1>30)=true then some ((Item.mk 0 false (aae #[]),(2:Int),a))else if 0+b.length<=4294967296 then if 0<=c/\c<(↑([]++b).length:Int)then([]++b)[c.toNat]?>>=λx1=>if 0<=c/\c<(↑([]++b).length:Int)then([]++b)[c.toNat]?>>=λx2=>if 0<=c then v.1[c.toNat]?>>=λx3=>if 0<=x3.places then if x3.places<=4294967296 then bM (v.1,c,v.2.2.1,d.1,d.2.1,(0:Int),d.2.2.1,a.1,a.2.1,a.2.2.1,a.2.2.2.1,Item.mk 0 false (aae #[]),Log.mk (0:Int) (0:Int) (0:Int) [] (0:Int) [] (0:Int),aaA x3.places.toNat (Item.mk 0 false (aae #[])),([]++b).set c.toNat (i64.wrap (x1+1)),a.2.2.2.2.2)>>=λx4=>let e:=x4.2.2;((if(e.1==1)=true then some ((x4.1,x4.2.1,e.1,e.2.1,decide (e.2.2.2.2.2.2.1>=0),e.2.2))else some (x4.1,x4.2.1,e.1,e.2.1,false,e.2.2))>>=λx5=>let g:=x5.2.2.2;let f:=g.2.2.2.2.2.2;let h:=f.2.2.2;if g.2.1=true then if 0<=f.1/\f.1<(↑h.1.length:Int)then h.1[f.1.toNat]?>>=λx6=>if h.2.2.1.length+[x6].length<=4294967296 then some ((x5.1,x5.2.1,x5.2.2.1,g.1,g.2.2.1,g.2.2.2.1,g.2.2.2.2.1,g.2.2.2.2.2.1,f.1,f.2.1,f.2.2.1,h.1,h.2.1,h.2.2.1++[x6],()))else none else none else some (x5.1,x5.2.1,x5.2.2.1,g.1,g.2.2))>>=λx5=>let i:=x5.2.2.2.2.2.2;aA (x5.1,x5.2.1,x5.2.2.1,x5.2.2.2.1,(0:Int),x5.2.2.2.2.1,x5.2.2.2.2.2.1,i.1,i.2.1,i.2.2.1,i.2.2.2.1,i.2.2.2.2.1,i.2.2.2.2.2.1,[],i.2.2.2.2.2.2)>>=λx6=>some x6 else none else none else none else none else none else none partial_fixpoint
end
def g8(bM:Tq9->Option ((Mm)))(aA:Tq6->Option ((Tq8)))(n_44s5ed9:Mn->Option (Tq8)):dg vw:=λA fid args S k=>match fid with|36=>cu prog Sr LL A args S k|44=>cx prog c7 n_44s5ed9 A args S k|61=>cu prog Su QX A args S k|62=>cu prog Sv QY A args S k|63=>cu prog Sw QZ A args S k|64=>cu prog Sx Q0 A args S k|_=>none
def cA(bM:Tq9->Option ((Mm)))(aA:Tq6->Option ((Tq8)))(n_44s5ed9:Mn->Option (Tq8)):Xc vw:={P:=prog,n:=355,nm:=λd=>match d with|30=>40030|211=>40211|222=>40222|255=>40255|295=>40295|324=>40324|_=>d,call:=g8 bM aA n_44s5ed9,pre:=jC,sh:=gZ,joins:=λk=>match k with|13=>some (n4,[.norm])|21=>some (eN,[.norm])|27=>some (vZ,[.norm])|57=>some (v6,[.norm])|81=>some (v7,[.norm, .ret])|_=>none,regs:=λk=>match k with|11=>some v8|43=>some v_|73=>some wa|_=>none,loops:=λk=>match k with|8=>some {cut:=fC,alts:=[.exit 0],F:=bM}|15=>some {cut:=eN,alts:=[.ret],F:=aA}|_=>none}
abbrev gq(v:Tq9)(r:(Mm)):Prop:=(λv out=>∀C:Ctx,C.P=prog->C.N=355/\Fx C jC->pZ C (aS (aO Tryz.f44) 0) (Go.Tx.a_ vw (fk vw fC v)) (xX gZ [.exit 0] out)) v r
theorem tP(f0:Tq9->Option ((Mm)))(h0:∀v r,f0 v=some r->gq v r):bH prog (cA f0 (λ_=>none) (λ_=>none)).call:=(by
 intro A fid args S dst k r h
 unfold cA g8 at h
 simp only at h
 split at h
 ·exact aR (lQ) rfl rfl h
 ·exact aP ((λv r x h hx=>by cases h)) h
 ·exact aR (wY) rfl rfl h
 ·exact aR (wZ) rfl rfl h
 ·exact aR (w5) rfl rfl h
 ·exact aR (w6) rfl rfl h
 ·cases h)
theorem vf(f0:Tq9->Option ((Mm)))(h0:∀v r,f0 v=some r->gq v r)(v:Tq9)(r:(Mm))(h:exL (cA f0 (λ_=>none) (λ_=>none)) (aS (aO Tryz.f44) 0) fC [.exit 0] f0 v=some r):gq v r:=λC hP hN=>gN (X:=cA f0 (λ_=>none) (λ_=>none)) (b:=(aS (aO Tryz.f44) 0)) hP hN Ty.mixed (tP f0 h0) (eT (X:=cA f0 (λ_=>none) (λ_=>none)) (c:=(aS (aO Tryz.f44) 0)) (fG (by kernel_rfl:True=pY (e7 C (cA f0 (λ_=>none) (λ_=>none))) (cz (aS (aO Tryz.f44) 0))) trivial)) (cut:=fC) (alts:=[.exit 0]) (F:=f0) (λv out h=>h0 v out h C hP hN) h
theorem qj:∀v out,bM v=some out->(λv out=>∀C:Ctx,C.P=prog->C.N=355/\Fx C jC->pZ C (aS (aO Tryz.f44) 0) (Go.Tx.a_ vw (fk vw fC v)) (xX gZ [.exit 0] out)) v out:=(bM.partial_correctness (motive:=gq) (λf0 h0 v r h=>vf f0 h0 v r (fG (by kernel_rfl) h)))
abbrev dC(v:Tq6)(r:(Tq8)):Prop:=(λv out=>∀C:Ctx,C.P=prog->C.N=355/\Fx C jC->pZ C (aS (aO Tryz.f44) 1) (Go.Tx.a_ vw (fk vw eN v)) (xX gZ [.ret] out)) v r
abbrev gQ(v:Mn)(r:Tq8):Prop:=(λv r=>∀x,GD prog c7 r=some x->mb prog 44 (encL vw (cC c7 v).len (d7 c7 v).1) (eP (cC c7 v).len (cC c7 v).own) (aL vw (fk vw c7.rcut r).len x) (eP (fk vw c7.rcut r).len (qf c7 r))) v r
theorem sa(f0:Tq6->Option ((Tq8)))(f1:Mn->Option (Tq8))(h0:∀v r,f0 v=some r->dC v r)(h1:∀v r,f1 v=some r->gQ v r):bH prog (cA (λ_=>none) f0 f1).call:=(by
 intro A fid args S dst k r h
 unfold cA g8 at h
 simp only at h
 split at h
 ·exact aR (lQ) rfl rfl h
 ·exact aP ((λv r x h hx=>h1 v r h x hx)) h
 ·exact aR (wY) rfl rfl h
 ·exact aR (wZ) rfl rfl h
 ·exact aR (w5) rfl rfl h
 ·exact aR (w6) rfl rfl h
 ·cases h)
theorem s8(f0:Tq6->Option ((Tq8)))(f1:Mn->Option (Tq8))(h0:∀v r,f0 v=some r->dC v r)(h1:∀v r,f1 v=some r->gQ v r)(v:Tq6)(r:(Tq8))(h:exL (cA (λ_=>none) f0 f1) (aS (aO Tryz.f44) 1) eN [.ret] f0 v=some r):dC v r:=λC hP hN=>gN (X:=cA (λ_=>none) f0 f1) (b:=(aS (aO Tryz.f44) 1)) hP hN Ty.mixed (sa f0 f1 h0 h1) (eT (X:=cA (λ_=>none) f0 f1) (c:=(aS (aO Tryz.f44) 1)) (fG (by kernel_rfl:True=pY (e7 C (cA (λ_=>none) f0 f1)) (cz (aS (aO Tryz.f44) 1))) trivial)) (cut:=eN) (alts:=[.ret]) (F:=f0) (λv out h=>h0 v out h C hP hN) h
theorem Ao(f0:Tq6->Option ((Tq8)))(h0:∀v r,f0 v=some r->dC v r):bH prog (cA bM f0 (λ_=>none)).call:=(by
 intro A fid args S dst k r h
 unfold cA g8 at h
 simp only at h
 split at h
 ·exact aR (lQ) rfl rfl h
 ·exact aP ((λv r x h hx=>by cases h)) h
 ·exact aR (wY) rfl rfl h
 ·exact aR (wZ) rfl rfl h
 ·exact aR (w5) rfl rfl h
 ·exact aR (w6) rfl rfl h
 ·cases h)
theorem BO(f0:Tq6->Option ((Tq8)))(h0:∀v r,f0 v=some r->dC v r)(v:Mn)(r:Tq8)(h:exF (cA bM f0 (λ_=>none)) c7 rfl (aO Tryz.f44) v=some r):gQ v r:=λx hx=>AA (X:=cA bM f0 (λ_=>none)) (sig:=c7) rfl Tryz.func44 (c:=aO Tryz.f44) (by kernel_rfl) Tryz.ntmps44 (by kernel_rfl) (by kernel_rfl) rfl Ty.mixed (Ao f0 h0) rfl (λC hP hN=>(eT (X:=cA bM f0 (λ_=>none)) (c:=(aO Tryz.f44)) (fG (by kernel_rfl:pY (e7 C (cA bM f0 (λ_=>none))) [(aS (aO Tryz.f44) 0),(aS (aO Tryz.f44) 1)]=pY (e7 C (cA bM f0 (λ_=>none))) (cz (aO Tryz.f44))) ⟨iY (X:=cA bM f0 (λ_=>none)) (b:=(aS (aO Tryz.f44) 0)) (by kernel_rfl) (show gD C (aS (aO Tryz.f44) 0) (sh:=gZ) {cut:=fC,alts:=[.exit 0],F:=bM}fromλv out h=>qj v out h C hP hN),iY (X:=cA bM f0 (λ_=>none)) (b:=(aS (aO Tryz.f44) 1)) (by kernel_rfl) (show gD C (aS (aO Tryz.f44) 1) (sh:=gZ) {cut:=eN,alts:=[.ret],F:=f0}fromλv out h=>h0 v out h C hP hN),trivial⟩))) h x hx
theorem m_:(∀v r,aA v=some r->dC v r)/\(∀v r,n_44s5ed9 v=some r->gQ v r):=by
 refine aA.mutual_partial_correctness
  (motive_1:=dC)
  (motive_2:=gQ)
  ?_ ?_
 ·exact(λf0 f1 h0 h1 v r h=>s8 f0 f1 h0 h1 v r (fG (by kernel_rfl) h))
 ·exact(λf0 h0 v r h=>BO f0 h0 v r (fG (by kernel_rfl) h))
theorem uw:aM prog 44 c7 n_44s5ed9:=λv r x h hx=>m_.2 v r h x hx
def Yf:aN vw:={rcut:=GP}
def VO:Sig vw:=sg [Tk] GP [.cell 2 65]
noncomputable def T6(v:aE×Unit):Option (Item×Unit):=some ((Item.mk v.1.n v.1.null v.1.err,()))
def x35:Xc vw:=mX prog 10 c0 Yf [] [] []
theorem NO:aM prog 35 VO T6:=fn0 x35 Tryz.func35 bT
def Qc:Cut SN:=⟨[(0,l_),(3, .vh 1003),(4,Dq1)],[(1003,lB)]⟩
def TF:Cut SN:=⟨[(3, .vh 1003)],[(1003,lB)]⟩
def WU:Cut SN:=⟨[(2,SI)],[]⟩
def Yn:aN vw:=shL [(0,TF)] WU
def VU:Sig vw:=sg [l_] WU [.tmp 2]
noncomputable def mn(v:(List aE)×Int×(List Item)×Unit):Option (((List Item)×Unit)):=if decide (v.2.1<(↑v.1.length:Int))=true then if 0<=v.2.1 then v.1[v.2.1.toNat]?>>=λx1=>T6 (x1,())>>=λx2=>if v.2.2.1.length+[x2.1].length<=4294967296 then mn (v.1,i64.wrap (v.2.1+1),v.2.2.1++[x2.1],())else none else none else some (v.2.2) partial_fixpoint
noncomputable def S2(v:(List aE)×Unit):Option ((List Item)×Unit):=mn (v.1,(0:Int),[],())>>=λx1=>some (x1)
def Dh:=kP NO k0
def x45:Xc vw:=mX prog 20 Dh.1 Yn [] [] [(3,⟨Qc,[.exit 0],mn⟩)]
theorem EK:gh x45 (aS (aO Tryz.f45) 0) ⟨Qc,[.exit 0],mn⟩:=lp0 mn.partial_correctness Dh.2
theorem NS:aM prog 45 VU S2:=fn1 x45 Tryz.func45 Dh.2 EK
def WS:Cut SN:=⟨[(10, .bp 10 0),(11, .bp 11 0)],[(10, .st .itemT),(11, .st .logT)]⟩
def Yd:aN vw:={rcut:=WS}
def Ua:Nat->Bool:=λk=>match k with|1000023=>true|2000044=>true|_=>false
def VM:Sig vw:=sg [Dq3,Dq5,l_,Dq4,Dq1] WS [.cell 10 65, .cell 11 68]
noncomputable def O6(v:(List aB)×ByteArray×(List aE)×Bool×Int×Unit):Option (Item×Log×Unit):=LL (v.1,v.2.1,())>>=λx1=>S2 (v.2.2.1,())>>=λx2=>if(↑v.1.length:Int)<=4294967296 then n_44s5ed9 (v.1,x1.1,x2.1,(1:Int),v.2.2.2.1,(0:Int),(0:Int),(0:Int),(0:Int),v.2.2.2.2.1,aaA (↑v.1.length:Int).toNat (0:Int),[],())>>=λx3=>let a:=x3.2.2.2;some ((x3.1,Log.mk x3.2.1 x3.2.2.1 a.1 a.2.2.2.1 a.2.1 a.2.2.2.2.1 a.2.2.1,()))else none
def Ll:=kP lQ (kO uw (kP NS k0))
def x31:Xc vw:={P:=prog,n:=27,call:=Ll.1,pre:=Ua,sh:=Yd}
theorem EA:aM prog 31 VM O6:=fn0 x31 Tryz.func31 Ll.2
def Ye:aN vw:={rcut:=Ab}
def VN:Sig vw:=sg [O0] Ab [.cell 2 31]
noncomputable def T5(v:Item×Unit):Option (aE×Unit):=some ((aE.mk (aF.mk (0:Int) (0:Int) (aae #[]) false false) v.1.n v.1.null v.1.err (aF.mk (0:Int) (0:Int) (aae #[]) false false),()))
def x34:Xc vw:=mX prog 10 c0 Ye [] [] []
theorem NM:aM prog 34 VN T5:=fn0 x34 Tryz.func34 bT
end Go.Proofs.YtcghbgmmgcljkaaGreatDoor
end
section
namespace Go.Proofs.YtcghbgmmgcljkaaGreatDoor
open Go.Awp Go.Tx
open IntKind (i64)
open Go.Proofs.Tryz (prog)
set_option maxHeartbeats 4000000
set_option maxRecDepth 100000
def P4:Cut SN:=⟨[(0,l_),(1,l_),(5,Dq1)],[]⟩
def X6:aN vw:=shL [(0,dX)] cV
def VE:Sig vw:=sg [l_,l_] cV [.tmp 4]
noncomputable def mg(v:(List aE)×(List aE)×Int×Unit):Option (((Bool×Unit)⊕(Unit))):=let a:=v.2.2.1;if decide (a<(↑v.1.length:Int))=true then if 0<=a then v.1[a.toNat]?>>=λx1=>if 0<=a then v.2.1[a.toNat]?>>=λx2=>if(!(Mp.ieq x1.type0.base x2.type0.base&&(Mp.ieq x1.type0.bits x2.type0.bits&&(Mp.seq x1.type0.name0 x2.type0.name0&&(Mp.beq x1.type0.opt x2.type0.opt&&(Mp.beq x1.type0.err x2.type0.err&&(Mp.ieq x1.n x2.n&&(Mp.beq x1.null x2.null&&(Mp.seq x1.err x2.err&&(Mp.ieq x1.of0.base x2.of0.base&&(Mp.ieq x1.of0.bits x2.of0.bits&&(Mp.seq x1.of0.name0 x2.of0.name0&&(Mp.beq x1.of0.opt x2.of0.opt&&Mp.beq x1.of0.err x2.of0.err)))))))))))))=true then some (aaW (false,()))else mg (v.1,v.2.1,i64.wrap (a+1),())else none else none else some (abn ()) partial_fixpoint
noncomputable def SR(v:(List aE)×(List aE)×Unit):Option (Bool×Unit):=if((↑v.1.length:Int) !=(↑v.2.1.length:Int))=true then some ((false,()))else mg (v.1,v.2.1,(0:Int),())>>=λx1=>match x1 with| .inl y1=>some y1| .inr y1=>some ((true,()))
def x17:Xc vw:=mX prog 26 c0 X6 [] [] [(4,⟨P4,[.ret, .exit 0],mg⟩)]
theorem Et:gh x17 (aS (aO Tryz.f17) 0) ⟨P4,[.ret, .exit 0],mg⟩:=lp0 mg.partial_correctness bT
theorem NF:aM prog 17 VE SR:=fn1 x17 Tryz.func17 bT Et
def X7:aN vw:={rcut:=O4}
def VF:Sig vw:=sg [Dq3,Dq5,l_] O4 [.tmp 6, .tmp 7]
noncomputable def SS(v:SK):Option (Int×Int×Unit):=O5 v>>=λx1=>if(x1.2.1 !=0)=true then some (((0:Int),x1.2))else NL (v.1,x1.1,v.2.2.1,true,(-1:Int),())>>=λx2=>some ((x2.2.2.2.2.1,(0:Int),()))
def Le:=kP wS (kO wT k0)
def x24:Xc vw:=mX prog 33 Le.1 X7 [] [] []
theorem NH:aM prog 24 VF SS:=fn0 x24 Tryz.func24 Le.2
def X8:aN vw:={rcut:=O4}
def VG:Sig vw:=sg [Dq3,Dq5,l_] O4 [.tmp 6, .tmp 7]
noncomputable def SU(v:SK):Option (Int×Int×Unit):=QT v>>=λx1=>if(x1.1 !=0)=true then some (((0:Int),x1))else O6 (v.1,v.2.1,v.2.2.1,true,(-1:Int),())>>=λx2=>some ((x2.2.1.high,(0:Int),()))
def Lf:=kP Ez (kP EA k0)
def x25:Xc vw:=mX prog 27 Lf.1 X8 [] [] []
theorem NI:aM prog 25 VG SU:=fn0 x25 Tryz.func25 Lf.2
def Ts:Cut SN:=⟨[(0,Dq3),(2,l_),(3,Dq1),(10,Dq1),(34,Dq4)],[]⟩
def SM:Cut SN:=⟨[(8,l_),(9,Dq1)],[]⟩
def X9:aN vw:={rcut:=SM}
def VH:Sig vw:=sg [Dq3,Dq5,l_,Dq1] SM [.tmp 8, .tmp 9]
abbrev WL:=(List aB)×ByteArray×(List aE)×Int×Unit
noncomputable def SV(v:WL):Option ((List aE)×Int×Unit):=let a:=v.2.2;O5 (v.1,v.2.1,a.1,())>>=λx1=>if(x1.2.1 !=0)=true then some ([],x1.2)else(if decide (a.2.1<0)=true then some ((v.1,a.1,a.2.1,x1.1,true,()))else if 0<=x1.1 then v.1[x1.1.toNat]?>>=λx2=>some ((v.1,a.1,a.2.1,x1.1,decide (a.2.1>=x2.places),()))else none)>>=λx2=>if x2.2.2.2.2.1=true then some (([],(1:Int),()))else NL (x2.1,x2.2.2.2.1,x2.2.1,true,x2.2.2.1,())>>=λx3=>some ((x3.2.2.2.2.2.2.2.1,(0:Int),()))
def Li:=kP wS (kO wT k0)
def x26:Xc vw:=mX prog 47 Li.1 X9 [] [(4,Ts)] []
theorem NJ:aM prog 26 VH SV:=fn0 x26 Tryz.func26 Li.2
def P6:Cut SN:=⟨[(12, .bp 12 0),(13, .vh 1013),(14,Dq1)],[(12, .st .logT),(1013,Oq2)]⟩
def Tu:Cut SN:=⟨[(0,Dq3),(1,Dq5),(2,l_),(3,Dq1),(34,Dq4)],[]⟩
def Tt:Cut SN:=⟨[(13, .vh 1013)],[(1013,Oq2)]⟩
def X_:aN vw:=shL [(0,Tt)] SM
def VI:Sig vw:=sg [Dq3,Dq5,l_,Dq1] SM [.tmp 8, .tmp 9]
noncomputable def kR(v:Int×Log×(List aE)×Unit):Option (((List aE)×Unit)):=if decide (v.1<(↑v.2.1.seen.length:Int))=true then if 0<=v.1 then v.2.1.seen[v.1.toNat]?>>=λx1=>T5 (x1,())>>=λx2=>if v.2.2.1.length+[x2.1].length<=4294967296 then kR (i64.wrap (v.1+1),v.2.1,v.2.2.1++[x2.1],())else none else none else some (v.2.2) partial_fixpoint
noncomputable def SW(v:WL):Option ((List aE)×Int×Unit):=let a:=v.2.2;QT (v.1,v.2.1,a.1,())>>=λx1=>if(x1.1 !=0)=true then some ([],x1)else(if decide (a.2.1<0)=true then some ((v.1,v.2.1,a.1,a.2.1,true,()))else LL (v.1,v.2.1,())>>=λx2=>if 0<=x2.1 then v.1[x2.1.toNat]?>>=λx3=>some ((v.1,v.2.1,a.1,a.2.1,decide (a.2.1>=x3.places),()))else none)>>=λx2=>if x2.2.2.2.2.1=true then some (([],(1:Int),()))else O6 (x2.1,x2.2.1,x2.2.2.1,true,x2.2.2.2.1,())>>=λx3=>kR ((0:Int),x3.2.1,[],())>>=λx4=>some ((x4.1,(0:Int),()))
def Dc:=kP Ez (kP EA (kP NM (kP lQ k0)))
def x27:Xc vw:=mX prog 60 Dc.1 X_ [] [(4,Tu)] [(9,⟨P6,[.exit 0],kR⟩)]
theorem Ey:gh x27 (aS (aO Tryz.f27) 0) ⟨P6,[.exit 0],kR⟩:=lp0 kR.partial_correctness Dc.2
theorem NK:aM prog 27 VI SW:=fn1 x27 Tryz.func27 Dc.2 Ey
def sh9:aN vw:=shL [(0,MQ)] eO
def YP:Sig vw:=sg [Dq3] eO [.tmp 2]
noncomputable def uE(v:SL):Option (((Bool×Unit)⊕((List aB)×Int×Unit))):=let a:=v.2.2.1;if decide (a<(↑v.1.length:Int))=true then if 0<=a then v.1[a.toNat]?>>=λx1=>if 0<=a then v.1[a.toNat]?>>=λx2=>if decide (x2.places>2000)=true then some (aaW (true,()))else uE (v.1,i64.wrap (v.2.1+(↑x1.code.length:Int)),i64.wrap (a+1),())else none else none else some (abn (v.1,v.2.1,())) partial_fixpoint
noncomputable def n_9(v:(List aB)×Unit):Option (Bool×Unit):=uE (v.1,(0:Int),(0:Int),())>>=λx1=>match x1 with| .inl y1=>some y1| .inr y1=>(if decide (y1.2.1>3000)=true then some ((true,()))else some ((decide ((↑y1.1.length:Int)>200),())))>>=λx2=>some (x2)
def x9:Xc vw:=mX prog 32 c0 sh9 [] [(8,eO)] [(3,⟨GW,[.ret, .exit 0],uE⟩)]
theorem I7:gh x9 (aS (aO Tryz.f9) 0) ⟨GW,[.ret, .exit 0],uE⟩:=lp0 uE.partial_correctness bT
theorem Q3:aM prog 9 YP n_9:=fn1 x9 Tryz.func9 bT I7
def sh8:aN vw:={rcut:=gG}
def YO:Sig vw:=sg [Dq3, .dat (.st .askedT),Dq1] gG [.tmp 6]
noncomputable def n_8(v:(List aB)×nP×Int×Unit):Option (Bool×Unit):=let G2:=(v.1,v.2.1.name0,v.2.1.args,());let G1:=(v.1,v.2.1.name0,v.2.1.args,v.2.2);n_9 (v.1,())>>=λx1=>if x1.1=true then QR ()>>=λx2=>some (x2)else SS G2>>=λx2=>SU G2>>=λx3=>SV G1>>=λx4=>SW G1>>=λx5=>(if(x2.1==x3.1)=true then if(x2.2.1==x3.2.1)=true then SR (x4.1,x5.1,())>>=λx6=>if x6.1=true then if(x4.2.1==x5.2.1)=true then QR ()>>=λx7=>some (x7)else some ((false,()))else some ((false,()))else some ((false,()))else some ((false,())))>>=λx6=>some (x6)
def Qy:=kP Q3 (kP Ns (kP NF (kP NH (kP NI (kP NJ (kP NK k0))))))
def x8:Xc vw:=mX prog 77 Qy.1 sh8 [] [(7,gG)] []
theorem Q2:aM prog 8 YO n_8:=fn0 x8 Tryz.func8 Qy.2
end Go.Proofs.YtcghbgmmgcljkaaGreatDoor
end
