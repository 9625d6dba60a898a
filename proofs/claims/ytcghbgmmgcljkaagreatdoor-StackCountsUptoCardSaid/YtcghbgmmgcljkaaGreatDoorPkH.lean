/-
  Texts of this claim, joined by a program of mine: what the theorem uses.
-/
import Derived.Test.YtcghbgmmgcljkaaGreatDoorPkF
import Derived.Test.YtcghbgmmgcljkaaGreatDoorPkC
import Derived.Test.YtcghbgmmgcljkaaGreatDoorPkG
open Bool renaming false_eq_true→Z5
open ByteArray renaming mk→Z4
open Int renaming emod_lt_of_pos→acj,emod_nonneg→abV,mul_tdiv_cancel_left→ac7,natCast_zero→aar,pow_succ→adA,toNat→aav
open List renaming drop→acp,mapM→acG,replicate→aap,take→abg
open Nat renaming pow_le_pow_right→abw
open Option renaming bind_eq_bind→Z6,bind_some→Z3
open Sum renaming inl→aaL,inr→abc
noncomputable section
set_option linter.unusedVariables false
set_option linter.unusedSimpArgs false
section
namespace Go.Proofs.YtcghbgmmgcljkaaGreatDoor
open Go.Awp Go.Tx
open IntKind (i64)
open Go.Proofs.Tryz (prog)
set_option maxHeartbeats 4000000
set_option maxRecDepth 100000
def eM:Cut SN:=⟨[(0, .bp 100000 0),(2, .sv 100001 13),(8, .bp 8 0),(9, .bp 45 0),(10, .bp 10 0)],[(100000, .box none [Dq3,Dq4,Dq1, .vh 100002,Dq1, .vh 3005,Dq1,Dq6]),(100001,Oq2),(8, .st .myValueT),(45, .box none [.bp 100000 0,Dq5,Dq1,Dq1,Dq1,Dq1,Dq5,Dq4,Dq4,Dq8, .vh 3460, .vh 3461,Dq1,Dq1,Dq9]),(10, .bar 20 .fno),(100002,Oq7),(3005,Oq2),(3460,Oq2),(3461,Oq2)]⟩
def qy:Cut SN:=⟨[(0, .bp 100000 0),(2, .sv 100001 13),(8, .bp 8 0),(9, .bp 45 0)],[(100000, .box none [Dq3,Dq4,Dq1, .vh 100002,Dq1, .vh 3005,Dq1,Dq6]),(100001,Oq2),(8, .st .myValueT),(45, .box none [.bp 100000 0,Dq5,Dq1,Dq1,Dq1,Dq1,Dq5,Dq4,Dq4,Dq8, .vh 3460, .vh 3461,Dq1,Dq1,Dq9]),(100002,Oq7),(3005,Oq2),(3460,Oq2),(3461,Oq2)]⟩
def Ad:Cut SN:=⟨[(0, .bp 100000 0),(2, .sv 100001 13),(3,Dq1),(8, .bp 8 0),(9, .bp 45 0)],[(100000, .box none [Dq3,Dq4,Dq1, .vh 100002,Dq1, .vh 100003,Dq1,Dq6]),(100001,Oq2),(8, .st .myValueT),(45, .box none [.bp 100000 0,Dq5,Dq1,Dq1,Dq1,Dq1,Dq5,Dq4,Dq4,Dq8, .vh 3460, .vh 3461,Dq1,Dq1,Dq9]),(100002,Oq7),(100003,Oq2),(3460,Oq2),(3461,Oq2)]⟩
def Ae:Cut SN:=⟨[(0, .bp 100000 0),(2, .sv 100001 13),(8, .bp 8 0),(9, .bp 45 0),(60,Dq4)],[(100000, .box none [Dq3,Dq4,Dq1, .vh 100002,Dq1, .vh 100003,Dq1,Dq6]),(100001,Oq2),(8, .st .myValueT),(45, .box none [.bp 100000 0,Dq5,Dq1,Dq1,Dq1,Dq1,Dq5,Dq4,Dq4,Dq8, .vh 3460, .vh 3461,Dq1,Dq1,Dq9]),(100002,Oq7),(100003,Oq2),(3460,Oq2),(3461,Oq2)]⟩
def tC:Cut SN:=⟨[(0, .bp 100000 0),(2, .sv 100001 13),(8, .bp 8 0)],[(100000, .box none [Dq3,Dq4,Dq1, .vh 100002,Dq1, .vh 3005,Dq1,Dq6]),(100001,Oq2),(100002,Oq7),(3005,Oq2),(8, .st .myValueT)]⟩
def pI:aN vw:=shL [(0,qy)] tC
def c7:Sig vw:={params:=[.bp 100000 0,Dq1, .sv 100001 13,Dq1],objs:=[(100000, .box none [Dq3,Dq4,Dq1, .vh 100002,Dq1, .vh 100003,Dq1,Dq6]),(100001,Oq2),(100002,Oq7),(100003,Oq2)],rcut:=tC,rvars:=[.cell 8 31],keep:=[100000,100001,100002,3005]}
def F3:aN vw:={rcut:=kf}
def Bi:Nat->Bool:=λk=>match k with|3000023=>true|3000030=>true|8000059=>true|_=>false
def dm:Sig vw:={params:=[.bp 100000 0,l_],objs:=[(100000, .box none [.bp 100001 0,Dq5,Dq1,Dq1,Dq1,Dq1,Dq5,Dq4,Dq4,Dq8, .vh 100002, .vh 100003,Dq1,Dq1,Dq9]),(100001, .box none [Dq3,Dq4,Dq1, .vh 100004,Dq1, .vh 100005,Dq1,Dq6]),(100002,Oq2),(100003,Oq2),(100004,Oq7),(100005,Oq2)],rcut:=kf,rvars:=[],keep:=[100000,100001,100002,3011,100004,3015]}
abbrev Tq3:=Int×Int×(List aB)×Bool×Int×Int×Int×(Option bX)×(List aE)×aE×ByteArray×Int×Int×Int×Int×ByteArray×Bool×Bool×(List aQ)×Int×Int×(Option aE)×(List (Option Nat))×(List Int)×(List aE)×(List aE)×(List aE)×Unit
abbrev Tq5:=Int×Int×(List aB)×Bool×Int×Int×Int×(Option bX)×(List aE)×(List Int)×(List aE)×aE×Unit
abbrev Tq4:=Int×Int×(List aB)×Bool×Int×Int×Int×(Option bX)×(List aE)×aE×ByteArray×Int×Int×Int×Int×ByteArray×Bool×Bool×(List aQ)×Int×Int×(Option aE)×(List Int)×(List aE)×(List aE)×(List aE)×Unit
abbrev Tq7:=Int×Int×Int×Int×(List aB)×Bool×Int×Int×Int×(Option bX)×(List aE)×(List Int)×(List aE)×Unit
mutual
noncomputable def aX(v:Tq3):Option (((Tq5)⊕(Tq4))):=let p:=v.2.2;let e:=p.2.2;let q:=e.2.2;let b:=q.2.2;let j:=b.2.2.2.2;let c:=j.2.2.2.2;let k:=c.2.2.2.2;let a:=k.2.2;let d:=a.2.2;let f:=a.2.1;let g:=v.2.1;let h:=d.2.1;let i:=b.2.1;let l:=v.1;let m:=b.1;let n:=a.1;let o:=d.1;let G2:=(f,o,());if k.2.1.isNone=true then if(e.1==40000)=true then d_ ((2:Int),(0:Int),p.1,p.2.1,e.1,e.2.1,q.1,q.2.1,G2)>>=λx1=>let r:=x1.2.2.2.2;if r.2.2.1.length=f.length then if r.2.2.2.1.length=o.length then some (aaL ((↑l.toNat:Int),(↑g.toNat:Int),x1.1,x1.2.1,x1.2.2.1,x1.2.2.2.1,r.1,r.2.1,m,r.2.2.1,r.2.2.2.1,aE.mk (aF.mk (0:Int) (0:Int) (Z4 #[]) false false) (0:Int) false (Z4 #[]) (aF.mk (0:Int) (0:Int) (Z4 #[]) false false),()))else none else none else if 0<=k.1 then c.2.2.1[k.1.toNat]?>>=λx1=>let G1:=(x1,b.2.2.1,b.2.2.2.1,j.1,j.2.1,j.2.2.1,j.2.2.2.1,c.1,c.2.1,c.2.2.1,c.2.2.2.1,i64.wrap (k.1+1),k.2.1,p.1,p.2.1,i64.wrap (e.1+1),e.2.1,q.1,q.2.1,h,d.2.2.1,G2);(if 0<=x1.op/\x1.op<(↑(20:Nat):Int)then if x1.op.toNat<(20:Nat)then n[x1.op.toNat]?>>=λx2=>(x2:Option (Nat))>>=λx3=>if x3=(52:Nat)then none else if x3=(53:Nat)then none else if x3=(77:Nat)then fL G1>>=λx4=>let t:=x4.2.2.2.2.2.2;let s:=t.2.2.2.2.2.2;let u:=s.2.2.2.2.2.2;if u.1.length=h.length then if u.2.2.1.length=f.length then if u.2.2.2.1.length=o.length then some (((↑l.toNat:Int),(↑g.toNat:Int),s.1,s.2.1,s.2.2.1,s.2.2.2.1,s.2.2.2.2.1,s.2.2.2.2.2.1,m,i,x4.1,x4.2.1,x4.2.2.1,x4.2.2.2.1,x4.2.2.2.2.1,x4.2.2.2.2.2.1,t.1,t.2.1,t.2.2.1,t.2.2.2.1,t.2.2.2.2.1,t.2.2.2.2.2.1,n,u.2.2.1,u.2.2.2.1,u.1,u.2.1,()))else none else none else none else if x3=(78:Nat)then fM G1>>=λx4=>let z:=x4.2.2.2.2.2.2;let w:=z.2.2.2.2.2.2;let aa:=w.2.2.2.2.2.2;if aa.1.length=h.length then if aa.2.2.1.length=f.length then if aa.2.2.2.1.length=o.length then some (((↑l.toNat:Int),(↑g.toNat:Int),w.1,w.2.1,w.2.2.1,w.2.2.2.1,w.2.2.2.2.1,w.2.2.2.2.2.1,m,i,x4.1,x4.2.1,x4.2.2.1,x4.2.2.2.1,x4.2.2.2.2.1,x4.2.2.2.2.2.1,z.1,z.2.1,z.2.2.1,z.2.2.2.1,z.2.2.2.2.1,z.2.2.2.2.2.1,n,aa.2.2.1,aa.2.2.2.1,aa.1,aa.2.1,()))else none else none else none else if x3=(79:Nat)then fN G1>>=λx4=>let ad:=x4.2.2.2.2.2.2;let ab:=ad.2.2.2.2.2.2;let ac:=ab.2.2.2.2.2.2;if ac.1.length=h.length then if ac.2.2.1.length=f.length then if ac.2.2.2.1.length=o.length then some (((↑l.toNat:Int),(↑g.toNat:Int),ab.1,ab.2.1,ab.2.2.1,ab.2.2.2.1,ab.2.2.2.2.1,ab.2.2.2.2.2.1,m,i,x4.1,x4.2.1,x4.2.2.1,x4.2.2.2.1,x4.2.2.2.2.1,x4.2.2.2.2.2.1,ad.1,ad.2.1,ad.2.2.1,ad.2.2.2.1,ad.2.2.2.2.1,ad.2.2.2.2.2.1,n,ac.2.2.1,ac.2.2.2.1,ac.1,ac.2.1,()))else none else none else none else if x3=(80:Nat)then fO G1>>=λx4=>let ag:=x4.2.2.2.2.2;let ae:=ag.2.2.2.2.2.2;let af:=ae.2.2.2.2.2.2;if af.2.1.length=h.length then if af.2.2.2.1.length=f.length then some (((↑l.toNat:Int),(↑g.toNat:Int),ae.2.1,ae.2.2.1,ae.2.2.2.1,ae.2.2.2.2.1,ae.2.2.2.2.2.1,af.1,m,i,x4.1,x4.2.1,x4.2.2.1,x4.2.2.2.1,x4.2.2.2.2.1,ag.1,ag.2.1,ag.2.2.1,ag.2.2.2.1,ag.2.2.2.2.1,ag.2.2.2.2.2.1,ae.1,n,af.2.2.2.1,af.2.2.2.2.1,af.2.1,af.2.2.1,()))else none else none else if x3=(81:Nat)then fP G1>>=λx4=>let aj:=x4.2.2.2.2.2.2;let ah:=aj.2.2.2.2.2.2;let ai:=ah.2.2.2.2.2.2;if ai.1.length=h.length then if ai.2.2.1.length=f.length then if ai.2.2.2.1.length=o.length then some (((↑l.toNat:Int),(↑g.toNat:Int),ah.1,ah.2.1,ah.2.2.1,ah.2.2.2.1,ah.2.2.2.2.1,ah.2.2.2.2.2.1,m,i,x4.1,x4.2.1,x4.2.2.1,x4.2.2.2.1,x4.2.2.2.2.1,x4.2.2.2.2.2.1,aj.1,aj.2.1,aj.2.2.1,aj.2.2.2.1,aj.2.2.2.2.1,aj.2.2.2.2.2.1,n,ai.2.2.1,ai.2.2.2.1,ai.1,ai.2.1,()))else none else none else none else if x3=(82:Nat)then fQ G1>>=λx4=>let am:=x4.2.2.2.2.2.2;let ak:=am.2.2.2.2.2.2;let al:=ak.2.2.2.2.2.2;if al.1.length=h.length then if al.2.2.1.length=f.length then if al.2.2.2.1.length=o.length then some (((↑l.toNat:Int),(↑g.toNat:Int),ak.1,ak.2.1,ak.2.2.1,ak.2.2.2.1,ak.2.2.2.2.1,ak.2.2.2.2.2.1,m,i,x4.1,x4.2.1,x4.2.2.1,x4.2.2.2.1,x4.2.2.2.2.1,x4.2.2.2.2.2.1,am.1,am.2.1,am.2.2.1,am.2.2.2.1,am.2.2.2.2.1,am.2.2.2.2.2.1,n,al.2.2.1,al.2.2.2.1,al.1,al.2.1,()))else none else none else none else if x3=(83:Nat)then fR G1>>=λx4=>let ap:=x4.2.2.2.2.2.2;let an:=ap.2.2.2.2.2.2;let ao:=an.2.2.2.2.2.2;if ao.1.length=h.length then if ao.2.2.1.length=f.length then if ao.2.2.2.1.length=o.length then some (((↑l.toNat:Int),(↑g.toNat:Int),an.1,an.2.1,an.2.2.1,an.2.2.2.1,an.2.2.2.2.1,an.2.2.2.2.2.1,m,i,x4.1,x4.2.1,x4.2.2.1,x4.2.2.2.1,x4.2.2.2.2.1,x4.2.2.2.2.2.1,ap.1,ap.2.1,ap.2.2.1,ap.2.2.2.1,ap.2.2.2.2.1,ap.2.2.2.2.2.1,n,ao.2.2.1,ao.2.2.2.1,ao.1,ao.2.1,()))else none else none else none else if x3=(84:Nat)then fS G1>>=λx4=>let au:=x4.2.2.2.2.2.2;let aq:=au.2.2.2.2.2.2;let ar:=aq.2.2.2.2.2.2;if ar.1.length=h.length then if ar.2.2.1.length=f.length then if ar.2.2.2.1.length=o.length then some (((↑l.toNat:Int),(↑g.toNat:Int),aq.1,aq.2.1,aq.2.2.1,aq.2.2.2.1,aq.2.2.2.2.1,aq.2.2.2.2.2.1,m,i,x4.1,x4.2.1,x4.2.2.1,x4.2.2.2.1,x4.2.2.2.2.1,x4.2.2.2.2.2.1,au.1,au.2.1,au.2.2.1,au.2.2.2.1,au.2.2.2.2.1,au.2.2.2.2.2.1,n,ar.2.2.1,ar.2.2.2.1,ar.1,ar.2.1,()))else none else none else none else if x3=(85:Nat)then fT G1>>=λx4=>let ax:=x4.2.2.2.2.2.2;let av:=ax.2.2.2.2.2.2;let aw:=av.2.2.2.2.2.2;if aw.1.length=h.length then if aw.2.2.1.length=f.length then if aw.2.2.2.1.length=o.length then some (((↑l.toNat:Int),(↑g.toNat:Int),av.1,av.2.1,av.2.2.1,av.2.2.2.1,av.2.2.2.2.1,av.2.2.2.2.2.1,m,i,x4.1,x4.2.1,x4.2.2.1,x4.2.2.2.1,x4.2.2.2.2.1,x4.2.2.2.2.2.1,ax.1,ax.2.1,ax.2.2.1,ax.2.2.2.1,ax.2.2.2.2.1,ax.2.2.2.2.2.1,n,aw.2.2.1,aw.2.2.2.1,aw.1,aw.2.1,()))else none else none else none else if x3=(86:Nat)then fU G1>>=λx4=>let ba:=x4.2.2.2.2.2.2;let ay:=ba.2.2.2.2.2.2;let az:=ay.2.2.2.2.2.2;if az.1.length=h.length then if az.2.2.1.length=f.length then if az.2.2.2.1.length=o.length then some (((↑l.toNat:Int),(↑g.toNat:Int),ay.1,ay.2.1,ay.2.2.1,ay.2.2.2.1,ay.2.2.2.2.1,ay.2.2.2.2.2.1,m,i,x4.1,x4.2.1,x4.2.2.1,x4.2.2.2.1,x4.2.2.2.2.1,x4.2.2.2.2.2.1,ba.1,ba.2.1,ba.2.2.1,ba.2.2.2.1,ba.2.2.2.2.1,ba.2.2.2.2.2.1,n,az.2.2.1,az.2.2.2.1,az.1,az.2.1,()))else none else none else none else if x3=(87:Nat)then fV G1>>=λx4=>let bd:=x4.2.2.2.2.2.2;let bb:=bd.2.2.2.2.2.2;let bc:=bb.2.2.2.2.2.2;if bc.1.length=h.length then if bc.2.2.1.length=f.length then if bc.2.2.2.1.length=o.length then some (((↑l.toNat:Int),(↑g.toNat:Int),bb.1,bb.2.1,bb.2.2.1,bb.2.2.2.1,bb.2.2.2.2.1,bb.2.2.2.2.2.1,m,i,x4.1,x4.2.1,x4.2.2.1,x4.2.2.2.1,x4.2.2.2.2.1,x4.2.2.2.2.2.1,bd.1,bd.2.1,bd.2.2.1,bd.2.2.2.1,bd.2.2.2.2.1,bd.2.2.2.2.2.1,n,bc.2.2.1,bc.2.2.2.1,bc.1,bc.2.1,()))else none else none else none else if x3=(88:Nat)then fW G1>>=λx4=>let bg:=x4.2.2.2.2.2.2;let be:=bg.2.2.2.2.2.2;let bf:=be.2.2.2.2.2.2;if bf.1.length=h.length then if bf.2.2.1.length=f.length then if bf.2.2.2.1.length=o.length then some (((↑l.toNat:Int),(↑g.toNat:Int),be.1,be.2.1,be.2.2.1,be.2.2.2.1,be.2.2.2.2.1,be.2.2.2.2.2.1,m,i,x4.1,x4.2.1,x4.2.2.1,x4.2.2.2.1,x4.2.2.2.2.1,x4.2.2.2.2.2.1,bg.1,bg.2.1,bg.2.2.1,bg.2.2.2.1,bg.2.2.2.2.1,bg.2.2.2.2.2.1,n,bf.2.2.1,bf.2.2.2.1,bf.1,bf.2.1,()))else none else none else none else if x3=(89:Nat)then fX G1>>=λx4=>let bj:=x4.2.2.2.2.2.2;let bh:=bj.2.2.2.2.2.2;let bi:=bh.2.2.2.2.2.2;if bi.1.length=h.length then if bi.2.2.1.length=f.length then if bi.2.2.2.1.length=o.length then some (((↑l.toNat:Int),(↑g.toNat:Int),bh.1,bh.2.1,bh.2.2.1,bh.2.2.2.1,bh.2.2.2.2.1,bh.2.2.2.2.2.1,m,i,x4.1,x4.2.1,x4.2.2.1,x4.2.2.2.1,x4.2.2.2.2.1,x4.2.2.2.2.2.1,bj.1,bj.2.1,bj.2.2.1,bj.2.2.2.1,bj.2.2.2.2.1,bj.2.2.2.2.2.1,n,bi.2.2.1,bi.2.2.2.1,bi.1,bi.2.1,()))else none else none else none else if x3=(90:Nat)then fY G1>>=λx4=>let bm:=x4.2.2.2.2.2.2;let bk:=bm.2.2.2.2.2.2;let bl:=bk.2.2.2.2.2.2;if bl.1.length=h.length then if bl.2.1.length=d.2.2.1.length then if bl.2.2.1.length=f.length then if bl.2.2.2.1.length=o.length then some (((↑l.toNat:Int),(↑g.toNat:Int),bk.1,bk.2.1,bk.2.2.1,bk.2.2.2.1,bk.2.2.2.2.1,bk.2.2.2.2.2.1,m,i,x4.1,x4.2.1,x4.2.2.1,x4.2.2.2.1,x4.2.2.2.2.1,x4.2.2.2.2.2.1,bm.1,bm.2.1,bm.2.2.1,bm.2.2.2.1,bm.2.2.2.2.1,bm.2.2.2.2.2.1,n,bl.2.2.1,bl.2.2.2.1,bl.1,bl.2.1,()))else none else none else none else none else if x3=(91:Nat)then fZ G1>>=λx4=>let bp:=x4.2.2.2.2.2.2;let bn:=bp.2.2.2.2.2.2;let bo:=bn.2.2.2.2.2.2;if bo.1.length=h.length then if bo.2.1.length=d.2.2.1.length then if bo.2.2.1.length=f.length then if bo.2.2.2.1.length=o.length then some (((↑l.toNat:Int),(↑g.toNat:Int),bn.1,bn.2.1,bn.2.2.1,bn.2.2.2.1,bn.2.2.2.2.1,bn.2.2.2.2.2.1,m,i,x4.1,x4.2.1,x4.2.2.1,x4.2.2.2.1,x4.2.2.2.2.1,x4.2.2.2.2.2.1,bp.1,bp.2.1,bp.2.2.1,bp.2.2.2.1,bp.2.2.2.2.1,bp.2.2.2.2.2.1,n,bo.2.2.1,bo.2.2.2.1,bo.1,bo.2.1,()))else none else none else none else none else if x3=(92:Nat)then f5 G1>>=λx4=>let bs:=x4.2.2.2.2.2.2;let bq:=bs.2.2.2.2.2.2;let br:=bq.2.2.2.2.2.2;if br.1.length=h.length then if br.2.2.1.length=f.length then if br.2.2.2.1.length=o.length then some (((↑l.toNat:Int),(↑g.toNat:Int),bq.1,bq.2.1,bq.2.2.1,bq.2.2.2.1,bq.2.2.2.2.1,bq.2.2.2.2.2.1,m,i,x4.1,x4.2.1,x4.2.2.1,x4.2.2.2.1,x4.2.2.2.2.1,x4.2.2.2.2.2.1,bs.1,bs.2.1,bs.2.2.1,bs.2.2.2.1,bs.2.2.2.2.1,bs.2.2.2.2.2.1,n,br.2.2.1,br.2.2.2.1,br.1,br.2.1,()))else none else none else none else if x3=(93:Nat)then n_93sae8a G1>>=λx4=>let bv:=x4.2.2.2.2.2;let bt:=bv.2.2.2.2.2.2;let bu:=bt.2.2.2.2.2.2;if bu.2.1.length=h.length then if bu.2.2.2.1.length=f.length then some (((↑l.toNat:Int),(↑g.toNat:Int),bt.2.1,bt.2.2.1,bt.2.2.2.1,bt.2.2.2.2.1,bt.2.2.2.2.2.1,bu.1,m,i,x4.1,x4.2.1,x4.2.2.1,x4.2.2.2.1,x4.2.2.2.2.1,bv.1,bv.2.1,bv.2.2.1,bv.2.2.2.1,bv.2.2.2.2.1,bv.2.2.2.2.2.1,bt.1,n,bu.2.2.2.1,bu.2.2.2.2.1,bu.2.1,bu.2.2.1,()))else none else none else if x3=(94:Nat)then f6 G1>>=λx4=>let bz:=x4.2.2.2.2.2.2;let bw:=bz.2.2.2.2.2.2;let bx:=bw.2.2.2.2.2.2;if bx.1.length=h.length then if bx.2.2.1.length=f.length then if bx.2.2.2.1.length=o.length then some (((↑l.toNat:Int),(↑g.toNat:Int),bw.1,bw.2.1,bw.2.2.1,bw.2.2.2.1,bw.2.2.2.2.1,bw.2.2.2.2.2.1,m,i,x4.1,x4.2.1,x4.2.2.1,x4.2.2.2.1,x4.2.2.2.2.1,x4.2.2.2.2.2.1,bz.1,bz.2.1,bz.2.2.1,bz.2.2.2.1,bz.2.2.2.2.1,bz.2.2.2.2.2.1,n,bx.2.2.1,bx.2.2.2.1,bx.1,bx.2.1,()))else none else none else none else if x3=(95:Nat)then f8 G1>>=λx4=>let cc:=x4.2.2.2.2.2.2;let ca:=cc.2.2.2.2.2.2;let cb:=ca.2.2.2.2.2.2;if cb.1.length=h.length then if cb.2.2.1.length=f.length then if cb.2.2.2.1.length=o.length then some (((↑l.toNat:Int),(↑g.toNat:Int),ca.1,ca.2.1,ca.2.2.1,ca.2.2.2.1,ca.2.2.2.2.1,ca.2.2.2.2.2.1,m,i,x4.1,x4.2.1,x4.2.2.1,x4.2.2.2.1,x4.2.2.2.2.1,x4.2.2.2.2.2.1,cc.1,cc.2.1,cc.2.2.1,cc.2.2.2.1,cc.2.2.2.2.1,cc.2.2.2.2.2.1,n,cb.2.2.1,cb.2.2.2.1,cb.1,cb.2.1,()))else none else none else none else if x3=(96:Nat)then f_ G1>>=λx4=>let cf:=x4.2.2.2.2.2.2;let cd:=cf.2.2.2.2.2.2;let ce:=cd.2.2.2.2.2.2;if ce.1.length=h.length then if ce.2.1.length=d.2.2.1.length then if ce.2.2.1.length=f.length then if ce.2.2.2.1.length=o.length then some (((↑l.toNat:Int),(↑g.toNat:Int),cd.1,cd.2.1,cd.2.2.1,cd.2.2.2.1,cd.2.2.2.2.1,cd.2.2.2.2.2.1,m,i,x4.1,x4.2.1,x4.2.2.1,x4.2.2.2.1,x4.2.2.2.2.1,x4.2.2.2.2.2.1,cf.1,cf.2.1,cf.2.2.1,cf.2.2.2.1,cf.2.2.2.2.1,cf.2.2.2.2.2.1,n,ce.2.2.1,ce.2.2.2.1,ce.1,ce.2.1,()))else none else none else none else none else none else none else none)>>=λx2=>let cg:=x2.2.2.2.2.2;let ch:=cg.2.2.2.2.2.2.2.2.2.2.2.2.2.2.2.2.2.2;if cg.2.2.1.isSome=true then some (aaL ((↑x2.1.toNat:Int),(↑x2.2.1.toNat:Int),x2.2.2.1,x2.2.2.2.1,x2.2.2.2.2.1,cg.1,cg.2.1,cg.2.2.1,cg.2.2.2.1,ch.1,ch.2.1,aE.mk (aF.mk (0:Int) (0:Int) (Z4 #[]) false false) (0:Int) false (Z4 #[]) (aF.mk (0:Int) (0:Int) (Z4 #[]) false false),()))else aX ((↑x2.1.toNat:Int),(↑x2.2.1.toNat:Int),x2.2.2)else none else some (abc ((↑l.toNat:Int),(↑g.toNat:Int),p.1,p.2.1,e.1,e.2.1,q.1,q.2.1,m,i,b.2.2.1,b.2.2.2.1,j.1,j.2.1,j.2.2.1,j.2.2.2.1,c.1,c.2.1,c.2.2.1,c.2.2.2.1,k.1,k.2.1,a.2)) partial_fixpoint
noncomputable def n_93sae8a(v:Tq2):Option (Tq1):=let g:=v.2.2.2;let d:=g.2.2.2.2;let f:=d.2.2.2;let a:=f.2.2.2;let c:=a.2.2.2.2.2.2;let e:=c.2.1;let G2:=(i64.wrap ((↑e.length:Int) -v.1.b));if 0<=i64.wrap ((↑e.length:Int) -v.1.b)/\i64.wrap ((↑e.length:Int) -v.1.b)<=(↑e.length:Int)/\(↑e.length:Int)<=(↑e.length:Int)then if(0:Int)<=0/\0<=i64.wrap ((↑e.length:Int) -v.1.b)/\i64.wrap ((↑e.length:Int) -v.1.b)<=(↑e.length:Int)then LI (a.1,v.1.name0,())>>=λx1=>n_40s78a4 (x1.1,(↑G2.toNat:Int),(↑((↑e.length:Int).toNat-G2.toNat):Int),i64.wrap (f.1+1),a.1,a.2.1,a.2.2.1,a.2.2.2.1,a.2.2.2.2.1,a.2.2.2.2.2.1,c.2)>>=λx2=>let i:=x2.2.2.2;let h:=i.2.2.2.2;let G1:=(v.2.1,v.2.2.1,g.1,g.2.1,g.2.2.1,g.2.2.2.1,d.1,d.2.1,d.2.2.1,f.1,f.2.1,f.2.2.1,x2.2.2.1,i.1,i.2.1,i.2.2.1,i.2.2.2.1,h.1,c.1,abg (G2.toNat-aav 0) h.2.1,h.2.2.1,h.2.2.2.1,());if h.2.1.length=e.length then if h.2.2.1.length=c.2.2.1.length then if G2.toNat-aav 0<=h.2.1.length then if h.1.isNone=true then cL (h.2.2.2.2.1,G1)>>=λx3=>let j:=x3.2.2.2.2.2.2.2.2.2.2.2.2.2.2.2.2.2.2;if j.1.length=c.1.length then if j.2.2.1.length=h.2.2.1.length then if j.2.2.2.1.length=h.2.2.2.1.length then some (x3)else none else none else none else some (G1)else none else none else none else none else none partial_fixpoint
noncomputable def n_40s78a4(v:Tq7):Option (Tq5):=let b:=v.2.2.2;let a:=b.2.2.2.2;let c:=a.2.2.2.2;if decide (b.1>30)=true then d_ ((2:Int),(0:Int),b.2.1,b.2.2.1,b.2.2.2.1,a.1,a.2.1,a.2.2.1,c)>>=λx1=>let d:=x1.2.2.2.2;if d.2.2.1.length=c.1.length then if d.2.2.2.1.length=c.2.1.length then some (((↑v.2.1.toNat:Int),(↑v.2.2.1.toNat:Int),x1.1,x1.2.1,x1.2.2.1,x1.2.2.2.1,d.1,d.2.1,a.2.2.2.1,d.2.2.1,d.2.2.2.1,aE.mk (aF.mk (0:Int) (0:Int) (Z4 #[]) false false) (0:Int) false (Z4 #[]) (aF.mk (0:Int) (0:Int) (Z4 #[]) false false),()))else none else none else if 0<=v.1/\v.1<(↑c.1.length:Int)then c.1[v.1.toNat]?>>=λx1=>if 0<=v.1/\v.1<(↑c.1.length:Int)then c.1[v.1.toNat]?>>=λx2=>(if 0<=v.1 then b.2.1[v.1.toNat]?>>=λx3=>if 0<=v.1 then b.2.1[v.1.toNat]?>>=λx4=>if 0<=x4.places then if x4.places<=4294967296 then some (((↑v.2.1.toNat:Int),(↑v.2.2.1.toNat:Int),b.1,b.2.1,b.2.2.1,b.2.2.2.1,a.1,a.2.1,a.2.2.1,a.2.2.2.1,aE.mk (aF.mk (0:Int) (0:Int) (Z4 #[]) false false) (0:Int) false (Z4 #[]) (aF.mk (0:Int) (0:Int) (Z4 #[]) false false),x3.name0,x3.params,x3.places,x3.type0.base,x3.type0.bits,x3.type0.name0,x3.type0.opt,x3.type0.err,x3.code,b.1,(0:Int),none,c.1.set v.1.toNat (i64.wrap (x1+1)),c.2.1,aap x4.places.toNat (aE.mk (aF.mk (0:Int) (0:Int) (Z4 #[]) false false) (0:Int) false (Z4 #[]) (aF.mk (0:Int) (0:Int) (Z4 #[]) false false)),[],()))else none else none else none else none)>>=λx3=>let j:=x3.2;let g:=j.2.2.2.2;let e:=g.2.2.2.2;let h:=e.2.2.2.2;let f:=h.2.2.2.2.2;let i:=f.2.2.2.2;let G1:=(j.2.2.1,j.2.2.2.1,g.1,g.2.1,g.2.2.1,g.2.2.2.1,e.1,e.2.1,e.2.2.1,e.2.2.2.1,h.1,h.2.1,h.2.2.1,h.2.2.2.1,h.2.2.2.2.1,f.1,f.2.1,f.2.2.1,f.2.2.2.1,i.1,i.2.1,i.2.2.1,abg i.2.2.2.1.length (abg j.1.toNat (acp x3.1.toNat e.1))++acp j.1.toNat i.2.2.2.1,i.2.2.2.2);if x3.1.toNat+j.1.toNat<=e.1.length then((if(j.2.1==1)=true then some (((↑x3.1.toNat:Int),(↑j.1.toNat:Int),decide (g.2.1>=0),G1))else some (((↑x3.1.toNat:Int),(↑j.1.toNat:Int),false,G1)))>>=λx4=>let o:=x4.2.2.2;let l:=o.2.2.2;let n:=l.2.2.2.2;let k:=n.2.2.2.2;let q:=k.2.2.2;let m:=q.2.2.2.2;let p:=m.2.2.2;if x4.2.2.1=true then if 0<=l.1/\l.1<(↑p.2.1.length:Int)then p.2.1[l.1.toNat]?>>=λx5=>if p.1.length+[x5].length<=4294967296 then some (((↑x4.1.toNat:Int),(↑x4.2.1.toNat:Int),o.1,o.2.1,o.2.2.1,l.1,l.2.1,l.2.2.1,l.2.2.2.1,n.1,n.2.1,n.2.2.1,n.2.2.2.1,k.1,k.2.1,k.2.2.1,q.1,q.2.1,q.2.2.1,q.2.2.2.1,m.1,m.2.1,m.2.2.1,p.1++[x5],p.2))else none else none else some (((↑x4.1.toNat:Int),(↑x4.2.1.toNat:Int),o)))>>=λx4=>let s:=x4.2.2.2.2.2;let r:=s.2.2.2.2.2.2;let t:=r.2.2.2.2.2;QP ()>>=λx5=>aX ((↑x4.1.toNat:Int),(↑x4.2.1.toNat:Int),x4.2.2.1,x4.2.2.2.1,x4.2.2.2.2.1,s.1,s.2.1,s.2.2.1,s.2.2.2.1,s.2.2.2.2.1,s.2.2.2.2.2.1,r.1,r.2.1,r.2.2.1,r.2.2.2.1,r.2.2.2.2.1,t.1,t.2.1,t.2.2.1,t.2.2.2.1,t.2.2.2.2.1,t.2.2.2.2.2.1,x5.1,t.2.2.2.2.2.2)>>=λx6=>match x6 with| .inl y6=>some y6| .inr y6=>let w:=y6.2.2.2.2;let u:=w.2.2.2.2.2.2.2.2.2.2.2.2.2.2.2.2.2;(u.1:Option (aE))>>=λx7=>some (((↑y6.1.toNat:Int),(↑y6.2.1.toNat:Int),y6.2.2.1,y6.2.2.2.1,w.1,w.2.1,w.2.2.1,w.2.2.2.1,w.2.2.2.2.1,u.2.1,u.2.2.1,x7,()))else none else none else none partial_fixpoint
end
def jS(aX:Tq3->Option (((Tq5)⊕(Tq4))))(n_93sae8a:Tq2->Option (Tq1))(n_40s78a4:Tq7->Option (Tq5)):dh vw:=λA fid args S k=>if fid=52 then cx prog rm d_ A args S k else if fid=53 then ct prog Sm QP A args S k else if fid=77 then cx prog rn fL A args S k else if fid=78 then cx prog rq fM A args S k else if fid=79 then cx prog ru fN A args S k else if fid=80 then cx prog rv fO A args S k else if fid=81 then cx prog rx fP A args S k else if fid=82 then cx prog ry fQ A args S k else if fid=83 then cx prog rz fR A args S k else if fid=84 then cx prog rA fS A args S k else if fid=85 then cx prog rB fT A args S k else if fid=86 then cx prog rC fU A args S k else if fid=87 then cx prog rD fV A args S k else if fid=88 then cx prog rE fW A args S k else if fid=89 then cx prog rF fX A args S k else if fid=90 then cx prog rG fY A args S k else if fid=91 then cx prog rH fZ A args S k else if fid=92 then cx prog rI f5 A args S k else if fid=93 then cx prog dm n_93sae8a A args S k else if fid=94 then cx prog rJ f6 A args S k else if fid=95 then cx prog rK f8 A args S k else if fid=96 then cx prog rL f_ A args S k else none
def dN(aX:Tq3->Option (((Tq5)⊕(Tq4))))(n_93sae8a:Tq2->Option (Tq1))(n_40s78a4:Tq7->Option (Tq5)):Xc vw:={P:=prog,n:=138,call:=jS aX n_93sae8a n_40s78a4,pre:=Jo,sh:=pI,joins:=λk=>match k with|9=>some (qy,[.norm])|_=>none,regs:=λk=>match k with|5=>some Ad|7=>some Ae|17=>some eM|_=>none,loops:=λk=>match k with|10=>some {cut:=eM,alts:=[.ret, .exit 0],F:=aX}|_=>none}
def ou(aX:Tq3->Option (((Tq5)⊕(Tq4))))(n_93sae8a:Tq2->Option (Tq1))(n_40s78a4:Tq7->Option (Tq5)):dh vw:=λA fid args S k=>match fid with|39=>ct prog Sl LI A args S k|40=>cx prog c7 n_40s78a4 A args S k|120=>cx prog pJ cL A args S k|_=>none
def jF(aX:Tq3->Option (((Tq5)⊕(Tq4))))(n_93sae8a:Tq2->Option (Tq1))(n_40s78a4:Tq7->Option (Tq5)):Xc vw:={P:=prog,n:=70,call:=ou aX n_93sae8a n_40s78a4,pre:=Bi,sh:=F3}
abbrev dC(v:Tq3)(r:((Tq5)⊕(Tq4))):Prop:=(λv out=>∀C:Ctx,C.P=prog->C.N=138/\Fx C Jo->pX C (aS (aO Tryz.f40) 0) (Go.Tx.a_ vw (fk vw eM v)) (xV pI [.ret, .exit 0] out)) v r
abbrev gQ(v:Tq2)(r:Tq1):Prop:=(λv r=>∀x,GD prog dm r=some x->ma prog 93 (encL vw (cC dm v).len (d7 dm v).1) (eP (cC dm v).len (cC dm v).own) (aL vw (fk vw dm.rcut r).len x) (eP (fk vw dm.rcut r).len (qd dm r))) v r
abbrev gO(v:Tq7)(r:Tq5):Prop:=(λv r=>∀x,GD prog c7 r=some x->ma prog 40 (encL vw (cC c7 v).len (d7 c7 v).1) (eP (cC c7 v).len (cC c7 v).own) (aL vw (fk vw c7.rcut r).len x) (eP (fk vw c7.rcut r).len (qd c7 r))) v r
theorem r9(f0:Tq3->Option (((Tq5)⊕(Tq4))))(f1:Tq2->Option (Tq1))(h0:∀v r,f0 v=some r->dC v r)(h1:∀v r,f1 v=some r->gQ v r):bG prog (dN f0 f1 (λ_=>none)).call:=(by
 intro A fid args S dst k r h
 unfold dN jS at h
 simp only at h
 rcases bJ h with⟨e,h⟩|⟨e,h⟩
 ·subst e;exact aP (gu) h
 ·
  rcases bJ h with⟨e,h⟩|⟨e,h⟩
  ·subst e;exact aR (EN) rfl rfl h
  ·
   rcases bJ h with⟨e,h⟩|⟨e,h⟩
   ·subst e;exact aP (mt) h
   ·
    rcases bJ h with⟨e,h⟩|⟨e,h⟩
    ·subst e;exact aP (mu) h
    ·
     rcases bJ h with⟨e,h⟩|⟨e,h⟩
     ·subst e;exact aP (mv) h
     ·
      rcases bJ h with⟨e,h⟩|⟨e,h⟩
      ·subst e;exact aP (mw) h
      ·
       rcases bJ h with⟨e,h⟩|⟨e,h⟩
       ·subst e;exact aP (my) h
       ·
        rcases bJ h with⟨e,h⟩|⟨e,h⟩
        ·subst e;exact aP (mz) h
        ·
         rcases bJ h with⟨e,h⟩|⟨e,h⟩
         ·subst e;exact aP (mA) h
         ·
          rcases bJ h with⟨e,h⟩|⟨e,h⟩
          ·subst e;exact aP (mB) h
          ·
           rcases bJ h with⟨e,h⟩|⟨e,h⟩
           ·subst e;exact aP (mC) h
           ·
            rcases bJ h with⟨e,h⟩|⟨e,h⟩
            ·subst e;exact aP (mD) h
            ·
             rcases bJ h with⟨e,h⟩|⟨e,h⟩
             ·subst e;exact aP (mE) h
             ·
              rcases bJ h with⟨e,h⟩|⟨e,h⟩
              ·subst e;exact aP (mF) h
              ·
               rcases bJ h with⟨e,h⟩|⟨e,h⟩
               ·subst e;exact aP (mG) h
               ·
                rcases bJ h with⟨e,h⟩|⟨e,h⟩
                ·subst e;exact aP (mH) h
                ·
                 rcases bJ h with⟨e,h⟩|⟨e,h⟩
                 ·subst e;exact aP (mI) h
                 ·
                  rcases bJ h with⟨e,h⟩|⟨e,h⟩
                  ·subst e;exact aP (mJ) h
                  ·
                   rcases bJ h with⟨e,h⟩|⟨e,h⟩
                   ·subst e;exact aP ((λv r x h hx=>h1 v r h x hx)) h
                   ·
                    rcases bJ h with⟨e,h⟩|⟨e,h⟩
                    ·subst e;exact aP (mK) h
                    ·
                     rcases bJ h with⟨e,h⟩|⟨e,h⟩
                     ·subst e;exact aP (mL) h
                     ·
                      rcases bJ h with⟨e,h⟩|⟨e,h⟩
                      ·subst e;exact aP (mM) h
                      ·
                       cases h)
theorem s5(f0:Tq3->Option (((Tq5)⊕(Tq4))))(f1:Tq2->Option (Tq1))(h0:∀v r,f0 v=some r->dC v r)(h1:∀v r,f1 v=some r->gQ v r)(v:Tq3)(r:((Tq5)⊕(Tq4)))(h:exL (dN f0 f1 (λ_=>none)) (aS (aO Tryz.f40) 0) eM [.ret, .exit 0] f0 v=some r):dC v r:=λC hP hN=>gM (X:=dN f0 f1 (λ_=>none)) (b:=(aS (aO Tryz.f40) 0)) hP hN Ty.mixed (r9 f0 f1 h0 h1) (eT (X:=dN f0 f1 (λ_=>none)) (c:=(aS (aO Tryz.f40) 0)) (fG (by kernel_rfl:True=pW (e7 C (dN f0 f1 (λ_=>none))) (cz (aS (aO Tryz.f40) 0))) trivial)) (cut:=eM) (alts:=[.ret, .exit 0]) (F:=f0) (λv out h=>h0 v out h C hP hN) h
theorem An(f0:Tq7->Option (Tq5))(h0:∀v r,f0 v=some r->gO v r):bG prog (jF (λ_=>none) (λ_=>none) f0).call:=(by
 intro A fid args S dst k r h
 unfold jF ou at h
 simp only at h
 split at h
 ·exact aR (EE) rfl rfl h
 ·exact aP ((λv r x h hx=>h0 v r h x hx)) h
 ·exact aP (cI) h
 ·cases h)
theorem BO(f0:Tq7->Option (Tq5))(h0:∀v r,f0 v=some r->gO v r)(v:Tq2)(r:Tq1)(h:exF (jF (λ_=>none) (λ_=>none) f0) dm rfl (aO Tryz.f93) v=some r):gQ v r:=λx hx=>Ay (X:=jF (λ_=>none) (λ_=>none) f0) (sig:=dm) rfl Tryz.func93 (c:=aO Tryz.f93) (by kernel_rfl) Tryz.ntmps93 (by kernel_rfl) (by kernel_rfl) rfl Ty.mixed (An f0 h0) rfl (λC hP hN=>(eT (X:=jF (λ_=>none) (λ_=>none) f0) (c:=(aO Tryz.f93)) (fG (by kernel_rfl:True=pW (e7 C (jF (λ_=>none) (λ_=>none) f0)) (cz (aO Tryz.f93))) trivial))) h x hx
theorem Al(f0:Tq3->Option (((Tq5)⊕(Tq4))))(h0:∀v r,f0 v=some r->dC v r):bG prog (dN f0 (λ_=>none) (λ_=>none)).call:=(by
 intro A fid args S dst k r h
 unfold dN jS at h
 simp only at h
 rcases bJ h with⟨e,h⟩|⟨e,h⟩
 ·subst e;exact aP (gu) h
 ·
  rcases bJ h with⟨e,h⟩|⟨e,h⟩
  ·subst e;exact aR (EN) rfl rfl h
  ·
   rcases bJ h with⟨e,h⟩|⟨e,h⟩
   ·subst e;exact aP (mt) h
   ·
    rcases bJ h with⟨e,h⟩|⟨e,h⟩
    ·subst e;exact aP (mu) h
    ·
     rcases bJ h with⟨e,h⟩|⟨e,h⟩
     ·subst e;exact aP (mv) h
     ·
      rcases bJ h with⟨e,h⟩|⟨e,h⟩
      ·subst e;exact aP (mw) h
      ·
       rcases bJ h with⟨e,h⟩|⟨e,h⟩
       ·subst e;exact aP (my) h
       ·
        rcases bJ h with⟨e,h⟩|⟨e,h⟩
        ·subst e;exact aP (mz) h
        ·
         rcases bJ h with⟨e,h⟩|⟨e,h⟩
         ·subst e;exact aP (mA) h
         ·
          rcases bJ h with⟨e,h⟩|⟨e,h⟩
          ·subst e;exact aP (mB) h
          ·
           rcases bJ h with⟨e,h⟩|⟨e,h⟩
           ·subst e;exact aP (mC) h
           ·
            rcases bJ h with⟨e,h⟩|⟨e,h⟩
            ·subst e;exact aP (mD) h
            ·
             rcases bJ h with⟨e,h⟩|⟨e,h⟩
             ·subst e;exact aP (mE) h
             ·
              rcases bJ h with⟨e,h⟩|⟨e,h⟩
              ·subst e;exact aP (mF) h
              ·
               rcases bJ h with⟨e,h⟩|⟨e,h⟩
               ·subst e;exact aP (mG) h
               ·
                rcases bJ h with⟨e,h⟩|⟨e,h⟩
                ·subst e;exact aP (mH) h
                ·
                 rcases bJ h with⟨e,h⟩|⟨e,h⟩
                 ·subst e;exact aP (mI) h
                 ·
                  rcases bJ h with⟨e,h⟩|⟨e,h⟩
                  ·subst e;exact aP (mJ) h
                  ·
                   rcases bJ h with⟨e,h⟩|⟨e,h⟩
                   ·subst e;exact aP ((λv r x h hx=>by cases h)) h
                   ·
                    rcases bJ h with⟨e,h⟩|⟨e,h⟩
                    ·subst e;exact aP (mK) h
                    ·
                     rcases bJ h with⟨e,h⟩|⟨e,h⟩
                     ·subst e;exact aP (mL) h
                     ·
                      rcases bJ h with⟨e,h⟩|⟨e,h⟩
                      ·subst e;exact aP (mM) h
                      ·
                       cases h)
theorem BM(f0:Tq3->Option (((Tq5)⊕(Tq4))))(h0:∀v r,f0 v=some r->dC v r)(v:Tq7)(r:Tq5)(h:exF (dN f0 (λ_=>none) (λ_=>none)) c7 rfl (aO Tryz.f40) v=some r):gO v r:=λx hx=>Ay (X:=dN f0 (λ_=>none) (λ_=>none)) (sig:=c7) rfl Tryz.func40 (c:=aO Tryz.f40) (by kernel_rfl) Tryz.ntmps40 (by kernel_rfl) (by kernel_rfl) rfl Ty.mixed (Al f0 h0) rfl (λC hP hN=>(eT (X:=dN f0 (λ_=>none) (λ_=>none)) (c:=(aO Tryz.f40)) (fG (by kernel_rfl:pW (e7 C (dN f0 (λ_=>none) (λ_=>none))) [(aS (aO Tryz.f40) 0)]=pW (e7 C (dN f0 (λ_=>none) (λ_=>none))) (cz (aO Tryz.f40))) ⟨iY (X:=dN f0 (λ_=>none) (λ_=>none)) (b:=(aS (aO Tryz.f40) 0)) (by kernel_rfl) (show gD C (aS (aO Tryz.f40) 0) (sh:=pI) {cut:=eM,alts:=[.ret, .exit 0],F:=f0}fromλv out h=>h0 v out h C hP hN),trivial⟩))) h x hx
theorem m7:(∀v r,aX v=some r->dC v r)/\(∀v r,n_93sae8a v=some r->gQ v r)/\(∀v r,n_40s78a4 v=some r->gO v r):=by
 refine aX.mutual_partial_correctness
  (motive_1:=dC)
  (motive_2:=gQ)
  (motive_3:=gO)
  ?_ ?_ ?_
 ·exact(λf0 f1 h0 h1 v r h=>s5 f0 f1 h0 h1 v r (fG (by kernel_rfl) h))
 ·exact(λf0 h0 v r h=>BO f0 h0 v r (fG (by kernel_rfl) h))
 ·exact(λf0 h0 v r h=>BM f0 h0 v r (fG (by kernel_rfl) h))
theorem ut:aM prog 40 c7 n_40s78a4:=λv r x h hx=>m7.2.2 v r h x hx
def Tk:Cut SN:=⟨[(1,Dq1),(2,rU),(11, .bp 11 0),(12, .bp 21 0)],[(11, .st .outcomeT),(21, .box none [Dq3,Dq4,Dq1, .vh 3213,Dq1, .vh 3215,Dq1,Dq6]),(3213,Oq7),(3215,Oq2)]⟩
def WH:Cut SN:=⟨[(10, .bp 21 0),(11, .bp 11 0)],[(21, .box none [Dq3,Dq4,Dq1, .vh 3213,Dq1, .vh 3215,Dq1,Dq6]),(3213,Oq7),(3215,Oq2),(11, .st .outcomeT)]⟩
def X2:aN vw:={rcut:=WH}
def TY:Nat->Bool:=λk=>match k with|9000040=>true|_=>false
def VA:Sig vw:={params:=[Dq3,Dq1,rU,Dq4,Dq1],rcut:=WH,rvars:=[.tmp 10, .cell 11 34],keep:=[21,3213,3215]}
noncomputable def NH(v:(List aB)×Int×(List aE)×Bool×Int×Unit):Option ((List aB)×Bool×Int×Int×Int×(Option bX)×(List Int)×(List aE)×dQ×Unit):=(if(↑v.1.length:Int)<=4294967296 then some ((v.2.1,v.2.2.1,dQ.mk (0:Int) (aE.mk (aF.mk (0:Int) (0:Int) (Z4 #[]) false false) (0:Int) false (Z4 #[]) (aF.mk (0:Int) (0:Int) (Z4 #[]) false false)) (0:Int) [],v.1,v.2.2.2.1,(0:Int),v.2.2.2.2.1,(0:Int),none,aap (↑v.1.length:Int).toNat (0:Int),[],()))else none)>>=λx1=>let a:=x1.2.2.2.2.2;kS (x1.2.1,())>>=λx2=>n_40s78a4 (x1.1,(↑(0:Nat):Int),(↑x2.1.length:Int),(1:Int),x1.2.2.2.1,x1.2.2.2.2.1,a.1,a.2.1,a.2.2.1,a.2.2.2.1,x2.1,a.2.2.2.2)>>=λx3=>let c:=x3.2.2.2;let b:=c.2.2.2;let d:=b.2.2.2;if b.2.2.1.length=x2.1.length then if d.1.length=a.2.2.2.2.1.length then if b.2.1.isSome=true then(b.2.1:Option (bX))>>=λx4=>(b.2.1:Option (bX))>>=λx5=>some ((x3.2.2.1,c.1,c.2.1,c.2.2.1,b.1,b.2.1,d.1,d.2.1,dQ.mk x4.kind (aE.mk (aF.mk (0:Int) (0:Int) (Z4 #[]) false false) (0:Int) false (Z4 #[]) (aF.mk (0:Int) (0:Int) (Z4 #[]) false false)) x5.why [],()))else some ((x3.2.2.1,c.1,c.2.1,c.2.2.1,b.1,b.2.1,d.1,d.2.1,dQ.mk (0:Int) d.2.2.1 (0:Int) [],()))else none else none
def Lf:=kO ur (kO ut k0)
def x29:Xc vw:={P:=prog,n:=51,call:=Lf.1,pre:=TY,sh:=X2,regs:=λk=>match k with|1=>some Tk|_=>none}
theorem wR:aM prog 29 VA NH:=fn0 x29 Tryz.func29 Lf.2
def WF:Cut SN:=⟨[(8, .bp 8 0),(9,Dq1)],[(8, .st .outcomeT)]⟩
def XV:aN vw:={rcut:=WF}
def Vt:Sig vw:=sg [Dq3,Dq5,rU,Dq4] WF [.cell 8 34, .tmp 9]
abbrev O9:=(List aB)×ByteArray×(List aE)×Bool×Unit
noncomputable def QM(v:O9):Option (Int×dQ×Unit):=OX (v.1,v.2.1,v.2.2.1,())>>=λx1=>if(x1.2.1 !=0)=true then some ((x1.2.1,dQ.mk (0:Int) (aE.mk (aF.mk (0:Int) (0:Int) (Z4 #[]) false false) (0:Int) false (Z4 #[]) (aF.mk (0:Int) (0:Int) (Z4 #[]) false false)) (0:Int) [],()))else NH (v.1,x1.1,v.2.2.1,v.2.2.2.1,(-1:Int),())>>=λx2=>some (((0:Int),x2.2.2.2.2.2.2.2.2))
def La:=kP wQ (kO wR k0)
def x11:Xc vw:=mX prog 34 La.1 XV [] [] []
theorem Np:aM prog 11 Vt QM:=fn0 x11 Tryz.func11 La.2
def Mz:Cut SN:=⟨[(0,Dq4)],[]⟩
def XU:aN vw:={rcut:=Mz}
def Vs:Sig vw:=sg [] Mz [.tmp 0]
noncomputable def QL(v:Unit):Option (Bool×Unit):=let G2:=(false,());let G1:=(Z4 #[102]);QM ([aB.mk G1 (0:Int) (0:Int) (aF.mk (2:Int) (8:Int) (Z4 #[]) false false) [aQ.mk (0:Int) (200:Int) (0:Int) (aF.mk (2:Int) (8:Int) (Z4 #[]) false false) (Z4 #[]),aQ.mk (0:Int) (100:Int) (0:Int) (aF.mk (2:Int) (8:Int) (Z4 #[]) false false) (Z4 #[]),aQ.mk (5:Int) (5:Int) (0:Int) (aF.mk (2:Int) (8:Int) (Z4 #[]) false false) (Z4 #[]),aQ.mk (17:Int) (0:Int) (0:Int) (aF.mk (0:Int) (0:Int) (Z4 #[]) false false) (Z4 #[])]],G1,[],true,())>>=λx1=>QM ([aB.mk G1 (0:Int) (0:Int) (aF.mk (2:Int) (8:Int) (Z4 #[]) false false) [aQ.mk (0:Int) (200:Int) (0:Int) (aF.mk (2:Int) (8:Int) (Z4 #[]) false false) (Z4 #[]),aQ.mk (0:Int) (100:Int) (0:Int) (aF.mk (2:Int) (8:Int) (Z4 #[]) false false) (Z4 #[]),aQ.mk (5:Int) (5:Int) (0:Int) (aF.mk (2:Int) (8:Int) (Z4 #[]) false false) (Z4 #[]),aQ.mk (17:Int) (0:Int) (0:Int) (aF.mk (0:Int) (0:Int) (Z4 #[]) false false) (Z4 #[])]],G1,[],G2)>>=λx2=>(if(x1.2.1.kind==1)=true then if(x1.2.1.stop==1)=true then if(x1.1==0)=true then if(x2.2.1.value.n==44)=true then some ((x2.1==0,()))else some (G2)else some (G2)else some (G2)else some (G2))>>=λx3=>some (x3)
def K_:=kP Np k0
def x10:Xc vw:=mX prog 51 K_.1 XU [] [(5,Mz)] []
theorem Nn:aM prog 10 Vs QL:=fn0 x10 Tryz.func10 K_.2
def UQ:aN vw:={rcut:=iJ}
def RS:Sig vw:=sg [Dq1,Dq1,Dq1] iJ [.tmp 6]
noncomputable def En(v:Cg):Option (Bool×Unit):=(if decide (v.1>=v.2.1)=true then some ((decide (v.1<=v.2.2.1),()))else some ((false,())))>>=λx1=>some (x1)
def Zy:Xc vw:=mX prog 15 c0 UQ [] [(1,iJ)] []
theorem yV:aM prog 145 RS En:=fn0 Zy Tryz.func145 bT
def Vn:aN vw:={rcut:=eO}
def Sf:Sig vw:=sg [OU] eO [.tmp 2]
noncomputable def A4(v:Int×Unit):Option (Bool×Unit):=(if decide (v.1>=97)=true then if decide (v.1<=122)=true then some ((true,()))else if decide (v.1>=65)=true then if decide (v.1<=90)=true then some ((true,()))else some ((v.1==95,()))else some ((v.1==95,()))else if decide (v.1>=65)=true then if decide (v.1<=90)=true then some ((true,()))else some ((v.1==95,()))else some ((v.1==95,())))>>=λx1=>some (x1)
def ZZ:Xc vw:=mX prog 21 c0 Vn [] [(1,eO)] []
theorem y4:aM prog 187 Sf A4:=fn0 ZZ Tryz.func187 bT
def Vp:aN vw:={rcut:=eO}
def Sh:Sig vw:=sg [OU] eO [.tmp 2]
noncomputable def Ex(v:Int×Unit):Option (Bool×Unit):=(if decide (v.1>=48)=true then some ((decide (v.1<=57),()))else some ((false,())))>>=λx1=>some (x1)
def Z0:Xc vw:=mX prog 9 c0 Vp [] [(1,eO)] []
theorem y7:aM prog 189 Sh Ex:=fn0 Z0 Tryz.func189 bT
def K7:Cut SN:=⟨[(0,Dq5),(1,Dq1)],[]⟩
def PY:Cut SN:=⟨[(0,Dq5),(1,Dq1),(20,Dq4)],[]⟩
def Vo:aN vw:=shL [(0,K6)] bF
def Sg:Sig vw:=sg [Dq5,Dq1] bF [.tmp 4]
noncomputable def jb(v:ByteArray×Int×Unit):Option ((Int×Unit)):=let a:=v.2.1;(if decide (a<(↑v.1.size:Int))=true then if 0<=a then v.1[a.toNat]?>>=λx1=>A4 ((↑x1.toNat:Int),())>>=λx2=>if x2.1=true then some ((v.1,a,true,()))else if 0<=a then v.1[a.toNat]?>>=λx3=>Ex ((↑x3.toNat:Int),())>>=λx4=>some (v.1,a,x4)else none else none else some ((v.1,a,false,())))>>=λx1=>if x1.2.2.1=true then jb (x1.1,i64.wrap (x1.2.1+1),())else some ((x1.2.1,())) partial_fixpoint
noncomputable def A5(v:ByteArray×Int×Unit):Option (Int×Unit):=jb v>>=λx1=>some (x1)
def wk:=kP y4 (kP y7 k0)
def Xi:Xc vw:=mX prog 24 wk.1 Vo [] [(1,PY)] [(1,⟨K7,[.exit 0],jb⟩)]
theorem A6:gh Xi (aS (aO Tryz.f188) 0) ⟨K7,[.exit 0],jb⟩:=lp0 jb.partial_correctness wk.2
theorem I3:aM prog 188 Sg A5:=fn1 Xi Tryz.func188 wk.2 A6
def GV:Cut SN:=⟨[(0,KI)],[]⟩
def Vq:aN vw:={rcut:=GV}
def Si:Sig vw:=sg [] GV [.tmp 0]
noncomputable def I4(v:Unit):Option ((List ByteArray)×Unit):=some (([Z4 #[61,61],Z4 #[33,61],Z4 #[60,61],Z4 #[62,61],Z4 #[43,37],Z4 #[43,124],Z4 #[45,37],Z4 #[45,124],Z4 #[42,37],Z4 #[46,46],Z4 #[46,63],Z4 #[61,62],Z4 #[40],Z4 #[41],Z4 #[123],Z4 #[125],Z4 #[44],Z4 #[59],Z4 #[58],Z4 #[61],Z4 #[33],Z4 #[60],Z4 #[62],Z4 #[43],Z4 #[45],Z4 #[42],Z4 #[47],Z4 #[37],Z4 #[38],Z4 #[124],Z4 #[94],Z4 #[63],Z4 #[46]],()))
def Z1:Xc vw:=mX prog 2 c0 Vq [] [] []
theorem I5:aM prog 190 Si I4:=fn0 Z1 Tryz.func190 bT
def Cy:Cut SN:=⟨[(0,Dq5),(1,Dq1),(8,KI),(9,Dq1)],[]⟩
def PW:Cut SN:=⟨[(0,Dq5),(1,Dq1),(40,Dq4)],[]⟩
def MK:Cut SN:=⟨[(0,Dq5),(1,Dq1),(8,KI),(9,Dq1),(10,Dq1),(73,Dq4)],[]⟩
def PX:Cut SN:=⟨[(4,Dq1),(5,Dq1),(6,Dq4)],[]⟩
def Vc:aN vw:=shL [(1,dX)] PX
def Sc:Sig vw:=sg [Dq5,Dq1] PX [.tmp 4, .tmp 5, .tmp 6]
noncomputable def fz(v:ByteArray×Int×(List ByteArray)×Int×Unit):Option (((Int×Int×Bool×Unit)⊕(Unit))):=let a:=v.2.2.2.1;let b:=v.2.1;let c:=v.2.2.1;if decide (a<(↑c.length:Int))=true then if 0<=a then c[a.toNat]?>>=λx1=>(if decide (i64.wrap (b+(↑x1.size:Int))<=(↑v.1.size:Int))=true then if 0<=b/\b<=i64.wrap (b+(↑x1.size:Int))/\i64.wrap (b+(↑x1.size:Int))<=(↑v.1.size:Int)then if 0<=a then c[a.toNat]?>>=λx2=>some ((v.1,b,c,a,i64.wrap (b+(↑x1.size:Int)),(v.1.extract b.toNat (i64.wrap (b+(↑x1.size:Int))).toNat).toList==x2.toList,()))else none else none else some ((v.1,b,c,a,i64.wrap (b+(↑x1.size:Int)),false,())))>>=λx2=>if x2.2.2.2.2.2.1=true then some (aaL ((2:Int),x2.2.2.2.2.1,true,()))else fz (x2.1,x2.2.1,x2.2.2.1,i64.wrap (x2.2.2.2.1+1),())else none else some (abc ()) partial_fixpoint
noncomputable def AZ(v:ByteArray×Int×Unit):Option (Int×Int×Bool×Unit):=let a:=v.2.1;if 0<=a then v.1[a.toNat]?>>=λx1=>A4 ((↑x1.toNat:Int),())>>=λx2=>if x2.1=true then A5 v>>=λx3=>some (((0:Int),x3.1,true,()))else Ex ((↑x1.toNat:Int),())>>=λx3=>if x3.1=true then A5 v>>=λx4=>some (((1:Int),x4.1,true,()))else if((↑x1.toNat:Int)==64)=true then(if decide (i64.wrap (a+1)<(↑v.1.size:Int))=true then if 0<=i64.wrap (a+1)then v.1[(i64.wrap (a+1)).toNat]?>>=λx4=>A4 ((↑x4.toNat:Int),())>>=λx5=>some (v.1,a,x5)else none else some ((v.1,a,false,())))>>=λx4=>if x4.2.2.1=true then A5 (x4.1,i64.wrap (x4.2.1+1),())>>=λx5=>some (((3:Int),x5.1,true,()))else some (((0:Int),(0:Int),false,()))else I4 ()>>=λx4=>fz (v.1,a,x4.1,(0:Int),())>>=λx5=>match x5 with| .inl y5=>some y5| .inr y5=>some (((0:Int),(0:Int),false,()))else none
def wi:=kP y4 (kP I3 (kP y7 (kP I5 k0)))
def Xh:Xc vw:=mX prog 75 wi.1 Vc [] [(7,PW),(15,MK)] [(12,⟨Cy,[.ret, .exit 1],fz⟩)]
theorem wP:gh Xh (aS (aO Tryz.f173) 0) ⟨Cy,[.ret, .exit 1],fz⟩:=lp0 fz.partial_correctness wi.2
theorem II:aM prog 173 Sc AZ:=fn1 Xh Tryz.func173 wi.2 wP
abbrev Td:OPt SN:= .vec 193 (.st .tokenT)
def K1:Cut SN:=⟨[(0,Dq5),(5, .vh 1005),(6,Dq1)],[(1005,Td)]⟩
def PO:Cut SN:=⟨[(0,Dq5),(5, .vh 1005),(6,Dq1),(23,Dq4)],[(1005,Td)]⟩
def PN:Cut SN:=⟨[(5, .vh 1005)],[(1005,Td)]⟩
def PP:Cut SN:=⟨[(2, .dat (.sl (.st .tokenT))),(3,Dq1),(4,Dq4)],[]⟩
def U1:aN vw:=shL [(0,PN)] PP
def R3:Sig vw:=sg [Dq5] PP [.tmp 2, .tmp 3, .tmp 4]
noncomputable def fJ(v:ByteArray×Int×(List kb)×Unit):Option ((((List kb)×Int×Bool×Unit)⊕((List kb)×Unit))):=let a:=v.2.1;if decide (a<(↑v.1.size:Int))=true then(if 0<=a then v.1[a.toNat]?>>=λx1=>if((↑x1.toNat:Int)==32)=true then some (v.1,a,true,v.2.2)else if 0<=a then v.1[a.toNat]?>>=λx2=>some ((v.1,a,(↑x2.toNat:Int)==10,v.2.2))else none else none)>>=λx1=>let b:=x1.2.1;if x1.2.2.1=true then fJ (x1.1,i64.wrap (b+1),x1.2.2.2)else AZ (x1.1,b,())>>=λx2=>if(!x2.2.2.1)=true then some (aaL ([],b,false,()))else if 0<=b/\b<=x2.2.1/\x2.2.1<=(↑x1.1.size:Int)then if x1.2.2.2.1.length+[kb.mk x2.1 b (x1.1.extract b.toNat x2.2.1.toNat)].length<=4294967296 then fJ (x1.1,x2.2.1,x1.2.2.2.1++[kb.mk x2.1 b (x1.1.extract b.toNat x2.2.1.toNat)],())else none else none else some (abc v.2.2) partial_fixpoint
noncomputable def Nv(v:ByteArray×Unit):Option ((List kb)×Int×Bool×Unit):=fJ (v.1,(0:Int),[],())>>=λx1=>match x1 with| .inl y1=>some y1| .inr y1=>some ((y1.1,(0:Int),true,()))
def wc:=kP II k0
def Xd:Xc vw:=mX prog 48 wc.1 U1 [] [(4,PO)] [(3,⟨K1,[.ret, .exit 0],fJ⟩)]
theorem AR:gh Xd (aS (aO Tryz.f158) 0) ⟨K1,[.ret, .exit 0],fJ⟩:=lp0 fJ.partial_correctness wc.2
theorem Iw:aM prog 158 R3 Nv:=fn1 Xd Tryz.func158 wc.2 AR
def UF:aN vw:={rcut:=cD}
def RH:Sig vw:=sg [Dq1,Dq5] cD [.tmp 4]
noncomputable def Nq(v:Int×ByteArray×Unit):Option (Bool×Unit):=Nv v.2>>=λx1=>(if x1.2.2.1=true then if((↑x1.1.length:Int)==1)=true then x1.1[aav 0]?>>=λx2=>if(x2.kind==v.1)=true then x1.1[aav 0]?>>=λx3=>some ((x3.text.toList==v.2.1.toList,()))else some ((false,()))else some ((false,()))else some ((false,())))>>=λx2=>some (x2)
def CX:=kP Iw k0
def Zp:Xc vw:=mX prog 36 CX.1 UF [] [(2,cD)] []
theorem H8:aM prog 134 RH Nq:=fn0 Zp Tryz.func134 CX.2
def YA:aN vw:={rcut:=eO}
def V2:Sig vw:=sg [Dq5] eO [.tmp 2]
noncomputable def S3(v:ByteArray×Unit):Option (Bool×Unit):=Nq ((0:Int),v)>>=λx1=>some (x1)
def Lx:=kP H8 k0
def x97:Xc vw:=mX prog 5 Lx.1 YA [] [] []
theorem NZ:aM prog 97 V2 S3:=fn0 x97 Tryz.func97 Lx.2
def UG:aN vw:={rcut:=GV}
def RI:Sig vw:=sg [] GV [.tmp 0]
noncomputable def H9(v:Unit):Option ((List ByteArray)×Unit):=some (([Z4 #[102,110],Z4 #[99,111,110,115,116],Z4 #[118,97,114],Z4 #[99,111,109,112,116,105,109,101],Z4 #[114,101,116,117,114,110],Z4 #[101,114,114,111,114],Z4 #[105,102],Z4 #[101,108,115,101],Z4 #[119,104,105,108,101],Z4 #[102,111,114],Z4 #[105,110,108,105,110,101],Z4 #[115,119,105,116,99,104],Z4 #[100,101,102,101,114],Z4 #[101,114,114,100,101,102,101,114],Z4 #[98,114,101,97,107],Z4 #[99,111,110,116,105,110,117,101],Z4 #[103,105,118,101],Z4 #[117,110,114,101,97,99,104,97,98,108,101],Z4 #[116,114,117,101],Z4 #[102,97,108,115,101],Z4 #[97,110,100],Z4 #[111,114],Z4 #[116,114,121],Z4 #[99,97,116,99,104],Z4 #[111,114,101,108,115,101],Z4 #[100,111],Z4 #[118,111,105,100],Z4 #[98,111,111,108],Z4 #[116,121,112,101],Z4 #[95]],()))
def Zq:Xc vw:=mX prog 2 c0 UG [] [] []
theorem H_:aM prog 135 RI H9:=fn0 Zq Tryz.func135 bT
def Qp:Cut SN:=⟨[(0,Dq5),(3,KI),(4,Dq1)],[]⟩
def YB:aN vw:=shL [(0,dX)] eO
def V3:Sig vw:=sg [Dq5] eO [.tmp 2]
noncomputable def mN(v:ByteArray×(List ByteArray)×Int×Unit):Option (((Bool×Unit)⊕(Unit))):=if decide (v.2.2.1<(↑v.2.1.length:Int))=true then if 0<=v.2.2.1 then v.2.1[v.2.2.1.toNat]?>>=λx1=>if(x1.toList==v.1.toList)=true then some (aaL (true,()))else mN (v.1,v.2.1,i64.wrap (v.2.2.1+1),())else none else some (abc ()) partial_fixpoint
noncomputable def S4(v:ByteArray×Unit):Option (Bool×Unit):=H9 ()>>=λx1=>mN (v.1,x1.1,(0:Int),())>>=λx2=>match x2 with| .inl y2=>some y2| .inr y2=>some ((false,()))
def Di:=kP H_ k0
def x98:Xc vw:=mX prog 18 Di.1 YB [] [] [(3,⟨Qp,[.ret, .exit 0],mN⟩)]
theorem EV:gh x98 (aS (aO Tryz.f98) 0) ⟨Qp,[.ret, .exit 0],mN⟩:=lp0 mN.partial_correctness Di.2
theorem N0:aM prog 98 V3 S4:=fn1 x98 Tryz.func98 Di.2 EV
def JE:aN vw:=shL [(0,K5)] tA
def ix:Sig vw:=sg [Dq1,Dq1] tA [.tmp 4]
noncomputable def dF(v:xW):Option ((Int×ByteArray×Unit)):=let a:=v.2.1;let G2:=(i64.wrap (v.1.tmod a+1));let G1:=(Z4 #[48,49,50,51,52,53,54,55,56,57,97,98,99,100,101,102]);if decide (v.1>=a)=true then if a=0 then none else if a=0 then none else if 0<=v.1.tmod a/\v.1.tmod a<=i64.wrap (v.1.tmod a+1)/\i64.wrap (v.1.tmod a+1)<=(↑G1.size:Int)then if(G1.extract (v.1.tmod a).toNat G2.toNat).size+v.2.2.1.size<=4294967296 then if a=0 then none else dF (i64.wrap (v.1.tdiv a),a,G1.extract (v.1.tmod a).toNat G2.toNat++v.2.2.1,())else none else none else some (v.1,v.2.2) partial_fixpoint
noncomputable def qf(v:Int×Int×Unit):Option (ByteArray×Unit):=let G1:=(Z4 #[48,49,50,51,52,53,54,55,56,57,97,98,99,100,101,102]);if decide (v.1<0)=true then qf (i64.wrap ((0:Int) -v.1),v.2)>>=λx1=>if(Z4 #[45]).size+x1.1.size<=4294967296 then some ((Z4 #[45]++x1.1,()))else none else dF (v.1,v.2.1,Z4 #[],())>>=λx1=>if 0<=x1.1/\x1.1<=i64.wrap (x1.1+1)/\i64.wrap (x1.1+1)<=(↑G1.size:Int)then if(G1.extract x1.1.toNat (i64.wrap (x1.1+1)).toNat).size+x1.2.1.size<=4294967296 then some ((G1.extract x1.1.toNat (i64.wrap (x1.1+1)).toNat++x1.2.1,()))else none else none partial_fixpoint
def wj(dF:xW->Option ((Int×ByteArray×Unit)))(qf:Int×Int×Unit->Option (ByteArray×Unit)):dh vw:=λA fid args S k=>match fid with|174=>ct prog ix qf A args S k|_=>none
def zK(dF:xW->Option ((Int×ByteArray×Unit)))(qf:Int×Int×Unit->Option (ByteArray×Unit)):Xc vw:={P:=prog,n:=35,call:=wj dF qf,pre:=Jo,sh:=JE,loops:=λk=>match k with|4=>some {cut:=ir,alts:=[.exit 0],F:=dF}|_=>none}
abbrev nB(v:xW)(r:(Int×ByteArray×Unit)):Prop:=(λv out=>∀C:Ctx,C.P=prog->C.N=35/\Fx C Jo->pX C (aS (aO Tryz.f174) 0) (Go.Tx.a_ vw (fk vw ir v)) (xV JE [.exit 0] out)) v r
theorem G0(f0:xW->Option ((Int×ByteArray×Unit)))(h0:∀v r,f0 v=some r->nB v r):bG prog (zK f0 (λ_=>none)).call:=(by
 intro A fid args S dst k r h
 unfold zK wj at h
 simp only at h
 split at h
 ·exact aR ((λv r x h hx=>by cases h)) rfl rfl h
 ·cases h)
theorem JJ(f0:xW->Option ((Int×ByteArray×Unit)))(h0:∀v r,f0 v=some r->nB v r)(v:xW)(r:(Int×ByteArray×Unit))(h:exL (zK f0 (λ_=>none)) (aS (aO Tryz.f174) 0) ir [.exit 0] f0 v=some r):nB v r:=λC hP hN=>gM (X:=zK f0 (λ_=>none)) (b:=(aS (aO Tryz.f174) 0)) hP hN Ty.mixed (G0 f0 h0) (eT (X:=zK f0 (λ_=>none)) (c:=(aS (aO Tryz.f174) 0)) (fG (by kernel_rfl:True=pW (e7 C (zK f0 (λ_=>none))) (cz (aS (aO Tryz.f174) 0))) trivial)) (cut:=ir) (alts:=[.exit 0]) (F:=f0) (λv out h=>h0 v out h C hP hN) h
theorem A0:∀v out,dF v=some out->(λv out=>∀C:Ctx,C.P=prog->C.N=35/\Fx C Jo->pX C (aS (aO Tryz.f174) 0) (Go.Tx.a_ vw (fk vw ir v)) (xV JE [.exit 0] out)) v out:=(dF.partial_correctness (motive:=nB) (λf0 h0 v r h=>JJ f0 h0 v r (fG (by kernel_rfl) h)))
abbrev yN(v:Int×Int×Unit)(r:ByteArray×Unit):Prop:=(λv r=>∀x,GD prog ix r=some x->ma prog 174 (encL vw (cC ix v).len (d7 ix v).1) (eP (cC ix v).len (cC ix v).own) (aL vw (fk vw ix.rcut r).len x) (eP (fk vw ix.rcut r).len (qd ix r))) v r
theorem Qt(f0:Int×Int×Unit->Option (ByteArray×Unit))(h0:∀v r,f0 v=some r->yN v r):bG prog (zK dF f0).call:=(by
 intro A fid args S dst k r h
 unfold zK wj at h
 simp only at h
 split at h
 ·exact aR ((λv r x h hx=>h0 v r h x hx)) rfl rfl h
 ·cases h)
theorem Ss(f0:Int×Int×Unit->Option (ByteArray×Unit))(h0:∀v r,f0 v=some r->yN v r)(v:Int×Int×Unit)(r:ByteArray×Unit)(h:exF (zK dF f0) ix rfl (aO Tryz.f174) v=some r):yN v r:=λx hx=>Ay (X:=zK dF f0) (sig:=ix) rfl Tryz.func174 (c:=aO Tryz.f174) (by kernel_rfl) Tryz.ntmps174 (by kernel_rfl) (by kernel_rfl) rfl Ty.mixed (Qt f0 h0) rfl (λC hP hN=>(eT (X:=zK dF f0) (c:=(aO Tryz.f174)) (fG (by kernel_rfl:pW (e7 C (zK dF f0)) [(aS (aO Tryz.f174) 0)]=pW (e7 C (zK dF f0)) (cz (aO Tryz.f174))) ⟨iY (X:=zK dF f0) (b:=(aS (aO Tryz.f174) 0)) (by kernel_rfl) (show gD C (aS (aO Tryz.f174) 0) (sh:=JE) {cut:=ir,alts:=[.exit 0],F:=dF}fromλv out h=>A0 v out h C hP hN),trivial⟩))) h x hx
theorem IJ:aM prog 174 ix qf:=λv r x h hx=>(qf.partial_correctness (motive:=yN) (λf0 h0 v r h=>Ss f0 h0 v r (fG (by kernel_rfl) h))) v r h x hx
def GU:Cut SN:=⟨[(2,Dq5)],[]⟩
def U2:aN vw:={rcut:=GU}
def R4:Sig vw:=sg [Dq1] GU [.tmp 2]
noncomputable def Ix(v:Int×Unit):Option (ByteArray×Unit):=qf (v.1,(10:Int),())>>=λx1=>some (x1)
def C7:=kP IJ k0
def ZH:Xc vw:=mX prog 5 C7.1 U2 [] [] []
theorem Iy:aM prog 159 R4 Ix:=fn0 ZH Tryz.func159 C7.2
def UH:aN vw:={rcut:=GU}
def RJ:Sig vw:=sg [nd] GU [.tmp 2]
noncomputable def Ej(v:bB×Unit):Option (ByteArray×Unit):=if v.1.signed=true then Ix (v.1.bits,())>>=λx1=>if(Z4 #[105]).size+x1.1.size<=4294967296 then some ((Z4 #[105]++x1.1,()))else none else Ix (v.1.bits,())>>=λx1=>if(Z4 #[117]).size+x1.1.size<=4294967296 then some ((Z4 #[117]++x1.1,()))else none
def CY:=kP Iy k0
def Zr:Xc vw:=mX prog 13 CY.1 UH [] [] []
theorem Ia:aM prog 136 RJ Ej:=fn0 Zr Tryz.func136 CY.2
def Qq:Cut SN:=⟨[(0,Dq5),(2, .bp 2 0),(4,Dq1)],[(2, .st .myIntT)]⟩
def YC:aN vw:=shL [(0,vW)] GQ
def V4:Sig vw:=sg [Dq5] GQ [.cell 2 135, .tmp 3]
noncomputable def kX(v:ByteArray×Int×bB×Unit):Option (((Int×bB×Unit)⊕(bB×Unit))):=if decide (v.2.1<=31)=true then Ej (bB.mk false v.2.1,())>>=λx1=>if(x1.1.toList==v.1.toList)=true then some (aaL ((0:Int),bB.mk false v.2.1,()))else Ej (bB.mk true v.2.1,())>>=λx2=>if(x2.1.toList==v.1.toList)=true then some (aaL ((0:Int),bB.mk true v.2.1,()))else kX (v.1,i64.wrap (v.2.1+1),v.2.2)else some (abc v.2.2) partial_fixpoint
noncomputable def S5(v:ByteArray×Unit):Option (Int×bB×Unit):=kX (v.1,(1:Int),bB.mk false (0:Int),())>>=λx1=>match x1 with| .inl y1=>some y1| .inr y1=>some (((2:Int),bB.mk false (0:Int),()))
def Dj:=kP Ia k0
def x99:Xc vw:=mX prog 26 Dj.1 YC [] [] [(2,⟨Qq,[.ret, .exit 0],kX⟩)]
theorem EW:gh x99 (aS (aO Tryz.f99) 0) ⟨Qq,[.ret, .exit 0],kX⟩:=lp0 kX.partial_correctness Dj.2
theorem N1:aM prog 99 V4 S5:=fn1 x99 Tryz.func99 Dj.2 EW
def Yk:aN vw:={rcut:=eO}
def VQ:Sig vw:=sg [Dq5] eO [.tmp 2]
noncomputable def O1(v:ByteArray×Unit):Option (Bool×Unit):=(if decide ((↑v.1.size:Int)>8)=true then some ((v.1,true,()))else S3 v>>=λx1=>if(!x1.1)=true then some ((v.1,true,()))else S4 v>>=λx2=>some (v.1,x2))>>=λx1=>if x1.2.1=true then some ((false,()))else S5 (x1.1,())>>=λx2=>some ((x2.1 !=0,()))
def Ln:=kP NZ (kP N0 (kP N1 k0))
def x55:Xc vw:=mX prog 24 Ln.1 Yk [] [(1,Qi)] []
theorem wU:aM prog 55 VQ O1:=fn0 x55 Tryz.func55 Ln.2
def Px:Cut SN:=⟨[(1, .bp 1 0),(4,Dq1),(5,Dq4)],[(1, .st .myTypeT)]⟩
def UI:aN vw:={rcut:=eO}
def RK:Sig vw:=sg [vE] eO [.tmp 2]
noncomputable def Ib(v:aF×Unit):Option (Bool×Unit):=let G1:=(false,());(if(v.1.base==2)=true then some (v.1.base,true,v)else some (v.1.base,v.1.base==3,v))>>=λx1=>let a:=x1.2.2.1;if x1.2.1=true then(En (a.bits,(1:Int),(31:Int),())>>=λx2=>if x2.1=true then some ((a.name0.toList==(Z4 #[]).toList,()))else some (G1))>>=λx2=>some (x2)else if(x1.1==5)=true then(if(a.bits==0)=true then O1 (a.name0,())>>=λx2=>some (x2)else some (G1))>>=λx2=>some (x2)else if(x1.1==0)=true then(if(a.bits==0)=true then if(a.name0.toList==(Z4 #[]).toList)=true then some ((!a.opt,()))else some (G1)else some (G1))>>=λx2=>some (x2)else if(x1.1==4)=true then(if(a.bits==0)=true then if(a.name0.toList==(Z4 #[]).toList)=true then if(!a.opt)=true then some ((!a.err,()))else some (G1)else some (G1)else some (G1))>>=λx2=>some (x2)else(if(a.base==1)=true then if(a.bits==0)=true then some ((a.name0.toList==(Z4 #[]).toList,()))else some (G1)else some (G1))>>=λx2=>some (x2)
def CZ:=kP wU (kP yV k0)
def Zs:Xc vw:=mX prog 74 CZ.1 UI [(4,Px,[.norm])] [(4,eO),(6,eO),(8,eO),(10,eO),(11,eO)] []
theorem Ic:aM prog 137 RK Ib:=fn0 Zs Tryz.func137 CZ.2
def Ue:aN vw:={rcut:=nh}
def Re:Sig vw:=sg [vE] nh [.tmp 2]
noncomputable def Nm(v:aF×Unit):Option (Int×Unit):=Ib v>>=λx1=>if(!x1.1)=true then some (((1:Int),()))else some (((0:Int),()))
def CB:=kP Ic k0
def Y0:Xc vw:=mX prog 6 CB.1 Ue [] [] []
theorem HD:aM prog 100 Re Nm:=fn0 Y0 Tryz.func100 CB.2
def Cv:Cut SN:=⟨[(6,Dq1),(7,Dq4)],[]⟩
def Mx:Cut SN:=⟨[(6,Dq1),(10,Dq4)],[]⟩
def My:Cut SN:=⟨[(6,Dq1),(19,Dq4)],[]⟩
def Pg:Cut SN:=⟨[(2,Dq4),(3,Dq4),(4,Dq4),(5,Dq4)],[]⟩
def Uf:aN vw:={rcut:=Pg}
def Rf:Sig vw:=sg [Dq1] Pg [.tmp 2, .tmp 3, .tmp 4, .tmp 5]
noncomputable def HE(v:Int×Unit):Option (Bool×Bool×Bool×Bool×Unit):=let G1:=(true,());(if(v.1==0)=true then some (v.1,G1)else some ((v.1,v.1==5,())))>>=λx1=>let a:=x1.1;let G2:=(a,G1);if x1.2.1=true then some ((true,false,true,false,()))else(if(a==2)=true then some (G2)else if(a==3)=true then some (G2)else if(a==6)=true then some (G2)else if(a==12)=true then some (G2)else if(a==13)=true then some (G2)else if(a==14)=true then some (G2)else if(a==15)=true then some (G2)else some ((a,a==19,())))>>=λx2=>if x2.2.1=true then some ((true,false,false,false,()))else(if(x2.1==7)=true then some (x2.1,G1)else if(x2.1==9)=true then some (x2.1,G1)else some ((x2.1,x2.1==10,())))>>=λx3=>if x3.2.1=true then some ((false,false,true,false,()))else if(x3.1==16)=true then some (false,true,false,G1)else if(x3.1==18)=true then some (false,false,false,G1)else some ((false,false,false,false,()))
def Y1:Xc vw:=mX prog 27 c0 Uf [(4,Cv,[.norm]),(13,Mx,[.norm]),(17,My,[.norm])] [] []
theorem HF:aM prog 101 Rf HE:=fn0 Y1 Tryz.func101 bT
end Go.Proofs.YtcghbgmmgcljkaaGreatDoor
end
section
namespace Go.Proofs.YtcghbgmmgcljkaaGreatDoor
open Go.Awp Go.Tx
open IntKind (i64)
open Go.Proofs.Tryz (prog)
set_option maxHeartbeats 4000000
set_option maxRecDepth 100000
def Ym:aN vw:={rcut:=iJ}
def VS:Sig vw:=sg [Dq1,Dq1,Dq1] iJ [.tmp 6]
noncomputable def Cb(v:Cg):Option (Bool×Unit):=(if decide (v.1>=v.2.1)=true then some ((decide (v.1<=v.2.2.1),()))else some ((false,())))>>=λx1=>some (x1)
def x57:Xc vw:=mX prog 15 c0 Ym [] [(1,iJ)] []
theorem sO:aM prog 57 VS Cb:=fn0 x57 Tryz.func57 bT
def Ph:Cut SN:=⟨[(2, .bp 2 0),(3, .bp 3 0),(6,Dq1),(12,Dq4)],[(2, .st .myFuncT),(3, .st .myCodeT)]⟩
def Ug:aN vw:={rcut:=cD}
def Rg:Sig vw:=sg [Ce,l_] cD [.tmp 4]
noncomputable def iA(v:aB×aQ×Unit):Option (Bool×Unit):=if(v.2.1.op==0)=true then Cb (v.2.1.a,(-2147483648:Int),(2147483648:Int),())>>=λx1=>some (x1)else(if(v.2.1.op==2)=true then some (v.2.1.op,true,v)else some (v.2.1.op,v.2.1.op==3,v))>>=λx1=>let b:=x1.2.2.2.1;if x1.2.1=true then Cb (b.a,(0:Int),i64.wrap (x1.2.2.1.places-1),())>>=λx2=>some (x2)else if(x1.1==5)=true then Cb (b.a,(5:Int),(17:Int),())>>=λx2=>some (x2)else if(x1.1==6)=true then Cb (b.a,(18:Int),(23:Int),())>>=λx2=>some (x2)else if(x1.1==19)=true then Cb (b.a,(1:Int),(5:Int),())>>=λx2=>some (x2)else Cb (b.a,(0:Int),i64.wrap ((↑x1.2.2.1.code.length:Int) -1),())>>=λx2=>some (x2)
def CD:=kP sO k0
def Y2:Xc vw:=mX prog 43 CD.1 Ug [(6,Ph,[.norm])] [] []
theorem HG:aM prog 102 Rg iA:=fn0 Y2 Tryz.func102 CD.2
def Yn:aN vw:={rcut:=eO}
def VT:Sig vw:=sg [vE] eO [.tmp 2]
noncomputable def O2(v:aF×Unit):Option (Bool×Unit):=(Nm v>>=λx1=>if(x1.1==0)=true then some ((decide (v.1.base<=3),()))else some ((false,())))>>=λx1=>some (x1)
def Lo:=kP HD k0
def x58:Xc vw:=mX prog 11 Lo.1 Yn [] [(1,eO)] []
theorem wV:aM prog 58 VT O2:=fn0 x58 Tryz.func58 Lo.2
def Uh:aN vw:={rcut:=eO}
def Ri:Sig vw:=sg [vE] eO [.tmp 2]
noncomputable def HH(v:aF×Unit):Option (Bool×Unit):=(O2 v>>=λx1=>if x1.1=true then if(v.1.base==2)=true then if(!v.1.opt)=true then some ((!v.1.err,()))else some ((false,()))else if(v.1.base==3)=true then if(!v.1.opt)=true then some ((!v.1.err,()))else some ((false,()))else some ((false,()))else some ((false,())))>>=λx1=>some (x1)
def CE:=kP wV k0
def Y3:Xc vw:=mX prog 25 CE.1 Uh [] [(1,eO)] []
theorem HI:aM prog 103 Ri HH:=fn0 Y3 Tryz.func103 CE.2
def PA:Cut SN:=⟨[(1, .bp 1 0),(5,Dq1),(6,Dq4)],[(1, .st .myCodeT)]⟩
def MD:Cut SN:=⟨[(1, .bp 1 0),(5,Dq1),(11,Dq4)],[(1, .st .myCodeT)]⟩
def ME:Cut SN:=⟨[(1, .bp 1 0),(5,Dq1),(16,Dq4)],[(1, .st .myCodeT)]⟩
def MF:Cut SN:=⟨[(23,Dq4)],[]⟩
def GS:Cut SN:=⟨[(2,Dq1),(3,Dq1)],[]⟩
def UK:aN vw:={rcut:=GS}
def RM:Sig vw:=sg [l_] GS [.tmp 2, .tmp 3]
noncomputable def Ek(v:aQ×Unit):Option (Int×Int×Unit):=let G2:=((1:Int),());(if(v.1.op==0)=true then some (v.1.op,true,v)else if(v.1.op==1)=true then some (v.1.op,true,v)else if(v.1.op==2)=true then some (v.1.op,true,v)else some (v.1.op,v.1.op==18,v))>>=λx1=>let G1:=(x1.1,true,x1.2.2);if x1.2.1=true then some (((0:Int),G2))else(if(x1.1==3)=true then some (G1)else if(x1.1==4)=true then some (G1)else if(x1.1==15)=true then some (G1)else some (x1.1,x1.1==17,x1.2.2))>>=λx2=>if x2.2.1=true then some (((1:Int),(0:Int),()))else(if(x2.1==5)=true then some (x2.1,true,x2.2.2)else some (x2.1,x2.1==6,x2.2.2))>>=λx3=>if x3.2.1=true then some (((2:Int),G2))else if(x3.1==16)=true then some (x3.2.2.1.b,G2)else(if(x3.1==14)=true then some ((true,()))else some ((x3.1==19,())))>>=λx4=>if x4.1=true then some (((0:Int),(0:Int),()))else some (((1:Int),G2))
def Zu:Xc vw:=mX prog 26 c0 UK [(6,PA,[.norm]),(11,MD,[.norm]),(14,ME,[.norm]),(19,MF,[.norm])] [] []
theorem yS:aM prog 139 RM Ek:=fn0 Zu Tryz.func139 bT
def Uj:aN vw:={rcut:=iJ}
def Rk:Sig vw:=sg [Ce,Dq1,Dq1] iJ [.tmp 6]
noncomputable def Eg(v:aB×Int×Int×Unit):Option (Bool×Unit):=if 0<=v.2.1 then v.1.code[v.2.1.toNat]?>>=λx1=>Ek (x1,())>>=λx2=>Cb (v.2.2.1,x2.1,(64:Int),())>>=λx3=>some (x3)else none
def CF:=kP sO (kP yS k0)
def Y4:Xc vw:=mX prog 21 CF.1 Uj [] [] []
theorem yO:aM prog 105 Rk Eg:=fn0 Y4 Tryz.func105 CF.2
def Py:Cut SN:=⟨[(1,Dq1),(2,Dq1),(7, .bp 7 0),(10,Dq1),(27,Dq1),(35,Dq4)],[(7, .st .myCodeT)]⟩
def MC:Cut SN:=⟨[(1,Dq1),(2,Dq1),(7, .bp 7 0),(10,Dq1),(27,Dq1),(38,Dq4)],[(7, .st .myCodeT)]⟩
def Pz:Cut SN:=⟨[(6, .dat (.sl (.ar 2 (.int .i64))))],[]⟩
def UJ:aN vw:={rcut:=Pz}
def RL:Sig vw:=sg [Ce,Dq1,Dq1] Pz [.tmp 6]
noncomputable def Ie(v:aB×Int×Int×Unit):Option ((List (List Int))×Unit):=if 0<=v.2.1 then v.1.code[v.2.1.toNat]?>>=λx1=>Ek (x1,())>>=λx2=>let G1:=(i64.wrap (v.2.2.1-x2.1)+x2.2.1);if(x1.op==14)=true then some (([[x1.a,i64.wrap G1]],()))else(if(x1.op==17)=true then some ((v.2.1,v.2.2.1,i64.wrap G1,x1.op,true,x1,()))else some ((v.2.1,v.2.2.1,i64.wrap G1,x1.op,x1.op==19,x1,())))>>=λx3=>let b:=x3.2.2.2;if b.2.1=true then some (([],()))else(if(b.1==15)=true then some (x3.1,x3.2.1,x3.2.2.1,b.1,true,b.2.2)else some (x3.1,x3.2.1,x3.2.2.1,b.1,b.1==13,b.2.2))>>=λx4=>let c:=x4.2.2;if c.2.2.1=true then some (([[i64.wrap (x4.1+1),c.1],[c.2.2.2.1.a,c.1]],()))else if(c.2.1==12)=true then some (([[i64.wrap (x4.1+1),x4.2.1],[c.2.2.2.1.a,i64.wrap (x4.2.1-1)]],()))else some (([[i64.wrap (x4.1+1),c.1]],()))else none
def C0:=kP yS k0
def Zt:Xc vw:=mX prog 67 C0.1 UJ [(9,Py,[.norm]),(12,MC,[.norm])] [] []
theorem Ig:aM prog 138 RL Ie:=fn0 Zt Tryz.func138 C0.2
def KU:Cut SN:=⟨[(1, .bp 1 0),(4, .vh 1004),(5,Dq1)],[(1, .st .myFuncT),(1004, .maps 145 (.int .i64) .bool)]⟩
def Cw:Cut SN:=⟨[(1, .bp 1 0),(4, .vh 1004),(6, .vh 1006),(7, .vh 1007)],[(1, .st .myFuncT),(1004, .maps 145 (.int .i64) .bool),(1006, .vec 4 .bool),(1007, .que 171 (.ar 2 (.int .i64)))]⟩
def vP:Cut SN:=⟨[(1, .bp 1 0),(4, .vh 1004),(6, .vh 1006),(7, .vh 1007),(8,Dq1),(10, .dat (.sl (.ar 2 (.int .i64)))),(11,Dq1)],[(1, .st .myFuncT),(1004, .maps 145 (.int .i64) .bool),(1006, .vec 4 .bool),(1007, .que 171 (.ar 2 (.int .i64)))]⟩
def Pi:Cut SN:=⟨[(1, .bp 1 0),(4, .vh 1004)],[(1, .st .myFuncT),(1004, .maps 145 (.int .i64) .bool)]⟩
def Pj:Cut SN:=⟨[(4, .vh 1004),(6, .vh 1006)],[(1004, .maps 145 (.int .i64) .bool),(1006, .vec 4 .bool)]⟩
abbrev SC:Pt SN:= .dat (.sl .bool)
def Pk:Cut SN:=⟨[(2, .vh 2002),(3,SC)],[(2002, .maps 145 (.int .i64) .bool)]⟩
def Ui:aN vw:=shL [(0,Pi),(2,Pj),(4,Cw)] Pk
def Q3:Nat->Bool:=λk=>match k with|6000031=>true|_=>false
def Rj:Sig vw:={params:=[Ce],rcut:=Pk,rvars:=[.tmp 2, .tmp 3],keep:=[2002]}
noncomputable def i5(v:Int×aB×(List (Option (List (Int×Bool))))×Unit):Option ((aB×(List (Option (List (Int×Bool))))×Unit)):=if decide (v.1<(↑v.2.2.1.length:Int))=true then if 0<=v.1/\v.1<(↑v.2.2.1.length:Int)then if v.1.toNat<v.2.2.1.length/\¬(24:Nat)=(1004:Nat)then i5 (i64.wrap (v.1+1),v.2.1,v.2.2.1.set v.1.toNat (some []),())else none else none else some (v.2) partial_fixpoint
abbrev Wz:=aB×(List (Option (List (Int×Bool))))×(List Bool)×(List (List Int))×Unit
noncomputable def gr(v:Int×(List (List Int))×Int×aB×(List (Option (List (Int×Bool))))×(List Bool)×(List (List Int))×Unit):Option ((Wz)):=let a:=v.2.2;let b:=a.2.2.2;if decide (a.1<(↑v.2.1.length:Int))=true then(if 0<=a.1 then v.2.1[a.1.toNat]?>>=λx1=>x1[aav 0]?>>=λx2=>if decide (x2>=(↑a.2.1.code.length:Int))=true then if 0<=v.1/\v.1<(↑b.1.length:Int)then b.1[v.1.toNat]?>>=λx3=>some (v.1,v.2.1,a.1,a.2.1,a.2.2.1,b.1.set v.1.toNat true,b.2)else none else if 0<=a.1 then v.2.1[a.1.toNat]?>>=λx3=>if b.2.1.length+[x3].length<=4294967296 then some ((v.1,v.2.1,a.1,a.2.1,a.2.2.1,b.1,b.2.1++[x3],()))else none else none else none)>>=λx1=>gr (x1.1,x1.2.1,i64.wrap (x1.2.2.1+1),x1.2.2.2)else some (a.2) partial_fixpoint
noncomputable def eG(v:Wz):Option (((List (Option (List (Int×Bool))))×(List Bool)×Unit)):=let a:=v.2.2.2.1;let b:=v.2.1;let G2:=(v.2.2.1,acp (aav 1) a,());if decide ((↑a.length:Int)>0)=true then if(0:Int)<=0/\0<(↑a.length:Int)then a[aav 0]?>>=λx1=>x1[(0/1:Nat)]?>>=λx2=>if(0:Int)<=0/\0<(↑a.length:Int)then a[aav 0]?>>=λx3=>x3[(1/1:Nat)]?>>=λx4=>if(1:Int)<=(↑a.length:Int)then if 0<=x2/\x2<(↑b.length:Int)then b[x2.toNat]?>>=λx5=>(x5:Option (List (Int×Bool)))>>=λx6=>b[x2.toNat]?>>=λx7=>(x7:Option (List (Int×Bool)))>>=λx8=>if(Mp.get Mp.ieq x4 x8).getD false=true then eG (v.1,b,G2)else if 0<=x2/\x2<(↑b.length:Int)then b[x2.toNat]?>>=λx9=>(x9:Option (List (Int×Bool)))>>=λx10=>b[x2.toNat]?>>=λx11=>(x11:Option (List (Int×Bool)))>>=λx12=>let G1:=(v.1,b.set x2.toNat (some (Mp.set Mp.ieq Mp.ilt x4 true x12)),G2);Eg (v.1,x2,x4,())>>=λx13=>if(!x13.1)=true then eG G1 else Ie (v.1,x2,x4,())>>=λx14=>gr (x2,x14.1,(0:Int),G1)>>=λx15=>eG x15 else none else none else none else none else none else some ((b,v.2.2.1,())) partial_fixpoint
noncomputable def HJ(v:aB×Unit):Option ((List Bool)×(List (Option (List (Int×Bool))))×Unit):=if(↑v.1.code.length:Int)<=4294967296 then i5 ((0:Int),v.1,aap (↑v.1.code.length:Int).toNat none,())>>=λx1=>if(↑x1.1.code.length:Int)<=4294967296 then eG (x1.1,x1.2.1,aap (↑x1.1.code.length:Int).toNat false,[[(0:Int),(0:Int)]],())>>=λx2=>some ((x2.2.1,x2.1,()))else none else none
def n4:=kP yO (kP Ig k0)
def Ta:Xc vw:={P:=prog,n:=92,call:=n4.1,pre:=Q3,sh:=Ui,joins:=λk=>match k with|17=>some (vP,[.norm])|_=>none,loops:=λk=>match k with|3=>some {cut:=KU,alts:=[.exit 0],F:=i5}|8=>some {cut:=Cw,alts:=[.exit 2],F:=eG}|16=>some {cut:=vP,alts:=[.exit 4],F:=gr}|_=>none}
theorem AE:gh Ta (aS (aO Tryz.f104) 0) ⟨KU,[.exit 0],i5⟩:=lp0 i5.partial_correctness n4.2
theorem wM:gh Ta (aS (aS (aO Tryz.f104) 1) 0) ⟨vP,[.exit 4],gr⟩:=lp0 gr.partial_correctness n4.2
theorem AF:gh Ta (aS (aO Tryz.f104) 1) ⟨Cw,[.exit 2],eG⟩:=lp1 eG.partial_correctness n4.2 wM
theorem HK:aM prog 104 Rj HJ:=fn2 Ta Tryz.func104 n4.2 AE AF
def GP:Cut SN:=⟨[(2, .bp 2 0)],[(2, .st .itemT)]⟩
def Uk:aN vw:={rcut:=GP}
def Rm:Sig vw:=sg [Dq4] GP [.cell 2 65]
noncomputable def AG(v:Bool×Unit):Option (Item×Unit):=if v.1=true then some ((Item.mk 1 false (Z4 #[]),()))else some ((Item.mk 0 false (Z4 #[]),()))
def Y5:Xc vw:=mX prog 6 c0 Uk [] [] []
theorem sE:aM prog 106 Rm AG:=fn0 Y5 Tryz.func106 bT
def KV:Cut SN:=⟨[(1, .bp 1 0),(3,Dq1),(4,Dq1)],[(1, .st .myIntT)]⟩
def UL:aN vw:=shL [(0,MN)] nh
def RN:Sig vw:=sg [nd] nh [.tmp 2]
noncomputable def i6(v:Int×Int×bB×Unit):Option ((Int×Unit)):=if decide (v.2.1<v.2.2.1.bits)=true then i6 (i64.wrap (v.1 *2),i64.wrap (v.2.1+1),v.2.2)else some ((v.1,())) partial_fixpoint
noncomputable def AL(v:bB×Unit):Option (Int×Unit):=i6 ((1:Int),(0:Int),v)>>=λx1=>some (x1)
def W_:Xc vw:=mX prog 14 c0 UL [] [] [(3,⟨KV,[.exit 0],i6⟩)]
theorem AM:gh W_ (aS (aO Tryz.f140) 0) ⟨KV,[.exit 0],i6⟩:=lp0 i6.partial_correctness bT
theorem sK:aM prog 140 RN AL:=fn1 W_ Tryz.func140 bT AM
def Pl:Cut SN:=⟨[(2, .bp 2 0),(5,Dq1),(6,Dq1)],[(2, .st .myIntT)]⟩
def Cx:Cut SN:=⟨[(6,Dq1)],[]⟩
def Pm:Cut SN:=⟨[(5,Dq1),(6,Dq1),(24,Dq4)],[]⟩
def Ul:aN vw:={rcut:=bF}
def Rn:Sig vw:=sg [nd,Dq1] bF [.tmp 4]
noncomputable def kL(v:bB×Int×Unit):Option (Int×Unit):=AL (v.1,())>>=λx1=>if x1.1=0 then none else(if decide (v.2.1.tmod x1.1<0)=true then some ((x1.1,i64.wrap (v.2.1.tmod x1.1+x1.1),v.1,()))else some ((x1.1,v.2.1.tmod x1.1,v.1,())))>>=λx2=>((if x2.2.2.1.signed=true then some ((x2.1,x2.2.1,decide (x2.2.1>=i64.wrap (x2.1.tdiv (2:Int))),()))else some ((x2.1,x2.2.1,false,())))>>=λx3=>if x3.2.2.1=true then some ((i64.wrap (x3.2.1-x3.1),()))else some ((x3.2.1,())))>>=λx3=>some (x3)
def CG:=kP sK k0
def Y6:Xc vw:=mX prog 29 CG.1 Ul [(5,Pl,[.norm]),(7,Cx,[.norm])] [(5,Pm)] []
theorem jx:aM prog 107 Rn kL:=fn0 Y6 Tryz.func107 CG.2
def Um:aN vw:={rcut:=vW}
def Ro:Sig vw:=sg [vE] vW [.cell 2 135]
noncomputable def AH(v:aF×Unit):Option (bB×Unit):=some ((bB.mk (v.1.base==3) v.1.bits,()))
def Y7:Xc vw:=mX prog 9 c0 Um [] [] []
theorem sF:aM prog 108 Ro AH:=fn0 Y7 Tryz.func108 bT
def UP:aN vw:={rcut:=GS}
def RR:Sig vw:=sg [nd] GS [.tmp 2, .tmp 3]
noncomputable def Em(v:bB×Unit):Option (Int×Int×Unit):=AL v>>=λx1=>if v.1.signed=true then some ((i64.wrap ((0:Int) -i64.wrap (x1.1.tdiv (2:Int))),i64.wrap (i64.wrap (x1.1.tdiv (2:Int)) -1),()))else some (((0:Int),i64.wrap (x1.1-1),()))
def C2:=kP sK k0
def Zx:Xc vw:=mX prog 17 C2.1 UP [] [] []
theorem yU:aM prog 144 RR Em:=fn0 Zx Tryz.func144 C2.2
def Uq:aN vw:={rcut:=cD}
def Rs:Sig vw:=sg [nd,Dq1] cD [.tmp 4]
noncomputable def wN(v:bB×Int×Unit):Option (Bool×Unit):=Em (v.1,())>>=λx1=>En (v.2.1,x1)>>=λx2=>some (x2)
def CJ:=kP yU (kP yV k0)
def Za:Xc vw:=mX prog 16 CJ.1 Uq [] [] []
theorem yQ:aM prog 112 Rs wN:=fn0 Za Tryz.func112 CJ.2
def PB:Cut SN:=⟨[(1,Dq1),(2,Dq1),(8,Dq1),(9,Dq4)],[]⟩
def PC:Cut SN:=⟨[(1,Dq1),(2,Dq1),(8,Dq1),(16,Dq4)],[]⟩
def MG:Cut SN:=⟨[(1,Dq1),(2,Dq1),(23,Dq4)],[]⟩
def UM:aN vw:={rcut:=Cv}
def RO:Sig vw:=sg [Dq1,Dq1,Dq1] Cv [.tmp 6, .tmp 7]
noncomputable def El(v:Cg):Option (Int×Bool×Unit):=let G1:=(true,());(if(v.1==5)=true then some (v.2.1,v.2.2.1,v.1,G1)else if(v.1==10)=true then some (v.2.1,v.2.2.1,v.1,G1)else some ((v.2.1,v.2.2.1,v.1,v.1==13,())))>>=λx1=>let a:=x1.2.2.1;if x1.2.2.2.1=true then some ((i64.wrap (x1.1+x1.2.1),G1))else(if(a==6)=true then some (x1.1,x1.2.1,a,G1)else if(a==11)=true then some (x1.1,x1.2.1,a,G1)else some ((x1.1,x1.2.1,a,a==14,())))>>=λx2=>if x2.2.2.2.1=true then some ((i64.wrap (x2.1-x2.2.1),G1))else(if(x2.2.2.1==7)=true then some (x2.1,x2.2.1,G1)else some ((x2.1,x2.2.1,x2.2.2.1==12,())))>>=λx3=>if x3.2.2.1=true then some ((i64.wrap (x3.1 *x3.2.1),G1))else if(x3.2.1==0)=true then some (((0:Int),false,()))else if x3.2.1=0 then none else some ((i64.wrap (x3.1.tdiv x3.2.1),G1))
def Zv:Xc vw:=mX prog 34 c0 UM [(5,PB,[.norm]),(9,PC,[.norm]),(12,MG,[.norm])] [] []
theorem yT:aM prog 141 RO El:=fn0 Zv Tryz.func141 bT
def K2:Cut SN:=⟨[(1,Dq1),(2, .bp 2 0),(5, .vh 1005),(6,Dq1)],[(2, .st .myIntT),(1005,Oq7)]⟩
def PR:Cut SN:=⟨[(1,Dq1),(2, .bp 2 0)],[(2, .st .myIntT)]⟩
def PQ:Cut SN:=⟨[(5, .vh 1005)],[(1005,Oq7)]⟩
abbrev Ca:Pt SN:= .dat (.sl (.int .i64))
def PS:Cut SN:=⟨[(4,Ca)],[]⟩
def U3:aN vw:=shL [(0,PQ)] PS
def R5:Sig vw:=sg [nd,Dq1] PS [.tmp 4]
noncomputable def i9(v:Int×Int×bB×(List Int)×Unit):Option (((List Int)×Unit)):=if decide (v.2.1<v.2.2.1.bits)=true then if v.2.2.2.1.length+[v.1.tmod (2:Int)].length<=4294967296 then i9 (i64.wrap (v.1.tdiv (2:Int)),i64.wrap (v.2.1+1),v.2.2.1,v.2.2.2.1++[v.1.tmod (2:Int)],())else none else some (v.2.2.2) partial_fixpoint
noncomputable def Es(v:bB×Int×Unit):Option ((List Int)×Unit):=(if decide (v.2.1<0)=true then AL (v.1,())>>=λx1=>some ((i64.wrap (v.2.1+x1.1),v.1,()))else some ((v.2.1,v.1,())))>>=λx1=>i9 (x1.1,(0:Int),x1.2.1,[],())>>=λx2=>some (x2)
def wd:=kP sK k0
def Xe:Xc vw:=mX prog 27 wd.1 U3 [(3,PR,[.norm])] [] [(5,⟨K2,[.exit 0],i9⟩)]
theorem AU:gh Xe (aS (aO Tryz.f160) 0) ⟨K2,[.exit 0],i9⟩:=lp0 i9.partial_correctness wd.2
theorem Iz:aM prog 160 R5 Es:=fn1 Xe Tryz.func160 wd.2 AU
def K3:Cut SN:=⟨[(1,Ca),(2, .bp 2 0),(5,Dq1),(6,Dq1)],[(2, .st .myIntT)]⟩
def PU:Cut SN:=⟨[(2, .bp 2 0),(5,Dq1)],[(2, .st .myIntT)]⟩
def U4:aN vw:=shL [(0,PU)] bF
def R6:Sig vw:=sg [nd,Ca] bF [.tmp 4]
noncomputable def i_(v:(List Int)×Int×Int×bB×Unit):Option ((Int×bB×Unit)):=if decide (v.2.2.1>=0)=true then if 0<=v.2.2.1 then v.1[v.2.2.1.toNat]?>>=λx1=>i_ (v.1,i64.wrap (i64.wrap ((2:Int) *v.2.1)+x1),i64.wrap (v.2.2.1-1),v.2.2.2)else none else some (v.2.1,v.2.2.2) partial_fixpoint
noncomputable def Nw(v:bB×(List Int)×Unit):Option (Int×Unit):=i_ (v.2.1,(0:Int),i64.wrap ((↑v.2.1.length:Int) -1),v.1,())>>=λx1=>kL (x1.2.1,x1.1,())>>=λx2=>some (x2)
def wg:=kP jx k0
def Xf:Xc vw:=mX prog 24 wg.1 U4 [] [] [(3,⟨K3,[.exit 0],i_⟩)]
theorem AV:gh Xf (aS (aO Tryz.f161) 0) ⟨K3,[.exit 0],i_⟩:=lp0 i_.partial_correctness wg.2
theorem IA:aM prog 161 R6 Nw:=fn1 Xf Tryz.func161 wg.2 AV
def KW:Cut SN:=⟨[(0,Dq1),(5, .bp 5 0),(9,Ca),(10,Ca),(11, .vh 1011),(12,Dq1)],[(5, .st .myIntT),(1011,Oq7)]⟩
def MH:Cut SN:=⟨[(0,Dq1),(5, .bp 5 0),(9,Ca),(10,Ca),(11, .vh 1011),(12,Dq1),(13,Dq1)],[(5, .st .myIntT),(1011,Oq7)]⟩
def PD:Cut SN:=⟨[(5, .bp 5 0),(11, .vh 1011)],[(5, .st .myIntT),(1011,Oq7)]⟩
def UN:aN vw:=shL [(0,PD)] Aa
def RP:Sig vw:=sg [Dq1,nd,Dq1,Dq1] Aa [.tmp 8]
noncomputable def i7(v:Int×(List Int)×(List Int)×Int×bB×(List Int)×Unit):Option ((bB×(List Int)×Unit)):=let a:=v.2.2.2;if decide (a.1<(↑v.2.1.length:Int))=true then if 0<=a.1 then v.2.1[a.1.toNat]?>>=λx1=>if 0<=a.1 then v.2.2.1[a.1.toNat]?>>=λx2=>(if(v.1==15)=true then some ((v.1,v.2.1,v.2.2.1,a.1,i64.wrap ((i64.wrap (x1+x2)).tdiv (2:Int)),a.2))else if(v.1==16)=true then some ((v.1,v.2.1,v.2.2.1,a.1,i64.wrap ((i64.wrap (i64.wrap (x1+x2)+1)).tdiv (2:Int)),a.2))else some ((v.1,v.2.1,v.2.2.1,a.1,(i64.wrap (x1+x2)).tmod (2:Int),a.2)))>>=λx3=>let b:=x3.2.2.2.2;if b.2.2.1.length+[b.1].length<=4294967296 then i7 (x3.1,x3.2.1,x3.2.2.1,i64.wrap (x3.2.2.2.1+1),b.2.1,b.2.2.1++[b.1],())else none else none else none else some (a.2) partial_fixpoint
noncomputable def Ih(v:Mj):Option (Int×Unit):=Es (v.2.1,v.2.2.1,())>>=λx1=>Es (v.2.1,v.2.2.2)>>=λx2=>i7 (v.1,x1.1,x2.1,(0:Int),v.2.1,[],())>>=λx3=>Nw x3>>=λx4=>some (x4)
def v_:=kP Iz (kP IA k0)
def Xa:Xc vw:=mX prog 54 v_.1 UN [(13,MH,[.norm])] [] [(4,⟨KW,[.exit 0],i7⟩)]
theorem AN:gh Xa (aS (aO Tryz.f142) 0) ⟨KW,[.exit 0],i7⟩:=lp0 i7.partial_correctness v_.2
theorem Ii:aM prog 142 RP Ih:=fn1 Xa Tryz.func142 v_.2 AN
def UO:aN vw:={rcut:=bF}
def RQ:Sig vw:=sg [nd,Dq1] bF [.tmp 4]
noncomputable def Ij(v:bB×Int×Unit):Option (Int×Unit):=Em (v.1,())>>=λx1=>if decide (v.2.1<x1.1)=true then some ((x1.1,()))else if decide (v.2.1>x1.2.1)=true then some (x1.2)else some (v.2)
def C1:=kP yU k0
def Zw:Xc vw:=mX prog 21 C1.1 UO [] [] []
theorem Ik:aM prog 143 RQ Ij:=fn0 Zw Tryz.func143 C1.2
def MA:Cut SN:=⟨[(0,Dq1),(2,Dq1),(3,Dq1),(5, .bp 5 0),(10,Dq1),(28,Dq1),(29,Dq4)],[(5, .st .myIntT)]⟩
def MB:Cut SN:=⟨[(0,Dq1),(2,Dq1),(3,Dq1),(5, .bp 5 0),(10,Dq1),(36,Dq4)],[(5, .st .myIntT)]⟩
def Uo:aN vw:={rcut:=iI}
def Rq:Sig vw:=sg [Dq1,nd,Dq1,Dq1] iI [.tmp 8, .tmp 9]
noncomputable def Eh(v:Mj):Option (Int×Int×Unit):=let G2:=((0:Int),());if decide (v.1>=15)=true then Ih v>>=λx1=>some (x1.1,G2)else El (v.1,v.2.2)>>=λx1=>let G1:=(v.1,v.2.2.1,v.2.2.2.1,x1.1,v.1,true,v.2.1,());if(!x1.2.1)=true then some (((0:Int),(2:Int),()))else(if(v.1==10)=true then some (G1)else if(v.1==11)=true then some (G1)else some ((v.1,v.2.2.1,v.2.2.2.1,x1.1,v.1,v.1==12,v.2.1,())))>>=λx2=>let a:=x2.2.2.2;if a.2.2.1=true then kL (a.2.2.2.1,a.1,())>>=λx3=>some (x3.1,G2)else(if(a.2.1==13)=true then some (x2.1,x2.2.1,x2.2.2.1,a.1,true,a.2.2.2)else some (x2.1,x2.2.1,x2.2.2.1,a.1,a.2.1==14,a.2.2.2))>>=λx3=>let b:=x3.2.2.2;let G3:=(b.2.2.1,b.1,());if b.2.1=true then Ij G3>>=λx4=>some (x4.1,G2)else wN G3>>=λx4=>if(!x4.1)=true then some (((0:Int),(1:Int),()))else if(x3.1==9)=true then some ((i64.wrap (x3.2.1-i64.wrap (b.1 *x3.2.2.1)),G2))else some (b.1,G2)
def CI:=kP jx (kP yQ (kP yT (kP Ii (kP Ik k0))))
def Y9:Xc vw:=mX prog 54 CI.1 Uo [(10,MA,[.norm]),(13,MB,[.norm])] [] []
theorem yP:aM prog 110 Rq Eh:=fn0 Y9 Tryz.func110 CI.2
def Pn:Cut SN:=⟨[(0,Dq1),(2,Dq1),(3,Dq1),(5, .bp 5 0),(9,Dq1),(10,Dq1),(21,Dq4)],[(5, .st .myIntT)]⟩
def Po:Cut SN:=⟨[(0,Dq1),(2,Dq1),(3,Dq1),(5, .bp 5 0),(9,Dq1),(29,Dq4)],[(5, .st .myIntT)]⟩
def Un:aN vw:={rcut:=Aa}
def Rp:Sig vw:=sg [Dq1,nd,Dq1,Dq1] Aa [.tmp 8]
noncomputable def HM(v:Mj):Option (Int×Unit):=Eh v>>=λx1=>(if(x1.2.1==2)=true then some ((v.1,v.2.2.1,v.2.2.2.1,x1.1,x1.2.1,v.1==9,v.2.1,()))else some ((v.1,v.2.2.1,v.2.2.2.1,x1.1,x1.2.1,false,v.2.1,())))>>=λx2=>let a:=x2.2.2;if a.2.2.2.1=true then some ((x2.2.1,()))else(if(a.2.2.1==1)=true then some (x2.1,x2.2.1,a.1,a.2.1,x2.1 !=9,a.2.2.2.2)else some (x2.1,x2.2.1,a.1,a.2.1,false,a.2.2.2.2))>>=λx3=>if x3.2.2.2.2.1=true then El (x3.1,x3.2.1,x3.2.2.1,())>>=λx4=>kL (x3.2.2.2.2.2.1,x4.1,())>>=λx5=>some (x5)else some ((x3.2.2.2.1,()))
def CH:=kP jx (kP yP (kP yT k0))
def Y8:Xc vw:=mX prog 47 CH.1 Un [] [(2,Pn),(4,Po)] []
theorem HN:aM prog 109 Rp HM:=fn0 Y8 Tryz.func109 CH.2
def Up:aN vw:={rcut:=iJ}
def Rr:Sig vw:=sg [Dq1,Dq1,Dq1] iJ [.tmp 6]
noncomputable def HO(v:Cg):Option (Bool×Unit):=let a:=v.2.2.1;if(v.1==18)=true then some ((v.2.1==a,()))else if(v.1==19)=true then some ((v.2.1 !=a,()))else if(v.1==20)=true then some ((decide (v.2.1<a),()))else if(v.1==21)=true then some ((decide (v.2.1<=a),()))else if(v.1==22)=true then some ((decide (v.2.1>a),()))else some ((decide (v.2.1>=a),()))
def Y_:Xc vw:=mX prog 36 c0 Up [] [] []
theorem HP:aM prog 111 Rr HO:=fn0 Y_ Tryz.func111 bT
def GW:Cut SN:=⟨[(0,Dq3),(1,Dq5),(5,Dq1)],[]⟩
def X6:aN vw:=shL [(0,dX)] bF
def Sk:Sig vw:=sg [Dq3,Dq5] bF [.tmp 4]
abbrev WD:=(List aB)×ByteArray×Int×Unit
noncomputable def mg(v:WD):Option (((Int×Unit)⊕(Unit))):=if decide (v.2.2.1<(↑v.1.length:Int))=true then if 0<=v.2.2.1 then v.1[v.2.2.1.toNat]?>>=λx1=>if(x1.name0.toList==v.2.1.toList)=true then some (aaL v.2.2)else mg (v.1,v.2.1,i64.wrap (v.2.2.1+1),())else none else some (abc ()) partial_fixpoint
noncomputable def NJ(v:(List aB)×ByteArray×Unit):Option (Int×Unit):=mg (v.1,v.2.1,(0:Int),())>>=λx1=>match x1 with| .inl y1=>some y1| .inr y1=>some (((-1:Int),()))
def x36:Xc vw:=mX prog 20 c0 X6 [] [] [(2,⟨GW,[.ret, .exit 0],mg⟩)]
theorem EB:gh x36 (aS (aO Tryz.f36) 0) ⟨GW,[.ret, .exit 0],mg⟩:=lp0 mg.partial_correctness bT
theorem pa:aM prog 36 Sk NJ:=fn1 x36 Tryz.func36 bT EB
def GX:Cut SN:=⟨[(0,Dq3),(3,Dq1),(4,Dq1)],[]⟩
def Yj:aN vw:=shL [(0,MN)] nh
def VP:Sig vw:=sg [Dq3] nh [.tmp 2]
noncomputable def mo(v:SD):Option ((Int×Unit)):=if decide (v.2.2.1<(↑v.1.length:Int))=true then if 0<=v.2.2.1 then v.1[v.2.2.1.toNat]?>>=λx1=>mo (v.1,i64.wrap (v.2.1+(↑x1.code.length:Int)),i64.wrap (v.2.2.1+1),())else none else some ((v.2.1,())) partial_fixpoint
noncomputable def SW(v:(List aB)×Unit):Option (Int×Unit):=mo (v.1,(0:Int),(0:Int),())>>=λx1=>some (x1)
def x54:Xc vw:=mX prog 20 c0 Yj [] [] [(3,⟨GX,[.exit 0],mo⟩)]
theorem EO:gh x54 (aS (aO Tryz.f54) 0) ⟨GX,[.exit 0],mo⟩:=lp0 mo.partial_correctness bT
theorem NT:aM prog 54 VP SW:=fn1 x54 Tryz.func54 bT EO
def Yl:aN vw:=shL [(0,dX)] bF
def VR:Sig vw:=sg [Dq3,Dq5] bF [.tmp 4]
noncomputable def mq(v:WD):Option (((Int×Unit)⊕(Unit))):=if decide (v.2.2.1<(↑v.1.length:Int))=true then if 0<=v.2.2.1 then v.1[v.2.2.1.toNat]?>>=λx1=>if(x1.name0.toList==v.2.1.toList)=true then some (aaL v.2.2)else mq (v.1,v.2.1,i64.wrap (v.2.2.1+1),())else none else some (abc ()) partial_fixpoint
noncomputable def QQ(v:(List aB)×ByteArray×Unit):Option (Int×Unit):=mq (v.1,v.2.1,(0:Int),())>>=λx1=>match x1 with| .inl y1=>some y1| .inr y1=>some (((-1:Int),()))
def x56:Xc vw:=mX prog 20 c0 Yl [] [] [(2,⟨GW,[.ret, .exit 0],mq⟩)]
theorem EQ:gh x56 (aS (aO Tryz.f56) 0) ⟨GW,[.ret, .exit 0],mq⟩:=lp0 mq.partial_correctness bT
theorem EP:aM prog 56 VR QQ:=fn1 x56 Tryz.func56 bT EQ
def Tu:Cut SN:=⟨[(0,Dq3),(5, .bp 5 0),(9,Dq4),(67,Dq4)],[(5, .st .myCodeT)]⟩
def Yo:aN vw:={rcut:=iJ}
def VU:Sig vw:=sg [Dq3,Ce,l_] iJ [.tmp 6]
noncomputable def SX(v:WC):Option (Bool×Unit):=let f:=v.2;let c:=f.2;let d:=c.1;let e:=v.1;let G3:=(false,());Cb (d.op,(0:Int),(19:Int),())>>=λx1=>if(!x1.1)=true then some (G3)else HE (d.op,())>>=λx2=>let g:=x2.2.2.1;let h:=x2.2.2.2.1;let i:=x2.1;let G2:=(e,g,true,c);let G1:=(e,g,false,c);(if(!i)=true then if(d.a !=0)=true then some (G2)else if(!x2.2.1)=true then if(d.b !=0)=true then some (G2)else if(!g)=true then if(!(Mp.ieq d.type0.base (aF.mk (0:Int) (0:Int) (Z4 #[]) false false).base&&(Mp.ieq d.type0.bits (aF.mk (0:Int) (0:Int) (Z4 #[]) false false).bits&&(Mp.seq d.type0.name0 (aF.mk (0:Int) (0:Int) (Z4 #[]) false false).name0&&(Mp.beq d.type0.opt (aF.mk (0:Int) (0:Int) (Z4 #[]) false false).opt&&Mp.beq d.type0.err (aF.mk (0:Int) (0:Int) (Z4 #[]) false false).err)))))=true then some (G2)else if(!h)=true then if(!d.name0.toList==(Z4 #[]).toList)=true then some (G2)else if i=true then iA f>>=λx3=>some (e,g,!x3.1,c)else some (G1)else if i=true then iA f>>=λx3=>some (e,g,!x3.1,c)else some (G1)else if(!h)=true then if(!d.name0.toList==(Z4 #[]).toList)=true then some (G2)else if i=true then iA f>>=λx3=>some (e,g,!x3.1,c)else some (G1)else if i=true then iA f>>=λx3=>some (e,g,!x3.1,c)else some (G1)else if(!g)=true then if(!(Mp.ieq d.type0.base (aF.mk (0:Int) (0:Int) (Z4 #[]) false false).base&&(Mp.ieq d.type0.bits (aF.mk (0:Int) (0:Int) (Z4 #[]) false false).bits&&(Mp.seq d.type0.name0 (aF.mk (0:Int) (0:Int) (Z4 #[]) false false).name0&&(Mp.beq d.type0.opt (aF.mk (0:Int) (0:Int) (Z4 #[]) false false).opt&&Mp.beq d.type0.err (aF.mk (0:Int) (0:Int) (Z4 #[]) false false).err)))))=true then some (G2)else if(!h)=true then if(!d.name0.toList==(Z4 #[]).toList)=true then some (G2)else if i=true then iA f>>=λx3=>some (e,g,!x3.1,c)else some (G1)else if i=true then iA f>>=λx3=>some (e,g,!x3.1,c)else some (G1)else if(!h)=true then if(!d.name0.toList==(Z4 #[]).toList)=true then some (G2)else if i=true then iA f>>=λx3=>some (e,g,!x3.1,c)else some (G1)else if i=true then iA f>>=λx3=>some (e,g,!x3.1,c)else some (G1)else if(!x2.2.1)=true then if(d.b !=0)=true then some (G2)else if(!g)=true then if(!(Mp.ieq d.type0.base (aF.mk (0:Int) (0:Int) (Z4 #[]) false false).base&&(Mp.ieq d.type0.bits (aF.mk (0:Int) (0:Int) (Z4 #[]) false false).bits&&(Mp.seq d.type0.name0 (aF.mk (0:Int) (0:Int) (Z4 #[]) false false).name0&&(Mp.beq d.type0.opt (aF.mk (0:Int) (0:Int) (Z4 #[]) false false).opt&&Mp.beq d.type0.err (aF.mk (0:Int) (0:Int) (Z4 #[]) false false).err)))))=true then some (G2)else if(!h)=true then if(!d.name0.toList==(Z4 #[]).toList)=true then some (G2)else if i=true then iA f>>=λx3=>some (e,g,!x3.1,c)else some (G1)else if i=true then iA f>>=λx3=>some (e,g,!x3.1,c)else some (G1)else if(!h)=true then if(!d.name0.toList==(Z4 #[]).toList)=true then some (G2)else if i=true then iA f>>=λx3=>some (e,g,!x3.1,c)else some (G1)else if i=true then iA f>>=λx3=>some (e,g,!x3.1,c)else some (G1)else if(!g)=true then if(!(Mp.ieq d.type0.base (aF.mk (0:Int) (0:Int) (Z4 #[]) false false).base&&(Mp.ieq d.type0.bits (aF.mk (0:Int) (0:Int) (Z4 #[]) false false).bits&&(Mp.seq d.type0.name0 (aF.mk (0:Int) (0:Int) (Z4 #[]) false false).name0&&(Mp.beq d.type0.opt (aF.mk (0:Int) (0:Int) (Z4 #[]) false false).opt&&Mp.beq d.type0.err (aF.mk (0:Int) (0:Int) (Z4 #[]) false false).err)))))=true then some (G2)else if(!h)=true then if(!d.name0.toList==(Z4 #[]).toList)=true then some (G2)else if i=true then iA f>>=λx3=>some (e,g,!x3.1,c)else some (G1)else if i=true then iA f>>=λx3=>some (e,g,!x3.1,c)else some (G1)else if(!h)=true then if(!d.name0.toList==(Z4 #[]).toList)=true then some (G2)else if i=true then iA f>>=λx3=>some (e,g,!x3.1,c)else some (G1)else if i=true then iA f>>=λx3=>some (e,g,!x3.1,c)else some (G1))>>=λx3=>let j:=x3.2.2.2.1;if x3.2.2.1=true then some (G3)else if(j.op==0)=true then(O2 (j.type0,())>>=λx4=>if x4.1=true then if(!j.type0.opt)=true then some ((!j.type0.err,()))else some (G3)else some (G3))>>=λx4=>some (x4)else if x3.2.1=true then HH (j.type0,())>>=λx4=>some (x4)else if(j.op==18)=true then O1 (j.name0,())>>=λx4=>some (x4)else if(j.op==16)=true then QQ (x3.1,j.name0,())>>=λx4=>(if decide (x4.1>=0)=true then if 0<=x4.1 then x3.1[x4.1.toNat]?>>=λx5=>some ((j.b==x5.params,()))else none else some (G3))>>=λx5=>some (x5)else some ((true,()))
def Lp:=kP wU (kP EP (kP sO (kP wV (kP HF (kP HG (kP HI k0))))))
def x59:Xc vw:=mX prog 119 Lp.1 Yo [] [(4,Tu),(7,iJ),(14,iJ)] []
theorem NU:aM prog 59 VU SX:=fn0 x59 Tryz.func59 Lp.2
def ML:Cut SN:=⟨[(0,Dq3),(3,Dq1)],[]⟩
def MM:Cut SN:=⟨[(0,Dq3),(4,Dq1)],[]⟩
def K9:Cut SN:=⟨[(0,Dq3),(4,Dq1),(5, .bp 5 0),(6,Dq1)],[(5, .st .myFuncT)]⟩
def To:Cut SN:=⟨[(0,Dq3),(14,Dq4)],[]⟩
def P3:Cut SN:=⟨[(0,Dq3),(4,Dq1),(5, .bp 5 0),(68,Dq4)],[(5, .st .myFuncT)]⟩
def Tn:Cut SN:=⟨[(0,Dq3)],[]⟩
def X_:aN vw:=shL [(0,Tn),(2,dX),(4,MM)] nh
def VG:Sig vw:=sg [Dq3] nh [.tmp 2]
noncomputable def mi(v:(List aB)×Int×Unit):Option (((Int×Unit)⊕((List aB)×Unit))):=if decide (v.2.1<(↑v.1.length:Int))=true then if 0<=v.2.1 then v.1[v.2.1.toNat]?>>=λx1=>if decide (x1.places>200)=true then some (aaL ((3:Int),()))else mi (v.1,i64.wrap (v.2.1+1),())else none else some (abc (v.1,())) partial_fixpoint
noncomputable def jd(v:(List aB)×Int×Int×aB×Unit):Option (((Int×Unit)⊕((List aB)×Int×Unit))):=let a:=v.2.2;if decide (a.1<(↑a.2.1.code.length:Int))=true then if 0<=a.1 then a.2.1.code[a.1.toNat]?>>=λx1=>SX (v.1,a.2.1,x1,())>>=λx2=>if(!x2.1)=true then some (aaL ((1:Int),()))else jd (v.1,v.2.1,i64.wrap (a.1+1),a.2)else none else some (abc (v.1,v.2.1,())) partial_fixpoint
noncomputable def mj(v:(List aB)×Int×Unit):Option (((Int×Unit)⊕(Unit))):=if decide (v.2.1<(↑v.1.length:Int))=true then if 0<=v.2.1 then v.1[v.2.1.toNat]?>>=λx1=>let G1:=(v.1,v.2.1,true,x1,());(O1 (x1.name0,())>>=λx2=>if(!x2.1)=true then some (G1)else QQ (v.1,x1.name0,())>>=λx3=>if decide (x3.1<v.2.1)=true then some (G1)else Cb (x1.params,(0:Int),x1.places,())>>=λx4=>if(!x4.1)=true then some (G1)else O2 (x1.type0,())>>=λx5=>if(!x5.1)=true then some (G1)else some ((v.1,v.2.1,decide ((↑x1.code.length:Int)<1),x1,())))>>=λx2=>if x2.2.2.1=true then some (aaL ((1:Int),()))else jd (x2.1,x2.2.1,(0:Int),x2.2.2.2)>>=λx3=>match x3 with| .inl y3=>some (aaL y3)| .inr y3=>mj (y3.1,i64.wrap (y3.2.1+1),())else none else some (abc ()) partial_fixpoint
noncomputable def QO(v:(List aB)×Unit):Option (Int×Unit):=(if decide ((↑v.1.length:Int)>48)=true then some ((v.1,true,()))else SW v>>=λx1=>some ((v.1,decide (x1.1>2000),())))>>=λx1=>if x1.2.1=true then some (((3:Int),()))else mi (x1.1,(0:Int),())>>=λx2=>match x2 with| .inl y2=>some y2| .inr y2=>mj (y2.1,(0:Int),())>>=λx3=>match x3 with| .inl y3=>some y3| .inr y3=>some (((0:Int),()))
def tK:=kP NT (kP wU (kP EP (kP sO (kP wV (kP NU k0)))))
def x41:Xc vw:=mX prog 85 tK.1 X_ [] [(1,To),(12,P3)] [(4,⟨ML,[.ret, .exit 0],mi⟩),(9,⟨MM,[.ret, .exit 2],mj⟩),(15,⟨K9,[.ret, .exit 4],jd⟩)]
theorem EG:gh x41 (aS (aO Tryz.f41) 0) ⟨ML,[.ret, .exit 0],mi⟩:=lp0 mi.partial_correctness tK.2
theorem A8:gh x41 (aS (aS (aO Tryz.f41) 1) 0) ⟨K9,[.ret, .exit 4],jd⟩:=lp0 jd.partial_correctness tK.2
theorem EH:gh x41 (aS (aO Tryz.f41) 1) ⟨MM,[.ret, .exit 2],mj⟩:=lp1 mj.partial_correctness tK.2 A8
theorem EF:aM prog 41 VG QO:=fn2 x41 Tryz.func41 tK.2 EG EH
def Qd:Cut SN:=⟨[(1, .bp 1 0),(3, .vh 1003),(4,SC),(5,Dq1)],[(1, .st .myFuncT),(1003, .maps 145 (.int .i64) .bool)]⟩
def MO:Cut SN:=⟨[(1, .bp 1 0),(3, .vh 1003),(4,SC),(5,Dq1),(6,Dq4),(36, .bp 36 0)],[(1, .st .myFuncT),(1003, .maps 145 (.int .i64) .bool),(36, .miter 50035 (.int .i64) .bool)]⟩
def Qe:Cut SN:=⟨[(1, .bp 1 0),(3, .vh 1003),(4,SC),(5,Dq1),(6,Dq4)],[(1, .st .myFuncT),(1003, .maps 145 (.int .i64) .bool)]⟩
def Yp:aN vw:=shL [(0,dX),(2,Qe)] nh
def VV:Sig vw:=sg [Ce] nh [.tmp 2]
noncomputable def mr(v:(List Bool)×Int×Bool×aB×(List (Option (List (Int×Bool))))×(List (Int×Bool))×(List (Int×Bool))×Unit):Option (((List Bool)×Int×Bool×aB×(List (Option (List (Int×Bool))))×Unit)):=let a:=v.2.2.2;if a.2.2.2.1.isEmpty=true then some ((v.1,v.2.1,v.2.2.1,a.1,a.2.1,()))else acG (λq1=>(if v.2.2.1=true then some ((v.1,v.2.1,true,a.1,a.2.1,a.2.2.1,q1.2,()))else Eg (a.1,v.2.1,q1.1.1,())>>=λx2=>some ((v.1,v.2.1,!x2.1,a.1,a.2.1,a.2.2.1,q1.2,())))>>=λx2=>mr x2) (Tx.steps a.2.2.2.1)>>=same partial_fixpoint
noncomputable def je(v:(List Bool)×Int×aB×(List (Option (List (Int×Bool))))×Unit):Option (((Int×Unit)⊕(Unit))):=let a:=v.2.1;if decide (a<(↑v.2.2.1.code.length:Int))=true then(if 0<=a/\a<(↑v.2.2.2.1.length:Int)then v.2.2.2.1[a.toNat]?>>=λx1=>(x1:Option (List (Int×Bool)))>>=λx2=>v.2.2.2.1[a.toNat]?>>=λx3=>(x3:Option (List (Int×Bool)))>>=λx4=>if decide ((↑x4.length:Int)>1)=true then some (v.1,a,true,v.2.2)else if 0<=a then v.1[a.toNat]?>>=λx5=>some (v.1,a,x5,v.2.2)else none else none)>>=λx1=>let b:=x1.2;let c:=b.2.2.2.1;if 0<=b.1/\b.1<(↑c.length:Int)then c[b.1.toNat]?>>=λx2=>(x2:Option (List (Int×Bool)))>>=λx3=>c[b.1.toNat]?>>=λx4=>(x4:Option (List (Int×Bool)))>>=λx5=>mr (x1.1,b.1,b.2.1,b.2.2.1,c.set b.1.toNat none,x5,x5,())>>=λx6=>if x6.2.2.1=true then some (aaL (x6.2.1,()))else je (x6.1,i64.wrap (x6.2.1+1),x6.2.2.2)else none else some (abc ()) partial_fixpoint
noncomputable def SY(v:aB×Unit):Option (Int×Unit):=HJ v>>=λx1=>je (x1.1,(0:Int),v.1,x1.2)>>=λx2=>match x2 with| .inl y2=>some y2| .inr y2=>some (((-1:Int),()))
def yg:=kO HK (kP yO k0)
def x60:Xc vw:=mX prog 51 yg.1 Yp [] [(5,Qe),(9,MO)] [(3,⟨Qd,[.ret, .exit 0],je⟩),(7,⟨MO,[.exit 2],mr⟩)]
theorem ES:gh x60 (aS (aS (aO Tryz.f60) 0) 0) ⟨MO,[.exit 2],mr⟩:=lp0 mr.partial_correctness yg.2
theorem ER:gh x60 (aS (aO Tryz.f60) 0) ⟨Qd,[.ret, .exit 0],je⟩:=lp1 je.partial_correctness yg.2 ES
theorem NV:aM prog 60 VV SY:=fn1 x60 Tryz.func60 yg.2 ER
def P4:Cut SN:=⟨[(0,Dq3),(6,Dq1)],[]⟩
def Ya:aN vw:=shL [(0,dX)] SF
def VH:Sig vw:=sg [Dq3] SF [.tmp 2, .tmp 3, .tmp 4]
noncomputable def kU(v:(List aB)×Int×Unit):Option (((Cg)⊕(Unit))):=if decide (v.2.1<(↑v.1.length:Int))=true then if 0<=v.2.1 then v.1[v.2.1.toNat]?>>=λx1=>SY (x1,())>>=λx2=>if decide (x2.1>=0)=true then some (aaL (v.2.1,x2.1,(7:Int),()))else kU (v.1,i64.wrap (v.2.1+1),())else none else some (abc ()) partial_fixpoint
noncomputable def SP(v:(List aB)×Unit):Option (Cg):=QO v>>=λx1=>if(x1.1 !=0)=true then some (((0:Int),(0:Int),x1))else kU (v.1,(0:Int),())>>=λx2=>match x2 with| .inl y2=>some y2| .inr y2=>some (((0:Int),(0:Int),(0:Int),()))
def Df:=kP EF (kP NV k0)
def x42:Xc vw:=mX prog 28 Df.1 Ya [] [] [(5,⟨P4,[.ret, .exit 0],kU⟩)]
theorem EI:gh x42 (aS (aO Tryz.f42) 0) ⟨P4,[.ret, .exit 0],kU⟩:=lp0 kU.partial_correctness Df.2
theorem NL:aM prog 42 VH SP:=fn1 x42 Tryz.func42 Df.2 EI
def P5:Cut SN:=⟨[(0,rU),(3,Dq1)],[]⟩
def Tp:Cut SN:=⟨[(0,rU),(3,Dq1),(23,Dq4)],[]⟩
def Yb:aN vw:=shL [(0,dX)] nh
def VI:Sig vw:=sg [rU] nh [.tmp 2]
noncomputable def ml(v:(List aE)×Int×Unit):Option (((Int×Unit)⊕(Unit))):=let a:=v.2.1;if decide (a<(↑v.1.length:Int))=true then(if 0<=a then v.1[a.toNat]?>>=λx1=>if decide (x1.n<(-2147483648:Int))=true then some ((v.1,a,true,()))else if 0<=a then v.1[a.toNat]?>>=λx2=>some ((v.1,a,decide (x2.n>2147483648),()))else none else none)>>=λx1=>if x1.2.2.1=true then some (aaL ((1:Int),()))else ml (x1.1,i64.wrap (x1.2.1+1),())else some (abc ()) partial_fixpoint
noncomputable def SQ(v:(List aE)×Unit):Option (Int×Unit):=ml (v.1,(0:Int),())>>=λx1=>match x1 with| .inl y1=>some y1| .inr y1=>some (((0:Int),()))
def x43:Xc vw:=mX prog 24 c0 Yb [] [(4,Tp)] [(2,⟨P5,[.ret, .exit 0],ml⟩)]
theorem EJ:gh x43 (aS (aO Tryz.f43) 0) ⟨P5,[.ret, .exit 0],ml⟩:=lp0 ml.partial_correctness bT
theorem NM:aM prog 43 VI SQ:=fn1 x43 Tryz.func43 bT EJ
def X3:aN vw:={rcut:=Cx}
def VB:Sig vw:=sg [Dq3,Dq5,rU] Cx [.tmp 6]
noncomputable def QN(v:WA):Option (Int×Unit):=QO (v.1,())>>=λx1=>if(x1.1 !=0)=true then some (x1)else SP (v.1,())>>=λx2=>if(x2.2.2.1 !=0)=true then some (x2.2.2)else NJ (v.1,v.2.1,())>>=λx3=>if decide (x3.1<0)=true then some (((4:Int),()))else if 0<=x3.1 then v.1[x3.1.toNat]?>>=λx4=>if((↑v.2.2.1.length:Int) !=x4.params)=true then some (((10:Int),()))else SQ v.2.2>>=λx5=>some (x5)else none
def Li:=kP pa (kP EF (kP NL (kP NM k0)))
def x30:Xc vw:=mX prog 41 Li.1 X3 [] [] []
theorem Ez:aM prog 30 VB QN:=fn0 x30 Tryz.func30 Li.2
def WN:Cut SN:=⟨[(4, .bp 4 0)],[(4, .st .itemT)]⟩
def Yq:aN vw:={rcut:=WN}
def Sn:Sig vw:=sg [vE,Dq1] WN [.cell 4 65]
noncomputable def QR(v:aF×Int×Unit):Option (Item×Unit):=if(v.1.base==0)=true then some ((Item.mk 0 false (Z4 #[]),()))else if(v.1.base==1)=true then AG (v.2.1 !=0,())>>=λx1=>some (x1)else AH (v.1,())>>=λx1=>kL (x1.1,v.2)>>=λx2=>some ((Item.mk x2.1 false (Z4 #[]),()))
def Lq:=kP sE (kP jx (kP sF k0))
def x61:Xc vw:=mX prog 20 Lq.1 Yq [] [] []
theorem wW:aM prog 61 Sn QR:=fn0 x61 Tryz.func61 Lq.2
def WO:Cut SN:=⟨[(10, .bp 10 0),(11,Dq1)],[(10, .st .itemT)]⟩
def Yr:aN vw:={rcut:=WO}
abbrev O5:Pt SN:= .dat (.st .itemT)
def So:Sig vw:=sg [Dq1,vE,O5,O5,Dq4] WO [.cell 10 65, .tmp 11]
noncomputable def QS(v:Int×aF×Item×Item×Bool×Unit):Option (Int×Item×Unit):=AH (v.2.1,())>>=λx1=>kL (x1.1,v.2.2.1.n,())>>=λx2=>kL (x1.1,v.2.2.2.1.n,())>>=λx3=>if(!v.2.2.2.2.1)=true then HM (v.1,x1.1,x2.1,x3)>>=λx4=>some (((0:Int),Item.mk x4.1 false (Z4 #[]),()))else Eh (v.1,x1.1,x2.1,x3)>>=λx4=>some ((x4.2.1,Item.mk x4.1 false (Z4 #[]),()))
def Lr:=kP jx (kP sF (kP HN (kP yP k0)))
def x62:Xc vw:=mX prog 46 Lr.1 Yr [] [] []
theorem wX:aM prog 62 So QS:=fn0 x62 Tryz.func62 Lr.2
def WP:Cut SN:=⟨[(6, .bp 6 0)],[(6, .st .itemT)]⟩
def Ys:aN vw:={rcut:=WP}
def Sp:Sig vw:=sg [Dq1,O5,O5] WP [.cell 6 65]
noncomputable def QT(v:Int×Item×Item×Unit):Option (Item×Unit):=HO (v.1,v.2.1.n,v.2.2.1.n,())>>=λx1=>AG x1>>=λx2=>some (x2)
def Ls:=kP sE (kP HP k0)
def x63:Xc vw:=mX prog 14 Ls.1 Ys [] [] []
theorem wY:aM prog 63 Sp QT:=fn0 x63 Tryz.func63 Ls.2
def Qf:Cut SN:=⟨[(6, .bp 6 0),(8, .bp 8 0),(10, .bp 10 0)],[(6, .st .itemT),(8, .st .itemT),(10, .st .myIntT)]⟩
def Tv:Cut SN:=⟨[(6, .bp 6 0),(8, .bp 8 0),(27,Dq4)],[(6, .st .itemT),(8, .st .itemT)]⟩
def Qg:Cut SN:=⟨[(8, .bp 8 0),(10, .bp 10 0),(11,Dq1),(45,Dq4)],[(8, .st .itemT),(10, .st .myIntT)]⟩
def Qh:Cut SN:=⟨[(6, .bp 6 0),(8, .bp 8 0),(10, .bp 10 0),(60,Dq4)],[(6, .st .itemT),(8, .st .itemT),(10, .st .myIntT)]⟩
def WQ:Cut SN:=⟨[(8, .bp 8 0),(9,Dq1)],[(8, .st .itemT)]⟩
def Yt:aN vw:={rcut:=WQ}
def Sq:Sig vw:=sg [Dq1,vE,O5,Dq4] WQ [.cell 8 65, .tmp 9]
noncomputable def QU(v:Int×aF×Item×Bool×Unit):Option (Int×Item×Unit):=let a:=v.2.2.1;AH (v.2.1,())>>=λx1=>(if(v.1==8)=true then AG (a.n==0,())>>=λx2=>some (abc ((0:Int),x2))else if(v.1==11)=true then(if a.null=true then some ((v.2.2.2.1,a,Item.mk 0 false (Z4 #[]),()))else some ((false,a,Item.mk 0 false (Z4 #[]),())))>>=λx2=>if x2.1=true then some (abc ((4:Int),Item.mk 0 false (Z4 #[]),()))else some (abc ((0:Int),Item.mk x2.2.1.n false (Z4 #[]),()))else if(v.1==7)=true then kL (x1.1,a.n,())>>=λx2=>(if v.2.2.2.1=true then wN (x1.1,i64.wrap ((0:Int) -x2.1),())>>=λx3=>some ((i64.wrap ((0:Int) -x2.1),!x3.1,Item.mk 0 false (Z4 #[]),x1))else some ((i64.wrap ((0:Int) -x2.1),false,Item.mk 0 false (Z4 #[]),x1)))>>=λx3=>if x3.2.1=true then some (abc ((1:Int),Item.mk 0 false (Z4 #[]),()))else kL (x3.2.2.2.1,x3.1,())>>=λx4=>some (abc ((0:Int),Item.mk x4.1 false (Z4 #[]),()))else if(v.1==9)=true then(if v.2.2.2.1=true then wN (x1.1,a.n,())>>=λx2=>some ((!x2.1,a,Item.mk 0 false (Z4 #[]),x1))else some ((false,a,Item.mk 0 false (Z4 #[]),x1)))>>=λx2=>if x2.1=true then some (abc ((3:Int),Item.mk 0 false (Z4 #[]),()))else some (aaL x2.2)else some (aaL (a,Item.mk 0 false (Z4 #[]),x1)))>>=λx2=>match x2 with| .inl y2=>kL (y2.2.2.1,y2.1.n,())>>=λx3=>some (((0:Int),Item.mk x3.1 false (Z4 #[]),()))| .inr y2=>some y2
def Lt:=kP sE (kP jx (kP sF (kP yQ k0)))
def x64:Xc vw:=mX prog 67 Lt.1 Yt [(17,Qf,[.norm, .ret])] [(6,Tv),(11,Qg),(15,Qh)] []
theorem wZ:aM prog 64 Sq QU:=fn0 x64 Tryz.func64 Lt.2
abbrev SB:Pt SN:= .dat (.sl (.st .itemT))
abbrev lC:OPt SN:= .vec 65 (.st .itemT)
def fC:Cut SN:=⟨[(0,Dq3),(1,Dq1),(2,SB),(3,Dq1),(4,Dq4),(11, .bp 11 0),(12, .bp 12 0),(13, .bp 13 0),(14, .vh 1014),(15,Dq1)],[(11, .box none [Dq1,Dq1,Dq1, .vh 3113,Dq1, .vh 3115,Dq1]),(12, .st .itemT),(13, .st .logT),(1014,lC),(3113,Oq7),(3115,lC)]⟩
def eN:Cut SN:=⟨[(0,Dq3),(1,Dq1),(3,Dq1),(4,Dq4),(11, .bp 11 0),(12, .bp 12 0),(13, .bp 13 0),(14, .vh 1014),(16, .vh 1016),(17,Dq1)],[(11, .box none [Dq1,Dq1,Dq1, .vh 3113,Dq1, .vh 3115,Dq1]),(12, .st .itemT),(13, .st .logT),(1014,lC),(1016,lC),(3113,Oq7),(3115,lC)]⟩
def nZ:Cut SN:=⟨[(0,Dq3),(1,Dq1),(3,Dq1),(4,Dq4),(11, .bp 11 0),(12, .bp 12 0),(13, .bp 13 0),(14, .vh 1014)],[(11, .box none [Dq1,Dq1,Dq1, .vh 3113,Dq1, .vh 3115,Dq1]),(12, .st .itemT),(13, .st .logT),(1014,lC),(3113,Oq7),(3115,lC)]⟩
def vX:Cut SN:=⟨[(0,Dq3),(1,Dq1),(3,Dq1),(4,Dq4),(11, .bp 11 0),(12, .bp 12 0),(13, .bp 13 0),(14, .vh 1014),(16, .vh 1016),(17,Dq1),(18, .bp 18 0),(19, .bp 19 0),(20,Dq1)],[(11, .box none [Dq1,Dq1,Dq1, .vh 3113,Dq1, .vh 3115,Dq1]),(12, .st .itemT),(13, .st .logT),(1014,lC),(1016,lC),(18, .st .myCodeT),(19, .st .itemT),(3113,Oq7),(3115,lC)]⟩
def vY:Cut SN:=⟨[(0,Dq3),(1,Dq1),(3,Dq1),(4,Dq4),(11, .bp 11 0),(12, .bp 12 0),(13, .bp 13 0),(14, .vh 1014),(16, .vh 1016),(17,Dq1),(18, .bp 18 0),(19, .bp 19 0),(20,Dq1),(21,Dq1),(117,Dq1),(239,Dq4)],[(11, .box none [Dq1,Dq1,Dq1, .vh 3113,Dq1, .vh 3115,Dq1]),(12, .st .itemT),(13, .st .logT),(1014,lC),(1016,lC),(18, .st .myCodeT),(19, .st .itemT),(3113,Oq7),(3115,lC)]⟩
def vZ:Cut SN:=⟨[(0,Dq3),(1,Dq1),(3,Dq1),(4,Dq4),(11, .bp 11 0),(12, .bp 12 0),(13, .bp 13 0),(14, .vh 1014),(16, .vh 1016),(17,Dq1),(21,Dq1)],[(11, .box none [Dq1,Dq1,Dq1, .vh 3113,Dq1, .vh 3115,Dq1]),(12, .st .itemT),(13, .st .logT),(1014,lC),(1016,lC),(3113,Oq7),(3115,lC)]⟩
def v6:Cut SN:=⟨[(0,Dq3),(1,Dq1),(3,Dq1),(4,Dq4),(11, .bp 11 0),(12, .bp 12 0),(13, .bp 13 0),(14, .vh 1014),(67,Dq4)],[(11, .box none [Dq1,Dq1,Dq1, .vh 3113,Dq1, .vh 3115,Dq1]),(12, .st .itemT),(13, .st .logT),(1014,lC),(3113,Oq7),(3115,lC)]⟩
def v7:Cut SN:=⟨[(0,Dq3),(1,Dq1),(3,Dq1),(4,Dq4),(11, .bp 11 0),(12, .bp 12 0),(13, .bp 13 0),(14, .vh 1014),(16, .vh 1016),(17,Dq1),(19, .bp 19 0),(21,Dq1),(182,Dq4)],[(11, .box none [Dq1,Dq1,Dq1, .vh 3113,Dq1, .vh 3115,Dq1]),(12, .st .itemT),(13, .st .logT),(1014,lC),(1016,lC),(19, .st .itemT),(3113,Oq7),(3115,lC)]⟩
def v8:Cut SN:=⟨[(0,Dq3),(1,Dq1),(3,Dq1),(4,Dq4),(11, .bp 11 0),(12, .bp 12 0),(13, .bp 13 0),(14, .vh 1014),(16, .vh 1016),(17,Dq1),(18, .bp 18 0),(21,Dq1),(22,SB)],[(11, .box none [Dq1,Dq1,Dq1, .vh 3113,Dq1, .vh 3115,Dq1]),(12, .st .itemT),(13, .st .logT),(1014,lC),(1016,lC),(18, .st .myCodeT),(3113,Oq7),(3115,lC)]⟩
def tD:Cut SN:=⟨[(12, .bp 12 0),(13, .bp 13 0)],[(12, .st .itemT),(13, .box none [Dq1,Dq1,Dq1, .vh 6133,Dq1, .vh 6135,Dq1]),(6133,Oq7),(6135,lC)]⟩
def gY:aN vw:=shL [(0,nZ)] tD
def jC:Nat->Bool:=λk=>match k with|2000044=>true|3000215=>true|3000226=>true|3000258=>true|3000302=>true|3000331=>true|5000167=>true|5000193=>true|5000269=>true|5000287=>true|_=>false
def c8:Sig vw:={params:=[Dq3,Dq1,SB,Dq1,Dq4, .ag [.inl (.int .i64), .inl (.int .i64), .inl (.int .i64), .inr 100000, .inl (.int .i64), .inr 100001, .inl (.int .i64)]],objs:=[(100000,Oq7),(100001,lC)],rcut:=tD,rvars:=[.cell 12 65, .cell 13 68],keep:=[6133,6135]}
abbrev Tq9:=(List aB)×Int×(List Item)×Int×Bool×Int×Int×Int×Int×Int×Int×Item×Log×(List Item)×(List Int)×(List Item)×Unit
abbrev Mh:=(List aB)×Int×Int×Bool×Int×Int×Int×Int×Int×Item×Log×(List Item)×(List Int)×(List Item)×Unit
noncomputable def bM(v:Tq9):Option ((Mh)):=let c:=v.2.2;let a:=c.2.2.2;let b:=a.2.2.2.2.2;if decide (a.1<(↑c.1.length:Int))=true then if 0<=a.1 then c.1[a.1.toNat]?>>=λx1=>if 0<=a.1/\a.1<(↑b.2.2.2.1.length:Int)then b.2.2.2.1[a.1.toNat]?>>=λx2=>bM (v.1,v.2.1,c.1,c.2.1,c.2.2.1,i64.wrap (a.1+1),a.2.1,a.2.2.1,a.2.2.2.1,a.2.2.2.2.1,b.1,b.2.1,b.2.2.1,b.2.2.2.1.set a.1.toNat x1,b.2.2.2.2)else none else none else some (v.1,v.2.1,c.2.1,c.2.2.1,a.2) partial_fixpoint
abbrev Tq6:=(List aB)×Int×Int×Bool×Int×Int×Int×Int×Int×Int×Item×Log×(List Item)×(List Item)×(List Int)×(List Item)×Unit
abbrev Tq8:=Item×Int×Int×Int×Int×Int×(List Int)×(List Item)×Unit
abbrev Mi:=(List aB)×Int×(List Item)×Int×Bool×Int×Int×Int×Int×Int×(List Int)×(List Item)×Unit
mutual
noncomputable def aA(v:Tq6):Option ((Tq8)):=let d:=v.2.2;let c:=d.2.2.2.2;let e:=c.2.2;if(c.2.1==40000)=true then some ((Item.mk 0 false (Z4 #[]),(2:Int),c.1,c.2.1,e.1,e.2.1,e.2.2.2.2.2.2))else(if(d.1==1)=true then some ((v.1,v.2.1,d.1,d.2.1,d.2.2.1,d.2.2.2.1,c.1,i64.wrap (c.2.1+1),max e.1 (↑e.2.2.2.2.2.1.length:Int),e.2))else some ((v.1,v.2.1,d.1,d.2.1,d.2.2.1,d.2.2.2.1,c.1,i64.wrap (c.2.1+1),e)))>>=λx1=>let i:=x1.2;let g:=i.2.2.2;let j:=g.2.2;let f:=j.2.2.2;let k:=f.2.2;let h:=k.2.2.1;if 0<=i.1 then x1.1[i.1.toNat]?>>=λx2=>if 0<=g.1 then x2.code[g.1.toNat]?>>=λx3=>(if decide (i64.wrap ((↑h.length:Int) -1)>=0)=true then if 0<=i64.wrap ((↑h.length:Int) -1)/\i64.wrap ((↑h.length:Int) -1)<(↑h.length:Int)then h[(i64.wrap ((↑h.length:Int) -1)).toNat]?>>=λx4=>some ((x1.1,i.1,i.2.1,i.2.2.1,i64.wrap (g.1+1),i64.wrap ((↑h.length:Int) -1),g.2.1,j.1,j.2.1,j.2.2.1,f.1,f.2.1,k.1,k.2.1,h,x3,x4,k.2.2.2))else none else some ((x1.1,i.1,i.2.1,i.2.2.1,i64.wrap (g.1+1),i64.wrap ((↑h.length:Int) -1),g.2.1,j.1,j.2.1,j.2.2.1,f.1,f.2.1,k.1,k.2.1,h,x3,Item.mk 0 false (Z4 #[]),k.2.2.2)))>>=λx4=>let p:=x4.2.2;let m:=p.2.2.2;let r:=m.2.2;let l:=r.2.2.2;let o:=l.2.2.2.2;let q:=o.2.1;let s:=l.2.2.2.1;let t:=p.2.2.1;let u:=x4.2.1;let w:=o.1;let z:=p.2.1;let aa:=r.2.2.1;let ab:=l.2.2.1;let ac:=o.2.2.2;let G7:=(i64.wrap (m.1-1));let G5:=(x4.1,u,p.1,z,t,m.1,(0:Int),q.op,true,m.2);let G2:=(m.2.1,r.1,r.2.1,aa,l.1,l.2.1,ab,s.set q.a.toNat o.2.2.1,abg m.1.toNat w,o.2.2);let G12:=(x4.1,u,p.1,z,t,(0:Int),false,G2);(if(q.op==0)=true then QR (q.type0,q.a,())>>=λx5=>if w.length+[x5.1].length<=4294967296 then some (aaL (x4.1,u,p.1,z,t,(0:Int),m.2.1,r.1,r.2.1,aa,l.1,l.2.1,ab,s,w++[x5.1],ac))else none else if(q.op==1)=true then if w.length+[Item.mk 0 true (Z4 #[])].length<=4294967296 then some (aaL (x4.1,u,p.1,z,t,(0:Int),m.2.1,r.1,r.2.1,aa,l.1,l.2.1,ab,s,w++[Item.mk 0 true (Z4 #[])],ac))else none else if(q.op==18)=true then if w.length+[Item.mk 0 false q.name0].length<=4294967296 then some (aaL (x4.1,u,p.1,z,t,(0:Int),m.2.1,r.1,r.2.1,aa,l.1,l.2.1,ab,s,w++[Item.mk 0 false q.name0],ac))else none else if(q.op==2)=true then if 0<=q.a/\q.a<(↑s.length:Int)then s[q.a.toNat]?>>=λx5=>if w.length+[x5].length<=4294967296 then some (aaL (x4.1,u,p.1,z,t,(0:Int),m.2.1,r.1,r.2.1,aa,l.1,l.2.1,ab,s,w++[x5],ac))else none else none else if(q.op==3)=true then if 0<=q.a/\q.a<(↑s.length:Int)then s[q.a.toNat]?>>=λx5=>if 0<=m.1 then if m.1<=(↑w.length:Int)then(if(p.1==1)=true then if(l.1==q.a)=true then some ((x4.1,u,p.1,z,t,(0:Int),decide ((↑ac.2.1.length:Int)<100),G2))else some (G12)else some (G12))>>=λx6=>let af:=x6.2.2.2.2;let ad:=af.2.2.2.2.2;let ae:=ad.2.2.2.2.2;if af.2.2.1=true then if ae.2.2.2.2.1.length+[ae.2.2.1].length<=4294967296 then some (aaL (x6.1,x6.2.1,x6.2.2.1,x6.2.2.2.1,af.1,af.2.1,af.2.2.2.1,af.2.2.2.2.1,ad.1,ad.2.1,ad.2.2.1,ad.2.2.2.1,ad.2.2.2.2.1,ae.1,ae.2.1,ae.2.2.2.1,ae.2.2.2.2.1++[ae.2.2.1],()))else none else some (aaL (x6.1,x6.2.1,x6.2.2.1,x6.2.2.2.1,af.1,af.2.1,af.2.2.2.1,af.2.2.2.2.1,ad.1,ad.2.1,ad.2.2.1,ad.2.2.2.1,ad.2.2.2.2.1,ae.1,ae.2.1,ae.2.2.2))else none else none else none else if(q.op==4)=true then if 0<=m.1 then if m.1<=(↑w.length:Int)then some (aaL (x4.1,u,p.1,z,t,(0:Int),m.2.1,r.1,r.2.1,aa,l.1,l.2.1,ab,s,abg m.1.toNat w,ac))else none else none else if(q.op==5)=true then if 0<=i64.wrap (m.1-1)/\i64.wrap (m.1-1)<(↑w.length:Int)then w[G7.toNat]?>>=λx5=>QS (q.a,q.type0,x5,o.2.2.1,z,())>>=λx6=>if(0:Int)<=0/\0<=i64.wrap (m.1-1)/\i64.wrap (m.1-1)<=(↑w.length:Int)then if aav 0+(G7.toNat-aav 0)<=w.length then if 0+(G7.toNat-aav 0)<=4294967296 then if([]++abg (G7.toNat-aav 0) w).length+[x6.2.1].length<=4294967296 then some (aaL (x4.1,u,p.1,z,t,x6.1,m.2.1,r.1,r.2.1,aa,l.1,l.2.1,ab,s,[]++abg (G7.toNat-aav 0) w++[x6.2.1],ac))else none else none else none else none else none else if(q.op==6)=true then if(0:Int)<=0/\0<=i64.wrap (m.1-1)/\i64.wrap (m.1-1)<=(↑w.length:Int)then if aav 0+(G7.toNat-aav 0)<=w.length then if 0+(G7.toNat-aav 0)<=4294967296 then if 0<=i64.wrap (m.1-1)/\i64.wrap (m.1-1)<(↑w.length:Int)then w[G7.toNat]?>>=λx5=>QT (q.a,x5,o.2.2.1,())>>=λx6=>if([]++abg (G7.toNat-aav 0) w).length+[x6.1].length<=4294967296 then some (aaL (x4.1,u,p.1,z,t,(0:Int),m.2.1,r.1,r.2.1,aa,l.1,l.2.1,ab,s,[]++abg (G7.toNat-aav 0) w++[x6.1],ac))else none else none else none else none else none else(if(q.op==7)=true then some (G5)else if(q.op==8)=true then some (G5)else if(q.op==9)=true then some (G5)else if(q.op==10)=true then some (G5)else some ((x4.1,u,p.1,z,t,m.1,(0:Int),q.op,q.op==11,m.2)))>>=λx5=>let ak:=x5.2.2;let ai:=ak.2.2.2;let aj:=ai.2.2.2.2;let ag:=aj.2.2.2;let al:=ag.2.2;let ah:=al.2.2.2;let am:=ah.1;let an:=ah.2;let ao:=ak.2.1;let ap:=ai.2.2.1;let G8:=(aj.1,aj.2.1,aj.2.2.1,ag.1,ag.2.1,an.2.2);let G4:=(i64.wrap ((↑am.length:Int) -an.1.b));let G3:=(ai.2.1,aj.1,aj.2.1,aj.2.2.1,ag.1,ag.2.1,al.1,al.2.1,al.2.2.1,abg ai.1.toNat am,an.2.2);let G10:=(x5.1,x5.2.1,ak.1,ao,an.1.a,G3);let G1:=(aj.1,aj.2.1,aj.2.2.1,ag.1,ag.2.1,al.1,al.2.1,al.2.2.1,am,an.2.2);let G11:=(x5.1,x5.2.1,ak.1,ao,ak.2.2.1,ai.2.1,G1);let G9:=(x5.1,x5.2.1,ak.1,ao,an.1.a,ai.2.1,G1);if ai.2.2.2.1=true then QU (an.1.op,an.1.type0,an.2.1,ao,())>>=λx6=>if(0:Int)<=0/\0<=ai.1/\ai.1<=(↑am.length:Int)then if aav 0+(ai.1.toNat-aav 0)<=am.length then if 0+(ai.1.toNat-aav 0)<=4294967296 then if([]++abg (ai.1.toNat-aav 0) am).length+[x6.2.1].length<=4294967296 then some (aaL (x5.1,x5.2.1,ak.1,ao,ak.2.2.1,x6.1,aj.1,aj.2.1,aj.2.2.1,ag.1,ag.2.1,al.1,al.2.1,al.2.2.1,[]++abg (ai.1.toNat-aav 0) am++[x6.2.1],an.2.2))else none else none else none else none else if(ap==12)=true then if an.2.1.null=true then if 0<=ai.1 then if ai.1<=(↑am.length:Int)then some (aaL G10)else none else none else some (aaL G11)else if(ap==13)=true then if(!an.2.1.err.toList==(Z4 #[]).toList)=true then some (aaL G9)else some (aaL G11)else if(ap==14)=true then some (aaL G9)else if(ap==15)=true then if 0<=ai.1 then if ai.1<=(↑am.length:Int)then if(an.2.1.n==0)=true then some (aaL G10)else some (aaL (x5.1,x5.2.1,ak.1,ao,ak.2.2.1,G3))else none else none else if(ap==16)=true then(if 0<=i64.wrap ((↑am.length:Int) -an.1.b)/\i64.wrap ((↑am.length:Int) -an.1.b)<=(↑am.length:Int)/\(↑am.length:Int)<=(↑am.length:Int)then if G4.toNat+((↑am.length:Int).toNat-G4.toNat)<=am.length then if 0+((↑am.length:Int).toNat-G4.toNat)<=4294967296 then some ((x5.1,x5.2.1,ak.1,ao,ak.2.2.1,ai.2.1,[]++abg ((↑am.length:Int).toNat-G4.toNat) (acp G4.toNat am),aj.1,aj.2.1,aj.2.2.1,ag.1,ag.2.1,al.1,al.2.1,al.2.2.1,am,an.1,an.2.2))else none else none else none)>>=λx6=>let ar:=x6.2.2.2.2.2.2;let aq:=ar.2.2.2.2.2.2.2;let au:=aq.2.2;let G6:=(i64.wrap ((↑au.1.length:Int) -au.2.1.b));NJ (x6.1,au.2.1.name0,())>>=λx7=>n_44s5ed9 (x6.1,x7.1,ar.1,i64.wrap (x6.2.2.1+1),x6.2.2.2.1,ar.2.1,ar.2.2.1,ar.2.2.2.1,ar.2.2.2.2.1,ar.2.2.2.2.2.1,au.2.2)>>=λx8=>if(x8.2.1 !=0)=true then some (abc (Item.mk 0 false (Z4 #[]),x8.2))else if(0:Int)<=0/\0<=i64.wrap ((↑au.1.length:Int) -au.2.1.b)/\i64.wrap ((↑au.1.length:Int) -au.2.1.b)<=(↑au.1.length:Int)then if aav 0+(G6.toNat-aav 0)<=au.1.length then if 0+(G6.toNat-aav 0)<=4294967296 then if([]++abg (G6.toNat-aav 0) au.1).length+[x8.1].length<=4294967296 then some (aaL (x6.1,x6.2.1,x6.2.2.1,x6.2.2.2.1,x6.2.2.2.2.1,x6.2.2.2.2.2.1,x8.2.1,x8.2.2.1,x8.2.2.2.1,x8.2.2.2.2.1,x8.2.2.2.2.2.1,ar.2.2.2.2.2.2.1,aq.1,aq.2.1,[]++abg (G6.toNat-aav 0) au.1++[x8.1],x8.2.2.2.2.2.2))else none else none else none else none else if(ap==17)=true then some (abc (an.2.1,G8))else if(!ao)=true then some (abc (Item.mk 0 false (Z4 #[]),G8))else some (aaL (x5.1,x5.2.1,ak.1,ao,ak.2.2.1,an.1.a,G1)))>>=λx5=>match x5 with| .inl y5=>let ax:=y5.2.2;let av:=ax.2.2.2;let aw:=av.2.2.2;if(av.1 !=0)=true then some ((Item.mk 0 false (Z4 #[]),(1:Int),av.1,aw.1,aw.2.1,aw.2.2.1,aw.2.2.2.2.2.2.2))else if(ax.1==1)=true then aA (y5.1,y5.2.1,ax.1,ax.2.1,ax.2.2.1,av.2.1,av.2.2.1,aw.1,max aw.2.1 (↑aw.2.2.2.2.2.2.1.length:Int),aw.2.2)else aA (y5.1,y5.2.1,ax.1,ax.2.1,ax.2.2.1,av.2)| .inr y5=>some y5 else none else none partial_fixpoint
noncomputable def n_44s5ed9(v:Mi):Option (Tq8):=let d:=v.2.2.2;let a:=d.2.2.2;let b:=a.2.2.2.2.1;let c:=v.2.1;if decide (d.1>30)=true then some ((Item.mk 0 false (Z4 #[]),(2:Int),a))else if 0+b.length<=4294967296 then if 0<=c/\c<(↑([]++b).length:Int)then([]++b)[c.toNat]?>>=λx1=>if 0<=c/\c<(↑([]++b).length:Int)then([]++b)[c.toNat]?>>=λx2=>if 0<=c then v.1[c.toNat]?>>=λx3=>if 0<=x3.places then if x3.places<=4294967296 then bM (v.1,c,v.2.2.1,d.1,d.2.1,(0:Int),d.2.2.1,a.1,a.2.1,a.2.2.1,a.2.2.2.1,Item.mk 0 false (Z4 #[]),Log.mk (0:Int) (0:Int) (0:Int) [] (0:Int) [] (0:Int),aap x3.places.toNat (Item.mk 0 false (Z4 #[])),([]++b).set c.toNat (i64.wrap (x1+1)),a.2.2.2.2.2)>>=λx4=>let e:=x4.2.2;((if(e.1==1)=true then some ((x4.1,x4.2.1,e.1,e.2.1,decide (e.2.2.2.2.2.2.1>=0),e.2.2))else some (x4.1,x4.2.1,e.1,e.2.1,false,e.2.2))>>=λx5=>let g:=x5.2.2.2;let f:=g.2.2.2.2.2.2;let h:=f.2.2.2;if g.2.1=true then if 0<=f.1/\f.1<(↑h.1.length:Int)then h.1[f.1.toNat]?>>=λx6=>if h.2.2.1.length+[x6].length<=4294967296 then some ((x5.1,x5.2.1,x5.2.2.1,g.1,g.2.2.1,g.2.2.2.1,g.2.2.2.2.1,g.2.2.2.2.2.1,f.1,f.2.1,f.2.2.1,h.1,h.2.1,h.2.2.1++[x6],()))else none else none else some (x5.1,x5.2.1,x5.2.2.1,g.1,g.2.2))>>=λx5=>let i:=x5.2.2.2.2.2.2;aA (x5.1,x5.2.1,x5.2.2.1,x5.2.2.2.1,(0:Int),x5.2.2.2.2.1,x5.2.2.2.2.2.1,i.1,i.2.1,i.2.2.1,i.2.2.2.1,i.2.2.2.2.1,i.2.2.2.2.2.1,[],i.2.2.2.2.2.2)>>=λx6=>some x6 else none else none else none else none else none else none partial_fixpoint
end
def g7(bM:Tq9->Option ((Mh)))(aA:Tq6->Option ((Tq8)))(n_44s5ed9:Mi->Option (Tq8)):dh vw:=λA fid args S k=>match fid with|36=>ct prog Sk NJ A args S k|44=>cx prog c8 n_44s5ed9 A args S k|61=>ct prog Sn QR A args S k|62=>ct prog So QS A args S k|63=>ct prog Sp QT A args S k|64=>ct prog Sq QU A args S k|_=>none
def cA(bM:Tq9->Option ((Mh)))(aA:Tq6->Option ((Tq8)))(n_44s5ed9:Mi->Option (Tq8)):Xc vw:={P:=prog,n:=355,nm:=λd=>match d with|30=>40030|211=>40211|222=>40222|255=>40255|295=>40295|324=>40324|_=>d,call:=g7 bM aA n_44s5ed9,pre:=jC,sh:=gY,joins:=λk=>match k with|13=>some (nZ,[.norm])|21=>some (eN,[.norm])|27=>some (vX,[.norm])|57=>some (vY,[.norm])|81=>some (vZ,[.norm, .ret])|_=>none,regs:=λk=>match k with|11=>some v6|43=>some v7|73=>some v8|_=>none,loops:=λk=>match k with|8=>some {cut:=fC,alts:=[.exit 0],F:=bM}|15=>some {cut:=eN,alts:=[.ret],F:=aA}|_=>none}
abbrev gq(v:Tq9)(r:(Mh)):Prop:=(λv out=>∀C:Ctx,C.P=prog->C.N=355/\Fx C jC->pX C (aS (aO Tryz.f44) 0) (Go.Tx.a_ vw (fk vw fC v)) (xV gY [.exit 0] out)) v r
theorem tM(f0:Tq9->Option ((Mh)))(h0:∀v r,f0 v=some r->gq v r):bG prog (cA f0 (λ_=>none) (λ_=>none)).call:=(by
 intro A fid args S dst k r h
 unfold cA g7 at h
 simp only at h
 split at h
 ·exact aR (pa) rfl rfl h
 ·exact aP ((λv r x h hx=>by cases h)) h
 ·exact aR (wW) rfl rfl h
 ·exact aR (wX) rfl rfl h
 ·exact aR (wY) rfl rfl h
 ·exact aR (wZ) rfl rfl h
 ·cases h)
theorem vd(f0:Tq9->Option ((Mh)))(h0:∀v r,f0 v=some r->gq v r)(v:Tq9)(r:(Mh))(h:exL (cA f0 (λ_=>none) (λ_=>none)) (aS (aO Tryz.f44) 0) fC [.exit 0] f0 v=some r):gq v r:=λC hP hN=>gM (X:=cA f0 (λ_=>none) (λ_=>none)) (b:=(aS (aO Tryz.f44) 0)) hP hN Ty.mixed (tM f0 h0) (eT (X:=cA f0 (λ_=>none) (λ_=>none)) (c:=(aS (aO Tryz.f44) 0)) (fG (by kernel_rfl:True=pW (e7 C (cA f0 (λ_=>none) (λ_=>none))) (cz (aS (aO Tryz.f44) 0))) trivial)) (cut:=fC) (alts:=[.exit 0]) (F:=f0) (λv out h=>h0 v out h C hP hN) h
theorem qh:∀v out,bM v=some out->(λv out=>∀C:Ctx,C.P=prog->C.N=355/\Fx C jC->pX C (aS (aO Tryz.f44) 0) (Go.Tx.a_ vw (fk vw fC v)) (xV gY [.exit 0] out)) v out:=(bM.partial_correctness (motive:=gq) (λf0 h0 v r h=>vd f0 h0 v r (fG (by kernel_rfl) h)))
abbrev dD(v:Tq6)(r:(Tq8)):Prop:=(λv out=>∀C:Ctx,C.P=prog->C.N=355/\Fx C jC->pX C (aS (aO Tryz.f44) 1) (Go.Tx.a_ vw (fk vw eN v)) (xV gY [.ret] out)) v r
abbrev gP(v:Mi)(r:Tq8):Prop:=(λv r=>∀x,GD prog c8 r=some x->ma prog 44 (encL vw (cC c8 v).len (d7 c8 v).1) (eP (cC c8 v).len (cC c8 v).own) (aL vw (fk vw c8.rcut r).len x) (eP (fk vw c8.rcut r).len (qd c8 r))) v r
theorem r_(f0:Tq6->Option ((Tq8)))(f1:Mi->Option (Tq8))(h0:∀v r,f0 v=some r->dD v r)(h1:∀v r,f1 v=some r->gP v r):bG prog (cA (λ_=>none) f0 f1).call:=(by
 intro A fid args S dst k r h
 unfold cA g7 at h
 simp only at h
 split at h
 ·exact aR (pa) rfl rfl h
 ·exact aP ((λv r x h hx=>h1 v r h x hx)) h
 ·exact aR (wW) rfl rfl h
 ·exact aR (wX) rfl rfl h
 ·exact aR (wY) rfl rfl h
 ·exact aR (wZ) rfl rfl h
 ·cases h)
theorem s6(f0:Tq6->Option ((Tq8)))(f1:Mi->Option (Tq8))(h0:∀v r,f0 v=some r->dD v r)(h1:∀v r,f1 v=some r->gP v r)(v:Tq6)(r:(Tq8))(h:exL (cA (λ_=>none) f0 f1) (aS (aO Tryz.f44) 1) eN [.ret] f0 v=some r):dD v r:=λC hP hN=>gM (X:=cA (λ_=>none) f0 f1) (b:=(aS (aO Tryz.f44) 1)) hP hN Ty.mixed (r_ f0 f1 h0 h1) (eT (X:=cA (λ_=>none) f0 f1) (c:=(aS (aO Tryz.f44) 1)) (fG (by kernel_rfl:True=pW (e7 C (cA (λ_=>none) f0 f1)) (cz (aS (aO Tryz.f44) 1))) trivial)) (cut:=eN) (alts:=[.ret]) (F:=f0) (λv out h=>h0 v out h C hP hN) h
theorem Am(f0:Tq6->Option ((Tq8)))(h0:∀v r,f0 v=some r->dD v r):bG prog (cA bM f0 (λ_=>none)).call:=(by
 intro A fid args S dst k r h
 unfold cA g7 at h
 simp only at h
 split at h
 ·exact aR (pa) rfl rfl h
 ·exact aP ((λv r x h hx=>by cases h)) h
 ·exact aR (wW) rfl rfl h
 ·exact aR (wX) rfl rfl h
 ·exact aR (wY) rfl rfl h
 ·exact aR (wZ) rfl rfl h
 ·cases h)
theorem BN(f0:Tq6->Option ((Tq8)))(h0:∀v r,f0 v=some r->dD v r)(v:Mi)(r:Tq8)(h:exF (cA bM f0 (λ_=>none)) c8 rfl (aO Tryz.f44) v=some r):gP v r:=λx hx=>Ay (X:=cA bM f0 (λ_=>none)) (sig:=c8) rfl Tryz.func44 (c:=aO Tryz.f44) (by kernel_rfl) Tryz.ntmps44 (by kernel_rfl) (by kernel_rfl) rfl Ty.mixed (Am f0 h0) rfl (λC hP hN=>(eT (X:=cA bM f0 (λ_=>none)) (c:=(aO Tryz.f44)) (fG (by kernel_rfl:pW (e7 C (cA bM f0 (λ_=>none))) [(aS (aO Tryz.f44) 0),(aS (aO Tryz.f44) 1)]=pW (e7 C (cA bM f0 (λ_=>none))) (cz (aO Tryz.f44))) ⟨iY (X:=cA bM f0 (λ_=>none)) (b:=(aS (aO Tryz.f44) 0)) (by kernel_rfl) (show gD C (aS (aO Tryz.f44) 0) (sh:=gY) {cut:=fC,alts:=[.exit 0],F:=bM}fromλv out h=>qh v out h C hP hN),iY (X:=cA bM f0 (λ_=>none)) (b:=(aS (aO Tryz.f44) 1)) (by kernel_rfl) (show gD C (aS (aO Tryz.f44) 1) (sh:=gY) {cut:=eN,alts:=[.ret],F:=f0}fromλv out h=>h0 v out h C hP hN),trivial⟩))) h x hx
theorem m9:(∀v r,aA v=some r->dD v r)/\(∀v r,n_44s5ed9 v=some r->gP v r):=by
 refine aA.mutual_partial_correctness
  (motive_1:=dD)
  (motive_2:=gP)
  ?_ ?_
 ·exact(λf0 f1 h0 h1 v r h=>s6 f0 f1 h0 h1 v r (fG (by kernel_rfl) h))
 ·exact(λf0 h0 v r h=>BN f0 h0 v r (fG (by kernel_rfl) h))
theorem uu:aM prog 44 c8 n_44s5ed9:=λv r x h hx=>m9.2 v r h x hx
def X5:aN vw:={rcut:=GP}
def VD:Sig vw:=sg [Tc] GP [.cell 2 65]
noncomputable def TT(v:aE×Unit):Option (Item×Unit):=some ((Item.mk v.1.n v.1.null v.1.err,()))
def x35:Xc vw:=mX prog 10 c0 X5 [] [] []
theorem NI:aM prog 35 VD TT:=fn0 x35 Tryz.func35 bT
def P6:Cut SN:=⟨[(0,rU),(3, .vh 1003),(4,Dq1)],[(1003,lC)]⟩
def Tq:Cut SN:=⟨[(3, .vh 1003)],[(1003,lC)]⟩
def WK:Cut SN:=⟨[(2,SB)],[]⟩
def Yc:aN vw:=shL [(0,Tq)] WK
def VJ:Sig vw:=sg [rU] WK [.tmp 2]
noncomputable def mm(v:(List aE)×Int×(List Item)×Unit):Option (((List Item)×Unit)):=if decide (v.2.1<(↑v.1.length:Int))=true then if 0<=v.2.1 then v.1[v.2.1.toNat]?>>=λx1=>TT (x1,())>>=λx2=>if v.2.2.1.length+[x2.1].length<=4294967296 then mm (v.1,i64.wrap (v.2.1+1),v.2.2.1++[x2.1],())else none else none else some (v.2.2) partial_fixpoint
noncomputable def SR(v:(List aE)×Unit):Option ((List Item)×Unit):=mm (v.1,(0:Int),[],())>>=λx1=>some (x1)
def Dg:=kP NI k0
def x45:Xc vw:=mX prog 20 Dg.1 Yc [] [] [(3,⟨P6,[.exit 0],mm⟩)]
theorem EK:gh x45 (aS (aO Tryz.f45) 0) ⟨P6,[.exit 0],mm⟩:=lp0 mm.partial_correctness Dg.2
theorem NO:aM prog 45 VJ SR:=fn1 x45 Tryz.func45 Dg.2 EK
def WI:Cut SN:=⟨[(10, .bp 10 0),(11, .bp 11 0)],[(10, .st .itemT),(11, .st .logT)]⟩
def X4:aN vw:={rcut:=WI}
def TZ:Nat->Bool:=λk=>match k with|1000023=>true|2000044=>true|_=>false
def VC:Sig vw:=sg [Dq3,Dq5,rU,Dq4,Dq1] WI [.cell 10 65, .cell 11 68]
noncomputable def OY(v:(List aB)×ByteArray×(List aE)×Bool×Int×Unit):Option (Item×Log×Unit):=NJ (v.1,v.2.1,())>>=λx1=>SR (v.2.2.1,())>>=λx2=>if(↑v.1.length:Int)<=4294967296 then n_44s5ed9 (v.1,x1.1,x2.1,(1:Int),v.2.2.2.1,(0:Int),(0:Int),(0:Int),(0:Int),v.2.2.2.2.1,aap (↑v.1.length:Int).toNat (0:Int),[],())>>=λx3=>let a:=x3.2.2.2;some ((x3.1,Log.mk x3.2.1 x3.2.2.1 a.1 a.2.2.2.1 a.2.1 a.2.2.2.2.1 a.2.2.1,()))else none
def Lj:=kP pa (kO uu (kP NO k0))
def x31:Xc vw:={P:=prog,n:=27,call:=Lj.1,pre:=TZ,sh:=X4}
theorem EA:aM prog 31 VC OY:=fn0 x31 Tryz.func31 Lj.2
def XW:aN vw:={rcut:=iI}
def Vu:Sig vw:=sg [Dq3,Dq5,rU,Dq4] iI [.tmp 8, .tmp 9]
noncomputable def SI(v:O9):Option (Int×Int×Unit):=OX (v.1,v.2.1,v.2.2.1,())>>=λx1=>if(x1.2.1 !=0)=true then some (((0:Int),x1.2))else NH (v.1,x1.1,v.2.2.1,v.2.2.2.1,(-1:Int),())>>=λx2=>some ((x2.2.2.1,(0:Int),()))
def Lb:=kP wQ (kO wR k0)
def x14:Xc vw:=mX prog 36 Lb.1 XW [] [] []
theorem Ns:aM prog 14 Vu SI:=fn0 x14 Tryz.func14 Lb.2
end Go.Proofs.YtcghbgmmgcljkaaGreatDoor
end
section
namespace Go.Proofs.YtcghbgmmgcljkaaGreatDoor
open Go.Awp Go.Tx
open IntKind (i64)
open Go.Proofs.Tryz (prog)
set_option maxHeartbeats 4000000
set_option maxRecDepth 100000
def XX:aN vw:={rcut:=iI}
def Vv:Sig vw:=sg [Dq3,Dq5,rU,Dq4] iI [.tmp 8, .tmp 9]
noncomputable def SJ(v:O9):Option (Int×Int×Unit):=QN (v.1,v.2.1,v.2.2.1,())>>=λx1=>if(x1.1 !=0)=true then some (((0:Int),x1))else OY (v.1,v.2.1,v.2.2.1,v.2.2.2.1,(-1:Int),())>>=λx2=>some ((x2.2.1.steps,(0:Int),()))
def Lc:=kP Ez (kP EA k0)
def x20:Xc vw:=mX prog 30 Lc.1 XX [] [] []
theorem ND:aM prog 20 Vv SJ:=fn0 x20 Tryz.func20 Lc.2
def SE:Cut SN:=⟨[(8,Ca),(9,Dq1)],[]⟩
def XY:aN vw:={rcut:=SE}
def Vw:Sig vw:=sg [Dq3,Dq5,rU,Dq4] SE [.tmp 8, .tmp 9]
noncomputable def SK(v:O9):Option ((List Int)×Int×Unit):=OX (v.1,v.2.1,v.2.2.1,())>>=λx1=>if(x1.2.1 !=0)=true then some ([],x1.2)else NH (v.1,x1.1,v.2.2.1,v.2.2.2.1,(-1:Int),())>>=λx2=>some ((x2.2.2.2.2.2.2.1,(0:Int),()))
def Ld:=kP wQ (kO wR k0)
def x21:Xc vw:=mX prog 36 Ld.1 XY [] [] []
theorem NE:aM prog 21 Vw SK:=fn0 x21 Tryz.func21 Ld.2
def XZ:aN vw:={rcut:=SE}
def Vx:Sig vw:=sg [Dq3,Dq5,rU,Dq4] SE [.tmp 8, .tmp 9]
noncomputable def SL(v:O9):Option ((List Int)×Int×Unit):=QN (v.1,v.2.1,v.2.2.1,())>>=λx1=>if(x1.1 !=0)=true then some ([],x1)else OY (v.1,v.2.1,v.2.2.1,v.2.2.2.1,(-1:Int),())>>=λx2=>some ((x2.2.1.calls,(0:Int),()))
def Le:=kP Ez (kP EA k0)
def x22:Xc vw:=mX prog 30 Le.1 XZ [] [] []
theorem NF:aM prog 22 Vx SL:=fn0 x22 Tryz.func22 Le.2
def PZ:Cut SN:=⟨[(0,Ca),(1,Ca),(5,Dq1)],[]⟩
def X0:aN vw:=shL [(0,dX)] cD
def Vy:Sig vw:=sg [Ca,Ca] cD [.tmp 4]
noncomputable def mf(v:(List Int)×(List Int)×Int×Unit):Option (((Bool×Unit)⊕(Unit))):=let a:=v.2.2.1;if decide (a<(↑v.1.length:Int))=true then if 0<=a then v.1[a.toNat]?>>=λx1=>if 0<=a then v.2.1[a.toNat]?>>=λx2=>if(x1 !=x2)=true then some (aaL (false,()))else mf (v.1,v.2.1,i64.wrap (a+1),())else none else none else some (abc ()) partial_fixpoint
noncomputable def SM(v:(List Int)×(List Int)×Unit):Option (Bool×Unit):=if((↑v.1.length:Int) !=(↑v.2.1.length:Int))=true then some ((false,()))else mf (v.1,v.2.1,(0:Int),())>>=λx1=>match x1 with| .inl y1=>some y1| .inr y1=>some ((true,()))
def x23:Xc vw:=mX prog 26 c0 X0 [] [] [(4,⟨PZ,[.ret, .exit 0],mf⟩)]
theorem Ey:gh x23 (aS (aO Tryz.f23) 0) ⟨PZ,[.ret, .exit 0],mf⟩:=lp0 mf.partial_correctness bT
theorem NG:aM prog 23 Vy SM:=fn1 x23 Tryz.func23 bT Ey
def sh9:aN vw:=shL [(0,ML)] eO
def YE:Sig vw:=sg [Dq3] eO [.tmp 2]
noncomputable def uC(v:SD):Option (((Bool×Unit)⊕((List aB)×Int×Unit))):=let a:=v.2.2.1;if decide (a<(↑v.1.length:Int))=true then if 0<=a then v.1[a.toNat]?>>=λx1=>if 0<=a then v.1[a.toNat]?>>=λx2=>if decide (x2.places>2000)=true then some (aaL (true,()))else uC (v.1,i64.wrap (v.2.1+(↑x1.code.length:Int)),i64.wrap (a+1),())else none else none else some (abc (v.1,v.2.1,())) partial_fixpoint
noncomputable def n_9(v:(List aB)×Unit):Option (Bool×Unit):=uC (v.1,(0:Int),(0:Int),())>>=λx1=>match x1 with| .inl y1=>some y1| .inr y1=>(if decide (y1.2.1>3000)=true then some ((true,()))else some ((decide ((↑y1.1.length:Int)>200),())))>>=λx2=>some (x2)
def x9:Xc vw:=mX prog 32 c0 sh9 [] [(8,eO)] [(3,⟨GX,[.ret, .exit 0],uC⟩)]
theorem I7:gh x9 (aS (aO Tryz.f9) 0) ⟨GX,[.ret, .exit 0],uC⟩:=lp0 uC.partial_correctness bT
theorem QX:aM prog 9 YE n_9:=fn1 x9 Tryz.func9 bT I7
def sh7:aN vw:={rcut:=cD}
def YD:Sig vw:=sg [Dq3, .dat (.st .askedT)] cD [.tmp 4]
noncomputable def n_7(v:(List aB)×nP×Unit):Option (Bool×Unit):=let G1:=(v.1,v.2.1.name0,v.2.1.args,v.2.1.checks,());n_9 (v.1,())>>=λx1=>if x1.1=true then QL ()>>=λx2=>some (x2)else SI G1>>=λx2=>SJ G1>>=λx3=>SK G1>>=λx4=>SL G1>>=λx5=>(if(x2.1==x3.1)=true then if(x2.2.1==x3.2.1)=true then SM (x4.1,x5.1,())>>=λx6=>if x6.1=true then if(x4.2.1==x5.2.1)=true then QL ()>>=λx7=>some (x7)else some ((false,()))else some ((false,()))else some ((false,()))else some ((false,())))>>=λx6=>some (x6)
def Qr:=kP QX (kP Nn (kP Ns (kP ND (kP NE (kP NF (kP NG k0))))))
def x7:Xc vw:=mX prog 81 Qr.1 sh7 [] [(7,cD)] []
theorem QW:aM prog 7 YD n_7:=fn0 x7 Tryz.func7 Qr.2
end Go.Proofs.YtcghbgmmgcljkaaGreatDoor
end
section
namespace Go.Proofs.YtcghbgmmgcljkaaGreatDoor
set_option maxRecDepth 20000
theorem ve(t:bB)(h2:t.bits<=31):∀(j k:Nat),((k+j:Nat):Int)=t.bits->i6 ((2:Int)^k,(k:Int),t,())=some ((2:Int)^t.bits.toNat,())
 |0,k,h=>by
  rw[i6]
  rw[adH (by simp;omega)]
  have:k=t.bits.toNat:=by omega
  rw[this]
 |j+1,k,h=>by
  rw[i6]
  rw[adI (by simp;omega)]
  have p2:2^k<=2^31:=abw (by omega) (by omega)
  have e2:((2:Int)^k)=((2^k:Nat):Int):=by simp
  have p0:(0:Int)<2^k:=Int.pow_pos (by decide)
  simp only[]
  rw[w64 (by omega) (by omega),w64 (by omega) (by omega),<-adA]
  exact ve t h2 j (k+1) (by omega)
theorem s7(t:bB)(h1:1<=t.bits)(h2:t.bits<=31):AL (t,())=some ((2:Int)^t.bits.toNat,()):=by
 rw[AL]
 have:=ve t h2 t.bits.toNat 0 (by omega)
 simp only[Int.pow_zero,aar]at this
 simp only[this,Z6,Z3]
theorem JV{n m:Int}(hm:0<m):(if n.tmod m<0 then n.tmod m+m else n.tmod m)=n%m:=by
 have:=abV n (show m≠0 by omega)
 have:=acj n hm
 rw[Int.tmod_eq_emod]
 by_cases h:0<=n\/m∣n
 ·rw[adI h];simp;intro;omega
 ·rw[adH h]
  have:(m.natAbs:Int)=m:=by omega
  rw[adI (by omega)];omega
theorem iH(t:bB)(n:Int)(h1:1<=t.bits)(h2:t.bits<=31):kL (t,n,())=some (p9 t.signed t.bits n,()):=by
 obtain⟨p1,p2,p3⟩:=fg h1 h2
 have m1:=abV n (show(2:Int)^t.bits.toNat≠0 by omega)
 have m2:=acj n (show(0:Int)<2^t.bits.toNat by omega)
 have m3:=JV (n:=n) (show(0:Int)<2^t.bits.toNat by omega)
 rw[kL]
 simp only[s7 t h1 h2,Z6,Z3]
 rw[adH (by omega)]
 have e:(2:Int)^(t.bits.toNat-1)=((2:Int)^t.bits.toNat).tdiv 2:=by
  rw[p2,ac7 _ (by decide)]
 unfold p9
 rw[e]
 have e3:IntKind.i64.wrap (((2:Int)^t.bits.toNat).tdiv 2)=((2:Int)^t.bits.toNat).tdiv 2:=by
  rw[<-e];exact w64 (by omega) (by omega)
 by_cases hn:n.tmod (2^t.bits.toNat)<0
 ·rw[adI hn]at m3
  rw[adI (by simpa using hn)]
  simp only[Z3,m3,e3]
  rw[w64 (by omega) (by omega)]
  by_cases hs:t.signed=true
  ·simp only[hs,adE,Z3,true_and,adG,ge_iff_le]
   split
   ·simp only[Z3]
    rw[w64 (by omega) (by omega)]
   ·rfl
  ·simp[hs]
 ·rw[adH hn]at m3
  rw[adH (by simpa using hn)]
  simp only[Z3,m3,e3]
  by_cases hs:t.signed=true
  ·simp only[hs,adE,Z3,true_and,adG,ge_iff_le]
   split
   ·simp only[Z3]
    rw[w64 (by omega) (by omega)]
   ·rfl
  ·simp[hs]
theorem Dr(t:bB)(h1:1<=t.bits)(h2:t.bits<=31):Em (t,())=some (lo t.signed t.bits,hi t.signed t.bits,()):=by
 obtain⟨p1,p2,p3⟩:=fg h1 h2
 rw[Em]
 simp only[s7 t h1 h2,Z6,Z3]
 unfold lo hi
 have e:((2:Int)^t.bits.toNat).tdiv 2=(2:Int)^(t.bits.toNat-1):=by
  rw[p2,ac7 _ (by decide)]
 by_cases hs:t.signed=true
 ·have e3:IntKind.i64.wrap ((2:Int)^(t.bits.toNat-1))=(2:Int)^(t.bits.toNat-1):=w64 (by omega) (by omega)
  simp only[hs,adE,e,e3]
  rw[w64 (by omega) (by omega),w64 (by omega) (by omega)]
  simp
 ·simp only[hs,adF,Z5]
  rw[w64 (by omega) (by omega)]
theorem vv(n a b:Int):En (n,a,b,())=some (decide (a<=n/\n<=b),()):=by
 rw[En]
 by_cases h:a<=n
 ·simp[h]
 ·simp[h]
instance (s:Bool) (b n:Int):Decidable (inT s b n):=by unfold inT;infer_instance
theorem QF(t:bB)(n:Int)(h1:1<=t.bits)(h2:t.bits<=31):wN (t,n,())=some (decide (inT t.signed t.bits n),()):=by
 rw[wN]
 simp only[Dr t h1 h2,vv,Z6,Z3]
 rfl
def QY(s:Bool)(b n:Int):Int:=if n<lo s b then lo s b else if hi s b<n then hi s b else n
theorem EX(t:bB)(n:Int)(h1:1<=t.bits)(h2:t.bits<=31):Ij (t,n,())=some (QY t.signed t.bits n,()):=by
 rw[Ij]
 simp only[Dr t h1 h2,Z6,Z3,adG,gt_iff_lt]
 unfold QY
 split
 ·rfl
 ·split<;>rfl
end Go.Proofs.YtcghbgmmgcljkaaGreatDoor
end
