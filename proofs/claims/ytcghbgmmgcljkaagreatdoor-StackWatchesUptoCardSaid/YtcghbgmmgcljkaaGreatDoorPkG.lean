/-
  Texts of this claim, joined by a program of mine: what the theorem uses.
-/
import Derived.Test.YtcghbgmmgcljkaaGreatDoorPkF
import Derived.Test.YtcghbgmmgcljkaaGreatDoorPkC
open ByteArray renaming mk→aae
open Function renaming comp_apply→abX
open Int renaming toNat→aaG
open List renaming all_eq_true→aav,drop→acA,getElem?_cons_zero→abj,getElem?_map→aal,getElem?_toArray→acb,map_map→aaV,mem_map→aaL,mem_of_getElem?→aap,replicate→aaA,take→abr
open Nat renaming add_zero→abq,mul_one→ac1
open Option renaming map_eq_some_iff→aau,map_some→aaK
open Option.some renaming injEq→aah
open Sum renaming inl→aaW,inr→abn
noncomputable section
set_option linter.unusedVariables false
section
namespace Go.Proofs.YtcghbgmmgcljkaaGreatDoor
open Go.Awp Go.Tx
open IntKind (u8)
open IntKind (i64)
open Go.Proofs.Tryz (prog)
set_option maxHeartbeats 4000000
set_option maxRecDepth 100000
theorem bJ{c:Prop}[Decidable c]{α:Type}{a b x:α}(h:(if c then a else b)=x):(c/\a=x)\/(¬c/\b=x):=by by_cases e:c;exact .inl ⟨e,by rw[<-h,adT e]⟩;exact .inr ⟨e,by rw[<-h,adS e]⟩
abbrev Dq1:Pt SN:= .dat (.int .i64)
abbrev Dq3:Pt SN:= .dat (.sl (.st .myFuncT))
def Qd:Cut SN:=⟨[(3,Dq1),(6,Dq3),(7,Dq1),(8,Dq1)],[]⟩
def MS:Cut SN:=⟨[(3,Dq1)],[]⟩
def nh:Cut SN:=⟨[(2,Dq1)],[]⟩
def Yo:aN vw:=shL [(0,MS)] nh
def VV:Sig vw:=sg [Dq3] nh [.tmp 2]
noncomputable def mo(v:Int×(List aB)×Int×Int×Unit):Option ((Int×Unit)):=let a:=v.2.2.2.1;if decide (a<v.2.2.1)=true then if 0<=a then v.2.1[a.toNat]?>>=λx1=>mo (i64.wrap (v.1+(↑x1.code.length:Int)),v.2.1,v.2.2.1,i64.wrap (a+1),())else none else some ((v.1,())) partial_fixpoint
noncomputable def S3(v:(List aB)×Unit):Option (Int×Unit):=mo ((0:Int),v.1,(↑v.1.length:Int),(0:Int),())>>=λx1=>some (x1)
def x46:Xc vw:=mX prog 19 c0 Yo [] [] [(3,⟨Qd,[.exit 0],mo⟩)]
theorem EL:gh x46 (aS (aO Tryz.f46) 0) ⟨Qd,[.exit 0],mo⟩:=lp0 mo.partial_correctness bT
theorem NT:aM prog 46 VV S3:=fn1 x46 Tryz.func46 bT EL
abbrev Dq4:Pt SN:= .dat .bool
def eO:Cut SN:=⟨[(2,Dq4)],[]⟩
def Yp:aN vw:={rcut:=eO}
abbrev Ce:Pt SN:= .dat (.st .myFuncT)
def VW:Sig vw:=sg [Ce] eO [.tmp 2]
noncomputable def T7(v:aB×Unit):Option (Bool×Unit):=some ((decide (v.1.places>200),()))
def x48:Xc vw:=mX prog 6 c0 Yp [] [] []
theorem NU:aM prog 48 VW T7:=fn0 x48 Tryz.func48 bT
def yh:Cut SN:=⟨[(0,Dq3),(1, .fn 48 [] []),(7,Dq1),(8,Dq1)],[]⟩
def dX:Cut SN:=⟨[],[]⟩
def bG:Cut SN:=⟨[(4,Dq1)],[]⟩
def Oy:aN vw:=shL [(0,dX)] bG
def JH:Sig vw:=sg [Dq3, .fn 48 [] []] bG [.tmp 4]
abbrev SL:=(List aB)×Int×Int×Unit
noncomputable def eH(v:SL):Option (((Int×Unit)⊕(Unit))):=if decide (v.2.2.1<v.2.1)=true then if 0<=v.2.2.1 then v.1[v.2.2.1.toNat]?>>=λx1=>T7 (x1,())>>=λx2=>if x2.1=true then some (aaW v.2.2)else eH (v.1,v.2.1,i64.wrap (v.2.2.1+1),())else none else some (abn ()) partial_fixpoint
noncomputable def w7(v:(List aB)×Unit):Option (Int×Unit):=eH (v.1,(↑v.1.length:Int),(0:Int),())>>=λx1=>match x1 with| .inl y1=>some y1| .inr y1=>some (((-1:Int),()))
def n6:=kP NU k0
def Me:Xc vw:=mX prog 19 n6.1 Oy [] [] [(2,⟨yh,[.ret, .exit 0],eH⟩)]
theorem ux:gh Me (aS (aO Tryz.f65) 0) ⟨yh,[.ret, .exit 0],eH⟩:=lp0 eH.partial_correctness n6.2
theorem Bb:aM prog 65 JH w7:=fn1 Me Tryz.func65 n6.2 ux
def cV:Cut SN:=⟨[(4,Dq4)],[]⟩
def Ox:aN vw:={rcut:=cV}
def JG:Sig vw:=sg [Dq3, .fn 48 [] []] cV [.tmp 4]
noncomputable def sP(v:(List aB)×Unit):Option (Bool×Unit):=w7 v>>=λx1=>some ((decide (x1.1>=0),()))
def tO:=kP Bb k0
def SG:Xc vw:=mX prog 9 tO.1 Ox [] [] []
theorem Ba:aM prog 47 JG sP:=fn0 SG Tryz.func47 tO.2
abbrev O1:Pt SN:= .dat (.int .u8)
def K1:Cut SN:=⟨[(0, .bp 0 0),(1, .bp 1 0),(2,O1)],[(0, .bar 256 (.int .u8)),(1, .bar 256 (.int .u8))]⟩
def K2:Cut SN:=⟨[(0, .bp 0 0),(1, .bp 1 0),(3,O1)],[(0, .bar 256 (.int .u8)),(1, .bar 256 (.int .u8))]⟩
def K0:Cut SN:=⟨[(0, .bp 0 0),(1, .bp 1 0)],[(0, .bar 256 (.int .u8)),(1, .bar 256 (.int .u8))]⟩
def PK:Cut SN:=⟨[(0, .bp 0 0)],[(0, .bar 256 (.int .u8))]⟩
def U1:aN vw:=shL [(0,K0),(2,K0)] PK
def R0:Sig vw:=sg [] PK [.cell 0 179]
abbrev O3:=Int×(List Int)×(List Int)×Unit
noncomputable def j2(v:O3):Option (((List Int)×(List Int)×Unit)):=let G1:=(u8.wrap (v.1-97)+65);if decide (v.1<=122)=true then if 0<=v.1/\v.1<(↑(256:Nat):Int)then if v.1.toNat<(256:Nat)then if v.1.toNat<v.2.2.1.length then if 0<=u8.wrap G1/\u8.wrap G1<(↑(256:Nat):Int)then if(u8.wrap G1).toNat<(256:Nat)then if(u8.wrap G1).toNat<(v.2.2.1.set v.1.toNat (2:Int)).length then j2 (u8.wrap (v.1+1),v.2.1,(v.2.2.1.set v.1.toNat (2:Int)).set (u8.wrap G1).toNat (2:Int),())else none else none else none else none else none else none else some (v.2) partial_fixpoint
noncomputable def j3(v:O3):Option (((List Int)×(List Int)×Unit)):=if decide (v.1<=57)=true then if 0<=v.1/\v.1<(↑(256:Nat):Int)then if v.1.toNat<(256:Nat)then if v.1.toNat<v.2.2.1.length then j3 (u8.wrap (v.1+1),v.2.1,v.2.2.1.set v.1.toNat (3:Int),())else none else none else none else some (v.2) partial_fixpoint
noncomputable def Il(v:Unit):Option ((List Int)×Unit):=j2 ((97:Int),aaA (256:Nat) (0:Int),(((aaA (256:Nat) (0:Int)).set (aaG 32) (1:Int)).set (aaG 10) (1:Int)).set (aaG 95) (2:Int),())>>=λx1=>j3 ((48:Int),x1)>>=λx2=>some (x2.2)
def WH:Xc vw:=mX prog 24 c0 U1 [] [] [(4,⟨K1,[.exit 0],j2⟩),(8,⟨K2,[.exit 2],j3⟩)]
theorem AQ:gh WH (aS (aO Tryz.f146) 0) ⟨K1,[.exit 0],j2⟩:=lp0 j2.partial_correctness bT
theorem AR:gh WH (aS (aO Tryz.f146) 1) ⟨K2,[.exit 2],j3⟩:=lp0 j3.partial_correctness bT
theorem Im:aM prog 146 R0 Il:=fn2 WH Tryz.func146 bT AQ AR
abbrev Dq5:Pt SN:= .dat .str
def nY:Cut SN:=⟨[(0, .bp 100000 0),(1,Dq5),(5,Dq1)],[(100000, .bar 256 (.int .u8))]⟩
def vX:Cut SN:=⟨[(0, .bp 100000 0),(1,Dq5),(5,Dq1),(19,Dq4)],[(100000, .bar 256 (.int .u8))]⟩
def vW:Cut SN:=⟨[(0, .bp 100000 0),(5,Dq1)],[(100000, .bar 256 (.int .u8))]⟩
def qz:Cut SN:=⟨[(0, .bp 100000 0),(4,Dq1)],[(100000, .bar 256 (.int .u8))]⟩
def BF:aN vw:=shL [(0,vW)] qz
def xB:Sig vw:={params:=[.bp 100000 0,Dq5],objs:=[(100000, .bar 256 (.int .u8))],rcut:=qz,rvars:=[.tmp 4],keep:=[100000]}
noncomputable def dr(v:ByteArray×Int×(List Int)×Unit):Option ((Int×(List Int)×Unit)):=(if decide (v.2.1<(↑v.1.size:Int))=true then if 0<=v.2.1 then v.1[v.2.1.toNat]?>>=λx1=>if 0<=(↑x1.toNat:Int)/\(↑x1.toNat:Int)<(↑(256:Nat):Int)then if(↑x1.toNat:Int).toNat<(256:Nat)then v.2.2.1[(↑x1.toNat:Int).toNat]?>>=λx2=>some ((v.1,v.2.1,decide (x2>=2),v.2.2))else none else none else none else some (v.1,v.2.1,false,v.2.2))>>=λx1=>if x1.2.2.1=true then dr (x1.1,i64.wrap (x1.2.1+1),x1.2.2.2)else some (x1.2.1,x1.2.2.2) partial_fixpoint
noncomputable def lP(v:ByteArray×(List Int)×Unit):Option (Int×(List Int)×Unit):=dr (v.1,(0:Int),v.2)>>=λx1=>some (x1)
def vA:Xc vw:=mX prog 23 c0 BF [] [(2,vX)] [(2,⟨nY,[.exit 0],dr⟩)]
theorem o_:gh vA (aS (aO Tryz.f147) 0) ⟨nY,[.exit 0],dr⟩:=lp0 dr.partial_correctness bT
theorem sN:aM prog 147 xB lP:=fn1 vA Tryz.func147 bT o_
def UB:aN vw:={rcut:=eO}
def RA:Sig vw:=sg [Dq5] eO [.tmp 2]
noncomputable def HQ(v:ByteArray×Unit):Option (Bool×Unit):=Il ()>>=λx1=>(if(!v.1.toList==(aae #[]).toList)=true then v.1[aaG 0]?>>=λx2=>if 0<=(↑x2.toNat:Int)/\(↑x2.toNat:Int)<(↑(256:Nat):Int)then if(↑x2.toNat:Int).toNat<(256:Nat)then x1.1[(↑x2.toNat:Int).toNat]?>>=λx3=>if(x3==2)=true then lP (v.1,x1)>>=λx4=>some ((x4.1==(↑v.1.size:Int),()))else some ((false,()))else none else none else some ((false,())))>>=λx2=>some (x2)
def CL:=kP Im (kO sN k0)
def Zm:Xc vw:=mX prog 21 CL.1 UB [] [(2,eO)] []
theorem HR:aM prog 113 RA HQ:=fn0 Zm Tryz.func113 CL.2
abbrev KL:Pt SN:= .dat (.sl .str)
def K7:Cut SN:=⟨[(0,KL),(1,Dq5),(7,Dq1),(8,Dq1)],[]⟩
def Ve:aN vw:=shL [(0,dX)] bG
def Sd:Sig vw:=sg [KL,Dq5] bG [.tmp 4]
noncomputable def ig(v:(List ByteArray)×ByteArray×Int×Int×Unit):Option (((Int×Unit)⊕(Unit))):=let a:=v.2.2;if decide (a.2.1<a.1)=true then if 0<=a.2.1 then v.1[a.2.1.toNat]?>>=λx1=>if(v.2.1.toList==x1.toList)=true then some (aaW a.2)else ig (v.1,v.2.1,a.1,i64.wrap (a.2.1+1),())else none else some (abn ()) partial_fixpoint
noncomputable def NA(v:(List ByteArray)×ByteArray×Unit):Option (Int×Unit):=ig (v.1,v.2.1,(↑v.1.length:Int),(0:Int),())>>=λx1=>match x1 with| .inl y1=>some y1| .inr y1=>some (((-1:Int),()))
def Xs:Xc vw:=mX prog 19 c0 Ve [] [] [(2,⟨K7,[.ret, .exit 0],ig⟩)]
theorem AY:gh Xs (aS (aO Tryz.f162) 0) ⟨K7,[.ret, .exit 0],ig⟩:=lp0 ig.partial_correctness bT
theorem IB:aM prog 162 Sd NA:=fn1 Xs Tryz.func162 bT AY
def U2:aN vw:={rcut:=cV}
def R1:Sig vw:=sg [KL,Dq5] cV [.tmp 4]
noncomputable def Nv(v:(List ByteArray)×ByteArray×Unit):Option (Bool×Unit):=NA v>>=λx1=>some ((decide (x1.1>=0),()))
def C3:=kP IB k0
def ZK:Xc vw:=mX prog 9 C3.1 U2 [] [] []
theorem Io:aM prog 148 R1 Nv:=fn0 ZK Tryz.func148 C3.2
def Tq:Cut SN:=⟨[(2,KL)],[]⟩
def R2:Sig vw:=sg [Dq5] Tq [.tmp 2]
noncomputable def En(v:ByteArray×Unit):Option ((List ByteArray)×Unit):=if v.1.size<4294967281/\v.1.data.toList.all (λb=>decide (b.toNat<128))=true then some ((Lib.fields v.1.data.toList).map (λl=>(⟨l.toArray⟩:ByteArray)),())else none
theorem Ip:aM prog 149 R2 En:=λv r x h hx=>by
 obtain⟨s,u⟩:=v
 unfold En at h
 split at h
 ·rename_i hc
  obtain⟨h0,h1⟩:=hc
  simp only at h0 h1
  cases h;cases hx
  exact fG (by kernel_rfl) (mb.newRow (P:=prog) (f:=149) (args:=[.d (.v (.string s))]) (sz:=1) (rows:=((Lib.fields s.data.toList).map λl=>(⟨l.toArray⟩:ByteArray)).map λy=>[D.v (.string y)]) (by kernel_rfl) (λr hr=>by obtain⟨_,_,rfl⟩:=aaL.1 hr;rfl) λE M w vs hg hm hv=>by
   obtain⟨v1,rfl,h2⟩:=DK hv
   rw[h2.dv]
   refine(Tryz.strings_Fields s w h0 (λj b hb=>of_decide_eq_true (aav.1 h1 b (aap hb))) (Gb hg hm)).mono λe w' ⟨he,hw⟩=>⟨_,_,by rw[he];simp,hw,by simp,λi j r c x hr hx hc=> ?_⟩
   rw[aaV,aal,aau]at hr
   obtain⟨l,hl,rfl⟩:=hr
   cases j with
   |zero=>
    simp only[abX,abj,aah]at hx
    subst hx
    simp only[ac1,abq,acb,aal,hl,aaK,aah]at hc
    subst hc
    exact .v _
   |succ j=>simp at hx)
 ·cases h
def UC:aN vw:={rcut:=eO}
def RB:Sig vw:=sg [Dq5] eO [.tmp 2]
noncomputable def HS(v:ByteArray×Unit):Option (Bool×Unit):=En (aae (([(102:UInt8),(110:UInt8),(32:UInt8),(99:UInt8),(111:UInt8),(110:UInt8),(115:UInt8),(116:UInt8),(32:UInt8),(118:UInt8),(97:UInt8),(114:UInt8),(32:UInt8),(99:UInt8),(111:UInt8),(109:UInt8),(112:UInt8),(116:UInt8),(105:UInt8),(109:UInt8),(101:UInt8),(32:UInt8),(114:UInt8),(101:UInt8),(116:UInt8),(117:UInt8),(114:UInt8),(110:UInt8),(32:UInt8),(101:UInt8),(114:UInt8),(114:UInt8),(111:UInt8),(114:UInt8),(32:UInt8),(105:UInt8),(102:UInt8),(32:UInt8),(101:UInt8),(108:UInt8),(115:UInt8),(101:UInt8)].append [(32:UInt8),(119:UInt8),(104:UInt8),(105:UInt8),(108:UInt8),(101:UInt8),(32:UInt8),(102:UInt8),(111:UInt8),(114:UInt8),(32:UInt8),(105:UInt8),(110:UInt8),(108:UInt8),(105:UInt8),(110:UInt8),(101:UInt8),(32:UInt8),(115:UInt8),(119:UInt8),(105:UInt8),(116:UInt8),(99:UInt8),(104:UInt8),(32:UInt8),(100:UInt8),(101:UInt8),(102:UInt8),(101:UInt8),(114:UInt8),(32:UInt8),(101:UInt8),(114:UInt8),(114:UInt8),(100:UInt8),(101:UInt8),(102:UInt8),(101:UInt8),(114:UInt8),(32:UInt8),(98:UInt8),(114:UInt8)]).append ([(101:UInt8),(97:UInt8),(107:UInt8),(32:UInt8),(99:UInt8),(111:UInt8),(110:UInt8),(116:UInt8),(105:UInt8),(110:UInt8),(117:UInt8),(101:UInt8),(32:UInt8),(103:UInt8),(105:UInt8),(118:UInt8),(101:UInt8),(32:UInt8),(117:UInt8),(110:UInt8),(114:UInt8),(101:UInt8),(97:UInt8),(99:UInt8),(104:UInt8),(97:UInt8),(98:UInt8),(108:UInt8),(101:UInt8),(32:UInt8),(116:UInt8),(114:UInt8),(117:UInt8),(101:UInt8),(32:UInt8),(102:UInt8),(97:UInt8),(108:UInt8),(115:UInt8),(101:UInt8),(32:UInt8),(97:UInt8)].append [(110:UInt8),(100:UInt8),(32:UInt8),(111:UInt8),(114:UInt8),(32:UInt8),(116:UInt8),(114:UInt8),(121:UInt8),(32:UInt8),(99:UInt8),(97:UInt8),(116:UInt8),(99:UInt8),(104:UInt8),(32:UInt8),(111:UInt8),(114:UInt8),(101:UInt8),(108:UInt8),(115:UInt8),(101:UInt8),(32:UInt8),(100:UInt8),(111:UInt8),(32:UInt8),(118:UInt8),(111:UInt8),(105:UInt8),(100:UInt8),(32:UInt8),(98:UInt8),(111:UInt8),(111:UInt8),(108:UInt8),(32:UInt8),(116:UInt8),(121:UInt8),(112:UInt8),(101:UInt8),(32:UInt8),(95:UInt8)])).toArray,())>>=λx1=>Nv (x1.1,v)>>=λx2=>some (x2)
def CM:=kP Io (kP Ip k0)
def Zn:Xc vw:=mX prog 6 CM.1 UC [] [] []
theorem HT:aM prog 114 RB HS:=fn0 Zn Tryz.func114 CM.2
def Vf:aN vw:={rcut:=eO}
def Se:Sig vw:=sg [Dq1] eO [.tmp 2]
noncomputable def NB(v:Int×Unit):Option (Bool×Unit):=(if decide (v.1>=2)=true then some ((decide (v.1<=16),()))else some ((false,())))>>=λx1=>some (x1)
def ZT:Xc vw:=mX prog 9 c0 Vf [] [(1,eO)] []
theorem IC:aM prog 165 Se NB:=fn0 ZT Tryz.func165 bT
def VB:aN vw:={rcut:=cV}
def Sq:Sig vw:=sg [Dq5,Dq5] cV [.tmp 4]
noncomputable def NG(v:ByteArray×ByteArray×Unit):Option (Bool×Unit):=(if decide ((↑v.1.size:Int)>=(↑v.2.1.size:Int))=true then if(0:Int)<=0/\0<=(↑v.2.1.size:Int)/\(↑v.2.1.size:Int)<=(↑v.1.size:Int)then some (((v.1.extract (aaG 0) (↑v.2.1.size:Int).toNat).toList==v.2.1.toList,()))else none else some ((false,())))>>=λx1=>some (x1)
def aac:Xc vw:=mX prog 18 c0 VB [] [(1,cV)] []
theorem I6:aM prog 193 Sq NG:=fn0 aac Tryz.func193 bT
def tD:Cut SN:=⟨[(4,Dq5)],[]⟩
def Vn:aN vw:={rcut:=tD}
def Sk:Sig vw:=sg [Dq5,Dq5] tD [.tmp 4]
noncomputable def ND(v:ByteArray×ByteArray×Unit):Option (ByteArray×Unit):=NG v>>=λx1=>if x1.1=true then if 0<=(↑v.2.1.size:Int)/\(↑v.2.1.size:Int)<=(↑v.1.size:Int)/\(↑v.1.size:Int)<=(↑v.1.size:Int)then some ((v.1.extract (↑v.2.1.size:Int).toNat (↑v.1.size:Int).toNat,()))else none else some ((v.1,()))
def Da:=kP I6 k0
def Z0:Xc vw:=mX prog 13 Da.1 Vn [] [] []
theorem IK:aM prog 176 Sk ND:=fn0 Z0 Tryz.func176 Da.2
def Vg:aN vw:={rcut:=tD}
def Sf:Sig vw:=sg [Dq5,Dq5] tD [.tmp 4]
noncomputable def ID(v:ByteArray×ByteArray×Unit):Option (ByteArray×Unit):=ND v>>=λx1=>some (x1)
def C8:=kP IK k0
def ZU:Xc vw:=mX prog 8 C8.1 Vg [] [] []
theorem IE:aM prog 166 Sf ID:=fn0 ZU Tryz.func166 C8.2
def Sl:Sig vw:=sg [Dq5,O1] bG [.tmp 4]
noncomputable def NE(v:ByteArray×Int×Unit):Option (Int×Unit):=some (Lib.indexByte v.1.data.toList v.2.1.toNat.toUInt8,())
theorem IL:aM prog 177 Sl NE:=λv r x h hx=>by
 obtain⟨s,c,u⟩:=v
 cases h;cases hx
 exact fG (by kernel_rfl) (mb.pure (P:=prog) (f:=177) (args:=[.d (.v (.string s)), .d (.v (.int .u8 c))]) (r:= .d (.v (.int .i64 (Lib.indexByte s.data.toList c.toNat.toUInt8)))) (by kernel_rfl) λE M w vs _ _ hv=>by
  obtain⟨v1,v2,rfl,h1,h2⟩:=DL hv
  rw[h1.dv,h2.dv]
  exact(Tryz.stringslite_IndexByte s c w).mono λe w' ⟨he,hw⟩=>⟨_,he, .d (.v _),hw▸Go.RowKit.Below.refl _ _⟩)
def Vh:aN vw:={rcut:=bG}
def Sg:Sig vw:=sg [Dq5,O1] bG [.tmp 4]
noncomputable def NC(v:ByteArray×Int×Unit):Option (Int×Unit):=NE v>>=λx1=>some (x1)
def C9:=kP IL k0
def ZV:Xc vw:=mX prog 8 C9.1 Vh [] [] []
theorem IF:aM prog 167 Sg NC:=fn0 ZV Tryz.func167 C9.2
def iv:Cut SN:=⟨[(0,Dq1),(1,Dq1),(5,Dq5)],[]⟩
def K8:Cut SN:=⟨[(0,Dq1),(5,Dq5)],[]⟩
def JE:aN vw:=shL [(0,K8)] tD
def iy:Sig vw:=sg [Dq1,Dq1] tD [.tmp 4]
abbrev xY:=Int×Int×ByteArray×Unit
noncomputable def dD(v:xY):Option ((Int×ByteArray×Unit)):=let a:=v.2.1;if decide (v.1>=a)=true then if a=0 then none else if 0<=v.1.tmod a then(aae #[48,49,50,51,52,53,54,55,56,57,97,98,99,100,101,102])[(v.1.tmod a).toNat]?>>=λx1=>if(Bs.enc1 (↑x1.toNat:Int)).size+v.2.2.1.size<=4294967296 then if a=0 then none else dD (i64.wrap (v.1.tdiv a),a,Bs.enc1 (↑x1.toNat:Int)++v.2.2.1,())else none else none else some (v.1,v.2.2) partial_fixpoint
noncomputable def qg(v:Int×Int×Unit):Option (ByteArray×Unit):=if decide (v.1<0)=true then qg (i64.wrap ((0:Int) -v.1),v.2)>>=λx1=>if(aae #[45]).size+x1.1.size<=4294967296 then some ((aae #[45]++x1.1,()))else none else dD (v.1,v.2.1,aae #[],())>>=λx1=>if 0<=x1.1 then(aae #[48,49,50,51,52,53,54,55,56,57,97,98,99,100,101,102])[x1.1.toNat]?>>=λx2=>if(Bs.enc1 (↑x2.toNat:Int)).size+x1.2.1.size<=4294967296 then some ((Bs.enc1 (↑x2.toNat:Int)++x1.2.1,()))else none else none partial_fixpoint
def wj(dD:xY->Option ((Int×ByteArray×Unit)))(qg:Int×Int×Unit->Option (ByteArray×Unit)):dg vw:=λA fid args S k=>match fid with|168=>cu prog iy qg A args S k|_=>none
def zK(dD:xY->Option ((Int×ByteArray×Unit)))(qg:Int×Int×Unit->Option (ByteArray×Unit)):Xc vw:={P:=prog,n:=31,call:=wj dD qg,pre:=Jo,sh:=JE,loops:=λk=>match k with|4=>some {cut:=iv,alts:=[.exit 0],F:=dD}|_=>none}
abbrev nA(v:xY)(r:(Int×ByteArray×Unit)):Prop:=(λv out=>∀C:Ctx,C.P=prog->C.N=31/\Fx C Jo->pZ C (aS (aO Tryz.f168) 0) (Go.Tx.a_ vw (fk vw iv v)) (xX JE [.exit 0] out)) v r
theorem GY(f0:xY->Option ((Int×ByteArray×Unit)))(h0:∀v r,f0 v=some r->nA v r):bH prog (zK f0 (λ_=>none)).call:=(by
 intro A fid args S dst k r h
 unfold zK wj at h
 simp only at h
 split at h
 ·exact aR ((λv r x h hx=>by cases h)) rfl rfl h
 ·cases h)
theorem JJ(f0:xY->Option ((Int×ByteArray×Unit)))(h0:∀v r,f0 v=some r->nA v r)(v:xY)(r:(Int×ByteArray×Unit))(h:exL (zK f0 (λ_=>none)) (aS (aO Tryz.f168) 0) iv [.exit 0] f0 v=some r):nA v r:=λC hP hN=>gN (X:=zK f0 (λ_=>none)) (b:=(aS (aO Tryz.f168) 0)) hP hN Ty.mixed (GY f0 h0) (eT (X:=zK f0 (λ_=>none)) (c:=(aS (aO Tryz.f168) 0)) (fG (by kernel_rfl:True=pY (e7 C (zK f0 (λ_=>none))) (cz (aS (aO Tryz.f168) 0))) trivial)) (cut:=iv) (alts:=[.exit 0]) (F:=f0) (λv out h=>h0 v out h C hP hN) h
theorem AZ:∀v out,dD v=some out->(λv out=>∀C:Ctx,C.P=prog->C.N=31/\Fx C Jo->pZ C (aS (aO Tryz.f168) 0) (Go.Tx.a_ vw (fk vw iv v)) (xX JE [.exit 0] out)) v out:=(dD.partial_correctness (motive:=nA) (λf0 h0 v r h=>JJ f0 h0 v r (fG (by kernel_rfl) h)))
abbrev yO(v:Int×Int×Unit)(r:ByteArray×Unit):Prop:=(λv r=>∀x,GD prog iy r=some x->mb prog 168 (encL vw (cC iy v).len (d7 iy v).1) (eP (cC iy v).len (cC iy v).own) (aL vw (fk vw iy.rcut r).len x) (eP (fk vw iy.rcut r).len (qf iy r))) v r
theorem Qz(f0:Int×Int×Unit->Option (ByteArray×Unit))(h0:∀v r,f0 v=some r->yO v r):bH prog (zK dD f0).call:=(by
 intro A fid args S dst k r h
 unfold zK wj at h
 simp only at h
 split at h
 ·exact aR ((λv r x h hx=>h0 v r h x hx)) rfl rfl h
 ·cases h)
theorem Sy(f0:Int×Int×Unit->Option (ByteArray×Unit))(h0:∀v r,f0 v=some r->yO v r)(v:Int×Int×Unit)(r:ByteArray×Unit)(h:exF (zK dD f0) iy rfl (aO Tryz.f168) v=some r):yO v r:=λx hx=>AA (X:=zK dD f0) (sig:=iy) rfl Tryz.func168 (c:=aO Tryz.f168) (by kernel_rfl) Tryz.ntmps168 (by kernel_rfl) (by kernel_rfl) rfl Ty.mixed (Qz f0 h0) rfl (λC hP hN=>(eT (X:=zK dD f0) (c:=(aO Tryz.f168)) (fG (by kernel_rfl:pY (e7 C (zK dD f0)) [(aS (aO Tryz.f168) 0)]=pY (e7 C (zK dD f0)) (cz (aO Tryz.f168))) ⟨iY (X:=zK dD f0) (b:=(aS (aO Tryz.f168) 0)) (by kernel_rfl) (show gD C (aS (aO Tryz.f168) 0) (sh:=JE) {cut:=iv,alts:=[.exit 0],F:=dD}fromλv out h=>AZ v out h C hP hN),trivial⟩))) h x hx
theorem IG:aM prog 168 iy qg:=λv r x h hx=>(qg.partial_correctness (motive:=yO) (λf0 h0 v r h=>Sy f0 h0 v r (fG (by kernel_rfl) h))) v r h x hx
def K3:Cut SN:=⟨[(0,Dq5),(1,Dq1),(6,Dq1),(7,Dq5),(16,Dq1),(17,Dq1)],[]⟩
def MN:Cut SN:=⟨[(0,Dq5),(1,Dq1),(6,Dq1)],[]⟩
def PM:Cut SN:=⟨[(0,Dq5),(1,Dq1),(6,Dq1),(7,Dq5),(9,Dq1),(16,Dq1),(17,Dq1),(31,Dq4)],[]⟩
def MO:Cut SN:=⟨[(6,Dq1),(57,Dq4)],[]⟩
def PL:Cut SN:=⟨[(0,Dq5),(1,Dq1),(6,Dq1),(7,Dq5)],[]⟩
def GS:Cut SN:=⟨[(4,Dq1),(5,Dq1)],[]⟩
def U3:aN vw:=shL [(0,PL)] GS
def R3:Sig vw:=sg [Dq5,Dq1] GS [.tmp 4, .tmp 5]
noncomputable def i8(v:ByteArray×Int×Int×ByteArray×Int×Int×Unit):Option (((Int×Int×Unit)⊕(ByteArray×Int×Int×ByteArray×Unit))):=let a:=v.2.2.2;let b:=a.2.2.1;let G1:=(aae #[48,49,50,51,52,53,54,55,56,57,97,98,99,100,101,102]);if decide (b<a.2.1)=true then if(0:Int)<=0/\0<=v.2.1/\v.2.1<=(↑G1.size:Int)then if 0<=b then a.1[b.toNat]?>>=λx1=>NC (G1.extract (aaG 0) v.2.1.toNat,(↑x1.toNat:Int),())>>=λx2=>(if decide (x2.1<0)=true then some ((v.1,v.2.1,v.2.2.1,a.1,x2.1,a.2.1,b,true,()))else some ((v.1,v.2.1,v.2.2.1,a.1,x2.1,a.2.1,b,decide (v.2.2.1>1099511627776),())))>>=λx3=>let c:=x3.2.2.2;if c.2.2.2.2.1=true then some (aaW ((0:Int),(2:Int),()))else i8 (x3.1,x3.2.1,i64.wrap (i64.wrap (x3.2.2.1 *x3.2.1)+c.2.1),c.1,c.2.2.1,i64.wrap (c.2.2.2.1+1),())else none else none else some (abn (v.1,v.2.1,v.2.2.1,a.1,())) partial_fixpoint
noncomputable def Iq(v:ByteArray×Int×Unit):Option (Int×Int×Unit):=NB v.2>>=λx1=>if(!x1.1)=true then some (((0:Int),(1:Int),()))else ID (v.1,aae #[45],())>>=λx2=>i8 (v.1,v.2.1,(0:Int),x2.1,(↑x2.1.size:Int),(0:Int),())>>=λx3=>match x3 with| .inl y3=>some y3| .inr y3=>(if decide ((↑y3.2.2.2.1.size:Int)<(↑y3.1.size:Int))=true then some ((y3.1,y3.2.1,i64.wrap ((0:Int) -y3.2.2.1),()))else some ((y3.1,y3.2.1,y3.2.2.1,())))>>=λx4=>let a:=x4.2.2.1;(if decide (a<(-1099511627776:Int))=true then some ((a,true,()))else if decide (a>1099511627776)=true then some ((a,true,()))else qg (a,x4.2.1,())>>=λx5=>some ((a,!x5.1.toList==x4.1.toList,())))>>=λx5=>if x5.2.1=true then some (((0:Int),(2:Int),()))else some ((x5.1,(0:Int),()))
def wc:=kP IC (kP IE (kP IF (kP IG k0)))
def Xo:Xc vw:=mX prog 59 wc.1 U3 [(15,MN,[.norm])] [(9,PM),(15,MO)] [(6,⟨K3,[.ret, .exit 0],i8⟩)]
theorem AU:gh Xo (aS (aO Tryz.f150) 0) ⟨K3,[.ret, .exit 0],i8⟩:=lp0 i8.partial_correctness wc.2
theorem Ir:aM prog 150 R3 Iq:=fn1 Xo Tryz.func150 wc.2 AU
def PN:Cut SN:=⟨[(10,Dq4)],[]⟩
def U4:aN vw:={rcut:=nh}
abbrev nd:Pt SN:= .dat (.st .myIntT)
def R4:Sig vw:=sg [nd] nh [.tmp 2]
noncomputable def pa(v:bB×Unit):Option (Int×Unit):=(if decide (v.1.bits<1)=true then some ((true,()))else some ((decide (v.1.bits>31),())))>>=λx1=>if x1.1=true then some (((1:Int),()))else some (((0:Int),()))
def ZL:Xc vw:=mX prog 11 c0 U4 [] [(1,PN)] []
theorem jA:aM prog 151 R4 pa:=fn0 ZL Tryz.func151 bT
def Pw:Cut SN:=⟨[(0,Dq5),(2, .bp 2 0),(19,Dq4)],[(2, .st .myIntT)]⟩
def Px:Cut SN:=⟨[(2, .bp 2 0),(6, .bp 6 0),(38,Dq4)],[(2, .st .myIntT),(6, .st .myIntT)]⟩
def GQ:Cut SN:=⟨[(2, .bp 2 0),(3,Dq1)],[(2, .st .myIntT)]⟩
def UD:aN vw:={rcut:=GQ}
def RC:Sig vw:=sg [Dq5] GQ [.cell 2 135, .tmp 3]
noncomputable def HU(v:ByteArray×Unit):Option (Int×bB×Unit):=let G1:=(bB.mk false (0:Int),());(if decide ((↑v.1.size:Int)<2)=true then some (v.1,true,G1)else v.1[aaG 0]?>>=λx1=>if((↑x1.toNat:Int) !=117)=true then v.1[aaG 0]?>>=λx2=>some ((v.1,(↑x2.toNat:Int) !=105,G1))else some (v.1,false,G1))>>=λx1=>if x1.2.1=true then some (((2:Int),G1))else if(0:Int)<=1/\(1:Int)<=(↑x1.1.size:Int)/\(↑x1.1.size:Int)<=(↑x1.1.size:Int)then Iq (x1.1.extract (aaG 1) (↑x1.1.size:Int).toNat,(10:Int),())>>=λx2=>x1.1[aaG 0]?>>=λx3=>(if(x2.2.1 !=0)=true then some ((true,x1.2.2.1,bB.mk ((↑x3.toNat:Int)==105) x2.1,()))else pa (bB.mk ((↑x3.toNat:Int)==105) x2.1,())>>=λx4=>some ((x4.1 !=0,x1.2.2.1,bB.mk ((↑x3.toNat:Int)==105) x2.1,())))>>=λx4=>if x4.1=true then some (((2:Int),G1))else some (((0:Int),x4.2.2))else none
def CN:=kP Ir (kP jA k0)
def Zo:Xc vw:=mX prog 41 CN.1 UD [] [(1,Pw),(5,Px)] []
theorem HV:aM prog 115 RC HU:=fn0 Zo Tryz.func115 CN.2
def Qp:Cut SN:=⟨[(0,Dq5),(16,Dq4)],[]⟩
def YF:aN vw:={rcut:=eO}
def V7:Sig vw:=sg [Dq5] eO [.tmp 2]
noncomputable def Pa(v:ByteArray×Unit):Option (Bool×Unit):=(if decide ((↑v.1.size:Int)>8)=true then some ((v.1,true,()))else HQ v>>=λx1=>if(!x1.1)=true then some ((v.1,true,()))else HS v>>=λx2=>some (v.1,x2))>>=λx1=>if x1.2.1=true then some ((false,()))else HU (x1.1,())>>=λx2=>some ((x2.1 !=0,()))
def Lw:=kP HR (kP HT (kP HV k0))
def x66:Xc vw:=mX prog 24 Lw.1 YF [] [(1,Qp)] []
theorem w8:aM prog 66 V7 Pa:=fn0 x66 Tryz.func66 Lw.2
def gG:Cut SN:=⟨[(6,Dq4)],[]⟩
def YG:aN vw:={rcut:=gG}
def V8:Sig vw:=sg [Dq1,Dq1,Dq1] gG [.tmp 6]
abbrev Cg:=Int×Int×Int×Unit
noncomputable def GB(v:Cg):Option (Bool×Unit):=(if decide (v.1>=v.2.1)=true then some ((decide (v.1<=v.2.2.1),()))else some ((false,())))>>=λx1=>some (x1)
def x67:Xc vw:=mX prog 15 c0 YG [] [(1,gG)] []
theorem ET:aM prog 67 V8 GB:=fn0 x67 Tryz.func67 bT
def U5:aN vw:={rcut:=eO}
def R5:Sig vw:=sg [Dq1] eO [.tmp 2]
noncomputable def Nw(v:Int×Unit):Option (Bool×Unit):=(if(v.1==2)=true then some ((true,()))else some ((v.1==3,())))>>=λx1=>some (x1)
def ZM:Xc vw:=mX prog 9 c0 U5 [] [(1,eO)] []
theorem Is:aM prog 152 R5 Nw:=fn0 ZM Tryz.func152 bT
def vY:Cut SN:=⟨[(2, .bp 2 0)],[(2, .st .myIntT)]⟩
def U6:aN vw:={rcut:=vY}
abbrev vG:Pt SN:= .dat (.st .myTypeT)
def R6:Sig vw:=sg [vG] vY [.cell 2 135]
noncomputable def Nx(v:aF×Unit):Option (bB×Unit):=some ((bB.mk (v.1.base==3) v.1.bits,()))
def ZN:Xc vw:=mX prog 9 c0 U6 [] [] []
theorem It:aM prog 153 R6 Nx:=fn0 ZN Tryz.func153 bT
def Py:Cut SN:=⟨[(1, .bp 1 0),(33,Dq4)],[(1, .st .myTypeT)]⟩
def UE:aN vw:={rcut:=eO}
def RD:Sig vw:=sg [vG] eO [.tmp 2]
noncomputable def HW(v:aF×Unit):Option (Bool×Unit):=let G1:=(false,());(if decide (v.1.base<0)=true then some (true,v)else if decide (v.1.base>5)=true then some (true,v)else if v.1.opt=true then if(v.1.base==0)=true then some (true,v)else if(v.1.base==4)=true then some (true,v)else if v.1.err=true then some (v.1.base==4,v)else some (false,v)else if v.1.err=true then some (v.1.base==4,v)else some (false,v))>>=λx1=>let a:=x1.2.1;if x1.1=true then some (G1)else Nw (a.base,())>>=λx2=>if x2.1=true then(Nx x1.2>>=λx3=>pa x3>>=λx4=>if(x4.1==0)=true then some ((a.name0.toList==(aae #[]).toList,()))else some (G1))>>=λx3=>some (x3)else(if(a.bits==0)=true then if(a.base==5)=true then Pa (a.name0,())>>=λx3=>if x3.1=true then some ((true,()))else if(a.base !=5)=true then some ((a.name0.toList==(aae #[]).toList,()))else some (G1)else if(a.base !=5)=true then some ((a.name0.toList==(aae #[]).toList,()))else some (G1)else some (G1))>>=λx3=>some (x3)
def CO:=kP w8 (kP jA (kP Is (kP It k0)))
def Zp:Xc vw:=mX prog 69 CO.1 UE [] [(1,Py),(4,eO),(5,eO)] []
theorem HX:aM prog 116 RD HW:=fn0 Zp Tryz.func116 CO.2
def YH:aN vw:={rcut:=nh}
def V9:Sig vw:=sg [vG] nh [.tmp 2]
noncomputable def Q1(v:aF×Unit):Option (Int×Unit):=HW v>>=λx1=>if(!x1.1)=true then some (((1:Int),()))else some (((0:Int),()))
def Lx:=kP HX k0
def x68:Xc vw:=mX prog 6 Lx.1 YH [] [] []
theorem EU:aM prog 68 V9 Q1:=fn0 x68 Tryz.func68 Lx.2
def UG:aN vw:={rcut:=eO}
def RF:Sig vw:=sg [vG] eO [.tmp 2]
noncomputable def Eh(v:aF×Unit):Option (Bool×Unit):=(Q1 v>>=λx1=>if(x1.1==0)=true then if(!v.1.opt)=true then some ((!v.1.err,()))else some ((false,()))else some ((false,())))>>=λx1=>some (x1)
def CQ:=kP EU k0
def Zr:Xc vw:=mX prog 16 CQ.1 UG [] [(1,eO)] []
theorem yT:aM prog 119 RF Eh:=fn0 Zr Tryz.func119 CQ.2
def UF:aN vw:={rcut:=eO}
def RE:Sig vw:=sg [vG] eO [.tmp 2]
noncomputable def AL(v:aF×Unit):Option (Bool×Unit):=(Eh v>>=λx1=>if x1.1=true then if(v.1.base==2)=true then some ((true,()))else some ((v.1.base==3,()))else some ((false,())))>>=λx1=>some (x1)
def CP:=kP yT k0
def Zq:Xc vw:=mX prog 15 CP.1 UF [] [(1,eO)] []
theorem HY:aM prog 118 RE AL:=fn0 Zq Tryz.func118 CP.2
def tK:Cut SN:=⟨[(1, .bp 100000 0),(3,Dq4)],[(100000, .box none [Dq5])]⟩
def FK:aN vw:={rcut:=tK}
def BK:Sig vw:={params:=[Ce, .bp 100000 0],objs:=[(100000, .box none [Dq5])],rcut:=tK,rvars:=[.tmp 3],keep:=[100000]}
noncomputable def pd(v:aB×ByteArray×Unit):Option (Bool×ByteArray×Unit):=some (v.1.name0.toList==v.2.1.toList,v.2)
def Kn:Xc vw:=mX prog 8 c0 FK [] [] []
theorem uB:aM prog 72 BK pd:=fn0 Kn Tryz.func72 bT
def qC:Cut SN:=⟨[(0,Dq3),(1, .fn 72 [] [100000]),(7,Dq1),(8,Dq1)],[(100000, .box none [Dq5])]⟩
def Ah:Cut SN:=⟨[(1, .fn 72 [] [100000])],[(100000, .box none [Dq5])]⟩
def tI:Cut SN:=⟨[(1, .fn 72 [] [100000]),(4,Dq1)],[(100000, .box none [Dq5])]⟩
def FH:aN vw:=shL [(0,Ah)] tI
def BH:Sig vw:={params:=[Dq3, .fn 72 [] [100000]],objs:=[(100000, .box none [Dq5])],rcut:=tI,rvars:=[.tmp 4],keep:=[100000]}
noncomputable def dU(v:(List aB)×Int×Int×ByteArray×Unit):Option (((Int×ByteArray×Unit)⊕(ByteArray×Unit))):=let a:=v.2.2;if decide (a.1<v.2.1)=true then if 0<=a.1 then v.1[a.1.toNat]?>>=λx1=>pd (x1,a.2)>>=λx2=>if x2.1=true then some (aaW (a.1,x2.2))else dU (v.1,v.2.1,i64.wrap (a.1+1),x2.2)else none else some (abn a.2) partial_fixpoint
noncomputable def pb(v:(List aB)×ByteArray×Unit):Option (Int×ByteArray×Unit):=dU (v.1,(↑v.1.length:Int),(0:Int),v.2)>>=λx1=>match x1 with| .inl y1=>some y1| .inr y1=>some (((-1:Int),y1))
def jT:=kO uB k0
def zN:Xc vw:=mX prog 19 jT.1 FH [] [] [(2,⟨qC,[.ret, .exit 0],dU⟩)]
theorem qk:gh zN (aS (aO Tryz.f65) 0) ⟨qC,[.ret, .exit 0],dU⟩:=lp0 dU.partial_correctness jT.2
theorem uy:aM prog 65 BH pb:=fn1 zN Tryz.func65 jT.2 qk
def Yr:aN vw:={rcut:=bG}
def VY:Sig vw:=sg [Dq3,Dq5] bG [.tmp 4]
noncomputable def O8(v:(List aB)×ByteArray×Unit):Option (Int×Unit):=pb v>>=λx1=>some ((x1.1,()))
def Lo:=kO uy k0
def x50:Xc vw:=mX prog 8 Lo.1 Yr [] [] []
theorem wV:aM prog 50 VY O8:=fn0 x50 Tryz.func50 Lo.2
def TK:Cut SN:=⟨[(6, .bp 6 0),(8, .bp 8 0),(9, .bp 9 0),(131,Dq4)],[(6, .st .myShapeT),(8, .st .myShapeT),(9, .st .myShapeT)]⟩
def Qq:Cut SN:=⟨[(0,Dq3),(4, .bp 4 0),(5, .bp 5 0),(6, .bp 6 0),(8, .bp 8 0),(9, .bp 9 0),(27,Dq1),(50,Dq4)],[(4, .st .myFuncT),(5, .st .myCodeT),(6, .st .myShapeT),(8, .st .myShapeT),(9, .st .myShapeT)]⟩
def Qr:Cut SN:=⟨[(0,Dq3),(4, .bp 4 0),(5, .bp 5 0),(6, .bp 6 0),(8, .bp 8 0),(9, .bp 9 0),(27,Dq1),(76,Dq4)],[(4, .st .myFuncT),(5, .st .myCodeT),(6, .st .myShapeT),(8, .st .myShapeT),(9, .st .myShapeT)]⟩
def Qs:Cut SN:=⟨[(0,Dq3),(4, .bp 4 0),(5, .bp 5 0),(6, .bp 6 0),(8, .bp 8 0),(9, .bp 9 0),(27,Dq1),(84,Dq4)],[(4, .st .myFuncT),(5, .st .myCodeT),(6, .st .myShapeT),(8, .st .myShapeT),(9, .st .myShapeT)]⟩
def Cz:Cut SN:=⟨[(6, .bp 6 0),(9, .bp 9 0)],[(6, .st .myShapeT),(9, .st .myShapeT)]⟩
def W4:Cut SN:=⟨[(6, .bp 6 0),(7,Dq4)],[(6, .st .myShapeT)]⟩
def YI:aN vw:={rcut:=W4}
abbrev ma:Pt SN:= .dat (.st .myCodeT)
def V_:Sig vw:=sg [Dq3,Ce,ma] W4 [.cell 6 118, .tmp 7]
abbrev WN:=(List aB)×aB×aQ×Unit
noncomputable def T8(v:WN):Option (Bool×cj×Unit):=let c:=v.2.2.1;let G1:=(cj.mk false false false false);(if(c.op==0)=true then GB (c.a,(-2147483648:Int),(2147483648:Int),())>>=λx1=>(AL (c.type0,())>>=λx2=>if x2.1=true then some ((G1,cj.mk x1.1 (cj.mk (c.a==0) (c.b==0) (Mp.ieq c.type0.base (aF.mk (0:Int) (0:Int) (aae #[]) false false).base&&(Mp.ieq c.type0.bits (aF.mk (0:Int) (0:Int) (aae #[]) false false).bits&&(Mp.seq c.type0.name0 (aF.mk (0:Int) (0:Int) (aae #[]) false false).name0&&(Mp.beq c.type0.opt (aF.mk (0:Int) (0:Int) (aae #[]) false false).opt&&Mp.beq c.type0.err (aF.mk (0:Int) (0:Int) (aae #[]) false false).err)))) (c.name0.toList==(aae #[]).toList)).b true (cj.mk (c.a==0) (c.b==0) (Mp.ieq c.type0.base (aF.mk (0:Int) (0:Int) (aae #[]) false false).base&&(Mp.ieq c.type0.bits (aF.mk (0:Int) (0:Int) (aae #[]) false false).bits&&(Mp.seq c.type0.name0 (aF.mk (0:Int) (0:Int) (aae #[]) false false).name0&&(Mp.beq c.type0.opt (aF.mk (0:Int) (0:Int) (aae #[]) false false).opt&&Mp.beq c.type0.err (aF.mk (0:Int) (0:Int) (aae #[]) false false).err)))) (c.name0.toList==(aae #[]).toList)).name0,()))else Eh (c.type0,())>>=λx3=>if x3.1=true then some ((G1,cj.mk x1.1 (cj.mk (c.a==0) (c.b==0) (Mp.ieq c.type0.base (aF.mk (0:Int) (0:Int) (aae #[]) false false).base&&(Mp.ieq c.type0.bits (aF.mk (0:Int) (0:Int) (aae #[]) false false).bits&&(Mp.seq c.type0.name0 (aF.mk (0:Int) (0:Int) (aae #[]) false false).name0&&(Mp.beq c.type0.opt (aF.mk (0:Int) (0:Int) (aae #[]) false false).opt&&Mp.beq c.type0.err (aF.mk (0:Int) (0:Int) (aae #[]) false false).err)))) (c.name0.toList==(aae #[]).toList)).b (decide (c.type0.base<=1)) (cj.mk (c.a==0) (c.b==0) (Mp.ieq c.type0.base (aF.mk (0:Int) (0:Int) (aae #[]) false false).base&&(Mp.ieq c.type0.bits (aF.mk (0:Int) (0:Int) (aae #[]) false false).bits&&(Mp.seq c.type0.name0 (aF.mk (0:Int) (0:Int) (aae #[]) false false).name0&&(Mp.beq c.type0.opt (aF.mk (0:Int) (0:Int) (aae #[]) false false).opt&&Mp.beq c.type0.err (aF.mk (0:Int) (0:Int) (aae #[]) false false).err)))) (c.name0.toList==(aae #[]).toList)).name0,()))else some ((G1,cj.mk x1.1 (cj.mk (c.a==0) (c.b==0) (Mp.ieq c.type0.base (aF.mk (0:Int) (0:Int) (aae #[]) false false).base&&(Mp.ieq c.type0.bits (aF.mk (0:Int) (0:Int) (aae #[]) false false).bits&&(Mp.seq c.type0.name0 (aF.mk (0:Int) (0:Int) (aae #[]) false false).name0&&(Mp.beq c.type0.opt (aF.mk (0:Int) (0:Int) (aae #[]) false false).opt&&Mp.beq c.type0.err (aF.mk (0:Int) (0:Int) (aae #[]) false false).err)))) (c.name0.toList==(aae #[]).toList)).b false (cj.mk (c.a==0) (c.b==0) (Mp.ieq c.type0.base (aF.mk (0:Int) (0:Int) (aae #[]) false false).base&&(Mp.ieq c.type0.bits (aF.mk (0:Int) (0:Int) (aae #[]) false false).bits&&(Mp.seq c.type0.name0 (aF.mk (0:Int) (0:Int) (aae #[]) false false).name0&&(Mp.beq c.type0.opt (aF.mk (0:Int) (0:Int) (aae #[]) false false).opt&&Mp.beq c.type0.err (aF.mk (0:Int) (0:Int) (aae #[]) false false).err)))) (c.name0.toList==(aae #[]).toList)).name0,())))>>=λx2=>some (aaW x2)else(if(c.op==2)=true then some ((v.1,c.op,true,v.2.1,c,G1,cj.mk (c.a==0) (c.b==0) (Mp.ieq c.type0.base (aF.mk (0:Int) (0:Int) (aae #[]) false false).base&&(Mp.ieq c.type0.bits (aF.mk (0:Int) (0:Int) (aae #[]) false false).bits&&(Mp.seq c.type0.name0 (aF.mk (0:Int) (0:Int) (aae #[]) false false).name0&&(Mp.beq c.type0.opt (aF.mk (0:Int) (0:Int) (aae #[]) false false).opt&&Mp.beq c.type0.err (aF.mk (0:Int) (0:Int) (aae #[]) false false).err)))) (c.name0.toList==(aae #[]).toList),cj.mk (c.a==0) (c.b==0) (Mp.ieq c.type0.base (aF.mk (0:Int) (0:Int) (aae #[]) false false).base&&(Mp.ieq c.type0.bits (aF.mk (0:Int) (0:Int) (aae #[]) false false).bits&&(Mp.seq c.type0.name0 (aF.mk (0:Int) (0:Int) (aae #[]) false false).name0&&(Mp.beq c.type0.opt (aF.mk (0:Int) (0:Int) (aae #[]) false false).opt&&Mp.beq c.type0.err (aF.mk (0:Int) (0:Int) (aae #[]) false false).err)))) (c.name0.toList==(aae #[]).toList),()))else some ((v.1,c.op,c.op==3,v.2.1,c,G1,cj.mk (c.a==0) (c.b==0) (Mp.ieq c.type0.base (aF.mk (0:Int) (0:Int) (aae #[]) false false).base&&(Mp.ieq c.type0.bits (aF.mk (0:Int) (0:Int) (aae #[]) false false).bits&&(Mp.seq c.type0.name0 (aF.mk (0:Int) (0:Int) (aae #[]) false false).name0&&(Mp.beq c.type0.opt (aF.mk (0:Int) (0:Int) (aae #[]) false false).opt&&Mp.beq c.type0.err (aF.mk (0:Int) (0:Int) (aae #[]) false false).err)))) (c.name0.toList==(aae #[]).toList),cj.mk (c.a==0) (c.b==0) (Mp.ieq c.type0.base (aF.mk (0:Int) (0:Int) (aae #[]) false false).base&&(Mp.ieq c.type0.bits (aF.mk (0:Int) (0:Int) (aae #[]) false false).bits&&(Mp.seq c.type0.name0 (aF.mk (0:Int) (0:Int) (aae #[]) false false).name0&&(Mp.beq c.type0.opt (aF.mk (0:Int) (0:Int) (aae #[]) false false).opt&&Mp.beq c.type0.err (aF.mk (0:Int) (0:Int) (aae #[]) false false).err)))) (c.name0.toList==(aae #[]).toList),())))>>=λx1=>let d:=x1.2.2.2;let e:=d.2.2.2.2.1;let f:=x1.2.1;if x1.2.2.1=true then GB (d.2.1.a,(0:Int),i64.wrap (d.1.places-1),())>>=λx2=>some (aaW (d.2.2.1,cj.mk x2.1 e.b e.kind e.name0,()))else if(f==5)=true then GB (d.2.1.a,(5:Int),(17:Int),())>>=λx2=>AL (d.2.1.type0,())>>=λx3=>some (aaW (d.2.2.1,cj.mk x2.1 e.b x3.1 e.name0,()))else if(f==6)=true then GB (d.2.1.a,(18:Int),(23:Int),())>>=λx2=>some (aaW (d.2.2.1,cj.mk x2.1 e.b e.kind e.name0,()))else(if(f==7)=true then some (x1.1,f,true,d)else if(f==9)=true then some (x1.1,f,true,d)else some (x1.1,f,f==10,d))>>=λx2=>let g:=x2.2.2.2;let h:=x2.2.1;let G2:=(x2.1,h,true,g);if x2.2.2.1=true then AL (g.2.1.type0,())>>=λx3=>some (aaW (g.2.2.1,cj.mk g.2.2.2.2.1.a g.2.2.2.2.1.b x3.1 g.2.2.2.2.1.name0,()))else(if(h==12)=true then some (G2)else if(h==13)=true then some (G2)else if(h==14)=true then some (G2)else some (x2.1,h,h==15,g))>>=λx3=>let i:=x3.2.2.2.2;let j:=i.2.2.2.1;let k:=x3.2.1;let G3:=(true,i.2);if x3.2.2.1=true then GB (i.1.a,(0:Int),i64.wrap ((↑x3.2.2.2.1.code.length:Int) -1),())>>=λx4=>some (aaW (i.2.1,cj.mk x4.1 j.b j.kind j.name0,()))else if(k==16)=true then O8 (x3.1,i.1.name0,())>>=λx4=>(if decide (x4.1>=0)=true then if 0<=x4.1 then x3.1[x4.1.toNat]?>>=λx5=>some ((i.2.1,cj.mk j.a (i.1.b==x5.params) j.kind (decide (x4.1>=0)),()))else none else some ((i.2.1,cj.mk j.a false j.kind (decide (x4.1>=0)),())))>>=λx5=>some (aaW x5)else if(k==18)=true then Pa (i.1.name0,())>>=λx4=>some (aaW (i.2.1,cj.mk j.a j.b j.kind x4.1,()))else if(k==19)=true then GB (i.1.a,(1:Int),(5:Int),())>>=λx4=>some (aaW (i.2.1,cj.mk x4.1 j.b j.kind j.name0,()))else(if(k==1)=true then some (G3)else if(k==4)=true then some (G3)else if(k==8)=true then some (G3)else if(k==11)=true then some (G3)else some (k==17,i.2))>>=λx4=>if x4.1=true then some (aaW (x4.2.1,x4.2.2.2))else some (abn (false,x4.2.2.1,())))>>=λx1=>match x1 with| .inl y1=>some (true,y1.2)| .inr y1=>some y1
def Ly:=kP wV (kP w8 (kP ET (kP HY (kP yT k0))))
def x71:Xc vw:=mX prog 138 Ly.1 YI [(4,TK,[.norm]),(10,Qq,[.norm]),(18,Qr,[.norm]),(23,Qs,[.norm]),(36,Cz,[.norm, .ret])] [(7,Cz),(26,Cz)] []
theorem N0:aM prog 71 V_ T8:=fn0 x71 Tryz.func71 Ly.2
def lH:Cut SN:=⟨[(1, .bp 100000 0),(2, .bp 100001 0),(4,Dq4)],[(100000, .box none [Dq3]),(100001, .st .myFuncT)]⟩
def FJ:aN vw:={rcut:=lH}
def BJ:Sig vw:={params:=[ma, .bp 100000 0, .bp 100001 0],objs:=[(100000, .box none [Dq3]),(100001, .st .myFuncT)],rcut:=lH,rvars:=[.tmp 4],keep:=[100000,100001]}
abbrev WP:=Bool×(List aB)×aB×Unit
noncomputable def kV(v:aQ×(List aB)×aB×Unit):Option (WP):=let G1:=(cj.mk true true true true);T8 (v.2.1,v.2.2.1,v.1,())>>=λx1=>(if(!x1.1)=true then some (true,v.2)else some ((!(Mp.beq x1.2.1.a G1.a&&(Mp.beq x1.2.1.b G1.b&&(Mp.beq x1.2.1.kind G1.kind&&Mp.beq x1.2.1.name0 G1.name0))),v.2)))>>=λx2=>some (x2)
def n8:=kP N0 k0
def Km:Xc vw:=mX prog 21 n8.1 FJ [] [(2,lH)] []
theorem uA:aM prog 70 BJ kV:=fn0 Km Tryz.func70 n8.2
abbrev Dq8:Pt SN:= .dat (.sl (.st .myCodeT))
def nX:Cut SN:=⟨[(0,Dq8),(1, .fn 70 [] [100000,100001]),(7,Dq1),(8,Dq1)],[(100000, .box none [Dq3]),(100001, .st .myFuncT)]⟩
def vS:Cut SN:=⟨[(1, .fn 70 [] [100000,100001])],[(100000, .box none [Dq3]),(100001, .st .myFuncT)]⟩
def qu:Cut SN:=⟨[(1, .fn 70 [] [100000,100001]),(4,Dq1)],[(100000, .box none [Dq3]),(100001, .st .myFuncT)]⟩
def Bx:aN vw:=shL [(0,vS)] qu
def xu:Sig vw:={params:=[Dq8, .fn 70 [] [100000,100001]],objs:=[(100000, .box none [Dq3]),(100001, .st .myFuncT)],rcut:=qu,rvars:=[.tmp 4],keep:=[100000,100001]}
noncomputable def c_(v:(List aQ)×Int×Int×(List aB)×aB×Unit):Option (((Int×(List aB)×aB×Unit)⊕((List aB)×aB×Unit))):=let a:=v.2.2;if decide (a.1<v.2.1)=true then if 0<=a.1 then v.1[a.1.toNat]?>>=λx1=>kV (x1,a.2)>>=λx2=>if x2.1=true then some (aaW (a.1,x2.2))else c_ (v.1,v.2.1,i64.wrap (a.1+1),x2.2)else none else some (abn a.2) partial_fixpoint
abbrev WM:=(List aQ)×(List aB)×aB×Unit
noncomputable def lO(v:WM):Option (Int×(List aB)×aB×Unit):=c_ (v.1,(↑v.1.length:Int),(0:Int),v.2)>>=λx1=>match x1 with| .inl y1=>some y1| .inr y1=>some (((-1:Int),y1))
def iK:=kO uA k0
def vz:Xc vw:=mX prog 19 iK.1 Bx [] [] [(2,⟨nX,[.ret, .exit 0],c_⟩)]
theorem o8:gh vz (aS (aO Tryz.f117) 0) ⟨nX,[.ret, .exit 0],c_⟩:=lp0 c_.partial_correctness iK.2
theorem sI:aM prog 117 xu lO:=fn1 vz Tryz.func117 iK.2 o8
def tJ:Cut SN:=⟨[(1, .fn 70 [] [100000,100001]),(4,Dq4)],[(100000, .box none [Dq3]),(100001, .st .myFuncT)]⟩
def FI:aN vw:={rcut:=tJ}
def BI:Sig vw:={params:=[Dq8, .fn 70 [] [100000,100001]],objs:=[(100000, .box none [Dq3]),(100001, .st .myFuncT)],rcut:=tJ,rvars:=[.tmp 4],keep:=[100000,100001]}
noncomputable def kU(v:WM):Option (WP):=lO v>>=λx1=>some ((decide (x1.1>=0),x1.2))
def n7:=kO sI k0
def Kl:Xc vw:=mX prog 9 n7.1 FI [] [] []
theorem uz:aM prog 69 BI kU:=fn0 Kl Tryz.func69 n7.2
def TG:Cut SN:=⟨[(2, .bp 2 0),(3, .bp 3 0),(34,Dq4)],[(2, .box none [Dq3]),(3, .st .myFuncT)]⟩
def Yq:aN vw:={rcut:=cV}
def VX:Sig vw:=sg [Dq3,Ce] cV [.tmp 4]
noncomputable def S4(v:(List aB)×aB×Unit):Option (Bool×Unit):=(Pa (v.2.1.name0,())>>=λx1=>if(!x1.1)=true then some (true,v)else GB (v.2.1.params,(0:Int),v.2.1.places,())>>=λx2=>if(!x2.1)=true then some (true,v)else if((↑v.2.1.code.length:Int)==0)=true then some (true,v)else Q1 (v.2.1.type0,())>>=λx3=>if(x3.1 !=0)=true then some (true,v)else some ((decide (v.2.1.type0.base>=4),v)))>>=λx1=>if x1.1=true then some ((false,()))else kU (x1.2.2.1.code,x1.2)>>=λx2=>some ((!x2.1,()))
def Ln:=kP w8 (kP ET (kP EU (kO uz k0)))
def x49:Xc vw:=mX prog 40 Ln.1 Yq [] [(1,TG)] []
theorem NV:aM prog 49 VX S4:=fn0 x49 Tryz.func49 Ln.2
def P8:Cut SN:=⟨[(0,Dq3),(17,Dq3),(18,Dq1),(19,Dq1)],[]⟩
def Tz:Cut SN:=⟨[(0,Dq3),(16,Dq4)],[]⟩
def TA:Cut SN:=⟨[(0,Dq3),(17,Dq3),(18,Dq1),(19,Dq1),(35,Dq4)],[]⟩
def Yh:aN vw:=shL [(0,dX)] nh
def VP:Sig vw:=sg [Dq3] nh [.tmp 2]
noncomputable def mi(v:(List aB)×(List aB)×Int×Int×Unit):Option (((Int×Unit)⊕(Unit))):=let a:=v.2.2.2.1;if decide (a<v.2.2.1)=true then if 0<=a then v.2.1[a.toNat]?>>=λx1=>(S4 (v.1,x1,())>>=λx2=>if(!x2.1)=true then some ((v.1,v.2.1,v.2.2.1,a,true,()))else O8 (v.1,x1.name0,())>>=λx3=>some ((v.1,v.2.1,v.2.2.1,a,x3.1 !=a,())))>>=λx2=>if x2.2.2.2.2.1=true then some (aaW ((1:Int),()))else mi (x2.1,x2.2.1,x2.2.2.1,i64.wrap (x2.2.2.2.1+1),())else none else some (abn ()) partial_fixpoint
noncomputable def O7(v:(List aB)×Unit):Option (Int×Unit):=(if decide ((↑v.1.length:Int)>48)=true then some ((v.1,true,()))else S3 v>>=λx1=>if decide (x1.1>2000)=true then some ((v.1,true,()))else sP v>>=λx2=>some (v.1,x2))>>=λx1=>if x1.2.1=true then some (((3:Int),()))else mi (x1.1,x1.1,(↑x1.1.length:Int),(0:Int),())>>=λx2=>match x2 with| .inl y2=>some y2| .inr y2=>some (((0:Int),()))
def De:=kP NT (kP Ba (kP NV (kP wV k0)))
def x37:Xc vw:=mX prog 37 De.1 Yh [] [(1,Tz),(6,TA)] [(4,⟨P8,[.ret, .exit 0],mi⟩)]
theorem EC:gh x37 (aS (aO Tryz.f37) 0) ⟨P8,[.ret, .exit 0],mi⟩:=lp0 mi.partial_correctness De.2
theorem wU:aM prog 37 VP O7:=fn1 x37 Tryz.func37 De.2 EC
def Ai:Cut SN:=⟨[(0,Dq1),(1, .bp 100000 0),(9,Dq4)],[(100000, .box none [Dq1])]⟩
def tL:Cut SN:=⟨[(1, .bp 100000 0)],[(100000, .box none [Dq1])]⟩
def FL:aN vw:={rcut:=tL}
def BL:Sig vw:={params:=[Dq1, .bp 100000 0],objs:=[(100000, .box none [Dq1])],rcut:=tL,rvars:=[],keep:=[100000]}
noncomputable def gU(v:Int×Int×Unit):Option (Int×Unit):=(if decide (v.2.1<0)=true then some (v.1,true,v.2)else some ((v.1,decide (v.1<v.2.1),v.2)))>>=λx1=>if x1.2.1=true then some ((x1.1,()))else some (x1.2.2)
def Ko:Xc vw:=mX prog 11 c0 FL [] [(0,Ai)] []
theorem uC:aM prog 73 BL gU:=fn0 Ko Tryz.func73 bT
abbrev KQ:OPt SN:= .que 123 (.st .pointT)
def tM:Cut SN:=⟨[(1, .bp 100000 0),(2, .bp 100001 0)],[(100000, .box none [.mp 100002]),(100001, .box none [.vh 3010]),(100002, .map (.st .pointT) .bool),(3010,KQ)]⟩
def FM:aN vw:={rcut:=tM}
def BM:Sig vw:={params:=[.dat (.st .pointT), .bp 100000 0, .bp 100001 0],objs:=[(100000, .box none [.mp 100002]),(100001, .box none [.vh 100003]),(100002, .map (.st .pointT) .bool),(100003,KQ)],rcut:=tM,rvars:=[],keep:=[100000,100001,100002,3010]}
noncomputable def fK(v:aZ×(List (aZ×Bool))×(List aZ)×Unit):Option ((List (aZ×Bool))×(List aZ)×Unit):=if(!(Mp.get (λx y=>Mp.ieq x.at0 y.at0&&Mp.ieq x.height y.height) v.1 v.2.1).getD false)=true then if v.2.2.1.length+[v.1].length<=4294967296 then some ((Mp.set (λx y=>Mp.ieq x.at0 y.at0&&Mp.ieq x.height y.height) (λx x_1=>false) v.1 true v.2.1,v.2.2.1++[v.1],()))else none else some (v.2)
def Kp:Xc vw:=mX prog 14 c0 FM [] [] []
theorem uD:aM prog 74 BM fK:=fn0 Kp Tryz.func74 bT
def TL:Cut SN:=⟨[(1, .bp 1 0),(2, .bp 2 0),(4,Dq1),(5,Dq4)],[(1, .st .myCodeT),(2, .st .stepT)]⟩
def Qt:Cut SN:=⟨[(1, .bp 1 0),(2, .bp 2 0),(4,Dq1),(11,Dq4)],[(1, .st .myCodeT),(2, .st .stepT)]⟩
def Qu:Cut SN:=⟨[(1, .bp 1 0),(2, .bp 2 0),(4,Dq1),(16,Dq4)],[(1, .st .myCodeT),(2, .st .stepT)]⟩
def Qv:Cut SN:=⟨[(2, .bp 2 0),(4,Dq1),(25,Dq4)],[(2, .st .stepT)]⟩
def W5:Cut SN:=⟨[(2, .bp 2 0)],[(2, .st .stepT)]⟩
def YJ:aN vw:={rcut:=W5}
def Wa:Sig vw:=sg [ma] W5 [.cell 2 130]
noncomputable def S9(v:aQ×Unit):Option (vJ×Unit):=let G1:=(vJ.mk (0:Int) (0:Int) false,());let G2:=(v.1.op,true,v.1,G1);(if(v.1.op==0)=true then some (G2)else if(v.1.op==1)=true then some (G2)else if(v.1.op==2)=true then some (G2)else some (v.1.op,v.1.op==18,v.1,G1))>>=λx1=>if x1.2.1=true then some ((vJ.mk (0:Int) (1:Int) true,()))else(if(x1.1==3)=true then some (x1.1,true,x1.2.2)else if(x1.1==4)=true then some (x1.1,true,x1.2.2)else some (x1.1,x1.1==15,x1.2.2))>>=λx2=>if x2.2.1=true then some ((vJ.mk (1:Int) (0:Int) true,()))else(if(x2.1==5)=true then some (x2.1,true,x2.2.2)else some (x2.1,x2.1==6,x2.2.2))>>=λx3=>if x3.2.1=true then some ((vJ.mk (2:Int) (1:Int) true,()))else if(x3.1==16)=true then some ((vJ.mk x3.2.2.1.b (1:Int) true,()))else(if(x3.1==14)=true then some (x3.1,true,x3.2.2.2)else some (x3.1,x3.1==19,x3.2.2.2))>>=λx4=>if x4.2.1=true then some (G1)else if(x4.1==17)=true then some ((vJ.mk (1:Int) (0:Int) false,()))else some ((vJ.mk (1:Int) (1:Int) true,()))
def x75:Xc vw:=mX prog 33 c0 YJ [(6,TL,[.norm]),(10,Qt,[.norm]),(13,Qu,[.norm]),(18,Qv,[.norm])] [] []
theorem N1:aM prog 75 Wa S9:=fn0 x75 Tryz.func75 bT
def YK:aN vw:={rcut:=eO}
def Wb:Sig vw:=sg [Dq1] eO [.tmp 2]
noncomputable def S_(v:Int×Unit):Option (Bool×Unit):=(if(v.1==12)=true then some ((true,()))else if(v.1==13)=true then some ((true,()))else if(v.1==14)=true then some ((true,()))else some ((v.1==15,())))>>=λx1=>if x1.1=true then some ((true,()))else some ((false,()))
def x76:Xc vw:=mX prog 9 c0 YK [(6,cV,[.norm])] [] []
theorem N2:aM prog 76 Wb S_:=fn0 x76 Tryz.func76 bT
def Qh:Cut SN:=⟨[(1, .bp 1 0),(4, .bp 4 0),(5, .mp 20),(6, .bp 6 0),(7, .bp 7 0),(8, .fn 73 [] [7]),(9, .fn 74 [] [4,6])],[(1, .st .myFuncT),(4, .box none [.mp 17]),(20, .map (.int .i64) (.int .i64)),(6, .box none [.vh 3060]),(7, .box none [Dq1]),(17, .map (.st .pointT) .bool),(3060,KQ)]⟩
def Qe:Cut SN:=⟨[(1, .bp 1 0),(4, .bp 4 0),(5, .mp 20),(6, .bp 6 0),(7, .bp 7 0),(8, .fn 73 [] [7]),(9, .fn 74 [] [4,6]),(10, .bp 10 0)],[(1, .st .myFuncT),(4, .box none [.mp 17]),(20, .map (.int .i64) (.int .i64)),(6, .box none [.vh 3060]),(7, .box none [Dq1]),(10, .st .pointT),(17, .map (.st .pointT) .bool),(3060,KQ)]⟩
def Qf:Cut SN:=⟨[(1, .bp 1 0),(4, .bp 4 0),(5, .mp 20),(6, .bp 6 0),(7, .bp 7 0),(8, .fn 73 [] [7]),(9, .fn 74 [] [4,6]),(10, .bp 10 0),(13, .bp 13 0),(14, .bp 14 0),(15,Dq1),(16,Dq1)],[(1, .st .myFuncT),(4, .box none [.mp 17]),(20, .map (.int .i64) (.int .i64)),(6, .box none [.vh 3060]),(7, .box none [Dq1]),(10, .st .pointT),(13, .st .myCodeT),(14, .st .stepT),(17, .map (.st .pointT) .bool),(3060,KQ)]⟩
def Qg:Cut SN:=⟨[(1, .bp 1 0),(4, .bp 4 0),(5, .mp 20),(6, .bp 6 0),(7, .bp 7 0),(8, .fn 73 [] [7]),(9, .fn 74 [] [4,6]),(10, .bp 10 0),(14, .bp 14 0),(15,Dq1)],[(1, .st .myFuncT),(4, .box none [.mp 17]),(20, .map (.int .i64) (.int .i64)),(6, .box none [.vh 3060]),(7, .box none [Dq1]),(10, .st .pointT),(14, .st .stepT),(17, .map (.st .pointT) .bool),(3060,KQ)]⟩
def Qi:Cut SN:=⟨[(1, .bp 1 0),(4, .bp 4 0),(5, .mp 20),(6, .bp 6 0),(7, .bp 7 0),(8, .fn 73 [] [7]),(9, .fn 74 [] [4,6]),(10, .bp 10 0),(46,Dq4)],[(1, .st .myFuncT),(4, .box none [.mp 17]),(20, .map (.int .i64) (.int .i64)),(6, .box none [.vh 3060]),(7, .box none [Dq1]),(10, .st .pointT),(17, .map (.st .pointT) .bool),(3060,KQ)]⟩
def Qj:Cut SN:=⟨[(1, .bp 1 0),(4, .bp 4 0),(5, .mp 20),(6, .bp 6 0),(7, .bp 7 0),(8, .fn 73 [] [7]),(9, .fn 74 [] [4,6]),(10, .bp 10 0),(13, .bp 13 0),(14, .bp 14 0),(73,Dq4)],[(1, .st .myFuncT),(4, .box none [.mp 17]),(20, .map (.int .i64) (.int .i64)),(6, .box none [.vh 3060]),(7, .box none [Dq1]),(10, .st .pointT),(13, .st .myCodeT),(14, .st .stepT),(17, .map (.st .pointT) .bool),(3060,KQ)]⟩
def TH:Cut SN:=⟨[(4, .bp 4 0),(7, .bp 7 0)],[(4, .box none [.mp 17]),(7, .box none [Dq1]),(17, .map (.st .pointT) .bool)]⟩
def WV:Cut SN:=⟨[(2, .mp 2002),(3,Dq1)],[(2002, .map (.st .pointT) .bool)]⟩
def Ys:aN vw:=shL [(0,TH)] WV
def Ub:Nat->Bool:=λk=>match k with|6000022=>true|_=>false
def VZ:Sig vw:={params:=[Ce],rcut:=WV,rvars:=[.tmp 2, .tmp 3],keep:=[2002]}
noncomputable def fc(v:aB×(List (Int×Int))×Int×(List (aZ×Bool))×(List aZ)×Unit):Option ((Int×(List (aZ×Bool))×Unit)):=let b:=v.2.2.2.2.1;if decide ((↑b.length:Int)>0)=true then if(0:Int)<=0/\0<(↑b.length:Int)then b[aaG 0]?>>=λx1=>let G3:=(v.1,v.2.1,v.2.2.1,x1,v.2.2.2.1,acA (aaG 1) b,());if(1:Int)<=(↑b.length:Int)then((if(Mp.get Mp.ieq x1.at0 v.2.1).isSome=true then some (((Mp.get Mp.ieq x1.at0 v.2.1).getD (0:Int) !=x1.height,G3))else some (false,G3))>>=λx2=>if x2.1=true then gU (x2.2.2.2.2.1.at0,x2.2.2.2.1,())>>=λx3=>some (x2.2.1,x2.2.2.1,x3.1,x2.2.2.2.2)else some (x2.2))>>=λx2=>let c:=x2.2.2.2.1;if 0<=c.at0 then x2.1.code[c.at0.toNat]?>>=λx3=>S9 (x3,())>>=λx4=>let G2:=(x2.1,Mp.set Mp.ieq Mp.ilt c.at0 c.height x2.2.1,x2.2.2.1,c,x3,x4.1,x2.2.2.2.2);(if decide (c.height<x4.1.takes)=true then some (true,G2)else some ((decide (c.height>64),G2)))>>=λx5=>let e:=x5.2;let d:=e.2.2.2;let G1:=(i64.wrap (d.1.height-d.2.2.1.takes)+d.2.2.1.puts);if x5.1=true then gU (d.1.at0,e.2.2.1,())>>=λx6=>fc (e.1,e.2.1,x6.1,d.2.2.2)else(S_ (d.2.1.op,())>>=λx6=>if x6.1=true then(if(d.2.1.op==12)=true then some ((i64.wrap G1,i64.wrap (i64.wrap G1-1),e))else some (i64.wrap G1,i64.wrap G1,e))>>=λx7=>let f:=x7.2.2.2.2;fK (aZ.mk f.2.2.1.a x7.2.1,f.2.2.2.2)>>=λx8=>some (x7.1,x7.2.2.1,x7.2.2.2.1,f.1,f.2.1,f.2.2.2.1,x8)else some (i64.wrap G1,e.1,e.2.1,e.2.2.1,d.1,d.2.2))>>=λx6=>let g:=x6.2.2.2;if(!g.2.2.1.goes)=true then fc (x6.2.1,x6.2.2.1,g.1,g.2.2.2)else if(i64.wrap (g.2.1.at0+1)==(↑x6.2.1.code.length:Int))=true then gU (g.2.1.at0,g.1,())>>=λx7=>fc (x6.2.1,x6.2.2.1,x7.1,g.2.2.2)else fK (aZ.mk (i64.wrap (g.2.1.at0+1)) x6.1,g.2.2.2)>>=λx7=>fc (x6.2.1,x6.2.2.1,g.1,x7)else none else none else none else some ((v.2.2.1,v.2.2.2.1,())) partial_fixpoint
noncomputable def S5(v:aB×Unit):Option (Int×(List (aZ×Bool))×Unit):=fc (v.1,[],(-1:Int),Mp.set (λx y=>Mp.ieq x.at0 y.at0&&Mp.ieq x.height y.height) (λx x_1=>false) (aZ.mk (0:Int) (0:Int)) true [],[aZ.mk (0:Int) (0:Int)],())>>=λx1=>some (x1)
def Di:=kO uC (kO uD (kP N1 (kP N2 k0)))
def x51:Xc vw:={P:=prog,n:=124,call:=Di.1,pre:=Ub,sh:=Ys,joins:=λk=>match k with|13=>some (Qe,[.norm])|23=>some (Qf,[.norm])|24=>some (Qg,[.norm])|_=>none,regs:=λk=>match k with|11=>some Qi|16=>some Qj|_=>none,loops:=λk=>match k with|7=>some {cut:=Qh,alts:=[.exit 0],F:=fc}|_=>none}
theorem EM:gh x51 (aS (aO Tryz.f51) 0) ⟨Qh,[.exit 0],fc⟩:=lp0 fc.partial_correctness Di.2
theorem NW:aM prog 51 VZ S5:=fn1 x51 Tryz.func51 Di.2 EM
def P9:Cut SN:=⟨[(15,Dq3),(16,Dq1),(17,Dq1)],[]⟩
def SO:Cut SN:=⟨[(2,Dq1),(3,Dq1),(4,Dq1)],[]⟩
def Yi:aN vw:=shL [(0,dX)] SO
def VQ:Sig vw:=sg [Dq3] SO [.tmp 2, .tmp 3, .tmp 4]
noncomputable def kS(v:SL):Option (((Cg)⊕(Unit))):=let a:=v.2.2.1;if decide (a<v.2.1)=true then if 0<=a then v.1[a.toNat]?>>=λx1=>S5 (x1,())>>=λx2=>if decide (x2.1>=0)=true then some (aaW (a,x2.1,(7:Int),()))else kS (v.1,v.2.1,i64.wrap (a+1),())else none else some (abn ()) partial_fixpoint
noncomputable def SX(v:(List aB)×Unit):Option (Cg):=O7 v>>=λx1=>if(x1.1 !=0)=true then some (((0:Int),(0:Int),x1))else kS (v.1,(↑v.1.length:Int),(0:Int),())>>=λx2=>match x2 with| .inl y2=>some y2| .inr y2=>some (((0:Int),(0:Int),(0:Int),()))
def Df:=kP wU (kO NW k0)
def x38:Xc vw:=mX prog 32 Df.1 Yi [] [] [(5,⟨P9,[.ret, .exit 0],kS⟩)]
theorem ED:gh x38 (aS (aO Tryz.f38) 0) ⟨P9,[.ret, .exit 0],kS⟩:=lp0 kS.partial_correctness Df.2
theorem NP:aM prog 38 VQ SX:=fn1 x38 Tryz.func38 Df.2 ED
def WT:Cut SN:=⟨[(4,Dq1),(5,Dq4),(6,Dq1)],[]⟩
def Yj:aN vw:={rcut:=WT}
def Ss:Sig vw:=sg [Dq3,Dq5] WT [.tmp 4, .tmp 5, .tmp 6]
noncomputable def LM(v:(List aB)×ByteArray×Unit):Option (Int×Bool×Int×Unit):=O7 (v.1,())>>=λx1=>if(x1.1 !=0)=true then some (((0:Int),false,x1))else O8 v>>=λx2=>some ((max x2.1 (0:Int),decide (x2.1>=0),(0:Int),()))
def Lm:=kP wU (kP wV k0)
def x39:Xc vw:=mX prog 21 Lm.1 Yj [] [] []
theorem EE:aM prog 39 Ss LM:=fn0 x39 Tryz.func39 Lm.2
abbrev l_:Pt SN:= .dat (.sl (.st .myValueT))
def La:Cut SN:=⟨[(12,Dq1),(48,l_),(49,Dq1),(50,Dq1)],[]⟩
def P7:Cut SN:=⟨[(12,Dq1),(48,l_),(49,Dq1),(50,Dq1),(61,Dq4)],[]⟩
def Tv:Cut SN:=⟨[(12,Dq1)],[]⟩
def O4:Cut SN:=⟨[(6,Dq1),(7,Dq1)],[]⟩
def Ya:aN vw:=shL [(0,Tv)] O4
def VJ:Sig vw:=sg [Dq3,Dq5,l_] O4 [.tmp 6, .tmp 7]
noncomputable def jc(v:Int×(List aE)×Int×Int×Unit):Option (((Int×Int×Unit)⊕(Int×Unit))):=let a:=v.2.2.2.1;if decide (a<v.2.2.1)=true then if 0<=a then v.2.1[a.toNat]?>>=λx1=>(if decide (x1.n<(-2147483648:Int))=true then some ((v.1,v.2.1,v.2.2.1,a,true,()))else some ((v.1,v.2.1,v.2.2.1,a,decide (x1.n>2147483648),())))>>=λx2=>if x2.2.2.2.2.1=true then some (aaW ((0:Int),(1:Int),()))else jc (x2.1,x2.2.1,x2.2.2.1,i64.wrap (x2.2.2.2.1+1),())else none else some (abn (v.1,())) partial_fixpoint
abbrev SK:=(List aB)×ByteArray×(List aE)×Unit
noncomputable def O5(v:SK):Option (Int×Int×Unit):=O7 (v.1,())>>=λx1=>if(x1.1 !=0)=true then some (((0:Int),x1))else SX (v.1,())>>=λx2=>if(x2.2.2.1 !=0)=true then some (((0:Int),x2.2.2))else LM (v.1,v.2.1,())>>=λx3=>if(!x3.2.1)=true then some (((0:Int),(4:Int),()))else if 0<=x3.1 then v.1[x3.1.toNat]?>>=λx4=>if((↑v.2.2.1.length:Int) !=x4.params)=true then some (((0:Int),(10:Int),()))else jc (x3.1,v.2.2.1,(↑v.2.2.1.length:Int),(0:Int),())>>=λx5=>match x5 with| .inl y5=>some y5| .inr y5=>some ((y5.1,(0:Int),()))else none
def Dd:=kP wU (kP NP (kP EE k0))
def x28:Xc vw:=mX prog 64 Dd.1 Ya [] [(15,P7)] [(13,⟨La,[.ret, .exit 0],jc⟩)]
theorem A9:gh x28 (aS (aO Tryz.f28) 0) ⟨La,[.ret, .exit 0],jc⟩:=lp0 jc.partial_correctness Dd.2
theorem wS:aM prog 28 VJ O5:=fn1 x28 Tryz.func28 Dd.2 A9
abbrev Oq2:OPt SN:= .vec 31 (.st .myValueT)
def qA:Cut SN:=⟨[(3, .vh 1003),(6,l_),(7,Dq1),(8,Dq1)],[(1003,Oq2)]⟩
def Ae:Cut SN:=⟨[(3, .vh 1003)],[(1003,Oq2)]⟩
def tE:Cut SN:=⟨[(2, .vh 2002)],[(2002,Oq2)]⟩
def FF:aN vw:=shL [(0,Ae)] tE
def BG:Sig vw:={params:=[l_],rcut:=tE,rvars:=[.tmp 2],keep:=[2002]}
noncomputable def dT(v:(List aE)×Int×Int×(List aE)×Unit):Option (((List aE)×Unit)):=let a:=v.2.2;if decide (a.1<v.2.1)=true then if 0<=a.1 then v.1[a.1.toNat]?>>=λx1=>if a.2.1.length+[aE.mk (aF.mk (0:Int) (0:Int) (aae #[]) false false) x1.n x1.null x1.err (aF.mk (0:Int) (0:Int) (aae #[]) false false)].length<=4294967296 then dT (v.1,v.2.1,i64.wrap (a.1+1),a.2.1++[aE.mk (aF.mk (0:Int) (0:Int) (aae #[]) false false) x1.n x1.null x1.err (aF.mk (0:Int) (0:Int) (aae #[]) false false)],())else none else none else some (a.2) partial_fixpoint
noncomputable def kQ(v:(List aE)×Unit):Option ((List aE)×Unit):=dT (v.1,(↑v.1.length:Int),(0:Int),[],())>>=λx1=>some (x1)
def zM:Xc vw:=mX prog 24 c0 FF [] [] [(3,⟨qA,[.exit 0],dT⟩)]
theorem qi:gh zM (aS (aO Tryz.f18) 0) ⟨qA,[.exit 0],dT⟩:=lp0 dT.partial_correctness bT
theorem uu:aM prog 18 BG kQ:=fn1 zM Tryz.func18 bT qi
abbrev Dq6:Pt SN:= .dat (.op (.st .endingT))
abbrev Oq7:OPt SN:= .vec 3 (.int .i64)
def tH:Cut SN:=⟨[(0, .bp 100000 0)],[(100000, .box none [Dq3,Dq4,Dq1, .vh 100001,Dq1, .vh 100002,Dq1,Dq6]),(100001,Oq7),(100002,Oq2)]⟩
def FG:aN vw:={rcut:=tH}
def Bj:Nat->Bool:=λk=>match k with|7000010=>true|_=>false
def rq:Sig vw:={params:=[.bp 100000 0,Dq1,Dq1],objs:=[(100000, .box none [Dq3,Dq4,Dq1, .vh 100001,Dq1, .vh 100002,Dq1,Dq6]),(100001,Oq7),(100002,Oq2)],rcut:=tH,rvars:=[],keep:=[100000,100001,100002]}
noncomputable def d_(v:Int×Int×(List aB)×Bool×Int×Int×Int×(Option bX)×(List Int)×(List aE)×Unit):Option ((List aB)×Bool×Int×Int×Int×(Option bX)×(List Int)×(List aE)×Unit):=let a:=v.2.2.2;some ((v.2.2.1,a.1,a.2.1,a.2.2.1,a.2.2.2.1,some (bX.mk v.1 v.2.1),a.2.2.2.2.2))
def Kk:Xc vw:={P:=prog,n:=13,call:=c0,pre:=Bj,sh:=FG}
theorem gu:aM prog 52 rq d_:=fn0 Kk Tryz.func52 bT
def WW:Cut SN:=⟨[(0, .bp 0 0)],[(0, .bar 20 .fno)]⟩
def Yt:aN vw:={rcut:=WW}
def St:Sig vw:=sg [] WW [.cell 0 102]
noncomputable def QV(v:Unit):Option ((List (Option Nat))×Unit):=some (([some (77:Nat),some (78:Nat),some (79:Nat),some (80:Nat),some (81:Nat),some (82:Nat),some (83:Nat),some (84:Nat),some (85:Nat),some (86:Nat),some (87:Nat),some (88:Nat),some (89:Nat),some (90:Nat),some (91:Nat),some (92:Nat),some (93:Nat),some (94:Nat),some (95:Nat),some (96:Nat)],()))
def x53:Xc vw:=mX prog 2 c0 Yt [] [] []
theorem EN:aM prog 53 St QV:=fn0 x53 Tryz.func53 bT
abbrev Dq9:Pt SN:= .dat (.op (.st .myValueT))
def aT:Cut SN:=⟨[(0, .bp 100000 0)],[(100000, .box none [.bp 100001 0,Dq5,Dq1,Dq1,Dq1,Dq1,Dq5,Dq4,Dq4,Dq8, .vh 100002, .vh 3011,Dq1,Dq1,Dq9]),(100001, .box none [Dq3,Dq4,Dq1, .vh 100004,Dq1, .vh 100005,Dq1,Dq6]),(100002,Oq2),(3011,Oq2),(100004,Oq7),(100005,Oq2)]⟩
def Bz:aN vw:={rcut:=aT}
abbrev Tk:Pt SN:= .dat (.st .myValueT)
def pK:Sig vw:={params:=[.bp 100000 0,Tk],objs:=[(100000, .box none [.bp 100001 0,Dq5,Dq1,Dq1,Dq1,Dq1,Dq5,Dq4,Dq4,Dq8, .vh 100002, .vh 100003,Dq1,Dq1,Dq9]),(100001, .box none [Dq3,Dq4,Dq1, .vh 100004,Dq1, .vh 100005,Dq1,Dq6]),(100002,Oq2),(100003,Oq2),(100004,Oq7),(100005,Oq2)],rcut:=aT,rvars:=[],keep:=[100000,100001,100002,3011,100004,100005]}
abbrev Tq1:=ByteArray×Int×Int×Int×Int×ByteArray×Bool×Bool×(List aQ)×Int×Int×(Option aE)×(List aB)×Bool×Int×Int×Int×(Option bX)×(List aE)×(List aE)×(List Int)×(List aE)×Unit
noncomputable def cK(v:aE×ByteArray×Int×Int×Int×Int×ByteArray×Bool×Bool×(List aQ)×Int×Int×(Option aE)×(List aB)×Bool×Int×Int×Int×(Option bX)×(List aE)×(List aE)×(List Int)×(List aE)×Unit):Option (Tq1):=let e:=v.2.2;let c:=e.2.2.2;let f:=c.2.2;let a:=f.2.2.2;let g:=a.2.2;let b:=g.2.2.2;let d:=b.2.2.2.2;let G1:=(b.2.2.2.1,d.1,d.2.1++[v.1],d.2.2);if d.2.1.length+[v.1].length<=4294967296 then if(a.1==1)=true then some ((v.2.1,e.1,e.2.1,e.2.2.1,c.1,c.2.1,f.1,f.2.1,f.2.2.1,a.1,a.2.1,g.1,g.2.1,g.2.2.1,b.1,b.2.1,max b.2.2.1 (↑(d.2.1++[v.1]).length:Int),G1))else some (v.2.1,e.1,e.2.1,e.2.2.1,c.1,c.2.1,f.1,f.2.1,f.2.2.1,a.1,a.2.1,g.1,g.2.1,g.2.2.1,b.1,b.2.1,b.2.2.1,G1)else none
def Gp:Xc vw:=mX prog 38 c0 Bz [] [] []
theorem cH:aM prog 120 pK cK:=fn0 Gp Tryz.func120 bT
def Ab:Cut SN:=⟨[(2, .bp 2 0)],[(2, .st .myValueT)]⟩
def UH:aN vw:={rcut:=Ab}
def RG:Sig vw:=sg [Dq1] Ab [.cell 2 31]
noncomputable def sJ(v:Int×Unit):Option (aE×Unit):=some ((aE.mk (aF.mk (0:Int) (0:Int) (aae #[]) false false) v.1 false (aae #[]) (aF.mk (0:Int) (0:Int) (aae #[]) false false),()))
def Zs:Xc vw:=mX prog 5 c0 UH [] [] []
theorem kK:aM prog 121 RG sJ:=fn0 Zs Tryz.func121 bT
def UK:aN vw:={rcut:=vY}
def RJ:Sig vw:=sg [vG] vY [.cell 2 135]
noncomputable def ut(v:aF×Unit):Option (bB×Unit):=some ((bB.mk (v.1.base==3) v.1.bits,()))
def Zv:Xc vw:=mX prog 9 c0 UK [] [] []
theorem nC:aM prog 126 RJ ut:=fn0 Zv Tryz.func126 bT
def UM:aN vw:={rcut:=Ab}
def RL:Sig vw:=sg [Dq4] Ab [.cell 2 31]
noncomputable def AM(v:Bool×Unit):Option (aE×Unit):=if v.1=true then sJ ((1:Int),())>>=λx1=>some (x1)else sJ ((0:Int),())>>=λx1=>some (x1)
def CU:=kP kK k0
def Zx:Xc vw:=mX prog 6 CU.1 UM [] [] []
theorem sL:aM prog 129 RL AM:=fn0 Zx Tryz.func129 CU.2
def Vl:aN vw:={rcut:=nh}
def Si:Sig vw:=sg [nd] nh [.tmp 2]
noncomputable def A0(v:bB×Unit):Option (Int×Unit):=if v.1.signed=true then if 0<=i64.wrap (v.1.bits-1)then some ((i64.wrap (Bs.ishl i64 (1:Int) (i64.wrap (v.1.bits-1)) -1),()))else none else if 0<=v.1.bits then some ((i64.wrap (Bs.ishl i64 (1:Int) v.1.bits-1),()))else none
def ZZ:Xc vw:=mX prog 14 c0 Vl [] [] []
theorem sO:aM prog 172 Si A0:=fn0 ZZ Tryz.func172 bT
def K9:Cut SN:=⟨[(1,Dq1)],[]⟩
def Vi:aN vw:={rcut:=bG}
def LW:Sig vw:=sg [nd,Dq1] bG [.tmp 4]
noncomputable def wQ(v:bB×Int×Unit):Option (Int×Unit):=let G1:=(i64.wrap (Bs.ishl i64 (1:Int) v.1.bits-1));if 0<=v.1.bits then(A0 (v.1,())>>=λx1=>if decide (Bs.iand i64 v.2.1 G1>x1.1)=true then if 0<=v.1.bits then some ((i64.wrap (Bs.iand i64 v.2.1 G1-Bs.ishl i64 (1:Int) v.1.bits),()))else none else some ((Bs.iand i64 v.2.1 G1,())))>>=λx1=>some (x1)else none
def C_:=kP sO k0
def ZW:Xc vw:=mX prog 21 C_.1 Vi [(4,K9,[.norm])] [] []
theorem y4:aM prog 169 LW wQ:=fn0 ZW Tryz.func169 C_.2
def U7:aN vw:={rcut:=GS}
def R7:Sig vw:=sg [nd,Dq1] GS [.tmp 4, .tmp 5]
noncomputable def Iu(v:bB×Int×Unit):Option (Int×Int×Unit):=pa (v.1,())>>=λx1=>if(x1.1 !=0)=true then some (((0:Int),x1))else wQ v>>=λx2=>some ((x2.1,(0:Int),()))
def C4:=kP jA (kP y4 k0)
def ZO:Xc vw:=mX prog 15 C4.1 U7 [] [] []
theorem Iv:aM prog 154 R7 Iu:=fn0 ZO Tryz.func154 C4.2
def UI:aN vw:={rcut:=bG}
def RH:Sig vw:=sg [vG,Dq1] bG [.tmp 4]
noncomputable def o9(v:aF×Int×Unit):Option (Int×Unit):=if(v.1.base==0)=true then some (((0:Int),()))else if(v.1.base==1)=true then AM (v.2.1 !=0,())>>=λx1=>some ((x1.1.n,()))else ut (v.1,())>>=λx1=>Iu (x1.1,v.2)>>=λx2=>some ((x2.1,()))
def CR:=kP nC (kP sL (kP Iv k0))
def Zt:Xc vw:=mX prog 25 CR.1 UI [] [] []
theorem kL:aM prog 122 RH o9:=fn0 Zt Tryz.func122 CR.2
def FN:aN vw:={rcut:=aT}
def ru:Sig vw:={params:=[.bp 100000 0,ma],objs:=[(100000, .box none [.bp 100001 0,Dq5,Dq1,Dq1,Dq1,Dq1,Dq5,Dq4,Dq4,Dq8, .vh 100002, .vh 100003,Dq1,Dq1,Dq9]),(100001, .box none [Dq3,Dq4,Dq1, .vh 100004,Dq1, .vh 100005,Dq1,Dq6]),(100002,Oq2),(100003,Oq2),(100004,Oq7),(100005,Oq2)],rcut:=aT,rvars:=[],keep:=[100000,100001,100002,3011,100004,100005]}
abbrev Tq2:=aQ×ByteArray×Int×Int×Int×Int×ByteArray×Bool×Bool×(List aQ)×Int×Int×(Option aE)×(List aB)×Bool×Int×Int×Int×(Option bX)×(List aE)×(List aE)×(List Int)×(List aE)×Unit
noncomputable def fL(v:Tq2):Option (Tq1):=let b:=v.2.2.2.2.2.2.2.2.2.2.2.2.2.2.2.2.2.2.2;o9 (v.1.type0,v.1.a,())>>=λx1=>sJ x1>>=λx2=>cK (x2.1,v.2)>>=λx3=>let c:=x3.2.2.2.2.2.2.2.2.2.2.2.2.2.2.2.2.2.2;if c.1.length=b.1.length then if c.2.2.1.length=b.2.2.1.length then if c.2.2.2.1.length=b.2.2.2.1.length then some (x3)else none else none else none
def n9:=kO cH (kP kK (kP kL k0))
def Kq:Xc vw:=mX prog 12 n9.1 FN [] [] []
theorem mu:aM prog 77 ru fL:=fn0 Kq Tryz.func77 n9.2
def FO:aN vw:={rcut:=aT}
def rv:Sig vw:={params:=[.bp 100000 0,ma],objs:=[(100000, .box none [.bp 100001 0,Dq5,Dq1,Dq1,Dq1,Dq1,Dq5,Dq4,Dq4,Dq8, .vh 100002, .vh 100003,Dq1,Dq1,Dq9]),(100001, .box none [Dq3,Dq4,Dq1, .vh 100004,Dq1, .vh 100005,Dq1,Dq6]),(100002,Oq2),(100003,Oq2),(100004,Oq7),(100005,Oq2)],rcut:=aT,rvars:=[],keep:=[100000,100001,100002,3011,100004,100005]}
noncomputable def fM(v:Tq2):Option (Tq1):=let a:=v.2.2.2.2.2.2.2.2.2.2.2.2.2.2.2.2.2.2.2;cK (aE.mk (aF.mk (0:Int) (0:Int) (aae #[]) false false) (0:Int) true (aae #[]) (aF.mk (0:Int) (0:Int) (aae #[]) false false),v.2)>>=λx1=>let b:=x1.2.2.2.2.2.2.2.2.2.2.2.2.2.2.2.2.2.2;if b.1.length=a.1.length then if b.2.2.1.length=a.2.2.1.length then if b.2.2.2.1.length=a.2.2.2.1.length then some (x1)else none else none else none
def n_:=kO cH k0
def Kr:Xc vw:=mX prog 7 n_.1 FO [] [] []
theorem mv:aM prog 78 rv fM:=fn0 Kr Tryz.func78 n_.2
def FP:aN vw:={rcut:=aT}
def rx:Sig vw:={params:=[.bp 100000 0,ma],objs:=[(100000, .box none [.bp 100001 0,Dq5,Dq1,Dq1,Dq1,Dq1,Dq5,Dq4,Dq4,Dq8, .vh 100002, .vh 100003,Dq1,Dq1,Dq9]),(100001, .box none [Dq3,Dq4,Dq1, .vh 100004,Dq1, .vh 100005,Dq1,Dq6]),(100002,Oq2),(100003,Oq2),(100004,Oq7),(100005,Oq2)],rcut:=aT,rvars:=[],keep:=[100000,100001,100002,3011,100004,100005]}
noncomputable def fN(v:Tq2):Option (Tq1):=let b:=v.2.2.2.2.2.2.2.2.2.2.2.2.2.2.2.2.2.2.2;if 0<=v.1.a/\v.1.a<(↑b.1.length:Int)then b.1[v.1.a.toNat]?>>=λx1=>cK (x1,v.2)>>=λx2=>let c:=x2.2.2.2.2.2.2.2.2.2.2.2.2.2.2.2.2.2.2;if c.1.length=b.1.length then if c.2.2.1.length=b.2.2.1.length then if c.2.2.2.1.length=b.2.2.2.1.length then some (x2)else none else none else none else none
def oa:=kO cH k0
def Ks:Xc vw:=mX prog 14 oa.1 FP [] [] []
theorem mw:aM prog 79 rx fN:=fn0 Ks Tryz.func79 oa.2
def vT:Cut SN:=⟨[(0, .bp 100000 0),(5, .bp 5 0),(39,Dq4)],[(100000, .box none [.bp 100001 0,Dq5,Dq1,Dq1,Dq1,Dq1,Dq5,Dq4,Dq4,Dq8, .vh 100002, .vh 100003,Dq1,Dq1,Dq9]),(5, .st .myValueT),(100001, .box none [Dq3,Dq4,Dq1, .vh 100004,Dq1, .vh 100005,Dq1,Dq6]),(100002,Oq2),(100003,Oq2),(100004,Oq7),(100005,Oq2)]⟩
def qw:Cut SN:=⟨[(0, .bp 100000 0)],[(100000, .box none [.bp 100001 0,Dq5,Dq1,Dq1,Dq1,Dq1,Dq5,Dq4,Dq4,Dq8, .vh 100002, .vh 100003,Dq1,Dq1,Dq9]),(100001, .box none [Dq3,Dq4,Dq1, .vh 100004,Dq1, .vh 3015,Dq1,Dq6]),(100002,Oq2),(100003,Oq2),(100004,Oq7),(3015,Oq2)]⟩
def BA:aN vw:={rcut:=qw}
def xw:Sig vw:={params:=[.bp 100000 0,Dq1,Tk],objs:=[(100000, .box none [.bp 100001 0,Dq5,Dq1,Dq1,Dq1,Dq1,Dq5,Dq4,Dq4,Dq8, .vh 100002, .vh 100003,Dq1,Dq1,Dq9]),(100001, .box none [Dq3,Dq4,Dq1, .vh 100004,Dq1, .vh 100005,Dq1,Dq6]),(100002,Oq2),(100003,Oq2),(100004,Oq7),(100005,Oq2)],rcut:=qw,rvars:=[],keep:=[100000,100001,100002,100003,100004,3015]}
noncomputable def jz(v:Int×aE×ByteArray×Int×Int×Int×Int×ByteArray×Bool×Bool×(List aQ)×Int×Int×(Option aE)×(List aB)×Bool×Int×Int×Int×(Option bX)×(List aE)×(List aE)×(List Int)×(List aE)×Unit):Option (Tq1):=let c:=v.2.2.2.2.2;let a:=c.2.2.2.2.2.2;let b:=a.2.2.2.2.2.2;let d:=b.2.2.2;let G1:=(v.2.2.1,v.2.2.2.1,v.2.2.2.2.1,c.1,c.2.1,c.2.2.1,c.2.2.2.1,c.2.2.2.2.1,c.2.2.2.2.2.1,a.1,a.2.1,a.2.2.1,v.2.1,a.2.2.2.1,a.2.2.2.2.1,a.2.2.2.2.2.1,b.1,b.2.1,b.2.2.1,d.1.set v.1.toNat v.2.1,d.2);if 0<=v.1/\v.1<(↑d.1.length:Int)then d.1[v.1.toNat]?>>=λx1=>(if(a.1==1)=true then if(v.1==b.1)=true then some ((decide ((↑d.2.2.2.1.length:Int)<100),G1))else some (false,G1)else some (false,G1))>>=λx2=>let g:=x2.2.2.2.2;let j:=g.2.2;let e:=j.2.2.2;let h:=e.2.2.2;let f:=h.2.2.2.2;let i:=f.2.2.2.2;if x2.1=true then if i.2.2.2.1.length+[h.2.1].length<=4294967296 then some ((x2.2.1,x2.2.2.1,x2.2.2.2.1,g.1,g.2.1,j.1,j.2.1,j.2.2.1,e.1,e.2.1,e.2.2.1,h.1,h.2.2.1,h.2.2.2.1,f.1,f.2.1,f.2.2.1,f.2.2.2.1,i.1,i.2.1,i.2.2.1,i.2.2.2.1++[h.2.1],()))else none else some (x2.2.1,x2.2.2.1,x2.2.2.2.1,g.1,g.2.1,j.1,j.2.1,j.2.2.1,e.1,e.2.1,e.2.2.1,h.1,h.2.2)else none
def Gq:Xc vw:=mX prog 56 c0 BA [] [(2,vT)] []
theorem sK:aM prog 123 xw jz:=fn0 Gq Tryz.func123 bT
def qx:Cut SN:=⟨[(0, .bp 100000 0),(2, .bp 2 0)],[(100000, .box none [.bp 100001 0,Dq5,Dq1,Dq1,Dq1,Dq1,Dq5,Dq4,Dq4,Dq8, .vh 100002, .vh 3011,Dq1,Dq1,Dq9]),(100001, .box none [Dq3,Dq4,Dq1, .vh 100004,Dq1, .vh 100005,Dq1,Dq6]),(100002,Oq2),(3011,Oq2),(100004,Oq7),(100005,Oq2),(2, .st .myValueT)]⟩
def BB:aN vw:={rcut:=qx}
def xf:Nat->Bool:=λk=>match k with|5000027=>true|_=>false
def xx:Sig vw:={params:=[.bp 100000 0],objs:=[(100000, .box none [.bp 100001 0,Dq5,Dq1,Dq1,Dq1,Dq1,Dq5,Dq4,Dq4,Dq8, .vh 100002, .vh 100003,Dq1,Dq1,Dq9]),(100001, .box none [Dq3,Dq4,Dq1, .vh 100004,Dq1, .vh 100005,Dq1,Dq6]),(100002,Oq2),(100003,Oq2),(100004,Oq7),(100005,Oq2)],rcut:=qx,rvars:=[.cell 2 31],keep:=[100000,100001,100002,3011,100004,100005]}
abbrev WJ:=ByteArray×Int×Int×Int×Int×ByteArray×Bool×Bool×(List aQ)×Int×Int×(Option aE)×(List aB)×Bool×Int×Int×Int×(Option bX)×(List aE)×(List aE)×(List Int)×(List aE)×aE×Unit
noncomputable def ct(v:Tq1):Option (WJ):=let d:=v.2.2.2;let c:=d.2.2.2.2;let e:=c.2.2.2;let a:=e.2.2.2.2;let b:=a.2.2.2.2.2;let G1:=(i64.wrap ((↑b.1.length:Int) -1));if 0<=i64.wrap ((↑b.1.length:Int) -1)/\i64.wrap ((↑b.1.length:Int) -1)<(↑b.1.length:Int)then b.1[G1.toNat]?>>=λx1=>if 0<=i64.wrap ((↑b.1.length:Int) -1)then if i64.wrap ((↑b.1.length:Int) -1)<=(↑b.1.length:Int)then some ((v.1,v.2.1,v.2.2.1,d.1,d.2.1,d.2.2.1,d.2.2.2.1,c.1,c.2.1,c.2.2.1,e.1,e.2.1,e.2.2.1,e.2.2.2.1,a.1,a.2.1,a.2.2.1,a.2.2.2.1,a.2.2.2.2.1,abr G1.toNat b.1,b.2.1,b.2.2.1,x1,()))else none else none else none
def Gr:Xc vw:={P:=prog,n:=31,call:=c0,pre:=xf,sh:=BB}
theorem ci:aM prog 124 xx ct:=fn0 Gr Tryz.func124 bT
def kf:Cut SN:=⟨[(0, .bp 100000 0)],[(100000, .box none [.bp 100001 0,Dq5,Dq1,Dq1,Dq1,Dq1,Dq5,Dq4,Dq4,Dq8, .vh 100002, .vh 3011,Dq1,Dq1,Dq9]),(100001, .box none [Dq3,Dq4,Dq1, .vh 100004,Dq1, .vh 3015,Dq1,Dq6]),(100002,Oq2),(3011,Oq2),(100004,Oq7),(3015,Oq2)]⟩
def FQ:aN vw:={rcut:=kf}
def ry:Sig vw:={params:=[.bp 100000 0,ma],objs:=[(100000, .box none [.bp 100001 0,Dq5,Dq1,Dq1,Dq1,Dq1,Dq5,Dq4,Dq4,Dq8, .vh 100002, .vh 100003,Dq1,Dq1,Dq9]),(100001, .box none [Dq3,Dq4,Dq1, .vh 100004,Dq1, .vh 100005,Dq1,Dq6]),(100002,Oq2),(100003,Oq2),(100004,Oq7),(100005,Oq2)],rcut:=kf,rvars:=[],keep:=[100000,100001,100002,3011,100004,3015]}
noncomputable def fO(v:Tq2):Option (Tq1):=let b:=v.2.2.2.2.2.2.2.2.2.2.2.2.2.2.2.2.2.2.2;ct v.2>>=λx1=>let f:=x1.2.2.2;let d:=f.2.2.2.2;let g:=d.2.2.2;let c:=g.2.2.2.2;let e:=c.2.2.2.2;if e.1.length=b.1.length then if e.2.2.1.length=b.2.2.1.length then if e.2.2.2.1.length=b.2.2.2.1.length then jz (v.1.a,e.2.2.2.2.1,x1.1,x1.2.1,x1.2.2.1,f.1,f.2.1,f.2.2.1,f.2.2.2.1,d.1,d.2.1,d.2.2.1,g.1,g.2.1,g.2.2.1,g.2.2.2.1,c.1,c.2.1,c.2.2.1,c.2.2.2.1,e.1,e.2.1,e.2.2.1,e.2.2.2.1,())>>=λx2=>let h:=x2.2.2.2.2.2.2.2.2.2.2.2.2.2.2.2.2.2.2;if h.1.length=e.1.length then if h.2.1.length=e.2.1.length then if h.2.2.1.length=e.2.2.1.length then some (x2)else none else none else none else none else none else none
def ob:=kO sK (kO ci k0)
def Kt:Xc vw:=mX prog 10 ob.1 FQ [] [] []
theorem my:aM prog 80 ry fO:=fn0 Kt Tryz.func80 ob.2
def FR:aN vw:={rcut:=aT}
def rz:Sig vw:={params:=[.bp 100000 0,ma],objs:=[(100000, .box none [.bp 100001 0,Dq5,Dq1,Dq1,Dq1,Dq1,Dq5,Dq4,Dq4,Dq8, .vh 100002, .vh 100003,Dq1,Dq1,Dq9]),(100001, .box none [Dq3,Dq4,Dq1, .vh 100004,Dq1, .vh 100005,Dq1,Dq6]),(100002,Oq2),(100003,Oq2),(100004,Oq7),(100005,Oq2)],rcut:=aT,rvars:=[],keep:=[100000,100001,100002,3011,100004,100005]}
noncomputable def fP(v:Tq2):Option (Tq1):=let a:=v.2.2.2.2.2.2.2.2.2.2.2.2.2.2.2.2.2.2.2;ct v.2>>=λx1=>let c:=x1.2.2.2.2.2.2;let b:=c.2.2.2.2.2.2;let d:=b.2.2.2.2.2.2;if d.1.length=a.1.length then if d.2.2.1.length=a.2.2.1.length then if d.2.2.2.1.length=a.2.2.2.1.length then some ((x1.1,x1.2.1,x1.2.2.1,x1.2.2.2.1,x1.2.2.2.2.1,x1.2.2.2.2.2.1,c.1,c.2.1,c.2.2.1,c.2.2.2.1,c.2.2.2.2.1,c.2.2.2.2.2.1,b.1,b.2.1,b.2.2.1,b.2.2.2.1,b.2.2.2.2.1,b.2.2.2.2.2.1,d.1,d.2.1,d.2.2.1,d.2.2.2.1,()))else none else none else none
def oc:=kO ci k0
def Ku:Xc vw:=mX prog 6 oc.1 FR [] [] []
theorem mz:aM prog 81 rz fP:=fn0 Ku Tryz.func81 oc.2
def Vk:aN vw:={rcut:=nh}
def Sh:Sig vw:=sg [nd] nh [.tmp 2]
noncomputable def Es(v:bB×Unit):Option (Int×Unit):=if v.1.signed=true then if 0<=i64.wrap (v.1.bits-1)then some ((Bs.ishl i64 (-1:Int) (i64.wrap (v.1.bits-1)),()))else none else some (((0:Int),()))
def ZY:Xc vw:=mX prog 9 c0 Vk [] [] []
theorem y7:aM prog 171 Sh Es:=fn0 ZY Tryz.func171 bT
def U_:aN vw:={rcut:=cV}
def LV:Sig vw:=sg [nd,Dq1] cV [.tmp 4]
noncomputable def m7(v:bB×Int×Unit):Option (Bool×Unit):=(Es (v.1,())>>=λx1=>if decide (v.2.1>=x1.1)=true then A0 (v.1,())>>=λx2=>some ((decide (v.2.1<=x2.1),()))else some ((false,())))>>=λx1=>some (x1)
def C6:=kP y7 (kP sO k0)
def ZR:Xc vw:=mX prog 15 C6.1 U_ [] [(1,cV)] []
theorem nD:aM prog 157 LV m7:=fn0 ZR Tryz.func157 C6.2
def PO:Cut SN:=⟨[(31,Dq4)],[]⟩
def Ad:Cut SN:=⟨[(8,Dq1)],[]⟩
def U8:aN vw:={rcut:=Ad}
def R8:Sig vw:=sg [Dq1,nd,Dq1,Dq1] Ad [.tmp 8]
abbrev Mo:=Int×bB×Int×Int×Unit
noncomputable def Eo(v:Mo):Option (Int×Unit):=(pa (v.2.1,())>>=λx1=>if(x1.1 !=0)=true then some ((true,()))else if decide (v.1<5)=true then some ((true,()))else if decide (v.1>17)=true then some ((true,()))else m7 (v.2.1,v.2.2.1,())>>=λx2=>if(!x2.1)=true then some ((true,()))else m7 (v.2.1,v.2.2.2)>>=λx3=>some ((!x3.1,())))>>=λx1=>if x1.1=true then some (((1:Int),()))else some (((0:Int),()))
def C5:=kP jA (kP nD k0)
def ZP:Xc vw:=mX prog 32 C5.1 U8 [] [(1,PO)] []
theorem yY:aM prog 155 R8 Eo:=fn0 ZP Tryz.func155 C5.2
end Go.Proofs.YtcghbgmmgcljkaaGreatDoor
end
section
namespace Go.Proofs.YtcghbgmmgcljkaaGreatDoor
open Go.Awp Go.Tx
open IntKind (i64)
open Go.Proofs.Tryz (prog)
set_option maxHeartbeats 4000000
set_option maxRecDepth 100000
def P1:Cut SN:=⟨[(0, .bp 0 0)],[(0, .bar 18 (.st .operationT))]⟩
def Vj:aN vw:={rcut:=P1}
def LX:Sig vw:=sg [] P1 [.cell 0 207]
noncomputable def ja(v:Unit):Option ((List bQ)×Unit):=some (([bQ.mk none none,bQ.mk none none,bQ.mk none none,bQ.mk none none,bQ.mk none none,bQ.mk (some (178:Nat)) none,bQ.mk (some (179:Nat)) none,bQ.mk (some (180:Nat)) none,bQ.mk (some (181:Nat)) none,bQ.mk (some (182:Nat)) none,bQ.mk (some (178:Nat)) (some (169:Nat)),bQ.mk (some (179:Nat)) (some (169:Nat)),bQ.mk (some (180:Nat)) (some (169:Nat)),bQ.mk (some (178:Nat)) (some (183:Nat)),bQ.mk (some (179:Nat)) (some (183:Nat)),bQ.mk (some (184:Nat)) (some (169:Nat)),bQ.mk (some (185:Nat)) (some (169:Nat)),bQ.mk (some (186:Nat)) (some (169:Nat))],()))
def ZX:Xc vw:=mX prog 26 c0 Vj [] [] []
theorem IH:aM prog 170 LX ja:=fn0 ZX Tryz.func170 bT
def Vo:aN vw:={rcut:=bG}
def LY:Sig vw:=sg [Dq1,Dq1] bG [.tmp 4]
noncomputable def A4(v:Int×Int×Unit):Option (Int×Unit):=some ((i64.wrap (v.1+v.2.1),()))
def Z1:Xc vw:=mX prog 8 c0 Vo [] [] []
theorem IM:aM prog 178 LY A4:=fn0 Z1 Tryz.func178 bT
def Vp:aN vw:={rcut:=bG}
def LZ:Sig vw:=sg [Dq1,Dq1] bG [.tmp 4]
noncomputable def A5(v:Int×Int×Unit):Option (Int×Unit):=some ((i64.wrap (v.1-v.2.1),()))
def Z2:Xc vw:=mX prog 8 c0 Vp [] [] []
theorem IP:aM prog 179 LZ A5:=fn0 Z2 Tryz.func179 bT
def Vq:aN vw:={rcut:=bG}
def L2:Sig vw:=sg [Dq1,Dq1] bG [.tmp 4]
noncomputable def Eu(v:Int×Int×Unit):Option (Int×Unit):=some ((i64.wrap (v.1 *v.2.1),()))
def Z3:Xc vw:=mX prog 8 c0 Vq [] [] []
theorem IQ:aM prog 180 L2 Eu:=fn0 Z3 Tryz.func180 bT
def Vr:aN vw:={rcut:=bG}
def L3:Sig vw:=sg [Dq1,Dq1] bG [.tmp 4]
noncomputable def IR(v:Int×Int×Unit):Option (Int×Unit):=if v.2.1=0 then none else some ((i64.wrap (v.1.tdiv v.2.1),()))
def Z4:Xc vw:=mX prog 8 c0 Vr [] [] []
theorem IU:aM prog 181 L3 IR:=fn0 Z4 Tryz.func181 bT
def Vs:aN vw:={rcut:=bG}
def L4:Sig vw:=sg [Dq1,Dq1] bG [.tmp 4]
noncomputable def Ev(v:Int×Int×Unit):Option (Int×Unit):=if v.2.1=0 then none else some ((v.1.tmod v.2.1,()))
def Z5:Xc vw:=mX prog 8 c0 Vs [] [] []
theorem IV:aM prog 182 L4 Ev:=fn0 Z5 Tryz.func182 bT
def Vt:aN vw:={rcut:=bG}
def L5:Sig vw:=sg [nd,Dq1] bG [.tmp 4]
noncomputable def Ew(v:bB×Int×Unit):Option (Int×Unit):=Es (v.1,())>>=λx1=>A0 (v.1,())>>=λx2=>some ((max x1.1 (min x2.1 v.2.1),()))
def Db:=kP y7 (kP sO k0)
def Z6:Xc vw:=mX prog 12 Db.1 Vt [] [] []
theorem IW:aM prog 183 L5 Ew:=fn0 Z6 Tryz.func183 Db.2
def Vu:aN vw:={rcut:=bG}
def L6:Sig vw:=sg [Dq1,Dq1] bG [.tmp 4]
noncomputable def IX(v:Int×Int×Unit):Option (Int×Unit):=some ((Bs.iand i64 v.1 v.2.1,()))
def Z7:Xc vw:=mX prog 8 c0 Vu [] [] []
theorem IY:aM prog 184 L6 IX:=fn0 Z7 Tryz.func184 bT
def Vv:aN vw:={rcut:=bG}
def L7:Sig vw:=sg [Dq1,Dq1] bG [.tmp 4]
noncomputable def IZ(v:Int×Int×Unit):Option (Int×Unit):=some ((Bs.ior i64 v.1 v.2.1,()))
def Z8:Xc vw:=mX prog 8 c0 Vv [] [] []
theorem I0:aM prog 185 L7 IZ:=fn0 Z8 Tryz.func185 bT
def Vw:aN vw:={rcut:=bG}
def L8:Sig vw:=sg [Dq1,Dq1] bG [.tmp 4]
noncomputable def I1(v:Int×Int×Unit):Option (Int×Unit):=some ((Bs.ixor i64 v.1 v.2.1,()))
def Z9:Xc vw:=mX prog 8 c0 Vw [] [] []
theorem I2:aM prog 186 L8 I1:=fn0 Z9 Tryz.func186 bT
def PP:Cut SN:=⟨[(0,Dq1),(2,Dq1),(3,Dq1),(5, .bp 5 0),(17,Dq4)],[(5, .st .myIntT)]⟩
def PQ:Cut SN:=⟨[(0,Dq1),(2,Dq1),(3,Dq1),(5, .bp 5 0),(23,Dq4)],[(5, .st .myIntT)]⟩
def PR:Cut SN:=⟨[(0,Dq1),(2,Dq1),(3,Dq1),(5, .bp 5 0),(10, .bp 10 0),(11,Dq1)],[(5, .st .myIntT),(10, .st .operationT)]⟩
def nZ:Cut SN:=⟨[(8,Dq1),(9,Dq1)],[]⟩
def PS:Cut SN:=⟨[(5, .bp 5 0),(11,Dq1),(56,Dq4)],[(5, .st .myIntT)]⟩
def U9:aN vw:={rcut:=nZ}
def R9:Sig vw:=sg [Dq1,nd,Dq1,Dq1] nZ [.tmp 8, .tmp 9]
noncomputable def Ep(v:Mo):Option (Int×Int×Unit):=(if(v.2.2.2.1==0)=true then some ((v.1,v.2.2.1,v.2.2.2.1,v.1==8,v.2.1,()))else some ((v.1,v.2.2.1,v.2.2.2.1,false,v.2.1,())))>>=λx1=>let a:=x1.2.2;if a.2.1=true then some (((0:Int),(2:Int),()))else(if(a.1==0)=true then some (x1.1,x1.2.1,a.1,x1.1==9,a.2.2)else some (x1.1,x1.2.1,a.1,false,a.2.2))>>=λx2=>let b:=x2.2;let c:=b.2.1;let d:=x2.1;let G1:=(b.1,c,());if b.2.2.1=true then some ((b.1,(2:Int),()))else ja ()>>=λx3=>if 0<=d/\d<(↑(18:Nat):Int)then x3.1[d.toNat]?>>=λx4=>let G2:=(b.2.2.2.1,x4,());((x4.whole:Option (Nat))>>=λx5=>if x5=(157:Nat)then none else if x5=(169:Nat)then none else if x5=(170:Nat)then none else if x5=(178:Nat)then A4 G1>>=λx6=>some (d,b.1,c,x6.1,G2)else if x5=(179:Nat)then A5 G1>>=λx6=>some (d,b.1,c,x6.1,G2)else if x5=(180:Nat)then Eu G1>>=λx6=>some (d,b.1,c,x6.1,G2)else if x5=(181:Nat)then IR G1>>=λx6=>some (d,b.1,c,x6.1,G2)else if x5=(182:Nat)then Ev G1>>=λx6=>some (d,b.1,c,x6.1,G2)else if x5=(183:Nat)then none else if x5=(184:Nat)then IX G1>>=λx6=>some (d,b.1,c,x6.1,G2)else if x5=(185:Nat)then IZ G1>>=λx6=>some (d,b.1,c,x6.1,G2)else if x5=(186:Nat)then I1 G1>>=λx6=>some (d,b.1,c,x6.1,G2)else none)>>=λx5=>let e:=x5.2.2.2;let G4:=(e.2.1,());let G3:=(e.2.1,e.1,());if e.2.2.1.into.isSome=true then((e.2.2.1.into:Option (Nat))>>=λx6=>if x6=(157:Nat)then m7 G3>>=λx7=>none else if x6=(169:Nat)then wQ G3>>=λx7=>some ((x7.1,(0:Int),()))else if x6=(170:Nat)then none else if x6=(178:Nat)then none else if x6=(179:Nat)then none else if x6=(180:Nat)then none else if x6=(181:Nat)then none else if x6=(182:Nat)then none else if x6=(183:Nat)then Ew G3>>=λx7=>some ((x7.1,(0:Int),()))else if x6=(184:Nat)then none else if x6=(185:Nat)then none else if x6=(186:Nat)then none else none)>>=λx6=>some (x6)else(m7 G3>>=λx6=>if(!x6.1)=true then some (e.1,true,G4)else if(x5.1==9)=true then if x5.2.2.1=0 then none else m7 (e.2.1,i64.wrap (x5.2.1.tdiv x5.2.2.1),())>>=λx7=>some (e.1,!x7.1,G4)else some (e.1,false,G4))>>=λx6=>if x6.2.1=true then wQ (x6.2.2.1,x6.1,())>>=λx7=>some ((x7.1,(1:Int),()))else some ((x6.1,(0:Int),()))else none
def wd:dg vw:=λA fid args S k=>if fid=157 then cu prog LV m7 A args S k else if fid=169 then cu prog LW wQ A args S k else if fid=170 then cu prog LX ja A args S k else if fid=178 then cu prog LY A4 A args S k else if fid=179 then cu prog LZ A5 A args S k else if fid=180 then cu prog L2 Eu A args S k else if fid=181 then cu prog L3 IR A args S k else if fid=182 then cu prog L4 Ev A args S k else if fid=183 then cu prog L5 Ew A args S k else if fid=184 then cu prog L6 IX A args S k else if fid=185 then cu prog L7 IZ A args S k else if fid=186 then cu prog L8 I1 A args S k else none
def ZQ:Xc vw:=mX prog 61 wd U9 [] [(1,PP),(3,PQ),(6,PR),(8,nZ),(9,PS)] []
theorem Al:bH prog wd:=λA fid args S dst k r h=>by
 unfold wd at h
 rcases bJ h with⟨e,h⟩|⟨e,h⟩
 ·subst e;exact aR (nD) rfl rfl h
 ·
  rcases bJ h with⟨e,h⟩|⟨e,h⟩
  ·subst e;exact aR (y4) rfl rfl h
  ·
   rcases bJ h with⟨e,h⟩|⟨e,h⟩
   ·subst e;exact aR (IH) rfl rfl h
   ·
    rcases bJ h with⟨e,h⟩|⟨e,h⟩
    ·subst e;exact aR (IM) rfl rfl h
    ·
     rcases bJ h with⟨e,h⟩|⟨e,h⟩
     ·subst e;exact aR (IP) rfl rfl h
     ·
      rcases bJ h with⟨e,h⟩|⟨e,h⟩
      ·subst e;exact aR (IQ) rfl rfl h
      ·
       rcases bJ h with⟨e,h⟩|⟨e,h⟩
       ·subst e;exact aR (IU) rfl rfl h
       ·
        rcases bJ h with⟨e,h⟩|⟨e,h⟩
        ·subst e;exact aR (IV) rfl rfl h
        ·
         rcases bJ h with⟨e,h⟩|⟨e,h⟩
         ·subst e;exact aR (IW) rfl rfl h
         ·
          rcases bJ h with⟨e,h⟩|⟨e,h⟩
          ·subst e;exact aR (IY) rfl rfl h
          ·
           rcases bJ h with⟨e,h⟩|⟨e,h⟩
           ·subst e;exact aR (I0) rfl rfl h
           ·
            rcases bJ h with⟨e,h⟩|⟨e,h⟩
            ·subst e;exact aR (I2) rfl rfl h
            ·
             cases h
theorem yZ:aM prog 156 R9 Ep:=fn0 ZQ Tryz.func156 Al
def Pz:Cut SN:=⟨[(8,Dq1),(9,Dq1),(10,Dq1)],[]⟩
def UJ:aN vw:={rcut:=Pz}
def RI:Sig vw:=sg [Dq1,nd,Dq1,Dq1] Pz [.tmp 8, .tmp 9, .tmp 10]
noncomputable def HZ(v:Mo):Option (Cg):=Eo v>>=λx1=>if(x1.1 !=0)=true then some (((0:Int),(0:Int),x1))else Ep v>>=λx2=>if(x2.2.1 !=0)=true then some (((0:Int),x2.2.1,(0:Int),()))else some ((x2.1,(0:Int),(0:Int),()))
def CS:=kP yY (kP yZ k0)
def Zu:Xc vw:=mX prog 34 CS.1 UJ [] [] []
theorem H1:aM prog 125 RI HZ:=fn0 Zu Tryz.func125 CS.2
def UL:aN vw:={rcut:=nZ}
def RK:Sig vw:=sg [Dq1,nd,Dq1,Dq1] nZ [.tmp 8, .tmp 9]
noncomputable def H2(v:Mo):Option (Int×Int×Unit):=Eo v>>=λx1=>if(x1.1 !=0)=true then some (((0:Int),x1))else Ep v>>=λx2=>some ((x2.1,(0:Int),()))
def CT:=kP yY (kP yZ k0)
def Zw:Xc vw:=mX prog 30 CT.1 UL [] [] []
theorem H3:aM prog 127 RK H2:=fn0 Zw Tryz.func127 CT.2
def vU:Cut SN:=⟨[(0, .bp 100000 0),(1,Dq1)],[(100000, .box none [.bp 100001 0,Dq5,Dq1,Dq1,Dq1,Dq1,Dq5,Dq4,Dq4,Dq8, .vh 100002, .vh 100003,Dq1,Dq1,Dq9]),(100001, .box none [Dq3,Dq4,Dq1, .vh 100004,Dq1, .vh 100005,Dq1,Dq6]),(100002,Oq2),(100003,Oq2),(100004,Oq7),(100005,Oq2)]⟩
def vV:Cut SN:=⟨[(0, .bp 100000 0),(1,Dq1),(2,Dq1),(3,Dq1),(18,Dq4)],[(100000, .box none [.bp 100001 0,Dq5,Dq1,Dq1,Dq1,Dq1,Dq5,Dq4,Dq4,Dq8, .vh 100002, .vh 100003,Dq1,Dq1,Dq9]),(100001, .box none [Dq3,Dq4,Dq1, .vh 100004,Dq1, .vh 100005,Dq1,Dq6]),(100002,Oq2),(100003,Oq2),(100004,Oq7),(100005,Oq2)]⟩
def BC:aN vw:={rcut:=aT}
def xy:Sig vw:={params:=[.bp 100000 0,Dq1,Dq1,Dq1],objs:=[(100000, .box none [.bp 100001 0,Dq5,Dq1,Dq1,Dq1,Dq1,Dq5,Dq4,Dq4,Dq8, .vh 100002, .vh 100003,Dq1,Dq1,Dq9]),(100001, .box none [Dq3,Dq4,Dq1, .vh 100004,Dq1, .vh 100005,Dq1,Dq6]),(100002,Oq2),(100003,Oq2),(100004,Oq7),(100005,Oq2)],rcut:=aT,rvars:=[],keep:=[100000,100001,100002,3011,100004,100005]}
noncomputable def eU(v:Int×Int×Int×ByteArray×Int×Int×Int×Int×ByteArray×Bool×Bool×(List aQ)×Int×Int×(Option aE)×(List aB)×Bool×Int×Int×Int×(Option bX)×(List aE)×(List aE)×(List Int)×(List aE)×Unit):Option (Tq1):=(if(v.2.2.1 !=0)=true then some (v.1,v.2.1,v.2.2.1,v.2.2.2.2.2.2.2.2.2.2.2.2.2.2.2.2.1,v.2.2.2)else some (v.1,v.2.1,v.2.2.1,false,v.2.2.2))>>=λx1=>let b:=x1.2.2.2.2;let d:=b.2.2.2.2;let a:=d.2.2.2.2.2;let c:=a.2.2.2.2.2.2;let e:=c.2.2.2;if x1.2.2.2.1=true then d_ ((1:Int),x1.2.2.1,a.2.2.2.1,a.2.2.2.2.1,a.2.2.2.2.2.1,c.1,c.2.1,c.2.2.1,e.2.2)>>=λx2=>let f:=x2.2.2.2.2;if f.2.2.1.length=e.2.2.1.length then if f.2.2.2.1.length=e.2.2.2.1.length then some (b.1,b.2.1,b.2.2.1,b.2.2.2.1,d.1,d.2.1,d.2.2.1,d.2.2.2.1,d.2.2.2.2.1,a.1,a.2.1,a.2.2.1,x2.1,x2.2.1,x2.2.2.1,x2.2.2.2.1,f.1,f.2.1,e.1,e.2.1,f.2.2)else none else none else(if(x1.2.2.1 !=0)=true then some (x1.2.1,b)else some (x1.1,b))>>=λx2=>let g:=x2.2.2.2.2.2.2.2.2.2.2.2.2.2.2.2.2.2.2.2;sJ (x2.1,())>>=λx3=>cK (x3.1,x2.2)>>=λx4=>let h:=x4.2.2.2.2.2.2.2.2.2.2.2.2.2.2.2.2.2.2;if h.1.length=g.1.length then if h.2.2.1.length=g.2.2.1.length then if h.2.2.2.1.length=g.2.2.2.1.length then some (x4)else none else none else none
def md:=kO gu (kO cH (kP kK k0))
def Gs:Xc vw:=mX prog 32 md.1 BC [(4,vU,[.norm])] [(0,vV)] []
theorem fy:aM prog 128 xy eU:=fn0 Gs Tryz.func128 md.2
def FS:aN vw:={rcut:=aT}
def rA:Sig vw:={params:=[.bp 100000 0,ma],objs:=[(100000, .box none [.bp 100001 0,Dq5,Dq1,Dq1,Dq1,Dq1,Dq5,Dq4,Dq4,Dq8, .vh 100002, .vh 100003,Dq1,Dq1,Dq9]),(100001, .box none [Dq3,Dq4,Dq1, .vh 100004,Dq1, .vh 100005,Dq1,Dq6]),(100002,Oq2),(100003,Oq2),(100004,Oq7),(100005,Oq2)],rcut:=aT,rvars:=[],keep:=[100000,100001,100002,3011,100004,100005]}
noncomputable def fQ(v:Tq2):Option (Tq1):=let b:=v.2.2.2.2.2.2.2.2.2.2.2.2.2.2.2.2.2.2.2;ct v.2>>=λx1=>let f:=x1.2.2.2;let d:=f.2.2.2.2;let h:=d.2.2.2;let c:=h.2.2.2.2;let e:=c.2.2.2.2;let g:=e.2.2;if e.1.length=b.1.length then if g.1.length=b.2.2.1.length then if g.2.1.length=b.2.2.2.1.length then o9 (v.1.type0,g.2.2.1.n,())>>=λx2=>ct (x1.1,x1.2.1,x1.2.2.1,f.1,f.2.1,f.2.2.1,f.2.2.2.1,d.1,d.2.1,d.2.2.1,h.1,h.2.1,h.2.2.1,h.2.2.2.1,c.1,c.2.1,c.2.2.1,c.2.2.2.1,e.1,e.2.1,g.1,g.2.1,())>>=λx3=>let l:=x3.2.2.2;let j:=l.2.2.2.2;let o:=j.2.2.2;let i:=o.2.2.2.2;let k:=i.2.2.2.2;let m:=k.2.2;if k.1.length=e.1.length then if m.1.length=g.1.length then if m.2.1.length=g.2.1.length then o9 (v.1.type0,m.2.2.1.n,())>>=λx4=>ut (v.1.type0,())>>=λx5=>HZ (v.1.a,x5.1,x4.1,x2)>>=λx6=>ut (v.1.type0,())>>=λx7=>H2 (v.1.a,x7.1,x4.1,x2)>>=λx8=>eU (x6.1,x8.1,x6.2.1,x3.1,x3.2.1,x3.2.2.1,l.1,l.2.1,l.2.2.1,l.2.2.2.1,j.1,j.2.1,j.2.2.1,o.1,o.2.1,o.2.2.1,o.2.2.2.1,i.1,i.2.1,i.2.2.1,i.2.2.2.1,k.1,k.2.1,m.1,m.2.1,())>>=λx9=>let p:=x9.2.2.2.2.2.2.2.2.2.2.2.2.2.2.2.2.2.2;if p.1.length=k.1.length then if p.2.2.1.length=m.1.length then if p.2.2.2.1.length=m.2.1.length then some (x9)else none else none else none else none else none else none else none else none else none
def od:=kP kL (kO ci (kP H1 (kP nC (kP H3 (kO fy k0)))))
def Kv:Xc vw:=mX prog 51 od.1 FS [] [] []
theorem mA:aM prog 82 rA fQ:=fn0 Kv Tryz.func82 od.2
def FT:aN vw:={rcut:=aT}
def rB:Sig vw:={params:=[.bp 100000 0,ma],objs:=[(100000, .box none [.bp 100001 0,Dq5,Dq1,Dq1,Dq1,Dq1,Dq5,Dq4,Dq4,Dq8, .vh 100002, .vh 100003,Dq1,Dq1,Dq9]),(100001, .box none [Dq3,Dq4,Dq1, .vh 100004,Dq1, .vh 100005,Dq1,Dq6]),(100002,Oq2),(100003,Oq2),(100004,Oq7),(100005,Oq2)],rcut:=aT,rvars:=[],keep:=[100000,100001,100002,3011,100004,100005]}
noncomputable def fR(v:Tq2):Option (Tq1):=let b:=v.2.2.2.2.2.2.2.2.2.2.2.2.2.2.2.2.2.2.2;ct v.2>>=λx1=>let f:=x1.2.2.2.2;let d:=f.2.2.2.2;let g:=d.2.2.2.2;let c:=g.2.2.2.2;let e:=c.2.2.2.2;let h:=e.2.2.1;if c.2.2.1.length=b.1.length then if e.1.length=b.2.2.1.length then if e.2.1.length=b.2.2.2.1.length then ct (x1.1,x1.2.1,x1.2.2.1,x1.2.2.2.1,f.1,f.2.1,f.2.2.1,f.2.2.2.1,d.1,d.2.1,d.2.2.1,d.2.2.2.1,g.1,g.2.1,g.2.2.1,g.2.2.2.1,c.1,c.2.1,c.2.2.1,c.2.2.2.1,e.1,e.2.1,())>>=λx2=>let l:=x2.2.2.2.2;let j:=l.2.2.2.2;let m:=j.2.2.2.2;let i:=m.2.2.2.2;let k:=i.2.2.2.2;let o:=k.2.2.1;if i.2.2.1.length=c.2.2.1.length then if k.1.length=e.1.length then if k.2.1.length=e.2.1.length then if 0<=i64.wrap (v.1.a-18)/\i64.wrap (v.1.a-18)<(↑(6:Nat):Int)then[o.n==h.n,o.n !=h.n,decide (o.n<h.n),decide (o.n<=h.n),decide (o.n>h.n),decide (o.n>=h.n)][(i64.wrap (v.1.a-18)).toNat]?>>=λx3=>AM (x3,())>>=λx4=>cK (x4.1,x2.1,x2.2.1,x2.2.2.1,x2.2.2.2.1,l.1,l.2.1,l.2.2.1,l.2.2.2.1,j.1,j.2.1,j.2.2.1,j.2.2.2.1,m.1,m.2.1,m.2.2.1,m.2.2.2.1,i.1,i.2.1,i.2.2.1,i.2.2.2.1,k.1,k.2.1,())>>=λx5=>let p:=x5.2.2.2.2.2.2.2.2.2.2.2.2.2.2.2.2.2.2;if p.1.length=i.2.2.1.length then if p.2.2.1.length=k.1.length then if p.2.2.2.1.length=k.2.1.length then some (x5)else none else none else none else none else none else none else none else none else none else none
def oe:=kO cH (kO ci (kP sL k0))
def Kw:Xc vw:=mX prog 38 oe.1 FT [] [] []
theorem mB:aM prog 83 rB fR:=fn0 Kw Tryz.func83 oe.2
def PA:Cut SN:=⟨[(1,Dq1),(2, .bp 2 0),(15,Dq4)],[(2, .st .myIntT)]⟩
def PB:Cut SN:=⟨[(4,Dq1),(5,Dq1),(6,Dq1)],[]⟩
def UN:aN vw:={rcut:=PB}
def RM:Sig vw:=sg [nd,Dq1] PB [.tmp 4, .tmp 5, .tmp 6]
noncomputable def H4(v:bB×Int×Unit):Option (Cg):=(pa (v.1,())>>=λx1=>if(x1.1 !=0)=true then some ((v.2.1,true,v.1,()))else m7 v>>=λx2=>some ((v.2.1,!x2.1,v.1,())))>>=λx1=>if x1.2.1=true then some (((0:Int),(0:Int),(1:Int),()))else m7 (x1.2.2.1,i64.wrap ((0:Int) -x1.1),())>>=λx2=>if(!x2.1)=true then some (((0:Int),(1:Int),(0:Int),()))else some ((i64.wrap ((0:Int) -x1.1),(0:Int),(0:Int),()))
def CV:=kP jA (kP nD k0)
def Zy:Xc vw:=mX prog 23 CV.1 UN [] [(1,PA)] []
theorem H5:aM prog 130 RM H4:=fn0 Zy Tryz.func130 CV.2
def FU:aN vw:={rcut:=aT}
def rC:Sig vw:={params:=[.bp 100000 0,ma],objs:=[(100000, .box none [.bp 100001 0,Dq5,Dq1,Dq1,Dq1,Dq1,Dq5,Dq4,Dq4,Dq8, .vh 100002, .vh 100003,Dq1,Dq1,Dq9]),(100001, .box none [Dq3,Dq4,Dq1, .vh 100004,Dq1, .vh 100005,Dq1,Dq6]),(100002,Oq2),(100003,Oq2),(100004,Oq7),(100005,Oq2)],rcut:=aT,rvars:=[],keep:=[100000,100001,100002,3011,100004,100005]}
noncomputable def fS(v:Tq2):Option (Tq1):=let a:=v.2.2.2.2.2.2.2.2.2.2.2.2.2.2.2.2.2.2.2;ct v.2>>=λx1=>let e:=x1.2.2.2;let c:=e.2.2.2.2;let g:=c.2.2.2;let b:=g.2.2.2.2;let d:=b.2.2.2.2;let f:=d.2.2;if d.1.length=a.1.length then if f.1.length=a.2.2.1.length then if f.2.1.length=a.2.2.2.1.length then o9 (v.1.type0,f.2.2.1.n,())>>=λx2=>ut (v.1.type0,())>>=λx3=>H4 (x3.1,x2)>>=λx4=>o9 (v.1.type0,i64.wrap ((0:Int) -x2.1),())>>=λx5=>eU (x4.1,x5.1,x4.2.1,x1.1,x1.2.1,x1.2.2.1,e.1,e.2.1,e.2.2.1,e.2.2.2.1,c.1,c.2.1,c.2.2.1,g.1,g.2.1,g.2.2.1,g.2.2.2.1,b.1,b.2.1,b.2.2.1,b.2.2.2.1,d.1,d.2.1,f.1,f.2.1,())>>=λx6=>let h:=x6.2.2.2.2.2.2.2.2.2.2.2.2.2.2.2.2.2.2;if h.1.length=d.1.length then if h.2.2.1.length=f.1.length then if h.2.2.2.1.length=f.2.1.length then some (x6)else none else none else none else none else none else none
def og:=kP kL (kO ci (kP nC (kO fy (kP H5 k0))))
def Kx:Xc vw:=mX prog 32 og.1 FU [] [] []
theorem mC:aM prog 84 rC fS:=fn0 Kx Tryz.func84 og.2
def FV:aN vw:={rcut:=aT}
def rD:Sig vw:={params:=[.bp 100000 0,ma],objs:=[(100000, .box none [.bp 100001 0,Dq5,Dq1,Dq1,Dq1,Dq1,Dq5,Dq4,Dq4,Dq8, .vh 100002, .vh 100003,Dq1,Dq1,Dq9]),(100001, .box none [Dq3,Dq4,Dq1, .vh 100004,Dq1, .vh 100005,Dq1,Dq6]),(100002,Oq2),(100003,Oq2),(100004,Oq7),(100005,Oq2)],rcut:=aT,rvars:=[],keep:=[100000,100001,100002,3011,100004,100005]}
noncomputable def fT(v:Tq2):Option (Tq1):=let a:=v.2.2.2.2.2.2.2.2.2.2.2.2.2.2.2.2.2.2.2;ct v.2>>=λx1=>let e:=x1.2.2.2;let c:=e.2.2.2.2;let g:=c.2.2.2;let b:=g.2.2.2.2;let d:=b.2.2.2.2;let f:=d.2.2;if d.1.length=a.1.length then if f.1.length=a.2.2.1.length then if f.2.1.length=a.2.2.2.1.length then AM (f.2.2.1.n==0,())>>=λx2=>cK (x2.1,x1.1,x1.2.1,x1.2.2.1,e.1,e.2.1,e.2.2.1,e.2.2.2.1,c.1,c.2.1,c.2.2.1,g.1,g.2.1,g.2.2.1,g.2.2.2.1,b.1,b.2.1,b.2.2.1,b.2.2.2.1,d.1,d.2.1,f.1,f.2.1,())>>=λx3=>let h:=x3.2.2.2.2.2.2.2.2.2.2.2.2.2.2.2.2.2.2;if h.1.length=d.1.length then if h.2.2.1.length=f.1.length then if h.2.2.2.1.length=f.2.1.length then some (x3)else none else none else none else none else none else none
def oh:=kO cH (kO ci (kP sL k0))
def Ky:Xc vw:=mX prog 11 oh.1 FV [] [] []
theorem mD:aM prog 85 rD fT:=fn0 Ky Tryz.func85 oh.2
def PC:Cut SN:=⟨[(4,Dq4),(5,Dq1)],[]⟩
def UO:aN vw:={rcut:=PC}
def RN:Sig vw:=sg [nd,Dq1] PC [.tmp 4, .tmp 5]
noncomputable def H6(v:bB×Int×Unit):Option (Bool×Int×Unit):=pa (v.1,())>>=λx1=>if(x1.1 !=0)=true then some (false,x1)else m7 v>>=λx2=>some ((x2.1,(0:Int),()))
def CW:=kP jA (kP nD k0)
def Zz:Xc vw:=mX prog 15 CW.1 UO [] [] []
theorem H7:aM prog 131 RN H6:=fn0 Zz Tryz.func131 CW.2
def Aj:Cut SN:=⟨[(0, .bp 100000 0),(3, .bp 3 0),(4,Dq1),(5,Dq1)],[(100000, .box none [.bp 100001 0,Dq5,Dq1,Dq1,Dq1,Dq1,Dq5,Dq4,Dq4,Dq8, .vh 100002, .vh 3011,Dq1,Dq1,Dq9]),(3, .st .myCodeT),(100001, .box none [Dq3,Dq4,Dq1, .vh 100004,Dq1, .vh 100005,Dq1,Dq6]),(100002,Oq2),(3011,Oq2),(100004,Oq7),(100005,Oq2)]⟩
def FW:aN vw:={rcut:=aT}
def rE:Sig vw:={params:=[.bp 100000 0,ma],objs:=[(100000, .box none [.bp 100001 0,Dq5,Dq1,Dq1,Dq1,Dq1,Dq5,Dq4,Dq4,Dq8, .vh 100002, .vh 100003,Dq1,Dq1,Dq9]),(100001, .box none [Dq3,Dq4,Dq1, .vh 100004,Dq1, .vh 100005,Dq1,Dq6]),(100002,Oq2),(100003,Oq2),(100004,Oq7),(100005,Oq2)],rcut:=aT,rvars:=[],keep:=[100000,100001,100002,3011,100004,100005]}
noncomputable def fU(v:Tq2):Option (Tq1):=let a:=v.2.2.2.2.2.2.2.2.2.2.2.2.2.2.2.2.2.2.2;ct v.2>>=λx1=>let c:=x1.2.2.2.2.2.2;let f:=c.2.2.2;let b:=f.2.2.2.2;let d:=b.2.2.2.2.2;let e:=d.2.2;let G1:=(x1.1,x1.2.1,x1.2.2.1,x1.2.2.2.1,x1.2.2.2.2.1,x1.2.2.2.2.2.1,c.1,c.2.1,c.2.2.1,f.1,f.2.1,f.2.2.1,v.1,f.2.2.2.1,b.1,b.2.1,b.2.2.1,b.2.2.2.1,b.2.2.2.2.1,d.1,d.2.1,e.1,e.2.1,());if d.1.length=a.1.length then if e.1.length=a.2.2.1.length then if e.2.1.length=a.2.2.2.1.length then(ut (v.1.type0,())>>=λx2=>H6 (x2.1,e.2.2.1.n,())>>=λx3=>if(!x3.1)=true then some ((e.2.2.1.n,(3:Int),G1))else some ((e.2.2.1.n,(0:Int),G1)))>>=λx2=>let i:=x2.2.2.2.2;let g:=i.2.2.2.2.2;let j:=g.2.2.2;let h:=j.2.2.2.2.2.2.2.2.2;o9 (j.2.2.1.type0,x2.1,())>>=λx3=>eU (x2.1,x3.1,x2.2.1,x2.2.2.1,x2.2.2.2.1,i.1,i.2.1,i.2.2.1,i.2.2.2.1,i.2.2.2.2.1,g.1,g.2.1,g.2.2.1,j.1,j.2.1,j.2.2.2)>>=λx4=>let k:=x4.2.2.2.2.2.2.2.2.2.2.2.2.2.2.2.2.2.2;if k.1.length=h.1.length then if k.2.2.1.length=h.2.2.1.length then if k.2.2.2.1.length=h.2.2.2.1.length then some (x4)else none else none else none else none else none else none
def oi:=kP kL (kO ci (kP nC (kO fy (kP H7 k0))))
def Kz:Xc vw:=mX prog 29 oi.1 FW [(6,Aj,[.norm])] [] []
theorem mE:aM prog 86 rE fU:=fn0 Kz Tryz.func86 oi.2
def FX:aN vw:={rcut:=aT}
def rF:Sig vw:={params:=[.bp 100000 0,ma],objs:=[(100000, .box none [.bp 100001 0,Dq5,Dq1,Dq1,Dq1,Dq1,Dq5,Dq4,Dq4,Dq8, .vh 100002, .vh 100003,Dq1,Dq1,Dq9]),(100001, .box none [Dq3,Dq4,Dq1, .vh 100004,Dq1, .vh 100005,Dq1,Dq6]),(100002,Oq2),(100003,Oq2),(100004,Oq7),(100005,Oq2)],rcut:=aT,rvars:=[],keep:=[100000,100001,100002,3011,100004,100005]}
noncomputable def fV(v:Tq2):Option (Tq1):=let a:=v.2.2.2.2.2.2.2.2.2.2.2.2.2.2.2.2.2.2.2;ct v.2>>=λx1=>let e:=x1.2.2.2;let c:=e.2.2.2.2;let g:=c.2.2.2;let b:=g.2.2.2.2;let d:=b.2.2.2.2;let f:=d.2.2;if d.1.length=a.1.length then if f.1.length=a.2.2.1.length then if f.2.1.length=a.2.2.2.1.length then o9 (v.1.type0,f.2.2.1.n,())>>=λx2=>sJ x2>>=λx3=>cK (x3.1,x1.1,x1.2.1,x1.2.2.1,e.1,e.2.1,e.2.2.1,e.2.2.2.1,c.1,c.2.1,c.2.2.1,g.1,g.2.1,g.2.2.1,g.2.2.2.1,b.1,b.2.1,b.2.2.1,b.2.2.2.1,d.1,d.2.1,f.1,f.2.1,())>>=λx4=>let h:=x4.2.2.2.2.2.2.2.2.2.2.2.2.2.2.2.2.2.2;if h.1.length=d.1.length then if h.2.2.1.length=f.1.length then if h.2.2.2.1.length=f.2.1.length then some (x4)else none else none else none else none else none else none
def oj:=kO cH (kP kK (kP kL (kO ci k0)))
def KA:Xc vw:=mX prog 13 oj.1 FX [] [] []
theorem mF:aM prog 87 rF fV:=fn0 KA Tryz.func87 oj.2
def Ak:Cut SN:=⟨[(0, .bp 100000 0),(4, .bp 4 0),(5,Dq1)],[(100000, .box none [.bp 100001 0,Dq5,Dq1,Dq1,Dq1,Dq1,Dq5,Dq4,Dq4,Dq8, .vh 100002, .vh 3011,Dq1,Dq1,Dq9]),(4, .st .myValueT),(100001, .box none [Dq3,Dq4,Dq1, .vh 100004,Dq1, .vh 100005,Dq1,Dq6]),(100002,Oq2),(3011,Oq2),(100004,Oq7),(100005,Oq2)]⟩
def FY:aN vw:={rcut:=aT}
def rG:Sig vw:={params:=[.bp 100000 0,ma],objs:=[(100000, .box none [.bp 100001 0,Dq5,Dq1,Dq1,Dq1,Dq1,Dq5,Dq4,Dq4,Dq8, .vh 100002, .vh 100003,Dq1,Dq1,Dq9]),(100001, .box none [Dq3,Dq4,Dq1, .vh 100004,Dq1, .vh 100005,Dq1,Dq6]),(100002,Oq2),(100003,Oq2),(100004,Oq7),(100005,Oq2)],rcut:=aT,rvars:=[],keep:=[100000,100001,100002,3011,100004,100005]}
noncomputable def fW(v:Tq2):Option (Tq1):=let a:=v.2.2.2.2.2.2.2.2.2.2.2.2.2.2.2.2.2.2.2;ct v.2>>=λx1=>let c:=x1.2.2.2.2.2.2;let e:=c.2.2.2;let b:=e.2.2.2.2;let d:=b.2.2.2.2.2;let G1:=(x1.1,x1.2.1,x1.2.2.1,x1.2.2.2.1,x1.2.2.2.2.1,x1.2.2.2.2.2.1,c.1,c.2.1,c.2.2.1,e.1,e.2.1,e.2.2.1,d.2.2.2.2.1,e.2.2.2.1,b.1,b.2.1,b.2.2.1,b.2.2.2.1,b.2.2.2.2.1,d.1,d.2.1,d.2.2.1,d.2.2.2.1,());if d.1.length=a.1.length then if d.2.2.1.length=a.2.2.1.length then if d.2.2.2.1.length=a.2.2.2.1.length then(if d.2.2.2.2.1.null=true then some (((4:Int),G1))else some (((0:Int),G1)))>>=λx2=>let g:=x2.2.2.2.2;let f:=g.2.2.2.2.2;let i:=f.2.2.2;let h:=i.2.2.2.2.2.2.2.2;eU (i.2.1.n,i.2.1.n,x2.1,x2.2.1,x2.2.2.1,x2.2.2.2.1,g.1,g.2.1,g.2.2.1,g.2.2.2.1,g.2.2.2.2.1,f.1,f.2.1,f.2.2.1,i.1,i.2.2)>>=λx3=>let j:=x3.2.2.2.2.2.2.2.2.2.2.2.2.2.2.2.2.2.2;if j.1.length=h.1.length then if j.2.2.1.length=h.2.2.1.length then if j.2.2.2.1.length=h.2.2.2.1.length then some (x3)else none else none else none else none else none else none
def ol:=kO ci (kO fy k0)
def KB:Xc vw:=mX prog 17 ol.1 FY [(5,Ak,[.norm])] [] []
theorem mG:aM prog 88 rG fW:=fn0 KB Tryz.func88 ol.2
def qy:Cut SN:=⟨[(0, .bp 100000 0),(2, .bp 2 0)],[(100000, .box none [.bp 100001 0,Dq5,Dq1,Dq1,Dq1,Dq1,Dq5,Dq4,Dq4,Dq8, .vh 100002, .vh 100003,Dq1,Dq1,Dq9]),(100001, .box none [Dq3,Dq4,Dq1, .vh 100004,Dq1, .vh 100005,Dq1,Dq6]),(100002,Oq2),(100003,Oq2),(100004,Oq7),(100005,Oq2),(2, .st .myValueT)]⟩
def BD:aN vw:={rcut:=qy}
def xz:Sig vw:={params:=[.bp 100000 0],objs:=[(100000, .box none [.bp 100001 0,Dq5,Dq1,Dq1,Dq1,Dq1,Dq5,Dq4,Dq4,Dq8, .vh 100002, .vh 100003,Dq1,Dq1,Dq9]),(100001, .box none [Dq3,Dq4,Dq1, .vh 100004,Dq1, .vh 100005,Dq1,Dq6]),(100002,Oq2),(100003,Oq2),(100004,Oq7),(100005,Oq2)],rcut:=qy,rvars:=[.cell 2 31],keep:=[100000,100001,100002,100003,100004,100005]}
noncomputable def gS(v:Tq1):Option (WJ):=let c:=v.2.2.2.2.2.2;let d:=c.2.2.2;let a:=d.2.2.2.2;let b:=a.2.2.2.2.2.2;if 0<=i64.wrap ((↑b.1.length:Int) -1)/\i64.wrap ((↑b.1.length:Int) -1)<(↑b.1.length:Int)then b.1[(i64.wrap ((↑b.1.length:Int) -1)).toNat]?>>=λx1=>some ((v.1,v.2.1,v.2.2.1,v.2.2.2.1,v.2.2.2.2.1,v.2.2.2.2.2.1,c.1,c.2.1,c.2.2.1,d.1,d.2.1,d.2.2.1,d.2.2.2.1,a.1,a.2.1,a.2.2.1,a.2.2.2.1,a.2.2.2.2.1,a.2.2.2.2.2.1,b.1,b.2.1,b.2.2.1,x1,()))else none
def Gt:Xc vw:=mX prog 15 c0 BD [] [] []
theorem kM:aM prog 132 xz gS:=fn0 Gt Tryz.func132 bT
def FZ:aN vw:={rcut:=aT}
def rH:Sig vw:={params:=[.bp 100000 0,ma],objs:=[(100000, .box none [.bp 100001 0,Dq5,Dq1,Dq1,Dq1,Dq1,Dq5,Dq4,Dq4,Dq8, .vh 100002, .vh 100003,Dq1,Dq1,Dq9]),(100001, .box none [Dq3,Dq4,Dq1, .vh 100004,Dq1, .vh 100005,Dq1,Dq6]),(100002,Oq2),(100003,Oq2),(100004,Oq7),(100005,Oq2)],rcut:=aT,rvars:=[],keep:=[100000,100001,100002,3011,100004,100005]}
noncomputable def fX(v:Tq2):Option (Tq1):=let b:=v.2.2.2.2.2.2.2.2.2.2.2.2.2.2.2.2.2.2.2;gS v.2>>=λx1=>let f:=x1.2.2.2;let d:=f.2.2.2.2;let h:=d.2.2.2;let c:=h.2.2.2.2;let e:=c.2.2.2.2;let g:=e.2.2;let G1:=(x1.1,x1.2.1,x1.2.2.1,f.1,f.2.1,f.2.2.1,f.2.2.2.1,d.1,d.2.1,d.2.2.1,h.1,h.2.1,h.2.2.1,h.2.2.2.1,c.1,c.2.1,c.2.2.1,c.2.2.2.1,e.1,e.2.1,g.1,g.2.1,());if e.1.length=b.1.length then if e.2.1.length=b.2.1.length then if g.1.length=b.2.2.1.length then if g.2.1.length=b.2.2.2.1.length then if g.2.2.1.null=true then ct G1>>=λx2=>let k:=x2.2.2.2.2.2;let i:=k.2.2.2.2.2.2.2;let j:=i.2.2.2.2.2.2;if j.1.length=e.1.length then if j.2.2.1.length=g.1.length then if j.2.2.2.1.length=g.2.1.length then some ((x2.1,x2.2.1,x2.2.2.1,x2.2.2.2.1,x2.2.2.2.2.1,k.1,k.2.1,k.2.2.1,k.2.2.2.1,k.2.2.2.2.1,v.1.a,k.2.2.2.2.2.2.1,i.1,i.2.1,i.2.2.1,i.2.2.2.1,i.2.2.2.2.1,i.2.2.2.2.2.1,j.1,j.2.1,j.2.2.1,j.2.2.2.1,()))else none else none else none else some (G1)else none else none else none else none
def om:=kO ci (kO kM k0)
def KC:Xc vw:=mX prog 14 om.1 FZ [] [] []
theorem mH:aM prog 89 rH fX:=fn0 KC Tryz.func89 om.2
def eu:Cut SN:=⟨[(0, .bp 100000 0)],[(100000, .box none [.bp 100001 0,Dq5,Dq1,Dq1,Dq1,Dq1,Dq5,Dq4,Dq4,Dq8, .vh 100002, .vh 100003,Dq1,Dq1,Dq9]),(100001, .box none [Dq3,Dq4,Dq1, .vh 100004,Dq1, .vh 100005,Dq1,Dq6]),(100002,Oq2),(100003,Oq2),(100004,Oq7),(100005,Oq2)]⟩
def BE:aN vw:={rcut:=eu}
def xA:Sig vw:={params:=[.bp 100000 0,Dq4,Dq1],objs:=[(100000, .box none [.bp 100001 0,Dq5,Dq1,Dq1,Dq1,Dq1,Dq5,Dq4,Dq4,Dq8, .vh 100002, .vh 100003,Dq1,Dq1,Dq9]),(100001, .box none [Dq3,Dq4,Dq1, .vh 100004,Dq1, .vh 100005,Dq1,Dq6]),(100002,Oq2),(100003,Oq2),(100004,Oq7),(100005,Oq2)],rcut:=eu,rvars:=[],keep:=[100000,100001,100002,100003,100004,100005]}
noncomputable def gT(v:Bool×Int×ByteArray×Int×Int×Int×Int×ByteArray×Bool×Bool×(List aQ)×Int×Int×(Option aE)×(List aB)×Bool×Int×Int×Int×(Option bX)×(List aE)×(List aE)×(List Int)×(List aE)×Unit):Option (Tq1):=let a:=v.2.2.2.2.2.2;if v.1=true then some (v.2.2.1,v.2.2.2.1,v.2.2.2.2.1,v.2.2.2.2.2.1,a.1,a.2.1,a.2.2.1,a.2.2.2.1,a.2.2.2.2.1,a.2.2.2.2.2.1,v.2.1,a.2.2.2.2.2.2.2)else some (v.2.2)
def Gu:Xc vw:=mX prog 11 c0 BE [] [] []
theorem kN:aM prog 133 xA gT:=fn0 Gu Tryz.func133 bT
def F0:aN vw:={rcut:=eu}
def rI:Sig vw:={params:=[.bp 100000 0,ma],objs:=[(100000, .box none [.bp 100001 0,Dq5,Dq1,Dq1,Dq1,Dq1,Dq5,Dq4,Dq4,Dq8, .vh 100002, .vh 100003,Dq1,Dq1,Dq9]),(100001, .box none [Dq3,Dq4,Dq1, .vh 100004,Dq1, .vh 100005,Dq1,Dq6]),(100002,Oq2),(100003,Oq2),(100004,Oq7),(100005,Oq2)],rcut:=eu,rvars:=[],keep:=[100000,100001,100002,100003,100004,100005]}
noncomputable def fY(v:Tq2):Option (Tq1):=let b:=v.2.2.2.2.2.2.2.2.2.2.2.2.2.2.2.2.2.2.2;gS v.2>>=λx1=>let g:=x1.2.2.2;let d:=g.2.2.2.2;let f:=d.2.2.2.2;let c:=f.2.2.2.2;let e:=c.2.2.2;let h:=e.2.2;if e.1.length=b.1.length then if e.2.1.length=b.2.1.length then if h.1.length=b.2.2.1.length then if h.2.1.length=b.2.2.2.1.length then gT (!h.2.2.1.err.toList==(aae #[]).toList,v.1.a,x1.1,x1.2.1,x1.2.2.1,g.1,g.2.1,g.2.2.1,g.2.2.2.1,d.1,d.2.1,d.2.2.1,d.2.2.2.1,f.1,f.2.1,f.2.2.1,f.2.2.2.1,c.1,c.2.1,c.2.2.1,e.1,e.2.1,h.1,h.2.1,())>>=λx2=>let i:=x2.2.2.2.2.2.2.2.2.2.2.2.2.2.2.2.2.2.2;if i.1.length=e.1.length then if i.2.1.length=e.2.1.length then if i.2.2.1.length=h.1.length then if i.2.2.2.1.length=h.2.1.length then some (x2)else none else none else none else none else none else none else none else none
def oq:=kO kM (kO kN k0)
def KD:Xc vw:=mX prog 12 oq.1 F0 [] [] []
theorem mI:aM prog 90 rI fY:=fn0 KD Tryz.func90 oq.2
def F1:aN vw:={rcut:=eu}
def rJ:Sig vw:={params:=[.bp 100000 0,ma],objs:=[(100000, .box none [.bp 100001 0,Dq5,Dq1,Dq1,Dq1,Dq1,Dq5,Dq4,Dq4,Dq8, .vh 100002, .vh 100003,Dq1,Dq1,Dq9]),(100001, .box none [Dq3,Dq4,Dq1, .vh 100004,Dq1, .vh 100005,Dq1,Dq6]),(100002,Oq2),(100003,Oq2),(100004,Oq7),(100005,Oq2)],rcut:=eu,rvars:=[],keep:=[100000,100001,100002,100003,100004,100005]}
noncomputable def fZ(v:Tq2):Option (Tq1):=let b:=v.2.2.2.2.2;some (v.2.1,v.2.2.1,v.2.2.2.1,v.2.2.2.2.1,b.1,b.2.1,b.2.2.1,b.2.2.2.1,b.2.2.2.2.1,b.2.2.2.2.2.1,v.1.a,b.2.2.2.2.2.2.2)
def KE:Xc vw:=mX prog 9 c0 F1 [] [] []
theorem mJ:aM prog 91 rJ fZ:=fn0 KE Tryz.func91 bT
def F2:aN vw:={rcut:=aT}
def rK:Sig vw:={params:=[.bp 100000 0,ma],objs:=[(100000, .box none [.bp 100001 0,Dq5,Dq1,Dq1,Dq1,Dq1,Dq5,Dq4,Dq4,Dq8, .vh 100002, .vh 100003,Dq1,Dq1,Dq9]),(100001, .box none [Dq3,Dq4,Dq1, .vh 100004,Dq1, .vh 100005,Dq1,Dq6]),(100002,Oq2),(100003,Oq2),(100004,Oq7),(100005,Oq2)],rcut:=aT,rvars:=[],keep:=[100000,100001,100002,3011,100004,100005]}
noncomputable def f5(v:Tq2):Option (Tq1):=let b:=v.2.2.2.2.2.2.2.2.2.2.2.2.2.2.2.2.2.2.2;ct v.2>>=λx1=>let f:=x1.2.2.2;let d:=f.2.2.2.2;let h:=d.2.2.2;let c:=h.2.2.2.2;let e:=c.2.2.2.2;let g:=e.2.2;if e.1.length=b.1.length then if g.1.length=b.2.2.1.length then if g.2.1.length=b.2.2.2.1.length then gT (g.2.2.1.n==0,v.1.a,x1.1,x1.2.1,x1.2.2.1,f.1,f.2.1,f.2.2.1,f.2.2.2.1,d.1,d.2.1,d.2.2.1,h.1,h.2.1,h.2.2.1,h.2.2.2.1,c.1,c.2.1,c.2.2.1,c.2.2.2.1,e.1,e.2.1,g.1,g.2.1,())>>=λx2=>let i:=x2.2.2.2.2.2.2.2.2.2.2.2.2.2.2.2.2.2.2;if i.1.length=e.1.length then if i.2.1.length=e.2.1.length then if i.2.2.1.length=g.1.length then if i.2.2.2.1.length=g.2.1.length then some (x2)else none else none else none else none else none else none else none
def ou:=kO ci (kO kN k0)
def KF:Xc vw:=mX prog 12 ou.1 F2 [] [] []
theorem mK:aM prog 92 rK f5:=fn0 KF Tryz.func92 ou.2
def F4:aN vw:={rcut:=aT}
def Bm:Nat->Bool:=λk=>match k with|7000004=>true|_=>false
def rL:Sig vw:={params:=[.bp 100000 0,ma],objs:=[(100000, .box none [.bp 100001 0,Dq5,Dq1,Dq1,Dq1,Dq1,Dq5,Dq4,Dq4,Dq8, .vh 100002, .vh 100003,Dq1,Dq1,Dq9]),(100001, .box none [Dq3,Dq4,Dq1, .vh 100004,Dq1, .vh 100005,Dq1,Dq6]),(100002,Oq2),(100003,Oq2),(100004,Oq7),(100005,Oq2)],rcut:=aT,rvars:=[],keep:=[100000,100001,100002,3011,100004,100005]}
noncomputable def f6(v:Tq2):Option (Tq1):=let a:=v.2.2.2.2.2.2.2.2.2.2.2.2.2.2.2.2.2.2.2;ct v.2>>=λx1=>let d:=x1.2.2.2.2.2;let b:=d.2.2.2.2.2.2.2;let c:=b.2.2.2.2.2.2;if c.1.length=a.1.length then if c.2.2.1.length=a.2.2.1.length then if c.2.2.2.1.length=a.2.2.2.1.length then some ((x1.1,x1.2.1,x1.2.2.1,x1.2.2.2.1,x1.2.2.2.2.1,d.1,d.2.1,d.2.2.1,d.2.2.2.1,d.2.2.2.2.1,d.2.2.2.2.2.1,some c.2.2.2.2.1,b.1,b.2.1,b.2.2.1,b.2.2.2.1,b.2.2.2.2.1,b.2.2.2.2.2.1,c.1,c.2.1,c.2.2.1,c.2.2.2.1,()))else none else none else none
def ow:=kO ci k0
def KG:Xc vw:={P:=prog,n:=10,call:=ow.1,pre:=Bm,sh:=F4}
theorem mL:aM prog 94 rL f6:=fn0 KG Tryz.func94 ow.2
def F5:aN vw:={rcut:=aT}
def rM:Sig vw:={params:=[.bp 100000 0,ma],objs:=[(100000, .box none [.bp 100001 0,Dq5,Dq1,Dq1,Dq1,Dq1,Dq5,Dq4,Dq4,Dq8, .vh 100002, .vh 100003,Dq1,Dq1,Dq9]),(100001, .box none [Dq3,Dq4,Dq1, .vh 100004,Dq1, .vh 100005,Dq1,Dq6]),(100002,Oq2),(100003,Oq2),(100004,Oq7),(100005,Oq2)],rcut:=aT,rvars:=[],keep:=[100000,100001,100002,3011,100004,100005]}
noncomputable def f7(v:Tq2):Option (Tq1):=let a:=v.2.2.2.2.2.2.2.2.2.2.2.2.2.2.2.2.2.2.2;cK (aE.mk (aF.mk (0:Int) (0:Int) (aae #[]) false false) (0:Int) false v.1.name0 (aF.mk (0:Int) (0:Int) (aae #[]) false false),v.2)>>=λx1=>let b:=x1.2.2.2.2.2.2.2.2.2.2.2.2.2.2.2.2.2.2;if b.1.length=a.1.length then if b.2.2.1.length=a.2.2.1.length then if b.2.2.2.1.length=a.2.2.2.1.length then some (x1)else none else none else none
def ox:=kO cH k0
def KH:Xc vw:=mX prog 9 ox.1 F5 [] [] []
theorem mM:aM prog 95 rM f7:=fn0 KH Tryz.func95 ox.2
def F6:aN vw:={rcut:=eu}
def Bn:Nat->Bool:=λk=>match k with|7000004=>true|_=>false
def rN:Sig vw:={params:=[.bp 100000 0,ma],objs:=[(100000, .box none [.bp 100001 0,Dq5,Dq1,Dq1,Dq1,Dq1,Dq5,Dq4,Dq4,Dq8, .vh 100002, .vh 100003,Dq1,Dq1,Dq9]),(100001, .box none [Dq3,Dq4,Dq1, .vh 100004,Dq1, .vh 100005,Dq1,Dq6]),(100002,Oq2),(100003,Oq2),(100004,Oq7),(100005,Oq2)],rcut:=eu,rvars:=[],keep:=[100000,100001,100002,100003,100004,100005]}
noncomputable def f_(v:Tq2):Option (Tq1):=let d:=v.2.2.2.2;let f:=d.2.2;let b:=f.2.2.2;let c:=b.2.2.2.2.2;let e:=c.2.2.2.2;if c.1=true then d_ ((1:Int),v.1.a,b.2.2.2.2.1,c.1,c.2.1,c.2.2.1,c.2.2.2.1,e.1,e.2.2.2)>>=λx1=>let g:=x1.2.2.2.2;if g.2.2.1.length=e.2.2.2.1.length then if g.2.2.2.1.length=e.2.2.2.2.1.length then some (v.2.1,v.2.2.1,v.2.2.2.1,d.1,d.2.1,f.1,f.2.1,f.2.2.1,b.1,b.2.1,b.2.2.1,b.2.2.2.1,x1.1,x1.2.1,x1.2.2.1,x1.2.2.2.1,g.1,g.2.1,e.2.1,e.2.2.1,g.2.2)else none else none else sJ ((0:Int),())>>=λx1=>some (v.2.1,v.2.2.1,v.2.2.2.1,d.1,d.2.1,f.1,f.2.1,f.2.2.1,b.1,b.2.1,b.2.2.1,some x1.1,b.2.2.2.2)
def oy:=kO gu (kP kK k0)
def KI:Xc vw:={P:=prog,n:=23,call:=oy.1,pre:=Bn,sh:=F6}
theorem mN:aM prog 96 rN f_:=fn0 KI Tryz.func96 oy.2
end Go.Proofs.YtcghbgmmgcljkaaGreatDoor
end
