/-
  Texts of this claim, joined by a program of mine: what the theorem uses.
-/
import Derived.Test.YtcghbgmmgcljkaaGreatDoorPkF
import Derived.Test.YtcghbgmmgcljkaaGreatDoorPkC
open ByteArray renaming mk→Qa
open Function renaming comp_apply→RJ
open Int renaming toNat→QY
open List renaming all_eq_true→Qm,drop→Sm,getElem?_cons_zero→Ri,getElem?_map→Qc,getElem?_toArray→RW,map_map→QA,mem_map→QG,mem_of_getElem?→Qk,replicate→QL,take→R_
open Nat renaming add_zero→Q5,mul_one→SP
open Option renaming map_eq_some_iff→Qn,map_some→QI
open Option.some renaming injEq→P8
open Sum renaming inl→Rv,inr→Sf
noncomputable section
set_option linter.unusedVariables false
section
namespace Go.Proofs.YtcghbgmmgcljkaaGreatDoor
open Go.Awp Go.Tx
open IntKind (u8)
open IntKind (i64)
open Go.Proofs.Tryz (prog)
set_option maxHeartbeats 4000000
set_option maxRecDepth 100000
theorem aP{c:Prop}[Decidable c]{α:Type}{a b x:α}(h:(if c then a else b)=x):(c/\a=x)\/(¬c/\b=x):=by by_cases e:c;exact .inl ⟨e,by rw[<-h,TL e]⟩;exact .inr ⟨e,by rw[<-h,TK e]⟩
abbrev Dq1:Pt SN:= .dat (.int .i64)
abbrev Dq3:Pt SN:= .dat (.sl (.st .myFuncT))
def JI:Cut SN:=⟨[(3,Dq1),(6,Dq3),(7,Dq1),(8,Dq1)],[]⟩
def LK:Cut SN:=⟨[(3,Dq1)],[]⟩
def yC:Cut SN:=⟨[(2,Dq1)],[]⟩
def OU:aE vw:=shL [(0,LK)] yC
def Na:Sig vw:=sg [Dq3] yC [.tmp 2]
noncomputable def kp(v:Int×(List af)×Int×Int×Unit):Option ((Int×Unit)):=if decide (v.2.2.2.1<v.2.2.1)=true then if 0<=v.2.2.2.1 then v.2.1[v.2.2.2.1.toNat]?>>=λx1=>kp (i64.wrap (v.1+(↑x1.code.length:Int)),v.2.1,v.2.2.1,i64.wrap (v.2.2.2.1+1),())else none else some ((v.1,())) partial_fixpoint
noncomputable def Lo(v:(List af)×Unit):Option (Int×Unit):=kp ((0:Int),v.1,(↑v.1.length:Int),(0:Int),())>>=λx1=>some (x1)
def x46:Xc vw:=mX prog 19 c0 OU [] [] [(3,⟨JI,[.exit 0],kp⟩)]
theorem AJ:oe x46 (bE (aO Tryz.f46) 0) ⟨JI,[.exit 0],kp⟩:=lp0 kp.partial_correctness bG
theorem HX:aB prog 46 Na Lo:=fn1 x46 Tryz.func46 bG AJ
abbrev Dq4:Pt SN:= .dat .bool
def iU:Cut SN:=⟨[(2,Dq4)],[]⟩
def OV:aE vw:={rcut:=iU}
abbrev I8:Pt SN:= .dat (.st .myFuncT)
def Nb:Sig vw:=sg [I8] iU [.tmp 2]
noncomputable def L8(v:af×Unit):Option (Bool×Unit):=some ((decide (v.1.places>200),()))
def x48:Xc vw:=mX prog 6 c0 OV [] [] []
theorem HY:aB prog 48 Nb L8:=fn0 x48 Tryz.func48 bG
def vk:Cut SN:=⟨[(0,Dq3),(1, .fn 48 [] []),(7,Dq1),(8,Dq1)],[]⟩
def iZ:Cut SN:=⟨[],[]⟩
def bj:Cut SN:=⟨[(4,Dq1)],[]⟩
def Is:aE vw:=shL [(0,iZ)] bj
def EM:Sig vw:=sg [Dq3, .fn 48 [] []] bj [.tmp 4]
abbrev LA:=(List af)×Int×Int×Unit
noncomputable def dl(v:LA):Option (((Int×Unit)⊕(Unit))):=if decide (v.2.2.1<v.2.1)=true then if 0<=v.2.2.1 then v.1[v.2.2.1.toNat]?>>=λx1=>L8 (x1,())>>=λx2=>if x2.1=true then some (Rv v.2.2)else dl (v.1,v.2.1,i64.wrap (v.2.2.1+1),())else none else some (Sf ()) partial_fixpoint
noncomputable def uf(v:(List af)×Unit):Option (Int×Unit):=dl (v.1,(↑v.1.length:Int),(0:Int),())>>=λx1=>match x1 with| .inl y1=>some y1| .inr y1=>some (((-1:Int),()))
def mc:=kP HY k0
def GQ:Xc vw:=mX prog 19 mc.1 Is [] [] [(2,⟨vk,[.ret, .exit 0],dl⟩)]
theorem r7:oe GQ (bE (aO Tryz.f65) 0) ⟨vk,[.ret, .exit 0],dl⟩:=lp0 dl.partial_correctness mc.2
theorem xx:aB prog 65 EM uf:=fn1 GQ Tryz.func65 mc.2 r7
def cE:Cut SN:=⟨[(4,Dq4)],[]⟩
def Ir:aE vw:={rcut:=cE}
def EL:Sig vw:=sg [Dq3, .fn 48 [] []] cE [.tmp 4]
noncomputable def qB(v:(List af)×Unit):Option (Bool×Unit):=uf v>>=λx1=>some ((decide (x1.1>=0),()))
def rv:=kP xx k0
def Lb:Xc vw:=mX prog 9 rv.1 Ir [] [] []
theorem xw:aB prog 47 EL qB:=fn0 Lb Tryz.func47 rv.2
abbrev Ld:Pt SN:= .dat (.int .u8)
def F1:Cut SN:=⟨[(0, .bp 0 0),(1, .bp 1 0),(2,Ld)],[(0, .bar 256 (.int .u8)),(1, .bar 256 (.int .u8))]⟩
def F2:Cut SN:=⟨[(0, .bp 0 0),(1, .bp 1 0),(3,Ld)],[(0, .bar 256 (.int .u8)),(1, .bar 256 (.int .u8))]⟩
def F0:Cut SN:=⟨[(0, .bp 0 0),(1, .bp 1 0)],[(0, .bar 256 (.int .u8)),(1, .bar 256 (.int .u8))]⟩
def Js:Cut SN:=⟨[(0, .bp 0 0)],[(0, .bar 256 (.int .u8))]⟩
def Mv:aE vw:=shL [(0,F0),(2,F0)] Js
def KK:Sig vw:=sg [] Js [.cell 0 179]
abbrev Tq8:=Int×(List Int)×(List Int)×Unit
noncomputable def iK(v:Tq8):Option (((List Int)×(List Int)×Unit)):=if decide (v.1<=122)=true then if 0<=v.1/\v.1<(↑(256:Nat):Int)then if v.1.toNat<(256:Nat)then if v.1.toNat<v.2.2.1.length then if 0<=u8.wrap (u8.wrap (v.1-97)+65)/\u8.wrap (u8.wrap (v.1-97)+65)<(↑(256:Nat):Int)then if(u8.wrap (u8.wrap (v.1-97)+65)).toNat<(256:Nat)then if(u8.wrap (u8.wrap (v.1-97)+65)).toNat<(v.2.2.1.set v.1.toNat (2:Int)).length then iK (u8.wrap (v.1+1),v.2.1,(v.2.2.1.set v.1.toNat (2:Int)).set (u8.wrap (u8.wrap (v.1-97)+65)).toNat (2:Int),())else none else none else none else none else none else none else some (v.2) partial_fixpoint
noncomputable def iL(v:Tq8):Option (((List Int)×(List Int)×Unit)):=if decide (v.1<=57)=true then if 0<=v.1/\v.1<(↑(256:Nat):Int)then if v.1.toNat<(256:Nat)then if v.1.toNat<v.2.2.1.length then iL (u8.wrap (v.1+1),v.2.1,v.2.2.1.set v.1.toNat (3:Int),())else none else none else none else some (v.2) partial_fixpoint
noncomputable def DG(v:Unit):Option ((List Int)×Unit):=iK ((97:Int),QL (256:Nat) (0:Int),(((QL (256:Nat) (0:Int)).set (QY 32) (1:Int)).set (QY 10) (1:Int)).set (QY 95) (2:Int),())>>=λx1=>iL ((48:Int),x1)>>=λx2=>some (x2.2)
def NQ:Xc vw:=mX prog 24 c0 Mv [] [] [(4,⟨F1,[.exit 0],iK⟩),(8,⟨F2,[.exit 2],iL⟩)]
theorem xk:oe NQ (bE (aO Tryz.f146) 0) ⟨F1,[.exit 0],iK⟩:=lp0 iK.partial_correctness bG
theorem xl:oe NQ (bE (aO Tryz.f146) 1) ⟨F2,[.exit 2],iL⟩:=lp0 iL.partial_correctness bG
theorem DH:aB prog 146 KK DG:=fn2 NQ Tryz.func146 bG xk xl
abbrev Dq6:Pt SN:= .dat .str
def ma:Cut SN:=⟨[(0, .bp 100000 0),(1,Dq6),(5,Dq1)],[(100000, .bar 256 (.int .u8))]⟩
def tH:Cut SN:=⟨[(0, .bp 100000 0),(1,Dq6),(5,Dq1),(19,Dq4)],[(100000, .bar 256 (.int .u8))]⟩
def tG:Cut SN:=⟨[(0, .bp 100000 0),(5,Dq1)],[(100000, .bar 256 (.int .u8))]⟩
def oJ:Cut SN:=⟨[(0, .bp 100000 0),(4,Dq1)],[(100000, .bar 256 (.int .u8))]⟩
def xY:aE vw:=shL [(0,tG)] oJ
def uH:Sig vw:={params:=[.bp 100000 0,Dq6],objs:=[(100000, .bar 256 (.int .u8))],rcut:=oJ,rvars:=[.tmp 4],keep:=[100000]}
noncomputable def co(v:ByteArray×Int×(List Int)×Unit):Option ((Int×(List Int)×Unit)):=(if decide (v.2.1<(↑v.1.size:Int))=true then if 0<=v.2.1 then v.1[v.2.1.toNat]?>>=λx1=>if 0<=(↑x1.toNat:Int)/\(↑x1.toNat:Int)<(↑(256:Nat):Int)then if(↑x1.toNat:Int).toNat<(256:Nat)then v.2.2.1[(↑x1.toNat:Int).toNat]?>>=λx2=>some ((v.1,v.2.1,decide (x2>=2),v.2.2))else none else none else none else some (v.1,v.2.1,false,v.2.2))>>=λx1=>if x1.2.2.1=true then co (x1.1,i64.wrap (x1.2.1+1),x1.2.2.2)else some (x1.2.1,x1.2.2.2) partial_fixpoint
noncomputable def j3(v:ByteArray×(List Int)×Unit):Option (Int×(List Int)×Unit):=co (v.1,(0:Int),v.2)>>=λx1=>some (x1)
def s7:Xc vw:=mX prog 23 c0 xY [] [(2,tH)] [(2,⟨ma,[.exit 0],co⟩)]
theorem nq:oe s7 (bE (aO Tryz.f147) 0) ⟨ma,[.exit 0],co⟩:=lp0 co.partial_correctness bG
theorem qz:aB prog 147 uH j3:=fn1 s7 Tryz.func147 bG nq
def Mg:aE vw:={rcut:=iU}
def Kw:Sig vw:=sg [Dq6] iU [.tmp 2]
noncomputable def Do(v:ByteArray×Unit):Option (Bool×Unit):=DG ()>>=λx1=>(if(!v.1.toList==(Qa #[]).toList)=true then v.1[QY 0]?>>=λx2=>if 0<=(↑x2.toNat:Int)/\(↑x2.toNat:Int)<(↑(256:Nat):Int)then if(↑x2.toNat:Int).toNat<(256:Nat)then x1.1[(↑x2.toNat:Int).toNat]?>>=λx3=>if(x3==2)=true then j3 (v.1,x1)>>=λx4=>some ((x4.1==(↑v.1.size:Int),()))else some ((false,()))else none else none else some ((false,())))>>=λx2=>some (x2)
def yY:=kP DH (kO qz k0)
def Ps:Xc vw:=mX prog 21 yY.1 Mg [] [(2,iU)] []
theorem Dp:aB prog 113 Kw Do:=fn0 Ps Tryz.func113 yY.2
abbrev Le:Pt SN:= .dat (.sl .str)
def F4:Cut SN:=⟨[(0,Le),(1,Dq6),(7,Dq1),(8,Dq1)],[]⟩
def MF:aE vw:=shL [(0,iZ)] bj
def KU:Sig vw:=sg [Le,Dq6] bj [.tmp 4]
noncomputable def gd(v:(List ByteArray)×ByteArray×Int×Int×Unit):Option (((Int×Unit)⊕(Unit))):=if decide (v.2.2.2.1<v.2.2.1)=true then if 0<=v.2.2.2.1 then v.1[v.2.2.2.1.toNat]?>>=λx1=>if(v.2.1.toList==x1.toList)=true then some (Rv v.2.2.2)else gd (v.1,v.2.1,v.2.2.1,i64.wrap (v.2.2.2.1+1),())else none else some (Sf ()) partial_fixpoint
noncomputable def HQ(v:(List ByteArray)×ByteArray×Unit):Option (Int×Unit):=gd (v.1,v.2.1,(↑v.1.length:Int),(0:Int),())>>=λx1=>match x1 with| .inl y1=>some y1| .inr y1=>some (((-1:Int),()))
def Oj:Xc vw:=mX prog 19 c0 MF [] [] [(2,⟨F4,[.ret, .exit 0],gd⟩)]
theorem xn:oe Oj (bE (aO Tryz.f162) 0) ⟨F4,[.ret, .exit 0],gd⟩:=lp0 gd.partial_correctness bG
theorem DQ:aB prog 162 KU HQ:=fn1 Oj Tryz.func162 bG xn
def Mw:aE vw:={rcut:=cE}
def KL:Sig vw:=sg [Le,Dq6] cE [.tmp 4]
noncomputable def HM(v:(List ByteArray)×ByteArray×Unit):Option (Bool×Unit):=HQ v>>=λx1=>some ((decide (x1.1>=0),()))
def zf:=kP DQ k0
def PH:Xc vw:=mX prog 9 zf.1 Mw [] [] []
theorem DI:aB prog 148 KL HM:=fn0 PH Tryz.func148 zf.2
def LF:Cut SN:=⟨[(2,Le)],[]⟩
def KM:Sig vw:=sg [Dq6] LF [.tmp 2]
noncomputable def Aw(v:ByteArray×Unit):Option ((List ByteArray)×Unit):=if v.1.size<4294967281/\v.1.data.toList.all (λb=>decide (b.toNat<128))=true then some ((Lib.fields v.1.data.toList).map (λl=>(⟨l.toArray⟩:ByteArray)),())else none
theorem DJ:aB prog 149 KM Aw:=λv r x h hx=>by
 obtain⟨s,u⟩:=v
 unfold Aw at h
 split at h
 ·rename_i hc
  obtain⟨h0,h1⟩:=hc
  simp only at h0 h1
  cases h;cases hx
  exact jX (by kernel_rfl) (lA.newRow (P:=prog) (f:=149) (args:=[.d (.v (.string s))]) (sz:=1) (rows:=((Lib.fields s.data.toList).map λl=>(⟨l.toArray⟩:ByteArray)).map λy=>[D.v (.string y)]) (by kernel_rfl) (λr hr=>by obtain⟨_,_,rfl⟩:=QG.1 hr;rfl) λE M w vs hg hm hv=>by
   obtain⟨v1,rfl,h2⟩:=zU hv
   rw[h2.dv]
   refine(Tryz.strings_Fields s w h0 (λj b hb=>of_decide_eq_true (Qm.1 h1 b (Qk hb))) (B9 hg hm)).mono λe w' ⟨he,hw⟩=>⟨_,_,by rw[he];simp,hw,by simp,λi j r c x hr hx hc=> ?_⟩
   rw[QA,Qc,Qn]at hr
   obtain⟨l,hl,rfl⟩:=hr
   cases j with
   |zero=>
    simp only[RJ,Ri,P8]at hx
    subst hx
    simp only[SP,Q5,RW,Qc,hl,QI,P8]at hc
    subst hc
    exact .v _
   |succ j=>simp at hx)
 ·cases h
def Mh:aE vw:={rcut:=iU}
def Kx:Sig vw:=sg [Dq6] iU [.tmp 2]
noncomputable def Dq(v:ByteArray×Unit):Option (Bool×Unit):=Aw (Qa (([(102:UInt8),(110:UInt8),(32:UInt8),(99:UInt8),(111:UInt8),(110:UInt8),(115:UInt8),(116:UInt8),(32:UInt8),(118:UInt8),(97:UInt8),(114:UInt8),(32:UInt8),(99:UInt8),(111:UInt8),(109:UInt8),(112:UInt8),(116:UInt8),(105:UInt8),(109:UInt8),(101:UInt8),(32:UInt8),(114:UInt8),(101:UInt8),(116:UInt8),(117:UInt8),(114:UInt8),(110:UInt8),(32:UInt8),(101:UInt8),(114:UInt8),(114:UInt8),(111:UInt8),(114:UInt8),(32:UInt8),(105:UInt8),(102:UInt8),(32:UInt8),(101:UInt8),(108:UInt8),(115:UInt8),(101:UInt8)].append [(32:UInt8),(119:UInt8),(104:UInt8),(105:UInt8),(108:UInt8),(101:UInt8),(32:UInt8),(102:UInt8),(111:UInt8),(114:UInt8),(32:UInt8),(105:UInt8),(110:UInt8),(108:UInt8),(105:UInt8),(110:UInt8),(101:UInt8),(32:UInt8),(115:UInt8),(119:UInt8),(105:UInt8),(116:UInt8),(99:UInt8),(104:UInt8),(32:UInt8),(100:UInt8),(101:UInt8),(102:UInt8),(101:UInt8),(114:UInt8),(32:UInt8),(101:UInt8),(114:UInt8),(114:UInt8),(100:UInt8),(101:UInt8),(102:UInt8),(101:UInt8),(114:UInt8),(32:UInt8),(98:UInt8),(114:UInt8)]).append ([(101:UInt8),(97:UInt8),(107:UInt8),(32:UInt8),(99:UInt8),(111:UInt8),(110:UInt8),(116:UInt8),(105:UInt8),(110:UInt8),(117:UInt8),(101:UInt8),(32:UInt8),(103:UInt8),(105:UInt8),(118:UInt8),(101:UInt8),(32:UInt8),(117:UInt8),(110:UInt8),(114:UInt8),(101:UInt8),(97:UInt8),(99:UInt8),(104:UInt8),(97:UInt8),(98:UInt8),(108:UInt8),(101:UInt8),(32:UInt8),(116:UInt8),(114:UInt8),(117:UInt8),(101:UInt8),(32:UInt8),(102:UInt8),(97:UInt8),(108:UInt8),(115:UInt8),(101:UInt8),(32:UInt8),(97:UInt8)].append [(110:UInt8),(100:UInt8),(32:UInt8),(111:UInt8),(114:UInt8),(32:UInt8),(116:UInt8),(114:UInt8),(121:UInt8),(32:UInt8),(99:UInt8),(97:UInt8),(116:UInt8),(99:UInt8),(104:UInt8),(32:UInt8),(111:UInt8),(114:UInt8),(101:UInt8),(108:UInt8),(115:UInt8),(101:UInt8),(32:UInt8),(100:UInt8),(111:UInt8),(32:UInt8),(118:UInt8),(111:UInt8),(105:UInt8),(100:UInt8),(32:UInt8),(98:UInt8),(111:UInt8),(111:UInt8),(108:UInt8),(32:UInt8),(116:UInt8),(121:UInt8),(112:UInt8),(101:UInt8),(32:UInt8),(95:UInt8)])).toArray,())>>=λx1=>HM (x1.1,v)>>=λx2=>some (x2)
def yZ:=kP DI (kP DJ k0)
def Pu:Xc vw:=mX prog 6 yZ.1 Mh [] [] []
theorem Dr:aB prog 114 Kx Dq:=fn0 Pu Tryz.func114 yZ.2
def MG:aE vw:={rcut:=iU}
def KV:Sig vw:=sg [Dq1] iU [.tmp 2]
noncomputable def HR(v:Int×Unit):Option (Bool×Unit):=(if decide (v.1>=2)=true then some ((decide (v.1<=16),()))else some ((false,())))>>=λx1=>some (x1)
def PP:Xc vw:=mX prog 9 c0 MG [] [(1,iU)] []
theorem DR:aB prog 165 KV HR:=fn0 PP Tryz.func165 bG
def MX:aE vw:={rcut:=cE}
def K2:Sig vw:=sg [Dq6,Dq6] cE [.tmp 4]
noncomputable def HV(v:ByteArray×ByteArray×Unit):Option (Bool×Unit):=(if decide ((↑v.1.size:Int)>=(↑v.2.1.size:Int))=true then if(0:Int)<=0/\0<=(↑v.2.1.size:Int)/\(↑v.2.1.size:Int)<=(↑v.1.size:Int)then some (((v.1.extract (QY 0) (↑v.2.1.size:Int).toNat).toList==v.2.1.toList,()))else none else some ((false,())))>>=λx1=>some (x1)
def P7:Xc vw:=mX prog 18 c0 MX [] [(1,cE)] []
theorem Eb:aB prog 193 K2 HV:=fn0 P7 Tryz.func193 bG
def wM:Cut SN:=⟨[(4,Dq6)],[]⟩
def MN:aE vw:={rcut:=wM}
def K0:Sig vw:=sg [Dq6,Dq6] wM [.tmp 4]
noncomputable def HT(v:ByteArray×ByteArray×Unit):Option (ByteArray×Unit):=HV v>>=λx1=>if x1.1=true then if 0<=(↑v.2.1.size:Int)/\(↑v.2.1.size:Int)<=(↑v.1.size:Int)/\(↑v.1.size:Int)<=(↑v.1.size:Int)then some ((v.1.extract (↑v.2.1.size:Int).toNat (↑v.1.size:Int).toNat,()))else none else some ((v.1,()))
def zm:=kP Eb k0
def PX:Xc vw:=mX prog 13 zm.1 MN [] [] []
theorem DX:aB prog 176 K0 HT:=fn0 PX Tryz.func176 zm.2
def MH:aE vw:={rcut:=wM}
def KW:Sig vw:=sg [Dq6,Dq6] wM [.tmp 4]
noncomputable def DS(v:ByteArray×ByteArray×Unit):Option (ByteArray×Unit):=HT v>>=λx1=>some (x1)
def zj:=kP DX k0
def PQ:Xc vw:=mX prog 8 zj.1 MH [] [] []
theorem DT:aB prog 166 KW DS:=fn0 PQ Tryz.func166 zj.2
def K1:Sig vw:=sg [Dq6,Ld] bj [.tmp 4]
noncomputable def HU(v:ByteArray×Int×Unit):Option (Int×Unit):=some (Lib.indexByte v.1.data.toList v.2.1.toNat.toUInt8,())
theorem DY:aB prog 177 K1 HU:=λv r x h hx=>by
 obtain⟨s,c,u⟩:=v
 cases h;cases hx
 exact jX (by kernel_rfl) (lA.pure (P:=prog) (f:=177) (args:=[.d (.v (.string s)), .d (.v (.int .u8 c))]) (r:= .d (.v (.int .i64 (Lib.indexByte s.data.toList c.toNat.toUInt8)))) (by kernel_rfl) λE M w vs _ _ hv=>by
  obtain⟨v1,v2,rfl,h1,h2⟩:=zV hv
  rw[h1.dv,h2.dv]
  exact(Tryz.stringslite_IndexByte s c w).mono λe w' ⟨he,hw⟩=>⟨_,he, .d (.v _),hw▸Go.RowKit.Below.refl _ _⟩)
def MI:aE vw:={rcut:=bj}
def KX:Sig vw:=sg [Dq6,Ld] bj [.tmp 4]
noncomputable def HS(v:ByteArray×Int×Unit):Option (Int×Unit):=HU v>>=λx1=>some (x1)
def zk:=kP DY k0
def PR:Xc vw:=mX prog 8 zk.1 MI [] [] []
theorem DU:aB prog 167 KX HS:=fn0 PR Tryz.func167 zk.2
def oK:Cut SN:=⟨[(0,Dq1),(1,Dq1),(5,Dq6)],[]⟩
def JC:Cut SN:=⟨[(0,Dq1),(5,Dq6)],[]⟩
def EK:aE vw:=shL [(0,JC)] wM
def gq:Sig vw:=sg [Dq1,Dq1] wM [.tmp 4]
abbrev Tq9:=Int×Int×ByteArray×Unit
noncomputable def cv(v:Tq9):Option ((Int×ByteArray×Unit)):=if decide (v.1>=v.2.1)=true then if v.2.1=0 then none else if 0<=v.1.tmod v.2.1 then(Qa #[48,49,50,51,52,53,54,55,56,57,97,98,99,100,101,102])[(v.1.tmod v.2.1).toNat]?>>=λx1=>if(Bs.enc1 (↑x1.toNat:Int)).size+v.2.2.1.size<=4294967296 then if v.2.1=0 then none else cv (i64.wrap (v.1.tdiv v.2.1),v.2.1,Bs.enc1 (↑x1.toNat:Int)++v.2.2.1,())else none else none else some (v.1,v.2.2) partial_fixpoint
noncomputable def oq(v:Int×Int×Unit):Option (ByteArray×Unit):=if decide (v.1<0)=true then oq (i64.wrap ((0:Int) -v.1),v.2)>>=λx1=>if(Qa #[45]).size+x1.1.size<=4294967296 then some ((Qa #[45]++x1.1,()))else none else cv (v.1,v.2.1,Qa #[],())>>=λx1=>if 0<=x1.1 then(Qa #[48,49,50,51,52,53,54,55,56,57,97,98,99,100,101,102])[x1.1.toNat]?>>=λx2=>if(Bs.enc1 (↑x2.toNat:Int)).size+x1.2.1.size<=4294967296 then some ((Bs.enc1 (↑x2.toNat:Int)++x1.2.1,()))else none else none partial_fixpoint
def tK(cv:Tq9->Option ((Int×ByteArray×Unit)))(oq:Int×Int×Unit->Option (ByteArray×Unit)):cy vw:=λA fid args S k=>match fid with|168=>bM prog gq oq A args S k|_=>none
def wy(cv:Tq9->Option ((Int×ByteArray×Unit)))(oq:Int×Int×Unit->Option (ByteArray×Unit)):Xc vw:={P:=prog,n:=31,call:=tK cv oq,pre:=I6,sh:=EK,loops:=λk=>match k with|4=>some {cut:=oK,alts:=[.exit 0],F:=cv}|_=>none}
abbrev lK(v:Tq9)(r:(Int×ByteArray×Unit)):Prop:=(λv out=>∀C:Ctx,C.P=prog->C.N=31/\Fx C I6->s9 C (bE (aO Tryz.f168) 0) (Go.Tx.aC vw (fz vw oK v)) (CL EK [.exit 0] out)) v r
theorem CY(f0:Tq9->Option ((Int×ByteArray×Unit)))(h0:∀v r,f0 v=some r->lK v r):aZ prog (wy f0 (λ_=>none)).call:=(by
 intro A fid args S dst k r h
 unfold wy tK at h
 simp only at h
 split at h
 ·exact aY ((λv r x h hx=>by cases h)) rfl rfl h
 ·cases h)
theorem EN(f0:Tq9->Option ((Int×ByteArray×Unit)))(h0:∀v r,f0 v=some r->lK v r)(v:Tq9)(r:(Int×ByteArray×Unit))(h:exL (wy f0 (λ_=>none)) (bE (aO Tryz.f168) 0) oK [.exit 0] f0 v=some r):lK v r:=λC hP hN=>nb (X:=wy f0 (λ_=>none)) (b:=(bE (aO Tryz.f168) 0)) hP hN Ty.mixed (CY f0 h0) (gI (X:=wy f0 (λ_=>none)) (c:=(bE (aO Tryz.f168) 0)) (jX (by kernel_rfl:True=tg (il C (wy f0 (λ_=>none))) (bS (bE (aO Tryz.f168) 0))) trivial)) (cut:=oK) (alts:=[.exit 0]) (F:=f0) (λv out h=>h0 v out h C hP hN) h
theorem xo:∀v out,cv v=some out->(λv out=>∀C:Ctx,C.P=prog->C.N=31/\Fx C I6->s9 C (bE (aO Tryz.f168) 0) (Go.Tx.aC vw (fz vw oK v)) (CL EK [.exit 0] out)) v out:=(cv.partial_correctness (motive:=lK) (λf0 h0 v r h=>EN f0 h0 v r (jX (by kernel_rfl) h)))
abbrev vP(v:Int×Int×Unit)(r:ByteArray×Unit):Prop:=(λv r=>∀x,Gv prog gq r=some x->lA prog 168 (encL vw (ce gq v).len (dt gq v).1) (eD (ce gq v).len (ce gq v).own) (ap vw (fz vw gq.rcut r).len x) (eD (fz vw gq.rcut r).len (qk gq r))) v r
theorem JW(f0:Int×Int×Unit->Option (ByteArray×Unit))(h0:∀v r,f0 v=some r->vP v r):aZ prog (wy cv f0).call:=(by
 intro A fid args S dst k r h
 unfold wy tK at h
 simp only at h
 split at h
 ·exact aY ((λv r x h hx=>h0 v r h x hx)) rfl rfl h
 ·cases h)
theorem K5(f0:Int×Int×Unit->Option (ByteArray×Unit))(h0:∀v r,f0 v=some r->vP v r)(v:Int×Int×Unit)(r:ByteArray×Unit)(h:exF (wy cv f0) gq rfl (aO Tryz.f168) v=some r):vP v r:=λx hx=>C7 (X:=wy cv f0) (sig:=gq) rfl Tryz.func168 (c:=aO Tryz.f168) (by kernel_rfl) Tryz.ntmps168 (by kernel_rfl) (by kernel_rfl) rfl Ty.mixed (JW f0 h0) rfl (λC hP hN=>(gI (X:=wy cv f0) (c:=(aO Tryz.f168)) (jX (by kernel_rfl:tg (il C (wy cv f0)) [(bE (aO Tryz.f168) 0)]=tg (il C (wy cv f0)) (bS (aO Tryz.f168))) ⟨na (X:=wy cv f0) (b:=(bE (aO Tryz.f168) 0)) (by kernel_rfl) (show ij C (bE (aO Tryz.f168) 0) (sh:=EK) {cut:=oK,alts:=[.exit 0],F:=cv}fromλv out h=>xo v out h C hP hN),trivial⟩))) h x hx
theorem DV:aB prog 168 gq oq:=λv r x h hx=>(oq.partial_correctness (motive:=vP) (λf0 h0 v r h=>K5 f0 h0 v r (jX (by kernel_rfl) h))) v r h x hx
def F3:Cut SN:=⟨[(0,Dq6),(1,Dq1),(6,Dq1),(7,Dq6),(16,Dq1),(17,Dq1)],[]⟩
def Hd:Cut SN:=⟨[(0,Dq6),(1,Dq1),(6,Dq1)],[]⟩
def Ju:Cut SN:=⟨[(0,Dq6),(1,Dq1),(6,Dq1),(7,Dq6),(9,Dq1),(16,Dq1),(17,Dq1),(31,Dq4)],[]⟩
def He:Cut SN:=⟨[(6,Dq1),(57,Dq4)],[]⟩
def Jt:Cut SN:=⟨[(0,Dq6),(1,Dq1),(6,Dq1),(7,Dq6)],[]⟩
def CW:Cut SN:=⟨[(4,Dq1),(5,Dq1)],[]⟩
def Mx:aE vw:=shL [(0,Jt)] CW
def KN:Sig vw:=sg [Dq6,Dq1] CW [.tmp 4, .tmp 5]
noncomputable def gM(v:ByteArray×Int×Int×ByteArray×Int×Int×Unit):Option (((Int×Int×Unit)⊕(ByteArray×Int×Int×ByteArray×Unit))):=if decide (v.2.2.2.2.2.1<v.2.2.2.2.1)=true then if(0:Int)<=0/\0<=v.2.1/\v.2.1<=(↑(Qa #[48,49,50,51,52,53,54,55,56,57,97,98,99,100,101,102]).size:Int)then if 0<=v.2.2.2.2.2.1 then v.2.2.2.1[v.2.2.2.2.2.1.toNat]?>>=λx1=>HS ((Qa #[48,49,50,51,52,53,54,55,56,57,97,98,99,100,101,102]).extract (QY 0) v.2.1.toNat,(↑x1.toNat:Int),())>>=λx2=>(if decide (x2.1<0)=true then some ((v.1,v.2.1,v.2.2.1,v.2.2.2.1,x2.1,v.2.2.2.2.1,v.2.2.2.2.2.1,true,()))else some ((v.1,v.2.1,v.2.2.1,v.2.2.2.1,x2.1,v.2.2.2.2.1,v.2.2.2.2.2.1,decide (v.2.2.1>1099511627776),())))>>=λx3=>if x3.2.2.2.2.2.2.2.1=true then some (Rv ((0:Int),(2:Int),()))else gM (x3.1,x3.2.1,i64.wrap (i64.wrap (x3.2.2.1 *x3.2.1)+x3.2.2.2.2.1),x3.2.2.2.1,x3.2.2.2.2.2.1,i64.wrap (x3.2.2.2.2.2.2.1+1),())else none else none else some (Sf (v.1,v.2.1,v.2.2.1,v.2.2.2.1,())) partial_fixpoint
noncomputable def DK(v:ByteArray×Int×Unit):Option (Int×Int×Unit):=HR v.2>>=λx1=>if(!x1.1)=true then some (((0:Int),(1:Int),()))else DS (v.1,Qa #[45],())>>=λx2=>gM (v.1,v.2.1,(0:Int),x2.1,(↑x2.1.size:Int),(0:Int),())>>=λx3=>match x3 with| .inl y3=>some y3| .inr y3=>(if decide ((↑y3.2.2.2.1.size:Int)<(↑y3.1.size:Int))=true then some ((y3.1,y3.2.1,i64.wrap ((0:Int) -y3.2.2.1),()))else some ((y3.1,y3.2.1,y3.2.2.1,())))>>=λx4=>(if decide (x4.2.2.1<(-1099511627776:Int))=true then some ((x4.2.2.1,true,()))else if decide (x4.2.2.1>1099511627776)=true then some ((x4.2.2.1,true,()))else oq (x4.2.2.1,x4.2.1,())>>=λx5=>some ((x4.2.2.1,!x5.1.toList==x4.1.toList,())))>>=λx5=>if x5.2.1=true then some (((0:Int),(2:Int),()))else some ((x5.1,(0:Int),()))
def tI:=kP DR (kP DT (kP DU (kP DV k0)))
def Oi:Xc vw:=mX prog 59 tI.1 Mx [(15,Hd,[.norm])] [(9,Ju),(15,He)] [(6,⟨F3,[.ret, .exit 0],gM⟩)]
theorem xm:oe Oi (bE (aO Tryz.f150) 0) ⟨F3,[.ret, .exit 0],gM⟩:=lp0 gM.partial_correctness tI.2
theorem DL:aB prog 150 KN DK:=fn1 Oi Tryz.func150 tI.2 xm
def Jv:Cut SN:=⟨[(10,Dq4)],[]⟩
def My:aE vw:={rcut:=yC}
abbrev wD:Pt SN:= .dat (.st .myIntT)
def KO:Sig vw:=sg [wD] yC [.tmp 2]
noncomputable def nr(v:bn×Unit):Option (Int×Unit):=(if decide (v.1.bits<1)=true then some ((true,()))else some ((decide (v.1.bits>31),())))>>=λx1=>if x1.1=true then some (((1:Int),()))else some (((0:Int),()))
def PI:Xc vw:=mX prog 11 c0 My [] [(1,Jv)] []
theorem hO:aB prog 151 KO nr:=fn0 PI Tryz.func151 bG
def Jj:Cut SN:=⟨[(0,Dq6),(2, .bp 2 0),(19,Dq4)],[(2, .st .myIntT)]⟩
def Jk:Cut SN:=⟨[(2, .bp 2 0),(6, .bp 6 0),(38,Dq4)],[(2, .st .myIntT),(6, .st .myIntT)]⟩
def Jl:Cut SN:=⟨[(2, .bp 2 0),(3,Dq1)],[(2, .st .myIntT)]⟩
def Mi:aE vw:={rcut:=Jl}
def Ky:Sig vw:=sg [Dq6] Jl [.cell 2 135, .tmp 3]
noncomputable def Ds(v:ByteArray×Unit):Option (Int×bn×Unit):=(if decide ((↑v.1.size:Int)<2)=true then some ((v.1,true,bn.mk false (0:Int),()))else v.1[QY 0]?>>=λx1=>if((↑x1.toNat:Int) !=117)=true then v.1[QY 0]?>>=λx2=>some ((v.1,(↑x2.toNat:Int) !=105,bn.mk false (0:Int),()))else some ((v.1,false,bn.mk false (0:Int),())))>>=λx1=>if x1.2.1=true then some (((2:Int),bn.mk false (0:Int),()))else if(0:Int)<=1/\(1:Int)<=(↑x1.1.size:Int)/\(↑x1.1.size:Int)<=(↑x1.1.size:Int)then DK (x1.1.extract (QY 1) (↑x1.1.size:Int).toNat,(10:Int),())>>=λx2=>x1.1[QY 0]?>>=λx3=>(if(x2.2.1 !=0)=true then some ((true,x1.2.2.1,bn.mk ((↑x3.toNat:Int)==105) x2.1,()))else nr (bn.mk ((↑x3.toNat:Int)==105) x2.1,())>>=λx4=>some ((x4.1 !=0,x1.2.2.1,bn.mk ((↑x3.toNat:Int)==105) x2.1,())))>>=λx4=>if x4.1=true then some (((2:Int),bn.mk false (0:Int),()))else some (((0:Int),x4.2.2))else none
def y4:=kP DL (kP hO k0)
def Pv:Xc vw:=mX prog 41 y4.1 Mi [] [(1,Jj),(5,Jk)] []
theorem Dt:aB prog 115 Ky Ds:=fn0 Pv Tryz.func115 y4.2
def LN:Cut SN:=⟨[(0,Dq6),(16,Dq4)],[]⟩
def O0:aE vw:={rcut:=iU}
def Ng:Sig vw:=sg [Dq6] iU [.tmp 2]
noncomputable def I2(v:ByteArray×Unit):Option (Bool×Unit):=(if decide ((↑v.1.size:Int)>8)=true then some ((v.1,true,()))else Do v>>=λx1=>if(!x1.1)=true then some ((v.1,true,()))else Dq v>>=λx2=>some (v.1,x2))>>=λx1=>if x1.2.1=true then some ((false,()))else Ds (x1.1,())>>=λx2=>some ((x2.1 !=0,()))
def Gc:=kP Dp (kP Dr (kP Dt k0))
def x66:Xc vw:=mX prog 24 Gc.1 O0 [] [(1,LN)] []
theorem ug:aB prog 66 Ng I2:=fn0 x66 Tryz.func66 Gc.2
def Hf:Cut SN:=⟨[(6,Dq4)],[]⟩
def O1:aE vw:={rcut:=Hf}
def Nh:Sig vw:=sg [Dq1,Dq1,Dq1] Hf [.tmp 6]
abbrev Ja:=Int×Int×Int×Unit
noncomputable def CG(v:Ja):Option (Bool×Unit):=(if decide (v.1>=v.2.1)=true then some ((decide (v.1<=v.2.2.1),()))else some ((false,())))>>=λx1=>some (x1)
def x67:Xc vw:=mX prog 15 c0 O1 [] [(1,Hf)] []
theorem AM:aB prog 67 Nh CG:=fn0 x67 Tryz.func67 bG
def Mz:aE vw:={rcut:=iU}
def KP:Sig vw:=sg [Dq1] iU [.tmp 2]
noncomputable def HO(v:Int×Unit):Option (Bool×Unit):=(if(v.1==2)=true then some ((true,()))else some ((v.1==3,())))>>=λx1=>some (x1)
def PJ:Xc vw:=mX prog 9 c0 Mz [] [(1,iU)] []
theorem DM:aB prog 152 KP HO:=fn0 PJ Tryz.func152 bG
def CX:Cut SN:=⟨[(2, .bp 2 0)],[(2, .st .myIntT)]⟩
def MA:aE vw:={rcut:=CX}
abbrev GV:Pt SN:= .dat (.st .myTypeT)
def KQ:Sig vw:=sg [GV] CX [.cell 2 135]
noncomputable def HP(v:ak×Unit):Option (bn×Unit):=some ((bn.mk (v.1.base==3) v.1.bits,()))
def PK:Xc vw:=mX prog 9 c0 MA [] [] []
theorem DN:aB prog 153 KQ HP:=fn0 PK Tryz.func153 bG
def Jm:Cut SN:=⟨[(1, .bp 1 0),(33,Dq4)],[(1, .st .myTypeT)]⟩
def Mj:aE vw:={rcut:=iU}
def Kz:Sig vw:=sg [GV] iU [.tmp 2]
noncomputable def Du(v:ak×Unit):Option (Bool×Unit):=(if decide (v.1.base<0)=true then some (true,v)else if decide (v.1.base>5)=true then some (true,v)else if v.1.opt=true then if(v.1.base==0)=true then some (true,v)else if(v.1.base==4)=true then some (true,v)else if v.1.err=true then some (v.1.base==4,v)else some (false,v)else if v.1.err=true then some (v.1.base==4,v)else some (false,v))>>=λx1=>if x1.1=true then some ((false,()))else HO (x1.2.1.base,())>>=λx2=>if x2.1=true then(HP x1.2>>=λx3=>nr x3>>=λx4=>if(x4.1==0)=true then some ((x1.2.1.name0.toList==(Qa #[]).toList,()))else some ((false,())))>>=λx3=>some (x3)else(if(x1.2.1.bits==0)=true then if(x1.2.1.base==5)=true then I2 (x1.2.1.name0,())>>=λx3=>if x3.1=true then some ((true,()))else if(x1.2.1.base !=5)=true then some ((x1.2.1.name0.toList==(Qa #[]).toList,()))else some ((false,()))else if(x1.2.1.base !=5)=true then some ((x1.2.1.name0.toList==(Qa #[]).toList,()))else some ((false,()))else some ((false,())))>>=λx3=>some (x3)
def y7:=kP ug (kP hO (kP DM (kP DN k0)))
def Pw:Xc vw:=mX prog 69 y7.1 Mj [] [(1,Jm),(4,iU),(5,iU)] []
theorem Dv:aB prog 116 Kz Du:=fn0 Pw Tryz.func116 y7.2
def O2:aE vw:={rcut:=yC}
def Ni:Sig vw:=sg [GV] yC [.tmp 2]
noncomputable def Kk(v:ak×Unit):Option (Int×Unit):=Du v>>=λx1=>if(!x1.1)=true then some (((1:Int),()))else some (((0:Int),()))
def Gd:=kP Dv k0
def x68:Xc vw:=mX prog 6 Gd.1 O2 [] [] []
theorem AN:aB prog 68 Ni Kk:=fn0 x68 Tryz.func68 Gd.2
def Ml:aE vw:={rcut:=iU}
def KB:Sig vw:=sg [GV] iU [.tmp 2]
noncomputable def At(v:ak×Unit):Option (Bool×Unit):=(Kk v>>=λx1=>if(x1.1==0)=true then if(!v.1.opt)=true then some ((!v.1.err,()))else some ((false,()))else some ((false,())))>>=λx1=>some (x1)
def y9:=kP AN k0
def Py:Xc vw:=mX prog 16 y9.1 Ml [] [(1,iU)] []
theorem vQ:aB prog 119 KB At:=fn0 Py Tryz.func119 y9.2
def Mk:aE vw:={rcut:=iU}
def KA:Sig vw:=sg [GV] iU [.tmp 2]
noncomputable def xi(v:ak×Unit):Option (Bool×Unit):=(At v>>=λx1=>if x1.1=true then if(v.1.base==2)=true then some ((true,()))else some ((v.1.base==3,()))else some ((false,())))>>=λx1=>some (x1)
def y8:=kP vQ k0
def Px:Xc vw:=mX prog 15 y8.1 Mk [] [(1,iU)] []
theorem Dw:aB prog 118 KA xi:=fn0 Px Tryz.func118 y8.2
def ro:Cut SN:=⟨[(1, .bp 100000 0),(3,Dq4)],[(100000, .box none [Dq6])]⟩
def BB:aE vw:={rcut:=ro}
def yc:Sig vw:={params:=[I8, .bp 100000 0],objs:=[(100000, .box none [Dq6])],rcut:=ro,rvars:=[.tmp 3],keep:=[100000]}
noncomputable def nu(v:af×ByteArray×Unit):Option (Bool×ByteArray×Unit):=some (v.1.name0.toList==v.2.1.toList,v.2)
def Fr:Xc vw:=mX prog 8 c0 BB [] [] []
theorem sa:aB prog 72 yc nu:=fn0 Fr Tryz.func72 bG
def oN:Cut SN:=⟨[(0,Dq3),(1, .fn 72 [] [100000]),(7,Dq1),(8,Dq1)],[(100000, .box none [Dq6])]⟩
def wQ:Cut SN:=⟨[(1, .fn 72 [] [100000])],[(100000, .box none [Dq6])]⟩
def rm:Cut SN:=⟨[(1, .fn 72 [] [100000]),(4,Dq1)],[(100000, .box none [Dq6])]⟩
def Bx:aE vw:=shL [(0,wQ)] rm
def x_:Sig vw:={params:=[Dq3, .fn 72 [] [100000]],objs:=[(100000, .box none [Dq6])],rcut:=rm,rvars:=[.tmp 4],keep:=[100000]}
noncomputable def cM(v:(List af)×Int×Int×ByteArray×Unit):Option (((Int×ByteArray×Unit)⊕(ByteArray×Unit))):=if decide (v.2.2.1<v.2.1)=true then if 0<=v.2.2.1 then v.1[v.2.2.1.toNat]?>>=λx1=>nu (x1,v.2.2.2)>>=λx2=>if x2.1=true then some (Rv (v.2.2.1,x2.2))else cM (v.1,v.2.1,i64.wrap (v.2.2.1+1),x2.2)else none else some (Sf v.2.2.2) partial_fixpoint
noncomputable def nt(v:(List af)×ByteArray×Unit):Option (Int×ByteArray×Unit):=cM (v.1,(↑v.1.length:Int),(0:Int),v.2)>>=λx1=>match x1 with| .inl y1=>some y1| .inr y1=>some (((-1:Int),y1))
def iB:=kO sa k0
def wA:Xc vw:=mX prog 19 iB.1 Bx [] [] [(2,⟨oN,[.ret, .exit 0],cM⟩)]
theorem ov:oe wA (bE (aO Tryz.f65) 0) ⟨oN,[.ret, .exit 0],cM⟩:=lp0 cM.partial_correctness iB.2
theorem r8:aB prog 65 x_ nt:=fn1 wA Tryz.func65 iB.2 ov
def OX:aE vw:={rcut:=bj}
def Nd:Sig vw:=sg [Dq3,Dq6] bj [.tmp 4]
noncomputable def I1(v:(List af)×ByteArray×Unit):Option (Int×Unit):=nt v>>=λx1=>some ((x1.1,()))
def Gb:=kO r8 k0
def x50:Xc vw:=mX prog 8 Gb.1 OX [] [] []
theorem ue:aB prog 50 Nd I1:=fn0 x50 Tryz.func50 Gb.2
def LO:Cut SN:=⟨[(6, .bp 6 0),(8, .bp 8 0),(9, .bp 9 0),(131,Dq4)],[(6, .st .myShapeT),(8, .st .myShapeT),(9, .st .myShapeT)]⟩
def JP:Cut SN:=⟨[(0,Dq3),(4, .bp 4 0),(5, .bp 5 0),(6, .bp 6 0),(8, .bp 8 0),(9, .bp 9 0),(27,Dq1),(50,Dq4)],[(4, .st .myFuncT),(5, .st .myCodeT),(6, .st .myShapeT),(8, .st .myShapeT),(9, .st .myShapeT)]⟩
def JQ:Cut SN:=⟨[(0,Dq3),(4, .bp 4 0),(5, .bp 5 0),(6, .bp 6 0),(8, .bp 8 0),(9, .bp 9 0),(27,Dq1),(76,Dq4)],[(4, .st .myFuncT),(5, .st .myCodeT),(6, .st .myShapeT),(8, .st .myShapeT),(9, .st .myShapeT)]⟩
def JR:Cut SN:=⟨[(0,Dq3),(4, .bp 4 0),(5, .bp 5 0),(6, .bp 6 0),(8, .bp 8 0),(9, .bp 9 0),(27,Dq1),(84,Dq4)],[(4, .st .myFuncT),(5, .st .myCodeT),(6, .st .myShapeT),(8, .st .myShapeT),(9, .st .myShapeT)]⟩
def yW:Cut SN:=⟨[(6, .bp 6 0),(9, .bp 9 0)],[(6, .st .myShapeT),(9, .st .myShapeT)]⟩
def N2:Cut SN:=⟨[(6, .bp 6 0),(7,Dq4)],[(6, .st .myShapeT)]⟩
def O3:aE vw:={rcut:=N2}
abbrev lU:Pt SN:= .dat (.st .myCodeT)
def Nj:Sig vw:=sg [Dq3,I8,lU] N2 [.cell 6 118, .tmp 7]
noncomputable def L9(v:(List af)×af×au×Unit):Option (Bool×aM×Unit):=(if(v.2.2.1.op==0)=true then CG (v.2.2.1.a,(-2147483648:Int),(2147483648:Int),())>>=λx1=>(xi (v.2.2.1.type0,())>>=λx2=>if x2.1=true then some ((aM.mk false false false false,aM.mk x1.1 (aM.mk (v.2.2.1.a==0) (v.2.2.1.b==0) (Mp.ieq v.2.2.1.type0.base (ak.mk (0:Int) (0:Int) (Qa #[]) false false).base&&(Mp.ieq v.2.2.1.type0.bits (ak.mk (0:Int) (0:Int) (Qa #[]) false false).bits&&(Mp.seq v.2.2.1.type0.name0 (ak.mk (0:Int) (0:Int) (Qa #[]) false false).name0&&(Mp.beq v.2.2.1.type0.opt (ak.mk (0:Int) (0:Int) (Qa #[]) false false).opt&&Mp.beq v.2.2.1.type0.err (ak.mk (0:Int) (0:Int) (Qa #[]) false false).err)))) (v.2.2.1.name0.toList==(Qa #[]).toList)).b true (aM.mk (v.2.2.1.a==0) (v.2.2.1.b==0) (Mp.ieq v.2.2.1.type0.base (ak.mk (0:Int) (0:Int) (Qa #[]) false false).base&&(Mp.ieq v.2.2.1.type0.bits (ak.mk (0:Int) (0:Int) (Qa #[]) false false).bits&&(Mp.seq v.2.2.1.type0.name0 (ak.mk (0:Int) (0:Int) (Qa #[]) false false).name0&&(Mp.beq v.2.2.1.type0.opt (ak.mk (0:Int) (0:Int) (Qa #[]) false false).opt&&Mp.beq v.2.2.1.type0.err (ak.mk (0:Int) (0:Int) (Qa #[]) false false).err)))) (v.2.2.1.name0.toList==(Qa #[]).toList)).name0,()))else At (v.2.2.1.type0,())>>=λx3=>if x3.1=true then some ((aM.mk false false false false,aM.mk x1.1 (aM.mk (v.2.2.1.a==0) (v.2.2.1.b==0) (Mp.ieq v.2.2.1.type0.base (ak.mk (0:Int) (0:Int) (Qa #[]) false false).base&&(Mp.ieq v.2.2.1.type0.bits (ak.mk (0:Int) (0:Int) (Qa #[]) false false).bits&&(Mp.seq v.2.2.1.type0.name0 (ak.mk (0:Int) (0:Int) (Qa #[]) false false).name0&&(Mp.beq v.2.2.1.type0.opt (ak.mk (0:Int) (0:Int) (Qa #[]) false false).opt&&Mp.beq v.2.2.1.type0.err (ak.mk (0:Int) (0:Int) (Qa #[]) false false).err)))) (v.2.2.1.name0.toList==(Qa #[]).toList)).b (decide (v.2.2.1.type0.base<=1)) (aM.mk (v.2.2.1.a==0) (v.2.2.1.b==0) (Mp.ieq v.2.2.1.type0.base (ak.mk (0:Int) (0:Int) (Qa #[]) false false).base&&(Mp.ieq v.2.2.1.type0.bits (ak.mk (0:Int) (0:Int) (Qa #[]) false false).bits&&(Mp.seq v.2.2.1.type0.name0 (ak.mk (0:Int) (0:Int) (Qa #[]) false false).name0&&(Mp.beq v.2.2.1.type0.opt (ak.mk (0:Int) (0:Int) (Qa #[]) false false).opt&&Mp.beq v.2.2.1.type0.err (ak.mk (0:Int) (0:Int) (Qa #[]) false false).err)))) (v.2.2.1.name0.toList==(Qa #[]).toList)).name0,()))else some ((aM.mk false false false false,aM.mk x1.1 (aM.mk (v.2.2.1.a==0) (v.2.2.1.b==0) (Mp.ieq v.2.2.1.type0.base (ak.mk (0:Int) (0:Int) (Qa #[]) false false).base&&(Mp.ieq v.2.2.1.type0.bits (ak.mk (0:Int) (0:Int) (Qa #[]) false false).bits&&(Mp.seq v.2.2.1.type0.name0 (ak.mk (0:Int) (0:Int) (Qa #[]) false false).name0&&(Mp.beq v.2.2.1.type0.opt (ak.mk (0:Int) (0:Int) (Qa #[]) false false).opt&&Mp.beq v.2.2.1.type0.err (ak.mk (0:Int) (0:Int) (Qa #[]) false false).err)))) (v.2.2.1.name0.toList==(Qa #[]).toList)).b false (aM.mk (v.2.2.1.a==0) (v.2.2.1.b==0) (Mp.ieq v.2.2.1.type0.base (ak.mk (0:Int) (0:Int) (Qa #[]) false false).base&&(Mp.ieq v.2.2.1.type0.bits (ak.mk (0:Int) (0:Int) (Qa #[]) false false).bits&&(Mp.seq v.2.2.1.type0.name0 (ak.mk (0:Int) (0:Int) (Qa #[]) false false).name0&&(Mp.beq v.2.2.1.type0.opt (ak.mk (0:Int) (0:Int) (Qa #[]) false false).opt&&Mp.beq v.2.2.1.type0.err (ak.mk (0:Int) (0:Int) (Qa #[]) false false).err)))) (v.2.2.1.name0.toList==(Qa #[]).toList)).name0,())))>>=λx2=>some (Rv x2)else(if(v.2.2.1.op==2)=true then some ((v.1,v.2.2.1.op,true,v.2.1,v.2.2.1,aM.mk false false false false,aM.mk (v.2.2.1.a==0) (v.2.2.1.b==0) (Mp.ieq v.2.2.1.type0.base (ak.mk (0:Int) (0:Int) (Qa #[]) false false).base&&(Mp.ieq v.2.2.1.type0.bits (ak.mk (0:Int) (0:Int) (Qa #[]) false false).bits&&(Mp.seq v.2.2.1.type0.name0 (ak.mk (0:Int) (0:Int) (Qa #[]) false false).name0&&(Mp.beq v.2.2.1.type0.opt (ak.mk (0:Int) (0:Int) (Qa #[]) false false).opt&&Mp.beq v.2.2.1.type0.err (ak.mk (0:Int) (0:Int) (Qa #[]) false false).err)))) (v.2.2.1.name0.toList==(Qa #[]).toList),aM.mk (v.2.2.1.a==0) (v.2.2.1.b==0) (Mp.ieq v.2.2.1.type0.base (ak.mk (0:Int) (0:Int) (Qa #[]) false false).base&&(Mp.ieq v.2.2.1.type0.bits (ak.mk (0:Int) (0:Int) (Qa #[]) false false).bits&&(Mp.seq v.2.2.1.type0.name0 (ak.mk (0:Int) (0:Int) (Qa #[]) false false).name0&&(Mp.beq v.2.2.1.type0.opt (ak.mk (0:Int) (0:Int) (Qa #[]) false false).opt&&Mp.beq v.2.2.1.type0.err (ak.mk (0:Int) (0:Int) (Qa #[]) false false).err)))) (v.2.2.1.name0.toList==(Qa #[]).toList),()))else some ((v.1,v.2.2.1.op,v.2.2.1.op==3,v.2.1,v.2.2.1,aM.mk false false false false,aM.mk (v.2.2.1.a==0) (v.2.2.1.b==0) (Mp.ieq v.2.2.1.type0.base (ak.mk (0:Int) (0:Int) (Qa #[]) false false).base&&(Mp.ieq v.2.2.1.type0.bits (ak.mk (0:Int) (0:Int) (Qa #[]) false false).bits&&(Mp.seq v.2.2.1.type0.name0 (ak.mk (0:Int) (0:Int) (Qa #[]) false false).name0&&(Mp.beq v.2.2.1.type0.opt (ak.mk (0:Int) (0:Int) (Qa #[]) false false).opt&&Mp.beq v.2.2.1.type0.err (ak.mk (0:Int) (0:Int) (Qa #[]) false false).err)))) (v.2.2.1.name0.toList==(Qa #[]).toList),aM.mk (v.2.2.1.a==0) (v.2.2.1.b==0) (Mp.ieq v.2.2.1.type0.base (ak.mk (0:Int) (0:Int) (Qa #[]) false false).base&&(Mp.ieq v.2.2.1.type0.bits (ak.mk (0:Int) (0:Int) (Qa #[]) false false).bits&&(Mp.seq v.2.2.1.type0.name0 (ak.mk (0:Int) (0:Int) (Qa #[]) false false).name0&&(Mp.beq v.2.2.1.type0.opt (ak.mk (0:Int) (0:Int) (Qa #[]) false false).opt&&Mp.beq v.2.2.1.type0.err (ak.mk (0:Int) (0:Int) (Qa #[]) false false).err)))) (v.2.2.1.name0.toList==(Qa #[]).toList),())))>>=λx1=>if x1.2.2.1=true then CG (x1.2.2.2.2.1.a,(0:Int),i64.wrap (x1.2.2.2.1.places-1),())>>=λx2=>some (Rv (x1.2.2.2.2.2.1,aM.mk x2.1 x1.2.2.2.2.2.2.2.1.b x1.2.2.2.2.2.2.2.1.kind x1.2.2.2.2.2.2.2.1.name0,()))else if(x1.2.1==5)=true then CG (x1.2.2.2.2.1.a,(5:Int),(17:Int),())>>=λx2=>xi (x1.2.2.2.2.1.type0,())>>=λx3=>some (Rv (x1.2.2.2.2.2.1,aM.mk x2.1 x1.2.2.2.2.2.2.2.1.b x3.1 x1.2.2.2.2.2.2.2.1.name0,()))else if(x1.2.1==6)=true then CG (x1.2.2.2.2.1.a,(18:Int),(23:Int),())>>=λx2=>some (Rv (x1.2.2.2.2.2.1,aM.mk x2.1 x1.2.2.2.2.2.2.2.1.b x1.2.2.2.2.2.2.2.1.kind x1.2.2.2.2.2.2.2.1.name0,()))else(if(x1.2.1==7)=true then some (x1.1,x1.2.1,true,x1.2.2.2)else if(x1.2.1==9)=true then some (x1.1,x1.2.1,true,x1.2.2.2)else some (x1.1,x1.2.1,x1.2.1==10,x1.2.2.2))>>=λx2=>if x2.2.2.1=true then xi (x2.2.2.2.2.1.type0,())>>=λx3=>some (Rv (x2.2.2.2.2.2.1,aM.mk x2.2.2.2.2.2.2.2.1.a x2.2.2.2.2.2.2.2.1.b x3.1 x2.2.2.2.2.2.2.2.1.name0,()))else(if(x2.2.1==12)=true then some (x2.1,x2.2.1,true,x2.2.2.2)else if(x2.2.1==13)=true then some (x2.1,x2.2.1,true,x2.2.2.2)else if(x2.2.1==14)=true then some (x2.1,x2.2.1,true,x2.2.2.2)else some (x2.1,x2.2.1,x2.2.1==15,x2.2.2.2))>>=λx3=>if x3.2.2.1=true then CG (x3.2.2.2.2.1.a,(0:Int),i64.wrap ((↑x3.2.2.2.1.code.length:Int) -1),())>>=λx4=>some (Rv (x3.2.2.2.2.2.1,aM.mk x4.1 x3.2.2.2.2.2.2.2.1.b x3.2.2.2.2.2.2.2.1.kind x3.2.2.2.2.2.2.2.1.name0,()))else if(x3.2.1==16)=true then I1 (x3.1,x3.2.2.2.2.1.name0,())>>=λx4=>(if decide (x4.1>=0)=true then if 0<=x4.1 then x3.1[x4.1.toNat]?>>=λx5=>some ((x3.2.2.2.2.2.1,aM.mk x3.2.2.2.2.2.2.2.1.a (x3.2.2.2.2.1.b==x5.params) x3.2.2.2.2.2.2.2.1.kind (decide (x4.1>=0)),()))else none else some ((x3.2.2.2.2.2.1,aM.mk x3.2.2.2.2.2.2.2.1.a false x3.2.2.2.2.2.2.2.1.kind (decide (x4.1>=0)),())))>>=λx5=>some (Rv x5)else if(x3.2.1==18)=true then I2 (x3.2.2.2.2.1.name0,())>>=λx4=>some (Rv (x3.2.2.2.2.2.1,aM.mk x3.2.2.2.2.2.2.2.1.a x3.2.2.2.2.2.2.2.1.b x3.2.2.2.2.2.2.2.1.kind x4.1,()))else if(x3.2.1==19)=true then CG (x3.2.2.2.2.1.a,(1:Int),(5:Int),())>>=λx4=>some (Rv (x3.2.2.2.2.2.1,aM.mk x4.1 x3.2.2.2.2.2.2.2.1.b x3.2.2.2.2.2.2.2.1.kind x3.2.2.2.2.2.2.2.1.name0,()))else(if(x3.2.1==1)=true then some (true,x3.2.2.2.2.2)else if(x3.2.1==4)=true then some (true,x3.2.2.2.2.2)else if(x3.2.1==8)=true then some (true,x3.2.2.2.2.2)else if(x3.2.1==11)=true then some (true,x3.2.2.2.2.2)else some (x3.2.1==17,x3.2.2.2.2.2))>>=λx4=>if x4.1=true then some (Rv (x4.2.1,x4.2.2.2))else some (Sf (false,x4.2.2.1,())))>>=λx1=>match x1 with| .inl y1=>some (true,y1.2)| .inr y1=>some y1
def Ge:=kP ue (kP ug (kP AM (kP Dw (kP vQ k0))))
def x71:Xc vw:=mX prog 138 Ge.1 O3 [(4,LO,[.norm]),(10,JP,[.norm]),(18,JQ,[.norm]),(23,JR,[.norm]),(36,yW,[.norm, .ret])] [(7,yW),(26,yW)] []
theorem H2:aB prog 71 Nj L9:=fn0 x71 Tryz.func71 Ge.2
def jQ:Cut SN:=⟨[(1, .bp 100000 0),(2, .bp 100001 0),(4,Dq4)],[(100000, .box none [Dq3]),(100001, .st .myFuncT)]⟩
def BA:aE vw:={rcut:=jQ}
def yb:Sig vw:={params:=[lU, .bp 100000 0, .bp 100001 0],objs:=[(100000, .box none [Dq3]),(100001, .st .myFuncT)],rcut:=jQ,rvars:=[.tmp 4],keep:=[100000,100001]}
abbrev NU:=Bool×(List af)×af×Unit
noncomputable def ju(v:au×(List af)×af×Unit):Option (NU):=L9 (v.2.1,v.2.2.1,v.1,())>>=λx1=>(if(!x1.1)=true then some (true,v.2)else some ((!(Mp.beq x1.2.1.a (aM.mk true true true true).a&&(Mp.beq x1.2.1.b (aM.mk true true true true).b&&(Mp.beq x1.2.1.kind (aM.mk true true true true).kind&&Mp.beq x1.2.1.name0 (aM.mk true true true true).name0))),v.2)))>>=λx2=>some (x2)
def me:=kP H2 k0
def Fq:Xc vw:=mX prog 21 me.1 BA [] [(2,jQ)] []
theorem r_:aB prog 70 yb ju:=fn0 Fq Tryz.func70 me.2
abbrev Dq7:Pt SN:= .dat (.sl (.st .myCodeT))
def l_:Cut SN:=⟨[(0,Dq7),(1, .fn 70 [] [100000,100001]),(7,Dq1),(8,Dq1)],[(100000, .box none [Dq3]),(100001, .st .myFuncT)]⟩
def tC:Cut SN:=⟨[(1, .fn 70 [] [100000,100001])],[(100000, .box none [Dq3]),(100001, .st .myFuncT)]⟩
def oF:Cut SN:=⟨[(1, .fn 70 [] [100000,100001]),(4,Dq1)],[(100000, .box none [Dq3]),(100001, .st .myFuncT)]⟩
def xR:aE vw:=shL [(0,tC)] oF
def uB:Sig vw:={params:=[Dq7, .fn 70 [] [100000,100001]],objs:=[(100000, .box none [Dq3]),(100001, .st .myFuncT)],rcut:=oF,rvars:=[.tmp 4],keep:=[100000,100001]}
noncomputable def b9(v:(List au)×Int×Int×(List af)×af×Unit):Option (((Int×(List af)×af×Unit)⊕((List af)×af×Unit))):=if decide (v.2.2.1<v.2.1)=true then if 0<=v.2.2.1 then v.1[v.2.2.1.toNat]?>>=λx1=>ju (x1,v.2.2.2)>>=λx2=>if x2.1=true then some (Rv (v.2.2.1,x2.2))else b9 (v.1,v.2.1,i64.wrap (v.2.2.1+1),x2.2)else none else some (Sf v.2.2.2) partial_fixpoint
abbrev NT:=(List au)×(List af)×af×Unit
noncomputable def jZ(v:NT):Option (Int×(List af)×af×Unit):=b9 (v.1,(↑v.1.length:Int),(0:Int),v.2)>>=λx1=>match x1 with| .inl y1=>some y1| .inr y1=>some (((-1:Int),y1))
def gw:=kO r_ k0
def s6:Xc vw:=mX prog 19 gw.1 xR [] [] [(2,⟨l_,[.ret, .exit 0],b9⟩)]
theorem ni:oe s6 (bE (aO Tryz.f117) 0) ⟨l_,[.ret, .exit 0],b9⟩:=lp0 b9.partial_correctness gw.2
theorem qu:aB prog 117 uB jZ:=fn1 s6 Tryz.func117 gw.2 ni
def rn:Cut SN:=⟨[(1, .fn 70 [] [100000,100001]),(4,Dq4)],[(100000, .box none [Dq3]),(100001, .st .myFuncT)]⟩
def Bz:aE vw:={rcut:=rn}
def ya:Sig vw:={params:=[Dq7, .fn 70 [] [100000,100001]],objs:=[(100000, .box none [Dq3]),(100001, .st .myFuncT)],rcut:=rn,rvars:=[.tmp 4],keep:=[100000,100001]}
noncomputable def js(v:NT):Option (NU):=jZ v>>=λx1=>some ((decide (x1.1>=0),x1.2))
def md:=kO qu k0
def Fp:Xc vw:=mX prog 9 md.1 Bz [] [] []
theorem r9:aB prog 69 ya js:=fn0 Fp Tryz.func69 md.2
def LL:Cut SN:=⟨[(2, .bp 2 0),(3, .bp 3 0),(34,Dq4)],[(2, .box none [Dq3]),(3, .st .myFuncT)]⟩
def OW:aE vw:={rcut:=cE}
def Nc:Sig vw:=sg [Dq3,I8] cE [.tmp 4]
noncomputable def Lp(v:(List af)×af×Unit):Option (Bool×Unit):=(I2 (v.2.1.name0,())>>=λx1=>if(!x1.1)=true then some (true,v)else CG (v.2.1.params,(0:Int),v.2.1.places,())>>=λx2=>if(!x2.1)=true then some (true,v)else if((↑v.2.1.code.length:Int)==0)=true then some (true,v)else Kk (v.2.1.type0,())>>=λx3=>if(x3.1 !=0)=true then some (true,v)else some ((decide (v.2.1.type0.base>=4),v)))>>=λx1=>if x1.1=true then some ((false,()))else js (x1.2.2.1.code,x1.2)>>=λx2=>some ((!x2.1,()))
def Ga:=kP ug (kP AM (kP AN (kO r9 k0)))
def x49:Xc vw:=mX prog 40 Ga.1 OW [] [(1,LL)] []
theorem HZ:aB prog 49 Nc Lp:=fn0 x49 Tryz.func49 Ga.2
def JG:Cut SN:=⟨[(0,Dq3),(17,Dq3),(18,Dq1),(19,Dq1)],[]⟩
def LI:Cut SN:=⟨[(0,Dq3),(16,Dq4)],[]⟩
def LJ:Cut SN:=⟨[(0,Dq3),(17,Dq3),(18,Dq1),(19,Dq1),(35,Dq4)],[]⟩
def OR:aE vw:=shL [(0,iZ)] yC
def M9:Sig vw:=sg [Dq3] yC [.tmp 2]
noncomputable def ko(v:(List af)×(List af)×Int×Int×Unit):Option (((Int×Unit)⊕(Unit))):=if decide (v.2.2.2.1<v.2.2.1)=true then if 0<=v.2.2.2.1 then v.2.1[v.2.2.2.1.toNat]?>>=λx1=>(Lp (v.1,x1,())>>=λx2=>if(!x2.1)=true then some ((v.1,v.2.1,v.2.2.1,v.2.2.2.1,true,()))else I1 (v.1,x1.name0,())>>=λx3=>some ((v.1,v.2.1,v.2.2.1,v.2.2.2.1,x3.1 !=v.2.2.2.1,())))>>=λx2=>if x2.2.2.2.2.1=true then some (Rv ((1:Int),()))else ko (x2.1,x2.2.1,x2.2.2.1,i64.wrap (x2.2.2.2.1+1),())else none else some (Sf ()) partial_fixpoint
noncomputable def I0(v:(List af)×Unit):Option (Int×Unit):=(if decide ((↑v.1.length:Int)>48)=true then some ((v.1,true,()))else Lo v>>=λx1=>if decide (x1.1>2000)=true then some ((v.1,true,()))else qB v>>=λx2=>some (v.1,x2))>>=λx1=>if x1.2.1=true then some (((3:Int),()))else ko (x1.1,x1.1,(↑x1.1.length:Int),(0:Int),())>>=λx2=>match x2 with| .inl y2=>some y2| .inr y2=>some (((0:Int),()))
def zp:=kP HX (kP xw (kP HZ (kP ue k0)))
def x37:Xc vw:=mX prog 37 zp.1 OR [] [(1,LI),(6,LJ)] [(4,⟨JG,[.ret, .exit 0],ko⟩)]
theorem AF:oe x37 (bE (aO Tryz.f37) 0) ⟨JG,[.ret, .exit 0],ko⟩:=lp0 ko.partial_correctness zp.2
theorem ud:aB prog 37 M9 I0:=fn1 x37 Tryz.func37 zp.2 AF
def wR:Cut SN:=⟨[(0,Dq1),(1, .bp 100000 0),(9,Dq4)],[(100000, .box none [Dq1])]⟩
def rq:Cut SN:=⟨[(1, .bp 100000 0)],[(100000, .box none [Dq1])]⟩
def BC:aE vw:={rcut:=rq}
def yd:Sig vw:={params:=[Dq1, .bp 100000 0],objs:=[(100000, .box none [Dq1])],rcut:=rq,rvars:=[],keep:=[100000]}
noncomputable def fM(v:Int×Int×Unit):Option (Int×Unit):=(if decide (v.2.1<0)=true then some (v.1,true,v.2)else some ((v.1,decide (v.1<v.2.1),v.2)))>>=λx1=>if x1.2.1=true then some ((x1.1,()))else some (x1.2.2)
def Fs:Xc vw:=mX prog 11 c0 BC [] [(0,wR)] []
theorem sb:aB prog 73 yd fM:=fn0 Fs Tryz.func73 bG
abbrev FT:OPt SN:= .que 123 (.st .pointT)
def ru:Cut SN:=⟨[(1, .bp 100000 0),(2, .bp 100001 0)],[(100000, .box none [.mp 100002]),(100001, .box none [.vh 3010]),(100002, .map (.st .pointT) .bool),(3010,FT)]⟩
def BD:aE vw:={rcut:=ru}
def ye:Sig vw:={params:=[.dat (.st .pointT), .bp 100000 0, .bp 100001 0],objs:=[(100000, .box none [.mp 100002]),(100001, .box none [.vh 100003]),(100002, .map (.st .pointT) .bool),(100003,FT)],rcut:=ru,rvars:=[],keep:=[100000,100001,100002,3010]}
noncomputable def eJ(v:ay×(List (ay×Bool))×(List ay)×Unit):Option ((List (ay×Bool))×(List ay)×Unit):=if(!(Mp.get (λx y=>Mp.ieq x.at0 y.at0&&Mp.ieq x.height y.height) v.1 v.2.1).getD false)=true then if v.2.2.1.length+[v.1].length<=4294967296 then some ((Mp.set (λx y=>Mp.ieq x.at0 y.at0&&Mp.ieq x.height y.height) (λx x_1=>false) v.1 true v.2.1,v.2.2.1++[v.1],()))else none else some (v.2)
def Ft:Xc vw:=mX prog 14 c0 BD [] [] []
theorem sc:aB prog 74 ye eJ:=fn0 Ft Tryz.func74 bG
def LP:Cut SN:=⟨[(1, .bp 1 0),(2, .bp 2 0),(4,Dq1),(5,Dq4)],[(1, .st .myCodeT),(2, .st .stepT)]⟩
def JS:Cut SN:=⟨[(1, .bp 1 0),(2, .bp 2 0),(4,Dq1),(11,Dq4)],[(1, .st .myCodeT),(2, .st .stepT)]⟩
def JT:Cut SN:=⟨[(1, .bp 1 0),(2, .bp 2 0),(4,Dq1),(16,Dq4)],[(1, .st .myCodeT),(2, .st .stepT)]⟩
def JU:Cut SN:=⟨[(2, .bp 2 0),(4,Dq1),(25,Dq4)],[(2, .st .stepT)]⟩
def N3:Cut SN:=⟨[(2, .bp 2 0)],[(2, .st .stepT)]⟩
def O4:aE vw:={rcut:=N3}
def Nk:Sig vw:=sg [lU] N3 [.cell 2 130]
noncomputable def Lr(v:au×Unit):Option (jM×Unit):=(if(v.1.op==0)=true then some ((v.1.op,true,v.1,jM.mk (0:Int) (0:Int) false,()))else if(v.1.op==1)=true then some ((v.1.op,true,v.1,jM.mk (0:Int) (0:Int) false,()))else if(v.1.op==2)=true then some ((v.1.op,true,v.1,jM.mk (0:Int) (0:Int) false,()))else some ((v.1.op,v.1.op==18,v.1,jM.mk (0:Int) (0:Int) false,())))>>=λx1=>if x1.2.1=true then some ((jM.mk (0:Int) (1:Int) true,()))else(if(x1.1==3)=true then some (x1.1,true,x1.2.2)else if(x1.1==4)=true then some (x1.1,true,x1.2.2)else some (x1.1,x1.1==15,x1.2.2))>>=λx2=>if x2.2.1=true then some ((jM.mk (1:Int) (0:Int) true,()))else(if(x2.1==5)=true then some (x2.1,true,x2.2.2)else some (x2.1,x2.1==6,x2.2.2))>>=λx3=>if x3.2.1=true then some ((jM.mk (2:Int) (1:Int) true,()))else if(x3.1==16)=true then some ((jM.mk x3.2.2.1.b (1:Int) true,()))else(if(x3.1==14)=true then some (x3.1,true,x3.2.2.2)else some (x3.1,x3.1==19,x3.2.2.2))>>=λx4=>if x4.2.1=true then some ((jM.mk (0:Int) (0:Int) false,()))else if(x4.1==17)=true then some ((jM.mk (1:Int) (0:Int) false,()))else some ((jM.mk (1:Int) (1:Int) true,()))
def x75:Xc vw:=mX prog 33 c0 O4 [(6,LP,[.norm]),(10,JS,[.norm]),(13,JT,[.norm]),(18,JU,[.norm])] [] []
theorem H3:aB prog 75 Nk Lr:=fn0 x75 Tryz.func75 bG
def O5:aE vw:={rcut:=iU}
def Nl:Sig vw:=sg [Dq1] iU [.tmp 2]
noncomputable def Ls(v:Int×Unit):Option (Bool×Unit):=(if(v.1==12)=true then some ((true,()))else if(v.1==13)=true then some ((true,()))else if(v.1==14)=true then some ((true,()))else some ((v.1==15,())))>>=λx1=>if x1.1=true then some ((true,()))else some ((false,()))
def x76:Xc vw:=mX prog 9 c0 O5 [(6,cE,[.norm])] [] []
theorem H4:aB prog 76 Nl Ls:=fn0 x76 Tryz.func76 bG
def JM:Cut SN:=⟨[(1, .bp 1 0),(4, .bp 4 0),(5, .mp 20),(6, .bp 6 0),(7, .bp 7 0),(8, .fn 73 [] [7]),(9, .fn 74 [] [4,6])],[(1, .st .myFuncT),(4, .box none [.mp 17]),(20, .map (.int .i64) (.int .i64)),(6, .box none [.vh 3060]),(7, .box none [Dq1]),(17, .map (.st .pointT) .bool),(3060,FT)]⟩
def JJ:Cut SN:=⟨[(1, .bp 1 0),(4, .bp 4 0),(5, .mp 20),(6, .bp 6 0),(7, .bp 7 0),(8, .fn 73 [] [7]),(9, .fn 74 [] [4,6]),(10, .bp 10 0)],[(1, .st .myFuncT),(4, .box none [.mp 17]),(20, .map (.int .i64) (.int .i64)),(6, .box none [.vh 3060]),(7, .box none [Dq1]),(10, .st .pointT),(17, .map (.st .pointT) .bool),(3060,FT)]⟩
def JK:Cut SN:=⟨[(1, .bp 1 0),(4, .bp 4 0),(5, .mp 20),(6, .bp 6 0),(7, .bp 7 0),(8, .fn 73 [] [7]),(9, .fn 74 [] [4,6]),(10, .bp 10 0),(13, .bp 13 0),(14, .bp 14 0),(15,Dq1),(16,Dq1)],[(1, .st .myFuncT),(4, .box none [.mp 17]),(20, .map (.int .i64) (.int .i64)),(6, .box none [.vh 3060]),(7, .box none [Dq1]),(10, .st .pointT),(13, .st .myCodeT),(14, .st .stepT),(17, .map (.st .pointT) .bool),(3060,FT)]⟩
def JL:Cut SN:=⟨[(1, .bp 1 0),(4, .bp 4 0),(5, .mp 20),(6, .bp 6 0),(7, .bp 7 0),(8, .fn 73 [] [7]),(9, .fn 74 [] [4,6]),(10, .bp 10 0),(14, .bp 14 0),(15,Dq1)],[(1, .st .myFuncT),(4, .box none [.mp 17]),(20, .map (.int .i64) (.int .i64)),(6, .box none [.vh 3060]),(7, .box none [Dq1]),(10, .st .pointT),(14, .st .stepT),(17, .map (.st .pointT) .bool),(3060,FT)]⟩
def JN:Cut SN:=⟨[(1, .bp 1 0),(4, .bp 4 0),(5, .mp 20),(6, .bp 6 0),(7, .bp 7 0),(8, .fn 73 [] [7]),(9, .fn 74 [] [4,6]),(10, .bp 10 0),(46,Dq4)],[(1, .st .myFuncT),(4, .box none [.mp 17]),(20, .map (.int .i64) (.int .i64)),(6, .box none [.vh 3060]),(7, .box none [Dq1]),(10, .st .pointT),(17, .map (.st .pointT) .bool),(3060,FT)]⟩
def JO:Cut SN:=⟨[(1, .bp 1 0),(4, .bp 4 0),(5, .mp 20),(6, .bp 6 0),(7, .bp 7 0),(8, .fn 73 [] [7]),(9, .fn 74 [] [4,6]),(10, .bp 10 0),(13, .bp 13 0),(14, .bp 14 0),(73,Dq4)],[(1, .st .myFuncT),(4, .box none [.mp 17]),(20, .map (.int .i64) (.int .i64)),(6, .box none [.vh 3060]),(7, .box none [Dq1]),(10, .st .pointT),(13, .st .myCodeT),(14, .st .stepT),(17, .map (.st .pointT) .bool),(3060,FT)]⟩
def LM:Cut SN:=⟨[(4, .bp 4 0),(7, .bp 7 0)],[(4, .box none [.mp 17]),(7, .box none [Dq1]),(17, .map (.st .pointT) .bool)]⟩
def N0:Cut SN:=⟨[(2, .mp 2002),(3,Dq1)],[(2002, .map (.st .pointT) .bool)]⟩
def OY:aE vw:=shL [(0,LM)] N0
def Md:Nat->Bool:=λk=>match k with|6000022=>true|_=>false
def Nf:Sig vw:={params:=[I8],rcut:=N0,rvars:=[.tmp 2, .tmp 3],keep:=[2002]}
noncomputable def dQ(v:af×(List (Int×Int))×Int×(List (ay×Bool))×(List ay)×Unit):Option ((Int×(List (ay×Bool))×Unit)):=if decide ((↑v.2.2.2.2.1.length:Int)>0)=true then if(0:Int)<=0/\0<(↑v.2.2.2.2.1.length:Int)then v.2.2.2.2.1[QY 0]?>>=λx1=>if(1:Int)<=(↑v.2.2.2.2.1.length:Int)then((if(Mp.get Mp.ieq x1.at0 v.2.1).isSome=true then some (((Mp.get Mp.ieq x1.at0 v.2.1).getD (0:Int) !=x1.height,v.1,v.2.1,v.2.2.1,x1,v.2.2.2.1,Sm (QY 1) v.2.2.2.2.1,()))else some ((false,v.1,v.2.1,v.2.2.1,x1,v.2.2.2.1,Sm (QY 1) v.2.2.2.2.1,())))>>=λx2=>if x2.1=true then fM (x2.2.2.2.2.1.at0,x2.2.2.2.1,())>>=λx3=>some (x2.2.1,x2.2.2.1,x3.1,x2.2.2.2.2)else some (x2.2))>>=λx2=>if 0<=x2.2.2.2.1.at0 then x2.1.code[x2.2.2.2.1.at0.toNat]?>>=λx3=>Lr (x3,())>>=λx4=>(if decide (x2.2.2.2.1.height<x4.1.takes)=true then some (true,x2.1,Mp.set Mp.ieq Mp.ilt x2.2.2.2.1.at0 x2.2.2.2.1.height x2.2.1,x2.2.2.1,x2.2.2.2.1,x3,x4.1,x2.2.2.2.2)else some ((decide (x2.2.2.2.1.height>64),x2.1,Mp.set Mp.ieq Mp.ilt x2.2.2.2.1.at0 x2.2.2.2.1.height x2.2.1,x2.2.2.1,x2.2.2.2.1,x3,x4.1,x2.2.2.2.2)))>>=λx5=>if x5.1=true then fM (x5.2.2.2.2.1.at0,x5.2.2.2.1,())>>=λx6=>dQ (x5.2.1,x5.2.2.1,x6.1,x5.2.2.2.2.2.2.2)else(Ls (x5.2.2.2.2.2.1.op,())>>=λx6=>if x6.1=true then(if(x5.2.2.2.2.2.1.op==12)=true then some ((i64.wrap (i64.wrap (x5.2.2.2.2.1.height-x5.2.2.2.2.2.2.1.takes)+x5.2.2.2.2.2.2.1.puts),i64.wrap (i64.wrap (i64.wrap (x5.2.2.2.2.1.height-x5.2.2.2.2.2.2.1.takes)+x5.2.2.2.2.2.2.1.puts) -1),x5.2))else some ((i64.wrap (i64.wrap (x5.2.2.2.2.1.height-x5.2.2.2.2.2.2.1.takes)+x5.2.2.2.2.2.2.1.puts),i64.wrap (i64.wrap (x5.2.2.2.2.1.height-x5.2.2.2.2.2.2.1.takes)+x5.2.2.2.2.2.2.1.puts),x5.2)))>>=λx7=>eJ (ay.mk x7.2.2.2.2.2.2.1.a x7.2.1,x7.2.2.2.2.2.2.2.2)>>=λx8=>some (x7.1,x7.2.2.1,x7.2.2.2.1,x7.2.2.2.2.1,x7.2.2.2.2.2.1,x7.2.2.2.2.2.2.2.1,x8)else some ((i64.wrap (i64.wrap (x5.2.2.2.2.1.height-x5.2.2.2.2.2.2.1.takes)+x5.2.2.2.2.2.2.1.puts),x5.2.1,x5.2.2.1,x5.2.2.2.1,x5.2.2.2.2.1,x5.2.2.2.2.2.2)))>>=λx6=>if(!x6.2.2.2.2.2.1.goes)=true then dQ (x6.2.1,x6.2.2.1,x6.2.2.2.1,x6.2.2.2.2.2.2)else if(i64.wrap (x6.2.2.2.2.1.at0+1)==(↑x6.2.1.code.length:Int))=true then fM (x6.2.2.2.2.1.at0,x6.2.2.2.1,())>>=λx7=>dQ (x6.2.1,x6.2.2.1,x7.1,x6.2.2.2.2.2.2)else eJ (ay.mk (i64.wrap (x6.2.2.2.2.1.at0+1)) x6.1,x6.2.2.2.2.2.2)>>=λx7=>dQ (x6.2.1,x6.2.2.1,x6.2.2.2.1,x7)else none else none else none else some ((v.2.2.1,v.2.2.2.1,())) partial_fixpoint
noncomputable def Lq(v:af×Unit):Option (Int×(List (ay×Bool))×Unit):=dQ (v.1,[],(-1:Int),Mp.set (λx y=>Mp.ieq x.at0 y.at0&&Mp.ieq x.height y.height) (λx x_1=>false) (ay.mk (0:Int) (0:Int)) true [],[ay.mk (0:Int) (0:Int)],())>>=λx1=>some (x1)
def zr:=kO sb (kO sc (kP H3 (kP H4 k0)))
def x51:Xc vw:={P:=prog,n:=124,call:=zr.1,pre:=Md,sh:=OY,joins:=λk=>match k with|13=>some (JJ,[.norm])|23=>some (JK,[.norm])|24=>some (JL,[.norm])|_=>none,regs:=λk=>match k with|11=>some JN|16=>some JO|_=>none,loops:=λk=>match k with|7=>some {cut:=JM,alts:=[.exit 0],F:=dQ}|_=>none}
theorem AK:oe x51 (bE (aO Tryz.f51) 0) ⟨JM,[.exit 0],dQ⟩:=lp0 dQ.partial_correctness zr.2
theorem H1:aB prog 51 Nf Lq:=fn1 x51 Tryz.func51 zr.2 AK
def JH:Cut SN:=⟨[(15,Dq3),(16,Dq1),(17,Dq1)],[]⟩
def NY:Cut SN:=⟨[(2,Dq1),(3,Dq1),(4,Dq1)],[]⟩
def OS:aE vw:=shL [(0,iZ)] NY
def M_:Sig vw:=sg [Dq3] NY [.tmp 2, .tmp 3, .tmp 4]
noncomputable def jr(v:LA):Option (((Ja)⊕(Unit))):=if decide (v.2.2.1<v.2.1)=true then if 0<=v.2.2.1 then v.1[v.2.2.1.toNat]?>>=λx1=>Lq (x1,())>>=λx2=>if decide (x2.1>=0)=true then some (Rv (v.2.2.1,x2.1,(7:Int),()))else jr (v.1,v.2.1,i64.wrap (v.2.2.1+1),())else none else some (Sf ()) partial_fixpoint
noncomputable def Ln(v:(List af)×Unit):Option (Ja):=I0 v>>=λx1=>if(x1.1 !=0)=true then some (((0:Int),(0:Int),x1))else jr (v.1,(↑v.1.length:Int),(0:Int),())>>=λx2=>match x2 with| .inl y2=>some y2| .inr y2=>some (((0:Int),(0:Int),(0:Int),()))
def zq:=kP ud (kO H1 k0)
def x38:Xc vw:=mX prog 32 zq.1 OS [] [] [(5,⟨JH,[.ret, .exit 0],jr⟩)]
theorem AG:oe x38 (bE (aO Tryz.f38) 0) ⟨JH,[.ret, .exit 0],jr⟩:=lp0 jr.partial_correctness zq.2
theorem HW:aB prog 38 M_ Ln:=fn1 x38 Tryz.func38 zq.2 AG
def NZ:Cut SN:=⟨[(4,Dq1),(5,Dq4),(6,Dq1)],[]⟩
def OT:aE vw:={rcut:=NZ}
def K3:Sig vw:=sg [Dq3,Dq6] NZ [.tmp 4, .tmp 5, .tmp 6]
noncomputable def Gq(v:(List af)×ByteArray×Unit):Option (Int×Bool×Int×Unit):=I0 (v.1,())>>=λx1=>if(x1.1 !=0)=true then some (((0:Int),false,x1))else I1 v>>=λx2=>some ((max x2.1 (0:Int),decide (x2.1>=0),(0:Int),()))
def F_:=kP ud (kP ue k0)
def x39:Xc vw:=mX prog 21 F_.1 OT [] [] []
theorem AH:aB prog 39 K3 Gq:=fn0 x39 Tryz.func39 F_.2
abbrev CH:Pt SN:= .dat (.sl (.st .myValueT))
def F5:Cut SN:=⟨[(12,Dq1),(48,CH),(49,Dq1),(50,Dq1)],[]⟩
def JF:Cut SN:=⟨[(12,Dq1),(48,CH),(49,Dq1),(50,Dq1),(61,Dq4)],[]⟩
def LG:Cut SN:=⟨[(12,Dq1)],[]⟩
def NW:Cut SN:=⟨[(6,Dq1),(7,Dq1)],[]⟩
def OP:aE vw:=shL [(0,LG)] NW
def M7:Sig vw:=sg [Dq3,Dq6,CH] NW [.tmp 6, .tmp 7]
noncomputable def gO(v:Int×(List ah)×Int×Int×Unit):Option (((Int×Int×Unit)⊕(Int×Unit))):=if decide (v.2.2.2.1<v.2.2.1)=true then if 0<=v.2.2.2.1 then v.2.1[v.2.2.2.1.toNat]?>>=λx1=>(if decide (x1.n<(-2147483648:Int))=true then some ((v.1,v.2.1,v.2.2.1,v.2.2.2.1,true,()))else some ((v.1,v.2.1,v.2.2.1,v.2.2.2.1,decide (x1.n>2147483648),())))>>=λx2=>if x2.2.2.2.2.1=true then some (Rv ((0:Int),(1:Int),()))else gO (x2.1,x2.2.1,x2.2.2.1,i64.wrap (x2.2.2.2.1+1),())else none else some (Sf (v.1,())) partial_fixpoint
noncomputable def Kh(v:(List af)×ByteArray×(List ah)×Unit):Option (Int×Int×Unit):=I0 (v.1,())>>=λx1=>if(x1.1 !=0)=true then some (((0:Int),x1))else Ln (v.1,())>>=λx2=>if(x2.2.2.1 !=0)=true then some (((0:Int),x2.2.2))else Gq (v.1,v.2.1,())>>=λx3=>if(!x3.2.1)=true then some (((0:Int),(4:Int),()))else if 0<=x3.1 then v.1[x3.1.toNat]?>>=λx4=>if((↑v.2.2.1.length:Int) !=x4.params)=true then some (((0:Int),(10:Int),()))else gO (x3.1,v.2.2.1,(↑v.2.2.1.length:Int),(0:Int),())>>=λx5=>match x5 with| .inl y5=>some y5| .inr y5=>some ((y5.1,(0:Int),()))else none
def zo:=kP ud (kP HW (kP AH k0))
def x28:Xc vw:=mX prog 64 zo.1 OP [] [(15,JF)] [(13,⟨F5,[.ret, .exit 0],gO⟩)]
theorem xu:oe x28 (bE (aO Tryz.f28) 0) ⟨F5,[.ret, .exit 0],gO⟩:=lp0 gO.partial_correctness zo.2
theorem AD:aB prog 28 M7 Kh:=fn1 x28 Tryz.func28 zo.2 xu
abbrev Oq2:OPt SN:= .vec 31 (.st .myValueT)
def oL:Cut SN:=⟨[(3, .vh 1003),(6,CH),(7,Dq1),(8,Dq1)],[(1003,Oq2)]⟩
def wN:Cut SN:=⟨[(3, .vh 1003)],[(1003,Oq2)]⟩
def rj:Cut SN:=⟨[(2, .vh 2002)],[(2002,Oq2)]⟩
def Bv:aE vw:=shL [(0,wN)] rj
def xZ:Sig vw:={params:=[CH],rcut:=rj,rvars:=[.tmp 2],keep:=[2002]}
noncomputable def cL(v:(List ah)×Int×Int×(List ah)×Unit):Option (((List ah)×Unit)):=if decide (v.2.2.1<v.2.1)=true then if 0<=v.2.2.1 then v.1[v.2.2.1.toNat]?>>=λx1=>if v.2.2.2.1.length+[ah.mk (ak.mk (0:Int) (0:Int) (Qa #[]) false false) x1.n x1.null x1.err (ak.mk (0:Int) (0:Int) (Qa #[]) false false)].length<=4294967296 then cL (v.1,v.2.1,i64.wrap (v.2.2.1+1),v.2.2.2.1++[ah.mk (ak.mk (0:Int) (0:Int) (Qa #[]) false false) x1.n x1.null x1.err (ak.mk (0:Int) (0:Int) (Qa #[]) false false)],())else none else none else some (v.2.2.2) partial_fixpoint
noncomputable def jq(v:(List ah)×Unit):Option ((List ah)×Unit):=cL (v.1,(↑v.1.length:Int),(0:Int),[],())>>=λx1=>some (x1)
def wz:Xc vw:=mX prog 24 c0 Bv [] [] [(3,⟨oL,[.exit 0],cL⟩)]
theorem ou:oe wz (bE (aO Tryz.f18) 0) ⟨oL,[.exit 0],cL⟩:=lp0 cL.partial_correctness bG
theorem r5:aB prog 18 xZ jq:=fn1 wz Tryz.func18 bG ou
abbrev Dq5:Pt SN:= .dat (.op (.st .endingT))
abbrev Oq9:OPt SN:= .vec 3 (.int .i64)
def rl:Cut SN:=⟨[(0, .bp 100000 0)],[(100000, .box none [Dq3,Dq4,Dq1, .vh 100001,Dq1, .vh 100002,Dq1,Dq5]),(100001,Oq9),(100002,Oq2)]⟩
def Bw:aE vw:={rcut:=rl}
def xE:Nat->Bool:=λk=>match k with|7000010=>true|_=>false
def py:Sig vw:={params:=[.bp 100000 0,Dq1,Dq1],objs:=[(100000, .box none [Dq3,Dq4,Dq1, .vh 100001,Dq1, .vh 100002,Dq1,Dq5]),(100001,Oq9),(100002,Oq2)],rcut:=rl,rvars:=[],keep:=[100000,100001,100002]}
noncomputable def cW(v:Int×Int×(List af)×Bool×Int×Int×Int×(Option aT)×(List Int)×(List ah)×Unit):Option ((List af)×Bool×Int×Int×Int×(Option aT)×(List Int)×(List ah)×Unit):=some ((v.2.2.1,v.2.2.2.1,v.2.2.2.2.1,v.2.2.2.2.2.1,v.2.2.2.2.2.2.1,some (aT.mk v.1 v.2.1),v.2.2.2.2.2.2.2.2))
def Fo:Xc vw:={P:=prog,n:=13,call:=c0,pre:=xE,sh:=Bw}
theorem fp:aB prog 52 py cW:=fn0 Fo Tryz.func52 bG
def N1:Cut SN:=⟨[(0, .bp 0 0)],[(0, .bar 20 .fno)]⟩
def OZ:aE vw:={rcut:=N1}
def K4:Sig vw:=sg [] N1 [.cell 0 102]
noncomputable def Ki(v:Unit):Option ((List (Option Nat))×Unit):=some (([some (77:Nat),some (78:Nat),some (79:Nat),some (80:Nat),some (81:Nat),some (82:Nat),some (83:Nat),some (84:Nat),some (85:Nat),some (86:Nat),some (87:Nat),some (88:Nat),some (89:Nat),some (90:Nat),some (91:Nat),some (92:Nat),some (93:Nat),some (94:Nat),some (95:Nat),some (96:Nat)],()))
def x53:Xc vw:=mX prog 2 c0 OZ [] [] []
theorem AL:aB prog 53 K4 Ki:=fn0 x53 Tryz.func53 bG
abbrev Dq8:Pt SN:= .dat (.op (.st .myValueT))
def aw:Cut SN:=⟨[(0, .bp 100000 0)],[(100000, .box none [.bp 100001 0,Dq6,Dq1,Dq1,Dq1,Dq1,Dq6,Dq4,Dq4,Dq7, .vh 100002, .vh 3011,Dq1,Dq1,Dq8]),(100001, .box none [Dq3,Dq4,Dq1, .vh 100004,Dq1, .vh 100005,Dq1,Dq5]),(100002,Oq2),(3011,Oq2),(100004,Oq9),(100005,Oq2)]⟩
def xS:aE vw:={rcut:=aw}
def nU:Sig vw:={params:=[.bp 100000 0, .dat (.st .myValueT)],objs:=[(100000, .box none [.bp 100001 0,Dq6,Dq1,Dq1,Dq1,Dq1,Dq6,Dq4,Dq4,Dq7, .vh 100002, .vh 100003,Dq1,Dq1,Dq8]),(100001, .box none [Dq3,Dq4,Dq1, .vh 100004,Dq1, .vh 100005,Dq1,Dq5]),(100002,Oq2),(100003,Oq2),(100004,Oq9),(100005,Oq2)],rcut:=aw,rvars:=[],keep:=[100000,100001,100002,3011,100004,100005]}
abbrev Tq1:=ByteArray×Int×Int×Int×Int×ByteArray×Bool×Bool×(List au)×Int×Int×(Option ah)×(List af)×Bool×Int×Int×Int×(Option aT)×(List ah)×(List ah)×(List Int)×(List ah)×Unit
noncomputable def bJ(v:ah×ByteArray×Int×Int×Int×Int×ByteArray×Bool×Bool×(List au)×Int×Int×(Option ah)×(List af)×Bool×Int×Int×Int×(Option aT)×(List ah)×(List ah)×(List Int)×(List ah)×Unit):Option (Tq1):=if v.2.2.2.2.2.2.2.2.2.2.2.2.2.2.2.2.2.2.2.2.1.length+[v.1].length<=4294967296 then if(v.2.2.2.2.2.2.2.2.2.2.1==1)=true then some ((v.2.1,v.2.2.1,v.2.2.2.1,v.2.2.2.2.1,v.2.2.2.2.2.1,v.2.2.2.2.2.2.1,v.2.2.2.2.2.2.2.1,v.2.2.2.2.2.2.2.2.1,v.2.2.2.2.2.2.2.2.2.1,v.2.2.2.2.2.2.2.2.2.2.1,v.2.2.2.2.2.2.2.2.2.2.2.1,v.2.2.2.2.2.2.2.2.2.2.2.2.1,v.2.2.2.2.2.2.2.2.2.2.2.2.2.1,v.2.2.2.2.2.2.2.2.2.2.2.2.2.2.1,v.2.2.2.2.2.2.2.2.2.2.2.2.2.2.2.1,v.2.2.2.2.2.2.2.2.2.2.2.2.2.2.2.2.1,max v.2.2.2.2.2.2.2.2.2.2.2.2.2.2.2.2.2.1 (↑(v.2.2.2.2.2.2.2.2.2.2.2.2.2.2.2.2.2.2.2.2.1++[v.1]).length:Int),v.2.2.2.2.2.2.2.2.2.2.2.2.2.2.2.2.2.2.1,v.2.2.2.2.2.2.2.2.2.2.2.2.2.2.2.2.2.2.2.1,v.2.2.2.2.2.2.2.2.2.2.2.2.2.2.2.2.2.2.2.2.1++[v.1],v.2.2.2.2.2.2.2.2.2.2.2.2.2.2.2.2.2.2.2.2.2))else some (v.2.1,v.2.2.1,v.2.2.2.1,v.2.2.2.2.1,v.2.2.2.2.2.1,v.2.2.2.2.2.2.1,v.2.2.2.2.2.2.2.1,v.2.2.2.2.2.2.2.2.1,v.2.2.2.2.2.2.2.2.2.1,v.2.2.2.2.2.2.2.2.2.2.1,v.2.2.2.2.2.2.2.2.2.2.2.1,v.2.2.2.2.2.2.2.2.2.2.2.2.1,v.2.2.2.2.2.2.2.2.2.2.2.2.2.1,v.2.2.2.2.2.2.2.2.2.2.2.2.2.2.1,v.2.2.2.2.2.2.2.2.2.2.2.2.2.2.2.1,v.2.2.2.2.2.2.2.2.2.2.2.2.2.2.2.2.1,v.2.2.2.2.2.2.2.2.2.2.2.2.2.2.2.2.2.1,v.2.2.2.2.2.2.2.2.2.2.2.2.2.2.2.2.2.2.1,v.2.2.2.2.2.2.2.2.2.2.2.2.2.2.2.2.2.2.2.1,v.2.2.2.2.2.2.2.2.2.2.2.2.2.2.2.2.2.2.2.2.1++[v.1],v.2.2.2.2.2.2.2.2.2.2.2.2.2.2.2.2.2.2.2.2.2)else none
def Ct:Xc vw:=mX prog 38 c0 xS [] [] []
theorem bI:aB prog 120 nU bJ:=fn0 Ct Tryz.func120 bG
def CV:Cut SN:=⟨[(2, .bp 2 0)],[(2, .st .myValueT)]⟩
def Mm:aE vw:={rcut:=CV}
def KC:Sig vw:=sg [Dq1] CV [.cell 2 31]
noncomputable def qw(v:Int×Unit):Option (ah×Unit):=some ((ah.mk (ak.mk (0:Int) (0:Int) (Qa #[]) false false) v.1 false (Qa #[]) (ak.mk (0:Int) (0:Int) (Qa #[]) false false),()))
def Pz:Xc vw:=mX prog 5 c0 Mm [] [] []
theorem jm:aB prog 121 KC qw:=fn0 Pz Tryz.func121 bG
def Mq:aE vw:={rcut:=CX}
def KF:Sig vw:=sg [GV] CX [.cell 2 135]
noncomputable def rZ(v:ak×Unit):Option (bn×Unit):=some ((bn.mk (v.1.base==3) v.1.bits,()))
def PC:Xc vw:=mX prog 9 c0 Mq [] [] []
theorem lL:aB prog 126 KF rZ:=fn0 PC Tryz.func126 bG
def Ms:aE vw:={rcut:=CV}
def KH:Sig vw:=sg [Dq4] CV [.cell 2 31]
noncomputable def xj(v:Bool×Unit):Option (ah×Unit):=if v.1=true then qw ((1:Int),())>>=λx1=>some (x1)else qw ((0:Int),())>>=λx1=>some (x1)
def zc:=kP jm k0
def PE:Xc vw:=mX prog 6 zc.1 Ms [] [] []
theorem qy:aB prog 129 KH xj:=fn0 PE Tryz.func129 zc.2
def MM:aE vw:={rcut:=yC}
def KZ:Sig vw:=sg [wD] yC [.tmp 2]
noncomputable def xp(v:bn×Unit):Option (Int×Unit):=if v.1.signed=true then if 0<=i64.wrap (v.1.bits-1)then some ((i64.wrap (Bs.ishl i64 (1:Int) (i64.wrap (v.1.bits-1)) -1),()))else none else if 0<=v.1.bits then some ((i64.wrap (Bs.ishl i64 (1:Int) v.1.bits-1),()))else none
def PW:Xc vw:=mX prog 14 c0 MM [] [] []
theorem qA:aB prog 172 KZ xp:=fn0 PW Tryz.func172 bG
def JD:Cut SN:=⟨[(1,Dq1)],[]⟩
def MJ:aE vw:={rcut:=bj}
def Gy:Sig vw:=sg [wD,Dq1] bj [.tmp 4]
noncomputable def uc(v:bn×Int×Unit):Option (Int×Unit):=if 0<=v.1.bits then(xp (v.1,())>>=λx1=>if decide (Bs.iand i64 v.2.1 (i64.wrap (Bs.ishl i64 (1:Int) v.1.bits-1))>x1.1)=true then if 0<=v.1.bits then some ((i64.wrap (Bs.iand i64 v.2.1 (i64.wrap (Bs.ishl i64 (1:Int) v.1.bits-1)) -Bs.ishl i64 (1:Int) v.1.bits),()))else none else some ((Bs.iand i64 v.2.1 (i64.wrap (Bs.ishl i64 (1:Int) v.1.bits-1)),())))>>=λx1=>some (x1)else none
def zl:=kP qA k0
def PS:Xc vw:=mX prog 21 zl.1 MJ [(4,JD,[.norm])] [] []
theorem vT:aB prog 169 Gy uc:=fn0 PS Tryz.func169 zl.2
def MB:aE vw:={rcut:=CW}
def KR:Sig vw:=sg [wD,Dq1] CW [.tmp 4, .tmp 5]
noncomputable def DO(v:bn×Int×Unit):Option (Int×Int×Unit):=nr (v.1,())>>=λx1=>if(x1.1 !=0)=true then some (((0:Int),x1))else uc v>>=λx2=>some ((x2.1,(0:Int),()))
def zg:=kP hO (kP vT k0)
def PL:Xc vw:=mX prog 15 zg.1 MB [] [] []
theorem DP:aB prog 154 KR DO:=fn0 PL Tryz.func154 zg.2
def Mn:aE vw:={rcut:=bj}
def KD:Sig vw:=sg [GV,Dq1] bj [.tmp 4]
noncomputable def nj(v:ak×Int×Unit):Option (Int×Unit):=if(v.1.base==0)=true then some (((0:Int),()))else if(v.1.base==1)=true then xj (v.2.1 !=0,())>>=λx1=>some ((x1.1.n,()))else rZ (v.1,())>>=λx1=>DO (x1.1,v.2)>>=λx2=>some ((x2.1,()))
def y_:=kP lL (kP qy (kP DP k0))
def PA:Xc vw:=mX prog 25 y_.1 Mn [] [] []
theorem jn:aB prog 122 KD nj:=fn0 PA Tryz.func122 y_.2
def BE:aE vw:={rcut:=aw}
def pz:Sig vw:={params:=[.bp 100000 0,lU],objs:=[(100000, .box none [.bp 100001 0,Dq6,Dq1,Dq1,Dq1,Dq1,Dq6,Dq4,Dq4,Dq7, .vh 100002, .vh 100003,Dq1,Dq1,Dq8]),(100001, .box none [Dq3,Dq4,Dq1, .vh 100004,Dq1, .vh 100005,Dq1,Dq5]),(100002,Oq2),(100003,Oq2),(100004,Oq9),(100005,Oq2)],rcut:=aw,rvars:=[],keep:=[100000,100001,100002,3011,100004,100005]}
abbrev Tq2:=au×ByteArray×Int×Int×Int×Int×ByteArray×Bool×Bool×(List au)×Int×Int×(Option ah)×(List af)×Bool×Int×Int×Int×(Option aT)×(List ah)×(List ah)×(List Int)×(List ah)×Unit
noncomputable def eK(v:Tq2):Option (Tq1):=nj (v.1.type0,v.1.a,())>>=λx1=>qw x1>>=λx2=>bJ (x2.1,v.2)>>=λx3=>if x3.2.2.2.2.2.2.2.2.2.2.2.2.2.2.2.2.2.2.1.length=v.2.2.2.2.2.2.2.2.2.2.2.2.2.2.2.2.2.2.2.1.length then if x3.2.2.2.2.2.2.2.2.2.2.2.2.2.2.2.2.2.2.2.2.1.length=v.2.2.2.2.2.2.2.2.2.2.2.2.2.2.2.2.2.2.2.2.2.1.length then if x3.2.2.2.2.2.2.2.2.2.2.2.2.2.2.2.2.2.2.2.2.2.1.length=v.2.2.2.2.2.2.2.2.2.2.2.2.2.2.2.2.2.2.2.2.2.2.1.length then some (x3)else none else none else none
def mf:=kO bI (kP jm (kP jn k0))
def Fu:Xc vw:=mX prog 12 mf.1 BE [] [] []
theorem kq:aB prog 77 pz eK:=fn0 Fu Tryz.func77 mf.2
def BF:aE vw:={rcut:=aw}
def pA:Sig vw:={params:=[.bp 100000 0,lU],objs:=[(100000, .box none [.bp 100001 0,Dq6,Dq1,Dq1,Dq1,Dq1,Dq6,Dq4,Dq4,Dq7, .vh 100002, .vh 100003,Dq1,Dq1,Dq8]),(100001, .box none [Dq3,Dq4,Dq1, .vh 100004,Dq1, .vh 100005,Dq1,Dq5]),(100002,Oq2),(100003,Oq2),(100004,Oq9),(100005,Oq2)],rcut:=aw,rvars:=[],keep:=[100000,100001,100002,3011,100004,100005]}
noncomputable def eL(v:Tq2):Option (Tq1):=bJ (ah.mk (ak.mk (0:Int) (0:Int) (Qa #[]) false false) (0:Int) true (Qa #[]) (ak.mk (0:Int) (0:Int) (Qa #[]) false false),v.2)>>=λx1=>if x1.2.2.2.2.2.2.2.2.2.2.2.2.2.2.2.2.2.2.1.length=v.2.2.2.2.2.2.2.2.2.2.2.2.2.2.2.2.2.2.2.1.length then if x1.2.2.2.2.2.2.2.2.2.2.2.2.2.2.2.2.2.2.2.2.1.length=v.2.2.2.2.2.2.2.2.2.2.2.2.2.2.2.2.2.2.2.2.2.1.length then if x1.2.2.2.2.2.2.2.2.2.2.2.2.2.2.2.2.2.2.2.2.2.1.length=v.2.2.2.2.2.2.2.2.2.2.2.2.2.2.2.2.2.2.2.2.2.2.1.length then some (x1)else none else none else none
def mg:=kO bI k0
def Fv:Xc vw:=mX prog 7 mg.1 BF [] [] []
theorem ku:aB prog 78 pA eL:=fn0 Fv Tryz.func78 mg.2
def BG:aE vw:={rcut:=aw}
def pB:Sig vw:={params:=[.bp 100000 0,lU],objs:=[(100000, .box none [.bp 100001 0,Dq6,Dq1,Dq1,Dq1,Dq1,Dq6,Dq4,Dq4,Dq7, .vh 100002, .vh 100003,Dq1,Dq1,Dq8]),(100001, .box none [Dq3,Dq4,Dq1, .vh 100004,Dq1, .vh 100005,Dq1,Dq5]),(100002,Oq2),(100003,Oq2),(100004,Oq9),(100005,Oq2)],rcut:=aw,rvars:=[],keep:=[100000,100001,100002,3011,100004,100005]}
noncomputable def eM(v:Tq2):Option (Tq1):=if 0<=v.1.a/\v.1.a<(↑v.2.2.2.2.2.2.2.2.2.2.2.2.2.2.2.2.2.2.2.1.length:Int)then v.2.2.2.2.2.2.2.2.2.2.2.2.2.2.2.2.2.2.2.1[v.1.a.toNat]?>>=λx1=>bJ (x1,v.2)>>=λx2=>if x2.2.2.2.2.2.2.2.2.2.2.2.2.2.2.2.2.2.2.1.length=v.2.2.2.2.2.2.2.2.2.2.2.2.2.2.2.2.2.2.2.1.length then if x2.2.2.2.2.2.2.2.2.2.2.2.2.2.2.2.2.2.2.2.2.1.length=v.2.2.2.2.2.2.2.2.2.2.2.2.2.2.2.2.2.2.2.2.2.1.length then if x2.2.2.2.2.2.2.2.2.2.2.2.2.2.2.2.2.2.2.2.2.2.1.length=v.2.2.2.2.2.2.2.2.2.2.2.2.2.2.2.2.2.2.2.2.2.2.1.length then some (x2)else none else none else none else none
def mh:=kO bI k0
def Fw:Xc vw:=mX prog 14 mh.1 BG [] [] []
theorem kv:aB prog 79 pB eM:=fn0 Fw Tryz.func79 mh.2
def tD:Cut SN:=⟨[(0, .bp 100000 0),(5, .bp 5 0),(39,Dq4)],[(100000, .box none [.bp 100001 0,Dq6,Dq1,Dq1,Dq1,Dq1,Dq6,Dq4,Dq4,Dq7, .vh 100002, .vh 100003,Dq1,Dq1,Dq8]),(5, .st .myValueT),(100001, .box none [Dq3,Dq4,Dq1, .vh 100004,Dq1, .vh 100005,Dq1,Dq5]),(100002,Oq2),(100003,Oq2),(100004,Oq9),(100005,Oq2)]⟩
def oG:Cut SN:=⟨[(0, .bp 100000 0)],[(100000, .box none [.bp 100001 0,Dq6,Dq1,Dq1,Dq1,Dq1,Dq6,Dq4,Dq4,Dq7, .vh 100002, .vh 100003,Dq1,Dq1,Dq8]),(100001, .box none [Dq3,Dq4,Dq1, .vh 100004,Dq1, .vh 3015,Dq1,Dq5]),(100002,Oq2),(100003,Oq2),(100004,Oq9),(3015,Oq2)]⟩
def xT:aE vw:={rcut:=oG}
def uC:Sig vw:={params:=[.bp 100000 0,Dq1, .dat (.st .myValueT)],objs:=[(100000, .box none [.bp 100001 0,Dq6,Dq1,Dq1,Dq1,Dq1,Dq6,Dq4,Dq4,Dq7, .vh 100002, .vh 100003,Dq1,Dq1,Dq8]),(100001, .box none [Dq3,Dq4,Dq1, .vh 100004,Dq1, .vh 100005,Dq1,Dq5]),(100002,Oq2),(100003,Oq2),(100004,Oq9),(100005,Oq2)],rcut:=oG,rvars:=[],keep:=[100000,100001,100002,100003,100004,3015]}
noncomputable def hI(v:Int×ah×ByteArray×Int×Int×Int×Int×ByteArray×Bool×Bool×(List au)×Int×Int×(Option ah)×(List af)×Bool×Int×Int×Int×(Option aT)×(List ah)×(List ah)×(List Int)×(List ah)×Unit):Option (Tq1):=if 0<=v.1/\v.1<(↑v.2.2.2.2.2.2.2.2.2.2.2.2.2.2.2.2.2.2.2.2.1.length:Int)then v.2.2.2.2.2.2.2.2.2.2.2.2.2.2.2.2.2.2.2.2.1[v.1.toNat]?>>=λx1=>(if(v.2.2.2.2.2.2.2.2.2.2.2.1==1)=true then if(v.1==v.2.2.2.2.2.2.2.2.2.2.2.2.2.2.2.2.2.1)=true then some ((decide ((↑v.2.2.2.2.2.2.2.2.2.2.2.2.2.2.2.2.2.2.2.2.2.2.2.1.length:Int)<100),v.2.2.1,v.2.2.2.1,v.2.2.2.2.1,v.2.2.2.2.2.1,v.2.2.2.2.2.2.1,v.2.2.2.2.2.2.2.1,v.2.2.2.2.2.2.2.2.1,v.2.2.2.2.2.2.2.2.2.1,v.2.2.2.2.2.2.2.2.2.2.1,v.2.2.2.2.2.2.2.2.2.2.2.1,v.2.2.2.2.2.2.2.2.2.2.2.2.1,v.2.2.2.2.2.2.2.2.2.2.2.2.2.1,v.2.1,v.2.2.2.2.2.2.2.2.2.2.2.2.2.2.1,v.2.2.2.2.2.2.2.2.2.2.2.2.2.2.2.1,v.2.2.2.2.2.2.2.2.2.2.2.2.2.2.2.2.1,v.2.2.2.2.2.2.2.2.2.2.2.2.2.2.2.2.2.1,v.2.2.2.2.2.2.2.2.2.2.2.2.2.2.2.2.2.2.1,v.2.2.2.2.2.2.2.2.2.2.2.2.2.2.2.2.2.2.2.1,v.2.2.2.2.2.2.2.2.2.2.2.2.2.2.2.2.2.2.2.2.1.set v.1.toNat v.2.1,v.2.2.2.2.2.2.2.2.2.2.2.2.2.2.2.2.2.2.2.2.2))else some (false,v.2.2.1,v.2.2.2.1,v.2.2.2.2.1,v.2.2.2.2.2.1,v.2.2.2.2.2.2.1,v.2.2.2.2.2.2.2.1,v.2.2.2.2.2.2.2.2.1,v.2.2.2.2.2.2.2.2.2.1,v.2.2.2.2.2.2.2.2.2.2.1,v.2.2.2.2.2.2.2.2.2.2.2.1,v.2.2.2.2.2.2.2.2.2.2.2.2.1,v.2.2.2.2.2.2.2.2.2.2.2.2.2.1,v.2.1,v.2.2.2.2.2.2.2.2.2.2.2.2.2.2.1,v.2.2.2.2.2.2.2.2.2.2.2.2.2.2.2.1,v.2.2.2.2.2.2.2.2.2.2.2.2.2.2.2.2.1,v.2.2.2.2.2.2.2.2.2.2.2.2.2.2.2.2.2.1,v.2.2.2.2.2.2.2.2.2.2.2.2.2.2.2.2.2.2.1,v.2.2.2.2.2.2.2.2.2.2.2.2.2.2.2.2.2.2.2.1,v.2.2.2.2.2.2.2.2.2.2.2.2.2.2.2.2.2.2.2.2.1.set v.1.toNat v.2.1,v.2.2.2.2.2.2.2.2.2.2.2.2.2.2.2.2.2.2.2.2.2)else some (false,v.2.2.1,v.2.2.2.1,v.2.2.2.2.1,v.2.2.2.2.2.1,v.2.2.2.2.2.2.1,v.2.2.2.2.2.2.2.1,v.2.2.2.2.2.2.2.2.1,v.2.2.2.2.2.2.2.2.2.1,v.2.2.2.2.2.2.2.2.2.2.1,v.2.2.2.2.2.2.2.2.2.2.2.1,v.2.2.2.2.2.2.2.2.2.2.2.2.1,v.2.2.2.2.2.2.2.2.2.2.2.2.2.1,v.2.1,v.2.2.2.2.2.2.2.2.2.2.2.2.2.2.1,v.2.2.2.2.2.2.2.2.2.2.2.2.2.2.2.1,v.2.2.2.2.2.2.2.2.2.2.2.2.2.2.2.2.1,v.2.2.2.2.2.2.2.2.2.2.2.2.2.2.2.2.2.1,v.2.2.2.2.2.2.2.2.2.2.2.2.2.2.2.2.2.2.1,v.2.2.2.2.2.2.2.2.2.2.2.2.2.2.2.2.2.2.2.1,v.2.2.2.2.2.2.2.2.2.2.2.2.2.2.2.2.2.2.2.2.1.set v.1.toNat v.2.1,v.2.2.2.2.2.2.2.2.2.2.2.2.2.2.2.2.2.2.2.2.2))>>=λx2=>if x2.1=true then if x2.2.2.2.2.2.2.2.2.2.2.2.2.2.2.2.2.2.2.2.2.2.2.2.1.length+[x2.2.2.2.2.2.2.2.2.2.2.2.2.2.1].length<=4294967296 then some ((x2.2.1,x2.2.2.1,x2.2.2.2.1,x2.2.2.2.2.1,x2.2.2.2.2.2.1,x2.2.2.2.2.2.2.1,x2.2.2.2.2.2.2.2.1,x2.2.2.2.2.2.2.2.2.1,x2.2.2.2.2.2.2.2.2.2.1,x2.2.2.2.2.2.2.2.2.2.2.1,x2.2.2.2.2.2.2.2.2.2.2.2.1,x2.2.2.2.2.2.2.2.2.2.2.2.2.1,x2.2.2.2.2.2.2.2.2.2.2.2.2.2.2.1,x2.2.2.2.2.2.2.2.2.2.2.2.2.2.2.2.1,x2.2.2.2.2.2.2.2.2.2.2.2.2.2.2.2.2.1,x2.2.2.2.2.2.2.2.2.2.2.2.2.2.2.2.2.2.1,x2.2.2.2.2.2.2.2.2.2.2.2.2.2.2.2.2.2.2.1,x2.2.2.2.2.2.2.2.2.2.2.2.2.2.2.2.2.2.2.2.1,x2.2.2.2.2.2.2.2.2.2.2.2.2.2.2.2.2.2.2.2.2.1,x2.2.2.2.2.2.2.2.2.2.2.2.2.2.2.2.2.2.2.2.2.2.1,x2.2.2.2.2.2.2.2.2.2.2.2.2.2.2.2.2.2.2.2.2.2.2.1,x2.2.2.2.2.2.2.2.2.2.2.2.2.2.2.2.2.2.2.2.2.2.2.2.1++[x2.2.2.2.2.2.2.2.2.2.2.2.2.2.1],()))else none else some (x2.2.1,x2.2.2.1,x2.2.2.2.1,x2.2.2.2.2.1,x2.2.2.2.2.2.1,x2.2.2.2.2.2.2.1,x2.2.2.2.2.2.2.2.1,x2.2.2.2.2.2.2.2.2.1,x2.2.2.2.2.2.2.2.2.2.1,x2.2.2.2.2.2.2.2.2.2.2.1,x2.2.2.2.2.2.2.2.2.2.2.2.1,x2.2.2.2.2.2.2.2.2.2.2.2.2.1,x2.2.2.2.2.2.2.2.2.2.2.2.2.2.2)else none
def Cu:Xc vw:=mX prog 56 c0 xT [] [(2,tD)] []
theorem qx:aB prog 123 uC hI:=fn0 Cu Tryz.func123 bG
def oH:Cut SN:=⟨[(0, .bp 100000 0),(2, .bp 2 0)],[(100000, .box none [.bp 100001 0,Dq6,Dq1,Dq1,Dq1,Dq1,Dq6,Dq4,Dq4,Dq7, .vh 100002, .vh 3011,Dq1,Dq1,Dq8]),(100001, .box none [Dq3,Dq4,Dq1, .vh 100004,Dq1, .vh 100005,Dq1,Dq5]),(100002,Oq2),(3011,Oq2),(100004,Oq9),(100005,Oq2),(2, .st .myValueT)]⟩
def xU:aE vw:={rcut:=oH}
def uo:Nat->Bool:=λk=>match k with|5000027=>true|_=>false
def uD:Sig vw:={params:=[.bp 100000 0],objs:=[(100000, .box none [.bp 100001 0,Dq6,Dq1,Dq1,Dq1,Dq1,Dq6,Dq4,Dq4,Dq7, .vh 100002, .vh 100003,Dq1,Dq1,Dq8]),(100001, .box none [Dq3,Dq4,Dq1, .vh 100004,Dq1, .vh 100005,Dq1,Dq5]),(100002,Oq2),(100003,Oq2),(100004,Oq9),(100005,Oq2)],rcut:=oH,rvars:=[.cell 2 31],keep:=[100000,100001,100002,3011,100004,100005]}
abbrev Tq7:=ByteArray×Int×Int×Int×Int×ByteArray×Bool×Bool×(List au)×Int×Int×(Option ah)×(List af)×Bool×Int×Int×Int×(Option aT)×(List ah)×(List ah)×(List Int)×(List ah)×ah×Unit
noncomputable def bk(v:Tq1):Option (Tq7):=if 0<=i64.wrap ((↑v.2.2.2.2.2.2.2.2.2.2.2.2.2.2.2.2.2.2.2.1.length:Int) -1)/\i64.wrap ((↑v.2.2.2.2.2.2.2.2.2.2.2.2.2.2.2.2.2.2.2.1.length:Int) -1)<(↑v.2.2.2.2.2.2.2.2.2.2.2.2.2.2.2.2.2.2.2.1.length:Int)then v.2.2.2.2.2.2.2.2.2.2.2.2.2.2.2.2.2.2.2.1[(i64.wrap ((↑v.2.2.2.2.2.2.2.2.2.2.2.2.2.2.2.2.2.2.2.1.length:Int) -1)).toNat]?>>=λx1=>if 0<=i64.wrap ((↑v.2.2.2.2.2.2.2.2.2.2.2.2.2.2.2.2.2.2.2.1.length:Int) -1)then if i64.wrap ((↑v.2.2.2.2.2.2.2.2.2.2.2.2.2.2.2.2.2.2.2.1.length:Int) -1)<=(↑v.2.2.2.2.2.2.2.2.2.2.2.2.2.2.2.2.2.2.2.1.length:Int)then some ((v.1,v.2.1,v.2.2.1,v.2.2.2.1,v.2.2.2.2.1,v.2.2.2.2.2.1,v.2.2.2.2.2.2.1,v.2.2.2.2.2.2.2.1,v.2.2.2.2.2.2.2.2.1,v.2.2.2.2.2.2.2.2.2.1,v.2.2.2.2.2.2.2.2.2.2.1,v.2.2.2.2.2.2.2.2.2.2.2.1,v.2.2.2.2.2.2.2.2.2.2.2.2.1,v.2.2.2.2.2.2.2.2.2.2.2.2.2.1,v.2.2.2.2.2.2.2.2.2.2.2.2.2.2.1,v.2.2.2.2.2.2.2.2.2.2.2.2.2.2.2.1,v.2.2.2.2.2.2.2.2.2.2.2.2.2.2.2.2.1,v.2.2.2.2.2.2.2.2.2.2.2.2.2.2.2.2.2.1,v.2.2.2.2.2.2.2.2.2.2.2.2.2.2.2.2.2.2.1,R_ (i64.wrap ((↑v.2.2.2.2.2.2.2.2.2.2.2.2.2.2.2.2.2.2.2.1.length:Int) -1)).toNat v.2.2.2.2.2.2.2.2.2.2.2.2.2.2.2.2.2.2.2.1,v.2.2.2.2.2.2.2.2.2.2.2.2.2.2.2.2.2.2.2.2.1,v.2.2.2.2.2.2.2.2.2.2.2.2.2.2.2.2.2.2.2.2.2.1,x1,()))else none else none else none
def Cv:Xc vw:={P:=prog,n:=31,call:=c0,pre:=uo,sh:=xU}
theorem bi:aB prog 124 uD bk:=fn0 Cv Tryz.func124 bG
def i4:Cut SN:=⟨[(0, .bp 100000 0)],[(100000, .box none [.bp 100001 0,Dq6,Dq1,Dq1,Dq1,Dq1,Dq6,Dq4,Dq4,Dq7, .vh 100002, .vh 3011,Dq1,Dq1,Dq8]),(100001, .box none [Dq3,Dq4,Dq1, .vh 100004,Dq1, .vh 3015,Dq1,Dq5]),(100002,Oq2),(3011,Oq2),(100004,Oq9),(3015,Oq2)]⟩
def BH:aE vw:={rcut:=i4}
def pC:Sig vw:={params:=[.bp 100000 0,lU],objs:=[(100000, .box none [.bp 100001 0,Dq6,Dq1,Dq1,Dq1,Dq1,Dq6,Dq4,Dq4,Dq7, .vh 100002, .vh 100003,Dq1,Dq1,Dq8]),(100001, .box none [Dq3,Dq4,Dq1, .vh 100004,Dq1, .vh 100005,Dq1,Dq5]),(100002,Oq2),(100003,Oq2),(100004,Oq9),(100005,Oq2)],rcut:=i4,rvars:=[],keep:=[100000,100001,100002,3011,100004,3015]}
noncomputable def eN(v:Tq2):Option (Tq1):=bk v.2>>=λx1=>if x1.2.2.2.2.2.2.2.2.2.2.2.2.2.2.2.2.2.2.1.length=v.2.2.2.2.2.2.2.2.2.2.2.2.2.2.2.2.2.2.2.1.length then if x1.2.2.2.2.2.2.2.2.2.2.2.2.2.2.2.2.2.2.2.2.1.length=v.2.2.2.2.2.2.2.2.2.2.2.2.2.2.2.2.2.2.2.2.2.1.length then if x1.2.2.2.2.2.2.2.2.2.2.2.2.2.2.2.2.2.2.2.2.2.1.length=v.2.2.2.2.2.2.2.2.2.2.2.2.2.2.2.2.2.2.2.2.2.2.1.length then hI (v.1.a,x1.2.2.2.2.2.2.2.2.2.2.2.2.2.2.2.2.2.2.2.2.2.2.1,x1.1,x1.2.1,x1.2.2.1,x1.2.2.2.1,x1.2.2.2.2.1,x1.2.2.2.2.2.1,x1.2.2.2.2.2.2.1,x1.2.2.2.2.2.2.2.1,x1.2.2.2.2.2.2.2.2.1,x1.2.2.2.2.2.2.2.2.2.1,x1.2.2.2.2.2.2.2.2.2.2.1,x1.2.2.2.2.2.2.2.2.2.2.2.1,x1.2.2.2.2.2.2.2.2.2.2.2.2.1,x1.2.2.2.2.2.2.2.2.2.2.2.2.2.1,x1.2.2.2.2.2.2.2.2.2.2.2.2.2.2.1,x1.2.2.2.2.2.2.2.2.2.2.2.2.2.2.2.1,x1.2.2.2.2.2.2.2.2.2.2.2.2.2.2.2.2.1,x1.2.2.2.2.2.2.2.2.2.2.2.2.2.2.2.2.2.1,x1.2.2.2.2.2.2.2.2.2.2.2.2.2.2.2.2.2.2.1,x1.2.2.2.2.2.2.2.2.2.2.2.2.2.2.2.2.2.2.2.1,x1.2.2.2.2.2.2.2.2.2.2.2.2.2.2.2.2.2.2.2.2.1,x1.2.2.2.2.2.2.2.2.2.2.2.2.2.2.2.2.2.2.2.2.2.1,())>>=λx2=>if x2.2.2.2.2.2.2.2.2.2.2.2.2.2.2.2.2.2.2.1.length=x1.2.2.2.2.2.2.2.2.2.2.2.2.2.2.2.2.2.2.1.length then if x2.2.2.2.2.2.2.2.2.2.2.2.2.2.2.2.2.2.2.2.1.length=x1.2.2.2.2.2.2.2.2.2.2.2.2.2.2.2.2.2.2.2.1.length then if x2.2.2.2.2.2.2.2.2.2.2.2.2.2.2.2.2.2.2.2.2.1.length=x1.2.2.2.2.2.2.2.2.2.2.2.2.2.2.2.2.2.2.2.2.1.length then some (x2)else none else none else none else none else none else none
def mi:=kO qx (kO bi k0)
def Fy:Xc vw:=mX prog 10 mi.1 BH [] [] []
theorem kw:aB prog 80 pC eN:=fn0 Fy Tryz.func80 mi.2
def BI:aE vw:={rcut:=aw}
def pD:Sig vw:={params:=[.bp 100000 0,lU],objs:=[(100000, .box none [.bp 100001 0,Dq6,Dq1,Dq1,Dq1,Dq1,Dq6,Dq4,Dq4,Dq7, .vh 100002, .vh 100003,Dq1,Dq1,Dq8]),(100001, .box none [Dq3,Dq4,Dq1, .vh 100004,Dq1, .vh 100005,Dq1,Dq5]),(100002,Oq2),(100003,Oq2),(100004,Oq9),(100005,Oq2)],rcut:=aw,rvars:=[],keep:=[100000,100001,100002,3011,100004,100005]}
noncomputable def eO(v:Tq2):Option (Tq1):=bk v.2>>=λx1=>if x1.2.2.2.2.2.2.2.2.2.2.2.2.2.2.2.2.2.2.1.length=v.2.2.2.2.2.2.2.2.2.2.2.2.2.2.2.2.2.2.2.1.length then if x1.2.2.2.2.2.2.2.2.2.2.2.2.2.2.2.2.2.2.2.2.1.length=v.2.2.2.2.2.2.2.2.2.2.2.2.2.2.2.2.2.2.2.2.2.1.length then if x1.2.2.2.2.2.2.2.2.2.2.2.2.2.2.2.2.2.2.2.2.2.1.length=v.2.2.2.2.2.2.2.2.2.2.2.2.2.2.2.2.2.2.2.2.2.2.1.length then some ((x1.1,x1.2.1,x1.2.2.1,x1.2.2.2.1,x1.2.2.2.2.1,x1.2.2.2.2.2.1,x1.2.2.2.2.2.2.1,x1.2.2.2.2.2.2.2.1,x1.2.2.2.2.2.2.2.2.1,x1.2.2.2.2.2.2.2.2.2.1,x1.2.2.2.2.2.2.2.2.2.2.1,x1.2.2.2.2.2.2.2.2.2.2.2.1,x1.2.2.2.2.2.2.2.2.2.2.2.2.1,x1.2.2.2.2.2.2.2.2.2.2.2.2.2.1,x1.2.2.2.2.2.2.2.2.2.2.2.2.2.2.1,x1.2.2.2.2.2.2.2.2.2.2.2.2.2.2.2.1,x1.2.2.2.2.2.2.2.2.2.2.2.2.2.2.2.2.1,x1.2.2.2.2.2.2.2.2.2.2.2.2.2.2.2.2.2.1,x1.2.2.2.2.2.2.2.2.2.2.2.2.2.2.2.2.2.2.1,x1.2.2.2.2.2.2.2.2.2.2.2.2.2.2.2.2.2.2.2.1,x1.2.2.2.2.2.2.2.2.2.2.2.2.2.2.2.2.2.2.2.2.1,x1.2.2.2.2.2.2.2.2.2.2.2.2.2.2.2.2.2.2.2.2.2.1,()))else none else none else none
def mj:=kO bi k0
def Fz:Xc vw:=mX prog 6 mj.1 BI [] [] []
theorem kz:aB prog 81 pD eO:=fn0 Fz Tryz.func81 mj.2
def ML:aE vw:={rcut:=yC}
def KY:Sig vw:=sg [wD] yC [.tmp 2]
noncomputable def Az(v:bn×Unit):Option (Int×Unit):=if v.1.signed=true then if 0<=i64.wrap (v.1.bits-1)then some ((Bs.ishl i64 (-1:Int) (i64.wrap (v.1.bits-1)),()))else none else some (((0:Int),()))
def PV:Xc vw:=mX prog 9 c0 ML [] [] []
theorem vU:aB prog 171 KY Az:=fn0 PV Tryz.func171 bG
def ME:aE vw:={rcut:=cE}
def Gx:Sig vw:=sg [wD,Dq1] cE [.tmp 4]
noncomputable def lj(v:bn×Int×Unit):Option (Bool×Unit):=(Az (v.1,())>>=λx1=>if decide (v.2.1>=x1.1)=true then xp (v.1,())>>=λx2=>some ((decide (v.2.1<=x2.1),()))else some ((false,())))>>=λx1=>some (x1)
def zi:=kP vU (kP qA k0)
def PO:Xc vw:=mX prog 15 zi.1 ME [] [(1,cE)] []
theorem lM:aB prog 157 Gx lj:=fn0 PO Tryz.func157 zi.2
def Jw:Cut SN:=⟨[(31,Dq4)],[]⟩
def Jx:Cut SN:=⟨[(8,Dq1)],[]⟩
def MC:aE vw:={rcut:=Jx}
def KS:Sig vw:=sg [Dq1,wD,Dq1,Dq1] Jx [.tmp 8]
abbrev Lf:=Int×bn×Int×Int×Unit
noncomputable def Ax(v:Lf):Option (Int×Unit):=(nr (v.2.1,())>>=λx1=>if(x1.1 !=0)=true then some ((true,()))else if decide (v.1<5)=true then some ((true,()))else if decide (v.1>17)=true then some ((true,()))else lj (v.2.1,v.2.2.1,())>>=λx2=>if(!x2.1)=true then some ((true,()))else lj (v.2.1,v.2.2.2)>>=λx3=>some ((!x3.1,())))>>=λx1=>if x1.1=true then some (((1:Int),()))else some (((0:Int),()))
def zh:=kP hO (kP lM k0)
def PM:Xc vw:=mX prog 32 zh.1 MC [] [(1,Jw)] []
theorem vR:aB prog 155 KS Ax:=fn0 PM Tryz.func155 zh.2
end Go.Proofs.YtcghbgmmgcljkaaGreatDoor
end
