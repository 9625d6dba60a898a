/-
  Texts of this claim, joined by a program of mine: what the theorem uses.
-/
import Derived.Test.YtcghbgmmgcljkaaGreatDoorPkF
import Derived.Test.YtcghbgmmgcljkaaGreatDoorPkC
open ByteArray renaming mk→Z4
open Function renaming comp_apply→abM
open Int renaming toNat→aav
open List renaming all_eq_true→aak,drop→acp,getElem?_cons_zero→aa9,getElem?_map→aaa,getElem?_toArray→ab1,map_map→aaK,mem_map→aaA,mem_of_getElem?→aae,replicate→aap,take→abg
open Nat renaming add_zero→abf,mul_one→acQ
open Option renaming map_eq_some_iff→aaj,map_some→aaz
open Option.some renaming injEq→Z7
open Sum renaming inl→aaL,inr→abc
noncomputable section
set_option linter.unusedVariables false
section
namespace Go.Proofs.YtcghbgmmgcljkaaGreatDoor
open Go.Awp Go.Tx
open IntKind (u8)
open IntKind (i64)
open Go.Proofs.Tryz (prog)
set_option maxHeartbeats 4000000
set_option maxRecDepth 100000
theorem bJ{c:Prop}[Decidable c]{α:Type}{a b x:α}(h:(if c then a else b)=x):(c/\a=x)\/(¬c/\b=x):=by by_cases e:c;exact .inl ⟨e,by rw[<-h,adI e]⟩;exact .inr ⟨e,by rw[<-h,adH e]⟩
abbrev Dq1:Pt SN:= .dat (.int .i64)
abbrev Dq3:Pt SN:= .dat (.sl (.st .myFuncT))
def P7:Cut SN:=⟨[(3,Dq1),(6,Dq3),(7,Dq1),(8,Dq1)],[]⟩
def MN:Cut SN:=⟨[(3,Dq1)],[]⟩
def nh:Cut SN:=⟨[(2,Dq1)],[]⟩
def Yd:aN vw:=shL [(0,MN)] nh
def VK:Sig vw:=sg [Dq3] nh [.tmp 2]
noncomputable def mn(v:Int×(List aB)×Int×Int×Unit):Option ((Int×Unit)):=let a:=v.2.2.2.1;if decide (a<v.2.2.1)=true then if 0<=a then v.2.1[a.toNat]?>>=λx1=>mn (i64.wrap (v.1+(↑x1.code.length:Int)),v.2.1,v.2.2.1,i64.wrap (a+1),())else none else some ((v.1,())) partial_fixpoint
noncomputable def SS(v:(List aB)×Unit):Option (Int×Unit):=mn ((0:Int),v.1,(↑v.1.length:Int),(0:Int),())>>=λx1=>some (x1)
def x46:Xc vw:=mX prog 19 c0 Yd [] [] [(3,⟨P7,[.exit 0],mn⟩)]
theorem EL:gh x46 (aS (aO Tryz.f46) 0) ⟨P7,[.exit 0],mn⟩:=lp0 mn.partial_correctness bT
theorem NP:aM prog 46 VK SS:=fn1 x46 Tryz.func46 bT EL
abbrev Dq4:Pt SN:= .dat .bool
def eO:Cut SN:=⟨[(2,Dq4)],[]⟩
def Ye:aN vw:={rcut:=eO}
abbrev Ce:Pt SN:= .dat (.st .myFuncT)
def VL:Sig vw:=sg [Ce] eO [.tmp 2]
noncomputable def TU(v:aB×Unit):Option (Bool×Unit):=some ((decide (v.1.places>200),()))
def x48:Xc vw:=mX prog 6 c0 Ye [] [] []
theorem NQ:aM prog 48 VL TU:=fn0 x48 Tryz.func48 bT
def yf:Cut SN:=⟨[(0,Dq3),(1, .fn 48 [] []),(7,Dq1),(8,Dq1)],[]⟩
def dX:Cut SN:=⟨[],[]⟩
def bF:Cut SN:=⟨[(4,Dq1)],[]⟩
def Oq:aN vw:=shL [(0,dX)] bF
def JG:Sig vw:=sg [Dq3, .fn 48 [] []] bF [.tmp 4]
abbrev SD:=(List aB)×Int×Int×Unit
noncomputable def eH(v:SD):Option (((Int×Unit)⊕(Unit))):=if decide (v.2.2.1<v.2.1)=true then if 0<=v.2.2.1 then v.1[v.2.2.1.toNat]?>>=λx1=>TU (x1,())>>=λx2=>if x2.1=true then some (aaL v.2.2)else eH (v.1,v.2.1,i64.wrap (v.2.2.1+1),())else none else some (abc ()) partial_fixpoint
noncomputable def w5(v:(List aB)×Unit):Option (Int×Unit):=eH (v.1,(↑v.1.length:Int),(0:Int),())>>=λx1=>match x1 with| .inl y1=>some y1| .inr y1=>some (((-1:Int),()))
def n5:=kP NQ k0
def Ma:Xc vw:=mX prog 19 n5.1 Oq [] [] [(2,⟨yf,[.ret, .exit 0],eH⟩)]
theorem uv:gh Ma (aS (aO Tryz.f65) 0) ⟨yf,[.ret, .exit 0],eH⟩:=lp0 eH.partial_correctness n5.2
theorem A_:aM prog 65 JG w5:=fn1 Ma Tryz.func65 n5.2 uv
def cD:Cut SN:=⟨[(4,Dq4)],[]⟩
def Oo:aN vw:={rcut:=cD}
def JF:Sig vw:=sg [Dq3, .fn 48 [] []] cD [.tmp 4]
noncomputable def sN(v:(List aB)×Unit):Option (Bool×Unit):=w5 v>>=λx1=>some ((decide (x1.1>=0),()))
def tL:=kP A_ k0
def Sz:Xc vw:=mX prog 9 tL.1 Oo [] [] []
theorem A9:aM prog 47 JF sN:=fn0 Sz Tryz.func47 tL.2
abbrev OU:Pt SN:= .dat (.int .u8)
def KY:Cut SN:=⟨[(0, .bp 0 0),(1, .bp 1 0),(2,OU)],[(0, .bar 256 (.int .u8)),(1, .bar 256 (.int .u8))]⟩
def KZ:Cut SN:=⟨[(0, .bp 0 0),(1, .bp 1 0),(3,OU)],[(0, .bar 256 (.int .u8)),(1, .bar 256 (.int .u8))]⟩
def KX:Cut SN:=⟨[(0, .bp 0 0),(1, .bp 1 0)],[(0, .bar 256 (.int .u8)),(1, .bar 256 (.int .u8))]⟩
def PE:Cut SN:=⟨[(0, .bp 0 0)],[(0, .bar 256 (.int .u8))]⟩
def UR:aN vw:=shL [(0,KX),(2,KX)] PE
def RT:Sig vw:=sg [] PE [.cell 0 179]
abbrev OW:=Int×(List Int)×(List Int)×Unit
noncomputable def j2(v:OW):Option (((List Int)×(List Int)×Unit)):=let G1:=(u8.wrap (v.1-97)+65);if decide (v.1<=122)=true then if 0<=v.1/\v.1<(↑(256:Nat):Int)then if v.1.toNat<(256:Nat)then if v.1.toNat<v.2.2.1.length then if 0<=u8.wrap G1/\u8.wrap G1<(↑(256:Nat):Int)then if(u8.wrap G1).toNat<(256:Nat)then if(u8.wrap G1).toNat<(v.2.2.1.set v.1.toNat (2:Int)).length then j2 (u8.wrap (v.1+1),v.2.1,(v.2.2.1.set v.1.toNat (2:Int)).set (u8.wrap G1).toNat (2:Int),())else none else none else none else none else none else none else some (v.2) partial_fixpoint
noncomputable def j3(v:OW):Option (((List Int)×(List Int)×Unit)):=if decide (v.1<=57)=true then if 0<=v.1/\v.1<(↑(256:Nat):Int)then if v.1.toNat<(256:Nat)then if v.1.toNat<v.2.2.1.length then j3 (u8.wrap (v.1+1),v.2.1,v.2.2.1.set v.1.toNat (3:Int),())else none else none else none else some (v.2) partial_fixpoint
noncomputable def Il(v:Unit):Option ((List Int)×Unit):=j2 ((97:Int),aap (256:Nat) (0:Int),(((aap (256:Nat) (0:Int)).set (aav 32) (1:Int)).set (aav 10) (1:Int)).set (aav 95) (2:Int),())>>=λx1=>j3 ((48:Int),x1)>>=λx2=>some (x2.2)
def Ww:Xc vw:=mX prog 24 c0 UR [] [] [(4,⟨KY,[.exit 0],j2⟩),(8,⟨KZ,[.exit 2],j3⟩)]
theorem AO:gh Ww (aS (aO Tryz.f146) 0) ⟨KY,[.exit 0],j2⟩:=lp0 j2.partial_correctness bT
theorem AP:gh Ww (aS (aO Tryz.f146) 1) ⟨KZ,[.exit 2],j3⟩:=lp0 j3.partial_correctness bT
theorem Im:aM prog 146 RT Il:=fn2 Ww Tryz.func146 bT AO AP
abbrev Dq5:Pt SN:= .dat .str
def nY:Cut SN:=⟨[(0, .bp 100000 0),(1,Dq5),(5,Dq1)],[(100000, .bar 256 (.int .u8))]⟩
def vV:Cut SN:=⟨[(0, .bp 100000 0),(1,Dq5),(5,Dq1),(19,Dq4)],[(100000, .bar 256 (.int .u8))]⟩
def vU:Cut SN:=⟨[(0, .bp 100000 0),(5,Dq1)],[(100000, .bar 256 (.int .u8))]⟩
def qw:Cut SN:=⟨[(0, .bp 100000 0),(4,Dq1)],[(100000, .bar 256 (.int .u8))]⟩
def BE:aN vw:=shL [(0,vU)] qw
def xA:Sig vw:={params:=[.bp 100000 0,Dq5],objs:=[(100000, .bar 256 (.int .u8))],rcut:=qw,rvars:=[.tmp 4],keep:=[100000]}
noncomputable def dt(v:ByteArray×Int×(List Int)×Unit):Option ((Int×(List Int)×Unit)):=(if decide (v.2.1<(↑v.1.size:Int))=true then if 0<=v.2.1 then v.1[v.2.1.toNat]?>>=λx1=>if 0<=(↑x1.toNat:Int)/\(↑x1.toNat:Int)<(↑(256:Nat):Int)then if(↑x1.toNat:Int).toNat<(256:Nat)then v.2.2.1[(↑x1.toNat:Int).toNat]?>>=λx2=>some ((v.1,v.2.1,decide (x2>=2),v.2.2))else none else none else none else some (v.1,v.2.1,false,v.2.2))>>=λx1=>if x1.2.2.1=true then dt (x1.1,i64.wrap (x1.2.1+1),x1.2.2.2)else some (x1.2.1,x1.2.2.2) partial_fixpoint
noncomputable def lR(v:ByteArray×(List Int)×Unit):Option (Int×(List Int)×Unit):=dt (v.1,(0:Int),v.2)>>=λx1=>some (x1)
def vy:Xc vw:=mX prog 23 c0 BE [] [(2,vV)] [(2,⟨nY,[.exit 0],dt⟩)]
theorem o9:gh vy (aS (aO Tryz.f147) 0) ⟨nY,[.exit 0],dt⟩:=lp0 dt.partial_correctness bT
theorem sL:aM prog 147 xA lR:=fn1 vy Tryz.func147 bT o9
def Ur:aN vw:={rcut:=eO}
def Rt:Sig vw:=sg [Dq5] eO [.tmp 2]
noncomputable def HQ(v:ByteArray×Unit):Option (Bool×Unit):=Il ()>>=λx1=>(if(!v.1.toList==(Z4 #[]).toList)=true then v.1[aav 0]?>>=λx2=>if 0<=(↑x2.toNat:Int)/\(↑x2.toNat:Int)<(↑(256:Nat):Int)then if(↑x2.toNat:Int).toNat<(256:Nat)then x1.1[(↑x2.toNat:Int).toNat]?>>=λx3=>if(x3==2)=true then lR (v.1,x1)>>=λx4=>some ((x4.1==(↑v.1.size:Int),()))else some ((false,()))else none else none else some ((false,())))>>=λx2=>some (x2)
def CL:=kP Im (kO sL k0)
def Zb:Xc vw:=mX prog 21 CL.1 Ur [] [(2,eO)] []
theorem HR:aM prog 113 Rt HQ:=fn0 Zb Tryz.func113 CL.2
abbrev KI:Pt SN:= .dat (.sl .str)
def K4:Cut SN:=⟨[(0,KI),(1,Dq5),(7,Dq1),(8,Dq1)],[]⟩
def U5:aN vw:=shL [(0,dX)] bF
def R7:Sig vw:=sg [KI,Dq5] bF [.tmp 4]
noncomputable def ic(v:(List ByteArray)×ByteArray×Int×Int×Unit):Option (((Int×Unit)⊕(Unit))):=let a:=v.2.2;if decide (a.2.1<a.1)=true then if 0<=a.2.1 then v.1[a.2.1.toNat]?>>=λx1=>if(v.2.1.toList==x1.toList)=true then some (aaL a.2)else ic (v.1,v.2.1,a.1,i64.wrap (a.2.1+1),())else none else some (abc ()) partial_fixpoint
noncomputable def Nx(v:(List ByteArray)×ByteArray×Unit):Option (Int×Unit):=ic (v.1,v.2.1,(↑v.1.length:Int),(0:Int),())>>=λx1=>match x1 with| .inl y1=>some y1| .inr y1=>some (((-1:Int),()))
def Xg:Xc vw:=mX prog 19 c0 U5 [] [] [(2,⟨K4,[.ret, .exit 0],ic⟩)]
theorem AW:gh Xg (aS (aO Tryz.f162) 0) ⟨K4,[.ret, .exit 0],ic⟩:=lp0 ic.partial_correctness bT
theorem IB:aM prog 162 R7 Nx:=fn1 Xg Tryz.func162 bT AW
def US:aN vw:={rcut:=cD}
def RU:Sig vw:=sg [KI,Dq5] cD [.tmp 4]
noncomputable def Nr(v:(List ByteArray)×ByteArray×Unit):Option (Bool×Unit):=Nx v>>=λx1=>some ((decide (x1.1>=0),()))
def C3:=kP IB k0
def Zz:Xc vw:=mX prog 9 C3.1 US [] [] []
theorem Io:aM prog 148 RU Nr:=fn0 Zz Tryz.func148 C3.2
def Ti:Cut SN:=⟨[(2,KI)],[]⟩
def RV:Sig vw:=sg [Dq5] Ti [.tmp 2]
noncomputable def Eo(v:ByteArray×Unit):Option ((List ByteArray)×Unit):=if v.1.size<4294967281/\v.1.data.toList.all (λb=>decide (b.toNat<128))=true then some ((Lib.fields v.1.data.toList).map (λl=>(⟨l.toArray⟩:ByteArray)),())else none
theorem Ip:aM prog 149 RV Eo:=λv r x h hx=>by
 obtain⟨s,u⟩:=v
 unfold Eo at h
 split at h
 ·rename_i hc
  obtain⟨h0,h1⟩:=hc
  simp only at h0 h1
  cases h;cases hx
  exact fG (by kernel_rfl) (ma.newRow (P:=prog) (f:=149) (args:=[.d (.v (.string s))]) (sz:=1) (rows:=((Lib.fields s.data.toList).map λl=>(⟨l.toArray⟩:ByteArray)).map λy=>[D.v (.string y)]) (by kernel_rfl) (λr hr=>by obtain⟨_,_,rfl⟩:=aaA.1 hr;rfl) λE M w vs hg hm hv=>by
   obtain⟨v1,rfl,h2⟩:=DJ hv
   rw[h2.dv]
   refine(Tryz.strings_Fields s w h0 (λj b hb=>of_decide_eq_true (aak.1 h1 b (aae hb))) (Gb hg hm)).mono λe w' ⟨he,hw⟩=>⟨_,_,by rw[he];simp,hw,by simp,λi j r c x hr hx hc=> ?_⟩
   rw[aaK,aaa,aaj]at hr
   obtain⟨l,hl,rfl⟩:=hr
   cases j with
   |zero=>
    simp only[abM,aa9,Z7]at hx
    subst hx
    simp only[acQ,abf,ab1,aaa,hl,aaz,Z7]at hc
    subst hc
    exact .v _
   |succ j=>simp at hx)
 ·cases h
def Us:aN vw:={rcut:=eO}
def Ru:Sig vw:=sg [Dq5] eO [.tmp 2]
noncomputable def HS(v:ByteArray×Unit):Option (Bool×Unit):=Eo (Z4 (([(102:UInt8),(110:UInt8),(32:UInt8),(99:UInt8),(111:UInt8),(110:UInt8),(115:UInt8),(116:UInt8),(32:UInt8),(118:UInt8),(97:UInt8),(114:UInt8),(32:UInt8),(99:UInt8),(111:UInt8),(109:UInt8),(112:UInt8),(116:UInt8),(105:UInt8),(109:UInt8),(101:UInt8),(32:UInt8),(114:UInt8),(101:UInt8),(116:UInt8),(117:UInt8),(114:UInt8),(110:UInt8),(32:UInt8),(101:UInt8),(114:UInt8),(114:UInt8),(111:UInt8),(114:UInt8),(32:UInt8),(105:UInt8),(102:UInt8),(32:UInt8),(101:UInt8),(108:UInt8),(115:UInt8),(101:UInt8)].append [(32:UInt8),(119:UInt8),(104:UInt8),(105:UInt8),(108:UInt8),(101:UInt8),(32:UInt8),(102:UInt8),(111:UInt8),(114:UInt8),(32:UInt8),(105:UInt8),(110:UInt8),(108:UInt8),(105:UInt8),(110:UInt8),(101:UInt8),(32:UInt8),(115:UInt8),(119:UInt8),(105:UInt8),(116:UInt8),(99:UInt8),(104:UInt8),(32:UInt8),(100:UInt8),(101:UInt8),(102:UInt8),(101:UInt8),(114:UInt8),(32:UInt8),(101:UInt8),(114:UInt8),(114:UInt8),(100:UInt8),(101:UInt8),(102:UInt8),(101:UInt8),(114:UInt8),(32:UInt8),(98:UInt8),(114:UInt8)]).append ([(101:UInt8),(97:UInt8),(107:UInt8),(32:UInt8),(99:UInt8),(111:UInt8),(110:UInt8),(116:UInt8),(105:UInt8),(110:UInt8),(117:UInt8),(101:UInt8),(32:UInt8),(103:UInt8),(105:UInt8),(118:UInt8),(101:UInt8),(32:UInt8),(117:UInt8),(110:UInt8),(114:UInt8),(101:UInt8),(97:UInt8),(99:UInt8),(104:UInt8),(97:UInt8),(98:UInt8),(108:UInt8),(101:UInt8),(32:UInt8),(116:UInt8),(114:UInt8),(117:UInt8),(101:UInt8),(32:UInt8),(102:UInt8),(97:UInt8),(108:UInt8),(115:UInt8),(101:UInt8),(32:UInt8),(97:UInt8)].append [(110:UInt8),(100:UInt8),(32:UInt8),(111:UInt8),(114:UInt8),(32:UInt8),(116:UInt8),(114:UInt8),(121:UInt8),(32:UInt8),(99:UInt8),(97:UInt8),(116:UInt8),(99:UInt8),(104:UInt8),(32:UInt8),(111:UInt8),(114:UInt8),(101:UInt8),(108:UInt8),(115:UInt8),(101:UInt8),(32:UInt8),(100:UInt8),(111:UInt8),(32:UInt8),(118:UInt8),(111:UInt8),(105:UInt8),(100:UInt8),(32:UInt8),(98:UInt8),(111:UInt8),(111:UInt8),(108:UInt8),(32:UInt8),(116:UInt8),(121:UInt8),(112:UInt8),(101:UInt8),(32:UInt8),(95:UInt8)])).toArray,())>>=λx1=>Nr (x1.1,v)>>=λx2=>some (x2)
def CM:=kP Io (kP Ip k0)
def Zc:Xc vw:=mX prog 6 CM.1 Us [] [] []
theorem HT:aM prog 114 Ru HS:=fn0 Zc Tryz.func114 CM.2
def U6:aN vw:={rcut:=eO}
def R8:Sig vw:=sg [Dq1] eO [.tmp 2]
noncomputable def Ny(v:Int×Unit):Option (Bool×Unit):=(if decide (v.1>=2)=true then some ((decide (v.1<=16),()))else some ((false,())))>>=λx1=>some (x1)
def ZI:Xc vw:=mX prog 9 c0 U6 [] [(1,eO)] []
theorem IC:aM prog 165 R8 Ny:=fn0 ZI Tryz.func165 bT
def Vr:aN vw:={rcut:=cD}
def Sj:Sig vw:=sg [Dq5,Dq5] cD [.tmp 4]
noncomputable def NC(v:ByteArray×ByteArray×Unit):Option (Bool×Unit):=(if decide ((↑v.1.size:Int)>=(↑v.2.1.size:Int))=true then if(0:Int)<=0/\0<=(↑v.2.1.size:Int)/\(↑v.2.1.size:Int)<=(↑v.1.size:Int)then some (((v.1.extract (aav 0) (↑v.2.1.size:Int).toNat).toList==v.2.1.toList,()))else none else some ((false,())))>>=λx1=>some (x1)
def Z2:Xc vw:=mX prog 18 c0 Vr [] [(1,cD)] []
theorem I6:aM prog 193 Sj NC:=fn0 Z2 Tryz.func193 bT
def tA:Cut SN:=⟨[(4,Dq5)],[]⟩
def Vd:aN vw:={rcut:=tA}
def Sd:Sig vw:=sg [Dq5,Dq5] tA [.tmp 4]
noncomputable def NA(v:ByteArray×ByteArray×Unit):Option (ByteArray×Unit):=NC v>>=λx1=>if x1.1=true then if 0<=(↑v.2.1.size:Int)/\(↑v.2.1.size:Int)<=(↑v.1.size:Int)/\(↑v.1.size:Int)<=(↑v.1.size:Int)then some ((v.1.extract (↑v.2.1.size:Int).toNat (↑v.1.size:Int).toNat,()))else none else some ((v.1,()))
def Da:=kP I6 k0
def ZP:Xc vw:=mX prog 13 Da.1 Vd [] [] []
theorem IK:aM prog 176 Sd NA:=fn0 ZP Tryz.func176 Da.2
def U7:aN vw:={rcut:=tA}
def R9:Sig vw:=sg [Dq5,Dq5] tA [.tmp 4]
noncomputable def ID(v:ByteArray×ByteArray×Unit):Option (ByteArray×Unit):=NA v>>=λx1=>some (x1)
def C8:=kP IK k0
def ZJ:Xc vw:=mX prog 8 C8.1 U7 [] [] []
theorem IE:aM prog 166 R9 ID:=fn0 ZJ Tryz.func166 C8.2
def Se:Sig vw:=sg [Dq5,OU] bF [.tmp 4]
noncomputable def NB(v:ByteArray×Int×Unit):Option (Int×Unit):=some (Lib.indexByte v.1.data.toList v.2.1.toNat.toUInt8,())
theorem IL:aM prog 177 Se NB:=λv r x h hx=>by
 obtain⟨s,c,u⟩:=v
 cases h;cases hx
 exact fG (by kernel_rfl) (ma.pure (P:=prog) (f:=177) (args:=[.d (.v (.string s)), .d (.v (.int .u8 c))]) (r:= .d (.v (.int .i64 (Lib.indexByte s.data.toList c.toNat.toUInt8)))) (by kernel_rfl) λE M w vs _ _ hv=>by
  obtain⟨v1,v2,rfl,h1,h2⟩:=DK hv
  rw[h1.dv,h2.dv]
  exact(Tryz.stringslite_IndexByte s c w).mono λe w' ⟨he,hw⟩=>⟨_,he, .d (.v _),hw▸Go.RowKit.Below.refl _ _⟩)
def U8:aN vw:={rcut:=bF}
def R_:Sig vw:=sg [Dq5,OU] bF [.tmp 4]
noncomputable def Nz(v:ByteArray×Int×Unit):Option (Int×Unit):=NB v>>=λx1=>some (x1)
def C9:=kP IL k0
def ZK:Xc vw:=mX prog 8 C9.1 U8 [] [] []
theorem IF:aM prog 167 R_ Nz:=fn0 ZK Tryz.func167 C9.2
def ir:Cut SN:=⟨[(0,Dq1),(1,Dq1),(5,Dq5)],[]⟩
def K5:Cut SN:=⟨[(0,Dq1),(5,Dq5)],[]⟩
def JD:aN vw:=shL [(0,K5)] tA
def iv:Sig vw:=sg [Dq1,Dq1] tA [.tmp 4]
abbrev xW:=Int×Int×ByteArray×Unit
noncomputable def dE(v:xW):Option ((Int×ByteArray×Unit)):=let a:=v.2.1;if decide (v.1>=a)=true then if a=0 then none else if 0<=v.1.tmod a then(Z4 #[48,49,50,51,52,53,54,55,56,57,97,98,99,100,101,102])[(v.1.tmod a).toNat]?>>=λx1=>if(Bs.enc1 (↑x1.toNat:Int)).size+v.2.2.1.size<=4294967296 then if a=0 then none else dE (i64.wrap (v.1.tdiv a),a,Bs.enc1 (↑x1.toNat:Int)++v.2.2.1,())else none else none else some (v.1,v.2.2) partial_fixpoint
noncomputable def qe(v:Int×Int×Unit):Option (ByteArray×Unit):=if decide (v.1<0)=true then qe (i64.wrap ((0:Int) -v.1),v.2)>>=λx1=>if(Z4 #[45]).size+x1.1.size<=4294967296 then some ((Z4 #[45]++x1.1,()))else none else dE (v.1,v.2.1,Z4 #[],())>>=λx1=>if 0<=x1.1 then(Z4 #[48,49,50,51,52,53,54,55,56,57,97,98,99,100,101,102])[x1.1.toNat]?>>=λx2=>if(Bs.enc1 (↑x2.toNat:Int)).size+x1.2.1.size<=4294967296 then some ((Bs.enc1 (↑x2.toNat:Int)++x1.2.1,()))else none else none partial_fixpoint
def wh(dE:xW->Option ((Int×ByteArray×Unit)))(qe:Int×Int×Unit->Option (ByteArray×Unit)):dh vw:=λA fid args S k=>match fid with|168=>ct prog iv qe A args S k|_=>none
def zJ(dE:xW->Option ((Int×ByteArray×Unit)))(qe:Int×Int×Unit->Option (ByteArray×Unit)):Xc vw:={P:=prog,n:=31,call:=wh dE qe,pre:=Jo,sh:=JD,loops:=λk=>match k with|4=>some {cut:=ir,alts:=[.exit 0],F:=dE}|_=>none}
abbrev nA(v:xW)(r:(Int×ByteArray×Unit)):Prop:=(λv out=>∀C:Ctx,C.P=prog->C.N=31/\Fx C Jo->pX C (aS (aO Tryz.f168) 0) (Go.Tx.a_ vw (fk vw ir v)) (xV JD [.exit 0] out)) v r
theorem GZ(f0:xW->Option ((Int×ByteArray×Unit)))(h0:∀v r,f0 v=some r->nA v r):bG prog (zJ f0 (λ_=>none)).call:=(by
 intro A fid args S dst k r h
 unfold zJ wh at h
 simp only at h
 split at h
 ·exact aR ((λv r x h hx=>by cases h)) rfl rfl h
 ·cases h)
theorem JI(f0:xW->Option ((Int×ByteArray×Unit)))(h0:∀v r,f0 v=some r->nA v r)(v:xW)(r:(Int×ByteArray×Unit))(h:exL (zJ f0 (λ_=>none)) (aS (aO Tryz.f168) 0) ir [.exit 0] f0 v=some r):nA v r:=λC hP hN=>gM (X:=zJ f0 (λ_=>none)) (b:=(aS (aO Tryz.f168) 0)) hP hN Ty.mixed (GZ f0 h0) (eT (X:=zJ f0 (λ_=>none)) (c:=(aS (aO Tryz.f168) 0)) (fG (by kernel_rfl:True=pW (e7 C (zJ f0 (λ_=>none))) (cz (aS (aO Tryz.f168) 0))) trivial)) (cut:=ir) (alts:=[.exit 0]) (F:=f0) (λv out h=>h0 v out h C hP hN) h
theorem AX:∀v out,dE v=some out->(λv out=>∀C:Ctx,C.P=prog->C.N=31/\Fx C Jo->pX C (aS (aO Tryz.f168) 0) (Go.Tx.a_ vw (fk vw ir v)) (xV JD [.exit 0] out)) v out:=(dE.partial_correctness (motive:=nA) (λf0 h0 v r h=>JI f0 h0 v r (fG (by kernel_rfl) h)))
abbrev yM(v:Int×Int×Unit)(r:ByteArray×Unit):Prop:=(λv r=>∀x,GD prog iv r=some x->ma prog 168 (encL vw (cC iv v).len (d7 iv v).1) (eP (cC iv v).len (cC iv v).own) (aL vw (fk vw iv.rcut r).len x) (eP (fk vw iv.rcut r).len (qd iv r))) v r
theorem Qs(f0:Int×Int×Unit->Option (ByteArray×Unit))(h0:∀v r,f0 v=some r->yM v r):bG prog (zJ dE f0).call:=(by
 intro A fid args S dst k r h
 unfold zJ wh at h
 simp only at h
 split at h
 ·exact aR ((λv r x h hx=>h0 v r h x hx)) rfl rfl h
 ·cases h)
theorem Sr(f0:Int×Int×Unit->Option (ByteArray×Unit))(h0:∀v r,f0 v=some r->yM v r)(v:Int×Int×Unit)(r:ByteArray×Unit)(h:exF (zJ dE f0) iv rfl (aO Tryz.f168) v=some r):yM v r:=λx hx=>Ay (X:=zJ dE f0) (sig:=iv) rfl Tryz.func168 (c:=aO Tryz.f168) (by kernel_rfl) Tryz.ntmps168 (by kernel_rfl) (by kernel_rfl) rfl Ty.mixed (Qs f0 h0) rfl (λC hP hN=>(eT (X:=zJ dE f0) (c:=(aO Tryz.f168)) (fG (by kernel_rfl:pW (e7 C (zJ dE f0)) [(aS (aO Tryz.f168) 0)]=pW (e7 C (zJ dE f0)) (cz (aO Tryz.f168))) ⟨iY (X:=zJ dE f0) (b:=(aS (aO Tryz.f168) 0)) (by kernel_rfl) (show gD C (aS (aO Tryz.f168) 0) (sh:=JD) {cut:=ir,alts:=[.exit 0],F:=dE}fromλv out h=>AX v out h C hP hN),trivial⟩))) h x hx
theorem IG:aM prog 168 iv qe:=λv r x h hx=>(qe.partial_correctness (motive:=yM) (λf0 h0 v r h=>Sr f0 h0 v r (fG (by kernel_rfl) h))) v r h x hx
def K0:Cut SN:=⟨[(0,Dq5),(1,Dq1),(6,Dq1),(7,Dq5),(16,Dq1),(17,Dq1)],[]⟩
def MI:Cut SN:=⟨[(0,Dq5),(1,Dq1),(6,Dq1)],[]⟩
def PG:Cut SN:=⟨[(0,Dq5),(1,Dq1),(6,Dq1),(7,Dq5),(9,Dq1),(16,Dq1),(17,Dq1),(31,Dq4)],[]⟩
def MJ:Cut SN:=⟨[(6,Dq1),(57,Dq4)],[]⟩
def PF:Cut SN:=⟨[(0,Dq5),(1,Dq1),(6,Dq1),(7,Dq5)],[]⟩
def GT:Cut SN:=⟨[(4,Dq1),(5,Dq1)],[]⟩
def UT:aN vw:=shL [(0,PF)] GT
def RW:Sig vw:=sg [Dq5,Dq1] GT [.tmp 4, .tmp 5]
noncomputable def i8(v:ByteArray×Int×Int×ByteArray×Int×Int×Unit):Option (((Int×Int×Unit)⊕(ByteArray×Int×Int×ByteArray×Unit))):=let a:=v.2.2.2;let b:=a.2.2.1;let G1:=(Z4 #[48,49,50,51,52,53,54,55,56,57,97,98,99,100,101,102]);if decide (b<a.2.1)=true then if(0:Int)<=0/\0<=v.2.1/\v.2.1<=(↑G1.size:Int)then if 0<=b then a.1[b.toNat]?>>=λx1=>Nz (G1.extract (aav 0) v.2.1.toNat,(↑x1.toNat:Int),())>>=λx2=>(if decide (x2.1<0)=true then some ((v.1,v.2.1,v.2.2.1,a.1,x2.1,a.2.1,b,true,()))else some ((v.1,v.2.1,v.2.2.1,a.1,x2.1,a.2.1,b,decide (v.2.2.1>1099511627776),())))>>=λx3=>let c:=x3.2.2.2;if c.2.2.2.2.1=true then some (aaL ((0:Int),(2:Int),()))else i8 (x3.1,x3.2.1,i64.wrap (i64.wrap (x3.2.2.1 *x3.2.1)+c.2.1),c.1,c.2.2.1,i64.wrap (c.2.2.2.1+1),())else none else none else some (abc (v.1,v.2.1,v.2.2.1,a.1,())) partial_fixpoint
noncomputable def Iq(v:ByteArray×Int×Unit):Option (Int×Int×Unit):=Ny v.2>>=λx1=>if(!x1.1)=true then some (((0:Int),(1:Int),()))else ID (v.1,Z4 #[45],())>>=λx2=>i8 (v.1,v.2.1,(0:Int),x2.1,(↑x2.1.size:Int),(0:Int),())>>=λx3=>match x3 with| .inl y3=>some y3| .inr y3=>(if decide ((↑y3.2.2.2.1.size:Int)<(↑y3.1.size:Int))=true then some ((y3.1,y3.2.1,i64.wrap ((0:Int) -y3.2.2.1),()))else some ((y3.1,y3.2.1,y3.2.2.1,())))>>=λx4=>let a:=x4.2.2.1;(if decide (a<(-1099511627776:Int))=true then some ((a,true,()))else if decide (a>1099511627776)=true then some ((a,true,()))else qe (a,x4.2.1,())>>=λx5=>some ((a,!x5.1.toList==x4.1.toList,())))>>=λx5=>if x5.2.1=true then some (((0:Int),(2:Int),()))else some ((x5.1,(0:Int),()))
def wa:=kP IC (kP IE (kP IF (kP IG k0)))
def Xb:Xc vw:=mX prog 59 wa.1 UT [(15,MI,[.norm])] [(9,PG),(15,MJ)] [(6,⟨K0,[.ret, .exit 0],i8⟩)]
theorem AQ:gh Xb (aS (aO Tryz.f150) 0) ⟨K0,[.ret, .exit 0],i8⟩:=lp0 i8.partial_correctness wa.2
theorem Ir:aM prog 150 RW Iq:=fn1 Xb Tryz.func150 wa.2 AQ
def PH:Cut SN:=⟨[(10,Dq4)],[]⟩
def UU:aN vw:={rcut:=nh}
abbrev nd:Pt SN:= .dat (.st .myIntT)
def RX:Sig vw:=sg [nd] nh [.tmp 2]
noncomputable def o_(v:bB×Unit):Option (Int×Unit):=(if decide (v.1.bits<1)=true then some ((true,()))else some ((decide (v.1.bits>31),())))>>=λx1=>if x1.1=true then some (((1:Int),()))else some (((0:Int),()))
def ZA:Xc vw:=mX prog 11 c0 UU [] [(1,PH)] []
theorem jz:aM prog 151 RX o_:=fn0 ZA Tryz.func151 bT
def Pp:Cut SN:=⟨[(0,Dq5),(2, .bp 2 0),(19,Dq4)],[(2, .st .myIntT)]⟩
def Pq:Cut SN:=⟨[(2, .bp 2 0),(6, .bp 6 0),(38,Dq4)],[(2, .st .myIntT),(6, .st .myIntT)]⟩
def GQ:Cut SN:=⟨[(2, .bp 2 0),(3,Dq1)],[(2, .st .myIntT)]⟩
def Ut:aN vw:={rcut:=GQ}
def Rv:Sig vw:=sg [Dq5] GQ [.cell 2 135, .tmp 3]
noncomputable def HU(v:ByteArray×Unit):Option (Int×bB×Unit):=let G1:=(bB.mk false (0:Int),());(if decide ((↑v.1.size:Int)<2)=true then some (v.1,true,G1)else v.1[aav 0]?>>=λx1=>if((↑x1.toNat:Int) !=117)=true then v.1[aav 0]?>>=λx2=>some ((v.1,(↑x2.toNat:Int) !=105,G1))else some (v.1,false,G1))>>=λx1=>if x1.2.1=true then some (((2:Int),G1))else if(0:Int)<=1/\(1:Int)<=(↑x1.1.size:Int)/\(↑x1.1.size:Int)<=(↑x1.1.size:Int)then Iq (x1.1.extract (aav 1) (↑x1.1.size:Int).toNat,(10:Int),())>>=λx2=>x1.1[aav 0]?>>=λx3=>(if(x2.2.1 !=0)=true then some ((true,x1.2.2.1,bB.mk ((↑x3.toNat:Int)==105) x2.1,()))else o_ (bB.mk ((↑x3.toNat:Int)==105) x2.1,())>>=λx4=>some ((x4.1 !=0,x1.2.2.1,bB.mk ((↑x3.toNat:Int)==105) x2.1,())))>>=λx4=>if x4.1=true then some (((2:Int),G1))else some (((0:Int),x4.2.2))else none
def CN:=kP Ir (kP jz k0)
def Zd:Xc vw:=mX prog 41 CN.1 Ut [] [(1,Pp),(5,Pq)] []
theorem HV:aM prog 115 Rv HU:=fn0 Zd Tryz.func115 CN.2
def Qi:Cut SN:=⟨[(0,Dq5),(16,Dq4)],[]⟩
def Yu:aN vw:={rcut:=eO}
def VW:Sig vw:=sg [Dq5] eO [.tmp 2]
noncomputable def O3(v:ByteArray×Unit):Option (Bool×Unit):=(if decide ((↑v.1.size:Int)>8)=true then some ((v.1,true,()))else HQ v>>=λx1=>if(!x1.1)=true then some ((v.1,true,()))else HS v>>=λx2=>some (v.1,x2))>>=λx1=>if x1.2.1=true then some ((false,()))else HU (x1.1,())>>=λx2=>some ((x2.1 !=0,()))
def Lu:=kP HR (kP HT (kP HV k0))
def x66:Xc vw:=mX prog 24 Lu.1 Yu [] [(1,Qi)] []
theorem w6:aM prog 66 VW O3:=fn0 x66 Tryz.func66 Lu.2
def iJ:Cut SN:=⟨[(6,Dq4)],[]⟩
def Yv:aN vw:={rcut:=iJ}
def VX:Sig vw:=sg [Dq1,Dq1,Dq1] iJ [.tmp 6]
abbrev Cg:=Int×Int×Int×Unit
noncomputable def GB(v:Cg):Option (Bool×Unit):=(if decide (v.1>=v.2.1)=true then some ((decide (v.1<=v.2.2.1),()))else some ((false,())))>>=λx1=>some (x1)
def x67:Xc vw:=mX prog 15 c0 Yv [] [(1,iJ)] []
theorem ET:aM prog 67 VX GB:=fn0 x67 Tryz.func67 bT
def UV:aN vw:={rcut:=eO}
def RY:Sig vw:=sg [Dq1] eO [.tmp 2]
noncomputable def Nt(v:Int×Unit):Option (Bool×Unit):=(if(v.1==2)=true then some ((true,()))else some ((v.1==3,())))>>=λx1=>some (x1)
def ZB:Xc vw:=mX prog 9 c0 UV [] [(1,eO)] []
theorem Is:aM prog 152 RY Nt:=fn0 ZB Tryz.func152 bT
def vW:Cut SN:=⟨[(2, .bp 2 0)],[(2, .st .myIntT)]⟩
def UW:aN vw:={rcut:=vW}
abbrev vE:Pt SN:= .dat (.st .myTypeT)
def RZ:Sig vw:=sg [vE] vW [.cell 2 135]
noncomputable def Nu(v:aF×Unit):Option (bB×Unit):=some ((bB.mk (v.1.base==3) v.1.bits,()))
def ZC:Xc vw:=mX prog 9 c0 UW [] [] []
theorem It:aM prog 153 RZ Nu:=fn0 ZC Tryz.func153 bT
def Pr:Cut SN:=⟨[(1, .bp 1 0),(33,Dq4)],[(1, .st .myTypeT)]⟩
def Uu:aN vw:={rcut:=eO}
def Rw:Sig vw:=sg [vE] eO [.tmp 2]
noncomputable def HW(v:aF×Unit):Option (Bool×Unit):=let G1:=(false,());(if decide (v.1.base<0)=true then some (true,v)else if decide (v.1.base>5)=true then some (true,v)else if v.1.opt=true then if(v.1.base==0)=true then some (true,v)else if(v.1.base==4)=true then some (true,v)else if v.1.err=true then some (v.1.base==4,v)else some (false,v)else if v.1.err=true then some (v.1.base==4,v)else some (false,v))>>=λx1=>let a:=x1.2.1;if x1.1=true then some (G1)else Nt (a.base,())>>=λx2=>if x2.1=true then(Nu x1.2>>=λx3=>o_ x3>>=λx4=>if(x4.1==0)=true then some ((a.name0.toList==(Z4 #[]).toList,()))else some (G1))>>=λx3=>some (x3)else(if(a.bits==0)=true then if(a.base==5)=true then O3 (a.name0,())>>=λx3=>if x3.1=true then some ((true,()))else if(a.base !=5)=true then some ((a.name0.toList==(Z4 #[]).toList,()))else some (G1)else if(a.base !=5)=true then some ((a.name0.toList==(Z4 #[]).toList,()))else some (G1)else some (G1))>>=λx3=>some (x3)
def CO:=kP w6 (kP jz (kP Is (kP It k0)))
def Ze:Xc vw:=mX prog 69 CO.1 Uu [] [(1,Pr),(4,eO),(5,eO)] []
theorem HX:aM prog 116 Rw HW:=fn0 Ze Tryz.func116 CO.2
def Yw:aN vw:={rcut:=nh}
def VY:Sig vw:=sg [vE] nh [.tmp 2]
noncomputable def QV(v:aF×Unit):Option (Int×Unit):=HW v>>=λx1=>if(!x1.1)=true then some (((1:Int),()))else some (((0:Int),()))
def Lv:=kP HX k0
def x68:Xc vw:=mX prog 6 Lv.1 Yw [] [] []
theorem EU:aM prog 68 VY QV:=fn0 x68 Tryz.func68 Lv.2
def Uw:aN vw:={rcut:=eO}
def Ry:Sig vw:=sg [vE] eO [.tmp 2]
noncomputable def Ei(v:aF×Unit):Option (Bool×Unit):=(QV v>>=λx1=>if(x1.1==0)=true then if(!v.1.opt)=true then some ((!v.1.err,()))else some ((false,()))else some ((false,())))>>=λx1=>some (x1)
def CQ:=kP EU k0
def Zg:Xc vw:=mX prog 16 CQ.1 Uw [] [(1,eO)] []
theorem yR:aM prog 119 Ry Ei:=fn0 Zg Tryz.func119 CQ.2
def Uv:aN vw:={rcut:=eO}
def Rx:Sig vw:=sg [vE] eO [.tmp 2]
noncomputable def AJ(v:aF×Unit):Option (Bool×Unit):=(Ei v>>=λx1=>if x1.1=true then if(v.1.base==2)=true then some ((true,()))else some ((v.1.base==3,()))else some ((false,())))>>=λx1=>some (x1)
def CP:=kP yR k0
def Zf:Xc vw:=mX prog 15 CP.1 Uv [] [(1,eO)] []
theorem HY:aM prog 118 Rx AJ:=fn0 Zf Tryz.func118 CP.2
def tH:Cut SN:=⟨[(1, .bp 100000 0),(3,Dq4)],[(100000, .box none [Dq5])]⟩
def FK:aN vw:={rcut:=tH}
def BJ:Sig vw:={params:=[Ce, .bp 100000 0],objs:=[(100000, .box none [Dq5])],rcut:=tH,rvars:=[.tmp 3],keep:=[100000]}
noncomputable def pd(v:aB×ByteArray×Unit):Option (Bool×ByteArray×Unit):=some (v.1.name0.toList==v.2.1.toList,v.2)
def Kk:Xc vw:=mX prog 8 c0 FK [] [] []
theorem uz:aM prog 72 BJ pd:=fn0 Kk Tryz.func72 bT
def qz:Cut SN:=⟨[(0,Dq3),(1, .fn 72 [] [100000]),(7,Dq1),(8,Dq1)],[(100000, .box none [Dq5])]⟩
def Af:Cut SN:=⟨[(1, .fn 72 [] [100000])],[(100000, .box none [Dq5])]⟩
def tF:Cut SN:=⟨[(1, .fn 72 [] [100000]),(4,Dq1)],[(100000, .box none [Dq5])]⟩
def FH:aN vw:=shL [(0,Af)] tF
def BG:Sig vw:={params:=[Dq3, .fn 72 [] [100000]],objs:=[(100000, .box none [Dq5])],rcut:=tF,rvars:=[.tmp 4],keep:=[100000]}
noncomputable def dU(v:(List aB)×Int×Int×ByteArray×Unit):Option (((Int×ByteArray×Unit)⊕(ByteArray×Unit))):=let a:=v.2.2;if decide (a.1<v.2.1)=true then if 0<=a.1 then v.1[a.1.toNat]?>>=λx1=>pd (x1,a.2)>>=λx2=>if x2.1=true then some (aaL (a.1,x2.2))else dU (v.1,v.2.1,i64.wrap (a.1+1),x2.2)else none else some (abc a.2) partial_fixpoint
noncomputable def pb(v:(List aB)×ByteArray×Unit):Option (Int×ByteArray×Unit):=dU (v.1,(↑v.1.length:Int),(0:Int),v.2)>>=λx1=>match x1 with| .inl y1=>some y1| .inr y1=>some (((-1:Int),y1))
def jT:=kO uz k0
def zM:Xc vw:=mX prog 19 jT.1 FH [] [] [(2,⟨qz,[.ret, .exit 0],dU⟩)]
theorem qi:gh zM (aS (aO Tryz.f65) 0) ⟨qz,[.ret, .exit 0],dU⟩:=lp0 dU.partial_correctness jT.2
theorem uw:aM prog 65 BG pb:=fn1 zM Tryz.func65 jT.2 qi
def Yg:aN vw:={rcut:=bF}
def VN:Sig vw:=sg [Dq3,Dq5] bF [.tmp 4]
noncomputable def O0(v:(List aB)×ByteArray×Unit):Option (Int×Unit):=pb v>>=λx1=>some ((x1.1,()))
def Lm:=kO uw k0
def x50:Xc vw:=mX prog 8 Lm.1 Yg [] [] []
theorem wT:aM prog 50 VN O0:=fn0 x50 Tryz.func50 Lm.2
def Tw:Cut SN:=⟨[(6, .bp 6 0),(8, .bp 8 0),(9, .bp 9 0),(131,Dq4)],[(6, .st .myShapeT),(8, .st .myShapeT),(9, .st .myShapeT)]⟩
def Qj:Cut SN:=⟨[(0,Dq3),(4, .bp 4 0),(5, .bp 5 0),(6, .bp 6 0),(8, .bp 8 0),(9, .bp 9 0),(27,Dq1),(50,Dq4)],[(4, .st .myFuncT),(5, .st .myCodeT),(6, .st .myShapeT),(8, .st .myShapeT),(9, .st .myShapeT)]⟩
def Qk:Cut SN:=⟨[(0,Dq3),(4, .bp 4 0),(5, .bp 5 0),(6, .bp 6 0),(8, .bp 8 0),(9, .bp 9 0),(27,Dq1),(76,Dq4)],[(4, .st .myFuncT),(5, .st .myCodeT),(6, .st .myShapeT),(8, .st .myShapeT),(9, .st .myShapeT)]⟩
def Ql:Cut SN:=⟨[(0,Dq3),(4, .bp 4 0),(5, .bp 5 0),(6, .bp 6 0),(8, .bp 8 0),(9, .bp 9 0),(27,Dq1),(84,Dq4)],[(4, .st .myFuncT),(5, .st .myCodeT),(6, .st .myShapeT),(8, .st .myShapeT),(9, .st .myShapeT)]⟩
def Cz:Cut SN:=⟨[(6, .bp 6 0),(9, .bp 9 0)],[(6, .st .myShapeT),(9, .st .myShapeT)]⟩
def WR:Cut SN:=⟨[(6, .bp 6 0),(7,Dq4)],[(6, .st .myShapeT)]⟩
def Yx:aN vw:={rcut:=WR}
abbrev l_:Pt SN:= .dat (.st .myCodeT)
def VZ:Sig vw:=sg [Dq3,Ce,l_] WR [.cell 6 118, .tmp 7]
abbrev WC:=(List aB)×aB×aQ×Unit
noncomputable def TW(v:WC):Option (Bool×ci×Unit):=let c:=v.2.2.1;let G1:=(ci.mk false false false false);(if(c.op==0)=true then GB (c.a,(-2147483648:Int),(2147483648:Int),())>>=λx1=>(AJ (c.type0,())>>=λx2=>if x2.1=true then some ((G1,ci.mk x1.1 (ci.mk (c.a==0) (c.b==0) (Mp.ieq c.type0.base (aF.mk (0:Int) (0:Int) (Z4 #[]) false false).base&&(Mp.ieq c.type0.bits (aF.mk (0:Int) (0:Int) (Z4 #[]) false false).bits&&(Mp.seq c.type0.name0 (aF.mk (0:Int) (0:Int) (Z4 #[]) false false).name0&&(Mp.beq c.type0.opt (aF.mk (0:Int) (0:Int) (Z4 #[]) false false).opt&&Mp.beq c.type0.err (aF.mk (0:Int) (0:Int) (Z4 #[]) false false).err)))) (c.name0.toList==(Z4 #[]).toList)).b true (ci.mk (c.a==0) (c.b==0) (Mp.ieq c.type0.base (aF.mk (0:Int) (0:Int) (Z4 #[]) false false).base&&(Mp.ieq c.type0.bits (aF.mk (0:Int) (0:Int) (Z4 #[]) false false).bits&&(Mp.seq c.type0.name0 (aF.mk (0:Int) (0:Int) (Z4 #[]) false false).name0&&(Mp.beq c.type0.opt (aF.mk (0:Int) (0:Int) (Z4 #[]) false false).opt&&Mp.beq c.type0.err (aF.mk (0:Int) (0:Int) (Z4 #[]) false false).err)))) (c.name0.toList==(Z4 #[]).toList)).name0,()))else Ei (c.type0,())>>=λx3=>if x3.1=true then some ((G1,ci.mk x1.1 (ci.mk (c.a==0) (c.b==0) (Mp.ieq c.type0.base (aF.mk (0:Int) (0:Int) (Z4 #[]) false false).base&&(Mp.ieq c.type0.bits (aF.mk (0:Int) (0:Int) (Z4 #[]) false false).bits&&(Mp.seq c.type0.name0 (aF.mk (0:Int) (0:Int) (Z4 #[]) false false).name0&&(Mp.beq c.type0.opt (aF.mk (0:Int) (0:Int) (Z4 #[]) false false).opt&&Mp.beq c.type0.err (aF.mk (0:Int) (0:Int) (Z4 #[]) false false).err)))) (c.name0.toList==(Z4 #[]).toList)).b (decide (c.type0.base<=1)) (ci.mk (c.a==0) (c.b==0) (Mp.ieq c.type0.base (aF.mk (0:Int) (0:Int) (Z4 #[]) false false).base&&(Mp.ieq c.type0.bits (aF.mk (0:Int) (0:Int) (Z4 #[]) false false).bits&&(Mp.seq c.type0.name0 (aF.mk (0:Int) (0:Int) (Z4 #[]) false false).name0&&(Mp.beq c.type0.opt (aF.mk (0:Int) (0:Int) (Z4 #[]) false false).opt&&Mp.beq c.type0.err (aF.mk (0:Int) (0:Int) (Z4 #[]) false false).err)))) (c.name0.toList==(Z4 #[]).toList)).name0,()))else some ((G1,ci.mk x1.1 (ci.mk (c.a==0) (c.b==0) (Mp.ieq c.type0.base (aF.mk (0:Int) (0:Int) (Z4 #[]) false false).base&&(Mp.ieq c.type0.bits (aF.mk (0:Int) (0:Int) (Z4 #[]) false false).bits&&(Mp.seq c.type0.name0 (aF.mk (0:Int) (0:Int) (Z4 #[]) false false).name0&&(Mp.beq c.type0.opt (aF.mk (0:Int) (0:Int) (Z4 #[]) false false).opt&&Mp.beq c.type0.err (aF.mk (0:Int) (0:Int) (Z4 #[]) false false).err)))) (c.name0.toList==(Z4 #[]).toList)).b false (ci.mk (c.a==0) (c.b==0) (Mp.ieq c.type0.base (aF.mk (0:Int) (0:Int) (Z4 #[]) false false).base&&(Mp.ieq c.type0.bits (aF.mk (0:Int) (0:Int) (Z4 #[]) false false).bits&&(Mp.seq c.type0.name0 (aF.mk (0:Int) (0:Int) (Z4 #[]) false false).name0&&(Mp.beq c.type0.opt (aF.mk (0:Int) (0:Int) (Z4 #[]) false false).opt&&Mp.beq c.type0.err (aF.mk (0:Int) (0:Int) (Z4 #[]) false false).err)))) (c.name0.toList==(Z4 #[]).toList)).name0,())))>>=λx2=>some (aaL x2)else(if(c.op==2)=true then some ((v.1,c.op,true,v.2.1,c,G1,ci.mk (c.a==0) (c.b==0) (Mp.ieq c.type0.base (aF.mk (0:Int) (0:Int) (Z4 #[]) false false).base&&(Mp.ieq c.type0.bits (aF.mk (0:Int) (0:Int) (Z4 #[]) false false).bits&&(Mp.seq c.type0.name0 (aF.mk (0:Int) (0:Int) (Z4 #[]) false false).name0&&(Mp.beq c.type0.opt (aF.mk (0:Int) (0:Int) (Z4 #[]) false false).opt&&Mp.beq c.type0.err (aF.mk (0:Int) (0:Int) (Z4 #[]) false false).err)))) (c.name0.toList==(Z4 #[]).toList),ci.mk (c.a==0) (c.b==0) (Mp.ieq c.type0.base (aF.mk (0:Int) (0:Int) (Z4 #[]) false false).base&&(Mp.ieq c.type0.bits (aF.mk (0:Int) (0:Int) (Z4 #[]) false false).bits&&(Mp.seq c.type0.name0 (aF.mk (0:Int) (0:Int) (Z4 #[]) false false).name0&&(Mp.beq c.type0.opt (aF.mk (0:Int) (0:Int) (Z4 #[]) false false).opt&&Mp.beq c.type0.err (aF.mk (0:Int) (0:Int) (Z4 #[]) false false).err)))) (c.name0.toList==(Z4 #[]).toList),()))else some ((v.1,c.op,c.op==3,v.2.1,c,G1,ci.mk (c.a==0) (c.b==0) (Mp.ieq c.type0.base (aF.mk (0:Int) (0:Int) (Z4 #[]) false false).base&&(Mp.ieq c.type0.bits (aF.mk (0:Int) (0:Int) (Z4 #[]) false false).bits&&(Mp.seq c.type0.name0 (aF.mk (0:Int) (0:Int) (Z4 #[]) false false).name0&&(Mp.beq c.type0.opt (aF.mk (0:Int) (0:Int) (Z4 #[]) false false).opt&&Mp.beq c.type0.err (aF.mk (0:Int) (0:Int) (Z4 #[]) false false).err)))) (c.name0.toList==(Z4 #[]).toList),ci.mk (c.a==0) (c.b==0) (Mp.ieq c.type0.base (aF.mk (0:Int) (0:Int) (Z4 #[]) false false).base&&(Mp.ieq c.type0.bits (aF.mk (0:Int) (0:Int) (Z4 #[]) false false).bits&&(Mp.seq c.type0.name0 (aF.mk (0:Int) (0:Int) (Z4 #[]) false false).name0&&(Mp.beq c.type0.opt (aF.mk (0:Int) (0:Int) (Z4 #[]) false false).opt&&Mp.beq c.type0.err (aF.mk (0:Int) (0:Int) (Z4 #[]) false false).err)))) (c.name0.toList==(Z4 #[]).toList),())))>>=λx1=>let d:=x1.2.2.2;let e:=d.2.2.2.2.1;let f:=x1.2.1;if x1.2.2.1=true then GB (d.2.1.a,(0:Int),i64.wrap (d.1.places-1),())>>=λx2=>some (aaL (d.2.2.1,ci.mk x2.1 e.b e.kind e.name0,()))else if(f==5)=true then GB (d.2.1.a,(5:Int),(17:Int),())>>=λx2=>AJ (d.2.1.type0,())>>=λx3=>some (aaL (d.2.2.1,ci.mk x2.1 e.b x3.1 e.name0,()))else if(f==6)=true then GB (d.2.1.a,(18:Int),(23:Int),())>>=λx2=>some (aaL (d.2.2.1,ci.mk x2.1 e.b e.kind e.name0,()))else(if(f==7)=true then some (x1.1,f,true,d)else if(f==9)=true then some (x1.1,f,true,d)else some (x1.1,f,f==10,d))>>=λx2=>let g:=x2.2.2.2;let h:=x2.2.1;let G2:=(x2.1,h,true,g);if x2.2.2.1=true then AJ (g.2.1.type0,())>>=λx3=>some (aaL (g.2.2.1,ci.mk g.2.2.2.2.1.a g.2.2.2.2.1.b x3.1 g.2.2.2.2.1.name0,()))else(if(h==12)=true then some (G2)else if(h==13)=true then some (G2)else if(h==14)=true then some (G2)else some (x2.1,h,h==15,g))>>=λx3=>let i:=x3.2.2.2.2;let j:=i.2.2.2.1;let k:=x3.2.1;let G3:=(true,i.2);if x3.2.2.1=true then GB (i.1.a,(0:Int),i64.wrap ((↑x3.2.2.2.1.code.length:Int) -1),())>>=λx4=>some (aaL (i.2.1,ci.mk x4.1 j.b j.kind j.name0,()))else if(k==16)=true then O0 (x3.1,i.1.name0,())>>=λx4=>(if decide (x4.1>=0)=true then if 0<=x4.1 then x3.1[x4.1.toNat]?>>=λx5=>some ((i.2.1,ci.mk j.a (i.1.b==x5.params) j.kind (decide (x4.1>=0)),()))else none else some ((i.2.1,ci.mk j.a false j.kind (decide (x4.1>=0)),())))>>=λx5=>some (aaL x5)else if(k==18)=true then O3 (i.1.name0,())>>=λx4=>some (aaL (i.2.1,ci.mk j.a j.b j.kind x4.1,()))else if(k==19)=true then GB (i.1.a,(1:Int),(5:Int),())>>=λx4=>some (aaL (i.2.1,ci.mk x4.1 j.b j.kind j.name0,()))else(if(k==1)=true then some (G3)else if(k==4)=true then some (G3)else if(k==8)=true then some (G3)else if(k==11)=true then some (G3)else some (k==17,i.2))>>=λx4=>if x4.1=true then some (aaL (x4.2.1,x4.2.2.2))else some (abc (false,x4.2.2.1,())))>>=λx1=>match x1 with| .inl y1=>some (true,y1.2)| .inr y1=>some y1
def Lw:=kP wT (kP w6 (kP ET (kP HY (kP yR k0))))
def x71:Xc vw:=mX prog 138 Lw.1 Yx [(4,Tw,[.norm]),(10,Qj,[.norm]),(18,Qk,[.norm]),(23,Ql,[.norm]),(36,Cz,[.norm, .ret])] [(7,Cz),(26,Cz)] []
theorem NW:aM prog 71 VZ TW:=fn0 x71 Tryz.func71 Lw.2
def lI:Cut SN:=⟨[(1, .bp 100000 0),(2, .bp 100001 0),(4,Dq4)],[(100000, .box none [Dq3]),(100001, .st .myFuncT)]⟩
def FJ:aN vw:={rcut:=lI}
def BI:Sig vw:={params:=[l_, .bp 100000 0, .bp 100001 0],objs:=[(100000, .box none [Dq3]),(100001, .st .myFuncT)],rcut:=lI,rvars:=[.tmp 4],keep:=[100000,100001]}
abbrev WE:=Bool×(List aB)×aB×Unit
noncomputable def kW(v:aQ×(List aB)×aB×Unit):Option (WE):=let G1:=(ci.mk true true true true);TW (v.2.1,v.2.2.1,v.1,())>>=λx1=>(if(!x1.1)=true then some (true,v.2)else some ((!(Mp.beq x1.2.1.a G1.a&&(Mp.beq x1.2.1.b G1.b&&(Mp.beq x1.2.1.kind G1.kind&&Mp.beq x1.2.1.name0 G1.name0))),v.2)))>>=λx2=>some (x2)
def n7:=kP NW k0
def Kj:Xc vw:=mX prog 21 n7.1 FJ [] [(2,lI)] []
theorem uy:aM prog 70 BI kW:=fn0 Kj Tryz.func70 n7.2
abbrev Dq8:Pt SN:= .dat (.sl (.st .myCodeT))
def nX:Cut SN:=⟨[(0,Dq8),(1, .fn 70 [] [100000,100001]),(7,Dq1),(8,Dq1)],[(100000, .box none [Dq3]),(100001, .st .myFuncT)]⟩
def vQ:Cut SN:=⟨[(1, .fn 70 [] [100000,100001])],[(100000, .box none [Dq3]),(100001, .st .myFuncT)]⟩
def qr:Cut SN:=⟨[(1, .fn 70 [] [100000,100001]),(4,Dq1)],[(100000, .box none [Dq3]),(100001, .st .myFuncT)]⟩
def Bw:aN vw:=shL [(0,vQ)] qr
def xr:Sig vw:={params:=[Dq8, .fn 70 [] [100000,100001]],objs:=[(100000, .box none [Dq3]),(100001, .st .myFuncT)],rcut:=qr,rvars:=[.tmp 4],keep:=[100000,100001]}
noncomputable def da(v:(List aQ)×Int×Int×(List aB)×aB×Unit):Option (((Int×(List aB)×aB×Unit)⊕((List aB)×aB×Unit))):=let a:=v.2.2;if decide (a.1<v.2.1)=true then if 0<=a.1 then v.1[a.1.toNat]?>>=λx1=>kW (x1,a.2)>>=λx2=>if x2.1=true then some (aaL (a.1,x2.2))else da (v.1,v.2.1,i64.wrap (a.1+1),x2.2)else none else some (abc a.2) partial_fixpoint
abbrev WB:=(List aQ)×(List aB)×aB×Unit
noncomputable def lQ(v:WB):Option (Int×(List aB)×aB×Unit):=da (v.1,(↑v.1.length:Int),(0:Int),v.2)>>=λx1=>match x1 with| .inl y1=>some y1| .inr y1=>some (((-1:Int),y1))
def iK:=kO uy k0
def vx:Xc vw:=mX prog 19 iK.1 Bw [] [] [(2,⟨nX,[.ret, .exit 0],da⟩)]
theorem o7:gh vx (aS (aO Tryz.f117) 0) ⟨nX,[.ret, .exit 0],da⟩:=lp0 da.partial_correctness iK.2
theorem sG:aM prog 117 xr lQ:=fn1 vx Tryz.func117 iK.2 o7
def tG:Cut SN:=⟨[(1, .fn 70 [] [100000,100001]),(4,Dq4)],[(100000, .box none [Dq3]),(100001, .st .myFuncT)]⟩
def FI:aN vw:={rcut:=tG}
def BH:Sig vw:={params:=[Dq8, .fn 70 [] [100000,100001]],objs:=[(100000, .box none [Dq3]),(100001, .st .myFuncT)],rcut:=tG,rvars:=[.tmp 4],keep:=[100000,100001]}
noncomputable def kV(v:WB):Option (WE):=lQ v>>=λx1=>some ((decide (x1.1>=0),x1.2))
def n6:=kO sG k0
def Ki:Xc vw:=mX prog 9 n6.1 FI [] [] []
theorem ux:aM prog 69 BH kV:=fn0 Ki Tryz.func69 n6.2
def Ts:Cut SN:=⟨[(2, .bp 2 0),(3, .bp 3 0),(34,Dq4)],[(2, .box none [Dq3]),(3, .st .myFuncT)]⟩
def Yf:aN vw:={rcut:=cD}
def VM:Sig vw:=sg [Dq3,Ce] cD [.tmp 4]
noncomputable def SU(v:(List aB)×aB×Unit):Option (Bool×Unit):=(O3 (v.2.1.name0,())>>=λx1=>if(!x1.1)=true then some (true,v)else GB (v.2.1.params,(0:Int),v.2.1.places,())>>=λx2=>if(!x2.1)=true then some (true,v)else if((↑v.2.1.code.length:Int)==0)=true then some (true,v)else QV (v.2.1.type0,())>>=λx3=>if(x3.1 !=0)=true then some (true,v)else some ((decide (v.2.1.type0.base>=4),v)))>>=λx1=>if x1.1=true then some ((false,()))else kV (x1.2.2.1.code,x1.2)>>=λx2=>some ((!x2.1,()))
def Ll:=kP w6 (kP ET (kP EU (kO ux k0)))
def x49:Xc vw:=mX prog 40 Ll.1 Yf [] [(1,Ts)] []
theorem NR:aM prog 49 VM SU:=fn0 x49 Tryz.func49 Ll.2
def P1:Cut SN:=⟨[(0,Dq3),(17,Dq3),(18,Dq1),(19,Dq1)],[]⟩
def Tl:Cut SN:=⟨[(0,Dq3),(16,Dq4)],[]⟩
def Tm:Cut SN:=⟨[(0,Dq3),(17,Dq3),(18,Dq1),(19,Dq1),(35,Dq4)],[]⟩
def X7:aN vw:=shL [(0,dX)] nh
def VE:Sig vw:=sg [Dq3] nh [.tmp 2]
noncomputable def mh(v:(List aB)×(List aB)×Int×Int×Unit):Option (((Int×Unit)⊕(Unit))):=let a:=v.2.2.2.1;if decide (a<v.2.2.1)=true then if 0<=a then v.2.1[a.toNat]?>>=λx1=>(SU (v.1,x1,())>>=λx2=>if(!x2.1)=true then some ((v.1,v.2.1,v.2.2.1,a,true,()))else O0 (v.1,x1.name0,())>>=λx3=>some ((v.1,v.2.1,v.2.2.1,a,x3.1 !=a,())))>>=λx2=>if x2.2.2.2.2.1=true then some (aaL ((1:Int),()))else mh (x2.1,x2.2.1,x2.2.2.1,i64.wrap (x2.2.2.2.1+1),())else none else some (abc ()) partial_fixpoint
noncomputable def OZ(v:(List aB)×Unit):Option (Int×Unit):=(if decide ((↑v.1.length:Int)>48)=true then some ((v.1,true,()))else SS v>>=λx1=>if decide (x1.1>2000)=true then some ((v.1,true,()))else sN v>>=λx2=>some (v.1,x2))>>=λx1=>if x1.2.1=true then some (((3:Int),()))else mh (x1.1,x1.1,(↑x1.1.length:Int),(0:Int),())>>=λx2=>match x2 with| .inl y2=>some y2| .inr y2=>some (((0:Int),()))
def Dd:=kP NP (kP A9 (kP NR (kP wT k0)))
def x37:Xc vw:=mX prog 37 Dd.1 X7 [] [(1,Tl),(6,Tm)] [(4,⟨P1,[.ret, .exit 0],mh⟩)]
theorem EC:gh x37 (aS (aO Tryz.f37) 0) ⟨P1,[.ret, .exit 0],mh⟩:=lp0 mh.partial_correctness Dd.2
theorem wS:aM prog 37 VE OZ:=fn1 x37 Tryz.func37 Dd.2 EC
def Ag:Cut SN:=⟨[(0,Dq1),(1, .bp 100000 0),(9,Dq4)],[(100000, .box none [Dq1])]⟩
def tI:Cut SN:=⟨[(1, .bp 100000 0)],[(100000, .box none [Dq1])]⟩
def FL:aN vw:={rcut:=tI}
def BK:Sig vw:={params:=[Dq1, .bp 100000 0],objs:=[(100000, .box none [Dq1])],rcut:=tI,rvars:=[],keep:=[100000]}
noncomputable def gT(v:Int×Int×Unit):Option (Int×Unit):=(if decide (v.2.1<0)=true then some (v.1,true,v.2)else some ((v.1,decide (v.1<v.2.1),v.2)))>>=λx1=>if x1.2.1=true then some ((x1.1,()))else some (x1.2.2)
def Kl:Xc vw:=mX prog 11 c0 FL [] [(0,Ag)] []
theorem uA:aM prog 73 BK gT:=fn0 Kl Tryz.func73 bT
abbrev KN:OPt SN:= .que 123 (.st .pointT)
def tJ:Cut SN:=⟨[(1, .bp 100000 0),(2, .bp 100001 0)],[(100000, .box none [.mp 100002]),(100001, .box none [.vh 3010]),(100002, .map (.st .pointT) .bool),(3010,KN)]⟩
def FM:aN vw:={rcut:=tJ}
def BL:Sig vw:={params:=[.dat (.st .pointT), .bp 100000 0, .bp 100001 0],objs:=[(100000, .box none [.mp 100002]),(100001, .box none [.vh 100003]),(100002, .map (.st .pointT) .bool),(100003,KN)],rcut:=tJ,rvars:=[],keep:=[100000,100001,100002,3010]}
noncomputable def fK(v:aZ×(List (aZ×Bool))×(List aZ)×Unit):Option ((List (aZ×Bool))×(List aZ)×Unit):=if(!(Mp.get (λx y=>Mp.ieq x.at0 y.at0&&Mp.ieq x.height y.height) v.1 v.2.1).getD false)=true then if v.2.2.1.length+[v.1].length<=4294967296 then some ((Mp.set (λx y=>Mp.ieq x.at0 y.at0&&Mp.ieq x.height y.height) (λx x_1=>false) v.1 true v.2.1,v.2.2.1++[v.1],()))else none else some (v.2)
def Km:Xc vw:=mX prog 14 c0 FM [] [] []
theorem uB:aM prog 74 BL fK:=fn0 Km Tryz.func74 bT
def Tz:Cut SN:=⟨[(1, .bp 1 0),(2, .bp 2 0),(4,Dq1),(5,Dq4)],[(1, .st .myCodeT),(2, .st .stepT)]⟩
def Qm:Cut SN:=⟨[(1, .bp 1 0),(2, .bp 2 0),(4,Dq1),(11,Dq4)],[(1, .st .myCodeT),(2, .st .stepT)]⟩
def Qn:Cut SN:=⟨[(1, .bp 1 0),(2, .bp 2 0),(4,Dq1),(16,Dq4)],[(1, .st .myCodeT),(2, .st .stepT)]⟩
def Qo:Cut SN:=⟨[(2, .bp 2 0),(4,Dq1),(25,Dq4)],[(2, .st .stepT)]⟩
def WS:Cut SN:=⟨[(2, .bp 2 0)],[(2, .st .stepT)]⟩
def Yy:aN vw:={rcut:=WS}
def V0:Sig vw:=sg [l_] WS [.cell 2 130]
noncomputable def SZ(v:aQ×Unit):Option (vH×Unit):=let G1:=(vH.mk (0:Int) (0:Int) false,());let G2:=(v.1.op,true,v.1,G1);(if(v.1.op==0)=true then some (G2)else if(v.1.op==1)=true then some (G2)else if(v.1.op==2)=true then some (G2)else some (v.1.op,v.1.op==18,v.1,G1))>>=λx1=>if x1.2.1=true then some ((vH.mk (0:Int) (1:Int) true,()))else(if(x1.1==3)=true then some (x1.1,true,x1.2.2)else if(x1.1==4)=true then some (x1.1,true,x1.2.2)else some (x1.1,x1.1==15,x1.2.2))>>=λx2=>if x2.2.1=true then some ((vH.mk (1:Int) (0:Int) true,()))else(if(x2.1==5)=true then some (x2.1,true,x2.2.2)else some (x2.1,x2.1==6,x2.2.2))>>=λx3=>if x3.2.1=true then some ((vH.mk (2:Int) (1:Int) true,()))else if(x3.1==16)=true then some ((vH.mk x3.2.2.1.b (1:Int) true,()))else(if(x3.1==14)=true then some (x3.1,true,x3.2.2.2)else some (x3.1,x3.1==19,x3.2.2.2))>>=λx4=>if x4.2.1=true then some (G1)else if(x4.1==17)=true then some ((vH.mk (1:Int) (0:Int) false,()))else some ((vH.mk (1:Int) (1:Int) true,()))
def x75:Xc vw:=mX prog 33 c0 Yy [(6,Tz,[.norm]),(10,Qm,[.norm]),(13,Qn,[.norm]),(18,Qo,[.norm])] [] []
theorem NX:aM prog 75 V0 SZ:=fn0 x75 Tryz.func75 bT
def Yz:aN vw:={rcut:=eO}
def V1:Sig vw:=sg [Dq1] eO [.tmp 2]
noncomputable def S2(v:Int×Unit):Option (Bool×Unit):=(if(v.1==12)=true then some ((true,()))else if(v.1==13)=true then some ((true,()))else if(v.1==14)=true then some ((true,()))else some ((v.1==15,())))>>=λx1=>if x1.1=true then some ((true,()))else some ((false,()))
def x76:Xc vw:=mX prog 9 c0 Yz [(6,cD,[.norm])] [] []
theorem NY:aM prog 76 V1 S2:=fn0 x76 Tryz.func76 bT
def Qa:Cut SN:=⟨[(1, .bp 1 0),(4, .bp 4 0),(5, .mp 20),(6, .bp 6 0),(7, .bp 7 0),(8, .fn 73 [] [7]),(9, .fn 74 [] [4,6])],[(1, .st .myFuncT),(4, .box none [.mp 17]),(20, .map (.int .i64) (.int .i64)),(6, .box none [.vh 3060]),(7, .box none [Dq1]),(17, .map (.st .pointT) .bool),(3060,KN)]⟩
def P8:Cut SN:=⟨[(1, .bp 1 0),(4, .bp 4 0),(5, .mp 20),(6, .bp 6 0),(7, .bp 7 0),(8, .fn 73 [] [7]),(9, .fn 74 [] [4,6]),(10, .bp 10 0)],[(1, .st .myFuncT),(4, .box none [.mp 17]),(20, .map (.int .i64) (.int .i64)),(6, .box none [.vh 3060]),(7, .box none [Dq1]),(10, .st .pointT),(17, .map (.st .pointT) .bool),(3060,KN)]⟩
def P9:Cut SN:=⟨[(1, .bp 1 0),(4, .bp 4 0),(5, .mp 20),(6, .bp 6 0),(7, .bp 7 0),(8, .fn 73 [] [7]),(9, .fn 74 [] [4,6]),(10, .bp 10 0),(13, .bp 13 0),(14, .bp 14 0),(15,Dq1),(16,Dq1)],[(1, .st .myFuncT),(4, .box none [.mp 17]),(20, .map (.int .i64) (.int .i64)),(6, .box none [.vh 3060]),(7, .box none [Dq1]),(10, .st .pointT),(13, .st .myCodeT),(14, .st .stepT),(17, .map (.st .pointT) .bool),(3060,KN)]⟩
def P_:Cut SN:=⟨[(1, .bp 1 0),(4, .bp 4 0),(5, .mp 20),(6, .bp 6 0),(7, .bp 7 0),(8, .fn 73 [] [7]),(9, .fn 74 [] [4,6]),(10, .bp 10 0),(14, .bp 14 0),(15,Dq1)],[(1, .st .myFuncT),(4, .box none [.mp 17]),(20, .map (.int .i64) (.int .i64)),(6, .box none [.vh 3060]),(7, .box none [Dq1]),(10, .st .pointT),(14, .st .stepT),(17, .map (.st .pointT) .bool),(3060,KN)]⟩
def Qb:Cut SN:=⟨[(1, .bp 1 0),(4, .bp 4 0),(5, .mp 20),(6, .bp 6 0),(7, .bp 7 0),(8, .fn 73 [] [7]),(9, .fn 74 [] [4,6]),(10, .bp 10 0),(46,Dq4)],[(1, .st .myFuncT),(4, .box none [.mp 17]),(20, .map (.int .i64) (.int .i64)),(6, .box none [.vh 3060]),(7, .box none [Dq1]),(10, .st .pointT),(17, .map (.st .pointT) .bool),(3060,KN)]⟩
def Qc:Cut SN:=⟨[(1, .bp 1 0),(4, .bp 4 0),(5, .mp 20),(6, .bp 6 0),(7, .bp 7 0),(8, .fn 73 [] [7]),(9, .fn 74 [] [4,6]),(10, .bp 10 0),(13, .bp 13 0),(14, .bp 14 0),(73,Dq4)],[(1, .st .myFuncT),(4, .box none [.mp 17]),(20, .map (.int .i64) (.int .i64)),(6, .box none [.vh 3060]),(7, .box none [Dq1]),(10, .st .pointT),(13, .st .myCodeT),(14, .st .stepT),(17, .map (.st .pointT) .bool),(3060,KN)]⟩
def Tt:Cut SN:=⟨[(4, .bp 4 0),(7, .bp 7 0)],[(4, .box none [.mp 17]),(7, .box none [Dq1]),(17, .map (.st .pointT) .bool)]⟩
def WL:Cut SN:=⟨[(2, .mp 2002),(3,Dq1)],[(2002, .map (.st .pointT) .bool)]⟩
def Yh:aN vw:=shL [(0,Tt)] WL
def T0:Nat->Bool:=λk=>match k with|6000022=>true|_=>false
def VO:Sig vw:={params:=[Ce],rcut:=WL,rvars:=[.tmp 2, .tmp 3],keep:=[2002]}
noncomputable def fc(v:aB×(List (Int×Int))×Int×(List (aZ×Bool))×(List aZ)×Unit):Option ((Int×(List (aZ×Bool))×Unit)):=let b:=v.2.2.2.2.1;if decide ((↑b.length:Int)>0)=true then if(0:Int)<=0/\0<(↑b.length:Int)then b[aav 0]?>>=λx1=>let G3:=(v.1,v.2.1,v.2.2.1,x1,v.2.2.2.1,acp (aav 1) b,());if(1:Int)<=(↑b.length:Int)then((if(Mp.get Mp.ieq x1.at0 v.2.1).isSome=true then some (((Mp.get Mp.ieq x1.at0 v.2.1).getD (0:Int) !=x1.height,G3))else some (false,G3))>>=λx2=>if x2.1=true then gT (x2.2.2.2.2.1.at0,x2.2.2.2.1,())>>=λx3=>some (x2.2.1,x2.2.2.1,x3.1,x2.2.2.2.2)else some (x2.2))>>=λx2=>let c:=x2.2.2.2.1;if 0<=c.at0 then x2.1.code[c.at0.toNat]?>>=λx3=>SZ (x3,())>>=λx4=>let G2:=(x2.1,Mp.set Mp.ieq Mp.ilt c.at0 c.height x2.2.1,x2.2.2.1,c,x3,x4.1,x2.2.2.2.2);(if decide (c.height<x4.1.takes)=true then some (true,G2)else some ((decide (c.height>64),G2)))>>=λx5=>let e:=x5.2;let d:=e.2.2.2;let G1:=(i64.wrap (d.1.height-d.2.2.1.takes)+d.2.2.1.puts);if x5.1=true then gT (d.1.at0,e.2.2.1,())>>=λx6=>fc (e.1,e.2.1,x6.1,d.2.2.2)else(S2 (d.2.1.op,())>>=λx6=>if x6.1=true then(if(d.2.1.op==12)=true then some ((i64.wrap G1,i64.wrap (i64.wrap G1-1),e))else some (i64.wrap G1,i64.wrap G1,e))>>=λx7=>let f:=x7.2.2.2.2;fK (aZ.mk f.2.2.1.a x7.2.1,f.2.2.2.2)>>=λx8=>some (x7.1,x7.2.2.1,x7.2.2.2.1,f.1,f.2.1,f.2.2.2.1,x8)else some (i64.wrap G1,e.1,e.2.1,e.2.2.1,d.1,d.2.2))>>=λx6=>let g:=x6.2.2.2;if(!g.2.2.1.goes)=true then fc (x6.2.1,x6.2.2.1,g.1,g.2.2.2)else if(i64.wrap (g.2.1.at0+1)==(↑x6.2.1.code.length:Int))=true then gT (g.2.1.at0,g.1,())>>=λx7=>fc (x6.2.1,x6.2.2.1,x7.1,g.2.2.2)else fK (aZ.mk (i64.wrap (g.2.1.at0+1)) x6.1,g.2.2.2)>>=λx7=>fc (x6.2.1,x6.2.2.1,g.1,x7)else none else none else none else some ((v.2.2.1,v.2.2.2.1,())) partial_fixpoint
noncomputable def SV(v:aB×Unit):Option (Int×(List (aZ×Bool))×Unit):=fc (v.1,[],(-1:Int),Mp.set (λx y=>Mp.ieq x.at0 y.at0&&Mp.ieq x.height y.height) (λx x_1=>false) (aZ.mk (0:Int) (0:Int)) true [],[aZ.mk (0:Int) (0:Int)],())>>=λx1=>some (x1)
def Dh:=kO uA (kO uB (kP NX (kP NY k0)))
def x51:Xc vw:={P:=prog,n:=124,call:=Dh.1,pre:=T0,sh:=Yh,joins:=λk=>match k with|13=>some (P8,[.norm])|23=>some (P9,[.norm])|24=>some (P_,[.norm])|_=>none,regs:=λk=>match k with|11=>some Qb|16=>some Qc|_=>none,loops:=λk=>match k with|7=>some {cut:=Qa,alts:=[.exit 0],F:=fc}|_=>none}
theorem EM:gh x51 (aS (aO Tryz.f51) 0) ⟨Qa,[.exit 0],fc⟩:=lp0 fc.partial_correctness Dh.2
theorem NS:aM prog 51 VO SV:=fn1 x51 Tryz.func51 Dh.2 EM
def P2:Cut SN:=⟨[(15,Dq3),(16,Dq1),(17,Dq1)],[]⟩
def SF:Cut SN:=⟨[(2,Dq1),(3,Dq1),(4,Dq1)],[]⟩
def X8:aN vw:=shL [(0,dX)] SF
def VF:Sig vw:=sg [Dq3] SF [.tmp 2, .tmp 3, .tmp 4]
noncomputable def kT(v:SD):Option (((Cg)⊕(Unit))):=let a:=v.2.2.1;if decide (a<v.2.1)=true then if 0<=a then v.1[a.toNat]?>>=λx1=>SV (x1,())>>=λx2=>if decide (x2.1>=0)=true then some (aaL (a,x2.1,(7:Int),()))else kT (v.1,v.2.1,i64.wrap (a+1),())else none else some (abc ()) partial_fixpoint
noncomputable def SO(v:(List aB)×Unit):Option (Cg):=OZ v>>=λx1=>if(x1.1 !=0)=true then some (((0:Int),(0:Int),x1))else kT (v.1,(↑v.1.length:Int),(0:Int),())>>=λx2=>match x2 with| .inl y2=>some y2| .inr y2=>some (((0:Int),(0:Int),(0:Int),()))
def De:=kP wS (kO NS k0)
def x38:Xc vw:=mX prog 32 De.1 X8 [] [] [(5,⟨P2,[.ret, .exit 0],kT⟩)]
theorem ED:gh x38 (aS (aO Tryz.f38) 0) ⟨P2,[.ret, .exit 0],kT⟩:=lp0 kT.partial_correctness De.2
theorem NK:aM prog 38 VF SO:=fn1 x38 Tryz.func38 De.2 ED
def WJ:Cut SN:=⟨[(4,Dq1),(5,Dq4),(6,Dq1)],[]⟩
def X9:aN vw:={rcut:=WJ}
def Sl:Sig vw:=sg [Dq3,Dq5] WJ [.tmp 4, .tmp 5, .tmp 6]
noncomputable def LI(v:(List aB)×ByteArray×Unit):Option (Int×Bool×Int×Unit):=OZ (v.1,())>>=λx1=>if(x1.1 !=0)=true then some (((0:Int),false,x1))else O0 v>>=λx2=>some ((max x2.1 (0:Int),decide (x2.1>=0),(0:Int),()))
def Lk:=kP wS (kP wT k0)
def x39:Xc vw:=mX prog 21 Lk.1 X9 [] [] []
theorem EE:aM prog 39 Sl LI:=fn0 x39 Tryz.func39 Lk.2
abbrev rU:Pt SN:= .dat (.sl (.st .myValueT))
def K8:Cut SN:=⟨[(12,Dq1),(48,rU),(49,Dq1),(50,Dq1)],[]⟩
def P0:Cut SN:=⟨[(12,Dq1),(48,rU),(49,Dq1),(50,Dq1),(61,Dq4)],[]⟩
def Tj:Cut SN:=⟨[(12,Dq1)],[]⟩
def WG:Cut SN:=⟨[(6,Dq1),(7,Dq1)],[]⟩
def X1:aN vw:=shL [(0,Tj)] WG
def Vz:Sig vw:=sg [Dq3,Dq5,rU] WG [.tmp 6, .tmp 7]
noncomputable def jc(v:Int×(List aE)×Int×Int×Unit):Option (((Int×Int×Unit)⊕(Int×Unit))):=let a:=v.2.2.2.1;if decide (a<v.2.2.1)=true then if 0<=a then v.2.1[a.toNat]?>>=λx1=>(if decide (x1.n<(-2147483648:Int))=true then some ((v.1,v.2.1,v.2.2.1,a,true,()))else some ((v.1,v.2.1,v.2.2.1,a,decide (x1.n>2147483648),())))>>=λx2=>if x2.2.2.2.2.1=true then some (aaL ((0:Int),(1:Int),()))else jc (x2.1,x2.2.1,x2.2.2.1,i64.wrap (x2.2.2.2.1+1),())else none else some (abc (v.1,())) partial_fixpoint
abbrev WA:=(List aB)×ByteArray×(List aE)×Unit
noncomputable def OX(v:WA):Option (Int×Int×Unit):=OZ (v.1,())>>=λx1=>if(x1.1 !=0)=true then some (((0:Int),x1))else SO (v.1,())>>=λx2=>if(x2.2.2.1 !=0)=true then some (((0:Int),x2.2.2))else LI (v.1,v.2.1,())>>=λx3=>if(!x3.2.1)=true then some (((0:Int),(4:Int),()))else if 0<=x3.1 then v.1[x3.1.toNat]?>>=λx4=>if((↑v.2.2.1.length:Int) !=x4.params)=true then some (((0:Int),(10:Int),()))else jc (x3.1,v.2.2.1,(↑v.2.2.1.length:Int),(0:Int),())>>=λx5=>match x5 with| .inl y5=>some y5| .inr y5=>some ((y5.1,(0:Int),()))else none
def Dc:=kP wS (kP NK (kP EE k0))
def x28:Xc vw:=mX prog 64 Dc.1 X1 [] [(15,P0)] [(13,⟨K8,[.ret, .exit 0],jc⟩)]
theorem A7:gh x28 (aS (aO Tryz.f28) 0) ⟨K8,[.ret, .exit 0],jc⟩:=lp0 jc.partial_correctness Dc.2
theorem wQ:aM prog 28 Vz OX:=fn1 x28 Tryz.func28 Dc.2 A7
abbrev Oq2:OPt SN:= .vec 31 (.st .myValueT)
def qx:Cut SN:=⟨[(3, .vh 1003),(6,rU),(7,Dq1),(8,Dq1)],[(1003,Oq2)]⟩
def Ab:Cut SN:=⟨[(3, .vh 1003)],[(1003,Oq2)]⟩
def tB:Cut SN:=⟨[(2, .vh 2002)],[(2002,Oq2)]⟩
def FF:aN vw:=shL [(0,Ab)] tB
def BF:Sig vw:={params:=[rU],rcut:=tB,rvars:=[.tmp 2],keep:=[2002]}
noncomputable def dT(v:(List aE)×Int×Int×(List aE)×Unit):Option (((List aE)×Unit)):=let a:=v.2.2;if decide (a.1<v.2.1)=true then if 0<=a.1 then v.1[a.1.toNat]?>>=λx1=>if a.2.1.length+[aE.mk (aF.mk (0:Int) (0:Int) (Z4 #[]) false false) x1.n x1.null x1.err (aF.mk (0:Int) (0:Int) (Z4 #[]) false false)].length<=4294967296 then dT (v.1,v.2.1,i64.wrap (a.1+1),a.2.1++[aE.mk (aF.mk (0:Int) (0:Int) (Z4 #[]) false false) x1.n x1.null x1.err (aF.mk (0:Int) (0:Int) (Z4 #[]) false false)],())else none else none else some (a.2) partial_fixpoint
noncomputable def kS(v:(List aE)×Unit):Option ((List aE)×Unit):=dT (v.1,(↑v.1.length:Int),(0:Int),[],())>>=λx1=>some (x1)
def zL:Xc vw:=mX prog 24 c0 FF [] [] [(3,⟨qx,[.exit 0],dT⟩)]
theorem qg:gh zL (aS (aO Tryz.f18) 0) ⟨qx,[.exit 0],dT⟩:=lp0 dT.partial_correctness bT
theorem ur:aM prog 18 BF kS:=fn1 zL Tryz.func18 bT qg
abbrev Dq6:Pt SN:= .dat (.op (.st .endingT))
abbrev Oq7:OPt SN:= .vec 3 (.int .i64)
def tE:Cut SN:=⟨[(0, .bp 100000 0)],[(100000, .box none [Dq3,Dq4,Dq1, .vh 100001,Dq1, .vh 100002,Dq1,Dq6]),(100001,Oq7),(100002,Oq2)]⟩
def FG:aN vw:={rcut:=tE}
def Bh:Nat->Bool:=λk=>match k with|7000010=>true|_=>false
def rm:Sig vw:={params:=[.bp 100000 0,Dq1,Dq1],objs:=[(100000, .box none [Dq3,Dq4,Dq1, .vh 100001,Dq1, .vh 100002,Dq1,Dq6]),(100001,Oq7),(100002,Oq2)],rcut:=tE,rvars:=[],keep:=[100000,100001,100002]}
noncomputable def d_(v:Int×Int×(List aB)×Bool×Int×Int×Int×(Option bX)×(List Int)×(List aE)×Unit):Option ((List aB)×Bool×Int×Int×Int×(Option bX)×(List Int)×(List aE)×Unit):=let a:=v.2.2.2;some ((v.2.2.1,a.1,a.2.1,a.2.2.1,a.2.2.2.1,some (bX.mk v.1 v.2.1),a.2.2.2.2.2))
def Kh:Xc vw:={P:=prog,n:=13,call:=c0,pre:=Bh,sh:=FG}
theorem gu:aM prog 52 rm d_:=fn0 Kh Tryz.func52 bT
def WM:Cut SN:=⟨[(0, .bp 0 0)],[(0, .bar 20 .fno)]⟩
def Yi:aN vw:={rcut:=WM}
def Sm:Sig vw:=sg [] WM [.cell 0 102]
noncomputable def QP(v:Unit):Option ((List (Option Nat))×Unit):=some (([some (77:Nat),some (78:Nat),some (79:Nat),some (80:Nat),some (81:Nat),some (82:Nat),some (83:Nat),some (84:Nat),some (85:Nat),some (86:Nat),some (87:Nat),some (88:Nat),some (89:Nat),some (90:Nat),some (91:Nat),some (92:Nat),some (93:Nat),some (94:Nat),some (95:Nat),some (96:Nat)],()))
def x53:Xc vw:=mX prog 2 c0 Yi [] [] []
theorem EN:aM prog 53 Sm QP:=fn0 x53 Tryz.func53 bT
abbrev Dq9:Pt SN:= .dat (.op (.st .myValueT))
def aT:Cut SN:=⟨[(0, .bp 100000 0)],[(100000, .box none [.bp 100001 0,Dq5,Dq1,Dq1,Dq1,Dq1,Dq5,Dq4,Dq4,Dq8, .vh 100002, .vh 3011,Dq1,Dq1,Dq9]),(100001, .box none [Dq3,Dq4,Dq1, .vh 100004,Dq1, .vh 100005,Dq1,Dq6]),(100002,Oq2),(3011,Oq2),(100004,Oq7),(100005,Oq2)]⟩
def Bx:aN vw:={rcut:=aT}
abbrev Tc:Pt SN:= .dat (.st .myValueT)
def pJ:Sig vw:={params:=[.bp 100000 0,Tc],objs:=[(100000, .box none [.bp 100001 0,Dq5,Dq1,Dq1,Dq1,Dq1,Dq5,Dq4,Dq4,Dq8, .vh 100002, .vh 100003,Dq1,Dq1,Dq9]),(100001, .box none [Dq3,Dq4,Dq1, .vh 100004,Dq1, .vh 100005,Dq1,Dq6]),(100002,Oq2),(100003,Oq2),(100004,Oq7),(100005,Oq2)],rcut:=aT,rvars:=[],keep:=[100000,100001,100002,3011,100004,100005]}
abbrev Tq1:=ByteArray×Int×Int×Int×Int×ByteArray×Bool×Bool×(List aQ)×Int×Int×(Option aE)×(List aB)×Bool×Int×Int×Int×(Option bX)×(List aE)×(List aE)×(List Int)×(List aE)×Unit
noncomputable def cL(v:aE×ByteArray×Int×Int×Int×Int×ByteArray×Bool×Bool×(List aQ)×Int×Int×(Option aE)×(List aB)×Bool×Int×Int×Int×(Option bX)×(List aE)×(List aE)×(List Int)×(List aE)×Unit):Option (Tq1):=let e:=v.2.2;let c:=e.2.2.2;let f:=c.2.2;let a:=f.2.2.2;let g:=a.2.2;let b:=g.2.2.2;let d:=b.2.2.2.2;let G1:=(b.2.2.2.1,d.1,d.2.1++[v.1],d.2.2);if d.2.1.length+[v.1].length<=4294967296 then if(a.1==1)=true then some ((v.2.1,e.1,e.2.1,e.2.2.1,c.1,c.2.1,f.1,f.2.1,f.2.2.1,a.1,a.2.1,g.1,g.2.1,g.2.2.1,b.1,b.2.1,max b.2.2.1 (↑(d.2.1++[v.1]).length:Int),G1))else some (v.2.1,e.1,e.2.1,e.2.2.1,c.1,c.2.1,f.1,f.2.1,f.2.2.1,a.1,a.2.1,g.1,g.2.1,g.2.2.1,b.1,b.2.1,b.2.2.1,G1)else none
def Gp:Xc vw:=mX prog 38 c0 Bx [] [] []
theorem cI:aM prog 120 pJ cL:=fn0 Gp Tryz.func120 bT
def GR:Cut SN:=⟨[(2, .bp 2 0)],[(2, .st .myValueT)]⟩
def Ux:aN vw:={rcut:=GR}
def Rz:Sig vw:=sg [Dq1] GR [.cell 2 31]
noncomputable def sH(v:Int×Unit):Option (aE×Unit):=some ((aE.mk (aF.mk (0:Int) (0:Int) (Z4 #[]) false false) v.1 false (Z4 #[]) (aF.mk (0:Int) (0:Int) (Z4 #[]) false false),()))
def Zh:Xc vw:=mX prog 5 c0 Ux [] [] []
theorem kM:aM prog 121 Rz sH:=fn0 Zh Tryz.func121 bT
def UA:aN vw:={rcut:=vW}
def RC:Sig vw:=sg [vE] vW [.cell 2 135]
noncomputable def uq(v:aF×Unit):Option (bB×Unit):=some ((bB.mk (v.1.base==3) v.1.bits,()))
def Zk:Xc vw:=mX prog 9 c0 UA [] [] []
theorem nC:aM prog 126 RC uq:=fn0 Zk Tryz.func126 bT
def UC:aN vw:={rcut:=GR}
def RE:Sig vw:=sg [Dq4] GR [.cell 2 31]
noncomputable def AK(v:Bool×Unit):Option (aE×Unit):=if v.1=true then sH ((1:Int),())>>=λx1=>some (x1)else sH ((0:Int),())>>=λx1=>some (x1)
def CU:=kP kM k0
def Zm:Xc vw:=mX prog 6 CU.1 UC [] [] []
theorem sJ:aM prog 129 RE AK:=fn0 Zm Tryz.func129 CU.2
def Vb:aN vw:={rcut:=nh}
def Sb:Sig vw:=sg [nd] nh [.tmp 2]
noncomputable def AY(v:bB×Unit):Option (Int×Unit):=if v.1.signed=true then if 0<=i64.wrap (v.1.bits-1)then some ((i64.wrap (Bs.ishl i64 (1:Int) (i64.wrap (v.1.bits-1)) -1),()))else none else if 0<=v.1.bits then some ((i64.wrap (Bs.ishl i64 (1:Int) v.1.bits-1),()))else none
def ZO:Xc vw:=mX prog 14 c0 Vb [] [] []
theorem sM:aM prog 172 Sb AY:=fn0 ZO Tryz.func172 bT
def K6:Cut SN:=⟨[(1,Dq1)],[]⟩
def U9:aN vw:={rcut:=bF}
def LS:Sig vw:=sg [nd,Dq1] bF [.tmp 4]
noncomputable def wO(v:bB×Int×Unit):Option (Int×Unit):=let G1:=(i64.wrap (Bs.ishl i64 (1:Int) v.1.bits-1));if 0<=v.1.bits then(AY (v.1,())>>=λx1=>if decide (Bs.iand i64 v.2.1 G1>x1.1)=true then if 0<=v.1.bits then some ((i64.wrap (Bs.iand i64 v.2.1 G1-Bs.ishl i64 (1:Int) v.1.bits),()))else none else some ((Bs.iand i64 v.2.1 G1,())))>>=λx1=>some (x1)else none
def C_:=kP sM k0
def ZL:Xc vw:=mX prog 21 C_.1 U9 [(4,K6,[.norm])] [] []
theorem yY:aM prog 169 LS wO:=fn0 ZL Tryz.func169 C_.2
def UX:aN vw:={rcut:=GT}
def R0:Sig vw:=sg [nd,Dq1] GT [.tmp 4, .tmp 5]
noncomputable def Iu(v:bB×Int×Unit):Option (Int×Int×Unit):=o_ (v.1,())>>=λx1=>if(x1.1 !=0)=true then some (((0:Int),x1))else wO v>>=λx2=>some ((x2.1,(0:Int),()))
def C4:=kP jz (kP yY k0)
def ZD:Xc vw:=mX prog 15 C4.1 UX [] [] []
theorem Iv:aM prog 154 R0 Iu:=fn0 ZD Tryz.func154 C4.2
def Uy:aN vw:={rcut:=bF}
def RA:Sig vw:=sg [vE,Dq1] bF [.tmp 4]
noncomputable def o8(v:aF×Int×Unit):Option (Int×Unit):=if(v.1.base==0)=true then some (((0:Int),()))else if(v.1.base==1)=true then AK (v.2.1 !=0,())>>=λx1=>some ((x1.1.n,()))else uq (v.1,())>>=λx1=>Iu (x1.1,v.2)>>=λx2=>some ((x2.1,()))
def CR:=kP nC (kP sJ (kP Iv k0))
def Zi:Xc vw:=mX prog 25 CR.1 Uy [] [] []
theorem kN:aM prog 122 RA o8:=fn0 Zi Tryz.func122 CR.2
def FN:aN vw:={rcut:=aT}
def rn:Sig vw:={params:=[.bp 100000 0,l_],objs:=[(100000, .box none [.bp 100001 0,Dq5,Dq1,Dq1,Dq1,Dq1,Dq5,Dq4,Dq4,Dq8, .vh 100002, .vh 100003,Dq1,Dq1,Dq9]),(100001, .box none [Dq3,Dq4,Dq1, .vh 100004,Dq1, .vh 100005,Dq1,Dq6]),(100002,Oq2),(100003,Oq2),(100004,Oq7),(100005,Oq2)],rcut:=aT,rvars:=[],keep:=[100000,100001,100002,3011,100004,100005]}
abbrev Tq2:=aQ×ByteArray×Int×Int×Int×Int×ByteArray×Bool×Bool×(List aQ)×Int×Int×(Option aE)×(List aB)×Bool×Int×Int×Int×(Option bX)×(List aE)×(List aE)×(List Int)×(List aE)×Unit
noncomputable def fL(v:Tq2):Option (Tq1):=let b:=v.2.2.2.2.2.2.2.2.2.2.2.2.2.2.2.2.2.2.2;o8 (v.1.type0,v.1.a,())>>=λx1=>sH x1>>=λx2=>cL (x2.1,v.2)>>=λx3=>let c:=x3.2.2.2.2.2.2.2.2.2.2.2.2.2.2.2.2.2.2;if c.1.length=b.1.length then if c.2.2.1.length=b.2.2.1.length then if c.2.2.2.1.length=b.2.2.2.1.length then some (x3)else none else none else none
def n8:=kO cI (kP kM (kP kN k0))
def Kn:Xc vw:=mX prog 12 n8.1 FN [] [] []
theorem mt:aM prog 77 rn fL:=fn0 Kn Tryz.func77 n8.2
def FO:aN vw:={rcut:=aT}
def rq:Sig vw:={params:=[.bp 100000 0,l_],objs:=[(100000, .box none [.bp 100001 0,Dq5,Dq1,Dq1,Dq1,Dq1,Dq5,Dq4,Dq4,Dq8, .vh 100002, .vh 100003,Dq1,Dq1,Dq9]),(100001, .box none [Dq3,Dq4,Dq1, .vh 100004,Dq1, .vh 100005,Dq1,Dq6]),(100002,Oq2),(100003,Oq2),(100004,Oq7),(100005,Oq2)],rcut:=aT,rvars:=[],keep:=[100000,100001,100002,3011,100004,100005]}
noncomputable def fM(v:Tq2):Option (Tq1):=let a:=v.2.2.2.2.2.2.2.2.2.2.2.2.2.2.2.2.2.2.2;cL (aE.mk (aF.mk (0:Int) (0:Int) (Z4 #[]) false false) (0:Int) true (Z4 #[]) (aF.mk (0:Int) (0:Int) (Z4 #[]) false false),v.2)>>=λx1=>let b:=x1.2.2.2.2.2.2.2.2.2.2.2.2.2.2.2.2.2.2;if b.1.length=a.1.length then if b.2.2.1.length=a.2.2.1.length then if b.2.2.2.1.length=a.2.2.2.1.length then some (x1)else none else none else none
def n9:=kO cI k0
def Ko:Xc vw:=mX prog 7 n9.1 FO [] [] []
theorem mu:aM prog 78 rq fM:=fn0 Ko Tryz.func78 n9.2
def FP:aN vw:={rcut:=aT}
def ru:Sig vw:={params:=[.bp 100000 0,l_],objs:=[(100000, .box none [.bp 100001 0,Dq5,Dq1,Dq1,Dq1,Dq1,Dq5,Dq4,Dq4,Dq8, .vh 100002, .vh 100003,Dq1,Dq1,Dq9]),(100001, .box none [Dq3,Dq4,Dq1, .vh 100004,Dq1, .vh 100005,Dq1,Dq6]),(100002,Oq2),(100003,Oq2),(100004,Oq7),(100005,Oq2)],rcut:=aT,rvars:=[],keep:=[100000,100001,100002,3011,100004,100005]}
noncomputable def fN(v:Tq2):Option (Tq1):=let b:=v.2.2.2.2.2.2.2.2.2.2.2.2.2.2.2.2.2.2.2;if 0<=v.1.a/\v.1.a<(↑b.1.length:Int)then b.1[v.1.a.toNat]?>>=λx1=>cL (x1,v.2)>>=λx2=>let c:=x2.2.2.2.2.2.2.2.2.2.2.2.2.2.2.2.2.2.2;if c.1.length=b.1.length then if c.2.2.1.length=b.2.2.1.length then if c.2.2.2.1.length=b.2.2.2.1.length then some (x2)else none else none else none else none
def n_:=kO cI k0
def Kp:Xc vw:=mX prog 14 n_.1 FP [] [] []
theorem mv:aM prog 79 ru fN:=fn0 Kp Tryz.func79 n_.2
def vR:Cut SN:=⟨[(0, .bp 100000 0),(5, .bp 5 0),(39,Dq4)],[(100000, .box none [.bp 100001 0,Dq5,Dq1,Dq1,Dq1,Dq1,Dq5,Dq4,Dq4,Dq8, .vh 100002, .vh 100003,Dq1,Dq1,Dq9]),(5, .st .myValueT),(100001, .box none [Dq3,Dq4,Dq1, .vh 100004,Dq1, .vh 100005,Dq1,Dq6]),(100002,Oq2),(100003,Oq2),(100004,Oq7),(100005,Oq2)]⟩
def qs:Cut SN:=⟨[(0, .bp 100000 0)],[(100000, .box none [.bp 100001 0,Dq5,Dq1,Dq1,Dq1,Dq1,Dq5,Dq4,Dq4,Dq8, .vh 100002, .vh 100003,Dq1,Dq1,Dq9]),(100001, .box none [Dq3,Dq4,Dq1, .vh 100004,Dq1, .vh 3015,Dq1,Dq6]),(100002,Oq2),(100003,Oq2),(100004,Oq7),(3015,Oq2)]⟩
def Bz:aN vw:={rcut:=qs}
def xu:Sig vw:={params:=[.bp 100000 0,Dq1,Tc],objs:=[(100000, .box none [.bp 100001 0,Dq5,Dq1,Dq1,Dq1,Dq1,Dq5,Dq4,Dq4,Dq8, .vh 100002, .vh 100003,Dq1,Dq1,Dq9]),(100001, .box none [Dq3,Dq4,Dq1, .vh 100004,Dq1, .vh 100005,Dq1,Dq6]),(100002,Oq2),(100003,Oq2),(100004,Oq7),(100005,Oq2)],rcut:=qs,rvars:=[],keep:=[100000,100001,100002,100003,100004,3015]}
noncomputable def jy(v:Int×aE×ByteArray×Int×Int×Int×Int×ByteArray×Bool×Bool×(List aQ)×Int×Int×(Option aE)×(List aB)×Bool×Int×Int×Int×(Option bX)×(List aE)×(List aE)×(List Int)×(List aE)×Unit):Option (Tq1):=let c:=v.2.2.2.2.2;let a:=c.2.2.2.2.2.2;let b:=a.2.2.2.2.2.2;let d:=b.2.2.2;let G1:=(v.2.2.1,v.2.2.2.1,v.2.2.2.2.1,c.1,c.2.1,c.2.2.1,c.2.2.2.1,c.2.2.2.2.1,c.2.2.2.2.2.1,a.1,a.2.1,a.2.2.1,v.2.1,a.2.2.2.1,a.2.2.2.2.1,a.2.2.2.2.2.1,b.1,b.2.1,b.2.2.1,d.1.set v.1.toNat v.2.1,d.2);if 0<=v.1/\v.1<(↑d.1.length:Int)then d.1[v.1.toNat]?>>=λx1=>(if(a.1==1)=true then if(v.1==b.1)=true then some ((decide ((↑d.2.2.2.1.length:Int)<100),G1))else some (false,G1)else some (false,G1))>>=λx2=>let g:=x2.2.2.2.2;let j:=g.2.2;let e:=j.2.2.2;let h:=e.2.2.2;let f:=h.2.2.2.2;let i:=f.2.2.2.2;if x2.1=true then if i.2.2.2.1.length+[h.2.1].length<=4294967296 then some ((x2.2.1,x2.2.2.1,x2.2.2.2.1,g.1,g.2.1,j.1,j.2.1,j.2.2.1,e.1,e.2.1,e.2.2.1,h.1,h.2.2.1,h.2.2.2.1,f.1,f.2.1,f.2.2.1,f.2.2.2.1,i.1,i.2.1,i.2.2.1,i.2.2.2.1++[h.2.1],()))else none else some (x2.2.1,x2.2.2.1,x2.2.2.2.1,g.1,g.2.1,j.1,j.2.1,j.2.2.1,e.1,e.2.1,e.2.2.1,h.1,h.2.2)else none
def Gq:Xc vw:=mX prog 56 c0 Bz [] [(2,vR)] []
theorem sI:aM prog 123 xu jy:=fn0 Gq Tryz.func123 bT
def qt:Cut SN:=⟨[(0, .bp 100000 0),(2, .bp 2 0)],[(100000, .box none [.bp 100001 0,Dq5,Dq1,Dq1,Dq1,Dq1,Dq5,Dq4,Dq4,Dq8, .vh 100002, .vh 3011,Dq1,Dq1,Dq9]),(100001, .box none [Dq3,Dq4,Dq1, .vh 100004,Dq1, .vh 100005,Dq1,Dq6]),(100002,Oq2),(3011,Oq2),(100004,Oq7),(100005,Oq2),(2, .st .myValueT)]⟩
def BA:aN vw:={rcut:=qt}
def xd:Nat->Bool:=λk=>match k with|5000027=>true|_=>false
def xw:Sig vw:={params:=[.bp 100000 0],objs:=[(100000, .box none [.bp 100001 0,Dq5,Dq1,Dq1,Dq1,Dq1,Dq5,Dq4,Dq4,Dq8, .vh 100002, .vh 100003,Dq1,Dq1,Dq9]),(100001, .box none [Dq3,Dq4,Dq1, .vh 100004,Dq1, .vh 100005,Dq1,Dq6]),(100002,Oq2),(100003,Oq2),(100004,Oq7),(100005,Oq2)],rcut:=qt,rvars:=[.cell 2 31],keep:=[100000,100001,100002,3011,100004,100005]}
abbrev Wy:=ByteArray×Int×Int×Int×Int×ByteArray×Bool×Bool×(List aQ)×Int×Int×(Option aE)×(List aB)×Bool×Int×Int×Int×(Option bX)×(List aE)×(List aE)×(List Int)×(List aE)×aE×Unit
noncomputable def cq(v:Tq1):Option (Wy):=let d:=v.2.2.2;let c:=d.2.2.2.2;let e:=c.2.2.2;let a:=e.2.2.2.2;let b:=a.2.2.2.2.2;let G1:=(i64.wrap ((↑b.1.length:Int) -1));if 0<=i64.wrap ((↑b.1.length:Int) -1)/\i64.wrap ((↑b.1.length:Int) -1)<(↑b.1.length:Int)then b.1[G1.toNat]?>>=λx1=>if 0<=i64.wrap ((↑b.1.length:Int) -1)then if i64.wrap ((↑b.1.length:Int) -1)<=(↑b.1.length:Int)then some ((v.1,v.2.1,v.2.2.1,d.1,d.2.1,d.2.2.1,d.2.2.2.1,c.1,c.2.1,c.2.2.1,e.1,e.2.1,e.2.2.1,e.2.2.2.1,a.1,a.2.1,a.2.2.1,a.2.2.2.1,a.2.2.2.2.1,abg G1.toNat b.1,b.2.1,b.2.2.1,x1,()))else none else none else none
def Gr:Xc vw:={P:=prog,n:=31,call:=c0,pre:=xd,sh:=BA}
theorem b_:aM prog 124 xw cq:=fn0 Gr Tryz.func124 bT
def kf:Cut SN:=⟨[(0, .bp 100000 0)],[(100000, .box none [.bp 100001 0,Dq5,Dq1,Dq1,Dq1,Dq1,Dq5,Dq4,Dq4,Dq8, .vh 100002, .vh 3011,Dq1,Dq1,Dq9]),(100001, .box none [Dq3,Dq4,Dq1, .vh 100004,Dq1, .vh 3015,Dq1,Dq6]),(100002,Oq2),(3011,Oq2),(100004,Oq7),(3015,Oq2)]⟩
def FQ:aN vw:={rcut:=kf}
def rv:Sig vw:={params:=[.bp 100000 0,l_],objs:=[(100000, .box none [.bp 100001 0,Dq5,Dq1,Dq1,Dq1,Dq1,Dq5,Dq4,Dq4,Dq8, .vh 100002, .vh 100003,Dq1,Dq1,Dq9]),(100001, .box none [Dq3,Dq4,Dq1, .vh 100004,Dq1, .vh 100005,Dq1,Dq6]),(100002,Oq2),(100003,Oq2),(100004,Oq7),(100005,Oq2)],rcut:=kf,rvars:=[],keep:=[100000,100001,100002,3011,100004,3015]}
noncomputable def fO(v:Tq2):Option (Tq1):=let b:=v.2.2.2.2.2.2.2.2.2.2.2.2.2.2.2.2.2.2.2;cq v.2>>=λx1=>let f:=x1.2.2.2;let d:=f.2.2.2.2;let g:=d.2.2.2;let c:=g.2.2.2.2;let e:=c.2.2.2.2;if e.1.length=b.1.length then if e.2.2.1.length=b.2.2.1.length then if e.2.2.2.1.length=b.2.2.2.1.length then jy (v.1.a,e.2.2.2.2.1,x1.1,x1.2.1,x1.2.2.1,f.1,f.2.1,f.2.2.1,f.2.2.2.1,d.1,d.2.1,d.2.2.1,g.1,g.2.1,g.2.2.1,g.2.2.2.1,c.1,c.2.1,c.2.2.1,c.2.2.2.1,e.1,e.2.1,e.2.2.1,e.2.2.2.1,())>>=λx2=>let h:=x2.2.2.2.2.2.2.2.2.2.2.2.2.2.2.2.2.2.2;if h.1.length=e.1.length then if h.2.1.length=e.2.1.length then if h.2.2.1.length=e.2.2.1.length then some (x2)else none else none else none else none else none else none
def oa:=kO sI (kO b_ k0)
def Kq:Xc vw:=mX prog 10 oa.1 FQ [] [] []
theorem mw:aM prog 80 rv fO:=fn0 Kq Tryz.func80 oa.2
def FR:aN vw:={rcut:=aT}
def rx:Sig vw:={params:=[.bp 100000 0,l_],objs:=[(100000, .box none [.bp 100001 0,Dq5,Dq1,Dq1,Dq1,Dq1,Dq5,Dq4,Dq4,Dq8, .vh 100002, .vh 100003,Dq1,Dq1,Dq9]),(100001, .box none [Dq3,Dq4,Dq1, .vh 100004,Dq1, .vh 100005,Dq1,Dq6]),(100002,Oq2),(100003,Oq2),(100004,Oq7),(100005,Oq2)],rcut:=aT,rvars:=[],keep:=[100000,100001,100002,3011,100004,100005]}
noncomputable def fP(v:Tq2):Option (Tq1):=let a:=v.2.2.2.2.2.2.2.2.2.2.2.2.2.2.2.2.2.2.2;cq v.2>>=λx1=>let c:=x1.2.2.2.2.2.2;let b:=c.2.2.2.2.2.2;let d:=b.2.2.2.2.2.2;if d.1.length=a.1.length then if d.2.2.1.length=a.2.2.1.length then if d.2.2.2.1.length=a.2.2.2.1.length then some ((x1.1,x1.2.1,x1.2.2.1,x1.2.2.2.1,x1.2.2.2.2.1,x1.2.2.2.2.2.1,c.1,c.2.1,c.2.2.1,c.2.2.2.1,c.2.2.2.2.1,c.2.2.2.2.2.1,b.1,b.2.1,b.2.2.1,b.2.2.2.1,b.2.2.2.2.1,b.2.2.2.2.2.1,d.1,d.2.1,d.2.2.1,d.2.2.2.1,()))else none else none else none
def ob:=kO b_ k0
def Kr:Xc vw:=mX prog 6 ob.1 FR [] [] []
theorem my:aM prog 81 rx fP:=fn0 Kr Tryz.func81 ob.2
def Va:aN vw:={rcut:=nh}
def Sa:Sig vw:=sg [nd] nh [.tmp 2]
noncomputable def Et(v:bB×Unit):Option (Int×Unit):=if v.1.signed=true then if 0<=i64.wrap (v.1.bits-1)then some ((Bs.ishl i64 (-1:Int) (i64.wrap (v.1.bits-1)),()))else none else some (((0:Int),()))
def ZN:Xc vw:=mX prog 9 c0 Va [] [] []
theorem yZ:aM prog 171 Sa Et:=fn0 ZN Tryz.func171 bT
def U0:aN vw:={rcut:=cD}
def LR:Sig vw:=sg [nd,Dq1] cD [.tmp 4]
noncomputable def m6(v:bB×Int×Unit):Option (Bool×Unit):=(Et (v.1,())>>=λx1=>if decide (v.2.1>=x1.1)=true then AY (v.1,())>>=λx2=>some ((decide (v.2.1<=x2.1),()))else some ((false,())))>>=λx1=>some (x1)
def C6:=kP yZ (kP sM k0)
def ZG:Xc vw:=mX prog 15 C6.1 U0 [] [(1,cD)] []
theorem nD:aM prog 157 LR m6:=fn0 ZG Tryz.func157 C6.2
def PI:Cut SN:=⟨[(31,Dq4)],[]⟩
def Aa:Cut SN:=⟨[(8,Dq1)],[]⟩
def UY:aN vw:={rcut:=Aa}
def R1:Sig vw:=sg [Dq1,nd,Dq1,Dq1] Aa [.tmp 8]
abbrev Mj:=Int×bB×Int×Int×Unit
noncomputable def Ep(v:Mj):Option (Int×Unit):=(o_ (v.2.1,())>>=λx1=>if(x1.1 !=0)=true then some ((true,()))else if decide (v.1<5)=true then some ((true,()))else if decide (v.1>17)=true then some ((true,()))else m6 (v.2.1,v.2.2.1,())>>=λx2=>if(!x2.1)=true then some ((true,()))else m6 (v.2.1,v.2.2.2)>>=λx3=>some ((!x3.1,())))>>=λx1=>if x1.1=true then some (((1:Int),()))else some (((0:Int),()))
def C5:=kP jz (kP nD k0)
def ZE:Xc vw:=mX prog 32 C5.1 UY [] [(1,PI)] []
theorem yW:aM prog 155 R1 Ep:=fn0 ZE Tryz.func155 C5.2
end Go.Proofs.YtcghbgmmgcljkaaGreatDoor
end
section
namespace Go.Proofs.YtcghbgmmgcljkaaGreatDoor
open Go.Awp Go.Tx
open IntKind (i64)
open Go.Proofs.Tryz (prog)
set_option maxHeartbeats 4000000
set_option maxRecDepth 100000
def PV:Cut SN:=⟨[(0, .bp 0 0)],[(0, .bar 18 (.st .operationT))]⟩
def U_:aN vw:={rcut:=PV}
def LT:Sig vw:=sg [] PV [.cell 0 207]
noncomputable def ja(v:Unit):Option ((List bQ)×Unit):=some (([bQ.mk none none,bQ.mk none none,bQ.mk none none,bQ.mk none none,bQ.mk none none,bQ.mk (some (178:Nat)) none,bQ.mk (some (179:Nat)) none,bQ.mk (some (180:Nat)) none,bQ.mk (some (181:Nat)) none,bQ.mk (some (182:Nat)) none,bQ.mk (some (178:Nat)) (some (169:Nat)),bQ.mk (some (179:Nat)) (some (169:Nat)),bQ.mk (some (180:Nat)) (some (169:Nat)),bQ.mk (some (178:Nat)) (some (183:Nat)),bQ.mk (some (179:Nat)) (some (183:Nat)),bQ.mk (some (184:Nat)) (some (169:Nat)),bQ.mk (some (185:Nat)) (some (169:Nat)),bQ.mk (some (186:Nat)) (some (169:Nat))],()))
def ZM:Xc vw:=mX prog 26 c0 U_ [] [] []
theorem IH:aM prog 170 LT ja:=fn0 ZM Tryz.func170 bT
def Ve:aN vw:={rcut:=bF}
def LU:Sig vw:=sg [Dq1,Dq1] bF [.tmp 4]
noncomputable def A2(v:Int×Int×Unit):Option (Int×Unit):=some ((i64.wrap (v.1+v.2.1),()))
def ZQ:Xc vw:=mX prog 8 c0 Ve [] [] []
theorem IM:aM prog 178 LU A2:=fn0 ZQ Tryz.func178 bT
def Vf:aN vw:={rcut:=bF}
def LV:Sig vw:=sg [Dq1,Dq1] bF [.tmp 4]
noncomputable def A3(v:Int×Int×Unit):Option (Int×Unit):=some ((i64.wrap (v.1-v.2.1),()))
def ZR:Xc vw:=mX prog 8 c0 Vf [] [] []
theorem IP:aM prog 179 LV A3:=fn0 ZR Tryz.func179 bT
def Vg:aN vw:={rcut:=bF}
def LW:Sig vw:=sg [Dq1,Dq1] bF [.tmp 4]
noncomputable def Eu(v:Int×Int×Unit):Option (Int×Unit):=some ((i64.wrap (v.1 *v.2.1),()))
def ZS:Xc vw:=mX prog 8 c0 Vg [] [] []
theorem IQ:aM prog 180 LW Eu:=fn0 ZS Tryz.func180 bT
def Vh:aN vw:={rcut:=bF}
def LX:Sig vw:=sg [Dq1,Dq1] bF [.tmp 4]
noncomputable def IR(v:Int×Int×Unit):Option (Int×Unit):=if v.2.1=0 then none else some ((i64.wrap (v.1.tdiv v.2.1),()))
def ZT:Xc vw:=mX prog 8 c0 Vh [] [] []
theorem IU:aM prog 181 LX IR:=fn0 ZT Tryz.func181 bT
def Vi:aN vw:={rcut:=bF}
def LY:Sig vw:=sg [Dq1,Dq1] bF [.tmp 4]
noncomputable def Ev(v:Int×Int×Unit):Option (Int×Unit):=if v.2.1=0 then none else some ((v.1.tmod v.2.1,()))
def ZU:Xc vw:=mX prog 8 c0 Vi [] [] []
theorem IV:aM prog 182 LY Ev:=fn0 ZU Tryz.func182 bT
def Vj:aN vw:={rcut:=bF}
def LZ:Sig vw:=sg [nd,Dq1] bF [.tmp 4]
noncomputable def Ew(v:bB×Int×Unit):Option (Int×Unit):=Et (v.1,())>>=λx1=>AY (v.1,())>>=λx2=>some ((max x1.1 (min x2.1 v.2.1),()))
def Db:=kP yZ (kP sM k0)
def ZV:Xc vw:=mX prog 12 Db.1 Vj [] [] []
theorem IW:aM prog 183 LZ Ew:=fn0 ZV Tryz.func183 Db.2
def Vk:aN vw:={rcut:=bF}
def L2:Sig vw:=sg [Dq1,Dq1] bF [.tmp 4]
noncomputable def IX(v:Int×Int×Unit):Option (Int×Unit):=some ((Bs.iand i64 v.1 v.2.1,()))
def ZW:Xc vw:=mX prog 8 c0 Vk [] [] []
theorem IY:aM prog 184 L2 IX:=fn0 ZW Tryz.func184 bT
def Vl:aN vw:={rcut:=bF}
def L3:Sig vw:=sg [Dq1,Dq1] bF [.tmp 4]
noncomputable def IZ(v:Int×Int×Unit):Option (Int×Unit):=some ((Bs.ior i64 v.1 v.2.1,()))
def ZX:Xc vw:=mX prog 8 c0 Vl [] [] []
theorem I0:aM prog 185 L3 IZ:=fn0 ZX Tryz.func185 bT
def Vm:aN vw:={rcut:=bF}
def L4:Sig vw:=sg [Dq1,Dq1] bF [.tmp 4]
noncomputable def I1(v:Int×Int×Unit):Option (Int×Unit):=some ((Bs.ixor i64 v.1 v.2.1,()))
def ZY:Xc vw:=mX prog 8 c0 Vm [] [] []
theorem I2:aM prog 186 L4 I1:=fn0 ZY Tryz.func186 bT
def PJ:Cut SN:=⟨[(0,Dq1),(2,Dq1),(3,Dq1),(5, .bp 5 0),(17,Dq4)],[(5, .st .myIntT)]⟩
def PK:Cut SN:=⟨[(0,Dq1),(2,Dq1),(3,Dq1),(5, .bp 5 0),(23,Dq4)],[(5, .st .myIntT)]⟩
def PL:Cut SN:=⟨[(0,Dq1),(2,Dq1),(3,Dq1),(5, .bp 5 0),(10, .bp 10 0),(11,Dq1)],[(5, .st .myIntT),(10, .st .operationT)]⟩
def iI:Cut SN:=⟨[(8,Dq1),(9,Dq1)],[]⟩
def PM:Cut SN:=⟨[(5, .bp 5 0),(11,Dq1),(56,Dq4)],[(5, .st .myIntT)]⟩
def UZ:aN vw:={rcut:=iI}
def R2:Sig vw:=sg [Dq1,nd,Dq1,Dq1] iI [.tmp 8, .tmp 9]
noncomputable def Er(v:Mj):Option (Int×Int×Unit):=(if(v.2.2.2.1==0)=true then some ((v.1,v.2.2.1,v.2.2.2.1,v.1==8,v.2.1,()))else some ((v.1,v.2.2.1,v.2.2.2.1,false,v.2.1,())))>>=λx1=>let a:=x1.2.2;if a.2.1=true then some (((0:Int),(2:Int),()))else(if(a.1==0)=true then some (x1.1,x1.2.1,a.1,x1.1==9,a.2.2)else some (x1.1,x1.2.1,a.1,false,a.2.2))>>=λx2=>let b:=x2.2;let c:=b.2.1;let d:=x2.1;let G1:=(b.1,c,());if b.2.2.1=true then some ((b.1,(2:Int),()))else ja ()>>=λx3=>if 0<=d/\d<(↑(18:Nat):Int)then x3.1[d.toNat]?>>=λx4=>let G2:=(b.2.2.2.1,x4,());((x4.whole:Option (Nat))>>=λx5=>if x5=(157:Nat)then none else if x5=(169:Nat)then none else if x5=(170:Nat)then none else if x5=(178:Nat)then A2 G1>>=λx6=>some (d,b.1,c,x6.1,G2)else if x5=(179:Nat)then A3 G1>>=λx6=>some (d,b.1,c,x6.1,G2)else if x5=(180:Nat)then Eu G1>>=λx6=>some (d,b.1,c,x6.1,G2)else if x5=(181:Nat)then IR G1>>=λx6=>some (d,b.1,c,x6.1,G2)else if x5=(182:Nat)then Ev G1>>=λx6=>some (d,b.1,c,x6.1,G2)else if x5=(183:Nat)then none else if x5=(184:Nat)then IX G1>>=λx6=>some (d,b.1,c,x6.1,G2)else if x5=(185:Nat)then IZ G1>>=λx6=>some (d,b.1,c,x6.1,G2)else if x5=(186:Nat)then I1 G1>>=λx6=>some (d,b.1,c,x6.1,G2)else none)>>=λx5=>let e:=x5.2.2.2;let G4:=(e.2.1,());let G3:=(e.2.1,e.1,());if e.2.2.1.into.isSome=true then((e.2.2.1.into:Option (Nat))>>=λx6=>if x6=(157:Nat)then m6 G3>>=λx7=>none else if x6=(169:Nat)then wO G3>>=λx7=>some ((x7.1,(0:Int),()))else if x6=(170:Nat)then none else if x6=(178:Nat)then none else if x6=(179:Nat)then none else if x6=(180:Nat)then none else if x6=(181:Nat)then none else if x6=(182:Nat)then none else if x6=(183:Nat)then Ew G3>>=λx7=>some ((x7.1,(0:Int),()))else if x6=(184:Nat)then none else if x6=(185:Nat)then none else if x6=(186:Nat)then none else none)>>=λx6=>some (x6)else(m6 G3>>=λx6=>if(!x6.1)=true then some (e.1,true,G4)else if(x5.1==9)=true then if x5.2.2.1=0 then none else m6 (e.2.1,i64.wrap (x5.2.1.tdiv x5.2.2.1),())>>=λx7=>some (e.1,!x7.1,G4)else some (e.1,false,G4))>>=λx6=>if x6.2.1=true then wO (x6.2.2.1,x6.1,())>>=λx7=>some ((x7.1,(1:Int),()))else some ((x6.1,(0:Int),()))else none
def wb:dh vw:=λA fid args S k=>if fid=157 then ct prog LR m6 A args S k else if fid=169 then ct prog LS wO A args S k else if fid=170 then ct prog LT ja A args S k else if fid=178 then ct prog LU A2 A args S k else if fid=179 then ct prog LV A3 A args S k else if fid=180 then ct prog LW Eu A args S k else if fid=181 then ct prog LX IR A args S k else if fid=182 then ct prog LY Ev A args S k else if fid=183 then ct prog LZ Ew A args S k else if fid=184 then ct prog L2 IX A args S k else if fid=185 then ct prog L3 IZ A args S k else if fid=186 then ct prog L4 I1 A args S k else none
def ZF:Xc vw:=mX prog 61 wb UZ [] [(1,PJ),(3,PK),(6,PL),(8,iI),(9,PM)] []
theorem Aj:bG prog wb:=λA fid args S dst k r h=>by
 unfold wb at h
 rcases bJ h with⟨e,h⟩|⟨e,h⟩
 ·subst e;exact aR (nD) rfl rfl h
 ·
  rcases bJ h with⟨e,h⟩|⟨e,h⟩
  ·subst e;exact aR (yY) rfl rfl h
  ·
   rcases bJ h with⟨e,h⟩|⟨e,h⟩
   ·subst e;exact aR (IH) rfl rfl h
   ·
    rcases bJ h with⟨e,h⟩|⟨e,h⟩
    ·subst e;exact aR (IM) rfl rfl h
    ·
     rcases bJ h with⟨e,h⟩|⟨e,h⟩
     ·subst e;exact aR (IP) rfl rfl h
     ·
      rcases bJ h with⟨e,h⟩|⟨e,h⟩
      ·subst e;exact aR (IQ) rfl rfl h
      ·
       rcases bJ h with⟨e,h⟩|⟨e,h⟩
       ·subst e;exact aR (IU) rfl rfl h
       ·
        rcases bJ h with⟨e,h⟩|⟨e,h⟩
        ·subst e;exact aR (IV) rfl rfl h
        ·
         rcases bJ h with⟨e,h⟩|⟨e,h⟩
         ·subst e;exact aR (IW) rfl rfl h
         ·
          rcases bJ h with⟨e,h⟩|⟨e,h⟩
          ·subst e;exact aR (IY) rfl rfl h
          ·
           rcases bJ h with⟨e,h⟩|⟨e,h⟩
           ·subst e;exact aR (I0) rfl rfl h
           ·
            rcases bJ h with⟨e,h⟩|⟨e,h⟩
            ·subst e;exact aR (I2) rfl rfl h
            ·
             cases h
theorem yX:aM prog 156 R2 Er:=fn0 ZF Tryz.func156 Aj
def Ps:Cut SN:=⟨[(8,Dq1),(9,Dq1),(10,Dq1)],[]⟩
def Uz:aN vw:={rcut:=Ps}
def RB:Sig vw:=sg [Dq1,nd,Dq1,Dq1] Ps [.tmp 8, .tmp 9, .tmp 10]
noncomputable def HZ(v:Mj):Option (Cg):=Ep v>>=λx1=>if(x1.1 !=0)=true then some (((0:Int),(0:Int),x1))else Er v>>=λx2=>if(x2.2.1 !=0)=true then some (((0:Int),x2.2.1,(0:Int),()))else some ((x2.1,(0:Int),(0:Int),()))
def CS:=kP yW (kP yX k0)
def Zj:Xc vw:=mX prog 34 CS.1 Uz [] [] []
theorem H1:aM prog 125 RB HZ:=fn0 Zj Tryz.func125 CS.2
def UB:aN vw:={rcut:=iI}
def RD:Sig vw:=sg [Dq1,nd,Dq1,Dq1] iI [.tmp 8, .tmp 9]
noncomputable def H2(v:Mj):Option (Int×Int×Unit):=Ep v>>=λx1=>if(x1.1 !=0)=true then some (((0:Int),x1))else Er v>>=λx2=>some ((x2.1,(0:Int),()))
def CT:=kP yW (kP yX k0)
def Zl:Xc vw:=mX prog 30 CT.1 UB [] [] []
theorem H3:aM prog 127 RD H2:=fn0 Zl Tryz.func127 CT.2
def vS:Cut SN:=⟨[(0, .bp 100000 0),(1,Dq1)],[(100000, .box none [.bp 100001 0,Dq5,Dq1,Dq1,Dq1,Dq1,Dq5,Dq4,Dq4,Dq8, .vh 100002, .vh 100003,Dq1,Dq1,Dq9]),(100001, .box none [Dq3,Dq4,Dq1, .vh 100004,Dq1, .vh 100005,Dq1,Dq6]),(100002,Oq2),(100003,Oq2),(100004,Oq7),(100005,Oq2)]⟩
def vT:Cut SN:=⟨[(0, .bp 100000 0),(1,Dq1),(2,Dq1),(3,Dq1),(18,Dq4)],[(100000, .box none [.bp 100001 0,Dq5,Dq1,Dq1,Dq1,Dq1,Dq5,Dq4,Dq4,Dq8, .vh 100002, .vh 100003,Dq1,Dq1,Dq9]),(100001, .box none [Dq3,Dq4,Dq1, .vh 100004,Dq1, .vh 100005,Dq1,Dq6]),(100002,Oq2),(100003,Oq2),(100004,Oq7),(100005,Oq2)]⟩
def BB:aN vw:={rcut:=aT}
def xx:Sig vw:={params:=[.bp 100000 0,Dq1,Dq1,Dq1],objs:=[(100000, .box none [.bp 100001 0,Dq5,Dq1,Dq1,Dq1,Dq1,Dq5,Dq4,Dq4,Dq8, .vh 100002, .vh 100003,Dq1,Dq1,Dq9]),(100001, .box none [Dq3,Dq4,Dq1, .vh 100004,Dq1, .vh 100005,Dq1,Dq6]),(100002,Oq2),(100003,Oq2),(100004,Oq7),(100005,Oq2)],rcut:=aT,rvars:=[],keep:=[100000,100001,100002,3011,100004,100005]}
noncomputable def eU(v:Int×Int×Int×ByteArray×Int×Int×Int×Int×ByteArray×Bool×Bool×(List aQ)×Int×Int×(Option aE)×(List aB)×Bool×Int×Int×Int×(Option bX)×(List aE)×(List aE)×(List Int)×(List aE)×Unit):Option (Tq1):=(if(v.2.2.1 !=0)=true then some (v.1,v.2.1,v.2.2.1,v.2.2.2.2.2.2.2.2.2.2.2.2.2.2.2.2.1,v.2.2.2)else some (v.1,v.2.1,v.2.2.1,false,v.2.2.2))>>=λx1=>let b:=x1.2.2.2.2;let d:=b.2.2.2.2;let a:=d.2.2.2.2.2;let c:=a.2.2.2.2.2.2;let e:=c.2.2.2;if x1.2.2.2.1=true then d_ ((1:Int),x1.2.2.1,a.2.2.2.1,a.2.2.2.2.1,a.2.2.2.2.2.1,c.1,c.2.1,c.2.2.1,e.2.2)>>=λx2=>let f:=x2.2.2.2.2;if f.2.2.1.length=e.2.2.1.length then if f.2.2.2.1.length=e.2.2.2.1.length then some (b.1,b.2.1,b.2.2.1,b.2.2.2.1,d.1,d.2.1,d.2.2.1,d.2.2.2.1,d.2.2.2.2.1,a.1,a.2.1,a.2.2.1,x2.1,x2.2.1,x2.2.2.1,x2.2.2.2.1,f.1,f.2.1,e.1,e.2.1,f.2.2)else none else none else(if(x1.2.2.1 !=0)=true then some (x1.2.1,b)else some (x1.1,b))>>=λx2=>let g:=x2.2.2.2.2.2.2.2.2.2.2.2.2.2.2.2.2.2.2.2;sH (x2.1,())>>=λx3=>cL (x3.1,x2.2)>>=λx4=>let h:=x4.2.2.2.2.2.2.2.2.2.2.2.2.2.2.2.2.2.2;if h.1.length=g.1.length then if h.2.2.1.length=g.2.2.1.length then if h.2.2.2.1.length=g.2.2.2.1.length then some (x4)else none else none else none
def mc:=kO gu (kO cI (kP kM k0))
def Gs:Xc vw:=mX prog 32 mc.1 BB [(4,vS,[.norm])] [(0,vT)] []
theorem fy:aM prog 128 xx eU:=fn0 Gs Tryz.func128 mc.2
def FS:aN vw:={rcut:=aT}
def ry:Sig vw:={params:=[.bp 100000 0,l_],objs:=[(100000, .box none [.bp 100001 0,Dq5,Dq1,Dq1,Dq1,Dq1,Dq5,Dq4,Dq4,Dq8, .vh 100002, .vh 100003,Dq1,Dq1,Dq9]),(100001, .box none [Dq3,Dq4,Dq1, .vh 100004,Dq1, .vh 100005,Dq1,Dq6]),(100002,Oq2),(100003,Oq2),(100004,Oq7),(100005,Oq2)],rcut:=aT,rvars:=[],keep:=[100000,100001,100002,3011,100004,100005]}
noncomputable def fQ(v:Tq2):Option (Tq1):=let b:=v.2.2.2.2.2.2.2.2.2.2.2.2.2.2.2.2.2.2.2;cq v.2>>=λx1=>let f:=x1.2.2.2;let d:=f.2.2.2.2;let h:=d.2.2.2;let c:=h.2.2.2.2;let e:=c.2.2.2.2;let g:=e.2.2;if e.1.length=b.1.length then if g.1.length=b.2.2.1.length then if g.2.1.length=b.2.2.2.1.length then o8 (v.1.type0,g.2.2.1.n,())>>=λx2=>cq (x1.1,x1.2.1,x1.2.2.1,f.1,f.2.1,f.2.2.1,f.2.2.2.1,d.1,d.2.1,d.2.2.1,h.1,h.2.1,h.2.2.1,h.2.2.2.1,c.1,c.2.1,c.2.2.1,c.2.2.2.1,e.1,e.2.1,g.1,g.2.1,())>>=λx3=>let l:=x3.2.2.2;let j:=l.2.2.2.2;let o:=j.2.2.2;let i:=o.2.2.2.2;let k:=i.2.2.2.2;let m:=k.2.2;if k.1.length=e.1.length then if m.1.length=g.1.length then if m.2.1.length=g.2.1.length then o8 (v.1.type0,m.2.2.1.n,())>>=λx4=>uq (v.1.type0,())>>=λx5=>HZ (v.1.a,x5.1,x4.1,x2)>>=λx6=>uq (v.1.type0,())>>=λx7=>H2 (v.1.a,x7.1,x4.1,x2)>>=λx8=>eU (x6.1,x8.1,x6.2.1,x3.1,x3.2.1,x3.2.2.1,l.1,l.2.1,l.2.2.1,l.2.2.2.1,j.1,j.2.1,j.2.2.1,o.1,o.2.1,o.2.2.1,o.2.2.2.1,i.1,i.2.1,i.2.2.1,i.2.2.2.1,k.1,k.2.1,m.1,m.2.1,())>>=λx9=>let p:=x9.2.2.2.2.2.2.2.2.2.2.2.2.2.2.2.2.2.2;if p.1.length=k.1.length then if p.2.2.1.length=m.1.length then if p.2.2.2.1.length=m.2.1.length then some (x9)else none else none else none else none else none else none else none else none else none
def oc:=kP kN (kO b_ (kP H1 (kP nC (kP H3 (kO fy k0)))))
def Ks:Xc vw:=mX prog 51 oc.1 FS [] [] []
theorem mz:aM prog 82 ry fQ:=fn0 Ks Tryz.func82 oc.2
def FT:aN vw:={rcut:=aT}
def rz:Sig vw:={params:=[.bp 100000 0,l_],objs:=[(100000, .box none [.bp 100001 0,Dq5,Dq1,Dq1,Dq1,Dq1,Dq5,Dq4,Dq4,Dq8, .vh 100002, .vh 100003,Dq1,Dq1,Dq9]),(100001, .box none [Dq3,Dq4,Dq1, .vh 100004,Dq1, .vh 100005,Dq1,Dq6]),(100002,Oq2),(100003,Oq2),(100004,Oq7),(100005,Oq2)],rcut:=aT,rvars:=[],keep:=[100000,100001,100002,3011,100004,100005]}
noncomputable def fR(v:Tq2):Option (Tq1):=let b:=v.2.2.2.2.2.2.2.2.2.2.2.2.2.2.2.2.2.2.2;cq v.2>>=λx1=>let f:=x1.2.2.2.2;let d:=f.2.2.2.2;let g:=d.2.2.2.2;let c:=g.2.2.2.2;let e:=c.2.2.2.2;let h:=e.2.2.1;if c.2.2.1.length=b.1.length then if e.1.length=b.2.2.1.length then if e.2.1.length=b.2.2.2.1.length then cq (x1.1,x1.2.1,x1.2.2.1,x1.2.2.2.1,f.1,f.2.1,f.2.2.1,f.2.2.2.1,d.1,d.2.1,d.2.2.1,d.2.2.2.1,g.1,g.2.1,g.2.2.1,g.2.2.2.1,c.1,c.2.1,c.2.2.1,c.2.2.2.1,e.1,e.2.1,())>>=λx2=>let l:=x2.2.2.2.2;let j:=l.2.2.2.2;let m:=j.2.2.2.2;let i:=m.2.2.2.2;let k:=i.2.2.2.2;let o:=k.2.2.1;if i.2.2.1.length=c.2.2.1.length then if k.1.length=e.1.length then if k.2.1.length=e.2.1.length then if 0<=i64.wrap (v.1.a-18)/\i64.wrap (v.1.a-18)<(↑(6:Nat):Int)then[o.n==h.n,o.n !=h.n,decide (o.n<h.n),decide (o.n<=h.n),decide (o.n>h.n),decide (o.n>=h.n)][(i64.wrap (v.1.a-18)).toNat]?>>=λx3=>AK (x3,())>>=λx4=>cL (x4.1,x2.1,x2.2.1,x2.2.2.1,x2.2.2.2.1,l.1,l.2.1,l.2.2.1,l.2.2.2.1,j.1,j.2.1,j.2.2.1,j.2.2.2.1,m.1,m.2.1,m.2.2.1,m.2.2.2.1,i.1,i.2.1,i.2.2.1,i.2.2.2.1,k.1,k.2.1,())>>=λx5=>let p:=x5.2.2.2.2.2.2.2.2.2.2.2.2.2.2.2.2.2.2;if p.1.length=i.2.2.1.length then if p.2.2.1.length=k.1.length then if p.2.2.2.1.length=k.2.1.length then some (x5)else none else none else none else none else none else none else none else none else none else none
def od:=kO cI (kO b_ (kP sJ k0))
def Kt:Xc vw:=mX prog 38 od.1 FT [] [] []
theorem mA:aM prog 83 rz fR:=fn0 Kt Tryz.func83 od.2
def Pu:Cut SN:=⟨[(1,Dq1),(2, .bp 2 0),(15,Dq4)],[(2, .st .myIntT)]⟩
def Pv:Cut SN:=⟨[(4,Dq1),(5,Dq1),(6,Dq1)],[]⟩
def UD:aN vw:={rcut:=Pv}
def RF:Sig vw:=sg [nd,Dq1] Pv [.tmp 4, .tmp 5, .tmp 6]
noncomputable def H4(v:bB×Int×Unit):Option (Cg):=(o_ (v.1,())>>=λx1=>if(x1.1 !=0)=true then some ((v.2.1,true,v.1,()))else m6 v>>=λx2=>some ((v.2.1,!x2.1,v.1,())))>>=λx1=>if x1.2.1=true then some (((0:Int),(0:Int),(1:Int),()))else m6 (x1.2.2.1,i64.wrap ((0:Int) -x1.1),())>>=λx2=>if(!x2.1)=true then some (((0:Int),(1:Int),(0:Int),()))else some ((i64.wrap ((0:Int) -x1.1),(0:Int),(0:Int),()))
def CV:=kP jz (kP nD k0)
def Zn:Xc vw:=mX prog 23 CV.1 UD [] [(1,Pu)] []
theorem H5:aM prog 130 RF H4:=fn0 Zn Tryz.func130 CV.2
def FU:aN vw:={rcut:=aT}
def rA:Sig vw:={params:=[.bp 100000 0,l_],objs:=[(100000, .box none [.bp 100001 0,Dq5,Dq1,Dq1,Dq1,Dq1,Dq5,Dq4,Dq4,Dq8, .vh 100002, .vh 100003,Dq1,Dq1,Dq9]),(100001, .box none [Dq3,Dq4,Dq1, .vh 100004,Dq1, .vh 100005,Dq1,Dq6]),(100002,Oq2),(100003,Oq2),(100004,Oq7),(100005,Oq2)],rcut:=aT,rvars:=[],keep:=[100000,100001,100002,3011,100004,100005]}
noncomputable def fS(v:Tq2):Option (Tq1):=let a:=v.2.2.2.2.2.2.2.2.2.2.2.2.2.2.2.2.2.2.2;cq v.2>>=λx1=>let e:=x1.2.2.2;let c:=e.2.2.2.2;let g:=c.2.2.2;let b:=g.2.2.2.2;let d:=b.2.2.2.2;let f:=d.2.2;if d.1.length=a.1.length then if f.1.length=a.2.2.1.length then if f.2.1.length=a.2.2.2.1.length then o8 (v.1.type0,f.2.2.1.n,())>>=λx2=>uq (v.1.type0,())>>=λx3=>H4 (x3.1,x2)>>=λx4=>o8 (v.1.type0,i64.wrap ((0:Int) -x2.1),())>>=λx5=>eU (x4.1,x5.1,x4.2.1,x1.1,x1.2.1,x1.2.2.1,e.1,e.2.1,e.2.2.1,e.2.2.2.1,c.1,c.2.1,c.2.2.1,g.1,g.2.1,g.2.2.1,g.2.2.2.1,b.1,b.2.1,b.2.2.1,b.2.2.2.1,d.1,d.2.1,f.1,f.2.1,())>>=λx6=>let h:=x6.2.2.2.2.2.2.2.2.2.2.2.2.2.2.2.2.2.2;if h.1.length=d.1.length then if h.2.2.1.length=f.1.length then if h.2.2.2.1.length=f.2.1.length then some (x6)else none else none else none else none else none else none
def oe:=kP kN (kO b_ (kP nC (kO fy (kP H5 k0))))
def Ku:Xc vw:=mX prog 32 oe.1 FU [] [] []
theorem mB:aM prog 84 rA fS:=fn0 Ku Tryz.func84 oe.2
def FV:aN vw:={rcut:=aT}
def rB:Sig vw:={params:=[.bp 100000 0,l_],objs:=[(100000, .box none [.bp 100001 0,Dq5,Dq1,Dq1,Dq1,Dq1,Dq5,Dq4,Dq4,Dq8, .vh 100002, .vh 100003,Dq1,Dq1,Dq9]),(100001, .box none [Dq3,Dq4,Dq1, .vh 100004,Dq1, .vh 100005,Dq1,Dq6]),(100002,Oq2),(100003,Oq2),(100004,Oq7),(100005,Oq2)],rcut:=aT,rvars:=[],keep:=[100000,100001,100002,3011,100004,100005]}
noncomputable def fT(v:Tq2):Option (Tq1):=let a:=v.2.2.2.2.2.2.2.2.2.2.2.2.2.2.2.2.2.2.2;cq v.2>>=λx1=>let e:=x1.2.2.2;let c:=e.2.2.2.2;let g:=c.2.2.2;let b:=g.2.2.2.2;let d:=b.2.2.2.2;let f:=d.2.2;if d.1.length=a.1.length then if f.1.length=a.2.2.1.length then if f.2.1.length=a.2.2.2.1.length then AK (f.2.2.1.n==0,())>>=λx2=>cL (x2.1,x1.1,x1.2.1,x1.2.2.1,e.1,e.2.1,e.2.2.1,e.2.2.2.1,c.1,c.2.1,c.2.2.1,g.1,g.2.1,g.2.2.1,g.2.2.2.1,b.1,b.2.1,b.2.2.1,b.2.2.2.1,d.1,d.2.1,f.1,f.2.1,())>>=λx3=>let h:=x3.2.2.2.2.2.2.2.2.2.2.2.2.2.2.2.2.2.2;if h.1.length=d.1.length then if h.2.2.1.length=f.1.length then if h.2.2.2.1.length=f.2.1.length then some (x3)else none else none else none else none else none else none
def og:=kO cI (kO b_ (kP sJ k0))
def Kv:Xc vw:=mX prog 11 og.1 FV [] [] []
theorem mC:aM prog 85 rB fT:=fn0 Kv Tryz.func85 og.2
def Pw:Cut SN:=⟨[(4,Dq4),(5,Dq1)],[]⟩
def UE:aN vw:={rcut:=Pw}
def RG:Sig vw:=sg [nd,Dq1] Pw [.tmp 4, .tmp 5]
noncomputable def H6(v:bB×Int×Unit):Option (Bool×Int×Unit):=o_ (v.1,())>>=λx1=>if(x1.1 !=0)=true then some (false,x1)else m6 v>>=λx2=>some ((x2.1,(0:Int),()))
def CW:=kP jz (kP nD k0)
def Zo:Xc vw:=mX prog 15 CW.1 UE [] [] []
theorem H7:aM prog 131 RG H6:=fn0 Zo Tryz.func131 CW.2
def Ah:Cut SN:=⟨[(0, .bp 100000 0),(3, .bp 3 0),(4,Dq1),(5,Dq1)],[(100000, .box none [.bp 100001 0,Dq5,Dq1,Dq1,Dq1,Dq1,Dq5,Dq4,Dq4,Dq8, .vh 100002, .vh 3011,Dq1,Dq1,Dq9]),(3, .st .myCodeT),(100001, .box none [Dq3,Dq4,Dq1, .vh 100004,Dq1, .vh 100005,Dq1,Dq6]),(100002,Oq2),(3011,Oq2),(100004,Oq7),(100005,Oq2)]⟩
def FW:aN vw:={rcut:=aT}
def rC:Sig vw:={params:=[.bp 100000 0,l_],objs:=[(100000, .box none [.bp 100001 0,Dq5,Dq1,Dq1,Dq1,Dq1,Dq5,Dq4,Dq4,Dq8, .vh 100002, .vh 100003,Dq1,Dq1,Dq9]),(100001, .box none [Dq3,Dq4,Dq1, .vh 100004,Dq1, .vh 100005,Dq1,Dq6]),(100002,Oq2),(100003,Oq2),(100004,Oq7),(100005,Oq2)],rcut:=aT,rvars:=[],keep:=[100000,100001,100002,3011,100004,100005]}
noncomputable def fU(v:Tq2):Option (Tq1):=let a:=v.2.2.2.2.2.2.2.2.2.2.2.2.2.2.2.2.2.2.2;cq v.2>>=λx1=>let c:=x1.2.2.2.2.2.2;let f:=c.2.2.2;let b:=f.2.2.2.2;let d:=b.2.2.2.2.2;let e:=d.2.2;let G1:=(x1.1,x1.2.1,x1.2.2.1,x1.2.2.2.1,x1.2.2.2.2.1,x1.2.2.2.2.2.1,c.1,c.2.1,c.2.2.1,f.1,f.2.1,f.2.2.1,v.1,f.2.2.2.1,b.1,b.2.1,b.2.2.1,b.2.2.2.1,b.2.2.2.2.1,d.1,d.2.1,e.1,e.2.1,());if d.1.length=a.1.length then if e.1.length=a.2.2.1.length then if e.2.1.length=a.2.2.2.1.length then(uq (v.1.type0,())>>=λx2=>H6 (x2.1,e.2.2.1.n,())>>=λx3=>if(!x3.1)=true then some ((e.2.2.1.n,(3:Int),G1))else some ((e.2.2.1.n,(0:Int),G1)))>>=λx2=>let i:=x2.2.2.2.2;let g:=i.2.2.2.2.2;let j:=g.2.2.2;let h:=j.2.2.2.2.2.2.2.2.2;o8 (j.2.2.1.type0,x2.1,())>>=λx3=>eU (x2.1,x3.1,x2.2.1,x2.2.2.1,x2.2.2.2.1,i.1,i.2.1,i.2.2.1,i.2.2.2.1,i.2.2.2.2.1,g.1,g.2.1,g.2.2.1,j.1,j.2.1,j.2.2.2)>>=λx4=>let k:=x4.2.2.2.2.2.2.2.2.2.2.2.2.2.2.2.2.2.2;if k.1.length=h.1.length then if k.2.2.1.length=h.2.2.1.length then if k.2.2.2.1.length=h.2.2.2.1.length then some (x4)else none else none else none else none else none else none
def oh:=kP kN (kO b_ (kP nC (kO fy (kP H7 k0))))
def Kw:Xc vw:=mX prog 29 oh.1 FW [(6,Ah,[.norm])] [] []
theorem mD:aM prog 86 rC fU:=fn0 Kw Tryz.func86 oh.2
def FX:aN vw:={rcut:=aT}
def rD:Sig vw:={params:=[.bp 100000 0,l_],objs:=[(100000, .box none [.bp 100001 0,Dq5,Dq1,Dq1,Dq1,Dq1,Dq5,Dq4,Dq4,Dq8, .vh 100002, .vh 100003,Dq1,Dq1,Dq9]),(100001, .box none [Dq3,Dq4,Dq1, .vh 100004,Dq1, .vh 100005,Dq1,Dq6]),(100002,Oq2),(100003,Oq2),(100004,Oq7),(100005,Oq2)],rcut:=aT,rvars:=[],keep:=[100000,100001,100002,3011,100004,100005]}
noncomputable def fV(v:Tq2):Option (Tq1):=let a:=v.2.2.2.2.2.2.2.2.2.2.2.2.2.2.2.2.2.2.2;cq v.2>>=λx1=>let e:=x1.2.2.2;let c:=e.2.2.2.2;let g:=c.2.2.2;let b:=g.2.2.2.2;let d:=b.2.2.2.2;let f:=d.2.2;if d.1.length=a.1.length then if f.1.length=a.2.2.1.length then if f.2.1.length=a.2.2.2.1.length then o8 (v.1.type0,f.2.2.1.n,())>>=λx2=>sH x2>>=λx3=>cL (x3.1,x1.1,x1.2.1,x1.2.2.1,e.1,e.2.1,e.2.2.1,e.2.2.2.1,c.1,c.2.1,c.2.2.1,g.1,g.2.1,g.2.2.1,g.2.2.2.1,b.1,b.2.1,b.2.2.1,b.2.2.2.1,d.1,d.2.1,f.1,f.2.1,())>>=λx4=>let h:=x4.2.2.2.2.2.2.2.2.2.2.2.2.2.2.2.2.2.2;if h.1.length=d.1.length then if h.2.2.1.length=f.1.length then if h.2.2.2.1.length=f.2.1.length then some (x4)else none else none else none else none else none else none
def oi:=kO cI (kP kM (kP kN (kO b_ k0)))
def Kx:Xc vw:=mX prog 13 oi.1 FX [] [] []
theorem mE:aM prog 87 rD fV:=fn0 Kx Tryz.func87 oi.2
def Ai:Cut SN:=⟨[(0, .bp 100000 0),(4, .bp 4 0),(5,Dq1)],[(100000, .box none [.bp 100001 0,Dq5,Dq1,Dq1,Dq1,Dq1,Dq5,Dq4,Dq4,Dq8, .vh 100002, .vh 3011,Dq1,Dq1,Dq9]),(4, .st .myValueT),(100001, .box none [Dq3,Dq4,Dq1, .vh 100004,Dq1, .vh 100005,Dq1,Dq6]),(100002,Oq2),(3011,Oq2),(100004,Oq7),(100005,Oq2)]⟩
def FY:aN vw:={rcut:=aT}
def rE:Sig vw:={params:=[.bp 100000 0,l_],objs:=[(100000, .box none [.bp 100001 0,Dq5,Dq1,Dq1,Dq1,Dq1,Dq5,Dq4,Dq4,Dq8, .vh 100002, .vh 100003,Dq1,Dq1,Dq9]),(100001, .box none [Dq3,Dq4,Dq1, .vh 100004,Dq1, .vh 100005,Dq1,Dq6]),(100002,Oq2),(100003,Oq2),(100004,Oq7),(100005,Oq2)],rcut:=aT,rvars:=[],keep:=[100000,100001,100002,3011,100004,100005]}
noncomputable def fW(v:Tq2):Option (Tq1):=let a:=v.2.2.2.2.2.2.2.2.2.2.2.2.2.2.2.2.2.2.2;cq v.2>>=λx1=>let c:=x1.2.2.2.2.2.2;let e:=c.2.2.2;let b:=e.2.2.2.2;let d:=b.2.2.2.2.2;let G1:=(x1.1,x1.2.1,x1.2.2.1,x1.2.2.2.1,x1.2.2.2.2.1,x1.2.2.2.2.2.1,c.1,c.2.1,c.2.2.1,e.1,e.2.1,e.2.2.1,d.2.2.2.2.1,e.2.2.2.1,b.1,b.2.1,b.2.2.1,b.2.2.2.1,b.2.2.2.2.1,d.1,d.2.1,d.2.2.1,d.2.2.2.1,());if d.1.length=a.1.length then if d.2.2.1.length=a.2.2.1.length then if d.2.2.2.1.length=a.2.2.2.1.length then(if d.2.2.2.2.1.null=true then some (((4:Int),G1))else some (((0:Int),G1)))>>=λx2=>let g:=x2.2.2.2.2;let f:=g.2.2.2.2.2;let i:=f.2.2.2;let h:=i.2.2.2.2.2.2.2.2;eU (i.2.1.n,i.2.1.n,x2.1,x2.2.1,x2.2.2.1,x2.2.2.2.1,g.1,g.2.1,g.2.2.1,g.2.2.2.1,g.2.2.2.2.1,f.1,f.2.1,f.2.2.1,i.1,i.2.2)>>=λx3=>let j:=x3.2.2.2.2.2.2.2.2.2.2.2.2.2.2.2.2.2.2;if j.1.length=h.1.length then if j.2.2.1.length=h.2.2.1.length then if j.2.2.2.1.length=h.2.2.2.1.length then some (x3)else none else none else none else none else none else none
def oj:=kO b_ (kO fy k0)
def Ky:Xc vw:=mX prog 17 oj.1 FY [(5,Ai,[.norm])] [] []
theorem mF:aM prog 88 rE fW:=fn0 Ky Tryz.func88 oj.2
def qu:Cut SN:=⟨[(0, .bp 100000 0),(2, .bp 2 0)],[(100000, .box none [.bp 100001 0,Dq5,Dq1,Dq1,Dq1,Dq1,Dq5,Dq4,Dq4,Dq8, .vh 100002, .vh 100003,Dq1,Dq1,Dq9]),(100001, .box none [Dq3,Dq4,Dq1, .vh 100004,Dq1, .vh 100005,Dq1,Dq6]),(100002,Oq2),(100003,Oq2),(100004,Oq7),(100005,Oq2),(2, .st .myValueT)]⟩
def BC:aN vw:={rcut:=qu}
def xy:Sig vw:={params:=[.bp 100000 0],objs:=[(100000, .box none [.bp 100001 0,Dq5,Dq1,Dq1,Dq1,Dq1,Dq5,Dq4,Dq4,Dq8, .vh 100002, .vh 100003,Dq1,Dq1,Dq9]),(100001, .box none [Dq3,Dq4,Dq1, .vh 100004,Dq1, .vh 100005,Dq1,Dq6]),(100002,Oq2),(100003,Oq2),(100004,Oq7),(100005,Oq2)],rcut:=qu,rvars:=[.cell 2 31],keep:=[100000,100001,100002,100003,100004,100005]}
noncomputable def gR(v:Tq1):Option (Wy):=let c:=v.2.2.2.2.2.2;let d:=c.2.2.2;let a:=d.2.2.2.2;let b:=a.2.2.2.2.2.2;if 0<=i64.wrap ((↑b.1.length:Int) -1)/\i64.wrap ((↑b.1.length:Int) -1)<(↑b.1.length:Int)then b.1[(i64.wrap ((↑b.1.length:Int) -1)).toNat]?>>=λx1=>some ((v.1,v.2.1,v.2.2.1,v.2.2.2.1,v.2.2.2.2.1,v.2.2.2.2.2.1,c.1,c.2.1,c.2.2.1,d.1,d.2.1,d.2.2.1,d.2.2.2.1,a.1,a.2.1,a.2.2.1,a.2.2.2.1,a.2.2.2.2.1,a.2.2.2.2.2.1,b.1,b.2.1,b.2.2.1,x1,()))else none
def Gt:Xc vw:=mX prog 15 c0 BC [] [] []
theorem kQ:aM prog 132 xy gR:=fn0 Gt Tryz.func132 bT
def FZ:aN vw:={rcut:=aT}
def rF:Sig vw:={params:=[.bp 100000 0,l_],objs:=[(100000, .box none [.bp 100001 0,Dq5,Dq1,Dq1,Dq1,Dq1,Dq5,Dq4,Dq4,Dq8, .vh 100002, .vh 100003,Dq1,Dq1,Dq9]),(100001, .box none [Dq3,Dq4,Dq1, .vh 100004,Dq1, .vh 100005,Dq1,Dq6]),(100002,Oq2),(100003,Oq2),(100004,Oq7),(100005,Oq2)],rcut:=aT,rvars:=[],keep:=[100000,100001,100002,3011,100004,100005]}
noncomputable def fX(v:Tq2):Option (Tq1):=let b:=v.2.2.2.2.2.2.2.2.2.2.2.2.2.2.2.2.2.2.2;gR v.2>>=λx1=>let f:=x1.2.2.2;let d:=f.2.2.2.2;let h:=d.2.2.2;let c:=h.2.2.2.2;let e:=c.2.2.2.2;let g:=e.2.2;let G1:=(x1.1,x1.2.1,x1.2.2.1,f.1,f.2.1,f.2.2.1,f.2.2.2.1,d.1,d.2.1,d.2.2.1,h.1,h.2.1,h.2.2.1,h.2.2.2.1,c.1,c.2.1,c.2.2.1,c.2.2.2.1,e.1,e.2.1,g.1,g.2.1,());if e.1.length=b.1.length then if e.2.1.length=b.2.1.length then if g.1.length=b.2.2.1.length then if g.2.1.length=b.2.2.2.1.length then if g.2.2.1.null=true then cq G1>>=λx2=>let k:=x2.2.2.2.2.2;let i:=k.2.2.2.2.2.2.2;let j:=i.2.2.2.2.2.2;if j.1.length=e.1.length then if j.2.2.1.length=g.1.length then if j.2.2.2.1.length=g.2.1.length then some ((x2.1,x2.2.1,x2.2.2.1,x2.2.2.2.1,x2.2.2.2.2.1,k.1,k.2.1,k.2.2.1,k.2.2.2.1,k.2.2.2.2.1,v.1.a,k.2.2.2.2.2.2.1,i.1,i.2.1,i.2.2.1,i.2.2.2.1,i.2.2.2.2.1,i.2.2.2.2.2.1,j.1,j.2.1,j.2.2.1,j.2.2.2.1,()))else none else none else none else some (G1)else none else none else none else none
def ol:=kO b_ (kO kQ k0)
def Kz:Xc vw:=mX prog 14 ol.1 FZ [] [] []
theorem mG:aM prog 89 rF fX:=fn0 Kz Tryz.func89 ol.2
def eu:Cut SN:=⟨[(0, .bp 100000 0)],[(100000, .box none [.bp 100001 0,Dq5,Dq1,Dq1,Dq1,Dq1,Dq5,Dq4,Dq4,Dq8, .vh 100002, .vh 100003,Dq1,Dq1,Dq9]),(100001, .box none [Dq3,Dq4,Dq1, .vh 100004,Dq1, .vh 100005,Dq1,Dq6]),(100002,Oq2),(100003,Oq2),(100004,Oq7),(100005,Oq2)]⟩
def BD:aN vw:={rcut:=eu}
def xz:Sig vw:={params:=[.bp 100000 0,Dq4,Dq1],objs:=[(100000, .box none [.bp 100001 0,Dq5,Dq1,Dq1,Dq1,Dq1,Dq5,Dq4,Dq4,Dq8, .vh 100002, .vh 100003,Dq1,Dq1,Dq9]),(100001, .box none [Dq3,Dq4,Dq1, .vh 100004,Dq1, .vh 100005,Dq1,Dq6]),(100002,Oq2),(100003,Oq2),(100004,Oq7),(100005,Oq2)],rcut:=eu,rvars:=[],keep:=[100000,100001,100002,100003,100004,100005]}
noncomputable def gS(v:Bool×Int×ByteArray×Int×Int×Int×Int×ByteArray×Bool×Bool×(List aQ)×Int×Int×(Option aE)×(List aB)×Bool×Int×Int×Int×(Option bX)×(List aE)×(List aE)×(List Int)×(List aE)×Unit):Option (Tq1):=let a:=v.2.2.2.2.2.2;if v.1=true then some (v.2.2.1,v.2.2.2.1,v.2.2.2.2.1,v.2.2.2.2.2.1,a.1,a.2.1,a.2.2.1,a.2.2.2.1,a.2.2.2.2.1,a.2.2.2.2.2.1,v.2.1,a.2.2.2.2.2.2.2)else some (v.2.2)
def Gu:Xc vw:=mX prog 11 c0 BD [] [] []
theorem kR:aM prog 133 xz gS:=fn0 Gu Tryz.func133 bT
def F0:aN vw:={rcut:=eu}
def rG:Sig vw:={params:=[.bp 100000 0,l_],objs:=[(100000, .box none [.bp 100001 0,Dq5,Dq1,Dq1,Dq1,Dq1,Dq5,Dq4,Dq4,Dq8, .vh 100002, .vh 100003,Dq1,Dq1,Dq9]),(100001, .box none [Dq3,Dq4,Dq1, .vh 100004,Dq1, .vh 100005,Dq1,Dq6]),(100002,Oq2),(100003,Oq2),(100004,Oq7),(100005,Oq2)],rcut:=eu,rvars:=[],keep:=[100000,100001,100002,100003,100004,100005]}
noncomputable def fY(v:Tq2):Option (Tq1):=let b:=v.2.2.2.2.2.2.2.2.2.2.2.2.2.2.2.2.2.2.2;gR v.2>>=λx1=>let g:=x1.2.2.2;let d:=g.2.2.2.2;let f:=d.2.2.2.2;let c:=f.2.2.2.2;let e:=c.2.2.2;let h:=e.2.2;if e.1.length=b.1.length then if e.2.1.length=b.2.1.length then if h.1.length=b.2.2.1.length then if h.2.1.length=b.2.2.2.1.length then gS (!h.2.2.1.err.toList==(Z4 #[]).toList,v.1.a,x1.1,x1.2.1,x1.2.2.1,g.1,g.2.1,g.2.2.1,g.2.2.2.1,d.1,d.2.1,d.2.2.1,d.2.2.2.1,f.1,f.2.1,f.2.2.1,f.2.2.2.1,c.1,c.2.1,c.2.2.1,e.1,e.2.1,h.1,h.2.1,())>>=λx2=>let i:=x2.2.2.2.2.2.2.2.2.2.2.2.2.2.2.2.2.2.2;if i.1.length=e.1.length then if i.2.1.length=e.2.1.length then if i.2.2.1.length=h.1.length then if i.2.2.2.1.length=h.2.1.length then some (x2)else none else none else none else none else none else none else none else none
def om:=kO kQ (kO kR k0)
def KA:Xc vw:=mX prog 12 om.1 F0 [] [] []
theorem mH:aM prog 90 rG fY:=fn0 KA Tryz.func90 om.2
def F1:aN vw:={rcut:=eu}
def rH:Sig vw:={params:=[.bp 100000 0,l_],objs:=[(100000, .box none [.bp 100001 0,Dq5,Dq1,Dq1,Dq1,Dq1,Dq5,Dq4,Dq4,Dq8, .vh 100002, .vh 100003,Dq1,Dq1,Dq9]),(100001, .box none [Dq3,Dq4,Dq1, .vh 100004,Dq1, .vh 100005,Dq1,Dq6]),(100002,Oq2),(100003,Oq2),(100004,Oq7),(100005,Oq2)],rcut:=eu,rvars:=[],keep:=[100000,100001,100002,100003,100004,100005]}
noncomputable def fZ(v:Tq2):Option (Tq1):=let b:=v.2.2.2.2.2;some (v.2.1,v.2.2.1,v.2.2.2.1,v.2.2.2.2.1,b.1,b.2.1,b.2.2.1,b.2.2.2.1,b.2.2.2.2.1,b.2.2.2.2.2.1,v.1.a,b.2.2.2.2.2.2.2)
def KB:Xc vw:=mX prog 9 c0 F1 [] [] []
theorem mI:aM prog 91 rH fZ:=fn0 KB Tryz.func91 bT
def F2:aN vw:={rcut:=aT}
def rI:Sig vw:={params:=[.bp 100000 0,l_],objs:=[(100000, .box none [.bp 100001 0,Dq5,Dq1,Dq1,Dq1,Dq1,Dq5,Dq4,Dq4,Dq8, .vh 100002, .vh 100003,Dq1,Dq1,Dq9]),(100001, .box none [Dq3,Dq4,Dq1, .vh 100004,Dq1, .vh 100005,Dq1,Dq6]),(100002,Oq2),(100003,Oq2),(100004,Oq7),(100005,Oq2)],rcut:=aT,rvars:=[],keep:=[100000,100001,100002,3011,100004,100005]}
noncomputable def f5(v:Tq2):Option (Tq1):=let b:=v.2.2.2.2.2.2.2.2.2.2.2.2.2.2.2.2.2.2.2;cq v.2>>=λx1=>let f:=x1.2.2.2;let d:=f.2.2.2.2;let h:=d.2.2.2;let c:=h.2.2.2.2;let e:=c.2.2.2.2;let g:=e.2.2;if e.1.length=b.1.length then if g.1.length=b.2.2.1.length then if g.2.1.length=b.2.2.2.1.length then gS (g.2.2.1.n==0,v.1.a,x1.1,x1.2.1,x1.2.2.1,f.1,f.2.1,f.2.2.1,f.2.2.2.1,d.1,d.2.1,d.2.2.1,h.1,h.2.1,h.2.2.1,h.2.2.2.1,c.1,c.2.1,c.2.2.1,c.2.2.2.1,e.1,e.2.1,g.1,g.2.1,())>>=λx2=>let i:=x2.2.2.2.2.2.2.2.2.2.2.2.2.2.2.2.2.2.2;if i.1.length=e.1.length then if i.2.1.length=e.2.1.length then if i.2.2.1.length=g.1.length then if i.2.2.2.1.length=g.2.1.length then some (x2)else none else none else none else none else none else none else none
def oq:=kO b_ (kO kR k0)
def KC:Xc vw:=mX prog 12 oq.1 F2 [] [] []
theorem mJ:aM prog 92 rI f5:=fn0 KC Tryz.func92 oq.2
def F4:aN vw:={rcut:=aT}
def Bj:Nat->Bool:=λk=>match k with|7000004=>true|_=>false
def rJ:Sig vw:={params:=[.bp 100000 0,l_],objs:=[(100000, .box none [.bp 100001 0,Dq5,Dq1,Dq1,Dq1,Dq1,Dq5,Dq4,Dq4,Dq8, .vh 100002, .vh 100003,Dq1,Dq1,Dq9]),(100001, .box none [Dq3,Dq4,Dq1, .vh 100004,Dq1, .vh 100005,Dq1,Dq6]),(100002,Oq2),(100003,Oq2),(100004,Oq7),(100005,Oq2)],rcut:=aT,rvars:=[],keep:=[100000,100001,100002,3011,100004,100005]}
noncomputable def f6(v:Tq2):Option (Tq1):=let a:=v.2.2.2.2.2.2.2.2.2.2.2.2.2.2.2.2.2.2.2;cq v.2>>=λx1=>let d:=x1.2.2.2.2.2;let b:=d.2.2.2.2.2.2.2;let c:=b.2.2.2.2.2.2;if c.1.length=a.1.length then if c.2.2.1.length=a.2.2.1.length then if c.2.2.2.1.length=a.2.2.2.1.length then some ((x1.1,x1.2.1,x1.2.2.1,x1.2.2.2.1,x1.2.2.2.2.1,d.1,d.2.1,d.2.2.1,d.2.2.2.1,d.2.2.2.2.1,d.2.2.2.2.2.1,some c.2.2.2.2.1,b.1,b.2.1,b.2.2.1,b.2.2.2.1,b.2.2.2.2.1,b.2.2.2.2.2.1,c.1,c.2.1,c.2.2.1,c.2.2.2.1,()))else none else none else none
def ov:=kO b_ k0
def KD:Xc vw:={P:=prog,n:=10,call:=ov.1,pre:=Bj,sh:=F4}
theorem mK:aM prog 94 rJ f6:=fn0 KD Tryz.func94 ov.2
def F5:aN vw:={rcut:=aT}
def rK:Sig vw:={params:=[.bp 100000 0,l_],objs:=[(100000, .box none [.bp 100001 0,Dq5,Dq1,Dq1,Dq1,Dq1,Dq5,Dq4,Dq4,Dq8, .vh 100002, .vh 100003,Dq1,Dq1,Dq9]),(100001, .box none [Dq3,Dq4,Dq1, .vh 100004,Dq1, .vh 100005,Dq1,Dq6]),(100002,Oq2),(100003,Oq2),(100004,Oq7),(100005,Oq2)],rcut:=aT,rvars:=[],keep:=[100000,100001,100002,3011,100004,100005]}
noncomputable def f8(v:Tq2):Option (Tq1):=let a:=v.2.2.2.2.2.2.2.2.2.2.2.2.2.2.2.2.2.2.2;cL (aE.mk (aF.mk (0:Int) (0:Int) (Z4 #[]) false false) (0:Int) false v.1.name0 (aF.mk (0:Int) (0:Int) (Z4 #[]) false false),v.2)>>=λx1=>let b:=x1.2.2.2.2.2.2.2.2.2.2.2.2.2.2.2.2.2.2;if b.1.length=a.1.length then if b.2.2.1.length=a.2.2.1.length then if b.2.2.2.1.length=a.2.2.2.1.length then some (x1)else none else none else none
def ow:=kO cI k0
def KE:Xc vw:=mX prog 9 ow.1 F5 [] [] []
theorem mL:aM prog 95 rK f8:=fn0 KE Tryz.func95 ow.2
def F6:aN vw:={rcut:=eu}
def Bl:Nat->Bool:=λk=>match k with|7000004=>true|_=>false
def rL:Sig vw:={params:=[.bp 100000 0,l_],objs:=[(100000, .box none [.bp 100001 0,Dq5,Dq1,Dq1,Dq1,Dq1,Dq5,Dq4,Dq4,Dq8, .vh 100002, .vh 100003,Dq1,Dq1,Dq9]),(100001, .box none [Dq3,Dq4,Dq1, .vh 100004,Dq1, .vh 100005,Dq1,Dq6]),(100002,Oq2),(100003,Oq2),(100004,Oq7),(100005,Oq2)],rcut:=eu,rvars:=[],keep:=[100000,100001,100002,100003,100004,100005]}
noncomputable def f_(v:Tq2):Option (Tq1):=let d:=v.2.2.2.2;let f:=d.2.2;let b:=f.2.2.2;let c:=b.2.2.2.2.2;let e:=c.2.2.2.2;if c.1=true then d_ ((1:Int),v.1.a,b.2.2.2.2.1,c.1,c.2.1,c.2.2.1,c.2.2.2.1,e.1,e.2.2.2)>>=λx1=>let g:=x1.2.2.2.2;if g.2.2.1.length=e.2.2.2.1.length then if g.2.2.2.1.length=e.2.2.2.2.1.length then some (v.2.1,v.2.2.1,v.2.2.2.1,d.1,d.2.1,f.1,f.2.1,f.2.2.1,b.1,b.2.1,b.2.2.1,b.2.2.2.1,x1.1,x1.2.1,x1.2.2.1,x1.2.2.2.1,g.1,g.2.1,e.2.1,e.2.2.1,g.2.2)else none else none else sH ((0:Int),())>>=λx1=>some (v.2.1,v.2.2.1,v.2.2.2.1,d.1,d.2.1,f.1,f.2.1,f.2.2.1,b.1,b.2.1,b.2.2.1,some x1.1,b.2.2.2.2)
def ox:=kO gu (kP kM k0)
def KF:Xc vw:={P:=prog,n:=23,call:=ox.1,pre:=Bl,sh:=F6}
theorem mM:aM prog 96 rL f_:=fn0 KF Tryz.func96 ox.2
end Go.Proofs.YtcghbgmmgcljkaaGreatDoor
end
