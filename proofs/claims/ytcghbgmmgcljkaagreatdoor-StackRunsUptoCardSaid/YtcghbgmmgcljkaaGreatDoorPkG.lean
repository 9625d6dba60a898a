/-
  Texts of this claim, joined by a program of mine: what the theorem uses.
-/
import Derived.Test.YtcghbgmmgcljkaaGreatDoorPkF
import Derived.Test.YtcghbgmmgcljkaaGreatDoorPkC
open ByteArray renaming mk→ZZ
open Function renaming comp_apply→abH
open Int renaming toNat→aaq
open List renaming all_eq_true→aaf,drop→ack,getElem?_cons_zero→aa4,getElem?_map→Z6,getElem?_toArray→abW,map_map→aaF,mem_map→aav,mem_of_getElem?→Z_,replicate→aak,take→abb
open Nat renaming add_zero→aba,mul_one→acL
open Option renaming map_eq_some_iff→aae,map_some→aau
open Option.some renaming injEq→Z2
open Sum renaming inl→aaG,inr→aa8
noncomputable section
set_option linter.unusedVariables false
section
namespace Go.Proofs.YtcghbgmmgcljkaaGreatDoor
open Go.Awp Go.Tx
open IntKind (u8)
open IntKind (i64)
open Go.Proofs.Tryz (prog)
set_option maxHeartbeats 4000000
set_option maxRecDepth 100000
theorem bI{c:Prop}[Decidable c]{α:Type}{a b x:α}(h:(if c then a else b)=x):(c/\a=x)\/(¬c/\b=x):=by by_cases e:c;exact .inl ⟨e,by rw[<-h,adD e]⟩;exact .inr ⟨e,by rw[<-h,adC e]⟩
abbrev Dq1:Pt SN:= .dat (.int .i64)
abbrev Dq3:Pt SN:= .dat (.sl (.st .myFuncT))
def P4:Cut SN:=⟨[(3,Dq1),(6,Dq3),(7,Dq1),(8,Dq1)],[]⟩
def MJ:Cut SN:=⟨[(3,Dq1)],[]⟩
def m9:Cut SN:=⟨[(2,Dq1)],[]⟩
def X9:aN vw:=shL [(0,MJ)] m9
def VF:Sig vw:=sg [Dq3] m9 [.tmp 2]
noncomputable def mg(v:Int×(List aC)×Int×Int×Unit):Option ((Int×Unit)):=let a:=v.2.2.2.1;if decide (a<v.2.2.1)=true then if 0<=a then v.2.1[a.toNat]?>>=λx1=>mg (i64.wrap (v.1+(↑x1.code.length:Int)),v.2.1,v.2.2.1,i64.wrap (a+1),())else none else some ((v.1,())) partial_fixpoint
noncomputable def SQ(v:(List aC)×Unit):Option (Int×Unit):=mg ((0:Int),v.1,(↑v.1.length:Int),(0:Int),())>>=λx1=>some (x1)
def x46:Xc vw:=mX prog 19 c0 X9 [] [] [(3,⟨P4,[.exit 0],mg⟩)]
theorem EG:gg x46 (aS (aO Tryz.f46) 0) ⟨P4,[.exit 0],mg⟩:=lp0 mg.partial_correctness bT
theorem NL:aM prog 46 VF SQ:=fn1 x46 Tryz.func46 bT EG
abbrev Dq4:Pt SN:= .dat .bool
def eO:Cut SN:=⟨[(2,Dq4)],[]⟩
def X_:aN vw:={rcut:=eO}
abbrev Cb:Pt SN:= .dat (.st .myFuncT)
def VG:Sig vw:=sg [Cb] eO [.tmp 2]
noncomputable def TT(v:aC×Unit):Option (Bool×Unit):=some ((decide (v.1.places>200),()))
def x48:Xc vw:=mX prog 6 c0 X_ [] [] []
theorem NM:aM prog 48 VG TT:=fn0 x48 Tryz.func48 bT
def xZ:Cut SN:=⟨[(0,Dq3),(1, .fn 48 [] []),(7,Dq1),(8,Dq1)],[]⟩
def dW:Cut SN:=⟨[],[]⟩
def bF:Cut SN:=⟨[(4,Dq1)],[]⟩
def Oo:aN vw:=shL [(0,dW)] bF
def JB:Sig vw:=sg [Dq3, .fn 48 [] []] bF [.tmp 4]
abbrev SB:=(List aC)×Int×Int×Unit
noncomputable def eH(v:SB):Option (((Int×Unit)⊕(Unit))):=if decide (v.2.2.1<v.2.1)=true then if 0<=v.2.2.1 then v.1[v.2.2.1.toNat]?>>=λx1=>TT (x1,())>>=λx2=>if x2.1=true then some (aaG v.2.2)else eH (v.1,v.2.1,i64.wrap (v.2.2.1+1),())else none else some (aa8 ()) partial_fixpoint
noncomputable def wS(v:(List aC)×Unit):Option (Int×Unit):=eH (v.1,(↑v.1.length:Int),(0:Int),())>>=λx1=>match x1 with| .inl y1=>some y1| .inr y1=>some (((-1:Int),()))
def nV:=kP NM k0
def L5:Xc vw:=mX prog 19 nV.1 Oo [] [] [(2,⟨xZ,[.ret, .exit 0],eH⟩)]
theorem un:gg L5 (aS (aO Tryz.f65) 0) ⟨xZ,[.ret, .exit 0],eH⟩:=lp0 eH.partial_correctness nV.2
theorem A6:aM prog 65 JB wS:=fn1 L5 Tryz.func65 nV.2 un
def cE:Cut SN:=⟨[(4,Dq4)],[]⟩
def On:aN vw:={rcut:=cE}
def JA:Sig vw:=sg [Dq3, .fn 48 [] []] cE [.tmp 4]
noncomputable def sH(v:(List aC)×Unit):Option (Bool×Unit):=wS v>>=λx1=>some ((decide (x1.1>=0),()))
def tG:=kP A6 k0
def Sx:Xc vw:=mX prog 9 tG.1 On [] [] []
theorem A5:aM prog 47 JA sH:=fn0 Sx Tryz.func47 tG.2
abbrev OU:Pt SN:= .dat (.int .u8)
def KU:Cut SN:=⟨[(0, .bp 0 0),(1, .bp 1 0),(2,OU)],[(0, .bar 256 (.int .u8)),(1, .bar 256 (.int .u8))]⟩
def KV:Cut SN:=⟨[(0, .bp 0 0),(1, .bp 1 0),(3,OU)],[(0, .bar 256 (.int .u8)),(1, .bar 256 (.int .u8))]⟩
def KT:Cut SN:=⟨[(0, .bp 0 0),(1, .bp 1 0)],[(0, .bar 256 (.int .u8)),(1, .bar 256 (.int .u8))]⟩
def PC:Cut SN:=⟨[(0, .bp 0 0)],[(0, .bar 256 (.int .u8))]⟩
def UN:aN vw:=shL [(0,KT),(2,KT)] PC
def RR:Sig vw:=sg [] PC [.cell 0 179]
abbrev OW:=Int×(List Int)×(List Int)×Unit
noncomputable def jZ(v:OW):Option (((List Int)×(List Int)×Unit)):=let G1:=(u8.wrap (v.1-97)+65);if decide (v.1<=122)=true then if 0<=v.1/\v.1<(↑(256:Nat):Int)then if v.1.toNat<(256:Nat)then if v.1.toNat<v.2.2.1.length then if 0<=u8.wrap G1/\u8.wrap G1<(↑(256:Nat):Int)then if(u8.wrap G1).toNat<(256:Nat)then if(u8.wrap G1).toNat<(v.2.2.1.set v.1.toNat (2:Int)).length then jZ (u8.wrap (v.1+1),v.2.1,(v.2.2.1.set v.1.toNat (2:Int)).set (u8.wrap G1).toNat (2:Int),())else none else none else none else none else none else none else some (v.2) partial_fixpoint
noncomputable def j1(v:OW):Option (((List Int)×(List Int)×Unit)):=if decide (v.1<=57)=true then if 0<=v.1/\v.1<(↑(256:Nat):Int)then if v.1.toNat<(256:Nat)then if v.1.toNat<v.2.2.1.length then j1 (u8.wrap (v.1+1),v.2.1,v.2.2.1.set v.1.toNat (3:Int),())else none else none else none else some (v.2) partial_fixpoint
noncomputable def Ic(v:Unit):Option ((List Int)×Unit):=jZ ((97:Int),aak (256:Nat) (0:Int),(((aak (256:Nat) (0:Int)).set (aaq 32) (1:Int)).set (aaq 10) (1:Int)).set (aaq 95) (2:Int),())>>=λx1=>j1 ((48:Int),x1)>>=λx2=>some (x2.2)
def Wr:Xc vw:=mX prog 24 c0 UN [] [] [(4,⟨KU,[.exit 0],jZ⟩),(8,⟨KV,[.exit 2],j1⟩)]
theorem AK:gg Wr (aS (aO Tryz.f146) 0) ⟨KU,[.exit 0],jZ⟩:=lp0 jZ.partial_correctness bT
theorem AL:gg Wr (aS (aO Tryz.f146) 1) ⟨KV,[.exit 2],j1⟩:=lp0 j1.partial_correctness bT
theorem Ie:aM prog 146 RR Ic:=fn2 Wr Tryz.func146 bT AK AL
abbrev Dq5:Pt SN:= .dat .str
def nR:Cut SN:=⟨[(0, .bp 100000 0),(1,Dq5),(5,Dq1)],[(100000, .bar 256 (.int .u8))]⟩
def vQ:Cut SN:=⟨[(0, .bp 100000 0),(1,Dq5),(5,Dq1),(19,Dq4)],[(100000, .bar 256 (.int .u8))]⟩
def vP:Cut SN:=⟨[(0, .bp 100000 0),(5,Dq1)],[(100000, .bar 256 (.int .u8))]⟩
def qq:Cut SN:=⟨[(0, .bp 100000 0),(4,Dq1)],[(100000, .bar 256 (.int .u8))]⟩
def BC:aN vw:=shL [(0,vP)] qq
def xq:Sig vw:={params:=[.bp 100000 0,Dq5],objs:=[(100000, .bar 256 (.int .u8))],rcut:=qq,rvars:=[.tmp 4],keep:=[100000]}
noncomputable def dt(v:ByteArray×Int×(List Int)×Unit):Option ((Int×(List Int)×Unit)):=(if decide (v.2.1<(↑v.1.size:Int))=true then if 0<=v.2.1 then v.1[v.2.1.toNat]?>>=λx1=>if 0<=(↑x1.toNat:Int)/\(↑x1.toNat:Int)<(↑(256:Nat):Int)then if(↑x1.toNat:Int).toNat<(256:Nat)then v.2.2.1[(↑x1.toNat:Int).toNat]?>>=λx2=>some ((v.1,v.2.1,decide (x2>=2),v.2.2))else none else none else none else some (v.1,v.2.1,false,v.2.2))>>=λx1=>if x1.2.2.1=true then dt (x1.1,i64.wrap (x1.2.1+1),x1.2.2.2)else some (x1.2.1,x1.2.2.2) partial_fixpoint
noncomputable def lM(v:ByteArray×(List Int)×Unit):Option (Int×(List Int)×Unit):=dt (v.1,(0:Int),v.2)>>=λx1=>some (x1)
def vo:Xc vw:=mX prog 23 c0 BC [] [(2,vQ)] [(2,⟨nR,[.exit 0],dt⟩)]
theorem oX:gg vo (aS (aO Tryz.f147) 0) ⟨nR,[.exit 0],dt⟩:=lp0 dt.partial_correctness bT
theorem sF:aM prog 147 xq lM:=fn1 vo Tryz.func147 bT oX
def Un:aN vw:={rcut:=eO}
def Rr:Sig vw:=sg [Dq5] eO [.tmp 2]
noncomputable def HI(v:ByteArray×Unit):Option (Bool×Unit):=Ic ()>>=λx1=>(if(!v.1.toList==(ZZ #[]).toList)=true then v.1[aaq 0]?>>=λx2=>if 0<=(↑x2.toNat:Int)/\(↑x2.toNat:Int)<(↑(256:Nat):Int)then if(↑x2.toNat:Int).toNat<(256:Nat)then x1.1[(↑x2.toNat:Int).toNat]?>>=λx3=>if(x3==2)=true then lM (v.1,x1)>>=λx4=>some ((x4.1==(↑v.1.size:Int),()))else some ((false,()))else none else none else some ((false,())))>>=λx2=>some (x2)
def CH:=kP Ie (kO sF k0)
def Y7:Xc vw:=mX prog 21 CH.1 Un [] [(2,eO)] []
theorem HJ:aM prog 113 Rr HI:=fn0 Y7 Tryz.func113 CH.2
abbrev KE:Pt SN:= .dat (.sl .str)
def K0:Cut SN:=⟨[(0,KE),(1,Dq5),(7,Dq1),(8,Dq1)],[]⟩
def U1:aN vw:=shL [(0,dW)] bF
def R5:Sig vw:=sg [KE,Dq5] bF [.tmp 4]
noncomputable def ib(v:(List ByteArray)×ByteArray×Int×Int×Unit):Option (((Int×Unit)⊕(Unit))):=let a:=v.2.2;if decide (a.2.1<a.1)=true then if 0<=a.2.1 then v.1[a.2.1.toNat]?>>=λx1=>if(v.2.1.toList==x1.toList)=true then some (aaG a.2)else ib (v.1,v.2.1,a.1,i64.wrap (a.2.1+1),())else none else some (aa8 ()) partial_fixpoint
noncomputable def Nt(v:(List ByteArray)×ByteArray×Unit):Option (Int×Unit):=ib (v.1,v.2.1,(↑v.1.length:Int),(0:Int),())>>=λx1=>match x1 with| .inl y1=>some y1| .inr y1=>some (((-1:Int),()))
def Xb:Xc vw:=mX prog 19 c0 U1 [] [] [(2,⟨K0,[.ret, .exit 0],ib⟩)]
theorem AQ:gg Xb (aS (aO Tryz.f162) 0) ⟨K0,[.ret, .exit 0],ib⟩:=lp0 ib.partial_correctness bT
theorem Iu:aM prog 162 R5 Nt:=fn1 Xb Tryz.func162 bT AQ
def UO:aN vw:={rcut:=cE}
def RS:Sig vw:=sg [KE,Dq5] cE [.tmp 4]
noncomputable def Nn(v:(List ByteArray)×ByteArray×Unit):Option (Bool×Unit):=Nt v>>=λx1=>some ((decide (x1.1>=0),()))
def C0:=kP Iu k0
def Zu:Xc vw:=mX prog 9 C0.1 UO [] [] []
theorem Ig:aM prog 148 RS Nn:=fn0 Zu Tryz.func148 C0.2
def Tg:Cut SN:=⟨[(2,KE)],[]⟩
def RT:Sig vw:=sg [Dq5] Tg [.tmp 2]
noncomputable def Em(v:ByteArray×Unit):Option ((List ByteArray)×Unit):=if v.1.size<4294967281/\v.1.data.toList.all (λb=>decide (b.toNat<128))=true then some ((Lib.fields v.1.data.toList).map (λl=>(⟨l.toArray⟩:ByteArray)),())else none
theorem Ih:aM prog 149 RT Em:=λv r x h hx=>by
 obtain⟨s,u⟩:=v
 unfold Em at h
 split at h
 ·rename_i hc
  obtain⟨h0,h1⟩:=hc
  simp only at h0 h1
  cases h;cases hx
  exact fG (by kernel_rfl) (lW.newRow (P:=prog) (f:=149) (args:=[.d (.v (.string s))]) (sz:=1) (rows:=((Lib.fields s.data.toList).map λl=>(⟨l.toArray⟩:ByteArray)).map λy=>[D.v (.string y)]) (by kernel_rfl) (λr hr=>by obtain⟨_,_,rfl⟩:=aav.1 hr;rfl) λE M w vs hg hm hv=>by
   obtain⟨v1,rfl,h2⟩:=DG hv
   rw[h2.dv]
   refine(Tryz.strings_Fields s w h0 (λj b hb=>of_decide_eq_true (aaf.1 h1 b (Z_ hb))) (F7 hg hm)).mono λe w' ⟨he,hw⟩=>⟨_,_,by rw[he];simp,hw,by simp,λi j r c x hr hx hc=> ?_⟩
   rw[aaF,Z6,aae]at hr
   obtain⟨l,hl,rfl⟩:=hr
   cases j with
   |zero=>
    simp only[abH,aa4,Z2]at hx
    subst hx
    simp only[acL,aba,abW,Z6,hl,aau,Z2]at hc
    subst hc
    exact .v _
   |succ j=>simp at hx)
 ·cases h
def Uo:aN vw:={rcut:=eO}
def Rs:Sig vw:=sg [Dq5] eO [.tmp 2]
noncomputable def HK(v:ByteArray×Unit):Option (Bool×Unit):=Em (ZZ (([(102:UInt8),(110:UInt8),(32:UInt8),(99:UInt8),(111:UInt8),(110:UInt8),(115:UInt8),(116:UInt8),(32:UInt8),(118:UInt8),(97:UInt8),(114:UInt8),(32:UInt8),(99:UInt8),(111:UInt8),(109:UInt8),(112:UInt8),(116:UInt8),(105:UInt8),(109:UInt8),(101:UInt8),(32:UInt8),(114:UInt8),(101:UInt8),(116:UInt8),(117:UInt8),(114:UInt8),(110:UInt8),(32:UInt8),(101:UInt8),(114:UInt8),(114:UInt8),(111:UInt8),(114:UInt8),(32:UInt8),(105:UInt8),(102:UInt8),(32:UInt8),(101:UInt8),(108:UInt8),(115:UInt8),(101:UInt8)].append [(32:UInt8),(119:UInt8),(104:UInt8),(105:UInt8),(108:UInt8),(101:UInt8),(32:UInt8),(102:UInt8),(111:UInt8),(114:UInt8),(32:UInt8),(105:UInt8),(110:UInt8),(108:UInt8),(105:UInt8),(110:UInt8),(101:UInt8),(32:UInt8),(115:UInt8),(119:UInt8),(105:UInt8),(116:UInt8),(99:UInt8),(104:UInt8),(32:UInt8),(100:UInt8),(101:UInt8),(102:UInt8),(101:UInt8),(114:UInt8),(32:UInt8),(101:UInt8),(114:UInt8),(114:UInt8),(100:UInt8),(101:UInt8),(102:UInt8),(101:UInt8),(114:UInt8),(32:UInt8),(98:UInt8),(114:UInt8)]).append ([(101:UInt8),(97:UInt8),(107:UInt8),(32:UInt8),(99:UInt8),(111:UInt8),(110:UInt8),(116:UInt8),(105:UInt8),(110:UInt8),(117:UInt8),(101:UInt8),(32:UInt8),(103:UInt8),(105:UInt8),(118:UInt8),(101:UInt8),(32:UInt8),(117:UInt8),(110:UInt8),(114:UInt8),(101:UInt8),(97:UInt8),(99:UInt8),(104:UInt8),(97:UInt8),(98:UInt8),(108:UInt8),(101:UInt8),(32:UInt8),(116:UInt8),(114:UInt8),(117:UInt8),(101:UInt8),(32:UInt8),(102:UInt8),(97:UInt8),(108:UInt8),(115:UInt8),(101:UInt8),(32:UInt8),(97:UInt8)].append [(110:UInt8),(100:UInt8),(32:UInt8),(111:UInt8),(114:UInt8),(32:UInt8),(116:UInt8),(114:UInt8),(121:UInt8),(32:UInt8),(99:UInt8),(97:UInt8),(116:UInt8),(99:UInt8),(104:UInt8),(32:UInt8),(111:UInt8),(114:UInt8),(101:UInt8),(108:UInt8),(115:UInt8),(101:UInt8),(32:UInt8),(100:UInt8),(111:UInt8),(32:UInt8),(118:UInt8),(111:UInt8),(105:UInt8),(100:UInt8),(32:UInt8),(98:UInt8),(111:UInt8),(111:UInt8),(108:UInt8),(32:UInt8),(116:UInt8),(121:UInt8),(112:UInt8),(101:UInt8),(32:UInt8),(95:UInt8)])).toArray,())>>=λx1=>Nn (x1.1,v)>>=λx2=>some (x2)
def CI:=kP Ig (kP Ih k0)
def Y8:Xc vw:=mX prog 6 CI.1 Uo [] [] []
theorem HM:aM prog 114 Rs HK:=fn0 Y8 Tryz.func114 CI.2
def U2:aN vw:={rcut:=eO}
def R6:Sig vw:=sg [Dq1] eO [.tmp 2]
noncomputable def Nu(v:Int×Unit):Option (Bool×Unit):=(if decide (v.1>=2)=true then some ((decide (v.1<=16),()))else some ((false,())))>>=λx1=>some (x1)
def ZD:Xc vw:=mX prog 9 c0 U2 [] [(1,eO)] []
theorem Iv:aM prog 165 R6 Nu:=fn0 ZD Tryz.func165 bT
def Vn:aN vw:={rcut:=cE}
def Sh:Sig vw:=sg [Dq5,Dq5] cE [.tmp 4]
noncomputable def Ny(v:ByteArray×ByteArray×Unit):Option (Bool×Unit):=(if decide ((↑v.1.size:Int)>=(↑v.2.1.size:Int))=true then if(0:Int)<=0/\0<=(↑v.2.1.size:Int)/\(↑v.2.1.size:Int)<=(↑v.1.size:Int)then some (((v.1.extract (aaq 0) (↑v.2.1.size:Int).toNat).toList==v.2.1.toList,()))else none else some ((false,())))>>=λx1=>some (x1)
def ZX:Xc vw:=mX prog 18 c0 Vn [] [(1,cE)] []
theorem IZ:aM prog 193 Sh Ny:=fn0 ZX Tryz.func193 bT
def tn:Cut SN:=⟨[(4,Dq5)],[]⟩
def U_:aN vw:={rcut:=tn}
def Sb:Sig vw:=sg [Dq5,Dq5] tn [.tmp 4]
noncomputable def Nw(v:ByteArray×ByteArray×Unit):Option (ByteArray×Unit):=Ny v>>=λx1=>if x1.1=true then if 0<=(↑v.2.1.size:Int)/\(↑v.2.1.size:Int)<=(↑v.1.size:Int)/\(↑v.1.size:Int)<=(↑v.1.size:Int)then some ((v.1.extract (↑v.2.1.size:Int).toNat (↑v.1.size:Int).toNat,()))else none else some ((v.1,()))
def C8:=kP IZ k0
def ZK:Xc vw:=mX prog 13 C8.1 U_ [] [] []
theorem ID:aM prog 176 Sb Nw:=fn0 ZK Tryz.func176 C8.2
def U3:aN vw:={rcut:=tn}
def R7:Sig vw:=sg [Dq5,Dq5] tn [.tmp 4]
noncomputable def Iw(v:ByteArray×ByteArray×Unit):Option (ByteArray×Unit):=Nw v>>=λx1=>some (x1)
def C5:=kP ID k0
def ZE:Xc vw:=mX prog 8 C5.1 U3 [] [] []
theorem Ix:aM prog 166 R7 Iw:=fn0 ZE Tryz.func166 C5.2
def Sc:Sig vw:=sg [Dq5,OU] bF [.tmp 4]
noncomputable def Nx(v:ByteArray×Int×Unit):Option (Int×Unit):=some (Lib.indexByte v.1.data.toList v.2.1.toNat.toUInt8,())
theorem IE:aM prog 177 Sc Nx:=λv r x h hx=>by
 obtain⟨s,c,u⟩:=v
 cases h;cases hx
 exact fG (by kernel_rfl) (lW.pure (P:=prog) (f:=177) (args:=[.d (.v (.string s)), .d (.v (.int .u8 c))]) (r:= .d (.v (.int .i64 (Lib.indexByte s.data.toList c.toNat.toUInt8)))) (by kernel_rfl) λE M w vs _ _ hv=>by
  obtain⟨v1,v2,rfl,h1,h2⟩:=DH hv
  rw[h1.dv,h2.dv]
  exact(Tryz.stringslite_IndexByte s c w).mono λe w' ⟨he,hw⟩=>⟨_,he, .d (.v _),hw▸Go.RowKit.Below.refl _ _⟩)
def U4:aN vw:={rcut:=bF}
def R8:Sig vw:=sg [Dq5,OU] bF [.tmp 4]
noncomputable def Nv(v:ByteArray×Int×Unit):Option (Int×Unit):=Nx v>>=λx1=>some (x1)
def C6:=kP IE k0
def ZF:Xc vw:=mX prog 8 C6.1 U4 [] [] []
theorem Iy:aM prog 167 R8 Nv:=fn0 ZF Tryz.func167 C6.2
def iq:Cut SN:=⟨[(0,Dq1),(1,Dq1),(5,Dq5)],[]⟩
def K1:Cut SN:=⟨[(0,Dq1),(5,Dq5)],[]⟩
def Jy:aN vw:=shL [(0,K1)] tn
def iu:Sig vw:=sg [Dq1,Dq1] tn [.tmp 4]
abbrev xP:=Int×Int×ByteArray×Unit
noncomputable def dE(v:xP):Option ((Int×ByteArray×Unit)):=let a:=v.2.1;if decide (v.1>=a)=true then if a=0 then none else if 0<=v.1.tmod a then(ZZ #[48,49,50,51,52,53,54,55,56,57,97,98,99,100,101,102])[(v.1.tmod a).toNat]?>>=λx1=>if(Bs.enc1 (↑x1.toNat:Int)).size+v.2.2.1.size<=4294967296 then if a=0 then none else dE (i64.wrap (v.1.tdiv a),a,Bs.enc1 (↑x1.toNat:Int)++v.2.2.1,())else none else none else some (v.1,v.2.2) partial_fixpoint
noncomputable def pZ(v:Int×Int×Unit):Option (ByteArray×Unit):=if decide (v.1<0)=true then pZ (i64.wrap ((0:Int) -v.1),v.2)>>=λx1=>if(ZZ #[45]).size+x1.1.size<=4294967296 then some ((ZZ #[45]++x1.1,()))else none else dE (v.1,v.2.1,ZZ #[],())>>=λx1=>if 0<=x1.1 then(ZZ #[48,49,50,51,52,53,54,55,56,57,97,98,99,100,101,102])[x1.1.toNat]?>>=λx2=>if(Bs.enc1 (↑x2.toNat:Int)).size+x1.2.1.size<=4294967296 then some ((Bs.enc1 (↑x2.toNat:Int)++x1.2.1,()))else none else none partial_fixpoint
def wa(dE:xP->Option ((Int×ByteArray×Unit)))(pZ:Int×Int×Unit->Option (ByteArray×Unit)):dh vw:=λA fid args S k=>match fid with|168=>ct prog iu pZ A args S k|_=>none
def zD(dE:xP->Option ((Int×ByteArray×Unit)))(pZ:Int×Int×Unit->Option (ByteArray×Unit)):Xc vw:={P:=prog,n:=31,call:=wa dE pZ,pre:=Jh,sh:=Jy,loops:=λk=>match k with|4=>some {cut:=iq,alts:=[.exit 0],F:=dE}|_=>none}
abbrev nr(v:xP)(r:(Int×ByteArray×Unit)):Prop:=(λv out=>∀C:Ctx,C.P=prog->C.N=31/\Fx C Jh->pS C (aS (aO Tryz.f168) 0) (Go.Tx.a_ vw (fk vw iq v)) (xO Jy [.exit 0] out)) v r
theorem GS(f0:xP->Option ((Int×ByteArray×Unit)))(h0:∀v r,f0 v=some r->nr v r):bG prog (zD f0 (λ_=>none)).call:=(by
 intro A fid args S dst k r h
 unfold zD wa at h
 simp only at h
 split at h
 ·exact aR ((λv r x h hx=>by cases h)) rfl rfl h
 ·cases h)
theorem JD(f0:xP->Option ((Int×ByteArray×Unit)))(h0:∀v r,f0 v=some r->nr v r)(v:xP)(r:(Int×ByteArray×Unit))(h:exL (zD f0 (λ_=>none)) (aS (aO Tryz.f168) 0) iq [.exit 0] f0 v=some r):nr v r:=λC hP hN=>gL (X:=zD f0 (λ_=>none)) (b:=(aS (aO Tryz.f168) 0)) hP hN Ty.mixed (GS f0 h0) (eT (X:=zD f0 (λ_=>none)) (c:=(aS (aO Tryz.f168) 0)) (fG (by kernel_rfl:True=pR (e7 C (zD f0 (λ_=>none))) (cA (aS (aO Tryz.f168) 0))) trivial)) (cut:=iq) (alts:=[.exit 0]) (F:=f0) (λv out h=>h0 v out h C hP hN) h
theorem AR:∀v out,dE v=some out->(λv out=>∀C:Ctx,C.P=prog->C.N=31/\Fx C Jh->pS C (aS (aO Tryz.f168) 0) (Go.Tx.a_ vw (fk vw iq v)) (xO Jy [.exit 0] out)) v out:=(dE.partial_correctness (motive:=nr) (λf0 h0 v r h=>JD f0 h0 v r (fG (by kernel_rfl) h)))
abbrev yG(v:Int×Int×Unit)(r:ByteArray×Unit):Prop:=(λv r=>∀x,Gx prog iu r=some x->lW prog 168 (encL vw (cD iu v).len (d6 iu v).1) (eP (cD iu v).len (cD iu v).own) (aL vw (fk vw iu.rcut r).len x) (eP (fk vw iu.rcut r).len (pY iu r))) v r
theorem Qp(f0:Int×Int×Unit->Option (ByteArray×Unit))(h0:∀v r,f0 v=some r->yG v r):bG prog (zD dE f0).call:=(by
 intro A fid args S dst k r h
 unfold zD wa at h
 simp only at h
 split at h
 ·exact aR ((λv r x h hx=>h0 v r h x hx)) rfl rfl h
 ·cases h)
theorem Sp(f0:Int×Int×Unit->Option (ByteArray×Unit))(h0:∀v r,f0 v=some r->yG v r)(v:Int×Int×Unit)(r:ByteArray×Unit)(h:exF (zD dE f0) iu rfl (aO Tryz.f168) v=some r):yG v r:=λx hx=>Au (X:=zD dE f0) (sig:=iu) rfl Tryz.func168 (c:=aO Tryz.f168) (by kernel_rfl) Tryz.ntmps168 (by kernel_rfl) (by kernel_rfl) rfl Ty.mixed (Qp f0 h0) rfl (λC hP hN=>(eT (X:=zD dE f0) (c:=(aO Tryz.f168)) (fG (by kernel_rfl:pR (e7 C (zD dE f0)) [(aS (aO Tryz.f168) 0)]=pR (e7 C (zD dE f0)) (cA (aO Tryz.f168))) ⟨iW (X:=zD dE f0) (b:=(aS (aO Tryz.f168) 0)) (by kernel_rfl) (show gC C (aS (aO Tryz.f168) 0) (sh:=Jy) {cut:=iq,alts:=[.exit 0],F:=dE}fromλv out h=>AR v out h C hP hN),trivial⟩))) h x hx
theorem Iz:aM prog 168 iu pZ:=λv r x h hx=>(pZ.partial_correctness (motive:=yG) (λf0 h0 v r h=>Sp f0 h0 v r (fG (by kernel_rfl) h))) v r h x hx
def KW:Cut SN:=⟨[(0,Dq5),(1,Dq1),(6,Dq1),(7,Dq5),(16,Dq1),(17,Dq1)],[]⟩
def ME:Cut SN:=⟨[(0,Dq5),(1,Dq1),(6,Dq1)],[]⟩
def PE:Cut SN:=⟨[(0,Dq5),(1,Dq1),(6,Dq1),(7,Dq5),(9,Dq1),(16,Dq1),(17,Dq1),(31,Dq4)],[]⟩
def MF:Cut SN:=⟨[(6,Dq1),(57,Dq4)],[]⟩
def PD:Cut SN:=⟨[(0,Dq5),(1,Dq1),(6,Dq1),(7,Dq5)],[]⟩
def GM:Cut SN:=⟨[(4,Dq1),(5,Dq1)],[]⟩
def UP:aN vw:=shL [(0,PD)] GM
def RU:Sig vw:=sg [Dq5,Dq1] GM [.tmp 4, .tmp 5]
noncomputable def i6(v:ByteArray×Int×Int×ByteArray×Int×Int×Unit):Option (((Int×Int×Unit)⊕(ByteArray×Int×Int×ByteArray×Unit))):=let a:=v.2.2.2;let b:=a.2.2.1;let G1:=(ZZ #[48,49,50,51,52,53,54,55,56,57,97,98,99,100,101,102]);if decide (b<a.2.1)=true then if(0:Int)<=0/\0<=v.2.1/\v.2.1<=(↑G1.size:Int)then if 0<=b then a.1[b.toNat]?>>=λx1=>Nv (G1.extract (aaq 0) v.2.1.toNat,(↑x1.toNat:Int),())>>=λx2=>(if decide (x2.1<0)=true then some ((v.1,v.2.1,v.2.2.1,a.1,x2.1,a.2.1,b,true,()))else some ((v.1,v.2.1,v.2.2.1,a.1,x2.1,a.2.1,b,decide (v.2.2.1>1099511627776),())))>>=λx3=>let c:=x3.2.2.2;if c.2.2.2.2.1=true then some (aaG ((0:Int),(2:Int),()))else i6 (x3.1,x3.2.1,i64.wrap (i64.wrap (x3.2.2.1 *x3.2.1)+c.2.1),c.1,c.2.2.1,i64.wrap (c.2.2.2.1+1),())else none else none else some (aa8 (v.1,v.2.1,v.2.2.1,a.1,())) partial_fixpoint
noncomputable def Ii(v:ByteArray×Int×Unit):Option (Int×Int×Unit):=Nu v.2>>=λx1=>if(!x1.1)=true then some (((0:Int),(1:Int),()))else Iw (v.1,ZZ #[45],())>>=λx2=>i6 (v.1,v.2.1,(0:Int),x2.1,(↑x2.1.size:Int),(0:Int),())>>=λx3=>match x3 with| .inl y3=>some y3| .inr y3=>(if decide ((↑y3.2.2.2.1.size:Int)<(↑y3.1.size:Int))=true then some ((y3.1,y3.2.1,i64.wrap ((0:Int) -y3.2.2.1),()))else some ((y3.1,y3.2.1,y3.2.2.1,())))>>=λx4=>let a:=x4.2.2.1;(if decide (a<(-1099511627776:Int))=true then some ((a,true,()))else if decide (a>1099511627776)=true then some ((a,true,()))else pZ (a,x4.2.1,())>>=λx5=>some ((a,!x5.1.toList==x4.1.toList,())))>>=λx5=>if x5.2.1=true then some (((0:Int),(2:Int),()))else some ((x5.1,(0:Int),()))
def vZ:=kP Iv (kP Ix (kP Iy (kP Iz k0)))
def W8:Xc vw:=mX prog 59 vZ.1 UP [(15,ME,[.norm])] [(9,PE),(15,MF)] [(6,⟨KW,[.ret, .exit 0],i6⟩)]
theorem AM:gg W8 (aS (aO Tryz.f150) 0) ⟨KW,[.ret, .exit 0],i6⟩:=lp0 i6.partial_correctness vZ.2
theorem Ij:aM prog 150 RU Ii:=fn1 W8 Tryz.func150 vZ.2 AM
def PF:Cut SN:=⟨[(10,Dq4)],[]⟩
def UQ:aN vw:={rcut:=m9}
abbrev m6:Pt SN:= .dat (.st .myIntT)
def RV:Sig vw:=sg [m6] m9 [.tmp 2]
noncomputable def oY(v:bB×Unit):Option (Int×Unit):=(if decide (v.1.bits<1)=true then some ((true,()))else some ((decide (v.1.bits>31),())))>>=λx1=>if x1.1=true then some (((1:Int),()))else some (((0:Int),()))
def Zv:Xc vw:=mX prog 11 c0 UQ [] [(1,PF)] []
theorem jx:aM prog 151 RV oY:=fn0 Zv Tryz.func151 bT
def Pm:Cut SN:=⟨[(0,Dq5),(2, .bp 2 0),(19,Dq4)],[(2, .st .myIntT)]⟩
def Pn:Cut SN:=⟨[(2, .bp 2 0),(6, .bp 6 0),(38,Dq4)],[(2, .st .myIntT),(6, .st .myIntT)]⟩
def GK:Cut SN:=⟨[(2, .bp 2 0),(3,Dq1)],[(2, .st .myIntT)]⟩
def Up:aN vw:={rcut:=GK}
def Rt:Sig vw:=sg [Dq5] GK [.cell 2 135, .tmp 3]
noncomputable def HN(v:ByteArray×Unit):Option (Int×bB×Unit):=let G1:=(bB.mk false (0:Int),());(if decide ((↑v.1.size:Int)<2)=true then some (v.1,true,G1)else v.1[aaq 0]?>>=λx1=>if((↑x1.toNat:Int) !=117)=true then v.1[aaq 0]?>>=λx2=>some ((v.1,(↑x2.toNat:Int) !=105,G1))else some (v.1,false,G1))>>=λx1=>if x1.2.1=true then some (((2:Int),G1))else if(0:Int)<=1/\(1:Int)<=(↑x1.1.size:Int)/\(↑x1.1.size:Int)<=(↑x1.1.size:Int)then Ii (x1.1.extract (aaq 1) (↑x1.1.size:Int).toNat,(10:Int),())>>=λx2=>x1.1[aaq 0]?>>=λx3=>(if(x2.2.1 !=0)=true then some ((true,x1.2.2.1,bB.mk ((↑x3.toNat:Int)==105) x2.1,()))else oY (bB.mk ((↑x3.toNat:Int)==105) x2.1,())>>=λx4=>some ((x4.1 !=0,x1.2.2.1,bB.mk ((↑x3.toNat:Int)==105) x2.1,())))>>=λx4=>if x4.1=true then some (((2:Int),G1))else some (((0:Int),x4.2.2))else none
def CJ:=kP Ij (kP jx k0)
def Y9:Xc vw:=mX prog 41 CJ.1 Up [] [(1,Pm),(5,Pn)] []
theorem HO:aM prog 115 Rt HN:=fn0 Y9 Tryz.func115 CJ.2
def Qf:Cut SN:=⟨[(0,Dq5),(16,Dq4)],[]⟩
def Yp:aN vw:={rcut:=eO}
def VR:Sig vw:=sg [Dq5] eO [.tmp 2]
noncomputable def O2(v:ByteArray×Unit):Option (Bool×Unit):=(if decide ((↑v.1.size:Int)>8)=true then some ((v.1,true,()))else HI v>>=λx1=>if(!x1.1)=true then some ((v.1,true,()))else HK v>>=λx2=>some (v.1,x2))>>=λx1=>if x1.2.1=true then some ((false,()))else HN (x1.1,())>>=λx2=>some ((x2.1 !=0,()))
def Lo:=kP HJ (kP HM (kP HO k0))
def x66:Xc vw:=mX prog 24 Lo.1 Yp [] [(1,Qf)] []
theorem wT:aM prog 66 VR O2:=fn0 x66 Tryz.func66 Lo.2
def iH:Cut SN:=⟨[(6,Dq4)],[]⟩
def Yq:aN vw:={rcut:=iH}
def VS:Sig vw:=sg [Dq1,Dq1,Dq1] iH [.tmp 6]
abbrev Cd:=Int×Int×Int×Unit
noncomputable def Gw(v:Cd):Option (Bool×Unit):=(if decide (v.1>=v.2.1)=true then some ((decide (v.1<=v.2.2.1),()))else some ((false,())))>>=λx1=>some (x1)
def x67:Xc vw:=mX prog 15 c0 Yq [] [(1,iH)] []
theorem EO:aM prog 67 VS Gw:=fn0 x67 Tryz.func67 bT
def UR:aN vw:={rcut:=eO}
def RW:Sig vw:=sg [Dq1] eO [.tmp 2]
noncomputable def Np(v:Int×Unit):Option (Bool×Unit):=(if(v.1==2)=true then some ((true,()))else some ((v.1==3,())))>>=λx1=>some (x1)
def Zw:Xc vw:=mX prog 9 c0 UR [] [(1,eO)] []
theorem Ik:aM prog 152 RW Np:=fn0 Zw Tryz.func152 bT
def vR:Cut SN:=⟨[(2, .bp 2 0)],[(2, .st .myIntT)]⟩
def US:aN vw:={rcut:=vR}
abbrev vz:Pt SN:= .dat (.st .myTypeT)
def RX:Sig vw:=sg [vz] vR [.cell 2 135]
noncomputable def Nq(v:aF×Unit):Option (bB×Unit):=some ((bB.mk (v.1.base==3) v.1.bits,()))
def Zx:Xc vw:=mX prog 9 c0 US [] [] []
theorem Il:aM prog 153 RX Nq:=fn0 Zx Tryz.func153 bT
def Po:Cut SN:=⟨[(1, .bp 1 0),(33,Dq4)],[(1, .st .myTypeT)]⟩
def Uq:aN vw:={rcut:=eO}
def Ru:Sig vw:=sg [vz] eO [.tmp 2]
noncomputable def HP(v:aF×Unit):Option (Bool×Unit):=let G1:=(false,());(if decide (v.1.base<0)=true then some (true,v)else if decide (v.1.base>5)=true then some (true,v)else if v.1.opt=true then if(v.1.base==0)=true then some (true,v)else if(v.1.base==4)=true then some (true,v)else if v.1.err=true then some (v.1.base==4,v)else some (false,v)else if v.1.err=true then some (v.1.base==4,v)else some (false,v))>>=λx1=>let a:=x1.2.1;if x1.1=true then some (G1)else Np (a.base,())>>=λx2=>if x2.1=true then(Nq x1.2>>=λx3=>oY x3>>=λx4=>if(x4.1==0)=true then some ((a.name0.toList==(ZZ #[]).toList,()))else some (G1))>>=λx3=>some (x3)else(if(a.bits==0)=true then if(a.base==5)=true then O2 (a.name0,())>>=λx3=>if x3.1=true then some ((true,()))else if(a.base !=5)=true then some ((a.name0.toList==(ZZ #[]).toList,()))else some (G1)else if(a.base !=5)=true then some ((a.name0.toList==(ZZ #[]).toList,()))else some (G1)else some (G1))>>=λx3=>some (x3)
def CL:=kP wT (kP jx (kP Ik (kP Il k0)))
def Y_:Xc vw:=mX prog 69 CL.1 Uq [] [(1,Po),(4,eO),(5,eO)] []
theorem HQ:aM prog 116 Ru HP:=fn0 Y_ Tryz.func116 CL.2
def Yr:aN vw:={rcut:=m9}
def VT:Sig vw:=sg [vz] m9 [.tmp 2]
noncomputable def QT(v:aF×Unit):Option (Int×Unit):=HP v>>=λx1=>if(!x1.1)=true then some (((1:Int),()))else some (((0:Int),()))
def Lp:=kP HQ k0
def x68:Xc vw:=mX prog 6 Lp.1 Yr [] [] []
theorem EP:aM prog 68 VT QT:=fn0 x68 Tryz.func68 Lp.2
def Us:aN vw:={rcut:=eO}
def Rw:Sig vw:=sg [vz] eO [.tmp 2]
noncomputable def Ee(v:aF×Unit):Option (Bool×Unit):=(QT v>>=λx1=>if(x1.1==0)=true then if(!v.1.opt)=true then some ((!v.1.err,()))else some ((false,()))else some ((false,())))>>=λx1=>some (x1)
def CN:=kP EP k0
def Zb:Xc vw:=mX prog 16 CN.1 Us [] [(1,eO)] []
theorem yL:aM prog 119 Rw Ee:=fn0 Zb Tryz.func119 CN.2
def Ur:aN vw:={rcut:=eO}
def Rv:Sig vw:=sg [vz] eO [.tmp 2]
noncomputable def AE(v:aF×Unit):Option (Bool×Unit):=(Ee v>>=λx1=>if x1.1=true then if(v.1.base==2)=true then some ((true,()))else some ((v.1.base==3,()))else some ((false,())))>>=λx1=>some (x1)
def CM:=kP yL k0
def Za:Xc vw:=mX prog 15 CM.1 Ur [] [(1,eO)] []
theorem HR:aM prog 118 Rv AE:=fn0 Za Tryz.func118 CM.2
def tC:Cut SN:=⟨[(1, .bp 100000 0),(3,Dq4)],[(100000, .box none [Dq5])]⟩
def FF:aN vw:={rcut:=tC}
def BH:Sig vw:={params:=[Cb, .bp 100000 0],objs:=[(100000, .box none [Dq5])],rcut:=tC,rvars:=[.tmp 3],keep:=[100000]}
noncomputable def o8(v:aC×ByteArray×Unit):Option (Bool×ByteArray×Unit):=some (v.1.name0.toList==v.2.1.toList,v.2)
def Kg:Xc vw:=mX prog 8 c0 FF [] [] []
theorem ut:aM prog 72 BH o8:=fn0 Kg Tryz.func72 bT
def qt:Cut SN:=⟨[(0,Dq3),(1, .fn 72 [] [100000]),(7,Dq1),(8,Dq1)],[(100000, .box none [Dq5])]⟩
def Aa:Cut SN:=⟨[(1, .fn 72 [] [100000])],[(100000, .box none [Dq5])]⟩
def tA:Cut SN:=⟨[(1, .fn 72 [] [100000]),(4,Dq1)],[(100000, .box none [Dq5])]⟩
def FC:aN vw:=shL [(0,Aa)] tA
def BE:Sig vw:={params:=[Dq3, .fn 72 [] [100000]],objs:=[(100000, .box none [Dq5])],rcut:=tA,rvars:=[.tmp 4],keep:=[100000]}
noncomputable def dT(v:(List aC)×Int×Int×ByteArray×Unit):Option (((Int×ByteArray×Unit)⊕(ByteArray×Unit))):=let a:=v.2.2;if decide (a.1<v.2.1)=true then if 0<=a.1 then v.1[a.1.toNat]?>>=λx1=>o8 (x1,a.2)>>=λx2=>if x2.1=true then some (aaG (a.1,x2.2))else dT (v.1,v.2.1,i64.wrap (a.1+1),x2.2)else none else some (aa8 a.2) partial_fixpoint
noncomputable def o7(v:(List aC)×ByteArray×Unit):Option (Int×ByteArray×Unit):=dT (v.1,(↑v.1.length:Int),(0:Int),v.2)>>=λx1=>match x1 with| .inl y1=>some y1| .inr y1=>some (((-1:Int),y1))
def jR:=kO ut k0
def zG:Xc vw:=mX prog 19 jR.1 FC [] [] [(2,⟨qt,[.ret, .exit 0],dT⟩)]
theorem qd:gg zG (aS (aO Tryz.f65) 0) ⟨qt,[.ret, .exit 0],dT⟩:=lp0 dT.partial_correctness jR.2
theorem uo:aM prog 65 BE o7:=fn1 zG Tryz.func65 jR.2 qd
def Yb:aN vw:={rcut:=bF}
def VI:Sig vw:=sg [Dq3,Dq5] bF [.tmp 4]
noncomputable def OZ(v:(List aC)×ByteArray×Unit):Option (Int×Unit):=o7 v>>=λx1=>some ((x1.1,()))
def Le:=kO uo k0
def x50:Xc vw:=mX prog 8 Le.1 Yb [] [] []
theorem wL:aM prog 50 VI OZ:=fn0 x50 Tryz.func50 Le.2
def Tu:Cut SN:=⟨[(6, .bp 6 0),(8, .bp 8 0),(9, .bp 9 0),(131,Dq4)],[(6, .st .myShapeT),(8, .st .myShapeT),(9, .st .myShapeT)]⟩
def Qg:Cut SN:=⟨[(0,Dq3),(4, .bp 4 0),(5, .bp 5 0),(6, .bp 6 0),(8, .bp 8 0),(9, .bp 9 0),(27,Dq1),(50,Dq4)],[(4, .st .myFuncT),(5, .st .myCodeT),(6, .st .myShapeT),(8, .st .myShapeT),(9, .st .myShapeT)]⟩
def Qh:Cut SN:=⟨[(0,Dq3),(4, .bp 4 0),(5, .bp 5 0),(6, .bp 6 0),(8, .bp 8 0),(9, .bp 9 0),(27,Dq1),(76,Dq4)],[(4, .st .myFuncT),(5, .st .myCodeT),(6, .st .myShapeT),(8, .st .myShapeT),(9, .st .myShapeT)]⟩
def Qi:Cut SN:=⟨[(0,Dq3),(4, .bp 4 0),(5, .bp 5 0),(6, .bp 6 0),(8, .bp 8 0),(9, .bp 9 0),(27,Dq1),(84,Dq4)],[(4, .st .myFuncT),(5, .st .myCodeT),(6, .st .myShapeT),(8, .st .myShapeT),(9, .st .myShapeT)]⟩
def Cw:Cut SN:=⟨[(6, .bp 6 0),(9, .bp 9 0)],[(6, .st .myShapeT),(9, .st .myShapeT)]⟩
def WN:Cut SN:=⟨[(6, .bp 6 0),(7,Dq4)],[(6, .st .myShapeT)]⟩
def Ys:aN vw:={rcut:=WN}
abbrev lV:Pt SN:= .dat (.st .myCodeT)
def VU:Sig vw:=sg [Dq3,Cb,lV] WN [.cell 6 118, .tmp 7]
abbrev Wy:=(List aC)×aC×aQ×Unit
noncomputable def TU(v:Wy):Option (Bool×ci×Unit):=let c:=v.2.2.1;let G1:=(ci.mk false false false false);(if(c.op==0)=true then Gw (c.a,(-2147483648:Int),(2147483648:Int),())>>=λx1=>(AE (c.type0,())>>=λx2=>if x2.1=true then some ((G1,ci.mk x1.1 (ci.mk (c.a==0) (c.b==0) (Mp.ieq c.type0.base (aF.mk (0:Int) (0:Int) (ZZ #[]) false false).base&&(Mp.ieq c.type0.bits (aF.mk (0:Int) (0:Int) (ZZ #[]) false false).bits&&(Mp.seq c.type0.name0 (aF.mk (0:Int) (0:Int) (ZZ #[]) false false).name0&&(Mp.beq c.type0.opt (aF.mk (0:Int) (0:Int) (ZZ #[]) false false).opt&&Mp.beq c.type0.err (aF.mk (0:Int) (0:Int) (ZZ #[]) false false).err)))) (c.name0.toList==(ZZ #[]).toList)).b true (ci.mk (c.a==0) (c.b==0) (Mp.ieq c.type0.base (aF.mk (0:Int) (0:Int) (ZZ #[]) false false).base&&(Mp.ieq c.type0.bits (aF.mk (0:Int) (0:Int) (ZZ #[]) false false).bits&&(Mp.seq c.type0.name0 (aF.mk (0:Int) (0:Int) (ZZ #[]) false false).name0&&(Mp.beq c.type0.opt (aF.mk (0:Int) (0:Int) (ZZ #[]) false false).opt&&Mp.beq c.type0.err (aF.mk (0:Int) (0:Int) (ZZ #[]) false false).err)))) (c.name0.toList==(ZZ #[]).toList)).name0,()))else Ee (c.type0,())>>=λx3=>if x3.1=true then some ((G1,ci.mk x1.1 (ci.mk (c.a==0) (c.b==0) (Mp.ieq c.type0.base (aF.mk (0:Int) (0:Int) (ZZ #[]) false false).base&&(Mp.ieq c.type0.bits (aF.mk (0:Int) (0:Int) (ZZ #[]) false false).bits&&(Mp.seq c.type0.name0 (aF.mk (0:Int) (0:Int) (ZZ #[]) false false).name0&&(Mp.beq c.type0.opt (aF.mk (0:Int) (0:Int) (ZZ #[]) false false).opt&&Mp.beq c.type0.err (aF.mk (0:Int) (0:Int) (ZZ #[]) false false).err)))) (c.name0.toList==(ZZ #[]).toList)).b (decide (c.type0.base<=1)) (ci.mk (c.a==0) (c.b==0) (Mp.ieq c.type0.base (aF.mk (0:Int) (0:Int) (ZZ #[]) false false).base&&(Mp.ieq c.type0.bits (aF.mk (0:Int) (0:Int) (ZZ #[]) false false).bits&&(Mp.seq c.type0.name0 (aF.mk (0:Int) (0:Int) (ZZ #[]) false false).name0&&(Mp.beq c.type0.opt (aF.mk (0:Int) (0:Int) (ZZ #[]) false false).opt&&Mp.beq c.type0.err (aF.mk (0:Int) (0:Int) (ZZ #[]) false false).err)))) (c.name0.toList==(ZZ #[]).toList)).name0,()))else some ((G1,ci.mk x1.1 (ci.mk (c.a==0) (c.b==0) (Mp.ieq c.type0.base (aF.mk (0:Int) (0:Int) (ZZ #[]) false false).base&&(Mp.ieq c.type0.bits (aF.mk (0:Int) (0:Int) (ZZ #[]) false false).bits&&(Mp.seq c.type0.name0 (aF.mk (0:Int) (0:Int) (ZZ #[]) false false).name0&&(Mp.beq c.type0.opt (aF.mk (0:Int) (0:Int) (ZZ #[]) false false).opt&&Mp.beq c.type0.err (aF.mk (0:Int) (0:Int) (ZZ #[]) false false).err)))) (c.name0.toList==(ZZ #[]).toList)).b false (ci.mk (c.a==0) (c.b==0) (Mp.ieq c.type0.base (aF.mk (0:Int) (0:Int) (ZZ #[]) false false).base&&(Mp.ieq c.type0.bits (aF.mk (0:Int) (0:Int) (ZZ #[]) false false).bits&&(Mp.seq c.type0.name0 (aF.mk (0:Int) (0:Int) (ZZ #[]) false false).name0&&(Mp.beq c.type0.opt (aF.mk (0:Int) (0:Int) (ZZ #[]) false false).opt&&Mp.beq c.type0.err (aF.mk (0:Int) (0:Int) (ZZ #[]) false false).err)))) (c.name0.toList==(ZZ #[]).toList)).name0,())))>>=λx2=>some (aaG x2)else(if(c.op==2)=true then some ((v.1,c.op,true,v.2.1,c,G1,ci.mk (c.a==0) (c.b==0) (Mp.ieq c.type0.base (aF.mk (0:Int) (0:Int) (ZZ #[]) false false).base&&(Mp.ieq c.type0.bits (aF.mk (0:Int) (0:Int) (ZZ #[]) false false).bits&&(Mp.seq c.type0.name0 (aF.mk (0:Int) (0:Int) (ZZ #[]) false false).name0&&(Mp.beq c.type0.opt (aF.mk (0:Int) (0:Int) (ZZ #[]) false false).opt&&Mp.beq c.type0.err (aF.mk (0:Int) (0:Int) (ZZ #[]) false false).err)))) (c.name0.toList==(ZZ #[]).toList),ci.mk (c.a==0) (c.b==0) (Mp.ieq c.type0.base (aF.mk (0:Int) (0:Int) (ZZ #[]) false false).base&&(Mp.ieq c.type0.bits (aF.mk (0:Int) (0:Int) (ZZ #[]) false false).bits&&(Mp.seq c.type0.name0 (aF.mk (0:Int) (0:Int) (ZZ #[]) false false).name0&&(Mp.beq c.type0.opt (aF.mk (0:Int) (0:Int) (ZZ #[]) false false).opt&&Mp.beq c.type0.err (aF.mk (0:Int) (0:Int) (ZZ #[]) false false).err)))) (c.name0.toList==(ZZ #[]).toList),()))else some ((v.1,c.op,c.op==3,v.2.1,c,G1,ci.mk (c.a==0) (c.b==0) (Mp.ieq c.type0.base (aF.mk (0:Int) (0:Int) (ZZ #[]) false false).base&&(Mp.ieq c.type0.bits (aF.mk (0:Int) (0:Int) (ZZ #[]) false false).bits&&(Mp.seq c.type0.name0 (aF.mk (0:Int) (0:Int) (ZZ #[]) false false).name0&&(Mp.beq c.type0.opt (aF.mk (0:Int) (0:Int) (ZZ #[]) false false).opt&&Mp.beq c.type0.err (aF.mk (0:Int) (0:Int) (ZZ #[]) false false).err)))) (c.name0.toList==(ZZ #[]).toList),ci.mk (c.a==0) (c.b==0) (Mp.ieq c.type0.base (aF.mk (0:Int) (0:Int) (ZZ #[]) false false).base&&(Mp.ieq c.type0.bits (aF.mk (0:Int) (0:Int) (ZZ #[]) false false).bits&&(Mp.seq c.type0.name0 (aF.mk (0:Int) (0:Int) (ZZ #[]) false false).name0&&(Mp.beq c.type0.opt (aF.mk (0:Int) (0:Int) (ZZ #[]) false false).opt&&Mp.beq c.type0.err (aF.mk (0:Int) (0:Int) (ZZ #[]) false false).err)))) (c.name0.toList==(ZZ #[]).toList),())))>>=λx1=>let d:=x1.2.2.2;let e:=d.2.2.2.2.1;let f:=x1.2.1;if x1.2.2.1=true then Gw (d.2.1.a,(0:Int),i64.wrap (d.1.places-1),())>>=λx2=>some (aaG (d.2.2.1,ci.mk x2.1 e.b e.kind e.name0,()))else if(f==5)=true then Gw (d.2.1.a,(5:Int),(17:Int),())>>=λx2=>AE (d.2.1.type0,())>>=λx3=>some (aaG (d.2.2.1,ci.mk x2.1 e.b x3.1 e.name0,()))else if(f==6)=true then Gw (d.2.1.a,(18:Int),(23:Int),())>>=λx2=>some (aaG (d.2.2.1,ci.mk x2.1 e.b e.kind e.name0,()))else(if(f==7)=true then some (x1.1,f,true,d)else if(f==9)=true then some (x1.1,f,true,d)else some (x1.1,f,f==10,d))>>=λx2=>let g:=x2.2.2.2;let h:=x2.2.1;let G2:=(x2.1,h,true,g);if x2.2.2.1=true then AE (g.2.1.type0,())>>=λx3=>some (aaG (g.2.2.1,ci.mk g.2.2.2.2.1.a g.2.2.2.2.1.b x3.1 g.2.2.2.2.1.name0,()))else(if(h==12)=true then some (G2)else if(h==13)=true then some (G2)else if(h==14)=true then some (G2)else some (x2.1,h,h==15,g))>>=λx3=>let i:=x3.2.2.2.2;let j:=i.2.2.2.1;let k:=x3.2.1;let G3:=(true,i.2);if x3.2.2.1=true then Gw (i.1.a,(0:Int),i64.wrap ((↑x3.2.2.2.1.code.length:Int) -1),())>>=λx4=>some (aaG (i.2.1,ci.mk x4.1 j.b j.kind j.name0,()))else if(k==16)=true then OZ (x3.1,i.1.name0,())>>=λx4=>(if decide (x4.1>=0)=true then if 0<=x4.1 then x3.1[x4.1.toNat]?>>=λx5=>some ((i.2.1,ci.mk j.a (i.1.b==x5.params) j.kind (decide (x4.1>=0)),()))else none else some ((i.2.1,ci.mk j.a false j.kind (decide (x4.1>=0)),())))>>=λx5=>some (aaG x5)else if(k==18)=true then O2 (i.1.name0,())>>=λx4=>some (aaG (i.2.1,ci.mk j.a j.b j.kind x4.1,()))else if(k==19)=true then Gw (i.1.a,(1:Int),(5:Int),())>>=λx4=>some (aaG (i.2.1,ci.mk x4.1 j.b j.kind j.name0,()))else(if(k==1)=true then some (G3)else if(k==4)=true then some (G3)else if(k==8)=true then some (G3)else if(k==11)=true then some (G3)else some (k==17,i.2))>>=λx4=>if x4.1=true then some (aaG (x4.2.1,x4.2.2.2))else some (aa8 (false,x4.2.2.1,())))>>=λx1=>match x1 with| .inl y1=>some (true,y1.2)| .inr y1=>some y1
def Lq:=kP wL (kP wT (kP EO (kP HR (kP yL k0))))
def x71:Xc vw:=mX prog 138 Lq.1 Ys [(4,Tu,[.norm]),(10,Qg,[.norm]),(18,Qh,[.norm]),(23,Qi,[.norm]),(36,Cw,[.norm, .ret])] [(7,Cw),(26,Cw)] []
theorem NT:aM prog 71 VU TU:=fn0 x71 Tryz.func71 Lq.2
def lE:Cut SN:=⟨[(1, .bp 100000 0),(2, .bp 100001 0),(4,Dq4)],[(100000, .box none [Dq3]),(100001, .st .myFuncT)]⟩
def FE:aN vw:={rcut:=lE}
def BG:Sig vw:={params:=[lV, .bp 100000 0, .bp 100001 0],objs:=[(100000, .box none [Dq3]),(100001, .st .myFuncT)],rcut:=lE,rvars:=[.tmp 4],keep:=[100000,100001]}
abbrev WA:=Bool×(List aC)×aC×Unit
noncomputable def kS(v:aQ×(List aC)×aC×Unit):Option (WA):=let G1:=(ci.mk true true true true);TU (v.2.1,v.2.2.1,v.1,())>>=λx1=>(if(!x1.1)=true then some (true,v.2)else some ((!(Mp.beq x1.2.1.a G1.a&&(Mp.beq x1.2.1.b G1.b&&(Mp.beq x1.2.1.kind G1.kind&&Mp.beq x1.2.1.name0 G1.name0))),v.2)))>>=λx2=>some (x2)
def nX:=kP NT k0
def Kf:Xc vw:=mX prog 21 nX.1 FE [] [(2,lE)] []
theorem ur:aM prog 70 BG kS:=fn0 Kf Tryz.func70 nX.2
abbrev Dq8:Pt SN:= .dat (.sl (.st .myCodeT))
def nQ:Cut SN:=⟨[(0,Dq8),(1, .fn 70 [] [100000,100001]),(7,Dq1),(8,Dq1)],[(100000, .box none [Dq3]),(100001, .st .myFuncT)]⟩
def vL:Cut SN:=⟨[(1, .fn 70 [] [100000,100001])],[(100000, .box none [Dq3]),(100001, .st .myFuncT)]⟩
def qm:Cut SN:=⟨[(1, .fn 70 [] [100000,100001]),(4,Dq1)],[(100000, .box none [Dq3]),(100001, .st .myFuncT)]⟩
def Bu:aN vw:=shL [(0,vL)] qm
def xk:Sig vw:={params:=[Dq8, .fn 70 [] [100000,100001]],objs:=[(100000, .box none [Dq3]),(100001, .st .myFuncT)],rcut:=qm,rvars:=[.tmp 4],keep:=[100000,100001]}
noncomputable def da(v:(List aQ)×Int×Int×(List aC)×aC×Unit):Option (((Int×(List aC)×aC×Unit)⊕((List aC)×aC×Unit))):=let a:=v.2.2;if decide (a.1<v.2.1)=true then if 0<=a.1 then v.1[a.1.toNat]?>>=λx1=>kS (x1,a.2)>>=λx2=>if x2.1=true then some (aaG (a.1,x2.2))else da (v.1,v.2.1,i64.wrap (a.1+1),x2.2)else none else some (aa8 a.2) partial_fixpoint
abbrev Wx:=(List aQ)×(List aC)×aC×Unit
noncomputable def lL(v:Wx):Option (Int×(List aC)×aC×Unit):=da (v.1,(↑v.1.length:Int),(0:Int),v.2)>>=λx1=>match x1 with| .inl y1=>some y1| .inr y1=>some (((-1:Int),y1))
def iI:=kO ur k0
def vn:Xc vw:=mX prog 19 iI.1 Bu [] [] [(2,⟨nQ,[.ret, .exit 0],da⟩)]
theorem oU:gg vn (aS (aO Tryz.f117) 0) ⟨nQ,[.ret, .exit 0],da⟩:=lp0 da.partial_correctness iI.2
theorem sA:aM prog 117 xk lL:=fn1 vn Tryz.func117 iI.2 oU
def tB:Cut SN:=⟨[(1, .fn 70 [] [100000,100001]),(4,Dq4)],[(100000, .box none [Dq3]),(100001, .st .myFuncT)]⟩
def FD:aN vw:={rcut:=tB}
def BF:Sig vw:={params:=[Dq8, .fn 70 [] [100000,100001]],objs:=[(100000, .box none [Dq3]),(100001, .st .myFuncT)],rcut:=tB,rvars:=[.tmp 4],keep:=[100000,100001]}
noncomputable def kR(v:Wx):Option (WA):=lL v>>=λx1=>some ((decide (x1.1>=0),x1.2))
def nW:=kO sA k0
def Ke:Xc vw:=mX prog 9 nW.1 FD [] [] []
theorem uq:aM prog 69 BF kR:=fn0 Ke Tryz.func69 nW.2
def Tp:Cut SN:=⟨[(2, .bp 2 0),(3, .bp 3 0),(34,Dq4)],[(2, .box none [Dq3]),(3, .st .myFuncT)]⟩
def Ya:aN vw:={rcut:=cE}
def VH:Sig vw:=sg [Dq3,Cb] cE [.tmp 4]
noncomputable def SR(v:(List aC)×aC×Unit):Option (Bool×Unit):=(O2 (v.2.1.name0,())>>=λx1=>if(!x1.1)=true then some (true,v)else Gw (v.2.1.params,(0:Int),v.2.1.places,())>>=λx2=>if(!x2.1)=true then some (true,v)else if((↑v.2.1.code.length:Int)==0)=true then some (true,v)else QT (v.2.1.type0,())>>=λx3=>if(x3.1 !=0)=true then some (true,v)else some ((decide (v.2.1.type0.base>=4),v)))>>=λx1=>if x1.1=true then some ((false,()))else kR (x1.2.2.1.code,x1.2)>>=λx2=>some ((!x2.1,()))
def Ld:=kP wT (kP EO (kP EP (kO uq k0)))
def x49:Xc vw:=mX prog 40 Ld.1 Ya [] [(1,Tp)] []
theorem NO:aM prog 49 VH SR:=fn0 x49 Tryz.func49 Ld.2
def PY:Cut SN:=⟨[(0,Dq3),(17,Dq3),(18,Dq1),(19,Dq1)],[]⟩
def Tj:Cut SN:=⟨[(0,Dq3),(16,Dq4)],[]⟩
def Tk:Cut SN:=⟨[(0,Dq3),(17,Dq3),(18,Dq1),(19,Dq1),(35,Dq4)],[]⟩
def X2:aN vw:=shL [(0,dW)] m9
def Vz:Sig vw:=sg [Dq3] m9 [.tmp 2]
noncomputable def mb(v:(List aC)×(List aC)×Int×Int×Unit):Option (((Int×Unit)⊕(Unit))):=let a:=v.2.2.2.1;if decide (a<v.2.2.1)=true then if 0<=a then v.2.1[a.toNat]?>>=λx1=>(SR (v.1,x1,())>>=λx2=>if(!x2.1)=true then some ((v.1,v.2.1,v.2.2.1,a,true,()))else OZ (v.1,x1.name0,())>>=λx3=>some ((v.1,v.2.1,v.2.2.1,a,x3.1 !=a,())))>>=λx2=>if x2.2.2.2.2.1=true then some (aaG ((1:Int),()))else mb (x2.1,x2.2.1,x2.2.2.1,i64.wrap (x2.2.2.2.1+1),())else none else some (aa8 ()) partial_fixpoint
noncomputable def OY(v:(List aC)×Unit):Option (Int×Unit):=(if decide ((↑v.1.length:Int)>48)=true then some ((v.1,true,()))else SQ v>>=λx1=>if decide (x1.1>2000)=true then some ((v.1,true,()))else sH v>>=λx2=>some (v.1,x2))>>=λx1=>if x1.2.1=true then some (((3:Int),()))else mb (x1.1,x1.1,(↑x1.1.length:Int),(0:Int),())>>=λx2=>match x2 with| .inl y2=>some y2| .inr y2=>some (((0:Int),()))
def Da:=kP NL (kP A5 (kP NO (kP wL k0)))
def x37:Xc vw:=mX prog 37 Da.1 X2 [] [(1,Tj),(6,Tk)] [(4,⟨PY,[.ret, .exit 0],mb⟩)]
theorem Ex:gg x37 (aS (aO Tryz.f37) 0) ⟨PY,[.ret, .exit 0],mb⟩:=lp0 mb.partial_correctness Da.2
theorem wK:aM prog 37 Vz OY:=fn1 x37 Tryz.func37 Da.2 Ex
def Ab:Cut SN:=⟨[(0,Dq1),(1, .bp 100000 0),(9,Dq4)],[(100000, .box none [Dq1])]⟩
def tD:Cut SN:=⟨[(1, .bp 100000 0)],[(100000, .box none [Dq1])]⟩
def FG:aN vw:={rcut:=tD}
def BI:Sig vw:={params:=[Dq1, .bp 100000 0],objs:=[(100000, .box none [Dq1])],rcut:=tD,rvars:=[],keep:=[100000]}
noncomputable def gS(v:Int×Int×Unit):Option (Int×Unit):=(if decide (v.2.1<0)=true then some (v.1,true,v.2)else some ((v.1,decide (v.1<v.2.1),v.2)))>>=λx1=>if x1.2.1=true then some ((x1.1,()))else some (x1.2.2)
def Kh:Xc vw:=mX prog 11 c0 FG [] [(0,Ab)] []
theorem uu:aM prog 73 BI gS:=fn0 Kh Tryz.func73 bT
abbrev KJ:OPt SN:= .que 123 (.st .pointT)
def tE:Cut SN:=⟨[(1, .bp 100000 0),(2, .bp 100001 0)],[(100000, .box none [.mp 100002]),(100001, .box none [.vh 3010]),(100002, .map (.st .pointT) .bool),(3010,KJ)]⟩
def FH:aN vw:={rcut:=tE}
def BJ:Sig vw:={params:=[.dat (.st .pointT), .bp 100000 0, .bp 100001 0],objs:=[(100000, .box none [.mp 100002]),(100001, .box none [.vh 100003]),(100002, .map (.st .pointT) .bool),(100003,KJ)],rcut:=tE,rvars:=[],keep:=[100000,100001,100002,3010]}
noncomputable def fK(v:aZ×(List (aZ×Bool))×(List aZ)×Unit):Option ((List (aZ×Bool))×(List aZ)×Unit):=if(!(Mp.get (λx y=>Mp.ieq x.at0 y.at0&&Mp.ieq x.height y.height) v.1 v.2.1).getD false)=true then if v.2.2.1.length+[v.1].length<=4294967296 then some ((Mp.set (λx y=>Mp.ieq x.at0 y.at0&&Mp.ieq x.height y.height) (λx x_1=>false) v.1 true v.2.1,v.2.2.1++[v.1],()))else none else some (v.2)
def Ki:Xc vw:=mX prog 14 c0 FH [] [] []
theorem uv:aM prog 74 BJ fK:=fn0 Ki Tryz.func74 bT
def Tv:Cut SN:=⟨[(1, .bp 1 0),(2, .bp 2 0),(4,Dq1),(5,Dq4)],[(1, .st .myCodeT),(2, .st .stepT)]⟩
def Qj:Cut SN:=⟨[(1, .bp 1 0),(2, .bp 2 0),(4,Dq1),(11,Dq4)],[(1, .st .myCodeT),(2, .st .stepT)]⟩
def Qk:Cut SN:=⟨[(1, .bp 1 0),(2, .bp 2 0),(4,Dq1),(16,Dq4)],[(1, .st .myCodeT),(2, .st .stepT)]⟩
def Ql:Cut SN:=⟨[(2, .bp 2 0),(4,Dq1),(25,Dq4)],[(2, .st .stepT)]⟩
def WO:Cut SN:=⟨[(2, .bp 2 0)],[(2, .st .stepT)]⟩
def Yt:aN vw:={rcut:=WO}
def VV:Sig vw:=sg [lV] WO [.cell 2 130]
noncomputable def SX(v:aQ×Unit):Option (vC×Unit):=let G1:=(vC.mk (0:Int) (0:Int) false,());let G2:=(v.1.op,true,v.1,G1);(if(v.1.op==0)=true then some (G2)else if(v.1.op==1)=true then some (G2)else if(v.1.op==2)=true then some (G2)else some (v.1.op,v.1.op==18,v.1,G1))>>=λx1=>if x1.2.1=true then some ((vC.mk (0:Int) (1:Int) true,()))else(if(x1.1==3)=true then some (x1.1,true,x1.2.2)else if(x1.1==4)=true then some (x1.1,true,x1.2.2)else some (x1.1,x1.1==15,x1.2.2))>>=λx2=>if x2.2.1=true then some ((vC.mk (1:Int) (0:Int) true,()))else(if(x2.1==5)=true then some (x2.1,true,x2.2.2)else some (x2.1,x2.1==6,x2.2.2))>>=λx3=>if x3.2.1=true then some ((vC.mk (2:Int) (1:Int) true,()))else if(x3.1==16)=true then some ((vC.mk x3.2.2.1.b (1:Int) true,()))else(if(x3.1==14)=true then some (x3.1,true,x3.2.2.2)else some (x3.1,x3.1==19,x3.2.2.2))>>=λx4=>if x4.2.1=true then some (G1)else if(x4.1==17)=true then some ((vC.mk (1:Int) (0:Int) false,()))else some ((vC.mk (1:Int) (1:Int) true,()))
def x75:Xc vw:=mX prog 33 c0 Yt [(6,Tv,[.norm]),(10,Qj,[.norm]),(13,Qk,[.norm]),(18,Ql,[.norm])] [] []
theorem NU:aM prog 75 VV SX:=fn0 x75 Tryz.func75 bT
def Yu:aN vw:={rcut:=eO}
def VW:Sig vw:=sg [Dq1] eO [.tmp 2]
noncomputable def SY(v:Int×Unit):Option (Bool×Unit):=(if(v.1==12)=true then some ((true,()))else if(v.1==13)=true then some ((true,()))else if(v.1==14)=true then some ((true,()))else some ((v.1==15,())))>>=λx1=>if x1.1=true then some ((true,()))else some ((false,()))
def x76:Xc vw:=mX prog 9 c0 Yu [(6,cE,[.norm])] [] []
theorem NV:aM prog 76 VW SY:=fn0 x76 Tryz.func76 bT
def P8:Cut SN:=⟨[(1, .bp 1 0),(4, .bp 4 0),(5, .mp 20),(6, .bp 6 0),(7, .bp 7 0),(8, .fn 73 [] [7]),(9, .fn 74 [] [4,6])],[(1, .st .myFuncT),(4, .box none [.mp 17]),(20, .map (.int .i64) (.int .i64)),(6, .box none [.vh 3060]),(7, .box none [Dq1]),(17, .map (.st .pointT) .bool),(3060,KJ)]⟩
def P5:Cut SN:=⟨[(1, .bp 1 0),(4, .bp 4 0),(5, .mp 20),(6, .bp 6 0),(7, .bp 7 0),(8, .fn 73 [] [7]),(9, .fn 74 [] [4,6]),(10, .bp 10 0)],[(1, .st .myFuncT),(4, .box none [.mp 17]),(20, .map (.int .i64) (.int .i64)),(6, .box none [.vh 3060]),(7, .box none [Dq1]),(10, .st .pointT),(17, .map (.st .pointT) .bool),(3060,KJ)]⟩
def P6:Cut SN:=⟨[(1, .bp 1 0),(4, .bp 4 0),(5, .mp 20),(6, .bp 6 0),(7, .bp 7 0),(8, .fn 73 [] [7]),(9, .fn 74 [] [4,6]),(10, .bp 10 0),(13, .bp 13 0),(14, .bp 14 0),(15,Dq1),(16,Dq1)],[(1, .st .myFuncT),(4, .box none [.mp 17]),(20, .map (.int .i64) (.int .i64)),(6, .box none [.vh 3060]),(7, .box none [Dq1]),(10, .st .pointT),(13, .st .myCodeT),(14, .st .stepT),(17, .map (.st .pointT) .bool),(3060,KJ)]⟩
def P7:Cut SN:=⟨[(1, .bp 1 0),(4, .bp 4 0),(5, .mp 20),(6, .bp 6 0),(7, .bp 7 0),(8, .fn 73 [] [7]),(9, .fn 74 [] [4,6]),(10, .bp 10 0),(14, .bp 14 0),(15,Dq1)],[(1, .st .myFuncT),(4, .box none [.mp 17]),(20, .map (.int .i64) (.int .i64)),(6, .box none [.vh 3060]),(7, .box none [Dq1]),(10, .st .pointT),(14, .st .stepT),(17, .map (.st .pointT) .bool),(3060,KJ)]⟩
def P9:Cut SN:=⟨[(1, .bp 1 0),(4, .bp 4 0),(5, .mp 20),(6, .bp 6 0),(7, .bp 7 0),(8, .fn 73 [] [7]),(9, .fn 74 [] [4,6]),(10, .bp 10 0),(46,Dq4)],[(1, .st .myFuncT),(4, .box none [.mp 17]),(20, .map (.int .i64) (.int .i64)),(6, .box none [.vh 3060]),(7, .box none [Dq1]),(10, .st .pointT),(17, .map (.st .pointT) .bool),(3060,KJ)]⟩
def P_:Cut SN:=⟨[(1, .bp 1 0),(4, .bp 4 0),(5, .mp 20),(6, .bp 6 0),(7, .bp 7 0),(8, .fn 73 [] [7]),(9, .fn 74 [] [4,6]),(10, .bp 10 0),(13, .bp 13 0),(14, .bp 14 0),(73,Dq4)],[(1, .st .myFuncT),(4, .box none [.mp 17]),(20, .map (.int .i64) (.int .i64)),(6, .box none [.vh 3060]),(7, .box none [Dq1]),(10, .st .pointT),(13, .st .myCodeT),(14, .st .stepT),(17, .map (.st .pointT) .bool),(3060,KJ)]⟩
def Tq:Cut SN:=⟨[(4, .bp 4 0),(7, .bp 7 0)],[(4, .box none [.mp 17]),(7, .box none [Dq1]),(17, .map (.st .pointT) .bool)]⟩
def WH:Cut SN:=⟨[(2, .mp 2002),(3,Dq1)],[(2002, .map (.st .pointT) .bool)]⟩
def Yc:aN vw:=shL [(0,Tq)] WH
def TZ:Nat->Bool:=λk=>match k with|6000022=>true|_=>false
def VJ:Sig vw:={params:=[Cb],rcut:=WH,rvars:=[.tmp 2, .tmp 3],keep:=[2002]}
noncomputable def fc(v:aC×(List (Int×Int))×Int×(List (aZ×Bool))×(List aZ)×Unit):Option ((Int×(List (aZ×Bool))×Unit)):=let b:=v.2.2.2.2.1;if decide ((↑b.length:Int)>0)=true then if(0:Int)<=0/\0<(↑b.length:Int)then b[aaq 0]?>>=λx1=>let G3:=(v.1,v.2.1,v.2.2.1,x1,v.2.2.2.1,ack (aaq 1) b,());if(1:Int)<=(↑b.length:Int)then((if(Mp.get Mp.ieq x1.at0 v.2.1).isSome=true then some (((Mp.get Mp.ieq x1.at0 v.2.1).getD (0:Int) !=x1.height,G3))else some (false,G3))>>=λx2=>if x2.1=true then gS (x2.2.2.2.2.1.at0,x2.2.2.2.1,())>>=λx3=>some (x2.2.1,x2.2.2.1,x3.1,x2.2.2.2.2)else some (x2.2))>>=λx2=>let c:=x2.2.2.2.1;if 0<=c.at0 then x2.1.code[c.at0.toNat]?>>=λx3=>SX (x3,())>>=λx4=>let G2:=(x2.1,Mp.set Mp.ieq Mp.ilt c.at0 c.height x2.2.1,x2.2.2.1,c,x3,x4.1,x2.2.2.2.2);(if decide (c.height<x4.1.takes)=true then some (true,G2)else some ((decide (c.height>64),G2)))>>=λx5=>let e:=x5.2;let d:=e.2.2.2;let G1:=(i64.wrap (d.1.height-d.2.2.1.takes)+d.2.2.1.puts);if x5.1=true then gS (d.1.at0,e.2.2.1,())>>=λx6=>fc (e.1,e.2.1,x6.1,d.2.2.2)else(SY (d.2.1.op,())>>=λx6=>if x6.1=true then(if(d.2.1.op==12)=true then some ((i64.wrap G1,i64.wrap (i64.wrap G1-1),e))else some (i64.wrap G1,i64.wrap G1,e))>>=λx7=>let f:=x7.2.2.2.2;fK (aZ.mk f.2.2.1.a x7.2.1,f.2.2.2.2)>>=λx8=>some (x7.1,x7.2.2.1,x7.2.2.2.1,f.1,f.2.1,f.2.2.2.1,x8)else some (i64.wrap G1,e.1,e.2.1,e.2.2.1,d.1,d.2.2))>>=λx6=>let g:=x6.2.2.2;if(!g.2.2.1.goes)=true then fc (x6.2.1,x6.2.2.1,g.1,g.2.2.2)else if(i64.wrap (g.2.1.at0+1)==(↑x6.2.1.code.length:Int))=true then gS (g.2.1.at0,g.1,())>>=λx7=>fc (x6.2.1,x6.2.2.1,x7.1,g.2.2.2)else fK (aZ.mk (i64.wrap (g.2.1.at0+1)) x6.1,g.2.2.2)>>=λx7=>fc (x6.2.1,x6.2.2.1,g.1,x7)else none else none else none else some ((v.2.2.1,v.2.2.2.1,())) partial_fixpoint
noncomputable def SS(v:aC×Unit):Option (Int×(List (aZ×Bool))×Unit):=fc (v.1,[],(-1:Int),Mp.set (λx y=>Mp.ieq x.at0 y.at0&&Mp.ieq x.height y.height) (λx x_1=>false) (aZ.mk (0:Int) (0:Int)) true [],[aZ.mk (0:Int) (0:Int)],())>>=λx1=>some (x1)
def De:=kO uu (kO uv (kP NU (kP NV k0)))
def x51:Xc vw:={P:=prog,n:=124,call:=De.1,pre:=TZ,sh:=Yc,joins:=λk=>match k with|13=>some (P5,[.norm])|23=>some (P6,[.norm])|24=>some (P7,[.norm])|_=>none,regs:=λk=>match k with|11=>some P9|16=>some P_|_=>none,loops:=λk=>match k with|7=>some {cut:=P8,alts:=[.exit 0],F:=fc}|_=>none}
theorem EH:gg x51 (aS (aO Tryz.f51) 0) ⟨P8,[.exit 0],fc⟩:=lp0 fc.partial_correctness De.2
theorem NP:aM prog 51 VJ SS:=fn1 x51 Tryz.func51 De.2 EH
def PZ:Cut SN:=⟨[(15,Dq3),(16,Dq1),(17,Dq1)],[]⟩
def SD:Cut SN:=⟨[(2,Dq1),(3,Dq1),(4,Dq1)],[]⟩
def X3:aN vw:=shL [(0,dW)] SD
def VA:Sig vw:=sg [Dq3] SD [.tmp 2, .tmp 3, .tmp 4]
noncomputable def kN(v:SB):Option (((Cd)⊕(Unit))):=let a:=v.2.2.1;if decide (a<v.2.1)=true then if 0<=a then v.1[a.toNat]?>>=λx1=>SS (x1,())>>=λx2=>if decide (x2.1>=0)=true then some (aaG (a,x2.1,(7:Int),()))else kN (v.1,v.2.1,i64.wrap (a+1),())else none else some (aa8 ()) partial_fixpoint
noncomputable def SL(v:(List aC)×Unit):Option (Cd):=OY v>>=λx1=>if(x1.1 !=0)=true then some (((0:Int),(0:Int),x1))else kN (v.1,(↑v.1.length:Int),(0:Int),())>>=λx2=>match x2 with| .inl y2=>some y2| .inr y2=>some (((0:Int),(0:Int),(0:Int),()))
def Db:=kP wK (kO NP k0)
def x38:Xc vw:=mX prog 32 Db.1 X3 [] [] [(5,⟨PZ,[.ret, .exit 0],kN⟩)]
theorem Ey:gg x38 (aS (aO Tryz.f38) 0) ⟨PZ,[.ret, .exit 0],kN⟩:=lp0 kN.partial_correctness Db.2
theorem NH:aM prog 38 VA SL:=fn1 x38 Tryz.func38 Db.2 Ey
def WF:Cut SN:=⟨[(4,Dq1),(5,Dq4),(6,Dq1)],[]⟩
def X4:aN vw:={rcut:=WF}
def Sj:Sig vw:=sg [Dq3,Dq5] WF [.tmp 4, .tmp 5, .tmp 6]
noncomputable def LC(v:(List aC)×ByteArray×Unit):Option (Int×Bool×Int×Unit):=OY (v.1,())>>=λx1=>if(x1.1 !=0)=true then some (((0:Int),false,x1))else OZ v>>=λx2=>some ((max x2.1 (0:Int),decide (x2.1>=0),(0:Int),()))
def Lc:=kP wK (kP wL k0)
def x39:Xc vw:=mX prog 21 Lc.1 X4 [] [] []
theorem Ez:aM prog 39 Sj LC:=fn0 x39 Tryz.func39 Lc.2
abbrev vu:Pt SN:= .dat (.sl (.st .myValueT))
def K4:Cut SN:=⟨[(12,Dq1),(48,vu),(49,Dq1),(50,Dq1)],[]⟩
def PX:Cut SN:=⟨[(12,Dq1),(48,vu),(49,Dq1),(50,Dq1),(61,Dq4)],[]⟩
def Th:Cut SN:=⟨[(12,Dq1)],[]⟩
def WB:Cut SN:=⟨[(6,Dq1),(7,Dq1)],[]⟩
def XU:aN vw:=shL [(0,Th)] WB
def Vs:Sig vw:=sg [Dq3,Dq5,vu] WB [.tmp 6, .tmp 7]
noncomputable def ja(v:Int×(List aE)×Int×Int×Unit):Option (((Int×Int×Unit)⊕(Int×Unit))):=let a:=v.2.2.2.1;if decide (a<v.2.2.1)=true then if 0<=a then v.2.1[a.toNat]?>>=λx1=>(if decide (x1.n<(-2147483648:Int))=true then some ((v.1,v.2.1,v.2.2.1,a,true,()))else some ((v.1,v.2.1,v.2.2.1,a,decide (x1.n>2147483648),())))>>=λx2=>if x2.2.2.2.2.1=true then some (aaG ((0:Int),(1:Int),()))else ja (x2.1,x2.2.1,x2.2.2.1,i64.wrap (x2.2.2.2.1+1),())else none else some (aa8 (v.1,())) partial_fixpoint
abbrev Ww:=(List aC)×ByteArray×(List aE)×Unit
noncomputable def SI(v:Ww):Option (Int×Int×Unit):=OY (v.1,())>>=λx1=>if(x1.1 !=0)=true then some (((0:Int),x1))else SL (v.1,())>>=λx2=>if(x2.2.2.1 !=0)=true then some (((0:Int),x2.2.2))else LC (v.1,v.2.1,())>>=λx3=>if(!x3.2.1)=true then some (((0:Int),(4:Int),()))else if 0<=x3.1 then v.1[x3.1.toNat]?>>=λx4=>if((↑v.2.2.1.length:Int) !=x4.params)=true then some (((0:Int),(10:Int),()))else ja (x3.1,v.2.2.1,(↑v.2.2.1.length:Int),(0:Int),())>>=λx5=>match x5 with| .inl y5=>some y5| .inr y5=>some ((y5.1,(0:Int),()))else none
def C_:=kP wK (kP NH (kP Ez k0))
def x28:Xc vw:=mX prog 64 C_.1 XU [] [(15,PX)] [(13,⟨K4,[.ret, .exit 0],ja⟩)]
theorem A3:gg x28 (aS (aO Tryz.f28) 0) ⟨K4,[.ret, .exit 0],ja⟩:=lp0 ja.partial_correctness C_.2
theorem Nz:aM prog 28 Vs SI:=fn1 x28 Tryz.func28 C_.2 A3
abbrev Oq2:OPt SN:= .vec 31 (.st .myValueT)
def qr:Cut SN:=⟨[(3, .vh 1003),(6,vu),(7,Dq1),(8,Dq1)],[(1003,Oq2)]⟩
def z7:Cut SN:=⟨[(3, .vh 1003)],[(1003,Oq2)]⟩
def tq:Cut SN:=⟨[(2, .vh 2002)],[(2002,Oq2)]⟩
def FA:aN vw:=shL [(0,z7)] tq
def BD:Sig vw:={params:=[vu],rcut:=tq,rvars:=[.tmp 2],keep:=[2002]}
noncomputable def dS(v:(List aE)×Int×Int×(List aE)×Unit):Option (((List aE)×Unit)):=let a:=v.2.2;if decide (a.1<v.2.1)=true then if 0<=a.1 then v.1[a.1.toNat]?>>=λx1=>if a.2.1.length+[aE.mk (aF.mk (0:Int) (0:Int) (ZZ #[]) false false) x1.n x1.null x1.err (aF.mk (0:Int) (0:Int) (ZZ #[]) false false)].length<=4294967296 then dS (v.1,v.2.1,i64.wrap (a.1+1),a.2.1++[aE.mk (aF.mk (0:Int) (0:Int) (ZZ #[]) false false) x1.n x1.null x1.err (aF.mk (0:Int) (0:Int) (ZZ #[]) false false)],())else none else none else some (a.2) partial_fixpoint
noncomputable def kM(v:(List aE)×Unit):Option ((List aE)×Unit):=dS (v.1,(↑v.1.length:Int),(0:Int),[],())>>=λx1=>some (x1)
def zF:Xc vw:=mX prog 24 c0 FA [] [] [(3,⟨qr,[.exit 0],dS⟩)]
theorem p_:gg zF (aS (aO Tryz.f18) 0) ⟨qr,[.exit 0],dS⟩:=lp0 dS.partial_correctness bT
theorem uk:aM prog 18 BD kM:=fn1 zF Tryz.func18 bT p_
abbrev Dq6:Pt SN:= .dat (.op (.st .endingT))
abbrev Oq7:OPt SN:= .vec 3 (.int .i64)
def tz:Cut SN:=⟨[(0, .bp 100000 0)],[(100000, .box none [Dq3,Dq4,Dq1, .vh 100001,Dq1, .vh 100002,Dq1,Dq6]),(100001,Oq7),(100002,Oq2)]⟩
def FB:aN vw:={rcut:=tz}
def Be:Nat->Bool:=λk=>match k with|7000010=>true|_=>false
def rh:Sig vw:={params:=[.bp 100000 0,Dq1,Dq1],objs:=[(100000, .box none [Dq3,Dq4,Dq1, .vh 100001,Dq1, .vh 100002,Dq1,Dq6]),(100001,Oq7),(100002,Oq2)],rcut:=tz,rvars:=[],keep:=[100000,100001,100002]}
noncomputable def d9(v:Int×Int×(List aC)×Bool×Int×Int×Int×(Option bX)×(List Int)×(List aE)×Unit):Option ((List aC)×Bool×Int×Int×Int×(Option bX)×(List Int)×(List aE)×Unit):=let a:=v.2.2.2;some ((v.2.2.1,a.1,a.2.1,a.2.2.1,a.2.2.2.1,some (bX.mk v.1 v.2.1),a.2.2.2.2.2))
def Kd:Xc vw:={P:=prog,n:=13,call:=c0,pre:=Be,sh:=FB}
theorem gr:aM prog 52 rh d9:=fn0 Kd Tryz.func52 bT
def WI:Cut SN:=⟨[(0, .bp 0 0)],[(0, .bar 20 .fno)]⟩
def Yd:aN vw:={rcut:=WI}
def Sk:Sig vw:=sg [] WI [.cell 0 102]
noncomputable def QN(v:Unit):Option ((List (Option Nat))×Unit):=some (([some (77:Nat),some (78:Nat),some (79:Nat),some (80:Nat),some (81:Nat),some (82:Nat),some (83:Nat),some (84:Nat),some (85:Nat),some (86:Nat),some (87:Nat),some (88:Nat),some (89:Nat),some (90:Nat),some (91:Nat),some (92:Nat),some (93:Nat),some (94:Nat),some (95:Nat),some (96:Nat)],()))
def x53:Xc vw:=mX prog 2 c0 Yd [] [] []
theorem EI:aM prog 53 Sk QN:=fn0 x53 Tryz.func53 bT
abbrev Dq9:Pt SN:= .dat (.op (.st .myValueT))
def aT:Cut SN:=⟨[(0, .bp 100000 0)],[(100000, .box none [.bp 100001 0,Dq5,Dq1,Dq1,Dq1,Dq1,Dq5,Dq4,Dq4,Dq8, .vh 100002, .vh 3011,Dq1,Dq1,Dq9]),(100001, .box none [Dq3,Dq4,Dq1, .vh 100004,Dq1, .vh 100005,Dq1,Dq6]),(100002,Oq2),(3011,Oq2),(100004,Oq7),(100005,Oq2)]⟩
def Bv:aN vw:={rcut:=aT}
abbrev S_:Pt SN:= .dat (.st .myValueT)
def pE:Sig vw:={params:=[.bp 100000 0,S_],objs:=[(100000, .box none [.bp 100001 0,Dq5,Dq1,Dq1,Dq1,Dq1,Dq5,Dq4,Dq4,Dq8, .vh 100002, .vh 100003,Dq1,Dq1,Dq9]),(100001, .box none [Dq3,Dq4,Dq1, .vh 100004,Dq1, .vh 100005,Dq1,Dq6]),(100002,Oq2),(100003,Oq2),(100004,Oq7),(100005,Oq2)],rcut:=aT,rvars:=[],keep:=[100000,100001,100002,3011,100004,100005]}
abbrev Tq1:=ByteArray×Int×Int×Int×Int×ByteArray×Bool×Bool×(List aQ)×Int×Int×(Option aE)×(List aC)×Bool×Int×Int×Int×(Option bX)×(List aE)×(List aE)×(List Int)×(List aE)×Unit
noncomputable def cM(v:aE×ByteArray×Int×Int×Int×Int×ByteArray×Bool×Bool×(List aQ)×Int×Int×(Option aE)×(List aC)×Bool×Int×Int×Int×(Option bX)×(List aE)×(List aE)×(List Int)×(List aE)×Unit):Option (Tq1):=let e:=v.2.2;let c:=e.2.2.2;let f:=c.2.2;let a:=f.2.2.2;let g:=a.2.2;let b:=g.2.2.2;let d:=b.2.2.2.2;let G1:=(b.2.2.2.1,d.1,d.2.1++[v.1],d.2.2);if d.2.1.length+[v.1].length<=4294967296 then if(a.1==1)=true then some ((v.2.1,e.1,e.2.1,e.2.2.1,c.1,c.2.1,f.1,f.2.1,f.2.2.1,a.1,a.2.1,g.1,g.2.1,g.2.2.1,b.1,b.2.1,max b.2.2.1 (↑(d.2.1++[v.1]).length:Int),G1))else some (v.2.1,e.1,e.2.1,e.2.2.1,c.1,c.2.1,f.1,f.2.1,f.2.2.1,a.1,a.2.1,g.1,g.2.1,g.2.2.1,b.1,b.2.1,b.2.2.1,G1)else none
def Gj:Xc vw:=mX prog 38 c0 Bv [] [] []
theorem cJ:aM prog 120 pE cM:=fn0 Gj Tryz.func120 bT
def zZ:Cut SN:=⟨[(2, .bp 2 0)],[(2, .st .myValueT)]⟩
def Ut:aN vw:={rcut:=zZ}
def Rx:Sig vw:=sg [Dq1] zZ [.cell 2 31]
noncomputable def sB(v:Int×Unit):Option (aE×Unit):=some ((aE.mk (aF.mk (0:Int) (0:Int) (ZZ #[]) false false) v.1 false (ZZ #[]) (aF.mk (0:Int) (0:Int) (ZZ #[]) false false),()))
def Zc:Xc vw:=mX prog 5 c0 Ut [] [] []
theorem kI:aM prog 121 Rx sB:=fn0 Zc Tryz.func121 bT
def Uw:aN vw:={rcut:=vR}
def RA:Sig vw:=sg [vz] vR [.cell 2 135]
noncomputable def uj(v:aF×Unit):Option (bB×Unit):=some ((bB.mk (v.1.base==3) v.1.bits,()))
def Zf:Xc vw:=mX prog 9 c0 Uw [] [] []
theorem nu:aM prog 126 RA uj:=fn0 Zf Tryz.func126 bT
def Uy:aN vw:={rcut:=zZ}
def RC:Sig vw:=sg [Dq4] zZ [.cell 2 31]
noncomputable def AF(v:Bool×Unit):Option (aE×Unit):=if v.1=true then sB ((1:Int),())>>=λx1=>some (x1)else sB ((0:Int),())>>=λx1=>some (x1)
def CR:=kP kI k0
def Zh:Xc vw:=mX prog 6 CR.1 Uy [] [] []
theorem sD:aM prog 129 RC AF:=fn0 Zh Tryz.func129 CR.2
def U8:aN vw:={rcut:=m9}
def R_:Sig vw:=sg [m6] m9 [.tmp 2]
noncomputable def AU(v:bB×Unit):Option (Int×Unit):=if v.1.signed=true then if 0<=i64.wrap (v.1.bits-1)then some ((i64.wrap (Bs.ishl i64 (1:Int) (i64.wrap (v.1.bits-1)) -1),()))else none else if 0<=v.1.bits then some ((i64.wrap (Bs.ishl i64 (1:Int) v.1.bits-1),()))else none
def ZJ:Xc vw:=mX prog 14 c0 U8 [] [] []
theorem sG:aM prog 172 R_ AU:=fn0 ZJ Tryz.func172 bT
def K2:Cut SN:=⟨[(1,Dq1)],[]⟩
def U5:aN vw:={rcut:=bF}
def LM:Sig vw:=sg [m6,Dq1] bF [.tmp 4]
noncomputable def wI(v:bB×Int×Unit):Option (Int×Unit):=let G1:=(i64.wrap (Bs.ishl i64 (1:Int) v.1.bits-1));if 0<=v.1.bits then(AU (v.1,())>>=λx1=>if decide (Bs.iand i64 v.2.1 G1>x1.1)=true then if 0<=v.1.bits then some ((i64.wrap (Bs.iand i64 v.2.1 G1-Bs.ishl i64 (1:Int) v.1.bits),()))else none else some ((Bs.iand i64 v.2.1 G1,())))>>=λx1=>some (x1)else none
def C7:=kP sG k0
def ZG:Xc vw:=mX prog 21 C7.1 U5 [(4,K2,[.norm])] [] []
theorem yS:aM prog 169 LM wI:=fn0 ZG Tryz.func169 C7.2
def UT:aN vw:={rcut:=GM}
def RY:Sig vw:=sg [m6,Dq1] GM [.tmp 4, .tmp 5]
noncomputable def Im(v:bB×Int×Unit):Option (Int×Int×Unit):=oY (v.1,())>>=λx1=>if(x1.1 !=0)=true then some (((0:Int),x1))else wI v>>=λx2=>some ((x2.1,(0:Int),()))
def C1:=kP jx (kP yS k0)
def Zy:Xc vw:=mX prog 15 C1.1 UT [] [] []
theorem Io:aM prog 154 RY Im:=fn0 Zy Tryz.func154 C1.2
def Uu:aN vw:={rcut:=bF}
def Ry:Sig vw:=sg [vz,Dq1] bF [.tmp 4]
noncomputable def oV(v:aF×Int×Unit):Option (Int×Unit):=if(v.1.base==0)=true then some (((0:Int),()))else if(v.1.base==1)=true then AF (v.2.1 !=0,())>>=λx1=>some ((x1.1.n,()))else uj (v.1,())>>=λx1=>Im (x1.1,v.2)>>=λx2=>some ((x2.1,()))
def CO:=kP nu (kP sD (kP Io k0))
def Zd:Xc vw:=mX prog 25 CO.1 Uu [] [] []
theorem kJ:aM prog 122 Ry oV:=fn0 Zd Tryz.func122 CO.2
def FI:aN vw:={rcut:=aT}
def ri:Sig vw:={params:=[.bp 100000 0,lV],objs:=[(100000, .box none [.bp 100001 0,Dq5,Dq1,Dq1,Dq1,Dq1,Dq5,Dq4,Dq4,Dq8, .vh 100002, .vh 100003,Dq1,Dq1,Dq9]),(100001, .box none [Dq3,Dq4,Dq1, .vh 100004,Dq1, .vh 100005,Dq1,Dq6]),(100002,Oq2),(100003,Oq2),(100004,Oq7),(100005,Oq2)],rcut:=aT,rvars:=[],keep:=[100000,100001,100002,3011,100004,100005]}
abbrev Tq2:=aQ×ByteArray×Int×Int×Int×Int×ByteArray×Bool×Bool×(List aQ)×Int×Int×(Option aE)×(List aC)×Bool×Int×Int×Int×(Option bX)×(List aE)×(List aE)×(List Int)×(List aE)×Unit
noncomputable def fL(v:Tq2):Option (Tq1):=let b:=v.2.2.2.2.2.2.2.2.2.2.2.2.2.2.2.2.2.2.2;oV (v.1.type0,v.1.a,())>>=λx1=>sB x1>>=λx2=>cM (x2.1,v.2)>>=λx3=>let c:=x3.2.2.2.2.2.2.2.2.2.2.2.2.2.2.2.2.2.2;if c.1.length=b.1.length then if c.2.2.1.length=b.2.2.1.length then if c.2.2.2.1.length=b.2.2.2.1.length then some (x3)else none else none else none
def nY:=kO cJ (kP kI (kP kJ k0))
def Kj:Xc vw:=mX prog 12 nY.1 FI [] [] []
theorem ml:aM prog 77 ri fL:=fn0 Kj Tryz.func77 nY.2
def FJ:aN vw:={rcut:=aT}
def rj:Sig vw:={params:=[.bp 100000 0,lV],objs:=[(100000, .box none [.bp 100001 0,Dq5,Dq1,Dq1,Dq1,Dq1,Dq5,Dq4,Dq4,Dq8, .vh 100002, .vh 100003,Dq1,Dq1,Dq9]),(100001, .box none [Dq3,Dq4,Dq1, .vh 100004,Dq1, .vh 100005,Dq1,Dq6]),(100002,Oq2),(100003,Oq2),(100004,Oq7),(100005,Oq2)],rcut:=aT,rvars:=[],keep:=[100000,100001,100002,3011,100004,100005]}
noncomputable def fM(v:Tq2):Option (Tq1):=let a:=v.2.2.2.2.2.2.2.2.2.2.2.2.2.2.2.2.2.2.2;cM (aE.mk (aF.mk (0:Int) (0:Int) (ZZ #[]) false false) (0:Int) true (ZZ #[]) (aF.mk (0:Int) (0:Int) (ZZ #[]) false false),v.2)>>=λx1=>let b:=x1.2.2.2.2.2.2.2.2.2.2.2.2.2.2.2.2.2.2;if b.1.length=a.1.length then if b.2.2.1.length=a.2.2.1.length then if b.2.2.2.1.length=a.2.2.2.1.length then some (x1)else none else none else none
def nZ:=kO cJ k0
def Kk:Xc vw:=mX prog 7 nZ.1 FJ [] [] []
theorem mm:aM prog 78 rj fM:=fn0 Kk Tryz.func78 nZ.2
def FK:aN vw:={rcut:=aT}
def rk:Sig vw:={params:=[.bp 100000 0,lV],objs:=[(100000, .box none [.bp 100001 0,Dq5,Dq1,Dq1,Dq1,Dq1,Dq5,Dq4,Dq4,Dq8, .vh 100002, .vh 100003,Dq1,Dq1,Dq9]),(100001, .box none [Dq3,Dq4,Dq1, .vh 100004,Dq1, .vh 100005,Dq1,Dq6]),(100002,Oq2),(100003,Oq2),(100004,Oq7),(100005,Oq2)],rcut:=aT,rvars:=[],keep:=[100000,100001,100002,3011,100004,100005]}
noncomputable def fN(v:Tq2):Option (Tq1):=let b:=v.2.2.2.2.2.2.2.2.2.2.2.2.2.2.2.2.2.2.2;if 0<=v.1.a/\v.1.a<(↑b.1.length:Int)then b.1[v.1.a.toNat]?>>=λx1=>cM (x1,v.2)>>=λx2=>let c:=x2.2.2.2.2.2.2.2.2.2.2.2.2.2.2.2.2.2.2;if c.1.length=b.1.length then if c.2.2.1.length=b.2.2.1.length then if c.2.2.2.1.length=b.2.2.2.1.length then some (x2)else none else none else none else none
def n4:=kO cJ k0
def Kl:Xc vw:=mX prog 14 n4.1 FK [] [] []
theorem mn:aM prog 79 rk fN:=fn0 Kl Tryz.func79 n4.2
def vM:Cut SN:=⟨[(0, .bp 100000 0),(5, .bp 5 0),(39,Dq4)],[(100000, .box none [.bp 100001 0,Dq5,Dq1,Dq1,Dq1,Dq1,Dq5,Dq4,Dq4,Dq8, .vh 100002, .vh 100003,Dq1,Dq1,Dq9]),(5, .st .myValueT),(100001, .box none [Dq3,Dq4,Dq1, .vh 100004,Dq1, .vh 100005,Dq1,Dq6]),(100002,Oq2),(100003,Oq2),(100004,Oq7),(100005,Oq2)]⟩
def qn:Cut SN:=⟨[(0, .bp 100000 0)],[(100000, .box none [.bp 100001 0,Dq5,Dq1,Dq1,Dq1,Dq1,Dq5,Dq4,Dq4,Dq8, .vh 100002, .vh 100003,Dq1,Dq1,Dq9]),(100001, .box none [Dq3,Dq4,Dq1, .vh 100004,Dq1, .vh 3015,Dq1,Dq6]),(100002,Oq2),(100003,Oq2),(100004,Oq7),(3015,Oq2)]⟩
def Bw:aN vw:={rcut:=qn}
def xl:Sig vw:={params:=[.bp 100000 0,Dq1,S_],objs:=[(100000, .box none [.bp 100001 0,Dq5,Dq1,Dq1,Dq1,Dq1,Dq5,Dq4,Dq4,Dq8, .vh 100002, .vh 100003,Dq1,Dq1,Dq9]),(100001, .box none [Dq3,Dq4,Dq1, .vh 100004,Dq1, .vh 100005,Dq1,Dq6]),(100002,Oq2),(100003,Oq2),(100004,Oq7),(100005,Oq2)],rcut:=qn,rvars:=[],keep:=[100000,100001,100002,100003,100004,3015]}
noncomputable def jw(v:Int×aE×ByteArray×Int×Int×Int×Int×ByteArray×Bool×Bool×(List aQ)×Int×Int×(Option aE)×(List aC)×Bool×Int×Int×Int×(Option bX)×(List aE)×(List aE)×(List Int)×(List aE)×Unit):Option (Tq1):=let c:=v.2.2.2.2.2;let a:=c.2.2.2.2.2.2;let b:=a.2.2.2.2.2.2;let d:=b.2.2.2;let G1:=(v.2.2.1,v.2.2.2.1,v.2.2.2.2.1,c.1,c.2.1,c.2.2.1,c.2.2.2.1,c.2.2.2.2.1,c.2.2.2.2.2.1,a.1,a.2.1,a.2.2.1,v.2.1,a.2.2.2.1,a.2.2.2.2.1,a.2.2.2.2.2.1,b.1,b.2.1,b.2.2.1,d.1.set v.1.toNat v.2.1,d.2);if 0<=v.1/\v.1<(↑d.1.length:Int)then d.1[v.1.toNat]?>>=λx1=>(if(a.1==1)=true then if(v.1==b.1)=true then some ((decide ((↑d.2.2.2.1.length:Int)<100),G1))else some (false,G1)else some (false,G1))>>=λx2=>let g:=x2.2.2.2.2;let j:=g.2.2;let e:=j.2.2.2;let h:=e.2.2.2;let f:=h.2.2.2.2;let i:=f.2.2.2.2;if x2.1=true then if i.2.2.2.1.length+[h.2.1].length<=4294967296 then some ((x2.2.1,x2.2.2.1,x2.2.2.2.1,g.1,g.2.1,j.1,j.2.1,j.2.2.1,e.1,e.2.1,e.2.2.1,h.1,h.2.2.1,h.2.2.2.1,f.1,f.2.1,f.2.2.1,f.2.2.2.1,i.1,i.2.1,i.2.2.1,i.2.2.2.1++[h.2.1],()))else none else some (x2.2.1,x2.2.2.1,x2.2.2.2.1,g.1,g.2.1,j.1,j.2.1,j.2.2.1,e.1,e.2.1,e.2.2.1,h.1,h.2.2)else none
def Gk:Xc vw:=mX prog 56 c0 Bw [] [(2,vM)] []
theorem sC:aM prog 123 xl jw:=fn0 Gk Tryz.func123 bT
def qo:Cut SN:=⟨[(0, .bp 100000 0),(2, .bp 2 0)],[(100000, .box none [.bp 100001 0,Dq5,Dq1,Dq1,Dq1,Dq1,Dq5,Dq4,Dq4,Dq8, .vh 100002, .vh 3011,Dq1,Dq1,Dq9]),(100001, .box none [Dq3,Dq4,Dq1, .vh 100004,Dq1, .vh 100005,Dq1,Dq6]),(100002,Oq2),(3011,Oq2),(100004,Oq7),(100005,Oq2),(2, .st .myValueT)]⟩
def Bx:aN vw:={rcut:=qo}
def w7:Nat->Bool:=λk=>match k with|5000027=>true|_=>false
def xm:Sig vw:={params:=[.bp 100000 0],objs:=[(100000, .box none [.bp 100001 0,Dq5,Dq1,Dq1,Dq1,Dq1,Dq5,Dq4,Dq4,Dq8, .vh 100002, .vh 100003,Dq1,Dq1,Dq9]),(100001, .box none [Dq3,Dq4,Dq1, .vh 100004,Dq1, .vh 100005,Dq1,Dq6]),(100002,Oq2),(100003,Oq2),(100004,Oq7),(100005,Oq2)],rcut:=qo,rvars:=[.cell 2 31],keep:=[100000,100001,100002,3011,100004,100005]}
abbrev Wt:=ByteArray×Int×Int×Int×Int×ByteArray×Bool×Bool×(List aQ)×Int×Int×(Option aE)×(List aC)×Bool×Int×Int×Int×(Option bX)×(List aE)×(List aE)×(List Int)×(List aE)×aE×Unit
noncomputable def cq(v:Tq1):Option (Wt):=let d:=v.2.2.2;let c:=d.2.2.2.2;let e:=c.2.2.2;let a:=e.2.2.2.2;let b:=a.2.2.2.2.2;let G1:=(i64.wrap ((↑b.1.length:Int) -1));if 0<=i64.wrap ((↑b.1.length:Int) -1)/\i64.wrap ((↑b.1.length:Int) -1)<(↑b.1.length:Int)then b.1[G1.toNat]?>>=λx1=>if 0<=i64.wrap ((↑b.1.length:Int) -1)then if i64.wrap ((↑b.1.length:Int) -1)<=(↑b.1.length:Int)then some ((v.1,v.2.1,v.2.2.1,d.1,d.2.1,d.2.2.1,d.2.2.2.1,c.1,c.2.1,c.2.2.1,e.1,e.2.1,e.2.2.1,e.2.2.2.1,a.1,a.2.1,a.2.2.1,a.2.2.2.1,a.2.2.2.2.1,abb G1.toNat b.1,b.2.1,b.2.2.1,x1,()))else none else none else none
def Gl:Xc vw:={P:=prog,n:=31,call:=c0,pre:=w7,sh:=Bx}
theorem b_:aM prog 124 xm cq:=fn0 Gl Tryz.func124 bT
def ka:Cut SN:=⟨[(0, .bp 100000 0)],[(100000, .box none [.bp 100001 0,Dq5,Dq1,Dq1,Dq1,Dq1,Dq5,Dq4,Dq4,Dq8, .vh 100002, .vh 3011,Dq1,Dq1,Dq9]),(100001, .box none [Dq3,Dq4,Dq1, .vh 100004,Dq1, .vh 3015,Dq1,Dq6]),(100002,Oq2),(3011,Oq2),(100004,Oq7),(3015,Oq2)]⟩
def FL:aN vw:={rcut:=ka}
def rl:Sig vw:={params:=[.bp 100000 0,lV],objs:=[(100000, .box none [.bp 100001 0,Dq5,Dq1,Dq1,Dq1,Dq1,Dq5,Dq4,Dq4,Dq8, .vh 100002, .vh 100003,Dq1,Dq1,Dq9]),(100001, .box none [Dq3,Dq4,Dq1, .vh 100004,Dq1, .vh 100005,Dq1,Dq6]),(100002,Oq2),(100003,Oq2),(100004,Oq7),(100005,Oq2)],rcut:=ka,rvars:=[],keep:=[100000,100001,100002,3011,100004,3015]}
noncomputable def fO(v:Tq2):Option (Tq1):=let b:=v.2.2.2.2.2.2.2.2.2.2.2.2.2.2.2.2.2.2.2;cq v.2>>=λx1=>let f:=x1.2.2.2;let d:=f.2.2.2.2;let g:=d.2.2.2;let c:=g.2.2.2.2;let e:=c.2.2.2.2;if e.1.length=b.1.length then if e.2.2.1.length=b.2.2.1.length then if e.2.2.2.1.length=b.2.2.2.1.length then jw (v.1.a,e.2.2.2.2.1,x1.1,x1.2.1,x1.2.2.1,f.1,f.2.1,f.2.2.1,f.2.2.2.1,d.1,d.2.1,d.2.2.1,g.1,g.2.1,g.2.2.1,g.2.2.2.1,c.1,c.2.1,c.2.2.1,c.2.2.2.1,e.1,e.2.1,e.2.2.1,e.2.2.2.1,())>>=λx2=>let h:=x2.2.2.2.2.2.2.2.2.2.2.2.2.2.2.2.2.2.2;if h.1.length=e.1.length then if h.2.1.length=e.2.1.length then if h.2.2.1.length=e.2.2.1.length then some (x2)else none else none else none else none else none else none
def n5:=kO sC (kO b_ k0)
def Km:Xc vw:=mX prog 10 n5.1 FL [] [] []
theorem mo:aM prog 80 rl fO:=fn0 Km Tryz.func80 n5.2
def FM:aN vw:={rcut:=aT}
def rm:Sig vw:={params:=[.bp 100000 0,lV],objs:=[(100000, .box none [.bp 100001 0,Dq5,Dq1,Dq1,Dq1,Dq1,Dq5,Dq4,Dq4,Dq8, .vh 100002, .vh 100003,Dq1,Dq1,Dq9]),(100001, .box none [Dq3,Dq4,Dq1, .vh 100004,Dq1, .vh 100005,Dq1,Dq6]),(100002,Oq2),(100003,Oq2),(100004,Oq7),(100005,Oq2)],rcut:=aT,rvars:=[],keep:=[100000,100001,100002,3011,100004,100005]}
noncomputable def fP(v:Tq2):Option (Tq1):=let a:=v.2.2.2.2.2.2.2.2.2.2.2.2.2.2.2.2.2.2.2;cq v.2>>=λx1=>let c:=x1.2.2.2.2.2.2;let b:=c.2.2.2.2.2.2;let d:=b.2.2.2.2.2.2;if d.1.length=a.1.length then if d.2.2.1.length=a.2.2.1.length then if d.2.2.2.1.length=a.2.2.2.1.length then some ((x1.1,x1.2.1,x1.2.2.1,x1.2.2.2.1,x1.2.2.2.2.1,x1.2.2.2.2.2.1,c.1,c.2.1,c.2.2.1,c.2.2.2.1,c.2.2.2.2.1,c.2.2.2.2.2.1,b.1,b.2.1,b.2.2.1,b.2.2.2.1,b.2.2.2.2.1,b.2.2.2.2.2.1,d.1,d.2.1,d.2.2.1,d.2.2.2.1,()))else none else none else none
def n6:=kO b_ k0
def Kn:Xc vw:=mX prog 6 n6.1 FM [] [] []
theorem mq:aM prog 81 rm fP:=fn0 Kn Tryz.func81 n6.2
def U7:aN vw:={rcut:=m9}
def R9:Sig vw:=sg [m6] m9 [.tmp 2]
noncomputable def Er(v:bB×Unit):Option (Int×Unit):=if v.1.signed=true then if 0<=i64.wrap (v.1.bits-1)then some ((Bs.ishl i64 (-1:Int) (i64.wrap (v.1.bits-1)),()))else none else some (((0:Int),()))
def ZI:Xc vw:=mX prog 9 c0 U7 [] [] []
theorem yT:aM prog 171 R9 Er:=fn0 ZI Tryz.func171 bT
def UW:aN vw:={rcut:=cE}
def LL:Sig vw:=sg [m6,Dq1] cE [.tmp 4]
noncomputable def mU(v:bB×Int×Unit):Option (Bool×Unit):=(Er (v.1,())>>=λx1=>if decide (v.2.1>=x1.1)=true then AU (v.1,())>>=λx2=>some ((decide (v.2.1<=x2.1),()))else some ((false,())))>>=λx1=>some (x1)
def C3:=kP yT (kP sG k0)
def ZB:Xc vw:=mX prog 15 C3.1 UW [] [(1,cE)] []
theorem nv:aM prog 157 LL mU:=fn0 ZB Tryz.func157 C3.2
def PG:Cut SN:=⟨[(31,Dq4)],[]⟩
def z6:Cut SN:=⟨[(8,Dq1)],[]⟩
def UU:aN vw:={rcut:=z6}
def RZ:Sig vw:=sg [Dq1,m6,Dq1,Dq1] z6 [.tmp 8]
abbrev Mf:=Int×bB×Int×Int×Unit
noncomputable def En(v:Mf):Option (Int×Unit):=(oY (v.2.1,())>>=λx1=>if(x1.1 !=0)=true then some ((true,()))else if decide (v.1<5)=true then some ((true,()))else if decide (v.1>17)=true then some ((true,()))else mU (v.2.1,v.2.2.1,())>>=λx2=>if(!x2.1)=true then some ((true,()))else mU (v.2.1,v.2.2.2)>>=λx3=>some ((!x3.1,())))>>=λx1=>if x1.1=true then some (((1:Int),()))else some (((0:Int),()))
def C2:=kP jx (kP nv k0)
def Zz:Xc vw:=mX prog 32 C2.1 UU [] [(1,PG)] []
theorem yQ:aM prog 155 RZ En:=fn0 Zz Tryz.func155 C2.2
end Go.Proofs.YtcghbgmmgcljkaaGreatDoor
end
section
namespace Go.Proofs.YtcghbgmmgcljkaaGreatDoor
open Go.Awp Go.Tx
open IntKind (i64)
open Go.Proofs.Tryz (prog)
set_option maxHeartbeats 4000000
set_option maxRecDepth 100000
def PS:Cut SN:=⟨[(0, .bp 0 0)],[(0, .bar 18 (.st .operationT))]⟩
def U6:aN vw:={rcut:=PS}
def LN:Sig vw:=sg [] PS [.cell 0 207]
noncomputable def i9(v:Unit):Option ((List bQ)×Unit):=some (([bQ.mk none none,bQ.mk none none,bQ.mk none none,bQ.mk none none,bQ.mk none none,bQ.mk (some (178:Nat)) none,bQ.mk (some (179:Nat)) none,bQ.mk (some (180:Nat)) none,bQ.mk (some (181:Nat)) none,bQ.mk (some (182:Nat)) none,bQ.mk (some (178:Nat)) (some (169:Nat)),bQ.mk (some (179:Nat)) (some (169:Nat)),bQ.mk (some (180:Nat)) (some (169:Nat)),bQ.mk (some (178:Nat)) (some (183:Nat)),bQ.mk (some (179:Nat)) (some (183:Nat)),bQ.mk (some (184:Nat)) (some (169:Nat)),bQ.mk (some (185:Nat)) (some (169:Nat)),bQ.mk (some (186:Nat)) (some (169:Nat))],()))
def ZH:Xc vw:=mX prog 26 c0 U6 [] [] []
theorem IA:aM prog 170 LN i9:=fn0 ZH Tryz.func170 bT
def Va:aN vw:={rcut:=bF}
def LO:Sig vw:=sg [Dq1,Dq1] bF [.tmp 4]
noncomputable def AX(v:Int×Int×Unit):Option (Int×Unit):=some ((i64.wrap (v.1+v.2.1),()))
def ZL:Xc vw:=mX prog 8 c0 Va [] [] []
theorem IF:aM prog 178 LO AX:=fn0 ZL Tryz.func178 bT
def Vb:aN vw:={rcut:=bF}
def LP:Sig vw:=sg [Dq1,Dq1] bF [.tmp 4]
noncomputable def AY(v:Int×Int×Unit):Option (Int×Unit):=some ((i64.wrap (v.1-v.2.1),()))
def ZM:Xc vw:=mX prog 8 c0 Vb [] [] []
theorem IG:aM prog 179 LP AY:=fn0 ZM Tryz.func179 bT
def Vc:aN vw:={rcut:=bF}
def LQ:Sig vw:=sg [Dq1,Dq1] bF [.tmp 4]
noncomputable def Es(v:Int×Int×Unit):Option (Int×Unit):=some ((i64.wrap (v.1 *v.2.1),()))
def ZN:Xc vw:=mX prog 8 c0 Vc [] [] []
theorem IH:aM prog 180 LQ Es:=fn0 ZN Tryz.func180 bT
def Vd:aN vw:={rcut:=bF}
def LR:Sig vw:=sg [Dq1,Dq1] bF [.tmp 4]
noncomputable def II(v:Int×Int×Unit):Option (Int×Unit):=if v.2.1=0 then none else some ((i64.wrap (v.1.tdiv v.2.1),()))
def ZO:Xc vw:=mX prog 8 c0 Vd [] [] []
theorem IJ:aM prog 181 LR II:=fn0 ZO Tryz.func181 bT
def Ve:aN vw:={rcut:=bF}
def LS:Sig vw:=sg [Dq1,Dq1] bF [.tmp 4]
noncomputable def Et(v:Int×Int×Unit):Option (Int×Unit):=if v.2.1=0 then none else some ((v.1.tmod v.2.1,()))
def ZP:Xc vw:=mX prog 8 c0 Ve [] [] []
theorem IK:aM prog 182 LS Et:=fn0 ZP Tryz.func182 bT
def Vf:aN vw:={rcut:=bF}
def LT:Sig vw:=sg [m6,Dq1] bF [.tmp 4]
noncomputable def Eu(v:bB×Int×Unit):Option (Int×Unit):=Er (v.1,())>>=λx1=>AU (v.1,())>>=λx2=>some ((max x1.1 (min x2.1 v.2.1),()))
def C9:=kP yT (kP sG k0)
def ZQ:Xc vw:=mX prog 12 C9.1 Vf [] [] []
theorem IL:aM prog 183 LT Eu:=fn0 ZQ Tryz.func183 C9.2
def Vg:aN vw:={rcut:=bF}
def LU:Sig vw:=sg [Dq1,Dq1] bF [.tmp 4]
noncomputable def IM(v:Int×Int×Unit):Option (Int×Unit):=some ((Bs.iand i64 v.1 v.2.1,()))
def ZR:Xc vw:=mX prog 8 c0 Vg [] [] []
theorem IP:aM prog 184 LU IM:=fn0 ZR Tryz.func184 bT
def Vh:aN vw:={rcut:=bF}
def LV:Sig vw:=sg [Dq1,Dq1] bF [.tmp 4]
noncomputable def IQ(v:Int×Int×Unit):Option (Int×Unit):=some ((Bs.ior i64 v.1 v.2.1,()))
def ZS:Xc vw:=mX prog 8 c0 Vh [] [] []
theorem IR:aM prog 185 LV IQ:=fn0 ZS Tryz.func185 bT
def Vi:aN vw:={rcut:=bF}
def LW:Sig vw:=sg [Dq1,Dq1] bF [.tmp 4]
noncomputable def IU(v:Int×Int×Unit):Option (Int×Unit):=some ((Bs.ixor i64 v.1 v.2.1,()))
def ZT:Xc vw:=mX prog 8 c0 Vi [] [] []
theorem IV:aM prog 186 LW IU:=fn0 ZT Tryz.func186 bT
def PH:Cut SN:=⟨[(0,Dq1),(2,Dq1),(3,Dq1),(5, .bp 5 0),(17,Dq4)],[(5, .st .myIntT)]⟩
def PI:Cut SN:=⟨[(0,Dq1),(2,Dq1),(3,Dq1),(5, .bp 5 0),(23,Dq4)],[(5, .st .myIntT)]⟩
def PJ:Cut SN:=⟨[(0,Dq1),(2,Dq1),(3,Dq1),(5, .bp 5 0),(10, .bp 10 0),(11,Dq1)],[(5, .st .myIntT),(10, .st .operationT)]⟩
def nS:Cut SN:=⟨[(8,Dq1),(9,Dq1)],[]⟩
def PK:Cut SN:=⟨[(5, .bp 5 0),(11,Dq1),(56,Dq4)],[(5, .st .myIntT)]⟩
def UV:aN vw:={rcut:=nS}
def R0:Sig vw:=sg [Dq1,m6,Dq1,Dq1] nS [.tmp 8, .tmp 9]
noncomputable def Eo(v:Mf):Option (Int×Int×Unit):=(if(v.2.2.2.1==0)=true then some ((v.1,v.2.2.1,v.2.2.2.1,v.1==8,v.2.1,()))else some ((v.1,v.2.2.1,v.2.2.2.1,false,v.2.1,())))>>=λx1=>let a:=x1.2.2;if a.2.1=true then some (((0:Int),(2:Int),()))else(if(a.1==0)=true then some (x1.1,x1.2.1,a.1,x1.1==9,a.2.2)else some (x1.1,x1.2.1,a.1,false,a.2.2))>>=λx2=>let b:=x2.2;let c:=b.2.1;let d:=x2.1;let G1:=(b.1,c,());if b.2.2.1=true then some ((b.1,(2:Int),()))else i9 ()>>=λx3=>if 0<=d/\d<(↑(18:Nat):Int)then x3.1[d.toNat]?>>=λx4=>let G2:=(b.2.2.2.1,x4,());((x4.whole:Option (Nat))>>=λx5=>if x5=(157:Nat)then none else if x5=(169:Nat)then none else if x5=(170:Nat)then none else if x5=(178:Nat)then AX G1>>=λx6=>some (d,b.1,c,x6.1,G2)else if x5=(179:Nat)then AY G1>>=λx6=>some (d,b.1,c,x6.1,G2)else if x5=(180:Nat)then Es G1>>=λx6=>some (d,b.1,c,x6.1,G2)else if x5=(181:Nat)then II G1>>=λx6=>some (d,b.1,c,x6.1,G2)else if x5=(182:Nat)then Et G1>>=λx6=>some (d,b.1,c,x6.1,G2)else if x5=(183:Nat)then none else if x5=(184:Nat)then IM G1>>=λx6=>some (d,b.1,c,x6.1,G2)else if x5=(185:Nat)then IQ G1>>=λx6=>some (d,b.1,c,x6.1,G2)else if x5=(186:Nat)then IU G1>>=λx6=>some (d,b.1,c,x6.1,G2)else none)>>=λx5=>let e:=x5.2.2.2;let G4:=(e.2.1,());let G3:=(e.2.1,e.1,());if e.2.2.1.into.isSome=true then((e.2.2.1.into:Option (Nat))>>=λx6=>if x6=(157:Nat)then mU G3>>=λx7=>none else if x6=(169:Nat)then wI G3>>=λx7=>some ((x7.1,(0:Int),()))else if x6=(170:Nat)then none else if x6=(178:Nat)then none else if x6=(179:Nat)then none else if x6=(180:Nat)then none else if x6=(181:Nat)then none else if x6=(182:Nat)then none else if x6=(183:Nat)then Eu G3>>=λx7=>some ((x7.1,(0:Int),()))else if x6=(184:Nat)then none else if x6=(185:Nat)then none else if x6=(186:Nat)then none else none)>>=λx6=>some (x6)else(mU G3>>=λx6=>if(!x6.1)=true then some (e.1,true,G4)else if(x5.1==9)=true then if x5.2.2.1=0 then none else mU (e.2.1,i64.wrap (x5.2.1.tdiv x5.2.2.1),())>>=λx7=>some (e.1,!x7.1,G4)else some (e.1,false,G4))>>=λx6=>if x6.2.1=true then wI (x6.2.2.1,x6.1,())>>=λx7=>some ((x7.1,(1:Int),()))else some ((x6.1,(0:Int),()))else none
def v6:dh vw:=λA fid args S k=>if fid=157 then ct prog LL mU A args S k else if fid=169 then ct prog LM wI A args S k else if fid=170 then ct prog LN i9 A args S k else if fid=178 then ct prog LO AX A args S k else if fid=179 then ct prog LP AY A args S k else if fid=180 then ct prog LQ Es A args S k else if fid=181 then ct prog LR II A args S k else if fid=182 then ct prog LS Et A args S k else if fid=183 then ct prog LT Eu A args S k else if fid=184 then ct prog LU IM A args S k else if fid=185 then ct prog LV IQ A args S k else if fid=186 then ct prog LW IU A args S k else none
def ZA:Xc vw:=mX prog 61 v6 UV [] [(1,PH),(3,PI),(6,PJ),(8,nS),(9,PK)] []
theorem Af:bG prog v6:=λA fid args S dst k r h=>by
 unfold v6 at h
 rcases bI h with⟨e,h⟩|⟨e,h⟩
 ·subst e;exact aR (nv) rfl rfl h
 ·
  rcases bI h with⟨e,h⟩|⟨e,h⟩
  ·subst e;exact aR (yS) rfl rfl h
  ·
   rcases bI h with⟨e,h⟩|⟨e,h⟩
   ·subst e;exact aR (IA) rfl rfl h
   ·
    rcases bI h with⟨e,h⟩|⟨e,h⟩
    ·subst e;exact aR (IF) rfl rfl h
    ·
     rcases bI h with⟨e,h⟩|⟨e,h⟩
     ·subst e;exact aR (IG) rfl rfl h
     ·
      rcases bI h with⟨e,h⟩|⟨e,h⟩
      ·subst e;exact aR (IH) rfl rfl h
      ·
       rcases bI h with⟨e,h⟩|⟨e,h⟩
       ·subst e;exact aR (IJ) rfl rfl h
       ·
        rcases bI h with⟨e,h⟩|⟨e,h⟩
        ·subst e;exact aR (IK) rfl rfl h
        ·
         rcases bI h with⟨e,h⟩|⟨e,h⟩
         ·subst e;exact aR (IL) rfl rfl h
         ·
          rcases bI h with⟨e,h⟩|⟨e,h⟩
          ·subst e;exact aR (IP) rfl rfl h
          ·
           rcases bI h with⟨e,h⟩|⟨e,h⟩
           ·subst e;exact aR (IR) rfl rfl h
           ·
            rcases bI h with⟨e,h⟩|⟨e,h⟩
            ·subst e;exact aR (IV) rfl rfl h
            ·
             cases h
theorem yR:aM prog 156 R0 Eo:=fn0 ZA Tryz.func156 Af
def Pp:Cut SN:=⟨[(8,Dq1),(9,Dq1),(10,Dq1)],[]⟩
def Uv:aN vw:={rcut:=Pp}
def Rz:Sig vw:=sg [Dq1,m6,Dq1,Dq1] Pp [.tmp 8, .tmp 9, .tmp 10]
noncomputable def HS(v:Mf):Option (Cd):=En v>>=λx1=>if(x1.1 !=0)=true then some (((0:Int),(0:Int),x1))else Eo v>>=λx2=>if(x2.2.1 !=0)=true then some (((0:Int),x2.2.1,(0:Int),()))else some ((x2.1,(0:Int),(0:Int),()))
def CP:=kP yQ (kP yR k0)
def Ze:Xc vw:=mX prog 34 CP.1 Uv [] [] []
theorem HT:aM prog 125 Rz HS:=fn0 Ze Tryz.func125 CP.2
def Ux:aN vw:={rcut:=nS}
def RB:Sig vw:=sg [Dq1,m6,Dq1,Dq1] nS [.tmp 8, .tmp 9]
noncomputable def HU(v:Mf):Option (Int×Int×Unit):=En v>>=λx1=>if(x1.1 !=0)=true then some (((0:Int),x1))else Eo v>>=λx2=>some ((x2.1,(0:Int),()))
def CQ:=kP yQ (kP yR k0)
def Zg:Xc vw:=mX prog 30 CQ.1 Ux [] [] []
theorem HV:aM prog 127 RB HU:=fn0 Zg Tryz.func127 CQ.2
def vN:Cut SN:=⟨[(0, .bp 100000 0),(1,Dq1)],[(100000, .box none [.bp 100001 0,Dq5,Dq1,Dq1,Dq1,Dq1,Dq5,Dq4,Dq4,Dq8, .vh 100002, .vh 100003,Dq1,Dq1,Dq9]),(100001, .box none [Dq3,Dq4,Dq1, .vh 100004,Dq1, .vh 100005,Dq1,Dq6]),(100002,Oq2),(100003,Oq2),(100004,Oq7),(100005,Oq2)]⟩
def vO:Cut SN:=⟨[(0, .bp 100000 0),(1,Dq1),(2,Dq1),(3,Dq1),(18,Dq4)],[(100000, .box none [.bp 100001 0,Dq5,Dq1,Dq1,Dq1,Dq1,Dq5,Dq4,Dq4,Dq8, .vh 100002, .vh 100003,Dq1,Dq1,Dq9]),(100001, .box none [Dq3,Dq4,Dq1, .vh 100004,Dq1, .vh 100005,Dq1,Dq6]),(100002,Oq2),(100003,Oq2),(100004,Oq7),(100005,Oq2)]⟩
def Bz:aN vw:={rcut:=aT}
def xn:Sig vw:={params:=[.bp 100000 0,Dq1,Dq1,Dq1],objs:=[(100000, .box none [.bp 100001 0,Dq5,Dq1,Dq1,Dq1,Dq1,Dq5,Dq4,Dq4,Dq8, .vh 100002, .vh 100003,Dq1,Dq1,Dq9]),(100001, .box none [Dq3,Dq4,Dq1, .vh 100004,Dq1, .vh 100005,Dq1,Dq6]),(100002,Oq2),(100003,Oq2),(100004,Oq7),(100005,Oq2)],rcut:=aT,rvars:=[],keep:=[100000,100001,100002,3011,100004,100005]}
noncomputable def eU(v:Int×Int×Int×ByteArray×Int×Int×Int×Int×ByteArray×Bool×Bool×(List aQ)×Int×Int×(Option aE)×(List aC)×Bool×Int×Int×Int×(Option bX)×(List aE)×(List aE)×(List Int)×(List aE)×Unit):Option (Tq1):=(if(v.2.2.1 !=0)=true then some (v.1,v.2.1,v.2.2.1,v.2.2.2.2.2.2.2.2.2.2.2.2.2.2.2.2.1,v.2.2.2)else some (v.1,v.2.1,v.2.2.1,false,v.2.2.2))>>=λx1=>let b:=x1.2.2.2.2;let d:=b.2.2.2.2;let a:=d.2.2.2.2.2;let c:=a.2.2.2.2.2.2;let e:=c.2.2.2;if x1.2.2.2.1=true then d9 ((1:Int),x1.2.2.1,a.2.2.2.1,a.2.2.2.2.1,a.2.2.2.2.2.1,c.1,c.2.1,c.2.2.1,e.2.2)>>=λx2=>let f:=x2.2.2.2.2;if f.2.2.1.length=e.2.2.1.length then if f.2.2.2.1.length=e.2.2.2.1.length then some (b.1,b.2.1,b.2.2.1,b.2.2.2.1,d.1,d.2.1,d.2.2.1,d.2.2.2.1,d.2.2.2.2.1,a.1,a.2.1,a.2.2.1,x2.1,x2.2.1,x2.2.2.1,x2.2.2.2.1,f.1,f.2.1,e.1,e.2.1,f.2.2)else none else none else(if(x1.2.2.1 !=0)=true then some (x1.2.1,b)else some (x1.1,b))>>=λx2=>let g:=x2.2.2.2.2.2.2.2.2.2.2.2.2.2.2.2.2.2.2.2;sB (x2.1,())>>=λx3=>cM (x3.1,x2.2)>>=λx4=>let h:=x4.2.2.2.2.2.2.2.2.2.2.2.2.2.2.2.2.2.2;if h.1.length=g.1.length then if h.2.2.1.length=g.2.2.1.length then if h.2.2.2.1.length=g.2.2.2.1.length then some (x4)else none else none else none
def lY:=kO gr (kO cJ (kP kI k0))
def Gm:Xc vw:=mX prog 32 lY.1 Bz [(4,vN,[.norm])] [(0,vO)] []
theorem fy:aM prog 128 xn eU:=fn0 Gm Tryz.func128 lY.2
def FN:aN vw:={rcut:=aT}
def rn:Sig vw:={params:=[.bp 100000 0,lV],objs:=[(100000, .box none [.bp 100001 0,Dq5,Dq1,Dq1,Dq1,Dq1,Dq5,Dq4,Dq4,Dq8, .vh 100002, .vh 100003,Dq1,Dq1,Dq9]),(100001, .box none [Dq3,Dq4,Dq1, .vh 100004,Dq1, .vh 100005,Dq1,Dq6]),(100002,Oq2),(100003,Oq2),(100004,Oq7),(100005,Oq2)],rcut:=aT,rvars:=[],keep:=[100000,100001,100002,3011,100004,100005]}
noncomputable def fQ(v:Tq2):Option (Tq1):=let b:=v.2.2.2.2.2.2.2.2.2.2.2.2.2.2.2.2.2.2.2;cq v.2>>=λx1=>let f:=x1.2.2.2;let d:=f.2.2.2.2;let h:=d.2.2.2;let c:=h.2.2.2.2;let e:=c.2.2.2.2;let g:=e.2.2;if e.1.length=b.1.length then if g.1.length=b.2.2.1.length then if g.2.1.length=b.2.2.2.1.length then oV (v.1.type0,g.2.2.1.n,())>>=λx2=>cq (x1.1,x1.2.1,x1.2.2.1,f.1,f.2.1,f.2.2.1,f.2.2.2.1,d.1,d.2.1,d.2.2.1,h.1,h.2.1,h.2.2.1,h.2.2.2.1,c.1,c.2.1,c.2.2.1,c.2.2.2.1,e.1,e.2.1,g.1,g.2.1,())>>=λx3=>let l:=x3.2.2.2;let j:=l.2.2.2.2;let o:=j.2.2.2;let i:=o.2.2.2.2;let k:=i.2.2.2.2;let m:=k.2.2;if k.1.length=e.1.length then if m.1.length=g.1.length then if m.2.1.length=g.2.1.length then oV (v.1.type0,m.2.2.1.n,())>>=λx4=>uj (v.1.type0,())>>=λx5=>HS (v.1.a,x5.1,x4.1,x2)>>=λx6=>uj (v.1.type0,())>>=λx7=>HU (v.1.a,x7.1,x4.1,x2)>>=λx8=>eU (x6.1,x8.1,x6.2.1,x3.1,x3.2.1,x3.2.2.1,l.1,l.2.1,l.2.2.1,l.2.2.2.1,j.1,j.2.1,j.2.2.1,o.1,o.2.1,o.2.2.1,o.2.2.2.1,i.1,i.2.1,i.2.2.1,i.2.2.2.1,k.1,k.2.1,m.1,m.2.1,())>>=λx9=>let p:=x9.2.2.2.2.2.2.2.2.2.2.2.2.2.2.2.2.2.2;if p.1.length=k.1.length then if p.2.2.1.length=m.1.length then if p.2.2.2.1.length=m.2.1.length then some (x9)else none else none else none else none else none else none else none else none else none
def n7:=kP kJ (kO b_ (kP HT (kP nu (kP HV (kO fy k0)))))
def Ko:Xc vw:=mX prog 51 n7.1 FN [] [] []
theorem mr:aM prog 82 rn fQ:=fn0 Ko Tryz.func82 n7.2
def FO:aN vw:={rcut:=aT}
def rq:Sig vw:={params:=[.bp 100000 0,lV],objs:=[(100000, .box none [.bp 100001 0,Dq5,Dq1,Dq1,Dq1,Dq1,Dq5,Dq4,Dq4,Dq8, .vh 100002, .vh 100003,Dq1,Dq1,Dq9]),(100001, .box none [Dq3,Dq4,Dq1, .vh 100004,Dq1, .vh 100005,Dq1,Dq6]),(100002,Oq2),(100003,Oq2),(100004,Oq7),(100005,Oq2)],rcut:=aT,rvars:=[],keep:=[100000,100001,100002,3011,100004,100005]}
noncomputable def fR(v:Tq2):Option (Tq1):=let b:=v.2.2.2.2.2.2.2.2.2.2.2.2.2.2.2.2.2.2.2;cq v.2>>=λx1=>let f:=x1.2.2.2.2;let d:=f.2.2.2.2;let g:=d.2.2.2.2;let c:=g.2.2.2.2;let e:=c.2.2.2.2;let h:=e.2.2.1;if c.2.2.1.length=b.1.length then if e.1.length=b.2.2.1.length then if e.2.1.length=b.2.2.2.1.length then cq (x1.1,x1.2.1,x1.2.2.1,x1.2.2.2.1,f.1,f.2.1,f.2.2.1,f.2.2.2.1,d.1,d.2.1,d.2.2.1,d.2.2.2.1,g.1,g.2.1,g.2.2.1,g.2.2.2.1,c.1,c.2.1,c.2.2.1,c.2.2.2.1,e.1,e.2.1,())>>=λx2=>let l:=x2.2.2.2.2;let j:=l.2.2.2.2;let m:=j.2.2.2.2;let i:=m.2.2.2.2;let k:=i.2.2.2.2;let o:=k.2.2.1;if i.2.2.1.length=c.2.2.1.length then if k.1.length=e.1.length then if k.2.1.length=e.2.1.length then if 0<=i64.wrap (v.1.a-18)/\i64.wrap (v.1.a-18)<(↑(6:Nat):Int)then[o.n==h.n,o.n !=h.n,decide (o.n<h.n),decide (o.n<=h.n),decide (o.n>h.n),decide (o.n>=h.n)][(i64.wrap (v.1.a-18)).toNat]?>>=λx3=>AF (x3,())>>=λx4=>cM (x4.1,x2.1,x2.2.1,x2.2.2.1,x2.2.2.2.1,l.1,l.2.1,l.2.2.1,l.2.2.2.1,j.1,j.2.1,j.2.2.1,j.2.2.2.1,m.1,m.2.1,m.2.2.1,m.2.2.2.1,i.1,i.2.1,i.2.2.1,i.2.2.2.1,k.1,k.2.1,())>>=λx5=>let p:=x5.2.2.2.2.2.2.2.2.2.2.2.2.2.2.2.2.2.2;if p.1.length=i.2.2.1.length then if p.2.2.1.length=k.1.length then if p.2.2.2.1.length=k.2.1.length then some (x5)else none else none else none else none else none else none else none else none else none else none
def n8:=kO cJ (kO b_ (kP sD k0))
def Kp:Xc vw:=mX prog 38 n8.1 FO [] [] []
theorem mt:aM prog 83 rq fR:=fn0 Kp Tryz.func83 n8.2
def Pq:Cut SN:=⟨[(1,Dq1),(2, .bp 2 0),(15,Dq4)],[(2, .st .myIntT)]⟩
def Pr:Cut SN:=⟨[(4,Dq1),(5,Dq1),(6,Dq1)],[]⟩
def Uz:aN vw:={rcut:=Pr}
def RD:Sig vw:=sg [m6,Dq1] Pr [.tmp 4, .tmp 5, .tmp 6]
noncomputable def HW(v:bB×Int×Unit):Option (Cd):=(oY (v.1,())>>=λx1=>if(x1.1 !=0)=true then some ((v.2.1,true,v.1,()))else mU v>>=λx2=>some ((v.2.1,!x2.1,v.1,())))>>=λx1=>if x1.2.1=true then some (((0:Int),(0:Int),(1:Int),()))else mU (x1.2.2.1,i64.wrap ((0:Int) -x1.1),())>>=λx2=>if(!x2.1)=true then some (((0:Int),(1:Int),(0:Int),()))else some ((i64.wrap ((0:Int) -x1.1),(0:Int),(0:Int),()))
def CS:=kP jx (kP nv k0)
def Zi:Xc vw:=mX prog 23 CS.1 Uz [] [(1,Pq)] []
theorem HX:aM prog 130 RD HW:=fn0 Zi Tryz.func130 CS.2
def FP:aN vw:={rcut:=aT}
def ru:Sig vw:={params:=[.bp 100000 0,lV],objs:=[(100000, .box none [.bp 100001 0,Dq5,Dq1,Dq1,Dq1,Dq1,Dq5,Dq4,Dq4,Dq8, .vh 100002, .vh 100003,Dq1,Dq1,Dq9]),(100001, .box none [Dq3,Dq4,Dq1, .vh 100004,Dq1, .vh 100005,Dq1,Dq6]),(100002,Oq2),(100003,Oq2),(100004,Oq7),(100005,Oq2)],rcut:=aT,rvars:=[],keep:=[100000,100001,100002,3011,100004,100005]}
noncomputable def fS(v:Tq2):Option (Tq1):=let a:=v.2.2.2.2.2.2.2.2.2.2.2.2.2.2.2.2.2.2.2;cq v.2>>=λx1=>let e:=x1.2.2.2;let c:=e.2.2.2.2;let g:=c.2.2.2;let b:=g.2.2.2.2;let d:=b.2.2.2.2;let f:=d.2.2;if d.1.length=a.1.length then if f.1.length=a.2.2.1.length then if f.2.1.length=a.2.2.2.1.length then oV (v.1.type0,f.2.2.1.n,())>>=λx2=>uj (v.1.type0,())>>=λx3=>HW (x3.1,x2)>>=λx4=>oV (v.1.type0,i64.wrap ((0:Int) -x2.1),())>>=λx5=>eU (x4.1,x5.1,x4.2.1,x1.1,x1.2.1,x1.2.2.1,e.1,e.2.1,e.2.2.1,e.2.2.2.1,c.1,c.2.1,c.2.2.1,g.1,g.2.1,g.2.2.1,g.2.2.2.1,b.1,b.2.1,b.2.2.1,b.2.2.2.1,d.1,d.2.1,f.1,f.2.1,())>>=λx6=>let h:=x6.2.2.2.2.2.2.2.2.2.2.2.2.2.2.2.2.2.2;if h.1.length=d.1.length then if h.2.2.1.length=f.1.length then if h.2.2.2.1.length=f.2.1.length then some (x6)else none else none else none else none else none else none
def n9:=kP kJ (kO b_ (kP nu (kO fy (kP HX k0))))
def Kq:Xc vw:=mX prog 32 n9.1 FP [] [] []
theorem mu:aM prog 84 ru fS:=fn0 Kq Tryz.func84 n9.2
def FQ:aN vw:={rcut:=aT}
def rv:Sig vw:={params:=[.bp 100000 0,lV],objs:=[(100000, .box none [.bp 100001 0,Dq5,Dq1,Dq1,Dq1,Dq1,Dq5,Dq4,Dq4,Dq8, .vh 100002, .vh 100003,Dq1,Dq1,Dq9]),(100001, .box none [Dq3,Dq4,Dq1, .vh 100004,Dq1, .vh 100005,Dq1,Dq6]),(100002,Oq2),(100003,Oq2),(100004,Oq7),(100005,Oq2)],rcut:=aT,rvars:=[],keep:=[100000,100001,100002,3011,100004,100005]}
noncomputable def fT(v:Tq2):Option (Tq1):=let a:=v.2.2.2.2.2.2.2.2.2.2.2.2.2.2.2.2.2.2.2;cq v.2>>=λx1=>let e:=x1.2.2.2;let c:=e.2.2.2.2;let g:=c.2.2.2;let b:=g.2.2.2.2;let d:=b.2.2.2.2;let f:=d.2.2;if d.1.length=a.1.length then if f.1.length=a.2.2.1.length then if f.2.1.length=a.2.2.2.1.length then AF (f.2.2.1.n==0,())>>=λx2=>cM (x2.1,x1.1,x1.2.1,x1.2.2.1,e.1,e.2.1,e.2.2.1,e.2.2.2.1,c.1,c.2.1,c.2.2.1,g.1,g.2.1,g.2.2.1,g.2.2.2.1,b.1,b.2.1,b.2.2.1,b.2.2.2.1,d.1,d.2.1,f.1,f.2.1,())>>=λx3=>let h:=x3.2.2.2.2.2.2.2.2.2.2.2.2.2.2.2.2.2.2;if h.1.length=d.1.length then if h.2.2.1.length=f.1.length then if h.2.2.2.1.length=f.2.1.length then some (x3)else none else none else none else none else none else none
def n_:=kO cJ (kO b_ (kP sD k0))
def Kr:Xc vw:=mX prog 11 n_.1 FQ [] [] []
theorem mv:aM prog 85 rv fT:=fn0 Kr Tryz.func85 n_.2
def Ps:Cut SN:=⟨[(4,Dq4),(5,Dq1)],[]⟩
def UA:aN vw:={rcut:=Ps}
def RE:Sig vw:=sg [m6,Dq1] Ps [.tmp 4, .tmp 5]
noncomputable def HY(v:bB×Int×Unit):Option (Bool×Int×Unit):=oY (v.1,())>>=λx1=>if(x1.1 !=0)=true then some (false,x1)else mU v>>=λx2=>some ((x2.1,(0:Int),()))
def CT:=kP jx (kP nv k0)
def Zj:Xc vw:=mX prog 15 CT.1 UA [] [] []
theorem HZ:aM prog 131 RE HY:=fn0 Zj Tryz.func131 CT.2
def Ad:Cut SN:=⟨[(0, .bp 100000 0),(3, .bp 3 0),(4,Dq1),(5,Dq1)],[(100000, .box none [.bp 100001 0,Dq5,Dq1,Dq1,Dq1,Dq1,Dq5,Dq4,Dq4,Dq8, .vh 100002, .vh 3011,Dq1,Dq1,Dq9]),(3, .st .myCodeT),(100001, .box none [Dq3,Dq4,Dq1, .vh 100004,Dq1, .vh 100005,Dq1,Dq6]),(100002,Oq2),(3011,Oq2),(100004,Oq7),(100005,Oq2)]⟩
def FR:aN vw:={rcut:=aT}
def rx:Sig vw:={params:=[.bp 100000 0,lV],objs:=[(100000, .box none [.bp 100001 0,Dq5,Dq1,Dq1,Dq1,Dq1,Dq5,Dq4,Dq4,Dq8, .vh 100002, .vh 100003,Dq1,Dq1,Dq9]),(100001, .box none [Dq3,Dq4,Dq1, .vh 100004,Dq1, .vh 100005,Dq1,Dq6]),(100002,Oq2),(100003,Oq2),(100004,Oq7),(100005,Oq2)],rcut:=aT,rvars:=[],keep:=[100000,100001,100002,3011,100004,100005]}
noncomputable def fU(v:Tq2):Option (Tq1):=let a:=v.2.2.2.2.2.2.2.2.2.2.2.2.2.2.2.2.2.2.2;cq v.2>>=λx1=>let c:=x1.2.2.2.2.2.2;let f:=c.2.2.2;let b:=f.2.2.2.2;let d:=b.2.2.2.2.2;let e:=d.2.2;let G1:=(x1.1,x1.2.1,x1.2.2.1,x1.2.2.2.1,x1.2.2.2.2.1,x1.2.2.2.2.2.1,c.1,c.2.1,c.2.2.1,f.1,f.2.1,f.2.2.1,v.1,f.2.2.2.1,b.1,b.2.1,b.2.2.1,b.2.2.2.1,b.2.2.2.2.1,d.1,d.2.1,e.1,e.2.1,());if d.1.length=a.1.length then if e.1.length=a.2.2.1.length then if e.2.1.length=a.2.2.2.1.length then(uj (v.1.type0,())>>=λx2=>HY (x2.1,e.2.2.1.n,())>>=λx3=>if(!x3.1)=true then some ((e.2.2.1.n,(3:Int),G1))else some ((e.2.2.1.n,(0:Int),G1)))>>=λx2=>let i:=x2.2.2.2.2;let g:=i.2.2.2.2.2;let j:=g.2.2.2;let h:=j.2.2.2.2.2.2.2.2.2;oV (j.2.2.1.type0,x2.1,())>>=λx3=>eU (x2.1,x3.1,x2.2.1,x2.2.2.1,x2.2.2.2.1,i.1,i.2.1,i.2.2.1,i.2.2.2.1,i.2.2.2.2.1,g.1,g.2.1,g.2.2.1,j.1,j.2.1,j.2.2.2)>>=λx4=>let k:=x4.2.2.2.2.2.2.2.2.2.2.2.2.2.2.2.2.2.2;if k.1.length=h.1.length then if k.2.2.1.length=h.2.2.1.length then if k.2.2.2.1.length=h.2.2.2.1.length then some (x4)else none else none else none else none else none else none
def oa:=kP kJ (kO b_ (kP nu (kO fy (kP HZ k0))))
def Ks:Xc vw:=mX prog 29 oa.1 FR [(6,Ad,[.norm])] [] []
theorem mw:aM prog 86 rx fU:=fn0 Ks Tryz.func86 oa.2
def FS:aN vw:={rcut:=aT}
def ry:Sig vw:={params:=[.bp 100000 0,lV],objs:=[(100000, .box none [.bp 100001 0,Dq5,Dq1,Dq1,Dq1,Dq1,Dq5,Dq4,Dq4,Dq8, .vh 100002, .vh 100003,Dq1,Dq1,Dq9]),(100001, .box none [Dq3,Dq4,Dq1, .vh 100004,Dq1, .vh 100005,Dq1,Dq6]),(100002,Oq2),(100003,Oq2),(100004,Oq7),(100005,Oq2)],rcut:=aT,rvars:=[],keep:=[100000,100001,100002,3011,100004,100005]}
noncomputable def fV(v:Tq2):Option (Tq1):=let a:=v.2.2.2.2.2.2.2.2.2.2.2.2.2.2.2.2.2.2.2;cq v.2>>=λx1=>let e:=x1.2.2.2;let c:=e.2.2.2.2;let g:=c.2.2.2;let b:=g.2.2.2.2;let d:=b.2.2.2.2;let f:=d.2.2;if d.1.length=a.1.length then if f.1.length=a.2.2.1.length then if f.2.1.length=a.2.2.2.1.length then oV (v.1.type0,f.2.2.1.n,())>>=λx2=>sB x2>>=λx3=>cM (x3.1,x1.1,x1.2.1,x1.2.2.1,e.1,e.2.1,e.2.2.1,e.2.2.2.1,c.1,c.2.1,c.2.2.1,g.1,g.2.1,g.2.2.1,g.2.2.2.1,b.1,b.2.1,b.2.2.1,b.2.2.2.1,d.1,d.2.1,f.1,f.2.1,())>>=λx4=>let h:=x4.2.2.2.2.2.2.2.2.2.2.2.2.2.2.2.2.2.2;if h.1.length=d.1.length then if h.2.2.1.length=f.1.length then if h.2.2.2.1.length=f.2.1.length then some (x4)else none else none else none else none else none else none
def ob:=kO cJ (kP kI (kP kJ (kO b_ k0)))
def Kt:Xc vw:=mX prog 13 ob.1 FS [] [] []
theorem my:aM prog 87 ry fV:=fn0 Kt Tryz.func87 ob.2
def Ae:Cut SN:=⟨[(0, .bp 100000 0),(4, .bp 4 0),(5,Dq1)],[(100000, .box none [.bp 100001 0,Dq5,Dq1,Dq1,Dq1,Dq1,Dq5,Dq4,Dq4,Dq8, .vh 100002, .vh 3011,Dq1,Dq1,Dq9]),(4, .st .myValueT),(100001, .box none [Dq3,Dq4,Dq1, .vh 100004,Dq1, .vh 100005,Dq1,Dq6]),(100002,Oq2),(3011,Oq2),(100004,Oq7),(100005,Oq2)]⟩
def FT:aN vw:={rcut:=aT}
def rz:Sig vw:={params:=[.bp 100000 0,lV],objs:=[(100000, .box none [.bp 100001 0,Dq5,Dq1,Dq1,Dq1,Dq1,Dq5,Dq4,Dq4,Dq8, .vh 100002, .vh 100003,Dq1,Dq1,Dq9]),(100001, .box none [Dq3,Dq4,Dq1, .vh 100004,Dq1, .vh 100005,Dq1,Dq6]),(100002,Oq2),(100003,Oq2),(100004,Oq7),(100005,Oq2)],rcut:=aT,rvars:=[],keep:=[100000,100001,100002,3011,100004,100005]}
noncomputable def fW(v:Tq2):Option (Tq1):=let a:=v.2.2.2.2.2.2.2.2.2.2.2.2.2.2.2.2.2.2.2;cq v.2>>=λx1=>let c:=x1.2.2.2.2.2.2;let e:=c.2.2.2;let b:=e.2.2.2.2;let d:=b.2.2.2.2.2;let G1:=(x1.1,x1.2.1,x1.2.2.1,x1.2.2.2.1,x1.2.2.2.2.1,x1.2.2.2.2.2.1,c.1,c.2.1,c.2.2.1,e.1,e.2.1,e.2.2.1,d.2.2.2.2.1,e.2.2.2.1,b.1,b.2.1,b.2.2.1,b.2.2.2.1,b.2.2.2.2.1,d.1,d.2.1,d.2.2.1,d.2.2.2.1,());if d.1.length=a.1.length then if d.2.2.1.length=a.2.2.1.length then if d.2.2.2.1.length=a.2.2.2.1.length then(if d.2.2.2.2.1.null=true then some (((4:Int),G1))else some (((0:Int),G1)))>>=λx2=>let g:=x2.2.2.2.2;let f:=g.2.2.2.2.2;let i:=f.2.2.2;let h:=i.2.2.2.2.2.2.2.2;eU (i.2.1.n,i.2.1.n,x2.1,x2.2.1,x2.2.2.1,x2.2.2.2.1,g.1,g.2.1,g.2.2.1,g.2.2.2.1,g.2.2.2.2.1,f.1,f.2.1,f.2.2.1,i.1,i.2.2)>>=λx3=>let j:=x3.2.2.2.2.2.2.2.2.2.2.2.2.2.2.2.2.2.2;if j.1.length=h.1.length then if j.2.2.1.length=h.2.2.1.length then if j.2.2.2.1.length=h.2.2.2.1.length then some (x3)else none else none else none else none else none else none
def oc:=kO b_ (kO fy k0)
def Ku:Xc vw:=mX prog 17 oc.1 FT [(5,Ae,[.norm])] [] []
theorem mz:aM prog 88 rz fW:=fn0 Ku Tryz.func88 oc.2
def qp:Cut SN:=⟨[(0, .bp 100000 0),(2, .bp 2 0)],[(100000, .box none [.bp 100001 0,Dq5,Dq1,Dq1,Dq1,Dq1,Dq5,Dq4,Dq4,Dq8, .vh 100002, .vh 100003,Dq1,Dq1,Dq9]),(100001, .box none [Dq3,Dq4,Dq1, .vh 100004,Dq1, .vh 100005,Dq1,Dq6]),(100002,Oq2),(100003,Oq2),(100004,Oq7),(100005,Oq2),(2, .st .myValueT)]⟩
def BA:aN vw:={rcut:=qp}
def xo:Sig vw:={params:=[.bp 100000 0],objs:=[(100000, .box none [.bp 100001 0,Dq5,Dq1,Dq1,Dq1,Dq1,Dq5,Dq4,Dq4,Dq8, .vh 100002, .vh 100003,Dq1,Dq1,Dq9]),(100001, .box none [Dq3,Dq4,Dq1, .vh 100004,Dq1, .vh 100005,Dq1,Dq6]),(100002,Oq2),(100003,Oq2),(100004,Oq7),(100005,Oq2)],rcut:=qp,rvars:=[.cell 2 31],keep:=[100000,100001,100002,100003,100004,100005]}
noncomputable def gQ(v:Tq1):Option (Wt):=let c:=v.2.2.2.2.2.2;let d:=c.2.2.2;let a:=d.2.2.2.2;let b:=a.2.2.2.2.2.2;if 0<=i64.wrap ((↑b.1.length:Int) -1)/\i64.wrap ((↑b.1.length:Int) -1)<(↑b.1.length:Int)then b.1[(i64.wrap ((↑b.1.length:Int) -1)).toNat]?>>=λx1=>some ((v.1,v.2.1,v.2.2.1,v.2.2.2.1,v.2.2.2.2.1,v.2.2.2.2.2.1,c.1,c.2.1,c.2.2.1,d.1,d.2.1,d.2.2.1,d.2.2.2.1,a.1,a.2.1,a.2.2.1,a.2.2.2.1,a.2.2.2.2.1,a.2.2.2.2.2.1,b.1,b.2.1,b.2.2.1,x1,()))else none
def Gn:Xc vw:=mX prog 15 c0 BA [] [] []
theorem kK:aM prog 132 xo gQ:=fn0 Gn Tryz.func132 bT
def FU:aN vw:={rcut:=aT}
def rA:Sig vw:={params:=[.bp 100000 0,lV],objs:=[(100000, .box none [.bp 100001 0,Dq5,Dq1,Dq1,Dq1,Dq1,Dq5,Dq4,Dq4,Dq8, .vh 100002, .vh 100003,Dq1,Dq1,Dq9]),(100001, .box none [Dq3,Dq4,Dq1, .vh 100004,Dq1, .vh 100005,Dq1,Dq6]),(100002,Oq2),(100003,Oq2),(100004,Oq7),(100005,Oq2)],rcut:=aT,rvars:=[],keep:=[100000,100001,100002,3011,100004,100005]}
noncomputable def fX(v:Tq2):Option (Tq1):=let b:=v.2.2.2.2.2.2.2.2.2.2.2.2.2.2.2.2.2.2.2;gQ v.2>>=λx1=>let f:=x1.2.2.2;let d:=f.2.2.2.2;let h:=d.2.2.2;let c:=h.2.2.2.2;let e:=c.2.2.2.2;let g:=e.2.2;let G1:=(x1.1,x1.2.1,x1.2.2.1,f.1,f.2.1,f.2.2.1,f.2.2.2.1,d.1,d.2.1,d.2.2.1,h.1,h.2.1,h.2.2.1,h.2.2.2.1,c.1,c.2.1,c.2.2.1,c.2.2.2.1,e.1,e.2.1,g.1,g.2.1,());if e.1.length=b.1.length then if e.2.1.length=b.2.1.length then if g.1.length=b.2.2.1.length then if g.2.1.length=b.2.2.2.1.length then if g.2.2.1.null=true then cq G1>>=λx2=>let k:=x2.2.2.2.2.2;let i:=k.2.2.2.2.2.2.2;let j:=i.2.2.2.2.2.2;if j.1.length=e.1.length then if j.2.2.1.length=g.1.length then if j.2.2.2.1.length=g.2.1.length then some ((x2.1,x2.2.1,x2.2.2.1,x2.2.2.2.1,x2.2.2.2.2.1,k.1,k.2.1,k.2.2.1,k.2.2.2.1,k.2.2.2.2.1,v.1.a,k.2.2.2.2.2.2.1,i.1,i.2.1,i.2.2.1,i.2.2.2.1,i.2.2.2.2.1,i.2.2.2.2.2.1,j.1,j.2.1,j.2.2.1,j.2.2.2.1,()))else none else none else none else some (G1)else none else none else none else none
def od:=kO b_ (kO kK k0)
def Kv:Xc vw:=mX prog 14 od.1 FU [] [] []
theorem mA:aM prog 89 rA fX:=fn0 Kv Tryz.func89 od.2
def eo:Cut SN:=⟨[(0, .bp 100000 0)],[(100000, .box none [.bp 100001 0,Dq5,Dq1,Dq1,Dq1,Dq1,Dq5,Dq4,Dq4,Dq8, .vh 100002, .vh 100003,Dq1,Dq1,Dq9]),(100001, .box none [Dq3,Dq4,Dq1, .vh 100004,Dq1, .vh 100005,Dq1,Dq6]),(100002,Oq2),(100003,Oq2),(100004,Oq7),(100005,Oq2)]⟩
def BB:aN vw:={rcut:=eo}
def xp:Sig vw:={params:=[.bp 100000 0,Dq4,Dq1],objs:=[(100000, .box none [.bp 100001 0,Dq5,Dq1,Dq1,Dq1,Dq1,Dq5,Dq4,Dq4,Dq8, .vh 100002, .vh 100003,Dq1,Dq1,Dq9]),(100001, .box none [Dq3,Dq4,Dq1, .vh 100004,Dq1, .vh 100005,Dq1,Dq6]),(100002,Oq2),(100003,Oq2),(100004,Oq7),(100005,Oq2)],rcut:=eo,rvars:=[],keep:=[100000,100001,100002,100003,100004,100005]}
noncomputable def gR(v:Bool×Int×ByteArray×Int×Int×Int×Int×ByteArray×Bool×Bool×(List aQ)×Int×Int×(Option aE)×(List aC)×Bool×Int×Int×Int×(Option bX)×(List aE)×(List aE)×(List Int)×(List aE)×Unit):Option (Tq1):=let a:=v.2.2.2.2.2.2;if v.1=true then some (v.2.2.1,v.2.2.2.1,v.2.2.2.2.1,v.2.2.2.2.2.1,a.1,a.2.1,a.2.2.1,a.2.2.2.1,a.2.2.2.2.1,a.2.2.2.2.2.1,v.2.1,a.2.2.2.2.2.2.2)else some (v.2.2)
def Gp:Xc vw:=mX prog 11 c0 BB [] [] []
theorem kL:aM prog 133 xp gR:=fn0 Gp Tryz.func133 bT
def FV:aN vw:={rcut:=eo}
def rB:Sig vw:={params:=[.bp 100000 0,lV],objs:=[(100000, .box none [.bp 100001 0,Dq5,Dq1,Dq1,Dq1,Dq1,Dq5,Dq4,Dq4,Dq8, .vh 100002, .vh 100003,Dq1,Dq1,Dq9]),(100001, .box none [Dq3,Dq4,Dq1, .vh 100004,Dq1, .vh 100005,Dq1,Dq6]),(100002,Oq2),(100003,Oq2),(100004,Oq7),(100005,Oq2)],rcut:=eo,rvars:=[],keep:=[100000,100001,100002,100003,100004,100005]}
noncomputable def fY(v:Tq2):Option (Tq1):=let b:=v.2.2.2.2.2.2.2.2.2.2.2.2.2.2.2.2.2.2.2;gQ v.2>>=λx1=>let g:=x1.2.2.2;let d:=g.2.2.2.2;let f:=d.2.2.2.2;let c:=f.2.2.2.2;let e:=c.2.2.2;let h:=e.2.2;if e.1.length=b.1.length then if e.2.1.length=b.2.1.length then if h.1.length=b.2.2.1.length then if h.2.1.length=b.2.2.2.1.length then gR (!h.2.2.1.err.toList==(ZZ #[]).toList,v.1.a,x1.1,x1.2.1,x1.2.2.1,g.1,g.2.1,g.2.2.1,g.2.2.2.1,d.1,d.2.1,d.2.2.1,d.2.2.2.1,f.1,f.2.1,f.2.2.1,f.2.2.2.1,c.1,c.2.1,c.2.2.1,e.1,e.2.1,h.1,h.2.1,())>>=λx2=>let i:=x2.2.2.2.2.2.2.2.2.2.2.2.2.2.2.2.2.2.2;if i.1.length=e.1.length then if i.2.1.length=e.2.1.length then if i.2.2.1.length=h.1.length then if i.2.2.2.1.length=h.2.1.length then some (x2)else none else none else none else none else none else none else none else none
def oe:=kO kK (kO kL k0)
def Kw:Xc vw:=mX prog 12 oe.1 FV [] [] []
theorem mB:aM prog 90 rB fY:=fn0 Kw Tryz.func90 oe.2
def FW:aN vw:={rcut:=eo}
def rC:Sig vw:={params:=[.bp 100000 0,lV],objs:=[(100000, .box none [.bp 100001 0,Dq5,Dq1,Dq1,Dq1,Dq1,Dq5,Dq4,Dq4,Dq8, .vh 100002, .vh 100003,Dq1,Dq1,Dq9]),(100001, .box none [Dq3,Dq4,Dq1, .vh 100004,Dq1, .vh 100005,Dq1,Dq6]),(100002,Oq2),(100003,Oq2),(100004,Oq7),(100005,Oq2)],rcut:=eo,rvars:=[],keep:=[100000,100001,100002,100003,100004,100005]}
noncomputable def fZ(v:Tq2):Option (Tq1):=let b:=v.2.2.2.2.2;some (v.2.1,v.2.2.1,v.2.2.2.1,v.2.2.2.2.1,b.1,b.2.1,b.2.2.1,b.2.2.2.1,b.2.2.2.2.1,b.2.2.2.2.2.1,v.1.a,b.2.2.2.2.2.2.2)
def Kx:Xc vw:=mX prog 9 c0 FW [] [] []
theorem mC:aM prog 91 rC fZ:=fn0 Kx Tryz.func91 bT
def FX:aN vw:={rcut:=aT}
def rD:Sig vw:={params:=[.bp 100000 0,lV],objs:=[(100000, .box none [.bp 100001 0,Dq5,Dq1,Dq1,Dq1,Dq1,Dq5,Dq4,Dq4,Dq8, .vh 100002, .vh 100003,Dq1,Dq1,Dq9]),(100001, .box none [Dq3,Dq4,Dq1, .vh 100004,Dq1, .vh 100005,Dq1,Dq6]),(100002,Oq2),(100003,Oq2),(100004,Oq7),(100005,Oq2)],rcut:=aT,rvars:=[],keep:=[100000,100001,100002,3011,100004,100005]}
noncomputable def f5(v:Tq2):Option (Tq1):=let b:=v.2.2.2.2.2.2.2.2.2.2.2.2.2.2.2.2.2.2.2;cq v.2>>=λx1=>let f:=x1.2.2.2;let d:=f.2.2.2.2;let h:=d.2.2.2;let c:=h.2.2.2.2;let e:=c.2.2.2.2;let g:=e.2.2;if e.1.length=b.1.length then if g.1.length=b.2.2.1.length then if g.2.1.length=b.2.2.2.1.length then gR (g.2.2.1.n==0,v.1.a,x1.1,x1.2.1,x1.2.2.1,f.1,f.2.1,f.2.2.1,f.2.2.2.1,d.1,d.2.1,d.2.2.1,h.1,h.2.1,h.2.2.1,h.2.2.2.1,c.1,c.2.1,c.2.2.1,c.2.2.2.1,e.1,e.2.1,g.1,g.2.1,())>>=λx2=>let i:=x2.2.2.2.2.2.2.2.2.2.2.2.2.2.2.2.2.2.2;if i.1.length=e.1.length then if i.2.1.length=e.2.1.length then if i.2.2.1.length=g.1.length then if i.2.2.2.1.length=g.2.1.length then some (x2)else none else none else none else none else none else none else none
def og:=kO b_ (kO kL k0)
def Ky:Xc vw:=mX prog 12 og.1 FX [] [] []
theorem mD:aM prog 92 rD f5:=fn0 Ky Tryz.func92 og.2
def FZ:aN vw:={rcut:=aT}
def Bg:Nat->Bool:=λk=>match k with|7000004=>true|_=>false
def rE:Sig vw:={params:=[.bp 100000 0,lV],objs:=[(100000, .box none [.bp 100001 0,Dq5,Dq1,Dq1,Dq1,Dq1,Dq5,Dq4,Dq4,Dq8, .vh 100002, .vh 100003,Dq1,Dq1,Dq9]),(100001, .box none [Dq3,Dq4,Dq1, .vh 100004,Dq1, .vh 100005,Dq1,Dq6]),(100002,Oq2),(100003,Oq2),(100004,Oq7),(100005,Oq2)],rcut:=aT,rvars:=[],keep:=[100000,100001,100002,3011,100004,100005]}
noncomputable def f6(v:Tq2):Option (Tq1):=let a:=v.2.2.2.2.2.2.2.2.2.2.2.2.2.2.2.2.2.2.2;cq v.2>>=λx1=>let d:=x1.2.2.2.2.2;let b:=d.2.2.2.2.2.2.2;let c:=b.2.2.2.2.2.2;if c.1.length=a.1.length then if c.2.2.1.length=a.2.2.1.length then if c.2.2.2.1.length=a.2.2.2.1.length then some ((x1.1,x1.2.1,x1.2.2.1,x1.2.2.2.1,x1.2.2.2.2.1,d.1,d.2.1,d.2.2.1,d.2.2.2.1,d.2.2.2.2.1,d.2.2.2.2.2.1,some c.2.2.2.2.1,b.1,b.2.1,b.2.2.1,b.2.2.2.1,b.2.2.2.2.1,b.2.2.2.2.2.1,c.1,c.2.1,c.2.2.1,c.2.2.2.1,()))else none else none else none
def oi:=kO b_ k0
def Kz:Xc vw:={P:=prog,n:=10,call:=oi.1,pre:=Bg,sh:=FZ}
theorem mE:aM prog 94 rE f6:=fn0 Kz Tryz.func94 oi.2
def F0:aN vw:={rcut:=aT}
def rF:Sig vw:={params:=[.bp 100000 0,lV],objs:=[(100000, .box none [.bp 100001 0,Dq5,Dq1,Dq1,Dq1,Dq1,Dq5,Dq4,Dq4,Dq8, .vh 100002, .vh 100003,Dq1,Dq1,Dq9]),(100001, .box none [Dq3,Dq4,Dq1, .vh 100004,Dq1, .vh 100005,Dq1,Dq6]),(100002,Oq2),(100003,Oq2),(100004,Oq7),(100005,Oq2)],rcut:=aT,rvars:=[],keep:=[100000,100001,100002,3011,100004,100005]}
noncomputable def f7(v:Tq2):Option (Tq1):=let a:=v.2.2.2.2.2.2.2.2.2.2.2.2.2.2.2.2.2.2.2;cM (aE.mk (aF.mk (0:Int) (0:Int) (ZZ #[]) false false) (0:Int) false v.1.name0 (aF.mk (0:Int) (0:Int) (ZZ #[]) false false),v.2)>>=λx1=>let b:=x1.2.2.2.2.2.2.2.2.2.2.2.2.2.2.2.2.2.2;if b.1.length=a.1.length then if b.2.2.1.length=a.2.2.1.length then if b.2.2.2.1.length=a.2.2.2.1.length then some (x1)else none else none else none
def oj:=kO cJ k0
def KA:Xc vw:=mX prog 9 oj.1 F0 [] [] []
theorem mF:aM prog 95 rF f7:=fn0 KA Tryz.func95 oj.2
def F1:aN vw:={rcut:=eo}
def Bh:Nat->Bool:=λk=>match k with|7000004=>true|_=>false
def rG:Sig vw:={params:=[.bp 100000 0,lV],objs:=[(100000, .box none [.bp 100001 0,Dq5,Dq1,Dq1,Dq1,Dq1,Dq5,Dq4,Dq4,Dq8, .vh 100002, .vh 100003,Dq1,Dq1,Dq9]),(100001, .box none [Dq3,Dq4,Dq1, .vh 100004,Dq1, .vh 100005,Dq1,Dq6]),(100002,Oq2),(100003,Oq2),(100004,Oq7),(100005,Oq2)],rcut:=eo,rvars:=[],keep:=[100000,100001,100002,100003,100004,100005]}
noncomputable def f8(v:Tq2):Option (Tq1):=let d:=v.2.2.2.2;let f:=d.2.2;let b:=f.2.2.2;let c:=b.2.2.2.2.2;let e:=c.2.2.2.2;if c.1=true then d9 ((1:Int),v.1.a,b.2.2.2.2.1,c.1,c.2.1,c.2.2.1,c.2.2.2.1,e.1,e.2.2.2)>>=λx1=>let g:=x1.2.2.2.2;if g.2.2.1.length=e.2.2.2.1.length then if g.2.2.2.1.length=e.2.2.2.2.1.length then some (v.2.1,v.2.2.1,v.2.2.2.1,d.1,d.2.1,f.1,f.2.1,f.2.2.1,b.1,b.2.1,b.2.2.1,b.2.2.2.1,x1.1,x1.2.1,x1.2.2.1,x1.2.2.2.1,g.1,g.2.1,e.2.1,e.2.2.1,g.2.2)else none else none else sB ((0:Int),())>>=λx1=>some (v.2.1,v.2.2.1,v.2.2.2.1,d.1,d.2.1,f.1,f.2.1,f.2.2.1,b.1,b.2.1,b.2.2.1,some x1.1,b.2.2.2.2)
def ol:=kO gr (kP kI k0)
def KB:Xc vw:={P:=prog,n:=23,call:=ol.1,pre:=Bh,sh:=F1}
theorem mG:aM prog 96 rG f8:=fn0 KB Tryz.func96 ol.2
end Go.Proofs.YtcghbgmmgcljkaaGreatDoor
end
