/-
  Texts of this claim, joined by a program of mine: what the theorem uses.
-/
import Derived.Test.YtcghbgmmgcljkaaGreatDoorPkF
import Derived.Test.YtcghbgmmgcljkaaGreatDoorPkC
open ByteArray renaming mk→aaK
open Function renaming comp_apply→act
open Int renaming toNat→abb
open List renaming all_eq_true→aa1,drop→ac6,getElem?_cons_zero→abP,getElem?_map→aaR,getElem?_toArray→acI,map_map→abq,mem_map→abg,mem_of_getElem?→aaV,replicate→aa7,take→abY
open Nat renaming add_zero→abX,mul_one→adx
open Option renaming map_eq_some_iff→aa0,map_some→abf
open Option.some renaming injEq→aaN
open Sum renaming inl→abr,inr→abQ
noncomputable section
set_option linter.unusedVariables false
section
namespace Go.Proofs.YtcghbgmmgcljkaaGreatDoor
open Go.Awp Go.Tx
open IntKind (u8)
open IntKind (i64)
open Go.Proofs.Tryz (prog)
set_option maxHeartbeats 4000000
set_option maxRecDepth 100000
theorem bJ{c:Prop}[Decidable c]{α:Type}{a b x:α}(h:(if c then a else b)=x):(c/\a=x)\/(¬c/\b=x):=by by_cases e:c;exact .inl ⟨e,by rw[<-h,aep e]⟩;exact .inr ⟨e,by rw[<-h,aeo e]⟩
abbrev Dq1:Pt SN:= .dat (.int .i64)
abbrev Dq3:Pt SN:= .dat (.sl (.st .myFuncT))
def Qr:Cut SN:=⟨[(3,Dq1),(6,Dq3),(7,Dq1),(8,Dq1)],[]⟩
def M6:Cut SN:=⟨[(3,Dq1)],[]⟩
def nj:Cut SN:=⟨[(2,Dq1)],[]⟩
def YU:aN vw:=shL [(0,M6)] nj
def Wk:Sig vw:=sg [Dq3] nj [.tmp 2]
noncomputable def mo(v:Int×(List aB)×Int×Int×Unit):Option ((Int×Unit)):=let a:=v.2.2.2.1;if decide (a<v.2.2.1)=true then if 0<=a then v.2.1[a.toNat]?>>=λx1=>mo (i64.wrap (v.1+(↑x1.code.length:Int)),v.2.1,v.2.2.1,i64.wrap (a+1),())else none else some ((v.1,())) partial_fixpoint
noncomputable def Tt(v:(List aB)×Unit):Option (Int×Unit):=mo ((0:Int),v.1,(↑v.1.length:Int),(0:Int),())>>=λx1=>some (x1)
def x46:Xc vw:=mX prog 19 c0 YU [] [] [(3,⟨Qr,[.exit 0],mo⟩)]
theorem EU:fB x46 (aS (aO Tryz.f46) 0) ⟨Qr,[.exit 0],mo⟩:=lp0 mo.partial_correctness bP
theorem N8:aM prog 46 Wk Tt:=fn1 x46 Tryz.func46 bP EU
abbrev Dq4:Pt SN:= .dat .bool
def eO:Cut SN:=⟨[(2,Dq4)],[]⟩
def YV:aN vw:={rcut:=eO}
abbrev Ci:Pt SN:= .dat (.st .myFuncT)
def Wl:Sig vw:=sg [Ci] eO [.tmp 2]
noncomputable def Ur(v:aB×Unit):Option (Bool×Unit):=some ((decide (v.1.places>200),()))
def x48:Xc vw:=mX prog 6 c0 YV [] [] []
theorem N9:aM prog 48 Wl Ur:=fn0 x48 Tryz.func48 bP
def yj:Cut SN:=⟨[(0,Dq3),(1, .fn 48 [] []),(7,Dq1),(8,Dq1)],[]⟩
def dL:Cut SN:=⟨[],[]⟩
def bG:Cut SN:=⟨[(4,Dq1)],[]⟩
def OP:aN vw:=shL [(0,dL)] bG
def JR:Sig vw:=sg [Dq3, .fn 48 [] []] bG [.tmp 4]
abbrev S9:=(List aB)×Int×Int×Unit
noncomputable def eH(v:S9):Option (((Int×Unit)⊕(Unit))):=if decide (v.2.2.1<v.2.1)=true then if 0<=v.2.2.1 then v.1[v.2.2.1.toNat]?>>=λx1=>Ur (x1,())>>=λx2=>if x2.1=true then some (abr v.2.2)else eH (v.1,v.2.1,i64.wrap (v.2.2.1+1),())else none else some (abQ ()) partial_fixpoint
noncomputable def w8(v:(List aB)×Unit):Option (Int×Unit):=eH (v.1,(↑v.1.length:Int),(0:Int),())>>=λx1=>match x1 with| .inl y1=>some y1| .inr y1=>some (((-1:Int),()))
def n9:=kP N9 k0
def Mm:Xc vw:=mX prog 19 n9.1 OP [] [] [(2,⟨yj,[.ret, .exit 0],eH⟩)]
theorem uA:fB Mm (aS (aO Tryz.f65) 0) ⟨yj,[.ret, .exit 0],eH⟩:=lp0 eH.partial_correctness n9.2
theorem Be:aM prog 65 JR w8:=fn1 Mm Tryz.func65 n9.2 uA
def cw:Cut SN:=⟨[(4,Dq4)],[]⟩
def OO:aN vw:={rcut:=cw}
def JQ:Sig vw:=sg [Dq3, .fn 48 [] []] cw [.tmp 4]
noncomputable def sT(v:(List aB)×Unit):Option (Bool×Unit):=w8 v>>=λx1=>some ((decide (x1.1>=0),()))
def tR:=kP Be k0
def S3:Xc vw:=mX prog 9 tR.1 OO [] [] []
theorem Bd:aM prog 47 JQ sT:=fn0 S3 Tryz.func47 tR.2
abbrev Pg:Pt SN:= .dat (.int .u8)
def K_:Cut SN:=⟨[(0, .bp 0 0),(1, .bp 1 0),(2,Pg)],[(0, .bar 256 (.int .u8)),(1, .bar 256 (.int .u8))]⟩
def La:Cut SN:=⟨[(0, .bp 0 0),(1, .bp 1 0),(3,Pg)],[(0, .bar 256 (.int .u8)),(1, .bar 256 (.int .u8))]⟩
def K9:Cut SN:=⟨[(0, .bp 0 0),(1, .bp 1 0)],[(0, .bar 256 (.int .u8)),(1, .bar 256 (.int .u8))]⟩
def PZ:Cut SN:=⟨[(0, .bp 0 0)],[(0, .bar 256 (.int .u8))]⟩
def Vm:aN vw:=shL [(0,K9),(2,K9)] PZ
def Si:Sig vw:=sg [] PZ [.cell 0 179]
abbrev Pi:=Int×(List Int)×(List Int)×Unit
noncomputable def j2(v:Pi):Option (((List Int)×(List Int)×Unit)):=let G1:=(u8.wrap (v.1-97)+65);if decide (v.1<=122)=true then if 0<=v.1/\v.1<(↑(256:Nat):Int)then if v.1.toNat<(256:Nat)then if v.1.toNat<v.2.2.1.length then if 0<=u8.wrap G1/\u8.wrap G1<(↑(256:Nat):Int)then if(u8.wrap G1).toNat<(256:Nat)then if(u8.wrap G1).toNat<(v.2.2.1.set v.1.toNat (2:Int)).length then j2 (u8.wrap (v.1+1),v.2.1,(v.2.2.1.set v.1.toNat (2:Int)).set (u8.wrap G1).toNat (2:Int),())else none else none else none else none else none else none else some (v.2) partial_fixpoint
noncomputable def j3(v:Pi):Option (((List Int)×(List Int)×Unit)):=if decide (v.1<=57)=true then if 0<=v.1/\v.1<(↑(256:Nat):Int)then if v.1.toNat<(256:Nat)then if v.1.toNat<v.2.2.1.length then j3 (u8.wrap (v.1+1),v.2.1,v.2.2.1.set v.1.toNat (3:Int),())else none else none else none else some (v.2) partial_fixpoint
noncomputable def Iw(v:Unit):Option ((List Int)×Unit):=j2 ((97:Int),aa7 (256:Nat) (0:Int),(((aa7 (256:Nat) (0:Int)).set (abb 32) (1:Int)).set (abb 10) (1:Int)).set (abb 95) (2:Int),())>>=λx1=>j3 ((48:Int),x1)>>=λx2=>some (x2.2)
def W_:Xc vw:=mX prog 24 c0 Vm [] [] [(4,⟨K_,[.exit 0],j2⟩),(8,⟨La,[.exit 2],j3⟩)]
theorem AV:fB W_ (aS (aO Tryz.f146) 0) ⟨K_,[.exit 0],j2⟩:=lp0 j2.partial_correctness bP
theorem AW:fB W_ (aS (aO Tryz.f146) 1) ⟨La,[.exit 2],j3⟩:=lp0 j3.partial_correctness bP
theorem Ix:aM prog 146 Si Iw:=fn2 W_ Tryz.func146 bP AV AW
abbrev Dq5:Pt SN:= .dat .str
def n5:Cut SN:=⟨[(0, .bp 100000 0),(1,Dq5),(5,Dq1)],[(100000, .bar 256 (.int .u8))]⟩
def v7:Cut SN:=⟨[(0, .bp 100000 0),(1,Dq5),(5,Dq1),(19,Dq4)],[(100000, .bar 256 (.int .u8))]⟩
def v6:Cut SN:=⟨[(0, .bp 100000 0),(5,Dq1)],[(100000, .bar 256 (.int .u8))]⟩
def qE:Cut SN:=⟨[(0, .bp 100000 0),(4,Dq1)],[(100000, .bar 256 (.int .u8))]⟩
def BJ:aN vw:=shL [(0,v6)] qE
def xD:Sig vw:={params:=[.bp 100000 0,Dq5],objs:=[(100000, .bar 256 (.int .u8))],rcut:=qE,rvars:=[.tmp 4],keep:=[100000]}
noncomputable def du(v:ByteArray×Int×(List Int)×Unit):Option ((Int×(List Int)×Unit)):=(if decide (v.2.1<(↑v.1.size:Int))=true then if 0<=v.2.1 then v.1[v.2.1.toNat]?>>=λx1=>if 0<=(↑x1.toNat:Int)/\(↑x1.toNat:Int)<(↑(256:Nat):Int)then if(↑x1.toNat:Int).toNat<(256:Nat)then v.2.2.1[(↑x1.toNat:Int).toNat]?>>=λx2=>some ((v.1,v.2.1,decide (x2>=2),v.2.2))else none else none else none else some (v.1,v.2.1,false,v.2.2))>>=λx1=>if x1.2.2.1=true then du (x1.1,i64.wrap (x1.2.1+1),x1.2.2.2)else some (x1.2.1,x1.2.2.2) partial_fixpoint
noncomputable def lP(v:ByteArray×(List Int)×Unit):Option (Int×(List Int)×Unit):=du (v.1,(0:Int),v.2)>>=λx1=>some (x1)
def vE:Xc vw:=mX prog 23 c0 BJ [] [(2,v7)] [(2,⟨n5,[.exit 0],du⟩)]
theorem pe:fB vE (aS (aO Tryz.f147) 0) ⟨n5,[.exit 0],du⟩:=lp0 du.partial_correctness bP
theorem sR:aM prog 147 xD lP:=fn1 vE Tryz.func147 bP pe
def UX:aN vw:={rcut:=eO}
def RT:Sig vw:=sg [Dq5] eO [.tmp 2]
noncomputable def H1(v:ByteArray×Unit):Option (Bool×Unit):=Iw ()>>=λx1=>(if(!v.1.toList==(aaK #[]).toList)=true then v.1[abb 0]?>>=λx2=>if 0<=(↑x2.toNat:Int)/\(↑x2.toNat:Int)<(↑(256:Nat):Int)then if(↑x2.toNat:Int).toNat<(256:Nat)then x1.1[(↑x2.toNat:Int).toNat]?>>=λx3=>if(x3==2)=true then lP (v.1,x1)>>=λx4=>some ((x4.1==(↑v.1.size:Int),()))else some ((false,()))else none else none else some ((false,())))>>=λx2=>some (x2)
def CP:=kP Ix (kO sR k0)
def ZS:Xc vw:=mX prog 21 CP.1 UX [] [(2,eO)] []
theorem H2:aM prog 113 RT H1:=fn0 ZS Tryz.func113 CP.2
abbrev KU:Pt SN:= .dat (.sl .str)
def Lf:Cut SN:=⟨[(0,KU),(1,Dq5),(7,Dq1),(8,Dq1)],[]⟩
def VA:aN vw:=shL [(0,dL)] bG
def Sw:Sig vw:=sg [KU,Dq5] bG [.tmp 4]
noncomputable def ic(v:(List ByteArray)×ByteArray×Int×Int×Unit):Option (((Int×Unit)⊕(Unit))):=let a:=v.2.2;if decide (a.2.1<a.1)=true then if 0<=a.2.1 then v.1[a.2.1.toNat]?>>=λx1=>if(v.2.1.toList==x1.toList)=true then some (abr a.2)else ic (v.1,v.2.1,a.1,i64.wrap (a.2.1+1),())else none else some (abQ ()) partial_fixpoint
noncomputable def NO(v:(List ByteArray)×ByteArray×Unit):Option (Int×Unit):=ic (v.1,v.2.1,(↑v.1.length:Int),(0:Int),())>>=λx1=>match x1 with| .inl y1=>some y1| .inr y1=>some (((-1:Int),()))
def XS:Xc vw:=mX prog 19 c0 VA [] [] [(2,⟨Lf,[.ret, .exit 0],ic⟩)]
theorem A2:fB XS (aS (aO Tryz.f162) 0) ⟨Lf,[.ret, .exit 0],ic⟩:=lp0 ic.partial_correctness bP
theorem IL:aM prog 162 Sw NO:=fn1 XS Tryz.func162 bP A2
def Vn:aN vw:={rcut:=cw}
def Sj:Sig vw:=sg [KU,Dq5] cw [.tmp 4]
noncomputable def NH(v:(List ByteArray)×ByteArray×Unit):Option (Bool×Unit):=NO v>>=λx1=>some ((decide (x1.1>=0),()))
def C7:=kP IL k0
def aaf:Xc vw:=mX prog 9 C7.1 Vn [] [] []
theorem Iy:aM prog 148 Sj NH:=fn0 aaf Tryz.func148 C7.2
def TX:Cut SN:=⟨[(2,KU)],[]⟩
def Sk:Sig vw:=sg [Dq5] TX [.tmp 2]
noncomputable def Eu(v:ByteArray×Unit):Option ((List ByteArray)×Unit):=if v.1.size<4294967281/\v.1.data.toList.all (λb=>decide (b.toNat<128))=true then some ((Lib.fields v.1.data.toList).map (λl=>(⟨l.toArray⟩:ByteArray)),())else none
theorem Iz:aM prog 149 Sk Eu:=λv r x h hx=>by
 obtain⟨s,u⟩:=v
 unfold Eu at h
 split at h
 ·rename_i hc
  obtain⟨h0,h1⟩:=hc
  simp only at h0 h1
  cases h;cases hx
  exact fH (by kernel_rfl) (l_.newRow (P:=prog) (f:=149) (args:=[.d (.v (.string s))]) (sz:=1) (rows:=((Lib.fields s.data.toList).map λl=>(⟨l.toArray⟩:ByteArray)).map λy=>[D.v (.string y)]) (by kernel_rfl) (λr hr=>by obtain⟨_,_,rfl⟩:=abg.1 hr;rfl) λE M w vs hg hm hv=>by
   obtain⟨v1,rfl,h2⟩:=DO hv
   rw[h2.dv]
   refine(Tryz.strings_Fields s w h0 (λj b hb=>of_decide_eq_true (aa1.1 h1 b (aaV hb))) (Gn hg hm)).mono λe w' ⟨he,hw⟩=>⟨_,_,by rw[he];simp,hw,by simp,λi j r c x hr hx hc=> ?_⟩
   rw[abq,aaR,aa0]at hr
   obtain⟨l,hl,rfl⟩:=hr
   cases j with
   |zero=>
    simp only[act,abP,aaN]at hx
    subst hx
    simp only[adx,abX,acI,aaR,hl,abf,aaN]at hc
    subst hc
    exact .v _
   |succ j=>simp at hx)
 ·cases h
def UY:aN vw:={rcut:=eO}
def RU:Sig vw:=sg [Dq5] eO [.tmp 2]
noncomputable def H3(v:ByteArray×Unit):Option (Bool×Unit):=Eu (aaK (([(102:UInt8),(110:UInt8),(32:UInt8),(99:UInt8),(111:UInt8),(110:UInt8),(115:UInt8),(116:UInt8),(32:UInt8),(118:UInt8),(97:UInt8),(114:UInt8),(32:UInt8),(99:UInt8),(111:UInt8),(109:UInt8),(112:UInt8),(116:UInt8),(105:UInt8),(109:UInt8),(101:UInt8),(32:UInt8),(114:UInt8),(101:UInt8),(116:UInt8),(117:UInt8),(114:UInt8),(110:UInt8),(32:UInt8),(101:UInt8),(114:UInt8),(114:UInt8),(111:UInt8),(114:UInt8),(32:UInt8),(105:UInt8),(102:UInt8),(32:UInt8),(101:UInt8),(108:UInt8),(115:UInt8),(101:UInt8)].append [(32:UInt8),(119:UInt8),(104:UInt8),(105:UInt8),(108:UInt8),(101:UInt8),(32:UInt8),(102:UInt8),(111:UInt8),(114:UInt8),(32:UInt8),(105:UInt8),(110:UInt8),(108:UInt8),(105:UInt8),(110:UInt8),(101:UInt8),(32:UInt8),(115:UInt8),(119:UInt8),(105:UInt8),(116:UInt8),(99:UInt8),(104:UInt8),(32:UInt8),(100:UInt8),(101:UInt8),(102:UInt8),(101:UInt8),(114:UInt8),(32:UInt8),(101:UInt8),(114:UInt8),(114:UInt8),(100:UInt8),(101:UInt8),(102:UInt8),(101:UInt8),(114:UInt8),(32:UInt8),(98:UInt8),(114:UInt8)]).append ([(101:UInt8),(97:UInt8),(107:UInt8),(32:UInt8),(99:UInt8),(111:UInt8),(110:UInt8),(116:UInt8),(105:UInt8),(110:UInt8),(117:UInt8),(101:UInt8),(32:UInt8),(103:UInt8),(105:UInt8),(118:UInt8),(101:UInt8),(32:UInt8),(117:UInt8),(110:UInt8),(114:UInt8),(101:UInt8),(97:UInt8),(99:UInt8),(104:UInt8),(97:UInt8),(98:UInt8),(108:UInt8),(101:UInt8),(32:UInt8),(116:UInt8),(114:UInt8),(117:UInt8),(101:UInt8),(32:UInt8),(102:UInt8),(97:UInt8),(108:UInt8),(115:UInt8),(101:UInt8),(32:UInt8),(97:UInt8)].append [(110:UInt8),(100:UInt8),(32:UInt8),(111:UInt8),(114:UInt8),(32:UInt8),(116:UInt8),(114:UInt8),(121:UInt8),(32:UInt8),(99:UInt8),(97:UInt8),(116:UInt8),(99:UInt8),(104:UInt8),(32:UInt8),(111:UInt8),(114:UInt8),(101:UInt8),(108:UInt8),(115:UInt8),(101:UInt8),(32:UInt8),(100:UInt8),(111:UInt8),(32:UInt8),(118:UInt8),(111:UInt8),(105:UInt8),(100:UInt8),(32:UInt8),(98:UInt8),(111:UInt8),(111:UInt8),(108:UInt8),(32:UInt8),(116:UInt8),(121:UInt8),(112:UInt8),(101:UInt8),(32:UInt8),(95:UInt8)])).toArray,())>>=λx1=>NH (x1.1,v)>>=λx2=>some (x2)
def CQ:=kP Iy (kP Iz k0)
def ZT:Xc vw:=mX prog 6 CQ.1 UY [] [] []
theorem H4:aM prog 114 RU H3:=fn0 ZT Tryz.func114 CQ.2
def VB:aN vw:={rcut:=eO}
def Sx:Sig vw:=sg [Dq1] eO [.tmp 2]
noncomputable def NP(v:Int×Unit):Option (Bool×Unit):=(if decide (v.1>=2)=true then some ((decide (v.1<=16),()))else some ((false,())))>>=λx1=>some (x1)
def aao:Xc vw:=mX prog 9 c0 VB [] [(1,eO)] []
theorem IM:aM prog 165 Sx NP:=fn0 aao Tryz.func165 bP
def VX:aN vw:={rcut:=cw}
def SJ:Sig vw:=sg [Dq5,Dq5] cw [.tmp 4]
noncomputable def NW(v:ByteArray×ByteArray×Unit):Option (Bool×Unit):=(if decide ((↑v.1.size:Int)>=(↑v.2.1.size:Int))=true then if(0:Int)<=0/\0<=(↑v.2.1.size:Int)/\(↑v.2.1.size:Int)<=(↑v.1.size:Int)then some (((v.1.extract (abb 0) (↑v.2.1.size:Int).toNat).toList==v.2.1.toList,()))else none else some ((false,())))>>=λx1=>some (x1)
def aaI:Xc vw:=mX prog 18 c0 VX [] [(1,cw)] []
theorem Jf:aM prog 193 SJ NW:=fn0 aaI Tryz.func193 bP
def tG:Cut SN:=⟨[(4,Dq5)],[]⟩
def VJ:aN vw:={rcut:=tG}
def SD:Sig vw:=sg [Dq5,Dq5] tG [.tmp 4]
noncomputable def NS(v:ByteArray×ByteArray×Unit):Option (ByteArray×Unit):=NW v>>=λx1=>if x1.1=true then if 0<=(↑v.2.1.size:Int)/\(↑v.2.1.size:Int)<=(↑v.1.size:Int)/\(↑v.1.size:Int)<=(↑v.1.size:Int)then some ((v.1.extract (↑v.2.1.size:Int).toNat (↑v.1.size:Int).toNat,()))else none else some ((v.1,()))
def De:=kP Jf k0
def aav:Xc vw:=mX prog 13 De.1 VJ [] [] []
theorem IY:aM prog 176 SD NS:=fn0 aav Tryz.func176 De.2
def VC:aN vw:={rcut:=tG}
def Sy:Sig vw:=sg [Dq5,Dq5] tG [.tmp 4]
noncomputable def IP(v:ByteArray×ByteArray×Unit):Option (ByteArray×Unit):=NS v>>=λx1=>some (x1)
def Db:=kP IY k0
def aap:Xc vw:=mX prog 8 Db.1 VC [] [] []
theorem IQ:aM prog 166 Sy IP:=fn0 aap Tryz.func166 Db.2
def SE:Sig vw:=sg [Dq5,Pg] bG [.tmp 4]
noncomputable def NT(v:ByteArray×Int×Unit):Option (Int×Unit):=some (Lib.indexByte v.1.data.toList v.2.1.toNat.toUInt8,())
theorem IZ:aM prog 177 SE NT:=λv r x h hx=>by
 obtain⟨s,c,u⟩:=v
 cases h;cases hx
 exact fH (by kernel_rfl) (l_.pure (P:=prog) (f:=177) (args:=[.d (.v (.string s)), .d (.v (.int .u8 c))]) (r:= .d (.v (.int .i64 (Lib.indexByte s.data.toList c.toNat.toUInt8)))) (by kernel_rfl) λE M w vs _ _ hv=>by
  obtain⟨v1,v2,rfl,h1,h2⟩:=DP hv
  rw[h1.dv,h2.dv]
  exact(Tryz.stringslite_IndexByte s c w).mono λe w' ⟨he,hw⟩=>⟨_,he, .d (.v _),hw▸Go.RowKit.Below.refl _ _⟩)
def VD:aN vw:={rcut:=bG}
def Sz:Sig vw:=sg [Dq5,Pg] bG [.tmp 4]
noncomputable def NQ(v:ByteArray×Int×Unit):Option (Int×Unit):=NT v>>=λx1=>some (x1)
def Dc:=kP IZ k0
def aaq:Xc vw:=mX prog 8 Dc.1 VD [] [] []
theorem IR:aM prog 167 Sz NQ:=fn0 aaq Tryz.func167 Dc.2
def ir:Cut SN:=⟨[(0,Dq1),(1,Dq1),(5,Dq5)],[]⟩
def Li:Cut SN:=⟨[(0,Dq1),(5,Dq5)],[]⟩
def JO:aN vw:=shL [(0,Li)] tG
def iv:Sig vw:=sg [Dq1,Dq1] tG [.tmp 4]
abbrev x_:=Int×Int×ByteArray×Unit
noncomputable def dF(v:x_):Option ((Int×ByteArray×Unit)):=let a:=v.2.1;if decide (v.1>=a)=true then if a=0 then none else if 0<=v.1.tmod a then(aaK #[48,49,50,51,52,53,54,55,56,57,97,98,99,100,101,102])[(v.1.tmod a).toNat]?>>=λx1=>if(Bs.enc1 (↑x1.toNat:Int)).size+v.2.2.1.size<=4294967296 then if a=0 then none else dF (i64.wrap (v.1.tdiv a),a,Bs.enc1 (↑x1.toNat:Int)++v.2.2.1,())else none else none else some (v.1,v.2.2) partial_fixpoint
noncomputable def qm(v:Int×Int×Unit):Option (ByteArray×Unit):=if decide (v.1<0)=true then qm (i64.wrap ((0:Int) -v.1),v.2)>>=λx1=>if(aaK #[45]).size+x1.1.size<=4294967296 then some ((aaK #[45]++x1.1,()))else none else dF (v.1,v.2.1,aaK #[],())>>=λx1=>if 0<=x1.1 then(aaK #[48,49,50,51,52,53,54,55,56,57,97,98,99,100,101,102])[x1.1.toNat]?>>=λx2=>if(Bs.enc1 (↑x2.toNat:Int)).size+x1.2.1.size<=4294967296 then some ((Bs.enc1 (↑x2.toNat:Int)++x1.2.1,()))else none else none partial_fixpoint
def ws(dF:x_->Option ((Int×ByteArray×Unit)))(qm:Int×Int×Unit->Option (ByteArray×Unit)):dh vw:=λA fid args S k=>match fid with|168=>cv prog iv qm A args S k|_=>none
def zN(dF:x_->Option ((Int×ByteArray×Unit)))(qm:Int×Int×Unit->Option (ByteArray×Unit)):Xc vw:={P:=prog,n:=31,call:=ws dF qm,pre:=Jy,sh:=JO,loops:=λk=>match k with|4=>some {cut:=ir,alts:=[.exit 0],F:=dF}|_=>none}
abbrev nD(v:x_)(r:(Int×ByteArray×Unit)):Prop:=(λv out=>∀C:Ctx,C.P=prog->C.N=31/\Fx C Jy->qf C (aS (aO Tryz.f168) 0) (Go.Tx.a_ vw (fk vw ir v)) (xZ JO [.exit 0] out)) v r
theorem Hh(f0:x_->Option ((Int×ByteArray×Unit)))(h0:∀v r,f0 v=some r->nD v r):bH prog (zN f0 (λ_=>none)).call:=(by
 intro A fid args S dst k r h
 unfold zN ws at h
 simp only at h
 split at h
 ·exact aR ((λv r x h hx=>by cases h)) rfl rfl h
 ·cases h)
theorem JT(f0:x_->Option ((Int×ByteArray×Unit)))(h0:∀v r,f0 v=some r->nD v r)(v:x_)(r:(Int×ByteArray×Unit))(h:exL (zN f0 (λ_=>none)) (aS (aO Tryz.f168) 0) ir [.exit 0] f0 v=some r):nD v r:=λC hP hN=>gM (X:=zN f0 (λ_=>none)) (b:=(aS (aO Tryz.f168) 0)) hP hN Ty.mixed (Hh f0 h0) (eT (X:=zN f0 (λ_=>none)) (c:=(aS (aO Tryz.f168) 0)) (fH (by kernel_rfl:True=qe (e7 C (zN f0 (λ_=>none))) (cB (aS (aO Tryz.f168) 0))) trivial)) (cut:=ir) (alts:=[.exit 0]) (F:=f0) (λv out h=>h0 v out h C hP hN) h
theorem A3:∀v out,dF v=some out->(λv out=>∀C:Ctx,C.P=prog->C.N=31/\Fx C Jy->qf C (aS (aO Tryz.f168) 0) (Go.Tx.a_ vw (fk vw ir v)) (xZ JO [.exit 0] out)) v out:=(dF.partial_correctness (motive:=nD) (λf0 h0 v r h=>JT f0 h0 v r (fH (by kernel_rfl) h)))
abbrev yQ(v:Int×Int×Unit)(r:ByteArray×Unit):Prop:=(λv r=>∀x,GO prog iv r=some x->l_ prog 168 (encL vw (cE iv v).len (d7 iv v).1) (eP (cE iv v).len (cE iv v).own) (aL vw (fk vw iv.rcut r).len x) (eP (fk vw iv.rcut r).len (ql iv r))) v r
theorem QN(f0:Int×Int×Unit->Option (ByteArray×Unit))(h0:∀v r,f0 v=some r->yQ v r):bH prog (zN dF f0).call:=(by
 intro A fid args S dst k r h
 unfold zN ws at h
 simp only at h
 split at h
 ·exact aR ((λv r x h hx=>h0 v r h x hx)) rfl rfl h
 ·cases h)
theorem SS(f0:Int×Int×Unit->Option (ByteArray×Unit))(h0:∀v r,f0 v=some r->yQ v r)(v:Int×Int×Unit)(r:ByteArray×Unit)(h:exF (zN dF f0) iv rfl (aO Tryz.f168) v=some r):yQ v r:=λx hx=>AD (X:=zN dF f0) (sig:=iv) rfl Tryz.func168 (c:=aO Tryz.f168) (by kernel_rfl) Tryz.ntmps168 (by kernel_rfl) (by kernel_rfl) rfl Ty.mixed (QN f0 h0) rfl (λC hP hN=>(eT (X:=zN dF f0) (c:=(aO Tryz.f168)) (fH (by kernel_rfl:qe (e7 C (zN dF f0)) [(aS (aO Tryz.f168) 0)]=qe (e7 C (zN dF f0)) (cB (aO Tryz.f168))) ⟨iX (X:=zN dF f0) (b:=(aS (aO Tryz.f168) 0)) (by kernel_rfl) (show gD C (aS (aO Tryz.f168) 0) (sh:=JO) {cut:=ir,alts:=[.exit 0],F:=dF}fromλv out h=>A3 v out h C hP hN),trivial⟩))) h x hx
theorem IU:aM prog 168 iv qm:=λv r x h hx=>(qm.partial_correctness (motive:=yQ) (λf0 h0 v r h=>SS f0 h0 v r (fH (by kernel_rfl) h))) v r h x hx
def Lb:Cut SN:=⟨[(0,Dq5),(1,Dq1),(6,Dq1),(7,Dq5),(16,Dq1),(17,Dq1)],[]⟩
def MW:Cut SN:=⟨[(0,Dq5),(1,Dq1),(6,Dq1)],[]⟩
def P1:Cut SN:=⟨[(0,Dq5),(1,Dq1),(6,Dq1),(7,Dq5),(9,Dq1),(16,Dq1),(17,Dq1),(31,Dq4)],[]⟩
def MX:Cut SN:=⟨[(6,Dq1),(57,Dq4)],[]⟩
def P0:Cut SN:=⟨[(0,Dq5),(1,Dq1),(6,Dq1),(7,Dq5)],[]⟩
def Hb:Cut SN:=⟨[(4,Dq1),(5,Dq1)],[]⟩
def Vo:aN vw:=shL [(0,P0)] Hb
def Sl:Sig vw:=sg [Dq5,Dq1] Hb [.tmp 4, .tmp 5]
noncomputable def i7(v:ByteArray×Int×Int×ByteArray×Int×Int×Unit):Option (((Int×Int×Unit)⊕(ByteArray×Int×Int×ByteArray×Unit))):=let a:=v.2.2.2;let b:=a.2.2.1;let G1:=(aaK #[48,49,50,51,52,53,54,55,56,57,97,98,99,100,101,102]);if decide (b<a.2.1)=true then if(0:Int)<=0/\0<=v.2.1/\v.2.1<=(↑G1.size:Int)then if 0<=b then a.1[b.toNat]?>>=λx1=>NQ (G1.extract (abb 0) v.2.1.toNat,(↑x1.toNat:Int),())>>=λx2=>(if decide (x2.1<0)=true then some ((v.1,v.2.1,v.2.2.1,a.1,x2.1,a.2.1,b,true,()))else some ((v.1,v.2.1,v.2.2.1,a.1,x2.1,a.2.1,b,decide (v.2.2.1>1099511627776),())))>>=λx3=>let c:=x3.2.2.2;if c.2.2.2.2.1=true then some (abr ((0:Int),(2:Int),()))else i7 (x3.1,x3.2.1,i64.wrap (i64.wrap (x3.2.2.1 *x3.2.1)+c.2.1),c.1,c.2.2.1,i64.wrap (c.2.2.2.1+1),())else none else none else some (abQ (v.1,v.2.1,v.2.2.1,a.1,())) partial_fixpoint
noncomputable def IA(v:ByteArray×Int×Unit):Option (Int×Int×Unit):=NP v.2>>=λx1=>if(!x1.1)=true then some (((0:Int),(1:Int),()))else IP (v.1,aaK #[45],())>>=λx2=>i7 (v.1,v.2.1,(0:Int),x2.1,(↑x2.1.size:Int),(0:Int),())>>=λx3=>match x3 with| .inl y3=>some y3| .inr y3=>(if decide ((↑y3.2.2.2.1.size:Int)<(↑y3.1.size:Int))=true then some ((y3.1,y3.2.1,i64.wrap ((0:Int) -y3.2.2.1),()))else some ((y3.1,y3.2.1,y3.2.2.1,())))>>=λx4=>let a:=x4.2.2.1;(if decide (a<(-1099511627776:Int))=true then some ((a,true,()))else if decide (a>1099511627776)=true then some ((a,true,()))else qm (a,x4.2.1,())>>=λx5=>some ((a,!x5.1.toList==x4.1.toList,())))>>=λx5=>if x5.2.1=true then some (((0:Int),(2:Int),()))else some ((x5.1,(0:Int),()))
def wi:=kP IM (kP IQ (kP IR (kP IU k0)))
def XO:Xc vw:=mX prog 59 wi.1 Vo [(15,MW,[.norm])] [(9,P1),(15,MX)] [(6,⟨Lb,[.ret, .exit 0],i7⟩)]
theorem AX:fB XO (aS (aO Tryz.f150) 0) ⟨Lb,[.ret, .exit 0],i7⟩:=lp0 i7.partial_correctness wi.2
theorem IB:aM prog 150 Sl IA:=fn1 XO Tryz.func150 wi.2 AX
def P2:Cut SN:=⟨[(10,Dq4)],[]⟩
def Vp:aN vw:={rcut:=nj}
abbrev nh:Pt SN:= .dat (.st .myIntT)
def Sm:Sig vw:=sg [nh] nj [.tmp 2]
noncomputable def pf(v:bB×Unit):Option (Int×Unit):=(if decide (v.1.bits<1)=true then some ((true,()))else some ((decide (v.1.bits>31),())))>>=λx1=>if x1.1=true then some (((1:Int),()))else some (((0:Int),()))
def aag:Xc vw:=mX prog 11 c0 Vp [] [(1,P2)] []
theorem jz:aM prog 151 Sm pf:=fn0 aag Tryz.func151 bP
def PJ:Cut SN:=⟨[(0,Dq5),(2, .bp 2 0),(19,Dq4)],[(2, .st .myIntT)]⟩
def PK:Cut SN:=⟨[(2, .bp 2 0),(6, .bp 6 0),(38,Dq4)],[(2, .st .myIntT),(6, .st .myIntT)]⟩
def G_:Cut SN:=⟨[(2, .bp 2 0),(3,Dq1)],[(2, .st .myIntT)]⟩
def UZ:aN vw:={rcut:=G_}
def RV:Sig vw:=sg [Dq5] G_ [.cell 2 135, .tmp 3]
noncomputable def H5(v:ByteArray×Unit):Option (Int×bB×Unit):=let G1:=(bB.mk false (0:Int),());(if decide ((↑v.1.size:Int)<2)=true then some (v.1,true,G1)else v.1[abb 0]?>>=λx1=>if((↑x1.toNat:Int) !=117)=true then v.1[abb 0]?>>=λx2=>some ((v.1,(↑x2.toNat:Int) !=105,G1))else some (v.1,false,G1))>>=λx1=>if x1.2.1=true then some (((2:Int),G1))else if(0:Int)<=1/\(1:Int)<=(↑x1.1.size:Int)/\(↑x1.1.size:Int)<=(↑x1.1.size:Int)then IA (x1.1.extract (abb 1) (↑x1.1.size:Int).toNat,(10:Int),())>>=λx2=>x1.1[abb 0]?>>=λx3=>(if(x2.2.1 !=0)=true then some ((true,x1.2.2.1,bB.mk ((↑x3.toNat:Int)==105) x2.1,()))else pf (bB.mk ((↑x3.toNat:Int)==105) x2.1,())>>=λx4=>some ((x4.1 !=0,x1.2.2.1,bB.mk ((↑x3.toNat:Int)==105) x2.1,())))>>=λx4=>if x4.1=true then some (((2:Int),G1))else some (((0:Int),x4.2.2))else none
def CR:=kP IB (kP jz k0)
def ZU:Xc vw:=mX prog 41 CR.1 UZ [] [(1,PJ),(5,PK)] []
theorem H6:aM prog 115 RV H5:=fn0 ZU Tryz.func115 CR.2
def QD:Cut SN:=⟨[(0,Dq5),(16,Dq4)],[]⟩
def Za:aN vw:={rcut:=eO}
def Ww:Sig vw:=sg [Dq5] eO [.tmp 2]
noncomputable def Pn(v:ByteArray×Unit):Option (Bool×Unit):=(if decide ((↑v.1.size:Int)>8)=true then some ((v.1,true,()))else H1 v>>=λx1=>if(!x1.1)=true then some ((v.1,true,()))else H3 v>>=λx2=>some (v.1,x2))>>=λx1=>if x1.2.1=true then some ((false,()))else H5 (x1.1,())>>=λx2=>some ((x2.1 !=0,()))
def LG:=kP H2 (kP H4 (kP H6 k0))
def x66:Xc vw:=mX prog 24 LG.1 Za [] [(1,QD)] []
theorem w9:aM prog 66 Ww Pn:=fn0 x66 Tryz.func66 LG.2
def iI:Cut SN:=⟨[(6,Dq4)],[]⟩
def Zb:aN vw:={rcut:=iI}
def Wx:Sig vw:=sg [Dq1,Dq1,Dq1] iI [.tmp 6]
abbrev Ck:=Int×Int×Int×Unit
noncomputable def GN(v:Ck):Option (Bool×Unit):=(if decide (v.1>=v.2.1)=true then some ((decide (v.1<=v.2.2.1),()))else some ((false,())))>>=λx1=>some (x1)
def x67:Xc vw:=mX prog 15 c0 Zb [] [(1,iI)] []
theorem E4:aM prog 67 Wx GN:=fn0 x67 Tryz.func67 bP
def Vq:aN vw:={rcut:=eO}
def Sn:Sig vw:=sg [Dq1] eO [.tmp 2]
noncomputable def NI(v:Int×Unit):Option (Bool×Unit):=(if(v.1==2)=true then some ((true,()))else some ((v.1==3,())))>>=λx1=>some (x1)
def aah:Xc vw:=mX prog 9 c0 Vq [] [(1,eO)] []
theorem IC:aM prog 152 Sn NI:=fn0 aah Tryz.func152 bP
def v8:Cut SN:=⟨[(2, .bp 2 0)],[(2, .st .myIntT)]⟩
def Vr:aN vw:={rcut:=v8}
abbrev vK:Pt SN:= .dat (.st .myTypeT)
def So:Sig vw:=sg [vK] v8 [.cell 2 135]
noncomputable def NJ(v:aF×Unit):Option (bB×Unit):=some ((bB.mk (v.1.base==3) v.1.bits,()))
def aai:Xc vw:=mX prog 9 c0 Vr [] [] []
theorem ID:aM prog 153 So NJ:=fn0 aai Tryz.func153 bP
def PL:Cut SN:=⟨[(1, .bp 1 0),(33,Dq4)],[(1, .st .myTypeT)]⟩
def U0:aN vw:={rcut:=eO}
def RW:Sig vw:=sg [vK] eO [.tmp 2]
noncomputable def H7(v:aF×Unit):Option (Bool×Unit):=let G1:=(false,());(if decide (v.1.base<0)=true then some (true,v)else if decide (v.1.base>5)=true then some (true,v)else if v.1.opt=true then if(v.1.base==0)=true then some (true,v)else if(v.1.base==4)=true then some (true,v)else if v.1.err=true then some (v.1.base==4,v)else some (false,v)else if v.1.err=true then some (v.1.base==4,v)else some (false,v))>>=λx1=>let a:=x1.2.1;if x1.1=true then some (G1)else NI (a.base,())>>=λx2=>if x2.1=true then(NJ x1.2>>=λx3=>pf x3>>=λx4=>if(x4.1==0)=true then some ((a.name0.toList==(aaK #[]).toList,()))else some (G1))>>=λx3=>some (x3)else(if(a.bits==0)=true then if(a.base==5)=true then Pn (a.name0,())>>=λx3=>if x3.1=true then some ((true,()))else if(a.base !=5)=true then some ((a.name0.toList==(aaK #[]).toList,()))else some (G1)else if(a.base !=5)=true then some ((a.name0.toList==(aaK #[]).toList,()))else some (G1)else some (G1))>>=λx3=>some (x3)
def CS:=kP w9 (kP jz (kP IC (kP ID k0)))
def ZV:Xc vw:=mX prog 69 CS.1 U0 [] [(1,PL),(4,eO),(5,eO)] []
theorem H8:aM prog 116 RW H7:=fn0 ZV Tryz.func116 CS.2
def Zc:aN vw:={rcut:=nj}
def Wy:Sig vw:=sg [vK] nj [.tmp 2]
noncomputable def Rm(v:aF×Unit):Option (Int×Unit):=H7 v>>=λx1=>if(!x1.1)=true then some (((1:Int),()))else some (((0:Int),()))
def LH:=kP H8 k0
def x68:Xc vw:=mX prog 6 LH.1 Zc [] [] []
theorem E5:aM prog 68 Wy Rm:=fn0 x68 Tryz.func68 LH.2
def U2:aN vw:={rcut:=eO}
def RY:Sig vw:=sg [vK] eO [.tmp 2]
noncomputable def Em(v:aF×Unit):Option (Bool×Unit):=(Rm v>>=λx1=>if(x1.1==0)=true then if(!v.1.opt)=true then some ((!v.1.err,()))else some ((false,()))else some ((false,())))>>=λx1=>some (x1)
def CU:=kP E5 k0
def ZX:Xc vw:=mX prog 16 CU.1 U2 [] [(1,eO)] []
theorem yW:aM prog 119 RY Em:=fn0 ZX Tryz.func119 CU.2
def U1:aN vw:={rcut:=eO}
def RX:Sig vw:=sg [vK] eO [.tmp 2]
noncomputable def AO(v:aF×Unit):Option (Bool×Unit):=(Em v>>=λx1=>if x1.1=true then if(v.1.base==2)=true then some ((true,()))else some ((v.1.base==3,()))else some ((false,())))>>=λx1=>some (x1)
def CT:=kP yW k0
def ZW:Xc vw:=mX prog 15 CT.1 U1 [] [(1,eO)] []
theorem H9:aM prog 118 RX AO:=fn0 ZW Tryz.func118 CT.2
def tN:Cut SN:=⟨[(1, .bp 100000 0),(3,Dq4)],[(100000, .box none [Dq5])]⟩
def FW:aN vw:={rcut:=tN}
def BO:Sig vw:={params:=[Ci, .bp 100000 0],objs:=[(100000, .box none [Dq5])],rcut:=tN,rvars:=[.tmp 3],keep:=[100000]}
noncomputable def pi(v:aB×ByteArray×Unit):Option (Bool×ByteArray×Unit):=some (v.1.name0.toList==v.2.1.toList,v.2)
def Kw:Xc vw:=mX prog 8 c0 FW [] [] []
theorem uE:aM prog 72 BO pi:=fn0 Kw Tryz.func72 bP
def qG:Cut SN:=⟨[(0,Dq3),(1, .fn 72 [] [100000]),(7,Dq1),(8,Dq1)],[(100000, .box none [Dq5])]⟩
def Ak:Cut SN:=⟨[(1, .fn 72 [] [100000])],[(100000, .box none [Dq5])]⟩
def tL:Cut SN:=⟨[(1, .fn 72 [] [100000]),(4,Dq1)],[(100000, .box none [Dq5])]⟩
def FT:aN vw:=shL [(0,Ak)] tL
def BL:Sig vw:={params:=[Dq3, .fn 72 [] [100000]],objs:=[(100000, .box none [Dq5])],rcut:=tL,rvars:=[.tmp 4],keep:=[100000]}
noncomputable def dV(v:(List aB)×Int×Int×ByteArray×Unit):Option (((Int×ByteArray×Unit)⊕(ByteArray×Unit))):=let a:=v.2.2;if decide (a.1<v.2.1)=true then if 0<=a.1 then v.1[a.1.toNat]?>>=λx1=>pi (x1,a.2)>>=λx2=>if x2.1=true then some (abr (a.1,x2.2))else dV (v.1,v.2.1,i64.wrap (a.1+1),x2.2)else none else some (abQ a.2) partial_fixpoint
noncomputable def ph(v:(List aB)×ByteArray×Unit):Option (Int×ByteArray×Unit):=dV (v.1,(↑v.1.length:Int),(0:Int),v.2)>>=λx1=>match x1 with| .inl y1=>some y1| .inr y1=>some (((-1:Int),y1))
def jT:=kO uE k0
def zQ:Xc vw:=mX prog 19 jT.1 FT [] [] [(2,⟨qG,[.ret, .exit 0],dV⟩)]
theorem qq:fB zQ (aS (aO Tryz.f65) 0) ⟨qG,[.ret, .exit 0],dV⟩:=lp0 dV.partial_correctness jT.2
theorem uB:aM prog 65 BL ph:=fn1 zQ Tryz.func65 jT.2 qq
def YX:aN vw:={rcut:=bG}
def Wn:Sig vw:=sg [Dq3,Dq5] bG [.tmp 4]
noncomputable def Pk(v:(List aB)×ByteArray×Unit):Option (Int×Unit):=ph v>>=λx1=>some ((x1.1,()))
def Ly:=kO uB k0
def x50:Xc vw:=mX prog 8 Ly.1 YX [] [] []
theorem wW:aM prog 50 Wn Pk:=fn0 x50 Tryz.func50 Ly.2
def T_:Cut SN:=⟨[(6, .bp 6 0),(8, .bp 8 0),(9, .bp 9 0),(131,Dq4)],[(6, .st .myShapeT),(8, .st .myShapeT),(9, .st .myShapeT)]⟩
def QE:Cut SN:=⟨[(0,Dq3),(4, .bp 4 0),(5, .bp 5 0),(6, .bp 6 0),(8, .bp 8 0),(9, .bp 9 0),(27,Dq1),(50,Dq4)],[(4, .st .myFuncT),(5, .st .myCodeT),(6, .st .myShapeT),(8, .st .myShapeT),(9, .st .myShapeT)]⟩
def QF:Cut SN:=⟨[(0,Dq3),(4, .bp 4 0),(5, .bp 5 0),(6, .bp 6 0),(8, .bp 8 0),(9, .bp 9 0),(27,Dq1),(76,Dq4)],[(4, .st .myFuncT),(5, .st .myCodeT),(6, .st .myShapeT),(8, .st .myShapeT),(9, .st .myShapeT)]⟩
def QG:Cut SN:=⟨[(0,Dq3),(4, .bp 4 0),(5, .bp 5 0),(6, .bp 6 0),(8, .bp 8 0),(9, .bp 9 0),(27,Dq1),(84,Dq4)],[(4, .st .myFuncT),(5, .st .myCodeT),(6, .st .myShapeT),(8, .st .myShapeT),(9, .st .myShapeT)]⟩
def CE:Cut SN:=⟨[(6, .bp 6 0),(9, .bp 9 0)],[(6, .st .myShapeT),(9, .st .myShapeT)]⟩
def Xw:Cut SN:=⟨[(6, .bp 6 0),(7,Dq4)],[(6, .st .myShapeT)]⟩
def Zd:aN vw:={rcut:=Xw}
abbrev lZ:Pt SN:= .dat (.st .myCodeT)
def Wz:Sig vw:=sg [Dq3,Ci,lZ] Xw [.cell 6 118, .tmp 7]
abbrev Xh:=(List aB)×aB×aQ×Unit
noncomputable def Us(v:Xh):Option (Bool×cn×Unit):=let c:=v.2.2.1;let G1:=(cn.mk false false false false);(if(c.op==0)=true then GN (c.a,(-2147483648:Int),(2147483648:Int),())>>=λx1=>(AO (c.type0,())>>=λx2=>if x2.1=true then some ((G1,cn.mk x1.1 (cn.mk (c.a==0) (c.b==0) (Mp.ieq c.type0.base (aF.mk (0:Int) (0:Int) (aaK #[]) false false).base&&(Mp.ieq c.type0.bits (aF.mk (0:Int) (0:Int) (aaK #[]) false false).bits&&(Mp.seq c.type0.name0 (aF.mk (0:Int) (0:Int) (aaK #[]) false false).name0&&(Mp.beq c.type0.opt (aF.mk (0:Int) (0:Int) (aaK #[]) false false).opt&&Mp.beq c.type0.err (aF.mk (0:Int) (0:Int) (aaK #[]) false false).err)))) (c.name0.toList==(aaK #[]).toList)).b true (cn.mk (c.a==0) (c.b==0) (Mp.ieq c.type0.base (aF.mk (0:Int) (0:Int) (aaK #[]) false false).base&&(Mp.ieq c.type0.bits (aF.mk (0:Int) (0:Int) (aaK #[]) false false).bits&&(Mp.seq c.type0.name0 (aF.mk (0:Int) (0:Int) (aaK #[]) false false).name0&&(Mp.beq c.type0.opt (aF.mk (0:Int) (0:Int) (aaK #[]) false false).opt&&Mp.beq c.type0.err (aF.mk (0:Int) (0:Int) (aaK #[]) false false).err)))) (c.name0.toList==(aaK #[]).toList)).name0,()))else Em (c.type0,())>>=λx3=>if x3.1=true then some ((G1,cn.mk x1.1 (cn.mk (c.a==0) (c.b==0) (Mp.ieq c.type0.base (aF.mk (0:Int) (0:Int) (aaK #[]) false false).base&&(Mp.ieq c.type0.bits (aF.mk (0:Int) (0:Int) (aaK #[]) false false).bits&&(Mp.seq c.type0.name0 (aF.mk (0:Int) (0:Int) (aaK #[]) false false).name0&&(Mp.beq c.type0.opt (aF.mk (0:Int) (0:Int) (aaK #[]) false false).opt&&Mp.beq c.type0.err (aF.mk (0:Int) (0:Int) (aaK #[]) false false).err)))) (c.name0.toList==(aaK #[]).toList)).b (decide (c.type0.base<=1)) (cn.mk (c.a==0) (c.b==0) (Mp.ieq c.type0.base (aF.mk (0:Int) (0:Int) (aaK #[]) false false).base&&(Mp.ieq c.type0.bits (aF.mk (0:Int) (0:Int) (aaK #[]) false false).bits&&(Mp.seq c.type0.name0 (aF.mk (0:Int) (0:Int) (aaK #[]) false false).name0&&(Mp.beq c.type0.opt (aF.mk (0:Int) (0:Int) (aaK #[]) false false).opt&&Mp.beq c.type0.err (aF.mk (0:Int) (0:Int) (aaK #[]) false false).err)))) (c.name0.toList==(aaK #[]).toList)).name0,()))else some ((G1,cn.mk x1.1 (cn.mk (c.a==0) (c.b==0) (Mp.ieq c.type0.base (aF.mk (0:Int) (0:Int) (aaK #[]) false false).base&&(Mp.ieq c.type0.bits (aF.mk (0:Int) (0:Int) (aaK #[]) false false).bits&&(Mp.seq c.type0.name0 (aF.mk (0:Int) (0:Int) (aaK #[]) false false).name0&&(Mp.beq c.type0.opt (aF.mk (0:Int) (0:Int) (aaK #[]) false false).opt&&Mp.beq c.type0.err (aF.mk (0:Int) (0:Int) (aaK #[]) false false).err)))) (c.name0.toList==(aaK #[]).toList)).b false (cn.mk (c.a==0) (c.b==0) (Mp.ieq c.type0.base (aF.mk (0:Int) (0:Int) (aaK #[]) false false).base&&(Mp.ieq c.type0.bits (aF.mk (0:Int) (0:Int) (aaK #[]) false false).bits&&(Mp.seq c.type0.name0 (aF.mk (0:Int) (0:Int) (aaK #[]) false false).name0&&(Mp.beq c.type0.opt (aF.mk (0:Int) (0:Int) (aaK #[]) false false).opt&&Mp.beq c.type0.err (aF.mk (0:Int) (0:Int) (aaK #[]) false false).err)))) (c.name0.toList==(aaK #[]).toList)).name0,())))>>=λx2=>some (abr x2)else(if(c.op==2)=true then some ((v.1,c.op,true,v.2.1,c,G1,cn.mk (c.a==0) (c.b==0) (Mp.ieq c.type0.base (aF.mk (0:Int) (0:Int) (aaK #[]) false false).base&&(Mp.ieq c.type0.bits (aF.mk (0:Int) (0:Int) (aaK #[]) false false).bits&&(Mp.seq c.type0.name0 (aF.mk (0:Int) (0:Int) (aaK #[]) false false).name0&&(Mp.beq c.type0.opt (aF.mk (0:Int) (0:Int) (aaK #[]) false false).opt&&Mp.beq c.type0.err (aF.mk (0:Int) (0:Int) (aaK #[]) false false).err)))) (c.name0.toList==(aaK #[]).toList),cn.mk (c.a==0) (c.b==0) (Mp.ieq c.type0.base (aF.mk (0:Int) (0:Int) (aaK #[]) false false).base&&(Mp.ieq c.type0.bits (aF.mk (0:Int) (0:Int) (aaK #[]) false false).bits&&(Mp.seq c.type0.name0 (aF.mk (0:Int) (0:Int) (aaK #[]) false false).name0&&(Mp.beq c.type0.opt (aF.mk (0:Int) (0:Int) (aaK #[]) false false).opt&&Mp.beq c.type0.err (aF.mk (0:Int) (0:Int) (aaK #[]) false false).err)))) (c.name0.toList==(aaK #[]).toList),()))else some ((v.1,c.op,c.op==3,v.2.1,c,G1,cn.mk (c.a==0) (c.b==0) (Mp.ieq c.type0.base (aF.mk (0:Int) (0:Int) (aaK #[]) false false).base&&(Mp.ieq c.type0.bits (aF.mk (0:Int) (0:Int) (aaK #[]) false false).bits&&(Mp.seq c.type0.name0 (aF.mk (0:Int) (0:Int) (aaK #[]) false false).name0&&(Mp.beq c.type0.opt (aF.mk (0:Int) (0:Int) (aaK #[]) false false).opt&&Mp.beq c.type0.err (aF.mk (0:Int) (0:Int) (aaK #[]) false false).err)))) (c.name0.toList==(aaK #[]).toList),cn.mk (c.a==0) (c.b==0) (Mp.ieq c.type0.base (aF.mk (0:Int) (0:Int) (aaK #[]) false false).base&&(Mp.ieq c.type0.bits (aF.mk (0:Int) (0:Int) (aaK #[]) false false).bits&&(Mp.seq c.type0.name0 (aF.mk (0:Int) (0:Int) (aaK #[]) false false).name0&&(Mp.beq c.type0.opt (aF.mk (0:Int) (0:Int) (aaK #[]) false false).opt&&Mp.beq c.type0.err (aF.mk (0:Int) (0:Int) (aaK #[]) false false).err)))) (c.name0.toList==(aaK #[]).toList),())))>>=λx1=>let d:=x1.2.2.2;let e:=d.2.2.2.2.1;let f:=x1.2.1;if x1.2.2.1=true then GN (d.2.1.a,(0:Int),i64.wrap (d.1.places-1),())>>=λx2=>some (abr (d.2.2.1,cn.mk x2.1 e.b e.kind e.name0,()))else if(f==5)=true then GN (d.2.1.a,(5:Int),(17:Int),())>>=λx2=>AO (d.2.1.type0,())>>=λx3=>some (abr (d.2.2.1,cn.mk x2.1 e.b x3.1 e.name0,()))else if(f==6)=true then GN (d.2.1.a,(18:Int),(23:Int),())>>=λx2=>some (abr (d.2.2.1,cn.mk x2.1 e.b e.kind e.name0,()))else(if(f==7)=true then some (x1.1,f,true,d)else if(f==9)=true then some (x1.1,f,true,d)else some (x1.1,f,f==10,d))>>=λx2=>let g:=x2.2.2.2;let h:=x2.2.1;let G2:=(x2.1,h,true,g);if x2.2.2.1=true then AO (g.2.1.type0,())>>=λx3=>some (abr (g.2.2.1,cn.mk g.2.2.2.2.1.a g.2.2.2.2.1.b x3.1 g.2.2.2.2.1.name0,()))else(if(h==12)=true then some (G2)else if(h==13)=true then some (G2)else if(h==14)=true then some (G2)else some (x2.1,h,h==15,g))>>=λx3=>let i:=x3.2.2.2.2;let j:=i.2.2.2.1;let k:=x3.2.1;let G3:=(true,i.2);if x3.2.2.1=true then GN (i.1.a,(0:Int),i64.wrap ((↑x3.2.2.2.1.code.length:Int) -1),())>>=λx4=>some (abr (i.2.1,cn.mk x4.1 j.b j.kind j.name0,()))else if(k==16)=true then Pk (x3.1,i.1.name0,())>>=λx4=>(if decide (x4.1>=0)=true then if 0<=x4.1 then x3.1[x4.1.toNat]?>>=λx5=>some ((i.2.1,cn.mk j.a (i.1.b==x5.params) j.kind (decide (x4.1>=0)),()))else none else some ((i.2.1,cn.mk j.a false j.kind (decide (x4.1>=0)),())))>>=λx5=>some (abr x5)else if(k==18)=true then Pn (i.1.name0,())>>=λx4=>some (abr (i.2.1,cn.mk j.a j.b j.kind x4.1,()))else if(k==19)=true then GN (i.1.a,(1:Int),(5:Int),())>>=λx4=>some (abr (i.2.1,cn.mk x4.1 j.b j.kind j.name0,()))else(if(k==1)=true then some (G3)else if(k==4)=true then some (G3)else if(k==8)=true then some (G3)else if(k==11)=true then some (G3)else some (k==17,i.2))>>=λx4=>if x4.1=true then some (abr (x4.2.1,x4.2.2.2))else some (abQ (false,x4.2.2.1,())))>>=λx1=>match x1 with| .inl y1=>some (true,y1.2)| .inr y1=>some y1
def LI:=kP wW (kP w9 (kP E4 (kP H9 (kP yW k0))))
def x71:Xc vw:=mX prog 138 LI.1 Zd [(4,T_,[.norm]),(10,QE,[.norm]),(18,QF,[.norm]),(23,QG,[.norm]),(36,CE,[.norm, .ret])] [(7,CE),(26,CE)] []
theorem Oe:aM prog 71 Wz Us:=fn0 x71 Tryz.func71 LI.2
def lH:Cut SN:=⟨[(1, .bp 100000 0),(2, .bp 100001 0),(4,Dq4)],[(100000, .box none [Dq3]),(100001, .st .myFuncT)]⟩
def FV:aN vw:={rcut:=lH}
def BN:Sig vw:={params:=[lZ, .bp 100000 0, .bp 100001 0],objs:=[(100000, .box none [Dq3]),(100001, .st .myFuncT)],rcut:=lH,rvars:=[.tmp 4],keep:=[100000,100001]}
abbrev Xj:=Bool×(List aB)×aB×Unit
noncomputable def kU(v:aQ×(List aB)×aB×Unit):Option (Xj):=let G1:=(cn.mk true true true true);Us (v.2.1,v.2.2.1,v.1,())>>=λx1=>(if(!x1.1)=true then some (true,v.2)else some ((!(Mp.beq x1.2.1.a G1.a&&(Mp.beq x1.2.1.b G1.b&&(Mp.beq x1.2.1.kind G1.kind&&Mp.beq x1.2.1.name0 G1.name0))),v.2)))>>=λx2=>some (x2)
def oa:=kP Oe k0
def Kv:Xc vw:=mX prog 21 oa.1 FV [] [(2,lH)] []
theorem uD:aM prog 70 BN kU:=fn0 Kv Tryz.func70 oa.2
abbrev Dq8:Pt SN:= .dat (.sl (.st .myCodeT))
def n4:Cut SN:=⟨[(0,Dq8),(1, .fn 70 [] [100000,100001]),(7,Dq1),(8,Dq1)],[(100000, .box none [Dq3]),(100001, .st .myFuncT)]⟩
def vW:Cut SN:=⟨[(1, .fn 70 [] [100000,100001])],[(100000, .box none [Dq3]),(100001, .st .myFuncT)]⟩
def qA:Cut SN:=⟨[(1, .fn 70 [] [100000,100001]),(4,Dq1)],[(100000, .box none [Dq3]),(100001, .st .myFuncT)]⟩
def BC:aN vw:=shL [(0,vW)] qA
def xx:Sig vw:={params:=[Dq8, .fn 70 [] [100000,100001]],objs:=[(100000, .box none [Dq3]),(100001, .st .myFuncT)],rcut:=qA,rvars:=[.tmp 4],keep:=[100000,100001]}
noncomputable def da(v:(List aQ)×Int×Int×(List aB)×aB×Unit):Option (((Int×(List aB)×aB×Unit)⊕((List aB)×aB×Unit))):=let a:=v.2.2;if decide (a.1<v.2.1)=true then if 0<=a.1 then v.1[a.1.toNat]?>>=λx1=>kU (x1,a.2)>>=λx2=>if x2.1=true then some (abr (a.1,x2.2))else da (v.1,v.2.1,i64.wrap (a.1+1),x2.2)else none else some (abQ a.2) partial_fixpoint
abbrev Xg:=(List aQ)×(List aB)×aB×Unit
noncomputable def lO(v:Xg):Option (Int×(List aB)×aB×Unit):=da (v.1,(↑v.1.length:Int),(0:Int),v.2)>>=λx1=>match x1 with| .inl y1=>some y1| .inr y1=>some (((-1:Int),y1))
def iJ:=kO uD k0
def vD:Xc vw:=mX prog 19 iJ.1 BC [] [] [(2,⟨n4,[.ret, .exit 0],da⟩)]
theorem pa:fB vD (aS (aO Tryz.f117) 0) ⟨n4,[.ret, .exit 0],da⟩:=lp0 da.partial_correctness iJ.2
theorem sM:aM prog 117 xx lO:=fn1 vD Tryz.func117 iJ.2 pa
def tM:Cut SN:=⟨[(1, .fn 70 [] [100000,100001]),(4,Dq4)],[(100000, .box none [Dq3]),(100001, .st .myFuncT)]⟩
def FU:aN vw:={rcut:=tM}
def BM:Sig vw:={params:=[Dq8, .fn 70 [] [100000,100001]],objs:=[(100000, .box none [Dq3]),(100001, .st .myFuncT)],rcut:=tM,rvars:=[.tmp 4],keep:=[100000,100001]}
noncomputable def kT(v:Xg):Option (Xj):=lO v>>=λx1=>some ((decide (x1.1>=0),x1.2))
def n_:=kO sM k0
def Ku:Xc vw:=mX prog 9 n_.1 FU [] [] []
theorem uC:aM prog 69 BM kT:=fn0 Ku Tryz.func69 n_.2
def T6:Cut SN:=⟨[(2, .bp 2 0),(3, .bp 3 0),(34,Dq4)],[(2, .box none [Dq3]),(3, .st .myFuncT)]⟩
def YW:aN vw:={rcut:=cw}
def Wm:Sig vw:=sg [Dq3,Ci] cw [.tmp 4]
noncomputable def Tu(v:(List aB)×aB×Unit):Option (Bool×Unit):=(Pn (v.2.1.name0,())>>=λx1=>if(!x1.1)=true then some (true,v)else GN (v.2.1.params,(0:Int),v.2.1.places,())>>=λx2=>if(!x2.1)=true then some (true,v)else if((↑v.2.1.code.length:Int)==0)=true then some (true,v)else Rm (v.2.1.type0,())>>=λx3=>if(x3.1 !=0)=true then some (true,v)else some ((decide (v.2.1.type0.base>=4),v)))>>=λx1=>if x1.1=true then some ((false,()))else kT (x1.2.2.1.code,x1.2)>>=λx2=>some ((!x2.1,()))
def Lx:=kP w9 (kP E4 (kP E5 (kO uC k0)))
def x49:Xc vw:=mX prog 40 Lx.1 YW [] [(1,T6)] []
theorem N_:aM prog 49 Wm Tu:=fn0 x49 Tryz.func49 Lx.2
def Ql:Cut SN:=⟨[(0,Dq3),(17,Dq3),(18,Dq1),(19,Dq1)],[]⟩
def T0:Cut SN:=⟨[(0,Dq3),(16,Dq4)],[]⟩
def T1:Cut SN:=⟨[(0,Dq3),(17,Dq3),(18,Dq1),(19,Dq1),(35,Dq4)],[]⟩
def YN:aN vw:=shL [(0,dL)] nj
def We:Sig vw:=sg [Dq3] nj [.tmp 2]
noncomputable def mi(v:(List aB)×(List aB)×Int×Int×Unit):Option (((Int×Unit)⊕(Unit))):=let a:=v.2.2.2.1;if decide (a<v.2.2.1)=true then if 0<=a then v.2.1[a.toNat]?>>=λx1=>(Tu (v.1,x1,())>>=λx2=>if(!x2.1)=true then some ((v.1,v.2.1,v.2.2.1,a,true,()))else Pk (v.1,x1.name0,())>>=λx3=>some ((v.1,v.2.1,v.2.2.1,a,x3.1 !=a,())))>>=λx2=>if x2.2.2.2.2.1=true then some (abr ((1:Int),()))else mi (x2.1,x2.2.1,x2.2.2.1,i64.wrap (x2.2.2.2.1+1),())else none else some (abQ ()) partial_fixpoint
noncomputable def Pj(v:(List aB)×Unit):Option (Int×Unit):=(if decide ((↑v.1.length:Int)>48)=true then some ((v.1,true,()))else Tt v>>=λx1=>if decide (x1.1>2000)=true then some ((v.1,true,()))else sT v>>=λx2=>some (v.1,x2))>>=λx1=>if x1.2.1=true then some (((3:Int),()))else mi (x1.1,x1.1,(↑x1.1.length:Int),(0:Int),())>>=λx2=>match x2 with| .inl y2=>some y2| .inr y2=>some (((0:Int),()))
def Di:=kP N8 (kP Bd (kP N_ (kP wW k0)))
def x37:Xc vw:=mX prog 37 Di.1 YN [] [(1,T0),(6,T1)] [(4,⟨Ql,[.ret, .exit 0],mi⟩)]
theorem EL:fB x37 (aS (aO Tryz.f37) 0) ⟨Ql,[.ret, .exit 0],mi⟩:=lp0 mi.partial_correctness Di.2
theorem wV:aM prog 37 We Pj:=fn1 x37 Tryz.func37 Di.2 EL
def Al:Cut SN:=⟨[(0,Dq1),(1, .bp 100000 0),(9,Dq4)],[(100000, .box none [Dq1])]⟩
def tO:Cut SN:=⟨[(1, .bp 100000 0)],[(100000, .box none [Dq1])]⟩
def FX:aN vw:={rcut:=tO}
def BP:Sig vw:={params:=[Dq1, .bp 100000 0],objs:=[(100000, .box none [Dq1])],rcut:=tO,rvars:=[],keep:=[100000]}
noncomputable def gT(v:Int×Int×Unit):Option (Int×Unit):=(if decide (v.2.1<0)=true then some (v.1,true,v.2)else some ((v.1,decide (v.1<v.2.1),v.2)))>>=λx1=>if x1.2.1=true then some ((x1.1,()))else some (x1.2.2)
def Kx:Xc vw:=mX prog 11 c0 FX [] [(0,Al)] []
theorem uF:aM prog 73 BP gT:=fn0 Kx Tryz.func73 bP
abbrev KZ:OPt SN:= .que 123 (.st .pointT)
def tP:Cut SN:=⟨[(1, .bp 100000 0),(2, .bp 100001 0)],[(100000, .box none [.mp 100002]),(100001, .box none [.vh 3010]),(100002, .map (.st .pointT) .bool),(3010,KZ)]⟩
def FY:aN vw:={rcut:=tP}
def BQ:Sig vw:={params:=[.dat (.st .pointT), .bp 100000 0, .bp 100001 0],objs:=[(100000, .box none [.mp 100002]),(100001, .box none [.vh 100003]),(100002, .map (.st .pointT) .bool),(100003,KZ)],rcut:=tP,rvars:=[],keep:=[100000,100001,100002,3010]}
noncomputable def fL(v:aZ×(List (aZ×Bool))×(List aZ)×Unit):Option ((List (aZ×Bool))×(List aZ)×Unit):=if(!(Mp.get (λx y=>Mp.ieq x.at0 y.at0&&Mp.ieq x.height y.height) v.1 v.2.1).getD false)=true then if v.2.2.1.length+[v.1].length<=4294967296 then some ((Mp.set (λx y=>Mp.ieq x.at0 y.at0&&Mp.ieq x.height y.height) (λx x_1=>false) v.1 true v.2.1,v.2.2.1++[v.1],()))else none else some (v.2)
def Ky:Xc vw:=mX prog 14 c0 FY [] [] []
theorem uG:aM prog 74 BQ fL:=fn0 Ky Tryz.func74 bP
def Ua:Cut SN:=⟨[(1, .bp 1 0),(2, .bp 2 0),(4,Dq1),(5,Dq4)],[(1, .st .myCodeT),(2, .st .stepT)]⟩
def QH:Cut SN:=⟨[(1, .bp 1 0),(2, .bp 2 0),(4,Dq1),(11,Dq4)],[(1, .st .myCodeT),(2, .st .stepT)]⟩
def QI:Cut SN:=⟨[(1, .bp 1 0),(2, .bp 2 0),(4,Dq1),(16,Dq4)],[(1, .st .myCodeT),(2, .st .stepT)]⟩
def QJ:Cut SN:=⟨[(2, .bp 2 0),(4,Dq1),(25,Dq4)],[(2, .st .stepT)]⟩
def Xx:Cut SN:=⟨[(2, .bp 2 0)],[(2, .st .stepT)]⟩
def Ze:aN vw:={rcut:=Xx}
def WA:Sig vw:=sg [lZ] Xx [.cell 2 130]
noncomputable def TB(v:aQ×Unit):Option (vN×Unit):=let G1:=(vN.mk (0:Int) (0:Int) false,());let G2:=(v.1.op,true,v.1,G1);(if(v.1.op==0)=true then some (G2)else if(v.1.op==1)=true then some (G2)else if(v.1.op==2)=true then some (G2)else some (v.1.op,v.1.op==18,v.1,G1))>>=λx1=>if x1.2.1=true then some ((vN.mk (0:Int) (1:Int) true,()))else(if(x1.1==3)=true then some (x1.1,true,x1.2.2)else if(x1.1==4)=true then some (x1.1,true,x1.2.2)else some (x1.1,x1.1==15,x1.2.2))>>=λx2=>if x2.2.1=true then some ((vN.mk (1:Int) (0:Int) true,()))else(if(x2.1==5)=true then some (x2.1,true,x2.2.2)else some (x2.1,x2.1==6,x2.2.2))>>=λx3=>if x3.2.1=true then some ((vN.mk (2:Int) (1:Int) true,()))else if(x3.1==16)=true then some ((vN.mk x3.2.2.1.b (1:Int) true,()))else(if(x3.1==14)=true then some (x3.1,true,x3.2.2.2)else some (x3.1,x3.1==19,x3.2.2.2))>>=λx4=>if x4.2.1=true then some (G1)else if(x4.1==17)=true then some ((vN.mk (1:Int) (0:Int) false,()))else some ((vN.mk (1:Int) (1:Int) true,()))
def x75:Xc vw:=mX prog 33 c0 Ze [(6,Ua,[.norm]),(10,QH,[.norm]),(13,QI,[.norm]),(18,QJ,[.norm])] [] []
theorem Of:aM prog 75 WA TB:=fn0 x75 Tryz.func75 bP
def Zf:aN vw:={rcut:=eO}
def WB:Sig vw:=sg [Dq1] eO [.tmp 2]
noncomputable def TC(v:Int×Unit):Option (Bool×Unit):=(if(v.1==12)=true then some ((true,()))else if(v.1==13)=true then some ((true,()))else if(v.1==14)=true then some ((true,()))else some ((v.1==15,())))>>=λx1=>if x1.1=true then some ((true,()))else some ((false,()))
def x76:Xc vw:=mX prog 9 c0 Zf [(6,cw,[.norm])] [] []
theorem Og:aM prog 76 WB TC:=fn0 x76 Tryz.func76 bP
def Qv:Cut SN:=⟨[(1, .bp 1 0),(4, .bp 4 0),(5, .mp 20),(6, .bp 6 0),(7, .bp 7 0),(8, .fn 73 [] [7]),(9, .fn 74 [] [4,6])],[(1, .st .myFuncT),(4, .box none [.mp 17]),(20, .map (.int .i64) (.int .i64)),(6, .box none [.vh 3060]),(7, .box none [Dq1]),(17, .map (.st .pointT) .bool),(3060,KZ)]⟩
def Qs:Cut SN:=⟨[(1, .bp 1 0),(4, .bp 4 0),(5, .mp 20),(6, .bp 6 0),(7, .bp 7 0),(8, .fn 73 [] [7]),(9, .fn 74 [] [4,6]),(10, .bp 10 0)],[(1, .st .myFuncT),(4, .box none [.mp 17]),(20, .map (.int .i64) (.int .i64)),(6, .box none [.vh 3060]),(7, .box none [Dq1]),(10, .st .pointT),(17, .map (.st .pointT) .bool),(3060,KZ)]⟩
def Qt:Cut SN:=⟨[(1, .bp 1 0),(4, .bp 4 0),(5, .mp 20),(6, .bp 6 0),(7, .bp 7 0),(8, .fn 73 [] [7]),(9, .fn 74 [] [4,6]),(10, .bp 10 0),(13, .bp 13 0),(14, .bp 14 0),(15,Dq1),(16,Dq1)],[(1, .st .myFuncT),(4, .box none [.mp 17]),(20, .map (.int .i64) (.int .i64)),(6, .box none [.vh 3060]),(7, .box none [Dq1]),(10, .st .pointT),(13, .st .myCodeT),(14, .st .stepT),(17, .map (.st .pointT) .bool),(3060,KZ)]⟩
def Qu:Cut SN:=⟨[(1, .bp 1 0),(4, .bp 4 0),(5, .mp 20),(6, .bp 6 0),(7, .bp 7 0),(8, .fn 73 [] [7]),(9, .fn 74 [] [4,6]),(10, .bp 10 0),(14, .bp 14 0),(15,Dq1)],[(1, .st .myFuncT),(4, .box none [.mp 17]),(20, .map (.int .i64) (.int .i64)),(6, .box none [.vh 3060]),(7, .box none [Dq1]),(10, .st .pointT),(14, .st .stepT),(17, .map (.st .pointT) .bool),(3060,KZ)]⟩
def Qw:Cut SN:=⟨[(1, .bp 1 0),(4, .bp 4 0),(5, .mp 20),(6, .bp 6 0),(7, .bp 7 0),(8, .fn 73 [] [7]),(9, .fn 74 [] [4,6]),(10, .bp 10 0),(46,Dq4)],[(1, .st .myFuncT),(4, .box none [.mp 17]),(20, .map (.int .i64) (.int .i64)),(6, .box none [.vh 3060]),(7, .box none [Dq1]),(10, .st .pointT),(17, .map (.st .pointT) .bool),(3060,KZ)]⟩
def Qx:Cut SN:=⟨[(1, .bp 1 0),(4, .bp 4 0),(5, .mp 20),(6, .bp 6 0),(7, .bp 7 0),(8, .fn 73 [] [7]),(9, .fn 74 [] [4,6]),(10, .bp 10 0),(13, .bp 13 0),(14, .bp 14 0),(73,Dq4)],[(1, .st .myFuncT),(4, .box none [.mp 17]),(20, .map (.int .i64) (.int .i64)),(6, .box none [.vh 3060]),(7, .box none [Dq1]),(10, .st .pointT),(13, .st .myCodeT),(14, .st .stepT),(17, .map (.st .pointT) .bool),(3060,KZ)]⟩
def T7:Cut SN:=⟨[(4, .bp 4 0),(7, .bp 7 0)],[(4, .box none [.mp 17]),(7, .box none [Dq1]),(17, .map (.st .pointT) .bool)]⟩
def Xq:Cut SN:=⟨[(2, .mp 2002),(3,Dq1)],[(2002, .map (.st .pointT) .bool)]⟩
def YY:aN vw:=shL [(0,T7)] Xq
def Uw:Nat->Bool:=λk=>match k with|6000022=>true|_=>false
def Wo:Sig vw:={params:=[Ci],rcut:=Xq,rvars:=[.tmp 2, .tmp 3],keep:=[2002]}
noncomputable def fc(v:aB×(List (Int×Int))×Int×(List (aZ×Bool))×(List aZ)×Unit):Option ((Int×(List (aZ×Bool))×Unit)):=let b:=v.2.2.2.2.1;if decide ((↑b.length:Int)>0)=true then if(0:Int)<=0/\0<(↑b.length:Int)then b[abb 0]?>>=λx1=>let G3:=(v.1,v.2.1,v.2.2.1,x1,v.2.2.2.1,ac6 (abb 1) b,());if(1:Int)<=(↑b.length:Int)then((if(Mp.get Mp.ieq x1.at0 v.2.1).isSome=true then some (((Mp.get Mp.ieq x1.at0 v.2.1).getD (0:Int) !=x1.height,G3))else some (false,G3))>>=λx2=>if x2.1=true then gT (x2.2.2.2.2.1.at0,x2.2.2.2.1,())>>=λx3=>some (x2.2.1,x2.2.2.1,x3.1,x2.2.2.2.2)else some (x2.2))>>=λx2=>let c:=x2.2.2.2.1;if 0<=c.at0 then x2.1.code[c.at0.toNat]?>>=λx3=>TB (x3,())>>=λx4=>let G2:=(x2.1,Mp.set Mp.ieq Mp.ilt c.at0 c.height x2.2.1,x2.2.2.1,c,x3,x4.1,x2.2.2.2.2);(if decide (c.height<x4.1.takes)=true then some (true,G2)else some ((decide (c.height>64),G2)))>>=λx5=>let e:=x5.2;let d:=e.2.2.2;let G1:=(i64.wrap (d.1.height-d.2.2.1.takes)+d.2.2.1.puts);if x5.1=true then gT (d.1.at0,e.2.2.1,())>>=λx6=>fc (e.1,e.2.1,x6.1,d.2.2.2)else(TC (d.2.1.op,())>>=λx6=>if x6.1=true then(if(d.2.1.op==12)=true then some ((i64.wrap G1,i64.wrap (i64.wrap G1-1),e))else some (i64.wrap G1,i64.wrap G1,e))>>=λx7=>let f:=x7.2.2.2.2;fL (aZ.mk f.2.2.1.a x7.2.1,f.2.2.2.2)>>=λx8=>some (x7.1,x7.2.2.1,x7.2.2.2.1,f.1,f.2.1,f.2.2.2.1,x8)else some (i64.wrap G1,e.1,e.2.1,e.2.2.1,d.1,d.2.2))>>=λx6=>let g:=x6.2.2.2;if(!g.2.2.1.goes)=true then fc (x6.2.1,x6.2.2.1,g.1,g.2.2.2)else if(i64.wrap (g.2.1.at0+1)==(↑x6.2.1.code.length:Int))=true then gT (g.2.1.at0,g.1,())>>=λx7=>fc (x6.2.1,x6.2.2.1,x7.1,g.2.2.2)else fL (aZ.mk (i64.wrap (g.2.1.at0+1)) x6.1,g.2.2.2)>>=λx7=>fc (x6.2.1,x6.2.2.1,g.1,x7)else none else none else none else some ((v.2.2.1,v.2.2.2.1,())) partial_fixpoint
noncomputable def Tv(v:aB×Unit):Option (Int×(List (aZ×Bool))×Unit):=fc (v.1,[],(-1:Int),Mp.set (λx y=>Mp.ieq x.at0 y.at0&&Mp.ieq x.height y.height) (λx x_1=>false) (aZ.mk (0:Int) (0:Int)) true [],[aZ.mk (0:Int) (0:Int)],())>>=λx1=>some (x1)
def Dm:=kO uF (kO uG (kP Of (kP Og k0)))
def x51:Xc vw:={P:=prog,n:=124,call:=Dm.1,pre:=Uw,sh:=YY,joins:=λk=>match k with|13=>some (Qs,[.norm])|23=>some (Qt,[.norm])|24=>some (Qu,[.norm])|_=>none,regs:=λk=>match k with|11=>some Qw|16=>some Qx|_=>none,loops:=λk=>match k with|7=>some {cut:=Qv,alts:=[.exit 0],F:=fc}|_=>none}
theorem EV:fB x51 (aS (aO Tryz.f51) 0) ⟨Qv,[.exit 0],fc⟩:=lp0 fc.partial_correctness Dm.2
theorem Oa:aM prog 51 Wo Tv:=fn1 x51 Tryz.func51 Dm.2 EV
def Qm:Cut SN:=⟨[(15,Dq3),(16,Dq1),(17,Dq1)],[]⟩
def Tc:Cut SN:=⟨[(2,Dq1),(3,Dq1),(4,Dq1)],[]⟩
def YO:aN vw:=shL [(0,dL)] Tc
def Wf:Sig vw:=sg [Dq3] Tc [.tmp 2, .tmp 3, .tmp 4]
noncomputable def kR(v:S9):Option (((Ck)⊕(Unit))):=let a:=v.2.2.1;if decide (a<v.2.1)=true then if 0<=a then v.1[a.toNat]?>>=λx1=>Tv (x1,())>>=λx2=>if decide (x2.1>=0)=true then some (abr (a,x2.1,(7:Int),()))else kR (v.1,v.2.1,i64.wrap (a+1),())else none else some (abQ ()) partial_fixpoint
noncomputable def To(v:(List aB)×Unit):Option (Ck):=Pj v>>=λx1=>if(x1.1 !=0)=true then some (((0:Int),(0:Int),x1))else kR (v.1,(↑v.1.length:Int),(0:Int),())>>=λx2=>match x2 with| .inl y2=>some y2| .inr y2=>some (((0:Int),(0:Int),(0:Int),()))
def Dj:=kP wV (kO Oa k0)
def x38:Xc vw:=mX prog 32 Dj.1 YO [] [] [(5,⟨Qm,[.ret, .exit 0],kR⟩)]
theorem EM:fB x38 (aS (aO Tryz.f38) 0) ⟨Qm,[.ret, .exit 0],kR⟩:=lp0 kR.partial_correctness Dj.2
theorem N4:aM prog 38 Wf To:=fn1 x38 Tryz.func38 Dj.2 EM
def Xo:Cut SN:=⟨[(4,Dq1),(5,Dq4),(6,Dq1)],[]⟩
def YP:aN vw:={rcut:=Xo}
def SL:Sig vw:=sg [Dq3,Dq5] Xo [.tmp 4, .tmp 5, .tmp 6]
noncomputable def LU(v:(List aB)×ByteArray×Unit):Option (Int×Bool×Int×Unit):=Pj (v.1,())>>=λx1=>if(x1.1 !=0)=true then some (((0:Int),false,x1))else Pk v>>=λx2=>some ((max x2.1 (0:Int),decide (x2.1>=0),(0:Int),()))
def Lw:=kP wV (kP wW k0)
def x39:Xc vw:=mX prog 21 Lw.1 YP [] [] []
theorem EN:aM prog 39 SL LU:=fn0 x39 Tryz.func39 Lw.2
abbrev lY:Pt SN:= .dat (.sl (.st .myValueT))
def Ll:Cut SN:=⟨[(12,Dq1),(48,lY),(49,Dq1),(50,Dq1)],[]⟩
def Qk:Cut SN:=⟨[(12,Dq1),(48,lY),(49,Dq1),(50,Dq1),(61,Dq4)],[]⟩
def TY:Cut SN:=⟨[(12,Dq1)],[]⟩
def Xk:Cut SN:=⟨[(6,Dq1),(7,Dq1)],[]⟩
def YE:aN vw:=shL [(0,TY)] Xk
def V7:Sig vw:=sg [Dq3,Dq5,lY] Xk [.tmp 6, .tmp 7]
noncomputable def jb(v:Int×(List aE)×Int×Int×Unit):Option (((Int×Int×Unit)⊕(Int×Unit))):=let a:=v.2.2.2.1;if decide (a<v.2.2.1)=true then if 0<=a then v.2.1[a.toNat]?>>=λx1=>(if decide (x1.n<(-2147483648:Int))=true then some ((v.1,v.2.1,v.2.2.1,a,true,()))else some ((v.1,v.2.1,v.2.2.1,a,decide (x1.n>2147483648),())))>>=λx2=>if x2.2.2.2.2.1=true then some (abr ((0:Int),(1:Int),()))else jb (x2.1,x2.2.1,x2.2.2.1,i64.wrap (x2.2.2.2.1+1),())else none else some (abQ (v.1,())) partial_fixpoint
abbrev S8:=(List aB)×ByteArray×(List aE)×Unit
noncomputable def Q9(v:S8):Option (Int×Int×Unit):=Pj (v.1,())>>=λx1=>if(x1.1 !=0)=true then some (((0:Int),x1))else To (v.1,())>>=λx2=>if(x2.2.2.1 !=0)=true then some (((0:Int),x2.2.2))else LU (v.1,v.2.1,())>>=λx3=>if(!x3.2.1)=true then some (((0:Int),(4:Int),()))else if 0<=x3.1 then v.1[x3.1.toNat]?>>=λx4=>if((↑v.2.2.1.length:Int) !=x4.params)=true then some (((0:Int),(10:Int),()))else jb (x3.1,v.2.2.1,(↑v.2.2.1.length:Int),(0:Int),())>>=λx5=>match x5 with| .inl y5=>some y5| .inr y5=>some ((y5.1,(0:Int),()))else none
def Dh:=kP wV (kP N4 (kP EN k0))
def x28:Xc vw:=mX prog 64 Dh.1 YE [] [(15,Qk)] [(13,⟨Ll,[.ret, .exit 0],jb⟩)]
theorem Bb:fB x28 (aS (aO Tryz.f28) 0) ⟨Ll,[.ret, .exit 0],jb⟩:=lp0 jb.partial_correctness Dh.2
theorem EG:aM prog 28 V7 Q9:=fn1 x28 Tryz.func28 Dh.2 Bb
abbrev Oq2:OPt SN:= .vec 31 (.st .myValueT)
def jm:Cut SN:=⟨[(3, .vh 1003),(6,lY),(7,Dq1),(8,Dq1)],[(1003,Oq2)]⟩
def lG:Cut SN:=⟨[(3, .vh 1003)],[(1003,Oq2)]⟩
def tH:Cut SN:=⟨[(2, .vh 2002)],[(2002,Oq2)]⟩
def FR:aN vw:=shL [(0,lG)] tH
def BK:Sig vw:={params:=[lY],rcut:=tH,rvars:=[.tmp 2],keep:=[2002]}
abbrev Xf:=(List aE)×Int×Int×(List aE)×Unit
noncomputable def dU(v:Xf):Option (((List aE)×Unit)):=let a:=v.2.2;if decide (a.1<v.2.1)=true then if 0<=a.1 then v.1[a.1.toNat]?>>=λx1=>if a.2.1.length+[aE.mk (aF.mk (0:Int) (0:Int) (aaK #[]) false false) x1.n x1.null x1.err (aF.mk (0:Int) (0:Int) (aaK #[]) false false)].length<=4294967296 then dU (v.1,v.2.1,i64.wrap (a.1+1),a.2.1++[aE.mk (aF.mk (0:Int) (0:Int) (aaK #[]) false false) x1.n x1.null x1.err (aF.mk (0:Int) (0:Int) (aaK #[]) false false)],())else none else none else some (a.2) partial_fixpoint
noncomputable def kQ(v:(List aE)×Unit):Option ((List aE)×Unit):=dU (v.1,(↑v.1.length:Int),(0:Int),[],())>>=λx1=>some (x1)
def zP:Xc vw:=mX prog 24 c0 FR [] [] [(3,⟨jm,[.exit 0],dU⟩)]
theorem qo:fB zP (aS (aO Tryz.f18) 0) ⟨jm,[.exit 0],dU⟩:=lp0 dU.partial_correctness bP
theorem ux:aM prog 18 BK kQ:=fn1 zP Tryz.func18 bP qo
abbrev Dq6:Pt SN:= .dat (.op (.st .endingT))
abbrev Oq7:OPt SN:= .vec 3 (.int .i64)
def tK:Cut SN:=⟨[(0, .bp 100000 0)],[(100000, .box none [Dq3,Dq4,Dq1, .vh 100001,Dq1, .vh 100002,Dq1,Dq6]),(100001,Oq7),(100002,Oq2)]⟩
def FS:aN vw:={rcut:=tK}
def Bn:Nat->Bool:=λk=>match k with|7000010=>true|_=>false
def rz:Sig vw:={params:=[.bp 100000 0,Dq1,Dq1],objs:=[(100000, .box none [Dq3,Dq4,Dq1, .vh 100001,Dq1, .vh 100002,Dq1,Dq6]),(100001,Oq7),(100002,Oq2)],rcut:=tK,rvars:=[],keep:=[100000,100001,100002]}
noncomputable def d_(v:Int×Int×(List aB)×Bool×Int×Int×Int×(Option bX)×(List Int)×(List aE)×Unit):Option ((List aB)×Bool×Int×Int×Int×(Option bX)×(List Int)×(List aE)×Unit):=let a:=v.2.2.2;some ((v.2.2.1,a.1,a.2.1,a.2.2.1,a.2.2.2.1,some (bX.mk v.1 v.2.1),a.2.2.2.2.2))
def Kt:Xc vw:={P:=prog,n:=13,call:=c0,pre:=Bn,sh:=FS}
theorem gu:aM prog 52 rz d_:=fn0 Kt Tryz.func52 bP
def Xr:Cut SN:=⟨[(0, .bp 0 0)],[(0, .bar 20 .fno)]⟩
def YZ:aN vw:={rcut:=Xr}
def SM:Sig vw:=sg [] Xr [.cell 0 102]
noncomputable def Re(v:Unit):Option ((List (Option Nat))×Unit):=some (([some (77:Nat),some (78:Nat),some (79:Nat),some (80:Nat),some (81:Nat),some (82:Nat),some (83:Nat),some (84:Nat),some (85:Nat),some (86:Nat),some (87:Nat),some (88:Nat),some (89:Nat),some (90:Nat),some (91:Nat),some (92:Nat),some (93:Nat),some (94:Nat),some (95:Nat),some (96:Nat)],()))
def x53:Xc vw:=mX prog 2 c0 YZ [] [] []
theorem EW:aM prog 53 SM Re:=fn0 x53 Tryz.func53 bP
abbrev Dq9:Pt SN:= .dat (.op (.st .myValueT))
def aT:Cut SN:=⟨[(0, .bp 100000 0)],[(100000, .box none [.bp 100001 0,Dq5,Dq1,Dq1,Dq1,Dq1,Dq5,Dq4,Dq4,Dq8, .vh 100002, .vh 3011,Dq1,Dq1,Dq9]),(100001, .box none [Dq3,Dq4,Dq1, .vh 100004,Dq1, .vh 100005,Dq1,Dq6]),(100002,Oq2),(3011,Oq2),(100004,Oq7),(100005,Oq2)]⟩
def BD:aN vw:={rcut:=aT}
abbrev TN:Pt SN:= .dat (.st .myValueT)
def pP:Sig vw:={params:=[.bp 100000 0,TN],objs:=[(100000, .box none [.bp 100001 0,Dq5,Dq1,Dq1,Dq1,Dq1,Dq5,Dq4,Dq4,Dq8, .vh 100002, .vh 100003,Dq1,Dq1,Dq9]),(100001, .box none [Dq3,Dq4,Dq1, .vh 100004,Dq1, .vh 100005,Dq1,Dq6]),(100002,Oq2),(100003,Oq2),(100004,Oq7),(100005,Oq2)],rcut:=aT,rvars:=[],keep:=[100000,100001,100002,3011,100004,100005]}
abbrev Tq1:=ByteArray×Int×Int×Int×Int×ByteArray×Bool×Bool×(List aQ)×Int×Int×(Option aE)×(List aB)×Bool×Int×Int×Int×(Option bX)×(List aE)×(List aE)×(List Int)×(List aE)×Unit
noncomputable def cM(v:aE×ByteArray×Int×Int×Int×Int×ByteArray×Bool×Bool×(List aQ)×Int×Int×(Option aE)×(List aB)×Bool×Int×Int×Int×(Option bX)×(List aE)×(List aE)×(List Int)×(List aE)×Unit):Option (Tq1):=let e:=v.2.2;let c:=e.2.2.2;let f:=c.2.2;let a:=f.2.2.2;let g:=a.2.2;let b:=g.2.2.2;let d:=b.2.2.2.2;let G1:=(b.2.2.2.1,d.1,d.2.1++[v.1],d.2.2);if d.2.1.length+[v.1].length<=4294967296 then if(a.1==1)=true then some ((v.2.1,e.1,e.2.1,e.2.2.1,c.1,c.2.1,f.1,f.2.1,f.2.2.1,a.1,a.2.1,g.1,g.2.1,g.2.2.1,b.1,b.2.1,max b.2.2.1 (↑(d.2.1++[v.1]).length:Int),G1))else some (v.2.1,e.1,e.2.1,e.2.2.1,c.1,c.2.1,f.1,f.2.1,f.2.2.1,a.1,a.2.1,g.1,g.2.1,g.2.2.1,b.1,b.2.1,b.2.2.1,G1)else none
def GB:Xc vw:=mX prog 38 c0 BD [] [] []
theorem cJ:aM prog 120 pP cM:=fn0 GB Tryz.func120 bP
def Ag:Cut SN:=⟨[(2, .bp 2 0)],[(2, .st .myValueT)]⟩
def U3:aN vw:={rcut:=Ag}
def RZ:Sig vw:=sg [Dq1] Ag [.cell 2 31]
noncomputable def sN(v:Int×Unit):Option (aE×Unit):=some ((aE.mk (aF.mk (0:Int) (0:Int) (aaK #[]) false false) v.1 false (aaK #[]) (aF.mk (0:Int) (0:Int) (aaK #[]) false false),()))
def ZY:Xc vw:=mX prog 5 c0 U3 [] [] []
theorem kK:aM prog 121 RZ sN:=fn0 ZY Tryz.func121 bP
def U6:aN vw:={rcut:=v8}
def R2:Sig vw:=sg [vK] v8 [.cell 2 135]
noncomputable def uw(v:aF×Unit):Option (bB×Unit):=some ((bB.mk (v.1.base==3) v.1.bits,()))
def Z1:Xc vw:=mX prog 9 c0 U6 [] [] []
theorem nF:aM prog 126 R2 uw:=fn0 Z1 Tryz.func126 bP
def U8:aN vw:={rcut:=Ag}
def R4:Sig vw:=sg [Dq4] Ag [.cell 2 31]
noncomputable def AP(v:Bool×Unit):Option (aE×Unit):=if v.1=true then sN ((1:Int),())>>=λx1=>some (x1)else sN ((0:Int),())>>=λx1=>some (x1)
def CY:=kP kK k0
def Z3:Xc vw:=mX prog 6 CY.1 U8 [] [] []
theorem sP:aM prog 129 R4 AP:=fn0 Z3 Tryz.func129 CY.2
def VH:aN vw:={rcut:=nj}
def SB:Sig vw:=sg [nh] nj [.tmp 2]
noncomputable def A4(v:bB×Unit):Option (Int×Unit):=if v.1.signed=true then if 0<=i64.wrap (v.1.bits-1)then some ((i64.wrap (Bs.ishl i64 (1:Int) (i64.wrap (v.1.bits-1)) -1),()))else none else if 0<=v.1.bits then some ((i64.wrap (Bs.ishl i64 (1:Int) v.1.bits-1),()))else none
def aau:Xc vw:=mX prog 14 c0 VH [] [] []
theorem sS:aM prog 172 SB A4:=fn0 aau Tryz.func172 bP
def Lj:Cut SN:=⟨[(1,Dq1)],[]⟩
def VE:aN vw:={rcut:=bG}
def L6:Sig vw:=sg [nh,Dq1] bG [.tmp 4]
noncomputable def wT(v:bB×Int×Unit):Option (Int×Unit):=let G1:=(i64.wrap (Bs.ishl i64 (1:Int) v.1.bits-1));if 0<=v.1.bits then(A4 (v.1,())>>=λx1=>if decide (Bs.iand i64 v.2.1 G1>x1.1)=true then if 0<=v.1.bits then some ((i64.wrap (Bs.iand i64 v.2.1 G1-Bs.ishl i64 (1:Int) v.1.bits),()))else none else some ((Bs.iand i64 v.2.1 G1,())))>>=λx1=>some (x1)else none
def Dd:=kP sS k0
def aar:Xc vw:=mX prog 21 Dd.1 VE [(4,Lj,[.norm])] [] []
theorem y9:aM prog 169 L6 wT:=fn0 aar Tryz.func169 Dd.2
def Vs:aN vw:={rcut:=Hb}
def Sp:Sig vw:=sg [nh,Dq1] Hb [.tmp 4, .tmp 5]
noncomputable def IE(v:bB×Int×Unit):Option (Int×Int×Unit):=pf (v.1,())>>=λx1=>if(x1.1 !=0)=true then some (((0:Int),x1))else wT v>>=λx2=>some ((x2.1,(0:Int),()))
def C8:=kP jz (kP y9 k0)
def aaj:Xc vw:=mX prog 15 C8.1 Vs [] [] []
theorem IF:aM prog 154 Sp IE:=fn0 aaj Tryz.func154 C8.2
def U4:aN vw:={rcut:=bG}
def R0:Sig vw:=sg [vK,Dq1] bG [.tmp 4]
noncomputable def pb(v:aF×Int×Unit):Option (Int×Unit):=if(v.1.base==0)=true then some (((0:Int),()))else if(v.1.base==1)=true then AP (v.2.1 !=0,())>>=λx1=>some ((x1.1.n,()))else uw (v.1,())>>=λx1=>IE (x1.1,v.2)>>=λx2=>some ((x2.1,()))
def CV:=kP nF (kP sP (kP IF k0))
def ZZ:Xc vw:=mX prog 25 CV.1 U4 [] [] []
theorem kL:aM prog 122 R0 pb:=fn0 ZZ Tryz.func122 CV.2
def FZ:aN vw:={rcut:=aT}
def rA:Sig vw:={params:=[.bp 100000 0,lZ],objs:=[(100000, .box none [.bp 100001 0,Dq5,Dq1,Dq1,Dq1,Dq1,Dq5,Dq4,Dq4,Dq8, .vh 100002, .vh 100003,Dq1,Dq1,Dq9]),(100001, .box none [Dq3,Dq4,Dq1, .vh 100004,Dq1, .vh 100005,Dq1,Dq6]),(100002,Oq2),(100003,Oq2),(100004,Oq7),(100005,Oq2)],rcut:=aT,rvars:=[],keep:=[100000,100001,100002,3011,100004,100005]}
abbrev Tq2:=aQ×ByteArray×Int×Int×Int×Int×ByteArray×Bool×Bool×(List aQ)×Int×Int×(Option aE)×(List aB)×Bool×Int×Int×Int×(Option bX)×(List aE)×(List aE)×(List Int)×(List aE)×Unit
noncomputable def fM(v:Tq2):Option (Tq1):=let b:=v.2.2.2.2.2.2.2.2.2.2.2.2.2.2.2.2.2.2.2;pb (v.1.type0,v.1.a,())>>=λx1=>sN x1>>=λx2=>cM (x2.1,v.2)>>=λx3=>let c:=x3.2.2.2.2.2.2.2.2.2.2.2.2.2.2.2.2.2.2;if c.1.length=b.1.length then if c.2.2.1.length=b.2.2.1.length then if c.2.2.2.1.length=b.2.2.2.1.length then some (x3)else none else none else none
def ob:=kO cJ (kP kK (kP kL k0))
def Kz:Xc vw:=mX prog 12 ob.1 FZ [] [] []
theorem mu:aM prog 77 rA fM:=fn0 Kz Tryz.func77 ob.2
def F0:aN vw:={rcut:=aT}
def rB:Sig vw:={params:=[.bp 100000 0,lZ],objs:=[(100000, .box none [.bp 100001 0,Dq5,Dq1,Dq1,Dq1,Dq1,Dq5,Dq4,Dq4,Dq8, .vh 100002, .vh 100003,Dq1,Dq1,Dq9]),(100001, .box none [Dq3,Dq4,Dq1, .vh 100004,Dq1, .vh 100005,Dq1,Dq6]),(100002,Oq2),(100003,Oq2),(100004,Oq7),(100005,Oq2)],rcut:=aT,rvars:=[],keep:=[100000,100001,100002,3011,100004,100005]}
noncomputable def fN(v:Tq2):Option (Tq1):=let a:=v.2.2.2.2.2.2.2.2.2.2.2.2.2.2.2.2.2.2.2;cM (aE.mk (aF.mk (0:Int) (0:Int) (aaK #[]) false false) (0:Int) true (aaK #[]) (aF.mk (0:Int) (0:Int) (aaK #[]) false false),v.2)>>=λx1=>let b:=x1.2.2.2.2.2.2.2.2.2.2.2.2.2.2.2.2.2.2;if b.1.length=a.1.length then if b.2.2.1.length=a.2.2.1.length then if b.2.2.2.1.length=a.2.2.2.1.length then some (x1)else none else none else none
def oc:=kO cJ k0
def KA:Xc vw:=mX prog 7 oc.1 F0 [] [] []
theorem mv:aM prog 78 rB fN:=fn0 KA Tryz.func78 oc.2
def F1:aN vw:={rcut:=aT}
def rC:Sig vw:={params:=[.bp 100000 0,lZ],objs:=[(100000, .box none [.bp 100001 0,Dq5,Dq1,Dq1,Dq1,Dq1,Dq5,Dq4,Dq4,Dq8, .vh 100002, .vh 100003,Dq1,Dq1,Dq9]),(100001, .box none [Dq3,Dq4,Dq1, .vh 100004,Dq1, .vh 100005,Dq1,Dq6]),(100002,Oq2),(100003,Oq2),(100004,Oq7),(100005,Oq2)],rcut:=aT,rvars:=[],keep:=[100000,100001,100002,3011,100004,100005]}
noncomputable def fO(v:Tq2):Option (Tq1):=let b:=v.2.2.2.2.2.2.2.2.2.2.2.2.2.2.2.2.2.2.2;if 0<=v.1.a/\v.1.a<(↑b.1.length:Int)then b.1[v.1.a.toNat]?>>=λx1=>cM (x1,v.2)>>=λx2=>let c:=x2.2.2.2.2.2.2.2.2.2.2.2.2.2.2.2.2.2.2;if c.1.length=b.1.length then if c.2.2.1.length=b.2.2.1.length then if c.2.2.2.1.length=b.2.2.2.1.length then some (x2)else none else none else none else none
def od:=kO cJ k0
def KB:Xc vw:=mX prog 14 od.1 F1 [] [] []
theorem mw:aM prog 79 rC fO:=fn0 KB Tryz.func79 od.2
def vX:Cut SN:=⟨[(0, .bp 100000 0),(5, .bp 5 0),(39,Dq4)],[(100000, .box none [.bp 100001 0,Dq5,Dq1,Dq1,Dq1,Dq1,Dq5,Dq4,Dq4,Dq8, .vh 100002, .vh 100003,Dq1,Dq1,Dq9]),(5, .st .myValueT),(100001, .box none [Dq3,Dq4,Dq1, .vh 100004,Dq1, .vh 100005,Dq1,Dq6]),(100002,Oq2),(100003,Oq2),(100004,Oq7),(100005,Oq2)]⟩
def qB:Cut SN:=⟨[(0, .bp 100000 0)],[(100000, .box none [.bp 100001 0,Dq5,Dq1,Dq1,Dq1,Dq1,Dq5,Dq4,Dq4,Dq8, .vh 100002, .vh 100003,Dq1,Dq1,Dq9]),(100001, .box none [Dq3,Dq4,Dq1, .vh 100004,Dq1, .vh 3015,Dq1,Dq6]),(100002,Oq2),(100003,Oq2),(100004,Oq7),(3015,Oq2)]⟩
def BE:aN vw:={rcut:=qB}
def xy:Sig vw:={params:=[.bp 100000 0,Dq1,TN],objs:=[(100000, .box none [.bp 100001 0,Dq5,Dq1,Dq1,Dq1,Dq1,Dq5,Dq4,Dq4,Dq8, .vh 100002, .vh 100003,Dq1,Dq1,Dq9]),(100001, .box none [Dq3,Dq4,Dq1, .vh 100004,Dq1, .vh 100005,Dq1,Dq6]),(100002,Oq2),(100003,Oq2),(100004,Oq7),(100005,Oq2)],rcut:=qB,rvars:=[],keep:=[100000,100001,100002,100003,100004,3015]}
noncomputable def jy(v:Int×aE×ByteArray×Int×Int×Int×Int×ByteArray×Bool×Bool×(List aQ)×Int×Int×(Option aE)×(List aB)×Bool×Int×Int×Int×(Option bX)×(List aE)×(List aE)×(List Int)×(List aE)×Unit):Option (Tq1):=let c:=v.2.2.2.2.2;let a:=c.2.2.2.2.2.2;let b:=a.2.2.2.2.2.2;let d:=b.2.2.2;let G1:=(v.2.2.1,v.2.2.2.1,v.2.2.2.2.1,c.1,c.2.1,c.2.2.1,c.2.2.2.1,c.2.2.2.2.1,c.2.2.2.2.2.1,a.1,a.2.1,a.2.2.1,v.2.1,a.2.2.2.1,a.2.2.2.2.1,a.2.2.2.2.2.1,b.1,b.2.1,b.2.2.1,d.1.set v.1.toNat v.2.1,d.2);if 0<=v.1/\v.1<(↑d.1.length:Int)then d.1[v.1.toNat]?>>=λx1=>(if(a.1==1)=true then if(v.1==b.1)=true then some ((decide ((↑d.2.2.2.1.length:Int)<100),G1))else some (false,G1)else some (false,G1))>>=λx2=>let g:=x2.2.2.2.2;let j:=g.2.2;let e:=j.2.2.2;let h:=e.2.2.2;let f:=h.2.2.2.2;let i:=f.2.2.2.2;if x2.1=true then if i.2.2.2.1.length+[h.2.1].length<=4294967296 then some ((x2.2.1,x2.2.2.1,x2.2.2.2.1,g.1,g.2.1,j.1,j.2.1,j.2.2.1,e.1,e.2.1,e.2.2.1,h.1,h.2.2.1,h.2.2.2.1,f.1,f.2.1,f.2.2.1,f.2.2.2.1,i.1,i.2.1,i.2.2.1,i.2.2.2.1++[h.2.1],()))else none else some (x2.2.1,x2.2.2.1,x2.2.2.2.1,g.1,g.2.1,j.1,j.2.1,j.2.2.1,e.1,e.2.1,e.2.2.1,h.1,h.2.2)else none
def GC:Xc vw:=mX prog 56 c0 BE [] [(2,vX)] []
theorem sO:aM prog 123 xy jy:=fn0 GC Tryz.func123 bP
def qC:Cut SN:=⟨[(0, .bp 100000 0),(2, .bp 2 0)],[(100000, .box none [.bp 100001 0,Dq5,Dq1,Dq1,Dq1,Dq1,Dq5,Dq4,Dq4,Dq8, .vh 100002, .vh 3011,Dq1,Dq1,Dq9]),(100001, .box none [Dq3,Dq4,Dq1, .vh 100004,Dq1, .vh 100005,Dq1,Dq6]),(100002,Oq2),(3011,Oq2),(100004,Oq7),(100005,Oq2),(2, .st .myValueT)]⟩
def BF:aN vw:={rcut:=qC}
def xg:Nat->Bool:=λk=>match k with|5000027=>true|_=>false
def xz:Sig vw:={params:=[.bp 100000 0],objs:=[(100000, .box none [.bp 100001 0,Dq5,Dq1,Dq1,Dq1,Dq1,Dq5,Dq4,Dq4,Dq8, .vh 100002, .vh 100003,Dq1,Dq1,Dq9]),(100001, .box none [Dq3,Dq4,Dq1, .vh 100004,Dq1, .vh 100005,Dq1,Dq6]),(100002,Oq2),(100003,Oq2),(100004,Oq7),(100005,Oq2)],rcut:=qC,rvars:=[.cell 2 31],keep:=[100000,100001,100002,3011,100004,100005]}
abbrev Xb:=ByteArray×Int×Int×Int×Int×ByteArray×Bool×Bool×(List aQ)×Int×Int×(Option aE)×(List aB)×Bool×Int×Int×Int×(Option bX)×(List aE)×(List aE)×(List Int)×(List aE)×aE×Unit
noncomputable def cu(v:Tq1):Option (Xb):=let d:=v.2.2.2;let c:=d.2.2.2.2;let e:=c.2.2.2;let a:=e.2.2.2.2;let b:=a.2.2.2.2.2;let G1:=(i64.wrap ((↑b.1.length:Int) -1));if 0<=i64.wrap ((↑b.1.length:Int) -1)/\i64.wrap ((↑b.1.length:Int) -1)<(↑b.1.length:Int)then b.1[G1.toNat]?>>=λx1=>if 0<=i64.wrap ((↑b.1.length:Int) -1)then if i64.wrap ((↑b.1.length:Int) -1)<=(↑b.1.length:Int)then some ((v.1,v.2.1,v.2.2.1,d.1,d.2.1,d.2.2.1,d.2.2.2.1,c.1,c.2.1,c.2.2.1,e.1,e.2.1,e.2.2.1,e.2.2.2.1,a.1,a.2.1,a.2.2.1,a.2.2.2.1,a.2.2.2.2.1,abY G1.toNat b.1,b.2.1,b.2.2.1,x1,()))else none else none else none
def GD:Xc vw:={P:=prog,n:=31,call:=c0,pre:=xg,sh:=BF}
theorem cj:aM prog 124 xz cu:=fn0 GD Tryz.func124 bP
def kd:Cut SN:=⟨[(0, .bp 100000 0)],[(100000, .box none [.bp 100001 0,Dq5,Dq1,Dq1,Dq1,Dq1,Dq5,Dq4,Dq4,Dq8, .vh 100002, .vh 3011,Dq1,Dq1,Dq9]),(100001, .box none [Dq3,Dq4,Dq1, .vh 100004,Dq1, .vh 3015,Dq1,Dq6]),(100002,Oq2),(3011,Oq2),(100004,Oq7),(3015,Oq2)]⟩
def F2:aN vw:={rcut:=kd}
def rD:Sig vw:={params:=[.bp 100000 0,lZ],objs:=[(100000, .box none [.bp 100001 0,Dq5,Dq1,Dq1,Dq1,Dq1,Dq5,Dq4,Dq4,Dq8, .vh 100002, .vh 100003,Dq1,Dq1,Dq9]),(100001, .box none [Dq3,Dq4,Dq1, .vh 100004,Dq1, .vh 100005,Dq1,Dq6]),(100002,Oq2),(100003,Oq2),(100004,Oq7),(100005,Oq2)],rcut:=kd,rvars:=[],keep:=[100000,100001,100002,3011,100004,3015]}
noncomputable def fP(v:Tq2):Option (Tq1):=let b:=v.2.2.2.2.2.2.2.2.2.2.2.2.2.2.2.2.2.2.2;cu v.2>>=λx1=>let f:=x1.2.2.2;let d:=f.2.2.2.2;let g:=d.2.2.2;let c:=g.2.2.2.2;let e:=c.2.2.2.2;if e.1.length=b.1.length then if e.2.2.1.length=b.2.2.1.length then if e.2.2.2.1.length=b.2.2.2.1.length then jy (v.1.a,e.2.2.2.2.1,x1.1,x1.2.1,x1.2.2.1,f.1,f.2.1,f.2.2.1,f.2.2.2.1,d.1,d.2.1,d.2.2.1,g.1,g.2.1,g.2.2.1,g.2.2.2.1,c.1,c.2.1,c.2.2.1,c.2.2.2.1,e.1,e.2.1,e.2.2.1,e.2.2.2.1,())>>=λx2=>let h:=x2.2.2.2.2.2.2.2.2.2.2.2.2.2.2.2.2.2.2;if h.1.length=e.1.length then if h.2.1.length=e.2.1.length then if h.2.2.1.length=e.2.2.1.length then some (x2)else none else none else none else none else none else none
def oe:=kO sO (kO cj k0)
def KC:Xc vw:=mX prog 10 oe.1 F2 [] [] []
theorem my:aM prog 80 rD fP:=fn0 KC Tryz.func80 oe.2
def F3:aN vw:={rcut:=aT}
def rE:Sig vw:={params:=[.bp 100000 0,lZ],objs:=[(100000, .box none [.bp 100001 0,Dq5,Dq1,Dq1,Dq1,Dq1,Dq5,Dq4,Dq4,Dq8, .vh 100002, .vh 100003,Dq1,Dq1,Dq9]),(100001, .box none [Dq3,Dq4,Dq1, .vh 100004,Dq1, .vh 100005,Dq1,Dq6]),(100002,Oq2),(100003,Oq2),(100004,Oq7),(100005,Oq2)],rcut:=aT,rvars:=[],keep:=[100000,100001,100002,3011,100004,100005]}
noncomputable def fQ(v:Tq2):Option (Tq1):=let a:=v.2.2.2.2.2.2.2.2.2.2.2.2.2.2.2.2.2.2.2;cu v.2>>=λx1=>let c:=x1.2.2.2.2.2.2;let b:=c.2.2.2.2.2.2;let d:=b.2.2.2.2.2.2;if d.1.length=a.1.length then if d.2.2.1.length=a.2.2.1.length then if d.2.2.2.1.length=a.2.2.2.1.length then some ((x1.1,x1.2.1,x1.2.2.1,x1.2.2.2.1,x1.2.2.2.2.1,x1.2.2.2.2.2.1,c.1,c.2.1,c.2.2.1,c.2.2.2.1,c.2.2.2.2.1,c.2.2.2.2.2.1,b.1,b.2.1,b.2.2.1,b.2.2.2.1,b.2.2.2.2.1,b.2.2.2.2.2.1,d.1,d.2.1,d.2.2.1,d.2.2.2.1,()))else none else none else none
def og:=kO cj k0
def KD:Xc vw:=mX prog 6 og.1 F3 [] [] []
theorem mz:aM prog 81 rE fQ:=fn0 KD Tryz.func81 og.2
def VG:aN vw:={rcut:=nj}
def SA:Sig vw:=sg [nh] nj [.tmp 2]
noncomputable def Ey(v:bB×Unit):Option (Int×Unit):=if v.1.signed=true then if 0<=i64.wrap (v.1.bits-1)then some ((Bs.ishl i64 (-1:Int) (i64.wrap (v.1.bits-1)),()))else none else some (((0:Int),()))
def aat:Xc vw:=mX prog 9 c0 VG [] [] []
theorem y_:aM prog 171 SA Ey:=fn0 aat Tryz.func171 bP
def Vv:aN vw:={rcut:=cw}
def L5:Sig vw:=sg [nh,Dq1] cw [.tmp 4]
noncomputable def m_(v:bB×Int×Unit):Option (Bool×Unit):=(Ey (v.1,())>>=λx1=>if decide (v.2.1>=x1.1)=true then A4 (v.1,())>>=λx2=>some ((decide (v.2.1<=x2.1),()))else some ((false,())))>>=λx1=>some (x1)
def C_:=kP y_ (kP sS k0)
def aam:Xc vw:=mX prog 15 C_.1 Vv [] [(1,cw)] []
theorem nG:aM prog 157 L5 m_:=fn0 aam Tryz.func157 C_.2
def P3:Cut SN:=⟨[(31,Dq4)],[]⟩
def Ah:Cut SN:=⟨[(8,Dq1)],[]⟩
def Vt:aN vw:={rcut:=Ah}
def Sq:Sig vw:=sg [Dq1,nh,Dq1,Dq1] Ah [.tmp 8]
abbrev My:=Int×bB×Int×Int×Unit
noncomputable def Ev(v:My):Option (Int×Unit):=(pf (v.2.1,())>>=λx1=>if(x1.1 !=0)=true then some ((true,()))else if decide (v.1<5)=true then some ((true,()))else if decide (v.1>17)=true then some ((true,()))else m_ (v.2.1,v.2.2.1,())>>=λx2=>if(!x2.1)=true then some ((true,()))else m_ (v.2.1,v.2.2.2)>>=λx3=>some ((!x3.1,())))>>=λx1=>if x1.1=true then some (((1:Int),()))else some (((0:Int),()))
def C9:=kP jz (kP nG k0)
def aak:Xc vw:=mX prog 32 C9.1 Vt [] [(1,P3)] []
theorem y7:aM prog 155 Sq Ev:=fn0 aak Tryz.func155 C9.2
end Go.Proofs.YtcghbgmmgcljkaaGreatDoor
end
section
namespace Go.Proofs.YtcghbgmmgcljkaaGreatDoor
open Go.Awp Go.Tx
open IntKind (i64)
open Go.Proofs.Tryz (prog)
set_option maxHeartbeats 4000000
set_option maxRecDepth 100000
def Qe:Cut SN:=⟨[(0, .bp 0 0)],[(0, .bar 18 (.st .operationT))]⟩
def VF:aN vw:={rcut:=Qe}
def L7:Sig vw:=sg [] Qe [.cell 0 207]
noncomputable def i_(v:Unit):Option ((List bR)×Unit):=some (([bR.mk none none,bR.mk none none,bR.mk none none,bR.mk none none,bR.mk none none,bR.mk (some (178:Nat)) none,bR.mk (some (179:Nat)) none,bR.mk (some (180:Nat)) none,bR.mk (some (181:Nat)) none,bR.mk (some (182:Nat)) none,bR.mk (some (178:Nat)) (some (169:Nat)),bR.mk (some (179:Nat)) (some (169:Nat)),bR.mk (some (180:Nat)) (some (169:Nat)),bR.mk (some (178:Nat)) (some (183:Nat)),bR.mk (some (179:Nat)) (some (183:Nat)),bR.mk (some (184:Nat)) (some (169:Nat)),bR.mk (some (185:Nat)) (some (169:Nat)),bR.mk (some (186:Nat)) (some (169:Nat))],()))
def aas:Xc vw:=mX prog 26 c0 VF [] [] []
theorem IV:aM prog 170 L7 i_:=fn0 aas Tryz.func170 bP
def VK:aN vw:={rcut:=bG}
def L8:Sig vw:=sg [Dq1,Dq1] bG [.tmp 4]
noncomputable def A7(v:Int×Int×Unit):Option (Int×Unit):=some ((i64.wrap (v.1+v.2.1),()))
def aaw:Xc vw:=mX prog 8 c0 VK [] [] []
theorem I0:aM prog 178 L8 A7:=fn0 aaw Tryz.func178 bP
def VL:aN vw:={rcut:=bG}
def L9:Sig vw:=sg [Dq1,Dq1] bG [.tmp 4]
noncomputable def A8(v:Int×Int×Unit):Option (Int×Unit):=some ((i64.wrap (v.1-v.2.1),()))
def aax:Xc vw:=mX prog 8 c0 VL [] [] []
theorem I1:aM prog 179 L9 A8:=fn0 aax Tryz.func179 bP
def VM:aN vw:={rcut:=bG}
def L_:Sig vw:=sg [Dq1,Dq1] bG [.tmp 4]
noncomputable def EA(v:Int×Int×Unit):Option (Int×Unit):=some ((i64.wrap (v.1 *v.2.1),()))
def aay:Xc vw:=mX prog 8 c0 VM [] [] []
theorem I2:aM prog 180 L_ EA:=fn0 aay Tryz.func180 bP
def VN:aN vw:={rcut:=bG}
def Ma:Sig vw:=sg [Dq1,Dq1] bG [.tmp 4]
noncomputable def I3(v:Int×Int×Unit):Option (Int×Unit):=if v.2.1=0 then none else some ((i64.wrap (v.1.tdiv v.2.1),()))
def aaz:Xc vw:=mX prog 8 c0 VN [] [] []
theorem I4:aM prog 181 Ma I3:=fn0 aaz Tryz.func181 bP
def VO:aN vw:={rcut:=bG}
def Mb:Sig vw:=sg [Dq1,Dq1] bG [.tmp 4]
noncomputable def EB(v:Int×Int×Unit):Option (Int×Unit):=if v.2.1=0 then none else some ((v.1.tmod v.2.1,()))
def aaA:Xc vw:=mX prog 8 c0 VO [] [] []
theorem I5:aM prog 182 Mb EB:=fn0 aaA Tryz.func182 bP
def VP:aN vw:={rcut:=bG}
def Mc:Sig vw:=sg [nh,Dq1] bG [.tmp 4]
noncomputable def EC(v:bB×Int×Unit):Option (Int×Unit):=Ey (v.1,())>>=λx1=>A4 (v.1,())>>=λx2=>some ((max x1.1 (min x2.1 v.2.1),()))
def Df:=kP y_ (kP sS k0)
def aaB:Xc vw:=mX prog 12 Df.1 VP [] [] []
theorem I6:aM prog 183 Mc EC:=fn0 aaB Tryz.func183 Df.2
def VQ:aN vw:={rcut:=bG}
def Md:Sig vw:=sg [Dq1,Dq1] bG [.tmp 4]
noncomputable def I7(v:Int×Int×Unit):Option (Int×Unit):=some ((Bs.iand i64 v.1 v.2.1,()))
def aaC:Xc vw:=mX prog 8 c0 VQ [] [] []
theorem I8:aM prog 184 Md I7:=fn0 aaC Tryz.func184 bP
def VR:aN vw:={rcut:=bG}
def Me:Sig vw:=sg [Dq1,Dq1] bG [.tmp 4]
noncomputable def I9(v:Int×Int×Unit):Option (Int×Unit):=some ((Bs.ior i64 v.1 v.2.1,()))
def aaD:Xc vw:=mX prog 8 c0 VR [] [] []
theorem I_:aM prog 185 Me I9:=fn0 aaD Tryz.func185 bP
def VS:aN vw:={rcut:=bG}
def Mf:Sig vw:=sg [Dq1,Dq1] bG [.tmp 4]
noncomputable def Ja(v:Int×Int×Unit):Option (Int×Unit):=some ((Bs.ixor i64 v.1 v.2.1,()))
def aaE:Xc vw:=mX prog 8 c0 VS [] [] []
theorem Jb:aM prog 186 Mf Ja:=fn0 aaE Tryz.func186 bP
def P4:Cut SN:=⟨[(0,Dq1),(2,Dq1),(3,Dq1),(5, .bp 5 0),(17,Dq4)],[(5, .st .myIntT)]⟩
def P5:Cut SN:=⟨[(0,Dq1),(2,Dq1),(3,Dq1),(5, .bp 5 0),(23,Dq4)],[(5, .st .myIntT)]⟩
def P6:Cut SN:=⟨[(0,Dq1),(2,Dq1),(3,Dq1),(5, .bp 5 0),(10, .bp 10 0),(11,Dq1)],[(5, .st .myIntT),(10, .st .operationT)]⟩
def n6:Cut SN:=⟨[(8,Dq1),(9,Dq1)],[]⟩
def P7:Cut SN:=⟨[(5, .bp 5 0),(11,Dq1),(56,Dq4)],[(5, .st .myIntT)]⟩
def Vu:aN vw:={rcut:=n6}
def Sr:Sig vw:=sg [Dq1,nh,Dq1,Dq1] n6 [.tmp 8, .tmp 9]
noncomputable def Ew(v:My):Option (Int×Int×Unit):=(if(v.2.2.2.1==0)=true then some ((v.1,v.2.2.1,v.2.2.2.1,v.1==8,v.2.1,()))else some ((v.1,v.2.2.1,v.2.2.2.1,false,v.2.1,())))>>=λx1=>let a:=x1.2.2;if a.2.1=true then some (((0:Int),(2:Int),()))else(if(a.1==0)=true then some (x1.1,x1.2.1,a.1,x1.1==9,a.2.2)else some (x1.1,x1.2.1,a.1,false,a.2.2))>>=λx2=>let b:=x2.2;let c:=b.2.1;let d:=x2.1;let G1:=(b.1,c,());if b.2.2.1=true then some ((b.1,(2:Int),()))else i_ ()>>=λx3=>if 0<=d/\d<(↑(18:Nat):Int)then x3.1[d.toNat]?>>=λx4=>let G2:=(b.2.2.2.1,x4,());((x4.whole:Option (Nat))>>=λx5=>if x5=(157:Nat)then none else if x5=(169:Nat)then none else if x5=(170:Nat)then none else if x5=(178:Nat)then A7 G1>>=λx6=>some (d,b.1,c,x6.1,G2)else if x5=(179:Nat)then A8 G1>>=λx6=>some (d,b.1,c,x6.1,G2)else if x5=(180:Nat)then EA G1>>=λx6=>some (d,b.1,c,x6.1,G2)else if x5=(181:Nat)then I3 G1>>=λx6=>some (d,b.1,c,x6.1,G2)else if x5=(182:Nat)then EB G1>>=λx6=>some (d,b.1,c,x6.1,G2)else if x5=(183:Nat)then none else if x5=(184:Nat)then I7 G1>>=λx6=>some (d,b.1,c,x6.1,G2)else if x5=(185:Nat)then I9 G1>>=λx6=>some (d,b.1,c,x6.1,G2)else if x5=(186:Nat)then Ja G1>>=λx6=>some (d,b.1,c,x6.1,G2)else none)>>=λx5=>let e:=x5.2.2.2;let G4:=(e.2.1,());let G3:=(e.2.1,e.1,());if e.2.2.1.into.isSome=true then((e.2.2.1.into:Option (Nat))>>=λx6=>if x6=(157:Nat)then m_ G3>>=λx7=>none else if x6=(169:Nat)then wT G3>>=λx7=>some ((x7.1,(0:Int),()))else if x6=(170:Nat)then none else if x6=(178:Nat)then none else if x6=(179:Nat)then none else if x6=(180:Nat)then none else if x6=(181:Nat)then none else if x6=(182:Nat)then none else if x6=(183:Nat)then EC G3>>=λx7=>some ((x7.1,(0:Int),()))else if x6=(184:Nat)then none else if x6=(185:Nat)then none else if x6=(186:Nat)then none else none)>>=λx6=>some (x6)else(m_ G3>>=λx6=>if(!x6.1)=true then some (e.1,true,G4)else if(x5.1==9)=true then if x5.2.2.1=0 then none else m_ (e.2.1,i64.wrap (x5.2.1.tdiv x5.2.2.1),())>>=λx7=>some (e.1,!x7.1,G4)else some (e.1,false,G4))>>=λx6=>if x6.2.1=true then wT (x6.2.2.1,x6.1,())>>=λx7=>some ((x7.1,(1:Int),()))else some ((x6.1,(0:Int),()))else none
def wj:dh vw:=λA fid args S k=>if fid=157 then cv prog L5 m_ A args S k else if fid=169 then cv prog L6 wT A args S k else if fid=170 then cv prog L7 i_ A args S k else if fid=178 then cv prog L8 A7 A args S k else if fid=179 then cv prog L9 A8 A args S k else if fid=180 then cv prog L_ EA A args S k else if fid=181 then cv prog Ma I3 A args S k else if fid=182 then cv prog Mb EB A args S k else if fid=183 then cv prog Mc EC A args S k else if fid=184 then cv prog Md I7 A args S k else if fid=185 then cv prog Me I9 A args S k else if fid=186 then cv prog Mf Ja A args S k else none
def aal:Xc vw:=mX prog 61 wj Vu [] [(1,P4),(3,P5),(6,P6),(8,n6),(9,P7)] []
theorem Ao:bH prog wj:=λA fid args S dst k r h=>by
 unfold wj at h
 rcases bJ h with⟨e,h⟩|⟨e,h⟩
 ·subst e;exact aR (nG) rfl rfl h
 ·
  rcases bJ h with⟨e,h⟩|⟨e,h⟩
  ·subst e;exact aR (y9) rfl rfl h
  ·
   rcases bJ h with⟨e,h⟩|⟨e,h⟩
   ·subst e;exact aR (IV) rfl rfl h
   ·
    rcases bJ h with⟨e,h⟩|⟨e,h⟩
    ·subst e;exact aR (I0) rfl rfl h
    ·
     rcases bJ h with⟨e,h⟩|⟨e,h⟩
     ·subst e;exact aR (I1) rfl rfl h
     ·
      rcases bJ h with⟨e,h⟩|⟨e,h⟩
      ·subst e;exact aR (I2) rfl rfl h
      ·
       rcases bJ h with⟨e,h⟩|⟨e,h⟩
       ·subst e;exact aR (I4) rfl rfl h
       ·
        rcases bJ h with⟨e,h⟩|⟨e,h⟩
        ·subst e;exact aR (I5) rfl rfl h
        ·
         rcases bJ h with⟨e,h⟩|⟨e,h⟩
         ·subst e;exact aR (I6) rfl rfl h
         ·
          rcases bJ h with⟨e,h⟩|⟨e,h⟩
          ·subst e;exact aR (I8) rfl rfl h
          ·
           rcases bJ h with⟨e,h⟩|⟨e,h⟩
           ·subst e;exact aR (I_) rfl rfl h
           ·
            rcases bJ h with⟨e,h⟩|⟨e,h⟩
            ·subst e;exact aR (Jb) rfl rfl h
            ·
             cases h
theorem y8:aM prog 156 Sr Ew:=fn0 aal Tryz.func156 Ao
def PM:Cut SN:=⟨[(8,Dq1),(9,Dq1),(10,Dq1)],[]⟩
def U5:aN vw:={rcut:=PM}
def R1:Sig vw:=sg [Dq1,nh,Dq1,Dq1] PM [.tmp 8, .tmp 9, .tmp 10]
noncomputable def H_(v:My):Option (Ck):=Ev v>>=λx1=>if(x1.1 !=0)=true then some (((0:Int),(0:Int),x1))else Ew v>>=λx2=>if(x2.2.1 !=0)=true then some (((0:Int),x2.2.1,(0:Int),()))else some ((x2.1,(0:Int),(0:Int),()))
def CW:=kP y7 (kP y8 k0)
def Z0:Xc vw:=mX prog 34 CW.1 U5 [] [] []
theorem Ia:aM prog 125 R1 H_:=fn0 Z0 Tryz.func125 CW.2
def U7:aN vw:={rcut:=n6}
def R3:Sig vw:=sg [Dq1,nh,Dq1,Dq1] n6 [.tmp 8, .tmp 9]
noncomputable def Ib(v:My):Option (Int×Int×Unit):=Ev v>>=λx1=>if(x1.1 !=0)=true then some (((0:Int),x1))else Ew v>>=λx2=>some ((x2.1,(0:Int),()))
def CX:=kP y7 (kP y8 k0)
def Z2:Xc vw:=mX prog 30 CX.1 U7 [] [] []
theorem Ic:aM prog 127 R3 Ib:=fn0 Z2 Tryz.func127 CX.2
def vY:Cut SN:=⟨[(0, .bp 100000 0),(1,Dq1)],[(100000, .box none [.bp 100001 0,Dq5,Dq1,Dq1,Dq1,Dq1,Dq5,Dq4,Dq4,Dq8, .vh 100002, .vh 100003,Dq1,Dq1,Dq9]),(100001, .box none [Dq3,Dq4,Dq1, .vh 100004,Dq1, .vh 100005,Dq1,Dq6]),(100002,Oq2),(100003,Oq2),(100004,Oq7),(100005,Oq2)]⟩
def vZ:Cut SN:=⟨[(0, .bp 100000 0),(1,Dq1),(2,Dq1),(3,Dq1),(18,Dq4)],[(100000, .box none [.bp 100001 0,Dq5,Dq1,Dq1,Dq1,Dq1,Dq5,Dq4,Dq4,Dq8, .vh 100002, .vh 100003,Dq1,Dq1,Dq9]),(100001, .box none [Dq3,Dq4,Dq1, .vh 100004,Dq1, .vh 100005,Dq1,Dq6]),(100002,Oq2),(100003,Oq2),(100004,Oq7),(100005,Oq2)]⟩
def BG:aN vw:={rcut:=aT}
def xA:Sig vw:={params:=[.bp 100000 0,Dq1,Dq1,Dq1],objs:=[(100000, .box none [.bp 100001 0,Dq5,Dq1,Dq1,Dq1,Dq1,Dq5,Dq4,Dq4,Dq8, .vh 100002, .vh 100003,Dq1,Dq1,Dq9]),(100001, .box none [Dq3,Dq4,Dq1, .vh 100004,Dq1, .vh 100005,Dq1,Dq6]),(100002,Oq2),(100003,Oq2),(100004,Oq7),(100005,Oq2)],rcut:=aT,rvars:=[],keep:=[100000,100001,100002,3011,100004,100005]}
noncomputable def eU(v:Int×Int×Int×ByteArray×Int×Int×Int×Int×ByteArray×Bool×Bool×(List aQ)×Int×Int×(Option aE)×(List aB)×Bool×Int×Int×Int×(Option bX)×(List aE)×(List aE)×(List Int)×(List aE)×Unit):Option (Tq1):=(if(v.2.2.1 !=0)=true then some (v.1,v.2.1,v.2.2.1,v.2.2.2.2.2.2.2.2.2.2.2.2.2.2.2.2.1,v.2.2.2)else some (v.1,v.2.1,v.2.2.1,false,v.2.2.2))>>=λx1=>let b:=x1.2.2.2.2;let d:=b.2.2.2.2;let a:=d.2.2.2.2.2;let c:=a.2.2.2.2.2.2;let e:=c.2.2.2;if x1.2.2.2.1=true then d_ ((1:Int),x1.2.2.1,a.2.2.2.1,a.2.2.2.2.1,a.2.2.2.2.2.1,c.1,c.2.1,c.2.2.1,e.2.2)>>=λx2=>let f:=x2.2.2.2.2;if f.2.2.1.length=e.2.2.1.length then if f.2.2.2.1.length=e.2.2.2.1.length then some (b.1,b.2.1,b.2.2.1,b.2.2.2.1,d.1,d.2.1,d.2.2.1,d.2.2.2.1,d.2.2.2.2.1,a.1,a.2.1,a.2.2.1,x2.1,x2.2.1,x2.2.2.1,x2.2.2.2.1,f.1,f.2.1,e.1,e.2.1,f.2.2)else none else none else(if(x1.2.2.1 !=0)=true then some (x1.2.1,b)else some (x1.1,b))>>=λx2=>let g:=x2.2.2.2.2.2.2.2.2.2.2.2.2.2.2.2.2.2.2.2;sN (x2.1,())>>=λx3=>cM (x3.1,x2.2)>>=λx4=>let h:=x4.2.2.2.2.2.2.2.2.2.2.2.2.2.2.2.2.2.2;if h.1.length=g.1.length then if h.2.2.1.length=g.2.2.1.length then if h.2.2.2.1.length=g.2.2.2.1.length then some (x4)else none else none else none
def mb:=kO gu (kO cJ (kP kK k0))
def GE:Xc vw:=mX prog 32 mb.1 BG [(4,vY,[.norm])] [(0,vZ)] []
theorem fy:aM prog 128 xA eU:=fn0 GE Tryz.func128 mb.2
def F4:aN vw:={rcut:=aT}
def rF:Sig vw:={params:=[.bp 100000 0,lZ],objs:=[(100000, .box none [.bp 100001 0,Dq5,Dq1,Dq1,Dq1,Dq1,Dq5,Dq4,Dq4,Dq8, .vh 100002, .vh 100003,Dq1,Dq1,Dq9]),(100001, .box none [Dq3,Dq4,Dq1, .vh 100004,Dq1, .vh 100005,Dq1,Dq6]),(100002,Oq2),(100003,Oq2),(100004,Oq7),(100005,Oq2)],rcut:=aT,rvars:=[],keep:=[100000,100001,100002,3011,100004,100005]}
noncomputable def fR(v:Tq2):Option (Tq1):=let b:=v.2.2.2.2.2.2.2.2.2.2.2.2.2.2.2.2.2.2.2;cu v.2>>=λx1=>let f:=x1.2.2.2;let d:=f.2.2.2.2;let h:=d.2.2.2;let c:=h.2.2.2.2;let e:=c.2.2.2.2;let g:=e.2.2;if e.1.length=b.1.length then if g.1.length=b.2.2.1.length then if g.2.1.length=b.2.2.2.1.length then pb (v.1.type0,g.2.2.1.n,())>>=λx2=>cu (x1.1,x1.2.1,x1.2.2.1,f.1,f.2.1,f.2.2.1,f.2.2.2.1,d.1,d.2.1,d.2.2.1,h.1,h.2.1,h.2.2.1,h.2.2.2.1,c.1,c.2.1,c.2.2.1,c.2.2.2.1,e.1,e.2.1,g.1,g.2.1,())>>=λx3=>let l:=x3.2.2.2;let j:=l.2.2.2.2;let o:=j.2.2.2;let i:=o.2.2.2.2;let k:=i.2.2.2.2;let m:=k.2.2;if k.1.length=e.1.length then if m.1.length=g.1.length then if m.2.1.length=g.2.1.length then pb (v.1.type0,m.2.2.1.n,())>>=λx4=>uw (v.1.type0,())>>=λx5=>H_ (v.1.a,x5.1,x4.1,x2)>>=λx6=>uw (v.1.type0,())>>=λx7=>Ib (v.1.a,x7.1,x4.1,x2)>>=λx8=>eU (x6.1,x8.1,x6.2.1,x3.1,x3.2.1,x3.2.2.1,l.1,l.2.1,l.2.2.1,l.2.2.2.1,j.1,j.2.1,j.2.2.1,o.1,o.2.1,o.2.2.1,o.2.2.2.1,i.1,i.2.1,i.2.2.1,i.2.2.2.1,k.1,k.2.1,m.1,m.2.1,())>>=λx9=>let p:=x9.2.2.2.2.2.2.2.2.2.2.2.2.2.2.2.2.2.2;if p.1.length=k.1.length then if p.2.2.1.length=m.1.length then if p.2.2.2.1.length=m.2.1.length then some (x9)else none else none else none else none else none else none else none else none else none
def oh:=kP kL (kO cj (kP Ia (kP nF (kP Ic (kO fy k0)))))
def KE:Xc vw:=mX prog 51 oh.1 F4 [] [] []
theorem mA:aM prog 82 rF fR:=fn0 KE Tryz.func82 oh.2
def F5:aN vw:={rcut:=aT}
def rG:Sig vw:={params:=[.bp 100000 0,lZ],objs:=[(100000, .box none [.bp 100001 0,Dq5,Dq1,Dq1,Dq1,Dq1,Dq5,Dq4,Dq4,Dq8, .vh 100002, .vh 100003,Dq1,Dq1,Dq9]),(100001, .box none [Dq3,Dq4,Dq1, .vh 100004,Dq1, .vh 100005,Dq1,Dq6]),(100002,Oq2),(100003,Oq2),(100004,Oq7),(100005,Oq2)],rcut:=aT,rvars:=[],keep:=[100000,100001,100002,3011,100004,100005]}
noncomputable def fS(v:Tq2):Option (Tq1):=let b:=v.2.2.2.2.2.2.2.2.2.2.2.2.2.2.2.2.2.2.2;cu v.2>>=λx1=>let f:=x1.2.2.2.2;let d:=f.2.2.2.2;let g:=d.2.2.2.2;let c:=g.2.2.2.2;let e:=c.2.2.2.2;let h:=e.2.2.1;if c.2.2.1.length=b.1.length then if e.1.length=b.2.2.1.length then if e.2.1.length=b.2.2.2.1.length then cu (x1.1,x1.2.1,x1.2.2.1,x1.2.2.2.1,f.1,f.2.1,f.2.2.1,f.2.2.2.1,d.1,d.2.1,d.2.2.1,d.2.2.2.1,g.1,g.2.1,g.2.2.1,g.2.2.2.1,c.1,c.2.1,c.2.2.1,c.2.2.2.1,e.1,e.2.1,())>>=λx2=>let l:=x2.2.2.2.2;let j:=l.2.2.2.2;let m:=j.2.2.2.2;let i:=m.2.2.2.2;let k:=i.2.2.2.2;let o:=k.2.2.1;if i.2.2.1.length=c.2.2.1.length then if k.1.length=e.1.length then if k.2.1.length=e.2.1.length then if 0<=i64.wrap (v.1.a-18)/\i64.wrap (v.1.a-18)<(↑(6:Nat):Int)then[o.n==h.n,o.n !=h.n,decide (o.n<h.n),decide (o.n<=h.n),decide (o.n>h.n),decide (o.n>=h.n)][(i64.wrap (v.1.a-18)).toNat]?>>=λx3=>AP (x3,())>>=λx4=>cM (x4.1,x2.1,x2.2.1,x2.2.2.1,x2.2.2.2.1,l.1,l.2.1,l.2.2.1,l.2.2.2.1,j.1,j.2.1,j.2.2.1,j.2.2.2.1,m.1,m.2.1,m.2.2.1,m.2.2.2.1,i.1,i.2.1,i.2.2.1,i.2.2.2.1,k.1,k.2.1,())>>=λx5=>let p:=x5.2.2.2.2.2.2.2.2.2.2.2.2.2.2.2.2.2.2;if p.1.length=i.2.2.1.length then if p.2.2.1.length=k.1.length then if p.2.2.2.1.length=k.2.1.length then some (x5)else none else none else none else none else none else none else none else none else none else none
def oi:=kO cJ (kO cj (kP sP k0))
def KF:Xc vw:=mX prog 38 oi.1 F5 [] [] []
theorem mB:aM prog 83 rG fS:=fn0 KF Tryz.func83 oi.2
def PN:Cut SN:=⟨[(1,Dq1),(2, .bp 2 0),(15,Dq4)],[(2, .st .myIntT)]⟩
def PO:Cut SN:=⟨[(4,Dq1),(5,Dq1),(6,Dq1)],[]⟩
def U9:aN vw:={rcut:=PO}
def R5:Sig vw:=sg [nh,Dq1] PO [.tmp 4, .tmp 5, .tmp 6]
noncomputable def Ie(v:bB×Int×Unit):Option (Ck):=(pf (v.1,())>>=λx1=>if(x1.1 !=0)=true then some ((v.2.1,true,v.1,()))else m_ v>>=λx2=>some ((v.2.1,!x2.1,v.1,())))>>=λx1=>if x1.2.1=true then some (((0:Int),(0:Int),(1:Int),()))else m_ (x1.2.2.1,i64.wrap ((0:Int) -x1.1),())>>=λx2=>if(!x2.1)=true then some (((0:Int),(1:Int),(0:Int),()))else some ((i64.wrap ((0:Int) -x1.1),(0:Int),(0:Int),()))
def CZ:=kP jz (kP nG k0)
def Z4:Xc vw:=mX prog 23 CZ.1 U9 [] [(1,PN)] []
theorem Ig:aM prog 130 R5 Ie:=fn0 Z4 Tryz.func130 CZ.2
def F6:aN vw:={rcut:=aT}
def rH:Sig vw:={params:=[.bp 100000 0,lZ],objs:=[(100000, .box none [.bp 100001 0,Dq5,Dq1,Dq1,Dq1,Dq1,Dq5,Dq4,Dq4,Dq8, .vh 100002, .vh 100003,Dq1,Dq1,Dq9]),(100001, .box none [Dq3,Dq4,Dq1, .vh 100004,Dq1, .vh 100005,Dq1,Dq6]),(100002,Oq2),(100003,Oq2),(100004,Oq7),(100005,Oq2)],rcut:=aT,rvars:=[],keep:=[100000,100001,100002,3011,100004,100005]}
noncomputable def fT(v:Tq2):Option (Tq1):=let a:=v.2.2.2.2.2.2.2.2.2.2.2.2.2.2.2.2.2.2.2;cu v.2>>=λx1=>let e:=x1.2.2.2;let c:=e.2.2.2.2;let g:=c.2.2.2;let b:=g.2.2.2.2;let d:=b.2.2.2.2;let f:=d.2.2;if d.1.length=a.1.length then if f.1.length=a.2.2.1.length then if f.2.1.length=a.2.2.2.1.length then pb (v.1.type0,f.2.2.1.n,())>>=λx2=>uw (v.1.type0,())>>=λx3=>Ie (x3.1,x2)>>=λx4=>pb (v.1.type0,i64.wrap ((0:Int) -x2.1),())>>=λx5=>eU (x4.1,x5.1,x4.2.1,x1.1,x1.2.1,x1.2.2.1,e.1,e.2.1,e.2.2.1,e.2.2.2.1,c.1,c.2.1,c.2.2.1,g.1,g.2.1,g.2.2.1,g.2.2.2.1,b.1,b.2.1,b.2.2.1,b.2.2.2.1,d.1,d.2.1,f.1,f.2.1,())>>=λx6=>let h:=x6.2.2.2.2.2.2.2.2.2.2.2.2.2.2.2.2.2.2;if h.1.length=d.1.length then if h.2.2.1.length=f.1.length then if h.2.2.2.1.length=f.2.1.length then some (x6)else none else none else none else none else none else none
def oj:=kP kL (kO cj (kP nF (kO fy (kP Ig k0))))
def KG:Xc vw:=mX prog 32 oj.1 F6 [] [] []
theorem mC:aM prog 84 rH fT:=fn0 KG Tryz.func84 oj.2
def F7:aN vw:={rcut:=aT}
def rI:Sig vw:={params:=[.bp 100000 0,lZ],objs:=[(100000, .box none [.bp 100001 0,Dq5,Dq1,Dq1,Dq1,Dq1,Dq5,Dq4,Dq4,Dq8, .vh 100002, .vh 100003,Dq1,Dq1,Dq9]),(100001, .box none [Dq3,Dq4,Dq1, .vh 100004,Dq1, .vh 100005,Dq1,Dq6]),(100002,Oq2),(100003,Oq2),(100004,Oq7),(100005,Oq2)],rcut:=aT,rvars:=[],keep:=[100000,100001,100002,3011,100004,100005]}
noncomputable def fU(v:Tq2):Option (Tq1):=let a:=v.2.2.2.2.2.2.2.2.2.2.2.2.2.2.2.2.2.2.2;cu v.2>>=λx1=>let e:=x1.2.2.2;let c:=e.2.2.2.2;let g:=c.2.2.2;let b:=g.2.2.2.2;let d:=b.2.2.2.2;let f:=d.2.2;if d.1.length=a.1.length then if f.1.length=a.2.2.1.length then if f.2.1.length=a.2.2.2.1.length then AP (f.2.2.1.n==0,())>>=λx2=>cM (x2.1,x1.1,x1.2.1,x1.2.2.1,e.1,e.2.1,e.2.2.1,e.2.2.2.1,c.1,c.2.1,c.2.2.1,g.1,g.2.1,g.2.2.1,g.2.2.2.1,b.1,b.2.1,b.2.2.1,b.2.2.2.1,d.1,d.2.1,f.1,f.2.1,())>>=λx3=>let h:=x3.2.2.2.2.2.2.2.2.2.2.2.2.2.2.2.2.2.2;if h.1.length=d.1.length then if h.2.2.1.length=f.1.length then if h.2.2.2.1.length=f.2.1.length then some (x3)else none else none else none else none else none else none
def ol:=kO cJ (kO cj (kP sP k0))
def KH:Xc vw:=mX prog 11 ol.1 F7 [] [] []
theorem mD:aM prog 85 rI fU:=fn0 KH Tryz.func85 ol.2
def PP:Cut SN:=⟨[(4,Dq4),(5,Dq1)],[]⟩
def U_:aN vw:={rcut:=PP}
def R6:Sig vw:=sg [nh,Dq1] PP [.tmp 4, .tmp 5]
noncomputable def Ih(v:bB×Int×Unit):Option (Bool×Int×Unit):=pf (v.1,())>>=λx1=>if(x1.1 !=0)=true then some (false,x1)else m_ v>>=λx2=>some ((x2.1,(0:Int),()))
def C0:=kP jz (kP nG k0)
def Z5:Xc vw:=mX prog 15 C0.1 U_ [] [] []
theorem Ii:aM prog 131 R6 Ih:=fn0 Z5 Tryz.func131 C0.2
def Am:Cut SN:=⟨[(0, .bp 100000 0),(3, .bp 3 0),(4,Dq1),(5,Dq1)],[(100000, .box none [.bp 100001 0,Dq5,Dq1,Dq1,Dq1,Dq1,Dq5,Dq4,Dq4,Dq8, .vh 100002, .vh 3011,Dq1,Dq1,Dq9]),(3, .st .myCodeT),(100001, .box none [Dq3,Dq4,Dq1, .vh 100004,Dq1, .vh 100005,Dq1,Dq6]),(100002,Oq2),(3011,Oq2),(100004,Oq7),(100005,Oq2)]⟩
def F8:aN vw:={rcut:=aT}
def rJ:Sig vw:={params:=[.bp 100000 0,lZ],objs:=[(100000, .box none [.bp 100001 0,Dq5,Dq1,Dq1,Dq1,Dq1,Dq5,Dq4,Dq4,Dq8, .vh 100002, .vh 100003,Dq1,Dq1,Dq9]),(100001, .box none [Dq3,Dq4,Dq1, .vh 100004,Dq1, .vh 100005,Dq1,Dq6]),(100002,Oq2),(100003,Oq2),(100004,Oq7),(100005,Oq2)],rcut:=aT,rvars:=[],keep:=[100000,100001,100002,3011,100004,100005]}
noncomputable def fV(v:Tq2):Option (Tq1):=let a:=v.2.2.2.2.2.2.2.2.2.2.2.2.2.2.2.2.2.2.2;cu v.2>>=λx1=>let c:=x1.2.2.2.2.2.2;let f:=c.2.2.2;let b:=f.2.2.2.2;let d:=b.2.2.2.2.2;let e:=d.2.2;let G1:=(x1.1,x1.2.1,x1.2.2.1,x1.2.2.2.1,x1.2.2.2.2.1,x1.2.2.2.2.2.1,c.1,c.2.1,c.2.2.1,f.1,f.2.1,f.2.2.1,v.1,f.2.2.2.1,b.1,b.2.1,b.2.2.1,b.2.2.2.1,b.2.2.2.2.1,d.1,d.2.1,e.1,e.2.1,());if d.1.length=a.1.length then if e.1.length=a.2.2.1.length then if e.2.1.length=a.2.2.2.1.length then(uw (v.1.type0,())>>=λx2=>Ih (x2.1,e.2.2.1.n,())>>=λx3=>if(!x3.1)=true then some ((e.2.2.1.n,(3:Int),G1))else some ((e.2.2.1.n,(0:Int),G1)))>>=λx2=>let i:=x2.2.2.2.2;let g:=i.2.2.2.2.2;let j:=g.2.2.2;let h:=j.2.2.2.2.2.2.2.2.2;pb (j.2.2.1.type0,x2.1,())>>=λx3=>eU (x2.1,x3.1,x2.2.1,x2.2.2.1,x2.2.2.2.1,i.1,i.2.1,i.2.2.1,i.2.2.2.1,i.2.2.2.2.1,g.1,g.2.1,g.2.2.1,j.1,j.2.1,j.2.2.2)>>=λx4=>let k:=x4.2.2.2.2.2.2.2.2.2.2.2.2.2.2.2.2.2.2;if k.1.length=h.1.length then if k.2.2.1.length=h.2.2.1.length then if k.2.2.2.1.length=h.2.2.2.1.length then some (x4)else none else none else none else none else none else none
def om:=kP kL (kO cj (kP nF (kO fy (kP Ii k0))))
def KI:Xc vw:=mX prog 29 om.1 F8 [(6,Am,[.norm])] [] []
theorem mE:aM prog 86 rJ fV:=fn0 KI Tryz.func86 om.2
def F9:aN vw:={rcut:=aT}
def rK:Sig vw:={params:=[.bp 100000 0,lZ],objs:=[(100000, .box none [.bp 100001 0,Dq5,Dq1,Dq1,Dq1,Dq1,Dq5,Dq4,Dq4,Dq8, .vh 100002, .vh 100003,Dq1,Dq1,Dq9]),(100001, .box none [Dq3,Dq4,Dq1, .vh 100004,Dq1, .vh 100005,Dq1,Dq6]),(100002,Oq2),(100003,Oq2),(100004,Oq7),(100005,Oq2)],rcut:=aT,rvars:=[],keep:=[100000,100001,100002,3011,100004,100005]}
noncomputable def fW(v:Tq2):Option (Tq1):=let a:=v.2.2.2.2.2.2.2.2.2.2.2.2.2.2.2.2.2.2.2;cu v.2>>=λx1=>let e:=x1.2.2.2;let c:=e.2.2.2.2;let g:=c.2.2.2;let b:=g.2.2.2.2;let d:=b.2.2.2.2;let f:=d.2.2;if d.1.length=a.1.length then if f.1.length=a.2.2.1.length then if f.2.1.length=a.2.2.2.1.length then pb (v.1.type0,f.2.2.1.n,())>>=λx2=>sN x2>>=λx3=>cM (x3.1,x1.1,x1.2.1,x1.2.2.1,e.1,e.2.1,e.2.2.1,e.2.2.2.1,c.1,c.2.1,c.2.2.1,g.1,g.2.1,g.2.2.1,g.2.2.2.1,b.1,b.2.1,b.2.2.1,b.2.2.2.1,d.1,d.2.1,f.1,f.2.1,())>>=λx4=>let h:=x4.2.2.2.2.2.2.2.2.2.2.2.2.2.2.2.2.2.2;if h.1.length=d.1.length then if h.2.2.1.length=f.1.length then if h.2.2.2.1.length=f.2.1.length then some (x4)else none else none else none else none else none else none
def oq:=kO cJ (kP kK (kP kL (kO cj k0)))
def KJ:Xc vw:=mX prog 13 oq.1 F9 [] [] []
theorem mF:aM prog 87 rK fW:=fn0 KJ Tryz.func87 oq.2
def An:Cut SN:=⟨[(0, .bp 100000 0),(4, .bp 4 0),(5,Dq1)],[(100000, .box none [.bp 100001 0,Dq5,Dq1,Dq1,Dq1,Dq1,Dq5,Dq4,Dq4,Dq8, .vh 100002, .vh 3011,Dq1,Dq1,Dq9]),(4, .st .myValueT),(100001, .box none [Dq3,Dq4,Dq1, .vh 100004,Dq1, .vh 100005,Dq1,Dq6]),(100002,Oq2),(3011,Oq2),(100004,Oq7),(100005,Oq2)]⟩
def F_:aN vw:={rcut:=aT}
def rL:Sig vw:={params:=[.bp 100000 0,lZ],objs:=[(100000, .box none [.bp 100001 0,Dq5,Dq1,Dq1,Dq1,Dq1,Dq5,Dq4,Dq4,Dq8, .vh 100002, .vh 100003,Dq1,Dq1,Dq9]),(100001, .box none [Dq3,Dq4,Dq1, .vh 100004,Dq1, .vh 100005,Dq1,Dq6]),(100002,Oq2),(100003,Oq2),(100004,Oq7),(100005,Oq2)],rcut:=aT,rvars:=[],keep:=[100000,100001,100002,3011,100004,100005]}
noncomputable def fX(v:Tq2):Option (Tq1):=let a:=v.2.2.2.2.2.2.2.2.2.2.2.2.2.2.2.2.2.2.2;cu v.2>>=λx1=>let c:=x1.2.2.2.2.2.2;let e:=c.2.2.2;let b:=e.2.2.2.2;let d:=b.2.2.2.2.2;let G1:=(x1.1,x1.2.1,x1.2.2.1,x1.2.2.2.1,x1.2.2.2.2.1,x1.2.2.2.2.2.1,c.1,c.2.1,c.2.2.1,e.1,e.2.1,e.2.2.1,d.2.2.2.2.1,e.2.2.2.1,b.1,b.2.1,b.2.2.1,b.2.2.2.1,b.2.2.2.2.1,d.1,d.2.1,d.2.2.1,d.2.2.2.1,());if d.1.length=a.1.length then if d.2.2.1.length=a.2.2.1.length then if d.2.2.2.1.length=a.2.2.2.1.length then(if d.2.2.2.2.1.null=true then some (((4:Int),G1))else some (((0:Int),G1)))>>=λx2=>let g:=x2.2.2.2.2;let f:=g.2.2.2.2.2;let i:=f.2.2.2;let h:=i.2.2.2.2.2.2.2.2;eU (i.2.1.n,i.2.1.n,x2.1,x2.2.1,x2.2.2.1,x2.2.2.2.1,g.1,g.2.1,g.2.2.1,g.2.2.2.1,g.2.2.2.2.1,f.1,f.2.1,f.2.2.1,i.1,i.2.2)>>=λx3=>let j:=x3.2.2.2.2.2.2.2.2.2.2.2.2.2.2.2.2.2.2;if j.1.length=h.1.length then if j.2.2.1.length=h.2.2.1.length then if j.2.2.2.1.length=h.2.2.2.1.length then some (x3)else none else none else none else none else none else none
def ou:=kO cj (kO fy k0)
def KK:Xc vw:=mX prog 17 ou.1 F_ [(5,An,[.norm])] [] []
theorem mG:aM prog 88 rL fX:=fn0 KK Tryz.func88 ou.2
def qD:Cut SN:=⟨[(0, .bp 100000 0),(2, .bp 2 0)],[(100000, .box none [.bp 100001 0,Dq5,Dq1,Dq1,Dq1,Dq1,Dq5,Dq4,Dq4,Dq8, .vh 100002, .vh 100003,Dq1,Dq1,Dq9]),(100001, .box none [Dq3,Dq4,Dq1, .vh 100004,Dq1, .vh 100005,Dq1,Dq6]),(100002,Oq2),(100003,Oq2),(100004,Oq7),(100005,Oq2),(2, .st .myValueT)]⟩
def BH:aN vw:={rcut:=qD}
def xB:Sig vw:={params:=[.bp 100000 0],objs:=[(100000, .box none [.bp 100001 0,Dq5,Dq1,Dq1,Dq1,Dq1,Dq5,Dq4,Dq4,Dq8, .vh 100002, .vh 100003,Dq1,Dq1,Dq9]),(100001, .box none [Dq3,Dq4,Dq1, .vh 100004,Dq1, .vh 100005,Dq1,Dq6]),(100002,Oq2),(100003,Oq2),(100004,Oq7),(100005,Oq2)],rcut:=qD,rvars:=[.cell 2 31],keep:=[100000,100001,100002,100003,100004,100005]}
noncomputable def gR(v:Tq1):Option (Xb):=let c:=v.2.2.2.2.2.2;let d:=c.2.2.2;let a:=d.2.2.2.2;let b:=a.2.2.2.2.2.2;if 0<=i64.wrap ((↑b.1.length:Int) -1)/\i64.wrap ((↑b.1.length:Int) -1)<(↑b.1.length:Int)then b.1[(i64.wrap ((↑b.1.length:Int) -1)).toNat]?>>=λx1=>some ((v.1,v.2.1,v.2.2.1,v.2.2.2.1,v.2.2.2.2.1,v.2.2.2.2.2.1,c.1,c.2.1,c.2.2.1,d.1,d.2.1,d.2.2.1,d.2.2.2.1,a.1,a.2.1,a.2.2.1,a.2.2.2.1,a.2.2.2.2.1,a.2.2.2.2.2.1,b.1,b.2.1,b.2.2.1,x1,()))else none
def GF:Xc vw:=mX prog 15 c0 BH [] [] []
theorem kM:aM prog 132 xB gR:=fn0 GF Tryz.func132 bP
def Ga:aN vw:={rcut:=aT}
def rM:Sig vw:={params:=[.bp 100000 0,lZ],objs:=[(100000, .box none [.bp 100001 0,Dq5,Dq1,Dq1,Dq1,Dq1,Dq5,Dq4,Dq4,Dq8, .vh 100002, .vh 100003,Dq1,Dq1,Dq9]),(100001, .box none [Dq3,Dq4,Dq1, .vh 100004,Dq1, .vh 100005,Dq1,Dq6]),(100002,Oq2),(100003,Oq2),(100004,Oq7),(100005,Oq2)],rcut:=aT,rvars:=[],keep:=[100000,100001,100002,3011,100004,100005]}
noncomputable def fY(v:Tq2):Option (Tq1):=let b:=v.2.2.2.2.2.2.2.2.2.2.2.2.2.2.2.2.2.2.2;gR v.2>>=λx1=>let f:=x1.2.2.2;let d:=f.2.2.2.2;let h:=d.2.2.2;let c:=h.2.2.2.2;let e:=c.2.2.2.2;let g:=e.2.2;let G1:=(x1.1,x1.2.1,x1.2.2.1,f.1,f.2.1,f.2.2.1,f.2.2.2.1,d.1,d.2.1,d.2.2.1,h.1,h.2.1,h.2.2.1,h.2.2.2.1,c.1,c.2.1,c.2.2.1,c.2.2.2.1,e.1,e.2.1,g.1,g.2.1,());if e.1.length=b.1.length then if e.2.1.length=b.2.1.length then if g.1.length=b.2.2.1.length then if g.2.1.length=b.2.2.2.1.length then if g.2.2.1.null=true then cu G1>>=λx2=>let k:=x2.2.2.2.2.2;let i:=k.2.2.2.2.2.2.2;let j:=i.2.2.2.2.2.2;if j.1.length=e.1.length then if j.2.2.1.length=g.1.length then if j.2.2.2.1.length=g.2.1.length then some ((x2.1,x2.2.1,x2.2.2.1,x2.2.2.2.1,x2.2.2.2.2.1,k.1,k.2.1,k.2.2.1,k.2.2.2.1,k.2.2.2.2.1,v.1.a,k.2.2.2.2.2.2.1,i.1,i.2.1,i.2.2.1,i.2.2.2.1,i.2.2.2.2.1,i.2.2.2.2.2.1,j.1,j.2.1,j.2.2.1,j.2.2.2.1,()))else none else none else none else some (G1)else none else none else none else none
def ov:=kO cj (kO kM k0)
def KL:Xc vw:=mX prog 14 ov.1 Ga [] [] []
theorem mH:aM prog 89 rM fY:=fn0 KL Tryz.func89 ov.2
def eu:Cut SN:=⟨[(0, .bp 100000 0)],[(100000, .box none [.bp 100001 0,Dq5,Dq1,Dq1,Dq1,Dq1,Dq5,Dq4,Dq4,Dq8, .vh 100002, .vh 100003,Dq1,Dq1,Dq9]),(100001, .box none [Dq3,Dq4,Dq1, .vh 100004,Dq1, .vh 100005,Dq1,Dq6]),(100002,Oq2),(100003,Oq2),(100004,Oq7),(100005,Oq2)]⟩
def BI:aN vw:={rcut:=eu}
def xC:Sig vw:={params:=[.bp 100000 0,Dq4,Dq1],objs:=[(100000, .box none [.bp 100001 0,Dq5,Dq1,Dq1,Dq1,Dq1,Dq5,Dq4,Dq4,Dq8, .vh 100002, .vh 100003,Dq1,Dq1,Dq9]),(100001, .box none [Dq3,Dq4,Dq1, .vh 100004,Dq1, .vh 100005,Dq1,Dq6]),(100002,Oq2),(100003,Oq2),(100004,Oq7),(100005,Oq2)],rcut:=eu,rvars:=[],keep:=[100000,100001,100002,100003,100004,100005]}
noncomputable def gS(v:Bool×Int×ByteArray×Int×Int×Int×Int×ByteArray×Bool×Bool×(List aQ)×Int×Int×(Option aE)×(List aB)×Bool×Int×Int×Int×(Option bX)×(List aE)×(List aE)×(List Int)×(List aE)×Unit):Option (Tq1):=let a:=v.2.2.2.2.2.2;if v.1=true then some (v.2.2.1,v.2.2.2.1,v.2.2.2.2.1,v.2.2.2.2.2.1,a.1,a.2.1,a.2.2.1,a.2.2.2.1,a.2.2.2.2.1,a.2.2.2.2.2.1,v.2.1,a.2.2.2.2.2.2.2)else some (v.2.2)
def GG:Xc vw:=mX prog 11 c0 BI [] [] []
theorem kN:aM prog 133 xC gS:=fn0 GG Tryz.func133 bP
def Gb:aN vw:={rcut:=eu}
def rN:Sig vw:={params:=[.bp 100000 0,lZ],objs:=[(100000, .box none [.bp 100001 0,Dq5,Dq1,Dq1,Dq1,Dq1,Dq5,Dq4,Dq4,Dq8, .vh 100002, .vh 100003,Dq1,Dq1,Dq9]),(100001, .box none [Dq3,Dq4,Dq1, .vh 100004,Dq1, .vh 100005,Dq1,Dq6]),(100002,Oq2),(100003,Oq2),(100004,Oq7),(100005,Oq2)],rcut:=eu,rvars:=[],keep:=[100000,100001,100002,100003,100004,100005]}
noncomputable def fZ(v:Tq2):Option (Tq1):=let b:=v.2.2.2.2.2.2.2.2.2.2.2.2.2.2.2.2.2.2.2;gR v.2>>=λx1=>let g:=x1.2.2.2;let d:=g.2.2.2.2;let f:=d.2.2.2.2;let c:=f.2.2.2.2;let e:=c.2.2.2;let h:=e.2.2;if e.1.length=b.1.length then if e.2.1.length=b.2.1.length then if h.1.length=b.2.2.1.length then if h.2.1.length=b.2.2.2.1.length then gS (!h.2.2.1.err.toList==(aaK #[]).toList,v.1.a,x1.1,x1.2.1,x1.2.2.1,g.1,g.2.1,g.2.2.1,g.2.2.2.1,d.1,d.2.1,d.2.2.1,d.2.2.2.1,f.1,f.2.1,f.2.2.1,f.2.2.2.1,c.1,c.2.1,c.2.2.1,e.1,e.2.1,h.1,h.2.1,())>>=λx2=>let i:=x2.2.2.2.2.2.2.2.2.2.2.2.2.2.2.2.2.2.2;if i.1.length=e.1.length then if i.2.1.length=e.2.1.length then if i.2.2.1.length=h.1.length then if i.2.2.2.1.length=h.2.1.length then some (x2)else none else none else none else none else none else none else none else none
def ow:=kO kM (kO kN k0)
def KM:Xc vw:=mX prog 12 ow.1 Gb [] [] []
theorem mI:aM prog 90 rN fZ:=fn0 KM Tryz.func90 ow.2
def Gc:aN vw:={rcut:=eu}
def rO:Sig vw:={params:=[.bp 100000 0,lZ],objs:=[(100000, .box none [.bp 100001 0,Dq5,Dq1,Dq1,Dq1,Dq1,Dq5,Dq4,Dq4,Dq8, .vh 100002, .vh 100003,Dq1,Dq1,Dq9]),(100001, .box none [Dq3,Dq4,Dq1, .vh 100004,Dq1, .vh 100005,Dq1,Dq6]),(100002,Oq2),(100003,Oq2),(100004,Oq7),(100005,Oq2)],rcut:=eu,rvars:=[],keep:=[100000,100001,100002,100003,100004,100005]}
noncomputable def f5(v:Tq2):Option (Tq1):=let b:=v.2.2.2.2.2;some (v.2.1,v.2.2.1,v.2.2.2.1,v.2.2.2.2.1,b.1,b.2.1,b.2.2.1,b.2.2.2.1,b.2.2.2.2.1,b.2.2.2.2.2.1,v.1.a,b.2.2.2.2.2.2.2)
def KN:Xc vw:=mX prog 9 c0 Gc [] [] []
theorem mJ:aM prog 91 rO f5:=fn0 KN Tryz.func91 bP
def Gd:aN vw:={rcut:=aT}
def rP:Sig vw:={params:=[.bp 100000 0,lZ],objs:=[(100000, .box none [.bp 100001 0,Dq5,Dq1,Dq1,Dq1,Dq1,Dq5,Dq4,Dq4,Dq8, .vh 100002, .vh 100003,Dq1,Dq1,Dq9]),(100001, .box none [Dq3,Dq4,Dq1, .vh 100004,Dq1, .vh 100005,Dq1,Dq6]),(100002,Oq2),(100003,Oq2),(100004,Oq7),(100005,Oq2)],rcut:=aT,rvars:=[],keep:=[100000,100001,100002,3011,100004,100005]}
noncomputable def f7(v:Tq2):Option (Tq1):=let b:=v.2.2.2.2.2.2.2.2.2.2.2.2.2.2.2.2.2.2.2;cu v.2>>=λx1=>let f:=x1.2.2.2;let d:=f.2.2.2.2;let h:=d.2.2.2;let c:=h.2.2.2.2;let e:=c.2.2.2.2;let g:=e.2.2;if e.1.length=b.1.length then if g.1.length=b.2.2.1.length then if g.2.1.length=b.2.2.2.1.length then gS (g.2.2.1.n==0,v.1.a,x1.1,x1.2.1,x1.2.2.1,f.1,f.2.1,f.2.2.1,f.2.2.2.1,d.1,d.2.1,d.2.2.1,h.1,h.2.1,h.2.2.1,h.2.2.2.1,c.1,c.2.1,c.2.2.1,c.2.2.2.1,e.1,e.2.1,g.1,g.2.1,())>>=λx2=>let i:=x2.2.2.2.2.2.2.2.2.2.2.2.2.2.2.2.2.2.2;if i.1.length=e.1.length then if i.2.1.length=e.2.1.length then if i.2.2.1.length=g.1.length then if i.2.2.2.1.length=g.2.1.length then some (x2)else none else none else none else none else none else none else none
def ox:=kO cj (kO kN k0)
def KO:Xc vw:=mX prog 12 ox.1 Gd [] [] []
theorem mK:aM prog 92 rP f7:=fn0 KO Tryz.func92 ox.2
def Gf:aN vw:={rcut:=aT}
def Bp:Nat->Bool:=λk=>match k with|7000004=>true|_=>false
def rQ:Sig vw:={params:=[.bp 100000 0,lZ],objs:=[(100000, .box none [.bp 100001 0,Dq5,Dq1,Dq1,Dq1,Dq1,Dq5,Dq4,Dq4,Dq8, .vh 100002, .vh 100003,Dq1,Dq1,Dq9]),(100001, .box none [Dq3,Dq4,Dq1, .vh 100004,Dq1, .vh 100005,Dq1,Dq6]),(100002,Oq2),(100003,Oq2),(100004,Oq7),(100005,Oq2)],rcut:=aT,rvars:=[],keep:=[100000,100001,100002,3011,100004,100005]}
noncomputable def f8(v:Tq2):Option (Tq1):=let a:=v.2.2.2.2.2.2.2.2.2.2.2.2.2.2.2.2.2.2.2;cu v.2>>=λx1=>let d:=x1.2.2.2.2.2;let b:=d.2.2.2.2.2.2.2;let c:=b.2.2.2.2.2.2;if c.1.length=a.1.length then if c.2.2.1.length=a.2.2.1.length then if c.2.2.2.1.length=a.2.2.2.1.length then some ((x1.1,x1.2.1,x1.2.2.1,x1.2.2.2.1,x1.2.2.2.2.1,d.1,d.2.1,d.2.2.1,d.2.2.2.1,d.2.2.2.2.1,d.2.2.2.2.2.1,some c.2.2.2.2.1,b.1,b.2.1,b.2.2.1,b.2.2.2.1,b.2.2.2.2.1,b.2.2.2.2.2.1,c.1,c.2.1,c.2.2.1,c.2.2.2.1,()))else none else none else none
def oz:=kO cj k0
def KP:Xc vw:={P:=prog,n:=10,call:=oz.1,pre:=Bp,sh:=Gf}
theorem mL:aM prog 94 rQ f8:=fn0 KP Tryz.func94 oz.2
def Gg:aN vw:={rcut:=aT}
def rR:Sig vw:={params:=[.bp 100000 0,lZ],objs:=[(100000, .box none [.bp 100001 0,Dq5,Dq1,Dq1,Dq1,Dq1,Dq5,Dq4,Dq4,Dq8, .vh 100002, .vh 100003,Dq1,Dq1,Dq9]),(100001, .box none [Dq3,Dq4,Dq1, .vh 100004,Dq1, .vh 100005,Dq1,Dq6]),(100002,Oq2),(100003,Oq2),(100004,Oq7),(100005,Oq2)],rcut:=aT,rvars:=[],keep:=[100000,100001,100002,3011,100004,100005]}
noncomputable def f_(v:Tq2):Option (Tq1):=let a:=v.2.2.2.2.2.2.2.2.2.2.2.2.2.2.2.2.2.2.2;cM (aE.mk (aF.mk (0:Int) (0:Int) (aaK #[]) false false) (0:Int) false v.1.name0 (aF.mk (0:Int) (0:Int) (aaK #[]) false false),v.2)>>=λx1=>let b:=x1.2.2.2.2.2.2.2.2.2.2.2.2.2.2.2.2.2.2;if b.1.length=a.1.length then if b.2.2.1.length=a.2.2.1.length then if b.2.2.2.1.length=a.2.2.2.1.length then some (x1)else none else none else none
def oA:=kO cJ k0
def KQ:Xc vw:=mX prog 9 oA.1 Gg [] [] []
theorem mM:aM prog 95 rR f_:=fn0 KQ Tryz.func95 oA.2
def Gh:aN vw:={rcut:=eu}
def Bq:Nat->Bool:=λk=>match k with|7000004=>true|_=>false
def rS:Sig vw:={params:=[.bp 100000 0,lZ],objs:=[(100000, .box none [.bp 100001 0,Dq5,Dq1,Dq1,Dq1,Dq1,Dq5,Dq4,Dq4,Dq8, .vh 100002, .vh 100003,Dq1,Dq1,Dq9]),(100001, .box none [Dq3,Dq4,Dq1, .vh 100004,Dq1, .vh 100005,Dq1,Dq6]),(100002,Oq2),(100003,Oq2),(100004,Oq7),(100005,Oq2)],rcut:=eu,rvars:=[],keep:=[100000,100001,100002,100003,100004,100005]}
noncomputable def ga(v:Tq2):Option (Tq1):=let d:=v.2.2.2.2;let f:=d.2.2;let b:=f.2.2.2;let c:=b.2.2.2.2.2;let e:=c.2.2.2.2;if c.1=true then d_ ((1:Int),v.1.a,b.2.2.2.2.1,c.1,c.2.1,c.2.2.1,c.2.2.2.1,e.1,e.2.2.2)>>=λx1=>let g:=x1.2.2.2.2;if g.2.2.1.length=e.2.2.2.1.length then if g.2.2.2.1.length=e.2.2.2.2.1.length then some (v.2.1,v.2.2.1,v.2.2.2.1,d.1,d.2.1,f.1,f.2.1,f.2.2.1,b.1,b.2.1,b.2.2.1,b.2.2.2.1,x1.1,x1.2.1,x1.2.2.1,x1.2.2.2.1,g.1,g.2.1,e.2.1,e.2.2.1,g.2.2)else none else none else sN ((0:Int),())>>=λx1=>some (v.2.1,v.2.2.1,v.2.2.2.1,d.1,d.2.1,f.1,f.2.1,f.2.2.1,b.1,b.2.1,b.2.2.1,some x1.1,b.2.2.2.2)
def oB:=kO gu (kP kK k0)
def KR:Xc vw:={P:=prog,n:=23,call:=oB.1,pre:=Bq,sh:=Gh}
theorem mN:aM prog 96 rS ga:=fn0 KR Tryz.func96 oB.2
end Go.Proofs.YtcghbgmmgcljkaaGreatDoor
end
