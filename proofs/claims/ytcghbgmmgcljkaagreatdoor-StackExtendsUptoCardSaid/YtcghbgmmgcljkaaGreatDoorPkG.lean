/-
  Texts of this claim, joined by a program of mine: what the theorem uses.
-/
import Derived.Test.YtcghbgmmgcljkaaGreatDoorPkF
import Derived.Test.YtcghbgmmgcljkaaGreatDoorPkC
open ByteArray renaming mk→Qc
open Function renaming comp_apply→RJ
open Int renaming toNat→Q1
open List renaming all_eq_true→Qq,drop→SP,getElem?_cons_zero→Ri,getElem?_map→Qh,getElem?_toArray→R_,map_map→QJ,mem_map→QD,mem_of_getElem?→Qn,replicate→QK,take→Sp
open Nat renaming add_zero→Rj,mul_one→SL
open Option renaming map_eq_some_iff→Qr,map_some→QG
open Option.some renaming injEq→Qd
open Sum renaming inl→Rx,inr→Sc
noncomputable section
set_option linter.unusedVariables false
section
namespace Go.Proofs.YtcghbgmmgcljkaaGreatDoor
open Go.Awp Go.Tx
open IntKind (u8)
open IntKind (i64)
open Go.Proofs.Tryz (prog)
set_option maxHeartbeats 4000000
set_option maxRecDepth 100000
theorem bB{c:Prop}[Decidable c]{α:Type}{a b x:α}(h:(if c then a else b)=x):(c/\a=x)\/(¬c/\b=x):=by by_cases e:c;exact .inl ⟨e,by rw[<-h,TP e]⟩;exact .inr ⟨e,by rw[<-h,TN e]⟩
abbrev Dq1:Pt SN:= .dat (.int .i64)
abbrev Dq3:Pt SN:= .dat (.sl (.st .myFuncT))
def JL:Cut SN:=⟨[(3,Dq1),(6,Dq3),(7,Dq1),(8,Dq1)],[]⟩
def LK:Cut SN:=⟨[(3,Dq1)],[]⟩
def yI:Cut SN:=⟨[(2,Dq1)],[]⟩
def OZ:aU vw:=shL [(0,LK)] yI
def Nc:Sig vw:=sg [Dq3] yI [.tmp 2]
noncomputable def kR(v:Int×(List aB)×Int×Int×Unit):Option ((Int×Unit)):=let a:=v.2.2.2.1;if decide (a<v.2.2.1)=true then if 0<=a then v.2.1[a.toNat]?>>=λx1=>kR (i64.wrap (v.1+(↑x1.code.length:Int)),v.2.1,v.2.2.1,i64.wrap (a+1),())else none else some ((v.1,())) partial_fixpoint
noncomputable def Lo(v:(List aB)×Unit):Option (Int×Unit):=kR ((0:Int),v.1,(↑v.1.length:Int),(0:Int),())>>=λx1=>some (x1)
def x46:Xc vw:=mX prog 19 c0 OZ [] [] [(3,⟨JL,[.exit 0],kR⟩)]
theorem AP:mq x46 (cp (bA Tryz.f46) 0) ⟨JL,[.exit 0],kR⟩:=lp0 kR.partial_correctness cv
theorem H8:aT prog 46 Nc Lo:=fn1 x46 Tryz.func46 cv AP
abbrev Dq4:Pt SN:= .dat .bool
def jm:Cut SN:=⟨[(2,Dq4)],[]⟩
def O0:aU vw:={rcut:=jm}
abbrev Jb:Pt SN:= .dat (.st .myFuncT)
def Nd:Sig vw:=sg [Jb] jm [.tmp 2]
noncomputable def L_(v:aB×Unit):Option (Bool×Unit):=some ((decide (v.1.places>200),()))
def x48:Xc vw:=mX prog 6 c0 O0 [] [] []
theorem H9:aT prog 48 Nd L_:=fn0 x48 Tryz.func48 cv
def vq:Cut SN:=⟨[(0,Dq3),(1, .fn 48 [] []),(7,Dq1),(8,Dq1)],[]⟩
def jq:Cut SN:=⟨[],[]⟩
def bV:Cut SN:=⟨[(4,Dq1)],[]⟩
def ID:aU vw:=shL [(0,jq)] bV
def ER:Sig vw:=sg [Dq3, .fn 48 [] []] bV [.tmp 4]
abbrev LA:=(List aB)×Int×Int×Unit
noncomputable def ed(v:LA):Option (((Int×Unit)⊕(Unit))):=if decide (v.2.2.1<v.2.1)=true then if 0<=v.2.2.1 then v.1[v.2.2.1.toNat]?>>=λx1=>L_ (x1,())>>=λx2=>if x2.1=true then some (Rx v.2.2)else ed (v.1,v.2.1,i64.wrap (v.2.2.1+1),())else none else some (Sc ()) partial_fixpoint
noncomputable def uo(v:(List aB)×Unit):Option (Int×Unit):=ed (v.1,(↑v.1.length:Int),(0:Int),())>>=λx1=>match x1 with| .inl y1=>some y1| .inr y1=>some (((-1:Int),()))
def mC:=kP H9 k0
def GT:Xc vw:=mX prog 19 mC.1 ID [] [] [(2,⟨vq,[.ret, .exit 0],ed⟩)]
theorem sq:mq GT (cp (bA Tryz.f65) 0) ⟨vq,[.ret, .exit 0],ed⟩:=lp0 ed.partial_correctness mC.2
theorem xC:aT prog 65 ER uo:=fn1 GT Tryz.func65 mC.2 sq
def dQ:Cut SN:=⟨[(4,Dq4)],[]⟩
def IC:aU vw:={rcut:=dQ}
def EQ:Sig vw:=sg [Dq3, .fn 48 [] []] dQ [.tmp 4]
noncomputable def qO(v:(List aB)×Unit):Option (Bool×Unit):=uo v>>=λx1=>some ((decide (x1.1>=0),()))
def rH:=kP xC k0
def Lb:Xc vw:=mX prog 9 rH.1 IC [] [] []
theorem xB:aT prog 47 EQ qO:=fn0 Lb Tryz.func47 rH.2
abbrev GZ:Pt SN:= .dat (.int .u8)
def F7:Cut SN:=⟨[(0, .bp 0 0),(1, .bp 1 0),(2,GZ)],[(0, .bar 256 (.int .u8)),(1, .bar 256 (.int .u8))]⟩
def F8:Cut SN:=⟨[(0, .bp 0 0),(1, .bp 1 0),(3,GZ)],[(0, .bar 256 (.int .u8)),(1, .bar 256 (.int .u8))]⟩
def F6:Cut SN:=⟨[(0, .bp 0 0),(1, .bp 1 0)],[(0, .bar 256 (.int .u8)),(1, .bar 256 (.int .u8))]⟩
def Jv:Cut SN:=⟨[(0, .bp 0 0)],[(0, .bar 256 (.int .u8))]⟩
def My:aU vw:=shL [(0,F6),(2,F6)] Jv
def KK:Sig vw:=sg [] Jv [.cell 0 179]
abbrev Tq8:=Int×(List Int)×(List Int)×Unit
noncomputable def jc(v:Tq8):Option (((List Int)×(List Int)×Unit)):=let G1:=(u8.wrap (v.1-97)+65);if decide (v.1<=122)=true then if 0<=v.1/\v.1<(↑(256:Nat):Int)then if v.1.toNat<(256:Nat)then if v.1.toNat<v.2.2.1.length then if 0<=u8.wrap G1/\u8.wrap G1<(↑(256:Nat):Int)then if(u8.wrap G1).toNat<(256:Nat)then if(u8.wrap G1).toNat<(v.2.2.1.set v.1.toNat (2:Int)).length then jc (u8.wrap (v.1+1),v.2.1,(v.2.2.1.set v.1.toNat (2:Int)).set (u8.wrap G1).toNat (2:Int),())else none else none else none else none else none else none else some (v.2) partial_fixpoint
noncomputable def jd(v:Tq8):Option (((List Int)×(List Int)×Unit)):=if decide (v.1<=57)=true then if 0<=v.1/\v.1<(↑(256:Nat):Int)then if v.1.toNat<(256:Nat)then if v.1.toNat<v.2.2.1.length then jd (u8.wrap (v.1+1),v.2.1,v.2.2.1.set v.1.toNat (3:Int),())else none else none else none else some (v.2) partial_fixpoint
noncomputable def DK(v:Unit):Option ((List Int)×Unit):=jc ((97:Int),QK (256:Nat) (0:Int),(((QK (256:Nat) (0:Int)).set (Q1 32) (1:Int)).set (Q1 10) (1:Int)).set (Q1 95) (2:Int),())>>=λx1=>jd ((48:Int),x1)>>=λx2=>some (x2.2)
def NT:Xc vw:=mX prog 24 c0 My [] [] [(4,⟨F7,[.exit 0],jc⟩),(8,⟨F8,[.exit 2],jd⟩)]
theorem xp:mq NT (cp (bA Tryz.f146) 0) ⟨F7,[.exit 0],jc⟩:=lp0 jc.partial_correctness cv
theorem xq:mq NT (cp (bA Tryz.f146) 1) ⟨F8,[.exit 2],jd⟩:=lp0 jd.partial_correctness cv
theorem DL:aT prog 146 KK DK:=fn2 NT Tryz.func146 cv xp xq
abbrev Dq6:Pt SN:= .dat .str
def mB:Cut SN:=⟨[(0, .bp 100000 0),(1,Dq6),(5,Dq1)],[(100000, .bar 256 (.int .u8))]⟩
def tP:Cut SN:=⟨[(0, .bp 100000 0),(1,Dq6),(5,Dq1),(19,Dq4)],[(100000, .bar 256 (.int .u8))]⟩
def tO:Cut SN:=⟨[(0, .bp 100000 0),(5,Dq1)],[(100000, .bar 256 (.int .u8))]⟩
def oW:Cut SN:=⟨[(0, .bp 100000 0),(4,Dq1)],[(100000, .bar 256 (.int .u8))]⟩
def ye:aU vw:=shL [(0,tO)] oW
def uR:Sig vw:={params:=[.bp 100000 0,Dq6],objs:=[(100000, .bar 256 (.int .u8))],rcut:=oW,rvars:=[.tmp 4],keep:=[100000]}
noncomputable def c_(v:ByteArray×Int×(List Int)×Unit):Option ((Int×(List Int)×Unit)):=(if decide (v.2.1<(↑v.1.size:Int))=true then if 0<=v.2.1 then v.1[v.2.1.toNat]?>>=λx1=>if 0<=(↑x1.toNat:Int)/\(↑x1.toNat:Int)<(↑(256:Nat):Int)then if(↑x1.toNat:Int).toNat<(256:Nat)then v.2.2.1[(↑x1.toNat:Int).toNat]?>>=λx2=>some ((v.1,v.2.1,decide (x2>=2),v.2.2))else none else none else none else some (v.1,v.2.1,false,v.2.2))>>=λx1=>if x1.2.2.1=true then c_ (x1.1,i64.wrap (x1.2.1+1),x1.2.2.2)else some (x1.2.1,x1.2.2.2) partial_fixpoint
noncomputable def kw(v:ByteArray×(List Int)×Unit):Option (Int×(List Int)×Unit):=c_ (v.1,(0:Int),v.2)>>=λx1=>some (x1)
def tm:Xc vw:=mX prog 23 c0 ye [] [(2,tP)] [(2,⟨mB,[.exit 0],c_⟩)]
theorem nK:mq tm (cp (bA Tryz.f147) 0) ⟨mB,[.exit 0],c_⟩:=lp0 c_.partial_correctness cv
theorem qM:aT prog 147 uR kw:=fn1 tm Tryz.func147 cv nK
def Mj:aU vw:={rcut:=jm}
def Kw:Sig vw:=sg [Dq6] jm [.tmp 2]
noncomputable def Ds(v:ByteArray×Unit):Option (Bool×Unit):=DK ()>>=λx1=>(if(!v.1.toList==(Qc #[]).toList)=true then v.1[Q1 0]?>>=λx2=>if 0<=(↑x2.toNat:Int)/\(↑x2.toNat:Int)<(↑(256:Nat):Int)then if(↑x2.toNat:Int).toNat<(256:Nat)then x1.1[(↑x2.toNat:Int).toNat]?>>=λx3=>if(x3==2)=true then kw (v.1,x1)>>=λx4=>some ((x4.1==(↑v.1.size:Int),()))else some ((false,()))else none else none else some ((false,())))>>=λx2=>some (x2)
def y_:=kP DL (kO qM k0)
def Py:Xc vw:=mX prog 21 y_.1 Mj [] [(2,jm)] []
theorem Dt:aT prog 113 Kw Ds:=fn0 Py Tryz.func113 y_.2
abbrev Ld:Pt SN:= .dat (.sl .str)
def F_:Cut SN:=⟨[(0,Ld),(1,Dq6),(7,Dq1),(8,Dq1)],[]⟩
def MI:aU vw:=shL [(0,jq)] bV
def KU:Sig vw:=sg [Ld,Dq6] bV [.tmp 4]
noncomputable def gJ(v:(List ByteArray)×ByteArray×Int×Int×Unit):Option (((Int×Unit)⊕(Unit))):=let a:=v.2.2;if decide (a.2.1<a.1)=true then if 0<=a.2.1 then v.1[a.2.1.toNat]?>>=λx1=>if(v.2.1.toList==x1.toList)=true then some (Rx a.2)else gJ (v.1,v.2.1,a.1,i64.wrap (a.2.1+1),())else none else some (Sc ()) partial_fixpoint
noncomputable def HY(v:(List ByteArray)×ByteArray×Unit):Option (Int×Unit):=gJ (v.1,v.2.1,(↑v.1.length:Int),(0:Int),())>>=λx1=>match x1 with| .inl y1=>some y1| .inr y1=>some (((-1:Int),()))
def On:Xc vw:=mX prog 19 c0 MI [] [] [(2,⟨F_,[.ret, .exit 0],gJ⟩)]
theorem xu:mq On (cp (bA Tryz.f162) 0) ⟨F_,[.ret, .exit 0],gJ⟩:=lp0 gJ.partial_correctness cv
theorem DU:aT prog 162 KU HY:=fn1 On Tryz.func162 cv xu
def Mz:aU vw:={rcut:=dQ}
def KL:Sig vw:=sg [Ld,Dq6] dQ [.tmp 4]
noncomputable def HV(v:(List ByteArray)×ByteArray×Unit):Option (Bool×Unit):=HY v>>=λx1=>some ((decide (x1.1>=0),()))
def zl:=kP DU k0
def PM:Xc vw:=mX prog 9 zl.1 Mz [] [] []
theorem DM:aT prog 148 KL HV:=fn0 PM Tryz.func148 zl.2
def LF:Cut SN:=⟨[(2,Ld)],[]⟩
def KM:Sig vw:=sg [Dq6] LF [.tmp 2]
noncomputable def AE(v:ByteArray×Unit):Option ((List ByteArray)×Unit):=if v.1.size<4294967281/\v.1.data.toList.all (λb=>decide (b.toNat<128))=true then some ((Lib.fields v.1.data.toList).map (λl=>(⟨l.toArray⟩:ByteArray)),())else none
theorem DN:aT prog 149 KM AE:=λv r x h hx=>by
 obtain⟨s,u⟩:=v
 unfold AE at h
 split at h
 ·rename_i hc
  obtain⟨h0,h1⟩:=hc
  simp only at h0 h1
  cases h;cases hx
  exact kq (by kernel_rfl) (lS.newRow (P:=prog) (f:=149) (args:=[.d (.v (.string s))]) (sz:=1) (rows:=((Lib.fields s.data.toList).map λl=>(⟨l.toArray⟩:ByteArray)).map λy=>[D.v (.string y)]) (by kernel_rfl) (λr hr=>by obtain⟨_,_,rfl⟩:=QD.1 hr;rfl) λE M w vs hg hm hv=>by
   obtain⟨v1,rfl,h2⟩:=z7 hv
   rw[h2.dv]
   refine(Tryz.strings_Fields s w h0 (λj b hb=>of_decide_eq_true (Qq.1 h1 b (Qn hb))) (Cg hg hm)).mono λe w' ⟨he,hw⟩=>⟨_,_,by rw[he];simp,hw,by simp,λi j r c x hr hx hc=> ?_⟩
   rw[QJ,Qh,Qr]at hr
   obtain⟨l,hl,rfl⟩:=hr
   cases j with
   |zero=>
    simp only[RJ,Ri,Qd]at hx
    subst hx
    simp only[SL,Rj,R_,Qh,hl,QG,Qd]at hc
    subst hc
    exact .v _
   |succ j=>simp at hx)
 ·cases h
def Mk:aU vw:={rcut:=jm}
def Kx:Sig vw:=sg [Dq6] jm [.tmp 2]
noncomputable def Du(v:ByteArray×Unit):Option (Bool×Unit):=AE (Qc (([(102:UInt8),(110:UInt8),(32:UInt8),(99:UInt8),(111:UInt8),(110:UInt8),(115:UInt8),(116:UInt8),(32:UInt8),(118:UInt8),(97:UInt8),(114:UInt8),(32:UInt8),(99:UInt8),(111:UInt8),(109:UInt8),(112:UInt8),(116:UInt8),(105:UInt8),(109:UInt8),(101:UInt8),(32:UInt8),(114:UInt8),(101:UInt8),(116:UInt8),(117:UInt8),(114:UInt8),(110:UInt8),(32:UInt8),(101:UInt8),(114:UInt8),(114:UInt8),(111:UInt8),(114:UInt8),(32:UInt8),(105:UInt8),(102:UInt8),(32:UInt8),(101:UInt8),(108:UInt8),(115:UInt8),(101:UInt8)].append [(32:UInt8),(119:UInt8),(104:UInt8),(105:UInt8),(108:UInt8),(101:UInt8),(32:UInt8),(102:UInt8),(111:UInt8),(114:UInt8),(32:UInt8),(105:UInt8),(110:UInt8),(108:UInt8),(105:UInt8),(110:UInt8),(101:UInt8),(32:UInt8),(115:UInt8),(119:UInt8),(105:UInt8),(116:UInt8),(99:UInt8),(104:UInt8),(32:UInt8),(100:UInt8),(101:UInt8),(102:UInt8),(101:UInt8),(114:UInt8),(32:UInt8),(101:UInt8),(114:UInt8),(114:UInt8),(100:UInt8),(101:UInt8),(102:UInt8),(101:UInt8),(114:UInt8),(32:UInt8),(98:UInt8),(114:UInt8)]).append ([(101:UInt8),(97:UInt8),(107:UInt8),(32:UInt8),(99:UInt8),(111:UInt8),(110:UInt8),(116:UInt8),(105:UInt8),(110:UInt8),(117:UInt8),(101:UInt8),(32:UInt8),(103:UInt8),(105:UInt8),(118:UInt8),(101:UInt8),(32:UInt8),(117:UInt8),(110:UInt8),(114:UInt8),(101:UInt8),(97:UInt8),(99:UInt8),(104:UInt8),(97:UInt8),(98:UInt8),(108:UInt8),(101:UInt8),(32:UInt8),(116:UInt8),(114:UInt8),(117:UInt8),(101:UInt8),(32:UInt8),(102:UInt8),(97:UInt8),(108:UInt8),(115:UInt8),(101:UInt8),(32:UInt8),(97:UInt8)].append [(110:UInt8),(100:UInt8),(32:UInt8),(111:UInt8),(114:UInt8),(32:UInt8),(116:UInt8),(114:UInt8),(121:UInt8),(32:UInt8),(99:UInt8),(97:UInt8),(116:UInt8),(99:UInt8),(104:UInt8),(32:UInt8),(111:UInt8),(114:UInt8),(101:UInt8),(108:UInt8),(115:UInt8),(101:UInt8),(32:UInt8),(100:UInt8),(111:UInt8),(32:UInt8),(118:UInt8),(111:UInt8),(105:UInt8),(100:UInt8),(32:UInt8),(98:UInt8),(111:UInt8),(111:UInt8),(108:UInt8),(32:UInt8),(116:UInt8),(121:UInt8),(112:UInt8),(101:UInt8),(32:UInt8),(95:UInt8)])).toArray,())>>=λx1=>HV (x1.1,v)>>=λx2=>some (x2)
def za:=kP DM (kP DN k0)
def Pz:Xc vw:=mX prog 6 za.1 Mk [] [] []
theorem Dv:aT prog 114 Kx Du:=fn0 Pz Tryz.func114 za.2
def MJ:aU vw:={rcut:=jm}
def KV:Sig vw:=sg [Dq1] jm [.tmp 2]
noncomputable def HZ(v:Int×Unit):Option (Bool×Unit):=(if decide (v.1>=2)=true then some ((decide (v.1<=16),()))else some ((false,())))>>=λx1=>some (x1)
def PV:Xc vw:=mX prog 9 c0 MJ [] [(1,jm)] []
theorem DV:aT prog 165 KV HZ:=fn0 PV Tryz.func165 cv
def M4:aU vw:={rcut:=dQ}
def K2:Sig vw:=sg [Dq6,Dq6] dQ [.tmp 4]
noncomputable def H4(v:ByteArray×ByteArray×Unit):Option (Bool×Unit):=(if decide ((↑v.1.size:Int)>=(↑v.2.1.size:Int))=true then if(0:Int)<=0/\0<=(↑v.2.1.size:Int)/\(↑v.2.1.size:Int)<=(↑v.1.size:Int)then some (((v.1.extract (Q1 0) (↑v.2.1.size:Int).toNat).toList==v.2.1.toList,()))else none else some ((false,())))>>=λx1=>some (x1)
def Qb:Xc vw:=mX prog 18 c0 M4 [] [(1,dQ)] []
theorem Ef:aT prog 193 K2 H4:=fn0 Qb Tryz.func193 cv
def wP:Cut SN:=⟨[(4,Dq6)],[]⟩
def MQ:aU vw:={rcut:=wP}
def K0:Sig vw:=sg [Dq6,Dq6] wP [.tmp 4]
noncomputable def H2(v:ByteArray×ByteArray×Unit):Option (ByteArray×Unit):=H4 v>>=λx1=>if x1.1=true then if 0<=(↑v.2.1.size:Int)/\(↑v.2.1.size:Int)<=(↑v.1.size:Int)/\(↑v.1.size:Int)<=(↑v.1.size:Int)then some ((v.1.extract (↑v.2.1.size:Int).toNat (↑v.1.size:Int).toNat,()))else none else some ((v.1,()))
def zt:=kP Ef k0
def P2:Xc vw:=mX prog 13 zt.1 MQ [] [] []
theorem D1:aT prog 176 K0 H2:=fn0 P2 Tryz.func176 zt.2
def MK:aU vw:={rcut:=wP}
def KW:Sig vw:=sg [Dq6,Dq6] wP [.tmp 4]
noncomputable def DW(v:ByteArray×ByteArray×Unit):Option (ByteArray×Unit):=H2 v>>=λx1=>some (x1)
def zp:=kP D1 k0
def PW:Xc vw:=mX prog 8 zp.1 MK [] [] []
theorem DX:aT prog 166 KW DW:=fn0 PW Tryz.func166 zp.2
def K1:Sig vw:=sg [Dq6,GZ] bV [.tmp 4]
noncomputable def H3(v:ByteArray×Int×Unit):Option (Int×Unit):=some (Lib.indexByte v.1.data.toList v.2.1.toNat.toUInt8,())
theorem D2:aT prog 177 K1 H3:=λv r x h hx=>by
 obtain⟨s,c,u⟩:=v
 cases h;cases hx
 exact kq (by kernel_rfl) (lS.pure (P:=prog) (f:=177) (args:=[.d (.v (.string s)), .d (.v (.int .u8 c))]) (r:= .d (.v (.int .i64 (Lib.indexByte s.data.toList c.toNat.toUInt8)))) (by kernel_rfl) λE M w vs _ _ hv=>by
  obtain⟨v1,v2,rfl,h1,h2⟩:=z8 hv
  rw[h1.dv,h2.dv]
  exact(Tryz.stringslite_IndexByte s c w).mono λe w' ⟨he,hw⟩=>⟨_,he, .d (.v _),hw▸Go.RowKit.Below.refl _ _⟩)
def ML:aU vw:={rcut:=bV}
def KX:Sig vw:=sg [Dq6,GZ] bV [.tmp 4]
noncomputable def H1(v:ByteArray×Int×Unit):Option (Int×Unit):=H3 v>>=λx1=>some (x1)
def zq:=kP D2 k0
def PX:Xc vw:=mX prog 8 zq.1 ML [] [] []
theorem DY:aT prog 167 KX H1:=fn0 PX Tryz.func167 zq.2
def oX:Cut SN:=⟨[(0,Dq1),(1,Dq1),(5,Dq6)],[]⟩
def JF:Cut SN:=⟨[(0,Dq1),(5,Dq6)],[]⟩
def EP:aU vw:=shL [(0,JF)] wP
def gT:Sig vw:=sg [Dq1,Dq1] wP [.tmp 4]
abbrev Tq9:=Int×Int×ByteArray×Unit
noncomputable def dg(v:Tq9):Option ((Int×ByteArray×Unit)):=let a:=v.2.1;if decide (v.1>=a)=true then if a=0 then none else if 0<=v.1.tmod a then(Qc #[48,49,50,51,52,53,54,55,56,57,97,98,99,100,101,102])[(v.1.tmod a).toNat]?>>=λx1=>if(Bs.enc1 (↑x1.toNat:Int)).size+v.2.2.1.size<=4294967296 then if a=0 then none else dg (i64.wrap (v.1.tdiv a),a,Bs.enc1 (↑x1.toNat:Int)++v.2.2.1,())else none else none else some (v.1,v.2.2) partial_fixpoint
noncomputable def oH(v:Int×Int×Unit):Option (ByteArray×Unit):=if decide (v.1<0)=true then oH (i64.wrap ((0:Int) -v.1),v.2)>>=λx1=>if(Qc #[45]).size+x1.1.size<=4294967296 then some ((Qc #[45]++x1.1,()))else none else dg (v.1,v.2.1,Qc #[],())>>=λx1=>if 0<=x1.1 then(Qc #[48,49,50,51,52,53,54,55,56,57,97,98,99,100,101,102])[x1.1.toNat]?>>=λx2=>if(Bs.enc1 (↑x2.toNat:Int)).size+x1.2.1.size<=4294967296 then some ((Bs.enc1 (↑x2.toNat:Int)++x1.2.1,()))else none else none partial_fixpoint
def tS(dg:Tq9->Option ((Int×ByteArray×Unit)))(oH:Int×Int×Unit->Option (ByteArray×Unit)):dl vw:=λA fid args S k=>match fid with|168=>cG prog gT oH A args S k|_=>none
def wz(dg:Tq9->Option ((Int×ByteArray×Unit)))(oH:Int×Int×Unit->Option (ByteArray×Unit)):Xc vw:={P:=prog,n:=31,call:=tS dg oH,pre:=I_,sh:=EP,loops:=λk=>match k with|4=>some {cut:=oX,alts:=[.exit 0],F:=dg}|_=>none}
abbrev mc(v:Tq9)(r:(Int×ByteArray×Unit)):Prop:=(λv out=>∀C:Ctx,C.P=prog->C.N=31/\Fx C I_->tq C (cp (bA Tryz.f168) 0) (Go.Tx.aV vw (f_ vw oX v)) (CM EP [.exit 0] out)) v r
theorem C0(f0:Tq9->Option ((Int×ByteArray×Unit)))(h0:∀v r,f0 v=some r->mc v r):bO prog (wz f0 (λ_=>none)).call:=(by
 intro A fid args S dst k r h
 unfold wz tS at h
 simp only at h
 split at h
 ·exact bM ((λv r x h hx=>by cases h)) rfl rfl h
 ·cases h)
theorem ES(f0:Tq9->Option ((Int×ByteArray×Unit)))(h0:∀v r,f0 v=some r->mc v r)(v:Tq9)(r:(Int×ByteArray×Unit))(h:exL (wz f0 (λ_=>none)) (cp (bA Tryz.f168) 0) oX [.exit 0] f0 v=some r):mc v r:=λC hP hN=>nD (X:=wz f0 (λ_=>none)) (b:=(cp (bA Tryz.f168) 0)) hP hN Ty.mixed (C0 f0 h0) (h_ (X:=wz f0 (λ_=>none)) (c:=(cp (bA Tryz.f168) 0)) (kq (by kernel_rfl:True=tB (iR C (wz f0 (λ_=>none))) (cM (cp (bA Tryz.f168) 0))) trivial)) (cut:=oX) (alts:=[.exit 0]) (F:=f0) (λv out h=>h0 v out h C hP hN) h
theorem xw:∀v out,dg v=some out->(λv out=>∀C:Ctx,C.P=prog->C.N=31/\Fx C I_->tq C (cp (bA Tryz.f168) 0) (Go.Tx.aV vw (f_ vw oX v)) (CM EP [.exit 0] out)) v out:=(dg.partial_correctness (motive:=mc) (λf0 h0 v r h=>ES f0 h0 v r (kq (by kernel_rfl) h)))
abbrev vV(v:Int×Int×Unit)(r:ByteArray×Unit):Prop:=(λv r=>∀x,Gy prog gT r=some x->lS prog 168 (encL vw (cX gT v).len (ek gT v).1) (fj (cX gT v).len (cX gT v).own) (aK vw (f_ vw gT.rcut r).len x) (fj (f_ vw gT.rcut r).len (qy gT r))) v r
theorem JY(f0:Int×Int×Unit->Option (ByteArray×Unit))(h0:∀v r,f0 v=some r->vV v r):bO prog (wz dg f0).call:=(by
 intro A fid args S dst k r h
 unfold wz tS at h
 simp only at h
 split at h
 ·exact bM ((λv r x h hx=>h0 v r h x hx)) rfl rfl h
 ·cases h)
theorem K5(f0:Int×Int×Unit->Option (ByteArray×Unit))(h0:∀v r,f0 v=some r->vV v r)(v:Int×Int×Unit)(r:ByteArray×Unit)(h:exF (wz dg f0) gT rfl (bA Tryz.f168) v=some r):vV v r:=λx hx=>C_ (X:=wz dg f0) (sig:=gT) rfl Tryz.func168 (c:=bA Tryz.f168) (by kernel_rfl) Tryz.ntmps168 (by kernel_rfl) (by kernel_rfl) rfl Ty.mixed (JY f0 h0) rfl (λC hP hN=>(h_ (X:=wz dg f0) (c:=(bA Tryz.f168)) (kq (by kernel_rfl:tB (iR C (wz dg f0)) [(cp (bA Tryz.f168) 0)]=tB (iR C (wz dg f0)) (cM (bA Tryz.f168))) ⟨nC (X:=wz dg f0) (b:=(cp (bA Tryz.f168) 0)) (by kernel_rfl) (show iQ C (cp (bA Tryz.f168) 0) (sh:=EP) {cut:=oX,alts:=[.exit 0],F:=dg}fromλv out h=>xw v out h C hP hN),trivial⟩))) h x hx
theorem DZ:aT prog 168 gT oH:=λv r x h hx=>(oH.partial_correctness (motive:=vV) (λf0 h0 v r h=>K5 f0 h0 v r (kq (by kernel_rfl) h))) v r h x hx
def F9:Cut SN:=⟨[(0,Dq6),(1,Dq1),(6,Dq1),(7,Dq6),(16,Dq1),(17,Dq1)],[]⟩
def Hk:Cut SN:=⟨[(0,Dq6),(1,Dq1),(6,Dq1)],[]⟩
def Jx:Cut SN:=⟨[(0,Dq6),(1,Dq1),(6,Dq1),(7,Dq6),(9,Dq1),(16,Dq1),(17,Dq1),(31,Dq4)],[]⟩
def Hl:Cut SN:=⟨[(6,Dq1),(57,Dq4)],[]⟩
def Jw:Cut SN:=⟨[(0,Dq6),(1,Dq1),(6,Dq1),(7,Dq6)],[]⟩
def CY:Cut SN:=⟨[(4,Dq1),(5,Dq1)],[]⟩
def MA:aU vw:=shL [(0,Jw)] CY
def KN:Sig vw:=sg [Dq6,Dq1] CY [.tmp 4, .tmp 5]
noncomputable def ie(v:ByteArray×Int×Int×ByteArray×Int×Int×Unit):Option (((Int×Int×Unit)⊕(ByteArray×Int×Int×ByteArray×Unit))):=let a:=v.2.2.2;let b:=a.2.2.1;let G1:=(Qc #[48,49,50,51,52,53,54,55,56,57,97,98,99,100,101,102]);if decide (b<a.2.1)=true then if(0:Int)<=0/\0<=v.2.1/\v.2.1<=(↑G1.size:Int)then if 0<=b then a.1[b.toNat]?>>=λx1=>H1 (G1.extract (Q1 0) v.2.1.toNat,(↑x1.toNat:Int),())>>=λx2=>(if decide (x2.1<0)=true then some ((v.1,v.2.1,v.2.2.1,a.1,x2.1,a.2.1,b,true,()))else some ((v.1,v.2.1,v.2.2.1,a.1,x2.1,a.2.1,b,decide (v.2.2.1>1099511627776),())))>>=λx3=>let c:=x3.2.2.2;if c.2.2.2.2.1=true then some (Rx ((0:Int),(2:Int),()))else ie (x3.1,x3.2.1,i64.wrap (i64.wrap (x3.2.2.1 *x3.2.1)+c.2.1),c.1,c.2.2.1,i64.wrap (c.2.2.2.1+1),())else none else none else some (Sc (v.1,v.2.1,v.2.2.1,a.1,())) partial_fixpoint
noncomputable def DO(v:ByteArray×Int×Unit):Option (Int×Int×Unit):=HZ v.2>>=λx1=>if(!x1.1)=true then some (((0:Int),(1:Int),()))else DW (v.1,Qc #[45],())>>=λx2=>ie (v.1,v.2.1,(0:Int),x2.1,(↑x2.1.size:Int),(0:Int),())>>=λx3=>match x3 with| .inl y3=>some y3| .inr y3=>(if decide ((↑y3.2.2.2.1.size:Int)<(↑y3.1.size:Int))=true then some ((y3.1,y3.2.1,i64.wrap ((0:Int) -y3.2.2.1),()))else some ((y3.1,y3.2.1,y3.2.2.1,())))>>=λx4=>let a:=x4.2.2.1;(if decide (a<(-1099511627776:Int))=true then some ((a,true,()))else if decide (a>1099511627776)=true then some ((a,true,()))else oH (a,x4.2.1,())>>=λx5=>some ((a,!x5.1.toList==x4.1.toList,())))>>=λx5=>if x5.2.1=true then some (((0:Int),(2:Int),()))else some ((x5.1,(0:Int),()))
def tQ:=kP DV (kP DX (kP DY (kP DZ k0)))
def Om:Xc vw:=mX prog 59 tQ.1 MA [(15,Hk,[.norm])] [(9,Jx),(15,Hl)] [(6,⟨F9,[.ret, .exit 0],ie⟩)]
theorem xr:mq Om (cp (bA Tryz.f150) 0) ⟨F9,[.ret, .exit 0],ie⟩:=lp0 ie.partial_correctness tQ.2
theorem DP:aT prog 150 KN DO:=fn1 Om Tryz.func150 tQ.2 xr
def Jy:Cut SN:=⟨[(10,Dq4)],[]⟩
def MB:aU vw:={rcut:=yI}
abbrev wE:Pt SN:= .dat (.st .myIntT)
def KO:Sig vw:=sg [wE] yI [.tmp 2]
noncomputable def nL(v:b9×Unit):Option (Int×Unit):=(if decide (v.1.bits<1)=true then some ((true,()))else some ((decide (v.1.bits>31),())))>>=λx1=>if x1.1=true then some (((1:Int),()))else some (((0:Int),()))
def PN:Xc vw:=mX prog 11 c0 MB [] [(1,Jy)] []
theorem iJ:aT prog 151 KO nL:=fn0 PN Tryz.func151 cv
def Jm:Cut SN:=⟨[(0,Dq6),(2, .bp 2 0),(19,Dq4)],[(2, .st .myIntT)]⟩
def Jn:Cut SN:=⟨[(2, .bp 2 0),(6, .bp 6 0),(38,Dq4)],[(2, .st .myIntT),(6, .st .myIntT)]⟩
def Jo:Cut SN:=⟨[(2, .bp 2 0),(3,Dq1)],[(2, .st .myIntT)]⟩
def Ml:aU vw:={rcut:=Jo}
def Ky:Sig vw:=sg [Dq6] Jo [.cell 2 135, .tmp 3]
noncomputable def Dw(v:ByteArray×Unit):Option (Int×b9×Unit):=let G1:=(b9.mk false (0:Int),());(if decide ((↑v.1.size:Int)<2)=true then some (v.1,true,G1)else v.1[Q1 0]?>>=λx1=>if((↑x1.toNat:Int) !=117)=true then v.1[Q1 0]?>>=λx2=>some ((v.1,(↑x2.toNat:Int) !=105,G1))else some (v.1,false,G1))>>=λx1=>if x1.2.1=true then some (((2:Int),G1))else if(0:Int)<=1/\(1:Int)<=(↑x1.1.size:Int)/\(↑x1.1.size:Int)<=(↑x1.1.size:Int)then DO (x1.1.extract (Q1 1) (↑x1.1.size:Int).toNat,(10:Int),())>>=λx2=>x1.1[Q1 0]?>>=λx3=>(if(x2.2.1 !=0)=true then some ((true,x1.2.2.1,b9.mk ((↑x3.toNat:Int)==105) x2.1,()))else nL (b9.mk ((↑x3.toNat:Int)==105) x2.1,())>>=λx4=>some ((x4.1 !=0,x1.2.2.1,b9.mk ((↑x3.toNat:Int)==105) x2.1,())))>>=λx4=>if x4.1=true then some (((2:Int),G1))else some (((0:Int),x4.2.2))else none
def zb:=kP DP (kP iJ k0)
def PA:Xc vw:=mX prog 41 zb.1 Ml [] [(1,Jm),(5,Jn)] []
theorem Dx:aT prog 115 Ky Dw:=fn0 PA Tryz.func115 zb.2
def LN:Cut SN:=⟨[(0,Dq6),(16,Dq4)],[]⟩
def O5:aU vw:={rcut:=jm}
def Ni:Sig vw:=sg [Dq6] jm [.tmp 2]
noncomputable def I8(v:ByteArray×Unit):Option (Bool×Unit):=(if decide ((↑v.1.size:Int)>8)=true then some ((v.1,true,()))else Ds v>>=λx1=>if(!x1.1)=true then some ((v.1,true,()))else Du v>>=λx2=>some (v.1,x2))>>=λx1=>if x1.2.1=true then some ((false,()))else Dw (x1.1,())>>=λx2=>some ((x2.1 !=0,()))
def Gh:=kP Dt (kP Dv (kP Dx k0))
def x66:Xc vw:=mX prog 24 Gh.1 O5 [] [(1,LN)] []
theorem uq:aT prog 66 Ni I8:=fn0 x66 Tryz.func66 Gh.2
def wU:Cut SN:=⟨[(6,Dq4)],[]⟩
def O6:aU vw:={rcut:=wU}
def Nj:Sig vw:=sg [Dq1,Dq1,Dq1] wU [.tmp 6]
abbrev Je:=Int×Int×Int×Unit
noncomputable def CI(v:Je):Option (Bool×Unit):=(if decide (v.1>=v.2.1)=true then some ((decide (v.1<=v.2.2.1),()))else some ((false,())))>>=λx1=>some (x1)
def x67:Xc vw:=mX prog 15 c0 O6 [] [(1,wU)] []
theorem AU:aT prog 67 Nj CI:=fn0 x67 Tryz.func67 cv
def MC:aU vw:={rcut:=jm}
def KP:Sig vw:=sg [Dq1] jm [.tmp 2]
noncomputable def HW(v:Int×Unit):Option (Bool×Unit):=(if(v.1==2)=true then some ((true,()))else some ((v.1==3,())))>>=λx1=>some (x1)
def PO:Xc vw:=mX prog 9 c0 MC [] [(1,jm)] []
theorem DQ:aT prog 152 KP HW:=fn0 PO Tryz.func152 cv
def CZ:Cut SN:=⟨[(2, .bp 2 0)],[(2, .st .myIntT)]⟩
def MD:aU vw:={rcut:=CZ}
abbrev GY:Pt SN:= .dat (.st .myTypeT)
def KQ:Sig vw:=sg [GY] CZ [.cell 2 135]
noncomputable def HX(v:aG×Unit):Option (b9×Unit):=some ((b9.mk (v.1.base==3) v.1.bits,()))
def PP:Xc vw:=mX prog 9 c0 MD [] [] []
theorem DR:aT prog 153 KQ HX:=fn0 PP Tryz.func153 cv
def Jp:Cut SN:=⟨[(1, .bp 1 0),(33,Dq4)],[(1, .st .myTypeT)]⟩
def Mm:aU vw:={rcut:=jm}
def Kz:Sig vw:=sg [GY] jm [.tmp 2]
noncomputable def Dy(v:aG×Unit):Option (Bool×Unit):=let G1:=(false,());(if decide (v.1.base<0)=true then some (true,v)else if decide (v.1.base>5)=true then some (true,v)else if v.1.opt=true then if(v.1.base==0)=true then some (true,v)else if(v.1.base==4)=true then some (true,v)else if v.1.err=true then some (v.1.base==4,v)else some (false,v)else if v.1.err=true then some (v.1.base==4,v)else some (false,v))>>=λx1=>let a:=x1.2.1;if x1.1=true then some (G1)else HW (a.base,())>>=λx2=>if x2.1=true then(HX x1.2>>=λx3=>nL x3>>=λx4=>if(x4.1==0)=true then some ((a.name0.toList==(Qc #[]).toList,()))else some (G1))>>=λx3=>some (x3)else(if(a.bits==0)=true then if(a.base==5)=true then I8 (a.name0,())>>=λx3=>if x3.1=true then some ((true,()))else if(a.base !=5)=true then some ((a.name0.toList==(Qc #[]).toList,()))else some (G1)else if(a.base !=5)=true then some ((a.name0.toList==(Qc #[]).toList,()))else some (G1)else some (G1))>>=λx3=>some (x3)
def zc:=kP uq (kP iJ (kP DQ (kP DR k0)))
def PB:Xc vw:=mX prog 69 zc.1 Mm [] [(1,Jp),(4,jm),(5,jm)] []
theorem Dz:aT prog 116 Kz Dy:=fn0 PB Tryz.func116 zc.2
def O7:aU vw:={rcut:=yI}
def Nk:Sig vw:=sg [GY] yI [.tmp 2]
noncomputable def Kk(v:aG×Unit):Option (Int×Unit):=Dy v>>=λx1=>if(!x1.1)=true then some (((1:Int),()))else some (((0:Int),()))
def Gi:=kP Dz k0
def x68:Xc vw:=mX prog 6 Gi.1 O7 [] [] []
theorem AV:aT prog 68 Nk Kk:=fn0 x68 Tryz.func68 Gi.2
def Mo:aU vw:={rcut:=jm}
def KB:Sig vw:=sg [GY] jm [.tmp 2]
noncomputable def AB(v:aG×Unit):Option (Bool×Unit):=(Kk v>>=λx1=>if(x1.1==0)=true then if(!v.1.opt)=true then some ((!v.1.err,()))else some ((false,()))else some ((false,())))>>=λx1=>some (x1)
def ze:=kP AV k0
def PD:Xc vw:=mX prog 16 ze.1 Mo [] [(1,jm)] []
theorem vW:aT prog 119 KB AB:=fn0 PD Tryz.func119 ze.2
def Mn:aU vw:={rcut:=jm}
def KA:Sig vw:=sg [GY] jm [.tmp 2]
noncomputable def xn(v:aG×Unit):Option (Bool×Unit):=(AB v>>=λx1=>if x1.1=true then if(v.1.base==2)=true then some ((true,()))else some ((v.1.base==3,()))else some ((false,())))>>=λx1=>some (x1)
def zd:=kP vW k0
def PC:Xc vw:=mX prog 15 zd.1 Mn [] [(1,jm)] []
theorem DA:aT prog 118 KA xn:=fn0 PC Tryz.func118 zd.2
def rE:Cut SN:=⟨[(1, .bp 100000 0),(3,Dq4)],[(100000, .box none [Dq6])]⟩
def BJ:aU vw:={rcut:=rE}
def yj:Sig vw:={params:=[Jb, .bp 100000 0],objs:=[(100000, .box none [Dq6])],rcut:=rE,rvars:=[.tmp 3],keep:=[100000]}
noncomputable def nN(v:aB×ByteArray×Unit):Option (Bool×ByteArray×Unit):=some (v.1.name0.toList==v.2.1.toList,v.2)
def Fv:Xc vw:=mX prog 8 c0 BJ [] [] []
theorem sw:aT prog 72 yj nN:=fn0 Fv Tryz.func72 cv
def o7:Cut SN:=⟨[(0,Dq3),(1, .fn 72 [] [100000]),(7,Dq1),(8,Dq1)],[(100000, .box none [Dq6])]⟩
def wT:Cut SN:=⟨[(1, .fn 72 [] [100000])],[(100000, .box none [Dq6])]⟩
def rC:Cut SN:=⟨[(1, .fn 72 [] [100000]),(4,Dq1)],[(100000, .box none [Dq6])]⟩
def BG:aU vw:=shL [(0,wT)] rC
def yg:Sig vw:={params:=[Dq3, .fn 72 [] [100000]],objs:=[(100000, .box none [Dq6])],rcut:=rC,rvars:=[.tmp 4],keep:=[100000]}
noncomputable def dF(v:(List aB)×Int×Int×ByteArray×Unit):Option (((Int×ByteArray×Unit)⊕(ByteArray×Unit))):=let a:=v.2.2;if decide (a.1<v.2.1)=true then if 0<=a.1 then v.1[a.1.toNat]?>>=λx1=>nN (x1,a.2)>>=λx2=>if x2.1=true then some (Rx (a.1,x2.2))else dF (v.1,v.2.1,i64.wrap (a.1+1),x2.2)else none else some (Sc a.2) partial_fixpoint
noncomputable def nM(v:(List aB)×ByteArray×Unit):Option (Int×ByteArray×Unit):=dF (v.1,(↑v.1.length:Int),(0:Int),v.2)>>=λx1=>match x1 with| .inl y1=>some y1| .inr y1=>some (((-1:Int),y1))
def i4:=kO sw k0
def wB:Xc vw:=mX prog 19 i4.1 BG [] [] [(2,⟨o7,[.ret, .exit 0],dF⟩)]
theorem oJ:mq wB (cp (bA Tryz.f65) 0) ⟨o7,[.ret, .exit 0],dF⟩:=lp0 dF.partial_correctness i4.2
theorem sr:aT prog 65 yg nM:=fn1 wB Tryz.func65 i4.2 oJ
def O2:aU vw:={rcut:=bV}
def Ng:Sig vw:=sg [Dq3,Dq6] bV [.tmp 4]
noncomputable def I7(v:(List aB)×ByteArray×Unit):Option (Int×Unit):=nM v>>=λx1=>some ((x1.1,()))
def Gg:=kO sr k0
def x50:Xc vw:=mX prog 8 Gg.1 O2 [] [] []
theorem un:aT prog 50 Ng I7:=fn0 x50 Tryz.func50 Gg.2
def LO:Cut SN:=⟨[(6, .bp 6 0),(8, .bp 8 0),(9, .bp 9 0),(131,Dq4)],[(6, .st .myShapeT),(8, .st .myShapeT),(9, .st .myShapeT)]⟩
def JS:Cut SN:=⟨[(0,Dq3),(4, .bp 4 0),(5, .bp 5 0),(6, .bp 6 0),(8, .bp 8 0),(9, .bp 9 0),(27,Dq1),(50,Dq4)],[(4, .st .myFuncT),(5, .st .myCodeT),(6, .st .myShapeT),(8, .st .myShapeT),(9, .st .myShapeT)]⟩
def JT:Cut SN:=⟨[(0,Dq3),(4, .bp 4 0),(5, .bp 5 0),(6, .bp 6 0),(8, .bp 8 0),(9, .bp 9 0),(27,Dq1),(76,Dq4)],[(4, .st .myFuncT),(5, .st .myCodeT),(6, .st .myShapeT),(8, .st .myShapeT),(9, .st .myShapeT)]⟩
def JU:Cut SN:=⟨[(0,Dq3),(4, .bp 4 0),(5, .bp 5 0),(6, .bp 6 0),(8, .bp 8 0),(9, .bp 9 0),(27,Dq1),(84,Dq4)],[(4, .st .myFuncT),(5, .st .myCodeT),(6, .st .myShapeT),(8, .st .myShapeT),(9, .st .myShapeT)]⟩
def y8:Cut SN:=⟨[(6, .bp 6 0),(9, .bp 9 0)],[(6, .st .myShapeT),(9, .st .myShapeT)]⟩
def N5:Cut SN:=⟨[(6, .bp 6 0),(7,Dq4)],[(6, .st .myShapeT)]⟩
def O8:aU vw:={rcut:=N5}
abbrev mo:Pt SN:= .dat (.st .myCodeT)
def Nl:Sig vw:=sg [Dq3,Jb,mo] N5 [.cell 6 118, .tmp 7]
noncomputable def Ma(v:(List aB)×aB×aM×Unit):Option (Bool×bI×Unit):=let c:=v.2.2.1;let G1:=(bI.mk false false false false);(if(c.op==0)=true then CI (c.a,(-2147483648:Int),(2147483648:Int),())>>=λx1=>(xn (c.type0,())>>=λx2=>if x2.1=true then some ((G1,bI.mk x1.1 (bI.mk (c.a==0) (c.b==0) (Mp.ieq c.type0.base (aG.mk (0:Int) (0:Int) (Qc #[]) false false).base&&(Mp.ieq c.type0.bits (aG.mk (0:Int) (0:Int) (Qc #[]) false false).bits&&(Mp.seq c.type0.name0 (aG.mk (0:Int) (0:Int) (Qc #[]) false false).name0&&(Mp.beq c.type0.opt (aG.mk (0:Int) (0:Int) (Qc #[]) false false).opt&&Mp.beq c.type0.err (aG.mk (0:Int) (0:Int) (Qc #[]) false false).err)))) (c.name0.toList==(Qc #[]).toList)).b true (bI.mk (c.a==0) (c.b==0) (Mp.ieq c.type0.base (aG.mk (0:Int) (0:Int) (Qc #[]) false false).base&&(Mp.ieq c.type0.bits (aG.mk (0:Int) (0:Int) (Qc #[]) false false).bits&&(Mp.seq c.type0.name0 (aG.mk (0:Int) (0:Int) (Qc #[]) false false).name0&&(Mp.beq c.type0.opt (aG.mk (0:Int) (0:Int) (Qc #[]) false false).opt&&Mp.beq c.type0.err (aG.mk (0:Int) (0:Int) (Qc #[]) false false).err)))) (c.name0.toList==(Qc #[]).toList)).name0,()))else AB (c.type0,())>>=λx3=>if x3.1=true then some ((G1,bI.mk x1.1 (bI.mk (c.a==0) (c.b==0) (Mp.ieq c.type0.base (aG.mk (0:Int) (0:Int) (Qc #[]) false false).base&&(Mp.ieq c.type0.bits (aG.mk (0:Int) (0:Int) (Qc #[]) false false).bits&&(Mp.seq c.type0.name0 (aG.mk (0:Int) (0:Int) (Qc #[]) false false).name0&&(Mp.beq c.type0.opt (aG.mk (0:Int) (0:Int) (Qc #[]) false false).opt&&Mp.beq c.type0.err (aG.mk (0:Int) (0:Int) (Qc #[]) false false).err)))) (c.name0.toList==(Qc #[]).toList)).b (decide (c.type0.base<=1)) (bI.mk (c.a==0) (c.b==0) (Mp.ieq c.type0.base (aG.mk (0:Int) (0:Int) (Qc #[]) false false).base&&(Mp.ieq c.type0.bits (aG.mk (0:Int) (0:Int) (Qc #[]) false false).bits&&(Mp.seq c.type0.name0 (aG.mk (0:Int) (0:Int) (Qc #[]) false false).name0&&(Mp.beq c.type0.opt (aG.mk (0:Int) (0:Int) (Qc #[]) false false).opt&&Mp.beq c.type0.err (aG.mk (0:Int) (0:Int) (Qc #[]) false false).err)))) (c.name0.toList==(Qc #[]).toList)).name0,()))else some ((G1,bI.mk x1.1 (bI.mk (c.a==0) (c.b==0) (Mp.ieq c.type0.base (aG.mk (0:Int) (0:Int) (Qc #[]) false false).base&&(Mp.ieq c.type0.bits (aG.mk (0:Int) (0:Int) (Qc #[]) false false).bits&&(Mp.seq c.type0.name0 (aG.mk (0:Int) (0:Int) (Qc #[]) false false).name0&&(Mp.beq c.type0.opt (aG.mk (0:Int) (0:Int) (Qc #[]) false false).opt&&Mp.beq c.type0.err (aG.mk (0:Int) (0:Int) (Qc #[]) false false).err)))) (c.name0.toList==(Qc #[]).toList)).b false (bI.mk (c.a==0) (c.b==0) (Mp.ieq c.type0.base (aG.mk (0:Int) (0:Int) (Qc #[]) false false).base&&(Mp.ieq c.type0.bits (aG.mk (0:Int) (0:Int) (Qc #[]) false false).bits&&(Mp.seq c.type0.name0 (aG.mk (0:Int) (0:Int) (Qc #[]) false false).name0&&(Mp.beq c.type0.opt (aG.mk (0:Int) (0:Int) (Qc #[]) false false).opt&&Mp.beq c.type0.err (aG.mk (0:Int) (0:Int) (Qc #[]) false false).err)))) (c.name0.toList==(Qc #[]).toList)).name0,())))>>=λx2=>some (Rx x2)else(if(c.op==2)=true then some ((v.1,c.op,true,v.2.1,c,G1,bI.mk (c.a==0) (c.b==0) (Mp.ieq c.type0.base (aG.mk (0:Int) (0:Int) (Qc #[]) false false).base&&(Mp.ieq c.type0.bits (aG.mk (0:Int) (0:Int) (Qc #[]) false false).bits&&(Mp.seq c.type0.name0 (aG.mk (0:Int) (0:Int) (Qc #[]) false false).name0&&(Mp.beq c.type0.opt (aG.mk (0:Int) (0:Int) (Qc #[]) false false).opt&&Mp.beq c.type0.err (aG.mk (0:Int) (0:Int) (Qc #[]) false false).err)))) (c.name0.toList==(Qc #[]).toList),bI.mk (c.a==0) (c.b==0) (Mp.ieq c.type0.base (aG.mk (0:Int) (0:Int) (Qc #[]) false false).base&&(Mp.ieq c.type0.bits (aG.mk (0:Int) (0:Int) (Qc #[]) false false).bits&&(Mp.seq c.type0.name0 (aG.mk (0:Int) (0:Int) (Qc #[]) false false).name0&&(Mp.beq c.type0.opt (aG.mk (0:Int) (0:Int) (Qc #[]) false false).opt&&Mp.beq c.type0.err (aG.mk (0:Int) (0:Int) (Qc #[]) false false).err)))) (c.name0.toList==(Qc #[]).toList),()))else some ((v.1,c.op,c.op==3,v.2.1,c,G1,bI.mk (c.a==0) (c.b==0) (Mp.ieq c.type0.base (aG.mk (0:Int) (0:Int) (Qc #[]) false false).base&&(Mp.ieq c.type0.bits (aG.mk (0:Int) (0:Int) (Qc #[]) false false).bits&&(Mp.seq c.type0.name0 (aG.mk (0:Int) (0:Int) (Qc #[]) false false).name0&&(Mp.beq c.type0.opt (aG.mk (0:Int) (0:Int) (Qc #[]) false false).opt&&Mp.beq c.type0.err (aG.mk (0:Int) (0:Int) (Qc #[]) false false).err)))) (c.name0.toList==(Qc #[]).toList),bI.mk (c.a==0) (c.b==0) (Mp.ieq c.type0.base (aG.mk (0:Int) (0:Int) (Qc #[]) false false).base&&(Mp.ieq c.type0.bits (aG.mk (0:Int) (0:Int) (Qc #[]) false false).bits&&(Mp.seq c.type0.name0 (aG.mk (0:Int) (0:Int) (Qc #[]) false false).name0&&(Mp.beq c.type0.opt (aG.mk (0:Int) (0:Int) (Qc #[]) false false).opt&&Mp.beq c.type0.err (aG.mk (0:Int) (0:Int) (Qc #[]) false false).err)))) (c.name0.toList==(Qc #[]).toList),())))>>=λx1=>let d:=x1.2.2.2;let e:=d.2.2.2.2.1;let f:=x1.2.1;if x1.2.2.1=true then CI (d.2.1.a,(0:Int),i64.wrap (d.1.places-1),())>>=λx2=>some (Rx (d.2.2.1,bI.mk x2.1 e.b e.kind e.name0,()))else if(f==5)=true then CI (d.2.1.a,(5:Int),(17:Int),())>>=λx2=>xn (d.2.1.type0,())>>=λx3=>some (Rx (d.2.2.1,bI.mk x2.1 e.b x3.1 e.name0,()))else if(f==6)=true then CI (d.2.1.a,(18:Int),(23:Int),())>>=λx2=>some (Rx (d.2.2.1,bI.mk x2.1 e.b e.kind e.name0,()))else(if(f==7)=true then some (x1.1,f,true,d)else if(f==9)=true then some (x1.1,f,true,d)else some (x1.1,f,f==10,d))>>=λx2=>let g:=x2.2.2.2;let h:=x2.2.1;let G2:=(x2.1,h,true,g);if x2.2.2.1=true then xn (g.2.1.type0,())>>=λx3=>some (Rx (g.2.2.1,bI.mk g.2.2.2.2.1.a g.2.2.2.2.1.b x3.1 g.2.2.2.2.1.name0,()))else(if(h==12)=true then some (G2)else if(h==13)=true then some (G2)else if(h==14)=true then some (G2)else some (x2.1,h,h==15,g))>>=λx3=>let i:=x3.2.2.2.2;let j:=i.2.2.2.1;let k:=x3.2.1;let G3:=(true,i.2);if x3.2.2.1=true then CI (i.1.a,(0:Int),i64.wrap ((↑x3.2.2.2.1.code.length:Int) -1),())>>=λx4=>some (Rx (i.2.1,bI.mk x4.1 j.b j.kind j.name0,()))else if(k==16)=true then I7 (x3.1,i.1.name0,())>>=λx4=>(if decide (x4.1>=0)=true then if 0<=x4.1 then x3.1[x4.1.toNat]?>>=λx5=>some ((i.2.1,bI.mk j.a (i.1.b==x5.params) j.kind (decide (x4.1>=0)),()))else none else some ((i.2.1,bI.mk j.a false j.kind (decide (x4.1>=0)),())))>>=λx5=>some (Rx x5)else if(k==18)=true then I8 (i.1.name0,())>>=λx4=>some (Rx (i.2.1,bI.mk j.a j.b j.kind x4.1,()))else if(k==19)=true then CI (i.1.a,(1:Int),(5:Int),())>>=λx4=>some (Rx (i.2.1,bI.mk x4.1 j.b j.kind j.name0,()))else(if(k==1)=true then some (G3)else if(k==4)=true then some (G3)else if(k==8)=true then some (G3)else if(k==11)=true then some (G3)else some (k==17,i.2))>>=λx4=>if x4.1=true then some (Rx (x4.2.1,x4.2.2.2))else some (Sc (false,x4.2.2.1,())))>>=λx1=>match x1 with| .inl y1=>some (true,y1.2)| .inr y1=>some y1
def Gj:=kP un (kP uq (kP AU (kP DA (kP vW k0))))
def x71:Xc vw:=mX prog 138 Gj.1 O8 [(4,LO,[.norm]),(10,JS,[.norm]),(18,JT,[.norm]),(23,JU,[.norm]),(36,y8,[.norm, .ret])] [(7,y8),(26,y8)] []
theorem Ib:aT prog 71 Nl Ma:=fn0 x71 Tryz.func71 Gj.2
def kf:Cut SN:=⟨[(1, .bp 100000 0),(2, .bp 100001 0),(4,Dq4)],[(100000, .box none [Dq3]),(100001, .st .myFuncT)]⟩
def BI:aU vw:={rcut:=kf}
def yi:Sig vw:={params:=[mo, .bp 100000 0, .bp 100001 0],objs:=[(100000, .box none [Dq3]),(100001, .st .myFuncT)],rcut:=kf,rvars:=[.tmp 4],keep:=[100000,100001]}
abbrev NW:=Bool×(List aB)×aB×Unit
noncomputable def jS(v:aM×(List aB)×aB×Unit):Option (NW):=let G1:=(bI.mk true true true true);Ma (v.2.1,v.2.2.1,v.1,())>>=λx1=>(if(!x1.1)=true then some (true,v.2)else some ((!(Mp.beq x1.2.1.a G1.a&&(Mp.beq x1.2.1.b G1.b&&(Mp.beq x1.2.1.kind G1.kind&&Mp.beq x1.2.1.name0 G1.name0))),v.2)))>>=λx2=>some (x2)
def mE:=kP Ib k0
def Fu:Xc vw:=mX prog 21 mE.1 BI [] [(2,kf)] []
theorem su:aT prog 70 yi jS:=fn0 Fu Tryz.func70 mE.2
abbrev Dq7:Pt SN:= .dat (.sl (.st .myCodeT))
def mA:Cut SN:=⟨[(0,Dq7),(1, .fn 70 [] [100000,100001]),(7,Dq1),(8,Dq1)],[(100000, .box none [Dq3]),(100001, .st .myFuncT)]⟩
def tK:Cut SN:=⟨[(1, .fn 70 [] [100000,100001])],[(100000, .box none [Dq3]),(100001, .st .myFuncT)]⟩
def oR:Cut SN:=⟨[(1, .fn 70 [] [100000,100001]),(4,Dq1)],[(100000, .box none [Dq3]),(100001, .st .myFuncT)]⟩
def xY:aU vw:=shL [(0,tK)] oR
def uL:Sig vw:={params:=[Dq7, .fn 70 [] [100000,100001]],objs:=[(100000, .box none [Dq3]),(100001, .st .myFuncT)],rcut:=oR,rvars:=[.tmp 4],keep:=[100000,100001]}
noncomputable def cV(v:(List aM)×Int×Int×(List aB)×aB×Unit):Option (((Int×(List aB)×aB×Unit)⊕((List aB)×aB×Unit))):=let a:=v.2.2;if decide (a.1<v.2.1)=true then if 0<=a.1 then v.1[a.1.toNat]?>>=λx1=>jS (x1,a.2)>>=λx2=>if x2.1=true then some (Rx (a.1,x2.2))else cV (v.1,v.2.1,i64.wrap (a.1+1),x2.2)else none else some (Sc a.2) partial_fixpoint
abbrev NV:=(List aM)×(List aB)×aB×Unit
noncomputable def kv(v:NV):Option (Int×(List aB)×aB×Unit):=cV (v.1,(↑v.1.length:Int),(0:Int),v.2)>>=λx1=>match x1 with| .inl y1=>some y1| .inr y1=>some (((-1:Int),y1))
def gY:=kO su k0
def ti:Xc vw:=mX prog 19 gY.1 xY [] [] [(2,⟨mA,[.ret, .exit 0],cV⟩)]
theorem nH:mq ti (cp (bA Tryz.f117) 0) ⟨mA,[.ret, .exit 0],cV⟩:=lp0 cV.partial_correctness gY.2
theorem qI:aT prog 117 uL kv:=fn1 ti Tryz.func117 gY.2 nH
def rD:Cut SN:=⟨[(1, .fn 70 [] [100000,100001]),(4,Dq4)],[(100000, .box none [Dq3]),(100001, .st .myFuncT)]⟩
def BH:aU vw:={rcut:=rD}
def yh:Sig vw:={params:=[Dq7, .fn 70 [] [100000,100001]],objs:=[(100000, .box none [Dq3]),(100001, .st .myFuncT)],rcut:=rD,rvars:=[.tmp 4],keep:=[100000,100001]}
noncomputable def jR(v:NV):Option (NW):=kv v>>=λx1=>some ((decide (x1.1>=0),x1.2))
def mD:=kO qI k0
def Ft:Xc vw:=mX prog 9 mD.1 BH [] [] []
theorem ss:aT prog 69 yh jR:=fn0 Ft Tryz.func69 mD.2
def LL:Cut SN:=⟨[(2, .bp 2 0),(3, .bp 3 0),(34,Dq4)],[(2, .box none [Dq3]),(3, .st .myFuncT)]⟩
def O1:aU vw:={rcut:=dQ}
def Nf:Sig vw:=sg [Dq3,Jb] dQ [.tmp 4]
noncomputable def Lp(v:(List aB)×aB×Unit):Option (Bool×Unit):=(I8 (v.2.1.name0,())>>=λx1=>if(!x1.1)=true then some (true,v)else CI (v.2.1.params,(0:Int),v.2.1.places,())>>=λx2=>if(!x2.1)=true then some (true,v)else if((↑v.2.1.code.length:Int)==0)=true then some (true,v)else Kk (v.2.1.type0,())>>=λx3=>if(x3.1 !=0)=true then some (true,v)else some ((decide (v.2.1.type0.base>=4),v)))>>=λx1=>if x1.1=true then some ((false,()))else jR (x1.2.2.1.code,x1.2)>>=λx2=>some ((!x2.1,()))
def Gf:=kP uq (kP AU (kP AV (kO ss k0)))
def x49:Xc vw:=mX prog 40 Gf.1 O1 [] [(1,LL)] []
theorem H_:aT prog 49 Nf Lp:=fn0 x49 Tryz.func49 Gf.2
def JJ:Cut SN:=⟨[(0,Dq3),(17,Dq3),(18,Dq1),(19,Dq1)],[]⟩
def LI:Cut SN:=⟨[(0,Dq3),(16,Dq4)],[]⟩
def LJ:Cut SN:=⟨[(0,Dq3),(17,Dq3),(18,Dq1),(19,Dq1),(35,Dq4)],[]⟩
def OW:aU vw:=shL [(0,jq)] yI
def Na:Sig vw:=sg [Dq3] yI [.tmp 2]
noncomputable def kQ(v:(List aB)×(List aB)×Int×Int×Unit):Option (((Int×Unit)⊕(Unit))):=let a:=v.2.2.2.1;if decide (a<v.2.2.1)=true then if 0<=a then v.2.1[a.toNat]?>>=λx1=>(Lp (v.1,x1,())>>=λx2=>if(!x2.1)=true then some ((v.1,v.2.1,v.2.2.1,a,true,()))else I7 (v.1,x1.name0,())>>=λx3=>some ((v.1,v.2.1,v.2.2.1,a,x3.1 !=a,())))>>=λx2=>if x2.2.2.2.2.1=true then some (Rx ((1:Int),()))else kQ (x2.1,x2.2.1,x2.2.2.1,i64.wrap (x2.2.2.2.1+1),())else none else some (Sc ()) partial_fixpoint
noncomputable def I6(v:(List aB)×Unit):Option (Int×Unit):=(if decide ((↑v.1.length:Int)>48)=true then some ((v.1,true,()))else Lo v>>=λx1=>if decide (x1.1>2000)=true then some ((v.1,true,()))else qO v>>=λx2=>some (v.1,x2))>>=λx1=>if x1.2.1=true then some (((3:Int),()))else kQ (x1.1,x1.1,(↑x1.1.length:Int),(0:Int),())>>=λx2=>match x2 with| .inl y2=>some y2| .inr y2=>some (((0:Int),()))
def zx:=kP H8 (kP xB (kP H_ (kP un k0)))
def x37:Xc vw:=mX prog 37 zx.1 OW [] [(1,LI),(6,LJ)] [(4,⟨JJ,[.ret, .exit 0],kQ⟩)]
theorem AM:mq x37 (cp (bA Tryz.f37) 0) ⟨JJ,[.ret, .exit 0],kQ⟩:=lp0 kQ.partial_correctness zx.2
theorem um:aT prog 37 Na I6:=fn1 x37 Tryz.func37 zx.2 AM
def wV:Cut SN:=⟨[(0,Dq1),(1, .bp 100000 0),(9,Dq4)],[(100000, .box none [Dq1])]⟩
def rF:Cut SN:=⟨[(1, .bp 100000 0)],[(100000, .box none [Dq1])]⟩
def BK:aU vw:={rcut:=rF}
def yk:Sig vw:={params:=[Dq1, .bp 100000 0],objs:=[(100000, .box none [Dq1])],rcut:=rF,rvars:=[],keep:=[100000]}
noncomputable def gl(v:Int×Int×Unit):Option (Int×Unit):=(if decide (v.2.1<0)=true then some (v.1,true,v.2)else some ((v.1,decide (v.1<v.2.1),v.2)))>>=λx1=>if x1.2.1=true then some ((x1.1,()))else some (x1.2.2)
def Fw:Xc vw:=mX prog 11 c0 BK [] [(0,wV)] []
theorem sx:aT prog 73 yk gl:=fn0 Fw Tryz.func73 cv
abbrev FY:OPt SN:= .que 123 (.st .pointT)
def rG:Cut SN:=⟨[(1, .bp 100000 0),(2, .bp 100001 0)],[(100000, .box none [.mp 100002]),(100001, .box none [.vh 3010]),(100002, .map (.st .pointT) .bool),(3010,FY)]⟩
def BL:aU vw:={rcut:=rG}
def yl:Sig vw:={params:=[.dat (.st .pointT), .bp 100000 0, .bp 100001 0],objs:=[(100000, .box none [.mp 100002]),(100001, .box none [.vh 100003]),(100002, .map (.st .pointT) .bool),(100003,FY)],rcut:=rG,rvars:=[],keep:=[100000,100001,100002,3010]}
noncomputable def fp(v:aP×(List (aP×Bool))×(List aP)×Unit):Option ((List (aP×Bool))×(List aP)×Unit):=if(!(Mp.get (λx y=>Mp.ieq x.at0 y.at0&&Mp.ieq x.height y.height) v.1 v.2.1).getD false)=true then if v.2.2.1.length+[v.1].length<=4294967296 then some ((Mp.set (λx y=>Mp.ieq x.at0 y.at0&&Mp.ieq x.height y.height) (λx x_1=>false) v.1 true v.2.1,v.2.2.1++[v.1],()))else none else some (v.2)
def Fy:Xc vw:=mX prog 14 c0 BL [] [] []
theorem sy:aT prog 74 yl fp:=fn0 Fy Tryz.func74 cv
def LP:Cut SN:=⟨[(1, .bp 1 0),(2, .bp 2 0),(4,Dq1),(5,Dq4)],[(1, .st .myCodeT),(2, .st .stepT)]⟩
def JV:Cut SN:=⟨[(1, .bp 1 0),(2, .bp 2 0),(4,Dq1),(11,Dq4)],[(1, .st .myCodeT),(2, .st .stepT)]⟩
def JW:Cut SN:=⟨[(1, .bp 1 0),(2, .bp 2 0),(4,Dq1),(16,Dq4)],[(1, .st .myCodeT),(2, .st .stepT)]⟩
def JX:Cut SN:=⟨[(2, .bp 2 0),(4,Dq1),(25,Dq4)],[(2, .st .stepT)]⟩
def N6:Cut SN:=⟨[(2, .bp 2 0)],[(2, .st .stepT)]⟩
def O9:aU vw:={rcut:=N6}
def Nm:Sig vw:=sg [mo] N6 [.cell 2 130]
noncomputable def Lr(v:aM×Unit):Option (mu×Unit):=let G1:=(mu.mk (0:Int) (0:Int) false,());let G2:=(v.1.op,true,v.1,G1);(if(v.1.op==0)=true then some (G2)else if(v.1.op==1)=true then some (G2)else if(v.1.op==2)=true then some (G2)else some (v.1.op,v.1.op==18,v.1,G1))>>=λx1=>if x1.2.1=true then some ((mu.mk (0:Int) (1:Int) true,()))else(if(x1.1==3)=true then some (x1.1,true,x1.2.2)else if(x1.1==4)=true then some (x1.1,true,x1.2.2)else some (x1.1,x1.1==15,x1.2.2))>>=λx2=>if x2.2.1=true then some ((mu.mk (1:Int) (0:Int) true,()))else(if(x2.1==5)=true then some (x2.1,true,x2.2.2)else some (x2.1,x2.1==6,x2.2.2))>>=λx3=>if x3.2.1=true then some ((mu.mk (2:Int) (1:Int) true,()))else if(x3.1==16)=true then some ((mu.mk x3.2.2.1.b (1:Int) true,()))else(if(x3.1==14)=true then some (x3.1,true,x3.2.2.2)else some (x3.1,x3.1==19,x3.2.2.2))>>=λx4=>if x4.2.1=true then some (G1)else if(x4.1==17)=true then some ((mu.mk (1:Int) (0:Int) false,()))else some ((mu.mk (1:Int) (1:Int) true,()))
def x75:Xc vw:=mX prog 33 c0 O9 [(6,LP,[.norm]),(10,JV,[.norm]),(13,JW,[.norm]),(18,JX,[.norm])] [] []
theorem Ic:aT prog 75 Nm Lr:=fn0 x75 Tryz.func75 cv
def O_:aU vw:={rcut:=jm}
def Nn:Sig vw:=sg [Dq1] jm [.tmp 2]
noncomputable def Ls(v:Int×Unit):Option (Bool×Unit):=(if(v.1==12)=true then some ((true,()))else if(v.1==13)=true then some ((true,()))else if(v.1==14)=true then some ((true,()))else some ((v.1==15,())))>>=λx1=>if x1.1=true then some ((true,()))else some ((false,()))
def x76:Xc vw:=mX prog 9 c0 O_ [(6,dQ,[.norm])] [] []
theorem Ie:aT prog 76 Nn Ls:=fn0 x76 Tryz.func76 cv
def JP:Cut SN:=⟨[(1, .bp 1 0),(4, .bp 4 0),(5, .mp 20),(6, .bp 6 0),(7, .bp 7 0),(8, .fn 73 [] [7]),(9, .fn 74 [] [4,6])],[(1, .st .myFuncT),(4, .box none [.mp 17]),(20, .map (.int .i64) (.int .i64)),(6, .box none [.vh 3060]),(7, .box none [Dq1]),(17, .map (.st .pointT) .bool),(3060,FY)]⟩
def JM:Cut SN:=⟨[(1, .bp 1 0),(4, .bp 4 0),(5, .mp 20),(6, .bp 6 0),(7, .bp 7 0),(8, .fn 73 [] [7]),(9, .fn 74 [] [4,6]),(10, .bp 10 0)],[(1, .st .myFuncT),(4, .box none [.mp 17]),(20, .map (.int .i64) (.int .i64)),(6, .box none [.vh 3060]),(7, .box none [Dq1]),(10, .st .pointT),(17, .map (.st .pointT) .bool),(3060,FY)]⟩
def JN:Cut SN:=⟨[(1, .bp 1 0),(4, .bp 4 0),(5, .mp 20),(6, .bp 6 0),(7, .bp 7 0),(8, .fn 73 [] [7]),(9, .fn 74 [] [4,6]),(10, .bp 10 0),(13, .bp 13 0),(14, .bp 14 0),(15,Dq1),(16,Dq1)],[(1, .st .myFuncT),(4, .box none [.mp 17]),(20, .map (.int .i64) (.int .i64)),(6, .box none [.vh 3060]),(7, .box none [Dq1]),(10, .st .pointT),(13, .st .myCodeT),(14, .st .stepT),(17, .map (.st .pointT) .bool),(3060,FY)]⟩
def JO:Cut SN:=⟨[(1, .bp 1 0),(4, .bp 4 0),(5, .mp 20),(6, .bp 6 0),(7, .bp 7 0),(8, .fn 73 [] [7]),(9, .fn 74 [] [4,6]),(10, .bp 10 0),(14, .bp 14 0),(15,Dq1)],[(1, .st .myFuncT),(4, .box none [.mp 17]),(20, .map (.int .i64) (.int .i64)),(6, .box none [.vh 3060]),(7, .box none [Dq1]),(10, .st .pointT),(14, .st .stepT),(17, .map (.st .pointT) .bool),(3060,FY)]⟩
def JQ:Cut SN:=⟨[(1, .bp 1 0),(4, .bp 4 0),(5, .mp 20),(6, .bp 6 0),(7, .bp 7 0),(8, .fn 73 [] [7]),(9, .fn 74 [] [4,6]),(10, .bp 10 0),(46,Dq4)],[(1, .st .myFuncT),(4, .box none [.mp 17]),(20, .map (.int .i64) (.int .i64)),(6, .box none [.vh 3060]),(7, .box none [Dq1]),(10, .st .pointT),(17, .map (.st .pointT) .bool),(3060,FY)]⟩
def JR:Cut SN:=⟨[(1, .bp 1 0),(4, .bp 4 0),(5, .mp 20),(6, .bp 6 0),(7, .bp 7 0),(8, .fn 73 [] [7]),(9, .fn 74 [] [4,6]),(10, .bp 10 0),(13, .bp 13 0),(14, .bp 14 0),(73,Dq4)],[(1, .st .myFuncT),(4, .box none [.mp 17]),(20, .map (.int .i64) (.int .i64)),(6, .box none [.vh 3060]),(7, .box none [Dq1]),(10, .st .pointT),(13, .st .myCodeT),(14, .st .stepT),(17, .map (.st .pointT) .bool),(3060,FY)]⟩
def LM:Cut SN:=⟨[(4, .bp 4 0),(7, .bp 7 0)],[(4, .box none [.mp 17]),(7, .box none [Dq1]),(17, .map (.st .pointT) .bool)]⟩
def N3:Cut SN:=⟨[(2, .mp 2002),(3,Dq1)],[(2002, .map (.st .pointT) .bool)]⟩
def O3:aU vw:=shL [(0,LM)] N3
def Mg:Nat->Bool:=λk=>match k with|6000022=>true|_=>false
def Nh:Sig vw:={params:=[Jb],rcut:=N3,rvars:=[.tmp 2, .tmp 3],keep:=[2002]}
noncomputable def eN(v:aB×(List (Int×Int))×Int×(List (aP×Bool))×(List aP)×Unit):Option ((Int×(List (aP×Bool))×Unit)):=let b:=v.2.2.2.2.1;if decide ((↑b.length:Int)>0)=true then if(0:Int)<=0/\0<(↑b.length:Int)then b[Q1 0]?>>=λx1=>let G3:=(v.1,v.2.1,v.2.2.1,x1,v.2.2.2.1,SP (Q1 1) b,());if(1:Int)<=(↑b.length:Int)then((if(Mp.get Mp.ieq x1.at0 v.2.1).isSome=true then some (((Mp.get Mp.ieq x1.at0 v.2.1).getD (0:Int) !=x1.height,G3))else some (false,G3))>>=λx2=>if x2.1=true then gl (x2.2.2.2.2.1.at0,x2.2.2.2.1,())>>=λx3=>some (x2.2.1,x2.2.2.1,x3.1,x2.2.2.2.2)else some (x2.2))>>=λx2=>let c:=x2.2.2.2.1;if 0<=c.at0 then x2.1.code[c.at0.toNat]?>>=λx3=>Lr (x3,())>>=λx4=>let G2:=(x2.1,Mp.set Mp.ieq Mp.ilt c.at0 c.height x2.2.1,x2.2.2.1,c,x3,x4.1,x2.2.2.2.2);(if decide (c.height<x4.1.takes)=true then some (true,G2)else some ((decide (c.height>64),G2)))>>=λx5=>let e:=x5.2;let d:=e.2.2.2;let G1:=(i64.wrap (d.1.height-d.2.2.1.takes)+d.2.2.1.puts);if x5.1=true then gl (d.1.at0,e.2.2.1,())>>=λx6=>eN (e.1,e.2.1,x6.1,d.2.2.2)else(Ls (d.2.1.op,())>>=λx6=>if x6.1=true then(if(d.2.1.op==12)=true then some ((i64.wrap G1,i64.wrap (i64.wrap G1-1),e))else some (i64.wrap G1,i64.wrap G1,e))>>=λx7=>let f:=x7.2.2.2.2;fp (aP.mk f.2.2.1.a x7.2.1,f.2.2.2.2)>>=λx8=>some (x7.1,x7.2.2.1,x7.2.2.2.1,f.1,f.2.1,f.2.2.2.1,x8)else some (i64.wrap G1,e.1,e.2.1,e.2.2.1,d.1,d.2.2))>>=λx6=>let g:=x6.2.2.2;if(!g.2.2.1.goes)=true then eN (x6.2.1,x6.2.2.1,g.1,g.2.2.2)else if(i64.wrap (g.2.1.at0+1)==(↑x6.2.1.code.length:Int))=true then gl (g.2.1.at0,g.1,())>>=λx7=>eN (x6.2.1,x6.2.2.1,x7.1,g.2.2.2)else fp (aP.mk (i64.wrap (g.2.1.at0+1)) x6.1,g.2.2.2)>>=λx7=>eN (x6.2.1,x6.2.2.1,g.1,x7)else none else none else none else some ((v.2.2.1,v.2.2.2.1,())) partial_fixpoint
noncomputable def Lq(v:aB×Unit):Option (Int×(List (aP×Bool))×Unit):=eN (v.1,[],(-1:Int),Mp.set (λx y=>Mp.ieq x.at0 y.at0&&Mp.ieq x.height y.height) (λx x_1=>false) (aP.mk (0:Int) (0:Int)) true [],[aP.mk (0:Int) (0:Int)],())>>=λx1=>some (x1)
def zz:=kO sx (kO sy (kP Ic (kP Ie k0)))
def x51:Xc vw:={P:=prog,n:=124,call:=zz.1,pre:=Mg,sh:=O3,joins:=λk=>match k with|13=>some (JM,[.norm])|23=>some (JN,[.norm])|24=>some (JO,[.norm])|_=>none,regs:=λk=>match k with|11=>some JQ|16=>some JR|_=>none,loops:=λk=>match k with|7=>some {cut:=JP,alts:=[.exit 0],F:=eN}|_=>none}
theorem AQ:mq x51 (cp (bA Tryz.f51) 0) ⟨JP,[.exit 0],eN⟩:=lp0 eN.partial_correctness zz.2
theorem Ia:aT prog 51 Nh Lq:=fn1 x51 Tryz.func51 zz.2 AQ
def JK:Cut SN:=⟨[(15,Dq3),(16,Dq1),(17,Dq1)],[]⟩
def N0:Cut SN:=⟨[(2,Dq1),(3,Dq1),(4,Dq1)],[]⟩
def OX:aU vw:=shL [(0,jq)] N0
def Nb:Sig vw:=sg [Dq3] N0 [.tmp 2, .tmp 3, .tmp 4]
noncomputable def jQ(v:LA):Option (((Je)⊕(Unit))):=let a:=v.2.2.1;if decide (a<v.2.1)=true then if 0<=a then v.1[a.toNat]?>>=λx1=>Lq (x1,())>>=λx2=>if decide (x2.1>=0)=true then some (Rx (a,x2.1,(7:Int),()))else jQ (v.1,v.2.1,i64.wrap (a+1),())else none else some (Sc ()) partial_fixpoint
noncomputable def Ln(v:(List aB)×Unit):Option (Je):=I6 v>>=λx1=>if(x1.1 !=0)=true then some (((0:Int),(0:Int),x1))else jQ (v.1,(↑v.1.length:Int),(0:Int),())>>=λx2=>match x2 with| .inl y2=>some y2| .inr y2=>some (((0:Int),(0:Int),(0:Int),()))
def zy:=kP um (kO Ia k0)
def x38:Xc vw:=mX prog 32 zy.1 OX [] [] [(5,⟨JK,[.ret, .exit 0],jQ⟩)]
theorem AN:mq x38 (cp (bA Tryz.f38) 0) ⟨JK,[.ret, .exit 0],jQ⟩:=lp0 jQ.partial_correctness zy.2
theorem H7:aT prog 38 Nb Ln:=fn1 x38 Tryz.func38 zy.2 AN
def N1:Cut SN:=⟨[(4,Dq1),(5,Dq4),(6,Dq1)],[]⟩
def OY:aU vw:={rcut:=N1}
def K3:Sig vw:=sg [Dq3,Dq6] N1 [.tmp 4, .tmp 5, .tmp 6]
noncomputable def Gu(v:(List aB)×ByteArray×Unit):Option (Int×Bool×Int×Unit):=I6 (v.1,())>>=λx1=>if(x1.1 !=0)=true then some (((0:Int),false,x1))else I7 v>>=λx2=>some ((max x2.1 (0:Int),decide (x2.1>=0),(0:Int),()))
def Ge:=kP um (kP un k0)
def x39:Xc vw:=mX prog 21 Ge.1 OY [] [] []
theorem AO:aT prog 39 K3 Gu:=fn0 x39 Tryz.func39 Ge.2
abbrev FU:Pt SN:= .dat (.sl (.st .myValueT))
def Ga:Cut SN:=⟨[(12,Dq1),(48,FU),(49,Dq1),(50,Dq1)],[]⟩
def JI:Cut SN:=⟨[(12,Dq1),(48,FU),(49,Dq1),(50,Dq1),(61,Dq4)],[]⟩
def LG:Cut SN:=⟨[(12,Dq1)],[]⟩
def NY:Cut SN:=⟨[(6,Dq1),(7,Dq1)],[]⟩
def OU:aU vw:=shL [(0,LG)] NY
def M9:Sig vw:=sg [Dq3,Dq6,FU] NY [.tmp 6, .tmp 7]
noncomputable def ij(v:Int×(List aD)×Int×Int×Unit):Option (((Int×Int×Unit)⊕(Int×Unit))):=let a:=v.2.2.2.1;if decide (a<v.2.2.1)=true then if 0<=a then v.2.1[a.toNat]?>>=λx1=>(if decide (x1.n<(-2147483648:Int))=true then some ((v.1,v.2.1,v.2.2.1,a,true,()))else some ((v.1,v.2.1,v.2.2.1,a,decide (x1.n>2147483648),())))>>=λx2=>if x2.2.2.2.2.1=true then some (Rx ((0:Int),(1:Int),()))else ij (x2.1,x2.2.1,x2.2.2.1,i64.wrap (x2.2.2.2.1+1),())else none else some (Sc (v.1,())) partial_fixpoint
noncomputable def Lm(v:(List aB)×ByteArray×(List aD)×Unit):Option (Int×Int×Unit):=I6 (v.1,())>>=λx1=>if(x1.1 !=0)=true then some (((0:Int),x1))else Ln (v.1,())>>=λx2=>if(x2.2.2.1 !=0)=true then some (((0:Int),x2.2.2))else Gu (v.1,v.2.1,())>>=λx3=>if(!x3.2.1)=true then some (((0:Int),(4:Int),()))else if 0<=x3.1 then v.1[x3.1.toNat]?>>=λx4=>if((↑v.2.2.1.length:Int) !=x4.params)=true then some (((0:Int),(10:Int),()))else ij (x3.1,v.2.2.1,(↑v.2.2.1.length:Int),(0:Int),())>>=λx5=>match x5 with| .inl y5=>some y5| .inr y5=>some ((y5.1,(0:Int),()))else none
def zw:=kP um (kP H7 (kP AO k0))
def x28:Xc vw:=mX prog 64 zw.1 OU [] [(15,JI)] [(13,⟨Ga,[.ret, .exit 0],ij⟩)]
theorem xA:mq x28 (cp (bA Tryz.f28) 0) ⟨Ga,[.ret, .exit 0],ij⟩:=lp0 ij.partial_correctness zw.2
theorem H5:aT prog 28 M9 Lm:=fn1 x28 Tryz.func28 zw.2 xA
abbrev Oq2:OPt SN:= .vec 31 (.st .myValueT)
def oY:Cut SN:=⟨[(3, .vh 1003),(6,FU),(7,Dq1),(8,Dq1)],[(1003,Oq2)]⟩
def wQ:Cut SN:=⟨[(3, .vh 1003)],[(1003,Oq2)]⟩
def rz:Cut SN:=⟨[(2, .vh 2002)],[(2002,Oq2)]⟩
def BE:aU vw:=shL [(0,wQ)] rz
def yf:Sig vw:={params:=[FU],rcut:=rz,rvars:=[.tmp 2],keep:=[2002]}
noncomputable def dE(v:(List aD)×Int×Int×(List aD)×Unit):Option (((List aD)×Unit)):=let a:=v.2.2;if decide (a.1<v.2.1)=true then if 0<=a.1 then v.1[a.1.toNat]?>>=λx1=>if a.2.1.length+[aD.mk (aG.mk (0:Int) (0:Int) (Qc #[]) false false) x1.n x1.null x1.err (aG.mk (0:Int) (0:Int) (Qc #[]) false false)].length<=4294967296 then dE (v.1,v.2.1,i64.wrap (a.1+1),a.2.1++[aD.mk (aG.mk (0:Int) (0:Int) (Qc #[]) false false) x1.n x1.null x1.err (aG.mk (0:Int) (0:Int) (Qc #[]) false false)],())else none else none else some (a.2) partial_fixpoint
noncomputable def jP(v:(List aD)×Unit):Option ((List aD)×Unit):=dE (v.1,(↑v.1.length:Int),(0:Int),[],())>>=λx1=>some (x1)
def wA:Xc vw:=mX prog 24 c0 BE [] [] [(3,⟨oY,[.exit 0],dE⟩)]
theorem oI:mq wA (cp (bA Tryz.f18) 0) ⟨oY,[.exit 0],dE⟩:=lp0 dE.partial_correctness cv
theorem sj:aT prog 18 yf jP:=fn1 wA Tryz.func18 cv oI
abbrev Dq5:Pt SN:= .dat (.op (.st .endingT))
abbrev Oq9:OPt SN:= .vec 3 (.int .i64)
def rB:Cut SN:=⟨[(0, .bp 100000 0)],[(100000, .box none [Dq3,Dq4,Dq1, .vh 100001,Dq1, .vh 100002,Dq1,Dq5]),(100001,Oq9),(100002,Oq2)]⟩
def BF:aU vw:={rcut:=rB}
def xK:Nat->Bool:=λk=>match k with|7000010=>true|_=>false
def pI:Sig vw:={params:=[.bp 100000 0,Dq1,Dq1],objs:=[(100000, .box none [Dq3,Dq4,Dq1, .vh 100001,Dq1, .vh 100002,Dq1,Dq5]),(100001,Oq9),(100002,Oq2)],rcut:=rB,rvars:=[],keep:=[100000,100001,100002]}
noncomputable def dM(v:Int×Int×(List aB)×Bool×Int×Int×Int×(Option bH)×(List Int)×(List aD)×Unit):Option ((List aB)×Bool×Int×Int×Int×(Option bH)×(List Int)×(List aD)×Unit):=let a:=v.2.2.2;some ((v.2.2.1,a.1,a.2.1,a.2.2.1,a.2.2.2.1,some (bH.mk v.1 v.2.1),a.2.2.2.2.2))
def Fs:Xc vw:={P:=prog,n:=13,call:=c0,pre:=xK,sh:=BF}
theorem fU:aT prog 52 pI dM:=fn0 Fs Tryz.func52 cv
def N4:Cut SN:=⟨[(0, .bp 0 0)],[(0, .bar 20 .fno)]⟩
def O4:aU vw:={rcut:=N4}
def K4:Sig vw:=sg [] N4 [.cell 0 102]
noncomputable def Kj(v:Unit):Option ((List (Option Nat))×Unit):=some (([some (77:Nat),some (78:Nat),some (79:Nat),some (80:Nat),some (81:Nat),some (82:Nat),some (83:Nat),some (84:Nat),some (85:Nat),some (86:Nat),some (87:Nat),some (88:Nat),some (89:Nat),some (90:Nat),some (91:Nat),some (92:Nat),some (93:Nat),some (94:Nat),some (95:Nat),some (96:Nat)],()))
def x53:Xc vw:=mX prog 2 c0 O4 [] [] []
theorem AR:aT prog 53 K4 Kj:=fn0 x53 Tryz.func53 cv
abbrev Dq8:Pt SN:= .dat (.op (.st .myValueT))
def aN:Cut SN:=⟨[(0, .bp 100000 0)],[(100000, .box none [.bp 100001 0,Dq6,Dq1,Dq1,Dq1,Dq1,Dq6,Dq4,Dq4,Dq7, .vh 100002, .vh 3011,Dq1,Dq1,Dq8]),(100001, .box none [Dq3,Dq4,Dq1, .vh 100004,Dq1, .vh 100005,Dq1,Dq5]),(100002,Oq2),(3011,Oq2),(100004,Oq9),(100005,Oq2)]⟩
def xZ:aU vw:={rcut:=aN}
def oi:Sig vw:={params:=[.bp 100000 0, .dat (.st .myValueT)],objs:=[(100000, .box none [.bp 100001 0,Dq6,Dq1,Dq1,Dq1,Dq1,Dq6,Dq4,Dq4,Dq7, .vh 100002, .vh 100003,Dq1,Dq1,Dq8]),(100001, .box none [Dq3,Dq4,Dq1, .vh 100004,Dq1, .vh 100005,Dq1,Dq5]),(100002,Oq2),(100003,Oq2),(100004,Oq9),(100005,Oq2)],rcut:=aN,rvars:=[],keep:=[100000,100001,100002,3011,100004,100005]}
abbrev Tq1:=ByteArray×Int×Int×Int×Int×ByteArray×Bool×Bool×(List aM)×Int×Int×(Option aD)×(List aB)×Bool×Int×Int×Int×(Option bH)×(List aD)×(List aD)×(List Int)×(List aD)×Unit
noncomputable def cA(v:aD×ByteArray×Int×Int×Int×Int×ByteArray×Bool×Bool×(List aM)×Int×Int×(Option aD)×(List aB)×Bool×Int×Int×Int×(Option bH)×(List aD)×(List aD)×(List Int)×(List aD)×Unit):Option (Tq1):=let e:=v.2.2;let c:=e.2.2.2;let f:=c.2.2;let a:=f.2.2.2;let g:=a.2.2;let b:=g.2.2.2;let d:=b.2.2.2.2;let G1:=(b.2.2.2.1,d.1,d.2.1++[v.1],d.2.2);if d.2.1.length+[v.1].length<=4294967296 then if(a.1==1)=true then some ((v.2.1,e.1,e.2.1,e.2.2.1,c.1,c.2.1,f.1,f.2.1,f.2.2.1,a.1,a.2.1,g.1,g.2.1,g.2.2.1,b.1,b.2.1,max b.2.2.1 (↑(d.2.1++[v.1]).length:Int),G1))else some (v.2.1,e.1,e.2.1,e.2.2.1,c.1,c.2.1,f.1,f.2.1,f.2.2.1,a.1,a.2.1,g.1,g.2.1,g.2.2.1,b.1,b.2.1,b.2.2.1,G1)else none
def Cu:Xc vw:=mX prog 38 c0 xZ [] [] []
theorem cy:aT prog 120 oi cA:=fn0 Cu Tryz.func120 cv
def CX:Cut SN:=⟨[(2, .bp 2 0)],[(2, .st .myValueT)]⟩
def Mq:aU vw:={rcut:=CX}
def KC:Sig vw:=sg [Dq1] CX [.cell 2 31]
noncomputable def qJ(v:Int×Unit):Option (aD×Unit):=some ((aD.mk (aG.mk (0:Int) (0:Int) (Qc #[]) false false) v.1 false (Qc #[]) (aG.mk (0:Int) (0:Int) (Qc #[]) false false),()))
def PE:Xc vw:=mX prog 5 c0 Mq [] [] []
theorem jL:aT prog 121 KC qJ:=fn0 PE Tryz.func121 cv
def Mt:aU vw:={rcut:=CZ}
def KF:Sig vw:=sg [GY] CZ [.cell 2 135]
noncomputable def si(v:aG×Unit):Option (b9×Unit):=some ((b9.mk (v.1.base==3) v.1.bits,()))
def PH:Xc vw:=mX prog 9 c0 Mt [] [] []
theorem md:aT prog 126 KF si:=fn0 PH Tryz.func126 cv
def Mv:aU vw:={rcut:=CX}
def KH:Sig vw:=sg [Dq4] CX [.cell 2 31]
noncomputable def xo(v:Bool×Unit):Option (aD×Unit):=if v.1=true then qJ ((1:Int),())>>=λx1=>some (x1)else qJ ((0:Int),())>>=λx1=>some (x1)
def zi:=kP jL k0
def PJ:Xc vw:=mX prog 6 zi.1 Mv [] [] []
theorem qL:aT prog 129 KH xo:=fn0 PJ Tryz.func129 zi.2
def MP:aU vw:={rcut:=yI}
def KZ:Sig vw:=sg [wE] yI [.tmp 2]
noncomputable def xx(v:b9×Unit):Option (Int×Unit):=if v.1.signed=true then if 0<=i64.wrap (v.1.bits-1)then some ((i64.wrap (Bs.ishl i64 (1:Int) (i64.wrap (v.1.bits-1)) -1),()))else none else if 0<=v.1.bits then some ((i64.wrap (Bs.ishl i64 (1:Int) v.1.bits-1),()))else none
def P1:Xc vw:=mX prog 14 c0 MP [] [] []
theorem qN:aT prog 172 KZ xx:=fn0 P1 Tryz.func172 cv
def JG:Cut SN:=⟨[(1,Dq1)],[]⟩
def MM:aU vw:={rcut:=bV}
def GB:Sig vw:=sg [wE,Dq1] bV [.tmp 4]
noncomputable def ul(v:b9×Int×Unit):Option (Int×Unit):=let G1:=(i64.wrap (Bs.ishl i64 (1:Int) v.1.bits-1));if 0<=v.1.bits then(xx (v.1,())>>=λx1=>if decide (Bs.iand i64 v.2.1 G1>x1.1)=true then if 0<=v.1.bits then some ((i64.wrap (Bs.iand i64 v.2.1 G1-Bs.ishl i64 (1:Int) v.1.bits),()))else none else some ((Bs.iand i64 v.2.1 G1,())))>>=λx1=>some (x1)else none
def zr:=kP qN k0
def PY:Xc vw:=mX prog 21 zr.1 MM [(4,JG,[.norm])] [] []
theorem vZ:aT prog 169 GB ul:=fn0 PY Tryz.func169 zr.2
def ME:aU vw:={rcut:=CY}
def KR:Sig vw:=sg [wE,Dq1] CY [.tmp 4, .tmp 5]
noncomputable def DS(v:b9×Int×Unit):Option (Int×Int×Unit):=nL (v.1,())>>=λx1=>if(x1.1 !=0)=true then some (((0:Int),x1))else ul v>>=λx2=>some ((x2.1,(0:Int),()))
def zm:=kP iJ (kP vZ k0)
def PQ:Xc vw:=mX prog 15 zm.1 ME [] [] []
theorem DT:aT prog 154 KR DS:=fn0 PQ Tryz.func154 zm.2
def Mr:aU vw:={rcut:=bV}
def KD:Sig vw:=sg [GY,Dq1] bV [.tmp 4]
noncomputable def nI(v:aG×Int×Unit):Option (Int×Unit):=if(v.1.base==0)=true then some (((0:Int),()))else if(v.1.base==1)=true then xo (v.2.1 !=0,())>>=λx1=>some ((x1.1.n,()))else si (v.1,())>>=λx1=>DS (x1.1,v.2)>>=λx2=>some ((x2.1,()))
def zf:=kP md (kP qL (kP DT k0))
def PF:Xc vw:=mX prog 25 zf.1 Mr [] [] []
theorem jM:aT prog 122 KD nI:=fn0 PF Tryz.func122 zf.2
def BM:aU vw:={rcut:=aN}
def pJ:Sig vw:={params:=[.bp 100000 0,mo],objs:=[(100000, .box none [.bp 100001 0,Dq6,Dq1,Dq1,Dq1,Dq1,Dq6,Dq4,Dq4,Dq7, .vh 100002, .vh 100003,Dq1,Dq1,Dq8]),(100001, .box none [Dq3,Dq4,Dq1, .vh 100004,Dq1, .vh 100005,Dq1,Dq5]),(100002,Oq2),(100003,Oq2),(100004,Oq9),(100005,Oq2)],rcut:=aN,rvars:=[],keep:=[100000,100001,100002,3011,100004,100005]}
abbrev Tq2:=aM×ByteArray×Int×Int×Int×Int×ByteArray×Bool×Bool×(List aM)×Int×Int×(Option aD)×(List aB)×Bool×Int×Int×Int×(Option bH)×(List aD)×(List aD)×(List Int)×(List aD)×Unit
noncomputable def fq(v:Tq2):Option (Tq1):=let b:=v.2.2.2.2.2.2.2.2.2.2.2.2.2.2.2.2.2.2.2;nI (v.1.type0,v.1.a,())>>=λx1=>qJ x1>>=λx2=>cA (x2.1,v.2)>>=λx3=>let c:=x3.2.2.2.2.2.2.2.2.2.2.2.2.2.2.2.2.2.2;if c.1.length=b.1.length then if c.2.2.1.length=b.2.2.1.length then if c.2.2.2.1.length=b.2.2.2.1.length then some (x3)else none else none else none
def mF:=kO cy (kP jL (kP jM k0))
def Fz:Xc vw:=mX prog 12 mF.1 BM [] [] []
theorem kS:aT prog 77 pJ fq:=fn0 Fz Tryz.func77 mF.2
def BN:aU vw:={rcut:=aN}
def pK:Sig vw:={params:=[.bp 100000 0,mo],objs:=[(100000, .box none [.bp 100001 0,Dq6,Dq1,Dq1,Dq1,Dq1,Dq6,Dq4,Dq4,Dq7, .vh 100002, .vh 100003,Dq1,Dq1,Dq8]),(100001, .box none [Dq3,Dq4,Dq1, .vh 100004,Dq1, .vh 100005,Dq1,Dq5]),(100002,Oq2),(100003,Oq2),(100004,Oq9),(100005,Oq2)],rcut:=aN,rvars:=[],keep:=[100000,100001,100002,3011,100004,100005]}
noncomputable def ft(v:Tq2):Option (Tq1):=let a:=v.2.2.2.2.2.2.2.2.2.2.2.2.2.2.2.2.2.2.2;cA (aD.mk (aG.mk (0:Int) (0:Int) (Qc #[]) false false) (0:Int) true (Qc #[]) (aG.mk (0:Int) (0:Int) (Qc #[]) false false),v.2)>>=λx1=>let b:=x1.2.2.2.2.2.2.2.2.2.2.2.2.2.2.2.2.2.2;if b.1.length=a.1.length then if b.2.2.1.length=a.2.2.1.length then if b.2.2.2.1.length=a.2.2.2.1.length then some (x1)else none else none else none
def mG:=kO cy k0
def FA:Xc vw:=mX prog 7 mG.1 BN [] [] []
theorem kT:aT prog 78 pK ft:=fn0 FA Tryz.func78 mG.2
def BO:aU vw:={rcut:=aN}
def pL:Sig vw:={params:=[.bp 100000 0,mo],objs:=[(100000, .box none [.bp 100001 0,Dq6,Dq1,Dq1,Dq1,Dq1,Dq6,Dq4,Dq4,Dq7, .vh 100002, .vh 100003,Dq1,Dq1,Dq8]),(100001, .box none [Dq3,Dq4,Dq1, .vh 100004,Dq1, .vh 100005,Dq1,Dq5]),(100002,Oq2),(100003,Oq2),(100004,Oq9),(100005,Oq2)],rcut:=aN,rvars:=[],keep:=[100000,100001,100002,3011,100004,100005]}
noncomputable def fu(v:Tq2):Option (Tq1):=let b:=v.2.2.2.2.2.2.2.2.2.2.2.2.2.2.2.2.2.2.2;if 0<=v.1.a/\v.1.a<(↑b.1.length:Int)then b.1[v.1.a.toNat]?>>=λx1=>cA (x1,v.2)>>=λx2=>let c:=x2.2.2.2.2.2.2.2.2.2.2.2.2.2.2.2.2.2.2;if c.1.length=b.1.length then if c.2.2.1.length=b.2.2.1.length then if c.2.2.2.1.length=b.2.2.2.1.length then some (x2)else none else none else none else none
def mH:=kO cy k0
def FB:Xc vw:=mX prog 14 mH.1 BO [] [] []
theorem kU:aT prog 79 pL fu:=fn0 FB Tryz.func79 mH.2
def tL:Cut SN:=⟨[(0, .bp 100000 0),(5, .bp 5 0),(39,Dq4)],[(100000, .box none [.bp 100001 0,Dq6,Dq1,Dq1,Dq1,Dq1,Dq6,Dq4,Dq4,Dq7, .vh 100002, .vh 100003,Dq1,Dq1,Dq8]),(5, .st .myValueT),(100001, .box none [Dq3,Dq4,Dq1, .vh 100004,Dq1, .vh 100005,Dq1,Dq5]),(100002,Oq2),(100003,Oq2),(100004,Oq9),(100005,Oq2)]⟩
def oT:Cut SN:=⟨[(0, .bp 100000 0)],[(100000, .box none [.bp 100001 0,Dq6,Dq1,Dq1,Dq1,Dq1,Dq6,Dq4,Dq4,Dq7, .vh 100002, .vh 100003,Dq1,Dq1,Dq8]),(100001, .box none [Dq3,Dq4,Dq1, .vh 100004,Dq1, .vh 3015,Dq1,Dq5]),(100002,Oq2),(100003,Oq2),(100004,Oq9),(3015,Oq2)]⟩
def x_:aU vw:={rcut:=oT}
def uM:Sig vw:={params:=[.bp 100000 0,Dq1, .dat (.st .myValueT)],objs:=[(100000, .box none [.bp 100001 0,Dq6,Dq1,Dq1,Dq1,Dq1,Dq6,Dq4,Dq4,Dq7, .vh 100002, .vh 100003,Dq1,Dq1,Dq8]),(100001, .box none [Dq3,Dq4,Dq1, .vh 100004,Dq1, .vh 100005,Dq1,Dq5]),(100002,Oq2),(100003,Oq2),(100004,Oq9),(100005,Oq2)],rcut:=oT,rvars:=[],keep:=[100000,100001,100002,100003,100004,3015]}
noncomputable def iI(v:Int×aD×ByteArray×Int×Int×Int×Int×ByteArray×Bool×Bool×(List aM)×Int×Int×(Option aD)×(List aB)×Bool×Int×Int×Int×(Option bH)×(List aD)×(List aD)×(List Int)×(List aD)×Unit):Option (Tq1):=let c:=v.2.2.2.2.2;let a:=c.2.2.2.2.2.2;let b:=a.2.2.2.2.2.2;let d:=b.2.2.2;let G1:=(v.2.2.1,v.2.2.2.1,v.2.2.2.2.1,c.1,c.2.1,c.2.2.1,c.2.2.2.1,c.2.2.2.2.1,c.2.2.2.2.2.1,a.1,a.2.1,a.2.2.1,v.2.1,a.2.2.2.1,a.2.2.2.2.1,a.2.2.2.2.2.1,b.1,b.2.1,b.2.2.1,d.1.set v.1.toNat v.2.1,d.2);if 0<=v.1/\v.1<(↑d.1.length:Int)then d.1[v.1.toNat]?>>=λx1=>(if(a.1==1)=true then if(v.1==b.1)=true then some ((decide ((↑d.2.2.2.1.length:Int)<100),G1))else some (false,G1)else some (false,G1))>>=λx2=>let g:=x2.2.2.2.2;let j:=g.2.2;let e:=j.2.2.2;let h:=e.2.2.2;let f:=h.2.2.2.2;let i:=f.2.2.2.2;if x2.1=true then if i.2.2.2.1.length+[h.2.1].length<=4294967296 then some ((x2.2.1,x2.2.2.1,x2.2.2.2.1,g.1,g.2.1,j.1,j.2.1,j.2.2.1,e.1,e.2.1,e.2.2.1,h.1,h.2.2.1,h.2.2.2.1,f.1,f.2.1,f.2.2.1,f.2.2.2.1,i.1,i.2.1,i.2.2.1,i.2.2.2.1++[h.2.1],()))else none else some (x2.2.1,x2.2.2.1,x2.2.2.2.1,g.1,g.2.1,j.1,j.2.1,j.2.2.1,e.1,e.2.1,e.2.2.1,h.1,h.2.2)else none
def Cv:Xc vw:=mX prog 56 c0 x_ [] [(2,tL)] []
theorem qK:aT prog 123 uM iI:=fn0 Cv Tryz.func123 cv
def oU:Cut SN:=⟨[(0, .bp 100000 0),(2, .bp 2 0)],[(100000, .box none [.bp 100001 0,Dq6,Dq1,Dq1,Dq1,Dq1,Dq6,Dq4,Dq4,Dq7, .vh 100002, .vh 3011,Dq1,Dq1,Dq8]),(100001, .box none [Dq3,Dq4,Dq1, .vh 100004,Dq1, .vh 100005,Dq1,Dq5]),(100002,Oq2),(3011,Oq2),(100004,Oq9),(100005,Oq2),(2, .st .myValueT)]⟩
def ya:aU vw:={rcut:=oU}
def uB:Nat->Bool:=λk=>match k with|5000027=>true|_=>false
def uN:Sig vw:={params:=[.bp 100000 0],objs:=[(100000, .box none [.bp 100001 0,Dq6,Dq1,Dq1,Dq1,Dq1,Dq6,Dq4,Dq4,Dq7, .vh 100002, .vh 100003,Dq1,Dq1,Dq8]),(100001, .box none [Dq3,Dq4,Dq1, .vh 100004,Dq1, .vh 100005,Dq1,Dq5]),(100002,Oq2),(100003,Oq2),(100004,Oq9),(100005,Oq2)],rcut:=oU,rvars:=[.cell 2 31],keep:=[100000,100001,100002,3011,100004,100005]}
abbrev Tq7:=ByteArray×Int×Int×Int×Int×ByteArray×Bool×Bool×(List aM)×Int×Int×(Option aD)×(List aB)×Bool×Int×Int×Int×(Option bH)×(List aD)×(List aD)×(List Int)×(List aD)×aD×Unit
noncomputable def bW(v:Tq1):Option (Tq7):=let d:=v.2.2.2;let c:=d.2.2.2.2;let e:=c.2.2.2;let a:=e.2.2.2.2;let b:=a.2.2.2.2.2;let G1:=(i64.wrap ((↑b.1.length:Int) -1));if 0<=i64.wrap ((↑b.1.length:Int) -1)/\i64.wrap ((↑b.1.length:Int) -1)<(↑b.1.length:Int)then b.1[G1.toNat]?>>=λx1=>if 0<=i64.wrap ((↑b.1.length:Int) -1)then if i64.wrap ((↑b.1.length:Int) -1)<=(↑b.1.length:Int)then some ((v.1,v.2.1,v.2.2.1,d.1,d.2.1,d.2.2.1,d.2.2.2.1,c.1,c.2.1,c.2.2.1,e.1,e.2.1,e.2.2.1,e.2.2.2.1,a.1,a.2.1,a.2.2.1,a.2.2.2.1,a.2.2.2.2.1,Sp G1.toNat b.1,b.2.1,b.2.2.1,x1,()))else none else none else none
def Cw:Xc vw:={P:=prog,n:=31,call:=c0,pre:=uB,sh:=ya}
theorem bU:aT prog 124 uN bW:=fn0 Cw Tryz.func124 cv
def jr:Cut SN:=⟨[(0, .bp 100000 0)],[(100000, .box none [.bp 100001 0,Dq6,Dq1,Dq1,Dq1,Dq1,Dq6,Dq4,Dq4,Dq7, .vh 100002, .vh 3011,Dq1,Dq1,Dq8]),(100001, .box none [Dq3,Dq4,Dq1, .vh 100004,Dq1, .vh 3015,Dq1,Dq5]),(100002,Oq2),(3011,Oq2),(100004,Oq9),(3015,Oq2)]⟩
def BP:aU vw:={rcut:=jr}
def pM:Sig vw:={params:=[.bp 100000 0,mo],objs:=[(100000, .box none [.bp 100001 0,Dq6,Dq1,Dq1,Dq1,Dq1,Dq6,Dq4,Dq4,Dq7, .vh 100002, .vh 100003,Dq1,Dq1,Dq8]),(100001, .box none [Dq3,Dq4,Dq1, .vh 100004,Dq1, .vh 100005,Dq1,Dq5]),(100002,Oq2),(100003,Oq2),(100004,Oq9),(100005,Oq2)],rcut:=jr,rvars:=[],keep:=[100000,100001,100002,3011,100004,3015]}
noncomputable def fv(v:Tq2):Option (Tq1):=let b:=v.2.2.2.2.2.2.2.2.2.2.2.2.2.2.2.2.2.2.2;bW v.2>>=λx1=>let f:=x1.2.2.2;let d:=f.2.2.2.2;let g:=d.2.2.2;let c:=g.2.2.2.2;let e:=c.2.2.2.2;if e.1.length=b.1.length then if e.2.2.1.length=b.2.2.1.length then if e.2.2.2.1.length=b.2.2.2.1.length then iI (v.1.a,e.2.2.2.2.1,x1.1,x1.2.1,x1.2.2.1,f.1,f.2.1,f.2.2.1,f.2.2.2.1,d.1,d.2.1,d.2.2.1,g.1,g.2.1,g.2.2.1,g.2.2.2.1,c.1,c.2.1,c.2.2.1,c.2.2.2.1,e.1,e.2.1,e.2.2.1,e.2.2.2.1,())>>=λx2=>let h:=x2.2.2.2.2.2.2.2.2.2.2.2.2.2.2.2.2.2.2;if h.1.length=e.1.length then if h.2.1.length=e.2.1.length then if h.2.2.1.length=e.2.2.1.length then some (x2)else none else none else none else none else none else none
def mI:=kO qK (kO bU k0)
def FC:Xc vw:=mX prog 10 mI.1 BP [] [] []
theorem kV:aT prog 80 pM fv:=fn0 FC Tryz.func80 mI.2
def BQ:aU vw:={rcut:=aN}
def pN:Sig vw:={params:=[.bp 100000 0,mo],objs:=[(100000, .box none [.bp 100001 0,Dq6,Dq1,Dq1,Dq1,Dq1,Dq6,Dq4,Dq4,Dq7, .vh 100002, .vh 100003,Dq1,Dq1,Dq8]),(100001, .box none [Dq3,Dq4,Dq1, .vh 100004,Dq1, .vh 100005,Dq1,Dq5]),(100002,Oq2),(100003,Oq2),(100004,Oq9),(100005,Oq2)],rcut:=aN,rvars:=[],keep:=[100000,100001,100002,3011,100004,100005]}
noncomputable def fw(v:Tq2):Option (Tq1):=let a:=v.2.2.2.2.2.2.2.2.2.2.2.2.2.2.2.2.2.2.2;bW v.2>>=λx1=>let c:=x1.2.2.2.2.2.2;let b:=c.2.2.2.2.2.2;let d:=b.2.2.2.2.2.2;if d.1.length=a.1.length then if d.2.2.1.length=a.2.2.1.length then if d.2.2.2.1.length=a.2.2.2.1.length then some ((x1.1,x1.2.1,x1.2.2.1,x1.2.2.2.1,x1.2.2.2.2.1,x1.2.2.2.2.2.1,c.1,c.2.1,c.2.2.1,c.2.2.2.1,c.2.2.2.2.1,c.2.2.2.2.2.1,b.1,b.2.1,b.2.2.1,b.2.2.2.1,b.2.2.2.2.1,b.2.2.2.2.2.1,d.1,d.2.1,d.2.2.1,d.2.2.2.1,()))else none else none else none
def mJ:=kO bU k0
def FD:Xc vw:=mX prog 6 mJ.1 BQ [] [] []
theorem kW:aT prog 81 pN fw:=fn0 FD Tryz.func81 mJ.2
def MO:aU vw:={rcut:=yI}
def KY:Sig vw:=sg [wE] yI [.tmp 2]
noncomputable def AH(v:b9×Unit):Option (Int×Unit):=if v.1.signed=true then if 0<=i64.wrap (v.1.bits-1)then some ((Bs.ishl i64 (-1:Int) (i64.wrap (v.1.bits-1)),()))else none else some (((0:Int),()))
def P0:Xc vw:=mX prog 9 c0 MO [] [] []
theorem v6:aT prog 171 KY AH:=fn0 P0 Tryz.func171 cv
def MH:aU vw:={rcut:=dQ}
def GA:Sig vw:=sg [wE,Dq1] dQ [.tmp 4]
noncomputable def lM(v:b9×Int×Unit):Option (Bool×Unit):=(AH (v.1,())>>=λx1=>if decide (v.2.1>=x1.1)=true then xx (v.1,())>>=λx2=>some ((decide (v.2.1<=x2.1),()))else some ((false,())))>>=λx1=>some (x1)
def zo:=kP v6 (kP qN k0)
def PU:Xc vw:=mX prog 15 zo.1 MH [] [(1,dQ)] []
theorem me:aT prog 157 GA lM:=fn0 PU Tryz.func157 zo.2
def Jz:Cut SN:=⟨[(31,Dq4)],[]⟩
def JA:Cut SN:=⟨[(8,Dq1)],[]⟩
def MF:aU vw:={rcut:=JA}
def KS:Sig vw:=sg [Dq1,wE,Dq1,Dq1] JA [.tmp 8]
abbrev Le:=Int×b9×Int×Int×Unit
noncomputable def AF(v:Le):Option (Int×Unit):=(nL (v.2.1,())>>=λx1=>if(x1.1 !=0)=true then some ((true,()))else if decide (v.1<5)=true then some ((true,()))else if decide (v.1>17)=true then some ((true,()))else lM (v.2.1,v.2.2.1,())>>=λx2=>if(!x2.1)=true then some ((true,()))else lM (v.2.1,v.2.2.2)>>=λx3=>some ((!x3.1,())))>>=λx1=>if x1.1=true then some (((1:Int),()))else some (((0:Int),()))
def zn:=kP iJ (kP me k0)
def PR:Xc vw:=mX prog 32 zn.1 MF [] [(1,Jz)] []
theorem vX:aT prog 155 KS AF:=fn0 PR Tryz.func155 zn.2
end Go.Proofs.YtcghbgmmgcljkaaGreatDoor
end
section
namespace Go.Proofs.YtcghbgmmgcljkaaGreatDoor
open Go.Awp Go.Tx
open IntKind (i64)
open Go.Proofs.Tryz (prog)
set_option maxHeartbeats 4000000
set_option maxRecDepth 100000
def JH:Cut SN:=⟨[(0, .bp 0 0)],[(0, .bar 18 (.st .operationT))]⟩
def MN:aU vw:={rcut:=JH}
def GC:Sig vw:=sg [] JH [.cell 0 207]
noncomputable def ig(v:Unit):Option ((List aW)×Unit):=some (([aW.mk none none,aW.mk none none,aW.mk none none,aW.mk none none,aW.mk none none,aW.mk (some (178:Nat)) none,aW.mk (some (179:Nat)) none,aW.mk (some (180:Nat)) none,aW.mk (some (181:Nat)) none,aW.mk (some (182:Nat)) none,aW.mk (some (178:Nat)) (some (169:Nat)),aW.mk (some (179:Nat)) (some (169:Nat)),aW.mk (some (180:Nat)) (some (169:Nat)),aW.mk (some (178:Nat)) (some (183:Nat)),aW.mk (some (179:Nat)) (some (183:Nat)),aW.mk (some (184:Nat)) (some (169:Nat)),aW.mk (some (185:Nat)) (some (169:Nat)),aW.mk (some (186:Nat)) (some (169:Nat))],()))
def PZ:Xc vw:=mX prog 26 c0 MN [] [] []
theorem D0:aT prog 170 GC ig:=fn0 PZ Tryz.func170 cv
def MR:aU vw:={rcut:=bV}
def GD:Sig vw:=sg [Dq1,Dq1] bV [.tmp 4]
noncomputable def xy(v:Int×Int×Unit):Option (Int×Unit):=some ((i64.wrap (v.1+v.2.1),()))
def P3:Xc vw:=mX prog 8 c0 MR [] [] []
theorem D3:aT prog 178 GD xy:=fn0 P3 Tryz.func178 cv
def MS:aU vw:={rcut:=bV}
def GE:Sig vw:=sg [Dq1,Dq1] bV [.tmp 4]
noncomputable def xz(v:Int×Int×Unit):Option (Int×Unit):=some ((i64.wrap (v.1-v.2.1),()))
def P4:Xc vw:=mX prog 8 c0 MS [] [] []
theorem D4:aT prog 179 GE xz:=fn0 P4 Tryz.func179 cv
def MT:aU vw:={rcut:=bV}
def GF:Sig vw:=sg [Dq1,Dq1] bV [.tmp 4]
noncomputable def AJ(v:Int×Int×Unit):Option (Int×Unit):=some ((i64.wrap (v.1 *v.2.1),()))
def P5:Xc vw:=mX prog 8 c0 MT [] [] []
theorem D5:aT prog 180 GF AJ:=fn0 P5 Tryz.func180 cv
def MU:aU vw:={rcut:=bV}
def GG:Sig vw:=sg [Dq1,Dq1] bV [.tmp 4]
noncomputable def D6(v:Int×Int×Unit):Option (Int×Unit):=if v.2.1=0 then none else some ((i64.wrap (v.1.tdiv v.2.1),()))
def P6:Xc vw:=mX prog 8 c0 MU [] [] []
theorem D7:aT prog 181 GG D6:=fn0 P6 Tryz.func181 cv
def MV:aU vw:={rcut:=bV}
def GH:Sig vw:=sg [Dq1,Dq1] bV [.tmp 4]
noncomputable def AK(v:Int×Int×Unit):Option (Int×Unit):=if v.2.1=0 then none else some ((v.1.tmod v.2.1,()))
def P7:Xc vw:=mX prog 8 c0 MV [] [] []
theorem D8:aT prog 182 GH AK:=fn0 P7 Tryz.func182 cv
def MW:aU vw:={rcut:=bV}
def GI:Sig vw:=sg [wE,Dq1] bV [.tmp 4]
noncomputable def AL(v:b9×Int×Unit):Option (Int×Unit):=AH (v.1,())>>=λx1=>xx (v.1,())>>=λx2=>some ((max x1.1 (min x2.1 v.2.1),()))
def zu:=kP v6 (kP qN k0)
def P8:Xc vw:=mX prog 12 zu.1 MW [] [] []
theorem D9:aT prog 183 GI AL:=fn0 P8 Tryz.func183 zu.2
def MX:aU vw:={rcut:=bV}
def GJ:Sig vw:=sg [Dq1,Dq1] bV [.tmp 4]
noncomputable def D_(v:Int×Int×Unit):Option (Int×Unit):=some ((Bs.iand i64 v.1 v.2.1,()))
def P9:Xc vw:=mX prog 8 c0 MX [] [] []
theorem Ea:aT prog 184 GJ D_:=fn0 P9 Tryz.func184 cv
def MY:aU vw:={rcut:=bV}
def GK:Sig vw:=sg [Dq1,Dq1] bV [.tmp 4]
noncomputable def Eb(v:Int×Int×Unit):Option (Int×Unit):=some ((Bs.ior i64 v.1 v.2.1,()))
def P_:Xc vw:=mX prog 8 c0 MY [] [] []
theorem Ec:aT prog 185 GK Eb:=fn0 P_ Tryz.func185 cv
def MZ:aU vw:={rcut:=bV}
def GL:Sig vw:=sg [Dq1,Dq1] bV [.tmp 4]
noncomputable def Ed(v:Int×Int×Unit):Option (Int×Unit):=some ((Bs.ixor i64 v.1 v.2.1,()))
def Qa:Xc vw:=mX prog 8 c0 MZ [] [] []
theorem Ee:aT prog 186 GL Ed:=fn0 Qa Tryz.func186 cv
def JB:Cut SN:=⟨[(0,Dq1),(2,Dq1),(3,Dq1),(5, .bp 5 0),(17,Dq4)],[(5, .st .myIntT)]⟩
def JC:Cut SN:=⟨[(0,Dq1),(2,Dq1),(3,Dq1),(5, .bp 5 0),(23,Dq4)],[(5, .st .myIntT)]⟩
def JD:Cut SN:=⟨[(0,Dq1),(2,Dq1),(3,Dq1),(5, .bp 5 0),(10, .bp 10 0),(11,Dq1)],[(5, .st .myIntT),(10, .st .operationT)]⟩
def ry:Cut SN:=⟨[(8,Dq1),(9,Dq1)],[]⟩
def JE:Cut SN:=⟨[(5, .bp 5 0),(11,Dq1),(56,Dq4)],[(5, .st .myIntT)]⟩
def MG:aU vw:={rcut:=ry}
def KT:Sig vw:=sg [Dq1,wE,Dq1,Dq1] ry [.tmp 8, .tmp 9]
noncomputable def AG(v:Le):Option (Int×Int×Unit):=(if(v.2.2.2.1==0)=true then some ((v.1,v.2.2.1,v.2.2.2.1,v.1==8,v.2.1,()))else some ((v.1,v.2.2.1,v.2.2.2.1,false,v.2.1,())))>>=λx1=>let a:=x1.2.2;if a.2.1=true then some (((0:Int),(2:Int),()))else(if(a.1==0)=true then some (x1.1,x1.2.1,a.1,x1.1==9,a.2.2)else some (x1.1,x1.2.1,a.1,false,a.2.2))>>=λx2=>let b:=x2.2;let c:=b.2.1;let d:=x2.1;let G1:=(b.1,c,());if b.2.2.1=true then some ((b.1,(2:Int),()))else ig ()>>=λx3=>if 0<=d/\d<(↑(18:Nat):Int)then x3.1[d.toNat]?>>=λx4=>let G2:=(b.2.2.2.1,x4,());((x4.whole:Option (Nat))>>=λx5=>if x5=(157:Nat)then none else if x5=(169:Nat)then none else if x5=(170:Nat)then none else if x5=(178:Nat)then xy G1>>=λx6=>some (d,b.1,c,x6.1,G2)else if x5=(179:Nat)then xz G1>>=λx6=>some (d,b.1,c,x6.1,G2)else if x5=(180:Nat)then AJ G1>>=λx6=>some (d,b.1,c,x6.1,G2)else if x5=(181:Nat)then D6 G1>>=λx6=>some (d,b.1,c,x6.1,G2)else if x5=(182:Nat)then AK G1>>=λx6=>some (d,b.1,c,x6.1,G2)else if x5=(183:Nat)then none else if x5=(184:Nat)then D_ G1>>=λx6=>some (d,b.1,c,x6.1,G2)else if x5=(185:Nat)then Eb G1>>=λx6=>some (d,b.1,c,x6.1,G2)else if x5=(186:Nat)then Ed G1>>=λx6=>some (d,b.1,c,x6.1,G2)else none)>>=λx5=>let e:=x5.2.2.2;let G4:=(e.2.1,());let G3:=(e.2.1,e.1,());if e.2.2.1.into.isSome=true then((e.2.2.1.into:Option (Nat))>>=λx6=>if x6=(157:Nat)then lM G3>>=λx7=>none else if x6=(169:Nat)then ul G3>>=λx7=>some ((x7.1,(0:Int),()))else if x6=(170:Nat)then none else if x6=(178:Nat)then none else if x6=(179:Nat)then none else if x6=(180:Nat)then none else if x6=(181:Nat)then none else if x6=(182:Nat)then none else if x6=(183:Nat)then AL G3>>=λx7=>some ((x7.1,(0:Int),()))else if x6=(184:Nat)then none else if x6=(185:Nat)then none else if x6=(186:Nat)then none else none)>>=λx6=>some (x6)else(lM G3>>=λx6=>if(!x6.1)=true then some (e.1,true,G4)else if(x5.1==9)=true then if x5.2.2.1=0 then none else lM (e.2.1,i64.wrap (x5.2.1.tdiv x5.2.2.1),())>>=λx7=>some (e.1,!x7.1,G4)else some (e.1,false,G4))>>=λx6=>if x6.2.1=true then ul (x6.2.2.1,x6.1,())>>=λx7=>some ((x7.1,(1:Int),()))else some ((x6.1,(0:Int),()))else none
def tR:dl vw:=λA fid args S k=>if fid=157 then cG prog GA lM A args S k else if fid=169 then cG prog GB ul A args S k else if fid=170 then cG prog GC ig A args S k else if fid=178 then cG prog GD xy A args S k else if fid=179 then cG prog GE xz A args S k else if fid=180 then cG prog GF AJ A args S k else if fid=181 then cG prog GG D6 A args S k else if fid=182 then cG prog GH AK A args S k else if fid=183 then cG prog GI AL A args S k else if fid=184 then cG prog GJ D_ A args S k else if fid=185 then cG prog GK Eb A args S k else if fid=186 then cG prog GL Ed A args S k else none
def PS:Xc vw:=mX prog 61 tR MG [] [(1,JB),(3,JC),(6,JD),(8,ry),(9,JE)] []
theorem wY:bO prog tR:=λA fid args S dst k r h=>by
 unfold tR at h
 rcases bB h with⟨e,h⟩|⟨e,h⟩
 ·subst e;exact bM (me) rfl rfl h
 ·
  rcases bB h with⟨e,h⟩|⟨e,h⟩
  ·subst e;exact bM (vZ) rfl rfl h
  ·
   rcases bB h with⟨e,h⟩|⟨e,h⟩
   ·subst e;exact bM (D0) rfl rfl h
   ·
    rcases bB h with⟨e,h⟩|⟨e,h⟩
    ·subst e;exact bM (D3) rfl rfl h
    ·
     rcases bB h with⟨e,h⟩|⟨e,h⟩
     ·subst e;exact bM (D4) rfl rfl h
     ·
      rcases bB h with⟨e,h⟩|⟨e,h⟩
      ·subst e;exact bM (D5) rfl rfl h
      ·
       rcases bB h with⟨e,h⟩|⟨e,h⟩
       ·subst e;exact bM (D7) rfl rfl h
       ·
        rcases bB h with⟨e,h⟩|⟨e,h⟩
        ·subst e;exact bM (D8) rfl rfl h
        ·
         rcases bB h with⟨e,h⟩|⟨e,h⟩
         ·subst e;exact bM (D9) rfl rfl h
         ·
          rcases bB h with⟨e,h⟩|⟨e,h⟩
          ·subst e;exact bM (Ea) rfl rfl h
          ·
           rcases bB h with⟨e,h⟩|⟨e,h⟩
           ·subst e;exact bM (Ec) rfl rfl h
           ·
            rcases bB h with⟨e,h⟩|⟨e,h⟩
            ·subst e;exact bM (Ee) rfl rfl h
            ·
             cases h
theorem vY:aT prog 156 KT AG:=fn0 PS Tryz.func156 wY
def Jq:Cut SN:=⟨[(8,Dq1),(9,Dq1),(10,Dq1)],[]⟩
def Ms:aU vw:={rcut:=Jq}
def KE:Sig vw:=sg [Dq1,wE,Dq1,Dq1] Jq [.tmp 8, .tmp 9, .tmp 10]
noncomputable def DB(v:Le):Option (Je):=AF v>>=λx1=>if(x1.1 !=0)=true then some (((0:Int),(0:Int),x1))else AG v>>=λx2=>if(x2.2.1 !=0)=true then some (((0:Int),x2.2.1,(0:Int),()))else some ((x2.1,(0:Int),(0:Int),()))
def zg:=kP vX (kP vY k0)
def PG:Xc vw:=mX prog 34 zg.1 Ms [] [] []
theorem DC:aT prog 125 KE DB:=fn0 PG Tryz.func125 zg.2
def Mu:aU vw:={rcut:=ry}
def KG:Sig vw:=sg [Dq1,wE,Dq1,Dq1] ry [.tmp 8, .tmp 9]
noncomputable def DE(v:Le):Option (Int×Int×Unit):=AF v>>=λx1=>if(x1.1 !=0)=true then some (((0:Int),x1))else AG v>>=λx2=>some ((x2.1,(0:Int),()))
def zh:=kP vX (kP vY k0)
def PI:Xc vw:=mX prog 30 zh.1 Mu [] [] []
theorem DF:aT prog 127 KG DE:=fn0 PI Tryz.func127 zh.2
def tM:Cut SN:=⟨[(0, .bp 100000 0),(1,Dq1)],[(100000, .box none [.bp 100001 0,Dq6,Dq1,Dq1,Dq1,Dq1,Dq6,Dq4,Dq4,Dq7, .vh 100002, .vh 100003,Dq1,Dq1,Dq8]),(100001, .box none [Dq3,Dq4,Dq1, .vh 100004,Dq1, .vh 100005,Dq1,Dq5]),(100002,Oq2),(100003,Oq2),(100004,Oq9),(100005,Oq2)]⟩
def tN:Cut SN:=⟨[(0, .bp 100000 0),(1,Dq1),(2,Dq1),(3,Dq1),(18,Dq4)],[(100000, .box none [.bp 100001 0,Dq6,Dq1,Dq1,Dq1,Dq1,Dq6,Dq4,Dq4,Dq7, .vh 100002, .vh 100003,Dq1,Dq1,Dq8]),(100001, .box none [Dq3,Dq4,Dq1, .vh 100004,Dq1, .vh 100005,Dq1,Dq5]),(100002,Oq2),(100003,Oq2),(100004,Oq9),(100005,Oq2)]⟩
def yb:aU vw:={rcut:=aN}
def uO:Sig vw:={params:=[.bp 100000 0,Dq1,Dq1,Dq1],objs:=[(100000, .box none [.bp 100001 0,Dq6,Dq1,Dq1,Dq1,Dq1,Dq6,Dq4,Dq4,Dq7, .vh 100002, .vh 100003,Dq1,Dq1,Dq8]),(100001, .box none [Dq3,Dq4,Dq1, .vh 100004,Dq1, .vh 100005,Dq1,Dq5]),(100002,Oq2),(100003,Oq2),(100004,Oq9),(100005,Oq2)],rcut:=aN,rvars:=[],keep:=[100000,100001,100002,3011,100004,100005]}
noncomputable def eD(v:Int×Int×Int×ByteArray×Int×Int×Int×Int×ByteArray×Bool×Bool×(List aM)×Int×Int×(Option aD)×(List aB)×Bool×Int×Int×Int×(Option bH)×(List aD)×(List aD)×(List Int)×(List aD)×Unit):Option (Tq1):=(if(v.2.2.1 !=0)=true then some (v.1,v.2.1,v.2.2.1,v.2.2.2.2.2.2.2.2.2.2.2.2.2.2.2.2.1,v.2.2.2)else some (v.1,v.2.1,v.2.2.1,false,v.2.2.2))>>=λx1=>let b:=x1.2.2.2.2;let d:=b.2.2.2.2;let a:=d.2.2.2.2.2;let c:=a.2.2.2.2.2.2;let e:=c.2.2.2;if x1.2.2.2.1=true then dM ((1:Int),x1.2.2.1,a.2.2.2.1,a.2.2.2.2.1,a.2.2.2.2.2.1,c.1,c.2.1,c.2.2.1,e.2.2)>>=λx2=>let f:=x2.2.2.2.2;if f.2.2.1.length=e.2.2.1.length then if f.2.2.2.1.length=e.2.2.2.1.length then some (b.1,b.2.1,b.2.2.1,b.2.2.2.1,d.1,d.2.1,d.2.2.1,d.2.2.2.1,d.2.2.2.2.1,a.1,a.2.1,a.2.2.1,x2.1,x2.2.1,x2.2.2.1,x2.2.2.2.1,f.1,f.2.1,e.1,e.2.1,f.2.2)else none else none else(if(x1.2.2.1 !=0)=true then some (x1.2.1,b)else some (x1.1,b))>>=λx2=>let g:=x2.2.2.2.2.2.2.2.2.2.2.2.2.2.2.2.2.2.2.2;qJ (x2.1,())>>=λx3=>cA (x3.1,x2.2)>>=λx4=>let h:=x4.2.2.2.2.2.2.2.2.2.2.2.2.2.2.2.2.2.2;if h.1.length=g.1.length then if h.2.2.1.length=g.2.2.1.length then if h.2.2.2.1.length=g.2.2.2.1.length then some (x4)else none else none else none
def kL:=kO fU (kO cy (kP jL k0))
def Cx:Xc vw:=mX prog 32 kL.1 yb [(4,tM,[.norm])] [(0,tN)] []
theorem fb:aT prog 128 uO eD:=fn0 Cx Tryz.func128 kL.2
def BR:aU vw:={rcut:=aN}
def pO:Sig vw:={params:=[.bp 100000 0,mo],objs:=[(100000, .box none [.bp 100001 0,Dq6,Dq1,Dq1,Dq1,Dq1,Dq6,Dq4,Dq4,Dq7, .vh 100002, .vh 100003,Dq1,Dq1,Dq8]),(100001, .box none [Dq3,Dq4,Dq1, .vh 100004,Dq1, .vh 100005,Dq1,Dq5]),(100002,Oq2),(100003,Oq2),(100004,Oq9),(100005,Oq2)],rcut:=aN,rvars:=[],keep:=[100000,100001,100002,3011,100004,100005]}
noncomputable def fx(v:Tq2):Option (Tq1):=let b:=v.2.2.2.2.2.2.2.2.2.2.2.2.2.2.2.2.2.2.2;bW v.2>>=λx1=>let f:=x1.2.2.2;let d:=f.2.2.2.2;let h:=d.2.2.2;let c:=h.2.2.2.2;let e:=c.2.2.2.2;let g:=e.2.2;if e.1.length=b.1.length then if g.1.length=b.2.2.1.length then if g.2.1.length=b.2.2.2.1.length then nI (v.1.type0,g.2.2.1.n,())>>=λx2=>bW (x1.1,x1.2.1,x1.2.2.1,f.1,f.2.1,f.2.2.1,f.2.2.2.1,d.1,d.2.1,d.2.2.1,h.1,h.2.1,h.2.2.1,h.2.2.2.1,c.1,c.2.1,c.2.2.1,c.2.2.2.1,e.1,e.2.1,g.1,g.2.1,())>>=λx3=>let l:=x3.2.2.2;let j:=l.2.2.2.2;let o:=j.2.2.2;let i:=o.2.2.2.2;let k:=i.2.2.2.2;let m:=k.2.2;if k.1.length=e.1.length then if m.1.length=g.1.length then if m.2.1.length=g.2.1.length then nI (v.1.type0,m.2.2.1.n,())>>=λx4=>si (v.1.type0,())>>=λx5=>DB (v.1.a,x5.1,x4.1,x2)>>=λx6=>si (v.1.type0,())>>=λx7=>DE (v.1.a,x7.1,x4.1,x2)>>=λx8=>eD (x6.1,x8.1,x6.2.1,x3.1,x3.2.1,x3.2.2.1,l.1,l.2.1,l.2.2.1,l.2.2.2.1,j.1,j.2.1,j.2.2.1,o.1,o.2.1,o.2.2.1,o.2.2.2.1,i.1,i.2.1,i.2.2.1,i.2.2.2.1,k.1,k.2.1,m.1,m.2.1,())>>=λx9=>let p:=x9.2.2.2.2.2.2.2.2.2.2.2.2.2.2.2.2.2.2;if p.1.length=k.1.length then if p.2.2.1.length=m.1.length then if p.2.2.2.1.length=m.2.1.length then some (x9)else none else none else none else none else none else none else none else none else none
def mK:=kP jM (kO bU (kP DC (kP md (kP DF (kO fb k0)))))
def FE:Xc vw:=mX prog 51 mK.1 BR [] [] []
theorem kX:aT prog 82 pO fx:=fn0 FE Tryz.func82 mK.2
def BS:aU vw:={rcut:=aN}
def pP:Sig vw:={params:=[.bp 100000 0,mo],objs:=[(100000, .box none [.bp 100001 0,Dq6,Dq1,Dq1,Dq1,Dq1,Dq6,Dq4,Dq4,Dq7, .vh 100002, .vh 100003,Dq1,Dq1,Dq8]),(100001, .box none [Dq3,Dq4,Dq1, .vh 100004,Dq1, .vh 100005,Dq1,Dq5]),(100002,Oq2),(100003,Oq2),(100004,Oq9),(100005,Oq2)],rcut:=aN,rvars:=[],keep:=[100000,100001,100002,3011,100004,100005]}
noncomputable def fy(v:Tq2):Option (Tq1):=let b:=v.2.2.2.2.2.2.2.2.2.2.2.2.2.2.2.2.2.2.2;bW v.2>>=λx1=>let f:=x1.2.2.2.2;let d:=f.2.2.2.2;let g:=d.2.2.2.2;let c:=g.2.2.2.2;let e:=c.2.2.2.2;let h:=e.2.2.1;if c.2.2.1.length=b.1.length then if e.1.length=b.2.2.1.length then if e.2.1.length=b.2.2.2.1.length then bW (x1.1,x1.2.1,x1.2.2.1,x1.2.2.2.1,f.1,f.2.1,f.2.2.1,f.2.2.2.1,d.1,d.2.1,d.2.2.1,d.2.2.2.1,g.1,g.2.1,g.2.2.1,g.2.2.2.1,c.1,c.2.1,c.2.2.1,c.2.2.2.1,e.1,e.2.1,())>>=λx2=>let l:=x2.2.2.2.2;let j:=l.2.2.2.2;let m:=j.2.2.2.2;let i:=m.2.2.2.2;let k:=i.2.2.2.2;let o:=k.2.2.1;if i.2.2.1.length=c.2.2.1.length then if k.1.length=e.1.length then if k.2.1.length=e.2.1.length then if 0<=i64.wrap (v.1.a-18)/\i64.wrap (v.1.a-18)<(↑(6:Nat):Int)then[o.n==h.n,o.n !=h.n,decide (o.n<h.n),decide (o.n<=h.n),decide (o.n>h.n),decide (o.n>=h.n)][(i64.wrap (v.1.a-18)).toNat]?>>=λx3=>xo (x3,())>>=λx4=>cA (x4.1,x2.1,x2.2.1,x2.2.2.1,x2.2.2.2.1,l.1,l.2.1,l.2.2.1,l.2.2.2.1,j.1,j.2.1,j.2.2.1,j.2.2.2.1,m.1,m.2.1,m.2.2.1,m.2.2.2.1,i.1,i.2.1,i.2.2.1,i.2.2.2.1,k.1,k.2.1,())>>=λx5=>let p:=x5.2.2.2.2.2.2.2.2.2.2.2.2.2.2.2.2.2.2;if p.1.length=i.2.2.1.length then if p.2.2.1.length=k.1.length then if p.2.2.2.1.length=k.2.1.length then some (x5)else none else none else none else none else none else none else none else none else none else none
def mL:=kO cy (kO bU (kP qL k0))
def FF:Xc vw:=mX prog 38 mL.1 BS [] [] []
theorem kY:aT prog 83 pP fy:=fn0 FF Tryz.func83 mL.2
def Jr:Cut SN:=⟨[(1,Dq1),(2, .bp 2 0),(15,Dq4)],[(2, .st .myIntT)]⟩
def Js:Cut SN:=⟨[(4,Dq1),(5,Dq1),(6,Dq1)],[]⟩
def Mw:aU vw:={rcut:=Js}
def KI:Sig vw:=sg [wE,Dq1] Js [.tmp 4, .tmp 5, .tmp 6]
noncomputable def DG(v:b9×Int×Unit):Option (Je):=(nL (v.1,())>>=λx1=>if(x1.1 !=0)=true then some ((v.2.1,true,v.1,()))else lM v>>=λx2=>some ((v.2.1,!x2.1,v.1,())))>>=λx1=>if x1.2.1=true then some (((0:Int),(0:Int),(1:Int),()))else lM (x1.2.2.1,i64.wrap ((0:Int) -x1.1),())>>=λx2=>if(!x2.1)=true then some (((0:Int),(1:Int),(0:Int),()))else some ((i64.wrap ((0:Int) -x1.1),(0:Int),(0:Int),()))
def zj:=kP iJ (kP me k0)
def PK:Xc vw:=mX prog 23 zj.1 Mw [] [(1,Jr)] []
theorem DH:aT prog 130 KI DG:=fn0 PK Tryz.func130 zj.2
def BT:aU vw:={rcut:=aN}
def pQ:Sig vw:={params:=[.bp 100000 0,mo],objs:=[(100000, .box none [.bp 100001 0,Dq6,Dq1,Dq1,Dq1,Dq1,Dq6,Dq4,Dq4,Dq7, .vh 100002, .vh 100003,Dq1,Dq1,Dq8]),(100001, .box none [Dq3,Dq4,Dq1, .vh 100004,Dq1, .vh 100005,Dq1,Dq5]),(100002,Oq2),(100003,Oq2),(100004,Oq9),(100005,Oq2)],rcut:=aN,rvars:=[],keep:=[100000,100001,100002,3011,100004,100005]}
noncomputable def fz(v:Tq2):Option (Tq1):=let a:=v.2.2.2.2.2.2.2.2.2.2.2.2.2.2.2.2.2.2.2;bW v.2>>=λx1=>let e:=x1.2.2.2;let c:=e.2.2.2.2;let g:=c.2.2.2;let b:=g.2.2.2.2;let d:=b.2.2.2.2;let f:=d.2.2;if d.1.length=a.1.length then if f.1.length=a.2.2.1.length then if f.2.1.length=a.2.2.2.1.length then nI (v.1.type0,f.2.2.1.n,())>>=λx2=>si (v.1.type0,())>>=λx3=>DG (x3.1,x2)>>=λx4=>nI (v.1.type0,i64.wrap ((0:Int) -x2.1),())>>=λx5=>eD (x4.1,x5.1,x4.2.1,x1.1,x1.2.1,x1.2.2.1,e.1,e.2.1,e.2.2.1,e.2.2.2.1,c.1,c.2.1,c.2.2.1,g.1,g.2.1,g.2.2.1,g.2.2.2.1,b.1,b.2.1,b.2.2.1,b.2.2.2.1,d.1,d.2.1,f.1,f.2.1,())>>=λx6=>let h:=x6.2.2.2.2.2.2.2.2.2.2.2.2.2.2.2.2.2.2;if h.1.length=d.1.length then if h.2.2.1.length=f.1.length then if h.2.2.2.1.length=f.2.1.length then some (x6)else none else none else none else none else none else none
def mM:=kP jM (kO bU (kP md (kO fb (kP DH k0))))
def FG:Xc vw:=mX prog 32 mM.1 BT [] [] []
theorem kZ:aT prog 84 pQ fz:=fn0 FG Tryz.func84 mM.2
def BU:aU vw:={rcut:=aN}
def pR:Sig vw:={params:=[.bp 100000 0,mo],objs:=[(100000, .box none [.bp 100001 0,Dq6,Dq1,Dq1,Dq1,Dq1,Dq6,Dq4,Dq4,Dq7, .vh 100002, .vh 100003,Dq1,Dq1,Dq8]),(100001, .box none [Dq3,Dq4,Dq1, .vh 100004,Dq1, .vh 100005,Dq1,Dq5]),(100002,Oq2),(100003,Oq2),(100004,Oq9),(100005,Oq2)],rcut:=aN,rvars:=[],keep:=[100000,100001,100002,3011,100004,100005]}
noncomputable def fA(v:Tq2):Option (Tq1):=let a:=v.2.2.2.2.2.2.2.2.2.2.2.2.2.2.2.2.2.2.2;bW v.2>>=λx1=>let e:=x1.2.2.2;let c:=e.2.2.2.2;let g:=c.2.2.2;let b:=g.2.2.2.2;let d:=b.2.2.2.2;let f:=d.2.2;if d.1.length=a.1.length then if f.1.length=a.2.2.1.length then if f.2.1.length=a.2.2.2.1.length then xo (f.2.2.1.n==0,())>>=λx2=>cA (x2.1,x1.1,x1.2.1,x1.2.2.1,e.1,e.2.1,e.2.2.1,e.2.2.2.1,c.1,c.2.1,c.2.2.1,g.1,g.2.1,g.2.2.1,g.2.2.2.1,b.1,b.2.1,b.2.2.1,b.2.2.2.1,d.1,d.2.1,f.1,f.2.1,())>>=λx3=>let h:=x3.2.2.2.2.2.2.2.2.2.2.2.2.2.2.2.2.2.2;if h.1.length=d.1.length then if h.2.2.1.length=f.1.length then if h.2.2.2.1.length=f.2.1.length then some (x3)else none else none else none else none else none else none
def mN:=kO cy (kO bU (kP qL k0))
def FH:Xc vw:=mX prog 11 mN.1 BU [] [] []
theorem k_:aT prog 85 pR fA:=fn0 FH Tryz.func85 mN.2
def Jt:Cut SN:=⟨[(4,Dq4),(5,Dq1)],[]⟩
def Mx:aU vw:={rcut:=Jt}
def KJ:Sig vw:=sg [wE,Dq1] Jt [.tmp 4, .tmp 5]
noncomputable def DI(v:b9×Int×Unit):Option (Bool×Int×Unit):=nL (v.1,())>>=λx1=>if(x1.1 !=0)=true then some (false,x1)else lM v>>=λx2=>some ((x2.1,(0:Int),()))
def zk:=kP iJ (kP me k0)
def PL:Xc vw:=mX prog 15 zk.1 Mx [] [] []
theorem DJ:aT prog 131 KJ DI:=fn0 PL Tryz.func131 zk.2
def wW:Cut SN:=⟨[(0, .bp 100000 0),(3, .bp 3 0),(4,Dq1),(5,Dq1)],[(100000, .box none [.bp 100001 0,Dq6,Dq1,Dq1,Dq1,Dq1,Dq6,Dq4,Dq4,Dq7, .vh 100002, .vh 3011,Dq1,Dq1,Dq8]),(3, .st .myCodeT),(100001, .box none [Dq3,Dq4,Dq1, .vh 100004,Dq1, .vh 100005,Dq1,Dq5]),(100002,Oq2),(3011,Oq2),(100004,Oq9),(100005,Oq2)]⟩
def BV:aU vw:={rcut:=aN}
def pS:Sig vw:={params:=[.bp 100000 0,mo],objs:=[(100000, .box none [.bp 100001 0,Dq6,Dq1,Dq1,Dq1,Dq1,Dq6,Dq4,Dq4,Dq7, .vh 100002, .vh 100003,Dq1,Dq1,Dq8]),(100001, .box none [Dq3,Dq4,Dq1, .vh 100004,Dq1, .vh 100005,Dq1,Dq5]),(100002,Oq2),(100003,Oq2),(100004,Oq9),(100005,Oq2)],rcut:=aN,rvars:=[],keep:=[100000,100001,100002,3011,100004,100005]}
noncomputable def fB(v:Tq2):Option (Tq1):=let a:=v.2.2.2.2.2.2.2.2.2.2.2.2.2.2.2.2.2.2.2;bW v.2>>=λx1=>let c:=x1.2.2.2.2.2.2;let f:=c.2.2.2;let b:=f.2.2.2.2;let d:=b.2.2.2.2.2;let e:=d.2.2;let G1:=(x1.1,x1.2.1,x1.2.2.1,x1.2.2.2.1,x1.2.2.2.2.1,x1.2.2.2.2.2.1,c.1,c.2.1,c.2.2.1,f.1,f.2.1,f.2.2.1,v.1,f.2.2.2.1,b.1,b.2.1,b.2.2.1,b.2.2.2.1,b.2.2.2.2.1,d.1,d.2.1,e.1,e.2.1,());if d.1.length=a.1.length then if e.1.length=a.2.2.1.length then if e.2.1.length=a.2.2.2.1.length then(si (v.1.type0,())>>=λx2=>DI (x2.1,e.2.2.1.n,())>>=λx3=>if(!x3.1)=true then some ((e.2.2.1.n,(3:Int),G1))else some ((e.2.2.1.n,(0:Int),G1)))>>=λx2=>let i:=x2.2.2.2.2;let g:=i.2.2.2.2.2;let j:=g.2.2.2;let h:=j.2.2.2.2.2.2.2.2.2;nI (j.2.2.1.type0,x2.1,())>>=λx3=>eD (x2.1,x3.1,x2.2.1,x2.2.2.1,x2.2.2.2.1,i.1,i.2.1,i.2.2.1,i.2.2.2.1,i.2.2.2.2.1,g.1,g.2.1,g.2.2.1,j.1,j.2.1,j.2.2.2)>>=λx4=>let k:=x4.2.2.2.2.2.2.2.2.2.2.2.2.2.2.2.2.2.2;if k.1.length=h.1.length then if k.2.2.1.length=h.2.2.1.length then if k.2.2.2.1.length=h.2.2.2.1.length then some (x4)else none else none else none else none else none else none
def mO:=kP jM (kO bU (kP md (kO fb (kP DJ k0))))
def FI:Xc vw:=mX prog 29 mO.1 BV [(6,wW,[.norm])] [] []
theorem lb:aT prog 86 pS fB:=fn0 FI Tryz.func86 mO.2
def BW:aU vw:={rcut:=aN}
def pT:Sig vw:={params:=[.bp 100000 0,mo],objs:=[(100000, .box none [.bp 100001 0,Dq6,Dq1,Dq1,Dq1,Dq1,Dq6,Dq4,Dq4,Dq7, .vh 100002, .vh 100003,Dq1,Dq1,Dq8]),(100001, .box none [Dq3,Dq4,Dq1, .vh 100004,Dq1, .vh 100005,Dq1,Dq5]),(100002,Oq2),(100003,Oq2),(100004,Oq9),(100005,Oq2)],rcut:=aN,rvars:=[],keep:=[100000,100001,100002,3011,100004,100005]}
noncomputable def fC(v:Tq2):Option (Tq1):=let a:=v.2.2.2.2.2.2.2.2.2.2.2.2.2.2.2.2.2.2.2;bW v.2>>=λx1=>let e:=x1.2.2.2;let c:=e.2.2.2.2;let g:=c.2.2.2;let b:=g.2.2.2.2;let d:=b.2.2.2.2;let f:=d.2.2;if d.1.length=a.1.length then if f.1.length=a.2.2.1.length then if f.2.1.length=a.2.2.2.1.length then nI (v.1.type0,f.2.2.1.n,())>>=λx2=>qJ x2>>=λx3=>cA (x3.1,x1.1,x1.2.1,x1.2.2.1,e.1,e.2.1,e.2.2.1,e.2.2.2.1,c.1,c.2.1,c.2.2.1,g.1,g.2.1,g.2.2.1,g.2.2.2.1,b.1,b.2.1,b.2.2.1,b.2.2.2.1,d.1,d.2.1,f.1,f.2.1,())>>=λx4=>let h:=x4.2.2.2.2.2.2.2.2.2.2.2.2.2.2.2.2.2.2;if h.1.length=d.1.length then if h.2.2.1.length=f.1.length then if h.2.2.2.1.length=f.2.1.length then some (x4)else none else none else none else none else none else none
def mP:=kO cy (kP jL (kP jM (kO bU k0)))
def FJ:Xc vw:=mX prog 13 mP.1 BW [] [] []
theorem lc:aT prog 87 pT fC:=fn0 FJ Tryz.func87 mP.2
def wX:Cut SN:=⟨[(0, .bp 100000 0),(4, .bp 4 0),(5,Dq1)],[(100000, .box none [.bp 100001 0,Dq6,Dq1,Dq1,Dq1,Dq1,Dq6,Dq4,Dq4,Dq7, .vh 100002, .vh 3011,Dq1,Dq1,Dq8]),(4, .st .myValueT),(100001, .box none [Dq3,Dq4,Dq1, .vh 100004,Dq1, .vh 100005,Dq1,Dq5]),(100002,Oq2),(3011,Oq2),(100004,Oq9),(100005,Oq2)]⟩
def BX:aU vw:={rcut:=aN}
def pU:Sig vw:={params:=[.bp 100000 0,mo],objs:=[(100000, .box none [.bp 100001 0,Dq6,Dq1,Dq1,Dq1,Dq1,Dq6,Dq4,Dq4,Dq7, .vh 100002, .vh 100003,Dq1,Dq1,Dq8]),(100001, .box none [Dq3,Dq4,Dq1, .vh 100004,Dq1, .vh 100005,Dq1,Dq5]),(100002,Oq2),(100003,Oq2),(100004,Oq9),(100005,Oq2)],rcut:=aN,rvars:=[],keep:=[100000,100001,100002,3011,100004,100005]}
noncomputable def fD(v:Tq2):Option (Tq1):=let a:=v.2.2.2.2.2.2.2.2.2.2.2.2.2.2.2.2.2.2.2;bW v.2>>=λx1=>let c:=x1.2.2.2.2.2.2;let e:=c.2.2.2;let b:=e.2.2.2.2;let d:=b.2.2.2.2.2;let G1:=(x1.1,x1.2.1,x1.2.2.1,x1.2.2.2.1,x1.2.2.2.2.1,x1.2.2.2.2.2.1,c.1,c.2.1,c.2.2.1,e.1,e.2.1,e.2.2.1,d.2.2.2.2.1,e.2.2.2.1,b.1,b.2.1,b.2.2.1,b.2.2.2.1,b.2.2.2.2.1,d.1,d.2.1,d.2.2.1,d.2.2.2.1,());if d.1.length=a.1.length then if d.2.2.1.length=a.2.2.1.length then if d.2.2.2.1.length=a.2.2.2.1.length then(if d.2.2.2.2.1.null=true then some (((4:Int),G1))else some (((0:Int),G1)))>>=λx2=>let g:=x2.2.2.2.2;let f:=g.2.2.2.2.2;let i:=f.2.2.2;let h:=i.2.2.2.2.2.2.2.2;eD (i.2.1.n,i.2.1.n,x2.1,x2.2.1,x2.2.2.1,x2.2.2.2.1,g.1,g.2.1,g.2.2.1,g.2.2.2.1,g.2.2.2.2.1,f.1,f.2.1,f.2.2.1,i.1,i.2.2)>>=λx3=>let j:=x3.2.2.2.2.2.2.2.2.2.2.2.2.2.2.2.2.2.2;if j.1.length=h.1.length then if j.2.2.1.length=h.2.2.1.length then if j.2.2.2.1.length=h.2.2.2.1.length then some (x3)else none else none else none else none else none else none
def mQ:=kO bU (kO fb k0)
def FK:Xc vw:=mX prog 17 mQ.1 BX [(5,wX,[.norm])] [] []
theorem ld:aT prog 88 pU fD:=fn0 FK Tryz.func88 mQ.2
def oV:Cut SN:=⟨[(0, .bp 100000 0),(2, .bp 2 0)],[(100000, .box none [.bp 100001 0,Dq6,Dq1,Dq1,Dq1,Dq1,Dq6,Dq4,Dq4,Dq7, .vh 100002, .vh 100003,Dq1,Dq1,Dq8]),(100001, .box none [Dq3,Dq4,Dq1, .vh 100004,Dq1, .vh 100005,Dq1,Dq5]),(100002,Oq2),(100003,Oq2),(100004,Oq9),(100005,Oq2),(2, .st .myValueT)]⟩
def yc:aU vw:={rcut:=oV}
def uP:Sig vw:={params:=[.bp 100000 0],objs:=[(100000, .box none [.bp 100001 0,Dq6,Dq1,Dq1,Dq1,Dq1,Dq6,Dq4,Dq4,Dq7, .vh 100002, .vh 100003,Dq1,Dq1,Dq8]),(100001, .box none [Dq3,Dq4,Dq1, .vh 100004,Dq1, .vh 100005,Dq1,Dq5]),(100002,Oq2),(100003,Oq2),(100004,Oq9),(100005,Oq2)],rcut:=oV,rvars:=[.cell 2 31],keep:=[100000,100001,100002,100003,100004,100005]}
noncomputable def gj(v:Tq1):Option (Tq7):=let c:=v.2.2.2.2.2.2;let d:=c.2.2.2;let a:=d.2.2.2.2;let b:=a.2.2.2.2.2.2;if 0<=i64.wrap ((↑b.1.length:Int) -1)/\i64.wrap ((↑b.1.length:Int) -1)<(↑b.1.length:Int)then b.1[(i64.wrap ((↑b.1.length:Int) -1)).toNat]?>>=λx1=>some ((v.1,v.2.1,v.2.2.1,v.2.2.2.1,v.2.2.2.2.1,v.2.2.2.2.2.1,c.1,c.2.1,c.2.2.1,d.1,d.2.1,d.2.2.1,d.2.2.2.1,a.1,a.2.1,a.2.2.1,a.2.2.2.1,a.2.2.2.2.1,a.2.2.2.2.2.1,b.1,b.2.1,b.2.2.1,x1,()))else none
def Cy:Xc vw:=mX prog 15 c0 yc [] [] []
theorem jN:aT prog 132 uP gj:=fn0 Cy Tryz.func132 cv
def BZ:aU vw:={rcut:=aN}
def pV:Sig vw:={params:=[.bp 100000 0,mo],objs:=[(100000, .box none [.bp 100001 0,Dq6,Dq1,Dq1,Dq1,Dq1,Dq6,Dq4,Dq4,Dq7, .vh 100002, .vh 100003,Dq1,Dq1,Dq8]),(100001, .box none [Dq3,Dq4,Dq1, .vh 100004,Dq1, .vh 100005,Dq1,Dq5]),(100002,Oq2),(100003,Oq2),(100004,Oq9),(100005,Oq2)],rcut:=aN,rvars:=[],keep:=[100000,100001,100002,3011,100004,100005]}
noncomputable def fE(v:Tq2):Option (Tq1):=let b:=v.2.2.2.2.2.2.2.2.2.2.2.2.2.2.2.2.2.2.2;gj v.2>>=λx1=>let f:=x1.2.2.2;let d:=f.2.2.2.2;let h:=d.2.2.2;let c:=h.2.2.2.2;let e:=c.2.2.2.2;let g:=e.2.2;let G1:=(x1.1,x1.2.1,x1.2.2.1,f.1,f.2.1,f.2.2.1,f.2.2.2.1,d.1,d.2.1,d.2.2.1,h.1,h.2.1,h.2.2.1,h.2.2.2.1,c.1,c.2.1,c.2.2.1,c.2.2.2.1,e.1,e.2.1,g.1,g.2.1,());if e.1.length=b.1.length then if e.2.1.length=b.2.1.length then if g.1.length=b.2.2.1.length then if g.2.1.length=b.2.2.2.1.length then if g.2.2.1.null=true then bW G1>>=λx2=>let k:=x2.2.2.2.2.2;let i:=k.2.2.2.2.2.2.2;let j:=i.2.2.2.2.2.2;if j.1.length=e.1.length then if j.2.2.1.length=g.1.length then if j.2.2.2.1.length=g.2.1.length then some ((x2.1,x2.2.1,x2.2.2.1,x2.2.2.2.1,x2.2.2.2.2.1,k.1,k.2.1,k.2.2.1,k.2.2.2.1,k.2.2.2.2.1,v.1.a,k.2.2.2.2.2.2.1,i.1,i.2.1,i.2.2.1,i.2.2.2.1,i.2.2.2.2.1,i.2.2.2.2.2.1,j.1,j.2.1,j.2.2.1,j.2.2.2.1,()))else none else none else none else some (G1)else none else none else none else none
def mR:=kO bU (kO jN k0)
def FL:Xc vw:=mX prog 14 mR.1 BZ [] [] []
theorem lh:aT prog 89 pV fE:=fn0 FL Tryz.func89 mR.2
def dX:Cut SN:=⟨[(0, .bp 100000 0)],[(100000, .box none [.bp 100001 0,Dq6,Dq1,Dq1,Dq1,Dq1,Dq6,Dq4,Dq4,Dq7, .vh 100002, .vh 100003,Dq1,Dq1,Dq8]),(100001, .box none [Dq3,Dq4,Dq1, .vh 100004,Dq1, .vh 100005,Dq1,Dq5]),(100002,Oq2),(100003,Oq2),(100004,Oq9),(100005,Oq2)]⟩
def yd:aU vw:={rcut:=dX}
def uQ:Sig vw:={params:=[.bp 100000 0,Dq4,Dq1],objs:=[(100000, .box none [.bp 100001 0,Dq6,Dq1,Dq1,Dq1,Dq1,Dq6,Dq4,Dq4,Dq7, .vh 100002, .vh 100003,Dq1,Dq1,Dq8]),(100001, .box none [Dq3,Dq4,Dq1, .vh 100004,Dq1, .vh 100005,Dq1,Dq5]),(100002,Oq2),(100003,Oq2),(100004,Oq9),(100005,Oq2)],rcut:=dX,rvars:=[],keep:=[100000,100001,100002,100003,100004,100005]}
noncomputable def gk(v:Bool×Int×ByteArray×Int×Int×Int×Int×ByteArray×Bool×Bool×(List aM)×Int×Int×(Option aD)×(List aB)×Bool×Int×Int×Int×(Option bH)×(List aD)×(List aD)×(List Int)×(List aD)×Unit):Option (Tq1):=let a:=v.2.2.2.2.2.2;if v.1=true then some (v.2.2.1,v.2.2.2.1,v.2.2.2.2.1,v.2.2.2.2.2.1,a.1,a.2.1,a.2.2.1,a.2.2.2.1,a.2.2.2.2.1,a.2.2.2.2.2.1,v.2.1,a.2.2.2.2.2.2.2)else some (v.2.2)
def Cz:Xc vw:=mX prog 11 c0 yd [] [] []
theorem jO:aT prog 133 uQ gk:=fn0 Cz Tryz.func133 cv
def B5:aU vw:={rcut:=dX}
def pW:Sig vw:={params:=[.bp 100000 0,mo],objs:=[(100000, .box none [.bp 100001 0,Dq6,Dq1,Dq1,Dq1,Dq1,Dq6,Dq4,Dq4,Dq7, .vh 100002, .vh 100003,Dq1,Dq1,Dq8]),(100001, .box none [Dq3,Dq4,Dq1, .vh 100004,Dq1, .vh 100005,Dq1,Dq5]),(100002,Oq2),(100003,Oq2),(100004,Oq9),(100005,Oq2)],rcut:=dX,rvars:=[],keep:=[100000,100001,100002,100003,100004,100005]}
noncomputable def fF(v:Tq2):Option (Tq1):=let b:=v.2.2.2.2.2.2.2.2.2.2.2.2.2.2.2.2.2.2.2;gj v.2>>=λx1=>let g:=x1.2.2.2;let d:=g.2.2.2.2;let f:=d.2.2.2.2;let c:=f.2.2.2.2;let e:=c.2.2.2;let h:=e.2.2;if e.1.length=b.1.length then if e.2.1.length=b.2.1.length then if h.1.length=b.2.2.1.length then if h.2.1.length=b.2.2.2.1.length then gk (!h.2.2.1.err.toList==(Qc #[]).toList,v.1.a,x1.1,x1.2.1,x1.2.2.1,g.1,g.2.1,g.2.2.1,g.2.2.2.1,d.1,d.2.1,d.2.2.1,d.2.2.2.1,f.1,f.2.1,f.2.2.1,f.2.2.2.1,c.1,c.2.1,c.2.2.1,e.1,e.2.1,h.1,h.2.1,())>>=λx2=>let i:=x2.2.2.2.2.2.2.2.2.2.2.2.2.2.2.2.2.2.2;if i.1.length=e.1.length then if i.2.1.length=e.2.1.length then if i.2.2.1.length=h.1.length then if i.2.2.2.1.length=h.2.1.length then some (x2)else none else none else none else none else none else none else none else none
def mS:=kO jN (kO jO k0)
def FM:Xc vw:=mX prog 12 mS.1 B5 [] [] []
theorem li:aT prog 90 pW fF:=fn0 FM Tryz.func90 mS.2
def B6:aU vw:={rcut:=dX}
def pX:Sig vw:={params:=[.bp 100000 0,mo],objs:=[(100000, .box none [.bp 100001 0,Dq6,Dq1,Dq1,Dq1,Dq1,Dq6,Dq4,Dq4,Dq7, .vh 100002, .vh 100003,Dq1,Dq1,Dq8]),(100001, .box none [Dq3,Dq4,Dq1, .vh 100004,Dq1, .vh 100005,Dq1,Dq5]),(100002,Oq2),(100003,Oq2),(100004,Oq9),(100005,Oq2)],rcut:=dX,rvars:=[],keep:=[100000,100001,100002,100003,100004,100005]}
noncomputable def fG(v:Tq2):Option (Tq1):=let b:=v.2.2.2.2.2;some (v.2.1,v.2.2.1,v.2.2.2.1,v.2.2.2.2.1,b.1,b.2.1,b.2.2.1,b.2.2.2.1,b.2.2.2.2.1,b.2.2.2.2.2.1,v.1.a,b.2.2.2.2.2.2.2)
def FN:Xc vw:=mX prog 9 c0 B6 [] [] []
theorem lj:aT prog 91 pX fG:=fn0 FN Tryz.func91 cv
def B7:aU vw:={rcut:=aN}
def pY:Sig vw:={params:=[.bp 100000 0,mo],objs:=[(100000, .box none [.bp 100001 0,Dq6,Dq1,Dq1,Dq1,Dq1,Dq6,Dq4,Dq4,Dq7, .vh 100002, .vh 100003,Dq1,Dq1,Dq8]),(100001, .box none [Dq3,Dq4,Dq1, .vh 100004,Dq1, .vh 100005,Dq1,Dq5]),(100002,Oq2),(100003,Oq2),(100004,Oq9),(100005,Oq2)],rcut:=aN,rvars:=[],keep:=[100000,100001,100002,3011,100004,100005]}
noncomputable def fH(v:Tq2):Option (Tq1):=let b:=v.2.2.2.2.2.2.2.2.2.2.2.2.2.2.2.2.2.2.2;bW v.2>>=λx1=>let f:=x1.2.2.2;let d:=f.2.2.2.2;let h:=d.2.2.2;let c:=h.2.2.2.2;let e:=c.2.2.2.2;let g:=e.2.2;if e.1.length=b.1.length then if g.1.length=b.2.2.1.length then if g.2.1.length=b.2.2.2.1.length then gk (g.2.2.1.n==0,v.1.a,x1.1,x1.2.1,x1.2.2.1,f.1,f.2.1,f.2.2.1,f.2.2.2.1,d.1,d.2.1,d.2.2.1,h.1,h.2.1,h.2.2.1,h.2.2.2.1,c.1,c.2.1,c.2.2.1,c.2.2.2.1,e.1,e.2.1,g.1,g.2.1,())>>=λx2=>let i:=x2.2.2.2.2.2.2.2.2.2.2.2.2.2.2.2.2.2.2;if i.1.length=e.1.length then if i.2.1.length=e.2.1.length then if i.2.2.1.length=g.1.length then if i.2.2.2.1.length=g.2.1.length then some (x2)else none else none else none else none else none else none else none
def mT:=kO bU (kO jO k0)
def FO:Xc vw:=mX prog 12 mT.1 B7 [] [] []
theorem lk:aT prog 92 pY fH:=fn0 FO Tryz.func92 mT.2
def B9:aU vw:={rcut:=aN}
def xM:Nat->Bool:=λk=>match k with|7000004=>true|_=>false
def pZ:Sig vw:={params:=[.bp 100000 0,mo],objs:=[(100000, .box none [.bp 100001 0,Dq6,Dq1,Dq1,Dq1,Dq1,Dq6,Dq4,Dq4,Dq7, .vh 100002, .vh 100003,Dq1,Dq1,Dq8]),(100001, .box none [Dq3,Dq4,Dq1, .vh 100004,Dq1, .vh 100005,Dq1,Dq5]),(100002,Oq2),(100003,Oq2),(100004,Oq9),(100005,Oq2)],rcut:=aN,rvars:=[],keep:=[100000,100001,100002,3011,100004,100005]}
noncomputable def fI(v:Tq2):Option (Tq1):=let a:=v.2.2.2.2.2.2.2.2.2.2.2.2.2.2.2.2.2.2.2;bW v.2>>=λx1=>let d:=x1.2.2.2.2.2;let b:=d.2.2.2.2.2.2.2;let c:=b.2.2.2.2.2.2;if c.1.length=a.1.length then if c.2.2.1.length=a.2.2.1.length then if c.2.2.2.1.length=a.2.2.2.1.length then some ((x1.1,x1.2.1,x1.2.2.1,x1.2.2.2.1,x1.2.2.2.2.1,d.1,d.2.1,d.2.2.1,d.2.2.2.1,d.2.2.2.2.1,d.2.2.2.2.2.1,some c.2.2.2.2.1,b.1,b.2.1,b.2.2.1,b.2.2.2.1,b.2.2.2.2.1,b.2.2.2.2.2.1,c.1,c.2.1,c.2.2.1,c.2.2.2.1,()))else none else none else none
def mV:=kO bU k0
def FP:Xc vw:={P:=prog,n:=10,call:=mV.1,pre:=xM,sh:=B9}
theorem lm:aT prog 94 pZ fI:=fn0 FP Tryz.func94 mV.2
def B_:aU vw:={rcut:=aN}
def p5:Sig vw:={params:=[.bp 100000 0,mo],objs:=[(100000, .box none [.bp 100001 0,Dq6,Dq1,Dq1,Dq1,Dq1,Dq6,Dq4,Dq4,Dq7, .vh 100002, .vh 100003,Dq1,Dq1,Dq8]),(100001, .box none [Dq3,Dq4,Dq1, .vh 100004,Dq1, .vh 100005,Dq1,Dq5]),(100002,Oq2),(100003,Oq2),(100004,Oq9),(100005,Oq2)],rcut:=aN,rvars:=[],keep:=[100000,100001,100002,3011,100004,100005]}
noncomputable def fJ(v:Tq2):Option (Tq1):=let a:=v.2.2.2.2.2.2.2.2.2.2.2.2.2.2.2.2.2.2.2;cA (aD.mk (aG.mk (0:Int) (0:Int) (Qc #[]) false false) (0:Int) false v.1.name0 (aG.mk (0:Int) (0:Int) (Qc #[]) false false),v.2)>>=λx1=>let b:=x1.2.2.2.2.2.2.2.2.2.2.2.2.2.2.2.2.2.2;if b.1.length=a.1.length then if b.2.2.1.length=a.2.2.1.length then if b.2.2.2.1.length=a.2.2.2.1.length then some (x1)else none else none else none
def mW:=kO cy k0
def FQ:Xc vw:=mX prog 9 mW.1 B_ [] [] []
theorem lq:aT prog 95 p5 fJ:=fn0 FQ Tryz.func95 mW.2
def Ca:aU vw:={rcut:=dX}
def xN:Nat->Bool:=λk=>match k with|7000004=>true|_=>false
def p6:Sig vw:={params:=[.bp 100000 0,mo],objs:=[(100000, .box none [.bp 100001 0,Dq6,Dq1,Dq1,Dq1,Dq1,Dq6,Dq4,Dq4,Dq7, .vh 100002, .vh 100003,Dq1,Dq1,Dq8]),(100001, .box none [Dq3,Dq4,Dq1, .vh 100004,Dq1, .vh 100005,Dq1,Dq5]),(100002,Oq2),(100003,Oq2),(100004,Oq9),(100005,Oq2)],rcut:=dX,rvars:=[],keep:=[100000,100001,100002,100003,100004,100005]}
noncomputable def fK(v:Tq2):Option (Tq1):=let d:=v.2.2.2.2;let f:=d.2.2;let b:=f.2.2.2;let c:=b.2.2.2.2.2;let e:=c.2.2.2.2;if c.1=true then dM ((1:Int),v.1.a,b.2.2.2.2.1,c.1,c.2.1,c.2.2.1,c.2.2.2.1,e.1,e.2.2.2)>>=λx1=>let g:=x1.2.2.2.2;if g.2.2.1.length=e.2.2.2.1.length then if g.2.2.2.1.length=e.2.2.2.2.1.length then some (v.2.1,v.2.2.1,v.2.2.2.1,d.1,d.2.1,f.1,f.2.1,f.2.2.1,b.1,b.2.1,b.2.2.1,b.2.2.2.1,x1.1,x1.2.1,x1.2.2.1,x1.2.2.2.1,g.1,g.2.1,e.2.1,e.2.2.1,g.2.2)else none else none else qJ ((0:Int),())>>=λx1=>some (v.2.1,v.2.2.1,v.2.2.2.1,d.1,d.2.1,f.1,f.2.1,f.2.2.1,b.1,b.2.1,b.2.2.1,some x1.1,b.2.2.2.2)
def mY:=kO fU (kP jL k0)
def FR:Xc vw:={P:=prog,n:=23,call:=mY.1,pre:=xN,sh:=Ca}
theorem lu:aT prog 96 p6 fK:=fn0 FR Tryz.func96 mY.2
end Go.Proofs.YtcghbgmmgcljkaaGreatDoor
end
