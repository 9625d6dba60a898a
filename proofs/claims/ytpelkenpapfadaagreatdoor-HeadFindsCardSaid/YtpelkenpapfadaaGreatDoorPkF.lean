/-
  Texts of this claim, joined by a program of mine: what the theorem uses.
-/
import Derived.Test.YtpelkenpapfadaaGreatDoorPkE
import Derived.Test.YtpelkenpapfadaaGreatDoorPkC
open ByteArray renaming mk→TZ
open Int renaming toNat→U1
open List renaming drop→Xe,map→VC,replicate→UX,take→WS
open Sum renaming inl→UF,inr→UI
noncomputable section
set_option linter.unusedVariables false
section
namespace Go.Proofs.YtpelkenpapfadaaGreatDoor
open Go.Awp Go.Tx
open IntKind (i64)
open Go.Proofs.Tryz (prog)
set_option maxHeartbeats 4000000
set_option maxRecDepth 100000
def dG:Cut SN:=⟨[(2, .dat .bool)],[]⟩
def S_:ay vw:={rcut:=dG}
def QO:Sig vw:=sg [.dat (.int .u8)] dG [.tmp 2]
noncomputable def LM(v:Int×Unit):Option (Bool×Unit):=(if decide (v.1>=97)=true then if decide (v.1<=122)=true then some ((true,()))else if decide (v.1>=65)=true then if decide (v.1<=90)=true then some ((true,()))else some ((v.1==95,()))else some ((v.1==95,()))else if decide (v.1>=65)=true then if decide (v.1<=90)=true then some ((true,()))else some ((v.1==95,()))else some ((v.1==95,())))>>=λx1=>some ((x1.1,()))
def x86:Xc vw:=mX prog 21 c0 S_ [] [(1,dG)] []
theorem EG:aq prog 86 QO LM:=fn0 x86 Tryz.func86 bB
def Ta:ay vw:={rcut:=dG}
def QP:Sig vw:=sg [.dat (.int .u8)] dG [.tmp 2]
noncomputable def KW(v:Int×Unit):Option (Bool×Unit):=(if decide (v.1>=48)=true then some ((decide (v.1<=57),()))else some ((false,())))>>=λx1=>some ((x1.1,()))
def x87:Xc vw:=mX prog 9 c0 Ta [] [(1,dG)] []
theorem EH:aq prog 87 QP KW:=fn0 x87 Tryz.func87 bB
def mG:Cut SN:=⟨[(0, .dat .str),(3, .vh 1003),(4, .dat (.int .i64))],[(1003, .vec 9 .str)]⟩
def ef:Cut SN:=⟨[(0, .dat .str),(3, .vh 1003),(4, .dat (.int .i64)),(5, .dat (.int .i64))],[(1003, .vec 9 .str)]⟩
def Az:Cut SN:=⟨[(0, .dat .str),(3, .vh 1003),(4, .dat (.int .i64)),(5, .dat (.int .i64)),(6, .dat (.int .u8)),(14, .dat .bool)],[(1003, .vec 9 .str)]⟩
def AA:Cut SN:=⟨[(0, .dat .str),(3, .vh 1003),(4, .dat (.int .i64)),(5, .dat (.int .i64)),(51, .dat .bool)],[(1003, .vec 9 .str)]⟩
def wW:Cut SN:=⟨[(0, .dat .str),(3, .vh 1003),(4, .dat (.int .i64)),(5, .dat (.int .i64)),(70, .dat .bool)],[(1003, .vec 9 .str)]⟩
def rD:Cut SN:=⟨[(3, .vh 1003)],[(1003, .vec 9 .str)]⟩
def uj:Cut SN:=⟨[(2, .vh 2002)],[(2002, .vec 9 .str)]⟩
def vH:ay vw:=shL [(0,rD),(1,mG),(3,ef),(5,ef)] uj
def Ct:Sig vw:={params:=[.dat .str],rcut:=uj,rvars:=[.tmp 2],keep:=[2002]}
noncomputable def cI(v:ByteArray×Int×Int×(List ByteArray)×Unit):Option ((ByteArray×Int×Int×(List ByteArray)×Unit)):=(if decide (i64.wrap (v.2.1+v.2.2.1)<(↑v.1.size:Int))=true then if 0<=i64.wrap (v.2.1+v.2.2.1)then v.1[(i64.wrap (v.2.1+v.2.2.1)).toNat]?>>=λx1=>LM ((↑x1.toNat:Int),())>>=λx2=>if x2.1=true then some ((v.1,v.2.1,v.2.2.1,true,v.2.2.2.1,()))else if 0<=i64.wrap (v.2.1+v.2.2.1)then v.1[(i64.wrap (v.2.1+v.2.2.1)).toNat]?>>=λx3=>KW ((↑x3.toNat:Int),())>>=λx4=>some ((v.1,v.2.1,v.2.2.1,x4.1,v.2.2.2.1,()))else none else none else some ((v.1,v.2.1,v.2.2.1,false,v.2.2.2.1,())))>>=λx1=>if x1.2.2.2.1=true then cI (x1.1,x1.2.1,i64.wrap (x1.2.2.1+1),x1.2.2.2.2.1,())else some ((x1.1,x1.2.1,x1.2.2.1,x1.2.2.2.2.1,())) partial_fixpoint
noncomputable def ce(v:ByteArray×Int×Int×(List ByteArray)×Unit):Option ((ByteArray×Int×Int×(List ByteArray)×Unit)):=(if decide (i64.wrap (v.2.1+v.2.2.1)<(↑v.1.size:Int))=true then if 0<=i64.wrap (v.2.1+v.2.2.1)then v.1[(i64.wrap (v.2.1+v.2.2.1)).toNat]?>>=λx1=>KW ((↑x1.toNat:Int),())>>=λx2=>some ((v.1,v.2.1,v.2.2.1,x2.1,v.2.2.2.1,()))else none else some ((v.1,v.2.1,v.2.2.1,false,v.2.2.2.1,())))>>=λx1=>if x1.2.2.2.1=true then ce (x1.1,x1.2.1,i64.wrap (x1.2.2.1+1),x1.2.2.2.2.1,())else some ((x1.1,x1.2.1,x1.2.2.1,x1.2.2.2.2.1,())) partial_fixpoint
noncomputable def bN(v:ByteArray×Int×(List ByteArray)×Unit):Option (((List ByteArray)×Unit)):=if decide (v.2.1<(↑v.1.size:Int))=true then(if 0<=v.2.1 then v.1[v.2.1.toNat]?>>=λx1=>(if((↑x1.toNat:Int)==32)=true then some ((v.1,v.2.1,(1:Int),(↑x1.toNat:Int),true,v.2.2.1,()))else if((↑x1.toNat:Int)==9)=true then some ((v.1,v.2.1,(1:Int),(↑x1.toNat:Int),true,v.2.2.1,()))else some ((v.1,v.2.1,(1:Int),(↑x1.toNat:Int),(↑x1.toNat:Int)==10,v.2.2.1,())))>>=λx2=>if x2.2.2.2.2.1=true then some (UI (x2.1,i64.wrap (x2.2.1+1),x2.2.2.2.2.2.1,()))else LM (x2.2.2.2.1,())>>=λx3=>if x3.1=true then cI (x2.1,x2.2.1,x2.2.2.1,x2.2.2.2.2.2.1,())>>=λx4=>some (UF (x4.1,x4.2.1,x4.2.2.1,x4.2.2.2.1,()))else KW (x2.2.2.2.1,())>>=λx4=>if x4.1=true then ce (x2.1,x2.2.1,x2.2.2.1,x2.2.2.2.2.2.1,())>>=λx5=>some (UF (x5.1,x5.2.1,x5.2.2.1,x5.2.2.2.1,()))else some (UF (x2.1,x2.2.1,x2.2.2.1,x2.2.2.2.2.2.1,()))else none)>>=λx1=>match x1 with| .inl y1=>if 0<=y1.2.1/\y1.2.1<=i64.wrap (y1.2.1+y1.2.2.1)/\i64.wrap (y1.2.1+y1.2.2.1)<=(↑y1.1.size:Int)then if y1.2.2.2.1.length+[y1.1.extract y1.2.1.toNat (i64.wrap (y1.2.1+y1.2.2.1)).toNat].length<=4294967296 then bN (y1.1,i64.wrap (y1.2.1+y1.2.2.1),y1.2.2.2.1++[y1.1.extract y1.2.1.toNat (i64.wrap (y1.2.1+y1.2.2.1)).toNat],())else none else none| .inr y1=>bN (y1.1,y1.2.1,y1.2.2.1,())else some ((v.2.2.1,())) partial_fixpoint
noncomputable def jf(v:ByteArray×Unit):Option ((List ByteArray)×Unit):=bN (v.1,(0:Int),[],())>>=λx1=>some ((x1.1,()))
def fB:=kP EG (kP EH k0)
def oC:Xc vw:=mX prog 86 fB.1 vH [(14,ef,[.norm, .exit 1])] [(6,Az),(9,AA),(12,wW)] [(3,⟨mG,[.exit 0],bN⟩),(9,⟨ef,[.exit 3],cI⟩),(12,⟨ef,[.exit 5],ce⟩)]
theorem qK:dT oC (ai (ai (af Tryz.f52) 0) 0) ⟨ef,[.exit 3],cI⟩:=lp0 cI.partial_correctness fB.2
theorem pH:dT oC (ai (ai (af Tryz.f52) 0) 1) ⟨ef,[.exit 5],ce⟩:=lp0 ce.partial_correctness fB.2
theorem qJ(C:Ctx)(hP:C.P=prog)(hN:C.N=86/\Fx C j9):dx C (ai (af Tryz.f52) 0) (sh:=vH) {cut:=mG,alts:=[.exit 0],F:=bN}:=
 lpB (X:=oC) bN.partial_correctness hP hN Ty.mixed fB.2 (PK (by kernel_rfl) (by kernel_rfl) (by kernel_rfl) (qK C hP hN) (pH C hP hN)) λF v=>by kernel_rfl
theorem u7:aq prog 52 Ct jf:=fn1 oC Tryz.func52 fB.2 qJ
def I1:Cut SN:=⟨[(2, .dat (.int .i64)),(4, .bp 4 0)],[(4, .iter)]⟩
def bM:Cut SN:=⟨[(2, .dat (.int .i64))],[]⟩
def P_:ay vw:=shL [(0,bM)] bM
def NG:Sig vw:=sg [.dat .str] bM [.tmp 2]
noncomputable def pD(v:Int×ByteArray×Int×Unit):Option ((Int×Unit)):=if 0<=v.2.2.1 then if v.2.2.1<(↑v.2.1.size:Int)then pD (i64.wrap (v.1+1),v.2.1,v.2.2.1+Bs.wid v.2.1 v.2.2.1,())else some ((v.1,()))else none partial_fixpoint
noncomputable def Nb(v:ByteArray×Unit):Option (Int×Unit):=pD ((0:Int),v.1,(0:Int),())>>=λx1=>some ((x1.1,()))
def R0:Xc vw:=mX prog 10 c0 P_ [] [] [(2,⟨I1,[.exit 0],pD⟩)]
theorem Bo:dT R0 (ai (af Tryz.f150) 0) ⟨I1,[.exit 0],pD⟩:=lp0 pD.partial_correctness bB
theorem HD:aq prog 150 NG Nb:=fn1 R0 Tryz.func150 bB Bo
def OR:Cut SN:=⟨[(2, .dat (.int .i32)),(3, .dat (.int .i64))],[]⟩
def NH:Sig vw:=sg [.dat .str] OR [.tmp 2, .tmp 3]
noncomputable def Nc(v:ByteArray×Unit):Option (Int×Int×Unit):=some ((Lib.decodeGo v.1).1,(Lib.decodeGo v.1).2,())
theorem HE:aq prog 151 NH Nc:=λv r x h hx=>by
 obtain⟨s,u⟩:=v
 cases h;cases hx
 exact bj (by kernel_rfl) (iA.pure (P:=prog) (f:=151) (args:=[.d (.v (.string s))]) (r:= .tup [.d (.v (.int .i32 (Lib.decodeGo s).1)), .d (.v (.int .i64 (Lib.decodeGo s).2))]) (by kernel_rfl) λE M w vs hg hm hv=>by
  obtain⟨v1,rfl,h1⟩:=lO hv
  rw[h1.dv]
  exact(Tryz.utf8_DecodeRuneInString s w (FU hg hm)).mono λe w' ⟨he,hw⟩=>⟨_,he,DP,hw⟩)
def IZ:Cut SN:=⟨[(0, .dat .str),(1, .dat (.int .i64)),(6, .vh 1006),(7, .dat (.int .i64))],[(1006, .vec 9 .str)]⟩
def L7:Cut SN:=⟨[(0, .dat .str),(1, .dat (.int .i64))],[]⟩
def JS:Cut SN:=⟨[(6, .vh 1006)],[(1006, .vec 9 .str)]⟩
def L8:Cut SN:=⟨[(0, .dat .str),(1, .dat (.int .i64)),(5, .dat (.int .i64)),(18, .dat .bool)],[]⟩
def L6:Cut SN:=⟨[(0, .dat .str),(1, .dat (.int .i64)),(6, .vh 1006)],[(1006, .vec 9 .str)]⟩
def GU:Cut SN:=⟨[(4, .dat (.sl .str))],[]⟩
def P3:ay vw:=shL [(0,L6)] GU
def Nz:Sig vw:=sg [.dat .str, .dat (.int .i64)] GU [.tmp 4]
noncomputable def px(v:ByteArray×Int×Int×(List ByteArray)×Unit):Option ((ByteArray×Int×(List ByteArray)×Unit)):=if decide (v.2.2.1<i64.wrap (v.2.1-1))=true then Nc (v.1,())>>=λx1=>if(0:Int)<=0/\0<=x1.2.1/\x1.2.1<=(↑v.1.size:Int)then if 0<=v.2.2.1/\v.2.2.1<(↑v.2.2.2.1.length:Int)then v.2.2.2.1[v.2.2.1.toNat]?>>=λx2=>if 0<=x1.2.1/\x1.2.1<=(↑v.1.size:Int)/\(↑v.1.size:Int)<=(↑v.1.size:Int)then px (v.1.extract x1.2.1.toNat (↑v.1.size:Int).toNat,v.2.1,i64.wrap (v.2.2.1+1),v.2.2.2.1.set v.2.2.1.toNat (v.1.extract (U1 0) x1.2.1.toNat),())else none else none else none else some ((v.1,v.2.1,v.2.2.2.1,())) partial_fixpoint
noncomputable def M_(v:ByteArray×Int×Unit):Option ((List ByteArray)×Unit):=Nb (v.1,())>>=λx1=>((if decide (v.2.1<0)=true then some ((v.1,v.2.1,x1.1,true,()))else some ((v.1,v.2.1,x1.1,decide (v.2.1>x1.1),())))>>=λx2=>if x2.2.2.2.1=true then some ((x2.1,x2.2.2.1,()))else some ((x2.1,x2.2.1,())))>>=λx2=>if 0<=x2.2.1 then if x2.2.1<=4294967296 then px (x2.1,x2.2.1,(0:Int),UX x2.2.1.toNat (TZ #[]),())>>=λx3=>(if decide (x3.2.1>0)=true then if 0<=i64.wrap (x3.2.1-1)/\i64.wrap (x3.2.1-1)<(↑x3.2.2.1.length:Int)then x3.2.2.1[(i64.wrap (x3.2.1-1)).toNat]?>>=λx4=>some ((x3.2.2.1.set (i64.wrap (x3.2.1-1)).toNat x3.1,()))else none else some ((x3.2.2.1,())))>>=λx4=>some ((x4.1,()))else none else none
def xb:=kP HD (kP HE k0)
def RY:Xc vw:=mX prog 50 xb.1 P3 [(4,L7,[.norm]),(13,JS,[.norm])] [(2,L8)] [(6,⟨IZ,[.exit 0],px⟩)]
theorem Bj:dT RY (ai (af Tryz.f119) 0) ⟨IZ,[.exit 0],px⟩:=lp0 px.partial_correctness xb.2
theorem Ho:aq prog 119 Nz M_:=fn1 RY Tryz.func119 xb.2 Bj
def nW:Cut SN:=⟨[(4, .dat (.int .i64))],[]⟩
def NA:Sig vw:=sg [.dat .str, .dat .str] nW [.tmp 4]
noncomputable def Hp(v:ByteArray×ByteArray×Unit):Option (Int×Unit):=match v.2.1.data.toList with|[c]=>some (((Lib.countByte v.1.data.toList c:Nat):Int),())|_=>none
theorem Hq:aq prog 120 NA Hp:=λv r x h hx=>by
 obtain⟨s,c,u⟩:=v
 unfold Hp at h
 simp only at h
 split at h
 ·rename_i c0 hc
  obtain rfl:c=⟨#[c0]⟩:=by
   obtain⟨⟨l⟩⟩:=c
   simp only at hc
   rw[hc]
  cases h;cases hx
  exact bj (by kernel_rfl) (iA.pure (P:=prog) (f:=120) (args:=[.d (.v (.string s)), .d (.v (.string ⟨#[c0]⟩))]) (r:= .d (.v (.int .i64 (((Lib.countByte s.data.toList c0:Nat):Int))))) (by kernel_rfl) λE M w vs hg hm hv=>by
   obtain⟨v1,v2,rfl,h1,h2⟩:=pb hv
   rw[h1.dv,h2.dv]
   exact(Tryz.strings_Count_one s c0 w).mono λe w' ⟨he,hw⟩=>⟨_,he, .d (.v _),hw▸Go.RowKit.Below.refl _ _⟩)
 ·cases h
def NB:Sig vw:=sg [.dat .str, .dat .str] nW [.tmp 4]
noncomputable def Hr(v:ByteArray×ByteArray×Unit):Option (Int×Unit):=match v.2.1.data.toList with|[c]=>some (Lib.indexByte v.1.data.toList c,())|_=>none
theorem Hs:aq prog 121 NB Hr:=λv r x h hx=>by
 obtain⟨s,c,u⟩:=v
 unfold Hr at h
 simp only at h
 split at h
 ·rename_i c0 hc
  obtain rfl:c=⟨#[c0]⟩:=by
   obtain⟨⟨l⟩⟩:=c
   simp only at hc
   rw[hc]
  cases h;cases hx
  exact bj (by kernel_rfl) (iA.pure (P:=prog) (f:=121) (args:=[.d (.v (.string s)), .d (.v (.string ⟨#[c0]⟩))]) (r:= .d (.v (.int .i64 (Lib.indexByte s.data.toList c0)))) (by kernel_rfl) λE M w vs hg hm hv=>by
   obtain⟨v1,v2,rfl,h1,h2⟩:=pb hv
   rw[h1.dv,h2.dv]
   exact(Tryz.strings_Index_one s c0 w).mono λe w' ⟨he,hw⟩=>⟨_,he, .d (.v _),hw▸Go.RowKit.Below.refl _ _⟩)
 ·cases h
def I5:Cut SN:=⟨[(0, .dat .str),(1, .dat .str),(2, .dat (.int .i64)),(3, .dat (.int .i64)),(9, .vh 1009),(10, .dat (.int .i64))],[(1009, .vec 9 .str)]⟩
def Pf:Cut SN:=⟨[(0, .dat .str),(1, .dat .str),(2, .dat (.int .i64)),(3, .dat (.int .i64))],[]⟩
def Pe:Cut SN:=⟨[(0, .dat .str),(9, .vh 1009),(10, .dat (.int .i64))],[(1009, .vec 9 .str)]⟩
def RD:Cut SN:=⟨[(8, .dat (.sl .str))],[]⟩
def Td:ay vw:=shL [(0,Pe)] RD
def QS:Sig vw:=sg [.dat .str, .dat .str, .dat (.int .i64), .dat (.int .i64)] RD [.tmp 8]
noncomputable def ip(v:ByteArray×ByteArray×Int×Int×Int×(List ByteArray)×Unit):Option ((ByteArray×Int×(List ByteArray)×Unit)):=if decide (v.2.2.2.2.1<v.2.2.2.1)=true then Hr (v.1,v.2.1,())>>=λx1=>if decide (x1.1<0)=true then some ((v.1,v.2.2.2.2.1,v.2.2.2.2.2.1,()))else if(0:Int)<=0/\0<=i64.wrap (x1.1+v.2.2.1)/\i64.wrap (x1.1+v.2.2.1)<=(↑v.1.size:Int)then if 0<=v.2.2.2.2.1/\v.2.2.2.2.1<(↑v.2.2.2.2.2.1.length:Int)then v.2.2.2.2.2.1[v.2.2.2.2.1.toNat]?>>=λx2=>if 0<=i64.wrap (x1.1+(↑v.2.1.size:Int))/\i64.wrap (x1.1+(↑v.2.1.size:Int))<=(↑v.1.size:Int)/\(↑v.1.size:Int)<=(↑v.1.size:Int)then ip (v.1.extract (i64.wrap (x1.1+(↑v.2.1.size:Int))).toNat (↑v.1.size:Int).toNat,v.2.1,v.2.2.1,v.2.2.2.1,i64.wrap (v.2.2.2.2.1+1),v.2.2.2.2.2.1.set v.2.2.2.2.1.toNat (v.1.extract (U1 0) (i64.wrap (x1.1+v.2.2.1)).toNat),())else none else none else none else some ((v.1,v.2.2.2.2.1,v.2.2.2.2.2.1,())) partial_fixpoint
noncomputable def PO(v:ByteArray×ByteArray×Int×Int×Unit):Option ((List ByteArray)×Unit):=if(v.2.2.2.1==0)=true then some (([],()))else if(v.2.1.toList==(TZ #[]).toList)=true then M_ (v.1,v.2.2.2.1,())>>=λx1=>some ((x1.1,()))else(if decide (v.2.2.2.1<0)=true then Hp (v.1,v.2.1,())>>=λx1=>some ((v.1,v.2.1,v.2.2.1,i64.wrap (x1.1+1),()))else some ((v.1,v.2.1,v.2.2.1,v.2.2.2.1,())))>>=λx1=>if 0<=min x1.2.2.2.1 (i64.wrap ((↑x1.1.size:Int)+1))then if min x1.2.2.2.1 (i64.wrap ((↑x1.1.size:Int)+1))<=4294967296 then ip (x1.1,x1.2.1,x1.2.2.1,i64.wrap (min x1.2.2.2.1 (i64.wrap ((↑x1.1.size:Int)+1)) -1),(0:Int),UX (min x1.2.2.2.1 (i64.wrap ((↑x1.1.size:Int)+1))).toNat (TZ #[]),())>>=λx2=>if 0<=x2.2.1/\x2.2.1<(↑x2.2.2.1.length:Int)then x2.2.2.1[x2.2.1.toNat]?>>=λx3=>if(0:Int)<=0/\0<=i64.wrap (x2.2.1+1)/\i64.wrap (x2.2.1+1)<=(↑(x2.2.2.1.set x2.2.1.toNat x2.1).length:Int)then some ((WS (i64.wrap (x2.2.1+1)).toNat (x2.2.2.1.set x2.2.1.toNat x2.1),()))else none else none else none else none
def Dr:=kP Ho (kP Hq (kP Hs k0))
def x96:Xc vw:=mX prog 66 Dr.1 Td [(7,Pf,[.norm])] [] [(11,⟨I5,[.exit 0],ip⟩)]
theorem Bw:dT x96 (ai (af Tryz.f96) 0) ⟨I5,[.exit 0],ip⟩:=lp0 ip.partial_correctness Dr.2
theorem KY:aq prog 96 QS PO:=fn1 x96 Tryz.func96 Dr.2 Bw
def SW:ay vw:={rcut:=GU}
def QG:Sig vw:=sg [.dat .str, .dat .str] GU [.tmp 4]
noncomputable def Or(v:ByteArray×ByteArray×Unit):Option ((List ByteArray)×Unit):=PO (v.1,v.2.1,(0:Int),(-1:Int),())>>=λx1=>some ((x1.1,()))
def Jd:=kP KY k0
def x65:Xc vw:=mX prog 8 Jd.1 SW [] [] []
theorem KN:aq prog 65 QG Or:=fn0 x65 Tryz.func65 Jd.2
def gl:Cut SN:=⟨[(4, .dat .bool)],[]⟩
def Te:ay vw:={rcut:=gl}
def QT:Sig vw:=sg [.dat .str, .dat .str] gl [.tmp 4]
noncomputable def PP(v:ByteArray×ByteArray×Unit):Option (Bool×Unit):=(if decide ((↑v.1.size:Int)>=(↑v.2.1.size:Int))=true then if(0:Int)<=0/\0<=(↑v.2.1.size:Int)/\(↑v.2.1.size:Int)<=(↑v.1.size:Int)then some (((v.1.extract (U1 0) (↑v.2.1.size:Int).toNat).toList==v.2.1.toList,()))else none else some ((false,())))>>=λx1=>some ((x1.1,()))
def x97:Xc vw:=mX prog 18 c0 Te [] [(1,gl)] []
theorem KZ:aq prog 97 QT PP:=fn0 x97 Tryz.func97 bB
def SX:ay vw:={rcut:=gl}
def QH:Sig vw:=sg [.dat .str, .dat .str] gl [.tmp 4]
noncomputable def Ot(v:ByteArray×ByteArray×Unit):Option (Bool×Unit):=PP (v.1,v.2.1,())>>=λx1=>some ((x1.1,()))
def Je:=kP KZ k0
def x66:Xc vw:=mX prog 8 Je.1 SX [] [] []
theorem KO:aq prog 66 QH Ot:=fn0 x66 Tryz.func66 Je.2
def GV:Cut SN:=⟨[(3, .vh 1003),(4, .dat (.int .i64)),(5, .dat (.int .i64)),(11, .dat (.sl .str)),(12, .dat (.int .i64)),(13, .dat (.int .i64))],[(1003, .dvec 24 (.sl .str) false)]⟩
def JX:Cut SN:=⟨[(3, .vh 1003),(4, .dat (.int .i64)),(5, .dat (.int .i64)),(11, .dat (.sl .str)),(12, .dat (.int .i64)),(13, .dat (.int .i64)),(25, .vh 1025),(26, .dat (.int .i64)),(27, .dat (.int .i64))],[(1003, .dvec 24 (.sl .str) false),(1025, .vec 9 .str)]⟩
def Mn:Cut SN:=⟨[(3, .vh 1003),(4, .dat (.int .i64)),(5, .dat (.int .i64)),(9, .dat .str),(11, .dat (.sl .str)),(12, .dat (.int .i64)),(13, .dat (.int .i64)),(25, .vh 1025),(26, .dat (.int .i64)),(27, .dat (.int .i64))],[(1003, .dvec 24 (.sl .str) false),(1025, .vec 9 .str)]⟩
def Mo:Cut SN:=⟨[(3, .vh 1003),(4, .dat (.int .i64)),(5, .dat (.int .i64)),(9, .dat .str),(11, .dat (.sl .str)),(12, .dat (.int .i64)),(13, .dat (.int .i64)),(25, .vh 1025),(26, .dat (.int .i64)),(27, .dat (.int .i64)),(53, .dat .bool)],[(1003, .dvec 24 (.sl .str) false),(1025, .vec 9 .str)]⟩
def Mq:Cut SN:=⟨[(3, .vh 1003),(4, .dat (.int .i64)),(5, .dat (.int .i64)),(11, .dat (.sl .str)),(12, .dat (.int .i64)),(13, .dat (.int .i64)),(25, .vh 1025),(26, .dat (.int .i64)),(27, .dat (.int .i64)),(62, .dat .bool)],[(1003, .dvec 24 (.sl .str) false),(1025, .vec 9 .str)]⟩
def OV:Cut SN:=⟨[(3, .vh 1003)],[(1003, .dvec 24 (.sl .str) false)]⟩
def Rq:Cut SN:=⟨[(2, .dat (.sl (.sl .str)))],[]⟩
def SI:ay vw:=shL [(0,OV),(2,GV)] Rq
def PQ:Nat->Bool:=λk=>match k with|1000022=>true|1000036=>true|_=>false
def Qw:Sig vw:=sg [.dat .str] Rq [.tmp 2]
noncomputable def md(v:Int×Int×(List ByteArray)×Int×Int×Int×Int×(List (List ByteArray))×(List ByteArray)×Unit):Option ((Int×Int×(List ByteArray)×Int×Int×(List (List ByteArray))×Unit)):=if decide (v.2.2.2.2.2.2.1<v.2.2.2.2.2.1)=true then(if 0<=v.2.2.2.2.2.2.1/\v.2.2.2.2.2.2.1<(↑v.2.2.2.2.2.2.2.2.1.length:Int)then v.2.2.2.2.2.2.2.2.1[v.2.2.2.2.2.2.1.toNat]?>>=λx1=>(if decide (v.1<0)=true then if v.2.2.2.2.2.2.2.1.length+(1:Nat)<=4294967296 then some (((↑v.2.2.2.2.2.2.2.1.length:Int),v.2.1,x1,v.2.2.1,v.2.2.2.1,v.2.2.2.2.1,v.2.2.2.2.2.1,v.2.2.2.2.2.2.1,v.2.2.2.2.2.2.2.1++[[]],v.2.2.2.2.2.2.2.2.1,()))else none else some ((v.1,v.2.1,x1,v.2.2.1,v.2.2.2.1,v.2.2.2.2.1,v.2.2.2.2.2.1,v.2.2.2.2.2.2.1,v.2.2.2.2.2.2.2.1,v.2.2.2.2.2.2.2.2.1,())))>>=λx2=>if 0<=x2.1/\x2.1<(↑x2.2.2.2.2.2.2.2.2.1.length:Int)then x2.2.2.2.2.2.2.2.2.1[x2.1.toNat]?>>=λx3=>if x3.length+[x2.2.2.1].length<=4294967296 then if 0<=x2.1/\x2.1<(↑((VC some x2.2.2.2.2.2.2.2.2.1).set x2.1.toNat none).length:Int)then((VC some x2.2.2.2.2.2.2.2.2.1).set x2.1.toNat none)[x2.1.toNat]?>>=λx4=>CX (((VC some x2.2.2.2.2.2.2.2.2.1).set x2.1.toNat none).set x2.1.toNat (some (x3++[x2.2.2.1])))>>=λx5=>if(x2.2.2.1.toList==(TZ #[123]).toList)=true then some ((x2.1,i64.wrap (x2.2.1+1),x2.2.2.2.1,x2.2.2.2.2.1,x2.2.2.2.2.2.1,x2.2.2.2.2.2.2.1,x2.2.2.2.2.2.2.2.1,x5,x2.2.2.2.2.2.2.2.2.2.1,()))else(if(x2.2.2.1.toList==(TZ #[125]).toList)=true then some ((x2.1,x2.2.1,x2.2.2.1,x2.2.2.2.1,x2.2.2.2.2.1,x2.2.2.2.2.2.1,x2.2.2.2.2.2.2.1,x2.2.2.2.2.2.2.2.1,decide (x2.2.1>0),x5,x2.2.2.2.2.2.2.2.2.2.1,()))else some ((x2.1,x2.2.1,x2.2.2.1,x2.2.2.2.1,x2.2.2.2.2.1,x2.2.2.2.2.2.1,x2.2.2.2.2.2.2.1,x2.2.2.2.2.2.2.2.1,false,x5,x2.2.2.2.2.2.2.2.2.2.1,())))>>=λx6=>if x6.2.2.2.2.2.2.2.2.1=true then some ((x6.1,i64.wrap (x6.2.1-1),x6.2.2.2.1,x6.2.2.2.2.1,x6.2.2.2.2.2.1,x6.2.2.2.2.2.2.1,x6.2.2.2.2.2.2.2.1,x6.2.2.2.2.2.2.2.2.2.1,x6.2.2.2.2.2.2.2.2.2.2.1,()))else(if(x6.2.2.1.toList==(TZ #[59]).toList)=true then some ((x6.1,x6.2.1,x6.2.2.2.1,x6.2.2.2.2.1,x6.2.2.2.2.2.1,x6.2.2.2.2.2.2.1,x6.2.2.2.2.2.2.2.1,x6.2.1==0,x6.2.2.2.2.2.2.2.2.2.1,x6.2.2.2.2.2.2.2.2.2.2.1,()))else some ((x6.1,x6.2.1,x6.2.2.2.1,x6.2.2.2.2.1,x6.2.2.2.2.2.1,x6.2.2.2.2.2.2.1,x6.2.2.2.2.2.2.2.1,false,x6.2.2.2.2.2.2.2.2.2.1,x6.2.2.2.2.2.2.2.2.2.2.1,())))>>=λx7=>if x7.2.2.2.2.2.2.2.1=true then some (((-1:Int),x7.2.1,x7.2.2.1,x7.2.2.2.1,x7.2.2.2.2.1,x7.2.2.2.2.2.1,x7.2.2.2.2.2.2.1,x7.2.2.2.2.2.2.2.2.1,x7.2.2.2.2.2.2.2.2.2.1,()))else some ((x7.1,x7.2.1,x7.2.2.1,x7.2.2.2.1,x7.2.2.2.2.1,x7.2.2.2.2.2.1,x7.2.2.2.2.2.2.1,x7.2.2.2.2.2.2.2.2.1,x7.2.2.2.2.2.2.2.2.2.1,()))else none else none else none else none)>>=λx1=>md (x1.1,x1.2.1,x1.2.2.1,x1.2.2.2.1,x1.2.2.2.2.1,x1.2.2.2.2.2.1,i64.wrap (x1.2.2.2.2.2.2.1+1),x1.2.2.2.2.2.2.2.1,x1.2.2.2.2.2.2.2.2.1,())else some ((v.1,v.2.1,v.2.2.1,v.2.2.2.1,v.2.2.2.2.1,v.2.2.2.2.2.2.2.1,())) partial_fixpoint
noncomputable def mc(v:Int×Int×(List ByteArray)×Int×Int×(List (List ByteArray))×Unit):Option (((List (List ByteArray))×Unit)):=if decide (v.2.2.2.2.1<v.2.2.2.1)=true then(if 0<=v.2.2.2.2.1 then v.2.2.1[v.2.2.2.2.1.toNat]?>>=λx1=>Ot (x1,TZ #[35],())>>=λx2=>if x2.1=true then jf (x1,())>>=λx3=>if v.2.2.2.2.2.1.length+[x3.1].length<=4294967296 then some ((v.1,v.2.1,v.2.2.1,v.2.2.2.1,v.2.2.2.2.1,v.2.2.2.2.2.1++[x3.1],()))else none else jf (x1,())>>=λx3=>md (v.1,v.2.1,v.2.2.1,v.2.2.2.1,v.2.2.2.2.1,(↑x3.1.length:Int),(0:Int),v.2.2.2.2.2.1,x3.1,())>>=λx4=>some ((x4.1,x4.2.1,x4.2.2.1,x4.2.2.2.1,x4.2.2.2.2.1,x4.2.2.2.2.2.1,()))else none)>>=λx1=>mc (x1.1,x1.2.1,x1.2.2.1,x1.2.2.2.1,i64.wrap (x1.2.2.2.2.1+1),x1.2.2.2.2.2.1,())else some ((v.2.2.2.2.2.1,())) partial_fixpoint
noncomputable def Oh(v:ByteArray×Unit):Option ((List (List ByteArray))×Unit):=Or (v.1,TZ #[10],())>>=λx1=>mc ((-1:Int),(0:Int),x1.1,(↑x1.1.length:Int),(0:Int),[],())>>=λx2=>some ((x2.1,()))
def zb:=kO u7 (kP KN (kP KO k0))
def x34:Xc vw:={P:=prog,n:=72,call:=zb.1,pre:=PQ,sh:=SI,joins:=λk=>match k with|14=>some (Mn,[.norm])|21=>some (JX,[.norm])|22=>some (GV,[.norm])|_=>none,regs:=λk=>match k with|17=>some Mo|19=>some Mq|_=>none,loops:=λk=>match k with|4=>some {cut:=GV,alts:=[.exit 0],F:=mc}|9=>some {cut:=JX,alts:=[.exit 2],F:=md}|_=>none}
theorem Es:dT x34 (ai (ai (af Tryz.f34) 0) 0) ⟨JX,[.exit 2],md⟩:=lp0 md.partial_correctness zb.2
theorem Er:dT x34 (ai (af Tryz.f34) 0) ⟨GV,[.exit 0],mc⟩:=lp1 mc.partial_correctness zb.2 Es
theorem Ky:aq prog 34 Qw Oh:=fn1 x34 Tryz.func34 zb.2 Er
def uk:Cut SN:=⟨[(0, .bp 100000 0),(1, .bp 100001 0)],[(100000, .box none [.bp 100002 0]),(100001, .box none [.vh 100003]),(100002, .box none [.vh 100003]),(100003, .vec 44 (.st .itemT))]⟩
def FH:ay vw:={rcut:=uk}
def m_:Sig vw:={params:=[.bp 100000 0, .bp 100001 0],objs:=[(100000, .box none [.bp 100002 0]),(100001, .box none [.dat (.sl (.st .itemT))]),(100002, .box none [.vh 100003]),(100003, .vec 44 (.st .itemT))],rcut:=uk,rvars:=[],keep:=[100000,100001,100002,100003]}
noncomputable def mm(v:(List Item)×(List Item)×Unit):Option ((List Item)×Unit):=some ((v.2.1,()))
def Ah:Xc vw:=mX prog 6 c0 FH [] [] []
theorem tf:CS prog 67 m_ mm:=λv r x h hx=>
 MQ (X:=Ah) (sig:=m_) rfl Tryz.func67 (c:=af Tryz.f67) (by kernel_rfl) Tryz.ntmps67 (by kernel_rfl) (by kernel_rfl) rfl Ty.mixed bB rfl (λC hP hN=>(bc (bj (by kernel_rfl) trivial))) (bj (by kernel_rfl) h) x hx
theorem u9:aq prog 67 m_ mm:=fn0 Ah Tryz.func67 bB
def fh:Cut SN:=⟨[(0, .bp 100000 0),(2, .dat .str)],[(100000, .box none [.bp 100001 0, .dat (.sl .str), .dat .bool]),(100001, .box none [.vh 100002]),(100002, .vec 44 (.st .itemT))]⟩
def Ch:ay vw:={rcut:=fh}
def yD:Sig vw:={params:=[.bp 100000 0],objs:=[(100000, .box none [.bp 100001 0, .dat (.sl .str), .dat .bool]),(100001, .box none [.vh 100002]),(100002, .vec 44 (.st .itemT))],rcut:=fh,rvars:=[.tmp 2],keep:=[100000,100001,100002]}
noncomputable def ft(v:(List ByteArray)×Bool×(List Item)×Unit):Option (ByteArray×(List ByteArray)×Bool×(List Item)×Unit):=if((↑v.1.length:Int)==0)=true then some ((TZ #[],v.1,v.2.1,v.2.2.1,()))else v.1[U1 0]?>>=λx1=>some ((x1,v.1,v.2.1,v.2.2.1,()))
def GC:Xc vw:=mX prog 15 c0 Ch [] [] []
theorem io:aq prog 162 yD ft:=fn0 GC Tryz.func162 bB
def wP:Cut SN:=⟨[(0, .bp 100000 0),(12, .dat .bool)],[(100000, .box none [.bp 100001 0, .dat (.sl .str), .dat .bool]),(100001, .box none [.vh 100002]),(100002, .vec 44 (.st .itemT))]⟩
def rn:Cut SN:=⟨[(0, .bp 100000 0),(4, .dat .bool)],[(100000, .box none [.bp 100001 0, .dat (.sl .str), .dat .bool]),(100001, .box none [.vh 100002]),(100002, .vec 44 (.st .itemT))]⟩
def Cc:ay vw:={rcut:=rn}
def yy:Sig vw:={params:=[.bp 100000 0, .dat .str],objs:=[(100000, .box none [.bp 100001 0, .dat (.sl .str), .dat .bool]),(100001, .box none [.vh 100002]),(100002, .vec 44 (.st .itemT))],rcut:=rn,rvars:=[.tmp 4],keep:=[100000,100001,100002]}
noncomputable def cU(v:ByteArray×(List ByteArray)×Bool×(List Item)×Unit):Option (Bool×(List ByteArray)×Bool×(List Item)×Unit):=(ft (v.2.1,v.2.2.1,v.2.2.2.1,())>>=λx1=>if x1.2.2.2.1.length=v.2.2.2.1.length then if(!x1.1.toList==v.1.toList)=true then some ((true,x1.2.1,x1.2.2.1,x1.2.2.2.1,()))else some ((v.1.toList==(TZ #[]).toList,x1.2.1,x1.2.2.1,x1.2.2.2.1,()))else none)>>=λx1=>if x1.1=true then some ((false,x1.2.1,x1.2.2.1,x1.2.2.2.1,()))else if(0:Int)<=1/\(1:Int)<=(↑x1.2.1.length:Int)/\(↑x1.2.1.length:Int)<=(↑x1.2.1.length:Int)then some ((true,Xe (U1 1) (WS (↑x1.2.1.length:Int).toNat x1.2.1),x1.2.2.1,x1.2.2.2.1,()))else none
def nt:=kO io k0
def Gx:Xc vw:=mX prog 21 nt.1 Cc [] [(1,wP)] []
theorem cG:aq prog 156 yy cU:=fn0 Gx Tryz.func156 nt.2
def kF:Cut SN:=⟨[(0, .bp 100000 0),(6, .dat (.sl .str)),(7, .dat (.int .i64)),(8, .dat (.int .i64))],[(100000, .box none [.bp 100001 0, .dat (.sl .str), .dat .bool]),(100001, .box none [.vh 100002]),(100002, .vec 44 (.st .itemT))]⟩
def kE:Cut SN:=⟨[(0, .bp 100000 0)],[(100000, .box none [.bp 100001 0, .dat (.sl .str), .dat .bool]),(100001, .box none [.vh 100002]),(100002, .vec 44 (.st .itemT))]⟩
def Ca:ay vw:=shL [(0,kE)] kE
def yw:Sig vw:={params:=[.bp 100000 0, .dat (.sl .str)],objs:=[(100000, .box none [.bp 100001 0, .dat (.sl .str), .dat .bool]),(100001, .box none [.vh 100002]),(100002, .vec 44 (.st .itemT))],rcut:=kE,rvars:=[],keep:=[100000,100001,100002]}
noncomputable def cb(v:(List ByteArray)×Int×Int×(List ByteArray)×Bool×(List Item)×Unit):Option (((List ByteArray)×Bool×(List Item)×Unit)):=if decide (v.2.2.1<v.2.1)=true then(if 0<=v.2.2.1 then v.1[v.2.2.1.toNat]?>>=λx1=>cU (x1,v.2.2.2.1,v.2.2.2.2.1,v.2.2.2.2.2.1,())>>=λx2=>if x2.2.2.2.1.length=v.2.2.2.2.2.1.length then if(!x2.1)=true then some ((v.1,v.2.1,v.2.2.1,x2.2.1,true,x2.2.2.2.1,()))else some ((v.1,v.2.1,v.2.2.1,x2.2.1,x2.2.2.1,x2.2.2.2.1,()))else none else none)>>=λx1=>cb (x1.1,x1.2.1,i64.wrap (x1.2.2.1+1),x1.2.2.2.1,x1.2.2.2.2.1,x1.2.2.2.2.2.1,())else some ((v.2.2.2.1,v.2.2.2.2.1,v.2.2.2.2.2.1,())) partial_fixpoint
noncomputable def bv(v:(List ByteArray)×(List ByteArray)×Bool×(List Item)×Unit):Option ((List ByteArray)×Bool×(List Item)×Unit):=cb (v.1,(↑v.1.length:Int),(0:Int),v.2.1,v.2.2.1,v.2.2.2.1,())>>=λx1=>some ((x1.1,x1.2.1,x1.2.2.1,()))
def iZ:=kO cG k0
def wh:Xc vw:=mX prog 20 iZ.1 Ca [(5,kF,[.norm])] [] [(1,⟨kF,[.exit 0],cb⟩)]
theorem pE:dT wh (ai (af Tryz.f154) 0) ⟨kF,[.exit 0],cb⟩:=lp0 cb.partial_correctness iZ.2
theorem fb:aq prog 154 yw bv:=fn1 wh Tryz.func154 iZ.2 pE
def oN:Cut SN:=⟨[(0, .bp 100000 0),(3, .dat .str)],[(100000, .box none [.bp 100001 0, .dat (.sl .str), .dat .bool]),(100001, .box none [.vh 100002]),(100002, .vec 44 (.st .itemT))]⟩
def Cj:ay vw:={rcut:=fh}
def yF:Sig vw:={params:=[.bp 100000 0],objs:=[(100000, .box none [.bp 100001 0, .dat (.sl .str), .dat .bool]),(100001, .box none [.vh 100002]),(100002, .vec 44 (.st .itemT))],rcut:=fh,rvars:=[.tmp 2],keep:=[100000,100001,100002]}
noncomputable def en(v:(List ByteArray)×Bool×(List Item)×Unit):Option (ByteArray×(List ByteArray)×Bool×(List Item)×Unit):=ft (v.1,v.2.1,v.2.2.1,())>>=λx1=>if x1.2.2.2.1.length=v.2.2.1.length then(if(!x1.1.toList==(TZ #[]).toList)=true then if(0:Int)<=1/\(1:Int)<=(↑x1.2.1.length:Int)/\(↑x1.2.1.length:Int)<=(↑x1.2.1.length:Int)then some ((x1.1,Xe (U1 1) (WS (↑x1.2.1.length:Int).toNat x1.2.1),x1.2.2.1,x1.2.2.2.1,()))else none else some ((x1.1,x1.2.1,x1.2.2.1,x1.2.2.2.1,())))>>=λx2=>some ((x2.1,x2.2.1,x2.2.2.1,x2.2.2.2.1,()))else none
def ny:=kO io k0
def GD:Xc vw:=mX prog 17 ny.1 Cj [(4,oN,[.norm])] [] []
theorem fc:aq prog 164 yF en:=fn0 GD Tryz.func164 ny.2
def Qf:ay vw:={rcut:=dG}
def NO:Sig vw:=sg [.dat .str] dG [.tmp 2]
noncomputable def En(v:ByteArray×Unit):Option (Bool×Unit):=(if(v.1.toList==(TZ #[99,104,97,114]).toList)=true then some ((true,()))else if(v.1.toList==(TZ #[115,104,111,114,116]).toList)=true then some ((true,()))else if(v.1.toList==(TZ #[105,110,116]).toList)=true then some ((true,()))else if(v.1.toList==(TZ #[108,111,110,103]).toList)=true then some ((true,()))else if(v.1.toList==(TZ #[117,110,115,105,103,110,101,100]).toList)=true then some ((true,()))else if(v.1.toList==(TZ #[118,111,105,100]).toList)=true then some ((true,()))else if(v.1.toList==(TZ #[115,116,114,117,99,116]).toList)=true then some ((true,()))else some ((v.1.toList==(TZ #[101,110,117,109]).toList,())))>>=λx1=>if x1.1=true then some ((true,()))else some ((false,()))
def TN:Xc vw:=mX prog 13 c0 Qf [(10,gl,[.norm])] [] []
theorem HK:aq prog 182 NO En:=fn0 TN Tryz.func182 bB
def wO:Cut SN:=⟨[(0, .bp 100000 0),(3, .dat .str),(17, .dat .bool)],[(100000, .box none [.bp 100001 0, .dat (.sl .str), .dat .bool]),(100001, .box none [.vh 100002]),(100002, .vec 44 (.st .itemT))]⟩
def Cb:ay vw:={rcut:=fh}
def yx:Sig vw:={params:=[.bp 100000 0],objs:=[(100000, .box none [.bp 100001 0, .dat (.sl .str), .dat .bool]),(100001, .box none [.vh 100002]),(100002, .vec 44 (.st .itemT))],rcut:=fh,rvars:=[.tmp 2],keep:=[100000,100001,100002]}
noncomputable def bU(v:(List ByteArray)×Bool×(List Item)×Unit):Option (ByteArray×(List ByteArray)×Bool×(List Item)×Unit):=en (v.1,v.2.1,v.2.2.1,())>>=λx1=>if x1.2.2.2.1.length=v.2.2.1.length then((if(x1.1.toList==(TZ #[]).toList)=true then some ((x1.1,true,x1.2.1,x1.2.2.1,x1.2.2.2.1,()))else x1.1[U1 0]?>>=λx2=>LM ((↑x2.toNat:Int),())>>=λx3=>if(!x3.1)=true then some ((x1.1,true,x1.2.1,x1.2.2.1,x1.2.2.2.1,()))else En (x1.1,())>>=λx4=>some ((x1.1,x4.1,x1.2.1,x1.2.2.1,x1.2.2.2.1,())))>>=λx2=>if x2.2.1=true then some ((x2.1,x2.2.2.1,true,x2.2.2.2.2.1,()))else some ((x2.1,x2.2.2.1,x2.2.2.2.1,x2.2.2.2.2.1,())))>>=λx2=>some ((x2.1,x2.2.1,x2.2.2.1,x2.2.2.2.1,()))else none
def nr:=kP EG (kO fc (kP HK k0))
def Gw:Xc vw:=mX prog 22 nr.1 Cb [(4,oN,[.norm])] [(2,wO)] []
theorem d8:aq prog 155 yx bU:=fn0 Gw Tryz.func155 nr.2
def OS:Cut SN:=⟨[(2, .dat (.int .i64)),(3, .dat .er)],[]⟩
def NL:Sig vw:=sg [.dat .str] OS [.tmp 2, .tmp 3]
noncomputable def Bq(v:ByteArray×Unit):Option (Int×Bool×Unit):=if v.1.size<=1000000000000 then(match Lib.atoiAll v.1.data.toList with| .ok n=>some (n,false,())| .range=>some (Lib.atoiSat v.1.data.toList,true,())|_=>some (0,true,()))else none
theorem zx:aq prog 170 NL Bq:=λv r x h hx=>by
 obtain⟨s,u⟩:=v
 unfold Bq at h
 split at h
 ·rename_i hc
  simp only at hc h
  cases hq:Lib.atoiAll s.data.toList with
  |ok n=>
   simp only[hq]at h
   cases h;cases hx
   exact bj (by kernel_rfl) (iA.pure (P:=prog) (f:=170) (args:=[.d (.v (.string s))]) (r:= .tup [.d (.v (.int .i64 n)), .d (.er false)]) (by kernel_rfl) λE M w vs hg hm hv=>by
    obtain⟨v1,rfl,h1⟩:=lO hv
    rw[h1.dv]
    exact(Tryz.strconv_Atoi_ok s (by omega) n hq w).mono λe w' ⟨he,hw⟩=>⟨_,he,xJ .ern,wx hw⟩)
  |range=>
   simp only[hq]at h
   cases h;cases hx
   exact bj (by kernel_rfl) (iA.pure (P:=prog) (f:=170) (args:=[.d (.v (.string s))]) (r:= .tup [.d (.v (.int .i64 (Lib.atoiSat s.data.toList))), .d (.er true)]) (by kernel_rfl) λE M w vs hg hm hv=>by
    obtain⟨v1,rfl,h1⟩:=lO hv
    rw[h1.dv]
    obtain⟨te,pe,hev⟩:=Ha hg hm
    exact(Tryz.strconv_Atoi_range s (by omega) hq _ w hev (.inr ⟨te,pe,rfl⟩)).mono λe w' ⟨N,he,_,_,hw⟩=>⟨_,he,xJ (.ere _ _),hw⟩)
  |_=>
   simp only[hq]at h
   cases h;cases hx
   exact bj (by kernel_rfl) (iA.pure (P:=prog) (f:=170) (args:=[.d (.v (.string s))]) (r:= .tup [.d (.v (.int .i64 0)), .d (.er true)]) (by kernel_rfl) λE M w vs hg hm hv=>by
    obtain⟨v1,rfl,h1⟩:=lO hv
    rw[h1.dv]
    obtain⟨te,pe,hev⟩:=DK hg hm
    exact(Tryz.strconv_Atoi_syntax s (by omega) ⟨λn hn=>(by rw[hq]at hn;cases hn),λhn=>(by rw[hq]at hn;cases hn)⟩ _ w hev (.inr ⟨te,pe,rfl⟩)).mono λe w' ⟨N,he,_,_,hw⟩=>⟨_,he,xJ (.ere _ _),hw⟩)
 ·cases h
def wQ:Cut SN:=⟨[(0, .bp 100000 0),(4, .dat (.int .i64))],[(100000, .box none [.bp 100001 0, .dat (.sl .str), .dat .bool]),(100001, .box none [.vh 100002]),(100002, .vec 44 (.st .itemT))]⟩
def wR:Cut SN:=⟨[(0, .bp 100000 0),(4, .dat (.int .i64)),(25, .dat .bool)],[(100000, .box none [.bp 100001 0, .dat (.sl .str), .dat .bool]),(100001, .box none [.vh 100002]),(100002, .vec 44 (.st .itemT))]⟩
def ro:Cut SN:=⟨[(0, .bp 100000 0),(2, .dat (.int .i64))],[(100000, .box none [.bp 100001 0, .dat (.sl .str), .dat .bool]),(100001, .box none [.vh 100002]),(100002, .vec 44 (.st .itemT))]⟩
def Cd:ay vw:={rcut:=ro}
def yz:Sig vw:={params:=[.bp 100000 0],objs:=[(100000, .box none [.bp 100001 0, .dat (.sl .str), .dat .bool]),(100001, .box none [.vh 100002]),(100002, .vec 44 (.st .itemT))],rcut:=ro,rvars:=[.tmp 2],keep:=[100000,100001,100002]}
noncomputable def gP(v:(List ByteArray)×Bool×(List Item)×Unit):Option (Int×(List ByteArray)×Bool×(List Item)×Unit):=en (v.1,v.2.1,v.2.2.1,())>>=λx1=>if x1.2.2.2.1.length=v.2.2.1.length then Bq (x1.1,())>>=λx2=>((if x2.2.1=true then some ((x2.1,true,x1.2.1,x1.2.2.1,x1.2.2.2.1,()))else x1.1[U1 0]?>>=λx3=>KW ((↑x3.toNat:Int),())>>=λx4=>if(!x4.1)=true then some ((x2.1,true,x1.2.1,x1.2.2.1,x1.2.2.2.1,()))else some ((x2.1,decide ((↑x1.1.size:Int)>9),x1.2.1,x1.2.2.1,x1.2.2.2.1,())))>>=λx3=>if x3.2.1=true then some ((x3.1,x3.2.2.1,true,x3.2.2.2.2.1,()))else some ((x3.1,x3.2.2.1,x3.2.2.2.1,x3.2.2.2.2.1,())))>>=λx3=>some ((x3.1,x3.2.1,x3.2.2.1,x3.2.2.2.1,()))else none
def nu:=kP EH (kO fc (kP zx k0))
def Gy:Xc vw:=mX prog 30 nu.1 Cd [(5,wQ,[.norm])] [(3,wR)] []
theorem lZ:aq prog 157 yz gP:=fn0 Gy Tryz.func157 nu.2
def ee:Cut SN:=⟨[(1, .bp 100000 0),(2, .bp 100001 0),(4, .dat .bool)],[(100000, .box none [.dat (.int .i64)]),(100001, .box none [.dat .str])]⟩
def Cn:ay vw:={rcut:=ee}
def yJ:Sig vw:={params:=[.dat (.st .itemT), .bp 100000 0, .bp 100001 0],objs:=[(100000, .box none [.dat (.int .i64)]),(100001, .box none [.dat .str])],rcut:=ee,rvars:=[.tmp 4],keep:=[100000,100001]}
noncomputable def jM(v:Item×Int×ByteArray×Unit):Option (Bool×Int×ByteArray×Unit):=(if(v.1.kind==v.2.1)=true then some ((v.1.name0.toList==v.2.2.1.toList,v.2.1,v.2.2.1,()))else some ((false,v.2.1,v.2.2.1,())))>>=λx1=>some ((x1.1,x1.2.1,x1.2.2.1,()))
def GH:Xc vw:=mX prog 15 c0 Cn [] [(1,ee)] []
theorem s9:aq prog 186 yJ jM:=fn0 GH Tryz.func186 bB
def rH:Cut SN:=⟨[(0, .vh 100000),(1, .fn 186 [] [100001,100002]),(7, .dat (.int .i64)),(8, .dat (.int .i64))],[(100000, .vec 44 (.st .itemT)),(100001, .box none [.dat (.int .i64)]),(100002, .box none [.dat .str])]⟩
def AH:Cut SN:=⟨[(0, .vh 100000),(1, .fn 186 [] [100001,100002])],[(100000, .vec 44 (.st .itemT)),(100001, .box none [.dat (.int .i64)]),(100002, .box none [.dat .str])]⟩
def ur:Cut SN:=⟨[(0, .vh 100000),(1, .fn 186 [] [100001,100002]),(4, .dat (.int .i64))],[(100000, .vec 44 (.st .itemT)),(100001, .box none [.dat (.int .i64)]),(100002, .box none [.dat .str])]⟩
def FM:ay vw:=shL [(0,AH)] ur
def Cx:Sig vw:={params:=[.vh 100000, .fn 186 [] [100001,100002]],objs:=[(100000, .vec 44 (.st .itemT)),(100001, .box none [.dat (.int .i64)]),(100002, .box none [.dat .str])],rcut:=ur,rvars:=[.tmp 4],keep:=[100000,100001,100002]}
noncomputable def cL(v:Int×Int×(List Item)×Int×ByteArray×Unit):Option (((Int×(List Item)×Int×ByteArray×Unit)⊕((List Item)×Int×ByteArray×Unit))):=if decide (v.2.1<v.1)=true then if 0<=v.2.1/\v.2.1<(↑v.2.2.1.length:Int)then v.2.2.1[v.2.1.toNat]?>>=λx1=>jM (x1,v.2.2.2.1,v.2.2.2.2.1,())>>=λx2=>if x2.1=true then some (UF (v.2.1,v.2.2.1,x2.2.1,x2.2.2.1,()))else cL (v.1,i64.wrap (v.2.1+1),v.2.2.1,x2.2.1,x2.2.2.1,())else none else some (UI (v.2.2.1,v.2.2.2.1,v.2.2.2.2.1,())) partial_fixpoint
noncomputable def mr(v:(List Item)×Int×ByteArray×Unit):Option (Int×(List Item)×Int×ByteArray×Unit):=cL ((↑v.1.length:Int),(0:Int),v.1,v.2.1,v.2.2.1,())>>=λx1=>match x1 with| .inl y1=>some y1| .inr y1=>some (((-1:Int),y1.1,y1.2.1,y1.2.2.1,()))
def kR:=kO s9 k0
def Am:Xc vw:=mX prog 19 kR.1 FM [] [] [(2,⟨rH,[.ret, .exit 0],cL⟩)]
theorem qP:dT Am (ai (af Tryz.f83) 0) ⟨rH,[.ret, .exit 0],cL⟩:=lp0 cL.partial_correctness kR.2
theorem vf:aq prog 83 Cx mr:=fn1 Am Tryz.func83 kR.2 qP
def rx:Cut SN:=⟨[(0, .vh 100000),(1, .fn 186 [] [100001,100002]),(4, .dat .bool)],[(100000, .vec 44 (.st .itemT)),(100001, .box none [.dat (.int .i64)]),(100002, .box none [.dat .str])]⟩
def Ck:ay vw:={rcut:=rx}
def yG:Sig vw:={params:=[.vh 100000, .fn 186 [] [100001,100002]],objs:=[(100000, .vec 44 (.st .itemT)),(100001, .box none [.dat (.int .i64)]),(100002, .box none [.dat .str])],rcut:=rx,rvars:=[.tmp 4],keep:=[100000,100001,100002]}
noncomputable def mY(v:(List Item)×Int×ByteArray×Unit):Option (Bool×(List Item)×Int×ByteArray×Unit):=mr (v.1,v.2.1,v.2.2.1,())>>=λx1=>if x1.2.1.length=v.1.length then some ((decide (x1.1>=0),x1.2.1,x1.2.2.1,x1.2.2.2.1,()))else none
def nz:=kO vf k0
def GE:Xc vw:=mX prog 9 nz.1 Ck [] [] []
theorem s6:aq prog 183 yG mY:=fn0 GE Tryz.func183 nz.2
def rq:Cut SN:=⟨[(0, .bp 100000 0),(6, .dat .bool)],[(100000, .box none [.vh 100001]),(100001, .vec 44 (.st .itemT))]⟩
def Cf:ay vw:={rcut:=rq}
def yB:Sig vw:={params:=[.bp 100000 0, .dat (.int .i64), .dat .str],objs:=[(100000, .box none [.vh 100001]),(100001, .vec 44 (.st .itemT))],rcut:=rq,rvars:=[.tmp 6],keep:=[100000,100001]}
noncomputable def dt(v:Int×ByteArray×(List Item)×Unit):Option (Bool×(List Item)×Unit):=mY (v.2.2.1,v.1,v.2.1,())>>=λx1=>if x1.2.1.length=v.2.2.1.length then some ((x1.1,x1.2.1,()))else none
def nw:=kO s6 k0
def GA:Xc vw:=mX prog 13 nw.1 Cf [] [] []
theorem d9:aq prog 159 yB dt:=fn0 GA Tryz.func159 nw.2
def Mr:Cut SN:=⟨[(0, .dat (.sl .str)),(1, .dat .str),(7, .dat (.int .i64)),(8, .dat (.int .i64))],[]⟩
def nX:Cut SN:=⟨[],[]⟩
def SP:ay vw:=shL [(0,nX)] nW
def QB:Sig vw:=sg [.dat (.sl .str), .dat .str] nW [.tmp 4]
noncomputable def mg(v:(List ByteArray)×ByteArray×Int×Int×Unit):Option (((Int×Unit)⊕(Unit))):=if decide (v.2.2.2.1<v.2.2.1)=true then if 0<=v.2.2.2.1 then v.1[v.2.2.2.1.toNat]?>>=λx1=>if(v.2.1.toList==x1.toList)=true then some (UF (v.2.2.2.1,()))else mg (v.1,v.2.1,v.2.2.1,i64.wrap (v.2.2.2.1+1),())else none else some (UI ()) partial_fixpoint
noncomputable def KF(v:(List ByteArray)×ByteArray×Unit):Option (Int×Unit):=mg (v.1,v.2.1,(↑v.1.length:Int),(0:Int),())>>=λx1=>match x1 with| .inl y1=>some y1| .inr y1=>some (((-1:Int),()))
def x44:Xc vw:=mX prog 19 c0 SP [] [] [(2,⟨Mr,[.ret, .exit 0],mg⟩)]
theorem Ev:dT x44 (ai (af Tryz.f44) 0) ⟨Mr,[.ret, .exit 0],mg⟩:=lp0 mg.partial_correctness bB
theorem xV:aq prog 44 QB KF:=fn1 x44 Tryz.func44 bB Ev
def Qg:ay vw:={rcut:=gl}
def NP:Sig vw:=sg [.dat (.sl .str), .dat .str] gl [.tmp 4]
noncomputable def Eo(v:(List ByteArray)×ByteArray×Unit):Option (Bool×Unit):=KF (v.1,v.2.1,())>>=λx1=>some ((decide (x1.1>=0),()))
def Di:=kP xV k0
def TP:Xc vw:=mX prog 9 Di.1 Qg [] [] []
theorem zy:aq prog 185 NP Eo:=fn0 TP Tryz.func185 Di.2
def kI:Cut SN:=⟨[(1, .bp 100000 0),(3, .dat .bool)],[(100000, .box none [.dat .str])]⟩
def Cm:ay vw:={rcut:=kI}
def yI:Sig vw:={params:=[.dat (.st .itemT), .bp 100000 0],objs:=[(100000, .box none [.dat .str])],rcut:=kI,rvars:=[.tmp 3],keep:=[100000]}
noncomputable def jL(v:Item×ByteArray×Unit):Option (Bool×ByteArray×Unit):=(if(v.1.kind==1)=true then Eo (v.1.names,v.2.1,())>>=λx1=>some ((x1.1,v.2.1,()))else some ((false,v.2.1,())))>>=λx1=>some ((x1.1,x1.2.1,()))
def nB:=kP zy k0
def GG:Xc vw:=mX prog 13 nB.1 Cm [] [(1,kI)] []
theorem s8:aq prog 184 yI jL:=fn0 GG Tryz.func184 nB.2
def rI:Cut SN:=⟨[(0, .vh 100000),(1, .fn 184 [] [100001]),(7, .dat (.int .i64)),(8, .dat (.int .i64))],[(100000, .vec 44 (.st .itemT)),(100001, .box none [.dat .str])]⟩
def AJ:Cut SN:=⟨[(0, .vh 100000),(1, .fn 184 [] [100001])],[(100000, .vec 44 (.st .itemT)),(100001, .box none [.dat .str])]⟩
def ut:Cut SN:=⟨[(0, .vh 100000),(1, .fn 184 [] [100001]),(4, .dat (.int .i64))],[(100000, .vec 44 (.st .itemT)),(100001, .box none [.dat .str])]⟩
def FN:ay vw:=shL [(0,AJ)] ut
def Cy:Sig vw:={params:=[.vh 100000, .fn 184 [] [100001]],objs:=[(100000, .vec 44 (.st .itemT)),(100001, .box none [.dat .str])],rcut:=ut,rvars:=[.tmp 4],keep:=[100000,100001]}
noncomputable def cM(v:Int×Int×(List Item)×ByteArray×Unit):Option (((Int×(List Item)×ByteArray×Unit)⊕((List Item)×ByteArray×Unit))):=if decide (v.2.1<v.1)=true then if 0<=v.2.1/\v.2.1<(↑v.2.2.1.length:Int)then v.2.2.1[v.2.1.toNat]?>>=λx1=>jL (x1,v.2.2.2.1,())>>=λx2=>if x2.1=true then some (UF (v.2.1,v.2.2.1,x2.2.1,()))else cM (v.1,i64.wrap (v.2.1+1),v.2.2.1,x2.2.1,())else none else some (UI (v.2.2.1,v.2.2.2.1,())) partial_fixpoint
noncomputable def mu(v:(List Item)×ByteArray×Unit):Option (Int×(List Item)×ByteArray×Unit):=cM ((↑v.1.length:Int),(0:Int),v.1,v.2.1,())>>=λx1=>match x1 with| .inl y1=>some y1| .inr y1=>some (((-1:Int),y1.1,y1.2.1,()))
def kS:=kO s8 k0
def An:Xc vw:=mX prog 19 kS.1 FN [] [] [(2,⟨rI,[.ret, .exit 0],cM⟩)]
theorem qQ:dT An (ai (af Tryz.f83) 0) ⟨rI,[.ret, .exit 0],cM⟩:=lp0 cM.partial_correctness kS.2
theorem vg:aq prog 83 Cy mu:=fn1 An Tryz.func83 kS.2 qQ
def ry:Cut SN:=⟨[(0, .vh 100000),(1, .fn 184 [] [100001]),(4, .dat .bool)],[(100000, .vec 44 (.st .itemT)),(100001, .box none [.dat .str])]⟩
def Cl:ay vw:={rcut:=ry}
def yH:Sig vw:={params:=[.vh 100000, .fn 184 [] [100001]],objs:=[(100000, .vec 44 (.st .itemT)),(100001, .box none [.dat .str])],rcut:=ry,rvars:=[.tmp 4],keep:=[100000,100001]}
noncomputable def jK(v:(List Item)×ByteArray×Unit):Option (Bool×(List Item)×ByteArray×Unit):=mu (v.1,v.2.1,())>>=λx1=>if x1.2.1.length=v.1.length then some ((decide (x1.1>=0),x1.2.1,x1.2.2.1,()))else none
def nA:=kO vg k0
def GF:Xc vw:=mX prog 9 nA.1 Cl [] [] []
theorem s7:aq prog 183 yH jK:=fn0 GF Tryz.func183 nA.2
def kG:Cut SN:=⟨[(0, .bp 100000 0),(4, .dat .bool)],[(100000, .box none [.vh 100001]),(100001, .vec 44 (.st .itemT))]⟩
def Ce:ay vw:={rcut:=kG}
def yA:Sig vw:={params:=[.bp 100000 0, .dat .str],objs:=[(100000, .box none [.vh 100001]),(100001, .vec 44 (.st .itemT))],rcut:=kG,rvars:=[.tmp 4],keep:=[100000,100001]}
noncomputable def gQ(v:ByteArray×(List Item)×Unit):Option (Bool×(List Item)×Unit):=(dt ((0:Int),v.1,v.2.1,())>>=λx1=>if x1.2.1.length=v.2.1.length then if x1.1=true then some ((true,x1.2.1,()))else jK (x1.2.1,v.1,())>>=λx2=>if x2.2.1.length=x1.2.1.length then some ((x2.1,x2.2.1,()))else none else none)>>=λx1=>some ((x1.1,x1.2.1,()))
def nv:=kO d9 (kO s7 k0)
def Gz:Xc vw:=mX prog 16 nv.1 Ce [] [(1,kG)] []
theorem l8:aq prog 158 yA gQ:=fn0 Gz Tryz.func158 nv.2
def oL:Cut SN:=⟨[(0, .bp 100000 0),(2, .bp 2 0),(3, .bp 3 0)],[(100000, .box none [.bp 100001 0, .dat (.sl .str), .dat .bool]),(2, .st .itemT),(3, .st .itemT),(100001, .box none [.vh 100002]),(100002, .vec 44 (.st .itemT))]⟩
def dN:Cut SN:=⟨[(0, .bp 100000 0),(2, .bp 2 0)],[(100000, .box none [.bp 100001 0, .dat (.sl .str), .dat .bool]),(100001, .box none [.vh 100002]),(100002, .vec 44 (.st .itemT)),(2, .st .itemT)]⟩
def BT:ay vw:={rcut:=dN}
def p8:Sig vw:={params:=[.bp 100000 0],objs:=[(100000, .box none [.bp 100001 0, .dat (.sl .str), .dat .bool]),(100001, .box none [.vh 100002]),(100002, .vec 44 (.st .itemT))],rcut:=dN,rvars:=[.cell 2 44],keep:=[100000,100001,100002]}
noncomputable def fi(v:(List ByteArray)×Bool×(List Item)×Unit):Option ((List ByteArray)×Bool×(List Item)×Item×Unit):=bv ([TZ #[35],TZ #[100,101,102,105,110,101]],v.1,v.2.1,v.2.2.1,())>>=λx1=>if x1.2.2.1.length=v.2.2.1.length then bU (x1.1,x1.2.1,x1.2.2.1,())>>=λx2=>if x2.2.2.2.1.length=x1.2.2.1.length then cU (TZ #[45],x2.2.1,x2.2.2.1,x2.2.2.2.1,())>>=λx3=>if x3.2.2.2.1.length=x2.2.2.2.1.length then gP (x3.2.1,x3.2.2.1,x3.2.2.2.1,())>>=λx4=>if x4.2.2.2.1.length=x3.2.2.2.1.length then(if x3.1=true then some ((x4.2.1,x4.2.2.1,Item.mk 0 (TZ #[]) (0:Int) [] (aa.mk 0 0 false []),Item.mk (Item.mk 0 x2.1 (0:Int) [] (aa.mk 0 0 false [])).kind (Item.mk 0 x2.1 (0:Int) [] (aa.mk 0 0 false [])).name0 (i64.wrap ((0:Int) -x4.1)) (Item.mk 0 x2.1 (0:Int) [] (aa.mk 0 0 false [])).names (aa.mk (Item.mk 0 x2.1 (0:Int) [] (aa.mk 0 0 false [])).layout.kind (Item.mk 0 x2.1 (0:Int) [] (aa.mk 0 0 false [])).layout.n (Item.mk 0 x2.1 (0:Int) [] (aa.mk 0 0 false [])).layout.flag (Item.mk 0 x2.1 (0:Int) [] (aa.mk 0 0 false [])).layout.parts),x4.2.2.2.1,()))else some ((x4.2.1,x4.2.2.1,Item.mk 0 (TZ #[]) (0:Int) [] (aa.mk 0 0 false []),Item.mk (Item.mk 0 x2.1 (0:Int) [] (aa.mk 0 0 false [])).kind (Item.mk 0 x2.1 (0:Int) [] (aa.mk 0 0 false [])).name0 x4.1 (Item.mk 0 x2.1 (0:Int) [] (aa.mk 0 0 false [])).names (aa.mk (Item.mk 0 x2.1 (0:Int) [] (aa.mk 0 0 false [])).layout.kind (Item.mk 0 x2.1 (0:Int) [] (aa.mk 0 0 false [])).layout.n (Item.mk 0 x2.1 (0:Int) [] (aa.mk 0 0 false [])).layout.flag (Item.mk 0 x2.1 (0:Int) [] (aa.mk 0 0 false [])).layout.parts),x4.2.2.2.1,())))>>=λx5=>(if x5.2.1=true then some ((x5.1,true,x5.2.2.1,x5.2.2.2.1,x5.2.2.2.2.1,()))else gQ (x5.2.2.2.1.name0,x5.2.2.2.2.1,())>>=λx6=>if x6.2.1.length=x5.2.2.2.2.1.length then some ((x5.1,x6.1,x5.2.2.1,x5.2.2.2.1,x6.2.1,()))else none)>>=λx6=>some ((x6.1,x6.2.1,x6.2.2.2.2.1,x6.2.2.2.1,()))else none else none else none else none
def nh:=kO fb (kO d8 (kO cG (kO lZ (kO l8 k0))))
def Gp:Xc vw:=mX prog 38 nh.1 BT [(7,oL,[.norm])] [(7,oL)] []
theorem sU:aq prog 122 p8 fi:=fn0 Gp Tryz.func122 nh.2
def I2:Cut SN:=⟨[(0, .dat (.sl .str)),(5, .dat (.sl .str)),(6, .dat (.int .i64)),(7, .dat (.int .i64))],[]⟩
def Qa:ay vw:=shL [(0,nX)] dG
def NI:Sig vw:=sg [.dat (.sl .str)] dG [.tmp 2]
noncomputable def im(v:(List ByteArray)×(List ByteArray)×Int×Int×Unit):Option (((Bool×Unit)⊕(Unit))):=if decide (v.2.2.2.1<v.2.2.1)=true then if 0<=v.2.2.2.1 then v.2.1[v.2.2.2.1.toNat]?>>=λx1=>if(0:Int)<=0/\0<=v.2.2.2.1/\v.2.2.2.1<=(↑v.1.length:Int)then Eo (WS v.2.2.2.1.toNat v.1,x1,())>>=λx2=>if x2.1=true then some (UF (false,()))else im (v.1,v.2.1,v.2.2.1,i64.wrap (v.2.2.2.1+1),())else none else none else some (UI ()) partial_fixpoint
noncomputable def xT(v:(List ByteArray)×Unit):Option (Bool×Unit):=im (v.1,v.1,(↑v.1.length:Int),(0:Int),())>>=λx1=>match x1 with| .inl y1=>some y1| .inr y1=>some ((true,()))
def xg:=kP zy k0
def R1:Xc vw:=mX prog 18 xg.1 Qa [] [] [(2,⟨I2,[.ret, .exit 0],im⟩)]
theorem Bp:dT R1 (ai (af Tryz.f160) 0) ⟨I2,[.ret, .exit 0],im⟩:=lp0 im.partial_correctness xg.2
theorem sZ:aq prog 160 NI xT:=fn1 R1 Tryz.func160 xg.2 Bp
def oO:Cut SN:=⟨[(0, .vh 100000),(1, .fn 158 [100001] []),(7, .dat (.int .i64)),(8, .dat (.int .i64))],[(100000, .vec 9 .str),(100001, .box none [.vh 100002]),(100002, .vec 44 (.st .itemT))]⟩
def wT:Cut SN:=⟨[(0, .vh 100000),(1, .fn 158 [100001] [])],[(100000, .vec 9 .str),(100001, .box none [.vh 100002]),(100002, .vec 44 (.st .itemT))]⟩
def rz:Cut SN:=⟨[(0, .vh 100000),(1, .fn 158 [100001] []),(4, .dat (.int .i64))],[(100000, .vec 9 .str),(100001, .box none [.vh 100002]),(100002, .vec 44 (.st .itemT))]⟩
def Co:ay vw:=shL [(0,wT)] rz
def yK:Sig vw:={params:=[.vh 100000, .fn 158 [100001] []],objs:=[(100000, .vec 9 .str),(100001, .box none [.vh 100002]),(100002, .vec 44 (.st .itemT))],rcut:=rz,rvars:=[.tmp 4],keep:=[100000,100001,100002]}
noncomputable def cd(v:Int×Int×(List ByteArray)×(List Item)×Unit):Option (((Int×(List ByteArray)×(List Item)×Unit)⊕((List ByteArray)×(List Item)×Unit))):=if decide (v.2.1<v.1)=true then if 0<=v.2.1/\v.2.1<(↑v.2.2.1.length:Int)then v.2.2.1[v.2.1.toNat]?>>=λx1=>gQ (x1,v.2.2.2.1,())>>=λx2=>if x2.2.1.length=v.2.2.2.1.length then if x2.1=true then some (UF (v.2.1,v.2.2.1,x2.2.1,()))else cd (v.1,i64.wrap (v.2.1+1),v.2.2.1,x2.2.1,())else none else none else some (UI (v.2.2.1,v.2.2.2.1,())) partial_fixpoint
noncomputable def jN(v:(List ByteArray)×(List Item)×Unit):Option (Int×(List ByteArray)×(List Item)×Unit):=cd ((↑v.1.length:Int),(0:Int),v.1,v.2.1,())>>=λx1=>match x1 with| .inl y1=>some y1| .inr y1=>some (((-1:Int),y1.1,y1.2.1,()))
def i7:=kO l8 k0
def wj:Xc vw:=mX prog 19 i7.1 Co [] [] [(2,⟨oO,[.ret, .exit 0],cd⟩)]
theorem pG:dT wj (ai (af Tryz.f187) 0) ⟨oO,[.ret, .exit 0],cd⟩:=lp0 cd.partial_correctness i7.2
theorem s_:aq prog 187 yK jN:=fn1 wj Tryz.func187 i7.2 pG
def ru:Cut SN:=⟨[(0, .vh 100000),(1, .fn 158 [100001] []),(4, .dat .bool)],[(100000, .vec 9 .str),(100001, .box none [.vh 100002]),(100002, .vec 44 (.st .itemT))]⟩
def Cg:ay vw:={rcut:=ru}
def yC:Sig vw:={params:=[.vh 100000, .fn 158 [100001] []],objs:=[(100000, .vec 9 .str),(100001, .box none [.vh 100002]),(100002, .vec 44 (.st .itemT))],rcut:=ru,rvars:=[.tmp 4],keep:=[100000,100001,100002]}
noncomputable def jJ(v:(List ByteArray)×(List Item)×Unit):Option (Bool×(List ByteArray)×(List Item)×Unit):=jN (v.1,v.2.1,())>>=λx1=>if x1.2.1.length=v.1.length then if x1.2.2.1.length=v.2.1.length then some ((decide (x1.1>=0),x1.2.1,x1.2.2.1,()))else none else none
def nx:=kO s_ k0
def GB:Xc vw:=mX prog 9 nx.1 Cg [] [] []
theorem s5:aq prog 161 yC jJ:=fn0 GB Tryz.func161 nx.2
def ci:Cut SN:=⟨[(0, .bp 100000 0),(2, .bp 2 0),(3, .bp 3 0)],[(100000, .box none [.bp 100001 0, .dat (.sl .str), .dat .bool]),(2, .st .itemT),(3, .box none [.dat (.int .i64), .dat .str, .dat (.int .i64), .vh 3033, .dat (.int .i64), .dat (.int .i64), .dat .bool, .vh 3037]),(100001, .box none [.vh 100002]),(3033, .vec 9 .str),(3037, .vec 42 (.st .layoutT)),(100002, .vec 44 (.st .itemT))]⟩
def BU:ay vw:=shL [(0,ci)] dN
def p9:Sig vw:={params:=[.bp 100000 0],objs:=[(100000, .box none [.bp 100001 0, .dat (.sl .str), .dat .bool]),(100001, .box none [.vh 100002]),(100002, .vec 44 (.st .itemT))],rcut:=dN,rvars:=[.cell 2 44],keep:=[100000,100001,100002]}
noncomputable def bZ(v:(List ByteArray)×Bool×Item×Int×ByteArray×Int×Int×Int×Bool×(List ByteArray)×(List aa)×(List Item)×Unit):Option (((List ByteArray)×Bool×Item×Int×ByteArray×Int×Int×Int×Bool×(List ByteArray)×(List aa)×(List Item)×Unit)):=bU (v.1,v.2.1,v.2.2.2.2.2.2.2.2.2.2.2.1,())>>=λx1=>if x1.2.2.2.1.length=v.2.2.2.2.2.2.2.2.2.2.2.1.length then if v.2.2.2.2.2.2.2.2.2.1.length+[x1.1].length<=4294967296 then cU (TZ #[44],x1.2.1,x1.2.2.1,x1.2.2.2.1,())>>=λx2=>if x2.2.2.2.1.length=x1.2.2.2.1.length then if(!x2.1)=true then some ((x2.2.1,x2.2.2.1,v.2.2.1,v.2.2.2.1,v.2.2.2.2.1,v.2.2.2.2.2.1,v.2.2.2.2.2.2.1,v.2.2.2.2.2.2.2.1,v.2.2.2.2.2.2.2.2.1,v.2.2.2.2.2.2.2.2.2.1++[x1.1],v.2.2.2.2.2.2.2.2.2.2.1,x2.2.2.2.1,()))else bZ (x2.2.1,x2.2.2.1,v.2.2.1,v.2.2.2.1,v.2.2.2.2.1,v.2.2.2.2.2.1,v.2.2.2.2.2.2.1,v.2.2.2.2.2.2.2.1,v.2.2.2.2.2.2.2.2.1,v.2.2.2.2.2.2.2.2.2.1++[x1.1],v.2.2.2.2.2.2.2.2.2.2.1,x2.2.2.2.1,())else none else none else none partial_fixpoint
noncomputable def fj(v:(List ByteArray)×Bool×(List Item)×Unit):Option ((List ByteArray)×Bool×(List Item)×Item×Unit):=bv ([TZ #[101,110,117,109]],v.1,v.2.1,v.2.2.1,())>>=λx1=>if x1.2.2.1.length=v.2.2.1.length then(bU (x1.1,x1.2.1,x1.2.2.1,())>>=λx2=>if x2.2.2.2.1.length=x1.2.2.1.length then some ((x2.2.1,x2.2.2.1,Item.mk 0 (TZ #[]) (0:Int) [] (aa.mk 0 0 false []),(1:Int),x2.1,(0:Int),(0:Int),(0:Int),false,[],[],x2.2.2.2.1,()))else none)>>=λx2=>bv ([TZ #[123]],x2.1,x2.2.1,x2.2.2.2.2.2.2.2.2.2.2.2.1,())>>=λx3=>if x3.2.2.1.length=x2.2.2.2.2.2.2.2.2.2.2.2.1.length then bZ (x3.1,x3.2.1,x2.2.2.1,x2.2.2.2.1,x2.2.2.2.2.1,x2.2.2.2.2.2.1,x2.2.2.2.2.2.2.1,x2.2.2.2.2.2.2.2.1,x2.2.2.2.2.2.2.2.2.1,x2.2.2.2.2.2.2.2.2.2.1,x2.2.2.2.2.2.2.2.2.2.2.1,x3.2.2.1,())>>=λx4=>bv ([TZ #[125],TZ #[59]],x4.1,x4.2.1,x4.2.2.2.2.2.2.2.2.2.2.2.1,())>>=λx5=>if x5.2.2.1.length=x4.2.2.2.2.2.2.2.2.2.2.2.1.length then(if x5.2.1=true then some ((x5.1,true,x4.2.2.1,x4.2.2.2.1,x4.2.2.2.2.1,x4.2.2.2.2.2.1,x4.2.2.2.2.2.2.1,x4.2.2.2.2.2.2.2.1,x4.2.2.2.2.2.2.2.2.1,x4.2.2.2.2.2.2.2.2.2.1,x4.2.2.2.2.2.2.2.2.2.2.1,x5.2.2.1,()))else dt ((1:Int),x4.2.2.2.2.1,x5.2.2.1,())>>=λx6=>if x6.2.1.length=x5.2.2.1.length then if x6.1=true then some ((x5.1,true,x4.2.2.1,x4.2.2.2.1,x4.2.2.2.2.1,x4.2.2.2.2.2.1,x4.2.2.2.2.2.2.1,x4.2.2.2.2.2.2.2.1,x4.2.2.2.2.2.2.2.2.1,x4.2.2.2.2.2.2.2.2.2.1,x4.2.2.2.2.2.2.2.2.2.2.1,x6.2.1,()))else xT (x4.2.2.2.2.2.2.2.2.2.1,())>>=λx7=>if(!x7.1)=true then some ((x5.1,true,x4.2.2.1,x4.2.2.2.1,x4.2.2.2.2.1,x4.2.2.2.2.2.1,x4.2.2.2.2.2.2.1,x4.2.2.2.2.2.2.2.1,x4.2.2.2.2.2.2.2.2.1,x4.2.2.2.2.2.2.2.2.2.1,x4.2.2.2.2.2.2.2.2.2.2.1,x6.2.1,()))else jJ (x4.2.2.2.2.2.2.2.2.2.1,x6.2.1,())>>=λx8=>if x8.2.1.length=x4.2.2.2.2.2.2.2.2.2.1.length then if x8.2.2.1.length=x6.2.1.length then some ((x5.1,x8.1,x4.2.2.1,x4.2.2.2.1,x4.2.2.2.2.1,x4.2.2.2.2.2.1,x4.2.2.2.2.2.2.1,x4.2.2.2.2.2.2.2.1,x4.2.2.2.2.2.2.2.2.1,x8.2.1,x4.2.2.2.2.2.2.2.2.2.2.1,x8.2.2.1,()))else none else none else none)>>=λx6=>some ((x6.1,x6.2.1,x6.2.2.2.2.2.2.2.2.2.2.2.1,Item.mk x6.2.2.2.1 x6.2.2.2.2.1 x6.2.2.2.2.2.1 x6.2.2.2.2.2.2.2.2.2.1 (aa.mk x6.2.2.2.2.2.2.1 x6.2.2.2.2.2.2.2.1 x6.2.2.2.2.2.2.2.2.1 x6.2.2.2.2.2.2.2.2.2.2.1),()))else none else none else none
def iV:=kO fb (kO d8 (kO cG (kO d9 (kP sZ (kO s5 k0)))))
def wa:Xc vw:={P:=prog,n:=59,nm:=λd=>match d with|9=>40009|_=>d,call:=iV.1,pre:=j9,sh:=BU,regs:=λk=>match k with|2=>some ci|7=>some ci|_=>none,loops:=λk=>match k with|4=>some {cut:=ci,alts:=[.exit 0],F:=bZ}|_=>none}
theorem py:dT wa (ai (af Tryz.f123) 0) ⟨ci,[.exit 0],bZ⟩:=lp0 bZ.partial_correctness iV.2
theorem sV:aq prog 123 p9 fj:=fn1 wa Tryz.func123 iV.2 py
def ui:Cut SN:=⟨[(1, .bp 1 0),(2, .bp 2 0),(3, .vh 1003),(7, .dat (.sl (.st .layoutT))),(8, .dat (.int .i64)),(9, .dat (.int .i64))],[(1, .st .layoutT),(2, .st .layoutT),(1003, .vec 42 (.st .layoutT))]⟩
def Mi:Cut SN:=⟨[(1, .bp 1 0),(2, .bp 2 0),(3, .vh 1003)],[(1, .st .layoutT),(2, .st .layoutT),(1003, .vec 42 (.st .layoutT))]⟩
def Mj:Cut SN:=⟨[(2, .bp 2 0)],[(2, .st .layoutT)]⟩
def Li:ay vw:=shL [(0,Mi)] Mj
def iJ:Sig vw:=sg [.dat (.st .layoutT)] Mj [.cell 2 42]
mutual
noncomputable def eQ(v:(List aa)×Int×Int×aa×aa×(List aa)×Unit):Option ((aa×aa×(List aa)×Unit)):=if decide (v.2.2.1<v.2.1)=true then if 0<=v.2.2.1 then v.1[v.2.2.1.toNat]?>>=λx1=>n_196 (x1,())>>=λx2=>if v.2.2.2.2.2.1.length+[x2.1].length<=4294967296 then eQ (v.1,v.2.1,i64.wrap (v.2.2.1+1),v.2.2.2.1,v.2.2.2.2.1,v.2.2.2.2.2.1++[x2.1],())else none else none else some ((v.2.2.2.1,v.2.2.2.2.1,v.2.2.2.2.2.1,())) partial_fixpoint
noncomputable def n_196(v:aa×Unit):Option (aa×Unit):=eQ (v.1.parts,(↑v.1.parts.length:Int),(0:Int),v.1,aa.mk 0 0 false [],[],())>>=λx1=>some ((aa.mk x1.1.kind x1.1.n x1.1.flag x1.2.2.1,())) partial_fixpoint
end
def xh(eQ:(List aa)×Int×Int×aa×aa×(List aa)×Unit->Option ((aa×aa×(List aa)×Unit)))(n_196:aa×Unit->Option (aa×Unit)):bx vw:=λA fid args S k=>match fid with|196=>aO prog iJ n_196 A args S k|_=>none
def Af(eQ:(List aa)×Int×Int×aa×aa×(List aa)×Unit->Option ((aa×aa×(List aa)×Unit)))(n_196:aa×Unit->Option (aa×Unit)):Xc vw:={P:=prog,n:=22,call:=xh eQ n_196,pre:=j9,sh:=Li,loops:=λk=>match k with|3=>some {cut:=ui,alts:=[.exit 0],F:=eQ}|_=>none}
abbrev h_(v:(List aa)×Int×Int×aa×aa×(List aa)×Unit)(r:(aa×aa×(List aa)×Unit)):Prop:=(λv out=>∀C:Ctx,C.P=prog->C.N=22/\Fx C j9->nU C (ai (af Tryz.f196) 0) (Go.Tx.aG vw (bP vw ui v)) (tP Li [.exit 0] out)) v r
abbrev u3(v:aa×Unit)(r:aa×Unit):Prop:=(λv r=>∀x,pW prog iJ r=some x->iA prog 196 (encL vw (az iJ v).len (aU iJ v).1) (bo (az iJ v).len (az iJ v).own) (am vw (bP vw iJ.rcut r).len x) (bo (bP vw iJ.rcut r).len (jb iJ r))) v r
theorem GZ(f0:(List aa)×Int×Int×aa×aa×(List aa)×Unit->Option ((aa×aa×(List aa)×Unit)))(f1:aa×Unit->Option (aa×Unit))(h0:∀v r,f0 v=some r->h_ v r)(h1:∀v r,f1 v=some r->u3 v r):ax prog (Af f0 f1).call:=(by
 intro A fid args S dst k r h
 unfold Af xh at h
 simp only at h
 split at h
 ·exact aj ((λv r x h hx=>h1 v r h x hx)) rfl rfl h
 ·cases h)
theorem Ih(f0:(List aa)×Int×Int×aa×aa×(List aa)×Unit->Option ((aa×aa×(List aa)×Unit)))(f1:aa×Unit->Option (aa×Unit))(h0:∀v r,f0 v=some r->h_ v r)(h1:∀v r,f1 v=some r->u3 v r)(v:(List aa)×Int×Int×aa×aa×(List aa)×Unit)(r:(aa×aa×(List aa)×Unit))(h:exL (Af f0 f1) (ai (af Tryz.f196) 0) ui [.exit 0] f0 v=some r):h_ v r:=λC hP hN=>cQ (X:=Af f0 f1) (b:=(ai (af Tryz.f196) 0)) hP hN Ty.mixed (GZ f0 f1 h0 h1) (bc (X:=Af f0 f1) (c:=(ai (af Tryz.f196) 0)) (bj (by kernel_rfl:True=fx (bg C (Af f0 f1)) (aJ (ai (af Tryz.f196) 0))) trivial)) (cut:=ui) (alts:=[.exit 0]) (F:=f0) (λv out h=>h0 v out h C hP hN) h
theorem MF(f0:(List aa)×Int×Int×aa×aa×(List aa)×Unit->Option ((aa×aa×(List aa)×Unit)))(h0:∀v r,f0 v=some r->h_ v r):ax prog (Af f0 (λ_=>none)).call:=(by
 intro A fid args S dst k r h
 unfold Af xh at h
 simp only at h
 split at h
 ·exact aj ((λv r x h hx=>by cases h)) rfl rfl h
 ·cases h)
theorem N1(f0:(List aa)×Int×Int×aa×aa×(List aa)×Unit->Option ((aa×aa×(List aa)×Unit)))(h0:∀v r,f0 v=some r->h_ v r)(v:aa×Unit)(r:aa×Unit)(h:exF (Af f0 (λ_=>none)) iJ rfl (af Tryz.f196) v=some r):u3 v r:=λx hx=>lI (X:=Af f0 (λ_=>none)) (sig:=iJ) rfl Tryz.func196 (c:=af Tryz.f196) (by kernel_rfl) Tryz.ntmps196 (by kernel_rfl) (by kernel_rfl) rfl Ty.mixed (MF f0 h0) rfl (λC hP hN=>(bc (X:=Af f0 (λ_=>none)) (c:=(af Tryz.f196)) (bj (by kernel_rfl:fx (bg C (Af f0 (λ_=>none))) [(ai (af Tryz.f196) 0)]=fx (bg C (Af f0 (λ_=>none))) (aJ (af Tryz.f196))) ⟨dJ (X:=Af f0 (λ_=>none)) (b:=(ai (af Tryz.f196) 0)) (by kernel_rfl) (show dx C (ai (af Tryz.f196) 0) (sh:=Li) {cut:=ui,alts:=[.exit 0],F:=f0}fromλv out h=>h0 v out h C hP hN),trivial⟩))) h x hx
theorem xU:(∀v r,eQ v=some r->h_ v r)/\(∀v r,n_196 v=some r->u3 v r):=by
 refine eQ.mutual_partial_correctness
  (motive_1:=h_)
  (motive_2:=u3)
  ?_ ?_
 ·exact(λf0 f1 h0 h1 v r h=>Ih f0 f1 h0 h1 v r (bj (by kernel_rfl) h))
 ·exact(λf0 h0 v r h=>N1 f0 h0 v r (bj (by kernel_rfl) h))
theorem HM:aq prog 196 iJ n_196:=λv r x h hx=>xU.2 v r h x hx
def FO:ay vw:={rcut:=ee}
def Cz:Sig vw:={params:=[.dat (.st .itemT), .bp 100000 0, .bp 100001 0],objs:=[(100000, .box none [.dat (.int .i64)]),(100001, .box none [.dat .str])],rcut:=ee,rvars:=[.tmp 4],keep:=[100000,100001]}
noncomputable def jk(v:Item×Int×ByteArray×Unit):Option (Bool×Int×ByteArray×Unit):=(if(v.1.kind==v.2.1)=true then some ((v.1.name0.toList==v.2.2.1.toList,v.2.1,v.2.2.1,()))else some ((false,v.2.1,v.2.2.1,())))>>=λx1=>some ((x1.1,x1.2.1,x1.2.2.1,()))
def IH:Xc vw:=mX prog 15 c0 FO [] [(1,ee)] []
theorem nI:aq prog 84 Cz jk:=fn0 IH Tryz.func84 bB
def rG:Cut SN:=⟨[(0, .vh 100000),(1, .fn 84 [] [100001,100002]),(7, .dat (.int .i64)),(8, .dat (.int .i64))],[(100000, .vec 44 (.st .itemT)),(100001, .box none [.dat (.int .i64)]),(100002, .box none [.dat .str])]⟩
def AG:Cut SN:=⟨[(0, .vh 100000),(1, .fn 84 [] [100001,100002])],[(100000, .vec 44 (.st .itemT)),(100001, .box none [.dat (.int .i64)]),(100002, .box none [.dat .str])]⟩
def uq:Cut SN:=⟨[(0, .vh 100000),(1, .fn 84 [] [100001,100002]),(4, .dat (.int .i64))],[(100000, .vec 44 (.st .itemT)),(100001, .box none [.dat (.int .i64)]),(100002, .box none [.dat .str])]⟩
def FL:ay vw:=shL [(0,AG)] uq
def Cw:Sig vw:={params:=[.vh 100000, .fn 84 [] [100001,100002]],objs:=[(100000, .vec 44 (.st .itemT)),(100001, .box none [.dat (.int .i64)]),(100002, .box none [.dat .str])],rcut:=uq,rvars:=[.tmp 4],keep:=[100000,100001,100002]}
noncomputable def cK(v:Int×Int×(List Item)×Int×ByteArray×Unit):Option (((Int×(List Item)×Int×ByteArray×Unit)⊕((List Item)×Int×ByteArray×Unit))):=if decide (v.2.1<v.1)=true then if 0<=v.2.1/\v.2.1<(↑v.2.2.1.length:Int)then v.2.2.1[v.2.1.toNat]?>>=λx1=>jk (x1,v.2.2.2.1,v.2.2.2.2.1,())>>=λx2=>if x2.1=true then some (UF (v.2.1,v.2.2.1,x2.2.1,x2.2.2.1,()))else cK (v.1,i64.wrap (v.2.1+1),v.2.2.1,x2.2.1,x2.2.2.1,())else none else some (UI (v.2.2.1,v.2.2.2.1,v.2.2.2.2.1,())) partial_fixpoint
noncomputable def mq(v:(List Item)×Int×ByteArray×Unit):Option (Int×(List Item)×Int×ByteArray×Unit):=cK ((↑v.1.length:Int),(0:Int),v.1,v.2.1,v.2.2.1,())>>=λx1=>match x1 with| .inl y1=>some y1| .inr y1=>some (((-1:Int),y1.1,y1.2.1,y1.2.2.1,()))
def kQ:=kO nI k0
def Al:Xc vw:=mX prog 19 kQ.1 FL [] [] [(2,⟨rG,[.ret, .exit 0],cK⟩)]
theorem qO:dT Al (ai (af Tryz.f83) 0) ⟨rG,[.ret, .exit 0],cK⟩:=lp0 cK.partial_correctness kQ.2
theorem ve:aq prog 83 Cw mq:=fn1 Al Tryz.func83 kQ.2 qO
def lD:Cut SN:=⟨[(0, .vh 100000),(6, .bp 6 0),(7, .dat .bool)],[(100000, .vec 44 (.st .itemT)),(6, .st .itemT)]⟩
def FF:ay vw:={rcut:=lD}
def Cr:Sig vw:={params:=[.vh 100000, .dat (.int .i64), .dat .str],objs:=[(100000, .vec 44 (.st .itemT))],rcut:=lD,rvars:=[.cell 6 44, .tmp 7],keep:=[100000]}
noncomputable def mh(v:Int×ByteArray×(List Item)×Unit):Option (Bool×(List Item)×Item×Unit):=mq (v.2.2.1,v.1,v.2.1,())>>=λx1=>if x1.2.1.length=v.2.2.1.length then if decide (x1.1<0)=true then some ((false,x1.2.1,Item.mk 0 (TZ #[]) (0:Int) [] (aa.mk 0 0 false []),()))else if 0<=x1.1/\x1.1<(↑x1.2.1.length:Int)then x1.2.1[x1.1.toNat]?>>=λx2=>some ((true,x1.2.1,x2,()))else none else none
def oR:=kO ve k0
def IG:Xc vw:=mX prog 19 oR.1 FF [] [] []
theorem u6:aq prog 47 Cr mh:=fn0 IG Tryz.func47 oR.2
def wU:Cut SN:=⟨[(0, .bp 100000 0),(2, .bp 2 0),(3, .dat .bool),(4, .dat .str),(12, .dat .bool)],[(100000, .box none [.bp 100001 0, .dat (.sl .str), .dat .bool]),(2, .st .layoutT),(100001, .box none [.vh 100002]),(100002, .vec 44 (.st .itemT))]⟩
def wV:Cut SN:=⟨[(0, .bp 100000 0),(2, .bp 2 0),(4, .dat .str)],[(100000, .box none [.bp 100001 0, .dat (.sl .str), .dat .bool]),(2, .st .layoutT),(100001, .box none [.vh 100002]),(100002, .vec 44 (.st .itemT))]⟩
def uf:Cut SN:=⟨[(0, .bp 100000 0),(2, .bp 2 0),(5, .bp 5 0),(6, .dat .bool)],[(100000, .box none [.bp 100001 0, .dat (.sl .str), .dat .bool]),(2, .st .layoutT),(5, .st .itemT),(100001, .box none [.vh 100002]),(100002, .vec 44 (.st .itemT))]⟩
def ug:Cut SN:=⟨[(0, .bp 100000 0),(2, .bp 2 0),(5, .bp 5 0)],[(100000, .box none [.bp 100001 0, .dat (.sl .str), .dat .bool]),(2, .st .layoutT),(5, .st .itemT),(100001, .box none [.vh 100002]),(100002, .vec 44 (.st .itemT))]⟩
def uh:Cut SN:=⟨[(0, .bp 100000 0),(2, .bp 2 0)],[(100000, .box none [.bp 100001 0, .dat (.sl .str), .dat .bool]),(2, .st .layoutT),(100001, .box none [.vh 100002]),(100002, .vec 44 (.st .itemT))]⟩
def rA:Cut SN:=⟨[(0, .bp 100000 0),(2, .bp 2 0)],[(100000, .box none [.bp 100001 0, .dat (.sl .str), .dat .bool]),(100001, .box none [.vh 100002]),(100002, .vec 44 (.st .itemT)),(2, .st .layoutT)]⟩
def Cp:ay vw:={rcut:=rA}
def yL:Sig vw:={params:=[.bp 100000 0],objs:=[(100000, .box none [.bp 100001 0, .dat (.sl .str), .dat .bool]),(100001, .box none [.vh 100002]),(100002, .vec 44 (.st .itemT))],rcut:=rA,rvars:=[.cell 2 42],keep:=[100000,100001,100002]}
noncomputable def gR(v:(List ByteArray)×Bool×(List Item)×Unit):Option ((List ByteArray)×Bool×(List Item)×aa×Unit):=cU (TZ #[117,110,115,105,103,110,101,100],v.1,v.2.1,v.2.2.1,())>>=λx1=>if x1.2.2.2.1.length=v.2.2.1.length then en (x1.2.1,x1.2.2.1,x1.2.2.2.1,())>>=λx2=>if x2.2.2.2.1.length=x1.2.2.2.1.length then(if(x2.1.toList==(TZ #[99,104,97,114]).toList)=true then some ((x1.1,x2.1,true,x2.2.1,x2.2.2.1,aa.mk 0 0 false [],x2.2.2.2.1,()))else if(x2.1.toList==(TZ #[115,104,111,114,116]).toList)=true then some ((x1.1,x2.1,true,x2.2.1,x2.2.2.1,aa.mk 0 0 false [],x2.2.2.2.1,()))else some ((x1.1,x2.1,x2.1.toList==(TZ #[105,110,116]).toList,x2.2.1,x2.2.2.1,aa.mk 0 0 false [],x2.2.2.2.1,())))>>=λx3=>if x3.2.2.1=true then some ((x3.2.2.2.1,x3.2.2.2.2.1,x3.2.2.2.2.2.2.1,aa.mk 2 ((Mp.get Mp.seq x3.2.1 (Mp.set Mp.seq Mp.slt (TZ #[105,110,116]) (32:Int) (Mp.set Mp.seq Mp.slt (TZ #[115,104,111,114,116]) (16:Int) (Mp.set Mp.seq Mp.slt (TZ #[99,104,97,114]) (8:Int) [])))).getD (0:Int)) (!x3.1) [],()))else(if x3.2.2.2.2.1=true then some ((x3.2.1,x3.2.2.2.1,true,x3.2.2.2.2.2.1,x3.2.2.2.2.2.2.1,()))else some ((x3.2.1,x3.2.2.2.1,x3.1,x3.2.2.2.2.2.1,x3.2.2.2.2.2.2.1,())))>>=λx4=>if(x4.1.toList==(TZ #[108,111,110,103]).toList)=true then some ((x4.2.1,x4.2.2.1,x4.2.2.2.2.1,aa.mk 3 0 false [],()))else if(x4.1.toList==(TZ #[118,111,105,100]).toList)=true then some ((x4.2.1,x4.2.2.1,x4.2.2.2.2.1,aa.mk 0 0 false [],()))else if(x4.1.toList==(TZ #[115,116,114,117,99,116]).toList)=true then(J8 8 (bU (x4.2.1,x4.2.2.1,x4.2.2.2.2.1,())>>=λx5=>if x5.2.2.2.1.length=x4.2.2.2.2.1.length then mh ((2:Int),x5.1,x5.2.2.2.1,())>>=λx6=>if x6.2.1.length=x5.2.2.2.1.length then some ((x6.1,x5.2.1,x5.2.2.1,x4.2.2.2.1,x6.2.2.1,x6.2.1,()))else none else none))>>=λx5=>(if x5.2.2.1=true then some ((x5.2.1,true,x5.2.2.2.1,x5.2.2.2.2.1,x5.2.2.2.2.2.1,()))else some ((x5.2.1,!x5.1,x5.2.2.2.1,x5.2.2.2.2.1,x5.2.2.2.2.2.1,())))>>=λx6=>n_196 (aa.mk x6.2.2.2.1.layout.kind x6.2.2.2.1.layout.n x6.2.2.2.1.layout.flag x6.2.2.2.1.layout.parts,())>>=λx7=>some ((x6.1,x6.2.1,x6.2.2.2.2.1,x7.1,()))else if(x4.1.toList==(TZ #[101,110,117,109]).toList)=true then(J8 2 (bU (x4.2.1,x4.2.2.1,x4.2.2.2.2.1,())>>=λx5=>if x5.2.2.2.1.length=x4.2.2.2.2.1.length then dt ((1:Int),x5.1,x5.2.2.2.1,())>>=λx6=>if x6.2.1.length=x5.2.2.2.1.length then if(!x6.1)=true then some ((x5.2.1,true,x4.2.2.2.1,x6.2.1,()))else some ((x5.2.1,x5.2.2.1,x4.2.2.2.1,x6.2.1,()))else none else none))>>=λx5=>some ((x5.1,x5.2.1,x5.2.2.2.1,aa.mk 2 32 true [],()))else some ((x4.2.1,true,x4.2.2.2.2.1,aa.mk 0 0 false [],()))else none else none
def nC:=kO u6 (kO d8 (kO cG (kO d9 (kO fc (kP HM k0)))))
def GI:Xc vw:={P:=prog,n:=93,call:=nC.1,pre:=j9,sh:=Cp,joins:=λk=>match k with|7=>some (wU,[.norm])|_=>none,regs:=λk=>match k with|8=>some wV|15=>some uf|16=>some ug|19=>some uh|_=>none,pair:=λk=>match k with|15=>(.node 6 7 .leaf (.node 7 8 .leaf (.node 5 6 .leaf (.node 4 5 .leaf (.node 3 4 .leaf (.node 6 7 .leaf (.node 5 6 .leaf (.node 4 5 .leaf .leaf))))))))|19=>(.node 4 5 .leaf (.node 5 6 .leaf .leaf))|_=> .leaf}
theorem tc:aq prog 188 yL gR:=fn0 GI Tryz.func188 nC.2
def kH:Cut SN:=⟨[(0, .bp 100000 0),(1, .dat .bool),(4, .bp 4 0),(5, .bp 5 0)],[(100000, .box none [.bp 100001 0, .dat (.sl .str), .dat .bool]),(4, .st .layoutT),(5, .st .layoutT),(100001, .box none [.vh 100002]),(100002, .vec 44 (.st .itemT))]⟩
def wS:Cut SN:=⟨[(0, .bp 100000 0),(4, .bp 4 0),(5, .bp 5 0)],[(100000, .box none [.bp 100001 0, .dat (.sl .str), .dat .bool]),(4, .st .layoutT),(5, .st .layoutT),(100001, .box none [.vh 100002]),(100002, .vec 44 (.st .itemT))]⟩
def rv:Cut SN:=⟨[(0, .bp 100000 0),(4, .bp 4 0)],[(100000, .box none [.bp 100001 0, .dat (.sl .str), .dat .bool]),(100001, .box none [.vh 100002]),(100002, .vec 44 (.st .itemT)),(4, .st .layoutT)]⟩
def Ci:ay vw:=shL [(0,kH)] rv
def yE:Sig vw:={params:=[.bp 100000 0, .dat .bool],objs:=[(100000, .box none [.bp 100001 0, .dat (.sl .str), .dat .bool]),(100001, .box none [.vh 100002]),(100002, .vec 44 (.st .itemT))],rcut:=rv,rvars:=[.cell 4 42],keep:=[100000,100001,100002]}
noncomputable def cA(v:Bool×(List ByteArray)×Bool×aa×aa×(List Item)×Unit):Option ((Bool×(List ByteArray)×Bool×aa×aa×(List Item)×Unit)):=cU (TZ #[42],v.2.1,v.2.2.1,v.2.2.2.2.2.1,())>>=λx1=>if x1.2.2.2.1.length=v.2.2.2.2.2.1.length then if x1.1=true then cA (v.1,x1.2.1,x1.2.2.1,v.2.2.2.1,aa.mk 3 0 false [],x1.2.2.2.1,())else some ((v.1,x1.2.1,x1.2.2.1,v.2.2.2.1,v.2.2.2.2.1,x1.2.2.2.1,()))else none partial_fixpoint
noncomputable def fu(v:Bool×(List ByteArray)×Bool×(List Item)×Unit):Option ((List ByteArray)×Bool×(List Item)×aa×Unit):=gR (v.2.1,v.2.2.1,v.2.2.2.1,())>>=λx1=>if x1.2.2.1.length=v.2.2.2.1.length then cA (v.1,x1.1,x1.2.1,aa.mk 0 0 false [],x1.2.2.2.1,x1.2.2.1,())>>=λx2=>(if x2.2.2.1=true then some ((x2.2.1,true,x2.2.2.2.1,x2.2.2.2.2.1,x2.2.2.2.2.2.1,()))else if(x2.2.2.2.2.1.kind==0)=true then some ((x2.2.1,!x2.1,x2.2.2.2.1,x2.2.2.2.2.1,x2.2.2.2.2.2.1,()))else some ((x2.2.1,false,x2.2.2.2.1,x2.2.2.2.2.1,x2.2.2.2.2.2.1,())))>>=λx3=>some ((x3.1,x3.2.1,x3.2.2.2.2.1,x3.2.2.2.1,()))else none
def i6:=kO cG (kO tc k0)
def wi:Xc vw:=mX prog 28 i6.1 Ci [] [(4,wS)] [(2,⟨kH,[.exit 0],cA⟩)]
theorem pF:dT wi (ai (af Tryz.f163) 0) ⟨kH,[.exit 0],cA⟩:=lp0 cA.partial_correctness i6.2
theorem l9:aq prog 163 yE fu:=fn1 wi Tryz.func163 i6.2 pF
def t8:Cut SN:=⟨[(0, .bp 100000 0),(2, .bp 2 0),(3, .bp 3 0),(4, .bp 4 0)],[(100000, .box none [.bp 100001 0, .dat (.sl .str), .dat .bool]),(2, .st .itemT),(3, .box none [.dat (.int .i64), .dat .str, .dat (.int .i64), .vh 3033, .dat (.int .i64), .dat (.int .i64), .dat .bool, .vh 3037]),(4, .st .layoutT),(100001, .box none [.vh 100002]),(3033, .vec 9 .str),(3037, .vec 42 (.st .layoutT)),(100002, .vec 44 (.st .itemT))]⟩
def wD:Cut SN:=⟨[(0, .bp 100000 0),(2, .bp 2 0),(3, .bp 3 0),(25, .dat .bool)],[(100000, .box none [.bp 100001 0, .dat (.sl .str), .dat .bool]),(2, .st .itemT),(3, .box none [.dat (.int .i64), .dat .str, .dat (.int .i64), .vh 3033, .dat (.int .i64), .dat (.int .i64), .dat .bool, .vh 3037]),(100001, .box none [.vh 100002]),(3033, .vec 9 .str),(3037, .vec 42 (.st .layoutT)),(100002, .vec 44 (.st .itemT))]⟩
def wE:Cut SN:=⟨[(0, .bp 100000 0),(2, .bp 2 0),(3, .bp 3 0),(4, .bp 4 0),(5, .dat (.int .i64))],[(100000, .box none [.bp 100001 0, .dat (.sl .str), .dat .bool]),(2, .st .itemT),(3, .box none [.dat (.int .i64), .dat .str, .dat (.int .i64), .vh 3033, .dat (.int .i64), .dat (.int .i64), .dat .bool, .vh 3037]),(4, .st .layoutT),(100001, .box none [.vh 100002]),(3033, .vec 9 .str),(3037, .vec 42 (.st .layoutT)),(100002, .vec 44 (.st .itemT))]⟩
def BV:ay vw:=shL [(0,ci)] dN
def p_:Sig vw:={params:=[.bp 100000 0],objs:=[(100000, .box none [.bp 100001 0, .dat (.sl .str), .dat .bool]),(100001, .box none [.vh 100002]),(100002, .vec 44 (.st .itemT))],rcut:=dN,rvars:=[.cell 2 44],keep:=[100000,100001,100002]}
noncomputable def aS(v:(List ByteArray)×Bool×Item×Int×ByteArray×Int×Int×Int×Bool×(List ByteArray)×(List aa)×(List Item)×Unit):Option (((List ByteArray)×Bool×Item×Int×ByteArray×Int×Int×Int×Bool×(List ByteArray)×(List aa)×(List Item)×Unit)):=(if(!v.2.1)=true then ft (v.1,v.2.1,v.2.2.2.2.2.2.2.2.2.2.2.1,())>>=λx1=>if x1.2.2.2.1.length=v.2.2.2.2.2.2.2.2.2.2.2.1.length then some ((!x1.1.toList==(TZ #[125]).toList,x1.2.1,x1.2.2.1,v.2.2.1,v.2.2.2.1,v.2.2.2.2.1,v.2.2.2.2.2.1,v.2.2.2.2.2.2.1,v.2.2.2.2.2.2.2.1,v.2.2.2.2.2.2.2.2.1,v.2.2.2.2.2.2.2.2.2.1,v.2.2.2.2.2.2.2.2.2.2.1,x1.2.2.2.1,()))else none else some ((false,v.1,v.2.1,v.2.2.1,v.2.2.2.1,v.2.2.2.2.1,v.2.2.2.2.2.1,v.2.2.2.2.2.2.1,v.2.2.2.2.2.2.2.1,v.2.2.2.2.2.2.2.2.1,v.2.2.2.2.2.2.2.2.2.1,v.2.2.2.2.2.2.2.2.2.2.1,v.2.2.2.2.2.2.2.2.2.2.2.1,())))>>=λx1=>if x1.1=true then fu (false,x1.2.1,x1.2.2.1,x1.2.2.2.2.2.2.2.2.2.2.2.2.1,())>>=λx2=>if x2.2.2.1.length=x1.2.2.2.2.2.2.2.2.2.2.2.2.1.length then bU (x2.1,x2.2.1,x2.2.2.1,())>>=λx3=>if x3.2.2.2.1.length=x2.2.2.1.length then if x1.2.2.2.2.2.2.2.2.2.2.1.length+[x3.1].length<=4294967296 then(cU (TZ #[91],x3.2.1,x3.2.2.1,x3.2.2.2.1,())>>=λx4=>if x4.2.2.2.1.length=x3.2.2.2.1.length then if x4.1=true then gP (x4.2.1,x4.2.2.1,x4.2.2.2.1,())>>=λx5=>if x5.2.2.2.1.length=x4.2.2.2.1.length then(if x5.2.2.1=true then some ((x5.1,x5.2.1,true,x1.2.2.2.1,x1.2.2.2.2.1,x1.2.2.2.2.2.1,x1.2.2.2.2.2.2.1,x1.2.2.2.2.2.2.2.1,x1.2.2.2.2.2.2.2.2.1,x1.2.2.2.2.2.2.2.2.2.1,x2.2.2.2.1,x1.2.2.2.2.2.2.2.2.2.2.1++[x3.1],x1.2.2.2.2.2.2.2.2.2.2.2.1,x5.2.2.2.1,()))else some ((x5.1,x5.2.1,decide (x5.1<1),x1.2.2.2.1,x1.2.2.2.2.1,x1.2.2.2.2.2.1,x1.2.2.2.2.2.2.1,x1.2.2.2.2.2.2.2.1,x1.2.2.2.2.2.2.2.2.1,x1.2.2.2.2.2.2.2.2.2.1,x2.2.2.2.1,x1.2.2.2.2.2.2.2.2.2.2.1++[x3.1],x1.2.2.2.2.2.2.2.2.2.2.2.1,x5.2.2.2.1,())))>>=λx6=>bv ([TZ #[93]],x6.2.1,x6.2.2.1,x6.2.2.2.2.2.2.2.2.2.2.2.2.2.1,())>>=λx7=>if x7.2.2.1.length=x6.2.2.2.2.2.2.2.2.2.2.2.2.2.1.length then some ((x7.1,x7.2.1,x6.2.2.2.1,x6.2.2.2.2.1,x6.2.2.2.2.2.1,x6.2.2.2.2.2.2.1,x6.2.2.2.2.2.2.2.1,x6.2.2.2.2.2.2.2.2.1,x6.2.2.2.2.2.2.2.2.2.1,aa.mk 5 x6.1 false [x6.2.2.2.2.2.2.2.2.2.2.1],x6.2.2.2.2.2.2.2.2.2.2.2.1,x6.2.2.2.2.2.2.2.2.2.2.2.2.1,x7.2.2.1,()))else none else none else some ((x4.2.1,x4.2.2.1,x1.2.2.2.1,x1.2.2.2.2.1,x1.2.2.2.2.2.1,x1.2.2.2.2.2.2.1,x1.2.2.2.2.2.2.2.1,x1.2.2.2.2.2.2.2.2.1,x1.2.2.2.2.2.2.2.2.2.1,x2.2.2.2.1,x1.2.2.2.2.2.2.2.2.2.2.1++[x3.1],x1.2.2.2.2.2.2.2.2.2.2.2.1,x4.2.2.2.1,()))else none)>>=λx4=>bv ([TZ #[59]],x4.1,x4.2.1,x4.2.2.2.2.2.2.2.2.2.2.2.2.1,())>>=λx5=>if x5.2.2.1.length=x4.2.2.2.2.2.2.2.2.2.2.2.2.1.length then if x4.2.2.2.2.2.2.2.2.2.2.2.1.length+[x4.2.2.2.2.2.2.2.2.2.1].length<=4294967296 then aS (x5.1,x5.2.1,x4.2.2.1,x4.2.2.2.1,x4.2.2.2.2.1,x4.2.2.2.2.2.1,x4.2.2.2.2.2.2.1,x4.2.2.2.2.2.2.2.1,x4.2.2.2.2.2.2.2.2.1,x4.2.2.2.2.2.2.2.2.2.2.1,x4.2.2.2.2.2.2.2.2.2.2.2.1++[x4.2.2.2.2.2.2.2.2.2.1],x5.2.2.1,())else none else none else none else none else none else some ((x1.2.1,x1.2.2.1,x1.2.2.2.1,x1.2.2.2.2.1,x1.2.2.2.2.2.1,x1.2.2.2.2.2.2.1,x1.2.2.2.2.2.2.2.1,x1.2.2.2.2.2.2.2.2.1,x1.2.2.2.2.2.2.2.2.2.1,x1.2.2.2.2.2.2.2.2.2.2.1,x1.2.2.2.2.2.2.2.2.2.2.2.1,x1.2.2.2.2.2.2.2.2.2.2.2.2.1,())) partial_fixpoint
noncomputable def fk(v:(List ByteArray)×Bool×(List Item)×Unit):Option ((List ByteArray)×Bool×(List Item)×Item×Unit):=bv ([TZ #[115,116,114,117,99,116]],v.1,v.2.1,v.2.2.1,())>>=λx1=>if x1.2.2.1.length=v.2.2.1.length then(bU (x1.1,x1.2.1,x1.2.2.1,())>>=λx2=>if x2.2.2.2.1.length=x1.2.2.1.length then some ((x2.2.1,x2.2.2.1,Item.mk 0 (TZ #[]) (0:Int) [] (aa.mk 0 0 false []),(2:Int),x2.1,(0:Int),(6:Int),(0:Int),false,[],[],x2.2.2.2.1,()))else none)>>=λx2=>bv ([TZ #[123]],x2.1,x2.2.1,x2.2.2.2.2.2.2.2.2.2.2.2.1,())>>=λx3=>if x3.2.2.1.length=x2.2.2.2.2.2.2.2.2.2.2.2.1.length then aS (x3.1,x3.2.1,x2.2.2.1,x2.2.2.2.1,x2.2.2.2.2.1,x2.2.2.2.2.2.1,x2.2.2.2.2.2.2.1,x2.2.2.2.2.2.2.2.1,x2.2.2.2.2.2.2.2.2.1,x2.2.2.2.2.2.2.2.2.2.1,x2.2.2.2.2.2.2.2.2.2.2.1,x3.2.2.1,())>>=λx4=>bv ([TZ #[125],TZ #[59]],x4.1,x4.2.1,x4.2.2.2.2.2.2.2.2.2.2.2.1,())>>=λx5=>if x5.2.2.1.length=x4.2.2.2.2.2.2.2.2.2.2.2.1.length then(if x5.2.1=true then some ((x5.1,true,x4.2.2.1,x4.2.2.2.1,x4.2.2.2.2.1,x4.2.2.2.2.2.1,x4.2.2.2.2.2.2.1,x4.2.2.2.2.2.2.2.1,x4.2.2.2.2.2.2.2.2.1,x4.2.2.2.2.2.2.2.2.2.1,x4.2.2.2.2.2.2.2.2.2.2.1,x5.2.2.1,()))else if((↑x4.2.2.2.2.2.2.2.2.2.1.length:Int)==0)=true then some ((x5.1,true,x4.2.2.1,x4.2.2.2.1,x4.2.2.2.2.1,x4.2.2.2.2.2.1,x4.2.2.2.2.2.2.1,x4.2.2.2.2.2.2.2.1,x4.2.2.2.2.2.2.2.2.1,x4.2.2.2.2.2.2.2.2.2.1,x4.2.2.2.2.2.2.2.2.2.2.1,x5.2.2.1,()))else xT (x4.2.2.2.2.2.2.2.2.2.1,())>>=λx6=>if(!x6.1)=true then some ((x5.1,true,x4.2.2.1,x4.2.2.2.1,x4.2.2.2.2.1,x4.2.2.2.2.2.1,x4.2.2.2.2.2.2.1,x4.2.2.2.2.2.2.2.1,x4.2.2.2.2.2.2.2.2.1,x4.2.2.2.2.2.2.2.2.2.1,x4.2.2.2.2.2.2.2.2.2.2.1,x5.2.2.1,()))else dt ((2:Int),x4.2.2.2.2.1,x5.2.2.1,())>>=λx7=>if x7.2.1.length=x5.2.2.1.length then some ((x5.1,x7.1,x4.2.2.1,x4.2.2.2.1,x4.2.2.2.2.1,x4.2.2.2.2.2.1,x4.2.2.2.2.2.2.1,x4.2.2.2.2.2.2.2.1,x4.2.2.2.2.2.2.2.2.1,x4.2.2.2.2.2.2.2.2.2.1,x4.2.2.2.2.2.2.2.2.2.2.1,x7.2.1,()))else none)>>=λx6=>some ((x6.1,x6.2.1,x6.2.2.2.2.2.2.2.2.2.2.2.1,Item.mk x6.2.2.2.1 x6.2.2.2.2.1 x6.2.2.2.2.2.1 x6.2.2.2.2.2.2.2.2.2.1 (aa.mk x6.2.2.2.2.2.2.1 x6.2.2.2.2.2.2.2.1 x6.2.2.2.2.2.2.2.2.1 x6.2.2.2.2.2.2.2.2.2.2.1),()))else none else none else none
def iW:=kO fb (kO d8 (kO cG (kO lZ (kO d9 (kP sZ (kO io (kO l9 k0)))))))
def wb:Xc vw:={P:=prog,n:=100,nm:=λd=>match d with|11=>40011|12=>40012|_=>d,call:=iW.1,pre:=j9,sh:=BV,joins:=λk=>match k with|12=>some (t8,[.norm])|_=>none,regs:=λk=>match k with|2=>some ci|4=>some wD|9=>some wE|15=>some ci|_=>none,loops:=λk=>match k with|4=>some {cut:=ci,alts:=[.exit 0],F:=aS}|_=>none}
theorem pz:dT wb (ai (af Tryz.f124) 0) ⟨ci,[.exit 0],aS⟩:=lp0 aS.partial_correctness iW.2
theorem sW:aq prog 124 p_ fk:=fn1 wb Tryz.func124 iW.2 pz
def fA:Cut SN:=⟨[(0, .bp 100000 0),(2, .bp 2 0),(3, .bp 3 0),(4, .bp 4 0)],[(100000, .box none [.bp 100001 0, .dat (.sl .str), .dat .bool]),(2, .st .itemT),(3, .st .layoutT),(4, .box none [.dat (.int .i64), .dat .str, .dat (.int .i64), .vh 3043, .dat (.int .i64), .dat (.int .i64), .dat .bool, .vh 3047]),(100001, .box none [.vh 100002]),(3043, .vec 9 .str),(3047, .vec 42 (.st .layoutT)),(100002, .vec 44 (.st .itemT))]⟩
def wF:Cut SN:=⟨[(0, .bp 100000 0),(2, .bp 2 0),(3, .bp 3 0),(4, .bp 4 0),(38, .dat .bool)],[(100000, .box none [.bp 100001 0, .dat (.sl .str), .dat .bool]),(2, .st .itemT),(3, .st .layoutT),(4, .box none [.dat (.int .i64), .dat .str, .dat (.int .i64), .vh 3043, .dat (.int .i64), .dat (.int .i64), .dat .bool, .vh 3047]),(100001, .box none [.vh 100002]),(3043, .vec 9 .str),(3047, .vec 42 (.st .layoutT)),(100002, .vec 44 (.st .itemT))]⟩
def t_:Cut SN:=⟨[(0, .bp 100000 0),(2, .bp 2 0),(4, .bp 4 0)],[(100000, .box none [.bp 100001 0, .dat (.sl .str), .dat .bool]),(2, .st .itemT),(4, .box none [.dat (.int .i64), .dat .str, .dat (.int .i64), .vh 3043, .dat (.int .i64), .dat (.int .i64), .dat .bool, .vh 3047]),(100001, .box none [.vh 100002]),(3043, .vec 9 .str),(3047, .vec 42 (.st .layoutT)),(100002, .vec 44 (.st .itemT))]⟩
def BW:ay vw:=shL [(0,fA)] dN
def qa:Sig vw:={params:=[.bp 100000 0],objs:=[(100000, .box none [.bp 100001 0, .dat (.sl .str), .dat .bool]),(100001, .box none [.vh 100002]),(100002, .vec 44 (.st .itemT))],rcut:=dN,rvars:=[.cell 2 44],keep:=[100000,100001,100002]}
noncomputable def b9(v:(List ByteArray)×Bool×Item×aa×Int×ByteArray×Int×Int×Int×Bool×(List ByteArray)×(List aa)×(List Item)×Unit):Option (((List ByteArray)×Bool×Item×aa×Int×ByteArray×Int×Int×Int×Bool×(List ByteArray)×(List aa)×(List Item)×Unit)):=fu (false,v.1,v.2.1,v.2.2.2.2.2.2.2.2.2.2.2.2.1,())>>=λx1=>if x1.2.2.1.length=v.2.2.2.2.2.2.2.2.2.2.2.2.1.length then bU (x1.1,x1.2.1,x1.2.2.1,())>>=λx2=>if x2.2.2.2.1.length=x1.2.2.1.length then if v.2.2.2.2.2.2.2.2.2.2.1.length+[x2.1].length<=4294967296 then if v.2.2.2.2.2.2.2.2.2.2.2.1.length+[x1.2.2.2.1].length<=4294967296 then cU (TZ #[44],x2.2.1,x2.2.2.1,x2.2.2.2.1,())>>=λx3=>if x3.2.2.2.1.length=x2.2.2.2.1.length then if(!x3.1)=true then some ((x3.2.1,x3.2.2.1,v.2.2.1,v.2.2.2.1,v.2.2.2.2.1,v.2.2.2.2.2.1,v.2.2.2.2.2.2.1,v.2.2.2.2.2.2.2.1,v.2.2.2.2.2.2.2.2.1,v.2.2.2.2.2.2.2.2.2.1,v.2.2.2.2.2.2.2.2.2.2.1++[x2.1],v.2.2.2.2.2.2.2.2.2.2.2.1++[x1.2.2.2.1],x3.2.2.2.1,()))else b9 (x3.2.1,x3.2.2.1,v.2.2.1,v.2.2.2.1,v.2.2.2.2.1,v.2.2.2.2.2.1,v.2.2.2.2.2.2.1,v.2.2.2.2.2.2.2.1,v.2.2.2.2.2.2.2.2.1,v.2.2.2.2.2.2.2.2.2.1,v.2.2.2.2.2.2.2.2.2.2.1++[x2.1],v.2.2.2.2.2.2.2.2.2.2.2.1++[x1.2.2.2.1],x3.2.2.2.1,())else none else none else none else none else none partial_fixpoint
noncomputable def dR(v:(List ByteArray)×Bool×(List Item)×Unit):Option ((List ByteArray)×Bool×(List Item)×Item×Unit):=fu (true,v.1,v.2.1,v.2.2.1,())>>=λx1=>if x1.2.2.1.length=v.2.2.1.length then(bU (x1.1,x1.2.1,x1.2.2.1,())>>=λx2=>if x2.2.2.2.1.length=x1.2.2.1.length then some ((x2.2.1,x2.2.2.1,Item.mk 0 (TZ #[]) (0:Int) [] (aa.mk 0 0 false []),x1.2.2.2.1,(3:Int),x2.1,(0:Int),(6:Int),(0:Int),false,[],[],x2.2.2.2.1,()))else none)>>=λx2=>bv ([TZ #[40]],x2.1,x2.2.1,x2.2.2.2.2.2.2.2.2.2.2.2.2.1,())>>=λx3=>if x3.2.2.1.length=x2.2.2.2.2.2.2.2.2.2.2.2.2.1.length then((if decide ((↑x3.1.length:Int)<2)=true then some ((true,x3.1,x3.2.1,x2.2.2.1,x2.2.2.2.1,x2.2.2.2.2.1,x2.2.2.2.2.2.1,x2.2.2.2.2.2.2.1,x2.2.2.2.2.2.2.2.1,x2.2.2.2.2.2.2.2.2.1,x2.2.2.2.2.2.2.2.2.2.1,x2.2.2.2.2.2.2.2.2.2.2.1,x2.2.2.2.2.2.2.2.2.2.2.2.1,x3.2.2.1,()))else x3.1[U1 0]?>>=λx4=>if(!x4.toList==(TZ #[118,111,105,100]).toList)=true then some ((true,x3.1,x3.2.1,x2.2.2.1,x2.2.2.2.1,x2.2.2.2.2.1,x2.2.2.2.2.2.1,x2.2.2.2.2.2.2.1,x2.2.2.2.2.2.2.2.1,x2.2.2.2.2.2.2.2.2.1,x2.2.2.2.2.2.2.2.2.2.1,x2.2.2.2.2.2.2.2.2.2.2.1,x2.2.2.2.2.2.2.2.2.2.2.2.1,x3.2.2.1,()))else x3.1[U1 1]?>>=λx5=>some ((!x5.toList==(TZ #[41]).toList,x3.1,x3.2.1,x2.2.2.1,x2.2.2.2.1,x2.2.2.2.2.1,x2.2.2.2.2.2.1,x2.2.2.2.2.2.2.1,x2.2.2.2.2.2.2.2.1,x2.2.2.2.2.2.2.2.2.1,x2.2.2.2.2.2.2.2.2.2.1,x2.2.2.2.2.2.2.2.2.2.2.1,x2.2.2.2.2.2.2.2.2.2.2.2.1,x3.2.2.1,())))>>=λx4=>if x4.1=true then b9 (x4.2.1,x4.2.2.1,x4.2.2.2.1,x4.2.2.2.2.1,x4.2.2.2.2.2.1,x4.2.2.2.2.2.2.1,x4.2.2.2.2.2.2.2.1,x4.2.2.2.2.2.2.2.2.1,x4.2.2.2.2.2.2.2.2.2.1,x4.2.2.2.2.2.2.2.2.2.2.1,x4.2.2.2.2.2.2.2.2.2.2.2.1,x4.2.2.2.2.2.2.2.2.2.2.2.2.1,x4.2.2.2.2.2.2.2.2.2.2.2.2.2.1,())>>=λx5=>some ((x5.1,x5.2.1,x5.2.2.1,x5.2.2.2.1,x5.2.2.2.2.1,x5.2.2.2.2.2.1,x5.2.2.2.2.2.2.1,x5.2.2.2.2.2.2.2.1,x5.2.2.2.2.2.2.2.2.1,x5.2.2.2.2.2.2.2.2.2.1,x5.2.2.2.2.2.2.2.2.2.2.1,x5.2.2.2.2.2.2.2.2.2.2.2.1,x5.2.2.2.2.2.2.2.2.2.2.2.2.1,()))else en (x4.2.1,x4.2.2.1,x4.2.2.2.2.2.2.2.2.2.2.2.2.2.1,())>>=λx5=>if x5.2.2.2.1.length=x4.2.2.2.2.2.2.2.2.2.2.2.2.2.1.length then some ((x5.2.1,x5.2.2.1,x4.2.2.2.1,x4.2.2.2.2.1,x4.2.2.2.2.2.1,x4.2.2.2.2.2.2.1,x4.2.2.2.2.2.2.2.1,x4.2.2.2.2.2.2.2.2.1,x4.2.2.2.2.2.2.2.2.2.1,x4.2.2.2.2.2.2.2.2.2.2.1,x4.2.2.2.2.2.2.2.2.2.2.2.1,x4.2.2.2.2.2.2.2.2.2.2.2.2.1,x5.2.2.2.1,()))else none)>>=λx4=>bv ([TZ #[41],TZ #[59]],x4.1,x4.2.1,x4.2.2.2.2.2.2.2.2.2.2.2.2.1,())>>=λx5=>if x5.2.2.1.length=x4.2.2.2.2.2.2.2.2.2.2.2.2.1.length then if x4.2.2.2.2.2.2.2.2.2.2.2.1.length+[x4.2.2.2.1].length<=4294967296 then(if x5.2.1=true then some ((x5.1,true,x4.2.2.1,x4.2.2.2.2.1,x4.2.2.2.2.2.1,x4.2.2.2.2.2.2.1,x4.2.2.2.2.2.2.2.1,x4.2.2.2.2.2.2.2.2.1,x4.2.2.2.2.2.2.2.2.2.1,x4.2.2.2.2.2.2.2.2.2.2.1,x4.2.2.2.2.2.2.2.2.2.2.2.1++[x4.2.2.2.1],x5.2.2.1,()))else xT (x4.2.2.2.2.2.2.2.2.2.2.1,())>>=λx6=>if(!x6.1)=true then some ((x5.1,true,x4.2.2.1,x4.2.2.2.2.1,x4.2.2.2.2.2.1,x4.2.2.2.2.2.2.1,x4.2.2.2.2.2.2.2.1,x4.2.2.2.2.2.2.2.2.1,x4.2.2.2.2.2.2.2.2.2.1,x4.2.2.2.2.2.2.2.2.2.2.1,x4.2.2.2.2.2.2.2.2.2.2.2.1++[x4.2.2.2.1],x5.2.2.1,()))else dt ((3:Int),x4.2.2.2.2.2.1,x5.2.2.1,())>>=λx7=>if x7.2.1.length=x5.2.2.1.length then some ((x5.1,x7.1,x4.2.2.1,x4.2.2.2.2.1,x4.2.2.2.2.2.1,x4.2.2.2.2.2.2.1,x4.2.2.2.2.2.2.2.1,x4.2.2.2.2.2.2.2.2.1,x4.2.2.2.2.2.2.2.2.2.1,x4.2.2.2.2.2.2.2.2.2.2.1,x4.2.2.2.2.2.2.2.2.2.2.2.1++[x4.2.2.2.1],x7.2.1,()))else none)>>=λx6=>some ((x6.1,x6.2.1,x6.2.2.2.2.2.2.2.2.2.2.2.1,Item.mk x6.2.2.2.1 x6.2.2.2.2.1 x6.2.2.2.2.2.1 x6.2.2.2.2.2.2.2.2.2.1 (aa.mk x6.2.2.2.2.2.2.1 x6.2.2.2.2.2.2.2.1 x6.2.2.2.2.2.2.2.2.1 x6.2.2.2.2.2.2.2.2.2.2.1),()))else none else none else none else none
def iX:=kO fb (kO d8 (kO cG (kO d9 (kP sZ (kO l9 (kO fc k0))))))
def wc:Xc vw:={P:=prog,n:=95,nm:=λd=>match d with|10=>40010|11=>40011|_=>d,call:=iX.1,pre:=j9,sh:=BW,joins:=λk=>match k with|10=>some (fA,[.norm])|_=>none,regs:=λk=>match k with|2=>some fA|4=>some wF|12=>some t_|_=>none,loops:=λk=>match k with|5=>some {cut:=fA,alts:=[.exit 0],F:=b9}|_=>none}
theorem pA:dT wc (ai (af Tryz.f125) 0) ⟨fA,[.exit 0],b9⟩:=lp0 b9.partial_correctness iX.2
theorem sX:aq prog 125 qa dR:=fn1 wc Tryz.func125 iX.2 pA
def RE:Cut SN:=⟨[(0, .dat (.sl .fnc))],[]⟩
def Tf:ay vw:={rcut:=RE}
def NU:Sig vw:=sg [] RE [.tmp 0]
noncomputable def Oz(v:Unit):Option ((List Nat)×Unit):=some (([(122:Nat),(123:Nat),(124:Nat),(125:Nat)],()))
def x98:Xc vw:=mX prog 2 c0 Tf [] [] []
theorem K0:aq prog 98 NU Oz:=fn0 x98 Tryz.func98 bB
def IW:Cut SN:=⟨[(3, .dat (.int .i64)),(6, .dat (.sl (.int .i64))),(7, .dat (.int .i64)),(8, .dat (.int .i64))],[]⟩
def ri:Cut SN:=⟨[(3, .dat (.int .i64))],[]⟩
def PZ:ay vw:=shL [(0,ri)] bM
def vI:Sig vw:=sg [.dat (.sl (.int .i64))] bM [.tmp 2]
noncomputable def lm(v:Int×(List Int)×Int×Int×Unit):Option ((Int×Unit)):=if decide (v.2.2.2.1<v.2.2.1)=true then if 0<=v.2.2.2.1 then v.2.1[v.2.2.2.1.toNat]?>>=λx1=>lm (min (1099511627776:Int) (i64.wrap (v.1+min x1 (1099511627776:Int))),v.2.1,v.2.2.1,i64.wrap (v.2.2.2.1+1),())else none else some ((v.1,())) partial_fixpoint
noncomputable def lk(v:(List Int)×Unit):Option (Int×Unit):=lm ((0:Int),v.1,(↑v.1.length:Int),(0:Int),())>>=λx1=>some ((x1.1,()))
def RV:Xc vw:=mX prog 19 c0 PZ [] [] [(3,⟨IW,[.exit 0],lm⟩)]
theorem Bg:dT RV (ai (af Tryz.f111) 0) ⟨IW,[.exit 0],lm⟩:=lp0 lm.partial_correctness bB
theorem e_:aq prog 111 vI lk:=fn1 RV Tryz.func111 bB Bg
def P9:ay vw:={rcut:=bM}
def Ju:Sig vw:=sg [.dat (.st .layoutT)] bM [.tmp 2]
noncomputable def Bn(v:aa×Unit):Option (Int×Unit):=if(v.1.kind==1)=true then some (((1:Int),()))else if(v.1.kind==2)=true then some ((max v.1.n (0:Int),()))else some (((0:Int),()))
def TJ:Xc vw:=mX prog 12 c0 P9 [] [] []
theorem om:aq prog 144 Ju Bn:=fn0 TJ Tryz.func144 bB
end Go.Proofs.YtpelkenpapfadaaGreatDoor
end
