/-
  Texts of this claim, joined by a program of mine: what the theorem uses.
-/
import Derived.Test.YtpelkenpapfadaaGreatDoorPkE
import Derived.Test.YtpelkenpapfadaaGreatDoorPkC
open ByteArray renaming mk→T3
open Int renaming toNat→U6
open List renaming map→VI,replicate→U5,take→W0
open Sum renaming inl→UR,inr→UW
noncomputable section
set_option linter.unusedVariables false
section
namespace Go.Proofs.YtpelkenpapfadaaGreatDoor
open Go.Awp Go.Tx
open IntKind (i64)
open Go.Proofs.Tryz (prog)
set_option maxHeartbeats 4000000
set_option maxRecDepth 100000
def dn:Cut SN:=⟨[(2, .dat .bool)],[]⟩
def Te:ax vw:={rcut:=dn}
def QY:Sig vw:=sg [.dat (.int .u8)] dn [.tmp 2]
noncomputable def JJ(v:Int×Unit):Option (Bool×Unit):=(if decide (v.1>=97)=true then if decide (v.1<=122)=true then some ((true,()))else if decide (v.1>=65)=true then if decide (v.1<=90)=true then some ((true,()))else some ((v.1==95,()))else some ((v.1==95,()))else if decide (v.1>=65)=true then if decide (v.1<=90)=true then some ((true,()))else some ((v.1==95,()))else some ((v.1==95,())))>>=λx1=>some ((x1.1,()))
def x86:Xc vw:=mX prog 21 c0 Te [] [(1,dn)] []
theorem yk:aq prog 86 QY JJ:=fn0 x86 Tryz.func86 bI
def Tf:ax vw:={rcut:=dn}
def QZ:Sig vw:=sg [.dat (.int .u8)] dn [.tmp 2]
noncomputable def G8(v:Int×Unit):Option (Bool×Unit):=(if decide (v.1>=48)=true then some ((decide (v.1<=57),()))else some ((false,())))>>=λx1=>some ((x1.1,()))
def x87:Xc vw:=mX prog 9 c0 Tf [] [(1,dn)] []
theorem yl:aq prog 87 QZ G8:=fn0 x87 Tryz.func87 bI
def fk:Cut SN:=⟨[(0, .dat .str),(3, .vh 1003),(4, .dat (.int .i64))],[(1003, .vec 9 .str)]⟩
def bE:Cut SN:=⟨[(0, .dat .str),(3, .vh 1003),(4, .dat (.int .i64)),(5, .dat (.int .i64))],[(1003, .vec 9 .str)]⟩
def rI:Cut SN:=⟨[(0, .dat .str),(3, .vh 1003),(4, .dat (.int .i64)),(5, .dat (.int .i64)),(6, .dat (.int .u8)),(14, .dat .bool)],[(1003, .vec 9 .str)]⟩
def rJ:Cut SN:=⟨[(0, .dat .str),(3, .vh 1003),(4, .dat (.int .i64)),(5, .dat (.int .i64)),(51, .dat .bool)],[(1003, .vec 9 .str)]⟩
def oP:Cut SN:=⟨[(0, .dat .str),(3, .vh 1003),(4, .dat (.int .i64)),(5, .dat (.int .i64)),(70, .dat .bool)],[(1003, .vec 9 .str)]⟩
def mE:Cut SN:=⟨[(3, .vh 1003)],[(1003, .vec 9 .str)]⟩
def ur:Cut SN:=⟨[(2, .vh 2002)],[(2002, .vec 9 .str)]⟩
def vU:ax vw:=shL [(0,mE),(1,fk),(3,bE),(5,bE)] ur
def CD:Sig vw:={params:=[.dat .str],rcut:=ur,rvars:=[.tmp 2],keep:=[2002]}
noncomputable def cM(v:ByteArray×Int×Int×(List ByteArray)×Unit):Option ((ByteArray×Int×Int×(List ByteArray)×Unit)):=(if decide (i64.wrap (v.2.1+v.2.2.1)<(↑v.1.size:Int))=true then if 0<=i64.wrap (v.2.1+v.2.2.1)then v.1[(i64.wrap (v.2.1+v.2.2.1)).toNat]?>>=λx1=>JJ ((↑x1.toNat:Int),())>>=λx2=>if x2.1=true then some ((v.1,v.2.1,v.2.2.1,true,v.2.2.2.1,()))else if 0<=i64.wrap (v.2.1+v.2.2.1)then v.1[(i64.wrap (v.2.1+v.2.2.1)).toNat]?>>=λx3=>G8 ((↑x3.toNat:Int),())>>=λx4=>some ((v.1,v.2.1,v.2.2.1,x4.1,v.2.2.2.1,()))else none else none else some ((v.1,v.2.1,v.2.2.1,false,v.2.2.2.1,())))>>=λx1=>if x1.2.2.2.1=true then cM (x1.1,x1.2.1,i64.wrap (x1.2.2.1+1),x1.2.2.2.2.1,())else some ((x1.1,x1.2.1,x1.2.2.1,x1.2.2.2.2.1,())) partial_fixpoint
noncomputable def ci(v:ByteArray×Int×Int×(List ByteArray)×Unit):Option ((ByteArray×Int×Int×(List ByteArray)×Unit)):=(if decide (i64.wrap (v.2.1+v.2.2.1)<(↑v.1.size:Int))=true then if 0<=i64.wrap (v.2.1+v.2.2.1)then v.1[(i64.wrap (v.2.1+v.2.2.1)).toNat]?>>=λx1=>G8 ((↑x1.toNat:Int),())>>=λx2=>some ((v.1,v.2.1,v.2.2.1,x2.1,v.2.2.2.1,()))else none else some ((v.1,v.2.1,v.2.2.1,false,v.2.2.2.1,())))>>=λx1=>if x1.2.2.2.1=true then ci (x1.1,x1.2.1,i64.wrap (x1.2.2.1+1),x1.2.2.2.2.1,())else some ((x1.1,x1.2.1,x1.2.2.1,x1.2.2.2.2.1,())) partial_fixpoint
noncomputable def bQ(v:ByteArray×Int×(List ByteArray)×Unit):Option (((List ByteArray)×Unit)):=if decide (v.2.1<(↑v.1.size:Int))=true then(if 0<=v.2.1 then v.1[v.2.1.toNat]?>>=λx1=>(if((↑x1.toNat:Int)==32)=true then some ((v.1,v.2.1,(1:Int),(↑x1.toNat:Int),true,v.2.2.1,()))else if((↑x1.toNat:Int)==9)=true then some ((v.1,v.2.1,(1:Int),(↑x1.toNat:Int),true,v.2.2.1,()))else some ((v.1,v.2.1,(1:Int),(↑x1.toNat:Int),(↑x1.toNat:Int)==10,v.2.2.1,())))>>=λx2=>if x2.2.2.2.2.1=true then some (UW (x2.1,i64.wrap (x2.2.1+1),x2.2.2.2.2.2.1,()))else JJ (x2.2.2.2.1,())>>=λx3=>if x3.1=true then cM (x2.1,x2.2.1,x2.2.2.1,x2.2.2.2.2.2.1,())>>=λx4=>some (UR (x4.1,x4.2.1,x4.2.2.1,x4.2.2.2.1,()))else G8 (x2.2.2.2.1,())>>=λx4=>if x4.1=true then ci (x2.1,x2.2.1,x2.2.2.1,x2.2.2.2.2.2.1,())>>=λx5=>some (UR (x5.1,x5.2.1,x5.2.2.1,x5.2.2.2.1,()))else some (UR (x2.1,x2.2.1,x2.2.2.1,x2.2.2.2.2.2.1,()))else none)>>=λx1=>match x1 with| .inl y1=>if 0<=y1.2.1/\y1.2.1<=i64.wrap (y1.2.1+y1.2.2.1)/\i64.wrap (y1.2.1+y1.2.2.1)<=(↑y1.1.size:Int)then if y1.2.2.2.1.length+[y1.1.extract y1.2.1.toNat (i64.wrap (y1.2.1+y1.2.2.1)).toNat].length<=4294967296 then bQ (y1.1,i64.wrap (y1.2.1+y1.2.2.1),y1.2.2.2.1++[y1.1.extract y1.2.1.toNat (i64.wrap (y1.2.1+y1.2.2.1)).toNat],())else none else none| .inr y1=>bQ (y1.1,y1.2.1,y1.2.2.1,())else some ((v.2.2.1,())) partial_fixpoint
noncomputable def ji(v:ByteArray×Unit):Option ((List ByteArray)×Unit):=bQ (v.1,(0:Int),[],())>>=λx1=>some ((x1.1,()))
def fC:=kP yk (kP yl k0)
def oD:Xc vw:=mX prog 86 fC.1 vU [(14,bE,[.norm, .exit 1])] [(6,rI),(9,rJ),(12,oP)] [(3,⟨fk,[.exit 0],bQ⟩),(9,⟨bE,[.exit 3],cM⟩),(12,⟨bE,[.exit 5],ci⟩)]
theorem qQ:dU oD (ai (ai (af Tryz.f52) 0) 0) ⟨bE,[.exit 3],cM⟩:=lp0 cM.partial_correctness fC.2
theorem pN:dU oD (ai (ai (af Tryz.f52) 0) 1) ⟨bE,[.exit 5],ci⟩:=lp0 ci.partial_correctness fC.2
theorem qP(C:Ctx)(hP:C.P=prog)(hN:C.N=86/\Fx C kp):dB C (ai (af Tryz.f52) 0) (sh:=vU) {cut:=fk,alts:=[.exit 0],F:=bQ}:=
 lpB (X:=oD) bQ.partial_correctness hP hN Ty.mixed fC.2 (Ou (by kernel_rfl) (by kernel_rfl) (by kernel_rfl) (qQ C hP hN) (pN C hP hN)) λF v=>by kernel_rfl
theorem vj:aq prog 52 CD ji:=fn1 oD Tryz.func52 fC.2 qP
def Jp:Cut SN:=⟨[(2, .dat (.int .i64)),(4, .bp 4 0)],[(4, .iter)]⟩
def bP:Cut SN:=⟨[(2, .dat (.int .i64))],[]⟩
def Qk:ax vw:=shL [(0,bP)] bP
def NW:Sig vw:=sg [.dat .str] bP [.tmp 2]
noncomputable def pJ(v:Int×ByteArray×Int×Unit):Option ((Int×Unit)):=if 0<=v.2.2.1 then if v.2.2.1<(↑v.2.1.size:Int)then pJ (i64.wrap (v.1+1),v.2.1,v.2.2.1+Bs.wid v.2.1 v.2.2.1,())else some ((v.1,()))else none partial_fixpoint
noncomputable def Ns(v:ByteArray×Unit):Option (Int×Unit):=pJ ((0:Int),v.1,(0:Int),())>>=λx1=>some ((x1.1,()))
def R9:Xc vw:=mX prog 10 c0 Qk [] [] [(2,⟨Jp,[.exit 0],pJ⟩)]
theorem BB:dU R9 (ai (af Tryz.f150) 0) ⟨Jp,[.exit 0],pJ⟩:=lp0 pJ.partial_correctness bI
theorem H1:aq prog 150 NW Ns:=fn1 R9 Tryz.func150 bI BB
def O5:Cut SN:=⟨[(2, .dat (.int .i32)),(3, .dat (.int .i64))],[]⟩
def NX:Sig vw:=sg [.dat .str] O5 [.tmp 2, .tmp 3]
noncomputable def Nt(v:ByteArray×Unit):Option (Int×Int×Unit):=some ((Lib.decodeGo v.1).1,(Lib.decodeGo v.1).2,())
theorem H2:aq prog 151 NX Nt:=λv r x h hx=>by
 obtain⟨s,u⟩:=v
 cases h;cases hx
 exact bj (by kernel_rfl) (gr.pure (P:=prog) (f:=151) (args:=[.d (.v (.string s))]) (r:= .tup [.d (.v (.int .i32 (Lib.decodeGo s).1)), .d (.v (.int .i64 (Lib.decodeGo s).2))]) (by kernel_rfl) λE M w vs hg hm hv=>by
  obtain⟨v1,rfl,h1⟩:=gD hv
  rw[h1.dv]
  exact(Tryz.utf8_DecodeRuneInString s w (Gd hg hm)).mono λe w' ⟨he,hw⟩=>⟨_,he,D3,hw⟩)
def Jm:Cut SN:=⟨[(0, .dat .str),(1, .dat (.int .i64)),(6, .vh 1006),(7, .dat (.int .i64))],[(1006, .vec 9 .str)]⟩
def Mn:Cut SN:=⟨[(0, .dat .str),(1, .dat (.int .i64))],[]⟩
def Kg:Cut SN:=⟨[(6, .vh 1006)],[(1006, .vec 9 .str)]⟩
def Mo:Cut SN:=⟨[(0, .dat .str),(1, .dat (.int .i64)),(5, .dat (.int .i64)),(18, .dat .bool)],[]⟩
def Mm:Cut SN:=⟨[(0, .dat .str),(1, .dat (.int .i64)),(6, .vh 1006)],[(1006, .vec 9 .str)]⟩
def He:Cut SN:=⟨[(4, .dat (.sl .str))],[]⟩
def Qd:ax vw:=shL [(0,Mm)] He
def NP:Sig vw:=sg [.dat .str, .dat (.int .i64)] He [.tmp 4]
noncomputable def pD(v:ByteArray×Int×Int×(List ByteArray)×Unit):Option ((ByteArray×Int×(List ByteArray)×Unit)):=if decide (v.2.2.1<i64.wrap (v.2.1-1))=true then Nt (v.1,())>>=λx1=>if(0:Int)<=0/\0<=x1.2.1/\x1.2.1<=(↑v.1.size:Int)then if 0<=v.2.2.1/\v.2.2.1<(↑v.2.2.2.1.length:Int)then v.2.2.2.1[v.2.2.1.toNat]?>>=λx2=>if 0<=x1.2.1/\x1.2.1<=(↑v.1.size:Int)/\(↑v.1.size:Int)<=(↑v.1.size:Int)then pD (v.1.extract x1.2.1.toNat (↑v.1.size:Int).toNat,v.2.1,i64.wrap (v.2.2.1+1),v.2.2.2.1.set v.2.2.1.toNat (v.1.extract (U6 0) x1.2.1.toNat),())else none else none else none else some ((v.1,v.2.1,v.2.2.2.1,())) partial_fixpoint
noncomputable def Nr(v:ByteArray×Int×Unit):Option ((List ByteArray)×Unit):=Ns (v.1,())>>=λx1=>((if decide (v.2.1<0)=true then some ((v.1,v.2.1,x1.1,true,()))else some ((v.1,v.2.1,x1.1,decide (v.2.1>x1.1),())))>>=λx2=>if x2.2.2.2.1=true then some ((x2.1,x2.2.2.1,()))else some ((x2.1,x2.2.1,())))>>=λx2=>if 0<=x2.2.1 then if x2.2.1<=4294967296 then pD (x2.1,x2.2.1,(0:Int),U5 x2.2.1.toNat (T3 #[]),())>>=λx3=>(if decide (x3.2.1>0)=true then if 0<=i64.wrap (x3.2.1-1)/\i64.wrap (x3.2.1-1)<(↑x3.2.2.1.length:Int)then x3.2.2.1[(i64.wrap (x3.2.1-1)).toNat]?>>=λx4=>some ((x3.2.2.1.set (i64.wrap (x3.2.1-1)).toNat x3.1,()))else none else some ((x3.2.2.1,())))>>=λx4=>some ((x4.1,()))else none else none
def xn:=kP H1 (kP H2 k0)
def R7:Xc vw:=mX prog 50 xn.1 Qd [(4,Mn,[.norm]),(13,Kg,[.norm])] [(2,Mo)] [(6,⟨Jm,[.exit 0],pD⟩)]
theorem Bv:dU R7 (ai (af Tryz.f119) 0) ⟨Jm,[.exit 0],pD⟩:=lp0 pD.partial_correctness xn.2
theorem HK:aq prog 119 NP Nr:=fn1 R7 Tryz.func119 xn.2 Bv
def nW:Cut SN:=⟨[(4, .dat (.int .i64))],[]⟩
def NQ:Sig vw:=sg [.dat .str, .dat .str] nW [.tmp 4]
noncomputable def HM(v:ByteArray×ByteArray×Unit):Option (Int×Unit):=match v.2.1.data.toList with|[c]=>some (((Lib.countByte v.1.data.toList c:Nat):Int),())|_=>none
theorem HN:aq prog 120 NQ HM:=λv r x h hx=>by
 obtain⟨s,c,u⟩:=v
 unfold HM at h
 simp only at h
 split at h
 ·rename_i c0 hc
  obtain rfl:c=⟨#[c0]⟩:=by
   obtain⟨⟨l⟩⟩:=c
   simp only at hc
   rw[hc]
  cases h;cases hx
  exact bj (by kernel_rfl) (gr.pure (P:=prog) (f:=120) (args:=[.d (.v (.string s)), .d (.v (.string ⟨#[c0]⟩))]) (r:= .d (.v (.int .i64 (((Lib.countByte s.data.toList c0:Nat):Int))))) (by kernel_rfl) λE M w vs hg hm hv=>by
   obtain⟨v1,v2,rfl,h1,h2⟩:=pg hv
   rw[h1.dv,h2.dv]
   exact(Tryz.strings_Count_one s c0 w).mono λe w' ⟨he,hw⟩=>⟨_,he, .d (.v _),hw▸Go.RowKit.Below.refl _ _⟩)
 ·cases h
def NR:Sig vw:=sg [.dat .str, .dat .str] nW [.tmp 4]
noncomputable def HO(v:ByteArray×ByteArray×Unit):Option (Int×Unit):=match v.2.1.data.toList with|[c]=>some (Lib.indexByte v.1.data.toList c,())|_=>none
theorem HP:aq prog 121 NR HO:=λv r x h hx=>by
 obtain⟨s,c,u⟩:=v
 unfold HO at h
 simp only at h
 split at h
 ·rename_i c0 hc
  obtain rfl:c=⟨#[c0]⟩:=by
   obtain⟨⟨l⟩⟩:=c
   simp only at hc
   rw[hc]
  cases h;cases hx
  exact bj (by kernel_rfl) (gr.pure (P:=prog) (f:=121) (args:=[.d (.v (.string s)), .d (.v (.string ⟨#[c0]⟩))]) (r:= .d (.v (.int .i64 (Lib.indexByte s.data.toList c0)))) (by kernel_rfl) λE M w vs hg hm hv=>by
   obtain⟨v1,v2,rfl,h1,h2⟩:=pg hv
   rw[h1.dv,h2.dv]
   exact(Tryz.strings_Index_one s c0 w).mono λe w' ⟨he,hw⟩=>⟨_,he, .d (.v _),hw▸Go.RowKit.Below.refl _ _⟩)
 ·cases h
def Js:Cut SN:=⟨[(0, .dat .str),(1, .dat .str),(2, .dat (.int .i64)),(3, .dat (.int .i64)),(9, .vh 1009),(10, .dat (.int .i64))],[(1009, .vec 9 .str)]⟩
def Pr:Cut SN:=⟨[(0, .dat .str),(1, .dat .str),(2, .dat (.int .i64)),(3, .dat (.int .i64))],[]⟩
def Pq:Cut SN:=⟨[(0, .dat .str),(9, .vh 1009),(10, .dat (.int .i64))],[(1009, .vec 9 .str)]⟩
def RM:Cut SN:=⟨[(8, .dat (.sl .str))],[]⟩
def Ti:ax vw:=shL [(0,Pq)] RM
def Q2:Sig vw:=sg [.dat .str, .dat .str, .dat (.int .i64), .dat (.int .i64)] RM [.tmp 8]
noncomputable def iv(v:ByteArray×ByteArray×Int×Int×Int×(List ByteArray)×Unit):Option ((ByteArray×Int×(List ByteArray)×Unit)):=if decide (v.2.2.2.2.1<v.2.2.2.1)=true then HO (v.1,v.2.1,())>>=λx1=>if decide (x1.1<0)=true then some ((v.1,v.2.2.2.2.1,v.2.2.2.2.2.1,()))else if(0:Int)<=0/\0<=i64.wrap (x1.1+v.2.2.1)/\i64.wrap (x1.1+v.2.2.1)<=(↑v.1.size:Int)then if 0<=v.2.2.2.2.1/\v.2.2.2.2.1<(↑v.2.2.2.2.2.1.length:Int)then v.2.2.2.2.2.1[v.2.2.2.2.1.toNat]?>>=λx2=>if 0<=i64.wrap (x1.1+(↑v.2.1.size:Int))/\i64.wrap (x1.1+(↑v.2.1.size:Int))<=(↑v.1.size:Int)/\(↑v.1.size:Int)<=(↑v.1.size:Int)then iv (v.1.extract (i64.wrap (x1.1+(↑v.2.1.size:Int))).toNat (↑v.1.size:Int).toNat,v.2.1,v.2.2.1,v.2.2.2.1,i64.wrap (v.2.2.2.2.1+1),v.2.2.2.2.2.1.set v.2.2.2.2.1.toNat (v.1.extract (U6 0) (i64.wrap (x1.1+v.2.2.1)).toNat),())else none else none else none else some ((v.1,v.2.2.2.2.1,v.2.2.2.2.2.1,())) partial_fixpoint
noncomputable def P0(v:ByteArray×ByteArray×Int×Int×Unit):Option ((List ByteArray)×Unit):=if(v.2.2.2.1==0)=true then some (([],()))else if(v.2.1.toList==(T3 #[]).toList)=true then Nr (v.1,v.2.2.2.1,())>>=λx1=>some ((x1.1,()))else(if decide (v.2.2.2.1<0)=true then HM (v.1,v.2.1,())>>=λx1=>some ((v.1,v.2.1,v.2.2.1,i64.wrap (x1.1+1),()))else some ((v.1,v.2.1,v.2.2.1,v.2.2.2.1,())))>>=λx1=>if 0<=min x1.2.2.2.1 (i64.wrap ((↑x1.1.size:Int)+1))then if min x1.2.2.2.1 (i64.wrap ((↑x1.1.size:Int)+1))<=4294967296 then iv (x1.1,x1.2.1,x1.2.2.1,i64.wrap (min x1.2.2.2.1 (i64.wrap ((↑x1.1.size:Int)+1)) -1),(0:Int),U5 (min x1.2.2.2.1 (i64.wrap ((↑x1.1.size:Int)+1))).toNat (T3 #[]),())>>=λx2=>if 0<=x2.2.1/\x2.2.1<(↑x2.2.2.1.length:Int)then x2.2.2.1[x2.2.1.toNat]?>>=λx3=>if(0:Int)<=0/\0<=i64.wrap (x2.2.1+1)/\i64.wrap (x2.2.1+1)<=(↑(x2.2.2.1.set x2.2.1.toNat x2.1).length:Int)then some ((W0 (i64.wrap (x2.2.1+1)).toNat (x2.2.2.1.set x2.2.1.toNat x2.1),()))else none else none else none else none
def DH:=kP HK (kP HN (kP HP k0))
def x96:Xc vw:=mX prog 66 DH.1 Ti [(7,Pr,[.norm])] [] [(11,⟨Js,[.exit 0],iv⟩)]
theorem BH:dU x96 (ai (af Tryz.f96) 0) ⟨Js,[.exit 0],iv⟩:=lp0 iv.partial_correctness DH.2
theorem Le:aq prog 96 Q2 P0:=fn1 x96 Tryz.func96 DH.2 BH
def S7:ax vw:={rcut:=He}
def QQ:Sig vw:=sg [.dat .str, .dat .str] He [.tmp 4]
noncomputable def OH(v:ByteArray×ByteArray×Unit):Option ((List ByteArray)×Unit):=P0 (v.1,v.2.1,(0:Int),(-1:Int),())>>=λx1=>some ((x1.1,()))
def JB:=kP Le k0
def x65:Xc vw:=mX prog 8 JB.1 S7 [] [] []
theorem K5:aq prog 65 QQ OH:=fn0 x65 Tryz.func65 JB.2
def iW:Cut SN:=⟨[(4, .dat .bool)],[]⟩
def Tj:ax vw:={rcut:=iW}
def Q3:Sig vw:=sg [.dat .str, .dat .str] iW [.tmp 4]
noncomputable def P1(v:ByteArray×ByteArray×Unit):Option (Bool×Unit):=(if decide ((↑v.1.size:Int)>=(↑v.2.1.size:Int))=true then if(0:Int)<=0/\0<=(↑v.2.1.size:Int)/\(↑v.2.1.size:Int)<=(↑v.1.size:Int)then some (((v.1.extract (U6 0) (↑v.2.1.size:Int).toNat).toList==v.2.1.toList,()))else none else some ((false,())))>>=λx1=>some ((x1.1,()))
def x97:Xc vw:=mX prog 18 c0 Tj [] [(1,iW)] []
theorem Lf:aq prog 97 Q3 P1:=fn0 x97 Tryz.func97 bI
def S9:ax vw:={rcut:=iW}
def QR:Sig vw:=sg [.dat .str, .dat .str] iW [.tmp 4]
noncomputable def OI(v:ByteArray×ByteArray×Unit):Option (Bool×Unit):=P1 (v.1,v.2.1,())>>=λx1=>some ((x1.1,()))
def JC:=kP Lf k0
def x66:Xc vw:=mX prog 8 JC.1 S9 [] [] []
theorem K6:aq prog 66 QR OI:=fn0 x66 Tryz.func66 JC.2
def Hf:Cut SN:=⟨[(3, .vh 1003),(4, .dat (.int .i64)),(5, .dat (.int .i64)),(11, .dat (.sl .str)),(12, .dat (.int .i64)),(13, .dat (.int .i64))],[(1003, .dvec 24 (.sl .str) false)]⟩
def Kk:Cut SN:=⟨[(3, .vh 1003),(4, .dat (.int .i64)),(5, .dat (.int .i64)),(11, .dat (.sl .str)),(12, .dat (.int .i64)),(13, .dat (.int .i64)),(25, .vh 1025),(26, .dat (.int .i64)),(27, .dat (.int .i64))],[(1003, .dvec 24 (.sl .str) false),(1025, .vec 9 .str)]⟩
def ME:Cut SN:=⟨[(3, .vh 1003),(4, .dat (.int .i64)),(5, .dat (.int .i64)),(9, .dat .str),(11, .dat (.sl .str)),(12, .dat (.int .i64)),(13, .dat (.int .i64)),(25, .vh 1025),(26, .dat (.int .i64)),(27, .dat (.int .i64))],[(1003, .dvec 24 (.sl .str) false),(1025, .vec 9 .str)]⟩
def MF:Cut SN:=⟨[(3, .vh 1003),(4, .dat (.int .i64)),(5, .dat (.int .i64)),(9, .dat .str),(11, .dat (.sl .str)),(12, .dat (.int .i64)),(13, .dat (.int .i64)),(25, .vh 1025),(26, .dat (.int .i64)),(27, .dat (.int .i64)),(53, .dat .bool)],[(1003, .dvec 24 (.sl .str) false),(1025, .vec 9 .str)]⟩
def MG:Cut SN:=⟨[(3, .vh 1003),(4, .dat (.int .i64)),(5, .dat (.int .i64)),(11, .dat (.sl .str)),(12, .dat (.int .i64)),(13, .dat (.int .i64)),(25, .vh 1025),(26, .dat (.int .i64)),(27, .dat (.int .i64)),(62, .dat .bool)],[(1003, .dvec 24 (.sl .str) false),(1025, .vec 9 .str)]⟩
def Pa:Cut SN:=⟨[(3, .vh 1003)],[(1003, .dvec 24 (.sl .str) false)]⟩
def Rz:Cut SN:=⟨[(2, .dat (.sl (.sl .str)))],[]⟩
def SP:ax vw:=shL [(0,Pa),(2,Hf)] Rz
def P2:Nat->Bool:=λk=>match k with|1000022=>true|1000036=>true|_=>false
def QF:Sig vw:=sg [.dat .str] Rz [.tmp 2]
noncomputable def ma(v:Int×Int×(List ByteArray)×Int×Int×Int×Int×(List (List ByteArray))×(List ByteArray)×Unit):Option ((Int×Int×(List ByteArray)×Int×Int×(List (List ByteArray))×Unit)):=if decide (v.2.2.2.2.2.2.1<v.2.2.2.2.2.1)=true then(if 0<=v.2.2.2.2.2.2.1/\v.2.2.2.2.2.2.1<(↑v.2.2.2.2.2.2.2.2.1.length:Int)then v.2.2.2.2.2.2.2.2.1[v.2.2.2.2.2.2.1.toNat]?>>=λx1=>(if decide (v.1<0)=true then if v.2.2.2.2.2.2.2.1.length+(1:Nat)<=4294967296 then some (((↑v.2.2.2.2.2.2.2.1.length:Int),v.2.1,x1,v.2.2.1,v.2.2.2.1,v.2.2.2.2.1,v.2.2.2.2.2.1,v.2.2.2.2.2.2.1,v.2.2.2.2.2.2.2.1++[[]],v.2.2.2.2.2.2.2.2.1,()))else none else some ((v.1,v.2.1,x1,v.2.2.1,v.2.2.2.1,v.2.2.2.2.1,v.2.2.2.2.2.1,v.2.2.2.2.2.2.1,v.2.2.2.2.2.2.2.1,v.2.2.2.2.2.2.2.2.1,())))>>=λx2=>if 0<=x2.1/\x2.1<(↑x2.2.2.2.2.2.2.2.2.1.length:Int)then x2.2.2.2.2.2.2.2.2.1[x2.1.toNat]?>>=λx3=>if x3.length+[x2.2.2.1].length<=4294967296 then if 0<=x2.1/\x2.1<(↑((VI some x2.2.2.2.2.2.2.2.2.1).set x2.1.toNat none).length:Int)then((VI some x2.2.2.2.2.2.2.2.2.1).set x2.1.toNat none)[x2.1.toNat]?>>=λx4=>Db (((VI some x2.2.2.2.2.2.2.2.2.1).set x2.1.toNat none).set x2.1.toNat (some (x3++[x2.2.2.1])))>>=λx5=>if(x2.2.2.1.toList==(T3 #[123]).toList)=true then some ((x2.1,i64.wrap (x2.2.1+1),x2.2.2.2.1,x2.2.2.2.2.1,x2.2.2.2.2.2.1,x2.2.2.2.2.2.2.1,x2.2.2.2.2.2.2.2.1,x5,x2.2.2.2.2.2.2.2.2.2.1,()))else(if(x2.2.2.1.toList==(T3 #[125]).toList)=true then some ((x2.1,x2.2.1,x2.2.2.1,x2.2.2.2.1,x2.2.2.2.2.1,x2.2.2.2.2.2.1,x2.2.2.2.2.2.2.1,x2.2.2.2.2.2.2.2.1,decide (x2.2.1>0),x5,x2.2.2.2.2.2.2.2.2.2.1,()))else some ((x2.1,x2.2.1,x2.2.2.1,x2.2.2.2.1,x2.2.2.2.2.1,x2.2.2.2.2.2.1,x2.2.2.2.2.2.2.1,x2.2.2.2.2.2.2.2.1,false,x5,x2.2.2.2.2.2.2.2.2.2.1,())))>>=λx6=>if x6.2.2.2.2.2.2.2.2.1=true then some ((x6.1,i64.wrap (x6.2.1-1),x6.2.2.2.1,x6.2.2.2.2.1,x6.2.2.2.2.2.1,x6.2.2.2.2.2.2.1,x6.2.2.2.2.2.2.2.1,x6.2.2.2.2.2.2.2.2.2.1,x6.2.2.2.2.2.2.2.2.2.2.1,()))else(if(x6.2.2.1.toList==(T3 #[59]).toList)=true then some ((x6.1,x6.2.1,x6.2.2.2.1,x6.2.2.2.2.1,x6.2.2.2.2.2.1,x6.2.2.2.2.2.2.1,x6.2.2.2.2.2.2.2.1,x6.2.1==0,x6.2.2.2.2.2.2.2.2.2.1,x6.2.2.2.2.2.2.2.2.2.2.1,()))else some ((x6.1,x6.2.1,x6.2.2.2.1,x6.2.2.2.2.1,x6.2.2.2.2.2.1,x6.2.2.2.2.2.2.1,x6.2.2.2.2.2.2.2.1,false,x6.2.2.2.2.2.2.2.2.2.1,x6.2.2.2.2.2.2.2.2.2.2.1,())))>>=λx7=>if x7.2.2.2.2.2.2.2.1=true then some (((-1:Int),x7.2.1,x7.2.2.1,x7.2.2.2.1,x7.2.2.2.2.1,x7.2.2.2.2.2.1,x7.2.2.2.2.2.2.1,x7.2.2.2.2.2.2.2.2.1,x7.2.2.2.2.2.2.2.2.2.1,()))else some ((x7.1,x7.2.1,x7.2.2.1,x7.2.2.2.1,x7.2.2.2.2.1,x7.2.2.2.2.2.1,x7.2.2.2.2.2.2.1,x7.2.2.2.2.2.2.2.2.1,x7.2.2.2.2.2.2.2.2.2.1,()))else none else none else none else none)>>=λx1=>ma (x1.1,x1.2.1,x1.2.2.1,x1.2.2.2.1,x1.2.2.2.2.1,x1.2.2.2.2.2.1,i64.wrap (x1.2.2.2.2.2.2.1+1),x1.2.2.2.2.2.2.2.1,x1.2.2.2.2.2.2.2.2.1,())else some ((v.1,v.2.1,v.2.2.1,v.2.2.2.1,v.2.2.2.2.1,v.2.2.2.2.2.2.2.1,())) partial_fixpoint
noncomputable def l_(v:Int×Int×(List ByteArray)×Int×Int×(List (List ByteArray))×Unit):Option (((List (List ByteArray))×Unit)):=if decide (v.2.2.2.2.1<v.2.2.2.1)=true then(if 0<=v.2.2.2.2.1 then v.2.2.1[v.2.2.2.2.1.toNat]?>>=λx1=>OI (x1,T3 #[35],())>>=λx2=>if x2.1=true then ji (x1,())>>=λx3=>if v.2.2.2.2.2.1.length+[x3.1].length<=4294967296 then some ((v.1,v.2.1,v.2.2.1,v.2.2.2.1,v.2.2.2.2.1,v.2.2.2.2.2.1++[x3.1],()))else none else ji (x1,())>>=λx3=>ma (v.1,v.2.1,v.2.2.1,v.2.2.2.1,v.2.2.2.2.1,(↑x3.1.length:Int),(0:Int),v.2.2.2.2.2.1,x3.1,())>>=λx4=>some ((x4.1,x4.2.1,x4.2.2.1,x4.2.2.2.1,x4.2.2.2.2.1,x4.2.2.2.2.2.1,()))else none)>>=λx1=>l_ (x1.1,x1.2.1,x1.2.2.1,x1.2.2.2.1,i64.wrap (x1.2.2.2.2.1+1),x1.2.2.2.2.2.1,())else some ((v.2.2.2.2.2.1,())) partial_fixpoint
noncomputable def LY(v:ByteArray×Unit):Option ((List (List ByteArray))×Unit):=OH (v.1,T3 #[10],())>>=λx1=>l_ ((-1:Int),(0:Int),x1.1,(↑x1.1.length:Int),(0:Int),[],())>>=λx2=>some ((x2.1,()))
def zq:=kO vj (kP K5 (kP K6 k0))
def x34:Xc vw:={P:=prog,n:=72,call:=zq.1,pre:=P2,sh:=SP,joins:=λk=>match k with|14=>some (ME,[.norm])|21=>some (Kk,[.norm])|22=>some (Hf,[.norm])|_=>none,regs:=λk=>match k with|17=>some MF|19=>some MG|_=>none,loops:=λk=>match k with|4=>some {cut:=Hf,alts:=[.exit 0],F:=l_}|9=>some {cut:=Kk,alts:=[.exit 2],F:=ma}|_=>none}
theorem EE:dU x34 (ai (ai (af Tryz.f34) 0) 0) ⟨Kk,[.exit 2],ma⟩:=lp0 ma.partial_correctness zq.2
theorem ED:dU x34 (ai (af Tryz.f34) 0) ⟨Hf,[.exit 0],l_⟩:=lp1 l_.partial_correctness zq.2 EE
theorem yg:aq prog 34 QF LY:=fn1 x34 Tryz.func34 zq.2 ED
def uu:Cut SN:=⟨[(0, .bp 100000 0),(1, .bp 100001 0)],[(100000, .box none [.bp 100002 0]),(100001, .box none [.vh 100003]),(100002, .box none [.vh 100003]),(100003, .vec 44 (.st .itemT))]⟩
def FZ:ax vw:={rcut:=uu}
def m9:Sig vw:={params:=[.bp 100000 0, .bp 100001 0],objs:=[(100000, .box none [.bp 100002 0]),(100001, .box none [.dat (.sl (.st .itemT))]),(100002, .box none [.vh 100003]),(100003, .vec 44 (.st .itemT))],rcut:=uu,rvars:=[],keep:=[100000,100001,100002,100003]}
noncomputable def mi(v:(List Item)×(List Item)×Unit):Option ((List Item)×Unit):=some ((v.2.1,()))
def At:Xc vw:=mX prog 6 c0 FZ [] [] []
theorem tt:C7 prog 67 m9 mi:=λv r x h hx=>
 Nb (X:=At) (sig:=m9) rfl Tryz.func67 (c:=af Tryz.f67) (by kernel_rfl) Tryz.ntmps67 (by kernel_rfl) (by kernel_rfl) rfl Ty.mixed bI rfl (λC hP hN=>(bm (bj (by kernel_rfl) trivial))) (bj (by kernel_rfl) h) x hx
theorem vm:aq prog 67 m9 mi:=fn0 At Tryz.func67 bI
def fj:Cut SN:=⟨[(0, .bp 100000 0),(2, .dat .str)],[(100000, .box none [.bp 100001 0, .dat (.sl .str), .dat .bool]),(100001, .box none [.vh 100002]),(100002, .vec 44 (.st .itemT))]⟩
def Cq:ax vw:={rcut:=fj}
def yV:Sig vw:={params:=[.bp 100000 0],objs:=[(100000, .box none [.bp 100001 0, .dat (.sl .str), .dat .bool]),(100001, .box none [.vh 100002]),(100002, .vec 44 (.st .itemT))],rcut:=fj,rvars:=[.tmp 2],keep:=[100000,100001,100002]}
noncomputable def fv(v:(List ByteArray)×Bool×(List Item)×Unit):Option (ByteArray×(List ByteArray)×Bool×(List Item)×Unit):=if((↑v.1.length:Int)==0)=true then some ((T3 #[],v.1,v.2.1,v.2.2.1,()))else v.1[U6 0]?>>=λx1=>some ((x1,v.1,v.2.1,v.2.2.1,()))
def GW:Xc vw:=mX prog 15 c0 Cq [] [] []
theorem ir:aq prog 162 yV fv:=fn0 GW Tryz.func162 bI
def xb:Cut SN:=⟨[(0, .bp 100000 0),(12, .dat .bool)],[(100000, .box none [.bp 100001 0, .dat (.sl .str), .dat .bool]),(100001, .box none [.vh 100002]),(100002, .vec 44 (.st .itemT))]⟩
def rx:Cut SN:=⟨[(0, .bp 100000 0),(4, .dat .bool)],[(100000, .box none [.bp 100001 0, .dat (.sl .str), .dat .bool]),(100001, .box none [.vh 100002]),(100002, .vec 44 (.st .itemT))]⟩
def Cl:ax vw:={rcut:=rx}
def yQ:Sig vw:={params:=[.bp 100000 0, .dat .str],objs:=[(100000, .box none [.bp 100001 0, .dat (.sl .str), .dat .bool]),(100001, .box none [.vh 100002]),(100002, .vec 44 (.st .itemT))],rcut:=rx,rvars:=[.tmp 4],keep:=[100000,100001,100002]}
noncomputable def cX(v:ByteArray×(List ByteArray)×Bool×(List Item)×Unit):Option (Bool×(List ByteArray)×Bool×(List Item)×Unit):=(fv (v.2.1,v.2.2.1,v.2.2.2.1,())>>=λx1=>if x1.2.2.2.1.length=v.2.2.2.1.length then if(!x1.1.toList==v.1.toList)=true then some ((true,x1.2.1,x1.2.2.1,x1.2.2.2.1,()))else some ((v.1.toList==(T3 #[]).toList,x1.2.1,x1.2.2.1,x1.2.2.2.1,()))else none)>>=λx1=>if x1.1=true then some ((false,x1.2.1,x1.2.2.1,x1.2.2.2.1,()))else if(0:Int)<=1/\(1:Int)<=(↑x1.2.1.length:Int)/\(↑x1.2.1.length:Int)<=(↑x1.2.1.length:Int)then some ((true,List.drop (U6 1) (W0 (↑x1.2.1.length:Int).toNat x1.2.1),x1.2.2.1,x1.2.2.2.1,()))else none
def nu:=kO ir k0
def GR:Xc vw:=mX prog 21 nu.1 Cl [] [(1,xb)] []
theorem cK:aq prog 156 yQ cX:=fn0 GR Tryz.func156 nu.2
def kH:Cut SN:=⟨[(0, .bp 100000 0),(6, .dat (.sl .str)),(7, .dat (.int .i64)),(8, .dat (.int .i64))],[(100000, .box none [.bp 100001 0, .dat (.sl .str), .dat .bool]),(100001, .box none [.vh 100002]),(100002, .vec 44 (.st .itemT))]⟩
def kG:Cut SN:=⟨[(0, .bp 100000 0)],[(100000, .box none [.bp 100001 0, .dat (.sl .str), .dat .bool]),(100001, .box none [.vh 100002]),(100002, .vec 44 (.st .itemT))]⟩
def Cj:ax vw:=shL [(0,kG)] kG
def yO:Sig vw:={params:=[.bp 100000 0, .dat (.sl .str)],objs:=[(100000, .box none [.bp 100001 0, .dat (.sl .str), .dat .bool]),(100001, .box none [.vh 100002]),(100002, .vec 44 (.st .itemT))],rcut:=kG,rvars:=[],keep:=[100000,100001,100002]}
noncomputable def cf(v:(List ByteArray)×Int×Int×(List ByteArray)×Bool×(List Item)×Unit):Option (((List ByteArray)×Bool×(List Item)×Unit)):=if decide (v.2.2.1<v.2.1)=true then(if 0<=v.2.2.1 then v.1[v.2.2.1.toNat]?>>=λx1=>cX (x1,v.2.2.2.1,v.2.2.2.2.1,v.2.2.2.2.2.1,())>>=λx2=>if x2.2.2.2.1.length=v.2.2.2.2.2.1.length then if(!x2.1)=true then some ((v.1,v.2.1,v.2.2.1,x2.2.1,true,x2.2.2.2.1,()))else some ((v.1,v.2.1,v.2.2.1,x2.2.1,x2.2.2.1,x2.2.2.2.1,()))else none else none)>>=λx1=>cf (x1.1,x1.2.1,i64.wrap (x1.2.2.1+1),x1.2.2.2.1,x1.2.2.2.2.1,x1.2.2.2.2.2.1,())else some ((v.2.2.2.1,v.2.2.2.2.1,v.2.2.2.2.2.1,())) partial_fixpoint
noncomputable def bw(v:(List ByteArray)×(List ByteArray)×Bool×(List Item)×Unit):Option ((List ByteArray)×Bool×(List Item)×Unit):=cf (v.1,(↑v.1.length:Int),(0:Int),v.2.1,v.2.2.1,v.2.2.2.1,())>>=λx1=>some ((x1.1,x1.2.1,x1.2.2.1,()))
def i_:=kO cK k0
def wy:Xc vw:=mX prog 20 i_.1 Cj [(5,kH,[.norm])] [] [(1,⟨kH,[.exit 0],cf⟩)]
theorem pK:dU wy (ai (af Tryz.f154) 0) ⟨kH,[.exit 0],cf⟩:=lp0 cf.partial_correctness i_.2
theorem fe:aq prog 154 yO bw:=fn1 wy Tryz.func154 i_.2 pK
def oN:Cut SN:=⟨[(0, .bp 100000 0),(3, .dat .str)],[(100000, .box none [.bp 100001 0, .dat (.sl .str), .dat .bool]),(100001, .box none [.vh 100002]),(100002, .vec 44 (.st .itemT))]⟩
def Cs:ax vw:={rcut:=fj}
def yX:Sig vw:={params:=[.bp 100000 0],objs:=[(100000, .box none [.bp 100001 0, .dat (.sl .str), .dat .bool]),(100001, .box none [.vh 100002]),(100002, .vec 44 (.st .itemT))],rcut:=fj,rvars:=[.tmp 2],keep:=[100000,100001,100002]}
noncomputable def eA(v:(List ByteArray)×Bool×(List Item)×Unit):Option (ByteArray×(List ByteArray)×Bool×(List Item)×Unit):=fv (v.1,v.2.1,v.2.2.1,())>>=λx1=>if x1.2.2.2.1.length=v.2.2.1.length then(if(!x1.1.toList==(T3 #[]).toList)=true then if(0:Int)<=1/\(1:Int)<=(↑x1.2.1.length:Int)/\(↑x1.2.1.length:Int)<=(↑x1.2.1.length:Int)then some ((x1.1,List.drop (U6 1) (W0 (↑x1.2.1.length:Int).toNat x1.2.1),x1.2.2.1,x1.2.2.2.1,()))else none else some ((x1.1,x1.2.1,x1.2.2.1,x1.2.2.2.1,())))>>=λx2=>some ((x2.1,x2.2.1,x2.2.2.1,x2.2.2.2.1,()))else none
def nz:=kO ir k0
def GX:Xc vw:=mX prog 17 nz.1 Cs [(4,oN,[.norm])] [] []
theorem ff:aq prog 164 yX eA:=fn0 GX Tryz.func164 nz.2
def Qq:ax vw:={rcut:=dn}
def N3:Sig vw:=sg [.dat .str] dn [.tmp 2]
noncomputable def Ey(v:ByteArray×Unit):Option (Bool×Unit):=(if(v.1.toList==(T3 #[99,104,97,114]).toList)=true then some ((true,()))else if(v.1.toList==(T3 #[115,104,111,114,116]).toList)=true then some ((true,()))else if(v.1.toList==(T3 #[105,110,116]).toList)=true then some ((true,()))else if(v.1.toList==(T3 #[108,111,110,103]).toList)=true then some ((true,()))else if(v.1.toList==(T3 #[117,110,115,105,103,110,101,100]).toList)=true then some ((true,()))else if(v.1.toList==(T3 #[118,111,105,100]).toList)=true then some ((true,()))else if(v.1.toList==(T3 #[115,116,114,117,99,116]).toList)=true then some ((true,()))else some ((v.1.toList==(T3 #[101,110,117,109]).toList,())))>>=λx1=>if x1.1=true then some ((true,()))else some ((false,()))
def TU:Xc vw:=mX prog 13 c0 Qq [(10,iW,[.norm])] [] []
theorem H8:aq prog 182 N3 Ey:=fn0 TU Tryz.func182 bI
def xa:Cut SN:=⟨[(0, .bp 100000 0),(3, .dat .str),(17, .dat .bool)],[(100000, .box none [.bp 100001 0, .dat (.sl .str), .dat .bool]),(100001, .box none [.vh 100002]),(100002, .vec 44 (.st .itemT))]⟩
def Ck:ax vw:={rcut:=fj}
def yP:Sig vw:={params:=[.bp 100000 0],objs:=[(100000, .box none [.bp 100001 0, .dat (.sl .str), .dat .bool]),(100001, .box none [.vh 100002]),(100002, .vec 44 (.st .itemT))],rcut:=fj,rvars:=[.tmp 2],keep:=[100000,100001,100002]}
noncomputable def bX(v:(List ByteArray)×Bool×(List Item)×Unit):Option (ByteArray×(List ByteArray)×Bool×(List Item)×Unit):=eA (v.1,v.2.1,v.2.2.1,())>>=λx1=>if x1.2.2.2.1.length=v.2.2.1.length then((if(x1.1.toList==(T3 #[]).toList)=true then some ((x1.1,true,x1.2.1,x1.2.2.1,x1.2.2.2.1,()))else x1.1[U6 0]?>>=λx2=>JJ ((↑x2.toNat:Int),())>>=λx3=>if(!x3.1)=true then some ((x1.1,true,x1.2.1,x1.2.2.1,x1.2.2.2.1,()))else Ey (x1.1,())>>=λx4=>some ((x1.1,x4.1,x1.2.1,x1.2.2.1,x1.2.2.2.1,())))>>=λx2=>if x2.2.1=true then some ((x2.1,x2.2.2.1,true,x2.2.2.2.2.1,()))else some ((x2.1,x2.2.2.1,x2.2.2.2.1,x2.2.2.2.2.1,())))>>=λx2=>some ((x2.1,x2.2.1,x2.2.2.1,x2.2.2.2.1,()))else none
def nt:=kP yk (kO ff (kP H8 k0))
def GQ:Xc vw:=mX prog 22 nt.1 Ck [(4,oN,[.norm])] [(2,xa)] []
theorem ea:aq prog 155 yP bX:=fn0 GQ Tryz.func155 nt.2
def O6:Cut SN:=⟨[(2, .dat (.int .i64)),(3, .dat .er)],[]⟩
def N1:Sig vw:=sg [.dat .str] O6 [.tmp 2, .tmp 3]
noncomputable def BD(v:ByteArray×Unit):Option (Int×Bool×Unit):=if v.1.size<=1000000000000 then(match Lib.atoiAll v.1.data.toList with| .ok n=>some (n,false,())| .range=>some (Lib.atoiSat v.1.data.toList,true,())|_=>some (0,true,()))else none
theorem zM:aq prog 170 N1 BD:=λv r x h hx=>by
 obtain⟨s,u⟩:=v
 unfold BD at h
 split at h
 ·rename_i hc
  simp only at hc h
  cases hq:Lib.atoiAll s.data.toList with
  |ok n=>
   simp only[hq]at h
   cases h;cases hx
   exact bj (by kernel_rfl) (gr.pure (P:=prog) (f:=170) (args:=[.d (.v (.string s))]) (r:= .tup [.d (.v (.int .i64 n)), .d (.er false)]) (by kernel_rfl) λE M w vs hg hm hv=>by
    obtain⟨v1,rfl,h1⟩:=gD hv
    rw[h1.dv]
    exact(Tryz.strconv_Atoi_ok s (by omega) n hq w).mono λe w' ⟨he,hw⟩=>⟨_,he,xV .ern,wK hw⟩)
  |range=>
   simp only[hq]at h
   cases h;cases hx
   exact bj (by kernel_rfl) (gr.pure (P:=prog) (f:=170) (args:=[.d (.v (.string s))]) (r:= .tup [.d (.v (.int .i64 (Lib.atoiSat s.data.toList))), .d (.er true)]) (by kernel_rfl) λE M w vs hg hm hv=>by
    obtain⟨v1,rfl,h1⟩:=gD hv
    rw[h1.dv]
    obtain⟨te,pe,hev⟩:=Hw hg hm
    exact(Tryz.strconv_Atoi_range s (by omega) hq _ w hev (.inr ⟨te,pe,rfl⟩)).mono λe w' ⟨N,he,_,_,hw⟩=>⟨_,he,xV (.ere _ _),hw⟩)
  |_=>
   simp only[hq]at h
   cases h;cases hx
   exact bj (by kernel_rfl) (gr.pure (P:=prog) (f:=170) (args:=[.d (.v (.string s))]) (r:= .tup [.d (.v (.int .i64 0)), .d (.er true)]) (by kernel_rfl) λE M w vs hg hm hv=>by
    obtain⟨v1,rfl,h1⟩:=gD hv
    rw[h1.dv]
    obtain⟨te,pe,hev⟩:=DY hg hm
    exact(Tryz.strconv_Atoi_syntax s (by omega) ⟨λn hn=>(by rw[hq]at hn;cases hn),λhn=>(by rw[hq]at hn;cases hn)⟩ _ w hev (.inr ⟨te,pe,rfl⟩)).mono λe w' ⟨N,he,_,_,hw⟩=>⟨_,he,xV (.ere _ _),hw⟩)
 ·cases h
def xc:Cut SN:=⟨[(0, .bp 100000 0),(4, .dat (.int .i64))],[(100000, .box none [.bp 100001 0, .dat (.sl .str), .dat .bool]),(100001, .box none [.vh 100002]),(100002, .vec 44 (.st .itemT))]⟩
def xd:Cut SN:=⟨[(0, .bp 100000 0),(4, .dat (.int .i64)),(25, .dat .bool)],[(100000, .box none [.bp 100001 0, .dat (.sl .str), .dat .bool]),(100001, .box none [.vh 100002]),(100002, .vec 44 (.st .itemT))]⟩
def ry:Cut SN:=⟨[(0, .bp 100000 0),(2, .dat (.int .i64))],[(100000, .box none [.bp 100001 0, .dat (.sl .str), .dat .bool]),(100001, .box none [.vh 100002]),(100002, .vec 44 (.st .itemT))]⟩
def Cm:ax vw:={rcut:=ry}
def yR:Sig vw:={params:=[.bp 100000 0],objs:=[(100000, .box none [.bp 100001 0, .dat (.sl .str), .dat .bool]),(100001, .box none [.vh 100002]),(100002, .vec 44 (.st .itemT))],rcut:=ry,rvars:=[.tmp 2],keep:=[100000,100001,100002]}
noncomputable def gQ(v:(List ByteArray)×Bool×(List Item)×Unit):Option (Int×(List ByteArray)×Bool×(List Item)×Unit):=eA (v.1,v.2.1,v.2.2.1,())>>=λx1=>if x1.2.2.2.1.length=v.2.2.1.length then BD (x1.1,())>>=λx2=>((if x2.2.1=true then some ((x2.1,true,x1.2.1,x1.2.2.1,x1.2.2.2.1,()))else x1.1[U6 0]?>>=λx3=>G8 ((↑x3.toNat:Int),())>>=λx4=>if(!x4.1)=true then some ((x2.1,true,x1.2.1,x1.2.2.1,x1.2.2.2.1,()))else some ((x2.1,decide ((↑x1.1.size:Int)>9),x1.2.1,x1.2.2.1,x1.2.2.2.1,())))>>=λx3=>if x3.2.1=true then some ((x3.1,x3.2.2.1,true,x3.2.2.2.2.1,()))else some ((x3.1,x3.2.2.1,x3.2.2.2.1,x3.2.2.2.2.1,())))>>=λx3=>some ((x3.1,x3.2.1,x3.2.2.1,x3.2.2.2.1,()))else none
def nv:=kP yl (kO ff (kP zM k0))
def GS:Xc vw:=mX prog 30 nv.1 Cm [(5,xc,[.norm])] [(3,xd)] []
theorem lV:aq prog 157 yR gQ:=fn0 GS Tryz.func157 nv.2
def ek:Cut SN:=⟨[(1, .bp 100000 0),(2, .bp 100001 0),(4, .dat .bool)],[(100000, .box none [.dat (.int .i64)]),(100001, .box none [.dat .str])]⟩
def Cw:ax vw:={rcut:=ek}
def y6:Sig vw:={params:=[.dat (.st .itemT), .bp 100000 0, .bp 100001 0],objs:=[(100000, .box none [.dat (.int .i64)]),(100001, .box none [.dat .str])],rcut:=ek,rvars:=[.tmp 4],keep:=[100000,100001]}
noncomputable def jO(v:Item×Int×ByteArray×Unit):Option (Bool×Int×ByteArray×Unit):=(if(v.1.kind==v.2.1)=true then some ((v.1.name0.toList==v.2.2.1.toList,v.2.1,v.2.2.1,()))else some ((false,v.2.1,v.2.2.1,())))>>=λx1=>some ((x1.1,x1.2.1,x1.2.2.1,()))
def G1:Xc vw:=mX prog 15 c0 Cw [] [(1,ek)] []
theorem tm:aq prog 186 y6 jO:=fn0 G1 Tryz.func186 bI
def rN:Cut SN:=⟨[(0, .vh 100000),(1, .fn 186 [] [100001,100002]),(7, .dat (.int .i64)),(8, .dat (.int .i64))],[(100000, .vec 44 (.st .itemT)),(100001, .box none [.dat (.int .i64)]),(100002, .box none [.dat .str])]⟩
def AV:Cut SN:=⟨[(0, .vh 100000),(1, .fn 186 [] [100001,100002])],[(100000, .vec 44 (.st .itemT)),(100001, .box none [.dat (.int .i64)]),(100002, .box none [.dat .str])]⟩
def uA:Cut SN:=⟨[(0, .vh 100000),(1, .fn 186 [] [100001,100002]),(4, .dat (.int .i64))],[(100000, .vec 44 (.st .itemT)),(100001, .box none [.dat (.int .i64)]),(100002, .box none [.dat .str])]⟩
def F4:ax vw:=shL [(0,AV)] uA
def CJ:Sig vw:={params:=[.vh 100000, .fn 186 [] [100001,100002]],objs:=[(100000, .vec 44 (.st .itemT)),(100001, .box none [.dat (.int .i64)]),(100002, .box none [.dat .str])],rcut:=uA,rvars:=[.tmp 4],keep:=[100000,100001,100002]}
noncomputable def cR(v:Int×Int×(List Item)×Int×ByteArray×Unit):Option (((Int×(List Item)×Int×ByteArray×Unit)⊕((List Item)×Int×ByteArray×Unit))):=if decide (v.2.1<v.1)=true then if 0<=v.2.1/\v.2.1<(↑v.2.2.1.length:Int)then v.2.2.1[v.2.1.toNat]?>>=λx1=>jO (x1,v.2.2.2.1,v.2.2.2.2.1,())>>=λx2=>if x2.1=true then some (UR (v.2.1,v.2.2.1,x2.2.1,x2.2.2.1,()))else cR (v.1,i64.wrap (v.2.1+1),v.2.2.1,x2.2.1,x2.2.2.1,())else none else some (UW (v.2.2.1,v.2.2.2.1,v.2.2.2.2.1,())) partial_fixpoint
noncomputable def mn(v:(List Item)×Int×ByteArray×Unit):Option (Int×(List Item)×Int×ByteArray×Unit):=cR ((↑v.1.length:Int),(0:Int),v.1,v.2.1,v.2.2.1,())>>=λx1=>match x1 with| .inl y1=>some y1| .inr y1=>some (((-1:Int),y1.1,y1.2.1,y1.2.2.1,()))
def kT:=kO tm k0
def Ay:Xc vw:=mX prog 19 kT.1 F4 [] [] [(2,⟨rN,[.ret, .exit 0],cR⟩)]
theorem qV:dU Ay (ai (af Tryz.f83) 0) ⟨rN,[.ret, .exit 0],cR⟩:=lp0 cR.partial_correctness kT.2
theorem vt:aq prog 83 CJ mn:=fn1 Ay Tryz.func83 kT.2 qV
def rC:Cut SN:=⟨[(0, .vh 100000),(1, .fn 186 [] [100001,100002]),(4, .dat .bool)],[(100000, .vec 44 (.st .itemT)),(100001, .box none [.dat (.int .i64)]),(100002, .box none [.dat .str])]⟩
def Ct:ax vw:={rcut:=rC}
def yY:Sig vw:={params:=[.vh 100000, .fn 186 [] [100001,100002]],objs:=[(100000, .vec 44 (.st .itemT)),(100001, .box none [.dat (.int .i64)]),(100002, .box none [.dat .str])],rcut:=rC,rvars:=[.tmp 4],keep:=[100000,100001,100002]}
noncomputable def mV(v:(List Item)×Int×ByteArray×Unit):Option (Bool×(List Item)×Int×ByteArray×Unit):=mn (v.1,v.2.1,v.2.2.1,())>>=λx1=>if x1.2.1.length=v.1.length then some ((decide (x1.1>=0),x1.2.1,x1.2.2.1,x1.2.2.2.1,()))else none
def nA:=kO vt k0
def GY:Xc vw:=mX prog 9 nA.1 Ct [] [] []
theorem th:aq prog 183 yY mV:=fn0 GY Tryz.func183 nA.2
def rz:Cut SN:=⟨[(0, .bp 100000 0),(6, .dat .bool)],[(100000, .box none [.vh 100001]),(100001, .vec 44 (.st .itemT))]⟩
def Co:ax vw:={rcut:=rz}
def yT:Sig vw:={params:=[.bp 100000 0, .dat (.int .i64), .dat .str],objs:=[(100000, .box none [.vh 100001]),(100001, .vec 44 (.st .itemT))],rcut:=rz,rvars:=[.tmp 6],keep:=[100000,100001]}
noncomputable def dy(v:Int×ByteArray×(List Item)×Unit):Option (Bool×(List Item)×Unit):=mV (v.2.2.1,v.1,v.2.1,())>>=λx1=>if x1.2.1.length=v.2.2.1.length then some ((x1.1,x1.2.1,()))else none
def nx:=kO th k0
def GU:Xc vw:=mX prog 13 nx.1 Co [] [] []
theorem eb:aq prog 159 yT dy:=fn0 GU Tryz.func159 nx.2
def MH:Cut SN:=⟨[(0, .dat (.sl .str)),(1, .dat .str),(7, .dat (.int .i64)),(8, .dat (.int .i64))],[]⟩
def uq:Cut SN:=⟨[],[]⟩
def SV:ax vw:=shL [(0,uq)] nW
def QK:Sig vw:=sg [.dat (.sl .str), .dat .str] nW [.tmp 4]
noncomputable def md(v:(List ByteArray)×ByteArray×Int×Int×Unit):Option (((Int×Unit)⊕(Unit))):=if decide (v.2.2.2.1<v.2.2.1)=true then if 0<=v.2.2.2.1 then v.1[v.2.2.2.1.toNat]?>>=λx1=>if(v.2.1.toList==x1.toList)=true then some (UR (v.2.2.2.1,()))else md (v.1,v.2.1,v.2.2.1,i64.wrap (v.2.2.2.1+1),())else none else some (UW ()) partial_fixpoint
noncomputable def L0(v:(List ByteArray)×ByteArray×Unit):Option (Int×Unit):=md (v.1,v.2.1,(↑v.1.length:Int),(0:Int),())>>=λx1=>match x1 with| .inl y1=>some y1| .inr y1=>some (((-1:Int),()))
def x44:Xc vw:=mX prog 19 c0 SV [] [] [(2,⟨MH,[.ret, .exit 0],md⟩)]
theorem EJ:dU x44 (ai (af Tryz.f44) 0) ⟨MH,[.ret, .exit 0],md⟩:=lp0 md.partial_correctness bI
theorem EI:aq prog 44 QK L0:=fn1 x44 Tryz.func44 bI EJ
def Qr:ax vw:={rcut:=iW}
def N4:Sig vw:=sg [.dat (.sl .str), .dat .str] iW [.tmp 4]
noncomputable def Ez(v:(List ByteArray)×ByteArray×Unit):Option (Bool×Unit):=L0 (v.1,v.2.1,())>>=λx1=>some ((decide (x1.1>=0),()))
def Dw:=kP EI k0
def TW:Xc vw:=mX prog 9 Dw.1 Qr [] [] []
theorem zN:aq prog 185 N4 Ez:=fn0 TW Tryz.func185 Dw.2
def kK:Cut SN:=⟨[(1, .bp 100000 0),(3, .dat .bool)],[(100000, .box none [.dat .str])]⟩
def Cv:ax vw:={rcut:=kK}
def y5:Sig vw:={params:=[.dat (.st .itemT), .bp 100000 0],objs:=[(100000, .box none [.dat .str])],rcut:=kK,rvars:=[.tmp 3],keep:=[100000]}
noncomputable def jN(v:Item×ByteArray×Unit):Option (Bool×ByteArray×Unit):=(if(v.1.kind==1)=true then Ez (v.1.names,v.2.1,())>>=λx1=>some ((x1.1,v.2.1,()))else some ((false,v.2.1,())))>>=λx1=>some ((x1.1,x1.2.1,()))
def nC:=kP zN k0
def G0:Xc vw:=mX prog 13 nC.1 Cv [] [(1,kK)] []
theorem tj:aq prog 184 y5 jN:=fn0 G0 Tryz.func184 nC.2
def rO:Cut SN:=⟨[(0, .vh 100000),(1, .fn 184 [] [100001]),(7, .dat (.int .i64)),(8, .dat (.int .i64))],[(100000, .vec 44 (.st .itemT)),(100001, .box none [.dat .str])]⟩
def AW:Cut SN:=⟨[(0, .vh 100000),(1, .fn 184 [] [100001])],[(100000, .vec 44 (.st .itemT)),(100001, .box none [.dat .str])]⟩
def uB:Cut SN:=⟨[(0, .vh 100000),(1, .fn 184 [] [100001]),(4, .dat (.int .i64))],[(100000, .vec 44 (.st .itemT)),(100001, .box none [.dat .str])]⟩
def F5:ax vw:=shL [(0,AW)] uB
def CK:Sig vw:={params:=[.vh 100000, .fn 184 [] [100001]],objs:=[(100000, .vec 44 (.st .itemT)),(100001, .box none [.dat .str])],rcut:=uB,rvars:=[.tmp 4],keep:=[100000,100001]}
noncomputable def cS(v:Int×Int×(List Item)×ByteArray×Unit):Option (((Int×(List Item)×ByteArray×Unit)⊕((List Item)×ByteArray×Unit))):=if decide (v.2.1<v.1)=true then if 0<=v.2.1/\v.2.1<(↑v.2.2.1.length:Int)then v.2.2.1[v.2.1.toNat]?>>=λx1=>jN (x1,v.2.2.2.1,())>>=λx2=>if x2.1=true then some (UR (v.2.1,v.2.2.1,x2.2.1,()))else cS (v.1,i64.wrap (v.2.1+1),v.2.2.1,x2.2.1,())else none else some (UW (v.2.2.1,v.2.2.2.1,())) partial_fixpoint
noncomputable def mo(v:(List Item)×ByteArray×Unit):Option (Int×(List Item)×ByteArray×Unit):=cS ((↑v.1.length:Int),(0:Int),v.1,v.2.1,())>>=λx1=>match x1 with| .inl y1=>some y1| .inr y1=>some (((-1:Int),y1.1,y1.2.1,()))
def kU:=kO tj k0
def Az:Xc vw:=mX prog 19 kU.1 F5 [] [] [(2,⟨rO,[.ret, .exit 0],cS⟩)]
theorem qW:dU Az (ai (af Tryz.f83) 0) ⟨rO,[.ret, .exit 0],cS⟩:=lp0 cS.partial_correctness kU.2
theorem vu:aq prog 83 CK mo:=fn1 Az Tryz.func83 kU.2 qW
def rD:Cut SN:=⟨[(0, .vh 100000),(1, .fn 184 [] [100001]),(4, .dat .bool)],[(100000, .vec 44 (.st .itemT)),(100001, .box none [.dat .str])]⟩
def Cu:ax vw:={rcut:=rD}
def yZ:Sig vw:={params:=[.vh 100000, .fn 184 [] [100001]],objs:=[(100000, .vec 44 (.st .itemT)),(100001, .box none [.dat .str])],rcut:=rD,rvars:=[.tmp 4],keep:=[100000,100001]}
noncomputable def jM(v:(List Item)×ByteArray×Unit):Option (Bool×(List Item)×ByteArray×Unit):=mo (v.1,v.2.1,())>>=λx1=>if x1.2.1.length=v.1.length then some ((decide (x1.1>=0),x1.2.1,x1.2.2.1,()))else none
def nB:=kO vu k0
def GZ:Xc vw:=mX prog 9 nB.1 Cu [] [] []
theorem ti:aq prog 183 yZ jM:=fn0 GZ Tryz.func183 nB.2
def kI:Cut SN:=⟨[(0, .bp 100000 0),(4, .dat .bool)],[(100000, .box none [.vh 100001]),(100001, .vec 44 (.st .itemT))]⟩
def Cn:ax vw:={rcut:=kI}
def yS:Sig vw:={params:=[.bp 100000 0, .dat .str],objs:=[(100000, .box none [.vh 100001]),(100001, .vec 44 (.st .itemT))],rcut:=kI,rvars:=[.tmp 4],keep:=[100000,100001]}
noncomputable def gR(v:ByteArray×(List Item)×Unit):Option (Bool×(List Item)×Unit):=(dy ((0:Int),v.1,v.2.1,())>>=λx1=>if x1.2.1.length=v.2.1.length then if x1.1=true then some ((true,x1.2.1,()))else jM (x1.2.1,v.1,())>>=λx2=>if x2.2.1.length=x1.2.1.length then some ((x2.1,x2.2.1,()))else none else none)>>=λx1=>some ((x1.1,x1.2.1,()))
def nw:=kO eb (kO ti k0)
def GT:Xc vw:=mX prog 16 nw.1 Cn [] [(1,kI)] []
theorem lW:aq prog 158 yS gR:=fn0 GT Tryz.func158 nw.2
def oL:Cut SN:=⟨[(0, .bp 100000 0),(2, .bp 2 0),(3, .bp 3 0)],[(100000, .box none [.bp 100001 0, .dat (.sl .str), .dat .bool]),(2, .st .itemT),(3, .st .itemT),(100001, .box none [.vh 100002]),(100002, .vec 44 (.st .itemT))]⟩
def dO:Cut SN:=⟨[(0, .bp 100000 0),(2, .bp 2 0)],[(100000, .box none [.bp 100001 0, .dat (.sl .str), .dat .bool]),(100001, .box none [.vh 100002]),(100002, .vec 44 (.st .itemT)),(2, .st .itemT)]⟩
def B8:ax vw:={rcut:=dO}
def qf:Sig vw:={params:=[.bp 100000 0],objs:=[(100000, .box none [.bp 100001 0, .dat (.sl .str), .dat .bool]),(100001, .box none [.vh 100002]),(100002, .vec 44 (.st .itemT))],rcut:=dO,rvars:=[.cell 2 44],keep:=[100000,100001,100002]}
noncomputable def fp(v:(List ByteArray)×Bool×(List Item)×Unit):Option ((List ByteArray)×Bool×(List Item)×Item×Unit):=bw ([T3 #[35],T3 #[100,101,102,105,110,101]],v.1,v.2.1,v.2.2.1,())>>=λx1=>if x1.2.2.1.length=v.2.2.1.length then bX (x1.1,x1.2.1,x1.2.2.1,())>>=λx2=>if x2.2.2.2.1.length=x1.2.2.1.length then cX (T3 #[45],x2.2.1,x2.2.2.1,x2.2.2.2.1,())>>=λx3=>if x3.2.2.2.1.length=x2.2.2.2.1.length then gQ (x3.2.1,x3.2.2.1,x3.2.2.2.1,())>>=λx4=>if x4.2.2.2.1.length=x3.2.2.2.1.length then(if x3.1=true then some ((x4.2.1,x4.2.2.1,Item.mk 0 (T3 #[]) (0:Int) [] (aa.mk 0 0 false []),Item.mk (Item.mk 0 x2.1 (0:Int) [] (aa.mk 0 0 false [])).kind (Item.mk 0 x2.1 (0:Int) [] (aa.mk 0 0 false [])).name0 (i64.wrap ((0:Int) -x4.1)) (Item.mk 0 x2.1 (0:Int) [] (aa.mk 0 0 false [])).names (aa.mk (Item.mk 0 x2.1 (0:Int) [] (aa.mk 0 0 false [])).layout.kind (Item.mk 0 x2.1 (0:Int) [] (aa.mk 0 0 false [])).layout.n (Item.mk 0 x2.1 (0:Int) [] (aa.mk 0 0 false [])).layout.flag (Item.mk 0 x2.1 (0:Int) [] (aa.mk 0 0 false [])).layout.parts),x4.2.2.2.1,()))else some ((x4.2.1,x4.2.2.1,Item.mk 0 (T3 #[]) (0:Int) [] (aa.mk 0 0 false []),Item.mk (Item.mk 0 x2.1 (0:Int) [] (aa.mk 0 0 false [])).kind (Item.mk 0 x2.1 (0:Int) [] (aa.mk 0 0 false [])).name0 x4.1 (Item.mk 0 x2.1 (0:Int) [] (aa.mk 0 0 false [])).names (aa.mk (Item.mk 0 x2.1 (0:Int) [] (aa.mk 0 0 false [])).layout.kind (Item.mk 0 x2.1 (0:Int) [] (aa.mk 0 0 false [])).layout.n (Item.mk 0 x2.1 (0:Int) [] (aa.mk 0 0 false [])).layout.flag (Item.mk 0 x2.1 (0:Int) [] (aa.mk 0 0 false [])).layout.parts),x4.2.2.2.1,())))>>=λx5=>(if x5.2.1=true then some ((x5.1,true,x5.2.2.1,x5.2.2.2.1,x5.2.2.2.2.1,()))else gR (x5.2.2.2.1.name0,x5.2.2.2.2.1,())>>=λx6=>if x6.2.1.length=x5.2.2.2.2.1.length then some ((x5.1,x6.1,x5.2.2.1,x5.2.2.2.1,x6.2.1,()))else none)>>=λx6=>some ((x6.1,x6.2.1,x6.2.2.2.2.1,x6.2.2.2.1,()))else none else none else none else none
def ni:=kO fe (kO ea (kO cK (kO lV (kO lW k0))))
def GJ:Xc vw:=mX prog 38 ni.1 B8 [(7,oL,[.norm])] [(7,oL)] []
theorem s7:aq prog 122 qf fp:=fn0 GJ Tryz.func122 ni.2
def Jq:Cut SN:=⟨[(0, .dat (.sl .str)),(5, .dat (.sl .str)),(6, .dat (.int .i64)),(7, .dat (.int .i64))],[]⟩
def Ql:ax vw:=shL [(0,uq)] dn
def NY:Sig vw:=sg [.dat (.sl .str)] dn [.tmp 2]
noncomputable def iq(v:(List ByteArray)×(List ByteArray)×Int×Int×Unit):Option (((Bool×Unit)⊕(Unit))):=if decide (v.2.2.2.1<v.2.2.1)=true then if 0<=v.2.2.2.1 then v.2.1[v.2.2.2.1.toNat]?>>=λx1=>if(0:Int)<=0/\0<=v.2.2.2.1/\v.2.2.2.1<=(↑v.1.length:Int)then Ez (W0 v.2.2.2.1.toNat v.1,x1,())>>=λx2=>if x2.1=true then some (UR (false,()))else iq (v.1,v.2.1,v.2.2.1,i64.wrap (v.2.2.2.1+1),())else none else none else some (UW ()) partial_fixpoint
noncomputable def ye(v:(List ByteArray)×Unit):Option (Bool×Unit):=iq (v.1,v.1,(↑v.1.length:Int),(0:Int),())>>=λx1=>match x1 with| .inl y1=>some y1| .inr y1=>some ((true,()))
def xu:=kP zN k0
def R_:Xc vw:=mX prog 18 xu.1 Ql [] [] [(2,⟨Jq,[.ret, .exit 0],iq⟩)]
theorem BC:dU R_ (ai (af Tryz.f160) 0) ⟨Jq,[.ret, .exit 0],iq⟩:=lp0 iq.partial_correctness xu.2
theorem tf:aq prog 160 NY ye:=fn1 R_ Tryz.func160 xu.2 BC
def oO:Cut SN:=⟨[(0, .vh 100000),(1, .fn 158 [100001] []),(7, .dat (.int .i64)),(8, .dat (.int .i64))],[(100000, .vec 9 .str),(100001, .box none [.vh 100002]),(100002, .vec 44 (.st .itemT))]⟩
def xf:Cut SN:=⟨[(0, .vh 100000),(1, .fn 158 [100001] [])],[(100000, .vec 9 .str),(100001, .box none [.vh 100002]),(100002, .vec 44 (.st .itemT))]⟩
def rE:Cut SN:=⟨[(0, .vh 100000),(1, .fn 158 [100001] []),(4, .dat (.int .i64))],[(100000, .vec 9 .str),(100001, .box none [.vh 100002]),(100002, .vec 44 (.st .itemT))]⟩
def Cx:ax vw:=shL [(0,xf)] rE
def y7:Sig vw:={params:=[.vh 100000, .fn 158 [100001] []],objs:=[(100000, .vec 9 .str),(100001, .box none [.vh 100002]),(100002, .vec 44 (.st .itemT))],rcut:=rE,rvars:=[.tmp 4],keep:=[100000,100001,100002]}
noncomputable def cg(v:Int×Int×(List ByteArray)×(List Item)×Unit):Option (((Int×(List ByteArray)×(List Item)×Unit)⊕((List ByteArray)×(List Item)×Unit))):=if decide (v.2.1<v.1)=true then if 0<=v.2.1/\v.2.1<(↑v.2.2.1.length:Int)then v.2.2.1[v.2.1.toNat]?>>=λx1=>gR (x1,v.2.2.2.1,())>>=λx2=>if x2.2.1.length=v.2.2.2.1.length then if x2.1=true then some (UR (v.2.1,v.2.2.1,x2.2.1,()))else cg (v.1,i64.wrap (v.2.1+1),v.2.2.1,x2.2.1,())else none else none else some (UW (v.2.2.1,v.2.2.2.1,())) partial_fixpoint
noncomputable def jP(v:(List ByteArray)×(List Item)×Unit):Option (Int×(List ByteArray)×(List Item)×Unit):=cg ((↑v.1.length:Int),(0:Int),v.1,v.2.1,())>>=λx1=>match x1 with| .inl y1=>some y1| .inr y1=>some (((-1:Int),y1.1,y1.2.1,()))
def jb:=kO lW k0
def wA:Xc vw:=mX prog 19 jb.1 Cx [] [] [(2,⟨oO,[.ret, .exit 0],cg⟩)]
theorem pM:dU wA (ai (af Tryz.f187) 0) ⟨oO,[.ret, .exit 0],cg⟩:=lp0 cg.partial_correctness jb.2
theorem tn:aq prog 187 y7 jP:=fn1 wA Tryz.func187 jb.2 pM
def rA:Cut SN:=⟨[(0, .vh 100000),(1, .fn 158 [100001] []),(4, .dat .bool)],[(100000, .vec 9 .str),(100001, .box none [.vh 100002]),(100002, .vec 44 (.st .itemT))]⟩
def Cp:ax vw:={rcut:=rA}
def yU:Sig vw:={params:=[.vh 100000, .fn 158 [100001] []],objs:=[(100000, .vec 9 .str),(100001, .box none [.vh 100002]),(100002, .vec 44 (.st .itemT))],rcut:=rA,rvars:=[.tmp 4],keep:=[100000,100001,100002]}
noncomputable def jL(v:(List ByteArray)×(List Item)×Unit):Option (Bool×(List ByteArray)×(List Item)×Unit):=jP (v.1,v.2.1,())>>=λx1=>if x1.2.1.length=v.1.length then if x1.2.2.1.length=v.2.1.length then some ((decide (x1.1>=0),x1.2.1,x1.2.2.1,()))else none else none
def ny:=kO tn k0
def GV:Xc vw:=mX prog 9 ny.1 Cp [] [] []
theorem tg:aq prog 161 yU jL:=fn0 GV Tryz.func161 ny.2
def cn:Cut SN:=⟨[(0, .bp 100000 0),(2, .bp 2 0),(3, .bp 3 0)],[(100000, .box none [.bp 100001 0, .dat (.sl .str), .dat .bool]),(2, .st .itemT),(3, .box none [.dat (.int .i64), .dat .str, .dat (.int .i64), .vh 3033, .dat (.int .i64), .dat (.int .i64), .dat .bool, .vh 3037]),(100001, .box none [.vh 100002]),(3033, .vec 9 .str),(3037, .vec 42 (.st .layoutT)),(100002, .vec 44 (.st .itemT))]⟩
def B9:ax vw:=shL [(0,cn)] dO
def qg:Sig vw:={params:=[.bp 100000 0],objs:=[(100000, .box none [.bp 100001 0, .dat (.sl .str), .dat .bool]),(100001, .box none [.vh 100002]),(100002, .vec 44 (.st .itemT))],rcut:=dO,rvars:=[.cell 2 44],keep:=[100000,100001,100002]}
noncomputable def ca(v:(List ByteArray)×Bool×Item×Int×ByteArray×Int×Int×Int×Bool×(List ByteArray)×(List aa)×(List Item)×Unit):Option (((List ByteArray)×Bool×Item×Int×ByteArray×Int×Int×Int×Bool×(List ByteArray)×(List aa)×(List Item)×Unit)):=bX (v.1,v.2.1,v.2.2.2.2.2.2.2.2.2.2.2.1,())>>=λx1=>if x1.2.2.2.1.length=v.2.2.2.2.2.2.2.2.2.2.2.1.length then if v.2.2.2.2.2.2.2.2.2.1.length+[x1.1].length<=4294967296 then cX (T3 #[44],x1.2.1,x1.2.2.1,x1.2.2.2.1,())>>=λx2=>if x2.2.2.2.1.length=x1.2.2.2.1.length then if(!x2.1)=true then some ((x2.2.1,x2.2.2.1,v.2.2.1,v.2.2.2.1,v.2.2.2.2.1,v.2.2.2.2.2.1,v.2.2.2.2.2.2.1,v.2.2.2.2.2.2.2.1,v.2.2.2.2.2.2.2.2.1,v.2.2.2.2.2.2.2.2.2.1++[x1.1],v.2.2.2.2.2.2.2.2.2.2.1,x2.2.2.2.1,()))else ca (x2.2.1,x2.2.2.1,v.2.2.1,v.2.2.2.1,v.2.2.2.2.1,v.2.2.2.2.2.1,v.2.2.2.2.2.2.1,v.2.2.2.2.2.2.2.1,v.2.2.2.2.2.2.2.2.1,v.2.2.2.2.2.2.2.2.2.1++[x1.1],v.2.2.2.2.2.2.2.2.2.2.1,x2.2.2.2.1,())else none else none else none partial_fixpoint
noncomputable def fq(v:(List ByteArray)×Bool×(List Item)×Unit):Option ((List ByteArray)×Bool×(List Item)×Item×Unit):=bw ([T3 #[101,110,117,109]],v.1,v.2.1,v.2.2.1,())>>=λx1=>if x1.2.2.1.length=v.2.2.1.length then(bX (x1.1,x1.2.1,x1.2.2.1,())>>=λx2=>if x2.2.2.2.1.length=x1.2.2.1.length then some ((x2.2.1,x2.2.2.1,Item.mk 0 (T3 #[]) (0:Int) [] (aa.mk 0 0 false []),(1:Int),x2.1,(0:Int),(0:Int),(0:Int),false,[],[],x2.2.2.2.1,()))else none)>>=λx2=>bw ([T3 #[123]],x2.1,x2.2.1,x2.2.2.2.2.2.2.2.2.2.2.2.1,())>>=λx3=>if x3.2.2.1.length=x2.2.2.2.2.2.2.2.2.2.2.2.1.length then ca (x3.1,x3.2.1,x2.2.2.1,x2.2.2.2.1,x2.2.2.2.2.1,x2.2.2.2.2.2.1,x2.2.2.2.2.2.2.1,x2.2.2.2.2.2.2.2.1,x2.2.2.2.2.2.2.2.2.1,x2.2.2.2.2.2.2.2.2.2.1,x2.2.2.2.2.2.2.2.2.2.2.1,x3.2.2.1,())>>=λx4=>bw ([T3 #[125],T3 #[59]],x4.1,x4.2.1,x4.2.2.2.2.2.2.2.2.2.2.2.1,())>>=λx5=>if x5.2.2.1.length=x4.2.2.2.2.2.2.2.2.2.2.2.1.length then(if x5.2.1=true then some ((x5.1,true,x4.2.2.1,x4.2.2.2.1,x4.2.2.2.2.1,x4.2.2.2.2.2.1,x4.2.2.2.2.2.2.1,x4.2.2.2.2.2.2.2.1,x4.2.2.2.2.2.2.2.2.1,x4.2.2.2.2.2.2.2.2.2.1,x4.2.2.2.2.2.2.2.2.2.2.1,x5.2.2.1,()))else dy ((1:Int),x4.2.2.2.2.1,x5.2.2.1,())>>=λx6=>if x6.2.1.length=x5.2.2.1.length then if x6.1=true then some ((x5.1,true,x4.2.2.1,x4.2.2.2.1,x4.2.2.2.2.1,x4.2.2.2.2.2.1,x4.2.2.2.2.2.2.1,x4.2.2.2.2.2.2.2.1,x4.2.2.2.2.2.2.2.2.1,x4.2.2.2.2.2.2.2.2.2.1,x4.2.2.2.2.2.2.2.2.2.2.1,x6.2.1,()))else ye (x4.2.2.2.2.2.2.2.2.2.1,())>>=λx7=>if(!x7.1)=true then some ((x5.1,true,x4.2.2.1,x4.2.2.2.1,x4.2.2.2.2.1,x4.2.2.2.2.2.1,x4.2.2.2.2.2.2.1,x4.2.2.2.2.2.2.2.1,x4.2.2.2.2.2.2.2.2.1,x4.2.2.2.2.2.2.2.2.2.1,x4.2.2.2.2.2.2.2.2.2.2.1,x6.2.1,()))else jL (x4.2.2.2.2.2.2.2.2.2.1,x6.2.1,())>>=λx8=>if x8.2.1.length=x4.2.2.2.2.2.2.2.2.2.1.length then if x8.2.2.1.length=x6.2.1.length then some ((x5.1,x8.1,x4.2.2.1,x4.2.2.2.1,x4.2.2.2.2.1,x4.2.2.2.2.2.1,x4.2.2.2.2.2.2.1,x4.2.2.2.2.2.2.2.1,x4.2.2.2.2.2.2.2.2.1,x8.2.1,x4.2.2.2.2.2.2.2.2.2.2.1,x8.2.2.1,()))else none else none else none)>>=λx6=>some ((x6.1,x6.2.1,x6.2.2.2.2.2.2.2.2.2.2.2.1,Item.mk x6.2.2.2.1 x6.2.2.2.2.1 x6.2.2.2.2.2.1 x6.2.2.2.2.2.2.2.2.2.1 (aa.mk x6.2.2.2.2.2.2.1 x6.2.2.2.2.2.2.2.1 x6.2.2.2.2.2.2.2.2.1 x6.2.2.2.2.2.2.2.2.2.2.1),()))else none else none else none
def iZ:=kO fe (kO ea (kO cK (kO eb (kP tf (kO tg k0)))))
def wu:Xc vw:={P:=prog,n:=59,nm:=λd=>match d with|9=>40009|_=>d,call:=iZ.1,pre:=kp,sh:=B9,regs:=λk=>match k with|2=>some cn|7=>some cn|_=>none,loops:=λk=>match k with|4=>some {cut:=cn,alts:=[.exit 0],F:=ca}|_=>none}
theorem pE:dU wu (ai (af Tryz.f123) 0) ⟨cn,[.exit 0],ca⟩:=lp0 ca.partial_correctness iZ.2
theorem s8:aq prog 123 qg fq:=fn1 wu Tryz.func123 iZ.2 pE
def uo:Cut SN:=⟨[(1, .bp 1 0),(2, .bp 2 0),(3, .vh 1003),(7, .dat (.sl (.st .layoutT))),(8, .dat (.int .i64)),(9, .dat (.int .i64))],[(1, .st .layoutT),(2, .st .layoutT),(1003, .vec 42 (.st .layoutT))]⟩
def Mz:Cut SN:=⟨[(1, .bp 1 0),(2, .bp 2 0),(3, .vh 1003)],[(1, .st .layoutT),(2, .st .layoutT),(1003, .vec 42 (.st .layoutT))]⟩
def MA:Cut SN:=⟨[(2, .bp 2 0)],[(2, .st .layoutT)]⟩
def Lz:ax vw:=shL [(0,Mz)] MA
def iN:Sig vw:=sg [.dat (.st .layoutT)] MA [.cell 2 42]
mutual
noncomputable def eR(v:(List aa)×Int×Int×aa×aa×(List aa)×Unit):Option ((aa×aa×(List aa)×Unit)):=if decide (v.2.2.1<v.2.1)=true then if 0<=v.2.2.1 then v.1[v.2.2.1.toNat]?>>=λx1=>n_196 (x1,())>>=λx2=>if v.2.2.2.2.2.1.length+[x2.1].length<=4294967296 then eR (v.1,v.2.1,i64.wrap (v.2.2.1+1),v.2.2.2.1,v.2.2.2.2.1,v.2.2.2.2.2.1++[x2.1],())else none else none else some ((v.2.2.2.1,v.2.2.2.2.1,v.2.2.2.2.2.1,())) partial_fixpoint
noncomputable def n_196(v:aa×Unit):Option (aa×Unit):=eR (v.1.parts,(↑v.1.parts.length:Int),(0:Int),v.1,aa.mk 0 0 false [],[],())>>=λx1=>some ((aa.mk x1.1.kind x1.1.n x1.1.flag x1.2.2.1,())) partial_fixpoint
end
def xw(eR:(List aa)×Int×Int×aa×aa×(List aa)×Unit->Option ((aa×aa×(List aa)×Unit)))(n_196:aa×Unit->Option (aa×Unit)):bz vw:=λA fid args S k=>match fid with|196=>aP prog iN n_196 A args S k|_=>none
def Ar(eR:(List aa)×Int×Int×aa×aa×(List aa)×Unit->Option ((aa×aa×(List aa)×Unit)))(n_196:aa×Unit->Option (aa×Unit)):Xc vw:={P:=prog,n:=22,call:=xw eR n_196,pre:=kp,sh:=Lz,loops:=λk=>match k with|3=>some {cut:=uo,alts:=[.exit 0],F:=eR}|_=>none}
abbrev ic(v:(List aa)×Int×Int×aa×aa×(List aa)×Unit)(r:(aa×aa×(List aa)×Unit)):Prop:=(λv out=>∀C:Ctx,C.P=prog->C.N=22/\Fx C kp->ob C (ai (af Tryz.f196) 0) (Go.Tx.aH vw (bV vw uo v)) (tZ Lz [.exit 0] out)) v r
abbrev ve(v:aa×Unit)(r:aa×Unit):Prop:=(λv r=>∀x,qF prog iN r=some x->gr prog 196 (encL vw (az iN v).len (aX iN v).1) (bt (az iN v).len (az iN v).own) (an vw (bV vw iN.rcut r).len x) (bt (bV vw iN.rcut r).len (jJ iN r))) v r
theorem Hj(f0:(List aa)×Int×Int×aa×aa×(List aa)×Unit->Option ((aa×aa×(List aa)×Unit)))(f1:aa×Unit->Option (aa×Unit))(h0:∀v r,f0 v=some r->ic v r)(h1:∀v r,f1 v=some r->ve v r):ay prog (Ar f0 f1).call:=(by
 intro A fid args S dst k r h
 unfold Ar xw at h
 simp only at h
 split at h
 ·exact ak ((λv r x h hx=>h1 v r h x hx)) rfl rfl h
 ·cases h)
theorem IE(f0:(List aa)×Int×Int×aa×aa×(List aa)×Unit->Option ((aa×aa×(List aa)×Unit)))(f1:aa×Unit->Option (aa×Unit))(h0:∀v r,f0 v=some r->ic v r)(h1:∀v r,f1 v=some r->ve v r)(v:(List aa)×Int×Int×aa×aa×(List aa)×Unit)(r:(aa×aa×(List aa)×Unit))(h:exL (Ar f0 f1) (ai (af Tryz.f196) 0) uo [.exit 0] f0 v=some r):ic v r:=λC hP hN=>dj (X:=Ar f0 f1) (b:=(ai (af Tryz.f196) 0)) hP hN Ty.mixed (Hj f0 f1 h0 h1) (bm (X:=Ar f0 f1) (c:=(ai (af Tryz.f196) 0)) (bj (by kernel_rfl:True=fZ (bq C (Ar f0 f1)) (aJ (ai (af Tryz.f196) 0))) trivial)) (cut:=uo) (alts:=[.exit 0]) (F:=f0) (λv out h=>h0 v out h C hP hN) h
theorem MU(f0:(List aa)×Int×Int×aa×aa×(List aa)×Unit->Option ((aa×aa×(List aa)×Unit)))(h0:∀v r,f0 v=some r->ic v r):ay prog (Ar f0 (λ_=>none)).call:=(by
 intro A fid args S dst k r h
 unfold Ar xw at h
 simp only at h
 split at h
 ·exact ak ((λv r x h hx=>by cases h)) rfl rfl h
 ·cases h)
theorem Of(f0:(List aa)×Int×Int×aa×aa×(List aa)×Unit->Option ((aa×aa×(List aa)×Unit)))(h0:∀v r,f0 v=some r->ic v r)(v:aa×Unit)(r:aa×Unit)(h:exF (Ar f0 (λ_=>none)) iN rfl (af Tryz.f196) v=some r):ve v r:=λx hx=>mO (X:=Ar f0 (λ_=>none)) (sig:=iN) rfl Tryz.func196 (c:=af Tryz.f196) (by kernel_rfl) Tryz.ntmps196 (by kernel_rfl) (by kernel_rfl) rfl Ty.mixed (MU f0 h0) rfl (λC hP hN=>(bm (X:=Ar f0 (λ_=>none)) (c:=(af Tryz.f196)) (bj (by kernel_rfl:fZ (bq C (Ar f0 (λ_=>none))) [(ai (af Tryz.f196) 0)]=fZ (bq C (Ar f0 (λ_=>none))) (aJ (af Tryz.f196))) ⟨d8 (X:=Ar f0 (λ_=>none)) (b:=(ai (af Tryz.f196) 0)) (by kernel_rfl) (show dB C (ai (af Tryz.f196) 0) (sh:=Lz) {cut:=uo,alts:=[.exit 0],F:=f0}fromλv out h=>h0 v out h C hP hN),trivial⟩))) h x hx
theorem yf:(∀v r,eR v=some r->ic v r)/\(∀v r,n_196 v=some r->ve v r):=by
 refine eR.mutual_partial_correctness
  (motive_1:=ic)
  (motive_2:=ve)
  ?_ ?_
 ·exact(λf0 f1 h0 h1 v r h=>IE f0 f1 h0 h1 v r (bj (by kernel_rfl) h))
 ·exact(λf0 h0 v r h=>Of f0 h0 v r (bj (by kernel_rfl) h))
theorem H9:aq prog 196 iN n_196:=λv r x h hx=>yf.2 v r h x hx
def F6:ax vw:={rcut:=ek}
def CL:Sig vw:={params:=[.dat (.st .itemT), .bp 100000 0, .bp 100001 0],objs:=[(100000, .box none [.dat (.int .i64)]),(100001, .box none [.dat .str])],rcut:=ek,rvars:=[.tmp 4],keep:=[100000,100001]}
noncomputable def jn(v:Item×Int×ByteArray×Unit):Option (Bool×Int×ByteArray×Unit):=(if(v.1.kind==v.2.1)=true then some ((v.1.name0.toList==v.2.2.1.toList,v.2.1,v.2.2.1,()))else some ((false,v.2.1,v.2.2.1,())))>>=λx1=>some ((x1.1,x1.2.1,x1.2.2.1,()))
def I8:Xc vw:=mX prog 15 c0 F6 [] [(1,ek)] []
theorem nJ:aq prog 84 CL jn:=fn0 I8 Tryz.func84 bI
def rM:Cut SN:=⟨[(0, .vh 100000),(1, .fn 84 [] [100001,100002]),(7, .dat (.int .i64)),(8, .dat (.int .i64))],[(100000, .vec 44 (.st .itemT)),(100001, .box none [.dat (.int .i64)]),(100002, .box none [.dat .str])]⟩
def AU:Cut SN:=⟨[(0, .vh 100000),(1, .fn 84 [] [100001,100002])],[(100000, .vec 44 (.st .itemT)),(100001, .box none [.dat (.int .i64)]),(100002, .box none [.dat .str])]⟩
def uz:Cut SN:=⟨[(0, .vh 100000),(1, .fn 84 [] [100001,100002]),(4, .dat (.int .i64))],[(100000, .vec 44 (.st .itemT)),(100001, .box none [.dat (.int .i64)]),(100002, .box none [.dat .str])]⟩
def F3:ax vw:=shL [(0,AU)] uz
def CI:Sig vw:={params:=[.vh 100000, .fn 84 [] [100001,100002]],objs:=[(100000, .vec 44 (.st .itemT)),(100001, .box none [.dat (.int .i64)]),(100002, .box none [.dat .str])],rcut:=uz,rvars:=[.tmp 4],keep:=[100000,100001,100002]}
noncomputable def cQ(v:Int×Int×(List Item)×Int×ByteArray×Unit):Option (((Int×(List Item)×Int×ByteArray×Unit)⊕((List Item)×Int×ByteArray×Unit))):=if decide (v.2.1<v.1)=true then if 0<=v.2.1/\v.2.1<(↑v.2.2.1.length:Int)then v.2.2.1[v.2.1.toNat]?>>=λx1=>jn (x1,v.2.2.2.1,v.2.2.2.2.1,())>>=λx2=>if x2.1=true then some (UR (v.2.1,v.2.2.1,x2.2.1,x2.2.2.1,()))else cQ (v.1,i64.wrap (v.2.1+1),v.2.2.1,x2.2.1,x2.2.2.1,())else none else some (UW (v.2.2.1,v.2.2.2.1,v.2.2.2.2.1,())) partial_fixpoint
noncomputable def mm(v:(List Item)×Int×ByteArray×Unit):Option (Int×(List Item)×Int×ByteArray×Unit):=cQ ((↑v.1.length:Int),(0:Int),v.1,v.2.1,v.2.2.1,())>>=λx1=>match x1 with| .inl y1=>some y1| .inr y1=>some (((-1:Int),y1.1,y1.2.1,y1.2.2.1,()))
def kS:=kO nJ k0
def Ax:Xc vw:=mX prog 19 kS.1 F3 [] [] [(2,⟨rM,[.ret, .exit 0],cQ⟩)]
theorem qU:dU Ax (ai (af Tryz.f83) 0) ⟨rM,[.ret, .exit 0],cQ⟩:=lp0 cQ.partial_correctness kS.2
theorem vq:aq prog 83 CI mm:=fn1 Ax Tryz.func83 kS.2 qU
def lD:Cut SN:=⟨[(0, .vh 100000),(6, .bp 6 0),(7, .dat .bool)],[(100000, .vec 44 (.st .itemT)),(6, .st .itemT)]⟩
def FV:ax vw:={rcut:=lD}
def CA:Sig vw:={params:=[.vh 100000, .dat (.int .i64), .dat .str],objs:=[(100000, .vec 44 (.st .itemT))],rcut:=lD,rvars:=[.cell 6 44, .tmp 7],keep:=[100000]}
noncomputable def me(v:Int×ByteArray×(List Item)×Unit):Option (Bool×(List Item)×Item×Unit):=mm (v.2.2.1,v.1,v.2.1,())>>=λx1=>if x1.2.1.length=v.2.2.1.length then if decide (x1.1<0)=true then some ((false,x1.2.1,Item.mk 0 (T3 #[]) (0:Int) [] (aa.mk 0 0 false []),()))else if 0<=x1.1/\x1.1<(↑x1.2.1.length:Int)then x1.2.1[x1.1.toNat]?>>=λx2=>some ((true,x1.2.1,x2,()))else none else none
def oT:=kO vq k0
def I5:Xc vw:=mX prog 19 oT.1 FV [] [] []
theorem vi:aq prog 47 CA me:=fn0 I5 Tryz.func47 oT.2
def xg:Cut SN:=⟨[(0, .bp 100000 0),(2, .bp 2 0),(3, .dat .bool),(4, .dat .str),(12, .dat .bool)],[(100000, .box none [.bp 100001 0, .dat (.sl .str), .dat .bool]),(2, .st .layoutT),(100001, .box none [.vh 100002]),(100002, .vec 44 (.st .itemT))]⟩
def xh:Cut SN:=⟨[(0, .bp 100000 0),(2, .bp 2 0),(4, .dat .str)],[(100000, .box none [.bp 100001 0, .dat (.sl .str), .dat .bool]),(2, .st .layoutT),(100001, .box none [.vh 100002]),(100002, .vec 44 (.st .itemT))]⟩
def ul:Cut SN:=⟨[(0, .bp 100000 0),(2, .bp 2 0),(5, .bp 5 0),(6, .dat .bool)],[(100000, .box none [.bp 100001 0, .dat (.sl .str), .dat .bool]),(2, .st .layoutT),(5, .st .itemT),(100001, .box none [.vh 100002]),(100002, .vec 44 (.st .itemT))]⟩
def um:Cut SN:=⟨[(0, .bp 100000 0),(2, .bp 2 0),(5, .bp 5 0)],[(100000, .box none [.bp 100001 0, .dat (.sl .str), .dat .bool]),(2, .st .layoutT),(5, .st .itemT),(100001, .box none [.vh 100002]),(100002, .vec 44 (.st .itemT))]⟩
def un:Cut SN:=⟨[(0, .bp 100000 0),(2, .bp 2 0)],[(100000, .box none [.bp 100001 0, .dat (.sl .str), .dat .bool]),(2, .st .layoutT),(100001, .box none [.vh 100002]),(100002, .vec 44 (.st .itemT))]⟩
def rF:Cut SN:=⟨[(0, .bp 100000 0),(2, .bp 2 0)],[(100000, .box none [.bp 100001 0, .dat (.sl .str), .dat .bool]),(100001, .box none [.vh 100002]),(100002, .vec 44 (.st .itemT)),(2, .st .layoutT)]⟩
def Cy:ax vw:={rcut:=rF}
def y8:Sig vw:={params:=[.bp 100000 0],objs:=[(100000, .box none [.bp 100001 0, .dat (.sl .str), .dat .bool]),(100001, .box none [.vh 100002]),(100002, .vec 44 (.st .itemT))],rcut:=rF,rvars:=[.cell 2 42],keep:=[100000,100001,100002]}
noncomputable def gS(v:(List ByteArray)×Bool×(List Item)×Unit):Option ((List ByteArray)×Bool×(List Item)×aa×Unit):=cX (T3 #[117,110,115,105,103,110,101,100],v.1,v.2.1,v.2.2.1,())>>=λx1=>if x1.2.2.2.1.length=v.2.2.1.length then eA (x1.2.1,x1.2.2.1,x1.2.2.2.1,())>>=λx2=>if x2.2.2.2.1.length=x1.2.2.2.1.length then(if(x2.1.toList==(T3 #[99,104,97,114]).toList)=true then some ((x1.1,x2.1,true,x2.2.1,x2.2.2.1,aa.mk 0 0 false [],x2.2.2.2.1,()))else if(x2.1.toList==(T3 #[115,104,111,114,116]).toList)=true then some ((x1.1,x2.1,true,x2.2.1,x2.2.2.1,aa.mk 0 0 false [],x2.2.2.2.1,()))else some ((x1.1,x2.1,x2.1.toList==(T3 #[105,110,116]).toList,x2.2.1,x2.2.2.1,aa.mk 0 0 false [],x2.2.2.2.1,())))>>=λx3=>if x3.2.2.1=true then some ((x3.2.2.2.1,x3.2.2.2.2.1,x3.2.2.2.2.2.2.1,aa.mk 2 ((Mp.get Mp.seq x3.2.1 (Mp.set Mp.seq Mp.slt (T3 #[105,110,116]) (32:Int) (Mp.set Mp.seq Mp.slt (T3 #[115,104,111,114,116]) (16:Int) (Mp.set Mp.seq Mp.slt (T3 #[99,104,97,114]) (8:Int) [])))).getD (0:Int)) (!x3.1) [],()))else(if x3.2.2.2.2.1=true then some ((x3.2.1,x3.2.2.2.1,true,x3.2.2.2.2.2.1,x3.2.2.2.2.2.2.1,()))else some ((x3.2.1,x3.2.2.2.1,x3.1,x3.2.2.2.2.2.1,x3.2.2.2.2.2.2.1,())))>>=λx4=>if(x4.1.toList==(T3 #[108,111,110,103]).toList)=true then some ((x4.2.1,x4.2.2.1,x4.2.2.2.2.1,aa.mk 3 0 false [],()))else if(x4.1.toList==(T3 #[118,111,105,100]).toList)=true then some ((x4.2.1,x4.2.2.1,x4.2.2.2.2.1,aa.mk 0 0 false [],()))else if(x4.1.toList==(T3 #[115,116,114,117,99,116]).toList)=true then(Kv 8 (bX (x4.2.1,x4.2.2.1,x4.2.2.2.2.1,())>>=λx5=>if x5.2.2.2.1.length=x4.2.2.2.2.1.length then me ((2:Int),x5.1,x5.2.2.2.1,())>>=λx6=>if x6.2.1.length=x5.2.2.2.1.length then some ((x6.1,x5.2.1,x5.2.2.1,x4.2.2.2.1,x6.2.2.1,x6.2.1,()))else none else none))>>=λx5=>(if x5.2.2.1=true then some ((x5.2.1,true,x5.2.2.2.1,x5.2.2.2.2.1,x5.2.2.2.2.2.1,()))else some ((x5.2.1,!x5.1,x5.2.2.2.1,x5.2.2.2.2.1,x5.2.2.2.2.2.1,())))>>=λx6=>n_196 (aa.mk x6.2.2.2.1.layout.kind x6.2.2.2.1.layout.n x6.2.2.2.1.layout.flag x6.2.2.2.1.layout.parts,())>>=λx7=>some ((x6.1,x6.2.1,x6.2.2.2.2.1,x7.1,()))else if(x4.1.toList==(T3 #[101,110,117,109]).toList)=true then(Kv 2 (bX (x4.2.1,x4.2.2.1,x4.2.2.2.2.1,())>>=λx5=>if x5.2.2.2.1.length=x4.2.2.2.2.1.length then dy ((1:Int),x5.1,x5.2.2.2.1,())>>=λx6=>if x6.2.1.length=x5.2.2.2.1.length then if(!x6.1)=true then some ((x5.2.1,true,x4.2.2.2.1,x6.2.1,()))else some ((x5.2.1,x5.2.2.1,x4.2.2.2.1,x6.2.1,()))else none else none))>>=λx5=>some ((x5.1,x5.2.1,x5.2.2.2.1,aa.mk 2 32 true [],()))else some ((x4.2.1,true,x4.2.2.2.2.1,aa.mk 0 0 false [],()))else none else none
def nD:=kO vi (kO ea (kO cK (kO eb (kO ff (kP H9 k0)))))
def G2:Xc vw:={P:=prog,n:=93,call:=nD.1,pre:=kp,sh:=Cy,joins:=λk=>match k with|7=>some (xg,[.norm])|_=>none,regs:=λk=>match k with|8=>some xh|15=>some ul|16=>some um|19=>some un|_=>none,pair:=λk=>match k with|15=>(.node 6 7 .leaf (.node 7 8 .leaf (.node 5 6 .leaf (.node 4 5 .leaf (.node 3 4 .leaf (.node 6 7 .leaf (.node 5 6 .leaf (.node 4 5 .leaf .leaf))))))))|19=>(.node 4 5 .leaf (.node 5 6 .leaf .leaf))|_=> .leaf}
theorem tq:aq prog 188 y8 gS:=fn0 G2 Tryz.func188 nD.2
def kJ:Cut SN:=⟨[(0, .bp 100000 0),(1, .dat .bool),(4, .bp 4 0),(5, .bp 5 0)],[(100000, .box none [.bp 100001 0, .dat (.sl .str), .dat .bool]),(4, .st .layoutT),(5, .st .layoutT),(100001, .box none [.vh 100002]),(100002, .vec 44 (.st .itemT))]⟩
def xe:Cut SN:=⟨[(0, .bp 100000 0),(4, .bp 4 0),(5, .bp 5 0)],[(100000, .box none [.bp 100001 0, .dat (.sl .str), .dat .bool]),(4, .st .layoutT),(5, .st .layoutT),(100001, .box none [.vh 100002]),(100002, .vec 44 (.st .itemT))]⟩
def rB:Cut SN:=⟨[(0, .bp 100000 0),(4, .bp 4 0)],[(100000, .box none [.bp 100001 0, .dat (.sl .str), .dat .bool]),(100001, .box none [.vh 100002]),(100002, .vec 44 (.st .itemT)),(4, .st .layoutT)]⟩
def Cr:ax vw:=shL [(0,kJ)] rB
def yW:Sig vw:={params:=[.bp 100000 0, .dat .bool],objs:=[(100000, .box none [.bp 100001 0, .dat (.sl .str), .dat .bool]),(100001, .box none [.vh 100002]),(100002, .vec 44 (.st .itemT))],rcut:=rB,rvars:=[.cell 4 42],keep:=[100000,100001,100002]}
noncomputable def cF(v:Bool×(List ByteArray)×Bool×aa×aa×(List Item)×Unit):Option ((Bool×(List ByteArray)×Bool×aa×aa×(List Item)×Unit)):=cX (T3 #[42],v.2.1,v.2.2.1,v.2.2.2.2.2.1,())>>=λx1=>if x1.2.2.2.1.length=v.2.2.2.2.2.1.length then if x1.1=true then cF (v.1,x1.2.1,x1.2.2.1,v.2.2.2.1,aa.mk 3 0 false [],x1.2.2.2.1,())else some ((v.1,x1.2.1,x1.2.2.1,v.2.2.2.1,v.2.2.2.2.1,x1.2.2.2.1,()))else none partial_fixpoint
noncomputable def fw(v:Bool×(List ByteArray)×Bool×(List Item)×Unit):Option ((List ByteArray)×Bool×(List Item)×aa×Unit):=gS (v.2.1,v.2.2.1,v.2.2.2.1,())>>=λx1=>if x1.2.2.1.length=v.2.2.2.1.length then cF (v.1,x1.1,x1.2.1,aa.mk 0 0 false [],x1.2.2.2.1,x1.2.2.1,())>>=λx2=>(if x2.2.2.1=true then some ((x2.2.1,true,x2.2.2.2.1,x2.2.2.2.2.1,x2.2.2.2.2.2.1,()))else if(x2.2.2.2.2.1.kind==0)=true then some ((x2.2.1,!x2.1,x2.2.2.2.1,x2.2.2.2.2.1,x2.2.2.2.2.2.1,()))else some ((x2.2.1,false,x2.2.2.2.1,x2.2.2.2.2.1,x2.2.2.2.2.2.1,())))>>=λx3=>some ((x3.1,x3.2.1,x3.2.2.2.2.1,x3.2.2.2.1,()))else none
def ja:=kO cK (kO tq k0)
def wz:Xc vw:=mX prog 28 ja.1 Cr [] [(4,xe)] [(2,⟨kJ,[.exit 0],cF⟩)]
theorem pL:dU wz (ai (af Tryz.f163) 0) ⟨kJ,[.exit 0],cF⟩:=lp0 cF.partial_correctness ja.2
theorem lX:aq prog 163 yW fw:=fn1 wz Tryz.func163 ja.2 pL
def ue:Cut SN:=⟨[(0, .bp 100000 0),(2, .bp 2 0),(3, .bp 3 0),(4, .bp 4 0)],[(100000, .box none [.bp 100001 0, .dat (.sl .str), .dat .bool]),(2, .st .itemT),(3, .box none [.dat (.int .i64), .dat .str, .dat (.int .i64), .vh 3033, .dat (.int .i64), .dat (.int .i64), .dat .bool, .vh 3037]),(4, .st .layoutT),(100001, .box none [.vh 100002]),(3033, .vec 9 .str),(3037, .vec 42 (.st .layoutT)),(100002, .vec 44 (.st .itemT))]⟩
def wQ:Cut SN:=⟨[(0, .bp 100000 0),(2, .bp 2 0),(3, .bp 3 0),(25, .dat .bool)],[(100000, .box none [.bp 100001 0, .dat (.sl .str), .dat .bool]),(2, .st .itemT),(3, .box none [.dat (.int .i64), .dat .str, .dat (.int .i64), .vh 3033, .dat (.int .i64), .dat (.int .i64), .dat .bool, .vh 3037]),(100001, .box none [.vh 100002]),(3033, .vec 9 .str),(3037, .vec 42 (.st .layoutT)),(100002, .vec 44 (.st .itemT))]⟩
def wR:Cut SN:=⟨[(0, .bp 100000 0),(2, .bp 2 0),(3, .bp 3 0),(4, .bp 4 0),(5, .dat (.int .i64))],[(100000, .box none [.bp 100001 0, .dat (.sl .str), .dat .bool]),(2, .st .itemT),(3, .box none [.dat (.int .i64), .dat .str, .dat (.int .i64), .vh 3033, .dat (.int .i64), .dat (.int .i64), .dat .bool, .vh 3037]),(4, .st .layoutT),(100001, .box none [.vh 100002]),(3033, .vec 9 .str),(3037, .vec 42 (.st .layoutT)),(100002, .vec 44 (.st .itemT))]⟩
def B_:ax vw:=shL [(0,cn)] dO
def qh:Sig vw:={params:=[.bp 100000 0],objs:=[(100000, .box none [.bp 100001 0, .dat (.sl .str), .dat .bool]),(100001, .box none [.vh 100002]),(100002, .vec 44 (.st .itemT))],rcut:=dO,rvars:=[.cell 2 44],keep:=[100000,100001,100002]}
noncomputable def aT(v:(List ByteArray)×Bool×Item×Int×ByteArray×Int×Int×Int×Bool×(List ByteArray)×(List aa)×(List Item)×Unit):Option (((List ByteArray)×Bool×Item×Int×ByteArray×Int×Int×Int×Bool×(List ByteArray)×(List aa)×(List Item)×Unit)):=(if(!v.2.1)=true then fv (v.1,v.2.1,v.2.2.2.2.2.2.2.2.2.2.2.1,())>>=λx1=>if x1.2.2.2.1.length=v.2.2.2.2.2.2.2.2.2.2.2.1.length then some ((!x1.1.toList==(T3 #[125]).toList,x1.2.1,x1.2.2.1,v.2.2.1,v.2.2.2.1,v.2.2.2.2.1,v.2.2.2.2.2.1,v.2.2.2.2.2.2.1,v.2.2.2.2.2.2.2.1,v.2.2.2.2.2.2.2.2.1,v.2.2.2.2.2.2.2.2.2.1,v.2.2.2.2.2.2.2.2.2.2.1,x1.2.2.2.1,()))else none else some ((false,v.1,v.2.1,v.2.2.1,v.2.2.2.1,v.2.2.2.2.1,v.2.2.2.2.2.1,v.2.2.2.2.2.2.1,v.2.2.2.2.2.2.2.1,v.2.2.2.2.2.2.2.2.1,v.2.2.2.2.2.2.2.2.2.1,v.2.2.2.2.2.2.2.2.2.2.1,v.2.2.2.2.2.2.2.2.2.2.2.1,())))>>=λx1=>if x1.1=true then fw (false,x1.2.1,x1.2.2.1,x1.2.2.2.2.2.2.2.2.2.2.2.2.1,())>>=λx2=>if x2.2.2.1.length=x1.2.2.2.2.2.2.2.2.2.2.2.2.1.length then bX (x2.1,x2.2.1,x2.2.2.1,())>>=λx3=>if x3.2.2.2.1.length=x2.2.2.1.length then if x1.2.2.2.2.2.2.2.2.2.2.1.length+[x3.1].length<=4294967296 then(cX (T3 #[91],x3.2.1,x3.2.2.1,x3.2.2.2.1,())>>=λx4=>if x4.2.2.2.1.length=x3.2.2.2.1.length then if x4.1=true then gQ (x4.2.1,x4.2.2.1,x4.2.2.2.1,())>>=λx5=>if x5.2.2.2.1.length=x4.2.2.2.1.length then(if x5.2.2.1=true then some ((x5.1,x5.2.1,true,x1.2.2.2.1,x1.2.2.2.2.1,x1.2.2.2.2.2.1,x1.2.2.2.2.2.2.1,x1.2.2.2.2.2.2.2.1,x1.2.2.2.2.2.2.2.2.1,x1.2.2.2.2.2.2.2.2.2.1,x2.2.2.2.1,x1.2.2.2.2.2.2.2.2.2.2.1++[x3.1],x1.2.2.2.2.2.2.2.2.2.2.2.1,x5.2.2.2.1,()))else some ((x5.1,x5.2.1,decide (x5.1<1),x1.2.2.2.1,x1.2.2.2.2.1,x1.2.2.2.2.2.1,x1.2.2.2.2.2.2.1,x1.2.2.2.2.2.2.2.1,x1.2.2.2.2.2.2.2.2.1,x1.2.2.2.2.2.2.2.2.2.1,x2.2.2.2.1,x1.2.2.2.2.2.2.2.2.2.2.1++[x3.1],x1.2.2.2.2.2.2.2.2.2.2.2.1,x5.2.2.2.1,())))>>=λx6=>bw ([T3 #[93]],x6.2.1,x6.2.2.1,x6.2.2.2.2.2.2.2.2.2.2.2.2.2.1,())>>=λx7=>if x7.2.2.1.length=x6.2.2.2.2.2.2.2.2.2.2.2.2.2.1.length then some ((x7.1,x7.2.1,x6.2.2.2.1,x6.2.2.2.2.1,x6.2.2.2.2.2.1,x6.2.2.2.2.2.2.1,x6.2.2.2.2.2.2.2.1,x6.2.2.2.2.2.2.2.2.1,x6.2.2.2.2.2.2.2.2.2.1,aa.mk 5 x6.1 false [x6.2.2.2.2.2.2.2.2.2.2.1],x6.2.2.2.2.2.2.2.2.2.2.2.1,x6.2.2.2.2.2.2.2.2.2.2.2.2.1,x7.2.2.1,()))else none else none else some ((x4.2.1,x4.2.2.1,x1.2.2.2.1,x1.2.2.2.2.1,x1.2.2.2.2.2.1,x1.2.2.2.2.2.2.1,x1.2.2.2.2.2.2.2.1,x1.2.2.2.2.2.2.2.2.1,x1.2.2.2.2.2.2.2.2.2.1,x2.2.2.2.1,x1.2.2.2.2.2.2.2.2.2.2.1++[x3.1],x1.2.2.2.2.2.2.2.2.2.2.2.1,x4.2.2.2.1,()))else none)>>=λx4=>bw ([T3 #[59]],x4.1,x4.2.1,x4.2.2.2.2.2.2.2.2.2.2.2.2.1,())>>=λx5=>if x5.2.2.1.length=x4.2.2.2.2.2.2.2.2.2.2.2.2.1.length then if x4.2.2.2.2.2.2.2.2.2.2.2.1.length+[x4.2.2.2.2.2.2.2.2.2.1].length<=4294967296 then aT (x5.1,x5.2.1,x4.2.2.1,x4.2.2.2.1,x4.2.2.2.2.1,x4.2.2.2.2.2.1,x4.2.2.2.2.2.2.1,x4.2.2.2.2.2.2.2.1,x4.2.2.2.2.2.2.2.2.1,x4.2.2.2.2.2.2.2.2.2.2.1,x4.2.2.2.2.2.2.2.2.2.2.2.1++[x4.2.2.2.2.2.2.2.2.2.1],x5.2.2.1,())else none else none else none else none else none else some ((x1.2.1,x1.2.2.1,x1.2.2.2.1,x1.2.2.2.2.1,x1.2.2.2.2.2.1,x1.2.2.2.2.2.2.1,x1.2.2.2.2.2.2.2.1,x1.2.2.2.2.2.2.2.2.1,x1.2.2.2.2.2.2.2.2.2.1,x1.2.2.2.2.2.2.2.2.2.2.1,x1.2.2.2.2.2.2.2.2.2.2.2.1,x1.2.2.2.2.2.2.2.2.2.2.2.2.1,())) partial_fixpoint
noncomputable def ft(v:(List ByteArray)×Bool×(List Item)×Unit):Option ((List ByteArray)×Bool×(List Item)×Item×Unit):=bw ([T3 #[115,116,114,117,99,116]],v.1,v.2.1,v.2.2.1,())>>=λx1=>if x1.2.2.1.length=v.2.2.1.length then(bX (x1.1,x1.2.1,x1.2.2.1,())>>=λx2=>if x2.2.2.2.1.length=x1.2.2.1.length then some ((x2.2.1,x2.2.2.1,Item.mk 0 (T3 #[]) (0:Int) [] (aa.mk 0 0 false []),(2:Int),x2.1,(0:Int),(6:Int),(0:Int),false,[],[],x2.2.2.2.1,()))else none)>>=λx2=>bw ([T3 #[123]],x2.1,x2.2.1,x2.2.2.2.2.2.2.2.2.2.2.2.1,())>>=λx3=>if x3.2.2.1.length=x2.2.2.2.2.2.2.2.2.2.2.2.1.length then aT (x3.1,x3.2.1,x2.2.2.1,x2.2.2.2.1,x2.2.2.2.2.1,x2.2.2.2.2.2.1,x2.2.2.2.2.2.2.1,x2.2.2.2.2.2.2.2.1,x2.2.2.2.2.2.2.2.2.1,x2.2.2.2.2.2.2.2.2.2.1,x2.2.2.2.2.2.2.2.2.2.2.1,x3.2.2.1,())>>=λx4=>bw ([T3 #[125],T3 #[59]],x4.1,x4.2.1,x4.2.2.2.2.2.2.2.2.2.2.2.1,())>>=λx5=>if x5.2.2.1.length=x4.2.2.2.2.2.2.2.2.2.2.2.1.length then(if x5.2.1=true then some ((x5.1,true,x4.2.2.1,x4.2.2.2.1,x4.2.2.2.2.1,x4.2.2.2.2.2.1,x4.2.2.2.2.2.2.1,x4.2.2.2.2.2.2.2.1,x4.2.2.2.2.2.2.2.2.1,x4.2.2.2.2.2.2.2.2.2.1,x4.2.2.2.2.2.2.2.2.2.2.1,x5.2.2.1,()))else if((↑x4.2.2.2.2.2.2.2.2.2.1.length:Int)==0)=true then some ((x5.1,true,x4.2.2.1,x4.2.2.2.1,x4.2.2.2.2.1,x4.2.2.2.2.2.1,x4.2.2.2.2.2.2.1,x4.2.2.2.2.2.2.2.1,x4.2.2.2.2.2.2.2.2.1,x4.2.2.2.2.2.2.2.2.2.1,x4.2.2.2.2.2.2.2.2.2.2.1,x5.2.2.1,()))else ye (x4.2.2.2.2.2.2.2.2.2.1,())>>=λx6=>if(!x6.1)=true then some ((x5.1,true,x4.2.2.1,x4.2.2.2.1,x4.2.2.2.2.1,x4.2.2.2.2.2.1,x4.2.2.2.2.2.2.1,x4.2.2.2.2.2.2.2.1,x4.2.2.2.2.2.2.2.2.1,x4.2.2.2.2.2.2.2.2.2.1,x4.2.2.2.2.2.2.2.2.2.2.1,x5.2.2.1,()))else dy ((2:Int),x4.2.2.2.2.1,x5.2.2.1,())>>=λx7=>if x7.2.1.length=x5.2.2.1.length then some ((x5.1,x7.1,x4.2.2.1,x4.2.2.2.1,x4.2.2.2.2.1,x4.2.2.2.2.2.1,x4.2.2.2.2.2.2.1,x4.2.2.2.2.2.2.2.1,x4.2.2.2.2.2.2.2.2.1,x4.2.2.2.2.2.2.2.2.2.1,x4.2.2.2.2.2.2.2.2.2.2.1,x7.2.1,()))else none)>>=λx6=>some ((x6.1,x6.2.1,x6.2.2.2.2.2.2.2.2.2.2.2.1,Item.mk x6.2.2.2.1 x6.2.2.2.2.1 x6.2.2.2.2.2.1 x6.2.2.2.2.2.2.2.2.2.1 (aa.mk x6.2.2.2.2.2.2.1 x6.2.2.2.2.2.2.2.1 x6.2.2.2.2.2.2.2.2.1 x6.2.2.2.2.2.2.2.2.2.2.1),()))else none else none else none
def i6:=kO fe (kO ea (kO cK (kO lV (kO eb (kP tf (kO ir (kO lX k0)))))))
def wv:Xc vw:={P:=prog,n:=100,nm:=λd=>match d with|11=>40011|12=>40012|_=>d,call:=i6.1,pre:=kp,sh:=B_,joins:=λk=>match k with|12=>some (ue,[.norm])|_=>none,regs:=λk=>match k with|2=>some cn|4=>some wQ|9=>some wR|15=>some cn|_=>none,loops:=λk=>match k with|4=>some {cut:=cn,alts:=[.exit 0],F:=aT}|_=>none}
theorem pF:dU wv (ai (af Tryz.f124) 0) ⟨cn,[.exit 0],aT⟩:=lp0 aT.partial_correctness i6.2
theorem s9:aq prog 124 qh ft:=fn1 wv Tryz.func124 i6.2 pF
def fB:Cut SN:=⟨[(0, .bp 100000 0),(2, .bp 2 0),(3, .bp 3 0),(4, .bp 4 0)],[(100000, .box none [.bp 100001 0, .dat (.sl .str), .dat .bool]),(2, .st .itemT),(3, .st .layoutT),(4, .box none [.dat (.int .i64), .dat .str, .dat (.int .i64), .vh 3043, .dat (.int .i64), .dat (.int .i64), .dat .bool, .vh 3047]),(100001, .box none [.vh 100002]),(3043, .vec 9 .str),(3047, .vec 42 (.st .layoutT)),(100002, .vec 44 (.st .itemT))]⟩
def wS:Cut SN:=⟨[(0, .bp 100000 0),(2, .bp 2 0),(3, .bp 3 0),(4, .bp 4 0),(38, .dat .bool)],[(100000, .box none [.bp 100001 0, .dat (.sl .str), .dat .bool]),(2, .st .itemT),(3, .st .layoutT),(4, .box none [.dat (.int .i64), .dat .str, .dat (.int .i64), .vh 3043, .dat (.int .i64), .dat (.int .i64), .dat .bool, .vh 3047]),(100001, .box none [.vh 100002]),(3043, .vec 9 .str),(3047, .vec 42 (.st .layoutT)),(100002, .vec 44 (.st .itemT))]⟩
def uf:Cut SN:=⟨[(0, .bp 100000 0),(2, .bp 2 0),(4, .bp 4 0)],[(100000, .box none [.bp 100001 0, .dat (.sl .str), .dat .bool]),(2, .st .itemT),(4, .box none [.dat (.int .i64), .dat .str, .dat (.int .i64), .vh 3043, .dat (.int .i64), .dat (.int .i64), .dat .bool, .vh 3047]),(100001, .box none [.vh 100002]),(3043, .vec 9 .str),(3047, .vec 42 (.st .layoutT)),(100002, .vec 44 (.st .itemT))]⟩
def Ca:ax vw:=shL [(0,fB)] dO
def qi:Sig vw:={params:=[.bp 100000 0],objs:=[(100000, .box none [.bp 100001 0, .dat (.sl .str), .dat .bool]),(100001, .box none [.vh 100002]),(100002, .vec 44 (.st .itemT))],rcut:=dO,rvars:=[.cell 2 44],keep:=[100000,100001,100002]}
noncomputable def cb(v:(List ByteArray)×Bool×Item×aa×Int×ByteArray×Int×Int×Int×Bool×(List ByteArray)×(List aa)×(List Item)×Unit):Option (((List ByteArray)×Bool×Item×aa×Int×ByteArray×Int×Int×Int×Bool×(List ByteArray)×(List aa)×(List Item)×Unit)):=fw (false,v.1,v.2.1,v.2.2.2.2.2.2.2.2.2.2.2.2.1,())>>=λx1=>if x1.2.2.1.length=v.2.2.2.2.2.2.2.2.2.2.2.2.1.length then bX (x1.1,x1.2.1,x1.2.2.1,())>>=λx2=>if x2.2.2.2.1.length=x1.2.2.1.length then if v.2.2.2.2.2.2.2.2.2.2.1.length+[x2.1].length<=4294967296 then if v.2.2.2.2.2.2.2.2.2.2.2.1.length+[x1.2.2.2.1].length<=4294967296 then cX (T3 #[44],x2.2.1,x2.2.2.1,x2.2.2.2.1,())>>=λx3=>if x3.2.2.2.1.length=x2.2.2.2.1.length then if(!x3.1)=true then some ((x3.2.1,x3.2.2.1,v.2.2.1,v.2.2.2.1,v.2.2.2.2.1,v.2.2.2.2.2.1,v.2.2.2.2.2.2.1,v.2.2.2.2.2.2.2.1,v.2.2.2.2.2.2.2.2.1,v.2.2.2.2.2.2.2.2.2.1,v.2.2.2.2.2.2.2.2.2.2.1++[x2.1],v.2.2.2.2.2.2.2.2.2.2.2.1++[x1.2.2.2.1],x3.2.2.2.1,()))else cb (x3.2.1,x3.2.2.1,v.2.2.1,v.2.2.2.1,v.2.2.2.2.1,v.2.2.2.2.2.1,v.2.2.2.2.2.2.1,v.2.2.2.2.2.2.2.1,v.2.2.2.2.2.2.2.2.1,v.2.2.2.2.2.2.2.2.2.1,v.2.2.2.2.2.2.2.2.2.2.1++[x2.1],v.2.2.2.2.2.2.2.2.2.2.2.1++[x1.2.2.2.1],x3.2.2.2.1,())else none else none else none else none else none partial_fixpoint
noncomputable def dS(v:(List ByteArray)×Bool×(List Item)×Unit):Option ((List ByteArray)×Bool×(List Item)×Item×Unit):=fw (true,v.1,v.2.1,v.2.2.1,())>>=λx1=>if x1.2.2.1.length=v.2.2.1.length then(bX (x1.1,x1.2.1,x1.2.2.1,())>>=λx2=>if x2.2.2.2.1.length=x1.2.2.1.length then some ((x2.2.1,x2.2.2.1,Item.mk 0 (T3 #[]) (0:Int) [] (aa.mk 0 0 false []),x1.2.2.2.1,(3:Int),x2.1,(0:Int),(6:Int),(0:Int),false,[],[],x2.2.2.2.1,()))else none)>>=λx2=>bw ([T3 #[40]],x2.1,x2.2.1,x2.2.2.2.2.2.2.2.2.2.2.2.2.1,())>>=λx3=>if x3.2.2.1.length=x2.2.2.2.2.2.2.2.2.2.2.2.2.1.length then((if decide ((↑x3.1.length:Int)<2)=true then some ((true,x3.1,x3.2.1,x2.2.2.1,x2.2.2.2.1,x2.2.2.2.2.1,x2.2.2.2.2.2.1,x2.2.2.2.2.2.2.1,x2.2.2.2.2.2.2.2.1,x2.2.2.2.2.2.2.2.2.1,x2.2.2.2.2.2.2.2.2.2.1,x2.2.2.2.2.2.2.2.2.2.2.1,x2.2.2.2.2.2.2.2.2.2.2.2.1,x3.2.2.1,()))else x3.1[U6 0]?>>=λx4=>if(!x4.toList==(T3 #[118,111,105,100]).toList)=true then some ((true,x3.1,x3.2.1,x2.2.2.1,x2.2.2.2.1,x2.2.2.2.2.1,x2.2.2.2.2.2.1,x2.2.2.2.2.2.2.1,x2.2.2.2.2.2.2.2.1,x2.2.2.2.2.2.2.2.2.1,x2.2.2.2.2.2.2.2.2.2.1,x2.2.2.2.2.2.2.2.2.2.2.1,x2.2.2.2.2.2.2.2.2.2.2.2.1,x3.2.2.1,()))else x3.1[U6 1]?>>=λx5=>some ((!x5.toList==(T3 #[41]).toList,x3.1,x3.2.1,x2.2.2.1,x2.2.2.2.1,x2.2.2.2.2.1,x2.2.2.2.2.2.1,x2.2.2.2.2.2.2.1,x2.2.2.2.2.2.2.2.1,x2.2.2.2.2.2.2.2.2.1,x2.2.2.2.2.2.2.2.2.2.1,x2.2.2.2.2.2.2.2.2.2.2.1,x2.2.2.2.2.2.2.2.2.2.2.2.1,x3.2.2.1,())))>>=λx4=>if x4.1=true then cb (x4.2.1,x4.2.2.1,x4.2.2.2.1,x4.2.2.2.2.1,x4.2.2.2.2.2.1,x4.2.2.2.2.2.2.1,x4.2.2.2.2.2.2.2.1,x4.2.2.2.2.2.2.2.2.1,x4.2.2.2.2.2.2.2.2.2.1,x4.2.2.2.2.2.2.2.2.2.2.1,x4.2.2.2.2.2.2.2.2.2.2.2.1,x4.2.2.2.2.2.2.2.2.2.2.2.2.1,x4.2.2.2.2.2.2.2.2.2.2.2.2.2.1,())>>=λx5=>some ((x5.1,x5.2.1,x5.2.2.1,x5.2.2.2.1,x5.2.2.2.2.1,x5.2.2.2.2.2.1,x5.2.2.2.2.2.2.1,x5.2.2.2.2.2.2.2.1,x5.2.2.2.2.2.2.2.2.1,x5.2.2.2.2.2.2.2.2.2.1,x5.2.2.2.2.2.2.2.2.2.2.1,x5.2.2.2.2.2.2.2.2.2.2.2.1,x5.2.2.2.2.2.2.2.2.2.2.2.2.1,()))else eA (x4.2.1,x4.2.2.1,x4.2.2.2.2.2.2.2.2.2.2.2.2.2.1,())>>=λx5=>if x5.2.2.2.1.length=x4.2.2.2.2.2.2.2.2.2.2.2.2.2.1.length then some ((x5.2.1,x5.2.2.1,x4.2.2.2.1,x4.2.2.2.2.1,x4.2.2.2.2.2.1,x4.2.2.2.2.2.2.1,x4.2.2.2.2.2.2.2.1,x4.2.2.2.2.2.2.2.2.1,x4.2.2.2.2.2.2.2.2.2.1,x4.2.2.2.2.2.2.2.2.2.2.1,x4.2.2.2.2.2.2.2.2.2.2.2.1,x4.2.2.2.2.2.2.2.2.2.2.2.2.1,x5.2.2.2.1,()))else none)>>=λx4=>bw ([T3 #[41],T3 #[59]],x4.1,x4.2.1,x4.2.2.2.2.2.2.2.2.2.2.2.2.1,())>>=λx5=>if x5.2.2.1.length=x4.2.2.2.2.2.2.2.2.2.2.2.2.1.length then if x4.2.2.2.2.2.2.2.2.2.2.2.1.length+[x4.2.2.2.1].length<=4294967296 then(if x5.2.1=true then some ((x5.1,true,x4.2.2.1,x4.2.2.2.2.1,x4.2.2.2.2.2.1,x4.2.2.2.2.2.2.1,x4.2.2.2.2.2.2.2.1,x4.2.2.2.2.2.2.2.2.1,x4.2.2.2.2.2.2.2.2.2.1,x4.2.2.2.2.2.2.2.2.2.2.1,x4.2.2.2.2.2.2.2.2.2.2.2.1++[x4.2.2.2.1],x5.2.2.1,()))else ye (x4.2.2.2.2.2.2.2.2.2.2.1,())>>=λx6=>if(!x6.1)=true then some ((x5.1,true,x4.2.2.1,x4.2.2.2.2.1,x4.2.2.2.2.2.1,x4.2.2.2.2.2.2.1,x4.2.2.2.2.2.2.2.1,x4.2.2.2.2.2.2.2.2.1,x4.2.2.2.2.2.2.2.2.2.1,x4.2.2.2.2.2.2.2.2.2.2.1,x4.2.2.2.2.2.2.2.2.2.2.2.1++[x4.2.2.2.1],x5.2.2.1,()))else dy ((3:Int),x4.2.2.2.2.2.1,x5.2.2.1,())>>=λx7=>if x7.2.1.length=x5.2.2.1.length then some ((x5.1,x7.1,x4.2.2.1,x4.2.2.2.2.1,x4.2.2.2.2.2.1,x4.2.2.2.2.2.2.1,x4.2.2.2.2.2.2.2.1,x4.2.2.2.2.2.2.2.2.1,x4.2.2.2.2.2.2.2.2.2.1,x4.2.2.2.2.2.2.2.2.2.2.1,x4.2.2.2.2.2.2.2.2.2.2.2.1++[x4.2.2.2.1],x7.2.1,()))else none)>>=λx6=>some ((x6.1,x6.2.1,x6.2.2.2.2.2.2.2.2.2.2.2.1,Item.mk x6.2.2.2.1 x6.2.2.2.2.1 x6.2.2.2.2.2.1 x6.2.2.2.2.2.2.2.2.2.1 (aa.mk x6.2.2.2.2.2.2.1 x6.2.2.2.2.2.2.2.1 x6.2.2.2.2.2.2.2.2.1 x6.2.2.2.2.2.2.2.2.2.2.1),()))else none else none else none else none
def i7:=kO fe (kO ea (kO cK (kO eb (kP tf (kO lX (kO ff k0))))))
def ww:Xc vw:={P:=prog,n:=95,nm:=λd=>match d with|10=>40010|11=>40011|_=>d,call:=i7.1,pre:=kp,sh:=Ca,joins:=λk=>match k with|10=>some (fB,[.norm])|_=>none,regs:=λk=>match k with|2=>some fB|4=>some wS|12=>some uf|_=>none,loops:=λk=>match k with|5=>some {cut:=fB,alts:=[.exit 0],F:=cb}|_=>none}
theorem pG:dU ww (ai (af Tryz.f125) 0) ⟨fB,[.exit 0],cb⟩:=lp0 cb.partial_correctness i7.2
theorem s_:aq prog 125 qi dS:=fn1 ww Tryz.func125 i7.2 pG
def RN:Cut SN:=⟨[(0, .dat (.sl .fnc))],[]⟩
def Tk:ax vw:={rcut:=RN}
def N9:Sig vw:=sg [] RN [.tmp 0]
noncomputable def OO(v:Unit):Option ((List Nat)×Unit):=some (([(122:Nat),(123:Nat),(124:Nat),(125:Nat)],()))
def x98:Xc vw:=mX prog 2 c0 Tk [] [] []
theorem Lg:aq prog 98 N9 OO:=fn0 x98 Tryz.func98 bI
def Jj:Cut SN:=⟨[(3, .dat (.int .i64)),(6, .dat (.sl (.int .i64))),(7, .dat (.int .i64)),(8, .dat (.int .i64))],[]⟩
def ro:Cut SN:=⟨[(3, .dat (.int .i64))],[]⟩
def P_:ax vw:=shL [(0,ro)] bP
def vV:Sig vw:=sg [.dat (.sl (.int .i64))] bP [.tmp 2]
noncomputable def lq(v:Int×(List Int)×Int×Int×Unit):Option ((Int×Unit)):=if decide (v.2.2.2.1<v.2.2.1)=true then if 0<=v.2.2.2.1 then v.2.1[v.2.2.2.1.toNat]?>>=λx1=>lq (min (1099511627776:Int) (i64.wrap (v.1+min x1 (1099511627776:Int))),v.2.1,v.2.2.1,i64.wrap (v.2.2.2.1+1),())else none else some ((v.1,())) partial_fixpoint
noncomputable def lp(v:(List Int)×Unit):Option (Int×Unit):=lq ((0:Int),v.1,(↑v.1.length:Int),(0:Int),())>>=λx1=>some ((x1.1,()))
def R4:Xc vw:=mX prog 19 c0 P_ [] [] [(3,⟨Jj,[.exit 0],lq⟩)]
theorem Br:dU R4 (ai (af Tryz.f111) 0) ⟨Jj,[.exit 0],lq⟩:=lp0 lq.partial_correctness bI
theorem fb:aq prog 111 vV lp:=fn1 R4 Tryz.func111 bI Br
def Qj:ax vw:={rcut:=bP}
def JT:Sig vw:=sg [.dat (.st .layoutT)] bP [.tmp 2]
noncomputable def Bz(v:aa×Unit):Option (Int×Unit):=if(v.1.kind==1)=true then some (((1:Int),()))else if(v.1.kind==2)=true then some ((max v.1.n (0:Int),()))else some (((0:Int),()))
def TP:Xc vw:=mX prog 12 c0 Qj [] [] []
theorem om:aq prog 144 JT Bz:=fn0 TP Tryz.func144 bI
end Go.Proofs.YtpelkenpapfadaaGreatDoor
end
