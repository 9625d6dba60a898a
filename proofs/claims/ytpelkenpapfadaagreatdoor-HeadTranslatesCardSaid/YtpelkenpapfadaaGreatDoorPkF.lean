/-
  Texts of this claim, joined by a program of mine: what the theorem uses.
-/
import Derived.Test.YtpelkenpapfadaaGreatDoorPkE
import Derived.Test.YtpelkenpapfadaaGreatDoorPkC
open ByteArray renaming mk→Vp
open Int renaming toNat→Wq
open List renaming drop→YE,map→W0,replicate→Wm,take→Yh
open Sum renaming inl→V_,inr→V9
noncomputable section
set_option linter.unusedVariables false
section
namespace Go.Proofs.YtpelkenpapfadaaGreatDoor
open Go.Awp Go.Tx
open IntKind (i64)
open Go.Proofs.Tryz (prog)
set_option maxHeartbeats 4000000
set_option maxRecDepth 100000
def dw:Cut SN:=⟨[(2, .dat .bool)],[]⟩
def UH:az vw:={rcut:=dw}
def NV:Sig vw:={params:=[.dat (.int .u8)],rcut:=dw,rvars:=[.tmp 2]}
noncomputable def Ls(v:Int×Unit):Option (Bool×Unit):=(if decide (v.1>=97)=true then if decide (v.1<=122)=true then some ((true,()))else if decide (v.1>=65)=true then if decide (v.1<=90)=true then some ((true,()))else some ((v.1==95,()))else some ((v.1==95,()))else if decide (v.1>=65)=true then if decide (v.1<=90)=true then some ((true,()))else some ((v.1==95,()))else some ((v.1==95,())))>>=λx1=>some ((x1.1,()))
def Le:al vw:=c0
def x86:Xc vw:={P:=prog,n:=21,call:=Le,pre:=aP,sh:=UH,regs:=λk=>match k with|1=>some dw|_=>none}
theorem Fd:af prog Le:=aJ
theorem GJ:aA prog 86 NV Ls:=fnA x86 Tryz.func86 (by kernel_rfl) Ty.mixed Fd rfl rfl rfl (λv=>by kernel_rfl) λC hP hN=>bL (by kernel_rfl)
def UI:az vw:={rcut:=dw}
def NW:Sig vw:={params:=[.dat (.int .u8)],rcut:=dw,rvars:=[.tmp 2]}
noncomputable def JB(v:Int×Unit):Option (Bool×Unit):=(if decide (v.1>=48)=true then some ((decide (v.1<=57),()))else some ((false,())))>>=λx1=>some ((x1.1,()))
def Lf:al vw:=c0
def x87:Xc vw:={P:=prog,n:=9,call:=Lf,pre:=aP,sh:=UI,regs:=λk=>match k with|1=>some dw|_=>none}
theorem Fe:af prog Lf:=aJ
theorem GK:aA prog 87 NW JB:=fnA x87 Tryz.func87 (by kernel_rfl) Ty.mixed Fe rfl rfl rfl (λv=>by kernel_rfl) λC hP hN=>bL (by kernel_rfl)
def nb:Cut SN:=⟨[(0, .dat .str),(3, .vh 1003),(4, .dat (.int .i64))],[(1003, .vec 9 .str)]⟩
def eB:Cut SN:=⟨[(0, .dat .str),(3, .vh 1003),(4, .dat (.int .i64)),(5, .dat (.int .i64))],[(1003, .vec 9 .str)]⟩
def Cg:Cut SN:=⟨[(0, .dat .str),(3, .vh 1003),(4, .dat (.int .i64)),(5, .dat (.int .i64)),(6, .dat (.int .u8)),(14, .dat .bool)],[(1003, .vec 9 .str)]⟩
def Ch:Cut SN:=⟨[(0, .dat .str),(3, .vh 1003),(4, .dat (.int .i64)),(5, .dat (.int .i64)),(51, .dat .bool)],[(1003, .vec 9 .str)]⟩
def zq:Cut SN:=⟨[(0, .dat .str),(3, .vh 1003),(4, .dat (.int .i64)),(5, .dat (.int .i64)),(70, .dat .bool)],[(1003, .vec 9 .str)]⟩
def tt:Cut SN:=⟨[(3, .vh 1003)],[(1003, .vec 9 .str)]⟩
def wi:Cut SN:=⟨[(2, .vh 2002)],[(2002, .vec 9 .str)]⟩
def mX:az vw:={exits:=λid=>match id with|0=>tt|1=>nb|3=>eB|5=>eB|_=>⟨[],[]⟩,rcut:=wi}
def ul:Sig vw:={params:=[.dat .str],rcut:=wi,rvars:=[.tmp 2],keep:=[2002]}
noncomputable def cW(v:ByteArray×Int×Int×(List ByteArray)×Unit):Option ((ByteArray×Int×Int×(List ByteArray)×Unit)):=(if decide (i64.wrap (v.2.1+v.2.2.1)<(↑v.1.size:Int))=true then if 0<=i64.wrap (v.2.1+v.2.2.1)then v.1[(i64.wrap (v.2.1+v.2.2.1)).toNat]?>>=λx1=>Ls ((↑x1.toNat:Int),())>>=λx2=>if x2.1=true then some ((v.1,v.2.1,v.2.2.1,true,v.2.2.2.1,()))else if 0<=i64.wrap (v.2.1+v.2.2.1)then v.1[(i64.wrap (v.2.1+v.2.2.1)).toNat]?>>=λx3=>JB ((↑x3.toNat:Int),())>>=λx4=>some ((v.1,v.2.1,v.2.2.1,x4.1,v.2.2.2.1,()))else none else none else some ((v.1,v.2.1,v.2.2.1,false,v.2.2.2.1,())))>>=λx1=>if x1.2.2.2.1=true then cW (x1.1,x1.2.1,i64.wrap (x1.2.2.1+1),x1.2.2.2.2.1,())else some ((x1.1,x1.2.1,x1.2.2.1,x1.2.2.2.2.1,())) partial_fixpoint
noncomputable def cp(v:ByteArray×Int×Int×(List ByteArray)×Unit):Option ((ByteArray×Int×Int×(List ByteArray)×Unit)):=(if decide (i64.wrap (v.2.1+v.2.2.1)<(↑v.1.size:Int))=true then if 0<=i64.wrap (v.2.1+v.2.2.1)then v.1[(i64.wrap (v.2.1+v.2.2.1)).toNat]?>>=λx1=>JB ((↑x1.toNat:Int),())>>=λx2=>some ((v.1,v.2.1,v.2.2.1,x2.1,v.2.2.2.1,()))else none else some ((v.1,v.2.1,v.2.2.1,false,v.2.2.2.1,())))>>=λx1=>if x1.2.2.2.1=true then cp (x1.1,x1.2.1,i64.wrap (x1.2.2.1+1),x1.2.2.2.2.1,())else some ((x1.1,x1.2.1,x1.2.2.1,x1.2.2.2.2.1,())) partial_fixpoint
noncomputable def bX(v:ByteArray×Int×(List ByteArray)×Unit):Option (((List ByteArray)×Unit)):=if decide (v.2.1<(↑v.1.size:Int))=true then(if 0<=v.2.1 then v.1[v.2.1.toNat]?>>=λx1=>(if((↑x1.toNat:Int)==32)=true then some ((v.1,v.2.1,(1:Int),(↑x1.toNat:Int),true,v.2.2.1,()))else if((↑x1.toNat:Int)==9)=true then some ((v.1,v.2.1,(1:Int),(↑x1.toNat:Int),true,v.2.2.1,()))else some ((v.1,v.2.1,(1:Int),(↑x1.toNat:Int),(↑x1.toNat:Int)==10,v.2.2.1,())))>>=λx2=>if x2.2.2.2.2.1=true then some (V9 (x2.1,i64.wrap (x2.2.1+1),x2.2.2.2.2.2.1,()))else Ls (x2.2.2.2.1,())>>=λx3=>if x3.1=true then cW (x2.1,x2.2.1,x2.2.2.1,x2.2.2.2.2.2.1,())>>=λx4=>some (V_ (x4.1,x4.2.1,x4.2.2.1,x4.2.2.2.1,()))else JB (x2.2.2.2.1,())>>=λx4=>if x4.1=true then cp (x2.1,x2.2.1,x2.2.2.1,x2.2.2.2.2.2.1,())>>=λx5=>some (V_ (x5.1,x5.2.1,x5.2.2.1,x5.2.2.2.1,()))else some (V_ (x2.1,x2.2.1,x2.2.2.1,x2.2.2.2.2.2.1,()))else none)>>=λx1=>match x1 with| .inl y1=>if 0<=y1.2.1/\y1.2.1<=i64.wrap (y1.2.1+y1.2.2.1)/\i64.wrap (y1.2.1+y1.2.2.1)<=(↑y1.1.size:Int)then if y1.2.2.2.1.length+[y1.1.extract y1.2.1.toNat (i64.wrap (y1.2.1+y1.2.2.1)).toNat].length<=4294967296 then bX (y1.1,i64.wrap (y1.2.1+y1.2.2.1),y1.2.2.2.1++[y1.1.extract y1.2.1.toNat (i64.wrap (y1.2.1+y1.2.2.1)).toNat],())else none else none| .inr y1=>bX (y1.1,y1.2.1,y1.2.2.1,())else some ((v.2.2.1,())) partial_fixpoint
noncomputable def hO(v:ByteArray×Unit):Option ((List ByteArray)×Unit):=bX (v.1,(0:Int),[],())>>=λx1=>some ((x1.1,()))
def p_:al vw:=cP prog 86 NV Ls (cP prog 87 NW JB c0)
def po:Xc vw:={P:=prog,n:=86,call:=p_,pre:=aP,sh:=mX,joins:=λk=>match k with|14=>some (eB,[.norm, .exit 1])|_=>none,regs:=λk=>match k with|6=>some Cg|9=>some Ch|12=>some zq|_=>none,loops:=λk=>match k with|3=>some {cut:=nb,alts:=[.exit 0],F:=bX}|9=>some {cut:=eB,alts:=[.exit 3],F:=cW}|12=>some {cut:=eB,alts:=[.exit 5],F:=cp}|_=>none}
theorem eN:af prog p_:=aU GJ rfl rfl (aU GK rfl rfl aJ)
theorem sD(C:Ctx)(hP:C.P=prog)(hN:C.N=86/\Fx C aP):aD C (aj (aj (ah Tryz.f52) 0) 0) (sh:=mX) {cut:=eB,alts:=[.exit 3],F:=cW}:=
 lpB (X:=po) cW.partial_correctness hP hN Ty.mixed eN (bL (by kernel_rfl)) λF v=>by kernel_rfl
theorem qQ(C:Ctx)(hP:C.P=prog)(hN:C.N=86/\Fx C aP):aD C (aj (aj (ah Tryz.f52) 0) 1) (sh:=mX) {cut:=eB,alts:=[.exit 5],F:=cp}:=
 lpB (X:=po) cp.partial_correctness hP hN Ty.mixed eN (bL (by kernel_rfl)) λF v=>by kernel_rfl
theorem sC(C:Ctx)(hP:C.P=prog)(hN:C.N=86/\Fx C aP):aD C (aj (ah Tryz.f52) 0) (sh:=mX) {cut:=nb,alts:=[.exit 0],F:=bX}:=
 lpB (X:=po) bX.partial_correctness hP hN Ty.mixed eN (QZ (by kernel_rfl) (by kernel_rfl) (by kernel_rfl) (sD C hP hN) (qQ C hP hN)) λF v=>by kernel_rfl
theorem xw:aA prog 52 ul hO:=fnA po Tryz.func52 (by kernel_rfl) Ty.mixed eN rfl rfl rfl (λv=>by kernel_rfl) λC hP hN=>gq (by kernel_rfl) (by kernel_rfl) (sC C hP hN)
def KL:Cut SN:=⟨[(2, .dat (.int .i64)),(4, .bp 4 0)],[(4, .iter)]⟩
def bW:Cut SN:=⟨[(2, .dat (.int .i64))],[]⟩
def Qi:az vw:={exits:=λid=>match id with|0=>bW|_=>⟨[],[]⟩,rcut:=bW}
def LM:Sig vw:={params:=[.dat .str],rcut:=bW,rvars:=[.tmp 2]}
noncomputable def qM(v:Int×ByteArray×Int×Unit):Option ((Int×Unit)):=if 0<=v.2.2.1 then if v.2.2.1<(↑v.2.1.size:Int)then qM (i64.wrap (v.1+1),v.2.1,v.2.2.1+Bs.wid v.2.1 v.2.2.1,())else some ((v.1,()))else none partial_fixpoint
noncomputable def MS(v:ByteArray×Unit):Option (Int×Unit):=qM ((0:Int),v.1,(0:Int),())>>=λx1=>some ((x1.1,()))
def EI:al vw:=c0
def TW:Xc vw:={P:=prog,n:=10,call:=EI,pre:=aP,sh:=Qi,loops:=λk=>match k with|2=>some {cut:=KL,alts:=[.exit 0],F:=qM}|_=>none}
theorem tI:af prog EI:=aJ
theorem C7(C:Ctx)(hP:C.P=prog)(hN:C.N=10/\Fx C aP):aD C (aj (ah Tryz.f150) 0) (sh:=Qi) {cut:=KL,alts:=[.exit 0],F:=qM}:=
 lpB (X:=TW) qM.partial_correctness hP hN Ty.mixed tI (bL (by kernel_rfl)) λF v=>by kernel_rfl
theorem Jt:aA prog 150 LM MS:=fnA TW Tryz.func150 (by kernel_rfl) Ty.mixed tI rfl rfl rfl (λv=>by kernel_rfl) λC hP hN=>gq (by kernel_rfl) (by kernel_rfl) (C7 C hP hN)
def Ro:Cut SN:=⟨[(2, .dat (.int .i32)),(3, .dat (.int .i64))],[]⟩
def LN:Sig vw:={params:=[.dat .str],rcut:=Ro,rvars:=[.tmp 2, .tmp 3]}
noncomputable def MT(v:ByteArray×Unit):Option (Int×Int×Unit):=some ((Lib.decodeGo v.1).1,(Lib.decodeGo v.1).2,())
theorem Ju:aA prog 151 LN MT:=λv r x h hx=>by
 obtain⟨s,u⟩:=v
 cases h;cases hx
 exact bw (by kernel_rfl) (i6.pure (P:=prog) (f:=151) (args:=[.d (.v (.string s))]) (r:= .tup [.d (.v (.int .i32 (Lib.decodeGo s).1)), .d (.v (.int .i64 (Lib.decodeGo s).2))]) (by kernel_rfl) λE M w vs hg hm hv=>by
  obtain⟨v1,rfl,h1⟩:=mv hv
  rw[h1.dv]
  exact(Tryz.utf8_DecodeRuneInString s w (HJ hg hm)).mono λe w' ⟨he,hw⟩=>⟨_,he,FL,hw⟩)
def KJ:Cut SN:=⟨[(0, .dat .str),(1, .dat (.int .i64)),(6, .vh 1006),(7, .dat (.int .i64))],[(1006, .vec 9 .str)]⟩
def OL:Cut SN:=⟨[(0, .dat .str),(1, .dat (.int .i64))],[]⟩
def Mf:Cut SN:=⟨[(6, .vh 1006)],[(1006, .vec 9 .str)]⟩
def OM:Cut SN:=⟨[(0, .dat .str),(1, .dat (.int .i64)),(5, .dat (.int .i64)),(18, .dat .bool)],[]⟩
def OK:Cut SN:=⟨[(0, .dat .str),(1, .dat (.int .i64)),(6, .vh 1006)],[(1006, .vec 9 .str)]⟩
def IO:Cut SN:=⟨[(4, .dat (.sl .str))],[]⟩
def Qg:az vw:={exits:=λid=>match id with|0=>OK|_=>⟨[],[]⟩,rcut:=IO}
def LG:Sig vw:={params:=[.dat .str, .dat (.int .i64)],rcut:=IO,rvars:=[.tmp 4]}
noncomputable def qG(v:ByteArray×Int×Int×(List ByteArray)×Unit):Option ((ByteArray×Int×(List ByteArray)×Unit)):=if decide (v.2.2.1<i64.wrap (v.2.1-1))=true then MT (v.1,())>>=λx1=>if(0:Int)<=0/\0<=x1.2.1/\x1.2.1<=(↑v.1.size:Int)then if 0<=v.2.2.1/\v.2.2.1<(↑v.2.2.2.1.length:Int)then v.2.2.2.1[v.2.2.1.toNat]?>>=λx2=>if 0<=x1.2.1/\x1.2.1<=(↑v.1.size:Int)/\(↑v.1.size:Int)<=(↑v.1.size:Int)then qG (v.1.extract x1.2.1.toNat (↑v.1.size:Int).toNat,v.2.1,i64.wrap (v.2.2.1+1),v.2.2.2.1.set v.2.2.1.toNat (v.1.extract (Wq 0) x1.2.1.toNat),())else none else none else none else some ((v.1,v.2.1,v.2.2.2.1,())) partial_fixpoint
noncomputable def MN(v:ByteArray×Int×Unit):Option ((List ByteArray)×Unit):=MS (v.1,())>>=λx1=>((if decide (v.2.1<0)=true then some ((v.1,v.2.1,x1.1,true,()))else some ((v.1,v.2.1,x1.1,decide (v.2.1>x1.1),())))>>=λx2=>if x2.2.2.2.1=true then some ((x2.1,x2.2.2.1,()))else some ((x2.1,x2.2.1,())))>>=λx2=>if 0<=x2.2.1 then if x2.2.1<=4294967296 then qG (x2.1,x2.2.1,(0:Int),Wm x2.2.1.toNat (Vp #[]),())>>=λx3=>(if decide (x3.2.1>0)=true then if 0<=i64.wrap (x3.2.1-1)/\i64.wrap (x3.2.1-1)<(↑x3.2.2.1.length:Int)then x3.2.2.1[(i64.wrap (x3.2.1-1)).toNat]?>>=λx4=>some ((x3.2.2.1.set (i64.wrap (x3.2.1-1)).toNat x3.1,()))else none else some ((x3.2.2.1,())))>>=λx4=>some ((x4.1,()))else none else none
def EB:al vw:=cP prog 150 LM MS (cP prog 151 LN MT c0)
def TT:Xc vw:={P:=prog,n:=50,call:=EB,pre:=aP,sh:=Qg,joins:=λk=>match k with|4=>some (OL,[.norm])|13=>some (Mf,[.norm])|_=>none,regs:=λk=>match k with|2=>some OM|_=>none,loops:=λk=>match k with|6=>some {cut:=KJ,alts:=[.exit 0],F:=qG}|_=>none}
theorem tG:af prog EB:=aU Jt rfl rfl (aU Ju rfl rfl aJ)
theorem C4(C:Ctx)(hP:C.P=prog)(hN:C.N=50/\Fx C aP):aD C (aj (ah Tryz.f119) 0) (sh:=Qg) {cut:=KJ,alts:=[.exit 0],F:=qG}:=
 lpB (X:=TT) qG.partial_correctness hP hN Ty.mixed tG (bL (by kernel_rfl)) λF v=>by kernel_rfl
theorem Jj:aA prog 119 LG MN:=fnA TT Tryz.func119 (by kernel_rfl) Ty.mixed tG rfl rfl rfl (λv=>by kernel_rfl) λC hP hN=>gq (by kernel_rfl) (by kernel_rfl) (C4 C hP hN)
def oQ:Cut SN:=⟨[(4, .dat (.int .i64))],[]⟩
def LH:Sig vw:={params:=[.dat .str, .dat .str],rcut:=oQ,rvars:=[.tmp 4]}
noncomputable def Gf(v:ByteArray×ByteArray×Unit):Option (Int×Unit):=match v.2.1.data.toList with|[c]=>some (((Lib.countByte v.1.data.toList c:Nat):Int),())|_=>none
theorem Jk:aA prog 120 LH Gf:=λv r x h hx=>by
 obtain⟨s,c,u⟩:=v
 unfold Gf at h
 simp only at h
 split at h
 ·rename_i c0 hc
  obtain rfl:c=⟨#[c0]⟩:=by
   obtain⟨⟨l⟩⟩:=c
   simp only at hc
   rw[hc]
  cases h;cases hx
  exact bw (by kernel_rfl) (i6.pure (P:=prog) (f:=120) (args:=[.d (.v (.string s)), .d (.v (.string ⟨#[c0]⟩))]) (r:= .d (.v (.int .i64 (((Lib.countByte s.data.toList c0:Nat):Int))))) (by kernel_rfl) λE M w vs hg hm hv=>by
   obtain⟨v1,v2,rfl,h1,h2⟩:=qr hv
   rw[h1.dv,h2.dv]
   exact(Tryz.strings_Count_one s c0 w).mono λe w' ⟨he,hw⟩=>⟨_,he, .d (.v _),hw▸Go.RowKit.Below.refl _ _⟩)
 ·cases h
def LI:Sig vw:={params:=[.dat .str, .dat .str],rcut:=oQ,rvars:=[.tmp 4]}
noncomputable def Gg(v:ByteArray×ByteArray×Unit):Option (Int×Unit):=match v.2.1.data.toList with|[c]=>some (Lib.indexByte v.1.data.toList c,())|_=>none
theorem Jl:aA prog 121 LI Gg:=λv r x h hx=>by
 obtain⟨s,c,u⟩:=v
 unfold Gg at h
 simp only at h
 split at h
 ·rename_i c0 hc
  obtain rfl:c=⟨#[c0]⟩:=by
   obtain⟨⟨l⟩⟩:=c
   simp only at hc
   rw[hc]
  cases h;cases hx
  exact bw (by kernel_rfl) (i6.pure (P:=prog) (f:=121) (args:=[.d (.v (.string s)), .d (.v (.string ⟨#[c0]⟩))]) (r:= .d (.v (.int .i64 (Lib.indexByte s.data.toList c0)))) (by kernel_rfl) λE M w vs hg hm hv=>by
   obtain⟨v1,v2,rfl,h1,h2⟩:=qr hv
   rw[h1.dv,h2.dv]
   exact(Tryz.strings_Index_one s c0 w).mono λe w' ⟨he,hw⟩=>⟨_,he, .d (.v _),hw▸Go.RowKit.Below.refl _ _⟩)
 ·cases h
def KO:Cut SN:=⟨[(0, .dat .str),(1, .dat .str),(2, .dat (.int .i64)),(3, .dat (.int .i64)),(9, .vh 1009),(10, .dat (.int .i64))],[(1009, .vec 9 .str)]⟩
def RI:Cut SN:=⟨[(0, .dat .str),(1, .dat .str),(2, .dat (.int .i64)),(3, .dat (.int .i64))],[]⟩
def RH:Cut SN:=⟨[(0, .dat .str),(9, .vh 1009),(10, .dat (.int .i64))],[(1009, .vec 9 .str)]⟩
def Tj:Cut SN:=⟨[(8, .dat (.sl .str))],[]⟩
def TL:az vw:={exits:=λid=>match id with|0=>RH|_=>⟨[],[]⟩,rcut:=Tj}
def QF:Sig vw:={params:=[.dat .str, .dat .str, .dat (.int .i64), .dat (.int .i64)],rcut:=Tj,rvars:=[.tmp 8]}
noncomputable def iO(v:ByteArray×ByteArray×Int×Int×Int×(List ByteArray)×Unit):Option ((ByteArray×Int×(List ByteArray)×Unit)):=if decide (v.2.2.2.2.1<v.2.2.2.1)=true then Gg (v.1,v.2.1,())>>=λx1=>if decide (x1.1<0)=true then some ((v.1,v.2.2.2.2.1,v.2.2.2.2.2.1,()))else if(0:Int)<=0/\0<=i64.wrap (x1.1+v.2.2.1)/\i64.wrap (x1.1+v.2.2.1)<=(↑v.1.size:Int)then if 0<=v.2.2.2.2.1/\v.2.2.2.2.1<(↑v.2.2.2.2.2.1.length:Int)then v.2.2.2.2.2.1[v.2.2.2.2.1.toNat]?>>=λx2=>if 0<=i64.wrap (x1.1+(↑v.2.1.size:Int))/\i64.wrap (x1.1+(↑v.2.1.size:Int))<=(↑v.1.size:Int)/\(↑v.1.size:Int)<=(↑v.1.size:Int)then iO (v.1.extract (i64.wrap (x1.1+(↑v.2.1.size:Int))).toNat (↑v.1.size:Int).toNat,v.2.1,v.2.2.1,v.2.2.2.1,i64.wrap (v.2.2.2.2.1+1),v.2.2.2.2.2.1.set v.2.2.2.2.1.toNat (v.1.extract (Wq 0) (i64.wrap (x1.1+v.2.2.1)).toNat),())else none else none else none else some ((v.1,v.2.2.2.2.1,v.2.2.2.2.2.1,())) partial_fixpoint
noncomputable def Q1(v:ByteArray×ByteArray×Int×Int×Unit):Option ((List ByteArray)×Unit):=if(v.2.2.2.1==0)=true then some (([],()))else if(v.2.1.toList==(Vp #[]).toList)=true then MN (v.1,v.2.2.2.1,())>>=λx1=>some ((x1.1,()))else(if decide (v.2.2.2.1<0)=true then Gf (v.1,v.2.1,())>>=λx1=>some ((v.1,v.2.1,v.2.2.1,i64.wrap (x1.1+1),()))else some ((v.1,v.2.1,v.2.2.1,v.2.2.2.1,())))>>=λx1=>if 0<=min x1.2.2.2.1 (i64.wrap ((↑x1.1.size:Int)+1))then if min x1.2.2.2.1 (i64.wrap ((↑x1.1.size:Int)+1))<=4294967296 then iO (x1.1,x1.2.1,x1.2.2.1,i64.wrap (min x1.2.2.2.1 (i64.wrap ((↑x1.1.size:Int)+1)) -1),(0:Int),Wm (min x1.2.2.2.1 (i64.wrap ((↑x1.1.size:Int)+1))).toNat (Vp #[]),())>>=λx2=>if 0<=x2.2.1/\x2.2.1<(↑x2.2.2.1.length:Int)then x2.2.2.1[x2.2.1.toNat]?>>=λx3=>if(0:Int)<=0/\0<=i64.wrap (x2.2.1+1)/\i64.wrap (x2.2.1+1)<=(↑(x2.2.2.1.set x2.2.1.toNat x2.1).length:Int)then some ((Yh (i64.wrap (x2.2.1+1)).toNat (x2.2.2.1.set x2.2.1.toNat x2.1),()))else none else none else none else none
def Li:al vw:=cP prog 119 LG MN (cP prog 120 LH Gf (cP prog 121 LI Gg c0))
def x96:Xc vw:={P:=prog,n:=66,call:=Li,pre:=aP,sh:=TL,joins:=λk=>match k with|7=>some (RI,[.norm])|_=>none,loops:=λk=>match k with|11=>some {cut:=KO,alts:=[.exit 0],F:=iO}|_=>none}
theorem wH:af prog Li:=aU Jj rfl rfl (aU Jk rfl rfl (aU Jl rfl rfl aJ))
theorem Dd(C:Ctx)(hP:C.P=prog)(hN:C.N=66/\Fx C aP):aD C (aj (ah Tryz.f96) 0) (sh:=TL) {cut:=KO,alts:=[.exit 0],F:=iO}:=
 lpB (X:=x96) iO.partial_correctness hP hN Ty.mixed wH (bL (by kernel_rfl)) λF v=>by kernel_rfl
theorem Np:aA prog 96 QF Q1:=fnA x96 Tryz.func96 (by kernel_rfl) Ty.mixed wH rfl rfl rfl (λv=>by kernel_rfl) λC hP hN=>gq (by kernel_rfl) (by kernel_rfl) (Dd C hP hN)
def UB:az vw:={rcut:=IO}
def Qy:Sig vw:={params:=[.dat .str, .dat .str],rcut:=IO,rvars:=[.tmp 4]}
noncomputable def PR(v:ByteArray×ByteArray×Unit):Option ((List ByteArray)×Unit):=Q1 (v.1,v.2.1,(0:Int),(-1:Int),())>>=λx1=>some ((x1.1,()))
def K8:al vw:=cP prog 96 QF Q1 c0
def x65:Xc vw:={P:=prog,n:=8,call:=K8,pre:=aP,sh:=UB}
theorem EZ:af prog K8:=aU Np rfl rfl aJ
theorem Ng:aA prog 65 Qy PR:=fnA x65 Tryz.func65 (by kernel_rfl) Ty.mixed EZ rfl rfl rfl (λv=>by kernel_rfl) λC hP hN=>bL (by kernel_rfl)
def gI:Cut SN:=⟨[(4, .dat .bool)],[]⟩
def UL:az vw:={rcut:=gI}
def QG:Sig vw:={params:=[.dat .str, .dat .str],rcut:=gI,rvars:=[.tmp 4]}
noncomputable def Q2(v:ByteArray×ByteArray×Unit):Option (Bool×Unit):=(if decide ((↑v.1.size:Int)>=(↑v.2.1.size:Int))=true then if(0:Int)<=0/\0<=(↑v.2.1.size:Int)/\(↑v.2.1.size:Int)<=(↑v.1.size:Int)then some (((v.1.extract (Wq 0) (↑v.2.1.size:Int).toNat).toList==v.2.1.toList,()))else none else some ((false,())))>>=λx1=>some ((x1.1,()))
def Lj:al vw:=c0
def x97:Xc vw:={P:=prog,n:=18,call:=Lj,pre:=aP,sh:=UL,regs:=λk=>match k with|1=>some gI|_=>none}
theorem Fh:af prog Lj:=aJ
theorem Nq:aA prog 97 QG Q2:=fnA x97 Tryz.func97 (by kernel_rfl) Ty.mixed Fh rfl rfl rfl (λv=>by kernel_rfl) λC hP hN=>bL (by kernel_rfl)
def UC:az vw:={rcut:=gI}
def Qz:Sig vw:={params:=[.dat .str, .dat .str],rcut:=gI,rvars:=[.tmp 4]}
noncomputable def PS(v:ByteArray×ByteArray×Unit):Option (Bool×Unit):=Q2 (v.1,v.2.1,())>>=λx1=>some ((x1.1,()))
def K9:al vw:=cP prog 97 QG Q2 c0
def x66:Xc vw:={P:=prog,n:=8,call:=K9,pre:=aP,sh:=UC}
theorem E3:af prog K9:=aU Nq rfl rfl aJ
theorem Nh:aA prog 66 Qz PS:=fnA x66 Tryz.func66 (by kernel_rfl) Ty.mixed E3 rfl rfl rfl (λv=>by kernel_rfl) λC hP hN=>bL (by kernel_rfl)
def IP:Cut SN:=⟨[(3, .vh 1003),(4, .dat (.int .i64)),(5, .dat (.int .i64)),(11, .dat (.sl .str)),(12, .dat (.int .i64)),(13, .dat (.int .i64))],[(1003, .dvec 24 (.sl .str) false)]⟩
def Mj:Cut SN:=⟨[(3, .vh 1003),(4, .dat (.int .i64)),(5, .dat (.int .i64)),(11, .dat (.sl .str)),(12, .dat (.int .i64)),(13, .dat (.int .i64)),(25, .vh 1025),(26, .dat (.int .i64)),(27, .dat (.int .i64))],[(1003, .dvec 24 (.sl .str) false),(1025, .vec 9 .str)]⟩
def O1:Cut SN:=⟨[(3, .vh 1003),(4, .dat (.int .i64)),(5, .dat (.int .i64)),(9, .dat .str),(11, .dat (.sl .str)),(12, .dat (.int .i64)),(13, .dat (.int .i64)),(25, .vh 1025),(26, .dat (.int .i64)),(27, .dat (.int .i64))],[(1003, .dvec 24 (.sl .str) false),(1025, .vec 9 .str)]⟩
def O2:Cut SN:=⟨[(3, .vh 1003),(4, .dat (.int .i64)),(5, .dat (.int .i64)),(9, .dat .str),(11, .dat (.sl .str)),(12, .dat (.int .i64)),(13, .dat (.int .i64)),(25, .vh 1025),(26, .dat (.int .i64)),(27, .dat (.int .i64)),(53, .dat .bool)],[(1003, .dvec 24 (.sl .str) false),(1025, .vec 9 .str)]⟩
def O3:Cut SN:=⟨[(3, .vh 1003),(4, .dat (.int .i64)),(5, .dat (.int .i64)),(11, .dat (.sl .str)),(12, .dat (.int .i64)),(13, .dat (.int .i64)),(25, .vh 1025),(26, .dat (.int .i64)),(27, .dat (.int .i64)),(62, .dat .bool)],[(1003, .dvec 24 (.sl .str) false),(1025, .vec 9 .str)]⟩
def Rq:Cut SN:=⟨[(3, .vh 1003)],[(1003, .dvec 24 (.sl .str) false)]⟩
def SZ:Cut SN:=⟨[(2, .dat (.sl (.sl .str)))],[]⟩
def So:az vw:={exits:=λid=>match id with|0=>Rq|2=>IP|_=>⟨[],[]⟩,rcut:=SZ}
def NF:Nat->Bool:=λk=>match k with|1000022=>true|1000036=>true|_=>false
def NQ:Sig vw:={params:=[.dat .str],rcut:=SZ,rvars:=[.tmp 2]}
noncomputable def mN(v:Int×Int×(List ByteArray)×Int×Int×Int×Int×(List (List ByteArray))×(List ByteArray)×Unit):Option ((Int×Int×(List ByteArray)×Int×Int×(List (List ByteArray))×Unit)):=if decide (v.2.2.2.2.2.2.1<v.2.2.2.2.2.1)=true then(if 0<=v.2.2.2.2.2.2.1/\v.2.2.2.2.2.2.1<(↑v.2.2.2.2.2.2.2.2.1.length:Int)then v.2.2.2.2.2.2.2.2.1[v.2.2.2.2.2.2.1.toNat]?>>=λx1=>(if decide (v.1<0)=true then if v.2.2.2.2.2.2.2.1.length+(1:Nat)<=4294967296 then some (((↑v.2.2.2.2.2.2.2.1.length:Int),v.2.1,x1,v.2.2.1,v.2.2.2.1,v.2.2.2.2.1,v.2.2.2.2.2.1,v.2.2.2.2.2.2.1,v.2.2.2.2.2.2.2.1++[[]],v.2.2.2.2.2.2.2.2.1,()))else none else some ((v.1,v.2.1,x1,v.2.2.1,v.2.2.2.1,v.2.2.2.2.1,v.2.2.2.2.2.1,v.2.2.2.2.2.2.1,v.2.2.2.2.2.2.2.1,v.2.2.2.2.2.2.2.2.1,())))>>=λx2=>if 0<=x2.1/\x2.1<(↑x2.2.2.2.2.2.2.2.2.1.length:Int)then x2.2.2.2.2.2.2.2.2.1[x2.1.toNat]?>>=λx3=>if x3.length+[x2.2.2.1].length<=4294967296 then if 0<=x2.1/\x2.1<(↑((W0 some x2.2.2.2.2.2.2.2.2.1).set x2.1.toNat none).length:Int)then((W0 some x2.2.2.2.2.2.2.2.2.1).set x2.1.toNat none)[x2.1.toNat]?>>=λx4=>Ec (((W0 some x2.2.2.2.2.2.2.2.2.1).set x2.1.toNat none).set x2.1.toNat (some (x3++[x2.2.2.1])))>>=λx5=>if(x2.2.2.1.toList==(Vp #[123]).toList)=true then some ((x2.1,i64.wrap (x2.2.1+1),x2.2.2.2.1,x2.2.2.2.2.1,x2.2.2.2.2.2.1,x2.2.2.2.2.2.2.1,x2.2.2.2.2.2.2.2.1,x5,x2.2.2.2.2.2.2.2.2.2.1,()))else(if(x2.2.2.1.toList==(Vp #[125]).toList)=true then some ((x2.1,x2.2.1,x2.2.2.1,x2.2.2.2.1,x2.2.2.2.2.1,x2.2.2.2.2.2.1,x2.2.2.2.2.2.2.1,x2.2.2.2.2.2.2.2.1,decide (x2.2.1>0),x5,x2.2.2.2.2.2.2.2.2.2.1,()))else some ((x2.1,x2.2.1,x2.2.2.1,x2.2.2.2.1,x2.2.2.2.2.1,x2.2.2.2.2.2.1,x2.2.2.2.2.2.2.1,x2.2.2.2.2.2.2.2.1,false,x5,x2.2.2.2.2.2.2.2.2.2.1,())))>>=λx6=>if x6.2.2.2.2.2.2.2.2.1=true then some ((x6.1,i64.wrap (x6.2.1-1),x6.2.2.2.1,x6.2.2.2.2.1,x6.2.2.2.2.2.1,x6.2.2.2.2.2.2.1,x6.2.2.2.2.2.2.2.1,x6.2.2.2.2.2.2.2.2.2.1,x6.2.2.2.2.2.2.2.2.2.2.1,()))else(if(x6.2.2.1.toList==(Vp #[59]).toList)=true then some ((x6.1,x6.2.1,x6.2.2.2.1,x6.2.2.2.2.1,x6.2.2.2.2.2.1,x6.2.2.2.2.2.2.1,x6.2.2.2.2.2.2.2.1,x6.2.1==0,x6.2.2.2.2.2.2.2.2.2.1,x6.2.2.2.2.2.2.2.2.2.2.1,()))else some ((x6.1,x6.2.1,x6.2.2.2.1,x6.2.2.2.2.1,x6.2.2.2.2.2.1,x6.2.2.2.2.2.2.1,x6.2.2.2.2.2.2.2.1,false,x6.2.2.2.2.2.2.2.2.2.1,x6.2.2.2.2.2.2.2.2.2.2.1,())))>>=λx7=>if x7.2.2.2.2.2.2.2.1=true then some (((-1:Int),x7.2.1,x7.2.2.1,x7.2.2.2.1,x7.2.2.2.2.1,x7.2.2.2.2.2.1,x7.2.2.2.2.2.2.1,x7.2.2.2.2.2.2.2.2.1,x7.2.2.2.2.2.2.2.2.2.1,()))else some ((x7.1,x7.2.1,x7.2.2.1,x7.2.2.2.1,x7.2.2.2.2.1,x7.2.2.2.2.2.1,x7.2.2.2.2.2.2.1,x7.2.2.2.2.2.2.2.2.1,x7.2.2.2.2.2.2.2.2.2.1,()))else none else none else none else none)>>=λx1=>mN (x1.1,x1.2.1,x1.2.2.1,x1.2.2.2.1,x1.2.2.2.2.1,x1.2.2.2.2.2.1,i64.wrap (x1.2.2.2.2.2.2.1+1),x1.2.2.2.2.2.2.2.1,x1.2.2.2.2.2.2.2.2.1,())else some ((v.1,v.2.1,v.2.2.1,v.2.2.2.1,v.2.2.2.2.1,v.2.2.2.2.2.2.2.1,())) partial_fixpoint
noncomputable def mM(v:Int×Int×(List ByteArray)×Int×Int×(List (List ByteArray))×Unit):Option (((List (List ByteArray))×Unit)):=if decide (v.2.2.2.2.1<v.2.2.2.1)=true then(if 0<=v.2.2.2.2.1 then v.2.2.1[v.2.2.2.2.1.toNat]?>>=λx1=>PS (x1,Vp #[35],())>>=λx2=>if x2.1=true then hO (x1,())>>=λx3=>if v.2.2.2.2.2.1.length+[x3.1].length<=4294967296 then some ((v.1,v.2.1,v.2.2.1,v.2.2.2.1,v.2.2.2.2.1,v.2.2.2.2.2.1++[x3.1],()))else none else hO (x1,())>>=λx3=>mN (v.1,v.2.1,v.2.2.1,v.2.2.2.1,v.2.2.2.2.1,(↑x3.1.length:Int),(0:Int),v.2.2.2.2.2.1,x3.1,())>>=λx4=>some ((x4.1,x4.2.1,x4.2.2.1,x4.2.2.2.1,x4.2.2.2.2.1,x4.2.2.2.2.2.1,()))else none)>>=λx1=>mM (x1.1,x1.2.1,x1.2.2.1,x1.2.2.2.1,i64.wrap (x1.2.2.2.2.1+1),x1.2.2.2.2.2.1,())else some ((v.2.2.2.2.2.1,())) partial_fixpoint
noncomputable def MV(v:ByteArray×Unit):Option ((List (List ByteArray))×Unit):=PR (v.1,Vp #[10],())>>=λx1=>mM ((-1:Int),(0:Int),x1.1,(↑x1.1.length:Int),(0:Int),[],())>>=λx2=>some ((x2.1,()))
def KW:al vw:=cO prog 52 ul hO (cP prog 65 Qy PR (cP prog 66 Qz PS c0))
def x34:Xc vw:={P:=prog,n:=72,call:=KW,pre:=NF,sh:=So,joins:=λk=>match k with|14=>some (O1,[.norm])|21=>some (Mj,[.norm])|22=>some (IP,[.norm])|_=>none,regs:=λk=>match k with|17=>some O2|19=>some O3|_=>none,loops:=λk=>match k with|4=>some {cut:=IP,alts:=[.exit 0],F:=mM}|9=>some {cut:=Mj,alts:=[.exit 2],F:=mN}|_=>none}
theorem p7:af prog KW:=aN xw (aU Ng rfl rfl (aU Nh rfl rfl aJ))
theorem Gv(C:Ctx)(hP:C.P=prog)(hN:C.N=72/\Fx C NF):aD C (aj (aj (ah Tryz.f34) 0) 0) (sh:=So) {cut:=Mj,alts:=[.exit 2],F:=mN}:=
 lpB (X:=x34) mN.partial_correctness hP hN Ty.mixed p7 (bL (by kernel_rfl)) λF v=>by kernel_rfl
theorem Gu(C:Ctx)(hP:C.P=prog)(hN:C.N=72/\Fx C NF):aD C (aj (ah Tryz.f34) 0) (sh:=So) {cut:=IP,alts:=[.exit 0],F:=mM}:=
 lpB (X:=x34) mM.partial_correctness hP hN Ty.mixed p7 (gq (by kernel_rfl) (by kernel_rfl) (Gv C hP hN)) λF v=>by kernel_rfl
theorem Gt:aA prog 34 NQ MV:=fnA x34 Tryz.func34 (by kernel_rfl) Ty.mixed p7 rfl rfl rfl (λv=>by kernel_rfl) λC hP hN=>gq (by kernel_rfl) (by kernel_rfl) (Gu C hP hN)
def wj:Cut SN:=⟨[(0, .bp 100000 0),(1, .bp 100001 0)],[(100000, .box none [.bp 100002 0]),(100001, .box none [.vh 100003]),(100002, .box none [.vh 100003]),(100003, .vec 44 (.st .itemT))]⟩
def Hy:az vw:={rcut:=wj}
def kp:Sig vw:={params:=[.bp 100000 0, .bp 100001 0],objs:=[(100000, .box none [.bp 100002 0]),(100001, .box none [.dat (.sl (.st .itemT))]),(100002, .box none [.vh 100003]),(100003, .vec 44 (.st .itemT))],rcut:=wj,rvars:=[],keep:=[100000,100001,100002,100003]}
noncomputable def jG(v:(List Item)×(List Item)×Unit):Option ((List Item)×Unit):=some ((v.2.1,()))
def qa:al vw:=c0
def BT:Xc vw:={P:=prog,n:=6,call:=qa,pre:=aP,sh:=Hy}
theorem kK:af prog qa:=aJ
theorem vi:D8 prog 67 kp jG:=λv r x h hx=>
 Pr (X:=BT) (sig:=kp) rfl Tryz.func67 (c:=ah Tryz.f67) (by kernel_rfl) Tryz.ntmps67 (by kernel_rfl) (by kernel_rfl) rfl Ty.mixed kK rfl (λC hP hN=>(bo (bw (by kernel_rfl) trivial))) (bw (by kernel_rfl) h) x hx
theorem xx:aA prog 67 kp jG:=fnA BT Tryz.func67 (by kernel_rfl) Ty.mixed kK rfl rfl rfl (λv=>by kernel_rfl) λC hP hN=>bL (by kernel_rfl)
def fG:Cut SN:=⟨[(0, .bp 100000 0),(2, .dat .str)],[(100000, .box none [.bp 100001 0, .dat (.sl .str), .dat .bool]),(100001, .box none [.vh 100002]),(100002, .vec 44 (.st .itemT))]⟩
def DJ:az vw:={rcut:=fG}
def iX:Sig vw:={params:=[.bp 100000 0],objs:=[(100000, .box none [.bp 100001 0, .dat (.sl .str), .dat .bool]),(100001, .box none [.vh 100002]),(100002, .vec 44 (.st .itemT))],rcut:=fG,rvars:=[.tmp 2],keep:=[100000,100001,100002]}
noncomputable def dD(v:(List ByteArray)×Bool×(List Item)×Unit):Option (ByteArray×(List ByteArray)×Bool×(List Item)×Unit):=if((↑v.1.length:Int)==0)=true then some ((Vp #[],v.1,v.2.1,v.2.2.1,()))else v.1[Wq 0]?>>=λx1=>some ((x1,v.1,v.2.1,v.2.2.1,()))
def og:al vw:=c0
def Iu:Xc vw:={P:=prog,n:=15,call:=og,pre:=aP,sh:=DJ}
theorem pT:af prog og:=aJ
theorem iN:aA prog 162 iX dD:=fnA Iu Tryz.func162 (by kernel_rfl) Ty.mixed pT rfl rfl rfl (λv=>by kernel_rfl) λC hP hN=>bL (by kernel_rfl)
def zj:Cut SN:=⟨[(0, .bp 100000 0),(12, .dat .bool)],[(100000, .box none [.bp 100001 0, .dat (.sl .str), .dat .bool]),(100001, .box none [.vh 100002]),(100002, .vec 44 (.st .itemT))]⟩
def s_:Cut SN:=⟨[(0, .bp 100000 0),(4, .dat .bool)],[(100000, .box none [.bp 100001 0, .dat (.sl .str), .dat .bool]),(100001, .box none [.vh 100002]),(100002, .vec 44 (.st .itemT))]⟩
def DE:az vw:={rcut:=s_}
def dt:Sig vw:={params:=[.bp 100000 0, .dat .str],objs:=[(100000, .box none [.bp 100001 0, .dat (.sl .str), .dat .bool]),(100001, .box none [.vh 100002]),(100002, .vec 44 (.st .itemT))],rcut:=s_,rvars:=[.tmp 4],keep:=[100000,100001,100002]}
noncomputable def bz(v:ByteArray×(List ByteArray)×Bool×(List Item)×Unit):Option (Bool×(List ByteArray)×Bool×(List Item)×Unit):=(dD (v.2.1,v.2.2.1,v.2.2.2.1,())>>=λx1=>if x1.2.2.2.1.length=v.2.2.2.1.length then if(!x1.1.toList==v.1.toList)=true then some ((true,x1.2.1,x1.2.2.1,x1.2.2.2.1,()))else some ((v.1.toList==(Vp #[]).toList,x1.2.1,x1.2.2.1,x1.2.2.2.1,()))else none)>>=λx1=>if x1.1=true then some ((false,x1.2.1,x1.2.2.1,x1.2.2.2.1,()))else if(0:Int)<=1/\(1:Int)<=(↑x1.2.1.length:Int)/\(↑x1.2.1.length:Int)<=(↑x1.2.1.length:Int)then some ((true,YE (Wq 1) (Yh (↑x1.2.1.length:Int).toNat x1.2.1),x1.2.2.1,x1.2.2.2.1,()))else none
def n_:al vw:=cO prog 162 iX dD c0
def Ip:Xc vw:={P:=prog,n:=21,call:=n_,pre:=aP,sh:=DE,regs:=λk=>match k with|1=>some zj|_=>none}
theorem pO:af prog n_:=aN iN aJ
theorem cU:aA prog 156 dt bz:=fnA Ip Tryz.func156 (by kernel_rfl) Ty.mixed pO rfl rfl rfl (λv=>by kernel_rfl) λC hP hN=>bL (by kernel_rfl)
def lp:Cut SN:=⟨[(0, .bp 100000 0),(6, .dat (.sl .str)),(7, .dat (.int .i64)),(8, .dat (.int .i64))],[(100000, .box none [.bp 100001 0, .dat (.sl .str), .dat .bool]),(100001, .box none [.vh 100002]),(100002, .vec 44 (.st .itemT))]⟩
def lm:Cut SN:=⟨[(0, .bp 100000 0)],[(100000, .box none [.bp 100001 0, .dat (.sl .str), .dat .bool]),(100001, .box none [.vh 100002]),(100002, .vec 44 (.st .itemT))]⟩
def uf:az vw:={exits:=λid=>match id with|0=>lm|_=>⟨[],[]⟩,rcut:=lm}
def gk:Sig vw:={params:=[.bp 100000 0, .dat (.sl .str)],objs:=[(100000, .box none [.bp 100001 0, .dat (.sl .str), .dat .bool]),(100001, .box none [.vh 100002]),(100002, .vec 44 (.st .itemT))],rcut:=lm,rvars:=[],keep:=[100000,100001,100002]}
noncomputable def cn(v:(List ByteArray)×Int×Int×(List ByteArray)×Bool×(List Item)×Unit):Option (((List ByteArray)×Bool×(List Item)×Unit)):=if decide (v.2.2.1<v.2.1)=true then(if 0<=v.2.2.1 then v.1[v.2.2.1.toNat]?>>=λx1=>bz (x1,v.2.2.2.1,v.2.2.2.2.1,v.2.2.2.2.2.1,())>>=λx2=>if x2.2.2.2.1.length=v.2.2.2.2.2.1.length then if(!x2.1)=true then some ((v.1,v.2.1,v.2.2.1,x2.2.1,true,x2.2.2.2.1,()))else some ((v.1,v.2.1,v.2.2.1,x2.2.1,x2.2.2.1,x2.2.2.2.1,()))else none else none)>>=λx1=>cn (x1.1,x1.2.1,i64.wrap (x1.2.2.1+1),x1.2.2.2.1,x1.2.2.2.2.1,x1.2.2.2.2.2.1,())else some ((v.2.2.2.1,v.2.2.2.2.1,v.2.2.2.2.2.1,())) partial_fixpoint
noncomputable def ba(v:(List ByteArray)×(List ByteArray)×Bool×(List Item)×Unit):Option ((List ByteArray)×Bool×(List Item)×Unit):=cn (v.1,(↑v.1.length:Int),(0:Int),v.2.1,v.2.2.1,v.2.2.2.1,())>>=λx1=>some ((x1.1,x1.2.1,x1.2.2.1,()))
def n8:al vw:=cO prog 156 dt bz c0
def yJ:Xc vw:={P:=prog,n:=20,call:=n8,pre:=aP,sh:=uf,joins:=λk=>match k with|5=>some (lp,[.norm])|_=>none,loops:=λk=>match k with|1=>some {cut:=lp,alts:=[.exit 0],F:=cn}|_=>none}
theorem jq:af prog n8:=aN cU aJ
theorem qN(C:Ctx)(hP:C.P=prog)(hN:C.N=20/\Fx C aP):aD C (aj (ah Tryz.f154) 0) (sh:=uf) {cut:=lp,alts:=[.exit 0],F:=cn}:=
 lpB (X:=yJ) cn.partial_correctness hP hN Ty.mixed jq (bL (by kernel_rfl)) λF v=>by kernel_rfl
theorem fB:aA prog 154 gk ba:=fnA yJ Tryz.func154 (by kernel_rfl) Ty.mixed jq rfl rfl rfl (λv=>by kernel_rfl) λC hP hN=>gq (by kernel_rfl) (by kernel_rfl) (qN C hP hN)
def pD:Cut SN:=⟨[(0, .bp 100000 0),(3, .dat .str)],[(100000, .box none [.bp 100001 0, .dat (.sl .str), .dat .bool]),(100001, .box none [.vh 100002]),(100002, .vec 44 (.st .itemT))]⟩
def DK:az vw:={rcut:=fG}
def gl:Sig vw:={params:=[.bp 100000 0],objs:=[(100000, .box none [.bp 100001 0, .dat (.sl .str), .dat .bool]),(100001, .box none [.vh 100002]),(100002, .vec 44 (.st .itemT))],rcut:=fG,rvars:=[.tmp 2],keep:=[100000,100001,100002]}
noncomputable def cF(v:(List ByteArray)×Bool×(List Item)×Unit):Option (ByteArray×(List ByteArray)×Bool×(List Item)×Unit):=dD (v.1,v.2.1,v.2.2.1,())>>=λx1=>if x1.2.2.2.1.length=v.2.2.1.length then(if(!x1.1.toList==(Vp #[]).toList)=true then if(0:Int)<=1/\(1:Int)<=(↑x1.2.1.length:Int)/\(↑x1.2.1.length:Int)<=(↑x1.2.1.length:Int)then some ((x1.1,YE (Wq 1) (Yh (↑x1.2.1.length:Int).toNat x1.2.1),x1.2.2.1,x1.2.2.2.1,()))else none else some ((x1.1,x1.2.1,x1.2.2.1,x1.2.2.2.1,())))>>=λx2=>some ((x2.1,x2.2.1,x2.2.2.1,x2.2.2.2.1,()))else none
def oi:al vw:=cO prog 162 iX dD c0
def Iv:Xc vw:={P:=prog,n:=17,call:=oi,pre:=aP,sh:=DK,joins:=λk=>match k with|4=>some (pD,[.norm])|_=>none}
theorem pU:af prog oi:=aN iN aJ
theorem fC:aA prog 164 gl cF:=fnA Iv Tryz.func164 (by kernel_rfl) Ty.mixed pU rfl rfl rfl (λv=>by kernel_rfl) λC hP hN=>bL (by kernel_rfl)
def Sm:az vw:={rcut:=dw}
def LR:Sig vw:={params:=[.dat .str],rcut:=dw,rvars:=[.tmp 2]}
noncomputable def C_(v:ByteArray×Unit):Option (Bool×Unit):=(if(v.1.toList==(Vp #[99,104,97,114]).toList)=true then some ((true,()))else if(v.1.toList==(Vp #[115,104,111,114,116]).toList)=true then some ((true,()))else if(v.1.toList==(Vp #[105,110,116]).toList)=true then some ((true,()))else if(v.1.toList==(Vp #[108,111,110,103]).toList)=true then some ((true,()))else if(v.1.toList==(Vp #[117,110,115,105,103,110,101,100]).toList)=true then some ((true,()))else if(v.1.toList==(Vp #[118,111,105,100]).toList)=true then some ((true,()))else if(v.1.toList==(Vp #[115,116,114,117,99,116]).toList)=true then some ((true,()))else some ((v.1.toList==(Vp #[101,110,117,109]).toList,())))>>=λx1=>if x1.1=true then some ((true,()))else some ((false,()))
def EO:al vw:=c0
def Vf:Xc vw:={P:=prog,n:=13,call:=EO,pre:=aP,sh:=Sm,joins:=λk=>match k with|10=>some (gI,[.norm])|_=>none}
theorem Cy:af prog EO:=aJ
theorem Jy:aA prog 182 LR C_:=fnA Vf Tryz.func182 (by kernel_rfl) Ty.mixed Cy rfl rfl rfl (λv=>by kernel_rfl) λC hP hN=>bL (by kernel_rfl)
def zi:Cut SN:=⟨[(0, .bp 100000 0),(3, .dat .str),(17, .dat .bool)],[(100000, .box none [.bp 100001 0, .dat (.sl .str), .dat .bool]),(100001, .box none [.vh 100002]),(100002, .vec 44 (.st .itemT))]⟩
def DC:az vw:={rcut:=fG}
def eJ:Sig vw:={params:=[.bp 100000 0],objs:=[(100000, .box none [.bp 100001 0, .dat (.sl .str), .dat .bool]),(100001, .box none [.vh 100002]),(100002, .vec 44 (.st .itemT))],rcut:=fG,rvars:=[.tmp 2],keep:=[100000,100001,100002]}
noncomputable def bx(v:(List ByteArray)×Bool×(List Item)×Unit):Option (ByteArray×(List ByteArray)×Bool×(List Item)×Unit):=cF (v.1,v.2.1,v.2.2.1,())>>=λx1=>if x1.2.2.2.1.length=v.2.2.1.length then((if(x1.1.toList==(Vp #[]).toList)=true then some ((x1.1,true,x1.2.1,x1.2.2.1,x1.2.2.2.1,()))else x1.1[Wq 0]?>>=λx2=>Ls ((↑x2.toNat:Int),())>>=λx3=>if(!x3.1)=true then some ((x1.1,true,x1.2.1,x1.2.2.1,x1.2.2.2.1,()))else C_ (x1.1,())>>=λx4=>some ((x1.1,x4.1,x1.2.1,x1.2.2.1,x1.2.2.2.1,())))>>=λx2=>if x2.2.1=true then some ((x2.1,x2.2.2.1,true,x2.2.2.2.2.1,()))else some ((x2.1,x2.2.2.1,x2.2.2.2.1,x2.2.2.2.2.1,())))>>=λx2=>some ((x2.1,x2.2.1,x2.2.2.1,x2.2.2.2.1,()))else none
def n9:al vw:=cP prog 86 NV Ls (cO prog 164 gl cF (cP prog 182 LR C_ c0))
def Io:Xc vw:={P:=prog,n:=22,call:=n9,pre:=aP,sh:=DC,joins:=λk=>match k with|4=>some (pD,[.norm])|_=>none,regs:=λk=>match k with|2=>some zi|_=>none}
theorem pN:af prog n9:=aU GJ rfl rfl (aN fC (aU Jy rfl rfl aJ))
theorem ej:aA prog 155 eJ bx:=fnA Io Tryz.func155 (by kernel_rfl) Ty.mixed pN rfl rfl rfl (λv=>by kernel_rfl) λC hP hN=>bL (by kernel_rfl)
def Rp:Cut SN:=⟨[(2, .dat (.int .i64)),(3, .dat .er)],[]⟩
def HD:Sig vw:={params:=[.dat .str],rcut:=Rp,rvars:=[.tmp 2, .tmp 3]}
noncomputable def xq(v:ByteArray×Unit):Option (Int×Bool×Unit):=if v.1.size<=1000000000000 then(match Lib.atoiAll v.1.data.toList with| .ok n=>some (n,false,())| .range=>some (Lib.atoiSat v.1.data.toList,true,())|_=>some (0,true,()))else none
theorem Bd:aA prog 170 HD xq:=λv r x h hx=>by
 obtain⟨s,u⟩:=v
 unfold xq at h
 split at h
 ·rename_i hc
  simp only at hc h
  cases hq:Lib.atoiAll s.data.toList with
  |ok n=>
   simp only[hq]at h
   cases h;cases hx
   exact bw (by kernel_rfl) (i6.pure (P:=prog) (f:=170) (args:=[.d (.v (.string s))]) (r:= .tup [.d (.v (.int .i64 n)), .d (.er false)]) (by kernel_rfl) λE M w vs hg hm hv=>by
    obtain⟨v1,rfl,h1⟩:=mv hv
    rw[h1.dv]
    exact(Tryz.strconv_Atoi_ok s (by omega) n hq w).mono λe w' ⟨he,hw⟩=>⟨_,he,zZ .ern,yX hw⟩)
  |range=>
   simp only[hq]at h
   cases h;cases hx
   exact bw (by kernel_rfl) (i6.pure (P:=prog) (f:=170) (args:=[.d (.v (.string s))]) (r:= .tup [.d (.v (.int .i64 (Lib.atoiSat s.data.toList))), .d (.er true)]) (by kernel_rfl) λE M w vs hg hm hv=>by
    obtain⟨v1,rfl,h1⟩:=mv hv
    rw[h1.dv]
    obtain⟨te,pe,hev⟩:=I8 hg hm
    exact(Tryz.strconv_Atoi_range s (by omega) hq _ w hev (.inr ⟨te,pe,rfl⟩)).mono λe w' ⟨N,he,_,_,hw⟩=>⟨_,he,zZ (.ere _ _),hw⟩)
  |_=>
   simp only[hq]at h
   cases h;cases hx
   exact bw (by kernel_rfl) (i6.pure (P:=prog) (f:=170) (args:=[.d (.v (.string s))]) (r:= .tup [.d (.v (.int .i64 0)), .d (.er true)]) (by kernel_rfl) λE M w vs hg hm hv=>by
    obtain⟨v1,rfl,h1⟩:=mv hv
    rw[h1.dv]
    obtain⟨te,pe,hev⟩:=FG hg hm
    exact(Tryz.strconv_Atoi_syntax s (by omega) ⟨λn hn=>(by rw[hq]at hn;cases hn),λhn=>(by rw[hq]at hn;cases hn)⟩ _ w hev (.inr ⟨te,pe,rfl⟩)).mono λe w' ⟨N,he,_,_,hw⟩=>⟨_,he,zZ (.ere _ _),hw⟩)
 ·cases h
def zk:Cut SN:=⟨[(0, .bp 100000 0),(4, .dat (.int .i64))],[(100000, .box none [.bp 100001 0, .dat (.sl .str), .dat .bool]),(100001, .box none [.vh 100002]),(100002, .vec 44 (.st .itemT))]⟩
def zl:Cut SN:=⟨[(0, .bp 100000 0),(4, .dat (.int .i64)),(25, .dat .bool)],[(100000, .box none [.bp 100001 0, .dat (.sl .str), .dat .bool]),(100001, .box none [.vh 100002]),(100002, .vec 44 (.st .itemT))]⟩
def tc:Cut SN:=⟨[(0, .bp 100000 0),(2, .dat (.int .i64))],[(100000, .box none [.bp 100001 0, .dat (.sl .str), .dat .bool]),(100001, .box none [.vh 100002]),(100002, .vec 44 (.st .itemT))]⟩
def DF:az vw:={rcut:=tc}
def lY:Sig vw:={params:=[.bp 100000 0],objs:=[(100000, .box none [.bp 100001 0, .dat (.sl .str), .dat .bool]),(100001, .box none [.vh 100002]),(100002, .vec 44 (.st .itemT))],rcut:=tc,rvars:=[.tmp 2],keep:=[100000,100001,100002]}
noncomputable def eF(v:(List ByteArray)×Bool×(List Item)×Unit):Option (Int×(List ByteArray)×Bool×(List Item)×Unit):=cF (v.1,v.2.1,v.2.2.1,())>>=λx1=>if x1.2.2.2.1.length=v.2.2.1.length then xq (x1.1,())>>=λx2=>((if x2.2.1=true then some ((x2.1,true,x1.2.1,x1.2.2.1,x1.2.2.2.1,()))else x1.1[Wq 0]?>>=λx3=>JB ((↑x3.toNat:Int),())>>=λx4=>if(!x4.1)=true then some ((x2.1,true,x1.2.1,x1.2.2.1,x1.2.2.2.1,()))else some ((x2.1,decide ((↑x1.1.size:Int)>9),x1.2.1,x1.2.2.1,x1.2.2.2.1,())))>>=λx3=>if x3.2.1=true then some ((x3.1,x3.2.2.1,true,x3.2.2.2.2.1,()))else some ((x3.1,x3.2.2.1,x3.2.2.2.1,x3.2.2.2.2.1,())))>>=λx3=>some ((x3.1,x3.2.1,x3.2.2.1,x3.2.2.2.1,()))else none
def oa:al vw:=cP prog 87 NW JB (cO prog 164 gl cF (cP prog 170 HD xq c0))
def Iq:Xc vw:={P:=prog,n:=30,call:=oa,pre:=aP,sh:=DF,joins:=λk=>match k with|5=>some (zk,[.norm])|_=>none,regs:=λk=>match k with|3=>some zl|_=>none}
theorem pP:af prog oa:=aU GK rfl rfl (aN fC (aU Bd rfl rfl aJ))
theorem mI:aA prog 157 lY eF:=fnA Iq Tryz.func157 (by kernel_rfl) Ty.mixed pP rfl rfl rfl (λv=>by kernel_rfl) λC hP hN=>bL (by kernel_rfl)
def eA:Cut SN:=⟨[(1, .bp 100000 0),(2, .bp 100001 0),(4, .dat .bool)],[(100000, .box none [.dat (.int .i64)]),(100001, .box none [.dat .str])]⟩
def DO:az vw:={rcut:=eA}
def rG:Sig vw:={params:=[.dat (.st .itemT), .bp 100000 0, .bp 100001 0],objs:=[(100000, .box none [.dat (.int .i64)]),(100001, .box none [.dat .str])],rcut:=eA,rvars:=[.tmp 4],keep:=[100000,100001]}
noncomputable def hH(v:Item×Int×ByteArray×Unit):Option (Bool×Int×ByteArray×Unit):=(if(v.1.kind==v.2.1)=true then some ((v.1.name0.toList==v.2.2.1.toList,v.2.1,v.2.2.1,()))else some ((false,v.2.1,v.2.2.1,())))>>=λx1=>some ((x1.1,x1.2.1,x1.2.2.1,()))
def oq:al vw:=c0
def Iz:Xc vw:={P:=prog,n:=15,call:=oq,pre:=aP,sh:=DO,regs:=λk=>match k with|1=>some eA|_=>none}
theorem p4:af prog oq:=aJ
theorem ve:aA prog 186 rG hH:=fnA Iz Tryz.func186 (by kernel_rfl) Ty.mixed p4 rfl rfl rfl (λv=>by kernel_rfl) λC hP hN=>bL (by kernel_rfl)
def tA:Cut SN:=⟨[(0, .vh 100000),(1, .fn 186 [] [100001,100002]),(7, .dat (.int .i64)),(8, .dat (.int .i64))],[(100000, .vec 44 (.st .itemT)),(100001, .box none [.dat (.int .i64)]),(100002, .box none [.dat .str])]⟩
def Co:Cut SN:=⟨[(0, .vh 100000),(1, .fn 186 [] [100001,100002])],[(100000, .vec 44 (.st .itemT)),(100001, .box none [.dat (.int .i64)]),(100002, .box none [.dat .str])]⟩
def wq:Cut SN:=⟨[(0, .vh 100000),(1, .fn 186 [] [100001,100002]),(4, .dat (.int .i64))],[(100000, .vec 44 (.st .itemT)),(100001, .box none [.dat (.int .i64)]),(100002, .box none [.dat .str])]⟩
def yg:az vw:={exits:=λid=>match id with|0=>Co|_=>⟨[],[]⟩,rcut:=wq}
def ur:Sig vw:={params:=[.vh 100000, .fn 186 [] [100001,100002]],objs:=[(100000, .vec 44 (.st .itemT)),(100001, .box none [.dat (.int .i64)]),(100002, .box none [.dat .str])],rcut:=wq,rvars:=[.tmp 4],keep:=[100000,100001,100002]}
noncomputable def cZ(v:Int×Int×(List Item)×Int×ByteArray×Unit):Option (((Int×(List Item)×Int×ByteArray×Unit)⊕((List Item)×Int×ByteArray×Unit))):=if decide (v.2.1<v.1)=true then if 0<=v.2.1/\v.2.1<(↑v.2.2.1.length:Int)then v.2.2.1[v.2.1.toNat]?>>=λx1=>hH (x1,v.2.2.2.1,v.2.2.2.2.1,())>>=λx2=>if x2.1=true then some (V_ (v.2.1,v.2.2.1,x2.2.1,x2.2.2.1,()))else cZ (v.1,i64.wrap (v.2.1+1),v.2.2.1,x2.2.1,x2.2.2.1,())else none else some (V9 (v.2.2.1,v.2.2.2.1,v.2.2.2.2.1,())) partial_fixpoint
noncomputable def jL(v:(List Item)×Int×ByteArray×Unit):Option (Int×(List Item)×Int×ByteArray×Unit):=cZ ((↑v.1.length:Int),(0:Int),v.1,v.2.1,v.2.2.1,())>>=λx1=>match x1 with| .inl y1=>some y1| .inr y1=>some (((-1:Int),y1.1,y1.2.1,y1.2.2.1,()))
def qe:al vw:=cO prog 186 rG hH c0
def BZ:Xc vw:={P:=prog,n:=19,call:=qe,pre:=aP,sh:=yg,loops:=λk=>match k with|2=>some {cut:=tA,alts:=[.ret, .exit 0],F:=cZ}|_=>none}
theorem kP:af prog qe:=aN ve aJ
theorem sI(C:Ctx)(hP:C.P=prog)(hN:C.N=19/\Fx C aP):aD C (aj (ah Tryz.f83) 0) (sh:=yg) {cut:=tA,alts:=[.ret, .exit 0],F:=cZ}:=
 lpB (X:=BZ) cZ.partial_correctness hP hN Ty.mixed kP (bL (by kernel_rfl)) λF v=>by kernel_rfl
theorem xC:aA prog 83 ur jL:=fnA BZ Tryz.func83 (by kernel_rfl) Ty.mixed kP rfl rfl rfl (λv=>by kernel_rfl) λC hP hN=>gq (by kernel_rfl) (by kernel_rfl) (sI C hP hN)
def ti:Cut SN:=⟨[(0, .vh 100000),(1, .fn 186 [] [100001,100002]),(4, .dat .bool)],[(100000, .vec 44 (.st .itemT)),(100001, .box none [.dat (.int .i64)]),(100002, .box none [.dat .str])]⟩
def DL:az vw:={rcut:=ti}
def rD:Sig vw:={params:=[.vh 100000, .fn 186 [] [100001,100002]],objs:=[(100000, .vec 44 (.st .itemT)),(100001, .box none [.dat (.int .i64)]),(100002, .box none [.dat .str])],rcut:=ti,rvars:=[.tmp 4],keep:=[100000,100001,100002]}
noncomputable def kf(v:(List Item)×Int×ByteArray×Unit):Option (Bool×(List Item)×Int×ByteArray×Unit):=jL (v.1,v.2.1,v.2.2.1,())>>=λx1=>if x1.2.1.length=v.1.length then some ((decide (x1.1>=0),x1.2.1,x1.2.2.1,x1.2.2.2.1,()))else none
def oj:al vw:=cO prog 83 ur jL c0
def Iw:Xc vw:={P:=prog,n:=9,call:=oj,pre:=aP,sh:=DL}
theorem pX:af prog oj:=aN xC aJ
theorem u_:aA prog 183 rD kf:=fnA Iw Tryz.func183 (by kernel_rfl) Ty.mixed pX rfl rfl rfl (λv=>by kernel_rfl) λC hP hN=>bL (by kernel_rfl)
def tf:Cut SN:=⟨[(0, .bp 100000 0),(6, .dat .bool)],[(100000, .box none [.vh 100001]),(100001, .vec 44 (.st .itemT))]⟩
def DH:az vw:={rcut:=tf}
def eK:Sig vw:={params:=[.bp 100000 0, .dat (.int .i64), .dat .str],objs:=[(100000, .box none [.vh 100001]),(100001, .vec 44 (.st .itemT))],rcut:=tf,rvars:=[.tmp 6],keep:=[100000,100001]}
noncomputable def bO(v:Int×ByteArray×(List Item)×Unit):Option (Bool×(List Item)×Unit):=kf (v.2.2.1,v.1,v.2.1,())>>=λx1=>if x1.2.1.length=v.2.2.1.length then some ((x1.1,x1.2.1,()))else none
def od:al vw:=cO prog 183 rD kf c0
def Is:Xc vw:={P:=prog,n:=13,call:=od,pre:=aP,sh:=DH}
theorem pR:af prog od:=aN u_ aJ
theorem ek:aA prog 159 eK bO:=fnA Is Tryz.func159 (by kernel_rfl) Ty.mixed pR rfl rfl rfl (λv=>by kernel_rfl) λC hP hN=>bL (by kernel_rfl)
def O4:Cut SN:=⟨[(0, .dat (.sl .str)),(1, .dat .str),(7, .dat (.int .i64)),(8, .dat (.int .i64))],[]⟩
def si:Cut SN:=⟨[],[]⟩
def TG:az vw:={exits:=λid=>match id with|0=>si|_=>⟨[],[]⟩,rcut:=oQ}
def NT:Sig vw:={params:=[.dat (.sl .str), .dat .str],rcut:=oQ,rvars:=[.tmp 4]}
noncomputable def mQ(v:(List ByteArray)×ByteArray×Int×Int×Unit):Option (((Int×Unit)⊕(Unit))):=if decide (v.2.2.2.1<v.2.2.1)=true then if 0<=v.2.2.2.1 then v.1[v.2.2.2.1.toNat]?>>=λx1=>if(v.2.1.toList==x1.toList)=true then some (V_ (v.2.2.2.1,()))else mQ (v.1,v.2.1,v.2.2.1,i64.wrap (v.2.2.2.1+1),())else none else some (V9 ()) partial_fixpoint
noncomputable def Lr(v:(List ByteArray)×ByteArray×Unit):Option (Int×Unit):=mQ (v.1,v.2.1,(↑v.1.length:Int),(0:Int),())>>=λx1=>match x1 with| .inl y1=>some y1| .inr y1=>some (((-1:Int),()))
def K1:al vw:=c0
def x44:Xc vw:={P:=prog,n:=19,call:=K1,pre:=aP,sh:=TG,loops:=λk=>match k with|2=>some {cut:=O4,alts:=[.ret, .exit 0],F:=mQ}|_=>none}
theorem wC:af prog K1:=aJ
theorem GA(C:Ctx)(hP:C.P=prog)(hN:C.N=19/\Fx C aP):aD C (aj (ah Tryz.f44) 0) (sh:=TG) {cut:=O4,alts:=[.ret, .exit 0],F:=mQ}:=
 lpB (X:=x44) mQ.partial_correctness hP hN Ty.mixed wC (bL (by kernel_rfl)) λF v=>by kernel_rfl
theorem Gz:aA prog 44 NT Lr:=fnA x44 Tryz.func44 (by kernel_rfl) Ty.mixed wC rfl rfl rfl (λv=>by kernel_rfl) λC hP hN=>gq (by kernel_rfl) (by kernel_rfl) (GA C hP hN)
def Sn:az vw:={rcut:=gI}
def HE:Sig vw:={params:=[.dat (.sl .str), .dat .str],rcut:=gI,rvars:=[.tmp 4]}
noncomputable def Ai(v:(List ByteArray)×ByteArray×Unit):Option (Bool×Unit):=Lr (v.1,v.2.1,())>>=λx1=>some ((decide (x1.1>=0),()))
def EP:al vw:=cP prog 44 NT Lr c0
def Vg:Xc vw:={P:=prog,n:=9,call:=EP,pre:=aP,sh:=Sn}
theorem Cz:af prog EP:=aU Gz rfl rfl aJ
theorem Be:aA prog 185 HE Ai:=fnA Vg Tryz.func185 (by kernel_rfl) Ty.mixed Cz rfl rfl rfl (λv=>by kernel_rfl) λC hP hN=>bL (by kernel_rfl)
def lu:Cut SN:=⟨[(1, .bp 100000 0),(3, .dat .bool)],[(100000, .box none [.dat .str])]⟩
def DN:az vw:={rcut:=lu}
def rF:Sig vw:={params:=[.dat (.st .itemT), .bp 100000 0],objs:=[(100000, .box none [.dat .str])],rcut:=lu,rvars:=[.tmp 3],keep:=[100000]}
noncomputable def hG(v:Item×ByteArray×Unit):Option (Bool×ByteArray×Unit):=(if(v.1.kind==1)=true then Ai (v.1.names,v.2.1,())>>=λx1=>some ((x1.1,v.2.1,()))else some ((false,v.2.1,())))>>=λx1=>some ((x1.1,x1.2.1,()))
def om:al vw:=cP prog 185 HE Ai c0
def Iy:Xc vw:={P:=prog,n:=13,call:=om,pre:=aP,sh:=DN,regs:=λk=>match k with|1=>some lu|_=>none}
theorem pZ:af prog om:=aU Be rfl rfl aJ
theorem vd:aA prog 184 rF hG:=fnA Iy Tryz.func184 (by kernel_rfl) Ty.mixed pZ rfl rfl rfl (λv=>by kernel_rfl) λC hP hN=>bL (by kernel_rfl)
def tB:Cut SN:=⟨[(0, .vh 100000),(1, .fn 184 [] [100001]),(7, .dat (.int .i64)),(8, .dat (.int .i64))],[(100000, .vec 44 (.st .itemT)),(100001, .box none [.dat .str])]⟩
def Cp:Cut SN:=⟨[(0, .vh 100000),(1, .fn 184 [] [100001])],[(100000, .vec 44 (.st .itemT)),(100001, .box none [.dat .str])]⟩
def wu:Cut SN:=⟨[(0, .vh 100000),(1, .fn 184 [] [100001]),(4, .dat (.int .i64))],[(100000, .vec 44 (.st .itemT)),(100001, .box none [.dat .str])]⟩
def yh:az vw:={exits:=λid=>match id with|0=>Cp|_=>⟨[],[]⟩,rcut:=wu}
def ut:Sig vw:={params:=[.vh 100000, .fn 184 [] [100001]],objs:=[(100000, .vec 44 (.st .itemT)),(100001, .box none [.dat .str])],rcut:=wu,rvars:=[.tmp 4],keep:=[100000,100001]}
noncomputable def c6(v:Int×Int×(List Item)×ByteArray×Unit):Option (((Int×(List Item)×ByteArray×Unit)⊕((List Item)×ByteArray×Unit))):=if decide (v.2.1<v.1)=true then if 0<=v.2.1/\v.2.1<(↑v.2.2.1.length:Int)then v.2.2.1[v.2.1.toNat]?>>=λx1=>hG (x1,v.2.2.2.1,())>>=λx2=>if x2.1=true then some (V_ (v.2.1,v.2.2.1,x2.2.1,()))else c6 (v.1,i64.wrap (v.2.1+1),v.2.2.1,x2.2.1,())else none else some (V9 (v.2.2.1,v.2.2.2.1,())) partial_fixpoint
noncomputable def jM(v:(List Item)×ByteArray×Unit):Option (Int×(List Item)×ByteArray×Unit):=c6 ((↑v.1.length:Int),(0:Int),v.1,v.2.1,())>>=λx1=>match x1 with| .inl y1=>some y1| .inr y1=>some (((-1:Int),y1.1,y1.2.1,()))
def qf:al vw:=cO prog 184 rF hG c0
def B5:Xc vw:={P:=prog,n:=19,call:=qf,pre:=aP,sh:=yh,loops:=λk=>match k with|2=>some {cut:=tB,alts:=[.ret, .exit 0],F:=c6}|_=>none}
theorem kQ:af prog qf:=aN vd aJ
theorem sJ(C:Ctx)(hP:C.P=prog)(hN:C.N=19/\Fx C aP):aD C (aj (ah Tryz.f83) 0) (sh:=yh) {cut:=tB,alts:=[.ret, .exit 0],F:=c6}:=
 lpB (X:=B5) c6.partial_correctness hP hN Ty.mixed kQ (bL (by kernel_rfl)) λF v=>by kernel_rfl
theorem xD:aA prog 83 ut jM:=fnA B5 Tryz.func83 (by kernel_rfl) Ty.mixed kQ rfl rfl rfl (λv=>by kernel_rfl) λC hP hN=>gq (by kernel_rfl) (by kernel_rfl) (sJ C hP hN)
def tj:Cut SN:=⟨[(0, .vh 100000),(1, .fn 184 [] [100001]),(4, .dat .bool)],[(100000, .vec 44 (.st .itemT)),(100001, .box none [.dat .str])]⟩
def DM:az vw:={rcut:=tj}
def rE:Sig vw:={params:=[.vh 100000, .fn 184 [] [100001]],objs:=[(100000, .vec 44 (.st .itemT)),(100001, .box none [.dat .str])],rcut:=tj,rvars:=[.tmp 4],keep:=[100000,100001]}
noncomputable def g_(v:(List Item)×ByteArray×Unit):Option (Bool×(List Item)×ByteArray×Unit):=jM (v.1,v.2.1,())>>=λx1=>if x1.2.1.length=v.1.length then some ((decide (x1.1>=0),x1.2.1,x1.2.2.1,()))else none
def ol:al vw:=cO prog 83 ut jM c0
def Ix:Xc vw:={P:=prog,n:=9,call:=ol,pre:=aP,sh:=DM}
theorem pY:af prog ol:=aN xD aJ
theorem vc:aA prog 183 rE g_:=fnA Ix Tryz.func183 (by kernel_rfl) Ty.mixed pY rfl rfl rfl (λv=>by kernel_rfl) λC hP hN=>bL (by kernel_rfl)
def lq:Cut SN:=⟨[(0, .bp 100000 0),(4, .dat .bool)],[(100000, .box none [.vh 100001]),(100001, .vec 44 (.st .itemT))]⟩
def DG:az vw:={rcut:=lq}
def lZ:Sig vw:={params:=[.bp 100000 0, .dat .str],objs:=[(100000, .box none [.vh 100001]),(100001, .vec 44 (.st .itemT))],rcut:=lq,rvars:=[.tmp 4],keep:=[100000,100001]}
noncomputable def eG(v:ByteArray×(List Item)×Unit):Option (Bool×(List Item)×Unit):=(bO ((0:Int),v.1,v.2.1,())>>=λx1=>if x1.2.1.length=v.2.1.length then if x1.1=true then some ((true,x1.2.1,()))else g_ (x1.2.1,v.1,())>>=λx2=>if x2.2.1.length=x1.2.1.length then some ((x2.1,x2.2.1,()))else none else none)>>=λx1=>some ((x1.1,x1.2.1,()))
def ob:al vw:=cO prog 159 eK bO (cO prog 183 rE g_ c0)
def Ir:Xc vw:={P:=prog,n:=16,call:=ob,pre:=aP,sh:=DG,regs:=λk=>match k with|1=>some lq|_=>none}
theorem pQ:af prog ob:=aN ek (aN vc aJ)
theorem mJ:aA prog 158 lZ eG:=fnA Ir Tryz.func158 (by kernel_rfl) Ty.mixed pQ rfl rfl rfl (λv=>by kernel_rfl) λC hP hN=>bL (by kernel_rfl)
def pB:Cut SN:=⟨[(0, .bp 100000 0),(2, .bp 2 0),(3, .bp 3 0)],[(100000, .box none [.bp 100001 0, .dat (.sl .str), .dat .bool]),(2, .st .itemT),(3, .st .itemT),(100001, .box none [.vh 100002]),(100002, .vec 44 (.st .itemT))]⟩
def dX:Cut SN:=⟨[(0, .bp 100000 0),(2, .bp 2 0)],[(100000, .box none [.bp 100001 0, .dat (.sl .str), .dat .bool]),(100001, .box none [.vh 100002]),(100002, .vec 44 (.st .itemT)),(2, .st .itemT)]⟩
def Dv:az vw:={rcut:=dX}
def ry:Sig vw:={params:=[.bp 100000 0],objs:=[(100000, .box none [.bp 100001 0, .dat (.sl .str), .dat .bool]),(100001, .box none [.vh 100002]),(100002, .vec 44 (.st .itemT))],rcut:=dX,rvars:=[.cell 2 44],keep:=[100000,100001,100002]}
noncomputable def fL(v:(List ByteArray)×Bool×(List Item)×Unit):Option ((List ByteArray)×Bool×(List Item)×Item×Unit):=ba ([Vp #[35],Vp #[100,101,102,105,110,101]],v.1,v.2.1,v.2.2.1,())>>=λx1=>if x1.2.2.1.length=v.2.2.1.length then bx (x1.1,x1.2.1,x1.2.2.1,())>>=λx2=>if x2.2.2.2.1.length=x1.2.2.1.length then bz (Vp #[45],x2.2.1,x2.2.2.1,x2.2.2.2.1,())>>=λx3=>if x3.2.2.2.1.length=x2.2.2.2.1.length then eF (x3.2.1,x3.2.2.1,x3.2.2.2.1,())>>=λx4=>if x4.2.2.2.1.length=x3.2.2.2.1.length then(if x3.1=true then some ((x4.2.1,x4.2.2.1,Item.mk 0 (Vp #[]) (0:Int) [] (aa.mk 0 0 false []),Item.mk (Item.mk 0 x2.1 (0:Int) [] (aa.mk 0 0 false [])).kind (Item.mk 0 x2.1 (0:Int) [] (aa.mk 0 0 false [])).name0 (i64.wrap ((0:Int) -x4.1)) (Item.mk 0 x2.1 (0:Int) [] (aa.mk 0 0 false [])).names (aa.mk (Item.mk 0 x2.1 (0:Int) [] (aa.mk 0 0 false [])).layout.kind (Item.mk 0 x2.1 (0:Int) [] (aa.mk 0 0 false [])).layout.n (Item.mk 0 x2.1 (0:Int) [] (aa.mk 0 0 false [])).layout.flag (Item.mk 0 x2.1 (0:Int) [] (aa.mk 0 0 false [])).layout.parts),x4.2.2.2.1,()))else some ((x4.2.1,x4.2.2.1,Item.mk 0 (Vp #[]) (0:Int) [] (aa.mk 0 0 false []),Item.mk (Item.mk 0 x2.1 (0:Int) [] (aa.mk 0 0 false [])).kind (Item.mk 0 x2.1 (0:Int) [] (aa.mk 0 0 false [])).name0 x4.1 (Item.mk 0 x2.1 (0:Int) [] (aa.mk 0 0 false [])).names (aa.mk (Item.mk 0 x2.1 (0:Int) [] (aa.mk 0 0 false [])).layout.kind (Item.mk 0 x2.1 (0:Int) [] (aa.mk 0 0 false [])).layout.n (Item.mk 0 x2.1 (0:Int) [] (aa.mk 0 0 false [])).layout.flag (Item.mk 0 x2.1 (0:Int) [] (aa.mk 0 0 false [])).layout.parts),x4.2.2.2.1,())))>>=λx5=>(if x5.2.1=true then some ((x5.1,true,x5.2.2.1,x5.2.2.2.1,x5.2.2.2.2.1,()))else eG (x5.2.2.2.1.name0,x5.2.2.2.2.1,())>>=λx6=>if x6.2.1.length=x5.2.2.2.2.1.length then some ((x5.1,x6.1,x5.2.2.1,x5.2.2.2.1,x6.2.1,()))else none)>>=λx6=>some ((x6.1,x6.2.1,x6.2.2.2.2.1,x6.2.2.2.1,()))else none else none else none else none
def nR:al vw:=cO prog 154 gk ba (cO prog 155 eJ bx (cO prog 156 dt bz (cO prog 157 lY eF (cO prog 158 lZ eG c0))))
def Ig:Xc vw:={P:=prog,n:=38,call:=nR,pre:=aP,sh:=Dv,joins:=λk=>match k with|7=>some (pB,[.norm])|_=>none,regs:=λk=>match k with|7=>some pB|_=>none}
theorem pG:af prog nR:=aN fB (aN ej (aN cU (aN mI (aN mJ aJ))))
theorem u2:aA prog 122 ry fL:=fnA Ig Tryz.func122 (by kernel_rfl) Ty.mixed pG rfl rfl rfl (λv=>by kernel_rfl) λC hP hN=>bL (by kernel_rfl)
def KM:Cut SN:=⟨[(0, .dat (.sl .str)),(5, .dat (.sl .str)),(6, .dat (.int .i64)),(7, .dat (.int .i64))],[]⟩
def Qj:az vw:={exits:=λid=>match id with|0=>si|_=>⟨[],[]⟩,rcut:=dw}
def Bw:Sig vw:={params:=[.dat (.sl .str)],rcut:=dw,rvars:=[.tmp 2]}
noncomputable def iM(v:(List ByteArray)×(List ByteArray)×Int×Int×Unit):Option (((Bool×Unit)⊕(Unit))):=if decide (v.2.2.2.1<v.2.2.1)=true then if 0<=v.2.2.2.1 then v.2.1[v.2.2.2.1.toNat]?>>=λx1=>if(0:Int)<=0/\0<=v.2.2.2.1/\v.2.2.2.1<=(↑v.1.length:Int)then Ai (Yh v.2.2.2.1.toNat v.1,x1,())>>=λx2=>if x2.1=true then some (V_ (false,()))else iM (v.1,v.2.1,v.2.2.1,i64.wrap (v.2.2.2.1+1),())else none else none else some (V9 ()) partial_fixpoint
noncomputable def sx(v:(List ByteArray)×Unit):Option (Bool×Unit):=iM (v.1,v.1,(↑v.1.length:Int),(0:Int),())>>=λx1=>match x1 with| .inl y1=>some y1| .inr y1=>some ((true,()))
def EJ:al vw:=cP prog 185 HE Ai c0
def TX:Xc vw:={P:=prog,n:=18,call:=EJ,pre:=aP,sh:=Qj,loops:=λk=>match k with|2=>some {cut:=KM,alts:=[.ret, .exit 0],F:=iM}|_=>none}
theorem tJ:af prog EJ:=aU Be rfl rfl aJ
theorem C8(C:Ctx)(hP:C.P=prog)(hN:C.N=18/\Fx C aP):aD C (aj (ah Tryz.f160) 0) (sh:=Qj) {cut:=KM,alts:=[.ret, .exit 0],F:=iM}:=
 lpB (X:=TX) iM.partial_correctness hP hN Ty.mixed tJ (bL (by kernel_rfl)) λF v=>by kernel_rfl
theorem u7:aA prog 160 Bw sx:=fnA TX Tryz.func160 (by kernel_rfl) Ty.mixed tJ rfl rfl rfl (λv=>by kernel_rfl) λC hP hN=>gq (by kernel_rfl) (by kernel_rfl) (C8 C hP hN)
def pE:Cut SN:=⟨[(0, .vh 100000),(1, .fn 158 [100001] []),(7, .dat (.int .i64)),(8, .dat (.int .i64))],[(100000, .vec 9 .str),(100001, .box none [.vh 100002]),(100002, .vec 44 (.st .itemT))]⟩
def zn:Cut SN:=⟨[(0, .vh 100000),(1, .fn 158 [100001] [])],[(100000, .vec 9 .str),(100001, .box none [.vh 100002]),(100002, .vec 44 (.st .itemT))]⟩
def tl:Cut SN:=⟨[(0, .vh 100000),(1, .fn 158 [100001] []),(4, .dat (.int .i64))],[(100000, .vec 9 .str),(100001, .box none [.vh 100002]),(100002, .vec 44 (.st .itemT))]⟩
def uh:az vw:={exits:=λid=>match id with|0=>zn|_=>⟨[],[]⟩,rcut:=tl}
def rH:Sig vw:={params:=[.vh 100000, .fn 158 [100001] []],objs:=[(100000, .vec 9 .str),(100001, .box none [.vh 100002]),(100002, .vec 44 (.st .itemT))],rcut:=tl,rvars:=[.tmp 4],keep:=[100000,100001,100002]}
noncomputable def co(v:Int×Int×(List ByteArray)×(List Item)×Unit):Option (((Int×(List ByteArray)×(List Item)×Unit)⊕((List ByteArray)×(List Item)×Unit))):=if decide (v.2.1<v.1)=true then if 0<=v.2.1/\v.2.1<(↑v.2.2.1.length:Int)then v.2.2.1[v.2.1.toNat]?>>=λx1=>eG (x1,v.2.2.2.1,())>>=λx2=>if x2.2.1.length=v.2.2.2.1.length then if x2.1=true then some (V_ (v.2.1,v.2.2.1,x2.2.1,()))else co (v.1,i64.wrap (v.2.1+1),v.2.2.1,x2.2.1,())else none else none else some (V9 (v.2.2.1,v.2.2.2.1,())) partial_fixpoint
noncomputable def hI(v:(List ByteArray)×(List Item)×Unit):Option (Int×(List ByteArray)×(List Item)×Unit):=co ((↑v.1.length:Int),(0:Int),v.1,v.2.1,())>>=λx1=>match x1 with| .inl y1=>some y1| .inr y1=>some (((-1:Int),y1.1,y1.2.1,()))
def ou:al vw:=cO prog 158 lZ eG c0
def yL:Xc vw:={P:=prog,n:=19,call:=ou,pre:=aP,sh:=uh,loops:=λk=>match k with|2=>some {cut:=pE,alts:=[.ret, .exit 0],F:=co}|_=>none}
theorem js:af prog ou:=aN mJ aJ
theorem qP(C:Ctx)(hP:C.P=prog)(hN:C.N=19/\Fx C aP):aD C (aj (ah Tryz.f187) 0) (sh:=uh) {cut:=pE,alts:=[.ret, .exit 0],F:=co}:=
 lpB (X:=yL) co.partial_correctness hP hN Ty.mixed js (bL (by kernel_rfl)) λF v=>by kernel_rfl
theorem vf:aA prog 187 rH hI:=fnA yL Tryz.func187 (by kernel_rfl) Ty.mixed js rfl rfl rfl (λv=>by kernel_rfl) λC hP hN=>gq (by kernel_rfl) (by kernel_rfl) (qP C hP hN)
def tg:Cut SN:=⟨[(0, .vh 100000),(1, .fn 158 [100001] []),(4, .dat .bool)],[(100000, .vec 9 .str),(100001, .box none [.vh 100002]),(100002, .vec 44 (.st .itemT))]⟩
def DI:az vw:={rcut:=tg}
def rC:Sig vw:={params:=[.vh 100000, .fn 158 [100001] []],objs:=[(100000, .vec 9 .str),(100001, .box none [.vh 100002]),(100002, .vec 44 (.st .itemT))],rcut:=tg,rvars:=[.tmp 4],keep:=[100000,100001,100002]}
noncomputable def g9(v:(List ByteArray)×(List Item)×Unit):Option (Bool×(List ByteArray)×(List Item)×Unit):=hI (v.1,v.2.1,())>>=λx1=>if x1.2.1.length=v.1.length then if x1.2.2.1.length=v.2.1.length then some ((decide (x1.1>=0),x1.2.1,x1.2.2.1,()))else none else none
def oe:al vw:=cO prog 187 rH hI c0
def It:Xc vw:={P:=prog,n:=9,call:=oe,pre:=aP,sh:=DI}
theorem pS:af prog oe:=aN vf aJ
theorem u9:aA prog 161 rC g9:=fnA It Tryz.func161 (by kernel_rfl) Ty.mixed pS rfl rfl rfl (λv=>by kernel_rfl) λC hP hN=>bL (by kernel_rfl)
def cv:Cut SN:=⟨[(0, .bp 100000 0),(2, .bp 2 0),(3, .bp 3 0)],[(100000, .box none [.bp 100001 0, .dat (.sl .str), .dat .bool]),(2, .st .itemT),(3, .box none [.dat (.int .i64), .dat .str, .dat (.int .i64), .vh 3033, .dat (.int .i64), .dat (.int .i64), .dat .bool, .vh 3037]),(100001, .box none [.vh 100002]),(3033, .vec 9 .str),(3037, .vec 42 (.st .layoutT)),(100002, .vec 44 (.st .itemT))]⟩
def ub:az vw:={exits:=λid=>match id with|0=>cv|_=>⟨[],[]⟩,rcut:=dX}
def rz:Sig vw:={params:=[.bp 100000 0],objs:=[(100000, .box none [.bp 100001 0, .dat (.sl .str), .dat .bool]),(100001, .box none [.vh 100002]),(100002, .vec 44 (.st .itemT))],rcut:=dX,rvars:=[.cell 2 44],keep:=[100000,100001,100002]}
noncomputable def cg(v:(List ByteArray)×Bool×Item×Int×ByteArray×Int×Int×Int×Bool×(List ByteArray)×(List aa)×(List Item)×Unit):Option (((List ByteArray)×Bool×Item×Int×ByteArray×Int×Int×Int×Bool×(List ByteArray)×(List aa)×(List Item)×Unit)):=bx (v.1,v.2.1,v.2.2.2.2.2.2.2.2.2.2.2.1,())>>=λx1=>if x1.2.2.2.1.length=v.2.2.2.2.2.2.2.2.2.2.2.1.length then if v.2.2.2.2.2.2.2.2.2.1.length+[x1.1].length<=4294967296 then bz (Vp #[44],x1.2.1,x1.2.2.1,x1.2.2.2.1,())>>=λx2=>if x2.2.2.2.1.length=x1.2.2.2.1.length then if(!x2.1)=true then some ((x2.2.1,x2.2.2.1,v.2.2.1,v.2.2.2.1,v.2.2.2.2.1,v.2.2.2.2.2.1,v.2.2.2.2.2.2.1,v.2.2.2.2.2.2.2.1,v.2.2.2.2.2.2.2.2.1,v.2.2.2.2.2.2.2.2.2.1++[x1.1],v.2.2.2.2.2.2.2.2.2.2.1,x2.2.2.2.1,()))else cg (x2.2.1,x2.2.2.1,v.2.2.1,v.2.2.2.1,v.2.2.2.2.1,v.2.2.2.2.2.1,v.2.2.2.2.2.2.1,v.2.2.2.2.2.2.2.1,v.2.2.2.2.2.2.2.2.1,v.2.2.2.2.2.2.2.2.2.1++[x1.1],v.2.2.2.2.2.2.2.2.2.2.1,x2.2.2.2.1,())else none else none else none partial_fixpoint
noncomputable def fM(v:(List ByteArray)×Bool×(List Item)×Unit):Option ((List ByteArray)×Bool×(List Item)×Item×Unit):=ba ([Vp #[101,110,117,109]],v.1,v.2.1,v.2.2.1,())>>=λx1=>if x1.2.2.1.length=v.2.2.1.length then(bx (x1.1,x1.2.1,x1.2.2.1,())>>=λx2=>if x2.2.2.2.1.length=x1.2.2.1.length then some ((x2.2.1,x2.2.2.1,Item.mk 0 (Vp #[]) (0:Int) [] (aa.mk 0 0 false []),(1:Int),x2.1,(0:Int),(0:Int),(0:Int),false,[],[],x2.2.2.2.1,()))else none)>>=λx2=>ba ([Vp #[123]],x2.1,x2.2.1,x2.2.2.2.2.2.2.2.2.2.2.2.1,())>>=λx3=>if x3.2.2.1.length=x2.2.2.2.2.2.2.2.2.2.2.2.1.length then cg (x3.1,x3.2.1,x2.2.2.1,x2.2.2.2.1,x2.2.2.2.2.1,x2.2.2.2.2.2.1,x2.2.2.2.2.2.2.1,x2.2.2.2.2.2.2.2.1,x2.2.2.2.2.2.2.2.2.1,x2.2.2.2.2.2.2.2.2.2.1,x2.2.2.2.2.2.2.2.2.2.2.1,x3.2.2.1,())>>=λx4=>ba ([Vp #[125],Vp #[59]],x4.1,x4.2.1,x4.2.2.2.2.2.2.2.2.2.2.2.1,())>>=λx5=>if x5.2.2.1.length=x4.2.2.2.2.2.2.2.2.2.2.2.1.length then(if x5.2.1=true then some ((x5.1,true,x4.2.2.1,x4.2.2.2.1,x4.2.2.2.2.1,x4.2.2.2.2.2.1,x4.2.2.2.2.2.2.1,x4.2.2.2.2.2.2.2.1,x4.2.2.2.2.2.2.2.2.1,x4.2.2.2.2.2.2.2.2.2.1,x4.2.2.2.2.2.2.2.2.2.2.1,x5.2.2.1,()))else bO ((1:Int),x4.2.2.2.2.1,x5.2.2.1,())>>=λx6=>if x6.2.1.length=x5.2.2.1.length then if x6.1=true then some ((x5.1,true,x4.2.2.1,x4.2.2.2.1,x4.2.2.2.2.1,x4.2.2.2.2.2.1,x4.2.2.2.2.2.2.1,x4.2.2.2.2.2.2.2.1,x4.2.2.2.2.2.2.2.2.1,x4.2.2.2.2.2.2.2.2.2.1,x4.2.2.2.2.2.2.2.2.2.2.1,x6.2.1,()))else sx (x4.2.2.2.2.2.2.2.2.2.1,())>>=λx7=>if(!x7.1)=true then some ((x5.1,true,x4.2.2.1,x4.2.2.2.1,x4.2.2.2.2.1,x4.2.2.2.2.2.1,x4.2.2.2.2.2.2.1,x4.2.2.2.2.2.2.2.1,x4.2.2.2.2.2.2.2.2.1,x4.2.2.2.2.2.2.2.2.2.1,x4.2.2.2.2.2.2.2.2.2.2.1,x6.2.1,()))else g9 (x4.2.2.2.2.2.2.2.2.2.1,x6.2.1,())>>=λx8=>if x8.2.1.length=x4.2.2.2.2.2.2.2.2.2.1.length then if x8.2.2.1.length=x6.2.1.length then some ((x5.1,x8.1,x4.2.2.1,x4.2.2.2.1,x4.2.2.2.2.1,x4.2.2.2.2.2.1,x4.2.2.2.2.2.2.1,x4.2.2.2.2.2.2.2.1,x4.2.2.2.2.2.2.2.2.1,x8.2.1,x4.2.2.2.2.2.2.2.2.2.2.1,x8.2.2.1,()))else none else none else none)>>=λx6=>some ((x6.1,x6.2.1,x6.2.2.2.2.2.2.2.2.2.2.2.1,Item.mk x6.2.2.2.1 x6.2.2.2.2.1 x6.2.2.2.2.2.1 x6.2.2.2.2.2.2.2.2.2.1 (aa.mk x6.2.2.2.2.2.2.1 x6.2.2.2.2.2.2.2.1 x6.2.2.2.2.2.2.2.2.1 x6.2.2.2.2.2.2.2.2.2.2.1),()))else none else none else none
def nS:al vw:=cO prog 154 gk ba (cO prog 155 eJ bx (cO prog 156 dt bz (cO prog 159 eK bO (cP prog 160 Bw sx (cO prog 161 rC g9 c0)))))
def yF:Xc vw:={P:=prog,n:=59,nm:=λd=>match d with|9=>40009|_=>d,call:=nS,pre:=aP,sh:=ub,regs:=λk=>match k with|2=>some cv|7=>some cv|_=>none,loops:=λk=>match k with|4=>some {cut:=cv,alts:=[.exit 0],F:=cg}|_=>none}
theorem jm:af prog nS:=aN fB (aN ej (aN cU (aN ek (aU u7 rfl rfl (aN u9 aJ)))))
theorem qH(C:Ctx)(hP:C.P=prog)(hN:C.N=59/\Fx C aP):aD C (aj (ah Tryz.f123) 0) (sh:=ub) {cut:=cv,alts:=[.exit 0],F:=cg}:=
 lpB (X:=yF) cg.partial_correctness hP hN Ty.mixed jm (bL (by kernel_rfl)) λF v=>by kernel_rfl
theorem u3:aA prog 123 rz fM:=fnA yF Tryz.func123 (by kernel_rfl) Ty.mixed jm rfl rfl rfl (λv=>by kernel_rfl) λC hP hN=>gq (by kernel_rfl) (by kernel_rfl) (qH C hP hN)
def wh:Cut SN:=⟨[(1, .bp 1 0),(2, .bp 2 0),(3, .vh 1003),(7, .dat (.sl (.st .layoutT))),(8, .dat (.int .i64)),(9, .dat (.int .i64))],[(1, .st .layoutT),(2, .st .layoutT),(1003, .vec 42 (.st .layoutT))]⟩
def OY:Cut SN:=⟨[(1, .bp 1 0),(2, .bp 2 0),(3, .vh 1003)],[(1, .st .layoutT),(2, .st .layoutT),(1003, .vec 42 (.st .layoutT))]⟩
def OZ:Cut SN:=⟨[(2, .bp 2 0)],[(2, .st .layoutT)]⟩
def NO:az vw:={exits:=λid=>match id with|0=>OY|_=>⟨[],[]⟩,rcut:=OZ}
def ic:Sig vw:={params:=[.dat (.st .layoutT)],rcut:=OZ,rvars:=[.cell 2 42]}
mutual
noncomputable def fh(v:(List aa)×Int×Int×aa×aa×(List aa)×Unit):Option ((aa×aa×(List aa)×Unit)):=if decide (v.2.2.1<v.2.1)=true then if 0<=v.2.2.1 then v.1[v.2.2.1.toNat]?>>=λx1=>n_196 (x1,())>>=λx2=>if v.2.2.2.2.2.1.length+[x2.1].length<=4294967296 then fh (v.1,v.2.1,i64.wrap (v.2.2.1+1),v.2.2.2.1,v.2.2.2.2.1,v.2.2.2.2.2.1++[x2.1],())else none else none else some ((v.2.2.2.1,v.2.2.2.2.1,v.2.2.2.2.2.1,())) partial_fixpoint
noncomputable def n_196(v:aa×Unit):Option (aa×Unit):=fh (v.1.parts,(↑v.1.parts.length:Int),(0:Int),v.1,aa.mk 0 0 false [],[],())>>=λx1=>some ((aa.mk x1.1.kind x1.1.n x1.1.flag x1.2.2.1,())) partial_fixpoint
end
def zz(fh:(List aa)×Int×Int×aa×aa×(List aa)×Unit->Option ((aa×aa×(List aa)×Unit)))(n_196:aa×Unit->Option (aa×Unit)):al vw:=λA fid args S k=>match fid with|196=>aV prog ic n_196 A args S k|_=>none
def BR(fh:(List aa)×Int×Int×aa×aa×(List aa)×Unit->Option ((aa×aa×(List aa)×Unit)))(n_196:aa×Unit->Option (aa×Unit)):Xc vw:={P:=prog,n:=22,call:=zz fh n_196,pre:=aP,sh:=NO,loops:=λk=>match k with|3=>some {cut:=wh,alts:=[.exit 0],F:=fh}|_=>none}
abbrev iE(v:(List aa)×Int×Int×aa×aa×(List aa)×Unit)(r:(aa×aa×(List aa)×Unit)):Prop:=(λv out=>∀C:Ctx,C.P=prog->C.N=22/\Fx C aP->oP C (aj (ah Tryz.f196) 0) (Go.Tx.aI vw (bZ vw wh v)) (vL NO [.exit 0] out)) v r
abbrev xo(v:aa×Unit)(r:aa×Unit):Prop:=(λv r=>∀x,rh prog ic r=some x->i6 prog 196 (encL vw (ay ic v).len (a_ ic v).1) (bB (ay ic v).len (ay ic v).own) (ao vw (bZ vw ic.rcut r).len x) (bB (bZ vw ic.rcut r).len (jx ic r))) v r
theorem IW(f0:(List aa)×Int×Int×aa×aa×(List aa)×Unit->Option ((aa×aa×(List aa)×Unit)))(f1:aa×Unit->Option (aa×Unit))(h0:∀v r,f0 v=some r->iE v r)(h1:∀v r,f1 v=some r->xo v r):af prog (BR f0 f1).call:=(by
 intro A fid args S dst k r h
 unfold BR zz at h
 simp only at h
 split at h
 ·exact ak ((λv r x h hx=>h1 v r h x hx)) rfl rfl h
 ·cases h)
theorem J6(f0:(List aa)×Int×Int×aa×aa×(List aa)×Unit->Option ((aa×aa×(List aa)×Unit)))(f1:aa×Unit->Option (aa×Unit))(h0:∀v r,f0 v=some r->iE v r)(h1:∀v r,f1 v=some r->xo v r)(v:(List aa)×Int×Int×aa×aa×(List aa)×Unit)(r:(aa×aa×(List aa)×Unit))(h:exL (BR f0 f1) (aj (ah Tryz.f196) 0) wh [.exit 0] f0 v=some r):iE v r:=λC hP hN=>c8 (X:=BR f0 f1) (b:=(aj (ah Tryz.f196) 0)) hP hN Ty.mixed (IW f0 f1 h0 h1) (bo (X:=BR f0 f1) (c:=(aj (ah Tryz.f196) 0)) (bw (by kernel_rfl:True=fR (bt C (BR f0 f1)) (aR (aj (ah Tryz.f196) 0))) trivial)) (cut:=wh) (alts:=[.exit 0]) (F:=f0) (λv out h=>h0 v out h C hP hN) h
theorem Pg(f0:(List aa)×Int×Int×aa×aa×(List aa)×Unit->Option ((aa×aa×(List aa)×Unit)))(h0:∀v r,f0 v=some r->iE v r):af prog (BR f0 (λ_=>none)).call:=(by
 intro A fid args S dst k r h
 unfold BR zz at h
 simp only at h
 split at h
 ·exact ak ((λv r x h hx=>by cases h)) rfl rfl h
 ·cases h)
theorem QN(f0:(List aa)×Int×Int×aa×aa×(List aa)×Unit->Option ((aa×aa×(List aa)×Unit)))(h0:∀v r,f0 v=some r->iE v r)(v:aa×Unit)(r:aa×Unit)(h:exF (BR f0 (λ_=>none)) ic rfl (ah Tryz.f196) v=some r):xo v r:=λx hx=>mm (X:=BR f0 (λ_=>none)) (sig:=ic) rfl Tryz.func196 (c:=ah Tryz.f196) (by kernel_rfl) Tryz.ntmps196 (by kernel_rfl) (by kernel_rfl) rfl Ty.mixed (Pg f0 h0) rfl (λC hP hN=>(bo (X:=BR f0 (λ_=>none)) (c:=(ah Tryz.f196)) (bw (by kernel_rfl:fR (bt C (BR f0 (λ_=>none))) [(aj (ah Tryz.f196) 0)]=fR (bt C (BR f0 (λ_=>none))) (aR (ah Tryz.f196))) ⟨dS (X:=BR f0 (λ_=>none)) (b:=(aj (ah Tryz.f196) 0)) (by kernel_rfl) (show aD C (aj (ah Tryz.f196) 0) (sh:=NO) {cut:=wh,alts:=[.exit 0],F:=f0}fromλv out h=>h0 v out h C hP hN),trivial⟩))) h x hx
theorem Aj:(∀v r,fh v=some r->iE v r)/\(∀v r,n_196 v=some r->xo v r):=by
 refine fh.mutual_partial_correctness
  (motive_1:=iE)
  (motive_2:=xo)
  ?_ ?_
 ·exact(λf0 f1 h0 h1 v r h=>J6 f0 f1 h0 h1 v r (bw (by kernel_rfl) h))
 ·exact(λf0 h0 v r h=>QN f0 h0 v r (bw (by kernel_rfl) h))
theorem Jz:aA prog 196 ic n_196:=λv r x h hx=>Aj.2 v r h x hx
def Hz:az vw:={rcut:=eA}
def nJ:Sig vw:={params:=[.dat (.st .itemT), .bp 100000 0, .bp 100001 0],objs:=[(100000, .box none [.dat (.int .i64)]),(100001, .box none [.dat .str])],rcut:=eA,rvars:=[.tmp 4],keep:=[100000,100001]}
noncomputable def gd(v:Item×Int×ByteArray×Unit):Option (Bool×Int×ByteArray×Unit):=(if(v.1.kind==v.2.1)=true then some ((v.1.name0.toList==v.2.2.1.toList,v.2.1,v.2.2.1,()))else some ((false,v.2.1,v.2.2.1,())))>>=λx1=>some ((x1.1,x1.2.1,x1.2.2.1,()))
def qg:al vw:=c0
def Ku:Xc vw:={P:=prog,n:=15,call:=qg,pre:=aP,sh:=Hz,regs:=λk=>match k with|1=>some eA|_=>none}
theorem sm:af prog qg:=aJ
theorem oD:aA prog 84 nJ gd:=fnA Ku Tryz.func84 (by kernel_rfl) Ty.mixed sm rfl rfl rfl (λv=>by kernel_rfl) λC hP hN=>bL (by kernel_rfl)
def tz:Cut SN:=⟨[(0, .vh 100000),(1, .fn 84 [] [100001,100002]),(7, .dat (.int .i64)),(8, .dat (.int .i64))],[(100000, .vec 44 (.st .itemT)),(100001, .box none [.dat (.int .i64)]),(100002, .box none [.dat .str])]⟩
def Cn:Cut SN:=⟨[(0, .vh 100000),(1, .fn 84 [] [100001,100002])],[(100000, .vec 44 (.st .itemT)),(100001, .box none [.dat (.int .i64)]),(100002, .box none [.dat .str])]⟩
def wo:Cut SN:=⟨[(0, .vh 100000),(1, .fn 84 [] [100001,100002]),(4, .dat (.int .i64))],[(100000, .vec 44 (.st .itemT)),(100001, .box none [.dat (.int .i64)]),(100002, .box none [.dat .str])]⟩
def yf:az vw:={exits:=λid=>match id with|0=>Cn|_=>⟨[],[]⟩,rcut:=wo}
def uq:Sig vw:={params:=[.vh 100000, .fn 84 [] [100001,100002]],objs:=[(100000, .vec 44 (.st .itemT)),(100001, .box none [.dat (.int .i64)]),(100002, .box none [.dat .str])],rcut:=wo,rvars:=[.tmp 4],keep:=[100000,100001,100002]}
noncomputable def cY(v:Int×Int×(List Item)×Int×ByteArray×Unit):Option (((Int×(List Item)×Int×ByteArray×Unit)⊕((List Item)×Int×ByteArray×Unit))):=if decide (v.2.1<v.1)=true then if 0<=v.2.1/\v.2.1<(↑v.2.2.1.length:Int)then v.2.2.1[v.2.1.toNat]?>>=λx1=>gd (x1,v.2.2.2.1,v.2.2.2.2.1,())>>=λx2=>if x2.1=true then some (V_ (v.2.1,v.2.2.1,x2.2.1,x2.2.2.1,()))else cY (v.1,i64.wrap (v.2.1+1),v.2.2.1,x2.2.1,x2.2.2.1,())else none else some (V9 (v.2.2.1,v.2.2.2.1,v.2.2.2.2.1,())) partial_fixpoint
noncomputable def jK(v:(List Item)×Int×ByteArray×Unit):Option (Int×(List Item)×Int×ByteArray×Unit):=cY ((↑v.1.length:Int),(0:Int),v.1,v.2.1,v.2.2.1,())>>=λx1=>match x1 with| .inl y1=>some y1| .inr y1=>some (((-1:Int),y1.1,y1.2.1,y1.2.2.1,()))
def qd:al vw:=cO prog 84 nJ gd c0
def BX:Xc vw:={P:=prog,n:=19,call:=qd,pre:=aP,sh:=yf,loops:=λk=>match k with|2=>some {cut:=tz,alts:=[.ret, .exit 0],F:=cY}|_=>none}
theorem kO:af prog qd:=aN oD aJ
theorem sH(C:Ctx)(hP:C.P=prog)(hN:C.N=19/\Fx C aP):aD C (aj (ah Tryz.f83) 0) (sh:=yf) {cut:=tz,alts:=[.ret, .exit 0],F:=cY}:=
 lpB (X:=BX) cY.partial_correctness hP hN Ty.mixed kO (bL (by kernel_rfl)) λF v=>by kernel_rfl
theorem xB:aA prog 83 uq jK:=fnA BX Tryz.func83 (by kernel_rfl) Ty.mixed kO rfl rfl rfl (λv=>by kernel_rfl) λC hP hN=>gq (by kernel_rfl) (by kernel_rfl) (sH C hP hN)
def mf:Cut SN:=⟨[(0, .vh 100000),(6, .bp 6 0),(7, .dat .bool)],[(100000, .vec 44 (.st .itemT)),(6, .st .itemT)]⟩
def Hx:az vw:={rcut:=mf}
def uk:Sig vw:={params:=[.vh 100000, .dat (.int .i64), .dat .str],objs:=[(100000, .vec 44 (.st .itemT))],rcut:=mf,rvars:=[.cell 6 44, .tmp 7],keep:=[100000]}
noncomputable def jC(v:Int×ByteArray×(List Item)×Unit):Option (Bool×(List Item)×Item×Unit):=jK (v.2.2.1,v.1,v.2.1,())>>=λx1=>if x1.2.1.length=v.2.2.1.length then if decide (x1.1<0)=true then some ((false,x1.2.1,Item.mk 0 (Vp #[]) (0:Int) [] (aa.mk 0 0 false []),()))else if 0<=x1.1/\x1.1<(↑x1.2.1.length:Int)then x1.2.1[x1.1.toNat]?>>=λx2=>some ((true,x1.2.1,x2,()))else none else none
def p8:al vw:=cO prog 83 uq jK c0
def Kt:Xc vw:={P:=prog,n:=19,call:=p8,pre:=aP,sh:=Hx}
theorem sk:af prog p8:=aN xB aJ
theorem xu:aA prog 47 uk jC:=fnA Kt Tryz.func47 (by kernel_rfl) Ty.mixed sk rfl rfl rfl (λv=>by kernel_rfl) λC hP hN=>bL (by kernel_rfl)
def zo:Cut SN:=⟨[(0, .bp 100000 0),(2, .bp 2 0),(3, .dat .bool),(4, .dat .str),(12, .dat .bool)],[(100000, .box none [.bp 100001 0, .dat (.sl .str), .dat .bool]),(2, .st .layoutT),(100001, .box none [.vh 100002]),(100002, .vec 44 (.st .itemT))]⟩
def zp:Cut SN:=⟨[(0, .bp 100000 0),(2, .bp 2 0),(4, .dat .str)],[(100000, .box none [.bp 100001 0, .dat (.sl .str), .dat .bool]),(2, .st .layoutT),(100001, .box none [.vh 100002]),(100002, .vec 44 (.st .itemT))]⟩
def wb:Cut SN:=⟨[(0, .bp 100000 0),(2, .bp 2 0),(5, .bp 5 0),(6, .dat .bool)],[(100000, .box none [.bp 100001 0, .dat (.sl .str), .dat .bool]),(2, .st .layoutT),(5, .st .itemT),(100001, .box none [.vh 100002]),(100002, .vec 44 (.st .itemT))]⟩
def wc:Cut SN:=⟨[(0, .bp 100000 0),(2, .bp 2 0),(5, .bp 5 0)],[(100000, .box none [.bp 100001 0, .dat (.sl .str), .dat .bool]),(2, .st .layoutT),(5, .st .itemT),(100001, .box none [.vh 100002]),(100002, .vec 44 (.st .itemT))]⟩
def wg:Cut SN:=⟨[(0, .bp 100000 0),(2, .bp 2 0)],[(100000, .box none [.bp 100001 0, .dat (.sl .str), .dat .bool]),(2, .st .layoutT),(100001, .box none [.vh 100002]),(100002, .vec 44 (.st .itemT))]⟩
def tm:Cut SN:=⟨[(0, .bp 100000 0),(2, .bp 2 0)],[(100000, .box none [.bp 100001 0, .dat (.sl .str), .dat .bool]),(100001, .box none [.vh 100002]),(100002, .vec 44 (.st .itemT)),(2, .st .layoutT)]⟩
def DP:az vw:={rcut:=tm}
def rI:Sig vw:={params:=[.bp 100000 0],objs:=[(100000, .box none [.bp 100001 0, .dat (.sl .str), .dat .bool]),(100001, .box none [.vh 100002]),(100002, .vec 44 (.st .itemT))],rcut:=tm,rvars:=[.cell 2 42],keep:=[100000,100001,100002]}
noncomputable def fO(v:(List ByteArray)×Bool×(List Item)×Unit):Option ((List ByteArray)×Bool×(List Item)×aa×Unit):=bz (Vp #[117,110,115,105,103,110,101,100],v.1,v.2.1,v.2.2.1,())>>=λx1=>if x1.2.2.2.1.length=v.2.2.1.length then cF (x1.2.1,x1.2.2.1,x1.2.2.2.1,())>>=λx2=>if x2.2.2.2.1.length=x1.2.2.2.1.length then(if(x2.1.toList==(Vp #[99,104,97,114]).toList)=true then some ((x1.1,x2.1,true,x2.2.1,x2.2.2.1,aa.mk 0 0 false [],x2.2.2.2.1,()))else if(x2.1.toList==(Vp #[115,104,111,114,116]).toList)=true then some ((x1.1,x2.1,true,x2.2.1,x2.2.2.1,aa.mk 0 0 false [],x2.2.2.2.1,()))else some ((x1.1,x2.1,x2.1.toList==(Vp #[105,110,116]).toList,x2.2.1,x2.2.2.1,aa.mk 0 0 false [],x2.2.2.2.1,())))>>=λx3=>if x3.2.2.1=true then some ((x3.2.2.2.1,x3.2.2.2.2.1,x3.2.2.2.2.2.2.1,aa.mk 2 ((Mp.get Mp.seq x3.2.1 (Mp.set Mp.seq Mp.slt (Vp #[105,110,116]) (32:Int) (Mp.set Mp.seq Mp.slt (Vp #[115,104,111,114,116]) (16:Int) (Mp.set Mp.seq Mp.slt (Vp #[99,104,97,114]) (8:Int) [])))).getD (0:Int)) (!x3.1) [],()))else(if x3.2.2.2.2.1=true then some ((x3.2.1,x3.2.2.2.1,true,x3.2.2.2.2.2.1,x3.2.2.2.2.2.2.1,()))else some ((x3.2.1,x3.2.2.2.1,x3.1,x3.2.2.2.2.2.1,x3.2.2.2.2.2.2.1,())))>>=λx4=>if(x4.1.toList==(Vp #[108,111,110,103]).toList)=true then some ((x4.2.1,x4.2.2.1,x4.2.2.2.2.1,aa.mk 3 0 false [],()))else if(x4.1.toList==(Vp #[118,111,105,100]).toList)=true then some ((x4.2.1,x4.2.2.1,x4.2.2.2.2.1,aa.mk 0 0 false [],()))else if(x4.1.toList==(Vp #[115,116,114,117,99,116]).toList)=true then(Mv 8 (bx (x4.2.1,x4.2.2.1,x4.2.2.2.2.1,())>>=λx5=>if x5.2.2.2.1.length=x4.2.2.2.2.1.length then jC ((2:Int),x5.1,x5.2.2.2.1,())>>=λx6=>if x6.2.1.length=x5.2.2.2.1.length then some ((x6.1,x5.2.1,x5.2.2.1,x4.2.2.2.1,x6.2.2.1,x6.2.1,()))else none else none))>>=λx5=>(if x5.2.2.1=true then some ((x5.2.1,true,x5.2.2.2.1,x5.2.2.2.2.1,x5.2.2.2.2.2.1,()))else some ((x5.2.1,!x5.1,x5.2.2.2.1,x5.2.2.2.2.1,x5.2.2.2.2.2.1,())))>>=λx6=>n_196 (aa.mk x6.2.2.2.1.layout.kind x6.2.2.2.1.layout.n x6.2.2.2.1.layout.flag x6.2.2.2.1.layout.parts,())>>=λx7=>some ((x6.1,x6.2.1,x6.2.2.2.2.1,x7.1,()))else if(x4.1.toList==(Vp #[101,110,117,109]).toList)=true then(Mv 2 (bx (x4.2.1,x4.2.2.1,x4.2.2.2.2.1,())>>=λx5=>if x5.2.2.2.1.length=x4.2.2.2.2.1.length then bO ((1:Int),x5.1,x5.2.2.2.1,())>>=λx6=>if x6.2.1.length=x5.2.2.2.1.length then if(!x6.1)=true then some ((x5.2.1,true,x4.2.2.2.1,x6.2.1,()))else some ((x5.2.1,x5.2.2.1,x4.2.2.2.1,x6.2.1,()))else none else none))>>=λx5=>some ((x5.1,x5.2.1,x5.2.2.2.1,aa.mk 2 32 true [],()))else some ((x4.2.1,true,x4.2.2.2.2.1,aa.mk 0 0 false [],()))else none else none
def ov:al vw:=cO prog 47 uk jC (cO prog 155 eJ bx (cO prog 156 dt bz (cO prog 159 eK bO (cO prog 164 gl cF (cP prog 196 ic n_196 c0)))))
def IA:Xc vw:={P:=prog,n:=93,call:=ov,pre:=aP,sh:=DP,joins:=λk=>match k with|7=>some (zo,[.norm])|_=>none,regs:=λk=>match k with|8=>some zp|15=>some wb|16=>some wc|19=>some wg|_=>none,pair:=λk=>match k with|15=>(.node 6 7 .leaf (.node 7 8 .leaf (.node 5 6 .leaf (.node 4 5 .leaf (.node 3 4 .leaf (.node 6 7 .leaf (.node 5 6 .leaf (.node 4 5 .leaf .leaf))))))))|19=>(.node 4 5 .leaf (.node 5 6 .leaf .leaf))|_=> .leaf}
theorem p5:af prog ov:=aN xu (aN ej (aN cU (aN ek (aN fC (aU Jz rfl rfl aJ)))))
theorem vg:aA prog 188 rI fO:=fnA IA Tryz.func188 (by kernel_rfl) Ty.mixed p5 rfl rfl rfl (λv=>by kernel_rfl) λC hP hN=>bL (by kernel_rfl)
def lr:Cut SN:=⟨[(0, .bp 100000 0),(1, .dat .bool),(4, .bp 4 0),(5, .bp 5 0)],[(100000, .box none [.bp 100001 0, .dat (.sl .str), .dat .bool]),(4, .st .layoutT),(5, .st .layoutT),(100001, .box none [.vh 100002]),(100002, .vec 44 (.st .itemT))]⟩
def zm:Cut SN:=⟨[(0, .bp 100000 0),(4, .bp 4 0),(5, .bp 5 0)],[(100000, .box none [.bp 100001 0, .dat (.sl .str), .dat .bool]),(4, .st .layoutT),(5, .st .layoutT),(100001, .box none [.vh 100002]),(100002, .vec 44 (.st .itemT))]⟩
def th:Cut SN:=⟨[(0, .bp 100000 0),(4, .bp 4 0)],[(100000, .box none [.bp 100001 0, .dat (.sl .str), .dat .bool]),(100001, .box none [.vh 100002]),(100002, .vec 44 (.st .itemT)),(4, .st .layoutT)]⟩
def ug:az vw:={exits:=λid=>match id with|0=>lr|_=>⟨[],[]⟩,rcut:=th}
def l8:Sig vw:={params:=[.bp 100000 0, .dat .bool],objs:=[(100000, .box none [.bp 100001 0, .dat (.sl .str), .dat .bool]),(100001, .box none [.vh 100002]),(100002, .vec 44 (.st .itemT))],rcut:=th,rvars:=[.cell 4 42],keep:=[100000,100001,100002]}
noncomputable def cM(v:Bool×(List ByteArray)×Bool×aa×aa×(List Item)×Unit):Option ((Bool×(List ByteArray)×Bool×aa×aa×(List Item)×Unit)):=bz (Vp #[42],v.2.1,v.2.2.1,v.2.2.2.2.2.1,())>>=λx1=>if x1.2.2.2.1.length=v.2.2.2.2.2.1.length then if x1.1=true then cM (v.1,x1.2.1,x1.2.2.1,v.2.2.2.1,aa.mk 3 0 false [],x1.2.2.2.1,())else some ((v.1,x1.2.1,x1.2.2.1,v.2.2.2.1,v.2.2.2.2.1,x1.2.2.2.1,()))else none partial_fixpoint
noncomputable def d8(v:Bool×(List ByteArray)×Bool×(List Item)×Unit):Option ((List ByteArray)×Bool×(List Item)×aa×Unit):=fO (v.2.1,v.2.2.1,v.2.2.2.1,())>>=λx1=>if x1.2.2.1.length=v.2.2.2.1.length then cM (v.1,x1.1,x1.2.1,aa.mk 0 0 false [],x1.2.2.2.1,x1.2.2.1,())>>=λx2=>(if x2.2.2.1=true then some ((x2.2.1,true,x2.2.2.2.1,x2.2.2.2.2.1,x2.2.2.2.2.2.1,()))else if(x2.2.2.2.2.1.kind==0)=true then some ((x2.2.1,!x2.1,x2.2.2.2.1,x2.2.2.2.2.1,x2.2.2.2.2.2.1,()))else some ((x2.2.1,false,x2.2.2.2.1,x2.2.2.2.2.1,x2.2.2.2.2.2.1,())))>>=λx3=>some ((x3.1,x3.2.1,x3.2.2.2.2.1,x3.2.2.2.1,()))else none
def oh:al vw:=cO prog 156 dt bz (cO prog 188 rI fO c0)
def yK:Xc vw:={P:=prog,n:=28,call:=oh,pre:=aP,sh:=ug,regs:=λk=>match k with|4=>some zm|_=>none,loops:=λk=>match k with|2=>some {cut:=lr,alts:=[.exit 0],F:=cM}|_=>none}
theorem jr:af prog oh:=aN cU (aN vg aJ)
theorem qO(C:Ctx)(hP:C.P=prog)(hN:C.N=28/\Fx C aP):aD C (aj (ah Tryz.f163) 0) (sh:=ug) {cut:=lr,alts:=[.exit 0],F:=cM}:=
 lpB (X:=yK) cM.partial_correctness hP hN Ty.mixed jr (bL (by kernel_rfl)) λF v=>by kernel_rfl
theorem mK:aA prog 163 l8 d8:=fnA yK Tryz.func163 (by kernel_rfl) Ty.mixed jr rfl rfl rfl (λv=>by kernel_rfl) λC hP hN=>gq (by kernel_rfl) (by kernel_rfl) (qO C hP hN)
def vY:Cut SN:=⟨[(0, .bp 100000 0),(2, .bp 2 0),(3, .bp 3 0),(4, .bp 4 0)],[(100000, .box none [.bp 100001 0, .dat (.sl .str), .dat .bool]),(2, .st .itemT),(3, .box none [.dat (.int .i64), .dat .str, .dat (.int .i64), .vh 3033, .dat (.int .i64), .dat (.int .i64), .dat .bool, .vh 3037]),(4, .st .layoutT),(100001, .box none [.vh 100002]),(3033, .vec 9 .str),(3037, .vec 42 (.st .layoutT)),(100002, .vec 44 (.st .itemT))]⟩
def y8:Cut SN:=⟨[(0, .bp 100000 0),(2, .bp 2 0),(3, .bp 3 0),(25, .dat .bool)],[(100000, .box none [.bp 100001 0, .dat (.sl .str), .dat .bool]),(2, .st .itemT),(3, .box none [.dat (.int .i64), .dat .str, .dat (.int .i64), .vh 3033, .dat (.int .i64), .dat (.int .i64), .dat .bool, .vh 3037]),(100001, .box none [.vh 100002]),(3033, .vec 9 .str),(3037, .vec 42 (.st .layoutT)),(100002, .vec 44 (.st .itemT))]⟩
def y9:Cut SN:=⟨[(0, .bp 100000 0),(2, .bp 2 0),(3, .bp 3 0),(4, .bp 4 0),(5, .dat (.int .i64))],[(100000, .box none [.bp 100001 0, .dat (.sl .str), .dat .bool]),(2, .st .itemT),(3, .box none [.dat (.int .i64), .dat .str, .dat (.int .i64), .vh 3033, .dat (.int .i64), .dat (.int .i64), .dat .bool, .vh 3037]),(4, .st .layoutT),(100001, .box none [.vh 100002]),(3033, .vec 9 .str),(3037, .vec 42 (.st .layoutT)),(100002, .vec 44 (.st .itemT))]⟩
def uc:az vw:={exits:=λid=>match id with|0=>cv|_=>⟨[],[]⟩,rcut:=dX}
def rA:Sig vw:={params:=[.bp 100000 0],objs:=[(100000, .box none [.bp 100001 0, .dat (.sl .str), .dat .bool]),(100001, .box none [.vh 100002]),(100002, .vec 44 (.st .itemT))],rcut:=dX,rvars:=[.cell 2 44],keep:=[100000,100001,100002]}
noncomputable def aY(v:(List ByteArray)×Bool×Item×Int×ByteArray×Int×Int×Int×Bool×(List ByteArray)×(List aa)×(List Item)×Unit):Option (((List ByteArray)×Bool×Item×Int×ByteArray×Int×Int×Int×Bool×(List ByteArray)×(List aa)×(List Item)×Unit)):=(if(!v.2.1)=true then dD (v.1,v.2.1,v.2.2.2.2.2.2.2.2.2.2.2.1,())>>=λx1=>if x1.2.2.2.1.length=v.2.2.2.2.2.2.2.2.2.2.2.1.length then some ((!x1.1.toList==(Vp #[125]).toList,x1.2.1,x1.2.2.1,v.2.2.1,v.2.2.2.1,v.2.2.2.2.1,v.2.2.2.2.2.1,v.2.2.2.2.2.2.1,v.2.2.2.2.2.2.2.1,v.2.2.2.2.2.2.2.2.1,v.2.2.2.2.2.2.2.2.2.1,v.2.2.2.2.2.2.2.2.2.2.1,x1.2.2.2.1,()))else none else some ((false,v.1,v.2.1,v.2.2.1,v.2.2.2.1,v.2.2.2.2.1,v.2.2.2.2.2.1,v.2.2.2.2.2.2.1,v.2.2.2.2.2.2.2.1,v.2.2.2.2.2.2.2.2.1,v.2.2.2.2.2.2.2.2.2.1,v.2.2.2.2.2.2.2.2.2.2.1,v.2.2.2.2.2.2.2.2.2.2.2.1,())))>>=λx1=>if x1.1=true then d8 (false,x1.2.1,x1.2.2.1,x1.2.2.2.2.2.2.2.2.2.2.2.2.1,())>>=λx2=>if x2.2.2.1.length=x1.2.2.2.2.2.2.2.2.2.2.2.2.1.length then bx (x2.1,x2.2.1,x2.2.2.1,())>>=λx3=>if x3.2.2.2.1.length=x2.2.2.1.length then if x1.2.2.2.2.2.2.2.2.2.2.1.length+[x3.1].length<=4294967296 then(bz (Vp #[91],x3.2.1,x3.2.2.1,x3.2.2.2.1,())>>=λx4=>if x4.2.2.2.1.length=x3.2.2.2.1.length then if x4.1=true then eF (x4.2.1,x4.2.2.1,x4.2.2.2.1,())>>=λx5=>if x5.2.2.2.1.length=x4.2.2.2.1.length then(if x5.2.2.1=true then some ((x5.1,x5.2.1,true,x1.2.2.2.1,x1.2.2.2.2.1,x1.2.2.2.2.2.1,x1.2.2.2.2.2.2.1,x1.2.2.2.2.2.2.2.1,x1.2.2.2.2.2.2.2.2.1,x1.2.2.2.2.2.2.2.2.2.1,x2.2.2.2.1,x1.2.2.2.2.2.2.2.2.2.2.1++[x3.1],x1.2.2.2.2.2.2.2.2.2.2.2.1,x5.2.2.2.1,()))else some ((x5.1,x5.2.1,decide (x5.1<1),x1.2.2.2.1,x1.2.2.2.2.1,x1.2.2.2.2.2.1,x1.2.2.2.2.2.2.1,x1.2.2.2.2.2.2.2.1,x1.2.2.2.2.2.2.2.2.1,x1.2.2.2.2.2.2.2.2.2.1,x2.2.2.2.1,x1.2.2.2.2.2.2.2.2.2.2.1++[x3.1],x1.2.2.2.2.2.2.2.2.2.2.2.1,x5.2.2.2.1,())))>>=λx6=>ba ([Vp #[93]],x6.2.1,x6.2.2.1,x6.2.2.2.2.2.2.2.2.2.2.2.2.2.1,())>>=λx7=>if x7.2.2.1.length=x6.2.2.2.2.2.2.2.2.2.2.2.2.2.1.length then some ((x7.1,x7.2.1,x6.2.2.2.1,x6.2.2.2.2.1,x6.2.2.2.2.2.1,x6.2.2.2.2.2.2.1,x6.2.2.2.2.2.2.2.1,x6.2.2.2.2.2.2.2.2.1,x6.2.2.2.2.2.2.2.2.2.1,aa.mk 5 x6.1 false [x6.2.2.2.2.2.2.2.2.2.2.1],x6.2.2.2.2.2.2.2.2.2.2.2.1,x6.2.2.2.2.2.2.2.2.2.2.2.2.1,x7.2.2.1,()))else none else none else some ((x4.2.1,x4.2.2.1,x1.2.2.2.1,x1.2.2.2.2.1,x1.2.2.2.2.2.1,x1.2.2.2.2.2.2.1,x1.2.2.2.2.2.2.2.1,x1.2.2.2.2.2.2.2.2.1,x1.2.2.2.2.2.2.2.2.2.1,x2.2.2.2.1,x1.2.2.2.2.2.2.2.2.2.2.1++[x3.1],x1.2.2.2.2.2.2.2.2.2.2.2.1,x4.2.2.2.1,()))else none)>>=λx4=>ba ([Vp #[59]],x4.1,x4.2.1,x4.2.2.2.2.2.2.2.2.2.2.2.2.1,())>>=λx5=>if x5.2.2.1.length=x4.2.2.2.2.2.2.2.2.2.2.2.2.1.length then if x4.2.2.2.2.2.2.2.2.2.2.2.1.length+[x4.2.2.2.2.2.2.2.2.2.1].length<=4294967296 then aY (x5.1,x5.2.1,x4.2.2.1,x4.2.2.2.1,x4.2.2.2.2.1,x4.2.2.2.2.2.1,x4.2.2.2.2.2.2.1,x4.2.2.2.2.2.2.2.1,x4.2.2.2.2.2.2.2.2.1,x4.2.2.2.2.2.2.2.2.2.2.1,x4.2.2.2.2.2.2.2.2.2.2.2.1++[x4.2.2.2.2.2.2.2.2.2.1],x5.2.2.1,())else none else none else none else none else none else some ((x1.2.1,x1.2.2.1,x1.2.2.2.1,x1.2.2.2.2.1,x1.2.2.2.2.2.1,x1.2.2.2.2.2.2.1,x1.2.2.2.2.2.2.2.1,x1.2.2.2.2.2.2.2.2.1,x1.2.2.2.2.2.2.2.2.2.1,x1.2.2.2.2.2.2.2.2.2.2.1,x1.2.2.2.2.2.2.2.2.2.2.2.1,x1.2.2.2.2.2.2.2.2.2.2.2.2.1,())) partial_fixpoint
noncomputable def fN(v:(List ByteArray)×Bool×(List Item)×Unit):Option ((List ByteArray)×Bool×(List Item)×Item×Unit):=ba ([Vp #[115,116,114,117,99,116]],v.1,v.2.1,v.2.2.1,())>>=λx1=>if x1.2.2.1.length=v.2.2.1.length then(bx (x1.1,x1.2.1,x1.2.2.1,())>>=λx2=>if x2.2.2.2.1.length=x1.2.2.1.length then some ((x2.2.1,x2.2.2.1,Item.mk 0 (Vp #[]) (0:Int) [] (aa.mk 0 0 false []),(2:Int),x2.1,(0:Int),(6:Int),(0:Int),false,[],[],x2.2.2.2.1,()))else none)>>=λx2=>ba ([Vp #[123]],x2.1,x2.2.1,x2.2.2.2.2.2.2.2.2.2.2.2.1,())>>=λx3=>if x3.2.2.1.length=x2.2.2.2.2.2.2.2.2.2.2.2.1.length then aY (x3.1,x3.2.1,x2.2.2.1,x2.2.2.2.1,x2.2.2.2.2.1,x2.2.2.2.2.2.1,x2.2.2.2.2.2.2.1,x2.2.2.2.2.2.2.2.1,x2.2.2.2.2.2.2.2.2.1,x2.2.2.2.2.2.2.2.2.2.1,x2.2.2.2.2.2.2.2.2.2.2.1,x3.2.2.1,())>>=λx4=>ba ([Vp #[125],Vp #[59]],x4.1,x4.2.1,x4.2.2.2.2.2.2.2.2.2.2.2.1,())>>=λx5=>if x5.2.2.1.length=x4.2.2.2.2.2.2.2.2.2.2.2.1.length then(if x5.2.1=true then some ((x5.1,true,x4.2.2.1,x4.2.2.2.1,x4.2.2.2.2.1,x4.2.2.2.2.2.1,x4.2.2.2.2.2.2.1,x4.2.2.2.2.2.2.2.1,x4.2.2.2.2.2.2.2.2.1,x4.2.2.2.2.2.2.2.2.2.1,x4.2.2.2.2.2.2.2.2.2.2.1,x5.2.2.1,()))else if((↑x4.2.2.2.2.2.2.2.2.2.1.length:Int)==0)=true then some ((x5.1,true,x4.2.2.1,x4.2.2.2.1,x4.2.2.2.2.1,x4.2.2.2.2.2.1,x4.2.2.2.2.2.2.1,x4.2.2.2.2.2.2.2.1,x4.2.2.2.2.2.2.2.2.1,x4.2.2.2.2.2.2.2.2.2.1,x4.2.2.2.2.2.2.2.2.2.2.1,x5.2.2.1,()))else sx (x4.2.2.2.2.2.2.2.2.2.1,())>>=λx6=>if(!x6.1)=true then some ((x5.1,true,x4.2.2.1,x4.2.2.2.1,x4.2.2.2.2.1,x4.2.2.2.2.2.1,x4.2.2.2.2.2.2.1,x4.2.2.2.2.2.2.2.1,x4.2.2.2.2.2.2.2.2.1,x4.2.2.2.2.2.2.2.2.2.1,x4.2.2.2.2.2.2.2.2.2.2.1,x5.2.2.1,()))else bO ((2:Int),x4.2.2.2.2.1,x5.2.2.1,())>>=λx7=>if x7.2.1.length=x5.2.2.1.length then some ((x5.1,x7.1,x4.2.2.1,x4.2.2.2.1,x4.2.2.2.2.1,x4.2.2.2.2.2.1,x4.2.2.2.2.2.2.1,x4.2.2.2.2.2.2.2.1,x4.2.2.2.2.2.2.2.2.1,x4.2.2.2.2.2.2.2.2.2.1,x4.2.2.2.2.2.2.2.2.2.2.1,x7.2.1,()))else none)>>=λx6=>some ((x6.1,x6.2.1,x6.2.2.2.2.2.2.2.2.2.2.2.1,Item.mk x6.2.2.2.1 x6.2.2.2.2.1 x6.2.2.2.2.2.1 x6.2.2.2.2.2.2.2.2.2.1 (aa.mk x6.2.2.2.2.2.2.1 x6.2.2.2.2.2.2.2.1 x6.2.2.2.2.2.2.2.2.1 x6.2.2.2.2.2.2.2.2.2.2.1),()))else none else none else none
def nT:al vw:=cO prog 154 gk ba (cO prog 155 eJ bx (cO prog 156 dt bz (cO prog 157 lY eF (cO prog 159 eK bO (cP prog 160 Bw sx (cO prog 162 iX dD (cO prog 163 l8 d8 c0)))))))
def yG:Xc vw:={P:=prog,n:=100,nm:=λd=>match d with|11=>40011|12=>40012|_=>d,call:=nT,pre:=aP,sh:=uc,joins:=λk=>match k with|12=>some (vY,[.norm])|_=>none,regs:=λk=>match k with|2=>some cv|4=>some y8|9=>some y9|15=>some cv|_=>none,loops:=λk=>match k with|4=>some {cut:=cv,alts:=[.exit 0],F:=aY}|_=>none}
theorem jn:af prog nT:=aN fB (aN ej (aN cU (aN mI (aN ek (aU u7 rfl rfl (aN iN (aN mK aJ)))))))
theorem qI(C:Ctx)(hP:C.P=prog)(hN:C.N=100/\Fx C aP):aD C (aj (ah Tryz.f124) 0) (sh:=uc) {cut:=cv,alts:=[.exit 0],F:=aY}:=
 lpB (X:=yG) aY.partial_correctness hP hN Ty.mixed jn (bL (by kernel_rfl)) λF v=>by kernel_rfl
theorem u4:aA prog 124 rA fN:=fnA yG Tryz.func124 (by kernel_rfl) Ty.mixed jn rfl rfl rfl (λv=>by kernel_rfl) λC hP hN=>gq (by kernel_rfl) (by kernel_rfl) (qI C hP hN)
def fU:Cut SN:=⟨[(0, .bp 100000 0),(2, .bp 2 0),(3, .bp 3 0),(4, .bp 4 0)],[(100000, .box none [.bp 100001 0, .dat (.sl .str), .dat .bool]),(2, .st .itemT),(3, .st .layoutT),(4, .box none [.dat (.int .i64), .dat .str, .dat (.int .i64), .vh 3043, .dat (.int .i64), .dat (.int .i64), .dat .bool, .vh 3047]),(100001, .box none [.vh 100002]),(3043, .vec 9 .str),(3047, .vec 42 (.st .layoutT)),(100002, .vec 44 (.st .itemT))]⟩
def y_:Cut SN:=⟨[(0, .bp 100000 0),(2, .bp 2 0),(3, .bp 3 0),(4, .bp 4 0),(38, .dat .bool)],[(100000, .box none [.bp 100001 0, .dat (.sl .str), .dat .bool]),(2, .st .itemT),(3, .st .layoutT),(4, .box none [.dat (.int .i64), .dat .str, .dat (.int .i64), .vh 3043, .dat (.int .i64), .dat (.int .i64), .dat .bool, .vh 3047]),(100001, .box none [.vh 100002]),(3043, .vec 9 .str),(3047, .vec 42 (.st .layoutT)),(100002, .vec 44 (.st .itemT))]⟩
def vZ:Cut SN:=⟨[(0, .bp 100000 0),(2, .bp 2 0),(4, .bp 4 0)],[(100000, .box none [.bp 100001 0, .dat (.sl .str), .dat .bool]),(2, .st .itemT),(4, .box none [.dat (.int .i64), .dat .str, .dat (.int .i64), .vh 3043, .dat (.int .i64), .dat (.int .i64), .dat .bool, .vh 3047]),(100001, .box none [.vh 100002]),(3043, .vec 9 .str),(3047, .vec 42 (.st .layoutT)),(100002, .vec 44 (.st .itemT))]⟩
def ud:az vw:={exits:=λid=>match id with|0=>fU|_=>⟨[],[]⟩,rcut:=dX}
def rB:Sig vw:={params:=[.bp 100000 0],objs:=[(100000, .box none [.bp 100001 0, .dat (.sl .str), .dat .bool]),(100001, .box none [.vh 100002]),(100002, .vec 44 (.st .itemT))],rcut:=dX,rvars:=[.cell 2 44],keep:=[100000,100001,100002]}
noncomputable def ci(v:(List ByteArray)×Bool×Item×aa×Int×ByteArray×Int×Int×Int×Bool×(List ByteArray)×(List aa)×(List Item)×Unit):Option (((List ByteArray)×Bool×Item×aa×Int×ByteArray×Int×Int×Int×Bool×(List ByteArray)×(List aa)×(List Item)×Unit)):=d8 (false,v.1,v.2.1,v.2.2.2.2.2.2.2.2.2.2.2.2.1,())>>=λx1=>if x1.2.2.1.length=v.2.2.2.2.2.2.2.2.2.2.2.2.1.length then bx (x1.1,x1.2.1,x1.2.2.1,())>>=λx2=>if x2.2.2.2.1.length=x1.2.2.1.length then if v.2.2.2.2.2.2.2.2.2.2.1.length+[x2.1].length<=4294967296 then if v.2.2.2.2.2.2.2.2.2.2.2.1.length+[x1.2.2.2.1].length<=4294967296 then bz (Vp #[44],x2.2.1,x2.2.2.1,x2.2.2.2.1,())>>=λx3=>if x3.2.2.2.1.length=x2.2.2.2.1.length then if(!x3.1)=true then some ((x3.2.1,x3.2.2.1,v.2.2.1,v.2.2.2.1,v.2.2.2.2.1,v.2.2.2.2.2.1,v.2.2.2.2.2.2.1,v.2.2.2.2.2.2.2.1,v.2.2.2.2.2.2.2.2.1,v.2.2.2.2.2.2.2.2.2.1,v.2.2.2.2.2.2.2.2.2.2.1++[x2.1],v.2.2.2.2.2.2.2.2.2.2.2.1++[x1.2.2.2.1],x3.2.2.2.1,()))else ci (x3.2.1,x3.2.2.1,v.2.2.1,v.2.2.2.1,v.2.2.2.2.1,v.2.2.2.2.2.1,v.2.2.2.2.2.2.1,v.2.2.2.2.2.2.2.1,v.2.2.2.2.2.2.2.2.1,v.2.2.2.2.2.2.2.2.2.1,v.2.2.2.2.2.2.2.2.2.2.1++[x2.1],v.2.2.2.2.2.2.2.2.2.2.2.1++[x1.2.2.2.1],x3.2.2.2.1,())else none else none else none else none else none partial_fixpoint
noncomputable def d7(v:(List ByteArray)×Bool×(List Item)×Unit):Option ((List ByteArray)×Bool×(List Item)×Item×Unit):=d8 (true,v.1,v.2.1,v.2.2.1,())>>=λx1=>if x1.2.2.1.length=v.2.2.1.length then(bx (x1.1,x1.2.1,x1.2.2.1,())>>=λx2=>if x2.2.2.2.1.length=x1.2.2.1.length then some ((x2.2.1,x2.2.2.1,Item.mk 0 (Vp #[]) (0:Int) [] (aa.mk 0 0 false []),x1.2.2.2.1,(3:Int),x2.1,(0:Int),(6:Int),(0:Int),false,[],[],x2.2.2.2.1,()))else none)>>=λx2=>ba ([Vp #[40]],x2.1,x2.2.1,x2.2.2.2.2.2.2.2.2.2.2.2.2.1,())>>=λx3=>if x3.2.2.1.length=x2.2.2.2.2.2.2.2.2.2.2.2.2.1.length then((if decide ((↑x3.1.length:Int)<2)=true then some ((true,x3.1,x3.2.1,x2.2.2.1,x2.2.2.2.1,x2.2.2.2.2.1,x2.2.2.2.2.2.1,x2.2.2.2.2.2.2.1,x2.2.2.2.2.2.2.2.1,x2.2.2.2.2.2.2.2.2.1,x2.2.2.2.2.2.2.2.2.2.1,x2.2.2.2.2.2.2.2.2.2.2.1,x2.2.2.2.2.2.2.2.2.2.2.2.1,x3.2.2.1,()))else x3.1[Wq 0]?>>=λx4=>if(!x4.toList==(Vp #[118,111,105,100]).toList)=true then some ((true,x3.1,x3.2.1,x2.2.2.1,x2.2.2.2.1,x2.2.2.2.2.1,x2.2.2.2.2.2.1,x2.2.2.2.2.2.2.1,x2.2.2.2.2.2.2.2.1,x2.2.2.2.2.2.2.2.2.1,x2.2.2.2.2.2.2.2.2.2.1,x2.2.2.2.2.2.2.2.2.2.2.1,x2.2.2.2.2.2.2.2.2.2.2.2.1,x3.2.2.1,()))else x3.1[Wq 1]?>>=λx5=>some ((!x5.toList==(Vp #[41]).toList,x3.1,x3.2.1,x2.2.2.1,x2.2.2.2.1,x2.2.2.2.2.1,x2.2.2.2.2.2.1,x2.2.2.2.2.2.2.1,x2.2.2.2.2.2.2.2.1,x2.2.2.2.2.2.2.2.2.1,x2.2.2.2.2.2.2.2.2.2.1,x2.2.2.2.2.2.2.2.2.2.2.1,x2.2.2.2.2.2.2.2.2.2.2.2.1,x3.2.2.1,())))>>=λx4=>if x4.1=true then ci (x4.2.1,x4.2.2.1,x4.2.2.2.1,x4.2.2.2.2.1,x4.2.2.2.2.2.1,x4.2.2.2.2.2.2.1,x4.2.2.2.2.2.2.2.1,x4.2.2.2.2.2.2.2.2.1,x4.2.2.2.2.2.2.2.2.2.1,x4.2.2.2.2.2.2.2.2.2.2.1,x4.2.2.2.2.2.2.2.2.2.2.2.1,x4.2.2.2.2.2.2.2.2.2.2.2.2.1,x4.2.2.2.2.2.2.2.2.2.2.2.2.2.1,())>>=λx5=>some ((x5.1,x5.2.1,x5.2.2.1,x5.2.2.2.1,x5.2.2.2.2.1,x5.2.2.2.2.2.1,x5.2.2.2.2.2.2.1,x5.2.2.2.2.2.2.2.1,x5.2.2.2.2.2.2.2.2.1,x5.2.2.2.2.2.2.2.2.2.1,x5.2.2.2.2.2.2.2.2.2.2.1,x5.2.2.2.2.2.2.2.2.2.2.2.1,x5.2.2.2.2.2.2.2.2.2.2.2.2.1,()))else cF (x4.2.1,x4.2.2.1,x4.2.2.2.2.2.2.2.2.2.2.2.2.2.1,())>>=λx5=>if x5.2.2.2.1.length=x4.2.2.2.2.2.2.2.2.2.2.2.2.2.1.length then some ((x5.2.1,x5.2.2.1,x4.2.2.2.1,x4.2.2.2.2.1,x4.2.2.2.2.2.1,x4.2.2.2.2.2.2.1,x4.2.2.2.2.2.2.2.1,x4.2.2.2.2.2.2.2.2.1,x4.2.2.2.2.2.2.2.2.2.1,x4.2.2.2.2.2.2.2.2.2.2.1,x4.2.2.2.2.2.2.2.2.2.2.2.1,x4.2.2.2.2.2.2.2.2.2.2.2.2.1,x5.2.2.2.1,()))else none)>>=λx4=>ba ([Vp #[41],Vp #[59]],x4.1,x4.2.1,x4.2.2.2.2.2.2.2.2.2.2.2.2.1,())>>=λx5=>if x5.2.2.1.length=x4.2.2.2.2.2.2.2.2.2.2.2.2.1.length then if x4.2.2.2.2.2.2.2.2.2.2.2.1.length+[x4.2.2.2.1].length<=4294967296 then(if x5.2.1=true then some ((x5.1,true,x4.2.2.1,x4.2.2.2.2.1,x4.2.2.2.2.2.1,x4.2.2.2.2.2.2.1,x4.2.2.2.2.2.2.2.1,x4.2.2.2.2.2.2.2.2.1,x4.2.2.2.2.2.2.2.2.2.1,x4.2.2.2.2.2.2.2.2.2.2.1,x4.2.2.2.2.2.2.2.2.2.2.2.1++[x4.2.2.2.1],x5.2.2.1,()))else sx (x4.2.2.2.2.2.2.2.2.2.2.1,())>>=λx6=>if(!x6.1)=true then some ((x5.1,true,x4.2.2.1,x4.2.2.2.2.1,x4.2.2.2.2.2.1,x4.2.2.2.2.2.2.1,x4.2.2.2.2.2.2.2.1,x4.2.2.2.2.2.2.2.2.1,x4.2.2.2.2.2.2.2.2.2.1,x4.2.2.2.2.2.2.2.2.2.2.1,x4.2.2.2.2.2.2.2.2.2.2.2.1++[x4.2.2.2.1],x5.2.2.1,()))else bO ((3:Int),x4.2.2.2.2.2.1,x5.2.2.1,())>>=λx7=>if x7.2.1.length=x5.2.2.1.length then some ((x5.1,x7.1,x4.2.2.1,x4.2.2.2.2.1,x4.2.2.2.2.2.1,x4.2.2.2.2.2.2.1,x4.2.2.2.2.2.2.2.1,x4.2.2.2.2.2.2.2.2.1,x4.2.2.2.2.2.2.2.2.2.1,x4.2.2.2.2.2.2.2.2.2.2.1,x4.2.2.2.2.2.2.2.2.2.2.2.1++[x4.2.2.2.1],x7.2.1,()))else none)>>=λx6=>some ((x6.1,x6.2.1,x6.2.2.2.2.2.2.2.2.2.2.2.1,Item.mk x6.2.2.2.1 x6.2.2.2.2.1 x6.2.2.2.2.2.1 x6.2.2.2.2.2.2.2.2.2.1 (aa.mk x6.2.2.2.2.2.2.1 x6.2.2.2.2.2.2.2.1 x6.2.2.2.2.2.2.2.2.1 x6.2.2.2.2.2.2.2.2.2.2.1),()))else none else none else none else none
def nU:al vw:=cO prog 154 gk ba (cO prog 155 eJ bx (cO prog 156 dt bz (cO prog 159 eK bO (cP prog 160 Bw sx (cO prog 163 l8 d8 (cO prog 164 gl cF c0))))))
def yH:Xc vw:={P:=prog,n:=95,nm:=λd=>match d with|10=>40010|11=>40011|_=>d,call:=nU,pre:=aP,sh:=ud,joins:=λk=>match k with|10=>some (fU,[.norm])|_=>none,regs:=λk=>match k with|2=>some fU|4=>some y_|12=>some vZ|_=>none,loops:=λk=>match k with|5=>some {cut:=fU,alts:=[.exit 0],F:=ci}|_=>none}
theorem jo:af prog nU:=aN fB (aN ej (aN cU (aN ek (aU u7 rfl rfl (aN mK (aN fC aJ))))))
theorem qJ(C:Ctx)(hP:C.P=prog)(hN:C.N=95/\Fx C aP):aD C (aj (ah Tryz.f125) 0) (sh:=ud) {cut:=fU,alts:=[.exit 0],F:=ci}:=
 lpB (X:=yH) ci.partial_correctness hP hN Ty.mixed jo (bL (by kernel_rfl)) λF v=>by kernel_rfl
theorem u5:aA prog 125 rB d7:=fnA yH Tryz.func125 (by kernel_rfl) Ty.mixed jo rfl rfl rfl (λv=>by kernel_rfl) λC hP hN=>gq (by kernel_rfl) (by kernel_rfl) (qJ C hP hN)
def Tk:Cut SN:=⟨[(0, .dat (.sl .fnc))],[]⟩
def UM:az vw:={rcut:=Tk}
def QH:Sig vw:={params:=[],rcut:=Tk,rvars:=[.tmp 0]}
noncomputable def Q3(v:Unit):Option ((List Nat)×Unit):=some (([(122:Nat),(123:Nat),(124:Nat),(125:Nat)],()))
def Lk:al vw:=c0
def x98:Xc vw:={P:=prog,n:=2,call:=Lk,pre:=aP,sh:=UM}
theorem Fi:af prog Lk:=aJ
theorem Nr:aA prog 98 QH Q3:=fnA x98 Tryz.func98 (by kernel_rfl) Ty.mixed Fi rfl rfl rfl (λv=>by kernel_rfl) λC hP hN=>bL (by kernel_rfl)
def KG:Cut SN:=⟨[(3, .dat (.int .i64)),(6, .dat (.sl (.int .i64))),(7, .dat (.int .i64)),(8, .dat (.int .i64))],[]⟩
def s6:Cut SN:=⟨[(3, .dat (.int .i64))],[]⟩
def Qd:az vw:={exits:=λid=>match id with|0=>s6|_=>⟨[],[]⟩,rcut:=bW}
def yi:Sig vw:={params:=[.dat (.sl (.int .i64))],rcut:=bW,rvars:=[.tmp 2]}
noncomputable def lP(v:Int×(List Int)×Int×Int×Unit):Option ((Int×Unit)):=if decide (v.2.2.2.1<v.2.2.1)=true then if 0<=v.2.2.2.1 then v.2.1[v.2.2.2.1.toNat]?>>=λx1=>lP (min (1099511627776:Int) (i64.wrap (v.1+min x1 (1099511627776:Int))),v.2.1,v.2.2.1,i64.wrap (v.2.2.2.1+1),())else none else some ((v.1,())) partial_fixpoint
noncomputable def lO(v:(List Int)×Unit):Option (Int×Unit):=lP ((0:Int),v.1,(↑v.1.length:Int),(0:Int),())>>=λx1=>some ((x1.1,()))
def Ex:al vw:=c0
def TP:Xc vw:={P:=prog,n:=19,call:=Ex,pre:=aP,sh:=Qd,loops:=λk=>match k with|3=>some {cut:=KG,alts:=[.exit 0],F:=lP}|_=>none}
theorem tD:af prog Ex:=aJ
theorem C0(C:Ctx)(hP:C.P=prog)(hN:C.N=19/\Fx C aP):aD C (aj (ah Tryz.f111) 0) (sh:=Qd) {cut:=KG,alts:=[.exit 0],F:=lP}:=
 lpB (X:=TP) lP.partial_correctness hP hN Ty.mixed tD (bL (by kernel_rfl)) λF v=>by kernel_rfl
theorem fz:aA prog 111 yi lO:=fnA TP Tryz.func111 (by kernel_rfl) Ty.mixed tD rfl rfl rfl (λv=>by kernel_rfl) λC hP hN=>gq (by kernel_rfl) (by kernel_rfl) (C0 C hP hN)
def Sh:az vw:={rcut:=bW}
def HC:Sig vw:={params:=[.dat (.st .layoutT)],rcut:=bW,rvars:=[.tmp 2]}
noncomputable def Ah(v:aa×Unit):Option (Int×Unit):=if(v.1.kind==1)=true then some (((1:Int),()))else if(v.1.kind==2)=true then some ((max v.1.n (0:Int),()))else some (((0:Int),()))
def EH:al vw:=c0
def Vb:Xc vw:={P:=prog,n:=12,call:=EH,pre:=aP,sh:=Sh}
theorem Cu:af prog EH:=aJ
theorem pf:aA prog 144 HC Ah:=fnA Vb Tryz.func144 (by kernel_rfl) Ty.mixed Cu rfl rfl rfl (λv=>by kernel_rfl) λC hP hN=>bL (by kernel_rfl)
end Go.Proofs.YtpelkenpapfadaaGreatDoor
end
