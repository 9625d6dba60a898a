/-
  Texts of this claim, joined by a program of mine: what the theorem uses.
-/
import Derived.Test.YtpelkenpapfadaaGreatDoorPkE
import Derived.Test.YtpelkenpapfadaaGreatDoorPkC
import Derived.Test.YtpelkenpapfadaaGreatDoorPkG
import Derived.Lib.RuneCountTail
open Array renaming length_toList→WK,toList_inj→W6
open Bool renaming and_eq_true→VE,and_false→XL,and_true→XB,false_and→WP,false_eq_true→Vj,false_ne_true→VK,false_or→VX,or_eq_false_iff→We,or_true→Wz,true_and→WA,true_eq_false→Vn,true_or→V2
open ByteArray renaming mk→Vp
open ByteArray.toList renaming loop→X6
open Int renaming natCast_nonneg→Vm,ofNat_lt→Vs,toNat→Wq,toNat_natCast→Vl,toNat_zero→WH
open List renaming append_assoc→Wc,append_nil→Wo,cons_append→VM,count_append→XZ,count_cons_self→YO,count_eq_zero→XC,drop_append→Yv,drop_drop→Xj,drop_eq_getElem_cons→WU,drop_eq_nil_of_le→WR,drop_zero→V6,foldl_cons→Wy,foldl_nil→XY,getD_eq_getElem?_getD→VS,getElem?_append_right→VR,getElem?_eq_getElem→Vw,getElem?_eq_none→Xe,getElem?_map→Vz,getElem?_set→WM,getElem?_set_self→X0,getElem_mem→WI,length_append→VB,length_cons→VD,length_drop→Wg,length_map→VA,length_nil→VU,length_replicate→X4,length_set→WD,length_singleton→Vt,map→W0,map_cons→VC,map_nil→V8,map_set→Xx,map_singleton→XW,mem_append→VJ,mem_cons→VG,mem_cons_of_mem→Vu,mem_cons_self→Vy,mem_map→VQ,mem_of_getElem?→VI,mem_or_eq_of_mem_set→WT,mem_singleton→Wd,nil_append→V7,replicate→Wm,set_append_right→XJ,set_cons_zero→Yi,set_set→Ys,singleton_append→YH,takeWhile_cons→W2,takeWhile_nil→XV,take_add_one→Xg,take_append_of_le_length→Ya,take_of_length_le→Wf,take_succ_cons→YQ,take_zero→XI
open Nat renaming add_assoc→WE,add_sub_cancel→Yg,add_zero→V3,le_refl→VN,zero_add→V4
open Ne renaming symm→VZ
open Option renaming bind_eq_bind→Vi,bind_none→Vr,bind_some→Vk
open Sum renaming inl→V_,inr→V9
open UInt8 renaming toNat_inj→YA
noncomputable section
set_option linter.unusedVariables false
set_option linter.unusedSimpArgs false
section
namespace Go.Proofs.YtpelkenpapfadaaGreatDoor
open Go.Awp Go.Tx
open IntKind (i64)
open Go.Proofs.Tryz (prog)
set_option maxHeartbeats 4000000
set_option maxRecDepth 100000
def tq:Cut SN:=⟨[(0, .vh 100000),(1, .dat (.int .i64)),(2, .dat .str),(6, .bp 6 0),(8, .dat (.int .i64))],[(100000, .vec 44 (.st .itemT)),(6, .st .itemT)]⟩
def Cf:Cut SN:=⟨[(0, .vh 100000),(1, .dat (.int .i64)),(2, .dat .str),(6, .bp 6 0),(8, .dat (.int .i64)),(30, .dat .bool)],[(100000, .vec 44 (.st .itemT)),(6, .st .itemT)]⟩
def Ce:Cut SN:=⟨[(0, .vh 100000),(6, .bp 6 0)],[(100000, .vec 44 (.st .itemT)),(6, .st .itemT)]⟩
def yb:az vw:={exits:=λid=>match id with|0=>Ce|_=>⟨[],[]⟩,rcut:=mf}
def nG:Sig vw:={params:=[.vh 100000, .dat (.int .i64), .dat .str],objs:=[(100000, .vec 44 (.st .itemT))],rcut:=mf,rvars:=[.cell 6 44, .tmp 7],keep:=[100000]}
noncomputable def cV(v:Int×ByteArray×Int×(List Item)×Item×Unit):Option (((Bool×(List Item)×Item×Unit)⊕((List Item)×Item×Unit))):=if decide (v.2.2.1<(↑v.2.2.2.1.length:Int))=true then(if 0<=v.2.2.1/\v.2.2.1<(↑v.2.2.2.1.length:Int)then v.2.2.2.1[v.2.2.1.toNat]?>>=λx1=>if(x1.kind==v.1)=true then if 0<=v.2.2.1/\v.2.2.1<(↑v.2.2.2.1.length:Int)then v.2.2.2.1[v.2.2.1.toNat]?>>=λx2=>some ((v.1,v.2.1,v.2.2.1,x2.name0.toList==v.2.1.toList,v.2.2.2.1,v.2.2.2.2.1,()))else none else some ((v.1,v.2.1,v.2.2.1,false,v.2.2.2.1,v.2.2.2.2.1,()))else none)>>=λx1=>if x1.2.2.2.1=true then if 0<=x1.2.2.1/\x1.2.2.1<(↑x1.2.2.2.2.1.length:Int)then x1.2.2.2.2.1[x1.2.2.1.toNat]?>>=λx2=>some (V_ (true,x1.2.2.2.2.1,x2,()))else none else cV (x1.1,x1.2.1,i64.wrap (x1.2.2.1+1),x1.2.2.2.2.1,x1.2.2.2.2.2.1,())else some (V9 (v.2.2.2.1,v.2.2.2.2.1,())) partial_fixpoint
noncomputable def en(v:Int×ByteArray×(List Item)×Unit):Option (Bool×(List Item)×Item×Unit):=cV (v.1,v.2.1,(0:Int),v.2.2.1,Item.mk 0 (Vp #[]) (0:Int) [] (aa.mk 0 0 false []),())>>=λx1=>match x1 with| .inl y1=>some y1| .inr y1=>some ((false,y1.1,Item.mk 0 (Vp #[]) (0:Int) [] (aa.mk 0 0 false []),()))
def p9:al vw:=c0
def BS:Xc vw:={P:=prog,n:=36,call:=p9,pre:=aP,sh:=yb,regs:=λk=>match k with|4=>some Cf|_=>none,loops:=λk=>match k with|2=>some {cut:=tq,alts:=[.ret, .exit 0],F:=cV}|_=>none}
theorem kJ:af prog p9:=aJ
theorem sA(C:Ctx)(hP:C.P=prog)(hN:C.N=36/\Fx C aP):aD C (aj (ah Tryz.f48) 0) (sh:=yb) {cut:=tq,alts:=[.ret, .exit 0],F:=cV}:=
 lpB (X:=BS) cV.partial_correctness hP hN Ty.mixed kJ (bL (by kernel_rfl)) λF v=>by kernel_rfl
theorem oA:aA prog 48 nG en:=fnA BS Tryz.func48 (by kernel_rfl) Ty.mixed kJ rfl rfl rfl (λv=>by kernel_rfl) λC hP hN=>gq (by kernel_rfl) (by kernel_rfl) (sA C hP hN)
def eY:Cut SN:=⟨[(0, .bp 100000 0),(1, .dat .bool),(4, .bp 4 0),(5, .bp 5 0),(6, .dat .bool)],[(100000, .box none [.dat (.sl .str), .vh 100001, .dat .bool]),(4, .st .layoutT),(5, .st .layoutT),(100001, .vec 44 (.st .itemT))]⟩
def zg:Cut SN:=⟨[(0, .bp 100000 0),(1, .dat .bool),(4, .bp 4 0),(5, .bp 5 0),(6, .dat .bool),(7, .dat .str),(8, .dat .bool)],[(100000, .box none [.dat (.sl .str), .vh 100001, .dat .bool]),(4, .st .layoutT),(5, .st .layoutT),(100001, .vec 44 (.st .itemT))]⟩
def zh:Cut SN:=⟨[(0, .bp 100000 0),(1, .dat .bool),(4, .bp 4 0),(5, .bp 5 0),(6, .dat .bool),(7, .dat .str),(8, .dat .bool),(34, .dat .bool)],[(100000, .box none [.dat (.sl .str), .vh 100001, .dat .bool]),(4, .st .layoutT),(5, .st .layoutT),(100001, .vec 44 (.st .itemT))]⟩
def v7:Cut SN:=⟨[(0, .bp 100000 0),(1, .dat .bool),(4, .bp 4 0),(5, .bp 5 0),(6, .dat .bool),(9, .bp 9 0),(10, .dat .bool)],[(100000, .box none [.dat (.sl .str), .vh 100001, .dat .bool]),(4, .st .layoutT),(5, .st .layoutT),(9, .st .itemT),(100001, .vec 44 (.st .itemT))]⟩
def v8:Cut SN:=⟨[(0, .bp 100000 0),(1, .dat .bool),(4, .bp 4 0),(5, .bp 5 0),(6, .dat .bool),(9, .bp 9 0)],[(100000, .box none [.dat (.sl .str), .vh 100001, .dat .bool]),(4, .st .layoutT),(5, .st .layoutT),(9, .st .itemT),(100001, .vec 44 (.st .itemT))]⟩
def v_:Cut SN:=⟨[(0, .bp 100000 0),(1, .dat .bool),(4, .bp 4 0),(5, .bp 5 0),(6, .dat .bool),(12, .dat .bool)],[(100000, .box none [.dat (.sl .str), .vh 100001, .dat .bool]),(4, .st .layoutT),(5, .st .layoutT),(100001, .vec 44 (.st .itemT))]⟩
def wa:Cut SN:=⟨[(0, .bp 100000 0),(4, .bp 4 0),(5, .bp 5 0)],[(100000, .box none [.dat (.sl .str), .vh 100001, .dat .bool]),(4, .st .layoutT),(5, .st .layoutT),(100001, .vec 44 (.st .itemT))]⟩
def s9:Cut SN:=⟨[(0, .bp 100000 0),(4, .bp 4 0)],[(100000, .box none [.dat (.sl .str), .vh 100001, .dat .bool]),(100001, .vec 44 (.st .itemT)),(4, .st .layoutT)]⟩
def ue:az vw:={exits:=λid=>match id with|1=>eY|_=>⟨[],[]⟩,rcut:=s9}
def lX:Sig vw:={params:=[.bp 100000 0, .dat .bool],objs:=[(100000, .box none [.dat (.sl .str), .vh 100001, .dat .bool]),(100001, .vec 44 (.st .itemT))],rcut:=s9,rvars:=[.cell 4 42],keep:=[100000,100001]}
noncomputable def bF(v:Bool×Bool×(List ByteArray)×Bool×aa×aa×(List Item)×Unit):Option ((Bool×Bool×(List ByteArray)×Bool×aa×aa×(List Item)×Unit)):=bV (Vp #[42],v.2.2.1,v.2.2.2.1,v.2.2.2.2.2.2.1,())>>=λx1=>if x1.2.2.2.1.length=v.2.2.2.2.2.2.1.length then if x1.1=true then bF (v.1,false,x1.2.1,x1.2.2.1,v.2.2.2.2.1,aa.mk 3 0 false [],x1.2.2.2.1,())else some ((v.1,v.2.1,x1.2.1,x1.2.2.1,v.2.2.2.2.1,v.2.2.2.2.2.1,x1.2.2.2.1,()))else none partial_fixpoint
noncomputable def cE(v:Bool×(List ByteArray)×Bool×(List Item)×Unit):Option ((List ByteArray)×Bool×(List Item)×aa×Unit):=bG (v.2.1,v.2.2.1,v.2.2.2.1,())>>=λx1=>if x1.2.2.2.1.length=v.2.2.2.1.length then(if(!!x1.1.toList==(Vp #[117,110,115,105,103,110,101,100]).toList)=true then bG (x1.2.1,x1.2.2.1,x1.2.2.2.1,())>>=λx2=>if x2.2.2.2.1.length=x1.2.2.2.1.length then(if(x2.1.toList==(Vp #[108,111,110,103]).toList)=true then some ((v.1,false,x2.1,!x1.1.toList==(Vp #[117,110,115,105,103,110,101,100]).toList,true,x2.2.1,x2.2.2.1,aa.mk 0 0 false [],aa.mk 0 0 false [],x2.2.2.2.1,()))else if(x2.1.toList==(Vp #[118,111,105,100]).toList)=true then some ((v.1,false,x2.1,!x1.1.toList==(Vp #[117,110,115,105,103,110,101,100]).toList,true,x2.2.1,x2.2.2.1,aa.mk 0 0 false [],aa.mk 0 0 false [],x2.2.2.2.1,()))else if(x2.1.toList==(Vp #[115,116,114,117,99,116]).toList)=true then some ((v.1,false,x2.1,!x1.1.toList==(Vp #[117,110,115,105,103,110,101,100]).toList,true,x2.2.1,x2.2.2.1,aa.mk 0 0 false [],aa.mk 0 0 false [],x2.2.2.2.1,()))else some ((v.1,false,x2.1,!x1.1.toList==(Vp #[117,110,115,105,103,110,101,100]).toList,x2.1.toList==(Vp #[101,110,117,109]).toList,x2.2.1,x2.2.2.1,aa.mk 0 0 false [],aa.mk 0 0 false [],x2.2.2.2.1,())))>>=λx3=>if x3.2.2.2.2.1=true then some ((x3.1,x3.2.1,x3.2.2.1,x3.2.2.2.1,x3.2.2.2.2.2.1,true,x3.2.2.2.2.2.2.2.1,x3.2.2.2.2.2.2.2.2.1,x3.2.2.2.2.2.2.2.2.2.1,()))else some ((x3.1,x3.2.1,x3.2.2.1,x3.2.2.2.1,x3.2.2.2.2.2.1,x3.2.2.2.2.2.2.1,x3.2.2.2.2.2.2.2.1,x3.2.2.2.2.2.2.2.2.1,x3.2.2.2.2.2.2.2.2.2.1,()))else none else some ((v.1,false,x1.1,!x1.1.toList==(Vp #[117,110,115,105,103,110,101,100]).toList,x1.2.1,x1.2.2.1,aa.mk 0 0 false [],aa.mk 0 0 false [],x1.2.2.2.1,())))>>=λx2=>(if(x2.2.2.1.toList==(Vp #[99,104,97,114]).toList)=true then some ((x2.1,x2.2.1,x2.2.2.2.2.1,x2.2.2.2.2.2.1,x2.2.2.2.2.2.2.1,aa.mk 2 8 x2.2.2.2.1 [],x2.2.2.2.2.2.2.2.2.1,()))else if(x2.2.2.1.toList==(Vp #[115,104,111,114,116]).toList)=true then some ((x2.1,x2.2.1,x2.2.2.2.2.1,x2.2.2.2.2.2.1,x2.2.2.2.2.2.2.1,aa.mk 2 16 x2.2.2.2.1 [],x2.2.2.2.2.2.2.2.2.1,()))else if(x2.2.2.1.toList==(Vp #[105,110,116]).toList)=true then some ((x2.1,x2.2.1,x2.2.2.2.2.1,x2.2.2.2.2.2.1,x2.2.2.2.2.2.2.1,aa.mk 2 32 x2.2.2.2.1 [],x2.2.2.2.2.2.2.2.2.1,()))else if(x2.2.2.1.toList==(Vp #[108,111,110,103]).toList)=true then some ((x2.1,x2.2.1,x2.2.2.2.2.1,x2.2.2.2.2.2.1,x2.2.2.2.2.2.2.1,aa.mk 3 0 false [],x2.2.2.2.2.2.2.2.2.1,()))else if(x2.2.2.1.toList==(Vp #[118,111,105,100]).toList)=true then some ((x2.1,true,x2.2.2.2.2.1,x2.2.2.2.2.2.1,x2.2.2.2.2.2.2.1,x2.2.2.2.2.2.2.2.1,x2.2.2.2.2.2.2.2.2.1,()))else if(x2.2.2.1.toList==(Vp #[115,116,114,117,99,116]).toList)=true then(Mv 2 (bm (x2.2.2.2.2.1,x2.2.2.2.2.2.1,x2.2.2.2.2.2.2.2.2.1,())>>=λx3=>if x3.2.2.2.1.length=x2.2.2.2.2.2.2.2.2.1.length then en ((2:Int),x3.1,x3.2.2.2.1,())>>=λx4=>if x4.2.1.length=x3.2.2.2.1.length then some ((x2.1,x2.2.1,x4.1,x3.2.1,x3.2.2.1,x2.2.2.2.2.2.2.1,x2.2.2.2.2.2.2.2.1,x4.2.2.1,x4.2.1,()))else none else none))>>=λx3=>(if x3.2.2.2.2.1=true then some ((x3.1,x3.2.1,x3.2.2.2.1,true,x3.2.2.2.2.2.1,x3.2.2.2.2.2.2.1,x3.2.2.2.2.2.2.2.1,x3.2.2.2.2.2.2.2.2.1,()))else some ((x3.1,x3.2.1,x3.2.2.2.1,!x3.2.2.1,x3.2.2.2.2.2.1,x3.2.2.2.2.2.2.1,x3.2.2.2.2.2.2.2.1,x3.2.2.2.2.2.2.2.2.1,())))>>=λx4=>some ((x4.1,x4.2.1,x4.2.2.1,x4.2.2.2.1,x4.2.2.2.2.1,aa.mk x4.2.2.2.2.2.2.1.layout.kind x4.2.2.2.2.2.2.1.layout.n x4.2.2.2.2.2.2.1.layout.flag x4.2.2.2.2.2.2.1.layout.parts,x4.2.2.2.2.2.2.2.1,()))else if(x2.2.2.1.toList==(Vp #[101,110,117,109]).toList)=true then(Mv 2 (bm (x2.2.2.2.2.1,x2.2.2.2.2.2.1,x2.2.2.2.2.2.2.2.2.1,())>>=λx3=>if x3.2.2.2.1.length=x2.2.2.2.2.2.2.2.2.1.length then en ((1:Int),x3.1,x3.2.2.2.1,())>>=λx4=>if x4.2.1.length=x3.2.2.2.1.length then some ((x2.1,x2.2.1,x4.1,x3.2.1,x3.2.2.1,x2.2.2.2.2.2.2.1,x2.2.2.2.2.2.2.2.1,x4.2.1,()))else none else none))>>=λx3=>(if x3.2.2.2.2.1=true then some ((x3.1,x3.2.1,x3.2.2.2.1,true,x3.2.2.2.2.2.1,x3.2.2.2.2.2.2.1,x3.2.2.2.2.2.2.2.1,()))else some ((x3.1,x3.2.1,x3.2.2.2.1,!x3.2.2.1,x3.2.2.2.2.2.1,x3.2.2.2.2.2.2.1,x3.2.2.2.2.2.2.2.1,())))>>=λx4=>some ((x4.1,x4.2.1,x4.2.2.1,x4.2.2.2.1,x4.2.2.2.2.1,aa.mk 2 32 true [],x4.2.2.2.2.2.2.1,()))else some ((x2.1,x2.2.1,x2.2.2.2.2.1,true,x2.2.2.2.2.2.2.1,x2.2.2.2.2.2.2.2.1,x2.2.2.2.2.2.2.2.2.1,())))>>=λx3=>bF (x3.1,x3.2.1,x3.2.2.1,x3.2.2.2.1,x3.2.2.2.2.1,x3.2.2.2.2.2.1,x3.2.2.2.2.2.2.1,())>>=λx4=>(if x4.2.2.2.1=true then some ((x4.2.2.1,true,x4.2.2.2.2.1,x4.2.2.2.2.2.1,x4.2.2.2.2.2.2.1,()))else if x4.2.1=true then some ((x4.2.2.1,!x4.1,x4.2.2.2.2.1,x4.2.2.2.2.2.1,x4.2.2.2.2.2.2.1,()))else some ((x4.2.2.1,false,x4.2.2.2.2.1,x4.2.2.2.2.2.1,x4.2.2.2.2.2.2.1,())))>>=λx5=>some ((x5.1,x5.2.1,x5.2.2.2.2.1,x5.2.2.2.1,()))else none
def n6:al vw:=cO prog 48 nG en (cO prog 131 eH bm (cO prog 132 eI bV (cO prog 138 dV bG c0)))
def yI:Xc vw:={P:=prog,n:=126,call:=n6,pre:=aP,sh:=ue,joins:=λk=>match k with|9=>some (zg,[.norm])|29=>some (eY,[.norm])|_=>none,regs:=λk=>match k with|7=>some zh|22=>some v7|23=>some v8|26=>some v_|27=>some eY|32=>some wa|_=>none,loops:=λk=>match k with|29=>some {cut:=eY,alts:=[.exit 1],F:=bF}|_=>none,pair:=λk=>match k with|22=>(.node 3 4 .leaf (.node 4 5 .leaf .leaf))|26=>(.node 3 4 .leaf (.node 4 5 .leaf .leaf))|_=> .leaf}
theorem jp:af prog n6:=aN oA (aN eg (aN eh (aN dC aJ)))
theorem oV(C:Ctx)(hP:C.P=prog)(hN:C.N=126/\Fx C aP):aD C (aj (ah Tryz.f137) 0) (sh:=ue) {cut:=eY,alts:=[.exit 1],F:=bF}:=
 lpB (X:=yI) bF.partial_correctness hP hN Ty.mixed jp (bL (by kernel_rfl)) λF v=>by kernel_rfl
theorem mF:aA prog 137 lX cE:=fnA yI Tryz.func137 (by kernel_rfl) Ty.mixed jp rfl rfl rfl (λv=>by kernel_rfl) λC hP hN=>gq (by kernel_rfl) (by kernel_rfl) (oV C hP hN)
def vX:Cut SN:=⟨[(0, .bp 100000 0),(2, .bp 2 0),(3, .bp 3 0),(4, .bp 4 0)],[(100000, .box none [.dat (.sl .str), .vh 100001, .dat .bool]),(2, .st .itemT),(3, .box none [.dat (.int .i64), .dat .str, .dat (.int .i64), .vh 3033, .dat (.int .i64), .dat (.int .i64), .dat .bool, .vh 3037]),(4, .st .layoutT),(100001, .vec 44 (.st .itemT)),(3033, .vec 9 .str),(3037, .vec 42 (.st .layoutT))]⟩
def yZ:Cut SN:=⟨[(0, .bp 100000 0),(2, .bp 2 0),(3, .bp 3 0),(29, .dat .bool)],[(100000, .box none [.dat (.sl .str), .vh 100001, .dat .bool]),(2, .st .itemT),(3, .box none [.dat (.int .i64), .dat .str, .dat (.int .i64), .vh 3033, .dat (.int .i64), .dat (.int .i64), .dat .bool, .vh 3037]),(100001, .vec 44 (.st .itemT)),(3033, .vec 9 .str),(3037, .vec 42 (.st .layoutT))]⟩
def y5:Cut SN:=⟨[(0, .bp 100000 0),(2, .bp 2 0),(3, .bp 3 0),(4, .bp 4 0),(5, .dat (.int .i64))],[(100000, .box none [.dat (.sl .str), .vh 100001, .dat .bool]),(2, .st .itemT),(3, .box none [.dat (.int .i64), .dat .str, .dat (.int .i64), .vh 3033, .dat (.int .i64), .dat (.int .i64), .dat .bool, .vh 3037]),(4, .st .layoutT),(100001, .vec 44 (.st .itemT)),(3033, .vec 9 .str),(3037, .vec 42 (.st .layoutT))]⟩
def t_:az vw:={exits:=λid=>match id with|0=>dl|_=>⟨[],[]⟩,rcut:=dW}
def rc:Nat->Bool:=λk=>match k with|135=>true|_=>false
def rv:Sig vw:={params:=[.bp 100000 0],objs:=[(100000, .box none [.dat (.sl .str), .vh 100001, .dat .bool]),(100001, .vec 44 (.st .itemT))],rcut:=dW,rvars:=[.cell 2 44],keep:=[100000,100001]}
noncomputable def aX(v:(List ByteArray)×Bool×Item×Int×ByteArray×Int×Int×Int×Bool×(List Item)×(List ByteArray)×(List aa)×Unit):Option (((List ByteArray)×Bool×Item×Int×ByteArray×Int×Int×Int×Bool×(List Item)×(List ByteArray)×(List aa)×Unit)):=(if(!v.2.1)=true then if((↑v.2.2.2.2.2.2.2.2.2.2.1.length:Int)==0)=true then some ((true,v.1,v.2.1,v.2.2.1,v.2.2.2.1,v.2.2.2.2.1,v.2.2.2.2.2.1,v.2.2.2.2.2.2.1,v.2.2.2.2.2.2.2.1,v.2.2.2.2.2.2.2.2.1,v.2.2.2.2.2.2.2.2.2.1,v.2.2.2.2.2.2.2.2.2.2.1,v.2.2.2.2.2.2.2.2.2.2.2.1,()))else db (v.1,v.2.1,v.2.2.2.2.2.2.2.2.2.1,())>>=λx1=>if x1.2.2.2.1.length=v.2.2.2.2.2.2.2.2.2.1.length then some ((!x1.1.toList==(Vp #[125]).toList,x1.2.1,x1.2.2.1,v.2.2.1,v.2.2.2.1,v.2.2.2.2.1,v.2.2.2.2.2.1,v.2.2.2.2.2.2.1,v.2.2.2.2.2.2.2.1,v.2.2.2.2.2.2.2.2.1,x1.2.2.2.1,v.2.2.2.2.2.2.2.2.2.2.1,v.2.2.2.2.2.2.2.2.2.2.2.1,()))else none else some ((false,v.1,v.2.1,v.2.2.1,v.2.2.2.1,v.2.2.2.2.1,v.2.2.2.2.2.1,v.2.2.2.2.2.2.1,v.2.2.2.2.2.2.2.1,v.2.2.2.2.2.2.2.2.1,v.2.2.2.2.2.2.2.2.2.1,v.2.2.2.2.2.2.2.2.2.2.1,v.2.2.2.2.2.2.2.2.2.2.2.1,())))>>=λx1=>if x1.1=true then cE (false,x1.2.1,x1.2.2.1,x1.2.2.2.2.2.2.2.2.2.2.1,())>>=λx2=>if x2.2.2.1.length=x1.2.2.2.2.2.2.2.2.2.2.1.length then bm (x2.1,x2.2.1,x2.2.2.1,())>>=λx3=>if x3.2.2.2.1.length=x2.2.2.1.length then if x1.2.2.2.2.2.2.2.2.2.2.2.1.length+[x3.1].length<=4294967296 then(bV (Vp #[91],x3.2.1,x3.2.2.1,x3.2.2.2.1,())>>=λx4=>if x4.2.2.2.1.length=x3.2.2.2.1.length then if x4.1=true then eE (x4.2.1,x4.2.2.1,x4.2.2.2.1,())>>=λx5=>if x5.2.2.2.1.length=x4.2.2.2.1.length then(if x5.2.2.1=true then some ((x5.1,x5.2.1,true,x1.2.2.2.1,x1.2.2.2.2.1,x1.2.2.2.2.2.1,x1.2.2.2.2.2.2.1,x1.2.2.2.2.2.2.2.1,x1.2.2.2.2.2.2.2.2.1,x1.2.2.2.2.2.2.2.2.2.1,x2.2.2.2.1,x5.2.2.2.1,x1.2.2.2.2.2.2.2.2.2.2.2.1++[x3.1],x1.2.2.2.2.2.2.2.2.2.2.2.2.1,()))else if decide (x5.1<1)=true then some ((x5.1,x5.2.1,true,x1.2.2.2.1,x1.2.2.2.2.1,x1.2.2.2.2.2.1,x1.2.2.2.2.2.2.1,x1.2.2.2.2.2.2.2.1,x1.2.2.2.2.2.2.2.2.1,x1.2.2.2.2.2.2.2.2.2.1,x2.2.2.2.1,x5.2.2.2.1,x1.2.2.2.2.2.2.2.2.2.2.2.1++[x3.1],x1.2.2.2.2.2.2.2.2.2.2.2.2.1,()))else some ((x5.1,x5.2.1,decide (x5.1>1000),x1.2.2.2.1,x1.2.2.2.2.1,x1.2.2.2.2.2.1,x1.2.2.2.2.2.2.1,x1.2.2.2.2.2.2.2.1,x1.2.2.2.2.2.2.2.2.1,x1.2.2.2.2.2.2.2.2.2.1,x2.2.2.2.1,x5.2.2.2.1,x1.2.2.2.2.2.2.2.2.2.2.2.1++[x3.1],x1.2.2.2.2.2.2.2.2.2.2.2.2.1,())))>>=λx6=>aM (Vp #[93],x6.2.1,x6.2.2.1,x6.2.2.2.2.2.2.2.2.2.2.2.1,())>>=λx7=>if x7.2.2.1.length=x6.2.2.2.2.2.2.2.2.2.2.2.1.length then some ((x7.1,x7.2.1,x6.2.2.2.1,x6.2.2.2.2.1,x6.2.2.2.2.2.1,x6.2.2.2.2.2.2.1,x6.2.2.2.2.2.2.2.1,x6.2.2.2.2.2.2.2.2.1,x6.2.2.2.2.2.2.2.2.2.1,aa.mk 5 x6.1 false [x6.2.2.2.2.2.2.2.2.2.2.1],x7.2.2.1,x6.2.2.2.2.2.2.2.2.2.2.2.2.1,x6.2.2.2.2.2.2.2.2.2.2.2.2.2.1,()))else none else none else some ((x4.2.1,x4.2.2.1,x1.2.2.2.1,x1.2.2.2.2.1,x1.2.2.2.2.2.1,x1.2.2.2.2.2.2.1,x1.2.2.2.2.2.2.2.1,x1.2.2.2.2.2.2.2.2.1,x1.2.2.2.2.2.2.2.2.2.1,x2.2.2.2.1,x4.2.2.2.1,x1.2.2.2.2.2.2.2.2.2.2.2.1++[x3.1],x1.2.2.2.2.2.2.2.2.2.2.2.2.1,()))else none)>>=λx4=>aM (Vp #[59],x4.1,x4.2.1,x4.2.2.2.2.2.2.2.2.2.2.1,())>>=λx5=>if x5.2.2.1.length=x4.2.2.2.2.2.2.2.2.2.2.1.length then if x4.2.2.2.2.2.2.2.2.2.2.2.2.1.length+[x4.2.2.2.2.2.2.2.2.2.1].length<=4294967296 then aX (x5.1,x5.2.1,x4.2.2.1,x4.2.2.2.1,x4.2.2.2.2.1,x4.2.2.2.2.2.1,x4.2.2.2.2.2.2.1,x4.2.2.2.2.2.2.2.1,x4.2.2.2.2.2.2.2.2.1,x5.2.2.1,x4.2.2.2.2.2.2.2.2.2.2.2.1,x4.2.2.2.2.2.2.2.2.2.2.2.2.1++[x4.2.2.2.2.2.2.2.2.2.1],())else none else none else none else none else none else some ((x1.2.1,x1.2.2.1,x1.2.2.2.1,x1.2.2.2.2.1,x1.2.2.2.2.2.1,x1.2.2.2.2.2.2.1,x1.2.2.2.2.2.2.2.1,x1.2.2.2.2.2.2.2.2.1,x1.2.2.2.2.2.2.2.2.2.1,x1.2.2.2.2.2.2.2.2.2.2.1,x1.2.2.2.2.2.2.2.2.2.2.2.1,x1.2.2.2.2.2.2.2.2.2.2.2.2.1,())) partial_fixpoint
noncomputable def fK(v:(List ByteArray)×Bool×(List Item)×Unit):Option ((List ByteArray)×Bool×(List Item)×Item×Unit):=aM (Vp #[115,116,114,117,99,116],v.1,v.2.1,v.2.2.1,())>>=λx1=>if x1.2.2.1.length=v.2.2.1.length then(bm (x1.1,x1.2.1,x1.2.2.1,())>>=λx2=>if x2.2.2.2.1.length=x1.2.2.1.length then some ((x2.2.1,x2.2.2.1,Item.mk 0 (Vp #[]) (0:Int) [] (aa.mk 0 0 false []),(2:Int),x2.1,(0:Int),(6:Int),(0:Int),false,x2.2.2.2.1,[],[],()))else none)>>=λx2=>aM (Vp #[123],x2.1,x2.2.1,x2.2.2.2.2.2.2.2.2.2.1,())>>=λx3=>if x3.2.2.1.length=x2.2.2.2.2.2.2.2.2.2.1.length then aX (x3.1,x3.2.1,x2.2.2.1,x2.2.2.2.1,x2.2.2.2.2.1,x2.2.2.2.2.2.1,x2.2.2.2.2.2.2.1,x2.2.2.2.2.2.2.2.1,x2.2.2.2.2.2.2.2.2.1,x3.2.2.1,x2.2.2.2.2.2.2.2.2.2.2.1,x2.2.2.2.2.2.2.2.2.2.2.2.1,())>>=λx4=>aM (Vp #[125],x4.1,x4.2.1,x4.2.2.2.2.2.2.2.2.2.1,())>>=λx5=>if x5.2.2.1.length=x4.2.2.2.2.2.2.2.2.2.1.length then aM (Vp #[59],x5.1,x5.2.1,x5.2.2.1,())>>=λx6=>if x6.2.2.1.length=x5.2.2.1.length then dB (x4.2.2.2.2.2.2.2.2.2.2.1,x6.1,x6.2.1,x6.2.2.1,())>>=λx7=>if x7.2.2.1.length=x6.2.2.1.length then some ((x7.1,x7.2.1,x7.2.2.1,Item.mk x4.2.2.2.1 x4.2.2.2.2.1 x4.2.2.2.2.2.1 x4.2.2.2.2.2.2.2.2.2.2.1 (aa.mk x4.2.2.2.2.2.2.1 x4.2.2.2.2.2.2.2.1 x4.2.2.2.2.2.2.2.2.1 x4.2.2.2.2.2.2.2.2.2.2.2.1),()))else none else none else none else none else none
def nP:al vw:=cO prog 130 gj aM (cO prog 131 eH bm (cO prog 132 eI bV (cO prog 133 lW eE (cO prog 135 iV dB (cO prog 136 iW db (cO prog 137 lX cE c0))))))
def yD:Xc vw:={P:=prog,n:=83,nm:=λd=>match d with|10=>40010|11=>40011|_=>d,call:=nP,pre:=rc,sh:=t_,joins:=λk=>match k with|12=>some (vX,[.norm])|_=>none,regs:=λk=>match k with|2=>some dl|4=>some yZ|9=>some y5|_=>none,loops:=λk=>match k with|4=>some {cut:=dl,alts:=[.exit 0],F:=aX}|_=>none}
theorem jk:af prog nP:=aN fA (aN eg (aN eh (aN mE (aN iJ (aN iK (aN mF aJ))))))
theorem qE(C:Ctx)(hP:C.P=prog)(hN:C.N=83/\Fx C rc):aD C (aj (ah Tryz.f103) 0) (sh:=t_) {cut:=dl,alts:=[.exit 0],F:=aX}:=
 lpB (X:=yD) aX.partial_correctness hP hN Ty.mixed jk (bL (by kernel_rfl)) λF v=>by kernel_rfl
theorem uY:aA prog 103 rv fK:=fnA yD Tryz.func103 (by kernel_rfl) Ty.mixed jk rfl rfl rfl (λv=>by kernel_rfl) λC hP hN=>gq (by kernel_rfl) (by kernel_rfl) (qE C hP hN)
def pA:Cut SN:=⟨[(0, .bp 100000 0),(2, .bp 2 0),(3, .bp 3 0),(4, .bp 4 0),(5, .dat .bool)],[(100000, .box none [.dat (.sl .str), .vh 100001, .dat .bool]),(2, .st .itemT),(3, .st .layoutT),(4, .box none [.dat (.int .i64), .dat .str, .dat (.int .i64), .vh 3043, .dat (.int .i64), .dat (.int .i64), .dat .bool, .vh 3047]),(100001, .vec 44 (.st .itemT)),(3043, .vec 9 .str),(3047, .vec 42 (.st .layoutT))]⟩
def jj:Cut SN:=⟨[(0, .bp 100000 0),(2, .bp 2 0),(3, .bp 3 0),(4, .bp 4 0)],[(100000, .box none [.dat (.sl .str), .vh 100001, .dat .bool]),(2, .st .itemT),(3, .st .layoutT),(4, .box none [.dat (.int .i64), .dat .str, .dat (.int .i64), .vh 3043, .dat (.int .i64), .dat (.int .i64), .dat .bool, .vh 3047]),(100001, .vec 44 (.st .itemT)),(3043, .vec 9 .str),(3047, .vec 42 (.st .layoutT))]⟩
def y6:Cut SN:=⟨[(0, .bp 100000 0),(2, .bp 2 0),(3, .bp 3 0),(4, .bp 4 0),(37, .dat .bool)],[(100000, .box none [.dat (.sl .str), .vh 100001, .dat .bool]),(2, .st .itemT),(3, .st .layoutT),(4, .box none [.dat (.int .i64), .dat .str, .dat (.int .i64), .vh 3043, .dat (.int .i64), .dat (.int .i64), .dat .bool, .vh 3047]),(100001, .vec 44 (.st .itemT)),(3043, .vec 9 .str),(3047, .vec 42 (.st .layoutT))]⟩
def y7:Cut SN:=⟨[(0, .bp 100000 0),(2, .bp 2 0),(3, .bp 3 0),(4, .bp 4 0),(47, .dat .bool)],[(100000, .box none [.dat (.sl .str), .vh 100001, .dat .bool]),(2, .st .itemT),(3, .st .layoutT),(4, .box none [.dat (.int .i64), .dat .str, .dat (.int .i64), .vh 3043, .dat (.int .i64), .dat (.int .i64), .dat .bool, .vh 3047]),(100001, .vec 44 (.st .itemT)),(3043, .vec 9 .str),(3047, .vec 42 (.st .layoutT))]⟩
def ua:az vw:={exits:=λid=>match id with|0=>jj|_=>⟨[],[]⟩,rcut:=dW}
def re:Nat->Bool:=λk=>match k with|135=>true|_=>false
def rx:Sig vw:={params:=[.bp 100000 0],objs:=[(100000, .box none [.dat (.sl .str), .vh 100001, .dat .bool]),(100001, .vec 44 (.st .itemT))],rcut:=dW,rvars:=[.cell 2 44],keep:=[100000,100001]}
noncomputable def bJ(v:Bool×(List ByteArray)×Bool×Item×aa×Int×ByteArray×Int×Int×Int×Bool×(List Item)×(List ByteArray)×(List aa)×Unit):Option (((List ByteArray)×Bool×Item×aa×Int×ByteArray×Int×Int×Int×Bool×(List Item)×(List ByteArray)×(List aa)×Unit)):=(if v.1=true then some ((!v.2.2.1,v.2.1,v.2.2.1,v.2.2.2.1,v.2.2.2.2.1,v.2.2.2.2.2.1,v.2.2.2.2.2.2.1,v.2.2.2.2.2.2.2.1,v.2.2.2.2.2.2.2.2.1,v.2.2.2.2.2.2.2.2.2.1,v.2.2.2.2.2.2.2.2.2.2.1,v.2.2.2.2.2.2.2.2.2.2.2.1,v.2.2.2.2.2.2.2.2.2.2.2.2.1,v.2.2.2.2.2.2.2.2.2.2.2.2.2.1,()))else some ((false,v.2.1,v.2.2.1,v.2.2.2.1,v.2.2.2.2.1,v.2.2.2.2.2.1,v.2.2.2.2.2.2.1,v.2.2.2.2.2.2.2.1,v.2.2.2.2.2.2.2.2.1,v.2.2.2.2.2.2.2.2.2.1,v.2.2.2.2.2.2.2.2.2.2.1,v.2.2.2.2.2.2.2.2.2.2.2.1,v.2.2.2.2.2.2.2.2.2.2.2.2.1,v.2.2.2.2.2.2.2.2.2.2.2.2.2.1,())))>>=λx1=>if x1.1=true then cE (false,x1.2.1,x1.2.2.1,x1.2.2.2.2.2.2.2.2.2.2.2.1,())>>=λx2=>if x2.2.2.1.length=x1.2.2.2.2.2.2.2.2.2.2.2.1.length then if x1.2.2.2.2.2.2.2.2.2.2.2.2.2.1.length+[x2.2.2.2.1].length<=4294967296 then bm (x2.1,x2.2.1,x2.2.2.1,())>>=λx3=>if x3.2.2.2.1.length=x2.2.2.1.length then if x1.2.2.2.2.2.2.2.2.2.2.2.2.1.length+[x3.1].length<=4294967296 then bV (Vp #[44],x3.2.1,x3.2.2.1,x3.2.2.2.1,())>>=λx4=>if x4.2.2.2.1.length=x3.2.2.2.1.length then bJ (x4.1,x4.2.1,x4.2.2.1,x1.2.2.2.1,x1.2.2.2.2.1,x1.2.2.2.2.2.1,x1.2.2.2.2.2.2.1,x1.2.2.2.2.2.2.2.1,x1.2.2.2.2.2.2.2.2.1,x1.2.2.2.2.2.2.2.2.2.1,x1.2.2.2.2.2.2.2.2.2.2.1,x4.2.2.2.1,x1.2.2.2.2.2.2.2.2.2.2.2.2.1++[x3.1],x1.2.2.2.2.2.2.2.2.2.2.2.2.2.1++[x2.2.2.2.1],())else none else none else none else none else none else some ((x1.2.1,x1.2.2.1,x1.2.2.2.1,x1.2.2.2.2.1,x1.2.2.2.2.2.1,x1.2.2.2.2.2.2.1,x1.2.2.2.2.2.2.2.1,x1.2.2.2.2.2.2.2.2.1,x1.2.2.2.2.2.2.2.2.2.1,x1.2.2.2.2.2.2.2.2.2.2.1,x1.2.2.2.2.2.2.2.2.2.2.2.1,x1.2.2.2.2.2.2.2.2.2.2.2.2.1,x1.2.2.2.2.2.2.2.2.2.2.2.2.2.1,())) partial_fixpoint
noncomputable def d6(v:(List ByteArray)×Bool×(List Item)×Unit):Option ((List ByteArray)×Bool×(List Item)×Item×Unit):=cE (true,v.1,v.2.1,v.2.2.1,())>>=λx1=>if x1.2.2.1.length=v.2.2.1.length then(bm (x1.1,x1.2.1,x1.2.2.1,())>>=λx2=>if x2.2.2.2.1.length=x1.2.2.1.length then some ((x2.2.1,x2.2.2.1,Item.mk 0 (Vp #[]) (0:Int) [] (aa.mk 0 0 false []),x1.2.2.2.1,(3:Int),x2.1,(0:Int),(6:Int),(0:Int),false,x2.2.2.2.1,[],[],()))else none)>>=λx2=>aM (Vp #[40],x2.1,x2.2.1,x2.2.2.2.2.2.2.2.2.2.2.1,())>>=λx3=>if x3.2.2.1.length=x2.2.2.2.2.2.2.2.2.2.2.1.length then((if decide ((↑x3.1.length:Int)>1)=true then x3.1[Wq 0]?>>=λx4=>if(x4.toList==(Vp #[118,111,105,100]).toList)=true then x3.1[Wq 1]?>>=λx5=>some ((x5.toList==(Vp #[41]).toList,x3.1,x3.2.1,x2.2.2.1,x2.2.2.2.1,x2.2.2.2.2.1,x2.2.2.2.2.2.1,x2.2.2.2.2.2.2.1,x2.2.2.2.2.2.2.2.1,x2.2.2.2.2.2.2.2.2.1,x2.2.2.2.2.2.2.2.2.2.1,x3.2.2.1,x2.2.2.2.2.2.2.2.2.2.2.2.1,x2.2.2.2.2.2.2.2.2.2.2.2.2.1,()))else some ((false,x3.1,x3.2.1,x2.2.2.1,x2.2.2.2.1,x2.2.2.2.2.1,x2.2.2.2.2.2.1,x2.2.2.2.2.2.2.1,x2.2.2.2.2.2.2.2.1,x2.2.2.2.2.2.2.2.2.1,x2.2.2.2.2.2.2.2.2.2.1,x3.2.2.1,x2.2.2.2.2.2.2.2.2.2.2.2.1,x2.2.2.2.2.2.2.2.2.2.2.2.2.1,()))else some ((false,x3.1,x3.2.1,x2.2.2.1,x2.2.2.2.1,x2.2.2.2.2.1,x2.2.2.2.2.2.1,x2.2.2.2.2.2.2.1,x2.2.2.2.2.2.2.2.1,x2.2.2.2.2.2.2.2.2.1,x2.2.2.2.2.2.2.2.2.2.1,x3.2.2.1,x2.2.2.2.2.2.2.2.2.2.2.2.1,x2.2.2.2.2.2.2.2.2.2.2.2.2.1,())))>>=λx4=>if x4.1=true then bG (x4.2.1,x4.2.2.1,x4.2.2.2.2.2.2.2.2.2.2.2.1,())>>=λx5=>if x5.2.2.2.1.length=x4.2.2.2.2.2.2.2.2.2.2.2.1.length then some ((x5.2.1,x5.2.2.1,x4.2.2.2.1,x4.2.2.2.2.1,x4.2.2.2.2.2.1,x4.2.2.2.2.2.2.1,x4.2.2.2.2.2.2.2.1,x4.2.2.2.2.2.2.2.2.1,x4.2.2.2.2.2.2.2.2.2.1,x4.2.2.2.2.2.2.2.2.2.2.1,x5.2.2.2.1,x4.2.2.2.2.2.2.2.2.2.2.2.2.1,x4.2.2.2.2.2.2.2.2.2.2.2.2.2.1,()))else none else bJ (true,x4.2.1,x4.2.2.1,x4.2.2.2.1,x4.2.2.2.2.1,x4.2.2.2.2.2.1,x4.2.2.2.2.2.2.1,x4.2.2.2.2.2.2.2.1,x4.2.2.2.2.2.2.2.2.1,x4.2.2.2.2.2.2.2.2.2.1,x4.2.2.2.2.2.2.2.2.2.2.1,x4.2.2.2.2.2.2.2.2.2.2.2.1,x4.2.2.2.2.2.2.2.2.2.2.2.2.1,x4.2.2.2.2.2.2.2.2.2.2.2.2.2.1,())>>=λx5=>some ((x5.1,x5.2.1,x5.2.2.1,x5.2.2.2.1,x5.2.2.2.2.1,x5.2.2.2.2.2.1,x5.2.2.2.2.2.2.1,x5.2.2.2.2.2.2.2.1,x5.2.2.2.2.2.2.2.2.1,x5.2.2.2.2.2.2.2.2.2.1,x5.2.2.2.2.2.2.2.2.2.2.1,x5.2.2.2.2.2.2.2.2.2.2.2.1,x5.2.2.2.2.2.2.2.2.2.2.2.2.1,())))>>=λx4=>aM (Vp #[41],x4.1,x4.2.1,x4.2.2.2.2.2.2.2.2.2.2.1,())>>=λx5=>if x5.2.2.1.length=x4.2.2.2.2.2.2.2.2.2.2.1.length then aM (Vp #[59],x5.1,x5.2.1,x5.2.2.1,())>>=λx6=>if x6.2.2.1.length=x5.2.2.1.length then dB (x4.2.2.2.2.2.2.2.2.2.2.2.1,x6.1,x6.2.1,x6.2.2.1,())>>=λx7=>if x7.2.2.1.length=x6.2.2.1.length then if x4.2.2.2.2.2.2.2.2.2.2.2.2.1.length+[x4.2.2.2.1].length<=4294967296 then some ((x7.1,x7.2.1,x7.2.2.1,Item.mk x4.2.2.2.2.1 x4.2.2.2.2.2.1 x4.2.2.2.2.2.2.1 x4.2.2.2.2.2.2.2.2.2.2.2.1 (aa.mk x4.2.2.2.2.2.2.2.1 x4.2.2.2.2.2.2.2.2.1 x4.2.2.2.2.2.2.2.2.2.1 (x4.2.2.2.2.2.2.2.2.2.2.2.2.1++[x4.2.2.2.1])),()))else none else none else none else none else none else none
def nQ:al vw:=cO prog 130 gj aM (cO prog 131 eH bm (cO prog 132 eI bV (cO prog 135 iV dB (cO prog 137 lX cE (cO prog 138 dV bG c0)))))
def yE:Xc vw:={P:=prog,n:=83,nm:=λd=>match d with|10=>40010|11=>40011|_=>d,call:=nQ,pre:=re,sh:=ua,joins:=λk=>match k with|11=>some (jj,[.norm])|_=>none,regs:=λk=>match k with|2=>some jj|4=>some y6|7=>some y7|_=>none,loops:=λk=>match k with|7=>some {cut:=pA,alts:=[.exit 0],F:=bJ}|_=>none}
theorem jl:af prog nQ:=aN fA (aN eg (aN eh (aN iJ (aN mF (aN dC aJ)))))
theorem qF(C:Ctx)(hP:C.P=prog)(hN:C.N=83/\Fx C re):aD C (aj (ah Tryz.f104) 0) (sh:=ua) {cut:=pA,alts:=[.exit 0],F:=bJ}:=
 lpB (X:=yE) bJ.partial_correctness hP hN Ty.mixed jl (bL (by kernel_rfl)) λF v=>by kernel_rfl
theorem uZ:aA prog 104 rx d6:=fnA yE Tryz.func104 (by kernel_rfl) Ty.mixed jl rfl rfl rfl (λv=>by kernel_rfl) λC hP hN=>gq (by kernel_rfl) (by kernel_rfl) (qF C hP hN)
def Sg:az vw:={rcut:=bW}
def LL:Sig vw:={params:=[.dat (.st .layoutT)],rcut:=bW,rvars:=[.tmp 2]}
noncomputable def Gm(v:aa×Unit):Option (Int×Unit):=if(v.1.kind==1)=true then some (((1:Int),()))else if(v.1.kind==2)=true then some ((max v.1.n (0:Int),()))else some (((0:Int),()))
def EG:al vw:=c0
def Va:Xc vw:={P:=prog,n:=12,call:=EG,pre:=aP,sh:=Sg}
theorem Ct:af prog EG:=aJ
theorem Js:aA prog 143 LL Gm:=fnA Va Tryz.func143 (by kernel_rfl) Ty.mixed Ct rfl rfl rfl (λv=>by kernel_rfl) λC hP hN=>bL (by kernel_rfl)
def i7:Cut SN:=⟨[(1, .bp 1 0),(3, .dat (.int .i64)),(4, .dat (.int .i64))],[(1, .st .layoutT)]⟩
def Qc:az vw:={exits:=λid=>match id with|0=>s6|_=>⟨[],[]⟩,rcut:=bW}
def LC:Sig vw:={params:=[.dat (.st .layoutT)],rcut:=bW,rvars:=[.tmp 2]}
noncomputable def lN(v:Int×Int×aa×Unit):Option ((Int×Unit)):=if decide (v.2.1<(↑v.2.2.1.parts.length:Int))=true then if 0<=v.2.1 then v.2.2.1.parts[v.2.1.toNat]?>>=λx1=>Gm (x1,())>>=λx2=>lN (min (i64.wrap (v.1+min x2.1 (1000:Int))) (100000:Int),i64.wrap (v.2.1+1),v.2.2.1,())else none else some ((v.1,())) partial_fixpoint
noncomputable def Ga(v:aa×Unit):Option (Int×Unit):=lN ((0:Int),(0:Int),v.1,())>>=λx1=>some ((x1.1,()))
def Eu:al vw:=cP prog 143 LL Gm c0
def TN:Xc vw:={P:=prog,n:=23,call:=Eu,pre:=aP,sh:=Qc,loops:=λk=>match k with|3=>some {cut:=i7,alts:=[.exit 0],F:=lN}|_=>none}
theorem tC:af prog Eu:=aU Js rfl rfl aJ
theorem CZ(C:Ctx)(hP:C.P=prog)(hN:C.N=23/\Fx C aP):aD C (aj (ah Tryz.f109) 0) (sh:=Qc) {cut:=i7,alts:=[.exit 0],F:=lN}:=
 lpB (X:=TN) lN.partial_correctness hP hN Ty.mixed tC (bL (by kernel_rfl)) λF v=>by kernel_rfl
theorem Jh:aA prog 109 LC Ga:=fnA TN Tryz.func109 (by kernel_rfl) Ty.mixed tC rfl rfl rfl (λv=>by kernel_rfl) λC hP hN=>gq (by kernel_rfl) (by kernel_rfl) (CZ C hP hN)
def NL:az vw:={exits:=λid=>match id with|0=>s6|_=>⟨[],[]⟩,rcut:=bW}
def ia:Sig vw:={params:=[.dat (.st .layoutT)],rcut:=bW,rvars:=[.tmp 2]}
mutual
noncomputable def gb(v:Int×Int×aa×Unit):Option ((Int×Unit)):=if decide (v.2.1<(↑v.2.2.1.parts.length:Int))=true then if 0<=v.2.1 then v.2.2.1.parts[v.2.1.toNat]?>>=λx1=>n_139 (x1,())>>=λx2=>gb (max v.1 x2.1,i64.wrap (v.2.1+1),v.2.2.1,())else none else some ((v.1,())) partial_fixpoint
noncomputable def n_139(v:aa×Unit):Option (Int×Unit):=gb ((0:Int),(0:Int),v.1,())>>=λx1=>some ((i64.wrap (x1.1+1),())) partial_fixpoint
end
def zx(gb:Int×Int×aa×Unit->Option ((Int×Unit)))(n_139:aa×Unit->Option (Int×Unit)):al vw:=λA fid args S k=>match fid with|139=>aV prog ia n_139 A args S k|_=>none
def BO(gb:Int×Int×aa×Unit->Option ((Int×Unit)))(n_139:aa×Unit->Option (Int×Unit)):Xc vw:={P:=prog,n:=22,call:=zx gb n_139,pre:=aP,sh:=NL,loops:=λk=>match k with|3=>some {cut:=i7,alts:=[.exit 0],F:=gb}|_=>none}
abbrev iC(v:Int×Int×aa×Unit)(r:(Int×Unit)):Prop:=(λv out=>∀C:Ctx,C.P=prog->C.N=22/\Fx C aP->oP C (aj (ah Tryz.f139) 0) (Go.Tx.aI vw (bZ vw i7 v)) (vL NL [.exit 0] out)) v r
abbrev xl(v:aa×Unit)(r:Int×Unit):Prop:=(λv r=>∀x,rh prog ia r=some x->i6 prog 139 (encL vw (ay ia v).len (a_ ia v).1) (bB (ay ia v).len (ay ia v).own) (ao vw (bZ vw ia.rcut r).len x) (bB (bZ vw ia.rcut r).len (jx ia r))) v r
theorem IU(f0:Int×Int×aa×Unit->Option ((Int×Unit)))(f1:aa×Unit->Option (Int×Unit))(h0:∀v r,f0 v=some r->iC v r)(h1:∀v r,f1 v=some r->xl v r):af prog (BO f0 f1).call:=(by
 intro A fid args S dst k r h
 unfold BO zx at h
 simp only at h
 split at h
 ·exact ak ((λv r x h hx=>h1 v r h x hx)) rfl rfl h
 ·cases h)
theorem J4(f0:Int×Int×aa×Unit->Option ((Int×Unit)))(f1:aa×Unit->Option (Int×Unit))(h0:∀v r,f0 v=some r->iC v r)(h1:∀v r,f1 v=some r->xl v r)(v:Int×Int×aa×Unit)(r:(Int×Unit))(h:exL (BO f0 f1) (aj (ah Tryz.f139) 0) i7 [.exit 0] f0 v=some r):iC v r:=λC hP hN=>c8 (X:=BO f0 f1) (b:=(aj (ah Tryz.f139) 0)) hP hN Ty.mixed (IU f0 f1 h0 h1) (bo (X:=BO f0 f1) (c:=(aj (ah Tryz.f139) 0)) (bw (by kernel_rfl:True=fR (bt C (BO f0 f1)) (aR (aj (ah Tryz.f139) 0))) trivial)) (cut:=i7) (alts:=[.exit 0]) (F:=f0) (λv out h=>h0 v out h C hP hN) h
theorem Pd(f0:Int×Int×aa×Unit->Option ((Int×Unit)))(h0:∀v r,f0 v=some r->iC v r):af prog (BO f0 (λ_=>none)).call:=(by
 intro A fid args S dst k r h
 unfold BO zx at h
 simp only at h
 split at h
 ·exact ak ((λv r x h hx=>by cases h)) rfl rfl h
 ·cases h)
theorem QK(f0:Int×Int×aa×Unit->Option ((Int×Unit)))(h0:∀v r,f0 v=some r->iC v r)(v:aa×Unit)(r:Int×Unit)(h:exF (BO f0 (λ_=>none)) ia rfl (ah Tryz.f139) v=some r):xl v r:=λx hx=>mm (X:=BO f0 (λ_=>none)) (sig:=ia) rfl Tryz.func139 (c:=ah Tryz.f139) (by kernel_rfl) Tryz.ntmps139 (by kernel_rfl) (by kernel_rfl) rfl Ty.mixed (Pd f0 h0) rfl (λC hP hN=>(bo (X:=BO f0 (λ_=>none)) (c:=(ah Tryz.f139)) (bw (by kernel_rfl:fR (bt C (BO f0 (λ_=>none))) [(aj (ah Tryz.f139) 0)]=fR (bt C (BO f0 (λ_=>none))) (aR (ah Tryz.f139))) ⟨dS (X:=BO f0 (λ_=>none)) (b:=(aj (ah Tryz.f139) 0)) (by kernel_rfl) (show aD C (aj (ah Tryz.f139) 0) (sh:=NL) {cut:=i7,alts:=[.exit 0],F:=f0}fromλv out h=>h0 v out h C hP hN),trivial⟩))) h x hx
theorem Ae:(∀v r,gb v=some r->iC v r)/\(∀v r,n_139 v=some r->xl v r):=by
 refine gb.mutual_partial_correctness
  (motive_1:=iC)
  (motive_2:=xl)
  ?_ ?_
 ·exact(λf0 f1 h0 h1 v r h=>J4 f0 f1 h0 h1 v r (bw (by kernel_rfl) h))
 ·exact(λf0 h0 v r h=>QK f0 h0 v r (bw (by kernel_rfl) h))
theorem Jo:aA prog 139 ia n_139:=λv r x h hx=>Ae.2 v r h x hx
def NM:az vw:={exits:=λid=>match id with|0=>AP|_=>⟨[],[]⟩,rcut:=bW}
def ib:Sig vw:={params:=[.dat (.st .layoutT)],rcut:=bW,rvars:=[.tmp 2]}
mutual
noncomputable def gc(v:Int×Int×aa×Unit):Option ((Int×aa×Unit)):=if decide (v.2.1<(↑v.2.2.1.parts.length:Int))=true then if 0<=v.2.1 then v.2.2.1.parts[v.2.1.toNat]?>>=λx1=>n_140 (x1,())>>=λx2=>gc (min (i64.wrap (v.1+x2.1)) (100000:Int),i64.wrap (v.2.1+1),v.2.2.1,())else none else some ((v.1,v.2.2.1,())) partial_fixpoint
noncomputable def n_140(v:aa×Unit):Option (Int×Unit):=gc ((0:Int),(0:Int),v.1,())>>=λx1=>(if(x1.2.1.kind==5)=true then some ((i64.wrap (min (max x1.2.1.n (0:Int)) (100000:Int) *x1.1),()))else some ((x1.1,())))>>=λx2=>some ((min (i64.wrap (x2.1+1)) (100000:Int),())) partial_fixpoint
end
def zy(gc:Int×Int×aa×Unit->Option ((Int×aa×Unit)))(n_140:aa×Unit->Option (Int×Unit)):al vw:=λA fid args S k=>match fid with|140=>aV prog ib n_140 A args S k|_=>none
def BP(gc:Int×Int×aa×Unit->Option ((Int×aa×Unit)))(n_140:aa×Unit->Option (Int×Unit)):Xc vw:={P:=prog,n:=33,call:=zy gc n_140,pre:=aP,sh:=NM,joins:=λk=>match k with|8=>some (s6,[.norm])|_=>none,loops:=λk=>match k with|3=>some {cut:=i7,alts:=[.exit 0],F:=gc}|_=>none}
abbrev iD(v:Int×Int×aa×Unit)(r:(Int×aa×Unit)):Prop:=(λv out=>∀C:Ctx,C.P=prog->C.N=33/\Fx C aP->oP C (aj (ah Tryz.f140) 0) (Go.Tx.aI vw (bZ vw i7 v)) (vL NM [.exit 0] out)) v r
abbrev xm(v:aa×Unit)(r:Int×Unit):Prop:=(λv r=>∀x,rh prog ib r=some x->i6 prog 140 (encL vw (ay ib v).len (a_ ib v).1) (bB (ay ib v).len (ay ib v).own) (ao vw (bZ vw ib.rcut r).len x) (bB (bZ vw ib.rcut r).len (jx ib r))) v r
theorem IV(f0:Int×Int×aa×Unit->Option ((Int×aa×Unit)))(f1:aa×Unit->Option (Int×Unit))(h0:∀v r,f0 v=some r->iD v r)(h1:∀v r,f1 v=some r->xm v r):af prog (BP f0 f1).call:=(by
 intro A fid args S dst k r h
 unfold BP zy at h
 simp only at h
 split at h
 ·exact ak ((λv r x h hx=>h1 v r h x hx)) rfl rfl h
 ·cases h)
theorem J5(f0:Int×Int×aa×Unit->Option ((Int×aa×Unit)))(f1:aa×Unit->Option (Int×Unit))(h0:∀v r,f0 v=some r->iD v r)(h1:∀v r,f1 v=some r->xm v r)(v:Int×Int×aa×Unit)(r:(Int×aa×Unit))(h:exL (BP f0 f1) (aj (ah Tryz.f140) 0) i7 [.exit 0] f0 v=some r):iD v r:=λC hP hN=>c8 (X:=BP f0 f1) (b:=(aj (ah Tryz.f140) 0)) hP hN Ty.mixed (IV f0 f1 h0 h1) (bo (X:=BP f0 f1) (c:=(aj (ah Tryz.f140) 0)) (bw (by kernel_rfl:True=fR (bt C (BP f0 f1)) (aR (aj (ah Tryz.f140) 0))) trivial)) (cut:=i7) (alts:=[.exit 0]) (F:=f0) (λv out h=>h0 v out h C hP hN) h
theorem Pe(f0:Int×Int×aa×Unit->Option ((Int×aa×Unit)))(h0:∀v r,f0 v=some r->iD v r):af prog (BP f0 (λ_=>none)).call:=(by
 intro A fid args S dst k r h
 unfold BP zy at h
 simp only at h
 split at h
 ·exact ak ((λv r x h hx=>by cases h)) rfl rfl h
 ·cases h)
theorem QL(f0:Int×Int×aa×Unit->Option ((Int×aa×Unit)))(h0:∀v r,f0 v=some r->iD v r)(v:aa×Unit)(r:Int×Unit)(h:exF (BP f0 (λ_=>none)) ib rfl (ah Tryz.f140) v=some r):xm v r:=λx hx=>mm (X:=BP f0 (λ_=>none)) (sig:=ib) rfl Tryz.func140 (c:=ah Tryz.f140) (by kernel_rfl) Tryz.ntmps140 (by kernel_rfl) (by kernel_rfl) rfl Ty.mixed (Pe f0 h0) rfl (λC hP hN=>(bo (X:=BP f0 (λ_=>none)) (c:=(ah Tryz.f140)) (bw (by kernel_rfl:fR (bt C (BP f0 (λ_=>none))) [(aj (ah Tryz.f140) 0)]=fR (bt C (BP f0 (λ_=>none))) (aR (ah Tryz.f140))) ⟨dS (X:=BP f0 (λ_=>none)) (b:=(aj (ah Tryz.f140) 0)) (by kernel_rfl) (show aD C (aj (ah Tryz.f140) 0) (sh:=NM) {cut:=i7,alts:=[.exit 0],F:=f0}fromλv out h=>h0 v out h C hP hN),trivial⟩))) h x hx
theorem Af:(∀v r,gc v=some r->iD v r)/\(∀v r,n_140 v=some r->xm v r):=by
 refine gc.mutual_partial_correctness
  (motive_1:=iD)
  (motive_2:=xm)
  ?_ ?_
 ·exact(λf0 f1 h0 h1 v r h=>J5 f0 f1 h0 h1 v r (bw (by kernel_rfl) h))
 ·exact(λf0 h0 v r h=>QL f0 h0 v r (bw (by kernel_rfl) h))
theorem Jp:aA prog 140 ib n_140:=λv r x h hx=>Af.2 v r h x hx
def Sf:az vw:={rcut:=bW}
def LJ:Sig vw:={params:=[.dat (.int .i64)],rcut:=bW,rvars:=[.tmp 2]}
noncomputable def Gk(v:Int×Unit):Option (Int×Unit):=if(v.1==2)=true then some (((64:Int),()))else if(v.1==5)=true then some (((1000:Int),()))else if(v.1==7)=true then some (((65536:Int),()))else some (((9223372036854775807:Int),()))
def EE:al vw:=c0
def U_:Xc vw:={P:=prog,n:=10,call:=EE,pre:=aP,sh:=Sf}
theorem Cs:af prog EE:=aJ
theorem Jq:aA prog 141 LJ Gk:=fnA U_ Tryz.func141 (by kernel_rfl) Ty.mixed Cs rfl rfl rfl (λv=>by kernel_rfl) λC hP hN=>bL (by kernel_rfl)
def En:Cut SN:=⟨[(6, .dat .bool)],[]⟩
def Sd:az vw:={rcut:=En}
def LF:Sig vw:={params:=[.dat (.int .i64), .dat (.int .i64), .dat (.int .i64)],rcut:=En,rvars:=[.tmp 6]}
noncomputable def Gd(v:Int×Int×Int×Unit):Option (Bool×Unit):=(if decide (v.1>=v.2.1)=true then some ((decide (v.1<=v.2.2.1),()))else some ((false,())))>>=λx1=>some ((x1.1,()))
def EA:al vw:=c0
def U9:Xc vw:={P:=prog,n:=15,call:=EA,pre:=aP,sh:=Sd,regs:=λk=>match k with|1=>some En|_=>none}
theorem Cr:af prog EA:=aJ
theorem Ji:aA prog 114 LF Gd:=fnA U9 Tryz.func114 (by kernel_rfl) Ty.mixed Cr rfl rfl rfl (λv=>by kernel_rfl) λC hP hN=>bL (by kernel_rfl)
def OX:Cut SN:=⟨[(1, .bp 1 0),(4, .dat (.int .i64)),(12, .dat .bool)],[(1, .st .layoutT)]⟩
def Sl:az vw:={rcut:=dw}
def LQ:Sig vw:={params:=[.dat (.st .layoutT)],rcut:=dw,rvars:=[.tmp 2]}
noncomputable def Gs(v:aa×Unit):Option (Bool×Unit):=(if(v.1.kind==4)=true then some ((v.1.kind,true,v.1,()))else some ((v.1.kind,v.1.kind==5,v.1,())))>>=λx1=>if x1.2.1=true then some (((↑x1.2.2.1.parts.length:Int)==1,()))else(if(x1.1==6)=true then some ((x1.1,true,x1.2.2.1,()))else some ((x1.1,x1.1==9,x1.2.2.1,())))>>=λx2=>if x2.2.1=true then some ((true,()))else if(x2.1==8)=true then some ((decide ((↑x2.2.2.1.parts.length:Int)>=1),()))else some (((↑x2.2.2.1.parts.length:Int)==0,()))
def EN:al vw:=c0
def Ve:Xc vw:={P:=prog,n:=25,call:=EN,pre:=aP,sh:=Sl,joins:=λk=>match k with|4=>some (O9,[.norm])|7=>some (OX,[.norm])|_=>none}
theorem Cx:af prog EN:=aJ
theorem Jx:aA prog 171 LQ Gs:=fnA Ve Tryz.func171 (by kernel_rfl) Ty.mixed Cx rfl rfl rfl (λv=>by kernel_rfl) λC hP hN=>bL (by kernel_rfl)
def OT:Cut SN:=⟨[(1, .bp 1 0),(23, .dat (.int .i64)),(24, .dat .bool)],[(1, .st .layoutT)]⟩
def Ep:Cut SN:=⟨[(1, .bp 1 0)],[(1, .st .layoutT)]⟩
def OU:Cut SN:=⟨[(1, .bp 1 0),(21, .dat .bool)],[(1, .st .layoutT)]⟩
def Mi:Cut SN:=⟨[(1, .bp 1 0),(3, .dat (.int .i64)),(59, .dat .bool)],[(1, .st .layoutT)]⟩
def Qh:az vw:={exits:=λid=>match id with|1=>Ep|_=>⟨[],[]⟩,rcut:=dw}
def LK:Sig vw:={params:=[.dat (.st .layoutT)],rcut:=dw,rvars:=[.tmp 2]}
noncomputable def iL(v:Int×aa×Unit):Option (((Bool×Unit)⊕(aa×Unit))):=if decide (v.1<(↑v.2.1.parts.length:Int))=true then(if 0<=v.1 then v.2.1.parts[v.1.toNat]?>>=λx1=>if(x1.kind !=1)=true then if 0<=v.1 then v.2.1.parts[v.1.toNat]?>>=λx2=>some ((v.1,x2.kind !=2,v.2.1,()))else none else some ((v.1,false,v.2.1,()))else none)>>=λx1=>if x1.2.1=true then some (V_ (false,()))else iL (i64.wrap (x1.1+1),x1.2.2.1,())else some (V9 (v.2.1,())) partial_fixpoint
noncomputable def Gl(v:aa×Unit):Option (Bool×Unit):=(Gd (v.1.kind,(0:Int),(9:Int),())>>=λx1=>if(!x1.1)=true then some ((true,v.1,()))else Gs (v.1,())>>=λx2=>if(!x2.1)=true then some ((true,v.1,()))else if v.1.flag=true then some ((v.1.kind !=2,v.1,()))else some ((false,v.1,())))>>=λx1=>if x1.1=true then some ((false,()))else((if(x1.2.1.kind==2)=true then some ((x1.2.1.kind,true,x1.2.1,()))else some ((x1.2.1.kind,x1.2.1.kind==7,x1.2.1,())))>>=λx2=>if x2.2.1=true then some (V9 (decide (x2.2.2.1.n>=1),()))else if(x2.1==5)=true then some (V9 (decide (x2.2.2.1.n>=0),()))else if(x2.1==9)=true then iL ((0:Int),x2.2.2.1,())>>=λx3=>match x3 with| .inl y3=>some (V9 y3)| .inr y3=>some (V_ (y3.1,()))else some (V_ (x2.2.2.1,())))>>=λx2=>match x2 with| .inl y2=>some ((y2.1.n==0,()))| .inr y2=>some y2
def EF:al vw:=cP prog 114 LF Gd (cP prog 171 LQ Gs c0)
def TU:Xc vw:={P:=prog,n:=63,call:=EF,pre:=aP,sh:=Qh,joins:=λk=>match k with|6=>some (OT,[.norm])|15=>some (Ep,[.norm, .ret])|_=>none,regs:=λk=>match k with|1=>some OU|13=>some Mi|_=>none,loops:=λk=>match k with|11=>some {cut:=AP,alts:=[.ret, .exit 1],F:=iL}|_=>none}
theorem tH:af prog EF:=aU Ji rfl rfl (aU Jx rfl rfl aJ)
theorem Ag(C:Ctx)(hP:C.P=prog)(hN:C.N=63/\Fx C aP):aD C (aj (ah Tryz.f142) 0) (sh:=Qh) {cut:=AP,alts:=[.ret, .exit 1],F:=iL}:=
 lpB (X:=TU) iL.partial_correctness hP hN Ty.mixed tH (bL (by kernel_rfl)) λF v=>by kernel_rfl
theorem Jr:aA prog 142 LK Gl:=fnA TU Tryz.func142 (by kernel_rfl) Ty.mixed tH rfl rfl rfl (λv=>by kernel_rfl) λC hP hN=>gq (by kernel_rfl) (by kernel_rfl) (Ag C hP hN)
def Er:Cut SN:=⟨[(1, .bp 1 0),(3, .vh 1003),(4, .dat (.int .i64))],[(1, .st .layoutT),(1003, .vec 42 (.st .layoutT))]⟩
def RB:Cut SN:=⟨[(3, .vh 1003)],[(1003, .vec 42 (.st .layoutT))]⟩
def Te:Cut SN:=⟨[(2, .dat (.sl (.st .layoutT)))],[]⟩
def Sq:az vw:={exits:=λid=>match id with|0=>RB|_=>⟨[],[]⟩,rcut:=Te}
def nH:Sig vw:={params:=[.dat (.st .layoutT)],rcut:=Te,rvars:=[.tmp 2]}
mutual
noncomputable def jF(v:Int×aa×(List aa)×Unit):Option (((List aa)×Unit)):=if decide (v.1<(↑v.2.1.parts.length:Int))=true then if 0<=v.1 then v.2.1.parts[v.1.toNat]?>>=λx1=>n_57 (x1,())>>=λx2=>if v.2.2.1.length+x2.1.length<=4294967296 then jF (i64.wrap (v.1+1),v.2.1,v.2.2.1++x2.1,())else none else none else some ((v.2.2.1,())) partial_fixpoint
noncomputable def n_57(v:aa×Unit):Option ((List aa)×Unit):=jF ((0:Int),v.1,[v.1],())>>=λx1=>some ((x1.1,())) partial_fixpoint
end
def EY(jF:Int×aa×(List aa)×Unit->Option (((List aa)×Unit)))(n_57:aa×Unit->Option ((List aa)×Unit)):al vw:=λA fid args S k=>match fid with|57=>aV prog nH n_57 A args S k|_=>none
def x57(jF:Int×aa×(List aa)×Unit->Option (((List aa)×Unit)))(n_57:aa×Unit->Option ((List aa)×Unit)):Xc vw:={P:=prog,n:=23,nm:=λd=>match d with|6=>40006|_=>d,call:=EY jF n_57,pre:=aP,sh:=Sq,loops:=λk=>match k with|3=>some {cut:=Er,alts:=[.exit 0],F:=jF}|_=>none}
abbrev lK(v:Int×aa×(List aa)×Unit)(r:((List aa)×Unit)):Prop:=(λv out=>∀C:Ctx,C.P=prog->C.N=23/\Fx C aP->oP C (aj (ah Tryz.f57) 0) (Go.Tx.aI vw (bZ vw Er v)) (vL Sq [.exit 0] out)) v r
abbrev F8(v:aa×Unit)(r:(List aa)×Unit):Prop:=(λv r=>∀x,rh prog nH r=some x->i6 prog 57 (encL vw (ay nH v).len (a_ nH v).1) (bB (ay nH v).len (ay nH v).own) (ao vw (bZ vw nH.rcut r).len x) (bB (bZ vw nH.rcut r).len (jx nH r))) v r
theorem Ms(f0:Int×aa×(List aa)×Unit->Option (((List aa)×Unit)))(f1:aa×Unit->Option ((List aa)×Unit))(h0:∀v r,f0 v=some r->lK v r)(h1:∀v r,f1 v=some r->F8 v r):af prog (x57 f0 f1).call:=(by
 intro A fid args S dst k r h
 unfold x57 EY at h
 simp only at h
 split at h
 ·exact ak ((λv r x h hx=>h1 v r h x hx)) rfl rfl h
 ·cases h)
theorem N1(f0:Int×aa×(List aa)×Unit->Option (((List aa)×Unit)))(f1:aa×Unit->Option ((List aa)×Unit))(h0:∀v r,f0 v=some r->lK v r)(h1:∀v r,f1 v=some r->F8 v r)(v:Int×aa×(List aa)×Unit)(r:((List aa)×Unit))(h:exL (x57 f0 f1) (aj (ah Tryz.f57) 0) Er [.exit 0] f0 v=some r):lK v r:=λC hP hN=>c8 (X:=x57 f0 f1) (b:=(aj (ah Tryz.f57) 0)) hP hN Ty.mixed (Ms f0 f1 h0 h1) (bo (X:=x57 f0 f1) (c:=(aj (ah Tryz.f57) 0)) (bw (by kernel_rfl:True=fR (bt C (x57 f0 f1)) (aR (aj (ah Tryz.f57) 0))) trivial)) (cut:=Er) (alts:=[.exit 0]) (F:=f0) (λv out h=>h0 v out h C hP hN) h
theorem RL(f0:Int×aa×(List aa)×Unit->Option (((List aa)×Unit)))(h0:∀v r,f0 v=some r->lK v r):af prog (x57 f0 (λ_=>none)).call:=(by
 intro A fid args S dst k r h
 unfold x57 EY at h
 simp only at h
 split at h
 ·exact ak ((λv r x h hx=>by cases h)) rfl rfl h
 ·cases h)
theorem Su(f0:Int×aa×(List aa)×Unit->Option (((List aa)×Unit)))(h0:∀v r,f0 v=some r->lK v r)(v:aa×Unit)(r:(List aa)×Unit)(h:exF (x57 f0 (λ_=>none)) nH rfl (ah Tryz.f57) v=some r):F8 v r:=λx hx=>mm (X:=x57 f0 (λ_=>none)) (sig:=nH) rfl Tryz.func57 (c:=ah Tryz.f57) (by kernel_rfl) Tryz.ntmps57 (by kernel_rfl) (by kernel_rfl) rfl Ty.mixed (RL f0 h0) rfl (λC hP hN=>(bo (X:=x57 f0 (λ_=>none)) (c:=(ah Tryz.f57)) (bw (by kernel_rfl:fR (bt C (x57 f0 (λ_=>none))) [(aj (ah Tryz.f57) 0)]=fR (bt C (x57 f0 (λ_=>none))) (aR (ah Tryz.f57))) ⟨dS (X:=x57 f0 (λ_=>none)) (b:=(aj (ah Tryz.f57) 0)) (by kernel_rfl) (show aD C (aj (ah Tryz.f57) 0) (sh:=Sq) {cut:=Er,alts:=[.exit 0],F:=f0}fromλv out h=>h0 v out h C hP hN),trivial⟩))) h x hx
theorem Dc:(∀v r,jF v=some r->lK v r)/\(∀v r,n_57 v=some r->F8 v r):=by
 refine jF.mutual_partial_correctness
  (motive_1:=lK)
  (motive_2:=F8)
  ?_ ?_
 ·exact(λf0 f1 h0 h1 v r h=>N1 f0 f1 h0 h1 v r (bw (by kernel_rfl) h))
 ·exact(λf0 h0 v r h=>Su f0 h0 v r (bw (by kernel_rfl) h))
theorem Nf:aA prog 57 nH n_57:=λv r x h hx=>Dc.2 v r h x hx
def KF:Cut SN:=⟨[(3, .dat (.sl (.st .layoutT))),(4, .dat (.int .i64))],[]⟩
def Em:Cut SN:=⟨[(3, .dat (.sl (.st .layoutT))),(6, .dat (.int .i64))],[]⟩
def OI:Cut SN:=⟨[(3, .dat (.sl (.st .layoutT))),(21, .dat .bool)],[]⟩
def OJ:Cut SN:=⟨[(3, .dat (.sl (.st .layoutT))),(4, .dat (.int .i64)),(53, .dat .bool)],[]⟩
def OH:Cut SN:=⟨[(3, .dat (.sl (.st .layoutT)))],[]⟩
def NI:az vw:={exits:=λid=>match id with|0=>OH|2=>si|_=>⟨[],[]⟩,rcut:=bW}
def LB:Sig vw:={params:=[.dat (.st .layoutT)],rcut:=bW,rvars:=[.tmp 2]}
noncomputable def lM(v:(List aa)×Int×Unit):Option (((Int×Unit)⊕((List aa)×Unit))):=if decide (v.2.1<(↑v.1.length:Int))=true then if 0<=v.2.1 then v.1[v.2.1.toNat]?>>=λx1=>(if decide ((↑x1.parts.length:Int)>12)=true then some ((v.1,v.2.1,true,()))else Gk (x1.kind,())>>=λx2=>if decide (x1.n>x2.1)=true then some ((v.1,v.2.1,true,()))else if(x1.kind==9)=true then Ga (x1,())>>=λx3=>some ((v.1,v.2.1,decide (x3.1>64),()))else some ((v.1,v.2.1,false,())))>>=λx2=>if x2.2.2.1=true then some (V_ ((3:Int),()))else lM (x2.1,i64.wrap (x2.2.1+1),())else none else some (V9 (v.1,())) partial_fixpoint
noncomputable def iG(v:(List aa)×Int×Unit):Option (((Int×Unit)⊕(Unit))):=if decide (v.2.1<(↑v.1.length:Int))=true then if 0<=v.2.1 then v.1[v.2.1.toNat]?>>=λx1=>Gl (x1,())>>=λx2=>if(!x2.1)=true then some (V_ ((1:Int),()))else iG (v.1,i64.wrap (v.2.1+1),())else none else some (V9 ()) partial_fixpoint
noncomputable def z_(v:aa×Unit):Option (Int×Unit):=n_57 (v.1,())>>=λx1=>(if decide ((↑x1.1.length:Int)>60)=true then some ((x1.1,true,()))else n_139 (v.1,())>>=λx2=>if decide (x2.1>5)=true then some ((x1.1,true,()))else n_140 (v.1,())>>=λx3=>some ((x1.1,decide (x3.1>4096),())))>>=λx2=>if x2.2.1=true then some (((3:Int),()))else lM (x2.1,(0:Int),())>>=λx3=>match x3 with| .inl y3=>some y3| .inr y3=>iG (y3.1,(0:Int),())>>=λx4=>match x4 with| .inl y4=>some y4| .inr y4=>some (((0:Int),()))
def Et:al vw:=cP prog 57 nH n_57 (cP prog 109 LC Ga (cP prog 139 ia n_139 (cP prog 140 ib n_140 (cP prog 141 LJ Gk (cP prog 142 LK Gl c0)))))
def SR:Xc vw:={P:=prog,n:=66,call:=Et,pre:=aP,sh:=NI,regs:=λk=>match k with|2=>some OI|8=>some OJ|_=>none,loops:=λk=>match k with|5=>some {cut:=KF,alts:=[.ret, .exit 0],F:=lM}|11=>some {cut:=Em,alts:=[.ret, .exit 2],F:=iG}|_=>none}
theorem nd:af prog Et:=aU Nf rfl rfl (aU Jh rfl rfl (aU Jo rfl rfl (aU Jp rfl rfl (aU Jq rfl rfl (aU Jr rfl rfl aJ)))))
theorem CY(C:Ctx)(hP:C.P=prog)(hN:C.N=66/\Fx C aP):aD C (aj (ah Tryz.f105) 0) (sh:=NI) {cut:=KF,alts:=[.ret, .exit 0],F:=lM}:=
 lpB (X:=SR) lM.partial_correctness hP hN Ty.mixed nd (bL (by kernel_rfl)) λF v=>by kernel_rfl
theorem Aa(C:Ctx)(hP:C.P=prog)(hN:C.N=66/\Fx C aP):aD C (aj (ah Tryz.f105) 1) (sh:=NI) {cut:=Em,alts:=[.ret, .exit 2],F:=iG}:=
 lpB (X:=SR) iG.partial_correctness hP hN Ty.mixed nd (bL (by kernel_rfl)) λF v=>by kernel_rfl
theorem Jg:aA prog 105 LB z_:=fnA SR Tryz.func105 (by kernel_rfl) Ty.mixed nd rfl rfl rfl (λv=>by kernel_rfl) λC hP hN=>QZ (by kernel_rfl) (by kernel_rfl) (by kernel_rfl) (CY C hP hN) (Aa C hP hN)
def Ux:az vw:={rcut:=dw}
def Qp:Sig vw:={params:=[.dat .str],rcut:=dw,rvars:=[.tmp 2]}
noncomputable def Q0(v:ByteArray×Unit):Option (Bool×Unit):=some ((decide ((↑v.1.size:Int)>4096),()))
def KZ:al vw:=c0
def x37:Xc vw:={P:=prog,n:=6,call:=KZ,pre:=aP,sh:=Ux}
theorem ES:af prog KZ:=aJ
theorem MY:aA prog 37 Qp Q0:=fnA x37 Tryz.func37 (by kernel_rfl) Ty.mixed ES rfl rfl rfl (λv=>by kernel_rfl) λC hP hN=>bL (by kernel_rfl)
def Mo:Cut SN:=⟨[(0, .dat .str),(3, .vh 1003),(4, .dat (.int .i64))],[(1003, .vec 125 (.st .tokenT))]⟩
def zr:Cut SN:=⟨[(0, .dat .str),(3, .vh 1003),(4, .dat (.int .i64)),(5, .dat (.int .i64))],[(1003, .vec 125 (.st .tokenT))]⟩
def Rz:Cut SN:=⟨[(0, .dat .str),(3, .vh 1003),(4, .dat (.int .i64)),(5, .dat (.int .i64)),(6, .dat (.int .u8)),(17, .dat .bool)],[(1003, .vec 125 (.st .tokenT))]⟩
def RA:Cut SN:=⟨[(0, .dat .str),(3, .vh 1003),(4, .dat (.int .i64)),(5, .dat (.int .i64)),(46, .dat .bool)],[(1003, .vec 125 (.st .tokenT))]⟩
def O8:Cut SN:=⟨[(0, .dat .str),(3, .vh 1003),(4, .dat (.int .i64)),(5, .dat (.int .i64)),(61, .dat .bool)],[(1003, .vec 125 (.st .tokenT))]⟩
def Ry:Cut SN:=⟨[(3, .vh 1003)],[(1003, .vec 125 (.st .tokenT))]⟩
def Td:Cut SN:=⟨[(2, .dat (.sl (.st .tokenT)))],[]⟩
def Q9:az vw:={exits:=λid=>match id with|0=>Ry|1=>Mo|3=>zr|5=>zr|_=>⟨[],[]⟩,rcut:=Td}
def Qx:Sig vw:={params:=[.dat .str],rcut:=Td,rvars:=[.tmp 2]}
noncomputable def oC(v:ByteArray×Int×Int×(List aK)×Unit):Option ((ByteArray×Int×Int×(List aK)×Unit)):=(if decide (v.2.1<(↑v.1.size:Int))=true then if 0<=v.2.1 then v.1[v.2.1.toNat]?>>=λx1=>Lt ((↑x1.toNat:Int),())>>=λx2=>if x2.1=true then some ((v.1,v.2.1,v.2.2.1,true,v.2.2.2.1,()))else if 0<=v.2.1 then v.1[v.2.1.toNat]?>>=λx3=>JC ((↑x3.toNat:Int),())>>=λx4=>some ((v.1,v.2.1,v.2.2.1,x4.1,v.2.2.2.1,()))else none else none else some ((v.1,v.2.1,v.2.2.1,false,v.2.2.2.1,())))>>=λx1=>if x1.2.2.2.1=true then oC (x1.1,i64.wrap (x1.2.1+1),x1.2.2.1,x1.2.2.2.2.1,())else some ((x1.1,x1.2.1,x1.2.2.1,x1.2.2.2.2.1,())) partial_fixpoint
noncomputable def jD(v:ByteArray×Int×Int×(List aK)×Unit):Option ((ByteArray×Int×Int×(List aK)×Unit)):=(if decide (v.2.1<(↑v.1.size:Int))=true then if 0<=v.2.1 then v.1[v.2.1.toNat]?>>=λx1=>JC ((↑x1.toNat:Int),())>>=λx2=>some ((v.1,v.2.1,v.2.2.1,x2.1,v.2.2.2.1,()))else none else some ((v.1,v.2.1,v.2.2.1,false,v.2.2.2.1,())))>>=λx1=>if x1.2.2.2.1=true then jD (x1.1,i64.wrap (x1.2.1+1),x1.2.2.1,x1.2.2.2.2.1,())else some ((x1.1,x1.2.1,x1.2.2.1,x1.2.2.2.2.1,())) partial_fixpoint
noncomputable def jE(v:ByteArray×Int×(List aK)×Unit):Option (((List aK)×Unit)):=if decide (v.2.1<(↑v.1.size:Int))=true then if 0<=v.2.1 then v.1[v.2.1.toNat]?>>=λx1=>((if((↑x1.toNat:Int)==32)=true then some ((v.1,i64.wrap (v.2.1+1),v.2.1,(↑x1.toNat:Int),true,v.2.2.1,()))else if((↑x1.toNat:Int)==9)=true then some ((v.1,i64.wrap (v.2.1+1),v.2.1,(↑x1.toNat:Int),true,v.2.2.1,()))else some ((v.1,i64.wrap (v.2.1+1),v.2.1,(↑x1.toNat:Int),(↑x1.toNat:Int)==10,v.2.2.1,())))>>=λx2=>if x2.2.2.2.2.1=true then some (V9 (x2.1,x2.2.1,x2.2.2.2.2.2.1,()))else Lt (x2.2.2.2.1,())>>=λx3=>if x3.1=true then oC (x2.1,x2.2.1,x2.2.2.1,x2.2.2.2.2.2.1,())>>=λx4=>some (V_ (x4.1,x4.2.1,x4.2.2.1,x4.2.2.2.1,()))else JC (x2.2.2.2.1,())>>=λx4=>if x4.1=true then jD (x2.1,x2.2.1,x2.2.2.1,x2.2.2.2.2.2.1,())>>=λx5=>some (V_ (x5.1,x5.2.1,x5.2.2.1,x5.2.2.2.1,()))else some (V_ (x2.1,x2.2.1,x2.2.2.1,x2.2.2.2.2.2.1,())))>>=λx2=>match x2 with| .inl y2=>if 0<=y2.2.2.1/\y2.2.2.1<=y2.2.1/\y2.2.1<=(↑y2.1.size:Int)then if y2.2.2.2.1.length+[aK.mk y2.2.2.1 (y2.1.extract y2.2.2.1.toNat y2.2.1.toNat)].length<=4294967296 then jE (y2.1,y2.2.1,y2.2.2.2.1++[aK.mk y2.2.2.1 (y2.1.extract y2.2.2.1.toNat y2.2.1.toNat)],())else none else none| .inr y2=>jE (y2.1,y2.2.1,y2.2.2.1,())else none else some ((v.2.2.1,())) partial_fixpoint
noncomputable def PQ(v:ByteArray×Unit):Option ((List aK)×Unit):=jE (v.1,(0:Int),[],())>>=λx1=>some ((x1.1,()))
def K7:al vw:=cP prog 88 NX Lt (cP prog 89 NY JC c0)
def x53:Xc vw:={P:=prog,n:=74,call:=K7,pre:=aP,sh:=Q9,joins:=λk=>match k with|14=>some (zr,[.norm, .exit 1])|_=>none,regs:=λk=>match k with|7=>some Rz|9=>some RA|12=>some O8|_=>none,loops:=λk=>match k with|3=>some {cut:=Mo,alts:=[.exit 0],F:=jE}|9=>some {cut:=zr,alts:=[.exit 3],F:=oC}|12=>some {cut:=zr,alts:=[.exit 5],F:=jD}|_=>none}
theorem mg:af prog K7:=aU GL rfl rfl (aU GM rfl rfl aJ)
theorem GF(C:Ctx)(hP:C.P=prog)(hN:C.N=74/\Fx C aP):aD C (aj (aj (ah Tryz.f53) 0) 0) (sh:=Q9) {cut:=zr,alts:=[.exit 3],F:=oC}:=
 lpB (X:=x53) oC.partial_correctness hP hN Ty.mixed mg (bL (by kernel_rfl)) λF v=>by kernel_rfl
theorem Db(C:Ctx)(hP:C.P=prog)(hN:C.N=74/\Fx C aP):aD C (aj (aj (ah Tryz.f53) 0) 1) (sh:=Q9) {cut:=zr,alts:=[.exit 5],F:=jD}:=
 lpB (X:=x53) jD.partial_correctness hP hN Ty.mixed mg (bL (by kernel_rfl)) λF v=>by kernel_rfl
theorem GE(C:Ctx)(hP:C.P=prog)(hN:C.N=74/\Fx C aP):aD C (aj (ah Tryz.f53) 0) (sh:=Q9) {cut:=Mo,alts:=[.exit 0],F:=jE}:=
 lpB (X:=x53) jE.partial_correctness hP hN Ty.mixed mg (QZ (by kernel_rfl) (by kernel_rfl) (by kernel_rfl) (GF C hP hN) (Db C hP hN)) λF v=>by kernel_rfl
theorem Nd:aA prog 53 Qx PQ:=fnA x53 Tryz.func53 (by kernel_rfl) Ty.mixed mg rfl rfl rfl (λv=>by kernel_rfl) λC hP hN=>gq (by kernel_rfl) (by kernel_rfl) (GE C hP hN)
def Mq:Cut SN:=⟨[(0, .dat .str),(3, .vh 1003),(4, .dat .bool),(5, .dat (.int .i64))],[(1003, .vec 4 .bool)]⟩
def RG:Cut SN:=⟨[(0, .dat .str),(3, .vh 1003),(4, .dat .bool),(5, .dat (.int .i64)),(23, .dat .bool)],[(1003, .vec 4 .bool)]⟩
def RF:Cut SN:=⟨[(3, .vh 1003)],[(1003, .vec 4 .bool)]⟩
def Ti:Cut SN:=⟨[(2, .dat (.sl .bool))],[]⟩
def TK:az vw:={exits:=λid=>match id with|0=>RF|_=>⟨[],[]⟩,rcut:=Ti}
def QE:Sig vw:={params:=[.dat .str],rcut:=Ti,rvars:=[.tmp 2]}
noncomputable def kT(v:ByteArray×Bool×Int×(List Bool)×Unit):Option (((List Bool)×Unit)):=if decide (v.2.2.1<(↑v.1.size:Int))=true then((if(v.2.2.1==0)=true then some ((v.1,v.2.1,v.2.2.1,true,v.2.2.2.1,()))else if 0<=i64.wrap (v.2.2.1-1)then v.1[(i64.wrap (v.2.2.1-1)).toNat]?>>=λx1=>some ((v.1,v.2.1,v.2.2.1,(↑x1.toNat:Int)==10,v.2.2.2.1,()))else none)>>=λx1=>if x1.2.2.2.1=true then if 0<=x1.2.2.1 then x1.1[x1.2.2.1.toNat]?>>=λx2=>some ((x1.1,(↑x2.toNat:Int)==35,x1.2.2.1,x1.2.2.2.2.1,()))else none else some ((x1.1,x1.2.1,x1.2.2.1,x1.2.2.2.2.1,())))>>=λx1=>if 0<=x1.2.2.1/\x1.2.2.1<(↑x1.2.2.2.1.length:Int)then x1.2.2.2.1[x1.2.2.1.toNat]?>>=λx2=>kT (x1.1,x1.2.1,i64.wrap (x1.2.2.1+1),x1.2.2.2.1.set x1.2.2.1.toNat x1.2.1,())else none else some ((v.2.2.2.1,())) partial_fixpoint
noncomputable def PY(v:ByteArray×Unit):Option ((List Bool)×Unit):=if(↑v.1.size:Int)<=4294967296 then kT (v.1,false,(0:Int),Wm (↑v.1.size:Int).toNat false,())>>=λx1=>some ((x1.1,()))else none
def Ld:al vw:=c0
def x85:Xc vw:={P:=prog,n:=33,call:=Ld,pre:=aP,sh:=TK,joins:=λk=>match k with|8=>some (Mq,[.norm])|_=>none,regs:=λk=>match k with|6=>some RG|_=>none,loops:=λk=>match k with|4=>some {cut:=Mq,alts:=[.exit 0],F:=kT}|_=>none}
theorem wG:af prog Ld:=aJ
theorem GI(C:Ctx)(hP:C.P=prog)(hN:C.N=33/\Fx C aP):aD C (aj (ah Tryz.f85) 0) (sh:=TK) {cut:=Mq,alts:=[.exit 0],F:=kT}:=
 lpB (X:=x85) kT.partial_correctness hP hN Ty.mixed wG (bL (by kernel_rfl)) λF v=>by kernel_rfl
theorem Nn:aA prog 85 QE PY:=fnA x85 Tryz.func85 (by kernel_rfl) Ty.mixed wG rfl rfl rfl (λv=>by kernel_rfl) λC hP hN=>gq (by kernel_rfl) (by kernel_rfl) (GI C hP hN)
def Mm:Cut SN:=⟨[(0, .dat .str),(3, .dat (.sl .bool)),(4, .dat (.sl (.st .tokenT))),(5, .vh 1005),(6, .dat (.int .i64)),(7, .dat (.int .i64)),(8, .dat (.int .i64)),(9, .dat (.int .i64))],[(1005, .dvec 77 (.sl (.st .tokenT)) false)]⟩
def KN:Cut SN:=⟨[(0, .dat .str),(3, .dat (.sl .bool)),(4, .dat (.sl (.st .tokenT))),(5, .vh 1005),(6, .dat (.int .i64)),(7, .dat (.int .i64)),(8, .dat (.int .i64)),(9, .dat (.int .i64)),(10, .bp 10 0)],[(1005, .dvec 77 (.sl (.st .tokenT)) false),(10, .st .tokenT)]⟩
def O6:Cut SN:=⟨[(0, .dat .str),(3, .dat (.sl .bool)),(4, .dat (.sl (.st .tokenT))),(5, .vh 1005),(6, .dat (.int .i64)),(7, .dat (.int .i64)),(8, .dat (.int .i64)),(9, .dat (.int .i64)),(10, .bp 10 0),(40, .dat .bool)],[(1005, .dvec 77 (.sl (.st .tokenT)) false),(10, .st .tokenT)]⟩
def Rw:Cut SN:=⟨[(5, .vh 1005)],[(1005, .dvec 77 (.sl (.st .tokenT)) false)]⟩
def Tb:Cut SN:=⟨[(2, .dat (.sl (.sl (.st .tokenT))))],[]⟩
def TH:az vw:={exits:=λid=>match id with|0=>Rw|_=>⟨[],[]⟩,rcut:=Tb}
def P6:Nat->Bool:=λk=>match k with|1000042=>true|1000060=>true|_=>false
def Qu:Sig vw:={params:=[.dat .str],rcut:=Tb,rvars:=[.tmp 2]}
noncomputable def df(v:ByteArray×(List Bool)×(List aK)×Int×Int×Int×Int×(List (List aK))×Unit):Option (((List (List aK))×Unit)):=if decide (v.2.2.2.2.2.2.1<(↑v.2.2.1.length:Int))=true then(if 0<=v.2.2.2.2.2.2.1 then v.2.2.1[v.2.2.2.2.2.2.1.toNat]?>>=λx1=>if 0<=x1.at0 then v.2.1[x1.at0.toNat]?>>=λx2=>if x2=true then((if(x1.at0==0)=true then some ((v.1,v.2.1,v.2.2.1,v.2.2.2.1,v.2.2.2.2.1,v.2.2.2.2.2.1,v.2.2.2.2.2.2.1,true,v.2.2.2.2.2.2.2.1,x1,()))else if 0<=i64.wrap (x1.at0-1)then v.1[(i64.wrap (x1.at0-1)).toNat]?>>=λx3=>some ((v.1,v.2.1,v.2.2.1,v.2.2.2.1,v.2.2.2.2.1,v.2.2.2.2.2.1,v.2.2.2.2.2.2.1,(↑x3.toNat:Int)==10,v.2.2.2.2.2.2.2.1,x1,()))else none)>>=λx3=>if x3.2.2.2.2.2.2.2.1=true then if x3.2.2.2.2.2.2.2.2.1.length+(1:Nat)<=4294967296 then some ((x3.1,x3.2.1,x3.2.2.1,x3.2.2.2.1,i64.wrap ((↑(x3.2.2.2.2.2.2.2.2.1++[[]]).length:Int) -1),x3.2.2.2.2.2.1,x3.2.2.2.2.2.2.1,x3.2.2.2.2.2.2.2.2.1++[[]],x3.2.2.2.2.2.2.2.2.2.1,()))else none else some ((x3.1,x3.2.1,x3.2.2.1,x3.2.2.2.1,x3.2.2.2.2.1,x3.2.2.2.2.2.1,x3.2.2.2.2.2.2.1,x3.2.2.2.2.2.2.2.2.1,x3.2.2.2.2.2.2.2.2.2.1,())))>>=λx3=>if 0<=x3.2.2.2.2.1/\x3.2.2.2.2.1<(↑x3.2.2.2.2.2.2.2.1.length:Int)then x3.2.2.2.2.2.2.2.1[x3.2.2.2.2.1.toNat]?>>=λx4=>if x4.length+[x3.2.2.2.2.2.2.2.2.1].length<=4294967296 then if 0<=x3.2.2.2.2.1/\x3.2.2.2.2.1<(↑((W0 some x3.2.2.2.2.2.2.2.1).set x3.2.2.2.2.1.toNat none).length:Int)then((W0 some x3.2.2.2.2.2.2.2.1).set x3.2.2.2.2.1.toNat none)[x3.2.2.2.2.1.toNat]?>>=λx5=>Ec (((W0 some x3.2.2.2.2.2.2.2.1).set x3.2.2.2.2.1.toNat none).set x3.2.2.2.2.1.toNat (some (x4++[x3.2.2.2.2.2.2.2.2.1])))>>=λx6=>some ((x3.1,x3.2.1,x3.2.2.1,x3.2.2.2.1,x3.2.2.2.2.1,x3.2.2.2.2.2.1,x3.2.2.2.2.2.2.1,x6,()))else none else none else none else(if decide (v.2.2.2.1<0)=true then if v.2.2.2.2.2.2.2.1.length+(1:Nat)<=4294967296 then some ((v.1,v.2.1,v.2.2.1,i64.wrap ((↑(v.2.2.2.2.2.2.2.1++[[]]).length:Int) -1),v.2.2.2.2.1,v.2.2.2.2.2.1,v.2.2.2.2.2.2.1,v.2.2.2.2.2.2.2.1++[[]],x1,()))else none else some ((v.1,v.2.1,v.2.2.1,v.2.2.2.1,v.2.2.2.2.1,v.2.2.2.2.2.1,v.2.2.2.2.2.2.1,v.2.2.2.2.2.2.2.1,x1,())))>>=λx3=>if 0<=x3.2.2.2.1/\x3.2.2.2.1<(↑x3.2.2.2.2.2.2.2.1.length:Int)then x3.2.2.2.2.2.2.2.1[x3.2.2.2.1.toNat]?>>=λx4=>if x4.length+[x3.2.2.2.2.2.2.2.2.1].length<=4294967296 then if 0<=x3.2.2.2.1/\x3.2.2.2.1<(↑((W0 some x3.2.2.2.2.2.2.2.1).set x3.2.2.2.1.toNat none).length:Int)then((W0 some x3.2.2.2.2.2.2.2.1).set x3.2.2.2.1.toNat none)[x3.2.2.2.1.toNat]?>>=λx5=>Ec (((W0 some x3.2.2.2.2.2.2.2.1).set x3.2.2.2.1.toNat none).set x3.2.2.2.1.toNat (some (x4++[x3.2.2.2.2.2.2.2.2.1])))>>=λx6=>if(x3.2.2.2.2.2.2.2.2.1.text.toList==(Vp #[123]).toList)=true then some ((x3.1,x3.2.1,x3.2.2.1,x3.2.2.2.1,x3.2.2.2.2.1,i64.wrap (x3.2.2.2.2.2.1+1),x3.2.2.2.2.2.2.1,x6,()))else if(x3.2.2.2.2.2.2.2.2.1.text.toList==(Vp #[125]).toList)=true then some ((x3.1,x3.2.1,x3.2.2.1,x3.2.2.2.1,x3.2.2.2.2.1,max (i64.wrap (x3.2.2.2.2.2.1-1)) (0:Int),x3.2.2.2.2.2.2.1,x6,()))else if(x3.2.2.2.2.2.2.2.2.1.text.toList==(Vp #[59]).toList)=true then if(x3.2.2.2.2.2.1==0)=true then some ((x3.1,x3.2.1,x3.2.2.1,(-1:Int),x3.2.2.2.2.1,x3.2.2.2.2.2.1,x3.2.2.2.2.2.2.1,x6,()))else some ((x3.1,x3.2.1,x3.2.2.1,x3.2.2.2.1,x3.2.2.2.2.1,x3.2.2.2.2.2.1,x3.2.2.2.2.2.2.1,x6,()))else some ((x3.1,x3.2.1,x3.2.2.1,x3.2.2.2.1,x3.2.2.2.2.1,x3.2.2.2.2.2.1,x3.2.2.2.2.2.2.1,x6,()))else none else none else none else none else none)>>=λx1=>df (x1.1,x1.2.1,x1.2.2.1,x1.2.2.2.1,x1.2.2.2.2.1,x1.2.2.2.2.2.1,i64.wrap (x1.2.2.2.2.2.2.1+1),x1.2.2.2.2.2.2.2.1,())else some ((v.2.2.2.2.2.2.2.1,())) partial_fixpoint
noncomputable def PN(v:ByteArray×Unit):Option ((List (List aK))×Unit):=PY (v.1,())>>=λx1=>PQ (v.1,())>>=λx2=>df (v.1,x1.1,x2.1,(-1:Int),(-1:Int),(0:Int),(0:Int),[],())>>=λx3=>some ((x3.1,()))
def K4:al vw:=cP prog 53 Qx PQ (cP prog 85 QE PY c0)
def x49:Xc vw:={P:=prog,n:=91,call:=K4,pre:=P6,sh:=TH,joins:=λk=>match k with|7=>some (Mm,[.norm])|13=>some (KN,[.norm])|17=>some (KN,[.norm])|_=>none,regs:=λk=>match k with|10=>some O6|_=>none,loops:=λk=>match k with|6=>some {cut:=Mm,alts:=[.exit 0],F:=df}|_=>none}
theorem wD:af prog K4:=aU Nd rfl rfl (aU Nn rfl rfl aJ)
theorem GB(C:Ctx)(hP:C.P=prog)(hN:C.N=91/\Fx C P6):aD C (aj (ah Tryz.f49) 0) (sh:=TH) {cut:=Mm,alts:=[.exit 0],F:=df}:=
 lpB (X:=x49) df.partial_correctness hP hN Ty.mixed wD (bL (by kernel_rfl)) λF v=>by kernel_rfl
theorem Na:aA prog 49 Qu PN:=fnA x49 Tryz.func49 (by kernel_rfl) Ty.mixed wD rfl rfl rfl (λv=>by kernel_rfl) λC hP hN=>gq (by kernel_rfl) (by kernel_rfl) (GB C hP hN)
def Mn:Cut SN:=⟨[(0, .dat (.sl .str)),(3, .dat .str),(4, .dat (.int .i64))],[]⟩
def Rx:Cut SN:=⟨[(3, .dat .str)],[]⟩
def TI:az vw:={exits:=λid=>match id with|0=>Rx|_=>⟨[],[]⟩,rcut:=QY}
def Qv:Sig vw:={params:=[.dat (.sl .str)],rcut:=QY,rvars:=[.tmp 2]}
noncomputable def mR(v:(List ByteArray)×ByteArray×Int×Unit):Option ((ByteArray×Unit)):=if decide (v.2.2.1<(↑v.1.length:Int))=true then(if decide (v.2.2.1>0)=true then if v.2.1.size+(Vp #[32]).size<=4294967296 then some ((v.1,v.2.1++Vp #[32],v.2.2.1,()))else none else some ((v.1,v.2.1,v.2.2.1,())))>>=λx1=>if 0<=x1.2.2.1 then x1.1[x1.2.2.1.toNat]?>>=λx2=>if x1.2.1.size+x2.size<=4294967296 then mR (x1.1,x1.2.1++x2,i64.wrap (x1.2.2.1+1),())else none else none else some ((v.2.1,())) partial_fixpoint
noncomputable def PO(v:(List ByteArray)×Unit):Option (ByteArray×Unit):=mR (v.1,Vp #[],(0:Int),())>>=λx1=>some ((x1.1,()))
def K5:al vw:=c0
def x50:Xc vw:={P:=prog,n:=22,call:=K5,pre:=aP,sh:=TI,joins:=λk=>match k with|7=>some (Mn,[.norm])|_=>none,loops:=λk=>match k with|3=>some {cut:=Mn,alts:=[.exit 0],F:=mR}|_=>none}
theorem wE:af prog K5:=aJ
theorem GC(C:Ctx)(hP:C.P=prog)(hN:C.N=22/\Fx C aP):aD C (aj (ah Tryz.f50) 0) (sh:=TI) {cut:=Mn,alts:=[.exit 0],F:=mR}:=
 lpB (X:=x50) mR.partial_correctness hP hN Ty.mixed wE (bL (by kernel_rfl)) λF v=>by kernel_rfl
theorem Nb:aA prog 50 Qv PO:=fnA x50 Tryz.func50 (by kernel_rfl) Ty.mixed wE rfl rfl rfl (λv=>by kernel_rfl) λC hP hN=>gq (by kernel_rfl) (by kernel_rfl) (GC C hP hN)
def O7:Cut SN:=⟨[(0, .dat (.sl (.st .tokenT))),(3, .vh 1003),(4, .dat (.int .i64))],[(1003, .vec 9 .str)]⟩
def Tc:Cut SN:=⟨[(2, .dat (.sl .str))],[]⟩
def TJ:az vw:={exits:=λid=>match id with|0=>tt|_=>⟨[],[]⟩,rcut:=Tc}
def Qw:Sig vw:={params:=[.dat (.sl (.st .tokenT))],rcut:=Tc,rvars:=[.tmp 2]}
noncomputable def mS(v:(List aK)×Int×(List ByteArray)×Unit):Option (((List ByteArray)×Unit)):=if decide (v.2.1<(↑v.1.length:Int))=true then if 0<=v.2.1 then v.1[v.2.1.toNat]?>>=λx1=>if v.2.2.1.length+[x1.text].length<=4294967296 then mS (v.1,i64.wrap (v.2.1+1),v.2.2.1++[x1.text],())else none else none else some ((v.2.2.1,())) partial_fixpoint
noncomputable def PP(v:(List aK)×Unit):Option ((List ByteArray)×Unit):=mS (v.1,(0:Int),[],())>>=λx1=>some ((x1.1,()))
def K6:al vw:=c0
def x51:Xc vw:={P:=prog,n:=20,call:=K6,pre:=aP,sh:=TJ,loops:=λk=>match k with|3=>some {cut:=O7,alts:=[.exit 0],F:=mS}|_=>none}
theorem wF:af prog K6:=aJ
theorem GD(C:Ctx)(hP:C.P=prog)(hN:C.N=20/\Fx C aP):aD C (aj (ah Tryz.f51) 0) (sh:=TJ) {cut:=O7,alts:=[.exit 0],F:=mS}:=
 lpB (X:=x51) mS.partial_correctness hP hN Ty.mixed wF (bL (by kernel_rfl)) λF v=>by kernel_rfl
theorem Nc:aA prog 51 Qw PP:=fnA x51 Tryz.func51 (by kernel_rfl) Ty.mixed wF rfl rfl rfl (λv=>by kernel_rfl) λC hP hN=>gq (by kernel_rfl) (by kernel_rfl) (GD C hP hN)
def tu:Cut SN:=⟨[(0, .dat (.sl .str)),(1, .vh 100000),(4, .bp 4 0),(6, .dat (.int .i64))],[(100000, .vec 44 (.st .itemT)),(4, .st .itemT)]⟩
def zt:Cut SN:=⟨[(0, .dat (.sl .str)),(1, .vh 100000),(4, .bp 4 0),(6, .dat (.int .i64)),(7, .bp 18 0),(8, .bp 8 0)],[(100000, .vec 44 (.st .itemT)),(4, .st .itemT),(18, .box none [.dat (.sl .str), .vh 100000, .dat .bool]),(8, .st .itemT)]⟩
def zu:Cut SN:=⟨[(0, .dat (.sl .str)),(1, .vh 100000),(4, .bp 4 0),(6, .dat (.int .i64)),(8, .bp 8 0),(74, .dat .bool)],[(100000, .vec 44 (.st .itemT)),(4, .st .itemT),(8, .st .itemT)]⟩
def Cl:Cut SN:=⟨[(1, .vh 100000),(4, .bp 4 0)],[(100000, .vec 44 (.st .itemT)),(4, .st .itemT)]⟩
def wl:Cut SN:=⟨[(1, .vh 100000),(4, .bp 4 0),(5, .dat .bool)],[(100000, .vec 44 (.st .itemT)),(4, .st .itemT)]⟩
def yd:az vw:={exits:=λid=>match id with|0=>Cl|_=>⟨[],[]⟩,rcut:=wl}
def un:Sig vw:={params:=[.dat (.sl .str), .vh 100000],objs:=[(100000, .vec 44 (.st .itemT))],rcut:=wl,rvars:=[.cell 4 44, .tmp 5],keep:=[100000]}
noncomputable def aF(v:(List ByteArray)×Int×(List Item)×Item×Unit):Option (((Bool×(List Item)×Item×Unit)⊕((List Item)×Item×Unit))):=if decide (v.2.1<4)=true then(if(v.2.1==0)=true then fI (v.1,false,v.2.2.1,())>>=λx1=>if x1.2.2.1.length=v.2.2.1.length then some ((v.1,v.2.1,x1.2.2.1,v.2.2.2.1,x1.1,x1.2.1,x1.2.2.2.1,()))else none else if(v.2.1==1)=true then fJ (v.1,false,v.2.2.1,())>>=λx1=>if x1.2.2.1.length=v.2.2.1.length then some ((v.1,v.2.1,x1.2.2.1,v.2.2.2.1,x1.1,x1.2.1,x1.2.2.2.1,()))else none else if(v.2.1==2)=true then fK (v.1,false,v.2.2.1,())>>=λx1=>if x1.2.2.1.length=v.2.2.1.length then some ((v.1,v.2.1,x1.2.2.1,v.2.2.2.1,x1.1,x1.2.1,x1.2.2.2.1,()))else none else if(v.2.1==3)=true then d6 (v.1,false,v.2.2.1,())>>=λx1=>if x1.2.2.1.length=v.2.2.1.length then some ((v.1,v.2.1,x1.2.2.1,v.2.2.2.1,x1.1,x1.2.1,x1.2.2.2.1,()))else none else some ((v.1,v.2.1,v.2.2.1,v.2.2.2.1,v.1,false,Item.mk 0 (Vp #[]) (0:Int) [] (aa.mk 0 0 false []),())))>>=λx1=>en (x1.2.1,x1.2.2.2.2.2.2.1.name0,x1.2.2.1,())>>=λx2=>if x2.2.1.length=x1.2.2.1.length then(if x1.2.2.2.2.2.1=true then some ((x1.1,x1.2.1,true,x2.2.1,x1.2.2.2.1,x1.2.2.2.2.2.2.1,()))else if decide ((↑x1.2.2.2.2.1.length:Int)>0)=true then some ((x1.1,x1.2.1,true,x2.2.1,x1.2.2.2.1,x1.2.2.2.2.2.2.1,()))else if x2.1=true then some ((x1.1,x1.2.1,true,x2.2.1,x1.2.2.2.1,x1.2.2.2.2.2.2.1,()))else if decide (x1.2.1>1)=true then if decide ((↑x1.2.2.2.2.2.2.1.names.length:Int)>12)=true then some ((x1.1,x1.2.1,true,x2.2.1,x1.2.2.2.1,x1.2.2.2.2.2.2.1,()))else z_ (aa.mk x1.2.2.2.2.2.2.1.layout.kind x1.2.2.2.2.2.2.1.layout.n x1.2.2.2.2.2.2.1.layout.flag x1.2.2.2.2.2.2.1.layout.parts,())>>=λx3=>some ((x1.1,x1.2.1,x3.1 !=0,x2.2.1,x1.2.2.2.1,x1.2.2.2.2.2.2.1,()))else some ((x1.1,x1.2.1,false,x2.2.1,x1.2.2.2.1,x1.2.2.2.2.2.2.1,())))>>=λx3=>if x3.2.2.1=true then aF (x3.1,i64.wrap (x3.2.1+1),x3.2.2.2.1,x3.2.2.2.2.1,())else some (V_ (true,x3.2.2.2.1,x3.2.2.2.2.2.1,()))else none else some (V9 (v.2.2.1,v.2.2.2.1,())) partial_fixpoint
noncomputable def jI(v:(List ByteArray)×(List Item)×Unit):Option (Bool×(List Item)×Item×Unit):=aF (v.1,(0:Int),v.2.1,Item.mk 0 (Vp #[]) (0:Int) [] (aa.mk 0 0 false []),())>>=λx1=>match x1 with| .inl y1=>some y1| .inr y1=>some ((false,y1.1,Item.mk 0 (Vp #[]) (0:Int) [] (aa.mk 0 0 false []),()))
def qb:al vw:=cO prog 48 nG en (cO prog 101 rq fI (cO prog 102 ru fJ (cO prog 103 rv fK (cO prog 104 rx d6 (cP prog 105 LB z_ c0)))))
def BV:Xc vw:={P:=prog,n:=77,call:=qb,pre:=aP,sh:=yd,joins:=λk=>match k with|15=>some (zt,[.norm])|_=>none,regs:=λk=>match k with|16=>some zu|_=>none,loops:=λk=>match k with|2=>some {cut:=tu,alts:=[.ret, .exit 0],F:=aF}|_=>none}
theorem kM:af prog qb:=aN oA (aN uW (aN uX (aN uY (aN uZ (aU Jg rfl rfl aJ)))))
theorem sF(C:Ctx)(hP:C.P=prog)(hN:C.N=77/\Fx C aP):aD C (aj (ah Tryz.f70) 0) (sh:=yd) {cut:=tu,alts:=[.ret, .exit 0],F:=aF}:=
 lpB (X:=BV) aF.partial_correctness hP hN Ty.mixed kM (bL (by kernel_rfl)) λF v=>by kernel_rfl
theorem xz:aA prog 70 un jI:=fnA BV Tryz.func70 (by kernel_rfl) Ty.mixed kM rfl rfl rfl (λv=>by kernel_rfl) λC hP hN=>gq (by kernel_rfl) (by kernel_rfl) (sF C hP hN)
def Ml:Cut SN:=⟨[(4, .dat (.sl (.sl (.st .tokenT)))),(5, .vh 1005),(6, .vh 1006),(7, .dat (.int .i64))],[(1005, .vec 44 (.st .itemT)),(1006, .vec 65 (.st .partT))]⟩
def Rt:Cut SN:=⟨[(5, .vh 1005),(6, .vh 1006)],[(1005, .vec 44 (.st .itemT)),(1006, .vec 65 (.st .partT))]⟩
def S7:Cut SN:=⟨[(2, .dat (.sl (.st .itemT))),(3, .dat (.sl (.st .partT)))],[]⟩
def TF:az vw:={exits:=λid=>match id with|0=>Rt|_=>⟨[],[]⟩,rcut:=S7}
def Qq:Sig vw:={params:=[.dat .str],rcut:=S7,rvars:=[.tmp 2, .tmp 3]}
noncomputable def mP(v:(List (List aK))×Int×(List Item)×(List k_)×Unit):Option (((List Item)×(List k_)×Unit)):=if decide (v.2.1<(↑v.1.length:Int))=true then(if 0<=v.2.1 then v.1[v.2.1.toNat]?>>=λx1=>PP (x1,())>>=λx2=>jI (x2.1,v.2.2.1,())>>=λx3=>if x3.2.1.length=v.2.2.1.length then if x3.1=true then if x3.2.1.length+[x3.2.2.1].length<=4294967296 then some ((v.1,v.2.1,x3.2.1++[x3.2.2.1],v.2.2.2.1,()))else none else PO (x2.1,())>>=λx4=>if v.2.2.2.1.length+[k_.mk (i64.wrap (v.2.1+1)) x4.1].length<=4294967296 then some ((v.1,v.2.1,x3.2.1,v.2.2.2.1++[k_.mk (i64.wrap (v.2.1+1)) x4.1],()))else none else none else none)>>=λx1=>mP (x1.1,i64.wrap (x1.2.1+1),x1.2.2.1,x1.2.2.2.1,())else some ((v.2.2.1,v.2.2.2.1,())) partial_fixpoint
noncomputable def PJ(v:ByteArray×Unit):Option ((List Item)×(List k_)×Unit):=PN (v.1,())>>=λx1=>mP (x1.1,(0:Int),[],[],())>>=λx2=>some ((x2.1,x2.2.1,()))
def ET:al vw:=λA fid args S k=>match fid with|49=>aV prog Qu PN A args S k|50=>aV prog Qv PO A args S k|51=>aV prog Qw PP A args S k|70=>(match args with|[_, .vh _]=>ff prog un jI A args S k|_=>none)|_=>none
def x38:Xc vw:={P:=prog,n:=45,call:=ET,pre:=aP,sh:=TF,joins:=λk=>match k with|6=>some (Ml,[.norm])|_=>none,loops:=λk=>match k with|5=>some {cut:=Ml,alts:=[.exit 0],F:=mP}|_=>none}
theorem wB:af prog ET:=λA fid args S dst k r h=>by
 unfold ET at h
 split at h
 ·exact ak (Na) rfl rfl h
 ·exact ak (Nb) rfl rfl h
 ·exact ak (Nc) rfl rfl h
 ·split at h
  ·exact dx (xz) h
  ·cases h
 ·cases h
theorem Gy(C:Ctx)(hP:C.P=prog)(hN:C.N=45/\Fx C aP):aD C (aj (ah Tryz.f38) 0) (sh:=TF) {cut:=Ml,alts:=[.exit 0],F:=mP}:=
 lpB (X:=x38) mP.partial_correctness hP hN Ty.mixed wB (bL (by kernel_rfl)) λF v=>by kernel_rfl
theorem MZ:aA prog 38 Qq PJ:=fnA x38 Tryz.func38 (by kernel_rfl) Ty.mixed wB rfl rfl rfl (λv=>by kernel_rfl) λC hP hN=>gq (by kernel_rfl) (by kernel_rfl) (Gy C hP hN)
end Go.Proofs.YtpelkenpapfadaaGreatDoor
end
section
namespace Go.Proofs.YtpelkenpapfadaaGreatDoor
open Go.Awp Go.Tx
open IntKind (i64)
open Go.Proofs.Tryz (prog)
set_option maxHeartbeats 4000000
set_option maxRecDepth 100000
def OP:Cut SN:=⟨[(5, .dat (.sl (.st .itemT))),(6, .dat (.sl (.st .partT))),(7, .vh 1007),(8, .dat (.int .i64))],[(1007, .vec 9 .str)]⟩
def Rk:Cut SN:=⟨[(5, .dat (.sl (.st .itemT))),(7, .vh 1007)],[(1007, .vec 9 .str)]⟩
def Tz:az vw:={exits:=λid=>match id with|0=>Rk|_=>⟨[],[]⟩,rcut:=QX}
def Ql:Sig vw:={params:=[.dat .str],rcut:=QX,rvars:=[.tmp 2, .tmp 3, .tmp 4]}
noncomputable def mD(v:(List Item)×(List k_)×Int×(List ByteArray)×Unit):Option (((List Item)×(List ByteArray)×Unit)):=if decide (v.2.2.1<(↑v.2.1.length:Int))=true then if 0<=v.2.2.1 then v.2.1[v.2.2.1.toNat]?>>=λx1=>if v.2.2.2.1.length+[x1.text].length<=4294967296 then mD (v.1,v.2.1,i64.wrap (v.2.2.1+1),v.2.2.2.1++[x1.text],())else none else none else some ((v.1,v.2.2.2.1,())) partial_fixpoint
noncomputable def PF(v:ByteArray×Unit):Option ((List Item)×(List ByteArray)×Int×Unit):=Q0 (v.1,())>>=λx1=>if x1.1=true then some (([],[],(3:Int),()))else PJ (v.1,())>>=λx2=>mD (x2.1,x2.2.1,(0:Int),[],())>>=λx3=>some ((x3.1,x3.2.1,(0:Int),()))
def KR:al vw:=cP prog 37 Qp Q0 (cP prog 38 Qq PJ c0)
def x12:Xc vw:={P:=prog,n:=32,call:=KR,pre:=aP,sh:=Tz,loops:=λk=>match k with|6=>some {cut:=OP,alts:=[.exit 0],F:=mD}|_=>none}
theorem ww:af prog KR:=aU MY rfl rfl (aU MZ rfl rfl aJ)
theorem Gi(C:Ctx)(hP:C.P=prog)(hN:C.N=32/\Fx C aP):aD C (aj (ah Tryz.f12) 0) (sh:=Tz) {cut:=OP,alts:=[.exit 0],F:=mD}:=
 lpB (X:=x12) mD.partial_correctness hP hN Ty.mixed ww (bL (by kernel_rfl)) λF v=>by kernel_rfl
theorem MO:aA prog 12 Ql PF:=fnA x12 Tryz.func12 (by kernel_rfl) Ty.mixed ww rfl rfl rfl (λv=>by kernel_rfl) λC hP hN=>gq (by kernel_rfl) (by kernel_rfl) (Gi C hP hN)
def OS:Cut SN:=⟨[(4, .vh 1004),(11, .dat (.sl (.sl .str))),(12, .dat (.int .i64)),(13, .dat (.int .i64))],[(1004, .vec 9 .str)]⟩
def Rm:Cut SN:=⟨[(4, .vh 1004)],[(1004, .vec 9 .str)]⟩
def SX:Cut SN:=⟨[(2, .dat (.sl .str)),(3, .dat (.int .i64))],[]⟩
def TA:az vw:={exits:=λid=>match id with|0=>Rm|_=>⟨[],[]⟩,rcut:=SX}
def Qm:Sig vw:={params:=[.dat .str],rcut:=SX,rvars:=[.tmp 2, .tmp 3]}
noncomputable def mG(v:(List (List ByteArray))×Int×Int×(List ByteArray)×Unit):Option (((List ByteArray)×Unit)):=if decide (v.2.2.1<v.2.1)=true then if 0<=v.2.2.1 then v.1[v.2.2.1.toNat]?>>=λx1=>MX (x1,())>>=λx2=>if v.2.2.2.1.length+[x2.1].length<=4294967296 then mG (v.1,v.2.1,i64.wrap (v.2.2.1+1),v.2.2.2.1++[x2.1],())else none else none else some ((v.2.2.2.1,())) partial_fixpoint
noncomputable def PG(v:ByteArray×Unit):Option ((List ByteArray)×Int×Unit):=if decide ((↑v.1.size:Int)>4096)=true then some (([],(3:Int),()))else MV (v.1,())>>=λx1=>mG (x1.1,(↑x1.1.length:Int),(0:Int),[],())>>=λx2=>some ((x2.1,(0:Int),()))
def KS:al vw:=cP prog 34 NQ MV (cP prog 36 NS MX c0)
def x13:Xc vw:={P:=prog,n:=24,call:=KS,pre:=aP,sh:=TA,loops:=λk=>match k with|5=>some {cut:=OS,alts:=[.exit 0],F:=mG}|_=>none}
theorem wx:af prog KS:=aU Gt rfl rfl (aU Gx rfl rfl aJ)
theorem Gj(C:Ctx)(hP:C.P=prog)(hN:C.N=24/\Fx C aP):aD C (aj (ah Tryz.f13) 0) (sh:=TA) {cut:=OS,alts:=[.exit 0],F:=mG}:=
 lpB (X:=x13) mG.partial_correctness hP hN Ty.mixed wx (bL (by kernel_rfl)) λF v=>by kernel_rfl
theorem MP:aA prog 13 Qm PG:=fnA x13 Tryz.func13 (by kernel_rfl) Ty.mixed wx rfl rfl rfl (λv=>by kernel_rfl) λC hP hN=>gq (by kernel_rfl) (by kernel_rfl) (Gj C hP hN)
def OW:Cut SN:=⟨[(0, .dat (.sl .str)),(1, .dat (.sl .str)),(5, .dat (.int .i64))],[]⟩
def TC:az vw:={exits:=λid=>match id with|0=>si|_=>⟨[],[]⟩,rcut:=gI}
def NP:Sig vw:={params:=[.dat (.sl .str), .dat (.sl .str)],rcut:=gI,rvars:=[.tmp 4]}
noncomputable def oz(v:(List ByteArray)×(List ByteArray)×Int×Unit):Option (((Bool×Unit)⊕(Unit))):=if decide (v.2.2.1<(↑v.1.length:Int))=true then if 0<=v.2.2.1 then v.1[v.2.2.1.toNat]?>>=λx1=>if 0<=v.2.2.1 then v.2.1[v.2.2.1.toNat]?>>=λx2=>if(!x1.toList==x2.toList)=true then some (V_ (false,()))else oz (v.1,v.2.1,i64.wrap (v.2.2.1+1),())else none else none else some (V9 ()) partial_fixpoint
noncomputable def Lq(v:(List ByteArray)×(List ByteArray)×Unit):Option (Bool×Unit):=if((↑v.1.length:Int) !=(↑v.2.1.length:Int))=true then some ((false,()))else oz (v.1,v.2.1,(0:Int),())>>=λx1=>match x1 with| .inl y1=>some y1| .inr y1=>some ((true,()))
def KU:al vw:=c0
def x15:Xc vw:={P:=prog,n:=26,call:=KU,pre:=aP,sh:=TC,loops:=λk=>match k with|4=>some {cut:=OW,alts:=[.ret, .exit 0],F:=oz}|_=>none}
theorem wz:af prog KU:=aJ
theorem Gq(C:Ctx)(hP:C.P=prog)(hN:C.N=26/\Fx C aP):aD C (aj (ah Tryz.f15) 0) (sh:=TC) {cut:=OW,alts:=[.ret, .exit 0],F:=oz}:=
 lpB (X:=x15) oz.partial_correctness hP hN Ty.mixed wz (bL (by kernel_rfl)) λF v=>by kernel_rfl
theorem Gp:aA prog 15 NP Lq:=fnA x15 Tryz.func15 (by kernel_rfl) Ty.mixed wz rfl rfl rfl (λv=>by kernel_rfl) λC hP hN=>gq (by kernel_rfl) (by kernel_rfl) (Gq C hP hN)
def Eq:Cut SN:=⟨[(2, .bp 2 0),(3, .bp 3 0),(5, .dat (.int .i64))],[(2, .st .layoutT),(3, .st .layoutT)]⟩
def Ru:Cut SN:=⟨[(2, .bp 2 0),(3, .bp 3 0),(33, .dat .bool)],[(2, .st .layoutT),(3, .st .layoutT)]⟩
def Sp:az vw:={exits:=λid=>match id with|0=>si|_=>⟨[],[]⟩,rcut:=gI}
def nF:Sig vw:={params:=[.dat (.st .layoutT), .dat (.st .layoutT)],rcut:=gI,rvars:=[.tmp 4]}
mutual
noncomputable def jB(v:Int×aa×aa×Unit):Option (((Bool×Unit)⊕(Unit))):=if decide (v.1<(↑v.2.1.parts.length:Int))=true then if 0<=v.1 then v.2.1.parts[v.1.toNat]?>>=λx1=>if 0<=v.1 then v.2.2.1.parts[v.1.toNat]?>>=λx2=>n_39 (x1,x2,())>>=λx3=>if(!x3.1)=true then some (V_ (false,()))else jB (i64.wrap (v.1+1),v.2.1,v.2.2.1,())else none else none else some (V9 ()) partial_fixpoint
noncomputable def n_39(v:aa×aa×Unit):Option (Bool×Unit):=(if(v.1.kind !=v.2.1.kind)=true then some ((true,v.1,v.2.1,()))else if(v.1.n !=v.2.1.n)=true then some ((true,v.1,v.2.1,()))else if(!v.1.flag==v.2.1.flag)=true then some ((true,v.1,v.2.1,()))else some (((↑v.1.parts.length:Int) !=(↑v.2.1.parts.length:Int),v.1,v.2.1,())))>>=λx1=>if x1.1=true then some ((false,()))else jB ((0:Int),x1.2.1,x1.2.2.1,())>>=λx2=>match x2 with| .inl y2=>some y2| .inr y2=>some ((true,())) partial_fixpoint
end
def EU(jB:Int×aa×aa×Unit->Option (((Bool×Unit)⊕(Unit))))(n_39:aa×aa×Unit->Option (Bool×Unit)):al vw:=λA fid args S k=>match fid with|39=>aV prog nF n_39 A args S k|_=>none
def x39(jB:Int×aa×aa×Unit->Option (((Bool×Unit)⊕(Unit))))(n_39:aa×aa×Unit->Option (Bool×Unit)):Xc vw:={P:=prog,n:=53,call:=EU jB n_39,pre:=aP,sh:=Sp,regs:=λk=>match k with|1=>some Ru|_=>none,loops:=λk=>match k with|4=>some {cut:=Eq,alts:=[.ret, .exit 0],F:=jB}|_=>none}
abbrev lJ(v:Int×aa×aa×Unit)(r:((Bool×Unit)⊕(Unit))):Prop:=(λv out=>∀C:Ctx,C.P=prog->C.N=53/\Fx C aP->oP C (aj (ah Tryz.f39) 0) (Go.Tx.aI vw (bZ vw Eq v)) (vL Sp [.ret, .exit 0] out)) v r
abbrev F7(v:aa×aa×Unit)(r:Bool×Unit):Prop:=(λv r=>∀x,rh prog nF r=some x->i6 prog 39 (encL vw (ay nF v).len (a_ nF v).1) (bB (ay nF v).len (ay nF v).own) (ao vw (bZ vw nF.rcut r).len x) (bB (bZ vw nF.rcut r).len (jx nF r))) v r
theorem Mr(f0:Int×aa×aa×Unit->Option (((Bool×Unit)⊕(Unit))))(f1:aa×aa×Unit->Option (Bool×Unit))(h0:∀v r,f0 v=some r->lJ v r)(h1:∀v r,f1 v=some r->F7 v r):af prog (x39 f0 f1).call:=(by
 intro A fid args S dst k r h
 unfold x39 EU at h
 simp only at h
 split at h
 ·exact ak ((λv r x h hx=>h1 v r h x hx)) rfl rfl h
 ·cases h)
theorem N0(f0:Int×aa×aa×Unit->Option (((Bool×Unit)⊕(Unit))))(f1:aa×aa×Unit->Option (Bool×Unit))(h0:∀v r,f0 v=some r->lJ v r)(h1:∀v r,f1 v=some r->F7 v r)(v:Int×aa×aa×Unit)(r:((Bool×Unit)⊕(Unit)))(h:exL (x39 f0 f1) (aj (ah Tryz.f39) 0) Eq [.ret, .exit 0] f0 v=some r):lJ v r:=λC hP hN=>c8 (X:=x39 f0 f1) (b:=(aj (ah Tryz.f39) 0)) hP hN Ty.mixed (Mr f0 f1 h0 h1) (bo (X:=x39 f0 f1) (c:=(aj (ah Tryz.f39) 0)) (bw (by kernel_rfl:True=fR (bt C (x39 f0 f1)) (aR (aj (ah Tryz.f39) 0))) trivial)) (cut:=Eq) (alts:=[.ret, .exit 0]) (F:=f0) (λv out h=>h0 v out h C hP hN) h
theorem RK(f0:Int×aa×aa×Unit->Option (((Bool×Unit)⊕(Unit))))(h0:∀v r,f0 v=some r->lJ v r):af prog (x39 f0 (λ_=>none)).call:=(by
 intro A fid args S dst k r h
 unfold x39 EU at h
 simp only at h
 split at h
 ·exact ak ((λv r x h hx=>by cases h)) rfl rfl h
 ·cases h)
theorem St(f0:Int×aa×aa×Unit->Option (((Bool×Unit)⊕(Unit))))(h0:∀v r,f0 v=some r->lJ v r)(v:aa×aa×Unit)(r:Bool×Unit)(h:exF (x39 f0 (λ_=>none)) nF rfl (ah Tryz.f39) v=some r):F7 v r:=λx hx=>mm (X:=x39 f0 (λ_=>none)) (sig:=nF) rfl Tryz.func39 (c:=ah Tryz.f39) (by kernel_rfl) Tryz.ntmps39 (by kernel_rfl) (by kernel_rfl) rfl Ty.mixed (RK f0 h0) rfl (λC hP hN=>(bo (X:=x39 f0 (λ_=>none)) (c:=(ah Tryz.f39)) (bw (by kernel_rfl:fR (bt C (x39 f0 (λ_=>none))) [(aj (ah Tryz.f39) 0)]=fR (bt C (x39 f0 (λ_=>none))) (aR (ah Tryz.f39))) ⟨dS (X:=x39 f0 (λ_=>none)) (b:=(aj (ah Tryz.f39) 0)) (by kernel_rfl) (show aD C (aj (ah Tryz.f39) 0) (sh:=Sp) {cut:=Eq,alts:=[.ret, .exit 0],F:=f0}fromλv out h=>h0 v out h C hP hN),trivial⟩))) h x hx
theorem Da:(∀v r,jB v=some r->lJ v r)/\(∀v r,n_39 v=some r->F7 v r):=by
 refine jB.mutual_partial_correctness
  (motive_1:=lJ)
  (motive_2:=F7)
  ?_ ?_
 ·exact(λf0 f1 h0 h1 v r h=>N0 f0 f1 h0 h1 v r (bw (by kernel_rfl) h))
 ·exact(λf0 h0 v r h=>St f0 h0 v r (bw (by kernel_rfl) h))
theorem M3:aA prog 39 nF n_39:=λv r x h hx=>Da.2 v r h x hx
def OV:Cut SN:=⟨[(0, .dat (.sl (.st .itemT))),(1, .dat (.sl (.st .itemT))),(5, .dat (.int .i64))],[]⟩
def Rn:Cut SN:=⟨[(0, .dat (.sl (.st .itemT))),(1, .dat (.sl (.st .itemT))),(5, .dat (.int .i64)),(81, .dat .bool)],[]⟩
def TB:az vw:={exits:=λid=>match id with|0=>si|_=>⟨[],[]⟩,rcut:=gI}
def Qn:Sig vw:={params:=[.dat (.sl (.st .itemT)), .dat (.sl (.st .itemT))],rcut:=gI,rvars:=[.tmp 4]}
noncomputable def mH(v:(List Item)×(List Item)×Int×Unit):Option (((Bool×Unit)⊕(Unit))):=if decide (v.2.2.1<(↑v.1.length:Int))=true then(if 0<=v.2.2.1 then v.1[v.2.2.1.toNat]?>>=λx1=>if 0<=v.2.2.1 then v.2.1[v.2.2.1.toNat]?>>=λx2=>if(x1.kind !=x2.kind)=true then some ((v.1,v.2.1,v.2.2.1,true,()))else if 0<=v.2.2.1 then v.1[v.2.2.1.toNat]?>>=λx3=>if 0<=v.2.2.1 then v.2.1[v.2.2.1.toNat]?>>=λx4=>if(!x3.name0.toList==x4.name0.toList)=true then some ((v.1,v.2.1,v.2.2.1,true,()))else if 0<=v.2.2.1 then v.1[v.2.2.1.toNat]?>>=λx5=>if 0<=v.2.2.1 then v.2.1[v.2.2.1.toNat]?>>=λx6=>if(x5.n !=x6.n)=true then some ((v.1,v.2.1,v.2.2.1,true,()))else if 0<=v.2.2.1 then v.1[v.2.2.1.toNat]?>>=λx7=>if 0<=v.2.2.1 then v.2.1[v.2.2.1.toNat]?>>=λx8=>Lq (x7.names,x8.names,())>>=λx9=>if(!x9.1)=true then some ((v.1,v.2.1,v.2.2.1,true,()))else if 0<=v.2.2.1 then v.1[v.2.2.1.toNat]?>>=λx10=>if 0<=v.2.2.1 then v.2.1[v.2.2.1.toNat]?>>=λx11=>n_39 (aa.mk x10.layout.kind x10.layout.n x10.layout.flag x10.layout.parts,aa.mk x11.layout.kind x11.layout.n x11.layout.flag x11.layout.parts,())>>=λx12=>some ((v.1,v.2.1,v.2.2.1,!x12.1,()))else none else none else none else none else none else none else none else none else none else none)>>=λx1=>if x1.2.2.2.1=true then some (V_ (false,()))else mH (x1.1,x1.2.1,i64.wrap (x1.2.2.1+1),())else some (V9 ()) partial_fixpoint
noncomputable def MQ(v:(List Item)×(List Item)×Unit):Option (Bool×Unit):=if((↑v.1.length:Int) !=(↑v.2.1.length:Int))=true then some ((false,()))else mH (v.1,v.2.1,(0:Int),())>>=λx1=>match x1 with| .inl y1=>some y1| .inr y1=>some ((true,()))
def KT:al vw:=cP prog 15 NP Lq (cP prog 39 nF n_39 c0)
def x14:Xc vw:={P:=prog,n:=82,call:=KT,pre:=aP,sh:=TB,regs:=λk=>match k with|6=>some Rn|_=>none,loops:=λk=>match k with|4=>some {cut:=OV,alts:=[.ret, .exit 0],F:=mH}|_=>none}
theorem wy:af prog KT:=aU Gp rfl rfl (aU M3 rfl rfl aJ)
theorem Gn(C:Ctx)(hP:C.P=prog)(hN:C.N=82/\Fx C aP):aD C (aj (ah Tryz.f14) 0) (sh:=TB) {cut:=OV,alts:=[.ret, .exit 0],F:=mH}:=
 lpB (X:=x14) mH.partial_correctness hP hN Ty.mixed wy (bL (by kernel_rfl)) λF v=>by kernel_rfl
theorem MR:aA prog 14 Qn MQ:=fnA x14 Tryz.func14 (by kernel_rfl) Ty.mixed wy rfl rfl rfl (λv=>by kernel_rfl) λC hP hN=>gq (by kernel_rfl) (by kernel_rfl) (Gn C hP hN)
def sh3:az vw:={rcut:=dw}
def UO:Sig vw:={params:=[.dat .str],rcut:=dw,rvars:=[.tmp 2]}
noncomputable def n_3(v:ByteArray×Unit):Option (Bool×Unit):=if decide ((↑v.1.size:Int)>6000)=true then Oo ()>>=λx1=>some ((x1.1,()))else Gb (v.1,())>>=λx1=>PF (v.1,())>>=λx2=>PG (v.1,())>>=λx3=>(MQ (x1.1,x2.1,())>>=λx4=>if x4.1=true then Lq (x1.2.1,x2.2.1,())>>=λx5=>if x5.1=true then if(x1.2.2.1==x2.2.2.1)=true then if(x3.2.1==x1.2.2.1)=true then if((↑x3.1.length:Int)==i64.wrap ((↑x1.1.length:Int)+(↑x1.2.1.length:Int)))=true then Oo ()>>=λx6=>some ((x6.1,()))else some ((false,()))else some ((false,()))else some ((false,()))else some ((false,()))else some ((false,())))>>=λx4=>some ((x4.1,()))
def Pa:al vw:=cP prog 10 Qk Oo (cP prog 11 J2 Gb (cP prog 12 Ql PF (cP prog 13 Qm PG (cP prog 14 Qn MQ (cP prog 15 NP Lq c0)))))
def x3:Xc vw:={P:=prog,n:=63,call:=Pa,pre:=aP,sh:=sh3,regs:=λk=>match k with|6=>some dw|_=>none}
theorem IQ:af prog Pa:=aU MM rfl rfl (aU Ab rfl rfl (aU MO rfl rfl (aU MP rfl rfl (aU MR rfl rfl (aU Gp rfl rfl aJ)))))
theorem PK:aA prog 3 UO n_3:=fnA x3 Tryz.func3 (by kernel_rfl) Ty.mixed IQ rfl rfl rfl (λv=>by kernel_rfl) λC hP hN=>bL (by kernel_rfl)
end Go.Proofs.YtpelkenpapfadaaGreatDoor
end
section
namespace Go.Proofs.YtpelkenpapfadaaGreatDoor
set_option maxRecDepth 20000
open Go.Lib
theorem b_(s:ByteArray):s.data.toList.length=s.size:=WK
theorem rU(s:ByteArray):∀(n i:Nat) (r:List UInt8),s.size-i=n->X6 s i r=r.reverse++s.data.toList.drop i
 |0,i,r,h=>by
  have hs:=b_ s
  rw[X6,Y4 (by omega),WR (by omega),Wo]
 |n+1,i,r,h=>by
  have hs:=b_ s
  have hi:i<s.data.toList.length:=by omega
  rw[X6,Y5 (by omega),rU s n (i+1) _ (by omega),WU hi,List.reverse_cons,Wc]
  have:s.get! i=s.data.toList[i]:=by
   have:=getD_get!' s i
   rw[<-this,VS,Vw hi];rfl
  rw[this];rfl
theorem eL(s:ByteArray):s.toList=s.data.toList:=by
 unfold ByteArray.toList
 rw[rU s _ 0 [] rfl];simp
theorem AN{a b:ByteArray}(h:a.data.toList=b.data.toList):a=b:=by
 cases a;cases b;simp only at h;congr 1;exact W6.mp h
theorem aL(a b:ByteArray):(a.toList==b.toList)=decide (a=b):=by
 rw[eL,eL]
 by_cases h:a=b
 ·subst h;simp
 ·rw[decide_eq_false h]
  exact beq_eq_false_iff_ne.mpr λh2=>h (AN h2)
theorem dP{α:Type}{xs:List α}{k:Nat}(h:k<xs.length):∃p,xs[k]?=some p/\p∈xs/\xs.drop k=p::xs.drop (k+1)/\((k:Int)<(xs.length:Int))/\(0:Int)<=(k:Int):=
 let⟨p,a,b,c⟩:=Fs h
 ⟨p,a,b,c,by omega,by omega⟩
theorem gO{α:Type}{xs:List α}{k:Nat}(h:¬k<xs.length):xs.drop k=[]/\¬((k:Int)<(xs.length:Int)):=⟨dy h,by omega⟩
theorem eta(l:aa):aa.mk l.kind l.n l.flag l.parts=l:=by cases l;rfl
theorem nw(a b:aa):a=b↔a.kind=b.kind/\a.n=b.n/\a.flag=b.flag/\a.parts=b.parts:=by
 cases a;cases b;simp
theorem kb(a b:Item):a=b↔a.kind=b.kind/\a.name0=b.name0/\a.n=b.n/\a.names=b.names/\a.layout=b.layout:=by
 cases a;cases b;simp
end Go.Proofs.YtpelkenpapfadaaGreatDoor
end
section
namespace Go.Proofs.YtpelkenpapfadaaGreatDoor
set_option maxRecDepth 20000
open Go.Lib
theorem bU{s:ByteArray}{i:Nat}(h:i<s.size):s[i]?=some (s.data.toList.getD i 0):=by
 have e:s[i]?=some s[i]:=by exact getElem?_pos s i h
 rw[e,VS,Vw (by rw[b_];exact h)];rfl
theorem sZ(s:ByteArray)(a b:Nat):(s.extract a b).data.toList=(s.data.toList.take b).drop a:=by
 simp[ByteArray.data_extract,Array.toList_extract,List.extract_eq_take_drop,List.drop_take]
theorem OE(s:ByteArray):(⟨s.data.toList.toArray⟩:ByteArray)=s:=by cases s;simp
def mkB(l:List UInt8):ByteArray:=⟨l.toArray⟩
theorem dL(l:List UInt8):(mkB l).data.toList=l:=by simp[mkB]
theorem mB(l:List UInt8):(mkB l).size=l.length:=by rw[<-b_,dL]
theorem iu(s:ByteArray)(a n:Nat):s.extract a (a+n)=mkB ((s.data.toList.drop a).take n):=by
 apply AN;rw[sZ,dL,List.drop_take];congr 1;omega
def CS(n:Int):Bool:=decide (97<=n)&&decide (n<=122)||(decide (65<=n)&&decide (n<=90)||n==95)
def xd(n:Int):Bool:=decide (48<=n)&&decide (n<=57)
def isL(c:UInt8):Bool:=CS c.toNat
def isD(c:UInt8):Bool:=xd c.toNat
def tS(c:UInt8):Bool:=isL c||isD c
def isW(c:UInt8):Bool:=(c.toNat:Int)==32||((c.toNat:Int)==9||(c.toNat:Int)==10)
theorem f86(n:Int):Ls (n,())=some (CS n,()):=by
 unfold Ls CS
 by_cases a:97<=n<;>by_cases b:n<=122<;>by_cases c:65<=n<;>by_cases d:n<=90<;>simp only[ge_iff_le,a,b,c,d,Y7,Y8,Y1,Vj,Y2,Vi,Vk,WA,XB,WP,XL,V2,VX,Wz]
theorem f87(n:Int):JB (n,())=some (xd n,()):=by
 unfold JB xd
 by_cases a:48<=n<;>simp only[ge_iff_le,a,Y7,Y8,Y1,Vj,Y2,Vi,Vk,WA,WP]
theorem f88(n:Int):Lt (n,())=some (CS n,()):=by
 unfold Lt CS
 by_cases a:97<=n<;>by_cases b:n<=122<;>by_cases c:65<=n<;>by_cases d:n<=90<;>simp only[ge_iff_le,a,b,c,d,Y7,Y8,Y1,Vj,Y2,Vi,Vk,WA,XB,WP,XL,V2,VX,Wz]
theorem f89(n:Int):JC (n,())=some (xd n,()):=by
 unfold JC xd
 by_cases a:48<=n<;>simp only[ge_iff_le,a,Y7,Y8,Y1,Vj,Y2,Vi,Vk,WA,WP]
def fk:List UInt8->Nat
 |[]=>0
 |c::r=>if isL c then 1+(r.takeWhile tS).length else if isD c then 1+(r.takeWhile isD).length else 1
theorem da(c:UInt8)(r:List UInt8):fk (c::r)=if isL c then 1+(r.takeWhile tS).length else if isD c then 1+(r.takeWhile isD).length else 1:=rfl
theorem eU(c:UInt8)(r:List UInt8):1<=fk (c::r):=by rw[da];(repeat' split)<;>omega
theorem LV{α}(p:α->Bool)(r:List α):(r.takeWhile p).length<=r.length:=(List.takeWhile_sublist p).length_le
theorem rS(l:List UInt8):fk l<=l.length:=by
 cases l with
 |nil=>simp[fk]
 |cons c r=>
  have:=LV tS r
  have:=LV isD r
  rw[da,VD];(repeat' split)<;>omega
def mb(i:Nat)(l:List UInt8):List (Nat×List UInt8):=
 match l with
 |[]=>[]
 |c::r=>if isW c then mb (i+1) r else(i,(c::r).take (fk (c::r)))::mb (i+fk (c::r)) ((c::r).drop (fk (c::r)))
termination_by l.length
decreasing_by
 ·simp
 ·have:=eU c r;simp only[Wg,VD];omega
theorem dN(i:Nat):mb i []=[]:=by rw[mb]
theorem jb{i:Nat}{c:UInt8}{r:List UInt8}(h:isW c=true):mb i (c::r)=mb (i+1) r:=by rw[mb,Y5 h]
theorem ja{i:Nat}{c:UInt8}{r:List UInt8}(h:isW c=false):mb i (c::r)=(i,(c::r).take (fk (c::r)))::mb (i+fk (c::r)) ((c::r).drop (fk (c::r))):=by
 rw[mb,Y4 (by rw[h];exact VK)]
theorem HY{p:UInt8->Bool}(h:p 10=false):∀(a b:List UInt8),(a++10::b).takeWhile p=a.takeWhile p
 |[],b=>by simp[List.takeWhile,h]
 |c::r,b=>by
  rw[VM,W2,W2,HY h r b]
theorem Kb(a b:List UInt8)(ha:a≠[]):fk (a++10::b)=fk a:=by
 cases a with
 |nil=>exact(ha rfl).elim
 |cons c r=>rw[VM,da,da,HY (p:=tS) (by decide),HY (p:=isD) (by decide)]
theorem vC:∀(n:Nat) (a b:List UInt8) (i:Nat),a.length<=n->mb i (a++10::b)=mb i a++mb (i+a.length+1) b
 |n,[],b,i,_=>by
  rw[V7,jb (by decide),dN];rfl
 |0,c::r,b,i,h=>by simp at h
 |n+1,c::r,b,i,h=>by
  rw[VD]at h
  cases hw:isW c with
  |true=>
   rw[VM,jb hw,jb hw,vC n r b (i+1) (by omega),VD]
   congr 2;omega
  |false=>
   have h1:=Kb (c::r) b (by simp)
   have h2:=rS (c::r)
   have h3:=eU c r
   rw[VM]at h1
   rw[VM,ja hw,ja hw,h1,<-VM,Ya h2,List.drop_append_of_le_length h2,
    vC n _ b _ (by rw[Wg,VD];omega),VM,Wg]
   congr 3;rw[VD]at h2⊢;omega
theorem vD:∀(n:Nat) (l:List UInt8) (i:Nat),l.length<=n->∀p∈mb i l,i<=p.1/\p.1<i+l.length
 |n,[],i,_=>by simp[dN]
 |0,c::r,i,h=>by simp at h
 |n+1,c::r,i,h=>by
  rw[VD]at h
  intro p hp
  cases hw:isW c with
  |true=>
   rw[jb hw]at hp
   have:=vD n r (i+1) (by omega) p hp
   rw[VD];omega
  |false=>
   rw[ja hw]at hp
   rcases VG.1 hp with rfl|hp
   ·simp
   ·have h3:=eU c r
    have h2:=rS (c::r)
    have:=vD n _ _ (by rw[Wg,VD];omega) p hp
    rw[Wg]at this
    rw[VD]at *;omega
theorem ku:∀(n:Nat) (l:List UInt8) (i:Nat),l.length<=n->(mb i l).length<=l.length
 |n,[],i,_=>by simp[dN]
 |0,c::r,i,h=>by simp at h
 |n+1,c::r,i,h=>by
  rw[VD]at h
  cases hw:isW c with
  |true=>rw[jb hw,VD];have:=ku n r (i+1) (by omega);omega
  |false=>
   rw[ja hw,VD,VD]
   have h3:=eU c r
   have:=ku n ((c::r).drop (fk (c::r))) (i+fk (c::r)) (by rw[Wg,VD];omega)
   rw[Wg,VD]at this;omega
theorem yn(i:Nat)(r:List UInt8):mb i (35::r)=(i,[35])::mb (i+1) r:=by
 rw[ja (by decide)]
 have:fk (35::r)=1:=by simp[da,show isL 35=false by decide,show isD 35=false by decide]
 rw[this];rfl
def se(t:ByteArray):Prop:=∃c r,t.data.toList=c::r/\(isD c=true->∀x∈r,isD x=true)
theorem LU{α}{p:α->Bool}:∀{l:List α},∀x∈l.takeWhile p,p x=true
 |[],x,h=>by simp at h
 |a::l,x,h=>by
  rw[W2]at h
  split at h
  ·rename_i ha
   rcases VG.1 h with rfl|h
   ·exact ha
   ·exact LU x h
  ·simp at h
theorem HZ{α}{p:α->Bool}:∀(l:List α),l.take (l.takeWhile p).length=l.takeWhile p
 |[]=>rfl
 |a::l=>by
  rw[W2]
  split
  ·rw[VD,YQ,HZ l]
  ·rfl
theorem P0{c:UInt8}(h:isD c=true):isL c=false:=by
 unfold isD xd at h;unfold isL CS
 simp only[VE,Y3]at h
 simp only[We,Bool.and_eq_false_iff,decide_eq_false_iff_not,beq_eq_false_iff_ne]
 omega
theorem AA:∀(n:Nat) (l:List UInt8) (i:Nat),l.length<=n->∀p∈mb i l,se (mkB p.2)
 |n,[],i,_=>by simp[dN]
 |0,c::r,i,h=>by simp at h
 |n+1,c::r,i,h=>by
  rw[VD]at h
  intro p hp
  cases hw:isW c with
  |true=>rw[jb hw]at hp;exact AA n r (i+1) (by omega) p hp
  |false=>
   rw[ja hw]at hp
   have h3:=eU c r
   rcases VG.1 hp with rfl|hp
   ·refine⟨c,r.take (fk (c::r) -1),?_,λhd x hx=> ?_⟩
    ·rw[dL]
     obtain⟨m,hm⟩:∃m,fk (c::r)=m+1:=⟨fk (c::r) -1,by omega⟩
     simp only[hm,YQ,Yg]
    ·have e:fk (c::r)=1+(r.takeWhile isD).length:=by simp[da,P0 hd,hd]
     rw[e,Nat.add_sub_cancel_left,HZ]at hx
     exact LU x hx
   ·exact AA n _ _ (by rw[Wg,VD];omega) p hp
def Rb(s:ByteArray):List ByteArray:=(mb 0 s.data.toList).map λp=>mkB p.2
theorem nL:∀(n:Nat) (l:List UInt8) (i j:Nat),l.length<=n->(mb i l).map (·.2)=(mb j l).map (·.2)
 |n,[],i,j,_=>by simp[dN]
 |0,c::r,i,j,h=>by simp at h
 |n+1,c::r,i,j,h=>by
  rw[VD]at h
  cases hw:isW c with
  |true=>rw[jb hw,jb hw];exact nL n r _ _ (by omega)
  |false=>
   rw[ja hw,ja hw,VC,VC]
   have h3:=eU c r
   rw[nL n ((c::r).drop (fk (c::r))) _ (j+fk (c::r)) (by rw[Wg,VD];omega)]
end Go.Proofs.YtpelkenpapfadaaGreatDoor
end
section
namespace Go.Proofs.YtpelkenpapfadaaGreatDoor
set_option maxRecDepth 20000
open Go.Lib
theorem gA{s:ByteArray}{i:Nat}(h:i<s.size):s.data.toList.drop i=s.data.toList.getD i 0::s.data.toList.drop (i+1):=by
 have h':i<s.data.toList.length:=by rw[b_];exact h
 rw[WU h',VS,Vw h'];rfl
theorem im{s:ByteArray}{i:Nat}(h:¬i<s.size):s.data.toList.drop i=[]:=WR (by rw[b_];omega)
theorem vF{a n:Nat}(h:a+n<=4000000000):IntKind.i64.wrap ((a:Int)+(n:Int))=((a+n:Nat):Int):=(cN (by omega) (by omega)).trans (by omega)
theorem bh{a:Nat}(h:a<=4000000000):IntKind.i64.wrap ((a:Int)+1)=((a+1:Nat):Int):=(cN (by omega) (by omega)).trans (by omega)
--begin 52
theorem R2(s:ByteArray)(hs:s.size<=1000000000)(a:Nat)(out:List ByteArray):∀(m n:Nat),s.size-(a+n)=m->a+n<=s.size->
 cW (s,a,n,out,())=some (s,(a:Int),((n+((s.data.toList.drop (a+n)).takeWhile tS).length:Nat):Int),out,()):=by
 intro m
 induction m with
 |zero=>
  intro n hm hl
  have hlt:¬a+n<s.size:=by omega
  rw[cW]
  simp only[vF (a:=a) (n:=n) (by omega),Vi,Vk,Vr,Y1,Y2,Vj,Vn,Vl,Vm,Y6,Y3,Vs,hlt,Y8,im hlt,XV,VU,V3]
 |succ m ih=>
  intro n hm hl
  have hlt:a+n<s.size:=by omega
  have h:=ih (n+1) (by omega) (by omega)
  rw[<-WE]at h
  rw[cW,gA hlt,W2]
  cases h1:CS ((s.data.toList.getD (a+n) 0).toNat:Int)with
  |true=>
   have e:tS (s.data.toList.getD (a+n) 0)=true:=by unfold tS isL;rw[h1];rfl
   simp only[vF (a:=a) (n:=n) (by omega),Vi,Vk,Vr,Y1,Y2,Vj,Vn,Vl,Vm,Y6,Y3,Vs,hlt,Y7,bU hlt,f86,h1,bh (a:=n) (by omega),h,e,VD]
   congr 4;omega
  |false=>
   cases h2:xd ((s.data.toList.getD (a+n) 0).toNat:Int)with
   |true=>
    have e:tS (s.data.toList.getD (a+n) 0)=true:=by unfold tS isL isD;rw[h1,h2];rfl
    simp only[vF (a:=a) (n:=n) (by omega),Vi,Vk,Vr,Y1,Y2,Vj,Vn,Vl,Vm,Y6,Y3,Vs,hlt,Y7,bU hlt,f86,f87,h1,h2,bh (a:=n) (by omega),h,e,VD]
    congr 4;omega
   |false=>
    have e:tS (s.data.toList.getD (a+n) 0)=false:=by unfold tS isL isD;rw[h1,h2];rfl
    simp only[vF (a:=a) (n:=n) (by omega),Vi,Vk,Vr,Y1,Y2,Vj,Vn,Vl,Vm,Y6,Y3,Vs,hlt,Y7,bU hlt,f86,f87,h1,h2,e,VU,V3]
theorem Pm(s:ByteArray)(hs:s.size<=1000000000)(a:Nat)(out:List ByteArray):∀(m n:Nat),s.size-(a+n)=m->a+n<=s.size->
 cp (s,a,n,out,())=some (s,(a:Int),((n+((s.data.toList.drop (a+n)).takeWhile isD).length:Nat):Int),out,()):=by
 intro m
 induction m with
 |zero=>
  intro n hm hl
  have hlt:¬a+n<s.size:=by omega
  rw[cp]
  simp only[vF (a:=a) (n:=n) (by omega),Vi,Vk,Vr,Y1,Y2,Vj,Vn,Vl,Vm,Y6,Y3,Vs,hlt,Y8,im hlt,XV,VU,V3]
 |succ m ih=>
  intro n hm hl
  have hlt:a+n<s.size:=by omega
  have h:=ih (n+1) (by omega) (by omega)
  rw[<-WE]at h
  rw[cp,gA hlt,W2]
  cases h2:xd ((s.data.toList.getD (a+n) 0).toNat:Int)with
  |true=>
   have e:isD (s.data.toList.getD (a+n) 0)=true:=h2
   simp only[vF (a:=a) (n:=n) (by omega),Vi,Vk,Vr,Y1,Y2,Vj,Vn,Vl,Vm,Y6,Y3,Vs,hlt,Y7,bU hlt,f87,h2,bh (a:=n) (by omega),h,e,VD]
   congr 4;omega
  |false=>
   have e:isD (s.data.toList.getD (a+n) 0)=false:=h2
   simp only[vF (a:=a) (n:=n) (by omega),Vi,Vk,Vr,Y1,Y2,Vj,Vn,Vl,Vm,Y6,Y3,Vs,hlt,Y7,bU hlt,f87,h2,e,VU,V3]
theorem R1(s:ByteArray)(hs:s.size<=1000000000):∀(m a:Nat) (out:List ByteArray),s.size-a<=m->a<=s.size->out.length<=a->
 bX (s,a,out,())=some (out++(mb a (s.data.toList.drop a)).map (λp=>mkB p.2),()):=by
 intro m
 induction m with
 |zero=>
  intro a out hm hl ho
  have hlt:¬a<s.size:=by omega
  rw[bX]
  simp only[Vi,Vk,Vr,Y1,Y2,Vj,Vn,Vl,Vm,Y6,Y3,Vs,hlt,Y8,im hlt,dN,V8,Wo]
 |succ m ih=>
  intro a out hm hl ho
  by_cases hlt:a<s.size
  ·have hg:=gA hlt
   have hl0:s.data.toList.drop a=s.data.toList.drop (a+0):=rfl
   rw[bX]
   cases hw:isW (s.data.toList.getD a 0)with
   |true=>
    have h:=ih (a+1) out (by omega) (by omega) (by omega)
    rw[hg,jb hw,<-h]
    have hw':((((s.data.toList.getD a 0).toNat:Int)==32)=true)\/((((s.data.toList.getD a 0).toNat:Int)==32)=false)/\((((s.data.toList.getD a 0).toNat:Int)==9)=true)\/
     ((((s.data.toList.getD a 0).toNat:Int)==32)=false)/\((((s.data.toList.getD a 0).toNat:Int)==9)=false)/\((((s.data.toList.getD a 0).toNat:Int)==10)=true):=by
     unfold isW at hw
     revert hw
     cases (((s.data.toList.getD a 0).toNat:Int)==32)<;>cases (((s.data.toList.getD a 0).toNat:Int)==9)<;>simp
    rcases hw' with e1|⟨e1,e2⟩|⟨e1,e2,e3⟩
    ·simp only[hlt,Y7,Y1,Vm,Vl,Vs,bU hlt,e1,Vi,Vk,bh (a:=a) (by omega)]
    ·simp only[hlt,Y7,Y1,Vm,Vl,Vs,bU hlt,e1,e2,Vj,Y2,Vi,Vk,bh (a:=a) (by omega)]
    ·simp only[hlt,Y7,Y1,Vm,Vl,Vs,bU hlt,e1,e2,e3,Vj,Y2,Vi,Vk,bh (a:=a) (by omega)]
   |false=>
    have hw':((((s.data.toList.getD a 0).toNat:Int)==32)=false)/\((((s.data.toList.getD a 0).toNat:Int)==9)=false)/\((((s.data.toList.getD a 0).toNat:Int)==10)=false):=by
     unfold isW at hw
     revert hw
     cases (((s.data.toList.getD a 0).toNat:Int)==32)<;>cases (((s.data.toList.getD a 0).toNat:Int)==9)<;>simp
    obtain⟨e1,e2,e3⟩:=hw'
    have htl:=rS (s.data.toList.drop a)
    rw[Wg,b_]at htl
    have htp:=eU (s.data.toList.getD a 0) (s.data.toList.drop (a+1))
    rw[<-hg]at htp
    have h:=ih (a+fk (s.data.toList.drop a)) (out++[s.extract a (a+fk (s.data.toList.drop a))]) (by omega) (by omega) (by rw[VB,Vt];omega)
    have hx:out++(mb a (s.data.toList.drop a)).map (λp=>mkB p.2)=(out++[s.extract a (a+fk (s.data.toList.drop a))])++(mb (a+fk (s.data.toList.drop a)) (s.data.toList.drop (a+fk (s.data.toList.drop a)))).map (λp=>mkB p.2):=by
     rw[iu,Wc,YH]
     conv=>lhs;rw[hg,ja hw,<-hg,VC,Xj]
    rw[hx,<-h]
    have hout:(out.length+1<=4294967296):=by omega
    have hbd:(a:Int)<=((a+fk (s.data.toList.drop a):Nat):Int)/\((a+fk (s.data.toList.drop a):Nat):Int)<=(s.size:Int):=by omega
    cases h1:CS ((s.data.toList.getD a 0).toNat:Int)with
    |true=>
     have ht:fk (s.data.toList.drop a)=1+((s.data.toList.drop (a+1)).takeWhile tS).length:=by
      rw[hg,da,Y5 (show isL _=true from h1)]
     have h9:=R2 s hs a out _ 1 rfl (by omega)
     rw[<-ht]at h9
     have h9:cW (s,a,1,out,())=some (s,(a:Int),(fk (s.data.toList.drop a):Int),out,()):=h9
     simp only[hlt,Y7,Y1,Vm,Vl,Vs,bU hlt,e1,e2,e3,Vj,Y2,Vi,Vk,f86,h1,h9,vF (a:=a) (n:=fk (s.data.toList.drop a)) (by omega),hbd,true_and,and_self,Vt,hout]
    |false=>
     cases h2:xd ((s.data.toList.getD a 0).toNat:Int)with
     |true=>
      have ht:fk (s.data.toList.drop a)=1+((s.data.toList.drop (a+1)).takeWhile isD).length:=by
       rw[hg,da,Y4 (by rw[show isL _=false from h1];exact VK),Y5 (show isD _=true from h2)]
      have h9:=Pm s hs a out _ 1 rfl (by omega)
      rw[<-ht]at h9
      have h9:cp (s,a,1,out,())=some (s,(a:Int),(fk (s.data.toList.drop a):Int),out,()):=h9
      simp only[hlt,Y7,Y1,Vm,Vl,Vs,bU hlt,e1,e2,e3,Vj,Y2,Vi,Vk,f86,f87,h1,h2,h9,vF (a:=a) (n:=fk (s.data.toList.drop a)) (by omega),hbd,true_and,and_self,Vt,hout]
     |false=>
      have ht:fk (s.data.toList.drop a)=1:=by
       rw[hg,da,Y4 (by rw[show isL _=false from h1];exact VK),Y4 (by rw[show isD _=false from h2];exact VK)]
      rw[ht]at hbd⊢
      have hw1:IntKind.i64.wrap ((a:Int)+1)=((a+1:Nat):Int):=bh (by omega)
      simp only[hlt,Y7,Y1,Vm,Vl,Vs,bU hlt,e1,e2,e3,Vj,Y2,Vi,Vk,f86,f87,h1,h2,hw1,hbd,true_and,and_self,Vt,hout]
  ·rw[bX]
   simp only[Vi,Vk,Vr,Y1,Y2,Vj,Vn,Vl,Vm,Y6,Y3,Vs,hlt,Y8,im hlt,dN,V8,Wo]
theorem f52(s:ByteArray)(hs:s.size<=1000000000):hO (s,())=some (Rb s,()):=by
 have h:=R1 s hs s.size 0 [] (by omega) (by omega) (by simp)
 rw[hO]
 have h:bX (s,0,[],())=some (Rb s,()):=h
 simp only[h,Vi,Vk,Vr,Y1,Y2,Vj,Vn,Vl,Vm,Y6,Y3,Vs]
--end 52
end Go.Proofs.YtpelkenpapfadaaGreatDoor
end
section
namespace Go.Proofs.YtpelkenpapfadaaGreatDoor
open IntKind (i64)
set_option maxRecDepth 20000
open Go.Lib
def lines:List UInt8->List (List UInt8)
 |[]=>[[]]
 |c::r=>if c=10 then[]::lines r else match lines r with
  |[]=>[[c]]
  |x::y=>(c::x)::y
theorem kd:∀{l:List UInt8},10∉l->lines l=[l]
 |[],_=>rfl
 |c::r,h=>by
  have h1:¬c=10:=λe=>h (by rw[e];exact Vy)
  rw[lines,Y4 h1,kd λe=>h (Vu _ e)]
theorem gY:∀{a b:List UInt8},10∉a->lines (a++10::b)=a::lines b
 |[],b,_=>by rw[V7,lines,Y5 rfl]
 |c::r,b,h=>by
  have h1:¬c=10:=λe=>h (by rw[e];exact Vy)
  rw[VM,lines,Y4 h1,gY λe=>h (Vu _ e)]
theorem lG:∀l:List UInt8,10∉l\/∃a b,l=a++10::b/\10∉a
 |[]=> .inl (by simp)
 |c::r=>by
  by_cases hc:c=10
  ·exact .inr ⟨[],r,by rw[hc];rfl,by simp⟩
  ·rcases lG r with h|⟨a,b,rfl,h⟩
   ·exact .inl (by simp[VZ hc,h])
   ·exact .inr ⟨c::a,b,rfl,by simp[VZ hc,h]⟩
theorem my{M:List UInt8->Prop}(h1:∀l,10∉l->M l)(h2:∀a b,10∉a->M b->M (a++10::b)):∀(n:Nat) (l:List UInt8),l.length<=n->M l
 |n,l,hn=>by
  rcases lG l with h|⟨a,b,rfl,h⟩
  ·exact h1 l h
  ·cases n with
   |zero=>simp at hn
   |succ n=>exact h2 a b h (my h1 h2 n b (by simp only[VB,VD]at hn;omega))
theorem xh:∀l:List UInt8,(lines l).length=l.count 10+1:=λl=>by
 refine my (M:=λl=>(lines l).length=l.count 10+1) (λl h=> ?_) (λa b h ih=> ?_) l.length l (VN _)
 ·rw[kd h,XC.2 h];rfl
 ·rw[gY h,VD,ih,XZ,XC.2 h,YO];omega
theorem AQ(l:List UInt8)(c:UInt8):l.count c<=l.length:=List.count_le_length
theorem FN:∀{a b:List UInt8},10∉a->indexByte (a++10::b) 10=(a.length:Int)
 |[],b,_=>by simp[indexByte]
 |c::r,b,h=>by
  have h1:(c==10)=false:=beq_eq_false_iff_ne.2 λe=>h (by rw[e];exact Vy)
  have h2:=FN (b:=b) λe=>h (Vu _ e)
  have h3:((r.length:Int)== -1)=false:=beq_eq_false_iff_ne.2 (by omega)
  rw[VM,indexByte,h1,h2,h3,VD];simp
def nlB:ByteArray:=Vp #[10]
theorem JE:nlB.size=1:=rfl
theorem T_(s:ByteArray):Gg (s,nlB,())=some (indexByte s.data.toList 10,()):=rfl
theorem T9(s:ByteArray):Gf (s,nlB,())=some (((s.data.toList.count 10:Nat):Int),()):=rfl
theorem Bv{α:Type}(xs:List α)(i:Nat)(x:α)(h:i<xs.length):(xs.set i x).take (i+1)=xs.take i++[x]:=by
 rw[Xg,List.take_set_of_le (VN _),X0 h];rfl
theorem Tt(N:Nat)(hN:N<=2000000000):∀(k i:Nat) (s:ByteArray) (arr:List ByteArray),s.size<=1000000000->s.data.toList.count 10=k->i+k+1=N->arr.length=N->
 ∃s' arr',iO (s,nlB,0,((N-1:Nat):Int),(i:Int),arr,())=some (s',((N-1:Nat):Int),arr',())/\arr'.length=N/\arr'.set (N-1) s'=arr.take i++(lines s.data.toList).map mkB
 |0,i,s,arr,hs,hc,hi,ha=>by
  have hnl:10∉s.data.toList:=XC.1 hc
  have hi':i=N-1:=by omega
  refine⟨s,arr,?_,ha,?_⟩
  ·rw[iO,<-hi']
   have:¬i<i:=by omega
   simp only[Vi,Vk,Vr,Y1,Y2,Vj,Vn,Vl,Vm,Y6,Y3,Vs,this,Y8]
  ·have h1:=Bv arr i s (by omega)
   have h2:(arr.set i s).take (i+1)=arr.set i s:=Wf (by rw[WD];omega)
   rw[<-hi',<-h2,h1,kd hnl,XW]
   rw[show mkB s.data.toList=s from OE s]
 |k+1,i,s,arr,hs,hc,hi,ha=>by
  rcases lG s.data.toList with h|⟨a,b,he,h⟩
  ·rw[XC.2 h]at hc;cases hc
  ·have hsz:s.size=a.length+b.length+1:=by rw[<-b_,he];simp;omega
   have hx:=FN (b:=b) h
   rw[<-he]at hx
   have e1:s.extract 0 a.length=mkB a:=by
    have:=iu s 0 a.length
    rw[V4]at this
    rw[this,he,V6,List.take_left]
   have e2:s.extract (a.length+1) s.size=mkB b:=by
    have:=iu s (a.length+1) (s.size-(a.length+1))
    rw[show a.length+1+(s.size-(a.length+1))=s.size by omega]at this
    rw[this,he]
    congr 1
    rw[show(a++10::b).drop (a.length+1)=b by rw[Yv,WR (by omega)];simp]
    exact Wf (by omega)
   have hcb:(mkB b).data.toList.count 10=k:=by
    rw[dL]
    rw[he,XZ,XC.2 h,YO]at hc
    omega
   obtain⟨s',arr',j1,j2,j3⟩:=Tt N hN k (i+1) (mkB b) (arr.set i (mkB a)) (by rw[mB];omega) hcb (by omega) (by rw[WD];exact ha)
   refine⟨s',arr',?_,j2,?_⟩
   ·rw[iO]
    have w1:i64.wrap ((a.length:Int)+0)=(a.length:Int):=(cN (by omega) (by omega)).trans (by omega)
    have w2:i64.wrap ((a.length:Int)+(nlB.size:Int))=((a.length+1:Nat):Int):=by rw[JE];exact bh (by omega)
    have w3:¬((a.length:Int)<0):=by omega
    have w4:i<N-1:=by omega
    have w5:((0:Int)<=0/\(0:Int)<=(a.length:Int)/\(a.length:Int)<=(s.size:Int)):=by omega
    have w6:((0:Int)<=(i:Int)/\(i:Int)<(arr.length:Int)):=by omega
    have w7:(0:Int)<=((a.length+1:Nat):Int)/\((a.length+1:Nat):Int)<=(s.size:Int)/\(s.size:Int)<=(s.size:Int):=by omega
    have w8:arr[i]?=some (arr[i]'(by omega)):=Vw (by omega)
    simp only[T_,hx,w1,w2,w3,w4,w5,w6,w7,w8,Y7,Y8,Y1,Y2,Vj,Vi,Vk,Vl,Vs,and_self,bh (a:=i) (by omega),WH,e1,e2]
    exact j1
   ·rw[j3,he,gY h,dL,Bv arr i _ (by omega),VC,Wc];rfl
theorem f65(s:ByteArray)(hs:s.size<=1000000000):PR (s,nlB,())=some ((lines s.data.toList).map mkB,()):=by
 have hc:=AQ s.data.toList 10
 rw[b_]at hc
 obtain⟨s',arr',j1,j2,j3⟩:=Tt (s.data.toList.count 10+1) (by omega) _ 0 s (Wm (s.data.toList.count 10+1) (Vp #[])) hs rfl (by omega) (by simp)
 rw[Yg]at j1 j3
 have w1:i64.wrap (((s.data.toList.count 10:Nat):Int)+1)=((s.data.toList.count 10+1:Nat):Int):=bh (by omega)
 have w2:i64.wrap ((s.size:Int)+1)=((s.size+1:Nat):Int):=bh (by omega)
 have w3:min ((s.data.toList.count 10+1:Nat):Int) ((s.size+1:Nat):Int)=((s.data.toList.count 10+1:Nat):Int):=by omega
 have w4:i64.wrap (((s.data.toList.count 10+1:Nat):Int) -1)=((s.data.toList.count 10:Nat):Int):=(cN (by omega) (by omega)).trans (by omega)
 have w5:(nlB.toList==(Vp #[]).toList)=false:=by rw[eL,eL];rfl
 have w6:((s.data.toList.count 10+1:Nat):Int)<=4294967296:=by omega
 have w7:(0:Int)<=((s.data.toList.count 10:Nat):Int)/\((s.data.toList.count 10:Nat):Int)<((s.data.toList.count 10+1:Nat):Int):=by omega
 have w8:(0:Int)<=0/\(0:Int)<=((s.data.toList.count 10+1:Nat):Int)/\((s.data.toList.count 10+1:Nat):Int)<=((s.data.toList.count 10+1:Nat):Int):=by omega
 have w9:arr'[s.data.toList.count 10]?=some (arr'[s.data.toList.count 10]'(by omega)):=Vw (by omega)
 have w10:((-1:Int)==0)=false:=rfl
 have w11:((-1:Int)<0)=True:=by simp
 have j1:iO (s,nlB,0,((s.data.toList.count 10:Nat):Int),(0:Int),Wm (s.data.toList.count 10+1) (Vp #[]),())=some (s',((s.data.toList.count 10:Nat):Int),arr',()):=j1
 have wt:((lines s.data.toList).map mkB).take (s.data.toList.count 10+1)=(lines s.data.toList).map mkB:=Wf (by rw[VA,xh];omega)
 rw[PR,Q1]
 simp only[w10,w5,w11,Y7,Y1,Vj,Y2,T9,Vi,Vk,w1,w2,w3,w4,Vm,w6,Vl,j1,j2,WD,w7,w8,w9,and_self,j3,XI,V7,wt]
def hsh:List UInt8->Bool
 |[]=>false
 |c::_=>c==35
def uL:ByteArray:=Vp #[35]
theorem f66(s:ByteArray):PS (s,uL,())=some (hsh s.data.toList,()):=by
 have hb:=b_ s
 rw[PS,Q2]
 have hz:uL.size=1:=rfl
 have hl:uL.toList=[35]:=by rw[eL];rfl
 cases he:s.data.toList with
 |nil=>
  rw[he]at hb
  have:s.size=0:=by rw[<-hb];rfl
  have h1:¬((s.size:Int)>=(uL.size:Int)):=by rw[this,hz];decide
  simp only[h1,Y8,Vj,Y2,Vi,Vk,hsh]
 |cons c r=>
  rw[he,VD]at hb
  have h1:(s.size:Int)>=(uL.size:Int):=by rw[hz];omega
  have h2:(0:Int)<=0/\(0:Int)<=(uL.size:Int)/\(uL.size:Int)<=(s.size:Int):=by rw[hz];omega
  have h3:(s.extract (Wq 0) (Wq (uL.size:Int))).toList=[c]:=by
   rw[eL,WH,Vl,hz,sZ,he];rfl
  simp only[h1,h2,Y7,Y1,and_self,Vi,Vk,h3,hl,hsh]
  simp
def oR(b st:Bool):List UInt8->List Bool
 |[]=>[]
 |c::r=>(if st then c==35 else b)::oR (if st then c==35 else b) (c==10) r
theorem AR:∀(b st:Bool) (l:List UInt8),(oR b st l).length=l.length
 |_,_,[]=>rfl
 |b,st,c::r=>by rw[oR,VD,VD,AR]
theorem Ts(s:ByteArray)(hs:s.size<=1000000000):∀(m i:Nat) (b st:Bool) (pre:List Bool),s.size-i=m->i<=s.size->pre.length=i->
 (st=true↔(i=0\/0<i/\s.data.toList.getD (i-1) 0=10))->
 kT (s,b,(i:Int),pre++Wm m false,())=some (pre++oR b st (s.data.toList.drop i),())
 |0,i,b,st,pre,hm,hi,hp,hst=>by
  have hlt:¬i<s.size:=by omega
  rw[kT]
  simp only[Vi,Vk,Vr,Y1,Y2,Vj,Vn,Vl,Vm,Y6,Y3,Vs,hlt,Y8,im hlt,oR,List.replicate_zero]
 |m+1,i,b,st,pre,hm,hi,hp,hst=>by
  have hlt:i<s.size:=by omega
  have hset:∀x:Bool,(pre++Wm (m+1) false).set i x=(pre++[x])++Wm m false:=by
   intro x
   rw[XJ _ _ (by omega),show i-pre.length=0 by omega,List.replicate_succ,Yi,Wc];rfl
  have hlen:(0:Int)<=(i:Int)/\(i:Int)<((pre++Wm (m+1) false).length:Int):=by
   rw[VB,X4];omega
  have hget:(pre++Wm (m+1) false)[i]?=some false:=by
   rw[VR (by omega),show i-pre.length=0 by omega];rfl
  have key (x:Bool) (e:(if st=true then s.data.toList.getD i 0==35 else b)=x):
   kT (s,x,((i+1:Nat):Int),(pre++[x])++Wm m false,())=some (pre++oR b st (s.data.toList.drop i),()):=by
   rw[gA hlt,oR,e]
   have:=Ts s hs m (i+1) x (s.data.toList.getD i 0==10) (pre++[x]) (by omega) (by omega) (by simp[hp]) (by simp)
   rw[this,Wc];rfl
  have h35:(((s.data.toList.getD i 0).toNat:Int)==35)=(s.data.toList.getD i 0==35):=by
   have:((s.data.toList.getD i 0).toNat=35)↔s.data.toList.getD i 0=35:=⟨λh=>YA.1 h,λh=>by rw[h];rfl⟩
   by_cases h:s.data.toList.getD i 0=35
   ·rw[h];rfl
   ·rw[beq_eq_false_iff_ne.2 h,beq_eq_false_iff_ne];intro e;exact h (this.1 (by omega))
  rw[kT]
  by_cases h0:i=0
  ·have hs1:st=true:=hst.2 (.inl h0)
   have k:=key (s.data.toList.getD i 0==35) (by rw[hs1,Y5 rfl])
   have e0:((i:Int)==0)=true:=by rw[h0];rfl
   simp only[e0,Y1,Vi,Vk,Vs,hlt,Y7,Vm,Vl,bU hlt,h35,hlen,and_self,hget,hset,bh (a:=i) (by omega)]
   exact k
  ·have e0:((i:Int)==0)=false:=beq_eq_false_iff_ne.2 (by omega)
   have e1:i64.wrap ((i:Int) -1)=((i-1:Nat):Int):=(cN (by omega) (by omega)).trans (by omega)
   have h10:(((s.data.toList.getD (i-1) 0).toNat:Int)==10)=st:=by
    have h10:((s.data.toList.getD (i-1) 0).toNat=10)↔s.data.toList.getD (i-1) 0=10:=⟨λh=>YA.1 h,λh=>by rw[h];rfl⟩
    by_cases h:s.data.toList.getD (i-1) 0=10
    ·rw[hst.2 (.inr ⟨by omega,h⟩),h];rfl
    ·have:st=false:=by
      cases hst':st with
      |false=>rfl
      |true=>rcases hst.1 hst' with h'|h';exact(h0 h').elim;exact(h h'.2).elim
     rw[this,beq_eq_false_iff_ne];intro e;exact h (h10.1 (by omega))
   cases st with
   |true=>
    have k:=key (s.data.toList.getD i 0==35) (by rw[Y5 rfl])
    simp only[e0,Vj,Y2,e1,bU (s:=s) (i:=i-1) (by omega),h10,Y1,Vi,Vk,Vs,hlt,Y7,Vm,Vl,bU hlt,h35,hlen,and_self,hget,hset,bh (a:=i) (by omega)]
    exact k
   |false=>
    have k:=key b (by rw[Y4 VK])
    simp only[e0,Vj,Y2,e1,bU (s:=s) (i:=i-1) (by omega),h10,Y1,Vi,Vk,Vs,hlt,Y7,Vm,Vl,bU hlt,hlen,and_self,hget,hset,bh (a:=i) (by omega)]
    exact k
theorem f85(s:ByteArray)(hs:s.size<=1000000000):PY (s,())=some (oR false true s.data.toList,()):=by
 have h:=Ts s hs s.size 0 false true [] (by omega) (by omega) rfl (by simp)
 have h:kT (s,false,0,Wm s.size false,())=some (oR false true s.data.toList,()):=h
 have h1:(s.size:Int)<=4294967296:=by omega
 rw[PY]
 simp only[h1,Y1,Vl,h,Vi,Vk]
end Go.Proofs.YtpelkenpapfadaaGreatDoor
end
section
namespace Go.Proofs.YtpelkenpapfadaaGreatDoor
open Go.Tx
set_option maxRecDepth 20000
open Go.Lib
theorem vS{α:Type}:∀xs:List α,Ec (xs.map some)=some xs
 |[]=>rfl
 |x::r=>by simp[Ec,vS r]
theorem de{α:Type}(xs:List α)(k:Nat)(y:α):Ec (((xs.map some).set k none).set k (some y))=some (xs.set k y):=by
 rw[Ys,<-Xx,vS]
theorem eu{α:Type}(xs:List α)(k:Nat)(h:k<xs.length):((xs.map some).set k none)[k]?=some none:=by
 rw[WM];simp[h]
def oB:ByteArray:=Vp #[123]
def cB:ByteArray:=Vp #[125]
def sB:ByteArray:=Vp #[59]
theorem oc:¬cB=oB:=λh=>absurd (congrArg (λb:ByteArray=>b.data.toList) h) (by decide)
theorem so:¬sB=oB:=λh=>absurd (congrArg (λb:ByteArray=>b.data.toList) h) (by decide)
theorem sc:¬sB=cB:=λh=>absurd (congrArg (λb:ByteArray=>b.data.toList) h) (by decide)
def opn{α:Type}(out:List (List α))(op:Int):List (List α)×Int:=if op<0 then(out++[[]],(out.length:Int))else(out,op)
def add{α:Type}(out:List (List α))(k:Nat)(t:α):List (List α):=out.set k (out.getD k []++[t])
def nxt(w:ByteArray)(op dp:Int):Int×Int:=if w=oB then(op,dp+1)else if w=cB then(op,max (dp-1) 0)else if w=sB then(if dp=0 then(-1,dp)else(op,dp))else(op,dp)
def dd{α:Type}(f:α->ByteArray)(st:List (List α)×Int×Int)(t:α):List (List α)×Int×Int:=
 (add (opn st.1 st.2.1).1 (opn st.1 st.2.1).2.toNat t,nxt (f t) (opn st.1 st.2.1).2 st.2.2)
structure Inv {α:Type} (B:Nat) (out:List (List α)) (op dp:Int):Prop where
 op:op= -1\/∃k:Nat,op=k/\k<out.length
 d0:0<=dp
 d1:dp<=B
 len:out.length<=B
 row:∀x∈out,x.length<=B
theorem Inv.opn{α:Type}{B:Nat}{out:List (List α)}{op dp:Int}(h:Inv B out op dp):
 ∃(k:Nat) (out1:List (List α)),opn out op=(out1,(k:Int))/\k<out1.length/\out1.length<=B+1/\(∀x∈out1,x.length<=B)/\
  (op= -1/\out++[[]]=out1/\(out.length:Int)=k\/op=(k:Int)/\out=out1):=by
 have hl:=h.len
 rcases h.op with e|⟨k,e,hk⟩
 ·refine⟨out.length,out++[[]],?_,by simp,by simp;omega,λx hx=> ?_, .inl ⟨e,rfl,rfl⟩⟩
  ·rw[Proofs.YtpelkenpapfadaaGreatDoor.opn,e];rfl
  ·rcases VJ.1 hx with hx|hx
   ·exact h.row x hx
   ·rw[Wd.1 hx];simp
 ·exact⟨k,out,by rw[Proofs.YtpelkenpapfadaaGreatDoor.opn,Y4 (by omega),e],hk,by omega,h.row, .inr ⟨e,rfl⟩⟩
theorem D9{α:Type}(out:List (List α))(k:Nat)(t:α):(add out k t).length=out.length:=by simp[add]
theorem L7{α:Type}{B:Nat}{out:List (List α)}{k:Nat}{t:α}(h:∀x∈out,x.length<=B):∀x∈add out k t,x.length<=B+1:=by
 intro x hx
 rcases WT hx with hx|rfl
 ·have:=h x hx;omega
 ·rw[VB,Vt]
  by_cases hk:k<out.length
  ·have:out.getD k []∈out:=by rw[VS,Vw hk];exact WI hk
   have:=h _ this;omega
  ·rw[VS,Xe (by omega)];simp
theorem Inv.step{α:Type}{f:α->ByteArray}{B:Nat}{out:List (List α)}{op dp:Int}(h:Inv B out op dp)(t:α):Inv (B+1) (dd f (out,op,dp) t).1 (dd f (out,op,dp) t).2.1 (dd f (out,op,dp) t).2.2:=by
 obtain⟨k,out1,e,hk,hl,hr,_⟩:=h.opn
 have h0:=h.d0
 have h1:=h.d1
 unfold dd
 simp only[e,Vl]
 refine⟨?_,?_,?_,by rw[D9];exact hl,L7 hr⟩
 ·unfold nxt;(repeat' split)<;>first|exact .inl rfl|exact .inr ⟨k,rfl,by rw[D9];exact hk⟩
 ·unfold nxt;(repeat' split)<;>(simp only;omega)
 ·unfold nxt;(repeat' split)<;>(simp only;omega)
theorem Inv.mono{α:Type}{B B':Nat}{out:List (List α)}{op dp:Int}(h:Inv B out op dp)(hb:B<=B'):Inv B' out op dp:=
 ⟨h.op,h.d0,by have:=h.d1;omega,by have:=h.len;omega,λx hx=>by have:=h.row x hx;omega⟩
theorem Inv.steps{α:Type}{f:α->ByteArray}:∀(ts:List α) {B:Nat} {out:List (List α)} {op dp:Int},Inv B out op dp->
 Inv (B+ts.length) (ts.foldl (dd f) (out,op,dp)).1 (ts.foldl (dd f) (out,op,dp)).2.1 (ts.foldl (dd f) (out,op,dp)).2.2
 |[],B,out,op,dp,h=>h
 |t::r,B,out,op,dp,h=>by
  have:=Inv.steps (f:=f) r (h.step (f:=f) t)
  rw[Wy,VD,show B+(r.length+1)=B+1+r.length by omega]
  exact this
theorem R0(ls:List ByteArray)(nl li:Int)(ts:List ByteArray):∀(m j:Nat) (out:List (List ByteArray)) (op dp:Int) (B:Nat),ts.length-j=m->Inv B out op dp->B+m<=1000000000->ts.length<=1000000000->
 mN (op,dp,ls,nl,li,(ts.length:Int),(j:Int),out,ts,())=
  some (((ts.drop j).foldl (dd id) (out,op,dp)).2.1,((ts.drop j).foldl (dd id) (out,op,dp)).2.2,ls,nl,li,((ts.drop j).foldl (dd id) (out,op,dp)).1,()):=by
 intro m
 induction m with
 |zero=>
  intro j out op dp B hm hi hB hts
  have hlt:¬j<ts.length:=by omega
  rw[mN]
  simp only[Vi,Vk,Vr,Y1,Y2,Vj,Vn,Vl,Vm,Y6,Y3,Vs,hlt,Y8,dy hlt,XY]
 |succ m ih=>
  intro j out op dp B hm hi hB hts
  have hlt:j<ts.length:=by omega
  obtain⟨t,hp,hpm,hd,g1,g2⟩:=dP hlt
  obtain⟨k,out1,e,hk,hl,hr,hc⟩:=hi.opn
  have hj:=hi.step (f:=id) t
  have hn:=ih (j+1) _ _ _ (B+1) (by omega) hj (by omega) hts
  have h0:=hi.d0
  have h1:=hi.d1
  have hol:=hi.len
  have hrow:out1[k]?=some (out1.getD k []):=by rw[VS,Vw hk];rfl
  have hrl:(out1.getD k []).length<=B:=hr _ (by rw[VS,Vw hk];exact WI hk)
  have b1:(out1.getD k []).length+1<=4294967296:=by omega
  have b2:out.length+1<=4294967296:=by omega
  have b3:(0:Int)<=(k:Int)/\(k:Int)<(out1.length:Int):=by omega
  have hsl:((out1.map some).set k none).length=out1.length:=by simp
  have g3:(0:Int)<=(j:Int)/\(j:Int)<(ts.length:Int):=⟨g2,g1⟩
  have wd:IntKind.i64.wrap (dp+1)=dp+1:=cN (by omega) (by omega)
  have wd2:IntKind.i64.wrap (dp-1)=dp-1:=cN (by omega) (by omega)
  have x1:(Vp #[123])=oB:=rfl
  have x2:(Vp #[125])=cB:=rfl
  have x3:(Vp #[59])=sB:=rfl
  have hs:dd id (out,op,dp) t=(out1.set k (out1.getD k []++[t]),nxt t (k:Int) dp):=by
   unfold dd;simp only[e,Vl];rfl
  rw[hd,Wy,hs]
  rw[hs]at hn
  rw[mN]
  have hop:((op<0)=True/\out++[[]]=out1/\(out.length:Int)=k)\/(((k:Int)<0)=False/\op=(k:Int)/\out=out1):=by
   rcases hc with⟨a,b,c⟩|⟨a,b⟩
   ·exact .inl ⟨by rw[a];simp,b,c⟩
   ·exact .inr ⟨by simp,a,b⟩
  by_cases c1:t=oB
  ·have hx:nxt t (k:Int) dp=((k:Int),dp+1):=by rw[nxt,Y5 c1]
   rw[hx]at hn⊢
   rcases hop with⟨a,b,c⟩|⟨a,b,c⟩<;>(simp only[a,b,c,Vi,Vk,Vr,Y1,Y2,Vj,Vn,Vl,Vm,Y6,Y3,Vs,hlt,g3,Y7,Y8,hp,and_self,b2,b3,hrow,Vt,b1,hsl,eu _ _ hk,de,x1,aL,c1,wd,bh (a:=j) (by omega)];rw[c1]at hn;exact hn)
  ·by_cases c2:t=cB
   ·have hx:nxt t (k:Int) dp=((k:Int),max (dp-1) 0):=by rw[nxt,Y4 c1,Y5 c2]
    rw[hx]at hn⊢
    by_cases hd0:dp>0
    ·have hmx:max (dp-1) 0=dp-1:=by omega
     rw[hmx]at hn⊢
     rw[c2]at hn
     rcases hop with⟨a,b,c⟩|⟨a,b,c⟩<;>(simp only[a,b,c,Vi,Vk,Vr,Y1,Y2,Vj,Vn,Vl,Vm,Y6,Y3,Vs,hlt,g3,Y7,Y8,hp,and_self,b2,b3,hrow,Vt,b1,hsl,eu _ _ hk,de,x1,x2,x3,aL,c2,oc,hd0,wd2,bh (a:=j) (by omega)];exact hn)
    ·have hmx:max (dp-1) 0=dp:=by omega
     rw[hmx]at hn⊢
     rw[c2]at hn
     have cs:¬cB=sB:=λh=>sc h.symm
     rcases hop with⟨a,b,c⟩|⟨a,b,c⟩<;>(simp only[a,b,c,Vi,Vk,Vr,Y1,Y2,Vj,Vn,Vl,Vm,Y6,Y3,Vs,hlt,g3,Y7,Y8,hp,and_self,b2,b3,hrow,Vt,b1,hsl,eu _ _ hk,de,x1,x2,x3,aL,c2,oc,cs,hd0,wd2,bh (a:=j) (by omega)];exact hn)
   ·by_cases c3:t=sB
    ·by_cases hd0:dp=0
     ·have hx:nxt t (k:Int) dp=(-1,dp):=by rw[nxt,Y4 c1,Y4 c2,Y5 c3,Y5 hd0]
      rw[hx]at hn⊢
      rw[c3,hd0]at hn
      rcases hop with⟨a,b,c⟩|⟨a,b,c⟩<;>(simp only[a,b,c,Vi,Vk,Vr,Y1,Y2,Vj,Vn,Vl,Vm,Y6,Y3,Vs,hlt,g3,Y7,Y8,hp,and_self,b2,b3,hrow,Vt,b1,hsl,eu _ _ hk,de,x1,x2,x3,aL,c3,so,sc,hd0,beq_self_eq_true,bh (a:=j) (by omega)];exact hn)
     ·have hx:nxt t (k:Int) dp=((k:Int),dp):=by rw[nxt,Y4 c1,Y4 c2,Y5 c3,Y4 hd0]
      rw[hx]at hn⊢
      rw[c3]at hn
      have hd1:(dp==0)=false:=beq_eq_false_iff_ne.2 hd0
      rcases hop with⟨a,b,c⟩|⟨a,b,c⟩<;>(simp only[a,b,c,Vi,Vk,Y1,Y2,Vj,Vl,Vm,Vs,hlt,g3,Y7,Y8,hp,and_self,b2,b3,hrow,Vt,b1,hsl,eu _ _ hk,de,x1,x2,x3,aL,c3,so,sc,hd1,bh (a:=j) (by omega)];exact hn)
    ·have hx:nxt t (k:Int) dp=((k:Int),dp):=by rw[nxt,Y4 c1,Y4 c2,Y4 c3]
     rw[hx]at hn⊢
     rcases hop with⟨a,b,c⟩|⟨a,b,c⟩<;>(simp only[a,b,c,Vi,Vk,Vr,Y1,Y2,Vj,Vn,Vl,Vm,Y6,Y3,Vs,hlt,g3,Y7,Y8,hp,and_self,b2,b3,hrow,Vt,b1,hsl,eu _ _ hk,de,x1,x2,x3,aL,c1,c2,c3,bh (a:=j) (by omega)];exact hn)
end Go.Proofs.YtpelkenpapfadaaGreatDoor
end
section
namespace Go.Proofs.YtpelkenpapfadaaGreatDoor
open Go.Tx
set_option maxRecDepth 20000
open Go.Lib
def sS(l:List UInt8):List ByteArray:=(mb 0 l).map λp=>mkB p.2
theorem BE(l:List UInt8):(sS l).length<=l.length:=by unfold sS;rw[VA];exact ku _ _ 0 (VN _)
def bi(st:List (List ByteArray)×Int×Int)(l:List UInt8):List (List ByteArray)×Int×Int:=
 if hsh l then(st.1++[sS l],st.2)else(sS l).foldl (dd id) st
def aO(s:List UInt8):List (List ByteArray):=((lines s).foldl bi ([],-1,0)).1
def D3(ls:List (List UInt8)):Nat:=(ls.map λl=>l.length+1).sum
theorem gp(l:List UInt8)(r:List (List UInt8)):D3 (l::r)=l.length+1+D3 r:=by simp[D3]
theorem kw(s:List UInt8):D3 (lines s)=s.length+1:=by
 refine my (M:=λs=>D3 (lines s)=s.length+1) (λl h=> ?_) (λa b h ih=> ?_) s.length s (VN _)
 ·rw[kd h,gp];rfl
 ·rw[gY h,gp,ih,VB,VD];omega
theorem Inv.hash{B:Nat}{α:Type}{out:List (List α)}{op dp:Int}(h:Inv B out op dp)(x:List α)(n:Nat)(hx:x.length<=n)(hn:1<=n):Inv (B+n) (out++[x]) op dp:=by
 refine⟨?_,h.d0,by have:=h.d1;omega,by rw[VB,Vt];have:=h.len;omega,λy hy=> ?_⟩
 ·rcases h.op with e|⟨k,e,hk⟩
  ·exact .inl e
  ·exact .inr ⟨k,e,by rw[VB];omega⟩
 ·rcases VJ.1 hy with hy|hy
  ·have:=h.row y hy;omega
  ·rw[Wd.1 hy];omega
theorem Inv.line{B:Nat}{st:List (List ByteArray)×Int×Int}(h:Inv B st.1 st.2.1 st.2.2)(l:List UInt8):Inv (B+(l.length+1)) (bi st l).1 (bi st l).2.1 (bi st l).2.2:=by
 unfold bi
 have hl:=BE l
 split
 ·exact h.hash _ _ (by omega) (by omega)
 ·exact(h.steps (f:=id) (sS l)).mono (by omega)
theorem RZ(ls:List (List UInt8)):∀(m j:Nat) (st:List (List ByteArray)×Int×Int) (B:Nat),ls.length-j=m->Inv B st.1 st.2.1 st.2.2->B+D3 (ls.drop j)<=900000000->ls.length<=1000000000->
 mM (st.2.1,st.2.2,ls.map mkB,(ls.length:Int),(j:Int),st.1,())=some (((ls.drop j).foldl bi st).1,()):=by
 intro m
 induction m with
 |zero=>
  intro j st B hm hi hB hl
  have hlt:¬j<ls.length:=by omega
  rw[mM]
  simp only[Vi,Vk,Vr,Y1,Y2,Vj,Vn,Vl,Vm,Y6,Y3,Vs,hlt,Y8,dy hlt,XY]
 |succ m ih=>
  intro j st B hm hi hB hl
  have hlt:j<ls.length:=by omega
  obtain⟨l,hp,hpm,hd,g1,g2⟩:=dP hlt
  have hp':(ls.map mkB)[j]?=some (mkB l):=by rw[Vz,hp];rfl
  rw[hd,gp]at hB
  have hn:=ih (j+1) (bi st l) _ (by omega) (hi.line l) (by omega) hl
  have hx1:(Vp #[35])=uL:=rfl
  have ht:Rb (mkB l)=sS l:=by unfold Rb sS;rw[dL]
  have h52:=f52 (mkB l) (by rw[mB];omega)
  rw[ht]at h52
  rw[hd,Wy,mM]
  have hlen:=hi.len
  have hln:st.1.length+1<=4294967296:=by omega
  cases hh:hsh l with
  |true=>
   rw[show bi st l=(st.1++[sS l],st.2) by rw[bi,Y5 hh]]at hn⊢
   simp only[Vi,Vk,Vr,Y1,Y2,Vj,Vn,Vl,Vm,Y6,Y3,Vs,hlt,Y7,g1,g2,hp',hx1,f66,dL,hh,h52,Vt,hln,bh (a:=j) (by omega)]
   exact hn
  |false=>
   have hls:bi st l=(sS l).foldl (dd id) st:=by rw[bi,Y4 (by rw[hh];exact VK)]
   rw[hls]at hn⊢
   have htl:=BE l
   have h9:=R0 (ls.map mkB) ls.length j (sS l) _ 0 st.1 st.2.1 st.2.2 B rfl hi (by omega) (by omega)
   rw[V6]at h9
   have h9:mN (st.2.1,st.2.2,ls.map mkB,(ls.length:Int),(j:Int),((sS l).length:Int),0,st.1,sS l,())=_:=h9
   simp only[Vi,Vk,Vr,Y1,Y2,Vj,Vn,Vl,Vm,Y6,Y3,Vs,hlt,Y7,g1,g2,hp',hx1,f66,dL,hh,h52,h9,bh (a:=j) (by omega)]
   exact hn
theorem Inv.zero{α:Type}:Inv 0 ([]:List (List α)) (-1) 0:=⟨.inl rfl,by omega,by omega,by simp,by simp⟩
theorem xg:∀(ls:List (List UInt8)) (B:Nat) (st:List (List ByteArray)×Int×Int),Inv B st.1 st.2.1 st.2.2->Inv (B+D3 ls) (ls.foldl bi st).1 (ls.foldl bi st).2.1 (ls.foldl bi st).2.2
 |[],B,st,h=>h
 |l::r,B,st,h=>by
  rw[Wy,gp,<-WE]
  exact xg r _ _ (h.line l)
theorem f34(s:ByteArray)(hs:s.size<=800000000):MV (s,())=some (aO s.data.toList,()):=by
 have hw:=kw s.data.toList
 rw[b_]at hw
 have hl:=xh s.data.toList
 have hc:=AQ s.data.toList 10
 rw[b_]at hc
 have h:=RZ (lines s.data.toList) _ 0 ([],-1,0) 0 rfl Inv.zero (by rw[V6];omega) (by omega)
 have h:mM (-1,0,(lines s.data.toList).map mkB,((lines s.data.toList).length:Int),0,[],())=some (aO s.data.toList,()):=h
 rw[MV]
 have hx:(Vp #[10])=nlB:=rfl
 simp only[hx,f65 s (by omega),Vi,Vk,Vr,Y1,Y2,Vj,Vn,Vl,Vm,Y6,Y3,Vs,VA,h]
def fS(out:List (List ByteArray)):Prop:=∀x∈out,∀t∈x,se t
theorem fS.step{out:List (List ByteArray)}{op dp:Int}{t:ByteArray}(h:fS out)(ht:se t):fS (dd id (out,op,dp) t).1:=by
 have ho:fS (opn out op).1:=by
  unfold opn;split
  ·intro x hx
   rcases VJ.1 hx with hx|hx
   ·exact h x hx
   ·rw[Wd.1 hx];simp
  ·exact h
 intro x hx
 rcases WT hx with hx|rfl
 ·exact ho x hx
 ·intro y hy
  rcases VJ.1 hy with hy|hy
  ·rw[VS]at hy
   cases hg:(opn out op).1[(opn out op).2.toNat]? with
   |none=>rw[hg]at hy;cases hy
   |some z=>rw[hg]at hy;exact ho z (VI hg) y hy
  ·rw[Wd.1 hy];exact ht
theorem fS.steps:∀(ts:List ByteArray) (st:List (List ByteArray)×Int×Int),fS st.1->(∀t∈ts,se t)->fS (ts.foldl (dd id) st).1
 |[],st,h,_=>h
 |t::r,st,h,ht=>fS.steps r _ (h.step (ht t Vy)) λx hx=>ht x (Vu _ hx)
theorem HR(l:List UInt8):∀t∈sS l,se t:=by
 intro t ht
 obtain⟨p,hp,rfl⟩:=VQ.1 ht
 exact AA _ _ 0 (VN _) p hp
theorem fS.lines:∀(ls:List (List UInt8)) (st:List (List ByteArray)×Int×Int),fS st.1->fS (ls.foldl bi st).1
 |[],st,h=>h
 |l::r,st,h=>by
  rw[Wy]
  refine fS.lines r _ ?_
  unfold bi
  split
  ·intro x hx
   rcases VJ.1 hx with hx|hx
   ·exact h x hx
   ·rw[Wd.1 hx];exact HR l
  ·exact fS.steps _ _ h (HR l)
theorem G9(s:List UInt8):fS (aO s):=fS.lines _ _ (by intro x hx;cases hx)
theorem Dl(s:List UInt8):(aO s).length<=s.length+1/\∀x∈aO s,x.length<=s.length+1:=by
 have h:=xg (lines s) 0 ([],-1,0) Inv.zero
 rw[V4,kw]at h
 exact⟨h.len,h.row⟩
def T(o:Nat)(l:List UInt8):List aK:=(mb o l).map λp=>⟨(p.1:Int),mkB p.2⟩
theorem R4(s:ByteArray)(hs:s.size<=1000000000)(f:Int)(out:List aK):∀(m a:Nat),s.size-a=m->a<=s.size->
 oC (s,(a:Int),f,out,())=some (s,((a+((s.data.toList.drop a).takeWhile tS).length:Nat):Int),f,out,()):=by
 intro m
 induction m with
 |zero=>
  intro a hm hl
  have hlt:¬a<s.size:=by omega
  rw[oC]
  simp only[Vi,Vk,Vr,Y1,Y2,Vj,Vn,Vl,Vm,Y6,Y3,Vs,hlt,Y8,im hlt,XV,VU,V3]
 |succ m ih=>
  intro a hm hl
  have hlt:a<s.size:=by omega
  have h:=ih (a+1) (by omega) (by omega)
  rw[oC,gA hlt,W2]
  cases h1:CS ((s.data.toList.getD a 0).toNat:Int)with
  |true=>
   have e:tS (s.data.toList.getD a 0)=true:=by unfold tS isL;rw[h1];rfl
   simp only[Vi,Vk,Vr,Y1,Y2,Vj,Vn,Vl,Vm,Y6,Y3,Vs,hlt,Y7,bU hlt,f88,h1,bh (a:=a) (by omega),h,e,VD]
   congr 4;omega
  |false=>
   cases h2:xd ((s.data.toList.getD a 0).toNat:Int)with
   |true=>
    have e:tS (s.data.toList.getD a 0)=true:=by unfold tS isL isD;rw[h1,h2];rfl
    simp only[Vi,Vk,Vr,Y1,Y2,Vj,Vn,Vl,Vm,Y6,Y3,Vs,hlt,Y7,bU hlt,f88,f89,h1,h2,bh (a:=a) (by omega),h,e,VD]
    congr 4;omega
   |false=>
    have e:tS (s.data.toList.getD a 0)=false:=by unfold tS isL isD;rw[h1,h2];rfl
    simp only[Vi,Vk,Vr,Y1,Y2,Vj,Vn,Vl,Vm,Y6,Y3,Vs,hlt,Y7,bU hlt,f88,f89,h1,h2,e,VU,V3]
theorem Pn(s:ByteArray)(hs:s.size<=1000000000)(f:Int)(out:List aK):∀(m a:Nat),s.size-a=m->a<=s.size->
 jD (s,(a:Int),f,out,())=some (s,((a+((s.data.toList.drop a).takeWhile isD).length:Nat):Int),f,out,()):=by
 intro m
 induction m with
 |zero=>
  intro a hm hl
  have hlt:¬a<s.size:=by omega
  rw[jD]
  simp only[Vi,Vk,Vr,Y1,Y2,Vj,Vn,Vl,Vm,Y6,Y3,Vs,hlt,Y8,im hlt,XV,VU,V3]
 |succ m ih=>
  intro a hm hl
  have hlt:a<s.size:=by omega
  have h:=ih (a+1) (by omega) (by omega)
  rw[jD,gA hlt,W2]
  cases h2:xd ((s.data.toList.getD a 0).toNat:Int)with
  |true=>
   have e:isD (s.data.toList.getD a 0)=true:=h2
   simp only[Vi,Vk,Vr,Y1,Y2,Vj,Vn,Vl,Vm,Y6,Y3,Vs,hlt,Y7,bU hlt,f89,h2,bh (a:=a) (by omega),h,e,VD]
   congr 4;omega
  |false=>
   have e:isD (s.data.toList.getD a 0)=false:=h2
   simp only[Vi,Vk,Vr,Y1,Y2,Vj,Vn,Vl,Vm,Y6,Y3,Vs,hlt,Y7,bU hlt,f89,h2,e,VU,V3]
theorem R3(s:ByteArray)(hs:s.size<=1000000000):∀(m a:Nat) (out:List aK),s.size-a<=m->a<=s.size->out.length<=a->
 jE (s,(a:Int),out,())=some (out++T a (s.data.toList.drop a),()):=by
 intro m
 induction m with
 |zero=>
  intro a out hm hl ho
  have hlt:¬a<s.size:=by omega
  rw[jE]
  simp only[Vi,Vk,Vr,Y1,Y2,Vj,Vn,Vl,Vm,Y6,Y3,Vs,hlt,Y8,im hlt,T,dN,V8,Wo]
 |succ m ih=>
  intro a out hm hl ho
  by_cases hlt:a<s.size
  ·have hg:=gA hlt
   rw[jE]
   cases hw:isW (s.data.toList.getD a 0)with
   |true=>
    have h:=ih (a+1) out (by omega) (by omega) (by omega)
    rw[hg,T,jb hw]
    rw[T]at h
    rw[<-h]
    have hw':((((s.data.toList.getD a 0).toNat:Int)==32)=true)\/((((s.data.toList.getD a 0).toNat:Int)==32)=false)/\((((s.data.toList.getD a 0).toNat:Int)==9)=true)\/
     ((((s.data.toList.getD a 0).toNat:Int)==32)=false)/\((((s.data.toList.getD a 0).toNat:Int)==9)=false)/\((((s.data.toList.getD a 0).toNat:Int)==10)=true):=by
     unfold isW at hw
     revert hw
     cases (((s.data.toList.getD a 0).toNat:Int)==32)<;>cases (((s.data.toList.getD a 0).toNat:Int)==9)<;>simp
    rcases hw' with e1|⟨e1,e2⟩|⟨e1,e2,e3⟩<;>
     simp only[hlt,Y7,Y1,Vm,Vl,Vs,bU hlt, *,Vj,Y2,Vi,Vk,bh (a:=a) (by omega)]
   |false=>
    have hw':((((s.data.toList.getD a 0).toNat:Int)==32)=false)/\((((s.data.toList.getD a 0).toNat:Int)==9)=false)/\((((s.data.toList.getD a 0).toNat:Int)==10)=false):=by
     unfold isW at hw
     revert hw
     cases (((s.data.toList.getD a 0).toNat:Int)==32)<;>cases (((s.data.toList.getD a 0).toNat:Int)==9)<;>simp
    obtain⟨e1,e2,e3⟩:=hw'
    have htl:=rS (s.data.toList.drop a)
    rw[Wg,b_]at htl
    have htp:=eU (s.data.toList.getD a 0) (s.data.toList.drop (a+1))
    rw[<-hg]at htp
    have h:=ih (a+fk (s.data.toList.drop a)) (out++[⟨(a:Int),s.extract a (a+fk (s.data.toList.drop a))⟩]) (by omega) (by omega) (by rw[VB,Vt];omega)
    have hx:out++T a (s.data.toList.drop a)=(out++[⟨(a:Int),s.extract a (a+fk (s.data.toList.drop a))⟩])++T (a+fk (s.data.toList.drop a)) (s.data.toList.drop (a+fk (s.data.toList.drop a))):=by
     rw[iu,Wc,YH]
     unfold T
     conv=>lhs;rw[hg,ja hw,<-hg,VC,Xj]
    rw[hx,<-h]
    have hout:(out.length+1<=4294967296):=by omega
    have hbd:(a:Int)<=((a+fk (s.data.toList.drop a):Nat):Int)/\((a+fk (s.data.toList.drop a):Nat):Int)<=(s.size:Int):=by omega
    cases h1:CS ((s.data.toList.getD a 0).toNat:Int)with
    |true=>
     have ht:fk (s.data.toList.drop a)=1+((s.data.toList.drop (a+1)).takeWhile tS).length:=by
      rw[hg,da,Y5 (show isL _=true from h1)]
     have h9:=R4 s hs a out _ (a+1) rfl (by omega)
     rw[WE,<-ht]at h9
     simp only[hlt,Y7,Y1,Vm,Vl,Vs,bU hlt,e1,e2,e3,Vj,Y2,Vi,Vk,f88,h1,bh (a:=a) (by omega),h9,hbd,true_and,and_self,Vt,hout]
    |false=>
     cases h2:xd ((s.data.toList.getD a 0).toNat:Int)with
     |true=>
      have ht:fk (s.data.toList.drop a)=1+((s.data.toList.drop (a+1)).takeWhile isD).length:=by
       rw[hg,da,Y4 (by rw[show isL _=false from h1];exact VK),Y5 (show isD _=true from h2)]
      have h9:=Pn s hs a out _ (a+1) rfl (by omega)
      rw[WE,<-ht]at h9
      simp only[hlt,Y7,Y1,Vm,Vl,Vs,bU hlt,e1,e2,e3,Vj,Y2,Vi,Vk,f88,f89,h1,h2,bh (a:=a) (by omega),h9,hbd,true_and,and_self,Vt,hout]
     |false=>
      have ht:fk (s.data.toList.drop a)=1:=by
       rw[hg,da,Y4 (by rw[show isL _=false from h1];exact VK),Y4 (by rw[show isD _=false from h2];exact VK)]
      rw[ht]at hbd⊢
      have hw1:IntKind.i64.wrap ((a:Int)+1)=((a+1:Nat):Int):=bh (by omega)
      simp only[hlt,Y7,Y1,Vm,Vl,Vs,bU hlt,e1,e2,e3,Vj,Y2,Vi,Vk,f88,f89,h1,h2,hw1,hbd,true_and,and_self,Vt,hout]
  ·rw[jE]
   simp only[Vi,Vk,Vr,Y1,Y2,Vj,Vn,Vl,Vm,Y6,Y3,Vs,hlt,Y8,im hlt,T,dN,V8,Wo]
theorem f53(s:ByteArray)(hs:s.size<=1000000000):PQ (s,())=some (T 0 s.data.toList,()):=by
 have h:=R3 s hs s.size 0 [] (by omega) (by omega) (by simp)
 have h:jE (s,0,[],())=some (T 0 s.data.toList,()):=h
 rw[PQ]
 simp only[h,Vi,Vk,Vr,Y1,Y2,Vj,Vn,Vl,Vm,Y6,Y3,Vs]
end Go.Proofs.YtpelkenpapfadaaGreatDoor
end
