/-
  Texts of this claim, joined by a program of mine: what the theorem uses.
-/
import Derived.Test.YtpelkenpapfadaaGreatDoorPkE
import Derived.Test.YtpelkenpapfadaaGreatDoorPkC
import Derived.Test.YtpelkenpapfadaaGreatDoorPkG
import Derived.Lib.RuneCountTail
open Array renaming length_toList→Vm,toList_inj→VK
open Bool renaming and_eq_true→Uf,and_false→Wk,and_true→Wc,false_and→Vh,false_eq_true→TT,false_ne_true→Ul,false_or→Ux,or_eq_false_iff→UQ,or_true→Vb,true_and→U9,true_eq_false→T0,true_or→UD
open ByteArray renaming mk→TZ
open ByteArray.toList renaming loop→WG
open Int renaming natCast_nonneg→TX,ofNat_lt→T3,toNat→U1,toNat_natCast→TW,toNat_zero→Vj
open List renaming append_assoc→UO,append_nil→UZ,cons_append→Uo,count_append→Wz,count_cons_self→Xo,count_eq_zero→Wd,drop_append→W6,drop_drop→VU,drop_eq_getElem_cons→Vw,drop_eq_nil_of_le→Vt,drop_zero→UJ,foldl_cons→Va,foldl_nil→Wy,getD_eq_getElem?_getD→Um,getElem?_append_right→Ut,getElem?_eq_getElem→T8,getElem?_eq_none→VR,getElem?_set→Vn,getElem?_set_self→WA,getElem_mem→Vk,length_append→Uc,length_cons→Ue,length_drop→UR,length_map→Ub,length_nil→Uv,length_replicate→WE,length_set→Ve,length_singleton→T5,map→VC,map_cons→Ud,map_nil→UL,map_set→V9,map_singleton→Wv,mem_append→Uk,mem_cons→Uh,mem_cons_of_mem→T6,mem_cons_self→T_,mem_or_eq_of_mem_set→Vv,mem_singleton→UP,nil_append→UK,replicate→UX,set_append_right→Wi,set_cons_zero→WT,set_set→W3,singleton_append→Xh,takeWhile_cons→VE,takeWhile_nil→Wu,take_add_one→V2,take_append_of_le_length→WL,take_of_length_le→UU,take_succ_cons→Xq,take_zero→Wx
open Nat renaming add_assoc→Vf,add_sub_cancel→WR,add_zero→UE,le_refl→Up,zero_add→UG
open Ne renaming symm→UA
open Option renaming bind_eq_bind→TR,bind_none→T2,bind_some→TU
open Sum renaming inl→UF,inr→UI
open UInt8 renaming toNat_inj→W_
noncomputable section
set_option linter.unusedVariables false
set_option linter.unusedSimpArgs false
section
namespace Go.Proofs.YtpelkenpapfadaaGreatDoor
open Go.Awp Go.Tx
open IntKind (i64)
open Go.Proofs.Tryz (prog)
set_option maxHeartbeats 4000000
set_option maxRecDepth 100000
def rC:Cut SN:=⟨[(0, .vh 100000),(1, .dat (.int .i64)),(2, .dat .str),(6, .bp 6 0),(8, .dat (.int .i64))],[(100000, .vec 44 (.st .itemT)),(6, .st .itemT)]⟩
def Ay:Cut SN:=⟨[(0, .vh 100000),(1, .dat (.int .i64)),(2, .dat .str),(6, .bp 6 0),(8, .dat (.int .i64)),(30, .dat .bool)],[(100000, .vec 44 (.st .itemT)),(6, .st .itemT)]⟩
def Ax:Cut SN:=⟨[(0, .vh 100000),(6, .bp 6 0)],[(100000, .vec 44 (.st .itemT)),(6, .st .itemT)]⟩
def FG:ay vw:=shL [(0,Ax)] lD
def Cs:Sig vw:={params:=[.vh 100000, .dat (.int .i64), .dat .str],objs:=[(100000, .vec 44 (.st .itemT))],rcut:=lD,rvars:=[.cell 6 44, .tmp 7],keep:=[100000]}
noncomputable def cH(v:Int×ByteArray×Int×(List Item)×Item×Unit):Option (((Bool×(List Item)×Item×Unit)⊕((List Item)×Item×Unit))):=if decide (v.2.2.1<(↑v.2.2.2.1.length:Int))=true then(if 0<=v.2.2.1/\v.2.2.1<(↑v.2.2.2.1.length:Int)then v.2.2.2.1[v.2.2.1.toNat]?>>=λx1=>if(x1.kind==v.1)=true then if 0<=v.2.2.1/\v.2.2.1<(↑v.2.2.2.1.length:Int)then v.2.2.2.1[v.2.2.1.toNat]?>>=λx2=>some ((v.1,v.2.1,v.2.2.1,x2.name0.toList==v.2.1.toList,v.2.2.2.1,v.2.2.2.2.1,()))else none else some ((v.1,v.2.1,v.2.2.1,false,v.2.2.2.1,v.2.2.2.2.1,()))else none)>>=λx1=>if x1.2.2.2.1=true then if 0<=x1.2.2.1/\x1.2.2.1<(↑x1.2.2.2.2.1.length:Int)then x1.2.2.2.2.1[x1.2.2.1.toNat]?>>=λx2=>some (UF (true,x1.2.2.2.2.1,x2,()))else none else cH (x1.1,x1.2.1,i64.wrap (x1.2.2.1+1),x1.2.2.2.2.1,x1.2.2.2.2.2.1,())else some (UI (v.2.2.2.1,v.2.2.2.2.1,())) partial_fixpoint
noncomputable def fP(v:Int×ByteArray×(List Item)×Unit):Option (Bool×(List Item)×Item×Unit):=cH (v.1,v.2.1,(0:Int),v.2.2.1,Item.mk 0 (TZ #[]) (0:Int) [] (aa.mk 0 0 false []),())>>=λx1=>match x1 with| .inl y1=>some y1| .inr y1=>some ((false,y1.1,Item.mk 0 (TZ #[]) (0:Int) [] (aa.mk 0 0 false []),()))
def Ag:Xc vw:=mX prog 36 c0 FG [] [(4,Ay)] [(2,⟨rC,[.ret, .exit 0],cH⟩)]
theorem qI:dT Ag (ai (af Tryz.f48) 0) ⟨rC,[.ret, .exit 0],cH⟩:=lp0 cH.partial_correctness bB
theorem nG:aq prog 48 Cs fP:=fn1 Ag Tryz.func48 bB qI
def eE:Cut SN:=⟨[(0, .bp 100000 0),(1, .dat .bool),(4, .bp 4 0),(5, .bp 5 0),(6, .dat .bool)],[(100000, .box none [.dat (.sl .str), .vh 100001, .dat .bool]),(4, .st .layoutT),(5, .st .layoutT),(100001, .vec 44 (.st .itemT))]⟩
def wM:Cut SN:=⟨[(0, .bp 100000 0),(1, .dat .bool),(4, .bp 4 0),(5, .bp 5 0),(6, .dat .bool),(7, .dat .str),(8, .dat .bool)],[(100000, .box none [.dat (.sl .str), .vh 100001, .dat .bool]),(4, .st .layoutT),(5, .st .layoutT),(100001, .vec 44 (.st .itemT))]⟩
def wN:Cut SN:=⟨[(0, .bp 100000 0),(1, .dat .bool),(4, .bp 4 0),(5, .bp 5 0),(6, .dat .bool),(7, .dat .str),(8, .dat .bool),(34, .dat .bool)],[(100000, .box none [.dat (.sl .str), .vh 100001, .dat .bool]),(4, .st .layoutT),(5, .st .layoutT),(100001, .vec 44 (.st .itemT))]⟩
def ub:Cut SN:=⟨[(0, .bp 100000 0),(1, .dat .bool),(4, .bp 4 0),(5, .bp 5 0),(6, .dat .bool),(9, .bp 9 0),(10, .dat .bool)],[(100000, .box none [.dat (.sl .str), .vh 100001, .dat .bool]),(4, .st .layoutT),(5, .st .layoutT),(9, .st .itemT),(100001, .vec 44 (.st .itemT))]⟩
def uc:Cut SN:=⟨[(0, .bp 100000 0),(1, .dat .bool),(4, .bp 4 0),(5, .bp 5 0),(6, .dat .bool),(9, .bp 9 0)],[(100000, .box none [.dat (.sl .str), .vh 100001, .dat .bool]),(4, .st .layoutT),(5, .st .layoutT),(9, .st .itemT),(100001, .vec 44 (.st .itemT))]⟩
def ud:Cut SN:=⟨[(0, .bp 100000 0),(1, .dat .bool),(4, .bp 4 0),(5, .bp 5 0),(6, .dat .bool),(12, .dat .bool)],[(100000, .box none [.dat (.sl .str), .vh 100001, .dat .bool]),(4, .st .layoutT),(5, .st .layoutT),(100001, .vec 44 (.st .itemT))]⟩
def ue:Cut SN:=⟨[(0, .bp 100000 0),(4, .bp 4 0),(5, .bp 5 0)],[(100000, .box none [.dat (.sl .str), .vh 100001, .dat .bool]),(4, .st .layoutT),(5, .st .layoutT),(100001, .vec 44 (.st .itemT))]⟩
def rm:Cut SN:=⟨[(0, .bp 100000 0),(4, .bp 4 0)],[(100000, .box none [.dat (.sl .str), .vh 100001, .dat .bool]),(100001, .vec 44 (.st .itemT)),(4, .st .layoutT)]⟩
def B9:ay vw:=shL [(1,eE)] rm
def yu:Sig vw:={params:=[.bp 100000 0, .dat .bool],objs:=[(100000, .box none [.dat (.sl .str), .vh 100001, .dat .bool]),(100001, .vec 44 (.st .itemT))],rcut:=rm,rvars:=[.cell 4 42],keep:=[100000,100001]}
noncomputable def bu(v:Bool×Bool×(List ByteArray)×Bool×aa×aa×(List Item)×Unit):Option ((Bool×Bool×(List ByteArray)×Bool×aa×aa×(List Item)×Unit)):=dS (TZ #[42],v.2.2.1,v.2.2.2.1,v.2.2.2.2.2.2.1,())>>=λx1=>if x1.2.2.2.1.length=v.2.2.2.2.2.2.1.length then if x1.1=true then bu (v.1,false,x1.2.1,x1.2.2.1,v.2.2.2.2.1,aa.mk 3 0 false [],x1.2.2.2.1,())else some ((v.1,v.2.1,x1.2.1,x1.2.2.1,v.2.2.2.2.1,v.2.2.2.2.2.1,x1.2.2.2.1,()))else none partial_fixpoint
noncomputable def dq(v:Bool×(List ByteArray)×Bool×(List Item)×Unit):Option ((List ByteArray)×Bool×(List Item)×aa×Unit):=cT (v.2.1,v.2.2.1,v.2.2.2.1,())>>=λx1=>if x1.2.2.2.1.length=v.2.2.2.1.length then(if(!!x1.1.toList==(TZ #[117,110,115,105,103,110,101,100]).toList)=true then cT (x1.2.1,x1.2.2.1,x1.2.2.2.1,())>>=λx2=>if x2.2.2.2.1.length=x1.2.2.2.1.length then(if(x2.1.toList==(TZ #[108,111,110,103]).toList)=true then some ((v.1,false,x2.1,!x1.1.toList==(TZ #[117,110,115,105,103,110,101,100]).toList,true,x2.2.1,x2.2.2.1,aa.mk 0 0 false [],aa.mk 0 0 false [],x2.2.2.2.1,()))else if(x2.1.toList==(TZ #[118,111,105,100]).toList)=true then some ((v.1,false,x2.1,!x1.1.toList==(TZ #[117,110,115,105,103,110,101,100]).toList,true,x2.2.1,x2.2.2.1,aa.mk 0 0 false [],aa.mk 0 0 false [],x2.2.2.2.1,()))else if(x2.1.toList==(TZ #[115,116,114,117,99,116]).toList)=true then some ((v.1,false,x2.1,!x1.1.toList==(TZ #[117,110,115,105,103,110,101,100]).toList,true,x2.2.1,x2.2.2.1,aa.mk 0 0 false [],aa.mk 0 0 false [],x2.2.2.2.1,()))else some ((v.1,false,x2.1,!x1.1.toList==(TZ #[117,110,115,105,103,110,101,100]).toList,x2.1.toList==(TZ #[101,110,117,109]).toList,x2.2.1,x2.2.2.1,aa.mk 0 0 false [],aa.mk 0 0 false [],x2.2.2.2.1,())))>>=λx3=>if x3.2.2.2.2.1=true then some ((x3.1,x3.2.1,x3.2.2.1,x3.2.2.2.1,x3.2.2.2.2.2.1,true,x3.2.2.2.2.2.2.2.1,x3.2.2.2.2.2.2.2.2.1,x3.2.2.2.2.2.2.2.2.2.1,()))else some ((x3.1,x3.2.1,x3.2.2.1,x3.2.2.2.1,x3.2.2.2.2.2.1,x3.2.2.2.2.2.2.1,x3.2.2.2.2.2.2.2.1,x3.2.2.2.2.2.2.2.2.1,x3.2.2.2.2.2.2.2.2.2.1,()))else none else some ((v.1,false,x1.1,!x1.1.toList==(TZ #[117,110,115,105,103,110,101,100]).toList,x1.2.1,x1.2.2.1,aa.mk 0 0 false [],aa.mk 0 0 false [],x1.2.2.2.1,())))>>=λx2=>(if(x2.2.2.1.toList==(TZ #[99,104,97,114]).toList)=true then some ((x2.1,x2.2.1,x2.2.2.2.2.1,x2.2.2.2.2.2.1,x2.2.2.2.2.2.2.1,aa.mk 2 8 x2.2.2.2.1 [],x2.2.2.2.2.2.2.2.2.1,()))else if(x2.2.2.1.toList==(TZ #[115,104,111,114,116]).toList)=true then some ((x2.1,x2.2.1,x2.2.2.2.2.1,x2.2.2.2.2.2.1,x2.2.2.2.2.2.2.1,aa.mk 2 16 x2.2.2.2.1 [],x2.2.2.2.2.2.2.2.2.1,()))else if(x2.2.2.1.toList==(TZ #[105,110,116]).toList)=true then some ((x2.1,x2.2.1,x2.2.2.2.2.1,x2.2.2.2.2.2.1,x2.2.2.2.2.2.2.1,aa.mk 2 32 x2.2.2.2.1 [],x2.2.2.2.2.2.2.2.2.1,()))else if(x2.2.2.1.toList==(TZ #[108,111,110,103]).toList)=true then some ((x2.1,x2.2.1,x2.2.2.2.2.1,x2.2.2.2.2.2.1,x2.2.2.2.2.2.2.1,aa.mk 3 0 false [],x2.2.2.2.2.2.2.2.2.1,()))else if(x2.2.2.1.toList==(TZ #[118,111,105,100]).toList)=true then some ((x2.1,true,x2.2.2.2.2.1,x2.2.2.2.2.2.1,x2.2.2.2.2.2.2.1,x2.2.2.2.2.2.2.2.1,x2.2.2.2.2.2.2.2.2.1,()))else if(x2.2.2.1.toList==(TZ #[115,116,114,117,99,116]).toList)=true then(J8 2 (bL (x2.2.2.2.2.1,x2.2.2.2.2.2.1,x2.2.2.2.2.2.2.2.2.1,())>>=λx3=>if x3.2.2.2.1.length=x2.2.2.2.2.2.2.2.2.1.length then fP ((2:Int),x3.1,x3.2.2.2.1,())>>=λx4=>if x4.2.1.length=x3.2.2.2.1.length then some ((x2.1,x2.2.1,x4.1,x3.2.1,x3.2.2.1,x2.2.2.2.2.2.2.1,x2.2.2.2.2.2.2.2.1,x4.2.2.1,x4.2.1,()))else none else none))>>=λx3=>(if x3.2.2.2.2.1=true then some ((x3.1,x3.2.1,x3.2.2.2.1,true,x3.2.2.2.2.2.1,x3.2.2.2.2.2.2.1,x3.2.2.2.2.2.2.2.1,x3.2.2.2.2.2.2.2.2.1,()))else some ((x3.1,x3.2.1,x3.2.2.2.1,!x3.2.2.1,x3.2.2.2.2.2.1,x3.2.2.2.2.2.2.1,x3.2.2.2.2.2.2.2.1,x3.2.2.2.2.2.2.2.2.1,())))>>=λx4=>some ((x4.1,x4.2.1,x4.2.2.1,x4.2.2.2.1,x4.2.2.2.2.1,aa.mk x4.2.2.2.2.2.2.1.layout.kind x4.2.2.2.2.2.2.1.layout.n x4.2.2.2.2.2.2.1.layout.flag x4.2.2.2.2.2.2.1.layout.parts,x4.2.2.2.2.2.2.2.1,()))else if(x2.2.2.1.toList==(TZ #[101,110,117,109]).toList)=true then(J8 2 (bL (x2.2.2.2.2.1,x2.2.2.2.2.2.1,x2.2.2.2.2.2.2.2.2.1,())>>=λx3=>if x3.2.2.2.1.length=x2.2.2.2.2.2.2.2.2.1.length then fP ((1:Int),x3.1,x3.2.2.2.1,())>>=λx4=>if x4.2.1.length=x3.2.2.2.1.length then some ((x2.1,x2.2.1,x4.1,x3.2.1,x3.2.2.1,x2.2.2.2.2.2.2.1,x2.2.2.2.2.2.2.2.1,x4.2.1,()))else none else none))>>=λx3=>(if x3.2.2.2.2.1=true then some ((x3.1,x3.2.1,x3.2.2.2.1,true,x3.2.2.2.2.2.1,x3.2.2.2.2.2.2.1,x3.2.2.2.2.2.2.2.1,()))else some ((x3.1,x3.2.1,x3.2.2.2.1,!x3.2.2.1,x3.2.2.2.2.2.1,x3.2.2.2.2.2.2.1,x3.2.2.2.2.2.2.2.1,())))>>=λx4=>some ((x4.1,x4.2.1,x4.2.2.1,x4.2.2.2.1,x4.2.2.2.2.1,aa.mk 2 32 true [],x4.2.2.2.2.2.2.1,()))else some ((x2.1,x2.2.1,x2.2.2.2.2.1,true,x2.2.2.2.2.2.2.1,x2.2.2.2.2.2.2.2.1,x2.2.2.2.2.2.2.2.2.1,())))>>=λx3=>bu (x3.1,x3.2.1,x3.2.2.1,x3.2.2.2.1,x3.2.2.2.2.1,x3.2.2.2.2.2.1,x3.2.2.2.2.2.2.1,())>>=λx4=>(if x4.2.2.2.1=true then some ((x4.2.2.1,true,x4.2.2.2.2.1,x4.2.2.2.2.2.1,x4.2.2.2.2.2.2.1,()))else if x4.2.1=true then some ((x4.2.2.1,!x4.1,x4.2.2.2.2.1,x4.2.2.2.2.2.1,x4.2.2.2.2.2.2.1,()))else some ((x4.2.2.1,false,x4.2.2.2.2.1,x4.2.2.2.2.2.1,x4.2.2.2.2.2.2.1,())))>>=λx5=>some ((x5.1,x5.2.1,x5.2.2.2.2.1,x5.2.2.2.1,()))else none
def iY:=kO nG (kO d6 (kO d7 (kO dr k0)))
def wg:Xc vw:={P:=prog,n:=126,call:=iY.1,pre:=j9,sh:=B9,joins:=λk=>match k with|9=>some (wM,[.norm])|29=>some (eE,[.norm])|_=>none,regs:=λk=>match k with|7=>some wN|22=>some ub|23=>some uc|26=>some ud|27=>some eE|32=>some ue|_=>none,loops:=λk=>match k with|29=>some {cut:=eE,alts:=[.exit 1],F:=bu}|_=>none,pair:=λk=>match k with|22=>(.node 3 4 .leaf (.node 4 5 .leaf .leaf))|26=>(.node 3 4 .leaf (.node 4 5 .leaf .leaf))|_=> .leaf}
theorem n6:dT wg (ai (af Tryz.f137) 0) ⟨eE,[.exit 1],bu⟩:=lp0 bu.partial_correctness iY.2
theorem lX:aq prog 137 yu dq:=fn1 wg Tryz.func137 iY.2 n6
def t7:Cut SN:=⟨[(0, .bp 100000 0),(2, .bp 2 0),(3, .bp 3 0),(4, .bp 4 0)],[(100000, .box none [.dat (.sl .str), .vh 100001, .dat .bool]),(2, .st .itemT),(3, .box none [.dat (.int .i64), .dat .str, .dat (.int .i64), .vh 3033, .dat (.int .i64), .dat (.int .i64), .dat .bool, .vh 3037]),(4, .st .layoutT),(100001, .vec 44 (.st .itemT)),(3033, .vec 9 .str),(3037, .vec 42 (.st .layoutT))]⟩
def wz:Cut SN:=⟨[(0, .bp 100000 0),(2, .bp 2 0),(3, .bp 3 0),(29, .dat .bool)],[(100000, .box none [.dat (.sl .str), .vh 100001, .dat .bool]),(2, .st .itemT),(3, .box none [.dat (.int .i64), .dat .str, .dat (.int .i64), .vh 3033, .dat (.int .i64), .dat (.int .i64), .dat .bool, .vh 3037]),(100001, .vec 44 (.st .itemT)),(3033, .vec 9 .str),(3037, .vec 42 (.st .layoutT))]⟩
def wA:Cut SN:=⟨[(0, .bp 100000 0),(2, .bp 2 0),(3, .bp 3 0),(4, .bp 4 0),(5, .dat (.int .i64))],[(100000, .box none [.dat (.sl .str), .vh 100001, .dat .bool]),(2, .st .itemT),(3, .box none [.dat (.int .i64), .dat .str, .dat (.int .i64), .vh 3033, .dat (.int .i64), .dat (.int .i64), .dat .bool, .vh 3037]),(4, .st .layoutT),(100001, .vec 44 (.st .itemT)),(3033, .vec 9 .str),(3037, .vec 42 (.st .layoutT))]⟩
def BR:ay vw:=shL [(0,dc)] dM
def yb:Nat->Bool:=λk=>match k with|135=>true|_=>false
def yl:Sig vw:={params:=[.bp 100000 0],objs:=[(100000, .box none [.dat (.sl .str), .vh 100001, .dat .bool]),(100001, .vec 44 (.st .itemT))],rcut:=dM,rvars:=[.cell 2 44],keep:=[100000,100001]}
noncomputable def aR(v:(List ByteArray)×Bool×Item×Int×ByteArray×Int×Int×Int×Bool×(List Item)×(List ByteArray)×(List aa)×Unit):Option (((List ByteArray)×Bool×Item×Int×ByteArray×Int×Int×Int×Bool×(List Item)×(List ByteArray)×(List aa)×Unit)):=(if(!v.2.1)=true then if((↑v.2.2.2.2.2.2.2.2.2.2.1.length:Int)==0)=true then some ((true,v.1,v.2.1,v.2.2.1,v.2.2.2.1,v.2.2.2.2.1,v.2.2.2.2.2.1,v.2.2.2.2.2.2.1,v.2.2.2.2.2.2.2.1,v.2.2.2.2.2.2.2.2.1,v.2.2.2.2.2.2.2.2.2.1,v.2.2.2.2.2.2.2.2.2.2.1,v.2.2.2.2.2.2.2.2.2.2.2.1,()))else ek (v.1,v.2.1,v.2.2.2.2.2.2.2.2.2.1,())>>=λx1=>if x1.2.2.2.1.length=v.2.2.2.2.2.2.2.2.2.1.length then some ((!x1.1.toList==(TZ #[125]).toList,x1.2.1,x1.2.2.1,v.2.2.1,v.2.2.2.1,v.2.2.2.2.1,v.2.2.2.2.2.1,v.2.2.2.2.2.2.1,v.2.2.2.2.2.2.2.1,v.2.2.2.2.2.2.2.2.1,x1.2.2.2.1,v.2.2.2.2.2.2.2.2.2.2.1,v.2.2.2.2.2.2.2.2.2.2.2.1,()))else none else some ((false,v.1,v.2.1,v.2.2.1,v.2.2.2.1,v.2.2.2.2.1,v.2.2.2.2.2.1,v.2.2.2.2.2.2.1,v.2.2.2.2.2.2.2.1,v.2.2.2.2.2.2.2.2.1,v.2.2.2.2.2.2.2.2.2.1,v.2.2.2.2.2.2.2.2.2.2.1,v.2.2.2.2.2.2.2.2.2.2.2.1,())))>>=λx1=>if x1.1=true then dq (false,x1.2.1,x1.2.2.1,x1.2.2.2.2.2.2.2.2.2.2.1,())>>=λx2=>if x2.2.2.1.length=x1.2.2.2.2.2.2.2.2.2.2.1.length then bL (x2.1,x2.2.1,x2.2.2.1,())>>=λx3=>if x3.2.2.2.1.length=x2.2.2.1.length then if x1.2.2.2.2.2.2.2.2.2.2.2.1.length+[x3.1].length<=4294967296 then(dS (TZ #[91],x3.2.1,x3.2.2.1,x3.2.2.2.1,())>>=λx4=>if x4.2.2.2.1.length=x3.2.2.2.1.length then if x4.1=true then gO (x4.2.1,x4.2.2.1,x4.2.2.2.1,())>>=λx5=>if x5.2.2.2.1.length=x4.2.2.2.1.length then(if x5.2.2.1=true then some ((x5.1,x5.2.1,true,x1.2.2.2.1,x1.2.2.2.2.1,x1.2.2.2.2.2.1,x1.2.2.2.2.2.2.1,x1.2.2.2.2.2.2.2.1,x1.2.2.2.2.2.2.2.2.1,x1.2.2.2.2.2.2.2.2.2.1,x2.2.2.2.1,x5.2.2.2.1,x1.2.2.2.2.2.2.2.2.2.2.2.1++[x3.1],x1.2.2.2.2.2.2.2.2.2.2.2.2.1,()))else if decide (x5.1<1)=true then some ((x5.1,x5.2.1,true,x1.2.2.2.1,x1.2.2.2.2.1,x1.2.2.2.2.2.1,x1.2.2.2.2.2.2.1,x1.2.2.2.2.2.2.2.1,x1.2.2.2.2.2.2.2.2.1,x1.2.2.2.2.2.2.2.2.2.1,x2.2.2.2.1,x5.2.2.2.1,x1.2.2.2.2.2.2.2.2.2.2.2.1++[x3.1],x1.2.2.2.2.2.2.2.2.2.2.2.2.1,()))else some ((x5.1,x5.2.1,decide (x5.1>1000),x1.2.2.2.1,x1.2.2.2.2.1,x1.2.2.2.2.2.1,x1.2.2.2.2.2.2.1,x1.2.2.2.2.2.2.2.1,x1.2.2.2.2.2.2.2.2.1,x1.2.2.2.2.2.2.2.2.2.1,x2.2.2.2.1,x5.2.2.2.1,x1.2.2.2.2.2.2.2.2.2.2.2.1++[x3.1],x1.2.2.2.2.2.2.2.2.2.2.2.2.1,())))>>=λx6=>aQ (TZ #[93],x6.2.1,x6.2.2.1,x6.2.2.2.2.2.2.2.2.2.2.2.1,())>>=λx7=>if x7.2.2.1.length=x6.2.2.2.2.2.2.2.2.2.2.2.1.length then some ((x7.1,x7.2.1,x6.2.2.2.1,x6.2.2.2.2.1,x6.2.2.2.2.2.1,x6.2.2.2.2.2.2.1,x6.2.2.2.2.2.2.2.1,x6.2.2.2.2.2.2.2.2.1,x6.2.2.2.2.2.2.2.2.2.1,aa.mk 5 x6.1 false [x6.2.2.2.2.2.2.2.2.2.2.1],x7.2.2.1,x6.2.2.2.2.2.2.2.2.2.2.2.2.1,x6.2.2.2.2.2.2.2.2.2.2.2.2.2.1,()))else none else none else some ((x4.2.1,x4.2.2.1,x1.2.2.2.1,x1.2.2.2.2.1,x1.2.2.2.2.2.1,x1.2.2.2.2.2.2.1,x1.2.2.2.2.2.2.2.1,x1.2.2.2.2.2.2.2.2.1,x1.2.2.2.2.2.2.2.2.2.1,x2.2.2.2.1,x4.2.2.2.1,x1.2.2.2.2.2.2.2.2.2.2.2.1++[x3.1],x1.2.2.2.2.2.2.2.2.2.2.2.2.1,()))else none)>>=λx4=>aQ (TZ #[59],x4.1,x4.2.1,x4.2.2.2.2.2.2.2.2.2.2.1,())>>=λx5=>if x5.2.2.1.length=x4.2.2.2.2.2.2.2.2.2.2.1.length then if x4.2.2.2.2.2.2.2.2.2.2.2.2.1.length+[x4.2.2.2.2.2.2.2.2.2.1].length<=4294967296 then aR (x5.1,x5.2.1,x4.2.2.1,x4.2.2.2.1,x4.2.2.2.2.1,x4.2.2.2.2.2.1,x4.2.2.2.2.2.2.1,x4.2.2.2.2.2.2.2.1,x4.2.2.2.2.2.2.2.2.1,x5.2.2.1,x4.2.2.2.2.2.2.2.2.2.2.2.1,x4.2.2.2.2.2.2.2.2.2.2.2.2.1++[x4.2.2.2.2.2.2.2.2.2.1],())else none else none else none else none else none else some ((x1.2.1,x1.2.2.1,x1.2.2.2.1,x1.2.2.2.2.1,x1.2.2.2.2.2.1,x1.2.2.2.2.2.2.1,x1.2.2.2.2.2.2.2.1,x1.2.2.2.2.2.2.2.2.1,x1.2.2.2.2.2.2.2.2.2.1,x1.2.2.2.2.2.2.2.2.2.2.1,x1.2.2.2.2.2.2.2.2.2.2.2.1,x1.2.2.2.2.2.2.2.2.2.2.2.2.1,())) partial_fixpoint
noncomputable def gN(v:(List ByteArray)×Bool×(List Item)×Unit):Option ((List ByteArray)×Bool×(List Item)×Item×Unit):=aQ (TZ #[115,116,114,117,99,116],v.1,v.2.1,v.2.2.1,())>>=λx1=>if x1.2.2.1.length=v.2.2.1.length then(bL (x1.1,x1.2.1,x1.2.2.1,())>>=λx2=>if x2.2.2.2.1.length=x1.2.2.1.length then some ((x2.2.1,x2.2.2.1,Item.mk 0 (TZ #[]) (0:Int) [] (aa.mk 0 0 false []),(2:Int),x2.1,(0:Int),(6:Int),(0:Int),false,x2.2.2.2.1,[],[],()))else none)>>=λx2=>aQ (TZ #[123],x2.1,x2.2.1,x2.2.2.2.2.2.2.2.2.2.1,())>>=λx3=>if x3.2.2.1.length=x2.2.2.2.2.2.2.2.2.2.1.length then aR (x3.1,x3.2.1,x2.2.2.1,x2.2.2.2.1,x2.2.2.2.2.1,x2.2.2.2.2.2.1,x2.2.2.2.2.2.2.1,x2.2.2.2.2.2.2.2.1,x2.2.2.2.2.2.2.2.2.1,x3.2.2.1,x2.2.2.2.2.2.2.2.2.2.2.1,x2.2.2.2.2.2.2.2.2.2.2.2.1,())>>=λx4=>aQ (TZ #[125],x4.1,x4.2.1,x4.2.2.2.2.2.2.2.2.2.1,())>>=λx5=>if x5.2.2.1.length=x4.2.2.2.2.2.2.2.2.2.1.length then aQ (TZ #[59],x5.1,x5.2.1,x5.2.2.1,())>>=λx6=>if x6.2.2.1.length=x5.2.2.1.length then fm (x4.2.2.2.2.2.2.2.2.2.2.1,x6.1,x6.2.1,x6.2.2.1,())>>=λx7=>if x7.2.2.1.length=x6.2.2.1.length then some ((x7.1,x7.2.1,x7.2.2.1,Item.mk x4.2.2.2.1 x4.2.2.2.2.1 x4.2.2.2.2.2.1 x4.2.2.2.2.2.2.2.2.2.2.1 (aa.mk x4.2.2.2.2.2.2.1 x4.2.2.2.2.2.2.2.1 x4.2.2.2.2.2.2.2.2.1 x4.2.2.2.2.2.2.2.2.2.2.2.1),()))else none else none else none else none else none
def iT:=kO fa (kO d6 (kO d7 (kO lW (kO ig (kO ij (kO lX k0))))))
def v8:Xc vw:={P:=prog,n:=83,nm:=λd=>match d with|10=>40010|11=>40011|_=>d,call:=iT.1,pre:=yb,sh:=BR,joins:=λk=>match k with|12=>some (t7,[.norm])|_=>none,regs:=λk=>match k with|2=>some dc|4=>some wz|9=>some wA|_=>none,loops:=λk=>match k with|4=>some {cut:=dc,alts:=[.exit 0],F:=aR}|_=>none}
theorem pq:dT v8 (ai (af Tryz.f103) 0) ⟨dc,[.exit 0],aR⟩:=lp0 aR.partial_correctness iT.2
theorem sQ:aq prog 103 yl gN:=fn1 v8 Tryz.func103 iT.2 pq
def Mt:Cut SN:=⟨[(0, .dat (.sl (.st .itemT))),(1, .dat (.int .i64)),(2, .dat .str),(6, .bp 6 0),(8, .dat (.int .i64))],[(6, .st .itemT)]⟩
def O3:Cut SN:=⟨[(0, .dat (.sl (.st .itemT))),(1, .dat (.int .i64)),(2, .dat .str),(6, .bp 6 0),(8, .dat (.int .i64)),(30, .dat .bool)],[(6, .st .itemT)]⟩
def O2:Cut SN:=⟨[(6, .bp 6 0)],[(6, .st .itemT)]⟩
def SS:ay vw:=shL [(0,O2)] Oe
def QE:Sig vw:=sg [.dat (.sl (.st .itemT)), .dat (.int .i64), .dat .str] Oe [.cell 6 44, .tmp 7]
noncomputable def mi(v:(List Item)×Int×ByteArray×Int×Item×Unit):Option (((Bool×Item×Unit)⊕(Item×Unit))):=if decide (v.2.2.2.1<(↑v.1.length:Int))=true then(if 0<=v.2.2.2.1 then v.1[v.2.2.2.1.toNat]?>>=λx1=>if(x1.kind==v.2.1)=true then if 0<=v.2.2.2.1 then v.1[v.2.2.2.1.toNat]?>>=λx2=>some ((v.1,v.2.1,v.2.2.1,v.2.2.2.1,x2.name0.toList==v.2.2.1.toList,v.2.2.2.2.1,()))else none else some ((v.1,v.2.1,v.2.2.1,v.2.2.2.1,false,v.2.2.2.2.1,()))else none)>>=λx1=>if x1.2.2.2.2.1=true then if 0<=x1.2.2.2.1 then x1.1[x1.2.2.2.1.toNat]?>>=λx2=>some (UF (true,x2,()))else none else mi (x1.1,x1.2.1,x1.2.2.1,i64.wrap (x1.2.2.2.1+1),x1.2.2.2.2.2.1,())else some (UI (v.2.2.2.2.1,())) partial_fixpoint
noncomputable def Oo(v:(List Item)×Int×ByteArray×Unit):Option (Bool×Item×Unit):=mi (v.1,v.2.1,v.2.2.1,(0:Int),Item.mk 0 (TZ #[]) (0:Int) [] (aa.mk 0 0 false []),())>>=λx1=>match x1 with| .inl y1=>some y1| .inr y1=>some ((false,Item.mk 0 (TZ #[]) (0:Int) [] (aa.mk 0 0 false []),()))
def x48:Xc vw:=mX prog 36 c0 SS [] [(4,O3)] [(2,⟨Mt,[.ret, .exit 0],mi⟩)]
theorem Ex:dT x48 (ai (af Tryz.f48) 0) ⟨Mt,[.ret, .exit 0],mi⟩:=lp0 mi.partial_correctness bB
theorem KH:aq prog 48 QE Oo:=fn1 x48 Tryz.func48 bB Ex
def oK:Cut SN:=⟨[(0, .bp 100000 0),(2, .bp 2 0),(3, .bp 3 0),(4, .bp 4 0),(5, .dat .bool)],[(100000, .box none [.dat (.sl .str), .vh 100001, .dat .bool]),(2, .st .itemT),(3, .st .layoutT),(4, .box none [.dat (.int .i64), .dat .str, .dat (.int .i64), .vh 3043, .dat (.int .i64), .dat (.int .i64), .dat .bool, .vh 3047]),(100001, .vec 44 (.st .itemT)),(3043, .vec 9 .str),(3047, .vec 42 (.st .layoutT))]⟩
def iS:Cut SN:=⟨[(0, .bp 100000 0),(2, .bp 2 0),(3, .bp 3 0),(4, .bp 4 0)],[(100000, .box none [.dat (.sl .str), .vh 100001, .dat .bool]),(2, .st .itemT),(3, .st .layoutT),(4, .box none [.dat (.int .i64), .dat .str, .dat (.int .i64), .vh 3043, .dat (.int .i64), .dat (.int .i64), .dat .bool, .vh 3047]),(100001, .vec 44 (.st .itemT)),(3043, .vec 9 .str),(3047, .vec 42 (.st .layoutT))]⟩
def wB:Cut SN:=⟨[(0, .bp 100000 0),(2, .bp 2 0),(3, .bp 3 0),(4, .bp 4 0),(37, .dat .bool)],[(100000, .box none [.dat (.sl .str), .vh 100001, .dat .bool]),(2, .st .itemT),(3, .st .layoutT),(4, .box none [.dat (.int .i64), .dat .str, .dat (.int .i64), .vh 3043, .dat (.int .i64), .dat (.int .i64), .dat .bool, .vh 3047]),(100001, .vec 44 (.st .itemT)),(3043, .vec 9 .str),(3047, .vec 42 (.st .layoutT))]⟩
def wC:Cut SN:=⟨[(0, .bp 100000 0),(2, .bp 2 0),(3, .bp 3 0),(4, .bp 4 0),(47, .dat .bool)],[(100000, .box none [.dat (.sl .str), .vh 100001, .dat .bool]),(2, .st .itemT),(3, .st .layoutT),(4, .box none [.dat (.int .i64), .dat .str, .dat (.int .i64), .vh 3043, .dat (.int .i64), .dat (.int .i64), .dat .bool, .vh 3047]),(100001, .vec 44 (.st .itemT)),(3043, .vec 9 .str),(3047, .vec 42 (.st .layoutT))]⟩
def BS:ay vw:=shL [(0,iS)] dM
def yc:Nat->Bool:=λk=>match k with|135=>true|_=>false
def ym:Sig vw:={params:=[.bp 100000 0],objs:=[(100000, .box none [.dat (.sl .str), .vh 100001, .dat .bool]),(100001, .vec 44 (.st .itemT))],rcut:=dM,rvars:=[.cell 2 44],keep:=[100000,100001]}
noncomputable def bz(v:Bool×(List ByteArray)×Bool×Item×aa×Int×ByteArray×Int×Int×Int×Bool×(List Item)×(List ByteArray)×(List aa)×Unit):Option (((List ByteArray)×Bool×Item×aa×Int×ByteArray×Int×Int×Int×Bool×(List Item)×(List ByteArray)×(List aa)×Unit)):=(if v.1=true then some ((!v.2.2.1,v.2.1,v.2.2.1,v.2.2.2.1,v.2.2.2.2.1,v.2.2.2.2.2.1,v.2.2.2.2.2.2.1,v.2.2.2.2.2.2.2.1,v.2.2.2.2.2.2.2.2.1,v.2.2.2.2.2.2.2.2.2.1,v.2.2.2.2.2.2.2.2.2.2.1,v.2.2.2.2.2.2.2.2.2.2.2.1,v.2.2.2.2.2.2.2.2.2.2.2.2.1,v.2.2.2.2.2.2.2.2.2.2.2.2.2.1,()))else some ((false,v.2.1,v.2.2.1,v.2.2.2.1,v.2.2.2.2.1,v.2.2.2.2.2.1,v.2.2.2.2.2.2.1,v.2.2.2.2.2.2.2.1,v.2.2.2.2.2.2.2.2.1,v.2.2.2.2.2.2.2.2.2.1,v.2.2.2.2.2.2.2.2.2.2.1,v.2.2.2.2.2.2.2.2.2.2.2.1,v.2.2.2.2.2.2.2.2.2.2.2.2.1,v.2.2.2.2.2.2.2.2.2.2.2.2.2.1,())))>>=λx1=>if x1.1=true then dq (false,x1.2.1,x1.2.2.1,x1.2.2.2.2.2.2.2.2.2.2.2.1,())>>=λx2=>if x2.2.2.1.length=x1.2.2.2.2.2.2.2.2.2.2.2.1.length then if x1.2.2.2.2.2.2.2.2.2.2.2.2.2.1.length+[x2.2.2.2.1].length<=4294967296 then bL (x2.1,x2.2.1,x2.2.2.1,())>>=λx3=>if x3.2.2.2.1.length=x2.2.2.1.length then if x1.2.2.2.2.2.2.2.2.2.2.2.2.1.length+[x3.1].length<=4294967296 then dS (TZ #[44],x3.2.1,x3.2.2.1,x3.2.2.2.1,())>>=λx4=>if x4.2.2.2.1.length=x3.2.2.2.1.length then bz (x4.1,x4.2.1,x4.2.2.1,x1.2.2.2.1,x1.2.2.2.2.1,x1.2.2.2.2.2.1,x1.2.2.2.2.2.2.1,x1.2.2.2.2.2.2.2.1,x1.2.2.2.2.2.2.2.2.1,x1.2.2.2.2.2.2.2.2.2.1,x1.2.2.2.2.2.2.2.2.2.2.1,x4.2.2.2.1,x1.2.2.2.2.2.2.2.2.2.2.2.2.1++[x3.1],x1.2.2.2.2.2.2.2.2.2.2.2.2.2.1++[x2.2.2.2.1],())else none else none else none else none else none else some ((x1.2.1,x1.2.2.1,x1.2.2.2.1,x1.2.2.2.2.1,x1.2.2.2.2.2.1,x1.2.2.2.2.2.2.1,x1.2.2.2.2.2.2.2.1,x1.2.2.2.2.2.2.2.2.1,x1.2.2.2.2.2.2.2.2.2.1,x1.2.2.2.2.2.2.2.2.2.2.1,x1.2.2.2.2.2.2.2.2.2.2.2.1,x1.2.2.2.2.2.2.2.2.2.2.2.2.1,x1.2.2.2.2.2.2.2.2.2.2.2.2.2.1,())) partial_fixpoint
noncomputable def ej(v:(List ByteArray)×Bool×(List Item)×Unit):Option ((List ByteArray)×Bool×(List Item)×Item×Unit):=dq (true,v.1,v.2.1,v.2.2.1,())>>=λx1=>if x1.2.2.1.length=v.2.2.1.length then(bL (x1.1,x1.2.1,x1.2.2.1,())>>=λx2=>if x2.2.2.2.1.length=x1.2.2.1.length then some ((x2.2.1,x2.2.2.1,Item.mk 0 (TZ #[]) (0:Int) [] (aa.mk 0 0 false []),x1.2.2.2.1,(3:Int),x2.1,(0:Int),(6:Int),(0:Int),false,x2.2.2.2.1,[],[],()))else none)>>=λx2=>aQ (TZ #[40],x2.1,x2.2.1,x2.2.2.2.2.2.2.2.2.2.2.1,())>>=λx3=>if x3.2.2.1.length=x2.2.2.2.2.2.2.2.2.2.2.1.length then((if decide ((↑x3.1.length:Int)>1)=true then x3.1[U1 0]?>>=λx4=>if(x4.toList==(TZ #[118,111,105,100]).toList)=true then x3.1[U1 1]?>>=λx5=>some ((x5.toList==(TZ #[41]).toList,x3.1,x3.2.1,x2.2.2.1,x2.2.2.2.1,x2.2.2.2.2.1,x2.2.2.2.2.2.1,x2.2.2.2.2.2.2.1,x2.2.2.2.2.2.2.2.1,x2.2.2.2.2.2.2.2.2.1,x2.2.2.2.2.2.2.2.2.2.1,x3.2.2.1,x2.2.2.2.2.2.2.2.2.2.2.2.1,x2.2.2.2.2.2.2.2.2.2.2.2.2.1,()))else some ((false,x3.1,x3.2.1,x2.2.2.1,x2.2.2.2.1,x2.2.2.2.2.1,x2.2.2.2.2.2.1,x2.2.2.2.2.2.2.1,x2.2.2.2.2.2.2.2.1,x2.2.2.2.2.2.2.2.2.1,x2.2.2.2.2.2.2.2.2.2.1,x3.2.2.1,x2.2.2.2.2.2.2.2.2.2.2.2.1,x2.2.2.2.2.2.2.2.2.2.2.2.2.1,()))else some ((false,x3.1,x3.2.1,x2.2.2.1,x2.2.2.2.1,x2.2.2.2.2.1,x2.2.2.2.2.2.1,x2.2.2.2.2.2.2.1,x2.2.2.2.2.2.2.2.1,x2.2.2.2.2.2.2.2.2.1,x2.2.2.2.2.2.2.2.2.2.1,x3.2.2.1,x2.2.2.2.2.2.2.2.2.2.2.2.1,x2.2.2.2.2.2.2.2.2.2.2.2.2.1,())))>>=λx4=>if x4.1=true then cT (x4.2.1,x4.2.2.1,x4.2.2.2.2.2.2.2.2.2.2.2.1,())>>=λx5=>if x5.2.2.2.1.length=x4.2.2.2.2.2.2.2.2.2.2.2.1.length then some ((x5.2.1,x5.2.2.1,x4.2.2.2.1,x4.2.2.2.2.1,x4.2.2.2.2.2.1,x4.2.2.2.2.2.2.1,x4.2.2.2.2.2.2.2.1,x4.2.2.2.2.2.2.2.2.1,x4.2.2.2.2.2.2.2.2.2.1,x4.2.2.2.2.2.2.2.2.2.2.1,x5.2.2.2.1,x4.2.2.2.2.2.2.2.2.2.2.2.2.1,x4.2.2.2.2.2.2.2.2.2.2.2.2.2.1,()))else none else bz (true,x4.2.1,x4.2.2.1,x4.2.2.2.1,x4.2.2.2.2.1,x4.2.2.2.2.2.1,x4.2.2.2.2.2.2.1,x4.2.2.2.2.2.2.2.1,x4.2.2.2.2.2.2.2.2.1,x4.2.2.2.2.2.2.2.2.2.1,x4.2.2.2.2.2.2.2.2.2.2.1,x4.2.2.2.2.2.2.2.2.2.2.2.1,x4.2.2.2.2.2.2.2.2.2.2.2.2.1,x4.2.2.2.2.2.2.2.2.2.2.2.2.2.1,())>>=λx5=>some ((x5.1,x5.2.1,x5.2.2.1,x5.2.2.2.1,x5.2.2.2.2.1,x5.2.2.2.2.2.1,x5.2.2.2.2.2.2.1,x5.2.2.2.2.2.2.2.1,x5.2.2.2.2.2.2.2.2.1,x5.2.2.2.2.2.2.2.2.2.1,x5.2.2.2.2.2.2.2.2.2.2.1,x5.2.2.2.2.2.2.2.2.2.2.2.1,x5.2.2.2.2.2.2.2.2.2.2.2.2.1,())))>>=λx4=>aQ (TZ #[41],x4.1,x4.2.1,x4.2.2.2.2.2.2.2.2.2.2.1,())>>=λx5=>if x5.2.2.1.length=x4.2.2.2.2.2.2.2.2.2.2.1.length then aQ (TZ #[59],x5.1,x5.2.1,x5.2.2.1,())>>=λx6=>if x6.2.2.1.length=x5.2.2.1.length then fm (x4.2.2.2.2.2.2.2.2.2.2.2.1,x6.1,x6.2.1,x6.2.2.1,())>>=λx7=>if x7.2.2.1.length=x6.2.2.1.length then if x4.2.2.2.2.2.2.2.2.2.2.2.2.1.length+[x4.2.2.2.1].length<=4294967296 then some ((x7.1,x7.2.1,x7.2.2.1,Item.mk x4.2.2.2.2.1 x4.2.2.2.2.2.1 x4.2.2.2.2.2.2.1 x4.2.2.2.2.2.2.2.2.2.2.2.1 (aa.mk x4.2.2.2.2.2.2.2.1 x4.2.2.2.2.2.2.2.2.1 x4.2.2.2.2.2.2.2.2.2.1 (x4.2.2.2.2.2.2.2.2.2.2.2.2.1++[x4.2.2.2.1])),()))else none else none else none else none else none else none
def iU:=kO fa (kO d6 (kO d7 (kO ig (kO lX (kO dr k0)))))
def v_:Xc vw:={P:=prog,n:=83,nm:=λd=>match d with|10=>40010|11=>40011|_=>d,call:=iU.1,pre:=yc,sh:=BS,joins:=λk=>match k with|11=>some (iS,[.norm])|_=>none,regs:=λk=>match k with|2=>some iS|4=>some wB|7=>some wC|_=>none,loops:=λk=>match k with|7=>some {cut:=oK,alts:=[.exit 0],F:=bz}|_=>none}
theorem pu:dT v_ (ai (af Tryz.f104) 0) ⟨oK,[.exit 0],bz⟩:=lp0 bz.partial_correctness iU.2
theorem sR:aq prog 104 ym ej:=fn1 v_ Tryz.func104 iU.2 pu
def P8:ay vw:={rcut:=bM}
def NF:Sig vw:=sg [.dat (.st .layoutT)] bM [.tmp 2]
noncomputable def HB(v:aa×Unit):Option (Int×Unit):=if(v.1.kind==1)=true then some (((1:Int),()))else if(v.1.kind==2)=true then some ((max v.1.n (0:Int),()))else some (((0:Int),()))
def TI:Xc vw:=mX prog 12 c0 P8 [] [] []
theorem HC:aq prog 143 NF HB:=fn0 TI Tryz.func143 bB
def iC:Cut SN:=⟨[(1, .bp 1 0),(3, .dat (.int .i64)),(4, .dat (.int .i64))],[(1, .st .layoutT)]⟩
def PX:ay vw:=shL [(0,ri)] bM
def Nx:Sig vw:=sg [.dat (.st .layoutT)] bM [.tmp 2]
noncomputable def lj(v:Int×Int×aa×Unit):Option ((Int×Unit)):=if decide (v.2.1<(↑v.2.2.1.parts.length:Int))=true then if 0<=v.2.1 then v.2.2.1.parts[v.2.1.toNat]?>>=λx1=>HB (x1,())>>=λx2=>lj (min (i64.wrap (v.1+min x2.1 (1000:Int))) (100000:Int),i64.wrap (v.2.1+1),v.2.2.1,())else none else some ((v.1,())) partial_fixpoint
noncomputable def Hk(v:aa×Unit):Option (Int×Unit):=lj ((0:Int),(0:Int),v.1,())>>=λx1=>some ((x1.1,()))
def w_:=kP HC k0
def RU:Xc vw:=mX prog 23 w_.1 PX [] [] [(3,⟨iC,[.exit 0],lj⟩)]
theorem Bf:dT RU (ai (af Tryz.f109) 0) ⟨iC,[.exit 0],lj⟩:=lp0 lj.partial_correctness w_.2
theorem Hl:aq prog 109 Nx Hk:=fn1 RU Tryz.func109 w_.2 Bf
def Lg:ay vw:=shL [(0,ri)] bM
def iH:Sig vw:=sg [.dat (.st .layoutT)] bM [.tmp 2]
mutual
noncomputable def fM(v:Int×Int×aa×Unit):Option ((Int×Unit)):=if decide (v.2.1<(↑v.2.2.1.parts.length:Int))=true then if 0<=v.2.1 then v.2.2.1.parts[v.2.1.toNat]?>>=λx1=>n_139 (x1,())>>=λx2=>fM (max v.1 x2.1,i64.wrap (v.2.1+1),v.2.2.1,())else none else some ((v.1,())) partial_fixpoint
noncomputable def n_139(v:aa×Unit):Option (Int×Unit):=fM ((0:Int),(0:Int),v.1,())>>=λx1=>some ((i64.wrap (x1.1+1),())) partial_fixpoint
end
def xd(fM:Int×Int×aa×Unit->Option ((Int×Unit)))(n_139:aa×Unit->Option (Int×Unit)):bx vw:=λA fid args S k=>match fid with|139=>aO prog iH n_139 A args S k|_=>none
def Ac(fM:Int×Int×aa×Unit->Option ((Int×Unit)))(n_139:aa×Unit->Option (Int×Unit)):Xc vw:={P:=prog,n:=22,call:=xd fM n_139,pre:=j9,sh:=Lg,loops:=λk=>match k with|3=>some {cut:=iC,alts:=[.exit 0],F:=fM}|_=>none}
abbrev hY(v:Int×Int×aa×Unit)(r:(Int×Unit)):Prop:=(λv out=>∀C:Ctx,C.P=prog->C.N=22/\Fx C j9->nU C (ai (af Tryz.f139) 0) (Go.Tx.aG vw (bP vw iC v)) (tP Lg [.exit 0] out)) v r
abbrev uZ(v:aa×Unit)(r:Int×Unit):Prop:=(λv r=>∀x,pW prog iH r=some x->iA prog 139 (encL vw (az iH v).len (aU iH v).1) (bo (az iH v).len (az iH v).own) (am vw (bP vw iH.rcut r).len x) (bo (bP vw iH.rcut r).len (jb iH r))) v r
theorem GX(f0:Int×Int×aa×Unit->Option ((Int×Unit)))(f1:aa×Unit->Option (Int×Unit))(h0:∀v r,f0 v=some r->hY v r)(h1:∀v r,f1 v=some r->uZ v r):ax prog (Ac f0 f1).call:=(by
 intro A fid args S dst k r h
 unfold Ac xd at h
 simp only at h
 split at h
 ·exact aj ((λv r x h hx=>h1 v r h x hx)) rfl rfl h
 ·cases h)
theorem Ie(f0:Int×Int×aa×Unit->Option ((Int×Unit)))(f1:aa×Unit->Option (Int×Unit))(h0:∀v r,f0 v=some r->hY v r)(h1:∀v r,f1 v=some r->uZ v r)(v:Int×Int×aa×Unit)(r:(Int×Unit))(h:exL (Ac f0 f1) (ai (af Tryz.f139) 0) iC [.exit 0] f0 v=some r):hY v r:=λC hP hN=>cQ (X:=Ac f0 f1) (b:=(ai (af Tryz.f139) 0)) hP hN Ty.mixed (GX f0 f1 h0 h1) (bc (X:=Ac f0 f1) (c:=(ai (af Tryz.f139) 0)) (bj (by kernel_rfl:True=fx (bg C (Ac f0 f1)) (aJ (ai (af Tryz.f139) 0))) trivial)) (cut:=iC) (alts:=[.exit 0]) (F:=f0) (λv out h=>h0 v out h C hP hN) h
theorem MC(f0:Int×Int×aa×Unit->Option ((Int×Unit)))(h0:∀v r,f0 v=some r->hY v r):ax prog (Ac f0 (λ_=>none)).call:=(by
 intro A fid args S dst k r h
 unfold Ac xd at h
 simp only at h
 split at h
 ·exact aj ((λv r x h hx=>by cases h)) rfl rfl h
 ·cases h)
theorem NY(f0:Int×Int×aa×Unit->Option ((Int×Unit)))(h0:∀v r,f0 v=some r->hY v r)(v:aa×Unit)(r:Int×Unit)(h:exF (Ac f0 (λ_=>none)) iH rfl (af Tryz.f139) v=some r):uZ v r:=λx hx=>lI (X:=Ac f0 (λ_=>none)) (sig:=iH) rfl Tryz.func139 (c:=af Tryz.f139) (by kernel_rfl) Tryz.ntmps139 (by kernel_rfl) (by kernel_rfl) rfl Ty.mixed (MC f0 h0) rfl (λC hP hN=>(bc (X:=Ac f0 (λ_=>none)) (c:=(af Tryz.f139)) (bj (by kernel_rfl:fx (bg C (Ac f0 (λ_=>none))) [(ai (af Tryz.f139) 0)]=fx (bg C (Ac f0 (λ_=>none))) (aJ (af Tryz.f139))) ⟨dJ (X:=Ac f0 (λ_=>none)) (b:=(ai (af Tryz.f139) 0)) (by kernel_rfl) (show dx C (ai (af Tryz.f139) 0) (sh:=Lg) {cut:=iC,alts:=[.exit 0],F:=f0}fromλv out h=>h0 v out h C hP hN),trivial⟩))) h x hx
theorem xQ:(∀v r,fM v=some r->hY v r)/\(∀v r,n_139 v=some r->uZ v r):=by
 refine fM.mutual_partial_correctness
  (motive_1:=hY)
  (motive_2:=uZ)
  ?_ ?_
 ·exact(λf0 f1 h0 h1 v r h=>Ie f0 f1 h0 h1 v r (bj (by kernel_rfl) h))
 ·exact(λf0 h0 v r h=>NY f0 h0 v r (bj (by kernel_rfl) h))
theorem Hv:aq prog 139 iH n_139:=λv r x h hx=>xQ.2 v r h x hx
def Lh:ay vw:=shL [(0,y_)] bM
def iI:Sig vw:=sg [.dat (.st .layoutT)] bM [.tmp 2]
mutual
noncomputable def fN(v:Int×Int×aa×Unit):Option ((Int×aa×Unit)):=if decide (v.2.1<(↑v.2.2.1.parts.length:Int))=true then if 0<=v.2.1 then v.2.2.1.parts[v.2.1.toNat]?>>=λx1=>n_140 (x1,())>>=λx2=>fN (min (i64.wrap (v.1+x2.1)) (100000:Int),i64.wrap (v.2.1+1),v.2.2.1,())else none else some ((v.1,v.2.2.1,())) partial_fixpoint
noncomputable def n_140(v:aa×Unit):Option (Int×Unit):=fN ((0:Int),(0:Int),v.1,())>>=λx1=>(if(x1.2.1.kind==5)=true then some ((i64.wrap (min (max x1.2.1.n (0:Int)) (100000:Int) *x1.1),()))else some ((x1.1,())))>>=λx2=>some ((min (i64.wrap (x2.1+1)) (100000:Int),())) partial_fixpoint
end
def xe(fN:Int×Int×aa×Unit->Option ((Int×aa×Unit)))(n_140:aa×Unit->Option (Int×Unit)):bx vw:=λA fid args S k=>match fid with|140=>aO prog iI n_140 A args S k|_=>none
def Ad(fN:Int×Int×aa×Unit->Option ((Int×aa×Unit)))(n_140:aa×Unit->Option (Int×Unit)):Xc vw:={P:=prog,n:=33,call:=xe fN n_140,pre:=j9,sh:=Lh,joins:=λk=>match k with|8=>some (ri,[.norm])|_=>none,loops:=λk=>match k with|3=>some {cut:=iC,alts:=[.exit 0],F:=fN}|_=>none}
abbrev hZ(v:Int×Int×aa×Unit)(r:(Int×aa×Unit)):Prop:=(λv out=>∀C:Ctx,C.P=prog->C.N=33/\Fx C j9->nU C (ai (af Tryz.f140) 0) (Go.Tx.aG vw (bP vw iC v)) (tP Lh [.exit 0] out)) v r
abbrev u1(v:aa×Unit)(r:Int×Unit):Prop:=(λv r=>∀x,pW prog iI r=some x->iA prog 140 (encL vw (az iI v).len (aU iI v).1) (bo (az iI v).len (az iI v).own) (am vw (bP vw iI.rcut r).len x) (bo (bP vw iI.rcut r).len (jb iI r))) v r
theorem GY(f0:Int×Int×aa×Unit->Option ((Int×aa×Unit)))(f1:aa×Unit->Option (Int×Unit))(h0:∀v r,f0 v=some r->hZ v r)(h1:∀v r,f1 v=some r->u1 v r):ax prog (Ad f0 f1).call:=(by
 intro A fid args S dst k r h
 unfold Ad xe at h
 simp only at h
 split at h
 ·exact aj ((λv r x h hx=>h1 v r h x hx)) rfl rfl h
 ·cases h)
theorem Ig(f0:Int×Int×aa×Unit->Option ((Int×aa×Unit)))(f1:aa×Unit->Option (Int×Unit))(h0:∀v r,f0 v=some r->hZ v r)(h1:∀v r,f1 v=some r->u1 v r)(v:Int×Int×aa×Unit)(r:(Int×aa×Unit))(h:exL (Ad f0 f1) (ai (af Tryz.f140) 0) iC [.exit 0] f0 v=some r):hZ v r:=λC hP hN=>cQ (X:=Ad f0 f1) (b:=(ai (af Tryz.f140) 0)) hP hN Ty.mixed (GY f0 f1 h0 h1) (bc (X:=Ad f0 f1) (c:=(ai (af Tryz.f140) 0)) (bj (by kernel_rfl:True=fx (bg C (Ad f0 f1)) (aJ (ai (af Tryz.f140) 0))) trivial)) (cut:=iC) (alts:=[.exit 0]) (F:=f0) (λv out h=>h0 v out h C hP hN) h
theorem MD(f0:Int×Int×aa×Unit->Option ((Int×aa×Unit)))(h0:∀v r,f0 v=some r->hZ v r):ax prog (Ad f0 (λ_=>none)).call:=(by
 intro A fid args S dst k r h
 unfold Ad xe at h
 simp only at h
 split at h
 ·exact aj ((λv r x h hx=>by cases h)) rfl rfl h
 ·cases h)
theorem NZ(f0:Int×Int×aa×Unit->Option ((Int×aa×Unit)))(h0:∀v r,f0 v=some r->hZ v r)(v:aa×Unit)(r:Int×Unit)(h:exF (Ad f0 (λ_=>none)) iI rfl (af Tryz.f140) v=some r):u1 v r:=λx hx=>lI (X:=Ad f0 (λ_=>none)) (sig:=iI) rfl Tryz.func140 (c:=af Tryz.f140) (by kernel_rfl) Tryz.ntmps140 (by kernel_rfl) (by kernel_rfl) rfl Ty.mixed (MD f0 h0) rfl (λC hP hN=>(bc (X:=Ad f0 (λ_=>none)) (c:=(af Tryz.f140)) (bj (by kernel_rfl:fx (bg C (Ad f0 (λ_=>none))) [(ai (af Tryz.f140) 0)]=fx (bg C (Ad f0 (λ_=>none))) (aJ (af Tryz.f140))) ⟨dJ (X:=Ad f0 (λ_=>none)) (b:=(ai (af Tryz.f140) 0)) (by kernel_rfl) (show dx C (ai (af Tryz.f140) 0) (sh:=Lh) {cut:=iC,alts:=[.exit 0],F:=f0}fromλv out h=>h0 v out h C hP hN),trivial⟩))) h x hx
theorem xR:(∀v r,fN v=some r->hZ v r)/\(∀v r,n_140 v=some r->u1 v r):=by
 refine fN.mutual_partial_correctness
  (motive_1:=hZ)
  (motive_2:=u1)
  ?_ ?_
 ·exact(λf0 f1 h0 h1 v r h=>Ig f0 f1 h0 h1 v r (bj (by kernel_rfl) h))
 ·exact(λf0 h0 v r h=>NZ f0 h0 v r (bj (by kernel_rfl) h))
theorem Hw:aq prog 140 iI n_140:=λv r x h hx=>xR.2 v r h x hx
def P6:ay vw:={rcut:=bM}
def ND:Sig vw:=sg [.dat (.int .i64)] bM [.tmp 2]
noncomputable def Hx(v:Int×Unit):Option (Int×Unit):=if(v.1==2)=true then some (((64:Int),()))else if(v.1==5)=true then some (((1000:Int),()))else if(v.1==7)=true then some (((65536:Int),()))else some (((9223372036854775807:Int),()))
def TH:Xc vw:=mX prog 10 c0 P6 [] [] []
theorem Hy:aq prog 141 ND Hx:=fn0 TH Tryz.func141 bB
def rj:Cut SN:=⟨[(6, .dat .bool)],[]⟩
def P2:ay vw:={rcut:=rj}
def Ny:Sig vw:=sg [.dat (.int .i64), .dat (.int .i64), .dat (.int .i64)] rj [.tmp 6]
noncomputable def Hm(v:Int×Int×Int×Unit):Option (Bool×Unit):=(if decide (v.1>=v.2.1)=true then some ((decide (v.1<=v.2.2.1),()))else some ((false,())))>>=λx1=>some ((x1.1,()))
def TG:Xc vw:=mX prog 15 c0 P2 [] [(1,rj)] []
theorem Hn:aq prog 114 Ny Hm:=fn0 TG Tryz.func114 bB
def Mh:Cut SN:=⟨[(1, .bp 1 0),(4, .dat (.int .i64)),(12, .dat .bool)],[(1, .st .layoutT)]⟩
def Qe:ay vw:={rcut:=dG}
def NM:Sig vw:=sg [.dat (.st .layoutT)] dG [.tmp 2]
noncomputable def HI(v:aa×Unit):Option (Bool×Unit):=(if(v.1.kind==4)=true then some ((v.1.kind,true,v.1,()))else some ((v.1.kind,v.1.kind==5,v.1,())))>>=λx1=>if x1.2.1=true then some (((↑x1.2.2.1.parts.length:Int)==1,()))else(if(x1.1==6)=true then some ((x1.1,true,x1.2.2.1,()))else some ((x1.1,x1.1==9,x1.2.2.1,())))>>=λx2=>if x2.2.1=true then some ((true,()))else if(x2.1==8)=true then some ((decide ((↑x2.2.2.1.parts.length:Int)>=1),()))else some (((↑x2.2.2.1.parts.length:Int)==0,()))
def TM:Xc vw:=mX prog 25 c0 Qe [(4,Mx,[.norm]),(7,Mh,[.norm])] [] []
theorem HJ:aq prog 171 NM HI:=fn0 TM Tryz.func171 bB
def Md:Cut SN:=⟨[(1, .bp 1 0),(23, .dat (.int .i64)),(24, .dat .bool)],[(1, .st .layoutT)]⟩
def C_:Cut SN:=⟨[(1, .bp 1 0)],[(1, .st .layoutT)]⟩
def Me:Cut SN:=⟨[(1, .bp 1 0),(21, .dat .bool)],[(1, .st .layoutT)]⟩
def JV:Cut SN:=⟨[(1, .bp 1 0),(3, .dat (.int .i64)),(59, .dat .bool)],[(1, .st .layoutT)]⟩
def P7:ay vw:=shL [(1,C_)] dG
def NE:Sig vw:=sg [.dat (.st .layoutT)] dG [.tmp 2]
noncomputable def il(v:Int×aa×Unit):Option (((Bool×Unit)⊕(aa×Unit))):=if decide (v.1<(↑v.2.1.parts.length:Int))=true then(if 0<=v.1 then v.2.1.parts[v.1.toNat]?>>=λx1=>if(x1.kind !=1)=true then if 0<=v.1 then v.2.1.parts[v.1.toNat]?>>=λx2=>some ((v.1,x2.kind !=2,v.2.1,()))else none else some ((v.1,false,v.2.1,()))else none)>>=λx1=>if x1.2.1=true then some (UF (false,()))else il (i64.wrap (x1.1+1),x1.2.2.1,())else some (UI (v.2.1,())) partial_fixpoint
noncomputable def Hz(v:aa×Unit):Option (Bool×Unit):=(Hm (v.1.kind,(0:Int),(9:Int),())>>=λx1=>if(!x1.1)=true then some ((true,v.1,()))else HI (v.1,())>>=λx2=>if(!x2.1)=true then some ((true,v.1,()))else if v.1.flag=true then some ((v.1.kind !=2,v.1,()))else some ((false,v.1,())))>>=λx1=>if x1.1=true then some ((false,()))else((if(x1.2.1.kind==2)=true then some ((x1.2.1.kind,true,x1.2.1,()))else some ((x1.2.1.kind,x1.2.1.kind==7,x1.2.1,())))>>=λx2=>if x2.2.1=true then some (UI (decide (x2.2.2.1.n>=1),()))else if(x2.1==5)=true then some (UI (decide (x2.2.2.1.n>=0),()))else if(x2.1==9)=true then il ((0:Int),x2.2.2.1,())>>=λx3=>match x3 with| .inl y3=>some (UI y3)| .inr y3=>some (UF (y3.1,()))else some (UF (x2.2.2.1,())))>>=λx2=>match x2 with| .inl y2=>some ((y2.1.n==0,()))| .inr y2=>some y2
def xf:=kP Hn (kP HJ k0)
def RZ:Xc vw:=mX prog 63 xf.1 P7 [(6,Md,[.norm]),(15,C_,[.norm, .ret])] [(1,Me),(13,JV)] [(11,⟨y_,[.ret, .exit 1],il⟩)]
theorem xS:dT RZ (ai (af Tryz.f142) 0) ⟨y_,[.ret, .exit 1],il⟩:=lp0 il.partial_correctness xf.2
theorem HA:aq prog 142 NE Hz:=fn1 RZ Tryz.func142 xf.2 xS
def Db:Cut SN:=⟨[(1, .bp 1 0),(3, .vh 1003),(4, .dat (.int .i64))],[(1, .st .layoutT),(1003, .vec 42 (.st .layoutT))]⟩
def O9:Cut SN:=⟨[(3, .vh 1003)],[(1003, .vec 42 (.st .layoutT))]⟩
def Ry:Cut SN:=⟨[(2, .dat (.sl (.st .layoutT)))],[]⟩
def Qi:ay vw:=shL [(0,O9)] Ry
def n9:Sig vw:=sg [.dat (.st .layoutT)] Ry [.tmp 2]
mutual
noncomputable def ji(v:Int×aa×(List aa)×Unit):Option (((List aa)×Unit)):=if decide (v.1<(↑v.2.1.parts.length:Int))=true then if 0<=v.1 then v.2.1.parts[v.1.toNat]?>>=λx1=>n_57 (x1,())>>=λx2=>if v.2.2.1.length+x2.1.length<=4294967296 then ji (i64.wrap (v.1+1),v.2.1,v.2.2.1++x2.1,())else none else none else some ((v.2.2.1,())) partial_fixpoint
noncomputable def n_57(v:aa×Unit):Option ((List aa)×Unit):=ji ((0:Int),v.1,[v.1],())>>=λx1=>some ((x1.1,())) partial_fixpoint
end
def Do(ji:Int×aa×(List aa)×Unit->Option (((List aa)×Unit)))(n_57:aa×Unit->Option ((List aa)×Unit)):bx vw:=λA fid args S k=>match fid with|57=>aO prog n9 n_57 A args S k|_=>none
def x57(ji:Int×aa×(List aa)×Unit->Option (((List aa)×Unit)))(n_57:aa×Unit->Option ((List aa)×Unit)):Xc vw:={P:=prog,n:=23,nm:=λd=>match d with|6=>40006|_=>d,call:=Do ji n_57,pre:=j9,sh:=Qi,loops:=λk=>match k with|3=>some {cut:=Db,alts:=[.exit 0],F:=ji}|_=>none}
abbrev ld(v:Int×aa×(List aa)×Unit)(r:((List aa)×Unit)):Prop:=(λv out=>∀C:Ctx,C.P=prog->C.N=23/\Fx C j9->nU C (ai (af Tryz.f57) 0) (Go.Tx.aG vw (bP vw Db v)) (tP Qi [.exit 0] out)) v r
abbrev Eb(v:aa×Unit)(r:(List aa)×Unit):Prop:=(λv r=>∀x,pW prog n9 r=some x->iA prog 57 (encL vw (az n9 v).len (aU n9 v).1) (bo (az n9 v).len (az n9 v).own) (am vw (bP vw n9.rcut r).len x) (bo (bP vw n9.rcut r).len (jb n9 r))) v r
theorem J5(f0:Int×aa×(List aa)×Unit->Option (((List aa)×Unit)))(f1:aa×Unit->Option ((List aa)×Unit))(h0:∀v r,f0 v=some r->ld v r)(h1:∀v r,f1 v=some r->Eb v r):ax prog (x57 f0 f1).call:=(by
 intro A fid args S dst k r h
 unfold x57 Do at h
 simp only at h
 split at h
 ·exact aj ((λv r x h hx=>h1 v r h x hx)) rfl rfl h
 ·cases h)
theorem Lk(f0:Int×aa×(List aa)×Unit->Option (((List aa)×Unit)))(f1:aa×Unit->Option ((List aa)×Unit))(h0:∀v r,f0 v=some r->ld v r)(h1:∀v r,f1 v=some r->Eb v r)(v:Int×aa×(List aa)×Unit)(r:((List aa)×Unit))(h:exL (x57 f0 f1) (ai (af Tryz.f57) 0) Db [.exit 0] f0 v=some r):ld v r:=λC hP hN=>cQ (X:=x57 f0 f1) (b:=(ai (af Tryz.f57) 0)) hP hN Ty.mixed (J5 f0 f1 h0 h1) (bc (X:=x57 f0 f1) (c:=(ai (af Tryz.f57) 0)) (bj (by kernel_rfl:True=fx (bg C (x57 f0 f1)) (aJ (ai (af Tryz.f57) 0))) trivial)) (cut:=Db) (alts:=[.exit 0]) (F:=f0) (λv out h=>h0 v out h C hP hN) h
theorem Pk(f0:Int×aa×(List aa)×Unit->Option (((List aa)×Unit)))(h0:∀v r,f0 v=some r->ld v r):ax prog (x57 f0 (λ_=>none)).call:=(by
 intro A fid args S dst k r h
 unfold x57 Do at h
 simp only at h
 split at h
 ·exact aj ((λv r x h hx=>by cases h)) rfl rfl h
 ·cases h)
theorem QV(f0:Int×aa×(List aa)×Unit->Option (((List aa)×Unit)))(h0:∀v r,f0 v=some r->ld v r)(v:aa×Unit)(r:(List aa)×Unit)(h:exF (x57 f0 (λ_=>none)) n9 rfl (af Tryz.f57) v=some r):Eb v r:=λx hx=>lI (X:=x57 f0 (λ_=>none)) (sig:=n9) rfl Tryz.func57 (c:=af Tryz.f57) (by kernel_rfl) Tryz.ntmps57 (by kernel_rfl) (by kernel_rfl) rfl Ty.mixed (Pk f0 h0) rfl (λC hP hN=>(bc (X:=x57 f0 (λ_=>none)) (c:=(af Tryz.f57)) (bj (by kernel_rfl:fx (bg C (x57 f0 (λ_=>none))) [(ai (af Tryz.f57) 0)]=fx (bg C (x57 f0 (λ_=>none))) (aJ (af Tryz.f57))) ⟨dJ (X:=x57 f0 (λ_=>none)) (b:=(ai (af Tryz.f57) 0)) (by kernel_rfl) (show dx C (ai (af Tryz.f57) 0) (sh:=Qi) {cut:=Db,alts:=[.exit 0],F:=f0}fromλv out h=>h0 v out h C hP hN),trivial⟩))) h x hx
theorem Bv:(∀v r,ji v=some r->ld v r)/\(∀v r,n_57 v=some r->Eb v r):=by
 refine ji.mutual_partial_correctness
  (motive_1:=ld)
  (motive_2:=Eb)
  ?_ ?_
 ·exact(λf0 f1 h0 h1 v r h=>Lk f0 f1 h0 h1 v r (bj (by kernel_rfl) h))
 ·exact(λf0 h0 v r h=>QV f0 h0 v r (bj (by kernel_rfl) h))
theorem KM:aq prog 57 n9 n_57:=λv r x h hx=>Bv.2 v r h x hx
def IV:Cut SN:=⟨[(3, .dat (.sl (.st .layoutT))),(4, .dat (.int .i64))],[]⟩
def C8:Cut SN:=⟨[(3, .dat (.sl (.st .layoutT))),(6, .dat (.int .i64))],[]⟩
def L4:Cut SN:=⟨[(3, .dat (.sl (.st .layoutT))),(21, .dat .bool)],[]⟩
def L5:Cut SN:=⟨[(3, .dat (.sl (.st .layoutT))),(4, .dat (.int .i64)),(53, .dat .bool)],[]⟩
def L3:Cut SN:=⟨[(3, .dat (.sl (.st .layoutT)))],[]⟩
def PW:ay vw:=shL [(0,L3),(2,nX)] bM
def Nw:Sig vw:=sg [.dat (.st .layoutT)] bM [.tmp 2]
noncomputable def lh(v:(List aa)×Int×Unit):Option (((Int×Unit)⊕((List aa)×Unit))):=if decide (v.2.1<(↑v.1.length:Int))=true then if 0<=v.2.1 then v.1[v.2.1.toNat]?>>=λx1=>(if decide ((↑x1.parts.length:Int)>12)=true then some ((v.1,v.2.1,true,()))else Hx (x1.kind,())>>=λx2=>if decide (x1.n>x2.1)=true then some ((v.1,v.2.1,true,()))else if(x1.kind==9)=true then Hk (x1,())>>=λx3=>some ((v.1,v.2.1,decide (x3.1>64),()))else some ((v.1,v.2.1,false,())))>>=λx2=>if x2.2.2.1=true then some (UF ((3:Int),()))else lh (x2.1,i64.wrap (x2.2.1+1),())else none else some (UI (v.1,())) partial_fixpoint
noncomputable def ib(v:(List aa)×Int×Unit):Option (((Int×Unit)⊕(Unit))):=if decide (v.2.1<(↑v.1.length:Int))=true then if 0<=v.2.1 then v.1[v.2.1.toNat]?>>=λx1=>Hz (x1,())>>=λx2=>if(!x2.1)=true then some (UF ((1:Int),()))else ib (v.1,i64.wrap (v.2.1+1),())else none else some (UI ()) partial_fixpoint
noncomputable def Bd(v:aa×Unit):Option (Int×Unit):=n_57 (v.1,())>>=λx1=>(if decide ((↑x1.1.length:Int)>60)=true then some ((x1.1,true,()))else n_139 (v.1,())>>=λx2=>if decide (x2.1>5)=true then some ((x1.1,true,()))else n_140 (v.1,())>>=λx3=>some ((x1.1,decide (x3.1>4096),())))>>=λx2=>if x2.2.1=true then some (((3:Int),()))else lh (x2.1,(0:Int),())>>=λx3=>match x3 with| .inl y3=>some y3| .inr y3=>ib (y3.1,(0:Int),())>>=λx4=>match x4 with| .inl y4=>some y4| .inr y4=>some (((0:Int),()))
def sn:=kP KM (kP Hl (kP Hv (kP Hw (kP Hy (kP HA k0)))))
def Rh:Xc vw:=mX prog 66 sn.1 PW [] [(2,L4),(8,L5)] [(5,⟨IV,[.ret, .exit 0],lh⟩),(11,⟨C8,[.ret, .exit 2],ib⟩)]
theorem Be:dT Rh (ai (af Tryz.f105) 0) ⟨IV,[.ret, .exit 0],lh⟩:=lp0 lh.partial_correctness sn.2
theorem xO:dT Rh (ai (af Tryz.f105) 1) ⟨C8,[.ret, .exit 2],ib⟩:=lp0 ib.partial_correctness sn.2
theorem Hj:aq prog 105 Nw Bd:=fn2 Rh Tryz.func105 sn.2 Be xO
def SL:ay vw:={rcut:=dG}
def Qy:Sig vw:=sg [.dat .str] dG [.tmp 2]
noncomputable def PN(v:ByteArray×Unit):Option (Bool×Unit):=some ((decide ((↑v.1.size:Int)>4096),()))
def x37:Xc vw:=mX prog 6 c0 SL [] [] []
theorem KB:aq prog 37 Qy PN:=fn0 x37 Tryz.func37 bB
def J2:Cut SN:=⟨[(0, .dat .str),(3, .vh 1003),(4, .dat (.int .i64))],[(1003, .vec 125 (.st .tokenT))]⟩
def wX:Cut SN:=⟨[(0, .dat .str),(3, .vh 1003),(4, .dat (.int .i64)),(5, .dat (.int .i64))],[(1003, .vec 125 (.st .tokenT))]⟩
def O7:Cut SN:=⟨[(0, .dat .str),(3, .vh 1003),(4, .dat (.int .i64)),(5, .dat (.int .i64)),(6, .dat (.int .u8)),(17, .dat .bool)],[(1003, .vec 125 (.st .tokenT))]⟩
def O8:Cut SN:=⟨[(0, .dat .str),(3, .vh 1003),(4, .dat (.int .i64)),(5, .dat (.int .i64)),(46, .dat .bool)],[(1003, .vec 125 (.st .tokenT))]⟩
def Mw:Cut SN:=⟨[(0, .dat .str),(3, .vh 1003),(4, .dat (.int .i64)),(5, .dat (.int .i64)),(61, .dat .bool)],[(1003, .vec 125 (.st .tokenT))]⟩
def O6:Cut SN:=⟨[(3, .vh 1003)],[(1003, .vec 125 (.st .tokenT))]⟩
def Rx:Cut SN:=⟨[(2, .dat (.sl (.st .tokenT)))],[]⟩
def RS:ay vw:=shL [(0,O6),(1,J2),(3,wX),(5,wX)] Rx
def QF:Sig vw:=sg [.dat .str] Rx [.tmp 2]
noncomputable def nH(v:ByteArray×Int×Int×(List aH)×Unit):Option ((ByteArray×Int×Int×(List aH)×Unit)):=(if decide (v.2.1<(↑v.1.size:Int))=true then if 0<=v.2.1 then v.1[v.2.1.toNat]?>>=λx1=>LN ((↑x1.toNat:Int),())>>=λx2=>if x2.1=true then some ((v.1,v.2.1,v.2.2.1,true,v.2.2.2.1,()))else if 0<=v.2.1 then v.1[v.2.1.toNat]?>>=λx3=>KX ((↑x3.toNat:Int),())>>=λx4=>some ((v.1,v.2.1,v.2.2.1,x4.1,v.2.2.2.1,()))else none else none else some ((v.1,v.2.1,v.2.2.1,false,v.2.2.2.1,())))>>=λx1=>if x1.2.2.2.1=true then nH (x1.1,i64.wrap (x1.2.1+1),x1.2.2.1,x1.2.2.2.2.1,())else some ((x1.1,x1.2.1,x1.2.2.1,x1.2.2.2.2.1,())) partial_fixpoint
noncomputable def jg(v:ByteArray×Int×Int×(List aH)×Unit):Option ((ByteArray×Int×Int×(List aH)×Unit)):=(if decide (v.2.1<(↑v.1.size:Int))=true then if 0<=v.2.1 then v.1[v.2.1.toNat]?>>=λx1=>KX ((↑x1.toNat:Int),())>>=λx2=>some ((v.1,v.2.1,v.2.2.1,x2.1,v.2.2.2.1,()))else none else some ((v.1,v.2.1,v.2.2.1,false,v.2.2.2.1,())))>>=λx1=>if x1.2.2.2.1=true then jg (x1.1,i64.wrap (x1.2.1+1),x1.2.2.1,x1.2.2.2.2.1,())else some ((x1.1,x1.2.1,x1.2.2.1,x1.2.2.2.2.1,())) partial_fixpoint
noncomputable def jh(v:ByteArray×Int×(List aH)×Unit):Option (((List aH)×Unit)):=if decide (v.2.1<(↑v.1.size:Int))=true then if 0<=v.2.1 then v.1[v.2.1.toNat]?>>=λx1=>((if((↑x1.toNat:Int)==32)=true then some ((v.1,i64.wrap (v.2.1+1),v.2.1,(↑x1.toNat:Int),true,v.2.2.1,()))else if((↑x1.toNat:Int)==9)=true then some ((v.1,i64.wrap (v.2.1+1),v.2.1,(↑x1.toNat:Int),true,v.2.2.1,()))else some ((v.1,i64.wrap (v.2.1+1),v.2.1,(↑x1.toNat:Int),(↑x1.toNat:Int)==10,v.2.2.1,())))>>=λx2=>if x2.2.2.2.2.1=true then some (UI (x2.1,x2.2.1,x2.2.2.2.2.2.1,()))else LN (x2.2.2.2.1,())>>=λx3=>if x3.1=true then nH (x2.1,x2.2.1,x2.2.2.1,x2.2.2.2.2.2.1,())>>=λx4=>some (UF (x4.1,x4.2.1,x4.2.2.1,x4.2.2.2.1,()))else KX (x2.2.2.2.1,())>>=λx4=>if x4.1=true then jg (x2.1,x2.2.1,x2.2.2.1,x2.2.2.2.2.2.1,())>>=λx5=>some (UF (x5.1,x5.2.1,x5.2.2.1,x5.2.2.2.1,()))else some (UF (x2.1,x2.2.1,x2.2.2.1,x2.2.2.2.2.2.1,())))>>=λx2=>match x2 with| .inl y2=>if 0<=y2.2.2.1/\y2.2.2.1<=y2.2.1/\y2.2.1<=(↑y2.1.size:Int)then if y2.2.2.2.1.length+[aH.mk y2.2.2.1 (y2.1.extract y2.2.2.1.toNat y2.2.1.toNat)].length<=4294967296 then jh (y2.1,y2.2.1,y2.2.2.2.1++[aH.mk y2.2.2.1 (y2.1.extract y2.2.2.1.toNat y2.2.1.toNat)],())else none else none| .inr y2=>jh (y2.1,y2.2.1,y2.2.2.1,())else none else some ((v.2.2.1,())) partial_fixpoint
noncomputable def Oq(v:ByteArray×Unit):Option ((List aH)×Unit):=jh (v.1,(0:Int),[],())>>=λx1=>some ((x1.1,()))
def uv:=kP EI (kP EJ k0)
def x53:Xc vw:=mX prog 74 uv.1 RS [(14,wX,[.norm, .exit 1])] [(7,O7),(9,O8),(12,Mw)] [(3,⟨J2,[.exit 0],jh⟩),(9,⟨wX,[.exit 3],nH⟩),(12,⟨wX,[.exit 5],jg⟩)]
theorem EC:dT x53 (ai (ai (af Tryz.f53) 0) 0) ⟨wX,[.exit 3],nH⟩:=lp0 nH.partial_correctness uv.2
theorem Bu:dT x53 (ai (ai (af Tryz.f53) 0) 1) ⟨wX,[.exit 5],jg⟩:=lp0 jg.partial_correctness uv.2
theorem EB(C:Ctx)(hP:C.P=prog)(hN:C.N=74/\Fx C j9):dx C (ai (af Tryz.f53) 0) (sh:=RS) {cut:=J2,alts:=[.exit 0],F:=jh}:=
 lpB (X:=x53) jh.partial_correctness hP hN Ty.mixed uv.2 (PK (by kernel_rfl) (by kernel_rfl) (by kernel_rfl) (EC C hP hN) (Bu C hP hN)) λF v=>by kernel_rfl
theorem KL:aq prog 53 QF Oq:=fn1 x53 Tryz.func53 uv.2 EB
def J3:Cut SN:=⟨[(0, .dat .str),(3, .vh 1003),(4, .dat .bool),(5, .dat (.int .i64))],[(1003, .vec 4 .bool)]⟩
def Pd:Cut SN:=⟨[(0, .dat .str),(3, .vh 1003),(4, .dat .bool),(5, .dat (.int .i64)),(23, .dat .bool)],[(1003, .vec 4 .bool)]⟩
def Pc:Cut SN:=⟨[(3, .vh 1003)],[(1003, .vec 4 .bool)]⟩
def RC:Cut SN:=⟨[(2, .dat (.sl .bool))],[]⟩
def S9:ay vw:=shL [(0,Pc)] RC
def QN:Sig vw:=sg [.dat .str] RC [.tmp 2]
noncomputable def kf(v:ByteArray×Bool×Int×(List Bool)×Unit):Option (((List Bool)×Unit)):=if decide (v.2.2.1<(↑v.1.size:Int))=true then((if(v.2.2.1==0)=true then some ((v.1,v.2.1,v.2.2.1,true,v.2.2.2.1,()))else if 0<=i64.wrap (v.2.2.1-1)then v.1[(i64.wrap (v.2.2.1-1)).toNat]?>>=λx1=>some ((v.1,v.2.1,v.2.2.1,(↑x1.toNat:Int)==10,v.2.2.2.1,()))else none)>>=λx1=>if x1.2.2.2.1=true then if 0<=x1.2.2.1 then x1.1[x1.2.2.1.toNat]?>>=λx2=>some ((x1.1,(↑x2.toNat:Int)==35,x1.2.2.1,x1.2.2.2.2.1,()))else none else some ((x1.1,x1.2.1,x1.2.2.1,x1.2.2.2.2.1,())))>>=λx1=>if 0<=x1.2.2.1/\x1.2.2.1<(↑x1.2.2.2.1.length:Int)then x1.2.2.2.1[x1.2.2.1.toNat]?>>=λx2=>kf (x1.1,x1.2.1,i64.wrap (x1.2.2.1+1),x1.2.2.2.1.set x1.2.2.1.toNat x1.2.1,())else none else some ((v.2.2.2.1,())) partial_fixpoint
noncomputable def Oy(v:ByteArray×Unit):Option ((List Bool)×Unit):=if(↑v.1.size:Int)<=4294967296 then kf (v.1,false,(0:Int),UX (↑v.1.size:Int).toNat false,())>>=λx1=>some ((x1.1,()))else none
def x85:Xc vw:=mX prog 33 c0 S9 [(8,J3,[.norm])] [(6,Pd)] [(4,⟨J3,[.exit 0],kf⟩)]
theorem EF:dT x85 (ai (af Tryz.f85) 0) ⟨J3,[.exit 0],kf⟩:=lp0 kf.partial_correctness bB
theorem KV:aq prog 85 QN Oy:=fn1 x85 Tryz.func85 bB EF
def J0:Cut SN:=⟨[(0, .dat .str),(3, .dat (.sl .bool)),(4, .dat (.sl (.st .tokenT))),(5, .vh 1005),(6, .dat (.int .i64)),(7, .dat (.int .i64)),(8, .dat (.int .i64)),(9, .dat (.int .i64))],[(1005, .dvec 77 (.sl (.st .tokenT)) false)]⟩
def I4:Cut SN:=⟨[(0, .dat .str),(3, .dat (.sl .bool)),(4, .dat (.sl (.st .tokenT))),(5, .vh 1005),(6, .dat (.int .i64)),(7, .dat (.int .i64)),(8, .dat (.int .i64)),(9, .dat (.int .i64)),(10, .bp 10 0)],[(1005, .dvec 77 (.sl (.st .tokenT)) false),(10, .st .tokenT)]⟩
def Mu:Cut SN:=⟨[(0, .dat .str),(3, .dat (.sl .bool)),(4, .dat (.sl (.st .tokenT))),(5, .vh 1005),(6, .dat (.int .i64)),(7, .dat (.int .i64)),(8, .dat (.int .i64)),(9, .dat (.int .i64)),(10, .bp 10 0),(40, .dat .bool)],[(1005, .dvec 77 (.sl (.st .tokenT)) false),(10, .st .tokenT)]⟩
def O4:Cut SN:=⟨[(5, .vh 1005)],[(1005, .dvec 77 (.sl (.st .tokenT)) false)]⟩
def Rv:Cut SN:=⟨[(2, .dat (.sl (.sl (.st .tokenT))))],[]⟩
def ST:ay vw:=shL [(0,O4)] Rv
def PS:Nat->Bool:=λk=>match k with|1000042=>true|1000060=>true|_=>false
def NR:Sig vw:=sg [.dat .str] Rv [.tmp 2]
noncomputable def cZ(v:ByteArray×(List Bool)×(List aH)×Int×Int×Int×Int×(List (List aH))×Unit):Option (((List (List aH))×Unit)):=if decide (v.2.2.2.2.2.2.1<(↑v.2.2.1.length:Int))=true then(if 0<=v.2.2.2.2.2.2.1 then v.2.2.1[v.2.2.2.2.2.2.1.toNat]?>>=λx1=>if 0<=x1.at0 then v.2.1[x1.at0.toNat]?>>=λx2=>if x2=true then((if(x1.at0==0)=true then some ((v.1,v.2.1,v.2.2.1,v.2.2.2.1,v.2.2.2.2.1,v.2.2.2.2.2.1,v.2.2.2.2.2.2.1,true,v.2.2.2.2.2.2.2.1,x1,()))else if 0<=i64.wrap (x1.at0-1)then v.1[(i64.wrap (x1.at0-1)).toNat]?>>=λx3=>some ((v.1,v.2.1,v.2.2.1,v.2.2.2.1,v.2.2.2.2.1,v.2.2.2.2.2.1,v.2.2.2.2.2.2.1,(↑x3.toNat:Int)==10,v.2.2.2.2.2.2.2.1,x1,()))else none)>>=λx3=>if x3.2.2.2.2.2.2.2.1=true then if x3.2.2.2.2.2.2.2.2.1.length+(1:Nat)<=4294967296 then some ((x3.1,x3.2.1,x3.2.2.1,x3.2.2.2.1,i64.wrap ((↑(x3.2.2.2.2.2.2.2.2.1++[[]]).length:Int) -1),x3.2.2.2.2.2.1,x3.2.2.2.2.2.2.1,x3.2.2.2.2.2.2.2.2.1++[[]],x3.2.2.2.2.2.2.2.2.2.1,()))else none else some ((x3.1,x3.2.1,x3.2.2.1,x3.2.2.2.1,x3.2.2.2.2.1,x3.2.2.2.2.2.1,x3.2.2.2.2.2.2.1,x3.2.2.2.2.2.2.2.2.1,x3.2.2.2.2.2.2.2.2.2.1,())))>>=λx3=>if 0<=x3.2.2.2.2.1/\x3.2.2.2.2.1<(↑x3.2.2.2.2.2.2.2.1.length:Int)then x3.2.2.2.2.2.2.2.1[x3.2.2.2.2.1.toNat]?>>=λx4=>if x4.length+[x3.2.2.2.2.2.2.2.2.1].length<=4294967296 then if 0<=x3.2.2.2.2.1/\x3.2.2.2.2.1<(↑((VC some x3.2.2.2.2.2.2.2.1).set x3.2.2.2.2.1.toNat none).length:Int)then((VC some x3.2.2.2.2.2.2.2.1).set x3.2.2.2.2.1.toNat none)[x3.2.2.2.2.1.toNat]?>>=λx5=>CX (((VC some x3.2.2.2.2.2.2.2.1).set x3.2.2.2.2.1.toNat none).set x3.2.2.2.2.1.toNat (some (x4++[x3.2.2.2.2.2.2.2.2.1])))>>=λx6=>some ((x3.1,x3.2.1,x3.2.2.1,x3.2.2.2.1,x3.2.2.2.2.1,x3.2.2.2.2.2.1,x3.2.2.2.2.2.2.1,x6,()))else none else none else none else(if decide (v.2.2.2.1<0)=true then if v.2.2.2.2.2.2.2.1.length+(1:Nat)<=4294967296 then some ((v.1,v.2.1,v.2.2.1,i64.wrap ((↑(v.2.2.2.2.2.2.2.1++[[]]).length:Int) -1),v.2.2.2.2.1,v.2.2.2.2.2.1,v.2.2.2.2.2.2.1,v.2.2.2.2.2.2.2.1++[[]],x1,()))else none else some ((v.1,v.2.1,v.2.2.1,v.2.2.2.1,v.2.2.2.2.1,v.2.2.2.2.2.1,v.2.2.2.2.2.2.1,v.2.2.2.2.2.2.2.1,x1,())))>>=λx3=>if 0<=x3.2.2.2.1/\x3.2.2.2.1<(↑x3.2.2.2.2.2.2.2.1.length:Int)then x3.2.2.2.2.2.2.2.1[x3.2.2.2.1.toNat]?>>=λx4=>if x4.length+[x3.2.2.2.2.2.2.2.2.1].length<=4294967296 then if 0<=x3.2.2.2.1/\x3.2.2.2.1<(↑((VC some x3.2.2.2.2.2.2.2.1).set x3.2.2.2.1.toNat none).length:Int)then((VC some x3.2.2.2.2.2.2.2.1).set x3.2.2.2.1.toNat none)[x3.2.2.2.1.toNat]?>>=λx5=>CX (((VC some x3.2.2.2.2.2.2.2.1).set x3.2.2.2.1.toNat none).set x3.2.2.2.1.toNat (some (x4++[x3.2.2.2.2.2.2.2.2.1])))>>=λx6=>if(x3.2.2.2.2.2.2.2.2.1.text.toList==(TZ #[123]).toList)=true then some ((x3.1,x3.2.1,x3.2.2.1,x3.2.2.2.1,x3.2.2.2.2.1,i64.wrap (x3.2.2.2.2.2.1+1),x3.2.2.2.2.2.2.1,x6,()))else if(x3.2.2.2.2.2.2.2.2.1.text.toList==(TZ #[125]).toList)=true then some ((x3.1,x3.2.1,x3.2.2.1,x3.2.2.2.1,x3.2.2.2.2.1,max (i64.wrap (x3.2.2.2.2.2.1-1)) (0:Int),x3.2.2.2.2.2.2.1,x6,()))else if(x3.2.2.2.2.2.2.2.2.1.text.toList==(TZ #[59]).toList)=true then if(x3.2.2.2.2.2.1==0)=true then some ((x3.1,x3.2.1,x3.2.2.1,(-1:Int),x3.2.2.2.2.1,x3.2.2.2.2.2.1,x3.2.2.2.2.2.2.1,x6,()))else some ((x3.1,x3.2.1,x3.2.2.1,x3.2.2.2.1,x3.2.2.2.2.1,x3.2.2.2.2.2.1,x3.2.2.2.2.2.2.1,x6,()))else some ((x3.1,x3.2.1,x3.2.2.1,x3.2.2.2.1,x3.2.2.2.2.1,x3.2.2.2.2.2.1,x3.2.2.2.2.2.2.1,x6,()))else none else none else none else none else none)>>=λx1=>cZ (x1.1,x1.2.1,x1.2.2.1,x1.2.2.2.1,x1.2.2.2.2.1,x1.2.2.2.2.2.1,i64.wrap (x1.2.2.2.2.2.2.1+1),x1.2.2.2.2.2.2.2.1,())else some ((v.2.2.2.2.2.2.2.1,())) partial_fixpoint
noncomputable def Nf(v:ByteArray×Unit):Option ((List (List aH))×Unit):=Oy (v.1,())>>=λx1=>Oq (v.1,())>>=λx2=>cZ (v.1,x1.1,x2.1,(-1:Int),(-1:Int),(0:Int),(0:Int),[],())>>=λx3=>some ((x3.1,()))
def Dn:=kP KL (kP KV k0)
def x49:Xc vw:={P:=prog,n:=91,call:=Dn.1,pre:=PS,sh:=ST,joins:=λk=>match k with|7=>some (J0,[.norm])|13=>some (I4,[.norm])|17=>some (I4,[.norm])|_=>none,regs:=λk=>match k with|10=>some Mu|_=>none,loops:=λk=>match k with|6=>some {cut:=J0,alts:=[.exit 0],F:=cZ}|_=>none}
theorem Ey:dT x49 (ai (af Tryz.f49) 0) ⟨J0,[.exit 0],cZ⟩:=lp0 cZ.partial_correctness Dn.2
theorem KI:aq prog 49 NR Nf:=fn1 x49 Tryz.func49 Dn.2 Ey
def J1:Cut SN:=⟨[(0, .dat (.sl .str)),(3, .dat .str),(4, .dat (.int .i64))],[]⟩
def O5:Cut SN:=⟨[(3, .dat .str)],[]⟩
def SU:ay vw:=shL [(0,O5)] Od
def NS:Sig vw:=sg [.dat (.sl .str)] Od [.tmp 2]
noncomputable def mj(v:(List ByteArray)×ByteArray×Int×Unit):Option ((ByteArray×Unit)):=if decide (v.2.2.1<(↑v.1.length:Int))=true then(if decide (v.2.2.1>0)=true then if v.2.1.size+(TZ #[32]).size<=4294967296 then some ((v.1,v.2.1++TZ #[32],v.2.2.1,()))else none else some ((v.1,v.2.1,v.2.2.1,())))>>=λx1=>if 0<=x1.2.2.1 then x1.1[x1.2.2.1.toNat]?>>=λx2=>if x1.2.1.size+x2.size<=4294967296 then mj (x1.1,x1.2.1++x2,i64.wrap (x1.2.2.1+1),())else none else none else some ((v.2.1,())) partial_fixpoint
noncomputable def Ng(v:(List ByteArray)×Unit):Option (ByteArray×Unit):=mj (v.1,TZ #[],(0:Int),())>>=λx1=>some ((x1.1,()))
def x50:Xc vw:=mX prog 22 c0 SU [(7,J1,[.norm])] [] [(3,⟨J1,[.exit 0],mj⟩)]
theorem Ez:dT x50 (ai (af Tryz.f50) 0) ⟨J1,[.exit 0],mj⟩:=lp0 mj.partial_correctness bB
theorem KJ:aq prog 50 NS Ng:=fn1 x50 Tryz.func50 bB Ez
def Mv:Cut SN:=⟨[(0, .dat (.sl (.st .tokenT))),(3, .vh 1003),(4, .dat (.int .i64))],[(1003, .vec 9 .str)]⟩
def Rw:Cut SN:=⟨[(2, .dat (.sl .str))],[]⟩
def SV:ay vw:=shL [(0,rD)] Rw
def NT:Sig vw:=sg [.dat (.sl (.st .tokenT))] Rw [.tmp 2]
noncomputable def ml(v:(List aH)×Int×(List ByteArray)×Unit):Option (((List ByteArray)×Unit)):=if decide (v.2.1<(↑v.1.length:Int))=true then if 0<=v.2.1 then v.1[v.2.1.toNat]?>>=λx1=>if v.2.2.1.length+[x1.text].length<=4294967296 then ml (v.1,i64.wrap (v.2.1+1),v.2.2.1++[x1.text],())else none else none else some ((v.2.2.1,())) partial_fixpoint
noncomputable def Nh(v:(List aH)×Unit):Option ((List ByteArray)×Unit):=ml (v.1,(0:Int),[],())>>=λx1=>some ((x1.1,()))
def x51:Xc vw:=mX prog 20 c0 SV [] [] [(3,⟨Mv,[.exit 0],ml⟩)]
theorem EA:dT x51 (ai (af Tryz.f51) 0) ⟨Mv,[.exit 0],ml⟩:=lp0 ml.partial_correctness bB
theorem KK:aq prog 51 NT Nh:=fn1 x51 Tryz.func51 bB EA
def rE:Cut SN:=⟨[(0, .dat (.sl .str)),(1, .vh 100000),(4, .bp 4 0),(6, .dat (.int .i64))],[(100000, .vec 44 (.st .itemT)),(4, .st .itemT)]⟩
def wY:Cut SN:=⟨[(0, .dat (.sl .str)),(1, .vh 100000),(4, .bp 4 0),(6, .dat (.int .i64)),(7, .bp 18 0),(8, .bp 8 0)],[(100000, .vec 44 (.st .itemT)),(4, .st .itemT),(18, .box none [.dat (.sl .str), .vh 100000, .dat .bool]),(8, .st .itemT)]⟩
def wZ:Cut SN:=⟨[(0, .dat (.sl .str)),(1, .vh 100000),(4, .bp 4 0),(6, .dat (.int .i64)),(8, .bp 8 0),(74, .dat .bool)],[(100000, .vec 44 (.st .itemT)),(4, .st .itemT),(8, .st .itemT)]⟩
def AE:Cut SN:=⟨[(1, .vh 100000),(4, .bp 4 0)],[(100000, .vec 44 (.st .itemT)),(4, .st .itemT)]⟩
def um:Cut SN:=⟨[(1, .vh 100000),(4, .bp 4 0),(5, .dat .bool)],[(100000, .vec 44 (.st .itemT)),(4, .st .itemT)]⟩
def FJ:ay vw:=shL [(0,AE)] um
def sa:Sig vw:={params:=[.dat (.sl .str), .vh 100000],objs:=[(100000, .vec 44 (.st .itemT))],rcut:=um,rvars:=[.cell 4 44, .tmp 5],keep:=[100000]}
noncomputable def aD(v:(List ByteArray)×Int×(List Item)×Item×Unit):Option (((Bool×(List Item)×Item×Unit)⊕((List Item)×Item×Unit))):=if decide (v.2.1<4)=true then(if(v.2.1==0)=true then gL (v.1,false,v.2.2.1,())>>=λx1=>if x1.2.2.1.length=v.2.2.1.length then some ((v.1,v.2.1,x1.2.2.1,v.2.2.2.1,x1.1,x1.2.1,x1.2.2.2.1,()))else none else if(v.2.1==1)=true then gM (v.1,false,v.2.2.1,())>>=λx1=>if x1.2.2.1.length=v.2.2.1.length then some ((v.1,v.2.1,x1.2.2.1,v.2.2.2.1,x1.1,x1.2.1,x1.2.2.2.1,()))else none else if(v.2.1==2)=true then gN (v.1,false,v.2.2.1,())>>=λx1=>if x1.2.2.1.length=v.2.2.1.length then some ((v.1,v.2.1,x1.2.2.1,v.2.2.2.1,x1.1,x1.2.1,x1.2.2.2.1,()))else none else if(v.2.1==3)=true then ej (v.1,false,v.2.2.1,())>>=λx1=>if x1.2.2.1.length=v.2.2.1.length then some ((v.1,v.2.1,x1.2.2.1,v.2.2.2.1,x1.1,x1.2.1,x1.2.2.2.1,()))else none else some ((v.1,v.2.1,v.2.2.1,v.2.2.2.1,v.1,false,Item.mk 0 (TZ #[]) (0:Int) [] (aa.mk 0 0 false []),())))>>=λx1=>fP (x1.2.1,x1.2.2.2.2.2.2.1.name0,x1.2.2.1,())>>=λx2=>if x2.2.1.length=x1.2.2.1.length then(if x1.2.2.2.2.2.1=true then some ((x1.1,x1.2.1,true,x2.2.1,x1.2.2.2.1,x1.2.2.2.2.2.2.1,()))else if decide ((↑x1.2.2.2.2.1.length:Int)>0)=true then some ((x1.1,x1.2.1,true,x2.2.1,x1.2.2.2.1,x1.2.2.2.2.2.2.1,()))else if x2.1=true then some ((x1.1,x1.2.1,true,x2.2.1,x1.2.2.2.1,x1.2.2.2.2.2.2.1,()))else if decide (x1.2.1>1)=true then if decide ((↑x1.2.2.2.2.2.2.1.names.length:Int)>12)=true then some ((x1.1,x1.2.1,true,x2.2.1,x1.2.2.2.1,x1.2.2.2.2.2.2.1,()))else Bd (aa.mk x1.2.2.2.2.2.2.1.layout.kind x1.2.2.2.2.2.2.1.layout.n x1.2.2.2.2.2.2.1.layout.flag x1.2.2.2.2.2.2.1.layout.parts,())>>=λx3=>some ((x1.1,x1.2.1,x3.1 !=0,x2.2.1,x1.2.2.2.1,x1.2.2.2.2.2.2.1,()))else some ((x1.1,x1.2.1,false,x2.2.1,x1.2.2.2.1,x1.2.2.2.2.2.2.1,())))>>=λx3=>if x3.2.2.1=true then aD (x3.1,i64.wrap (x3.2.1+1),x3.2.2.2.1,x3.2.2.2.2.1,())else some (UF (true,x3.2.2.2.1,x3.2.2.2.2.2.1,()))else none else some (UI (v.2.2.1,v.2.2.2.1,())) partial_fixpoint
noncomputable def jj(v:(List ByteArray)×(List Item)×Unit):Option (Bool×(List Item)×Item×Unit):=aD (v.1,(0:Int),v.2.1,Item.mk 0 (TZ #[]) (0:Int) [] (aa.mk 0 0 false []),())>>=λx1=>match x1 with| .inl y1=>some y1| .inr y1=>some ((false,y1.1,Item.mk 0 (TZ #[]) (0:Int) [] (aa.mk 0 0 false []),()))
def kM:=kO nG (kO sO (kO sP (kO sQ (kO sR (kP Hj k0)))))
def Aj:Xc vw:=mX prog 77 kM.1 FJ [(15,wY,[.norm])] [(16,wZ)] [(2,⟨rE,[.ret, .exit 0],aD⟩)]
theorem qM:dT Aj (ai (af Tryz.f70) 0) ⟨rE,[.ret, .exit 0],aD⟩:=lp0 aD.partial_correctness kM.2
theorem vc:aq prog 70 sa jj:=fn1 Aj Tryz.func70 kM.2 qM
def JZ:Cut SN:=⟨[(4, .dat (.sl (.sl (.st .tokenT)))),(5, .vh 1005),(6, .vh 1006),(7, .dat (.int .i64))],[(1005, .vec 44 (.st .itemT)),(1006, .vec 65 (.st .partT))]⟩
def OY:Cut SN:=⟨[(5, .vh 1005),(6, .vh 1006)],[(1005, .vec 44 (.st .itemT)),(1006, .vec 65 (.st .partT))]⟩
def Rs:Cut SN:=⟨[(2, .dat (.sl (.st .itemT))),(3, .dat (.sl (.st .partT)))],[]⟩
def SM:ay vw:=shL [(0,OY)] Rs
def Qz:Sig vw:=sg [.dat .str] Rs [.tmp 2, .tmp 3]
noncomputable def mf(v:(List (List aH))×Int×(List Item)×(List ku)×Unit):Option (((List Item)×(List ku)×Unit)):=if decide (v.2.1<(↑v.1.length:Int))=true then(if 0<=v.2.1 then v.1[v.2.1.toNat]?>>=λx1=>Nh (x1,())>>=λx2=>jj (x2.1,v.2.2.1,())>>=λx3=>if x3.2.1.length=v.2.2.1.length then if x3.1=true then if x3.2.1.length+[x3.2.2.1].length<=4294967296 then some ((v.1,v.2.1,x3.2.1++[x3.2.2.1],v.2.2.2.1,()))else none else Ng (x2.1,())>>=λx4=>if v.2.2.2.1.length+[ku.mk (i64.wrap (v.2.1+1)) x4.1].length<=4294967296 then some ((v.1,v.2.1,x3.2.1,v.2.2.2.1++[ku.mk (i64.wrap (v.2.1+1)) x4.1],()))else none else none else none)>>=λx1=>mf (x1.1,i64.wrap (x1.2.1+1),x1.2.2.1,x1.2.2.2.1,())else some ((v.2.2.1,v.2.2.2.1,())) partial_fixpoint
noncomputable def Ol(v:ByteArray×Unit):Option ((List Item)×(List ku)×Unit):=Nf (v.1,())>>=λx1=>mf (x1.1,(0:Int),[],[],())>>=λx2=>some ((x2.1,x2.2.1,()))
def Dl:bx vw:=λA fid args S k=>match fid with|49=>aO prog NR Nf A args S k|50=>aO prog NS Ng A args S k|51=>aO prog NT Nh A args S k|70=>(match args with|[_, .vh _]=>eN prog sa jj A args S k|_=>none)|_=>none
def x38:Xc vw:=mX prog 45 Dl SM [(6,JZ,[.norm])] [] [(5,⟨JZ,[.exit 0],mf⟩)]
theorem uu:ax prog Dl:=λA fid args S dst k r h=>by
 unfold Dl at h
 split at h
 ·exact aj (KI) rfl rfl h
 ·exact aj (KJ) rfl rfl h
 ·exact aj (KK) rfl rfl h
 ·split at h
  ·exact di (vc) h
  ·cases h
 ·cases h
theorem Eu:dT x38 (ai (af Tryz.f38) 0) ⟨JZ,[.exit 0],mf⟩:=lp0 mf.partial_correctness uu
theorem KC:aq prog 38 Qz Ol:=fn1 x38 Tryz.func38 uu Eu
end Go.Proofs.YtpelkenpapfadaaGreatDoor
end
section
namespace Go.Proofs.YtpelkenpapfadaaGreatDoor
open Go.Awp Go.Tx
open IntKind (i64)
open Go.Proofs.Tryz (prog)
set_option maxHeartbeats 4000000
set_option maxRecDepth 100000
def Ma:Cut SN:=⟨[(5, .dat (.sl (.st .itemT))),(6, .dat (.sl (.st .partT))),(7, .vh 1007),(8, .dat (.int .i64))],[(1007, .vec 9 .str)]⟩
def OP:Cut SN:=⟨[(5, .dat (.sl (.st .itemT))),(7, .vh 1007)],[(1007, .vec 9 .str)]⟩
def Sz:ay vw:=shL [(0,OP)] Oa
def Qn:Sig vw:=sg [.dat .str] Oa [.tmp 2, .tmp 3, .tmp 4]
noncomputable def lV(v:(List Item)×(List ku)×Int×(List ByteArray)×Unit):Option (((List Item)×(List ByteArray)×Unit)):=if decide (v.2.2.1<(↑v.2.1.length:Int))=true then if 0<=v.2.2.1 then v.2.1[v.2.2.1.toNat]?>>=λx1=>if v.2.2.2.1.length+[x1.text].length<=4294967296 then lV (v.1,v.2.1,i64.wrap (v.2.2.1+1),v.2.2.2.1++[x1.text],())else none else none else some ((v.1,v.2.2.2.1,())) partial_fixpoint
noncomputable def Kp(v:ByteArray×Unit):Option ((List Item)×(List ByteArray)×Int×Unit):=PN (v.1,())>>=λx1=>if x1.1=true then some (([],[],(3:Int),()))else Ol (v.1,())>>=λx2=>lV (x2.1,x2.2.1,(0:Int),[],())>>=λx3=>some ((x3.1,x3.2.1,(0:Int),()))
def De:=kP KB (kP KC k0)
def x12:Xc vw:=mX prog 32 De.1 Sz [] [] [(6,⟨Ma,[.exit 0],lV⟩)]
theorem Ei:dT x12 (ai (af Tryz.f12) 0) ⟨Ma,[.exit 0],lV⟩:=lp0 lV.partial_correctness De.2
theorem Eh:aq prog 12 Qn Kp:=fn1 x12 Tryz.func12 De.2 Ei
def Mg:Cut SN:=⟨[(0, .dat (.sl .str)),(1, .dat (.sl .str)),(5, .dat (.int .i64))],[]⟩
def SB:ay vw:=shL [(0,nX)] gl
def Qp:Sig vw:=sg [.dat (.sl .str), .dat (.sl .str)] gl [.tmp 4]
noncomputable def nF(v:(List ByteArray)×(List ByteArray)×Int×Unit):Option (((Bool×Unit)⊕(Unit))):=if decide (v.2.2.1<(↑v.1.length:Int))=true then if 0<=v.2.2.1 then v.1[v.2.2.1.toNat]?>>=λx1=>if 0<=v.2.2.1 then v.2.1[v.2.2.1.toNat]?>>=λx2=>if(!x1.toList==x2.toList)=true then some (UF (false,()))else nF (v.1,v.2.1,i64.wrap (v.2.2.1+1),())else none else none else some (UI ()) partial_fixpoint
noncomputable def Of(v:(List ByteArray)×(List ByteArray)×Unit):Option (Bool×Unit):=if((↑v.1.length:Int) !=(↑v.2.1.length:Int))=true then some ((false,()))else nF (v.1,v.2.1,(0:Int),())>>=λx1=>match x1 with| .inl y1=>some y1| .inr y1=>some ((true,()))
def x15:Xc vw:=mX prog 26 c0 SB [] [] [(4,⟨Mg,[.ret, .exit 0],nF⟩)]
theorem El:dT x15 (ai (af Tryz.f15) 0) ⟨Mg,[.ret, .exit 0],nF⟩:=lp0 nF.partial_correctness bB
theorem Kr:aq prog 15 Qp Of:=fn1 x15 Tryz.func15 bB El
def Da:Cut SN:=⟨[(2, .bp 2 0),(3, .bp 3 0),(5, .dat (.int .i64))],[(2, .st .layoutT),(3, .st .layoutT)]⟩
def OZ:Cut SN:=⟨[(2, .bp 2 0),(3, .bp 3 0),(33, .dat .bool)],[(2, .st .layoutT),(3, .st .layoutT)]⟩
def Qh:ay vw:=shL [(0,nX)] gl
def n8:Sig vw:=sg [.dat (.st .layoutT), .dat (.st .layoutT)] gl [.tmp 4]
mutual
noncomputable def je(v:Int×aa×aa×Unit):Option (((Bool×Unit)⊕(Unit))):=if decide (v.1<(↑v.2.1.parts.length:Int))=true then if 0<=v.1 then v.2.1.parts[v.1.toNat]?>>=λx1=>if 0<=v.1 then v.2.2.1.parts[v.1.toNat]?>>=λx2=>n_39 (x1,x2,())>>=λx3=>if(!x3.1)=true then some (UF (false,()))else je (i64.wrap (v.1+1),v.2.1,v.2.2.1,())else none else none else some (UI ()) partial_fixpoint
noncomputable def n_39(v:aa×aa×Unit):Option (Bool×Unit):=(if(v.1.kind !=v.2.1.kind)=true then some ((true,v.1,v.2.1,()))else if(v.1.n !=v.2.1.n)=true then some ((true,v.1,v.2.1,()))else if(!v.1.flag==v.2.1.flag)=true then some ((true,v.1,v.2.1,()))else some (((↑v.1.parts.length:Int) !=(↑v.2.1.parts.length:Int),v.1,v.2.1,())))>>=λx1=>if x1.1=true then some ((false,()))else je ((0:Int),x1.2.1,x1.2.2.1,())>>=λx2=>match x2 with| .inl y2=>some y2| .inr y2=>some ((true,())) partial_fixpoint
end
def Dm(je:Int×aa×aa×Unit->Option (((Bool×Unit)⊕(Unit))))(n_39:aa×aa×Unit->Option (Bool×Unit)):bx vw:=λA fid args S k=>match fid with|39=>aO prog n8 n_39 A args S k|_=>none
def x39(je:Int×aa×aa×Unit->Option (((Bool×Unit)⊕(Unit))))(n_39:aa×aa×Unit->Option (Bool×Unit)):Xc vw:={P:=prog,n:=53,call:=Dm je n_39,pre:=j9,sh:=Qh,regs:=λk=>match k with|1=>some OZ|_=>none,loops:=λk=>match k with|4=>some {cut:=Da,alts:=[.ret, .exit 0],F:=je}|_=>none}
abbrev lc(v:Int×aa×aa×Unit)(r:((Bool×Unit)⊕(Unit))):Prop:=(λv out=>∀C:Ctx,C.P=prog->C.N=53/\Fx C j9->nU C (ai (af Tryz.f39) 0) (Go.Tx.aG vw (bP vw Da v)) (tP Qh [.ret, .exit 0] out)) v r
abbrev Ea(v:aa×aa×Unit)(r:Bool×Unit):Prop:=(λv r=>∀x,pW prog n8 r=some x->iA prog 39 (encL vw (az n8 v).len (aU n8 v).1) (bo (az n8 v).len (az n8 v).own) (am vw (bP vw n8.rcut r).len x) (bo (bP vw n8.rcut r).len (jb n8 r))) v r
theorem J4(f0:Int×aa×aa×Unit->Option (((Bool×Unit)⊕(Unit))))(f1:aa×aa×Unit->Option (Bool×Unit))(h0:∀v r,f0 v=some r->lc v r)(h1:∀v r,f1 v=some r->Ea v r):ax prog (x39 f0 f1).call:=(by
 intro A fid args S dst k r h
 unfold x39 Dm at h
 simp only at h
 split at h
 ·exact aj ((λv r x h hx=>h1 v r h x hx)) rfl rfl h
 ·cases h)
theorem Lj(f0:Int×aa×aa×Unit->Option (((Bool×Unit)⊕(Unit))))(f1:aa×aa×Unit->Option (Bool×Unit))(h0:∀v r,f0 v=some r->lc v r)(h1:∀v r,f1 v=some r->Ea v r)(v:Int×aa×aa×Unit)(r:((Bool×Unit)⊕(Unit)))(h:exL (x39 f0 f1) (ai (af Tryz.f39) 0) Da [.ret, .exit 0] f0 v=some r):lc v r:=λC hP hN=>cQ (X:=x39 f0 f1) (b:=(ai (af Tryz.f39) 0)) hP hN Ty.mixed (J4 f0 f1 h0 h1) (bc (X:=x39 f0 f1) (c:=(ai (af Tryz.f39) 0)) (bj (by kernel_rfl:True=fx (bg C (x39 f0 f1)) (aJ (ai (af Tryz.f39) 0))) trivial)) (cut:=Da) (alts:=[.ret, .exit 0]) (F:=f0) (λv out h=>h0 v out h C hP hN) h
theorem Pj(f0:Int×aa×aa×Unit->Option (((Bool×Unit)⊕(Unit))))(h0:∀v r,f0 v=some r->lc v r):ax prog (x39 f0 (λ_=>none)).call:=(by
 intro A fid args S dst k r h
 unfold x39 Dm at h
 simp only at h
 split at h
 ·exact aj ((λv r x h hx=>by cases h)) rfl rfl h
 ·cases h)
theorem QU(f0:Int×aa×aa×Unit->Option (((Bool×Unit)⊕(Unit))))(h0:∀v r,f0 v=some r->lc v r)(v:aa×aa×Unit)(r:Bool×Unit)(h:exF (x39 f0 (λ_=>none)) n8 rfl (af Tryz.f39) v=some r):Ea v r:=λx hx=>lI (X:=x39 f0 (λ_=>none)) (sig:=n8) rfl Tryz.func39 (c:=af Tryz.f39) (by kernel_rfl) Tryz.ntmps39 (by kernel_rfl) (by kernel_rfl) rfl Ty.mixed (Pj f0 h0) rfl (λC hP hN=>(bc (X:=x39 f0 (λ_=>none)) (c:=(af Tryz.f39)) (bj (by kernel_rfl:fx (bg C (x39 f0 (λ_=>none))) [(ai (af Tryz.f39) 0)]=fx (bg C (x39 f0 (λ_=>none))) (aJ (af Tryz.f39))) ⟨dJ (X:=x39 f0 (λ_=>none)) (b:=(ai (af Tryz.f39) 0)) (by kernel_rfl) (show dx C (ai (af Tryz.f39) 0) (sh:=Qh) {cut:=Da,alts:=[.ret, .exit 0],F:=f0}fromλv out h=>h0 v out h C hP hN),trivial⟩))) h x hx
theorem Bt:(∀v r,je v=some r->lc v r)/\(∀v r,n_39 v=some r->Ea v r):=by
 refine je.mutual_partial_correctness
  (motive_1:=lc)
  (motive_2:=Ea)
  ?_ ?_
 ·exact(λf0 f1 h0 h1 v r h=>Lj f0 f1 h0 h1 v r (bj (by kernel_rfl) h))
 ·exact(λf0 h0 v r h=>QU f0 h0 v r (bj (by kernel_rfl) h))
theorem KD:aq prog 39 n8 n_39:=λv r x h hx=>Bt.2 v r h x hx
def Mf:Cut SN:=⟨[(0, .dat (.sl (.st .itemT))),(1, .dat (.sl (.st .itemT))),(5, .dat (.int .i64))],[]⟩
def OQ:Cut SN:=⟨[(0, .dat (.sl (.st .itemT))),(1, .dat (.sl (.st .itemT))),(5, .dat (.int .i64)),(81, .dat .bool)],[]⟩
def SA:ay vw:=shL [(0,nX)] gl
def Qo:Sig vw:=sg [.dat (.sl (.st .itemT)), .dat (.sl (.st .itemT))] gl [.tmp 4]
noncomputable def lY(v:(List Item)×(List Item)×Int×Unit):Option (((Bool×Unit)⊕(Unit))):=if decide (v.2.2.1<(↑v.1.length:Int))=true then(if 0<=v.2.2.1 then v.1[v.2.2.1.toNat]?>>=λx1=>if 0<=v.2.2.1 then v.2.1[v.2.2.1.toNat]?>>=λx2=>if(x1.kind !=x2.kind)=true then some ((v.1,v.2.1,v.2.2.1,true,()))else if 0<=v.2.2.1 then v.1[v.2.2.1.toNat]?>>=λx3=>if 0<=v.2.2.1 then v.2.1[v.2.2.1.toNat]?>>=λx4=>if(!x3.name0.toList==x4.name0.toList)=true then some ((v.1,v.2.1,v.2.2.1,true,()))else if 0<=v.2.2.1 then v.1[v.2.2.1.toNat]?>>=λx5=>if 0<=v.2.2.1 then v.2.1[v.2.2.1.toNat]?>>=λx6=>if(x5.n !=x6.n)=true then some ((v.1,v.2.1,v.2.2.1,true,()))else if 0<=v.2.2.1 then v.1[v.2.2.1.toNat]?>>=λx7=>if 0<=v.2.2.1 then v.2.1[v.2.2.1.toNat]?>>=λx8=>Of (x7.names,x8.names,())>>=λx9=>if(!x9.1)=true then some ((v.1,v.2.1,v.2.2.1,true,()))else if 0<=v.2.2.1 then v.1[v.2.2.1.toNat]?>>=λx10=>if 0<=v.2.2.1 then v.2.1[v.2.2.1.toNat]?>>=λx11=>n_39 (aa.mk x10.layout.kind x10.layout.n x10.layout.flag x10.layout.parts,aa.mk x11.layout.kind x11.layout.n x11.layout.flag x11.layout.parts,())>>=λx12=>some ((v.1,v.2.1,v.2.2.1,!x12.1,()))else none else none else none else none else none else none else none else none else none else none)>>=λx1=>if x1.2.2.2.1=true then some (UF (false,()))else lY (x1.1,x1.2.1,i64.wrap (x1.2.2.1+1),())else some (UI ()) partial_fixpoint
noncomputable def Na(v:(List Item)×(List Item)×Unit):Option (Bool×Unit):=if((↑v.1.length:Int) !=(↑v.2.1.length:Int))=true then some ((false,()))else lY (v.1,v.2.1,(0:Int),())>>=λx1=>match x1 with| .inl y1=>some y1| .inr y1=>some ((true,()))
def Dg:=kP Kr (kP KD k0)
def x14:Xc vw:=mX prog 82 Dg.1 SA [] [(6,OQ)] [(4,⟨Mf,[.ret, .exit 0],lY⟩)]
theorem Ek:dT x14 (ai (af Tryz.f14) 0) ⟨Mf,[.ret, .exit 0],lY⟩:=lp0 lY.partial_correctness Dg.2
theorem Kq:aq prog 14 Qo Na:=fn1 x14 Tryz.func14 Dg.2 Ek
def Ob:Cut SN:=⟨[(6, .bp 6 0),(7, .dat .bool),(8, .dat (.int .i64))],[(6, .st .itemT)]⟩
def SD:ay vw:={rcut:=Ob}
def Qr:Sig vw:=sg [.dat .str, .dat (.int .i64), .dat .str] Ob [.cell 6 44, .tmp 7, .tmp 8]
noncomputable def LH(v:ByteArray×Int×ByteArray×Unit):Option (Bool×Int×Item×Unit):=Ee (v.1,())>>=λx1=>if(x1.2.2.1 !=0)=true then some ((false,x1.2.2.1,Item.mk 0 (TZ #[]) (0:Int) [] (aa.mk 0 0 false []),()))else LL (x1.1,v.2.1,v.2.2.1,())>>=λx2=>some ((x2.1,(0:Int),x2.2.1,()))
def I8:=kP sT (kP Ew k0)
def x20:Xc vw:=mX prog 33 I8.1 SD [] [] []
theorem Kt:aq prog 20 Qr LH:=fn0 x20 Tryz.func20 I8.2
def SE:ay vw:={rcut:=Ob}
def Qs:Sig vw:=sg [.dat .str, .dat (.int .i64), .dat .str] Ob [.cell 6 44, .tmp 7, .tmp 8]
noncomputable def LI(v:ByteArray×Int×ByteArray×Unit):Option (Bool×Int×Item×Unit):=Kp (v.1,())>>=λx1=>if(x1.2.2.1 !=0)=true then some ((false,x1.2.2.1,Item.mk 0 (TZ #[]) (0:Int) [] (aa.mk 0 0 false []),()))else Oo (x1.1,v.2.1,v.2.2.1,())>>=λx2=>some ((x2.1,(0:Int),x2.2.1,()))
def I9:=kP Eh (kP KH k0)
def x21:Xc vw:=mX prog 33 I9.1 SE [] [] []
theorem Ku:aq prog 21 Qs LI:=fn0 x21 Tryz.func21 I9.2
def Mk:Cut SN:=⟨[(1, .dat .str),(22, .dat (.sl (.st .itemT))),(23, .dat (.int .i64)),(24, .dat (.int .i64))],[]⟩
def OT:Cut SN:=⟨[(1, .dat .str),(11, .bp 11 0),(12, .dat (.int .i64)),(22, .dat (.sl (.st .itemT))),(23, .dat (.int .i64)),(24, .dat (.int .i64)),(32, .dat .bool)],[(11, .st .itemT)]⟩
def Ml:Cut SN:=⟨[(1, .dat .str),(12, .dat (.int .i64)),(22, .dat (.sl (.st .itemT))),(23, .dat (.int .i64)),(24, .dat (.int .i64)),(44, .dat .bool)],[]⟩
def Oc:Cut SN:=⟨[(4, .dat (.int .i64)),(5, .dat .bool),(6, .dat (.int .i64))],[]⟩
def SF:ay vw:=shL [(0,nX)] Oc
def Qt:Sig vw:=sg [.dat .str, .dat .str] Oc [.tmp 4, .tmp 5, .tmp 6]
noncomputable def ma(v:ByteArray×(List Item)×Int×Int×Unit):Option (((Int×Bool×Int×Unit)⊕(Unit))):=if decide (v.2.2.2.1<v.2.2.1)=true then if 0<=v.2.2.2.1 then v.2.1[v.2.2.2.1.toNat]?>>=λx1=>KF (x1.names,v.1,())>>=λx2=>(if(x1.kind==0)=true then some ((v.1,x2.1,v.2.1,v.2.2.1,v.2.2.2.1,x1.name0.toList==v.1.toList,x1,()))else some ((v.1,x2.1,v.2.1,v.2.2.1,v.2.2.2.1,false,x1,())))>>=λx3=>if x3.2.2.2.2.2.1=true then some (UF (x3.2.2.2.2.2.2.1.n,true,(0:Int),()))else(if(x3.2.2.2.2.2.2.1.kind==1)=true then some ((x3.1,x3.2.1,x3.2.2.1,x3.2.2.2.1,x3.2.2.2.2.1,decide (x3.2.1>=0),()))else some ((x3.1,x3.2.1,x3.2.2.1,x3.2.2.2.1,x3.2.2.2.2.1,false,())))>>=λx4=>if x4.2.2.2.2.2.1=true then some (UF (x4.2.1,true,(0:Int),()))else ma (x4.1,x4.2.2.1,x4.2.2.2.1,i64.wrap (x4.2.2.2.2.1+1),())else none else some (UI ()) partial_fixpoint
noncomputable def LJ(v:ByteArray×ByteArray×Unit):Option (Int×Bool×Int×Unit):=Ee (v.1,())>>=λx1=>if(x1.2.2.1 !=0)=true then some (((0:Int),false,x1.2.2.1,()))else ma (v.2.1,x1.1,(↑x1.1.length:Int),(0:Int),())>>=λx2=>match x2 with| .inl y2=>some y2| .inr y2=>some (((0:Int),false,(0:Int),()))
def Dj:=kP sT (kP xV k0)
def x22:Xc vw:=mX prog 54 Dj.1 SF [] [(8,OT),(10,Ml)] [(5,⟨Mk,[.ret, .exit 0],ma⟩)]
theorem Ep:dT x22 (ai (af Tryz.f22) 0) ⟨Mk,[.ret, .exit 0],ma⟩:=lp0 ma.partial_correctness Dj.2
theorem Kv:aq prog 22 Qt LJ:=fn1 x22 Tryz.func22 Dj.2 Ep
def JW:Cut SN:=⟨[(1, .dat .str),(7, .dat (.sl (.st .itemT))),(10, .dat (.int .i64))],[]⟩
def I3:Cut SN:=⟨[(1, .dat .str),(7, .dat (.sl (.st .itemT))),(10, .dat (.int .i64)),(11, .dat (.int .i64))],[]⟩
def OU:Cut SN:=⟨[(1, .dat .str),(7, .dat (.sl (.st .itemT))),(10, .dat (.int .i64)),(41, .dat .bool)],[]⟩
def Mm:Cut SN:=⟨[(1, .dat .str),(7, .dat (.sl (.st .itemT))),(10, .dat (.int .i64)),(11, .dat (.int .i64)),(62, .dat .bool)],[]⟩
def SG:ay vw:=shL [(0,nX),(2,JW)] Oc
def Qu:Sig vw:=sg [.dat .str, .dat .str] Oc [.tmp 4, .tmp 5, .tmp 6]
noncomputable def fO(v:ByteArray×(List Item)×Int×Int×Unit):Option (((Int×Bool×Int×Unit)⊕(ByteArray×(List Item)×Int×Unit))):=(if 0<=v.2.2.1 then v.2.1[v.2.2.1.toNat]?>>=λx1=>if decide (v.2.2.2.1<(↑x1.names.length:Int))=true then if 0<=v.2.2.1 then v.2.1[v.2.2.1.toNat]?>>=λx2=>some ((v.1,v.2.1,v.2.2.1,v.2.2.2.1,x2.kind==1,()))else none else some ((v.1,v.2.1,v.2.2.1,v.2.2.2.1,false,()))else none)>>=λx1=>if x1.2.2.2.2.1=true then if 0<=x1.2.2.1 then x1.2.1[x1.2.2.1.toNat]?>>=λx2=>if 0<=x1.2.2.2.1 then x2.names[x1.2.2.2.1.toNat]?>>=λx3=>if(x3.toList==x1.1.toList)=true then some (UF (x1.2.2.2.1,true,(0:Int),()))else fO (x1.1,x1.2.1,x1.2.2.1,i64.wrap (x1.2.2.2.1+1),())else none else none else some (UI (x1.1,x1.2.1,x1.2.2.1,())) partial_fixpoint
noncomputable def mb(v:ByteArray×(List Item)×Int×Unit):Option (((Int×Bool×Int×Unit)⊕(Unit))):=if decide (v.2.2.1<(↑v.2.1.length:Int))=true then(if 0<=v.2.2.1 then v.2.1[v.2.2.1.toNat]?>>=λx1=>if(x1.kind==0)=true then if 0<=v.2.2.1 then v.2.1[v.2.2.1.toNat]?>>=λx2=>some ((v.1,v.2.1,v.2.2.1,x2.name0.toList==v.1.toList,()))else none else some ((v.1,v.2.1,v.2.2.1,false,()))else none)>>=λx1=>if x1.2.2.2.1=true then if 0<=x1.2.2.1 then x1.2.1[x1.2.2.1.toNat]?>>=λx2=>some (UF (x2.n,true,(0:Int),()))else none else fO (x1.1,x1.2.1,x1.2.2.1,(0:Int),())>>=λx2=>match x2 with| .inl y2=>some (UF y2)| .inr y2=>mb (y2.1,y2.2.1,i64.wrap (y2.2.2.1+1),())else some (UI ()) partial_fixpoint
noncomputable def LK(v:ByteArray×ByteArray×Unit):Option (Int×Bool×Int×Unit):=Kp (v.1,())>>=λx1=>if(x1.2.2.1 !=0)=true then some (((0:Int),false,x1.2.2.1,()))else mb (v.2.1,x1.1,(0:Int),())>>=λx2=>match x2 with| .inl y2=>some y2| .inr y2=>some (((0:Int),false,(0:Int),()))
def za:=kP Eh k0
def x23:Xc vw:=mX prog 76 za.1 SG [] [(7,OU),(10,Mm)] [(5,⟨JW,[.ret, .exit 0],mb⟩),(10,⟨I3,[.ret, .exit 2],fO⟩)]
theorem Br:dT x23 (ai (ai (af Tryz.f23) 0) 0) ⟨I3,[.ret, .exit 2],fO⟩:=lp0 fO.partial_correctness za.2
theorem Eq:dT x23 (ai (af Tryz.f23) 0) ⟨JW,[.ret, .exit 0],mb⟩:=lp1 mb.partial_correctness za.2 Br
theorem Kw:aq prog 23 Qu LK:=fn1 x23 Tryz.func23 za.2 Eq
def Rp:Cut SN:=⟨[(2, .dat (.sl (.st .itemT)))],[]⟩
def SH:ay vw:={rcut:=Rp}
def Qv:Sig vw:=sg [.dat (.st .itemT)] Rp [.tmp 2]
noncomputable def Nd(v:Item×Unit):Option ((List Item)×Unit):=some (([v.1],()))
def x24:Xc vw:=mX prog 5 c0 SH [] [] []
theorem Kx:aq prog 24 Qv Nd:=fn0 x24 Tryz.func24 bB
def sh5:ay vw:={rcut:=rj}
def Th:Sig vw:=sg [.dat .str, .dat (.int .i64), .dat .str] rj [.tmp 6]
noncomputable def n_5(v:ByteArray×Int×ByteArray×Unit):Option (Bool×Unit):=if decide ((↑v.1.size:Int)>6000)=true then M8 ()>>=λx1=>some ((x1.1,()))else LH (v.1,v.2.1,v.2.2.1,())>>=λx1=>LI (v.1,v.2.1,v.2.2.1,())>>=λx2=>LJ (v.1,v.2.2.1,())>>=λx3=>LK (v.1,v.2.2.1,())>>=λx4=>(Nd (x1.2.2.1,())>>=λx5=>Nd (x2.2.2.1,())>>=λx6=>Na (x5.1,x6.1,())>>=λx7=>if x7.1=true then if(x1.1==x2.1)=true then if(x1.2.1==x2.2.1)=true then if(x3.1==x4.1)=true then if(x3.2.1==x4.2.1)=true then if(x3.2.2.1==x4.2.2.1)=true then M8 ()>>=λx8=>some ((x8.1,()))else some ((false,()))else some ((false,()))else some ((false,()))else some ((false,()))else some ((false,()))else some ((false,())))>>=λx5=>some ((x5.1,()))
def Mz:=kP Kn (kP Kq (kP Kt (kP Ku (kP Kv (kP Kw (kP Kx k0))))))
def x5:Xc vw:=mX prog 86 Mz.1 sh5 [] [(7,rj)] []
theorem Ni:aq prog 5 Th n_5:=fn0 x5 Tryz.func5 Mz.2
end Go.Proofs.YtpelkenpapfadaaGreatDoor
end
section
namespace Go.Proofs.YtpelkenpapfadaaGreatDoor
set_option maxRecDepth 20000
open Go.Lib
theorem bR(s:ByteArray):s.data.toList.length=s.size:=Vm
theorem qm(s:ByteArray):∀(n i:Nat) (r:List UInt8),s.size-i=n->WG s i r=r.reverse++s.data.toList.drop i
 |0,i,r,h=>by
  have hs:=bR s
  rw[WG,XF (by omega),Vt (by omega),UZ]
 |n+1,i,r,h=>by
  have hs:=bR s
  have hi:i<s.data.toList.length:=by omega
  rw[WG,XG (by omega),qm s n (i+1) _ (by omega),Vw hi,List.reverse_cons,UO]
  have:s.get! i=s.data.toList[i]:=by
   have:=getD_get!' s i
   rw[<-this,Um,T8 hi];rfl
  rw[this];rfl
theorem eo(s:ByteArray):s.toList=s.data.toList:=by
 unfold ByteArray.toList
 rw[qm s _ 0 [] rfl];simp
theorem y8{a b:ByteArray}(h:a.data.toList=b.data.toList):a=b:=by
 cases a;cases b;simp only at h;congr 1;exact VK.mp h
theorem aI(a b:ByteArray):(a.toList==b.toList)=decide (a=b):=by
 rw[eo,eo]
 by_cases h:a=b
 ·subst h;simp
 ·rw[decide_eq_false h]
  exact beq_eq_false_iff_ne.mpr λh2=>h (y8 h2)
theorem dW{α:Type}{xs:List α}{k:Nat}(h:k<xs.length):∃p,xs[k]?=some p/\p∈xs/\xs.drop k=p::xs.drop (k+1)/\((k:Int)<(xs.length:Int))/\(0:Int)<=(k:Int):=
 let⟨p,a,b,c⟩:=Dx h
 ⟨p,a,b,c,by omega,by omega⟩
theorem iB{α:Type}{xs:List α}{k:Nat}(h:¬k<xs.length):xs.drop k=[]/\¬((k:Int)<(xs.length:Int)):=⟨dk h,by omega⟩
theorem eta(l:aa):aa.mk l.kind l.n l.flag l.parts=l:=by cases l;rfl
theorem mT(a b:aa):a=b↔a.kind=b.kind/\a.n=b.n/\a.flag=b.flag/\a.parts=b.parts:=by
 cases a;cases b;simp
theorem jH(a b:Item):a=b↔a.kind=b.kind/\a.name0=b.name0/\a.n=b.n/\a.names=b.names/\a.layout=b.layout:=by
 cases a;cases b;simp
end Go.Proofs.YtpelkenpapfadaaGreatDoor
end
section
namespace Go.Proofs.YtpelkenpapfadaaGreatDoor
set_option maxRecDepth 20000
open Go.Lib
theorem bK{s:ByteArray}{i:Nat}(h:i<s.size):s[i]?=some (s.data.toList.getD i 0):=by
 have e:s[i]?=some s[i]:=by exact getElem?_pos s i h
 rw[e,Um,T8 (by rw[bR];exact h)];rfl
theorem rg(s:ByteArray)(a b:Nat):(s.extract a b).data.toList=(s.data.toList.take b).drop a:=by
 simp[ByteArray.data_extract,Array.toList_extract,List.extract_eq_take_drop,List.drop_take]
theorem L0(s:ByteArray):(⟨s.data.toList.toArray⟩:ByteArray)=s:=by cases s;simp
def mkB(l:List UInt8):ByteArray:=⟨l.toArray⟩
theorem dC(l:List UInt8):(mkB l).data.toList=l:=by simp[mkB]
theorem lT(l:List UInt8):(mkB l).size=l.length:=by rw[<-bR,dC]
theorem g8(s:ByteArray)(a n:Nat):s.extract a (a+n)=mkB ((s.data.toList.drop a).take n):=by
 apply y8;rw[rg,dC,List.drop_take];congr 1;omega
def A8(n:Int):Bool:=decide (97<=n)&&decide (n<=122)||(decide (65<=n)&&decide (n<=90)||n==95)
def uR(n:Int):Bool:=decide (48<=n)&&decide (n<=57)
def isL(c:UInt8):Bool:=A8 c.toNat
def isD(c:UInt8):Bool:=uR c.toNat
def rQ(c:UInt8):Bool:=isL c||isD c
def isW(c:UInt8):Bool:=(c.toNat:Int)==32||((c.toNat:Int)==9||(c.toNat:Int)==10)
theorem f86(n:Int):LM (n,())=some (A8 n,()):=by
 unfold LM A8
 by_cases a:97<=n<;>by_cases b:n<=122<;>by_cases c:65<=n<;>by_cases d:n<=90<;>simp only[ge_iff_le,a,b,c,d,XI,XJ,XC,TT,XD,TR,TU,U9,Wc,Vh,Wk,UD,Ux,Vb]
theorem f87(n:Int):KW (n,())=some (uR n,()):=by
 unfold KW uR
 by_cases a:48<=n<;>simp only[ge_iff_le,a,XI,XJ,XC,TT,XD,TR,TU,U9,Vh]
theorem f88(n:Int):LN (n,())=some (A8 n,()):=by
 unfold LN A8
 by_cases a:97<=n<;>by_cases b:n<=122<;>by_cases c:65<=n<;>by_cases d:n<=90<;>simp only[ge_iff_le,a,b,c,d,XI,XJ,XC,TT,XD,TR,TU,U9,Wc,Vh,Wk,UD,Ux,Vb]
theorem f89(n:Int):KX (n,())=some (uR n,()):=by
 unfold KX uR
 by_cases a:48<=n<;>simp only[ge_iff_le,a,XI,XJ,XC,TT,XD,TR,TU,U9,Vh]
def eT:List UInt8->Nat
 |[]=>0
 |c::r=>if isL c then 1+(r.takeWhile rQ).length else if isD c then 1+(r.takeWhile isD).length else 1
theorem cS(c:UInt8)(r:List UInt8):eT (c::r)=if isL c then 1+(r.takeWhile rQ).length else if isD c then 1+(r.takeWhile isD).length else 1:=rfl
theorem eC(c:UInt8)(r:List UInt8):1<=eT (c::r):=by rw[cS];(repeat' split)<;>omega
theorem Jy{α}(p:α->Bool)(r:List α):(r.takeWhile p).length<=r.length:=(List.takeWhile_sublist p).length_le
theorem qk(l:List UInt8):eT l<=l.length:=by
 cases l with
 |nil=>simp[eT]
 |cons c r=>
  have:=Jy rQ r
  have:=Jy isD r
  rw[cS,Ue];(repeat' split)<;>omega
def lz(i:Nat)(l:List UInt8):List (Nat×List UInt8):=
 match l with
 |[]=>[]
 |c::r=>if isW c then lz (i+1) r else(i,(c::r).take (eT (c::r)))::lz (i+eT (c::r)) ((c::r).drop (eT (c::r)))
termination_by l.length
decreasing_by
 ·simp
 ·have:=eC c r;simp only[UR,Ue];omega
theorem dE(i:Nat):lz i []=[]:=by rw[lz]
theorem iL{i:Nat}{c:UInt8}{r:List UInt8}(h:isW c=true):lz i (c::r)=lz (i+1) r:=by rw[lz,XG h]
theorem iK{i:Nat}{c:UInt8}{r:List UInt8}(h:isW c=false):lz i (c::r)=(i,(c::r).take (eT (c::r)))::lz (i+eT (c::r)) ((c::r).drop (eT (c::r))):=by
 rw[lz,XF (by rw[h];exact Ul)]
theorem F8{p:UInt8->Bool}(h:p 10=false):∀(a b:List UInt8),(a++10::b).takeWhile p=a.takeWhile p
 |[],b=>by simp[List.takeWhile,h]
 |c::r,b=>by
  rw[Uo,VE,VE,F8 h r b]
theorem Io(a b:List UInt8)(ha:a≠[]):eT (a++10::b)=eT a:=by
 cases a with
 |nil=>exact(ha rfl).elim
 |cons c r=>rw[Uo,cS,cS,F8 (p:=rQ) (by decide),F8 (p:=isD) (by decide)]
theorem tG:∀(n:Nat) (a b:List UInt8) (i:Nat),a.length<=n->lz i (a++10::b)=lz i a++lz (i+a.length+1) b
 |n,[],b,i,_=>by
  rw[UK,iL (by decide),dE];rfl
 |0,c::r,b,i,h=>by simp at h
 |n+1,c::r,b,i,h=>by
  rw[Ue]at h
  cases hw:isW c with
  |true=>
   rw[Uo,iL hw,iL hw,tG n r b (i+1) (by omega),Ue]
   congr 2;omega
  |false=>
   have h1:=Io (c::r) b (by simp)
   have h2:=qk (c::r)
   have h3:=eC c r
   rw[Uo]at h1
   rw[Uo,iK hw,iK hw,h1,<-Uo,WL h2,List.drop_append_of_le_length h2,
    tG n _ b _ (by rw[UR,Ue];omega),Uo,UR]
   congr 3;rw[Ue]at h2⊢;omega
theorem tH:∀(n:Nat) (l:List UInt8) (i:Nat),l.length<=n->∀p∈lz i l,i<=p.1/\p.1<i+l.length
 |n,[],i,_=>by simp[dE]
 |0,c::r,i,h=>by simp at h
 |n+1,c::r,i,h=>by
  rw[Ue]at h
  intro p hp
  cases hw:isW c with
  |true=>
   rw[iL hw]at hp
   have:=tH n r (i+1) (by omega) p hp
   rw[Ue];omega
  |false=>
   rw[iK hw]at hp
   rcases Uh.1 hp with rfl|hp
   ·simp
   ·have h3:=eC c r
    have h2:=qk (c::r)
    have:=tH n _ _ (by rw[UR,Ue];omega) p hp
    rw[UR]at this
    rw[Ue]at *;omega
theorem jT:∀(n:Nat) (l:List UInt8) (i:Nat),l.length<=n->(lz i l).length<=l.length
 |n,[],i,_=>by simp[dE]
 |0,c::r,i,h=>by simp at h
 |n+1,c::r,i,h=>by
  rw[Ue]at h
  cases hw:isW c with
  |true=>rw[iL hw,Ue];have:=jT n r (i+1) (by omega);omega
  |false=>
   rw[iK hw,Ue,Ue]
   have h3:=eC c r
   have:=jT n ((c::r).drop (eT (c::r))) (i+eT (c::r)) (by rw[UR,Ue];omega)
   rw[UR,Ue]at this;omega
theorem vN(i:Nat)(r:List UInt8):lz i (35::r)=(i,[35])::lz (i+1) r:=by
 rw[iK (by decide)]
 have:eT (35::r)=1:=by simp[cS,show isL 35=false by decide,show isD 35=false by decide]
 rw[this];rfl
def qy(t:ByteArray):Prop:=∃c r,t.data.toList=c::r/\(isD c=true->∀x∈r,isD x=true)
theorem Jx{α}{p:α->Bool}:∀{l:List α},∀x∈l.takeWhile p,p x=true
 |[],x,h=>by simp at h
 |a::l,x,h=>by
  rw[VE]at h
  split at h
  ·rename_i ha
   rcases Uh.1 h with rfl|h
   ·exact ha
   ·exact Jx x h
  ·simp at h
theorem F9{α}{p:α->Bool}:∀(l:List α),l.take (l.takeWhile p).length=l.takeWhile p
 |[]=>rfl
 |a::l=>by
  rw[VE]
  split
  ·rw[Ue,Xq,F9 l]
  ·rfl
theorem Nk{c:UInt8}(h:isD c=true):isL c=false:=by
 unfold isD uR at h;unfold isL A8
 simp only[Uf,XE]at h
 simp only[UQ,Bool.and_eq_false_iff,decide_eq_false_iff_not,beq_eq_false_iff_ne]
 omega
theorem yQ:∀(n:Nat) (l:List UInt8) (i:Nat),l.length<=n->∀p∈lz i l,qy (mkB p.2)
 |n,[],i,_=>by simp[dE]
 |0,c::r,i,h=>by simp at h
 |n+1,c::r,i,h=>by
  rw[Ue]at h
  intro p hp
  cases hw:isW c with
  |true=>rw[iL hw]at hp;exact yQ n r (i+1) (by omega) p hp
  |false=>
   rw[iK hw]at hp
   have h3:=eC c r
   rcases Uh.1 hp with rfl|hp
   ·refine⟨c,r.take (eT (c::r) -1),?_,λhd x hx=> ?_⟩
    ·rw[dC]
     obtain⟨m,hm⟩:∃m,eT (c::r)=m+1:=⟨eT (c::r) -1,by omega⟩
     simp only[hm,Xq,WR]
    ·have e:eT (c::r)=1+(r.takeWhile isD).length:=by simp[cS,Nk hd,hd]
     rw[e,Nat.add_sub_cancel_left,F9]at hx
     exact Jx x hx
   ·exact yQ n _ _ (by rw[UR,Ue];omega) p hp
def OH(s:ByteArray):List ByteArray:=(lz 0 s.data.toList).map λp=>mkB p.2
theorem nc:∀(n:Nat) (l:List UInt8) (i j:Nat),l.length<=n->(lz i l).map (·.2)=(lz j l).map (·.2)
 |n,[],i,j,_=>by simp[dE]
 |0,c::r,i,j,h=>by simp at h
 |n+1,c::r,i,j,h=>by
  rw[Ue]at h
  cases hw:isW c with
  |true=>rw[iL hw,iL hw];exact nc n r _ _ (by omega)
  |false=>
   rw[iK hw,iK hw,Ud,Ud]
   have h3:=eC c r
   rw[nc n ((c::r).drop (eT (c::r))) _ (j+eT (c::r)) (by rw[UR,Ue];omega)]
end Go.Proofs.YtpelkenpapfadaaGreatDoor
end
section
namespace Go.Proofs.YtpelkenpapfadaaGreatDoor
set_option maxRecDepth 20000
open Go.Lib
theorem gc{s:ByteArray}{i:Nat}(h:i<s.size):s.data.toList.drop i=s.data.toList.getD i 0::s.data.toList.drop (i+1):=by
 have h':i<s.data.toList.length:=by rw[bR];exact h
 rw[Vw h',Um,T8 h'];rfl
theorem gY{s:ByteArray}{i:Nat}(h:¬i<s.size):s.data.toList.drop i=[]:=Vt (by rw[bR];omega)
theorem tJ{a n:Nat}(h:a+n<=4000000000):IntKind.i64.wrap ((a:Int)+(n:Int))=((a+n:Nat):Int):=(c6 (by omega) (by omega)).trans (by omega)
theorem aX{a:Nat}(h:a<=4000000000):IntKind.i64.wrap ((a:Int)+1)=((a+1:Nat):Int):=(c6 (by omega) (by omega)).trans (by omega)
--begin 52
theorem PD(s:ByteArray)(hs:s.size<=1000000000)(a:Nat)(out:List ByteArray):∀(m n:Nat),s.size-(a+n)=m->a+n<=s.size->
 cI (s,a,n,out,())=some (s,(a:Int),((n+((s.data.toList.drop (a+n)).takeWhile rQ).length:Nat):Int),out,()):=by
 intro m
 induction m with
 |zero=>
  intro n hm hl
  have hlt:¬a+n<s.size:=by omega
  rw[cI]
  simp only[tJ (a:=a) (n:=n) (by omega),TR,TU,T2,XC,XD,TT,T0,TW,TX,XH,XE,T3,hlt,XJ,gY hlt,Wu,Uv,UE]
 |succ m ih=>
  intro n hm hl
  have hlt:a+n<s.size:=by omega
  have h:=ih (n+1) (by omega) (by omega)
  rw[<-Vf]at h
  rw[cI,gc hlt,VE]
  cases h1:A8 ((s.data.toList.getD (a+n) 0).toNat:Int)with
  |true=>
   have e:rQ (s.data.toList.getD (a+n) 0)=true:=by unfold rQ isL;rw[h1];rfl
   simp only[tJ (a:=a) (n:=n) (by omega),TR,TU,T2,XC,XD,TT,T0,TW,TX,XH,XE,T3,hlt,XI,bK hlt,f86,h1,aX (a:=n) (by omega),h,e,Ue]
   congr 4;omega
  |false=>
   cases h2:uR ((s.data.toList.getD (a+n) 0).toNat:Int)with
   |true=>
    have e:rQ (s.data.toList.getD (a+n) 0)=true:=by unfold rQ isL isD;rw[h1,h2];rfl
    simp only[tJ (a:=a) (n:=n) (by omega),TR,TU,T2,XC,XD,TT,T0,TW,TX,XH,XE,T3,hlt,XI,bK hlt,f86,f87,h1,h2,aX (a:=n) (by omega),h,e,Ue]
    congr 4;omega
   |false=>
    have e:rQ (s.data.toList.getD (a+n) 0)=false:=by unfold rQ isL isD;rw[h1,h2];rfl
    simp only[tJ (a:=a) (n:=n) (by omega),TR,TU,T2,XC,XD,TT,T0,TW,TX,XH,XE,T3,hlt,XI,bK hlt,f86,f87,h1,h2,e,Uv,UE]
theorem ML(s:ByteArray)(hs:s.size<=1000000000)(a:Nat)(out:List ByteArray):∀(m n:Nat),s.size-(a+n)=m->a+n<=s.size->
 ce (s,a,n,out,())=some (s,(a:Int),((n+((s.data.toList.drop (a+n)).takeWhile isD).length:Nat):Int),out,()):=by
 intro m
 induction m with
 |zero=>
  intro n hm hl
  have hlt:¬a+n<s.size:=by omega
  rw[ce]
  simp only[tJ (a:=a) (n:=n) (by omega),TR,TU,T2,XC,XD,TT,T0,TW,TX,XH,XE,T3,hlt,XJ,gY hlt,Wu,Uv,UE]
 |succ m ih=>
  intro n hm hl
  have hlt:a+n<s.size:=by omega
  have h:=ih (n+1) (by omega) (by omega)
  rw[<-Vf]at h
  rw[ce,gc hlt,VE]
  cases h2:uR ((s.data.toList.getD (a+n) 0).toNat:Int)with
  |true=>
   have e:isD (s.data.toList.getD (a+n) 0)=true:=h2
   simp only[tJ (a:=a) (n:=n) (by omega),TR,TU,T2,XC,XD,TT,T0,TW,TX,XH,XE,T3,hlt,XI,bK hlt,f87,h2,aX (a:=n) (by omega),h,e,Ue]
   congr 4;omega
  |false=>
   have e:isD (s.data.toList.getD (a+n) 0)=false:=h2
   simp only[tJ (a:=a) (n:=n) (by omega),TR,TU,T2,XC,XD,TT,T0,TW,TX,XH,XE,T3,hlt,XI,bK hlt,f87,h2,e,Uv,UE]
theorem PC(s:ByteArray)(hs:s.size<=1000000000):∀(m a:Nat) (out:List ByteArray),s.size-a<=m->a<=s.size->out.length<=a->
 bN (s,a,out,())=some (out++(lz a (s.data.toList.drop a)).map (λp=>mkB p.2),()):=by
 intro m
 induction m with
 |zero=>
  intro a out hm hl ho
  have hlt:¬a<s.size:=by omega
  rw[bN]
  simp only[TR,TU,T2,XC,XD,TT,T0,TW,TX,XH,XE,T3,hlt,XJ,gY hlt,dE,UL,UZ]
 |succ m ih=>
  intro a out hm hl ho
  by_cases hlt:a<s.size
  ·have hg:=gc hlt
   have hl0:s.data.toList.drop a=s.data.toList.drop (a+0):=rfl
   rw[bN]
   cases hw:isW (s.data.toList.getD a 0)with
   |true=>
    have h:=ih (a+1) out (by omega) (by omega) (by omega)
    rw[hg,iL hw,<-h]
    have hw':((((s.data.toList.getD a 0).toNat:Int)==32)=true)\/((((s.data.toList.getD a 0).toNat:Int)==32)=false)/\((((s.data.toList.getD a 0).toNat:Int)==9)=true)\/
     ((((s.data.toList.getD a 0).toNat:Int)==32)=false)/\((((s.data.toList.getD a 0).toNat:Int)==9)=false)/\((((s.data.toList.getD a 0).toNat:Int)==10)=true):=by
     unfold isW at hw
     revert hw
     cases (((s.data.toList.getD a 0).toNat:Int)==32)<;>cases (((s.data.toList.getD a 0).toNat:Int)==9)<;>simp
    rcases hw' with e1|⟨e1,e2⟩|⟨e1,e2,e3⟩
    ·simp only[hlt,XI,XC,TX,TW,T3,bK hlt,e1,TR,TU,aX (a:=a) (by omega)]
    ·simp only[hlt,XI,XC,TX,TW,T3,bK hlt,e1,e2,TT,XD,TR,TU,aX (a:=a) (by omega)]
    ·simp only[hlt,XI,XC,TX,TW,T3,bK hlt,e1,e2,e3,TT,XD,TR,TU,aX (a:=a) (by omega)]
   |false=>
    have hw':((((s.data.toList.getD a 0).toNat:Int)==32)=false)/\((((s.data.toList.getD a 0).toNat:Int)==9)=false)/\((((s.data.toList.getD a 0).toNat:Int)==10)=false):=by
     unfold isW at hw
     revert hw
     cases (((s.data.toList.getD a 0).toNat:Int)==32)<;>cases (((s.data.toList.getD a 0).toNat:Int)==9)<;>simp
    obtain⟨e1,e2,e3⟩:=hw'
    have htl:=qk (s.data.toList.drop a)
    rw[UR,bR]at htl
    have htp:=eC (s.data.toList.getD a 0) (s.data.toList.drop (a+1))
    rw[<-hg]at htp
    have h:=ih (a+eT (s.data.toList.drop a)) (out++[s.extract a (a+eT (s.data.toList.drop a))]) (by omega) (by omega) (by rw[Uc,T5];omega)
    have hx:out++(lz a (s.data.toList.drop a)).map (λp=>mkB p.2)=(out++[s.extract a (a+eT (s.data.toList.drop a))])++(lz (a+eT (s.data.toList.drop a)) (s.data.toList.drop (a+eT (s.data.toList.drop a)))).map (λp=>mkB p.2):=by
     rw[g8,UO,Xh]
     conv=>lhs;rw[hg,iK hw,<-hg,Ud,VU]
    rw[hx,<-h]
    have hout:(out.length+1<=4294967296):=by omega
    have hbd:(a:Int)<=((a+eT (s.data.toList.drop a):Nat):Int)/\((a+eT (s.data.toList.drop a):Nat):Int)<=(s.size:Int):=by omega
    cases h1:A8 ((s.data.toList.getD a 0).toNat:Int)with
    |true=>
     have ht:eT (s.data.toList.drop a)=1+((s.data.toList.drop (a+1)).takeWhile rQ).length:=by
      rw[hg,cS,XG (show isL _=true from h1)]
     have h9:=PD s hs a out _ 1 rfl (by omega)
     rw[<-ht]at h9
     have h9:cI (s,a,1,out,())=some (s,(a:Int),(eT (s.data.toList.drop a):Int),out,()):=h9
     simp only[hlt,XI,XC,TX,TW,T3,bK hlt,e1,e2,e3,TT,XD,TR,TU,f86,h1,h9,tJ (a:=a) (n:=eT (s.data.toList.drop a)) (by omega),hbd,true_and,and_self,T5,hout]
    |false=>
     cases h2:uR ((s.data.toList.getD a 0).toNat:Int)with
     |true=>
      have ht:eT (s.data.toList.drop a)=1+((s.data.toList.drop (a+1)).takeWhile isD).length:=by
       rw[hg,cS,XF (by rw[show isL _=false from h1];exact Ul),XG (show isD _=true from h2)]
      have h9:=ML s hs a out _ 1 rfl (by omega)
      rw[<-ht]at h9
      have h9:ce (s,a,1,out,())=some (s,(a:Int),(eT (s.data.toList.drop a):Int),out,()):=h9
      simp only[hlt,XI,XC,TX,TW,T3,bK hlt,e1,e2,e3,TT,XD,TR,TU,f86,f87,h1,h2,h9,tJ (a:=a) (n:=eT (s.data.toList.drop a)) (by omega),hbd,true_and,and_self,T5,hout]
     |false=>
      have ht:eT (s.data.toList.drop a)=1:=by
       rw[hg,cS,XF (by rw[show isL _=false from h1];exact Ul),XF (by rw[show isD _=false from h2];exact Ul)]
      rw[ht]at hbd⊢
      have hw1:IntKind.i64.wrap ((a:Int)+1)=((a+1:Nat):Int):=aX (by omega)
      simp only[hlt,XI,XC,TX,TW,T3,bK hlt,e1,e2,e3,TT,XD,TR,TU,f86,f87,h1,h2,hw1,hbd,true_and,and_self,T5,hout]
  ·rw[bN]
   simp only[TR,TU,T2,XC,XD,TT,T0,TW,TX,XH,XE,T3,hlt,XJ,gY hlt,dE,UL,UZ]
theorem f52(s:ByteArray)(hs:s.size<=1000000000):jf (s,())=some (OH s,()):=by
 have h:=PC s hs s.size 0 [] (by omega) (by omega) (by simp)
 rw[jf]
 have h:bN (s,0,[],())=some (OH s,()):=h
 simp only[h,TR,TU,T2,XC,XD,TT,T0,TW,TX,XH,XE,T3]
--end 52
end Go.Proofs.YtpelkenpapfadaaGreatDoor
end
section
namespace Go.Proofs.YtpelkenpapfadaaGreatDoor
open IntKind (i64)
set_option maxRecDepth 20000
open Go.Lib
def lines:List UInt8->List (List UInt8)
 |[]=>[[]]
 |c::r=>if c=10 then[]::lines r else match lines r with
  |[]=>[[c]]
  |x::y=>(c::x)::y
theorem jI:∀{l:List UInt8},10∉l->lines l=[l]
 |[],_=>rfl
 |c::r,h=>by
  have h1:¬c=10:=λe=>h (by rw[e];exact T_)
  rw[lines,XF h1,jI λe=>h (T6 _ e)]
theorem gF:∀{a b:List UInt8},10∉a->lines (a++10::b)=a::lines b
 |[],b,_=>by rw[UK,lines,XG rfl]
 |c::r,b,h=>by
  have h1:¬c=10:=λe=>h (by rw[e];exact T_)
  rw[Uo,lines,XF h1,gF λe=>h (T6 _ e)]
theorem kZ:∀l:List UInt8,10∉l\/∃a b,l=a++10::b/\10∉a
 |[]=> .inl (by simp)
 |c::r=>by
  by_cases hc:c=10
  ·exact .inr ⟨[],r,by rw[hc];rfl,by simp⟩
  ·rcases kZ r with h|⟨a,b,rfl,h⟩
   ·exact .inl (by simp[UA hc,h])
   ·exact .inr ⟨c::a,b,rfl,by simp[UA hc,h]⟩
theorem lQ{M:List UInt8->Prop}(h1:∀l,10∉l->M l)(h2:∀a b,10∉a->M b->M (a++10::b)):∀(n:Nat) (l:List UInt8),l.length<=n->M l
 |n,l,hn=>by
  rcases kZ l with h|⟨a,b,rfl,h⟩
  ·exact h1 l h
  ·cases n with
   |zero=>simp at hn
   |succ n=>exact h2 a b h (lQ h1 h2 n b (by simp only[Uc,Ue]at hn;omega))
theorem uV:∀l:List UInt8,(lines l).length=l.count 10+1:=λl=>by
 refine lQ (M:=λl=>(lines l).length=l.count 10+1) (λl h=> ?_) (λa b h ih=> ?_) l.length l (Up _)
 ·rw[jI h,Wd.2 h];rfl
 ·rw[gF h,Ue,ih,Wz,Wd.2 h,Xo];omega
theorem zc(l:List UInt8)(c:UInt8):l.count c<=l.length:=List.count_le_length
theorem DR:∀{a b:List UInt8},10∉a->indexByte (a++10::b) 10=(a.length:Int)
 |[],b,_=>by simp[indexByte]
 |c::r,b,h=>by
  have h1:(c==10)=false:=beq_eq_false_iff_ne.2 λe=>h (by rw[e];exact T_)
  have h2:=DR (b:=b) λe=>h (T6 _ e)
  have h3:((r.length:Int)== -1)=false:=beq_eq_false_iff_ne.2 (by omega)
  rw[Uo,indexByte,h1,h2,h3,Ue];simp
def nlB:ByteArray:=TZ #[10]
theorem HO:nlB.size=1:=rfl
theorem Sb(s:ByteArray):Hr (s,nlB,())=some (indexByte s.data.toList 10,()):=rfl
theorem Sa(s:ByteArray):Hp (s,nlB,())=some (((s.data.toList.count 10:Nat):Int),()):=rfl
theorem zQ{α:Type}(xs:List α)(i:Nat)(x:α)(h:i<xs.length):(xs.set i x).take (i+1)=xs.take i++[x]:=by
 rw[V2,List.take_set_of_le (Up _),WA h];rfl
theorem RN(N:Nat)(hN:N<=2000000000):∀(k i:Nat) (s:ByteArray) (arr:List ByteArray),s.size<=1000000000->s.data.toList.count 10=k->i+k+1=N->arr.length=N->
 ∃s' arr',ip (s,nlB,0,((N-1:Nat):Int),(i:Int),arr,())=some (s',((N-1:Nat):Int),arr',())/\arr'.length=N/\arr'.set (N-1) s'=arr.take i++(lines s.data.toList).map mkB
 |0,i,s,arr,hs,hc,hi,ha=>by
  have hnl:10∉s.data.toList:=Wd.1 hc
  have hi':i=N-1:=by omega
  refine⟨s,arr,?_,ha,?_⟩
  ·rw[ip,<-hi']
   have:¬i<i:=by omega
   simp only[TR,TU,T2,XC,XD,TT,T0,TW,TX,XH,XE,T3,this,XJ]
  ·have h1:=zQ arr i s (by omega)
   have h2:(arr.set i s).take (i+1)=arr.set i s:=UU (by rw[Ve];omega)
   rw[<-hi',<-h2,h1,jI hnl,Wv]
   rw[show mkB s.data.toList=s from L0 s]
 |k+1,i,s,arr,hs,hc,hi,ha=>by
  rcases kZ s.data.toList with h|⟨a,b,he,h⟩
  ·rw[Wd.2 h]at hc;cases hc
  ·have hsz:s.size=a.length+b.length+1:=by rw[<-bR,he];simp;omega
   have hx:=DR (b:=b) h
   rw[<-he]at hx
   have e1:s.extract 0 a.length=mkB a:=by
    have:=g8 s 0 a.length
    rw[UG]at this
    rw[this,he,UJ,List.take_left]
   have e2:s.extract (a.length+1) s.size=mkB b:=by
    have:=g8 s (a.length+1) (s.size-(a.length+1))
    rw[show a.length+1+(s.size-(a.length+1))=s.size by omega]at this
    rw[this,he]
    congr 1
    rw[show(a++10::b).drop (a.length+1)=b by rw[W6,Vt (by omega)];simp]
    exact UU (by omega)
   have hcb:(mkB b).data.toList.count 10=k:=by
    rw[dC]
    rw[he,Wz,Wd.2 h,Xo]at hc
    omega
   obtain⟨s',arr',j1,j2,j3⟩:=RN N hN k (i+1) (mkB b) (arr.set i (mkB a)) (by rw[lT];omega) hcb (by omega) (by rw[Ve];exact ha)
   refine⟨s',arr',?_,j2,?_⟩
   ·rw[ip]
    have w1:i64.wrap ((a.length:Int)+0)=(a.length:Int):=(c6 (by omega) (by omega)).trans (by omega)
    have w2:i64.wrap ((a.length:Int)+(nlB.size:Int))=((a.length+1:Nat):Int):=by rw[HO];exact aX (by omega)
    have w3:¬((a.length:Int)<0):=by omega
    have w4:i<N-1:=by omega
    have w5:((0:Int)<=0/\(0:Int)<=(a.length:Int)/\(a.length:Int)<=(s.size:Int)):=by omega
    have w6:((0:Int)<=(i:Int)/\(i:Int)<(arr.length:Int)):=by omega
    have w7:(0:Int)<=((a.length+1:Nat):Int)/\((a.length+1:Nat):Int)<=(s.size:Int)/\(s.size:Int)<=(s.size:Int):=by omega
    have w8:arr[i]?=some (arr[i]'(by omega)):=T8 (by omega)
    simp only[Sb,hx,w1,w2,w3,w4,w5,w6,w7,w8,XI,XJ,XC,XD,TT,TR,TU,TW,T3,and_self,aX (a:=i) (by omega),Vj,e1,e2]
    exact j1
   ·rw[j3,he,gF h,dC,zQ arr i _ (by omega),Ud,UO];rfl
theorem f65(s:ByteArray)(hs:s.size<=1000000000):Or (s,nlB,())=some ((lines s.data.toList).map mkB,()):=by
 have hc:=zc s.data.toList 10
 rw[bR]at hc
 obtain⟨s',arr',j1,j2,j3⟩:=RN (s.data.toList.count 10+1) (by omega) _ 0 s (UX (s.data.toList.count 10+1) (TZ #[])) hs rfl (by omega) (by simp)
 rw[WR]at j1 j3
 have w1:i64.wrap (((s.data.toList.count 10:Nat):Int)+1)=((s.data.toList.count 10+1:Nat):Int):=aX (by omega)
 have w2:i64.wrap ((s.size:Int)+1)=((s.size+1:Nat):Int):=aX (by omega)
 have w3:min ((s.data.toList.count 10+1:Nat):Int) ((s.size+1:Nat):Int)=((s.data.toList.count 10+1:Nat):Int):=by omega
 have w4:i64.wrap (((s.data.toList.count 10+1:Nat):Int) -1)=((s.data.toList.count 10:Nat):Int):=(c6 (by omega) (by omega)).trans (by omega)
 have w5:(nlB.toList==(TZ #[]).toList)=false:=by rw[eo,eo];rfl
 have w6:((s.data.toList.count 10+1:Nat):Int)<=4294967296:=by omega
 have w7:(0:Int)<=((s.data.toList.count 10:Nat):Int)/\((s.data.toList.count 10:Nat):Int)<((s.data.toList.count 10+1:Nat):Int):=by omega
 have w8:(0:Int)<=0/\(0:Int)<=((s.data.toList.count 10+1:Nat):Int)/\((s.data.toList.count 10+1:Nat):Int)<=((s.data.toList.count 10+1:Nat):Int):=by omega
 have w9:arr'[s.data.toList.count 10]?=some (arr'[s.data.toList.count 10]'(by omega)):=T8 (by omega)
 have w10:((-1:Int)==0)=false:=rfl
 have w11:((-1:Int)<0)=True:=by simp
 have j1:ip (s,nlB,0,((s.data.toList.count 10:Nat):Int),(0:Int),UX (s.data.toList.count 10+1) (TZ #[]),())=some (s',((s.data.toList.count 10:Nat):Int),arr',()):=j1
 have wt:((lines s.data.toList).map mkB).take (s.data.toList.count 10+1)=(lines s.data.toList).map mkB:=UU (by rw[Ub,uV];omega)
 rw[Or,PO]
 simp only[w10,w5,w11,XI,XC,TT,XD,Sa,TR,TU,w1,w2,w3,w4,TX,w6,TW,j1,j2,Ve,w7,w8,w9,and_self,j3,Wx,UK,wt]
def hsh:List UInt8->Bool
 |[]=>false
 |c::_=>c==35
def sE:ByteArray:=TZ #[35]
theorem f66(s:ByteArray):Ot (s,sE,())=some (hsh s.data.toList,()):=by
 have hb:=bR s
 rw[Ot,PP]
 have hz:sE.size=1:=rfl
 have hl:sE.toList=[35]:=by rw[eo];rfl
 cases he:s.data.toList with
 |nil=>
  rw[he]at hb
  have:s.size=0:=by rw[<-hb];rfl
  have h1:¬((s.size:Int)>=(sE.size:Int)):=by rw[this,hz];decide
  simp only[h1,XJ,TT,XD,TR,TU,hsh]
 |cons c r=>
  rw[he,Ue]at hb
  have h1:(s.size:Int)>=(sE.size:Int):=by rw[hz];omega
  have h2:(0:Int)<=0/\(0:Int)<=(sE.size:Int)/\(sE.size:Int)<=(s.size:Int):=by rw[hz];omega
  have h3:(s.extract (U1 0) (U1 (sE.size:Int))).toList=[c]:=by
   rw[eo,Vj,TW,hz,rg,he];rfl
  simp only[h1,h2,XI,XC,and_self,TR,TU,h3,hl,hsh]
  simp
def nY(b st:Bool):List UInt8->List Bool
 |[]=>[]
 |c::r=>(if st then c==35 else b)::nY (if st then c==35 else b) (c==10) r
theorem zd:∀(b st:Bool) (l:List UInt8),(nY b st l).length=l.length
 |_,_,[]=>rfl
 |b,st,c::r=>by rw[nY,Ue,Ue,zd]
theorem RM(s:ByteArray)(hs:s.size<=1000000000):∀(m i:Nat) (b st:Bool) (pre:List Bool),s.size-i=m->i<=s.size->pre.length=i->
 (st=true↔(i=0\/0<i/\s.data.toList.getD (i-1) 0=10))->
 kf (s,b,(i:Int),pre++UX m false,())=some (pre++nY b st (s.data.toList.drop i),())
 |0,i,b,st,pre,hm,hi,hp,hst=>by
  have hlt:¬i<s.size:=by omega
  rw[kf]
  simp only[TR,TU,T2,XC,XD,TT,T0,TW,TX,XH,XE,T3,hlt,XJ,gY hlt,nY,List.replicate_zero]
 |m+1,i,b,st,pre,hm,hi,hp,hst=>by
  have hlt:i<s.size:=by omega
  have hset:∀x:Bool,(pre++UX (m+1) false).set i x=(pre++[x])++UX m false:=by
   intro x
   rw[Wi _ _ (by omega),show i-pre.length=0 by omega,List.replicate_succ,WT,UO];rfl
  have hlen:(0:Int)<=(i:Int)/\(i:Int)<((pre++UX (m+1) false).length:Int):=by
   rw[Uc,WE];omega
  have hget:(pre++UX (m+1) false)[i]?=some false:=by
   rw[Ut (by omega),show i-pre.length=0 by omega];rfl
  have key (x:Bool) (e:(if st=true then s.data.toList.getD i 0==35 else b)=x):
   kf (s,x,((i+1:Nat):Int),(pre++[x])++UX m false,())=some (pre++nY b st (s.data.toList.drop i),()):=by
   rw[gc hlt,nY,e]
   have:=RM s hs m (i+1) x (s.data.toList.getD i 0==10) (pre++[x]) (by omega) (by omega) (by simp[hp]) (by simp)
   rw[this,UO];rfl
  have h35:(((s.data.toList.getD i 0).toNat:Int)==35)=(s.data.toList.getD i 0==35):=by
   have:((s.data.toList.getD i 0).toNat=35)↔s.data.toList.getD i 0=35:=⟨λh=>W_.1 h,λh=>by rw[h];rfl⟩
   by_cases h:s.data.toList.getD i 0=35
   ·rw[h];rfl
   ·rw[beq_eq_false_iff_ne.2 h,beq_eq_false_iff_ne];intro e;exact h (this.1 (by omega))
  rw[kf]
  by_cases h0:i=0
  ·have hs1:st=true:=hst.2 (.inl h0)
   have k:=key (s.data.toList.getD i 0==35) (by rw[hs1,XG rfl])
   have e0:((i:Int)==0)=true:=by rw[h0];rfl
   simp only[e0,XC,TR,TU,T3,hlt,XI,TX,TW,bK hlt,h35,hlen,and_self,hget,hset,aX (a:=i) (by omega)]
   exact k
  ·have e0:((i:Int)==0)=false:=beq_eq_false_iff_ne.2 (by omega)
   have e1:i64.wrap ((i:Int) -1)=((i-1:Nat):Int):=(c6 (by omega) (by omega)).trans (by omega)
   have h10:(((s.data.toList.getD (i-1) 0).toNat:Int)==10)=st:=by
    have h10:((s.data.toList.getD (i-1) 0).toNat=10)↔s.data.toList.getD (i-1) 0=10:=⟨λh=>W_.1 h,λh=>by rw[h];rfl⟩
    by_cases h:s.data.toList.getD (i-1) 0=10
    ·rw[hst.2 (.inr ⟨by omega,h⟩),h];rfl
    ·have:st=false:=by
      cases hst':st with
      |false=>rfl
      |true=>rcases hst.1 hst' with h'|h';exact(h0 h').elim;exact(h h'.2).elim
     rw[this,beq_eq_false_iff_ne];intro e;exact h (h10.1 (by omega))
   cases st with
   |true=>
    have k:=key (s.data.toList.getD i 0==35) (by rw[XG rfl])
    simp only[e0,TT,XD,e1,bK (s:=s) (i:=i-1) (by omega),h10,XC,TR,TU,T3,hlt,XI,TX,TW,bK hlt,h35,hlen,and_self,hget,hset,aX (a:=i) (by omega)]
    exact k
   |false=>
    have k:=key b (by rw[XF Ul])
    simp only[e0,TT,XD,e1,bK (s:=s) (i:=i-1) (by omega),h10,XC,TR,TU,T3,hlt,XI,TX,TW,bK hlt,hlen,and_self,hget,hset,aX (a:=i) (by omega)]
    exact k
theorem f85(s:ByteArray)(hs:s.size<=1000000000):Oy (s,())=some (nY false true s.data.toList,()):=by
 have h:=RM s hs s.size 0 false true [] (by omega) (by omega) rfl (by simp)
 have h:kf (s,false,0,UX s.size false,())=some (nY false true s.data.toList,()):=h
 have h1:(s.size:Int)<=4294967296:=by omega
 rw[Oy]
 simp only[h1,XC,TW,h,TR,TU]
end Go.Proofs.YtpelkenpapfadaaGreatDoor
end
section
namespace Go.Proofs.YtpelkenpapfadaaGreatDoor
open Go.Tx
set_option maxRecDepth 20000
open Go.Lib
theorem tW{α:Type}:∀xs:List α,CX (xs.map some)=some xs
 |[]=>rfl
 |x::r=>by simp[CX,tW r]
theorem cY{α:Type}(xs:List α)(k:Nat)(y:α):CX (((xs.map some).set k none).set k (some y))=some (xs.set k y):=by
 rw[W3,<-V9,tW]
theorem ea{α:Type}(xs:List α)(k:Nat)(h:k<xs.length):((xs.map some).set k none)[k]?=some none:=by
 rw[Vn];simp[h]
def oB:ByteArray:=TZ #[123]
def cB:ByteArray:=TZ #[125]
def sB:ByteArray:=TZ #[59]
theorem oc:¬cB=oB:=λh=>absurd (congrArg (λb:ByteArray=>b.data.toList) h) (by decide)
theorem so:¬sB=oB:=λh=>absurd (congrArg (λb:ByteArray=>b.data.toList) h) (by decide)
theorem sc:¬sB=cB:=λh=>absurd (congrArg (λb:ByteArray=>b.data.toList) h) (by decide)
def opn{α:Type}(out:List (List α))(op:Int):List (List α)×Int:=if op<0 then(out++[[]],(out.length:Int))else(out,op)
def add{α:Type}(out:List (List α))(k:Nat)(t:α):List (List α):=out.set k (out.getD k []++[t])
def nxt(w:ByteArray)(op dp:Int):Int×Int:=if w=oB then(op,dp+1)else if w=cB then(op,max (dp-1) 0)else if w=sB then(if dp=0 then(-1,dp)else(op,dp))else(op,dp)
def cW{α:Type}(f:α->ByteArray)(st:List (List α)×Int×Int)(t:α):List (List α)×Int×Int:=
 (add (opn st.1 st.2.1).1 (opn st.1 st.2.1).2.toNat t,nxt (f t) (opn st.1 st.2.1).2 st.2.2)
structure Inv {α:Type} (B:Nat) (out:List (List α)) (op dp:Int):Prop where
 op:op= -1\/∃k:Nat,op=k/\k<out.length
 d0:0<=dp
 d1:dp<=B
 len:out.length<=B
 row:∀x∈out,x.length<=B
theorem Inv.opn{α:Type}{B:Nat}{out:List (List α)}{op dp:Int}(h:Inv B out op dp):
 ∃(k:Nat) (out1:List (List α)),opn out op=(out1,(k:Int))/\k<out1.length/\out1.length<=B+1/\(∀x∈out1,x.length<=B)/\
  (op= -1/\out++[[]]=out1/\(out.length:Int)=k\/op=(k:Int)/\out=out1):=by
 have hl:=h.len
 rcases h.op with e|⟨k,e,hk⟩
 ·refine⟨out.length,out++[[]],?_,by simp,by simp;omega,λx hx=> ?_, .inl ⟨e,rfl,rfl⟩⟩
  ·rw[Proofs.YtpelkenpapfadaaGreatDoor.opn,e];rfl
  ·rcases Uk.1 hx with hx|hx
   ·exact h.row x hx
   ·rw[UP.1 hx];simp
 ·exact⟨k,out,by rw[Proofs.YtpelkenpapfadaaGreatDoor.opn,XF (by omega),e],hk,by omega,h.row, .inr ⟨e,rfl⟩⟩
theorem CT{α:Type}(out:List (List α))(k:Nat)(t:α):(add out k t).length=out.length:=by simp[add]
theorem JJ{α:Type}{B:Nat}{out:List (List α)}{k:Nat}{t:α}(h:∀x∈out,x.length<=B):∀x∈add out k t,x.length<=B+1:=by
 intro x hx
 rcases Vv hx with hx|rfl
 ·have:=h x hx;omega
 ·rw[Uc,T5]
  by_cases hk:k<out.length
  ·have:out.getD k []∈out:=by rw[Um,T8 hk];exact Vk hk
   have:=h _ this;omega
  ·rw[Um,VR (by omega)];simp
theorem Inv.step{α:Type}{f:α->ByteArray}{B:Nat}{out:List (List α)}{op dp:Int}(h:Inv B out op dp)(t:α):Inv (B+1) (cW f (out,op,dp) t).1 (cW f (out,op,dp) t).2.1 (cW f (out,op,dp) t).2.2:=by
 obtain⟨k,out1,e,hk,hl,hr,_⟩:=h.opn
 have h0:=h.d0
 have h1:=h.d1
 unfold cW
 simp only[e,TW]
 refine⟨?_,?_,?_,by rw[CT];exact hl,JJ hr⟩
 ·unfold nxt;(repeat' split)<;>first|exact .inl rfl|exact .inr ⟨k,rfl,by rw[CT];exact hk⟩
 ·unfold nxt;(repeat' split)<;>(simp only;omega)
 ·unfold nxt;(repeat' split)<;>(simp only;omega)
theorem Inv.mono{α:Type}{B B':Nat}{out:List (List α)}{op dp:Int}(h:Inv B out op dp)(hb:B<=B'):Inv B' out op dp:=
 ⟨h.op,h.d0,by have:=h.d1;omega,by have:=h.len;omega,λx hx=>by have:=h.row x hx;omega⟩
theorem Inv.steps{α:Type}{f:α->ByteArray}:∀(ts:List α) {B:Nat} {out:List (List α)} {op dp:Int},Inv B out op dp->
 Inv (B+ts.length) (ts.foldl (cW f) (out,op,dp)).1 (ts.foldl (cW f) (out,op,dp)).2.1 (ts.foldl (cW f) (out,op,dp)).2.2
 |[],B,out,op,dp,h=>h
 |t::r,B,out,op,dp,h=>by
  have:=Inv.steps (f:=f) r (h.step (f:=f) t)
  rw[Va,Ue,show B+(r.length+1)=B+1+r.length by omega]
  exact this
theorem PB(ls:List ByteArray)(nl li:Int)(ts:List ByteArray):∀(m j:Nat) (out:List (List ByteArray)) (op dp:Int) (B:Nat),ts.length-j=m->Inv B out op dp->B+m<=1000000000->ts.length<=1000000000->
 md (op,dp,ls,nl,li,(ts.length:Int),(j:Int),out,ts,())=
  some (((ts.drop j).foldl (cW id) (out,op,dp)).2.1,((ts.drop j).foldl (cW id) (out,op,dp)).2.2,ls,nl,li,((ts.drop j).foldl (cW id) (out,op,dp)).1,()):=by
 intro m
 induction m with
 |zero=>
  intro j out op dp B hm hi hB hts
  have hlt:¬j<ts.length:=by omega
  rw[md]
  simp only[TR,TU,T2,XC,XD,TT,T0,TW,TX,XH,XE,T3,hlt,XJ,dk hlt,Wy]
 |succ m ih=>
  intro j out op dp B hm hi hB hts
  have hlt:j<ts.length:=by omega
  obtain⟨t,hp,hpm,hd,g1,g2⟩:=dW hlt
  obtain⟨k,out1,e,hk,hl,hr,hc⟩:=hi.opn
  have hj:=hi.step (f:=id) t
  have hn:=ih (j+1) _ _ _ (B+1) (by omega) hj (by omega) hts
  have h0:=hi.d0
  have h1:=hi.d1
  have hol:=hi.len
  have hrow:out1[k]?=some (out1.getD k []):=by rw[Um,T8 hk];rfl
  have hrl:(out1.getD k []).length<=B:=hr _ (by rw[Um,T8 hk];exact Vk hk)
  have b1:(out1.getD k []).length+1<=4294967296:=by omega
  have b2:out.length+1<=4294967296:=by omega
  have b3:(0:Int)<=(k:Int)/\(k:Int)<(out1.length:Int):=by omega
  have hsl:((out1.map some).set k none).length=out1.length:=by simp
  have g3:(0:Int)<=(j:Int)/\(j:Int)<(ts.length:Int):=⟨g2,g1⟩
  have wd:IntKind.i64.wrap (dp+1)=dp+1:=c6 (by omega) (by omega)
  have wd2:IntKind.i64.wrap (dp-1)=dp-1:=c6 (by omega) (by omega)
  have x1:(TZ #[123])=oB:=rfl
  have x2:(TZ #[125])=cB:=rfl
  have x3:(TZ #[59])=sB:=rfl
  have hs:cW id (out,op,dp) t=(out1.set k (out1.getD k []++[t]),nxt t (k:Int) dp):=by
   unfold cW;simp only[e,TW];rfl
  rw[hd,Va,hs]
  rw[hs]at hn
  rw[md]
  have hop:((op<0)=True/\out++[[]]=out1/\(out.length:Int)=k)\/(((k:Int)<0)=False/\op=(k:Int)/\out=out1):=by
   rcases hc with⟨a,b,c⟩|⟨a,b⟩
   ·exact .inl ⟨by rw[a];simp,b,c⟩
   ·exact .inr ⟨by simp,a,b⟩
  by_cases c1:t=oB
  ·have hx:nxt t (k:Int) dp=((k:Int),dp+1):=by rw[nxt,XG c1]
   rw[hx]at hn⊢
   rcases hop with⟨a,b,c⟩|⟨a,b,c⟩<;>(simp only[a,b,c,TR,TU,T2,XC,XD,TT,T0,TW,TX,XH,XE,T3,hlt,g3,XI,XJ,hp,and_self,b2,b3,hrow,T5,b1,hsl,ea _ _ hk,cY,x1,aI,c1,wd,aX (a:=j) (by omega)];rw[c1]at hn;exact hn)
  ·by_cases c2:t=cB
   ·have hx:nxt t (k:Int) dp=((k:Int),max (dp-1) 0):=by rw[nxt,XF c1,XG c2]
    rw[hx]at hn⊢
    by_cases hd0:dp>0
    ·have hmx:max (dp-1) 0=dp-1:=by omega
     rw[hmx]at hn⊢
     rw[c2]at hn
     rcases hop with⟨a,b,c⟩|⟨a,b,c⟩<;>(simp only[a,b,c,TR,TU,T2,XC,XD,TT,T0,TW,TX,XH,XE,T3,hlt,g3,XI,XJ,hp,and_self,b2,b3,hrow,T5,b1,hsl,ea _ _ hk,cY,x1,x2,x3,aI,c2,oc,hd0,wd2,aX (a:=j) (by omega)];exact hn)
    ·have hmx:max (dp-1) 0=dp:=by omega
     rw[hmx]at hn⊢
     rw[c2]at hn
     have cs:¬cB=sB:=λh=>sc h.symm
     rcases hop with⟨a,b,c⟩|⟨a,b,c⟩<;>(simp only[a,b,c,TR,TU,T2,XC,XD,TT,T0,TW,TX,XH,XE,T3,hlt,g3,XI,XJ,hp,and_self,b2,b3,hrow,T5,b1,hsl,ea _ _ hk,cY,x1,x2,x3,aI,c2,oc,cs,hd0,wd2,aX (a:=j) (by omega)];exact hn)
   ·by_cases c3:t=sB
    ·by_cases hd0:dp=0
     ·have hx:nxt t (k:Int) dp=(-1,dp):=by rw[nxt,XF c1,XF c2,XG c3,XG hd0]
      rw[hx]at hn⊢
      rw[c3,hd0]at hn
      rcases hop with⟨a,b,c⟩|⟨a,b,c⟩<;>(simp only[a,b,c,TR,TU,T2,XC,XD,TT,T0,TW,TX,XH,XE,T3,hlt,g3,XI,XJ,hp,and_self,b2,b3,hrow,T5,b1,hsl,ea _ _ hk,cY,x1,x2,x3,aI,c3,so,sc,hd0,beq_self_eq_true,aX (a:=j) (by omega)];exact hn)
     ·have hx:nxt t (k:Int) dp=((k:Int),dp):=by rw[nxt,XF c1,XF c2,XG c3,XF hd0]
      rw[hx]at hn⊢
      rw[c3]at hn
      have hd1:(dp==0)=false:=beq_eq_false_iff_ne.2 hd0
      rcases hop with⟨a,b,c⟩|⟨a,b,c⟩<;>(simp only[a,b,c,TR,TU,XC,XD,TT,TW,TX,T3,hlt,g3,XI,XJ,hp,and_self,b2,b3,hrow,T5,b1,hsl,ea _ _ hk,cY,x1,x2,x3,aI,c3,so,sc,hd1,aX (a:=j) (by omega)];exact hn)
    ·have hx:nxt t (k:Int) dp=((k:Int),dp):=by rw[nxt,XF c1,XF c2,XF c3]
     rw[hx]at hn⊢
     rcases hop with⟨a,b,c⟩|⟨a,b,c⟩<;>(simp only[a,b,c,TR,TU,T2,XC,XD,TT,T0,TW,TX,XH,XE,T3,hlt,g3,XI,XJ,hp,and_self,b2,b3,hrow,T5,b1,hsl,ea _ _ hk,cY,x1,x2,x3,aI,c1,c2,c3,aX (a:=j) (by omega)];exact hn)
end Go.Proofs.YtpelkenpapfadaaGreatDoor
end
