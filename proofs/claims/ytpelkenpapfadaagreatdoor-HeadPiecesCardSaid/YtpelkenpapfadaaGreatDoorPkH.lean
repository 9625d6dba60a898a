/-
  Texts of this claim, joined by a program of mine: what the theorem uses.
-/
import Derived.Test.YtpelkenpapfadaaGreatDoorPkE
import Derived.Test.YtpelkenpapfadaaGreatDoorPkC
import Derived.Test.YtpelkenpapfadaaGreatDoorPkG
import Derived.Lib.RuneCountTail
open Array renaming length_toList→Vj,toList_inj→VO
open Bool renaming and_eq_true→Uk,and_false→Wt,and_true→Wl,false_and→Vx,false_eq_true→TZ,false_ne_true→Up,false_or→UD,or_eq_false_iff→UY,or_true→Ve,true_and→Vg,true_eq_false→T6,true_or→UJ
open ByteArray renaming mk→T3
open ByteArray.toList renaming loop→WN
open Int renaming natCast_nonneg→T2,ofNat_lt→T9,toNat→U6,toNat_natCast→T1,toNat_zero→Vs
open List renaming append_assoc→UQ,append_nil→U0,cons_append→Ut,count_append→WG,count_cons_self→Xs,count_eq_zero→Wm,drop_append→Xd,drop_drop→VY,drop_eq_getElem_cons→VC,drop_eq_nil_of_le→Vz,drop_zero→UT,foldl_cons→Vd,foldl_nil→WF,getD_eq_getElem?_getD→Uu,getElem?_append_right→Uz,getElem?_eq_getElem→Ub,getElem?_eq_none→VX,getElem?_set→Vl,getElem?_set_self→WH,getElem_mem→Vt,length_append→Uh,length_cons→Ui,length_drop→UV,length_map→Ug,length_nil→Uw,length_replicate→WM,length_set→Vk,length_singleton→T_,map→VI,map_cons→Uj,map_nil→UM,map_set→Wh,map_singleton→WD,mem_append→Ur,mem_cons→Um,mem_cons_of_mem→Ua,mem_cons_self→Uf,mem_or_eq_of_mem_set→VB,mem_singleton→UX,nil_append→UN,replicate→U5,set_append_right→Wq,set_cons_zero→W1,set_set→W_,singleton_append→WL,takeWhile_cons→Vv,takeWhile_nil→V5,take_add_one→VK,take_append_of_le_length→WT,take_of_length_le→UP,take_succ_cons→Xu,take_zero→V2
open Nat renaming add_assoc→Vh,add_sub_cancel→WZ,add_zero→UF,le_refl→Us,zero_add→UK
open Ne renaming symm→UG
open Option renaming bind_eq_bind→TY,bind_none→T8,bind_some→T0
open Sum renaming inl→UR,inr→UW
open UInt8 renaming toNat_inj→Xh
noncomputable section
set_option linter.unusedVariables false
set_option linter.unusedSimpArgs false
section
namespace Go.Proofs.YtpelkenpapfadaaGreatDoor
open Go.Awp Go.Tx
open IntKind (i64)
open Go.Proofs.Tryz (prog)
set_option maxHeartbeats 4000000
set_option maxRecDepth 100000
def rH:Cut SN:=⟨[(0, .vh 100000),(1, .dat (.int .i64)),(2, .dat .str),(6, .bp 6 0),(8, .dat (.int .i64))],[(100000, .vec 44 (.st .itemT)),(6, .st .itemT)]⟩
def AM:Cut SN:=⟨[(0, .vh 100000),(1, .dat (.int .i64)),(2, .dat .str),(6, .bp 6 0),(8, .dat (.int .i64)),(30, .dat .bool)],[(100000, .vec 44 (.st .itemT)),(6, .st .itemT)]⟩
def AL:Cut SN:=⟨[(0, .vh 100000),(6, .bp 6 0)],[(100000, .vec 44 (.st .itemT)),(6, .st .itemT)]⟩
def FW:ax vw:=shL [(0,AL)] lD
def CB:Sig vw:={params:=[.vh 100000, .dat (.int .i64), .dat .str],objs:=[(100000, .vec 44 (.st .itemT))],rcut:=lD,rvars:=[.cell 6 44, .tmp 7],keep:=[100000]}
noncomputable def cL(v:Int×ByteArray×Int×(List Item)×Item×Unit):Option (((Bool×(List Item)×Item×Unit)⊕((List Item)×Item×Unit))):=if decide (v.2.2.1<(↑v.2.2.2.1.length:Int))=true then(if 0<=v.2.2.1/\v.2.2.1<(↑v.2.2.2.1.length:Int)then v.2.2.2.1[v.2.2.1.toNat]?>>=λx1=>if(x1.kind==v.1)=true then if 0<=v.2.2.1/\v.2.2.1<(↑v.2.2.2.1.length:Int)then v.2.2.2.1[v.2.2.1.toNat]?>>=λx2=>some ((v.1,v.2.1,v.2.2.1,x2.name0.toList==v.2.1.toList,v.2.2.2.1,v.2.2.2.2.1,()))else none else some ((v.1,v.2.1,v.2.2.1,false,v.2.2.2.1,v.2.2.2.2.1,()))else none)>>=λx1=>if x1.2.2.2.1=true then if 0<=x1.2.2.1/\x1.2.2.1<(↑x1.2.2.2.2.1.length:Int)then x1.2.2.2.2.1[x1.2.2.1.toNat]?>>=λx2=>some (UR (true,x1.2.2.2.2.1,x2,()))else none else cL (x1.1,x1.2.1,i64.wrap (x1.2.2.1+1),x1.2.2.2.2.1,x1.2.2.2.2.2.1,())else some (UW (v.2.2.2.1,v.2.2.2.2.1,())) partial_fixpoint
noncomputable def fP(v:Int×ByteArray×(List Item)×Unit):Option (Bool×(List Item)×Item×Unit):=cL (v.1,v.2.1,(0:Int),v.2.2.1,Item.mk 0 (T3 #[]) (0:Int) [] (aa.mk 0 0 false []),())>>=λx1=>match x1 with| .inl y1=>some y1| .inr y1=>some ((false,y1.1,Item.mk 0 (T3 #[]) (0:Int) [] (aa.mk 0 0 false []),()))
def As:Xc vw:=mX prog 36 c0 FW [] [(4,AM)] [(2,⟨rH,[.ret, .exit 0],cL⟩)]
theorem qO:dU As (ai (af Tryz.f48) 0) ⟨rH,[.ret, .exit 0],cL⟩:=lp0 cL.partial_correctness bI
theorem nH:aq prog 48 CB fP:=fn1 As Tryz.func48 bI qO
def eH:Cut SN:=⟨[(0, .bp 100000 0),(1, .dat .bool),(4, .bp 4 0),(5, .bp 5 0),(6, .dat .bool)],[(100000, .box none [.dat (.sl .str), .vh 100001, .dat .bool]),(4, .st .layoutT),(5, .st .layoutT),(100001, .vec 44 (.st .itemT))]⟩
def wZ:Cut SN:=⟨[(0, .bp 100000 0),(1, .dat .bool),(4, .bp 4 0),(5, .bp 5 0),(6, .dat .bool),(7, .dat .str),(8, .dat .bool)],[(100000, .box none [.dat (.sl .str), .vh 100001, .dat .bool]),(4, .st .layoutT),(5, .st .layoutT),(100001, .vec 44 (.st .itemT))]⟩
def w_:Cut SN:=⟨[(0, .bp 100000 0),(1, .dat .bool),(4, .bp 4 0),(5, .bp 5 0),(6, .dat .bool),(7, .dat .str),(8, .dat .bool),(34, .dat .bool)],[(100000, .box none [.dat (.sl .str), .vh 100001, .dat .bool]),(4, .st .layoutT),(5, .st .layoutT),(100001, .vec 44 (.st .itemT))]⟩
def uh:Cut SN:=⟨[(0, .bp 100000 0),(1, .dat .bool),(4, .bp 4 0),(5, .bp 5 0),(6, .dat .bool),(9, .bp 9 0),(10, .dat .bool)],[(100000, .box none [.dat (.sl .str), .vh 100001, .dat .bool]),(4, .st .layoutT),(5, .st .layoutT),(9, .st .itemT),(100001, .vec 44 (.st .itemT))]⟩
def ui:Cut SN:=⟨[(0, .bp 100000 0),(1, .dat .bool),(4, .bp 4 0),(5, .bp 5 0),(6, .dat .bool),(9, .bp 9 0)],[(100000, .box none [.dat (.sl .str), .vh 100001, .dat .bool]),(4, .st .layoutT),(5, .st .layoutT),(9, .st .itemT),(100001, .vec 44 (.st .itemT))]⟩
def uj:Cut SN:=⟨[(0, .bp 100000 0),(1, .dat .bool),(4, .bp 4 0),(5, .bp 5 0),(6, .dat .bool),(12, .dat .bool)],[(100000, .box none [.dat (.sl .str), .vh 100001, .dat .bool]),(4, .st .layoutT),(5, .st .layoutT),(100001, .vec 44 (.st .itemT))]⟩
def uk:Cut SN:=⟨[(0, .bp 100000 0),(4, .bp 4 0),(5, .bp 5 0)],[(100000, .box none [.dat (.sl .str), .vh 100001, .dat .bool]),(4, .st .layoutT),(5, .st .layoutT),(100001, .vec 44 (.st .itemT))]⟩
def rv:Cut SN:=⟨[(0, .bp 100000 0),(4, .bp 4 0)],[(100000, .box none [.dat (.sl .str), .vh 100001, .dat .bool]),(100001, .vec 44 (.st .itemT)),(4, .st .layoutT)]⟩
def Ch:ax vw:=shL [(1,eH)] rv
def yM:Sig vw:={params:=[.bp 100000 0, .dat .bool],objs:=[(100000, .box none [.dat (.sl .str), .vh 100001, .dat .bool]),(100001, .vec 44 (.st .itemT))],rcut:=rv,rvars:=[.cell 4 42],keep:=[100000,100001]}
noncomputable def bv(v:Bool×Bool×(List ByteArray)×Bool×aa×aa×(List Item)×Unit):Option ((Bool×Bool×(List ByteArray)×Bool×aa×aa×(List Item)×Unit)):=dT (T3 #[42],v.2.2.1,v.2.2.2.1,v.2.2.2.2.2.2.1,())>>=λx1=>if x1.2.2.2.1.length=v.2.2.2.2.2.2.1.length then if x1.1=true then bv (v.1,false,x1.2.1,x1.2.2.1,v.2.2.2.2.1,aa.mk 3 0 false [],x1.2.2.2.1,())else some ((v.1,v.2.1,x1.2.1,x1.2.2.1,v.2.2.2.2.1,v.2.2.2.2.2.1,x1.2.2.2.1,()))else none partial_fixpoint
noncomputable def dw(v:Bool×(List ByteArray)×Bool×(List Item)×Unit):Option ((List ByteArray)×Bool×(List Item)×aa×Unit):=cW (v.2.1,v.2.2.1,v.2.2.2.1,())>>=λx1=>if x1.2.2.2.1.length=v.2.2.2.1.length then(if(!!x1.1.toList==(T3 #[117,110,115,105,103,110,101,100]).toList)=true then cW (x1.2.1,x1.2.2.1,x1.2.2.2.1,())>>=λx2=>if x2.2.2.2.1.length=x1.2.2.2.1.length then(if(x2.1.toList==(T3 #[108,111,110,103]).toList)=true then some ((v.1,false,x2.1,!x1.1.toList==(T3 #[117,110,115,105,103,110,101,100]).toList,true,x2.2.1,x2.2.2.1,aa.mk 0 0 false [],aa.mk 0 0 false [],x2.2.2.2.1,()))else if(x2.1.toList==(T3 #[118,111,105,100]).toList)=true then some ((v.1,false,x2.1,!x1.1.toList==(T3 #[117,110,115,105,103,110,101,100]).toList,true,x2.2.1,x2.2.2.1,aa.mk 0 0 false [],aa.mk 0 0 false [],x2.2.2.2.1,()))else if(x2.1.toList==(T3 #[115,116,114,117,99,116]).toList)=true then some ((v.1,false,x2.1,!x1.1.toList==(T3 #[117,110,115,105,103,110,101,100]).toList,true,x2.2.1,x2.2.2.1,aa.mk 0 0 false [],aa.mk 0 0 false [],x2.2.2.2.1,()))else some ((v.1,false,x2.1,!x1.1.toList==(T3 #[117,110,115,105,103,110,101,100]).toList,x2.1.toList==(T3 #[101,110,117,109]).toList,x2.2.1,x2.2.2.1,aa.mk 0 0 false [],aa.mk 0 0 false [],x2.2.2.2.1,())))>>=λx3=>if x3.2.2.2.2.1=true then some ((x3.1,x3.2.1,x3.2.2.1,x3.2.2.2.1,x3.2.2.2.2.2.1,true,x3.2.2.2.2.2.2.2.1,x3.2.2.2.2.2.2.2.2.1,x3.2.2.2.2.2.2.2.2.2.1,()))else some ((x3.1,x3.2.1,x3.2.2.1,x3.2.2.2.1,x3.2.2.2.2.2.1,x3.2.2.2.2.2.2.1,x3.2.2.2.2.2.2.2.1,x3.2.2.2.2.2.2.2.2.1,x3.2.2.2.2.2.2.2.2.2.1,()))else none else some ((v.1,false,x1.1,!x1.1.toList==(T3 #[117,110,115,105,103,110,101,100]).toList,x1.2.1,x1.2.2.1,aa.mk 0 0 false [],aa.mk 0 0 false [],x1.2.2.2.1,())))>>=λx2=>(if(x2.2.2.1.toList==(T3 #[99,104,97,114]).toList)=true then some ((x2.1,x2.2.1,x2.2.2.2.2.1,x2.2.2.2.2.2.1,x2.2.2.2.2.2.2.1,aa.mk 2 8 x2.2.2.2.1 [],x2.2.2.2.2.2.2.2.2.1,()))else if(x2.2.2.1.toList==(T3 #[115,104,111,114,116]).toList)=true then some ((x2.1,x2.2.1,x2.2.2.2.2.1,x2.2.2.2.2.2.1,x2.2.2.2.2.2.2.1,aa.mk 2 16 x2.2.2.2.1 [],x2.2.2.2.2.2.2.2.2.1,()))else if(x2.2.2.1.toList==(T3 #[105,110,116]).toList)=true then some ((x2.1,x2.2.1,x2.2.2.2.2.1,x2.2.2.2.2.2.1,x2.2.2.2.2.2.2.1,aa.mk 2 32 x2.2.2.2.1 [],x2.2.2.2.2.2.2.2.2.1,()))else if(x2.2.2.1.toList==(T3 #[108,111,110,103]).toList)=true then some ((x2.1,x2.2.1,x2.2.2.2.2.1,x2.2.2.2.2.2.1,x2.2.2.2.2.2.2.1,aa.mk 3 0 false [],x2.2.2.2.2.2.2.2.2.1,()))else if(x2.2.2.1.toList==(T3 #[118,111,105,100]).toList)=true then some ((x2.1,true,x2.2.2.2.2.1,x2.2.2.2.2.2.1,x2.2.2.2.2.2.2.1,x2.2.2.2.2.2.2.2.1,x2.2.2.2.2.2.2.2.2.1,()))else if(x2.2.2.1.toList==(T3 #[115,116,114,117,99,116]).toList)=true then(Kv 2 (bO (x2.2.2.2.2.1,x2.2.2.2.2.2.1,x2.2.2.2.2.2.2.2.2.1,())>>=λx3=>if x3.2.2.2.1.length=x2.2.2.2.2.2.2.2.2.1.length then fP ((2:Int),x3.1,x3.2.2.2.1,())>>=λx4=>if x4.2.1.length=x3.2.2.2.1.length then some ((x2.1,x2.2.1,x4.1,x3.2.1,x3.2.2.1,x2.2.2.2.2.2.2.1,x2.2.2.2.2.2.2.2.1,x4.2.2.1,x4.2.1,()))else none else none))>>=λx3=>(if x3.2.2.2.2.1=true then some ((x3.1,x3.2.1,x3.2.2.2.1,true,x3.2.2.2.2.2.1,x3.2.2.2.2.2.2.1,x3.2.2.2.2.2.2.2.1,x3.2.2.2.2.2.2.2.2.1,()))else some ((x3.1,x3.2.1,x3.2.2.2.1,!x3.2.2.1,x3.2.2.2.2.2.1,x3.2.2.2.2.2.2.1,x3.2.2.2.2.2.2.2.1,x3.2.2.2.2.2.2.2.2.1,())))>>=λx4=>some ((x4.1,x4.2.1,x4.2.2.1,x4.2.2.2.1,x4.2.2.2.2.1,aa.mk x4.2.2.2.2.2.2.1.layout.kind x4.2.2.2.2.2.2.1.layout.n x4.2.2.2.2.2.2.1.layout.flag x4.2.2.2.2.2.2.1.layout.parts,x4.2.2.2.2.2.2.2.1,()))else if(x2.2.2.1.toList==(T3 #[101,110,117,109]).toList)=true then(Kv 2 (bO (x2.2.2.2.2.1,x2.2.2.2.2.2.1,x2.2.2.2.2.2.2.2.2.1,())>>=λx3=>if x3.2.2.2.1.length=x2.2.2.2.2.2.2.2.2.1.length then fP ((1:Int),x3.1,x3.2.2.2.1,())>>=λx4=>if x4.2.1.length=x3.2.2.2.1.length then some ((x2.1,x2.2.1,x4.1,x3.2.1,x3.2.2.1,x2.2.2.2.2.2.2.1,x2.2.2.2.2.2.2.2.1,x4.2.1,()))else none else none))>>=λx3=>(if x3.2.2.2.2.1=true then some ((x3.1,x3.2.1,x3.2.2.2.1,true,x3.2.2.2.2.2.1,x3.2.2.2.2.2.2.1,x3.2.2.2.2.2.2.2.1,()))else some ((x3.1,x3.2.1,x3.2.2.2.1,!x3.2.2.1,x3.2.2.2.2.2.1,x3.2.2.2.2.2.2.1,x3.2.2.2.2.2.2.2.1,())))>>=λx4=>some ((x4.1,x4.2.1,x4.2.2.1,x4.2.2.2.1,x4.2.2.2.2.1,aa.mk 2 32 true [],x4.2.2.2.2.2.2.1,()))else some ((x2.1,x2.2.1,x2.2.2.2.2.1,true,x2.2.2.2.2.2.2.1,x2.2.2.2.2.2.2.2.1,x2.2.2.2.2.2.2.2.2.1,())))>>=λx3=>bv (x3.1,x3.2.1,x3.2.2.1,x3.2.2.2.1,x3.2.2.2.2.1,x3.2.2.2.2.2.1,x3.2.2.2.2.2.2.1,())>>=λx4=>(if x4.2.2.2.1=true then some ((x4.2.2.1,true,x4.2.2.2.2.1,x4.2.2.2.2.2.1,x4.2.2.2.2.2.2.1,()))else if x4.2.1=true then some ((x4.2.2.1,!x4.1,x4.2.2.2.2.1,x4.2.2.2.2.2.1,x4.2.2.2.2.2.2.1,()))else some ((x4.2.2.1,false,x4.2.2.2.2.1,x4.2.2.2.2.2.1,x4.2.2.2.2.2.2.1,())))>>=λx5=>some ((x5.1,x5.2.1,x5.2.2.2.2.1,x5.2.2.2.1,()))else none
def i8:=kO nH (kO d9 (kO d_ (kO dx k0)))
def wx:Xc vw:={P:=prog,n:=126,call:=i8.1,pre:=kp,sh:=Ch,joins:=λk=>match k with|9=>some (wZ,[.norm])|29=>some (eH,[.norm])|_=>none,regs:=λk=>match k with|7=>some w_|22=>some uh|23=>some ui|26=>some uj|27=>some eH|32=>some uk|_=>none,loops:=λk=>match k with|29=>some {cut:=eH,alts:=[.exit 1],F:=bv}|_=>none,pair:=λk=>match k with|22=>(.node 3 4 .leaf (.node 4 5 .leaf .leaf))|26=>(.node 3 4 .leaf (.node 4 5 .leaf .leaf))|_=> .leaf}
theorem n6:dU wx (ai (af Tryz.f137) 0) ⟨eH,[.exit 1],bv⟩:=lp0 bv.partial_correctness i8.2
theorem lT:aq prog 137 yM dw:=fn1 wx Tryz.func137 i8.2 n6
def ud:Cut SN:=⟨[(0, .bp 100000 0),(2, .bp 2 0),(3, .bp 3 0),(4, .bp 4 0)],[(100000, .box none [.dat (.sl .str), .vh 100001, .dat .bool]),(2, .st .itemT),(3, .box none [.dat (.int .i64), .dat .str, .dat (.int .i64), .vh 3033, .dat (.int .i64), .dat (.int .i64), .dat .bool, .vh 3037]),(4, .st .layoutT),(100001, .vec 44 (.st .itemT)),(3033, .vec 9 .str),(3037, .vec 42 (.st .layoutT))]⟩
def wM:Cut SN:=⟨[(0, .bp 100000 0),(2, .bp 2 0),(3, .bp 3 0),(29, .dat .bool)],[(100000, .box none [.dat (.sl .str), .vh 100001, .dat .bool]),(2, .st .itemT),(3, .box none [.dat (.int .i64), .dat .str, .dat (.int .i64), .vh 3033, .dat (.int .i64), .dat (.int .i64), .dat .bool, .vh 3037]),(100001, .vec 44 (.st .itemT)),(3033, .vec 9 .str),(3037, .vec 42 (.st .layoutT))]⟩
def wN:Cut SN:=⟨[(0, .bp 100000 0),(2, .bp 2 0),(3, .bp 3 0),(4, .bp 4 0),(5, .dat (.int .i64))],[(100000, .box none [.dat (.sl .str), .vh 100001, .dat .bool]),(2, .st .itemT),(3, .box none [.dat (.int .i64), .dat .str, .dat (.int .i64), .vh 3033, .dat (.int .i64), .dat (.int .i64), .dat .bool, .vh 3037]),(4, .st .layoutT),(100001, .vec 44 (.st .itemT)),(3033, .vec 9 .str),(3037, .vec 42 (.st .layoutT))]⟩
def B6:ax vw:=shL [(0,dg)] dN
def yt:Nat->Bool:=λk=>match k with|135=>true|_=>false
def yE:Sig vw:={params:=[.bp 100000 0],objs:=[(100000, .box none [.dat (.sl .str), .vh 100001, .dat .bool]),(100001, .vec 44 (.st .itemT))],rcut:=dN,rvars:=[.cell 2 44],keep:=[100000,100001]}
noncomputable def aS(v:(List ByteArray)×Bool×Item×Int×ByteArray×Int×Int×Int×Bool×(List Item)×(List ByteArray)×(List aa)×Unit):Option (((List ByteArray)×Bool×Item×Int×ByteArray×Int×Int×Int×Bool×(List Item)×(List ByteArray)×(List aa)×Unit)):=(if(!v.2.1)=true then if((↑v.2.2.2.2.2.2.2.2.2.2.1.length:Int)==0)=true then some ((true,v.1,v.2.1,v.2.2.1,v.2.2.2.1,v.2.2.2.2.1,v.2.2.2.2.2.1,v.2.2.2.2.2.2.1,v.2.2.2.2.2.2.2.1,v.2.2.2.2.2.2.2.2.1,v.2.2.2.2.2.2.2.2.2.1,v.2.2.2.2.2.2.2.2.2.2.1,v.2.2.2.2.2.2.2.2.2.2.2.1,()))else ez (v.1,v.2.1,v.2.2.2.2.2.2.2.2.2.1,())>>=λx1=>if x1.2.2.2.1.length=v.2.2.2.2.2.2.2.2.2.1.length then some ((!x1.1.toList==(T3 #[125]).toList,x1.2.1,x1.2.2.1,v.2.2.1,v.2.2.2.1,v.2.2.2.2.1,v.2.2.2.2.2.1,v.2.2.2.2.2.2.1,v.2.2.2.2.2.2.2.1,v.2.2.2.2.2.2.2.2.1,x1.2.2.2.1,v.2.2.2.2.2.2.2.2.2.2.1,v.2.2.2.2.2.2.2.2.2.2.2.1,()))else none else some ((false,v.1,v.2.1,v.2.2.1,v.2.2.2.1,v.2.2.2.2.1,v.2.2.2.2.2.1,v.2.2.2.2.2.2.1,v.2.2.2.2.2.2.2.1,v.2.2.2.2.2.2.2.2.1,v.2.2.2.2.2.2.2.2.2.1,v.2.2.2.2.2.2.2.2.2.2.1,v.2.2.2.2.2.2.2.2.2.2.2.1,())))>>=λx1=>if x1.1=true then dw (false,x1.2.1,x1.2.2.1,x1.2.2.2.2.2.2.2.2.2.2.1,())>>=λx2=>if x2.2.2.1.length=x1.2.2.2.2.2.2.2.2.2.2.1.length then bO (x2.1,x2.2.1,x2.2.2.1,())>>=λx3=>if x3.2.2.2.1.length=x2.2.2.1.length then if x1.2.2.2.2.2.2.2.2.2.2.2.1.length+[x3.1].length<=4294967296 then(dT (T3 #[91],x3.2.1,x3.2.2.1,x3.2.2.2.1,())>>=λx4=>if x4.2.2.2.1.length=x3.2.2.2.1.length then if x4.1=true then gP (x4.2.1,x4.2.2.1,x4.2.2.2.1,())>>=λx5=>if x5.2.2.2.1.length=x4.2.2.2.1.length then(if x5.2.2.1=true then some ((x5.1,x5.2.1,true,x1.2.2.2.1,x1.2.2.2.2.1,x1.2.2.2.2.2.1,x1.2.2.2.2.2.2.1,x1.2.2.2.2.2.2.2.1,x1.2.2.2.2.2.2.2.2.1,x1.2.2.2.2.2.2.2.2.2.1,x2.2.2.2.1,x5.2.2.2.1,x1.2.2.2.2.2.2.2.2.2.2.2.1++[x3.1],x1.2.2.2.2.2.2.2.2.2.2.2.2.1,()))else if decide (x5.1<1)=true then some ((x5.1,x5.2.1,true,x1.2.2.2.1,x1.2.2.2.2.1,x1.2.2.2.2.2.1,x1.2.2.2.2.2.2.1,x1.2.2.2.2.2.2.2.1,x1.2.2.2.2.2.2.2.2.1,x1.2.2.2.2.2.2.2.2.2.1,x2.2.2.2.1,x5.2.2.2.1,x1.2.2.2.2.2.2.2.2.2.2.2.1++[x3.1],x1.2.2.2.2.2.2.2.2.2.2.2.2.1,()))else some ((x5.1,x5.2.1,decide (x5.1>1000),x1.2.2.2.1,x1.2.2.2.2.1,x1.2.2.2.2.2.1,x1.2.2.2.2.2.2.1,x1.2.2.2.2.2.2.2.1,x1.2.2.2.2.2.2.2.2.1,x1.2.2.2.2.2.2.2.2.2.1,x2.2.2.2.1,x5.2.2.2.1,x1.2.2.2.2.2.2.2.2.2.2.2.1++[x3.1],x1.2.2.2.2.2.2.2.2.2.2.2.2.1,())))>>=λx6=>aQ (T3 #[93],x6.2.1,x6.2.2.1,x6.2.2.2.2.2.2.2.2.2.2.2.1,())>>=λx7=>if x7.2.2.1.length=x6.2.2.2.2.2.2.2.2.2.2.2.1.length then some ((x7.1,x7.2.1,x6.2.2.2.1,x6.2.2.2.2.1,x6.2.2.2.2.2.1,x6.2.2.2.2.2.2.1,x6.2.2.2.2.2.2.2.1,x6.2.2.2.2.2.2.2.2.1,x6.2.2.2.2.2.2.2.2.2.1,aa.mk 5 x6.1 false [x6.2.2.2.2.2.2.2.2.2.2.1],x7.2.2.1,x6.2.2.2.2.2.2.2.2.2.2.2.2.1,x6.2.2.2.2.2.2.2.2.2.2.2.2.2.1,()))else none else none else some ((x4.2.1,x4.2.2.1,x1.2.2.2.1,x1.2.2.2.2.1,x1.2.2.2.2.2.1,x1.2.2.2.2.2.2.1,x1.2.2.2.2.2.2.2.1,x1.2.2.2.2.2.2.2.2.1,x1.2.2.2.2.2.2.2.2.2.1,x2.2.2.2.1,x4.2.2.2.1,x1.2.2.2.2.2.2.2.2.2.2.2.1++[x3.1],x1.2.2.2.2.2.2.2.2.2.2.2.2.1,()))else none)>>=λx4=>aQ (T3 #[59],x4.1,x4.2.1,x4.2.2.2.2.2.2.2.2.2.2.1,())>>=λx5=>if x5.2.2.1.length=x4.2.2.2.2.2.2.2.2.2.2.1.length then if x4.2.2.2.2.2.2.2.2.2.2.2.2.1.length+[x4.2.2.2.2.2.2.2.2.2.1].length<=4294967296 then aS (x5.1,x5.2.1,x4.2.2.1,x4.2.2.2.1,x4.2.2.2.2.1,x4.2.2.2.2.2.1,x4.2.2.2.2.2.2.1,x4.2.2.2.2.2.2.2.1,x4.2.2.2.2.2.2.2.2.1,x5.2.2.1,x4.2.2.2.2.2.2.2.2.2.2.2.1,x4.2.2.2.2.2.2.2.2.2.2.2.2.1++[x4.2.2.2.2.2.2.2.2.2.1],())else none else none else none else none else none else some ((x1.2.1,x1.2.2.1,x1.2.2.2.1,x1.2.2.2.2.1,x1.2.2.2.2.2.1,x1.2.2.2.2.2.2.1,x1.2.2.2.2.2.2.2.1,x1.2.2.2.2.2.2.2.2.1,x1.2.2.2.2.2.2.2.2.2.1,x1.2.2.2.2.2.2.2.2.2.2.1,x1.2.2.2.2.2.2.2.2.2.2.2.1,x1.2.2.2.2.2.2.2.2.2.2.2.2.1,())) partial_fixpoint
noncomputable def gO(v:(List ByteArray)×Bool×(List Item)×Unit):Option ((List ByteArray)×Bool×(List Item)×Item×Unit):=aQ (T3 #[115,116,114,117,99,116],v.1,v.2.1,v.2.2.1,())>>=λx1=>if x1.2.2.1.length=v.2.2.1.length then(bO (x1.1,x1.2.1,x1.2.2.1,())>>=λx2=>if x2.2.2.2.1.length=x1.2.2.1.length then some ((x2.2.1,x2.2.2.1,Item.mk 0 (T3 #[]) (0:Int) [] (aa.mk 0 0 false []),(2:Int),x2.1,(0:Int),(6:Int),(0:Int),false,x2.2.2.2.1,[],[],()))else none)>>=λx2=>aQ (T3 #[123],x2.1,x2.2.1,x2.2.2.2.2.2.2.2.2.2.1,())>>=λx3=>if x3.2.2.1.length=x2.2.2.2.2.2.2.2.2.2.1.length then aS (x3.1,x3.2.1,x2.2.2.1,x2.2.2.2.1,x2.2.2.2.2.1,x2.2.2.2.2.2.1,x2.2.2.2.2.2.2.1,x2.2.2.2.2.2.2.2.1,x2.2.2.2.2.2.2.2.2.1,x3.2.2.1,x2.2.2.2.2.2.2.2.2.2.2.1,x2.2.2.2.2.2.2.2.2.2.2.2.1,())>>=λx4=>aQ (T3 #[125],x4.1,x4.2.1,x4.2.2.2.2.2.2.2.2.2.1,())>>=λx5=>if x5.2.2.1.length=x4.2.2.2.2.2.2.2.2.2.1.length then aQ (T3 #[59],x5.1,x5.2.1,x5.2.2.1,())>>=λx6=>if x6.2.2.1.length=x5.2.2.1.length then fu (x4.2.2.2.2.2.2.2.2.2.2.1,x6.1,x6.2.1,x6.2.2.1,())>>=λx7=>if x7.2.2.1.length=x6.2.2.1.length then some ((x7.1,x7.2.1,x7.2.2.1,Item.mk x4.2.2.2.1 x4.2.2.2.2.1 x4.2.2.2.2.2.1 x4.2.2.2.2.2.2.2.2.2.2.1 (aa.mk x4.2.2.2.2.2.2.1 x4.2.2.2.2.2.2.2.1 x4.2.2.2.2.2.2.2.2.1 x4.2.2.2.2.2.2.2.2.2.2.2.1),()))else none else none else none else none else none
def iX:=kO fc (kO d9 (kO d_ (kO lS (kO im (kO io (kO lT k0))))))
def wo:Xc vw:={P:=prog,n:=83,nm:=λd=>match d with|10=>40010|11=>40011|_=>d,call:=iX.1,pre:=yt,sh:=B6,joins:=λk=>match k with|12=>some (ud,[.norm])|_=>none,regs:=λk=>match k with|2=>some dg|4=>some wM|9=>some wN|_=>none,loops:=λk=>match k with|4=>some {cut:=dg,alts:=[.exit 0],F:=aS}|_=>none}
theorem pA:dU wo (ai (af Tryz.f103) 0) ⟨dg,[.exit 0],aS⟩:=lp0 aS.partial_correctness iX.2
theorem sZ:aq prog 103 yE gO:=fn1 wo Tryz.func103 iX.2 pA
def oK:Cut SN:=⟨[(0, .bp 100000 0),(2, .bp 2 0),(3, .bp 3 0),(4, .bp 4 0),(5, .dat .bool)],[(100000, .box none [.dat (.sl .str), .vh 100001, .dat .bool]),(2, .st .itemT),(3, .st .layoutT),(4, .box none [.dat (.int .i64), .dat .str, .dat (.int .i64), .vh 3043, .dat (.int .i64), .dat (.int .i64), .dat .bool, .vh 3047]),(100001, .vec 44 (.st .itemT)),(3043, .vec 9 .str),(3047, .vec 42 (.st .layoutT))]⟩
def iV:Cut SN:=⟨[(0, .bp 100000 0),(2, .bp 2 0),(3, .bp 3 0),(4, .bp 4 0)],[(100000, .box none [.dat (.sl .str), .vh 100001, .dat .bool]),(2, .st .itemT),(3, .st .layoutT),(4, .box none [.dat (.int .i64), .dat .str, .dat (.int .i64), .vh 3043, .dat (.int .i64), .dat (.int .i64), .dat .bool, .vh 3047]),(100001, .vec 44 (.st .itemT)),(3043, .vec 9 .str),(3047, .vec 42 (.st .layoutT))]⟩
def wO:Cut SN:=⟨[(0, .bp 100000 0),(2, .bp 2 0),(3, .bp 3 0),(4, .bp 4 0),(37, .dat .bool)],[(100000, .box none [.dat (.sl .str), .vh 100001, .dat .bool]),(2, .st .itemT),(3, .st .layoutT),(4, .box none [.dat (.int .i64), .dat .str, .dat (.int .i64), .vh 3043, .dat (.int .i64), .dat (.int .i64), .dat .bool, .vh 3047]),(100001, .vec 44 (.st .itemT)),(3043, .vec 9 .str),(3047, .vec 42 (.st .layoutT))]⟩
def wP:Cut SN:=⟨[(0, .bp 100000 0),(2, .bp 2 0),(3, .bp 3 0),(4, .bp 4 0),(47, .dat .bool)],[(100000, .box none [.dat (.sl .str), .vh 100001, .dat .bool]),(2, .st .itemT),(3, .st .layoutT),(4, .box none [.dat (.int .i64), .dat .str, .dat (.int .i64), .vh 3043, .dat (.int .i64), .dat (.int .i64), .dat .bool, .vh 3047]),(100001, .vec 44 (.st .itemT)),(3043, .vec 9 .str),(3047, .vec 42 (.st .layoutT))]⟩
def B7:ax vw:=shL [(0,iV)] dN
def yu:Nat->Bool:=λk=>match k with|135=>true|_=>false
def yF:Sig vw:={params:=[.bp 100000 0],objs:=[(100000, .box none [.dat (.sl .str), .vh 100001, .dat .bool]),(100001, .vec 44 (.st .itemT))],rcut:=dN,rvars:=[.cell 2 44],keep:=[100000,100001]}
noncomputable def bA(v:Bool×(List ByteArray)×Bool×Item×aa×Int×ByteArray×Int×Int×Int×Bool×(List Item)×(List ByteArray)×(List aa)×Unit):Option (((List ByteArray)×Bool×Item×aa×Int×ByteArray×Int×Int×Int×Bool×(List Item)×(List ByteArray)×(List aa)×Unit)):=(if v.1=true then some ((!v.2.2.1,v.2.1,v.2.2.1,v.2.2.2.1,v.2.2.2.2.1,v.2.2.2.2.2.1,v.2.2.2.2.2.2.1,v.2.2.2.2.2.2.2.1,v.2.2.2.2.2.2.2.2.1,v.2.2.2.2.2.2.2.2.2.1,v.2.2.2.2.2.2.2.2.2.2.1,v.2.2.2.2.2.2.2.2.2.2.2.1,v.2.2.2.2.2.2.2.2.2.2.2.2.1,v.2.2.2.2.2.2.2.2.2.2.2.2.2.1,()))else some ((false,v.2.1,v.2.2.1,v.2.2.2.1,v.2.2.2.2.1,v.2.2.2.2.2.1,v.2.2.2.2.2.2.1,v.2.2.2.2.2.2.2.1,v.2.2.2.2.2.2.2.2.1,v.2.2.2.2.2.2.2.2.2.1,v.2.2.2.2.2.2.2.2.2.2.1,v.2.2.2.2.2.2.2.2.2.2.2.1,v.2.2.2.2.2.2.2.2.2.2.2.2.1,v.2.2.2.2.2.2.2.2.2.2.2.2.2.1,())))>>=λx1=>if x1.1=true then dw (false,x1.2.1,x1.2.2.1,x1.2.2.2.2.2.2.2.2.2.2.2.1,())>>=λx2=>if x2.2.2.1.length=x1.2.2.2.2.2.2.2.2.2.2.2.1.length then if x1.2.2.2.2.2.2.2.2.2.2.2.2.2.1.length+[x2.2.2.2.1].length<=4294967296 then bO (x2.1,x2.2.1,x2.2.2.1,())>>=λx3=>if x3.2.2.2.1.length=x2.2.2.1.length then if x1.2.2.2.2.2.2.2.2.2.2.2.2.1.length+[x3.1].length<=4294967296 then dT (T3 #[44],x3.2.1,x3.2.2.1,x3.2.2.2.1,())>>=λx4=>if x4.2.2.2.1.length=x3.2.2.2.1.length then bA (x4.1,x4.2.1,x4.2.2.1,x1.2.2.2.1,x1.2.2.2.2.1,x1.2.2.2.2.2.1,x1.2.2.2.2.2.2.1,x1.2.2.2.2.2.2.2.1,x1.2.2.2.2.2.2.2.2.1,x1.2.2.2.2.2.2.2.2.2.1,x1.2.2.2.2.2.2.2.2.2.2.1,x4.2.2.2.1,x1.2.2.2.2.2.2.2.2.2.2.2.2.1++[x3.1],x1.2.2.2.2.2.2.2.2.2.2.2.2.2.1++[x2.2.2.2.1],())else none else none else none else none else none else some ((x1.2.1,x1.2.2.1,x1.2.2.2.1,x1.2.2.2.2.1,x1.2.2.2.2.2.1,x1.2.2.2.2.2.2.1,x1.2.2.2.2.2.2.2.1,x1.2.2.2.2.2.2.2.2.1,x1.2.2.2.2.2.2.2.2.2.1,x1.2.2.2.2.2.2.2.2.2.2.1,x1.2.2.2.2.2.2.2.2.2.2.2.1,x1.2.2.2.2.2.2.2.2.2.2.2.2.1,x1.2.2.2.2.2.2.2.2.2.2.2.2.2.1,())) partial_fixpoint
noncomputable def ew(v:(List ByteArray)×Bool×(List Item)×Unit):Option ((List ByteArray)×Bool×(List Item)×Item×Unit):=dw (true,v.1,v.2.1,v.2.2.1,())>>=λx1=>if x1.2.2.1.length=v.2.2.1.length then(bO (x1.1,x1.2.1,x1.2.2.1,())>>=λx2=>if x2.2.2.2.1.length=x1.2.2.1.length then some ((x2.2.1,x2.2.2.1,Item.mk 0 (T3 #[]) (0:Int) [] (aa.mk 0 0 false []),x1.2.2.2.1,(3:Int),x2.1,(0:Int),(6:Int),(0:Int),false,x2.2.2.2.1,[],[],()))else none)>>=λx2=>aQ (T3 #[40],x2.1,x2.2.1,x2.2.2.2.2.2.2.2.2.2.2.1,())>>=λx3=>if x3.2.2.1.length=x2.2.2.2.2.2.2.2.2.2.2.1.length then((if decide ((↑x3.1.length:Int)>1)=true then x3.1[U6 0]?>>=λx4=>if(x4.toList==(T3 #[118,111,105,100]).toList)=true then x3.1[U6 1]?>>=λx5=>some ((x5.toList==(T3 #[41]).toList,x3.1,x3.2.1,x2.2.2.1,x2.2.2.2.1,x2.2.2.2.2.1,x2.2.2.2.2.2.1,x2.2.2.2.2.2.2.1,x2.2.2.2.2.2.2.2.1,x2.2.2.2.2.2.2.2.2.1,x2.2.2.2.2.2.2.2.2.2.1,x3.2.2.1,x2.2.2.2.2.2.2.2.2.2.2.2.1,x2.2.2.2.2.2.2.2.2.2.2.2.2.1,()))else some ((false,x3.1,x3.2.1,x2.2.2.1,x2.2.2.2.1,x2.2.2.2.2.1,x2.2.2.2.2.2.1,x2.2.2.2.2.2.2.1,x2.2.2.2.2.2.2.2.1,x2.2.2.2.2.2.2.2.2.1,x2.2.2.2.2.2.2.2.2.2.1,x3.2.2.1,x2.2.2.2.2.2.2.2.2.2.2.2.1,x2.2.2.2.2.2.2.2.2.2.2.2.2.1,()))else some ((false,x3.1,x3.2.1,x2.2.2.1,x2.2.2.2.1,x2.2.2.2.2.1,x2.2.2.2.2.2.1,x2.2.2.2.2.2.2.1,x2.2.2.2.2.2.2.2.1,x2.2.2.2.2.2.2.2.2.1,x2.2.2.2.2.2.2.2.2.2.1,x3.2.2.1,x2.2.2.2.2.2.2.2.2.2.2.2.1,x2.2.2.2.2.2.2.2.2.2.2.2.2.1,())))>>=λx4=>if x4.1=true then cW (x4.2.1,x4.2.2.1,x4.2.2.2.2.2.2.2.2.2.2.2.1,())>>=λx5=>if x5.2.2.2.1.length=x4.2.2.2.2.2.2.2.2.2.2.2.1.length then some ((x5.2.1,x5.2.2.1,x4.2.2.2.1,x4.2.2.2.2.1,x4.2.2.2.2.2.1,x4.2.2.2.2.2.2.1,x4.2.2.2.2.2.2.2.1,x4.2.2.2.2.2.2.2.2.1,x4.2.2.2.2.2.2.2.2.2.1,x4.2.2.2.2.2.2.2.2.2.2.1,x5.2.2.2.1,x4.2.2.2.2.2.2.2.2.2.2.2.2.1,x4.2.2.2.2.2.2.2.2.2.2.2.2.2.1,()))else none else bA (true,x4.2.1,x4.2.2.1,x4.2.2.2.1,x4.2.2.2.2.1,x4.2.2.2.2.2.1,x4.2.2.2.2.2.2.1,x4.2.2.2.2.2.2.2.1,x4.2.2.2.2.2.2.2.2.1,x4.2.2.2.2.2.2.2.2.2.1,x4.2.2.2.2.2.2.2.2.2.2.1,x4.2.2.2.2.2.2.2.2.2.2.2.1,x4.2.2.2.2.2.2.2.2.2.2.2.2.1,x4.2.2.2.2.2.2.2.2.2.2.2.2.2.1,())>>=λx5=>some ((x5.1,x5.2.1,x5.2.2.1,x5.2.2.2.1,x5.2.2.2.2.1,x5.2.2.2.2.2.1,x5.2.2.2.2.2.2.1,x5.2.2.2.2.2.2.2.1,x5.2.2.2.2.2.2.2.2.1,x5.2.2.2.2.2.2.2.2.2.1,x5.2.2.2.2.2.2.2.2.2.2.1,x5.2.2.2.2.2.2.2.2.2.2.2.1,x5.2.2.2.2.2.2.2.2.2.2.2.2.1,())))>>=λx4=>aQ (T3 #[41],x4.1,x4.2.1,x4.2.2.2.2.2.2.2.2.2.2.1,())>>=λx5=>if x5.2.2.1.length=x4.2.2.2.2.2.2.2.2.2.2.1.length then aQ (T3 #[59],x5.1,x5.2.1,x5.2.2.1,())>>=λx6=>if x6.2.2.1.length=x5.2.2.1.length then fu (x4.2.2.2.2.2.2.2.2.2.2.2.1,x6.1,x6.2.1,x6.2.2.1,())>>=λx7=>if x7.2.2.1.length=x6.2.2.1.length then if x4.2.2.2.2.2.2.2.2.2.2.2.2.1.length+[x4.2.2.2.1].length<=4294967296 then some ((x7.1,x7.2.1,x7.2.2.1,Item.mk x4.2.2.2.2.1 x4.2.2.2.2.2.1 x4.2.2.2.2.2.2.1 x4.2.2.2.2.2.2.2.2.2.2.2.1 (aa.mk x4.2.2.2.2.2.2.2.1 x4.2.2.2.2.2.2.2.2.1 x4.2.2.2.2.2.2.2.2.2.1 (x4.2.2.2.2.2.2.2.2.2.2.2.2.1++[x4.2.2.2.1])),()))else none else none else none else none else none else none
def iY:=kO fc (kO d9 (kO d_ (kO im (kO lT (kO dx k0)))))
def wq:Xc vw:={P:=prog,n:=83,nm:=λd=>match d with|10=>40010|11=>40011|_=>d,call:=iY.1,pre:=yu,sh:=B7,joins:=λk=>match k with|11=>some (iV,[.norm])|_=>none,regs:=λk=>match k with|2=>some iV|4=>some wO|7=>some wP|_=>none,loops:=λk=>match k with|7=>some {cut:=oK,alts:=[.exit 0],F:=bA}|_=>none}
theorem pB:dU wq (ai (af Tryz.f104) 0) ⟨oK,[.exit 0],bA⟩:=lp0 bA.partial_correctness iY.2
theorem s5:aq prog 104 yF ew:=fn1 wq Tryz.func104 iY.2 pB
def Qi:ax vw:={rcut:=bP}
def NV:Sig vw:=sg [.dat (.st .layoutT)] bP [.tmp 2]
noncomputable def HY(v:aa×Unit):Option (Int×Unit):=if(v.1.kind==1)=true then some (((1:Int),()))else if(v.1.kind==2)=true then some ((max v.1.n (0:Int),()))else some (((0:Int),()))
def TN:Xc vw:=mX prog 12 c0 Qi [] [] []
theorem HZ:aq prog 143 NV HY:=fn0 TN Tryz.func143 bI
def iF:Cut SN:=⟨[(1, .bp 1 0),(3, .dat (.int .i64)),(4, .dat (.int .i64))],[(1, .st .layoutT)]⟩
def P8:ax vw:=shL [(0,ro)] bP
def NM:Sig vw:=sg [.dat (.st .layoutT)] bP [.tmp 2]
noncomputable def lm(v:Int×Int×aa×Unit):Option ((Int×Unit)):=if decide (v.2.1<(↑v.2.2.1.parts.length:Int))=true then if 0<=v.2.1 then v.2.2.1.parts[v.2.1.toNat]?>>=λx1=>HY (x1,())>>=λx2=>lm (min (i64.wrap (v.1+min x2.1 (1000:Int))) (100000:Int),i64.wrap (v.2.1+1),v.2.2.1,())else none else some ((v.1,())) partial_fixpoint
noncomputable def HG(v:aa×Unit):Option (Int×Unit):=lm ((0:Int),(0:Int),v.1,())>>=λx1=>some ((x1.1,()))
def xl:=kP HZ k0
def R3:Xc vw:=mX prog 23 xl.1 P8 [] [] [(3,⟨iF,[.exit 0],lm⟩)]
theorem Bq:dU R3 (ai (af Tryz.f109) 0) ⟨iF,[.exit 0],lm⟩:=lp0 lm.partial_correctness xl.2
theorem HH:aq prog 109 NM HG:=fn1 R3 Tryz.func109 xl.2 Bq
def Lx:ax vw:=shL [(0,ro)] bP
def iL:Sig vw:=sg [.dat (.st .layoutT)] bP [.tmp 2]
mutual
noncomputable def fN(v:Int×Int×aa×Unit):Option ((Int×Unit)):=if decide (v.2.1<(↑v.2.2.1.parts.length:Int))=true then if 0<=v.2.1 then v.2.2.1.parts[v.2.1.toNat]?>>=λx1=>n_139 (x1,())>>=λx2=>fN (max v.1 x2.1,i64.wrap (v.2.1+1),v.2.2.1,())else none else some ((v.1,())) partial_fixpoint
noncomputable def n_139(v:aa×Unit):Option (Int×Unit):=fN ((0:Int),(0:Int),v.1,())>>=λx1=>some ((i64.wrap (x1.1+1),())) partial_fixpoint
end
def xp(fN:Int×Int×aa×Unit->Option ((Int×Unit)))(n_139:aa×Unit->Option (Int×Unit)):bz vw:=λA fid args S k=>match fid with|139=>aP prog iL n_139 A args S k|_=>none
def Ao(fN:Int×Int×aa×Unit->Option ((Int×Unit)))(n_139:aa×Unit->Option (Int×Unit)):Xc vw:={P:=prog,n:=22,call:=xp fN n_139,pre:=kp,sh:=Lx,loops:=λk=>match k with|3=>some {cut:=iF,alts:=[.exit 0],F:=fN}|_=>none}
abbrev ia(v:Int×Int×aa×Unit)(r:(Int×Unit)):Prop:=(λv out=>∀C:Ctx,C.P=prog->C.N=22/\Fx C kp->ob C (ai (af Tryz.f139) 0) (Go.Tx.aH vw (bV vw iF v)) (tZ Lx [.exit 0] out)) v r
abbrev u_(v:aa×Unit)(r:Int×Unit):Prop:=(λv r=>∀x,qF prog iL r=some x->gr prog 139 (encL vw (az iL v).len (aX iL v).1) (bt (az iL v).len (az iL v).own) (an vw (bV vw iL.rcut r).len x) (bt (bV vw iL.rcut r).len (jJ iL r))) v r
theorem Hh(f0:Int×Int×aa×Unit->Option ((Int×Unit)))(f1:aa×Unit->Option (Int×Unit))(h0:∀v r,f0 v=some r->ia v r)(h1:∀v r,f1 v=some r->u_ v r):ay prog (Ao f0 f1).call:=(by
 intro A fid args S dst k r h
 unfold Ao xp at h
 simp only at h
 split at h
 ·exact ak ((λv r x h hx=>h1 v r h x hx)) rfl rfl h
 ·cases h)
theorem IC(f0:Int×Int×aa×Unit->Option ((Int×Unit)))(f1:aa×Unit->Option (Int×Unit))(h0:∀v r,f0 v=some r->ia v r)(h1:∀v r,f1 v=some r->u_ v r)(v:Int×Int×aa×Unit)(r:(Int×Unit))(h:exL (Ao f0 f1) (ai (af Tryz.f139) 0) iF [.exit 0] f0 v=some r):ia v r:=λC hP hN=>dj (X:=Ao f0 f1) (b:=(ai (af Tryz.f139) 0)) hP hN Ty.mixed (Hh f0 f1 h0 h1) (bm (X:=Ao f0 f1) (c:=(ai (af Tryz.f139) 0)) (bj (by kernel_rfl:True=fZ (bq C (Ao f0 f1)) (aJ (ai (af Tryz.f139) 0))) trivial)) (cut:=iF) (alts:=[.exit 0]) (F:=f0) (λv out h=>h0 v out h C hP hN) h
theorem MR(f0:Int×Int×aa×Unit->Option ((Int×Unit)))(h0:∀v r,f0 v=some r->ia v r):ay prog (Ao f0 (λ_=>none)).call:=(by
 intro A fid args S dst k r h
 unfold Ao xp at h
 simp only at h
 split at h
 ·exact ak ((λv r x h hx=>by cases h)) rfl rfl h
 ·cases h)
theorem Oc(f0:Int×Int×aa×Unit->Option ((Int×Unit)))(h0:∀v r,f0 v=some r->ia v r)(v:aa×Unit)(r:Int×Unit)(h:exF (Ao f0 (λ_=>none)) iL rfl (af Tryz.f139) v=some r):u_ v r:=λx hx=>mO (X:=Ao f0 (λ_=>none)) (sig:=iL) rfl Tryz.func139 (c:=af Tryz.f139) (by kernel_rfl) Tryz.ntmps139 (by kernel_rfl) (by kernel_rfl) rfl Ty.mixed (MR f0 h0) rfl (λC hP hN=>(bm (X:=Ao f0 (λ_=>none)) (c:=(af Tryz.f139)) (bj (by kernel_rfl:fZ (bq C (Ao f0 (λ_=>none))) [(ai (af Tryz.f139) 0)]=fZ (bq C (Ao f0 (λ_=>none))) (aJ (af Tryz.f139))) ⟨d8 (X:=Ao f0 (λ_=>none)) (b:=(ai (af Tryz.f139) 0)) (by kernel_rfl) (show dB C (ai (af Tryz.f139) 0) (sh:=Lx) {cut:=iF,alts:=[.exit 0],F:=f0}fromλv out h=>h0 v out h C hP hN),trivial⟩))) h x hx
theorem yb:(∀v r,fN v=some r->ia v r)/\(∀v r,n_139 v=some r->u_ v r):=by
 refine fN.mutual_partial_correctness
  (motive_1:=ia)
  (motive_2:=u_)
  ?_ ?_
 ·exact(λf0 f1 h0 h1 v r h=>IC f0 f1 h0 h1 v r (bj (by kernel_rfl) h))
 ·exact(λf0 h0 v r h=>Oc f0 h0 v r (bj (by kernel_rfl) h))
theorem HS:aq prog 139 iL n_139:=λv r x h hx=>yb.2 v r h x hx
def Ly:ax vw:=shL [(0,zp)] bP
def iM:Sig vw:=sg [.dat (.st .layoutT)] bP [.tmp 2]
mutual
noncomputable def fO(v:Int×Int×aa×Unit):Option ((Int×aa×Unit)):=if decide (v.2.1<(↑v.2.2.1.parts.length:Int))=true then if 0<=v.2.1 then v.2.2.1.parts[v.2.1.toNat]?>>=λx1=>n_140 (x1,())>>=λx2=>fO (min (i64.wrap (v.1+x2.1)) (100000:Int),i64.wrap (v.2.1+1),v.2.2.1,())else none else some ((v.1,v.2.2.1,())) partial_fixpoint
noncomputable def n_140(v:aa×Unit):Option (Int×Unit):=fO ((0:Int),(0:Int),v.1,())>>=λx1=>(if(x1.2.1.kind==5)=true then some ((i64.wrap (min (max x1.2.1.n (0:Int)) (100000:Int) *x1.1),()))else some ((x1.1,())))>>=λx2=>some ((min (i64.wrap (x2.1+1)) (100000:Int),())) partial_fixpoint
end
def xq(fO:Int×Int×aa×Unit->Option ((Int×aa×Unit)))(n_140:aa×Unit->Option (Int×Unit)):bz vw:=λA fid args S k=>match fid with|140=>aP prog iM n_140 A args S k|_=>none
def Ap(fO:Int×Int×aa×Unit->Option ((Int×aa×Unit)))(n_140:aa×Unit->Option (Int×Unit)):Xc vw:={P:=prog,n:=33,call:=xq fO n_140,pre:=kp,sh:=Ly,joins:=λk=>match k with|8=>some (ro,[.norm])|_=>none,loops:=λk=>match k with|3=>some {cut:=iF,alts:=[.exit 0],F:=fO}|_=>none}
abbrev ib(v:Int×Int×aa×Unit)(r:(Int×aa×Unit)):Prop:=(λv out=>∀C:Ctx,C.P=prog->C.N=33/\Fx C kp->ob C (ai (af Tryz.f140) 0) (Go.Tx.aH vw (bV vw iF v)) (tZ Ly [.exit 0] out)) v r
abbrev vc(v:aa×Unit)(r:Int×Unit):Prop:=(λv r=>∀x,qF prog iM r=some x->gr prog 140 (encL vw (az iM v).len (aX iM v).1) (bt (az iM v).len (az iM v).own) (an vw (bV vw iM.rcut r).len x) (bt (bV vw iM.rcut r).len (jJ iM r))) v r
theorem Hi(f0:Int×Int×aa×Unit->Option ((Int×aa×Unit)))(f1:aa×Unit->Option (Int×Unit))(h0:∀v r,f0 v=some r->ib v r)(h1:∀v r,f1 v=some r->vc v r):ay prog (Ap f0 f1).call:=(by
 intro A fid args S dst k r h
 unfold Ap xq at h
 simp only at h
 split at h
 ·exact ak ((λv r x h hx=>h1 v r h x hx)) rfl rfl h
 ·cases h)
theorem ID(f0:Int×Int×aa×Unit->Option ((Int×aa×Unit)))(f1:aa×Unit->Option (Int×Unit))(h0:∀v r,f0 v=some r->ib v r)(h1:∀v r,f1 v=some r->vc v r)(v:Int×Int×aa×Unit)(r:(Int×aa×Unit))(h:exL (Ap f0 f1) (ai (af Tryz.f140) 0) iF [.exit 0] f0 v=some r):ib v r:=λC hP hN=>dj (X:=Ap f0 f1) (b:=(ai (af Tryz.f140) 0)) hP hN Ty.mixed (Hi f0 f1 h0 h1) (bm (X:=Ap f0 f1) (c:=(ai (af Tryz.f140) 0)) (bj (by kernel_rfl:True=fZ (bq C (Ap f0 f1)) (aJ (ai (af Tryz.f140) 0))) trivial)) (cut:=iF) (alts:=[.exit 0]) (F:=f0) (λv out h=>h0 v out h C hP hN) h
theorem MS(f0:Int×Int×aa×Unit->Option ((Int×aa×Unit)))(h0:∀v r,f0 v=some r->ib v r):ay prog (Ap f0 (λ_=>none)).call:=(by
 intro A fid args S dst k r h
 unfold Ap xq at h
 simp only at h
 split at h
 ·exact ak ((λv r x h hx=>by cases h)) rfl rfl h
 ·cases h)
theorem Od(f0:Int×Int×aa×Unit->Option ((Int×aa×Unit)))(h0:∀v r,f0 v=some r->ib v r)(v:aa×Unit)(r:Int×Unit)(h:exF (Ap f0 (λ_=>none)) iM rfl (af Tryz.f140) v=some r):vc v r:=λx hx=>mO (X:=Ap f0 (λ_=>none)) (sig:=iM) rfl Tryz.func140 (c:=af Tryz.f140) (by kernel_rfl) Tryz.ntmps140 (by kernel_rfl) (by kernel_rfl) rfl Ty.mixed (MS f0 h0) rfl (λC hP hN=>(bm (X:=Ap f0 (λ_=>none)) (c:=(af Tryz.f140)) (bj (by kernel_rfl:fZ (bq C (Ap f0 (λ_=>none))) [(ai (af Tryz.f140) 0)]=fZ (bq C (Ap f0 (λ_=>none))) (aJ (af Tryz.f140))) ⟨d8 (X:=Ap f0 (λ_=>none)) (b:=(ai (af Tryz.f140) 0)) (by kernel_rfl) (show dB C (ai (af Tryz.f140) 0) (sh:=Ly) {cut:=iF,alts:=[.exit 0],F:=f0}fromλv out h=>h0 v out h C hP hN),trivial⟩))) h x hx
theorem yc:(∀v r,fO v=some r->ib v r)/\(∀v r,n_140 v=some r->vc v r):=by
 refine fO.mutual_partial_correctness
  (motive_1:=ib)
  (motive_2:=vc)
  ?_ ?_
 ·exact(λf0 f1 h0 h1 v r h=>ID f0 f1 h0 h1 v r (bj (by kernel_rfl) h))
 ·exact(λf0 h0 v r h=>Od f0 h0 v r (bj (by kernel_rfl) h))
theorem HT:aq prog 140 iM n_140:=λv r x h hx=>yc.2 v r h x hx
def Qg:ax vw:={rcut:=bP}
def NT:Sig vw:=sg [.dat (.int .i64)] bP [.tmp 2]
noncomputable def HU(v:Int×Unit):Option (Int×Unit):=if(v.1==2)=true then some (((64:Int),()))else if(v.1==5)=true then some (((1000:Int),()))else if(v.1==7)=true then some (((65536:Int),()))else some (((9223372036854775807:Int),()))
def TM:Xc vw:=mX prog 10 c0 Qg [] [] []
theorem HV:aq prog 141 NT HU:=fn0 TM Tryz.func141 bI
def Dm:Cut SN:=⟨[(6, .dat .bool)],[]⟩
def Qc:ax vw:={rcut:=Dm}
def NO:Sig vw:=sg [.dat (.int .i64), .dat (.int .i64), .dat (.int .i64)] Dm [.tmp 6]
noncomputable def HI(v:Int×Int×Int×Unit):Option (Bool×Unit):=(if decide (v.1>=v.2.1)=true then some ((decide (v.1<=v.2.2.1),()))else some ((false,())))>>=λx1=>some ((x1.1,()))
def TL:Xc vw:=mX prog 15 c0 Qc [] [(1,Dm)] []
theorem HJ:aq prog 114 NO HI:=fn0 TL Tryz.func114 bI
def My:Cut SN:=⟨[(1, .bp 1 0),(4, .dat (.int .i64)),(12, .dat .bool)],[(1, .st .layoutT)]⟩
def Qp:ax vw:={rcut:=dn}
def N2:Sig vw:=sg [.dat (.st .layoutT)] dn [.tmp 2]
noncomputable def H6(v:aa×Unit):Option (Bool×Unit):=(if(v.1.kind==4)=true then some ((v.1.kind,true,v.1,()))else some ((v.1.kind,v.1.kind==5,v.1,())))>>=λx1=>if x1.2.1=true then some (((↑x1.2.2.1.parts.length:Int)==1,()))else(if(x1.1==6)=true then some ((x1.1,true,x1.2.2.1,()))else some ((x1.1,x1.1==9,x1.2.2.1,())))>>=λx2=>if x2.2.1=true then some ((true,()))else if(x2.1==8)=true then some ((decide ((↑x2.2.2.1.parts.length:Int)>=1),()))else some (((↑x2.2.2.1.parts.length:Int)==0,()))
def TT:Xc vw:=mX prog 25 c0 Qp [(4,MM,[.norm]),(7,My,[.norm])] [] []
theorem H7:aq prog 171 N2 H6:=fn0 TT Tryz.func171 bI
def Mv:Cut SN:=⟨[(1, .bp 1 0),(23, .dat (.int .i64)),(24, .dat .bool)],[(1, .st .layoutT)]⟩
def Do:Cut SN:=⟨[(1, .bp 1 0)],[(1, .st .layoutT)]⟩
def Mw:Cut SN:=⟨[(1, .bp 1 0),(21, .dat .bool)],[(1, .st .layoutT)]⟩
def Kj:Cut SN:=⟨[(1, .bp 1 0),(3, .dat (.int .i64)),(59, .dat .bool)],[(1, .st .layoutT)]⟩
def Qh:ax vw:=shL [(1,Do)] dn
def NU:Sig vw:=sg [.dat (.st .layoutT)] dn [.tmp 2]
noncomputable def ip(v:Int×aa×Unit):Option (((Bool×Unit)⊕(aa×Unit))):=if decide (v.1<(↑v.2.1.parts.length:Int))=true then(if 0<=v.1 then v.2.1.parts[v.1.toNat]?>>=λx1=>if(x1.kind !=1)=true then if 0<=v.1 then v.2.1.parts[v.1.toNat]?>>=λx2=>some ((v.1,x2.kind !=2,v.2.1,()))else none else some ((v.1,false,v.2.1,()))else none)>>=λx1=>if x1.2.1=true then some (UR (false,()))else ip (i64.wrap (x1.1+1),x1.2.2.1,())else some (UW (v.2.1,())) partial_fixpoint
noncomputable def HW(v:aa×Unit):Option (Bool×Unit):=(HI (v.1.kind,(0:Int),(9:Int),())>>=λx1=>if(!x1.1)=true then some ((true,v.1,()))else H6 (v.1,())>>=λx2=>if(!x2.1)=true then some ((true,v.1,()))else if v.1.flag=true then some ((v.1.kind !=2,v.1,()))else some ((false,v.1,())))>>=λx1=>if x1.1=true then some ((false,()))else((if(x1.2.1.kind==2)=true then some ((x1.2.1.kind,true,x1.2.1,()))else some ((x1.2.1.kind,x1.2.1.kind==7,x1.2.1,())))>>=λx2=>if x2.2.1=true then some (UW (decide (x2.2.2.1.n>=1),()))else if(x2.1==5)=true then some (UW (decide (x2.2.2.1.n>=0),()))else if(x2.1==9)=true then ip ((0:Int),x2.2.2.1,())>>=λx3=>match x3 with| .inl y3=>some (UW y3)| .inr y3=>some (UR (y3.1,()))else some (UR (x2.2.2.1,())))>>=λx2=>match x2 with| .inl y2=>some ((y2.1.n==0,()))| .inr y2=>some y2
def xr:=kP HJ (kP H7 k0)
def R8:Xc vw:=mX prog 63 xr.1 Qh [(6,Mv,[.norm]),(15,Do,[.norm, .ret])] [(1,Mw),(13,Kj)] [(11,⟨zp,[.ret, .exit 1],ip⟩)]
theorem yd:dU R8 (ai (af Tryz.f142) 0) ⟨zp,[.ret, .exit 1],ip⟩:=lp0 ip.partial_correctness xr.2
theorem HX:aq prog 142 NU HW:=fn1 R8 Tryz.func142 xr.2 yd
def Dp:Cut SN:=⟨[(1, .bp 1 0),(3, .vh 1003),(4, .dat (.int .i64))],[(1, .st .layoutT),(1003, .vec 42 (.st .layoutT))]⟩
def Pk:Cut SN:=⟨[(3, .vh 1003)],[(1003, .vec 42 (.st .layoutT))]⟩
def RH:Cut SN:=⟨[(2, .dat (.sl (.st .layoutT)))],[]⟩
def Qs:ax vw:=shL [(0,Pk)] RH
def n8:Sig vw:=sg [.dat (.st .layoutT)] RH [.tmp 2]
mutual
noncomputable def jl(v:Int×aa×(List aa)×Unit):Option (((List aa)×Unit)):=if decide (v.1<(↑v.2.1.parts.length:Int))=true then if 0<=v.1 then v.2.1.parts[v.1.toNat]?>>=λx1=>n_57 (x1,())>>=λx2=>if v.2.2.1.length+x2.1.length<=4294967296 then jl (i64.wrap (v.1+1),v.2.1,v.2.2.1++x2.1,())else none else none else some ((v.2.2.1,())) partial_fixpoint
noncomputable def n_57(v:aa×Unit):Option ((List aa)×Unit):=jl ((0:Int),v.1,[v.1],())>>=λx1=>some ((x1.1,())) partial_fixpoint
end
def DE(jl:Int×aa×(List aa)×Unit->Option (((List aa)×Unit)))(n_57:aa×Unit->Option ((List aa)×Unit)):bz vw:=λA fid args S k=>match fid with|57=>aP prog n8 n_57 A args S k|_=>none
def x57(jl:Int×aa×(List aa)×Unit->Option (((List aa)×Unit)))(n_57:aa×Unit->Option ((List aa)×Unit)):Xc vw:={P:=prog,n:=23,nm:=λd=>match d with|6=>40006|_=>d,call:=DE jl n_57,pre:=kp,sh:=Qs,loops:=λk=>match k with|3=>some {cut:=Dp,alts:=[.exit 0],F:=jl}|_=>none}
abbrev lh(v:Int×aa×(List aa)×Unit)(r:((List aa)×Unit)):Prop:=(λv out=>∀C:Ctx,C.P=prog->C.N=23/\Fx C kp->ob C (ai (af Tryz.f57) 0) (Go.Tx.aH vw (bV vw Dp v)) (tZ Qs [.exit 0] out)) v r
abbrev Eo(v:aa×Unit)(r:(List aa)×Unit):Prop:=(λv r=>∀x,qF prog n8 r=some x->gr prog 57 (encL vw (az n8 v).len (aX n8 v).1) (bt (az n8 v).len (az n8 v).own) (an vw (bV vw n8.rcut r).len x) (bt (bV vw n8.rcut r).len (jJ n8 r))) v r
theorem Ks(f0:Int×aa×(List aa)×Unit->Option (((List aa)×Unit)))(f1:aa×Unit->Option ((List aa)×Unit))(h0:∀v r,f0 v=some r->lh v r)(h1:∀v r,f1 v=some r->Eo v r):ay prog (x57 f0 f1).call:=(by
 intro A fid args S dst k r h
 unfold x57 DE at h
 simp only at h
 split at h
 ·exact ak ((λv r x h hx=>h1 v r h x hx)) rfl rfl h
 ·cases h)
theorem LA(f0:Int×aa×(List aa)×Unit->Option (((List aa)×Unit)))(f1:aa×Unit->Option ((List aa)×Unit))(h0:∀v r,f0 v=some r->lh v r)(h1:∀v r,f1 v=some r->Eo v r)(v:Int×aa×(List aa)×Unit)(r:((List aa)×Unit))(h:exL (x57 f0 f1) (ai (af Tryz.f57) 0) Dp [.exit 0] f0 v=some r):lh v r:=λC hP hN=>dj (X:=x57 f0 f1) (b:=(ai (af Tryz.f57) 0)) hP hN Ty.mixed (Ks f0 f1 h0 h1) (bm (X:=x57 f0 f1) (c:=(ai (af Tryz.f57) 0)) (bj (by kernel_rfl:True=fZ (bq C (x57 f0 f1)) (aJ (ai (af Tryz.f57) 0))) trivial)) (cut:=Dp) (alts:=[.exit 0]) (F:=f0) (λv out h=>h0 v out h C hP hN) h
theorem Px(f0:Int×aa×(List aa)×Unit->Option (((List aa)×Unit)))(h0:∀v r,f0 v=some r->lh v r):ay prog (x57 f0 (λ_=>none)).call:=(by
 intro A fid args S dst k r h
 unfold x57 DE at h
 simp only at h
 split at h
 ·exact ak ((λv r x h hx=>by cases h)) rfl rfl h
 ·cases h)
theorem Q4(f0:Int×aa×(List aa)×Unit->Option (((List aa)×Unit)))(h0:∀v r,f0 v=some r->lh v r)(v:aa×Unit)(r:(List aa)×Unit)(h:exF (x57 f0 (λ_=>none)) n8 rfl (af Tryz.f57) v=some r):Eo v r:=λx hx=>mO (X:=x57 f0 (λ_=>none)) (sig:=n8) rfl Tryz.func57 (c:=af Tryz.f57) (by kernel_rfl) Tryz.ntmps57 (by kernel_rfl) (by kernel_rfl) rfl Ty.mixed (Px f0 h0) rfl (λC hP hN=>(bm (X:=x57 f0 (λ_=>none)) (c:=(af Tryz.f57)) (bj (by kernel_rfl:fZ (bq C (x57 f0 (λ_=>none))) [(ai (af Tryz.f57) 0)]=fZ (bq C (x57 f0 (λ_=>none))) (aJ (af Tryz.f57))) ⟨d8 (X:=x57 f0 (λ_=>none)) (b:=(ai (af Tryz.f57) 0)) (by kernel_rfl) (show dB C (ai (af Tryz.f57) 0) (sh:=Qs) {cut:=Dp,alts:=[.exit 0],F:=f0}fromλv out h=>h0 v out h C hP hN),trivial⟩))) h x hx
theorem BG:(∀v r,jl v=some r->lh v r)/\(∀v r,n_57 v=some r->Eo v r):=by
 refine jl.mutual_partial_correctness
  (motive_1:=lh)
  (motive_2:=Eo)
  ?_ ?_
 ·exact(λf0 f1 h0 h1 v r h=>LA f0 f1 h0 h1 v r (bj (by kernel_rfl) h))
 ·exact(λf0 h0 v r h=>Q4 f0 h0 v r (bj (by kernel_rfl) h))
theorem K4:aq prog 57 n8 n_57:=λv r x h hx=>BG.2 v r h x hx
def Ji:Cut SN:=⟨[(3, .dat (.sl (.st .layoutT))),(4, .dat (.int .i64))],[]⟩
def Dl:Cut SN:=⟨[(3, .dat (.sl (.st .layoutT))),(6, .dat (.int .i64))],[]⟩
def Mk:Cut SN:=⟨[(3, .dat (.sl (.st .layoutT))),(21, .dat .bool)],[]⟩
def Ml:Cut SN:=⟨[(3, .dat (.sl (.st .layoutT))),(4, .dat (.int .i64)),(53, .dat .bool)],[]⟩
def Mj:Cut SN:=⟨[(3, .dat (.sl (.st .layoutT)))],[]⟩
def P7:ax vw:=shL [(0,Mj),(2,uq)] bP
def NL:Sig vw:=sg [.dat (.st .layoutT)] bP [.tmp 2]
noncomputable def lk(v:(List aa)×Int×Unit):Option (((Int×Unit)⊕((List aa)×Unit))):=if decide (v.2.1<(↑v.1.length:Int))=true then if 0<=v.2.1 then v.1[v.2.1.toNat]?>>=λx1=>(if decide ((↑x1.parts.length:Int)>12)=true then some ((v.1,v.2.1,true,()))else HU (x1.kind,())>>=λx2=>if decide (x1.n>x2.1)=true then some ((v.1,v.2.1,true,()))else if(x1.kind==9)=true then HG (x1,())>>=λx3=>some ((v.1,v.2.1,decide (x3.1>64),()))else some ((v.1,v.2.1,false,())))>>=λx2=>if x2.2.2.1=true then some (UR ((3:Int),()))else lk (x2.1,i64.wrap (x2.2.1+1),())else none else some (UW (v.1,())) partial_fixpoint
noncomputable def ig(v:(List aa)×Int×Unit):Option (((Int×Unit)⊕(Unit))):=if decide (v.2.1<(↑v.1.length:Int))=true then if 0<=v.2.1 then v.1[v.2.1.toNat]?>>=λx1=>HW (x1,())>>=λx2=>if(!x2.1)=true then some (UR ((1:Int),()))else ig (v.1,i64.wrap (v.2.1+1),())else none else some (UW ()) partial_fixpoint
noncomputable def Bo(v:aa×Unit):Option (Int×Unit):=n_57 (v.1,())>>=λx1=>(if decide ((↑x1.1.length:Int)>60)=true then some ((x1.1,true,()))else n_139 (v.1,())>>=λx2=>if decide (x2.1>5)=true then some ((x1.1,true,()))else n_140 (v.1,())>>=λx3=>some ((x1.1,decide (x3.1>4096),())))>>=λx2=>if x2.2.1=true then some (((3:Int),()))else lk (x2.1,(0:Int),())>>=λx3=>match x3 with| .inl y3=>some y3| .inr y3=>ig (y3.1,(0:Int),())>>=λx4=>match x4 with| .inl y4=>some y4| .inr y4=>some (((0:Int),()))
def sy:=kP K4 (kP HH (kP HS (kP HT (kP HV (kP HX k0)))))
def Rr:Xc vw:=mX prog 66 sy.1 P7 [] [(2,Mk),(8,Ml)] [(5,⟨Ji,[.ret, .exit 0],lk⟩),(11,⟨Dl,[.ret, .exit 2],ig⟩)]
theorem Bp:dU Rr (ai (af Tryz.f105) 0) ⟨Ji,[.ret, .exit 0],lk⟩:=lp0 lk.partial_correctness sy.2
theorem x_:dU Rr (ai (af Tryz.f105) 1) ⟨Dl,[.ret, .exit 2],ig⟩:=lp0 ig.partial_correctness sy.2
theorem HF:aq prog 105 NL Bo:=fn2 Rr Tryz.func105 sy.2 Bp x_
def SS:ax vw:={rcut:=dn}
def QH:Sig vw:=sg [.dat .str] dn [.tmp 2]
noncomputable def Nv(v:ByteArray×Unit):Option (Bool×Unit):=some ((decide ((↑v.1.size:Int)>4096),()))
def x37:Xc vw:=mX prog 6 c0 SS [] [] []
theorem yi:aq prog 37 QH Nv:=fn0 x37 Tryz.func37 bI
def Kq:Cut SN:=⟨[(0, .dat .str),(3, .vh 1003),(4, .dat (.int .i64))],[(1003, .vec 125 (.st .tokenT))]⟩
def xi:Cut SN:=⟨[(0, .dat .str),(3, .vh 1003),(4, .dat (.int .i64)),(5, .dat (.int .i64))],[(1003, .vec 125 (.st .tokenT))]⟩
def Pi:Cut SN:=⟨[(0, .dat .str),(3, .vh 1003),(4, .dat (.int .i64)),(5, .dat (.int .i64)),(6, .dat (.int .u8)),(17, .dat .bool)],[(1003, .vec 125 (.st .tokenT))]⟩
def Pj:Cut SN:=⟨[(0, .dat .str),(3, .vh 1003),(4, .dat (.int .i64)),(5, .dat (.int .i64)),(46, .dat .bool)],[(1003, .vec 125 (.st .tokenT))]⟩
def ML:Cut SN:=⟨[(0, .dat .str),(3, .vh 1003),(4, .dat (.int .i64)),(5, .dat (.int .i64)),(61, .dat .bool)],[(1003, .vec 125 (.st .tokenT))]⟩
def Ph:Cut SN:=⟨[(3, .vh 1003)],[(1003, .vec 125 (.st .tokenT))]⟩
def RG:Cut SN:=⟨[(2, .dat (.sl (.st .tokenT)))],[]⟩
def R1:ax vw:=shL [(0,Ph),(1,Kq),(3,xi),(5,xi)] RG
def QO:Sig vw:=sg [.dat .str] RG [.tmp 2]
noncomputable def nI(v:ByteArray×Int×Int×(List aD)×Unit):Option ((ByteArray×Int×Int×(List aD)×Unit)):=(if decide (v.2.1<(↑v.1.size:Int))=true then if 0<=v.2.1 then v.1[v.2.1.toNat]?>>=λx1=>L5 ((↑x1.toNat:Int),())>>=λx2=>if x2.1=true then some ((v.1,v.2.1,v.2.2.1,true,v.2.2.2.1,()))else if 0<=v.2.1 then v.1[v.2.1.toNat]?>>=λx3=>Ld ((↑x3.toNat:Int),())>>=λx4=>some ((v.1,v.2.1,v.2.2.1,x4.1,v.2.2.2.1,()))else none else none else some ((v.1,v.2.1,v.2.2.1,false,v.2.2.2.1,())))>>=λx1=>if x1.2.2.2.1=true then nI (x1.1,i64.wrap (x1.2.1+1),x1.2.2.1,x1.2.2.2.2.1,())else some ((x1.1,x1.2.1,x1.2.2.1,x1.2.2.2.2.1,())) partial_fixpoint
noncomputable def jj(v:ByteArray×Int×Int×(List aD)×Unit):Option ((ByteArray×Int×Int×(List aD)×Unit)):=(if decide (v.2.1<(↑v.1.size:Int))=true then if 0<=v.2.1 then v.1[v.2.1.toNat]?>>=λx1=>Ld ((↑x1.toNat:Int),())>>=λx2=>some ((v.1,v.2.1,v.2.2.1,x2.1,v.2.2.2.1,()))else none else some ((v.1,v.2.1,v.2.2.1,false,v.2.2.2.1,())))>>=λx1=>if x1.2.2.2.1=true then jj (x1.1,i64.wrap (x1.2.1+1),x1.2.2.1,x1.2.2.2.2.1,())else some ((x1.1,x1.2.1,x1.2.2.1,x1.2.2.2.2.1,())) partial_fixpoint
noncomputable def jk(v:ByteArray×Int×(List aD)×Unit):Option (((List aD)×Unit)):=if decide (v.2.1<(↑v.1.size:Int))=true then if 0<=v.2.1 then v.1[v.2.1.toNat]?>>=λx1=>((if((↑x1.toNat:Int)==32)=true then some ((v.1,i64.wrap (v.2.1+1),v.2.1,(↑x1.toNat:Int),true,v.2.2.1,()))else if((↑x1.toNat:Int)==9)=true then some ((v.1,i64.wrap (v.2.1+1),v.2.1,(↑x1.toNat:Int),true,v.2.2.1,()))else some ((v.1,i64.wrap (v.2.1+1),v.2.1,(↑x1.toNat:Int),(↑x1.toNat:Int)==10,v.2.2.1,())))>>=λx2=>if x2.2.2.2.2.1=true then some (UW (x2.1,x2.2.1,x2.2.2.2.2.2.1,()))else L5 (x2.2.2.2.1,())>>=λx3=>if x3.1=true then nI (x2.1,x2.2.1,x2.2.2.1,x2.2.2.2.2.2.1,())>>=λx4=>some (UR (x4.1,x4.2.1,x4.2.2.1,x4.2.2.2.1,()))else Ld (x2.2.2.2.1,())>>=λx4=>if x4.1=true then jj (x2.1,x2.2.1,x2.2.2.1,x2.2.2.2.2.2.1,())>>=λx5=>some (UR (x5.1,x5.2.1,x5.2.2.1,x5.2.2.2.1,()))else some (UR (x2.1,x2.2.1,x2.2.2.1,x2.2.2.2.2.2.1,())))>>=λx2=>match x2 with| .inl y2=>if 0<=y2.2.2.1/\y2.2.2.1<=y2.2.1/\y2.2.1<=(↑y2.1.size:Int)then if y2.2.2.2.1.length+[aD.mk y2.2.2.1 (y2.1.extract y2.2.2.1.toNat y2.2.1.toNat)].length<=4294967296 then jk (y2.1,y2.2.1,y2.2.2.2.1++[aD.mk y2.2.2.1 (y2.1.extract y2.2.2.1.toNat y2.2.1.toNat)],())else none else none| .inr y2=>jk (y2.1,y2.2.1,y2.2.2.1,())else none else some ((v.2.2.1,())) partial_fixpoint
noncomputable def Nx(v:ByteArray×Unit):Option ((List aD)×Unit):=jk (v.1,(0:Int),[],())>>=λx1=>some ((x1.1,()))
def uE:=kP EY (kP EZ k0)
def x53:Xc vw:=mX prog 74 uE.1 R1 [(14,xi,[.norm, .exit 1])] [(7,Pi),(9,Pj),(12,ML)] [(3,⟨Kq,[.exit 0],jk⟩),(9,⟨xi,[.exit 3],nI⟩),(12,⟨xi,[.exit 5],jj⟩)]
theorem ET:dU x53 (ai (ai (af Tryz.f53) 0) 0) ⟨xi,[.exit 3],nI⟩:=lp0 nI.partial_correctness uE.2
theorem BF:dU x53 (ai (ai (af Tryz.f53) 0) 1) ⟨xi,[.exit 5],jj⟩:=lp0 jj.partial_correctness uE.2
theorem ES(C:Ctx)(hP:C.P=prog)(hN:C.N=74/\Fx C kp):dB C (ai (af Tryz.f53) 0) (sh:=R1) {cut:=Kq,alts:=[.exit 0],F:=jk}:=
 lpB (X:=x53) jk.partial_correctness hP hN Ty.mixed uE.2 (Ou (by kernel_rfl) (by kernel_rfl) (by kernel_rfl) (ET C hP hN) (BF C hP hN)) λF v=>by kernel_rfl
theorem ER:aq prog 53 QO Nx:=fn1 x53 Tryz.func53 uE.2 ES
def Kr:Cut SN:=⟨[(0, .dat .str),(3, .vh 1003),(4, .dat .bool),(5, .dat (.int .i64))],[(1003, .vec 4 .bool)]⟩
def Pp:Cut SN:=⟨[(0, .dat .str),(3, .vh 1003),(4, .dat .bool),(5, .dat (.int .i64)),(23, .dat .bool)],[(1003, .vec 4 .bool)]⟩
def Po:Cut SN:=⟨[(3, .vh 1003)],[(1003, .vec 4 .bool)]⟩
def RL:Cut SN:=⟨[(2, .dat (.sl .bool))],[]⟩
def Td:ax vw:=shL [(0,Po)] RL
def QX:Sig vw:=sg [.dat .str] RL [.tmp 2]
noncomputable def kj(v:ByteArray×Bool×Int×(List Bool)×Unit):Option (((List Bool)×Unit)):=if decide (v.2.2.1<(↑v.1.size:Int))=true then((if(v.2.2.1==0)=true then some ((v.1,v.2.1,v.2.2.1,true,v.2.2.2.1,()))else if 0<=i64.wrap (v.2.2.1-1)then v.1[(i64.wrap (v.2.2.1-1)).toNat]?>>=λx1=>some ((v.1,v.2.1,v.2.2.1,(↑x1.toNat:Int)==10,v.2.2.2.1,()))else none)>>=λx1=>if x1.2.2.2.1=true then if 0<=x1.2.2.1 then x1.1[x1.2.2.1.toNat]?>>=λx2=>some ((x1.1,(↑x2.toNat:Int)==35,x1.2.2.1,x1.2.2.2.2.1,()))else none else some ((x1.1,x1.2.1,x1.2.2.1,x1.2.2.2.2.1,())))>>=λx1=>if 0<=x1.2.2.1/\x1.2.2.1<(↑x1.2.2.2.1.length:Int)then x1.2.2.2.1[x1.2.2.1.toNat]?>>=λx2=>kj (x1.1,x1.2.1,i64.wrap (x1.2.2.1+1),x1.2.2.2.1.set x1.2.2.1.toNat x1.2.1,())else none else some ((v.2.2.2.1,())) partial_fixpoint
noncomputable def ON(v:ByteArray×Unit):Option ((List Bool)×Unit):=if(↑v.1.size:Int)<=4294967296 then kj (v.1,false,(0:Int),U5 (↑v.1.size:Int).toNat false,())>>=λx1=>some ((x1.1,()))else none
def x85:Xc vw:=mX prog 33 c0 Td [(8,Kr,[.norm])] [(6,Pp)] [(4,⟨Kr,[.exit 0],kj⟩)]
theorem EX:dU x85 (ai (af Tryz.f85) 0) ⟨Kr,[.exit 0],kj⟩:=lp0 kj.partial_correctness bI
theorem Lc:aq prog 85 QX ON:=fn1 x85 Tryz.func85 bI EX
def Ko:Cut SN:=⟨[(0, .dat .str),(3, .dat (.sl .bool)),(4, .dat (.sl (.st .tokenT))),(5, .vh 1005),(6, .dat (.int .i64)),(7, .dat (.int .i64)),(8, .dat (.int .i64)),(9, .dat (.int .i64))],[(1005, .dvec 77 (.sl (.st .tokenT)) false)]⟩
def Jr:Cut SN:=⟨[(0, .dat .str),(3, .dat (.sl .bool)),(4, .dat (.sl (.st .tokenT))),(5, .vh 1005),(6, .dat (.int .i64)),(7, .dat (.int .i64)),(8, .dat (.int .i64)),(9, .dat (.int .i64)),(10, .bp 10 0)],[(1005, .dvec 77 (.sl (.st .tokenT)) false),(10, .st .tokenT)]⟩
def MJ:Cut SN:=⟨[(0, .dat .str),(3, .dat (.sl .bool)),(4, .dat (.sl (.st .tokenT))),(5, .vh 1005),(6, .dat (.int .i64)),(7, .dat (.int .i64)),(8, .dat (.int .i64)),(9, .dat (.int .i64)),(10, .bp 10 0),(40, .dat .bool)],[(1005, .dvec 77 (.sl (.st .tokenT)) false),(10, .st .tokenT)]⟩
def Pf:Cut SN:=⟨[(5, .vh 1005)],[(1005, .dvec 77 (.sl (.st .tokenT)) false)]⟩
def RF:Cut SN:=⟨[(2, .dat (.sl (.sl (.st .tokenT))))],[]⟩
def SY:ax vw:=shL [(0,Pf)] RF
def P4:Nat->Bool:=λk=>match k with|1000042=>true|1000060=>true|_=>false
def N6:Sig vw:=sg [.dat .str] RF [.tmp 2]
noncomputable def c_(v:ByteArray×(List Bool)×(List aD)×Int×Int×Int×Int×(List (List aD))×Unit):Option (((List (List aD))×Unit)):=if decide (v.2.2.2.2.2.2.1<(↑v.2.2.1.length:Int))=true then(if 0<=v.2.2.2.2.2.2.1 then v.2.2.1[v.2.2.2.2.2.2.1.toNat]?>>=λx1=>if 0<=x1.at0 then v.2.1[x1.at0.toNat]?>>=λx2=>if x2=true then((if(x1.at0==0)=true then some ((v.1,v.2.1,v.2.2.1,v.2.2.2.1,v.2.2.2.2.1,v.2.2.2.2.2.1,v.2.2.2.2.2.2.1,true,v.2.2.2.2.2.2.2.1,x1,()))else if 0<=i64.wrap (x1.at0-1)then v.1[(i64.wrap (x1.at0-1)).toNat]?>>=λx3=>some ((v.1,v.2.1,v.2.2.1,v.2.2.2.1,v.2.2.2.2.1,v.2.2.2.2.2.1,v.2.2.2.2.2.2.1,(↑x3.toNat:Int)==10,v.2.2.2.2.2.2.2.1,x1,()))else none)>>=λx3=>if x3.2.2.2.2.2.2.2.1=true then if x3.2.2.2.2.2.2.2.2.1.length+(1:Nat)<=4294967296 then some ((x3.1,x3.2.1,x3.2.2.1,x3.2.2.2.1,i64.wrap ((↑(x3.2.2.2.2.2.2.2.2.1++[[]]).length:Int) -1),x3.2.2.2.2.2.1,x3.2.2.2.2.2.2.1,x3.2.2.2.2.2.2.2.2.1++[[]],x3.2.2.2.2.2.2.2.2.2.1,()))else none else some ((x3.1,x3.2.1,x3.2.2.1,x3.2.2.2.1,x3.2.2.2.2.1,x3.2.2.2.2.2.1,x3.2.2.2.2.2.2.1,x3.2.2.2.2.2.2.2.2.1,x3.2.2.2.2.2.2.2.2.2.1,())))>>=λx3=>if 0<=x3.2.2.2.2.1/\x3.2.2.2.2.1<(↑x3.2.2.2.2.2.2.2.1.length:Int)then x3.2.2.2.2.2.2.2.1[x3.2.2.2.2.1.toNat]?>>=λx4=>if x4.length+[x3.2.2.2.2.2.2.2.2.1].length<=4294967296 then if 0<=x3.2.2.2.2.1/\x3.2.2.2.2.1<(↑((VI some x3.2.2.2.2.2.2.2.1).set x3.2.2.2.2.1.toNat none).length:Int)then((VI some x3.2.2.2.2.2.2.2.1).set x3.2.2.2.2.1.toNat none)[x3.2.2.2.2.1.toNat]?>>=λx5=>Db (((VI some x3.2.2.2.2.2.2.2.1).set x3.2.2.2.2.1.toNat none).set x3.2.2.2.2.1.toNat (some (x4++[x3.2.2.2.2.2.2.2.2.1])))>>=λx6=>some ((x3.1,x3.2.1,x3.2.2.1,x3.2.2.2.1,x3.2.2.2.2.1,x3.2.2.2.2.2.1,x3.2.2.2.2.2.2.1,x6,()))else none else none else none else(if decide (v.2.2.2.1<0)=true then if v.2.2.2.2.2.2.2.1.length+(1:Nat)<=4294967296 then some ((v.1,v.2.1,v.2.2.1,i64.wrap ((↑(v.2.2.2.2.2.2.2.1++[[]]).length:Int) -1),v.2.2.2.2.1,v.2.2.2.2.2.1,v.2.2.2.2.2.2.1,v.2.2.2.2.2.2.2.1++[[]],x1,()))else none else some ((v.1,v.2.1,v.2.2.1,v.2.2.2.1,v.2.2.2.2.1,v.2.2.2.2.2.1,v.2.2.2.2.2.2.1,v.2.2.2.2.2.2.2.1,x1,())))>>=λx3=>if 0<=x3.2.2.2.1/\x3.2.2.2.1<(↑x3.2.2.2.2.2.2.2.1.length:Int)then x3.2.2.2.2.2.2.2.1[x3.2.2.2.1.toNat]?>>=λx4=>if x4.length+[x3.2.2.2.2.2.2.2.2.1].length<=4294967296 then if 0<=x3.2.2.2.1/\x3.2.2.2.1<(↑((VI some x3.2.2.2.2.2.2.2.1).set x3.2.2.2.1.toNat none).length:Int)then((VI some x3.2.2.2.2.2.2.2.1).set x3.2.2.2.1.toNat none)[x3.2.2.2.1.toNat]?>>=λx5=>Db (((VI some x3.2.2.2.2.2.2.2.1).set x3.2.2.2.1.toNat none).set x3.2.2.2.1.toNat (some (x4++[x3.2.2.2.2.2.2.2.2.1])))>>=λx6=>if(x3.2.2.2.2.2.2.2.2.1.text.toList==(T3 #[123]).toList)=true then some ((x3.1,x3.2.1,x3.2.2.1,x3.2.2.2.1,x3.2.2.2.2.1,i64.wrap (x3.2.2.2.2.2.1+1),x3.2.2.2.2.2.2.1,x6,()))else if(x3.2.2.2.2.2.2.2.2.1.text.toList==(T3 #[125]).toList)=true then some ((x3.1,x3.2.1,x3.2.2.1,x3.2.2.2.1,x3.2.2.2.2.1,max (i64.wrap (x3.2.2.2.2.2.1-1)) (0:Int),x3.2.2.2.2.2.2.1,x6,()))else if(x3.2.2.2.2.2.2.2.2.1.text.toList==(T3 #[59]).toList)=true then if(x3.2.2.2.2.2.1==0)=true then some ((x3.1,x3.2.1,x3.2.2.1,(-1:Int),x3.2.2.2.2.1,x3.2.2.2.2.2.1,x3.2.2.2.2.2.2.1,x6,()))else some ((x3.1,x3.2.1,x3.2.2.1,x3.2.2.2.1,x3.2.2.2.2.1,x3.2.2.2.2.2.1,x3.2.2.2.2.2.2.1,x6,()))else some ((x3.1,x3.2.1,x3.2.2.1,x3.2.2.2.1,x3.2.2.2.2.1,x3.2.2.2.2.2.1,x3.2.2.2.2.2.2.1,x6,()))else none else none else none else none else none)>>=λx1=>c_ (x1.1,x1.2.1,x1.2.2.1,x1.2.2.2.1,x1.2.2.2.2.1,x1.2.2.2.2.2.1,i64.wrap (x1.2.2.2.2.2.2.1+1),x1.2.2.2.2.2.2.2.1,())else some ((v.2.2.2.2.2.2.2.1,())) partial_fixpoint
noncomputable def L2(v:ByteArray×Unit):Option ((List (List aD))×Unit):=ON (v.1,())>>=λx1=>Nx (v.1,())>>=λx2=>c_ (v.1,x1.1,x2.1,(-1:Int),(-1:Int),(0:Int),(0:Int),[],())>>=λx3=>some ((x3.1,()))
def DC:=kP ER (kP Lc k0)
def x49:Xc vw:={P:=prog,n:=91,call:=DC.1,pre:=P4,sh:=SY,joins:=λk=>match k with|7=>some (Ko,[.norm])|13=>some (Jr,[.norm])|17=>some (Jr,[.norm])|_=>none,regs:=λk=>match k with|10=>some MJ|_=>none,loops:=λk=>match k with|6=>some {cut:=Ko,alts:=[.exit 0],F:=c_}|_=>none}
theorem EL:dU x49 (ai (af Tryz.f49) 0) ⟨Ko,[.exit 0],c_⟩:=lp0 c_.partial_correctness DC.2
theorem EK:aq prog 49 N6 L2:=fn1 x49 Tryz.func49 DC.2 EL
def Kp:Cut SN:=⟨[(0, .dat (.sl .str)),(3, .dat .str),(4, .dat (.int .i64))],[]⟩
def Pg:Cut SN:=⟨[(3, .dat .str)],[]⟩
def SZ:ax vw:=shL [(0,Pg)] Km
def N7:Sig vw:=sg [.dat (.sl .str)] Km [.tmp 2]
noncomputable def mf(v:(List ByteArray)×ByteArray×Int×Unit):Option ((ByteArray×Unit)):=if decide (v.2.2.1<(↑v.1.length:Int))=true then(if decide (v.2.2.1>0)=true then if v.2.1.size+(T3 #[32]).size<=4294967296 then some ((v.1,v.2.1++T3 #[32],v.2.2.1,()))else none else some ((v.1,v.2.1,v.2.2.1,())))>>=λx1=>if 0<=x1.2.2.1 then x1.1[x1.2.2.1.toNat]?>>=λx2=>if x1.2.1.size+x2.size<=4294967296 then mf (x1.1,x1.2.1++x2,i64.wrap (x1.2.2.1+1),())else none else none else some ((v.2.1,())) partial_fixpoint
noncomputable def L3(v:(List ByteArray)×Unit):Option (ByteArray×Unit):=mf (v.1,T3 #[],(0:Int),())>>=λx1=>some ((x1.1,()))
def x50:Xc vw:=mX prog 22 c0 SZ [(7,Kp,[.norm])] [] [(3,⟨Kp,[.exit 0],mf⟩)]
theorem EN:dU x50 (ai (af Tryz.f50) 0) ⟨Kp,[.exit 0],mf⟩:=lp0 mf.partial_correctness bI
theorem EM:aq prog 50 N7 L3:=fn1 x50 Tryz.func50 bI EN
def MK:Cut SN:=⟨[(0, .dat (.sl (.st .tokenT))),(3, .vh 1003),(4, .dat (.int .i64))],[(1003, .vec 9 .str)]⟩
def Ot:Cut SN:=⟨[(2, .dat (.sl .str))],[]⟩
def S3:ax vw:=shL [(0,mE)] Ot
def N8:Sig vw:=sg [.dat (.sl (.st .tokenT))] Ot [.tmp 2]
noncomputable def mg(v:(List aD)×Int×(List ByteArray)×Unit):Option (((List ByteArray)×Unit)):=if decide (v.2.1<(↑v.1.length:Int))=true then if 0<=v.2.1 then v.1[v.2.1.toNat]?>>=λx1=>if v.2.2.1.length+[x1.text].length<=4294967296 then mg (v.1,i64.wrap (v.2.1+1),v.2.2.1++[x1.text],())else none else none else some ((v.2.2.1,())) partial_fixpoint
noncomputable def K2(v:(List aD)×Unit):Option ((List ByteArray)×Unit):=mg (v.1,(0:Int),[],())>>=λx1=>some ((x1.1,()))
def x51:Xc vw:=mX prog 20 c0 S3 [] [] [(3,⟨MK,[.exit 0],mg⟩)]
theorem EO:dU x51 (ai (af Tryz.f51) 0) ⟨MK,[.exit 0],mg⟩:=lp0 mg.partial_correctness bI
theorem yj:aq prog 51 N8 K2:=fn1 x51 Tryz.func51 bI EO
def rK:Cut SN:=⟨[(0, .dat (.sl .str)),(1, .vh 100000),(4, .bp 4 0),(6, .dat (.int .i64))],[(100000, .vec 44 (.st .itemT)),(4, .st .itemT)]⟩
def xj:Cut SN:=⟨[(0, .dat (.sl .str)),(1, .vh 100000),(4, .bp 4 0),(6, .dat (.int .i64)),(7, .bp 18 0),(8, .bp 8 0)],[(100000, .vec 44 (.st .itemT)),(4, .st .itemT),(18, .box none [.dat (.sl .str), .vh 100000, .dat .bool]),(8, .st .itemT)]⟩
def xk:Cut SN:=⟨[(0, .dat (.sl .str)),(1, .vh 100000),(4, .bp 4 0),(6, .dat (.int .i64)),(8, .bp 8 0),(74, .dat .bool)],[(100000, .vec 44 (.st .itemT)),(4, .st .itemT),(8, .st .itemT)]⟩
def AQ:Cut SN:=⟨[(1, .vh 100000),(4, .bp 4 0)],[(100000, .vec 44 (.st .itemT)),(4, .st .itemT)]⟩
def uw:Cut SN:=⟨[(1, .vh 100000),(4, .bp 4 0),(5, .dat .bool)],[(100000, .vec 44 (.st .itemT)),(4, .st .itemT)]⟩
def F1:ax vw:=shL [(0,AQ)] uw
def sk:Sig vw:={params:=[.dat (.sl .str), .vh 100000],objs:=[(100000, .vec 44 (.st .itemT))],rcut:=uw,rvars:=[.cell 4 44, .tmp 5],keep:=[100000]}
noncomputable def aE(v:(List ByteArray)×Int×(List Item)×Item×Unit):Option (((Bool×(List Item)×Item×Unit)⊕((List Item)×Item×Unit))):=if decide (v.2.1<4)=true then(if(v.2.1==0)=true then gM (v.1,false,v.2.2.1,())>>=λx1=>if x1.2.2.1.length=v.2.2.1.length then some ((v.1,v.2.1,x1.2.2.1,v.2.2.2.1,x1.1,x1.2.1,x1.2.2.2.1,()))else none else if(v.2.1==1)=true then gN (v.1,false,v.2.2.1,())>>=λx1=>if x1.2.2.1.length=v.2.2.1.length then some ((v.1,v.2.1,x1.2.2.1,v.2.2.2.1,x1.1,x1.2.1,x1.2.2.2.1,()))else none else if(v.2.1==2)=true then gO (v.1,false,v.2.2.1,())>>=λx1=>if x1.2.2.1.length=v.2.2.1.length then some ((v.1,v.2.1,x1.2.2.1,v.2.2.2.1,x1.1,x1.2.1,x1.2.2.2.1,()))else none else if(v.2.1==3)=true then ew (v.1,false,v.2.2.1,())>>=λx1=>if x1.2.2.1.length=v.2.2.1.length then some ((v.1,v.2.1,x1.2.2.1,v.2.2.2.1,x1.1,x1.2.1,x1.2.2.2.1,()))else none else some ((v.1,v.2.1,v.2.2.1,v.2.2.2.1,v.1,false,Item.mk 0 (T3 #[]) (0:Int) [] (aa.mk 0 0 false []),())))>>=λx1=>fP (x1.2.1,x1.2.2.2.2.2.2.1.name0,x1.2.2.1,())>>=λx2=>if x2.2.1.length=x1.2.2.1.length then(if x1.2.2.2.2.2.1=true then some ((x1.1,x1.2.1,true,x2.2.1,x1.2.2.2.1,x1.2.2.2.2.2.2.1,()))else if decide ((↑x1.2.2.2.2.1.length:Int)>0)=true then some ((x1.1,x1.2.1,true,x2.2.1,x1.2.2.2.1,x1.2.2.2.2.2.2.1,()))else if x2.1=true then some ((x1.1,x1.2.1,true,x2.2.1,x1.2.2.2.1,x1.2.2.2.2.2.2.1,()))else if decide (x1.2.1>1)=true then if decide ((↑x1.2.2.2.2.2.2.1.names.length:Int)>12)=true then some ((x1.1,x1.2.1,true,x2.2.1,x1.2.2.2.1,x1.2.2.2.2.2.2.1,()))else Bo (aa.mk x1.2.2.2.2.2.2.1.layout.kind x1.2.2.2.2.2.2.1.layout.n x1.2.2.2.2.2.2.1.layout.flag x1.2.2.2.2.2.2.1.layout.parts,())>>=λx3=>some ((x1.1,x1.2.1,x3.1 !=0,x2.2.1,x1.2.2.2.1,x1.2.2.2.2.2.2.1,()))else some ((x1.1,x1.2.1,false,x2.2.1,x1.2.2.2.1,x1.2.2.2.2.2.2.1,())))>>=λx3=>if x3.2.2.1=true then aE (x3.1,i64.wrap (x3.2.1+1),x3.2.2.2.1,x3.2.2.2.2.1,())else some (UR (true,x3.2.2.2.1,x3.2.2.2.2.2.1,()))else none else some (UW (v.2.2.1,v.2.2.2.1,())) partial_fixpoint
noncomputable def jm(v:(List ByteArray)×(List Item)×Unit):Option (Bool×(List Item)×Item×Unit):=aE (v.1,(0:Int),v.2.1,Item.mk 0 (T3 #[]) (0:Int) [] (aa.mk 0 0 false []),())>>=λx1=>match x1 with| .inl y1=>some y1| .inr y1=>some ((false,y1.1,Item.mk 0 (T3 #[]) (0:Int) [] (aa.mk 0 0 false []),()))
def kQ:=kO nH (kO sX (kO sY (kO sZ (kO s5 (kP HF k0)))))
def Av:Xc vw:=mX prog 77 kQ.1 F1 [(15,xj,[.norm])] [(16,xk)] [(2,⟨rK,[.ret, .exit 0],aE⟩)]
theorem qS:dU Av (ai (af Tryz.f70) 0) ⟨rK,[.ret, .exit 0],aE⟩:=lp0 aE.partial_correctness kQ.2
theorem vo:aq prog 70 sk jm:=fn1 Av Tryz.func70 kQ.2 qS
def Kn:Cut SN:=⟨[(4, .dat (.sl (.sl (.st .tokenT)))),(5, .vh 1005),(6, .vh 1006),(7, .dat (.int .i64))],[(1005, .vec 44 (.st .itemT)),(1006, .vec 65 (.st .partT))]⟩
def Pd:Cut SN:=⟨[(5, .vh 1005),(6, .vh 1006)],[(1005, .vec 44 (.st .itemT)),(1006, .vec 65 (.st .partT))]⟩
def RB:Cut SN:=⟨[(2, .dat (.sl (.st .itemT))),(3, .dat (.sl (.st .partT)))],[]⟩
def ST:ax vw:=shL [(0,Pd)] RB
def QI:Sig vw:=sg [.dat .str] RB [.tmp 2, .tmp 3]
noncomputable def mc(v:(List (List aD))×Int×(List Item)×(List od)×Unit):Option (((List Item)×(List od)×Unit)):=if decide (v.2.1<(↑v.1.length:Int))=true then(if 0<=v.2.1 then v.1[v.2.1.toNat]?>>=λx1=>K2 (x1,())>>=λx2=>jm (x2.1,v.2.2.1,())>>=λx3=>if x3.2.1.length=v.2.2.1.length then if x3.1=true then if x3.2.1.length+[x3.2.2.1].length<=4294967296 then some ((v.1,v.2.1,x3.2.1++[x3.2.2.1],v.2.2.2.1,()))else none else L3 (x2.1,())>>=λx4=>if v.2.2.2.1.length+[od.mk (i64.wrap (v.2.1+1)) x4.1].length<=4294967296 then some ((v.1,v.2.1,x3.2.1,v.2.2.2.1++[od.mk (i64.wrap (v.2.1+1)) x4.1],()))else none else none else none)>>=λx1=>mc (x1.1,i64.wrap (x1.2.1+1),x1.2.2.1,x1.2.2.2.1,())else some ((v.2.2.1,v.2.2.2.1,())) partial_fixpoint
noncomputable def OC(v:ByteArray×Unit):Option ((List Item)×(List od)×Unit):=L2 (v.1,())>>=λx1=>mc (x1.1,(0:Int),[],[],())>>=λx2=>some ((x2.1,x2.2.1,()))
def DB:bz vw:=λA fid args S k=>match fid with|49=>aP prog N6 L2 A args S k|50=>aP prog N7 L3 A args S k|51=>aP prog N8 K2 A args S k|70=>(match args with|[_, .vh _]=>eP prog sk jm A args S k|_=>none)|_=>none
def x38:Xc vw:=mX prog 45 DB ST [(6,Kn,[.norm])] [] [(5,⟨Kn,[.exit 0],mc⟩)]
theorem uC:ay prog DB:=λA fid args S dst k r h=>by
 unfold DB at h
 split at h
 ·exact ak (EK) rfl rfl h
 ·exact ak (EM) rfl rfl h
 ·exact ak (yj) rfl rfl h
 ·split at h
  ·exact dq (vo) h
  ·cases h
 ·cases h
theorem EH:dU x38 (ai (af Tryz.f38) 0) ⟨Kn,[.exit 0],mc⟩:=lp0 mc.partial_correctness uC
theorem KY:aq prog 38 QI OC:=fn1 x38 Tryz.func38 uC EH
end Go.Proofs.YtpelkenpapfadaaGreatDoor
end
section
namespace Go.Proofs.YtpelkenpapfadaaGreatDoor
open Go.Awp Go.Tx
open IntKind (i64)
open Go.Proofs.Tryz (prog)
set_option maxHeartbeats 4000000
set_option maxRecDepth 100000
def Mu:Cut SN:=⟨[(4, .vh 1004),(11, .dat (.sl (.sl .str))),(12, .dat (.int .i64)),(13, .dat (.int .i64))],[(1004, .vec 9 .str)]⟩
def O4:Cut SN:=⟨[(4, .vh 1004)],[(1004, .vec 9 .str)]⟩
def Jo:Cut SN:=⟨[(2, .dat (.sl .str)),(3, .dat (.int .i64))],[]⟩
def SG:ax vw:=shL [(0,O4)] Jo
def Qx:Sig vw:=sg [.dat .str] Jo [.tmp 2, .tmp 3]
noncomputable def lU(v:(List (List ByteArray))×Int×Int×(List ByteArray)×Unit):Option (((List ByteArray)×Unit)):=if decide (v.2.2.1<v.2.1)=true then if 0<=v.2.2.1 then v.1[v.2.2.1.toNat]?>>=λx1=>LZ (x1,())>>=λx2=>if v.2.2.2.1.length+[x2.1].length<=4294967296 then lU (v.1,v.2.1,i64.wrap (v.2.2.1+1),v.2.2.2.1++[x2.1],())else none else none else some ((v.2.2.2.1,())) partial_fixpoint
noncomputable def Ov(v:ByteArray×Unit):Option ((List ByteArray)×Int×Unit):=if decide ((↑v.1.size:Int)>4096)=true then some (([],(3:Int),()))else LY (v.1,())>>=λx1=>lU (x1.1,(↑x1.1.length:Int),(0:Int),[],())>>=λx2=>some ((x2.1,(0:Int),()))
def Du:=kP yg (kP yh k0)
def x13:Xc vw:=mX prog 24 Du.1 SG [] [] [(5,⟨Mu,[.exit 0],lU⟩)]
theorem Ev:dU x13 (ai (af Tryz.f13) 0) ⟨Mu,[.exit 0],lU⟩:=lp0 lU.partial_correctness Du.2
theorem KQ:aq prog 13 Qx Ov:=fn1 x13 Tryz.func13 Du.2 Ev
def Mx:Cut SN:=⟨[(0, .dat (.sl .str)),(1, .dat (.sl .str)),(5, .dat (.int .i64))],[]⟩
def SH:ax vw:=shL [(0,uq)] iW
def Qy:Sig vw:=sg [.dat (.sl .str), .dat (.sl .str)] iW [.tmp 4]
noncomputable def nG(v:(List ByteArray)×(List ByteArray)×Int×Unit):Option (((Bool×Unit)⊕(Unit))):=if decide (v.2.2.1<(↑v.1.length:Int))=true then if 0<=v.2.2.1 then v.1[v.2.2.1.toNat]?>>=λx1=>if 0<=v.2.2.1 then v.2.1[v.2.2.1.toNat]?>>=λx2=>if(!x1.toList==x2.toList)=true then some (UR (false,()))else nG (v.1,v.2.1,i64.wrap (v.2.2.1+1),())else none else none else some (UW ()) partial_fixpoint
noncomputable def LX(v:(List ByteArray)×(List ByteArray)×Unit):Option (Bool×Unit):=if((↑v.1.length:Int) !=(↑v.2.1.length:Int))=true then some ((false,()))else nG (v.1,v.2.1,(0:Int),())>>=λx1=>match x1 with| .inl y1=>some y1| .inr y1=>some ((true,()))
def x15:Xc vw:=mX prog 26 c0 SH [] [] [(4,⟨Mx,[.ret, .exit 0],nG⟩)]
theorem Ew:dU x15 (ai (af Tryz.f15) 0) ⟨Mx,[.ret, .exit 0],nG⟩:=lp0 nG.partial_correctness bI
theorem KR:aq prog 15 Qy LX:=fn1 x15 Tryz.func15 bI Ew
def MB:Cut SN:=⟨[(4, .dat (.sl (.sl (.st .tokenT)))),(5, .vh 1005),(6, .dat (.int .i64))],[(1005, .vec 9 .str)]⟩
def O7:Cut SN:=⟨[(5, .vh 1005)],[(1005, .vec 9 .str)]⟩
def SJ:ax vw:=shL [(0,O7)] Jo
def QA:Sig vw:=sg [.dat .str] Jo [.tmp 2, .tmp 3]
noncomputable def lZ(v:(List (List aD))×Int×(List ByteArray)×Unit):Option (((List ByteArray)×Unit)):=if decide (v.2.1<(↑v.1.length:Int))=true then if 0<=v.2.1 then v.1[v.2.1.toNat]?>>=λx1=>K2 (x1,())>>=λx2=>L3 (x2.1,())>>=λx3=>if v.2.2.1.length+[x3.1].length<=4294967296 then lZ (v.1,i64.wrap (v.2.1+1),v.2.2.1++[x3.1],())else none else none else some ((v.2.2.1,())) partial_fixpoint
noncomputable def Ox(v:ByteArray×Unit):Option ((List ByteArray)×Int×Unit):=Nv (v.1,())>>=λx1=>if x1.1=true then some (([],(3:Int),()))else L2 (v.1,())>>=λx2=>lZ (x2.1,(0:Int),[],())>>=λx3=>some ((x3.1,(0:Int),()))
def Dx:=kP yi (kP EK (kP EM (kP yj k0)))
def x25:Xc vw:=mX prog 27 Dx.1 SJ [] [] [(6,⟨MB,[.exit 0],lZ⟩)]
theorem EA:dU x25 (ai (af Tryz.f25) 0) ⟨MB,[.exit 0],lZ⟩:=lp0 lZ.partial_correctness Dx.2
theorem KT:aq prog 25 QA Ox:=fn1 x25 Tryz.func25 Dx.2 EA
def R0:ax vw:=shL [(0,mE),(1,fk),(3,bE),(5,bE)] Ot
def QN:Sig vw:=sg [.dat .str] Ot [.tmp 2]
noncomputable def mh(v:ByteArray×Int×Int×(List ByteArray)×Unit):Option ((ByteArray×Int×Int×(List ByteArray)×Unit)):=(if decide (i64.wrap (v.2.1+v.2.2.1)<(↑v.1.size:Int))=true then if 0<=i64.wrap (v.2.1+v.2.2.1)then v.1[(i64.wrap (v.2.1+v.2.2.1)).toNat]?>>=λx1=>JJ ((↑x1.toNat:Int),())>>=λx2=>if x2.1=true then some ((v.1,v.2.1,v.2.2.1,true,v.2.2.2.1,()))else if 0<=i64.wrap (v.2.1+v.2.2.1)then v.1[(i64.wrap (v.2.1+v.2.2.1)).toNat]?>>=λx3=>G8 ((↑x3.toNat:Int),())>>=λx4=>some ((v.1,v.2.1,v.2.2.1,x4.1,v.2.2.2.1,()))else none else none else some ((v.1,v.2.1,v.2.2.1,false,v.2.2.2.1,())))>>=λx1=>if x1.2.2.2.1=true then mh (x1.1,x1.2.1,i64.wrap (x1.2.2.1+1),x1.2.2.2.2.1,())else some ((x1.1,x1.2.1,x1.2.2.1,x1.2.2.2.2.1,())) partial_fixpoint
noncomputable def iu(v:ByteArray×Int×Int×(List ByteArray)×Unit):Option ((ByteArray×Int×Int×(List ByteArray)×Unit)):=(if decide (i64.wrap (v.2.1+v.2.2.1)<(↑v.1.size:Int))=true then if 0<=i64.wrap (v.2.1+v.2.2.1)then v.1[(i64.wrap (v.2.1+v.2.2.1)).toNat]?>>=λx1=>G8 ((↑x1.toNat:Int),())>>=λx2=>some ((v.1,v.2.1,v.2.2.1,x2.1,v.2.2.2.1,()))else none else some ((v.1,v.2.1,v.2.2.1,false,v.2.2.2.1,())))>>=λx1=>if x1.2.2.2.1=true then iu (x1.1,x1.2.1,i64.wrap (x1.2.2.1+1),x1.2.2.2.2.1,())else some ((x1.1,x1.2.1,x1.2.2.1,x1.2.2.2.2.1,())) partial_fixpoint
noncomputable def jh(v:ByteArray×Int×(List ByteArray)×Unit):Option (((List ByteArray)×Unit)):=if decide (v.2.1<(↑v.1.size:Int))=true then(if 0<=v.2.1 then v.1[v.2.1.toNat]?>>=λx1=>(if((↑x1.toNat:Int)==32)=true then some ((v.1,v.2.1,(1:Int),(↑x1.toNat:Int),true,v.2.2.1,()))else if((↑x1.toNat:Int)==9)=true then some ((v.1,v.2.1,(1:Int),(↑x1.toNat:Int),true,v.2.2.1,()))else some ((v.1,v.2.1,(1:Int),(↑x1.toNat:Int),(↑x1.toNat:Int)==10,v.2.2.1,())))>>=λx2=>if x2.2.2.2.2.1=true then some (UW (x2.1,i64.wrap (x2.2.1+1),x2.2.2.2.2.2.1,()))else JJ (x2.2.2.2.1,())>>=λx3=>if x3.1=true then mh (x2.1,x2.2.1,x2.2.2.1,x2.2.2.2.2.2.1,())>>=λx4=>some (UR (x4.1,x4.2.1,x4.2.2.1,x4.2.2.2.1,()))else G8 (x2.2.2.2.1,())>>=λx4=>if x4.1=true then iu (x2.1,x2.2.1,x2.2.2.1,x2.2.2.2.2.2.1,())>>=λx5=>some (UR (x5.1,x5.2.1,x5.2.2.1,x5.2.2.2.1,()))else some (UR (x2.1,x2.2.1,x2.2.2.1,x2.2.2.2.2.2.1,()))else none)>>=λx1=>match x1 with| .inl y1=>if 0<=y1.2.1/\y1.2.1<=i64.wrap (y1.2.1+y1.2.2.1)/\i64.wrap (y1.2.1+y1.2.2.1)<=(↑y1.1.size:Int)then if y1.2.2.2.1.length+[y1.1.extract y1.2.1.toNat (i64.wrap (y1.2.1+y1.2.2.1)).toNat].length<=4294967296 then jh (y1.1,i64.wrap (y1.2.1+y1.2.2.1),y1.2.2.2.1++[y1.1.extract y1.2.1.toNat (i64.wrap (y1.2.1+y1.2.2.1)).toNat],())else none else none| .inr y1=>jh (y1.1,y1.2.1,y1.2.2.1,())else some ((v.2.2.1,())) partial_fixpoint
noncomputable def OG(v:ByteArray×Unit):Option ((List ByteArray)×Unit):=jh (v.1,(0:Int),[],())>>=λx1=>some ((x1.1,()))
def uD:=kP yk (kP yl k0)
def x52:Xc vw:=mX prog 86 uD.1 R0 [(14,bE,[.norm, .exit 1])] [(6,rI),(9,rJ),(12,oP)] [(3,⟨fk,[.exit 0],jh⟩),(9,⟨bE,[.exit 3],mh⟩),(12,⟨bE,[.exit 5],iu⟩)]
theorem EQ:dU x52 (ai (ai (af Tryz.f52) 0) 0) ⟨bE,[.exit 3],mh⟩:=lp0 mh.partial_correctness uD.2
theorem BE:dU x52 (ai (ai (af Tryz.f52) 0) 1) ⟨bE,[.exit 5],iu⟩:=lp0 iu.partial_correctness uD.2
theorem EP(C:Ctx)(hP:C.P=prog)(hN:C.N=86/\Fx C kp):dB C (ai (af Tryz.f52) 0) (sh:=R0) {cut:=fk,alts:=[.exit 0],F:=jh}:=
 lpB (X:=x52) jh.partial_correctness hP hN Ty.mixed uD.2 (Ou (by kernel_rfl) (by kernel_rfl) (by kernel_rfl) (EQ C hP hN) (BE C hP hN)) λF v=>by kernel_rfl
theorem K3:aq prog 52 QN OG:=fn1 x52 Tryz.func52 uD.2 EP
def SK:ax vw:={rcut:=Jo}
def QB:Sig vw:=sg [.dat .str] Jo [.tmp 2, .tmp 3]
noncomputable def Oy(v:ByteArray×Unit):Option ((List ByteArray)×Int×Unit):=if decide ((↑v.1.size:Int)>4096)=true then some (([],(3:Int),()))else OG (v.1,())>>=λx1=>some ((x1.1,(0:Int),()))
def Jv:=kP K3 k0
def x26:Xc vw:=mX prog 9 Jv.1 SK [] [] []
theorem KU:aq prog 26 QB Oy:=fn0 x26 Tryz.func26 Jv.2
def SL:ax vw:={rcut:=Jo}
def QC:Sig vw:=sg [.dat .str] Jo [.tmp 2, .tmp 3]
noncomputable def Oz(v:ByteArray×Unit):Option ((List ByteArray)×Int×Unit):=Nv (v.1,())>>=λx1=>if x1.1=true then some (([],(3:Int),()))else Nx (v.1,())>>=λx2=>K2 (x2.1,())>>=λx3=>some ((x3.1,(0:Int),()))
def Jw:=kP yi (kP yj (kP ER k0))
def x27:Xc vw:=mX prog 9 Jw.1 SL [] [] []
theorem KV:aq prog 27 QC Oz:=fn0 x27 Tryz.func27 Jw.2
def Dr:Cut SN:=⟨[(0, .bp 100000 0)],[(100000, .box (some 83) [.np 100000, .vh 3001]),(3001, .vec 5 (.int .u8))]⟩
def CM:Sig vw:={params:=[.bp 100000 0],objs:=[(100000, .box (some 83) [.np 100000, .vh 100001]),(100001, .vec 5 (.int .u8))],rcut:=Dr,rvars:=[],keep:=[100000,3001]}
noncomputable def pQ(v:Bool×(List Int)×Unit):Option (Bool×(List Int)×Unit):=some (true,v.2.1,())
theorem vv:aq prog 90 CM pQ:=λv r x h hx=>by
 obtain⟨bl,xs,u⟩:=v
 cases h;cases hx
 exact bj (by kernel_rfl) (gr.copyCheck (P:=prog) (f:=90) (T:=83) (rest:=[]) (by kernel_rfl)
  (Any.Builder_copyCheck_fresh (P:=prog) (ρ:=Tryz.lays156_ren) {Tryz.lays156 with} Tryz.Builder_Extra_156.toX72)
  (Any.Builder_copyCheck_used (P:=prog) (ρ:=Tryz.lays156_ren) {Tryz.lays156 with} Tryz.Builder_Extra_156.toX72)
  (g:=100000) (m:=100001) (c:=3001) (l:=xs.length) (bl:=bl) (e:=5) (sz:=1) (rows:=xs.map λy=>Go.Tx.dc szN Hn (.int .u8) y) (by decide) (by decide) (by decide))
def ut:Cut SN:=⟨[(0, .bp 100000 0),(4, .dat (.int .i64)),(5, .nif)],[(100000, .box (some 83) [.np 100000, .vh 3001]),(3001, .vec 5 (.int .u8))]⟩
def FX:ax vw:={rcut:=ut}
def CE:Sig vw:={params:=[.bp 100000 0, .dat .str],objs:=[(100000, .box (some 83) [.np 100000, .vh 100001]),(100001, .vec 5 (.int .u8))],rcut:=ut,rvars:=[.tmp 4, .tmp 5],keep:=[100000,3001]}
noncomputable def pO(v:ByteArray×Bool×(List Int)×Unit):Option (Int×Bool×(List Int)×Unit):=pQ (v.2.1,v.2.2.1,())>>=λx1=>if x1.2.1.length+v.1.size<=4294967296 then some (((↑v.1.size:Int),x1.1,x1.2.1++Bs.ints v.1,()))else none
def oU:=kO vv k0
def I6:Xc vw:=mX prog 19 oU.1 FX [] [] []
theorem vk:aq prog 54 CE pO:=fn0 I6 Tryz.func54 oU.2
def QP:Sig vw:=sg [.dat (.int .i64)] Km [.tmp 2]
noncomputable def L4(v:Int×Unit):Option (ByteArray×Unit):=if-9223372036854775808<=v.1/\v.1<=9223372036854775807 then some (⟨(Lib.itoa v.1).toArray⟩,())else none
theorem EU:aq prog 55 QP L4:=λv r x h hx=>by
 obtain⟨n,u⟩:=v
 unfold L4 at h
 split at h
 ·rename_i hc
  obtain⟨h0,h1⟩:=hc
  simp only at h0 h1
  cases h;cases hx
  exact bj (by kernel_rfl) (gr.pure (P:=prog) (f:=55) (args:=[.d (.v (.int .i64 n))]) (r:= .d (.v (.string ⟨(Lib.itoa n).toArray⟩))) (by kernel_rfl) λE M w vs hg hm hv=>by
   obtain⟨v1,rfl,h2⟩:=gD hv
   rw[h2.dv]
   exact(Tryz.strconv_Itoa n h0 h1 w (Gb hg hm)).mono λe w' ⟨he,k,os,hw⟩=>⟨_,he, .d (.v _),hw▸Lib.below_grow _ w (Us _) k os⟩)
 ·cases h
def FY:ax vw:={rcut:=Km}
def CF:Sig vw:={params:=[.bp 100000 0],objs:=[(100000, .box (some 83) [.np 100000, .vh 100001]),(100001, .vec 5 (.int .u8))],rcut:=Km,rvars:=[.tmp 2]}
noncomputable def pP(v:Bool×(List Int)×Unit):Option (ByteArray×Unit):=if(↑v.2.1.length:Int)=(↑v.2.1.length:Int)/\v.2.1.length<=4294967296 then some ((Bs.bytes v.2.1,()))else none
def I7:Xc vw:=mX prog 14 c0 FY [] [] []
theorem vl:aq prog 56 CF pP:=fn0 I7 Tryz.func56 bI
def MC:Cut SN:=⟨[(4, .dat (.sl (.sl .str))),(7, .bp 7 0),(20, .dat (.sl (.int .i64))),(21, .dat (.int .i64)),(22, .dat (.int .i64))],[(7, .box (some 83) [.np 7, .vh 3071]),(3071, .vec 5 (.int .u8))]⟩
def O9:Cut SN:=⟨[(4, .dat (.sl (.sl .str))),(6, .dat (.sl (.int .i64))),(7, .bp 7 0)],[(7, .box (some 83) [.np 7, .vh 3071]),(3071, .vec 5 (.int .u8))]⟩
def O8:Cut SN:=⟨[(7, .bp 7 0)],[(7, .box (some 83) [.np 7, .vh 3071]),(3071, .vec 5 (.int .u8))]⟩
def Or:Cut SN:=⟨[(2, .dat .str),(3, .dat (.int .i64))],[]⟩
def SM:ax vw:=shL [(0,O8)] Or
def QD:Sig vw:=sg [.dat .str] Or [.tmp 2, .tmp 3]
noncomputable def l8(v:(List (List ByteArray))×(List Int)×Int×Int×Bool×(List Int)×Unit):Option ((Bool×(List Int)×Unit)):=if decide (v.2.2.2.1<v.2.2.1)=true then if 0<=v.2.2.2.1 then v.2.1[v.2.2.2.1.toNat]?>>=λx1=>L4 (i64.wrap (x1+1),())>>=λx2=>if x2.1.size+(T3 #[58,32]).size<=4294967296 then if 0<=x1 then v.1[x1.toNat]?>>=λx3=>LZ (x3,())>>=λx4=>if(x2.1++T3 #[58,32]).size+x4.1.size<=4294967296 then if(x2.1++T3 #[58,32]++x4.1).size+(T3 #[10]).size<=4294967296 then pO (x2.1++T3 #[58,32]++x4.1++T3 #[10],v.2.2.2.2.1,v.2.2.2.2.2.1,())>>=λx5=>l8 (v.1,v.2.1,v.2.2.1,i64.wrap (v.2.2.2.1+1),x5.2.1,x5.2.2.1,())else none else none else none else none else none else some ((v.2.2.2.2.1,v.2.2.2.2.2.1,())) partial_fixpoint
noncomputable def OA(v:ByteArray×Unit):Option (ByteArray×Int×Unit):=if decide ((↑v.1.size:Int)>4096)=true then some ((T3 #[],(3:Int),()))else LY (v.1,())>>=λx1=>Nu (x1.1,())>>=λx2=>some (x1.1,x2.1,false,[],())>>=λx3=>l8 (x3.1,x3.2.1,(↑x3.2.1.length:Int),(0:Int),x3.2.2.1,x3.2.2.2.1,())>>=λx4=>pP (x4.1,x4.2.1,())>>=λx5=>some ((x5.1,(0:Int),()))
def Dy:=kP yg (kP EF (kP yh (kO vk (kP EU (kO vl k0)))))
def x28:Xc vw:=mX prog 40 Dy.1 SM [] [(5,O9)] [(7,⟨MC,[.exit 0],l8⟩)]
theorem EB:dU x28 (ai (af Tryz.f28) 0) ⟨MC,[.exit 0],l8⟩:=lp0 l8.partial_correctness Dy.2
theorem KW:aq prog 28 QD OA:=fn1 x28 Tryz.func28 Dy.2 EB
def MD:Cut SN:=⟨[(5, .dat (.sl (.st .partT))),(6, .dat .str),(7, .dat (.int .i64))],[]⟩
def O_:Cut SN:=⟨[(6, .dat .str)],[]⟩
def SO:ax vw:=shL [(0,O_)] Or
def QE:Sig vw:=sg [.dat .str] Or [.tmp 2, .tmp 3]
noncomputable def l9(v:(List od)×ByteArray×Int×Unit):Option ((ByteArray×Unit)):=if decide (v.2.2.1<(↑v.1.length:Int))=true then if 0<=v.2.2.1 then v.1[v.2.2.1.toNat]?>>=λx1=>L4 (x1.number,())>>=λx2=>if x2.1.size+(T3 #[58,32]).size<=4294967296 then if 0<=v.2.2.1 then v.1[v.2.2.1.toNat]?>>=λx3=>if(x2.1++T3 #[58,32]).size+x3.text.size<=4294967296 then if(x2.1++T3 #[58,32]++x3.text).size+(T3 #[10]).size<=4294967296 then if v.2.1.size+(x2.1++T3 #[58,32]++x3.text++T3 #[10]).size<=4294967296 then l9 (v.1,v.2.1++(x2.1++T3 #[58,32]++x3.text++T3 #[10]),i64.wrap (v.2.2.1+1),())else none else none else none else none else none else none else some ((v.2.1,())) partial_fixpoint
noncomputable def OB(v:ByteArray×Unit):Option (ByteArray×Int×Unit):=Nv (v.1,())>>=λx1=>if x1.1=true then some ((T3 #[],(3:Int),()))else OC (v.1,())>>=λx2=>l9 (x2.2.1,T3 #[],(0:Int),())>>=λx3=>some ((x3.1,(0:Int),()))
def Dz:=kP yi (kP KY (kP EU k0))
def x29:Xc vw:=mX prog 38 Dz.1 SO [] [] [(6,⟨MD,[.exit 0],l9⟩)]
theorem EC:dU x29 (ai (af Tryz.f29) 0) ⟨MD,[.exit 0],l9⟩:=lp0 l9.partial_correctness Dz.2
theorem KX:aq prog 29 QE OB:=fn1 x29 Tryz.func29 Dz.2 EC
def sh6:ax vw:={rcut:=dn}
def Tm:Sig vw:=sg [.dat .str] dn [.tmp 2]
noncomputable def n_6(v:ByteArray×Unit):Option (Bool×Unit):=if decide ((↑v.1.size:Int)>6000)=true then Nq ()>>=λx1=>some ((x1.1,()))else Ov (v.1,())>>=λx1=>Ox (v.1,())>>=λx2=>Oy (v.1,())>>=λx3=>Oz (v.1,())>>=λx4=>OA (v.1,())>>=λx5=>OB (v.1,())>>=λx6=>(LX (x1.1,x2.1,())>>=λx7=>if x7.1=true then if(x1.2.1==x2.2.1)=true then LX (x3.1,x4.1,())>>=λx8=>if x8.1=true then if(x3.2.1==x4.2.1)=true then if(x5.1.toList==x6.1.toList)=true then if(x5.2.1==x6.2.1)=true then Nq ()>>=λx9=>some ((x9.1,()))else some ((false,()))else some ((false,()))else some ((false,()))else some ((false,()))else some ((false,()))else some ((false,())))>>=λx7=>some ((x7.1,()))
def MO:=kP KN (kP KQ (kP KR (kP KT (kP KU (kP KV (kP KW (kP KX k0)))))))
def x6:Xc vw:=mX prog 80 MO.1 sh6 [] [(9,dn)] []
theorem Ny:aq prog 6 Tm n_6:=fn0 x6 Tryz.func6 MO.2
end Go.Proofs.YtpelkenpapfadaaGreatDoor
end
section
namespace Go.Proofs.YtpelkenpapfadaaGreatDoor
set_option maxRecDepth 20000
open Go.Lib
theorem br(s:ByteArray):s.data.toList.length=s.size:=Vj
theorem qu(s:ByteArray):∀(n i:Nat) (r:List UInt8),s.size-i=n->WN s i r=r.reverse++s.data.toList.drop i
 |0,i,r,h=>by
  have hs:=br s
  rw[WN,XJ (by omega),Vz (by omega),U0]
 |n+1,i,r,h=>by
  have hs:=br s
  have hi:i<s.data.toList.length:=by omega
  rw[WN,XK (by omega),qu s n (i+1) _ (by omega),VC hi,List.reverse_cons,UQ]
  have:s.get! i=s.data.toList[i]:=by
   have:=getD_get!' s i
   rw[<-this,Uu,Ub hi];rfl
  rw[this];rfl
theorem eB(s:ByteArray):s.toList=s.data.toList:=by
 unfold ByteArray.toList
 rw[qu s _ 0 [] rfl];simp
theorem zn{a b:ByteArray}(h:a.data.toList=b.data.toList):a=b:=by
 cases a;cases b;simp only at h;congr 1;exact VO.mp h
theorem aI(a b:ByteArray):(a.toList==b.toList)=decide (a=b):=by
 rw[eB,eB]
 by_cases h:a=b
 ·subst h;simp
 ·rw[decide_eq_false h]
  exact beq_eq_false_iff_ne.mpr λh2=>h (zn h2)
theorem eg{α:Type}{xs:List α}{k:Nat}(h:k<xs.length):∃p,xs[k]?=some p/\p∈xs/\xs.drop k=p::xs.drop (k+1)/\((k:Int)<(xs.length:Int))/\(0:Int)<=(k:Int):=
 let⟨p,a,b,c⟩:=DM h
 ⟨p,a,b,c,by omega,by omega⟩
theorem iE{α:Type}{xs:List α}{k:Nat}(h:¬k<xs.length):xs.drop k=[]/\¬((k:Int)<(xs.length:Int)):=⟨eX h,by omega⟩
theorem eta(l:aa):aa.mk l.kind l.n l.flag l.parts=l:=by cases l;rfl
end Go.Proofs.YtpelkenpapfadaaGreatDoor
end
section
namespace Go.Proofs.YtpelkenpapfadaaGreatDoor
set_option maxRecDepth 20000
open Go.Lib
theorem ba{s:ByteArray}{i:Nat}(h:i<s.size):s[i]?=some (s.data.toList.getD i 0):=by
 have e:s[i]?=some s[i]:=by exact getElem?_pos s i h
 rw[e,Uu,Ub (by rw[br];exact h)];rfl
theorem rm(s:ByteArray)(a b:Nat):(s.extract a b).data.toList=(s.data.toList.take b).drop a:=by
 simp[ByteArray.data_extract,Array.toList_extract,List.extract_eq_take_drop,List.drop_take]
theorem Mh(s:ByteArray):(⟨s.data.toList.toArray⟩:ByteArray)=s:=by cases s;simp
def mkB(l:List UInt8):ByteArray:=⟨l.toArray⟩
theorem bM(l:List UInt8):(mkB l).data.toList=l:=by simp[mkB]
theorem c8(l:List UInt8):(mkB l).size=l.length:=by rw[<-br,bM]
theorem fG(s:ByteArray)(a n:Nat):s.extract a (a+n)=mkB ((s.data.toList.drop a).take n):=by
 apply zn;rw[rm,bM,List.drop_take];congr 1;omega
def xW(n:Int):Bool:=decide (97<=n)&&decide (n<=122)||(decide (65<=n)&&decide (n<=90)||n==95)
def rW(n:Int):Bool:=decide (48<=n)&&decide (n<=57)
def isL(c:UInt8):Bool:=xW c.toNat
def isD(c:UInt8):Bool:=rW c.toNat
def mA(c:UInt8):Bool:=isL c||isD c
def isW(c:UInt8):Bool:=(c.toNat:Int)==32||((c.toNat:Int)==9||(c.toNat:Int)==10)
theorem f86(n:Int):JJ (n,())=some (xW n,()):=by
 unfold JJ xW
 by_cases a:97<=n<;>by_cases b:n<=122<;>by_cases c:65<=n<;>by_cases d:n<=90<;>simp only[ge_iff_le,a,b,c,d,XM,XN,XG,TZ,XH,TY,T0,Vg,Wl,Vx,Wt,UJ,UD,Ve]
theorem f87(n:Int):G8 (n,())=some (rW n,()):=by
 unfold G8 rW
 by_cases a:48<=n<;>simp only[ge_iff_le,a,XM,XN,XG,TZ,XH,TY,T0,Vg,Vx]
theorem f88(n:Int):L5 (n,())=some (xW n,()):=by
 unfold L5 xW
 by_cases a:97<=n<;>by_cases b:n<=122<;>by_cases c:65<=n<;>by_cases d:n<=90<;>simp only[ge_iff_le,a,b,c,d,XM,XN,XG,TZ,XH,TY,T0,Vg,Wl,Vx,Wt,UJ,UD,Ve]
theorem f89(n:Int):Ld (n,())=some (rW n,()):=by
 unfold Ld rW
 by_cases a:48<=n<;>simp only[ge_iff_le,a,XM,XN,XG,TZ,XH,TY,T0,Vg,Vx]
def dH:List UInt8->Nat
 |[]=>0
 |c::r=>if isL c then 1+(r.takeWhile mA).length else if isD c then 1+(r.takeWhile isD).length else 1
theorem bS(c:UInt8)(r:List UInt8):dH (c::r)=if isL c then 1+(r.takeWhile mA).length else if isD c then 1+(r.takeWhile isD).length else 1:=rfl
theorem ef(c:UInt8)(r:List UInt8):1<=dH (c::r):=by rw[bS];(repeat' split)<;>omega
theorem JX{α}(p:α->Bool)(r:List α):(r.takeWhile p).length<=r.length:=(List.takeWhile_sublist p).length_le
theorem nb(l:List UInt8):dH l<=l.length:=by
 cases l with
 |nil=>simp[dH]
 |cons c r=>
  have:=JX mA r
  have:=JX isD r
  rw[bS,Ui];(repeat' split)<;>omega
def j_(i:Nat)(l:List UInt8):List (Nat×List UInt8):=
 match l with
 |[]=>[]
 |c::r=>if isW c then j_ (i+1) r else(i,(c::r).take (dH (c::r)))::j_ (i+dH (c::r)) ((c::r).drop (dH (c::r)))
termination_by l.length
decreasing_by
 ·simp
 ·have:=ef c r;simp only[UV,Ui];omega
theorem da(i:Nat):j_ i []=[]:=by rw[j_]
theorem gY{i:Nat}{c:UInt8}{r:List UInt8}(h:isW c=true):j_ i (c::r)=j_ (i+1) r:=by rw[j_,XK h]
theorem gX{i:Nat}{c:UInt8}{r:List UInt8}(h:isW c=false):j_ i (c::r)=(i,(c::r).take (dH (c::r)))::j_ (i+dH (c::r)) ((c::r).drop (dH (c::r))):=by
 rw[j_,XJ (by rw[h];exact Up)]
theorem Gs{p:UInt8->Bool}(h:p 10=false):∀(a b:List UInt8),(a++10::b).takeWhile p=a.takeWhile p
 |[],b=>by simp[List.takeWhile,h]
 |c::r,b=>by
  rw[Ut,Vv,Vv,Gs h r b]
theorem IJ(a b:List UInt8)(ha:a≠[]):dH (a++10::b)=dH a:=by
 cases a with
 |nil=>exact(ha rfl).elim
 |cons c r=>rw[Ut,bS,bS,Gs (p:=mA) (by decide),Gs (p:=isD) (by decide)]
theorem tN:∀(n:Nat) (a b:List UInt8) (i:Nat),a.length<=n->j_ i (a++10::b)=j_ i a++j_ (i+a.length+1) b
 |n,[],b,i,_=>by
  rw[UN,gY (by decide),da];rfl
 |0,c::r,b,i,h=>by simp at h
 |n+1,c::r,b,i,h=>by
  rw[Ui]at h
  cases hw:isW c with
  |true=>
   rw[Ut,gY hw,gY hw,tN n r b (i+1) (by omega),Ui]
   congr 2;omega
  |false=>
   have h1:=IJ (c::r) b (by simp)
   have h2:=nb (c::r)
   have h3:=ef c r
   rw[Ut]at h1
   rw[Ut,gX hw,gX hw,h1,<-Ut,WT h2,List.drop_append_of_le_length h2,
    tN n _ b _ (by rw[UV,Ui];omega),Ut,UV]
   congr 3;rw[Ui]at h2⊢;omega
theorem tO:∀(n:Nat) (l:List UInt8) (i:Nat),l.length<=n->∀p∈j_ i l,i<=p.1/\p.1<i+l.length
 |n,[],i,_=>by simp[da]
 |0,c::r,i,h=>by simp at h
 |n+1,c::r,i,h=>by
  rw[Ui]at h
  intro p hp
  cases hw:isW c with
  |true=>
   rw[gY hw]at hp
   have:=tO n r (i+1) (by omega) p hp
   rw[Ui];omega
  |false=>
   rw[gX hw]at hp
   rcases Um.1 hp with rfl|hp
   ·simp
   ·have h3:=ef c r
    have h2:=nb (c::r)
    have:=tO n _ _ (by rw[UV,Ui];omega) p hp
    rw[UV]at this
    rw[Ui]at *;omega
theorem gj:∀(n:Nat) (l:List UInt8) (i:Nat),l.length<=n->(j_ i l).length<=l.length
 |n,[],i,_=>by simp[da]
 |0,c::r,i,h=>by simp at h
 |n+1,c::r,i,h=>by
  rw[Ui]at h
  cases hw:isW c with
  |true=>rw[gY hw,Ui];have:=gj n r (i+1) (by omega);omega
  |false=>
   rw[gX hw,Ui,Ui]
   have h3:=ef c r
   have:=gj n ((c::r).drop (dH (c::r))) (i+dH (c::r)) (by rw[UV,Ui];omega)
   rw[UV,Ui]at this;omega
theorem v6(i:Nat)(r:List UInt8):j_ i (35::r)=(i,[35])::j_ (i+1) r:=by
 rw[gX (by decide)]
 have:dH (35::r)=1:=by simp[bS,show isL 35=false by decide,show isD 35=false by decide]
 rw[this];rfl
def qG(t:ByteArray):Prop:=∃c r,t.data.toList=c::r/\(isD c=true->∀x∈r,isD x=true)
theorem JW{α}{p:α->Bool}:∀{l:List α},∀x∈l.takeWhile p,p x=true
 |[],x,h=>by simp at h
 |a::l,x,h=>by
  rw[Vv]at h
  split at h
  ·rename_i ha
   rcases Um.1 h with rfl|h
   ·exact ha
   ·exact JW x h
  ·simp at h
theorem Gt{α}{p:α->Bool}:∀(l:List α),l.take (l.takeWhile p).length=l.takeWhile p
 |[]=>rfl
 |a::l=>by
  rw[Vv]
  split
  ·rw[Ui,Xu,Gt l]
  ·rfl
theorem NA{c:UInt8}(h:isD c=true):isL c=false:=by
 unfold isD rW at h;unfold isL xW
 simp only[Uk,XI]at h
 simp only[UY,Bool.and_eq_false_iff,decide_eq_false_iff_not,beq_eq_false_iff_ne]
 omega
theorem zc:∀(n:Nat) (l:List UInt8) (i:Nat),l.length<=n->∀p∈j_ i l,qG (mkB p.2)
 |n,[],i,_=>by simp[da]
 |0,c::r,i,h=>by simp at h
 |n+1,c::r,i,h=>by
  rw[Ui]at h
  intro p hp
  cases hw:isW c with
  |true=>rw[gY hw]at hp;exact zc n r (i+1) (by omega) p hp
  |false=>
   rw[gX hw]at hp
   have h3:=ef c r
   rcases Um.1 hp with rfl|hp
   ·refine⟨c,r.take (dH (c::r) -1),?_,λhd x hx=> ?_⟩
    ·rw[bM]
     obtain⟨m,hm⟩:∃m,dH (c::r)=m+1:=⟨dH (c::r) -1,by omega⟩
     simp only[hm,Xu,WZ]
    ·have e:dH (c::r)=1+(r.takeWhile isD).length:=by simp[bS,NA hd,hd]
     rw[e,Nat.add_sub_cancel_left,Gt]at hx
     exact JW x hx
   ·exact zc n _ _ (by rw[UV,Ui];omega) p hp
def CP(s:ByteArray):List ByteArray:=(j_ 0 s.data.toList).map λp=>mkB p.2
theorem nc:∀(n:Nat) (l:List UInt8) (i j:Nat),l.length<=n->(j_ i l).map (·.2)=(j_ j l).map (·.2)
 |n,[],i,j,_=>by simp[da]
 |0,c::r,i,j,h=>by simp at h
 |n+1,c::r,i,j,h=>by
  rw[Ui]at h
  cases hw:isW c with
  |true=>rw[gY hw,gY hw];exact nc n r _ _ (by omega)
  |false=>
   rw[gX hw,gX hw,Uj,Uj]
   have h3:=ef c r
   rw[nc n ((c::r).drop (dH (c::r))) _ (j+dH (c::r)) (by rw[UV,Ui];omega)]
theorem IO(s:ByteArray):(CP s).length<=s.size:=by
 unfold CP;rw[Ug,<-br];exact gj _ _ 0 (Us _)
end Go.Proofs.YtpelkenpapfadaaGreatDoor
end
section
namespace Go.Proofs.YtpelkenpapfadaaGreatDoor
set_option maxRecDepth 20000
open Go.Lib
theorem dZ{s:ByteArray}{i:Nat}(h:i<s.size):s.data.toList.drop i=s.data.toList.getD i 0::s.data.toList.drop (i+1):=by
 have h':i<s.data.toList.length:=by rw[br];exact h
 rw[VC h',Uu,Ub h'];rfl
theorem en{s:ByteArray}{i:Nat}(h:¬i<s.size):s.data.toList.drop i=[]:=Vz (by rw[br];omega)
theorem iT{a n:Nat}(h:a+n<=4000000000):IntKind.i64.wrap ((a:Int)+(n:Int))=((a+n:Nat):Int):=(cV (by omega) (by omega)).trans (by omega)
theorem aR{a:Nat}(h:a<=4000000000):IntKind.i64.wrap ((a:Int)+1)=((a+1:Nat):Int):=(cV (by omega) (by omega)).trans (by omega)
--begin 52
theorem PO(s:ByteArray)(hs:s.size<=1000000000)(a:Nat)(out:List ByteArray):∀(m n:Nat),s.size-(a+n)=m->a+n<=s.size->
 cM (s,a,n,out,())=some (s,(a:Int),((n+((s.data.toList.drop (a+n)).takeWhile mA).length:Nat):Int),out,()):=by
 intro m
 induction m with
 |zero=>
  intro n hm hl
  have hlt:¬a+n<s.size:=by omega
  rw[cM]
  simp only[iT (a:=a) (n:=n) (by omega),TY,T0,T8,XG,XH,TZ,T6,T1,T2,XL,XI,T9,hlt,XN,en hlt,V5,Uw,UF]
 |succ m ih=>
  intro n hm hl
  have hlt:a+n<s.size:=by omega
  have h:=ih (n+1) (by omega) (by omega)
  rw[<-Vh]at h
  rw[cM,dZ hlt,Vv]
  cases h1:xW ((s.data.toList.getD (a+n) 0).toNat:Int)with
  |true=>
   have e:mA (s.data.toList.getD (a+n) 0)=true:=by unfold mA isL;rw[h1];rfl
   simp only[iT (a:=a) (n:=n) (by omega),TY,T0,T8,XG,XH,TZ,T6,T1,T2,XL,XI,T9,hlt,XM,ba hlt,f86,h1,aR (a:=n) (by omega),h,e,Ui]
   congr 4;omega
  |false=>
   cases h2:rW ((s.data.toList.getD (a+n) 0).toNat:Int)with
   |true=>
    have e:mA (s.data.toList.getD (a+n) 0)=true:=by unfold mA isL isD;rw[h1,h2];rfl
    simp only[iT (a:=a) (n:=n) (by omega),TY,T0,T8,XG,XH,TZ,T6,T1,T2,XL,XI,T9,hlt,XM,ba hlt,f86,f87,h1,h2,aR (a:=n) (by omega),h,e,Ui]
    congr 4;omega
   |false=>
    have e:mA (s.data.toList.getD (a+n) 0)=false:=by unfold mA isL isD;rw[h1,h2];rfl
    simp only[iT (a:=a) (n:=n) (by omega),TY,T0,T8,XG,XH,TZ,T6,T1,T2,XL,XI,T9,hlt,XM,ba hlt,f86,f87,h1,h2,e,Uw,UF]
theorem M3(s:ByteArray)(hs:s.size<=1000000000)(a:Nat)(out:List ByteArray):∀(m n:Nat),s.size-(a+n)=m->a+n<=s.size->
 ci (s,a,n,out,())=some (s,(a:Int),((n+((s.data.toList.drop (a+n)).takeWhile isD).length:Nat):Int),out,()):=by
 intro m
 induction m with
 |zero=>
  intro n hm hl
  have hlt:¬a+n<s.size:=by omega
  rw[ci]
  simp only[iT (a:=a) (n:=n) (by omega),TY,T0,T8,XG,XH,TZ,T6,T1,T2,XL,XI,T9,hlt,XN,en hlt,V5,Uw,UF]
 |succ m ih=>
  intro n hm hl
  have hlt:a+n<s.size:=by omega
  have h:=ih (n+1) (by omega) (by omega)
  rw[<-Vh]at h
  rw[ci,dZ hlt,Vv]
  cases h2:rW ((s.data.toList.getD (a+n) 0).toNat:Int)with
  |true=>
   have e:isD (s.data.toList.getD (a+n) 0)=true:=h2
   simp only[iT (a:=a) (n:=n) (by omega),TY,T0,T8,XG,XH,TZ,T6,T1,T2,XL,XI,T9,hlt,XM,ba hlt,f87,h2,aR (a:=n) (by omega),h,e,Ui]
   congr 4;omega
  |false=>
   have e:isD (s.data.toList.getD (a+n) 0)=false:=h2
   simp only[iT (a:=a) (n:=n) (by omega),TY,T0,T8,XG,XH,TZ,T6,T1,T2,XL,XI,T9,hlt,XM,ba hlt,f87,h2,e,Uw,UF]
theorem PN(s:ByteArray)(hs:s.size<=1000000000):∀(m a:Nat) (out:List ByteArray),s.size-a<=m->a<=s.size->out.length<=a->
 bQ (s,a,out,())=some (out++(j_ a (s.data.toList.drop a)).map (λp=>mkB p.2),()):=by
 intro m
 induction m with
 |zero=>
  intro a out hm hl ho
  have hlt:¬a<s.size:=by omega
  rw[bQ]
  simp only[TY,T0,T8,XG,XH,TZ,T6,T1,T2,XL,XI,T9,hlt,XN,en hlt,da,UM,U0]
 |succ m ih=>
  intro a out hm hl ho
  by_cases hlt:a<s.size
  ·have hg:=dZ hlt
   have hl0:s.data.toList.drop a=s.data.toList.drop (a+0):=rfl
   rw[bQ]
   cases hw:isW (s.data.toList.getD a 0)with
   |true=>
    have h:=ih (a+1) out (by omega) (by omega) (by omega)
    rw[hg,gY hw,<-h]
    have hw':((((s.data.toList.getD a 0).toNat:Int)==32)=true)\/((((s.data.toList.getD a 0).toNat:Int)==32)=false)/\((((s.data.toList.getD a 0).toNat:Int)==9)=true)\/
     ((((s.data.toList.getD a 0).toNat:Int)==32)=false)/\((((s.data.toList.getD a 0).toNat:Int)==9)=false)/\((((s.data.toList.getD a 0).toNat:Int)==10)=true):=by
     unfold isW at hw
     revert hw
     cases (((s.data.toList.getD a 0).toNat:Int)==32)<;>cases (((s.data.toList.getD a 0).toNat:Int)==9)<;>simp
    rcases hw' with e1|⟨e1,e2⟩|⟨e1,e2,e3⟩
    ·simp only[hlt,XM,XG,T2,T1,T9,ba hlt,e1,TY,T0,aR (a:=a) (by omega)]
    ·simp only[hlt,XM,XG,T2,T1,T9,ba hlt,e1,e2,TZ,XH,TY,T0,aR (a:=a) (by omega)]
    ·simp only[hlt,XM,XG,T2,T1,T9,ba hlt,e1,e2,e3,TZ,XH,TY,T0,aR (a:=a) (by omega)]
   |false=>
    have hw':((((s.data.toList.getD a 0).toNat:Int)==32)=false)/\((((s.data.toList.getD a 0).toNat:Int)==9)=false)/\((((s.data.toList.getD a 0).toNat:Int)==10)=false):=by
     unfold isW at hw
     revert hw
     cases (((s.data.toList.getD a 0).toNat:Int)==32)<;>cases (((s.data.toList.getD a 0).toNat:Int)==9)<;>simp
    obtain⟨e1,e2,e3⟩:=hw'
    have htl:=nb (s.data.toList.drop a)
    rw[UV,br]at htl
    have htp:=ef (s.data.toList.getD a 0) (s.data.toList.drop (a+1))
    rw[<-hg]at htp
    have h:=ih (a+dH (s.data.toList.drop a)) (out++[s.extract a (a+dH (s.data.toList.drop a))]) (by omega) (by omega) (by rw[Uh,T_];omega)
    have hx:out++(j_ a (s.data.toList.drop a)).map (λp=>mkB p.2)=(out++[s.extract a (a+dH (s.data.toList.drop a))])++(j_ (a+dH (s.data.toList.drop a)) (s.data.toList.drop (a+dH (s.data.toList.drop a)))).map (λp=>mkB p.2):=by
     rw[fG,UQ,WL]
     conv=>lhs;rw[hg,gX hw,<-hg,Uj,VY]
    rw[hx,<-h]
    have hout:(out.length+1<=4294967296):=by omega
    have hbd:(a:Int)<=((a+dH (s.data.toList.drop a):Nat):Int)/\((a+dH (s.data.toList.drop a):Nat):Int)<=(s.size:Int):=by omega
    cases h1:xW ((s.data.toList.getD a 0).toNat:Int)with
    |true=>
     have ht:dH (s.data.toList.drop a)=1+((s.data.toList.drop (a+1)).takeWhile mA).length:=by
      rw[hg,bS,XK (show isL _=true from h1)]
     have h9:=PO s hs a out _ 1 rfl (by omega)
     rw[<-ht]at h9
     have h9:cM (s,a,1,out,())=some (s,(a:Int),(dH (s.data.toList.drop a):Int),out,()):=h9
     simp only[hlt,XM,XG,T2,T1,T9,ba hlt,e1,e2,e3,TZ,XH,TY,T0,f86,h1,h9,iT (a:=a) (n:=dH (s.data.toList.drop a)) (by omega),hbd,true_and,and_self,T_,hout]
    |false=>
     cases h2:rW ((s.data.toList.getD a 0).toNat:Int)with
     |true=>
      have ht:dH (s.data.toList.drop a)=1+((s.data.toList.drop (a+1)).takeWhile isD).length:=by
       rw[hg,bS,XJ (by rw[show isL _=false from h1];exact Up),XK (show isD _=true from h2)]
      have h9:=M3 s hs a out _ 1 rfl (by omega)
      rw[<-ht]at h9
      have h9:ci (s,a,1,out,())=some (s,(a:Int),(dH (s.data.toList.drop a):Int),out,()):=h9
      simp only[hlt,XM,XG,T2,T1,T9,ba hlt,e1,e2,e3,TZ,XH,TY,T0,f86,f87,h1,h2,h9,iT (a:=a) (n:=dH (s.data.toList.drop a)) (by omega),hbd,true_and,and_self,T_,hout]
     |false=>
      have ht:dH (s.data.toList.drop a)=1:=by
       rw[hg,bS,XJ (by rw[show isL _=false from h1];exact Up),XJ (by rw[show isD _=false from h2];exact Up)]
      rw[ht]at hbd⊢
      have hw1:IntKind.i64.wrap ((a:Int)+1)=((a+1:Nat):Int):=aR (by omega)
      simp only[hlt,XM,XG,T2,T1,T9,ba hlt,e1,e2,e3,TZ,XH,TY,T0,f86,f87,h1,h2,hw1,hbd,true_and,and_self,T_,hout]
  ·rw[bQ]
   simp only[TY,T0,T8,XG,XH,TZ,T6,T1,T2,XL,XI,T9,hlt,XN,en hlt,da,UM,U0]
theorem f52(s:ByteArray)(hs:s.size<=1000000000):ji (s,())=some (CP s,()):=by
 have h:=PN s hs s.size 0 [] (by omega) (by omega) (by simp)
 rw[ji]
 have h:bQ (s,0,[],())=some (CP s,()):=h
 simp only[h,TY,T0,T8,XG,XH,TZ,T6,T1,T2,XL,XI,T9]
--end 52
end Go.Proofs.YtpelkenpapfadaaGreatDoor
end
section
namespace Go.Proofs.YtpelkenpapfadaaGreatDoor
open IntKind (i64)
set_option maxRecDepth 20000
open Go.Lib
def lines:List UInt8->List (List UInt8)
 |[]=>[[]]
 |c::r=>if c=10 then[]::lines r else match lines r with
  |[]=>[[c]]
  |x::y=>(c::x)::y
theorem jK:∀{l:List UInt8},10∉l->lines l=[l]
 |[],_=>rfl
 |c::r,h=>by
  have h1:¬c=10:=λe=>h (by rw[e];exact Uf)
  rw[lines,XJ h1,jK λe=>h (Ua _ e)]
theorem gG:∀{a b:List UInt8},10∉a->lines (a++10::b)=a::lines b
 |[],b,_=>by rw[UN,lines,XK rfl]
 |c::r,b,h=>by
  have h1:¬c=10:=λe=>h (by rw[e];exact Uf)
  rw[Ut,lines,XJ h1,gG λe=>h (Ua _ e)]
theorem lc:∀l:List UInt8,10∉l\/∃a b,l=a++10::b/\10∉a
 |[]=> .inl (by simp)
 |c::r=>by
  by_cases hc:c=10
  ·exact .inr ⟨[],r,by rw[hc];rfl,by simp⟩
  ·rcases lc r with h|⟨a,b,rfl,h⟩
   ·exact .inl (by simp[UG hc,h])
   ·exact .inr ⟨c::a,b,rfl,by simp[UG hc,h]⟩
theorem lO{M:List UInt8->Prop}(h1:∀l,10∉l->M l)(h2:∀a b,10∉a->M b->M (a++10::b)):∀(n:Nat) (l:List UInt8),l.length<=n->M l
 |n,l,hn=>by
  rcases lc l with h|⟨a,b,rfl,h⟩
  ·exact h1 l h
  ·cases n with
   |zero=>simp at hn
   |succ n=>exact h2 a b h (lO h1 h2 n b (by simp only[Uh,Ui]at hn;omega))
theorem u5:∀l:List UInt8,(lines l).length=l.count 10+1:=λl=>by
 refine lO (M:=λl=>(lines l).length=l.count 10+1) (λl h=> ?_) (λa b h ih=> ?_) l.length l (Us _)
 ·rw[jK h,Wm.2 h];rfl
 ·rw[gG h,Ui,ih,WG,Wm.2 h,Xs];omega
theorem zr(l:List UInt8)(c:UInt8):l.count c<=l.length:=List.count_le_length
theorem D5:∀{a b:List UInt8},10∉a->indexByte (a++10::b) 10=(a.length:Int)
 |[],b,_=>by simp[indexByte]
 |c::r,b,h=>by
  have h1:(c==10)=false:=beq_eq_false_iff_ne.2 λe=>h (by rw[e];exact Uf)
  have h2:=D5 (b:=b) λe=>h (Ua _ e)
  have h3:((r.length:Int)== -1)=false:=beq_eq_false_iff_ne.2 (by omega)
  rw[Ut,indexByte,h1,h2,h3,Ui];simp
def nlB:ByteArray:=T3 #[10]
theorem Ia:nlB.size=1:=rfl
theorem Sk(s:ByteArray):HO (s,nlB,())=some (indexByte s.data.toList 10,()):=rfl
theorem Sj(s:ByteArray):HM (s,nlB,())=some (((s.data.toList.count 10:Nat):Int),()):=rfl
theorem z8{α:Type}(xs:List α)(i:Nat)(x:α)(h:i<xs.length):(xs.set i x).take (i+1)=xs.take i++[x]:=by
 rw[VK,List.take_set_of_le (Us _),WH h];rfl
theorem RV(N:Nat)(hN:N<=2000000000):∀(k i:Nat) (s:ByteArray) (arr:List ByteArray),s.size<=1000000000->s.data.toList.count 10=k->i+k+1=N->arr.length=N->
 ∃s' arr',iv (s,nlB,0,((N-1:Nat):Int),(i:Int),arr,())=some (s',((N-1:Nat):Int),arr',())/\arr'.length=N/\arr'.set (N-1) s'=arr.take i++(lines s.data.toList).map mkB
 |0,i,s,arr,hs,hc,hi,ha=>by
  have hnl:10∉s.data.toList:=Wm.1 hc
  have hi':i=N-1:=by omega
  refine⟨s,arr,?_,ha,?_⟩
  ·rw[iv,<-hi']
   have:¬i<i:=by omega
   simp only[TY,T0,T8,XG,XH,TZ,T6,T1,T2,XL,XI,T9,this,XN]
  ·have h1:=z8 arr i s (by omega)
   have h2:(arr.set i s).take (i+1)=arr.set i s:=UP (by rw[Vk];omega)
   rw[<-hi',<-h2,h1,jK hnl,WD]
   rw[show mkB s.data.toList=s from Mh s]
 |k+1,i,s,arr,hs,hc,hi,ha=>by
  rcases lc s.data.toList with h|⟨a,b,he,h⟩
  ·rw[Wm.2 h]at hc;cases hc
  ·have hsz:s.size=a.length+b.length+1:=by rw[<-br,he];simp;omega
   have hx:=D5 (b:=b) h
   rw[<-he]at hx
   have e1:s.extract 0 a.length=mkB a:=by
    have:=fG s 0 a.length
    rw[UK]at this
    rw[this,he,UT,List.take_left]
   have e2:s.extract (a.length+1) s.size=mkB b:=by
    have:=fG s (a.length+1) (s.size-(a.length+1))
    rw[show a.length+1+(s.size-(a.length+1))=s.size by omega]at this
    rw[this,he]
    congr 1
    rw[show(a++10::b).drop (a.length+1)=b by rw[Xd,Vz (by omega)];simp]
    exact UP (by omega)
   have hcb:(mkB b).data.toList.count 10=k:=by
    rw[bM]
    rw[he,WG,Wm.2 h,Xs]at hc
    omega
   obtain⟨s',arr',j1,j2,j3⟩:=RV N hN k (i+1) (mkB b) (arr.set i (mkB a)) (by rw[c8];omega) hcb (by omega) (by rw[Vk];exact ha)
   refine⟨s',arr',?_,j2,?_⟩
   ·rw[iv]
    have w1:i64.wrap ((a.length:Int)+0)=(a.length:Int):=(cV (by omega) (by omega)).trans (by omega)
    have w2:i64.wrap ((a.length:Int)+(nlB.size:Int))=((a.length+1:Nat):Int):=by rw[Ia];exact aR (by omega)
    have w3:¬((a.length:Int)<0):=by omega
    have w4:i<N-1:=by omega
    have w5:((0:Int)<=0/\(0:Int)<=(a.length:Int)/\(a.length:Int)<=(s.size:Int)):=by omega
    have w6:((0:Int)<=(i:Int)/\(i:Int)<(arr.length:Int)):=by omega
    have w7:(0:Int)<=((a.length+1:Nat):Int)/\((a.length+1:Nat):Int)<=(s.size:Int)/\(s.size:Int)<=(s.size:Int):=by omega
    have w8:arr[i]?=some (arr[i]'(by omega)):=Ub (by omega)
    simp only[Sk,hx,w1,w2,w3,w4,w5,w6,w7,w8,XM,XN,XG,XH,TZ,TY,T0,T1,T9,and_self,aR (a:=i) (by omega),Vs,e1,e2]
    exact j1
   ·rw[j3,he,gG h,bM,z8 arr i _ (by omega),Uj,UQ];rfl
theorem f65(s:ByteArray)(hs:s.size<=1000000000):OH (s,nlB,())=some ((lines s.data.toList).map mkB,()):=by
 have hc:=zr s.data.toList 10
 rw[br]at hc
 obtain⟨s',arr',j1,j2,j3⟩:=RV (s.data.toList.count 10+1) (by omega) _ 0 s (U5 (s.data.toList.count 10+1) (T3 #[])) hs rfl (by omega) (by simp)
 rw[WZ]at j1 j3
 have w1:i64.wrap (((s.data.toList.count 10:Nat):Int)+1)=((s.data.toList.count 10+1:Nat):Int):=aR (by omega)
 have w2:i64.wrap ((s.size:Int)+1)=((s.size+1:Nat):Int):=aR (by omega)
 have w3:min ((s.data.toList.count 10+1:Nat):Int) ((s.size+1:Nat):Int)=((s.data.toList.count 10+1:Nat):Int):=by omega
 have w4:i64.wrap (((s.data.toList.count 10+1:Nat):Int) -1)=((s.data.toList.count 10:Nat):Int):=(cV (by omega) (by omega)).trans (by omega)
 have w5:(nlB.toList==(T3 #[]).toList)=false:=by rw[eB,eB];rfl
 have w6:((s.data.toList.count 10+1:Nat):Int)<=4294967296:=by omega
 have w7:(0:Int)<=((s.data.toList.count 10:Nat):Int)/\((s.data.toList.count 10:Nat):Int)<((s.data.toList.count 10+1:Nat):Int):=by omega
 have w8:(0:Int)<=0/\(0:Int)<=((s.data.toList.count 10+1:Nat):Int)/\((s.data.toList.count 10+1:Nat):Int)<=((s.data.toList.count 10+1:Nat):Int):=by omega
 have w9:arr'[s.data.toList.count 10]?=some (arr'[s.data.toList.count 10]'(by omega)):=Ub (by omega)
 have w10:((-1:Int)==0)=false:=rfl
 have w11:((-1:Int)<0)=True:=by simp
 have j1:iv (s,nlB,0,((s.data.toList.count 10:Nat):Int),(0:Int),U5 (s.data.toList.count 10+1) (T3 #[]),())=some (s',((s.data.toList.count 10:Nat):Int),arr',()):=j1
 have wt:((lines s.data.toList).map mkB).take (s.data.toList.count 10+1)=(lines s.data.toList).map mkB:=UP (by rw[Ug,u5];omega)
 rw[OH,P0]
 simp only[w10,w5,w11,XM,XG,TZ,XH,Sj,TY,T0,w1,w2,w3,w4,T2,w6,T1,j1,j2,Vk,w7,w8,w9,and_self,j3,V2,UN,wt]
def hsh:List UInt8->Bool
 |[]=>false
 |c::_=>c==35
def sL:ByteArray:=T3 #[35]
theorem f66(s:ByteArray):OI (s,sL,())=some (hsh s.data.toList,()):=by
 have hb:=br s
 rw[OI,P1]
 have hz:sL.size=1:=rfl
 have hl:sL.toList=[35]:=by rw[eB];rfl
 cases he:s.data.toList with
 |nil=>
  rw[he]at hb
  have:s.size=0:=by rw[<-hb];rfl
  have h1:¬((s.size:Int)>=(sL.size:Int)):=by rw[this,hz];decide
  simp only[h1,XN,TZ,XH,TY,T0,hsh]
 |cons c r=>
  rw[he,Ui]at hb
  have h1:(s.size:Int)>=(sL.size:Int):=by rw[hz];omega
  have h2:(0:Int)<=0/\(0:Int)<=(sL.size:Int)/\(sL.size:Int)<=(s.size:Int):=by rw[hz];omega
  have h3:(s.extract (U6 0) (U6 (sL.size:Int))).toList=[c]:=by
   rw[eB,Vs,T1,hz,rm,he];rfl
  simp only[h1,h2,XM,XG,and_self,TY,T0,h3,hl,hsh]
  simp
def nX(b st:Bool):List UInt8->List Bool
 |[]=>[]
 |c::r=>(if st then c==35 else b)::nX (if st then c==35 else b) (c==10) r
theorem zt:∀(b st:Bool) (l:List UInt8),(nX b st l).length=l.length
 |_,_,[]=>rfl
 |b,st,c::r=>by rw[nX,Ui,Ui,zt]
theorem RU(s:ByteArray)(hs:s.size<=1000000000):∀(m i:Nat) (b st:Bool) (pre:List Bool),s.size-i=m->i<=s.size->pre.length=i->
 (st=true↔(i=0\/0<i/\s.data.toList.getD (i-1) 0=10))->
 kj (s,b,(i:Int),pre++U5 m false,())=some (pre++nX b st (s.data.toList.drop i),())
 |0,i,b,st,pre,hm,hi,hp,hst=>by
  have hlt:¬i<s.size:=by omega
  rw[kj]
  simp only[TY,T0,T8,XG,XH,TZ,T6,T1,T2,XL,XI,T9,hlt,XN,en hlt,nX,List.replicate_zero]
 |m+1,i,b,st,pre,hm,hi,hp,hst=>by
  have hlt:i<s.size:=by omega
  have hset:∀x:Bool,(pre++U5 (m+1) false).set i x=(pre++[x])++U5 m false:=by
   intro x
   rw[Wq _ _ (by omega),show i-pre.length=0 by omega,List.replicate_succ,W1,UQ];rfl
  have hlen:(0:Int)<=(i:Int)/\(i:Int)<((pre++U5 (m+1) false).length:Int):=by
   rw[Uh,WM];omega
  have hget:(pre++U5 (m+1) false)[i]?=some false:=by
   rw[Uz (by omega),show i-pre.length=0 by omega];rfl
  have key (x:Bool) (e:(if st=true then s.data.toList.getD i 0==35 else b)=x):
   kj (s,x,((i+1:Nat):Int),(pre++[x])++U5 m false,())=some (pre++nX b st (s.data.toList.drop i),()):=by
   rw[dZ hlt,nX,e]
   have:=RU s hs m (i+1) x (s.data.toList.getD i 0==10) (pre++[x]) (by omega) (by omega) (by simp[hp]) (by simp)
   rw[this,UQ];rfl
  have h35:(((s.data.toList.getD i 0).toNat:Int)==35)=(s.data.toList.getD i 0==35):=by
   have:((s.data.toList.getD i 0).toNat=35)↔s.data.toList.getD i 0=35:=⟨λh=>Xh.1 h,λh=>by rw[h];rfl⟩
   by_cases h:s.data.toList.getD i 0=35
   ·rw[h];rfl
   ·rw[beq_eq_false_iff_ne.2 h,beq_eq_false_iff_ne];intro e;exact h (this.1 (by omega))
  rw[kj]
  by_cases h0:i=0
  ·have hs1:st=true:=hst.2 (.inl h0)
   have k:=key (s.data.toList.getD i 0==35) (by rw[hs1,XK rfl])
   have e0:((i:Int)==0)=true:=by rw[h0];rfl
   simp only[e0,XG,TY,T0,T9,hlt,XM,T2,T1,ba hlt,h35,hlen,and_self,hget,hset,aR (a:=i) (by omega)]
   exact k
  ·have e0:((i:Int)==0)=false:=beq_eq_false_iff_ne.2 (by omega)
   have e1:i64.wrap ((i:Int) -1)=((i-1:Nat):Int):=(cV (by omega) (by omega)).trans (by omega)
   have h10:(((s.data.toList.getD (i-1) 0).toNat:Int)==10)=st:=by
    have h10:((s.data.toList.getD (i-1) 0).toNat=10)↔s.data.toList.getD (i-1) 0=10:=⟨λh=>Xh.1 h,λh=>by rw[h];rfl⟩
    by_cases h:s.data.toList.getD (i-1) 0=10
    ·rw[hst.2 (.inr ⟨by omega,h⟩),h];rfl
    ·have:st=false:=by
      cases hst':st with
      |false=>rfl
      |true=>rcases hst.1 hst' with h'|h';exact(h0 h').elim;exact(h h'.2).elim
     rw[this,beq_eq_false_iff_ne];intro e;exact h (h10.1 (by omega))
   cases st with
   |true=>
    have k:=key (s.data.toList.getD i 0==35) (by rw[XK rfl])
    simp only[e0,TZ,XH,e1,ba (s:=s) (i:=i-1) (by omega),h10,XG,TY,T0,T9,hlt,XM,T2,T1,ba hlt,h35,hlen,and_self,hget,hset,aR (a:=i) (by omega)]
    exact k
   |false=>
    have k:=key b (by rw[XJ Up])
    simp only[e0,TZ,XH,e1,ba (s:=s) (i:=i-1) (by omega),h10,XG,TY,T0,T9,hlt,XM,T2,T1,ba hlt,hlen,and_self,hget,hset,aR (a:=i) (by omega)]
    exact k
theorem f85(s:ByteArray)(hs:s.size<=1000000000):ON (s,())=some (nX false true s.data.toList,()):=by
 have h:=RU s hs s.size 0 false true [] (by omega) (by omega) rfl (by simp)
 have h:kj (s,false,0,U5 s.size false,())=some (nX false true s.data.toList,()):=h
 have h1:(s.size:Int)<=4294967296:=by omega
 rw[ON]
 simp only[h1,XG,T1,h,TY,T0]
end Go.Proofs.YtpelkenpapfadaaGreatDoor
end
section
namespace Go.Proofs.YtpelkenpapfadaaGreatDoor
open Go.Tx
set_option maxRecDepth 20000
open Go.Lib
theorem t8{α:Type}:∀xs:List α,Db (xs.map some)=some xs
 |[]=>rfl
 |x::r=>by simp[Db,t8 r]
theorem c7{α:Type}(xs:List α)(k:Nat)(y:α):Db (((xs.map some).set k none).set k (some y))=some (xs.set k y):=by
 rw[W_,<-Wh,t8]
theorem ee{α:Type}(xs:List α)(k:Nat)(h:k<xs.length):((xs.map some).set k none)[k]?=some none:=by
 rw[Vl];simp[h]
def oB:ByteArray:=T3 #[123]
def cB:ByteArray:=T3 #[125]
def sB:ByteArray:=T3 #[59]
theorem oc:¬cB=oB:=λh=>absurd (congrArg (λb:ByteArray=>b.data.toList) h) (by decide)
theorem so:¬sB=oB:=λh=>absurd (congrArg (λb:ByteArray=>b.data.toList) h) (by decide)
theorem sc:¬sB=cB:=λh=>absurd (congrArg (λb:ByteArray=>b.data.toList) h) (by decide)
def opn{α:Type}(out:List (List α))(op:Int):List (List α)×Int:=if op<0 then(out++[[]],(out.length:Int))else(out,op)
def add{α:Type}(out:List (List α))(k:Nat)(t:α):List (List α):=out.set k (out.getD k []++[t])
def nxt(w:ByteArray)(op dp:Int):Int×Int:=if w=oB then(op,dp+1)else if w=cB then(op,max (dp-1) 0)else if w=sB then(if dp=0 then(-1,dp)else(op,dp))else(op,dp)
def cZ{α:Type}(f:α->ByteArray)(st:List (List α)×Int×Int)(t:α):List (List α)×Int×Int:=
 (add (opn st.1 st.2.1).1 (opn st.1 st.2.1).2.toNat t,nxt (f t) (opn st.1 st.2.1).2 st.2.2)
structure Inv {α:Type} (B:Nat) (out:List (List α)) (op dp:Int):Prop where
 op:op= -1\/∃k:Nat,op=k/\k<out.length
 d0:0<=dp
 d1:dp<=B
 len:out.length<=B
 row:∀x∈out,x.length<=B
theorem Inv.opn{α:Type}{B:Nat}{out:List (List α)}{op dp:Int}(h:Inv B out op dp):
 ∃(k:Nat) (out1:List (List α)),opn out op=(out1,(k:Int))/\k<out1.length/\out1.length<=B+1/\(∀x∈out1,x.length<=B)/\
  (op= -1/\out++[[]]=out1/\(out.length:Int)=k\/op=(k:Int)/\out=out1):=by
 have hl:=h.len
 rcases h.op with e|⟨k,e,hk⟩
 ·refine⟨out.length,out++[[]],?_,by simp,by simp;omega,λx hx=> ?_, .inl ⟨e,rfl,rfl⟩⟩
  ·rw[Proofs.YtpelkenpapfadaaGreatDoor.opn,e];rfl
  ·rcases Ur.1 hx with hx|hx
   ·exact h.row x hx
   ·rw[UX.1 hx];simp
 ·exact⟨k,out,by rw[Proofs.YtpelkenpapfadaaGreatDoor.opn,XJ (by omega),e],hk,by omega,h.row, .inr ⟨e,rfl⟩⟩
theorem C8{α:Type}(out:List (List α))(k:Nat)(t:α):(add out k t).length=out.length:=by simp[add]
theorem J8{α:Type}{B:Nat}{out:List (List α)}{k:Nat}{t:α}(h:∀x∈out,x.length<=B):∀x∈add out k t,x.length<=B+1:=by
 intro x hx
 rcases VB hx with hx|rfl
 ·have:=h x hx;omega
 ·rw[Uh,T_]
  by_cases hk:k<out.length
  ·have:out.getD k []∈out:=by rw[Uu,Ub hk];exact Vt hk
   have:=h _ this;omega
  ·rw[Uu,VX (by omega)];simp
theorem Inv.step{α:Type}{f:α->ByteArray}{B:Nat}{out:List (List α)}{op dp:Int}(h:Inv B out op dp)(t:α):Inv (B+1) (cZ f (out,op,dp) t).1 (cZ f (out,op,dp) t).2.1 (cZ f (out,op,dp) t).2.2:=by
 obtain⟨k,out1,e,hk,hl,hr,_⟩:=h.opn
 have h0:=h.d0
 have h1:=h.d1
 unfold cZ
 simp only[e,T1]
 refine⟨?_,?_,?_,by rw[C8];exact hl,J8 hr⟩
 ·unfold nxt;(repeat' split)<;>first|exact .inl rfl|exact .inr ⟨k,rfl,by rw[C8];exact hk⟩
 ·unfold nxt;(repeat' split)<;>(simp only;omega)
 ·unfold nxt;(repeat' split)<;>(simp only;omega)
theorem Inv.mono{α:Type}{B B':Nat}{out:List (List α)}{op dp:Int}(h:Inv B out op dp)(hb:B<=B'):Inv B' out op dp:=
 ⟨h.op,h.d0,by have:=h.d1;omega,by have:=h.len;omega,λx hx=>by have:=h.row x hx;omega⟩
theorem Inv.steps{α:Type}{f:α->ByteArray}:∀(ts:List α) {B:Nat} {out:List (List α)} {op dp:Int},Inv B out op dp->
 Inv (B+ts.length) (ts.foldl (cZ f) (out,op,dp)).1 (ts.foldl (cZ f) (out,op,dp)).2.1 (ts.foldl (cZ f) (out,op,dp)).2.2
 |[],B,out,op,dp,h=>h
 |t::r,B,out,op,dp,h=>by
  have:=Inv.steps (f:=f) r (h.step (f:=f) t)
  rw[Vd,Ui,show B+(r.length+1)=B+1+r.length by omega]
  exact this
theorem PM(ls:List ByteArray)(nl li:Int)(ts:List ByteArray):∀(m j:Nat) (out:List (List ByteArray)) (op dp:Int) (B:Nat),ts.length-j=m->Inv B out op dp->B+m<=1000000000->ts.length<=1000000000->
 ma (op,dp,ls,nl,li,(ts.length:Int),(j:Int),out,ts,())=
  some (((ts.drop j).foldl (cZ id) (out,op,dp)).2.1,((ts.drop j).foldl (cZ id) (out,op,dp)).2.2,ls,nl,li,((ts.drop j).foldl (cZ id) (out,op,dp)).1,()):=by
 intro m
 induction m with
 |zero=>
  intro j out op dp B hm hi hB hts
  have hlt:¬j<ts.length:=by omega
  rw[ma]
  simp only[TY,T0,T8,XG,XH,TZ,T6,T1,T2,XL,XI,T9,hlt,XN,eX hlt,WF]
 |succ m ih=>
  intro j out op dp B hm hi hB hts
  have hlt:j<ts.length:=by omega
  obtain⟨t,hp,hpm,hd,g1,g2⟩:=eg hlt
  obtain⟨k,out1,e,hk,hl,hr,hc⟩:=hi.opn
  have hj:=hi.step (f:=id) t
  have hn:=ih (j+1) _ _ _ (B+1) (by omega) hj (by omega) hts
  have h0:=hi.d0
  have h1:=hi.d1
  have hol:=hi.len
  have hrow:out1[k]?=some (out1.getD k []):=by rw[Uu,Ub hk];rfl
  have hrl:(out1.getD k []).length<=B:=hr _ (by rw[Uu,Ub hk];exact Vt hk)
  have b1:(out1.getD k []).length+1<=4294967296:=by omega
  have b2:out.length+1<=4294967296:=by omega
  have b3:(0:Int)<=(k:Int)/\(k:Int)<(out1.length:Int):=by omega
  have hsl:((out1.map some).set k none).length=out1.length:=by simp
  have g3:(0:Int)<=(j:Int)/\(j:Int)<(ts.length:Int):=⟨g2,g1⟩
  have wd:IntKind.i64.wrap (dp+1)=dp+1:=cV (by omega) (by omega)
  have wd2:IntKind.i64.wrap (dp-1)=dp-1:=cV (by omega) (by omega)
  have x1:(T3 #[123])=oB:=rfl
  have x2:(T3 #[125])=cB:=rfl
  have x3:(T3 #[59])=sB:=rfl
  have hs:cZ id (out,op,dp) t=(out1.set k (out1.getD k []++[t]),nxt t (k:Int) dp):=by
   unfold cZ;simp only[e,T1];rfl
  rw[hd,Vd,hs]
  rw[hs]at hn
  rw[ma]
  have hop:((op<0)=True/\out++[[]]=out1/\(out.length:Int)=k)\/(((k:Int)<0)=False/\op=(k:Int)/\out=out1):=by
   rcases hc with⟨a,b,c⟩|⟨a,b⟩
   ·exact .inl ⟨by rw[a];simp,b,c⟩
   ·exact .inr ⟨by simp,a,b⟩
  by_cases c1:t=oB
  ·have hx:nxt t (k:Int) dp=((k:Int),dp+1):=by rw[nxt,XK c1]
   rw[hx]at hn⊢
   rcases hop with⟨a,b,c⟩|⟨a,b,c⟩<;>(simp only[a,b,c,TY,T0,T8,XG,XH,TZ,T6,T1,T2,XL,XI,T9,hlt,g3,XM,XN,hp,and_self,b2,b3,hrow,T_,b1,hsl,ee _ _ hk,c7,x1,aI,c1,wd,aR (a:=j) (by omega)];rw[c1]at hn;exact hn)
  ·by_cases c2:t=cB
   ·have hx:nxt t (k:Int) dp=((k:Int),max (dp-1) 0):=by rw[nxt,XJ c1,XK c2]
    rw[hx]at hn⊢
    by_cases hd0:dp>0
    ·have hmx:max (dp-1) 0=dp-1:=by omega
     rw[hmx]at hn⊢
     rw[c2]at hn
     rcases hop with⟨a,b,c⟩|⟨a,b,c⟩<;>(simp only[a,b,c,TY,T0,T8,XG,XH,TZ,T6,T1,T2,XL,XI,T9,hlt,g3,XM,XN,hp,and_self,b2,b3,hrow,T_,b1,hsl,ee _ _ hk,c7,x1,x2,x3,aI,c2,oc,hd0,wd2,aR (a:=j) (by omega)];exact hn)
    ·have hmx:max (dp-1) 0=dp:=by omega
     rw[hmx]at hn⊢
     rw[c2]at hn
     have cs:¬cB=sB:=λh=>sc h.symm
     rcases hop with⟨a,b,c⟩|⟨a,b,c⟩<;>(simp only[a,b,c,TY,T0,T8,XG,XH,TZ,T6,T1,T2,XL,XI,T9,hlt,g3,XM,XN,hp,and_self,b2,b3,hrow,T_,b1,hsl,ee _ _ hk,c7,x1,x2,x3,aI,c2,oc,cs,hd0,wd2,aR (a:=j) (by omega)];exact hn)
   ·by_cases c3:t=sB
    ·by_cases hd0:dp=0
     ·have hx:nxt t (k:Int) dp=(-1,dp):=by rw[nxt,XJ c1,XJ c2,XK c3,XK hd0]
      rw[hx]at hn⊢
      rw[c3,hd0]at hn
      rcases hop with⟨a,b,c⟩|⟨a,b,c⟩<;>(simp only[a,b,c,TY,T0,T8,XG,XH,TZ,T6,T1,T2,XL,XI,T9,hlt,g3,XM,XN,hp,and_self,b2,b3,hrow,T_,b1,hsl,ee _ _ hk,c7,x1,x2,x3,aI,c3,so,sc,hd0,beq_self_eq_true,aR (a:=j) (by omega)];exact hn)
     ·have hx:nxt t (k:Int) dp=((k:Int),dp):=by rw[nxt,XJ c1,XJ c2,XK c3,XJ hd0]
      rw[hx]at hn⊢
      rw[c3]at hn
      have hd1:(dp==0)=false:=beq_eq_false_iff_ne.2 hd0
      rcases hop with⟨a,b,c⟩|⟨a,b,c⟩<;>(simp only[a,b,c,TY,T0,XG,XH,TZ,T1,T2,T9,hlt,g3,XM,XN,hp,and_self,b2,b3,hrow,T_,b1,hsl,ee _ _ hk,c7,x1,x2,x3,aI,c3,so,sc,hd1,aR (a:=j) (by omega)];exact hn)
    ·have hx:nxt t (k:Int) dp=((k:Int),dp):=by rw[nxt,XJ c1,XJ c2,XJ c3]
     rw[hx]at hn⊢
     rcases hop with⟨a,b,c⟩|⟨a,b,c⟩<;>(simp only[a,b,c,TY,T0,T8,XG,XH,TZ,T6,T1,T2,XL,XI,T9,hlt,g3,XM,XN,hp,and_self,b2,b3,hrow,T_,b1,hsl,ee _ _ hk,c7,x1,x2,x3,aI,c1,c2,c3,aR (a:=j) (by omega)];exact hn)
end Go.Proofs.YtpelkenpapfadaaGreatDoor
end
