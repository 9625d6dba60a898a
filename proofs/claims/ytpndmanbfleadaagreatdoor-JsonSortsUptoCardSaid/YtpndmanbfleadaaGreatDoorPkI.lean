/-
  Texts of this claim, joined by a program of mine: what the theorem uses.
-/
import Derived.Test.YtpndmanbfleadaaGreatDoorPkF
import Derived.Test.YtpndmanbfleadaaGreatDoorPkC
import Derived.Test.YtpndmanbfleadaaGreatDoorPkG
import Derived.Test.YtpndmanbfleadaaGreatDoorPkH
open Bool renaming eq_false_iff→Ra,false_eq_true→Pe,not_false→PS,not_true→PK,or_eq_false_iff→PM
open ByteArray renaming mk→Oo,size→PR
open Int renaming natCast_zero→PN,ofNat_eq_natCast→Pz
open List renaming append_assoc→O9,append_nil→Pj,cons_append→OG,drop_eq_getElem_cons→Re,drop_eq_nil_of_le→P2,drop_zero→OZ,getElem?_eq_getElem→Ou,getElem?_eq_some_iff→Ol,getElem?_map→Oq,getElem?_of_mem→Py,getElem?_take→OE,getElem?_zip_eq_some→Rc,getElem_mem→Pn,length_append→OJ,length_cons→O_,length_eq_zero_iff→QD,length_map→On,length_nil→Pv,length_pos_iff→Ov,length_reverse→RF,map_append→O6,map_congr_left→OP,map_cons→Ow,map_id→RN,map_nil→O0,mem_append→ON,mem_cons→Oz,mem_cons_of_mem→Ot,mem_cons_self→Ox,mem_map→OT,mem_map_of_mem→OR,mem_of_getElem?→OA,mem_singleton→PE,mergeSort_perm→RE,nil_append→OM,nodup_cons→Pp,not_mem_nil→QX,pairwise_append→Rx,pairwise_cons→P7,pairwise_iff_getElem→Rb,pairwise_map→QJ,pairwise_mergeSort→Rm,reverse_cons→QH,reverse_reverse→Rw,sum_cons→Qu,take_zero→QK,zip_cons_cons→QF
open List.Pairwise renaming nil→Q_
open List.Perm renaming eq_of_pairwise→Rk
open Nat renaming add_assoc→Pl,add_zero→Pd,le_refl→OO,le_trans→Ps,zero_le→Pu
open Option renaming bind_eq_bind→RB,bind_some→PX
open Option.some renaming inj→P_,injEq→Om
open Prod.mk renaming injEq→OV
open Sum renaming inl→Po,inr→PD
noncomputable section
set_option linter.unusedVariables false
set_option linter.unusedSimpArgs false
section
namespace Go.Proofs.YtpndmanbfleadaaGreatDoor
open Go.Awp Go.Tx
open IntKind (i32)
open IntKind (i64)
open Go.Proofs.Tryz (prog)
set_option maxHeartbeats 4000000
set_option maxRecDepth 100000
def oZ:bc vw:={exits:=λid=>match id with|0=>J0|_=>⟨[],[]⟩,rcut:=g9}
def qG:Nat->Bool:=λ_=>false
def lZ:Sig vw:={params:=[Dq3],rcut:=g9,rvars:=[.tmp 2],keep:=[2002]}
noncomputable def cU(v:DI):Option (((List ByteArray)×Unit)):=if decide (v.2.2.1<v.2.1)=true then if(0:Int)<=v.2.2.1 then v.1[v.2.2.1.toNat]?>>=λx1=>n_45 (x1,())>>=λx2=>if v.2.2.2.1.length+x2.1.length<=(4294967296:Nat)then cU (v.1,v.2.1,i64.wrap (v.2.2.1+(1:Int)),v.2.2.2.1++x2.1,())else none else none else some (v.2.2.2) partial_fixpoint
noncomputable def ix(v:Tag×Unit):Option ((List ByteArray)×Unit):=cV (v.1.names,())>>=λx1=>cU (v.1.parts,(↑v.1.parts.length:Int),(0:Int),x1)>>=λx2=>some (x2)
def nD:aB vw:=cP prog 45 lY n_45 (cO prog 53 dO cV c0)
def gR:Xc vw:={P:=prog,n:=22,call:=nD,pre:=qG,sh:=oZ,loops:=λk=>match k with|3=>some {cut:=sV,alts:=[.exit 0],F:=cU}|_=>none}
theorem jk:aj prog nD:=bE Ic rfl rfl (eb eH ci)
theorem pV(C:Ctx)(hP:C.P=prog)(hN:C.N=22/\Fx C qG):bC C (ae (aa Tryz.f45) 0) (sh:=oZ) {cut:=sV,alts:=[.exit 0],F:=cU}:=
 cU.partial_correctness (motive:=λv out=>ea C (ae (aa Tryz.f45) 0) (Go.Tx.az vw (bi vw sV v)) (eL oZ [.exit 0] out)) λF ih v out h=>
  aI (X:=gR) (b:=(ae (aa Tryz.f45) 0)) hP hN Ty.mixed jk (aw (X:=gR) (c:=(ae (aa Tryz.f45) 0)) (an (by kernel_rfl:True=bw (ay C (gR)) (ax (ae (aa Tryz.f45) 0))) trivial)) ih (an (by kernel_rfl) h)
theorem uf:bd prog 45 lZ ix:=λv r x h hx=>
 bk (X:=gR) (sig:=lZ) rfl Tryz.func45 (c:=aa Tryz.f45) (by kernel_rfl) Tryz.ntmps45 (by kernel_rfl) (by kernel_rfl) rfl Ty.mixed jk rfl (λC hP hN=>(aw (an (by kernel_rfl:bw (ay C (gR)) [(ae (aa Tryz.f45) 0)]=bw (ay C (gR)) (ax (aa Tryz.f45))) ⟨bf (X:=gR) (b:=(ae (aa Tryz.f45) 0)) (by kernel_rfl) (pV C hP hN),trivial⟩))) (an (by kernel_rfl) h) x hx
def Ay:Cut SN:=⟨[],[(100000,Oq9)]⟩
def qW:Sig vw:={params:=[.vh 100000],objs:=[(100000,Oq9)],rcut:=Ay,rvars:=[],keep:=[100000]}
noncomputable def gg(v:(List ByteArray)×Unit):Option ((List ByteArray)×Unit):=if v.1.length<4611686018427387904 then some (sortStr v.1,())else none
theorem ug:bd prog 46 qW gg:=λv r x h hx=>by
 obtain⟨xs,u⟩:=v
 unfold gg at h
 split at h
 ·rename_i hc
  cases h;cases hx
  exact an (by kernel_rfl) (c8.sortStr (P:=prog) (f:=46) (te:=9) (a:=100000) (xs:=xs) (by kernel_rfl) (λb o c zs w hH hb hl=>Tryz.slices_Sort_string b o c zs w hH hb hl) (λp c w=>Tryz.slices_Sort_string_none p c w) hc)
 ·cases h
def qX:Sig vw:={params:=[.vh 100000],objs:=[(100000,Oq9)],rcut:=g9,rvars:=[.tmp 2],keep:=[2002]}
noncomputable def gh(v:(List ByteArray)×Unit):Option ((List ByteArray)×Unit):=if v.1.length<=9223372036854775807 then some (compactStr v.1,())else none
theorem uh:bd prog 47 qX gh:=λv r x h hx=>by
 obtain⟨xs,u⟩:=v
 unfold gh at h
 split at h
 ·rename_i hc
  cases h;cases hx
  exact an (by kernel_rfl) (c8.compactStr (P:=prog) (f:=47) (te:=9) (a:=100000) (c:=2002) (xs:=xs) (by kernel_rfl) (λb o c zs w hH hl hc=>Tryz.slices_Compact_string b o c zs w hH hl hc) (λp c w=>Tryz.slices_Compact_string_empty p c w) (by decide) hc)
 ·cases h
def K1:Cut SN:=⟨[(2,Dq2),(3,Dq1)],[]⟩
def NV:bc vw:={rcut:=K1}
def Mh:Nat->Bool:=λ_=>false
def IK:Sig vw:={params:=[Dq3],rcut:=K1,rvars:=[.tmp 2, .tmp 3]}
noncomputable def HW(v:Tag×Unit):Option ((List ByteArray)×Int×Unit):=oC v>>=λx1=>if(x1.1 !=(0:Int))=true then some ([],x1)else ix v>>=λx2=>gg x2>>=λx3=>if x3.1.length=x2.1.length then gh x3>>=λx4=>some ((x4.1,(0:Int),()))else none
def F7:aB vw:=cP prog 29 uL oC (cO prog 45 lZ ix (cO prog 46 qW gg (cO prog 47 qX gh c0)))
def x21:Xc vw:={P:=prog,n:=17,call:=F7,pre:=Mh,sh:=NV}
theorem AH:aj prog F7:=bE lN rfl rfl (eb uf (eb ug (eb uh ci)))
theorem HX:bd prog 21 IK HW:=λv r x h hx=>
 bk (X:=x21) (sig:=IK) rfl Tryz.func21 (c:=aa Tryz.f21) (by kernel_rfl) Tryz.ntmps21 (by kernel_rfl) (by kernel_rfl) rfl Ty.mixed AH rfl (λC hP hN=>(aw (an (by kernel_rfl) trivial))) (an (by kernel_rfl) h) x hx
def AA:Cut SN:=⟨[(0,Dq2),(1,Dq5),(5, .vh 1005),(6,Dq4),(7,Dq1)],[(1005,Oq9)]⟩
def J1:Cut SN:=⟨[(5, .vh 1005)],[(1005,Oq9)]⟩
def LK:Cut SN:=⟨[(0,Dq2),(1,Dq5),(5, .vh 1005),(6,Dq4),(7,Dq1),(23,Dq4)],[(1005,Oq9)]⟩
def LJ:Cut SN:=⟨[(1,Dq5),(5, .vh 1005),(6,Dq4)],[(1005,Oq9)]⟩
def K4:Cut SN:=⟨[(4,Dq2)],[]⟩
def MD:bc vw:={exits:=λid=>match id with|0=>LJ|_=>⟨[],[]⟩,rcut:=K4}
def KF:Nat->Bool:=λ_=>false
def IX:Sig vw:={params:=[Dq2,Dq5],rcut:=K4,rvars:=[.tmp 4]}
noncomputable def my(v:(List ByteArray)×ByteArray×Bool×Int×(List ByteArray)×Unit):Option ((ByteArray×Bool×(List ByteArray)×Unit)):=if decide (v.2.2.2.1<(↑v.1.length:Int))=true then((if(!v.2.2.1)=true then if(0:Int)<=v.2.2.2.1 then v.1[v.2.2.2.1.toNat]?>>=λx1=>some ((v.1,v.2.1,v.2.2.1,v.2.2.2.1,!(Bs.blt x1 v.2.1||x1.toList==v.2.1.toList),v.2.2.2.2))else none else some (v.1,v.2.1,v.2.2.1,v.2.2.2.1,false,v.2.2.2.2))>>=λx1=>if x1.2.2.2.2.1=true then if x1.2.2.2.2.2.1.length+[x1.2.1].length<=(4294967296:Nat)then some ((x1.1,x1.2.1,true,x1.2.2.2.1,x1.2.2.2.2.2.1++[x1.2.1],()))else none else some (x1.1,x1.2.1,x1.2.2.1,x1.2.2.2.1,x1.2.2.2.2.2))>>=λx1=>(if x1.2.2.1=true then some (x1.1,x1.2.1,true,x1.2.2.2)else if(0:Int)<=x1.2.2.2.1 then x1.1[x1.2.2.2.1.toNat]?>>=λx2=>some (x1.1,x1.2.1,x2.toList==x1.2.1.toList,x1.2.2.2)else none)>>=λx2=>if(0:Int)<=x2.2.2.2.1 then x2.1[x2.2.2.2.1.toNat]?>>=λx3=>if x2.2.2.2.2.1.length+[x3].length<=(4294967296:Nat)then my (x2.1,x2.2.1,x2.2.2.1,i64.wrap (x2.2.2.2.1+(1:Int)),x2.2.2.2.2.1++[x3],())else none else none else some (v.2.1,v.2.2.1,v.2.2.2.2) partial_fixpoint
noncomputable def Kq(v:(List ByteArray)×ByteArray×Unit):Option ((List ByteArray)×Unit):=my (v.1,v.2.1,false,(0:Int),[],())>>=λx1=>(if(!x1.2.1)=true then if x1.2.2.1.length+[x1.1].length<=(4294967296:Nat)then some ((x1.2.2.1++[x1.1],()))else none else some (x1.2.2))>>=λx2=>some (x2)
def Gk:aB vw:=c0
def x67:Xc vw:={P:=prog,n:=51,call:=Gk,pre:=KF,sh:=MD,joins:=λk=>match k with|9=>some (AA,[.norm])|13=>some (J1,[.norm])|_=>none,regs:=λk=>match k with|6=>some LK|9=>some AA|_=>none,loops:=λk=>match k with|4=>some {cut:=AA,alts:=[.exit 0],F:=my}|_=>none}
theorem td:aj prog Gk:=ci
theorem Co(C:Ctx)(hP:C.P=prog)(hN:C.N=51/\Fx C KF):bC C (ae (aa Tryz.f67) 0) (sh:=MD) {cut:=AA,alts:=[.exit 0],F:=my}:=
 my.partial_correctness (motive:=λv out=>ea C (ae (aa Tryz.f67) 0) (Go.Tx.az vw (bi vw AA v)) (eL MD [.exit 0] out)) λF ih v out h=>
  aI (X:=x67) (b:=(ae (aa Tryz.f67) 0)) hP hN Ty.mixed td (aw (X:=x67) (c:=(ae (aa Tryz.f67) 0)) (an (by kernel_rfl:True=bw (ay C (x67)) (ax (ae (aa Tryz.f67) 0))) trivial)) ih (an (by kernel_rfl) h)
theorem wc:bd prog 67 IX Kq:=λv r x h hx=>
 bk (X:=x67) (sig:=IX) rfl Tryz.func67 (c:=aa Tryz.f67) (by kernel_rfl) Tryz.ntmps67 (by kernel_rfl) (by kernel_rfl) rfl Ty.mixed td rfl (λC hP hN=>(aw (an (by kernel_rfl:bw (ay C (x67)) [(ae (aa Tryz.f67) 0)]=bw (ay C (x67)) (ax (aa Tryz.f67))) ⟨bf (X:=x67) (b:=(ae (aa Tryz.f67) 0)) (by kernel_rfl) (Co C hP hN),trivial⟩))) (an (by kernel_rfl) h) x hx
def yp:Cut SN:=⟨[(0,Dq2),(3, .bp 3 0),(5,Dq1)],[(3, .st .tagT)]⟩
def Az:Cut SN:=⟨[(0,Dq2),(3, .bp 3 0),(6,Dq1)],[(3, .st .tagT)]⟩
def LD:Cut SN:=⟨[(0,Dq2),(3, .bp 3 0)],[(3, .st .tagT)]⟩
def LE:Cut SN:=⟨[(0,Dq2)],[]⟩
def JQ:bc vw:={exits:=λid=>match id with|0=>LD|2=>LE|_=>⟨[],[]⟩,rcut:=K4}
def EP:Nat->Bool:=λ_=>false
def l5:Sig vw:={params:=[Dq2,Dq3],rcut:=K4,rvars:=[.tmp 4]}
abbrev u6:=(List ByteArray)×Int×Tag×Unit
noncomputable def dI(v:u6):Option (((List ByteArray)×Tag×Unit)):=if decide (v.2.1<(↑v.2.2.1.names.length:Int))=true then if(0:Int)<=v.2.1 then v.2.2.1.names[v.2.1.toNat]?>>=λx1=>Kq (v.1,x1,())>>=λx2=>dI (x2.1,i64.wrap (v.2.1+(1:Int)),v.2.2)else none else some (v.1,v.2.2) partial_fixpoint
mutual
noncomputable def iy(v:u6):Option (((List ByteArray)×Unit)):=if decide (v.2.1<(↑v.2.2.1.parts.length:Int))=true then if(0:Int)<=v.2.1 then v.2.2.1.parts[v.2.1.toNat]?>>=λx1=>n_48 (v.1,x1,())>>=λx2=>iy (x2.1,i64.wrap (v.2.1+(1:Int)),v.2.2)else none else some ((v.1,())) partial_fixpoint
noncomputable def n_48(v:(List ByteArray)×Tag×Unit):Option ((List ByteArray)×Unit):=dI (v.1,(0:Int),v.2)>>=λx1=>iy (x1.1,(0:Int),x1.2)>>=λx2=>some (x2) partial_fixpoint
end
def xa(dI:u6->Option (((List ByteArray)×Tag×Unit)))(iy:u6->Option (((List ByteArray)×Unit)))(n_48:(List ByteArray)×Tag×Unit->Option ((List ByteArray)×Unit)):aB vw:=λA fid args S k=>match fid with|48=>bh prog l5 n_48 A args S k|67=>bh prog IX Kq A args S k|_=>none
def x48(dI:u6->Option (((List ByteArray)×Tag×Unit)))(iy:u6->Option (((List ByteArray)×Unit)))(n_48:(List ByteArray)×Tag×Unit->Option ((List ByteArray)×Unit)):Xc vw:={P:=prog,n:=36,call:=xa dI iy n_48,pre:=EP,sh:=JQ,loops:=λk=>match k with|2=>some {cut:=yp,alts:=[.exit 0],F:=dI}|6=>some {cut:=Az,alts:=[.exit 2],F:=iy}|_=>none}
abbrev rP(v:u6)(r:((List ByteArray)×Tag×Unit)):Prop:=(λv out=>∀C:Ctx,C.P=prog->C.N=36/\Fx C EP->ea C (ae (aa Tryz.f48) 0) (Go.Tx.az vw (bi vw yp v)) (eL JQ [.exit 0] out)) v r
theorem Hb(f0:u6->Option (((List ByteArray)×Tag×Unit)))(h0:∀v r,f0 v=some r->rP v r):aj prog (x48 f0 (λ_=>none) (λ_=>none)).call:=(by
 intro A fid args S dst k r h
 unfold x48 xa at h
 simp only at h
 split at h
 ·exact au ((λv r x h hx=>by cases h)) rfl rfl h
 ·exact au (wc) rfl rfl h
 ·cases h)
theorem I7(f0:u6->Option (((List ByteArray)×Tag×Unit)))(h0:∀v r,f0 v=some r->rP v r)(v:u6)(r:((List ByteArray)×Tag×Unit))(h:exL (x48 f0 (λ_=>none) (λ_=>none)) (ae (aa Tryz.f48) 0) yp [.exit 0] f0 v=some r):rP v r:=λC hP hN=>aI (X:=x48 f0 (λ_=>none) (λ_=>none)) (b:=(ae (aa Tryz.f48) 0)) hP hN Ty.mixed (Hb f0 h0) (aw (X:=x48 f0 (λ_=>none) (λ_=>none)) (c:=(ae (aa Tryz.f48) 0)) (an (by kernel_rfl:True=bw (ay C (x48 f0 (λ_=>none) (λ_=>none))) (ax (ae (aa Tryz.f48) 0))) trivial)) (cut:=yp) (alts:=[.exit 0]) (F:=f0) (λv out h=>h0 v out h C hP hN) h
theorem Ci:∀v out,dI v=some out->(λv out=>∀C:Ctx,C.P=prog->C.N=36/\Fx C EP->ea C (ae (aa Tryz.f48) 0) (Go.Tx.az vw (bi vw yp v)) (eL JQ [.exit 0] out)) v out:=(dI.partial_correctness (motive:=rP) (λf0 h0 v r h=>I7 f0 h0 v r (an (by kernel_rfl) h)))
abbrev j5(v:u6)(r:((List ByteArray)×Unit)):Prop:=(λv out=>∀C:Ctx,C.P=prog->C.N=36/\Fx C EP->ea C (ae (aa Tryz.f48) 1) (Go.Tx.az vw (bi vw Az v)) (eL JQ [.exit 2] out)) v r
abbrev B5(v:(List ByteArray)×Tag×Unit)(r:(List ByteArray)×Unit):Prop:=(λv r=>∀x,lS prog l5 r=some x->c8 prog 48 (encL vw (aE l5 v).len (bj l5 v).1) (br (aE l5 v).len (aE l5 v).own) (ao vw (bi vw l5.rcut r).len x) (br (bi vw l5.rcut r).len (gY l5 r))) v r
theorem Hc(f0:u6->Option (((List ByteArray)×Unit)))(f1:(List ByteArray)×Tag×Unit->Option ((List ByteArray)×Unit))(h0:∀v r,f0 v=some r->j5 v r)(h1:∀v r,f1 v=some r->B5 v r):aj prog (x48 (λ_=>none) f0 f1).call:=(by
 intro A fid args S dst k r h
 unfold x48 xa at h
 simp only at h
 split at h
 ·exact au ((λv r x h hx=>h1 v r h x hx)) rfl rfl h
 ·exact au (wc) rfl rfl h
 ·cases h)
theorem I8(f0:u6->Option (((List ByteArray)×Unit)))(f1:(List ByteArray)×Tag×Unit->Option ((List ByteArray)×Unit))(h0:∀v r,f0 v=some r->j5 v r)(h1:∀v r,f1 v=some r->B5 v r)(v:u6)(r:((List ByteArray)×Unit))(h:exL (x48 (λ_=>none) f0 f1) (ae (aa Tryz.f48) 1) Az [.exit 2] f0 v=some r):j5 v r:=λC hP hN=>aI (X:=x48 (λ_=>none) f0 f1) (b:=(ae (aa Tryz.f48) 1)) hP hN Ty.mixed (Hc f0 f1 h0 h1) (aw (X:=x48 (λ_=>none) f0 f1) (c:=(ae (aa Tryz.f48) 1)) (an (by kernel_rfl:True=bw (ay C (x48 (λ_=>none) f0 f1)) (ax (ae (aa Tryz.f48) 1))) trivial)) (cut:=Az) (alts:=[.exit 2]) (F:=f0) (λv out h=>h0 v out h C hP hN) h
theorem LT(f0:u6->Option (((List ByteArray)×Unit)))(h0:∀v r,f0 v=some r->j5 v r):aj prog (x48 dI f0 (λ_=>none)).call:=(by
 intro A fid args S dst k r h
 unfold x48 xa at h
 simp only at h
 split at h
 ·exact au ((λv r x h hx=>by cases h)) rfl rfl h
 ·exact au (wc) rfl rfl h
 ·cases h)
theorem MM(f0:u6->Option (((List ByteArray)×Unit)))(h0:∀v r,f0 v=some r->j5 v r)(v:(List ByteArray)×Tag×Unit)(r:(List ByteArray)×Unit)(h:exF (x48 dI f0 (λ_=>none)) l5 rfl (aa Tryz.f48) v=some r):B5 v r:=λx hx=>bk (X:=x48 dI f0 (λ_=>none)) (sig:=l5) rfl Tryz.func48 (c:=aa Tryz.f48) (by kernel_rfl) Tryz.ntmps48 (by kernel_rfl) (by kernel_rfl) rfl Ty.mixed (LT f0 h0) rfl (λC hP hN=>(aw (X:=x48 dI f0 (λ_=>none)) (c:=(aa Tryz.f48)) (an (by kernel_rfl:bw (ay C (x48 dI f0 (λ_=>none))) [(ae (aa Tryz.f48) 0),(ae (aa Tryz.f48) 1)]=bw (ay C (x48 dI f0 (λ_=>none))) (ax (aa Tryz.f48))) ⟨bf (X:=x48 dI f0 (λ_=>none)) (b:=(ae (aa Tryz.f48) 0)) (by kernel_rfl) (show bC C (ae (aa Tryz.f48) 0) (sh:=JQ) {cut:=yp,alts:=[.exit 0],F:=dI}fromλv out h=>Ci v out h C hP hN),bf (X:=x48 dI f0 (λ_=>none)) (b:=(ae (aa Tryz.f48) 1)) (by kernel_rfl) (show bC C (ae (aa Tryz.f48) 1) (sh:=JQ) {cut:=Az,alts:=[.exit 2],F:=f0}fromλv out h=>h0 v out h C hP hN),trivial⟩))) h x hx
theorem za:(∀v r,iy v=some r->j5 v r)/\(∀v r,n_48 v=some r->B5 v r):=by
 refine iy.mutual_partial_correctness
  (motive_1:=j5)
  (motive_2:=B5)
  ?_ ?_
 ·exact(λf0 f1 h0 h1 v r h=>I8 f0 f1 h0 h1 v r (an (by kernel_rfl) h))
 ·exact(λf0 h0 v r h=>MM f0 h0 v r (an (by kernel_rfl) h))
theorem Ie:bd prog 48 l5 n_48:=λv r x h hx=>za.2 v r h x hx
def NW:bc vw:={rcut:=K1}
def Mi:Nat->Bool:=λ_=>false
def IL:Sig vw:={params:=[Dq3],rcut:=K1,rvars:=[.tmp 2, .tmp 3]}
noncomputable def HY(v:Tag×Unit):Option ((List ByteArray)×Int×Unit):=Cf v>>=λx1=>if(x1.1 !=(0:Int))=true then some ([],x1)else n_48 ([],v)>>=λx2=>some ((x2.1,(0:Int),()))
def F8:aB vw:=cP prog 33 zF Cf (cP prog 48 l5 n_48 c0)
def x22:Xc vw:={P:=prog,n:=12,call:=F8,pre:=Mi,sh:=NW}
theorem AJ:aj prog F8:=bE r6 rfl rfl (bE Ie rfl rfl ci)
theorem HZ:bd prog 22 IL HY:=λv r x h hx=>
 bk (X:=x22) (sig:=IL) rfl Tryz.func22 (c:=aa Tryz.f22) (by kernel_rfl) Tryz.ntmps22 (by kernel_rfl) (by kernel_rfl) rfl Ty.mixed AJ rfl (λC hP hN=>(aw (an (by kernel_rfl) trivial))) (an (by kernel_rfl) h) x hx
def NX:bc vw:={rcut:=F1}
def Mj:Nat->Bool:=λ_=>false
def IM:Sig vw:={params:=[Dq3],rcut:=F1,rvars:=[.tmp 2, .tmp 3]}
noncomputable def H1(v:Tag×Unit):Option (Int×Int×Unit):=oC v>>=λx1=>if(x1.1 !=(0:Int))=true then some (((0:Int),x1))else n_42 v>>=λx2=>some ((x2.1.depth,(0:Int),()))
def F9:aB vw:=cP prog 29 uL oC (cP prog 42 kj n_42 c0)
def x23:Xc vw:={P:=prog,n:=13,call:=F9,pre:=Mj,sh:=NX}
theorem AK:aj prog F9:=bE lN rfl rfl (bE v8 rfl rfl ci)
theorem H2:bd prog 23 IM H1:=λv r x h hx=>
 bk (X:=x23) (sig:=IM) rfl Tryz.func23 (c:=aa Tryz.f23) (by kernel_rfl) Tryz.ntmps23 (by kernel_rfl) (by kernel_rfl) rfl Ty.mixed AK rfl (λC hP hN=>(aw (an (by kernel_rfl) trivial))) (an (by kernel_rfl) h) x hx
def NY:bc vw:={rcut:=F1}
def Mk:Nat->Bool:=λ_=>false
def IP:Sig vw:={params:=[Dq3],rcut:=F1,rvars:=[.tmp 2, .tmp 3]}
noncomputable def H3(v:Tag×Unit):Option (Int×Int×Unit):=Cf v>>=λx1=>if(x1.1 !=(0:Int))=true then some (((0:Int),x1))else n_27 v>>=λx2=>some ((x2.2.1,(0:Int),()))
def F_:aB vw:=cP prog 27 jf n_27 (cP prog 33 zF Cf c0)
def x24:Xc vw:={P:=prog,n:=20,call:=F_,pre:=Mk,sh:=NY}
theorem AL:aj prog F_:=bE r5 rfl rfl (bE r6 rfl rfl ci)
theorem H4:bd prog 24 IP H3:=λv r x h hx=>
 bk (X:=x24) (sig:=IP) rfl Tryz.func24 (c:=aa Tryz.f24) (by kernel_rfl) Tryz.ntmps24 (by kernel_rfl) (by kernel_rfl) rfl Ty.mixed AL rfl (λC hP hN=>(aw (an (by kernel_rfl) trivial))) (an (by kernel_rfl) h) x hx
def NZ:bc vw:={rcut:=F1}
def Ml:Nat->Bool:=λ_=>false
def IQ:Sig vw:={params:=[Dq3],rcut:=F1,rvars:=[.tmp 2, .tmp 3]}
noncomputable def H5(v:Tag×Unit):Option (Int×Int×Unit):=Cf v>>=λx1=>if(x1.1 !=(0:Int))=true then some (((0:Int),x1))else n_27 v>>=λx2=>some ((x2.1,(0:Int),()))
def Ga:aB vw:=cP prog 27 jf n_27 (cP prog 33 zF Cf c0)
def x25:Xc vw:={P:=prog,n:=20,call:=Ga,pre:=Ml,sh:=NZ}
theorem AM:aj prog Ga:=bE r5 rfl rfl (bE r6 rfl rfl ci)
theorem H6:bd prog 25 IQ H5:=λv r x h hx=>
 bk (X:=x25) (sig:=IQ) rfl Tryz.func25 (c:=aa Tryz.f25) (by kernel_rfl) Tryz.ntmps25 (by kernel_rfl) (by kernel_rfl) rfl Ty.mixed AM rfl (λC hP hN=>(aw (an (by kernel_rfl) trivial))) (an (by kernel_rfl) h) x hx
def dD:Cut SN:=⟨[(0, .bp 100000 0)],[(100000, .st .readerT)]⟩
def o7:bc vw:={exits:=λid=>match id with|0=>dD|_=>⟨[],[]⟩,rcut:=dD}
def qH:Nat->Bool:=λ_=>false
def ff:Sig vw:={params:=[.bp 100000 0],objs:=[(100000, .st .readerT)],rcut:=dD,rvars:=[],keep:=[100000]}
noncomputable def dw(v:aq×Unit):Option ((aq×Unit)):=aM (Oo #[32,10,9,13],v)>>=λx1=>if x1.1=true then dw x1.2 else some (x1.2) partial_fixpoint
noncomputable def bt(v:aq×Unit):Option (aq×Unit):=dw v>>=λx1=>some (x1)
def nF:aB vw:=cO prog 74 df aM c0
def gS:Xc vw:={P:=prog,n:=4,call:=nF,pre:=qH,sh:=o7,loops:=λk=>match k with|0=>some {cut:=dD,alts:=[.exit 0],F:=dw}|_=>none}
theorem jm:aj prog nF:=eb cd ci
theorem pW(C:Ctx)(hP:C.P=prog)(hN:C.N=4/\Fx C qH):bC C (ae (aa Tryz.f50) 0) (sh:=o7) {cut:=dD,alts:=[.exit 0],F:=dw}:=
 dw.partial_correctness (motive:=λv out=>ea C (ae (aa Tryz.f50) 0) (Go.Tx.az vw (bi vw dD v)) (eL o7 [.exit 0] out)) λF ih v out h=>
  aI (X:=gS) (b:=(ae (aa Tryz.f50) 0)) hP hN Ty.mixed jm (aw (X:=gS) (c:=(ae (aa Tryz.f50) 0)) (an (by kernel_rfl:True=bw (ay C (gS)) (ax (ae (aa Tryz.f50) 0))) trivial)) ih (an (by kernel_rfl) h)
theorem dJ:bd prog 50 ff bt:=λv r x h hx=>
 bk (X:=gS) (sig:=ff) rfl Tryz.func50 (c:=aa Tryz.f50) (by kernel_rfl) Tryz.ntmps50 (by kernel_rfl) (by kernel_rfl) rfl Ty.mixed jm rfl (λC hP hN=>(aw (an (by kernel_rfl:bw (ay C (gS)) [(ae (aa Tryz.f50) 0)]=bw (ay C (gS)) (ax (aa Tryz.f50))) ⟨bf (X:=gS) (b:=(ae (aa Tryz.f50) 0)) (by kernel_rfl) (pW C hP hN),trivial⟩))) (an (by kernel_rfl) h) x hx
def sZ:Cut SN:=⟨[(0, .bp 100000 0),(2,Dq7)],[(100000, .st .readerT)]⟩
def CX:bc vw:={rcut:=sZ}
def zm:Nat->Bool:=λ_=>false
def eu:Sig vw:={params:=[.bp 100000 0],objs:=[(100000, .st .readerT)],rcut:=sZ,rvars:=[.tmp 2],keep:=[100000]}
noncomputable def aU(v:aq×Unit):Option (Int×aq×Unit):=if(v.1.at0==(↑v.1.s.size:Int))=true then some (((0:Int),v))else if(0:Int)<=v.1.at0 then v.1.s[v.1.at0.toNat]?>>=λx1=>some (((↑x1.toNat:Int),v))else none
def nH:aB vw:=c0
def FL:Xc vw:={P:=prog,n:=22,call:=nH,pre:=zm,sh:=CX}
theorem pH:aj prog nH:=ci
theorem dM:bd prog 68 eu aU:=λv r x h hx=>
 bk (X:=FL) (sig:=eu) rfl Tryz.func68 (c:=aa Tryz.f68) (by kernel_rfl) Tryz.ntmps68 (by kernel_rfl) (by kernel_rfl) rfl Ty.mixed pH rfl (λC hP hN=>(aw (an (by kernel_rfl) trivial))) (an (by kernel_rfl) h) x hx
def lB:Cut SN:=⟨[(0, .bp 100000 0),(1,Dq5),(7,Dq1),(8,Dq1)],[(100000, .st .readerT)]⟩
def o8:bc vw:={exits:=λid=>match id with|0=>dD|_=>⟨[],[]⟩,rcut:=kz}
def qI:Nat->Bool:=λ_=>false
def i8:Sig vw:={params:=[.bp 100000 0,Dq5],objs:=[(100000, .st .readerT)],rcut:=kz,rvars:=[.tmp 4],keep:=[100000]}
abbrev Nb:=ByteArray×Int×Int×aq×Unit
noncomputable def dz(v:Nb):Option (((Bool×aq×Unit)⊕(aq×Unit))):=if decide (v.2.2.1<v.2.1)=true then if(0:Int)<=v.2.2.1/\v.2.2.1<=i64.wrap (v.2.2.1+(1:Int))/\i64.wrap (v.2.2.1+(1:Int))<=(↑v.1.size:Int)then aM (v.1.extract v.2.2.1.toNat (i64.wrap (v.2.2.1+(1:Int))).toNat,v.2.2.2)>>=λx1=>if(!x1.1)=true then some (Po (false,x1.2))else dz (v.1,v.2.1,i64.wrap (v.2.2.1+(1:Int)),x1.2)else none else some (PD v.2.2.2) partial_fixpoint
noncomputable def dW(v:ByteArray×aq×Unit):Option (Bool×aq×Unit):=dz (v.1,(↑v.1.size:Int),(0:Int),v.2)>>=λx1=>match x1 with| .inl y1=>some y1| .inr y1=>some (true,y1)
def nI:aB vw:=cO prog 74 df aM c0
def gT:Xc vw:={P:=prog,n:=20,call:=nI,pre:=qI,sh:=o8,loops:=λk=>match k with|2=>some {cut:=lB,alts:=[.ret, .exit 0],F:=dz}|_=>none}
theorem jn:aj prog nI:=eb cd ci
theorem pX(C:Ctx)(hP:C.P=prog)(hN:C.N=20/\Fx C qI):bC C (ae (aa Tryz.f69) 0) (sh:=o8) {cut:=lB,alts:=[.ret, .exit 0],F:=dz}:=
 dz.partial_correctness (motive:=λv out=>ea C (ae (aa Tryz.f69) 0) (Go.Tx.az vw (bi vw lB v)) (eL o8 [.ret, .exit 0] out)) λF ih v out h=>
  aI (X:=gT) (b:=(ae (aa Tryz.f69) 0)) hP hN Ty.mixed jn (aw (X:=gT) (c:=(ae (aa Tryz.f69) 0)) (an (by kernel_rfl:True=bw (ay C (gT)) (ax (ae (aa Tryz.f69) 0))) trivial)) ih (an (by kernel_rfl) h)
theorem mz:bd prog 69 i8 dW:=λv r x h hx=>
 bk (X:=gT) (sig:=i8) rfl Tryz.func69 (c:=aa Tryz.f69) (by kernel_rfl) Tryz.ntmps69 (by kernel_rfl) (by kernel_rfl) rfl Ty.mixed jn rfl (λC hP hN=>(aw (an (by kernel_rfl:bw (ay C (gT)) [(ae (aa Tryz.f69) 0)]=bw (ay C (gT)) (ax (aa Tryz.f69))) ⟨bf (X:=gT) (b:=(ae (aa Tryz.f69) 0)) (by kernel_rfl) (pX C hP hN),trivial⟩))) (an (by kernel_rfl) h) x hx
def fS:Cut SN:=⟨[(0, .bp 100000 0),(2, .bp 2 0),(4,Dq4),(5,Dq1)],[(100000, .st .readerT),(2, .st .tagT)]⟩
def vu:Cut SN:=⟨[(0, .bp 100000 0),(2, .bp 2 0),(5,Dq1)],[(100000, .st .readerT),(2, .st .tagT)]⟩
def yw:Cut SN:=⟨[(0, .bp 100000 0),(2, .bp 2 0),(4,Dq4),(5,Dq1),(12,Dq4)],[(100000, .st .readerT),(2, .st .tagT)]⟩
def yx:Cut SN:=⟨[(0, .bp 100000 0),(2, .bp 2 0),(4,Dq4),(5,Dq1),(28,Dq4)],[(100000, .st .readerT),(2, .st .tagT)]⟩
def eF:Cut SN:=⟨[(0, .bp 100000 0),(2, .bp 2 0),(3,Dq4)],[(100000, .st .readerT),(2, .st .tagT)]⟩
def o_:bc vw:={exits:=λid=>match id with|1=>fS|_=>⟨[],[]⟩,rcut:=eF}
def qJ:Nat->Bool:=λ_=>false
def l_:Sig vw:={params:=[.bp 100000 0],objs:=[(100000, .st .readerT)],rcut:=eF,rvars:=[.cell 2 25, .tmp 3],keep:=[100000]}
abbrev KX:=Bool×Int×aq×Tag×Unit
noncomputable def dA(v:KX):Option ((KX)):=(aU (v.2.2.1,())>>=λx1=>if decide (x1.1>=(48:Int))=true then aU x1.2>>=λx2=>some ((v.1,v.2.1,decide (x2.1<=(57:Int)),x2.2.1,v.2.2.2))else some (v.1,v.2.1,false,x1.2.1,v.2.2.2))>>=λx1=>if x1.2.2.1=true then aU (x1.2.2.2.1,())>>=λx2=>dA (x1.1,min (i64.wrap (i64.wrap ((10:Int) *x1.2.1)+i64.wrap (IntKind.u8.wrap (x2.1-(48:Int))))) (576460752303423488:Int),aq.mk x2.2.1.s (i64.wrap (x2.2.1.at0+(1:Int))),x1.2.2.2.2)else some (x1.1,x1.2.1,x1.2.2.2) partial_fixpoint
abbrev Tq2:=Bool×aq×Tag×Unit
noncomputable def iA(v:aq×Unit):Option (Tq2):=aM (Oo #[45],v)>>=λx1=>(aM (Oo #[48],x1.2)>>=λx2=>if x2.1=true then some (Po (x1.1,(0:Int),x2.2.1,Tag.mk (0:Int) (0:Int) (Oo #[]) [] [],()))else(aU x2.2>>=λx3=>if decide (x3.1>=(49:Int))=true then aU x3.2>>=λx4=>some ((x1.1,(0:Int),decide (x4.1<=(57:Int)),x4.2.1,Tag.mk (0:Int) (0:Int) (Oo #[]) [] [],()))else some ((x1.1,(0:Int),false,x3.2.1,Tag.mk (0:Int) (0:Int) (Oo #[]) [] [],())))>>=λx3=>if x3.2.2.1=true then dA (x3.1,x3.2.1,x3.2.2.2)>>=λx4=>some (Po x4)else some (PD (false,x3.2.2.2.1,Tag.mk (0:Int) (0:Int) (Oo #[]) [] [],())))>>=λx2=>match x2 with| .inl y2=>(if y2.1=true then some ((i64.wrap ((0:Int) -y2.2.1),y2.2.2))else some (y2.2))>>=λx3=>some ((true,x3.2.1,Tag.mk (3:Int) x3.1 (Oo #[]) [] [],()))| .inr y2=>some y2
def nJ:aB vw:=cO prog 68 eu aU (cO prog 74 df aM c0)
def gU:Xc vw:={P:=prog,n:=49,call:=nJ,pre:=qJ,sh:=o_,joins:=λk=>match k with|9=>some (fS,[.norm, .ret])|11=>some (vu,[.norm])|_=>none,regs:=λk=>match k with|5=>some yw|6=>some yx|_=>none,loops:=λk=>match k with|6=>some {cut:=fS,alts:=[.exit 1],F:=dA}|_=>none}
theorem jo:aj prog nJ:=eb dM (eb cd ci)
theorem pY(C:Ctx)(hP:C.P=prog)(hN:C.N=49/\Fx C qJ):bC C (ae (aa Tryz.f70) 0) (sh:=o_) {cut:=fS,alts:=[.exit 1],F:=dA}:=
 dA.partial_correctness (motive:=λv out=>ea C (ae (aa Tryz.f70) 0) (Go.Tx.az vw (bi vw fS v)) (eL o_ [.exit 1] out)) λF ih v out h=>
  aI (X:=gU) (b:=(ae (aa Tryz.f70) 0)) hP hN Ty.mixed jo (aw (X:=gU) (c:=(ae (aa Tryz.f70) 0)) (an (by kernel_rfl:True=bw (ay C (gU)) (ax (ae (aa Tryz.f70) 0))) trivial)) ih (an (by kernel_rfl) h)
theorem uj:bd prog 70 l_ iA:=λv r x h hx=>
 bk (X:=gU) (sig:=l_) rfl Tryz.func70 (c:=aa Tryz.f70) (by kernel_rfl) Tryz.ntmps70 (by kernel_rfl) (by kernel_rfl) rfl Ty.mixed jo rfl (λC hP hN=>(aw (an (by kernel_rfl:bw (ay C (gU)) [(ae (aa Tryz.f70) 0)]=bw (ay C (gU)) (ax (aa Tryz.f70))) ⟨bf (X:=gU) (b:=(ae (aa Tryz.f70) 0)) (by kernel_rfl) (pY C hP hN),trivial⟩))) (an (by kernel_rfl) h) x hx
def CZ:bc vw:={rcut:=DX}
def zo:Nat->Bool:=λ_=>false
def ma:Sig vw:={params:=[.bp 100000 0],objs:=[(100000, .box (some 108) [.np 100000, .vh 100001]),(100001,Oq8)],rcut:=DX,rvars:=[.tmp 2]}
noncomputable def kX(v:Bool×(List Int)×Unit):Option (ByteArray×Unit):=if(↑v.2.1.length:Int)=(↑v.2.1.length:Int)/\v.2.1.length<=(4294967296:Nat)then some ((Bs.bytes v.2.1,()))else none
def nM:aB vw:=c0
def FN:Xc vw:={P:=prog,n:=14,call:=nM,pre:=zo,sh:=CZ}
theorem pJ:aj prog nM:=ci
theorem uk:bd prog 96 ma kX:=λv r x h hx=>
 bk (X:=FN) (sig:=ma) rfl Tryz.func96 (c:=aa Tryz.f96) (by kernel_rfl) Tryz.ntmps96 (by kernel_rfl) (by kernel_rfl) rfl Ty.mixed pJ rfl (λC hP hN=>(aw (an (by kernel_rfl) trivial))) (an (by kernel_rfl) h) x hx
def yz:Cut SN:=⟨[(0, .bp 100000 0),(4,Dq1),(24,Dq4)],[(100000, .st .readerT)]⟩
def yA:Cut SN:=⟨[(0, .bp 100000 0),(5,DF),(6,Dq4),(52,Dq4)],[(100000, .st .readerT)]⟩
def s6:Cut SN:=⟨[(0, .bp 100000 0),(2,DF),(3,Dq4)],[(100000, .st .readerT)]⟩
def C0:bc vw:={rcut:=s6}
def zp:Nat->Bool:=λ_=>false
def mb:Sig vw:={params:=[.bp 100000 0],objs:=[(100000, .st .readerT)],rcut:=s6,rvars:=[.tmp 2, .tmp 3],keep:=[100000]}
noncomputable def iC(v:aq×Unit):Option (KZ):=aU v>>=λx1=>v6 (Oo #[34,92,47,98,102,110,114,116],x1.1,())>>=λx2=>(if decide (x1.2.1.at0<(↑x1.2.1.s.size:Int))=true then some ((x2.1,decide (x2.1>=(0:Int)),x1.2))else some (x2.1,false,x1.2))>>=λx3=>if x3.2.1=true then if(0:Int)<=x3.1 then(Oo #[34,92,47,8,12,10,13,9])[x3.1.toNat]?>>=λx4=>some ((i32.wrap (↑x4.toNat:Int),true,aq.mk x3.2.2.1.s (i64.wrap (x3.2.2.1.at0+(1:Int))),()))else none else aM (Oo #[117],x3.2.2)>>=λx4=>if(!x4.1)=true then some (((0:Int),false,x4.2))else fb (Oo #[48,49,50,51,52,53,54,55,56,57,97,98,99,101,102,65,66,67,69,70],Oo #[48,49,50,51,52,53,54,55,56,57,97,98,65,66],x4.2)>>=λx5=>(if(!x5.2.1)=true then some (x5.1,x5.2.1,true,x5.2.2)else if decide (x5.1<(55296:Int))=true then some (x5.1,x5.2.1,true,x5.2.2)else some ((x5.1,x5.2.1,decide (x5.1>=(56320:Int)),x5.2.2)))>>=λx6=>if x6.2.2.1=true then some (x6.1,x6.2.1,x6.2.2.2)else dW (Oo #[92,117],x6.2.2.2)>>=λx7=>if(!x7.1)=true then some (((0:Int),false,x7.2))else fb (Oo #[],Oo #[99,100,101,102,67,68,69,70],x7.2)>>=λx8=>some ((i32.wrap (i32.wrap (i32.wrap ((65536:Int)+Bs.ishl i32 (i32.wrap (x6.1-(55296:Int))) (10:Int))+x8.1) -(56320:Int)),x8.2))
def nN:aB vw:=cO prog 68 eu aU (cO prog 69 i8 dW (cO prog 74 df aM (cP prog 118 xO v6 (cO prog 119 ka fb c0))))
def FO:Xc vw:={P:=prog,n:=71,call:=nN,pre:=zp,sh:=C0,regs:=λk=>match k with|2=>some yz|8=>some yA|_=>none}
theorem pK:aj prog nN:=eb dM (eb mz (eb cd (bE xB rfl rfl (eb rW ci))))
theorem ul:bd prog 97 mb iC:=λv r x h hx=>
 bk (X:=FO) (sig:=mb) rfl Tryz.func97 (c:=aa Tryz.f97) (by kernel_rfl) Tryz.ntmps97 (by kernel_rfl) (by kernel_rfl) rfl Ty.mixed pK rfl (λC hP hN=>(aw (an (by kernel_rfl) trivial))) (an (by kernel_rfl) h) x hx
def C1:bc vw:={rcut:=iN}
def zq:Nat->Bool:=λ_=>false
def mc:Sig vw:={params:=[.bp 100000 0,DF],objs:=[(100000, .box (some 108) [.np 100000, .vh 100001]),(100001,Oq8)],rcut:=iN,rvars:=[.tmp 4, .tmp 5],keep:=[100000,3001]}
noncomputable def iD(v:GN):Option (GN):=ej v.2>>=λx1=>gd (v.1,x1.2)>>=λx2=>some ((i64.wrap ((↑x2.1.length:Int) -(↑x1.2.1.length:Int)),x1.1,x2))
def nO:aB vw:=cO prog 120 kb ej (cO prog 121 kd gd c0)
def FP:Xc vw:={P:=prog,n:=30,call:=nO,pre:=zq,sh:=C1}
theorem pL:aj prog nO:=eb kW (eb rX ci)
theorem um:bd prog 98 mc iD:=λv r x h hx=>
 bk (X:=FP) (sig:=mc) rfl Tryz.func98 (c:=aa Tryz.f98) (by kernel_rfl) Tryz.ntmps98 (by kernel_rfl) (by kernel_rfl) rfl Ty.mixed pL rfl (λC hP hN=>(aw (an (by kernel_rfl) trivial))) (an (by kernel_rfl) h) x hx
def jK:Cut SN:=⟨[(0, .bp 100000 0),(4,Dq7),(5,Dq7),(48,Dq1),(49,Dq1)],[(100000, .st .readerT)]⟩
def vv:Cut SN:=⟨[(0, .bp 100000 0),(3,Dq7),(4,Dq7),(5,Dq7),(6,Dq1)],[(100000, .st .readerT)]⟩
def vx:Cut SN:=⟨[(0, .bp 100000 0),(4,Dq7),(5,Dq7),(6,Dq1)],[(100000, .st .readerT)]⟩
def yB:Cut SN:=⟨[(0, .bp 100000 0),(3,Dq7),(4,Dq7),(5,Dq7),(19,Dq4)],[(100000, .st .readerT)]⟩
def s7:Cut SN:=⟨[(0, .bp 100000 0),(2,Dq4)],[(100000, .st .readerT)]⟩
def pd:bc vw:={exits:=λid=>match id with|2=>dD|_=>⟨[],[]⟩,rcut:=s7}
def qN:Nat->Bool:=λ_=>false
def md:Sig vw:={params:=[.bp 100000 0],objs:=[(100000, .st .readerT)],rcut:=s7,rvars:=[.tmp 2],keep:=[100000]}
abbrev Na:=Int×Int×Int×Int×aq×Unit
noncomputable def cX(v:Na):Option (((Bool×aq×Unit)⊕(aq×Unit))):=if decide (v.2.2.2.1<v.2.2.1)=true then iY (v.1,v.2.1,v.2.2.2.2)>>=λx1=>if(!x1.1)=true then some (Po (false,x1.2))else cX ((128:Int),(191:Int),v.2.2.1,i64.wrap (v.2.2.2.1+(1:Int)),x1.2)else some (PD v.2.2.2.2) partial_fixpoint
noncomputable def iE(v:aq×Unit):Option (Bool×aq×Unit):=if(0:Int)<=v.1.at0 then v.1.s[v.1.at0.toNat]?>>=λx1=>(if decide ((↑x1.toNat:Int)<(128:Int))=true then some (Po ((↑x1.toNat:Int),(128:Int),(191:Int),(0:Int),v))else(if decide ((↑x1.toNat:Int)<(194:Int))=true then some (((↑x1.toNat:Int),(128:Int),(191:Int),true,v))else some (((↑x1.toNat:Int),(128:Int),(191:Int),decide ((↑x1.toNat:Int)>(244:Int)),v)))>>=λx2=>if x2.2.2.2.1=true then some (PD (false,x2.2.2.2.2))else if decide (x2.1<(224:Int))=true then some (Po (x2.1,x2.2.1,x2.2.2.1,(1:Int),x2.2.2.2.2))else if decide (x2.1<(240:Int))=true then some (Po (x2.1,x2.2.1,x2.2.2.1,(2:Int),x2.2.2.2.2))else some (Po (x2.1,x2.2.1,x2.2.2.1,(3:Int),x2.2.2.2.2)))>>=λx2=>match x2 with| .inl y2=>(if(y2.1==(224:Int))=true then some (((160:Int),y2.2.2))else if(y2.1==(237:Int))=true then some ((y2.2.1,(159:Int),y2.2.2.2))else if(y2.1==(240:Int))=true then some (((144:Int),y2.2.2))else if(y2.1==(244:Int))=true then some ((y2.2.1,(143:Int),y2.2.2.2))else some (y2.2))>>=λx3=>cX (x3.1,x3.2.1,x3.2.2.1,(0:Int),aq.mk x3.2.2.2.1.s (i64.wrap (x3.2.2.2.1.at0+(1:Int))),())>>=λx4=>(match x4 with| .inl y4=>some y4| .inr y4=>some (true,y4))| .inr y2=>some y2 else none
def nP:aB vw:=cO prog 122 kf iY c0
def gW:Xc vw:={P:=prog,n:=57,call:=nP,pre:=qN,sh:=pd,joins:=λk=>match k with|11=>some (vv,[.norm, .ret])|20=>some (vx,[.norm])|_=>none,regs:=λk=>match k with|5=>some yB|_=>none,loops:=λk=>match k with|22=>some {cut:=jK,alts:=[.ret, .exit 2],F:=cX}|_=>none}
theorem jq:aj prog nP:=eb rY ci
theorem oF(C:Ctx)(hP:C.P=prog)(hN:C.N=57/\Fx C qN):bC C (ae (aa Tryz.f99) 0) (sh:=pd) {cut:=jK,alts:=[.ret, .exit 2],F:=cX}:=
 cX.partial_correctness (motive:=λv out=>ea C (ae (aa Tryz.f99) 0) (Go.Tx.az vw (bi vw jK v)) (eL pd [.ret, .exit 2] out)) λF ih v out h=>
  aI (X:=gW) (b:=(ae (aa Tryz.f99) 0)) hP hN Ty.mixed jq (aw (X:=gW) (c:=(ae (aa Tryz.f99) 0)) (an (by kernel_rfl:True=bw (ay C (gW)) (ax (ae (aa Tryz.f99) 0))) trivial)) ih (an (by kernel_rfl) h)
theorem un:bd prog 99 md iE:=λv r x h hx=>
 bk (X:=gW) (sig:=md) rfl Tryz.func99 (c:=aa Tryz.f99) (by kernel_rfl) Tryz.ntmps99 (by kernel_rfl) (by kernel_rfl) rfl Ty.mixed jq rfl (λC hP hN=>(aw (an (by kernel_rfl:bw (ay C (gW)) [(ae (aa Tryz.f99) 0)]=bw (ay C (gW)) (ax (aa Tryz.f99))) ⟨bf (X:=gW) (b:=(ae (aa Tryz.f99) 0)) (by kernel_rfl) (oF C hP hN),trivial⟩))) (an (by kernel_rfl) h) x hx
def iP:Cut SN:=⟨[(0, .bp 100000 0),(4, .bp 4 0)],[(100000, .st .readerT),(4, .box (some 108) [.np 4, .vh 3041]),(3041,Oq8)]⟩
def s5:Cut SN:=⟨[(0, .bp 100000 0),(2,Dq5),(3,Dq4)],[(100000, .st .readerT)]⟩
def pa:bc vw:={rcut:=s5}
def qK:Nat->Bool:=λ_=>false
def i_:Sig vw:={params:=[.bp 100000 0],objs:=[(100000, .st .readerT)],rcut:=s5,rvars:=[.tmp 2, .tmp 3],keep:=[100000]}
abbrev KY:=ByteArray×Bool×aq×Unit
noncomputable def cW(v:aq×Bool×(List Int)×Unit):Option ((KY)):=aU (v.1,())>>=λx1=>if(x1.1==(34:Int))=true then kX v.2>>=λx2=>some ((x2.1,true,aq.mk x1.2.1.s (i64.wrap (x1.2.1.at0+(1:Int))),()))else if decide (x1.1<(32:Int))=true then some (Oo #[],false,x1.2)else if(x1.1==(92:Int))=true then iC (aq.mk x1.2.1.s (i64.wrap (x1.2.1.at0+(1:Int))),())>>=λx2=>if(!x2.2.1)=true then some (Oo #[],false,x2.2.2)else iD (x2.1,v.2)>>=λx3=>cW (x2.2.2.1,x3.2)else iE x1.2>>=λx2=>if(!x2.1)=true then some (Oo #[],false,x2.2)else if(0:Int)<=x1.2.1.at0/\x1.2.1.at0<=x2.2.1.at0/\x2.2.1.at0<=(↑x2.2.1.s.size:Int)then gc (x2.2.1.s.extract x1.2.1.at0.toNat x2.2.1.at0.toNat,v.2)>>=λx3=>cW (x2.2.1,x3.2)else none partial_fixpoint
noncomputable def eI(v:aq×Unit):Option (KY):=some (v.1,false,[],())>>=λx1=>cW (aq.mk x1.1.s (i64.wrap (x1.1.at0+(1:Int))),x1.2)>>=λx2=>some x2
def nK:aB vw:=cO prog 68 eu aU (cO prog 96 ma kX (cO prog 97 mb iC (cO prog 98 mc iD (cO prog 99 md iE (cO prog 100 j_ gc c0)))))
def gV:Xc vw:={P:=prog,n:=69,call:=nK,pre:=qK,sh:=pa,regs:=λk=>match k with|1=>some iP|_=>none,loops:=λk=>match k with|3=>some {cut:=iP,alts:=[.ret],F:=cW}|_=>none}
theorem jp:aj prog nK:=eb dM (eb uk (eb ul (eb um (eb un (eb rU ci)))))
theorem pZ(C:Ctx)(hP:C.P=prog)(hN:C.N=69/\Fx C qK):bC C (ae (aa Tryz.f71) 0) (sh:=pa) {cut:=iP,alts:=[.ret],F:=cW}:=
 cW.partial_correctness (motive:=λv out=>ea C (ae (aa Tryz.f71) 0) (Go.Tx.az vw (bi vw iP v)) (eL pa [.ret] out)) λF ih v out h=>
  aI (X:=gV) (b:=(ae (aa Tryz.f71) 0)) hP hN Ty.mixed jp (aw (X:=gV) (c:=(ae (aa Tryz.f71) 0)) (an (by kernel_rfl:True=bw (ay C (gV)) (ax (ae (aa Tryz.f71) 0))) trivial)) ih (an (by kernel_rfl) h)
theorem iB:bd prog 71 i_ eI:=λv r x h hx=>
 bk (X:=gV) (sig:=i_) rfl Tryz.func71 (c:=aa Tryz.f71) (by kernel_rfl) Tryz.ntmps71 (by kernel_rfl) (by kernel_rfl) rfl Ty.mixed jp rfl (λC hP hN=>(aw (an (by kernel_rfl:bw (ay C (gV)) [(ae (aa Tryz.f71) 0)]=bw (ay C (gV)) (ax (aa Tryz.f71))) ⟨bf (X:=gV) (b:=(ae (aa Tryz.f71) 0)) (by kernel_rfl) (pZ C hP hN),trivial⟩))) (an (by kernel_rfl) h) x hx
def yq:Cut SN:=⟨[(0, .bp 100000 0),(2, .bp 2 0),(4,Dq7),(29,Dq4)],[(100000, .st .readerT),(2, .st .tagT)]⟩
def CV:bc vw:={rcut:=eF}
def zj:Nat->Bool:=λ_=>false
def bJ:Sig vw:={params:=[.bp 100000 0],objs:=[(100000, .st .readerT)],rcut:=eF,rvars:=[.cell 2 25, .tmp 3],keep:=[100000]}
def bG:Cut SN:=⟨[(0, .bp 100000 0),(2, .bp 2 0),(4, .bp 4 0)],[(100000, .st .readerT),(2, .st .tagT),(4, .box none [Dq1,Dq1,Dq5, .vh 3043, .vh 3044]),(3043,Oq9),(3044,DG)]⟩
def pb:bc vw:={exits:=λid=>match id with|1000000=>bG|_=>⟨[],[]⟩,rcut:=eF}
def qL:Nat->Bool:=λ_=>false
def cp:Sig vw:={params:=[.bp 100000 0],objs:=[(100000, .st .readerT)],rcut:=eF,rvars:=[.cell 2 25, .tmp 3],keep:=[100000]}
def pc:bc vw:={exits:=λid=>match id with|1000000=>bG|_=>⟨[],[]⟩,rcut:=eF}
def qM:Nat->Bool:=λ_=>false
def cq:Sig vw:={params:=[.bp 100000 0],objs:=[(100000, .st .readerT)],rcut:=eF,rvars:=[.cell 2 25, .tmp 3],keep:=[100000]}
abbrev Tq1:=aq×Tag×Int×Int×ByteArray×(List ByteArray)×(List Tag)×Unit
mutual
noncomputable def aR(v:aq×Unit):Option (Tq2):=bt v>>=λx1=>aU x1>>=λx2=>if(x2.1==(110:Int))=true then dW (Oo #[110,117,108,108],x2.2)>>=λx3=>some ((x3.1,x3.2.1,Tag.mk (0:Int) (0:Int) (Oo #[]) [] [],()))else if(x2.1==(102:Int))=true then dW (Oo #[102,97,108,115,101],x2.2)>>=λx3=>some ((x3.1,x3.2.1,Tag.mk (1:Int) (0:Int) (Oo #[]) [] [],()))else if(x2.1==(116:Int))=true then dW (Oo #[116,114,117,101],x2.2)>>=λx3=>some ((x3.1,x3.2.1,Tag.mk (2:Int) (0:Int) (Oo #[]) [] [],()))else(if(x2.1==(45:Int))=true then some ((x2.1,true,x2.2.1,Tag.mk (0:Int) (0:Int) (Oo #[]) [] [],()))else if decide (x2.1>=(48:Int))=true then some ((x2.1,decide (x2.1<=(57:Int)),x2.2.1,Tag.mk (0:Int) (0:Int) (Oo #[]) [] [],()))else some ((x2.1,false,x2.2.1,Tag.mk (0:Int) (0:Int) (Oo #[]) [] [],())))>>=λx3=>if x3.2.1=true then iA (x3.2.2.1,())>>=λx4=>some (x4)else if(x3.1==(34:Int))=true then eI (x3.2.2.1,())>>=λx4=>some ((x4.2.1,x4.2.2.1,Tag.mk (4:Int) (0:Int) x4.1 [] [],()))else if(x3.1==(91:Int))=true then n_72s0e1d (x3.2.2.1,())>>=λx4=>some (x4)else if(x3.1==(123:Int))=true then n_73s0e1d (x3.2.2.1,())>>=λx4=>some (x4)else some ((false,x3.2.2.1,Tag.mk (0:Int) (0:Int) (Oo #[]) [] [],())) partial_fixpoint
noncomputable def n_73s0e1d(v:aq×Unit):Option (Tq2):=some (v.1,Tag.mk (0:Int) (0:Int) (Oo #[]) [] [],(6:Int),(0:Int),Oo #[],[],[],())>>=λx1=>bt (aq.mk x1.1.s (i64.wrap (x1.1.at0+(1:Int))),())>>=λx2=>aM (Oo #[125],x2)>>=λx3=>if x3.1=true then some ((true,x3.2.1,Tag.mk x1.2.2.1 x1.2.2.2.1 x1.2.2.2.2.1 x1.2.2.2.2.2.1 x1.2.2.2.2.2.2.1,()))else bt x3.2>>=λx4=>aU x4>>=λx5=>if(x5.1 !=(34:Int))=true then some ((false,x5.2.1,Tag.mk (0:Int) (0:Int) (Oo #[]) [] [],()))else eI x5.2>>=λx6=>if(!x6.2.1)=true then some ((false,x6.2.2.1,Tag.mk (0:Int) (0:Int) (Oo #[]) [] [],()))else bt x6.2.2>>=λx7=>aM (Oo #[58],x7)>>=λx8=>if(!x8.1)=true then some ((false,x8.2.1,Tag.mk (0:Int) (0:Int) (Oo #[]) [] [],()))else aR x8.2>>=λx9=>if(!x9.1)=true then some ((false,x9.2.1,Tag.mk (0:Int) (0:Int) (Oo #[]) [] [],()))else if x1.2.2.2.2.2.1.length+[x6.1].length<=(4294967296:Nat)then if x1.2.2.2.2.2.2.1.length+[x9.2.2.1].length<=(4294967296:Nat)then bt (x9.2.1,())>>=λx10=>aM (Oo #[44],x10)>>=λx11=>if x11.1=true then n_73s0e1dg1 (x11.2.1,x1.2.1,x1.2.2.1,x1.2.2.2.1,x1.2.2.2.2.1,x1.2.2.2.2.2.1++[x6.1],x1.2.2.2.2.2.2.1++[x9.2.2.1],())>>=λx12=>some x12 else aM (Oo #[125],x11.2)>>=λx12=>some ((x12.1,x12.2.1,Tag.mk x1.2.2.1 x1.2.2.2.1 x1.2.2.2.2.1 (x1.2.2.2.2.2.1++[x6.1]) (x1.2.2.2.2.2.2.1++[x9.2.2.1]),()))else none else none partial_fixpoint
noncomputable def n_73s0e1dg1(v:Tq1):Option ((Tq2)):=bt (v.1,())>>=λx1=>aU x1>>=λx2=>if(x2.1 !=(34:Int))=true then some ((false,x2.2.1,Tag.mk (0:Int) (0:Int) (Oo #[]) [] [],()))else eI x2.2>>=λx3=>if(!x3.2.1)=true then some ((false,x3.2.2.1,Tag.mk (0:Int) (0:Int) (Oo #[]) [] [],()))else bt x3.2.2>>=λx4=>aM (Oo #[58],x4)>>=λx5=>if(!x5.1)=true then some ((false,x5.2.1,Tag.mk (0:Int) (0:Int) (Oo #[]) [] [],()))else aR x5.2>>=λx6=>if(!x6.1)=true then some ((false,x6.2.1,Tag.mk (0:Int) (0:Int) (Oo #[]) [] [],()))else if v.2.2.2.2.2.1.length+[x3.1].length<=(4294967296:Nat)then if v.2.2.2.2.2.2.1.length+[x6.2.2.1].length<=(4294967296:Nat)then bt (x6.2.1,())>>=λx7=>aM (Oo #[44],x7)>>=λx8=>if x8.1=true then n_73s0e1dg1 (x8.2.1,v.2.1,v.2.2.1,v.2.2.2.1,v.2.2.2.2.1,v.2.2.2.2.2.1++[x3.1],v.2.2.2.2.2.2.1++[x6.2.2.1],())else aM (Oo #[125],x8.2)>>=λx9=>some ((x9.1,x9.2.1,Tag.mk v.2.2.1 v.2.2.2.1 v.2.2.2.2.1 (v.2.2.2.2.2.1++[x3.1]) (v.2.2.2.2.2.2.1++[x6.2.2.1]),()))else none else none partial_fixpoint
noncomputable def n_72s0e1d(v:aq×Unit):Option (Tq2):=some (v.1,Tag.mk (0:Int) (0:Int) (Oo #[]) [] [],(5:Int),(0:Int),Oo #[],[],[],())>>=λx1=>bt (aq.mk x1.1.s (i64.wrap (x1.1.at0+(1:Int))),())>>=λx2=>aM (Oo #[93],x2)>>=λx3=>if x3.1=true then some ((true,x3.2.1,Tag.mk x1.2.2.1 x1.2.2.2.1 x1.2.2.2.2.1 x1.2.2.2.2.2.1 x1.2.2.2.2.2.2.1,()))else aR x3.2>>=λx4=>if(!x4.1)=true then some ((false,x4.2.1,Tag.mk (0:Int) (0:Int) (Oo #[]) [] [],()))else if x1.2.2.2.2.2.2.1.length+[x4.2.2.1].length<=(4294967296:Nat)then bt (x4.2.1,())>>=λx5=>aM (Oo #[44],x5)>>=λx6=>if x6.1=true then n_72s0e1dg1 (x6.2.1,x1.2.1,x1.2.2.1,x1.2.2.2.1,x1.2.2.2.2.1,x1.2.2.2.2.2.1,x1.2.2.2.2.2.2.1++[x4.2.2.1],())>>=λx7=>some x7 else aM (Oo #[93],x6.2)>>=λx7=>some ((x7.1,x7.2.1,Tag.mk x1.2.2.1 x1.2.2.2.1 x1.2.2.2.2.1 x1.2.2.2.2.2.1 (x1.2.2.2.2.2.2.1++[x4.2.2.1]),()))else none partial_fixpoint
noncomputable def n_72s0e1dg1(v:Tq1):Option ((Tq2)):=aR (v.1,())>>=λx1=>if(!x1.1)=true then some ((false,x1.2.1,Tag.mk (0:Int) (0:Int) (Oo #[]) [] [],()))else if v.2.2.2.2.2.2.1.length+[x1.2.2.1].length<=(4294967296:Nat)then bt (x1.2.1,())>>=λx2=>aM (Oo #[44],x2)>>=λx3=>if x3.1=true then n_72s0e1dg1 (x3.2.1,v.2.1,v.2.2.1,v.2.2.2.1,v.2.2.2.2.1,v.2.2.2.2.2.1,v.2.2.2.2.2.2.1++[x1.2.2.1],())else aM (Oo #[93],x3.2)>>=λx4=>some ((x4.1,x4.2.1,Tag.mk v.2.2.1 v.2.2.2.1 v.2.2.2.2.1 v.2.2.2.2.2.1 (v.2.2.2.2.2.2.1++[x1.2.2.1]),()))else none partial_fixpoint
end
def nE(aR:aq×Unit->Option (Tq2))(n_73s0e1d:aq×Unit->Option (Tq2))(n_73s0e1dg1:Tq1->Option ((Tq2)))(n_72s0e1d:aq×Unit->Option (Tq2))(n_72s0e1dg1:Tq1->Option ((Tq2))):aB vw:=λA fid args S k=>match fid with|50=>bQ prog ff bt A args S k|68=>bQ prog eu aU A args S k|69=>bQ prog i8 dW A args S k|70=>bQ prog l_ iA A args S k|71=>bQ prog i_ eI A args S k|72=>bQ prog cp n_72s0e1d A args S k|73=>bQ prog cq n_73s0e1d A args S k|_=>none
def jb(aR:aq×Unit->Option (Tq2))(n_73s0e1d:aq×Unit->Option (Tq2))(n_73s0e1dg1:Tq1->Option ((Tq2)))(n_72s0e1d:aq×Unit->Option (Tq2))(n_72s0e1dg1:Tq1->Option ((Tq2))):Xc vw:={P:=prog,n:=70,call:=nE aR n_73s0e1d n_73s0e1dg1 n_72s0e1d n_72s0e1dg1,pre:=zj,sh:=CV,regs:=λk=>match k with|9=>some yq|_=>none}
def jM(aR:aq×Unit->Option (Tq2))(n_73s0e1d:aq×Unit->Option (Tq2))(n_73s0e1dg1:Tq1->Option ((Tq2)))(n_72s0e1d:aq×Unit->Option (Tq2))(n_72s0e1dg1:Tq1->Option ((Tq2))):aB vw:=λA fid args S k=>match fid with|49=>bQ prog bJ aR A args S k|50=>bQ prog ff bt A args S k|74=>bQ prog df aM A args S k|_=>none
def bM(aR:aq×Unit->Option (Tq2))(n_73s0e1d:aq×Unit->Option (Tq2))(n_73s0e1dg1:Tq1->Option ((Tq2)))(n_72s0e1d:aq×Unit->Option (Tq2))(n_72s0e1dg1:Tq1->Option ((Tq2))):Xc vw:={P:=prog,n:=41,nm:=λd=>match d with|7=>40007|_=>d,call:=jM aR n_73s0e1d n_73s0e1dg1 n_72s0e1d n_72s0e1dg1,pre:=qL,sh:=pb,regs:=λk=>match k with|1=>some bG|_=>none,jumps:=λk=>match k with|1=>some (0,{cut:=bG,alts:=[.ret],F:=n_72s0e1dg1})|_=>none}
def jN(aR:aq×Unit->Option (Tq2))(n_73s0e1d:aq×Unit->Option (Tq2))(n_73s0e1dg1:Tq1->Option ((Tq2)))(n_72s0e1d:aq×Unit->Option (Tq2))(n_72s0e1dg1:Tq1->Option ((Tq2))):aB vw:=λA fid args S k=>match fid with|49=>bQ prog bJ aR A args S k|50=>bQ prog ff bt A args S k|68=>bQ prog eu aU A args S k|71=>bQ prog i_ eI A args S k|74=>bQ prog df aM A args S k|_=>none
def bN(aR:aq×Unit->Option (Tq2))(n_73s0e1d:aq×Unit->Option (Tq2))(n_73s0e1dg1:Tq1->Option ((Tq2)))(n_72s0e1d:aq×Unit->Option (Tq2))(n_72s0e1dg1:Tq1->Option ((Tq2))):Xc vw:={P:=prog,n:=68,nm:=λd=>match d with|8=>40008|_=>d,call:=jN aR n_73s0e1d n_73s0e1dg1 n_72s0e1d n_72s0e1dg1,pre:=qM,sh:=pc,regs:=λk=>match k with|1=>some bG|_=>none,jumps:=λk=>match k with|1=>some (0,{cut:=bG,alts:=[.ret],F:=n_73s0e1dg1})|_=>none}
abbrev cn(v:aq×Unit)(r:Tq2):Prop:=(λv r=>∀x,lS prog bJ r=some x->c8 prog 49 (encL vw (aE bJ v).len (bj bJ v).1) (br (aE bJ v).len (aE bJ v).own) (ao vw (bi vw bJ.rcut r).len x) (br (bi vw bJ.rcut r).len (gY bJ r))) v r
abbrev ga(v:aq×Unit)(r:Tq2):Prop:=(λv r=>∀x,lS prog cq r=some x->c8 prog 73 (encL vw (aE cq v).len (bj cq v).1) (br (aE cq v).len (aE cq v).own) (ao vw (bi vw cq.rcut r).len x) (br (bi vw cq.rcut r).len (gY cq r))) v r
abbrev cR(v:Tq1)(r:(Tq2)):Prop:=(λv out=>∀C:Ctx,C.P=prog->C.N=68/\Fx C qM->u4 C (bL (aa Tryz.f73) 0) (fG (bL (aa Tryz.f73) 0) 0) (Go.Tx.az vw (bi vw bG v)) (eL pc [.ret] out)) v r
abbrev f_(v:aq×Unit)(r:Tq2):Prop:=(λv r=>∀x,lS prog cp r=some x->c8 prog 72 (encL vw (aE cp v).len (bj cp v).1) (br (aE cp v).len (aE cp v).own) (ao vw (bi vw cp.rcut r).len x) (br (bi vw cp.rcut r).len (gY cp r))) v r
abbrev cQ(v:Tq1)(r:(Tq2)):Prop:=(λv out=>∀C:Ctx,C.P=prog->C.N=41/\Fx C qL->u4 C (bL (aa Tryz.f72) 0) (fG (bL (aa Tryz.f72) 0) 0) (Go.Tx.az vw (bi vw bG v)) (eL pb [.ret] out)) v r
theorem yE(f0:aq×Unit->Option (Tq2))(f1:aq×Unit->Option (Tq2))(h0:∀v r,f0 v=some r->ga v r)(h1:∀v r,f1 v=some r->f_ v r):aj prog (jb (λ_=>none) f0 (λ_=>none) f1 (λ_=>none)).call:=(by
 intro A fid args S dst k r h
 unfold jb nE at h
 simp only at h
 split at h
 ·exact aA (dJ) h
 ·exact aA (dM) h
 ·exact aA (mz) h
 ·exact aA (uj) h
 ·exact aA (iB) h
 ·exact aA ((λv r x h hx=>h1 v r h x hx)) h
 ·exact aA ((λv r x h hx=>h0 v r h x hx)) h
 ·cases h)
theorem zH(f0:aq×Unit->Option (Tq2))(f1:aq×Unit->Option (Tq2))(h0:∀v r,f0 v=some r->ga v r)(h1:∀v r,f1 v=some r->f_ v r)(v:aq×Unit)(r:Tq2)(h:exF (jb (λ_=>none) f0 (λ_=>none) f1 (λ_=>none)) bJ rfl (aa Tryz.f49) v=some r):cn v r:=λx hx=>bk (X:=jb (λ_=>none) f0 (λ_=>none) f1 (λ_=>none)) (sig:=bJ) rfl Tryz.func49 (c:=aa Tryz.f49) (by kernel_rfl) Tryz.ntmps49 (by kernel_rfl) (by kernel_rfl) rfl Ty.mixed (yE f0 f1 h0 h1) rfl (λC hP hN=>(aw (X:=jb (λ_=>none) f0 (λ_=>none) f1 (λ_=>none)) (c:=(aa Tryz.f49)) (an (by kernel_rfl:True=bw (ay C (jb (λ_=>none) f0 (λ_=>none) f1 (λ_=>none))) (ax (aa Tryz.f49))) trivial))) h x hx
theorem yG(f0:aq×Unit->Option (Tq2))(f1:Tq1->Option ((Tq2)))(h0:∀v r,f0 v=some r->cn v r)(h1:∀v r,f1 v=some r->cR v r):aj prog (bN f0 (λ_=>none) f1 (λ_=>none) (λ_=>none)).call:=(by
 intro A fid args S dst k r h
 unfold bN jN at h
 simp only at h
 split at h
 ·exact aA ((λv r x h hx=>h0 v r h x hx)) h
 ·exact aA (dJ) h
 ·exact aA (dM) h
 ·exact aA (iB) h
 ·exact aA (cd) h
 ·cases h)
theorem zJ(f0:aq×Unit->Option (Tq2))(f1:Tq1->Option ((Tq2)))(h0:∀v r,f0 v=some r->cn v r)(h1:∀v r,f1 v=some r->cR v r)(v:aq×Unit)(r:Tq2)(h:exF (bN f0 (λ_=>none) f1 (λ_=>none) (λ_=>none)) cq rfl (aa Tryz.f73) v=some r):ga v r:=λx hx=>bk (X:=bN f0 (λ_=>none) f1 (λ_=>none) (λ_=>none)) (sig:=cq) rfl Tryz.func73 (c:=aa Tryz.f73) (by kernel_rfl) Tryz.ntmps73 (by kernel_rfl) (by kernel_rfl) rfl Ty.mixed (yG f0 f1 h0 h1) rfl (λC hP hN=>(kP (X:=bN f0 (λ_=>none) f1 (λ_=>none) (λ_=>none)) (c:=(aa Tryz.f73)) (an (by kernel_rfl:bw (ay C (bN f0 (λ_=>none) f1 (λ_=>none) (λ_=>none))) []=bw (ay C (bN f0 (λ_=>none) f1 (λ_=>none) (λ_=>none))) (ax (aa Tryz.f73))) trivial) (an (by kernel_rfl:bw (jh C (bN f0 (λ_=>none) f1 (λ_=>none) (λ_=>none))) [(bL (aa Tryz.f73) 0)]=bw (jh C (bN f0 (λ_=>none) f1 (λ_=>none) (λ_=>none))) (eM (aa Tryz.f73))) ⟨BD (X:=bN f0 (λ_=>none) f1 (λ_=>none) (λ_=>none)) (x:=(bL (aa Tryz.f73) 0)) (l:=0) (by kernel_rfl) (show sK C (bL (aa Tryz.f73) 0) 0 (sh:=pc) {cut:=bG,alts:=[.ret],F:=f1}from⟨(fG (bL (aa Tryz.f73) 0) 0),by kernel_rfl,λv out h=>h1 v out h C hP hN⟩),trivial⟩))) h x hx
theorem tn(f0:aq×Unit->Option (Tq2))(f1:Tq1->Option ((Tq2)))(h0:∀v r,f0 v=some r->cn v r)(h1:∀v r,f1 v=some r->cR v r):aj prog (bN f0 (λ_=>none) f1 (λ_=>none) (λ_=>none)).call:=(by
 intro A fid args S dst k r h
 unfold bN jN at h
 simp only at h
 split at h
 ·exact aA ((λv r x h hx=>h0 v r h x hx)) h
 ·exact aA (dJ) h
 ·exact aA (dM) h
 ·exact aA (iB) h
 ·exact aA (cd) h
 ·cases h)
theorem uO(f0:aq×Unit->Option (Tq2))(f1:Tq1->Option ((Tq2)))(h0:∀v r,f0 v=some r->cn v r)(h1:∀v r,f1 v=some r->cR v r)(v:Tq1)(r:(Tq2))(h:exJ (bN f0 (λ_=>none) f1 (λ_=>none) (λ_=>none)) (fG (bL (aa Tryz.f73) 0) 0) 0 bG [.ret] f1 v=some r):cR v r:=λC hP hN=>tO (X:=bN f0 (λ_=>none) f1 (λ_=>none) (λ_=>none)) (x:=(bL (aa Tryz.f73) 0)) (b:=(fG (bL (aa Tryz.f73) 0) 0)) (l:=0) hP hN Ty.mixed (tn f0 f1 h0 h1) (by kernel_rfl) (kP (X:=bN f0 (λ_=>none) f1 (λ_=>none) (λ_=>none)) (c:=(fG (bL (aa Tryz.f73) 0) 0)) (an (by kernel_rfl:bw (ay C (bN f0 (λ_=>none) f1 (λ_=>none) (λ_=>none))) []=bw (ay C (bN f0 (λ_=>none) f1 (λ_=>none) (λ_=>none))) (ax (fG (bL (aa Tryz.f73) 0) 0))) trivial) (an (by kernel_rfl:bw (jh C (bN f0 (λ_=>none) f1 (λ_=>none) (λ_=>none))) []=bw (jh C (bN f0 (λ_=>none) f1 (λ_=>none) (λ_=>none))) (eM (fG (bL (aa Tryz.f73) 0) 0))) trivial)) (cut:=bG) (alts:=[.ret]) (F:=f1) (λv out h=>h1 v out h C hP hN) h
theorem yF(f0:aq×Unit->Option (Tq2))(f1:Tq1->Option ((Tq2)))(h0:∀v r,f0 v=some r->cn v r)(h1:∀v r,f1 v=some r->cQ v r):aj prog (bM f0 (λ_=>none) (λ_=>none) (λ_=>none) f1).call:=(by
 intro A fid args S dst k r h
 unfold bM jM at h
 simp only at h
 split at h
 ·exact aA ((λv r x h hx=>h0 v r h x hx)) h
 ·exact aA (dJ) h
 ·exact aA (cd) h
 ·cases h)
theorem zI(f0:aq×Unit->Option (Tq2))(f1:Tq1->Option ((Tq2)))(h0:∀v r,f0 v=some r->cn v r)(h1:∀v r,f1 v=some r->cQ v r)(v:aq×Unit)(r:Tq2)(h:exF (bM f0 (λ_=>none) (λ_=>none) (λ_=>none) f1) cp rfl (aa Tryz.f72) v=some r):f_ v r:=λx hx=>bk (X:=bM f0 (λ_=>none) (λ_=>none) (λ_=>none) f1) (sig:=cp) rfl Tryz.func72 (c:=aa Tryz.f72) (by kernel_rfl) Tryz.ntmps72 (by kernel_rfl) (by kernel_rfl) rfl Ty.mixed (yF f0 f1 h0 h1) rfl (λC hP hN=>(kP (X:=bM f0 (λ_=>none) (λ_=>none) (λ_=>none) f1) (c:=(aa Tryz.f72)) (an (by kernel_rfl:bw (ay C (bM f0 (λ_=>none) (λ_=>none) (λ_=>none) f1)) []=bw (ay C (bM f0 (λ_=>none) (λ_=>none) (λ_=>none) f1)) (ax (aa Tryz.f72))) trivial) (an (by kernel_rfl:bw (jh C (bM f0 (λ_=>none) (λ_=>none) (λ_=>none) f1)) [(bL (aa Tryz.f72) 0)]=bw (jh C (bM f0 (λ_=>none) (λ_=>none) (λ_=>none) f1)) (eM (aa Tryz.f72))) ⟨BD (X:=bM f0 (λ_=>none) (λ_=>none) (λ_=>none) f1) (x:=(bL (aa Tryz.f72) 0)) (l:=0) (by kernel_rfl) (show sK C (bL (aa Tryz.f72) 0) 0 (sh:=pb) {cut:=bG,alts:=[.ret],F:=f1}from⟨(fG (bL (aa Tryz.f72) 0) 0),by kernel_rfl,λv out h=>h1 v out h C hP hN⟩),trivial⟩))) h x hx
theorem tm(f0:aq×Unit->Option (Tq2))(f1:Tq1->Option ((Tq2)))(h0:∀v r,f0 v=some r->cn v r)(h1:∀v r,f1 v=some r->cQ v r):aj prog (bM f0 (λ_=>none) (λ_=>none) (λ_=>none) f1).call:=(by
 intro A fid args S dst k r h
 unfold bM jM at h
 simp only at h
 split at h
 ·exact aA ((λv r x h hx=>h0 v r h x hx)) h
 ·exact aA (dJ) h
 ·exact aA (cd) h
 ·cases h)
theorem uN(f0:aq×Unit->Option (Tq2))(f1:Tq1->Option ((Tq2)))(h0:∀v r,f0 v=some r->cn v r)(h1:∀v r,f1 v=some r->cQ v r)(v:Tq1)(r:(Tq2))(h:exJ (bM f0 (λ_=>none) (λ_=>none) (λ_=>none) f1) (fG (bL (aa Tryz.f72) 0) 0) 0 bG [.ret] f1 v=some r):cQ v r:=λC hP hN=>tO (X:=bM f0 (λ_=>none) (λ_=>none) (λ_=>none) f1) (x:=(bL (aa Tryz.f72) 0)) (b:=(fG (bL (aa Tryz.f72) 0) 0)) (l:=0) hP hN Ty.mixed (tm f0 f1 h0 h1) (by kernel_rfl) (kP (X:=bM f0 (λ_=>none) (λ_=>none) (λ_=>none) f1) (c:=(fG (bL (aa Tryz.f72) 0) 0)) (an (by kernel_rfl:bw (ay C (bM f0 (λ_=>none) (λ_=>none) (λ_=>none) f1)) []=bw (ay C (bM f0 (λ_=>none) (λ_=>none) (λ_=>none) f1)) (ax (fG (bL (aa Tryz.f72) 0) 0))) trivial) (an (by kernel_rfl:bw (jh C (bM f0 (λ_=>none) (λ_=>none) (λ_=>none) f1)) []=bw (jh C (bM f0 (λ_=>none) (λ_=>none) (λ_=>none) f1)) (eM (fG (bL (aa Tryz.f72) 0) 0))) trivial)) (cut:=bG) (alts:=[.ret]) (F:=f1) (λv out h=>h1 v out h C hP hN) h
theorem r7:(∀v r,aR v=some r->cn v r)/\(∀v r,n_73s0e1d v=some r->ga v r)/\(∀v r,n_73s0e1dg1 v=some r->cR v r)/\(∀v r,n_72s0e1d v=some r->f_ v r)/\(∀v r,n_72s0e1dg1 v=some r->cQ v r):=by
 refine aR.mutual_partial_correctness
  (motive_1:=cn)
  (motive_2:=ga)
  (motive_3:=cR)
  (motive_4:=f_)
  (motive_5:=cQ)
  ?_ ?_ ?_ ?_ ?_
 ·exact(λf0 f1 h0 h1 v r h=>zH f0 f1 h0 h1 v r (an (by kernel_rfl) h))
 ·exact(λf0 f1 h0 h1 v r h=>zJ f0 f1 h0 h1 v r (an (by kernel_rfl) h))
 ·exact(λf0 f1 h0 h1 v r h=>uO f0 f1 h0 h1 v r (an (by kernel_rfl) h))
 ·exact(λf0 f1 h0 h1 v r h=>zI f0 f1 h0 h1 v r (an (by kernel_rfl) h))
 ·exact(λf0 f1 h0 h1 v r h=>uN f0 f1 h0 h1 v r (an (by kernel_rfl) h))
theorem ui:bd prog 49 bJ aR:=λv r x h hx=>r7.1 v r h x hx
def Ls:Cut SN:=⟨[(0,Dq5),(2, .bp 2 0),(5, .bp 15 0),(6, .bp 6 0),(7,Dq4)],[(2, .st .tagT),(15, .st .readerT),(6, .st .tagT)]⟩
def Lt:Cut SN:=⟨[(0,Dq5),(2, .bp 2 0),(5, .bp 15 0),(6, .bp 6 0),(34,Dq4)],[(2, .st .tagT),(15, .st .readerT),(6, .st .tagT)]⟩
def Nf:Cut SN:=⟨[(2, .bp 2 0),(3,Dq1),(4,Dq1)],[(2, .st .tagT)]⟩
def N0:bc vw:={rcut:=Nf}
def Mm:Nat->Bool:=λ_=>false
def IR:Sig vw:={params:=[Dq5],rcut:=Nf,rvars:=[.cell 2 25, .tmp 3, .tmp 4]}
noncomputable def JI(v:ByteArray×Unit):Option (DR):=if decide ((↑v.1.size:Int)>(65536:Int))=true then some (((0:Int),(3:Int),Tag.mk (0:Int) (0:Int) (Oo #[]) [] [],()))else aR (aq.mk v.1 (0:Int),())>>=λx1=>(if x1.1=true then bt (x1.2.1,())>>=λx2=>some ((v.1,x1.1,Tag.mk (0:Int) (0:Int) (Oo #[]) [] [],x2.1,x1.2.2))else some ((v.1,x1.1,Tag.mk (0:Int) (0:Int) (Oo #[]) [] [],x1.2)))>>=λx2=>(if(!x2.2.1)=true then some (x2.1,true,x2.2.2)else some ((x2.1,decide (x2.2.2.2.1.at0<(↑x2.1.size:Int)),x2.2.2)))>>=λx3=>if x3.2.1=true then some ((x3.2.2.2.1.at0,(2:Int),Tag.mk (0:Int) (0:Int) (Oo #[]) [] [],()))else oC x3.2.2.2.2>>=λx4=>if(x4.1 !=(0:Int))=true then some (((0:Int),x4.1,Tag.mk (0:Int) (0:Int) (Oo #[]) [] [],()))else some (((↑x3.1.size:Int),(0:Int),x3.2.2.2.2))
def Gc:aB vw:=cP prog 29 uL oC (cO prog 49 bJ aR (cO prog 50 ff bt c0))
def x28:Xc vw:={P:=prog,n:=49,call:=Gc,pre:=Mm,sh:=N0,joins:=λk=>match k with|7=>some (Ls,[.norm])|_=>none,regs:=λk=>match k with|7=>some Lt|_=>none}
theorem AN:aj prog Gc:=bE lN rfl rfl (eb ui (eb dJ ci))
theorem H8:bd prog 28 IR JI:=λv r x h hx=>
 bk (X:=x28) (sig:=IR) rfl Tryz.func28 (c:=aa Tryz.f28) (by kernel_rfl) Tryz.ntmps28 (by kernel_rfl) (by kernel_rfl) rfl Ty.mixed AN rfl (λC hP hN=>(aw (an (by kernel_rfl) trivial))) (an (by kernel_rfl) h) x hx
def sh7:bc vw:={rcut:=qk}
def NM:Nat->Bool:=λ_=>false
def ME:Sig vw:={params:=[Dq3],rcut:=qk,rvars:=[.tmp 2]}
noncomputable def n_7(v:Tag×Unit):Option (Bool×Unit):=n_27 v>>=λx1=>(if decide (x1.1>(2000:Int))=true then some ((true,()))else if decide (x1.2.1>(100:Int))=true then some ((true,()))else some ((decide (x1.2.2.1>(20000:Int)),())))>>=λx2=>some (x2)
def J3:aB vw:=cP prog 27 jf n_27 c0
def x7:Xc vw:={P:=prog,n:=22,call:=J3,pre:=NM,sh:=sh7,regs:=λk=>match k with|2=>some qk|_=>none}
theorem DZ:aj prog J3:=bE r5 rfl rfl ci
theorem Ks:bd prog 7 ME n_7:=λv r x h hx=>
 bk (X:=x7) (sig:=ME) rfl Tryz.func7 (c:=aa Tryz.f7) (by kernel_rfl) Tryz.ntmps7 (by kernel_rfl) (by kernel_rfl) rfl Ty.mixed DZ rfl (λC hP hN=>(aw (an (by kernel_rfl) trivial))) (an (by kernel_rfl) h) x hx
def LM:Cut SN:=⟨[(0,Dq4)],[]⟩
def sh9:bc vw:={rcut:=LM}
def NO:Nat->Bool:=λ_=>false
def MF:Sig vw:={params:=[],rcut:=LM,rvars:=[.tmp 0]}
noncomputable def n_9(v:Unit):Option (Bool×Unit):=JI (Oo #[123,34,97,34,58,91,49,44,50,93,125],())>>=λx1=>Kl (x1.2.2.1,[Oo #[97],Oo #[49]],())>>=λx2=>JI (Oo #[91,49,44,93],())>>=λx3=>(if(x1.2.1==(0:Int))=true then if(x1.1==(11:Int))=true then if(x2.2.1==(0:Int))=true then if x2.1=true then if(x2.2.2.1.kind==(3:Int))=true then if(x2.2.2.1.n==(2:Int))=true then if(x3.2.1==(2:Int))=true then some ((x3.1==(3:Int),()))else some ((false,()))else some ((false,()))else some ((false,()))else some ((false,()))else some ((false,()))else some ((false,()))else some ((false,())))>>=λx4=>some (x4)
def J4:aB vw:=cP prog 13 IG Kl (cP prog 28 IR JI c0)
def x9:Xc vw:={P:=prog,n:=58,call:=J4,pre:=NO,sh:=sh9,regs:=λk=>match k with|4=>some LM|_=>none}
theorem D0:aj prog J4:=bE HQ rfl rfl (bE H8 rfl rfl ci)
theorem Kt:bd prog 9 MF n_9:=λv r x h hx=>
 bk (X:=x9) (sig:=MF) rfl Tryz.func9 (c:=aa Tryz.f9) (by kernel_rfl) Tryz.ntmps9 (by kernel_rfl) (by kernel_rfl) rfl Ty.mixed D0 rfl (λC hP hN=>(aw (an (by kernel_rfl) trivial))) (an (by kernel_rfl) h) x hx
def LL:Cut SN:=⟨[(3, .bp 3 0),(4,Dq1),(103,Dq4)],[(3, .st .tagT)]⟩
def sh6:bc vw:={rcut:=qk}
def NL:Nat->Bool:=λ_=>false
def Nn:Sig vw:={params:=[Dq3],rcut:=qk,rvars:=[.tmp 2]}
noncomputable def n_6(v:Tag×Unit):Option (Bool×Unit):=n_7 v>>=λx1=>if x1.1=true then n_9 ()>>=λx2=>some (x2)else Aa v>>=λx2=>HU v>>=λx3=>HW v>>=λx4=>HY v>>=λx5=>H1 v>>=λx6=>H3 v>>=λx7=>HR v>>=λx8=>H5 v>>=λx9=>(n_12 (x2.2.1,x3.2)>>=λx10=>if(!x10.1)=true then some (x2.1,true,x2.2)else if(x2.1 !=x3.1)=true then some (x2.1,true,x2.2)else H7 (x4.1,x5.1,())>>=λx11=>if(!x11.1)=true then some (x2.1,true,x2.2)else if(x4.2.1 !=x5.2.1)=true then some (x2.1,true,x2.2)else if(x6.1 !=x7.1)=true then some (x2.1,true,x2.2)else if(x6.2.1 !=x7.2.1)=true then some (x2.1,true,x2.2)else if(x8.1 !=x9.1)=true then some (x2.1,true,x2.2)else some (x2.1,x8.2.1 !=x9.2.1,x2.2))>>=λx10=>if x10.2.1=true then some ((false,()))else Aa x10.2.2>>=λx11=>(if(x10.1 !=(0:Int))=true then n_9 ()>>=λx12=>some (x12)else if(x11.1==(0:Int))=true then n_12 (x11.2.1,x10.2.2)>>=λx12=>if x12.1=true then n_9 ()>>=λx13=>some (x13)else some ((false,()))else some ((false,())))>>=λx12=>some (x12)
def J2:aB vw:=cP prog 7 ME n_7 (cP prog 9 MF n_9 (cP prog 12 lV n_12 (cP prog 18 IH HR (cP prog 19 II Aa (cP prog 20 IJ HU (cP prog 21 IK HW (cP prog 22 IL HY (cP prog 23 IM H1 (cP prog 24 IP H3 (cP prog 25 IQ H5 (cP prog 26 E6 H7 c0)))))))))))
def x6:Xc vw:={P:=prog,n:=123,call:=J2,pre:=NL,sh:=sh6,regs:=λk=>match k with|11=>some LL|14=>some qk|_=>none}
theorem DY:aj prog J2:=bE Ks rfl rfl (bE Kt rfl rfl (bE HP rfl rfl (bE HS rfl rfl (bE HT rfl rfl (bE HV rfl rfl (bE HX rfl rfl (bE HZ rfl rfl (bE H2 rfl rfl (bE H4 rfl rfl (bE H6 rfl rfl (bE v7 rfl rfl ci)))))))))))
theorem Kr:bd prog 6 Nn n_6:=λv r x h hx=>
 bk (X:=x6) (sig:=Nn) rfl Tryz.func6 (c:=aa Tryz.f6) (by kernel_rfl) Tryz.ntmps6 (by kernel_rfl) (by kernel_rfl) rfl Ty.mixed DY rfl (λC hP hN=>(aw (an (by kernel_rfl) trivial))) (an (by kernel_rfl) h) x hx
end Go.Proofs.YtpndmanbfleadaaGreatDoor
end
section
namespace Go.Proofs.YtpndmanbfleadaaGreatDoor
open Go.Awp Go.Tx
set_option maxRecDepth 20000
theorem sW:(∀{α β:Type} (x:Option α) (f:α->Option β),(x>>=f)=x.bind f)/\(∀{α β:Type} (a:α) (f:α->Option β),(some a).bind f=f a)/\(∀{α β:Type} (f:α->Option β),(none:Option α).bind f=none)/\
 (∀{α:Type} {h:Decidable True} (a b:α), @ite α True h a b=a)/\(∀{α:Type} {h:Decidable False} (a b:α), @ite α False h a b=b)/\((false=true)=False)/\((true=false)=False)/\(∀n:Nat,(n:Int).toNat=n)/\(∀n:Nat,0<=(n:Int))/\
 (∀{α:Type} [BEq α] [LawfulBEq α] {a b:α},(a==b)=true↔a=b)/\(∀{p:Prop} [Decidable p],decide p=true↔p)/\(∀{n m:Nat},(n:Int)<m↔n<m):=
 ⟨λ_ _=>rfl,λ_ _=>rfl,λ_=>rfl,λ{α h} a b=> @RO α h a b,λ{α h} a b=> @RP α h a b,by simp,by simp,λ_=>rfl,Int.natCast_nonneg,beq_iff_eq,λ{p} _=>Iff.of_eq (RQ (p:=p)),Int.ofNat_lt⟩
theorem Tag.ind{P:Tag->Prop}(h:∀t:Tag,(∀p∈t.parts,P p)->P t)(t:Tag):P t:=h t λp hp=>Tag.ind h p
termination_by SizeOf.sizeOf t
decreasing_by
 have:=List.sizeOf_lt_of_mem hp
 cases t
 simp at *
 omega
theorem q_{x:Int}(h1: -9223372036854775808<=x)(h2:x<=9223372036854775807):IntKind.i64.wrap x=x:=by
 unfold IntKind.wrap
 simp only[IntKind.bits,IntKind.signed,Bool.true_and]
 split<;>rename_i h<;>simp at h<;>omega
theorem aQ{k n:Nat}(h:k<n)(hn:n<=9223372036854775807):IntKind.i64.wrap ((k:Int)+1)=((k+1:Nat):Int):=by rw[q_ (by omega) (by omega)];omega
theorem dP{α:Type}{xs:List α}{k:Nat}(h:k<xs.length):∃p,xs[k]?=some p/\p∈xs/\xs.drop k=p::xs.drop (k+1)/\((k:Int)<(xs.length:Int))/\(0:Int)<=(k:Int):=
 ⟨xs[k],Ou h,Pn h,Re h,by omega,by omega⟩
theorem eP{α:Type}{xs:List α}{k:Nat}(h:¬k<xs.length):xs.drop k=[]/\¬((k:Int)<(xs.length:Int)):=⟨P2 (by omega),by omega⟩
inductive Tag.Wf:Tag->Prop
 |mk {t:Tag}:t.names.length<=9223372036854775807->t.parts.length<=9223372036854775807->(∀p∈t.parts,Tag.Wf p)->Tag.Wf t
theorem Tag.Wf.names{t:Tag}(h:t.Wf):t.names.length<=9223372036854775807:=by cases h;assumption
theorem Tag.Wf.parts{t:Tag}(h:t.Wf):t.parts.length<=9223372036854775807:=by cases h;assumption
theorem Tag.Wf.part{t p:Tag}(h:t.Wf)(hp:p∈t.parts):p.Wf:=by cases h with|mk _ _ h=>exact h p hp
theorem Nx(t:Tag)(ht:t.Wf)(a b:Int):∀(m k:Nat) (c:Int),t.names.length-k=m->∃c',cT (a,b,c,(k:Int),t,())=some (a,b,c',t,()):=by
 intro m
 induction m with
 |zero=>
  intro k c hk
  have hlt:¬k<t.names.length:=by omega
  obtain⟨hd,g1⟩:=eP hlt
  rw[cT]
  simp only[sW,hlt]
  exact⟨_,rfl⟩
 |succ m ih=>
  intro k c hk
  have hlt:k<t.names.length:=by omega
  obtain⟨p,hp1,hm,hd,g1,g2⟩:=dP hlt
  rw[cT]
  simp only[sW,g1,g2,hlt,hp1,aQ hlt ht.names]
  exact ih (k+1) _ (by omega)
theorem Ny(t:Tag)(ht:t.Wf)(hp:∀p∈t.parts,∃x,n_27 (p,())=some x):∀(m k:Nat) (a b c:Int),t.parts.length-k=m->∃x,fE (a,b,c,(k:Int),t,())=some x:=by
 intro m
 induction m with
 |zero=>
  intro k a b c hk
  have hlt:¬k<t.parts.length:=by omega
  obtain⟨hd,g1⟩:=eP hlt
  rw[fE]
  simp only[sW,hlt]
  exact⟨_,rfl⟩
 |succ m ih=>
  intro k a b c hk
  have hlt:k<t.parts.length:=by omega
  obtain⟨p,hp1,hm,hd,g1,g2⟩:=dP hlt
  obtain⟨x,hx⟩:=hp p hm
  rw[fE]
  simp only[sW,g1,g2,hlt,hp1,hx,aQ hlt ht.parts]
  exact ih (k+1) _ _ _ (by omega)
theorem f43:∀t:Tag,t.Wf->∃x,n_27 (t,())=some x:=by
 refine Tag.ind λt ih ht=> ?_
 obtain⟨c,hc⟩:=Nx t ht 1 0 _ 0 (t.text.size:Int) rfl
 obtain⟨x,hx⟩:=Ny t ht (λp hp=>ih p hp (ht.part hp)) _ 0 1 0 c rfl
 simp only[PN,Pz,OZ]at hc hx
 rw[n_27]
 simp only[sW,hc,hx]
 exact⟨_,rfl⟩
theorem f13(t:Tag)(ht:t.Wf):∃b,n_7 (t,())=some (b,()):=by
 obtain⟨x,hx⟩:=f43 t ht
 unfold n_7
 simp only[hx,sW]
 split
 ·exact⟨_,rfl⟩
 ·split
  ·exact⟨_,rfl⟩
  ·exact⟨_,rfl⟩
end Go.Proofs.YtpndmanbfleadaaGreatDoor
end
section
namespace Go.Proofs.YtpndmanbfleadaaGreatDoor
open Go.Awp Go.Tx
set_option maxRecDepth 20000
abbrev big:Nat:=9223372036854775807
inductive Tag.Fit (B:Nat):Tag->Prop
 |mk {t:Tag}:t.text.size<=B->t.names.length<=B->(∀s∈t.names,s.size<=B)->t.parts.length<=B->(∀p∈t.parts,Tag.Fit B p)->Tag.Fit B t
section
variable {B:Nat} {t:Tag} (h:t.Fit B)
include h
theorem Tag.Fit.text:t.text.size<=B:=by cases h;assumption
theorem Tag.Fit.names:t.names.length<=B:=by cases h;assumption
theorem Tag.Fit.name{s:ByteArray}(hs:s∈t.names):s.size<=B:=by cases h with|mk _ _ h _ _=>exact h s hs
theorem Tag.Fit.parts:t.parts.length<=B:=by cases h;assumption
theorem Tag.Fit.part{p:Tag}(hp:p∈t.parts):p.Fit B:=by cases h with|mk _ _ _ _ h=>exact h p hp
end
theorem Tag.Fit.mono{B B':Nat}(hB:B<=B'):∀t:Tag,t.Fit B->t.Fit B':=
 Tag.ind λt ih h=> .mk (Ps h.text hB) (Ps h.names hB) (λs hs=>Ps (h.name hs) hB) (Ps h.parts hB) λp hp=>ih p hp (h.part hp)
theorem Tag.Fit.wf:∀t:Tag,t.Fit big->t.Wf:=Tag.ind λt ih h=> .mk h.names h.parts λp hp=>ih p hp (h.part hp)
theorem GC{ns:List Nat}:∀{i n:Nat},ns[i]?=some n->n<=ns.sum:=by
 induction ns with
 |nil=>intro i n h;simp at h
 |cons a r ih=>
  intro i n h
  cases i with
  |zero=>simp at h;subst h;simp
  |succ i=>have:=ih (i:=i) (by simpa using h);simp;omega
theorem Je{ns:List Nat}(h:∀n∈ns,1<=n):ns.length<=ns.sum:=by
 induction ns with
 |nil=>simp
 |cons a r ih=>
  have h1:=h a Ox
  have h2:=ih λn hn=>h n (Ot _ hn)
  simp;omega
theorem JX{e:Ty vw.ι}{x:den vw.N e}{m:Nat}(h:Bk vw e x m):1<=m:=by
 cases h<;>omega
theorem w4{s:ByteArray}{m:Nat}(h:Bk vw .str s m):s.size+1<=m:=by
 cases h;assumption
theorem JY{e:Ty SN}{xs:List (den NN e)}{m:Nat}(h:Bk vw (.sl e) xs m):xs.length+1<=m/\∀x∈xs,∃n,n+1<=m/\Bk vw e x n:=by
 cases h with
 |sl ns h1 h2 h3=>
  have h1:ns.length=xs.length:=h1
  have hp:∀n∈ns,1<=n:=λn hn=>by
   obtain⟨i,hi⟩:=Py hn
   obtain⟨x,hx⟩:∃x,xs[i]?=some x:=⟨_,Ou (by have:=(Ol.1 hi).1;omega)⟩
   exact JX (h2 i x n hx hi)
  have:=Je hp
  refine⟨by omega,λx hx=> ?_⟩
  obtain⟨i,hi⟩:=Py hx
  obtain⟨n,hn⟩:∃n,ns[i]?=some n:=⟨_,Ou (by have:=(Ol.1 hi).1;omega)⟩
  exact⟨n,by have:=GC hn;omega,h2 i x n hi hn⟩
theorem Ln{i:SN}{x:NN i}{m:Nat}(h:Bk vw (.st i) x m):∀l∈cK i x,∃n,n+1<=m/\Bk vw l.t l.x n:=by
 cases h with
 |st ns h1 h2 h3=>
  intro l hl
  obtain⟨j,hj⟩:=Py hl
  have h1:ns.length=(cK i x).length:=h1
  obtain⟨n,hn⟩:∃n,ns[j]?=some n:=⟨_,Ou (by have:=(Ol.1 hj).1;omega)⟩
  exact⟨n,by have:=GC hn;omega,h2 j l n hj hn⟩
theorem Bd{B:Nat}:∀(t:Tag) (m:Nat),m<=B->Bk vw (.st .tagT) t m->t.Fit B:=by
 refine Tag.ind λt ih m hm h=> ?_
 have hc:=Ln h
 obtain⟨n1,l1,h1⟩:=hc ⟨.str,t.text⟩ (by simp[cK])
 obtain⟨n2,l2,h2⟩:=hc ⟨.sl .str,t.names⟩ (by simp[cK])
 obtain⟨n3,l3,h3⟩:=hc ⟨.sl (.st .tagT),t.parts⟩ (by simp[cK])
 have a1:t.text.size+1<=n1:=w4 h1
 obtain⟨a2,b2⟩:=JY (e:= .str) (xs:=t.names) h2
 obtain⟨a3,b3⟩:=JY (e:= .st .tagT) (xs:=t.parts) h3
 refine .mk (by omega) (by omega) (λs hs=> ?_) (by omega) λp hp=> ?_
 ·obtain⟨n,l,h⟩:=b2 s hs
  have:=w4 h
  omega
 ·obtain⟨n,l,h⟩:=b3 p hp
  exact ih p hp n (by omega) h
theorem Nz(t:Tag)(ht:t.Fit big)(y:cH)(a b:Int):∀(m k:Nat) (c:Int),t.names.length-k=m->
 ∃c',cT (1,0,c,(k:Int),t,())=some (1,0,c',t,())/\cD (t.names,(t.names.length:Int),(k:Int),t,y,⟨a,b,c⟩,())=some (t,y,⟨a,b,c'⟩,()):=by
 intro m
 induction m with
 |zero=>
  intro k c hk
  have hlt:¬k<t.names.length:=by omega
  rw[cT,cD]
  simp only[sW,hlt]
  exact⟨_,rfl,rfl⟩
 |succ m ih=>
  intro k c hk
  have hlt:k<t.names.length:=by omega
  obtain⟨p,hp1,hm,hd,g1,g2⟩:=dP hlt
  rw[cT,cD]
  simp only[sW,g1,g2,hlt,hp1,aQ hlt ht.names]
  exact ih (k+1) _ (by omega)
theorem NA(t:Tag)(ht:t.Fit big)(y:cH)(hp:∀p∈t.parts,∃a d s,n_27 (p,())=some (a,d,s,())/\n_42 (p,())=some (⟨d,a,s⟩,())):∀(m k:Nat) (a b c:Int),t.parts.length-k=m->
 ∃a' b' c',fE (a,b,c,(k:Int),t,())=some (a',b',c',())/\dV (t.parts,(t.parts.length:Int),(k:Int),y,⟨b,a,c⟩,())=some (y,⟨b',a',c'⟩,()):=by
 intro m
 induction m with
 |zero=>
  intro k a b c hk
  have hlt:¬k<t.parts.length:=by omega
  rw[fE,dV]
  simp only[sW,hlt]
  exact⟨_,_,_,rfl,rfl⟩
 |succ m ih=>
  intro k a b c hk
  have hlt:k<t.parts.length:=by omega
  obtain⟨p,hp1,hm,hd,g1,g2⟩:=dP hlt
  obtain⟨a1,d1,s1,e1,e2⟩:=hp p hm
  rw[fE,dV]
  simp only[sW,g1,g2,hlt,hp1,e1,e2,aQ hlt ht.parts]
  exact ih (k+1) _ _ _ (by omega)
theorem f58:∀t:Tag,t.Fit big->∃a d s,n_27 (t,())=some (a,d,s,())/\n_42 (t,())=some (⟨d,a,s⟩,()):=by
 refine Tag.ind λt ih ht=> ?_
 obtain⟨c,h1,h2⟩:=Nz t ht ⟨0,0,0⟩ 0 1 _ 0 (t.text.size:Int) rfl
 obtain⟨a',b',c',h3,h4⟩:=NA t ht ⟨0,0,0⟩ (λp hp=>ih p hp (ht.part hp)) _ 0 1 0 c rfl
 simp only[PN,Pz,OZ]at h1 h2 h3 h4
 rw[n_27,n_42]
 simp only[sW,h1,h2,h3,h4]
 exact⟨_,_,_,rfl,rfl⟩
theorem f87{s:ByteArray}(h:s.size<=big):DK (s,())=some (Lib.validD s.data.toList,()):=by
 unfold DK
 rw[RS h]
theorem f86{s:ByteArray}(h:s.size<=big):DJ (s,())=some (!Lib.validD s.data.toList,()):=by
 unfold DJ
 simp only[f87 h,sW]
theorem NG(t:Tag)(ht:t.Fit big):∀(m k:Nat),t.names.length-k=m->∃o:Option Nat,
 bv (t.names,(t.names.length:Int),(k:Int),())=some (match o with|some i=> .inl ((i:Int),())|none=> .inr ())/\dj ((k:Int),t,())=some (match o with|some _=> .inl (false,())|none=> .inr (t,())):=by
 intro m
 induction m with
 |zero=>
  intro k hk
  have hlt:¬k<t.names.length:=by omega
  rw[bv,dj]
  simp only[sW,hlt]
  exact⟨none,rfl,rfl⟩
 |succ m ih=>
  intro k hk
  have hlt:k<t.names.length:=by omega
  obtain⟨p,hp1,hm,hd,g1,g2⟩:=dP hlt
  rw[bv,dj]
  simp only[sW,g1,g2,hlt,hp1,f86 (ht.name hm),f87 (ht.name hm),aQ hlt ht.names]
  cases Lib.validD p.data.toList with
  |true=>simp only[PK,sW];exact ih (k+1) (by omega)
  |false=>simp only[PS,sW];exact⟨some k,rfl,rfl⟩
theorem f88(t:Tag)(ht:t.Fit big):∃b,fu (t.names,())=some (b,())/\dj (0,t,())=some (if b=true then .inl (false,())else .inr (t,())):=by
 obtain⟨o,h1,h2⟩:=NG t ht _ 0 rfl
 simp only[PN,Pz,OZ]at h1 h2
 unfold fu fD
 cases o with
 |none=>simp only[h1,h2,sW];exact⟨_,rfl,rfl⟩
 |some i=>simp only[h1,h2,sW];exact⟨_,rfl,by simp⟩
inductive Tag.Right:Tag->Prop
 |mk {t:Tag}:(t.kind≠6->t.names=[])->(t.kind=6->t.names.length=t.parts.length)->(∀p∈t.parts,Tag.Right p)->Tag.Right t
theorem Tag.Right.none{t:Tag}(h:t.Right)(hk:t.kind≠6):t.names=[]:=by cases h with|mk h _ _=>exact h hk
theorem Tag.Right.len{t:Tag}(h:t.Right)(hk:t.kind=6):t.names.length=t.parts.length:=by cases h with|mk _ h _=>exact h hk
theorem Tag.Right.part{t p:Tag}(h:t.Right)(hp:p∈t.parts):p.Right:=by cases h with|mk _ _ h=>exact h p hp
theorem NB(t:Tag)(ht:t.Fit big)(hp:∀p∈t.parts,∃b,n_51 (p,())=some (b,())/\n_54 (p,())=some (b,())/\(b=true->p.Right)):∀(m k:Nat),t.parts.length-k=m->∃o:Option Nat,
 aF (t.parts,(t.parts.length:Int),(k:Int),())=some (match o with|some i=> .inl ((i:Int),())|none=> .inr ())/\eN ((k:Int),t,())=some (match o with|some _=> .inl (false,())|none=> .inr ())/\(o=none->∀p∈t.parts.drop k,p.Right):=by
 intro m
 induction m with
 |zero=>
  intro k hk
  have hlt:¬k<t.parts.length:=by omega
  rw[aF,eN]
  simp only[sW,hlt]
  refine⟨.none,rfl,rfl,λ_ p hp=> ?_⟩
  rw[(eP hlt).1]at hp;cases hp
 |succ m ih=>
  intro k hk
  have hlt:k<t.parts.length:=by omega
  obtain⟨p,hp1,hm,hd,g1,g2⟩:=dP hlt
  obtain⟨b,e1,e2,e3⟩:=hp p hm
  have e4:n_79 (p,())=some (!b,()):=by
   rw[n_79]
   simp only[e1,sW]
  rw[aF,eN]
  simp only[sW,g1,g2,hlt,hp1,e2,e4,aQ hlt ht.parts]
  cases b with
  |true=>
   simp only[PK,sW]
   obtain⟨o,o1,o2,o3⟩:=ih (k+1) (by omega)
   refine⟨o,o1,o2,λho q hq=> ?_⟩
   rw[hd]at hq
   rcases Oz.1 hq with rfl|hq
   ·exact e3 rfl
   ·exact o3 ho q hq
  |false=>simp only[PS,sW];exact⟨some k,rfl,rfl,λh=>by cases h⟩
theorem NC(t:Tag)(ht:t.Fit big)(hp:∀p∈t.parts,∃b,n_51 (p,())=some (b,())/\n_54 (p,())=some (b,())/\(b=true->p.Right)):
 ∃b,n_78c79 (t.parts,())=some (b,())/\eN (0,t,())=some (if b=true then .inl (false,())else .inr ())/\(b=false->∀p∈t.parts,p.Right):=by
 obtain⟨o,h1,h2,h3⟩:=NB t ht hp _ 0 rfl
 simp only[PN,Pz,OZ]at h1 h2 h3
 rw[n_78c79,n_104c79]
 cases o with
 |none=>simp only[h1,h2,sW];exact⟨_,rfl,rfl,λ_=>h3 rfl⟩
 |some i=>simp only[h1,h2,sW];exact⟨_,rfl,by simp,λh=>by simp at h⟩
end Go.Proofs.YtpndmanbfleadaaGreatDoor
end
section
namespace Go.Proofs.YtpndmanbfleadaaGreatDoor
open Go.Awp Go.Tx
set_option maxRecDepth 20000
theorem f61:∀t:Tag,t.Fit big->∃b,n_51 (t,())=some (b,())/\n_54 (t,())=some (b,())/\(b=true->t.Right):=by
 refine Tag.ind λt ih ht=> ?_
 have e86:=f86 ht.text
 have e87:=f87 ht.text
 obtain⟨bn,n1,n2⟩:=f88 t ht
 obtain⟨bp,p1,p2,p3⟩:=NC t ht λp hp=>ih p hp (ht.part hp)
 generalize Lib.validD t.text.data.toList=v at e86 e87
 rw[n_51,n_54]
 have bad:∀{x y:Option (Bool×Unit)},x=some (false,())->y=some (false,())->∃b,x=some (b,())/\y=some (b,())/\(b=true->t.Right):=λh1 h2=>⟨false,h1,h2,λh=>by cases h⟩
 have n9:∀{x y:Option (Bool×Unit)},x=some (v&& !bn&& !bp,())->y=some (v&& !bn&& !bp,())->(t.kind≠6->t.names=[])->(t.kind=6->t.names.length=t.parts.length)->∃b,x=some (b,())/\y=some (b,())/\(b=true->t.Right):=λh1 h2 h3 h4=>
  ⟨_,h1,h2,λh=> .mk h3 h4 (p3 (by
   cases bp with
   |true=>simp at h
   |false=>rfl))⟩
 by_cases a1:t.kind<0
 ·exact bad (by simp[a1]) (by simp[a1])
 by_cases a2:t.kind>6
 ·exact bad (by simp[a1,a2]) (by simp[a1,a2])
 have hk:t.kind=0\/t.kind=1\/t.kind=2\/t.kind=3\/t.kind=4\/t.kind=5\/t.kind=6:=by omega
 generalize (Oo #[]).toList=X
 rcases hk with k|k|k|k|k|k|k
 ·by_cases c1:t.n=0
  case neg=>exact bad (by simp[Ov,k,c1]) (by simp[Ov,k,c1])
  by_cases c2:t.text.toList=X
  case neg=>exact bad (by simp[Ov,k,c1,c2]) (by simp[Ov,k,c1,c2])
  by_cases c4:t.parts=[]
  case neg=>exact bad (by simp[Ov,k,c1,c2,c4]) (by simp[Ov,k,c1,c2,c4])
  by_cases c3:t.names=[]
  case neg=>exact bad (by simp[Ov,k,c1,c2,c4,c3]) (by simp[Ov,k,c1,c2,c4,c3])
  rw[c3]at n1
  rw[c4]at p1
  exact n9 (by cases v<;>cases bn<;>cases bp<;>simp[Ov,k,c1,c2,c4,c3,e86,e87,n1,n2,p1,p2]) (by cases v<;>cases bn<;>cases bp<;>simp[Ov,k,c1,c2,c4,c3,e86,e87,n1,n2,p1,p2]) (λ_=>c3) (λh=>by omega)
 ·by_cases c1:t.n=0
  case neg=>exact bad (by simp[Ov,k,c1]) (by simp[Ov,k,c1])
  by_cases c2:t.text.toList=X
  case neg=>exact bad (by simp[Ov,k,c1,c2]) (by simp[Ov,k,c1,c2])
  by_cases c4:t.parts=[]
  case neg=>exact bad (by simp[Ov,k,c1,c2,c4]) (by simp[Ov,k,c1,c2,c4])
  by_cases c3:t.names=[]
  case neg=>exact bad (by simp[Ov,k,c1,c2,c4,c3]) (by simp[Ov,k,c1,c2,c4,c3])
  rw[c3]at n1
  rw[c4]at p1
  exact n9 (by cases v<;>cases bn<;>cases bp<;>simp[Ov,k,c1,c2,c4,c3,e86,e87,n1,n2,p1,p2]) (by cases v<;>cases bn<;>cases bp<;>simp[Ov,k,c1,c2,c4,c3,e86,e87,n1,n2,p1,p2]) (λ_=>c3) (λh=>by omega)
 ·by_cases c1:t.n=0
  case neg=>exact bad (by simp[Ov,k,c1]) (by simp[Ov,k,c1])
  by_cases c2:t.text.toList=X
  case neg=>exact bad (by simp[Ov,k,c1,c2]) (by simp[Ov,k,c1,c2])
  by_cases c4:t.parts=[]
  case neg=>exact bad (by simp[Ov,k,c1,c2,c4]) (by simp[Ov,k,c1,c2,c4])
  by_cases c3:t.names=[]
  case neg=>exact bad (by simp[Ov,k,c1,c2,c4,c3]) (by simp[Ov,k,c1,c2,c4,c3])
  rw[c3]at n1
  rw[c4]at p1
  exact n9 (by cases v<;>cases bn<;>cases bp<;>simp[Ov,k,c1,c2,c4,c3,e86,e87,n1,n2,p1,p2]) (by cases v<;>cases bn<;>cases bp<;>simp[Ov,k,c1,c2,c4,c3,e86,e87,n1,n2,p1,p2]) (λ_=>c3) (λh=>by omega)
 ·by_cases c2:t.text.toList=X
  case neg=>exact bad (by simp[Ov,k,c2]) (by simp[Ov,k,c2])
  by_cases c4:t.parts=[]
  case neg=>exact bad (by simp[Ov,k,c2,c4]) (by simp[Ov,k,c2,c4])
  by_cases c5:t.n< -9007199254740992
  ·by_cases c3:t.names=[]
   ·exact bad (by simp[Ov,k,c2,c4,c5,c3]) (by simp[Ov,k,c2,c4,c5,c3])
   ·exact bad (by simp[Ov,k,c2,c4,c5,c3]) (by simp[Ov,k,c2,c4,c5,c3])
  by_cases c6:t.n>9007199254740992
  ·by_cases c3:t.names=[]
   ·exact bad (by simp[Ov,k,c2,c4,c5,c6,c3]) (by simp[Ov,k,c2,c4,c5,c6,c3])
   ·exact bad (by simp[Ov,k,c2,c4,c5,c6,c3]) (by simp[Ov,k,c2,c4,c5,c6,c3])
  by_cases c3:t.names=[]
  case neg=>exact bad (by simp[Ov,k,c2,c4,c5,c6,c3]) (by simp[Ov,k,c2,c4,c5,c6,c3])
  rw[c3]at n1
  rw[c4]at p1
  exact n9 (by cases v<;>cases bn<;>cases bp<;>simp[Ov,k,c2,c4,c5,c6,c3,e86,e87,n1,n2,p1,p2]) (by cases v<;>cases bn<;>cases bp<;>simp[Ov,k,c2,c4,c5,c6,c3,e86,e87,n1,n2,p1,p2]) (λ_=>c3) (λh=>by omega)
 ·by_cases c1:t.n=0
  case neg=>exact bad (by simp[Ov,k,c1]) (by simp[Ov,k,c1])
  by_cases c4:t.parts=[]
  case neg=>exact bad (by simp[Ov,k,c1,c4]) (by simp[Ov,k,c1,c4])
  by_cases c3:t.names=[]
  case neg=>exact bad (by simp[Ov,k,c1,c4,c3]) (by simp[Ov,k,c1,c4,c3])
  rw[c3]at n1
  rw[c4]at p1
  exact n9 (by cases v<;>cases bn<;>cases bp<;>simp[Ov,k,c1,c4,c3,e86,e87,n1,n2,p1,p2]) (by cases v<;>cases bn<;>cases bp<;>simp[Ov,k,c1,c4,c3,e86,e87,n1,n2,p1,p2]) (λ_=>c3) (λh=>by omega)
 ·by_cases c1:t.n=0
  case neg=>exact bad (by simp[Ov,k,c1]) (by simp[Ov,k,c1])
  by_cases c2:t.text.toList=X
  case neg=>exact bad (by simp[Ov,k,c1,c2]) (by simp[Ov,k,c1,c2])
  by_cases c3:t.names=[]
  case neg=>exact bad (by simp[Ov,k,c1,c2,c3]) (by simp[Ov,k,c1,c2,c3])
  rw[c3]at n1
  exact n9 (by cases v<;>cases bn<;>cases bp<;>simp[Ov,k,c1,c2,c3,e86,e87,n1,n2,p1,p2]) (by cases v<;>cases bn<;>cases bp<;>simp[Ov,k,c1,c2,c3,e86,e87,n1,n2,p1,p2]) (λ_=>c3) (λh=>by omega)
 ·by_cases c1:t.n=0
  case neg=>exact bad (by simp[Ov,k,c1]) (by simp[Ov,k,c1])
  by_cases c2:t.text.toList=X
  case neg=>exact bad (by simp[Ov,k,c1,c2]) (by simp[Ov,k,c1,c2])
  by_cases c7:(t.names.length:Int)=(t.parts.length:Int)
  case neg=>exact bad (by simp[Ov,k,c1,c2,c7]) (by cases v<;>simp[Ov,k,c1,c2,c7,e87])
  exact n9 (by cases v<;>cases bn<;>cases bp<;>simp[Ov,k,c1,c2,c7,e86,e87,n1,n2,p1,p2]) (by cases v<;>cases bn<;>cases bp<;>simp[Ov,k,c1,c2,c7,e86,e87,n1,n2,p1,p2]) (λh=>(h k).elim) (λ_=>by omega)
theorem KO{a b:ByteArray}:a.toList=b.toList↔a=b:=by
 constructor
 ·intro h
  rw[ByteArray.toList_eq,ByteArray.toList_eq]at h
  obtain⟨⟨a⟩⟩:=a
  obtain⟨⟨b⟩⟩:=b
  simp only at h
  rw[h]
 ·rintro rfl;rfl
theorem iJ{a b:ByteArray}:Mp.seq a b=true↔a=b:=by
 obtain⟨a⟩:=a
 obtain⟨b⟩:=b
 show(a==b)=true↔_
 simp
theorem Bm(s x:ByteArray)(y:Bool):∀es:List (ByteArray×Bool),Mp.get Mp.seq s (Mp.put Mp.seq x y es)=if s=x then some y else Mp.get Mp.seq s es
 |[]=>by
  simp only[Mp.put,Mp.get,iJ]
 |p::r=>by
  simp only[Mp.put,iJ]
  by_cases h:x=p.1
  ·rw[RS h]
   simp only[Mp.get,iJ]
   by_cases h2:s=x
   ·rw[RS h2,RS h2]
   ·rw[RR h2,RR h2,RR (by rw[<-h];exact h2)]
  ·rw[RR h]
   simp only[Mp.get,iJ]
   by_cases h2:s=p.1
   ·rw[RS h2,RS h2,RR (by rw[h2];exactλe=>h e.symm)]
   ·rw[RR h2,RR h2]
    exact Bm s x y r
theorem Bj(s x:ByteArray)(y:Bool):∀es:List (ByteArray×Bool),es.any (λp=>Mp.seq x p.1)=false->Mp.get Mp.seq s (Mp.ins Mp.slt x y es)=if s=x then some y else Mp.get Mp.seq s es
 |[],_=>by simp only[Mp.ins,Mp.get,iJ]
 |p::r,h=>by
  rw[List.any_cons,PM]at h
  have hx:¬x=p.1:=λe=>by have:=iJ.2 e;rw[h.1]at this;cases this
  rw[Mp.ins]
  split
  ·simp only[Mp.get,iJ]
  ·simp only[Mp.get,iJ]
   rw[Bj s x y r h.2]
   by_cases h2:s=p.1
   ·rw[RS h2,RS h2,RR (by rw[h2];exactλe=>hx e.symm)]
   ·rw[RR h2,RR h2]
theorem Bn(s x:ByteArray)(y:Bool)(es:List (ByteArray×Bool)):Mp.get Mp.seq s (Mp.set Mp.seq Mp.slt x y es)=if s=x then some y else Mp.get Mp.seq s es:=by
 unfold Mp.set
 split
 ·exact Bm s x y es
 ·rename_i h
  exact Bj s x y es (by cases hq:es.any (λp=>Mp.seq x p.1)with|true=>exact(h hq).elim|false=>rfl)
theorem NF(t:Tag)(ht:t.Fit big)(i:Nat)(s:ByteArray)(hi:i<t.names.length)(hs:t.names[i]?=some s):∀(m k:Nat),i-k=m->
 (s∈(t.names.take i).drop k->dL ((i:Int),(k:Int),t,())=some (.inl (true,())))/\(¬s∈(t.names.take i).drop k->dL ((i:Int),(k:Int),t,())=some (.inr ((i:Int),t,()))):=by
 intro m
 induction m with
 |zero=>
  intro k hk
  have hlt:¬k<i:=by omega
  have hd:(t.names.take i).drop k=[]:=P2 (by simp;omega)
  rw[dL,hd]
  simp[hlt]
 |succ m ih=>
  intro k hk
  have hlt:k<i:=by omega
  obtain⟨q,hq1,_,hd,_,_⟩:=dP (xs:=t.names.take i) (k:=k) (by simp;omega)
  have hq2:t.names[k]?=some q:=by
   rw[OE]at hq1
   simpa[hlt]using hq1
  have h0:(0:Int)<=(i:Int):=by omega
  have h1:(0:Int)<=(k:Int):=by omega
  have h2:((k:Int)<(i:Int)):=by omega
  rw[dL,hd]
  simp only[sW,h0,h1,h2,hs,hq2,aQ hlt (Ps (Nat.le_of_lt hi) ht.names),Oz]
  by_cases e:s=q
  ·subst e
   simp
  ·have e2:¬(s.toList=q.toList):=λh=>e (KO.1 h)
   simp only[e2,e,false_or,sW]
   exact ih (k+1) (by omega)
theorem ND(t:Tag)(ht:t.Fit big):∀(m k:Nat) (es:List (ByteArray×Bool)),t.names.length-k=m->(∀s,(Mp.get Mp.seq s es).getD false=true↔s∈t.names.take k)->
 ∃o:Bool,bU (t.names,(t.names.length:Int),(k:Int),t,es,())=some (if o=true then .inl (true,())else .inr (t,()))/\dK ((k:Int),t,())=some (if o=true then .inl (true,())else .inr (t,())):=by
 intro m
 induction m with
 |zero=>
  intro k es hk hes
  have hlt:¬k<t.names.length:=by omega
  rw[bU,dK]
  simp only[sW,hlt]
  exact⟨false,by simp,by simp⟩
 |succ m ih=>
  intro k es hk hes
  have hlt:k<t.names.length:=by omega
  obtain⟨p,hp1,hm,hd,g1,g2⟩:=dP hlt
  have h64:=NF t ht k p hlt hp1 _ 0 rfl
  simp only[PN,Pz,OZ]at h64
  have hes2:∀s,(Mp.get Mp.seq s (Mp.set Mp.seq Mp.slt p true es)).getD false=true↔s∈t.names.take (k+1):=by
   intro s
   rw[Bn,List.take_add_one,hp1]
   by_cases e:s=p
   ·simp[e]
   ·rw[RR e,hes s]
    simp[e]
  obtain⟨o,o1,o2⟩:=ih (k+1) _ (by omega) hes2
  rw[bU,dK]
  simp only[sW,g1,g2,hlt,hp1,aQ hlt ht.names]
  by_cases e:p∈t.names.take k
  ·refine⟨true,by rw[RS ((hes p).2 e)];rfl,?_⟩
   simp only[h64.1 e,sW]
  ·refine⟨o,by rw[RR λh=>e ((hes p).1 h)];exact o1,?_⟩
   simp only[h64.2 e,sW,aQ hlt ht.names]
   exact o2
theorem NE(t:Tag)(ht:t.Fit big)(hp:∀p∈t.parts,∃b,n_52 (p,())=some (b,())/\n_55 (p,())=some (b,())):∀(m k:Nat),t.parts.length-k=m->∃o:Option Nat,
 aO (t.parts,(t.parts.length:Int),(k:Int),())=some (match o with|some i=> .inl ((i:Int),())|none=> .inr ())/\ft ((k:Int),t,())=some (match o with|some _=> .inl (true,())|none=> .inr ()):=by
 intro m
 induction m with
 |zero=>
  intro k hk
  have hlt:¬k<t.parts.length:=by omega
  rw[aO,ft]
  simp only[sW,hlt]
  exact⟨.none,rfl,rfl⟩
 |succ m ih=>
  intro k hk
  have hlt:k<t.parts.length:=by omega
  obtain⟨p,hp1,hm,hd,g1,g2⟩:=dP hlt
  obtain⟨b,e1,e2⟩:=hp p hm
  rw[aO,ft]
  simp only[sW,g1,g2,hlt,hp1,e1,e2,aQ hlt ht.parts]
  cases b with
  |true=>simp only[sW];exact⟨some k,rfl,rfl⟩
  |false=>simp only[sW];exact ih (k+1) (by omega)
theorem f62:∀t:Tag,t.Fit big->∃b,n_52 (t,())=some (b,())/\n_55 (t,())=some (b,()):=by
 refine Tag.ind λt ih ht=> ?_
 obtain⟨o,o1,o2⟩:=ND t ht _ 0 [] rfl (λs=>by simp[Mp.get])
 obtain⟨u,u1,u2⟩:=NE t ht (λp hp=>ih p hp (ht.part hp)) _ 0 rfl
 simp only[PN,Pz,OZ]at o1 o2 u1 u2
 rw[n_52,n_55]
 cases o with
 |true=>simp only[o1,o2,sW];exact⟨_,rfl,rfl⟩
 |false=>
  simp only[o1,o2,sW]
  rw[n_78c52,n_104c52]
  cases u with
  |none=>simp only[u1,u2,sW];exact⟨_,rfl,rfl⟩
  |some i=>simp only[u1,u2,sW];exact⟨_,rfl,by simp⟩
theorem f29(t:Tag)(ht:t.Fit big):∃e,oC (t,())=some (e,())/\Cf (t,())=some (e,())/\(e=0->t.Right):=by
 obtain⟨a,d,s,c1,c2⟩:=f58 t ht
 obtain⟨b,b1,b2,b3⟩:=f61 t ht
 obtain⟨w,w1,w2⟩:=f62 t ht
 unfold oC Cf
 simp only[c1,c2,sW]
 by_cases h1:d>20
 ·refine⟨3,by simp[h1],?_,λh=>by omega⟩
  by_cases h2:a>500<;>simp[h1,h2]
 ·by_cases h2:a>500
  ·exact⟨3,by simp[h1,h2],by simp[h1,h2],λh=>by omega⟩
  ·by_cases h3:s>4096
   ·exact⟨3,by simp[h1,h2,h3],by simp[h1,h2,h3],λh=>by omega⟩
   ·cases b with
    |false=>exact⟨1,by simp[h1,h2,h3,b1],by simp[h1,h2,h3,b2],λh=>by omega⟩
    |true=>
     cases w with
     |true=>exact⟨5,by simp[h1,h2,h3,b1,w1],by simp[h1,h2,h3,b2,w2],λh=>by omega⟩
     |false=>exact⟨0,by simp[h1,h2,h3,b1,w1],by simp[h1,h2,h3,b2,w2],λ_=>b3 rfl⟩
end Go.Proofs.YtpndmanbfleadaaGreatDoor
end
section
namespace Go.Proofs.YtpndmanbfleadaaGreatDoor
open Go.Awp Go.Tx
open IntKind (i64)
set_option maxRecDepth 20000
abbrev mt:ByteArray:=Oo #[]
mutual
def Tag.bulk:Tag->Nat
 | .mk _ _ t ns ps=>1+t.size+(ns.map PR).sum+bulkL ps
def bulkL:List Tag->Nat
 |[]=>0
 |p::ps=>p.bulk+bulkL ps
end
theorem wd(t:Tag)(ht:t.Fit big):∀(m k:Nat),t.names.length-k=m->∃o:Option Nat,
 bv (t.names,(t.names.length:Int),(k:Int),())=some (match o with|some i=> .inl ((i:Int),())|none=> .inr ())/\(o=none->∀s∈t.names.drop k,Lib.validD s.data.toList=true):=by
 intro m
 induction m with
 |zero=>
  intro k hk
  have hlt:¬k<t.names.length:=by omega
  rw[bv]
  simp only[sW,hlt]
  refine⟨none,rfl,λ_ s hs=> ?_⟩
  rw[(eP hlt).1]at hs;cases hs
 |succ m ih=>
  intro k hk
  have hlt:k<t.names.length:=by omega
  obtain⟨p,hp1,hm,hd,g1,g2⟩:=dP hlt
  rw[bv]
  simp only[sW,g1,g2,hlt,hp1,f86 (ht.name hm),aQ hlt ht.names]
  cases hv:Lib.validD p.data.toList with
  |true=>
   simp only[PK,sW]
   obtain⟨o,o1,o2⟩:=ih (k+1) (by omega)
   refine⟨o,o1,λho s hs=> ?_⟩
   rw[hd]at hs
   rcases Oz.1 hs with rfl|hs
   ·exact hv
   ·exact o2 ho s hs
  |false=>simp only[PS,sW];exact⟨some k,rfl,λh=>by cases h⟩
theorem zi(t:Tag)(ht:t.Fit big):∀(m k:Nat),t.parts.length-k=m->∃o:Option Nat,
 aF (t.parts,(t.parts.length:Int),(k:Int),())=some (match o with|some i=> .inl ((i:Int),())|none=> .inr ())/\(o=none->∀p∈t.parts.drop k,n_51 (p,())=some (true,())):=by
 intro m
 induction m with
 |zero=>
  intro k hk
  have hlt:¬k<t.parts.length:=by omega
  rw[aF]
  simp only[sW,hlt]
  refine⟨.none,rfl,λ_ p hp=> ?_⟩
  rw[(eP hlt).1]at hp;cases hp
 |succ m ih=>
  intro k hk
  have hlt:k<t.parts.length:=by omega
  obtain⟨p,hp1,hm,hd,g1,g2⟩:=dP hlt
  obtain⟨b,e1,_,_⟩:=f61 p (ht.part hm)
  have e4:n_79 (p,())=some (!b,()):=by
   rw[n_79]
   simp only[e1,sW]
  rw[aF]
  simp only[sW,g1,g2,hlt,hp1,e4,aQ hlt ht.parts]
  cases b with
  |true=>
   simp only[PK,sW]
   obtain⟨o,o1,o2⟩:=ih (k+1) (by omega)
   refine⟨o,o1,λho q hq=> ?_⟩
   rw[hd]at hq
   rcases Oz.1 hq with rfl|hq
   ·exact e1
   ·exact o2 ho q hq
  |false=>simp only[PS,sW];exact⟨some k,rfl,λh=>by cases h⟩
structure Loc (t:Tag):Prop where
 k0:0<=t.kind
 k6:t.kind<=6
 n0:t.kind≠3->t.n=0
 lo: -9007199254740992<=t.n
 hi:t.n<=9007199254740992
 tx:t.kind≠4->t.text=mt
 pt:t.kind<5->t.parts=[]
 ln:t.kind=6->t.names.length=t.parts.length
 nm:t.kind≠6->t.names=[]
 vt:Lib.validD t.text.data.toList=true
 vn:∀s∈t.names,Lib.validD s.data.toList=true
inductive wW:Tag->Prop
 |mk {t:Tag}:Loc t->(∀p∈t.parts,wW p)->wW t
theorem wW.loc{t:Tag}(h:wW t):Loc t:=by cases h;assumption
theorem wW.part{t p:Tag}(h:wW t)(hp:p∈t.parts):wW p:=by cases h with|mk _ h=>exact h p hp
theorem Gv{t:ByteArray}:t.toList=(Oo #[]).toList↔t=mt:=KO
theorem Gu(t:Tag)(ht:t.Fit big)(h:n_51 (t,())=some (true,())):Loc t/\∀p∈t.parts,n_51 (p,())=some (true,()):=by
 have e86:=f86 ht.text
 obtain⟨o,o1,o2⟩:=wd t ht _ 0 rfl
 obtain⟨q,q1,q2⟩:=zi t ht _ 0 rfl
 simp only[PN,Pz,OZ]at o1 o2 q1 q2
 have hn:fu (t.names,())=some (o.isSome,()):=by
  unfold fu fD
  cases o with
  |none=>simp only[o1,sW];rfl
  |some i=>simp only[o1,sW];simp
 have hp:n_78c79 (t.parts,())=some (q.isSome,()):=by
  rw[n_78c79,n_104c79]
  cases q with
  |none=>simp only[q1,sW];rfl
  |some i=>simp only[q1,sW];simp
 generalize hv:Lib.validD t.text.data.toList=v at e86
 have fin:(t.kind<5->t.parts=[])->(t.kind=6->t.names.length=t.parts.length)->(t.kind≠6->t.names=[])->(t.kind≠3->t.n=0)->(t.kind≠4->t.text=mt)->0<=t.kind->t.kind<=6-> -9007199254740992<=t.n->t.n<=9007199254740992->
  (v&& !o.isSome&& !q.isSome)=true->Loc t/\∀p∈t.parts,n_51 (p,())=some (true,()):=by
  intro a b c d e f g i j k
  cases o with
  |some _=>simp at k
  |none=>
   cases q with
   |some _=>simp at k
   |none=>
    cases v with
    |false=>simp at k
    |true=>exact⟨⟨f,g,d,i,j,e,a,b,c,hv,o2 rfl⟩,q2 rfl⟩
 rw[n_51]at h
 by_cases a1:t.kind<0
 ·simp[a1]at h
 by_cases a2:t.kind>6
 ·simp[a1,a2]at h
 by_cases a3:t.n< -9007199254740992
 ·by_cases k3:t.kind=3
  ·simp[k3,a3]at h
  ·have:t.n≠0:=by omega
   simp[a1,a2,k3,this]at h
 by_cases a4:t.n>9007199254740992
 ·by_cases k3:t.kind=3
  ·simp[k3,a3,a4]at h
  ·have:t.n≠0:=by omega
   simp[a1,a2,k3,this]at h
 have hX:∀{s:ByteArray},s.toList=(Oo #[]).toList↔s=mt:=Gv
 generalize (Oo #[]).toList=X at h hX
 by_cases c1:t.kind≠3->t.n=0
 case neg=>
  have k3:t.kind≠3:=λh=>c1 λh2=>(h2 h).elim
  have n0:t.n≠0:=λh=>c1 λ_=>h
  simp[a1,a2,k3,n0]at h
 by_cases c2:t.kind≠4->t.text=mt
 case neg=>
  have k4:t.kind≠4:=λh=>c2 λh2=>(h2 h).elim
  have n0:¬t.text.toList=X:=λh=>c2 λ_=>hX.1 h
  by_cases k3:t.kind=3
  ·simp[k3,a3,a4,n0]at h
  ·simp[a1,a2,a3,a4,k3,c1 k3,k4,n0]at h
 have c2':t.kind≠4->t.text.toList=X:=λh=>hX.2 (c2 h)
 have hk:t.kind=0\/t.kind=1\/t.kind=2\/t.kind=3\/t.kind=4\/t.kind=5\/t.kind=6:=by omega
 have z1:¬(9007199254740992:Int)<0:=by decide
 rcases hk with k|k|k|k|k|k|k
 ·by_cases c4:t.parts=[]
  case neg=>simp[Ov,k,c1,c2',c4]at h
  by_cases c3:t.names=[]
  case neg=>simp[Ov,k,c1,c2',c4,c3]at h
  rw[c3]at hn
  rw[c4]at hp
  refine fin (λ_=>c4) (λh=>by omega) (λ_=>c3) c1 c2 (by omega) (by omega) (by omega) (by omega) ?_
  cases v<;>cases ho:o.isSome<;>cases hq:q.isSome<;>simp[Ov,k,c1,c2',c4,c3,e86,hn,hp,ho,hq]at h⊢
 ·by_cases c4:t.parts=[]
  case neg=>simp[Ov,k,c1,c2',c4]at h
  by_cases c3:t.names=[]
  case neg=>simp[Ov,k,c1,c2',c4,c3]at h
  rw[c3]at hn
  rw[c4]at hp
  refine fin (λ_=>c4) (λh=>by omega) (λ_=>c3) c1 c2 (by omega) (by omega) (by omega) (by omega) ?_
  cases v<;>cases ho:o.isSome<;>cases hq:q.isSome<;>simp[Ov,k,c1,c2',c4,c3,e86,hn,hp,ho,hq]at h⊢
 ·by_cases c4:t.parts=[]
  case neg=>simp[Ov,k,c1,c2',c4]at h
  by_cases c3:t.names=[]
  case neg=>simp[Ov,k,c1,c2',c4,c3]at h
  rw[c3]at hn
  rw[c4]at hp
  refine fin (λ_=>c4) (λh=>by omega) (λ_=>c3) c1 c2 (by omega) (by omega) (by omega) (by omega) ?_
  cases v<;>cases ho:o.isSome<;>cases hq:q.isSome<;>simp[Ov,k,c1,c2',c4,c3,e86,hn,hp,ho,hq]at h⊢
 ·by_cases c4:t.parts=[]
  case neg=>simp[Ov,k,c2',c4,a3,a4]at h
  by_cases c3:t.names=[]
  case neg=>simp[Ov,k,c2',c4,c3,a3,a4]at h
  rw[c3]at hn
  rw[c4]at hp
  refine fin (λ_=>c4) (λh=>by omega) (λ_=>c3) c1 c2 (by omega) (by omega) (by omega) (by omega) ?_
  cases v<;>cases ho:o.isSome<;>cases hq:q.isSome<;>simp[Ov,k,c2',c4,c3,e86,hn,hp,ho,hq,a3,a4]at h⊢
 ·by_cases c4:t.parts=[]
  case neg=>simp[Ov,k,c1,c4]at h
  by_cases c3:t.names=[]
  case neg=>simp[Ov,k,c1,c4,c3]at h
  rw[c3]at hn
  rw[c4]at hp
  refine fin (λ_=>c4) (λh=>by omega) (λ_=>c3) c1 c2 (by omega) (by omega) (by omega) (by omega) ?_
  cases v<;>cases ho:o.isSome<;>cases hq:q.isSome<;>simp[Ov,k,c1,c4,c3,e86,hn,hp,ho,hq]at h⊢
 ·by_cases c3:t.names=[]
  case neg=>simp[Ov,k,c1,c2',c3]at h
  rw[c3]at hn
  refine fin (λh=>by omega) (λh=>by omega) (λ_=>c3) c1 c2 (by omega) (by omega) (by omega) (by omega) ?_
  cases v<;>cases ho:o.isSome<;>cases hq:q.isSome<;>simp[Ov,k,c1,c2',c3,e86,hn,hp,ho,hq]at h⊢
 ·by_cases c3:(t.names.length:Int)=(t.parts.length:Int)
  case neg=>simp[Ov,k,c1,c2',c3]at h
  refine fin (λh=>by omega) (λ_=>by omega) (λh=>(h k).elim) c1 c2 (by omega) (by omega) (by omega) (by omega) ?_
  cases v<;>cases ho:o.isSome<;>cases hq:q.isSome<;>simp[Ov,k,c1,c2',c3,e86,hn,hp,ho,hq]at h⊢
theorem Hp:∀t:Tag,t.Fit big->n_51 (t,())=some (true,())->wW t:=
 Tag.ind λt ih ht h=> .mk (Gu t ht h).1 λp hp=>ih p hp (ht.part hp) ((Gu t ht h).2 p hp)
mutual
def Tag.cnt:Tag->Nat
 | .mk _ _ _ _ ps=>1+cntL ps
def cntL:List Tag->Nat
 |[]=>0
 |p::ps=>p.cnt+cntL ps
end
mutual
def Tag.byts:Tag->Nat
 | .mk _ _ t ns ps=>t.size+(ns.map PR).sum+bytsL ps
def bytsL:List Tag->Nat
 |[]=>0
 |p::ps=>p.byts+bytsL ps
end
mutual
def Tag.dep:Tag->Nat
 | .mk _ _ _ _ ps=>depL ps+1
def depL:List Tag->Nat
 |[]=>0
 |p::ps=>max p.dep (depL ps)
end
mutual
theorem rh:∀t:Tag,t.bulk=t.cnt+t.byts
 | .mk _ _ t ns ps=>by rw[Tag.bulk,Tag.cnt,Tag.byts,bulkL_eq ps];omega
theorem bulkL_eq:∀ps:List Tag,bulkL ps=cntL ps+bytsL ps
 |[]=>rfl
 |p::ps=>by rw[bulkL,cntL,bytsL,rh p,bulkL_eq ps];omega
end
mutual
theorem A3:∀t:Tag,t.dep<=t.cnt
 | .mk _ _ t ns ps=>by rw[Tag.dep,Tag.cnt];have:=depL_cnt ps;omega
theorem depL_cnt:∀ps:List Tag,depL ps<=cntL ps
 |[]=>OO _
 |p::ps=>by rw[depL,cntL];have:=A3 p;have:=depL_cnt ps;omega
end
theorem nQ(t:Tag):t.cnt=1+cntL t.parts:=by cases t;rfl
theorem vj(t:Tag):t.byts=t.text.size+(t.names.map PR).sum+bytsL t.parts:=by cases t;rfl
theorem A4(t:Tag):t.dep=depL t.parts+1:=by cases t;rfl
theorem At(t:Tag):t.bulk=1+t.text.size+(t.names.map PR).sum+bulkL t.parts:=by cases t;rfl
theorem sT:∀{ps:List Tag} {p:Tag},p∈ps->p.bulk<=bulkL ps
 |q::ps,p,h=>by
  rw[bulkL]
  rcases Oz.1 h with rfl|h
  ·omega
  ·have:=sT h;omega
abbrev oc:Nat:=4611686018427387904
theorem Ev(ns:List ByteArray)(t:Tag)(y:cH)(d p:Int):∀(m k:Nat) (z:Nat),ns.length-k=m->ns.length<=oc->z+((ns.drop k).map PR).sum<=oc->
 cD (ns,(ns.length:Int),(k:Int),t,y,cH.mk d p (z:Int),())=some (t,y,cH.mk d p ((z+((ns.drop k).map PR).sum:Nat):Int),()):=by
 intro m
 induction m with
 |zero=>
  intro k z hk hl hz
  have hlt:¬k<ns.length:=by omega
  rw[cD,(eP hlt).1]
  simp only[sW,hlt,O0,List.sum_nil,Pd]
 |succ m ih=>
  intro k z hk hl hz
  have hlt:k<ns.length:=by omega
  have hh:oc<=9223372036854775807:=by decide
  have hh2:oc=4611686018427387904:=rfl
  obtain⟨s,hp1,hm,hd,g1,g2⟩:=dP hlt
  rw[hd,Ow,Qu]at hz⊢
  have e:i64.wrap ((z:Int)+(s.size:Int))=((z+s.size:Nat):Int):=by
   rw[q_ (by omega) (by omega)];omega
  rw[cD]
  simp only[sW,g1,g2,hlt,hp1,aQ hlt (show ns.length<=9223372036854775807 by omega),e]
  rw[ih (k+1) (z+s.size) (by omega) hl (by omega),Pl]
theorem EI(ps:List Tag)(hp:∀p∈ps,n_42 (p,())=some (cH.mk p.dep p.cnt p.byts,()))(y:cH):∀(m k d c b:Nat),ps.length-k=m->ps.length<=oc->c+cntL (ps.drop k)<=oc->b+bytsL (ps.drop k)<=oc->
 dV (ps,(ps.length:Int),(k:Int),y,cH.mk d c b,())=some (y,cH.mk ((max d (depL (ps.drop k)):Nat):Int) ((c+cntL (ps.drop k):Nat):Int) ((b+bytsL (ps.drop k):Nat):Int),()):=by
 intro m
 induction m with
 |zero=>
  intro k d c b hk hl hc hb
  have hlt:¬k<ps.length:=by omega
  rw[dV,(eP hlt).1]
  simp only[sW,hlt,depL,cntL,bytsL,Pd,Nat.max_zero]
 |succ m ih=>
  intro k d c b hk hl hc hb
  have hlt:k<ps.length:=by omega
  have hh2:oc=4611686018427387904:=rfl
  obtain⟨p,hp1,hm,hd,g1,g2⟩:=dP hlt
  rw[hd,cntL]at hc
  rw[hd,bytsL]at hb
  rw[hd,depL,cntL,bytsL]
  have e1:i64.wrap ((c:Int)+(p.cnt:Int))=((c+p.cnt:Nat):Int):=by
   rw[q_ (by omega) (by omega)];omega
  have e2:i64.wrap ((b:Int)+(p.byts:Int))=((b+p.byts:Nat):Int):=by
   rw[q_ (by omega) (by omega)];omega
  have e3:max (d:Int) (p.dep:Int)=((max d p.dep:Nat):Int):=by omega
  rw[dV]
  simp only[sW,g1,g2,hlt,hp1,hp p hm,aQ hlt (show ps.length<=9223372036854775807 by omega),e1,e2,e3]
  rw[ih (k+1) (max d p.dep) (c+p.cnt) (b+p.byts) (by omega) hl (by omega) (by omega)]
  rw[Nat.max_assoc,Pl,Pl]
theorem J9:∀t:Tag,t.Fit oc->t.bulk<=oc->n_42 (t,())=some (cH.mk t.dep t.cnt t.byts,()):=by
 refine Tag.ind λt ih ht hb=> ?_
 have hh2:oc=4611686018427387904:=rfl
 have hbk:=rh t
 have hdc:=A3 t
 have h1:=At t
 have hps:∀p∈t.parts,n_42 (p,())=some (cH.mk p.dep p.cnt p.byts,()):=λp hp=>ih p hp (ht.part hp) (by have:=sT hp;omega)
 have b1:=vj t
 have c1:=nQ t
 have d1:=A4 t
 have hn:=Ev t.names t (cH.mk 0 0 0) 0 1 _ 0 t.text.size rfl ht.names (by rw[OZ];omega)
 have hp:=EI t.parts hps (cH.mk 0 0 0) _ 0 0 1 (t.text.size+(t.names.map PR).sum) rfl ht.parts (by rw[OZ];omega) (by rw[OZ];omega)
 rw[OZ]at hn hp
 have z0:((0:Nat):Int)=0:=rfl
 have z1:((1:Nat):Int)=1:=rfl
 rw[z0]at hn hp
 rw[z1]at hp
 rw[n_42]
 simp only[sW,hn,hp]
 have e:i64.wrap (((max 0 (depL t.parts):Nat):Int)+1)=(t.dep:Int):=by
  rw[q_ (by omega) (by omega)];omega
 have e2:1+cntL t.parts=t.cnt:=by omega
 have e3:t.text.size+(t.names.map PR).sum+bytsL t.parts=t.byts:=by omega
 rw[e,e2,e3]
theorem Nw(t:Tag)(ht:t.Fit oc)(hb:t.bulk<=oc)(h:oC (t,())=some (0,())):wW t/\t.dep<=20/\t.cnt<=500/\t.byts<=4096:=by
 have hbig:oc<=big:=by decide
 have hfb:=Tag.Fit.mono hbig t ht
 unfold oC at h
 simp only[J9 t ht hb,sW]at h
 by_cases q1:(t.dep:Int)>20
 ·simp[q1]at h
 by_cases q2:(t.cnt:Int)>500
 ·simp[q1,q2]at h
 by_cases q3:(t.byts:Int)>4096
 ·simp[q1,q2,q3]at h
 obtain⟨b,g,_,_⟩:=f61 t hfb
 cases b with
 |false=>simp[q1,q2,q3,g]at h
 |true=>exact⟨Hp t hfb g,by omega,by omega,by omega⟩
theorem xR{α:Type}{xs:List α}{ns:List Nat}(f:α->Nat)(hl:ns.length=xs.length)(h:∀(i:Nat) (x:α) (n:Nat),xs[i]?=some x->ns[i]?=some n->f x<=n):(xs.map f).sum<=ns.sum:=by
 induction xs generalizing ns with
 |nil=>simp
 |cons x xs ih=>
  cases ns with
  |nil=>simp at hl
  |cons n ns=>
   have h0:=h 0 x n rfl rfl
   have h1:=ih (ns:=ns) (by simpa using hl) λi y m hy hm=>h (i+1) y m (by simpa using hy) (by simpa using hm)
   simp only[Ow,Qu]
   omega
theorem sS:∀ps:List Tag,bulkL ps=(ps.map Tag.bulk).sum
 |[]=>rfl
 |p::ps=>by rw[bulkL,Ow,Qu,sS ps]
theorem GZ:∀(t:Tag) (m:Nat),Bk vw (.st .tagT) t m->t.bulk<=m:=by
 refine Tag.ind λt ih m h=> ?_
 cases h with
 |st ns h1 h2 h3=>
  have h1:ns.length=(cK .tagT t).length:=h1
  have hc:cK .tagT t=[⟨.int .i64,t.kind⟩,⟨.int .i64,t.n⟩,⟨.str,t.text⟩,⟨.sl .str,t.names⟩,⟨.sl (.st .tagT),t.parts⟩]:=by simp[cK]
  rw[hc]at h1
  match ns,h1 with
  |[a,b,c,d,e],_=>
   have g (j:Nat) (l:cj NN) (n:Nat) (hl:(cK .tagT t)[j]?=some l) (hn:[a,b,c,d,e][j]?=some n):Bk vw l.t l.x n:=h2 j l n hl hn
   rw[hc]at g
   have g2:Bk vw .str t.text c:=g 2 ⟨.str,t.text⟩ c rfl rfl
   have g3:Bk vw (.sl .str) t.names d:=g 3 ⟨.sl .str,t.names⟩ d rfl rfl
   have g4:Bk vw (.sl (.st .tagT)) t.parts e:=g 4 ⟨.sl (.st .tagT),t.parts⟩ e rfl rfl
   have k2:=w4 g2
   have k3:(t.names.map PR).sum<=d:=by
    cases g3 with
    |sl ns j1 j2 j3=>
     have:=xR (xs:=t.names) PR j1 λi x n hx hn=>by have:=w4 (j2 i x n hx hn);omega
     omega
   have k4:bulkL t.parts<=e:=by
    rw[sS]
    cases g4 with
    |sl ns j1 j2 j3=>
     have:=xR (xs:=t.parts) Tag.bulk j1 λi x n hx hn=>ih x (OA hx) n (j2 i x n hx hn)
     omega
   have:=At t
   simp only[Qu,List.sum_nil]at h3
   omega
end Go.Proofs.YtpndmanbfleadaaGreatDoor
end
section
namespace Go.Proofs.YtpndmanbfleadaaGreatDoor
open Go.Awp Go.Tx
set_option maxRecDepth 20000
inductive Tag.Uniq:Tag->Prop
 |mk {t:Tag}:t.names.Nodup->(∀p∈t.parts,Tag.Uniq p)->Tag.Uniq t
theorem Tag.Uniq.nd{t:Tag}(h:t.Uniq):t.names.Nodup:=by cases h;assumption
theorem Tag.Uniq.part{t p:Tag}(h:t.Uniq)(hp:p∈t.parts):p.Uniq:=by cases h with|mk _ h=>exact h p hp
theorem Ip(t:Tag)(ht:t.Fit big):∀(m k:Nat) (es:List (ByteArray×Bool)),t.names.length-k=m->(∀s,(Mp.get Mp.seq s es).getD false=true↔s∈t.names.take k)->
 ∃o:Bool,bU (t.names,(t.names.length:Int),(k:Int),t,es,())=some (if o=true then .inl (true,())else .inr (t,()))/\(o=false↔(t.names.drop k).Nodup/\∀s∈t.names.drop k,s∉t.names.take k):=by
 intro m
 induction m with
 |zero=>
  intro k es hk hes
  have hlt:¬k<t.names.length:=by omega
  rw[bU]
  simp only[sW,hlt]
  exact⟨false,by simp,by simp[(eP hlt).1]⟩
 |succ m ih=>
  intro k es hk hes
  have hlt:k<t.names.length:=by omega
  obtain⟨p,hp1,hm,hd,g1,g2⟩:=dP hlt
  have htk:t.names.take (k+1)=t.names.take k++[p]:=by rw[List.take_add_one,hp1];rfl
  have hes2:∀s,(Mp.get Mp.seq s (Mp.set Mp.seq Mp.slt p true es)).getD false=true↔s∈t.names.take (k+1):=by
   intro s
   rw[Bn,htk]
   by_cases e:s=p
   ·simp[e]
   ·rw[RR e,hes s]
    simp[e]
  obtain⟨o,o1,o2⟩:=ih (k+1) _ (by omega) hes2
  rw[bU]
  simp only[sW,g1,g2,hlt,hp1,aQ hlt ht.names]
  by_cases e:p∈t.names.take k
  ·refine⟨true,by rw[RS ((hes p).2 e)];rfl,?_⟩
   rw[hd]
   simp[e]
  ·refine⟨o,by rw[RR λh=>e ((hes p).1 h)];exact o1,o2.trans ?_⟩
   rw[hd,htk]
   simp only[Pp,ON,Oz,QX,or_false]
   constructor
   ·rintro⟨a,b⟩
    refine⟨⟨λhq=>b p hq (.inr rfl),a⟩,λs hs=> ?_⟩
    rcases hs with rfl|hs
    ·exact e
    ·exactλq=>b s hs (.inl q)
   ·rintro⟨⟨a1,a2⟩,b⟩
    refine⟨a2,λs hs=> ?_⟩
    rintro(q|rfl)
    ·exact b s (.inr hs) q
    ·exact a1 hs
theorem KS(t:Tag)(ht:t.Fit big)(hp:∀p∈t.parts,∃b,n_52 (p,())=some (b,())/\(b=false↔p.Uniq)):∀(m k:Nat),t.parts.length-k=m->∃o:Option Nat,
 aO (t.parts,(t.parts.length:Int),(k:Int),())=some (match o with|some i=> .inl ((i:Int),())|none=> .inr ())/\(o=none↔∀p∈t.parts.drop k,p.Uniq):=by
 intro m
 induction m with
 |zero=>
  intro k hk
  have hlt:¬k<t.parts.length:=by omega
  rw[aO]
  simp only[sW,hlt]
  exact⟨.none,rfl,by simp[(eP hlt).1]⟩
 |succ m ih=>
  intro k hk
  have hlt:k<t.parts.length:=by omega
  obtain⟨p,hp1,hm,hd,g1,g2⟩:=dP hlt
  obtain⟨b,e1,e2⟩:=hp p hm
  rw[aO]
  simp only[sW,g1,g2,hlt,hp1,e1,aQ hlt ht.parts]
  cases b with
  |true=>
   simp only[sW]
   refine⟨some k,rfl,?_⟩
   have:¬p.Uniq:=λh=>by cases e2.2 h
   rw[hd]
   simp[this]
  |false=>
   simp only[sW]
   obtain⟨o,o1,o2⟩:=ih (k+1) (by omega)
   refine⟨o,o1,o2.trans ?_⟩
   rw[hd]
   simp[e2.1 rfl]
theorem Ds:∀t:Tag,t.Fit big->∃b,n_52 (t,())=some (b,())/\(b=false↔t.Uniq):=by
 refine Tag.ind λt ih ht=> ?_
 obtain⟨o,o1,o2⟩:=Ip t ht _ 0 [] rfl (λs=>by simp[Mp.get])
 obtain⟨u,u1,u2⟩:=KS t ht (λp hp=>ih p hp (ht.part hp)) _ 0 rfl
 simp only[PN,Pz,OZ,QK]at o1 o2 u1 u2
 have hu:t.Uniq↔o=false/\u=none:=by
  rw[o2,u2]
  exact⟨λh=>⟨⟨h.nd,λs _=>by simp⟩,λp hp=>h.part hp⟩,λh=> .mk h.1.1 h.2⟩
 rw[n_52]
 cases o with
 |true=>simp only[o1,sW];exact⟨_,rfl,by simp[hu]⟩
 |false=>
  simp only[o1,sW]
  rw[n_78c52,n_104c52]
  cases u with
  |none=>simp only[u1,sW];exact⟨_,rfl,by simp[hu]⟩
  |some i=>simp only[u1,sW];exact⟨_,rfl,by simp[hu]⟩
theorem Ew(t:Tag)(ht:t.Fit big)(hv:∀s∈t.names,Lib.validD s.data.toList=true):∀(m k:Nat),t.names.length-k=m->bv (t.names,(t.names.length:Int),(k:Int),())=some (.inr ()):=by
 intro m
 induction m with
 |zero=>
  intro k hk
  have hlt:¬k<t.names.length:=by omega
  rw[bv]
  simp only[sW,hlt]
 |succ m ih=>
  intro k hk
  have hlt:k<t.names.length:=by omega
  obtain⟨p,hp1,hm,hd,g1,g2⟩:=dP hlt
  rw[bv]
  simp only[sW,g1,g2,hlt,hp1,f86 (ht.name hm),hv p hm,PK,aQ hlt ht.names]
  exact ih (k+1) (by omega)
theorem EJ(t:Tag)(ht:t.Fit big)(hv:∀p∈t.parts,n_51 (p,())=some (true,())):∀(m k:Nat),t.parts.length-k=m->aF (t.parts,(t.parts.length:Int),(k:Int),())=some (.inr ()):=by
 intro m
 induction m with
 |zero=>
  intro k hk
  have hlt:¬k<t.parts.length:=by omega
  rw[aF]
  simp only[sW,hlt]
 |succ m ih=>
  intro k hk
  have hlt:k<t.parts.length:=by omega
  obtain⟨p,hp1,hm,hd,g1,g2⟩:=dP hlt
  have e4:n_79 (p,())=some (false,()):=by
   rw[n_79]
   simp only[hv p hm,sW];rfl
  rw[aF]
  simp only[sW,g1,g2,hlt,hp1,e4,aQ hlt ht.parts]
  exact ih (k+1) (by omega)
theorem Br:∀t:Tag,t.Fit big->wW t->n_51 (t,())=some (true,()):=by
 refine Tag.ind λt ih ht hg=> ?_
 have L:=hg.loc
 have h1:=Ew t ht L.vn _ 0 rfl
 have h2:=EJ t ht (λp hp=>ih p hp (ht.part hp) (hg.part hp)) _ 0 rfl
 simp only[PN,Pz,OZ]at h1 h2
 have hn:fu (t.names,())=some (false,()):=by
  unfold fu fD
  simp only[h1,sW];rfl
 have hp:n_78c79 (t.parts,())=some (false,()):=by
  rw[n_78c79,n_104c79]
  simp only[h2,sW];rfl
 have e75:DJ (t.text,())=some (false,()):=by rw[f86 ht.text,L.vt];rfl
 have a1:=L.k0
 have a2:=L.k6
 have a3:¬t.n< -9007199254740992:=by have:=L.lo;omega
 have a4:¬t.n>9007199254740992:=by have:=L.hi;omega
 have a4':¬(9007199254740992:Int)<t.n:=by have:=L.hi;omega
 have n0:=L.n0
 have tx:t.kind≠4->t.text.toList=(Oo #[]).toList:=λh=>Gv.2 (L.tx h)
 have pt:=L.pt
 have nm:=L.nm
 have ln:=L.ln
 have hk:t.kind=0\/t.kind=1\/t.kind=2\/t.kind=3\/t.kind=4\/t.kind=5\/t.kind=6:=by omega
 rw[n_51]
 generalize (Oo #[]).toList=X at tx⊢
 rcases hk with k|k|k|k|k|k|k
 ·have q1:=n0 (by omega);have q2:=tx (by omega);have q3:=pt (by omega);have q4:=nm (by omega)
  simp[k,q1,q2,q3,q4]at hn hp⊢
  simp[hn,hp,e75]
 ·have q1:=n0 (by omega);have q2:=tx (by omega);have q3:=pt (by omega);have q4:=nm (by omega)
  simp[k,q1,q2,q3,q4]at hn hp⊢
  simp[hn,hp,e75]
 ·have q1:=n0 (by omega);have q2:=tx (by omega);have q3:=pt (by omega);have q4:=nm (by omega)
  simp[k,q1,q2,q3,q4]at hn hp⊢
  simp[hn,hp,e75]
 ·have q2:=tx (by omega);have q3:=pt (by omega);have q4:=nm (by omega)
  simp[k,a3,a4',q2,q3,q4]at hn hp⊢
  simp[hn,hp,e75]
 ·have q1:=n0 (by omega);have q3:=pt (by omega);have q4:=nm (by omega)
  simp[k,q1,q3,q4]at hn hp⊢
  simp[hn,hp,e75]
 ·have q1:=n0 (by omega);have q2:=tx (by omega);have q4:=nm (by omega)
  simp[k,q1,q2,q4]at hn hp⊢
  simp[hn,hp,e75]
 ·have q1:=n0 (by omega);have q2:=tx (by omega);have q5:=ln k
  simp[k,q1,q2,q5]at hn hp⊢
  simp[hn,hp,e75]
theorem FK(t:Tag)(ht:t.Fit oc)(hb:t.bulk<=oc)(hg:wW t)(hu:t.Uniq)(h1:t.dep<=20)(h2:t.cnt<=500)(h3:t.byts<=4096):oC (t,())=some (0,()):=by
 have htb:t.Fit big:=Tag.Fit.mono (by decide) t ht
 obtain⟨b,b1,b2⟩:=Ds t htb
 have hb0:=b2.2 hu
 subst hb0
 have e1:¬((t.dep:Int)>20):=by omega
 have e2:¬((t.cnt:Int)>500):=by omega
 have e3:¬((t.byts:Int)>4096):=by omega
 unfold oC
 simp[J9 t ht hb,e1,e2,e3,Br t htb hg,b1]
theorem z7(t:Tag)(ht:t.Fit big)(h:oC (t,())=some (0,())):t.Uniq:=by
 obtain⟨b,b1,b2⟩:=Ds t ht
 obtain⟨a,d,s,c1,c2⟩:=f58 t ht
 obtain⟨g,g1,_,_⟩:=f61 t ht
 refine b2.1 ?_
 cases b with
 |false=>rfl
 |true=>
  unfold oC at h
  simp only[c2,g1,b1,sW]at h
  exfalso
  revert h
  by_cases h1:d>20
  ·simp[h1]
  ·by_cases h2:a>500
   ·simp[h1,h2]
   ·by_cases h3:s>4096
    ·simp[h1,h2,h3]
    ·cases g<;>simp[h1,h2,h3,g1,b1]
end Go.Proofs.YtpndmanbfleadaaGreatDoor
end
section
namespace Go.Proofs.YtpndmanbfleadaaGreatDoor
open Go.Awp Go.Tx
set_option maxRecDepth 20000
def goP(s:ByteArray):Bool->List ByteArray->List ByteArray×Bool
 |d,[]=>([],d)
 |true,a::r=>(a::r,true)
 |false,a::r=>if¬tle a s then(s::a::r,true)else if a=s then(a::r,true)else(a::(goP s false r).1,(goP s false r).2)
theorem ru(s:ByteArray)(r:List ByteArray):goP s true r=(r,true):=by cases r<;>rfl
theorem vL(s:ByteArray):∀l:List ByteArray,(if(goP s false l).2=true then(goP s false l).1 else(goP s false l).1++[s])=sJ l s
 |[]=>rfl
 |a::r=>by
  unfold goP sJ
  have ih:=vL s r
  by_cases h:tle a s
  ·by_cases e:a=s
   ·simp[e,nb]
   ·simp only[h,not_true_eq_false,RP,e,<-ih]
    split<;>simp
  ·simp[h]
theorem EV(l:List ByteArray)(s:ByteArray)(hl:l.length<4294967295):∀(m k:Nat) (d:Bool) (out:List ByteArray),l.length-k=m->k<=l.length->out.length<=k+(if d=true then 1 else 0)->
 my (l,s,d,(k:Int),out,())=some (s,(goP s d (l.drop k)).2,out++(goP s d (l.drop k)).1,()):=by
 intro m
 induction m with
 |zero=>
  intro k d out hk hkl ho
  have hlt:¬k<l.length:=by omega
  rw[my,(eP hlt).1]
  simp only[sW,hlt,goP,Pj]
 |succ m ih=>
  intro k d out hk hkl ho
  have hlt:k<l.length:=by omega
  obtain⟨p,hp1,hm,hd,g1,g2⟩:=dP hlt
  have hw:=aQ hlt (show l.length<=9223372036854775807 by omega)
  rw[hd,my]
  cases d with
  |true=>
   have h3:out.length+[p].length<=4294967296:=by simp at ho⊢;omega
   simp only[sW,g1,g2,hlt,hp1,hw,h3,PK,Pe]
   rw[ih (k+1) true (out++[p]) (by omega) (by omega) (by simp at ho⊢;omega),ru]
   simp[goP]
  |false=>
   have ho:out.length<=k:=by simpa using ho
   by_cases h:tle p s
   ·have h3:out.length+[p].length<=4294967296:=by simp;omega
    by_cases e:p=s
    ·have e2:(p.toList==s.toList)=true:=by rw[e];simp
     simp only[sW,g1,g2,hlt,hp1,hw,h3,Bu,h,e2,PS,not_true_eq_false,decide_false,Pe]
     rw[ih (k+1) true (out++[p]) (by omega) (by omega) (by simp;omega),ru]
     simp[goP,e,nb]
    ·have e2:(p.toList==s.toList)=false:=by
      rw[Ra];intro q;exact e (Dj (by simpa using q))
     simp only[sW,g1,g2,hlt,hp1,hw,h3,Bu,h,e2,PS,not_true_eq_false,decide_false,Pe]
     rw[ih (k+1) false (out++[p]) (by omega) (by omega) (by simp;omega)]
     simp[goP,h,e]
   ·have h3:out.length+[s].length<=4294967296:=by simp;omega
    have h4:(out++[s]).length+[p].length<=4294967296:=by simp;omega
    simp only[sW,g1,g2,hlt,hp1,hw,h3,h4,Bu,h,PS,not_false_eq_true,decide_true,Pe]
    rw[ih (k+1) true (out++[s]++[p]) (by omega) (by omega) (by simp;omega),ru]
    simp[goP,h]
theorem KG(l:List ByteArray)(s:ByteArray)(hl:l.length<4294967295):Kq (l,s,())=some (sJ l s,()):=by
 have h:=EV l s hl _ 0 false [] rfl (Pu _) (Pu _)
 have z:((0:Nat):Int)=0:=rfl
 rw[z,OZ,OM]at h
 have hle:(goP s false l).1.length<=l.length+1:=by
  have h1:=gP s l
  rw[<-vL]at h1
  split at h1
  ·exact h1
  ·rw[OJ]at h1;omega
 have hg:=vL s l
 rw[Kq]
 simp only[sW,h]
 cases hb:(goP s false l).2 with
 |true=>
  rw[hb]at hg
  simp only[RO]at hg
  simp[hg]
 |false=>
  rw[hb]at hg
  simp only[Pe,RP]at hg
  have h3:(goP s false l).1.length+[s].length<=4294967296:=by simp;omega
  simp only[sW,PS,h3,hg]
mutual
def Tag.all:Tag->List ByteArray
 | .mk _ _ _ ns ps=>ns++allL ps
def allL:List Tag->List ByteArray
 |[]=>[]
 |p::ps=>p.all++allL ps
end
theorem qd(t:Tag):t.all=t.names++allL t.parts:=by cases t;rfl
theorem xc:∀ps:List Tag,(∀p∈ps,p.all.length+1<=p.cnt)->(allL ps).length+ps.length<=cntL ps
 |[],_=>OO _
 |p::ps,h=>by
  have h1:=h p Ox
  have h2:=xc ps λq hq=>h q (Ot _ hq)
  rw[allL,cntL,OJ,O_]
  omega
theorem GR:∀t:Tag,t.Right->t.all.length+1<=t.cnt:=by
 refine Tag.ind λt ih hr=> ?_
 have h1:=xc t.parts λp hp=>ih p hp (hr.part hp)
 rw[qd,nQ,OJ]
 by_cases hk:t.kind=6
 ·have:=hr.len hk;omega
 ·rw[hr.none hk];simp only[Pv];omega
theorem Im(t:Tag)(ht:t.Fit big):∀(m k:Nat) (set:List ByteArray),t.names.length-k=m->set.length+(t.names.drop k).length<4294967295->
 dI (set,(k:Int),t,())=some (dN set (t.names.drop k),t,()):=by
 intro m
 induction m with
 |zero=>
  intro k set hk hs
  have hlt:¬k<t.names.length:=by omega
  rw[dI,(eP hlt).1]
  simp only[sW,hlt,dN,List.foldl_nil]
 |succ m ih=>
  intro k set hk hs
  have hlt:k<t.names.length:=by omega
  obtain⟨p,hp1,hm,hd,g1,g2⟩:=dP hlt
  rw[hd,O_]at hs
  have hl:=gP p set
  rw[hd,dI]
  simp only[sW,g1,g2,hlt,hp1,KG set p (by omega),aQ hlt ht.names]
  rw[ih (k+1) (sJ set p) (by omega) (by omega)]
  rfl
theorem Ix(t:Tag)(ht:t.Fit big)(hp:∀p∈t.parts,∀set:List ByteArray,set.length+p.all.length<4294967295->n_48 (set,p,())=some (dN set p.all,())):∀(m k:Nat) (set:List ByteArray),t.parts.length-k=m->set.length+(allL (t.parts.drop k)).length<4294967295->
 iy (set,(k:Int),t,())=some (dN set (allL (t.parts.drop k)),()):=by
 intro m
 induction m with
 |zero=>
  intro k set hk hs
  have hlt:¬k<t.parts.length:=by omega
  rw[iy,(eP hlt).1]
  simp only[sW,hlt,dN,allL,List.foldl_nil]
 |succ m ih=>
  intro k set hk hs
  have hlt:k<t.parts.length:=by omega
  obtain⟨p,hp1,hm,hd,g1,g2⟩:=dP hlt
  rw[hd,allL,OJ]at hs
  have hl:=gO p.all set
  rw[hd,iy]
  simp only[sW,g1,g2,hlt,hp1,hp p hm set (by omega),aQ hlt ht.parts]
  rw[ih (k+1) (dN set p.all) (by omega) (by omega),allL,qO]
theorem Cq:∀t:Tag,t.Fit big->∀set:List ByteArray,set.length+t.all.length<4294967295->n_48 (set,t,())=some (dN set t.all,()):=by
 refine Tag.ind λt ih ht set hs=> ?_
 rw[qd,OJ]at hs
 have h1:=Im t ht _ 0 set rfl (by rw[OZ];omega)
 have hl:=gO t.names set
 have h2:=Ix t ht (λp hp=>ih p hp (ht.part hp)) _ 0 (dN set t.names) rfl (by rw[OZ];omega)
 have z:((0:Nat):Int)=0:=rfl
 rw[z,OZ]at h1 h2
 rw[n_48]
 simp only[sW,h1,h2,qd,qO]
theorem Ll(ps:List Tag)(hl:ps.length<=big)(hp:∀p∈ps,n_45 (p,())=some (p.all,())):∀(m k:Nat) (out:List ByteArray),ps.length-k=m->out.length+(allL (ps.drop k)).length<=4294967296->
 iw (ps,(ps.length:Int),(k:Int),out,())=some (out++allL (ps.drop k),())/\cU (ps,(ps.length:Int),(k:Int),out,())=some (out++allL (ps.drop k),()):=by
 intro m
 induction m with
 |zero=>
  intro k out hk ho
  have hlt:¬k<ps.length:=by omega
  rw[iw,cU,(eP hlt).1]
  simp only[sW,hlt,allL,Pj,and_self]
 |succ m ih=>
  intro k out hk ho
  have hlt:k<ps.length:=by omega
  obtain⟨p,hp1,hm,hd,g1,g2⟩:=dP hlt
  rw[hd,allL,OJ]at ho
  have h3:out.length+p.all.length<=4294967296:=by omega
  obtain⟨i1,i2⟩:=ih (k+1) (out++p.all) (by omega) (by rw[OJ];omega)
  rw[hd,iw,cU]
  simp only[sW,g1,g2,hlt,hp1,hp p hm,h3,aQ hlt hl,i1,i2,allL,O9,and_self]
theorem JU:∀t:Tag,t.Fit big->t.all.length<=4294967296->n_45 (t,())=some (t.all,())/\ix (t,())=some (t.all,()):=by
 refine Tag.ind λt ih ht hs=> ?_
 have hm:∀(ps:List Tag) (p:Tag),p∈ps->p.all.length<=(allL ps).length:=by
  intro ps
  induction ps with
  |nil=>intro p hp;cases hp
  |cons q qs iq=>
   intro p hp
   rw[allL,OJ]
   rcases Oz.1 hp with rfl|hp
   ·omega
   ·have:=iq p hp;omega
 rw[qd,OJ]at hs
 obtain⟨h1,h2⟩:=Ll t.parts ht.parts (λp hp=>(ih p hp (ht.part hp) (by have:=hm t.parts p hp;omega)).1) _ 0 t.names rfl (by rw[OZ];omega)
 have z:((0:Nat):Int)=0:=rfl
 rw[z,OZ]at h1 h2
 have h3:t.names.length<=4294967296:=by omega
 have h4:cV (t.names,())=some (t.names,()):=by
  unfold cV
  simp only[sW,h3]
 refine⟨?_,?_⟩
 ·rw[n_45]
  simp only[sW,h4,h1,qd]
 ·rw[ix]
  simp only[sW,h4,h2,qd]
end Go.Proofs.YtpndmanbfleadaaGreatDoor
end
section
namespace Go.Proofs.YtpndmanbfleadaaGreatDoor
open Go.Awp Go.Tx
set_option maxRecDepth 20000
abbrev NP:=ByteArray×Tag
def ple(a b:NP):Prop:=tle a.1 b.1
def ph(l:List NP):List NP:=l.mergeSort λa b=>decide (tle a.1 b.1)
theorem dg(l:List NP):(ph l).Perm l:=RE l _
theorem fI(l:List NP):(ph l).Pairwise ple:=by
 refine(Rm (le:=λa b:NP=>decide (tle a.1 b.1)) (λa b c h k=> ?_) (λa b=> ?_) l).imp λ{a b} h=> ?_
 ·simp only[RQ]at h k⊢
  exact px h k
 ·rcases lr a.1 b.1 with h|h<;>simp[h]
 ·simp only[RQ]at h
  exact h
theorem uo:∀{l:List NP},(l.map (·.1)).Nodup->∀{a b:NP},a∈l->b∈l->a.1=b.1->a=b
 |[],_,_,_,h,_,_=>by cases h
 |c::l,hn,a,b,ha,hb,e=>by
  rw[Ow,Pp]at hn
  rcases Oz.1 ha with e1|h1
  ·rcases Oz.1 hb with e2|h2
   ·rw[e1,e2]
   ·exact(hn.1 (by rw[<-e1,e];exact OR (f:=(·.1)) h2)).elim
  ·rcases Oz.1 hb with e2|h2
   ·exact(hn.1 (by rw[<-e2,<-e];exact OR (f:=(·.1)) h1)).elim
   ·exact uo hn.2 h1 h2 e
theorem oM{l l':List NP}(hn:(l.map (·.1)).Nodup)(hp:l.Perm l')(h:l.Pairwise ple)(h':l'.Pairwise ple):l=l':=
 Rk (λa b ha hb k k'=>uo hn ha (hp.mem_iff.2 hb) (na k k')) h h' hp
theorem Jh(t:Tag):Tag.mk t.kind t.n t.text t.names t.parts=t:=by cases t;rfl
def fin(k n:Int)(tx:ByteArray)(ns:List ByteArray)(ps:List Tag):Tag:=
 if k=6 then⟨k,n,tx,(ph (ns.zip ps)).map (·.1),(ph (ns.zip ps)).map (·.2)⟩else⟨k,n,tx,[],ps⟩
mutual
def Tag.srt:Tag->Tag
 | .mk k n tx ns ps=>fin k n tx ns (srtL ps)
def srtL:List Tag->List Tag
 |[]=>[]
 |p::ps=>p.srt::srtL ps
end
theorem iK(t:Tag):t.srt=fin t.kind t.n t.text t.names (srtL t.parts):=by cases t;rfl
theorem lh:∀ps:List Tag,srtL ps=ps.map Tag.srt
 |[]=>rfl
 |p::ps=>by rw[srtL,Ow,lh ps]
theorem eD(ps:List Tag):(srtL ps).length=ps.length:=by rw[lh,On]
theorem pD{α β:Type}:∀{a:List α} {b:List β},a.length=b.length->(a.zip b).map (·.1)=a
 |[],[],_=>rfl
 |x::a,y::b,h=>by rw[QF,Ow,pD (by simpa using h)]
theorem DE{α β:Type}:∀{a:List α} {b:List β},a.length=b.length->(a.zip b).map (·.2)=b
 |[],[],_=>rfl
 |x::a,y::b,h=>by rw[QF,Ow,DE (by simpa using h)]
theorem mI{ns:List ByteArray}{ps:List Tag}(h:ns.length=ps.length):(ph (ns.zip ps)).map (·.1)=sortStr ns:=by
 refine pi (((dg _).map _).trans (by rw[pD h];exact(eJ ns).symm)) ?_ (fO ns)
 rw[QJ]
 exact(fI _).imp λh=>h
theorem L2(ns:List ByteArray)(hl:ns.length<=big)(hn:ns.Nodup)(s:ByteArray)(i:Nat)(hi:ns[i]?=some s):∀(m k:Nat),i-k=m->k<=i->
 jB (ns,s,(ns.length:Int),(k:Int),())=some (.inl ((i:Int),())):=by
 have hil:i<ns.length:=(Ol.1 hi).1
 have his:ns[i]=s:=(Ol.1 hi).2
 intro m
 induction m with
 |zero=>
  intro k hk hki
  have e:k=i:=by omega
  subst e
  obtain⟨p,hp1,hm,hd,g1,g2⟩:=dP hil
  have e2:(s.toList==s.toList)=true:=by simp
  rw[jB]
  simp only[sW,g1,g2,hil,hi,e2]
 |succ m ih=>
  intro k hk hki
  have hlt:k<ns.length:=by omega
  obtain⟨p,hp1,hm,hd,g1,g2⟩:=dP hlt
  have hps:s≠p:=λe=>by
   have h1:ns[k]=p:=(Ol.1 hp1).2
   have:=(Rb.1 hn) k i hlt hil (by omega)
   exact this (by rw[h1,his,e])
  have e2:¬s.toList=p.toList:=λq=>hps (Dj q)
  rw[jB]
  simp only[sW,g1,g2,hlt,hp1,e2,RP,aQ hlt hl]
  exact ih (k+1) (by omega) (by omega)
theorem Hr(ns:List ByteArray)(hl:ns.length<=big)(hn:ns.Nodup)(s:ByteArray)(i:Nat)(hi:ns[i]?=some s):Eu (ns,s,())=some ((i:Int),()):=by
 have h:=L2 ns hl hn s i hi _ 0 rfl (Pu _)
 have z:((0:Nat):Int)=0:=rfl
 rw[z]at h
 rw[Eu]
 simp only[sW,h]
theorem Kj(t t0:Tag)(ht:t.names.length<=big)(hn:t.names.Nodup)(ps:List Tag)(a b:Int)(c:ByteArray)(d:List ByteArray)(L:List NP)(hL:∀q∈L,∃i:Nat,t.names[i]?=some q.1/\ps[i]?=some q.2)(hl:L.length<4294967295):
 ∀(m k:Nat) (out:List Tag),L.length-k=m->out.length<=k->co (L.map (·.1),(L.length:Int),(k:Int),t,t0,ps,a,b,c,d,out,())=some (t0,a,b,c,d,out++(L.drop k).map (·.2),()):=by
 intro m
 induction m with
 |zero=>
  intro k out hk ho
  have hlt:¬k<L.length:=by omega
  rw[co,(eP hlt).1]
  simp only[sW,hlt,O0,Pj]
 |succ m ih=>
  intro k out hk ho
  have hlt:k<L.length:=by omega
  obtain⟨q,hq1,hm,hd,g1,g2⟩:=dP hlt
  obtain⟨i,i1,i2⟩:=hL q hm
  have hil:i<ps.length:=(Ol.1 i2).1
  have h1:(L.map (·.1))[k]?=some q.1:=by rw[Oq,hq1];rfl
  have h3:out.length+[q.2].length<=4294967296:=by simp;omega
  have h4:(0:Int)<=(i:Int)/\(i:Int)<(ps.length:Int):=by omega
  rw[hd,co]
  simp only[sW,g1,g2,hlt,h1,Hr t.names ht hn q.1 i i1,h4,i2,h3,and_self,aQ hlt (show L.length<=9223372036854775807 by omega)]
  rw[ih (k+1) (out++[q.2]) (by omega) (by simp;omega)]
  simp
theorem Iw(ps:List Tag)(hl:ps.length<4294967295)(t t0:Tag)(hp:∀p∈ps,n_43 (p,())=some (p.srt,())):∀(m k:Nat) (out:List Tag),ps.length-k=m->out.length<=k->
 iv (ps,(ps.length:Int),(k:Int),t,t0,out,())=some (t,t0,out++srtL (ps.drop k),()):=by
 intro m
 induction m with
 |zero=>
  intro k out hk ho
  have hlt:¬k<ps.length:=by omega
  rw[iv,(eP hlt).1]
  simp only[sW,hlt,srtL,Pj]
 |succ m ih=>
  intro k out hk ho
  have hlt:k<ps.length:=by omega
  obtain⟨p,hp1,hm,hd,g1,g2⟩:=dP hlt
  have h3:out.length+[p.srt].length<=4294967296:=by simp;omega
  rw[hd,iv]
  simp only[sW,g1,g2,hlt,hp1,hp p hm,h3,aQ hlt (show ps.length<=9223372036854775807 by omega)]
  rw[ih (k+1) (out++[p.srt]) (by omega) (by simp;omega),srtL]
  simp
theorem nR:∀ps:List Tag,ps.length<=cntL ps
 |[]=>OO _
 |p::ps=>by have:=nR ps;have:=nQ p;rw[cntL,O_];omega
theorem rj:∀{ps:List Tag} {p:Tag},p∈ps->p.cnt<=cntL ps
 |q::ps,p,h=>by
  rw[cntL]
  rcases Oz.1 h with rfl|h
  ·omega
  ·have:=rj h;omega
theorem KW{ns:List ByteArray}{ps:List Tag}{q:NP}(h:q∈ns.zip ps):∃i:Nat,ns[i]?=some q.1/\ps[i]?=some q.2:=by
 obtain⟨i,hi⟩:=Py h
 rw[Rc]at hi
 exact⟨i,hi⟩
theorem C7:∀t:Tag,t.Right->t.Uniq->t.cnt<4294967295->n_43 (t,())=some (t.srt,()):=by
 refine Tag.ind λt ih hr hu hc=> ?_
 have c1:=nQ t
 have c2:=nR t.parts
 have hps:∀p∈t.parts,n_43 (p,())=some (p.srt,()):=λp hp=>ih p hp (hr.part hp) (hu.part hp) (by have:=rj hp;omega)
 have h1:=Iw t.parts (by omega) t (Tag.mk 0 0 (Oo #[]) [] []) hps _ 0 [] rfl (Pu _)
 have z:((0:Nat):Int)=0:=rfl
 rw[z,OZ,OM]at h1
 have hnl:t.names.length<=8796093020160:=by
  by_cases hk:t.kind=6
  ·have:=hr.len hk;omega
  ·rw[hr.none hk];simp
 have h2:K_ (t.names,())=some (t.names,()):=rfl
 have h3:gi (t.names,())=some (sortStr t.names,()):=by
  unfold gi
  simp only[sW,hnl]
 rw[n_43]
 by_cases hk:t.kind=6
 ·have hk':(t.kind==6)=true:=by rw[hk];rfl
  have hlen:t.names.length=(srtL t.parts).length:=by rw[eD];exact hr.len hk
  have hsl:(ph (t.names.zip (srtL t.parts))).length=t.names.length:=by
   rw[(dg _).length_eq,List.length_zip,<-hlen,Nat.min_self]
  have h4:=Kj t (Tag.mk 0 0 (Oo #[]) [] []) (by unfold big;omega) hu.nd (srtL t.parts) t.kind t.n t.text (sortStr t.names) (ph (t.names.zip (srtL t.parts))) (λq hq=>KW ((dg _).mem_iff.1 hq)) (by rw[hsl,hlen,eD];omega) _ 0 [] rfl (Pu _)
  rw[z,OZ,OM,mI hlen,hsl]at h4
  have h5:(sortStr t.names).length=t.names.length:=eC _
  simp only[sW,h1,h2,h3,h5]
  rw[RS hk]
  simp only[sW,h4]
  rw[iK]
  unfold fin
  rw[RS hk,mI hlen]
 ·have hk':(t.kind==6)=false:=by simpa using hk
  have hs:sortStr ([]:List ByteArray)=[]:=zK Q_
  simp only[sW,h1,h2,h3]
  rw[RR hk]
  simp only[sW]
  rw[iK]
  unfold fin
  rw[RR hk,hr.none hk,hs]
def bub:List NP->NP->List NP->List NP
 |[],x,B=>x::B
 |a::r,x,B=>if tle a.1 x.1 then(a::r).reverse++x::B else bub r x (a::B)
theorem rg:∀(R:List NP) (x:NP) (B:List NP),(bub R x B).Perm (R++x::B)
 |[],x,B=> .refl _
 |a::r,x,B=>by
  unfold bub
  split
  ·exact(List.reverse_perm _).append_right _
  ·refine(rg r x (a::B)).trans ?_
   have h1:(r++x::a::B).Perm (r++a::x::B):=(List.Perm.swap a x B).append_left r
   refine h1.trans ?_
   exact(List.perm_middle (l₁:=r) (a:=a) (l₂:=x::B))
theorem qf:∀(R:List NP) (x:NP) (B:List NP),(R.reverse++B).Pairwise ple->(∀b∈B,ple x b)->(bub R x B).Pairwise ple
 |[],x,B,h,hb=>by
  unfold bub
  rw[List.reverse_nil,OM]at h
  exact P7.2 ⟨hb,h⟩
 |a::r,x,B,h,hb=>by
  unfold bub
  split
  ·rename_i hax
   rw[Rx]at h⊢
   refine⟨h.1,P7.2 ⟨hb,h.2.1⟩,λc hc d hd=> ?_⟩
   rcases Oz.1 hd with rfl|hd
   ·rw[QH,ON]at hc
    rw[QH]at h
    rcases hc with hc|hc
    ·exact px ((Rx.1 h.1).2.2 c hc a Ox) hax
    ·rw[PE.1 hc];exact hax
   ·exact h.2.2 c hc d hd
  ·rename_i hax
   rw[QH,O9]at h
   refine qf r x (a::B) h λb hb'=> ?_
   rcases Oz.1 hb' with rfl|hb'
   ·exact(lr _ _).resolve_left hax
   ·exact hb b hb'
theorem GY(R:List NP)(x:NP)(B:List NP):(bub R x B).length=R.length+1+B.length:=by
 rw[(rg R x B).length_eq,OJ,O_];omega
theorem w6(i:Int)(t t0:Tag):∀(R:List NP) (x:NP) (B:List NP),R.length+1+B.length<=big->
 cz (i,(R.length:Int),t,t0,R.reverse.map (·.1)++x.1::B.map (·.1),R.reverse.map (·.2)++x.2::B.map (·.2),())=some (i,t,t0,(bub R x B).map (·.1),(bub R x B).map (·.2),())
 |[],x,B,h=>by
  rw[cz]
  simp[bub]
 |a::r,x,B,h=>by
  have ih:=w6 i t t0 r x (a::B) (by simp only[O_]at h⊢;omega)
  have hbig:big=9223372036854775807:=rfl
  rw[O_]at h
  rw[QH,O6,O6,O9,O9]
  simp only[Ow,O0,OG,OM]at ih⊢
  generalize hA:r.reverse.map (·.1)=A at ih⊢
  generalize hQ:r.reverse.map (·.2)=Q at ih⊢
  generalize hB1:B.map (·.1)=B1 at ih⊢
  generalize hB2:B.map (·.2)=B2 at ih⊢
  have lA:A.length=r.length:=by rw[<-hA];simp
  have lQ:Q.length=r.length:=by rw[<-hQ];simp
  have lB1:B1.length=B.length:=by rw[<-hB1];simp
  have lB2:B2.length=B.length:=by rw[<-hB2];simp
  have w:IntKind.i64.wrap (((r.length+1:Nat):Int) -1)=(r.length:Int):=by rw[q_ (by omega) (by omega)];omega
  have p1:(A++a.1::x.1::B1)[r.length+1]?=some x.1:=by rw[<-lA];simp
  have p0:(A++a.1::x.1::B1)[r.length]?=some a.1:=by rw[<-lA];simp
  have q1:(Q++a.2::x.2::B2)[r.length+1]?=some x.2:=by rw[<-lQ];simp
  have q0:(Q++a.2::x.2::B2)[r.length]?=some a.2:=by rw[<-lQ];simp
  have s1:((A++a.1::x.1::B1).set (r.length+1) a.1)=A++a.1::a.1::B1:=by rw[<-lA];simp
  have s2:((A++a.1::a.1::B1).set r.length x.1)=A++x.1::a.1::B1:=by rw[<-lA];simp
  have u1:((Q++a.2::x.2::B2).set (r.length+1) a.2)=Q++a.2::a.2::B2:=by rw[<-lQ];simp
  have u2:((Q++a.2::a.2::B2).set r.length x.2)=Q++x.2::a.2::B2:=by rw[<-lQ];simp
  have p2:(A++a.1::a.1::B1)[r.length]?=some a.1:=by rw[<-lA];simp
  have q2:(Q++a.2::a.2::B2)[r.length]?=some a.2:=by rw[<-lQ];simp
  have k0:((r.length+1:Nat):Int)>0:=by omega
  have k1:(0:Int)<=((r.length+1:Nat):Int)/\((r.length+1:Nat):Int)<(((A++a.1::x.1::B1).length:Nat):Int):=by simp;omega
  have k2:(0:Int)<=(r.length:Int)/\(r.length:Int)<(((A++a.1::x.1::B1).length:Nat):Int):=by simp;omega
  have k3:(0:Int)<=(r.length:Int)/\(r.length:Int)<(((A++a.1::a.1::B1).length:Nat):Int):=by simp;omega
  have k4:(0:Int)<=((r.length+1:Nat):Int)/\((r.length+1:Nat):Int)<(((Q++a.2::x.2::B2).length:Nat):Int):=by simp;omega
  have k5:(0:Int)<=(r.length:Int)/\(r.length:Int)<(((Q++a.2::x.2::B2).length:Nat):Int):=by simp;omega
  have k6:(0:Int)<=(r.length:Int)/\(r.length:Int)<(((Q++a.2::a.2::B2).length:Nat):Int):=by simp;omega
  have n1:Int.toNat ((r.length+1:Nat):Int)=r.length+1:=rfl
  have n2:Int.toNat (r.length:Int)=r.length:=rfl
  rw[cz,O_]
  unfold bub
  by_cases hax:tle a.1 x.1
  ·simp only[RB,PX,decide_eq_true k0,RO,k1,k2,and_self,w,n1,n2,p1,p0,blt_eq,hax,not_true_eq_false,decide_false,Pe,RP]
   rw[QH,O9]
   simp[hA,hQ,hB1,hB2]
  ·simp only[RB,PX,decide_eq_true k0,RO,k1,k2,k3,k4,k5,k6,and_self,w,n1,n2,p1,p0,p2,q1,q0,q2,s1,s2,Jh,u1,u2,blt_eq,hax,not_false_eq_true,decide_true,RP]
   exact ih
def ju:List NP->List NP->List NP
 |L,[]=>L
 |L,x::r=>ju (bub L.reverse x []) r
theorem og:∀(r L:List NP),(ju L r).Perm (L++r)
 |[],L=>by rw[ju,Pj]
 |x::r,L=>by
  rw[ju]
  refine(og r _).trans ?_
  have h1:(bub L.reverse x []).Perm (L++[x]):=(rg L.reverse x []).trans ((List.reverse_perm L).append_right _)
  refine(h1.append_right r).trans ?_
  rw[O9]
  exact .refl _
theorem kI:∀(r:List NP) {L:List NP},L.Pairwise ple->(ju L r).Pairwise ple
 |[],L,h=>h
 |x::r,L,h=>kI r (qf L.reverse x [] (by rw[Rw,Pj];exact h) λb hb=>by cases hb)
theorem Mc(t t0:Tag)(hk:t.kind=6)(hl:t.names.length=t.parts.length)(hc:t.parts.length<4294967295)(hp:∀p∈t.parts,n_44 (p,())=some (p.srt,())):∀(m k:Nat) (L:List NP),t.parts.length-k=m->L.length=k->
 fF ((k:Int),t,t0,L.map (·.1),L.map (·.2),())=some (t,t0,(ju L ((t.names.zip (srtL t.parts)).drop k)).map (·.1),(ju L ((t.names.zip (srtL t.parts)).drop k)).map (·.2),()):=by
 have hzl:(t.names.zip (srtL t.parts)).length=t.parts.length:=by rw[List.length_zip,eD,hl,Nat.min_self]
 intro m
 induction m with
 |zero=>
  intro k L hm hL
  have hlt:¬k<t.parts.length:=by omega
  have hd:(t.names.zip (srtL t.parts)).drop k=[]:=P2 (by omega)
  rw[fF,hd]
  simp only[sW,hlt,ju]
 |succ m ih=>
  intro k L hm hL
  have hlt:k<t.parts.length:=by omega
  have hln:k<t.names.length:=by omega
  obtain⟨p,hp1,hpm,hd,g1,g2⟩:=dP hlt
  obtain⟨s,hs1,_,_,_,_⟩:=dP hln
  have hz:(t.names.zip (srtL t.parts)).drop k=(s,p.srt)::(t.names.zip (srtL t.parts)).drop (k+1):=by
   have h9:(t.names.zip (srtL t.parts))[k]?=some (s,p.srt):=by
    rw[Rc]
    exact⟨hs1,by rw[lh,Oq,hp1];rfl⟩
   have hkl:k<(t.names.zip (srtL t.parts)).length:=by omega
   rw[Re hkl]
   rw[Ou hkl]at h9
   rw[P_ h9]
  have b1:=w6 (k:Int) t t0 L.reverse (s,p.srt) [] (by simp[hL];unfold big;omega)
  rw[Rw,RF,hL]at b1
  simp only[O0]at b1
  have h3:(L.map (·.2)).length+[p.srt].length<=4294967296:=by simp;omega
  have h4:(L.map (·.1)).length+[s].length<=4294967296:=by simp;omega
  have hk':(t.kind !=6)=false:=by rw[hk];rfl
  rw[hz,fF]
  simp only[sW,g1,g2,hlt,hp1,hp p hpm,h3,h4,hk',hs1,Pe,b1,aQ hlt (show t.parts.length<=9223372036854775807 by omega)]
  rw[ih (k+1) (bub L.reverse (s,p.srt) []) (by omega) (by rw[GY,RF,hL];rfl)]
  rfl
theorem Ki(t t0:Tag)(hk:t.kind≠6)(hc:t.parts.length<4294967295)(hp:∀p∈t.parts,n_44 (p,())=some (p.srt,())):∀(m k:Nat) (out:List Tag),t.parts.length-k=m->out.length<=k->
 fF ((k:Int),t,t0,[],out,())=some (t,t0,[],out++srtL (t.parts.drop k),()):=by
 intro m
 induction m with
 |zero=>
  intro k out hm ho
  have hlt:¬k<t.parts.length:=by omega
  rw[fF,(eP hlt).1]
  simp only[sW,hlt,srtL,Pj]
 |succ m ih=>
  intro k out hm ho
  have hlt:k<t.parts.length:=by omega
  obtain⟨p,hp1,hpm,hd,g1,g2⟩:=dP hlt
  have h3:out.length+[p.srt].length<=4294967296:=by simp;omega
  have hk':(t.kind !=6)=true:=by simpa using hk
  rw[hd,fF]
  simp only[sW,g1,g2,hlt,hp1,hp p hpm,h3,hk',aQ hlt (show t.parts.length<=9223372036854775807 by omega)]
  rw[ih (k+1) (out++[p.srt]) (by omega) (by simp;omega),srtL]
  simp
theorem KN:∀t:Tag,t.Right->t.Uniq->t.cnt<4294967295->n_44 (t,())=some (t.srt,()):=by
 refine Tag.ind λt ih hr hu hc=> ?_
 have c1:=nQ t
 have c2:=nR t.parts
 have hps:∀p∈t.parts,n_44 (p,())=some (p.srt,()):=λp hp=>ih p hp (hr.part hp) (hu.part hp) (by have:=rj hp;omega)
 have z:((0:Nat):Int)=0:=rfl
 rw[n_44]
 by_cases hk:t.kind=6
 ·have h1:=Mc t (Tag.mk 0 0 (Oo #[]) [] []) hk (hr.len hk) (by omega) hps _ 0 [] rfl rfl
  rw[z,OZ]at h1
  simp only[O0]at h1
  have hlen:t.names.length=(srtL t.parts).length:=by rw[eD];exact hr.len hk
  have hu2:ju [] (t.names.zip (srtL t.parts))=ph (t.names.zip (srtL t.parts)):=by
   have hp1:(ju [] (t.names.zip (srtL t.parts))).Perm (t.names.zip (srtL t.parts)):=og _ []
   refine oM ?_ (hp1.trans (dg _).symm) (kI _ Q_) (fI _)
   rw[(hp1.map _).nodup_iff,pD hlen]
   exact hu.nd
  rw[hu2]at h1
  simp only[sW,h1]
  rw[iK]
  unfold fin
  rw[RS hk]
 ·have h1:=Ki t (Tag.mk 0 0 (Oo #[]) [] []) hk (by omega) hps _ 0 [] rfl (Pu _)
  rw[z,OZ,OM]at h1
  simp only[sW,h1]
  rw[iK]
  unfold fin
  rw[RR hk]
end Go.Proofs.YtpndmanbfleadaaGreatDoor
end
section
namespace Go.Proofs.YtpndmanbfleadaaGreatDoor
open Go.Awp Go.Tx
open IntKind (i32)
open IntKind (i64)
set_option maxRecDepth 100000
def Le{α:Type}(x y:Option α):Prop:=∀a,x=some a->y=some a
theorem Le.refl{α:Type}(x:Option α):Le x x:=λ_ h=>h
theorem Le.none{α:Type}(x:Option α):Le none x:=λ_ h=>by cases h
theorem Le.bind{α β:Type}{x y:Option α}{f g:α->Option β}(h:Le x y)(h2:∀a,Le (f a) (g a)):Le (x>>=f) (y>>=g):=λb hb=>by
 cases x with
 |none=>cases hb
 |some a=>rw[h a rfl];exact h2 a b hb
theorem Le.ite{α:Type}{c:Prop}{d:Decidable c}{x y z w:Option α}(h:Le x y)(h2:Le z w):Le (@ite _ c d x z) (@ite _ c d y w):=by
 cases d with
 |isTrue h3=>exact h
 |isFalse h3=>exact h2
theorem Le.both{α:Type}{x y z w:Option α}(h:Le x y)(h2:Le z w):Le (both x z) (both y w):=λa ha=>by
 obtain⟨h3,h4⟩:=sR ha
 exact GV (h a h3) (h2 a h4)
noncomputable def lL(k:Nat)(v:Lk):Option (GN):=ej v.2>>=λx1=>if x1.2.1.length+v.1.size<=(4294967296:Nat)then some (((↑v.1.size:Int),x1.1,x1.2.1++Bs.ints v.1,()))else none
theorem rD(k:Nat)(v:Lk):Le (lL k v) (gc v):=by
 unfold lL gc
 with_reducible repeat' first|exact Le.refl _|exact Le.none _|apply Le.bind|apply Le.ite|apply Le.both|with_unfolding_all assumption|intro x
noncomputable def K9(k:Nat)(v:ByteArray×Unit):Option (Bool×Unit):=DK v>>=λx1=>some ((!x1.1,()))
theorem BN(k:Nat)(v:ByteArray×Unit):Le (K9 k v) (DJ v):=by
 unfold K9 DJ
 with_reducible repeat' first|exact Le.refl _|exact Le.none _|apply Le.bind|apply Le.ite|apply Le.both|with_unfolding_all assumption|intro x
noncomputable def iW:Nat->(List ByteArray)×Int×Int×Unit->Option (((Int×Unit)⊕(Unit)))|0,_=>none|k+1,v=>if decide (v.2.2.1<v.2.1)=true then if(0:Int)<=v.2.2.1 then v.1[v.2.2.1.toNat]?>>=λx1=>K9 k (x1,())>>=λx2=>if x2.1=true then some (Po v.2.2)else iW k (v.1,v.2.1,i64.wrap (v.2.2.1+(1:Int)),())else none else some (PD ())
theorem kQ:∀k v,Le (iW k v) (bv v)
 |0,_=>Le.none _
 |k+1,v=>by
  rw[iW,bv]
  with_reducible repeat' first|exact Le.refl _|exact Le.none _|exact BN _ _|exact kQ _ _|apply Le.bind|apply Le.ite|apply Le.both|with_unfolding_all assumption|intro x
noncomputable def rE(k:Nat)(v:(List ByteArray)×Unit):Option (Int×Unit):=iW k (v.1,(↑v.1.length:Int),(0:Int),())>>=λx1=>match x1 with| .inl y1=>some y1| .inr y1=>some (((-1:Int),()))
theorem vU(k:Nat)(v:(List ByteArray)×Unit):Le (rE k v) (fD v):=by
 unfold rE fD
 with_reducible repeat' first|exact Le.refl _|exact Le.none _|exact kQ _ _|apply Le.bind|apply Le.ite|apply Le.both|(rintro(x|x)<;>dsimp only)|with_unfolding_all assumption|intro x
noncomputable def xz:Nat->Tq6->Option (((Bool×Unit)⊕(Tag×Unit)))|0,_=>none|k+1,v=>if decide (v.2.2.1<v.2.1)=true then if(0:Int)<=v.2.2.1 then v.1[v.2.2.1.toNat]?>>=λx1=>if(Mp.get Mp.seq x1 v.2.2.2.2.1).getD false=true then some (Po (true,()))else xz k (v.1,v.2.1,i64.wrap (v.2.2.1+(1:Int)),v.2.2.2.1,Mp.set Mp.seq Mp.slt x1 true v.2.2.2.2.1,())else none else some (PD (v.2.2.2.1,()))
theorem t1:∀k v,Le (xz k v) (bU v)
 |0,_=>Le.none _
 |k+1,v=>by
  rw[xz,bU]
  with_reducible repeat' first|exact Le.refl _|exact Le.none _|exact t1 _ _|apply Le.bind|apply Le.ite|apply Le.both|with_unfolding_all assumption|intro x
mutual
noncomputable def ef:Nat->Tq4->Option (((Int×Unit)⊕(Unit)))|0,_=>none|k+1,v=>if decide (v.2.2.1<v.2.1)=true then if(0:Int)<=v.2.2.1 then v.1[v.2.2.1.toNat]?>>=λx1=>m_52 k (x1,())>>=λx2=>if x2.1=true then some (Po v.2.2)else ef k (v.1,v.2.1,i64.wrap (v.2.2.1+(1:Int)),())else none else some (PD ())
noncomputable def m_52:Nat->Tag×Unit->Option (Bool×Unit)|0,_=>none|k+1,v=>xz k (v.1.names,(↑v.1.names.length:Int),(0:Int),v.1,[],())>>=λx1=>match x1 with| .inl y1=>some y1| .inr y1=>m_78c52 k (y1.1.parts,())>>=λx2=>some (x2)
noncomputable def m_78c52:Nat->(List Tag)×Unit->Option (Bool×Unit)|0,_=>none|k+1,v=>m_104c52 k v>>=λx1=>some ((decide (x1.1>=(0:Int)),()))
noncomputable def m_104c52:Nat->(List Tag)×Unit->Option (Int×Unit)|0,_=>none|k+1,v=>ef k (v.1,(↑v.1.length:Int),(0:Int),())>>=λx1=>match x1 with| .inl y1=>some y1| .inr y1=>some (((-1:Int),()))
end
theorem rF(k:Nat)(h_104c52l2:∀v,Le (ef k v) (aO v))(h_52:∀v,Le (m_52 k v) (n_52 v))(v:Tq4):Le (ef (k+1) v) (aO v):=by
 rw[ef,aO]
 with_reducible repeat' first|exact Le.refl _|exact Le.none _|exact h_104c52l2 _|exact h_52 _|apply Le.bind|apply Le.ite|apply Le.both|with_unfolding_all assumption|intro x
theorem HK(k:Nat)(h_78c52:∀v,Le (m_78c52 k v) (n_78c52 v))(v:Tag×Unit):Le (m_52 (k+1) v) (n_52 v):=by
 rw[m_52,n_52]
 with_reducible repeat' first|exact Le.refl _|exact Le.none _|exact t1 _ _|exact h_78c52 _|apply Le.bind|apply Le.ite|apply Le.both|(rintro(x|x)<;>dsimp only)|with_unfolding_all assumption|intro x
theorem yV(k:Nat)(h_104c52:∀v,Le (m_104c52 k v) (n_104c52 v))(v:(List Tag)×Unit):Le (m_78c52 (k+1) v) (n_78c52 v):=by
 rw[m_78c52,n_78c52]
 with_reducible repeat' first|exact Le.refl _|exact Le.none _|exact h_104c52 _|apply Le.bind|apply Le.ite|apply Le.both|with_unfolding_all assumption|intro x
theorem vV(k:Nat)(h_104c52l2:∀v,Le (ef k v) (aO v))(v:(List Tag)×Unit):Le (m_104c52 (k+1) v) (n_104c52 v):=by
 rw[m_104c52,n_104c52]
 with_reducible repeat' first|exact Le.refl _|exact Le.none _|exact h_104c52l2 _|apply Le.bind|apply Le.ite|apply Le.both|(rintro(x|x)<;>dsimp only)|with_unfolding_all assumption|intro x
theorem jv:∀k,(∀v,Le (ef k v) (aO v))/\(∀v,Le (m_52 k v) (n_52 v))/\(∀v,Le (m_78c52 k v) (n_78c52 v))/\(∀v,Le (m_104c52 k v) (n_104c52 v))
 |0=>⟨λ_=>Le.none _,λ_=>Le.none _,λ_=>Le.none _,λ_=>Le.none _⟩
 |k+1=>by
  have h:=jv k
  exact⟨rF k (h.1) (h.2.1),HK k (h.2.2.1),yV k (h.2.2.2),vV k (h.1)⟩
theorem HJ(k:Nat)(v:Tag×Unit):Le (m_52 k v) (n_52 v):=have h:=jv k;h.2.1 v
noncomputable def vX(k:Nat)(v:(List ByteArray)×Unit):Option (Bool×Unit):=rE k v>>=λx1=>some ((decide (x1.1>=(0:Int)),()))
theorem yU(k:Nat)(v:(List ByteArray)×Unit):Le (vX k v) (fu v):=by
 unfold vX fu
 with_reducible repeat' first|exact Le.refl _|exact Le.none _|exact vU _ _|apply Le.bind|apply Le.ite|apply Le.both|with_unfolding_all assumption|intro x
mutual
noncomputable def eh:Nat->Tq4->Option (((Int×Unit)⊕(Unit)))|0,_=>none|k+1,v=>if decide (v.2.2.1<v.2.1)=true then if(0:Int)<=v.2.2.1 then v.1[v.2.2.1.toNat]?>>=λx1=>m_79 k (x1,())>>=λx2=>if x2.1=true then some (Po v.2.2)else eh k (v.1,v.2.1,i64.wrap (v.2.2.1+(1:Int)),())else none else some (PD ())
noncomputable def m_79:Nat->Tag×Unit->Option (Bool×Unit)|0,_=>none|k+1,v=>m_51 k v>>=λx1=>some ((!x1.1,()))
noncomputable def m_51:Nat->Tag×Unit->Option (Bool×Unit)|0,_=>none|k+1,v=>(if decide (v.1.kind<(0:Int))=true then some (true,v)else if decide (v.1.kind>(6:Int))=true then some (true,v)else if(v.1.kind !=(3:Int))=true then if(v.1.n !=(0:Int))=true then some (true,v)else if decide (v.1.n<(-9007199254740992:Int))=true then some (true,v)else if decide (v.1.n>(9007199254740992:Int))=true then some (true,v)else if(v.1.kind !=(4:Int))=true then if(!v.1.text.toList==(Oo #[]).toList)=true then some (true,v)else if decide (v.1.kind<(5:Int))=true then some ((decide ((↑v.1.parts.length:Int)>(0:Int)),v))else some (false,v)else if decide (v.1.kind<(5:Int))=true then some ((decide ((↑v.1.parts.length:Int)>(0:Int)),v))else some (false,v)else if decide (v.1.n<(-9007199254740992:Int))=true then some (true,v)else if decide (v.1.n>(9007199254740992:Int))=true then some (true,v)else if(v.1.kind !=(4:Int))=true then if(!v.1.text.toList==(Oo #[]).toList)=true then some (true,v)else if decide (v.1.kind<(5:Int))=true then some ((decide ((↑v.1.parts.length:Int)>(0:Int)),v))else some (false,v)else if decide (v.1.kind<(5:Int))=true then some ((decide ((↑v.1.parts.length:Int)>(0:Int)),v))else some (false,v))>>=λx1=>if x1.1=true then some ((false,()))else(if(x1.2.1.kind==(6:Int))=true then if((↑x1.2.1.names.length:Int) !=(↑x1.2.1.parts.length:Int))=true then some (true,x1.2)else if(x1.2.1.kind !=(6:Int))=true then some ((decide ((↑x1.2.1.names.length:Int)>(0:Int)),x1.2))else some (false,x1.2)else if(x1.2.1.kind !=(6:Int))=true then some ((decide ((↑x1.2.1.names.length:Int)>(0:Int)),x1.2))else some (false,x1.2))>>=λx2=>if x2.1=true then some ((false,()))else(K9 k (x2.2.1.text,())>>=λx3=>if(!x3.1)=true then vX k (x2.2.1.names,())>>=λx4=>if(!x4.1)=true then m_78c79 k (x2.2.1.parts,())>>=λx5=>some ((!x5.1,()))else some ((false,()))else some ((false,())))>>=λx3=>some (x3)
noncomputable def m_78c79:Nat->(List Tag)×Unit->Option (Bool×Unit)|0,_=>none|k+1,v=>m_104c79 k v>>=λx1=>some ((decide (x1.1>=(0:Int)),()))
noncomputable def m_104c79:Nat->(List Tag)×Unit->Option (Int×Unit)|0,_=>none|k+1,v=>eh k (v.1,(↑v.1.length:Int),(0:Int),())>>=λx1=>match x1 with| .inl y1=>some y1| .inr y1=>some (((-1:Int),()))
end
theorem rG(k:Nat)(h_104c79l2:∀v,Le (eh k v) (aF v))(h_79:∀v,Le (m_79 k v) (n_79 v))(v:Tq4):Le (eh (k+1) v) (aF v):=by
 rw[eh,aF]
 with_reducible repeat' first|exact Le.refl _|exact Le.none _|exact h_104c79l2 _|exact h_79 _|apply Le.bind|apply Le.ite|apply Le.both|with_unfolding_all assumption|intro x
theorem HN(k:Nat)(h_51:∀v,Le (m_51 k v) (n_51 v))(v:Tag×Unit):Le (m_79 (k+1) v) (n_79 v):=by
 rw[m_79,n_79]
 with_reducible repeat' first|exact Le.refl _|exact Le.none _|exact h_51 _|apply Le.bind|apply Le.ite|apply Le.both|with_unfolding_all assumption|intro x
theorem HI(k:Nat)(h_78c79:∀v,Le (m_78c79 k v) (n_78c79 v))(v:Tag×Unit):Le (m_51 (k+1) v) (n_51 v):=by
 rw[m_51,n_51]
 with_reducible repeat' first|exact Le.refl _|exact Le.none _|exact yU _ _|exact BN _ _|exact h_78c79 _|apply Le.bind|apply Le.ite|apply Le.both|with_unfolding_all assumption|intro x
theorem yW(k:Nat)(h_104c79:∀v,Le (m_104c79 k v) (n_104c79 v))(v:(List Tag)×Unit):Le (m_78c79 (k+1) v) (n_78c79 v):=by
 rw[m_78c79,n_78c79]
 with_reducible repeat' first|exact Le.refl _|exact Le.none _|exact h_104c79 _|apply Le.bind|apply Le.ite|apply Le.both|with_unfolding_all assumption|intro x
theorem vW(k:Nat)(h_104c79l2:∀v,Le (eh k v) (aF v))(v:(List Tag)×Unit):Le (m_104c79 (k+1) v) (n_104c79 v):=by
 rw[m_104c79,n_104c79]
 with_reducible repeat' first|exact Le.refl _|exact Le.none _|exact h_104c79l2 _|apply Le.bind|apply Le.ite|apply Le.both|(rintro(x|x)<;>dsimp only)|with_unfolding_all assumption|intro x
theorem jw:∀k,(∀v,Le (eh k v) (aF v))/\(∀v,Le (m_79 k v) (n_79 v))/\(∀v,Le (m_51 k v) (n_51 v))/\(∀v,Le (m_78c79 k v) (n_78c79 v))/\(∀v,Le (m_104c79 k v) (n_104c79 v))
 |0=>⟨λ_=>Le.none _,λ_=>Le.none _,λ_=>Le.none _,λ_=>Le.none _,λ_=>Le.none _⟩
 |k+1=>by
  have h:=jw k
  exact⟨rG k (h.1) (h.2.1),HN k (h.2.2.1),HI k (h.2.2.2.1),yW k (h.2.2.2.2),vW k (h.1)⟩
theorem HH(k:Nat)(v:Tag×Unit):Le (m_51 k v) (n_51 v):=have h:=jw k;h.2.2.1 v
noncomputable def En(k:Nat)(v:ByteArray×Int×Unit):Option (Int×Unit):=Er v>>=λx1=>some (x1)
theorem xw(k:Nat)(v:ByteArray×Int×Unit):Le (En k v) (v6 v):=by
 unfold En v6
 with_reducible repeat' first|exact Le.refl _|exact Le.none _|apply Le.bind|apply Le.ite|apply Le.both|with_unfolding_all assumption|intro x
noncomputable def aY(k:Nat)(v:ByteArray×aq×Unit):Option (Bool×aq×Unit):=(if(v.2.1.at0==(↑v.2.1.s.size:Int))=true then some (true,v.2)else if(0:Int)<=v.2.1.at0/\v.2.1.at0<=i64.wrap (v.2.1.at0+(1:Int))/\i64.wrap (v.2.1.at0+(1:Int))<=(↑v.2.1.s.size:Int)then Cb (v.1,v.2.1.s.extract v.2.1.at0.toNat (i64.wrap (v.2.1.at0+(1:Int))).toNat,())>>=λx1=>some (!x1.1,v.2)else none)>>=λx1=>if x1.1=true then some (false,x1.2)else some ((true,aq.mk x1.2.1.s (i64.wrap (x1.2.1.at0+(1:Int))),()))
theorem cb(k:Nat)(v:ByteArray×aq×Unit):Le (aY k v) (aM v):=by
 unfold aY aM
 with_reducible repeat' first|exact Le.refl _|exact Le.none _|apply Le.bind|apply Le.ite|apply Le.both|with_unfolding_all assumption|intro x
noncomputable def eY:Nat->M_->Option ((Int×aq×Unit))|0,_=>none|k+1,v=>if decide (v.2.2.2.1<v.2.2.1)=true then if(0:Int)<=v.2.2.2.1 then v.2.1[v.2.2.2.1.toNat]?>>=λx1=>En k (Oo #[48,49,50,51,52,53,54,55,56,57,97,98,99,100,101,102,65,66,67,68,69,70],x1,())>>=λx2=>eY k (i32.wrap (i32.wrap ((16:Int) *v.1)+i32.wrap x2.1),v.2.1,v.2.2.1,i64.wrap (v.2.2.2.1+(1:Int)),v.2.2.2.2)else none else some (v.1,v.2.2.2.2)
theorem gZ:∀k v,Le (eY k v) (cy v)
 |0,_=>Le.none _
 |k+1,v=>by
  rw[eY,cy]
  with_reducible repeat' first|exact Le.refl _|exact Le.none _|exact xw _ _|exact gZ _ _|apply Le.bind|apply Le.ite|apply Le.both|with_unfolding_all assumption|intro x
noncomputable def iX(k:Nat)(v:Lj):Option (KZ):=(aY k (v.1,v.2.2)>>=λx1=>if x1.1=true then some (Po (v.2.2.1.at0,Oo #[48,49,50,51,52,53,54,55,56,57,97,98,99,100,101,102,65,66,67,68,69,70],x1.2))else aY k (Oo #[100,68],x1.2)>>=λx2=>if x2.1=true then some (Po (v.2.2.1.at0,v.2.1,x2.2))else some (PD ((0:Int),false,x2.2)))>>=λx1=>match x1 with| .inl y1=>(aY k y1.2>>=λx2=>if(!x2.1)=true then some (y1.1,true,x2.2)else aY k (Oo #[48,49,50,51,52,53,54,55,56,57,97,98,99,100,101,102,65,66,67,68,69,70],x2.2)>>=λx3=>if(!x3.1)=true then some (y1.1,true,x3.2)else aY k (Oo #[48,49,50,51,52,53,54,55,56,57,97,98,99,100,101,102,65,66,67,68,69,70],x3.2)>>=λx4=>some (y1.1,!x4.1,x4.2))>>=λx2=>if x2.2.1=true then some (((0:Int),false,x2.2.2))else if(0:Int)<=x2.1/\x2.1<=x2.2.2.1.at0/\x2.2.2.1.at0<=(↑x2.2.2.1.s.size:Int)then Cc (x2.2.2.1.s.extract x2.1.toNat x2.2.2.1.at0.toNat,())>>=λx3=>eY k ((0:Int),Bs.ints x3.1,(↑(Bs.ints x3.1).length:Int),(0:Int),x2.2.2)>>=λx4=>some (x4.1,true,x4.2)else none| .inr y1=>some y1
theorem rH(k:Nat)(v:Lj):Le (iX k v) (fb v):=by
 unfold iX fb
 with_reducible repeat' first|exact Le.refl _|exact Le.none _|exact gZ _ _|exact cb _ _|apply Le.bind|apply Le.ite|apply Le.both|(rintro(x|x)<;>dsimp only)|with_unfolding_all assumption|intro x
noncomputable def lM(k:Nat)(v:Int×(List Int)×Unit):Option ((List Int)×Unit):=if decide (IntKind.u32.wrap v.1<=(127:Int))=true then if v.2.1.length+[IntKind.u8.wrap v.1].length<=(4294967296:Nat)then some ((v.2.1++[IntKind.u8.wrap v.1],()))else none else iZ v>>=λx1=>some (x1)
theorem rI(k:Nat)(v:Int×(List Int)×Unit):Le (lM k v) (gd v):=by
 unfold lM gd
 with_reducible repeat' first|exact Le.refl _|exact Le.none _|apply Le.bind|apply Le.ite|apply Le.both|with_unfolding_all assumption|intro x
noncomputable def xy:Nat->FT->Option ((FU))|0,_=>none|k+1,v=>if decide (v.2.2.1<v.2.1)=true then if(0:Int)<=v.2.2.1 then v.1[v.2.2.1.toNat]?>>=λx1=>xy k (v.1,v.2.1,i64.wrap (v.2.2.1+(1:Int)),v.2.2.2.1,v.2.2.2.2.1,cH.mk v.2.2.2.2.2.1.depth v.2.2.2.2.2.1.pieces (i64.wrap (v.2.2.2.2.2.1.bytes+(↑x1.size:Int))),())else none else some (v.2.2.2)
theorem tX:∀k v,Le (xy k v) (cD v)
 |0,_=>Le.none _
 |k+1,v=>by
  rw[xy,cD]
  with_reducible repeat' first|exact Le.refl _|exact Le.none _|exact tX _ _|apply Le.bind|apply Le.ite|apply Le.both|with_unfolding_all assumption|intro x
mutual
noncomputable def om:Nat->Ag->Option ((cH×cH×Unit))|0,_=>none|k+1,v=>if decide (v.2.2.1<v.2.1)=true then if(0:Int)<=v.2.2.1 then v.1[v.2.2.1.toNat]?>>=λx1=>m_42 k (x1,())>>=λx2=>om k (v.1,v.2.1,i64.wrap (v.2.2.1+(1:Int)),v.2.2.2.1,cH.mk (max v.2.2.2.2.1.depth x2.1.depth) (i64.wrap (v.2.2.2.2.1.pieces+x2.1.pieces)) (i64.wrap (v.2.2.2.2.1.bytes+x2.1.bytes)),())else none else some (v.2.2.2)
noncomputable def m_42:Nat->Tag×Unit->Option (cH×Unit)|0,_=>none|k+1,v=>xy k (v.1.names,(↑v.1.names.length:Int),(0:Int),v.1,cH.mk (0:Int) (0:Int) (0:Int),cH.mk (0:Int) (1:Int) (↑v.1.text.size:Int),())>>=λx1=>om k (x1.1.parts,(↑x1.1.parts.length:Int),(0:Int),x1.2)>>=λx2=>some ((cH.mk (i64.wrap (x2.2.1.depth+(1:Int))) x2.2.1.pieces x2.2.1.bytes,()))
end
theorem BM(k:Nat)(h_42:∀v,Le (m_42 k v) (n_42 v))(h_42l8:∀v,Le (om k v) (dV v))(v:Ag):Le (om (k+1) v) (dV v):=by
 rw[om,dV]
 with_reducible repeat' first|exact Le.refl _|exact Le.none _|exact h_42 _|exact h_42l8 _|apply Le.bind|apply Le.ite|apply Le.both|with_unfolding_all assumption|intro x
theorem HG(k:Nat)(h_42l8:∀v,Le (om k v) (dV v))(v:Tag×Unit):Le (m_42 (k+1) v) (n_42 v):=by
 rw[m_42,n_42]
 with_reducible repeat' first|exact Le.refl _|exact Le.none _|exact tX _ _|exact h_42l8 _|apply Le.bind|apply Le.ite|apply Le.both|with_unfolding_all assumption|intro x
theorem qB:∀k,(∀v,Le (om k v) (dV v))/\(∀v,Le (m_42 k v) (n_42 v))
 |0=>⟨λ_=>Le.none _,λ_=>Le.none _⟩
 |k+1=>by
  have h:=qB k
  exact⟨BM k (h.2) (h.1),HG k (h.1)⟩
theorem HF(k:Nat)(v:Tag×Unit):Le (m_42 k v) (n_42 v):=have h:=qB k;h.2 v
noncomputable def K8(k:Nat)(v:Tag×Unit):Option (Int×Unit):=m_42 k v>>=λx1=>(if decide (x1.1.depth>(20:Int))=true then some (true,v)else if decide (x1.1.pieces>(500:Int))=true then some (true,v)else some ((decide (x1.1.bytes>(4096:Int)),v)))>>=λx2=>if x2.1=true then some (((3:Int),()))else m_51 k x2.2>>=λx3=>if(!x3.1)=true then some (((1:Int),()))else m_52 k x2.2>>=λx4=>if x4.1=true then some (((5:Int),()))else some (((0:Int),()))
theorem BL(k:Nat)(v:Tag×Unit):Le (K8 k v) (oC v):=by
 unfold K8 oC
 with_reducible repeat' first|exact Le.refl _|exact Le.none _|exact HF _ _|exact HH _ _|exact HJ _ _|apply Le.bind|apply Le.ite|apply Le.both|with_unfolding_all assumption|intro x
mutual
noncomputable def dr:Nat->Tq3->Option ((Tq8))|0,_=>none|k+1,v=>if decide (v.2.2.1<v.2.1)=true then if(0:Int)<=v.2.2.1 then v.1[v.2.2.1.toNat]?>>=λx1=>m_31s06c9 k (x1,())>>=λx2=>if v.2.2.2.2.2.2.2.2.1.length+[Tag.mk x2.1 x2.2.1 x2.2.2.1 x2.2.2.2.1 x2.2.2.2.2.1].length<=(4294967296:Nat)then dr k (v.1,v.2.1,i64.wrap (v.2.2.1+(1:Int)),v.2.2.2.1,v.2.2.2.2.1,v.2.2.2.2.2.1,v.2.2.2.2.2.2.1,v.2.2.2.2.2.2.2.1,v.2.2.2.2.2.2.2.2.1++[Tag.mk x2.1 x2.2.1 x2.2.2.1 x2.2.2.2.1 x2.2.2.2.2.1],v.2.2.2.2.2.2.2.2.2)else none else none else some (v.2.2.2)
noncomputable def m_31s06c9:Nat->Tag×Unit->Option (FS)|0,_=>none|k+1,v=>cV (v.1.names,())>>=λx1=>dr k (v.1.parts,(↑v.1.parts.length:Int),(0:Int),v.1.kind,v.1.n,v.1.text,v.1.parts,Tag.mk (0:Int) (0:Int) (Oo #[]) [] [],[],x1)>>=λx2=>some ((x2.1,x2.2.1,x2.2.2.1,x2.2.2.2.2.2.2.1,x2.2.2.2.2.2.1,()))
end
theorem pQ(k:Nat)(h_31s06c9:∀v,Le (m_31s06c9 k v) (n_31s06c9 v))(h_31s06c9l4:∀v,Le (dr k v) (bB v))(v:Tq3):Le (dr (k+1) v) (bB v):=by
 rw[dr,bB]
 with_reducible repeat' first|exact Le.refl _|exact Le.none _|exact h_31s06c9 _|exact h_31s06c9l4 _|apply Le.bind|apply Le.ite|apply Le.both|with_unfolding_all assumption|intro x
theorem tV(k:Nat)(h_31s06c9l4:∀v,Le (dr k v) (bB v))(v:Tag×Unit):Le (m_31s06c9 (k+1) v) (n_31s06c9 v):=by
 rw[m_31s06c9,n_31s06c9]
 with_reducible repeat' first|exact Le.refl _|exact Le.none _|exact h_31s06c9l4 _|apply Le.bind|apply Le.ite|apply Le.both|with_unfolding_all assumption|intro x
theorem ig:∀k,(∀v,Le (dr k v) (bB v))/\(∀v,Le (m_31s06c9 k v) (n_31s06c9 v))
 |0=>⟨λ_=>Le.none _,λ_=>Le.none _⟩
 |k+1=>by
  have h:=ig k
  exact⟨pQ k (h.2) (h.1),tV k (h.1)⟩
theorem tU(k:Nat)(v:Tag×Unit):Le (m_31s06c9 k v) (n_31s06c9 v):=have h:=ig k;h.2 v
noncomputable def xA:Nat->M9->Option (((Int×Unit)⊕(Unit)))|0,_=>none|k+1,v=>if decide (v.2.2.2.1<v.2.2.1)=true then if(0:Int)<=v.2.2.2.1 then v.1[v.2.2.2.1.toNat]?>>=λx1=>if(v.2.1.toList==x1.toList)=true then some (Po v.2.2.2)else xA k (v.1,v.2.1,v.2.2.1,i64.wrap (v.2.2.2.1+(1:Int)),())else none else some (PD ())
theorem t6:∀k v,Le (xA k v) (jB v)
 |0,_=>Le.none _
 |k+1,v=>by
  rw[xA,jB]
  with_reducible repeat' first|exact Le.refl _|exact Le.none _|exact t6 _ _|apply Le.bind|apply Le.ite|apply Le.both|with_unfolding_all assumption|intro x
noncomputable def Ma(k:Nat)(v:(List ByteArray)×ByteArray×Unit):Option (Int×Unit):=xA k (v.1,v.2.1,(↑v.1.length:Int),(0:Int),())>>=λx1=>match x1 with| .inl y1=>some y1| .inr y1=>some (((-1:Int),()))
theorem HM(k:Nat)(v:(List ByteArray)×ByteArray×Unit):Le (Ma k v) (Eu v):=by
 unfold Ma Eu
 with_reducible repeat' first|exact Le.refl _|exact Le.none _|exact t6 _ _|apply Le.bind|apply Le.ite|apply Le.both|(rintro(x|x)<;>dsimp only)|with_unfolding_all assumption|intro x
noncomputable def L_(k:Nat)(v:Tag×ByteArray×Unit):Option (Int×Unit):=if(v.1.kind==(6:Int))=true then Ma k (v.1.names,v.2)>>=λx1=>some (x1)else Ko v.2>>=λx1=>(if(v.1.kind !=(5:Int))=true then some ((x1.1,true,()))else if x1.2.1=true then some ((x1.1,true,()))else if decide (x1.1<(0:Int))=true then some ((x1.1,true,()))else if decide (x1.1>(↑v.1.parts.length:Int))=true then some ((x1.1,true,()))else Kp (x1.1,())>>=λx2=>some ((x1.1,!x2.1.toList==v.2.1.toList,())))>>=λx2=>if x2.2.1=true then some (((-1:Int),()))else some ((x2.1,()))
theorem HE(k:Nat)(v:Tag×ByteArray×Unit):Le (L_ k v) (Kn v):=by
 unfold L_ Kn
 with_reducible repeat' first|exact Le.refl _|exact Le.none _|exact HM _ _|apply Le.bind|apply Le.ite|apply Le.both|with_unfolding_all assumption|intro x
noncomputable def xx:Nat->M8->Option (((Bool×Tag×Unit)⊕(Tag×Tag×Unit)))|0,_=>none|k+1,v=>if decide (v.2.2.1<v.2.1)=true then if(0:Int)<=v.2.2.1 then v.1[v.2.2.1.toNat]?>>=λx1=>L_ k (v.2.2.2.1,x1,())>>=λx2=>(if decide (x2.1<(0:Int))=true then some (x2.1,v.1,v.2.1,v.2.2.1,true,v.2.2.2)else some ((x2.1,v.1,v.2.1,v.2.2.1,decide (x2.1>=(↑v.2.2.2.1.parts.length:Int)),v.2.2.2)))>>=λx3=>if x3.2.2.2.2.1=true then some (Po (false,Tag.mk (0:Int) (0:Int) (Oo #[]) [] [],()))else if(0:Int)<=x3.1 then x3.2.2.2.2.2.1.parts[x3.1.toNat]?>>=λx4=>xx k (x3.2.1,x3.2.2.1,i64.wrap (x3.2.2.2.1+(1:Int)),x4,x3.2.2.2.2.2.2)else none else none else some (PD v.2.2.2)
theorem tW:∀k v,Le (xx k v) (oE v)
 |0,_=>Le.none _
 |k+1,v=>by
  rw[xx,oE]
  with_reducible repeat' first|exact Le.refl _|exact Le.none _|exact HE _ _|exact tW _ _|apply Le.bind|apply Le.ite|apply Le.both|with_unfolding_all assumption|intro x
noncomputable def L9(k:Nat)(v:Tag×(List ByteArray)×Unit):Option (Bool×Tag×Unit):=xx k (v.2.1,(↑v.2.1.length:Int),(0:Int),v.1,Tag.mk (0:Int) (0:Int) (Oo #[]) [] [],())>>=λx1=>match x1 with| .inl y1=>some y1| .inr y1=>some ((true,y1.1,()))
theorem HD(k:Nat)(v:Tag×(List ByteArray)×Unit):Le (L9 k v) (Km v):=by
 unfold L9 Km
 with_reducible repeat' first|exact Le.refl _|exact Le.none _|exact tW _ _|apply Le.bind|apply Le.ite|apply Le.both|(rintro(x|x)<;>dsimp only)|with_unfolding_all assumption|intro x
noncomputable def L8(k:Nat)(v:Tag×(List ByteArray)×Unit):Option (Bool×Int×Tag×Unit):=K8 k (v.1,())>>=λx1=>if(x1.1 !=(0:Int))=true then some ((false,x1.1,Tag.mk (0:Int) (0:Int) (Oo #[]) [] [],()))else L9 k v>>=λx2=>m_31s06c9 k x2.2>>=λx3=>some ((x2.1,(0:Int),Tag.mk x3.1 x3.2.1 x3.2.2.1 x3.2.2.2.1 x3.2.2.2.2.1,()))
theorem HB(k:Nat)(v:Tag×(List ByteArray)×Unit):Le (L8 k v) (Kl v):=by
 unfold L8 Kl
 with_reducible repeat' first|exact Le.refl _|exact Le.none _|exact HD _ _|exact tU _ _|exact BL _ _|apply Le.bind|apply Le.ite|apply Le.both|with_unfolding_all assumption|intro x
noncomputable def gE:Nat->aq×Unit->Option ((aq×Unit))|0,_=>none|k+1,v=>aY k (Oo #[32,10,9,13],v)>>=λx1=>if x1.1=true then gE k x1.2 else some (x1.2)
theorem jx:∀k v,Le (gE k v) (dw v)
 |0,_=>Le.none _
 |k+1,v=>by
  rw[gE,dw]
  with_reducible repeat' first|exact Le.refl _|exact Le.none _|exact cb _ _|exact jx _ _|apply Le.bind|apply Le.ite|apply Le.both|with_unfolding_all assumption|intro x
noncomputable def ca(k:Nat)(v:aq×Unit):Option (aq×Unit):=gE k v>>=λx1=>some (x1)
theorem dH(k:Nat)(v:aq×Unit):Le (ca k v) (bt v):=by
 unfold ca bt
 with_reducible repeat' first|exact Le.refl _|exact Le.none _|exact jx _ _|apply Le.bind|apply Le.ite|apply Le.both|with_unfolding_all assumption|intro x
noncomputable def gF:Nat->Nb->Option (((Bool×aq×Unit)⊕(aq×Unit)))|0,_=>none|k+1,v=>if decide (v.2.2.1<v.2.1)=true then if(0:Int)<=v.2.2.1/\v.2.2.1<=i64.wrap (v.2.2.1+(1:Int))/\i64.wrap (v.2.2.1+(1:Int))<=(↑v.1.size:Int)then aY k (v.1.extract v.2.2.1.toNat (i64.wrap (v.2.2.1+(1:Int))).toNat,v.2.2.2)>>=λx1=>if(!x1.1)=true then some (Po (false,x1.2))else gF k (v.1,v.2.1,i64.wrap (v.2.2.1+(1:Int)),x1.2)else none else some (PD v.2.2.2)
theorem jy:∀k v,Le (gF k v) (dz v)
 |0,_=>Le.none _
 |k+1,v=>by
  rw[gF,dz]
  with_reducible repeat' first|exact Le.refl _|exact Le.none _|exact cb _ _|exact jy _ _|apply Le.bind|apply Le.ite|apply Le.both|with_unfolding_all assumption|intro x
noncomputable def fY(k:Nat)(v:ByteArray×aq×Unit):Option (Bool×aq×Unit):=gF k (v.1,(↑v.1.size:Int),(0:Int),v.2)>>=λx1=>match x1 with| .inl y1=>some y1| .inr y1=>some (true,y1)
theorem mv(k:Nat)(v:ByteArray×aq×Unit):Le (fY k v) (dW v):=by
 unfold fY dW
 with_reducible repeat' first|exact Le.refl _|exact Le.none _|exact jy _ _|apply Le.bind|apply Le.ite|apply Le.both|(rintro(x|x)<;>dsimp only)|with_unfolding_all assumption|intro x
noncomputable def gG:Nat->KX->Option ((KX))|0,_=>none|k+1,v=>(aU (v.2.2.1,())>>=λx1=>if decide (x1.1>=(48:Int))=true then aU x1.2>>=λx2=>some ((v.1,v.2.1,decide (x2.1<=(57:Int)),x2.2.1,v.2.2.2))else some (v.1,v.2.1,false,x1.2.1,v.2.2.2))>>=λx1=>if x1.2.2.1=true then aU (x1.2.2.2.1,())>>=λx2=>gG k (x1.1,min (i64.wrap (i64.wrap ((10:Int) *x1.2.1)+i64.wrap (IntKind.u8.wrap (x2.1-(48:Int))))) (576460752303423488:Int),aq.mk x2.2.1.s (i64.wrap (x2.2.1.at0+(1:Int))),x1.2.2.2.2)else some (x1.1,x1.2.1,x1.2.2.2)
theorem jz:∀k v,Le (gG k v) (dA v)
 |0,_=>Le.none _
 |k+1,v=>by
  rw[gG,dA]
  with_reducible repeat' first|exact Le.refl _|exact Le.none _|exact jz _ _|apply Le.bind|apply Le.ite|apply Le.both|with_unfolding_all assumption|intro x
noncomputable def oq(k:Nat)(v:aq×Unit):Option (Tq2):=aY k (Oo #[45],v)>>=λx1=>(aY k (Oo #[48],x1.2)>>=λx2=>if x2.1=true then some (Po (x1.1,(0:Int),x2.2.1,Tag.mk (0:Int) (0:Int) (Oo #[]) [] [],()))else(aU x2.2>>=λx3=>if decide (x3.1>=(49:Int))=true then aU x3.2>>=λx4=>some ((x1.1,(0:Int),decide (x4.1<=(57:Int)),x4.2.1,Tag.mk (0:Int) (0:Int) (Oo #[]) [] [],()))else some ((x1.1,(0:Int),false,x3.2.1,Tag.mk (0:Int) (0:Int) (Oo #[]) [] [],())))>>=λx3=>if x3.2.2.1=true then gG k (x3.1,x3.2.1,x3.2.2.2)>>=λx4=>some (Po x4)else some (PD (false,x3.2.2.2.1,Tag.mk (0:Int) (0:Int) (Oo #[]) [] [],())))>>=λx2=>match x2 with| .inl y2=>(if y2.1=true then some ((i64.wrap ((0:Int) -y2.2.1),y2.2.2))else some (y2.2))>>=λx3=>some ((true,x3.2.1,Tag.mk (3:Int) x3.1 (Oo #[]) [] [],()))| .inr y2=>some y2
theorem t7(k:Nat)(v:aq×Unit):Le (oq k v) (iA v):=by
 unfold oq iA
 with_reducible repeat' first|exact Le.refl _|exact Le.none _|exact jz _ _|exact cb _ _|apply Le.bind|apply Le.ite|apply Le.both|(rintro(x|x)<;>dsimp only)|with_unfolding_all assumption|intro x
noncomputable def ou(k:Nat)(v:aq×Unit):Option (KZ):=aU v>>=λx1=>En k (Oo #[34,92,47,98,102,110,114,116],x1.1,())>>=λx2=>(if decide (x1.2.1.at0<(↑x1.2.1.s.size:Int))=true then some ((x2.1,decide (x2.1>=(0:Int)),x1.2))else some (x2.1,false,x1.2))>>=λx3=>if x3.2.1=true then if(0:Int)<=x3.1 then(Oo #[34,92,47,8,12,10,13,9])[x3.1.toNat]?>>=λx4=>some ((i32.wrap (↑x4.toNat:Int),true,aq.mk x3.2.2.1.s (i64.wrap (x3.2.2.1.at0+(1:Int))),()))else none else aY k (Oo #[117],x3.2.2)>>=λx4=>if(!x4.1)=true then some (((0:Int),false,x4.2))else iX k (Oo #[48,49,50,51,52,53,54,55,56,57,97,98,99,101,102,65,66,67,69,70],Oo #[48,49,50,51,52,53,54,55,56,57,97,98,65,66],x4.2)>>=λx5=>(if(!x5.2.1)=true then some (x5.1,x5.2.1,true,x5.2.2)else if decide (x5.1<(55296:Int))=true then some (x5.1,x5.2.1,true,x5.2.2)else some ((x5.1,x5.2.1,decide (x5.1>=(56320:Int)),x5.2.2)))>>=λx6=>if x6.2.2.1=true then some (x6.1,x6.2.1,x6.2.2.2)else fY k (Oo #[92,117],x6.2.2.2)>>=λx7=>if(!x7.1)=true then some (((0:Int),false,x7.2))else iX k (Oo #[],Oo #[99,100,101,102,67,68,69,70],x7.2)>>=λx8=>some ((i32.wrap (i32.wrap (i32.wrap ((65536:Int)+Bs.ishl i32 (i32.wrap (x6.1-(55296:Int))) (10:Int))+x8.1) -(56320:Int)),x8.2))
theorem ua(k:Nat)(v:aq×Unit):Le (ou k v) (iC v):=by
 unfold ou iC
 with_reducible repeat' first|exact Le.refl _|exact Le.none _|exact xw _ _|exact cb _ _|exact rH _ _|exact mv _ _|apply Le.bind|apply Le.ite|apply Le.both|with_unfolding_all assumption|intro x
noncomputable def ov(k:Nat)(v:GN):Option (GN):=ej v.2>>=λx1=>lM k (v.1,x1.2)>>=λx2=>some ((i64.wrap ((↑x2.1.length:Int) -(↑x1.2.1.length:Int)),x1.1,x2))
theorem ub(k:Nat)(v:GN):Le (ov k v) (iD v):=by
 unfold ov iD
 with_reducible repeat' first|exact Le.refl _|exact Le.none _|exact rI _ _|apply Le.bind|apply Le.ite|apply Le.both|with_unfolding_all assumption|intro x
noncomputable def fC:Nat->Na->Option (((Bool×aq×Unit)⊕(aq×Unit)))|0,_=>none|k+1,v=>if decide (v.2.2.2.1<v.2.2.1)=true then iY (v.1,v.2.1,v.2.2.2.2)>>=λx1=>if(!x1.1)=true then some (Po (false,x1.2))else fC k ((128:Int),(191:Int),v.2.2.1,i64.wrap (v.2.2.2.1+(1:Int)),x1.2)else some (PD v.2.2.2.2)
theorem im:∀k v,Le (fC k v) (cX v)
 |0,_=>Le.none _
 |k+1,v=>by
  rw[fC,cX]
  with_reducible repeat' first|exact Le.refl _|exact Le.none _|exact im _ _|apply Le.bind|apply Le.ite|apply Le.both|with_unfolding_all assumption|intro x
noncomputable def ow(k:Nat)(v:aq×Unit):Option (Bool×aq×Unit):=if(0:Int)<=v.1.at0 then v.1.s[v.1.at0.toNat]?>>=λx1=>(if decide ((↑x1.toNat:Int)<(128:Int))=true then some (Po ((↑x1.toNat:Int),(128:Int),(191:Int),(0:Int),v))else(if decide ((↑x1.toNat:Int)<(194:Int))=true then some (((↑x1.toNat:Int),(128:Int),(191:Int),true,v))else some (((↑x1.toNat:Int),(128:Int),(191:Int),decide ((↑x1.toNat:Int)>(244:Int)),v)))>>=λx2=>if x2.2.2.2.1=true then some (PD (false,x2.2.2.2.2))else if decide (x2.1<(224:Int))=true then some (Po (x2.1,x2.2.1,x2.2.2.1,(1:Int),x2.2.2.2.2))else if decide (x2.1<(240:Int))=true then some (Po (x2.1,x2.2.1,x2.2.2.1,(2:Int),x2.2.2.2.2))else some (Po (x2.1,x2.2.1,x2.2.2.1,(3:Int),x2.2.2.2.2)))>>=λx2=>match x2 with| .inl y2=>(if(y2.1==(224:Int))=true then some (((160:Int),y2.2.2))else if(y2.1==(237:Int))=true then some ((y2.2.1,(159:Int),y2.2.2.2))else if(y2.1==(240:Int))=true then some (((144:Int),y2.2.2))else if(y2.1==(244:Int))=true then some ((y2.2.1,(143:Int),y2.2.2.2))else some (y2.2))>>=λx3=>fC k (x3.1,x3.2.1,x3.2.2.1,(0:Int),aq.mk x3.2.2.2.1.s (i64.wrap (x3.2.2.2.1.at0+(1:Int))),())>>=λx4=>(match x4 with| .inl y4=>some y4| .inr y4=>some (true,y4))| .inr y2=>some y2 else none
theorem uc(k:Nat)(v:aq×Unit):Le (ow k v) (iE v):=by
 unfold ow iE
 with_reducible repeat' first|exact Le.refl _|exact Le.none _|exact im _ _|apply Le.bind|apply Le.ite|apply Le.both|(rintro(x|x)<;>dsimp only)|with_unfolding_all assumption|intro x
noncomputable def fq:Nat->aq×Bool×(List Int)×Unit->Option ((KY))|0,_=>none|k+1,v=>aU (v.1,())>>=λx1=>if(x1.1==(34:Int))=true then kX v.2>>=λx2=>some ((x2.1,true,aq.mk x1.2.1.s (i64.wrap (x1.2.1.at0+(1:Int))),()))else if decide (x1.1<(32:Int))=true then some (Oo #[],false,x1.2)else if(x1.1==(92:Int))=true then ou k (aq.mk x1.2.1.s (i64.wrap (x1.2.1.at0+(1:Int))),())>>=λx2=>if(!x2.2.1)=true then some (Oo #[],false,x2.2.2)else ov k (x2.1,v.2)>>=λx3=>fq k (x2.2.2.1,x3.2)else ow k x1.2>>=λx2=>if(!x2.1)=true then some (Oo #[],false,x2.2)else if(0:Int)<=x1.2.1.at0/\x1.2.1.at0<=x2.2.1.at0/\x2.2.1.at0<=(↑x2.2.1.s.size:Int)then lL k (x2.2.1.s.extract x1.2.1.at0.toNat x2.2.1.at0.toNat,v.2)>>=λx3=>fq k (x2.2.1,x3.2)else none
theorem jA:∀k v,Le (fq k v) (cW v)
 |0,_=>Le.none _
 |k+1,v=>by
  rw[fq,cW]
  with_reducible repeat' first|exact Le.refl _|exact Le.none _|exact ua _ _|exact uc _ _|exact rD _ _|exact ub _ _|exact jA _ _|apply Le.bind|apply Le.ite|apply Le.both|with_unfolding_all assumption|intro x
noncomputable def ij(k:Nat)(v:aq×Unit):Option (KY):=some (v.1,false,[],())>>=λx1=>fq k (aq.mk x1.1.s (i64.wrap (x1.1.at0+(1:Int))),x1.2)>>=λx2=>some x2
theorem il(k:Nat)(v:aq×Unit):Le (ij k v) (eI v):=by
 unfold ij eI
 with_reducible repeat' first|exact Le.refl _|exact Le.none _|exact jA _ _|apply Le.bind|apply Le.ite|apply Le.both|with_unfolding_all assumption|intro x
mutual
noncomputable def ck:Nat->aq×Unit->Option (Tq2)|0,_=>none|k+1,v=>ca k v>>=λx1=>aU x1>>=λx2=>if(x2.1==(110:Int))=true then fY k (Oo #[110,117,108,108],x2.2)>>=λx3=>some ((x3.1,x3.2.1,Tag.mk (0:Int) (0:Int) (Oo #[]) [] [],()))else if(x2.1==(102:Int))=true then fY k (Oo #[102,97,108,115,101],x2.2)>>=λx3=>some ((x3.1,x3.2.1,Tag.mk (1:Int) (0:Int) (Oo #[]) [] [],()))else if(x2.1==(116:Int))=true then fY k (Oo #[116,114,117,101],x2.2)>>=λx3=>some ((x3.1,x3.2.1,Tag.mk (2:Int) (0:Int) (Oo #[]) [] [],()))else(if(x2.1==(45:Int))=true then some ((x2.1,true,x2.2.1,Tag.mk (0:Int) (0:Int) (Oo #[]) [] [],()))else if decide (x2.1>=(48:Int))=true then some ((x2.1,decide (x2.1<=(57:Int)),x2.2.1,Tag.mk (0:Int) (0:Int) (Oo #[]) [] [],()))else some ((x2.1,false,x2.2.1,Tag.mk (0:Int) (0:Int) (Oo #[]) [] [],())))>>=λx3=>if x3.2.1=true then oq k (x3.2.2.1,())>>=λx4=>some (x4)else if(x3.1==(34:Int))=true then ij k (x3.2.2.1,())>>=λx4=>some ((x4.2.1,x4.2.2.1,Tag.mk (4:Int) (0:Int) x4.1 [] [],()))else if(x3.1==(91:Int))=true then m_72s0e1d k (x3.2.2.1,())>>=λx4=>some (x4)else if(x3.1==(123:Int))=true then m_73s0e1d k (x3.2.2.1,())>>=λx4=>some (x4)else some ((false,x3.2.2.1,Tag.mk (0:Int) (0:Int) (Oo #[]) [] [],()))
noncomputable def m_73s0e1d:Nat->aq×Unit->Option (Tq2)|0,_=>none|k+1,v=>some (v.1,Tag.mk (0:Int) (0:Int) (Oo #[]) [] [],(6:Int),(0:Int),Oo #[],[],[],())>>=λx1=>ca k (aq.mk x1.1.s (i64.wrap (x1.1.at0+(1:Int))),())>>=λx2=>aY k (Oo #[125],x2)>>=λx3=>if x3.1=true then some ((true,x3.2.1,Tag.mk x1.2.2.1 x1.2.2.2.1 x1.2.2.2.2.1 x1.2.2.2.2.2.1 x1.2.2.2.2.2.2.1,()))else ca k x3.2>>=λx4=>aU x4>>=λx5=>if(x5.1 !=(34:Int))=true then some ((false,x5.2.1,Tag.mk (0:Int) (0:Int) (Oo #[]) [] [],()))else ij k x5.2>>=λx6=>if(!x6.2.1)=true then some ((false,x6.2.2.1,Tag.mk (0:Int) (0:Int) (Oo #[]) [] [],()))else ca k x6.2.2>>=λx7=>aY k (Oo #[58],x7)>>=λx8=>if(!x8.1)=true then some ((false,x8.2.1,Tag.mk (0:Int) (0:Int) (Oo #[]) [] [],()))else ck k x8.2>>=λx9=>if(!x9.1)=true then some ((false,x9.2.1,Tag.mk (0:Int) (0:Int) (Oo #[]) [] [],()))else if x1.2.2.2.2.2.1.length+[x6.1].length<=(4294967296:Nat)then if x1.2.2.2.2.2.2.1.length+[x9.2.2.1].length<=(4294967296:Nat)then ca k (x9.2.1,())>>=λx10=>aY k (Oo #[44],x10)>>=λx11=>if x11.1=true then m_73s0e1dg1 k (x11.2.1,x1.2.1,x1.2.2.1,x1.2.2.2.1,x1.2.2.2.2.1,x1.2.2.2.2.2.1++[x6.1],x1.2.2.2.2.2.2.1++[x9.2.2.1],())>>=λx12=>some x12 else aY k (Oo #[125],x11.2)>>=λx12=>some ((x12.1,x12.2.1,Tag.mk x1.2.2.1 x1.2.2.2.1 x1.2.2.2.2.1 (x1.2.2.2.2.2.1++[x6.1]) (x1.2.2.2.2.2.2.1++[x9.2.2.1]),()))else none else none
noncomputable def m_73s0e1dg1:Nat->Tq1->Option ((Tq2))|0,_=>none|k+1,v=>ca k (v.1,())>>=λx1=>aU x1>>=λx2=>if(x2.1 !=(34:Int))=true then some ((false,x2.2.1,Tag.mk (0:Int) (0:Int) (Oo #[]) [] [],()))else ij k x2.2>>=λx3=>if(!x3.2.1)=true then some ((false,x3.2.2.1,Tag.mk (0:Int) (0:Int) (Oo #[]) [] [],()))else ca k x3.2.2>>=λx4=>aY k (Oo #[58],x4)>>=λx5=>if(!x5.1)=true then some ((false,x5.2.1,Tag.mk (0:Int) (0:Int) (Oo #[]) [] [],()))else ck k x5.2>>=λx6=>if(!x6.1)=true then some ((false,x6.2.1,Tag.mk (0:Int) (0:Int) (Oo #[]) [] [],()))else if v.2.2.2.2.2.1.length+[x3.1].length<=(4294967296:Nat)then if v.2.2.2.2.2.2.1.length+[x6.2.2.1].length<=(4294967296:Nat)then ca k (x6.2.1,())>>=λx7=>aY k (Oo #[44],x7)>>=λx8=>if x8.1=true then m_73s0e1dg1 k (x8.2.1,v.2.1,v.2.2.1,v.2.2.2.1,v.2.2.2.2.1,v.2.2.2.2.2.1++[x3.1],v.2.2.2.2.2.2.1++[x6.2.2.1],())else aY k (Oo #[125],x8.2)>>=λx9=>some ((x9.1,x9.2.1,Tag.mk v.2.2.1 v.2.2.2.1 v.2.2.2.2.1 (v.2.2.2.2.2.1++[x3.1]) (v.2.2.2.2.2.2.1++[x6.2.2.1]),()))else none else none
noncomputable def m_72s0e1d:Nat->aq×Unit->Option (Tq2)|0,_=>none|k+1,v=>some (v.1,Tag.mk (0:Int) (0:Int) (Oo #[]) [] [],(5:Int),(0:Int),Oo #[],[],[],())>>=λx1=>ca k (aq.mk x1.1.s (i64.wrap (x1.1.at0+(1:Int))),())>>=λx2=>aY k (Oo #[93],x2)>>=λx3=>if x3.1=true then some ((true,x3.2.1,Tag.mk x1.2.2.1 x1.2.2.2.1 x1.2.2.2.2.1 x1.2.2.2.2.2.1 x1.2.2.2.2.2.2.1,()))else ck k x3.2>>=λx4=>if(!x4.1)=true then some ((false,x4.2.1,Tag.mk (0:Int) (0:Int) (Oo #[]) [] [],()))else if x1.2.2.2.2.2.2.1.length+[x4.2.2.1].length<=(4294967296:Nat)then ca k (x4.2.1,())>>=λx5=>aY k (Oo #[44],x5)>>=λx6=>if x6.1=true then m_72s0e1dg1 k (x6.2.1,x1.2.1,x1.2.2.1,x1.2.2.2.1,x1.2.2.2.2.1,x1.2.2.2.2.2.1,x1.2.2.2.2.2.2.1++[x4.2.2.1],())>>=λx7=>some x7 else aY k (Oo #[93],x6.2)>>=λx7=>some ((x7.1,x7.2.1,Tag.mk x1.2.2.1 x1.2.2.2.1 x1.2.2.2.2.1 x1.2.2.2.2.2.1 (x1.2.2.2.2.2.2.1++[x4.2.2.1]),()))else none
noncomputable def m_72s0e1dg1:Nat->Tq1->Option ((Tq2))|0,_=>none|k+1,v=>ck k (v.1,())>>=λx1=>if(!x1.1)=true then some ((false,x1.2.1,Tag.mk (0:Int) (0:Int) (Oo #[]) [] [],()))else if v.2.2.2.2.2.2.1.length+[x1.2.2.1].length<=(4294967296:Nat)then ca k (x1.2.1,())>>=λx2=>aY k (Oo #[44],x2)>>=λx3=>if x3.1=true then m_72s0e1dg1 k (x3.2.1,v.2.1,v.2.2.1,v.2.2.2.1,v.2.2.2.2.1,v.2.2.2.2.2.1,v.2.2.2.2.2.2.1++[x1.2.2.1],())else aY k (Oo #[93],x3.2)>>=λx4=>some ((x4.1,x4.2.1,Tag.mk v.2.2.1 v.2.2.2.1 v.2.2.2.2.1 v.2.2.2.2.2.1 (v.2.2.2.2.2.2.1++[x1.2.2.1]),()))else none
end
theorem tZ(k:Nat)(h_72s0e1d:∀v,Le (m_72s0e1d k v) (n_72s0e1d v))(h_73s0e1d:∀v,Le (m_73s0e1d k v) (n_73s0e1d v))(v:aq×Unit):Le (ck (k+1) v) (aR v):=by
 rw[ck,aR]
 with_reducible repeat' first|exact Le.refl _|exact Le.none _|exact il _ _|exact t7 _ _|exact dH _ _|exact mv _ _|exact h_72s0e1d _|exact h_73s0e1d _|apply Le.bind|apply Le.ite|apply Le.both|with_unfolding_all assumption|intro x
theorem t_(k:Nat)(h_49s0e1d:∀v,Le (ck k v) (aR v))(h_73s0e1dg1:∀v,Le (m_73s0e1dg1 k v) (n_73s0e1dg1 v))(v:aq×Unit):Le (m_73s0e1d (k+1) v) (n_73s0e1d v):=by
 rw[m_73s0e1d,n_73s0e1d]
 with_reducible repeat' first|exact Le.refl _|exact Le.none _|exact il _ _|exact cb _ _|exact dH _ _|exact h_49s0e1d _|exact h_73s0e1dg1 _|apply Le.bind|apply Le.ite|apply Le.both|with_unfolding_all assumption|intro x
theorem pS(k:Nat)(h_49s0e1d:∀v,Le (ck k v) (aR v))(h_73s0e1dg1:∀v,Le (m_73s0e1dg1 k v) (n_73s0e1dg1 v))(v:Tq1):Le (m_73s0e1dg1 (k+1) v) (n_73s0e1dg1 v):=by
 rw[m_73s0e1dg1,n_73s0e1dg1]
 with_reducible repeat' first|exact Le.refl _|exact Le.none _|exact il _ _|exact cb _ _|exact dH _ _|exact h_49s0e1d _|exact h_73s0e1dg1 _|apply Le.bind|apply Le.ite|apply Le.both|with_unfolding_all assumption|intro x
theorem t8(k:Nat)(h_49s0e1d:∀v,Le (ck k v) (aR v))(h_72s0e1dg1:∀v,Le (m_72s0e1dg1 k v) (n_72s0e1dg1 v))(v:aq×Unit):Le (m_72s0e1d (k+1) v) (n_72s0e1d v):=by
 rw[m_72s0e1d,n_72s0e1d]
 with_reducible repeat' first|exact Le.refl _|exact Le.none _|exact cb _ _|exact dH _ _|exact h_49s0e1d _|exact h_72s0e1dg1 _|apply Le.bind|apply Le.ite|apply Le.both|with_unfolding_all assumption|intro x
theorem pR(k:Nat)(h_49s0e1d:∀v,Le (ck k v) (aR v))(h_72s0e1dg1:∀v,Le (m_72s0e1dg1 k v) (n_72s0e1dg1 v))(v:Tq1):Le (m_72s0e1dg1 (k+1) v) (n_72s0e1dg1 v):=by
 rw[m_72s0e1dg1,n_72s0e1dg1]
 with_reducible repeat' first|exact Le.refl _|exact Le.none _|exact cb _ _|exact dH _ _|exact h_49s0e1d _|exact h_72s0e1dg1 _|apply Le.bind|apply Le.ite|apply Le.both|with_unfolding_all assumption|intro x
theorem kR:∀k,(∀v,Le (ck k v) (aR v))/\(∀v,Le (m_73s0e1d k v) (n_73s0e1d v))/\(∀v,Le (m_73s0e1dg1 k v) (n_73s0e1dg1 v))/\(∀v,Le (m_72s0e1d k v) (n_72s0e1d v))/\(∀v,Le (m_72s0e1dg1 k v) (n_72s0e1dg1 v))
 |0=>⟨λ_=>Le.none _,λ_=>Le.none _,λ_=>Le.none _,λ_=>Le.none _,λ_=>Le.none _⟩
 |k+1=>by
  have h:=kR k
  exact⟨tZ k (h.2.2.2.1) (h.2.1),t_ k (h.1) (h.2.2.1),pS k (h.1) (h.2.2.1),t8 k (h.1) (h.2.2.2.2),pR k (h.1) (h.2.2.2.2)⟩
theorem tY(k:Nat)(v:aq×Unit):Le (ck k v) (aR v):=have h:=kR k;h.1 v
noncomputable def K7(k:Nat)(v:ByteArray×Unit):Option (DR):=if decide ((↑v.1.size:Int)>(65536:Int))=true then some (((0:Int),(3:Int),Tag.mk (0:Int) (0:Int) (Oo #[]) [] [],()))else ck k (aq.mk v.1 (0:Int),())>>=λx1=>(if x1.1=true then ca k (x1.2.1,())>>=λx2=>some ((v.1,x1.1,Tag.mk (0:Int) (0:Int) (Oo #[]) [] [],x2.1,x1.2.2))else some ((v.1,x1.1,Tag.mk (0:Int) (0:Int) (Oo #[]) [] [],x1.2)))>>=λx2=>(if(!x2.2.1)=true then some (x2.1,true,x2.2.2)else some ((x2.1,decide (x2.2.2.2.1.at0<(↑x2.1.size:Int)),x2.2.2)))>>=λx3=>if x3.2.1=true then some ((x3.2.2.2.1.at0,(2:Int),Tag.mk (0:Int) (0:Int) (Oo #[]) [] [],()))else K8 k x3.2.2.2.2>>=λx4=>if(x4.1 !=(0:Int))=true then some (((0:Int),x4.1,Tag.mk (0:Int) (0:Int) (Oo #[]) [] [],()))else some (((↑x3.1.size:Int),(0:Int),x3.2.2.2.2))
theorem HC(k:Nat)(v:ByteArray×Unit):Le (K7 k v) (JI v):=by
 unfold K7 JI
 with_reducible repeat' first|exact Le.refl _|exact Le.none _|exact tY _ _|exact BL _ _|exact dH _ _|apply Le.bind|apply Le.ite|apply Le.both|with_unfolding_all assumption|intro x
noncomputable def m_9(k:Nat)(v:Unit):Option (Bool×Unit):=K7 k (Oo #[123,34,97,34,58,91,49,44,50,93,125],())>>=λx1=>L8 k (x1.2.2.1,[Oo #[97],Oo #[49]],())>>=λx2=>K7 k (Oo #[91,49,44,93],())>>=λx3=>(if(x1.2.1==(0:Int))=true then if(x1.1==(11:Int))=true then if(x2.2.1==(0:Int))=true then if x2.1=true then if(x2.2.2.1.kind==(3:Int))=true then if(x2.2.2.1.n==(2:Int))=true then if(x3.2.1==(2:Int))=true then some ((x3.1==(3:Int),()))else some ((false,()))else some ((false,()))else some ((false,()))else some ((false,()))else some ((false,()))else some ((false,()))else some ((false,())))>>=λx4=>some (x4)
theorem Kk(k:Nat)(v:Unit):Le (m_9 k v) (n_9 v):=by
 unfold m_9 n_9
 with_reducible repeat' first|exact Le.refl _|exact Le.none _|exact HC _ _|exact HB _ _|apply Le.bind|apply Le.ite|apply Le.both|with_unfolding_all assumption|intro x
end Go.Proofs.YtpndmanbfleadaaGreatDoor
end
section
namespace Go.Proofs.YtpndmanbfleadaaGreatDoor
set_option maxRecDepth 100000
theorem lK:n_9 ()=some (true,()):=Kk 60 () _ (by kernel_rfl)
end Go.Proofs.YtpndmanbfleadaaGreatDoor
end
section
namespace Go.Proofs.YtpndmanbfleadaaGreatDoor
open Go.Awp Go.Tx
set_option maxRecDepth 20000
abbrev E9:Nat:=4294967296
theorem C4{t:Tag}(h:t.Fit E9):t.Fit big:=Tag.Fit.mono (by decide) t h
theorem CR(a:List ByteArray)(ha:a.length<=big):H7 (a,a,())=some (true,()):=by
 have go:∀(m k:Nat),a.length-k=m->mw (a,a,(k:Int),())=some (.inr ()):=by
  intro m
  induction m with
  |zero=>
   intro k hk
   have hlt:¬k<a.length:=by omega
   rw[mw]
   simp only[sW,hlt]
  |succ m ih=>
   intro k hk
   have hlt:k<a.length:=by omega
   obtain⟨p,hp1,hm,hd,g1,g2⟩:=dP hlt
   rw[mw]
   simp[hlt,hp1,aQ hlt ha]
   exact_mod_cast ih (k+1) (by omega)
 have:=go _ 0 rfl
 simp only[PN,Pz,OZ]at this
 unfold H7
 simp[this]
theorem same:∀a:Tag,a.Fit big->n_12 (a,a,())=some (true,()):=by
 refine Tag.ind λa ih ha=> ?_
 have go:∀(m k:Nat),a.parts.length-k=m->iu ((k:Int),a,a,())=some (.inr ()):=by
  intro m
  induction m with
  |zero=>
   intro k hk
   have hlt:¬k<a.parts.length:=by omega
   rw[iu]
   simp only[sW,hlt]
  |succ m ih2=>
   intro k hk
   have hlt:k<a.parts.length:=by omega
   obtain⟨p,hp1,hm,hd,g1,g2⟩:=dP hlt
   rw[iu]
   simp only[sW,g1,g2,hlt,hp1,ih p hm (ha.part hm),aQ hlt ha.parts,PK]
   exact ih2 (k+1) (by omega)
 have:=go _ 0 rfl
 simp only[PN,Pz,OZ]at this
 rw[n_12]
 simp[CR a.names ha.names,this]
theorem ya:∀L:List NP,(L.map (·.1)).zip (L.map (·.2))=L
 |[]=>rfl
 |q::L=>by rw[Ow,Ow,QF,ya L]
theorem ro(k n:Int)(tx:ByteArray)(ns:List ByteArray)(ps:List Tag):(fin k n tx ns ps).kind=k/\(fin k n tx ns ps).n=n/\(fin k n tx ns ps).text=tx:=by
 unfold fin
 split<;>exact⟨rfl,rfl,rfl⟩
theorem fJ(t:Tag):t.srt.kind=t.kind:=by rw[iK];exact(ro _ _ _ _ _).1
theorem Ff(t:Tag):t.srt.n=t.n:=by rw[iK];exact(ro _ _ _ _ _).2.1
theorem lk(t:Tag):t.srt.text=t.text:=by rw[iK];exact(ro _ _ _ _ _).2.2
theorem li{t:Tag}(hr:t.Right):t.srt.names.Perm t.names:=by
 rw[iK]
 unfold fin
 by_cases hk:t.kind=6
 ·rw[RS hk]
  have hlen:t.names.length=(srtL t.parts).length:=by rw[eD];exact hr.len hk
  exact((dg _).map _).trans (by rw[pD hlen])
 ·rw[RR hk,hr.none hk]
theorem lj{t:Tag}(hr:t.Right):t.srt.parts.Perm (srtL t.parts):=by
 rw[iK]
 unfold fin
 by_cases hk:t.kind=6
 ·rw[RS hk]
  have hlen:t.names.length=(srtL t.parts).length:=by rw[eD];exact hr.len hk
  exact((dg _).map _).trans (by rw[DE hlen])
 ·rw[RR hk]
theorem sA{t p:Tag}(hr:t.Right)(hp:p∈t.srt.parts):∃q∈t.parts,q.srt=p:=by
 have:=(lj hr).mem_iff.1 hp
 rw[lh]at this
 exact OT.1 this
theorem A1{ps qs:List Tag}(h:ps.Perm qs):cntL ps=cntL qs:=by
 induction h with
 |nil=>rfl
 |cons x _ ih=>rw[cntL,cntL,ih]
 |swap x y l=>rw[cntL,cntL,cntL,cntL];omega
 |trans _ _ h1 h2=>rw[h1,h2]
theorem yk{ps qs:List Tag}(h:ps.Perm qs):bytsL ps=bytsL qs:=by
 induction h with
 |nil=>rfl
 |cons x _ ih=>rw[bytsL,bytsL,ih]
 |swap x y l=>rw[bytsL,bytsL,bytsL,bytsL];omega
 |trans _ _ h1 h2=>rw[h1,h2]
theorem A2{ps qs:List Tag}(h:ps.Perm qs):depL ps=depL qs:=by
 induction h with
 |nil=>rfl
 |cons x _ ih=>rw[depL,depL,ih]
 |swap x y l=>rw[depL,depL,depL,depL];omega
 |trans _ _ h1 h2=>rw[h1,h2]
theorem C_{a b:List ByteArray}(h:a.Perm b):(a.map PR).sum=(b.map PR).sum:=by
 induction h with
 |nil=>rfl
 |cons x _ ih=>rw[Ow,Ow,Qu,Qu,ih]
 |swap x y l=>simp only[Ow,Qu];omega
 |trans _ _ h1 h2=>rw[h1,h2]
theorem L7(ps:List Tag)(h:∀p∈ps,p.srt.cnt=p.cnt/\p.srt.byts=p.byts/\p.srt.dep=p.dep):cntL (srtL ps)=cntL ps/\bytsL (srtL ps)=bytsL ps/\depL (srtL ps)=depL ps:=by
 induction ps with
 |nil=>exact⟨rfl,rfl,rfl⟩
 |cons p ps ih=>
  obtain⟨a,b,c⟩:=h p Ox
  obtain⟨d,e,f⟩:=ih λq hq=>h q (Ot _ hq)
  rw[srtL,cntL,cntL,bytsL,bytsL,depL,depL,a,b,c,d,e,f]
  exact⟨rfl,rfl,rfl⟩
theorem C8:∀t:Tag,t.Right->t.srt.cnt=t.cnt/\t.srt.byts=t.byts/\t.srt.dep=t.dep:=by
 refine Tag.ind λt ih hr=> ?_
 obtain⟨a,b,c⟩:=L7 t.parts λp hp=>ih p hp (hr.part hp)
 have hp:=lj hr
 rw[nQ t.srt,nQ t,vj t.srt,vj t,A4 t.srt,A4 t,A1 hp,yk hp,A2 hp,a,b,c,lk,C_ (li hr)]
 exact⟨rfl,rfl,rfl⟩
theorem lT:∀t:Tag,wW t->t.Right:=by
 refine Tag.ind λt ih hg=> ?_
 have L:=hg.loc
 exact .mk L.nm L.ln λp hp=>ih p hp (hg.part hp)
theorem Ef:∀t:Tag,wW t->wW t.srt:=by
 refine Tag.ind λt ih hg=> ?_
 have L:=hg.loc
 have hr:=lT t hg
 have hn:=li hr
 have hp:=lj hr
 refine .mk ⟨by rw[fJ];exact L.k0,by rw[fJ];exact L.k6,by rw[fJ,Ff];exact L.n0,by rw[Ff];exact L.lo,by rw[Ff];exact L.hi,by rw[fJ,lk];exact L.tx,λh=> ?_,λh=> ?_,λh=> ?_,by rw[lk];exact L.vt,λs hs=>L.vn s (hn.mem_iff.1 hs)⟩ λp hp'=> ?_
 ·rw[fJ]at h
  have:=hp.length_eq
  rw[eD,L.pt h]at this
  exact QD.1 this
 ·rw[fJ]at h
  rw[hn.length_eq,hp.length_eq,eD]
  exact L.ln h
 ·rw[fJ]at h
  have:=hn.length_eq
  rw[L.nm h]at this
  exact QD.1 this
 ·obtain⟨q,hq,rfl⟩:=sA hr hp'
  exact ih q hq (hg.part hq)
theorem FH:∀t:Tag,t.Right->t.Uniq->t.srt.Uniq:=by
 refine Tag.ind λt ih hr hu=> ?_
 refine .mk ((li hr).nodup_iff.2 hu.nd) λp hp=> ?_
 obtain⟨q,hq,rfl⟩:=sA hr hp
 exact ih q hq (hr.part hq) (hu.part hq)
theorem Hl{B:Nat}:∀t:Tag,t.Right->t.Fit B->t.srt.Fit B:=by
 refine Tag.ind λt ih hr ht=> ?_
 have hn:=li hr
 have hp:=lj hr
 refine .mk (by rw[lk];exact ht.text) (by rw[hn.length_eq];exact ht.names) (λs hs=>ht.name (hn.mem_iff.1 hs)) (by rw[hp.length_eq,eD];exact ht.parts) λp hp'=> ?_
 obtain⟨q,hq,rfl⟩:=sA hr hp'
 exact ih q hq (hr.part hq) (ht.part hq)
theorem Jc:∀t:Tag,t.Right->t.Uniq->t.srt.srt=t.srt:=by
 refine Tag.ind λt ih hr hu=> ?_
 have hps:srtL t.srt.parts=t.srt.parts:=by
  rw[lh]
  conv=>rhs;rw[<-RN t.srt.parts]
  refine OP λp hp=> ?_
  obtain⟨q,hq,rfl⟩:=sA hr hp
  exact ih q hq (hr.part hq) (hu.part hq)
 rw[iK t.srt,hps,fJ,Ff,lk]
 rw[iK t]
 by_cases hk:t.kind=6
 ·have hlen:t.names.length=(srtL t.parts).length:=by rw[eD];exact hr.len hk
  have hS:ph (ph (t.names.zip (srtL t.parts)))=ph (t.names.zip (srtL t.parts)):=by
   refine oM ?_ (dg _) (fI _) (fI _)
   rw[((dg _).map _).nodup_iff,((dg _).map _).nodup_iff,pD hlen]
   exact hu.nd
  unfold fin
  simp only[hk,RO]
  rw[ya,hS]
 ·unfold fin
  simp only[hk,RP]
theorem Nj(t:Tag)(ht:t.Fit oc)(hb:t.bulk<=oc):n_27 (t,())=some ((t.cnt:Int),(t.dep:Int),(t.byts:Int),()):=by
 obtain⟨a,d,s,c1,c2⟩:=f58 t (Tag.Fit.mono (by decide) t ht)
 have h:=J9 t ht hb
 rw[c2]at h
 simp only[Om,OV,cH.mk.injEq,and_true]at h
 rw[c1,h.1,h.2.1,h.2.2]
theorem NH{B:Nat}(hB:B<E9)(t:Tag)(ht:t.Fit B)(hb:t.bulk<=oc):n_6 (t,())=some (true,()):=by
 have hsm:E9=4294967296:=rfl
 have hhf:oc=4611686018427387904:=rfl
 have hbig:big=9223372036854775807:=rfl
 have hts:t.Fit E9:=Tag.Fit.mono (by omega) t ht
 have hth:t.Fit oc:=Tag.Fit.mono (by omega) t ht
 have htb:t.Fit big:=C4 hts
 obtain⟨x1,hx1⟩:=f13 t htb.wf
 unfold n_6
 cases x1 with
 |true=>simp[hx1,lK]
 |false=>
  obtain⟨e,e1,e2,e3⟩:=f29 t htb
  have hz:(Tag.mk 0 0 (Oo #[]) [] []).Fit big:= .mk (Pu _) (Pu _) (λs hs=>by cases hs) (Pu _) λp hp=>by cases hp
  by_cases he:e=0
  ·subst he
   obtain⟨g1,g2,g3,g4⟩:=Nw t hth hb e1
   have hu:=z7 t htb e1
   have hr:=lT t g1
   have hc:t.cnt<4294967295:=by omega
   have s1:=C7 t hr hu hc
   have s2:=KN t hr hu hc
   obtain⟨z1,z2,z3⟩:=C8 t hr
   have hfs:t.srt.Fit B:=Hl t hr ht
   have hsb:t.srt.Fit big:=Tag.Fit.mono (by omega) _ hfs
   have hsh:t.srt.Fit oc:=Tag.Fit.mono (by omega) _ hfs
   have hbs:t.srt.bulk<=oc:=by rw[rh,z1,z2,<-rh];exact hb
   have hus:=FH t hr hu
   have hgs:=Ef t g1
   have v1:=FK t.srt hsh hbs hgs hus (by omega) (by omega) (by omega)
   have s3:=C7 t.srt (lT _ hgs) hus (by omega)
   rw[Jc t hr hu]at s3
   have ha:=GR t hr
   obtain⟨_,a2⟩:=JU t htb (by omega)
   have a3:=Cq t htb [] (by simp;omega)
   have k1:Aa (t,())=some (0,t.srt,()):=by
    unfold Aa
    simp[e1,s1]
   have k2:HU (t,())=some (0,t.srt,()):=by
    unfold HU
    simp[e2,s2]
   have k3:HW (t,())=some (compactStr (sortStr t.all),0,()):=by
    have l1:t.all.length<4611686018427387904:=by omega
    have l2:(sortStr t.all).length<=9223372036854775807:=by rw[eC];omega
    have m1:gg (t.all,())=some (sortStr t.all,()):=by
     unfold gg
     simp only[l1,RO]
    have m2:gh (sortStr t.all,())=some (compactStr (sortStr t.all),()):=by
     unfold gh
     simp only[l2,RO]
    unfold HW
    simp[e1,a2,m1,m2,eC]
   have k4:HY (t,())=some (compactStr (sortStr t.all),0,()):=by
    unfold HY
    simp[e2,a3,E4]
   have k5:H1 (t,())=some ((t.dep:Int),0,()):=by
    unfold H1
    simp[e1,J9 t hth hb]
   have k6:H3 (t,())=some ((t.dep:Int),0,()):=by
    unfold H3
    simp[e2,Nj t hth hb]
   have k7:HR (t,())=some ((t.cnt:Int),0,()):=by
    unfold HR
    simp[e1,J9 t hth hb]
   have k8:H5 (t,())=some ((t.cnt:Int),0,()):=by
    unfold H5
    simp[e2,Nj t hth hb]
   have k9:Aa (t.srt,())=some (0,t.srt,()):=by
    unfold Aa
    simp[v1,s3]
   have hcl:(compactStr (sortStr t.all)).length<=big:=by
    have:=nS ((sortStr t.all).map λs=>s.data.toList)
    rw[On,eC]at this
    unfold compactStr
    rw[On]
    omega
   simp[hx1,k1,k2,k3,k4,k5,k6,k7,k8,k9,same t.srt hsb,CR _ hcl,lK]
  ·have k1:Aa (t,())=some (e,Tag.mk 0 0 (Oo #[]) [] [],()):=by
    unfold Aa
    simp[e1,he]
   have k2:HU (t,())=some (e,Tag.mk 0 0 (Oo #[]) [] [],()):=by
    unfold HU
    simp[e2,he]
   have k3:HW (t,())=some ([],e,()):=by
    unfold HW
    simp[e1,he]
   have k4:HY (t,())=some ([],e,()):=by
    unfold HY
    simp[e2,he]
   have k5:H1 (t,())=some (0,e,()):=by
    unfold H1
    simp[e1,he]
   have k6:H3 (t,())=some (0,e,()):=by
    unfold H3
    simp[e2,he]
   have k7:HR (t,())=some (0,e,()):=by
    unfold HR
    simp[e1,he]
   have k8:H5 (t,())=some (0,e,()):=by
    unfold H5
    simp[e2,he]
   have k9:∃x,Aa (Tag.mk 0 0 (Oo #[]) [] [],())=some x:=by
    obtain⟨e',f1,_,_⟩:=f29 _ hz
    unfold Aa
    by_cases h0:e'=0
    ·have s4:=C7 (Tag.mk 0 0 (Oo #[]) [] []) (.mk (λ_=>rfl) (λh=>rfl) λp hp=>by cases hp) (.mk List.nodup_nil λp hp=>by cases hp) (by decide)
     simp[f1,h0,s4]
    ·simp[f1,h0]
   obtain⟨x,k9⟩:=k9
   have q1:=same _ hz
   have q2:=CR [] (Pu _)
   simp[hx1,k1,k2,k3,k4,k5,k6,k7,k8,k9,q1,q2,he,lK]
theorem pP(t:Tag)(h0:Ok vw (.st .tagT) t)(m0:Nat)(b0:Bk vw (.st .tagT) t m0)(hm:m0<=1048576):n_6 (t,())=some (true,()):=
 NH (B:=1048576) (by decide) t (Bd t m0 hm b0) (Ps (GZ t m0 b0) (Ps hm (by decide)))
end Go.Proofs.YtpndmanbfleadaaGreatDoor
end
