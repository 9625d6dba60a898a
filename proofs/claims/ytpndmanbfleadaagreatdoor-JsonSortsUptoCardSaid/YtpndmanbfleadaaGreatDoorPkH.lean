/-
  Texts of this claim, joined by a program of mine: what the theorem uses.
-/
import Derived.Test.YtpndmanbfleadaaGreatDoorPkF
import Derived.Test.YtpndmanbfleadaaGreatDoorPkC
import Derived.Test.YtpndmanbfleadaaGreatDoorPkG
open Bool renaming eq_false_iff→Qq,false_eq_true→Oq,not_false→O6,not_true→OY,or_eq_false_iff→O0
open ByteArray renaming mk→NA,size→O5,toList_eq→PB
open Int renaming natCast_zero→O1,ofNat_eq_natCast→ON
open List renaming append_assoc→Oi,append_nil→Ox,cons_append→NQ,drop_eq_getElem_cons→Qt,drop_eq_nil_of_le→Pe,drop_zero→N9,getElem?_eq_getElem→ND,getElem?_eq_some_iff→Nx,getElem?_map→NB,getElem?_of_mem→OM,getElem?_take→NO,getElem?_zip_eq_some→Qs,getElem_mem→OB,length_append→NT,length_cons→Oj,length_eq_zero_iff→PS,length_map→Nz,length_nil→OJ,length_pos_iff→NE,length_reverse→QT,map_append→Of,map_congr_left→NZ,map_cons→NF,map_id→Q1,map_nil→N_,mem_append→NX,mem_cons→NI,mem_cons_of_mem→NC,mem_cons_self→NG,mem_map→N3,mem_map_of_mem→N1,mem_of_getElem?→NJ,mem_singleton→OS,mergeSort_perm→QS,nil_append→NW,nodup_cons→OD,not_mem_nil→Qc,pairwise_append→QL,pairwise_cons→Pj,pairwise_iff_getElem→Qr,pairwise_map→PZ,pairwise_mergeSort→QA,reverse_cons→PX,reverse_reverse→QK,sum_cons→PJ,take_zero→P0,zip_cons_cons→PV
open List.Pairwise renaming nil→Qp
open List.Perm renaming eq_of_pairwise→Qz
open Nat renaming add_assoc→Oz,add_zero→Oo,le_refl→NY,le_trans→OH,zero_le→OI
open Option renaming bind_eq_bind→QP,bind_some→O_
open Option.some renaming inj→Pm,injEq→Ny
open Prod.mk renaming injEq→N5
open Sum renaming inl→OC,inr→OR
noncomputable section
set_option linter.unusedVariables false
set_option linter.unusedSimpArgs false
section
namespace Go.Proofs.YtpndmanbfleadaaGreatDoor
open Go.Awp Go.Tx
open IntKind (i32)
open IntKind (i64)
open Go.Proofs.Tryz (prog)
set_option maxHeartbeats 4000000
set_option maxRecDepth 100000
def ou:ba vw:=shL [(0,IR)] gU
def p8:Nat->Bool:=λ_=>false
def qp:Sig vw:={params:=[Dq3],rcut:=gU,rvars:=[.tmp 2],keep:=[2002]}
noncomputable def cR(v:CW):Option (((List ByteArray)×Unit)):=if decide (v.2.2.1<v.2.1)=true then if(0:Int)<=v.2.2.1 then v.1[v.2.2.1.toNat]?>>=λx1=>n_45 (x1,())>>=λx2=>if v.2.2.2.1.length+x2.1.length<=(4294967296:Nat)then cR (v.1,v.2.1,i64.wrap (v.2.2.1+(1:Int)),v.2.2.2.1++x2.1,())else none else none else some (v.2.2.2) partial_fixpoint
noncomputable def kE(v:Tag×Unit):Option ((List ByteArray)×Unit):=df (v.1.names,())>>=λx1=>cR (v.1.parts,(↑v.1.parts.length:Int),(0:Int),x1)>>=λx2=>some (x2)
def ju:=kP G8 (kO eA k0)
def gH:Xc vw:={P:=prog,n:=22,call:=ju.1,pre:=p8,sh:=ou,loops:=λk=>match k with|3=>some {cut:=sq,alts:=[.exit 0],F:=cR}|_=>none}
theorem pk(C:Ctx)(hP:C.P=prog)(hN:C.N=22/\Fx C p8):bC C (ae (aa Tryz.f45) 0) (sh:=ou) {cut:=sq,alts:=[.exit 0],F:=cR}:=
 cR.partial_correctness (motive:=λv out=>d6 C (ae (aa Tryz.f45) 0) (Go.Tx.az vw (bh vw sq v)) (eF ou [.exit 0] out)) λF ih v out h=>
  aH (X:=gH) (b:=(ae (aa Tryz.f45) 0)) hP hN Ty.mixed ju.2 (au (X:=gH) (c:=(ae (aa Tryz.f45) 0)) (am (by kernel_rfl:True=bv (ax C (gH)) (aw (ae (aa Tryz.f45) 0))) trivial)) ih (am (by kernel_rfl) h)
theorem tF:bc prog 45 qp kE:=λv r x h hx=>
 bj (X:=gH) (sig:=qp) rfl Tryz.func45 (c:=aa Tryz.f45) (by kernel_rfl) Tryz.ntmps45 (by kernel_rfl) (by kernel_rfl) rfl Ty.mixed ju.2 rfl (λC hP hN=>(au (am (by kernel_rfl:bv (ax C (gH)) [(ae (aa Tryz.f45) 0)]=bv (ax C (gH)) (aw (aa Tryz.f45))) ⟨bd (X:=gH) (b:=(ae (aa Tryz.f45) 0)) (by kernel_rfl) (pk C hP hN),trivial⟩))) (am (by kernel_rfl) h) x hx
def zU:Cut SN:=⟨[],[(100000,Oq9)]⟩
def y7:Sig vw:={params:=[.vh 100000],objs:=[(100000,Oq9)],rcut:=zU,rvars:=[],keep:=[100000]}
noncomputable def ig(v:(List ByteArray)×Unit):Option ((List ByteArray)×Unit):=if v.1.length<4611686018427387904 then some (sortStr v.1,())else none
theorem tG:bc prog 46 y7 ig:=λv r x h hx=>by
 obtain⟨xs,u⟩:=v
 unfold ig at h
 split at h
 ·rename_i hc
  cases h;cases hx
  exact am (by kernel_rfl) (cX.sortStr (P:=prog) (f:=46) (te:=9) (a:=100000) (xs:=xs) (by kernel_rfl) (λb o c zs w hH hb hl=>Tryz.slices_Sort_string b o c zs w hH hb hl) (λp c w=>Tryz.slices_Sort_string_none p c w) hc)
 ·cases h
def y8:Sig vw:={params:=[.vh 100000],objs:=[(100000,Oq9)],rcut:=gU,rvars:=[.tmp 2],keep:=[2002]}
noncomputable def ij(v:(List ByteArray)×Unit):Option ((List ByteArray)×Unit):=if v.1.length<=9223372036854775807 then some (compactStr v.1,())else none
theorem tH:bc prog 47 y8 ij:=λv r x h hx=>by
 obtain⟨xs,u⟩:=v
 unfold ij at h
 split at h
 ·rename_i hc
  cases h;cases hx
  exact am (by kernel_rfl) (cX.compactStr (P:=prog) (f:=47) (te:=9) (a:=100000) (c:=2002) (xs:=xs) (by kernel_rfl) (λb o c zs w hH hl hc=>Tryz.slices_Compact_string b o c zs w hH hl hc) (λp c w=>Tryz.slices_Compact_string_empty p c w) (by decide) hc)
 ·cases h
def J7:Cut SN:=⟨[(2,Dq2),(3,Dq1)],[]⟩
def M6:ba vw:={rcut:=J7}
def Ls:Nat->Bool:=λ_=>false
def JI:Sig vw:=sg [Dq3] J7 [.tmp 2, .tmp 3]
noncomputable def Is(v:Tag×Unit):Option ((List ByteArray)×Int×Unit):=tD v>>=λx1=>if(x1.1 !=(0:Int))=true then some ([],x1)else kE v>>=λx2=>ig x2>>=λx3=>if x3.1.length=x2.1.length then ij x3>>=λx4=>some ((x4.1,(0:Int),()))else none
def Fd:=kP lC (kO tF (kO tG (kO tH k0)))
def x21:Xc vw:={P:=prog,n:=17,call:=Fd.1,pre:=Ls,sh:=M6}
theorem GX:bc prog 21 JI Is:=λv r x h hx=>
 bj (X:=x21) (sig:=JI) rfl Tryz.func21 (c:=aa Tryz.f21) (by kernel_rfl) Tryz.ntmps21 (by kernel_rfl) (by kernel_rfl) rfl Ty.mixed Fd.2 rfl (λC hP hN=>(au (am (by kernel_rfl) trivial))) (am (by kernel_rfl) h) x hx
def zW:Cut SN:=⟨[(0,Dq2),(1,Dq5),(5, .vh 1005),(6,Dq4),(7,Dq1)],[(1005,Oq9)]⟩
def IU:Cut SN:=⟨[(5, .vh 1005)],[(1005,Oq9)]⟩
def KU:Cut SN:=⟨[(0,Dq2),(1,Dq5),(5, .vh 1005),(6,Dq4),(7,Dq1),(23,Dq4)],[(1005,Oq9)]⟩
def KT:Cut SN:=⟨[(1,Dq5),(5, .vh 1005),(6,Dq4)],[(1005,Oq9)]⟩
def J_:Cut SN:=⟨[(4,Dq2)],[]⟩
def LN:ba vw:=shL [(0,KT)] J_
def Ju:Nat->Bool:=λ_=>false
def HB:Sig vw:=sg [Dq2,Dq5] J_ [.tmp 4]
noncomputable def lY(v:(List ByteArray)×ByteArray×Bool×Int×(List ByteArray)×Unit):Option ((ByteArray×Bool×(List ByteArray)×Unit)):=if decide (v.2.2.2.1<(↑v.1.length:Int))=true then((if(!v.2.2.1)=true then if(0:Int)<=v.2.2.2.1 then v.1[v.2.2.2.1.toNat]?>>=λx1=>some ((v.1,v.2.1,v.2.2.1,v.2.2.2.1,!(Bs.blt x1 v.2.1||x1.toList==v.2.1.toList),v.2.2.2.2))else none else some (v.1,v.2.1,v.2.2.1,v.2.2.2.1,false,v.2.2.2.2))>>=λx1=>if x1.2.2.2.2.1=true then if x1.2.2.2.2.2.1.length+[x1.2.1].length<=(4294967296:Nat)then some ((x1.1,x1.2.1,true,x1.2.2.2.1,x1.2.2.2.2.2.1++[x1.2.1],()))else none else some (x1.1,x1.2.1,x1.2.2.1,x1.2.2.2.1,x1.2.2.2.2.2))>>=λx1=>(if x1.2.2.1=true then some (x1.1,x1.2.1,true,x1.2.2.2)else if(0:Int)<=x1.2.2.2.1 then x1.1[x1.2.2.2.1.toNat]?>>=λx2=>some (x1.1,x1.2.1,x2.toList==x1.2.1.toList,x1.2.2.2)else none)>>=λx2=>if(0:Int)<=x2.2.2.2.1 then x2.1[x2.2.2.2.1.toNat]?>>=λx3=>if x2.2.2.2.2.1.length+[x3].length<=(4294967296:Nat)then lY (x2.1,x2.2.1,x2.2.2.1,i64.wrap (x2.2.2.2.1+(1:Int)),x2.2.2.2.2.1++[x3],())else none else none else some (v.2.1,v.2.2.1,v.2.2.2.2) partial_fixpoint
noncomputable def Jf(v:(List ByteArray)×ByteArray×Unit):Option ((List ByteArray)×Unit):=lY (v.1,v.2.1,false,(0:Int),[],())>>=λx1=>(if(!x1.2.1)=true then if x1.2.2.1.length+[x1.1].length<=(4294967296:Nat)then some ((x1.2.2.1++[x1.1],()))else none else some (x1.2.2))>>=λx2=>some (x2)
def x67:Xc vw:={P:=prog,n:=51,call:=c0,pre:=Ju,sh:=LN,joins:=λk=>match k with|9=>some (zW,[.norm])|13=>some (IU,[.norm])|_=>none,regs:=λk=>match k with|6=>some KU|9=>some zW|_=>none,loops:=λk=>match k with|4=>some {cut:=zW,alts:=[.exit 0],F:=lY}|_=>none}
theorem Bw(C:Ctx)(hP:C.P=prog)(hN:C.N=51/\Fx C Ju):bC C (ae (aa Tryz.f67) 0) (sh:=LN) {cut:=zW,alts:=[.exit 0],F:=lY}:=
 lY.partial_correctness (motive:=λv out=>d6 C (ae (aa Tryz.f67) 0) (Go.Tx.az vw (bh vw zW v)) (eF LN [.exit 0] out)) λF ih v out h=>
  aH (X:=x67) (b:=(ae (aa Tryz.f67) 0)) hP hN Ty.mixed j4 (au (X:=x67) (c:=(ae (aa Tryz.f67) 0)) (am (by kernel_rfl:True=bv (ax C (x67)) (aw (ae (aa Tryz.f67) 0))) trivial)) ih (am (by kernel_rfl) h)
theorem vA:bc prog 67 HB Jf:=λv r x h hx=>
 bj (X:=x67) (sig:=HB) rfl Tryz.func67 (c:=aa Tryz.f67) (by kernel_rfl) Tryz.ntmps67 (by kernel_rfl) (by kernel_rfl) rfl Ty.mixed j4 rfl (λC hP hN=>(au (am (by kernel_rfl:bv (ax C (x67)) [(ae (aa Tryz.f67) 0)]=bv (ax C (x67)) (aw (aa Tryz.f67))) ⟨bd (X:=x67) (b:=(ae (aa Tryz.f67) 0)) (by kernel_rfl) (Bw C hP hN),trivial⟩))) (am (by kernel_rfl) h) x hx
def xK:Cut SN:=⟨[(0,Dq2),(3, .bp 3 0),(5,Dq1)],[(3, .st .tagT)]⟩
def zV:Cut SN:=⟨[(0,Dq2),(3, .bp 3 0),(6,Dq1)],[(3, .st .tagT)]⟩
def KN:Cut SN:=⟨[(0,Dq2),(3, .bp 3 0)],[(3, .st .tagT)]⟩
def KO:Cut SN:=⟨[(0,Dq2)],[]⟩
def IF:ba vw:=shL [(0,KN),(2,KO)] J_
def D0:Nat->Bool:=λ_=>false
def my:Sig vw:=sg [Dq2,Dq3] J_ [.tmp 4]
abbrev uy:=(List ByteArray)×Int×Tag×Unit
noncomputable def dF(v:uy):Option (((List ByteArray)×Tag×Unit)):=if decide (v.2.1<(↑v.2.2.1.names.length:Int))=true then if(0:Int)<=v.2.1 then v.2.2.1.names[v.2.1.toNat]?>>=λx1=>Jf (v.1,x1,())>>=λx2=>dF (x2.1,i64.wrap (v.2.1+(1:Int)),v.2.2)else none else some (v.1,v.2.2) partial_fixpoint
mutual
noncomputable def il(v:uy):Option (((List ByteArray)×Unit)):=if decide (v.2.1<(↑v.2.2.1.parts.length:Int))=true then if(0:Int)<=v.2.1 then v.2.2.1.parts[v.2.1.toNat]?>>=λx1=>n_48 (v.1,x1,())>>=λx2=>il (x2.1,i64.wrap (v.2.1+(1:Int)),v.2.2)else none else some ((v.1,())) partial_fixpoint
noncomputable def n_48(v:(List ByteArray)×Tag×Unit):Option ((List ByteArray)×Unit):=dF (v.1,(0:Int),v.2)>>=λx1=>il (x1.1,(0:Int),x1.2)>>=λx2=>some (x2) partial_fixpoint
end
def wD(dF:uy->Option (((List ByteArray)×Tag×Unit)))(il:uy->Option (((List ByteArray)×Unit)))(n_48:(List ByteArray)×Tag×Unit->Option ((List ByteArray)×Unit)):bm vw:=λA fid args S k=>match fid with|48=>bg prog my n_48 A args S k|67=>bg prog HB Jf A args S k|_=>none
def x48(dF:uy->Option (((List ByteArray)×Tag×Unit)))(il:uy->Option (((List ByteArray)×Unit)))(n_48:(List ByteArray)×Tag×Unit->Option ((List ByteArray)×Unit)):Xc vw:={P:=prog,n:=36,call:=wD dF il n_48,pre:=D0,sh:=IF,loops:=λk=>match k with|2=>some {cut:=xK,alts:=[.exit 0],F:=dF}|6=>some {cut:=zV,alts:=[.exit 2],F:=il}|_=>none}
abbrev ri(v:uy)(r:((List ByteArray)×Tag×Unit)):Prop:=(λv out=>∀C:Ctx,C.P=prog->C.N=36/\Fx C D0->d6 C (ae (aa Tryz.f48) 0) (Go.Tx.az vw (bh vw xK v)) (eF IF [.exit 0] out)) v r
theorem Gd(f0:uy->Option (((List ByteArray)×Tag×Unit)))(h0:∀v r,f0 v=some r->ri v r):ay prog (x48 f0 (λ_=>none) (λ_=>none)).call:=(by
 intro A fid args S dst k r h
 unfold x48 wD at h
 simp only at h
 split at h
 ·exact aq ((λv r x h hx=>by cases h)) rfl rfl h
 ·exact aq (vA) rfl rfl h
 ·cases h)
theorem HM(f0:uy->Option (((List ByteArray)×Tag×Unit)))(h0:∀v r,f0 v=some r->ri v r)(v:uy)(r:((List ByteArray)×Tag×Unit))(h:exL (x48 f0 (λ_=>none) (λ_=>none)) (ae (aa Tryz.f48) 0) xK [.exit 0] f0 v=some r):ri v r:=λC hP hN=>aH (X:=x48 f0 (λ_=>none) (λ_=>none)) (b:=(ae (aa Tryz.f48) 0)) hP hN Ty.mixed (Gd f0 h0) (au (X:=x48 f0 (λ_=>none) (λ_=>none)) (c:=(ae (aa Tryz.f48) 0)) (am (by kernel_rfl:True=bv (ax C (x48 f0 (λ_=>none) (λ_=>none))) (aw (ae (aa Tryz.f48) 0))) trivial)) (cut:=xK) (alts:=[.exit 0]) (F:=f0) (λv out h=>h0 v out h C hP hN) h
theorem Bp:∀v out,dF v=some out->(λv out=>∀C:Ctx,C.P=prog->C.N=36/\Fx C D0->d6 C (ae (aa Tryz.f48) 0) (Go.Tx.az vw (bh vw xK v)) (eF IF [.exit 0] out)) v out:=(dF.partial_correctness (motive:=ri) (λf0 h0 v r h=>HM f0 h0 v r (am (by kernel_rfl) h)))
abbrev jP(v:uy)(r:((List ByteArray)×Unit)):Prop:=(λv out=>∀C:Ctx,C.P=prog->C.N=36/\Fx C D0->d6 C (ae (aa Tryz.f48) 1) (Go.Tx.az vw (bh vw zV v)) (eF IF [.exit 2] out)) v r
abbrev Bb(v:(List ByteArray)×Tag×Unit)(r:(List ByteArray)×Unit):Prop:=(λv r=>∀x,lG prog my r=some x->cX prog 48 (encL vw (aD my v).len (bi my v).1) (br (aD my v).len (aD my v).own) (an vw (bh vw my.rcut r).len x) (br (bh vw my.rcut r).len (gO my r))) v r
theorem Ge(f0:uy->Option (((List ByteArray)×Unit)))(f1:(List ByteArray)×Tag×Unit->Option ((List ByteArray)×Unit))(h0:∀v r,f0 v=some r->jP v r)(h1:∀v r,f1 v=some r->Bb v r):ay prog (x48 (λ_=>none) f0 f1).call:=(by
 intro A fid args S dst k r h
 unfold x48 wD at h
 simp only at h
 split at h
 ·exact aq ((λv r x h hx=>h1 v r h x hx)) rfl rfl h
 ·exact aq (vA) rfl rfl h
 ·cases h)
theorem HN(f0:uy->Option (((List ByteArray)×Unit)))(f1:(List ByteArray)×Tag×Unit->Option ((List ByteArray)×Unit))(h0:∀v r,f0 v=some r->jP v r)(h1:∀v r,f1 v=some r->Bb v r)(v:uy)(r:((List ByteArray)×Unit))(h:exL (x48 (λ_=>none) f0 f1) (ae (aa Tryz.f48) 1) zV [.exit 2] f0 v=some r):jP v r:=λC hP hN=>aH (X:=x48 (λ_=>none) f0 f1) (b:=(ae (aa Tryz.f48) 1)) hP hN Ty.mixed (Ge f0 f1 h0 h1) (au (X:=x48 (λ_=>none) f0 f1) (c:=(ae (aa Tryz.f48) 1)) (am (by kernel_rfl:True=bv (ax C (x48 (λ_=>none) f0 f1)) (aw (ae (aa Tryz.f48) 1))) trivial)) (cut:=zV) (alts:=[.exit 2]) (F:=f0) (λv out h=>h0 v out h C hP hN) h
theorem K3(f0:uy->Option (((List ByteArray)×Unit)))(h0:∀v r,f0 v=some r->jP v r):ay prog (x48 dF f0 (λ_=>none)).call:=(by
 intro A fid args S dst k r h
 unfold x48 wD at h
 simp only at h
 split at h
 ·exact aq ((λv r x h hx=>by cases h)) rfl rfl h
 ·exact aq (vA) rfl rfl h
 ·cases h)
theorem LW(f0:uy->Option (((List ByteArray)×Unit)))(h0:∀v r,f0 v=some r->jP v r)(v:(List ByteArray)×Tag×Unit)(r:(List ByteArray)×Unit)(h:exF (x48 dF f0 (λ_=>none)) my rfl (aa Tryz.f48) v=some r):Bb v r:=λx hx=>bj (X:=x48 dF f0 (λ_=>none)) (sig:=my) rfl Tryz.func48 (c:=aa Tryz.f48) (by kernel_rfl) Tryz.ntmps48 (by kernel_rfl) (by kernel_rfl) rfl Ty.mixed (K3 f0 h0) rfl (λC hP hN=>(au (X:=x48 dF f0 (λ_=>none)) (c:=(aa Tryz.f48)) (am (by kernel_rfl:bv (ax C (x48 dF f0 (λ_=>none))) [(ae (aa Tryz.f48) 0),(ae (aa Tryz.f48) 1)]=bv (ax C (x48 dF f0 (λ_=>none))) (aw (aa Tryz.f48))) ⟨bd (X:=x48 dF f0 (λ_=>none)) (b:=(ae (aa Tryz.f48) 0)) (by kernel_rfl) (show bC C (ae (aa Tryz.f48) 0) (sh:=IF) {cut:=xK,alts:=[.exit 0],F:=dF}fromλv out h=>Bp v out h C hP hN),bd (X:=x48 dF f0 (λ_=>none)) (b:=(ae (aa Tryz.f48) 1)) (by kernel_rfl) (show bC C (ae (aa Tryz.f48) 1) (sh:=IF) {cut:=zV,alts:=[.exit 2],F:=f0}fromλv out h=>h0 v out h C hP hN),trivial⟩))) h x hx
theorem yz:(∀v r,il v=some r->jP v r)/\(∀v r,n_48 v=some r->Bb v r):=by
 refine il.mutual_partial_correctness
  (motive_1:=jP)
  (motive_2:=Bb)
  ?_ ?_
 ·exact(λf0 f1 h0 h1 v r h=>HN f0 f1 h0 h1 v r (am (by kernel_rfl) h))
 ·exact(λf0 h0 v r h=>LW f0 h0 v r (am (by kernel_rfl) h))
theorem G9:bc prog 48 my n_48:=λv r x h hx=>yz.2 v r h x hx
def M7:ba vw:={rcut:=J7}
def Lt:Nat->Bool:=λ_=>false
def JJ:Sig vw:=sg [Dq3] J7 [.tmp 2, .tmp 3]
noncomputable def It(v:Tag×Unit):Option ((List ByteArray)×Int×Unit):=G3 v>>=λx1=>if(x1.1 !=(0:Int))=true then some ([],x1)else n_48 ([],v)>>=λx2=>some ((x2.1,(0:Int),()))
def Fe:=kP rz (kP G9 k0)
def x22:Xc vw:={P:=prog,n:=12,call:=Fe.1,pre:=Lt,sh:=M7}
theorem GY:bc prog 22 JJ It:=λv r x h hx=>
 bj (X:=x22) (sig:=JJ) rfl Tryz.func22 (c:=aa Tryz.f22) (by kernel_rfl) Tryz.ntmps22 (by kernel_rfl) (by kernel_rfl) rfl Ty.mixed Fe.2 rfl (λC hP hN=>(au (am (by kernel_rfl) trivial))) (am (by kernel_rfl) h) x hx
def M8:ba vw:={rcut:=E8}
def Lu:Nat->Bool:=λ_=>false
def JK:Sig vw:=sg [Dq3] E8 [.tmp 2, .tmp 3]
noncomputable def Iu(v:Tag×Unit):Option (Int×Int×Unit):=tD v>>=λx1=>if(x1.1 !=(0:Int))=true then some (((0:Int),x1))else n_42 v>>=λx2=>some ((x2.1.depth,(0:Int),()))
def Ff:=kP lC (kP vv k0)
def x23:Xc vw:={P:=prog,n:=13,call:=Ff.1,pre:=Lu,sh:=M8}
theorem GZ:bc prog 23 JK Iu:=λv r x h hx=>
 bj (X:=x23) (sig:=JK) rfl Tryz.func23 (c:=aa Tryz.f23) (by kernel_rfl) Tryz.ntmps23 (by kernel_rfl) (by kernel_rfl) rfl Ty.mixed Ff.2 rfl (λC hP hN=>(au (am (by kernel_rfl) trivial))) (am (by kernel_rfl) h) x hx
def M9:ba vw:={rcut:=E8}
def Lv:Nat->Bool:=λ_=>false
def JL:Sig vw:=sg [Dq3] E8 [.tmp 2, .tmp 3]
noncomputable def Iv(v:Tag×Unit):Option (Int×Int×Unit):=G3 v>>=λx1=>if(x1.1 !=(0:Int))=true then some (((0:Int),x1))else n_27 v>>=λx2=>some ((x2.2.1,(0:Int),()))
def Fg:=kP ry (kP rz k0)
def x24:Xc vw:={P:=prog,n:=20,call:=Fg.1,pre:=Lv,sh:=M9}
theorem G0:bc prog 24 JL Iv:=λv r x h hx=>
 bj (X:=x24) (sig:=JL) rfl Tryz.func24 (c:=aa Tryz.f24) (by kernel_rfl) Tryz.ntmps24 (by kernel_rfl) (by kernel_rfl) rfl Ty.mixed Fg.2 rfl (λC hP hN=>(au (am (by kernel_rfl) trivial))) (am (by kernel_rfl) h) x hx
def M_:ba vw:={rcut:=E8}
def Lw:Nat->Bool:=λ_=>false
def JM:Sig vw:=sg [Dq3] E8 [.tmp 2, .tmp 3]
noncomputable def Iw(v:Tag×Unit):Option (Int×Int×Unit):=G3 v>>=λx1=>if(x1.1 !=(0:Int))=true then some (((0:Int),x1))else n_27 v>>=λx2=>some ((x2.1,(0:Int),()))
def Fh:=kP ry (kP rz k0)
def x25:Xc vw:={P:=prog,n:=20,call:=Fh.1,pre:=Lw,sh:=M_}
theorem G1:bc prog 25 JM Iw:=λv r x h hx=>
 bj (X:=x25) (sig:=JM) rfl Tryz.func25 (c:=aa Tryz.f25) (by kernel_rfl) Tryz.ntmps25 (by kernel_rfl) (by kernel_rfl) rfl Ty.mixed Fh.2 rfl (λC hP hN=>(au (am (by kernel_rfl) trivial))) (am (by kernel_rfl) h) x hx
def dA:Cut SN:=⟨[(0, .bp 100000 0)],[(100000, .st .readerT)]⟩
def ov:ba vw:=shL [(0,dA)] dA
def p9:Nat->Bool:=λ_=>false
def f5:Sig vw:={params:=[.bp 100000 0],objs:=[(100000, .st .readerT)],rcut:=dA,rvars:=[],keep:=[100000]}
noncomputable def dr(v:ap×Unit):Option ((ap×Unit)):=aQ (NA #[32,10,9,13],v)>>=λx1=>if x1.1=true then dr x1.2 else some (x1.2) partial_fixpoint
noncomputable def bx(v:ap×Unit):Option (ap×Unit):=dr v>>=λx1=>some (x1)
def jv:=kO cb k0
def gI:Xc vw:={P:=prog,n:=4,call:=jv.1,pre:=p9,sh:=ov,loops:=λk=>match k with|0=>some {cut:=dA,alts:=[.exit 0],F:=dr}|_=>none}
theorem pm(C:Ctx)(hP:C.P=prog)(hN:C.N=4/\Fx C p9):bC C (ae (aa Tryz.f50) 0) (sh:=ov) {cut:=dA,alts:=[.exit 0],F:=dr}:=
 dr.partial_correctness (motive:=λv out=>d6 C (ae (aa Tryz.f50) 0) (Go.Tx.az vw (bh vw dA v)) (eF ov [.exit 0] out)) λF ih v out h=>
  aH (X:=gI) (b:=(ae (aa Tryz.f50) 0)) hP hN Ty.mixed jv.2 (au (X:=gI) (c:=(ae (aa Tryz.f50) 0)) (am (by kernel_rfl:True=bv (ax C (gI)) (aw (ae (aa Tryz.f50) 0))) trivial)) ih (am (by kernel_rfl) h)
theorem dG:bc prog 50 f5 bx:=λv r x h hx=>
 bj (X:=gI) (sig:=f5) rfl Tryz.func50 (c:=aa Tryz.f50) (by kernel_rfl) Tryz.ntmps50 (by kernel_rfl) (by kernel_rfl) rfl Ty.mixed jv.2 rfl (λC hP hN=>(au (am (by kernel_rfl:bv (ax C (gI)) [(ae (aa Tryz.f50) 0)]=bv (ax C (gI)) (aw (aa Tryz.f50))) ⟨bd (X:=gI) (b:=(ae (aa Tryz.f50) 0)) (by kernel_rfl) (pm C hP hN),trivial⟩))) (am (by kernel_rfl) h) x hx
def sw:Cut SN:=⟨[(0, .bp 100000 0),(2,Dq7)],[(100000, .st .readerT)]⟩
def Ca:ba vw:={rcut:=sw}
def yL:Nat->Bool:=λ_=>false
def iQ:Sig vw:={params:=[.bp 100000 0],objs:=[(100000, .st .readerT)],rcut:=sw,rvars:=[.tmp 2],keep:=[100000]}
noncomputable def a_(v:ap×Unit):Option (Int×ap×Unit):=if(v.1.at0==(↑v.1.s.size:Int))=true then some (((0:Int),v))else if(0:Int)<=v.1.at0 then v.1.s[v.1.at0.toNat]?>>=λx1=>some (((↑x1.toNat:Int),v))else none
def EP:Xc vw:={P:=prog,n:=22,call:=c0,pre:=yL,sh:=Ca}
theorem dJ:bc prog 68 iQ a_:=λv r x h hx=>
 bj (X:=EP) (sig:=iQ) rfl Tryz.func68 (c:=aa Tryz.f68) (by kernel_rfl) Tryz.ntmps68 (by kernel_rfl) (by kernel_rfl) rfl Ty.mixed j4 rfl (λC hP hN=>(au (am (by kernel_rfl) trivial))) (am (by kernel_rfl) h) x hx
def lg:Cut SN:=⟨[(0, .bp 100000 0),(1,Dq5),(7,Dq1),(8,Dq1)],[(100000, .st .readerT)]⟩
def ow:ba vw:=shL [(0,dA)] j5
def p_:Nat->Bool:=λ_=>false
def lJ:Sig vw:={params:=[.bp 100000 0,Dq5],objs:=[(100000, .st .readerT)],rcut:=j5,rvars:=[.tmp 4],keep:=[100000]}
abbrev Mj:=ByteArray×Int×Int×ap×Unit
noncomputable def dt(v:Mj):Option (((Bool×ap×Unit)⊕(ap×Unit))):=if decide (v.2.2.1<v.2.1)=true then if(0:Int)<=v.2.2.1/\v.2.2.1<=i64.wrap (v.2.2.1+(1:Int))/\i64.wrap (v.2.2.1+(1:Int))<=(↑v.1.size:Int)then aQ (v.1.extract v.2.2.1.toNat (i64.wrap (v.2.2.1+(1:Int))).toNat,v.2.2.2)>>=λx1=>if(!x1.1)=true then some (OC (false,x1.2))else dt (v.1,v.2.1,i64.wrap (v.2.2.1+(1:Int)),x1.2)else none else some (OR v.2.2.2) partial_fixpoint
noncomputable def eB(v:ByteArray×ap×Unit):Option (Bool×ap×Unit):=dt (v.1,(↑v.1.size:Int),(0:Int),v.2)>>=λx1=>match x1 with| .inl y1=>some y1| .inr y1=>some (true,y1)
def jw:=kO cb k0
def gJ:Xc vw:={P:=prog,n:=20,call:=jw.1,pre:=p_,sh:=ow,loops:=λk=>match k with|2=>some {cut:=lg,alts:=[.ret, .exit 0],F:=dt}|_=>none}
theorem po(C:Ctx)(hP:C.P=prog)(hN:C.N=20/\Fx C p_):bC C (ae (aa Tryz.f69) 0) (sh:=ow) {cut:=lg,alts:=[.ret, .exit 0],F:=dt}:=
 dt.partial_correctness (motive:=λv out=>d6 C (ae (aa Tryz.f69) 0) (Go.Tx.az vw (bh vw lg v)) (eF ow [.ret, .exit 0] out)) λF ih v out h=>
  aH (X:=gJ) (b:=(ae (aa Tryz.f69) 0)) hP hN Ty.mixed jw.2 (au (X:=gJ) (c:=(ae (aa Tryz.f69) 0)) (am (by kernel_rfl:True=bv (ax C (gJ)) (aw (ae (aa Tryz.f69) 0))) trivial)) ih (am (by kernel_rfl) h)
theorem lZ:bc prog 69 lJ eB:=λv r x h hx=>
 bj (X:=gJ) (sig:=lJ) rfl Tryz.func69 (c:=aa Tryz.f69) (by kernel_rfl) Tryz.ntmps69 (by kernel_rfl) (by kernel_rfl) rfl Ty.mixed jw.2 rfl (λC hP hN=>(au (am (by kernel_rfl:bv (ax C (gJ)) [(ae (aa Tryz.f69) 0)]=bv (ax C (gJ)) (aw (aa Tryz.f69))) ⟨bd (X:=gJ) (b:=(ae (aa Tryz.f69) 0)) (by kernel_rfl) (po C hP hN),trivial⟩))) (am (by kernel_rfl) h) x hx
def fI:Cut SN:=⟨[(0, .bp 100000 0),(2, .bp 2 0),(4,Dq4),(5,Dq1)],[(100000, .st .readerT),(2, .st .tagT)]⟩
def uP:Cut SN:=⟨[(0, .bp 100000 0),(2, .bp 2 0),(5,Dq1)],[(100000, .st .readerT),(2, .st .tagT)]⟩
def xO:Cut SN:=⟨[(0, .bp 100000 0),(2, .bp 2 0),(4,Dq4),(5,Dq1),(12,Dq4)],[(100000, .st .readerT),(2, .st .tagT)]⟩
def xP:Cut SN:=⟨[(0, .bp 100000 0),(2, .bp 2 0),(4,Dq4),(5,Dq1),(28,Dq4)],[(100000, .st .readerT),(2, .st .tagT)]⟩
def ew:Cut SN:=⟨[(0, .bp 100000 0),(2, .bp 2 0),(3,Dq4)],[(100000, .st .readerT),(2, .st .tagT)]⟩
def oy:ba vw:=shL [(1,fI)] ew
def qb:Nat->Bool:=λ_=>false
def lK:Sig vw:={params:=[.bp 100000 0],objs:=[(100000, .st .readerT)],rcut:=ew,rvars:=[.cell 2 25, .tmp 3],keep:=[100000]}
abbrev J3:=Bool×Int×ap×Tag×Unit
noncomputable def du(v:J3):Option ((J3)):=(a_ (v.2.2.1,())>>=λx1=>if decide (x1.1>=(48:Int))=true then a_ x1.2>>=λx2=>some ((v.1,v.2.1,decide (x2.1<=(57:Int)),x2.2.1,v.2.2.2))else some (v.1,v.2.1,false,x1.2.1,v.2.2.2))>>=λx1=>if x1.2.2.1=true then a_ (x1.2.2.2.1,())>>=λx2=>du (x1.1,min (i64.wrap (i64.wrap ((10:Int) *x1.2.1)+i64.wrap (IntKind.u8.wrap (x2.1-(48:Int))))) (576460752303423488:Int),ap.mk x2.2.1.s (i64.wrap (x2.2.1.at0+(1:Int))),x1.2.2.2.2)else some (x1.1,x1.2.1,x1.2.2.2) partial_fixpoint
abbrev Tq2:=Bool×ap×Tag×Unit
noncomputable def io(v:ap×Unit):Option (Tq2):=aQ (NA #[45],v)>>=λx1=>(aQ (NA #[48],x1.2)>>=λx2=>if x2.1=true then some (OC (x1.1,(0:Int),x2.2.1,Tag.mk (0:Int) (0:Int) (NA #[]) [] [],()))else(a_ x2.2>>=λx3=>if decide (x3.1>=(49:Int))=true then a_ x3.2>>=λx4=>some ((x1.1,(0:Int),decide (x4.1<=(57:Int)),x4.2.1,Tag.mk (0:Int) (0:Int) (NA #[]) [] [],()))else some ((x1.1,(0:Int),false,x3.2.1,Tag.mk (0:Int) (0:Int) (NA #[]) [] [],())))>>=λx3=>if x3.2.2.1=true then du (x3.1,x3.2.1,x3.2.2.2)>>=λx4=>some (OC x4)else some (OR (false,x3.2.2.2.1,Tag.mk (0:Int) (0:Int) (NA #[]) [] [],())))>>=λx2=>match x2 with| .inl y2=>(if y2.1=true then some ((i64.wrap ((0:Int) -y2.2.1),y2.2.2))else some (y2.2))>>=λx3=>some ((true,x3.2.1,Tag.mk (3:Int) x3.1 (NA #[]) [] [],()))| .inr y2=>some y2
def jx:=kO dJ (kO cb k0)
def gK:Xc vw:={P:=prog,n:=49,call:=jx.1,pre:=qb,sh:=oy,joins:=λk=>match k with|9=>some (fI,[.norm, .ret])|11=>some (uP,[.norm])|_=>none,regs:=λk=>match k with|5=>some xO|6=>some xP|_=>none,loops:=λk=>match k with|6=>some {cut:=fI,alts:=[.exit 1],F:=du}|_=>none}
theorem pq(C:Ctx)(hP:C.P=prog)(hN:C.N=49/\Fx C qb):bC C (ae (aa Tryz.f70) 0) (sh:=oy) {cut:=fI,alts:=[.exit 1],F:=du}:=
 du.partial_correctness (motive:=λv out=>d6 C (ae (aa Tryz.f70) 0) (Go.Tx.az vw (bh vw fI v)) (eF oy [.exit 1] out)) λF ih v out h=>
  aH (X:=gK) (b:=(ae (aa Tryz.f70) 0)) hP hN Ty.mixed jx.2 (au (X:=gK) (c:=(ae (aa Tryz.f70) 0)) (am (by kernel_rfl:True=bv (ax C (gK)) (aw (ae (aa Tryz.f70) 0))) trivial)) ih (am (by kernel_rfl) h)
theorem tJ:bc prog 70 lK io:=λv r x h hx=>
 bj (X:=gK) (sig:=lK) rfl Tryz.func70 (c:=aa Tryz.f70) (by kernel_rfl) Tryz.ntmps70 (by kernel_rfl) (by kernel_rfl) rfl Ty.mixed jx.2 rfl (λC hP hN=>(au (am (by kernel_rfl:bv (ax C (gK)) [(ae (aa Tryz.f70) 0)]=bv (ax C (gK)) (aw (aa Tryz.f70))) ⟨bd (X:=gK) (b:=(ae (aa Tryz.f70) 0)) (by kernel_rfl) (pq C hP hN),trivial⟩))) (am (by kernel_rfl) h) x hx
def Cc:ba vw:={rcut:=C9}
def yN:Nat->Bool:=λ_=>false
def qr:Sig vw:={params:=[.bp 100000 0],objs:=[(100000, .box (some 108) [.np 100000, .vh 100001]),(100001,Oq8)],rcut:=C9,rvars:=[.tmp 2]}
noncomputable def nZ(v:Bool×(List Int)×Unit):Option (ByteArray×Unit):=if(↑v.2.1.length:Int)=(↑v.2.1.length:Int)/\v.2.1.length<=(4294967296:Nat)then some ((Bs.bytes v.2.1,()))else none
def ER:Xc vw:={P:=prog,n:=14,call:=c0,pre:=yN,sh:=Cc}
theorem tK:bc prog 96 qr nZ:=λv r x h hx=>
 bj (X:=ER) (sig:=qr) rfl Tryz.func96 (c:=aa Tryz.f96) (by kernel_rfl) Tryz.ntmps96 (by kernel_rfl) (by kernel_rfl) rfl Ty.mixed j4 rfl (λC hP hN=>(au (am (by kernel_rfl) trivial))) (am (by kernel_rfl) h) x hx
def xR:Cut SN:=⟨[(0, .bp 100000 0),(4,Dq1),(24,Dq4)],[(100000, .st .readerT)]⟩
def xS:Cut SN:=⟨[(0, .bp 100000 0),(5,CT),(6,Dq4),(52,Dq4)],[(100000, .st .readerT)]⟩
def sy:Cut SN:=⟨[(0, .bp 100000 0),(2,CT),(3,Dq4)],[(100000, .st .readerT)]⟩
def Cd:ba vw:={rcut:=sy}
def yO:Nat->Bool:=λ_=>false
def qt:Sig vw:={params:=[.bp 100000 0],objs:=[(100000, .st .readerT)],rcut:=sy,rvars:=[.tmp 2, .tmp 3],keep:=[100000]}
noncomputable def kF(v:ap×Unit):Option (J5):=a_ v>>=λx1=>Bi (NA #[34,92,47,98,102,110,114,116],x1.1,())>>=λx2=>(if decide (x1.2.1.at0<(↑x1.2.1.s.size:Int))=true then some ((x2.1,decide (x2.1>=(0:Int)),x1.2))else some (x2.1,false,x1.2))>>=λx3=>if x3.2.1=true then if(0:Int)<=x3.1 then(NA #[34,92,47,8,12,10,13,9])[x3.1.toNat]?>>=λx4=>some ((i32.wrap (↑x4.toNat:Int),true,ap.mk x3.2.2.1.s (i64.wrap (x3.2.2.1.at0+(1:Int))),()))else none else aQ (NA #[117],x3.2.2)>>=λx4=>if(!x4.1)=true then some (((0:Int),false,x4.2))else fU (NA #[48,49,50,51,52,53,54,55,56,57,97,98,99,101,102,65,66,67,69,70],NA #[48,49,50,51,52,53,54,55,56,57,97,98,65,66],x4.2)>>=λx5=>(if(!x5.2.1)=true then some (x5.1,x5.2.1,true,x5.2.2)else if decide (x5.1<(55296:Int))=true then some (x5.1,x5.2.1,true,x5.2.2)else some ((x5.1,x5.2.1,decide (x5.1>=(56320:Int)),x5.2.2)))>>=λx6=>if x6.2.2.1=true then some (x6.1,x6.2.1,x6.2.2.2)else eB (NA #[92,117],x6.2.2.2)>>=λx7=>if(!x7.1)=true then some (((0:Int),false,x7.2))else fU (NA #[],NA #[99,100,101,102,67,68,69,70],x7.2)>>=λx8=>some ((i32.wrap (i32.wrap (i32.wrap ((65536:Int)+Bs.ishl i32 (i32.wrap (x6.1-(55296:Int))) (10:Int))+x8.1) -(56320:Int)),x8.2))
def nc:=kO dJ (kO lZ (kO cb (kP w4 (kO rq k0))))
def ES:Xc vw:={P:=prog,n:=71,call:=nc.1,pre:=yO,sh:=Cd,regs:=λk=>match k with|2=>some xR|8=>some xS|_=>none}
theorem tL:bc prog 97 qt kF:=λv r x h hx=>
 bj (X:=ES) (sig:=qt) rfl Tryz.func97 (c:=aa Tryz.f97) (by kernel_rfl) Tryz.ntmps97 (by kernel_rfl) (by kernel_rfl) rfl Ty.mixed nc.2 rfl (λC hP hN=>(au (am (by kernel_rfl) trivial))) (am (by kernel_rfl) h) x hx
def Ce:ba vw:={rcut:=iB}
def yP:Nat->Bool:=λ_=>false
def qu:Sig vw:={params:=[.bp 100000 0,CT],objs:=[(100000, .box (some 108) [.np 100000, .vh 100001]),(100001,Oq8)],rcut:=iB,rvars:=[.tmp 4, .tmp 5],keep:=[100000,3001]}
noncomputable def kG(v:FP):Option (FP):=fV v.2>>=λx1=>iN (v.1,x1.2)>>=λx2=>some ((i64.wrap ((↑x2.1.length:Int) -(↑x1.2.1.length:Int)),x1.1,x2))
def ng:=kO kD (kO ru k0)
def ET:Xc vw:={P:=prog,n:=30,call:=ng.1,pre:=yP,sh:=Ce}
theorem tM:bc prog 98 qu kG:=λv r x h hx=>
 bj (X:=ET) (sig:=qu) rfl Tryz.func98 (c:=aa Tryz.f98) (by kernel_rfl) Tryz.ntmps98 (by kernel_rfl) (by kernel_rfl) rfl Ty.mixed ng.2 rfl (λC hP hN=>(au (am (by kernel_rfl) trivial))) (am (by kernel_rfl) h) x hx
def jr:Cut SN:=⟨[(0, .bp 100000 0),(4,Dq7),(5,Dq7),(48,Dq1),(49,Dq1)],[(100000, .st .readerT)]⟩
def uQ:Cut SN:=⟨[(0, .bp 100000 0),(3,Dq7),(4,Dq7),(5,Dq7),(6,Dq1)],[(100000, .st .readerT)]⟩
def uR:Cut SN:=⟨[(0, .bp 100000 0),(4,Dq7),(5,Dq7),(6,Dq1)],[(100000, .st .readerT)]⟩
def xT:Cut SN:=⟨[(0, .bp 100000 0),(3,Dq7),(4,Dq7),(5,Dq7),(19,Dq4)],[(100000, .st .readerT)]⟩
def sA:Cut SN:=⟨[(0, .bp 100000 0),(2,Dq4)],[(100000, .st .readerT)]⟩
def oC:ba vw:=shL [(2,dA)] sA
def qg:Nat->Bool:=λ_=>false
def qw:Sig vw:={params:=[.bp 100000 0],objs:=[(100000, .st .readerT)],rcut:=sA,rvars:=[.tmp 2],keep:=[100000]}
abbrev Mi:=Int×Int×Int×Int×ap×Unit
noncomputable def cU(v:Mi):Option (((Bool×ap×Unit)⊕(ap×Unit))):=if decide (v.2.2.2.1<v.2.2.1)=true then lz (v.1,v.2.1,v.2.2.2.2)>>=λx1=>if(!x1.1)=true then some (OC (false,x1.2))else cU ((128:Int),(191:Int),v.2.2.1,i64.wrap (v.2.2.2.1+(1:Int)),x1.2)else some (OR v.2.2.2.2) partial_fixpoint
noncomputable def kH(v:ap×Unit):Option (Bool×ap×Unit):=if(0:Int)<=v.1.at0 then v.1.s[v.1.at0.toNat]?>>=λx1=>(if decide ((↑x1.toNat:Int)<(128:Int))=true then some (OC ((↑x1.toNat:Int),(128:Int),(191:Int),(0:Int),v))else(if decide ((↑x1.toNat:Int)<(194:Int))=true then some (((↑x1.toNat:Int),(128:Int),(191:Int),true,v))else some (((↑x1.toNat:Int),(128:Int),(191:Int),decide ((↑x1.toNat:Int)>(244:Int)),v)))>>=λx2=>if x2.2.2.2.1=true then some (OR (false,x2.2.2.2.2))else if decide (x2.1<(224:Int))=true then some (OC (x2.1,x2.2.1,x2.2.2.1,(1:Int),x2.2.2.2.2))else if decide (x2.1<(240:Int))=true then some (OC (x2.1,x2.2.1,x2.2.2.1,(2:Int),x2.2.2.2.2))else some (OC (x2.1,x2.2.1,x2.2.2.1,(3:Int),x2.2.2.2.2)))>>=λx2=>match x2 with| .inl y2=>(if(y2.1==(224:Int))=true then some (((160:Int),y2.2.2))else if(y2.1==(237:Int))=true then some ((y2.2.1,(159:Int),y2.2.2.2))else if(y2.1==(240:Int))=true then some (((144:Int),y2.2.2))else if(y2.1==(244:Int))=true then some ((y2.2.1,(143:Int),y2.2.2.2))else some (y2.2))>>=λx3=>cU (x3.1,x3.2.1,x3.2.2.1,(0:Int),ap.mk x3.2.2.2.1.s (i64.wrap (x3.2.2.2.1.at0+(1:Int))),())>>=λx4=>match x4 with| .inl y4=>some y4| .inr y4=>some (true,y4)| .inr y2=>some y2 else none
def jB:=kO rv k0
def gM:Xc vw:={P:=prog,n:=57,call:=jB.1,pre:=qg,sh:=oC,joins:=λk=>match k with|11=>some (uQ,[.norm, .ret])|20=>some (uR,[.norm])|_=>none,regs:=λk=>match k with|5=>some xT|_=>none,loops:=λk=>match k with|22=>some {cut:=jr,alts:=[.ret, .exit 2],F:=cU}|_=>none}
theorem n4(C:Ctx)(hP:C.P=prog)(hN:C.N=57/\Fx C qg):bC C (ae (aa Tryz.f99) 0) (sh:=oC) {cut:=jr,alts:=[.ret, .exit 2],F:=cU}:=
 cU.partial_correctness (motive:=λv out=>d6 C (ae (aa Tryz.f99) 0) (Go.Tx.az vw (bh vw jr v)) (eF oC [.ret, .exit 2] out)) λF ih v out h=>
  aH (X:=gM) (b:=(ae (aa Tryz.f99) 0)) hP hN Ty.mixed jB.2 (au (X:=gM) (c:=(ae (aa Tryz.f99) 0)) (am (by kernel_rfl:True=bv (ax C (gM)) (aw (ae (aa Tryz.f99) 0))) trivial)) ih (am (by kernel_rfl) h)
theorem tN:bc prog 99 qw kH:=λv r x h hx=>
 bj (X:=gM) (sig:=qw) rfl Tryz.func99 (c:=aa Tryz.f99) (by kernel_rfl) Tryz.ntmps99 (by kernel_rfl) (by kernel_rfl) rfl Ty.mixed jB.2 rfl (λC hP hN=>(au (am (by kernel_rfl:bv (ax C (gM)) [(ae (aa Tryz.f99) 0)]=bv (ax C (gM)) (aw (aa Tryz.f99))) ⟨bd (X:=gM) (b:=(ae (aa Tryz.f99) 0)) (by kernel_rfl) (n4 C hP hN),trivial⟩))) (am (by kernel_rfl) h) x hx
def iD:Cut SN:=⟨[(0, .bp 100000 0),(4, .bp 4 0)],[(100000, .st .readerT),(4, .box (some 108) [.np 4, .vh 3041]),(3041,Oq8)]⟩
def sx:Cut SN:=⟨[(0, .bp 100000 0),(2,Dq5),(3,Dq4)],[(100000, .st .readerT)]⟩
def oz:ba vw:={rcut:=sx}
def qd:Nat->Bool:=λ_=>false
def iR:Sig vw:={params:=[.bp 100000 0],objs:=[(100000, .st .readerT)],rcut:=sx,rvars:=[.tmp 2, .tmp 3],keep:=[100000]}
abbrev J4:=ByteArray×Bool×ap×Unit
noncomputable def cT(v:ap×Bool×(List Int)×Unit):Option ((J4)):=a_ (v.1,())>>=λx1=>if(x1.1==(34:Int))=true then nZ v.2>>=λx2=>some ((x2.1,true,ap.mk x1.2.1.s (i64.wrap (x1.2.1.at0+(1:Int))),()))else if decide (x1.1<(32:Int))=true then some (NA #[],false,x1.2)else if(x1.1==(92:Int))=true then kF (ap.mk x1.2.1.s (i64.wrap (x1.2.1.at0+(1:Int))),())>>=λx2=>if(!x2.2.1)=true then some (NA #[],false,x2.2.2)else kG (x2.1,v.2)>>=λx3=>cT (x2.2.2.1,x3.2)else kH x1.2>>=λx2=>if(!x2.1)=true then some (NA #[],false,x2.2)else if(0:Int)<=x1.2.1.at0/\x1.2.1.at0<=x2.2.1.at0/\x2.2.1.at0<=(↑x2.2.1.s.size:Int)then iM (x2.2.1.s.extract x1.2.1.at0.toNat x2.2.1.at0.toNat,v.2)>>=λx3=>cT (x2.2.1,x3.2)else none partial_fixpoint
noncomputable def eC(v:ap×Unit):Option (J4):=some (v.1,false,[],())>>=λx1=>cT (ap.mk x1.1.s (i64.wrap (x1.1.at0+(1:Int))),x1.2)>>=λx2=>some x2
def jy:=kO dJ (kO tK (kO tL (kO tM (kO tN (kO rn k0)))))
def gL:Xc vw:={P:=prog,n:=69,call:=jy.1,pre:=qd,sh:=oz,regs:=λk=>match k with|1=>some iD|_=>none,loops:=λk=>match k with|3=>some {cut:=iD,alts:=[.ret],F:=cT}|_=>none}
theorem pu(C:Ctx)(hP:C.P=prog)(hN:C.N=69/\Fx C qd):bC C (ae (aa Tryz.f71) 0) (sh:=oz) {cut:=iD,alts:=[.ret],F:=cT}:=
 cT.partial_correctness (motive:=λv out=>d6 C (ae (aa Tryz.f71) 0) (Go.Tx.az vw (bh vw iD v)) (eF oz [.ret] out)) λF ih v out h=>
  aH (X:=gL) (b:=(ae (aa Tryz.f71) 0)) hP hN Ty.mixed jy.2 (au (X:=gL) (c:=(ae (aa Tryz.f71) 0)) (am (by kernel_rfl:True=bv (ax C (gL)) (aw (ae (aa Tryz.f71) 0))) trivial)) ih (am (by kernel_rfl) h)
theorem ip:bc prog 71 iR eC:=λv r x h hx=>
 bj (X:=gL) (sig:=iR) rfl Tryz.func71 (c:=aa Tryz.f71) (by kernel_rfl) Tryz.ntmps71 (by kernel_rfl) (by kernel_rfl) rfl Ty.mixed jy.2 rfl (λC hP hN=>(au (am (by kernel_rfl:bv (ax C (gL)) [(ae (aa Tryz.f71) 0)]=bv (ax C (gL)) (aw (aa Tryz.f71))) ⟨bd (X:=gL) (b:=(ae (aa Tryz.f71) 0)) (by kernel_rfl) (pu C hP hN),trivial⟩))) (am (by kernel_rfl) h) x hx
def xL:Cut SN:=⟨[(0, .bp 100000 0),(2, .bp 2 0),(4,Dq7),(29,Dq4)],[(100000, .st .readerT),(2, .st .tagT)]⟩
def B9:ba vw:={rcut:=ew}
def yI:Nat->Bool:=λ_=>false
def bM:Sig vw:={params:=[.bp 100000 0],objs:=[(100000, .st .readerT)],rcut:=ew,rvars:=[.cell 2 25, .tmp 3],keep:=[100000]}
def bF:Cut SN:=⟨[(0, .bp 100000 0),(2, .bp 2 0),(4, .bp 4 0)],[(100000, .st .readerT),(2, .st .tagT),(4, .box none [Dq1,Dq1,Dq5, .vh 3043, .vh 3044]),(3043,Oq9),(3044,CU)]⟩
def oA:ba vw:=shL [(1000000,bF)] ew
def qe:Nat->Bool:=λ_=>false
def cn:Sig vw:={params:=[.bp 100000 0],objs:=[(100000, .st .readerT)],rcut:=ew,rvars:=[.cell 2 25, .tmp 3],keep:=[100000]}
def oB:ba vw:=shL [(1000000,bF)] ew
def qf:Nat->Bool:=λ_=>false
def co:Sig vw:={params:=[.bp 100000 0],objs:=[(100000, .st .readerT)],rcut:=ew,rvars:=[.cell 2 25, .tmp 3],keep:=[100000]}
abbrev Tq1:=ap×Tag×Int×Int×ByteArray×(List ByteArray)×(List Tag)×Unit
mutual
noncomputable def aP(v:ap×Unit):Option (Tq2):=bx v>>=λx1=>a_ x1>>=λx2=>if(x2.1==(110:Int))=true then eB (NA #[110,117,108,108],x2.2)>>=λx3=>some ((x3.1,x3.2.1,Tag.mk (0:Int) (0:Int) (NA #[]) [] [],()))else if(x2.1==(102:Int))=true then eB (NA #[102,97,108,115,101],x2.2)>>=λx3=>some ((x3.1,x3.2.1,Tag.mk (1:Int) (0:Int) (NA #[]) [] [],()))else if(x2.1==(116:Int))=true then eB (NA #[116,114,117,101],x2.2)>>=λx3=>some ((x3.1,x3.2.1,Tag.mk (2:Int) (0:Int) (NA #[]) [] [],()))else(if(x2.1==(45:Int))=true then some ((x2.1,true,x2.2.1,Tag.mk (0:Int) (0:Int) (NA #[]) [] [],()))else if decide (x2.1>=(48:Int))=true then some ((x2.1,decide (x2.1<=(57:Int)),x2.2.1,Tag.mk (0:Int) (0:Int) (NA #[]) [] [],()))else some ((x2.1,false,x2.2.1,Tag.mk (0:Int) (0:Int) (NA #[]) [] [],())))>>=λx3=>if x3.2.1=true then io (x3.2.2.1,())>>=λx4=>some (x4)else if(x3.1==(34:Int))=true then eC (x3.2.2.1,())>>=λx4=>some ((x4.2.1,x4.2.2.1,Tag.mk (4:Int) (0:Int) x4.1 [] [],()))else if(x3.1==(91:Int))=true then n_72s0e1d (x3.2.2.1,())>>=λx4=>some (x4)else if(x3.1==(123:Int))=true then n_73s0e1d (x3.2.2.1,())>>=λx4=>some (x4)else some ((false,x3.2.2.1,Tag.mk (0:Int) (0:Int) (NA #[]) [] [],())) partial_fixpoint
noncomputable def n_73s0e1d(v:ap×Unit):Option (Tq2):=some (v.1,Tag.mk (0:Int) (0:Int) (NA #[]) [] [],(6:Int),(0:Int),NA #[],[],[],())>>=λx1=>bx (ap.mk x1.1.s (i64.wrap (x1.1.at0+(1:Int))),())>>=λx2=>aQ (NA #[125],x2)>>=λx3=>if x3.1=true then some ((true,x3.2.1,Tag.mk x1.2.2.1 x1.2.2.2.1 x1.2.2.2.2.1 x1.2.2.2.2.2.1 x1.2.2.2.2.2.2.1,()))else bx x3.2>>=λx4=>a_ x4>>=λx5=>if(x5.1 !=(34:Int))=true then some ((false,x5.2.1,Tag.mk (0:Int) (0:Int) (NA #[]) [] [],()))else eC x5.2>>=λx6=>if(!x6.2.1)=true then some ((false,x6.2.2.1,Tag.mk (0:Int) (0:Int) (NA #[]) [] [],()))else bx x6.2.2>>=λx7=>aQ (NA #[58],x7)>>=λx8=>if(!x8.1)=true then some ((false,x8.2.1,Tag.mk (0:Int) (0:Int) (NA #[]) [] [],()))else aP x8.2>>=λx9=>if(!x9.1)=true then some ((false,x9.2.1,Tag.mk (0:Int) (0:Int) (NA #[]) [] [],()))else if x1.2.2.2.2.2.1.length+[x6.1].length<=(4294967296:Nat)then if x1.2.2.2.2.2.2.1.length+[x9.2.2.1].length<=(4294967296:Nat)then bx (x9.2.1,())>>=λx10=>aQ (NA #[44],x10)>>=λx11=>if x11.1=true then n_73s0e1dg1 (x11.2.1,x1.2.1,x1.2.2.1,x1.2.2.2.1,x1.2.2.2.2.1,x1.2.2.2.2.2.1++[x6.1],x1.2.2.2.2.2.2.1++[x9.2.2.1],())>>=λx12=>some x12 else aQ (NA #[125],x11.2)>>=λx12=>some ((x12.1,x12.2.1,Tag.mk x1.2.2.1 x1.2.2.2.1 x1.2.2.2.2.1 (x1.2.2.2.2.2.1++[x6.1]) (x1.2.2.2.2.2.2.1++[x9.2.2.1]),()))else none else none partial_fixpoint
noncomputable def n_73s0e1dg1(v:Tq1):Option ((Tq2)):=bx (v.1,())>>=λx1=>a_ x1>>=λx2=>if(x2.1 !=(34:Int))=true then some ((false,x2.2.1,Tag.mk (0:Int) (0:Int) (NA #[]) [] [],()))else eC x2.2>>=λx3=>if(!x3.2.1)=true then some ((false,x3.2.2.1,Tag.mk (0:Int) (0:Int) (NA #[]) [] [],()))else bx x3.2.2>>=λx4=>aQ (NA #[58],x4)>>=λx5=>if(!x5.1)=true then some ((false,x5.2.1,Tag.mk (0:Int) (0:Int) (NA #[]) [] [],()))else aP x5.2>>=λx6=>if(!x6.1)=true then some ((false,x6.2.1,Tag.mk (0:Int) (0:Int) (NA #[]) [] [],()))else if v.2.2.2.2.2.1.length+[x3.1].length<=(4294967296:Nat)then if v.2.2.2.2.2.2.1.length+[x6.2.2.1].length<=(4294967296:Nat)then bx (x6.2.1,())>>=λx7=>aQ (NA #[44],x7)>>=λx8=>if x8.1=true then n_73s0e1dg1 (x8.2.1,v.2.1,v.2.2.1,v.2.2.2.1,v.2.2.2.2.1,v.2.2.2.2.2.1++[x3.1],v.2.2.2.2.2.2.1++[x6.2.2.1],())else aQ (NA #[125],x8.2)>>=λx9=>some ((x9.1,x9.2.1,Tag.mk v.2.2.1 v.2.2.2.1 v.2.2.2.2.1 (v.2.2.2.2.2.1++[x3.1]) (v.2.2.2.2.2.2.1++[x6.2.2.1]),()))else none else none partial_fixpoint
noncomputable def n_72s0e1d(v:ap×Unit):Option (Tq2):=some (v.1,Tag.mk (0:Int) (0:Int) (NA #[]) [] [],(5:Int),(0:Int),NA #[],[],[],())>>=λx1=>bx (ap.mk x1.1.s (i64.wrap (x1.1.at0+(1:Int))),())>>=λx2=>aQ (NA #[93],x2)>>=λx3=>if x3.1=true then some ((true,x3.2.1,Tag.mk x1.2.2.1 x1.2.2.2.1 x1.2.2.2.2.1 x1.2.2.2.2.2.1 x1.2.2.2.2.2.2.1,()))else aP x3.2>>=λx4=>if(!x4.1)=true then some ((false,x4.2.1,Tag.mk (0:Int) (0:Int) (NA #[]) [] [],()))else if x1.2.2.2.2.2.2.1.length+[x4.2.2.1].length<=(4294967296:Nat)then bx (x4.2.1,())>>=λx5=>aQ (NA #[44],x5)>>=λx6=>if x6.1=true then n_72s0e1dg1 (x6.2.1,x1.2.1,x1.2.2.1,x1.2.2.2.1,x1.2.2.2.2.1,x1.2.2.2.2.2.1,x1.2.2.2.2.2.2.1++[x4.2.2.1],())>>=λx7=>some x7 else aQ (NA #[93],x6.2)>>=λx7=>some ((x7.1,x7.2.1,Tag.mk x1.2.2.1 x1.2.2.2.1 x1.2.2.2.2.1 x1.2.2.2.2.2.1 (x1.2.2.2.2.2.2.1++[x4.2.2.1]),()))else none partial_fixpoint
noncomputable def n_72s0e1dg1(v:Tq1):Option ((Tq2)):=aP (v.1,())>>=λx1=>if(!x1.1)=true then some ((false,x1.2.1,Tag.mk (0:Int) (0:Int) (NA #[]) [] [],()))else if v.2.2.2.2.2.2.1.length+[x1.2.2.1].length<=(4294967296:Nat)then bx (x1.2.1,())>>=λx2=>aQ (NA #[44],x2)>>=λx3=>if x3.1=true then n_72s0e1dg1 (x3.2.1,v.2.1,v.2.2.1,v.2.2.2.1,v.2.2.2.2.1,v.2.2.2.2.2.1,v.2.2.2.2.2.2.1++[x1.2.2.1],())else aQ (NA #[93],x3.2)>>=λx4=>some ((x4.1,x4.2.1,Tag.mk v.2.2.1 v.2.2.2.1 v.2.2.2.2.1 v.2.2.2.2.2.1 (v.2.2.2.2.2.2.1++[x1.2.2.1]),()))else none partial_fixpoint
end
def na(aP:ap×Unit->Option (Tq2))(n_73s0e1d:ap×Unit->Option (Tq2))(n_73s0e1dg1:Tq1->Option ((Tq2)))(n_72s0e1d:ap×Unit->Option (Tq2))(n_72s0e1dg1:Tq1->Option ((Tq2))):bm vw:=λA fid args S k=>match fid with|50=>bN prog f5 bx A args S k|68=>bN prog iQ a_ A args S k|69=>bN prog lJ eB A args S k|70=>bN prog lK io A args S k|71=>bN prog iR eC A args S k|72=>bN prog cn n_72s0e1d A args S k|73=>bN prog co n_73s0e1d A args S k|_=>none
def iU(aP:ap×Unit->Option (Tq2))(n_73s0e1d:ap×Unit->Option (Tq2))(n_73s0e1dg1:Tq1->Option ((Tq2)))(n_72s0e1d:ap×Unit->Option (Tq2))(n_72s0e1dg1:Tq1->Option ((Tq2))):Xc vw:={P:=prog,n:=70,call:=na aP n_73s0e1d n_73s0e1dg1 n_72s0e1d n_72s0e1dg1,pre:=yI,sh:=B9,regs:=λk=>match k with|9=>some xL|_=>none}
def jz(aP:ap×Unit->Option (Tq2))(n_73s0e1d:ap×Unit->Option (Tq2))(n_73s0e1dg1:Tq1->Option ((Tq2)))(n_72s0e1d:ap×Unit->Option (Tq2))(n_72s0e1dg1:Tq1->Option ((Tq2))):bm vw:=λA fid args S k=>match fid with|49=>bN prog bM aP A args S k|50=>bN prog f5 bx A args S k|74=>bN prog iS aQ A args S k|_=>none
def bK(aP:ap×Unit->Option (Tq2))(n_73s0e1d:ap×Unit->Option (Tq2))(n_73s0e1dg1:Tq1->Option ((Tq2)))(n_72s0e1d:ap×Unit->Option (Tq2))(n_72s0e1dg1:Tq1->Option ((Tq2))):Xc vw:={P:=prog,n:=41,nm:=λd=>match d with|7=>40007|_=>d,call:=jz aP n_73s0e1d n_73s0e1dg1 n_72s0e1d n_72s0e1dg1,pre:=qe,sh:=oA,regs:=λk=>match k with|1=>some bF|_=>none,jumps:=λk=>match k with|1=>some (0,{cut:=bF,alts:=[.ret],F:=n_72s0e1dg1})|_=>none}
def jA(aP:ap×Unit->Option (Tq2))(n_73s0e1d:ap×Unit->Option (Tq2))(n_73s0e1dg1:Tq1->Option ((Tq2)))(n_72s0e1d:ap×Unit->Option (Tq2))(n_72s0e1dg1:Tq1->Option ((Tq2))):bm vw:=λA fid args S k=>match fid with|49=>bN prog bM aP A args S k|50=>bN prog f5 bx A args S k|68=>bN prog iQ a_ A args S k|71=>bN prog iR eC A args S k|74=>bN prog iS aQ A args S k|_=>none
def bL(aP:ap×Unit->Option (Tq2))(n_73s0e1d:ap×Unit->Option (Tq2))(n_73s0e1dg1:Tq1->Option ((Tq2)))(n_72s0e1d:ap×Unit->Option (Tq2))(n_72s0e1dg1:Tq1->Option ((Tq2))):Xc vw:={P:=prog,n:=68,nm:=λd=>match d with|8=>40008|_=>d,call:=jA aP n_73s0e1d n_73s0e1dg1 n_72s0e1d n_72s0e1dg1,pre:=qf,sh:=oB,regs:=λk=>match k with|1=>some bF|_=>none,jumps:=λk=>match k with|1=>some (0,{cut:=bF,alts:=[.ret],F:=n_73s0e1dg1})|_=>none}
abbrev cj(v:ap×Unit)(r:Tq2):Prop:=(λv r=>∀x,lG prog bM r=some x->cX prog 49 (encL vw (aD bM v).len (bi bM v).1) (br (aD bM v).len (aD bM v).own) (an vw (bh vw bM.rcut r).len x) (br (bh vw bM.rcut r).len (gO bM r))) v r
abbrev fT(v:ap×Unit)(r:Tq2):Prop:=(λv r=>∀x,lG prog co r=some x->cX prog 73 (encL vw (aD co v).len (bi co v).1) (br (aD co v).len (aD co v).own) (an vw (bh vw co.rcut r).len x) (br (bh vw co.rcut r).len (gO co r))) v r
abbrev cN(v:Tq1)(r:(Tq2)):Prop:=(λv out=>∀C:Ctx,C.P=prog->C.N=68/\Fx C qf->uw C (bJ (aa Tryz.f73) 0) (fx (bJ (aa Tryz.f73) 0) 0) (Go.Tx.az vw (bh vw bF v)) (eF oB [.ret] out)) v r
abbrev fS(v:ap×Unit)(r:Tq2):Prop:=(λv r=>∀x,lG prog cn r=some x->cX prog 72 (encL vw (aD cn v).len (bi cn v).1) (br (aD cn v).len (aD cn v).own) (an vw (bh vw cn.rcut r).len x) (br (bh vw cn.rcut r).len (gO cn r))) v r
abbrev cM(v:Tq1)(r:(Tq2)):Prop:=(λv out=>∀C:Ctx,C.P=prog->C.N=41/\Fx C qe->uw C (bJ (aa Tryz.f72) 0) (fx (bJ (aa Tryz.f72) 0) 0) (Go.Tx.az vw (bh vw bF v)) (eF oA [.ret] out)) v r
theorem xV(f0:ap×Unit->Option (Tq2))(f1:ap×Unit->Option (Tq2))(h0:∀v r,f0 v=some r->fT v r)(h1:∀v r,f1 v=some r->fS v r):ay prog (iU (λ_=>none) f0 (λ_=>none) f1 (λ_=>none)).call:=(by
 intro A fid args S dst k r h
 unfold iU na at h
 simp only at h
 split at h
 ·exact aA (dG) h
 ·exact aA (dJ) h
 ·exact aA (lZ) h
 ·exact aA (tJ) h
 ·exact aA (ip) h
 ·exact aA ((λv r x h hx=>h1 v r h x hx)) h
 ·exact aA ((λv r x h hx=>h0 v r h x hx)) h
 ·cases h)
theorem y_(f0:ap×Unit->Option (Tq2))(f1:ap×Unit->Option (Tq2))(h0:∀v r,f0 v=some r->fT v r)(h1:∀v r,f1 v=some r->fS v r)(v:ap×Unit)(r:Tq2)(h:exF (iU (λ_=>none) f0 (λ_=>none) f1 (λ_=>none)) bM rfl (aa Tryz.f49) v=some r):cj v r:=λx hx=>bj (X:=iU (λ_=>none) f0 (λ_=>none) f1 (λ_=>none)) (sig:=bM) rfl Tryz.func49 (c:=aa Tryz.f49) (by kernel_rfl) Tryz.ntmps49 (by kernel_rfl) (by kernel_rfl) rfl Ty.mixed (xV f0 f1 h0 h1) rfl (λC hP hN=>(au (X:=iU (λ_=>none) f0 (λ_=>none) f1 (λ_=>none)) (c:=(aa Tryz.f49)) (am (by kernel_rfl:True=bv (ax C (iU (λ_=>none) f0 (λ_=>none) f1 (λ_=>none))) (aw (aa Tryz.f49))) trivial))) h x hx
theorem xX(f0:ap×Unit->Option (Tq2))(f1:Tq1->Option ((Tq2)))(h0:∀v r,f0 v=some r->cj v r)(h1:∀v r,f1 v=some r->cN v r):ay prog (bL f0 (λ_=>none) f1 (λ_=>none) (λ_=>none)).call:=(by
 intro A fid args S dst k r h
 unfold bL jA at h
 simp only at h
 split at h
 ·exact aA ((λv r x h hx=>h0 v r h x hx)) h
 ·exact aA (dG) h
 ·exact aA (dJ) h
 ·exact aA (ip) h
 ·exact aA (cb) h
 ·cases h)
theorem zb(f0:ap×Unit->Option (Tq2))(f1:Tq1->Option ((Tq2)))(h0:∀v r,f0 v=some r->cj v r)(h1:∀v r,f1 v=some r->cN v r)(v:ap×Unit)(r:Tq2)(h:exF (bL f0 (λ_=>none) f1 (λ_=>none) (λ_=>none)) co rfl (aa Tryz.f73) v=some r):fT v r:=λx hx=>bj (X:=bL f0 (λ_=>none) f1 (λ_=>none) (λ_=>none)) (sig:=co) rfl Tryz.func73 (c:=aa Tryz.f73) (by kernel_rfl) Tryz.ntmps73 (by kernel_rfl) (by kernel_rfl) rfl Ty.mixed (xX f0 f1 h0 h1) rfl (λC hP hN=>(ku (X:=bL f0 (λ_=>none) f1 (λ_=>none) (λ_=>none)) (c:=(aa Tryz.f73)) (am (by kernel_rfl:bv (ax C (bL f0 (λ_=>none) f1 (λ_=>none) (λ_=>none))) []=bv (ax C (bL f0 (λ_=>none) f1 (λ_=>none) (λ_=>none))) (aw (aa Tryz.f73))) trivial) (am (by kernel_rfl:bv (iZ C (bL f0 (λ_=>none) f1 (λ_=>none) (λ_=>none))) [(bJ (aa Tryz.f73) 0)]=bv (iZ C (bL f0 (λ_=>none) f1 (λ_=>none) (λ_=>none))) (eG (aa Tryz.f73))) ⟨AO (X:=bL f0 (λ_=>none) f1 (λ_=>none) (λ_=>none)) (x:=(bJ (aa Tryz.f73) 0)) (l:=0) (by kernel_rfl) (show r_ C (bJ (aa Tryz.f73) 0) 0 (sh:=oB) {cut:=bF,alts:=[.ret],F:=f1}from⟨(fx (bJ (aa Tryz.f73) 0) 0),by kernel_rfl,λv out h=>h1 v out h C hP hN⟩),trivial⟩))) h x hx
theorem sH(f0:ap×Unit->Option (Tq2))(f1:Tq1->Option ((Tq2)))(h0:∀v r,f0 v=some r->cj v r)(h1:∀v r,f1 v=some r->cN v r):ay prog (bL f0 (λ_=>none) f1 (λ_=>none) (λ_=>none)).call:=(by
 intro A fid args S dst k r h
 unfold bL jA at h
 simp only at h
 split at h
 ·exact aA ((λv r x h hx=>h0 v r h x hx)) h
 ·exact aA (dG) h
 ·exact aA (dJ) h
 ·exact aA (ip) h
 ·exact aA (cb) h
 ·cases h)
theorem uh(f0:ap×Unit->Option (Tq2))(f1:Tq1->Option ((Tq2)))(h0:∀v r,f0 v=some r->cj v r)(h1:∀v r,f1 v=some r->cN v r)(v:Tq1)(r:(Tq2))(h:exJ (bL f0 (λ_=>none) f1 (λ_=>none) (λ_=>none)) (fx (bJ (aa Tryz.f73) 0) 0) 0 bF [.ret] f1 v=some r):cN v r:=λC hP hN=>s7 (X:=bL f0 (λ_=>none) f1 (λ_=>none) (λ_=>none)) (x:=(bJ (aa Tryz.f73) 0)) (b:=(fx (bJ (aa Tryz.f73) 0) 0)) (l:=0) hP hN Ty.mixed (sH f0 f1 h0 h1) (by kernel_rfl) (ku (X:=bL f0 (λ_=>none) f1 (λ_=>none) (λ_=>none)) (c:=(fx (bJ (aa Tryz.f73) 0) 0)) (am (by kernel_rfl:bv (ax C (bL f0 (λ_=>none) f1 (λ_=>none) (λ_=>none))) []=bv (ax C (bL f0 (λ_=>none) f1 (λ_=>none) (λ_=>none))) (aw (fx (bJ (aa Tryz.f73) 0) 0))) trivial) (am (by kernel_rfl:bv (iZ C (bL f0 (λ_=>none) f1 (λ_=>none) (λ_=>none))) []=bv (iZ C (bL f0 (λ_=>none) f1 (λ_=>none) (λ_=>none))) (eG (fx (bJ (aa Tryz.f73) 0) 0))) trivial)) (cut:=bF) (alts:=[.ret]) (F:=f1) (λv out h=>h1 v out h C hP hN) h
theorem xW(f0:ap×Unit->Option (Tq2))(f1:Tq1->Option ((Tq2)))(h0:∀v r,f0 v=some r->cj v r)(h1:∀v r,f1 v=some r->cM v r):ay prog (bK f0 (λ_=>none) (λ_=>none) (λ_=>none) f1).call:=(by
 intro A fid args S dst k r h
 unfold bK jz at h
 simp only at h
 split at h
 ·exact aA ((λv r x h hx=>h0 v r h x hx)) h
 ·exact aA (dG) h
 ·exact aA (cb) h
 ·cases h)
theorem za(f0:ap×Unit->Option (Tq2))(f1:Tq1->Option ((Tq2)))(h0:∀v r,f0 v=some r->cj v r)(h1:∀v r,f1 v=some r->cM v r)(v:ap×Unit)(r:Tq2)(h:exF (bK f0 (λ_=>none) (λ_=>none) (λ_=>none) f1) cn rfl (aa Tryz.f72) v=some r):fS v r:=λx hx=>bj (X:=bK f0 (λ_=>none) (λ_=>none) (λ_=>none) f1) (sig:=cn) rfl Tryz.func72 (c:=aa Tryz.f72) (by kernel_rfl) Tryz.ntmps72 (by kernel_rfl) (by kernel_rfl) rfl Ty.mixed (xW f0 f1 h0 h1) rfl (λC hP hN=>(ku (X:=bK f0 (λ_=>none) (λ_=>none) (λ_=>none) f1) (c:=(aa Tryz.f72)) (am (by kernel_rfl:bv (ax C (bK f0 (λ_=>none) (λ_=>none) (λ_=>none) f1)) []=bv (ax C (bK f0 (λ_=>none) (λ_=>none) (λ_=>none) f1)) (aw (aa Tryz.f72))) trivial) (am (by kernel_rfl:bv (iZ C (bK f0 (λ_=>none) (λ_=>none) (λ_=>none) f1)) [(bJ (aa Tryz.f72) 0)]=bv (iZ C (bK f0 (λ_=>none) (λ_=>none) (λ_=>none) f1)) (eG (aa Tryz.f72))) ⟨AO (X:=bK f0 (λ_=>none) (λ_=>none) (λ_=>none) f1) (x:=(bJ (aa Tryz.f72) 0)) (l:=0) (by kernel_rfl) (show r_ C (bJ (aa Tryz.f72) 0) 0 (sh:=oA) {cut:=bF,alts:=[.ret],F:=f1}from⟨(fx (bJ (aa Tryz.f72) 0) 0),by kernel_rfl,λv out h=>h1 v out h C hP hN⟩),trivial⟩))) h x hx
theorem sG(f0:ap×Unit->Option (Tq2))(f1:Tq1->Option ((Tq2)))(h0:∀v r,f0 v=some r->cj v r)(h1:∀v r,f1 v=some r->cM v r):ay prog (bK f0 (λ_=>none) (λ_=>none) (λ_=>none) f1).call:=(by
 intro A fid args S dst k r h
 unfold bK jz at h
 simp only at h
 split at h
 ·exact aA ((λv r x h hx=>h0 v r h x hx)) h
 ·exact aA (dG) h
 ·exact aA (cb) h
 ·cases h)
theorem ug(f0:ap×Unit->Option (Tq2))(f1:Tq1->Option ((Tq2)))(h0:∀v r,f0 v=some r->cj v r)(h1:∀v r,f1 v=some r->cM v r)(v:Tq1)(r:(Tq2))(h:exJ (bK f0 (λ_=>none) (λ_=>none) (λ_=>none) f1) (fx (bJ (aa Tryz.f72) 0) 0) 0 bF [.ret] f1 v=some r):cM v r:=λC hP hN=>s7 (X:=bK f0 (λ_=>none) (λ_=>none) (λ_=>none) f1) (x:=(bJ (aa Tryz.f72) 0)) (b:=(fx (bJ (aa Tryz.f72) 0) 0)) (l:=0) hP hN Ty.mixed (sG f0 f1 h0 h1) (by kernel_rfl) (ku (X:=bK f0 (λ_=>none) (λ_=>none) (λ_=>none) f1) (c:=(fx (bJ (aa Tryz.f72) 0) 0)) (am (by kernel_rfl:bv (ax C (bK f0 (λ_=>none) (λ_=>none) (λ_=>none) f1)) []=bv (ax C (bK f0 (λ_=>none) (λ_=>none) (λ_=>none) f1)) (aw (fx (bJ (aa Tryz.f72) 0) 0))) trivial) (am (by kernel_rfl:bv (iZ C (bK f0 (λ_=>none) (λ_=>none) (λ_=>none) f1)) []=bv (iZ C (bK f0 (λ_=>none) (λ_=>none) (λ_=>none) f1)) (eG (fx (bJ (aa Tryz.f72) 0) 0))) trivial)) (cut:=bF) (alts:=[.ret]) (F:=f1) (λv out h=>h1 v out h C hP hN) h
theorem rA:(∀v r,aP v=some r->cj v r)/\(∀v r,n_73s0e1d v=some r->fT v r)/\(∀v r,n_73s0e1dg1 v=some r->cN v r)/\(∀v r,n_72s0e1d v=some r->fS v r)/\(∀v r,n_72s0e1dg1 v=some r->cM v r):=by
 refine aP.mutual_partial_correctness
  (motive_1:=cj)
  (motive_2:=fT)
  (motive_3:=cN)
  (motive_4:=fS)
  (motive_5:=cM)
  ?_ ?_ ?_ ?_ ?_
 ·exact(λf0 f1 h0 h1 v r h=>y_ f0 f1 h0 h1 v r (am (by kernel_rfl) h))
 ·exact(λf0 f1 h0 h1 v r h=>zb f0 f1 h0 h1 v r (am (by kernel_rfl) h))
 ·exact(λf0 f1 h0 h1 v r h=>uh f0 f1 h0 h1 v r (am (by kernel_rfl) h))
 ·exact(λf0 f1 h0 h1 v r h=>za f0 f1 h0 h1 v r (am (by kernel_rfl) h))
 ·exact(λf0 f1 h0 h1 v r h=>ug f0 f1 h0 h1 v r (am (by kernel_rfl) h))
theorem tI:bc prog 49 bM aP:=λv r x h hx=>rA.1 v r h x hx
def KC:Cut SN:=⟨[(0,Dq5),(2, .bp 2 0),(5, .bp 15 0),(6, .bp 6 0),(7,Dq4)],[(2, .st .tagT),(15, .st .readerT),(6, .st .tagT)]⟩
def KD:Cut SN:=⟨[(0,Dq5),(2, .bp 2 0),(5, .bp 15 0),(6, .bp 6 0),(34,Dq4)],[(2, .st .tagT),(15, .st .readerT),(6, .st .tagT)]⟩
def Mm:Cut SN:=⟨[(2, .bp 2 0),(3,Dq1),(4,Dq1)],[(2, .st .tagT)]⟩
def Na:ba vw:={rcut:=Mm}
def Lx:Nat->Bool:=λ_=>false
def JN:Sig vw:=sg [Dq5] Mm [.cell 2 25, .tmp 3, .tmp 4]
noncomputable def Je(v:ByteArray×Unit):Option (C3):=if decide ((↑v.1.size:Int)>(65536:Int))=true then some (((0:Int),(3:Int),Tag.mk (0:Int) (0:Int) (NA #[]) [] [],()))else aP (ap.mk v.1 (0:Int),())>>=λx1=>(if x1.1=true then bx (x1.2.1,())>>=λx2=>some ((v.1,x1.1,Tag.mk (0:Int) (0:Int) (NA #[]) [] [],x2.1,x1.2.2))else some ((v.1,x1.1,Tag.mk (0:Int) (0:Int) (NA #[]) [] [],x1.2)))>>=λx2=>(if(!x2.2.1)=true then some (x2.1,true,x2.2.2)else some ((x2.1,decide (x2.2.2.2.1.at0<(↑x2.1.size:Int)),x2.2.2)))>>=λx3=>if x3.2.1=true then some ((x3.2.2.2.1.at0,(2:Int),Tag.mk (0:Int) (0:Int) (NA #[]) [] [],()))else tD x3.2.2.2.2>>=λx4=>if(x4.1 !=(0:Int))=true then some (((0:Int),x4.1,Tag.mk (0:Int) (0:Int) (NA #[]) [] [],()))else some (((↑x3.1.size:Int),(0:Int),x3.2.2.2.2))
def Fi:=kP lC (kO tI (kO dG k0))
def x28:Xc vw:={P:=prog,n:=49,call:=Fi.1,pre:=Lx,sh:=Na,joins:=λk=>match k with|7=>some (KC,[.norm])|_=>none,regs:=λk=>match k with|7=>some KD|_=>none}
theorem G2:bc prog 28 JN Je:=λv r x h hx=>
 bj (X:=x28) (sig:=JN) rfl Tryz.func28 (c:=aa Tryz.f28) (by kernel_rfl) Tryz.ntmps28 (by kernel_rfl) (by kernel_rfl) rfl Ty.mixed Fi.2 rfl (λC hP hN=>(au (am (by kernel_rfl) trivial))) (am (by kernel_rfl) h) x hx
def sh7:ba vw:={rcut:=pK}
def MX:Nat->Bool:=λ_=>false
def Mw:Sig vw:=sg [Dq3] pK [.tmp 2]
noncomputable def n_7(v:Tag×Unit):Option (Bool×Unit):=n_27 v>>=λx1=>(if decide (x1.1>(2000:Int))=true then some ((true,()))else if decide (x1.2.1>(100:Int))=true then some ((true,()))else some ((decide (x1.2.2.1>(20000:Int)),())))>>=λx2=>some (x2)
def IW:=kP ry k0
def x7:Xc vw:={P:=prog,n:=22,call:=IW.1,pre:=MX,sh:=sh7,regs:=λk=>match k with|2=>some pK|_=>none}
theorem Jh:bc prog 7 Mw n_7:=λv r x h hx=>
 bj (X:=x7) (sig:=Mw) rfl Tryz.func7 (c:=aa Tryz.f7) (by kernel_rfl) Tryz.ntmps7 (by kernel_rfl) (by kernel_rfl) rfl Ty.mixed IW.2 rfl (λC hP hN=>(au (am (by kernel_rfl) trivial))) (am (by kernel_rfl) h) x hx
def KW:Cut SN:=⟨[(0,Dq4)],[]⟩
def sh9:ba vw:={rcut:=KW}
def MY:Nat->Bool:=λ_=>false
def Mx:Sig vw:=sg [] KW [.tmp 0]
noncomputable def n_9(v:Unit):Option (Bool×Unit):=Je (NA #[123,34,97,34,58,91,49,44,50,93,125],())>>=λx1=>Kf (x1.2.2.1,[NA #[97],NA #[49]],())>>=λx2=>Je (NA #[91,49,44,93],())>>=λx3=>(if(x1.2.1==(0:Int))=true then if(x1.1==(11:Int))=true then if(x2.2.1==(0:Int))=true then if x2.1=true then if(x2.2.2.1.kind==(3:Int))=true then if(x2.2.2.1.n==(2:Int))=true then if(x3.2.1==(2:Int))=true then some ((x3.1==(3:Int),()))else some ((false,()))else some ((false,()))else some ((false,()))else some ((false,()))else some ((false,()))else some ((false,()))else some ((false,())))>>=λx4=>some (x4)
def IX:=kP GT (kP G2 k0)
def x9:Xc vw:={P:=prog,n:=58,call:=IX.1,pre:=MY,sh:=sh9,regs:=λk=>match k with|4=>some KW|_=>none}
theorem Ji:bc prog 9 Mx n_9:=λv r x h hx=>
 bj (X:=x9) (sig:=Mx) rfl Tryz.func9 (c:=aa Tryz.f9) (by kernel_rfl) Tryz.ntmps9 (by kernel_rfl) (by kernel_rfl) rfl Ty.mixed IX.2 rfl (λC hP hN=>(au (am (by kernel_rfl) trivial))) (am (by kernel_rfl) h) x hx
def KV:Cut SN:=⟨[(3, .bp 3 0),(4,Dq1),(103,Dq4)],[(3, .st .tagT)]⟩
def sh6:ba vw:={rcut:=pK}
def MW:Nat->Bool:=λ_=>false
def Mv:Sig vw:=sg [Dq3] pK [.tmp 2]
noncomputable def n_6(v:Tag×Unit):Option (Bool×Unit):=n_7 v>>=λx1=>if x1.1=true then n_9 ()>>=λx2=>some (x2)else Bj v>>=λx2=>Ir v>>=λx3=>Is v>>=λx4=>It v>>=λx5=>Iu v>>=λx6=>Iv v>>=λx7=>Iq v>>=λx8=>Iw v>>=λx9=>(n_12 (x2.2.1,x3.2)>>=λx10=>if(!x10.1)=true then some (x2.1,true,x2.2)else if(x2.1 !=x3.1)=true then some (x2.1,true,x2.2)else Ix (x4.1,x5.1,())>>=λx11=>if(!x11.1)=true then some (x2.1,true,x2.2)else if(x4.2.1 !=x5.2.1)=true then some (x2.1,true,x2.2)else if(x6.1 !=x7.1)=true then some (x2.1,true,x2.2)else if(x6.2.1 !=x7.2.1)=true then some (x2.1,true,x2.2)else if(x8.1 !=x9.1)=true then some (x2.1,true,x2.2)else some (x2.1,x8.2.1 !=x9.2.1,x2.2))>>=λx10=>if x10.2.1=true then some ((false,()))else Bj x10.2.2>>=λx11=>(if(x10.1 !=(0:Int))=true then n_9 ()>>=λx12=>some (x12)else if(x11.1==(0:Int))=true then n_12 (x11.2.1,x10.2.2)>>=λx12=>if x12.1=true then n_9 ()>>=λx13=>some (x13)else some ((false,()))else some ((false,())))>>=λx12=>some (x12)
def IV:=kP Jh (kP Ji (kP GR (kP GU (kP GV (kP GW (kP GX (kP GY (kP GZ (kP G0 (kP G1 (kP vu k0)))))))))))
def x6:Xc vw:={P:=prog,n:=123,call:=IV.1,pre:=MW,sh:=sh6,regs:=λk=>match k with|11=>some KV|14=>some pK|_=>none}
theorem Jg:bc prog 6 Mv n_6:=λv r x h hx=>
 bj (X:=x6) (sig:=Mv) rfl Tryz.func6 (c:=aa Tryz.f6) (by kernel_rfl) Tryz.ntmps6 (by kernel_rfl) (by kernel_rfl) rfl Ty.mixed IV.2 rfl (λC hP hN=>(au (am (by kernel_rfl) trivial))) (am (by kernel_rfl) h) x hx
end Go.Proofs.YtpndmanbfleadaaGreatDoor
end
section
namespace Go.Proofs.YtpndmanbfleadaaGreatDoor
open Go.Awp Go.Tx
set_option maxRecDepth 20000
theorem sW:(∀{α β:Type} (x:Option α) (f:α->Option β),(x>>=f)=x.bind f)/\(∀{α β:Type} (a:α) (f:α->Option β),(some a).bind f=f a)/\(∀{α β:Type} (f:α->Option β),(none:Option α).bind f=none)/\
 (∀{α:Type} {h:Decidable True} (a b:α), @ite α True h a b=a)/\(∀{α:Type} {h:Decidable False} (a b:α), @ite α False h a b=b)/\((false=true)=False)/\((true=false)=False)/\(∀n:Nat,(n:Int).toNat=n)/\(∀n:Nat,0<=(n:Int))/\
 (∀{α:Type} [BEq α] [LawfulBEq α] {a b:α},(a==b)=true↔a=b)/\(∀{p:Prop} [Decidable p],decide p=true↔p)/\(∀{n m:Nat},(n:Int)<m↔n<m):=
 ⟨λ_ _=>rfl,λ_ _=>rfl,λ_=>rfl,λ{α h} a b=> @Q2 α h a b,λ{α h} a b=> @Q3 α h a b,by simp,by simp,λ_=>rfl,Int.natCast_nonneg,beq_iff_eq,λ{p} _=>Iff.of_eq (Q4 (p:=p)),Int.ofNat_lt⟩
theorem Tag.ind{P:Tag->Prop}(h:∀t:Tag,(∀p∈t.parts,P p)->P t)(t:Tag):P t:=h t λp hp=>Tag.ind h p
termination_by SizeOf.sizeOf t
decreasing_by
 have:=List.sizeOf_lt_of_mem hp
 cases t
 simp at *
 omega
theorem qA{x:Int}(h1: -9223372036854775808<=x)(h2:x<=9223372036854775807):IntKind.i64.wrap x=x:=by
 unfold IntKind.wrap
 simp only[IntKind.bits,IntKind.signed,Bool.true_and]
 split<;>rename_i h<;>simp at h<;>omega
theorem aO{k n:Nat}(h:k<n)(hn:n<=9223372036854775807):IntKind.i64.wrap ((k:Int)+1)=((k+1:Nat):Int):=by rw[qA (by omega) (by omega)];omega
theorem dL{α:Type}{xs:List α}{k:Nat}(h:k<xs.length):∃p,xs[k]?=some p/\p∈xs/\xs.drop k=p::xs.drop (k+1)/\((k:Int)<(xs.length:Int))/\(0:Int)<=(k:Int):=
 ⟨xs[k],ND h,OB h,Qt h,by omega,by omega⟩
theorem eJ{α:Type}{xs:List α}{k:Nat}(h:¬k<xs.length):xs.drop k=[]/\¬((k:Int)<(xs.length:Int)):=⟨Pe (by omega),by omega⟩
inductive Tag.Wf:Tag->Prop
 |mk {t:Tag}:t.names.length<=9223372036854775807->t.parts.length<=9223372036854775807->(∀p∈t.parts,Tag.Wf p)->Tag.Wf t
theorem Tag.Wf.names{t:Tag}(h:t.Wf):t.names.length<=9223372036854775807:=by cases h;assumption
theorem Tag.Wf.parts{t:Tag}(h:t.Wf):t.parts.length<=9223372036854775807:=by cases h;assumption
theorem Tag.Wf.part{t p:Tag}(h:t.Wf)(hp:p∈t.parts):p.Wf:=by cases h with|mk _ _ h=>exact h p hp
theorem MI(t:Tag)(ht:t.Wf)(a b:Int):∀(m k:Nat) (c:Int),t.names.length-k=m->∃c',cQ (a,b,c,(k:Int),t,())=some (a,b,c',t,()):=by
 intro m
 induction m with
 |zero=>
  intro k c hk
  have hlt:¬k<t.names.length:=by omega
  obtain⟨hd,g1⟩:=eJ hlt
  rw[cQ]
  simp only[sW,hlt]
  exact⟨_,rfl⟩
 |succ m ih=>
  intro k c hk
  have hlt:k<t.names.length:=by omega
  obtain⟨p,hp1,hm,hd,g1,g2⟩:=dL hlt
  rw[cQ]
  simp only[sW,g1,g2,hlt,hp1,aO hlt ht.names]
  exact ih (k+1) _ (by omega)
theorem MJ(t:Tag)(ht:t.Wf)(hp:∀p∈t.parts,∃x,n_27 (p,())=some x):∀(m k:Nat) (a b c:Int),t.parts.length-k=m->∃x,fv (a,b,c,(k:Int),t,())=some x:=by
 intro m
 induction m with
 |zero=>
  intro k a b c hk
  have hlt:¬k<t.parts.length:=by omega
  obtain⟨hd,g1⟩:=eJ hlt
  rw[fv]
  simp only[sW,hlt]
  exact⟨_,rfl⟩
 |succ m ih=>
  intro k a b c hk
  have hlt:k<t.parts.length:=by omega
  obtain⟨p,hp1,hm,hd,g1,g2⟩:=dL hlt
  obtain⟨x,hx⟩:=hp p hm
  rw[fv]
  simp only[sW,g1,g2,hlt,hp1,hx,aO hlt ht.parts]
  exact ih (k+1) _ _ _ (by omega)
theorem f43:∀t:Tag,t.Wf->∃x,n_27 (t,())=some x:=by
 refine Tag.ind λt ih ht=> ?_
 obtain⟨c,hc⟩:=MI t ht 1 0 _ 0 (t.text.size:Int) rfl
 obtain⟨x,hx⟩:=MJ t ht (λp hp=>ih p hp (ht.part hp)) _ 0 1 0 c rfl
 simp only[O1,ON,N9]at hc hx
 rw[n_27]
 simp only[sW,hc,hx]
 exact⟨_,rfl⟩
theorem f13(t:Tag)(ht:t.Wf):∃b,n_7 (t,())=some (b,()):=by
 obtain⟨x,hx⟩:=f43 t ht
 unfold n_7
 simp only[hx,sW]
 split
 ·exact⟨_,rfl⟩
 ·split
  ·exact⟨_,rfl⟩
  ·exact⟨_,rfl⟩
end Go.Proofs.YtpndmanbfleadaaGreatDoor
end
section
namespace Go.Proofs.YtpndmanbfleadaaGreatDoor
open Go.Awp Go.Tx
set_option maxRecDepth 20000
abbrev big:Nat:=9223372036854775807
inductive Tag.Fit (B:Nat):Tag->Prop
 |mk {t:Tag}:t.text.size<=B->t.names.length<=B->(∀s∈t.names,s.size<=B)->t.parts.length<=B->(∀p∈t.parts,Tag.Fit B p)->Tag.Fit B t
section
variable {B:Nat} {t:Tag} (h:t.Fit B)
include h
theorem Tag.Fit.text:t.text.size<=B:=by cases h;assumption
theorem Tag.Fit.names:t.names.length<=B:=by cases h;assumption
theorem Tag.Fit.name{s:ByteArray}(hs:s∈t.names):s.size<=B:=by cases h with|mk _ _ h _ _=>exact h s hs
theorem Tag.Fit.parts:t.parts.length<=B:=by cases h;assumption
theorem Tag.Fit.part{p:Tag}(hp:p∈t.parts):p.Fit B:=by cases h with|mk _ _ _ _ h=>exact h p hp
end
theorem Tag.Fit.mono{B B':Nat}(hB:B<=B'):∀t:Tag,t.Fit B->t.Fit B':=
 Tag.ind λt ih h=> .mk (OH h.text hB) (OH h.names hB) (λs hs=>OH (h.name hs) hB) (OH h.parts hB) λp hp=>ih p hp (h.part hp)
theorem Tag.Fit.wf:∀t:Tag,t.Fit big->t.Wf:=Tag.ind λt ih h=> .mk h.names h.parts λp hp=>ih p hp (h.part hp)
theorem FE{ns:List Nat}:∀{i n:Nat},ns[i]?=some n->n<=ns.sum:=by
 induction ns with
 |nil=>intro i n h;simp at h
 |cons a r ih=>
  intro i n h
  cases i with
  |zero=>simp at h;subst h;simp
  |succ i=>have:=ih (i:=i) (by simpa using h);simp;omega
theorem HU{ns:List Nat}(h:∀n∈ns,1<=n):ns.length<=ns.sum:=by
 induction ns with
 |nil=>simp
 |cons a r ih=>
  have h1:=h a NG
  have h2:=ih λn hn=>h n (NC _ hn)
  simp;omega
theorem IM{e:Ty vw.ι}{x:den vw.N e}{m:Nat}(h:Bk vw e x m):1<=m:=by
 cases h<;>omega
theorem ww{s:ByteArray}{m:Nat}(h:Bk vw .str s m):s.size+1<=m:=by
 cases h;assumption
theorem IP{e:Ty SN}{xs:List (den NN e)}{m:Nat}(h:Bk vw (.sl e) xs m):xs.length+1<=m/\∀x∈xs,∃n,n+1<=m/\Bk vw e x n:=by
 cases h with
 |sl ns h1 h2 h3=>
  have h1:ns.length=xs.length:=h1
  have hp:∀n∈ns,1<=n:=λn hn=>by
   obtain⟨i,hi⟩:=OM hn
   obtain⟨x,hx⟩:∃x,xs[i]?=some x:=⟨_,ND (by have:=(Nx.1 hi).1;omega)⟩
   exact IM (h2 i x n hx hi)
  have:=HU hp
  refine⟨by omega,λx hx=> ?_⟩
  obtain⟨i,hi⟩:=OM hx
  obtain⟨n,hn⟩:∃n,ns[i]?=some n:=⟨_,ND (by have:=(Nx.1 hi).1;omega)⟩
  exact⟨n,by have:=FE hn;omega,h2 i x n hi hn⟩
theorem Kx{i:SN}{x:NN i}{m:Nat}(h:Bk vw (.st i) x m):∀l∈cI i x,∃n,n+1<=m/\Bk vw l.t l.x n:=by
 cases h with
 |st ns h1 h2 h3=>
  intro l hl
  obtain⟨j,hj⟩:=OM hl
  have h1:ns.length=(cI i x).length:=h1
  obtain⟨n,hn⟩:∃n,ns[j]?=some n:=⟨_,ND (by have:=(Nx.1 hj).1;omega)⟩
  exact⟨n,by have:=FE hn;omega,h2 j l n hj hn⟩
theorem Aq{B:Nat}:∀(t:Tag) (m:Nat),m<=B->Bk vw (.st .tagT) t m->t.Fit B:=by
 refine Tag.ind λt ih m hm h=> ?_
 have hc:=Kx h
 obtain⟨n1,l1,h1⟩:=hc ⟨.str,t.text⟩ (by simp[cI])
 obtain⟨n2,l2,h2⟩:=hc ⟨.sl .str,t.names⟩ (by simp[cI])
 obtain⟨n3,l3,h3⟩:=hc ⟨.sl (.st .tagT),t.parts⟩ (by simp[cI])
 have a1:t.text.size+1<=n1:=ww h1
 obtain⟨a2,b2⟩:=IP (e:= .str) (xs:=t.names) h2
 obtain⟨a3,b3⟩:=IP (e:= .st .tagT) (xs:=t.parts) h3
 refine .mk (by omega) (by omega) (λs hs=> ?_) (by omega) λp hp=> ?_
 ·obtain⟨n,l,h⟩:=b2 s hs
  have:=ww h
  omega
 ·obtain⟨n,l,h⟩:=b3 p hp
  exact ih p hp n (by omega) h
theorem MK(t:Tag)(ht:t.Fit big)(y:cF)(a b:Int):∀(m k:Nat) (c:Int),t.names.length-k=m->
 ∃c',cQ (1,0,c,(k:Int),t,())=some (1,0,c',t,())/\cB (t.names,(t.names.length:Int),(k:Int),t,y,⟨a,b,c⟩,())=some (t,y,⟨a,b,c'⟩,()):=by
 intro m
 induction m with
 |zero=>
  intro k c hk
  have hlt:¬k<t.names.length:=by omega
  rw[cQ,cB]
  simp only[sW,hlt]
  exact⟨_,rfl,rfl⟩
 |succ m ih=>
  intro k c hk
  have hlt:k<t.names.length:=by omega
  obtain⟨p,hp1,hm,hd,g1,g2⟩:=dL hlt
  rw[cQ,cB]
  simp only[sW,g1,g2,hlt,hp1,aO hlt ht.names]
  exact ih (k+1) _ (by omega)
theorem ML(t:Tag)(ht:t.Fit big)(y:cF)(hp:∀p∈t.parts,∃a d s,n_27 (p,())=some (a,d,s,())/\n_42 (p,())=some (⟨d,a,s⟩,())):∀(m k:Nat) (a b c:Int),t.parts.length-k=m->
 ∃a' b' c',fv (a,b,c,(k:Int),t,())=some (a',b',c',())/\dR (t.parts,(t.parts.length:Int),(k:Int),y,⟨b,a,c⟩,())=some (y,⟨b',a',c'⟩,()):=by
 intro m
 induction m with
 |zero=>
  intro k a b c hk
  have hlt:¬k<t.parts.length:=by omega
  rw[fv,dR]
  simp only[sW,hlt]
  exact⟨_,_,_,rfl,rfl⟩
 |succ m ih=>
  intro k a b c hk
  have hlt:k<t.parts.length:=by omega
  obtain⟨p,hp1,hm,hd,g1,g2⟩:=dL hlt
  obtain⟨a1,d1,s1,e1,e2⟩:=hp p hm
  rw[fv,dR]
  simp only[sW,g1,g2,hlt,hp1,e1,e2,aO hlt ht.parts]
  exact ih (k+1) _ _ _ (by omega)
theorem f58:∀t:Tag,t.Fit big->∃a d s,n_27 (t,())=some (a,d,s,())/\n_42 (t,())=some (⟨d,a,s⟩,()):=by
 refine Tag.ind λt ih ht=> ?_
 obtain⟨c,h1,h2⟩:=MK t ht ⟨0,0,0⟩ 0 1 _ 0 (t.text.size:Int) rfl
 obtain⟨a',b',c',h3,h4⟩:=ML t ht ⟨0,0,0⟩ (λp hp=>ih p hp (ht.part hp)) _ 0 1 0 c rfl
 simp only[O1,ON,N9]at h1 h2 h3 h4
 rw[n_27,n_42]
 simp only[sW,h1,h2,h3,h4]
 exact⟨_,_,_,rfl,rfl⟩
theorem f87{s:ByteArray}(h:s.size<=big):DF (s,())=some (Lib.validD s.data.toList,()):=by
 unfold DF
 rw[Q6 h]
theorem f86{s:ByteArray}(h:s.size<=big):DE (s,())=some (!Lib.validD s.data.toList,()):=by
 unfold DE
 simp only[f87 h,sW]
theorem MR(t:Tag)(ht:t.Fit big):∀(m k:Nat),t.names.length-k=m->∃o:Option Nat,
 bu (t.names,(t.names.length:Int),(k:Int),())=some (match o with|some i=> .inl ((i:Int),())|none=> .inr ())/\dg ((k:Int),t,())=some (match o with|some _=> .inl (false,())|none=> .inr (t,())):=by
 intro m
 induction m with
 |zero=>
  intro k hk
  have hlt:¬k<t.names.length:=by omega
  rw[bu,dg]
  simp only[sW,hlt]
  exact⟨none,rfl,rfl⟩
 |succ m ih=>
  intro k hk
  have hlt:k<t.names.length:=by omega
  obtain⟨p,hp1,hm,hd,g1,g2⟩:=dL hlt
  rw[bu,dg]
  simp only[sW,g1,g2,hlt,hp1,f86 (ht.name hm),f87 (ht.name hm),aO hlt ht.names]
  cases Lib.validD p.data.toList with
  |true=>simp only[OY,sW];exact ih (k+1) (by omega)
  |false=>simp only[O6,sW];exact⟨some k,rfl,rfl⟩
theorem f88(t:Tag)(ht:t.Fit big):∃b,fi (t.names,())=some (b,())/\dg (0,t,())=some (if b=true then .inl (false,())else .inr (t,())):=by
 obtain⟨o,h1,h2⟩:=MR t ht _ 0 rfl
 simp only[O1,ON,N9]at h1 h2
 unfold fi gy
 cases o with
 |none=>simp only[h1,h2,sW];exact⟨_,rfl,rfl⟩
 |some i=>simp only[h1,h2,sW];exact⟨_,rfl,by simp⟩
inductive Tag.Right:Tag->Prop
 |mk {t:Tag}:(t.kind≠6->t.names=[])->(t.kind=6->t.names.length=t.parts.length)->(∀p∈t.parts,Tag.Right p)->Tag.Right t
theorem Tag.Right.none{t:Tag}(h:t.Right)(hk:t.kind≠6):t.names=[]:=by cases h with|mk h _ _=>exact h hk
theorem Tag.Right.len{t:Tag}(h:t.Right)(hk:t.kind=6):t.names.length=t.parts.length:=by cases h with|mk _ h _=>exact h hk
theorem Tag.Right.part{t p:Tag}(h:t.Right)(hp:p∈t.parts):p.Right:=by cases h with|mk _ _ h=>exact h p hp
theorem MM(t:Tag)(ht:t.Fit big)(hp:∀p∈t.parts,∃b,n_51 (p,())=some (b,())/\n_54 (p,())=some (b,())/\(b=true->p.Right)):∀(m k:Nat),t.parts.length-k=m->∃o:Option Nat,
 aE (t.parts,(t.parts.length:Int),(k:Int),())=some (match o with|some i=> .inl ((i:Int),())|none=> .inr ())/\eH ((k:Int),t,())=some (match o with|some _=> .inl (false,())|none=> .inr ())/\(o=none->∀p∈t.parts.drop k,p.Right):=by
 intro m
 induction m with
 |zero=>
  intro k hk
  have hlt:¬k<t.parts.length:=by omega
  rw[aE,eH]
  simp only[sW,hlt]
  refine⟨.none,rfl,rfl,λ_ p hp=> ?_⟩
  rw[(eJ hlt).1]at hp;cases hp
 |succ m ih=>
  intro k hk
  have hlt:k<t.parts.length:=by omega
  obtain⟨p,hp1,hm,hd,g1,g2⟩:=dL hlt
  obtain⟨b,e1,e2,e3⟩:=hp p hm
  have e4:n_79 (p,())=some (!b,()):=by
   rw[n_79]
   simp only[e1,sW]
  rw[aE,eH]
  simp only[sW,g1,g2,hlt,hp1,e2,e4,aO hlt ht.parts]
  cases b with
  |true=>
   simp only[OY,sW]
   obtain⟨o,o1,o2,o3⟩:=ih (k+1) (by omega)
   refine⟨o,o1,o2,λho q hq=> ?_⟩
   rw[hd]at hq
   rcases NI.1 hq with rfl|hq
   ·exact e3 rfl
   ·exact o3 ho q hq
  |false=>simp only[O6,sW];exact⟨some k,rfl,rfl,λh=>by cases h⟩
theorem MN(t:Tag)(ht:t.Fit big)(hp:∀p∈t.parts,∃b,n_51 (p,())=some (b,())/\n_54 (p,())=some (b,())/\(b=true->p.Right)):
 ∃b,n_78c79 (t.parts,())=some (b,())/\eH (0,t,())=some (if b=true then .inl (false,())else .inr ())/\(b=false->∀p∈t.parts,p.Right):=by
 obtain⟨o,h1,h2,h3⟩:=MM t ht hp _ 0 rfl
 simp only[O1,ON,N9]at h1 h2 h3
 rw[n_78c79,n_104c79]
 cases o with
 |none=>simp only[h1,h2,sW];exact⟨_,rfl,rfl,λ_=>h3 rfl⟩
 |some i=>simp only[h1,h2,sW];exact⟨_,rfl,by simp,λh=>by simp at h⟩
end Go.Proofs.YtpndmanbfleadaaGreatDoor
end
section
namespace Go.Proofs.YtpndmanbfleadaaGreatDoor
open Go.Awp Go.Tx
set_option maxRecDepth 20000
theorem f61:∀t:Tag,t.Fit big->∃b,n_51 (t,())=some (b,())/\n_54 (t,())=some (b,())/\(b=true->t.Right):=by
 refine Tag.ind λt ih ht=> ?_
 have e86:=f86 ht.text
 have e87:=f87 ht.text
 obtain⟨bn,n1,n2⟩:=f88 t ht
 obtain⟨bp,p1,p2,p3⟩:=MN t ht λp hp=>ih p hp (ht.part hp)
 generalize Lib.validD t.text.data.toList=v at e86 e87
 rw[n_51,n_54]
 have bad:∀{x y:Option (Bool×Unit)},x=some (false,())->y=some (false,())->∃b,x=some (b,())/\y=some (b,())/\(b=true->t.Right):=λh1 h2=>⟨false,h1,h2,λh=>by cases h⟩
 have nC:∀{x y:Option (Bool×Unit)},x=some (v&& !bn&& !bp,())->y=some (v&& !bn&& !bp,())->(t.kind≠6->t.names=[])->(t.kind=6->t.names.length=t.parts.length)->∃b,x=some (b,())/\y=some (b,())/\(b=true->t.Right):=λh1 h2 h3 h4=>
  ⟨_,h1,h2,λh=> .mk h3 h4 (p3 (by
   cases bp with
   |true=>simp at h
   |false=>rfl))⟩
 by_cases a1:t.kind<0
 ·exact bad (by simp[a1]) (by simp[a1])
 by_cases a2:t.kind>6
 ·exact bad (by simp[a1,a2]) (by simp[a1,a2])
 have hk:t.kind=0\/t.kind=1\/t.kind=2\/t.kind=3\/t.kind=4\/t.kind=5\/t.kind=6:=by omega
 generalize (NA #[]).toList=X
 rcases hk with k|k|k|k|k|k|k
 ·by_cases c1:t.n=0
  case neg=>exact bad (by simp[NE,k,c1]) (by simp[NE,k,c1])
  by_cases c2:t.text.toList=X
  case neg=>exact bad (by simp[NE,k,c1,c2]) (by simp[NE,k,c1,c2])
  by_cases c4:t.parts=[]
  case neg=>exact bad (by simp[NE,k,c1,c2,c4]) (by simp[NE,k,c1,c2,c4])
  by_cases c3:t.names=[]
  case neg=>exact bad (by simp[NE,k,c1,c2,c4,c3]) (by simp[NE,k,c1,c2,c4,c3])
  rw[c3]at n1
  rw[c4]at p1
  exact nC (by cases v<;>cases bn<;>cases bp<;>simp[NE,k,c1,c2,c4,c3,e86,e87,n1,n2,p1,p2]) (by cases v<;>cases bn<;>cases bp<;>simp[NE,k,c1,c2,c4,c3,e86,e87,n1,n2,p1,p2]) (λ_=>c3) (λh=>by omega)
 ·by_cases c1:t.n=0
  case neg=>exact bad (by simp[NE,k,c1]) (by simp[NE,k,c1])
  by_cases c2:t.text.toList=X
  case neg=>exact bad (by simp[NE,k,c1,c2]) (by simp[NE,k,c1,c2])
  by_cases c4:t.parts=[]
  case neg=>exact bad (by simp[NE,k,c1,c2,c4]) (by simp[NE,k,c1,c2,c4])
  by_cases c3:t.names=[]
  case neg=>exact bad (by simp[NE,k,c1,c2,c4,c3]) (by simp[NE,k,c1,c2,c4,c3])
  rw[c3]at n1
  rw[c4]at p1
  exact nC (by cases v<;>cases bn<;>cases bp<;>simp[NE,k,c1,c2,c4,c3,e86,e87,n1,n2,p1,p2]) (by cases v<;>cases bn<;>cases bp<;>simp[NE,k,c1,c2,c4,c3,e86,e87,n1,n2,p1,p2]) (λ_=>c3) (λh=>by omega)
 ·by_cases c1:t.n=0
  case neg=>exact bad (by simp[NE,k,c1]) (by simp[NE,k,c1])
  by_cases c2:t.text.toList=X
  case neg=>exact bad (by simp[NE,k,c1,c2]) (by simp[NE,k,c1,c2])
  by_cases c4:t.parts=[]
  case neg=>exact bad (by simp[NE,k,c1,c2,c4]) (by simp[NE,k,c1,c2,c4])
  by_cases c3:t.names=[]
  case neg=>exact bad (by simp[NE,k,c1,c2,c4,c3]) (by simp[NE,k,c1,c2,c4,c3])
  rw[c3]at n1
  rw[c4]at p1
  exact nC (by cases v<;>cases bn<;>cases bp<;>simp[NE,k,c1,c2,c4,c3,e86,e87,n1,n2,p1,p2]) (by cases v<;>cases bn<;>cases bp<;>simp[NE,k,c1,c2,c4,c3,e86,e87,n1,n2,p1,p2]) (λ_=>c3) (λh=>by omega)
 ·by_cases c2:t.text.toList=X
  case neg=>exact bad (by simp[NE,k,c2]) (by simp[NE,k,c2])
  by_cases c4:t.parts=[]
  case neg=>exact bad (by simp[NE,k,c2,c4]) (by simp[NE,k,c2,c4])
  by_cases c5:t.n< -9007199254740992
  ·by_cases c3:t.names=[]
   ·exact bad (by simp[NE,k,c2,c4,c5,c3]) (by simp[NE,k,c2,c4,c5,c3])
   ·exact bad (by simp[NE,k,c2,c4,c5,c3]) (by simp[NE,k,c2,c4,c5,c3])
  by_cases c6:t.n>9007199254740992
  ·by_cases c3:t.names=[]
   ·exact bad (by simp[NE,k,c2,c4,c5,c6,c3]) (by simp[NE,k,c2,c4,c5,c6,c3])
   ·exact bad (by simp[NE,k,c2,c4,c5,c6,c3]) (by simp[NE,k,c2,c4,c5,c6,c3])
  by_cases c3:t.names=[]
  case neg=>exact bad (by simp[NE,k,c2,c4,c5,c6,c3]) (by simp[NE,k,c2,c4,c5,c6,c3])
  rw[c3]at n1
  rw[c4]at p1
  exact nC (by cases v<;>cases bn<;>cases bp<;>simp[NE,k,c2,c4,c5,c6,c3,e86,e87,n1,n2,p1,p2]) (by cases v<;>cases bn<;>cases bp<;>simp[NE,k,c2,c4,c5,c6,c3,e86,e87,n1,n2,p1,p2]) (λ_=>c3) (λh=>by omega)
 ·by_cases c1:t.n=0
  case neg=>exact bad (by simp[NE,k,c1]) (by simp[NE,k,c1])
  by_cases c4:t.parts=[]
  case neg=>exact bad (by simp[NE,k,c1,c4]) (by simp[NE,k,c1,c4])
  by_cases c3:t.names=[]
  case neg=>exact bad (by simp[NE,k,c1,c4,c3]) (by simp[NE,k,c1,c4,c3])
  rw[c3]at n1
  rw[c4]at p1
  exact nC (by cases v<;>cases bn<;>cases bp<;>simp[NE,k,c1,c4,c3,e86,e87,n1,n2,p1,p2]) (by cases v<;>cases bn<;>cases bp<;>simp[NE,k,c1,c4,c3,e86,e87,n1,n2,p1,p2]) (λ_=>c3) (λh=>by omega)
 ·by_cases c1:t.n=0
  case neg=>exact bad (by simp[NE,k,c1]) (by simp[NE,k,c1])
  by_cases c2:t.text.toList=X
  case neg=>exact bad (by simp[NE,k,c1,c2]) (by simp[NE,k,c1,c2])
  by_cases c3:t.names=[]
  case neg=>exact bad (by simp[NE,k,c1,c2,c3]) (by simp[NE,k,c1,c2,c3])
  rw[c3]at n1
  exact nC (by cases v<;>cases bn<;>cases bp<;>simp[NE,k,c1,c2,c3,e86,e87,n1,n2,p1,p2]) (by cases v<;>cases bn<;>cases bp<;>simp[NE,k,c1,c2,c3,e86,e87,n1,n2,p1,p2]) (λ_=>c3) (λh=>by omega)
 ·by_cases c1:t.n=0
  case neg=>exact bad (by simp[NE,k,c1]) (by simp[NE,k,c1])
  by_cases c2:t.text.toList=X
  case neg=>exact bad (by simp[NE,k,c1,c2]) (by simp[NE,k,c1,c2])
  by_cases c7:(t.names.length:Int)=(t.parts.length:Int)
  case neg=>exact bad (by simp[NE,k,c1,c2,c7]) (by cases v<;>simp[NE,k,c1,c2,c7,e87])
  exact nC (by cases v<;>cases bn<;>cases bp<;>simp[NE,k,c1,c2,c7,e86,e87,n1,n2,p1,p2]) (by cases v<;>cases bn<;>cases bp<;>simp[NE,k,c1,c2,c7,e86,e87,n1,n2,p1,p2]) (λh=>(h k).elim) (λ_=>by omega)
theorem JU{a b:ByteArray}:a.toList=b.toList↔a=b:=by
 constructor
 ·intro h
  rw[PB,PB]at h
  obtain⟨⟨a⟩⟩:=a
  obtain⟨⟨b⟩⟩:=b
  simp only at h
  rw[h]
 ·rintro rfl;rfl
theorem ix{a b:ByteArray}:Mp.seq a b=true↔a=b:=by
 obtain⟨a⟩:=a
 obtain⟨b⟩:=b
 show(a==b)=true↔_
 simp
theorem Ay(s x:ByteArray)(y:Bool):∀es:List (ByteArray×Bool),Mp.get Mp.seq s (Mp.put Mp.seq x y es)=if s=x then some y else Mp.get Mp.seq s es
 |[]=>by
  simp only[Mp.put,Mp.get,ix]
 |p::r=>by
  simp only[Mp.put,ix]
  by_cases h:x=p.1
  ·rw[Q6 h]
   simp only[Mp.get,ix]
   by_cases h2:s=x
   ·rw[Q6 h2,Q6 h2]
   ·rw[Q5 h2,Q5 h2,Q5 (by rw[<-h];exact h2)]
  ·rw[Q5 h]
   simp only[Mp.get,ix]
   by_cases h2:s=p.1
   ·rw[Q6 h2,Q6 h2,Q5 (by rw[h2];exactλe=>h e.symm)]
   ·rw[Q5 h2,Q5 h2]
    exact Ay s x y r
theorem Aw(s x:ByteArray)(y:Bool):∀es:List (ByteArray×Bool),es.any (λp=>Mp.seq x p.1)=false->Mp.get Mp.seq s (Mp.ins Mp.slt x y es)=if s=x then some y else Mp.get Mp.seq s es
 |[],_=>by simp only[Mp.ins,Mp.get,ix]
 |p::r,h=>by
  rw[List.any_cons,O0]at h
  have hx:¬x=p.1:=λe=>by have:=ix.2 e;rw[h.1]at this;cases this
  rw[Mp.ins]
  split
  ·simp only[Mp.get,ix]
  ·simp only[Mp.get,ix]
   rw[Aw s x y r h.2]
   by_cases h2:s=p.1
   ·rw[Q6 h2,Q6 h2,Q5 (by rw[h2];exactλe=>hx e.symm)]
   ·rw[Q5 h2,Q5 h2]
theorem Az(s x:ByteArray)(y:Bool)(es:List (ByteArray×Bool)):Mp.get Mp.seq s (Mp.set Mp.seq Mp.slt x y es)=if s=x then some y else Mp.get Mp.seq s es:=by
 unfold Mp.set
 split
 ·exact Ay s x y es
 ·rename_i h
  exact Aw s x y es (by cases hq:es.any (λp=>Mp.seq x p.1)with|true=>exact(h hq).elim|false=>rfl)
theorem MQ(t:Tag)(ht:t.Fit big)(i:Nat)(s:ByteArray)(hi:i<t.names.length)(hs:t.names[i]?=some s):∀(m k:Nat),i-k=m->
 (s∈(t.names.take i).drop k->dI ((i:Int),(k:Int),t,())=some (.inl (true,())))/\(¬s∈(t.names.take i).drop k->dI ((i:Int),(k:Int),t,())=some (.inr ((i:Int),t,()))):=by
 intro m
 induction m with
 |zero=>
  intro k hk
  have hlt:¬k<i:=by omega
  have hd:(t.names.take i).drop k=[]:=Pe (by simp;omega)
  rw[dI,hd]
  simp[hlt]
 |succ m ih=>
  intro k hk
  have hlt:k<i:=by omega
  obtain⟨q,hq1,_,hd,_,_⟩:=dL (xs:=t.names.take i) (k:=k) (by simp;omega)
  have hq2:t.names[k]?=some q:=by
   rw[NO]at hq1
   simpa[hlt]using hq1
  have h0:(0:Int)<=(i:Int):=by omega
  have h1:(0:Int)<=(k:Int):=by omega
  have h2:((k:Int)<(i:Int)):=by omega
  rw[dI,hd]
  simp only[sW,h0,h1,h2,hs,hq2,aO hlt (OH (Nat.le_of_lt hi) ht.names),NI]
  by_cases e:s=q
  ·subst e
   simp
  ·have e2:¬(s.toList=q.toList):=λh=>e (JU.1 h)
   simp only[e2,e,false_or,sW]
   exact ih (k+1) (by omega)
theorem MO(t:Tag)(ht:t.Fit big):∀(m k:Nat) (es:List (ByteArray×Bool)),t.names.length-k=m->(∀s,(Mp.get Mp.seq s es).getD false=true↔s∈t.names.take k)->
 ∃o:Bool,bS (t.names,(t.names.length:Int),(k:Int),t,es,())=some (if o=true then .inl (true,())else .inr (t,()))/\dH ((k:Int),t,())=some (if o=true then .inl (true,())else .inr (t,())):=by
 intro m
 induction m with
 |zero=>
  intro k es hk hes
  have hlt:¬k<t.names.length:=by omega
  rw[bS,dH]
  simp only[sW,hlt]
  exact⟨false,by simp,by simp⟩
 |succ m ih=>
  intro k es hk hes
  have hlt:k<t.names.length:=by omega
  obtain⟨p,hp1,hm,hd,g1,g2⟩:=dL hlt
  have h64:=MQ t ht k p hlt hp1 _ 0 rfl
  simp only[O1,ON,N9]at h64
  have hes2:∀s,(Mp.get Mp.seq s (Mp.set Mp.seq Mp.slt p true es)).getD false=true↔s∈t.names.take (k+1):=by
   intro s
   rw[Az,List.take_add_one,hp1]
   by_cases e:s=p
   ·simp[e]
   ·rw[Q5 e,hes s]
    simp[e]
  obtain⟨o,o1,o2⟩:=ih (k+1) _ (by omega) hes2
  rw[bS,dH]
  simp only[sW,g1,g2,hlt,hp1,aO hlt ht.names]
  by_cases e:p∈t.names.take k
  ·refine⟨true,by rw[Q6 ((hes p).2 e)];rfl,?_⟩
   simp only[h64.1 e,sW]
  ·refine⟨o,by rw[Q5 λh=>e ((hes p).1 h)];exact o1,?_⟩
   simp only[h64.2 e,sW,aO hlt ht.names]
   exact o2
theorem MP(t:Tag)(ht:t.Fit big)(hp:∀p∈t.parts,∃b,n_52 (p,())=some (b,())/\n_55 (p,())=some (b,())):∀(m k:Nat),t.parts.length-k=m->∃o:Option Nat,
 aM (t.parts,(t.parts.length:Int),(k:Int),())=some (match o with|some i=> .inl ((i:Int),())|none=> .inr ())/\fh ((k:Int),t,())=some (match o with|some _=> .inl (true,())|none=> .inr ()):=by
 intro m
 induction m with
 |zero=>
  intro k hk
  have hlt:¬k<t.parts.length:=by omega
  rw[aM,fh]
  simp only[sW,hlt]
  exact⟨.none,rfl,rfl⟩
 |succ m ih=>
  intro k hk
  have hlt:k<t.parts.length:=by omega
  obtain⟨p,hp1,hm,hd,g1,g2⟩:=dL hlt
  obtain⟨b,e1,e2⟩:=hp p hm
  rw[aM,fh]
  simp only[sW,g1,g2,hlt,hp1,e1,e2,aO hlt ht.parts]
  cases b with
  |true=>simp only[sW];exact⟨some k,rfl,rfl⟩
  |false=>simp only[sW];exact ih (k+1) (by omega)
theorem f62:∀t:Tag,t.Fit big->∃b,n_52 (t,())=some (b,())/\n_55 (t,())=some (b,()):=by
 refine Tag.ind λt ih ht=> ?_
 obtain⟨o,o1,o2⟩:=MO t ht _ 0 [] rfl (λs=>by simp[Mp.get])
 obtain⟨u,u1,u2⟩:=MP t ht (λp hp=>ih p hp (ht.part hp)) _ 0 rfl
 simp only[O1,ON,N9]at o1 o2 u1 u2
 rw[n_52,n_55]
 cases o with
 |true=>simp only[o1,o2,sW];exact⟨_,rfl,rfl⟩
 |false=>
  simp only[o1,o2,sW]
  rw[n_78c52,n_104c52]
  cases u with
  |none=>simp only[u1,u2,sW];exact⟨_,rfl,rfl⟩
  |some i=>simp only[u1,u2,sW];exact⟨_,rfl,by simp⟩
theorem f29(t:Tag)(ht:t.Fit big):∃e,tD (t,())=some (e,())/\G3 (t,())=some (e,())/\(e=0->t.Right):=by
 obtain⟨a,d,s,c1,c2⟩:=f58 t ht
 obtain⟨b,b1,b2,b3⟩:=f61 t ht
 obtain⟨w,w1,w2⟩:=f62 t ht
 unfold tD G3
 simp only[c1,c2,sW]
 by_cases h1:d>20
 ·refine⟨3,by simp[h1],?_,λh=>by omega⟩
  by_cases h2:a>500<;>simp[h1,h2]
 ·by_cases h2:a>500
  ·exact⟨3,by simp[h1,h2],by simp[h1,h2],λh=>by omega⟩
  ·by_cases h3:s>4096
   ·exact⟨3,by simp[h1,h2,h3],by simp[h1,h2,h3],λh=>by omega⟩
   ·cases b with
    |false=>exact⟨1,by simp[h1,h2,h3,b1],by simp[h1,h2,h3,b2],λh=>by omega⟩
    |true=>
     cases w with
     |true=>exact⟨5,by simp[h1,h2,h3,b1,w1],by simp[h1,h2,h3,b2,w2],λh=>by omega⟩
     |false=>exact⟨0,by simp[h1,h2,h3,b1,w1],by simp[h1,h2,h3,b2,w2],λ_=>b3 rfl⟩
end Go.Proofs.YtpndmanbfleadaaGreatDoor
end
section
namespace Go.Proofs.YtpndmanbfleadaaGreatDoor
open Go.Awp Go.Tx
open IntKind (i64)
set_option maxRecDepth 20000
abbrev mt:ByteArray:=NA #[]
mutual
def Tag.bulk:Tag->Nat
 | .mk _ _ t ns ps=>1+t.size+(ns.map O5).sum+bulkL ps
def bulkL:List Tag->Nat
 |[]=>0
 |p::ps=>p.bulk+bulkL ps
end
theorem vB(t:Tag)(ht:t.Fit big):∀(m k:Nat),t.names.length-k=m->∃o:Option Nat,
 bu (t.names,(t.names.length:Int),(k:Int),())=some (match o with|some i=> .inl ((i:Int),())|none=> .inr ())/\(o=none->∀s∈t.names.drop k,Lib.validD s.data.toList=true):=by
 intro m
 induction m with
 |zero=>
  intro k hk
  have hlt:¬k<t.names.length:=by omega
  rw[bu]
  simp only[sW,hlt]
  refine⟨none,rfl,λ_ s hs=> ?_⟩
  rw[(eJ hlt).1]at hs;cases hs
 |succ m ih=>
  intro k hk
  have hlt:k<t.names.length:=by omega
  obtain⟨p,hp1,hm,hd,g1,g2⟩:=dL hlt
  rw[bu]
  simp only[sW,g1,g2,hlt,hp1,f86 (ht.name hm),aO hlt ht.names]
  cases hv:Lib.validD p.data.toList with
  |true=>
   simp only[OY,sW]
   obtain⟨o,o1,o2⟩:=ih (k+1) (by omega)
   refine⟨o,o1,λho s hs=> ?_⟩
   rw[hd]at hs
   rcases NI.1 hs with rfl|hs
   ·exact hv
   ·exact o2 ho s hs
  |false=>simp only[O6,sW];exact⟨some k,rfl,λh=>by cases h⟩
theorem yH(t:Tag)(ht:t.Fit big):∀(m k:Nat),t.parts.length-k=m->∃o:Option Nat,
 aE (t.parts,(t.parts.length:Int),(k:Int),())=some (match o with|some i=> .inl ((i:Int),())|none=> .inr ())/\(o=none->∀p∈t.parts.drop k,n_51 (p,())=some (true,())):=by
 intro m
 induction m with
 |zero=>
  intro k hk
  have hlt:¬k<t.parts.length:=by omega
  rw[aE]
  simp only[sW,hlt]
  refine⟨.none,rfl,λ_ p hp=> ?_⟩
  rw[(eJ hlt).1]at hp;cases hp
 |succ m ih=>
  intro k hk
  have hlt:k<t.parts.length:=by omega
  obtain⟨p,hp1,hm,hd,g1,g2⟩:=dL hlt
  obtain⟨b,e1,_,_⟩:=f61 p (ht.part hm)
  have e4:n_79 (p,())=some (!b,()):=by
   rw[n_79]
   simp only[e1,sW]
  rw[aE]
  simp only[sW,g1,g2,hlt,hp1,e4,aO hlt ht.parts]
  cases b with
  |true=>
   simp only[OY,sW]
   obtain⟨o,o1,o2⟩:=ih (k+1) (by omega)
   refine⟨o,o1,λho q hq=> ?_⟩
   rw[hd]at hq
   rcases NI.1 hq with rfl|hq
   ·exact e1
   ·exact o2 ho q hq
  |false=>simp only[O6,sW];exact⟨some k,rfl,λh=>by cases h⟩
structure Loc (t:Tag):Prop where
 k0:0<=t.kind
 k6:t.kind<=6
 n0:t.kind≠3->t.n=0
 lo: -9007199254740992<=t.n
 hi:t.n<=9007199254740992
 tx:t.kind≠4->t.text=mt
 pt:t.kind<5->t.parts=[]
 ln:t.kind=6->t.names.length=t.parts.length
 nm:t.kind≠6->t.names=[]
 vt:Lib.validD t.text.data.toList=true
 vn:∀s∈t.names,Lib.validD s.data.toList=true
inductive wq:Tag->Prop
 |mk {t:Tag}:Loc t->(∀p∈t.parts,wq p)->wq t
theorem wq.loc{t:Tag}(h:wq t):Loc t:=by cases h;assumption
theorem wq.part{t p:Tag}(h:wq t)(hp:p∈t.parts):wq p:=by cases h with|mk _ h=>exact h p hp
theorem Fy{t:ByteArray}:t.toList=(NA #[]).toList↔t=mt:=JU
theorem Fw(t:Tag)(ht:t.Fit big)(h:n_51 (t,())=some (true,())):Loc t/\∀p∈t.parts,n_51 (p,())=some (true,()):=by
 have e86:=f86 ht.text
 obtain⟨o,o1,o2⟩:=vB t ht _ 0 rfl
 obtain⟨q,q1,q2⟩:=yH t ht _ 0 rfl
 simp only[O1,ON,N9]at o1 o2 q1 q2
 have hn:fi (t.names,())=some (o.isSome,()):=by
  unfold fi gy
  cases o with
  |none=>simp only[o1,sW];rfl
  |some i=>simp only[o1,sW];simp
 have hp:n_78c79 (t.parts,())=some (q.isSome,()):=by
  rw[n_78c79,n_104c79]
  cases q with
  |none=>simp only[q1,sW];rfl
  |some i=>simp only[q1,sW];simp
 generalize hv:Lib.validD t.text.data.toList=v at e86
 have fin:(t.kind<5->t.parts=[])->(t.kind=6->t.names.length=t.parts.length)->(t.kind≠6->t.names=[])->(t.kind≠3->t.n=0)->(t.kind≠4->t.text=mt)->0<=t.kind->t.kind<=6-> -9007199254740992<=t.n->t.n<=9007199254740992->
  (v&& !o.isSome&& !q.isSome)=true->Loc t/\∀p∈t.parts,n_51 (p,())=some (true,()):=by
  intro a b c d e f g i j k
  cases o with
  |some _=>simp at k
  |none=>
   cases q with
   |some _=>simp at k
   |none=>
    cases v with
    |false=>simp at k
    |true=>exact⟨⟨f,g,d,i,j,e,a,b,c,hv,o2 rfl⟩,q2 rfl⟩
 rw[n_51]at h
 by_cases a1:t.kind<0
 ·simp[a1]at h
 by_cases a2:t.kind>6
 ·simp[a1,a2]at h
 by_cases a3:t.n< -9007199254740992
 ·by_cases k3:t.kind=3
  ·simp[k3,a3]at h
  ·have:t.n≠0:=by omega
   simp[a1,a2,k3,this]at h
 by_cases a4:t.n>9007199254740992
 ·by_cases k3:t.kind=3
  ·simp[k3,a3,a4]at h
  ·have:t.n≠0:=by omega
   simp[a1,a2,k3,this]at h
 have hX:∀{s:ByteArray},s.toList=(NA #[]).toList↔s=mt:=Fy
 generalize (NA #[]).toList=X at h hX
 by_cases c1:t.kind≠3->t.n=0
 case neg=>
  have k3:t.kind≠3:=λh=>c1 λh2=>(h2 h).elim
  have n0:t.n≠0:=λh=>c1 λ_=>h
  simp[a1,a2,k3,n0]at h
 by_cases c2:t.kind≠4->t.text=mt
 case neg=>
  have k4:t.kind≠4:=λh=>c2 λh2=>(h2 h).elim
  have n0:¬t.text.toList=X:=λh=>c2 λ_=>hX.1 h
  by_cases k3:t.kind=3
  ·simp[k3,a3,a4,n0]at h
  ·simp[a1,a2,a3,a4,k3,c1 k3,k4,n0]at h
 have c2':t.kind≠4->t.text.toList=X:=λh=>hX.2 (c2 h)
 have hk:t.kind=0\/t.kind=1\/t.kind=2\/t.kind=3\/t.kind=4\/t.kind=5\/t.kind=6:=by omega
 have z1:¬(9007199254740992:Int)<0:=by decide
 rcases hk with k|k|k|k|k|k|k
 ·by_cases c4:t.parts=[]
  case neg=>simp[NE,k,c1,c2',c4]at h
  by_cases c3:t.names=[]
  case neg=>simp[NE,k,c1,c2',c4,c3]at h
  rw[c3]at hn
  rw[c4]at hp
  refine fin (λ_=>c4) (λh=>by omega) (λ_=>c3) c1 c2 (by omega) (by omega) (by omega) (by omega) ?_
  cases v<;>cases ho:o.isSome<;>cases hq:q.isSome<;>simp[NE,k,c1,c2',c4,c3,e86,hn,hp,ho,hq]at h⊢
 ·by_cases c4:t.parts=[]
  case neg=>simp[NE,k,c1,c2',c4]at h
  by_cases c3:t.names=[]
  case neg=>simp[NE,k,c1,c2',c4,c3]at h
  rw[c3]at hn
  rw[c4]at hp
  refine fin (λ_=>c4) (λh=>by omega) (λ_=>c3) c1 c2 (by omega) (by omega) (by omega) (by omega) ?_
  cases v<;>cases ho:o.isSome<;>cases hq:q.isSome<;>simp[NE,k,c1,c2',c4,c3,e86,hn,hp,ho,hq]at h⊢
 ·by_cases c4:t.parts=[]
  case neg=>simp[NE,k,c1,c2',c4]at h
  by_cases c3:t.names=[]
  case neg=>simp[NE,k,c1,c2',c4,c3]at h
  rw[c3]at hn
  rw[c4]at hp
  refine fin (λ_=>c4) (λh=>by omega) (λ_=>c3) c1 c2 (by omega) (by omega) (by omega) (by omega) ?_
  cases v<;>cases ho:o.isSome<;>cases hq:q.isSome<;>simp[NE,k,c1,c2',c4,c3,e86,hn,hp,ho,hq]at h⊢
 ·by_cases c4:t.parts=[]
  case neg=>simp[NE,k,c2',c4,a3,a4]at h
  by_cases c3:t.names=[]
  case neg=>simp[NE,k,c2',c4,c3,a3,a4]at h
  rw[c3]at hn
  rw[c4]at hp
  refine fin (λ_=>c4) (λh=>by omega) (λ_=>c3) c1 c2 (by omega) (by omega) (by omega) (by omega) ?_
  cases v<;>cases ho:o.isSome<;>cases hq:q.isSome<;>simp[NE,k,c2',c4,c3,e86,hn,hp,ho,hq,a3,a4]at h⊢
 ·by_cases c4:t.parts=[]
  case neg=>simp[NE,k,c1,c4]at h
  by_cases c3:t.names=[]
  case neg=>simp[NE,k,c1,c4,c3]at h
  rw[c3]at hn
  rw[c4]at hp
  refine fin (λ_=>c4) (λh=>by omega) (λ_=>c3) c1 c2 (by omega) (by omega) (by omega) (by omega) ?_
  cases v<;>cases ho:o.isSome<;>cases hq:q.isSome<;>simp[NE,k,c1,c4,c3,e86,hn,hp,ho,hq]at h⊢
 ·by_cases c3:t.names=[]
  case neg=>simp[NE,k,c1,c2',c3]at h
  rw[c3]at hn
  refine fin (λh=>by omega) (λh=>by omega) (λ_=>c3) c1 c2 (by omega) (by omega) (by omega) (by omega) ?_
  cases v<;>cases ho:o.isSome<;>cases hq:q.isSome<;>simp[NE,k,c1,c2',c3,e86,hn,hp,ho,hq]at h⊢
 ·by_cases c3:(t.names.length:Int)=(t.parts.length:Int)
  case neg=>simp[NE,k,c1,c2',c3]at h
  refine fin (λh=>by omega) (λ_=>by omega) (λh=>(h k).elim) c1 c2 (by omega) (by omega) (by omega) (by omega) ?_
  cases v<;>cases ho:o.isSome<;>cases hq:q.isSome<;>simp[NE,k,c1,c2',c3,e86,hn,hp,ho,hq]at h⊢
theorem Gs:∀t:Tag,t.Fit big->n_51 (t,())=some (true,())->wq t:=
 Tag.ind λt ih ht h=> .mk (Fw t ht h).1 λp hp=>ih p hp (ht.part hp) ((Fw t ht h).2 p hp)
mutual
def Tag.cnt:Tag->Nat
 | .mk _ _ _ _ ps=>1+cntL ps
def cntL:List Tag->Nat
 |[]=>0
 |p::ps=>p.cnt+cntL ps
end
mutual
def Tag.byts:Tag->Nat
 | .mk _ _ t ns ps=>t.size+(ns.map O5).sum+bytsL ps
def bytsL:List Tag->Nat
 |[]=>0
 |p::ps=>p.byts+bytsL ps
end
mutual
def Tag.dep:Tag->Nat
 | .mk _ _ _ _ ps=>depL ps+1
def depL:List Tag->Nat
 |[]=>0
 |p::ps=>max p.dep (depL ps)
end
mutual
theorem qH:∀t:Tag,t.bulk=t.cnt+t.byts
 | .mk _ _ t ns ps=>by rw[Tag.bulk,Tag.cnt,Tag.byts,bulkL_eq ps];omega
theorem bulkL_eq:∀ps:List Tag,bulkL ps=cntL ps+bytsL ps
 |[]=>rfl
 |p::ps=>by rw[bulkL,cntL,bytsL,qH p,bulkL_eq ps];omega
end
mutual
theorem Af:∀t:Tag,t.dep<=t.cnt
 | .mk _ _ t ns ps=>by rw[Tag.dep,Tag.cnt];have:=depL_cnt ps;omega
theorem depL_cnt:∀ps:List Tag,depL ps<=cntL ps
 |[]=>NY _
 |p::ps=>by rw[depL,cntL];have:=Af p;have:=depL_cnt ps;omega
end
theorem nh(t:Tag):t.cnt=1+cntL t.parts:=by cases t;rfl
theorem uI(t:Tag):t.byts=t.text.size+(t.names.map O5).sum+bytsL t.parts:=by cases t;rfl
theorem Ag(t:Tag):t.dep=depL t.parts+1:=by cases t;rfl
theorem zP(t:Tag):t.bulk=1+t.text.size+(t.names.map O5).sum+bulkL t.parts:=by cases t;rfl
theorem sm:∀{ps:List Tag} {p:Tag},p∈ps->p.bulk<=bulkL ps
 |q::ps,p,h=>by
  rw[bulkL]
  rcases NI.1 h with rfl|h
  ·omega
  ·have:=sm h;omega
abbrev nG:Nat:=4611686018427387904
theorem DG(ns:List ByteArray)(t:Tag)(y:cF)(d p:Int):∀(m k:Nat) (z:Nat),ns.length-k=m->ns.length<=nG->z+((ns.drop k).map O5).sum<=nG->
 cB (ns,(ns.length:Int),(k:Int),t,y,cF.mk d p (z:Int),())=some (t,y,cF.mk d p ((z+((ns.drop k).map O5).sum:Nat):Int),()):=by
 intro m
 induction m with
 |zero=>
  intro k z hk hl hz
  have hlt:¬k<ns.length:=by omega
  rw[cB,(eJ hlt).1]
  simp only[sW,hlt,N_,List.sum_nil,Oo]
 |succ m ih=>
  intro k z hk hl hz
  have hlt:k<ns.length:=by omega
  have hh:nG<=9223372036854775807:=by decide
  have hh2:nG=4611686018427387904:=rfl
  obtain⟨s,hp1,hm,hd,g1,g2⟩:=dL hlt
  rw[hd,NF,PJ]at hz⊢
  have e:i64.wrap ((z:Int)+(s.size:Int))=((z+s.size:Nat):Int):=by
   rw[qA (by omega) (by omega)];omega
  rw[cB]
  simp only[sW,g1,g2,hlt,hp1,aO hlt (show ns.length<=9223372036854775807 by omega),e]
  rw[ih (k+1) (z+s.size) (by omega) hl (by omega),Oz]
theorem DT(ps:List Tag)(hp:∀p∈ps,n_42 (p,())=some (cF.mk p.dep p.cnt p.byts,()))(y:cF):∀(m k d c b:Nat),ps.length-k=m->ps.length<=nG->c+cntL (ps.drop k)<=nG->b+bytsL (ps.drop k)<=nG->
 dR (ps,(ps.length:Int),(k:Int),y,cF.mk d c b,())=some (y,cF.mk ((max d (depL (ps.drop k)):Nat):Int) ((c+cntL (ps.drop k):Nat):Int) ((b+bytsL (ps.drop k):Nat):Int),()):=by
 intro m
 induction m with
 |zero=>
  intro k d c b hk hl hc hb
  have hlt:¬k<ps.length:=by omega
  rw[dR,(eJ hlt).1]
  simp only[sW,hlt,depL,cntL,bytsL,Oo,Nat.max_zero]
 |succ m ih=>
  intro k d c b hk hl hc hb
  have hlt:k<ps.length:=by omega
  have hh2:nG=4611686018427387904:=rfl
  obtain⟨p,hp1,hm,hd,g1,g2⟩:=dL hlt
  rw[hd,cntL]at hc
  rw[hd,bytsL]at hb
  rw[hd,depL,cntL,bytsL]
  have e1:i64.wrap ((c:Int)+(p.cnt:Int))=((c+p.cnt:Nat):Int):=by
   rw[qA (by omega) (by omega)];omega
  have e2:i64.wrap ((b:Int)+(p.byts:Int))=((b+p.byts:Nat):Int):=by
   rw[qA (by omega) (by omega)];omega
  have e3:max (d:Int) (p.dep:Int)=((max d p.dep:Nat):Int):=by omega
  rw[dR]
  simp only[sW,g1,g2,hlt,hp1,hp p hm,aO hlt (show ps.length<=9223372036854775807 by omega),e1,e2,e3]
  rw[ih (k+1) (max d p.dep) (c+p.cnt) (b+p.byts) (by omega) hl (by omega) (by omega)]
  rw[Nat.max_assoc,Oz,Oz]
theorem I2:∀t:Tag,t.Fit nG->t.bulk<=nG->n_42 (t,())=some (cF.mk t.dep t.cnt t.byts,()):=by
 refine Tag.ind λt ih ht hb=> ?_
 have hh2:nG=4611686018427387904:=rfl
 have hbk:=qH t
 have hdc:=Af t
 have h1:=zP t
 have hps:∀p∈t.parts,n_42 (p,())=some (cF.mk p.dep p.cnt p.byts,()):=λp hp=>ih p hp (ht.part hp) (by have:=sm hp;omega)
 have b1:=uI t
 have c1:=nh t
 have d1:=Ag t
 have hn:=DG t.names t (cF.mk 0 0 0) 0 1 _ 0 t.text.size rfl ht.names (by rw[N9];omega)
 have hp:=DT t.parts hps (cF.mk 0 0 0) _ 0 0 1 (t.text.size+(t.names.map O5).sum) rfl ht.parts (by rw[N9];omega) (by rw[N9];omega)
 rw[N9]at hn hp
 have z0:((0:Nat):Int)=0:=rfl
 have z1:((1:Nat):Int)=1:=rfl
 rw[z0]at hn hp
 rw[z1]at hp
 rw[n_42]
 simp only[sW,hn,hp]
 have e:i64.wrap (((max 0 (depL t.parts):Nat):Int)+1)=(t.dep:Int):=by
  rw[qA (by omega) (by omega)];omega
 have e2:1+cntL t.parts=t.cnt:=by omega
 have e3:t.text.size+(t.names.map O5).sum+bytsL t.parts=t.byts:=by omega
 rw[e,e2,e3]
theorem MH(t:Tag)(ht:t.Fit nG)(hb:t.bulk<=nG)(h:tD (t,())=some (0,())):wq t/\t.dep<=20/\t.cnt<=500/\t.byts<=4096:=by
 have hbig:nG<=big:=by decide
 have hfb:=Tag.Fit.mono hbig t ht
 unfold tD at h
 simp only[I2 t ht hb,sW]at h
 by_cases q1:(t.dep:Int)>20
 ·simp[q1]at h
 by_cases q2:(t.cnt:Int)>500
 ·simp[q1,q2]at h
 by_cases q3:(t.byts:Int)>4096
 ·simp[q1,q2,q3]at h
 obtain⟨b,g,_,_⟩:=f61 t hfb
 cases b with
 |false=>simp[q1,q2,q3,g]at h
 |true=>exact⟨Gs t hfb g,by omega,by omega,by omega⟩
theorem xi{α:Type}{xs:List α}{ns:List Nat}(f:α->Nat)(hl:ns.length=xs.length)(h:∀(i:Nat) (x:α) (n:Nat),xs[i]?=some x->ns[i]?=some n->f x<=n):(xs.map f).sum<=ns.sum:=by
 induction xs generalizing ns with
 |nil=>simp
 |cons x xs ih=>
  cases ns with
  |nil=>simp at hl
  |cons n ns=>
   have h0:=h 0 x n rfl rfl
   have h1:=ih (ns:=ns) (by simpa using hl) λi y m hy hm=>h (i+1) y m (by simpa using hy) (by simpa using hm)
   simp only[NF,PJ]
   omega
theorem sk:∀ps:List Tag,bulkL ps=(ps.map Tag.bulk).sum
 |[]=>rfl
 |p::ps=>by rw[bulkL,NF,PJ,sk ps]
theorem F1:∀(t:Tag) (m:Nat),Bk vw (.st .tagT) t m->t.bulk<=m:=by
 refine Tag.ind λt ih m h=> ?_
 cases h with
 |st ns h1 h2 h3=>
  have h1:ns.length=(cI .tagT t).length:=h1
  have hc:cI .tagT t=[⟨.int .i64,t.kind⟩,⟨.int .i64,t.n⟩,⟨.str,t.text⟩,⟨.sl .str,t.names⟩,⟨.sl (.st .tagT),t.parts⟩]:=by simp[cI]
  rw[hc]at h1
  match ns,h1 with
  |[a,b,c,d,e],_=>
   have g (j:Nat) (l:cg NN) (n:Nat) (hl:(cI .tagT t)[j]?=some l) (hn:[a,b,c,d,e][j]?=some n):Bk vw l.t l.x n:=h2 j l n hl hn
   rw[hc]at g
   have g2:Bk vw .str t.text c:=g 2 ⟨.str,t.text⟩ c rfl rfl
   have g3:Bk vw (.sl .str) t.names d:=g 3 ⟨.sl .str,t.names⟩ d rfl rfl
   have g4:Bk vw (.sl (.st .tagT)) t.parts e:=g 4 ⟨.sl (.st .tagT),t.parts⟩ e rfl rfl
   have k2:=ww g2
   have k3:(t.names.map O5).sum<=d:=by
    cases g3 with
    |sl ns j1 j2 j3=>
     have:=xi (xs:=t.names) O5 j1 λi x n hx hn=>by have:=ww (j2 i x n hx hn);omega
     omega
   have k4:bulkL t.parts<=e:=by
    rw[sk]
    cases g4 with
    |sl ns j1 j2 j3=>
     have:=xi (xs:=t.parts) Tag.bulk j1 λi x n hx hn=>ih x (NJ hx) n (j2 i x n hx hn)
     omega
   have:=zP t
   simp only[PJ,List.sum_nil]at h3
   omega
end Go.Proofs.YtpndmanbfleadaaGreatDoor
end
section
namespace Go.Proofs.YtpndmanbfleadaaGreatDoor
open Go.Awp Go.Tx
set_option maxRecDepth 20000
inductive Tag.Uniq:Tag->Prop
 |mk {t:Tag}:t.names.Nodup->(∀p∈t.parts,Tag.Uniq p)->Tag.Uniq t
theorem Tag.Uniq.nd{t:Tag}(h:t.Uniq):t.names.Nodup:=by cases h;assumption
theorem Tag.Uniq.part{t p:Tag}(h:t.Uniq)(hp:p∈t.parts):p.Uniq:=by cases h with|mk _ h=>exact h p hp
theorem Hh(t:Tag)(ht:t.Fit big):∀(m k:Nat) (es:List (ByteArray×Bool)),t.names.length-k=m->(∀s,(Mp.get Mp.seq s es).getD false=true↔s∈t.names.take k)->
 ∃o:Bool,bS (t.names,(t.names.length:Int),(k:Int),t,es,())=some (if o=true then .inl (true,())else .inr (t,()))/\(o=false↔(t.names.drop k).Nodup/\∀s∈t.names.drop k,s∉t.names.take k):=by
 intro m
 induction m with
 |zero=>
  intro k es hk hes
  have hlt:¬k<t.names.length:=by omega
  rw[bS]
  simp only[sW,hlt]
  exact⟨false,by simp,by simp[(eJ hlt).1]⟩
 |succ m ih=>
  intro k es hk hes
  have hlt:k<t.names.length:=by omega
  obtain⟨p,hp1,hm,hd,g1,g2⟩:=dL hlt
  have htk:t.names.take (k+1)=t.names.take k++[p]:=by rw[List.take_add_one,hp1];rfl
  have hes2:∀s,(Mp.get Mp.seq s (Mp.set Mp.seq Mp.slt p true es)).getD false=true↔s∈t.names.take (k+1):=by
   intro s
   rw[Az,htk]
   by_cases e:s=p
   ·simp[e]
   ·rw[Q5 e,hes s]
    simp[e]
  obtain⟨o,o1,o2⟩:=ih (k+1) _ (by omega) hes2
  rw[bS]
  simp only[sW,g1,g2,hlt,hp1,aO hlt ht.names]
  by_cases e:p∈t.names.take k
  ·refine⟨true,by rw[Q6 ((hes p).2 e)];rfl,?_⟩
   rw[hd]
   simp[e]
  ·refine⟨o,by rw[Q5 λh=>e ((hes p).1 h)];exact o1,o2.trans ?_⟩
   rw[hd,htk]
   simp only[OD,NX,NI,Qc,or_false]
   constructor
   ·rintro⟨a,b⟩
    refine⟨⟨λhq=>b p hq (.inr rfl),a⟩,λs hs=> ?_⟩
    rcases hs with rfl|hs
    ·exact e
    ·exactλq=>b s hs (.inl q)
   ·rintro⟨⟨a1,a2⟩,b⟩
    refine⟨a2,λs hs=> ?_⟩
    rintro(q|rfl)
    ·exact b s (.inr hs) q
    ·exact a1 hs
theorem JY(t:Tag)(ht:t.Fit big)(hp:∀p∈t.parts,∃b,n_52 (p,())=some (b,())/\(b=false↔p.Uniq)):∀(m k:Nat),t.parts.length-k=m->∃o:Option Nat,
 aM (t.parts,(t.parts.length:Int),(k:Int),())=some (match o with|some i=> .inl ((i:Int),())|none=> .inr ())/\(o=none↔∀p∈t.parts.drop k,p.Uniq):=by
 intro m
 induction m with
 |zero=>
  intro k hk
  have hlt:¬k<t.parts.length:=by omega
  rw[aM]
  simp only[sW,hlt]
  exact⟨.none,rfl,by simp[(eJ hlt).1]⟩
 |succ m ih=>
  intro k hk
  have hlt:k<t.parts.length:=by omega
  obtain⟨p,hp1,hm,hd,g1,g2⟩:=dL hlt
  obtain⟨b,e1,e2⟩:=hp p hm
  rw[aM]
  simp only[sW,g1,g2,hlt,hp1,e1,aO hlt ht.parts]
  cases b with
  |true=>
   simp only[sW]
   refine⟨some k,rfl,?_⟩
   have:¬p.Uniq:=λh=>by cases e2.2 h
   rw[hd]
   simp[this]
  |false=>
   simp only[sW]
   obtain⟨o,o1,o2⟩:=ih (k+1) (by omega)
   refine⟨o,o1,o2.trans ?_⟩
   rw[hd]
   simp[e2.1 rfl]
theorem CG:∀t:Tag,t.Fit big->∃b,n_52 (t,())=some (b,())/\(b=false↔t.Uniq):=by
 refine Tag.ind λt ih ht=> ?_
 obtain⟨o,o1,o2⟩:=Hh t ht _ 0 [] rfl (λs=>by simp[Mp.get])
 obtain⟨u,u1,u2⟩:=JY t ht (λp hp=>ih p hp (ht.part hp)) _ 0 rfl
 simp only[O1,ON,N9,P0]at o1 o2 u1 u2
 have hu:t.Uniq↔o=false/\u=none:=by
  rw[o2,u2]
  exact⟨λh=>⟨⟨h.nd,λs _=>by simp⟩,λp hp=>h.part hp⟩,λh=> .mk h.1.1 h.2⟩
 rw[n_52]
 cases o with
 |true=>simp only[o1,sW];exact⟨_,rfl,by simp[hu]⟩
 |false=>
  simp only[o1,sW]
  rw[n_78c52,n_104c52]
  cases u with
  |none=>simp only[u1,sW];exact⟨_,rfl,by simp[hu]⟩
  |some i=>simp only[u1,sW];exact⟨_,rfl,by simp[hu]⟩
theorem DH(t:Tag)(ht:t.Fit big)(hv:∀s∈t.names,Lib.validD s.data.toList=true):∀(m k:Nat),t.names.length-k=m->bu (t.names,(t.names.length:Int),(k:Int),())=some (.inr ()):=by
 intro m
 induction m with
 |zero=>
  intro k hk
  have hlt:¬k<t.names.length:=by omega
  rw[bu]
  simp only[sW,hlt]
 |succ m ih=>
  intro k hk
  have hlt:k<t.names.length:=by omega
  obtain⟨p,hp1,hm,hd,g1,g2⟩:=dL hlt
  rw[bu]
  simp only[sW,g1,g2,hlt,hp1,f86 (ht.name hm),hv p hm,OY,aO hlt ht.names]
  exact ih (k+1) (by omega)
theorem DU(t:Tag)(ht:t.Fit big)(hv:∀p∈t.parts,n_51 (p,())=some (true,())):∀(m k:Nat),t.parts.length-k=m->aE (t.parts,(t.parts.length:Int),(k:Int),())=some (.inr ()):=by
 intro m
 induction m with
 |zero=>
  intro k hk
  have hlt:¬k<t.parts.length:=by omega
  rw[aE]
  simp only[sW,hlt]
 |succ m ih=>
  intro k hk
  have hlt:k<t.parts.length:=by omega
  obtain⟨p,hp1,hm,hd,g1,g2⟩:=dL hlt
  have e4:n_79 (p,())=some (false,()):=by
   rw[n_79]
   simp only[hv p hm,sW];rfl
  rw[aE]
  simp only[sW,g1,g2,hlt,hp1,e4,aO hlt ht.parts]
  exact ih (k+1) (by omega)
theorem AD:∀t:Tag,t.Fit big->wq t->n_51 (t,())=some (true,()):=by
 refine Tag.ind λt ih ht hg=> ?_
 have L:=hg.loc
 have h1:=DH t ht L.vn _ 0 rfl
 have h2:=DU t ht (λp hp=>ih p hp (ht.part hp) (hg.part hp)) _ 0 rfl
 simp only[O1,ON,N9]at h1 h2
 have hn:fi (t.names,())=some (false,()):=by
  unfold fi gy
  simp only[h1,sW];rfl
 have hp:n_78c79 (t.parts,())=some (false,()):=by
  rw[n_78c79,n_104c79]
  simp only[h2,sW];rfl
 have e75:DE (t.text,())=some (false,()):=by rw[f86 ht.text,L.vt];rfl
 have a1:=L.k0
 have a2:=L.k6
 have a3:¬t.n< -9007199254740992:=by have:=L.lo;omega
 have a4:¬t.n>9007199254740992:=by have:=L.hi;omega
 have a4':¬(9007199254740992:Int)<t.n:=by have:=L.hi;omega
 have n0:=L.n0
 have tx:t.kind≠4->t.text.toList=(NA #[]).toList:=λh=>Fy.2 (L.tx h)
 have pt:=L.pt
 have nm:=L.nm
 have ln:=L.ln
 have hk:t.kind=0\/t.kind=1\/t.kind=2\/t.kind=3\/t.kind=4\/t.kind=5\/t.kind=6:=by omega
 rw[n_51]
 generalize (NA #[]).toList=X at tx⊢
 rcases hk with k|k|k|k|k|k|k
 ·have q1:=n0 (by omega);have q2:=tx (by omega);have q3:=pt (by omega);have q4:=nm (by omega)
  simp[k,q1,q2,q3,q4]at hn hp⊢
  simp[hn,hp,e75]
 ·have q1:=n0 (by omega);have q2:=tx (by omega);have q3:=pt (by omega);have q4:=nm (by omega)
  simp[k,q1,q2,q3,q4]at hn hp⊢
  simp[hn,hp,e75]
 ·have q1:=n0 (by omega);have q2:=tx (by omega);have q3:=pt (by omega);have q4:=nm (by omega)
  simp[k,q1,q2,q3,q4]at hn hp⊢
  simp[hn,hp,e75]
 ·have q2:=tx (by omega);have q3:=pt (by omega);have q4:=nm (by omega)
  simp[k,a3,a4',q2,q3,q4]at hn hp⊢
  simp[hn,hp,e75]
 ·have q1:=n0 (by omega);have q3:=pt (by omega);have q4:=nm (by omega)
  simp[k,q1,q3,q4]at hn hp⊢
  simp[hn,hp,e75]
 ·have q1:=n0 (by omega);have q2:=tx (by omega);have q4:=nm (by omega)
  simp[k,q1,q2,q4]at hn hp⊢
  simp[hn,hp,e75]
 ·have q1:=n0 (by omega);have q2:=tx (by omega);have q5:=ln k
  simp[k,q1,q2,q5]at hn hp⊢
  simp[hn,hp,e75]
theorem EO(t:Tag)(ht:t.Fit nG)(hb:t.bulk<=nG)(hg:wq t)(hu:t.Uniq)(h1:t.dep<=20)(h2:t.cnt<=500)(h3:t.byts<=4096):tD (t,())=some (0,()):=by
 have htb:t.Fit big:=Tag.Fit.mono (by decide) t ht
 obtain⟨b,b1,b2⟩:=CG t htb
 have hb0:=b2.2 hu
 subst hb0
 have e1:¬((t.dep:Int)>20):=by omega
 have e2:¬((t.cnt:Int)>500):=by omega
 have e3:¬((t.byts:Int)>4096):=by omega
 unfold tD
 simp[I2 t ht hb,e1,e2,e3,AD t htb hg,b1]
theorem zu(t:Tag)(ht:t.Fit big)(h:tD (t,())=some (0,())):t.Uniq:=by
 obtain⟨b,b1,b2⟩:=CG t ht
 obtain⟨a,d,s,c1,c2⟩:=f58 t ht
 obtain⟨g,g1,_,_⟩:=f61 t ht
 refine b2.1 ?_
 cases b with
 |false=>rfl
 |true=>
  unfold tD at h
  simp only[c2,g1,b1,sW]at h
  exfalso
  revert h
  by_cases h1:d>20
  ·simp[h1]
  ·by_cases h2:a>500
   ·simp[h1,h2]
   ·by_cases h3:s>4096
    ·simp[h1,h2,h3]
    ·cases g<;>simp[h1,h2,h3,g1,b1]
end Go.Proofs.YtpndmanbfleadaaGreatDoor
end
section
namespace Go.Proofs.YtpndmanbfleadaaGreatDoor
open Go.Awp Go.Tx
set_option maxRecDepth 20000
def goP(s:ByteArray):Bool->List ByteArray->List ByteArray×Bool
 |d,[]=>([],d)
 |true,a::r=>(a::r,true)
 |false,a::r=>if¬tle a s then(s::a::r,true)else if a=s then(a::r,true)else(a::(goP s false r).1,(goP s false r).2)
theorem qQ(s:ByteArray)(r:List ByteArray):goP s true r=(r,true):=by cases r<;>rfl
theorem u9(s:ByteArray):∀l:List ByteArray,(if(goP s false l).2=true then(goP s false l).1 else(goP s false l).1++[s])=r9 l s
 |[]=>rfl
 |a::r=>by
  unfold goP r9
  have ih:=u9 s r
  by_cases h:tle a s
  ·by_cases e:a=s
   ·simp[e,mS]
   ·simp only[h,not_true_eq_false,Q3,e,<-ih]
    split<;>simp
  ·simp[h]
theorem D6(l:List ByteArray)(s:ByteArray)(hl:l.length<4294967295):∀(m k:Nat) (d:Bool) (out:List ByteArray),l.length-k=m->k<=l.length->out.length<=k+(if d=true then 1 else 0)->
 lY (l,s,d,(k:Int),out,())=some (s,(goP s d (l.drop k)).2,out++(goP s d (l.drop k)).1,()):=by
 intro m
 induction m with
 |zero=>
  intro k d out hk hkl ho
  have hlt:¬k<l.length:=by omega
  rw[lY,(eJ hlt).1]
  simp only[sW,hlt,goP,Ox]
 |succ m ih=>
  intro k d out hk hkl ho
  have hlt:k<l.length:=by omega
  obtain⟨p,hp1,hm,hd,g1,g2⟩:=dL hlt
  have hw:=aO hlt (show l.length<=9223372036854775807 by omega)
  rw[hd,lY]
  cases d with
  |true=>
   have h3:out.length+[p].length<=4294967296:=by simp at ho⊢;omega
   simp only[sW,g1,g2,hlt,hp1,hw,h3,OY,Oq]
   rw[ih (k+1) true (out++[p]) (by omega) (by omega) (by simp at ho⊢;omega),qQ]
   simp[goP]
  |false=>
   have ho:out.length<=k:=by simpa using ho
   by_cases h:tle p s
   ·have h3:out.length+[p].length<=4294967296:=by simp;omega
    by_cases e:p=s
    ·have e2:(p.toList==s.toList)=true:=by rw[e];simp
     simp only[sW,g1,g2,hlt,hp1,hw,h3,AF,h,e2,O6,not_true_eq_false,decide_false,Oq]
     rw[ih (k+1) true (out++[p]) (by omega) (by omega) (by simp;omega),qQ]
     simp[goP,e,mS]
    ·have e2:(p.toList==s.toList)=false:=by
      rw[Qq];intro q;exact e (Cx (by simpa using q))
     simp only[sW,g1,g2,hlt,hp1,hw,h3,AF,h,e2,O6,not_true_eq_false,decide_false,Oq]
     rw[ih (k+1) false (out++[p]) (by omega) (by omega) (by simp;omega)]
     simp[goP,h,e]
   ·have h3:out.length+[s].length<=4294967296:=by simp;omega
    have h4:(out++[s]).length+[p].length<=4294967296:=by simp;omega
    simp only[sW,g1,g2,hlt,hp1,hw,h3,h4,AF,h,O6,not_false_eq_true,decide_true,Oq]
    rw[ih (k+1) true (out++[s]++[p]) (by omega) (by omega) (by simp;omega),qQ]
    simp[goP,h]
theorem Jv(l:List ByteArray)(s:ByteArray)(hl:l.length<4294967295):Jf (l,s,())=some (r9 l s,()):=by
 have h:=D6 l s hl _ 0 false [] rfl (OI _) (OI _)
 have z:((0:Nat):Int)=0:=rfl
 rw[z,N9,NW]at h
 have hle:(goP s false l).1.length<=l.length+1:=by
  have h1:=gF s l
  rw[<-u9]at h1
  split at h1
  ·exact h1
  ·rw[NT]at h1;omega
 have hg:=u9 s l
 rw[Jf]
 simp only[sW,h]
 cases hb:(goP s false l).2 with
 |true=>
  rw[hb]at hg
  simp only[Q2]at hg
  simp[hg]
 |false=>
  rw[hb]at hg
  simp only[Oq,Q3]at hg
  have h3:(goP s false l).1.length+[s].length<=4294967296:=by simp;omega
  simp only[sW,O6,h3,hg]
mutual
def Tag.all:Tag->List ByteArray
 | .mk _ _ _ ns ps=>ns++allL ps
def allL:List Tag->List ByteArray
 |[]=>[]
 |p::ps=>p.all++allL ps
end
theorem pD(t:Tag):t.all=t.names++allL t.parts:=by cases t;rfl
theorem wF:∀ps:List Tag,(∀p∈ps,p.all.length+1<=p.cnt)->(allL ps).length+ps.length<=cntL ps
 |[],_=>NY _
 |p::ps,h=>by
  have h1:=h p NG
  have h2:=wF ps λq hq=>h q (NC _ hq)
  rw[allL,cntL,NT,Oj]
  omega
theorem FT:∀t:Tag,t.Right->t.all.length+1<=t.cnt:=by
 refine Tag.ind λt ih hr=> ?_
 have h1:=wF t.parts λp hp=>ih p hp (hr.part hp)
 rw[pD,nh,NT]
 by_cases hk:t.kind=6
 ·have:=hr.len hk;omega
 ·rw[hr.none hk];simp only[OJ];omega
theorem Hf(t:Tag)(ht:t.Fit big):∀(m k:Nat) (set:List ByteArray),t.names.length-k=m->set.length+(t.names.drop k).length<4294967295->
 dF (set,(k:Int),t,())=some (dK set (t.names.drop k),t,()):=by
 intro m
 induction m with
 |zero=>
  intro k set hk hs
  have hlt:¬k<t.names.length:=by omega
  rw[dF,(eJ hlt).1]
  simp only[sW,hlt,dK,List.foldl_nil]
 |succ m ih=>
  intro k set hk hs
  have hlt:k<t.names.length:=by omega
  obtain⟨p,hp1,hm,hd,g1,g2⟩:=dL hlt
  rw[hd,Oj]at hs
  have hl:=gF p set
  rw[hd,dF]
  simp only[sW,g1,g2,hlt,hp1,Jv set p (by omega),aO hlt ht.names]
  rw[ih (k+1) (r9 set p) (by omega) (by omega)]
  rfl
theorem Hp(t:Tag)(ht:t.Fit big)(hp:∀p∈t.parts,∀set:List ByteArray,set.length+p.all.length<4294967295->n_48 (set,p,())=some (dK set p.all,())):∀(m k:Nat) (set:List ByteArray),t.parts.length-k=m->set.length+(allL (t.parts.drop k)).length<4294967295->
 il (set,(k:Int),t,())=some (dK set (allL (t.parts.drop k)),()):=by
 intro m
 induction m with
 |zero=>
  intro k set hk hs
  have hlt:¬k<t.parts.length:=by omega
  rw[il,(eJ hlt).1]
  simp only[sW,hlt,dK,allL,List.foldl_nil]
 |succ m ih=>
  intro k set hk hs
  have hlt:k<t.parts.length:=by omega
  obtain⟨p,hp1,hm,hd,g1,g2⟩:=dL hlt
  rw[hd,allL,NT]at hs
  have hl:=gE p.all set
  rw[hd,il]
  simp only[sW,g1,g2,hlt,hp1,hp p hm set (by omega),aO hlt ht.parts]
  rw[ih (k+1) (dK set p.all) (by omega) (by omega),allL,qh]
theorem Bz:∀t:Tag,t.Fit big->∀set:List ByteArray,set.length+t.all.length<4294967295->n_48 (set,t,())=some (dK set t.all,()):=by
 refine Tag.ind λt ih ht set hs=> ?_
 rw[pD,NT]at hs
 have h1:=Hf t ht _ 0 set rfl (by rw[N9];omega)
 have hl:=gE t.names set
 have h2:=Hp t ht (λp hp=>ih p hp (ht.part hp)) _ 0 (dK set t.names) rfl (by rw[N9];omega)
 have z:((0:Nat):Int)=0:=rfl
 rw[z,N9]at h1 h2
 rw[n_48]
 simp only[sW,h1,h2,pD,qh]
theorem Kv(ps:List Tag)(hl:ps.length<=big)(hp:∀p∈ps,n_45 (p,())=some (p.all,())):∀(m k:Nat) (out:List ByteArray),ps.length-k=m->out.length+(allL (ps.drop k)).length<=4294967296->
 ie (ps,(ps.length:Int),(k:Int),out,())=some (out++allL (ps.drop k),())/\cR (ps,(ps.length:Int),(k:Int),out,())=some (out++allL (ps.drop k),()):=by
 intro m
 induction m with
 |zero=>
  intro k out hk ho
  have hlt:¬k<ps.length:=by omega
  rw[ie,cR,(eJ hlt).1]
  simp only[sW,hlt,allL,Ox,and_self]
 |succ m ih=>
  intro k out hk ho
  have hlt:k<ps.length:=by omega
  obtain⟨p,hp1,hm,hd,g1,g2⟩:=dL hlt
  rw[hd,allL,NT]at ho
  have h3:out.length+p.all.length<=4294967296:=by omega
  obtain⟨i1,i2⟩:=ih (k+1) (out++p.all) (by omega) (by rw[NT];omega)
  rw[hd,ie,cR]
  simp only[sW,g1,g2,hlt,hp1,hp p hm,h3,aO hlt hl,i1,i2,allL,Oi,and_self]
theorem IJ:∀t:Tag,t.Fit big->t.all.length<=4294967296->n_45 (t,())=some (t.all,())/\kE (t,())=some (t.all,()):=by
 refine Tag.ind λt ih ht hs=> ?_
 have hm:∀(ps:List Tag) (p:Tag),p∈ps->p.all.length<=(allL ps).length:=by
  intro ps
  induction ps with
  |nil=>intro p hp;cases hp
  |cons q qs iq=>
   intro p hp
   rw[allL,NT]
   rcases NI.1 hp with rfl|hp
   ·omega
   ·have:=iq p hp;omega
 rw[pD,NT]at hs
 obtain⟨h1,h2⟩:=Kv t.parts ht.parts (λp hp=>(ih p hp (ht.part hp) (by have:=hm t.parts p hp;omega)).1) _ 0 t.names rfl (by rw[N9];omega)
 have z:((0:Nat):Int)=0:=rfl
 rw[z,N9]at h1 h2
 have h3:t.names.length<=4294967296:=by omega
 have h4:df (t.names,())=some (t.names,()):=by
  unfold df
  simp only[sW,h3]
 refine⟨?_,?_⟩
 ·rw[n_45]
  simp only[sW,h4,h1,pD]
 ·rw[kE]
  simp only[sW,h4,h2,pD]
end Go.Proofs.YtpndmanbfleadaaGreatDoor
end
section
namespace Go.Proofs.YtpndmanbfleadaaGreatDoor
open Go.Awp Go.Tx
set_option maxRecDepth 20000
abbrev NP:=ByteArray×Tag
def ple(a b:NP):Prop:=tle a.1 b.1
def oJ(l:List NP):List NP:=l.mergeSort λa b=>decide (tle a.1 b.1)
theorem db(l:List NP):(oJ l).Perm l:=QS l _
theorem fz(l:List NP):(oJ l).Pairwise ple:=by
 refine(QA (le:=λa b:NP=>decide (tle a.1 b.1)) (λa b c h k=> ?_) (λa b=> ?_) l).imp λ{a b} h=> ?_
 ·simp only[Q4]at h k⊢
  exact oT h k
 ·rcases kX a.1 b.1 with h|h<;>simp[h]
 ·simp only[Q4]at h
  exact h
theorem tO:∀{l:List NP},(l.map (·.1)).Nodup->∀{a b:NP},a∈l->b∈l->a.1=b.1->a=b
 |[],_,_,_,h,_,_=>by cases h
 |c::l,hn,a,b,ha,hb,e=>by
  rw[NF,OD]at hn
  rcases NI.1 ha with e1|h1
  ·rcases NI.1 hb with e2|h2
   ·rw[e1,e2]
   ·exact(hn.1 (by rw[<-e1,e];exact N1 (f:=(·.1)) h2)).elim
  ·rcases NI.1 hb with e2|h2
   ·exact(hn.1 (by rw[<-e2,<-e];exact N1 (f:=(·.1)) h1)).elim
   ·exact tO hn.2 h1 h2 e
theorem oa{l l':List NP}(hn:(l.map (·.1)).Nodup)(hp:l.Perm l')(h:l.Pairwise ple)(h':l'.Pairwise ple):l=l':=
 Qz (λa b ha hb k k'=>tO hn ha (hp.mem_iff.2 hb) (mR k k')) h h' hp
theorem HX(t:Tag):Tag.mk t.kind t.n t.text t.names t.parts=t:=by cases t;rfl
def fin(k n:Int)(tx:ByteArray)(ns:List ByteArray)(ps:List Tag):Tag:=
 if k=6 then⟨k,n,tx,(oJ (ns.zip ps)).map (·.1),(oJ (ns.zip ps)).map (·.2)⟩else⟨k,n,tx,[],ps⟩
mutual
def Tag.srt:Tag->Tag
 | .mk k n tx ns ps=>fin k n tx ns (srtL ps)
def srtL:List Tag->List Tag
 |[]=>[]
 |p::ps=>p.srt::srtL ps
end
theorem iy(t:Tag):t.srt=fin t.kind t.n t.text t.names (srtL t.parts):=by cases t;rfl
theorem kQ:∀ps:List Tag,srtL ps=ps.map Tag.srt
 |[]=>rfl
 |p::ps=>by rw[srtL,NF,kQ ps]
theorem eo(ps:List Tag):(srtL ps).length=ps.length:=by rw[kQ,Nz]
theorem oZ{α β:Type}:∀{a:List α} {b:List β},a.length=b.length->(a.zip b).map (·.1)=a
 |[],[],_=>rfl
 |x::a,y::b,h=>by rw[PV,NF,oZ (by simpa using h)]
theorem CS{α β:Type}:∀{a:List α} {b:List β},a.length=b.length->(a.zip b).map (·.2)=b
 |[],[],_=>rfl
 |x::a,y::b,h=>by rw[PV,NF,CS (by simpa using h)]
theorem mc{ns:List ByteArray}{ps:List Tag}(h:ns.length=ps.length):(oJ (ns.zip ps)).map (·.1)=sortStr ns:=by
 refine oK (((db _).map _).trans (by rw[oZ h];exact(eD ns).symm)) ?_ (fE ns)
 rw[PZ]
 exact(fz _).imp λh=>h
theorem Lb(ns:List ByteArray)(hl:ns.length<=big)(hn:ns.Nodup)(s:ByteArray)(i:Nat)(hi:ns[i]?=some s):∀(m k:Nat),i-k=m->k<=i->
 jh (ns,s,(ns.length:Int),(k:Int),())=some (.inl ((i:Int),())):=by
 have hil:i<ns.length:=(Nx.1 hi).1
 have his:ns[i]=s:=(Nx.1 hi).2
 intro m
 induction m with
 |zero=>
  intro k hk hki
  have e:k=i:=by omega
  subst e
  obtain⟨p,hp1,hm,hd,g1,g2⟩:=dL hil
  have e2:(s.toList==s.toList)=true:=by simp
  rw[jh]
  simp only[sW,g1,g2,hil,hi,e2]
 |succ m ih=>
  intro k hk hki
  have hlt:k<ns.length:=by omega
  obtain⟨p,hp1,hm,hd,g1,g2⟩:=dL hlt
  have hps:s≠p:=λe=>by
   have h1:ns[k]=p:=(Nx.1 hp1).2
   have:=(Qr.1 hn) k i hlt hil (by omega)
   exact this (by rw[h1,his,e])
  have e2:¬s.toList=p.toList:=λq=>hps (Cx q)
  rw[jh]
  simp only[sW,g1,g2,hlt,hp1,e2,Q3,aO hlt hl]
  exact ih (k+1) (by omega) (by omega)
theorem Gu(ns:List ByteArray)(hl:ns.length<=big)(hn:ns.Nodup)(s:ByteArray)(i:Nat)(hi:ns[i]?=some s):Fz (ns,s,())=some ((i:Int),()):=by
 have h:=Lb ns hl hn s i hi _ 0 rfl (OI _)
 have z:((0:Nat):Int)=0:=rfl
 rw[z]at h
 rw[Fz]
 simp only[sW,h]
theorem Jc(t t0:Tag)(ht:t.names.length<=big)(hn:t.names.Nodup)(ps:List Tag)(a b:Int)(c:ByteArray)(d:List ByteArray)(L:List NP)(hL:∀q∈L,∃i:Nat,t.names[i]?=some q.1/\ps[i]?=some q.2)(hl:L.length<4294967295):
 ∀(m k:Nat) (out:List Tag),L.length-k=m->out.length<=k->ck (L.map (·.1),(L.length:Int),(k:Int),t,t0,ps,a,b,c,d,out,())=some (t0,a,b,c,d,out++(L.drop k).map (·.2),()):=by
 intro m
 induction m with
 |zero=>
  intro k out hk ho
  have hlt:¬k<L.length:=by omega
  rw[ck,(eJ hlt).1]
  simp only[sW,hlt,N_,Ox]
 |succ m ih=>
  intro k out hk ho
  have hlt:k<L.length:=by omega
  obtain⟨q,hq1,hm,hd,g1,g2⟩:=dL hlt
  obtain⟨i,i1,i2⟩:=hL q hm
  have hil:i<ps.length:=(Nx.1 i2).1
  have h1:(L.map (·.1))[k]?=some q.1:=by rw[NB,hq1];rfl
  have h3:out.length+[q.2].length<=4294967296:=by simp;omega
  have h4:(0:Int)<=(i:Int)/\(i:Int)<(ps.length:Int):=by omega
  rw[hd,ck]
  simp only[sW,g1,g2,hlt,h1,Gu t.names ht hn q.1 i i1,h4,i2,h3,and_self,aO hlt (show L.length<=9223372036854775807 by omega)]
  rw[ih (k+1) (out++[q.2]) (by omega) (by simp;omega)]
  simp
theorem Ho(ps:List Tag)(hl:ps.length<4294967295)(t t0:Tag)(hp:∀p∈ps,n_43 (p,())=some (p.srt,())):∀(m k:Nat) (out:List Tag),ps.length-k=m->out.length<=k->
 ic (ps,(ps.length:Int),(k:Int),t,t0,out,())=some (t,t0,out++srtL (ps.drop k),()):=by
 intro m
 induction m with
 |zero=>
  intro k out hk ho
  have hlt:¬k<ps.length:=by omega
  rw[ic,(eJ hlt).1]
  simp only[sW,hlt,srtL,Ox]
 |succ m ih=>
  intro k out hk ho
  have hlt:k<ps.length:=by omega
  obtain⟨p,hp1,hm,hd,g1,g2⟩:=dL hlt
  have h3:out.length+[p.srt].length<=4294967296:=by simp;omega
  rw[hd,ic]
  simp only[sW,g1,g2,hlt,hp1,hp p hm,h3,aO hlt (show ps.length<=9223372036854775807 by omega)]
  rw[ih (k+1) (out++[p.srt]) (by omega) (by simp;omega),srtL]
  simp
theorem ni:∀ps:List Tag,ps.length<=cntL ps
 |[]=>NY _
 |p::ps=>by have:=ni ps;have:=nh p;rw[cntL,Oj];omega
theorem qJ:∀{ps:List Tag} {p:Tag},p∈ps->p.cnt<=cntL ps
 |q::ps,p,h=>by
  rw[cntL]
  rcases NI.1 h with rfl|h
  ·omega
  ·have:=qJ h;omega
theorem J2{ns:List ByteArray}{ps:List Tag}{q:NP}(h:q∈ns.zip ps):∃i:Nat,ns[i]?=some q.1/\ps[i]?=some q.2:=by
 obtain⟨i,hi⟩:=OM h
 rw[Qs]at hi
 exact⟨i,hi⟩
theorem Ck:∀t:Tag,t.Right->t.Uniq->t.cnt<4294967295->n_43 (t,())=some (t.srt,()):=by
 refine Tag.ind λt ih hr hu hc=> ?_
 have c1:=nh t
 have c2:=ni t.parts
 have hps:∀p∈t.parts,n_43 (p,())=some (p.srt,()):=λp hp=>ih p hp (hr.part hp) (hu.part hp) (by have:=qJ hp;omega)
 have h1:=Ho t.parts (by omega) t (Tag.mk 0 0 (NA #[]) [] []) hps _ 0 [] rfl (OI _)
 have z:((0:Nat):Int)=0:=rfl
 rw[z,N9,NW]at h1
 have hnl:t.names.length<=8796093020160:=by
  by_cases hk:t.kind=6
  ·have:=hr.len hk;omega
  ·rw[hr.none hk];simp
 have h2:Kk (t.names,())=some (t.names,()):=rfl
 have h3:fW (t.names,())=some (sortStr t.names,()):=by
  unfold fW
  simp only[sW,hnl]
 rw[n_43]
 by_cases hk:t.kind=6
 ·have hk':(t.kind==6)=true:=by rw[hk];rfl
  have hlen:t.names.length=(srtL t.parts).length:=by rw[eo];exact hr.len hk
  have hsl:(oJ (t.names.zip (srtL t.parts))).length=t.names.length:=by
   rw[(db _).length_eq,List.length_zip,<-hlen,Nat.min_self]
  have h4:=Jc t (Tag.mk 0 0 (NA #[]) [] []) (by unfold big;omega) hu.nd (srtL t.parts) t.kind t.n t.text (sortStr t.names) (oJ (t.names.zip (srtL t.parts))) (λq hq=>J2 ((db _).mem_iff.1 hq)) (by rw[hsl,hlen,eo];omega) _ 0 [] rfl (OI _)
  rw[z,N9,NW,mc hlen,hsl]at h4
  have h5:(sortStr t.names).length=t.names.length:=en _
  simp only[sW,h1,h2,h3,h5]
  rw[Q6 hk]
  simp only[sW,h4]
  rw[iy]
  unfold fin
  rw[Q6 hk,mc hlen]
 ·have hk':(t.kind==6)=false:=by simpa using hk
  have hs:sortStr ([]:List ByteArray)=[]:=zc Qp
  simp only[sW,h1,h2,h3]
  rw[Q5 hk]
  simp only[sW]
  rw[iy]
  unfold fin
  rw[Q5 hk,hr.none hk,hs]
def bub:List NP->NP->List NP->List NP
 |[],x,B=>x::B
 |a::r,x,B=>if tle a.1 x.1 then(a::r).reverse++x::B else bub r x (a::B)
theorem qG:∀(R:List NP) (x:NP) (B:List NP),(bub R x B).Perm (R++x::B)
 |[],x,B=> .refl _
 |a::r,x,B=>by
  unfold bub
  split
  ·exact(List.reverse_perm _).append_right _
  ·refine(qG r x (a::B)).trans ?_
   have h1:(r++x::a::B).Perm (r++a::x::B):=(List.Perm.swap a x B).append_left r
   refine h1.trans ?_
   exact(List.perm_middle (l₁:=r) (a:=a) (l₂:=x::B))
theorem pF:∀(R:List NP) (x:NP) (B:List NP),(R.reverse++B).Pairwise ple->(∀b∈B,ple x b)->(bub R x B).Pairwise ple
 |[],x,B,h,hb=>by
  unfold bub
  rw[List.reverse_nil,NW]at h
  exact Pj.2 ⟨hb,h⟩
 |a::r,x,B,h,hb=>by
  unfold bub
  split
  ·rename_i hax
   rw[QL]at h⊢
   refine⟨h.1,Pj.2 ⟨hb,h.2.1⟩,λc hc d hd=> ?_⟩
   rcases NI.1 hd with rfl|hd
   ·rw[PX,NX]at hc
    rw[PX]at h
    rcases hc with hc|hc
    ·exact oT ((QL.1 h.1).2.2 c hc a NG) hax
    ·rw[OS.1 hc];exact hax
   ·exact h.2.2 c hc d hd
  ·rename_i hax
   rw[PX,Oi]at h
   refine pF r x (a::B) h λb hb'=> ?_
   rcases NI.1 hb' with rfl|hb'
   ·exact(kX _ _).resolve_left hax
   ·exact hb b hb'
theorem F0(R:List NP)(x:NP)(B:List NP):(bub R x B).length=R.length+1+B.length:=by
 rw[(qG R x B).length_eq,NT,Oj];omega
theorem wy(i:Int)(t t0:Tag):∀(R:List NP) (x:NP) (B:List NP),R.length+1+B.length<=big->
 cx (i,(R.length:Int),t,t0,R.reverse.map (·.1)++x.1::B.map (·.1),R.reverse.map (·.2)++x.2::B.map (·.2),())=some (i,t,t0,(bub R x B).map (·.1),(bub R x B).map (·.2),())
 |[],x,B,h=>by
  rw[cx]
  simp[bub]
 |a::r,x,B,h=>by
  have ih:=wy i t t0 r x (a::B) (by simp only[Oj]at h⊢;omega)
  have hbig:big=9223372036854775807:=rfl
  rw[Oj]at h
  rw[PX,Of,Of,Oi,Oi]
  simp only[NF,N_,NQ,NW]at ih⊢
  generalize hA:r.reverse.map (·.1)=A at ih⊢
  generalize hQ:r.reverse.map (·.2)=Q at ih⊢
  generalize hB1:B.map (·.1)=B1 at ih⊢
  generalize hB2:B.map (·.2)=B2 at ih⊢
  have lA:A.length=r.length:=by rw[<-hA];simp
  have lQ:Q.length=r.length:=by rw[<-hQ];simp
  have lB1:B1.length=B.length:=by rw[<-hB1];simp
  have lB2:B2.length=B.length:=by rw[<-hB2];simp
  have w:IntKind.i64.wrap (((r.length+1:Nat):Int) -1)=(r.length:Int):=by rw[qA (by omega) (by omega)];omega
  have p1:(A++a.1::x.1::B1)[r.length+1]?=some x.1:=by rw[<-lA];simp
  have p0:(A++a.1::x.1::B1)[r.length]?=some a.1:=by rw[<-lA];simp
  have q1:(Q++a.2::x.2::B2)[r.length+1]?=some x.2:=by rw[<-lQ];simp
  have q0:(Q++a.2::x.2::B2)[r.length]?=some a.2:=by rw[<-lQ];simp
  have s1:((A++a.1::x.1::B1).set (r.length+1) a.1)=A++a.1::a.1::B1:=by rw[<-lA];simp
  have s2:((A++a.1::a.1::B1).set r.length x.1)=A++x.1::a.1::B1:=by rw[<-lA];simp
  have u1:((Q++a.2::x.2::B2).set (r.length+1) a.2)=Q++a.2::a.2::B2:=by rw[<-lQ];simp
  have u2:((Q++a.2::a.2::B2).set r.length x.2)=Q++x.2::a.2::B2:=by rw[<-lQ];simp
  have p2:(A++a.1::a.1::B1)[r.length]?=some a.1:=by rw[<-lA];simp
  have q2:(Q++a.2::a.2::B2)[r.length]?=some a.2:=by rw[<-lQ];simp
  have k0:((r.length+1:Nat):Int)>0:=by omega
  have k1:(0:Int)<=((r.length+1:Nat):Int)/\((r.length+1:Nat):Int)<(((A++a.1::x.1::B1).length:Nat):Int):=by simp;omega
  have k2:(0:Int)<=(r.length:Int)/\(r.length:Int)<(((A++a.1::x.1::B1).length:Nat):Int):=by simp;omega
  have k3:(0:Int)<=(r.length:Int)/\(r.length:Int)<(((A++a.1::a.1::B1).length:Nat):Int):=by simp;omega
  have k4:(0:Int)<=((r.length+1:Nat):Int)/\((r.length+1:Nat):Int)<(((Q++a.2::x.2::B2).length:Nat):Int):=by simp;omega
  have k5:(0:Int)<=(r.length:Int)/\(r.length:Int)<(((Q++a.2::x.2::B2).length:Nat):Int):=by simp;omega
  have k6:(0:Int)<=(r.length:Int)/\(r.length:Int)<(((Q++a.2::a.2::B2).length:Nat):Int):=by simp;omega
  have n1:Int.toNat ((r.length+1:Nat):Int)=r.length+1:=rfl
  have n2:Int.toNat (r.length:Int)=r.length:=rfl
  rw[cx,Oj]
  unfold bub
  by_cases hax:tle a.1 x.1
  ·simp only[QP,O_,decide_eq_true k0,Q2,k1,k2,and_self,w,n1,n2,p1,p0,blt_eq,hax,not_true_eq_false,decide_false,Oq,Q3]
   rw[PX,Oi]
   simp[hA,hQ,hB1,hB2]
  ·simp only[QP,O_,decide_eq_true k0,Q2,k1,k2,k3,k4,k5,k6,and_self,w,n1,n2,p1,p0,p2,q1,q0,q2,s1,s2,HX,u1,u2,blt_eq,hax,not_false_eq_true,decide_true,Q3]
   exact ih
def ja:List NP->List NP->List NP
 |L,[]=>L
 |L,x::r=>ja (bub L.reverse x []) r
theorem nJ:∀(r L:List NP),(ja L r).Perm (L++r)
 |[],L=>by rw[ja,Ox]
 |x::r,L=>by
  rw[ja]
  refine(nJ r _).trans ?_
  have h1:(bub L.reverse x []).Perm (L++[x]):=(qG L.reverse x []).trans ((List.reverse_perm L).append_right _)
  refine(h1.append_right r).trans ?_
  rw[Oi]
  exact .refl _
theorem kd:∀(r:List NP) {L:List NP},L.Pairwise ple->(ja L r).Pairwise ple
 |[],L,h=>h
 |x::r,L,h=>kd r (pF L.reverse x [] (by rw[QK,Ox];exact h) λb hb=>by cases hb)
theorem Ln(t t0:Tag)(hk:t.kind=6)(hl:t.names.length=t.parts.length)(hc:t.parts.length<4294967295)(hp:∀p∈t.parts,n_44 (p,())=some (p.srt,())):∀(m k:Nat) (L:List NP),t.parts.length-k=m->L.length=k->
 fw ((k:Int),t,t0,L.map (·.1),L.map (·.2),())=some (t,t0,(ja L ((t.names.zip (srtL t.parts)).drop k)).map (·.1),(ja L ((t.names.zip (srtL t.parts)).drop k)).map (·.2),()):=by
 have hzl:(t.names.zip (srtL t.parts)).length=t.parts.length:=by rw[List.length_zip,eo,hl,Nat.min_self]
 intro m
 induction m with
 |zero=>
  intro k L hm hL
  have hlt:¬k<t.parts.length:=by omega
  have hd:(t.names.zip (srtL t.parts)).drop k=[]:=Pe (by omega)
  rw[fw,hd]
  simp only[sW,hlt,ja]
 |succ m ih=>
  intro k L hm hL
  have hlt:k<t.parts.length:=by omega
  have hln:k<t.names.length:=by omega
  obtain⟨p,hp1,hpm,hd,g1,g2⟩:=dL hlt
  obtain⟨s,hs1,_,_,_,_⟩:=dL hln
  have hz:(t.names.zip (srtL t.parts)).drop k=(s,p.srt)::(t.names.zip (srtL t.parts)).drop (k+1):=by
   have h9:(t.names.zip (srtL t.parts))[k]?=some (s,p.srt):=by
    rw[Qs]
    exact⟨hs1,by rw[kQ,NB,hp1];rfl⟩
   have hkl:k<(t.names.zip (srtL t.parts)).length:=by omega
   rw[Qt hkl]
   rw[ND hkl]at h9
   rw[Pm h9]
  have b1:=wy (k:Int) t t0 L.reverse (s,p.srt) [] (by simp[hL];unfold big;omega)
  rw[QK,QT,hL]at b1
  simp only[N_]at b1
  have h3:(L.map (·.2)).length+[p.srt].length<=4294967296:=by simp;omega
  have h4:(L.map (·.1)).length+[s].length<=4294967296:=by simp;omega
  have hk':(t.kind !=6)=false:=by rw[hk];rfl
  rw[hz,fw]
  simp only[sW,g1,g2,hlt,hp1,hp p hpm,h3,h4,hk',hs1,Oq,b1,aO hlt (show t.parts.length<=9223372036854775807 by omega)]
  rw[ih (k+1) (bub L.reverse (s,p.srt) []) (by omega) (by rw[F0,QT,hL];rfl)]
  rfl
theorem Jb(t t0:Tag)(hk:t.kind≠6)(hc:t.parts.length<4294967295)(hp:∀p∈t.parts,n_44 (p,())=some (p.srt,())):∀(m k:Nat) (out:List Tag),t.parts.length-k=m->out.length<=k->
 fw ((k:Int),t,t0,[],out,())=some (t,t0,[],out++srtL (t.parts.drop k),()):=by
 intro m
 induction m with
 |zero=>
  intro k out hm ho
  have hlt:¬k<t.parts.length:=by omega
  rw[fw,(eJ hlt).1]
  simp only[sW,hlt,srtL,Ox]
 |succ m ih=>
  intro k out hm ho
  have hlt:k<t.parts.length:=by omega
  obtain⟨p,hp1,hpm,hd,g1,g2⟩:=dL hlt
  have h3:out.length+[p.srt].length<=4294967296:=by simp;omega
  have hk':(t.kind !=6)=true:=by simpa using hk
  rw[hd,fw]
  simp only[sW,g1,g2,hlt,hp1,hp p hpm,h3,hk',aO hlt (show t.parts.length<=9223372036854775807 by omega)]
  rw[ih (k+1) (out++[p.srt]) (by omega) (by simp;omega),srtL]
  simp
theorem JT:∀t:Tag,t.Right->t.Uniq->t.cnt<4294967295->n_44 (t,())=some (t.srt,()):=by
 refine Tag.ind λt ih hr hu hc=> ?_
 have c1:=nh t
 have c2:=ni t.parts
 have hps:∀p∈t.parts,n_44 (p,())=some (p.srt,()):=λp hp=>ih p hp (hr.part hp) (hu.part hp) (by have:=qJ hp;omega)
 have z:((0:Nat):Int)=0:=rfl
 rw[n_44]
 by_cases hk:t.kind=6
 ·have h1:=Ln t (Tag.mk 0 0 (NA #[]) [] []) hk (hr.len hk) (by omega) hps _ 0 [] rfl rfl
  rw[z,N9]at h1
  simp only[N_]at h1
  have hlen:t.names.length=(srtL t.parts).length:=by rw[eo];exact hr.len hk
  have hu2:ja [] (t.names.zip (srtL t.parts))=oJ (t.names.zip (srtL t.parts)):=by
   have hp1:(ja [] (t.names.zip (srtL t.parts))).Perm (t.names.zip (srtL t.parts)):=nJ _ []
   refine oa ?_ (hp1.trans (db _).symm) (kd _ Qp) (fz _)
   rw[(hp1.map _).nodup_iff,oZ hlen]
   exact hu.nd
  rw[hu2]at h1
  simp only[sW,h1]
  rw[iy]
  unfold fin
  rw[Q6 hk]
 ·have h1:=Jb t (Tag.mk 0 0 (NA #[]) [] []) hk (by omega) hps _ 0 [] rfl (OI _)
  rw[z,N9,NW]at h1
  simp only[sW,h1]
  rw[iy]
  unfold fin
  rw[Q5 hk]
end Go.Proofs.YtpndmanbfleadaaGreatDoor
end
section
namespace Go.Proofs.YtpndmanbfleadaaGreatDoor
open Go.Awp Go.Tx
open IntKind (i32)
open IntKind (i64)
set_option maxRecDepth 100000
def Le{α:Type}(x y:Option α):Prop:=∀a,x=some a->y=some a
theorem Le.refl{α:Type}(x:Option α):Le x x:=λ_ h=>h
theorem Le.none{α:Type}(x:Option α):Le none x:=λ_ h=>by cases h
theorem Le.bind{α β:Type}{x y:Option α}{f g:α->Option β}(h:Le x y)(h2:∀a,Le (f a) (g a)):Le (x>>=f) (y>>=g):=λb hb=>by
 cases x with
 |none=>cases hb
 |some a=>rw[h a rfl];exact h2 a b hb
theorem Le.ite{α:Type}{c:Prop}{d:Decidable c}{x y z w:Option α}(h:Le x y)(h2:Le z w):Le (@ite _ c d x z) (@ite _ c d y w):=by
 cases d with
 |isTrue h3=>exact h
 |isFalse h3=>exact h2
theorem Le.both{α:Type}{x y z w:Option α}(h:Le x y)(h2:Le z w):Le (both x z) (both y w):=λa ha=>by
 obtain⟨h3,h4⟩:=sj ha
 exact FX (h a h3) (h2 a h4)
noncomputable def lw(k:Nat)(v:Ku):Option (FP):=fV v.2>>=λx1=>if x1.2.1.length+v.1.size<=(4294967296:Nat)then some (((↑v.1.size:Int),x1.1,x1.2.1++Bs.ints v.1,()))else none
theorem qY(k:Nat)(v:Ku):Le (lw k v) (iM v):=by
 unfold lw iM
 with_reducible repeat' first|exact Le.refl _|exact Le.none _|apply Le.bind|apply Le.ite|apply Le.both|with_unfolding_all assumption|intro x
noncomputable def Ke(k:Nat)(v:ByteArray×Unit):Option (Bool×Unit):=DF v>>=λx1=>some ((!x1.1,()))
theorem A0(k:Nat)(v:ByteArray×Unit):Le (Ke k v) (DE v):=by
 unfold Ke DE
 with_reducible repeat' first|exact Le.refl _|exact Le.none _|apply Le.bind|apply Le.ite|apply Le.both|with_unfolding_all assumption|intro x
noncomputable def iK:Nat->(List ByteArray)×Int×Int×Unit->Option (((Int×Unit)⊕(Unit)))|0,_=>none|k+1,v=>if decide (v.2.2.1<v.2.1)=true then if(0:Int)<=v.2.2.1 then v.1[v.2.2.1.toNat]?>>=λx1=>Ke k (x1,())>>=λx2=>if x2.1=true then some (OC v.2.2)else iK k (v.1,v.2.1,i64.wrap (v.2.2.1+(1:Int)),())else none else some (OR ())
theorem kv:∀k v,Le (iK k v) (bu v)
 |0,_=>Le.none _
 |k+1,v=>by
  rw[iK,bu]
  with_reducible repeat' first|exact Le.refl _|exact Le.none _|exact A0 _ _|exact kv _ _|apply Le.bind|apply Le.ite|apply Le.both|with_unfolding_all assumption|intro x
noncomputable def qZ(k:Nat)(v:(List ByteArray)×Unit):Option (Int×Unit):=iK k (v.1,(↑v.1.length:Int),(0:Int),())>>=λx1=>match x1 with| .inl y1=>some y1| .inr y1=>some (((-1:Int),()))
theorem vk(k:Nat)(v:(List ByteArray)×Unit):Le (qZ k v) (gy v):=by
 unfold qZ gy
 with_reducible repeat' first|exact Le.refl _|exact Le.none _|exact kv _ _|apply Le.bind|apply Le.ite|apply Le.both|(rintro(x|x)<;>dsimp only)|with_unfolding_all assumption|intro x
noncomputable def wZ:Nat->Tq6->Option (((Bool×Unit)⊕(Tag×Unit)))|0,_=>none|k+1,v=>if decide (v.2.2.1<v.2.1)=true then if(0:Int)<=v.2.2.1 then v.1[v.2.2.1.toNat]?>>=λx1=>if(Mp.get Mp.seq x1 v.2.2.2.2.1).getD false=true then some (OC (true,()))else wZ k (v.1,v.2.1,i64.wrap (v.2.2.1+(1:Int)),v.2.2.2.1,Mp.set Mp.seq Mp.slt x1 true v.2.2.2.2.1,())else none else some (OR (v.2.2.2.1,()))
theorem tn:∀k v,Le (wZ k v) (bS v)
 |0,_=>Le.none _
 |k+1,v=>by
  rw[wZ,bS]
  with_reducible repeat' first|exact Le.refl _|exact Le.none _|exact tn _ _|apply Le.bind|apply Le.ite|apply Le.both|with_unfolding_all assumption|intro x
mutual
noncomputable def d9:Nat->Tq4->Option (((Int×Unit)⊕(Unit)))|0,_=>none|k+1,v=>if decide (v.2.2.1<v.2.1)=true then if(0:Int)<=v.2.2.1 then v.1[v.2.2.1.toNat]?>>=λx1=>m_52 k (x1,())>>=λx2=>if x2.1=true then some (OC v.2.2)else d9 k (v.1,v.2.1,i64.wrap (v.2.2.1+(1:Int)),())else none else some (OR ())
noncomputable def m_52:Nat->Tag×Unit->Option (Bool×Unit)|0,_=>none|k+1,v=>wZ k (v.1.names,(↑v.1.names.length:Int),(0:Int),v.1,[],())>>=λx1=>match x1 with| .inl y1=>some y1| .inr y1=>m_78c52 k (y1.1.parts,())>>=λx2=>some (x2)
noncomputable def m_78c52:Nat->(List Tag)×Unit->Option (Bool×Unit)|0,_=>none|k+1,v=>m_104c52 k v>>=λx1=>some ((decide (x1.1>=(0:Int)),()))
noncomputable def m_104c52:Nat->(List Tag)×Unit->Option (Int×Unit)|0,_=>none|k+1,v=>d9 k (v.1,(↑v.1.length:Int),(0:Int),())>>=λx1=>match x1 with| .inl y1=>some y1| .inr y1=>some (((-1:Int),()))
end
theorem q8(k:Nat)(h_104c52l2:∀v,Le (d9 k v) (aM v))(h_52:∀v,Le (m_52 k v) (n_52 v))(v:Tq4):Le (d9 (k+1) v) (aM v):=by
 rw[d9,aM]
 with_reducible repeat' first|exact Le.refl _|exact Le.none _|exact h_104c52l2 _|exact h_52 _|apply Le.bind|apply Le.ite|apply Le.both|with_unfolding_all assumption|intro x
theorem GN(k:Nat)(h_78c52:∀v,Le (m_78c52 k v) (n_78c52 v))(v:Tag×Unit):Le (m_52 (k+1) v) (n_52 v):=by
 rw[m_52,n_52]
 with_reducible repeat' first|exact Le.refl _|exact Le.none _|exact tn _ _|exact h_78c52 _|apply Le.bind|apply Le.ite|apply Le.both|(rintro(x|x)<;>dsimp only)|with_unfolding_all assumption|intro x
theorem yl(k:Nat)(h_104c52:∀v,Le (m_104c52 k v) (n_104c52 v))(v:(List Tag)×Unit):Le (m_78c52 (k+1) v) (n_78c52 v):=by
 rw[m_78c52,n_78c52]
 with_reducible repeat' first|exact Le.refl _|exact Le.none _|exact h_104c52 _|apply Le.bind|apply Le.ite|apply Le.both|with_unfolding_all assumption|intro x
theorem vl(k:Nat)(h_104c52l2:∀v,Le (d9 k v) (aM v))(v:(List Tag)×Unit):Le (m_104c52 (k+1) v) (n_104c52 v):=by
 rw[m_104c52,n_104c52]
 with_reducible repeat' first|exact Le.refl _|exact Le.none _|exact h_104c52l2 _|apply Le.bind|apply Le.ite|apply Le.both|(rintro(x|x)<;>dsimp only)|with_unfolding_all assumption|intro x
theorem jb:∀k,(∀v,Le (d9 k v) (aM v))/\(∀v,Le (m_52 k v) (n_52 v))/\(∀v,Le (m_78c52 k v) (n_78c52 v))/\(∀v,Le (m_104c52 k v) (n_104c52 v))
 |0=>⟨λ_=>Le.none _,λ_=>Le.none _,λ_=>Le.none _,λ_=>Le.none _⟩
 |k+1=>by
  have h:=jb k
  exact⟨q8 k (h.1) (h.2.1),GN k (h.2.2.1),yl k (h.2.2.2),vl k (h.1)⟩
theorem GM(k:Nat)(v:Tag×Unit):Le (m_52 k v) (n_52 v):=have h:=jb k;h.2.1 v
noncomputable def vo(k:Nat)(v:(List ByteArray)×Unit):Option (Bool×Unit):=qZ k v>>=λx1=>some ((decide (x1.1>=(0:Int)),()))
theorem yk(k:Nat)(v:(List ByteArray)×Unit):Le (vo k v) (fi v):=by
 unfold vo fi
 with_reducible repeat' first|exact Le.refl _|exact Le.none _|exact vk _ _|apply Le.bind|apply Le.ite|apply Le.both|with_unfolding_all assumption|intro x
mutual
noncomputable def d_:Nat->Tq4->Option (((Int×Unit)⊕(Unit)))|0,_=>none|k+1,v=>if decide (v.2.2.1<v.2.1)=true then if(0:Int)<=v.2.2.1 then v.1[v.2.2.1.toNat]?>>=λx1=>m_79 k (x1,())>>=λx2=>if x2.1=true then some (OC v.2.2)else d_ k (v.1,v.2.1,i64.wrap (v.2.2.1+(1:Int)),())else none else some (OR ())
noncomputable def m_79:Nat->Tag×Unit->Option (Bool×Unit)|0,_=>none|k+1,v=>m_51 k v>>=λx1=>some ((!x1.1,()))
noncomputable def m_51:Nat->Tag×Unit->Option (Bool×Unit)|0,_=>none|k+1,v=>(if decide (v.1.kind<(0:Int))=true then some (true,v)else if decide (v.1.kind>(6:Int))=true then some (true,v)else if(v.1.kind !=(3:Int))=true then if(v.1.n !=(0:Int))=true then some (true,v)else if decide (v.1.n<(-9007199254740992:Int))=true then some (true,v)else if decide (v.1.n>(9007199254740992:Int))=true then some (true,v)else if(v.1.kind !=(4:Int))=true then if(!v.1.text.toList==(NA #[]).toList)=true then some (true,v)else if decide (v.1.kind<(5:Int))=true then some ((decide ((↑v.1.parts.length:Int)>(0:Int)),v))else some (false,v)else if decide (v.1.kind<(5:Int))=true then some ((decide ((↑v.1.parts.length:Int)>(0:Int)),v))else some (false,v)else if decide (v.1.n<(-9007199254740992:Int))=true then some (true,v)else if decide (v.1.n>(9007199254740992:Int))=true then some (true,v)else if(v.1.kind !=(4:Int))=true then if(!v.1.text.toList==(NA #[]).toList)=true then some (true,v)else if decide (v.1.kind<(5:Int))=true then some ((decide ((↑v.1.parts.length:Int)>(0:Int)),v))else some (false,v)else if decide (v.1.kind<(5:Int))=true then some ((decide ((↑v.1.parts.length:Int)>(0:Int)),v))else some (false,v))>>=λx1=>if x1.1=true then some ((false,()))else(if(x1.2.1.kind==(6:Int))=true then if((↑x1.2.1.names.length:Int) !=(↑x1.2.1.parts.length:Int))=true then some (true,x1.2)else if(x1.2.1.kind !=(6:Int))=true then some ((decide ((↑x1.2.1.names.length:Int)>(0:Int)),x1.2))else some (false,x1.2)else if(x1.2.1.kind !=(6:Int))=true then some ((decide ((↑x1.2.1.names.length:Int)>(0:Int)),x1.2))else some (false,x1.2))>>=λx2=>if x2.1=true then some ((false,()))else(Ke k (x2.2.1.text,())>>=λx3=>if(!x3.1)=true then vo k (x2.2.1.names,())>>=λx4=>if(!x4.1)=true then m_78c79 k (x2.2.1.parts,())>>=λx5=>some ((!x5.1,()))else some ((false,()))else some ((false,())))>>=λx3=>some (x3)
noncomputable def m_78c79:Nat->(List Tag)×Unit->Option (Bool×Unit)|0,_=>none|k+1,v=>m_104c79 k v>>=λx1=>some ((decide (x1.1>=(0:Int)),()))
noncomputable def m_104c79:Nat->(List Tag)×Unit->Option (Int×Unit)|0,_=>none|k+1,v=>d_ k (v.1,(↑v.1.length:Int),(0:Int),())>>=λx1=>match x1 with| .inl y1=>some y1| .inr y1=>some (((-1:Int),()))
end
theorem q9(k:Nat)(h_104c79l2:∀v,Le (d_ k v) (aE v))(h_79:∀v,Le (m_79 k v) (n_79 v))(v:Tq4):Le (d_ (k+1) v) (aE v):=by
 rw[d_,aE]
 with_reducible repeat' first|exact Le.refl _|exact Le.none _|exact h_104c79l2 _|exact h_79 _|apply Le.bind|apply Le.ite|apply Le.both|with_unfolding_all assumption|intro x
theorem GP(k:Nat)(h_51:∀v,Le (m_51 k v) (n_51 v))(v:Tag×Unit):Le (m_79 (k+1) v) (n_79 v):=by
 rw[m_79,n_79]
 with_reducible repeat' first|exact Le.refl _|exact Le.none _|exact h_51 _|apply Le.bind|apply Le.ite|apply Le.both|with_unfolding_all assumption|intro x
theorem GL(k:Nat)(h_78c79:∀v,Le (m_78c79 k v) (n_78c79 v))(v:Tag×Unit):Le (m_51 (k+1) v) (n_51 v):=by
 rw[m_51,n_51]
 with_reducible repeat' first|exact Le.refl _|exact Le.none _|exact yk _ _|exact A0 _ _|exact h_78c79 _|apply Le.bind|apply Le.ite|apply Le.both|with_unfolding_all assumption|intro x
theorem ym(k:Nat)(h_104c79:∀v,Le (m_104c79 k v) (n_104c79 v))(v:(List Tag)×Unit):Le (m_78c79 (k+1) v) (n_78c79 v):=by
 rw[m_78c79,n_78c79]
 with_reducible repeat' first|exact Le.refl _|exact Le.none _|exact h_104c79 _|apply Le.bind|apply Le.ite|apply Le.both|with_unfolding_all assumption|intro x
theorem vm(k:Nat)(h_104c79l2:∀v,Le (d_ k v) (aE v))(v:(List Tag)×Unit):Le (m_104c79 (k+1) v) (n_104c79 v):=by
 rw[m_104c79,n_104c79]
 with_reducible repeat' first|exact Le.refl _|exact Le.none _|exact h_104c79l2 _|apply Le.bind|apply Le.ite|apply Le.both|(rintro(x|x)<;>dsimp only)|with_unfolding_all assumption|intro x
theorem jc:∀k,(∀v,Le (d_ k v) (aE v))/\(∀v,Le (m_79 k v) (n_79 v))/\(∀v,Le (m_51 k v) (n_51 v))/\(∀v,Le (m_78c79 k v) (n_78c79 v))/\(∀v,Le (m_104c79 k v) (n_104c79 v))
 |0=>⟨λ_=>Le.none _,λ_=>Le.none _,λ_=>Le.none _,λ_=>Le.none _,λ_=>Le.none _⟩
 |k+1=>by
  have h:=jc k
  exact⟨q9 k (h.1) (h.2.1),GP k (h.2.2.1),GL k (h.2.2.2.1),ym k (h.2.2.2.2),vm k (h.1)⟩
theorem GK(k:Nat)(v:Tag×Unit):Le (m_51 k v) (n_51 v):=have h:=jc k;h.2.2.1 v
noncomputable def Dw(k:Nat)(v:ByteArray×Int×Unit):Option (Int×Unit):=GS v>>=λx1=>some (x1)
theorem wW(k:Nat)(v:ByteArray×Int×Unit):Le (Dw k v) (Bi v):=by
 unfold Dw Bi
 with_reducible repeat' first|exact Le.refl _|exact Le.none _|apply Le.bind|apply Le.ite|apply Le.both|with_unfolding_all assumption|intro x
noncomputable def aW(k:Nat)(v:ByteArray×ap×Unit):Option (Bool×ap×Unit):=(if(v.2.1.at0==(↑v.2.1.s.size:Int))=true then some (true,v.2)else if(0:Int)<=v.2.1.at0/\v.2.1.at0<=i64.wrap (v.2.1.at0+(1:Int))/\i64.wrap (v.2.1.at0+(1:Int))<=(↑v.2.1.s.size:Int)then Dy (v.1,v.2.1.s.extract v.2.1.at0.toNat (i64.wrap (v.2.1.at0+(1:Int))).toNat,())>>=λx1=>some (!x1.1,v.2)else none)>>=λx1=>if x1.1=true then some (false,x1.2)else some ((true,ap.mk x1.2.1.s (i64.wrap (x1.2.1.at0+(1:Int))),()))
theorem ca(k:Nat)(v:ByteArray×ap×Unit):Le (aW k v) (aQ v):=by
 unfold aW aQ
 with_reducible repeat' first|exact Le.refl _|exact Le.none _|apply Le.bind|apply Le.ite|apply Le.both|with_unfolding_all assumption|intro x
noncomputable def eS:Nat->Mh->Option ((Int×ap×Unit))|0,_=>none|k+1,v=>if decide (v.2.2.2.1<v.2.2.1)=true then if(0:Int)<=v.2.2.2.1 then v.2.1[v.2.2.2.1.toNat]?>>=λx1=>Dw k (NA #[48,49,50,51,52,53,54,55,56,57,97,98,99,100,101,102,65,66,67,68,69,70],x1,())>>=λx2=>eS k (i32.wrap (i32.wrap ((16:Int) *v.1)+i32.wrap x2.1),v.2.1,v.2.2.1,i64.wrap (v.2.2.2.1+(1:Int)),v.2.2.2.2)else none else some (v.1,v.2.2.2.2)
theorem gP:∀k v,Le (eS k v) (cw v)
 |0,_=>Le.none _
 |k+1,v=>by
  rw[eS,cw]
  with_reducible repeat' first|exact Le.refl _|exact Le.none _|exact wW _ _|exact gP _ _|apply Le.bind|apply Le.ite|apply Le.both|with_unfolding_all assumption|intro x
noncomputable def iL(k:Nat)(v:Kt):Option (J5):=(aW k (v.1,v.2.2)>>=λx1=>if x1.1=true then some (OC (v.2.2.1.at0,NA #[48,49,50,51,52,53,54,55,56,57,97,98,99,100,101,102,65,66,67,68,69,70],x1.2))else aW k (NA #[100,68],x1.2)>>=λx2=>if x2.1=true then some (OC (v.2.2.1.at0,v.2.1,x2.2))else some (OR ((0:Int),false,x2.2)))>>=λx1=>match x1 with| .inl y1=>(aW k y1.2>>=λx2=>if(!x2.1)=true then some (y1.1,true,x2.2)else aW k (NA #[48,49,50,51,52,53,54,55,56,57,97,98,99,100,101,102,65,66,67,68,69,70],x2.2)>>=λx3=>if(!x3.1)=true then some (y1.1,true,x3.2)else aW k (NA #[48,49,50,51,52,53,54,55,56,57,97,98,99,100,101,102,65,66,67,68,69,70],x3.2)>>=λx4=>some (y1.1,!x4.1,x4.2))>>=λx2=>if x2.2.1=true then some (((0:Int),false,x2.2.2))else if(0:Int)<=x2.1/\x2.1<=x2.2.2.1.at0/\x2.2.2.1.at0<=(↑x2.2.2.1.s.size:Int)then DB (x2.2.2.1.s.extract x2.1.toNat x2.2.2.1.at0.toNat,())>>=λx3=>eS k ((0:Int),Bs.ints x3.1,(↑(Bs.ints x3.1).length:Int),(0:Int),x2.2.2)>>=λx4=>some (x4.1,true,x4.2)else none| .inr y1=>some y1
theorem q_(k:Nat)(v:Kt):Le (iL k v) (fU v):=by
 unfold iL fU
 with_reducible repeat' first|exact Le.refl _|exact Le.none _|exact gP _ _|exact ca _ _|apply Le.bind|apply Le.ite|apply Le.both|(rintro(x|x)<;>dsimp only)|with_unfolding_all assumption|intro x
noncomputable def ly(k:Nat)(v:Int×(List Int)×Unit):Option ((List Int)×Unit):=if decide (IntKind.u32.wrap v.1<=(127:Int))=true then if v.2.1.length+[IntKind.u8.wrap v.1].length<=(4294967296:Nat)then some ((v.2.1++[IntKind.u8.wrap v.1],()))else none else lB v>>=λx1=>some (x1)
theorem ra(k:Nat)(v:Int×(List Int)×Unit):Le (ly k v) (iN v):=by
 unfold ly iN
 with_reducible repeat' first|exact Le.refl _|exact Le.none _|apply Le.bind|apply Le.ite|apply Le.both|with_unfolding_all assumption|intro x
noncomputable def wY:Nat->EX->Option ((EY))|0,_=>none|k+1,v=>if decide (v.2.2.1<v.2.1)=true then if(0:Int)<=v.2.2.1 then v.1[v.2.2.1.toNat]?>>=λx1=>wY k (v.1,v.2.1,i64.wrap (v.2.2.1+(1:Int)),v.2.2.2.1,v.2.2.2.2.1,cF.mk v.2.2.2.2.2.1.depth v.2.2.2.2.2.1.pieces (i64.wrap (v.2.2.2.2.2.1.bytes+(↑x1.size:Int))),())else none else some (v.2.2.2)
theorem ti:∀k v,Le (wY k v) (cB v)
 |0,_=>Le.none _
 |k+1,v=>by
  rw[wY,cB]
  with_reducible repeat' first|exact Le.refl _|exact Le.none _|exact ti _ _|apply Le.bind|apply Le.ite|apply Le.both|with_unfolding_all assumption|intro x
mutual
noncomputable def nO:Nat->zC->Option ((cF×cF×Unit))|0,_=>none|k+1,v=>if decide (v.2.2.1<v.2.1)=true then if(0:Int)<=v.2.2.1 then v.1[v.2.2.1.toNat]?>>=λx1=>m_42 k (x1,())>>=λx2=>nO k (v.1,v.2.1,i64.wrap (v.2.2.1+(1:Int)),v.2.2.2.1,cF.mk (max v.2.2.2.2.1.depth x2.1.depth) (i64.wrap (v.2.2.2.2.1.pieces+x2.1.pieces)) (i64.wrap (v.2.2.2.2.1.bytes+x2.1.bytes)),())else none else some (v.2.2.2)
noncomputable def m_42:Nat->Tag×Unit->Option (cF×Unit)|0,_=>none|k+1,v=>wY k (v.1.names,(↑v.1.names.length:Int),(0:Int),v.1,cF.mk (0:Int) (0:Int) (0:Int),cF.mk (0:Int) (1:Int) (↑v.1.text.size:Int),())>>=λx1=>nO k (x1.1.parts,(↑x1.1.parts.length:Int),(0:Int),x1.2)>>=λx2=>some ((cF.mk (i64.wrap (x2.2.1.depth+(1:Int))) x2.2.1.pieces x2.2.1.bytes,()))
end
theorem AZ(k:Nat)(h_42:∀v,Le (m_42 k v) (n_42 v))(h_42l8:∀v,Le (nO k v) (dR v))(v:zC):Le (nO (k+1) v) (dR v):=by
 rw[nO,dR]
 with_reducible repeat' first|exact Le.refl _|exact Le.none _|exact h_42 _|exact h_42l8 _|apply Le.bind|apply Le.ite|apply Le.both|with_unfolding_all assumption|intro x
theorem GJ(k:Nat)(h_42l8:∀v,Le (nO k v) (dR v))(v:Tag×Unit):Le (m_42 (k+1) v) (n_42 v):=by
 rw[m_42,n_42]
 with_reducible repeat' first|exact Le.refl _|exact Le.none _|exact ti _ _|exact h_42l8 _|apply Le.bind|apply Le.ite|apply Le.both|with_unfolding_all assumption|intro x
theorem pY:∀k,(∀v,Le (nO k v) (dR v))/\(∀v,Le (m_42 k v) (n_42 v))
 |0=>⟨λ_=>Le.none _,λ_=>Le.none _⟩
 |k+1=>by
  have h:=pY k
  exact⟨AZ k (h.2) (h.1),GJ k (h.1)⟩
theorem GI(k:Nat)(v:Tag×Unit):Le (m_42 k v) (n_42 v):=have h:=pY k;h.2 v
noncomputable def Kd(k:Nat)(v:Tag×Unit):Option (Int×Unit):=m_42 k v>>=λx1=>(if decide (x1.1.depth>(20:Int))=true then some (true,v)else if decide (x1.1.pieces>(500:Int))=true then some (true,v)else some ((decide (x1.1.bytes>(4096:Int)),v)))>>=λx2=>if x2.1=true then some (((3:Int),()))else m_51 k x2.2>>=λx3=>if(!x3.1)=true then some (((1:Int),()))else m_52 k x2.2>>=λx4=>if x4.1=true then some (((5:Int),()))else some (((0:Int),()))
theorem AY(k:Nat)(v:Tag×Unit):Le (Kd k v) (tD v):=by
 unfold Kd tD
 with_reducible repeat' first|exact Le.refl _|exact Le.none _|exact GI _ _|exact GK _ _|exact GM _ _|apply Le.bind|apply Le.ite|apply Le.both|with_unfolding_all assumption|intro x
mutual
noncomputable def dn:Nat->Tq3->Option ((Tq8))|0,_=>none|k+1,v=>if decide (v.2.2.1<v.2.1)=true then if(0:Int)<=v.2.2.1 then v.1[v.2.2.1.toNat]?>>=λx1=>m_31s06c9 k (x1,())>>=λx2=>if v.2.2.2.2.2.2.2.2.1.length+[Tag.mk x2.1 x2.2.1 x2.2.2.1 x2.2.2.2.1 x2.2.2.2.2.1].length<=(4294967296:Nat)then dn k (v.1,v.2.1,i64.wrap (v.2.2.1+(1:Int)),v.2.2.2.1,v.2.2.2.2.1,v.2.2.2.2.2.1,v.2.2.2.2.2.2.1,v.2.2.2.2.2.2.2.1,v.2.2.2.2.2.2.2.2.1++[Tag.mk x2.1 x2.2.1 x2.2.2.1 x2.2.2.2.1 x2.2.2.2.2.1],v.2.2.2.2.2.2.2.2.2)else none else none else some (v.2.2.2)
noncomputable def m_31s06c9:Nat->Tag×Unit->Option (EW)|0,_=>none|k+1,v=>df (v.1.names,())>>=λx1=>dn k (v.1.parts,(↑v.1.parts.length:Int),(0:Int),v.1.kind,v.1.n,v.1.text,v.1.parts,Tag.mk (0:Int) (0:Int) (NA #[]) [] [],[],x1)>>=λx2=>some ((x2.1,x2.2.1,x2.2.2.1,x2.2.2.2.2.2.2.1,x2.2.2.2.2.2.1,()))
end
theorem pf(k:Nat)(h_31s06c9:∀v,Le (m_31s06c9 k v) (n_31s06c9 v))(h_31s06c9l4:∀v,Le (dn k v) (bB v))(v:Tq3):Le (dn (k+1) v) (bB v):=by
 rw[dn,bB]
 with_reducible repeat' first|exact Le.refl _|exact Le.none _|exact h_31s06c9 _|exact h_31s06c9l4 _|apply Le.bind|apply Le.ite|apply Le.both|with_unfolding_all assumption|intro x
theorem tg(k:Nat)(h_31s06c9l4:∀v,Le (dn k v) (bB v))(v:Tag×Unit):Le (m_31s06c9 (k+1) v) (n_31s06c9 v):=by
 rw[m_31s06c9,n_31s06c9]
 with_reducible repeat' first|exact Le.refl _|exact Le.none _|exact h_31s06c9l4 _|apply Le.bind|apply Le.ite|apply Le.both|with_unfolding_all assumption|intro x
theorem g_:∀k,(∀v,Le (dn k v) (bB v))/\(∀v,Le (m_31s06c9 k v) (n_31s06c9 v))
 |0=>⟨λ_=>Le.none _,λ_=>Le.none _⟩
 |k+1=>by
  have h:=g_ k
  exact⟨pf k (h.2) (h.1),tg k (h.1)⟩
theorem tf(k:Nat)(v:Tag×Unit):Le (m_31s06c9 k v) (n_31s06c9 v):=have h:=g_ k;h.2 v
noncomputable def w3:Nat->Mg->Option (((Int×Unit)⊕(Unit)))|0,_=>none|k+1,v=>if decide (v.2.2.2.1<v.2.2.1)=true then if(0:Int)<=v.2.2.2.1 then v.1[v.2.2.2.1.toNat]?>>=λx1=>if(v.2.1.toList==x1.toList)=true then some (OC v.2.2.2)else w3 k (v.1,v.2.1,v.2.2.1,i64.wrap (v.2.2.2.1+(1:Int)),())else none else some (OR ())
theorem tq:∀k v,Le (w3 k v) (jh v)
 |0,_=>Le.none _
 |k+1,v=>by
  rw[w3,jh]
  with_reducible repeat' first|exact Le.refl _|exact Le.none _|exact tq _ _|apply Le.bind|apply Le.ite|apply Le.both|with_unfolding_all assumption|intro x
noncomputable def Ll(k:Nat)(v:(List ByteArray)×ByteArray×Unit):Option (Int×Unit):=w3 k (v.1,v.2.1,(↑v.1.length:Int),(0:Int),())>>=λx1=>match x1 with| .inl y1=>some y1| .inr y1=>some (((-1:Int),()))
theorem GO(k:Nat)(v:(List ByteArray)×ByteArray×Unit):Le (Ll k v) (Fz v):=by
 unfold Ll Fz
 with_reducible repeat' first|exact Le.refl _|exact Le.none _|exact tq _ _|apply Le.bind|apply Le.ite|apply Le.both|(rintro(x|x)<;>dsimp only)|with_unfolding_all assumption|intro x
noncomputable def Lk(k:Nat)(v:Tag×ByteArray×Unit):Option (Int×Unit):=if(v.1.kind==(6:Int))=true then Ll k (v.1.names,v.2)>>=λx1=>some (x1)else Ki v.2>>=λx1=>(if(v.1.kind !=(5:Int))=true then some ((x1.1,true,()))else if x1.2.1=true then some ((x1.1,true,()))else if decide (x1.1<(0:Int))=true then some ((x1.1,true,()))else if decide (x1.1>(↑v.1.parts.length:Int))=true then some ((x1.1,true,()))else Kj (x1.1,())>>=λx2=>some ((x1.1,!x2.1.toList==v.2.1.toList,())))>>=λx2=>if x2.2.1=true then some (((-1:Int),()))else some ((x2.1,()))
theorem GH(k:Nat)(v:Tag×ByteArray×Unit):Le (Lk k v) (Kh v):=by
 unfold Lk Kh
 with_reducible repeat' first|exact Le.refl _|exact Le.none _|exact GO _ _|apply Le.bind|apply Le.ite|apply Le.both|with_unfolding_all assumption|intro x
noncomputable def wX:Nat->Mf->Option (((Bool×Tag×Unit)⊕(Tag×Tag×Unit)))|0,_=>none|k+1,v=>if decide (v.2.2.1<v.2.1)=true then if(0:Int)<=v.2.2.1 then v.1[v.2.2.1.toNat]?>>=λx1=>Lk k (v.2.2.2.1,x1,())>>=λx2=>(if decide (x2.1<(0:Int))=true then some (x2.1,v.1,v.2.1,v.2.2.1,true,v.2.2.2)else some ((x2.1,v.1,v.2.1,v.2.2.1,decide (x2.1>=(↑v.2.2.2.1.parts.length:Int)),v.2.2.2)))>>=λx3=>if x3.2.2.2.2.1=true then some (OC (false,Tag.mk (0:Int) (0:Int) (NA #[]) [] [],()))else if(0:Int)<=x3.1 then x3.2.2.2.2.2.1.parts[x3.1.toNat]?>>=λx4=>wX k (x3.2.1,x3.2.2.1,i64.wrap (x3.2.2.2.1+(1:Int)),x4,x3.2.2.2.2.2.2)else none else none else some (OR v.2.2.2)
theorem th:∀k v,Le (wX k v) (nY v)
 |0,_=>Le.none _
 |k+1,v=>by
  rw[wX,nY]
  with_reducible repeat' first|exact Le.refl _|exact Le.none _|exact GH _ _|exact th _ _|apply Le.bind|apply Le.ite|apply Le.both|with_unfolding_all assumption|intro x
noncomputable def Lj(k:Nat)(v:Tag×(List ByteArray)×Unit):Option (Bool×Tag×Unit):=wX k (v.2.1,(↑v.2.1.length:Int),(0:Int),v.1,Tag.mk (0:Int) (0:Int) (NA #[]) [] [],())>>=λx1=>match x1 with| .inl y1=>some y1| .inr y1=>some ((true,y1.1,()))
theorem GG(k:Nat)(v:Tag×(List ByteArray)×Unit):Le (Lj k v) (Kg v):=by
 unfold Lj Kg
 with_reducible repeat' first|exact Le.refl _|exact Le.none _|exact th _ _|apply Le.bind|apply Le.ite|apply Le.both|(rintro(x|x)<;>dsimp only)|with_unfolding_all assumption|intro x
noncomputable def Li(k:Nat)(v:Tag×(List ByteArray)×Unit):Option (Bool×Int×Tag×Unit):=Kd k (v.1,())>>=λx1=>if(x1.1 !=(0:Int))=true then some ((false,x1.1,Tag.mk (0:Int) (0:Int) (NA #[]) [] [],()))else Lj k v>>=λx2=>m_31s06c9 k x2.2>>=λx3=>some ((x2.1,(0:Int),Tag.mk x3.1 x3.2.1 x3.2.2.1 x3.2.2.2.1 x3.2.2.2.2.1,()))
theorem GE(k:Nat)(v:Tag×(List ByteArray)×Unit):Le (Li k v) (Kf v):=by
 unfold Li Kf
 with_reducible repeat' first|exact Le.refl _|exact Le.none _|exact GG _ _|exact tf _ _|exact AY _ _|apply Le.bind|apply Le.ite|apply Le.both|with_unfolding_all assumption|intro x
noncomputable def gq:Nat->ap×Unit->Option ((ap×Unit))|0,_=>none|k+1,v=>aW k (NA #[32,10,9,13],v)>>=λx1=>if x1.1=true then gq k x1.2 else some (x1.2)
theorem jd:∀k v,Le (gq k v) (dr v)
 |0,_=>Le.none _
 |k+1,v=>by
  rw[gq,dr]
  with_reducible repeat' first|exact Le.refl _|exact Le.none _|exact ca _ _|exact jd _ _|apply Le.bind|apply Le.ite|apply Le.both|with_unfolding_all assumption|intro x
noncomputable def b_(k:Nat)(v:ap×Unit):Option (ap×Unit):=gq k v>>=λx1=>some (x1)
theorem dE(k:Nat)(v:ap×Unit):Le (b_ k v) (bx v):=by
 unfold b_ bx
 with_reducible repeat' first|exact Le.refl _|exact Le.none _|exact jd _ _|apply Le.bind|apply Le.ite|apply Le.both|with_unfolding_all assumption|intro x
noncomputable def gr:Nat->Mj->Option (((Bool×ap×Unit)⊕(ap×Unit)))|0,_=>none|k+1,v=>if decide (v.2.2.1<v.2.1)=true then if(0:Int)<=v.2.2.1/\v.2.2.1<=i64.wrap (v.2.2.1+(1:Int))/\i64.wrap (v.2.2.1+(1:Int))<=(↑v.1.size:Int)then aW k (v.1.extract v.2.2.1.toNat (i64.wrap (v.2.2.1+(1:Int))).toNat,v.2.2.2)>>=λx1=>if(!x1.1)=true then some (OC (false,x1.2))else gr k (v.1,v.2.1,i64.wrap (v.2.2.1+(1:Int)),x1.2)else none else some (OR v.2.2.2)
theorem je:∀k v,Le (gr k v) (dt v)
 |0,_=>Le.none _
 |k+1,v=>by
  rw[gr,dt]
  with_reducible repeat' first|exact Le.refl _|exact Le.none _|exact ca _ _|exact je _ _|apply Le.bind|apply Le.ite|apply Le.both|with_unfolding_all assumption|intro x
noncomputable def fO(k:Nat)(v:ByteArray×ap×Unit):Option (Bool×ap×Unit):=gr k (v.1,(↑v.1.size:Int),(0:Int),v.2)>>=λx1=>match x1 with| .inl y1=>some y1| .inr y1=>some (true,y1)
theorem lW(k:Nat)(v:ByteArray×ap×Unit):Le (fO k v) (eB v):=by
 unfold fO eB
 with_reducible repeat' first|exact Le.refl _|exact Le.none _|exact je _ _|apply Le.bind|apply Le.ite|apply Le.both|(rintro(x|x)<;>dsimp only)|with_unfolding_all assumption|intro x
noncomputable def gu:Nat->J3->Option ((J3))|0,_=>none|k+1,v=>(a_ (v.2.2.1,())>>=λx1=>if decide (x1.1>=(48:Int))=true then a_ x1.2>>=λx2=>some ((v.1,v.2.1,decide (x2.1<=(57:Int)),x2.2.1,v.2.2.2))else some (v.1,v.2.1,false,x1.2.1,v.2.2.2))>>=λx1=>if x1.2.2.1=true then a_ (x1.2.2.2.1,())>>=λx2=>gu k (x1.1,min (i64.wrap (i64.wrap ((10:Int) *x1.2.1)+i64.wrap (IntKind.u8.wrap (x2.1-(48:Int))))) (576460752303423488:Int),ap.mk x2.2.1.s (i64.wrap (x2.2.1.at0+(1:Int))),x1.2.2.2.2)else some (x1.1,x1.2.1,x1.2.2.2)
theorem jf:∀k v,Le (gu k v) (du v)
 |0,_=>Le.none _
 |k+1,v=>by
  rw[gu,du]
  with_reducible repeat' first|exact Le.refl _|exact Le.none _|exact jf _ _|apply Le.bind|apply Le.ite|apply Le.both|with_unfolding_all assumption|intro x
noncomputable def nP(k:Nat)(v:ap×Unit):Option (Tq2):=aW k (NA #[45],v)>>=λx1=>(aW k (NA #[48],x1.2)>>=λx2=>if x2.1=true then some (OC (x1.1,(0:Int),x2.2.1,Tag.mk (0:Int) (0:Int) (NA #[]) [] [],()))else(a_ x2.2>>=λx3=>if decide (x3.1>=(49:Int))=true then a_ x3.2>>=λx4=>some ((x1.1,(0:Int),decide (x4.1<=(57:Int)),x4.2.1,Tag.mk (0:Int) (0:Int) (NA #[]) [] [],()))else some ((x1.1,(0:Int),false,x3.2.1,Tag.mk (0:Int) (0:Int) (NA #[]) [] [],())))>>=λx3=>if x3.2.2.1=true then gu k (x3.1,x3.2.1,x3.2.2.2)>>=λx4=>some (OC x4)else some (OR (false,x3.2.2.2.1,Tag.mk (0:Int) (0:Int) (NA #[]) [] [],())))>>=λx2=>match x2 with| .inl y2=>(if y2.1=true then some ((i64.wrap ((0:Int) -y2.2.1),y2.2.2))else some (y2.2))>>=λx3=>some ((true,x3.2.1,Tag.mk (3:Int) x3.1 (NA #[]) [] [],()))| .inr y2=>some y2
theorem tt(k:Nat)(v:ap×Unit):Le (nP k v) (io v):=by
 unfold nP io
 with_reducible repeat' first|exact Le.refl _|exact Le.none _|exact jf _ _|exact ca _ _|apply Le.bind|apply Le.ite|apply Le.both|(rintro(x|x)<;>dsimp only)|with_unfolding_all assumption|intro x
noncomputable def nQ(k:Nat)(v:ap×Unit):Option (J5):=a_ v>>=λx1=>Dw k (NA #[34,92,47,98,102,110,114,116],x1.1,())>>=λx2=>(if decide (x1.2.1.at0<(↑x1.2.1.s.size:Int))=true then some ((x2.1,decide (x2.1>=(0:Int)),x1.2))else some (x2.1,false,x1.2))>>=λx3=>if x3.2.1=true then if(0:Int)<=x3.1 then(NA #[34,92,47,8,12,10,13,9])[x3.1.toNat]?>>=λx4=>some ((i32.wrap (↑x4.toNat:Int),true,ap.mk x3.2.2.1.s (i64.wrap (x3.2.2.1.at0+(1:Int))),()))else none else aW k (NA #[117],x3.2.2)>>=λx4=>if(!x4.1)=true then some (((0:Int),false,x4.2))else iL k (NA #[48,49,50,51,52,53,54,55,56,57,97,98,99,101,102,65,66,67,69,70],NA #[48,49,50,51,52,53,54,55,56,57,97,98,65,66],x4.2)>>=λx5=>(if(!x5.2.1)=true then some (x5.1,x5.2.1,true,x5.2.2)else if decide (x5.1<(55296:Int))=true then some (x5.1,x5.2.1,true,x5.2.2)else some ((x5.1,x5.2.1,decide (x5.1>=(56320:Int)),x5.2.2)))>>=λx6=>if x6.2.2.1=true then some (x6.1,x6.2.1,x6.2.2.2)else fO k (NA #[92,117],x6.2.2.2)>>=λx7=>if(!x7.1)=true then some (((0:Int),false,x7.2))else iL k (NA #[],NA #[99,100,101,102,67,68,69,70],x7.2)>>=λx8=>some ((i32.wrap (i32.wrap (i32.wrap ((65536:Int)+Bs.ishl i32 (i32.wrap (x6.1-(55296:Int))) (10:Int))+x8.1) -(56320:Int)),x8.2))
theorem tz(k:Nat)(v:ap×Unit):Le (nQ k v) (kF v):=by
 unfold nQ kF
 with_reducible repeat' first|exact Le.refl _|exact Le.none _|exact wW _ _|exact ca _ _|exact q_ _ _|exact lW _ _|apply Le.bind|apply Le.ite|apply Le.both|with_unfolding_all assumption|intro x
noncomputable def nR(k:Nat)(v:FP):Option (FP):=fV v.2>>=λx1=>ly k (v.1,x1.2)>>=λx2=>some ((i64.wrap ((↑x2.1.length:Int) -(↑x1.2.1.length:Int)),x1.1,x2))
theorem tA(k:Nat)(v:FP):Le (nR k v) (kG v):=by
 unfold nR kG
 with_reducible repeat' first|exact Le.refl _|exact Le.none _|exact ra _ _|apply Le.bind|apply Le.ite|apply Le.both|with_unfolding_all assumption|intro x
noncomputable def fu:Nat->Mi->Option (((Bool×ap×Unit)⊕(ap×Unit)))|0,_=>none|k+1,v=>if decide (v.2.2.2.1<v.2.2.1)=true then lz (v.1,v.2.1,v.2.2.2.2)>>=λx1=>if(!x1.1)=true then some (OC (false,x1.2))else fu k ((128:Int),(191:Int),v.2.2.1,i64.wrap (v.2.2.2.1+(1:Int)),x1.2)else some (OR v.2.2.2.2)
theorem hU:∀k v,Le (fu k v) (cU v)
 |0,_=>Le.none _
 |k+1,v=>by
  rw[fu,cU]
  with_reducible repeat' first|exact Le.refl _|exact Le.none _|exact hU _ _|apply Le.bind|apply Le.ite|apply Le.both|with_unfolding_all assumption|intro x
noncomputable def nS(k:Nat)(v:ap×Unit):Option (Bool×ap×Unit):=if(0:Int)<=v.1.at0 then v.1.s[v.1.at0.toNat]?>>=λx1=>(if decide ((↑x1.toNat:Int)<(128:Int))=true then some (OC ((↑x1.toNat:Int),(128:Int),(191:Int),(0:Int),v))else(if decide ((↑x1.toNat:Int)<(194:Int))=true then some (((↑x1.toNat:Int),(128:Int),(191:Int),true,v))else some (((↑x1.toNat:Int),(128:Int),(191:Int),decide ((↑x1.toNat:Int)>(244:Int)),v)))>>=λx2=>if x2.2.2.2.1=true then some (OR (false,x2.2.2.2.2))else if decide (x2.1<(224:Int))=true then some (OC (x2.1,x2.2.1,x2.2.2.1,(1:Int),x2.2.2.2.2))else if decide (x2.1<(240:Int))=true then some (OC (x2.1,x2.2.1,x2.2.2.1,(2:Int),x2.2.2.2.2))else some (OC (x2.1,x2.2.1,x2.2.2.1,(3:Int),x2.2.2.2.2)))>>=λx2=>match x2 with| .inl y2=>(if(y2.1==(224:Int))=true then some (((160:Int),y2.2.2))else if(y2.1==(237:Int))=true then some ((y2.2.1,(159:Int),y2.2.2.2))else if(y2.1==(240:Int))=true then some (((144:Int),y2.2.2))else if(y2.1==(244:Int))=true then some ((y2.2.1,(143:Int),y2.2.2.2))else some (y2.2))>>=λx3=>fu k (x3.1,x3.2.1,x3.2.2.1,(0:Int),ap.mk x3.2.2.2.1.s (i64.wrap (x3.2.2.2.1.at0+(1:Int))),())>>=λx4=>match x4 with| .inl y4=>some y4| .inr y4=>some (true,y4)| .inr y2=>some y2 else none
theorem tB(k:Nat)(v:ap×Unit):Le (nS k v) (kH v):=by
 unfold nS kH
 with_reducible repeat' first|exact Le.refl _|exact Le.none _|exact hU _ _|apply Le.bind|apply Le.ite|apply Le.both|(rintro(x|x)<;>dsimp only)|with_unfolding_all assumption|intro x
noncomputable def fg:Nat->ap×Bool×(List Int)×Unit->Option ((J4))|0,_=>none|k+1,v=>a_ (v.1,())>>=λx1=>if(x1.1==(34:Int))=true then nZ v.2>>=λx2=>some ((x2.1,true,ap.mk x1.2.1.s (i64.wrap (x1.2.1.at0+(1:Int))),()))else if decide (x1.1<(32:Int))=true then some (NA #[],false,x1.2)else if(x1.1==(92:Int))=true then nQ k (ap.mk x1.2.1.s (i64.wrap (x1.2.1.at0+(1:Int))),())>>=λx2=>if(!x2.2.1)=true then some (NA #[],false,x2.2.2)else nR k (x2.1,v.2)>>=λx3=>fg k (x2.2.2.1,x3.2)else nS k x1.2>>=λx2=>if(!x2.1)=true then some (NA #[],false,x2.2)else if(0:Int)<=x1.2.1.at0/\x1.2.1.at0<=x2.2.1.at0/\x2.2.1.at0<=(↑x2.2.1.s.size:Int)then lw k (x2.2.1.s.extract x1.2.1.at0.toNat x2.2.1.at0.toNat,v.2)>>=λx3=>fg k (x2.2.1,x3.2)else none
theorem jg:∀k v,Le (fg k v) (cT v)
 |0,_=>Le.none _
 |k+1,v=>by
  rw[fg,cT]
  with_reducible repeat' first|exact Le.refl _|exact Le.none _|exact tz _ _|exact tB _ _|exact qY _ _|exact tA _ _|exact jg _ _|apply Le.bind|apply Le.ite|apply Le.both|with_unfolding_all assumption|intro x
noncomputable def hG(k:Nat)(v:ap×Unit):Option (J4):=some (v.1,false,[],())>>=λx1=>fg k (ap.mk x1.1.s (i64.wrap (x1.1.at0+(1:Int))),x1.2)>>=λx2=>some x2
theorem hO(k:Nat)(v:ap×Unit):Le (hG k v) (eC v):=by
 unfold hG eC
 with_reducible repeat' first|exact Le.refl _|exact Le.none _|exact jg _ _|apply Le.bind|apply Le.ite|apply Le.both|with_unfolding_all assumption|intro x
mutual
noncomputable def ci:Nat->ap×Unit->Option (Tq2)|0,_=>none|k+1,v=>b_ k v>>=λx1=>a_ x1>>=λx2=>if(x2.1==(110:Int))=true then fO k (NA #[110,117,108,108],x2.2)>>=λx3=>some ((x3.1,x3.2.1,Tag.mk (0:Int) (0:Int) (NA #[]) [] [],()))else if(x2.1==(102:Int))=true then fO k (NA #[102,97,108,115,101],x2.2)>>=λx3=>some ((x3.1,x3.2.1,Tag.mk (1:Int) (0:Int) (NA #[]) [] [],()))else if(x2.1==(116:Int))=true then fO k (NA #[116,114,117,101],x2.2)>>=λx3=>some ((x3.1,x3.2.1,Tag.mk (2:Int) (0:Int) (NA #[]) [] [],()))else(if(x2.1==(45:Int))=true then some ((x2.1,true,x2.2.1,Tag.mk (0:Int) (0:Int) (NA #[]) [] [],()))else if decide (x2.1>=(48:Int))=true then some ((x2.1,decide (x2.1<=(57:Int)),x2.2.1,Tag.mk (0:Int) (0:Int) (NA #[]) [] [],()))else some ((x2.1,false,x2.2.1,Tag.mk (0:Int) (0:Int) (NA #[]) [] [],())))>>=λx3=>if x3.2.1=true then nP k (x3.2.2.1,())>>=λx4=>some (x4)else if(x3.1==(34:Int))=true then hG k (x3.2.2.1,())>>=λx4=>some ((x4.2.1,x4.2.2.1,Tag.mk (4:Int) (0:Int) x4.1 [] [],()))else if(x3.1==(91:Int))=true then m_72s0e1d k (x3.2.2.1,())>>=λx4=>some (x4)else if(x3.1==(123:Int))=true then m_73s0e1d k (x3.2.2.1,())>>=λx4=>some (x4)else some ((false,x3.2.2.1,Tag.mk (0:Int) (0:Int) (NA #[]) [] [],()))
noncomputable def m_73s0e1d:Nat->ap×Unit->Option (Tq2)|0,_=>none|k+1,v=>some (v.1,Tag.mk (0:Int) (0:Int) (NA #[]) [] [],(6:Int),(0:Int),NA #[],[],[],())>>=λx1=>b_ k (ap.mk x1.1.s (i64.wrap (x1.1.at0+(1:Int))),())>>=λx2=>aW k (NA #[125],x2)>>=λx3=>if x3.1=true then some ((true,x3.2.1,Tag.mk x1.2.2.1 x1.2.2.2.1 x1.2.2.2.2.1 x1.2.2.2.2.2.1 x1.2.2.2.2.2.2.1,()))else b_ k x3.2>>=λx4=>a_ x4>>=λx5=>if(x5.1 !=(34:Int))=true then some ((false,x5.2.1,Tag.mk (0:Int) (0:Int) (NA #[]) [] [],()))else hG k x5.2>>=λx6=>if(!x6.2.1)=true then some ((false,x6.2.2.1,Tag.mk (0:Int) (0:Int) (NA #[]) [] [],()))else b_ k x6.2.2>>=λx7=>aW k (NA #[58],x7)>>=λx8=>if(!x8.1)=true then some ((false,x8.2.1,Tag.mk (0:Int) (0:Int) (NA #[]) [] [],()))else ci k x8.2>>=λx9=>if(!x9.1)=true then some ((false,x9.2.1,Tag.mk (0:Int) (0:Int) (NA #[]) [] [],()))else if x1.2.2.2.2.2.1.length+[x6.1].length<=(4294967296:Nat)then if x1.2.2.2.2.2.2.1.length+[x9.2.2.1].length<=(4294967296:Nat)then b_ k (x9.2.1,())>>=λx10=>aW k (NA #[44],x10)>>=λx11=>if x11.1=true then m_73s0e1dg1 k (x11.2.1,x1.2.1,x1.2.2.1,x1.2.2.2.1,x1.2.2.2.2.1,x1.2.2.2.2.2.1++[x6.1],x1.2.2.2.2.2.2.1++[x9.2.2.1],())>>=λx12=>some x12 else aW k (NA #[125],x11.2)>>=λx12=>some ((x12.1,x12.2.1,Tag.mk x1.2.2.1 x1.2.2.2.1 x1.2.2.2.2.1 (x1.2.2.2.2.2.1++[x6.1]) (x1.2.2.2.2.2.2.1++[x9.2.2.1]),()))else none else none
noncomputable def m_73s0e1dg1:Nat->Tq1->Option ((Tq2))|0,_=>none|k+1,v=>b_ k (v.1,())>>=λx1=>a_ x1>>=λx2=>if(x2.1 !=(34:Int))=true then some ((false,x2.2.1,Tag.mk (0:Int) (0:Int) (NA #[]) [] [],()))else hG k x2.2>>=λx3=>if(!x3.2.1)=true then some ((false,x3.2.2.1,Tag.mk (0:Int) (0:Int) (NA #[]) [] [],()))else b_ k x3.2.2>>=λx4=>aW k (NA #[58],x4)>>=λx5=>if(!x5.1)=true then some ((false,x5.2.1,Tag.mk (0:Int) (0:Int) (NA #[]) [] [],()))else ci k x5.2>>=λx6=>if(!x6.1)=true then some ((false,x6.2.1,Tag.mk (0:Int) (0:Int) (NA #[]) [] [],()))else if v.2.2.2.2.2.1.length+[x3.1].length<=(4294967296:Nat)then if v.2.2.2.2.2.2.1.length+[x6.2.2.1].length<=(4294967296:Nat)then b_ k (x6.2.1,())>>=λx7=>aW k (NA #[44],x7)>>=λx8=>if x8.1=true then m_73s0e1dg1 k (x8.2.1,v.2.1,v.2.2.1,v.2.2.2.1,v.2.2.2.2.1,v.2.2.2.2.2.1++[x3.1],v.2.2.2.2.2.2.1++[x6.2.2.1],())else aW k (NA #[125],x8.2)>>=λx9=>some ((x9.1,x9.2.1,Tag.mk v.2.2.1 v.2.2.2.1 v.2.2.2.2.1 (v.2.2.2.2.2.1++[x3.1]) (v.2.2.2.2.2.2.1++[x6.2.2.1]),()))else none else none
noncomputable def m_72s0e1d:Nat->ap×Unit->Option (Tq2)|0,_=>none|k+1,v=>some (v.1,Tag.mk (0:Int) (0:Int) (NA #[]) [] [],(5:Int),(0:Int),NA #[],[],[],())>>=λx1=>b_ k (ap.mk x1.1.s (i64.wrap (x1.1.at0+(1:Int))),())>>=λx2=>aW k (NA #[93],x2)>>=λx3=>if x3.1=true then some ((true,x3.2.1,Tag.mk x1.2.2.1 x1.2.2.2.1 x1.2.2.2.2.1 x1.2.2.2.2.2.1 x1.2.2.2.2.2.2.1,()))else ci k x3.2>>=λx4=>if(!x4.1)=true then some ((false,x4.2.1,Tag.mk (0:Int) (0:Int) (NA #[]) [] [],()))else if x1.2.2.2.2.2.2.1.length+[x4.2.2.1].length<=(4294967296:Nat)then b_ k (x4.2.1,())>>=λx5=>aW k (NA #[44],x5)>>=λx6=>if x6.1=true then m_72s0e1dg1 k (x6.2.1,x1.2.1,x1.2.2.1,x1.2.2.2.1,x1.2.2.2.2.1,x1.2.2.2.2.2.1,x1.2.2.2.2.2.2.1++[x4.2.2.1],())>>=λx7=>some x7 else aW k (NA #[93],x6.2)>>=λx7=>some ((x7.1,x7.2.1,Tag.mk x1.2.2.1 x1.2.2.2.1 x1.2.2.2.2.1 x1.2.2.2.2.2.1 (x1.2.2.2.2.2.2.1++[x4.2.2.1]),()))else none
noncomputable def m_72s0e1dg1:Nat->Tq1->Option ((Tq2))|0,_=>none|k+1,v=>ci k (v.1,())>>=λx1=>if(!x1.1)=true then some ((false,x1.2.1,Tag.mk (0:Int) (0:Int) (NA #[]) [] [],()))else if v.2.2.2.2.2.2.1.length+[x1.2.2.1].length<=(4294967296:Nat)then b_ k (x1.2.1,())>>=λx2=>aW k (NA #[44],x2)>>=λx3=>if x3.1=true then m_72s0e1dg1 k (x3.2.1,v.2.1,v.2.2.1,v.2.2.2.1,v.2.2.2.2.1,v.2.2.2.2.2.1,v.2.2.2.2.2.2.1++[x1.2.2.1],())else aW k (NA #[93],x3.2)>>=λx4=>some ((x4.1,x4.2.1,Tag.mk v.2.2.1 v.2.2.2.1 v.2.2.2.2.1 v.2.2.2.2.2.1 (v.2.2.2.2.2.2.1++[x1.2.2.1]),()))else none
end
theorem tm(k:Nat)(h_72s0e1d:∀v,Le (m_72s0e1d k v) (n_72s0e1d v))(h_73s0e1d:∀v,Le (m_73s0e1d k v) (n_73s0e1d v))(v:ap×Unit):Le (ci (k+1) v) (aP v):=by
 rw[ci,aP]
 with_reducible repeat' first|exact Le.refl _|exact Le.none _|exact hO _ _|exact tt _ _|exact dE _ _|exact lW _ _|exact h_72s0e1d _|exact h_73s0e1d _|apply Le.bind|apply Le.ite|apply Le.both|with_unfolding_all assumption|intro x
theorem tw(k:Nat)(h_49s0e1d:∀v,Le (ci k v) (aP v))(h_73s0e1dg1:∀v,Le (m_73s0e1dg1 k v) (n_73s0e1dg1 v))(v:ap×Unit):Le (m_73s0e1d (k+1) v) (n_73s0e1d v):=by
 rw[m_73s0e1d,n_73s0e1d]
 with_reducible repeat' first|exact Le.refl _|exact Le.none _|exact hO _ _|exact ca _ _|exact dE _ _|exact h_49s0e1d _|exact h_73s0e1dg1 _|apply Le.bind|apply Le.ite|apply Le.both|with_unfolding_all assumption|intro x
theorem ph(k:Nat)(h_49s0e1d:∀v,Le (ci k v) (aP v))(h_73s0e1dg1:∀v,Le (m_73s0e1dg1 k v) (n_73s0e1dg1 v))(v:Tq1):Le (m_73s0e1dg1 (k+1) v) (n_73s0e1dg1 v):=by
 rw[m_73s0e1dg1,n_73s0e1dg1]
 with_reducible repeat' first|exact Le.refl _|exact Le.none _|exact hO _ _|exact ca _ _|exact dE _ _|exact h_49s0e1d _|exact h_73s0e1dg1 _|apply Le.bind|apply Le.ite|apply Le.both|with_unfolding_all assumption|intro x
theorem tu(k:Nat)(h_49s0e1d:∀v,Le (ci k v) (aP v))(h_72s0e1dg1:∀v,Le (m_72s0e1dg1 k v) (n_72s0e1dg1 v))(v:ap×Unit):Le (m_72s0e1d (k+1) v) (n_72s0e1d v):=by
 rw[m_72s0e1d,n_72s0e1d]
 with_reducible repeat' first|exact Le.refl _|exact Le.none _|exact ca _ _|exact dE _ _|exact h_49s0e1d _|exact h_72s0e1dg1 _|apply Le.bind|apply Le.ite|apply Le.both|with_unfolding_all assumption|intro x
theorem pg(k:Nat)(h_49s0e1d:∀v,Le (ci k v) (aP v))(h_72s0e1dg1:∀v,Le (m_72s0e1dg1 k v) (n_72s0e1dg1 v))(v:Tq1):Le (m_72s0e1dg1 (k+1) v) (n_72s0e1dg1 v):=by
 rw[m_72s0e1dg1,n_72s0e1dg1]
 with_reducible repeat' first|exact Le.refl _|exact Le.none _|exact ca _ _|exact dE _ _|exact h_49s0e1d _|exact h_72s0e1dg1 _|apply Le.bind|apply Le.ite|apply Le.both|with_unfolding_all assumption|intro x
theorem kw:∀k,(∀v,Le (ci k v) (aP v))/\(∀v,Le (m_73s0e1d k v) (n_73s0e1d v))/\(∀v,Le (m_73s0e1dg1 k v) (n_73s0e1dg1 v))/\(∀v,Le (m_72s0e1d k v) (n_72s0e1d v))/\(∀v,Le (m_72s0e1dg1 k v) (n_72s0e1dg1 v))
 |0=>⟨λ_=>Le.none _,λ_=>Le.none _,λ_=>Le.none _,λ_=>Le.none _,λ_=>Le.none _⟩
 |k+1=>by
  have h:=kw k
  exact⟨tm k (h.2.2.2.1) (h.2.1),tw k (h.1) (h.2.2.1),ph k (h.1) (h.2.2.1),tu k (h.1) (h.2.2.2.2),pg k (h.1) (h.2.2.2.2)⟩
theorem tj(k:Nat)(v:ap×Unit):Le (ci k v) (aP v):=have h:=kw k;h.1 v
noncomputable def Kc(k:Nat)(v:ByteArray×Unit):Option (C3):=if decide ((↑v.1.size:Int)>(65536:Int))=true then some (((0:Int),(3:Int),Tag.mk (0:Int) (0:Int) (NA #[]) [] [],()))else ci k (ap.mk v.1 (0:Int),())>>=λx1=>(if x1.1=true then b_ k (x1.2.1,())>>=λx2=>some ((v.1,x1.1,Tag.mk (0:Int) (0:Int) (NA #[]) [] [],x2.1,x1.2.2))else some ((v.1,x1.1,Tag.mk (0:Int) (0:Int) (NA #[]) [] [],x1.2)))>>=λx2=>(if(!x2.2.1)=true then some (x2.1,true,x2.2.2)else some ((x2.1,decide (x2.2.2.2.1.at0<(↑x2.1.size:Int)),x2.2.2)))>>=λx3=>if x3.2.1=true then some ((x3.2.2.2.1.at0,(2:Int),Tag.mk (0:Int) (0:Int) (NA #[]) [] [],()))else Kd k x3.2.2.2.2>>=λx4=>if(x4.1 !=(0:Int))=true then some (((0:Int),x4.1,Tag.mk (0:Int) (0:Int) (NA #[]) [] [],()))else some (((↑x3.1.size:Int),(0:Int),x3.2.2.2.2))
theorem GF(k:Nat)(v:ByteArray×Unit):Le (Kc k v) (Je v):=by
 unfold Kc Je
 with_reducible repeat' first|exact Le.refl _|exact Le.none _|exact tj _ _|exact AY _ _|exact dE _ _|apply Le.bind|apply Le.ite|apply Le.both|with_unfolding_all assumption|intro x
noncomputable def m_9(k:Nat)(v:Unit):Option (Bool×Unit):=Kc k (NA #[123,34,97,34,58,91,49,44,50,93,125],())>>=λx1=>Li k (x1.2.2.1,[NA #[97],NA #[49]],())>>=λx2=>Kc k (NA #[91,49,44,93],())>>=λx3=>(if(x1.2.1==(0:Int))=true then if(x1.1==(11:Int))=true then if(x2.2.1==(0:Int))=true then if x2.1=true then if(x2.2.2.1.kind==(3:Int))=true then if(x2.2.2.1.n==(2:Int))=true then if(x3.2.1==(2:Int))=true then some ((x3.1==(3:Int),()))else some ((false,()))else some ((false,()))else some ((false,()))else some ((false,()))else some ((false,()))else some ((false,()))else some ((false,())))>>=λx4=>some (x4)
theorem Jd(k:Nat)(v:Unit):Le (m_9 k v) (n_9 v):=by
 unfold m_9 n_9
 with_reducible repeat' first|exact Le.refl _|exact Le.none _|exact GF _ _|exact GE _ _|apply Le.bind|apply Le.ite|apply Le.both|with_unfolding_all assumption|intro x
end Go.Proofs.YtpndmanbfleadaaGreatDoor
end
section
namespace Go.Proofs.YtpndmanbfleadaaGreatDoor
set_option maxRecDepth 100000
theorem lv:n_9 ()=some (true,()):=Jd 60 () _ (by kernel_rfl)
end Go.Proofs.YtpndmanbfleadaaGreatDoor
end
section
namespace Go.Proofs.YtpndmanbfleadaaGreatDoor
open Go.Awp Go.Tx
set_option maxRecDepth 20000
abbrev Ed:Nat:=4294967296
theorem Ch{t:Tag}(h:t.Fit Ed):t.Fit big:=Tag.Fit.mono (by decide) t h
theorem B5(a:List ByteArray)(ha:a.length<=big):Ix (a,a,())=some (true,()):=by
 have go:∀(m k:Nat),a.length-k=m->lX (a,a,(k:Int),())=some (.inr ()):=by
  intro m
  induction m with
  |zero=>
   intro k hk
   have hlt:¬k<a.length:=by omega
   rw[lX]
   simp only[sW,hlt]
  |succ m ih=>
   intro k hk
   have hlt:k<a.length:=by omega
   obtain⟨p,hp1,hm,hd,g1,g2⟩:=dL hlt
   rw[lX]
   simp[hlt,hp1,aO hlt ha]
   exact_mod_cast ih (k+1) (by omega)
 have:=go _ 0 rfl
 simp only[O1,ON,N9]at this
 unfold Ix
 simp[this]
theorem same:∀a:Tag,a.Fit big->n_12 (a,a,())=some (true,()):=by
 refine Tag.ind λa ih ha=> ?_
 have go:∀(m k:Nat),a.parts.length-k=m->ib ((k:Int),a,a,())=some (.inr ()):=by
  intro m
  induction m with
  |zero=>
   intro k hk
   have hlt:¬k<a.parts.length:=by omega
   rw[ib]
   simp only[sW,hlt]
  |succ m ih2=>
   intro k hk
   have hlt:k<a.parts.length:=by omega
   obtain⟨p,hp1,hm,hd,g1,g2⟩:=dL hlt
   rw[ib]
   simp only[sW,g1,g2,hlt,hp1,ih p hm (ha.part hm),aO hlt ha.parts,OY]
   exact ih2 (k+1) (by omega)
 have:=go _ 0 rfl
 simp only[O1,ON,N9]at this
 rw[n_12]
 simp[B5 a.names ha.names,this]
theorem xu:∀L:List NP,(L.map (·.1)).zip (L.map (·.2))=L
 |[]=>rfl
 |q::L=>by rw[NF,NF,PV,xu L]
theorem qO(k n:Int)(tx:ByteArray)(ns:List ByteArray)(ps:List Tag):(fin k n tx ns ps).kind=k/\(fin k n tx ns ps).n=n/\(fin k n tx ns ps).text=tx:=by
 unfold fin
 split<;>exact⟨rfl,rfl,rfl⟩
theorem fA(t:Tag):t.srt.kind=t.kind:=by rw[iy];exact(qO _ _ _ _ _).1
theorem Ek(t:Tag):t.srt.n=t.n:=by rw[iy];exact(qO _ _ _ _ _).2.1
theorem kT(t:Tag):t.srt.text=t.text:=by rw[iy];exact(qO _ _ _ _ _).2.2
theorem kR{t:Tag}(hr:t.Right):t.srt.names.Perm t.names:=by
 rw[iy]
 unfold fin
 by_cases hk:t.kind=6
 ·rw[Q6 hk]
  have hlen:t.names.length=(srtL t.parts).length:=by rw[eo];exact hr.len hk
  exact((db _).map _).trans (by rw[oZ hlen])
 ·rw[Q5 hk,hr.none hk]
theorem kS{t:Tag}(hr:t.Right):t.srt.parts.Perm (srtL t.parts):=by
 rw[iy]
 unfold fin
 by_cases hk:t.kind=6
 ·rw[Q6 hk]
  have hlen:t.names.length=(srtL t.parts).length:=by rw[eo];exact hr.len hk
  exact((db _).map _).trans (by rw[CS hlen])
 ·rw[Q5 hk]
theorem rV{t p:Tag}(hr:t.Right)(hp:p∈t.srt.parts):∃q∈t.parts,q.srt=p:=by
 have:=(kS hr).mem_iff.1 hp
 rw[kQ]at this
 exact N3.1 this
theorem Ad{ps qs:List Tag}(h:ps.Perm qs):cntL ps=cntL qs:=by
 induction h with
 |nil=>rfl
 |cons x _ ih=>rw[cntL,cntL,ih]
 |swap x y l=>rw[cntL,cntL,cntL,cntL];omega
 |trans _ _ h1 h2=>rw[h1,h2]
theorem xF{ps qs:List Tag}(h:ps.Perm qs):bytsL ps=bytsL qs:=by
 induction h with
 |nil=>rfl
 |cons x _ ih=>rw[bytsL,bytsL,ih]
 |swap x y l=>rw[bytsL,bytsL,bytsL,bytsL];omega
 |trans _ _ h1 h2=>rw[h1,h2]
theorem Ae{ps qs:List Tag}(h:ps.Perm qs):depL ps=depL qs:=by
 induction h with
 |nil=>rfl
 |cons x _ ih=>rw[depL,depL,ih]
 |swap x y l=>rw[depL,depL,depL,depL];omega
 |trans _ _ h1 h2=>rw[h1,h2]
theorem Cn{a b:List ByteArray}(h:a.Perm b):(a.map O5).sum=(b.map O5).sum:=by
 induction h with
 |nil=>rfl
 |cons x _ ih=>rw[NF,NF,PJ,PJ,ih]
 |swap x y l=>simp only[NF,PJ];omega
 |trans _ _ h1 h2=>rw[h1,h2]
theorem Lh(ps:List Tag)(h:∀p∈ps,p.srt.cnt=p.cnt/\p.srt.byts=p.byts/\p.srt.dep=p.dep):cntL (srtL ps)=cntL ps/\bytsL (srtL ps)=bytsL ps/\depL (srtL ps)=depL ps:=by
 induction ps with
 |nil=>exact⟨rfl,rfl,rfl⟩
 |cons p ps ih=>
  obtain⟨a,b,c⟩:=h p NG
  obtain⟨d,e,f⟩:=ih λq hq=>h q (NC _ hq)
  rw[srtL,cntL,cntL,bytsL,bytsL,depL,depL,a,b,c,d,e,f]
  exact⟨rfl,rfl,rfl⟩
theorem Cl:∀t:Tag,t.Right->t.srt.cnt=t.cnt/\t.srt.byts=t.byts/\t.srt.dep=t.dep:=by
 refine Tag.ind λt ih hr=> ?_
 obtain⟨a,b,c⟩:=Lh t.parts λp hp=>ih p hp (hr.part hp)
 have hp:=kS hr
 rw[nh t.srt,nh t,uI t.srt,uI t,Ag t.srt,Ag t,Ad hp,xF hp,Ae hp,a,b,c,kT,Cn (kR hr)]
 exact⟨rfl,rfl,rfl⟩
theorem lH:∀t:Tag,wq t->t.Right:=by
 refine Tag.ind λt ih hg=> ?_
 have L:=hg.loc
 exact .mk L.nm L.ln λp hp=>ih p hp (hg.part hp)
theorem Do:∀t:Tag,wq t->wq t.srt:=by
 refine Tag.ind λt ih hg=> ?_
 have L:=hg.loc
 have hr:=lH t hg
 have hn:=kR hr
 have hp:=kS hr
 refine .mk ⟨by rw[fA];exact L.k0,by rw[fA];exact L.k6,by rw[fA,Ek];exact L.n0,by rw[Ek];exact L.lo,by rw[Ek];exact L.hi,by rw[fA,kT];exact L.tx,λh=> ?_,λh=> ?_,λh=> ?_,by rw[kT];exact L.vt,λs hs=>L.vn s (hn.mem_iff.1 hs)⟩ λp hp'=> ?_
 ·rw[fA]at h
  have:=hp.length_eq
  rw[eo,L.pt h]at this
  exact PS.1 this
 ·rw[fA]at h
  rw[hn.length_eq,hp.length_eq,eo]
  exact L.ln h
 ·rw[fA]at h
  have:=hn.length_eq
  rw[L.nm h]at this
  exact PS.1 this
 ·obtain⟨q,hq,rfl⟩:=rV hr hp'
  exact ih q hq (hg.part hq)
theorem EL:∀t:Tag,t.Right->t.Uniq->t.srt.Uniq:=by
 refine Tag.ind λt ih hr hu=> ?_
 refine .mk ((kR hr).nodup_iff.2 hu.nd) λp hp=> ?_
 obtain⟨q,hq,rfl⟩:=rV hr hp
 exact ih q hq (hr.part hq) (hu.part hq)
theorem Gn{B:Nat}:∀t:Tag,t.Right->t.Fit B->t.srt.Fit B:=by
 refine Tag.ind λt ih hr ht=> ?_
 have hn:=kR hr
 have hp:=kS hr
 refine .mk (by rw[kT];exact ht.text) (by rw[hn.length_eq];exact ht.names) (λs hs=>ht.name (hn.mem_iff.1 hs)) (by rw[hp.length_eq,eo];exact ht.parts) λp hp'=> ?_
 obtain⟨q,hq,rfl⟩:=rV hr hp'
 exact ih q hq (hr.part hq) (ht.part hq)
theorem HS:∀t:Tag,t.Right->t.Uniq->t.srt.srt=t.srt:=by
 refine Tag.ind λt ih hr hu=> ?_
 have hps:srtL t.srt.parts=t.srt.parts:=by
  rw[kQ]
  conv=>rhs;rw[<-Q1 t.srt.parts]
  refine NZ λp hp=> ?_
  obtain⟨q,hq,rfl⟩:=rV hr hp
  exact ih q hq (hr.part hq) (hu.part hq)
 rw[iy t.srt,hps,fA,Ek,kT]
 rw[iy t]
 by_cases hk:t.kind=6
 ·have hlen:t.names.length=(srtL t.parts).length:=by rw[eo];exact hr.len hk
  have hS:oJ (oJ (t.names.zip (srtL t.parts)))=oJ (t.names.zip (srtL t.parts)):=by
   refine oa ?_ (db _) (fz _) (fz _)
   rw[((db _).map _).nodup_iff,((db _).map _).nodup_iff,oZ hlen]
   exact hu.nd
  unfold fin
  simp only[hk,Q2]
  rw[xu,hS]
 ·unfold fin
  simp only[hk,Q3]
theorem Mr(t:Tag)(ht:t.Fit nG)(hb:t.bulk<=nG):n_27 (t,())=some ((t.cnt:Int),(t.dep:Int),(t.byts:Int),()):=by
 obtain⟨a,d,s,c1,c2⟩:=f58 t (Tag.Fit.mono (by decide) t ht)
 have h:=I2 t ht hb
 rw[c2]at h
 simp only[Ny,N5,cF.mk.injEq,and_true]at h
 rw[c1,h.1,h.2.1,h.2.2]
theorem MS{B:Nat}(hB:B<Ed)(t:Tag)(ht:t.Fit B)(hb:t.bulk<=nG):n_6 (t,())=some (true,()):=by
 have hsm:Ed=4294967296:=rfl
 have hhf:nG=4611686018427387904:=rfl
 have hbig:big=9223372036854775807:=rfl
 have hts:t.Fit Ed:=Tag.Fit.mono (by omega) t ht
 have hth:t.Fit nG:=Tag.Fit.mono (by omega) t ht
 have htb:t.Fit big:=Ch hts
 obtain⟨x1,hx1⟩:=f13 t htb.wf
 unfold n_6
 cases x1 with
 |true=>simp[hx1,lv]
 |false=>
  obtain⟨e,e1,e2,e3⟩:=f29 t htb
  have hz:(Tag.mk 0 0 (NA #[]) [] []).Fit big:= .mk (OI _) (OI _) (λs hs=>by cases hs) (OI _) λp hp=>by cases hp
  by_cases he:e=0
  ·subst he
   obtain⟨g1,g2,g3,g4⟩:=MH t hth hb e1
   have hu:=zu t htb e1
   have hr:=lH t g1
   have hc:t.cnt<4294967295:=by omega
   have s1:=Ck t hr hu hc
   have s2:=JT t hr hu hc
   obtain⟨z1,z2,z3⟩:=Cl t hr
   have hfs:t.srt.Fit B:=Gn t hr ht
   have hsb:t.srt.Fit big:=Tag.Fit.mono (by omega) _ hfs
   have hsh:t.srt.Fit nG:=Tag.Fit.mono (by omega) _ hfs
   have hbs:t.srt.bulk<=nG:=by rw[qH,z1,z2,<-qH];exact hb
   have hus:=EL t hr hu
   have hgs:=Do t g1
   have v1:=EO t.srt hsh hbs hgs hus (by omega) (by omega) (by omega)
   have s3:=Ck t.srt (lH _ hgs) hus (by omega)
   rw[HS t hr hu]at s3
   have ha:=FT t hr
   obtain⟨_,a2⟩:=IJ t htb (by omega)
   have a3:=Bz t htb [] (by simp;omega)
   have k1:Bj (t,())=some (0,t.srt,()):=by
    unfold Bj
    simp[e1,s1]
   have k2:Ir (t,())=some (0,t.srt,()):=by
    unfold Ir
    simp[e2,s2]
   have k3:Is (t,())=some (compactStr (sortStr t.all),0,()):=by
    have l1:t.all.length<4611686018427387904:=by omega
    have l2:(sortStr t.all).length<=9223372036854775807:=by rw[en];omega
    have m1:ig (t.all,())=some (sortStr t.all,()):=by
     unfold ig
     simp only[l1,Q2]
    have m2:ij (sortStr t.all,())=some (compactStr (sortStr t.all),()):=by
     unfold ij
     simp only[l2,Q2]
    unfold Is
    simp[e1,a2,m1,m2,en]
   have k4:It (t,())=some (compactStr (sortStr t.all),0,()):=by
    unfold It
    simp[e2,a3,Eb]
   have k5:Iu (t,())=some ((t.dep:Int),0,()):=by
    unfold Iu
    simp[e1,I2 t hth hb]
   have k6:Iv (t,())=some ((t.dep:Int),0,()):=by
    unfold Iv
    simp[e2,Mr t hth hb]
   have k7:Iq (t,())=some ((t.cnt:Int),0,()):=by
    unfold Iq
    simp[e1,I2 t hth hb]
   have k8:Iw (t,())=some ((t.cnt:Int),0,()):=by
    unfold Iw
    simp[e2,Mr t hth hb]
   have k9:Bj (t.srt,())=some (0,t.srt,()):=by
    unfold Bj
    simp[v1,s3]
   have hcl:(compactStr (sortStr t.all)).length<=big:=by
    have:=nj ((sortStr t.all).map λs=>s.data.toList)
    rw[Nz,en]at this
    unfold compactStr
    rw[Nz]
    omega
   simp[hx1,k1,k2,k3,k4,k5,k6,k7,k8,k9,same t.srt hsb,B5 _ hcl,lv]
  ·have k1:Bj (t,())=some (e,Tag.mk 0 0 (NA #[]) [] [],()):=by
    unfold Bj
    simp[e1,he]
   have k2:Ir (t,())=some (e,Tag.mk 0 0 (NA #[]) [] [],()):=by
    unfold Ir
    simp[e2,he]
   have k3:Is (t,())=some ([],e,()):=by
    unfold Is
    simp[e1,he]
   have k4:It (t,())=some ([],e,()):=by
    unfold It
    simp[e2,he]
   have k5:Iu (t,())=some (0,e,()):=by
    unfold Iu
    simp[e1,he]
   have k6:Iv (t,())=some (0,e,()):=by
    unfold Iv
    simp[e2,he]
   have k7:Iq (t,())=some (0,e,()):=by
    unfold Iq
    simp[e1,he]
   have k8:Iw (t,())=some (0,e,()):=by
    unfold Iw
    simp[e2,he]
   have k9:∃x,Bj (Tag.mk 0 0 (NA #[]) [] [],())=some x:=by
    obtain⟨e',f1,_,_⟩:=f29 _ hz
    unfold Bj
    by_cases h0:e'=0
    ·have s4:=Ck (Tag.mk 0 0 (NA #[]) [] []) (.mk (λ_=>rfl) (λh=>rfl) λp hp=>by cases hp) (.mk List.nodup_nil λp hp=>by cases hp) (by decide)
     simp[f1,h0,s4]
    ·simp[f1,h0]
   obtain⟨x,k9⟩:=k9
   have q1:=same _ hz
   have q2:=B5 [] (OI _)
   simp[hx1,k1,k2,k3,k4,k5,k6,k7,k8,k9,q1,q2,he,lv]
theorem pd(t:Tag)(h0:Ok vw (.st .tagT) t)(m0:Nat)(b0:Bk vw (.st .tagT) t m0)(hm:m0<=1048576):n_6 (t,())=some (true,()):=
 MS (B:=1048576) (by decide) t (Aq t m0 hm b0) (OH (F1 t m0 b0) (OH hm (by decide)))
end Go.Proofs.YtpndmanbfleadaaGreatDoor
end
