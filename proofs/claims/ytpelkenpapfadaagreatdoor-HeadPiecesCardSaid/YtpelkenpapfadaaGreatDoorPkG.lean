/-
  Texts of this claim, joined by a program of mine: what the theorem uses.
-/
import Derived.Test.YtpelkenpapfadaaGreatDoorPkE
import Derived.Test.YtpelkenpapfadaaGreatDoorPkC
import Derived.Test.YtpelkenpapfadaaGreatDoorPkF
open ByteArray renaming mk→T3
open Int renaming toNat→U6
open List renaming take→W0
open Sum renaming inl→UR,inr→UW
noncomputable section
set_option linter.unusedVariables false
section
namespace Go.Proofs.YtpelkenpapfadaaGreatDoor
open Go.Awp Go.Tx
open IntKind (i64)
open Go.Proofs.Tryz (prog)
set_option maxHeartbeats 4000000
set_option maxRecDepth 100000
def dQ:Cut SN:=⟨[(0, .bp 100000 0),(2, .dat (.int .i64)),(4, .bp 4 0),(6, .dat (.int .i64)),(98, .dat (.sl (.st .layoutT))),(99, .dat (.int .i64)),(100, .dat (.int .i64))],[(100000, .st .countedT),(4, .st .layoutT)]⟩
def eG:Cut SN:=⟨[(0, .bp 100000 0),(2, .dat (.int .i64)),(126, .dat (.sl (.st .layoutT))),(127, .dat (.int .i64)),(128, .dat (.int .i64))],[(100000, .st .countedT)]⟩
def dP:Cut SN:=⟨[(0, .bp 100000 0),(2, .dat (.int .i64)),(4, .bp 4 0)],[(100000, .st .countedT),(4, .st .layoutT)]⟩
def wT:Cut SN:=⟨[(0, .bp 100000 0),(2, .dat (.int .i64)),(4, .bp 4 0),(6, .dat (.int .i64))],[(100000, .st .countedT),(4, .st .layoutT)]⟩
def kD:Cut SN:=⟨[(0, .bp 100000 0)],[(100000, .st .countedT)]⟩
def fy:ax vw:=shL [(1,wT),(3,kD)] kD
def bG:Sig vw:={params:=[.bp 100000 0, .dat (.st .layoutT), .dat (.int .i64)],objs:=[(100000, .st .countedT)],rcut:=kD,rvars:=[],keep:=[100000]}
noncomputable def aC(v:Int×Int×(List aa)×Int×Int×al×aa×Unit):Option ((Int×Int×al×aa×Unit)):=if decide (v.2.2.2.2.1<v.2.2.2.1)=true then if 0<=v.2.2.2.2.1 then v.2.2.1[v.2.2.2.2.1.toNat]?>>=λx1=>Bz (x1,())>>=λx2=>lp ([v.2.1,x2.1],())>>=λx3=>aC (v.1,x3.1,v.2.2.1,v.2.2.2.1,i64.wrap (v.2.2.2.2.1+1),v.2.2.2.2.2.1,v.2.2.2.2.2.2.1,())else none else some ((v.1,v.2.1,v.2.2.2.2.2.1,v.2.2.2.2.2.2.1,())) partial_fixpoint
mutual
noncomputable def bu(v:Int×(List aa)×Int×Int×al×Unit):Option ((al×Unit)):=if decide (v.2.2.2.1<v.2.2.1)=true then if 0<=v.2.2.2.1 then v.2.1[v.2.2.2.1.toNat]?>>=λx1=>n_126sf4a5 (x1,i64.wrap (v.1+1),v.2.2.2.2.1,())>>=λx2=>bu (v.1,v.2.1,v.2.2.1,i64.wrap (v.2.2.2.1+1),x2.1,())else none else some ((v.2.2.2.2.1,())) partial_fixpoint
noncomputable def n_126sf4a5(v:aa×Int×al×Unit):Option (al×Unit):=(if v.2.2.1.large=true then some ((v.2.1,al.mk (i64.wrap (v.2.2.1.count+1)) (max v.2.2.1.deep v.2.1) true,v.1,()))else if decide (i64.wrap (v.2.2.1.count+1)>60)=true then some ((v.2.1,al.mk (i64.wrap (v.2.2.1.count+1)) (max v.2.2.1.deep v.2.1) true,v.1,()))else if decide (v.2.1>5)=true then some ((v.2.1,al.mk (i64.wrap (v.2.2.1.count+1)) (max v.2.2.1.deep v.2.1) true,v.1,()))else some ((v.2.1,al.mk (i64.wrap (v.2.2.1.count+1)) (max v.2.2.1.deep v.2.1) (decide ((↑v.1.parts.length:Int)>12)),v.1,())))>>=λx1=>(if(x1.2.2.1.kind==2)=true then(if x1.2.1.large=true then some ((x1.1,al.mk x1.2.1.count x1.2.1.deep true,x1.2.2.1,()))else some ((x1.1,al.mk x1.2.1.count x1.2.1.deep (decide (x1.2.2.1.n>64)),x1.2.2.1,())))>>=λx2=>some ((x2.1,x2.2.1,x2.2.2.1,()))else if(x1.2.2.1.kind==5)=true then(if x1.2.1.large=true then some ((x1.1,al.mk x1.2.1.count x1.2.1.deep true,x1.2.2.1,()))else some ((x1.1,al.mk x1.2.1.count x1.2.1.deep (decide (x1.2.2.1.n>1000)),x1.2.2.1,())))>>=λx2=>some ((x2.1,x2.2.1,x2.2.2.1,()))else if(x1.2.2.1.kind==7)=true then(if x1.2.1.large=true then some ((x1.1,al.mk x1.2.1.count x1.2.1.deep true,x1.2.2.1,()))else some ((x1.1,al.mk x1.2.1.count x1.2.1.deep (decide (x1.2.2.1.n>65536)),x1.2.2.1,())))>>=λx2=>some ((x2.1,x2.2.1,x2.2.2.1,()))else if(x1.2.2.1.kind==9)=true then aC (x1.1,(0:Int),x1.2.2.1.parts,(↑x1.2.2.1.parts.length:Int),(0:Int),x1.2.1,x1.2.2.1,())>>=λx2=>(if x2.2.2.1.large=true then some ((x2.1,al.mk x2.2.2.1.count x2.2.2.1.deep true,x2.2.2.2.1,()))else some ((x2.1,al.mk x2.2.2.1.count x2.2.2.1.deep (decide (x2.2.1>64)),x2.2.2.2.1,())))>>=λx3=>some ((x3.1,x3.2.1,x3.2.2.1,()))else some ((x1.1,x1.2.1,x1.2.2.1,())))>>=λx2=>if x2.2.1.large=true then some ((x2.2.1,()))else bu (x2.1,x2.2.2.1.parts,(↑x2.2.2.1.parts.length:Int),(0:Int),x2.2.1,())>>=λx3=>some ((x3.1,())) partial_fixpoint
end
def ga(aC:Int×Int×(List aa)×Int×Int×al×aa×Unit->Option ((Int×Int×al×aa×Unit)))(bu:Int×(List aa)×Int×Int×al×Unit->Option ((al×Unit)))(n_126sf4a5:aa×Int×al×Unit->Option (al×Unit)):bz vw:=λA fid args S k=>match fid with|111=>aP prog vV lp A args S k|126=>eP prog bG n_126sf4a5 A args S k|144=>aP prog JT Bz A args S k|_=>none
def bf(aC:Int×Int×(List aa)×Int×Int×al×aa×Unit->Option ((Int×Int×al×aa×Unit)))(bu:Int×(List aa)×Int×Int×al×Unit->Option ((al×Unit)))(n_126sf4a5:aa×Int×al×Unit->Option (al×Unit)):Xc vw:={P:=prog,n:=138,call:=ga aC bu n_126sf4a5,pre:=kp,sh:=fy,joins:=λk=>match k with|19=>some (dP,[.norm])|_=>none,regs:=λk=>match k with|3=>some dP|6=>some dP|8=>some dP|10=>some dP|18=>some dP|_=>none,loops:=λk=>match k with|14=>some {cut:=dQ,alts:=[.exit 1],F:=aC}|21=>some {cut:=eG,alts:=[.exit 3],F:=bu}|_=>none}
abbrev eE(v:Int×Int×(List aa)×Int×Int×al×aa×Unit)(r:(Int×Int×al×aa×Unit)):Prop:=(λv out=>∀C:Ctx,C.P=prog->C.N=138/\Fx C kp->ob C (ai (af Tryz.f126) 0) (Go.Tx.aH vw (bV vw dQ v)) (tZ fy [.exit 1] out)) v r
theorem qJ(f0:Int×Int×(List aa)×Int×Int×al×aa×Unit->Option ((Int×Int×al×aa×Unit)))(h0:∀v r,f0 v=some r->eE v r):ay prog (bf f0 (λ_=>none) (λ_=>none)).call:=(by
 intro A fid args S dst k r h
 unfold bf ga at h
 simp only at h
 split at h
 ·exact ak (fb) rfl rfl h
 ·exact dq ((λv r x h hx=>by cases h)) h
 ·exact ak (om) rfl rfl h
 ·cases h)
theorem rc(f0:Int×Int×(List aa)×Int×Int×al×aa×Unit->Option ((Int×Int×al×aa×Unit)))(h0:∀v r,f0 v=some r->eE v r)(v:Int×Int×(List aa)×Int×Int×al×aa×Unit)(r:(Int×Int×al×aa×Unit))(h:exL (bf f0 (λ_=>none) (λ_=>none)) (ai (af Tryz.f126) 0) dQ [.exit 1] f0 v=some r):eE v r:=λC hP hN=>dj (X:=bf f0 (λ_=>none) (λ_=>none)) (b:=(ai (af Tryz.f126) 0)) hP hN Ty.mixed (qJ f0 h0) (bm (X:=bf f0 (λ_=>none) (λ_=>none)) (c:=(ai (af Tryz.f126) 0)) (bj (by kernel_rfl:True=fZ (bq C (bf f0 (λ_=>none) (λ_=>none))) (aJ (ai (af Tryz.f126) 0))) trivial)) (cut:=dQ) (alts:=[.exit 1]) (F:=f0) (λv out h=>h0 v out h C hP hN) h
theorem n5:∀v out,aC v=some out->(λv out=>∀C:Ctx,C.P=prog->C.N=138/\Fx C kp->ob C (ai (af Tryz.f126) 0) (Go.Tx.aH vw (bV vw dQ v)) (tZ fy [.exit 1] out)) v out:=(aC.partial_correctness (motive:=eE) (λf0 h0 v r h=>rc f0 h0 v r (bj (by kernel_rfl) h)))
abbrev cq(v:Int×(List aa)×Int×Int×al×Unit)(r:(al×Unit)):Prop:=(λv out=>∀C:Ctx,C.P=prog->C.N=138/\Fx C kp->ob C (ai (af Tryz.f126) 1) (Go.Tx.aH vw (bV vw eG v)) (tZ fy [.exit 3] out)) v r
abbrev fK(v:aa×Int×al×Unit)(r:al×Unit):Prop:=(λv r=>∀x,qF prog bG r=some x->gr prog 126 (encL vw (az bG v).len (aX bG v).1) (bt (az bG v).len (az bG v).own) (an vw (bV vw bG.rcut r).len x) (bt (bV vw bG.rcut r).len (jJ bG r))) v r
theorem qK(f0:Int×(List aa)×Int×Int×al×Unit->Option ((al×Unit)))(f1:aa×Int×al×Unit->Option (al×Unit))(h0:∀v r,f0 v=some r->cq v r)(h1:∀v r,f1 v=some r->fK v r):ay prog (bf (λ_=>none) f0 f1).call:=(by
 intro A fid args S dst k r h
 unfold bf ga at h
 simp only at h
 split at h
 ·exact ak (fb) rfl rfl h
 ·exact dq ((λv r x h hx=>h1 v r h x hx)) h
 ·exact ak (om) rfl rfl h
 ·cases h)
theorem re(f0:Int×(List aa)×Int×Int×al×Unit->Option ((al×Unit)))(f1:aa×Int×al×Unit->Option (al×Unit))(h0:∀v r,f0 v=some r->cq v r)(h1:∀v r,f1 v=some r->fK v r)(v:Int×(List aa)×Int×Int×al×Unit)(r:(al×Unit))(h:exL (bf (λ_=>none) f0 f1) (ai (af Tryz.f126) 1) eG [.exit 3] f0 v=some r):cq v r:=λC hP hN=>dj (X:=bf (λ_=>none) f0 f1) (b:=(ai (af Tryz.f126) 1)) hP hN Ty.mixed (qK f0 f1 h0 h1) (bm (X:=bf (λ_=>none) f0 f1) (c:=(ai (af Tryz.f126) 1)) (bj (by kernel_rfl:True=fZ (bq C (bf (λ_=>none) f0 f1)) (aJ (ai (af Tryz.f126) 1))) trivial)) (cut:=eG) (alts:=[.exit 3]) (F:=f0) (λv out h=>h0 v out h C hP hN) h
theorem xA(f0:Int×(List aa)×Int×Int×al×Unit->Option ((al×Unit)))(h0:∀v r,f0 v=some r->cq v r):ay prog (bf aC f0 (λ_=>none)).call:=(by
 intro A fid args S dst k r h
 unfold bf ga at h
 simp only at h
 split at h
 ·exact ak (fb) rfl rfl h
 ·exact dq ((λv r x h hx=>by cases h)) h
 ·exact ak (om) rfl rfl h
 ·cases h)
theorem y9(f0:Int×(List aa)×Int×Int×al×Unit->Option ((al×Unit)))(h0:∀v r,f0 v=some r->cq v r)(v:aa×Int×al×Unit)(r:al×Unit)(h:exF (bf aC f0 (λ_=>none)) bG rfl (af Tryz.f126) v=some r):fK v r:=λx hx=>mO (X:=bf aC f0 (λ_=>none)) (sig:=bG) rfl Tryz.func126 (c:=af Tryz.f126) (by kernel_rfl) Tryz.ntmps126 (by kernel_rfl) (by kernel_rfl) rfl Ty.mixed (xA f0 h0) rfl (λC hP hN=>(bm (X:=bf aC f0 (λ_=>none)) (c:=(af Tryz.f126)) (bj (by kernel_rfl:fZ (bq C (bf aC f0 (λ_=>none))) [(ai (af Tryz.f126) 0),(ai (af Tryz.f126) 1)]=fZ (bq C (bf aC f0 (λ_=>none))) (aJ (af Tryz.f126))) ⟨d8 (X:=bf aC f0 (λ_=>none)) (b:=(ai (af Tryz.f126) 0)) (by kernel_rfl) (show dB C (ai (af Tryz.f126) 0) (sh:=fy) {cut:=dQ,alts:=[.exit 1],F:=aC}fromλv out h=>n5 v out h C hP hN),d8 (X:=bf aC f0 (λ_=>none)) (b:=(ai (af Tryz.f126) 1)) (by kernel_rfl) (show dB C (ai (af Tryz.f126) 1) (sh:=fy) {cut:=eG,alts:=[.exit 3],F:=f0}fromλv out h=>h0 v out h C hP hN),trivial⟩))) h x hx
theorem mU:(∀v r,bu v=some r->cq v r)/\(∀v r,n_126sf4a5 v=some r->fK v r):=by
 refine bu.mutual_partial_correctness
  (motive_1:=cq)
  (motive_2:=fK)
  ?_ ?_
 ·exact(λf0 f1 h0 h1 v r h=>re f0 f1 h0 h1 v r (bj (by kernel_rfl) h))
 ·exact(λf0 h0 v r h=>y9 f0 h0 v r (bj (by kernel_rfl) h))
theorem tc:aq prog 126 bG n_126sf4a5:=λv r x h hx=>mU.2 v r h x hx
def ug:Cut SN:=⟨[(1, .bp 1 0),(3, .dat (.int .i64)),(7, .dat (.sl (.st .layoutT))),(8, .dat (.int .i64)),(9, .dat (.int .i64))],[(1, .st .layoutT)]⟩
def zp:Cut SN:=⟨[(1, .bp 1 0),(3, .dat (.int .i64))],[(1, .st .layoutT)]⟩
def Lw:ax vw:=shL [(0,zp)] bP
def iJ:Sig vw:=sg [.dat (.st .layoutT)] bP [.tmp 2]
mutual
noncomputable def fL(v:Int×(List aa)×Int×Int×aa×Unit):Option ((Int×aa×Unit)):=if decide (v.2.2.2.1<v.2.2.1)=true then if 0<=v.2.2.2.1 then v.2.1[v.2.2.2.1.toNat]?>>=λx1=>n_127 (x1,())>>=λx2=>lp ([v.1,x2.1],())>>=λx3=>fL (x3.1,v.2.1,v.2.2.1,i64.wrap (v.2.2.2.1+1),v.2.2.2.2.1,())else none else some ((v.1,v.2.2.2.2.1,())) partial_fixpoint
noncomputable def n_127(v:aa×Unit):Option (Int×Unit):=fL ((0:Int),v.1.parts,(↑v.1.parts.length:Int),(0:Int),v.1,())>>=λx1=>if(x1.2.1.kind==5)=true then lp ([(1:Int),i64.wrap (max (0:Int) x1.2.1.n *x1.1)],())>>=λx2=>some ((x2.1,()))else lp ([(1:Int),x1.1],())>>=λx2=>some ((x2.1,())) partial_fixpoint
end
def xo(fL:Int×(List aa)×Int×Int×aa×Unit->Option ((Int×aa×Unit)))(n_127:aa×Unit->Option (Int×Unit)):bz vw:=λA fid args S k=>match fid with|111=>aP prog vV lp A args S k|127=>aP prog iJ n_127 A args S k|_=>none
def An(fL:Int×(List aa)×Int×Int×aa×Unit->Option ((Int×aa×Unit)))(n_127:aa×Unit->Option (Int×Unit)):Xc vw:={P:=prog,n:=32,call:=xo fL n_127,pre:=kp,sh:=Lw,loops:=λk=>match k with|3=>some {cut:=ug,alts:=[.exit 0],F:=fL}|_=>none}
abbrev h_(v:Int×(List aa)×Int×Int×aa×Unit)(r:(Int×aa×Unit)):Prop:=(λv out=>∀C:Ctx,C.P=prog->C.N=32/\Fx C kp->ob C (ai (af Tryz.f127) 0) (Go.Tx.aH vw (bV vw ug v)) (tZ Lw [.exit 0] out)) v r
abbrev u7(v:aa×Unit)(r:Int×Unit):Prop:=(λv r=>∀x,qF prog iJ r=some x->gr prog 127 (encL vw (az iJ v).len (aX iJ v).1) (bt (az iJ v).len (az iJ v).own) (an vw (bV vw iJ.rcut r).len x) (bt (bV vw iJ.rcut r).len (jJ iJ r))) v r
theorem Hg(f0:Int×(List aa)×Int×Int×aa×Unit->Option ((Int×aa×Unit)))(f1:aa×Unit->Option (Int×Unit))(h0:∀v r,f0 v=some r->h_ v r)(h1:∀v r,f1 v=some r->u7 v r):ay prog (An f0 f1).call:=(by
 intro A fid args S dst k r h
 unfold An xo at h
 simp only at h
 split at h
 ·exact ak (fb) rfl rfl h
 ·exact ak ((λv r x h hx=>h1 v r h x hx)) rfl rfl h
 ·cases h)
theorem IB(f0:Int×(List aa)×Int×Int×aa×Unit->Option ((Int×aa×Unit)))(f1:aa×Unit->Option (Int×Unit))(h0:∀v r,f0 v=some r->h_ v r)(h1:∀v r,f1 v=some r->u7 v r)(v:Int×(List aa)×Int×Int×aa×Unit)(r:(Int×aa×Unit))(h:exL (An f0 f1) (ai (af Tryz.f127) 0) ug [.exit 0] f0 v=some r):h_ v r:=λC hP hN=>dj (X:=An f0 f1) (b:=(ai (af Tryz.f127) 0)) hP hN Ty.mixed (Hg f0 f1 h0 h1) (bm (X:=An f0 f1) (c:=(ai (af Tryz.f127) 0)) (bj (by kernel_rfl:True=fZ (bq C (An f0 f1)) (aJ (ai (af Tryz.f127) 0))) trivial)) (cut:=ug) (alts:=[.exit 0]) (F:=f0) (λv out h=>h0 v out h C hP hN) h
theorem MP(f0:Int×(List aa)×Int×Int×aa×Unit->Option ((Int×aa×Unit)))(h0:∀v r,f0 v=some r->h_ v r):ay prog (An f0 (λ_=>none)).call:=(by
 intro A fid args S dst k r h
 unfold An xo at h
 simp only at h
 split at h
 ·exact ak (fb) rfl rfl h
 ·exact ak ((λv r x h hx=>by cases h)) rfl rfl h
 ·cases h)
theorem Oa(f0:Int×(List aa)×Int×Int×aa×Unit->Option ((Int×aa×Unit)))(h0:∀v r,f0 v=some r->h_ v r)(v:aa×Unit)(r:Int×Unit)(h:exF (An f0 (λ_=>none)) iJ rfl (af Tryz.f127) v=some r):u7 v r:=λx hx=>mO (X:=An f0 (λ_=>none)) (sig:=iJ) rfl Tryz.func127 (c:=af Tryz.f127) (by kernel_rfl) Tryz.ntmps127 (by kernel_rfl) (by kernel_rfl) rfl Ty.mixed (MP f0 h0) rfl (λC hP hN=>(bm (X:=An f0 (λ_=>none)) (c:=(af Tryz.f127)) (bj (by kernel_rfl:fZ (bq C (An f0 (λ_=>none))) [(ai (af Tryz.f127) 0)]=fZ (bq C (An f0 (λ_=>none))) (aJ (af Tryz.f127))) ⟨d8 (X:=An f0 (λ_=>none)) (b:=(ai (af Tryz.f127) 0)) (by kernel_rfl) (show dB C (ai (af Tryz.f127) 0) (sh:=Lw) {cut:=ug,alts:=[.exit 0],F:=f0}fromλv out h=>h0 v out h C hP hN),trivial⟩))) h x hx
theorem ya:(∀v r,fL v=some r->h_ v r)/\(∀v r,n_127 v=some r->u7 v r):=by
 refine fL.mutual_partial_correctness
  (motive_1:=h_)
  (motive_2:=u7)
  ?_ ?_
 ·exact(λf0 f1 h0 h1 v r h=>IB f0 f1 h0 h1 v r (bj (by kernel_rfl) h))
 ·exact(λf0 h0 v r h=>Oa f0 h0 v r (bj (by kernel_rfl) h))
theorem HQ:aq prog 127 iJ n_127:=λv r x h hx=>ya.2 v r h x hx
def Qm:ax vw:={rcut:=dn}
def NZ:Sig vw:=sg [.dat (.st .layoutT)] dn [.tmp 2]
noncomputable def Ex(v:aa×Unit):Option (Bool×Unit):=(if(v.1.kind !=1)=true then some ((v.1.kind !=2,()))else some ((false,())))>>=λx1=>some ((x1.1,()))
def TQ:Xc vw:=mX prog 11 c0 Qm [] [(1,dn)] []
theorem H3:aq prog 166 NZ Ex:=fn0 TQ Tryz.func166 bI
def rG:Cut SN:=⟨[(0, .dat (.sl (.st .layoutT))),(1, .fn 166 [] []),(7, .dat (.int .i64)),(8, .dat (.int .i64))],[]⟩
def FU:ax vw:=shL [(0,uq)] nW
def Cz:Sig vw:=sg [.dat (.sl (.st .layoutT)), .fn 166 [] []] nW [.tmp 4]
noncomputable def dL(v:(List aa)×Int×Int×Unit):Option (((Int×Unit)⊕(Unit))):=if decide (v.2.2.1<v.2.1)=true then if 0<=v.2.2.1 then v.1[v.2.2.1.toNat]?>>=λx1=>Ex (x1,())>>=λx2=>if x2.1=true then some (UR (v.2.2.1,()))else dL (v.1,v.2.1,i64.wrap (v.2.2.1+1),())else none else some (UW ()) partial_fixpoint
noncomputable def lY(v:(List aa)×Unit):Option (Int×Unit):=dL (v.1,(↑v.1.length:Int),(0:Int),())>>=λx1=>match x1 with| .inl y1=>some y1| .inr y1=>some (((-1:Int),()))
def kL:=kP H3 k0
def Aq:Xc vw:=mX prog 19 kL.1 FU [] [] [(2,⟨rG,[.ret, .exit 0],dL⟩)]
theorem qN:dU Aq (ai (af Tryz.f189) 0) ⟨rG,[.ret, .exit 0],dL⟩:=lp0 dL.partial_correctness kL.2
theorem vg:aq prog 189 Cz lY:=fn1 Aq Tryz.func189 kL.2 qN
def FS:ax vw:={rcut:=iW}
def sj:Sig vw:=sg [.dat (.sl (.st .layoutT)), .fn 166 [] []] iW [.tmp 4]
noncomputable def jg(v:(List aa)×Unit):Option (Bool×Unit):=lY (v.1,())>>=λx1=>some ((decide (x1.1>=0),()))
def oQ:=kP vg k0
def I4:Xc vw:=mX prog 9 oQ.1 FS [] [] []
theorem vf:aq prog 165 sj jg:=fn0 I4 Tryz.func165 oQ.2
def Mr:Cut SN:=⟨[(1, .bp 1 0),(3, .dat (.int .i64)),(4, .dat .bool),(9, .dat (.int .i64))],[(1, .st .layoutT)]⟩
def oM:Cut SN:=⟨[(1, .bp 1 0),(4, .dat .bool)],[(1, .st .layoutT)]⟩
def wU:Cut SN:=⟨[(1, .bp 1 0),(3, .dat (.int .i64)),(4, .dat .bool)],[(1, .st .layoutT)]⟩
def Kh:Cut SN:=⟨[(1, .bp 1 0),(63, .dat .bool)],[(1, .st .layoutT)]⟩
def Ki:Cut SN:=⟨[(1, .bp 1 0),(71, .dat .bool)],[(1, .st .layoutT)]⟩
def Qe:ax vw:=shL [(0,wU),(1,wU),(6,oM),(7,oM),(8,uq)] dn
def iK:Sig vw:=sg [.dat (.st .layoutT)] dn [.tmp 2]
def FT:ax vw:={rcut:=iW}
def cA:Sig vw:=sg [.dat (.sl (.st .layoutT)), .fn 167 [] []] iW [.tmp 4]
def Qn:ax vw:={rcut:=dn}
def jv:Sig vw:=sg [.dat (.st .layoutT)] dn [.tmp 2]
def gy:Cut SN:=⟨[(0, .dat (.sl (.st .layoutT))),(1, .fn 167 [] []),(7, .dat (.int .i64)),(8, .dat (.int .i64))],[]⟩
def qe:ax vw:=shL [(0,uq)] nW
def cC:Sig vw:=sg [.dat (.sl (.st .layoutT)), .fn 167 [] []] nW [.tmp 4]
mutual
noncomputable def fX(v:aa×Unit):Option (Bool×Unit):=((((if(v.1.kind==0)=true then some (UW ((0:Int),v.1.n==0,v.1,()))else if(v.1.kind==1)=true then some (UW ((0:Int),v.1.n==0,v.1,()))else if(v.1.kind==3)=true then some (UW ((0:Int),v.1.n==0,v.1,()))else some (UR ((0:Int),v.1.n==0,v.1.kind,v.1,())))>>=λx1=>match x1 with| .inl y1=>if(y1.2.2.1==2)=true then some (UW (UR (y1.1,decide (y1.2.2.2.1.n>=1),y1.2.2.2.1,())))else if(y1.2.2.1==7)=true then some (UW (UR (y1.1,decide (y1.2.2.2.1.n>=1),y1.2.2.2.1,())))else if(y1.2.2.1==5)=true then some (UR (decide (y1.2.2.2.1.n>=0),y1.2.2.2.1,()))else if(y1.2.2.1==4)=true then some (UR (y1.2.1,y1.2.2.2.1,()))else if(y1.2.2.1==8)=true then some (UW (UW (UR (y1.2.1,y1.2.2.2.1,()))))else if(y1.2.2.1==6)=true then some (UW (UW (UW (UR (y1.2.1,y1.2.2.2.1,())))))else if(y1.2.2.1==9)=true then some (UW (UW (UW (UR (y1.2.1,y1.2.2.2.1,())))))else some (UW (UW (UW (UW ()))))| .inr y1=>some (UW (UR (y1.1,y1.2.1,y1.2.2.1,()))))>>=λx1=>match x1 with| .inl y1=>some (UW (UR ((1:Int),y1.1,y1.2.1,())))| .inr (.inl y1)=>some (UW (UR (y1.1,y1.2.1,y1.2.2.1,())))| .inr (.inr (.inl y1))=>(if y1.1=true then some ((decide ((↑y1.2.1.parts.length:Int)>=1),y1.2.1,()))else some ((false,y1.2.1,())))>>=λx2=>some (UR (x2.1,x2.2.1,()))| .inr (.inr (.inr (.inl y1)))=>some (UR (y1.1,y1.2.1,()))| .inr (.inr (.inr (.inr y1)))=>some (UW (UW ())))>>=λx1=>match x1 with| .inl y1=>some (UR ((↑y1.2.1.parts.length:Int),y1.1,y1.2.1,()))| .inr (.inl y1)=>some (UR (y1.1,y1.2.1,y1.2.2.1,()))| .inr (.inr y1)=>some (UW (false,())))>>=λx1=>match x1 with| .inl y1=>(if(!y1.2.1)=true then some ((true,y1.2.2.1,()))else if((↑y1.2.2.1.parts.length:Int) !=y1.1)=true then some ((true,y1.2.2.1,()))else if y1.2.2.1.flag=true then some ((y1.2.2.1.kind !=2,y1.2.2.1,()))else some ((false,y1.2.2.1,())))>>=λx2=>if x2.1=true then some ((false,()))else(if(x2.2.1.kind==9)=true then jg (x2.2.1.parts,())>>=λx3=>some ((x3.1,x2.2.1,()))else some ((false,x2.2.1,())))>>=λx3=>if x3.1=true then some ((false,()))else n_165c167 (x3.2.1.parts,())>>=λx4=>some ((!x4.1,()))| .inr y1=>some y1 partial_fixpoint
noncomputable def n_165c167(v:(List aa)×Unit):Option (Bool×Unit):=n_189c167 (v.1,())>>=λx1=>some ((decide (x1.1>=0),())) partial_fixpoint
noncomputable def n_189c167(v:(List aa)×Unit):Option (Int×Unit):=n_189c167l2 (v.1,(↑v.1.length:Int),(0:Int),())>>=λx1=>match x1 with| .inl y1=>some y1| .inr y1=>some (((-1:Int),())) partial_fixpoint
noncomputable def n_189c167l2(v:(List aa)×Int×Int×Unit):Option (((Int×Unit)⊕(Unit))):=if decide (v.2.2.1<v.2.1)=true then if 0<=v.2.2.1 then v.1[v.2.2.1.toNat]?>>=λx1=>n_167 (x1,())>>=λx2=>if x2.1=true then some (UR (v.2.2.1,()))else n_189c167l2 (v.1,v.2.1,i64.wrap (v.2.2.1+1),())else none else some (UW ()) partial_fixpoint
noncomputable def n_167(v:aa×Unit):Option (Bool×Unit):=fX (v.1,())>>=λx1=>some ((!x1.1,())) partial_fixpoint
end
def Dt(fX:aa×Unit->Option (Bool×Unit))(n_165c167:(List aa)×Unit->Option (Bool×Unit))(n_189c167:(List aa)×Unit->Option (Int×Unit))(n_189c167l2:(List aa)×Int×Int×Unit->Option (((Int×Unit)⊕(Unit))))(n_167:aa×Unit->Option (Bool×Unit)):bz vw:=λA fid args S k=>match fid with|165=>(match args with|[_, .fn 166 _ _]=>aP prog sj jg A args S k|[_, .fn 167 _ _]=>aP prog cA n_165c167 A args S k|_=>none)|_=>none
def L_(fX:aa×Unit->Option (Bool×Unit))(n_165c167:(List aa)×Unit->Option (Bool×Unit))(n_189c167:(List aa)×Unit->Option (Int×Unit))(n_189c167l2:(List aa)×Int×Int×Unit->Option (((Int×Unit)⊕(Unit))))(n_167:aa×Unit->Option (Bool×Unit)):Xc vw:={P:=prog,n:=76,call:=Dt fX n_165c167 n_189c167 n_189c167l2 n_167,pre:=kp,sh:=Qe,joins:=λk=>match k with|6=>some (Mr,[.norm, .exit 1])|16=>some (oM,[.norm, .exit 0, .exit 6, .exit 7, .exit 8])|18=>some (oM,[.norm, .exit 0, .exit 8])|20=>some (wU,[.norm, .ret])|_=>none,regs:=λk=>match k with|17=>some oM|20=>some Kh|22=>some Ki|_=>none}
def oR(fX:aa×Unit->Option (Bool×Unit))(n_165c167:(List aa)×Unit->Option (Bool×Unit))(n_189c167:(List aa)×Unit->Option (Int×Unit))(n_189c167l2:(List aa)×Int×Int×Unit->Option (((Int×Unit)⊕(Unit))))(n_167:aa×Unit->Option (Bool×Unit)):bz vw:=λA fid args S k=>match fid with|189=>aP prog cC n_189c167 A args S k|_=>none
def jX(fX:aa×Unit->Option (Bool×Unit))(n_165c167:(List aa)×Unit->Option (Bool×Unit))(n_189c167:(List aa)×Unit->Option (Int×Unit))(n_189c167l2:(List aa)×Int×Int×Unit->Option (((Int×Unit)⊕(Unit))))(n_167:aa×Unit->Option (Bool×Unit)):Xc vw:={P:=prog,n:=9,call:=oR fX n_165c167 n_189c167 n_189c167l2 n_167,pre:=kp,sh:=FT}
def Dv(fX:aa×Unit->Option (Bool×Unit))(n_165c167:(List aa)×Unit->Option (Bool×Unit))(n_189c167:(List aa)×Unit->Option (Int×Unit))(n_189c167l2:(List aa)×Int×Int×Unit->Option (((Int×Unit)⊕(Unit))))(n_167:aa×Unit->Option (Bool×Unit)):bz vw:=λA fid args S k=>match fid with|128=>aP prog iK fX A args S k|_=>none
def Ma(fX:aa×Unit->Option (Bool×Unit))(n_165c167:(List aa)×Unit->Option (Bool×Unit))(n_189c167:(List aa)×Unit->Option (Int×Unit))(n_189c167l2:(List aa)×Int×Int×Unit->Option (((Int×Unit)⊕(Unit))))(n_167:aa×Unit->Option (Bool×Unit)):Xc vw:={P:=prog,n:=6,call:=Dv fX n_165c167 n_189c167 n_189c167l2 n_167,pre:=kp,sh:=Qn}
def kM(fX:aa×Unit->Option (Bool×Unit))(n_165c167:(List aa)×Unit->Option (Bool×Unit))(n_189c167:(List aa)×Unit->Option (Int×Unit))(n_189c167l2:(List aa)×Int×Int×Unit->Option (((Int×Unit)⊕(Unit))))(n_167:aa×Unit->Option (Bool×Unit)):bz vw:=λA fid args S k=>match fid with|167=>aP prog jv n_167 A args S k|_=>none
def db(fX:aa×Unit->Option (Bool×Unit))(n_165c167:(List aa)×Unit->Option (Bool×Unit))(n_189c167:(List aa)×Unit->Option (Int×Unit))(n_189c167l2:(List aa)×Int×Int×Unit->Option (((Int×Unit)⊕(Unit))))(n_167:aa×Unit->Option (Bool×Unit)):Xc vw:={P:=prog,n:=19,call:=kM fX n_165c167 n_189c167 n_189c167l2 n_167,pre:=kp,sh:=qe,loops:=λk=>match k with|2=>some {cut:=gy,alts:=[.ret, .exit 0],F:=n_189c167l2}|_=>none}
abbrev u9(v:aa×Unit)(r:Bool×Unit):Prop:=(λv r=>∀x,qF prog iK r=some x->gr prog 128 (encL vw (az iK v).len (aX iK v).1) (bt (az iK v).len (az iK v).own) (an vw (bV vw iK.rcut r).len x) (bt (bV vw iK.rcut r).len (jJ iK r))) v r
abbrev gJ(v:(List aa)×Unit)(r:Bool×Unit):Prop:=(λv r=>∀x,qF prog cA r=some x->gr prog 165 (encL vw (az cA v).len (aX cA v).1) (bt (az cA v).len (az cA v).own) (an vw (bV vw cA.rcut r).len x) (bt (bV vw cA.rcut r).len (jJ cA r))) v r
abbrev gK(v:(List aa)×Unit)(r:Int×Unit):Prop:=(λv r=>∀x,qF prog cC r=some x->gr prog 189 (encL vw (az cC v).len (aX cC v).1) (bt (az cC v).len (az cC v).own) (an vw (bV vw cC.rcut r).len x) (bt (bV vw cC.rcut r).len (jJ cC r))) v r
abbrev dk(v:(List aa)×Int×Int×Unit)(r:((Int×Unit)⊕(Unit))):Prop:=(λv out=>∀C:Ctx,C.P=prog->C.N=19/\Fx C kp->ob C (ai (af Tryz.f189) 0) (Go.Tx.aH vw (bV vw gy v)) (tZ qe [.ret, .exit 0] out)) v r
abbrev vd(v:aa×Unit)(r:Bool×Unit):Prop:=(λv r=>∀x,qF prog jv r=some x->gr prog 167 (encL vw (az jv v).len (aX jv v).1) (bt (az jv v).len (az jv v).own) (an vw (bV vw jv.rcut r).len x) (bt (bV vw jv.rcut r).len (jJ jv r))) v r
theorem MQ(f0:(List aa)×Unit->Option (Bool×Unit))(h0:∀v r,f0 v=some r->gJ v r):ay prog (L_ (λ_=>none) f0 (λ_=>none) (λ_=>none) (λ_=>none)).call:=(by
 intro A fid args S dst k r h
 unfold L_ Dt at h
 simp only at h
 split at h
 ·split at h
  ·exact ak (vf) rfl rfl h
  ·exact ak ((λv r x h hx=>h0 v r h x hx)) rfl rfl h
  ·cases h
 ·cases h)
theorem Ob(f0:(List aa)×Unit->Option (Bool×Unit))(h0:∀v r,f0 v=some r->gJ v r)(v:aa×Unit)(r:Bool×Unit)(h:exF (L_ (λ_=>none) f0 (λ_=>none) (λ_=>none) (λ_=>none)) iK rfl (af Tryz.f128) v=some r):u9 v r:=λx hx=>mO (X:=L_ (λ_=>none) f0 (λ_=>none) (λ_=>none) (λ_=>none)) (sig:=iK) rfl Tryz.func128 (c:=af Tryz.f128) (by kernel_rfl) Tryz.ntmps128 (by kernel_rfl) (by kernel_rfl) rfl Ty.mixed (MQ f0 h0) rfl (λC hP hN=>(bm (X:=L_ (λ_=>none) f0 (λ_=>none) (λ_=>none) (λ_=>none)) (c:=(af Tryz.f128)) (bj (by kernel_rfl:True=fZ (bq C (L_ (λ_=>none) f0 (λ_=>none) (λ_=>none) (λ_=>none))) (aJ (af Tryz.f128))) trivial))) h x hx
theorem AX(f0:(List aa)×Unit->Option (Int×Unit))(h0:∀v r,f0 v=some r->gK v r):ay prog (jX (λ_=>none) (λ_=>none) f0 (λ_=>none) (λ_=>none)).call:=(by
 intro A fid args S dst k r h
 unfold jX oR at h
 simp only at h
 split at h
 ·exact ak ((λv r x h hx=>h0 v r h x hx)) rfl rfl h
 ·cases h)
theorem CN(f0:(List aa)×Unit->Option (Int×Unit))(h0:∀v r,f0 v=some r->gK v r)(v:(List aa)×Unit)(r:Bool×Unit)(h:exF (jX (λ_=>none) (λ_=>none) f0 (λ_=>none) (λ_=>none)) cA rfl (af Tryz.f165) v=some r):gJ v r:=λx hx=>mO (X:=jX (λ_=>none) (λ_=>none) f0 (λ_=>none) (λ_=>none)) (sig:=cA) rfl Tryz.func165 (c:=af Tryz.f165) (by kernel_rfl) Tryz.ntmps165 (by kernel_rfl) (by kernel_rfl) rfl Ty.mixed (AX f0 h0) rfl (λC hP hN=>(bm (X:=jX (λ_=>none) (λ_=>none) f0 (λ_=>none) (λ_=>none)) (c:=(af Tryz.f165)) (bj (by kernel_rfl:True=fZ (bq C (jX (λ_=>none) (λ_=>none) f0 (λ_=>none) (λ_=>none))) (aJ (af Tryz.f165))) trivial))) h x hx
theorem AY(f0:(List aa)×Int×Int×Unit->Option (((Int×Unit)⊕(Unit))))(h0:∀v r,f0 v=some r->dk v r):ay prog (db (λ_=>none) (λ_=>none) (λ_=>none) f0 (λ_=>none)).call:=(by
 intro A fid args S dst k r h
 unfold db kM at h
 simp only at h
 split at h
 ·exact ak ((λv r x h hx=>by cases h)) rfl rfl h
 ·cases h)
theorem CO(f0:(List aa)×Int×Int×Unit->Option (((Int×Unit)⊕(Unit))))(h0:∀v r,f0 v=some r->dk v r)(v:(List aa)×Unit)(r:Int×Unit)(h:exF (db (λ_=>none) (λ_=>none) (λ_=>none) f0 (λ_=>none)) cC rfl (af Tryz.f189) v=some r):gK v r:=λx hx=>mO (X:=db (λ_=>none) (λ_=>none) (λ_=>none) f0 (λ_=>none)) (sig:=cC) rfl Tryz.func189 (c:=af Tryz.f189) (by kernel_rfl) Tryz.ntmps189 (by kernel_rfl) (by kernel_rfl) rfl Ty.mixed (AY f0 h0) rfl (λC hP hN=>(bm (X:=db (λ_=>none) (λ_=>none) (λ_=>none) f0 (λ_=>none)) (c:=(af Tryz.f189)) (bj (by kernel_rfl:fZ (bq C (db (λ_=>none) (λ_=>none) (λ_=>none) f0 (λ_=>none))) [(ai (af Tryz.f189) 0)]=fZ (bq C (db (λ_=>none) (λ_=>none) (λ_=>none) f0 (λ_=>none))) (aJ (af Tryz.f189))) ⟨d8 (X:=db (λ_=>none) (λ_=>none) (λ_=>none) f0 (λ_=>none)) (b:=(ai (af Tryz.f189) 0)) (by kernel_rfl) (show dB C (ai (af Tryz.f189) 0) (sh:=qe) {cut:=gy,alts:=[.ret, .exit 0],F:=f0}fromλv out h=>h0 v out h C hP hN),trivial⟩))) h x hx
theorem uG(f0:(List aa)×Int×Int×Unit->Option (((Int×Unit)⊕(Unit))))(f1:aa×Unit->Option (Bool×Unit))(h0:∀v r,f0 v=some r->dk v r)(h1:∀v r,f1 v=some r->vd v r):ay prog (db (λ_=>none) (λ_=>none) (λ_=>none) f0 f1).call:=(by
 intro A fid args S dst k r h
 unfold db kM at h
 simp only at h
 split at h
 ·exact ak ((λv r x h hx=>h1 v r h x hx)) rfl rfl h
 ·cases h)
theorem vW(f0:(List aa)×Int×Int×Unit->Option (((Int×Unit)⊕(Unit))))(f1:aa×Unit->Option (Bool×Unit))(h0:∀v r,f0 v=some r->dk v r)(h1:∀v r,f1 v=some r->vd v r)(v:(List aa)×Int×Int×Unit)(r:((Int×Unit)⊕(Unit)))(h:exL (db (λ_=>none) (λ_=>none) (λ_=>none) f0 f1) (ai (af Tryz.f189) 0) gy [.ret, .exit 0] f0 v=some r):dk v r:=λC hP hN=>dj (X:=db (λ_=>none) (λ_=>none) (λ_=>none) f0 f1) (b:=(ai (af Tryz.f189) 0)) hP hN Ty.mixed (uG f0 f1 h0 h1) (bm (X:=db (λ_=>none) (λ_=>none) (λ_=>none) f0 f1) (c:=(ai (af Tryz.f189) 0)) (bj (by kernel_rfl:True=fZ (bq C (db (λ_=>none) (λ_=>none) (λ_=>none) f0 f1)) (aJ (ai (af Tryz.f189) 0))) trivial)) (cut:=gy) (alts:=[.ret, .exit 0]) (F:=f0) (λv out h=>h0 v out h C hP hN) h
theorem MT(f0:aa×Unit->Option (Bool×Unit))(h0:∀v r,f0 v=some r->u9 v r):ay prog (Ma f0 (λ_=>none) (λ_=>none) (λ_=>none) (λ_=>none)).call:=(by
 intro A fid args S dst k r h
 unfold Ma Dv at h
 simp only at h
 split at h
 ·exact ak ((λv r x h hx=>h0 v r h x hx)) rfl rfl h
 ·cases h)
theorem Oe(f0:aa×Unit->Option (Bool×Unit))(h0:∀v r,f0 v=some r->u9 v r)(v:aa×Unit)(r:Bool×Unit)(h:exF (Ma f0 (λ_=>none) (λ_=>none) (λ_=>none) (λ_=>none)) jv rfl (af Tryz.f167) v=some r):vd v r:=λx hx=>mO (X:=Ma f0 (λ_=>none) (λ_=>none) (λ_=>none) (λ_=>none)) (sig:=jv) rfl Tryz.func167 (c:=af Tryz.f167) (by kernel_rfl) Tryz.ntmps167 (by kernel_rfl) (by kernel_rfl) rfl Ty.mixed (MT f0 h0) rfl (λC hP hN=>(bm (X:=Ma f0 (λ_=>none) (λ_=>none) (λ_=>none) (λ_=>none)) (c:=(af Tryz.f167)) (bj (by kernel_rfl:True=fZ (bq C (Ma f0 (λ_=>none) (λ_=>none) (λ_=>none) (λ_=>none))) (aJ (af Tryz.f167))) trivial))) h x hx
theorem Et:(∀v r,fX v=some r->u9 v r)/\(∀v r,n_165c167 v=some r->gJ v r)/\(∀v r,n_189c167 v=some r->gK v r)/\(∀v r,n_189c167l2 v=some r->dk v r)/\(∀v r,n_167 v=some r->vd v r):=by
 refine fX.mutual_partial_correctness
  (motive_1:=u9)
  (motive_2:=gJ)
  (motive_3:=gK)
  (motive_4:=dk)
  (motive_5:=vd)
  ?_ ?_ ?_ ?_ ?_
 ·exact(λf0 h0 v r h=>Ob f0 h0 v r (bj (by kernel_rfl) h))
 ·exact(λf0 h0 v r h=>CN f0 h0 v r (bj (by kernel_rfl) h))
 ·exact(λf0 h0 v r h=>CO f0 h0 v r (bj (by kernel_rfl) h))
 ·exact(λf0 f1 h0 h1 v r h=>vW f0 f1 h0 h1 v r (bj (by kernel_rfl) h))
 ·exact(λf0 h0 v r h=>Oe f0 h0 v r (bj (by kernel_rfl) h))
theorem HR:aq prog 128 iK fX:=λv r x h hx=>Et.1 v r h x hx
def Pu:Cut SN:=⟨[(1, .bp 1 0),(12, .dat .bool)],[(1, .st .layoutT)]⟩
def Tl:ax vw:={rcut:=bP}
def N_:Sig vw:=sg [.dat (.st .layoutT)] bP [.tmp 2]
noncomputable def E3(v:aa×Unit):Option (Int×Unit):=n_126sf4a5 (v.1,(1:Int),al.mk (0:Int) (0:Int) false,())>>=λx1=>(if x1.1.large=true then some ((true,v.1,()))else n_127 (v.1,())>>=λx2=>some ((decide (x2.1>4096),v.1,())))>>=λx2=>if x2.1=true then some (((3:Int),()))else fX (x2.2.1,())>>=λx3=>if(!x3.1)=true then some (((1:Int),()))else some (((0:Int),()))
def JF:=kO tc (kP HQ (kP HR k0))
def x99:Xc vw:=mX prog 16 JF.1 Tl [] [(3,Pu)] []
theorem E4:aq prog 99 N_ E3:=fn0 x99 Tryz.func99 JF.2
def mF:Cut SN:=⟨[(0, .bp 100000 0),(1, .dat (.sl .str)),(4, .bp 4 0),(10, .dat (.sl .fnc)),(11, .dat (.int .i64)),(12, .dat (.int .i64))],[(100000, .box none [.vh 100001]),(4, .st .itemT),(100001, .vec 44 (.st .itemT))]⟩
def AO:Cut SN:=⟨[(0, .bp 100000 0),(1, .dat (.sl .str)),(4, .bp 4 0),(9, .bp 9 0),(10, .dat (.sl .fnc)),(11, .dat (.int .i64)),(12, .dat (.int .i64)),(34, .dat .bool)],[(100000, .box none [.vh 100001]),(4, .st .itemT),(9, .st .itemT),(100001, .vec 44 (.st .itemT))]⟩
def AP:Cut SN:=⟨[(0, .bp 100000 0),(1, .dat (.sl .str)),(4, .bp 4 0),(9, .bp 9 0),(10, .dat (.sl .fnc)),(11, .dat (.int .i64)),(12, .dat (.int .i64)),(43, .dat .bool)],[(100000, .box none [.vh 100001]),(4, .st .itemT),(9, .st .itemT),(100001, .vec 44 (.st .itemT))]⟩
def AN:Cut SN:=⟨[(0, .bp 100000 0),(4, .bp 4 0)],[(100000, .box none [.vh 100001]),(4, .st .itemT),(100001, .vec 44 (.st .itemT))]⟩
def uv:Cut SN:=⟨[(0, .bp 100000 0),(4, .bp 4 0),(5, .dat .bool)],[(100000, .box none [.vh 100001]),(100001, .vec 44 (.st .itemT)),(4, .st .itemT)]⟩
def F0:ax vw:=shL [(0,AN)] uv
def CG:Sig vw:={params:=[.bp 100000 0, .dat (.sl .str)],objs:=[(100000, .box none [.vh 100001]),(100001, .vec 44 (.st .itemT))],rcut:=uv,rvars:=[.cell 4 44, .tmp 5],keep:=[100000,100001]}
noncomputable def aU(v:(List ByteArray)×(List Nat)×Int×Int×Item×(List Item)×Unit):Option (((Bool×(List Item)×Item×Unit)⊕(Item×(List Item)×Unit))):=if decide (v.2.2.2.1<v.2.2.1)=true then(if 0<=v.2.2.2.1 then v.2.1[v.2.2.2.1.toNat]?>>=λx1=>if x1=(98:Nat)then none else if x1=(99:Nat)then none else if x1=(122:Nat)then fp (v.1,false,v.2.2.2.2.2.1,())>>=λx2=>if x2.2.2.1.length=v.2.2.2.2.2.1.length then(if x2.2.1=true then some ((v.1,v.2.1,v.2.2.1,v.2.2.2.1,true,v.2.2.2.2.1,x2.2.2.2.1,x2.2.2.1,()))else some ((v.1,v.2.1,v.2.2.1,v.2.2.2.1,decide ((↑x2.1.length:Int)>0),v.2.2.2.2.1,x2.2.2.2.1,x2.2.2.1,())))>>=λx3=>if x3.2.2.2.2.1=true then some (UR (x3.1,x3.2.1,x3.2.2.1,x3.2.2.2.1,x3.2.2.2.2.2.1,x3.2.2.2.2.2.2.2.1,()))else(if decide (x3.2.2.2.2.2.2.1.kind<2)=true then some ((x3.1,x3.2.1,x3.2.2.1,x3.2.2.2.1,true,x3.2.2.2.2.2.1,x3.2.2.2.2.2.2.1,x3.2.2.2.2.2.2.2.1,()))else E3 (aa.mk x3.2.2.2.2.2.2.1.layout.kind x3.2.2.2.2.2.2.1.layout.n x3.2.2.2.2.2.2.1.layout.flag x3.2.2.2.2.2.2.1.layout.parts,())>>=λx4=>some ((x3.1,x3.2.1,x3.2.2.1,x3.2.2.2.1,x4.1==0,x3.2.2.2.2.2.1,x3.2.2.2.2.2.2.1,x3.2.2.2.2.2.2.2.1,())))>>=λx4=>if x4.2.2.2.2.1=true then some (UW (true,x4.2.2.2.2.2.2.2.1,x4.2.2.2.2.2.2.1,()))else some (UR (x4.1,x4.2.1,x4.2.2.1,x4.2.2.2.1,x4.2.2.2.2.2.1,x4.2.2.2.2.2.2.2.1,()))else none else if x1=(123:Nat)then fq (v.1,false,v.2.2.2.2.2.1,())>>=λx2=>if x2.2.2.1.length=v.2.2.2.2.2.1.length then(if x2.2.1=true then some ((v.1,v.2.1,v.2.2.1,v.2.2.2.1,true,v.2.2.2.2.1,x2.2.2.2.1,x2.2.2.1,()))else some ((v.1,v.2.1,v.2.2.1,v.2.2.2.1,decide ((↑x2.1.length:Int)>0),v.2.2.2.2.1,x2.2.2.2.1,x2.2.2.1,())))>>=λx3=>if x3.2.2.2.2.1=true then some (UR (x3.1,x3.2.1,x3.2.2.1,x3.2.2.2.1,x3.2.2.2.2.2.1,x3.2.2.2.2.2.2.2.1,()))else(if decide (x3.2.2.2.2.2.2.1.kind<2)=true then some ((x3.1,x3.2.1,x3.2.2.1,x3.2.2.2.1,true,x3.2.2.2.2.2.1,x3.2.2.2.2.2.2.1,x3.2.2.2.2.2.2.2.1,()))else E3 (aa.mk x3.2.2.2.2.2.2.1.layout.kind x3.2.2.2.2.2.2.1.layout.n x3.2.2.2.2.2.2.1.layout.flag x3.2.2.2.2.2.2.1.layout.parts,())>>=λx4=>some ((x3.1,x3.2.1,x3.2.2.1,x3.2.2.2.1,x4.1==0,x3.2.2.2.2.2.1,x3.2.2.2.2.2.2.1,x3.2.2.2.2.2.2.2.1,())))>>=λx4=>if x4.2.2.2.2.1=true then some (UW (true,x4.2.2.2.2.2.2.2.1,x4.2.2.2.2.2.2.1,()))else some (UR (x4.1,x4.2.1,x4.2.2.1,x4.2.2.2.1,x4.2.2.2.2.2.1,x4.2.2.2.2.2.2.2.1,()))else none else if x1=(124:Nat)then ft (v.1,false,v.2.2.2.2.2.1,())>>=λx2=>if x2.2.2.1.length=v.2.2.2.2.2.1.length then(if x2.2.1=true then some ((v.1,v.2.1,v.2.2.1,v.2.2.2.1,true,v.2.2.2.2.1,x2.2.2.2.1,x2.2.2.1,()))else some ((v.1,v.2.1,v.2.2.1,v.2.2.2.1,decide ((↑x2.1.length:Int)>0),v.2.2.2.2.1,x2.2.2.2.1,x2.2.2.1,())))>>=λx3=>if x3.2.2.2.2.1=true then some (UR (x3.1,x3.2.1,x3.2.2.1,x3.2.2.2.1,x3.2.2.2.2.2.1,x3.2.2.2.2.2.2.2.1,()))else(if decide (x3.2.2.2.2.2.2.1.kind<2)=true then some ((x3.1,x3.2.1,x3.2.2.1,x3.2.2.2.1,true,x3.2.2.2.2.2.1,x3.2.2.2.2.2.2.1,x3.2.2.2.2.2.2.2.1,()))else E3 (aa.mk x3.2.2.2.2.2.2.1.layout.kind x3.2.2.2.2.2.2.1.layout.n x3.2.2.2.2.2.2.1.layout.flag x3.2.2.2.2.2.2.1.layout.parts,())>>=λx4=>some ((x3.1,x3.2.1,x3.2.2.1,x3.2.2.2.1,x4.1==0,x3.2.2.2.2.2.1,x3.2.2.2.2.2.2.1,x3.2.2.2.2.2.2.2.1,())))>>=λx4=>if x4.2.2.2.2.1=true then some (UW (true,x4.2.2.2.2.2.2.2.1,x4.2.2.2.2.2.2.1,()))else some (UR (x4.1,x4.2.1,x4.2.2.1,x4.2.2.2.1,x4.2.2.2.2.2.1,x4.2.2.2.2.2.2.2.1,()))else none else if x1=(125:Nat)then dS (v.1,false,v.2.2.2.2.2.1,())>>=λx2=>if x2.2.2.1.length=v.2.2.2.2.2.1.length then(if x2.2.1=true then some ((v.1,v.2.1,v.2.2.1,v.2.2.2.1,true,v.2.2.2.2.1,x2.2.2.2.1,x2.2.2.1,()))else some ((v.1,v.2.1,v.2.2.1,v.2.2.2.1,decide ((↑x2.1.length:Int)>0),v.2.2.2.2.1,x2.2.2.2.1,x2.2.2.1,())))>>=λx3=>if x3.2.2.2.2.1=true then some (UR (x3.1,x3.2.1,x3.2.2.1,x3.2.2.2.1,x3.2.2.2.2.2.1,x3.2.2.2.2.2.2.2.1,()))else(if decide (x3.2.2.2.2.2.2.1.kind<2)=true then some ((x3.1,x3.2.1,x3.2.2.1,x3.2.2.2.1,true,x3.2.2.2.2.2.1,x3.2.2.2.2.2.2.1,x3.2.2.2.2.2.2.2.1,()))else E3 (aa.mk x3.2.2.2.2.2.2.1.layout.kind x3.2.2.2.2.2.2.1.layout.n x3.2.2.2.2.2.2.1.layout.flag x3.2.2.2.2.2.2.1.layout.parts,())>>=λx4=>some ((x3.1,x3.2.1,x3.2.2.1,x3.2.2.2.1,x4.1==0,x3.2.2.2.2.2.1,x3.2.2.2.2.2.2.1,x3.2.2.2.2.2.2.2.1,())))>>=λx4=>if x4.2.2.2.2.1=true then some (UW (true,x4.2.2.2.2.2.2.2.1,x4.2.2.2.2.2.2.1,()))else some (UR (x4.1,x4.2.1,x4.2.2.1,x4.2.2.2.1,x4.2.2.2.2.2.1,x4.2.2.2.2.2.2.2.1,()))else none else none else none)>>=λx1=>match x1 with| .inl y1=>aU (y1.1,y1.2.1,y1.2.2.1,i64.wrap (y1.2.2.2.1+1),y1.2.2.2.2.1,y1.2.2.2.2.2.1,())| .inr y1=>some (UR y1)else some (UW (v.2.2.2.2.1,v.2.2.2.2.2.1,())) partial_fixpoint
noncomputable def mj(v:(List ByteArray)×(List Item)×Unit):Option (Bool×(List Item)×Item×Unit):=OO ()>>=λx1=>aU (v.1,x1.1,(↑x1.1.length:Int),(0:Int),Item.mk 0 (T3 #[]) (0:Int) [] (aa.mk 0 0 false []),v.2.1,())>>=λx2=>match x2 with| .inl y2=>some y2| .inr y2=>some ((false,y2.2.1,Item.mk 0 (T3 #[]) (0:Int) [] (aa.mk 0 0 false []),()))
def kN:bz vw:=λA fid args S k=>if fid=98 then aP prog N9 OO A args S k else if fid=99 then aP prog N_ E3 A args S k else if fid=122 then eP prog qf fp A args S k else if fid=123 then eP prog qg fq A args S k else if fid=124 then eP prog qh ft A args S k else if fid=125 then eP prog qi dS A args S k else none
def Au:Xc vw:=mX prog 47 kN F0 [(9,mF,[.norm, .ret])] [(6,AO),(7,AP)] [(2,⟨mF,[.ret, .exit 0],aU⟩)]
theorem kd:ay prog kN:=λA fid args S dst k r h=>by
 unfold kN at h
 split at h
 ·rename_i e;subst e;exact ak (Lg) rfl rfl h
 ·
  split at h
  ·rename_i e;subst e;exact ak (E4) rfl rfl h
  ·
   split at h
   ·rename_i e;subst e;exact dq (s7) h
   ·
    split at h
    ·rename_i e;subst e;exact dq (s8) h
    ·
     split at h
     ·rename_i e;subst e;exact dq (s9) h
     ·
      split at h
      ·rename_i e;subst e;exact dq (s_) h
      ·
       cases h
theorem qR:dU Au (ai (af Tryz.f68) 0) ⟨mF,[.ret, .exit 0],aU⟩:=lp0 aU.partial_correctness kd
theorem vn:aq prog 68 CG mj:=fn1 Au Tryz.func68 kd qR
def Kl:Cut SN:=⟨[(2, .bp 2 0),(3, .vh 1003),(4, .bp 4 0),(12, .dat (.sl (.sl .str))),(13, .dat (.int .i64)),(14, .dat (.int .i64))],[(2, .box none [.dat (.sl (.st .itemT))]),(1003, .vec 3 (.int .i64)),(4, .box none [.bp 10 0]),(10, .box none [.vh 3100]),(3100, .vec 44 (.st .itemT))]⟩
def Pc:Cut SN:=⟨[(0, .dat (.sl (.sl .str))),(2, .bp 2 0),(3, .vh 1003),(4, .bp 4 0)],[(2, .box none [.dat (.sl (.st .itemT))]),(1003, .vec 3 (.int .i64)),(4, .box none [.bp 10 0]),(10, .box none [.vh 3100]),(3100, .vec 44 (.st .itemT))]⟩
def Pb:Cut SN:=⟨[(2, .bp 2 0),(3, .vh 1003),(4, .bp 4 0)],[(2, .box none [.dat (.sl (.st .itemT))]),(1003, .vec 3 (.int .i64)),(4, .box none [.bp 10 0]),(10, .box none [.vh 3100]),(3100, .vec 44 (.st .itemT))]⟩
def RA:Cut SN:=⟨[(2, .bp 2 0),(3, .dat (.sl (.int .i64)))],[(2, .box none [.dat (.sl (.st .itemT))])]⟩
def SQ:ax vw:=shL [(0,Pb)] RA
def P3:Nat->Bool:=λk=>match k with|4000002=>true|4000004=>true|_=>false
noncomputable def RZ:Nat->Bool:=λ_=>false
def N5:Sig vw:=sg [.dat (.sl (.sl .str))] RA [.cell 2 23, .tmp 3]
noncomputable def mb(v:(List (List ByteArray))×Int×Int×(List Item)×(List Int)×(List Item)×Unit):Option (((List Item)×(List Int)×(List Item)×Unit)):=if decide (v.2.2.1<v.2.1)=true then(if 0<=v.2.2.1 then v.1[v.2.2.1.toNat]?>>=λx1=>mj (x1,v.2.2.2.2.2.1,())>>=λx2=>if x2.2.1.length=v.2.2.2.2.2.1.length then if(!x2.1)=true then if v.2.2.2.2.1.length+[v.2.2.1].length<=4294967296 then some ((v.1,v.2.1,v.2.2.1,v.2.2.2.1,v.2.2.2.2.1++[v.2.2.1],x2.2.1,()))else none else if x2.2.1.length+[x2.2.2.1].length<=4294967296 then some ((v.1,v.2.1,v.2.2.1,v.2.2.2.1,v.2.2.2.2.1,x2.2.1++[x2.2.2.1],()))else none else none else none)>>=λx1=>mb (x1.1,x1.2.1,i64.wrap (x1.2.2.1+1),x1.2.2.2.1,x1.2.2.2.2.1,x1.2.2.2.2.2.1,())else some ((v.2.2.2.1,v.2.2.2.2.1,v.2.2.2.2.2.1,())) partial_fixpoint
noncomputable def Nu(v:(List (List ByteArray))×Unit):Option ((List Int)×(List Item)×Unit):=some (v.1,[],[],[],())>>=λx1=>mb (x1.1,(↑x1.1.length:Int),(0:Int),x1.2.1,x1.2.2.1,x1.2.2.2.1,())>>=λx2=>mi ([],x2.2.2.1,())>>=λx3=>if x3.1.length=x2.2.2.1.length then some ((x2.2.1,x3.1,()))else none
def DA:=kO vm (kO vn k0)
def x35:Xc vw:={P:=prog,n:=43,nm:=λd=>match d with|9=>40009|_=>d,call:=DA.1,pre:=P3,sh:=SQ,joins:=λk=>match k with|10=>some (Kl,[.norm])|_=>none,regs:=λk=>match k with|1=>some Pc|_=>none,loops:=λk=>match k with|4=>some {cut:=Kl,alts:=[.exit 0],F:=mb}|_=>none}
theorem EG:dU x35 (ai (vT (iR (iR (iR (af Tryz.f35))))) 0) ⟨Kl,[.exit 0],mb⟩:=lp0 mb.partial_correctness DA.2
noncomputable def OZ:Xc vw:={x35 with pre:=RZ}
theorem EF:aq prog 35 N5 Nu:=λv r x h hx=>
 Hu (X:=x35) (sig:=N5) (x0:=(vT (af Tryz.f35))) (x1:=(vT (iR (af Tryz.f35)))) (B:=(vT (iR (iR (iR (af Tryz.f35)))))) (z:=(vT (iR (iR (iR (iR (af Tryz.f35))))))) (id:=2) (o1:=NI 0 (vT (iR (iR (af Tryz.f35))))) (o2:=NI 1 (vT (iR (iR (af Tryz.f35))))) (td:=11) (caps:=[4,2]) (ct:={callee:= .value (.tmp 11),args:= #[],argTypes:= #[]}) (pa:=RZ) rfl Tryz.func35 (by kernel_rfl) Tryz.ntmps35 (by kernel_rfl) (by kernel_rfl) rfl Ty.mixed DA.2 rfl (by kernel_rfl) (by kernel_rfl) (by kernel_rfl) (by kernel_rfl) rfl rfl (by kernel_rfl) (by kernel_rfl) (by kernel_rfl) (by kernel_rfl) (λC hP hN=>⟨(bm (X:=x35) (c:=(vT (iR (iR (iR (af Tryz.f35)))))) (bj (by kernel_rfl:fZ (bq C (x35)) [(ai (vT (iR (iR (iR (af Tryz.f35))))) 0)]=fZ (bq C (x35)) (aJ (vT (iR (iR (iR (af Tryz.f35))))))) ⟨d8 (X:=x35) (b:=(ai (vT (iR (iR (iR (af Tryz.f35))))) 0)) (by kernel_rfl) (EG C hP hN),trivial⟩)),(bm (X:=x35) (c:=(vT (iR (iR (iR (iR (af Tryz.f35))))))) (bj (by kernel_rfl:True=fZ (bq C (x35)) (aJ (vT (iR (iR (iR (iR (af Tryz.f35)))))))) trivial))⟩) (λC=>⟨(bm (X:=OZ) (c:=(vT (af Tryz.f35))) (bj (by kernel_rfl:True=fZ (bq C (OZ)) (aJ (vT (af Tryz.f35)))) trivial)),(bm (X:=OZ) (c:=(vT (iR (af Tryz.f35)))) (bj (by kernel_rfl:True=fZ (bq C (OZ)) (aJ (vT (iR (af Tryz.f35))))) trivial))⟩) tt (bj (by kernel_rfl) h) x hx
def Sg:Cut SN:=⟨[(4, .dat .str)],[]⟩
def QS:Sig vw:=sg [.dat (.sl .str), .dat .str] Sg [.tmp 4]
noncomputable def OJ(v:(List ByteArray)×ByteArray×Unit):Option (ByteArray×Unit):=if v.1.length<=140737488355328/\(Lib.join (v.1.map (·.data.toList)) v.2.1.data.toList).length<=140737488355328 then some (⟨(Lib.join (v.1.map (·.data.toList)) v.2.1.data.toList).toArray⟩,())else none
theorem K7:aq prog 69 QS OJ:=λv r x h hx=>by
 obtain⟨xs,c,u⟩:=v
 unfold OJ at h
 split at h
 ·rename_i hc
  obtain⟨h0,h1⟩:=hc
  simp only at h0 h1
  cases h;cases hx
  exact bj (by kernel_rfl) (gr.pure (P:=prog) (f:=69) (args:=[.d (.sl 1 (xs.map λy=>[D.v (.string y)])), .d (.v (.string c))]) (r:= .d (.v (.string ⟨(Lib.join (xs.map (·.data.toList)) c.data.toList).toArray⟩))) (by kernel_rfl) λE M w vs hg hm hv=>by
   obtain⟨v1,v2,rfl,h2,h3⟩:=pg hv
   rw[h3.dv]
   rcases IG h2 with⟨rfl,a,k,rfl⟩|⟨b,o,k,h4,rfl,h5,h6⟩
   ·exact(Tryz.strings_Join_none a k c w).mono λe w' ⟨he,hw⟩=>⟨_,he, .d (.v _),hw▸Go.RowKit.Below.refl _ _⟩
   ·have h7:∀(j:Nat) x,xs[j]?=some x->w.cell? ⟨b,o+j,none⟩=some (.string x):=λj x hj=>hm _ _ _ (h6 j x hj)
    have h8:b<w.heap.size:=by
     obtain⟨x,hx⟩:∃x,xs[0]?=some x:=by
      match xs,h4 with
      |x::r,_=>exact⟨x,rfl⟩
     exact World.block_lt_of_cell? w (a:=⟨b,o+0,none⟩) (h7 0 x hx)
    exact(Tryz.strings_Join b o k xs c w h7 h8 h0 h5 h1).mono λe w' ⟨he,hw⟩=>⟨_,he, .d (.v _),hw⟩)
 ·cases h
def Km:Cut SN:=⟨[(2, .dat .str)],[]⟩
def SR:ax vw:={rcut:=Km}
def QG:Sig vw:=sg [.dat (.sl .str)] Km [.tmp 2]
noncomputable def LZ(v:(List ByteArray)×Unit):Option (ByteArray×Unit):=OJ (v.1,T3 #[32],())>>=λx1=>some ((x1.1,()))
def Jx:=kP K7 k0
def x36:Xc vw:=mX prog 5 Jx.1 SR [] [] []
theorem yh:aq prog 36 QG LZ:=fn0 x36 Tryz.func36 Jx.2
def Mq:Cut SN:=⟨[(5, .dat (.sl (.sl .str))),(6, .dat (.sl (.st .itemT))),(8, .vh 1008),(21, .dat (.sl (.int .i64))),(22, .dat (.int .i64)),(23, .dat (.int .i64))],[(1008, .vec 9 .str)]⟩
def O3:Cut SN:=⟨[(6, .dat (.sl (.st .itemT))),(8, .vh 1008)],[(1008, .vec 9 .str)]⟩
def Rx:Cut SN:=⟨[(2, .dat (.sl (.st .itemT))),(3, .dat (.sl .str)),(4, .dat (.int .i64))],[]⟩
def SF:ax vw:=shL [(0,O3)] Rx
def Qw:Sig vw:=sg [.dat .str] Rx [.tmp 2, .tmp 3, .tmp 4]
noncomputable def lR(v:(List (List ByteArray))×(List Item)×(List Int)×Int×Int×(List ByteArray)×Unit):Option (((List Item)×(List ByteArray)×Unit)):=if decide (v.2.2.2.2.1<v.2.2.2.1)=true then if 0<=v.2.2.2.2.1 then v.2.2.1[v.2.2.2.2.1.toNat]?>>=λx1=>if 0<=x1 then v.1[x1.toNat]?>>=λx2=>LZ (x2,())>>=λx3=>if v.2.2.2.2.2.1.length+[x3.1].length<=4294967296 then lR (v.1,v.2.1,v.2.2.1,v.2.2.2.1,i64.wrap (v.2.2.2.2.1+1),v.2.2.2.2.2.1++[x3.1],())else none else none else none else some ((v.2.1,v.2.2.2.2.2.1,())) partial_fixpoint
noncomputable def KO(v:ByteArray×Unit):Option ((List Item)×(List ByteArray)×Int×Unit):=if decide ((↑v.1.size:Int)>4096)=true then some (([],[],(3:Int),()))else LY (v.1,())>>=λx1=>Nu (x1.1,())>>=λx2=>lR (x1.1,x2.2.1,x2.1,(↑x2.1.length:Int),(0:Int),[],())>>=λx3=>some ((x3.1,x3.2.1,(0:Int),()))
def Ds:=kP yg (kP EF (kP yh k0))
def x11:Xc vw:=mX prog 38 Ds.1 SF [] [] [(7,⟨Mq,[.exit 0],lR⟩)]
theorem Es:dU x11 (ai (af Tryz.f11) 0) ⟨Mq,[.exit 0],lR⟩:=lp0 lR.partial_correctness Ds.2
theorem Er:aq prog 11 Qw KO:=fn1 x11 Tryz.func11 Ds.2 Es
def rL:Cut SN:=⟨[(0, .dat (.sl (.st .itemT))),(1, .fn 84 [] [100000,100001]),(7, .dat (.int .i64)),(8, .dat (.int .i64))],[(100000, .box none [.dat (.int .i64)]),(100001, .box none [.dat .str])]⟩
def AR:Cut SN:=⟨[(1, .fn 84 [] [100000,100001])],[(100000, .box none [.dat (.int .i64)]),(100001, .box none [.dat .str])]⟩
def uy:Cut SN:=⟨[(1, .fn 84 [] [100000,100001]),(4, .dat (.int .i64))],[(100000, .box none [.dat (.int .i64)]),(100001, .box none [.dat .str])]⟩
def F2:ax vw:=shL [(0,AR)] uy
def CH:Sig vw:={params:=[.dat (.sl (.st .itemT)), .fn 84 [] [100000,100001]],objs:=[(100000, .box none [.dat (.int .i64)]),(100001, .box none [.dat .str])],rcut:=uy,rvars:=[.tmp 4],keep:=[100000,100001]}
noncomputable def cN(v:(List Item)×Int×Int×Int×ByteArray×Unit):Option (((Int×Int×ByteArray×Unit)⊕(Int×ByteArray×Unit))):=if decide (v.2.2.1<v.2.1)=true then if 0<=v.2.2.1 then v.1[v.2.2.1.toNat]?>>=λx1=>jn (x1,v.2.2.2.1,v.2.2.2.2.1,())>>=λx2=>if x2.1=true then some (UR (v.2.2.1,x2.2.1,x2.2.2.1,()))else cN (v.1,v.2.1,i64.wrap (v.2.2.1+1),x2.2.1,x2.2.2.1,())else none else some (UW (v.2.2.2.1,v.2.2.2.2.1,())) partial_fixpoint
noncomputable def ml(v:(List Item)×Int×ByteArray×Unit):Option (Int×Int×ByteArray×Unit):=cN (v.1,(↑v.1.length:Int),(0:Int),v.2.1,v.2.2.1,())>>=λx1=>match x1 with| .inl y1=>some y1| .inr y1=>some (((-1:Int),y1.1,y1.2.1,()))
def kR:=kO nJ k0
def Aw:Xc vw:=mX prog 19 kR.1 F2 [] [] [(2,⟨rL,[.ret, .exit 0],cN⟩)]
theorem qT:dU Aw (ai (af Tryz.f83) 0) ⟨rL,[.ret, .exit 0],cN⟩:=lp0 cN.partial_correctness kR.2
theorem vp:aq prog 83 CH ml:=fn1 Aw Tryz.func83 kR.2 qT
def RE:Cut SN:=⟨[(6, .bp 6 0),(7, .dat .bool)],[(6, .st .itemT)]⟩
def SX:ax vw:={rcut:=RE}
def QM:Sig vw:=sg [.dat (.sl (.st .itemT)), .dat (.int .i64), .dat .str] RE [.cell 6 44, .tmp 7]
noncomputable def Nw(v:(List Item)×Int×ByteArray×Unit):Option (Bool×Item×Unit):=ml (v.1,v.2.1,v.2.2.1,())>>=λx1=>if decide (x1.1<0)=true then some ((false,Item.mk 0 (T3 #[]) (0:Int) [] (aa.mk 0 0 false []),()))else if 0<=x1.1 then v.1[x1.1.toNat]?>>=λx2=>some ((true,x2,()))else none
def JA:=kO vp k0
def x47:Xc vw:=mX prog 19 JA.1 SX [] [] []
theorem K1:aq prog 47 QM Nw:=fn0 x47 Tryz.func47 JA.2
def Pl:Cut SN:=⟨[(15, .dat .bool)],[]⟩
def S_:ax vw:={rcut:=bP}
def QT:Sig vw:=sg [.dat (.st .targetT)] bP [.tmp 2]
noncomputable def K8(v:aF×Unit):Option (Int×Unit):=(if(v.1.word !=2)=true then if(v.1.word !=4)=true then some ((v.1.word !=8,()))else some ((false,()))else some ((false,())))>>=λx1=>if x1.1=true then some (((1:Int),()))else some (((0:Int),()))
def x71:Xc vw:=mX prog 16 c0 S_ [] [(1,Pl)] []
theorem EV:aq prog 71 QT K8:=fn0 x71 Tryz.func71 bI
def RC:Cut SN:=⟨[(6, .bp 6 0),(7, .dat (.int .i64))],[(6, .st .itemT)]⟩
def SU:ax vw:={rcut:=RC}
def QJ:Sig vw:=sg [.dat .str, .dat .str, .dat (.st .targetT)] RC [.cell 6 44, .tmp 7]
noncomputable def OD(v:ByteArray×ByteArray×aF×Unit):Option (Int×Item×Unit):=KO (v.1,())>>=λx1=>if(x1.2.2.1 !=0)=true then some ((x1.2.2.1,Item.mk 0 (T3 #[]) (0:Int) [] (aa.mk 0 0 false []),()))else K8 (v.2.2.1,())>>=λx2=>if(x2.1 !=0)=true then some (((1:Int),Item.mk 0 (T3 #[]) (0:Int) [] (aa.mk 0 0 false []),()))else Nw (x1.1,(2:Int),v.2.1,())>>=λx3=>if(!x3.1)=true then some (((4:Int),Item.mk 0 (T3 #[]) (0:Int) [] (aa.mk 0 0 false []),()))else some (((0:Int),x3.2.1,()))
def Jy:=kP Er (kP K1 (kP EV k0))
def x40:Xc vw:=mX prog 37 Jy.1 SU [] [] []
theorem KZ:aq prog 40 QJ OD:=fn0 x40 Tryz.func40 Jy.2
def Ta:ax vw:={rcut:=nW}
def QU:Sig vw:=sg [.dat (.st .layoutT), .dat (.st .targetT)] nW [.tmp 4]
noncomputable def OK(v:aa×aF×Unit):Option (Int×Unit):=E3 (v.1,())>>=λx1=>if(x1.1 !=0)=true then some ((x1.1,()))else K8 (v.2.1,())>>=λx2=>some ((x2.1,()))
def JD:=kP EV (kP E4 k0)
def x72:Xc vw:=mX prog 13 JD.1 Ta [] [] []
theorem K9:aq prog 72 QU OK:=fn0 x72 Tryz.func72 JD.2
def P9:ax vw:={rcut:=nW}
def F7:Sig vw:=sg [.dat (.int .i64), .dat (.int .i64)] nW [.tmp 4]
noncomputable def mT(v:Int×Int×Unit):Option (Int×Unit):=if v.2.1=0 then none else some ((i64.wrap (i64.wrap ((i64.wrap (i64.wrap (v.1+v.2.1) -1)).tdiv v.2.1) *v.2.1),()))
def TK:Xc vw:=mX prog 13 c0 P9 [] [] []
theorem ol:aq prog 110 F7 mT:=fn0 TK Tryz.func110 bI
def Jk:Cut SN:=⟨[(0, .dat (.int .i64)),(3, .dat (.int .i64))],[]⟩
def Qa:ax vw:=shL [(0,ro)] bP
def JR:Sig vw:=sg [.dat (.int .i64)] bP [.tmp 2]
noncomputable def ij(v:Int×Int×Unit):Option ((Int×Unit)):=if decide (i64.wrap ((8:Int) *v.2.1)<v.1)=true then ij (v.1,i64.wrap (v.2.1 *2),())else some ((v.2.1,())) partial_fixpoint
noncomputable def s6(v:Int×Unit):Option (Int×Unit):=if(v.1==0)=true then some (((0:Int),()))else ij (v.1,(1:Int),())>>=λx1=>some ((x1.1,()))
def R5:Xc vw:=mX prog 13 c0 Qa [] [] [(4,⟨Jk,[.exit 0],ij⟩)]
theorem Bt:dU R5 (ai (af Tryz.f112) 0) ⟨Jk,[.exit 0],ij⟩:=lp0 ij.partial_correctness bI
theorem zJ:aq prog 112 JR s6:=fn1 R5 Tryz.func112 bI Bt
def Jl:Cut SN:=⟨[(3, .dat (.int .i64)),(7, .dat (.sl (.st .layoutT))),(8, .dat (.int .i64)),(9, .dat (.int .i64))],[]⟩
def Qb:ax vw:=shL [(0,ro)] bP
def JS:Sig vw:=sg [.dat (.st .layoutT)] bP [.tmp 2]
noncomputable def pC(v:Int×(List aa)×Int×Int×Unit):Option ((Int×Unit)):=if decide (v.2.2.2.1<v.2.2.1)=true then if 0<=v.2.2.2.1 then v.2.1[v.2.2.2.1.toNat]?>>=λx1=>Bz (x1,())>>=λx2=>pC (i64.wrap (v.1+x2.1),v.2.1,v.2.2.1,i64.wrap (v.2.2.2.1+1),())else none else some ((v.1,())) partial_fixpoint
noncomputable def KP(v:aa×Unit):Option (Int×Unit):=pC ((0:Int),v.1.parts,(↑v.1.parts.length:Int),(0:Int),())>>=λx1=>some ((x1.1,()))
def xm:=kP om k0
def R6:Xc vw:=mX prog 19 xm.1 Qb [] [] [(3,⟨Jl,[.exit 0],pC⟩)]
theorem Bu:dU R6 (ai (af Tryz.f113) 0) ⟨Jl,[.exit 0],pC⟩:=lp0 pC.partial_correctness xm.2
theorem zK:aq prog 113 JS KP:=fn1 R6 Tryz.func113 xm.2 Bu
def Dq:Cut SN:=⟨[(3, .bp 3 0),(5, .bp 5 0),(6, .vh 1006),(7, .dat (.int .i64)),(8, .dat (.int .i64)),(14, .dat (.sl (.st .layoutT))),(15, .dat (.int .i64)),(16, .dat (.int .i64))],[(3, .st .targetT),(5, .st .roomT),(1006, .vec 3 (.int .i64))]⟩
def Pm:Cut SN:=⟨[(5, .bp 5 0),(6, .vh 1006),(7, .dat (.int .i64)),(8, .dat (.int .i64))],[(5, .st .roomT),(1006, .vec 3 (.int .i64))]⟩
def RJ:Cut SN:=⟨[(4, .dat (.sl (.int .i64))),(5, .bp 5 0)],[(5, .st .roomT)]⟩
def Qt:ax vw:=shL [(0,Pm)] RJ
def n9:Sig vw:=sg [.dat (.st .layoutT), .dat (.st .targetT)] RJ [.tmp 4, .cell 5 107]
def ux:Cut SN:=⟨[(3, .bp 3 0),(4, .bp 4 0),(10, .bp 10 0),(98, .dat (.sl (.st .layoutT))),(99, .dat (.int .i64)),(100, .dat (.int .i64))],[(3, .st .targetT),(4, .st .roomT),(10, .st .roomT)]⟩
def MN:Cut SN:=⟨[(3, .bp 3 0),(4, .bp 4 0),(9, .dat (.int .i64))],[(3, .st .targetT),(4, .st .roomT)]⟩
def Pn:Cut SN:=⟨[(4, .bp 4 0),(10, .bp 10 0)],[(4, .st .roomT),(10, .st .roomT)]⟩
def RK:Cut SN:=⟨[(4, .bp 4 0)],[(4, .st .roomT)]⟩
def Qu:ax vw:=shL [(1,Pn)] RK
def m_:Sig vw:=sg [.dat (.st .layoutT), .dat (.st .targetT)] RK [.cell 4 107]
mutual
noncomputable def ej(v:Int×Int×(List aa)×Int×Int×aF×a_×(List Int)×Unit):Option ((Int×Int×a_×(List Int)×Unit)):=if decide (v.2.2.2.2.1<v.2.2.2.1)=true then if 0<=v.2.2.2.2.1 then v.2.2.1[v.2.2.2.2.1.toNat]?>>=λx1=>n_80 (x1,v.2.2.2.2.2.1,())>>=λx2=>mT (v.1,x2.1.align,())>>=λx3=>if v.2.2.2.2.2.2.2.1.length+[x3.1].length<=4294967296 then lp ([x3.1,x2.1.size],())>>=λx4=>ej (x4.1,max v.2.1 x2.1.align,v.2.2.1,v.2.2.2.1,i64.wrap (v.2.2.2.2.1+1),v.2.2.2.2.2.1,v.2.2.2.2.2.2.1,v.2.2.2.2.2.2.2.1++[x3.1],())else none else none else some ((v.1,v.2.1,v.2.2.2.2.2.2.1,v.2.2.2.2.2.2.2.1,())) partial_fixpoint
noncomputable def n_80(v:aa×aF×Unit):Option (a_×Unit):=if(v.1.kind==1)=true then some ((a_.mk (1:Int) (1:Int),()))else if(v.1.kind==2)=true then s6 (v.1.n,())>>=λx1=>s6 (v.1.n,())>>=λx2=>some ((a_.mk x1.1 (min x2.1 v.2.1.word),()))else if(v.1.kind==3)=true then some ((a_.mk v.2.1.word v.2.1.word,()))else if(v.1.kind==4)=true then v.1.parts[U6 0]?>>=λx1=>n_80 (x1,v.2.1,())>>=λx2=>lp ([x2.1.size,(1:Int)],())>>=λx3=>mT (x3.1,x2.1.align,())>>=λx4=>some ((a_.mk x4.1 x2.1.align,()))else if(v.1.kind==5)=true then v.1.parts[U6 0]?>>=λx1=>n_80 (x1,v.2.1,())>>=λx2=>some ((a_.mk (min (1099511627776:Int) (i64.wrap (v.1.n *x2.1.size))) x2.1.align,()))else if(v.1.kind==6)=true then n_79 (v.1,v.2.1,())>>=λx1=>some ((x1.2.1,()))else if(v.1.kind==7)=true then(if decide (v.1.n>256)=true then some (((2:Int),v.2.1,a_.mk (0:Int) (0:Int),()))else some (((1:Int),v.2.1,a_.mk (0:Int) (0:Int),())))>>=λx1=>some ((a_.mk x1.1 (min x1.1 x1.2.1.word),()))else if(v.1.kind==8)=true then n_80l25 (v.1.parts,(↑v.1.parts.length:Int),(0:Int),v.2.1,a_.mk (0:Int) (0:Int),a_.mk (0:Int) (1:Int),())>>=λx1=>lp ([x1.2.1.size,(1:Int)],())>>=λx2=>mT (x2.1,x1.2.1.align,())>>=λx3=>some ((a_.mk x3.1 x1.2.1.align,()))else if(v.1.kind==9)=true then KP (v.1,())>>=λx1=>s6 (x1.1,())>>=λx2=>some ((a_.mk x2.1 (max (1:Int) (min x2.1 v.2.1.word)),()))else some ((a_.mk (0:Int) (1:Int),())) partial_fixpoint
noncomputable def n_80l25(v:(List aa)×Int×Int×aF×a_×a_×Unit):Option ((a_×a_×Unit)):=if decide (v.2.2.1<v.2.1)=true then if 0<=v.2.2.1 then v.1[v.2.2.1.toNat]?>>=λx1=>n_80 (x1,v.2.2.2.1,())>>=λx2=>n_80l25 (v.1,v.2.1,i64.wrap (v.2.2.1+1),v.2.2.2.1,v.2.2.2.2.1,a_.mk (max v.2.2.2.2.2.1.size x2.1.size) (max v.2.2.2.2.2.1.align x2.1.align),())else none else some ((v.2.2.2.2.1,v.2.2.2.2.2.1,())) partial_fixpoint
noncomputable def n_79(v:aa×aF×Unit):Option ((List Int)×a_×Unit):=ej ((0:Int),(1:Int),v.1.parts,(↑v.1.parts.length:Int),(0:Int),v.2.1,a_.mk (0:Int) (0:Int),[],())>>=λx1=>mT (x1.1,x1.2.1,())>>=λx2=>some ((x1.2.2.2.1,a_.mk x2.1 x1.2.1,())) partial_fixpoint
end
def DF(ej:Int×Int×(List aa)×Int×Int×aF×a_×(List Int)×Unit->Option ((Int×Int×a_×(List Int)×Unit)))(n_80:aa×aF×Unit->Option (a_×Unit))(n_80l25:(List aa)×Int×Int×aF×a_×a_×Unit->Option ((a_×a_×Unit)))(n_79:aa×aF×Unit->Option ((List Int)×a_×Unit)):bz vw:=λA fid args S k=>match fid with|80=>aP prog m_ n_80 A args S k|110=>aP prog F7 mT A args S k|111=>aP prog vV lp A args S k|_=>none
def x79(ej:Int×Int×(List aa)×Int×Int×aF×a_×(List Int)×Unit->Option ((Int×Int×a_×(List Int)×Unit)))(n_80:aa×aF×Unit->Option (a_×Unit))(n_80l25:(List aa)×Int×Int×aF×a_×a_×Unit->Option ((a_×a_×Unit)))(n_79:aa×aF×Unit->Option ((List Int)×a_×Unit)):Xc vw:={P:=prog,n:=47,call:=DF ej n_80 n_80l25 n_79,pre:=kp,sh:=Qt,loops:=λk=>match k with|4=>some {cut:=Dq,alts:=[.exit 0],F:=ej}|_=>none}
def DG(ej:Int×Int×(List aa)×Int×Int×aF×a_×(List Int)×Unit->Option ((Int×Int×a_×(List Int)×Unit)))(n_80:aa×aF×Unit->Option (a_×Unit))(n_80l25:(List aa)×Int×Int×aF×a_×a_×Unit->Option ((a_×a_×Unit)))(n_79:aa×aF×Unit->Option ((List Int)×a_×Unit)):bz vw:=λA fid args S k=>match fid with|79=>aP prog n9 n_79 A args S k|80=>aP prog m_ n_80 A args S k|110=>aP prog F7 mT A args S k|111=>aP prog vV lp A args S k|112=>aP prog JR s6 A args S k|113=>aP prog JS KP A args S k|_=>none
def x80(ej:Int×Int×(List aa)×Int×Int×aF×a_×(List Int)×Unit->Option ((Int×Int×a_×(List Int)×Unit)))(n_80:aa×aF×Unit->Option (a_×Unit))(n_80l25:(List aa)×Int×Int×aF×a_×a_×Unit->Option ((a_×a_×Unit)))(n_79:aa×aF×Unit->Option ((List Int)×a_×Unit)):Xc vw:={P:=prog,n:=142,call:=DG ej n_80 n_80l25 n_79,pre:=kp,sh:=Qu,joins:=λk=>match k with|21=>some (MN,[.norm])|_=>none,loops:=λk=>match k with|25=>some {cut:=ux,alts:=[.exit 1],F:=n_80l25}|_=>none}
abbrev lj(v:Int×Int×(List aa)×Int×Int×aF×a_×(List Int)×Unit)(r:(Int×Int×a_×(List Int)×Unit)):Prop:=(λv out=>∀C:Ctx,C.P=prog->C.N=47/\Fx C kp->ob C (ai (af Tryz.f79) 0) (Go.Tx.aH vw (bV vw Dq v)) (tZ Qt [.exit 0] out)) v r
abbrev sW(v:aa×aF×Unit)(r:a_×Unit):Prop:=(λv r=>∀x,qF prog m_ r=some x->gr prog 80 (encL vw (az m_ v).len (aX m_ v).1) (bt (az m_ v).len (az m_ v).own) (an vw (bV vw m_.rcut r).len x) (bt (bV vw m_.rcut r).len (jJ m_ r))) v r
abbrev ie(v:(List aa)×Int×Int×aF×a_×a_×Unit)(r:(a_×a_×Unit)):Prop:=(λv out=>∀C:Ctx,C.P=prog->C.N=142/\Fx C kp->ob C (ai (af Tryz.f80) 0) (Go.Tx.aH vw (bV vw ux v)) (tZ Qu [.exit 1] out)) v r
abbrev Ep(v:aa×aF×Unit)(r:(List Int)×a_×Unit):Prop:=(λv r=>∀x,qF prog n9 r=some x->gr prog 79 (encL vw (az n9 v).len (aX n9 v).1) (bt (az n9 v).len (az n9 v).own) (an vw (bV vw n9.rcut r).len x) (bt (bV vw n9.rcut r).len (jJ n9 r))) v r
theorem Kt(f0:Int×Int×(List aa)×Int×Int×aF×a_×(List Int)×Unit->Option ((Int×Int×a_×(List Int)×Unit)))(f1:aa×aF×Unit->Option (a_×Unit))(h0:∀v r,f0 v=some r->lj v r)(h1:∀v r,f1 v=some r->sW v r):ay prog (x79 f0 f1 (λ_=>none) (λ_=>none)).call:=(by
 intro A fid args S dst k r h
 unfold x79 DF at h
 simp only at h
 split at h
 ·exact ak ((λv r x h hx=>h1 v r h x hx)) rfl rfl h
 ·exact ak (ol) rfl rfl h
 ·exact ak (fb) rfl rfl h
 ·cases h)
theorem LB(f0:Int×Int×(List aa)×Int×Int×aF×a_×(List Int)×Unit->Option ((Int×Int×a_×(List Int)×Unit)))(f1:aa×aF×Unit->Option (a_×Unit))(h0:∀v r,f0 v=some r->lj v r)(h1:∀v r,f1 v=some r->sW v r)(v:Int×Int×(List aa)×Int×Int×aF×a_×(List Int)×Unit)(r:(Int×Int×a_×(List Int)×Unit))(h:exL (x79 f0 f1 (λ_=>none) (λ_=>none)) (ai (af Tryz.f79) 0) Dq [.exit 0] f0 v=some r):lj v r:=λC hP hN=>dj (X:=x79 f0 f1 (λ_=>none) (λ_=>none)) (b:=(ai (af Tryz.f79) 0)) hP hN Ty.mixed (Kt f0 f1 h0 h1) (bm (X:=x79 f0 f1 (λ_=>none) (λ_=>none)) (c:=(ai (af Tryz.f79) 0)) (bj (by kernel_rfl:True=fZ (bq C (x79 f0 f1 (λ_=>none) (λ_=>none))) (aJ (ai (af Tryz.f79) 0))) trivial)) (cut:=Dq) (alts:=[.exit 0]) (F:=f0) (λv out h=>h0 v out h C hP hN) h
theorem Pz(f0:aa×aF×Unit->Option (a_×Unit))(f1:(List aa)×Int×Int×aF×a_×a_×Unit->Option ((a_×a_×Unit)))(f2:aa×aF×Unit->Option ((List Int)×a_×Unit))(h0:∀v r,f0 v=some r->sW v r)(h1:∀v r,f1 v=some r->ie v r)(h2:∀v r,f2 v=some r->Ep v r):ay prog (x80 (λ_=>none) f0 f1 f2).call:=(by
 intro A fid args S dst k r h
 unfold x80 DG at h
 simp only at h
 split at h
 ·exact ak ((λv r x h hx=>h2 v r h x hx)) rfl rfl h
 ·exact ak ((λv r x h hx=>h0 v r h x hx)) rfl rfl h
 ·exact ak (ol) rfl rfl h
 ·exact ak (fb) rfl rfl h
 ·exact ak (zJ) rfl rfl h
 ·exact ak (zK) rfl rfl h
 ·cases h)
theorem Q6(f0:aa×aF×Unit->Option (a_×Unit))(f1:(List aa)×Int×Int×aF×a_×a_×Unit->Option ((a_×a_×Unit)))(f2:aa×aF×Unit->Option ((List Int)×a_×Unit))(h0:∀v r,f0 v=some r->sW v r)(h1:∀v r,f1 v=some r->ie v r)(h2:∀v r,f2 v=some r->Ep v r)(v:aa×aF×Unit)(r:a_×Unit)(h:exF (x80 (λ_=>none) f0 f1 f2) m_ rfl (af Tryz.f80) v=some r):sW v r:=λx hx=>mO (X:=x80 (λ_=>none) f0 f1 f2) (sig:=m_) rfl Tryz.func80 (c:=af Tryz.f80) (by kernel_rfl) Tryz.ntmps80 (by kernel_rfl) (by kernel_rfl) rfl Ty.mixed (Pz f0 f1 f2 h0 h1 h2) rfl (λC hP hN=>(bm (X:=x80 (λ_=>none) f0 f1 f2) (c:=(af Tryz.f80)) (bj (by kernel_rfl:fZ (bq C (x80 (λ_=>none) f0 f1 f2)) [(ai (af Tryz.f80) 0)]=fZ (bq C (x80 (λ_=>none) f0 f1 f2)) (aJ (af Tryz.f80))) ⟨d8 (X:=x80 (λ_=>none) f0 f1 f2) (b:=(ai (af Tryz.f80) 0)) (by kernel_rfl) (show dB C (ai (af Tryz.f80) 0) (sh:=Qu) {cut:=ux,alts:=[.exit 1],F:=f1}fromλv out h=>h1 v out h C hP hN),trivial⟩))) h x hx
theorem Hk(f0:aa×aF×Unit->Option (a_×Unit))(f1:(List aa)×Int×Int×aF×a_×a_×Unit->Option ((a_×a_×Unit)))(h0:∀v r,f0 v=some r->sW v r)(h1:∀v r,f1 v=some r->ie v r):ay prog (x80 (λ_=>none) f0 f1 (λ_=>none)).call:=(by
 intro A fid args S dst k r h
 unfold x80 DG at h
 simp only at h
 split at h
 ·exact ak ((λv r x h hx=>by cases h)) rfl rfl h
 ·exact ak ((λv r x h hx=>h0 v r h x hx)) rfl rfl h
 ·exact ak (ol) rfl rfl h
 ·exact ak (fb) rfl rfl h
 ·exact ak (zJ) rfl rfl h
 ·exact ak (zK) rfl rfl h
 ·cases h)
theorem IF(f0:aa×aF×Unit->Option (a_×Unit))(f1:(List aa)×Int×Int×aF×a_×a_×Unit->Option ((a_×a_×Unit)))(h0:∀v r,f0 v=some r->sW v r)(h1:∀v r,f1 v=some r->ie v r)(v:(List aa)×Int×Int×aF×a_×a_×Unit)(r:(a_×a_×Unit))(h:exL (x80 (λ_=>none) f0 f1 (λ_=>none)) (ai (af Tryz.f80) 0) ux [.exit 1] f1 v=some r):ie v r:=λC hP hN=>dj (X:=x80 (λ_=>none) f0 f1 (λ_=>none)) (b:=(ai (af Tryz.f80) 0)) hP hN Ty.mixed (Hk f0 f1 h0 h1) (bm (X:=x80 (λ_=>none) f0 f1 (λ_=>none)) (c:=(ai (af Tryz.f80) 0)) (bj (by kernel_rfl:True=fZ (bq C (x80 (λ_=>none) f0 f1 (λ_=>none))) (aJ (ai (af Tryz.f80) 0))) trivial)) (cut:=ux) (alts:=[.exit 1]) (F:=f1) (λv out h=>h1 v out h C hP hN) h
theorem Py(f0:Int×Int×(List aa)×Int×Int×aF×a_×(List Int)×Unit->Option ((Int×Int×a_×(List Int)×Unit)))(h0:∀v r,f0 v=some r->lj v r):ay prog (x79 f0 (λ_=>none) (λ_=>none) (λ_=>none)).call:=(by
 intro A fid args S dst k r h
 unfold x79 DF at h
 simp only at h
 split at h
 ·exact ak ((λv r x h hx=>by cases h)) rfl rfl h
 ·exact ak (ol) rfl rfl h
 ·exact ak (fb) rfl rfl h
 ·cases h)
theorem Q5(f0:Int×Int×(List aa)×Int×Int×aF×a_×(List Int)×Unit->Option ((Int×Int×a_×(List Int)×Unit)))(h0:∀v r,f0 v=some r->lj v r)(v:aa×aF×Unit)(r:(List Int)×a_×Unit)(h:exF (x79 f0 (λ_=>none) (λ_=>none) (λ_=>none)) n9 rfl (af Tryz.f79) v=some r):Ep v r:=λx hx=>mO (X:=x79 f0 (λ_=>none) (λ_=>none) (λ_=>none)) (sig:=n9) rfl Tryz.func79 (c:=af Tryz.f79) (by kernel_rfl) Tryz.ntmps79 (by kernel_rfl) (by kernel_rfl) rfl Ty.mixed (Py f0 h0) rfl (λC hP hN=>(bm (X:=x79 f0 (λ_=>none) (λ_=>none) (λ_=>none)) (c:=(af Tryz.f79)) (bj (by kernel_rfl:fZ (bq C (x79 f0 (λ_=>none) (λ_=>none) (λ_=>none))) [(ai (af Tryz.f79) 0)]=fZ (bq C (x79 f0 (λ_=>none) (λ_=>none) (λ_=>none))) (aJ (af Tryz.f79))) ⟨d8 (X:=x79 f0 (λ_=>none) (λ_=>none) (λ_=>none)) (b:=(ai (af Tryz.f79) 0)) (by kernel_rfl) (show dB C (ai (af Tryz.f79) 0) (sh:=Qt) {cut:=Dq,alts:=[.exit 0],F:=f0}fromλv out h=>h0 v out h C hP hN),trivial⟩))) h x hx
theorem rY:(∀v r,ej v=some r->lj v r)/\(∀v r,n_80 v=some r->sW v r)/\(∀v r,n_80l25 v=some r->ie v r)/\(∀v r,n_79 v=some r->Ep v r):=by
 refine ej.mutual_partial_correctness
  (motive_1:=lj)
  (motive_2:=sW)
  (motive_3:=ie)
  (motive_4:=Ep)
  ?_ ?_ ?_ ?_
 ·exact(λf0 f1 h0 h1 v r h=>LB f0 f1 h0 h1 v r (bj (by kernel_rfl) h))
 ·exact(λf0 f1 f2 h0 h1 h2 v r h=>Q6 f0 f1 f2 h0 h1 h2 v r (bj (by kernel_rfl) h))
 ·exact(λf0 f1 h0 h1 v r h=>IF f0 f1 h0 h1 v r (bj (by kernel_rfl) h))
 ·exact(λf0 h0 v r h=>Q5 f0 h0 v r (bj (by kernel_rfl) h))
theorem EW:aq prog 80 m_ n_80:=λv r x h hx=>rY.2.1 v r h x hx
theorem Lb:aq prog 79 n9 n_79:=λv r x h hx=>rY.2.2.2 v r h x hx
def RI:Cut SN:=⟨[(4, .bp 4 0),(5, .dat (.int .i64))],[(4, .st .roomT)]⟩
def Tb:ax vw:={rcut:=RI}
def QV:Sig vw:=sg [.dat (.st .layoutT), .dat (.st .targetT)] RI [.cell 4 107, .tmp 5]
noncomputable def OL(v:aa×aF×Unit):Option (Int×a_×Unit):=n_80 (v.1,v.2.1,())>>=λx1=>if decide (x1.1.size>4096)=true then some (((3:Int),a_.mk (0:Int) (0:Int),()))else some (((0:Int),x1.1,()))
def JE:=kP EW k0
def x73:Xc vw:=mX prog 15 JE.1 Tb [] [] []
theorem K_:aq prog 73 QV OL:=fn0 x73 Tryz.func73 JE.2
def MM:Cut SN:=⟨[(1, .bp 1 0),(4, .dat (.int .i64)),(5, .dat .bool)],[(1, .st .layoutT)]⟩
def Tc:ax vw:={rcut:=bP}
def QW:Sig vw:=sg [.dat (.st .layoutT)] bP [.tmp 2]
noncomputable def OM(v:aa×Unit):Option (Int×Unit):=(if(v.1.kind==6)=true then some ((v.1.kind,true,v.1,()))else some ((v.1.kind,v.1.kind==8,v.1,())))>>=λx1=>if x1.2.1=true then some (((↑x1.2.2.1.parts.length:Int),()))else if(x1.1==4)=true then some (((2:Int),()))else if(x1.1==5)=true then some ((x1.2.2.1.n,()))else some (((-1:Int),()))
def x78:Xc vw:=mX prog 17 c0 Tc [(4,MM,[.norm])] [] []
theorem La:aq prog 78 QW OM:=fn0 x78 Tryz.func78 bI
def MI:Cut SN:=⟨[(2, .dat (.int .i64)),(3, .bp 3 0),(4, .bp 4 0),(54, .dat .bool)],[(3, .st .layoutT),(4, .st .targetT)]⟩
def Pe:Cut SN:=⟨[(2, .dat (.int .i64)),(3, .bp 3 0),(4, .bp 4 0),(30, .dat .bool)],[(3, .st .layoutT),(4, .st .targetT)]⟩
def RD:Cut SN:=⟨[(6, .dat (.int .i64)),(7, .dat (.int .i64))],[]⟩
def SW:ax vw:={rcut:=RD}
def QL:Sig vw:=sg [.dat (.st .layoutT), .dat (.st .targetT), .dat (.int .i64)] RD [.tmp 6, .tmp 7]
noncomputable def OE(v:aa×aF×Int×Unit):Option (Int×Int×Unit):=OK (v.1,v.2.1,())>>=λx1=>if(x1.1 !=0)=true then some (((0:Int),x1.1,()))else OM (v.1,())>>=λx2=>if decide (x2.1<0)=true then some (((0:Int),(6:Int),()))else(if decide (v.2.2.1<0)=true then some ((v.2.2.1,true,v.1,v.2.1,()))else some ((v.2.2.1,decide (v.2.2.1>=x2.1),v.1,v.2.1,())))>>=λx3=>if x3.2.1=true then some (((0:Int),(4:Int),()))else OL (x3.2.2.1,x3.2.2.2.1,())>>=λx4=>if(x4.1 !=0)=true then some (((0:Int),x4.1,()))else if(x3.2.2.1.kind==6)=true then n_79 (x3.2.2.1,x3.2.2.2.1,())>>=λx5=>if 0<=x3.1 then x5.1[x3.1.toNat]?>>=λx6=>some ((x6,(0:Int),()))else none else(if(x3.2.2.1.kind==4)=true then some ((x3.1,true,x3.2.2.1,x3.2.2.2.1,()))else some ((x3.1,x3.2.2.1.kind==5,x3.2.2.1,x3.2.2.2.1,())))>>=λx5=>if x5.2.1=true then x5.2.2.1.parts[U6 0]?>>=λx6=>n_80 (x6,x5.2.2.2.1,())>>=λx7=>some ((i64.wrap (x5.1 *x7.1.size),(0:Int),()))else some (((0:Int),(0:Int),()))
def Jz:=kP K9 (kP K_ (kP La (kP Lb (kP EW k0))))
def x45:Xc vw:=mX prog 66 Jz.1 SW [(18,MI,[.norm])] [(7,Pe)] []
theorem K0:aq prog 45 QL OE:=fn0 x45 Tryz.func45 Jz.2
def Ry:Cut SN:=⟨[(8, .dat (.int .i64)),(9, .dat (.int .i64))],[]⟩
def SI:ax vw:={rcut:=Ry}
def Qz:Sig vw:=sg [.dat .str, .dat .str, .dat .str, .dat (.st .targetT)] Ry [.tmp 8, .tmp 9]
noncomputable def Ow(v:ByteArray×ByteArray×ByteArray×aF×Unit):Option (Int×Int×Unit):=OD (v.1,v.2.1,v.2.2.2.1,())>>=λx1=>if(x1.1 !=0)=true then some (((0:Int),x1.1,()))else L0 (x1.2.1.names,v.2.2.1,())>>=λx2=>if decide (x2.1<0)=true then some (((0:Int),(4:Int),()))else OE (aa.mk x1.2.1.layout.kind x1.2.1.layout.n x1.2.1.layout.flag x1.2.1.layout.parts,v.2.2.2.1,x2.1,())>>=λx3=>some ((x3.1,x3.2.1,()))
def Ju:=kP KZ (kP EI (kP K0 k0))
def x18:Xc vw:=mX prog 36 Ju.1 SI [] [] []
theorem KS:aq prog 18 Qz Ow:=fn0 x18 Tryz.func18 Ju.2
def Kf:Cut SN:=⟨[(0, .dat .bool)],[]⟩
def SE:ax vw:={rcut:=Kf}
def Qv:Sig vw:=sg [] Kf [.tmp 0]
noncomputable def Nq(v:Unit):Option (Bool×Unit):=Ow (T3 #[115,116,114,117,99,116,32,83,32,123,32,99,104,97,114,32,97,59,32,105,110,116,32,98,59,32,125,59],T3 #[83],T3 #[98],aF.mk (4:Int) false,())>>=λx1=>KO (T3 #[35,100,101,102,105,110,101,32,78,32,49,48,10,35,100,101,102,105,110,101,32,70,40,120,41,32,120,10],())>>=λx2=>(if(x1.2.1==0)=true then if(x1.1==4)=true then if(x2.2.2.1==0)=true then if((↑x2.1.length:Int)==1)=true then x2.1[U6 0]?>>=λx3=>if(x3.n==10)=true then if((↑x2.2.1.length:Int)==1)=true then x2.2.1[U6 0]?>>=λx4=>some ((x4.toList==(T3 #[35,32,100,101,102,105,110,101,32,70,32,40,32,120,32,41,32,120]).toList,()))else some ((false,()))else some ((false,()))else some ((false,()))else some ((false,()))else some ((false,()))else some ((false,())))>>=λx3=>some ((x3.1,()))
def Jt:=kP Er (kP KS k0)
def x10:Xc vw:=mX prog 49 Jt.1 SE [] [(3,Kf)] []
theorem KN:aq prog 10 Qv Nq:=fn0 x10 Tryz.func10 Jt.2
def wY:Cut SN:=⟨[(0, .bp 100000 0),(14, .dat .bool)],[(100000, .box none [.dat (.sl .str), .vh 100001, .dat .bool]),(100001, .vec 44 (.st .itemT))]⟩
def fi:Cut SN:=⟨[(0, .bp 100000 0),(2, .dat .str)],[(100000, .box none [.dat (.sl .str), .vh 100001, .dat .bool]),(100001, .vec 44 (.st .itemT))]⟩
def Cg:ax vw:={rcut:=fi}
def yL:Sig vw:={params:=[.bp 100000 0],objs:=[(100000, .box none [.dat (.sl .str), .vh 100001, .dat .bool]),(100001, .vec 44 (.st .itemT))],rcut:=fi,rvars:=[.tmp 2],keep:=[100000,100001]}
noncomputable def ez(v:(List ByteArray)×Bool×(List Item)×Unit):Option (ByteArray×(List ByteArray)×Bool×(List Item)×Unit):=(if v.2.1=true then some ((true,v.1,v.2.1,v.2.2.1,()))else some (((↑v.1.length:Int)==0,v.1,v.2.1,v.2.2.1,())))>>=λx1=>if x1.1=true then some ((T3 #[],x1.2.1,x1.2.2.1,x1.2.2.2.1,()))else x1.2.1[U6 0]?>>=λx2=>some ((x2,x1.2.1,x1.2.2.1,x1.2.2.2.1,()))
def GO:Xc vw:=mX prog 21 c0 Cg [] [(1,wY)] []
theorem io:aq prog 136 yL ez:=fn0 GO Tryz.func136 bI
def Ci:ax vw:={rcut:=fi}
def yN:Sig vw:={params:=[.bp 100000 0],objs:=[(100000, .box none [.dat (.sl .str), .vh 100001, .dat .bool]),(100001, .vec 44 (.st .itemT))],rcut:=fi,rvars:=[.tmp 2],keep:=[100000,100001]}
noncomputable def cW(v:(List ByteArray)×Bool×(List Item)×Unit):Option (ByteArray×(List ByteArray)×Bool×(List Item)×Unit):=ez (v.1,v.2.1,v.2.2.1,())>>=λx1=>if x1.2.2.2.1.length=v.2.2.1.length then if(x1.1.toList==(T3 #[]).toList)=true then some ((T3 #[],x1.2.1,true,x1.2.2.2.1,()))else if(0:Int)<=1/\(1:Int)<=(↑x1.2.1.length:Int)/\(↑x1.2.1.length:Int)<=(↑x1.2.1.length:Int)then some ((x1.1,List.drop (U6 1) (W0 (↑x1.2.1.length:Int).toNat x1.2.1),x1.2.2.1,x1.2.2.2.1,()))else none else none
def nr:=kO io k0
def GP:Xc vw:=mX prog 20 nr.1 Ci [] [] []
theorem dx:aq prog 138 yN cW:=fn0 GP Tryz.func138 nr.2
def gw:Cut SN:=⟨[(0, .bp 100000 0)],[(100000, .box none [.dat (.sl .str), .vh 100001, .dat .bool]),(100001, .vec 44 (.st .itemT))]⟩
def Cb:ax vw:={rcut:=gw}
def yG:Sig vw:={params:=[.bp 100000 0, .dat .str],objs:=[(100000, .box none [.dat (.sl .str), .vh 100001, .dat .bool]),(100001, .vec 44 (.st .itemT))],rcut:=gw,rvars:=[],keep:=[100000,100001]}
noncomputable def aQ(v:ByteArray×(List ByteArray)×Bool×(List Item)×Unit):Option ((List ByteArray)×Bool×(List Item)×Unit):=cW (v.2.1,v.2.2.1,v.2.2.2.1,())>>=λx1=>if x1.2.2.2.1.length=v.2.2.2.1.length then if(!x1.1.toList==v.1.toList)=true then some ((x1.2.1,true,x1.2.2.2.1,()))else some ((x1.2.1,x1.2.2.1,x1.2.2.2.1,()))else none
def nj:=kO dx k0
def GK:Xc vw:=mX prog 11 nj.1 Cb [] [] []
theorem fc:aq prog 130 yG aQ:=fn0 GK Tryz.func130 nj.2
def Qo:ax vw:={rcut:=dn}
def N0:Sig vw:=sg [.dat .str] dn [.tmp 2]
noncomputable def H4(v:ByteArray×Unit):Option (Bool×Unit):=(if(v.1.toList==(T3 #[99,104,97,114]).toList)=true then some ((true,()))else if(v.1.toList==(T3 #[115,104,111,114,116]).toList)=true then some ((true,()))else if(v.1.toList==(T3 #[105,110,116]).toList)=true then some ((true,()))else if(v.1.toList==(T3 #[108,111,110,103]).toList)=true then some ((true,()))else if(v.1.toList==(T3 #[117,110,115,105,103,110,101,100]).toList)=true then some ((true,()))else if(v.1.toList==(T3 #[118,111,105,100]).toList)=true then some ((true,()))else if(v.1.toList==(T3 #[115,116,114,117,99,116]).toList)=true then some ((true,()))else some ((v.1.toList==(T3 #[101,110,117,109]).toList,())))>>=λx1=>if x1.1=true then some ((true,()))else some ((false,()))
def TR:Xc vw:=mX prog 13 c0 Qo [(10,iW,[.norm])] [] []
theorem H5:aq prog 169 N0 H4:=fn0 TR Tryz.func169 bI
def Tg:ax vw:={rcut:=dn}
def Q0:Sig vw:=sg [.dat (.int .u8)] dn [.tmp 2]
noncomputable def L5(v:Int×Unit):Option (Bool×Unit):=(if decide (v.1>=97)=true then if decide (v.1<=122)=true then some ((true,()))else if decide (v.1>=65)=true then if decide (v.1<=90)=true then some ((true,()))else some ((v.1==95,()))else some ((v.1==95,()))else if decide (v.1>=65)=true then if decide (v.1<=90)=true then some ((true,()))else some ((v.1==95,()))else some ((v.1==95,())))>>=λx1=>some ((x1.1,()))
def x88:Xc vw:=mX prog 21 c0 Tg [] [(1,dn)] []
theorem EY:aq prog 88 Q0 L5:=fn0 x88 Tryz.func88 bI
def wV:Cut SN:=⟨[(0, .bp 100000 0),(3, .dat .str)],[(100000, .box none [.dat (.sl .str), .vh 100001, .dat .bool]),(100001, .vec 44 (.st .itemT))]⟩
def wW:Cut SN:=⟨[(0, .bp 100000 0),(3, .dat .str),(17, .dat .bool)],[(100000, .box none [.dat (.sl .str), .vh 100001, .dat .bool]),(100001, .vec 44 (.st .itemT))]⟩
def Cc:ax vw:={rcut:=fi}
def yH:Sig vw:={params:=[.bp 100000 0],objs:=[(100000, .box none [.dat (.sl .str), .vh 100001, .dat .bool]),(100001, .vec 44 (.st .itemT))],rcut:=fi,rvars:=[.tmp 2],keep:=[100000,100001]}
noncomputable def bO(v:(List ByteArray)×Bool×(List Item)×Unit):Option (ByteArray×(List ByteArray)×Bool×(List Item)×Unit):=cW (v.1,v.2.1,v.2.2.1,())>>=λx1=>if x1.2.2.2.1.length=v.2.2.1.length then((if(x1.1.toList==(T3 #[]).toList)=true then some ((x1.1,true,x1.2.1,x1.2.2.1,x1.2.2.2.1,()))else x1.1[U6 0]?>>=λx2=>L5 ((↑x2.toNat:Int),())>>=λx3=>if(!x3.1)=true then some ((x1.1,true,x1.2.1,x1.2.2.1,x1.2.2.2.1,()))else H4 (x1.1,())>>=λx4=>some ((x1.1,x4.1,x1.2.1,x1.2.2.1,x1.2.2.2.1,())))>>=λx2=>if x2.2.1=true then some ((x2.1,x2.2.2.1,true,x2.2.2.2.2.1,()))else some ((x2.1,x2.2.2.1,x2.2.2.2.1,x2.2.2.2.2.1,())))>>=λx2=>some ((x2.1,x2.2.1,x2.2.2.1,x2.2.2.2.1,()))else none
def nk:=kP EY (kO dx (kP H5 k0))
def GL:Xc vw:=mX prog 22 nk.1 Cc [(4,wV,[.norm])] [(2,wW)] []
theorem d9:aq prog 131 yH bO:=fn0 GL Tryz.func131 nk.2
def rq:Cut SN:=⟨[(0, .bp 100000 0),(4, .dat .bool)],[(100000, .box none [.dat (.sl .str), .vh 100001, .dat .bool]),(100001, .vec 44 (.st .itemT))]⟩
def Cd:ax vw:={rcut:=rq}
def yI:Sig vw:={params:=[.bp 100000 0, .dat .str],objs:=[(100000, .box none [.dat (.sl .str), .vh 100001, .dat .bool]),(100001, .vec 44 (.st .itemT))],rcut:=rq,rvars:=[.tmp 4],keep:=[100000,100001]}
noncomputable def dT(v:ByteArray×(List ByteArray)×Bool×(List Item)×Unit):Option (Bool×(List ByteArray)×Bool×(List Item)×Unit):=ez (v.2.1,v.2.2.1,v.2.2.2.1,())>>=λx1=>if x1.2.2.2.1.length=v.2.2.2.1.length then if(!x1.1.toList==v.1.toList)=true then some ((false,x1.2.1,x1.2.2.1,x1.2.2.2.1,()))else cW (x1.2.1,x1.2.2.1,x1.2.2.2.1,())>>=λx2=>if x2.2.2.2.1.length=x1.2.2.2.1.length then some ((true,x2.2.1,x2.2.2.1,x2.2.2.2.1,()))else none else none
def nn:=kO io (kO dx k0)
def GM:Xc vw:=mX prog 11 nn.1 Cd [] [] []
theorem d_:aq prog 132 yI dT:=fn0 GM Tryz.func132 nn.2
def Th:ax vw:={rcut:=dn}
def Q1:Sig vw:=sg [.dat (.int .u8)] dn [.tmp 2]
noncomputable def Ld(v:Int×Unit):Option (Bool×Unit):=(if decide (v.1>=48)=true then some ((decide (v.1<=57),()))else some ((false,())))>>=λx1=>some ((x1.1,()))
def x89:Xc vw:=mX prog 9 c0 Th [] [(1,dn)] []
theorem EZ:aq prog 89 Q1 Ld:=fn0 x89 Tryz.func89 bI
def wX:Cut SN:=⟨[(0, .bp 100000 0),(3, .dat .str),(20, .dat .bool)],[(100000, .box none [.dat (.sl .str), .vh 100001, .dat .bool]),(100001, .vec 44 (.st .itemT))]⟩
def ru:Cut SN:=⟨[(0, .bp 100000 0),(2, .dat (.int .i64))],[(100000, .box none [.dat (.sl .str), .vh 100001, .dat .bool]),(100001, .vec 44 (.st .itemT))]⟩
def Ce:ax vw:={rcut:=ru}
def yJ:Sig vw:={params:=[.bp 100000 0],objs:=[(100000, .box none [.dat (.sl .str), .vh 100001, .dat .bool]),(100001, .vec 44 (.st .itemT))],rcut:=ru,rvars:=[.tmp 2],keep:=[100000,100001]}
noncomputable def gP(v:(List ByteArray)×Bool×(List Item)×Unit):Option (Int×(List ByteArray)×Bool×(List Item)×Unit):=cW (v.1,v.2.1,v.2.2.1,())>>=λx1=>if x1.2.2.2.1.length=v.2.2.1.length then(if(x1.1.toList==(T3 #[]).toList)=true then some ((x1.1,true,x1.2.1,x1.2.2.1,x1.2.2.2.1,()))else x1.1[U6 0]?>>=λx2=>Ld ((↑x2.toNat:Int),())>>=λx3=>if(!x3.1)=true then some ((x1.1,true,x1.2.1,x1.2.2.1,x1.2.2.2.1,()))else some ((x1.1,decide ((↑x1.1.size:Int)>9),x1.2.1,x1.2.2.1,x1.2.2.2.1,())))>>=λx2=>if x2.2.1=true then some (((0:Int),x2.2.2.1,true,x2.2.2.2.2.1,()))else BD (x2.1,())>>=λx3=>some ((x3.1,x2.2.2.1,x2.2.2.2.1,x2.2.2.2.2.1,()))else none
def nq:=kP EZ (kO dx (kP zM k0))
def GN:Xc vw:=mX prog 30 nq.1 Ce [] [(2,wX)] []
theorem lS:aq prog 133 yJ gP:=fn0 GN Tryz.func133 nq.2
def Dn:Cut SN:=⟨[(0, .dat (.sl (.st .itemT))),(1, .dat .str),(5, .dat (.int .i64))],[]⟩
def Jn:Cut SN:=⟨[(0, .dat (.sl (.st .itemT))),(1, .dat .str),(5, .dat (.int .i64)),(6, .dat (.int .i64))],[]⟩
def Ms:Cut SN:=⟨[(0, .dat (.sl (.st .itemT))),(1, .dat .str),(5, .dat (.int .i64)),(27, .dat .bool)],[]⟩
def Mt:Cut SN:=⟨[(0, .dat (.sl (.st .itemT))),(1, .dat .str),(5, .dat (.int .i64)),(6, .dat (.int .i64)),(43, .dat .bool)],[]⟩
def Qf:ax vw:=shL [(0,uq),(2,Dn)] iW
def NS:Sig vw:=sg [.dat (.sl (.st .itemT)), .dat .str] iW [.tmp 4]
noncomputable def fM(v:(List Item)×ByteArray×Int×Int×Unit):Option (((Bool×Unit)⊕((List Item)×ByteArray×Int×Unit))):=(if 0<=v.2.2.1 then v.1[v.2.2.1.toNat]?>>=λx1=>if decide (v.2.2.2.1<(↑x1.names.length:Int))=true then if 0<=v.2.2.1 then v.1[v.2.2.1.toNat]?>>=λx2=>some ((v.1,v.2.1,v.2.2.1,v.2.2.2.1,x2.kind==1,()))else none else some ((v.1,v.2.1,v.2.2.1,v.2.2.2.1,false,()))else none)>>=λx1=>if x1.2.2.2.2.1=true then if 0<=x1.2.2.1 then x1.1[x1.2.2.1.toNat]?>>=λx2=>if 0<=x1.2.2.2.1 then x2.names[x1.2.2.2.1.toNat]?>>=λx3=>if(x3.toList==x1.2.1.toList)=true then some (UR (true,()))else fM (x1.1,x1.2.1,x1.2.2.1,i64.wrap (x1.2.2.2.1+1),())else none else none else some (UW (x1.1,x1.2.1,x1.2.2.1,())) partial_fixpoint
noncomputable def il(v:(List Item)×ByteArray×Int×Unit):Option (((Bool×Unit)⊕(Unit))):=if decide (v.2.2.1<(↑v.1.length:Int))=true then(if 0<=v.2.2.1 then v.1[v.2.2.1.toNat]?>>=λx1=>if(x1.kind==0)=true then if 0<=v.2.2.1 then v.1[v.2.2.1.toNat]?>>=λx2=>some ((v.1,v.2.1,v.2.2.1,x2.name0.toList==v.2.1.toList,()))else none else some ((v.1,v.2.1,v.2.2.1,false,()))else none)>>=λx1=>if x1.2.2.2.1=true then some (UR (true,()))else fM (x1.1,x1.2.1,x1.2.2.1,(0:Int),())>>=λx2=>match x2 with| .inl y2=>some (UR y2)| .inr y2=>il (y2.1,y2.2.1,i64.wrap (y2.2.2.1+1),())else some (UW ()) partial_fixpoint
noncomputable def Eu(v:(List Item)×ByteArray×Unit):Option (Bool×Unit):=il (v.1,v.2.1,(0:Int),())>>=λx1=>match x1 with| .inl y1=>some y1| .inr y1=>some ((false,()))
def Rs:Xc vw:=mX prog 56 c0 Qf [] [(4,Ms),(7,Mt)] [(2,⟨Dn,[.ret, .exit 0],il⟩),(7,⟨Jn,[.ret, .exit 2],fM⟩)]
theorem Bx:dU Rs (ai (ai (af Tryz.f134) 0) 0) ⟨Jn,[.ret, .exit 2],fM⟩:=lp0 fM.partial_correctness bI
theorem Bw:dU Rs (ai (af Tryz.f134) 0) ⟨Dn,[.ret, .exit 0],il⟩:=lp1 il.partial_correctness bI Bx
theorem zL:aq prog 134 NS Eu:=fn1 Rs Tryz.func134 bI Bw
def oJ:Cut SN:=⟨[(0, .bp 100000 0),(2, .bp 2 0),(3, .bp 3 0)],[(100000, .box none [.dat (.sl .str), .vh 100001, .dat .bool]),(2, .st .itemT),(3, .st .itemT),(100001, .vec 44 (.st .itemT))]⟩
def dN:Cut SN:=⟨[(0, .bp 100000 0),(2, .bp 2 0)],[(100000, .box none [.dat (.sl .str), .vh 100001, .dat .bool]),(100001, .vec 44 (.st .itemT)),(2, .st .itemT)]⟩
def BZ:ax vw:={rcut:=dN}
def yC:Sig vw:={params:=[.bp 100000 0],objs:=[(100000, .box none [.dat (.sl .str), .vh 100001, .dat .bool]),(100001, .vec 44 (.st .itemT))],rcut:=dN,rvars:=[.cell 2 44],keep:=[100000,100001]}
noncomputable def gM(v:(List ByteArray)×Bool×(List Item)×Unit):Option ((List ByteArray)×Bool×(List Item)×Item×Unit):=aQ (T3 #[35],v.1,v.2.1,v.2.2.1,())>>=λx1=>if x1.2.2.1.length=v.2.2.1.length then aQ (T3 #[100,101,102,105,110,101],x1.1,x1.2.1,x1.2.2.1,())>>=λx2=>if x2.2.2.1.length=x1.2.2.1.length then bO (x2.1,x2.2.1,x2.2.2.1,())>>=λx3=>if x3.2.2.2.1.length=x2.2.2.1.length then dT (T3 #[45],x3.2.1,x3.2.2.1,x3.2.2.2.1,())>>=λx4=>if x4.2.2.2.1.length=x3.2.2.2.1.length then gP (x4.2.1,x4.2.2.1,x4.2.2.2.1,())>>=λx5=>if x5.2.2.2.1.length=x4.2.2.2.1.length then(if x4.1=true then some ((x5.2.1,x5.2.2.1,Item.mk 0 (T3 #[]) (0:Int) [] (aa.mk 0 0 false []),Item.mk (Item.mk 0 x3.1 (0:Int) [] (aa.mk 0 0 false [])).kind (Item.mk 0 x3.1 (0:Int) [] (aa.mk 0 0 false [])).name0 (i64.wrap ((0:Int) -x5.1)) (Item.mk 0 x3.1 (0:Int) [] (aa.mk 0 0 false [])).names (aa.mk (Item.mk 0 x3.1 (0:Int) [] (aa.mk 0 0 false [])).layout.kind (Item.mk 0 x3.1 (0:Int) [] (aa.mk 0 0 false [])).layout.n (Item.mk 0 x3.1 (0:Int) [] (aa.mk 0 0 false [])).layout.flag (Item.mk 0 x3.1 (0:Int) [] (aa.mk 0 0 false [])).layout.parts),x5.2.2.2.1,()))else some ((x5.2.1,x5.2.2.1,Item.mk 0 (T3 #[]) (0:Int) [] (aa.mk 0 0 false []),Item.mk (Item.mk 0 x3.1 (0:Int) [] (aa.mk 0 0 false [])).kind (Item.mk 0 x3.1 (0:Int) [] (aa.mk 0 0 false [])).name0 x5.1 (Item.mk 0 x3.1 (0:Int) [] (aa.mk 0 0 false [])).names (aa.mk (Item.mk 0 x3.1 (0:Int) [] (aa.mk 0 0 false [])).layout.kind (Item.mk 0 x3.1 (0:Int) [] (aa.mk 0 0 false [])).layout.n (Item.mk 0 x3.1 (0:Int) [] (aa.mk 0 0 false [])).layout.flag (Item.mk 0 x3.1 (0:Int) [] (aa.mk 0 0 false [])).layout.parts),x5.2.2.2.1,())))>>=λx6=>(if x6.2.1=true then some ((x6.1,true,x6.2.2.1,x6.2.2.2.1,x6.2.2.2.2.1,()))else Eu (x6.2.2.2.2.1,x6.2.2.2.1.name0,())>>=λx7=>some ((x6.1,x7.1,x6.2.2.1,x6.2.2.2.1,x6.2.2.2.2.1,())))>>=λx7=>some ((x7.1,x7.2.1,x7.2.2.2.2.1,x7.2.2.2.1,()))else none else none else none else none else none
def nh:=kO fc (kO d9 (kO d_ (kO lS (kP zL k0))))
def GI:Xc vw:=mX prog 39 nh.1 BZ [(8,oJ,[.norm])] [(8,oJ)] []
theorem sX:aq prog 101 yC gM:=fn0 GI Tryz.func101 nh.2
def kE:Cut SN:=⟨[(0, .bp 100000 0),(1, .dat (.sl .str)),(4, .dat (.int .i64))],[(100000, .box none [.dat (.sl .str), .vh 100001, .dat .bool]),(100001, .vec 44 (.st .itemT))]⟩
def kF:Cut SN:=⟨[(0, .bp 100000 0),(1, .dat (.sl .str)),(4, .dat (.int .i64)),(5, .dat (.int .i64))],[(100000, .box none [.dat (.sl .str), .vh 100001, .dat .bool]),(100001, .vec 44 (.st .itemT))]⟩
def Cf:ax vw:=shL [(0,gw),(2,kE)] gw
def yK:Sig vw:={params:=[.bp 100000 0, .dat (.sl .str)],objs:=[(100000, .box none [.dat (.sl .str), .vh 100001, .dat .bool]),(100001, .vec 44 (.st .itemT))],rcut:=gw,rvars:=[],keep:=[100000,100001]}
noncomputable def ce(v:(List ByteArray)×Int×Int×(List ByteArray)×Bool×(List Item)×Unit):Option (((List ByteArray)×Int×(List ByteArray)×Bool×(List Item)×Unit)):=if decide (v.2.2.1<v.2.1)=true then(if 0<=v.2.1 then v.1[v.2.1.toNat]?>>=λx1=>if 0<=v.2.2.1 then v.1[v.2.2.1.toNat]?>>=λx2=>if(x1.toList==x2.toList)=true then some ((v.1,v.2.1,v.2.2.1,v.2.2.2.1,true,v.2.2.2.2.2.1,()))else some ((v.1,v.2.1,v.2.2.1,v.2.2.2.1,v.2.2.2.2.1,v.2.2.2.2.2.1,()))else none else none)>>=λx1=>ce (x1.1,x1.2.1,i64.wrap (x1.2.2.1+1),x1.2.2.2.1,x1.2.2.2.2.1,x1.2.2.2.2.2.1,())else some ((v.1,v.2.1,v.2.2.2.1,v.2.2.2.2.1,v.2.2.2.2.2.1,())) partial_fixpoint
noncomputable def cd(v:(List ByteArray)×Int×(List ByteArray)×Bool×(List Item)×Unit):Option (((List ByteArray)×Bool×(List Item)×Unit)):=if decide (v.2.1<(↑v.1.length:Int))=true then ce (v.1,v.2.1,(0:Int),v.2.2.1,v.2.2.2.1,v.2.2.2.2.1,())>>=λx1=>cd (x1.1,i64.wrap (x1.2.1+1),x1.2.2.1,x1.2.2.2.1,x1.2.2.2.2.1,())else some ((v.2.2.1,v.2.2.2.1,v.2.2.2.2.1,())) partial_fixpoint
noncomputable def fu(v:(List ByteArray)×(List ByteArray)×Bool×(List Item)×Unit):Option ((List ByteArray)×Bool×(List Item)×Unit):=cd (v.1,(0:Int),v.2.1,v.2.2.1,v.2.2.2.1,())>>=λx1=>some ((x1.1,x1.2.1,x1.2.2.1,()))
def qC:Xc vw:=mX prog 29 c0 Cf [(5,kF,[.norm])] [] [(1,⟨kE,[.exit 0],cd⟩),(4,⟨kF,[.exit 2],ce⟩)]
theorem pI:dU qC (ai (ai (af Tryz.f135) 0) 0) ⟨kF,[.exit 2],ce⟩:=lp0 ce.partial_correctness bI
theorem pH:dU qC (ai (af Tryz.f135) 0) ⟨kE,[.exit 0],cd⟩:=lp1 cd.partial_correctness bI pI
theorem im:aq prog 135 yK fu:=fn1 qC Tryz.func135 bI pH
def dg:Cut SN:=⟨[(0, .bp 100000 0),(2, .bp 2 0),(3, .bp 3 0)],[(100000, .box none [.dat (.sl .str), .vh 100001, .dat .bool]),(2, .st .itemT),(3, .box none [.dat (.int .i64), .dat .str, .dat (.int .i64), .vh 3033, .dat (.int .i64), .dat (.int .i64), .dat .bool, .vh 3037]),(100001, .vec 44 (.st .itemT)),(3033, .vec 9 .str),(3037, .vec 42 (.st .layoutT))]⟩
def iU:Cut SN:=⟨[(0, .bp 100000 0),(2, .bp 2 0),(3, .bp 3 0),(4, .dat (.int .i64))],[(100000, .box none [.dat (.sl .str), .vh 100001, .dat .bool]),(2, .st .itemT),(3, .box none [.dat (.int .i64), .dat .str, .dat (.int .i64), .dat (.sl .str), .dat (.int .i64), .dat (.int .i64), .dat .bool, .vh 3037]),(100001, .vec 44 (.st .itemT)),(3037, .vec 42 (.st .layoutT))]⟩
def wL:Cut SN:=⟨[(0, .bp 100000 0),(2, .bp 2 0),(3, .bp 3 0)],[(100000, .box none [.dat (.sl .str), .vh 100001, .dat .bool]),(2, .st .itemT),(3, .box none [.dat (.int .i64), .dat .str, .dat (.int .i64), .dat (.sl .str), .dat (.int .i64), .dat (.int .i64), .dat .bool, .vh 3037]),(100001, .vec 44 (.st .itemT)),(3037, .vec 42 (.st .layoutT))]⟩
def B5:ax vw:=shL [(0,dg),(2,wL)] dN
def yr:Nat->Bool:=λk=>match k with|135=>true|_=>false
def yD:Sig vw:={params:=[.bp 100000 0],objs:=[(100000, .box none [.dat (.sl .str), .vh 100001, .dat .bool]),(100001, .vec 44 (.st .itemT))],rcut:=dN,rvars:=[.cell 2 44],keep:=[100000,100001]}
noncomputable def b_(v:(List ByteArray)×Bool×Item×Int×ByteArray×Int×Int×Int×Bool×(List Item)×(List ByteArray)×(List aa)×Unit):Option (((List ByteArray)×Bool×Item×Int×ByteArray×Int×Int×Int×Bool×(List Item)×(List ByteArray)×(List aa)×Unit)):=dT (T3 #[44],v.1,v.2.1,v.2.2.2.2.2.2.2.2.2.1,())>>=λx1=>if x1.2.2.2.1.length=v.2.2.2.2.2.2.2.2.2.1.length then if x1.1=true then bO (x1.2.1,x1.2.2.1,x1.2.2.2.1,())>>=λx2=>if x2.2.2.2.1.length=x1.2.2.2.1.length then if v.2.2.2.2.2.2.2.2.2.2.1.length+[x2.1].length<=4294967296 then b_ (x2.2.1,x2.2.2.1,v.2.2.1,v.2.2.2.1,v.2.2.2.2.1,v.2.2.2.2.2.1,v.2.2.2.2.2.2.1,v.2.2.2.2.2.2.2.1,v.2.2.2.2.2.2.2.2.1,x2.2.2.2.1,v.2.2.2.2.2.2.2.2.2.2.1++[x2.1],v.2.2.2.2.2.2.2.2.2.2.2.1,())else none else none else some ((x1.2.1,x1.2.2.1,v.2.2.1,v.2.2.2.1,v.2.2.2.2.1,v.2.2.2.2.2.1,v.2.2.2.2.2.2.1,v.2.2.2.2.2.2.2.1,v.2.2.2.2.2.2.2.2.1,x1.2.2.2.1,v.2.2.2.2.2.2.2.2.2.2.1,v.2.2.2.2.2.2.2.2.2.2.2.1,()))else none partial_fixpoint
noncomputable def bN(v:Int×(List ByteArray)×Bool×Item×Int×ByteArray×Int×(List ByteArray)×Int×Int×Bool×(List Item)×(List aa)×Unit):Option (((List ByteArray)×Bool×Item×Int×ByteArray×Int×(List ByteArray)×Int×Int×Bool×(List Item)×(List aa)×Unit)):=if decide (v.1<(↑v.2.2.2.2.2.2.2.1.length:Int))=true then(if v.2.2.1=true then some ((v.1,v.2.1,true,v.2.2.2.1,v.2.2.2.2.1,v.2.2.2.2.2.1,v.2.2.2.2.2.2.1,v.2.2.2.2.2.2.2.1,v.2.2.2.2.2.2.2.2.1,v.2.2.2.2.2.2.2.2.2.1,v.2.2.2.2.2.2.2.2.2.2.1,v.2.2.2.2.2.2.2.2.2.2.2.1,v.2.2.2.2.2.2.2.2.2.2.2.2.1,()))else if 0<=v.1 then v.2.2.2.2.2.2.2.1[v.1.toNat]?>>=λx1=>Eu (v.2.2.2.2.2.2.2.2.2.2.2.1,x1,())>>=λx2=>some ((v.1,v.2.1,x2.1,v.2.2.2.1,v.2.2.2.2.1,v.2.2.2.2.2.1,v.2.2.2.2.2.2.1,v.2.2.2.2.2.2.2.1,v.2.2.2.2.2.2.2.2.1,v.2.2.2.2.2.2.2.2.2.1,v.2.2.2.2.2.2.2.2.2.2.1,v.2.2.2.2.2.2.2.2.2.2.2.1,v.2.2.2.2.2.2.2.2.2.2.2.2.1,()))else none)>>=λx1=>bN (i64.wrap (x1.1+1),x1.2.1,x1.2.2.1,x1.2.2.2.1,x1.2.2.2.2.1,x1.2.2.2.2.2.1,x1.2.2.2.2.2.2.1,x1.2.2.2.2.2.2.2.1,x1.2.2.2.2.2.2.2.2.1,x1.2.2.2.2.2.2.2.2.2.1,x1.2.2.2.2.2.2.2.2.2.2.1,x1.2.2.2.2.2.2.2.2.2.2.2.1,x1.2.2.2.2.2.2.2.2.2.2.2.2.1,())else some ((v.2.1,v.2.2.1,v.2.2.2.1,v.2.2.2.2.1,v.2.2.2.2.2.1,v.2.2.2.2.2.2.1,v.2.2.2.2.2.2.2.1,v.2.2.2.2.2.2.2.2.1,v.2.2.2.2.2.2.2.2.2.1,v.2.2.2.2.2.2.2.2.2.2.1,v.2.2.2.2.2.2.2.2.2.2.2.1,v.2.2.2.2.2.2.2.2.2.2.2.2.1,())) partial_fixpoint
noncomputable def gN(v:(List ByteArray)×Bool×(List Item)×Unit):Option ((List ByteArray)×Bool×(List Item)×Item×Unit):=aQ (T3 #[101,110,117,109],v.1,v.2.1,v.2.2.1,())>>=λx1=>if x1.2.2.1.length=v.2.2.1.length then(bO (x1.1,x1.2.1,x1.2.2.1,())>>=λx2=>if x2.2.2.2.1.length=x1.2.2.1.length then some ((x2.2.1,x2.2.2.1,Item.mk 0 (T3 #[]) (0:Int) [] (aa.mk 0 0 false []),(1:Int),x2.1,(0:Int),(0:Int),(0:Int),false,x2.2.2.2.1,[],[],()))else none)>>=λx2=>aQ (T3 #[123],x2.1,x2.2.1,x2.2.2.2.2.2.2.2.2.2.1,())>>=λx3=>if x3.2.2.1.length=x2.2.2.2.2.2.2.2.2.2.1.length then bO (x3.1,x3.2.1,x3.2.2.1,())>>=λx4=>if x4.2.2.2.1.length=x3.2.2.1.length then if x2.2.2.2.2.2.2.2.2.2.2.1.length+[x4.1].length<=4294967296 then b_ (x4.2.1,x4.2.2.1,x2.2.2.1,x2.2.2.2.1,x2.2.2.2.2.1,x2.2.2.2.2.2.1,x2.2.2.2.2.2.2.1,x2.2.2.2.2.2.2.2.1,x2.2.2.2.2.2.2.2.2.1,x4.2.2.2.1,x2.2.2.2.2.2.2.2.2.2.2.1++[x4.1],x2.2.2.2.2.2.2.2.2.2.2.2.1,())>>=λx5=>aQ (T3 #[125],x5.1,x5.2.1,x5.2.2.2.2.2.2.2.2.2.1,())>>=λx6=>if x6.2.2.1.length=x5.2.2.2.2.2.2.2.2.2.1.length then aQ (T3 #[59],x6.1,x6.2.1,x6.2.2.1,())>>=λx7=>if x7.2.2.1.length=x6.2.2.1.length then fu (x5.2.2.2.2.2.2.2.2.2.2.1,x7.1,x7.2.1,x7.2.2.1,())>>=λx8=>if x8.2.2.1.length=x7.2.2.1.length then bN ((0:Int),x8.1,x8.2.1,x5.2.2.1,x5.2.2.2.1,x5.2.2.2.2.1,x5.2.2.2.2.2.1,x5.2.2.2.2.2.2.2.2.2.2.1,x5.2.2.2.2.2.2.1,x5.2.2.2.2.2.2.2.1,x5.2.2.2.2.2.2.2.2.1,x8.2.2.1,x5.2.2.2.2.2.2.2.2.2.2.2.1,())>>=λx9=>some ((x9.1,x9.2.1,x9.2.2.2.2.2.2.2.2.2.2.1,Item.mk x9.2.2.2.1 x9.2.2.2.2.1 x9.2.2.2.2.2.1 x9.2.2.2.2.2.2.1 (aa.mk x9.2.2.2.2.2.2.2.1 x9.2.2.2.2.2.2.2.2.1 x9.2.2.2.2.2.2.2.2.2.1 x9.2.2.2.2.2.2.2.2.2.2.2.1),()))else none else none else none else none else none else none else none
def f_:=kO fc (kO d9 (kO d_ (kP zL (kO im k0))))
def qB:Xc vw:={P:=prog,n:=63,nm:=λd=>match d with|9=>40009|_=>d,call:=f_.1,pre:=yr,sh:=B5,regs:=λk=>match k with|2=>some dg|13=>some iU|_=>none,loops:=λk=>match k with|5=>some {cut:=dg,alts:=[.exit 0],F:=b_}|11=>some {cut:=iU,alts:=[.exit 2],F:=bN}|_=>none}
theorem pz:dU qB (ai (af Tryz.f102) 0) ⟨dg,[.exit 0],b_⟩:=lp0 b_.partial_correctness f_.2
theorem nZ:dU qB (ai (af Tryz.f102) 1) ⟨iU,[.exit 2],bN⟩:=lp0 bN.partial_correctness f_.2
theorem sY:aq prog 102 yD gN:=fn2 qB Tryz.func102 f_.2 pz nZ
end Go.Proofs.YtpelkenpapfadaaGreatDoor
end
