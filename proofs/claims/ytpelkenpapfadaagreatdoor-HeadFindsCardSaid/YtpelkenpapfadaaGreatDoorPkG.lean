/-
  Texts of this claim, joined by a program of mine: what the theorem uses.
-/
import Derived.Test.YtpelkenpapfadaaGreatDoorPkE
import Derived.Test.YtpelkenpapfadaaGreatDoorPkC
import Derived.Test.YtpelkenpapfadaaGreatDoorPkF
open ByteArray renaming mk→TZ
open Int renaming toNat→U1
open List renaming drop→Xe,take→WS
open Sum renaming inl→UF,inr→UI
noncomputable section
set_option linter.unusedVariables false
section
namespace Go.Proofs.YtpelkenpapfadaaGreatDoor
open Go.Awp Go.Tx
open IntKind (i64)
open Go.Proofs.Tryz (prog)
set_option maxHeartbeats 4000000
set_option maxRecDepth 100000
def dP:Cut SN:=⟨[(0, .bp 100000 0),(2, .dat (.int .i64)),(4, .bp 4 0),(6, .dat (.int .i64)),(98, .dat (.sl (.st .layoutT))),(99, .dat (.int .i64)),(100, .dat (.int .i64))],[(100000, .st .countedT),(4, .st .layoutT)]⟩
def eD:Cut SN:=⟨[(0, .bp 100000 0),(2, .dat (.int .i64)),(126, .dat (.sl (.st .layoutT))),(127, .dat (.int .i64)),(128, .dat (.int .i64))],[(100000, .st .countedT)]⟩
def dO:Cut SN:=⟨[(0, .bp 100000 0),(2, .dat (.int .i64)),(4, .bp 4 0)],[(100000, .st .countedT),(4, .st .layoutT)]⟩
def wG:Cut SN:=⟨[(0, .bp 100000 0),(2, .dat (.int .i64)),(4, .bp 4 0),(6, .dat (.int .i64))],[(100000, .st .countedT),(4, .st .layoutT)]⟩
def kB:Cut SN:=⟨[(0, .bp 100000 0)],[(100000, .st .countedT)]⟩
def fw:ay vw:=shL [(1,wG),(3,kB)] kB
def bE:Sig vw:={params:=[.bp 100000 0, .dat (.st .layoutT), .dat (.int .i64)],objs:=[(100000, .st .countedT)],rcut:=kB,rvars:=[],keep:=[100000]}
noncomputable def aC(v:Int×Int×(List aa)×Int×Int×al×aa×Unit):Option ((Int×Int×al×aa×Unit)):=if decide (v.2.2.2.2.1<v.2.2.2.1)=true then if 0<=v.2.2.2.2.1 then v.2.2.1[v.2.2.2.2.1.toNat]?>>=λx1=>Bn (x1,())>>=λx2=>lk ([v.2.1,x2.1],())>>=λx3=>aC (v.1,x3.1,v.2.2.1,v.2.2.2.1,i64.wrap (v.2.2.2.2.1+1),v.2.2.2.2.2.1,v.2.2.2.2.2.2.1,())else none else some ((v.1,v.2.1,v.2.2.2.2.2.1,v.2.2.2.2.2.2.1,())) partial_fixpoint
mutual
noncomputable def bt(v:Int×(List aa)×Int×Int×al×Unit):Option ((al×Unit)):=if decide (v.2.2.2.1<v.2.2.1)=true then if 0<=v.2.2.2.1 then v.2.1[v.2.2.2.1.toNat]?>>=λx1=>n_126sf4a5 (x1,i64.wrap (v.1+1),v.2.2.2.2.1,())>>=λx2=>bt (v.1,v.2.1,v.2.2.1,i64.wrap (v.2.2.2.1+1),x2.1,())else none else some ((v.2.2.2.2.1,())) partial_fixpoint
noncomputable def n_126sf4a5(v:aa×Int×al×Unit):Option (al×Unit):=(if v.2.2.1.large=true then some ((v.2.1,al.mk (i64.wrap (v.2.2.1.count+1)) (max v.2.2.1.deep v.2.1) true,v.1,()))else if decide (i64.wrap (v.2.2.1.count+1)>60)=true then some ((v.2.1,al.mk (i64.wrap (v.2.2.1.count+1)) (max v.2.2.1.deep v.2.1) true,v.1,()))else if decide (v.2.1>5)=true then some ((v.2.1,al.mk (i64.wrap (v.2.2.1.count+1)) (max v.2.2.1.deep v.2.1) true,v.1,()))else some ((v.2.1,al.mk (i64.wrap (v.2.2.1.count+1)) (max v.2.2.1.deep v.2.1) (decide ((↑v.1.parts.length:Int)>12)),v.1,())))>>=λx1=>(if(x1.2.2.1.kind==2)=true then(if x1.2.1.large=true then some ((x1.1,al.mk x1.2.1.count x1.2.1.deep true,x1.2.2.1,()))else some ((x1.1,al.mk x1.2.1.count x1.2.1.deep (decide (x1.2.2.1.n>64)),x1.2.2.1,())))>>=λx2=>some ((x2.1,x2.2.1,x2.2.2.1,()))else if(x1.2.2.1.kind==5)=true then(if x1.2.1.large=true then some ((x1.1,al.mk x1.2.1.count x1.2.1.deep true,x1.2.2.1,()))else some ((x1.1,al.mk x1.2.1.count x1.2.1.deep (decide (x1.2.2.1.n>1000)),x1.2.2.1,())))>>=λx2=>some ((x2.1,x2.2.1,x2.2.2.1,()))else if(x1.2.2.1.kind==7)=true then(if x1.2.1.large=true then some ((x1.1,al.mk x1.2.1.count x1.2.1.deep true,x1.2.2.1,()))else some ((x1.1,al.mk x1.2.1.count x1.2.1.deep (decide (x1.2.2.1.n>65536)),x1.2.2.1,())))>>=λx2=>some ((x2.1,x2.2.1,x2.2.2.1,()))else if(x1.2.2.1.kind==9)=true then aC (x1.1,(0:Int),x1.2.2.1.parts,(↑x1.2.2.1.parts.length:Int),(0:Int),x1.2.1,x1.2.2.1,())>>=λx2=>(if x2.2.2.1.large=true then some ((x2.1,al.mk x2.2.2.1.count x2.2.2.1.deep true,x2.2.2.2.1,()))else some ((x2.1,al.mk x2.2.2.1.count x2.2.2.1.deep (decide (x2.2.1>64)),x2.2.2.2.1,())))>>=λx3=>some ((x3.1,x3.2.1,x3.2.2.1,()))else some ((x1.1,x1.2.1,x1.2.2.1,())))>>=λx2=>if x2.2.1.large=true then some ((x2.2.1,()))else bt (x2.1,x2.2.2.1.parts,(↑x2.2.2.1.parts.length:Int),(0:Int),x2.2.1,())>>=λx3=>some ((x3.1,())) partial_fixpoint
end
def ga(aC:Int×Int×(List aa)×Int×Int×al×aa×Unit->Option ((Int×Int×al×aa×Unit)))(bt:Int×(List aa)×Int×Int×al×Unit->Option ((al×Unit)))(n_126sf4a5:aa×Int×al×Unit->Option (al×Unit)):bx vw:=λA fid args S k=>match fid with|111=>aO prog vI lk A args S k|126=>eN prog bE n_126sf4a5 A args S k|144=>aO prog Ju Bn A args S k|_=>none
def bf(aC:Int×Int×(List aa)×Int×Int×al×aa×Unit->Option ((Int×Int×al×aa×Unit)))(bt:Int×(List aa)×Int×Int×al×Unit->Option ((al×Unit)))(n_126sf4a5:aa×Int×al×Unit->Option (al×Unit)):Xc vw:={P:=prog,n:=138,call:=ga aC bt n_126sf4a5,pre:=j9,sh:=fw,joins:=λk=>match k with|19=>some (dO,[.norm])|_=>none,regs:=λk=>match k with|3=>some dO|6=>some dO|8=>some dO|10=>some dO|18=>some dO|_=>none,loops:=λk=>match k with|14=>some {cut:=dP,alts:=[.exit 1],F:=aC}|21=>some {cut:=eD,alts:=[.exit 3],F:=bt}|_=>none}
abbrev eA(v:Int×Int×(List aa)×Int×Int×al×aa×Unit)(r:(Int×Int×al×aa×Unit)):Prop:=(λv out=>∀C:Ctx,C.P=prog->C.N=138/\Fx C j9->nU C (ai (af Tryz.f126) 0) (Go.Tx.aG vw (bP vw dP v)) (tP fw [.exit 1] out)) v r
theorem qB(f0:Int×Int×(List aa)×Int×Int×al×aa×Unit->Option ((Int×Int×al×aa×Unit)))(h0:∀v r,f0 v=some r->eA v r):ax prog (bf f0 (λ_=>none) (λ_=>none)).call:=(by
 intro A fid args S dst k r h
 unfold bf ga at h
 simp only at h
 split at h
 ·exact aj (e_) rfl rfl h
 ·exact di ((λv r x h hx=>by cases h)) h
 ·exact aj (om) rfl rfl h
 ·cases h)
theorem qX(f0:Int×Int×(List aa)×Int×Int×al×aa×Unit->Option ((Int×Int×al×aa×Unit)))(h0:∀v r,f0 v=some r->eA v r)(v:Int×Int×(List aa)×Int×Int×al×aa×Unit)(r:(Int×Int×al×aa×Unit))(h:exL (bf f0 (λ_=>none) (λ_=>none)) (ai (af Tryz.f126) 0) dP [.exit 1] f0 v=some r):eA v r:=λC hP hN=>cQ (X:=bf f0 (λ_=>none) (λ_=>none)) (b:=(ai (af Tryz.f126) 0)) hP hN Ty.mixed (qB f0 h0) (bc (X:=bf f0 (λ_=>none) (λ_=>none)) (c:=(ai (af Tryz.f126) 0)) (bj (by kernel_rfl:True=fx (bg C (bf f0 (λ_=>none) (λ_=>none))) (aJ (ai (af Tryz.f126) 0))) trivial)) (cut:=dP) (alts:=[.exit 1]) (F:=f0) (λv out h=>h0 v out h C hP hN) h
theorem n5:∀v out,aC v=some out->(λv out=>∀C:Ctx,C.P=prog->C.N=138/\Fx C j9->nU C (ai (af Tryz.f126) 0) (Go.Tx.aG vw (bP vw dP v)) (tP fw [.exit 1] out)) v out:=(aC.partial_correctness (motive:=eA) (λf0 h0 v r h=>qX f0 h0 v r (bj (by kernel_rfl) h)))
abbrev cn(v:Int×(List aa)×Int×Int×al×Unit)(r:(al×Unit)):Prop:=(λv out=>∀C:Ctx,C.P=prog->C.N=138/\Fx C j9->nU C (ai (af Tryz.f126) 1) (Go.Tx.aG vw (bP vw eD v)) (tP fw [.exit 3] out)) v r
abbrev fJ(v:aa×Int×al×Unit)(r:al×Unit):Prop:=(λv r=>∀x,pW prog bE r=some x->iA prog 126 (encL vw (az bE v).len (aU bE v).1) (bo (az bE v).len (az bE v).own) (am vw (bP vw bE.rcut r).len x) (bo (bP vw bE.rcut r).len (jb bE r))) v r
theorem qC(f0:Int×(List aa)×Int×Int×al×Unit->Option ((al×Unit)))(f1:aa×Int×al×Unit->Option (al×Unit))(h0:∀v r,f0 v=some r->cn v r)(h1:∀v r,f1 v=some r->fJ v r):ax prog (bf (λ_=>none) f0 f1).call:=(by
 intro A fid args S dst k r h
 unfold bf ga at h
 simp only at h
 split at h
 ·exact aj (e_) rfl rfl h
 ·exact di ((λv r x h hx=>h1 v r h x hx)) h
 ·exact aj (om) rfl rfl h
 ·cases h)
theorem qY(f0:Int×(List aa)×Int×Int×al×Unit->Option ((al×Unit)))(f1:aa×Int×al×Unit->Option (al×Unit))(h0:∀v r,f0 v=some r->cn v r)(h1:∀v r,f1 v=some r->fJ v r)(v:Int×(List aa)×Int×Int×al×Unit)(r:(al×Unit))(h:exL (bf (λ_=>none) f0 f1) (ai (af Tryz.f126) 1) eD [.exit 3] f0 v=some r):cn v r:=λC hP hN=>cQ (X:=bf (λ_=>none) f0 f1) (b:=(ai (af Tryz.f126) 1)) hP hN Ty.mixed (qC f0 f1 h0 h1) (bc (X:=bf (λ_=>none) f0 f1) (c:=(ai (af Tryz.f126) 1)) (bj (by kernel_rfl:True=fx (bg C (bf (λ_=>none) f0 f1)) (aJ (ai (af Tryz.f126) 1))) trivial)) (cut:=eD) (alts:=[.exit 3]) (F:=f0) (λv out h=>h0 v out h C hP hN) h
theorem xl(f0:Int×(List aa)×Int×Int×al×Unit->Option ((al×Unit)))(h0:∀v r,f0 v=some r->cn v r):ax prog (bf aC f0 (λ_=>none)).call:=(by
 intro A fid args S dst k r h
 unfold bf ga at h
 simp only at h
 split at h
 ·exact aj (e_) rfl rfl h
 ·exact di ((λv r x h hx=>by cases h)) h
 ·exact aj (om) rfl rfl h
 ·cases h)
theorem yM(f0:Int×(List aa)×Int×Int×al×Unit->Option ((al×Unit)))(h0:∀v r,f0 v=some r->cn v r)(v:aa×Int×al×Unit)(r:al×Unit)(h:exF (bf aC f0 (λ_=>none)) bE rfl (af Tryz.f126) v=some r):fJ v r:=λx hx=>lI (X:=bf aC f0 (λ_=>none)) (sig:=bE) rfl Tryz.func126 (c:=af Tryz.f126) (by kernel_rfl) Tryz.ntmps126 (by kernel_rfl) (by kernel_rfl) rfl Ty.mixed (xl f0 h0) rfl (λC hP hN=>(bc (X:=bf aC f0 (λ_=>none)) (c:=(af Tryz.f126)) (bj (by kernel_rfl:fx (bg C (bf aC f0 (λ_=>none))) [(ai (af Tryz.f126) 0),(ai (af Tryz.f126) 1)]=fx (bg C (bf aC f0 (λ_=>none))) (aJ (af Tryz.f126))) ⟨dJ (X:=bf aC f0 (λ_=>none)) (b:=(ai (af Tryz.f126) 0)) (by kernel_rfl) (show dx C (ai (af Tryz.f126) 0) (sh:=fw) {cut:=dP,alts:=[.exit 1],F:=aC}fromλv out h=>n5 v out h C hP hN),dJ (X:=bf aC f0 (λ_=>none)) (b:=(ai (af Tryz.f126) 1)) (by kernel_rfl) (show dx C (ai (af Tryz.f126) 1) (sh:=fw) {cut:=eD,alts:=[.exit 3],F:=f0}fromλv out h=>h0 v out h C hP hN),trivial⟩))) h x hx
theorem mW:(∀v r,bt v=some r->cn v r)/\(∀v r,n_126sf4a5 v=some r->fJ v r):=by
 refine bt.mutual_partial_correctness
  (motive_1:=cn)
  (motive_2:=fJ)
  ?_ ?_
 ·exact(λf0 f1 h0 h1 v r h=>qY f0 f1 h0 h1 v r (bj (by kernel_rfl) h))
 ·exact(λf0 h0 v r h=>yM f0 h0 v r (bj (by kernel_rfl) h))
theorem sY:aq prog 126 bE n_126sf4a5:=λv r x h hx=>mW.2 v r h x hx
def ua:Cut SN:=⟨[(1, .bp 1 0),(3, .dat (.int .i64)),(7, .dat (.sl (.st .layoutT))),(8, .dat (.int .i64)),(9, .dat (.int .i64))],[(1, .st .layoutT)]⟩
def y_:Cut SN:=⟨[(1, .bp 1 0),(3, .dat (.int .i64))],[(1, .st .layoutT)]⟩
def Lf:ay vw:=shL [(0,y_)] bM
def iF:Sig vw:=sg [.dat (.st .layoutT)] bM [.tmp 2]
mutual
noncomputable def fK(v:Int×(List aa)×Int×Int×aa×Unit):Option ((Int×aa×Unit)):=if decide (v.2.2.2.1<v.2.2.1)=true then if 0<=v.2.2.2.1 then v.2.1[v.2.2.2.1.toNat]?>>=λx1=>n_127 (x1,())>>=λx2=>lk ([v.1,x2.1],())>>=λx3=>fK (x3.1,v.2.1,v.2.2.1,i64.wrap (v.2.2.2.1+1),v.2.2.2.2.1,())else none else some ((v.1,v.2.2.2.2.1,())) partial_fixpoint
noncomputable def n_127(v:aa×Unit):Option (Int×Unit):=fK ((0:Int),v.1.parts,(↑v.1.parts.length:Int),(0:Int),v.1,())>>=λx1=>if(x1.2.1.kind==5)=true then lk ([(1:Int),i64.wrap (max (0:Int) x1.2.1.n *x1.1)],())>>=λx2=>some ((x2.1,()))else lk ([(1:Int),x1.1],())>>=λx2=>some ((x2.1,())) partial_fixpoint
end
def xc(fK:Int×(List aa)×Int×Int×aa×Unit->Option ((Int×aa×Unit)))(n_127:aa×Unit->Option (Int×Unit)):bx vw:=λA fid args S k=>match fid with|111=>aO prog vI lk A args S k|127=>aO prog iF n_127 A args S k|_=>none
def Ab(fK:Int×(List aa)×Int×Int×aa×Unit->Option ((Int×aa×Unit)))(n_127:aa×Unit->Option (Int×Unit)):Xc vw:={P:=prog,n:=32,call:=xc fK n_127,pre:=j9,sh:=Lf,loops:=λk=>match k with|3=>some {cut:=ua,alts:=[.exit 0],F:=fK}|_=>none}
abbrev hU(v:Int×(List aa)×Int×Int×aa×Unit)(r:(Int×aa×Unit)):Prop:=(λv out=>∀C:Ctx,C.P=prog->C.N=32/\Fx C j9->nU C (ai (af Tryz.f127) 0) (Go.Tx.aG vw (bP vw ua v)) (tP Lf [.exit 0] out)) v r
abbrev uX(v:aa×Unit)(r:Int×Unit):Prop:=(λv r=>∀x,pW prog iF r=some x->iA prog 127 (encL vw (az iF v).len (aU iF v).1) (bo (az iF v).len (az iF v).own) (am vw (bP vw iF.rcut r).len x) (bo (bP vw iF.rcut r).len (jb iF r))) v r
theorem GW(f0:Int×(List aa)×Int×Int×aa×Unit->Option ((Int×aa×Unit)))(f1:aa×Unit->Option (Int×Unit))(h0:∀v r,f0 v=some r->hU v r)(h1:∀v r,f1 v=some r->uX v r):ax prog (Ab f0 f1).call:=(by
 intro A fid args S dst k r h
 unfold Ab xc at h
 simp only at h
 split at h
 ·exact aj (e_) rfl rfl h
 ·exact aj ((λv r x h hx=>h1 v r h x hx)) rfl rfl h
 ·cases h)
theorem Id(f0:Int×(List aa)×Int×Int×aa×Unit->Option ((Int×aa×Unit)))(f1:aa×Unit->Option (Int×Unit))(h0:∀v r,f0 v=some r->hU v r)(h1:∀v r,f1 v=some r->uX v r)(v:Int×(List aa)×Int×Int×aa×Unit)(r:(Int×aa×Unit))(h:exL (Ab f0 f1) (ai (af Tryz.f127) 0) ua [.exit 0] f0 v=some r):hU v r:=λC hP hN=>cQ (X:=Ab f0 f1) (b:=(ai (af Tryz.f127) 0)) hP hN Ty.mixed (GW f0 f1 h0 h1) (bc (X:=Ab f0 f1) (c:=(ai (af Tryz.f127) 0)) (bj (by kernel_rfl:True=fx (bg C (Ab f0 f1)) (aJ (ai (af Tryz.f127) 0))) trivial)) (cut:=ua) (alts:=[.exit 0]) (F:=f0) (λv out h=>h0 v out h C hP hN) h
theorem MA(f0:Int×(List aa)×Int×Int×aa×Unit->Option ((Int×aa×Unit)))(h0:∀v r,f0 v=some r->hU v r):ax prog (Ab f0 (λ_=>none)).call:=(by
 intro A fid args S dst k r h
 unfold Ab xc at h
 simp only at h
 split at h
 ·exact aj (e_) rfl rfl h
 ·exact aj ((λv r x h hx=>by cases h)) rfl rfl h
 ·cases h)
theorem NW(f0:Int×(List aa)×Int×Int×aa×Unit->Option ((Int×aa×Unit)))(h0:∀v r,f0 v=some r->hU v r)(v:aa×Unit)(r:Int×Unit)(h:exF (Ab f0 (λ_=>none)) iF rfl (af Tryz.f127) v=some r):uX v r:=λx hx=>lI (X:=Ab f0 (λ_=>none)) (sig:=iF) rfl Tryz.func127 (c:=af Tryz.f127) (by kernel_rfl) Tryz.ntmps127 (by kernel_rfl) (by kernel_rfl) rfl Ty.mixed (MA f0 h0) rfl (λC hP hN=>(bc (X:=Ab f0 (λ_=>none)) (c:=(af Tryz.f127)) (bj (by kernel_rfl:fx (bg C (Ab f0 (λ_=>none))) [(ai (af Tryz.f127) 0)]=fx (bg C (Ab f0 (λ_=>none))) (aJ (af Tryz.f127))) ⟨dJ (X:=Ab f0 (λ_=>none)) (b:=(ai (af Tryz.f127) 0)) (by kernel_rfl) (show dx C (ai (af Tryz.f127) 0) (sh:=Lf) {cut:=ua,alts:=[.exit 0],F:=f0}fromλv out h=>h0 v out h C hP hN),trivial⟩))) h x hx
theorem xP:(∀v r,fK v=some r->hU v r)/\(∀v r,n_127 v=some r->uX v r):=by
 refine fK.mutual_partial_correctness
  (motive_1:=hU)
  (motive_2:=uX)
  ?_ ?_
 ·exact(λf0 f1 h0 h1 v r h=>Id f0 f1 h0 h1 v r (bj (by kernel_rfl) h))
 ·exact(λf0 h0 v r h=>NW f0 h0 v r (bj (by kernel_rfl) h))
theorem Ht:aq prog 127 iF n_127:=λv r x h hx=>xP.2 v r h x hx
def Qb:ay vw:={rcut:=dG}
def NJ:Sig vw:=sg [.dat (.st .layoutT)] dG [.tmp 2]
noncomputable def Em(v:aa×Unit):Option (Bool×Unit):=(if(v.1.kind !=1)=true then some ((v.1.kind !=2,()))else some ((false,())))>>=λx1=>some ((x1.1,()))
def TK:Xc vw:=mX prog 11 c0 Qb [] [(1,dG)] []
theorem HF:aq prog 166 NJ Em:=fn0 TK Tryz.func166 bB
def rB:Cut SN:=⟨[(0, .dat (.sl (.st .layoutT))),(1, .fn 166 [] []),(7, .dat (.int .i64)),(8, .dat (.int .i64))],[]⟩
def FE:ay vw:=shL [(0,nX)] nW
def Cq:Sig vw:=sg [.dat (.sl (.st .layoutT)), .fn 166 [] []] nW [.tmp 4]
noncomputable def dK(v:(List aa)×Int×Int×Unit):Option (((Int×Unit)⊕(Unit))):=if decide (v.2.2.1<v.2.1)=true then if 0<=v.2.2.1 then v.1[v.2.2.1.toNat]?>>=λx1=>Em (x1,())>>=λx2=>if x2.1=true then some (UF (v.2.2.1,()))else dK (v.1,v.2.1,i64.wrap (v.2.2.1+1),())else none else some (UI ()) partial_fixpoint
noncomputable def l_(v:(List aa)×Unit):Option (Int×Unit):=dK (v.1,(↑v.1.length:Int),(0:Int),())>>=λx1=>match x1 with| .inl y1=>some y1| .inr y1=>some (((-1:Int),()))
def kJ:=kP HF k0
def Ae:Xc vw:=mX prog 19 kJ.1 FE [] [] [(2,⟨rB,[.ret, .exit 0],dK⟩)]
theorem qH:dT Ae (ai (af Tryz.f189) 0) ⟨rB,[.ret, .exit 0],dK⟩:=lp0 dK.partial_correctness kJ.2
theorem u5:aq prog 189 Cq l_:=fn1 Ae Tryz.func189 kJ.2 qH
def FB:ay vw:={rcut:=gl}
def r_:Sig vw:=sg [.dat (.sl (.st .layoutT)), .fn 166 [] []] gl [.tmp 4]
noncomputable def jd(v:(List aa)×Unit):Option (Bool×Unit):=l_ (v.1,())>>=λx1=>some ((decide (x1.1>=0),()))
def oP:=kP u5 k0
def IF:Xc vw:=mX prog 9 oP.1 FB [] [] []
theorem u4:aq prog 165 r_ jd:=fn0 IF Tryz.func165 oP.2
def L_:Cut SN:=⟨[(1, .bp 1 0),(3, .dat (.int .i64)),(4, .dat .bool),(9, .dat (.int .i64))],[(1, .st .layoutT)]⟩
def oM:Cut SN:=⟨[(1, .bp 1 0),(4, .dat .bool)],[(1, .st .layoutT)]⟩
def wH:Cut SN:=⟨[(1, .bp 1 0),(3, .dat (.int .i64)),(4, .dat .bool)],[(1, .st .layoutT)]⟩
def JT:Cut SN:=⟨[(1, .bp 1 0),(63, .dat .bool)],[(1, .st .layoutT)]⟩
def JU:Cut SN:=⟨[(1, .bp 1 0),(71, .dat .bool)],[(1, .st .layoutT)]⟩
def P4:ay vw:=shL [(0,wH),(1,wH),(6,oM),(7,oM),(8,nX)] dG
def iG:Sig vw:=sg [.dat (.st .layoutT)] dG [.tmp 2]
def FC:ay vw:={rcut:=gl}
def cw:Sig vw:=sg [.dat (.sl (.st .layoutT)), .fn 167 [] []] gl [.tmp 4]
def Qc:ay vw:={rcut:=dG}
def js:Sig vw:=sg [.dat (.st .layoutT)] dG [.tmp 2]
def gy:Cut SN:=⟨[(0, .dat (.sl (.st .layoutT))),(1, .fn 167 [] []),(7, .dat (.int .i64)),(8, .dat (.int .i64))],[]⟩
def p7:ay vw:=shL [(0,nX)] nW
def cx:Sig vw:=sg [.dat (.sl (.st .layoutT)), .fn 167 [] []] nW [.tmp 4]
mutual
noncomputable def fY(v:aa×Unit):Option (Bool×Unit):=((((if(v.1.kind==0)=true then some (UI ((0:Int),v.1.n==0,v.1,()))else if(v.1.kind==1)=true then some (UI ((0:Int),v.1.n==0,v.1,()))else if(v.1.kind==3)=true then some (UI ((0:Int),v.1.n==0,v.1,()))else some (UF ((0:Int),v.1.n==0,v.1.kind,v.1,())))>>=λx1=>match x1 with| .inl y1=>if(y1.2.2.1==2)=true then some (UI (UF (y1.1,decide (y1.2.2.2.1.n>=1),y1.2.2.2.1,())))else if(y1.2.2.1==7)=true then some (UI (UF (y1.1,decide (y1.2.2.2.1.n>=1),y1.2.2.2.1,())))else if(y1.2.2.1==5)=true then some (UF (decide (y1.2.2.2.1.n>=0),y1.2.2.2.1,()))else if(y1.2.2.1==4)=true then some (UF (y1.2.1,y1.2.2.2.1,()))else if(y1.2.2.1==8)=true then some (UI (UI (UF (y1.2.1,y1.2.2.2.1,()))))else if(y1.2.2.1==6)=true then some (UI (UI (UI (UF (y1.2.1,y1.2.2.2.1,())))))else if(y1.2.2.1==9)=true then some (UI (UI (UI (UF (y1.2.1,y1.2.2.2.1,())))))else some (UI (UI (UI (UI ()))))| .inr y1=>some (UI (UF (y1.1,y1.2.1,y1.2.2.1,()))))>>=λx1=>match x1 with| .inl y1=>some (UI (UF ((1:Int),y1.1,y1.2.1,())))| .inr (.inl y1)=>some (UI (UF (y1.1,y1.2.1,y1.2.2.1,())))| .inr (.inr (.inl y1))=>(if y1.1=true then some ((decide ((↑y1.2.1.parts.length:Int)>=1),y1.2.1,()))else some ((false,y1.2.1,())))>>=λx2=>some (UF (x2.1,x2.2.1,()))| .inr (.inr (.inr (.inl y1)))=>some (UF (y1.1,y1.2.1,()))| .inr (.inr (.inr (.inr y1)))=>some (UI (UI ())))>>=λx1=>match x1 with| .inl y1=>some (UF ((↑y1.2.1.parts.length:Int),y1.1,y1.2.1,()))| .inr (.inl y1)=>some (UF (y1.1,y1.2.1,y1.2.2.1,()))| .inr (.inr y1)=>some (UI (false,())))>>=λx1=>match x1 with| .inl y1=>(if(!y1.2.1)=true then some ((true,y1.2.2.1,()))else if((↑y1.2.2.1.parts.length:Int) !=y1.1)=true then some ((true,y1.2.2.1,()))else if y1.2.2.1.flag=true then some ((y1.2.2.1.kind !=2,y1.2.2.1,()))else some ((false,y1.2.2.1,())))>>=λx2=>if x2.1=true then some ((false,()))else(if(x2.2.1.kind==9)=true then jd (x2.2.1.parts,())>>=λx3=>some ((x3.1,x2.2.1,()))else some ((false,x2.2.1,())))>>=λx3=>if x3.1=true then some ((false,()))else n_165c167 (x3.2.1.parts,())>>=λx4=>some ((!x4.1,()))| .inr y1=>some y1 partial_fixpoint
noncomputable def n_165c167(v:(List aa)×Unit):Option (Bool×Unit):=n_189c167 (v.1,())>>=λx1=>some ((decide (x1.1>=0),())) partial_fixpoint
noncomputable def n_189c167(v:(List aa)×Unit):Option (Int×Unit):=n_189c167l2 (v.1,(↑v.1.length:Int),(0:Int),())>>=λx1=>match x1 with| .inl y1=>some y1| .inr y1=>some (((-1:Int),())) partial_fixpoint
noncomputable def n_189c167l2(v:(List aa)×Int×Int×Unit):Option (((Int×Unit)⊕(Unit))):=if decide (v.2.2.1<v.2.1)=true then if 0<=v.2.2.1 then v.1[v.2.2.1.toNat]?>>=λx1=>n_167 (x1,())>>=λx2=>if x2.1=true then some (UF (v.2.2.1,()))else n_189c167l2 (v.1,v.2.1,i64.wrap (v.2.2.1+1),())else none else some (UI ()) partial_fixpoint
noncomputable def n_167(v:aa×Unit):Option (Bool×Unit):=fY (v.1,())>>=λx1=>some ((!x1.1,())) partial_fixpoint
end
def Df(fY:aa×Unit->Option (Bool×Unit))(n_165c167:(List aa)×Unit->Option (Bool×Unit))(n_189c167:(List aa)×Unit->Option (Int×Unit))(n_189c167l2:(List aa)×Int×Int×Unit->Option (((Int×Unit)⊕(Unit))))(n_167:aa×Unit->Option (Bool×Unit)):bx vw:=λA fid args S k=>match fid with|165=>(match args with|[_, .fn 166 _ _]=>aO prog r_ jd A args S k|[_, .fn 167 _ _]=>aO prog cw n_165c167 A args S k|_=>none)|_=>none
def LS(fY:aa×Unit->Option (Bool×Unit))(n_165c167:(List aa)×Unit->Option (Bool×Unit))(n_189c167:(List aa)×Unit->Option (Int×Unit))(n_189c167l2:(List aa)×Int×Int×Unit->Option (((Int×Unit)⊕(Unit))))(n_167:aa×Unit->Option (Bool×Unit)):Xc vw:={P:=prog,n:=76,call:=Df fY n_165c167 n_189c167 n_189c167l2 n_167,pre:=j9,sh:=P4,joins:=λk=>match k with|6=>some (L_,[.norm, .exit 1])|16=>some (oM,[.norm, .exit 0, .exit 6, .exit 7, .exit 8])|18=>some (oM,[.norm, .exit 0, .exit 8])|20=>some (wH,[.norm, .ret])|_=>none,regs:=λk=>match k with|17=>some oM|20=>some JT|22=>some JU|_=>none}
def oQ(fY:aa×Unit->Option (Bool×Unit))(n_165c167:(List aa)×Unit->Option (Bool×Unit))(n_189c167:(List aa)×Unit->Option (Int×Unit))(n_189c167l2:(List aa)×Int×Int×Unit->Option (((Int×Unit)⊕(Unit))))(n_167:aa×Unit->Option (Bool×Unit)):bx vw:=λA fid args S k=>match fid with|189=>aO prog cx n_189c167 A args S k|_=>none
def jW(fY:aa×Unit->Option (Bool×Unit))(n_165c167:(List aa)×Unit->Option (Bool×Unit))(n_189c167:(List aa)×Unit->Option (Int×Unit))(n_189c167l2:(List aa)×Int×Int×Unit->Option (((Int×Unit)⊕(Unit))))(n_167:aa×Unit->Option (Bool×Unit)):Xc vw:={P:=prog,n:=9,call:=oQ fY n_165c167 n_189c167 n_189c167l2 n_167,pre:=j9,sh:=FC}
def Dh(fY:aa×Unit->Option (Bool×Unit))(n_165c167:(List aa)×Unit->Option (Bool×Unit))(n_189c167:(List aa)×Unit->Option (Int×Unit))(n_189c167l2:(List aa)×Int×Int×Unit->Option (((Int×Unit)⊕(Unit))))(n_167:aa×Unit->Option (Bool×Unit)):bx vw:=λA fid args S k=>match fid with|128=>aO prog iG fY A args S k|_=>none
def LT(fY:aa×Unit->Option (Bool×Unit))(n_165c167:(List aa)×Unit->Option (Bool×Unit))(n_189c167:(List aa)×Unit->Option (Int×Unit))(n_189c167l2:(List aa)×Int×Int×Unit->Option (((Int×Unit)⊕(Unit))))(n_167:aa×Unit->Option (Bool×Unit)):Xc vw:={P:=prog,n:=6,call:=Dh fY n_165c167 n_189c167 n_189c167l2 n_167,pre:=j9,sh:=Qc}
def kK(fY:aa×Unit->Option (Bool×Unit))(n_165c167:(List aa)×Unit->Option (Bool×Unit))(n_189c167:(List aa)×Unit->Option (Int×Unit))(n_189c167l2:(List aa)×Int×Int×Unit->Option (((Int×Unit)⊕(Unit))))(n_167:aa×Unit->Option (Bool×Unit)):bx vw:=λA fid args S k=>match fid with|167=>aO prog js n_167 A args S k|_=>none
def c7(fY:aa×Unit->Option (Bool×Unit))(n_165c167:(List aa)×Unit->Option (Bool×Unit))(n_189c167:(List aa)×Unit->Option (Int×Unit))(n_189c167l2:(List aa)×Int×Int×Unit->Option (((Int×Unit)⊕(Unit))))(n_167:aa×Unit->Option (Bool×Unit)):Xc vw:={P:=prog,n:=19,call:=kK fY n_165c167 n_189c167 n_189c167l2 n_167,pre:=j9,sh:=p7,loops:=λk=>match k with|2=>some {cut:=gy,alts:=[.ret, .exit 0],F:=n_189c167l2}|_=>none}
abbrev uY(v:aa×Unit)(r:Bool×Unit):Prop:=(λv r=>∀x,pW prog iG r=some x->iA prog 128 (encL vw (az iG v).len (aU iG v).1) (bo (az iG v).len (az iG v).own) (am vw (bP vw iG.rcut r).len x) (bo (bP vw iG.rcut r).len (jb iG r))) v r
abbrev gI(v:(List aa)×Unit)(r:Bool×Unit):Prop:=(λv r=>∀x,pW prog cw r=some x->iA prog 165 (encL vw (az cw v).len (aU cw v).1) (bo (az cw v).len (az cw v).own) (am vw (bP vw cw.rcut r).len x) (bo (bP vw cw.rcut r).len (jb cw r))) v r
abbrev gJ(v:(List aa)×Unit)(r:Int×Unit):Prop:=(λv r=>∀x,pW prog cx r=some x->iA prog 189 (encL vw (az cx v).len (aU cx v).1) (bo (az cx v).len (az cx v).own) (am vw (bP vw cx.rcut r).len x) (bo (bP vw cx.rcut r).len (jb cx r))) v r
abbrev df(v:(List aa)×Int×Int×Unit)(r:((Int×Unit)⊕(Unit))):Prop:=(λv out=>∀C:Ctx,C.P=prog->C.N=19/\Fx C j9->nU C (ai (af Tryz.f189) 0) (Go.Tx.aG vw (bP vw gy v)) (tP p7 [.ret, .exit 0] out)) v r
abbrev u2(v:aa×Unit)(r:Bool×Unit):Prop:=(λv r=>∀x,pW prog js r=some x->iA prog 167 (encL vw (az js v).len (aU js v).1) (bo (az js v).len (az js v).own) (am vw (bP vw js.rcut r).len x) (bo (bP vw js.rcut r).len (jb js r))) v r
theorem MB(f0:(List aa)×Unit->Option (Bool×Unit))(h0:∀v r,f0 v=some r->gI v r):ax prog (LS (λ_=>none) f0 (λ_=>none) (λ_=>none) (λ_=>none)).call:=(by
 intro A fid args S dst k r h
 unfold LS Df at h
 simp only at h
 split at h
 ·split at h
  ·exact aj (u4) rfl rfl h
  ·exact aj ((λv r x h hx=>h0 v r h x hx)) rfl rfl h
  ·cases h
 ·cases h)
theorem NX(f0:(List aa)×Unit->Option (Bool×Unit))(h0:∀v r,f0 v=some r->gI v r)(v:aa×Unit)(r:Bool×Unit)(h:exF (LS (λ_=>none) f0 (λ_=>none) (λ_=>none) (λ_=>none)) iG rfl (af Tryz.f128) v=some r):uY v r:=λx hx=>lI (X:=LS (λ_=>none) f0 (λ_=>none) (λ_=>none) (λ_=>none)) (sig:=iG) rfl Tryz.func128 (c:=af Tryz.f128) (by kernel_rfl) Tryz.ntmps128 (by kernel_rfl) (by kernel_rfl) rfl Ty.mixed (MB f0 h0) rfl (λC hP hN=>(bc (X:=LS (λ_=>none) f0 (λ_=>none) (λ_=>none) (λ_=>none)) (c:=(af Tryz.f128)) (bj (by kernel_rfl:True=fx (bg C (LS (λ_=>none) f0 (λ_=>none) (λ_=>none) (λ_=>none))) (aJ (af Tryz.f128))) trivial))) h x hx
theorem AK(f0:(List aa)×Unit->Option (Int×Unit))(h0:∀v r,f0 v=some r->gJ v r):ax prog (jW (λ_=>none) (λ_=>none) f0 (λ_=>none) (λ_=>none)).call:=(by
 intro A fid args S dst k r h
 unfold jW oQ at h
 simp only at h
 split at h
 ·exact aj ((λv r x h hx=>h0 v r h x hx)) rfl rfl h
 ·cases h)
theorem CA(f0:(List aa)×Unit->Option (Int×Unit))(h0:∀v r,f0 v=some r->gJ v r)(v:(List aa)×Unit)(r:Bool×Unit)(h:exF (jW (λ_=>none) (λ_=>none) f0 (λ_=>none) (λ_=>none)) cw rfl (af Tryz.f165) v=some r):gI v r:=λx hx=>lI (X:=jW (λ_=>none) (λ_=>none) f0 (λ_=>none) (λ_=>none)) (sig:=cw) rfl Tryz.func165 (c:=af Tryz.f165) (by kernel_rfl) Tryz.ntmps165 (by kernel_rfl) (by kernel_rfl) rfl Ty.mixed (AK f0 h0) rfl (λC hP hN=>(bc (X:=jW (λ_=>none) (λ_=>none) f0 (λ_=>none) (λ_=>none)) (c:=(af Tryz.f165)) (bj (by kernel_rfl:True=fx (bg C (jW (λ_=>none) (λ_=>none) f0 (λ_=>none) (λ_=>none))) (aJ (af Tryz.f165))) trivial))) h x hx
theorem AL(f0:(List aa)×Int×Int×Unit->Option (((Int×Unit)⊕(Unit))))(h0:∀v r,f0 v=some r->df v r):ax prog (c7 (λ_=>none) (λ_=>none) (λ_=>none) f0 (λ_=>none)).call:=(by
 intro A fid args S dst k r h
 unfold c7 kK at h
 simp only at h
 split at h
 ·exact aj ((λv r x h hx=>by cases h)) rfl rfl h
 ·cases h)
theorem CB(f0:(List aa)×Int×Int×Unit->Option (((Int×Unit)⊕(Unit))))(h0:∀v r,f0 v=some r->df v r)(v:(List aa)×Unit)(r:Int×Unit)(h:exF (c7 (λ_=>none) (λ_=>none) (λ_=>none) f0 (λ_=>none)) cx rfl (af Tryz.f189) v=some r):gJ v r:=λx hx=>lI (X:=c7 (λ_=>none) (λ_=>none) (λ_=>none) f0 (λ_=>none)) (sig:=cx) rfl Tryz.func189 (c:=af Tryz.f189) (by kernel_rfl) Tryz.ntmps189 (by kernel_rfl) (by kernel_rfl) rfl Ty.mixed (AL f0 h0) rfl (λC hP hN=>(bc (X:=c7 (λ_=>none) (λ_=>none) (λ_=>none) f0 (λ_=>none)) (c:=(af Tryz.f189)) (bj (by kernel_rfl:fx (bg C (c7 (λ_=>none) (λ_=>none) (λ_=>none) f0 (λ_=>none))) [(ai (af Tryz.f189) 0)]=fx (bg C (c7 (λ_=>none) (λ_=>none) (λ_=>none) f0 (λ_=>none))) (aJ (af Tryz.f189))) ⟨dJ (X:=c7 (λ_=>none) (λ_=>none) (λ_=>none) f0 (λ_=>none)) (b:=(ai (af Tryz.f189) 0)) (by kernel_rfl) (show dx C (ai (af Tryz.f189) 0) (sh:=p7) {cut:=gy,alts:=[.ret, .exit 0],F:=f0}fromλv out h=>h0 v out h C hP hN),trivial⟩))) h x hx
theorem uw(f0:(List aa)×Int×Int×Unit->Option (((Int×Unit)⊕(Unit))))(f1:aa×Unit->Option (Bool×Unit))(h0:∀v r,f0 v=some r->df v r)(h1:∀v r,f1 v=some r->u2 v r):ax prog (c7 (λ_=>none) (λ_=>none) (λ_=>none) f0 f1).call:=(by
 intro A fid args S dst k r h
 unfold c7 kK at h
 simp only at h
 split at h
 ·exact aj ((λv r x h hx=>h1 v r h x hx)) rfl rfl h
 ·cases h)
theorem vJ(f0:(List aa)×Int×Int×Unit->Option (((Int×Unit)⊕(Unit))))(f1:aa×Unit->Option (Bool×Unit))(h0:∀v r,f0 v=some r->df v r)(h1:∀v r,f1 v=some r->u2 v r)(v:(List aa)×Int×Int×Unit)(r:((Int×Unit)⊕(Unit)))(h:exL (c7 (λ_=>none) (λ_=>none) (λ_=>none) f0 f1) (ai (af Tryz.f189) 0) gy [.ret, .exit 0] f0 v=some r):df v r:=λC hP hN=>cQ (X:=c7 (λ_=>none) (λ_=>none) (λ_=>none) f0 f1) (b:=(ai (af Tryz.f189) 0)) hP hN Ty.mixed (uw f0 f1 h0 h1) (bc (X:=c7 (λ_=>none) (λ_=>none) (λ_=>none) f0 f1) (c:=(ai (af Tryz.f189) 0)) (bj (by kernel_rfl:True=fx (bg C (c7 (λ_=>none) (λ_=>none) (λ_=>none) f0 f1)) (aJ (ai (af Tryz.f189) 0))) trivial)) (cut:=gy) (alts:=[.ret, .exit 0]) (F:=f0) (λv out h=>h0 v out h C hP hN) h
theorem ME(f0:aa×Unit->Option (Bool×Unit))(h0:∀v r,f0 v=some r->uY v r):ax prog (LT f0 (λ_=>none) (λ_=>none) (λ_=>none) (λ_=>none)).call:=(by
 intro A fid args S dst k r h
 unfold LT Dh at h
 simp only at h
 split at h
 ·exact aj ((λv r x h hx=>h0 v r h x hx)) rfl rfl h
 ·cases h)
theorem N0(f0:aa×Unit->Option (Bool×Unit))(h0:∀v r,f0 v=some r->uY v r)(v:aa×Unit)(r:Bool×Unit)(h:exF (LT f0 (λ_=>none) (λ_=>none) (λ_=>none) (λ_=>none)) js rfl (af Tryz.f167) v=some r):u2 v r:=λx hx=>lI (X:=LT f0 (λ_=>none) (λ_=>none) (λ_=>none) (λ_=>none)) (sig:=js) rfl Tryz.func167 (c:=af Tryz.f167) (by kernel_rfl) Tryz.ntmps167 (by kernel_rfl) (by kernel_rfl) rfl Ty.mixed (ME f0 h0) rfl (λC hP hN=>(bc (X:=LT f0 (λ_=>none) (λ_=>none) (λ_=>none) (λ_=>none)) (c:=(af Tryz.f167)) (bj (by kernel_rfl:True=fx (bg C (LT f0 (λ_=>none) (λ_=>none) (λ_=>none) (λ_=>none))) (aJ (af Tryz.f167))) trivial))) h x hx
theorem Eg:(∀v r,fY v=some r->uY v r)/\(∀v r,n_165c167 v=some r->gI v r)/\(∀v r,n_189c167 v=some r->gJ v r)/\(∀v r,n_189c167l2 v=some r->df v r)/\(∀v r,n_167 v=some r->u2 v r):=by
 refine fY.mutual_partial_correctness
  (motive_1:=uY)
  (motive_2:=gI)
  (motive_3:=gJ)
  (motive_4:=df)
  (motive_5:=u2)
  ?_ ?_ ?_ ?_ ?_
 ·exact(λf0 h0 v r h=>NX f0 h0 v r (bj (by kernel_rfl) h))
 ·exact(λf0 h0 v r h=>CA f0 h0 v r (bj (by kernel_rfl) h))
 ·exact(λf0 h0 v r h=>CB f0 h0 v r (bj (by kernel_rfl) h))
 ·exact(λf0 f1 h0 h1 v r h=>vJ f0 f1 h0 h1 v r (bj (by kernel_rfl) h))
 ·exact(λf0 h0 v r h=>N0 f0 h0 v r (bj (by kernel_rfl) h))
theorem Hu:aq prog 128 iG fY:=λv r x h hx=>Eg.1 v r h x hx
def Pg:Cut SN:=⟨[(1, .bp 1 0),(12, .dat .bool)],[(1, .st .layoutT)]⟩
def Tg:ay vw:={rcut:=bM}
def NV:Sig vw:=sg [.dat (.st .layoutT)] bM [.tmp 2]
noncomputable def EK(v:aa×Unit):Option (Int×Unit):=n_126sf4a5 (v.1,(1:Int),al.mk (0:Int) (0:Int) false,())>>=λx1=>(if x1.1.large=true then some ((true,v.1,()))else n_127 (v.1,())>>=λx2=>some ((decide (x2.1>4096),v.1,())))>>=λx2=>if x2.1=true then some (((3:Int),()))else fY (x2.2.1,())>>=λx3=>if(!x3.1)=true then some (((1:Int),()))else some (((0:Int),()))
def Jh:=kO sY (kP Ht (kP Hu k0))
def x99:Xc vw:=mX prog 16 Jh.1 Tg [] [(3,Pg)] []
theorem EL:aq prog 99 NV EK:=fn0 x99 Tryz.func99 Jh.2
def mH:Cut SN:=⟨[(0, .bp 100000 0),(1, .dat (.sl .str)),(4, .bp 4 0),(10, .dat (.sl .fnc)),(11, .dat (.int .i64)),(12, .dat (.int .i64))],[(100000, .box none [.vh 100001]),(4, .st .itemT),(100001, .vec 44 (.st .itemT))]⟩
def AC:Cut SN:=⟨[(0, .bp 100000 0),(1, .dat (.sl .str)),(4, .bp 4 0),(9, .bp 9 0),(10, .dat (.sl .fnc)),(11, .dat (.int .i64)),(12, .dat (.int .i64)),(34, .dat .bool)],[(100000, .box none [.vh 100001]),(4, .st .itemT),(9, .st .itemT),(100001, .vec 44 (.st .itemT))]⟩
def AD:Cut SN:=⟨[(0, .bp 100000 0),(1, .dat (.sl .str)),(4, .bp 4 0),(9, .bp 9 0),(10, .dat (.sl .fnc)),(11, .dat (.int .i64)),(12, .dat (.int .i64)),(43, .dat .bool)],[(100000, .box none [.vh 100001]),(4, .st .itemT),(9, .st .itemT),(100001, .vec 44 (.st .itemT))]⟩
def AB:Cut SN:=⟨[(0, .bp 100000 0),(4, .bp 4 0)],[(100000, .box none [.vh 100001]),(4, .st .itemT),(100001, .vec 44 (.st .itemT))]⟩
def ul:Cut SN:=⟨[(0, .bp 100000 0),(4, .bp 4 0),(5, .dat .bool)],[(100000, .box none [.vh 100001]),(100001, .vec 44 (.st .itemT)),(4, .st .itemT)]⟩
def FI:ay vw:=shL [(0,AB)] ul
def Cu:Sig vw:={params:=[.bp 100000 0, .dat (.sl .str)],objs:=[(100000, .box none [.vh 100001]),(100001, .vec 44 (.st .itemT))],rcut:=ul,rvars:=[.cell 4 44, .tmp 5],keep:=[100000,100001]}
noncomputable def aT(v:(List ByteArray)×(List Nat)×Int×Int×Item×(List Item)×Unit):Option (((Bool×(List Item)×Item×Unit)⊕(Item×(List Item)×Unit))):=if decide (v.2.2.2.1<v.2.2.1)=true then(if 0<=v.2.2.2.1 then v.2.1[v.2.2.2.1.toNat]?>>=λx1=>if x1=(98:Nat)then none else if x1=(99:Nat)then none else if x1=(122:Nat)then fi (v.1,false,v.2.2.2.2.2.1,())>>=λx2=>if x2.2.2.1.length=v.2.2.2.2.2.1.length then(if x2.2.1=true then some ((v.1,v.2.1,v.2.2.1,v.2.2.2.1,true,v.2.2.2.2.1,x2.2.2.2.1,x2.2.2.1,()))else some ((v.1,v.2.1,v.2.2.1,v.2.2.2.1,decide ((↑x2.1.length:Int)>0),v.2.2.2.2.1,x2.2.2.2.1,x2.2.2.1,())))>>=λx3=>if x3.2.2.2.2.1=true then some (UF (x3.1,x3.2.1,x3.2.2.1,x3.2.2.2.1,x3.2.2.2.2.2.1,x3.2.2.2.2.2.2.2.1,()))else(if decide (x3.2.2.2.2.2.2.1.kind<2)=true then some ((x3.1,x3.2.1,x3.2.2.1,x3.2.2.2.1,true,x3.2.2.2.2.2.1,x3.2.2.2.2.2.2.1,x3.2.2.2.2.2.2.2.1,()))else EK (aa.mk x3.2.2.2.2.2.2.1.layout.kind x3.2.2.2.2.2.2.1.layout.n x3.2.2.2.2.2.2.1.layout.flag x3.2.2.2.2.2.2.1.layout.parts,())>>=λx4=>some ((x3.1,x3.2.1,x3.2.2.1,x3.2.2.2.1,x4.1==0,x3.2.2.2.2.2.1,x3.2.2.2.2.2.2.1,x3.2.2.2.2.2.2.2.1,())))>>=λx4=>if x4.2.2.2.2.1=true then some (UI (true,x4.2.2.2.2.2.2.2.1,x4.2.2.2.2.2.2.1,()))else some (UF (x4.1,x4.2.1,x4.2.2.1,x4.2.2.2.1,x4.2.2.2.2.2.1,x4.2.2.2.2.2.2.2.1,()))else none else if x1=(123:Nat)then fj (v.1,false,v.2.2.2.2.2.1,())>>=λx2=>if x2.2.2.1.length=v.2.2.2.2.2.1.length then(if x2.2.1=true then some ((v.1,v.2.1,v.2.2.1,v.2.2.2.1,true,v.2.2.2.2.1,x2.2.2.2.1,x2.2.2.1,()))else some ((v.1,v.2.1,v.2.2.1,v.2.2.2.1,decide ((↑x2.1.length:Int)>0),v.2.2.2.2.1,x2.2.2.2.1,x2.2.2.1,())))>>=λx3=>if x3.2.2.2.2.1=true then some (UF (x3.1,x3.2.1,x3.2.2.1,x3.2.2.2.1,x3.2.2.2.2.2.1,x3.2.2.2.2.2.2.2.1,()))else(if decide (x3.2.2.2.2.2.2.1.kind<2)=true then some ((x3.1,x3.2.1,x3.2.2.1,x3.2.2.2.1,true,x3.2.2.2.2.2.1,x3.2.2.2.2.2.2.1,x3.2.2.2.2.2.2.2.1,()))else EK (aa.mk x3.2.2.2.2.2.2.1.layout.kind x3.2.2.2.2.2.2.1.layout.n x3.2.2.2.2.2.2.1.layout.flag x3.2.2.2.2.2.2.1.layout.parts,())>>=λx4=>some ((x3.1,x3.2.1,x3.2.2.1,x3.2.2.2.1,x4.1==0,x3.2.2.2.2.2.1,x3.2.2.2.2.2.2.1,x3.2.2.2.2.2.2.2.1,())))>>=λx4=>if x4.2.2.2.2.1=true then some (UI (true,x4.2.2.2.2.2.2.2.1,x4.2.2.2.2.2.2.1,()))else some (UF (x4.1,x4.2.1,x4.2.2.1,x4.2.2.2.1,x4.2.2.2.2.2.1,x4.2.2.2.2.2.2.2.1,()))else none else if x1=(124:Nat)then fk (v.1,false,v.2.2.2.2.2.1,())>>=λx2=>if x2.2.2.1.length=v.2.2.2.2.2.1.length then(if x2.2.1=true then some ((v.1,v.2.1,v.2.2.1,v.2.2.2.1,true,v.2.2.2.2.1,x2.2.2.2.1,x2.2.2.1,()))else some ((v.1,v.2.1,v.2.2.1,v.2.2.2.1,decide ((↑x2.1.length:Int)>0),v.2.2.2.2.1,x2.2.2.2.1,x2.2.2.1,())))>>=λx3=>if x3.2.2.2.2.1=true then some (UF (x3.1,x3.2.1,x3.2.2.1,x3.2.2.2.1,x3.2.2.2.2.2.1,x3.2.2.2.2.2.2.2.1,()))else(if decide (x3.2.2.2.2.2.2.1.kind<2)=true then some ((x3.1,x3.2.1,x3.2.2.1,x3.2.2.2.1,true,x3.2.2.2.2.2.1,x3.2.2.2.2.2.2.1,x3.2.2.2.2.2.2.2.1,()))else EK (aa.mk x3.2.2.2.2.2.2.1.layout.kind x3.2.2.2.2.2.2.1.layout.n x3.2.2.2.2.2.2.1.layout.flag x3.2.2.2.2.2.2.1.layout.parts,())>>=λx4=>some ((x3.1,x3.2.1,x3.2.2.1,x3.2.2.2.1,x4.1==0,x3.2.2.2.2.2.1,x3.2.2.2.2.2.2.1,x3.2.2.2.2.2.2.2.1,())))>>=λx4=>if x4.2.2.2.2.1=true then some (UI (true,x4.2.2.2.2.2.2.2.1,x4.2.2.2.2.2.2.1,()))else some (UF (x4.1,x4.2.1,x4.2.2.1,x4.2.2.2.1,x4.2.2.2.2.2.1,x4.2.2.2.2.2.2.2.1,()))else none else if x1=(125:Nat)then dR (v.1,false,v.2.2.2.2.2.1,())>>=λx2=>if x2.2.2.1.length=v.2.2.2.2.2.1.length then(if x2.2.1=true then some ((v.1,v.2.1,v.2.2.1,v.2.2.2.1,true,v.2.2.2.2.1,x2.2.2.2.1,x2.2.2.1,()))else some ((v.1,v.2.1,v.2.2.1,v.2.2.2.1,decide ((↑x2.1.length:Int)>0),v.2.2.2.2.1,x2.2.2.2.1,x2.2.2.1,())))>>=λx3=>if x3.2.2.2.2.1=true then some (UF (x3.1,x3.2.1,x3.2.2.1,x3.2.2.2.1,x3.2.2.2.2.2.1,x3.2.2.2.2.2.2.2.1,()))else(if decide (x3.2.2.2.2.2.2.1.kind<2)=true then some ((x3.1,x3.2.1,x3.2.2.1,x3.2.2.2.1,true,x3.2.2.2.2.2.1,x3.2.2.2.2.2.2.1,x3.2.2.2.2.2.2.2.1,()))else EK (aa.mk x3.2.2.2.2.2.2.1.layout.kind x3.2.2.2.2.2.2.1.layout.n x3.2.2.2.2.2.2.1.layout.flag x3.2.2.2.2.2.2.1.layout.parts,())>>=λx4=>some ((x3.1,x3.2.1,x3.2.2.1,x3.2.2.2.1,x4.1==0,x3.2.2.2.2.2.1,x3.2.2.2.2.2.2.1,x3.2.2.2.2.2.2.2.1,())))>>=λx4=>if x4.2.2.2.2.1=true then some (UI (true,x4.2.2.2.2.2.2.2.1,x4.2.2.2.2.2.2.1,()))else some (UF (x4.1,x4.2.1,x4.2.2.1,x4.2.2.2.1,x4.2.2.2.2.2.1,x4.2.2.2.2.2.2.2.1,()))else none else none else none)>>=λx1=>match x1 with| .inl y1=>aT (y1.1,y1.2.1,y1.2.2.1,i64.wrap (y1.2.2.2.1+1),y1.2.2.2.2.1,y1.2.2.2.2.2.1,())| .inr y1=>some (UF y1)else some (UI (v.2.2.2.2.1,v.2.2.2.2.2.1,())) partial_fixpoint
noncomputable def mn(v:(List ByteArray)×(List Item)×Unit):Option (Bool×(List Item)×Item×Unit):=Oz ()>>=λx1=>aT (v.1,x1.1,(↑x1.1.length:Int),(0:Int),Item.mk 0 (TZ #[]) (0:Int) [] (aa.mk 0 0 false []),v.2.1,())>>=λx2=>match x2 with| .inl y2=>some y2| .inr y2=>some ((false,y2.2.1,Item.mk 0 (TZ #[]) (0:Int) [] (aa.mk 0 0 false []),()))
def kL:bx vw:=λA fid args S k=>if fid=98 then aO prog NU Oz A args S k else if fid=99 then aO prog NV EK A args S k else if fid=122 then eN prog p8 fi A args S k else if fid=123 then eN prog p9 fj A args S k else if fid=124 then eN prog p_ fk A args S k else if fid=125 then eN prog qa dR A args S k else none
def Ai:Xc vw:=mX prog 47 kL FI [(9,mH,[.norm, .ret])] [(6,AC),(7,AD)] [(2,⟨mH,[.ret, .exit 0],aT⟩)]
theorem ka:ax prog kL:=λA fid args S dst k r h=>by
 unfold kL at h
 split at h
 ·rename_i e;subst e;exact aj (K0) rfl rfl h
 ·
  split at h
  ·rename_i e;subst e;exact aj (EL) rfl rfl h
  ·
   split at h
   ·rename_i e;subst e;exact di (sU) h
   ·
    split at h
    ·rename_i e;subst e;exact di (sV) h
    ·
     split at h
     ·rename_i e;subst e;exact di (sW) h
     ·
      split at h
      ·rename_i e;subst e;exact di (sX) h
      ·
       cases h
theorem qL:dT Ai (ai (af Tryz.f68) 0) ⟨mH,[.ret, .exit 0],aT⟩:=lp0 aT.partial_correctness ka
theorem u_:aq prog 68 Cu mn:=fn1 Ai Tryz.func68 ka qL
def JY:Cut SN:=⟨[(2, .bp 2 0),(3, .vh 1003),(4, .bp 4 0),(12, .dat (.sl (.sl .str))),(13, .dat (.int .i64)),(14, .dat (.int .i64))],[(2, .box none [.dat (.sl (.st .itemT))]),(1003, .vec 3 (.int .i64)),(4, .box none [.bp 10 0]),(10, .box none [.vh 3100]),(3100, .vec 44 (.st .itemT))]⟩
def OX:Cut SN:=⟨[(0, .dat (.sl (.sl .str))),(2, .bp 2 0),(3, .vh 1003),(4, .bp 4 0)],[(2, .box none [.dat (.sl (.st .itemT))]),(1003, .vec 3 (.int .i64)),(4, .box none [.bp 10 0]),(10, .box none [.vh 3100]),(3100, .vec 44 (.st .itemT))]⟩
def OW:Cut SN:=⟨[(2, .bp 2 0),(3, .vh 1003),(4, .bp 4 0)],[(2, .box none [.dat (.sl (.st .itemT))]),(1003, .vec 3 (.int .i64)),(4, .box none [.bp 10 0]),(10, .box none [.vh 3100]),(3100, .vec 44 (.st .itemT))]⟩
def Rr:Cut SN:=⟨[(2, .bp 2 0),(3, .dat (.sl (.int .i64)))],[(2, .box none [.dat (.sl (.st .itemT))])]⟩
def SJ:ay vw:=shL [(0,OW)] Rr
def PR:Nat->Bool:=λk=>match k with|4000002=>true|4000004=>true|_=>false
noncomputable def RR:Nat->Bool:=λ_=>false
def NQ:Sig vw:=sg [.dat (.sl (.sl .str))] Rr [.cell 2 23, .tmp 3]
noncomputable def me(v:(List (List ByteArray))×Int×Int×(List Item)×(List Int)×(List Item)×Unit):Option (((List Item)×(List Int)×(List Item)×Unit)):=if decide (v.2.2.1<v.2.1)=true then(if 0<=v.2.2.1 then v.1[v.2.2.1.toNat]?>>=λx1=>mn (x1,v.2.2.2.2.2.1,())>>=λx2=>if x2.2.1.length=v.2.2.2.2.2.1.length then if(!x2.1)=true then if v.2.2.2.2.1.length+[v.2.2.1].length<=4294967296 then some ((v.1,v.2.1,v.2.2.1,v.2.2.2.1,v.2.2.2.2.1++[v.2.2.1],x2.2.1,()))else none else if x2.2.1.length+[x2.2.2.1].length<=4294967296 then some ((v.1,v.2.1,v.2.2.1,v.2.2.2.1,v.2.2.2.2.1,x2.2.1++[x2.2.2.1],()))else none else none else none)>>=λx1=>me (x1.1,x1.2.1,i64.wrap (x1.2.2.1+1),x1.2.2.2.1,x1.2.2.2.2.1,x1.2.2.2.2.2.1,())else some ((v.2.2.2.1,v.2.2.2.2.1,v.2.2.2.2.2.1,())) partial_fixpoint
noncomputable def Oi(v:(List (List ByteArray))×Unit):Option ((List Int)×(List Item)×Unit):=some (v.1,[],[],[],())>>=λx1=>me (x1.1,(↑x1.1.length:Int),(0:Int),x1.2.1,x1.2.2.1,x1.2.2.2.1,())>>=λx2=>mm ([],x2.2.2.1,())>>=λx3=>if x3.1.length=x2.2.2.1.length then some ((x2.2.1,x3.1,()))else none
def Dk:=kO u9 (kO u_ k0)
def x35:Xc vw:={P:=prog,n:=43,nm:=λd=>match d with|9=>40009|_=>d,call:=Dk.1,pre:=PR,sh:=SJ,joins:=λk=>match k with|10=>some (JY,[.norm])|_=>none,regs:=λk=>match k with|1=>some OX|_=>none,loops:=λk=>match k with|4=>some {cut:=JY,alts:=[.exit 0],F:=me}|_=>none}
theorem Et:dT x35 (ai (vG (iO (iO (iO (af Tryz.f35))))) 0) ⟨JY,[.exit 0],me⟩:=lp0 me.partial_correctness Dk.2
noncomputable def OL:Xc vw:={x35 with pre:=RR}
theorem Kz:aq prog 35 NQ Oi:=λv r x h hx=>
 G9 (X:=x35) (sig:=NQ) (x0:=(vG (af Tryz.f35))) (x1:=(vG (iO (af Tryz.f35)))) (B:=(vG (iO (iO (iO (af Tryz.f35)))))) (z:=(vG (iO (iO (iO (iO (af Tryz.f35))))))) (id:=2) (o1:=Nt 0 (vG (iO (iO (af Tryz.f35))))) (o2:=Nt 1 (vG (iO (iO (af Tryz.f35))))) (td:=11) (caps:=[4,2]) (ct:={callee:= .value (.tmp 11),args:= #[],argTypes:= #[]}) (pa:=RR) rfl Tryz.func35 (by kernel_rfl) Tryz.ntmps35 (by kernel_rfl) (by kernel_rfl) rfl Ty.mixed Dk.2 rfl (by kernel_rfl) (by kernel_rfl) (by kernel_rfl) (by kernel_rfl) rfl rfl (by kernel_rfl) (by kernel_rfl) (by kernel_rfl) (by kernel_rfl) (λC hP hN=>⟨(bc (X:=x35) (c:=(vG (iO (iO (iO (af Tryz.f35)))))) (bj (by kernel_rfl:fx (bg C (x35)) [(ai (vG (iO (iO (iO (af Tryz.f35))))) 0)]=fx (bg C (x35)) (aJ (vG (iO (iO (iO (af Tryz.f35))))))) ⟨dJ (X:=x35) (b:=(ai (vG (iO (iO (iO (af Tryz.f35))))) 0)) (by kernel_rfl) (Et C hP hN),trivial⟩)),(bc (X:=x35) (c:=(vG (iO (iO (iO (iO (af Tryz.f35))))))) (bj (by kernel_rfl:True=fx (bg C (x35)) (aJ (vG (iO (iO (iO (iO (af Tryz.f35)))))))) trivial))⟩) (λC=>⟨(bc (X:=OL) (c:=(vG (af Tryz.f35))) (bj (by kernel_rfl:True=fx (bg C (OL)) (aJ (vG (af Tryz.f35)))) trivial)),(bc (X:=OL) (c:=(vG (iO (af Tryz.f35)))) (bj (by kernel_rfl:True=fx (bg C (OL)) (aJ (vG (iO (af Tryz.f35))))) trivial))⟩) tf (bj (by kernel_rfl) h) x hx
def R8:Cut SN:=⟨[(4, .dat .str)],[]⟩
def QI:Sig vw:=sg [.dat (.sl .str), .dat .str] R8 [.tmp 4]
noncomputable def Ou(v:(List ByteArray)×ByteArray×Unit):Option (ByteArray×Unit):=if v.1.length<=140737488355328/\(Lib.join (v.1.map (·.data.toList)) v.2.1.data.toList).length<=140737488355328 then some (⟨(Lib.join (v.1.map (·.data.toList)) v.2.1.data.toList).toArray⟩,())else none
theorem KP:aq prog 69 QI Ou:=λv r x h hx=>by
 obtain⟨xs,c,u⟩:=v
 unfold Ou at h
 split at h
 ·rename_i hc
  obtain⟨h0,h1⟩:=hc
  simp only at h0 h1
  cases h;cases hx
  exact bj (by kernel_rfl) (iA.pure (P:=prog) (f:=69) (args:=[.d (.sl 1 (xs.map λy=>[D.v (.string y)])), .d (.v (.string c))]) (r:= .d (.v (.string ⟨(Lib.join (xs.map (·.data.toList)) c.data.toList).toArray⟩))) (by kernel_rfl) λE M w vs hg hm hv=>by
   obtain⟨v1,v2,rfl,h2,h3⟩:=pb hv
   rw[h3.dv]
   rcases Ij h2 with⟨rfl,a,k,rfl⟩|⟨b,o,k,h4,rfl,h5,h6⟩
   ·exact(Tryz.strings_Join_none a k c w).mono λe w' ⟨he,hw⟩=>⟨_,he, .d (.v _),hw▸Go.RowKit.Below.refl _ _⟩
   ·have h7:∀(j:Nat) x,xs[j]?=some x->w.cell? ⟨b,o+j,none⟩=some (.string x):=λj x hj=>hm _ _ _ (h6 j x hj)
    have h8:b<w.heap.size:=by
     obtain⟨x,hx⟩:∃x,xs[0]?=some x:=by
      match xs,h4 with
      |x::r,_=>exact⟨x,rfl⟩
     exact World.block_lt_of_cell? w (a:=⟨b,o+0,none⟩) (h7 0 x hx)
    exact(Tryz.strings_Join b o k xs c w h7 h8 h0 h5 h1).mono λe w' ⟨he,hw⟩=>⟨_,he, .d (.v _),hw⟩)
 ·cases h
def Od:Cut SN:=⟨[(2, .dat .str)],[]⟩
def SK:ay vw:={rcut:=Od}
def Qx:Sig vw:=sg [.dat (.sl .str)] Od [.tmp 2]
noncomputable def Oj(v:(List ByteArray)×Unit):Option (ByteArray×Unit):=Ou (v.1,TZ #[32],())>>=λx1=>some ((x1.1,()))
def I_:=kP KP k0
def x36:Xc vw:=mX prog 5 I_.1 SK [] [] []
theorem KA:aq prog 36 Qx Oj:=fn0 x36 Tryz.func36 I_.2
def L9:Cut SN:=⟨[(5, .dat (.sl (.sl .str))),(6, .dat (.sl (.st .itemT))),(8, .vh 1008),(21, .dat (.sl (.int .i64))),(22, .dat (.int .i64)),(23, .dat (.int .i64))],[(1008, .vec 9 .str)]⟩
def OO:Cut SN:=⟨[(6, .dat (.sl (.st .itemT))),(8, .vh 1008)],[(1008, .vec 9 .str)]⟩
def Oa:Cut SN:=⟨[(2, .dat (.sl (.st .itemT))),(3, .dat (.sl .str)),(4, .dat (.int .i64))],[]⟩
def Sy:ay vw:=shL [(0,OO)] Oa
def Qm:Sig vw:=sg [.dat .str] Oa [.tmp 2, .tmp 3, .tmp 4]
noncomputable def lU(v:(List (List ByteArray))×(List Item)×(List Int)×Int×Int×(List ByteArray)×Unit):Option (((List Item)×(List ByteArray)×Unit)):=if decide (v.2.2.2.2.1<v.2.2.2.1)=true then if 0<=v.2.2.2.2.1 then v.2.2.1[v.2.2.2.2.1.toNat]?>>=λx1=>if 0<=x1 then v.1[x1.toNat]?>>=λx2=>Oj (x2,())>>=λx3=>if v.2.2.2.2.2.1.length+[x3.1].length<=4294967296 then lU (v.1,v.2.1,v.2.2.1,v.2.2.2.1,i64.wrap (v.2.2.2.2.1+1),v.2.2.2.2.2.1++[x3.1],())else none else none else none else some ((v.2.1,v.2.2.2.2.2.1,())) partial_fixpoint
noncomputable def Ee(v:ByteArray×Unit):Option ((List Item)×(List ByteArray)×Int×Unit):=if decide ((↑v.1.size:Int)>4096)=true then some (([],[],(3:Int),()))else Oh (v.1,())>>=λx1=>Oi (x1.1,())>>=λx2=>lU (x1.1,x2.2.1,x2.1,(↑x2.1.length:Int),(0:Int),[],())>>=λx3=>some ((x3.1,x3.2.1,(0:Int),()))
def Dd:=kP Ky (kP Kz (kP KA k0))
def x11:Xc vw:=mX prog 38 Dd.1 Sy [] [] [(7,⟨L9,[.exit 0],lU⟩)]
theorem Ef:dT x11 (ai (af Tryz.f11) 0) ⟨L9,[.exit 0],lU⟩:=lp0 lU.partial_correctness Dd.2
theorem sT:aq prog 11 Qm Ee:=fn1 x11 Tryz.func11 Dd.2 Ef
def rF:Cut SN:=⟨[(0, .dat (.sl (.st .itemT))),(1, .fn 84 [] [100000,100001]),(7, .dat (.int .i64)),(8, .dat (.int .i64))],[(100000, .box none [.dat (.int .i64)]),(100001, .box none [.dat .str])]⟩
def AF:Cut SN:=⟨[(1, .fn 84 [] [100000,100001])],[(100000, .box none [.dat (.int .i64)]),(100001, .box none [.dat .str])]⟩
def uo:Cut SN:=⟨[(1, .fn 84 [] [100000,100001]),(4, .dat (.int .i64))],[(100000, .box none [.dat (.int .i64)]),(100001, .box none [.dat .str])]⟩
def FK:ay vw:=shL [(0,AF)] uo
def Cv:Sig vw:={params:=[.dat (.sl (.st .itemT)), .fn 84 [] [100000,100001]],objs:=[(100000, .box none [.dat (.int .i64)]),(100001, .box none [.dat .str])],rcut:=uo,rvars:=[.tmp 4],keep:=[100000,100001]}
noncomputable def cJ(v:(List Item)×Int×Int×Int×ByteArray×Unit):Option (((Int×Int×ByteArray×Unit)⊕(Int×ByteArray×Unit))):=if decide (v.2.2.1<v.2.1)=true then if 0<=v.2.2.1 then v.1[v.2.2.1.toNat]?>>=λx1=>jk (x1,v.2.2.2.1,v.2.2.2.2.1,())>>=λx2=>if x2.1=true then some (UF (v.2.2.1,x2.2.1,x2.2.2.1,()))else cJ (v.1,v.2.1,i64.wrap (v.2.2.1+1),x2.2.1,x2.2.2.1,())else none else some (UI (v.2.2.2.1,v.2.2.2.2.1,())) partial_fixpoint
noncomputable def mo(v:(List Item)×Int×ByteArray×Unit):Option (Int×Int×ByteArray×Unit):=cJ (v.1,(↑v.1.length:Int),(0:Int),v.2.1,v.2.2.1,())>>=λx1=>match x1 with| .inl y1=>some y1| .inr y1=>some (((-1:Int),y1.1,y1.2.1,()))
def kN:=kO nI k0
def Ak:Xc vw:=mX prog 19 kN.1 FK [] [] [(2,⟨rF,[.ret, .exit 0],cJ⟩)]
theorem qN:dT Ak (ai (af Tryz.f83) 0) ⟨rF,[.ret, .exit 0],cJ⟩:=lp0 cJ.partial_correctness kN.2
theorem vd:aq prog 83 Cv mo:=fn1 Ak Tryz.func83 kN.2 qN
def Oe:Cut SN:=⟨[(6, .bp 6 0),(7, .dat .bool)],[(6, .st .itemT)]⟩
def SR:ay vw:={rcut:=Oe}
def QD:Sig vw:=sg [.dat (.sl (.st .itemT)), .dat (.int .i64), .dat .str] Oe [.cell 6 44, .tmp 7]
noncomputable def LL(v:(List Item)×Int×ByteArray×Unit):Option (Bool×Item×Unit):=mo (v.1,v.2.1,v.2.2.1,())>>=λx1=>if decide (x1.1<0)=true then some ((false,Item.mk 0 (TZ #[]) (0:Int) [] (aa.mk 0 0 false []),()))else if 0<=x1.1 then v.1[x1.1.toNat]?>>=λx2=>some ((true,x2,()))else none
def Jc:=kO vd k0
def x47:Xc vw:=mX prog 19 Jc.1 SR [] [] []
theorem Ew:aq prog 47 QD LL:=fn0 x47 Tryz.func47 Jc.2
def O_:Cut SN:=⟨[(15, .dat .bool)],[]⟩
def SY:ay vw:={rcut:=bM}
def QJ:Sig vw:=sg [.dat (.st .targetT)] bM [.tmp 2]
noncomputable def KQ(v:aE×Unit):Option (Int×Unit):=(if(v.1.word !=2)=true then if(v.1.word !=4)=true then some ((v.1.word !=8,()))else some ((false,()))else some ((false,())))>>=λx1=>if x1.1=true then some (((1:Int),()))else some (((0:Int),()))
def x71:Xc vw:=mX prog 16 c0 SY [] [(1,O_)] []
theorem ED:aq prog 71 QJ KQ:=fn0 x71 Tryz.func71 bB
def Rt:Cut SN:=⟨[(6, .bp 6 0),(7, .dat (.int .i64))],[(6, .st .itemT)]⟩
def SO:ay vw:={rcut:=Rt}
def QA:Sig vw:=sg [.dat .str, .dat .str, .dat (.st .targetT)] Rt [.cell 6 44, .tmp 7]
noncomputable def Om(v:ByteArray×ByteArray×aE×Unit):Option (Int×Item×Unit):=Ee (v.1,())>>=λx1=>if(x1.2.2.1 !=0)=true then some ((x1.2.2.1,Item.mk 0 (TZ #[]) (0:Int) [] (aa.mk 0 0 false []),()))else KQ (v.2.2.1,())>>=λx2=>if(x2.1 !=0)=true then some (((1:Int),Item.mk 0 (TZ #[]) (0:Int) [] (aa.mk 0 0 false []),()))else LL (x1.1,(2:Int),v.2.1,())>>=λx3=>if(!x3.1)=true then some (((4:Int),Item.mk 0 (TZ #[]) (0:Int) [] (aa.mk 0 0 false []),()))else some (((0:Int),x3.2.1,()))
def Ja:=kP sT (kP Ew (kP ED k0))
def x40:Xc vw:=mX prog 37 Ja.1 SO [] [] []
theorem KE:aq prog 40 QA Om:=fn0 x40 Tryz.func40 Ja.2
def SZ:ay vw:={rcut:=nW}
def QK:Sig vw:=sg [.dat (.st .layoutT), .dat (.st .targetT)] nW [.tmp 4]
noncomputable def Ov(v:aa×aE×Unit):Option (Int×Unit):=EK (v.1,())>>=λx1=>if(x1.1 !=0)=true then some ((x1.1,()))else KQ (v.2.1,())>>=λx2=>some ((x2.1,()))
def Jf:=kP ED (kP EL k0)
def x72:Xc vw:=mX prog 13 Jf.1 SZ [] [] []
theorem KR:aq prog 72 QK Ov:=fn0 x72 Tryz.func72 Jf.2
def PY:ay vw:={rcut:=nW}
def FP:Sig vw:=sg [.dat (.int .i64), .dat (.int .i64)] nW [.tmp 4]
noncomputable def mV(v:Int×Int×Unit):Option (Int×Unit):=if v.2.1=0 then none else some ((i64.wrap (i64.wrap ((i64.wrap (i64.wrap (v.1+v.2.1) -1)).tdiv v.2.1) *v.2.1),()))
def TF:Xc vw:=mX prog 13 c0 PY [] [] []
theorem ol:aq prog 110 FP mV:=fn0 TF Tryz.func110 bB
def IX:Cut SN:=⟨[(0, .dat (.int .i64)),(3, .dat (.int .i64))],[]⟩
def P0:ay vw:=shL [(0,ri)] bM
def Js:Sig vw:=sg [.dat (.int .i64)] bM [.tmp 2]
noncomputable def ic(v:Int×Int×Unit):Option ((Int×Unit)):=if decide (i64.wrap ((8:Int) *v.2.1)<v.1)=true then ic (v.1,i64.wrap (v.2.1 *2),())else some ((v.2.1,())) partial_fixpoint
noncomputable def sS(v:Int×Unit):Option (Int×Unit):=if(v.1==0)=true then some (((0:Int),()))else ic (v.1,(1:Int),())>>=λx1=>some ((x1.1,()))
def RW:Xc vw:=mX prog 13 c0 P0 [] [] [(4,⟨IX,[.exit 0],ic⟩)]
theorem Bh:dT RW (ai (af Tryz.f112) 0) ⟨IX,[.exit 0],ic⟩:=lp0 ic.partial_correctness bB
theorem zt:aq prog 112 Js sS:=fn1 RW Tryz.func112 bB Bh
def IY:Cut SN:=⟨[(3, .dat (.int .i64)),(7, .dat (.sl (.st .layoutT))),(8, .dat (.int .i64)),(9, .dat (.int .i64))],[]⟩
def P1:ay vw:=shL [(0,ri)] bM
def Jt:Sig vw:=sg [.dat (.st .layoutT)] bM [.tmp 2]
noncomputable def pw(v:Int×(List aa)×Int×Int×Unit):Option ((Int×Unit)):=if decide (v.2.2.2.1<v.2.2.1)=true then if 0<=v.2.2.2.1 then v.2.1[v.2.2.2.1.toNat]?>>=λx1=>Bn (x1,())>>=λx2=>pw (i64.wrap (v.1+x2.1),v.2.1,v.2.2.1,i64.wrap (v.2.2.2.1+1),())else none else some ((v.1,())) partial_fixpoint
noncomputable def Ko(v:aa×Unit):Option (Int×Unit):=pw ((0:Int),v.1.parts,(↑v.1.parts.length:Int),(0:Int),())>>=λx1=>some ((x1.1,()))
def xa:=kP om k0
def RX:Xc vw:=mX prog 19 xa.1 P1 [] [] [(3,⟨IY,[.exit 0],pw⟩)]
theorem Bi:dT RX (ai (af Tryz.f113) 0) ⟨IY,[.exit 0],pw⟩:=lp0 pw.partial_correctness xa.2
theorem zu:aq prog 113 Jt Ko:=fn1 RX Tryz.func113 xa.2 Bi
def Dc:Cut SN:=⟨[(3, .bp 3 0),(5, .bp 5 0),(6, .vh 1006),(7, .dat (.int .i64)),(8, .dat (.int .i64)),(14, .dat (.sl (.st .layoutT))),(15, .dat (.int .i64)),(16, .dat (.int .i64))],[(3, .st .targetT),(5, .st .roomT),(1006, .vec 3 (.int .i64))]⟩
def Pa:Cut SN:=⟨[(5, .bp 5 0),(6, .vh 1006),(7, .dat (.int .i64)),(8, .dat (.int .i64))],[(5, .st .roomT),(1006, .vec 3 (.int .i64))]⟩
def RA:Cut SN:=⟨[(4, .dat (.sl (.int .i64))),(5, .bp 5 0)],[(5, .st .roomT)]⟩
def Qj:ay vw:=shL [(0,Pa)] RA
def n_:Sig vw:=sg [.dat (.st .layoutT), .dat (.st .targetT)] RA [.tmp 4, .cell 5 107]
def un:Cut SN:=⟨[(3, .bp 3 0),(4, .bp 4 0),(10, .bp 10 0),(98, .dat (.sl (.st .layoutT))),(99, .dat (.int .i64)),(100, .dat (.int .i64))],[(3, .st .targetT),(4, .st .roomT),(10, .st .roomT)]⟩
def My:Cut SN:=⟨[(3, .bp 3 0),(4, .bp 4 0),(9, .dat (.int .i64))],[(3, .st .targetT),(4, .st .roomT)]⟩
def Pb:Cut SN:=⟨[(4, .bp 4 0),(10, .bp 10 0)],[(4, .st .roomT),(10, .st .roomT)]⟩
def RB:Cut SN:=⟨[(4, .bp 4 0)],[(4, .st .roomT)]⟩
def Qk:ay vw:=shL [(1,Pb)] RB
def na:Sig vw:=sg [.dat (.st .layoutT), .dat (.st .targetT)] RB [.cell 4 107]
mutual
noncomputable def ed(v:Int×Int×(List aa)×Int×Int×aE×a_×(List Int)×Unit):Option ((Int×Int×a_×(List Int)×Unit)):=if decide (v.2.2.2.2.1<v.2.2.2.1)=true then if 0<=v.2.2.2.2.1 then v.2.2.1[v.2.2.2.2.1.toNat]?>>=λx1=>n_80 (x1,v.2.2.2.2.2.1,())>>=λx2=>mV (v.1,x2.1.align,())>>=λx3=>if v.2.2.2.2.2.2.2.1.length+[x3.1].length<=4294967296 then lk ([x3.1,x2.1.size],())>>=λx4=>ed (x4.1,max v.2.1 x2.1.align,v.2.2.1,v.2.2.2.1,i64.wrap (v.2.2.2.2.1+1),v.2.2.2.2.2.1,v.2.2.2.2.2.2.1,v.2.2.2.2.2.2.2.1++[x3.1],())else none else none else some ((v.1,v.2.1,v.2.2.2.2.2.2.1,v.2.2.2.2.2.2.2.1,())) partial_fixpoint
noncomputable def n_80(v:aa×aE×Unit):Option (a_×Unit):=if(v.1.kind==1)=true then some ((a_.mk (1:Int) (1:Int),()))else if(v.1.kind==2)=true then sS (v.1.n,())>>=λx1=>sS (v.1.n,())>>=λx2=>some ((a_.mk x1.1 (min x2.1 v.2.1.word),()))else if(v.1.kind==3)=true then some ((a_.mk v.2.1.word v.2.1.word,()))else if(v.1.kind==4)=true then v.1.parts[U1 0]?>>=λx1=>n_80 (x1,v.2.1,())>>=λx2=>lk ([x2.1.size,(1:Int)],())>>=λx3=>mV (x3.1,x2.1.align,())>>=λx4=>some ((a_.mk x4.1 x2.1.align,()))else if(v.1.kind==5)=true then v.1.parts[U1 0]?>>=λx1=>n_80 (x1,v.2.1,())>>=λx2=>some ((a_.mk (min (1099511627776:Int) (i64.wrap (v.1.n *x2.1.size))) x2.1.align,()))else if(v.1.kind==6)=true then n_79 (v.1,v.2.1,())>>=λx1=>some ((x1.2.1,()))else if(v.1.kind==7)=true then(if decide (v.1.n>256)=true then some (((2:Int),v.2.1,a_.mk (0:Int) (0:Int),()))else some (((1:Int),v.2.1,a_.mk (0:Int) (0:Int),())))>>=λx1=>some ((a_.mk x1.1 (min x1.1 x1.2.1.word),()))else if(v.1.kind==8)=true then n_80l25 (v.1.parts,(↑v.1.parts.length:Int),(0:Int),v.2.1,a_.mk (0:Int) (0:Int),a_.mk (0:Int) (1:Int),())>>=λx1=>lk ([x1.2.1.size,(1:Int)],())>>=λx2=>mV (x2.1,x1.2.1.align,())>>=λx3=>some ((a_.mk x3.1 x1.2.1.align,()))else if(v.1.kind==9)=true then Ko (v.1,())>>=λx1=>sS (x1.1,())>>=λx2=>some ((a_.mk x2.1 (max (1:Int) (min x2.1 v.2.1.word)),()))else some ((a_.mk (0:Int) (1:Int),())) partial_fixpoint
noncomputable def n_80l25(v:(List aa)×Int×Int×aE×a_×a_×Unit):Option ((a_×a_×Unit)):=if decide (v.2.2.1<v.2.1)=true then if 0<=v.2.2.1 then v.1[v.2.2.1.toNat]?>>=λx1=>n_80 (x1,v.2.2.2.1,())>>=λx2=>n_80l25 (v.1,v.2.1,i64.wrap (v.2.2.1+1),v.2.2.2.1,v.2.2.2.2.1,a_.mk (max v.2.2.2.2.2.1.size x2.1.size) (max v.2.2.2.2.2.1.align x2.1.align),())else none else some ((v.2.2.2.2.1,v.2.2.2.2.2.1,())) partial_fixpoint
noncomputable def n_79(v:aa×aE×Unit):Option ((List Int)×a_×Unit):=ed ((0:Int),(1:Int),v.1.parts,(↑v.1.parts.length:Int),(0:Int),v.2.1,a_.mk (0:Int) (0:Int),[],())>>=λx1=>mV (x1.1,x1.2.1,())>>=λx2=>some ((x1.2.2.2.1,a_.mk x2.1 x1.2.1,())) partial_fixpoint
end
def Dp(ed:Int×Int×(List aa)×Int×Int×aE×a_×(List Int)×Unit->Option ((Int×Int×a_×(List Int)×Unit)))(n_80:aa×aE×Unit->Option (a_×Unit))(n_80l25:(List aa)×Int×Int×aE×a_×a_×Unit->Option ((a_×a_×Unit)))(n_79:aa×aE×Unit->Option ((List Int)×a_×Unit)):bx vw:=λA fid args S k=>match fid with|80=>aO prog na n_80 A args S k|110=>aO prog FP mV A args S k|111=>aO prog vI lk A args S k|_=>none
def x79(ed:Int×Int×(List aa)×Int×Int×aE×a_×(List Int)×Unit->Option ((Int×Int×a_×(List Int)×Unit)))(n_80:aa×aE×Unit->Option (a_×Unit))(n_80l25:(List aa)×Int×Int×aE×a_×a_×Unit->Option ((a_×a_×Unit)))(n_79:aa×aE×Unit->Option ((List Int)×a_×Unit)):Xc vw:={P:=prog,n:=47,call:=Dp ed n_80 n_80l25 n_79,pre:=j9,sh:=Qj,loops:=λk=>match k with|4=>some {cut:=Dc,alts:=[.exit 0],F:=ed}|_=>none}
def Dq(ed:Int×Int×(List aa)×Int×Int×aE×a_×(List Int)×Unit->Option ((Int×Int×a_×(List Int)×Unit)))(n_80:aa×aE×Unit->Option (a_×Unit))(n_80l25:(List aa)×Int×Int×aE×a_×a_×Unit->Option ((a_×a_×Unit)))(n_79:aa×aE×Unit->Option ((List Int)×a_×Unit)):bx vw:=λA fid args S k=>match fid with|79=>aO prog n_ n_79 A args S k|80=>aO prog na n_80 A args S k|110=>aO prog FP mV A args S k|111=>aO prog vI lk A args S k|112=>aO prog Js sS A args S k|113=>aO prog Jt Ko A args S k|_=>none
def x80(ed:Int×Int×(List aa)×Int×Int×aE×a_×(List Int)×Unit->Option ((Int×Int×a_×(List Int)×Unit)))(n_80:aa×aE×Unit->Option (a_×Unit))(n_80l25:(List aa)×Int×Int×aE×a_×a_×Unit->Option ((a_×a_×Unit)))(n_79:aa×aE×Unit->Option ((List Int)×a_×Unit)):Xc vw:={P:=prog,n:=142,call:=Dq ed n_80 n_80l25 n_79,pre:=j9,sh:=Qk,joins:=λk=>match k with|21=>some (My,[.norm])|_=>none,loops:=λk=>match k with|25=>some {cut:=un,alts:=[.exit 1],F:=n_80l25}|_=>none}
abbrev lg(v:Int×Int×(List aa)×Int×Int×aE×a_×(List Int)×Unit)(r:(Int×Int×a_×(List Int)×Unit)):Prop:=(λv out=>∀C:Ctx,C.P=prog->C.N=47/\Fx C j9->nU C (ai (af Tryz.f79) 0) (Go.Tx.aG vw (bP vw Dc v)) (tP Qj [.exit 0] out)) v r
abbrev sN(v:aa×aE×Unit)(r:a_×Unit):Prop:=(λv r=>∀x,pW prog na r=some x->iA prog 80 (encL vw (az na v).len (aU na v).1) (bo (az na v).len (az na v).own) (am vw (bP vw na.rcut r).len x) (bo (bP vw na.rcut r).len (jb na r))) v r
abbrev ia(v:(List aa)×Int×Int×aE×a_×a_×Unit)(r:(a_×a_×Unit)):Prop:=(λv out=>∀C:Ctx,C.P=prog->C.N=142/\Fx C j9->nU C (ai (af Tryz.f80) 0) (Go.Tx.aG vw (bP vw un v)) (tP Qk [.exit 1] out)) v r
abbrev Ec(v:aa×aE×Unit)(r:(List Int)×a_×Unit):Prop:=(λv r=>∀x,pW prog n_ r=some x->iA prog 79 (encL vw (az n_ v).len (aU n_ v).1) (bo (az n_ v).len (az n_ v).own) (am vw (bP vw n_.rcut r).len x) (bo (bP vw n_.rcut r).len (jb n_ r))) v r
theorem J6(f0:Int×Int×(List aa)×Int×Int×aE×a_×(List Int)×Unit->Option ((Int×Int×a_×(List Int)×Unit)))(f1:aa×aE×Unit->Option (a_×Unit))(h0:∀v r,f0 v=some r->lg v r)(h1:∀v r,f1 v=some r->sN v r):ax prog (x79 f0 f1 (λ_=>none) (λ_=>none)).call:=(by
 intro A fid args S dst k r h
 unfold x79 Dp at h
 simp only at h
 split at h
 ·exact aj ((λv r x h hx=>h1 v r h x hx)) rfl rfl h
 ·exact aj (ol) rfl rfl h
 ·exact aj (e_) rfl rfl h
 ·cases h)
theorem Ll(f0:Int×Int×(List aa)×Int×Int×aE×a_×(List Int)×Unit->Option ((Int×Int×a_×(List Int)×Unit)))(f1:aa×aE×Unit->Option (a_×Unit))(h0:∀v r,f0 v=some r->lg v r)(h1:∀v r,f1 v=some r->sN v r)(v:Int×Int×(List aa)×Int×Int×aE×a_×(List Int)×Unit)(r:(Int×Int×a_×(List Int)×Unit))(h:exL (x79 f0 f1 (λ_=>none) (λ_=>none)) (ai (af Tryz.f79) 0) Dc [.exit 0] f0 v=some r):lg v r:=λC hP hN=>cQ (X:=x79 f0 f1 (λ_=>none) (λ_=>none)) (b:=(ai (af Tryz.f79) 0)) hP hN Ty.mixed (J6 f0 f1 h0 h1) (bc (X:=x79 f0 f1 (λ_=>none) (λ_=>none)) (c:=(ai (af Tryz.f79) 0)) (bj (by kernel_rfl:True=fx (bg C (x79 f0 f1 (λ_=>none) (λ_=>none))) (aJ (ai (af Tryz.f79) 0))) trivial)) (cut:=Dc) (alts:=[.exit 0]) (F:=f0) (λv out h=>h0 v out h C hP hN) h
theorem Pm(f0:aa×aE×Unit->Option (a_×Unit))(f1:(List aa)×Int×Int×aE×a_×a_×Unit->Option ((a_×a_×Unit)))(f2:aa×aE×Unit->Option ((List Int)×a_×Unit))(h0:∀v r,f0 v=some r->sN v r)(h1:∀v r,f1 v=some r->ia v r)(h2:∀v r,f2 v=some r->Ec v r):ax prog (x80 (λ_=>none) f0 f1 f2).call:=(by
 intro A fid args S dst k r h
 unfold x80 Dq at h
 simp only at h
 split at h
 ·exact aj ((λv r x h hx=>h2 v r h x hx)) rfl rfl h
 ·exact aj ((λv r x h hx=>h0 v r h x hx)) rfl rfl h
 ·exact aj (ol) rfl rfl h
 ·exact aj (e_) rfl rfl h
 ·exact aj (zt) rfl rfl h
 ·exact aj (zu) rfl rfl h
 ·cases h)
theorem QX(f0:aa×aE×Unit->Option (a_×Unit))(f1:(List aa)×Int×Int×aE×a_×a_×Unit->Option ((a_×a_×Unit)))(f2:aa×aE×Unit->Option ((List Int)×a_×Unit))(h0:∀v r,f0 v=some r->sN v r)(h1:∀v r,f1 v=some r->ia v r)(h2:∀v r,f2 v=some r->Ec v r)(v:aa×aE×Unit)(r:a_×Unit)(h:exF (x80 (λ_=>none) f0 f1 f2) na rfl (af Tryz.f80) v=some r):sN v r:=λx hx=>lI (X:=x80 (λ_=>none) f0 f1 f2) (sig:=na) rfl Tryz.func80 (c:=af Tryz.f80) (by kernel_rfl) Tryz.ntmps80 (by kernel_rfl) (by kernel_rfl) rfl Ty.mixed (Pm f0 f1 f2 h0 h1 h2) rfl (λC hP hN=>(bc (X:=x80 (λ_=>none) f0 f1 f2) (c:=(af Tryz.f80)) (bj (by kernel_rfl:fx (bg C (x80 (λ_=>none) f0 f1 f2)) [(ai (af Tryz.f80) 0)]=fx (bg C (x80 (λ_=>none) f0 f1 f2)) (aJ (af Tryz.f80))) ⟨dJ (X:=x80 (λ_=>none) f0 f1 f2) (b:=(ai (af Tryz.f80) 0)) (by kernel_rfl) (show dx C (ai (af Tryz.f80) 0) (sh:=Qk) {cut:=un,alts:=[.exit 1],F:=f1}fromλv out h=>h1 v out h C hP hN),trivial⟩))) h x hx
theorem G0(f0:aa×aE×Unit->Option (a_×Unit))(f1:(List aa)×Int×Int×aE×a_×a_×Unit->Option ((a_×a_×Unit)))(h0:∀v r,f0 v=some r->sN v r)(h1:∀v r,f1 v=some r->ia v r):ax prog (x80 (λ_=>none) f0 f1 (λ_=>none)).call:=(by
 intro A fid args S dst k r h
 unfold x80 Dq at h
 simp only at h
 split at h
 ·exact aj ((λv r x h hx=>by cases h)) rfl rfl h
 ·exact aj ((λv r x h hx=>h0 v r h x hx)) rfl rfl h
 ·exact aj (ol) rfl rfl h
 ·exact aj (e_) rfl rfl h
 ·exact aj (zt) rfl rfl h
 ·exact aj (zu) rfl rfl h
 ·cases h)
theorem Ii(f0:aa×aE×Unit->Option (a_×Unit))(f1:(List aa)×Int×Int×aE×a_×a_×Unit->Option ((a_×a_×Unit)))(h0:∀v r,f0 v=some r->sN v r)(h1:∀v r,f1 v=some r->ia v r)(v:(List aa)×Int×Int×aE×a_×a_×Unit)(r:(a_×a_×Unit))(h:exL (x80 (λ_=>none) f0 f1 (λ_=>none)) (ai (af Tryz.f80) 0) un [.exit 1] f1 v=some r):ia v r:=λC hP hN=>cQ (X:=x80 (λ_=>none) f0 f1 (λ_=>none)) (b:=(ai (af Tryz.f80) 0)) hP hN Ty.mixed (G0 f0 f1 h0 h1) (bc (X:=x80 (λ_=>none) f0 f1 (λ_=>none)) (c:=(ai (af Tryz.f80) 0)) (bj (by kernel_rfl:True=fx (bg C (x80 (λ_=>none) f0 f1 (λ_=>none))) (aJ (ai (af Tryz.f80) 0))) trivial)) (cut:=un) (alts:=[.exit 1]) (F:=f1) (λv out h=>h1 v out h C hP hN) h
theorem Pl(f0:Int×Int×(List aa)×Int×Int×aE×a_×(List Int)×Unit->Option ((Int×Int×a_×(List Int)×Unit)))(h0:∀v r,f0 v=some r->lg v r):ax prog (x79 f0 (λ_=>none) (λ_=>none) (λ_=>none)).call:=(by
 intro A fid args S dst k r h
 unfold x79 Dp at h
 simp only at h
 split at h
 ·exact aj ((λv r x h hx=>by cases h)) rfl rfl h
 ·exact aj (ol) rfl rfl h
 ·exact aj (e_) rfl rfl h
 ·cases h)
theorem QW(f0:Int×Int×(List aa)×Int×Int×aE×a_×(List Int)×Unit->Option ((Int×Int×a_×(List Int)×Unit)))(h0:∀v r,f0 v=some r->lg v r)(v:aa×aE×Unit)(r:(List Int)×a_×Unit)(h:exF (x79 f0 (λ_=>none) (λ_=>none) (λ_=>none)) n_ rfl (af Tryz.f79) v=some r):Ec v r:=λx hx=>lI (X:=x79 f0 (λ_=>none) (λ_=>none) (λ_=>none)) (sig:=n_) rfl Tryz.func79 (c:=af Tryz.f79) (by kernel_rfl) Tryz.ntmps79 (by kernel_rfl) (by kernel_rfl) rfl Ty.mixed (Pl f0 h0) rfl (λC hP hN=>(bc (X:=x79 f0 (λ_=>none) (λ_=>none) (λ_=>none)) (c:=(af Tryz.f79)) (bj (by kernel_rfl:fx (bg C (x79 f0 (λ_=>none) (λ_=>none) (λ_=>none))) [(ai (af Tryz.f79) 0)]=fx (bg C (x79 f0 (λ_=>none) (λ_=>none) (λ_=>none))) (aJ (af Tryz.f79))) ⟨dJ (X:=x79 f0 (λ_=>none) (λ_=>none) (λ_=>none)) (b:=(ai (af Tryz.f79) 0)) (by kernel_rfl) (show dx C (ai (af Tryz.f79) 0) (sh:=Qj) {cut:=Dc,alts:=[.exit 0],F:=f0}fromλv out h=>h0 v out h C hP hN),trivial⟩))) h x hx
theorem rS:(∀v r,ed v=some r->lg v r)/\(∀v r,n_80 v=some r->sN v r)/\(∀v r,n_80l25 v=some r->ia v r)/\(∀v r,n_79 v=some r->Ec v r):=by
 refine ed.mutual_partial_correctness
  (motive_1:=lg)
  (motive_2:=sN)
  (motive_3:=ia)
  (motive_4:=Ec)
  ?_ ?_ ?_ ?_
 ·exact(λf0 f1 h0 h1 v r h=>Ll f0 f1 h0 h1 v r (bj (by kernel_rfl) h))
 ·exact(λf0 f1 f2 h0 h1 h2 v r h=>QX f0 f1 f2 h0 h1 h2 v r (bj (by kernel_rfl) h))
 ·exact(λf0 f1 h0 h1 v r h=>Ii f0 f1 h0 h1 v r (bj (by kernel_rfl) h))
 ·exact(λf0 h0 v r h=>QW f0 h0 v r (bj (by kernel_rfl) h))
theorem EE:aq prog 80 na n_80:=λv r x h hx=>rS.2.1 v r h x hx
theorem KU:aq prog 79 n_ n_79:=λv r x h hx=>rS.2.2.2 v r h x hx
def Rz:Cut SN:=⟨[(4, .bp 4 0),(5, .dat (.int .i64))],[(4, .st .roomT)]⟩
def S3:ay vw:={rcut:=Rz}
def QL:Sig vw:=sg [.dat (.st .layoutT), .dat (.st .targetT)] Rz [.cell 4 107, .tmp 5]
noncomputable def Ow(v:aa×aE×Unit):Option (Int×a_×Unit):=n_80 (v.1,v.2.1,())>>=λx1=>if decide (x1.1.size>4096)=true then some (((3:Int),a_.mk (0:Int) (0:Int),()))else some (((0:Int),x1.1,()))
def Jg:=kP EE k0
def x73:Xc vw:=mX prog 15 Jg.1 S3 [] [] []
theorem KS:aq prog 73 QL Ow:=fn0 x73 Tryz.func73 Jg.2
def Mx:Cut SN:=⟨[(1, .bp 1 0),(4, .dat (.int .i64)),(5, .dat .bool)],[(1, .st .layoutT)]⟩
def S7:ay vw:={rcut:=bM}
def QM:Sig vw:=sg [.dat (.st .layoutT)] bM [.tmp 2]
noncomputable def Ox(v:aa×Unit):Option (Int×Unit):=(if(v.1.kind==6)=true then some ((v.1.kind,true,v.1,()))else some ((v.1.kind,v.1.kind==8,v.1,())))>>=λx1=>if x1.2.1=true then some (((↑x1.2.2.1.parts.length:Int),()))else if(x1.1==4)=true then some (((2:Int),()))else if(x1.1==5)=true then some ((x1.2.2.1.n,()))else some (((-1:Int),()))
def x78:Xc vw:=mX prog 17 c0 S7 [(4,Mx,[.norm])] [] []
theorem KT:aq prog 78 QM Ox:=fn0 x78 Tryz.func78 bB
def Ms:Cut SN:=⟨[(2, .dat (.int .i64)),(3, .bp 3 0),(4, .bp 4 0),(54, .dat .bool)],[(3, .st .layoutT),(4, .st .targetT)]⟩
def O1:Cut SN:=⟨[(2, .dat (.int .i64)),(3, .bp 3 0),(4, .bp 4 0),(30, .dat .bool)],[(3, .st .layoutT),(4, .st .targetT)]⟩
def Ru:Cut SN:=⟨[(6, .dat (.int .i64)),(7, .dat (.int .i64))],[]⟩
def SQ:ay vw:={rcut:=Ru}
def QC:Sig vw:=sg [.dat (.st .layoutT), .dat (.st .targetT), .dat (.int .i64)] Ru [.tmp 6, .tmp 7]
noncomputable def On(v:aa×aE×Int×Unit):Option (Int×Int×Unit):=Ov (v.1,v.2.1,())>>=λx1=>if(x1.1 !=0)=true then some (((0:Int),x1.1,()))else Ox (v.1,())>>=λx2=>if decide (x2.1<0)=true then some (((0:Int),(6:Int),()))else(if decide (v.2.2.1<0)=true then some ((v.2.2.1,true,v.1,v.2.1,()))else some ((v.2.2.1,decide (v.2.2.1>=x2.1),v.1,v.2.1,())))>>=λx3=>if x3.2.1=true then some (((0:Int),(4:Int),()))else Ow (x3.2.2.1,x3.2.2.2.1,())>>=λx4=>if(x4.1 !=0)=true then some (((0:Int),x4.1,()))else if(x3.2.2.1.kind==6)=true then n_79 (x3.2.2.1,x3.2.2.2.1,())>>=λx5=>if 0<=x3.1 then x5.1[x3.1.toNat]?>>=λx6=>some ((x6,(0:Int),()))else none else(if(x3.2.2.1.kind==4)=true then some ((x3.1,true,x3.2.2.1,x3.2.2.2.1,()))else some ((x3.1,x3.2.2.1.kind==5,x3.2.2.1,x3.2.2.2.1,())))>>=λx5=>if x5.2.1=true then x5.2.2.1.parts[U1 0]?>>=λx6=>n_80 (x6,x5.2.2.2.1,())>>=λx7=>some ((i64.wrap (x5.1 *x7.1.size),(0:Int),()))else some (((0:Int),(0:Int),()))
def Jb:=kP KR (kP KS (kP KT (kP KU (kP EE k0))))
def x45:Xc vw:=mX prog 66 Jb.1 SQ [(18,Ms,[.norm])] [(7,O1)] []
theorem KG:aq prog 45 QC On:=fn0 x45 Tryz.func45 Jb.2
def Ro:Cut SN:=⟨[(8, .dat (.int .i64)),(9, .dat (.int .i64))],[]⟩
def SC:ay vw:={rcut:=Ro}
def Qq:Sig vw:=sg [.dat .str, .dat .str, .dat .str, .dat (.st .targetT)] Ro [.tmp 8, .tmp 9]
noncomputable def Og(v:ByteArray×ByteArray×ByteArray×aE×Unit):Option (Int×Int×Unit):=Om (v.1,v.2.1,v.2.2.2.1,())>>=λx1=>if(x1.1 !=0)=true then some (((0:Int),x1.1,()))else KF (x1.2.1.names,v.2.2.1,())>>=λx2=>if decide (x2.1<0)=true then some (((0:Int),(4:Int),()))else On (aa.mk x1.2.1.layout.kind x1.2.1.layout.n x1.2.1.layout.flag x1.2.1.layout.parts,v.2.2.2.1,x2.1,())>>=λx3=>some ((x3.1,x3.2.1,()))
def I7:=kP KE (kP xV (kP KG k0))
def x18:Xc vw:=mX prog 36 I7.1 SC [] [] []
theorem Ks:aq prog 18 Qq Og:=fn0 x18 Tryz.func18 I7.2
def JR:Cut SN:=⟨[(0, .dat .bool)],[]⟩
def Sx:ay vw:={rcut:=JR}
def Ql:Sig vw:=sg [] JR [.tmp 0]
noncomputable def M8(v:Unit):Option (Bool×Unit):=Og (TZ #[115,116,114,117,99,116,32,83,32,123,32,99,104,97,114,32,97,59,32,105,110,116,32,98,59,32,125,59],TZ #[83],TZ #[98],aE.mk (4:Int) false,())>>=λx1=>Ee (TZ #[35,100,101,102,105,110,101,32,78,32,49,48,10,35,100,101,102,105,110,101,32,70,40,120,41,32,120,10],())>>=λx2=>(if(x1.2.1==0)=true then if(x1.1==4)=true then if(x2.2.2.1==0)=true then if((↑x2.1.length:Int)==1)=true then x2.1[U1 0]?>>=λx3=>if(x3.n==10)=true then if((↑x2.2.1.length:Int)==1)=true then x2.2.1[U1 0]?>>=λx4=>some ((x4.toList==(TZ #[35,32,100,101,102,105,110,101,32,70,32,40,32,120,32,41,32,120]).toList,()))else some ((false,()))else some ((false,()))else some ((false,()))else some ((false,()))else some ((false,()))else some ((false,())))>>=λx3=>some ((x3.1,()))
def I6:=kP sT (kP Ks k0)
def x10:Xc vw:=mX prog 49 I6.1 Sx [] [(3,JR)] []
theorem Kn:aq prog 10 Ql M8:=fn0 x10 Tryz.func10 I6.2
def wL:Cut SN:=⟨[(0, .bp 100000 0),(14, .dat .bool)],[(100000, .box none [.dat (.sl .str), .vh 100001, .dat .bool]),(100001, .vec 44 (.st .itemT))]⟩
def fg:Cut SN:=⟨[(0, .bp 100000 0),(2, .dat .str)],[(100000, .box none [.dat (.sl .str), .vh 100001, .dat .bool]),(100001, .vec 44 (.st .itemT))]⟩
def B8:ay vw:={rcut:=fg}
def yt:Sig vw:={params:=[.bp 100000 0],objs:=[(100000, .box none [.dat (.sl .str), .vh 100001, .dat .bool]),(100001, .vec 44 (.st .itemT))],rcut:=fg,rvars:=[.tmp 2],keep:=[100000,100001]}
noncomputable def ek(v:(List ByteArray)×Bool×(List Item)×Unit):Option (ByteArray×(List ByteArray)×Bool×(List Item)×Unit):=(if v.2.1=true then some ((true,v.1,v.2.1,v.2.2.1,()))else some (((↑v.1.length:Int)==0,v.1,v.2.1,v.2.2.1,())))>>=λx1=>if x1.1=true then some ((TZ #[],x1.2.1,x1.2.2.1,x1.2.2.2.1,()))else x1.2.1[U1 0]?>>=λx2=>some ((x2,x1.2.1,x1.2.2.1,x1.2.2.2.1,()))
def Gu:Xc vw:=mX prog 21 c0 B8 [] [(1,wL)] []
theorem ij:aq prog 136 yt ek:=fn0 Gu Tryz.func136 bB
def B_:ay vw:={rcut:=fg}
def yv:Sig vw:={params:=[.bp 100000 0],objs:=[(100000, .box none [.dat (.sl .str), .vh 100001, .dat .bool]),(100001, .vec 44 (.st .itemT))],rcut:=fg,rvars:=[.tmp 2],keep:=[100000,100001]}
noncomputable def cT(v:(List ByteArray)×Bool×(List Item)×Unit):Option (ByteArray×(List ByteArray)×Bool×(List Item)×Unit):=ek (v.1,v.2.1,v.2.2.1,())>>=λx1=>if x1.2.2.2.1.length=v.2.2.1.length then if(x1.1.toList==(TZ #[]).toList)=true then some ((TZ #[],x1.2.1,true,x1.2.2.2.1,()))else if(0:Int)<=1/\(1:Int)<=(↑x1.2.1.length:Int)/\(↑x1.2.1.length:Int)<=(↑x1.2.1.length:Int)then some ((x1.1,Xe (U1 1) (WS (↑x1.2.1.length:Int).toNat x1.2.1),x1.2.2.1,x1.2.2.2.1,()))else none else none
def nq:=kO ij k0
def Gv:Xc vw:=mX prog 20 nq.1 B_ [] [] []
theorem dr:aq prog 138 yv cT:=fn0 Gv Tryz.func138 nq.2
def gw:Cut SN:=⟨[(0, .bp 100000 0)],[(100000, .box none [.dat (.sl .str), .vh 100001, .dat .bool]),(100001, .vec 44 (.st .itemT))]⟩
def BX:ay vw:={rcut:=gw}
def yn:Sig vw:={params:=[.bp 100000 0, .dat .str],objs:=[(100000, .box none [.dat (.sl .str), .vh 100001, .dat .bool]),(100001, .vec 44 (.st .itemT))],rcut:=gw,rvars:=[],keep:=[100000,100001]}
noncomputable def aQ(v:ByteArray×(List ByteArray)×Bool×(List Item)×Unit):Option ((List ByteArray)×Bool×(List Item)×Unit):=cT (v.2.1,v.2.2.1,v.2.2.2.1,())>>=λx1=>if x1.2.2.2.1.length=v.2.2.2.1.length then if(!x1.1.toList==v.1.toList)=true then some ((x1.2.1,true,x1.2.2.2.1,()))else some ((x1.2.1,x1.2.2.1,x1.2.2.2.1,()))else none
def ni:=kO dr k0
def Gq:Xc vw:=mX prog 11 ni.1 BX [] [] []
theorem fa:aq prog 130 yn aQ:=fn0 Gq Tryz.func130 ni.2
def Qd:ay vw:={rcut:=dG}
def NK:Sig vw:=sg [.dat .str] dG [.tmp 2]
noncomputable def HG(v:ByteArray×Unit):Option (Bool×Unit):=(if(v.1.toList==(TZ #[99,104,97,114]).toList)=true then some ((true,()))else if(v.1.toList==(TZ #[115,104,111,114,116]).toList)=true then some ((true,()))else if(v.1.toList==(TZ #[105,110,116]).toList)=true then some ((true,()))else if(v.1.toList==(TZ #[108,111,110,103]).toList)=true then some ((true,()))else if(v.1.toList==(TZ #[117,110,115,105,103,110,101,100]).toList)=true then some ((true,()))else if(v.1.toList==(TZ #[118,111,105,100]).toList)=true then some ((true,()))else if(v.1.toList==(TZ #[115,116,114,117,99,116]).toList)=true then some ((true,()))else some ((v.1.toList==(TZ #[101,110,117,109]).toList,())))>>=λx1=>if x1.1=true then some ((true,()))else some ((false,()))
def TL:Xc vw:=mX prog 13 c0 Qd [(10,gl,[.norm])] [] []
theorem HH:aq prog 169 NK HG:=fn0 TL Tryz.func169 bB
def Tb:ay vw:={rcut:=dG}
def QQ:Sig vw:=sg [.dat (.int .u8)] dG [.tmp 2]
noncomputable def LN(v:Int×Unit):Option (Bool×Unit):=(if decide (v.1>=97)=true then if decide (v.1<=122)=true then some ((true,()))else if decide (v.1>=65)=true then if decide (v.1<=90)=true then some ((true,()))else some ((v.1==95,()))else some ((v.1==95,()))else if decide (v.1>=65)=true then if decide (v.1<=90)=true then some ((true,()))else some ((v.1==95,()))else some ((v.1==95,())))>>=λx1=>some ((x1.1,()))
def x88:Xc vw:=mX prog 21 c0 Tb [] [(1,dG)] []
theorem EI:aq prog 88 QQ LN:=fn0 x88 Tryz.func88 bB
def wI:Cut SN:=⟨[(0, .bp 100000 0),(3, .dat .str)],[(100000, .box none [.dat (.sl .str), .vh 100001, .dat .bool]),(100001, .vec 44 (.st .itemT))]⟩
def wJ:Cut SN:=⟨[(0, .bp 100000 0),(3, .dat .str),(17, .dat .bool)],[(100000, .box none [.dat (.sl .str), .vh 100001, .dat .bool]),(100001, .vec 44 (.st .itemT))]⟩
def BZ:ay vw:={rcut:=fg}
def yo:Sig vw:={params:=[.bp 100000 0],objs:=[(100000, .box none [.dat (.sl .str), .vh 100001, .dat .bool]),(100001, .vec 44 (.st .itemT))],rcut:=fg,rvars:=[.tmp 2],keep:=[100000,100001]}
noncomputable def bL(v:(List ByteArray)×Bool×(List Item)×Unit):Option (ByteArray×(List ByteArray)×Bool×(List Item)×Unit):=cT (v.1,v.2.1,v.2.2.1,())>>=λx1=>if x1.2.2.2.1.length=v.2.2.1.length then((if(x1.1.toList==(TZ #[]).toList)=true then some ((x1.1,true,x1.2.1,x1.2.2.1,x1.2.2.2.1,()))else x1.1[U1 0]?>>=λx2=>LN ((↑x2.toNat:Int),())>>=λx3=>if(!x3.1)=true then some ((x1.1,true,x1.2.1,x1.2.2.1,x1.2.2.2.1,()))else HG (x1.1,())>>=λx4=>some ((x1.1,x4.1,x1.2.1,x1.2.2.1,x1.2.2.2.1,())))>>=λx2=>if x2.2.1=true then some ((x2.1,x2.2.2.1,true,x2.2.2.2.2.1,()))else some ((x2.1,x2.2.2.1,x2.2.2.2.1,x2.2.2.2.2.1,())))>>=λx2=>some ((x2.1,x2.2.1,x2.2.2.1,x2.2.2.2.1,()))else none
def nj:=kP EI (kO dr (kP HH k0))
def Gr:Xc vw:=mX prog 22 nj.1 BZ [(4,wI,[.norm])] [(2,wJ)] []
theorem d6:aq prog 131 yo bL:=fn0 Gr Tryz.func131 nj.2
def rk:Cut SN:=⟨[(0, .bp 100000 0),(4, .dat .bool)],[(100000, .box none [.dat (.sl .str), .vh 100001, .dat .bool]),(100001, .vec 44 (.st .itemT))]⟩
def B5:ay vw:={rcut:=rk}
def yp:Sig vw:={params:=[.bp 100000 0, .dat .str],objs:=[(100000, .box none [.dat (.sl .str), .vh 100001, .dat .bool]),(100001, .vec 44 (.st .itemT))],rcut:=rk,rvars:=[.tmp 4],keep:=[100000,100001]}
noncomputable def dS(v:ByteArray×(List ByteArray)×Bool×(List Item)×Unit):Option (Bool×(List ByteArray)×Bool×(List Item)×Unit):=ek (v.2.1,v.2.2.1,v.2.2.2.1,())>>=λx1=>if x1.2.2.2.1.length=v.2.2.2.1.length then if(!x1.1.toList==v.1.toList)=true then some ((false,x1.2.1,x1.2.2.1,x1.2.2.2.1,()))else cT (x1.2.1,x1.2.2.1,x1.2.2.2.1,())>>=λx2=>if x2.2.2.2.1.length=x1.2.2.2.1.length then some ((true,x2.2.1,x2.2.2.1,x2.2.2.2.1,()))else none else none
def nk:=kO ij (kO dr k0)
def Gs:Xc vw:=mX prog 11 nk.1 B5 [] [] []
theorem d7:aq prog 132 yp dS:=fn0 Gs Tryz.func132 nk.2
def Tc:ay vw:={rcut:=dG}
def QR:Sig vw:=sg [.dat (.int .u8)] dG [.tmp 2]
noncomputable def KX(v:Int×Unit):Option (Bool×Unit):=(if decide (v.1>=48)=true then some ((decide (v.1<=57),()))else some ((false,())))>>=λx1=>some ((x1.1,()))
def x89:Xc vw:=mX prog 9 c0 Tc [] [(1,dG)] []
theorem EJ:aq prog 89 QR KX:=fn0 x89 Tryz.func89 bB
def wK:Cut SN:=⟨[(0, .bp 100000 0),(3, .dat .str),(20, .dat .bool)],[(100000, .box none [.dat (.sl .str), .vh 100001, .dat .bool]),(100001, .vec 44 (.st .itemT))]⟩
def rl:Cut SN:=⟨[(0, .bp 100000 0),(2, .dat (.int .i64))],[(100000, .box none [.dat (.sl .str), .vh 100001, .dat .bool]),(100001, .vec 44 (.st .itemT))]⟩
def B6:ay vw:={rcut:=rl}
def yq:Sig vw:={params:=[.bp 100000 0],objs:=[(100000, .box none [.dat (.sl .str), .vh 100001, .dat .bool]),(100001, .vec 44 (.st .itemT))],rcut:=rl,rvars:=[.tmp 2],keep:=[100000,100001]}
noncomputable def gO(v:(List ByteArray)×Bool×(List Item)×Unit):Option (Int×(List ByteArray)×Bool×(List Item)×Unit):=cT (v.1,v.2.1,v.2.2.1,())>>=λx1=>if x1.2.2.2.1.length=v.2.2.1.length then(if(x1.1.toList==(TZ #[]).toList)=true then some ((x1.1,true,x1.2.1,x1.2.2.1,x1.2.2.2.1,()))else x1.1[U1 0]?>>=λx2=>KX ((↑x2.toNat:Int),())>>=λx3=>if(!x3.1)=true then some ((x1.1,true,x1.2.1,x1.2.2.1,x1.2.2.2.1,()))else some ((x1.1,decide ((↑x1.1.size:Int)>9),x1.2.1,x1.2.2.1,x1.2.2.2.1,())))>>=λx2=>if x2.2.1=true then some (((0:Int),x2.2.2.1,true,x2.2.2.2.2.1,()))else Bq (x2.1,())>>=λx3=>some ((x3.1,x2.2.2.1,x2.2.2.2.1,x2.2.2.2.2.1,()))else none
def nn:=kP EJ (kO dr (kP zx k0))
def Gt:Xc vw:=mX prog 30 nn.1 B6 [] [(2,wK)] []
theorem lW:aq prog 133 yq gO:=fn0 Gt Tryz.func133 nn.2
def C9:Cut SN:=⟨[(0, .dat (.sl (.st .itemT))),(1, .dat .str),(5, .dat (.int .i64))],[]⟩
def I0:Cut SN:=⟨[(0, .dat (.sl (.st .itemT))),(1, .dat .str),(5, .dat (.int .i64)),(6, .dat (.int .i64))],[]⟩
def Mb:Cut SN:=⟨[(0, .dat (.sl (.st .itemT))),(1, .dat .str),(5, .dat (.int .i64)),(27, .dat .bool)],[]⟩
def Mc:Cut SN:=⟨[(0, .dat (.sl (.st .itemT))),(1, .dat .str),(5, .dat (.int .i64)),(6, .dat (.int .i64)),(43, .dat .bool)],[]⟩
def P5:ay vw:=shL [(0,nX),(2,C9)] gl
def NC:Sig vw:=sg [.dat (.sl (.st .itemT)), .dat .str] gl [.tmp 4]
noncomputable def fL(v:(List Item)×ByteArray×Int×Int×Unit):Option (((Bool×Unit)⊕((List Item)×ByteArray×Int×Unit))):=(if 0<=v.2.2.1 then v.1[v.2.2.1.toNat]?>>=λx1=>if decide (v.2.2.2.1<(↑x1.names.length:Int))=true then if 0<=v.2.2.1 then v.1[v.2.2.1.toNat]?>>=λx2=>some ((v.1,v.2.1,v.2.2.1,v.2.2.2.1,x2.kind==1,()))else none else some ((v.1,v.2.1,v.2.2.1,v.2.2.2.1,false,()))else none)>>=λx1=>if x1.2.2.2.2.1=true then if 0<=x1.2.2.1 then x1.1[x1.2.2.1.toNat]?>>=λx2=>if 0<=x1.2.2.2.1 then x2.names[x1.2.2.2.1.toNat]?>>=λx3=>if(x3.toList==x1.2.1.toList)=true then some (UF (true,()))else fL (x1.1,x1.2.1,x1.2.2.1,i64.wrap (x1.2.2.2.1+1),())else none else none else some (UI (x1.1,x1.2.1,x1.2.2.1,())) partial_fixpoint
noncomputable def ie(v:(List Item)×ByteArray×Int×Unit):Option (((Bool×Unit)⊕(Unit))):=if decide (v.2.2.1<(↑v.1.length:Int))=true then(if 0<=v.2.2.1 then v.1[v.2.2.1.toNat]?>>=λx1=>if(x1.kind==0)=true then if 0<=v.2.2.1 then v.1[v.2.2.1.toNat]?>>=λx2=>some ((v.1,v.2.1,v.2.2.1,x2.name0.toList==v.2.1.toList,()))else none else some ((v.1,v.2.1,v.2.2.1,false,()))else none)>>=λx1=>if x1.2.2.2.1=true then some (UF (true,()))else fL (x1.1,x1.2.1,x1.2.2.1,(0:Int),())>>=λx2=>match x2 with| .inl y2=>some (UF y2)| .inr y2=>ie (y2.1,y2.2.1,i64.wrap (y2.2.2.1+1),())else some (UI ()) partial_fixpoint
noncomputable def Ej(v:(List Item)×ByteArray×Unit):Option (Bool×Unit):=ie (v.1,v.2.1,(0:Int),())>>=λx1=>match x1 with| .inl y1=>some y1| .inr y1=>some ((false,()))
def Ri:Xc vw:=mX prog 56 c0 P5 [] [(4,Mb),(7,Mc)] [(2,⟨C9,[.ret, .exit 0],ie⟩),(7,⟨I0,[.ret, .exit 2],fL⟩)]
theorem Bm:dT Ri (ai (ai (af Tryz.f134) 0) 0) ⟨I0,[.ret, .exit 2],fL⟩:=lp0 fL.partial_correctness bB
theorem Bl:dT Ri (ai (af Tryz.f134) 0) ⟨C9,[.ret, .exit 0],ie⟩:=lp1 ie.partial_correctness bB Bm
theorem zw:aq prog 134 NC Ej:=fn1 Ri Tryz.func134 bB Bl
def oJ:Cut SN:=⟨[(0, .bp 100000 0),(2, .bp 2 0),(3, .bp 3 0)],[(100000, .box none [.dat (.sl .str), .vh 100001, .dat .bool]),(2, .st .itemT),(3, .st .itemT),(100001, .vec 44 (.st .itemT))]⟩
def dM:Cut SN:=⟨[(0, .bp 100000 0),(2, .bp 2 0)],[(100000, .box none [.dat (.sl .str), .vh 100001, .dat .bool]),(100001, .vec 44 (.st .itemT)),(2, .st .itemT)]⟩
def BP:ay vw:={rcut:=dM}
def yj:Sig vw:={params:=[.bp 100000 0],objs:=[(100000, .box none [.dat (.sl .str), .vh 100001, .dat .bool]),(100001, .vec 44 (.st .itemT))],rcut:=dM,rvars:=[.cell 2 44],keep:=[100000,100001]}
noncomputable def gL(v:(List ByteArray)×Bool×(List Item)×Unit):Option ((List ByteArray)×Bool×(List Item)×Item×Unit):=aQ (TZ #[35],v.1,v.2.1,v.2.2.1,())>>=λx1=>if x1.2.2.1.length=v.2.2.1.length then aQ (TZ #[100,101,102,105,110,101],x1.1,x1.2.1,x1.2.2.1,())>>=λx2=>if x2.2.2.1.length=x1.2.2.1.length then bL (x2.1,x2.2.1,x2.2.2.1,())>>=λx3=>if x3.2.2.2.1.length=x2.2.2.1.length then dS (TZ #[45],x3.2.1,x3.2.2.1,x3.2.2.2.1,())>>=λx4=>if x4.2.2.2.1.length=x3.2.2.2.1.length then gO (x4.2.1,x4.2.2.1,x4.2.2.2.1,())>>=λx5=>if x5.2.2.2.1.length=x4.2.2.2.1.length then(if x4.1=true then some ((x5.2.1,x5.2.2.1,Item.mk 0 (TZ #[]) (0:Int) [] (aa.mk 0 0 false []),Item.mk (Item.mk 0 x3.1 (0:Int) [] (aa.mk 0 0 false [])).kind (Item.mk 0 x3.1 (0:Int) [] (aa.mk 0 0 false [])).name0 (i64.wrap ((0:Int) -x5.1)) (Item.mk 0 x3.1 (0:Int) [] (aa.mk 0 0 false [])).names (aa.mk (Item.mk 0 x3.1 (0:Int) [] (aa.mk 0 0 false [])).layout.kind (Item.mk 0 x3.1 (0:Int) [] (aa.mk 0 0 false [])).layout.n (Item.mk 0 x3.1 (0:Int) [] (aa.mk 0 0 false [])).layout.flag (Item.mk 0 x3.1 (0:Int) [] (aa.mk 0 0 false [])).layout.parts),x5.2.2.2.1,()))else some ((x5.2.1,x5.2.2.1,Item.mk 0 (TZ #[]) (0:Int) [] (aa.mk 0 0 false []),Item.mk (Item.mk 0 x3.1 (0:Int) [] (aa.mk 0 0 false [])).kind (Item.mk 0 x3.1 (0:Int) [] (aa.mk 0 0 false [])).name0 x5.1 (Item.mk 0 x3.1 (0:Int) [] (aa.mk 0 0 false [])).names (aa.mk (Item.mk 0 x3.1 (0:Int) [] (aa.mk 0 0 false [])).layout.kind (Item.mk 0 x3.1 (0:Int) [] (aa.mk 0 0 false [])).layout.n (Item.mk 0 x3.1 (0:Int) [] (aa.mk 0 0 false [])).layout.flag (Item.mk 0 x3.1 (0:Int) [] (aa.mk 0 0 false [])).layout.parts),x5.2.2.2.1,())))>>=λx6=>(if x6.2.1=true then some ((x6.1,true,x6.2.2.1,x6.2.2.2.1,x6.2.2.2.2.1,()))else Ej (x6.2.2.2.2.1,x6.2.2.2.1.name0,())>>=λx7=>some ((x6.1,x7.1,x6.2.2.1,x6.2.2.2.1,x6.2.2.2.2.1,())))>>=λx7=>some ((x7.1,x7.2.1,x7.2.2.2.2.1,x7.2.2.2.1,()))else none else none else none else none else none
def ng:=kO fa (kO d6 (kO d7 (kO lW (kP zw k0))))
def Gn:Xc vw:=mX prog 39 ng.1 BP [(8,oJ,[.norm])] [(8,oJ)] []
theorem sO:aq prog 101 yj gL:=fn0 Gn Tryz.func101 ng.2
def kC:Cut SN:=⟨[(0, .bp 100000 0),(1, .dat (.sl .str)),(4, .dat (.int .i64))],[(100000, .box none [.dat (.sl .str), .vh 100001, .dat .bool]),(100001, .vec 44 (.st .itemT))]⟩
def kD:Cut SN:=⟨[(0, .bp 100000 0),(1, .dat (.sl .str)),(4, .dat (.int .i64)),(5, .dat (.int .i64))],[(100000, .box none [.dat (.sl .str), .vh 100001, .dat .bool]),(100001, .vec 44 (.st .itemT))]⟩
def B7:ay vw:=shL [(0,gw),(2,kC)] gw
def yr:Sig vw:={params:=[.bp 100000 0, .dat (.sl .str)],objs:=[(100000, .box none [.dat (.sl .str), .vh 100001, .dat .bool]),(100001, .vec 44 (.st .itemT))],rcut:=gw,rvars:=[],keep:=[100000,100001]}
noncomputable def ca(v:(List ByteArray)×Int×Int×(List ByteArray)×Bool×(List Item)×Unit):Option (((List ByteArray)×Int×(List ByteArray)×Bool×(List Item)×Unit)):=if decide (v.2.2.1<v.2.1)=true then(if 0<=v.2.1 then v.1[v.2.1.toNat]?>>=λx1=>if 0<=v.2.2.1 then v.1[v.2.2.1.toNat]?>>=λx2=>if(x1.toList==x2.toList)=true then some ((v.1,v.2.1,v.2.2.1,v.2.2.2.1,true,v.2.2.2.2.2.1,()))else some ((v.1,v.2.1,v.2.2.1,v.2.2.2.1,v.2.2.2.2.1,v.2.2.2.2.2.1,()))else none else none)>>=λx1=>ca (x1.1,x1.2.1,i64.wrap (x1.2.2.1+1),x1.2.2.2.1,x1.2.2.2.2.1,x1.2.2.2.2.2.1,())else some ((v.1,v.2.1,v.2.2.2.1,v.2.2.2.2.1,v.2.2.2.2.2.1,())) partial_fixpoint
noncomputable def b_(v:(List ByteArray)×Int×(List ByteArray)×Bool×(List Item)×Unit):Option (((List ByteArray)×Bool×(List Item)×Unit)):=if decide (v.2.1<(↑v.1.length:Int))=true then ca (v.1,v.2.1,(0:Int),v.2.2.1,v.2.2.2.1,v.2.2.2.2.1,())>>=λx1=>b_ (x1.1,i64.wrap (x1.2.1+1),x1.2.2.1,x1.2.2.2.1,x1.2.2.2.2.1,())else some ((v.2.2.1,v.2.2.2.1,v.2.2.2.2.1,())) partial_fixpoint
noncomputable def fm(v:(List ByteArray)×(List ByteArray)×Bool×(List Item)×Unit):Option ((List ByteArray)×Bool×(List Item)×Unit):=b_ (v.1,(0:Int),v.2.1,v.2.2.1,v.2.2.2.1,())>>=λx1=>some ((x1.1,x1.2.1,x1.2.2.1,()))
def qu:Xc vw:=mX prog 29 c0 B7 [(5,kD,[.norm])] [] [(1,⟨kC,[.exit 0],b_⟩),(4,⟨kD,[.exit 2],ca⟩)]
theorem pC:dT qu (ai (ai (af Tryz.f135) 0) 0) ⟨kD,[.exit 2],ca⟩:=lp0 ca.partial_correctness bB
theorem pB:dT qu (ai (af Tryz.f135) 0) ⟨kC,[.exit 0],b_⟩:=lp1 b_.partial_correctness bB pC
theorem ig:aq prog 135 yr fm:=fn1 qu Tryz.func135 bB pB
def dc:Cut SN:=⟨[(0, .bp 100000 0),(2, .bp 2 0),(3, .bp 3 0)],[(100000, .box none [.dat (.sl .str), .vh 100001, .dat .bool]),(2, .st .itemT),(3, .box none [.dat (.int .i64), .dat .str, .dat (.int .i64), .vh 3033, .dat (.int .i64), .dat (.int .i64), .dat .bool, .vh 3037]),(100001, .vec 44 (.st .itemT)),(3033, .vec 9 .str),(3037, .vec 42 (.st .layoutT))]⟩
def iR:Cut SN:=⟨[(0, .bp 100000 0),(2, .bp 2 0),(3, .bp 3 0),(4, .dat (.int .i64))],[(100000, .box none [.dat (.sl .str), .vh 100001, .dat .bool]),(2, .st .itemT),(3, .box none [.dat (.int .i64), .dat .str, .dat (.int .i64), .dat (.sl .str), .dat (.int .i64), .dat (.int .i64), .dat .bool, .vh 3037]),(100001, .vec 44 (.st .itemT)),(3037, .vec 42 (.st .layoutT))]⟩
def wy:Cut SN:=⟨[(0, .bp 100000 0),(2, .bp 2 0),(3, .bp 3 0)],[(100000, .box none [.dat (.sl .str), .vh 100001, .dat .bool]),(2, .st .itemT),(3, .box none [.dat (.int .i64), .dat .str, .dat (.int .i64), .dat (.sl .str), .dat (.int .i64), .dat (.int .i64), .dat .bool, .vh 3037]),(100001, .vec 44 (.st .itemT)),(3037, .vec 42 (.st .layoutT))]⟩
def BQ:ay vw:=shL [(0,dc),(2,wy)] dM
def ya:Nat->Bool:=λk=>match k with|135=>true|_=>false
def yk:Sig vw:={params:=[.bp 100000 0],objs:=[(100000, .box none [.dat (.sl .str), .vh 100001, .dat .bool]),(100001, .vec 44 (.st .itemT))],rcut:=dM,rvars:=[.cell 2 44],keep:=[100000,100001]}
noncomputable def bY(v:(List ByteArray)×Bool×Item×Int×ByteArray×Int×Int×Int×Bool×(List Item)×(List ByteArray)×(List aa)×Unit):Option (((List ByteArray)×Bool×Item×Int×ByteArray×Int×Int×Int×Bool×(List Item)×(List ByteArray)×(List aa)×Unit)):=dS (TZ #[44],v.1,v.2.1,v.2.2.2.2.2.2.2.2.2.1,())>>=λx1=>if x1.2.2.2.1.length=v.2.2.2.2.2.2.2.2.2.1.length then if x1.1=true then bL (x1.2.1,x1.2.2.1,x1.2.2.2.1,())>>=λx2=>if x2.2.2.2.1.length=x1.2.2.2.1.length then if v.2.2.2.2.2.2.2.2.2.2.1.length+[x2.1].length<=4294967296 then bY (x2.2.1,x2.2.2.1,v.2.2.1,v.2.2.2.1,v.2.2.2.2.1,v.2.2.2.2.2.1,v.2.2.2.2.2.2.1,v.2.2.2.2.2.2.2.1,v.2.2.2.2.2.2.2.2.1,x2.2.2.2.1,v.2.2.2.2.2.2.2.2.2.2.1++[x2.1],v.2.2.2.2.2.2.2.2.2.2.2.1,())else none else none else some ((x1.2.1,x1.2.2.1,v.2.2.1,v.2.2.2.1,v.2.2.2.2.1,v.2.2.2.2.2.1,v.2.2.2.2.2.2.1,v.2.2.2.2.2.2.2.1,v.2.2.2.2.2.2.2.2.1,x1.2.2.2.1,v.2.2.2.2.2.2.2.2.2.2.1,v.2.2.2.2.2.2.2.2.2.2.2.1,()))else none partial_fixpoint
noncomputable def bJ(v:Int×(List ByteArray)×Bool×Item×Int×ByteArray×Int×(List ByteArray)×Int×Int×Bool×(List Item)×(List aa)×Unit):Option (((List ByteArray)×Bool×Item×Int×ByteArray×Int×(List ByteArray)×Int×Int×Bool×(List Item)×(List aa)×Unit)):=if decide (v.1<(↑v.2.2.2.2.2.2.2.1.length:Int))=true then(if v.2.2.1=true then some ((v.1,v.2.1,true,v.2.2.2.1,v.2.2.2.2.1,v.2.2.2.2.2.1,v.2.2.2.2.2.2.1,v.2.2.2.2.2.2.2.1,v.2.2.2.2.2.2.2.2.1,v.2.2.2.2.2.2.2.2.2.1,v.2.2.2.2.2.2.2.2.2.2.1,v.2.2.2.2.2.2.2.2.2.2.2.1,v.2.2.2.2.2.2.2.2.2.2.2.2.1,()))else if 0<=v.1 then v.2.2.2.2.2.2.2.1[v.1.toNat]?>>=λx1=>Ej (v.2.2.2.2.2.2.2.2.2.2.2.1,x1,())>>=λx2=>some ((v.1,v.2.1,x2.1,v.2.2.2.1,v.2.2.2.2.1,v.2.2.2.2.2.1,v.2.2.2.2.2.2.1,v.2.2.2.2.2.2.2.1,v.2.2.2.2.2.2.2.2.1,v.2.2.2.2.2.2.2.2.2.1,v.2.2.2.2.2.2.2.2.2.2.1,v.2.2.2.2.2.2.2.2.2.2.2.1,v.2.2.2.2.2.2.2.2.2.2.2.2.1,()))else none)>>=λx1=>bJ (i64.wrap (x1.1+1),x1.2.1,x1.2.2.1,x1.2.2.2.1,x1.2.2.2.2.1,x1.2.2.2.2.2.1,x1.2.2.2.2.2.2.1,x1.2.2.2.2.2.2.2.1,x1.2.2.2.2.2.2.2.2.1,x1.2.2.2.2.2.2.2.2.2.1,x1.2.2.2.2.2.2.2.2.2.2.1,x1.2.2.2.2.2.2.2.2.2.2.2.1,x1.2.2.2.2.2.2.2.2.2.2.2.2.1,())else some ((v.2.1,v.2.2.1,v.2.2.2.1,v.2.2.2.2.1,v.2.2.2.2.2.1,v.2.2.2.2.2.2.1,v.2.2.2.2.2.2.2.1,v.2.2.2.2.2.2.2.2.1,v.2.2.2.2.2.2.2.2.2.1,v.2.2.2.2.2.2.2.2.2.2.1,v.2.2.2.2.2.2.2.2.2.2.2.1,v.2.2.2.2.2.2.2.2.2.2.2.2.1,())) partial_fixpoint
noncomputable def gM(v:(List ByteArray)×Bool×(List Item)×Unit):Option ((List ByteArray)×Bool×(List Item)×Item×Unit):=aQ (TZ #[101,110,117,109],v.1,v.2.1,v.2.2.1,())>>=λx1=>if x1.2.2.1.length=v.2.2.1.length then(bL (x1.1,x1.2.1,x1.2.2.1,())>>=λx2=>if x2.2.2.2.1.length=x1.2.2.1.length then some ((x2.2.1,x2.2.2.1,Item.mk 0 (TZ #[]) (0:Int) [] (aa.mk 0 0 false []),(1:Int),x2.1,(0:Int),(0:Int),(0:Int),false,x2.2.2.2.1,[],[],()))else none)>>=λx2=>aQ (TZ #[123],x2.1,x2.2.1,x2.2.2.2.2.2.2.2.2.2.1,())>>=λx3=>if x3.2.2.1.length=x2.2.2.2.2.2.2.2.2.2.1.length then bL (x3.1,x3.2.1,x3.2.2.1,())>>=λx4=>if x4.2.2.2.1.length=x3.2.2.1.length then if x2.2.2.2.2.2.2.2.2.2.2.1.length+[x4.1].length<=4294967296 then bY (x4.2.1,x4.2.2.1,x2.2.2.1,x2.2.2.2.1,x2.2.2.2.2.1,x2.2.2.2.2.2.1,x2.2.2.2.2.2.2.1,x2.2.2.2.2.2.2.2.1,x2.2.2.2.2.2.2.2.2.1,x4.2.2.2.1,x2.2.2.2.2.2.2.2.2.2.2.1++[x4.1],x2.2.2.2.2.2.2.2.2.2.2.2.1,())>>=λx5=>aQ (TZ #[125],x5.1,x5.2.1,x5.2.2.2.2.2.2.2.2.2.1,())>>=λx6=>if x6.2.2.1.length=x5.2.2.2.2.2.2.2.2.2.1.length then aQ (TZ #[59],x6.1,x6.2.1,x6.2.2.1,())>>=λx7=>if x7.2.2.1.length=x6.2.2.1.length then fm (x5.2.2.2.2.2.2.2.2.2.2.1,x7.1,x7.2.1,x7.2.2.1,())>>=λx8=>if x8.2.2.1.length=x7.2.2.1.length then bJ ((0:Int),x8.1,x8.2.1,x5.2.2.1,x5.2.2.2.1,x5.2.2.2.2.1,x5.2.2.2.2.2.1,x5.2.2.2.2.2.2.2.2.2.2.1,x5.2.2.2.2.2.2.1,x5.2.2.2.2.2.2.2.1,x5.2.2.2.2.2.2.2.2.1,x8.2.2.1,x5.2.2.2.2.2.2.2.2.2.2.2.1,())>>=λx9=>some ((x9.1,x9.2.1,x9.2.2.2.2.2.2.2.2.2.2.1,Item.mk x9.2.2.2.1 x9.2.2.2.2.1 x9.2.2.2.2.2.1 x9.2.2.2.2.2.2.1 (aa.mk x9.2.2.2.2.2.2.2.1 x9.2.2.2.2.2.2.2.2.1 x9.2.2.2.2.2.2.2.2.2.1 x9.2.2.2.2.2.2.2.2.2.2.2.1),()))else none else none else none else none else none else none else none
def f_:=kO fa (kO d6 (kO d7 (kP zw (kO ig k0))))
def qt:Xc vw:={P:=prog,n:=63,nm:=λd=>match d with|9=>40009|_=>d,call:=f_.1,pre:=ya,sh:=BQ,regs:=λk=>match k with|2=>some dc|13=>some iR|_=>none,loops:=λk=>match k with|5=>some {cut:=dc,alts:=[.exit 0],F:=bY}|11=>some {cut:=iR,alts:=[.exit 2],F:=bJ}|_=>none}
theorem po:dT qt (ai (af Tryz.f102) 0) ⟨dc,[.exit 0],bY⟩:=lp0 bY.partial_correctness f_.2
theorem nZ:dT qt (ai (af Tryz.f102) 1) ⟨iR,[.exit 2],bJ⟩:=lp0 bJ.partial_correctness f_.2
theorem sP:aq prog 102 yk gM:=fn2 qt Tryz.func102 f_.2 po nZ
end Go.Proofs.YtpelkenpapfadaaGreatDoor
end
