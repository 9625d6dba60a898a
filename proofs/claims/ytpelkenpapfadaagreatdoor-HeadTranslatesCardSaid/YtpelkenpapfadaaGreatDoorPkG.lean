/-
  Texts of this claim, joined by a program of mine: what the theorem uses.
-/
import Derived.Test.YtpelkenpapfadaaGreatDoorPkE
import Derived.Test.YtpelkenpapfadaaGreatDoorPkC
import Derived.Test.YtpelkenpapfadaaGreatDoorPkF
open ByteArray renaming mk→Vp
open Int renaming toNat→Wq
open List renaming drop→YE,take→Yh
open Sum renaming inl→V_,inr→V9
noncomputable section
set_option linter.unusedVariables false
section
namespace Go.Proofs.YtpelkenpapfadaaGreatDoor
open Go.Awp Go.Tx
open IntKind (i64)
open Go.Proofs.Tryz (prog)
set_option maxHeartbeats 4000000
set_option maxRecDepth 100000
def dZ:Cut SN:=⟨[(0, .bp 100000 0),(2, .dat (.int .i64)),(4, .bp 4 0),(6, .dat (.int .i64)),(98, .dat (.sl (.st .layoutT))),(99, .dat (.int .i64)),(100, .dat (.int .i64))],[(100000, .st .countedT),(4, .st .layoutT)]⟩
def eX:Cut SN:=⟨[(0, .bp 100000 0),(2, .dat (.int .i64)),(126, .dat (.sl (.st .layoutT))),(127, .dat (.int .i64)),(128, .dat (.int .i64))],[(100000, .st .countedT)]⟩
def dY:Cut SN:=⟨[(0, .bp 100000 0),(2, .dat (.int .i64)),(4, .bp 4 0)],[(100000, .st .countedT),(4, .st .layoutT)]⟩
def za:Cut SN:=⟨[(0, .bp 100000 0),(2, .dat (.int .i64)),(4, .bp 4 0),(6, .dat (.int .i64))],[(100000, .st .countedT),(4, .st .layoutT)]⟩
def lh:Cut SN:=⟨[(0, .bp 100000 0)],[(100000, .st .countedT)]⟩
def fQ:az vw:={exits:=λid=>match id with|1=>za|3=>lh|_=>⟨[],[]⟩,rcut:=lh}
def bI:Sig vw:={params:=[.bp 100000 0, .dat (.st .layoutT), .dat (.int .i64)],objs:=[(100000, .st .countedT)],rcut:=lh,rvars:=[],keep:=[100000]}
noncomputable def aE(v:Int×Int×(List aa)×Int×Int×an×aa×Unit):Option ((Int×Int×an×aa×Unit)):=if decide (v.2.2.2.2.1<v.2.2.2.1)=true then if 0<=v.2.2.2.2.1 then v.2.2.1[v.2.2.2.2.1.toNat]?>>=λx1=>Ah (x1,())>>=λx2=>lO ([v.2.1,x2.1],())>>=λx3=>aE (v.1,x3.1,v.2.2.1,v.2.2.2.1,i64.wrap (v.2.2.2.2.1+1),v.2.2.2.2.2.1,v.2.2.2.2.2.2.1,())else none else some ((v.1,v.2.1,v.2.2.2.2.2.1,v.2.2.2.2.2.2.1,())) partial_fixpoint
mutual
noncomputable def bE(v:Int×(List aa)×Int×Int×an×Unit):Option ((an×Unit)):=if decide (v.2.2.2.1<v.2.2.1)=true then if 0<=v.2.2.2.1 then v.2.1[v.2.2.2.1.toNat]?>>=λx1=>n_126sf4a5 (x1,i64.wrap (v.1+1),v.2.2.2.2.1,())>>=λx2=>bE (v.1,v.2.1,v.2.2.1,i64.wrap (v.2.2.2.1+1),x2.1,())else none else some ((v.2.2.2.2.1,())) partial_fixpoint
noncomputable def n_126sf4a5(v:aa×Int×an×Unit):Option (an×Unit):=(if v.2.2.1.large=true then some ((v.2.1,an.mk (i64.wrap (v.2.2.1.count+1)) (max v.2.2.1.deep v.2.1) true,v.1,()))else if decide (i64.wrap (v.2.2.1.count+1)>60)=true then some ((v.2.1,an.mk (i64.wrap (v.2.2.1.count+1)) (max v.2.2.1.deep v.2.1) true,v.1,()))else if decide (v.2.1>5)=true then some ((v.2.1,an.mk (i64.wrap (v.2.2.1.count+1)) (max v.2.2.1.deep v.2.1) true,v.1,()))else some ((v.2.1,an.mk (i64.wrap (v.2.2.1.count+1)) (max v.2.2.1.deep v.2.1) (decide ((↑v.1.parts.length:Int)>12)),v.1,())))>>=λx1=>(if(x1.2.2.1.kind==2)=true then(if x1.2.1.large=true then some ((x1.1,an.mk x1.2.1.count x1.2.1.deep true,x1.2.2.1,()))else some ((x1.1,an.mk x1.2.1.count x1.2.1.deep (decide (x1.2.2.1.n>64)),x1.2.2.1,())))>>=λx2=>some ((x2.1,x2.2.1,x2.2.2.1,()))else if(x1.2.2.1.kind==5)=true then(if x1.2.1.large=true then some ((x1.1,an.mk x1.2.1.count x1.2.1.deep true,x1.2.2.1,()))else some ((x1.1,an.mk x1.2.1.count x1.2.1.deep (decide (x1.2.2.1.n>1000)),x1.2.2.1,())))>>=λx2=>some ((x2.1,x2.2.1,x2.2.2.1,()))else if(x1.2.2.1.kind==7)=true then(if x1.2.1.large=true then some ((x1.1,an.mk x1.2.1.count x1.2.1.deep true,x1.2.2.1,()))else some ((x1.1,an.mk x1.2.1.count x1.2.1.deep (decide (x1.2.2.1.n>65536)),x1.2.2.1,())))>>=λx2=>some ((x2.1,x2.2.1,x2.2.2.1,()))else if(x1.2.2.1.kind==9)=true then aE (x1.1,(0:Int),x1.2.2.1.parts,(↑x1.2.2.1.parts.length:Int),(0:Int),x1.2.1,x1.2.2.1,())>>=λx2=>(if x2.2.2.1.large=true then some ((x2.1,an.mk x2.2.2.1.count x2.2.2.1.deep true,x2.2.2.2.1,()))else some ((x2.1,an.mk x2.2.2.1.count x2.2.2.1.deep (decide (x2.2.1>64)),x2.2.2.2.1,())))>>=λx3=>some ((x3.1,x3.2.1,x3.2.2.1,()))else some ((x1.1,x1.2.1,x1.2.2.1,())))>>=λx2=>if x2.2.1.large=true then some ((x2.2.1,()))else bE (x2.1,x2.2.2.1.parts,(↑x2.2.2.1.parts.length:Int),(0:Int),x2.2.1,())>>=λx3=>some ((x3.1,())) partial_fixpoint
end
def gy(aE:Int×Int×(List aa)×Int×Int×an×aa×Unit->Option ((Int×Int×an×aa×Unit)))(bE:Int×(List aa)×Int×Int×an×Unit->Option ((an×Unit)))(n_126sf4a5:aa×Int×an×Unit->Option (an×Unit)):al vw:=λA fid args S k=>match fid with|111=>aV prog yi lO A args S k|126=>ff prog bI n_126sf4a5 A args S k|144=>aV prog HC Ah A args S k|_=>none
def br(aE:Int×Int×(List aa)×Int×Int×an×aa×Unit->Option ((Int×Int×an×aa×Unit)))(bE:Int×(List aa)×Int×Int×an×Unit->Option ((an×Unit)))(n_126sf4a5:aa×Int×an×Unit->Option (an×Unit)):Xc vw:={P:=prog,n:=138,call:=gy aE bE n_126sf4a5,pre:=aP,sh:=fQ,joins:=λk=>match k with|19=>some (dY,[.norm])|_=>none,regs:=λk=>match k with|3=>some dY|6=>some dY|8=>some dY|10=>some dY|18=>some dY|_=>none,loops:=λk=>match k with|14=>some {cut:=dZ,alts:=[.exit 1],F:=aE}|21=>some {cut:=eX,alts:=[.exit 3],F:=bE}|_=>none}
abbrev eR(v:Int×Int×(List aa)×Int×Int×an×aa×Unit)(r:(Int×Int×an×aa×Unit)):Prop:=(λv out=>∀C:Ctx,C.P=prog->C.N=138/\Fx C aP->oP C (aj (ah Tryz.f126) 0) (Go.Tx.aI vw (bZ vw dZ v)) (vL fQ [.exit 1] out)) v r
theorem sn(f0:Int×Int×(List aa)×Int×Int×an×aa×Unit->Option ((Int×Int×an×aa×Unit)))(h0:∀v r,f0 v=some r->eR v r):af prog (br f0 (λ_=>none) (λ_=>none)).call:=(by
 intro A fid args S dst k r h
 unfold br gy at h
 simp only at h
 split at h
 ·exact ak (fz) rfl rfl h
 ·exact dx ((λv r x h hx=>by cases h)) h
 ·exact ak (pf) rfl rfl h
 ·cases h)
theorem sQ(f0:Int×Int×(List aa)×Int×Int×an×aa×Unit->Option ((Int×Int×an×aa×Unit)))(h0:∀v r,f0 v=some r->eR v r)(v:Int×Int×(List aa)×Int×Int×an×aa×Unit)(r:(Int×Int×an×aa×Unit))(h:exL (br f0 (λ_=>none) (λ_=>none)) (aj (ah Tryz.f126) 0) dZ [.exit 1] f0 v=some r):eR v r:=λC hP hN=>c8 (X:=br f0 (λ_=>none) (λ_=>none)) (b:=(aj (ah Tryz.f126) 0)) hP hN Ty.mixed (sn f0 h0) (bo (X:=br f0 (λ_=>none) (λ_=>none)) (c:=(aj (ah Tryz.f126) 0)) (bw (by kernel_rfl:True=fR (bt C (br f0 (λ_=>none) (λ_=>none))) (aR (aj (ah Tryz.f126) 0))) trivial)) (cut:=dZ) (alts:=[.exit 1]) (F:=f0) (λv out h=>h0 v out h C hP hN) h
theorem oU:∀v out,aE v=some out->(λv out=>∀C:Ctx,C.P=prog->C.N=138/\Fx C aP->oP C (aj (ah Tryz.f126) 0) (Go.Tx.aI vw (bZ vw dZ v)) (vL fQ [.exit 1] out)) v out:=(aE.partial_correctness (motive:=eR) (λf0 h0 v r h=>sQ f0 h0 v r (bw (by kernel_rfl) h)))
abbrev cy(v:Int×(List aa)×Int×Int×an×Unit)(r:(an×Unit)):Prop:=(λv out=>∀C:Ctx,C.P=prog->C.N=138/\Fx C aP->oP C (aj (ah Tryz.f126) 1) (Go.Tx.aI vw (bZ vw eX v)) (vL fQ [.exit 3] out)) v r
abbrev f8(v:aa×Int×an×Unit)(r:an×Unit):Prop:=(λv r=>∀x,rh prog bI r=some x->i6 prog 126 (encL vw (ay bI v).len (a_ bI v).1) (bB (ay bI v).len (ay bI v).own) (ao vw (bZ vw bI.rcut r).len x) (bB (bZ vw bI.rcut r).len (jx bI r))) v r
theorem sq(f0:Int×(List aa)×Int×Int×an×Unit->Option ((an×Unit)))(f1:aa×Int×an×Unit->Option (an×Unit))(h0:∀v r,f0 v=some r->cy v r)(h1:∀v r,f1 v=some r->f8 v r):af prog (br (λ_=>none) f0 f1).call:=(by
 intro A fid args S dst k r h
 unfold br gy at h
 simp only at h
 split at h
 ·exact ak (fz) rfl rfl h
 ·exact dx ((λv r x h hx=>h1 v r h x hx)) h
 ·exact ak (pf) rfl rfl h
 ·cases h)
theorem sR(f0:Int×(List aa)×Int×Int×an×Unit->Option ((an×Unit)))(f1:aa×Int×an×Unit->Option (an×Unit))(h0:∀v r,f0 v=some r->cy v r)(h1:∀v r,f1 v=some r->f8 v r)(v:Int×(List aa)×Int×Int×an×Unit)(r:(an×Unit))(h:exL (br (λ_=>none) f0 f1) (aj (ah Tryz.f126) 1) eX [.exit 3] f0 v=some r):cy v r:=λC hP hN=>c8 (X:=br (λ_=>none) f0 f1) (b:=(aj (ah Tryz.f126) 1)) hP hN Ty.mixed (sq f0 f1 h0 h1) (bo (X:=br (λ_=>none) f0 f1) (c:=(aj (ah Tryz.f126) 1)) (bw (by kernel_rfl:True=fR (bt C (br (λ_=>none) f0 f1)) (aR (aj (ah Tryz.f126) 1))) trivial)) (cut:=eX) (alts:=[.exit 3]) (F:=f0) (λv out h=>h0 v out h C hP hN) h
theorem zD(f0:Int×(List aa)×Int×Int×an×Unit->Option ((an×Unit)))(h0:∀v r,f0 v=some r->cy v r):af prog (br aE f0 (λ_=>none)).call:=(by
 intro A fid args S dst k r h
 unfold br gy at h
 simp only at h
 split at h
 ·exact ak (fz) rfl rfl h
 ·exact dx ((λv r x h hx=>by cases h)) h
 ·exact ak (pf) rfl rfl h
 ·cases h)
theorem Aw(f0:Int×(List aa)×Int×Int×an×Unit->Option ((an×Unit)))(h0:∀v r,f0 v=some r->cy v r)(v:aa×Int×an×Unit)(r:an×Unit)(h:exF (br aE f0 (λ_=>none)) bI rfl (ah Tryz.f126) v=some r):f8 v r:=λx hx=>mm (X:=br aE f0 (λ_=>none)) (sig:=bI) rfl Tryz.func126 (c:=ah Tryz.f126) (by kernel_rfl) Tryz.ntmps126 (by kernel_rfl) (by kernel_rfl) rfl Ty.mixed (zD f0 h0) rfl (λC hP hN=>(bo (X:=br aE f0 (λ_=>none)) (c:=(ah Tryz.f126)) (bw (by kernel_rfl:fR (bt C (br aE f0 (λ_=>none))) [(aj (ah Tryz.f126) 0),(aj (ah Tryz.f126) 1)]=fR (bt C (br aE f0 (λ_=>none))) (aR (ah Tryz.f126))) ⟨dS (X:=br aE f0 (λ_=>none)) (b:=(aj (ah Tryz.f126) 0)) (by kernel_rfl) (show aD C (aj (ah Tryz.f126) 0) (sh:=fQ) {cut:=dZ,alts:=[.exit 1],F:=aE}fromλv out h=>oU v out h C hP hN),dS (X:=br aE f0 (λ_=>none)) (b:=(aj (ah Tryz.f126) 1)) (by kernel_rfl) (show aD C (aj (ah Tryz.f126) 1) (sh:=fQ) {cut:=eX,alts:=[.exit 3],F:=f0}fromλv out h=>h0 v out h C hP hN),trivial⟩))) h x hx
theorem nz:(∀v r,bE v=some r->cy v r)/\(∀v r,n_126sf4a5 v=some r->f8 v r):=by
 refine bE.mutual_partial_correctness
  (motive_1:=cy)
  (motive_2:=f8)
  ?_ ?_
 ·exact(λf0 f1 h0 h1 v r h=>sR f0 f1 h0 h1 v r (bw (by kernel_rfl) h))
 ·exact(λf0 h0 v r h=>Aw f0 h0 v r (bw (by kernel_rfl) h))
theorem u6:aA prog 126 bI n_126sf4a5:=λv r x h hx=>nz.2 v r h x hx
def v6:Cut SN:=⟨[(1, .bp 1 0),(3, .dat (.int .i64)),(7, .dat (.sl (.st .layoutT))),(8, .dat (.int .i64)),(9, .dat (.int .i64))],[(1, .st .layoutT)]⟩
def AP:Cut SN:=⟨[(1, .bp 1 0),(3, .dat (.int .i64))],[(1, .st .layoutT)]⟩
def NJ:az vw:={exits:=λid=>match id with|0=>AP|_=>⟨[],[]⟩,rcut:=bW}
def hZ:Sig vw:={params:=[.dat (.st .layoutT)],rcut:=bW,rvars:=[.tmp 2]}
mutual
noncomputable def f9(v:Int×(List aa)×Int×Int×aa×Unit):Option ((Int×aa×Unit)):=if decide (v.2.2.2.1<v.2.2.1)=true then if 0<=v.2.2.2.1 then v.2.1[v.2.2.2.1.toNat]?>>=λx1=>n_127 (x1,())>>=λx2=>lO ([v.1,x2.1],())>>=λx3=>f9 (x3.1,v.2.1,v.2.2.1,i64.wrap (v.2.2.2.1+1),v.2.2.2.2.1,())else none else some ((v.1,v.2.2.2.2.1,())) partial_fixpoint
noncomputable def n_127(v:aa×Unit):Option (Int×Unit):=f9 ((0:Int),v.1.parts,(↑v.1.parts.length:Int),(0:Int),v.1,())>>=λx1=>if(x1.2.1.kind==5)=true then lO ([(1:Int),i64.wrap (max (0:Int) x1.2.1.n *x1.1)],())>>=λx2=>some ((x2.1,()))else lO ([(1:Int),x1.1],())>>=λx2=>some ((x2.1,())) partial_fixpoint
end
def zw(f9:Int×(List aa)×Int×Int×aa×Unit->Option ((Int×aa×Unit)))(n_127:aa×Unit->Option (Int×Unit)):al vw:=λA fid args S k=>match fid with|111=>aV prog yi lO A args S k|127=>aV prog hZ n_127 A args S k|_=>none
def BN(f9:Int×(List aa)×Int×Int×aa×Unit->Option ((Int×aa×Unit)))(n_127:aa×Unit->Option (Int×Unit)):Xc vw:={P:=prog,n:=32,call:=zw f9 n_127,pre:=aP,sh:=NJ,loops:=λk=>match k with|3=>some {cut:=v6,alts:=[.exit 0],F:=f9}|_=>none}
abbrev iB(v:Int×(List aa)×Int×Int×aa×Unit)(r:(Int×aa×Unit)):Prop:=(λv out=>∀C:Ctx,C.P=prog->C.N=32/\Fx C aP->oP C (aj (ah Tryz.f127) 0) (Go.Tx.aI vw (bZ vw v6 v)) (vL NJ [.exit 0] out)) v r
abbrev xj(v:aa×Unit)(r:Int×Unit):Prop:=(λv r=>∀x,rh prog hZ r=some x->i6 prog 127 (encL vw (ay hZ v).len (a_ hZ v).1) (bB (ay hZ v).len (ay hZ v).own) (ao vw (bZ vw hZ.rcut r).len x) (bB (bZ vw hZ.rcut r).len (jx hZ r))) v r
theorem IR(f0:Int×(List aa)×Int×Int×aa×Unit->Option ((Int×aa×Unit)))(f1:aa×Unit->Option (Int×Unit))(h0:∀v r,f0 v=some r->iB v r)(h1:∀v r,f1 v=some r->xj v r):af prog (BN f0 f1).call:=(by
 intro A fid args S dst k r h
 unfold BN zw at h
 simp only at h
 split at h
 ·exact ak (fz) rfl rfl h
 ·exact ak ((λv r x h hx=>h1 v r h x hx)) rfl rfl h
 ·cases h)
theorem J3(f0:Int×(List aa)×Int×Int×aa×Unit->Option ((Int×aa×Unit)))(f1:aa×Unit->Option (Int×Unit))(h0:∀v r,f0 v=some r->iB v r)(h1:∀v r,f1 v=some r->xj v r)(v:Int×(List aa)×Int×Int×aa×Unit)(r:(Int×aa×Unit))(h:exL (BN f0 f1) (aj (ah Tryz.f127) 0) v6 [.exit 0] f0 v=some r):iB v r:=λC hP hN=>c8 (X:=BN f0 f1) (b:=(aj (ah Tryz.f127) 0)) hP hN Ty.mixed (IR f0 f1 h0 h1) (bo (X:=BN f0 f1) (c:=(aj (ah Tryz.f127) 0)) (bw (by kernel_rfl:True=fR (bt C (BN f0 f1)) (aR (aj (ah Tryz.f127) 0))) trivial)) (cut:=v6) (alts:=[.exit 0]) (F:=f0) (λv out h=>h0 v out h C hP hN) h
theorem Pb(f0:Int×(List aa)×Int×Int×aa×Unit->Option ((Int×aa×Unit)))(h0:∀v r,f0 v=some r->iB v r):af prog (BN f0 (λ_=>none)).call:=(by
 intro A fid args S dst k r h
 unfold BN zw at h
 simp only at h
 split at h
 ·exact ak (fz) rfl rfl h
 ·exact ak ((λv r x h hx=>by cases h)) rfl rfl h
 ·cases h)
theorem QI(f0:Int×(List aa)×Int×Int×aa×Unit->Option ((Int×aa×Unit)))(h0:∀v r,f0 v=some r->iB v r)(v:aa×Unit)(r:Int×Unit)(h:exF (BN f0 (λ_=>none)) hZ rfl (ah Tryz.f127) v=some r):xj v r:=λx hx=>mm (X:=BN f0 (λ_=>none)) (sig:=hZ) rfl Tryz.func127 (c:=ah Tryz.f127) (by kernel_rfl) Tryz.ntmps127 (by kernel_rfl) (by kernel_rfl) rfl Ty.mixed (Pb f0 h0) rfl (λC hP hN=>(bo (X:=BN f0 (λ_=>none)) (c:=(ah Tryz.f127)) (bw (by kernel_rfl:fR (bt C (BN f0 (λ_=>none))) [(aj (ah Tryz.f127) 0)]=fR (bt C (BN f0 (λ_=>none))) (aR (ah Tryz.f127))) ⟨dS (X:=BN f0 (λ_=>none)) (b:=(aj (ah Tryz.f127) 0)) (by kernel_rfl) (show aD C (aj (ah Tryz.f127) 0) (sh:=NJ) {cut:=v6,alts:=[.exit 0],F:=f0}fromλv out h=>h0 v out h C hP hN),trivial⟩))) h x hx
theorem Ac:(∀v r,f9 v=some r->iB v r)/\(∀v r,n_127 v=some r->xj v r):=by
 refine f9.mutual_partial_correctness
  (motive_1:=iB)
  (motive_2:=xj)
  ?_ ?_
 ·exact(λf0 f1 h0 h1 v r h=>J3 f0 f1 h0 h1 v r (bw (by kernel_rfl) h))
 ·exact(λf0 h0 v r h=>QI f0 h0 v r (bw (by kernel_rfl) h))
theorem Jm:aA prog 127 hZ n_127:=λv r x h hx=>Ac.2 v r h x hx
def Si:az vw:={rcut:=dw}
def LO:Sig vw:={params:=[.dat (.st .layoutT)],rcut:=dw,rvars:=[.tmp 2]}
noncomputable def C9(v:aa×Unit):Option (Bool×Unit):=(if(v.1.kind !=1)=true then some ((v.1.kind !=2,()))else some ((false,())))>>=λx1=>some ((x1.1,()))
def EK:al vw:=c0
def Vc:Xc vw:={P:=prog,n:=11,call:=EK,pre:=aP,sh:=Si,regs:=λk=>match k with|1=>some dw|_=>none}
theorem Cv:af prog EK:=aJ
theorem Jv:aA prog 166 LO C9:=fnA Vc Tryz.func166 (by kernel_rfl) Ty.mixed Cv rfl rfl rfl (λv=>by kernel_rfl) λC hP hN=>bL (by kernel_rfl)
def tn:Cut SN:=⟨[(0, .dat (.sl (.st .layoutT))),(1, .fn 166 [] []),(7, .dat (.int .i64)),(8, .dat (.int .i64))],[]⟩
def ya:az vw:={exits:=λid=>match id with|0=>si|_=>⟨[],[]⟩,rcut:=oQ}
def uj:Sig vw:={params:=[.dat (.sl (.st .layoutT)), .fn 166 [] []],rcut:=oQ,rvars:=[.tmp 4]}
noncomputable def dT(v:(List aa)×Int×Int×Unit):Option (((Int×Unit)⊕(Unit))):=if decide (v.2.2.1<v.2.1)=true then if 0<=v.2.2.1 then v.1[v.2.2.1.toNat]?>>=λx1=>C9 (x1,())>>=λx2=>if x2.1=true then some (V_ (v.2.2.1,()))else dT (v.1,v.2.1,i64.wrap (v.2.2.1+1),())else none else some (V9 ()) partial_fixpoint
noncomputable def jA(v:(List aa)×Unit):Option (Int×Unit):=dT (v.1,(↑v.1.length:Int),(0:Int),())>>=λx1=>match x1 with| .inl y1=>some y1| .inr y1=>some (((-1:Int),()))
def p6:al vw:=cP prog 166 LO C9 c0
def BQ:Xc vw:={P:=prog,n:=19,call:=p6,pre:=aP,sh:=ya,loops:=λk=>match k with|2=>some {cut:=tn,alts:=[.ret, .exit 0],F:=dT}|_=>none}
theorem kI:af prog p6:=aU Jv rfl rfl aJ
theorem sy(C:Ctx)(hP:C.P=prog)(hN:C.N=19/\Fx C aP):aD C (aj (ah Tryz.f189) 0) (sh:=ya) {cut:=tn,alts:=[.ret, .exit 0],F:=dT}:=
 lpB (X:=BQ) dT.partial_correctness hP hN Ty.mixed kI (bL (by kernel_rfl)) λF v=>by kernel_rfl
theorem xr:aA prog 189 uj jA:=fnA BQ Tryz.func189 (by kernel_rfl) Ty.mixed kI rfl rfl rfl (λv=>by kernel_rfl) λC hP hN=>gq (by kernel_rfl) (by kernel_rfl) (sy C hP hN)
def Hv:az vw:={rcut:=gI}
def ui:Sig vw:={params:=[.dat (.sl (.st .layoutT)), .fn 166 [] []],rcut:=gI,rvars:=[.tmp 4]}
noncomputable def jz(v:(List aa)×Unit):Option (Bool×Unit):=jA (v.1,())>>=λx1=>some ((decide (x1.1>=0),()))
def pV:al vw:=cP prog 189 uj jA c0
def Ks:Xc vw:={P:=prog,n:=9,call:=pV,pre:=aP,sh:=Hv}
theorem sj:af prog pV:=aU xr rfl rfl aJ
theorem xp:aA prog 165 ui jz:=fnA Ks Tryz.func165 (by kernel_rfl) Ty.mixed sj rfl rfl rfl (λv=>by kernel_rfl) λC hP hN=>bL (by kernel_rfl)
def OO:Cut SN:=⟨[(1, .bp 1 0),(3, .dat (.int .i64)),(4, .dat .bool),(9, .dat (.int .i64))],[(1, .st .layoutT)]⟩
def pC:Cut SN:=⟨[(1, .bp 1 0),(4, .dat .bool)],[(1, .st .layoutT)]⟩
def zb:Cut SN:=⟨[(1, .bp 1 0),(3, .dat (.int .i64)),(4, .dat .bool)],[(1, .st .layoutT)]⟩
def Mg:Cut SN:=⟨[(1, .bp 1 0),(63, .dat .bool)],[(1, .st .layoutT)]⟩
def Mh:Cut SN:=⟨[(1, .bp 1 0),(71, .dat .bool)],[(1, .st .layoutT)]⟩
def Se:az vw:={exits:=λid=>match id with|0=>zb|1=>zb|6=>pC|7=>pC|8=>si|_=>⟨[],[]⟩,rcut:=dw}
def h_:Sig vw:={params:=[.dat (.st .layoutT)],rcut:=dw,rvars:=[.tmp 2]}
def Hw:az vw:={rcut:=gI}
def cI:Sig vw:={params:=[.dat (.sl (.st .layoutT)), .fn 167 [] []],rcut:=gI,rvars:=[.tmp 4]}
def Sj:az vw:={rcut:=dw}
def jU:Sig vw:={params:=[.dat (.st .layoutT)],rcut:=dw,rvars:=[.tmp 2]}
def gR:Cut SN:=⟨[(0, .dat (.sl (.st .layoutT))),(1, .fn 167 [] []),(7, .dat (.int .i64)),(8, .dat (.int .i64))],[]⟩
def ro:az vw:={exits:=λid=>match id with|0=>si|_=>⟨[],[]⟩,rcut:=oQ}
def cJ:Sig vw:={params:=[.dat (.sl (.st .layoutT)), .fn 167 [] []],rcut:=oQ,rvars:=[.tmp 4]}
mutual
noncomputable def f_(v:aa×Unit):Option (Bool×Unit):=((((if(v.1.kind==0)=true then some (V9 ((0:Int),v.1.n==0,v.1,()))else if(v.1.kind==1)=true then some (V9 ((0:Int),v.1.n==0,v.1,()))else if(v.1.kind==3)=true then some (V9 ((0:Int),v.1.n==0,v.1,()))else some (V_ ((0:Int),v.1.n==0,v.1.kind,v.1,())))>>=λx1=>match x1 with| .inl y1=>if(y1.2.2.1==2)=true then some (V9 (V_ (y1.1,decide (y1.2.2.2.1.n>=1),y1.2.2.2.1,())))else if(y1.2.2.1==7)=true then some (V9 (V_ (y1.1,decide (y1.2.2.2.1.n>=1),y1.2.2.2.1,())))else if(y1.2.2.1==5)=true then some (V_ (decide (y1.2.2.2.1.n>=0),y1.2.2.2.1,()))else if(y1.2.2.1==4)=true then some (V_ (y1.2.1,y1.2.2.2.1,()))else if(y1.2.2.1==8)=true then some (V9 (V9 (V_ (y1.2.1,y1.2.2.2.1,()))))else if(y1.2.2.1==6)=true then some (V9 (V9 (V9 (V_ (y1.2.1,y1.2.2.2.1,())))))else if(y1.2.2.1==9)=true then some (V9 (V9 (V9 (V_ (y1.2.1,y1.2.2.2.1,())))))else some (V9 (V9 (V9 (V9 ()))))| .inr y1=>some (V9 (V_ (y1.1,y1.2.1,y1.2.2.1,()))))>>=λx1=>match x1 with| .inl y1=>some (V9 (V_ ((1:Int),y1.1,y1.2.1,())))| .inr (.inl y1)=>some (V9 (V_ (y1.1,y1.2.1,y1.2.2.1,())))| .inr (.inr (.inl y1))=>(if y1.1=true then some ((decide ((↑y1.2.1.parts.length:Int)>=1),y1.2.1,()))else some ((false,y1.2.1,())))>>=λx2=>some (V_ (x2.1,x2.2.1,()))| .inr (.inr (.inr (.inl y1)))=>some (V_ (y1.1,y1.2.1,()))| .inr (.inr (.inr (.inr y1)))=>some (V9 (V9 ())))>>=λx1=>match x1 with| .inl y1=>some (V_ ((↑y1.2.1.parts.length:Int),y1.1,y1.2.1,()))| .inr (.inl y1)=>some (V_ (y1.1,y1.2.1,y1.2.2.1,()))| .inr (.inr y1)=>some (V9 (false,())))>>=λx1=>match x1 with| .inl y1=>(if(!y1.2.1)=true then some ((true,y1.2.2.1,()))else if((↑y1.2.2.1.parts.length:Int) !=y1.1)=true then some ((true,y1.2.2.1,()))else if y1.2.2.1.flag=true then some ((y1.2.2.1.kind !=2,y1.2.2.1,()))else some ((false,y1.2.2.1,())))>>=λx2=>if x2.1=true then some ((false,()))else(if(x2.2.1.kind==9)=true then jz (x2.2.1.parts,())>>=λx3=>some ((x3.1,x2.2.1,()))else some ((false,x2.2.1,())))>>=λx3=>if x3.1=true then some ((false,()))else n_165c167 (x3.2.1.parts,())>>=λx4=>some ((!x4.1,()))| .inr y1=>some y1 partial_fixpoint
noncomputable def n_165c167(v:(List aa)×Unit):Option (Bool×Unit):=n_189c167 (v.1,())>>=λx1=>some ((decide (x1.1>=0),())) partial_fixpoint
noncomputable def n_189c167(v:(List aa)×Unit):Option (Int×Unit):=n_189c167l2 (v.1,(↑v.1.length:Int),(0:Int),())>>=λx1=>match x1 with| .inl y1=>some y1| .inr y1=>some (((-1:Int),())) partial_fixpoint
noncomputable def n_189c167l2(v:(List aa)×Int×Int×Unit):Option (((Int×Unit)⊕(Unit))):=if decide (v.2.2.1<v.2.1)=true then if 0<=v.2.2.1 then v.1[v.2.2.1.toNat]?>>=λx1=>n_167 (x1,())>>=λx2=>if x2.1=true then some (V_ (v.2.2.1,()))else n_189c167l2 (v.1,v.2.1,i64.wrap (v.2.2.1+1),())else none else some (V9 ()) partial_fixpoint
noncomputable def n_167(v:aa×Unit):Option (Bool×Unit):=f_ (v.1,())>>=λx1=>some ((!x1.1,())) partial_fixpoint
end
def EC(f_:aa×Unit->Option (Bool×Unit))(n_165c167:(List aa)×Unit->Option (Bool×Unit))(n_189c167:(List aa)×Unit->Option (Int×Unit))(n_189c167l2:(List aa)×Int×Int×Unit->Option (((Int×Unit)⊕(Unit))))(n_167:aa×Unit->Option (Bool×Unit)):al vw:=λA fid args S k=>match fid with|165=>(match args with|[_, .fn 166 _ _]=>aV prog ui jz A args S k|[_, .fn 167 _ _]=>aV prog cI n_165c167 A args S k|_=>none)|_=>none
def Ow(f_:aa×Unit->Option (Bool×Unit))(n_165c167:(List aa)×Unit->Option (Bool×Unit))(n_189c167:(List aa)×Unit->Option (Int×Unit))(n_189c167l2:(List aa)×Int×Int×Unit->Option (((Int×Unit)⊕(Unit))))(n_167:aa×Unit->Option (Bool×Unit)):Xc vw:={P:=prog,n:=76,call:=EC f_ n_165c167 n_189c167 n_189c167l2 n_167,pre:=aP,sh:=Se,joins:=λk=>match k with|6=>some (OO,[.norm, .exit 1])|16=>some (pC,[.norm, .exit 0, .exit 6, .exit 7, .exit 8])|18=>some (pC,[.norm, .exit 0, .exit 8])|20=>some (zb,[.norm, .ret])|_=>none,regs:=λk=>match k with|17=>some pC|20=>some Mg|22=>some Mh|_=>none}
def pW(f_:aa×Unit->Option (Bool×Unit))(n_165c167:(List aa)×Unit->Option (Bool×Unit))(n_189c167:(List aa)×Unit->Option (Int×Unit))(n_189c167l2:(List aa)×Int×Int×Unit->Option (((Int×Unit)⊕(Unit))))(n_167:aa×Unit->Option (Bool×Unit)):al vw:=λA fid args S k=>match fid with|189=>aV prog cJ n_189c167 A args S k|_=>none
def kz(f_:aa×Unit->Option (Bool×Unit))(n_165c167:(List aa)×Unit->Option (Bool×Unit))(n_189c167:(List aa)×Unit->Option (Int×Unit))(n_189c167l2:(List aa)×Int×Int×Unit->Option (((Int×Unit)⊕(Unit))))(n_167:aa×Unit->Option (Bool×Unit)):Xc vw:={P:=prog,n:=9,call:=pW f_ n_165c167 n_189c167 n_189c167l2 n_167,pre:=aP,sh:=Hw}
def EL(f_:aa×Unit->Option (Bool×Unit))(n_165c167:(List aa)×Unit->Option (Bool×Unit))(n_189c167:(List aa)×Unit->Option (Int×Unit))(n_189c167l2:(List aa)×Int×Int×Unit->Option (((Int×Unit)⊕(Unit))))(n_167:aa×Unit->Option (Bool×Unit)):al vw:=λA fid args S k=>match fid with|128=>aV prog h_ f_ A args S k|_=>none
def Ox(f_:aa×Unit->Option (Bool×Unit))(n_165c167:(List aa)×Unit->Option (Bool×Unit))(n_189c167:(List aa)×Unit->Option (Int×Unit))(n_189c167l2:(List aa)×Int×Int×Unit->Option (((Int×Unit)⊕(Unit))))(n_167:aa×Unit->Option (Bool×Unit)):Xc vw:={P:=prog,n:=6,call:=EL f_ n_165c167 n_189c167 n_189c167l2 n_167,pre:=aP,sh:=Sj}
def lv(f_:aa×Unit->Option (Bool×Unit))(n_165c167:(List aa)×Unit->Option (Bool×Unit))(n_189c167:(List aa)×Unit->Option (Int×Unit))(n_189c167l2:(List aa)×Int×Int×Unit->Option (((Int×Unit)⊕(Unit))))(n_167:aa×Unit->Option (Bool×Unit)):al vw:=λA fid args S k=>match fid with|167=>aV prog jU n_167 A args S k|_=>none
def dg(f_:aa×Unit->Option (Bool×Unit))(n_165c167:(List aa)×Unit->Option (Bool×Unit))(n_189c167:(List aa)×Unit->Option (Int×Unit))(n_189c167l2:(List aa)×Int×Int×Unit->Option (((Int×Unit)⊕(Unit))))(n_167:aa×Unit->Option (Bool×Unit)):Xc vw:={P:=prog,n:=19,call:=lv f_ n_165c167 n_189c167 n_189c167l2 n_167,pre:=aP,sh:=ro,loops:=λk=>match k with|2=>some {cut:=gR,alts:=[.ret, .exit 0],F:=n_189c167l2}|_=>none}
abbrev xk(v:aa×Unit)(r:Bool×Unit):Prop:=(λv r=>∀x,rh prog h_ r=some x->i6 prog 128 (encL vw (ay h_ v).len (a_ h_ v).1) (bB (ay h_ v).len (ay h_ v).own) (ao vw (bZ vw h_.rcut r).len x) (bB (bZ vw h_.rcut r).len (jx h_ r))) v r
abbrev g6(v:(List aa)×Unit)(r:Bool×Unit):Prop:=(λv r=>∀x,rh prog cI r=some x->i6 prog 165 (encL vw (ay cI v).len (a_ cI v).1) (bB (ay cI v).len (ay cI v).own) (ao vw (bZ vw cI.rcut r).len x) (bB (bZ vw cI.rcut r).len (jx cI r))) v r
abbrev g7(v:(List aa)×Unit)(r:Int×Unit):Prop:=(λv r=>∀x,rh prog cJ r=some x->i6 prog 189 (encL vw (ay cJ v).len (a_ cJ v).1) (bB (ay cJ v).len (ay cJ v).own) (ao vw (bZ vw cJ.rcut r).len x) (bB (bZ vw cJ.rcut r).len (jx cJ r))) v r
abbrev dq(v:(List aa)×Int×Int×Unit)(r:((Int×Unit)⊕(Unit))):Prop:=(λv out=>∀C:Ctx,C.P=prog->C.N=19/\Fx C aP->oP C (aj (ah Tryz.f189) 0) (Go.Tx.aI vw (bZ vw gR v)) (vL ro [.ret, .exit 0] out)) v r
abbrev xn(v:aa×Unit)(r:Bool×Unit):Prop:=(λv r=>∀x,rh prog jU r=some x->i6 prog 167 (encL vw (ay jU v).len (a_ jU v).1) (bB (ay jU v).len (ay jU v).own) (ao vw (bZ vw jU.rcut r).len x) (bB (bZ vw jU.rcut r).len (jx jU r))) v r
theorem Pc(f0:(List aa)×Unit->Option (Bool×Unit))(h0:∀v r,f0 v=some r->g6 v r):af prog (Ow (λ_=>none) f0 (λ_=>none) (λ_=>none) (λ_=>none)).call:=(by
 intro A fid args S dst k r h
 unfold Ow EC at h
 simp only at h
 split at h
 ·split at h
  ·exact ak (xp) rfl rfl h
  ·exact ak ((λv r x h hx=>h0 v r h x hx)) rfl rfl h
  ·cases h
 ·cases h)
theorem QJ(f0:(List aa)×Unit->Option (Bool×Unit))(h0:∀v r,f0 v=some r->g6 v r)(v:aa×Unit)(r:Bool×Unit)(h:exF (Ow (λ_=>none) f0 (λ_=>none) (λ_=>none) (λ_=>none)) h_ rfl (ah Tryz.f128) v=some r):xk v r:=λx hx=>mm (X:=Ow (λ_=>none) f0 (λ_=>none) (λ_=>none) (λ_=>none)) (sig:=h_) rfl Tryz.func128 (c:=ah Tryz.f128) (by kernel_rfl) Tryz.ntmps128 (by kernel_rfl) (by kernel_rfl) rfl Ty.mixed (Pc f0 h0) rfl (λC hP hN=>(bo (X:=Ow (λ_=>none) f0 (λ_=>none) (λ_=>none) (λ_=>none)) (c:=(ah Tryz.f128)) (bw (by kernel_rfl:True=fR (bt C (Ow (λ_=>none) f0 (λ_=>none) (λ_=>none) (λ_=>none))) (aR (ah Tryz.f128))) trivial))) h x hx
theorem CA(f0:(List aa)×Unit->Option (Int×Unit))(h0:∀v r,f0 v=some r->g7 v r):af prog (kz (λ_=>none) (λ_=>none) f0 (λ_=>none) (λ_=>none)).call:=(by
 intro A fid args S dst k r h
 unfold kz pW at h
 simp only at h
 split at h
 ·exact ak ((λv r x h hx=>h0 v r h x hx)) rfl rfl h
 ·cases h)
theorem DQ(f0:(List aa)×Unit->Option (Int×Unit))(h0:∀v r,f0 v=some r->g7 v r)(v:(List aa)×Unit)(r:Bool×Unit)(h:exF (kz (λ_=>none) (λ_=>none) f0 (λ_=>none) (λ_=>none)) cI rfl (ah Tryz.f165) v=some r):g6 v r:=λx hx=>mm (X:=kz (λ_=>none) (λ_=>none) f0 (λ_=>none) (λ_=>none)) (sig:=cI) rfl Tryz.func165 (c:=ah Tryz.f165) (by kernel_rfl) Tryz.ntmps165 (by kernel_rfl) (by kernel_rfl) rfl Ty.mixed (CA f0 h0) rfl (λC hP hN=>(bo (X:=kz (λ_=>none) (λ_=>none) f0 (λ_=>none) (λ_=>none)) (c:=(ah Tryz.f165)) (bw (by kernel_rfl:True=fR (bt C (kz (λ_=>none) (λ_=>none) f0 (λ_=>none) (λ_=>none))) (aR (ah Tryz.f165))) trivial))) h x hx
theorem CB(f0:(List aa)×Int×Int×Unit->Option (((Int×Unit)⊕(Unit))))(h0:∀v r,f0 v=some r->dq v r):af prog (dg (λ_=>none) (λ_=>none) (λ_=>none) f0 (λ_=>none)).call:=(by
 intro A fid args S dst k r h
 unfold dg lv at h
 simp only at h
 split at h
 ·exact ak ((λv r x h hx=>by cases h)) rfl rfl h
 ·cases h)
theorem DR(f0:(List aa)×Int×Int×Unit->Option (((Int×Unit)⊕(Unit))))(h0:∀v r,f0 v=some r->dq v r)(v:(List aa)×Unit)(r:Int×Unit)(h:exF (dg (λ_=>none) (λ_=>none) (λ_=>none) f0 (λ_=>none)) cJ rfl (ah Tryz.f189) v=some r):g7 v r:=λx hx=>mm (X:=dg (λ_=>none) (λ_=>none) (λ_=>none) f0 (λ_=>none)) (sig:=cJ) rfl Tryz.func189 (c:=ah Tryz.f189) (by kernel_rfl) Tryz.ntmps189 (by kernel_rfl) (by kernel_rfl) rfl Ty.mixed (CB f0 h0) rfl (λC hP hN=>(bo (X:=dg (λ_=>none) (λ_=>none) (λ_=>none) f0 (λ_=>none)) (c:=(ah Tryz.f189)) (bw (by kernel_rfl:fR (bt C (dg (λ_=>none) (λ_=>none) (λ_=>none) f0 (λ_=>none))) [(aj (ah Tryz.f189) 0)]=fR (bt C (dg (λ_=>none) (λ_=>none) (λ_=>none) f0 (λ_=>none))) (aR (ah Tryz.f189))) ⟨dS (X:=dg (λ_=>none) (λ_=>none) (λ_=>none) f0 (λ_=>none)) (b:=(aj (ah Tryz.f189) 0)) (by kernel_rfl) (show aD C (aj (ah Tryz.f189) 0) (sh:=ro) {cut:=gR,alts:=[.ret, .exit 0],F:=f0}fromλv out h=>h0 v out h C hP hN),trivial⟩))) h x hx
theorem wI(f0:(List aa)×Int×Int×Unit->Option (((Int×Unit)⊕(Unit))))(f1:aa×Unit->Option (Bool×Unit))(h0:∀v r,f0 v=some r->dq v r)(h1:∀v r,f1 v=some r->xn v r):af prog (dg (λ_=>none) (λ_=>none) (λ_=>none) f0 f1).call:=(by
 intro A fid args S dst k r h
 unfold dg lv at h
 simp only at h
 split at h
 ·exact ak ((λv r x h hx=>h1 v r h x hx)) rfl rfl h
 ·cases h)
theorem yj(f0:(List aa)×Int×Int×Unit->Option (((Int×Unit)⊕(Unit))))(f1:aa×Unit->Option (Bool×Unit))(h0:∀v r,f0 v=some r->dq v r)(h1:∀v r,f1 v=some r->xn v r)(v:(List aa)×Int×Int×Unit)(r:((Int×Unit)⊕(Unit)))(h:exL (dg (λ_=>none) (λ_=>none) (λ_=>none) f0 f1) (aj (ah Tryz.f189) 0) gR [.ret, .exit 0] f0 v=some r):dq v r:=λC hP hN=>c8 (X:=dg (λ_=>none) (λ_=>none) (λ_=>none) f0 f1) (b:=(aj (ah Tryz.f189) 0)) hP hN Ty.mixed (wI f0 f1 h0 h1) (bo (X:=dg (λ_=>none) (λ_=>none) (λ_=>none) f0 f1) (c:=(aj (ah Tryz.f189) 0)) (bw (by kernel_rfl:True=fR (bt C (dg (λ_=>none) (λ_=>none) (λ_=>none) f0 f1)) (aR (aj (ah Tryz.f189) 0))) trivial)) (cut:=gR) (alts:=[.ret, .exit 0]) (F:=f0) (λv out h=>h0 v out h C hP hN) h
theorem Pf(f0:aa×Unit->Option (Bool×Unit))(h0:∀v r,f0 v=some r->xk v r):af prog (Ox f0 (λ_=>none) (λ_=>none) (λ_=>none) (λ_=>none)).call:=(by
 intro A fid args S dst k r h
 unfold Ox EL at h
 simp only at h
 split at h
 ·exact ak ((λv r x h hx=>h0 v r h x hx)) rfl rfl h
 ·cases h)
theorem QM(f0:aa×Unit->Option (Bool×Unit))(h0:∀v r,f0 v=some r->xk v r)(v:aa×Unit)(r:Bool×Unit)(h:exF (Ox f0 (λ_=>none) (λ_=>none) (λ_=>none) (λ_=>none)) jU rfl (ah Tryz.f167) v=some r):xn v r:=λx hx=>mm (X:=Ox f0 (λ_=>none) (λ_=>none) (λ_=>none) (λ_=>none)) (sig:=jU) rfl Tryz.func167 (c:=ah Tryz.f167) (by kernel_rfl) Tryz.ntmps167 (by kernel_rfl) (by kernel_rfl) rfl Ty.mixed (Pf f0 h0) rfl (λC hP hN=>(bo (X:=Ox f0 (λ_=>none) (λ_=>none) (λ_=>none) (λ_=>none)) (c:=(ah Tryz.f167)) (bw (by kernel_rfl:True=fR (bt C (Ox f0 (λ_=>none) (λ_=>none) (λ_=>none) (λ_=>none))) (aR (ah Tryz.f167))) trivial))) h x hx
theorem Gh:(∀v r,f_ v=some r->xk v r)/\(∀v r,n_165c167 v=some r->g6 v r)/\(∀v r,n_189c167 v=some r->g7 v r)/\(∀v r,n_189c167l2 v=some r->dq v r)/\(∀v r,n_167 v=some r->xn v r):=by
 refine f_.mutual_partial_correctness
  (motive_1:=xk)
  (motive_2:=g6)
  (motive_3:=g7)
  (motive_4:=dq)
  (motive_5:=xn)
  ?_ ?_ ?_ ?_ ?_
 ·exact(λf0 h0 v r h=>QJ f0 h0 v r (bw (by kernel_rfl) h))
 ·exact(λf0 h0 v r h=>DQ f0 h0 v r (bw (by kernel_rfl) h))
 ·exact(λf0 h0 v r h=>DR f0 h0 v r (bw (by kernel_rfl) h))
 ·exact(λf0 f1 h0 h1 v r h=>yj f0 f1 h0 h1 v r (bw (by kernel_rfl) h))
 ·exact(λf0 h0 v r h=>QM f0 h0 v r (bw (by kernel_rfl) h))
theorem Jn:aA prog 128 h_ f_:=λv r x h hx=>Gh.1 v r h x hx
def RJ:Cut SN:=⟨[(1, .bp 1 0),(12, .dat .bool)],[(1, .st .layoutT)]⟩
def UN:az vw:={rcut:=bW}
def NZ:Sig vw:={params:=[.dat (.st .layoutT)],rcut:=bW,rvars:=[.tmp 2]}
noncomputable def D2(v:aa×Unit):Option (Int×Unit):=n_126sf4a5 (v.1,(1:Int),an.mk (0:Int) (0:Int) false,())>>=λx1=>(if x1.1.large=true then some ((true,v.1,()))else n_127 (v.1,())>>=λx2=>some ((decide (x2.1>4096),v.1,())))>>=λx2=>if x2.1=true then some (((3:Int),()))else f_ (x2.2.1,())>>=λx3=>if(!x3.1)=true then some (((1:Int),()))else some (((0:Int),()))
def Ll:al vw:=cO prog 126 bI n_126sf4a5 (cP prog 127 hZ n_127 (cP prog 128 h_ f_ c0))
def x99:Xc vw:={P:=prog,n:=16,call:=Ll,pre:=aP,sh:=UN,regs:=λk=>match k with|3=>some RJ|_=>none}
theorem Fj:af prog Ll:=aN u6 (aU Jm rfl rfl (aU Jn rfl rfl aJ))
theorem GN:aA prog 99 NZ D2:=fnA x99 Tryz.func99 (by kernel_rfl) Ty.mixed Fj rfl rfl rfl (λv=>by kernel_rfl) λC hP hN=>bL (by kernel_rfl)
def nc:Cut SN:=⟨[(0, .bp 100000 0),(1, .dat (.sl .str)),(4, .bp 4 0),(10, .dat (.sl .fnc)),(11, .dat (.int .i64)),(12, .dat (.int .i64))],[(100000, .box none [.vh 100001]),(4, .st .itemT),(100001, .vec 44 (.st .itemT))]⟩
def Cj:Cut SN:=⟨[(0, .bp 100000 0),(1, .dat (.sl .str)),(4, .bp 4 0),(9, .bp 9 0),(10, .dat (.sl .fnc)),(11, .dat (.int .i64)),(12, .dat (.int .i64)),(34, .dat .bool)],[(100000, .box none [.vh 100001]),(4, .st .itemT),(9, .st .itemT),(100001, .vec 44 (.st .itemT))]⟩
def Ck:Cut SN:=⟨[(0, .bp 100000 0),(1, .dat (.sl .str)),(4, .bp 4 0),(9, .bp 9 0),(10, .dat (.sl .fnc)),(11, .dat (.int .i64)),(12, .dat (.int .i64)),(43, .dat .bool)],[(100000, .box none [.vh 100001]),(4, .st .itemT),(9, .st .itemT),(100001, .vec 44 (.st .itemT))]⟩
def Ci:Cut SN:=⟨[(0, .bp 100000 0),(4, .bp 4 0)],[(100000, .box none [.vh 100001]),(4, .st .itemT),(100001, .vec 44 (.st .itemT))]⟩
def wk:Cut SN:=⟨[(0, .bp 100000 0),(4, .bp 4 0),(5, .dat .bool)],[(100000, .box none [.vh 100001]),(100001, .vec 44 (.st .itemT)),(4, .st .itemT)]⟩
def yc:az vw:={exits:=λid=>match id with|0=>Ci|_=>⟨[],[]⟩,rcut:=wk}
def um:Sig vw:={params:=[.bp 100000 0, .dat (.sl .str)],objs:=[(100000, .box none [.vh 100001]),(100001, .vec 44 (.st .itemT))],rcut:=wk,rvars:=[.cell 4 44, .tmp 5],keep:=[100000,100001]}
noncomputable def aZ(v:(List ByteArray)×(List Nat)×Int×Int×Item×(List Item)×Unit):Option (((Bool×(List Item)×Item×Unit)⊕(Item×(List Item)×Unit))):=if decide (v.2.2.2.1<v.2.2.1)=true then(if 0<=v.2.2.2.1 then v.2.1[v.2.2.2.1.toNat]?>>=λx1=>if x1=(98:Nat)then none else if x1=(99:Nat)then none else if x1=(122:Nat)then fL (v.1,false,v.2.2.2.2.2.1,())>>=λx2=>if x2.2.2.1.length=v.2.2.2.2.2.1.length then(if x2.2.1=true then some ((v.1,v.2.1,v.2.2.1,v.2.2.2.1,true,v.2.2.2.2.1,x2.2.2.2.1,x2.2.2.1,()))else some ((v.1,v.2.1,v.2.2.1,v.2.2.2.1,decide ((↑x2.1.length:Int)>0),v.2.2.2.2.1,x2.2.2.2.1,x2.2.2.1,())))>>=λx3=>if x3.2.2.2.2.1=true then some (V_ (x3.1,x3.2.1,x3.2.2.1,x3.2.2.2.1,x3.2.2.2.2.2.1,x3.2.2.2.2.2.2.2.1,()))else(if decide (x3.2.2.2.2.2.2.1.kind<2)=true then some ((x3.1,x3.2.1,x3.2.2.1,x3.2.2.2.1,true,x3.2.2.2.2.2.1,x3.2.2.2.2.2.2.1,x3.2.2.2.2.2.2.2.1,()))else D2 (aa.mk x3.2.2.2.2.2.2.1.layout.kind x3.2.2.2.2.2.2.1.layout.n x3.2.2.2.2.2.2.1.layout.flag x3.2.2.2.2.2.2.1.layout.parts,())>>=λx4=>some ((x3.1,x3.2.1,x3.2.2.1,x3.2.2.2.1,x4.1==0,x3.2.2.2.2.2.1,x3.2.2.2.2.2.2.1,x3.2.2.2.2.2.2.2.1,())))>>=λx4=>if x4.2.2.2.2.1=true then some (V9 (true,x4.2.2.2.2.2.2.2.1,x4.2.2.2.2.2.2.1,()))else some (V_ (x4.1,x4.2.1,x4.2.2.1,x4.2.2.2.1,x4.2.2.2.2.2.1,x4.2.2.2.2.2.2.2.1,()))else none else if x1=(123:Nat)then fM (v.1,false,v.2.2.2.2.2.1,())>>=λx2=>if x2.2.2.1.length=v.2.2.2.2.2.1.length then(if x2.2.1=true then some ((v.1,v.2.1,v.2.2.1,v.2.2.2.1,true,v.2.2.2.2.1,x2.2.2.2.1,x2.2.2.1,()))else some ((v.1,v.2.1,v.2.2.1,v.2.2.2.1,decide ((↑x2.1.length:Int)>0),v.2.2.2.2.1,x2.2.2.2.1,x2.2.2.1,())))>>=λx3=>if x3.2.2.2.2.1=true then some (V_ (x3.1,x3.2.1,x3.2.2.1,x3.2.2.2.1,x3.2.2.2.2.2.1,x3.2.2.2.2.2.2.2.1,()))else(if decide (x3.2.2.2.2.2.2.1.kind<2)=true then some ((x3.1,x3.2.1,x3.2.2.1,x3.2.2.2.1,true,x3.2.2.2.2.2.1,x3.2.2.2.2.2.2.1,x3.2.2.2.2.2.2.2.1,()))else D2 (aa.mk x3.2.2.2.2.2.2.1.layout.kind x3.2.2.2.2.2.2.1.layout.n x3.2.2.2.2.2.2.1.layout.flag x3.2.2.2.2.2.2.1.layout.parts,())>>=λx4=>some ((x3.1,x3.2.1,x3.2.2.1,x3.2.2.2.1,x4.1==0,x3.2.2.2.2.2.1,x3.2.2.2.2.2.2.1,x3.2.2.2.2.2.2.2.1,())))>>=λx4=>if x4.2.2.2.2.1=true then some (V9 (true,x4.2.2.2.2.2.2.2.1,x4.2.2.2.2.2.2.1,()))else some (V_ (x4.1,x4.2.1,x4.2.2.1,x4.2.2.2.1,x4.2.2.2.2.2.1,x4.2.2.2.2.2.2.2.1,()))else none else if x1=(124:Nat)then fN (v.1,false,v.2.2.2.2.2.1,())>>=λx2=>if x2.2.2.1.length=v.2.2.2.2.2.1.length then(if x2.2.1=true then some ((v.1,v.2.1,v.2.2.1,v.2.2.2.1,true,v.2.2.2.2.1,x2.2.2.2.1,x2.2.2.1,()))else some ((v.1,v.2.1,v.2.2.1,v.2.2.2.1,decide ((↑x2.1.length:Int)>0),v.2.2.2.2.1,x2.2.2.2.1,x2.2.2.1,())))>>=λx3=>if x3.2.2.2.2.1=true then some (V_ (x3.1,x3.2.1,x3.2.2.1,x3.2.2.2.1,x3.2.2.2.2.2.1,x3.2.2.2.2.2.2.2.1,()))else(if decide (x3.2.2.2.2.2.2.1.kind<2)=true then some ((x3.1,x3.2.1,x3.2.2.1,x3.2.2.2.1,true,x3.2.2.2.2.2.1,x3.2.2.2.2.2.2.1,x3.2.2.2.2.2.2.2.1,()))else D2 (aa.mk x3.2.2.2.2.2.2.1.layout.kind x3.2.2.2.2.2.2.1.layout.n x3.2.2.2.2.2.2.1.layout.flag x3.2.2.2.2.2.2.1.layout.parts,())>>=λx4=>some ((x3.1,x3.2.1,x3.2.2.1,x3.2.2.2.1,x4.1==0,x3.2.2.2.2.2.1,x3.2.2.2.2.2.2.1,x3.2.2.2.2.2.2.2.1,())))>>=λx4=>if x4.2.2.2.2.1=true then some (V9 (true,x4.2.2.2.2.2.2.2.1,x4.2.2.2.2.2.2.1,()))else some (V_ (x4.1,x4.2.1,x4.2.2.1,x4.2.2.2.1,x4.2.2.2.2.2.1,x4.2.2.2.2.2.2.2.1,()))else none else if x1=(125:Nat)then d7 (v.1,false,v.2.2.2.2.2.1,())>>=λx2=>if x2.2.2.1.length=v.2.2.2.2.2.1.length then(if x2.2.1=true then some ((v.1,v.2.1,v.2.2.1,v.2.2.2.1,true,v.2.2.2.2.1,x2.2.2.2.1,x2.2.2.1,()))else some ((v.1,v.2.1,v.2.2.1,v.2.2.2.1,decide ((↑x2.1.length:Int)>0),v.2.2.2.2.1,x2.2.2.2.1,x2.2.2.1,())))>>=λx3=>if x3.2.2.2.2.1=true then some (V_ (x3.1,x3.2.1,x3.2.2.1,x3.2.2.2.1,x3.2.2.2.2.2.1,x3.2.2.2.2.2.2.2.1,()))else(if decide (x3.2.2.2.2.2.2.1.kind<2)=true then some ((x3.1,x3.2.1,x3.2.2.1,x3.2.2.2.1,true,x3.2.2.2.2.2.1,x3.2.2.2.2.2.2.1,x3.2.2.2.2.2.2.2.1,()))else D2 (aa.mk x3.2.2.2.2.2.2.1.layout.kind x3.2.2.2.2.2.2.1.layout.n x3.2.2.2.2.2.2.1.layout.flag x3.2.2.2.2.2.2.1.layout.parts,())>>=λx4=>some ((x3.1,x3.2.1,x3.2.2.1,x3.2.2.2.1,x4.1==0,x3.2.2.2.2.2.1,x3.2.2.2.2.2.2.1,x3.2.2.2.2.2.2.2.1,())))>>=λx4=>if x4.2.2.2.2.1=true then some (V9 (true,x4.2.2.2.2.2.2.2.1,x4.2.2.2.2.2.2.1,()))else some (V_ (x4.1,x4.2.1,x4.2.2.1,x4.2.2.2.1,x4.2.2.2.2.2.1,x4.2.2.2.2.2.2.2.1,()))else none else none else none)>>=λx1=>match x1 with| .inl y1=>aZ (y1.1,y1.2.1,y1.2.2.1,i64.wrap (y1.2.2.2.1+1),y1.2.2.2.2.1,y1.2.2.2.2.2.1,())| .inr y1=>some (V_ y1)else some (V9 (v.2.2.2.2.1,v.2.2.2.2.2.1,())) partial_fixpoint
noncomputable def jH(v:(List ByteArray)×(List Item)×Unit):Option (Bool×(List Item)×Item×Unit):=Q3 ()>>=λx1=>aZ (v.1,x1.1,(↑x1.1.length:Int),(0:Int),Item.mk 0 (Vp #[]) (0:Int) [] (aa.mk 0 0 false []),v.2.1,())>>=λx2=>match x2 with| .inl y2=>some y2| .inr y2=>some ((false,y2.2.1,Item.mk 0 (Vp #[]) (0:Int) [] (aa.mk 0 0 false []),()))
def lw:al vw:=λA fid args S k=>if fid=98 then aV prog QH Q3 A args S k else if fid=99 then aV prog NZ D2 A args S k else if fid=122 then ff prog ry fL A args S k else if fid=123 then ff prog rz fM A args S k else if fid=124 then ff prog rA fN A args S k else if fid=125 then ff prog rB d7 A args S k else none
def BU:Xc vw:={P:=prog,n:=47,call:=lw,pre:=aP,sh:=yc,joins:=λk=>match k with|9=>some (nc,[.norm, .ret])|_=>none,regs:=λk=>match k with|6=>some Cj|7=>some Ck|_=>none,loops:=λk=>match k with|2=>some {cut:=nc,alts:=[.ret, .exit 0],F:=aZ}|_=>none}
theorem kL:af prog lw:=λA fid args S dst k r h=>by
 unfold lw at h
 split at h
 ·rename_i e;subst e;exact ak (Nr) rfl rfl h
 ·
  split at h
  ·rename_i e;subst e;exact ak (GN) rfl rfl h
  ·
   split at h
   ·rename_i e;subst e;exact dx (u2) h
   ·
    split at h
    ·rename_i e;subst e;exact dx (u3) h
    ·
     split at h
     ·rename_i e;subst e;exact dx (u4) h
     ·
      split at h
      ·rename_i e;subst e;exact dx (u5) h
      ·
       cases h
theorem sE(C:Ctx)(hP:C.P=prog)(hN:C.N=47/\Fx C aP):aD C (aj (ah Tryz.f68) 0) (sh:=yc) {cut:=nc,alts:=[.ret, .exit 0],F:=aZ}:=
 lpB (X:=BU) aZ.partial_correctness hP hN Ty.mixed kL (bL (by kernel_rfl)) λF v=>by kernel_rfl
theorem xy:aA prog 68 um jH:=fnA BU Tryz.func68 (by kernel_rfl) Ty.mixed kL rfl rfl rfl (λv=>by kernel_rfl) λC hP hN=>gq (by kernel_rfl) (by kernel_rfl) (sE C hP hN)
def Mk:Cut SN:=⟨[(2, .bp 2 0),(3, .vh 1003),(4, .bp 4 0),(12, .dat (.sl (.sl .str))),(13, .dat (.int .i64)),(14, .dat (.int .i64))],[(2, .box none [.dat (.sl (.st .itemT))]),(1003, .vec 3 (.int .i64)),(4, .box none [.bp 10 0]),(10, .box none [.vh 3100]),(3100, .vec 44 (.st .itemT))]⟩
def Rs:Cut SN:=⟨[(0, .dat (.sl (.sl .str))),(2, .bp 2 0),(3, .vh 1003),(4, .bp 4 0)],[(2, .box none [.dat (.sl (.st .itemT))]),(1003, .vec 3 (.int .i64)),(4, .box none [.bp 10 0]),(10, .box none [.vh 3100]),(3100, .vec 44 (.st .itemT))]⟩
def Rr:Cut SN:=⟨[(2, .bp 2 0),(3, .vh 1003),(4, .bp 4 0)],[(2, .box none [.dat (.sl (.st .itemT))]),(1003, .vec 3 (.int .i64)),(4, .box none [.bp 10 0]),(10, .box none [.vh 3100]),(3100, .vec 44 (.st .itemT))]⟩
def S3:Cut SN:=⟨[(2, .bp 2 0),(3, .dat (.sl (.int .i64)))],[(2, .box none [.dat (.sl (.st .itemT))])]⟩
def TD:az vw:={exits:=λid=>match id with|0=>Rr|_=>⟨[],[]⟩,rcut:=S3}
def P5:Nat->Bool:=λk=>match k with|4000002=>true|4000004=>true|_=>false
noncomputable def Tv:Nat->Bool:=λ_=>false
def NR:Sig vw:={params:=[.dat (.sl (.sl .str))],rcut:=S3,rvars:=[.cell 2 23, .tmp 3]}
noncomputable def mO(v:(List (List ByteArray))×Int×Int×(List Item)×(List Int)×(List Item)×Unit):Option (((List Item)×(List Int)×(List Item)×Unit)):=if decide (v.2.2.1<v.2.1)=true then(if 0<=v.2.2.1 then v.1[v.2.2.1.toNat]?>>=λx1=>jH (x1,v.2.2.2.2.2.1,())>>=λx2=>if x2.2.1.length=v.2.2.2.2.2.1.length then if(!x2.1)=true then if v.2.2.2.2.1.length+[v.2.2.1].length<=4294967296 then some ((v.1,v.2.1,v.2.2.1,v.2.2.2.1,v.2.2.2.2.1++[v.2.2.1],x2.2.1,()))else none else if x2.2.1.length+[x2.2.2.1].length<=4294967296 then some ((v.1,v.2.1,v.2.2.1,v.2.2.2.1,v.2.2.2.2.1,x2.2.1++[x2.2.2.1],()))else none else none else none)>>=λx1=>mO (x1.1,x1.2.1,i64.wrap (x1.2.2.1+1),x1.2.2.2.1,x1.2.2.2.2.1,x1.2.2.2.2.2.1,())else some ((v.2.2.2.1,v.2.2.2.2.1,v.2.2.2.2.2.1,())) partial_fixpoint
noncomputable def PI(v:(List (List ByteArray))×Unit):Option ((List Int)×(List Item)×Unit):=some (v.1,[],[],[],())>>=λx1=>mO (x1.1,(↑x1.1.length:Int),(0:Int),x1.2.1,x1.2.2.1,x1.2.2.2.1,())>>=λx2=>jG ([],x2.2.2.1,())>>=λx3=>if x3.1.length=x2.2.2.1.length then some ((x2.2.1,x3.1,()))else none
def KX:al vw:=cO prog 67 kp jG (cO prog 68 um jH c0)
def x35:Xc vw:={P:=prog,n:=43,nm:=λd=>match d with|9=>40009|_=>d,call:=KX,pre:=P5,sh:=TD,joins:=λk=>match k with|10=>some (Mk,[.norm])|_=>none,regs:=λk=>match k with|1=>some Rs|_=>none,loops:=λk=>match k with|4=>some {cut:=Mk,alts:=[.exit 0],F:=mO}|_=>none}
theorem wA:af prog KX:=aN xx (aN xy aJ)
theorem Gw(C:Ctx)(hP:C.P=prog)(hN:C.N=43/\Fx C P5):aD C (aj (x_ (jg (jg (jg (ah Tryz.f35))))) 0) (sh:=TD) {cut:=Mk,alts:=[.exit 0],F:=mO}:=
 lpB (X:=x35) mO.partial_correctness hP hN Ty.mixed wA (bL (by kernel_rfl)) λF v=>by kernel_rfl
noncomputable def Rg:Xc vw:={x35 with pre:=Tv}
theorem MW:aA prog 35 NR PI:=λv r x h hx=>
 I6 (X:=x35) (sig:=NR) (x0:=(x_ (ah Tryz.f35))) (x1:=(x_ (jg (ah Tryz.f35)))) (B:=(x_ (jg (jg (jg (ah Tryz.f35)))))) (z:=(x_ (jg (jg (jg (jg (ah Tryz.f35))))))) (id:=2) (o1:=P_ 0 (x_ (jg (jg (ah Tryz.f35))))) (o2:=P_ 1 (x_ (jg (jg (ah Tryz.f35))))) (td:=11) (caps:=[4,2]) (ct:={callee:= .value (.tmp 11),args:= #[],argTypes:= #[]}) (pa:=Tv) rfl Tryz.func35 (by kernel_rfl) Tryz.ntmps35 (by kernel_rfl) (by kernel_rfl) rfl Ty.mixed wA rfl (by kernel_rfl) (by kernel_rfl) (by kernel_rfl) (by kernel_rfl) rfl rfl (by kernel_rfl) (by kernel_rfl) (by kernel_rfl) (by kernel_rfl) (λC hP hN=>⟨(bo (X:=x35) (c:=(x_ (jg (jg (jg (ah Tryz.f35)))))) (bw (by kernel_rfl:fR (bt C (x35)) [(aj (x_ (jg (jg (jg (ah Tryz.f35))))) 0)]=fR (bt C (x35)) (aR (x_ (jg (jg (jg (ah Tryz.f35))))))) ⟨dS (X:=x35) (b:=(aj (x_ (jg (jg (jg (ah Tryz.f35))))) 0)) (by kernel_rfl) (Gw C hP hN),trivial⟩)),(bo (X:=x35) (c:=(x_ (jg (jg (jg (jg (ah Tryz.f35))))))) (bw (by kernel_rfl:True=fR (bt C (x35)) (aR (x_ (jg (jg (jg (jg (ah Tryz.f35)))))))) trivial))⟩) (λC=>⟨(bo (X:=Rg) (c:=(x_ (ah Tryz.f35))) (bw (by kernel_rfl:True=fR (bt C (Rg)) (aR (x_ (ah Tryz.f35)))) trivial)),(bo (X:=Rg) (c:=(x_ (jg (ah Tryz.f35)))) (bw (by kernel_rfl:True=fR (bt C (Rg)) (aR (x_ (jg (ah Tryz.f35))))) trivial))⟩) vi (bw (by kernel_rfl) h) x hx
def T6:Cut SN:=⟨[(4, .dat .str)],[]⟩
def QA:Sig vw:={params:=[.dat (.sl .str), .dat .str],rcut:=T6,rvars:=[.tmp 4]}
noncomputable def PU(v:(List ByteArray)×ByteArray×Unit):Option (ByteArray×Unit):=if v.1.length<=140737488355328/\(Lib.join (v.1.map (·.data.toList)) v.2.1.data.toList).length<=140737488355328 then some (⟨(Lib.join (v.1.map (·.data.toList)) v.2.1.data.toList).toArray⟩,())else none
theorem Ni:aA prog 69 QA PU:=λv r x h hx=>by
 obtain⟨xs,c,u⟩:=v
 unfold PU at h
 split at h
 ·rename_i hc
  obtain⟨h0,h1⟩:=hc
  simp only at h0 h1
  cases h;cases hx
  exact bw (by kernel_rfl) (i6.pure (P:=prog) (f:=69) (args:=[.d (.sl 1 (xs.map λy=>[D.v (.string y)])), .d (.v (.string c))]) (r:= .d (.v (.string ⟨(Lib.join (xs.map (·.data.toList)) c.data.toList).toArray⟩))) (by kernel_rfl) λE M w vs hg hm hv=>by
   obtain⟨v1,v2,rfl,h2,h3⟩:=qr hv
   rw[h3.dv]
   rcases J8 h2 with⟨rfl,a,k,rfl⟩|⟨b,o,k,h4,rfl,h5,h6⟩
   ·exact(Tryz.strings_Join_none a k c w).mono λe w' ⟨he,hw⟩=>⟨_,he, .d (.v _),hw▸Go.RowKit.Below.refl _ _⟩
   ·have h7:∀(j:Nat) x,xs[j]?=some x->w.cell? ⟨b,o+j,none⟩=some (.string x):=λj x hj=>hm _ _ _ (h6 j x hj)
    have h8:b<w.heap.size:=by
     obtain⟨x,hx⟩:∃x,xs[0]?=some x:=by
      match xs,h4 with
      |x::r,_=>exact⟨x,rfl⟩
     exact World.block_lt_of_cell? w (a:=⟨b,o+0,none⟩) (h7 0 x hx)
    exact(Tryz.strings_Join b o k xs c w h7 h8 h0 h5 h1).mono λe w' ⟨he,hw⟩=>⟨_,he, .d (.v _),hw⟩)
 ·cases h
def QY:Cut SN:=⟨[(2, .dat .str)],[]⟩
def Uw:az vw:={rcut:=QY}
def NS:Sig vw:={params:=[.dat (.sl .str)],rcut:=QY,rvars:=[.tmp 2]}
noncomputable def MX(v:(List ByteArray)×Unit):Option (ByteArray×Unit):=PU (v.1,Vp #[32],())>>=λx1=>some ((x1.1,()))
def KY:al vw:=cP prog 69 QA PU c0
def x36:Xc vw:={P:=prog,n:=5,call:=KY,pre:=aP,sh:=Uw}
theorem ER:af prog KY:=aU Ni rfl rfl aJ
theorem Gx:aA prog 36 NS MX:=fnA x36 Tryz.func36 (by kernel_rfl) Ty.mixed ER rfl rfl rfl (λv=>by kernel_rfl) λC hP hN=>bL (by kernel_rfl)
def ON:Cut SN:=⟨[(5, .dat (.sl (.sl .str))),(6, .dat (.sl (.st .itemT))),(8, .vh 1008),(21, .dat (.sl (.int .i64))),(22, .dat (.int .i64)),(23, .dat (.int .i64))],[(1008, .vec 9 .str)]⟩
def Rj:Cut SN:=⟨[(6, .dat (.sl (.st .itemT))),(8, .vh 1008)],[(1008, .vec 9 .str)]⟩
def QX:Cut SN:=⟨[(2, .dat (.sl (.st .itemT))),(3, .dat (.sl .str)),(4, .dat (.int .i64))],[]⟩
def Tw:az vw:={exits:=λid=>match id with|0=>Rj|_=>⟨[],[]⟩,rcut:=QX}
def J2:Sig vw:={params:=[.dat .str],rcut:=QX,rvars:=[.tmp 2, .tmp 3, .tmp 4]}
noncomputable def mC(v:(List (List ByteArray))×(List Item)×(List Int)×Int×Int×(List ByteArray)×Unit):Option (((List Item)×(List ByteArray)×Unit)):=if decide (v.2.2.2.2.1<v.2.2.2.1)=true then if 0<=v.2.2.2.2.1 then v.2.2.1[v.2.2.2.2.1.toNat]?>>=λx1=>if 0<=x1 then v.1[x1.toNat]?>>=λx2=>MX (x2,())>>=λx3=>if v.2.2.2.2.2.1.length+[x3.1].length<=4294967296 then mC (v.1,v.2.1,v.2.2.1,v.2.2.2.1,i64.wrap (v.2.2.2.2.1+1),v.2.2.2.2.2.1++[x3.1],())else none else none else none else some ((v.2.1,v.2.2.2.2.2.1,())) partial_fixpoint
noncomputable def Gb(v:ByteArray×Unit):Option ((List Item)×(List ByteArray)×Int×Unit):=if decide ((↑v.1.size:Int)>4096)=true then some (([],[],(3:Int),()))else MV (v.1,())>>=λx1=>PI (x1.1,())>>=λx2=>mC (x1.1,x2.2.1,x2.1,(↑x2.1.length:Int),(0:Int),[],())>>=λx3=>some ((x3.1,x3.2.1,(0:Int),()))
def KQ:al vw:=cP prog 34 NQ MV (cP prog 35 NR PI (cP prog 36 NS MX c0))
def x11:Xc vw:={P:=prog,n:=38,call:=KQ,pre:=aP,sh:=Tw,loops:=λk=>match k with|7=>some {cut:=ON,alts:=[.exit 0],F:=mC}|_=>none}
theorem wv:af prog KQ:=aU Gt rfl rfl (aU MW rfl rfl (aU Gx rfl rfl aJ))
theorem Ge(C:Ctx)(hP:C.P=prog)(hN:C.N=38/\Fx C aP):aD C (aj (ah Tryz.f11) 0) (sh:=Tw) {cut:=ON,alts:=[.exit 0],F:=mC}:=
 lpB (X:=x11) mC.partial_correctness hP hN Ty.mixed wv (bL (by kernel_rfl)) λF v=>by kernel_rfl
theorem Ab:aA prog 11 J2 Gb:=fnA x11 Tryz.func11 (by kernel_rfl) Ty.mixed wv rfl rfl rfl (λv=>by kernel_rfl) λC hP hN=>gq (by kernel_rfl) (by kernel_rfl) (Ge C hP hN)
def tw:Cut SN:=⟨[(0, .dat (.sl (.st .itemT))),(1, .fn 84 [] [100000,100001]),(7, .dat (.int .i64)),(8, .dat (.int .i64))],[(100000, .box none [.dat (.int .i64)]),(100001, .box none [.dat .str])]⟩
def Cm:Cut SN:=⟨[(1, .fn 84 [] [100000,100001])],[(100000, .box none [.dat (.int .i64)]),(100001, .box none [.dat .str])]⟩
def wn:Cut SN:=⟨[(1, .fn 84 [] [100000,100001]),(4, .dat (.int .i64))],[(100000, .box none [.dat (.int .i64)]),(100001, .box none [.dat .str])]⟩
def ye:az vw:={exits:=λid=>match id with|0=>Cm|_=>⟨[],[]⟩,rcut:=wn}
def uo:Sig vw:={params:=[.dat (.sl (.st .itemT)), .fn 84 [] [100000,100001]],objs:=[(100000, .box none [.dat (.int .i64)]),(100001, .box none [.dat .str])],rcut:=wn,rvars:=[.tmp 4],keep:=[100000,100001]}
noncomputable def cX(v:(List Item)×Int×Int×Int×ByteArray×Unit):Option (((Int×Int×ByteArray×Unit)⊕(Int×ByteArray×Unit))):=if decide (v.2.2.1<v.2.1)=true then if 0<=v.2.2.1 then v.1[v.2.2.1.toNat]?>>=λx1=>gd (x1,v.2.2.2.1,v.2.2.2.2.1,())>>=λx2=>if x2.1=true then some (V_ (v.2.2.1,x2.2.1,x2.2.2.1,()))else cX (v.1,v.2.1,i64.wrap (v.2.2.1+1),x2.2.1,x2.2.2.1,())else none else some (V9 (v.2.2.2.1,v.2.2.2.2.1,())) partial_fixpoint
noncomputable def jJ(v:(List Item)×Int×ByteArray×Unit):Option (Int×Int×ByteArray×Unit):=cX (v.1,(↑v.1.length:Int),(0:Int),v.2.1,v.2.2.1,())>>=λx1=>match x1 with| .inl y1=>some y1| .inr y1=>some (((-1:Int),y1.1,y1.2.1,()))
def qc:al vw:=cO prog 84 nJ gd c0
def BW:Xc vw:={P:=prog,n:=19,call:=qc,pre:=aP,sh:=ye,loops:=λk=>match k with|2=>some {cut:=tw,alts:=[.ret, .exit 0],F:=cX}|_=>none}
theorem kN:af prog qc:=aN oD aJ
theorem sG(C:Ctx)(hP:C.P=prog)(hN:C.N=19/\Fx C aP):aD C (aj (ah Tryz.f83) 0) (sh:=ye) {cut:=tw,alts:=[.ret, .exit 0],F:=cX}:=
 lpB (X:=BW) cX.partial_correctness hP hN Ty.mixed kN (bL (by kernel_rfl)) λF v=>by kernel_rfl
theorem xA:aA prog 83 uo jJ:=fnA BW Tryz.func83 (by kernel_rfl) Ty.mixed kN rfl rfl rfl (λv=>by kernel_rfl) λC hP hN=>gq (by kernel_rfl) (by kernel_rfl) (sG C hP hN)
def Ta:Cut SN:=⟨[(6, .bp 6 0),(7, .dat .bool)],[(6, .st .itemT)]⟩
def UA:az vw:={rcut:=Ta}
def Qt:Sig vw:={params:=[.dat (.sl (.st .itemT)), .dat (.int .i64), .dat .str],rcut:=Ta,rvars:=[.cell 6 44, .tmp 7]}
noncomputable def Oq(v:(List Item)×Int×ByteArray×Unit):Option (Bool×Item×Unit):=jJ (v.1,v.2.1,v.2.2.1,())>>=λx1=>if decide (x1.1<0)=true then some ((false,Item.mk 0 (Vp #[]) (0:Int) [] (aa.mk 0 0 false []),()))else if 0<=x1.1 then v.1[x1.1.toNat]?>>=λx2=>some ((true,x2,()))else none
def K3:al vw:=cO prog 83 uo jJ c0
def x47:Xc vw:={P:=prog,n:=19,call:=K3,pre:=aP,sh:=UA}
theorem EX:af prog K3:=aN xA aJ
theorem M_:aA prog 47 Qt Oq:=fnA x47 Tryz.func47 (by kernel_rfl) Ty.mixed EX rfl rfl rfl (λv=>by kernel_rfl) λC hP hN=>bL (by kernel_rfl)
def RC:Cut SN:=⟨[(15, .dat .bool)],[]⟩
def UD:az vw:={rcut:=bW}
def NU:Sig vw:={params:=[.dat (.st .targetT)],rcut:=bW,rvars:=[.tmp 2]}
noncomputable def JA(v:aG×Unit):Option (Int×Unit):=(if(v.1.word !=2)=true then if(v.1.word !=4)=true then some ((v.1.word !=8,()))else some ((false,()))else some ((false,())))>>=λx1=>if x1.1=true then some (((1:Int),()))else some (((0:Int),()))
def K_:al vw:=c0
def x71:Xc vw:={P:=prog,n:=16,call:=K_,pre:=aP,sh:=UD,regs:=λk=>match k with|1=>some RC|_=>none}
theorem E4:af prog K_:=aJ
theorem GG:aA prog 71 NU JA:=fnA x71 Tryz.func71 (by kernel_rfl) Ty.mixed E4 rfl rfl rfl (λv=>by kernel_rfl) λC hP hN=>bL (by kernel_rfl)
def S9:Cut SN:=⟨[(6, .bp 6 0),(7, .dat (.int .i64))],[(6, .st .itemT)]⟩
def Uy:az vw:={rcut:=S9}
def Qr:Sig vw:={params:=[.dat .str, .dat .str, .dat (.st .targetT)],rcut:=S9,rvars:=[.cell 6 44, .tmp 7]}
noncomputable def PL(v:ByteArray×ByteArray×aG×Unit):Option (Int×Item×Unit):=Gb (v.1,())>>=λx1=>if(x1.2.2.1 !=0)=true then some ((x1.2.2.1,Item.mk 0 (Vp #[]) (0:Int) [] (aa.mk 0 0 false []),()))else JA (v.2.2.1,())>>=λx2=>if(x2.1 !=0)=true then some (((1:Int),Item.mk 0 (Vp #[]) (0:Int) [] (aa.mk 0 0 false []),()))else Oq (x1.1,(2:Int),v.2.1,())>>=λx3=>if(!x3.1)=true then some (((4:Int),Item.mk 0 (Vp #[]) (0:Int) [] (aa.mk 0 0 false []),()))else some (((0:Int),x3.2.1,()))
def K0:al vw:=cP prog 11 J2 Gb (cP prog 47 Qt Oq (cP prog 71 NU JA c0))
def x40:Xc vw:={P:=prog,n:=37,call:=K0,pre:=aP,sh:=Uy}
theorem EV:af prog K0:=aU Ab rfl rfl (aU M_ rfl rfl (aU GG rfl rfl aJ))
theorem M4:aA prog 40 Qr PL:=fnA x40 Tryz.func40 (by kernel_rfl) Ty.mixed EV rfl rfl rfl (λv=>by kernel_rfl) λC hP hN=>bL (by kernel_rfl)
def UE:az vw:={rcut:=oQ}
def QB:Sig vw:={params:=[.dat (.st .layoutT), .dat (.st .targetT)],rcut:=oQ,rvars:=[.tmp 4]}
noncomputable def PV(v:aa×aG×Unit):Option (Int×Unit):=D2 (v.1,())>>=λx1=>if(x1.1 !=0)=true then some ((x1.1,()))else JA (v.2.1,())>>=λx2=>some ((x2.1,()))
def La:al vw:=cP prog 71 NU JA (cP prog 99 NZ D2 c0)
def x72:Xc vw:={P:=prog,n:=13,call:=La,pre:=aP,sh:=UE}
theorem E8:af prog La:=aU GG rfl rfl (aU GN rfl rfl aJ)
theorem Nj:aA prog 72 QB PV:=fnA x72 Tryz.func72 (by kernel_rfl) Ty.mixed E8 rfl rfl rfl (λv=>by kernel_rfl) λC hP hN=>bL (by kernel_rfl)
def Sc:az vw:={rcut:=oQ}
def HA:Sig vw:={params:=[.dat (.int .i64), .dat (.int .i64)],rcut:=oQ,rvars:=[.tmp 4]}
noncomputable def ny(v:Int×Int×Unit):Option (Int×Unit):=if v.2.1=0 then none else some ((i64.wrap (i64.wrap ((i64.wrap (i64.wrap (v.1+v.2.1) -1)).tdiv v.2.1) *v.2.1),()))
def Ew:al vw:=c0
def U8:Xc vw:={P:=prog,n:=13,call:=Ew,pre:=aP,sh:=Sc}
theorem Cq:af prog Ew:=aJ
theorem pd:aA prog 110 HA ny:=fnA U8 Tryz.func110 (by kernel_rfl) Ty.mixed Cq rfl rfl rfl (λv=>by kernel_rfl) λC hP hN=>bL (by kernel_rfl)
def KH:Cut SN:=⟨[(0, .dat (.int .i64)),(3, .dat (.int .i64))],[]⟩
def Qe:az vw:={exits:=λid=>match id with|0=>s6|_=>⟨[],[]⟩,rcut:=bW}
def LD:Sig vw:={params:=[.dat (.int .i64)],rcut:=bW,rvars:=[.tmp 2]}
noncomputable def iH(v:Int×Int×Unit):Option ((Int×Unit)):=if decide (i64.wrap ((8:Int) *v.2.1)<v.1)=true then iH (v.1,i64.wrap (v.2.1 *2),())else some ((v.2.1,())) partial_fixpoint
noncomputable def u1(v:Int×Unit):Option (Int×Unit):=if(v.1==0)=true then some (((0:Int),()))else iH (v.1,(1:Int),())>>=λx1=>some ((x1.1,()))
def Ey:al vw:=c0
def TQ:Xc vw:={P:=prog,n:=13,call:=Ey,pre:=aP,sh:=Qe,loops:=λk=>match k with|4=>some {cut:=KH,alts:=[.exit 0],F:=iH}|_=>none}
theorem tE:af prog Ey:=aJ
theorem C2(C:Ctx)(hP:C.P=prog)(hN:C.N=13/\Fx C aP):aD C (aj (ah Tryz.f112) 0) (sh:=Qe) {cut:=KH,alts:=[.exit 0],F:=iH}:=
 lpB (X:=TQ) iH.partial_correctness hP hN Ty.mixed tE (bL (by kernel_rfl)) λF v=>by kernel_rfl
theorem Ba:aA prog 112 LD u1:=fnA TQ Tryz.func112 (by kernel_rfl) Ty.mixed tE rfl rfl rfl (λv=>by kernel_rfl) λC hP hN=>gq (by kernel_rfl) (by kernel_rfl) (C2 C hP hN)
def KI:Cut SN:=⟨[(3, .dat (.int .i64)),(7, .dat (.sl (.st .layoutT))),(8, .dat (.int .i64)),(9, .dat (.int .i64))],[]⟩
def Qf:az vw:={exits:=λid=>match id with|0=>s6|_=>⟨[],[]⟩,rcut:=bW}
def LE:Sig vw:={params:=[.dat (.st .layoutT)],rcut:=bW,rvars:=[.tmp 2]}
noncomputable def lQ(v:Int×(List aa)×Int×Int×Unit):Option ((Int×Unit)):=if decide (v.2.2.2.1<v.2.2.1)=true then if 0<=v.2.2.2.1 then v.2.1[v.2.2.2.1.toNat]?>>=λx1=>Ah (x1,())>>=λx2=>lQ (i64.wrap (v.1+x2.1),v.2.1,v.2.2.1,i64.wrap (v.2.2.2.1+1),())else none else some ((v.1,())) partial_fixpoint
noncomputable def Gc(v:aa×Unit):Option (Int×Unit):=lQ ((0:Int),v.1.parts,(↑v.1.parts.length:Int),(0:Int),())>>=λx1=>some ((x1.1,()))
def Ez:al vw:=cP prog 144 HC Ah c0
def TR:Xc vw:={P:=prog,n:=19,call:=Ez,pre:=aP,sh:=Qf,loops:=λk=>match k with|3=>some {cut:=KI,alts:=[.exit 0],F:=lQ}|_=>none}
theorem tF:af prog Ez:=aU pf rfl rfl aJ
theorem C3(C:Ctx)(hP:C.P=prog)(hN:C.N=19/\Fx C aP):aD C (aj (ah Tryz.f113) 0) (sh:=Qf) {cut:=KI,alts:=[.exit 0],F:=lQ}:=
 lpB (X:=TR) lQ.partial_correctness hP hN Ty.mixed tF (bL (by kernel_rfl)) λF v=>by kernel_rfl
theorem Bb:aA prog 113 LE Gc:=fnA TR Tryz.func113 (by kernel_rfl) Ty.mixed tF rfl rfl rfl (λv=>by kernel_rfl) λC hP hN=>gq (by kernel_rfl) (by kernel_rfl) (C3 C hP hN)
def Es:Cut SN:=⟨[(3, .bp 3 0),(5, .bp 5 0),(6, .vh 1006),(7, .dat (.int .i64)),(8, .dat (.int .i64)),(14, .dat (.sl (.st .layoutT))),(15, .dat (.int .i64)),(16, .dat (.int .i64))],[(3, .st .targetT),(5, .st .roomT),(1006, .vec 3 (.int .i64))]⟩
def RD:Cut SN:=⟨[(5, .bp 5 0),(6, .vh 1006),(7, .dat (.int .i64)),(8, .dat (.int .i64))],[(5, .st .roomT),(1006, .vec 3 (.int .i64))]⟩
def Tg:Cut SN:=⟨[(4, .dat (.sl (.int .i64))),(5, .bp 5 0)],[(5, .st .roomT)]⟩
def Sr:az vw:={exits:=λid=>match id with|0=>RD|_=>⟨[],[]⟩,rcut:=Tg}
def nI:Sig vw:={params:=[.dat (.st .layoutT), .dat (.st .targetT)],rcut:=Tg,rvars:=[.tmp 4, .cell 5 107]}
def wm:Cut SN:=⟨[(3, .bp 3 0),(4, .bp 4 0),(10, .bp 10 0),(98, .dat (.sl (.st .layoutT))),(99, .dat (.int .i64)),(100, .dat (.int .i64))],[(3, .st .targetT),(4, .st .roomT),(10, .st .roomT)]⟩
def O_:Cut SN:=⟨[(3, .bp 3 0),(4, .bp 4 0),(9, .dat (.int .i64))],[(3, .st .targetT),(4, .st .roomT)]⟩
def RE:Cut SN:=⟨[(4, .bp 4 0),(10, .bp 10 0)],[(4, .st .roomT),(10, .st .roomT)]⟩
def Th:Cut SN:=⟨[(4, .bp 4 0)],[(4, .st .roomT)]⟩
def Ss:az vw:={exits:=λid=>match id with|1=>RE|_=>⟨[],[]⟩,rcut:=Th}
def l9:Sig vw:={params:=[.dat (.st .layoutT), .dat (.st .targetT)],rcut:=Th,rvars:=[.cell 4 107]}
mutual
noncomputable def ez(v:Int×Int×(List aa)×Int×Int×aG×bj×(List Int)×Unit):Option ((Int×Int×bj×(List Int)×Unit)):=if decide (v.2.2.2.2.1<v.2.2.2.1)=true then if 0<=v.2.2.2.2.1 then v.2.2.1[v.2.2.2.2.1.toNat]?>>=λx1=>n_80 (x1,v.2.2.2.2.2.1,())>>=λx2=>ny (v.1,x2.1.align,())>>=λx3=>if v.2.2.2.2.2.2.2.1.length+[x3.1].length<=4294967296 then lO ([x3.1,x2.1.size],())>>=λx4=>ez (x4.1,max v.2.1 x2.1.align,v.2.2.1,v.2.2.2.1,i64.wrap (v.2.2.2.2.1+1),v.2.2.2.2.2.1,v.2.2.2.2.2.2.1,v.2.2.2.2.2.2.2.1++[x3.1],())else none else none else some ((v.1,v.2.1,v.2.2.2.2.2.2.1,v.2.2.2.2.2.2.2.1,())) partial_fixpoint
noncomputable def n_80(v:aa×aG×Unit):Option (bj×Unit):=if(v.1.kind==1)=true then some ((bj.mk (1:Int) (1:Int),()))else if(v.1.kind==2)=true then u1 (v.1.n,())>>=λx1=>u1 (v.1.n,())>>=λx2=>some ((bj.mk x1.1 (min x2.1 v.2.1.word),()))else if(v.1.kind==3)=true then some ((bj.mk v.2.1.word v.2.1.word,()))else if(v.1.kind==4)=true then v.1.parts[Wq 0]?>>=λx1=>n_80 (x1,v.2.1,())>>=λx2=>lO ([x2.1.size,(1:Int)],())>>=λx3=>ny (x3.1,x2.1.align,())>>=λx4=>some ((bj.mk x4.1 x2.1.align,()))else if(v.1.kind==5)=true then v.1.parts[Wq 0]?>>=λx1=>n_80 (x1,v.2.1,())>>=λx2=>some ((bj.mk (min (1099511627776:Int) (i64.wrap (v.1.n *x2.1.size))) x2.1.align,()))else if(v.1.kind==6)=true then n_79 (v.1,v.2.1,())>>=λx1=>some ((x1.2.1,()))else if(v.1.kind==7)=true then(if decide (v.1.n>256)=true then some (((2:Int),v.2.1,bj.mk (0:Int) (0:Int),()))else some (((1:Int),v.2.1,bj.mk (0:Int) (0:Int),())))>>=λx1=>some ((bj.mk x1.1 (min x1.1 x1.2.1.word),()))else if(v.1.kind==8)=true then n_80l25 (v.1.parts,(↑v.1.parts.length:Int),(0:Int),v.2.1,bj.mk (0:Int) (0:Int),bj.mk (0:Int) (1:Int),())>>=λx1=>lO ([x1.2.1.size,(1:Int)],())>>=λx2=>ny (x2.1,x1.2.1.align,())>>=λx3=>some ((bj.mk x3.1 x1.2.1.align,()))else if(v.1.kind==9)=true then Gc (v.1,())>>=λx1=>u1 (x1.1,())>>=λx2=>some ((bj.mk x2.1 (max (1:Int) (min x2.1 v.2.1.word)),()))else some ((bj.mk (0:Int) (1:Int),())) partial_fixpoint
noncomputable def n_80l25(v:(List aa)×Int×Int×aG×bj×bj×Unit):Option ((bj×bj×Unit)):=if decide (v.2.2.1<v.2.1)=true then if 0<=v.2.2.1 then v.1[v.2.2.1.toNat]?>>=λx1=>n_80 (x1,v.2.2.2.1,())>>=λx2=>n_80l25 (v.1,v.2.1,i64.wrap (v.2.2.1+1),v.2.2.2.1,v.2.2.2.2.1,bj.mk (max v.2.2.2.2.2.1.size x2.1.size) (max v.2.2.2.2.2.1.align x2.1.align),())else none else some ((v.2.2.2.2.1,v.2.2.2.2.2.1,())) partial_fixpoint
noncomputable def n_79(v:aa×aG×Unit):Option ((List Int)×bj×Unit):=ez ((0:Int),(1:Int),v.1.parts,(↑v.1.parts.length:Int),(0:Int),v.2.1,bj.mk (0:Int) (0:Int),[],())>>=λx1=>ny (x1.1,x1.2.1,())>>=λx2=>some ((x1.2.2.2.1,bj.mk x2.1 x1.2.1,())) partial_fixpoint
end
def Fb(ez:Int×Int×(List aa)×Int×Int×aG×bj×(List Int)×Unit->Option ((Int×Int×bj×(List Int)×Unit)))(n_80:aa×aG×Unit->Option (bj×Unit))(n_80l25:(List aa)×Int×Int×aG×bj×bj×Unit->Option ((bj×bj×Unit)))(n_79:aa×aG×Unit->Option ((List Int)×bj×Unit)):al vw:=λA fid args S k=>match fid with|80=>aV prog l9 n_80 A args S k|110=>aV prog HA ny A args S k|111=>aV prog yi lO A args S k|_=>none
def x79(ez:Int×Int×(List aa)×Int×Int×aG×bj×(List Int)×Unit->Option ((Int×Int×bj×(List Int)×Unit)))(n_80:aa×aG×Unit->Option (bj×Unit))(n_80l25:(List aa)×Int×Int×aG×bj×bj×Unit->Option ((bj×bj×Unit)))(n_79:aa×aG×Unit->Option ((List Int)×bj×Unit)):Xc vw:={P:=prog,n:=47,call:=Fb ez n_80 n_80l25 n_79,pre:=aP,sh:=Sr,loops:=λk=>match k with|4=>some {cut:=Es,alts:=[.exit 0],F:=ez}|_=>none}
def Fc(ez:Int×Int×(List aa)×Int×Int×aG×bj×(List Int)×Unit->Option ((Int×Int×bj×(List Int)×Unit)))(n_80:aa×aG×Unit->Option (bj×Unit))(n_80l25:(List aa)×Int×Int×aG×bj×bj×Unit->Option ((bj×bj×Unit)))(n_79:aa×aG×Unit->Option ((List Int)×bj×Unit)):al vw:=λA fid args S k=>match fid with|79=>aV prog nI n_79 A args S k|80=>aV prog l9 n_80 A args S k|110=>aV prog HA ny A args S k|111=>aV prog yi lO A args S k|112=>aV prog LD u1 A args S k|113=>aV prog LE Gc A args S k|_=>none
def x80(ez:Int×Int×(List aa)×Int×Int×aG×bj×(List Int)×Unit->Option ((Int×Int×bj×(List Int)×Unit)))(n_80:aa×aG×Unit->Option (bj×Unit))(n_80l25:(List aa)×Int×Int×aG×bj×bj×Unit->Option ((bj×bj×Unit)))(n_79:aa×aG×Unit->Option ((List Int)×bj×Unit)):Xc vw:={P:=prog,n:=142,call:=Fc ez n_80 n_80l25 n_79,pre:=aP,sh:=Ss,joins:=λk=>match k with|21=>some (O_,[.norm])|_=>none,loops:=λk=>match k with|25=>some {cut:=wm,alts:=[.exit 1],F:=n_80l25}|_=>none}
abbrev lL(v:Int×Int×(List aa)×Int×Int×aG×bj×(List Int)×Unit)(r:(Int×Int×bj×(List Int)×Unit)):Prop:=(λv out=>∀C:Ctx,C.P=prog->C.N=47/\Fx C aP->oP C (aj (ah Tryz.f79) 0) (Go.Tx.aI vw (bZ vw Es v)) (vL Sr [.exit 0] out)) v r
abbrev uV(v:aa×aG×Unit)(r:bj×Unit):Prop:=(λv r=>∀x,rh prog l9 r=some x->i6 prog 80 (encL vw (ay l9 v).len (a_ l9 v).1) (bB (ay l9 v).len (ay l9 v).own) (ao vw (bZ vw l9.rcut r).len x) (bB (bZ vw l9.rcut r).len (jx l9 r))) v r
abbrev iF(v:(List aa)×Int×Int×aG×bj×bj×Unit)(r:(bj×bj×Unit)):Prop:=(λv out=>∀C:Ctx,C.P=prog->C.N=142/\Fx C aP->oP C (aj (ah Tryz.f80) 0) (Go.Tx.aI vw (bZ vw wm v)) (vL Ss [.exit 1] out)) v r
abbrev F9(v:aa×aG×Unit)(r:(List Int)×bj×Unit):Prop:=(λv r=>∀x,rh prog nI r=some x->i6 prog 79 (encL vw (ay nI v).len (a_ nI v).1) (bB (ay nI v).len (ay nI v).own) (ao vw (bZ vw nI.rcut r).len x) (bB (bZ vw nI.rcut r).len (jx nI r))) v r
theorem Mt(f0:Int×Int×(List aa)×Int×Int×aG×bj×(List Int)×Unit->Option ((Int×Int×bj×(List Int)×Unit)))(f1:aa×aG×Unit->Option (bj×Unit))(h0:∀v r,f0 v=some r->lL v r)(h1:∀v r,f1 v=some r->uV v r):af prog (x79 f0 f1 (λ_=>none) (λ_=>none)).call:=(by
 intro A fid args S dst k r h
 unfold x79 Fb at h
 simp only at h
 split at h
 ·exact ak ((λv r x h hx=>h1 v r h x hx)) rfl rfl h
 ·exact ak (pd) rfl rfl h
 ·exact ak (fz) rfl rfl h
 ·cases h)
theorem N2(f0:Int×Int×(List aa)×Int×Int×aG×bj×(List Int)×Unit->Option ((Int×Int×bj×(List Int)×Unit)))(f1:aa×aG×Unit->Option (bj×Unit))(h0:∀v r,f0 v=some r->lL v r)(h1:∀v r,f1 v=some r->uV v r)(v:Int×Int×(List aa)×Int×Int×aG×bj×(List Int)×Unit)(r:(Int×Int×bj×(List Int)×Unit))(h:exL (x79 f0 f1 (λ_=>none) (λ_=>none)) (aj (ah Tryz.f79) 0) Es [.exit 0] f0 v=some r):lL v r:=λC hP hN=>c8 (X:=x79 f0 f1 (λ_=>none) (λ_=>none)) (b:=(aj (ah Tryz.f79) 0)) hP hN Ty.mixed (Mt f0 f1 h0 h1) (bo (X:=x79 f0 f1 (λ_=>none) (λ_=>none)) (c:=(aj (ah Tryz.f79) 0)) (bw (by kernel_rfl:True=fR (bt C (x79 f0 f1 (λ_=>none) (λ_=>none))) (aR (aj (ah Tryz.f79) 0))) trivial)) (cut:=Es) (alts:=[.exit 0]) (F:=f0) (λv out h=>h0 v out h C hP hN) h
theorem RN(f0:aa×aG×Unit->Option (bj×Unit))(f1:(List aa)×Int×Int×aG×bj×bj×Unit->Option ((bj×bj×Unit)))(f2:aa×aG×Unit->Option ((List Int)×bj×Unit))(h0:∀v r,f0 v=some r->uV v r)(h1:∀v r,f1 v=some r->iF v r)(h2:∀v r,f2 v=some r->F9 v r):af prog (x80 (λ_=>none) f0 f1 f2).call:=(by
 intro A fid args S dst k r h
 unfold x80 Fc at h
 simp only at h
 split at h
 ·exact ak ((λv r x h hx=>h2 v r h x hx)) rfl rfl h
 ·exact ak ((λv r x h hx=>h0 v r h x hx)) rfl rfl h
 ·exact ak (pd) rfl rfl h
 ·exact ak (fz) rfl rfl h
 ·exact ak (Ba) rfl rfl h
 ·exact ak (Bb) rfl rfl h
 ·cases h)
theorem Sw(f0:aa×aG×Unit->Option (bj×Unit))(f1:(List aa)×Int×Int×aG×bj×bj×Unit->Option ((bj×bj×Unit)))(f2:aa×aG×Unit->Option ((List Int)×bj×Unit))(h0:∀v r,f0 v=some r->uV v r)(h1:∀v r,f1 v=some r->iF v r)(h2:∀v r,f2 v=some r->F9 v r)(v:aa×aG×Unit)(r:bj×Unit)(h:exF (x80 (λ_=>none) f0 f1 f2) l9 rfl (ah Tryz.f80) v=some r):uV v r:=λx hx=>mm (X:=x80 (λ_=>none) f0 f1 f2) (sig:=l9) rfl Tryz.func80 (c:=ah Tryz.f80) (by kernel_rfl) Tryz.ntmps80 (by kernel_rfl) (by kernel_rfl) rfl Ty.mixed (RN f0 f1 f2 h0 h1 h2) rfl (λC hP hN=>(bo (X:=x80 (λ_=>none) f0 f1 f2) (c:=(ah Tryz.f80)) (bw (by kernel_rfl:fR (bt C (x80 (λ_=>none) f0 f1 f2)) [(aj (ah Tryz.f80) 0)]=fR (bt C (x80 (λ_=>none) f0 f1 f2)) (aR (ah Tryz.f80))) ⟨dS (X:=x80 (λ_=>none) f0 f1 f2) (b:=(aj (ah Tryz.f80) 0)) (by kernel_rfl) (show aD C (aj (ah Tryz.f80) 0) (sh:=Ss) {cut:=wm,alts:=[.exit 1],F:=f1}fromλv out h=>h1 v out h C hP hN),trivial⟩))) h x hx
theorem IX(f0:aa×aG×Unit->Option (bj×Unit))(f1:(List aa)×Int×Int×aG×bj×bj×Unit->Option ((bj×bj×Unit)))(h0:∀v r,f0 v=some r->uV v r)(h1:∀v r,f1 v=some r->iF v r):af prog (x80 (λ_=>none) f0 f1 (λ_=>none)).call:=(by
 intro A fid args S dst k r h
 unfold x80 Fc at h
 simp only at h
 split at h
 ·exact ak ((λv r x h hx=>by cases h)) rfl rfl h
 ·exact ak ((λv r x h hx=>h0 v r h x hx)) rfl rfl h
 ·exact ak (pd) rfl rfl h
 ·exact ak (fz) rfl rfl h
 ·exact ak (Ba) rfl rfl h
 ·exact ak (Bb) rfl rfl h
 ·cases h)
theorem J7(f0:aa×aG×Unit->Option (bj×Unit))(f1:(List aa)×Int×Int×aG×bj×bj×Unit->Option ((bj×bj×Unit)))(h0:∀v r,f0 v=some r->uV v r)(h1:∀v r,f1 v=some r->iF v r)(v:(List aa)×Int×Int×aG×bj×bj×Unit)(r:(bj×bj×Unit))(h:exL (x80 (λ_=>none) f0 f1 (λ_=>none)) (aj (ah Tryz.f80) 0) wm [.exit 1] f1 v=some r):iF v r:=λC hP hN=>c8 (X:=x80 (λ_=>none) f0 f1 (λ_=>none)) (b:=(aj (ah Tryz.f80) 0)) hP hN Ty.mixed (IX f0 f1 h0 h1) (bo (X:=x80 (λ_=>none) f0 f1 (λ_=>none)) (c:=(aj (ah Tryz.f80) 0)) (bw (by kernel_rfl:True=fR (bt C (x80 (λ_=>none) f0 f1 (λ_=>none))) (aR (aj (ah Tryz.f80) 0))) trivial)) (cut:=wm) (alts:=[.exit 1]) (F:=f1) (λv out h=>h1 v out h C hP hN) h
theorem RM(f0:Int×Int×(List aa)×Int×Int×aG×bj×(List Int)×Unit->Option ((Int×Int×bj×(List Int)×Unit)))(h0:∀v r,f0 v=some r->lL v r):af prog (x79 f0 (λ_=>none) (λ_=>none) (λ_=>none)).call:=(by
 intro A fid args S dst k r h
 unfold x79 Fb at h
 simp only at h
 split at h
 ·exact ak ((λv r x h hx=>by cases h)) rfl rfl h
 ·exact ak (pd) rfl rfl h
 ·exact ak (fz) rfl rfl h
 ·cases h)
theorem Sv(f0:Int×Int×(List aa)×Int×Int×aG×bj×(List Int)×Unit->Option ((Int×Int×bj×(List Int)×Unit)))(h0:∀v r,f0 v=some r->lL v r)(v:aa×aG×Unit)(r:(List Int)×bj×Unit)(h:exF (x79 f0 (λ_=>none) (λ_=>none) (λ_=>none)) nI rfl (ah Tryz.f79) v=some r):F9 v r:=λx hx=>mm (X:=x79 f0 (λ_=>none) (λ_=>none) (λ_=>none)) (sig:=nI) rfl Tryz.func79 (c:=ah Tryz.f79) (by kernel_rfl) Tryz.ntmps79 (by kernel_rfl) (by kernel_rfl) rfl Ty.mixed (RM f0 h0) rfl (λC hP hN=>(bo (X:=x79 f0 (λ_=>none) (λ_=>none) (λ_=>none)) (c:=(ah Tryz.f79)) (bw (by kernel_rfl:fR (bt C (x79 f0 (λ_=>none) (λ_=>none) (λ_=>none))) [(aj (ah Tryz.f79) 0)]=fR (bt C (x79 f0 (λ_=>none) (λ_=>none) (λ_=>none))) (aR (ah Tryz.f79))) ⟨dS (X:=x79 f0 (λ_=>none) (λ_=>none) (λ_=>none)) (b:=(aj (ah Tryz.f79) 0)) (by kernel_rfl) (show aD C (aj (ah Tryz.f79) 0) (sh:=Sr) {cut:=Es,alts:=[.exit 0],F:=f0}fromλv out h=>h0 v out h C hP hN),trivial⟩))) h x hx
theorem tU:(∀v r,ez v=some r->lL v r)/\(∀v r,n_80 v=some r->uV v r)/\(∀v r,n_80l25 v=some r->iF v r)/\(∀v r,n_79 v=some r->F9 v r):=by
 refine ez.mutual_partial_correctness
  (motive_1:=lL)
  (motive_2:=uV)
  (motive_3:=iF)
  (motive_4:=F9)
  ?_ ?_ ?_ ?_
 ·exact(λf0 f1 h0 h1 v r h=>N2 f0 f1 h0 h1 v r (bw (by kernel_rfl) h))
 ·exact(λf0 f1 f2 h0 h1 h2 v r h=>Sw f0 f1 f2 h0 h1 h2 v r (bw (by kernel_rfl) h))
 ·exact(λf0 f1 h0 h1 v r h=>J7 f0 f1 h0 h1 v r (bw (by kernel_rfl) h))
 ·exact(λf0 h0 v r h=>Sv f0 h0 v r (bw (by kernel_rfl) h))
theorem GH:aA prog 80 l9 n_80:=λv r x h hx=>tU.2.1 v r h x hx
theorem Nm:aA prog 79 nI n_79:=λv r x h hx=>tU.2.2.2 v r h x hx
def Tf:Cut SN:=⟨[(4, .bp 4 0),(5, .dat (.int .i64))],[(4, .st .roomT)]⟩
def UF:az vw:={rcut:=Tf}
def QC:Sig vw:={params:=[.dat (.st .layoutT), .dat (.st .targetT)],rcut:=Tf,rvars:=[.cell 4 107, .tmp 5]}
noncomputable def PW(v:aa×aG×Unit):Option (Int×bj×Unit):=n_80 (v.1,v.2.1,())>>=λx1=>if decide (x1.1.size>4096)=true then some (((3:Int),bj.mk (0:Int) (0:Int),()))else some (((0:Int),x1.1,()))
def Lb:al vw:=cP prog 80 l9 n_80 c0
def x73:Xc vw:={P:=prog,n:=15,call:=Lb,pre:=aP,sh:=UF}
theorem E_:af prog Lb:=aU GH rfl rfl aJ
theorem Nk:aA prog 73 QC PW:=fnA x73 Tryz.func73 (by kernel_rfl) Ty.mixed E_ rfl rfl rfl (λv=>by kernel_rfl) λC hP hN=>bL (by kernel_rfl)
def O9:Cut SN:=⟨[(1, .bp 1 0),(4, .dat (.int .i64)),(5, .dat .bool)],[(1, .st .layoutT)]⟩
def UG:az vw:={rcut:=bW}
def QD:Sig vw:={params:=[.dat (.st .layoutT)],rcut:=bW,rvars:=[.tmp 2]}
noncomputable def PX(v:aa×Unit):Option (Int×Unit):=(if(v.1.kind==6)=true then some ((v.1.kind,true,v.1,()))else some ((v.1.kind,v.1.kind==8,v.1,())))>>=λx1=>if x1.2.1=true then some (((↑x1.2.2.1.parts.length:Int),()))else if(x1.1==4)=true then some (((2:Int),()))else if(x1.1==5)=true then some ((x1.2.2.1.n,()))else some (((-1:Int),()))
def Lc:al vw:=c0
def x78:Xc vw:={P:=prog,n:=17,call:=Lc,pre:=aP,sh:=UG,joins:=λk=>match k with|4=>some (O9,[.norm])|_=>none}
theorem Fa:af prog Lc:=aJ
theorem Nl:aA prog 78 QD PX:=fnA x78 Tryz.func78 (by kernel_rfl) Ty.mixed Fa rfl rfl rfl (λv=>by kernel_rfl) λC hP hN=>bL (by kernel_rfl)
def O5:Cut SN:=⟨[(2, .dat (.int .i64)),(3, .bp 3 0),(4, .bp 4 0),(54, .dat .bool)],[(3, .st .layoutT),(4, .st .targetT)]⟩
def Rv:Cut SN:=⟨[(2, .dat (.int .i64)),(3, .bp 3 0),(4, .bp 4 0),(30, .dat .bool)],[(3, .st .layoutT),(4, .st .targetT)]⟩
def S_:Cut SN:=⟨[(6, .dat (.int .i64)),(7, .dat (.int .i64))],[]⟩
def Uz:az vw:={rcut:=S_}
def Qs:Sig vw:={params:=[.dat (.st .layoutT), .dat (.st .targetT), .dat (.int .i64)],rcut:=S_,rvars:=[.tmp 6, .tmp 7]}
noncomputable def PM(v:aa×aG×Int×Unit):Option (Int×Int×Unit):=PV (v.1,v.2.1,())>>=λx1=>if(x1.1 !=0)=true then some (((0:Int),x1.1,()))else PX (v.1,())>>=λx2=>if decide (x2.1<0)=true then some (((0:Int),(6:Int),()))else(if decide (v.2.2.1<0)=true then some ((v.2.2.1,true,v.1,v.2.1,()))else some ((v.2.2.1,decide (v.2.2.1>=x2.1),v.1,v.2.1,())))>>=λx3=>if x3.2.1=true then some (((0:Int),(4:Int),()))else PW (x3.2.2.1,x3.2.2.2.1,())>>=λx4=>if(x4.1 !=0)=true then some (((0:Int),x4.1,()))else if(x3.2.2.1.kind==6)=true then n_79 (x3.2.2.1,x3.2.2.2.1,())>>=λx5=>if 0<=x3.1 then x5.1[x3.1.toNat]?>>=λx6=>some ((x6,(0:Int),()))else none else(if(x3.2.2.1.kind==4)=true then some ((x3.1,true,x3.2.2.1,x3.2.2.2.1,()))else some ((x3.1,x3.2.2.1.kind==5,x3.2.2.1,x3.2.2.2.1,())))>>=λx5=>if x5.2.1=true then x5.2.2.1.parts[Wq 0]?>>=λx6=>n_80 (x6,x5.2.2.2.1,())>>=λx7=>some ((i64.wrap (x5.1 *x7.1.size),(0:Int),()))else some (((0:Int),(0:Int),()))
def K2:al vw:=cP prog 72 QB PV (cP prog 73 QC PW (cP prog 78 QD PX (cP prog 79 nI n_79 (cP prog 80 l9 n_80 c0))))
def x45:Xc vw:={P:=prog,n:=66,call:=K2,pre:=aP,sh:=Uz,joins:=λk=>match k with|18=>some (O5,[.norm])|_=>none,regs:=λk=>match k with|7=>some Rv|_=>none}
theorem EW:af prog K2:=aU Nj rfl rfl (aU Nk rfl rfl (aU Nl rfl rfl (aU Nm rfl rfl (aU GH rfl rfl aJ))))
theorem M8:aA prog 45 Qs PM:=fnA x45 Tryz.func45 (by kernel_rfl) Ty.mixed EW rfl rfl rfl (λv=>by kernel_rfl) λC hP hN=>bL (by kernel_rfl)
def SY:Cut SN:=⟨[(8, .dat (.int .i64)),(9, .dat (.int .i64))],[]⟩
def Uv:az vw:={rcut:=SY}
def Qo:Sig vw:={params:=[.dat .str, .dat .str, .dat .str, .dat (.st .targetT)],rcut:=SY,rvars:=[.tmp 8, .tmp 9]}
noncomputable def PH(v:ByteArray×ByteArray×ByteArray×aG×Unit):Option (Int×Int×Unit):=PL (v.1,v.2.1,v.2.2.2.1,())>>=λx1=>if(x1.1 !=0)=true then some (((0:Int),x1.1,()))else Lr (x1.2.1.names,v.2.2.1,())>>=λx2=>if decide (x2.1<0)=true then some (((0:Int),(4:Int),()))else PM (aa.mk x1.2.1.layout.kind x1.2.1.layout.n x1.2.1.layout.flag x1.2.1.layout.parts,v.2.2.2.1,x2.1,())>>=λx3=>some ((x3.1,x3.2.1,()))
def KV:al vw:=cP prog 40 Qr PL (cP prog 44 NT Lr (cP prog 45 Qs PM c0))
def x18:Xc vw:={P:=prog,n:=36,call:=KV,pre:=aP,sh:=Uv}
theorem EQ:af prog KV:=aU M4 rfl rfl (aU Gz rfl rfl (aU M8 rfl rfl aJ))
theorem MU:aA prog 18 Qo PH:=fnA x18 Tryz.func18 (by kernel_rfl) Ty.mixed EQ rfl rfl rfl (λv=>by kernel_rfl) λC hP hN=>bL (by kernel_rfl)
def Me:Cut SN:=⟨[(0, .dat .bool)],[]⟩
def Uu:az vw:={rcut:=Me}
def Qk:Sig vw:={params:=[],rcut:=Me,rvars:=[.tmp 0]}
noncomputable def Oo(v:Unit):Option (Bool×Unit):=PH (Vp #[115,116,114,117,99,116,32,83,32,123,32,99,104,97,114,32,97,59,32,105,110,116,32,98,59,32,125,59],Vp #[83],Vp #[98],aG.mk (4:Int) false,())>>=λx1=>Gb (Vp #[35,100,101,102,105,110,101,32,78,32,49,48,10,35,100,101,102,105,110,101,32,70,40,120,41,32,120,10],())>>=λx2=>(if(x1.2.1==0)=true then if(x1.1==4)=true then if(x2.2.2.1==0)=true then if((↑x2.1.length:Int)==1)=true then x2.1[Wq 0]?>>=λx3=>if(x3.n==10)=true then if((↑x2.2.1.length:Int)==1)=true then x2.2.1[Wq 0]?>>=λx4=>some ((x4.toList==(Vp #[35,32,100,101,102,105,110,101,32,70,32,40,32,120,32,41,32,120]).toList,()))else some ((false,()))else some ((false,()))else some ((false,()))else some ((false,()))else some ((false,()))else some ((false,())))>>=λx3=>some ((x3.1,()))
def KP:al vw:=cP prog 11 J2 Gb (cP prog 18 Qo PH c0)
def x10:Xc vw:={P:=prog,n:=49,call:=KP,pre:=aP,sh:=Uu,regs:=λk=>match k with|3=>some Me|_=>none}
theorem Ev:af prog KP:=aU Ab rfl rfl (aU MU rfl rfl aJ)
theorem MM:aA prog 10 Qk Oo:=fnA x10 Tryz.func10 (by kernel_rfl) Ty.mixed Ev rfl rfl rfl (λv=>by kernel_rfl) λC hP hN=>bL (by kernel_rfl)
def zf:Cut SN:=⟨[(0, .bp 100000 0),(14, .dat .bool)],[(100000, .box none [.dat (.sl .str), .vh 100001, .dat .bool]),(100001, .vec 44 (.st .itemT))]⟩
def fF:Cut SN:=⟨[(0, .bp 100000 0),(2, .dat .str)],[(100000, .box none [.dat (.sl .str), .vh 100001, .dat .bool]),(100001, .vec 44 (.st .itemT))]⟩
def DA:az vw:={rcut:=fF}
def iW:Sig vw:={params:=[.bp 100000 0],objs:=[(100000, .box none [.dat (.sl .str), .vh 100001, .dat .bool]),(100001, .vec 44 (.st .itemT))],rcut:=fF,rvars:=[.tmp 2],keep:=[100000,100001]}
noncomputable def db(v:(List ByteArray)×Bool×(List Item)×Unit):Option (ByteArray×(List ByteArray)×Bool×(List Item)×Unit):=(if v.2.1=true then some ((true,v.1,v.2.1,v.2.2.1,()))else some (((↑v.1.length:Int)==0,v.1,v.2.1,v.2.2.1,())))>>=λx1=>if x1.1=true then some ((Vp #[],x1.2.1,x1.2.2.1,x1.2.2.2.1,()))else x1.2.1[Wq 0]?>>=λx2=>some ((x2,x1.2.1,x1.2.2.1,x1.2.2.2.1,()))
def n5:al vw:=c0
def Il:Xc vw:={P:=prog,n:=21,call:=n5,pre:=aP,sh:=DA,regs:=λk=>match k with|1=>some zf|_=>none}
theorem pL:af prog n5:=aJ
theorem iK:aA prog 136 iW db:=fnA Il Tryz.func136 (by kernel_rfl) Ty.mixed pL rfl rfl rfl (λv=>by kernel_rfl) λC hP hN=>bL (by kernel_rfl)
def DB:az vw:={rcut:=fF}
def dV:Sig vw:={params:=[.bp 100000 0],objs:=[(100000, .box none [.dat (.sl .str), .vh 100001, .dat .bool]),(100001, .vec 44 (.st .itemT))],rcut:=fF,rvars:=[.tmp 2],keep:=[100000,100001]}
noncomputable def bG(v:(List ByteArray)×Bool×(List Item)×Unit):Option (ByteArray×(List ByteArray)×Bool×(List Item)×Unit):=db (v.1,v.2.1,v.2.2.1,())>>=λx1=>if x1.2.2.2.1.length=v.2.2.1.length then if(x1.1.toList==(Vp #[]).toList)=true then some ((Vp #[],x1.2.1,true,x1.2.2.2.1,()))else if(0:Int)<=1/\(1:Int)<=(↑x1.2.1.length:Int)/\(↑x1.2.1.length:Int)<=(↑x1.2.1.length:Int)then some ((x1.1,YE (Wq 1) (Yh (↑x1.2.1.length:Int).toNat x1.2.1),x1.2.2.1,x1.2.2.2.1,()))else none else none
def n7:al vw:=cO prog 136 iW db c0
def Im:Xc vw:={P:=prog,n:=20,call:=n7,pre:=aP,sh:=DB}
theorem pM:af prog n7:=aN iK aJ
theorem dC:aA prog 138 dV bG:=fnA Im Tryz.func138 (by kernel_rfl) Ty.mixed pM rfl rfl rfl (λv=>by kernel_rfl) λC hP hN=>bL (by kernel_rfl)
def gQ:Cut SN:=⟨[(0, .bp 100000 0)],[(100000, .box none [.dat (.sl .str), .vh 100001, .dat .bool]),(100001, .vec 44 (.st .itemT))]⟩
def Dw:az vw:={rcut:=gQ}
def gj:Sig vw:={params:=[.bp 100000 0, .dat .str],objs:=[(100000, .box none [.dat (.sl .str), .vh 100001, .dat .bool]),(100001, .vec 44 (.st .itemT))],rcut:=gQ,rvars:=[],keep:=[100000,100001]}
noncomputable def aM(v:ByteArray×(List ByteArray)×Bool×(List Item)×Unit):Option ((List ByteArray)×Bool×(List Item)×Unit):=bG (v.2.1,v.2.2.1,v.2.2.2.1,())>>=λx1=>if x1.2.2.2.1.length=v.2.2.2.1.length then if(!x1.1.toList==v.1.toList)=true then some ((x1.2.1,true,x1.2.2.2.1,()))else some ((x1.2.1,x1.2.2.1,x1.2.2.2.1,()))else none
def nV:al vw:=cO prog 138 dV bG c0
def Ih:Xc vw:={P:=prog,n:=11,call:=nV,pre:=aP,sh:=Dw}
theorem pH:af prog nV:=aN dC aJ
theorem fA:aA prog 130 gj aM:=fnA Ih Tryz.func130 (by kernel_rfl) Ty.mixed pH rfl rfl rfl (λv=>by kernel_rfl) λC hP hN=>bL (by kernel_rfl)
def Sk:az vw:={rcut:=dw}
def LP:Sig vw:={params:=[.dat .str],rcut:=dw,rvars:=[.tmp 2]}
noncomputable def Gr(v:ByteArray×Unit):Option (Bool×Unit):=(if(v.1.toList==(Vp #[99,104,97,114]).toList)=true then some ((true,()))else if(v.1.toList==(Vp #[115,104,111,114,116]).toList)=true then some ((true,()))else if(v.1.toList==(Vp #[105,110,116]).toList)=true then some ((true,()))else if(v.1.toList==(Vp #[108,111,110,103]).toList)=true then some ((true,()))else if(v.1.toList==(Vp #[117,110,115,105,103,110,101,100]).toList)=true then some ((true,()))else if(v.1.toList==(Vp #[118,111,105,100]).toList)=true then some ((true,()))else if(v.1.toList==(Vp #[115,116,114,117,99,116]).toList)=true then some ((true,()))else some ((v.1.toList==(Vp #[101,110,117,109]).toList,())))>>=λx1=>if x1.1=true then some ((true,()))else some ((false,()))
def EM:al vw:=c0
def Vd:Xc vw:={P:=prog,n:=13,call:=EM,pre:=aP,sh:=Sk,joins:=λk=>match k with|10=>some (gI,[.norm])|_=>none}
theorem Cw:af prog EM:=aJ
theorem Jw:aA prog 169 LP Gr:=fnA Vd Tryz.func169 (by kernel_rfl) Ty.mixed Cw rfl rfl rfl (λv=>by kernel_rfl) λC hP hN=>bL (by kernel_rfl)
def UJ:az vw:={rcut:=dw}
def NX:Sig vw:={params:=[.dat (.int .u8)],rcut:=dw,rvars:=[.tmp 2]}
noncomputable def Lt(v:Int×Unit):Option (Bool×Unit):=(if decide (v.1>=97)=true then if decide (v.1<=122)=true then some ((true,()))else if decide (v.1>=65)=true then if decide (v.1<=90)=true then some ((true,()))else some ((v.1==95,()))else some ((v.1==95,()))else if decide (v.1>=65)=true then if decide (v.1<=90)=true then some ((true,()))else some ((v.1==95,()))else some ((v.1==95,())))>>=λx1=>some ((x1.1,()))
def Lg:al vw:=c0
def x88:Xc vw:={P:=prog,n:=21,call:=Lg,pre:=aP,sh:=UJ,regs:=λk=>match k with|1=>some dw|_=>none}
theorem Ff:af prog Lg:=aJ
theorem GL:aA prog 88 NX Lt:=fnA x88 Tryz.func88 (by kernel_rfl) Ty.mixed Ff rfl rfl rfl (λv=>by kernel_rfl) λC hP hN=>bL (by kernel_rfl)
def zc:Cut SN:=⟨[(0, .bp 100000 0),(3, .dat .str)],[(100000, .box none [.dat (.sl .str), .vh 100001, .dat .bool]),(100001, .vec 44 (.st .itemT))]⟩
def zd:Cut SN:=⟨[(0, .bp 100000 0),(3, .dat .str),(17, .dat .bool)],[(100000, .box none [.dat (.sl .str), .vh 100001, .dat .bool]),(100001, .vec 44 (.st .itemT))]⟩
def Dx:az vw:={rcut:=fF}
def eH:Sig vw:={params:=[.bp 100000 0],objs:=[(100000, .box none [.dat (.sl .str), .vh 100001, .dat .bool]),(100001, .vec 44 (.st .itemT))],rcut:=fF,rvars:=[.tmp 2],keep:=[100000,100001]}
noncomputable def bm(v:(List ByteArray)×Bool×(List Item)×Unit):Option (ByteArray×(List ByteArray)×Bool×(List Item)×Unit):=bG (v.1,v.2.1,v.2.2.1,())>>=λx1=>if x1.2.2.2.1.length=v.2.2.1.length then((if(x1.1.toList==(Vp #[]).toList)=true then some ((x1.1,true,x1.2.1,x1.2.2.1,x1.2.2.2.1,()))else x1.1[Wq 0]?>>=λx2=>Lt ((↑x2.toNat:Int),())>>=λx3=>if(!x3.1)=true then some ((x1.1,true,x1.2.1,x1.2.2.1,x1.2.2.2.1,()))else Gr (x1.1,())>>=λx4=>some ((x1.1,x4.1,x1.2.1,x1.2.2.1,x1.2.2.2.1,())))>>=λx2=>if x2.2.1=true then some ((x2.1,x2.2.2.1,true,x2.2.2.2.2.1,()))else some ((x2.1,x2.2.2.1,x2.2.2.2.1,x2.2.2.2.2.1,())))>>=λx2=>some ((x2.1,x2.2.1,x2.2.2.1,x2.2.2.2.1,()))else none
def nW:al vw:=cP prog 88 NX Lt (cO prog 138 dV bG (cP prog 169 LP Gr c0))
def Ii:Xc vw:={P:=prog,n:=22,call:=nW,pre:=aP,sh:=Dx,joins:=λk=>match k with|4=>some (zc,[.norm])|_=>none,regs:=λk=>match k with|2=>some zd|_=>none}
theorem pI:af prog nW:=aU GL rfl rfl (aN dC (aU Jw rfl rfl aJ))
theorem eg:aA prog 131 eH bm:=fnA Ii Tryz.func131 (by kernel_rfl) Ty.mixed pI rfl rfl rfl (λv=>by kernel_rfl) λC hP hN=>bL (by kernel_rfl)
def s7:Cut SN:=⟨[(0, .bp 100000 0),(4, .dat .bool)],[(100000, .box none [.dat (.sl .str), .vh 100001, .dat .bool]),(100001, .vec 44 (.st .itemT))]⟩
def Dy:az vw:={rcut:=s7}
def eI:Sig vw:={params:=[.bp 100000 0, .dat .str],objs:=[(100000, .box none [.dat (.sl .str), .vh 100001, .dat .bool]),(100001, .vec 44 (.st .itemT))],rcut:=s7,rvars:=[.tmp 4],keep:=[100000,100001]}
noncomputable def bV(v:ByteArray×(List ByteArray)×Bool×(List Item)×Unit):Option (Bool×(List ByteArray)×Bool×(List Item)×Unit):=db (v.2.1,v.2.2.1,v.2.2.2.1,())>>=λx1=>if x1.2.2.2.1.length=v.2.2.2.1.length then if(!x1.1.toList==v.1.toList)=true then some ((false,x1.2.1,x1.2.2.1,x1.2.2.2.1,()))else bG (x1.2.1,x1.2.2.1,x1.2.2.2.1,())>>=λx2=>if x2.2.2.2.1.length=x1.2.2.2.1.length then some ((true,x2.2.1,x2.2.2.1,x2.2.2.2.1,()))else none else none
def nX:al vw:=cO prog 136 iW db (cO prog 138 dV bG c0)
def Ij:Xc vw:={P:=prog,n:=11,call:=nX,pre:=aP,sh:=Dy}
theorem pJ:af prog nX:=aN iK (aN dC aJ)
theorem eh:aA prog 132 eI bV:=fnA Ij Tryz.func132 (by kernel_rfl) Ty.mixed pJ rfl rfl rfl (λv=>by kernel_rfl) λC hP hN=>bL (by kernel_rfl)
def UK:az vw:={rcut:=dw}
def NY:Sig vw:={params:=[.dat (.int .u8)],rcut:=dw,rvars:=[.tmp 2]}
noncomputable def JC(v:Int×Unit):Option (Bool×Unit):=(if decide (v.1>=48)=true then some ((decide (v.1<=57),()))else some ((false,())))>>=λx1=>some ((x1.1,()))
def Lh:al vw:=c0
def x89:Xc vw:={P:=prog,n:=9,call:=Lh,pre:=aP,sh:=UK,regs:=λk=>match k with|1=>some dw|_=>none}
theorem Fg:af prog Lh:=aJ
theorem GM:aA prog 89 NY JC:=fnA x89 Tryz.func89 (by kernel_rfl) Ty.mixed Fg rfl rfl rfl (λv=>by kernel_rfl) λC hP hN=>bL (by kernel_rfl)
def ze:Cut SN:=⟨[(0, .bp 100000 0),(3, .dat .str),(20, .dat .bool)],[(100000, .box none [.dat (.sl .str), .vh 100001, .dat .bool]),(100001, .vec 44 (.st .itemT))]⟩
def s8:Cut SN:=⟨[(0, .bp 100000 0),(2, .dat (.int .i64))],[(100000, .box none [.dat (.sl .str), .vh 100001, .dat .bool]),(100001, .vec 44 (.st .itemT))]⟩
def Dz:az vw:={rcut:=s8}
def lW:Sig vw:={params:=[.bp 100000 0],objs:=[(100000, .box none [.dat (.sl .str), .vh 100001, .dat .bool]),(100001, .vec 44 (.st .itemT))],rcut:=s8,rvars:=[.tmp 2],keep:=[100000,100001]}
noncomputable def eE(v:(List ByteArray)×Bool×(List Item)×Unit):Option (Int×(List ByteArray)×Bool×(List Item)×Unit):=bG (v.1,v.2.1,v.2.2.1,())>>=λx1=>if x1.2.2.2.1.length=v.2.2.1.length then(if(x1.1.toList==(Vp #[]).toList)=true then some ((x1.1,true,x1.2.1,x1.2.2.1,x1.2.2.2.1,()))else x1.1[Wq 0]?>>=λx2=>JC ((↑x2.toNat:Int),())>>=λx3=>if(!x3.1)=true then some ((x1.1,true,x1.2.1,x1.2.2.1,x1.2.2.2.1,()))else some ((x1.1,decide ((↑x1.1.size:Int)>9),x1.2.1,x1.2.2.1,x1.2.2.2.1,())))>>=λx2=>if x2.2.1=true then some (((0:Int),x2.2.2.1,true,x2.2.2.2.2.1,()))else xq (x2.1,())>>=λx3=>some ((x3.1,x2.2.2.1,x2.2.2.2.1,x2.2.2.2.2.1,()))else none
def nY:al vw:=cP prog 89 NY JC (cO prog 138 dV bG (cP prog 170 HD xq c0))
def Ik:Xc vw:={P:=prog,n:=30,call:=nY,pre:=aP,sh:=Dz,regs:=λk=>match k with|2=>some ze|_=>none}
theorem pK:af prog nY:=aU GM rfl rfl (aN dC (aU Bd rfl rfl aJ))
theorem mE:aA prog 133 lW eE:=fnA Ik Tryz.func133 (by kernel_rfl) Ty.mixed pK rfl rfl rfl (λv=>by kernel_rfl) λC hP hN=>bL (by kernel_rfl)
def Eo:Cut SN:=⟨[(0, .dat (.sl (.st .itemT))),(1, .dat .str),(5, .dat (.int .i64))],[]⟩
def KK:Cut SN:=⟨[(0, .dat (.sl (.st .itemT))),(1, .dat .str),(5, .dat (.int .i64)),(6, .dat (.int .i64))],[]⟩
def OQ:Cut SN:=⟨[(0, .dat (.sl (.st .itemT))),(1, .dat .str),(5, .dat (.int .i64)),(27, .dat .bool)],[]⟩
def OR:Cut SN:=⟨[(0, .dat (.sl (.st .itemT))),(1, .dat .str),(5, .dat (.int .i64)),(6, .dat (.int .i64)),(43, .dat .bool)],[]⟩
def NK:az vw:={exits:=λid=>match id with|0=>si|2=>Eo|_=>⟨[],[]⟩,rcut:=gI}
def HB:Sig vw:={params:=[.dat (.sl (.st .itemT)), .dat .str],rcut:=gI,rvars:=[.tmp 4]}
noncomputable def ga(v:(List Item)×ByteArray×Int×Int×Unit):Option (((Bool×Unit)⊕((List Item)×ByteArray×Int×Unit))):=(if 0<=v.2.2.1 then v.1[v.2.2.1.toNat]?>>=λx1=>if decide (v.2.2.2.1<(↑x1.names.length:Int))=true then if 0<=v.2.2.1 then v.1[v.2.2.1.toNat]?>>=λx2=>some ((v.1,v.2.1,v.2.2.1,v.2.2.2.1,x2.kind==1,()))else none else some ((v.1,v.2.1,v.2.2.1,v.2.2.2.1,false,()))else none)>>=λx1=>if x1.2.2.2.2.1=true then if 0<=x1.2.2.1 then x1.1[x1.2.2.1.toNat]?>>=λx2=>if 0<=x1.2.2.2.1 then x2.names[x1.2.2.2.1.toNat]?>>=λx3=>if(x3.toList==x1.2.1.toList)=true then some (V_ (true,()))else ga (x1.1,x1.2.1,x1.2.2.1,i64.wrap (x1.2.2.2.1+1),())else none else none else some (V9 (x1.1,x1.2.1,x1.2.2.1,())) partial_fixpoint
noncomputable def iI(v:(List Item)×ByteArray×Int×Unit):Option (((Bool×Unit)⊕(Unit))):=if decide (v.2.2.1<(↑v.1.length:Int))=true then(if 0<=v.2.2.1 then v.1[v.2.2.1.toNat]?>>=λx1=>if(x1.kind==0)=true then if 0<=v.2.2.1 then v.1[v.2.2.1.toNat]?>>=λx2=>some ((v.1,v.2.1,v.2.2.1,x2.name0.toList==v.2.1.toList,()))else none else some ((v.1,v.2.1,v.2.2.1,false,()))else none)>>=λx1=>if x1.2.2.2.1=true then some (V_ (true,()))else ga (x1.1,x1.2.1,x1.2.2.1,(0:Int),())>>=λx2=>match x2 with| .inl y2=>some (V_ y2)| .inr y2=>iI (y2.1,y2.2.1,i64.wrap (y2.2.2.1+1),())else some (V9 ()) partial_fixpoint
noncomputable def Ad(v:(List Item)×ByteArray×Unit):Option (Bool×Unit):=iI (v.1,v.2.1,(0:Int),())>>=λx1=>match x1 with| .inl y1=>some y1| .inr y1=>some ((false,()))
def ED:al vw:=c0
def SS:Xc vw:={P:=prog,n:=56,call:=ED,pre:=aP,sh:=NK,regs:=λk=>match k with|4=>some OQ|7=>some OR|_=>none,loops:=λk=>match k with|2=>some {cut:=Eo,alts:=[.ret, .exit 0],F:=iI}|7=>some {cut:=KK,alts:=[.ret, .exit 2],F:=ga}|_=>none}
theorem ng:af prog ED:=aJ
theorem C6(C:Ctx)(hP:C.P=prog)(hN:C.N=56/\Fx C aP):aD C (aj (aj (ah Tryz.f134) 0) 0) (sh:=NK) {cut:=KK,alts:=[.ret, .exit 2],F:=ga}:=
 lpB (X:=SS) ga.partial_correctness hP hN Ty.mixed ng (bL (by kernel_rfl)) λF v=>by kernel_rfl
theorem C5(C:Ctx)(hP:C.P=prog)(hN:C.N=56/\Fx C aP):aD C (aj (ah Tryz.f134) 0) (sh:=NK) {cut:=Eo,alts:=[.ret, .exit 0],F:=iI}:=
 lpB (X:=SS) iI.partial_correctness hP hN Ty.mixed ng (gq (by kernel_rfl) (by kernel_rfl) (C6 C hP hN)) λF v=>by kernel_rfl
theorem Bc:aA prog 134 HB Ad:=fnA SS Tryz.func134 (by kernel_rfl) Ty.mixed ng rfl rfl rfl (λv=>by kernel_rfl) λC hP hN=>gq (by kernel_rfl) (by kernel_rfl) (C5 C hP hN)
def pz:Cut SN:=⟨[(0, .bp 100000 0),(2, .bp 2 0),(3, .bp 3 0)],[(100000, .box none [.dat (.sl .str), .vh 100001, .dat .bool]),(2, .st .itemT),(3, .st .itemT),(100001, .vec 44 (.st .itemT))]⟩
def dW:Cut SN:=⟨[(0, .bp 100000 0),(2, .bp 2 0)],[(100000, .box none [.dat (.sl .str), .vh 100001, .dat .bool]),(100001, .vec 44 (.st .itemT)),(2, .st .itemT)]⟩
def Du:az vw:={rcut:=dW}
def rq:Sig vw:={params:=[.bp 100000 0],objs:=[(100000, .box none [.dat (.sl .str), .vh 100001, .dat .bool]),(100001, .vec 44 (.st .itemT))],rcut:=dW,rvars:=[.cell 2 44],keep:=[100000,100001]}
noncomputable def fI(v:(List ByteArray)×Bool×(List Item)×Unit):Option ((List ByteArray)×Bool×(List Item)×Item×Unit):=aM (Vp #[35],v.1,v.2.1,v.2.2.1,())>>=λx1=>if x1.2.2.1.length=v.2.2.1.length then aM (Vp #[100,101,102,105,110,101],x1.1,x1.2.1,x1.2.2.1,())>>=λx2=>if x2.2.2.1.length=x1.2.2.1.length then bm (x2.1,x2.2.1,x2.2.2.1,())>>=λx3=>if x3.2.2.2.1.length=x2.2.2.1.length then bV (Vp #[45],x3.2.1,x3.2.2.1,x3.2.2.2.1,())>>=λx4=>if x4.2.2.2.1.length=x3.2.2.2.1.length then eE (x4.2.1,x4.2.2.1,x4.2.2.2.1,())>>=λx5=>if x5.2.2.2.1.length=x4.2.2.2.1.length then(if x4.1=true then some ((x5.2.1,x5.2.2.1,Item.mk 0 (Vp #[]) (0:Int) [] (aa.mk 0 0 false []),Item.mk (Item.mk 0 x3.1 (0:Int) [] (aa.mk 0 0 false [])).kind (Item.mk 0 x3.1 (0:Int) [] (aa.mk 0 0 false [])).name0 (i64.wrap ((0:Int) -x5.1)) (Item.mk 0 x3.1 (0:Int) [] (aa.mk 0 0 false [])).names (aa.mk (Item.mk 0 x3.1 (0:Int) [] (aa.mk 0 0 false [])).layout.kind (Item.mk 0 x3.1 (0:Int) [] (aa.mk 0 0 false [])).layout.n (Item.mk 0 x3.1 (0:Int) [] (aa.mk 0 0 false [])).layout.flag (Item.mk 0 x3.1 (0:Int) [] (aa.mk 0 0 false [])).layout.parts),x5.2.2.2.1,()))else some ((x5.2.1,x5.2.2.1,Item.mk 0 (Vp #[]) (0:Int) [] (aa.mk 0 0 false []),Item.mk (Item.mk 0 x3.1 (0:Int) [] (aa.mk 0 0 false [])).kind (Item.mk 0 x3.1 (0:Int) [] (aa.mk 0 0 false [])).name0 x5.1 (Item.mk 0 x3.1 (0:Int) [] (aa.mk 0 0 false [])).names (aa.mk (Item.mk 0 x3.1 (0:Int) [] (aa.mk 0 0 false [])).layout.kind (Item.mk 0 x3.1 (0:Int) [] (aa.mk 0 0 false [])).layout.n (Item.mk 0 x3.1 (0:Int) [] (aa.mk 0 0 false [])).layout.flag (Item.mk 0 x3.1 (0:Int) [] (aa.mk 0 0 false [])).layout.parts),x5.2.2.2.1,())))>>=λx6=>(if x6.2.1=true then some ((x6.1,true,x6.2.2.1,x6.2.2.2.1,x6.2.2.2.2.1,()))else Ad (x6.2.2.2.2.1,x6.2.2.2.1.name0,())>>=λx7=>some ((x6.1,x7.1,x6.2.2.1,x6.2.2.2.1,x6.2.2.2.2.1,())))>>=λx7=>some ((x7.1,x7.2.1,x7.2.2.2.2.1,x7.2.2.2.1,()))else none else none else none else none else none
def nN:al vw:=cO prog 130 gj aM (cO prog 131 eH bm (cO prog 132 eI bV (cO prog 133 lW eE (cP prog 134 HB Ad c0))))
def Ie:Xc vw:={P:=prog,n:=39,call:=nN,pre:=aP,sh:=Du,joins:=λk=>match k with|8=>some (pz,[.norm])|_=>none,regs:=λk=>match k with|8=>some pz|_=>none}
theorem pF:af prog nN:=aN fA (aN eg (aN eh (aN mE (aU Bc rfl rfl aJ))))
theorem uW:aA prog 101 rq fI:=fnA Ie Tryz.func101 (by kernel_rfl) Ty.mixed pF rfl rfl rfl (λv=>by kernel_rfl) λC hP hN=>bL (by kernel_rfl)
def lj:Cut SN:=⟨[(0, .bp 100000 0),(1, .dat (.sl .str)),(4, .dat (.int .i64))],[(100000, .box none [.dat (.sl .str), .vh 100001, .dat .bool]),(100001, .vec 44 (.st .itemT))]⟩
def lk:Cut SN:=⟨[(0, .bp 100000 0),(1, .dat (.sl .str)),(4, .dat (.int .i64)),(5, .dat (.int .i64))],[(100000, .box none [.dat (.sl .str), .vh 100001, .dat .bool]),(100001, .vec 44 (.st .itemT))]⟩
def nE:az vw:={exits:=λid=>match id with|0=>gQ|2=>lj|_=>⟨[],[]⟩,rcut:=gQ}
def iV:Sig vw:={params:=[.bp 100000 0, .dat (.sl .str)],objs:=[(100000, .box none [.dat (.sl .str), .vh 100001, .dat .bool]),(100001, .vec 44 (.st .itemT))],rcut:=gQ,rvars:=[],keep:=[100000,100001]}
noncomputable def ck(v:(List ByteArray)×Int×Int×(List ByteArray)×Bool×(List Item)×Unit):Option (((List ByteArray)×Int×(List ByteArray)×Bool×(List Item)×Unit)):=if decide (v.2.2.1<v.2.1)=true then(if 0<=v.2.1 then v.1[v.2.1.toNat]?>>=λx1=>if 0<=v.2.2.1 then v.1[v.2.2.1.toNat]?>>=λx2=>if(x1.toList==x2.toList)=true then some ((v.1,v.2.1,v.2.2.1,v.2.2.2.1,true,v.2.2.2.2.2.1,()))else some ((v.1,v.2.1,v.2.2.1,v.2.2.2.1,v.2.2.2.2.1,v.2.2.2.2.2.1,()))else none else none)>>=λx1=>ck (x1.1,x1.2.1,i64.wrap (x1.2.2.1+1),x1.2.2.2.1,x1.2.2.2.2.1,x1.2.2.2.2.2.1,())else some ((v.1,v.2.1,v.2.2.2.1,v.2.2.2.2.1,v.2.2.2.2.2.1,())) partial_fixpoint
noncomputable def cj(v:(List ByteArray)×Int×(List ByteArray)×Bool×(List Item)×Unit):Option (((List ByteArray)×Bool×(List Item)×Unit)):=if decide (v.2.1<(↑v.1.length:Int))=true then ck (v.1,v.2.1,(0:Int),v.2.2.1,v.2.2.2.1,v.2.2.2.2.1,())>>=λx1=>cj (x1.1,i64.wrap (x1.2.1+1),x1.2.2.1,x1.2.2.2.1,x1.2.2.2.2.1,())else some ((v.2.2.1,v.2.2.2.1,v.2.2.2.2.1,())) partial_fixpoint
noncomputable def dB(v:(List ByteArray)×(List ByteArray)×Bool×(List Item)×Unit):Option ((List ByteArray)×Bool×(List Item)×Unit):=cj (v.1,(0:Int),v.2.1,v.2.2.1,v.2.2.2.1,())>>=λx1=>some ((x1.1,x1.2.1,x1.2.2.1,()))
def nZ:al vw:=c0
def r_:Xc vw:={P:=prog,n:=29,call:=nZ,pre:=aP,sh:=nE,joins:=λk=>match k with|5=>some (lk,[.norm])|_=>none,loops:=λk=>match k with|1=>some {cut:=lj,alts:=[.exit 0],F:=cj}|4=>some {cut:=lk,alts:=[.exit 2],F:=ck}|_=>none}
theorem fW:af prog nZ:=aJ
theorem qL(C:Ctx)(hP:C.P=prog)(hN:C.N=29/\Fx C aP):aD C (aj (aj (ah Tryz.f135) 0) 0) (sh:=nE) {cut:=lk,alts:=[.exit 2],F:=ck}:=
 lpB (X:=r_) ck.partial_correctness hP hN Ty.mixed fW (bL (by kernel_rfl)) λF v=>by kernel_rfl
theorem qK(C:Ctx)(hP:C.P=prog)(hN:C.N=29/\Fx C aP):aD C (aj (ah Tryz.f135) 0) (sh:=nE) {cut:=lj,alts:=[.exit 0],F:=cj}:=
 lpB (X:=r_) cj.partial_correctness hP hN Ty.mixed fW (gq (by kernel_rfl) (by kernel_rfl) (qL C hP hN)) λF v=>by kernel_rfl
theorem iJ:aA prog 135 iV dB:=fnA r_ Tryz.func135 (by kernel_rfl) Ty.mixed fW rfl rfl rfl (λv=>by kernel_rfl) λC hP hN=>gq (by kernel_rfl) (by kernel_rfl) (qK C hP hN)
def dl:Cut SN:=⟨[(0, .bp 100000 0),(2, .bp 2 0),(3, .bp 3 0)],[(100000, .box none [.dat (.sl .str), .vh 100001, .dat .bool]),(2, .st .itemT),(3, .box none [.dat (.int .i64), .dat .str, .dat (.int .i64), .vh 3033, .dat (.int .i64), .dat (.int .i64), .dat .bool, .vh 3037]),(100001, .vec 44 (.st .itemT)),(3033, .vec 9 .str),(3037, .vec 42 (.st .layoutT))]⟩
def ji:Cut SN:=⟨[(0, .bp 100000 0),(2, .bp 2 0),(3, .bp 3 0),(4, .dat (.int .i64))],[(100000, .box none [.dat (.sl .str), .vh 100001, .dat .bool]),(2, .st .itemT),(3, .box none [.dat (.int .i64), .dat .str, .dat (.int .i64), .dat (.sl .str), .dat (.int .i64), .dat (.int .i64), .dat .bool, .vh 3037]),(100001, .vec 44 (.st .itemT)),(3037, .vec 42 (.st .layoutT))]⟩
def yY:Cut SN:=⟨[(0, .bp 100000 0),(2, .bp 2 0),(3, .bp 3 0)],[(100000, .box none [.dat (.sl .str), .vh 100001, .dat .bool]),(2, .st .itemT),(3, .box none [.dat (.int .i64), .dat .str, .dat (.int .i64), .dat (.sl .str), .dat (.int .i64), .dat (.int .i64), .dat .bool, .vh 3037]),(100001, .vec 44 (.st .itemT)),(3037, .vec 42 (.st .layoutT))]⟩
def nD:az vw:={exits:=λid=>match id with|0=>dl|2=>yY|_=>⟨[],[]⟩,rcut:=dW}
def lV:Nat->Bool:=λk=>match k with|135=>true|_=>false
def ru:Sig vw:={params:=[.bp 100000 0],objs:=[(100000, .box none [.dat (.sl .str), .vh 100001, .dat .bool]),(100001, .vec 44 (.st .itemT))],rcut:=dW,rvars:=[.cell 2 44],keep:=[100000,100001]}
noncomputable def cf(v:(List ByteArray)×Bool×Item×Int×ByteArray×Int×Int×Int×Bool×(List Item)×(List ByteArray)×(List aa)×Unit):Option (((List ByteArray)×Bool×Item×Int×ByteArray×Int×Int×Int×Bool×(List Item)×(List ByteArray)×(List aa)×Unit)):=bV (Vp #[44],v.1,v.2.1,v.2.2.2.2.2.2.2.2.2.1,())>>=λx1=>if x1.2.2.2.1.length=v.2.2.2.2.2.2.2.2.2.1.length then if x1.1=true then bm (x1.2.1,x1.2.2.1,x1.2.2.2.1,())>>=λx2=>if x2.2.2.2.1.length=x1.2.2.2.1.length then if v.2.2.2.2.2.2.2.2.2.2.1.length+[x2.1].length<=4294967296 then cf (x2.2.1,x2.2.2.1,v.2.2.1,v.2.2.2.1,v.2.2.2.2.1,v.2.2.2.2.2.1,v.2.2.2.2.2.2.1,v.2.2.2.2.2.2.2.1,v.2.2.2.2.2.2.2.2.1,x2.2.2.2.1,v.2.2.2.2.2.2.2.2.2.2.1++[x2.1],v.2.2.2.2.2.2.2.2.2.2.2.1,())else none else none else some ((x1.2.1,x1.2.2.1,v.2.2.1,v.2.2.2.1,v.2.2.2.2.1,v.2.2.2.2.2.1,v.2.2.2.2.2.2.1,v.2.2.2.2.2.2.2.1,v.2.2.2.2.2.2.2.2.1,x1.2.2.2.1,v.2.2.2.2.2.2.2.2.2.2.1,v.2.2.2.2.2.2.2.2.2.2.2.1,()))else none partial_fixpoint
noncomputable def bS(v:Int×(List ByteArray)×Bool×Item×Int×ByteArray×Int×(List ByteArray)×Int×Int×Bool×(List Item)×(List aa)×Unit):Option (((List ByteArray)×Bool×Item×Int×ByteArray×Int×(List ByteArray)×Int×Int×Bool×(List Item)×(List aa)×Unit)):=if decide (v.1<(↑v.2.2.2.2.2.2.2.1.length:Int))=true then(if v.2.2.1=true then some ((v.1,v.2.1,true,v.2.2.2.1,v.2.2.2.2.1,v.2.2.2.2.2.1,v.2.2.2.2.2.2.1,v.2.2.2.2.2.2.2.1,v.2.2.2.2.2.2.2.2.1,v.2.2.2.2.2.2.2.2.2.1,v.2.2.2.2.2.2.2.2.2.2.1,v.2.2.2.2.2.2.2.2.2.2.2.1,v.2.2.2.2.2.2.2.2.2.2.2.2.1,()))else if 0<=v.1 then v.2.2.2.2.2.2.2.1[v.1.toNat]?>>=λx1=>Ad (v.2.2.2.2.2.2.2.2.2.2.2.1,x1,())>>=λx2=>some ((v.1,v.2.1,x2.1,v.2.2.2.1,v.2.2.2.2.1,v.2.2.2.2.2.1,v.2.2.2.2.2.2.1,v.2.2.2.2.2.2.2.1,v.2.2.2.2.2.2.2.2.1,v.2.2.2.2.2.2.2.2.2.1,v.2.2.2.2.2.2.2.2.2.2.1,v.2.2.2.2.2.2.2.2.2.2.2.1,v.2.2.2.2.2.2.2.2.2.2.2.2.1,()))else none)>>=λx1=>bS (i64.wrap (x1.1+1),x1.2.1,x1.2.2.1,x1.2.2.2.1,x1.2.2.2.2.1,x1.2.2.2.2.2.1,x1.2.2.2.2.2.2.1,x1.2.2.2.2.2.2.2.1,x1.2.2.2.2.2.2.2.2.1,x1.2.2.2.2.2.2.2.2.2.1,x1.2.2.2.2.2.2.2.2.2.2.1,x1.2.2.2.2.2.2.2.2.2.2.2.1,x1.2.2.2.2.2.2.2.2.2.2.2.2.1,())else some ((v.2.1,v.2.2.1,v.2.2.2.1,v.2.2.2.2.1,v.2.2.2.2.2.1,v.2.2.2.2.2.2.1,v.2.2.2.2.2.2.2.1,v.2.2.2.2.2.2.2.2.1,v.2.2.2.2.2.2.2.2.2.1,v.2.2.2.2.2.2.2.2.2.2.1,v.2.2.2.2.2.2.2.2.2.2.2.1,v.2.2.2.2.2.2.2.2.2.2.2.2.1,())) partial_fixpoint
noncomputable def fJ(v:(List ByteArray)×Bool×(List Item)×Unit):Option ((List ByteArray)×Bool×(List Item)×Item×Unit):=aM (Vp #[101,110,117,109],v.1,v.2.1,v.2.2.1,())>>=λx1=>if x1.2.2.1.length=v.2.2.1.length then(bm (x1.1,x1.2.1,x1.2.2.1,())>>=λx2=>if x2.2.2.2.1.length=x1.2.2.1.length then some ((x2.2.1,x2.2.2.1,Item.mk 0 (Vp #[]) (0:Int) [] (aa.mk 0 0 false []),(1:Int),x2.1,(0:Int),(0:Int),(0:Int),false,x2.2.2.2.1,[],[],()))else none)>>=λx2=>aM (Vp #[123],x2.1,x2.2.1,x2.2.2.2.2.2.2.2.2.2.1,())>>=λx3=>if x3.2.2.1.length=x2.2.2.2.2.2.2.2.2.2.1.length then bm (x3.1,x3.2.1,x3.2.2.1,())>>=λx4=>if x4.2.2.2.1.length=x3.2.2.1.length then if x2.2.2.2.2.2.2.2.2.2.2.1.length+[x4.1].length<=4294967296 then cf (x4.2.1,x4.2.2.1,x2.2.2.1,x2.2.2.2.1,x2.2.2.2.2.1,x2.2.2.2.2.2.1,x2.2.2.2.2.2.2.1,x2.2.2.2.2.2.2.2.1,x2.2.2.2.2.2.2.2.2.1,x4.2.2.2.1,x2.2.2.2.2.2.2.2.2.2.2.1++[x4.1],x2.2.2.2.2.2.2.2.2.2.2.2.1,())>>=λx5=>aM (Vp #[125],x5.1,x5.2.1,x5.2.2.2.2.2.2.2.2.2.1,())>>=λx6=>if x6.2.2.1.length=x5.2.2.2.2.2.2.2.2.2.1.length then aM (Vp #[59],x6.1,x6.2.1,x6.2.2.1,())>>=λx7=>if x7.2.2.1.length=x6.2.2.1.length then dB (x5.2.2.2.2.2.2.2.2.2.2.1,x7.1,x7.2.1,x7.2.2.1,())>>=λx8=>if x8.2.2.1.length=x7.2.2.1.length then bS ((0:Int),x8.1,x8.2.1,x5.2.2.1,x5.2.2.2.1,x5.2.2.2.2.1,x5.2.2.2.2.2.1,x5.2.2.2.2.2.2.2.2.2.2.1,x5.2.2.2.2.2.2.1,x5.2.2.2.2.2.2.2.1,x5.2.2.2.2.2.2.2.2.1,x8.2.2.1,x5.2.2.2.2.2.2.2.2.2.2.2.1,())>>=λx9=>some ((x9.1,x9.2.1,x9.2.2.2.2.2.2.2.2.2.2.1,Item.mk x9.2.2.2.1 x9.2.2.2.2.1 x9.2.2.2.2.2.1 x9.2.2.2.2.2.2.1 (aa.mk x9.2.2.2.2.2.2.2.1 x9.2.2.2.2.2.2.2.2.1 x9.2.2.2.2.2.2.2.2.2.1 x9.2.2.2.2.2.2.2.2.2.2.2.1),()))else none else none else none else none else none else none else none
def nO:al vw:=cO prog 130 gj aM (cO prog 131 eH bm (cO prog 132 eI bV (cP prog 134 HB Ad (cO prog 135 iV dB c0))))
def r9:Xc vw:={P:=prog,n:=63,nm:=λd=>match d with|9=>40009|_=>d,call:=nO,pre:=lV,sh:=nD,regs:=λk=>match k with|2=>some dl|13=>some ji|_=>none,loops:=λk=>match k with|5=>some {cut:=dl,alts:=[.exit 0],F:=cf}|11=>some {cut:=ji,alts:=[.exit 2],F:=bS}|_=>none}
theorem fV:af prog nO:=aN fA (aN eg (aN eh (aU Bc rfl rfl (aN iJ aJ))))
theorem qD(C:Ctx)(hP:C.P=prog)(hN:C.N=63/\Fx C lV):aD C (aj (ah Tryz.f102) 0) (sh:=nD) {cut:=dl,alts:=[.exit 0],F:=cf}:=
 lpB (X:=r9) cf.partial_correctness hP hN Ty.mixed fV (bL (by kernel_rfl)) λF v=>by kernel_rfl
theorem oT(C:Ctx)(hP:C.P=prog)(hN:C.N=63/\Fx C lV):aD C (aj (ah Tryz.f102) 1) (sh:=nD) {cut:=ji,alts:=[.exit 2],F:=bS}:=
 lpB (X:=r9) bS.partial_correctness hP hN Ty.mixed fV (bL (by kernel_rfl)) λF v=>by kernel_rfl
theorem uX:aA prog 102 ru fJ:=fnA r9 Tryz.func102 (by kernel_rfl) Ty.mixed fV rfl rfl rfl (λv=>by kernel_rfl) λC hP hN=>QZ (by kernel_rfl) (by kernel_rfl) (by kernel_rfl) (qD C hP hN) (oT C hP hN)
end Go.Proofs.YtpelkenpapfadaaGreatDoor
end
