/-
  Texts of this claim, joined by a program of mine: what the theorem uses.
-/
import Derived.Test.YtpndmanbfleadaaGreatDoorPkF
import Derived.Test.YtpndmanbfleadaaGreatDoorPkC
open ByteArray renaming mk→NA
open List renaming all_eq_true→NM,length_nil→OJ,mem_of_getElem?→NJ
open Nat renaming le_refl→NY,zero_add→N2
open Sum renaming inl→OC,inr→OR
noncomputable section
set_option linter.unusedVariables false
section
namespace Go.Proofs.YtpndmanbfleadaaGreatDoor
open Go.Awp Go.Tx
open IntKind (i32)
open IntKind (u8)
open IntKind (i64)
open Go.Proofs.Tryz (prog)
set_option maxHeartbeats 4000000
set_option maxRecDepth 100000
abbrev Oq8:OPt SN:= .vec 5 (.int .u8)
def xG:Cut SN:=⟨[(0, .bp 100000 0)],[(100000, .box (some 108) [.np 100000, .vh 3001]),(3001,Oq8)]⟩
def vW:Sig vw:={params:=[.bp 100000 0],objs:=[(100000, .box (some 108) [.np 100000, .vh 100001]),(100001,Oq8)],rcut:=xG,rvars:=[],keep:=[100000,3001]}
noncomputable def fV(v:Bool×(List Int)×Unit):Option (Bool×(List Int)×Unit):=some (true,v.2.1,())
theorem kD:bc prog 120 vW fV:=λv r x h hx=>by
 obtain⟨bl,xs,u⟩:=v
 cases h;cases hx
 exact am (by kernel_rfl) (cX.copyCheck (P:=prog) (f:=120) (T:=108) (rest:=[]) (by kernel_rfl)
  (Any.Builder_copyCheck_fresh (P:=prog) (ρ:=Tryz.lays159_ren) {Tryz.lays159 with} Tryz.Builder_Extra_159.toX72)
  (Any.Builder_copyCheck_used (P:=prog) (ρ:=Tryz.lays159_ren) {Tryz.lays159 with} Tryz.Builder_Extra_159.toX72)
  (g:=100000) (m:=100001) (c:=3001) (l:=xs.length) (bl:=bl) (e:=5) (sz:=1) (rows:=xs.map λy=>Go.Tx.aT szN Al (.int .u8) y) (by decide) (by decide) (by decide))
abbrev Dq1:Pt SN:= .dat (.int .i64)
def iB:Cut SN:=⟨[(0, .bp 100000 0),(4,Dq1),(5, .nif)],[(100000, .box (some 108) [.np 100000, .vh 3001]),(3001,Oq8)]⟩
def yY:ba vw:={rcut:=iB}
def vJ:Nat->Bool:=λ_=>false
abbrev Dq5:Pt SN:= .dat .str
def oD:Sig vw:={params:=[.bp 100000 0,Dq5],objs:=[(100000, .box (some 108) [.np 100000, .vh 100001]),(100001,Oq8)],rcut:=iB,rvars:=[.tmp 4, .tmp 5],keep:=[100000,3001]}
abbrev Ku:=ByteArray×Bool×(List Int)×Unit
abbrev FP:=Int×Bool×(List Int)×Unit
noncomputable def iM(v:Ku):Option (FP):=fV v.2>>=λx1=>if x1.2.1.length+v.1.size<=(4294967296:Nat)then some (((↑v.1.size:Int),x1.1,x1.2.1++Bs.ints v.1,()))else none
def lR:=kO kD k0
def CN:Xc vw:={P:=prog,n:=19,call:=lR.1,pre:=vJ,sh:=yY}
theorem rn:bc prog 100 oD iM:=λv r x h hx=>
 bj (X:=CN) (sig:=oD) rfl Tryz.func100 (c:=aa Tryz.f100) (by kernel_rfl) Tryz.ntmps100 (by kernel_rfl) (by kernel_rfl) rfl Ty.mixed lR.2 rfl (λC hP hN=>(au (am (by kernel_rfl) trivial))) (am (by kernel_rfl) h) x hx
abbrev Dq4:Pt SN:= .dat .bool
def m7:Cut SN:=⟨[(4,Dq4)],[]⟩
def JB:Sig vw:=sg [Dq5,Dq5] m7 [.tmp 4]
noncomputable def Dy(v:ByteArray×ByteArray×Unit):Option (Bool×Unit):=match v.2.1.data.toList with|[c]=>some (decide (0<=Lib.indexByte v.1.data.toList c),())|_=>none
theorem Dz:bc prog 101 JB Dy:=λv r x h hx=>by
 obtain⟨s,c,u⟩:=v
 unfold Dy at h
 simp only at h
 split at h
 ·rename_i c0 hc
  obtain rfl:c=⟨#[c0]⟩:=by
   obtain⟨⟨l⟩⟩:=c
   simp only at hc
   rw[hc]
  cases h;cases hx
  exact am (by kernel_rfl) (cX.pure (P:=prog) (f:=101) (args:=[.d (.v (.string s)), .d (.v (.string ⟨#[c0]⟩))]) (r:= .d (.v (.bool (decide (0<=Lib.indexByte s.data.toList c0))))) (by kernel_rfl) λE M w vs hg hm hv=>by
   obtain⟨v1,v2,rfl,h1,h2⟩:=sZ hv
   rw[h1.dv,h2.dv]
   exact(Tryz.strings_Contains_one s c0 w).mono λe w' ⟨he,hw⟩=>⟨_,he, .d (.v _),hw▸Go.RowKit.Below.refl _ _⟩)
 ·cases h
def pK:Cut SN:=⟨[(2,Dq4)],[]⟩
def JS:Sig vw:=sg [Dq5] pK [.tmp 2]
noncomputable def DF(v:ByteArray×Unit):Option (Bool×Unit):=if v.1.size<=9223372036854775807 then some (Lib.validD v.1.data.toList,())else none
theorem rC:bc prog 76 JS DF:=λv r x h hx=>by
 obtain⟨s,u⟩:=v
 unfold DF at h
 split at h
 ·rename_i hc
  simp only at hc
  cases h;cases hx
  exact am (by kernel_rfl) (cX.pure (P:=prog) (f:=76) (args:=[.d (.v (.string s))]) (r:= .d (.v (.bool (Lib.validD s.data.toList)))) (by kernel_rfl) λE M w vs hg hm hv=>by
   obtain⟨v1,rfl,h1⟩:=dP hv
   rw[h1.dv]
   exact(Tryz.utf8_ValidString s w hc (Cr hg hm)).mono λe w' ⟨he,hw⟩=>⟨_,he, .d (.v _),hw⟩)
 ·cases h
def Nh:ba vw:={rcut:=pK}
def LD:Nat->Bool:=λ_=>false
def HC:Sig vw:=sg [Dq5] pK [.tmp 2]
noncomputable def DE(v:ByteArray×Unit):Option (Bool×Unit):=DF v>>=λx1=>some ((!x1.1,()))
def Fo:=kP rC k0
def x75:Xc vw:={P:=prog,n:=6,call:=Fo.1,pre:=LD,sh:=Nh}
theorem Bx:bc prog 75 HC DE:=λv r x h hx=>
 bj (X:=x75) (sig:=HC) rfl Tryz.func75 (c:=aa Tryz.f75) (by kernel_rfl) Tryz.ntmps75 (by kernel_rfl) (by kernel_rfl) rfl Ty.mixed Fo.2 rfl (λC hP hN=>(au (am (by kernel_rfl) trivial))) (am (by kernel_rfl) h) x hx
abbrev Dq2:Pt SN:= .dat (.sl .str)
def m8:Cut SN:=⟨[(0,Dq2),(1, .fn 75 [] []),(7,Dq1),(8,Dq1)],[]⟩
def eu:Cut SN:=⟨[],[]⟩
def cZ:Cut SN:=⟨[(4,Dq1)],[]⟩
def rR:ba vw:=shL [(0,eu)] cZ
def tZ:Nat->Bool:=λ_=>false
def ue:Sig vw:=sg [Dq2, .fn 75 [] []] cZ [.tmp 4]
noncomputable def bu(v:(List ByteArray)×Int×Int×Unit):Option (((Int×Unit)⊕(Unit))):=if decide (v.2.2.1<v.2.1)=true then if(0:Int)<=v.2.2.1 then v.1[v.2.2.1.toNat]?>>=λx1=>DE (x1,())>>=λx2=>if x2.1=true then some (OC v.2.2)else bu (v.1,v.2.1,i64.wrap (v.2.2.1+(1:Int)),())else none else some (OR ()) partial_fixpoint
noncomputable def gy(v:(List ByteArray)×Unit):Option (Int×Unit):=bu (v.1,(↑v.1.length:Int),(0:Int),())>>=λx1=>match x1 with| .inl y1=>some y1| .inr y1=>some (((-1:Int),()))
def lh:=kP Bx k0
def jX:Xc vw:={P:=prog,n:=19,call:=lh.1,pre:=tZ,sh:=rR,loops:=λk=>match k with|2=>some {cut:=m8,alts:=[.ret, .exit 0],F:=bu}|_=>none}
theorem ro(C:Ctx)(hP:C.P=prog)(hN:C.N=19/\Fx C tZ):bC C (ae (aa Tryz.f103) 0) (sh:=rR) {cut:=m8,alts:=[.ret, .exit 0],F:=bu}:=
 bu.partial_correctness (motive:=λv out=>d6 C (ae (aa Tryz.f103) 0) (Go.Tx.az vw (bh vw m8 v)) (eF rR [.ret, .exit 0] out)) λF ih v out h=>
  aH (X:=jX) (b:=(ae (aa Tryz.f103) 0)) hP hN Ty.mixed lh.2 (au (X:=jX) (c:=(ae (aa Tryz.f103) 0)) (am (by kernel_rfl:True=bv (ax C (jX)) (aw (ae (aa Tryz.f103) 0))) trivial)) ih (am (by kernel_rfl) h)
theorem vq:bc prog 103 ue gy:=λv r x h hx=>
 bj (X:=jX) (sig:=ue) rfl Tryz.func103 (c:=aa Tryz.f103) (by kernel_rfl) Tryz.ntmps103 (by kernel_rfl) (by kernel_rfl) rfl Ty.mixed lh.2 rfl (λC hP hN=>(au (am (by kernel_rfl:bv (ax C (jX)) [(ae (aa Tryz.f103) 0)]=bv (ax C (jX)) (aw (aa Tryz.f103))) ⟨bd (X:=jX) (b:=(ae (aa Tryz.f103) 0)) (by kernel_rfl) (ro C hP hN),trivial⟩))) (am (by kernel_rfl) h) x hx
abbrev Dq6:Pt SN:= .dat (.sl (.st .tagT))
def gR:Cut SN:=⟨[(0,Dq6),(1, .fn 52 [] []),(7,Dq1),(8,Dq1)],[]⟩
def rS:ba vw:=shL [(0,eu)] cZ
def t1:Nat->Bool:=λ_=>false
def cV:Sig vw:=sg [Dq6, .fn 52 [] []] cZ [.tmp 4]
def xM:Cut SN:=⟨[(1, .bp 1 0),(3, .mp 6),(8,Dq2),(9,Dq1),(10,Dq1)],[(1, .st .tagT),(6, .map .str .bool)]⟩
def F4:Cut SN:=⟨[(1, .bp 1 0)],[(1, .st .tagT)]⟩
def Kn:ba vw:=shL [(0,F4)] pK
def Hr:Nat->Bool:=λ_=>false
abbrev Dq3:Pt SN:= .dat (.st .tagT)
def mA:Sig vw:=sg [Dq3] pK [.tmp 2]
def Hw:ba vw:={rcut:=m7}
def D3:Nat->Bool:=λ_=>false
def dU:Sig vw:=sg [Dq6, .fn 52 [] []] m7 [.tmp 4]
abbrev Tq6:=(List ByteArray)×Int×Int×Tag×(List (ByteArray×Bool))×Unit
noncomputable def bS(v:Tq6):Option (((Bool×Unit)⊕(Tag×Unit))):=if decide (v.2.2.1<v.2.1)=true then if(0:Int)<=v.2.2.1 then v.1[v.2.2.1.toNat]?>>=λx1=>if(Mp.get Mp.seq x1 v.2.2.2.2.1).getD false=true then some (OC (true,()))else bS (v.1,v.2.1,i64.wrap (v.2.2.1+(1:Int)),v.2.2.2.1,Mp.set Mp.seq Mp.slt x1 true v.2.2.2.2.1,())else none else some (OR (v.2.2.2.1,())) partial_fixpoint
abbrev Tq4:=(List Tag)×Int×Int×Unit
mutual
noncomputable def aM(v:Tq4):Option (((Int×Unit)⊕(Unit))):=if decide (v.2.2.1<v.2.1)=true then if(0:Int)<=v.2.2.1 then v.1[v.2.2.1.toNat]?>>=λx1=>n_52 (x1,())>>=λx2=>if x2.1=true then some (OC v.2.2)else aM (v.1,v.2.1,i64.wrap (v.2.2.1+(1:Int)),())else none else some (OR ()) partial_fixpoint
noncomputable def n_52(v:Tag×Unit):Option (Bool×Unit):=bS (v.1.names,(↑v.1.names.length:Int),(0:Int),v.1,[],())>>=λx1=>match x1 with| .inl y1=>some y1| .inr y1=>n_78c52 (y1.1.parts,())>>=λx2=>some (x2) partial_fixpoint
noncomputable def n_78c52(v:(List Tag)×Unit):Option (Bool×Unit):=n_104c52 v>>=λx1=>some ((decide (x1.1>=(0:Int)),())) partial_fixpoint
noncomputable def n_104c52(v:(List Tag)×Unit):Option (Int×Unit):=aM (v.1,(↑v.1.length:Int),(0:Int),())>>=λx1=>match x1 with| .inl y1=>some y1| .inr y1=>some (((-1:Int),())) partial_fixpoint
end
def li(bS:Tq6->Option (((Bool×Unit)⊕(Tag×Unit))))(aM:Tq4->Option (((Int×Unit)⊕(Unit))))(n_52:Tag×Unit->Option (Bool×Unit))(n_78c52:(List Tag)×Unit->Option (Bool×Unit))(n_104c52:(List Tag)×Unit->Option (Int×Unit)):bm vw:=λA fid args S k=>match fid with|52=>bg prog mA n_52 A args S k|_=>none
def dY(bS:Tq6->Option (((Bool×Unit)⊕(Tag×Unit))))(aM:Tq4->Option (((Int×Unit)⊕(Unit))))(n_52:Tag×Unit->Option (Bool×Unit))(n_78c52:(List Tag)×Unit->Option (Bool×Unit))(n_104c52:(List Tag)×Unit->Option (Int×Unit)):Xc vw:={P:=prog,n:=19,call:=li bS aM n_52 n_78c52 n_104c52,pre:=t1,sh:=rS,loops:=λk=>match k with|2=>some {cut:=gR,alts:=[.ret, .exit 0],F:=aM}|_=>none}
def z7(bS:Tq6->Option (((Bool×Unit)⊕(Tag×Unit))))(aM:Tq4->Option (((Int×Unit)⊕(Unit))))(n_52:Tag×Unit->Option (Bool×Unit))(n_78c52:(List Tag)×Unit->Option (Bool×Unit))(n_104c52:(List Tag)×Unit->Option (Int×Unit)):bm vw:=λA fid args S k=>match fid with|78=>bg prog dU n_78c52 A args S k|_=>none
def x52(bS:Tq6->Option (((Bool×Unit)⊕(Tag×Unit))))(aM:Tq4->Option (((Int×Unit)⊕(Unit))))(n_52:Tag×Unit->Option (Bool×Unit))(n_78c52:(List Tag)×Unit->Option (Bool×Unit))(n_104c52:(List Tag)×Unit->Option (Int×Unit)):Xc vw:={P:=prog,n:=23,call:=z7 bS aM n_52 n_78c52 n_104c52,pre:=Hr,sh:=Kn,loops:=λk=>match k with|3=>some {cut:=xM,alts:=[.ret, .exit 0],F:=bS}|_=>none}
def sD(bS:Tq6->Option (((Bool×Unit)⊕(Tag×Unit))))(aM:Tq4->Option (((Int×Unit)⊕(Unit))))(n_52:Tag×Unit->Option (Bool×Unit))(n_78c52:(List Tag)×Unit->Option (Bool×Unit))(n_104c52:(List Tag)×Unit->Option (Int×Unit)):bm vw:=λA fid args S k=>match fid with|104=>bg prog cV n_104c52 A args S k|_=>none
def qB(bS:Tq6->Option (((Bool×Unit)⊕(Tag×Unit))))(aM:Tq4->Option (((Int×Unit)⊕(Unit))))(n_52:Tag×Unit->Option (Bool×Unit))(n_78c52:(List Tag)×Unit->Option (Bool×Unit))(n_104c52:(List Tag)×Unit->Option (Int×Unit)):Xc vw:={P:=prog,n:=9,call:=sD bS aM n_52 n_78c52 n_104c52,pre:=D3,sh:=Hw}
abbrev rj(v:Tq6)(r:((Bool×Unit)⊕(Tag×Unit))):Prop:=(λv out=>∀C:Ctx,C.P=prog->C.N=23/\Fx C Hr->d6 C (ae (aa Tryz.f52) 0) (Go.Tx.az vw (bh vw xM v)) (eF Kn [.ret, .exit 0] out)) v r
theorem Gf(f0:Tq6->Option (((Bool×Unit)⊕(Tag×Unit))))(h0:∀v r,f0 v=some r->rj v r):ay prog (x52 f0 (λ_=>none) (λ_=>none) (λ_=>none) (λ_=>none)).call:=(by
 intro A fid args S dst k r h
 unfold x52 z7 at h
 simp only at h
 split at h
 ·exact aq ((λv r x h hx=>by cases h)) rfl rfl h
 ·cases h)
theorem HO(f0:Tq6->Option (((Bool×Unit)⊕(Tag×Unit))))(h0:∀v r,f0 v=some r->rj v r)(v:Tq6)(r:((Bool×Unit)⊕(Tag×Unit)))(h:exL (x52 f0 (λ_=>none) (λ_=>none) (λ_=>none) (λ_=>none)) (ae (aa Tryz.f52) 0) xM [.ret, .exit 0] f0 v=some r):rj v r:=λC hP hN=>aH (X:=x52 f0 (λ_=>none) (λ_=>none) (λ_=>none) (λ_=>none)) (b:=(ae (aa Tryz.f52) 0)) hP hN Ty.mixed (Gf f0 h0) (au (X:=x52 f0 (λ_=>none) (λ_=>none) (λ_=>none) (λ_=>none)) (c:=(ae (aa Tryz.f52) 0)) (am (by kernel_rfl:True=bv (ax C (x52 f0 (λ_=>none) (λ_=>none) (λ_=>none) (λ_=>none))) (aw (ae (aa Tryz.f52) 0))) trivial)) (cut:=xM) (alts:=[.ret, .exit 0]) (F:=f0) (λv out h=>h0 v out h C hP hN) h
theorem Bq:∀v out,bS v=some out->(λv out=>∀C:Ctx,C.P=prog->C.N=23/\Fx C Hr->d6 C (ae (aa Tryz.f52) 0) (Go.Tx.az vw (bh vw xM v)) (eF Kn [.ret, .exit 0] out)) v out:=(bS.partial_correctness (motive:=rj) (λf0 h0 v r h=>HO f0 h0 v r (am (by kernel_rfl) h)))
abbrev dp(v:Tq4)(r:((Int×Unit)⊕(Unit))):Prop:=(λv out=>∀C:Ctx,C.P=prog->C.N=19/\Fx C t1->d6 C (ae (aa Tryz.f104) 0) (Go.Tx.az vw (bh vw gR v)) (eF rS [.ret, .exit 0] out)) v r
abbrev Bd(v:Tag×Unit)(r:Bool×Unit):Prop:=(λv r=>∀x,lG prog mA r=some x->cX prog 52 (encL vw (aD mA v).len (bi mA v).1) (br (aD mA v).len (aD mA v).own) (an vw (bh vw mA.rcut r).len x) (br (bh vw mA.rcut r).len (gO mA r))) v r
abbrev kB(v:(List Tag)×Unit)(r:Bool×Unit):Prop:=(λv r=>∀x,lG prog dU r=some x->cX prog 78 (encL vw (aD dU v).len (bi dU v).1) (br (aD dU v).len (aD dU v).own) (an vw (bh vw dU.rcut r).len x) (br (bh vw dU.rcut r).len (gO dU r))) v r
abbrev hZ(v:(List Tag)×Unit)(r:Int×Unit):Prop:=(λv r=>∀x,lG prog cV r=some x->cX prog 104 (encL vw (aD cV v).len (bi cV v).1) (br (aD cV v).len (aD cV v).own) (an vw (bh vw cV.rcut r).len x) (br (bh vw cV.rcut r).len (gO cV r))) v r
theorem uT(f0:Tq4->Option (((Int×Unit)⊕(Unit))))(f1:Tag×Unit->Option (Bool×Unit))(h0:∀v r,f0 v=some r->dp v r)(h1:∀v r,f1 v=some r->Bd v r):ay prog (dY (λ_=>none) f0 f1 (λ_=>none) (λ_=>none)).call:=(by
 intro A fid args S dst k r h
 unfold dY li at h
 simp only at h
 split at h
 ·exact aq ((λv r x h hx=>h1 v r h x hx)) rfl rfl h
 ·cases h)
theorem vX(f0:Tq4->Option (((Int×Unit)⊕(Unit))))(f1:Tag×Unit->Option (Bool×Unit))(h0:∀v r,f0 v=some r->dp v r)(h1:∀v r,f1 v=some r->Bd v r)(v:Tq4)(r:((Int×Unit)⊕(Unit)))(h:exL (dY (λ_=>none) f0 f1 (λ_=>none) (λ_=>none)) (ae (aa Tryz.f104) 0) gR [.ret, .exit 0] f0 v=some r):dp v r:=λC hP hN=>aH (X:=dY (λ_=>none) f0 f1 (λ_=>none) (λ_=>none)) (b:=(ae (aa Tryz.f104) 0)) hP hN Ty.mixed (uT f0 f1 h0 h1) (au (X:=dY (λ_=>none) f0 f1 (λ_=>none) (λ_=>none)) (c:=(ae (aa Tryz.f104) 0)) (am (by kernel_rfl:True=bv (ax C (dY (λ_=>none) f0 f1 (λ_=>none) (λ_=>none))) (aw (ae (aa Tryz.f104) 0))) trivial)) (cut:=gR) (alts:=[.ret, .exit 0]) (F:=f0) (λv out h=>h0 v out h C hP hN) h
theorem K5(f0:(List Tag)×Unit->Option (Bool×Unit))(h0:∀v r,f0 v=some r->kB v r):ay prog (x52 bS (λ_=>none) (λ_=>none) f0 (λ_=>none)).call:=(by
 intro A fid args S dst k r h
 unfold x52 z7 at h
 simp only at h
 split at h
 ·exact aq ((λv r x h hx=>h0 v r h x hx)) rfl rfl h
 ·cases h)
theorem LY(f0:(List Tag)×Unit->Option (Bool×Unit))(h0:∀v r,f0 v=some r->kB v r)(v:Tag×Unit)(r:Bool×Unit)(h:exF (x52 bS (λ_=>none) (λ_=>none) f0 (λ_=>none)) mA rfl (aa Tryz.f52) v=some r):Bd v r:=λx hx=>bj (X:=x52 bS (λ_=>none) (λ_=>none) f0 (λ_=>none)) (sig:=mA) rfl Tryz.func52 (c:=aa Tryz.f52) (by kernel_rfl) Tryz.ntmps52 (by kernel_rfl) (by kernel_rfl) rfl Ty.mixed (K5 f0 h0) rfl (λC hP hN=>(au (X:=x52 bS (λ_=>none) (λ_=>none) f0 (λ_=>none)) (c:=(aa Tryz.f52)) (am (by kernel_rfl:bv (ax C (x52 bS (λ_=>none) (λ_=>none) f0 (λ_=>none))) [(ae (aa Tryz.f52) 0)]=bv (ax C (x52 bS (λ_=>none) (λ_=>none) f0 (λ_=>none))) (aw (aa Tryz.f52))) ⟨bd (X:=x52 bS (λ_=>none) (λ_=>none) f0 (λ_=>none)) (b:=(ae (aa Tryz.f52) 0)) (by kernel_rfl) (show bC C (ae (aa Tryz.f52) 0) (sh:=Kn) {cut:=xM,alts:=[.ret, .exit 0],F:=bS}fromλv out h=>Bq v out h C hP hN),trivial⟩))) h x hx
theorem Dd(f0:(List Tag)×Unit->Option (Int×Unit))(h0:∀v r,f0 v=some r->hZ v r):ay prog (qB (λ_=>none) (λ_=>none) (λ_=>none) (λ_=>none) f0).call:=(by
 intro A fid args S dst k r h
 unfold qB sD at h
 simp only at h
 split at h
 ·exact aq ((λv r x h hx=>h0 v r h x hx)) rfl rfl h
 ·cases h)
theorem Ei(f0:(List Tag)×Unit->Option (Int×Unit))(h0:∀v r,f0 v=some r->hZ v r)(v:(List Tag)×Unit)(r:Bool×Unit)(h:exF (qB (λ_=>none) (λ_=>none) (λ_=>none) (λ_=>none) f0) dU rfl (aa Tryz.f78) v=some r):kB v r:=λx hx=>bj (X:=qB (λ_=>none) (λ_=>none) (λ_=>none) (λ_=>none) f0) (sig:=dU) rfl Tryz.func78 (c:=aa Tryz.f78) (by kernel_rfl) Tryz.ntmps78 (by kernel_rfl) (by kernel_rfl) rfl Ty.mixed (Dd f0 h0) rfl (λC hP hN=>(au (X:=qB (λ_=>none) (λ_=>none) (λ_=>none) (λ_=>none) f0) (c:=(aa Tryz.f78)) (am (by kernel_rfl:True=bv (ax C (qB (λ_=>none) (λ_=>none) (λ_=>none) (λ_=>none) f0)) (aw (aa Tryz.f78))) trivial))) h x hx
theorem Aa(f0:Tq4->Option (((Int×Unit)⊕(Unit))))(h0:∀v r,f0 v=some r->dp v r):ay prog (dY (λ_=>none) f0 (λ_=>none) (λ_=>none) (λ_=>none)).call:=(by
 intro A fid args S dst k r h
 unfold dY li at h
 simp only at h
 split at h
 ·exact aq ((λv r x h hx=>by cases h)) rfl rfl h
 ·cases h)
theorem Ci(f0:Tq4->Option (((Int×Unit)⊕(Unit))))(h0:∀v r,f0 v=some r->dp v r)(v:(List Tag)×Unit)(r:Int×Unit)(h:exF (dY (λ_=>none) f0 (λ_=>none) (λ_=>none) (λ_=>none)) cV rfl (aa Tryz.f104) v=some r):hZ v r:=λx hx=>bj (X:=dY (λ_=>none) f0 (λ_=>none) (λ_=>none) (λ_=>none)) (sig:=cV) rfl Tryz.func104 (c:=aa Tryz.f104) (by kernel_rfl) Tryz.ntmps104 (by kernel_rfl) (by kernel_rfl) rfl Ty.mixed (Aa f0 h0) rfl (λC hP hN=>(au (X:=dY (λ_=>none) f0 (λ_=>none) (λ_=>none) (λ_=>none)) (c:=(aa Tryz.f104)) (am (by kernel_rfl:bv (ax C (dY (λ_=>none) f0 (λ_=>none) (λ_=>none) (λ_=>none))) [(ae (aa Tryz.f104) 0)]=bv (ax C (dY (λ_=>none) f0 (λ_=>none) (λ_=>none) (λ_=>none))) (aw (aa Tryz.f104))) ⟨bd (X:=dY (λ_=>none) f0 (λ_=>none) (λ_=>none) (λ_=>none)) (b:=(ae (aa Tryz.f104) 0)) (by kernel_rfl) (show bC C (ae (aa Tryz.f104) 0) (sh:=rS) {cut:=gR,alts:=[.ret, .exit 0],F:=f0}fromλv out h=>h0 v out h C hP hN),trivial⟩))) h x hx
theorem pi:(∀v r,aM v=some r->dp v r)/\(∀v r,n_52 v=some r->Bd v r)/\(∀v r,n_78c52 v=some r->kB v r)/\(∀v r,n_104c52 v=some r->hZ v r):=by
 refine aM.mutual_partial_correctness
  (motive_1:=dp)
  (motive_2:=Bd)
  (motive_3:=kB)
  (motive_4:=hZ)
  ?_ ?_ ?_ ?_
 ·exact(λf0 f1 h0 h1 v r h=>vX f0 f1 h0 h1 v r (am (by kernel_rfl) h))
 ·exact(λf0 h0 v r h=>LY f0 h0 v r (am (by kernel_rfl) h))
 ·exact(λf0 h0 v r h=>Ei f0 h0 v r (am (by kernel_rfl) h))
 ·exact(λf0 h0 v r h=>Ci f0 h0 v r (am (by kernel_rfl) h))
theorem Ha:bc prog 52 mA n_52:=λv r x h hx=>pi.2.1 v r h x hx
def Hv:ba vw:={rcut:=m7}
def D2:Nat->Bool:=λ_=>false
def rU:Sig vw:=sg [Dq2, .fn 75 [] []] m7 [.tmp 4]
noncomputable def fi(v:(List ByteArray)×Unit):Option (Bool×Unit):=gy v>>=λx1=>some ((decide (x1.1>=(0:Int)),()))
def sC:=kP vq k0
def J0:Xc vw:={P:=prog,n:=9,call:=sC.1,pre:=D2,sh:=Hv}
theorem yA:bc prog 77 rU fi:=λv r x h hx=>
 bj (X:=J0) (sig:=rU) rfl Tryz.func77 (c:=aa Tryz.f77) (by kernel_rfl) Tryz.ntmps77 (by kernel_rfl) (by kernel_rfl) rfl Ty.mixed sC.2 rfl (λC hP hN=>(au (am (by kernel_rfl) trivial))) (am (by kernel_rfl) h) x hx
def gS:Cut SN:=⟨[(0,Dq6),(1, .fn 79 [] []),(7,Dq1),(8,Dq1)],[]⟩
def rT:ba vw:=shL [(0,eu)] cZ
def t6:Nat->Bool:=λ_=>false
def cW:Sig vw:=sg [Dq6, .fn 79 [] []] cZ [.tmp 4]
def KP:Cut SN:=⟨[(1, .bp 1 0),(52,Dq4)],[(1, .st .tagT)]⟩
def KQ:Cut SN:=⟨[(1, .bp 1 0),(75,Dq4)],[(1, .st .tagT)]⟩
def Nf:ba vw:={rcut:=pK}
def LB:Nat->Bool:=λ_=>false
def mz:Sig vw:=sg [Dq3] pK [.tmp 2]
def Hx:ba vw:={rcut:=m7}
def D4:Nat->Bool:=λ_=>false
def dV:Sig vw:=sg [Dq6, .fn 79 [] []] m7 [.tmp 4]
def Ni:ba vw:={rcut:=pK}
def LE:Nat->Bool:=λ_=>false
def oI:Sig vw:=sg [Dq3] pK [.tmp 2]
mutual
noncomputable def aE(v:Tq4):Option (((Int×Unit)⊕(Unit))):=if decide (v.2.2.1<v.2.1)=true then if(0:Int)<=v.2.2.1 then v.1[v.2.2.1.toNat]?>>=λx1=>n_79 (x1,())>>=λx2=>if x2.1=true then some (OC v.2.2)else aE (v.1,v.2.1,i64.wrap (v.2.2.1+(1:Int)),())else none else some (OR ()) partial_fixpoint
noncomputable def n_79(v:Tag×Unit):Option (Bool×Unit):=n_51 v>>=λx1=>some ((!x1.1,())) partial_fixpoint
noncomputable def n_51(v:Tag×Unit):Option (Bool×Unit):=(if decide (v.1.kind<(0:Int))=true then some (true,v)else if decide (v.1.kind>(6:Int))=true then some (true,v)else if(v.1.kind !=(3:Int))=true then if(v.1.n !=(0:Int))=true then some (true,v)else if decide (v.1.n<(-9007199254740992:Int))=true then some (true,v)else if decide (v.1.n>(9007199254740992:Int))=true then some (true,v)else if(v.1.kind !=(4:Int))=true then if(!v.1.text.toList==(NA #[]).toList)=true then some (true,v)else if decide (v.1.kind<(5:Int))=true then some ((decide ((↑v.1.parts.length:Int)>(0:Int)),v))else some (false,v)else if decide (v.1.kind<(5:Int))=true then some ((decide ((↑v.1.parts.length:Int)>(0:Int)),v))else some (false,v)else if decide (v.1.n<(-9007199254740992:Int))=true then some (true,v)else if decide (v.1.n>(9007199254740992:Int))=true then some (true,v)else if(v.1.kind !=(4:Int))=true then if(!v.1.text.toList==(NA #[]).toList)=true then some (true,v)else if decide (v.1.kind<(5:Int))=true then some ((decide ((↑v.1.parts.length:Int)>(0:Int)),v))else some (false,v)else if decide (v.1.kind<(5:Int))=true then some ((decide ((↑v.1.parts.length:Int)>(0:Int)),v))else some (false,v))>>=λx1=>if x1.1=true then some ((false,()))else(if(x1.2.1.kind==(6:Int))=true then if((↑x1.2.1.names.length:Int) !=(↑x1.2.1.parts.length:Int))=true then some (true,x1.2)else if(x1.2.1.kind !=(6:Int))=true then some ((decide ((↑x1.2.1.names.length:Int)>(0:Int)),x1.2))else some (false,x1.2)else if(x1.2.1.kind !=(6:Int))=true then some ((decide ((↑x1.2.1.names.length:Int)>(0:Int)),x1.2))else some (false,x1.2))>>=λx2=>if x2.1=true then some ((false,()))else(DE (x2.2.1.text,())>>=λx3=>if(!x3.1)=true then fi (x2.2.1.names,())>>=λx4=>if(!x4.1)=true then n_78c79 (x2.2.1.parts,())>>=λx5=>some ((!x5.1,()))else some ((false,()))else some ((false,())))>>=λx3=>some (x3) partial_fixpoint
noncomputable def n_78c79(v:(List Tag)×Unit):Option (Bool×Unit):=n_104c79 v>>=λx1=>some ((decide (x1.1>=(0:Int)),())) partial_fixpoint
noncomputable def n_104c79(v:(List Tag)×Unit):Option (Int×Unit):=aE (v.1,(↑v.1.length:Int),(0:Int),())>>=λx1=>match x1 with| .inl y1=>some y1| .inr y1=>some (((-1:Int),())) partial_fixpoint
end
def lj(aE:Tq4->Option (((Int×Unit)⊕(Unit))))(n_79:Tag×Unit->Option (Bool×Unit))(n_51:Tag×Unit->Option (Bool×Unit))(n_78c79:(List Tag)×Unit->Option (Bool×Unit))(n_104c79:(List Tag)×Unit->Option (Int×Unit)):bm vw:=λA fid args S k=>match fid with|79=>bg prog oI n_79 A args S k|_=>none
def dZ(aE:Tq4->Option (((Int×Unit)⊕(Unit))))(n_79:Tag×Unit->Option (Bool×Unit))(n_51:Tag×Unit->Option (Bool×Unit))(n_78c79:(List Tag)×Unit->Option (Bool×Unit))(n_104c79:(List Tag)×Unit->Option (Int×Unit)):Xc vw:={P:=prog,n:=19,call:=lj aE n_79 n_51 n_78c79 n_104c79,pre:=t6,sh:=rT,loops:=λk=>match k with|2=>some {cut:=gS,alts:=[.ret, .exit 0],F:=aE}|_=>none}
def Fm(aE:Tq4->Option (((Int×Unit)⊕(Unit))))(n_79:Tag×Unit->Option (Bool×Unit))(n_51:Tag×Unit->Option (Bool×Unit))(n_78c79:(List Tag)×Unit->Option (Bool×Unit))(n_104c79:(List Tag)×Unit->Option (Int×Unit)):bm vw:=λA fid args S k=>match fid with|75=>bg prog HC DE A args S k|77=>bg prog rU fi A args S k|78=>bg prog dV n_78c79 A args S k|_=>none
def x51(aE:Tq4->Option (((Int×Unit)⊕(Unit))))(n_79:Tag×Unit->Option (Bool×Unit))(n_51:Tag×Unit->Option (Bool×Unit))(n_78c79:(List Tag)×Unit->Option (Bool×Unit))(n_104c79:(List Tag)×Unit->Option (Int×Unit)):Xc vw:={P:=prog,n:=94,call:=Fm aE n_79 n_51 n_78c79 n_104c79,pre:=LB,sh:=Nf,regs:=λk=>match k with|1=>some KP|3=>some KQ|6=>some pK|_=>none}
def sE(aE:Tq4->Option (((Int×Unit)⊕(Unit))))(n_79:Tag×Unit->Option (Bool×Unit))(n_51:Tag×Unit->Option (Bool×Unit))(n_78c79:(List Tag)×Unit->Option (Bool×Unit))(n_104c79:(List Tag)×Unit->Option (Int×Unit)):bm vw:=λA fid args S k=>match fid with|104=>bg prog cW n_104c79 A args S k|_=>none
def qC(aE:Tq4->Option (((Int×Unit)⊕(Unit))))(n_79:Tag×Unit->Option (Bool×Unit))(n_51:Tag×Unit->Option (Bool×Unit))(n_78c79:(List Tag)×Unit->Option (Bool×Unit))(n_104c79:(List Tag)×Unit->Option (Int×Unit)):Xc vw:={P:=prog,n:=9,call:=sE aE n_79 n_51 n_78c79 n_104c79,pre:=D4,sh:=Hx}
def Fp(aE:Tq4->Option (((Int×Unit)⊕(Unit))))(n_79:Tag×Unit->Option (Bool×Unit))(n_51:Tag×Unit->Option (Bool×Unit))(n_78c79:(List Tag)×Unit->Option (Bool×Unit))(n_104c79:(List Tag)×Unit->Option (Int×Unit)):bm vw:=λA fid args S k=>match fid with|51=>bg prog mz n_51 A args S k|_=>none
def x79(aE:Tq4->Option (((Int×Unit)⊕(Unit))))(n_79:Tag×Unit->Option (Bool×Unit))(n_51:Tag×Unit->Option (Bool×Unit))(n_78c79:(List Tag)×Unit->Option (Bool×Unit))(n_104c79:(List Tag)×Unit->Option (Int×Unit)):Xc vw:={P:=prog,n:=6,call:=Fp aE n_79 n_51 n_78c79 n_104c79,pre:=LE,sh:=Ni}
abbrev dq(v:Tq4)(r:((Int×Unit)⊕(Unit))):Prop:=(λv out=>∀C:Ctx,C.P=prog->C.N=19/\Fx C t6->d6 C (ae (aa Tryz.f104) 0) (Go.Tx.az vw (bh vw gS v)) (eF rT [.ret, .exit 0] out)) v r
abbrev Bg(v:Tag×Unit)(r:Bool×Unit):Prop:=(λv r=>∀x,lG prog oI r=some x->cX prog 79 (encL vw (aD oI v).len (bi oI v).1) (br (aD oI v).len (aD oI v).own) (an vw (bh vw oI.rcut r).len x) (br (bh vw oI.rcut r).len (gO oI r))) v r
abbrev Bc(v:Tag×Unit)(r:Bool×Unit):Prop:=(λv r=>∀x,lG prog mz r=some x->cX prog 51 (encL vw (aD mz v).len (bi mz v).1) (br (aD mz v).len (aD mz v).own) (an vw (bh vw mz.rcut r).len x) (br (bh vw mz.rcut r).len (gO mz r))) v r
abbrev kC(v:(List Tag)×Unit)(r:Bool×Unit):Prop:=(λv r=>∀x,lG prog dV r=some x->cX prog 78 (encL vw (aD dV v).len (bi dV v).1) (br (aD dV v).len (aD dV v).own) (an vw (bh vw dV.rcut r).len x) (br (bh vw dV.rcut r).len (gO dV r))) v r
abbrev h_(v:(List Tag)×Unit)(r:Int×Unit):Prop:=(λv r=>∀x,lG prog cW r=some x->cX prog 104 (encL vw (aD cW v).len (bi cW v).1) (br (aD cW v).len (aD cW v).own) (an vw (bh vw cW.rcut r).len x) (br (bh vw cW.rcut r).len (gO cW r))) v r
theorem uU(f0:Tq4->Option (((Int×Unit)⊕(Unit))))(f1:Tag×Unit->Option (Bool×Unit))(h0:∀v r,f0 v=some r->dq v r)(h1:∀v r,f1 v=some r->Bg v r):ay prog (dZ f0 f1 (λ_=>none) (λ_=>none) (λ_=>none)).call:=(by
 intro A fid args S dst k r h
 unfold dZ lj at h
 simp only at h
 split at h
 ·exact aq ((λv r x h hx=>h1 v r h x hx)) rfl rfl h
 ·cases h)
theorem vY(f0:Tq4->Option (((Int×Unit)⊕(Unit))))(f1:Tag×Unit->Option (Bool×Unit))(h0:∀v r,f0 v=some r->dq v r)(h1:∀v r,f1 v=some r->Bg v r)(v:Tq4)(r:((Int×Unit)⊕(Unit)))(h:exL (dZ f0 f1 (λ_=>none) (λ_=>none) (λ_=>none)) (ae (aa Tryz.f104) 0) gS [.ret, .exit 0] f0 v=some r):dq v r:=λC hP hN=>aH (X:=dZ f0 f1 (λ_=>none) (λ_=>none) (λ_=>none)) (b:=(ae (aa Tryz.f104) 0)) hP hN Ty.mixed (uU f0 f1 h0 h1) (au (X:=dZ f0 f1 (λ_=>none) (λ_=>none) (λ_=>none)) (c:=(ae (aa Tryz.f104) 0)) (am (by kernel_rfl:True=bv (ax C (dZ f0 f1 (λ_=>none) (λ_=>none) (λ_=>none))) (aw (ae (aa Tryz.f104) 0))) trivial)) (cut:=gS) (alts:=[.ret, .exit 0]) (F:=f0) (λv out h=>h0 v out h C hP hN) h
theorem K8(f0:Tag×Unit->Option (Bool×Unit))(h0:∀v r,f0 v=some r->Bc v r):ay prog (x79 (λ_=>none) (λ_=>none) f0 (λ_=>none) (λ_=>none)).call:=(by
 intro A fid args S dst k r h
 unfold x79 Fp at h
 simp only at h
 split at h
 ·exact aq ((λv r x h hx=>h0 v r h x hx)) rfl rfl h
 ·cases h)
theorem L1(f0:Tag×Unit->Option (Bool×Unit))(h0:∀v r,f0 v=some r->Bc v r)(v:Tag×Unit)(r:Bool×Unit)(h:exF (x79 (λ_=>none) (λ_=>none) f0 (λ_=>none) (λ_=>none)) oI rfl (aa Tryz.f79) v=some r):Bg v r:=λx hx=>bj (X:=x79 (λ_=>none) (λ_=>none) f0 (λ_=>none) (λ_=>none)) (sig:=oI) rfl Tryz.func79 (c:=aa Tryz.f79) (by kernel_rfl) Tryz.ntmps79 (by kernel_rfl) (by kernel_rfl) rfl Ty.mixed (K8 f0 h0) rfl (λC hP hN=>(au (X:=x79 (λ_=>none) (λ_=>none) f0 (λ_=>none) (λ_=>none)) (c:=(aa Tryz.f79)) (am (by kernel_rfl:True=bv (ax C (x79 (λ_=>none) (λ_=>none) f0 (λ_=>none) (λ_=>none))) (aw (aa Tryz.f79))) trivial))) h x hx
theorem K4(f0:(List Tag)×Unit->Option (Bool×Unit))(h0:∀v r,f0 v=some r->kC v r):ay prog (x51 (λ_=>none) (λ_=>none) (λ_=>none) f0 (λ_=>none)).call:=(by
 intro A fid args S dst k r h
 unfold x51 Fm at h
 simp only at h
 split at h
 ·exact aq (Bx) rfl rfl h
 ·exact aq (yA) rfl rfl h
 ·exact aq ((λv r x h hx=>h0 v r h x hx)) rfl rfl h
 ·cases h)
theorem LX(f0:(List Tag)×Unit->Option (Bool×Unit))(h0:∀v r,f0 v=some r->kC v r)(v:Tag×Unit)(r:Bool×Unit)(h:exF (x51 (λ_=>none) (λ_=>none) (λ_=>none) f0 (λ_=>none)) mz rfl (aa Tryz.f51) v=some r):Bc v r:=λx hx=>bj (X:=x51 (λ_=>none) (λ_=>none) (λ_=>none) f0 (λ_=>none)) (sig:=mz) rfl Tryz.func51 (c:=aa Tryz.f51) (by kernel_rfl) Tryz.ntmps51 (by kernel_rfl) (by kernel_rfl) rfl Ty.mixed (K4 f0 h0) rfl (λC hP hN=>(au (X:=x51 (λ_=>none) (λ_=>none) (λ_=>none) f0 (λ_=>none)) (c:=(aa Tryz.f51)) (am (by kernel_rfl:True=bv (ax C (x51 (λ_=>none) (λ_=>none) (λ_=>none) f0 (λ_=>none))) (aw (aa Tryz.f51))) trivial))) h x hx
theorem De(f0:(List Tag)×Unit->Option (Int×Unit))(h0:∀v r,f0 v=some r->h_ v r):ay prog (qC (λ_=>none) (λ_=>none) (λ_=>none) (λ_=>none) f0).call:=(by
 intro A fid args S dst k r h
 unfold qC sE at h
 simp only at h
 split at h
 ·exact aq ((λv r x h hx=>h0 v r h x hx)) rfl rfl h
 ·cases h)
theorem Ej(f0:(List Tag)×Unit->Option (Int×Unit))(h0:∀v r,f0 v=some r->h_ v r)(v:(List Tag)×Unit)(r:Bool×Unit)(h:exF (qC (λ_=>none) (λ_=>none) (λ_=>none) (λ_=>none) f0) dV rfl (aa Tryz.f78) v=some r):kC v r:=λx hx=>bj (X:=qC (λ_=>none) (λ_=>none) (λ_=>none) (λ_=>none) f0) (sig:=dV) rfl Tryz.func78 (c:=aa Tryz.f78) (by kernel_rfl) Tryz.ntmps78 (by kernel_rfl) (by kernel_rfl) rfl Ty.mixed (De f0 h0) rfl (λC hP hN=>(au (X:=qC (λ_=>none) (λ_=>none) (λ_=>none) (λ_=>none) f0) (c:=(aa Tryz.f78)) (am (by kernel_rfl:True=bv (ax C (qC (λ_=>none) (λ_=>none) (λ_=>none) (λ_=>none) f0)) (aw (aa Tryz.f78))) trivial))) h x hx
theorem Ab(f0:Tq4->Option (((Int×Unit)⊕(Unit))))(h0:∀v r,f0 v=some r->dq v r):ay prog (dZ f0 (λ_=>none) (λ_=>none) (λ_=>none) (λ_=>none)).call:=(by
 intro A fid args S dst k r h
 unfold dZ lj at h
 simp only at h
 split at h
 ·exact aq ((λv r x h hx=>by cases h)) rfl rfl h
 ·cases h)
theorem Cj(f0:Tq4->Option (((Int×Unit)⊕(Unit))))(h0:∀v r,f0 v=some r->dq v r)(v:(List Tag)×Unit)(r:Int×Unit)(h:exF (dZ f0 (λ_=>none) (λ_=>none) (λ_=>none) (λ_=>none)) cW rfl (aa Tryz.f104) v=some r):h_ v r:=λx hx=>bj (X:=dZ f0 (λ_=>none) (λ_=>none) (λ_=>none) (λ_=>none)) (sig:=cW) rfl Tryz.func104 (c:=aa Tryz.f104) (by kernel_rfl) Tryz.ntmps104 (by kernel_rfl) (by kernel_rfl) rfl Ty.mixed (Ab f0 h0) rfl (λC hP hN=>(au (X:=dZ f0 (λ_=>none) (λ_=>none) (λ_=>none) (λ_=>none)) (c:=(aa Tryz.f104)) (am (by kernel_rfl:bv (ax C (dZ f0 (λ_=>none) (λ_=>none) (λ_=>none) (λ_=>none))) [(ae (aa Tryz.f104) 0)]=bv (ax C (dZ f0 (λ_=>none) (λ_=>none) (λ_=>none) (λ_=>none))) (aw (aa Tryz.f104))) ⟨bd (X:=dZ f0 (λ_=>none) (λ_=>none) (λ_=>none) (λ_=>none)) (b:=(ae (aa Tryz.f104) 0)) (by kernel_rfl) (show bC C (ae (aa Tryz.f104) 0) (sh:=rT) {cut:=gS,alts:=[.ret, .exit 0],F:=f0}fromλv out h=>h0 v out h C hP hN),trivial⟩))) h x hx
theorem pj:(∀v r,aE v=some r->dq v r)/\(∀v r,n_79 v=some r->Bg v r)/\(∀v r,n_51 v=some r->Bc v r)/\(∀v r,n_78c79 v=some r->kC v r)/\(∀v r,n_104c79 v=some r->h_ v r):=by
 refine aE.mutual_partial_correctness
  (motive_1:=dq)
  (motive_2:=Bg)
  (motive_3:=Bc)
  (motive_4:=kC)
  (motive_5:=h_)
  ?_ ?_ ?_ ?_ ?_
 ·exact(λf0 f1 h0 h1 v r h=>vY f0 f1 h0 h1 v r (am (by kernel_rfl) h))
 ·exact(λf0 h0 v r h=>L1 f0 h0 v r (am (by kernel_rfl) h))
 ·exact(λf0 h0 v r h=>LX f0 h0 v r (am (by kernel_rfl) h))
 ·exact(λf0 h0 v r h=>Ej f0 h0 v r (am (by kernel_rfl) h))
 ·exact(λf0 h0 v r h=>Cj f0 h0 v r (am (by kernel_rfl) h))
theorem G_:bc prog 51 mz n_51:=λv r x h hx=>pj.2.2.1 v r h x hx
abbrev Dq7:Pt SN:= .dat (.int .u8)
def JD:Sig vw:=sg [Dq5,Dq7] cZ [.tmp 4]
noncomputable def GS(v:ByteArray×Int×Unit):Option (Int×Unit):=some (Lib.indexByte v.1.data.toList v.2.1.toNat.toUInt8,())
theorem DA:bc prog 132 JD GS:=λv r x h hx=>by
 obtain⟨s,c,u⟩:=v
 cases h;cases hx
 exact am (by kernel_rfl) (cX.pure (P:=prog) (f:=132) (args:=[.d (.v (.string s)), .d (.v (.int .u8 c))]) (r:= .d (.v (.int .i64 (Lib.indexByte s.data.toList c.toNat.toUInt8)))) (by kernel_rfl) λE M w vs _ _ hv=>by
  obtain⟨v1,v2,rfl,h1,h2⟩:=sZ hv
  rw[h1.dv,h2.dv]
  exact(Tryz.stringslite_IndexByte s c w).mono λe w' ⟨he,hw⟩=>⟨_,he, .d (.v _),hw▸Go.RowKit.Below.refl _ _⟩)
def LH:ba vw:={rcut:=cZ}
def Jo:Nat->Bool:=λ_=>false
def FD:Sig vw:=sg [Dq5,Dq7] cZ [.tmp 4]
noncomputable def Bi(v:ByteArray×Int×Unit):Option (Int×Unit):=GS v>>=λx1=>some (x1)
def zX:=kP DA k0
def Nw:Xc vw:={P:=prog,n:=8,call:=zX.1,pre:=Jo,sh:=LH}
theorem w4:bc prog 118 FD Bi:=λv r x h hx=>
 bj (X:=Nw) (sig:=FD) rfl Tryz.func118 (c:=aa Tryz.f118) (by kernel_rfl) Tryz.ntmps118 (by kernel_rfl) (by kernel_rfl) rfl Ty.mixed zX.2 rfl (λC hP hN=>(au (am (by kernel_rfl) trivial))) (am (by kernel_rfl) h) x hx
def C9:Cut SN:=⟨[(2,Dq5)],[]⟩
def JE:Sig vw:=sg [Dq5] C9 [.tmp 2]
noncomputable def DB(v:ByteArray×Unit):Option (ByteArray×Unit):=if v.1.size<=140737488355328/\v.1.data.toList.all (λb=>decide (b.toNat<128))=true then some (⟨(Lib.toLowerA v.1.data.toList).toArray⟩,())else none
theorem DC:bc prog 133 JE DB:=λv r x h hx=>by
 obtain⟨s,u⟩:=v
 unfold DB at h
 split at h
 ·rename_i hc
  obtain⟨h0,h1⟩:=hc
  simp only at h0 h1
  cases h;cases hx
  exact am (by kernel_rfl) (cX.pure (P:=prog) (f:=133) (args:=[.d (.v (.string s))]) (r:= .d (.v (.string ⟨(Lib.toLowerA s.data.toList).toArray⟩))) (by kernel_rfl) λE M w vs hg hm hv=>by
   obtain⟨v1,rfl,h2⟩:=dP hv
   rw[h2.dv]
   exact(Tryz.strings_ToLower_ascii s w h0 (λj b hb=>of_decide_eq_true (NM.1 h1 b (NJ hb)))).mono λe w' ⟨he,hw⟩=>⟨_,he, .d (.v _),hw⟩)
 ·cases h
def xQ:Cut SN:=⟨[(0, .bp 100000 0),(33,Dq4)],[(100000, .st .readerT)]⟩
def j5:Cut SN:=⟨[(0, .bp 100000 0),(4,Dq4)],[(100000, .st .readerT)]⟩
def Cb:ba vw:={rcut:=j5}
def yM:Nat->Bool:=λ_=>false
def iS:Sig vw:={params:=[.bp 100000 0,Dq5],objs:=[(100000, .st .readerT)],rcut:=j5,rvars:=[.tmp 4],keep:=[100000]}
noncomputable def aQ(v:ByteArray×ap×Unit):Option (Bool×ap×Unit):=(if(v.2.1.at0==(↑v.2.1.s.size:Int))=true then some (true,v.2)else if(0:Int)<=v.2.1.at0/\v.2.1.at0<=i64.wrap (v.2.1.at0+(1:Int))/\i64.wrap (v.2.1.at0+(1:Int))<=(↑v.2.1.s.size:Int)then Dy (v.1,v.2.1.s.extract v.2.1.at0.toNat (i64.wrap (v.2.1.at0+(1:Int))).toNat,())>>=λx1=>some (!x1.1,v.2)else none)>>=λx1=>if x1.1=true then some (false,x1.2)else some ((true,ap.mk x1.2.1.s (i64.wrap (x1.2.1.at0+(1:Int))),()))
def nb:=kP Dz k0
def EQ:Xc vw:={P:=prog,n:=41,call:=nb.1,pre:=yM,sh:=Cb,regs:=λk=>match k with|1=>some xQ|_=>none}
theorem cb:bc prog 74 iS aQ:=λv r x h hx=>
 bj (X:=EQ) (sig:=iS) rfl Tryz.func74 (c:=aa Tryz.f74) (by kernel_rfl) Tryz.ntmps74 (by kernel_rfl) (by kernel_rfl) rfl Ty.mixed nb.2 rfl (λC hP hN=>(au (am (by kernel_rfl) trivial))) (am (by kernel_rfl) h) x hx
abbrev CT:Pt SN:= .dat (.int .i32)
def gT:Cut SN:=⟨[(0, .bp 100000 0),(10,CT),(50, .dat (.sl (.int .u8))),(51,Dq1),(52,Dq1)],[(100000, .st .readerT)]⟩
def uK:Cut SN:=⟨[(0, .bp 100000 0),(8,Dq1),(9,Dq5)],[(100000, .st .readerT)]⟩
def uL:Cut SN:=⟨[(0, .bp 100000 0),(8,Dq1),(38,Dq4)],[(100000, .st .readerT)]⟩
def uJ:Cut SN:=⟨[(0, .bp 100000 0),(10,CT)],[(100000, .st .readerT)]⟩
def pG:Cut SN:=⟨[(0, .bp 100000 0),(6,CT),(7,Dq4)],[(100000, .st .readerT)]⟩
def lI:ba vw:=shL [(1,uJ)] pG
def ob:Nat->Bool:=λ_=>false
def oE:Sig vw:={params:=[.bp 100000 0,Dq5,Dq5],objs:=[(100000, .st .readerT)],rcut:=pG,rvars:=[.tmp 6, .tmp 7],keep:=[100000]}
abbrev Mh:=Int×(List Int)×Int×Int×ap×Unit
noncomputable def cw(v:Mh):Option ((Int×ap×Unit)):=if decide (v.2.2.2.1<v.2.2.1)=true then if(0:Int)<=v.2.2.2.1 then v.2.1[v.2.2.2.1.toNat]?>>=λx1=>Bi (NA #[48,49,50,51,52,53,54,55,56,57,97,98,99,100,101,102,65,66,67,68,69,70],x1,())>>=λx2=>cw (i32.wrap (i32.wrap ((16:Int) *v.1)+i32.wrap x2.1),v.2.1,v.2.2.1,i64.wrap (v.2.2.2.1+(1:Int)),v.2.2.2.2)else none else some (v.1,v.2.2.2.2) partial_fixpoint
abbrev Kt:=ByteArray×ByteArray×ap×Unit
abbrev J5:=Int×Bool×ap×Unit
noncomputable def fU(v:Kt):Option (J5):=(aQ (v.1,v.2.2)>>=λx1=>if x1.1=true then some (OC (v.2.2.1.at0,NA #[48,49,50,51,52,53,54,55,56,57,97,98,99,100,101,102,65,66,67,68,69,70],x1.2))else aQ (NA #[100,68],x1.2)>>=λx2=>if x2.1=true then some (OC (v.2.2.1.at0,v.2.1,x2.2))else some (OR ((0:Int),false,x2.2)))>>=λx1=>match x1 with| .inl y1=>(aQ y1.2>>=λx2=>if(!x2.1)=true then some (y1.1,true,x2.2)else aQ (NA #[48,49,50,51,52,53,54,55,56,57,97,98,99,100,101,102,65,66,67,68,69,70],x2.2)>>=λx3=>if(!x3.1)=true then some (y1.1,true,x3.2)else aQ (NA #[48,49,50,51,52,53,54,55,56,57,97,98,99,100,101,102,65,66,67,68,69,70],x3.2)>>=λx4=>some (y1.1,!x4.1,x4.2))>>=λx2=>if x2.2.1=true then some (((0:Int),false,x2.2.2))else if(0:Int)<=x2.1/\x2.1<=x2.2.2.1.at0/\x2.2.2.1.at0<=(↑x2.2.2.1.s.size:Int)then DB (x2.2.2.1.s.extract x2.1.toNat x2.2.2.1.at0.toNat,())>>=λx3=>cw ((0:Int),Bs.ints x3.1,(↑(Bs.ints x3.1).length:Int),(0:Int),x2.2.2)>>=λx4=>some (x4.1,true,x4.2)else none| .inr y1=>some y1
def gV:=kO cb (kP w4 (kP DC k0))
def fk:Xc vw:={P:=prog,n:=64,call:=gV.1,pre:=ob,sh:=lI,joins:=λk=>match k with|7=>some (uK,[.norm, .ret])|_=>none,regs:=λk=>match k with|7=>some uL|_=>none,loops:=λk=>match k with|11=>some {cut:=gT,alts:=[.exit 1],F:=cw}|_=>none}
theorem mj(C:Ctx)(hP:C.P=prog)(hN:C.N=64/\Fx C ob):bC C (ae (aa Tryz.f119) 0) (sh:=lI) {cut:=gT,alts:=[.exit 1],F:=cw}:=
 cw.partial_correctness (motive:=λv out=>d6 C (ae (aa Tryz.f119) 0) (Go.Tx.az vw (bh vw gT v)) (eF lI [.exit 1] out)) λF ih v out h=>
  aH (X:=fk) (b:=(ae (aa Tryz.f119) 0)) hP hN Ty.mixed gV.2 (au (X:=fk) (c:=(ae (aa Tryz.f119) 0)) (am (by kernel_rfl:True=bv (ax C (fk)) (aw (ae (aa Tryz.f119) 0))) trivial)) ih (am (by kernel_rfl) h)
theorem rq:bc prog 119 oE fU:=λv r x h hx=>
 bj (X:=fk) (sig:=oE) rfl Tryz.func119 (c:=aa Tryz.f119) (by kernel_rfl) Tryz.ntmps119 (by kernel_rfl) (by kernel_rfl) rfl Ty.mixed gV.2 rfl (λC hP hN=>(au (am (by kernel_rfl:bv (ax C (fk)) [(ae (aa Tryz.f119) 0)]=bv (ax C (fk)) (aw (aa Tryz.f119))) ⟨bd (X:=fk) (b:=(ae (aa Tryz.f119) 0)) (by kernel_rfl) (mj C hP hN),trivial⟩))) (am (by kernel_rfl) h) x hx
def F2:Cut SN:=⟨[(0,Dq2),(1,Dq2),(5,Dq1)],[]⟩
def LJ:ba vw:=shL [(0,eu)] m7
def Jq:Nat->Bool:=λ_=>false
def Hy:Sig vw:=sg [Dq2,Dq2] m7 [.tmp 4]
noncomputable def lX(v:(List ByteArray)×(List ByteArray)×Int×Unit):Option (((Bool×Unit)⊕(Unit))):=if decide (v.2.2.1<(↑v.1.length:Int))=true then if(0:Int)<=v.2.2.1 then v.1[v.2.2.1.toNat]?>>=λx1=>if(0:Int)<=v.2.2.1 then v.2.1[v.2.2.1.toNat]?>>=λx2=>if(!x1.toList==x2.toList)=true then some (OC (false,()))else lX (v.1,v.2.1,i64.wrap (v.2.2.1+(1:Int)),())else none else none else some (OR ()) partial_fixpoint
noncomputable def Ix(v:(List ByteArray)×(List ByteArray)×Unit):Option (Bool×Unit):=if((↑v.1.length:Int) !=(↑v.2.1.length:Int))=true then some ((false,()))else lX (v.1,v.2.1,(0:Int),())>>=λx1=>match x1 with| .inl y1=>some y1| .inr y1=>some ((true,()))
def x26:Xc vw:={P:=prog,n:=26,call:=c0,pre:=Jq,sh:=LJ,loops:=λk=>match k with|4=>some {cut:=F2,alts:=[.ret, .exit 0],F:=lX}|_=>none}
theorem Bl(C:Ctx)(hP:C.P=prog)(hN:C.N=26/\Fx C Jq):bC C (ae (aa Tryz.f26) 0) (sh:=LJ) {cut:=F2,alts:=[.ret, .exit 0],F:=lX}:=
 lX.partial_correctness (motive:=λv out=>d6 C (ae (aa Tryz.f26) 0) (Go.Tx.az vw (bh vw F2 v)) (eF LJ [.ret, .exit 0] out)) λF ih v out h=>
  aH (X:=x26) (b:=(ae (aa Tryz.f26) 0)) hP hN Ty.mixed j4 (au (X:=x26) (c:=(ae (aa Tryz.f26) 0)) (am (by kernel_rfl:True=bv (ax C (x26)) (aw (ae (aa Tryz.f26) 0))) trivial)) ih (am (by kernel_rfl) h)
theorem vu:bc prog 26 Hy Ix:=λv r x h hx=>
 bj (X:=x26) (sig:=Hy) rfl Tryz.func26 (c:=aa Tryz.f26) (by kernel_rfl) Tryz.ntmps26 (by kernel_rfl) (by kernel_rfl) rfl Ty.mixed j4 rfl (λC hP hN=>(au (am (by kernel_rfl:bv (ax C (x26)) [(ae (aa Tryz.f26) 0)]=bv (ax C (x26)) (aw (aa Tryz.f26))) ⟨bd (X:=x26) (b:=(ae (aa Tryz.f26) 0)) (by kernel_rfl) (Bl C hP hN),trivial⟩))) (am (by kernel_rfl) h) x hx
def zQ:Cut SN:=⟨[(2, .bp 2 0),(3, .bp 3 0),(5,Dq1)],[(2, .st .tagT),(3, .st .tagT)]⟩
def Kz:Cut SN:=⟨[(2, .bp 2 0),(3, .bp 3 0),(41,Dq4)],[(2, .st .tagT),(3, .st .tagT)]⟩
def LI:ba vw:=shL [(0,eu)] m7
def Jp:Nat->Bool:=λ_=>false
def mo:Sig vw:=sg [Dq3,Dq3] m7 [.tmp 4]
abbrev C2:=Int×Tag×Tag×Unit
mutual
noncomputable def ib(v:C2):Option (((Bool×Unit)⊕(Unit))):=if decide (v.1<(↑v.2.1.parts.length:Int))=true then if(0:Int)<=v.1 then v.2.1.parts[v.1.toNat]?>>=λx1=>if(0:Int)<=v.1 then v.2.2.1.parts[v.1.toNat]?>>=λx2=>n_12 (x1,x2,())>>=λx3=>if(!x3.1)=true then some (OC (false,()))else ib (i64.wrap (v.1+(1:Int)),v.2)else none else none else some (OR ()) partial_fixpoint
noncomputable def n_12(v:Tag×Tag×Unit):Option (Bool×Unit):=(if(v.1.kind !=v.2.1.kind)=true then some (true,v)else if(v.1.n !=v.2.1.n)=true then some (true,v)else if(!v.1.text.toList==v.2.1.text.toList)=true then some (true,v)else Ix (v.1.names,v.2.1.names,())>>=λx1=>if(!x1.1)=true then some (true,v)else some (((↑v.1.parts.length:Int) !=(↑v.2.1.parts.length:Int),v)))>>=λx1=>if x1.1=true then some ((false,()))else ib ((0:Int),x1.2)>>=λx2=>match x2 with| .inl y2=>some y2| .inr y2=>some ((true,())) partial_fixpoint
end
def zY(ib:C2->Option (((Bool×Unit)⊕(Unit))))(n_12:Tag×Tag×Unit->Option (Bool×Unit)):bm vw:=λA fid args S k=>match fid with|12=>bg prog mo n_12 A args S k|26=>bg prog Hy Ix A args S k|_=>none
def x12(ib:C2->Option (((Bool×Unit)⊕(Unit))))(n_12:Tag×Tag×Unit->Option (Bool×Unit)):Xc vw:={P:=prog,n:=61,call:=zY ib n_12,pre:=Jp,sh:=LI,regs:=λk=>match k with|1=>some Kz|_=>none,loops:=λk=>match k with|4=>some {cut:=zQ,alts:=[.ret, .exit 0],F:=ib}|_=>none}
abbrev jJ(v:C2)(r:((Bool×Unit)⊕(Unit))):Prop:=(λv out=>∀C:Ctx,C.P=prog->C.N=61/\Fx C Jp->d6 C (ae (aa Tryz.f12) 0) (Go.Tx.az vw (bh vw zQ v)) (eF LI [.ret, .exit 0] out)) v r
abbrev A6(v:Tag×Tag×Unit)(r:Bool×Unit):Prop:=(λv r=>∀x,lG prog mo r=some x->cX prog 12 (encL vw (aD mo v).len (bi mo v).1) (br (aD mo v).len (aD mo v).own) (an vw (bh vw mo.rcut r).len x) (br (bh vw mo.rcut r).len (gO mo r))) v r
theorem F6(f0:C2->Option (((Bool×Unit)⊕(Unit))))(f1:Tag×Tag×Unit->Option (Bool×Unit))(h0:∀v r,f0 v=some r->jJ v r)(h1:∀v r,f1 v=some r->A6 v r):ay prog (x12 f0 f1).call:=(by
 intro A fid args S dst k r h
 unfold x12 zY at h
 simp only at h
 split at h
 ·exact aq ((λv r x h hx=>h1 v r h x hx)) rfl rfl h
 ·exact aq (vu) rfl rfl h
 ·cases h)
theorem HD(f0:C2->Option (((Bool×Unit)⊕(Unit))))(f1:Tag×Tag×Unit->Option (Bool×Unit))(h0:∀v r,f0 v=some r->jJ v r)(h1:∀v r,f1 v=some r->A6 v r)(v:C2)(r:((Bool×Unit)⊕(Unit)))(h:exL (x12 f0 f1) (ae (aa Tryz.f12) 0) zQ [.ret, .exit 0] f0 v=some r):jJ v r:=λC hP hN=>aH (X:=x12 f0 f1) (b:=(ae (aa Tryz.f12) 0)) hP hN Ty.mixed (F6 f0 f1 h0 h1) (au (X:=x12 f0 f1) (c:=(ae (aa Tryz.f12) 0)) (am (by kernel_rfl:True=bv (ax C (x12 f0 f1)) (aw (ae (aa Tryz.f12) 0))) trivial)) (cut:=zQ) (alts:=[.ret, .exit 0]) (F:=f0) (λv out h=>h0 v out h C hP hN) h
theorem KX(f0:C2->Option (((Bool×Unit)⊕(Unit))))(h0:∀v r,f0 v=some r->jJ v r):ay prog (x12 f0 (λ_=>none)).call:=(by
 intro A fid args S dst k r h
 unfold x12 zY at h
 simp only at h
 split at h
 ·exact aq ((λv r x h hx=>by cases h)) rfl rfl h
 ·exact aq (vu) rfl rfl h
 ·cases h)
theorem LQ(f0:C2->Option (((Bool×Unit)⊕(Unit))))(h0:∀v r,f0 v=some r->jJ v r)(v:Tag×Tag×Unit)(r:Bool×Unit)(h:exF (x12 f0 (λ_=>none)) mo rfl (aa Tryz.f12) v=some r):A6 v r:=λx hx=>bj (X:=x12 f0 (λ_=>none)) (sig:=mo) rfl Tryz.func12 (c:=aa Tryz.f12) (by kernel_rfl) Tryz.ntmps12 (by kernel_rfl) (by kernel_rfl) rfl Ty.mixed (KX f0 h0) rfl (λC hP hN=>(au (X:=x12 f0 (λ_=>none)) (c:=(aa Tryz.f12)) (am (by kernel_rfl:bv (ax C (x12 f0 (λ_=>none))) [(ae (aa Tryz.f12) 0)]=bv (ax C (x12 f0 (λ_=>none))) (aw (aa Tryz.f12))) ⟨bd (X:=x12 f0 (λ_=>none)) (b:=(ae (aa Tryz.f12) 0)) (by kernel_rfl) (show bC C (ae (aa Tryz.f12) 0) (sh:=LI) {cut:=zQ,alts:=[.ret, .exit 0],F:=f0}fromλv out h=>h0 v out h C hP hN),trivial⟩))) h x hx
theorem yo:(∀v r,ib v=some r->jJ v r)/\(∀v r,n_12 v=some r->A6 v r):=by
 refine ib.mutual_partial_correctness
  (motive_1:=jJ)
  (motive_2:=A6)
  ?_ ?_
 ·exact(λf0 f1 h0 h1 v r h=>HD f0 f1 h0 h1 v r (am (by kernel_rfl) h))
 ·exact(λf0 h0 v r h=>LQ f0 h0 v r (am (by kernel_rfl) h))
theorem GR:bc prog 12 mo n_12:=λv r x h hx=>yo.2 v r h x hx
def m9:Cut SN:=⟨[(0, .vh 100000),(1,CT),(5, .dat (.int .u32)),(25,Dq4)],[(100000,Oq8)]⟩
def uN:Cut SN:=⟨[(0, .vh 100000),(1,CT),(50,Dq4)],[(100000,Oq8)]⟩
def iC:Cut SN:=⟨[(4, .vh 2004)],[(2004,Oq8)]⟩
def y6:ba vw:={rcut:=iC}
def vM:Nat->Bool:=λ_=>false
def oH:Sig vw:={params:=[.vh 100000,CT],objs:=[(100000,Oq8)],rcut:=iC,rvars:=[.tmp 4],keep:=[2004]}
noncomputable def lB(v:Int×(List Int)×Unit):Option ((List Int)×Unit):=if decide (IntKind.u32.wrap v.1<=(2047:Int))=true then if v.2.1.length+[Bs.ior u8 (192:Int) (u8.wrap (Bs.ishr i32 v.1 (6:Int))),Bs.ior u8 (128:Int) (Bs.iand u8 (u8.wrap v.1) (63:Int))].length<=(4294967296:Nat)then some ((v.2.1++[Bs.ior u8 (192:Int) (u8.wrap (Bs.ishr i32 v.1 (6:Int))),Bs.ior u8 (128:Int) (Bs.iand u8 (u8.wrap v.1) (63:Int))],()))else none else(if decide (IntKind.u32.wrap v.1<(55296:Int))=true then some (v.1,IntKind.u32.wrap v.1,true,v.2)else(if decide ((57343:Int)<IntKind.u32.wrap v.1)=true then some ((v.1,IntKind.u32.wrap v.1,decide (IntKind.u32.wrap v.1<=(65535:Int)),v.2))else some (v.1,IntKind.u32.wrap v.1,false,v.2))>>=λx1=>some (x1))>>=λx1=>if x1.2.2.1=true then if x1.2.2.2.1.length+[Bs.ior u8 (224:Int) (u8.wrap (Bs.ishr i32 x1.1 (12:Int))),Bs.ior u8 (128:Int) (Bs.iand u8 (u8.wrap (Bs.ishr i32 x1.1 (6:Int))) (63:Int)),Bs.ior u8 (128:Int) (Bs.iand u8 (u8.wrap x1.1) (63:Int))].length<=(4294967296:Nat)then some ((x1.2.2.2.1++[Bs.ior u8 (224:Int) (u8.wrap (Bs.ishr i32 x1.1 (12:Int))),Bs.ior u8 (128:Int) (Bs.iand u8 (u8.wrap (Bs.ishr i32 x1.1 (6:Int))) (63:Int)),Bs.ior u8 (128:Int) (Bs.iand u8 (u8.wrap x1.1) (63:Int))],()))else none else(if decide (x1.2.1>(65535:Int))=true then some ((x1.1,decide (x1.2.1<=(1114111:Int)),x1.2.2.2))else some (x1.1,false,x1.2.2.2))>>=λx2=>if x2.2.1=true then if x2.2.2.1.length+[Bs.ior u8 (240:Int) (u8.wrap (Bs.ishr i32 x2.1 (18:Int))),Bs.ior u8 (128:Int) (Bs.iand u8 (u8.wrap (Bs.ishr i32 x2.1 (12:Int))) (63:Int)),Bs.ior u8 (128:Int) (Bs.iand u8 (u8.wrap (Bs.ishr i32 x2.1 (6:Int))) (63:Int)),Bs.ior u8 (128:Int) (Bs.iand u8 (u8.wrap x2.1) (63:Int))].length<=(4294967296:Nat)then some ((x2.2.2.1++[Bs.ior u8 (240:Int) (u8.wrap (Bs.ishr i32 x2.1 (18:Int))),Bs.ior u8 (128:Int) (Bs.iand u8 (u8.wrap (Bs.ishr i32 x2.1 (12:Int))) (63:Int)),Bs.ior u8 (128:Int) (Bs.iand u8 (u8.wrap (Bs.ishr i32 x2.1 (6:Int))) (63:Int)),Bs.ior u8 (128:Int) (Bs.iand u8 (u8.wrap x2.1) (63:Int))],()))else none else if x2.2.2.1.length+[(239:Int),(191:Int),(189:Int)].length<=(4294967296:Nat)then some ((x2.2.2.1++[(239:Int),(191:Int),(189:Int)],()))else none
def CQ:Xc vw:={P:=prog,n:=78,call:=c0,pre:=vM,sh:=y6,joins:=λk=>match k with|7=>some (m9,[.norm])|_=>none,regs:=λk=>match k with|6=>some m9|8=>some uN|_=>none}
theorem rx:bc prog 135 oH lB:=λv r x h hx=>
 bj (X:=CQ) (sig:=oH) rfl Tryz.func135 (c:=aa Tryz.f135) (by kernel_rfl) Tryz.ntmps135 (by kernel_rfl) (by kernel_rfl) rfl Ty.mixed j4 rfl (λC hP hN=>(au (am (by kernel_rfl) trivial))) (am (by kernel_rfl) h) x hx
def yZ:ba vw:={rcut:=iC}
def vK:Nat->Bool:=λ_=>false
def oF:Sig vw:={params:=[.vh 100000,CT],objs:=[(100000,Oq8)],rcut:=iC,rvars:=[.tmp 4],keep:=[2004]}
noncomputable def iN(v:Int×(List Int)×Unit):Option ((List Int)×Unit):=if decide (IntKind.u32.wrap v.1<=(127:Int))=true then if v.2.1.length+[u8.wrap v.1].length<=(4294967296:Nat)then some ((v.2.1++[u8.wrap v.1],()))else none else lB v>>=λx1=>some (x1)
def lS:=kO rx k0
def CO:Xc vw:={P:=prog,n:=16,call:=lS.1,pre:=vK,sh:=yZ}
theorem ru:bc prog 121 oF iN:=λv r x h hx=>
 bj (X:=CO) (sig:=oF) rfl Tryz.func121 (c:=aa Tryz.f121) (by kernel_rfl) Tryz.ntmps121 (by kernel_rfl) (by kernel_rfl) rfl Ty.mixed lS.2 rfl (λC hP hN=>(au (am (by kernel_rfl) trivial))) (am (by kernel_rfl) h) x hx
def uM:Cut SN:=⟨[(0, .bp 100000 0),(42,Dq4)],[(100000, .st .readerT)]⟩
def pH:Cut SN:=⟨[(0, .bp 100000 0),(6,Dq4)],[(100000, .st .readerT)]⟩
def y5:ba vw:={rcut:=pH}
def vL:Nat->Bool:=λ_=>false
def oG:Sig vw:={params:=[.bp 100000 0,Dq7,Dq7],objs:=[(100000, .st .readerT)],rcut:=pH,rvars:=[.tmp 6],keep:=[100000]}
noncomputable def lz(v:Int×Int×ap×Unit):Option (Bool×ap×Unit):=(if(v.2.2.1.at0==(↑v.2.2.1.s.size:Int))=true then some (true,v.2.2)else if(0:Int)<=v.2.2.1.at0 then v.2.2.1.s[v.2.2.1.at0.toNat]?>>=λx1=>if decide ((↑x1.toNat:Int)<v.1)=true then some (true,v.2.2)else if(0:Int)<=v.2.2.1.at0 then v.2.2.1.s[v.2.2.1.at0.toNat]?>>=λx2=>some ((decide ((↑x2.toNat:Int)>v.2.1),v.2.2))else none else none)>>=λx1=>if x1.1=true then some (false,x1.2)else some ((true,ap.mk x1.2.1.s (i64.wrap (x1.2.1.at0+(1:Int))),()))
def CP:Xc vw:={P:=prog,n:=50,call:=c0,pre:=vL,sh:=y5,regs:=λk=>match k with|1=>some uM|_=>none}
theorem rv:bc prog 122 oG lz:=λv r x h hx=>
 bj (X:=CP) (sig:=oG) rfl Tryz.func122 (c:=aa Tryz.f122) (by kernel_rfl) Tryz.ntmps122 (by kernel_rfl) (by kernel_rfl) rfl Ty.mixed j4 rfl (λC hP hN=>(au (am (by kernel_rfl) trivial))) (am (by kernel_rfl) h) x hx
def xJ:Cut SN:=⟨[(1, .bp 1 0),(2, .bp 2 0),(3, .bp 3 0),(14,Dq2),(15,Dq1),(16,Dq1)],[(1, .st .tagT),(2, .st .sizeT),(3, .st .sizeT)]⟩
def zS:Cut SN:=⟨[(2, .bp 2 0),(3, .bp 3 0),(28,Dq6),(29,Dq1),(30,Dq1)],[(2, .st .sizeT),(3, .st .sizeT)]⟩
def KJ:Cut SN:=⟨[(1, .bp 1 0),(2, .bp 2 0),(3, .bp 3 0)],[(1, .st .tagT),(2, .st .sizeT),(3, .st .sizeT)]⟩
def KK:Cut SN:=⟨[(2, .bp 2 0),(3, .bp 3 0)],[(2, .st .sizeT),(3, .st .sizeT)]⟩
def Mo:Cut SN:=⟨[(2, .bp 2 0)],[(2, .st .sizeT)]⟩
def IC:ba vw:=shL [(0,KJ),(2,KK)] Mo
def DX:Nat->Bool:=λ_=>false
def mr:Sig vw:=sg [Dq3] Mo [.cell 2 57]
abbrev EX:=(List ByteArray)×Int×Int×Tag×cF×cF×Unit
abbrev EY:=Tag×cF×cF×Unit
noncomputable def cB(v:EX):Option ((EY)):=if decide (v.2.2.1<v.2.1)=true then if(0:Int)<=v.2.2.1 then v.1[v.2.2.1.toNat]?>>=λx1=>cB (v.1,v.2.1,i64.wrap (v.2.2.1+(1:Int)),v.2.2.2.1,v.2.2.2.2.1,cF.mk v.2.2.2.2.2.1.depth v.2.2.2.2.2.1.pieces (i64.wrap (v.2.2.2.2.2.1.bytes+(↑x1.size:Int))),())else none else some (v.2.2.2) partial_fixpoint
abbrev zC:=(List Tag)×Int×Int×cF×cF×Unit
mutual
noncomputable def dR(v:zC):Option ((cF×cF×Unit)):=if decide (v.2.2.1<v.2.1)=true then if(0:Int)<=v.2.2.1 then v.1[v.2.2.1.toNat]?>>=λx1=>n_42 (x1,())>>=λx2=>dR (v.1,v.2.1,i64.wrap (v.2.2.1+(1:Int)),v.2.2.2.1,cF.mk (max v.2.2.2.2.1.depth x2.1.depth) (i64.wrap (v.2.2.2.2.1.pieces+x2.1.pieces)) (i64.wrap (v.2.2.2.2.1.bytes+x2.1.bytes)),())else none else some (v.2.2.2) partial_fixpoint
noncomputable def n_42(v:Tag×Unit):Option (cF×Unit):=cB (v.1.names,(↑v.1.names.length:Int),(0:Int),v.1,cF.mk (0:Int) (0:Int) (0:Int),cF.mk (0:Int) (1:Int) (↑v.1.text.size:Int),())>>=λx1=>dR (x1.1.parts,(↑x1.1.parts.length:Int),(0:Int),x1.2)>>=λx2=>some ((cF.mk (i64.wrap (x2.2.1.depth+(1:Int))) x2.2.1.pieces x2.2.1.bytes,())) partial_fixpoint
end
def wA(cB:EX->Option ((EY)))(dR:zC->Option ((cF×cF×Unit)))(n_42:Tag×Unit->Option (cF×Unit)):bm vw:=λA fid args S k=>match fid with|42=>bg prog mr n_42 A args S k|_=>none
def x42(cB:EX->Option ((EY)))(dR:zC->Option ((cF×cF×Unit)))(n_42:Tag×Unit->Option (cF×Unit)):Xc vw:={P:=prog,n:=58,call:=wA cB dR n_42,pre:=DX,sh:=IC,loops:=λk=>match k with|3=>some {cut:=xJ,alts:=[.exit 0],F:=cB}|8=>some {cut:=zS,alts:=[.exit 2],F:=dR}|_=>none}
abbrev rh(v:EX)(r:(EY)):Prop:=(λv out=>∀C:Ctx,C.P=prog->C.N=58/\Fx C DX->d6 C (ae (aa Tryz.f42) 0) (Go.Tx.az vw (bh vw xJ v)) (eF IC [.exit 0] out)) v r
theorem F9(f0:EX->Option ((EY)))(h0:∀v r,f0 v=some r->rh v r):ay prog (x42 f0 (λ_=>none) (λ_=>none)).call:=(by
 intro A fid args S dst k r h
 unfold x42 wA at h
 simp only at h
 split at h
 ·exact aq ((λv r x h hx=>by cases h)) rfl rfl h
 ·cases h)
theorem HG(f0:EX->Option ((EY)))(h0:∀v r,f0 v=some r->rh v r)(v:EX)(r:(EY))(h:exL (x42 f0 (λ_=>none) (λ_=>none)) (ae (aa Tryz.f42) 0) xJ [.exit 0] f0 v=some r):rh v r:=λC hP hN=>aH (X:=x42 f0 (λ_=>none) (λ_=>none)) (b:=(ae (aa Tryz.f42) 0)) hP hN Ty.mixed (F9 f0 h0) (au (X:=x42 f0 (λ_=>none) (λ_=>none)) (c:=(ae (aa Tryz.f42) 0)) (am (by kernel_rfl:True=bv (ax C (x42 f0 (λ_=>none) (λ_=>none))) (aw (ae (aa Tryz.f42) 0))) trivial)) (cut:=xJ) (alts:=[.exit 0]) (F:=f0) (λv out h=>h0 v out h C hP hN) h
theorem Bo:∀v out,cB v=some out->(λv out=>∀C:Ctx,C.P=prog->C.N=58/\Fx C DX->d6 C (ae (aa Tryz.f42) 0) (Go.Tx.az vw (bh vw xJ v)) (eF IC [.exit 0] out)) v out:=(cB.partial_correctness (motive:=rh) (λf0 h0 v r h=>HG f0 h0 v r (am (by kernel_rfl) h)))
abbrev jL(v:zC)(r:(cF×cF×Unit)):Prop:=(λv out=>∀C:Ctx,C.P=prog->C.N=58/\Fx C DX->d6 C (ae (aa Tryz.f42) 1) (Go.Tx.az vw (bh vw zS v)) (eF IC [.exit 2] out)) v r
abbrev A8(v:Tag×Unit)(r:cF×Unit):Prop:=(λv r=>∀x,lG prog mr r=some x->cX prog 42 (encL vw (aD mr v).len (bi mr v).1) (br (aD mr v).len (aD mr v).own) (an vw (bh vw mr.rcut r).len x) (br (bh vw mr.rcut r).len (gO mr r))) v r
theorem F_(f0:zC->Option ((cF×cF×Unit)))(f1:Tag×Unit->Option (cF×Unit))(h0:∀v r,f0 v=some r->jL v r)(h1:∀v r,f1 v=some r->A8 v r):ay prog (x42 (λ_=>none) f0 f1).call:=(by
 intro A fid args S dst k r h
 unfold x42 wA at h
 simp only at h
 split at h
 ·exact aq ((λv r x h hx=>h1 v r h x hx)) rfl rfl h
 ·cases h)
theorem HH(f0:zC->Option ((cF×cF×Unit)))(f1:Tag×Unit->Option (cF×Unit))(h0:∀v r,f0 v=some r->jL v r)(h1:∀v r,f1 v=some r->A8 v r)(v:zC)(r:(cF×cF×Unit))(h:exL (x42 (λ_=>none) f0 f1) (ae (aa Tryz.f42) 1) zS [.exit 2] f0 v=some r):jL v r:=λC hP hN=>aH (X:=x42 (λ_=>none) f0 f1) (b:=(ae (aa Tryz.f42) 1)) hP hN Ty.mixed (F_ f0 f1 h0 h1) (au (X:=x42 (λ_=>none) f0 f1) (c:=(ae (aa Tryz.f42) 1)) (am (by kernel_rfl:True=bv (ax C (x42 (λ_=>none) f0 f1)) (aw (ae (aa Tryz.f42) 1))) trivial)) (cut:=zS) (alts:=[.exit 2]) (F:=f0) (λv out h=>h0 v out h C hP hN) h
theorem KZ(f0:zC->Option ((cF×cF×Unit)))(h0:∀v r,f0 v=some r->jL v r):ay prog (x42 cB f0 (λ_=>none)).call:=(by
 intro A fid args S dst k r h
 unfold x42 wA at h
 simp only at h
 split at h
 ·exact aq ((λv r x h hx=>by cases h)) rfl rfl h
 ·cases h)
theorem LS(f0:zC->Option ((cF×cF×Unit)))(h0:∀v r,f0 v=some r->jL v r)(v:Tag×Unit)(r:cF×Unit)(h:exF (x42 cB f0 (λ_=>none)) mr rfl (aa Tryz.f42) v=some r):A8 v r:=λx hx=>bj (X:=x42 cB f0 (λ_=>none)) (sig:=mr) rfl Tryz.func42 (c:=aa Tryz.f42) (by kernel_rfl) Tryz.ntmps42 (by kernel_rfl) (by kernel_rfl) rfl Ty.mixed (KZ f0 h0) rfl (λC hP hN=>(au (X:=x42 cB f0 (λ_=>none)) (c:=(aa Tryz.f42)) (am (by kernel_rfl:bv (ax C (x42 cB f0 (λ_=>none))) [(ae (aa Tryz.f42) 0),(ae (aa Tryz.f42) 1)]=bv (ax C (x42 cB f0 (λ_=>none))) (aw (aa Tryz.f42))) ⟨bd (X:=x42 cB f0 (λ_=>none)) (b:=(ae (aa Tryz.f42) 0)) (by kernel_rfl) (show bC C (ae (aa Tryz.f42) 0) (sh:=IC) {cut:=xJ,alts:=[.exit 0],F:=cB}fromλv out h=>Bo v out h C hP hN),bd (X:=x42 cB f0 (λ_=>none)) (b:=(ae (aa Tryz.f42) 1)) (by kernel_rfl) (show bC C (ae (aa Tryz.f42) 1) (sh:=IC) {cut:=zS,alts:=[.exit 2],F:=f0}fromλv out h=>h0 v out h C hP hN),trivial⟩))) h x hx
theorem yq:(∀v r,dR v=some r->jL v r)/\(∀v r,n_42 v=some r->A8 v r):=by
 refine dR.mutual_partial_correctness
  (motive_1:=jL)
  (motive_2:=A8)
  ?_ ?_
 ·exact(λf0 f1 h0 h1 v r h=>HH f0 f1 h0 h1 v r (am (by kernel_rfl) h))
 ·exact(λf0 h0 v r h=>LS f0 h0 v r (am (by kernel_rfl) h))
theorem vv:bc prog 42 mr n_42:=λv r x h hx=>yq.2 v r h x hx
def KE:Cut SN:=⟨[(1, .bp 1 0),(6,Dq4)],[(1, .st .tagT)]⟩
def J8:Cut SN:=⟨[(2,Dq1)],[]⟩
def Nb:ba vw:={rcut:=J8}
def Ly:Nat->Bool:=λ_=>false
def JO:Sig vw:=sg [Dq3] J8 [.tmp 2]
noncomputable def tD(v:Tag×Unit):Option (Int×Unit):=n_42 v>>=λx1=>(if decide (x1.1.depth>(20:Int))=true then some (true,v)else if decide (x1.1.pieces>(500:Int))=true then some (true,v)else some ((decide (x1.1.bytes>(4096:Int)),v)))>>=λx2=>if x2.1=true then some (((3:Int),()))else n_51 x2.2>>=λx3=>if(!x3.1)=true then some (((1:Int),()))else n_52 x2.2>>=λx4=>if x4.1=true then some (((5:Int),()))else some (((0:Int),()))
def Fj:=kP vv (kP G_ (kP Ha k0))
def x29:Xc vw:={P:=prog,n:=27,call:=Fj.1,pre:=Ly,sh:=Nb,regs:=λk=>match k with|2=>some KE|_=>none}
theorem lC:bc prog 29 JO tD:=λv r x h hx=>
 bj (X:=x29) (sig:=JO) rfl Tryz.func29 (c:=aa Tryz.f29) (by kernel_rfl) Tryz.ntmps29 (by kernel_rfl) (by kernel_rfl) rfl Ty.mixed Fj.2 rfl (λC hP hN=>(au (am (by kernel_rfl) trivial))) (am (by kernel_rfl) h) x hx
abbrev Oq9:OPt SN:= .vec 9 .str
def gU:Cut SN:=⟨[(2, .vh 2002)],[(2002,Oq9)]⟩
def B_:ba vw:={rcut:=gU}
def yJ:Nat->Bool:=λ_=>false
def ee:Sig vw:={params:=[Dq2],rcut:=gU,rvars:=[.tmp 2],keep:=[2002]}
noncomputable def df(v:(List ByteArray)×Unit):Option ((List ByteArray)×Unit):=if v.1.length<=4294967296 then some (v.1,())else none
def mU:Xc vw:={P:=prog,n:=8,nm:=λd=>match d with|5=>40005|_=>d,call:=c0,pre:=yJ,sh:=B_}
theorem eA:bc prog 53 ee df:=λv r x h hx=>by
 unfold df at h
 split at h
 ·rename_i hlen
  cases h;cases hx
  refine am (by kernel_rfl) (Dl (P:=prog) (f:=53) (sz:=1) (rows:=(v.1.map λy=>Go.Tx.aT szN Al .str y)) (r:= .vh 2002 v.1.length) (own':=[(2002, .vec 9 1 (v.1.map λy=>Go.Tx.aT szN Al .str y))]) (λhne=> ?_) (λhe=> ?_) (λhe a cap=> ?_))
  ·obtain⟨l,u⟩:=v
   cases l with
   |nil=>simp at hne
   |cons y ys=>
    have e:exF mU ee rfl (aa Tryz.f53) (y::ys,())=if([]:(List ByteArray)).length+(y::ys).length<=most then some ([]++(y::ys),())else none:=by kernel_rfl
    rw[Q6 (by simp only[OJ,N2];exact hlen)]at e
    exact am (by kernel_rfl) (bj (X:=mU) (sig:=ee) rfl Tryz.func53 (c:=aa Tryz.f53) (by kernel_rfl) Tryz.ntmps53 (by kernel_rfl) (by kernel_rfl) rfl Ty.mixed j4 rfl (λC hP hN=>(au (am (by kernel_rfl) trivial))) (v:=(y::ys,())) e (.vh 2002) rfl)
  ·have hv:v.1=[]:=by simpa using he
   obtain⟨l,u⟩:=v
   cases hv
   exact am (by kernel_rfl) (Fs (X:=mU) (sig:=ee) rfl Tryz.func53 (c:=aa Tryz.f53) (by kernel_rfl) Tryz.ntmps53 (by kernel_rfl) (by kernel_rfl) Ty.mixed j4 rfl (λC hP hN=>(au (am (by kernel_rfl) trivial))) (xs:=[.raw (.slice none 0 0)]) (by kernel_rfl) (r:=([],())) (by kernel_rfl) (.vh 2002) rfl)
  ·have hv:v.1=[]:=by simpa using he
   obtain⟨l,u⟩:=v
   cases hv
   exact am (by kernel_rfl) (Fs (X:=mU) (sig:=ee) rfl Tryz.func53 (c:=aa Tryz.f53) (by kernel_rfl) Tryz.ntmps53 (by kernel_rfl) (by kernel_rfl) Ty.mixed j4 rfl (λC hP hN=>(au (am (by kernel_rfl) trivial))) (xs:=[.raw (.slice (some a) 0 cap)]) (by kernel_rfl) (r:=([],())) (by kernel_rfl) (.vh 2002) rfl)
 ·cases h
abbrev Kr:OPt SN:= .dvec 25 (.st .tagT)
def fH:Cut SN:=⟨[(1, .bp 1 0),(2, .bp 2 0),(3, .vh 1003),(11,Dq6),(12,Dq1),(13,Dq1)],[(1, .box none [Dq1,Dq1,Dq5, .vh 3013,Dq6]),(2, .st .tagT),(1003,Kr false),(3013,Oq9)]⟩
def xI:Cut SN:=⟨[(1, .bp 1 0),(2, .bp 2 0),(3, .vh 1003)],[(1, .box none [Dq1,Dq1,Dq5, .vh 3013,Dq6]),(2, .st .tagT),(1003,Kr false),(3013,Oq9)]⟩
def sn:Cut SN:=⟨[(2, .bp 2 0)],[(2, .box none [Dq1,Dq1,Dq5, .vh 6023, .vh 6024]),(6023,Oq9),(6024,Kr false)]⟩
def oq:ba vw:=shL [(0,xI)] sn
def p7:Nat->Bool:=λk=>match k with|1000020=>true|_=>false
def bZ:Sig vw:={params:=[Dq3],rcut:=sn,rvars:=[.cell 2 25],keep:=[6023,6024]}
abbrev Tq3:=(List Tag)×Int×Int×Int×Int×ByteArray×(List Tag)×Tag×(List Tag)×(List ByteArray)×Unit
abbrev Tq8:=Int×Int×ByteArray×(List Tag)×Tag×(List Tag)×(List ByteArray)×Unit
abbrev EW:=Int×Int×ByteArray×(List ByteArray)×(List Tag)×Unit
mutual
noncomputable def bB(v:Tq3):Option ((Tq8)):=if decide (v.2.2.1<v.2.1)=true then if(0:Int)<=v.2.2.1 then v.1[v.2.2.1.toNat]?>>=λx1=>n_31s06c9 (x1,())>>=λx2=>if v.2.2.2.2.2.2.2.2.1.length+[Tag.mk x2.1 x2.2.1 x2.2.2.1 x2.2.2.2.1 x2.2.2.2.2.1].length<=(4294967296:Nat)then bB (v.1,v.2.1,i64.wrap (v.2.2.1+(1:Int)),v.2.2.2.1,v.2.2.2.2.1,v.2.2.2.2.2.1,v.2.2.2.2.2.2.1,v.2.2.2.2.2.2.2.1,v.2.2.2.2.2.2.2.2.1++[Tag.mk x2.1 x2.2.1 x2.2.2.1 x2.2.2.2.1 x2.2.2.2.2.1],v.2.2.2.2.2.2.2.2.2)else none else none else some (v.2.2.2) partial_fixpoint
noncomputable def n_31s06c9(v:Tag×Unit):Option (EW):=df (v.1.names,())>>=λx1=>bB (v.1.parts,(↑v.1.parts.length:Int),(0:Int),v.1.kind,v.1.n,v.1.text,v.1.parts,Tag.mk (0:Int) (0:Int) (NA #[]) [] [],[],x1)>>=λx2=>some ((x2.1,x2.2.1,x2.2.2.1,x2.2.2.2.2.2.2.1,x2.2.2.2.2.2.1,())) partial_fixpoint
end
def js(bB:Tq3->Option ((Tq8)))(n_31s06c9:Tag×Unit->Option (EW)):bm vw:=λA fid args S k=>match fid with|31=>bN prog bZ n_31s06c9 A args S k|53=>bN prog ee df A args S k|_=>none
def cE(bB:Tq3->Option ((Tq8)))(n_31s06c9:Tag×Unit->Option (EW)):Xc vw:={P:=prog,n:=26,call:=js bB n_31s06c9,pre:=p7,sh:=oq,loops:=λk=>match k with|4=>some {cut:=fH,alts:=[.exit 0],F:=bB}|_=>none}
abbrev cL(v:Tq3)(r:(Tq8)):Prop:=(λv out=>∀C:Ctx,C.P=prog->C.N=26/\Fx C p7->d6 C (ae (aa Tryz.f31) 0) (Go.Tx.az vw (bh vw fH v)) (eF oq [.exit 0] out)) v r
abbrev fR(v:Tag×Unit)(r:EW):Prop:=(λv r=>∀x,lG prog bZ r=some x->cX prog 31 (encL vw (aD bZ v).len (bi bZ v).1) (br (aD bZ v).len (aD bZ v).own) (an vw (bh vw bZ.rcut r).len x) (br (bh vw bZ.rcut r).len (gO bZ r))) v r
theorem sF(f0:Tq3->Option ((Tq8)))(f1:Tag×Unit->Option (EW))(h0:∀v r,f0 v=some r->cL v r)(h1:∀v r,f1 v=some r->fR v r):ay prog (cE f0 f1).call:=(by
 intro A fid args S dst k r h
 unfold cE js at h
 simp only at h
 split at h
 ·exact aA ((λv r x h hx=>h1 v r h x hx)) h
 ·exact aA (eA) h
 ·cases h)
theorem uf(f0:Tq3->Option ((Tq8)))(f1:Tag×Unit->Option (EW))(h0:∀v r,f0 v=some r->cL v r)(h1:∀v r,f1 v=some r->fR v r)(v:Tq3)(r:(Tq8))(h:exL (cE f0 f1) (ae (aa Tryz.f31) 0) fH [.exit 0] f0 v=some r):cL v r:=λC hP hN=>aH (X:=cE f0 f1) (b:=(ae (aa Tryz.f31) 0)) hP hN Ty.mixed (sF f0 f1 h0 h1) (au (X:=cE f0 f1) (c:=(ae (aa Tryz.f31) 0)) (am (by kernel_rfl:True=bv (ax C (cE f0 f1)) (aw (ae (aa Tryz.f31) 0))) trivial)) (cut:=fH) (alts:=[.exit 0]) (F:=f0) (λv out h=>h0 v out h C hP hN) h
theorem xU(f0:Tq3->Option ((Tq8)))(h0:∀v r,f0 v=some r->cL v r):ay prog (cE f0 (λ_=>none)).call:=(by
 intro A fid args S dst k r h
 unfold cE js at h
 simp only at h
 split at h
 ·exact aA ((λv r x h hx=>by cases h)) h
 ·exact aA (eA) h
 ·cases h)
theorem y9(f0:Tq3->Option ((Tq8)))(h0:∀v r,f0 v=some r->cL v r)(v:Tag×Unit)(r:EW)(h:exF (cE f0 (λ_=>none)) bZ rfl (aa Tryz.f31) v=some r):fR v r:=λx hx=>bj (X:=cE f0 (λ_=>none)) (sig:=bZ) rfl Tryz.func31 (c:=aa Tryz.f31) (by kernel_rfl) Tryz.ntmps31 (by kernel_rfl) (by kernel_rfl) rfl Ty.mixed (xU f0 h0) rfl (λC hP hN=>(au (X:=cE f0 (λ_=>none)) (c:=(aa Tryz.f31)) (am (by kernel_rfl:bv (ax C (cE f0 (λ_=>none))) [(ae (aa Tryz.f31) 0)]=bv (ax C (cE f0 (λ_=>none))) (aw (aa Tryz.f31))) ⟨bd (X:=cE f0 (λ_=>none)) (b:=(ae (aa Tryz.f31) 0)) (by kernel_rfl) (show bC C (ae (aa Tryz.f31) 0) (sh:=oq) {cut:=fH,alts:=[.exit 0],F:=f0}fromλv out h=>h0 v out h C hP hN),trivial⟩))) h x hx
theorem nX:(∀v r,bB v=some r->cL v r)/\(∀v r,n_31s06c9 v=some r->fR v r):=by
 refine bB.mutual_partial_correctness
  (motive_1:=cL)
  (motive_2:=fR)
  ?_ ?_
 ·exact(λf0 f1 h0 h1 v r h=>uf f0 f1 h0 h1 v r (am (by kernel_rfl) h))
 ·exact(λf0 h0 v r h=>y9 f0 h0 v r (am (by kernel_rfl) h))
theorem tE:bc prog 31 bZ n_31s06c9:=λv r x h hx=>nX.2 v r h x hx
def F5:Cut SN:=⟨[(0,Dq2),(1,Dq5),(7,Dq1),(8,Dq1)],[]⟩
def LM:ba vw:=shL [(0,eu)] cZ
def Jt:Nat->Bool:=λ_=>false
def Hz:Sig vw:=sg [Dq2,Dq5] cZ [.tmp 4]
abbrev Mg:=(List ByteArray)×ByteArray×Int×Int×Unit
noncomputable def jh(v:Mg):Option (((Int×Unit)⊕(Unit))):=if decide (v.2.2.2.1<v.2.2.1)=true then if(0:Int)<=v.2.2.2.1 then v.1[v.2.2.2.1.toNat]?>>=λx1=>if(v.2.1.toList==x1.toList)=true then some (OC v.2.2.2)else jh (v.1,v.2.1,v.2.2.1,i64.wrap (v.2.2.2.1+(1:Int)),())else none else some (OR ()) partial_fixpoint
noncomputable def Fz(v:(List ByteArray)×ByteArray×Unit):Option (Int×Unit):=jh (v.1,v.2.1,(↑v.1.length:Int),(0:Int),())>>=λx1=>match x1 with| .inl y1=>some y1| .inr y1=>some (((-1:Int),()))
def x58:Xc vw:={P:=prog,n:=19,call:=c0,pre:=Jt,sh:=LM,loops:=λk=>match k with|2=>some {cut:=F5,alts:=[.ret, .exit 0],F:=jh}|_=>none}
theorem Bv(C:Ctx)(hP:C.P=prog)(hN:C.N=19/\Fx C Jt):bC C (ae (aa Tryz.f58) 0) (sh:=LM) {cut:=F5,alts:=[.ret, .exit 0],F:=jh}:=
 jh.partial_correctness (motive:=λv out=>d6 C (ae (aa Tryz.f58) 0) (Go.Tx.az vw (bh vw F5 v)) (eF LM [.ret, .exit 0] out)) λF ih v out h=>
  aH (X:=x58) (b:=(ae (aa Tryz.f58) 0)) hP hN Ty.mixed j4 (au (X:=x58) (c:=(ae (aa Tryz.f58) 0)) (am (by kernel_rfl:True=bv (ax C (x58)) (aw (ae (aa Tryz.f58) 0))) trivial)) ih (am (by kernel_rfl) h)
theorem rB:bc prog 58 Hz Fz:=λv r x h hx=>
 bj (X:=x58) (sig:=Hz) rfl Tryz.func58 (c:=aa Tryz.f58) (by kernel_rfl) Tryz.ntmps58 (by kernel_rfl) (by kernel_rfl) rfl Ty.mixed j4 rfl (λC hP hN=>(au (am (by kernel_rfl:bv (ax C (x58)) [(ae (aa Tryz.f58) 0)]=bv (ax C (x58)) (aw (aa Tryz.f58))) ⟨bd (X:=x58) (b:=(ae (aa Tryz.f58) 0)) (by kernel_rfl) (Bv C hP hN),trivial⟩))) (am (by kernel_rfl) h) x hx
def ME:Cut SN:=⟨[(2,Dq1),(3, .dat .er)],[]⟩
def LO:Sig vw:=sg [Dq5] ME [.tmp 2, .tmp 3]
noncomputable def Ki(v:ByteArray×Unit):Option (Int×Bool×Unit):=if v.1.size<=1000000000000 then(match Lib.atoiAll v.1.data.toList with| .ok n=>some (n,false,())| .range=>some (Lib.atoiSat v.1.data.toList,true,())|_=>some (0,true,()))else none
theorem Hd:bc prog 59 LO Ki:=λv r x h hx=>by
 obtain⟨s,u⟩:=v
 unfold Ki at h
 split at h
 ·rename_i hc
  simp only at hc h
  cases hq:Lib.atoiAll s.data.toList with
  |ok n=>
   simp only[hq]at h
   cases h;cases hx
   exact am (by kernel_rfl) (cX.pure (P:=prog) (f:=59) (args:=[.d (.v (.string s))]) (r:= .tup [.d (.v (.int .i64 n)), .d (.er false)]) (by kernel_rfl) λE M w vs hg hm hv=>by
    obtain⟨v1,rfl,h1⟩:=dP hv
    rw[h1.dv]
    exact(Tryz.strconv_Atoi_ok s (by omega) n hq w).mono λe w' ⟨he,hw⟩=>⟨_,he,vg .ern,uH hw⟩)
  |range=>
   simp only[hq]at h
   cases h;cases hx
   exact am (by kernel_rfl) (cX.pure (P:=prog) (f:=59) (args:=[.d (.v (.string s))]) (r:= .tup [.d (.v (.int .i64 (Lib.atoiSat s.data.toList))), .d (.er true)]) (by kernel_rfl) λE M w vs hg hm hv=>by
    obtain⟨v1,rfl,h1⟩:=dP hv
    rw[h1.dv]
    obtain⟨te,pe,hev⟩:=Dn hg hm
    exact(Tryz.strconv_Atoi_range s (by omega) hq _ w hev (.inr ⟨te,pe,rfl⟩)).mono λe w' ⟨N,he,_,_,hw⟩=>⟨_,he,vg (.ere _ _),hw⟩)
  |_=>
   simp only[hq]at h
   cases h;cases hx
   exact am (by kernel_rfl) (cX.pure (P:=prog) (f:=59) (args:=[.d (.v (.string s))]) (r:= .tup [.d (.v (.int .i64 0)), .d (.er true)]) (by kernel_rfl) λE M w vs hg hm hv=>by
    obtain⟨v1,rfl,h1⟩:=dP hv
    rw[h1.dv]
    obtain⟨te,pe,hev⟩:=AB hg hm
    exact(Tryz.strconv_Atoi_syntax s (by omega) ⟨λn hn=>(by rw[hq]at hn;cases hn),λhn=>(by rw[hq]at hn;cases hn)⟩ _ w hev (.inr ⟨te,pe,rfl⟩)).mono λe w' ⟨N,he,_,_,hw⟩=>⟨_,he,vg (.ere _ _),hw⟩)
 ·cases h
def LP:Sig vw:=sg [Dq1] C9 [.tmp 2]
noncomputable def Kj(v:Int×Unit):Option (ByteArray×Unit):=if-9223372036854775808<=v.1/\v.1<=9223372036854775807 then some (⟨(Lib.itoa v.1).toArray⟩,())else none
theorem He:bc prog 60 LP Kj:=λv r x h hx=>by
 obtain⟨n,u⟩:=v
 unfold Kj at h
 split at h
 ·rename_i hc
  obtain⟨h0,h1⟩:=hc
  simp only at h0 h1
  cases h;cases hx
  exact am (by kernel_rfl) (cX.pure (P:=prog) (f:=60) (args:=[.d (.v (.int .i64 n))]) (r:= .d (.v (.string ⟨(Lib.itoa n).toArray⟩))) (by kernel_rfl) λE M w vs hg hm hv=>by
   obtain⟨v1,rfl,h2⟩:=dP hv
   rw[h2.dv]
   exact(Tryz.strconv_Itoa n h0 h1 w (Cp hg hm)).mono λe w' ⟨he,k,os,hw⟩=>⟨_,he, .d (.v _),hw▸Lib.below_grow _ w (NY _) k os⟩)
 ·cases h
def KI:Cut SN:=⟨[(5,Dq1),(42,Dq4)],[]⟩
def Nd:ba vw:={rcut:=cZ}
def LA:Nat->Bool:=λ_=>false
def JR:Sig vw:=sg [Dq3,Dq5] cZ [.tmp 4]
noncomputable def Kh(v:Tag×ByteArray×Unit):Option (Int×Unit):=if(v.1.kind==(6:Int))=true then Fz (v.1.names,v.2)>>=λx1=>some (x1)else Ki v.2>>=λx1=>(if(v.1.kind !=(5:Int))=true then some ((x1.1,true,()))else if x1.2.1=true then some ((x1.1,true,()))else if decide (x1.1<(0:Int))=true then some ((x1.1,true,()))else if decide (x1.1>(↑v.1.parts.length:Int))=true then some ((x1.1,true,()))else Kj (x1.1,())>>=λx2=>some ((x1.1,!x2.1.toList==v.2.1.toList,())))>>=λx2=>if x2.2.1=true then some (((-1:Int),()))else some ((x2.1,()))
def Fl:=kP rB (kP Hd (kP He k0))
def x39:Xc vw:={P:=prog,n:=44,call:=Fl.1,pre:=LA,sh:=Nd,regs:=λk=>match k with|4=>some KI|_=>none}
theorem G5:bc prog 39 JR Kh:=λv r x h hx=>
 bj (X:=x39) (sig:=JR) rfl Tryz.func39 (c:=aa Tryz.f39) (by kernel_rfl) Tryz.ntmps39 (by kernel_rfl) (by kernel_rfl) rfl Ty.mixed Fl.2 rfl (λC hP hN=>(au (am (by kernel_rfl) trivial))) (am (by kernel_rfl) h) x hx
def F3:Cut SN:=⟨[(2, .bp 2 0),(4, .bp 4 0),(9,Dq2),(10,Dq1),(11,Dq1)],[(2, .st .tagT),(4, .st .tagT)]⟩
def KH:Cut SN:=⟨[(2, .bp 2 0),(4, .bp 4 0),(8,Dq1),(9,Dq2),(10,Dq1),(11,Dq1),(26,Dq4)],[(2, .st .tagT),(4, .st .tagT)]⟩
def KG:Cut SN:=⟨[(2, .bp 2 0),(4, .bp 4 0)],[(2, .st .tagT),(4, .st .tagT)]⟩
def Mn:Cut SN:=⟨[(4, .bp 4 0),(5,Dq4)],[(4, .st .tagT)]⟩
def LK:ba vw:=shL [(0,KG)] Mn
def Jr:Nat->Bool:=λ_=>false
def JQ:Sig vw:=sg [Dq3,Dq2] Mn [.cell 4 25, .tmp 5]
abbrev Mf:=(List ByteArray)×Int×Int×Tag×Tag×Unit
noncomputable def nY(v:Mf):Option (((Bool×Tag×Unit)⊕(Tag×Tag×Unit))):=if decide (v.2.2.1<v.2.1)=true then if(0:Int)<=v.2.2.1 then v.1[v.2.2.1.toNat]?>>=λx1=>Kh (v.2.2.2.1,x1,())>>=λx2=>(if decide (x2.1<(0:Int))=true then some (x2.1,v.1,v.2.1,v.2.2.1,true,v.2.2.2)else some ((x2.1,v.1,v.2.1,v.2.2.1,decide (x2.1>=(↑v.2.2.2.1.parts.length:Int)),v.2.2.2)))>>=λx3=>if x3.2.2.2.2.1=true then some (OC (false,Tag.mk (0:Int) (0:Int) (NA #[]) [] [],()))else if(0:Int)<=x3.1 then x3.2.2.2.2.2.1.parts[x3.1.toNat]?>>=λx4=>nY (x3.2.1,x3.2.2.1,i64.wrap (x3.2.2.2.1+(1:Int)),x4,x3.2.2.2.2.2.2)else none else none else some (OR v.2.2.2) partial_fixpoint
noncomputable def Kg(v:Tag×(List ByteArray)×Unit):Option (Bool×Tag×Unit):=nY (v.2.1,(↑v.2.1.length:Int),(0:Int),v.1,Tag.mk (0:Int) (0:Int) (NA #[]) [] [],())>>=λx1=>match x1 with| .inl y1=>some y1| .inr y1=>some ((true,y1.1,()))
def zZ:=kP G5 k0
def x36:Xc vw:={P:=prog,n:=35,call:=zZ.1,pre:=Jr,sh:=LK,regs:=λk=>match k with|5=>some KH|_=>none,loops:=λk=>match k with|2=>some {cut:=F3,alts:=[.ret, .exit 0],F:=nY}|_=>none}
theorem Bn(C:Ctx)(hP:C.P=prog)(hN:C.N=35/\Fx C Jr):bC C (ae (aa Tryz.f36) 0) (sh:=LK) {cut:=F3,alts:=[.ret, .exit 0],F:=nY}:=
 nY.partial_correctness (motive:=λv out=>d6 C (ae (aa Tryz.f36) 0) (Go.Tx.az vw (bh vw F3 v)) (eF LK [.ret, .exit 0] out)) λF ih v out h=>
  aH (X:=x36) (b:=(ae (aa Tryz.f36) 0)) hP hN Ty.mixed zZ.2 (au (X:=x36) (c:=(ae (aa Tryz.f36) 0)) (am (by kernel_rfl:True=bv (ax C (x36)) (aw (ae (aa Tryz.f36) 0))) trivial)) ih (am (by kernel_rfl) h)
theorem G4:bc prog 36 JQ Kg:=λv r x h hx=>
 bj (X:=x36) (sig:=JQ) rfl Tryz.func36 (c:=aa Tryz.f36) (by kernel_rfl) Tryz.ntmps36 (by kernel_rfl) (by kernel_rfl) rfl Ty.mixed zZ.2 rfl (λC hP hN=>(au (am (by kernel_rfl:bv (ax C (x36)) [(ae (aa Tryz.f36) 0)]=bv (ax C (x36)) (aw (aa Tryz.f36))) ⟨bd (X:=x36) (b:=(ae (aa Tryz.f36) 0)) (by kernel_rfl) (Bn C hP hN),trivial⟩))) (am (by kernel_rfl) h) x hx
def Mk:Cut SN:=⟨[(4, .bp 4 0),(5,Dq4),(6,Dq1)],[(4, .st .tagT)]⟩
def M1:ba vw:={rcut:=Mk}
def Lo:Nat->Bool:=λ_=>false
def JC:Sig vw:=sg [Dq3,Dq2] Mk [.cell 4 25, .tmp 5, .tmp 6]
noncomputable def Kf(v:Tag×(List ByteArray)×Unit):Option (Bool×Int×Tag×Unit):=tD (v.1,())>>=λx1=>if(x1.1 !=(0:Int))=true then some ((false,x1.1,Tag.mk (0:Int) (0:Int) (NA #[]) [] [],()))else Kg v>>=λx2=>n_31s06c9 x2.2>>=λx3=>some ((x2.1,(0:Int),Tag.mk x3.1 x3.2.1 x3.2.2.1 x3.2.2.2.1 x3.2.2.2.2.1,()))
def E_:=kP lC (kO tE (kP G4 k0))
def x13:Xc vw:={P:=prog,n:=25,call:=E_.1,pre:=Lo,sh:=M1}
theorem GT:bc prog 13 JC Kf:=λv r x h hx=>
 bj (X:=x13) (sig:=JC) rfl Tryz.func13 (c:=aa Tryz.f13) (by kernel_rfl) Tryz.ntmps13 (by kernel_rfl) (by kernel_rfl) rfl Ty.mixed E_.2 rfl (λC hP hN=>(au (am (by kernel_rfl) trivial))) (am (by kernel_rfl) h) x hx
def E8:Cut SN:=⟨[(2,Dq1),(3,Dq1)],[]⟩
def M3:ba vw:={rcut:=E8}
def Lp:Nat->Bool:=λ_=>false
def JF:Sig vw:=sg [Dq3] E8 [.tmp 2, .tmp 3]
noncomputable def Iq(v:Tag×Unit):Option (Int×Int×Unit):=tD v>>=λx1=>if(x1.1 !=(0:Int))=true then some (((0:Int),x1))else n_42 v>>=λx2=>some ((x2.1.pieces,(0:Int),()))
def Fa:=kP lC (kP vv k0)
def x18:Xc vw:={P:=prog,n:=13,call:=Fa.1,pre:=Lp,sh:=M3}
theorem GU:bc prog 18 JF Iq:=λv r x h hx=>
 bj (X:=x18) (sig:=JF) rfl Tryz.func18 (c:=aa Tryz.f18) (by kernel_rfl) Tryz.ntmps18 (by kernel_rfl) (by kernel_rfl) rfl Ty.mixed Fa.2 rfl (λC hP hN=>(au (am (by kernel_rfl) trivial))) (am (by kernel_rfl) h) x hx
def m_:Cut SN:=⟨[(2,Dq2)],[]⟩
def qq:Sig vw:={params:=[.fn 84 [] [100000]],objs:=[(100000, .box none [Dq2])],rcut:=m_,rvars:=[.tmp 2]}
noncomputable def fW(v:(List ByteArray)×Unit):Option ((List ByteArray)×Unit):=if v.1.length<=8796093020160 then some (sortStr v.1,())else none
theorem im:bc prog 63 qq fW:=λv r x h hx=>by
 obtain⟨xs,u⟩:=v
 unfold fW at h
 split at h
 ·rename_i hc
  cases h;cases hx
  exact am (by kernel_rfl) (cX.sortedVals (P:=prog) (f:=63) (g:=84) (a:=100000) (xs:=xs) (by kernel_rfl) Tryz.sortedVals hc)
 ·cases h
def Mq:Cut SN:=⟨[(2, .fn 84 [] [1])],[(1, .box none [Dq2])]⟩
def Ng:ba vw:={rcut:=Mq}
def LC:Nat->Bool:=λ_=>false
def HA:Sig vw:={params:=[Dq2],rcut:=Mq,rvars:=[.tmp 2],keep:=[1]}
noncomputable def Kk(v:(List ByteArray)×Unit):Option ((List ByteArray)×Unit):=some (v)
def x64:Xc vw:={P:=prog,n:=4,call:=c0,pre:=LC,sh:=Ng}
theorem vz:bc prog 64 HA Kk:=λv r x h hx=>
 bj (X:=x64) (sig:=HA) rfl Tryz.func64 (c:=aa Tryz.f64) (by kernel_rfl) Tryz.ntmps64 (by kernel_rfl) (by kernel_rfl) rfl Ty.mixed j4 rfl (λC hP hN=>(au (am (by kernel_rfl) trivial))) (am (by kernel_rfl) h) x hx
abbrev CU:OPt SN:= .vec 25 (.st .tagT)
def zT:Cut SN:=⟨[(1, .bp 1 0),(2, .bp 2 0),(3, .vh 1003),(10,Dq6),(11,Dq1),(12,Dq1)],[(1, .st .tagT),(2, .st .tagT),(1003,CU)]⟩
def pI:Cut SN:=⟨[(1, .bp 1 0),(2, .bp 2 0),(3, .vh 1003),(6, .bp 6 0),(35,Dq2),(36,Dq1),(37,Dq1)],[(1, .st .tagT),(2, .st .tagT),(1003,CU),(6, .box none [Dq1,Dq1,Dq5,Dq2, .vh 3064]),(3064,CU)]⟩
def E9:Cut SN:=⟨[(2, .bp 2 0),(6, .bp 6 0)],[(2, .st .tagT),(6, .box none [Dq1,Dq1,Dq5,Dq2, .vh 3064]),(3064,CU)]⟩
def KL:Cut SN:=⟨[(1, .bp 1 0),(2, .bp 2 0),(3, .vh 1003)],[(1, .st .tagT),(2, .st .tagT),(1003,CU)]⟩
def J9:Cut SN:=⟨[(2, .bp 2 0)],[(2, .st .tagT)]⟩
def ID:ba vw:=shL [(0,KL),(2,E9)] J9
def DY:Nat->Bool:=λ_=>false
def mu:Sig vw:=sg [Dq3] J9 [.cell 2 25]
abbrev Tq7:=(List ByteArray)×Int×Int×Tag×Tag×(List Tag)×Int×Int×ByteArray×(List ByteArray)×(List Tag)×Unit
abbrev FN:=Tag×Int×Int×ByteArray×(List ByteArray)×(List Tag)×Unit
noncomputable def ck(v:Tq7):Option ((FN)):=if decide (v.2.2.1<v.2.1)=true then if(0:Int)<=v.2.2.1 then v.1[v.2.2.1.toNat]?>>=λx1=>Fz (v.2.2.2.1.names,x1,())>>=λx2=>if(0:Int)<=x2.1/\x2.1<(↑v.2.2.2.2.2.1.length:Int)then v.2.2.2.2.2.1[x2.1.toNat]?>>=λx3=>if v.2.2.2.2.2.2.2.2.2.2.1.length+[x3].length<=(4294967296:Nat)then ck (v.1,v.2.1,i64.wrap (v.2.2.1+(1:Int)),v.2.2.2.1,v.2.2.2.2.1,v.2.2.2.2.2.1,v.2.2.2.2.2.2.1,v.2.2.2.2.2.2.2.1,v.2.2.2.2.2.2.2.2.1,v.2.2.2.2.2.2.2.2.2.1,v.2.2.2.2.2.2.2.2.2.2.1++[x3],())else none else none else none else some (v.2.2.2.2.1,v.2.2.2.2.2.2) partial_fixpoint
abbrev CZ:=(List Tag)×Int×Int×Tag×Tag×(List Tag)×Unit
abbrev C1:=Tag×Tag×(List Tag)×Unit
mutual
noncomputable def ic(v:CZ):Option ((C1)):=if decide (v.2.2.1<v.2.1)=true then if(0:Int)<=v.2.2.1 then v.1[v.2.2.1.toNat]?>>=λx1=>n_43 (x1,())>>=λx2=>if v.2.2.2.2.2.1.length+[x2.1].length<=(4294967296:Nat)then ic (v.1,v.2.1,i64.wrap (v.2.2.1+(1:Int)),v.2.2.2.1,v.2.2.2.2.1,v.2.2.2.2.2.1++[x2.1],())else none else none else some (v.2.2.2) partial_fixpoint
noncomputable def n_43(v:Tag×Unit):Option (Tag×Unit):=ic (v.1.parts,(↑v.1.parts.length:Int),(0:Int),v.1,Tag.mk (0:Int) (0:Int) (NA #[]) [] [],[],())>>=λx1=>Kk (x1.1.names,())>>=λx2=>fW x2>>=λx3=>(if(x1.1.kind==(6:Int))=true then ck (x3.1,(↑x3.1.length:Int),(0:Int),x1.1,x1.2.1,x1.2.2.1,x1.1.kind,x1.1.n,x1.1.text,x3.1,[],())>>=λx4=>some (x4)else some (x1.2.1,x1.1.kind,x1.1.n,x1.1.text,x3.1,x1.2.2))>>=λx4=>some ((Tag.mk x4.2.1 x4.2.2.1 x4.2.2.2.1 x4.2.2.2.2.1 x4.2.2.2.2.2.1,())) partial_fixpoint
end
def wB(ck:Tq7->Option ((FN)))(ic:CZ->Option ((C1)))(n_43:Tag×Unit->Option (Tag×Unit)):bm vw:=λA fid args S k=>match fid with|43=>bg prog mu n_43 A args S k|58=>bg prog Hz Fz A args S k|63=>bN prog qq fW A args S k|64=>bN prog HA Kk A args S k|_=>none
def x43(ck:Tq7->Option ((FN)))(ic:CZ->Option ((C1)))(n_43:Tag×Unit->Option (Tag×Unit)):Xc vw:={P:=prog,n:=55,call:=wB ck ic n_43,pre:=DY,sh:=ID,joins:=λk=>match k with|16=>some (E9,[.norm])|_=>none,loops:=λk=>match k with|3=>some {cut:=zT,alts:=[.exit 0],F:=ic}|12=>some {cut:=pI,alts:=[.exit 2],F:=ck}|_=>none}
abbrev mN(v:Tq7)(r:(FN)):Prop:=(λv out=>∀C:Ctx,C.P=prog->C.N=55/\Fx C DY->d6 C (ae (aa Tryz.f43) 1) (Go.Tx.az vw (bh vw pI v)) (eF ID [.exit 2] out)) v r
theorem C_(f0:Tq7->Option ((FN)))(h0:∀v r,f0 v=some r->mN v r):ay prog (x43 f0 (λ_=>none) (λ_=>none)).call:=(by
 intro A fid args S dst k r h
 unfold x43 wB at h
 simp only at h
 split at h
 ·exact aq ((λv r x h hx=>by cases h)) rfl rfl h
 ·exact aq (rB) rfl rfl h
 ·exact aA (im) h
 ·exact aA (vz) h
 ·cases h)
theorem Ee(f0:Tq7->Option ((FN)))(h0:∀v r,f0 v=some r->mN v r)(v:Tq7)(r:(FN))(h:exL (x43 f0 (λ_=>none) (λ_=>none)) (ae (aa Tryz.f43) 1) pI [.exit 2] f0 v=some r):mN v r:=λC hP hN=>aH (X:=x43 f0 (λ_=>none) (λ_=>none)) (b:=(ae (aa Tryz.f43) 1)) hP hN Ty.mixed (C_ f0 h0) (au (X:=x43 f0 (λ_=>none) (λ_=>none)) (c:=(ae (aa Tryz.f43) 1)) (am (by kernel_rfl:True=bv (ax C (x43 f0 (λ_=>none) (λ_=>none))) (aw (ae (aa Tryz.f43) 1))) trivial)) (cut:=pI) (alts:=[.exit 2]) (F:=f0) (λv out h=>h0 v out h C hP hN) h
theorem yr:∀v out,ck v=some out->(λv out=>∀C:Ctx,C.P=prog->C.N=55/\Fx C DY->d6 C (ae (aa Tryz.f43) 1) (Go.Tx.az vw (bh vw pI v)) (eF ID [.exit 2] out)) v out:=(ck.partial_correctness (motive:=mN) (λf0 h0 v r h=>Ee f0 h0 v r (am (by kernel_rfl) h)))
abbrev jM(v:CZ)(r:(C1)):Prop:=(λv out=>∀C:Ctx,C.P=prog->C.N=55/\Fx C DY->d6 C (ae (aa Tryz.f43) 0) (Go.Tx.az vw (bh vw zT v)) (eF ID [.exit 0] out)) v r
abbrev A9(v:Tag×Unit)(r:Tag×Unit):Prop:=(λv r=>∀x,lG prog mu r=some x->cX prog 43 (encL vw (aD mu v).len (bi mu v).1) (br (aD mu v).len (aD mu v).own) (an vw (bh vw mu.rcut r).len x) (br (bh vw mu.rcut r).len (gO mu r))) v r
theorem Ga(f0:CZ->Option ((C1)))(f1:Tag×Unit->Option (Tag×Unit))(h0:∀v r,f0 v=some r->jM v r)(h1:∀v r,f1 v=some r->A9 v r):ay prog (x43 (λ_=>none) f0 f1).call:=(by
 intro A fid args S dst k r h
 unfold x43 wB at h
 simp only at h
 split at h
 ·exact aq ((λv r x h hx=>h1 v r h x hx)) rfl rfl h
 ·exact aq (rB) rfl rfl h
 ·exact aA (im) h
 ·exact aA (vz) h
 ·cases h)
theorem HI(f0:CZ->Option ((C1)))(f1:Tag×Unit->Option (Tag×Unit))(h0:∀v r,f0 v=some r->jM v r)(h1:∀v r,f1 v=some r->A9 v r)(v:CZ)(r:(C1))(h:exL (x43 (λ_=>none) f0 f1) (ae (aa Tryz.f43) 0) zT [.exit 0] f0 v=some r):jM v r:=λC hP hN=>aH (X:=x43 (λ_=>none) f0 f1) (b:=(ae (aa Tryz.f43) 0)) hP hN Ty.mixed (Ga f0 f1 h0 h1) (au (X:=x43 (λ_=>none) f0 f1) (c:=(ae (aa Tryz.f43) 0)) (am (by kernel_rfl:True=bv (ax C (x43 (λ_=>none) f0 f1)) (aw (ae (aa Tryz.f43) 0))) trivial)) (cut:=zT) (alts:=[.exit 0]) (F:=f0) (λv out h=>h0 v out h C hP hN) h
theorem K0(f0:CZ->Option ((C1)))(h0:∀v r,f0 v=some r->jM v r):ay prog (x43 ck f0 (λ_=>none)).call:=(by
 intro A fid args S dst k r h
 unfold x43 wB at h
 simp only at h
 split at h
 ·exact aq ((λv r x h hx=>by cases h)) rfl rfl h
 ·exact aq (rB) rfl rfl h
 ·exact aA (im) h
 ·exact aA (vz) h
 ·cases h)
theorem LT(f0:CZ->Option ((C1)))(h0:∀v r,f0 v=some r->jM v r)(v:Tag×Unit)(r:Tag×Unit)(h:exF (x43 ck f0 (λ_=>none)) mu rfl (aa Tryz.f43) v=some r):A9 v r:=λx hx=>bj (X:=x43 ck f0 (λ_=>none)) (sig:=mu) rfl Tryz.func43 (c:=aa Tryz.f43) (by kernel_rfl) Tryz.ntmps43 (by kernel_rfl) (by kernel_rfl) rfl Ty.mixed (K0 f0 h0) rfl (λC hP hN=>(au (X:=x43 ck f0 (λ_=>none)) (c:=(aa Tryz.f43)) (am (by kernel_rfl:bv (ax C (x43 ck f0 (λ_=>none))) [(ae (aa Tryz.f43) 0),(ae (aa Tryz.f43) 1)]=bv (ax C (x43 ck f0 (λ_=>none))) (aw (aa Tryz.f43))) ⟨bd (X:=x43 ck f0 (λ_=>none)) (b:=(ae (aa Tryz.f43) 0)) (by kernel_rfl) (show bC C (ae (aa Tryz.f43) 0) (sh:=ID) {cut:=zT,alts:=[.exit 0],F:=f0}fromλv out h=>h0 v out h C hP hN),bd (X:=x43 ck f0 (λ_=>none)) (b:=(ae (aa Tryz.f43) 1)) (by kernel_rfl) (show bC C (ae (aa Tryz.f43) 1) (sh:=ID) {cut:=pI,alts:=[.exit 2],F:=ck}fromλv out h=>yr v out h C hP hN),trivial⟩))) h x hx
theorem yu:(∀v r,ic v=some r->jM v r)/\(∀v r,n_43 v=some r->A9 v r):=by
 refine ic.mutual_partial_correctness
  (motive_1:=jM)
  (motive_2:=A9)
  ?_ ?_
 ·exact(λf0 f1 h0 h1 v r h=>HI f0 f1 h0 h1 v r (am (by kernel_rfl) h))
 ·exact(λf0 h0 v r h=>LT f0 h0 v r (am (by kernel_rfl) h))
theorem G6:bc prog 43 mu n_43:=λv r x h hx=>yu.2 v r h x hx
def J6:Cut SN:=⟨[(2, .bp 2 0),(3,Dq1)],[(2, .st .tagT)]⟩
def M4:ba vw:={rcut:=J6}
def Lq:Nat->Bool:=λ_=>false
def JG:Sig vw:=sg [Dq3] J6 [.cell 2 25, .tmp 3]
noncomputable def Bj(v:Tag×Unit):Option (Int×Tag×Unit):=tD v>>=λx1=>if(x1.1 !=(0:Int))=true then some ((x1.1,Tag.mk (0:Int) (0:Int) (NA #[]) [] [],()))else n_43 v>>=λx2=>some (((0:Int),x2))
def Fb:=kP lC (kP G6 k0)
def x19:Xc vw:={P:=prog,n:=13,call:=Fb.1,pre:=Lq,sh:=M4}
theorem GV:bc prog 19 JG Bj:=λv r x h hx=>
 bj (X:=x19) (sig:=JG) rfl Tryz.func19 (c:=aa Tryz.f19) (by kernel_rfl) Tryz.ntmps19 (by kernel_rfl) (by kernel_rfl) rfl Ty.mixed Fb.2 rfl (λC hP hN=>(au (am (by kernel_rfl) trivial))) (am (by kernel_rfl) h) x hx
def xH:Cut SN:=⟨[(1, .bp 1 0),(5,Dq1),(6,Dq1),(7,Dq1),(8,Dq1)],[(1, .st .tagT)]⟩
def zR:Cut SN:=⟨[(1, .bp 1 0),(5,Dq1),(6,Dq1),(7,Dq1),(9,Dq1)],[(1, .st .tagT)]⟩
def KA:Cut SN:=⟨[(1, .bp 1 0),(5,Dq1),(6,Dq1),(7,Dq1)],[(1, .st .tagT)]⟩
def KB:Cut SN:=⟨[(5,Dq1),(6,Dq1),(7,Dq1)],[]⟩
def Ml:Cut SN:=⟨[(2,Dq1),(3,Dq1),(4,Dq1)],[]⟩
def IB:ba vw:=shL [(0,KA),(2,KB)] Ml
def DW:Nat->Bool:=λ_=>false
def mq:Sig vw:=sg [Dq3] Ml [.tmp 2, .tmp 3, .tmp 4]
abbrev Tq9:=Int×Int×Int×Int×Tag×Unit
abbrev FQ:=Int×Int×Int×Tag×Unit
noncomputable def cQ(v:Tq9):Option ((FQ)):=if decide (v.2.2.2.1<(↑v.2.2.2.2.1.names.length:Int))=true then if(0:Int)<=v.2.2.2.1 then v.2.2.2.2.1.names[v.2.2.2.1.toNat]?>>=λx1=>cQ (v.1,v.2.1,i64.wrap (v.2.2.1+(↑x1.size:Int)),i64.wrap (v.2.2.2.1+(1:Int)),v.2.2.2.2)else none else some (v.1,v.2.1,v.2.2.1,v.2.2.2.2) partial_fixpoint
abbrev uz:=Int×Int×Int×Unit
mutual
noncomputable def fv(v:Tq9):Option ((uz)):=if decide (v.2.2.2.1<(↑v.2.2.2.2.1.parts.length:Int))=true then if(0:Int)<=v.2.2.2.1 then v.2.2.2.2.1.parts[v.2.2.2.1.toNat]?>>=λx1=>n_27 (x1,())>>=λx2=>fv (i64.wrap (v.1+x2.1),max v.2.1 x2.2.1,i64.wrap (v.2.2.1+x2.2.2.1),i64.wrap (v.2.2.2.1+(1:Int)),v.2.2.2.2)else none else some ((v.1,v.2.1,v.2.2.1,())) partial_fixpoint
noncomputable def n_27(v:Tag×Unit):Option (uz):=cQ ((1:Int),(0:Int),(↑v.1.text.size:Int),(0:Int),v)>>=λx1=>fv (x1.1,x1.2.1,x1.2.2.1,(0:Int),x1.2.2.2)>>=λx2=>some ((x2.1,i64.wrap (x2.2.1+(1:Int)),x2.2.2)) partial_fixpoint
end
def wz(cQ:Tq9->Option ((FQ)))(fv:Tq9->Option ((uz)))(n_27:Tag×Unit->Option (uz)):bm vw:=λA fid args S k=>match fid with|27=>bg prog mq n_27 A args S k|_=>none
def x27(cQ:Tq9->Option ((FQ)))(fv:Tq9->Option ((uz)))(n_27:Tag×Unit->Option (uz)):Xc vw:={P:=prog,n:=61,call:=wz cQ fv n_27,pre:=DW,sh:=IB,loops:=λk=>match k with|3=>some {cut:=xH,alts:=[.exit 0],F:=cQ}|7=>some {cut:=zR,alts:=[.exit 2],F:=fv}|_=>none}
abbrev rg(v:Tq9)(r:(FQ)):Prop:=(λv out=>∀C:Ctx,C.P=prog->C.N=61/\Fx C DW->d6 C (ae (aa Tryz.f27) 0) (Go.Tx.az vw (bh vw xH v)) (eF IB [.exit 0] out)) v r
theorem F7(f0:Tq9->Option ((FQ)))(h0:∀v r,f0 v=some r->rg v r):ay prog (x27 f0 (λ_=>none) (λ_=>none)).call:=(by
 intro A fid args S dst k r h
 unfold x27 wz at h
 simp only at h
 split at h
 ·exact aq ((λv r x h hx=>by cases h)) rfl rfl h
 ·cases h)
theorem HE(f0:Tq9->Option ((FQ)))(h0:∀v r,f0 v=some r->rg v r)(v:Tq9)(r:(FQ))(h:exL (x27 f0 (λ_=>none) (λ_=>none)) (ae (aa Tryz.f27) 0) xH [.exit 0] f0 v=some r):rg v r:=λC hP hN=>aH (X:=x27 f0 (λ_=>none) (λ_=>none)) (b:=(ae (aa Tryz.f27) 0)) hP hN Ty.mixed (F7 f0 h0) (au (X:=x27 f0 (λ_=>none) (λ_=>none)) (c:=(ae (aa Tryz.f27) 0)) (am (by kernel_rfl:True=bv (ax C (x27 f0 (λ_=>none) (λ_=>none))) (aw (ae (aa Tryz.f27) 0))) trivial)) (cut:=xH) (alts:=[.exit 0]) (F:=f0) (λv out h=>h0 v out h C hP hN) h
theorem Bm:∀v out,cQ v=some out->(λv out=>∀C:Ctx,C.P=prog->C.N=61/\Fx C DW->d6 C (ae (aa Tryz.f27) 0) (Go.Tx.az vw (bh vw xH v)) (eF IB [.exit 0] out)) v out:=(cQ.partial_correctness (motive:=rg) (λf0 h0 v r h=>HE f0 h0 v r (am (by kernel_rfl) h)))
abbrev jK(v:Tq9)(r:(uz)):Prop:=(λv out=>∀C:Ctx,C.P=prog->C.N=61/\Fx C DW->d6 C (ae (aa Tryz.f27) 1) (Go.Tx.az vw (bh vw zR v)) (eF IB [.exit 2] out)) v r
abbrev A7(v:Tag×Unit)(r:uz):Prop:=(λv r=>∀x,lG prog mq r=some x->cX prog 27 (encL vw (aD mq v).len (bi mq v).1) (br (aD mq v).len (aD mq v).own) (an vw (bh vw mq.rcut r).len x) (br (bh vw mq.rcut r).len (gO mq r))) v r
theorem F8(f0:Tq9->Option ((uz)))(f1:Tag×Unit->Option (uz))(h0:∀v r,f0 v=some r->jK v r)(h1:∀v r,f1 v=some r->A7 v r):ay prog (x27 (λ_=>none) f0 f1).call:=(by
 intro A fid args S dst k r h
 unfold x27 wz at h
 simp only at h
 split at h
 ·exact aq ((λv r x h hx=>h1 v r h x hx)) rfl rfl h
 ·cases h)
theorem HF(f0:Tq9->Option ((uz)))(f1:Tag×Unit->Option (uz))(h0:∀v r,f0 v=some r->jK v r)(h1:∀v r,f1 v=some r->A7 v r)(v:Tq9)(r:(uz))(h:exL (x27 (λ_=>none) f0 f1) (ae (aa Tryz.f27) 1) zR [.exit 2] f0 v=some r):jK v r:=λC hP hN=>aH (X:=x27 (λ_=>none) f0 f1) (b:=(ae (aa Tryz.f27) 1)) hP hN Ty.mixed (F8 f0 f1 h0 h1) (au (X:=x27 (λ_=>none) f0 f1) (c:=(ae (aa Tryz.f27) 1)) (am (by kernel_rfl:True=bv (ax C (x27 (λ_=>none) f0 f1)) (aw (ae (aa Tryz.f27) 1))) trivial)) (cut:=zR) (alts:=[.exit 2]) (F:=f0) (λv out h=>h0 v out h C hP hN) h
theorem KY(f0:Tq9->Option ((uz)))(h0:∀v r,f0 v=some r->jK v r):ay prog (x27 cQ f0 (λ_=>none)).call:=(by
 intro A fid args S dst k r h
 unfold x27 wz at h
 simp only at h
 split at h
 ·exact aq ((λv r x h hx=>by cases h)) rfl rfl h
 ·cases h)
theorem LR(f0:Tq9->Option ((uz)))(h0:∀v r,f0 v=some r->jK v r)(v:Tag×Unit)(r:uz)(h:exF (x27 cQ f0 (λ_=>none)) mq rfl (aa Tryz.f27) v=some r):A7 v r:=λx hx=>bj (X:=x27 cQ f0 (λ_=>none)) (sig:=mq) rfl Tryz.func27 (c:=aa Tryz.f27) (by kernel_rfl) Tryz.ntmps27 (by kernel_rfl) (by kernel_rfl) rfl Ty.mixed (KY f0 h0) rfl (λC hP hN=>(au (X:=x27 cQ f0 (λ_=>none)) (c:=(aa Tryz.f27)) (am (by kernel_rfl:bv (ax C (x27 cQ f0 (λ_=>none))) [(ae (aa Tryz.f27) 0),(ae (aa Tryz.f27) 1)]=bv (ax C (x27 cQ f0 (λ_=>none))) (aw (aa Tryz.f27))) ⟨bd (X:=x27 cQ f0 (λ_=>none)) (b:=(ae (aa Tryz.f27) 0)) (by kernel_rfl) (show bC C (ae (aa Tryz.f27) 0) (sh:=IB) {cut:=xH,alts:=[.exit 0],F:=cQ}fromλv out h=>Bm v out h C hP hN),bd (X:=x27 cQ f0 (λ_=>none)) (b:=(ae (aa Tryz.f27) 1)) (by kernel_rfl) (show bC C (ae (aa Tryz.f27) 1) (sh:=IB) {cut:=zR,alts:=[.exit 2],F:=f0}fromλv out h=>h0 v out h C hP hN),trivial⟩))) h x hx
theorem yp:(∀v r,fv v=some r->jK v r)/\(∀v r,n_27 v=some r->A7 v r):=by
 refine fv.mutual_partial_correctness
  (motive_1:=jK)
  (motive_2:=A7)
  ?_ ?_
 ·exact(λf0 f1 h0 h1 v r h=>HF f0 f1 h0 h1 v r (am (by kernel_rfl) h))
 ·exact(λf0 h0 v r h=>LR f0 h0 v r (am (by kernel_rfl) h))
theorem ry:bc prog 27 mq n_27:=λv r x h hx=>yp.2 v r h x hx
def ld:Cut SN:=⟨[(1, .bp 1 0),(3,Dq1)],[(1, .st .tagT)]⟩
def sr:Cut SN:=⟨[(1, .bp 1 0),(4,Dq1)],[(1, .st .tagT)]⟩
def KR:Cut SN:=⟨[(1, .bp 1 0),(54,Dq4)],[(1, .st .tagT)]⟩
def KS:Cut SN:=⟨[(1, .bp 1 0),(82,Dq4)],[(1, .st .tagT)]⟩
def IG:ba vw:=shL [(0,F4),(2,eu)] pK
def D1:Nat->Bool:=λ_=>false
def mB:Sig vw:=sg [Dq3] pK [.tmp 2]
noncomputable def dg(v:Int×Tag×Unit):Option (((Bool×Unit)⊕(Tag×Unit))):=if decide (v.1<(↑v.2.1.names.length:Int))=true then if(0:Int)<=v.1 then v.2.1.names[v.1.toNat]?>>=λx1=>DF (x1,())>>=λx2=>if(!x2.1)=true then some (OC (false,()))else dg (i64.wrap (v.1+(1:Int)),v.2)else none else some (OR v.2) partial_fixpoint
mutual
noncomputable def eH(v:Int×Tag×Unit):Option (((Bool×Unit)⊕(Unit))):=if decide (v.1<(↑v.2.1.parts.length:Int))=true then if(0:Int)<=v.1 then v.2.1.parts[v.1.toNat]?>>=λx1=>n_54 (x1,())>>=λx2=>if(!x2.1)=true then some (OC (false,()))else eH (i64.wrap (v.1+(1:Int)),v.2)else none else some (OR ()) partial_fixpoint
noncomputable def n_54(v:Tag×Unit):Option (Bool×Unit):=(if decide (v.1.kind<(0:Int))=true then some (true,v)else if decide (v.1.kind>(6:Int))=true then some (true,v)else if(v.1.kind !=(3:Int))=true then if(v.1.n !=(0:Int))=true then some (true,v)else if(v.1.kind !=(4:Int))=true then if(!v.1.text.toList==(NA #[]).toList)=true then some (true,v)else if(v.1.kind !=(6:Int))=true then if decide ((↑v.1.names.length:Int)>(0:Int))=true then some (true,v)else if decide (v.1.kind<(5:Int))=true then some ((decide ((↑v.1.parts.length:Int)>(0:Int)),v))else some (false,v)else if decide (v.1.kind<(5:Int))=true then some ((decide ((↑v.1.parts.length:Int)>(0:Int)),v))else some (false,v)else if(v.1.kind !=(6:Int))=true then if decide ((↑v.1.names.length:Int)>(0:Int))=true then some (true,v)else if decide (v.1.kind<(5:Int))=true then some ((decide ((↑v.1.parts.length:Int)>(0:Int)),v))else some (false,v)else if decide (v.1.kind<(5:Int))=true then some ((decide ((↑v.1.parts.length:Int)>(0:Int)),v))else some (false,v)else if(v.1.kind !=(4:Int))=true then if(!v.1.text.toList==(NA #[]).toList)=true then some (true,v)else if(v.1.kind !=(6:Int))=true then if decide ((↑v.1.names.length:Int)>(0:Int))=true then some (true,v)else if decide (v.1.kind<(5:Int))=true then some ((decide ((↑v.1.parts.length:Int)>(0:Int)),v))else some (false,v)else if decide (v.1.kind<(5:Int))=true then some ((decide ((↑v.1.parts.length:Int)>(0:Int)),v))else some (false,v)else if(v.1.kind !=(6:Int))=true then if decide ((↑v.1.names.length:Int)>(0:Int))=true then some (true,v)else if decide (v.1.kind<(5:Int))=true then some ((decide ((↑v.1.parts.length:Int)>(0:Int)),v))else some (false,v)else if decide (v.1.kind<(5:Int))=true then some ((decide ((↑v.1.parts.length:Int)>(0:Int)),v))else some (false,v))>>=λx1=>if x1.1=true then some ((false,()))else(if decide (x1.2.1.n<(-9007199254740992:Int))=true then some (true,x1.2)else if decide (x1.2.1.n>(9007199254740992:Int))=true then some (true,x1.2)else DF (x1.2.1.text,())>>=λx2=>if(!x2.1)=true then some (true,x1.2)else if(x1.2.1.kind==(6:Int))=true then some (((↑x1.2.1.names.length:Int) !=(↑x1.2.1.parts.length:Int),x1.2))else some (false,x1.2))>>=λx2=>if x2.1=true then some ((false,()))else dg ((0:Int),x2.2)>>=λx3=>match x3 with| .inl y3=>some y3| .inr y3=>eH ((0:Int),y3)>>=λx4=>match x4 with| .inl y4=>some y4| .inr y4=>some ((true,())) partial_fixpoint
end
def wE(dg:Int×Tag×Unit->Option (((Bool×Unit)⊕(Tag×Unit))))(eH:Int×Tag×Unit->Option (((Bool×Unit)⊕(Unit))))(n_54:Tag×Unit->Option (Bool×Unit)):bm vw:=λA fid args S k=>match fid with|54=>bg prog mB n_54 A args S k|76=>bg prog JS DF A args S k|_=>none
def x54(dg:Int×Tag×Unit->Option (((Bool×Unit)⊕(Tag×Unit))))(eH:Int×Tag×Unit->Option (((Bool×Unit)⊕(Unit))))(n_54:Tag×Unit->Option (Bool×Unit)):Xc vw:={P:=prog,n:=111,call:=wE dg eH n_54,pre:=D1,sh:=IG,regs:=λk=>match k with|1=>some KR|3=>some KS|_=>none,loops:=λk=>match k with|6=>some {cut:=ld,alts:=[.ret, .exit 0],F:=dg}|11=>some {cut:=sr,alts:=[.ret, .exit 2],F:=eH}|_=>none}
abbrev rk(v:Int×Tag×Unit)(r:((Bool×Unit)⊕(Tag×Unit))):Prop:=(λv out=>∀C:Ctx,C.P=prog->C.N=111/\Fx C D1->d6 C (ae (aa Tryz.f54) 0) (Go.Tx.az vw (bh vw ld v)) (eF IG [.ret, .exit 0] out)) v r
theorem Gg(f0:Int×Tag×Unit->Option (((Bool×Unit)⊕(Tag×Unit))))(h0:∀v r,f0 v=some r->rk v r):ay prog (x54 f0 (λ_=>none) (λ_=>none)).call:=(by
 intro A fid args S dst k r h
 unfold x54 wE at h
 simp only at h
 split at h
 ·exact aq ((λv r x h hx=>by cases h)) rfl rfl h
 ·exact aq (rC) rfl rfl h
 ·cases h)
theorem HP(f0:Int×Tag×Unit->Option (((Bool×Unit)⊕(Tag×Unit))))(h0:∀v r,f0 v=some r->rk v r)(v:Int×Tag×Unit)(r:((Bool×Unit)⊕(Tag×Unit)))(h:exL (x54 f0 (λ_=>none) (λ_=>none)) (ae (aa Tryz.f54) 0) ld [.ret, .exit 0] f0 v=some r):rk v r:=λC hP hN=>aH (X:=x54 f0 (λ_=>none) (λ_=>none)) (b:=(ae (aa Tryz.f54) 0)) hP hN Ty.mixed (Gg f0 h0) (au (X:=x54 f0 (λ_=>none) (λ_=>none)) (c:=(ae (aa Tryz.f54) 0)) (am (by kernel_rfl:True=bv (ax C (x54 f0 (λ_=>none) (λ_=>none))) (aw (ae (aa Tryz.f54) 0))) trivial)) (cut:=ld) (alts:=[.ret, .exit 0]) (F:=f0) (λv out h=>h0 v out h C hP hN) h
theorem Br:∀v out,dg v=some out->(λv out=>∀C:Ctx,C.P=prog->C.N=111/\Fx C D1->d6 C (ae (aa Tryz.f54) 0) (Go.Tx.az vw (bh vw ld v)) (eF IG [.ret, .exit 0] out)) v out:=(dg.partial_correctness (motive:=rk) (λf0 h0 v r h=>HP f0 h0 v r (am (by kernel_rfl) h)))
abbrev gv(v:Int×Tag×Unit)(r:((Bool×Unit)⊕(Unit))):Prop:=(λv out=>∀C:Ctx,C.P=prog->C.N=111/\Fx C D1->d6 C (ae (aa Tryz.f54) 1) (Go.Tx.az vw (bh vw sr v)) (eF IG [.ret, .exit 2] out)) v r
abbrev Be(v:Tag×Unit)(r:Bool×Unit):Prop:=(λv r=>∀x,lG prog mB r=some x->cX prog 54 (encL vw (aD mB v).len (bi mB v).1) (br (aD mB v).len (aD mB v).own) (an vw (bh vw mB.rcut r).len x) (br (bh vw mB.rcut r).len (gO mB r))) v r
theorem Db(f0:Int×Tag×Unit->Option (((Bool×Unit)⊕(Unit))))(f1:Tag×Unit->Option (Bool×Unit))(h0:∀v r,f0 v=some r->gv v r)(h1:∀v r,f1 v=some r->Be v r):ay prog (x54 (λ_=>none) f0 f1).call:=(by
 intro A fid args S dst k r h
 unfold x54 wE at h
 simp only at h
 split at h
 ·exact aq ((λv r x h hx=>h1 v r h x hx)) rfl rfl h
 ·exact aq (rC) rfl rfl h
 ·cases h)
theorem Eg(f0:Int×Tag×Unit->Option (((Bool×Unit)⊕(Unit))))(f1:Tag×Unit->Option (Bool×Unit))(h0:∀v r,f0 v=some r->gv v r)(h1:∀v r,f1 v=some r->Be v r)(v:Int×Tag×Unit)(r:((Bool×Unit)⊕(Unit)))(h:exL (x54 (λ_=>none) f0 f1) (ae (aa Tryz.f54) 1) sr [.ret, .exit 2] f0 v=some r):gv v r:=λC hP hN=>aH (X:=x54 (λ_=>none) f0 f1) (b:=(ae (aa Tryz.f54) 1)) hP hN Ty.mixed (Db f0 f1 h0 h1) (au (X:=x54 (λ_=>none) f0 f1) (c:=(ae (aa Tryz.f54) 1)) (am (by kernel_rfl:True=bv (ax C (x54 (λ_=>none) f0 f1)) (aw (ae (aa Tryz.f54) 1))) trivial)) (cut:=sr) (alts:=[.ret, .exit 2]) (F:=f0) (λv out h=>h0 v out h C hP hN) h
theorem K6(f0:Int×Tag×Unit->Option (((Bool×Unit)⊕(Unit))))(h0:∀v r,f0 v=some r->gv v r):ay prog (x54 dg f0 (λ_=>none)).call:=(by
 intro A fid args S dst k r h
 unfold x54 wE at h
 simp only at h
 split at h
 ·exact aq ((λv r x h hx=>by cases h)) rfl rfl h
 ·exact aq (rC) rfl rfl h
 ·cases h)
theorem LZ(f0:Int×Tag×Unit->Option (((Bool×Unit)⊕(Unit))))(h0:∀v r,f0 v=some r->gv v r)(v:Tag×Unit)(r:Bool×Unit)(h:exF (x54 dg f0 (λ_=>none)) mB rfl (aa Tryz.f54) v=some r):Be v r:=λx hx=>bj (X:=x54 dg f0 (λ_=>none)) (sig:=mB) rfl Tryz.func54 (c:=aa Tryz.f54) (by kernel_rfl) Tryz.ntmps54 (by kernel_rfl) (by kernel_rfl) rfl Ty.mixed (K6 f0 h0) rfl (λC hP hN=>(au (X:=x54 dg f0 (λ_=>none)) (c:=(aa Tryz.f54)) (am (by kernel_rfl:bv (ax C (x54 dg f0 (λ_=>none))) [(ae (aa Tryz.f54) 0),(ae (aa Tryz.f54) 1)]=bv (ax C (x54 dg f0 (λ_=>none))) (aw (aa Tryz.f54))) ⟨bd (X:=x54 dg f0 (λ_=>none)) (b:=(ae (aa Tryz.f54) 0)) (by kernel_rfl) (show bC C (ae (aa Tryz.f54) 0) (sh:=IG) {cut:=ld,alts:=[.ret, .exit 0],F:=dg}fromλv out h=>Br v out h C hP hN),bd (X:=x54 dg f0 (λ_=>none)) (b:=(ae (aa Tryz.f54) 1)) (by kernel_rfl) (show bC C (ae (aa Tryz.f54) 1) (sh:=IG) {cut:=sr,alts:=[.ret, .exit 2],F:=f0}fromλv out h=>h0 v out h C hP hN),trivial⟩))) h x hx
theorem vx:(∀v r,eH v=some r->gv v r)/\(∀v r,n_54 v=some r->Be v r):=by
 refine eH.mutual_partial_correctness
  (motive_1:=gv)
  (motive_2:=Be)
  ?_ ?_
 ·exact(λf0 f1 h0 h1 v r h=>Eg f0 f1 h0 h1 v r (am (by kernel_rfl) h))
 ·exact(λf0 h0 v r h=>LZ f0 h0 v r (am (by kernel_rfl) h))
theorem Hb:bc prog 54 mB n_54:=λv r x h hx=>vx.2 v r h x hx
def xN:Cut SN:=⟨[(1, .bp 1 0),(3,Dq1),(4,Dq1)],[(1, .st .tagT)]⟩
def su:Cut SN:=⟨[(1, .bp 1 0),(5,Dq1)],[(1, .st .tagT)]⟩
def Ec:ba vw:=shL [(0,F4),(2,ld),(4,eu)] pK
def yK:Nat->Bool:=λ_=>false
def mC:Sig vw:=sg [Dq3] pK [.tmp 2]
abbrev C3:=Int×Int×Tag×Unit
noncomputable def dI(v:C3):Option (((Bool×Unit)⊕(Int×Tag×Unit))):=if decide (v.2.1<v.1)=true then if(0:Int)<=v.1 then v.2.2.1.names[v.1.toNat]?>>=λx1=>if(0:Int)<=v.2.1 then v.2.2.1.names[v.2.1.toNat]?>>=λx2=>if(x1.toList==x2.toList)=true then some (OC (true,()))else dI (v.1,i64.wrap (v.2.1+(1:Int)),v.2.2)else none else none else some (OR (v.1,v.2.2)) partial_fixpoint
noncomputable def dH(v:Int×Tag×Unit):Option (((Bool×Unit)⊕(Tag×Unit))):=if decide (v.1<(↑v.2.1.names.length:Int))=true then dI (v.1,(0:Int),v.2)>>=λx1=>match x1 with| .inl y1=>some (OC y1)| .inr y1=>dH (i64.wrap (y1.1+(1:Int)),y1.2)else some (OR v.2) partial_fixpoint
mutual
noncomputable def fh(v:Int×Tag×Unit):Option (((Bool×Unit)⊕(Unit))):=if decide (v.1<(↑v.2.1.parts.length:Int))=true then if(0:Int)<=v.1 then v.2.1.parts[v.1.toNat]?>>=λx1=>n_55 (x1,())>>=λx2=>if x2.1=true then some (OC (true,()))else fh (i64.wrap (v.1+(1:Int)),v.2)else none else some (OR ()) partial_fixpoint
noncomputable def n_55(v:Tag×Unit):Option (Bool×Unit):=dH ((0:Int),v)>>=λx1=>match x1 with| .inl y1=>some y1| .inr y1=>fh ((0:Int),y1)>>=λx2=>match x2 with| .inl y2=>some y2| .inr y2=>some ((false,())) partial_fixpoint
end
def sB(dI:C3->Option (((Bool×Unit)⊕(Int×Tag×Unit))))(dH:Int×Tag×Unit->Option (((Bool×Unit)⊕(Tag×Unit))))(fh:Int×Tag×Unit->Option (((Bool×Unit)⊕(Unit))))(n_55:Tag×Unit->Option (Bool×Unit)):bm vw:=λA fid args S k=>match fid with|55=>bg prog mC n_55 A args S k|_=>none
def x55(dI:C3->Option (((Bool×Unit)⊕(Int×Tag×Unit))))(dH:Int×Tag×Unit->Option (((Bool×Unit)⊕(Tag×Unit))))(fh:Int×Tag×Unit->Option (((Bool×Unit)⊕(Unit))))(n_55:Tag×Unit->Option (Bool×Unit)):Xc vw:={P:=prog,n:=42,call:=sB dI dH fh n_55,pre:=yK,sh:=Ec,loops:=λk=>match k with|2=>some {cut:=ld,alts:=[.ret, .exit 0],F:=dH}|5=>some {cut:=xN,alts:=[.ret, .exit 2],F:=dI}|10=>some {cut:=su,alts:=[.ret, .exit 4],F:=fh}|_=>none}
abbrev rm(v:C3)(r:((Bool×Unit)⊕(Int×Tag×Unit))):Prop:=(λv out=>∀C:Ctx,C.P=prog->C.N=42/\Fx C yK->d6 C (ae (ae (aa Tryz.f55) 0) 0) (Go.Tx.az vw (bh vw xN v)) (eF Ec [.ret, .exit 2] out)) v r
theorem Gi(f0:C3->Option (((Bool×Unit)⊕(Int×Tag×Unit))))(h0:∀v r,f0 v=some r->rm v r):ay prog (x55 f0 (λ_=>none) (λ_=>none) (λ_=>none)).call:=(by
 intro A fid args S dst k r h
 unfold x55 sB at h
 simp only at h
 split at h
 ·exact aq ((λv r x h hx=>by cases h)) rfl rfl h
 ·cases h)
theorem HR(f0:C3->Option (((Bool×Unit)⊕(Int×Tag×Unit))))(h0:∀v r,f0 v=some r->rm v r)(v:C3)(r:((Bool×Unit)⊕(Int×Tag×Unit)))(h:exL (x55 f0 (λ_=>none) (λ_=>none) (λ_=>none)) (ae (ae (aa Tryz.f55) 0) 0) xN [.ret, .exit 2] f0 v=some r):rm v r:=λC hP hN=>aH (X:=x55 f0 (λ_=>none) (λ_=>none) (λ_=>none)) (b:=(ae (ae (aa Tryz.f55) 0) 0)) hP hN Ty.mixed (Gi f0 h0) (au (X:=x55 f0 (λ_=>none) (λ_=>none) (λ_=>none)) (c:=(ae (ae (aa Tryz.f55) 0) 0)) (am (by kernel_rfl:True=bv (ax C (x55 f0 (λ_=>none) (λ_=>none) (λ_=>none))) (aw (ae (ae (aa Tryz.f55) 0) 0))) trivial)) (cut:=xN) (alts:=[.ret, .exit 2]) (F:=f0) (λv out h=>h0 v out h C hP hN) h
theorem Bu:∀v out,dI v=some out->(λv out=>∀C:Ctx,C.P=prog->C.N=42/\Fx C yK->d6 C (ae (ae (aa Tryz.f55) 0) 0) (Go.Tx.az vw (bh vw xN v)) (eF Ec [.ret, .exit 2] out)) v out:=(dI.partial_correctness (motive:=rm) (λf0 h0 v r h=>HR f0 h0 v r (am (by kernel_rfl) h)))
abbrev rl(v:Int×Tag×Unit)(r:((Bool×Unit)⊕(Tag×Unit))):Prop:=(λv out=>∀C:Ctx,C.P=prog->C.N=42/\Fx C yK->d6 C (ae (aa Tryz.f55) 0) (Go.Tx.az vw (bh vw ld v)) (eF Ec [.ret, .exit 0] out)) v r
theorem Gh(f0:Int×Tag×Unit->Option (((Bool×Unit)⊕(Tag×Unit))))(h0:∀v r,f0 v=some r->rl v r):ay prog (x55 dI f0 (λ_=>none) (λ_=>none)).call:=(by
 intro A fid args S dst k r h
 unfold x55 sB at h
 simp only at h
 split at h
 ·exact aq ((λv r x h hx=>by cases h)) rfl rfl h
 ·cases h)
theorem HQ(f0:Int×Tag×Unit->Option (((Bool×Unit)⊕(Tag×Unit))))(h0:∀v r,f0 v=some r->rl v r)(v:Int×Tag×Unit)(r:((Bool×Unit)⊕(Tag×Unit)))(h:exL (x55 dI f0 (λ_=>none) (λ_=>none)) (ae (aa Tryz.f55) 0) ld [.ret, .exit 0] f0 v=some r):rl v r:=λC hP hN=>aH (X:=x55 dI f0 (λ_=>none) (λ_=>none)) (b:=(ae (aa Tryz.f55) 0)) hP hN Ty.mixed (Gh f0 h0) (au (X:=x55 dI f0 (λ_=>none) (λ_=>none)) (c:=(ae (aa Tryz.f55) 0)) (am (by kernel_rfl:bv (ax C (x55 dI f0 (λ_=>none) (λ_=>none))) [(ae (ae (aa Tryz.f55) 0) 0)]=bv (ax C (x55 dI f0 (λ_=>none) (λ_=>none))) (aw (ae (aa Tryz.f55) 0))) ⟨bd (X:=x55 dI f0 (λ_=>none) (λ_=>none)) (b:=(ae (ae (aa Tryz.f55) 0) 0)) (by kernel_rfl) (show bC C (ae (ae (aa Tryz.f55) 0) 0) (sh:=Ec) {cut:=xN,alts:=[.ret, .exit 2],F:=dI}fromλv out h=>Bu v out h C hP hN),trivial⟩)) (cut:=ld) (alts:=[.ret, .exit 0]) (F:=f0) (λv out h=>h0 v out h C hP hN) h
theorem Bt:∀v out,dH v=some out->(λv out=>∀C:Ctx,C.P=prog->C.N=42/\Fx C yK->d6 C (ae (aa Tryz.f55) 0) (Go.Tx.az vw (bh vw ld v)) (eF Ec [.ret, .exit 0] out)) v out:=(dH.partial_correctness (motive:=rl) (λf0 h0 v r h=>HQ f0 h0 v r (am (by kernel_rfl) h)))
abbrev gw(v:Int×Tag×Unit)(r:((Bool×Unit)⊕(Unit))):Prop:=(λv out=>∀C:Ctx,C.P=prog->C.N=42/\Fx C yK->d6 C (ae (aa Tryz.f55) 1) (Go.Tx.az vw (bh vw su v)) (eF Ec [.ret, .exit 4] out)) v r
abbrev Bf(v:Tag×Unit)(r:Bool×Unit):Prop:=(λv r=>∀x,lG prog mC r=some x->cX prog 55 (encL vw (aD mC v).len (bi mC v).1) (br (aD mC v).len (aD mC v).own) (an vw (bh vw mC.rcut r).len x) (br (bh vw mC.rcut r).len (gO mC r))) v r
theorem Dc(f0:Int×Tag×Unit->Option (((Bool×Unit)⊕(Unit))))(f1:Tag×Unit->Option (Bool×Unit))(h0:∀v r,f0 v=some r->gw v r)(h1:∀v r,f1 v=some r->Bf v r):ay prog (x55 (λ_=>none) (λ_=>none) f0 f1).call:=(by
 intro A fid args S dst k r h
 unfold x55 sB at h
 simp only at h
 split at h
 ·exact aq ((λv r x h hx=>h1 v r h x hx)) rfl rfl h
 ·cases h)
theorem Eh(f0:Int×Tag×Unit->Option (((Bool×Unit)⊕(Unit))))(f1:Tag×Unit->Option (Bool×Unit))(h0:∀v r,f0 v=some r->gw v r)(h1:∀v r,f1 v=some r->Bf v r)(v:Int×Tag×Unit)(r:((Bool×Unit)⊕(Unit)))(h:exL (x55 (λ_=>none) (λ_=>none) f0 f1) (ae (aa Tryz.f55) 1) su [.ret, .exit 4] f0 v=some r):gw v r:=λC hP hN=>aH (X:=x55 (λ_=>none) (λ_=>none) f0 f1) (b:=(ae (aa Tryz.f55) 1)) hP hN Ty.mixed (Dc f0 f1 h0 h1) (au (X:=x55 (λ_=>none) (λ_=>none) f0 f1) (c:=(ae (aa Tryz.f55) 1)) (am (by kernel_rfl:True=bv (ax C (x55 (λ_=>none) (λ_=>none) f0 f1)) (aw (ae (aa Tryz.f55) 1))) trivial)) (cut:=su) (alts:=[.ret, .exit 4]) (F:=f0) (λv out h=>h0 v out h C hP hN) h
theorem K7(f0:Int×Tag×Unit->Option (((Bool×Unit)⊕(Unit))))(h0:∀v r,f0 v=some r->gw v r):ay prog (x55 (λ_=>none) dH f0 (λ_=>none)).call:=(by
 intro A fid args S dst k r h
 unfold x55 sB at h
 simp only at h
 split at h
 ·exact aq ((λv r x h hx=>by cases h)) rfl rfl h
 ·cases h)
theorem L0(f0:Int×Tag×Unit->Option (((Bool×Unit)⊕(Unit))))(h0:∀v r,f0 v=some r->gw v r)(v:Tag×Unit)(r:Bool×Unit)(h:exF (x55 (λ_=>none) dH f0 (λ_=>none)) mC rfl (aa Tryz.f55) v=some r):Bf v r:=λx hx=>bj (X:=x55 (λ_=>none) dH f0 (λ_=>none)) (sig:=mC) rfl Tryz.func55 (c:=aa Tryz.f55) (by kernel_rfl) Tryz.ntmps55 (by kernel_rfl) (by kernel_rfl) rfl Ty.mixed (K7 f0 h0) rfl (λC hP hN=>(au (X:=x55 (λ_=>none) dH f0 (λ_=>none)) (c:=(aa Tryz.f55)) (am (by kernel_rfl:bv (ax C (x55 (λ_=>none) dH f0 (λ_=>none))) [(ae (aa Tryz.f55) 0),(ae (aa Tryz.f55) 1)]=bv (ax C (x55 (λ_=>none) dH f0 (λ_=>none))) (aw (aa Tryz.f55))) ⟨bd (X:=x55 (λ_=>none) dH f0 (λ_=>none)) (b:=(ae (aa Tryz.f55) 0)) (by kernel_rfl) (show bC C (ae (aa Tryz.f55) 0) (sh:=Ec) {cut:=ld,alts:=[.ret, .exit 0],F:=dH}fromλv out h=>Bt v out h C hP hN),bd (X:=x55 (λ_=>none) dH f0 (λ_=>none)) (b:=(ae (aa Tryz.f55) 1)) (by kernel_rfl) (show bC C (ae (aa Tryz.f55) 1) (sh:=Ec) {cut:=su,alts:=[.ret, .exit 4],F:=f0}fromλv out h=>h0 v out h C hP hN),trivial⟩))) h x hx
theorem vy:(∀v r,fh v=some r->gw v r)/\(∀v r,n_55 v=some r->Bf v r):=by
 refine fh.mutual_partial_correctness
  (motive_1:=gw)
  (motive_2:=Bf)
  ?_ ?_
 ·exact(λf0 f1 h0 h1 v r h=>Eh f0 f1 h0 h1 v r (am (by kernel_rfl) h))
 ·exact(λf0 h0 v r h=>L0 f0 h0 v r (am (by kernel_rfl) h))
theorem Hc:bc prog 55 mC n_55:=λv r x h hx=>vy.2 v r h x hx
def KF:Cut SN:=⟨[(1, .bp 1 0),(21,Dq4)],[(1, .st .tagT)]⟩
def Nc:ba vw:={rcut:=J8}
def Lz:Nat->Bool:=λ_=>false
def JP:Sig vw:=sg [Dq3] J8 [.tmp 2]
noncomputable def G3(v:Tag×Unit):Option (Int×Unit):=n_27 v>>=λx1=>(if decide (x1.1>(500:Int))=true then some (true,v)else if decide (x1.2.1>(20:Int))=true then some (true,v)else some ((decide (x1.2.2.1>(4096:Int)),v)))>>=λx2=>if x2.1=true then some (((3:Int),()))else n_54 x2.2>>=λx3=>if(!x3.1)=true then some (((1:Int),()))else n_55 x2.2>>=λx4=>if x4.1=true then some (((5:Int),()))else some (((0:Int),()))
def Fk:=kP ry (kP Hb (kP Hc k0))
def x33:Xc vw:={P:=prog,n:=27,call:=Fk.1,pre:=Lz,sh:=Nc,regs:=λk=>match k with|2=>some KF|_=>none}
theorem rz:bc prog 33 JP G3:=λv r x h hx=>
 bj (X:=x33) (sig:=JP) rfl Tryz.func33 (c:=aa Tryz.f33) (by kernel_rfl) Tryz.ntmps33 (by kernel_rfl) (by kernel_rfl) rfl Ty.mixed Fk.2 rfl (λC hP hN=>(au (am (by kernel_rfl) trivial))) (am (by kernel_rfl) h) x hx
def uO:Cut SN:=⟨[(1, .bp 1 0),(2, .bp 2 0),(3, .vh 1003),(4, .vh 1004),(5,Dq1)],[(1, .st .tagT),(2, .st .tagT),(1003,Oq9),(1004,CU)]⟩
def pJ:Cut SN:=⟨[(1, .bp 1 0),(2, .bp 2 0),(3, .vh 1003),(4, .vh 1004),(5,Dq1),(6,Dq1)],[(1, .st .tagT),(2, .st .tagT),(1003,Oq9),(1004,CU)]⟩
def IQ:Cut SN:=⟨[(1, .bp 1 0),(2, .bp 2 0),(3, .vh 1003),(4, .vh 1004),(5,Dq1),(6,Dq1),(48,Dq4)],[(1, .st .tagT),(2, .st .tagT),(1003,Oq9),(1004,CU)]⟩
def KM:Cut SN:=⟨[(1, .bp 1 0),(2, .bp 2 0),(3, .vh 1003),(4, .vh 1004)],[(1, .st .tagT),(2, .st .tagT),(1003,Oq9),(1004,CU)]⟩
def IE:ba vw:=shL [(0,KM),(2,uO)] J9
def DZ:Nat->Bool:=λ_=>false
def mv:Sig vw:=sg [Dq3] J9 [.cell 2 25]
abbrev FO:=Int×Int×Tag×Tag×(List ByteArray)×(List Tag)×Unit
abbrev Tq5:=Int×Tag×Tag×(List ByteArray)×(List Tag)×Unit
noncomputable def cx(v:FO):Option ((Tq5)):=(if decide (v.2.1>(0:Int))=true then if(0:Int)<=v.2.1/\v.2.1<(↑v.2.2.2.2.1.length:Int)then v.2.2.2.2.1[v.2.1.toNat]?>>=λx1=>if(0:Int)<=i64.wrap (v.2.1-(1:Int))/\i64.wrap (v.2.1-(1:Int))<(↑v.2.2.2.2.1.length:Int)then v.2.2.2.2.1[(i64.wrap (v.2.1-(1:Int))).toNat]?>>=λx2=>some (v.1,v.2.1,Bs.blt x1 x2,v.2.2)else none else none else some (v.1,v.2.1,false,v.2.2))>>=λx1=>if x1.2.2.1=true then if(0:Int)<=i64.wrap (x1.2.1-(1:Int))/\i64.wrap (x1.2.1-(1:Int))<(↑x1.2.2.2.2.2.1.length:Int)then x1.2.2.2.2.2.1[(i64.wrap (x1.2.1-(1:Int))).toNat]?>>=λx2=>if(0:Int)<=x1.2.1/\x1.2.1<(↑x1.2.2.2.2.2.1.length:Int)then x1.2.2.2.2.2.1[x1.2.1.toNat]?>>=λx3=>if(0:Int)<=x1.2.1/\x1.2.1<(↑x1.2.2.2.2.2.1.length:Int)then x1.2.2.2.2.2.1[x1.2.1.toNat]?>>=λx4=>if(0:Int)<=i64.wrap (x1.2.1-(1:Int))/\i64.wrap (x1.2.1-(1:Int))<(↑(x1.2.2.2.2.2.1.set x1.2.1.toNat x2).length:Int)then(x1.2.2.2.2.2.1.set x1.2.1.toNat x2)[(i64.wrap (x1.2.1-(1:Int))).toNat]?>>=λx5=>if(0:Int)<=i64.wrap (x1.2.1-(1:Int))/\i64.wrap (x1.2.1-(1:Int))<(↑x1.2.2.2.2.2.2.1.length:Int)then x1.2.2.2.2.2.2.1[(i64.wrap (x1.2.1-(1:Int))).toNat]?>>=λx6=>if(0:Int)<=x1.2.1/\x1.2.1<(↑x1.2.2.2.2.2.2.1.length:Int)then x1.2.2.2.2.2.2.1[x1.2.1.toNat]?>>=λx7=>if(0:Int)<=x1.2.1/\x1.2.1<(↑x1.2.2.2.2.2.2.1.length:Int)then x1.2.2.2.2.2.2.1[x1.2.1.toNat]?>>=λx8=>if(0:Int)<=i64.wrap (x1.2.1-(1:Int))/\i64.wrap (x1.2.1-(1:Int))<(↑(x1.2.2.2.2.2.2.1.set x1.2.1.toNat (Tag.mk x6.kind x6.n x6.text x6.names x6.parts)).length:Int)then(x1.2.2.2.2.2.2.1.set x1.2.1.toNat (Tag.mk x6.kind x6.n x6.text x6.names x6.parts))[(i64.wrap (x1.2.1-(1:Int))).toNat]?>>=λx9=>cx (x1.1,i64.wrap (x1.2.1-(1:Int)),x1.2.2.2.1,x1.2.2.2.2.1,(x1.2.2.2.2.2.1.set x1.2.1.toNat x2).set (i64.wrap (x1.2.1-(1:Int))).toNat x3,(x1.2.2.2.2.2.2.1.set x1.2.1.toNat (Tag.mk x6.kind x6.n x6.text x6.names x6.parts)).set (i64.wrap (x1.2.1-(1:Int))).toNat (Tag.mk x7.kind x7.n x7.text x7.names x7.parts),())else none else none else none else none else none else none else none else none else some (x1.1,x1.2.2.2) partial_fixpoint
abbrev C0:=Tag×Tag×(List ByteArray)×(List Tag)×Unit
mutual
noncomputable def fw(v:Tq5):Option ((C0)):=if decide (v.1<(↑v.2.1.parts.length:Int))=true then(if(0:Int)<=v.1 then v.2.1.parts[v.1.toNat]?>>=λx1=>n_44 (x1,())>>=λx2=>if v.2.2.2.2.1.length+[x2.1].length<=(4294967296:Nat)then if(v.2.1.kind !=(6:Int))=true then some ((v.1,v.2.1,v.2.2.1,v.2.2.2.1,v.2.2.2.2.1++[x2.1],()))else if(0:Int)<=v.1 then v.2.1.names[v.1.toNat]?>>=λx3=>if v.2.2.2.1.length+[x3].length<=(4294967296:Nat)then cx (v.1,v.1,v.2.1,v.2.2.1,v.2.2.2.1++[x3],v.2.2.2.2.1++[x2.1],())>>=λx4=>some (x4)else none else none else none else none)>>=λx1=>fw (i64.wrap (x1.1+(1:Int)),x1.2)else some (v.2) partial_fixpoint
noncomputable def n_44(v:Tag×Unit):Option (Tag×Unit):=fw ((0:Int),v.1,Tag.mk (0:Int) (0:Int) (NA #[]) [] [],[],[],())>>=λx1=>some ((Tag.mk x1.1.kind x1.1.n x1.1.text x1.2.2.1 x1.2.2.2.1,())) partial_fixpoint
end
def wC(cx:FO->Option ((Tq5)))(fw:Tq5->Option ((C0)))(n_44:Tag×Unit->Option (Tag×Unit)):bm vw:=λA fid args S k=>match fid with|44=>bg prog mv n_44 A args S k|_=>none
def x44(cx:FO->Option ((Tq5)))(fw:Tq5->Option ((C0)))(n_44:Tag×Unit->Option (Tag×Unit)):Xc vw:={P:=prog,n:=88,call:=wC cx fw n_44,pre:=DZ,sh:=IE,joins:=λk=>match k with|5=>some (uO,[.norm])|_=>none,regs:=λk=>match k with|10=>some IQ|_=>none,loops:=λk=>match k with|4=>some {cut:=uO,alts:=[.exit 0],F:=fw}|10=>some {cut:=pJ,alts:=[.exit 2],F:=cx}|_=>none}
abbrev mO(v:FO)(r:(Tq5)):Prop:=(λv out=>∀C:Ctx,C.P=prog->C.N=88/\Fx C DZ->d6 C (ae (ae (aa Tryz.f44) 0) 0) (Go.Tx.az vw (bh vw pJ v)) (eF IE [.exit 2] out)) v r
theorem Da(f0:FO->Option ((Tq5)))(h0:∀v r,f0 v=some r->mO v r):ay prog (x44 f0 (λ_=>none) (λ_=>none)).call:=(by
 intro A fid args S dst k r h
 unfold x44 wC at h
 simp only at h
 split at h
 ·exact aq ((λv r x h hx=>by cases h)) rfl rfl h
 ·cases h)
theorem Ef(f0:FO->Option ((Tq5)))(h0:∀v r,f0 v=some r->mO v r)(v:FO)(r:(Tq5))(h:exL (x44 f0 (λ_=>none) (λ_=>none)) (ae (ae (aa Tryz.f44) 0) 0) pJ [.exit 2] f0 v=some r):mO v r:=λC hP hN=>aH (X:=x44 f0 (λ_=>none) (λ_=>none)) (b:=(ae (ae (aa Tryz.f44) 0) 0)) hP hN Ty.mixed (Da f0 h0) (au (X:=x44 f0 (λ_=>none) (λ_=>none)) (c:=(ae (ae (aa Tryz.f44) 0) 0)) (am (by kernel_rfl:True=bv (ax C (x44 f0 (λ_=>none) (λ_=>none))) (aw (ae (ae (aa Tryz.f44) 0) 0))) trivial)) (cut:=pJ) (alts:=[.exit 2]) (F:=f0) (λv out h=>h0 v out h C hP hN) h
theorem yw:∀v out,cx v=some out->(λv out=>∀C:Ctx,C.P=prog->C.N=88/\Fx C DZ->d6 C (ae (ae (aa Tryz.f44) 0) 0) (Go.Tx.az vw (bh vw pJ v)) (eF IE [.exit 2] out)) v out:=(cx.partial_correctness (motive:=mO) (λf0 h0 v r h=>Ef f0 h0 v r (am (by kernel_rfl) h)))
abbrev jN(v:Tq5)(r:(C0)):Prop:=(λv out=>∀C:Ctx,C.P=prog->C.N=88/\Fx C DZ->d6 C (ae (aa Tryz.f44) 0) (Go.Tx.az vw (bh vw uO v)) (eF IE [.exit 0] out)) v r
abbrev A_(v:Tag×Unit)(r:Tag×Unit):Prop:=(λv r=>∀x,lG prog mv r=some x->cX prog 44 (encL vw (aD mv v).len (bi mv v).1) (br (aD mv v).len (aD mv v).own) (an vw (bh vw mv.rcut r).len x) (br (bh vw mv.rcut r).len (gO mv r))) v r
theorem Gb(f0:Tq5->Option ((C0)))(f1:Tag×Unit->Option (Tag×Unit))(h0:∀v r,f0 v=some r->jN v r)(h1:∀v r,f1 v=some r->A_ v r):ay prog (x44 cx f0 f1).call:=(by
 intro A fid args S dst k r h
 unfold x44 wC at h
 simp only at h
 split at h
 ·exact aq ((λv r x h hx=>h1 v r h x hx)) rfl rfl h
 ·cases h)
theorem HJ(f0:Tq5->Option ((C0)))(f1:Tag×Unit->Option (Tag×Unit))(h0:∀v r,f0 v=some r->jN v r)(h1:∀v r,f1 v=some r->A_ v r)(v:Tq5)(r:(C0))(h:exL (x44 cx f0 f1) (ae (aa Tryz.f44) 0) uO [.exit 0] f0 v=some r):jN v r:=λC hP hN=>aH (X:=x44 cx f0 f1) (b:=(ae (aa Tryz.f44) 0)) hP hN Ty.mixed (Gb f0 f1 h0 h1) (au (X:=x44 cx f0 f1) (c:=(ae (aa Tryz.f44) 0)) (am (by kernel_rfl:bv (ax C (x44 cx f0 f1)) [(ae (ae (aa Tryz.f44) 0) 0)]=bv (ax C (x44 cx f0 f1)) (aw (ae (aa Tryz.f44) 0))) ⟨bd (X:=x44 cx f0 f1) (b:=(ae (ae (aa Tryz.f44) 0) 0)) (by kernel_rfl) (show bC C (ae (ae (aa Tryz.f44) 0) 0) (sh:=IE) {cut:=pJ,alts:=[.exit 2],F:=cx}fromλv out h=>yw v out h C hP hN),trivial⟩)) (cut:=uO) (alts:=[.exit 0]) (F:=f0) (λv out h=>h0 v out h C hP hN) h
theorem K1(f0:Tq5->Option ((C0)))(h0:∀v r,f0 v=some r->jN v r):ay prog (x44 (λ_=>none) f0 (λ_=>none)).call:=(by
 intro A fid args S dst k r h
 unfold x44 wC at h
 simp only at h
 split at h
 ·exact aq ((λv r x h hx=>by cases h)) rfl rfl h
 ·cases h)
theorem LU(f0:Tq5->Option ((C0)))(h0:∀v r,f0 v=some r->jN v r)(v:Tag×Unit)(r:Tag×Unit)(h:exF (x44 (λ_=>none) f0 (λ_=>none)) mv rfl (aa Tryz.f44) v=some r):A_ v r:=λx hx=>bj (X:=x44 (λ_=>none) f0 (λ_=>none)) (sig:=mv) rfl Tryz.func44 (c:=aa Tryz.f44) (by kernel_rfl) Tryz.ntmps44 (by kernel_rfl) (by kernel_rfl) rfl Ty.mixed (K1 f0 h0) rfl (λC hP hN=>(au (X:=x44 (λ_=>none) f0 (λ_=>none)) (c:=(aa Tryz.f44)) (am (by kernel_rfl:bv (ax C (x44 (λ_=>none) f0 (λ_=>none))) [(ae (aa Tryz.f44) 0)]=bv (ax C (x44 (λ_=>none) f0 (λ_=>none))) (aw (aa Tryz.f44))) ⟨bd (X:=x44 (λ_=>none) f0 (λ_=>none)) (b:=(ae (aa Tryz.f44) 0)) (by kernel_rfl) (show bC C (ae (aa Tryz.f44) 0) (sh:=IE) {cut:=uO,alts:=[.exit 0],F:=f0}fromλv out h=>h0 v out h C hP hN),trivial⟩))) h x hx
theorem yx:(∀v r,fw v=some r->jN v r)/\(∀v r,n_44 v=some r->A_ v r):=by
 refine fw.mutual_partial_correctness
  (motive_1:=jN)
  (motive_2:=A_)
  ?_ ?_
 ·exact(λf0 f1 h0 h1 v r h=>HJ f0 f1 h0 h1 v r (am (by kernel_rfl) h))
 ·exact(λf0 h0 v r h=>LU f0 h0 v r (am (by kernel_rfl) h))
theorem G7:bc prog 44 mv n_44:=λv r x h hx=>yx.2 v r h x hx
def M5:ba vw:={rcut:=J6}
def Lr:Nat->Bool:=λ_=>false
def JH:Sig vw:=sg [Dq3] J6 [.cell 2 25, .tmp 3]
noncomputable def Ir(v:Tag×Unit):Option (Int×Tag×Unit):=G3 v>>=λx1=>if(x1.1 !=(0:Int))=true then some ((x1.1,Tag.mk (0:Int) (0:Int) (NA #[]) [] [],()))else n_44 v>>=λx2=>some (((0:Int),x2))
def Fc:=kP rz (kP G7 k0)
def x20:Xc vw:={P:=prog,n:=13,call:=Fc.1,pre:=Lr,sh:=M5}
theorem GW:bc prog 20 JH Ir:=λv r x h hx=>
 bj (X:=x20) (sig:=JH) rfl Tryz.func20 (c:=aa Tryz.f20) (by kernel_rfl) Tryz.ntmps20 (by kernel_rfl) (by kernel_rfl) rfl Ty.mixed Fc.2 rfl (λC hP hN=>(au (am (by kernel_rfl) trivial))) (am (by kernel_rfl) h) x hx
def sq:Cut SN:=⟨[(3, .vh 1003),(10,Dq6),(11,Dq1),(12,Dq1)],[(1003,Oq9)]⟩
def IR:Cut SN:=⟨[(3, .vh 1003)],[(1003,Oq9)]⟩
def LL:ba vw:=shL [(0,IR)] m_
def Js:Nat->Bool:=λ_=>false
def mw:Sig vw:=sg [Dq3] m_ [.tmp 2]
abbrev CW:=(List Tag)×Int×Int×(List ByteArray)×Unit
mutual
noncomputable def ie(v:CW):Option (((List ByteArray)×Unit)):=if decide (v.2.2.1<v.2.1)=true then if(0:Int)<=v.2.2.1 then v.1[v.2.2.1.toNat]?>>=λx1=>n_45 (x1,())>>=λx2=>if v.2.2.2.1.length+x2.1.length<=(4294967296:Nat)then ie (v.1,v.2.1,i64.wrap (v.2.2.1+(1:Int)),v.2.2.2.1++x2.1,())else none else none else some (v.2.2.2) partial_fixpoint
noncomputable def n_45(v:Tag×Unit):Option ((List ByteArray)×Unit):=df (v.1.names,())>>=λx1=>ie (v.1.parts,(↑v.1.parts.length:Int),(0:Int),x1)>>=λx2=>some (x2) partial_fixpoint
end
def z6(ie:CW->Option (((List ByteArray)×Unit)))(n_45:Tag×Unit->Option ((List ByteArray)×Unit)):bm vw:=λA fid args S k=>match fid with|45=>bg prog mw n_45 A args S k|53=>bN prog ee df A args S k|_=>none
def x45(ie:CW->Option (((List ByteArray)×Unit)))(n_45:Tag×Unit->Option ((List ByteArray)×Unit)):Xc vw:={P:=prog,n:=22,call:=z6 ie n_45,pre:=Js,sh:=LL,loops:=λk=>match k with|3=>some {cut:=sq,alts:=[.exit 0],F:=ie}|_=>none}
abbrev jO(v:CW)(r:((List ByteArray)×Unit)):Prop:=(λv out=>∀C:Ctx,C.P=prog->C.N=22/\Fx C Js->d6 C (ae (aa Tryz.f45) 0) (Go.Tx.az vw (bh vw sq v)) (eF LL [.exit 0] out)) v r
abbrev Ba(v:Tag×Unit)(r:(List ByteArray)×Unit):Prop:=(λv r=>∀x,lG prog mw r=some x->cX prog 45 (encL vw (aD mw v).len (bi mw v).1) (br (aD mw v).len (aD mw v).own) (an vw (bh vw mw.rcut r).len x) (br (bh vw mw.rcut r).len (gO mw r))) v r
theorem Gc(f0:CW->Option (((List ByteArray)×Unit)))(f1:Tag×Unit->Option ((List ByteArray)×Unit))(h0:∀v r,f0 v=some r->jO v r)(h1:∀v r,f1 v=some r->Ba v r):ay prog (x45 f0 f1).call:=(by
 intro A fid args S dst k r h
 unfold x45 z6 at h
 simp only at h
 split at h
 ·exact aq ((λv r x h hx=>h1 v r h x hx)) rfl rfl h
 ·exact aA (eA) h
 ·cases h)
theorem HK(f0:CW->Option (((List ByteArray)×Unit)))(f1:Tag×Unit->Option ((List ByteArray)×Unit))(h0:∀v r,f0 v=some r->jO v r)(h1:∀v r,f1 v=some r->Ba v r)(v:CW)(r:((List ByteArray)×Unit))(h:exL (x45 f0 f1) (ae (aa Tryz.f45) 0) sq [.exit 0] f0 v=some r):jO v r:=λC hP hN=>aH (X:=x45 f0 f1) (b:=(ae (aa Tryz.f45) 0)) hP hN Ty.mixed (Gc f0 f1 h0 h1) (au (X:=x45 f0 f1) (c:=(ae (aa Tryz.f45) 0)) (am (by kernel_rfl:True=bv (ax C (x45 f0 f1)) (aw (ae (aa Tryz.f45) 0))) trivial)) (cut:=sq) (alts:=[.exit 0]) (F:=f0) (λv out h=>h0 v out h C hP hN) h
theorem K2(f0:CW->Option (((List ByteArray)×Unit)))(h0:∀v r,f0 v=some r->jO v r):ay prog (x45 f0 (λ_=>none)).call:=(by
 intro A fid args S dst k r h
 unfold x45 z6 at h
 simp only at h
 split at h
 ·exact aq ((λv r x h hx=>by cases h)) rfl rfl h
 ·exact aA (eA) h
 ·cases h)
theorem LV(f0:CW->Option (((List ByteArray)×Unit)))(h0:∀v r,f0 v=some r->jO v r)(v:Tag×Unit)(r:(List ByteArray)×Unit)(h:exF (x45 f0 (λ_=>none)) mw rfl (aa Tryz.f45) v=some r):Ba v r:=λx hx=>bj (X:=x45 f0 (λ_=>none)) (sig:=mw) rfl Tryz.func45 (c:=aa Tryz.f45) (by kernel_rfl) Tryz.ntmps45 (by kernel_rfl) (by kernel_rfl) rfl Ty.mixed (K2 f0 h0) rfl (λC hP hN=>(au (X:=x45 f0 (λ_=>none)) (c:=(aa Tryz.f45)) (am (by kernel_rfl:bv (ax C (x45 f0 (λ_=>none))) [(ae (aa Tryz.f45) 0)]=bv (ax C (x45 f0 (λ_=>none))) (aw (aa Tryz.f45))) ⟨bd (X:=x45 f0 (λ_=>none)) (b:=(ae (aa Tryz.f45) 0)) (by kernel_rfl) (show bC C (ae (aa Tryz.f45) 0) (sh:=LL) {cut:=sq,alts:=[.exit 0],F:=f0}fromλv out h=>h0 v out h C hP hN),trivial⟩))) h x hx
theorem yy:(∀v r,ie v=some r->jO v r)/\(∀v r,n_45 v=some r->Ba v r):=by
 refine ie.mutual_partial_correctness
  (motive_1:=jO)
  (motive_2:=Ba)
  ?_ ?_
 ·exact(λf0 f1 h0 h1 v r h=>HK f0 f1 h0 h1 v r (am (by kernel_rfl) h))
 ·exact(λf0 h0 v r h=>LV f0 h0 v r (am (by kernel_rfl) h))
theorem G8:bc prog 45 mw n_45:=λv r x h hx=>yy.2 v r h x hx
end Go.Proofs.YtpndmanbfleadaaGreatDoor
end
