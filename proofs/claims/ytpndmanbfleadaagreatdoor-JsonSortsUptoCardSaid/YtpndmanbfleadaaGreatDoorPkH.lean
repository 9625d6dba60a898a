/-
  Texts of this claim, joined by a program of mine: what the theorem uses.
-/
import Derived.Test.YtpndmanbfleadaaGreatDoorPkF
import Derived.Test.YtpndmanbfleadaaGreatDoorPkC
import Derived.Test.YtpndmanbfleadaaGreatDoorPkG
open ByteArray renaming mk→Oo
open List renaming all_eq_true→OD,length_nil→Pv,mem_of_getElem?→OA
open Nat renaming le_refl→OO,zero_add→OS
open Sum renaming inl→Po,inr→PD
noncomputable section
set_option linter.unusedVariables false
section
namespace Go.Proofs.YtpndmanbfleadaaGreatDoor
open Go.Awp Go.Tx
open IntKind (i32)
open IntKind (u8)
open IntKind (i64)
open Go.Proofs.Tryz (prog)
set_option maxHeartbeats 4000000
set_option maxRecDepth 100000
abbrev Oq8:OPt SN:= .vec 5 (.int .u8)
def yl:Cut SN:=⟨[(0, .bp 100000 0)],[(100000, .box (some 108) [.np 100000, .vh 3001]),(3001,Oq8)]⟩
def kb:Sig vw:={params:=[.bp 100000 0],objs:=[(100000, .box (some 108) [.np 100000, .vh 100001]),(100001,Oq8)],rcut:=yl,rvars:=[],keep:=[100000,3001]}
noncomputable def ej(v:Bool×(List Int)×Unit):Option (Bool×(List Int)×Unit):=some (true,v.2.1,())
theorem kW:bd prog 120 kb ej:=λv r x h hx=>by
 obtain⟨bl,xs,u⟩:=v
 cases h;cases hx
 exact an (by kernel_rfl) (c8.copyCheck (P:=prog) (f:=120) (T:=108) (rest:=[]) (by kernel_rfl)
  (Any.Builder_copyCheck_fresh (P:=prog) (ρ:=Tryz.lays159_ren) {Tryz.lays159 with} Tryz.Builder_Extra_159.toX72)
  (Any.Builder_copyCheck_used (P:=prog) (ρ:=Tryz.lays159_ren) {Tryz.lays159 with} Tryz.Builder_Extra_159.toX72)
  (g:=100000) (m:=100001) (c:=3001) (l:=xs.length) (bl:=bl) (e:=5) (sz:=1) (rows:=xs.map λy=>Go.Tx.aV szN A9 (.int .u8) y) (by decide) (by decide) (by decide))
abbrev Dq1:Pt SN:= .dat (.int .i64)
def iN:Cut SN:=⟨[(0, .bp 100000 0),(4,Dq1),(5, .nif)],[(100000, .box (some 108) [.np 100000, .vh 3001]),(3001,Oq8)]⟩
def zB:bc vw:={rcut:=iN}
def wn:Nat->Bool:=λ_=>false
abbrev Dq5:Pt SN:= .dat .str
def j_:Sig vw:={params:=[.bp 100000 0,Dq5],objs:=[(100000, .box (some 108) [.np 100000, .vh 100001]),(100001,Oq8)],rcut:=iN,rvars:=[.tmp 4, .tmp 5],keep:=[100000,3001]}
abbrev Lk:=ByteArray×Bool×(List Int)×Unit
abbrev GN:=Int×Bool×(List Int)×Unit
noncomputable def gc(v:Lk):Option (GN):=ej v.2>>=λx1=>if x1.2.1.length+v.1.size<=(4294967296:Nat)then some (((↑v.1.size:Int),x1.1,x1.2.1++Bs.ints v.1,()))else none
def mj:aB vw:=cO prog 120 kb ej c0
def Dy:Xc vw:={P:=prog,n:=19,call:=mj,pre:=wn,sh:=zB}
theorem nz:aj prog mj:=eb kW ci
theorem rU:bd prog 100 j_ gc:=λv r x h hx=>
 bk (X:=Dy) (sig:=j_) rfl Tryz.func100 (c:=aa Tryz.f100) (by kernel_rfl) Tryz.ntmps100 (by kernel_rfl) (by kernel_rfl) rfl Ty.mixed nz rfl (λC hP hN=>(aw (an (by kernel_rfl) trivial))) (an (by kernel_rfl) h) x hx
abbrev Dq4:Pt SN:= .dat .bool
def nu:Cut SN:=⟨[(4,Dq4)],[]⟩
def Gz:Sig vw:={params:=[Dq5,Dq5],rcut:=nu,rvars:=[.tmp 4]}
noncomputable def Cb(v:ByteArray×ByteArray×Unit):Option (Bool×Unit):=match v.2.1.data.toList with|[c]=>some (decide (0<=Lib.indexByte v.1.data.toList c),())|_=>none
theorem Ep:bd prog 101 Gz Cb:=λv r x h hx=>by
 obtain⟨s,c,u⟩:=v
 unfold Cb at h
 simp only at h
 split at h
 ·rename_i c0 hc
  obtain rfl:c=⟨#[c0]⟩:=by
   obtain⟨⟨l⟩⟩:=c
   simp only at hc
   rw[hc]
  cases h;cases hx
  exact an (by kernel_rfl) (c8.pure (P:=prog) (f:=101) (args:=[.d (.v (.string s)), .d (.v (.string ⟨#[c0]⟩))]) (r:= .d (.v (.bool (decide (0<=Lib.indexByte s.data.toList c0))))) (by kernel_rfl) λE M w vs hg hm hv=>by
   obtain⟨v1,v2,rfl,h1,h2⟩:=tL hv
   rw[h1.dv,h2.dv]
   exact(Tryz.strings_Contains_one s c0 w).mono λe w' ⟨he,hw⟩=>⟨_,he, .d (.v _),hw▸Go.RowKit.Below.refl _ _⟩)
 ·cases h
def qk:Cut SN:=⟨[(2,Dq4)],[]⟩
def IY:Sig vw:={params:=[Dq5],rcut:=qk,rvars:=[.tmp 2]}
noncomputable def DK(v:ByteArray×Unit):Option (Bool×Unit):=if v.1.size<=9223372036854775807 then some (Lib.validD v.1.data.toList,())else none
theorem r9:bd prog 76 IY DK:=λv r x h hx=>by
 obtain⟨s,u⟩:=v
 unfold DK at h
 split at h
 ·rename_i hc
  simp only at hc
  cases h;cases hx
  exact an (by kernel_rfl) (c8.pure (P:=prog) (f:=76) (args:=[.d (.v (.string s))]) (r:= .d (.v (.bool (Lib.validD s.data.toList)))) (by kernel_rfl) λE M w vs hg hm hv=>by
   obtain⟨v1,rfl,h1⟩:=dT hv
   rw[h1.dv]
   exact(Tryz.utf8_ValidString s w hc (Dd hg hm)).mono λe w' ⟨he,hw⟩=>⟨_,he, .d (.v _),hw⟩)
 ·cases h
def N6:bc vw:={rcut:=qk}
def Mt:Nat->Bool:=λ_=>false
def E8:Sig vw:={params:=[Dq5],rcut:=qk,rvars:=[.tmp 2]}
noncomputable def DJ(v:ByteArray×Unit):Option (Bool×Unit):=DK v>>=λx1=>some ((!x1.1,()))
def Gl:aB vw:=cP prog 76 IY DK c0
def x75:Xc vw:={P:=prog,n:=6,call:=Gl,pre:=Mt,sh:=N6}
theorem AW:aj prog Gl:=bE r9 rfl rfl ci
theorem Cp:bd prog 75 E8 DJ:=λv r x h hx=>
 bk (X:=x75) (sig:=E8) rfl Tryz.func75 (c:=aa Tryz.f75) (by kernel_rfl) Tryz.ntmps75 (by kernel_rfl) (by kernel_rfl) rfl Ty.mixed AW rfl (λC hP hN=>(aw (an (by kernel_rfl) trivial))) (an (by kernel_rfl) h) x hx
abbrev Dq2:Pt SN:= .dat (.sl .str)
def nw:Cut SN:=⟨[(0,Dq2),(1, .fn 75 [] []),(7,Dq1),(8,Dq1)],[]⟩
def eE:Cut SN:=⟨[],[]⟩
def da:Cut SN:=⟨[(4,Dq1)],[]⟩
def su:bc vw:={exits:=λid=>match id with|0=>eE|_=>⟨[],[]⟩,rcut:=da}
def uB:Nat->Bool:=λ_=>false
def pf:Sig vw:={params:=[Dq2, .fn 75 [] []],rcut:=da,rvars:=[.tmp 4]}
noncomputable def bv(v:(List ByteArray)×Int×Int×Unit):Option (((Int×Unit)⊕(Unit))):=if decide (v.2.2.1<v.2.1)=true then if(0:Int)<=v.2.2.1 then v.1[v.2.2.1.toNat]?>>=λx1=>DJ (x1,())>>=λx2=>if x2.1=true then some (Po v.2.2)else bv (v.1,v.2.1,i64.wrap (v.2.2.1+(1:Int)),())else none else some (PD ()) partial_fixpoint
noncomputable def fD(v:(List ByteArray)×Unit):Option (Int×Unit):=bv (v.1,(↑v.1.length:Int),(0:Int),())>>=λx1=>match x1 with| .inl y1=>some y1| .inr y1=>some (((-1:Int),()))
def ql:aB vw:=cP prog 75 E8 DJ c0
def ku:Xc vw:={P:=prog,n:=19,call:=ql,pre:=uB,sh:=su,loops:=λk=>match k with|2=>some {cut:=nw,alts:=[.ret, .exit 0],F:=bv}|_=>none}
theorem kA:aj prog ql:=bE Cp rfl rfl ci
theorem rV(C:Ctx)(hP:C.P=prog)(hN:C.N=19/\Fx C uB):bC C (ae (aa Tryz.f103) 0) (sh:=su) {cut:=nw,alts:=[.ret, .exit 0],F:=bv}:=
 bv.partial_correctness (motive:=λv out=>ea C (ae (aa Tryz.f103) 0) (Go.Tx.az vw (bi vw nw v)) (eL su [.ret, .exit 0] out)) λF ih v out h=>
  aI (X:=ku) (b:=(ae (aa Tryz.f103) 0)) hP hN Ty.mixed kA (aw (X:=ku) (c:=(ae (aa Tryz.f103) 0)) (an (by kernel_rfl:True=bw (ay C (ku)) (ax (ae (aa Tryz.f103) 0))) trivial)) ih (an (by kernel_rfl) h)
theorem vZ:bd prog 103 pf fD:=λv r x h hx=>
 bk (X:=ku) (sig:=pf) rfl Tryz.func103 (c:=aa Tryz.f103) (by kernel_rfl) Tryz.ntmps103 (by kernel_rfl) (by kernel_rfl) rfl Ty.mixed kA rfl (λC hP hN=>(aw (an (by kernel_rfl:bw (ay C (ku)) [(ae (aa Tryz.f103) 0)]=bw (ay C (ku)) (ax (aa Tryz.f103))) ⟨bf (X:=ku) (b:=(ae (aa Tryz.f103) 0)) (by kernel_rfl) (rV C hP hN),trivial⟩))) (an (by kernel_rfl) h) x hx
abbrev Dq6:Pt SN:= .dat (.sl (.st .tagT))
def g6:Cut SN:=⟨[(0,Dq6),(1, .fn 52 [] []),(7,Dq1),(8,Dq1)],[]⟩
def sw:bc vw:={exits:=λid=>match id with|0=>eE|_=>⟨[],[]⟩,rcut:=da}
def uC:Nat->Bool:=λ_=>false
def cY:Sig vw:={params:=[Dq6, .fn 52 [] []],rcut:=da,rvars:=[.tmp 4]}
def yr:Cut SN:=⟨[(1, .bp 1 0),(3, .mp 6),(8,Dq2),(9,Dq1),(10,Dq1)],[(1, .st .tagT),(6, .map .str .bool)]⟩
def G2:Cut SN:=⟨[(1, .bp 1 0)],[(1, .st .tagT)]⟩
def Lc:bc vw:={exits:=λid=>match id with|0=>G2|_=>⟨[],[]⟩,rcut:=qk}
def Iz:Nat->Bool:=λ_=>false
abbrev Dq3:Pt SN:= .dat (.st .tagT)
def l7:Sig vw:={params:=[Dq3],rcut:=qk,rvars:=[.tmp 2]}
def IE:bc vw:={rcut:=nu}
def ES:Nat->Bool:=λ_=>false
def dZ:Sig vw:={params:=[Dq6, .fn 52 [] []],rcut:=nu,rvars:=[.tmp 4]}
abbrev Tq6:=(List ByteArray)×Int×Int×Tag×(List (ByteArray×Bool))×Unit
noncomputable def bU(v:Tq6):Option (((Bool×Unit)⊕(Tag×Unit))):=if decide (v.2.2.1<v.2.1)=true then if(0:Int)<=v.2.2.1 then v.1[v.2.2.1.toNat]?>>=λx1=>if(Mp.get Mp.seq x1 v.2.2.2.2.1).getD false=true then some (Po (true,()))else bU (v.1,v.2.1,i64.wrap (v.2.2.1+(1:Int)),v.2.2.2.1,Mp.set Mp.seq Mp.slt x1 true v.2.2.2.2.1,())else none else some (PD (v.2.2.2.1,())) partial_fixpoint
abbrev Tq4:=(List Tag)×Int×Int×Unit
mutual
noncomputable def aO(v:Tq4):Option (((Int×Unit)⊕(Unit))):=if decide (v.2.2.1<v.2.1)=true then if(0:Int)<=v.2.2.1 then v.1[v.2.2.1.toNat]?>>=λx1=>n_52 (x1,())>>=λx2=>if x2.1=true then some (Po v.2.2)else aO (v.1,v.2.1,i64.wrap (v.2.2.1+(1:Int)),())else none else some (PD ()) partial_fixpoint
noncomputable def n_52(v:Tag×Unit):Option (Bool×Unit):=bU (v.1.names,(↑v.1.names.length:Int),(0:Int),v.1,[],())>>=λx1=>match x1 with| .inl y1=>some y1| .inr y1=>n_78c52 (y1.1.parts,())>>=λx2=>some (x2) partial_fixpoint
noncomputable def n_78c52(v:(List Tag)×Unit):Option (Bool×Unit):=n_104c52 v>>=λx1=>some ((decide (x1.1>=(0:Int)),())) partial_fixpoint
noncomputable def n_104c52(v:(List Tag)×Unit):Option (Int×Unit):=aO (v.1,(↑v.1.length:Int),(0:Int),())>>=λx1=>match x1 with| .inl y1=>some y1| .inr y1=>some (((-1:Int),())) partial_fixpoint
end
def lC(bU:Tq6->Option (((Bool×Unit)⊕(Tag×Unit))))(aO:Tq4->Option (((Int×Unit)⊕(Unit))))(n_52:Tag×Unit->Option (Bool×Unit))(n_78c52:(List Tag)×Unit->Option (Bool×Unit))(n_104c52:(List Tag)×Unit->Option (Int×Unit)):aB vw:=λA fid args S k=>match fid with|52=>bh prog l7 n_52 A args S k|_=>none
def d8(bU:Tq6->Option (((Bool×Unit)⊕(Tag×Unit))))(aO:Tq4->Option (((Int×Unit)⊕(Unit))))(n_52:Tag×Unit->Option (Bool×Unit))(n_78c52:(List Tag)×Unit->Option (Bool×Unit))(n_104c52:(List Tag)×Unit->Option (Int×Unit)):Xc vw:={P:=prog,n:=19,call:=lC bU aO n_52 n_78c52 n_104c52,pre:=uC,sh:=sw,loops:=λk=>match k with|2=>some {cut:=g6,alts:=[.ret, .exit 0],F:=aO}|_=>none}
def AU(bU:Tq6->Option (((Bool×Unit)⊕(Tag×Unit))))(aO:Tq4->Option (((Int×Unit)⊕(Unit))))(n_52:Tag×Unit->Option (Bool×Unit))(n_78c52:(List Tag)×Unit->Option (Bool×Unit))(n_104c52:(List Tag)×Unit->Option (Int×Unit)):aB vw:=λA fid args S k=>match fid with|78=>bh prog dZ n_78c52 A args S k|_=>none
def x52(bU:Tq6->Option (((Bool×Unit)⊕(Tag×Unit))))(aO:Tq4->Option (((Int×Unit)⊕(Unit))))(n_52:Tag×Unit->Option (Bool×Unit))(n_78c52:(List Tag)×Unit->Option (Bool×Unit))(n_104c52:(List Tag)×Unit->Option (Int×Unit)):Xc vw:={P:=prog,n:=23,call:=AU bU aO n_52 n_78c52 n_104c52,pre:=Iz,sh:=Lc,loops:=λk=>match k with|3=>some {cut:=yr,alts:=[.ret, .exit 0],F:=bU}|_=>none}
def th(bU:Tq6->Option (((Bool×Unit)⊕(Tag×Unit))))(aO:Tq4->Option (((Int×Unit)⊕(Unit))))(n_52:Tag×Unit->Option (Bool×Unit))(n_78c52:(List Tag)×Unit->Option (Bool×Unit))(n_104c52:(List Tag)×Unit->Option (Int×Unit)):aB vw:=λA fid args S k=>match fid with|104=>bh prog cY n_104c52 A args S k|_=>none
def ra(bU:Tq6->Option (((Bool×Unit)⊕(Tag×Unit))))(aO:Tq4->Option (((Int×Unit)⊕(Unit))))(n_52:Tag×Unit->Option (Bool×Unit))(n_78c52:(List Tag)×Unit->Option (Bool×Unit))(n_104c52:(List Tag)×Unit->Option (Int×Unit)):Xc vw:={P:=prog,n:=9,call:=th bU aO n_52 n_78c52 n_104c52,pre:=ES,sh:=IE}
abbrev rQ(v:Tq6)(r:((Bool×Unit)⊕(Tag×Unit))):Prop:=(λv out=>∀C:Ctx,C.P=prog->C.N=23/\Fx C Iz->ea C (ae (aa Tryz.f52) 0) (Go.Tx.az vw (bi vw yr v)) (eL Lc [.ret, .exit 0] out)) v r
theorem Hd(f0:Tq6->Option (((Bool×Unit)⊕(Tag×Unit))))(h0:∀v r,f0 v=some r->rQ v r):aj prog (x52 f0 (λ_=>none) (λ_=>none) (λ_=>none) (λ_=>none)).call:=(by
 intro A fid args S dst k r h
 unfold x52 AU at h
 simp only at h
 split at h
 ·exact au ((λv r x h hx=>by cases h)) rfl rfl h
 ·cases h)
theorem I9(f0:Tq6->Option (((Bool×Unit)⊕(Tag×Unit))))(h0:∀v r,f0 v=some r->rQ v r)(v:Tq6)(r:((Bool×Unit)⊕(Tag×Unit)))(h:exL (x52 f0 (λ_=>none) (λ_=>none) (λ_=>none) (λ_=>none)) (ae (aa Tryz.f52) 0) yr [.ret, .exit 0] f0 v=some r):rQ v r:=λC hP hN=>aI (X:=x52 f0 (λ_=>none) (λ_=>none) (λ_=>none) (λ_=>none)) (b:=(ae (aa Tryz.f52) 0)) hP hN Ty.mixed (Hd f0 h0) (aw (X:=x52 f0 (λ_=>none) (λ_=>none) (λ_=>none) (λ_=>none)) (c:=(ae (aa Tryz.f52) 0)) (an (by kernel_rfl:True=bw (ay C (x52 f0 (λ_=>none) (λ_=>none) (λ_=>none) (λ_=>none))) (ax (ae (aa Tryz.f52) 0))) trivial)) (cut:=yr) (alts:=[.ret, .exit 0]) (F:=f0) (λv out h=>h0 v out h C hP hN) h
theorem Cj:∀v out,bU v=some out->(λv out=>∀C:Ctx,C.P=prog->C.N=23/\Fx C Iz->ea C (ae (aa Tryz.f52) 0) (Go.Tx.az vw (bi vw yr v)) (eL Lc [.ret, .exit 0] out)) v out:=(bU.partial_correctness (motive:=rQ) (λf0 h0 v r h=>I9 f0 h0 v r (an (by kernel_rfl) h)))
abbrev dt(v:Tq4)(r:((Int×Unit)⊕(Unit))):Prop:=(λv out=>∀C:Ctx,C.P=prog->C.N=19/\Fx C uC->ea C (ae (aa Tryz.f104) 0) (Go.Tx.az vw (bi vw g6 v)) (eL sw [.ret, .exit 0] out)) v r
abbrev B7(v:Tag×Unit)(r:Bool×Unit):Prop:=(λv r=>∀x,lS prog l7 r=some x->c8 prog 52 (encL vw (aE l7 v).len (bj l7 v).1) (br (aE l7 v).len (aE l7 v).own) (ao vw (bi vw l7.rcut r).len x) (br (bi vw l7.rcut r).len (gY l7 r))) v r
abbrev kU(v:(List Tag)×Unit)(r:Bool×Unit):Prop:=(λv r=>∀x,lS prog dZ r=some x->c8 prog 78 (encL vw (aE dZ v).len (bj dZ v).1) (br (aE dZ v).len (aE dZ v).own) (ao vw (bi vw dZ.rcut r).len x) (br (bi vw dZ.rcut r).len (gY dZ r))) v r
abbrev io(v:(List Tag)×Unit)(r:Int×Unit):Prop:=(λv r=>∀x,lS prog cY r=some x->c8 prog 104 (encL vw (aE cY v).len (bj cY v).1) (br (aE cY v).len (aE cY v).own) (ao vw (bi vw cY.rcut r).len x) (br (bi vw cY.rcut r).len (gY cY r))) v r
theorem vz(f0:Tq4->Option (((Int×Unit)⊕(Unit))))(f1:Tag×Unit->Option (Bool×Unit))(h0:∀v r,f0 v=some r->dt v r)(h1:∀v r,f1 v=some r->B7 v r):aj prog (d8 (λ_=>none) f0 f1 (λ_=>none) (λ_=>none)).call:=(by
 intro A fid args S dst k r h
 unfold d8 lC at h
 simp only at h
 split at h
 ·exact au ((λv r x h hx=>h1 v r h x hx)) rfl rfl h
 ·cases h)
theorem wC(f0:Tq4->Option (((Int×Unit)⊕(Unit))))(f1:Tag×Unit->Option (Bool×Unit))(h0:∀v r,f0 v=some r->dt v r)(h1:∀v r,f1 v=some r->B7 v r)(v:Tq4)(r:((Int×Unit)⊕(Unit)))(h:exL (d8 (λ_=>none) f0 f1 (λ_=>none) (λ_=>none)) (ae (aa Tryz.f104) 0) g6 [.ret, .exit 0] f0 v=some r):dt v r:=λC hP hN=>aI (X:=d8 (λ_=>none) f0 f1 (λ_=>none) (λ_=>none)) (b:=(ae (aa Tryz.f104) 0)) hP hN Ty.mixed (vz f0 f1 h0 h1) (aw (X:=d8 (λ_=>none) f0 f1 (λ_=>none) (λ_=>none)) (c:=(ae (aa Tryz.f104) 0)) (an (by kernel_rfl:True=bw (ay C (d8 (λ_=>none) f0 f1 (λ_=>none) (λ_=>none))) (ax (ae (aa Tryz.f104) 0))) trivial)) (cut:=g6) (alts:=[.ret, .exit 0]) (F:=f0) (λv out h=>h0 v out h C hP hN) h
theorem LV(f0:(List Tag)×Unit->Option (Bool×Unit))(h0:∀v r,f0 v=some r->kU v r):aj prog (x52 bU (λ_=>none) (λ_=>none) f0 (λ_=>none)).call:=(by
 intro A fid args S dst k r h
 unfold x52 AU at h
 simp only at h
 split at h
 ·exact au ((λv r x h hx=>h0 v r h x hx)) rfl rfl h
 ·cases h)
theorem MO(f0:(List Tag)×Unit->Option (Bool×Unit))(h0:∀v r,f0 v=some r->kU v r)(v:Tag×Unit)(r:Bool×Unit)(h:exF (x52 bU (λ_=>none) (λ_=>none) f0 (λ_=>none)) l7 rfl (aa Tryz.f52) v=some r):B7 v r:=λx hx=>bk (X:=x52 bU (λ_=>none) (λ_=>none) f0 (λ_=>none)) (sig:=l7) rfl Tryz.func52 (c:=aa Tryz.f52) (by kernel_rfl) Tryz.ntmps52 (by kernel_rfl) (by kernel_rfl) rfl Ty.mixed (LV f0 h0) rfl (λC hP hN=>(aw (X:=x52 bU (λ_=>none) (λ_=>none) f0 (λ_=>none)) (c:=(aa Tryz.f52)) (an (by kernel_rfl:bw (ay C (x52 bU (λ_=>none) (λ_=>none) f0 (λ_=>none))) [(ae (aa Tryz.f52) 0)]=bw (ay C (x52 bU (λ_=>none) (λ_=>none) f0 (λ_=>none))) (ax (aa Tryz.f52))) ⟨bf (X:=x52 bU (λ_=>none) (λ_=>none) f0 (λ_=>none)) (b:=(ae (aa Tryz.f52) 0)) (by kernel_rfl) (show bC C (ae (aa Tryz.f52) 0) (sh:=Lc) {cut:=yr,alts:=[.ret, .exit 0],F:=bU}fromλv out h=>Cj v out h C hP hN),trivial⟩))) h x hx
theorem D5(f0:(List Tag)×Unit->Option (Int×Unit))(h0:∀v r,f0 v=some r->io v r):aj prog (ra (λ_=>none) (λ_=>none) (λ_=>none) (λ_=>none) f0).call:=(by
 intro A fid args S dst k r h
 unfold ra th at h
 simp only at h
 split at h
 ·exact au ((λv r x h hx=>h0 v r h x hx)) rfl rfl h
 ·cases h)
theorem Fd(f0:(List Tag)×Unit->Option (Int×Unit))(h0:∀v r,f0 v=some r->io v r)(v:(List Tag)×Unit)(r:Bool×Unit)(h:exF (ra (λ_=>none) (λ_=>none) (λ_=>none) (λ_=>none) f0) dZ rfl (aa Tryz.f78) v=some r):kU v r:=λx hx=>bk (X:=ra (λ_=>none) (λ_=>none) (λ_=>none) (λ_=>none) f0) (sig:=dZ) rfl Tryz.func78 (c:=aa Tryz.f78) (by kernel_rfl) Tryz.ntmps78 (by kernel_rfl) (by kernel_rfl) rfl Ty.mixed (D5 f0 h0) rfl (λC hP hN=>(aw (X:=ra (λ_=>none) (λ_=>none) (λ_=>none) (λ_=>none) f0) (c:=(aa Tryz.f78)) (an (by kernel_rfl:True=bw (ay C (ra (λ_=>none) (λ_=>none) (λ_=>none) (λ_=>none) f0)) (ax (aa Tryz.f78))) trivial))) h x hx
theorem AZ(f0:Tq4->Option (((Int×Unit)⊕(Unit))))(h0:∀v r,f0 v=some r->dt v r):aj prog (d8 (λ_=>none) f0 (λ_=>none) (λ_=>none) (λ_=>none)).call:=(by
 intro A fid args S dst k r h
 unfold d8 lC at h
 simp only at h
 split at h
 ·exact au ((λv r x h hx=>by cases h)) rfl rfl h
 ·cases h)
theorem C5(f0:Tq4->Option (((Int×Unit)⊕(Unit))))(h0:∀v r,f0 v=some r->dt v r)(v:(List Tag)×Unit)(r:Int×Unit)(h:exF (d8 (λ_=>none) f0 (λ_=>none) (λ_=>none) (λ_=>none)) cY rfl (aa Tryz.f104) v=some r):io v r:=λx hx=>bk (X:=d8 (λ_=>none) f0 (λ_=>none) (λ_=>none) (λ_=>none)) (sig:=cY) rfl Tryz.func104 (c:=aa Tryz.f104) (by kernel_rfl) Tryz.ntmps104 (by kernel_rfl) (by kernel_rfl) rfl Ty.mixed (AZ f0 h0) rfl (λC hP hN=>(aw (X:=d8 (λ_=>none) f0 (λ_=>none) (λ_=>none) (λ_=>none)) (c:=(aa Tryz.f104)) (an (by kernel_rfl:bw (ay C (d8 (λ_=>none) f0 (λ_=>none) (λ_=>none) (λ_=>none))) [(ae (aa Tryz.f104) 0)]=bw (ay C (d8 (λ_=>none) f0 (λ_=>none) (λ_=>none) (λ_=>none))) (ax (aa Tryz.f104))) ⟨bf (X:=d8 (λ_=>none) f0 (λ_=>none) (λ_=>none) (λ_=>none)) (b:=(ae (aa Tryz.f104) 0)) (by kernel_rfl) (show bC C (ae (aa Tryz.f104) 0) (sh:=sw) {cut:=g6,alts:=[.ret, .exit 0],F:=f0}fromλv out h=>h0 v out h C hP hN),trivial⟩))) h x hx
theorem pT:(∀v r,aO v=some r->dt v r)/\(∀v r,n_52 v=some r->B7 v r)/\(∀v r,n_78c52 v=some r->kU v r)/\(∀v r,n_104c52 v=some r->io v r):=by
 refine aO.mutual_partial_correctness
  (motive_1:=dt)
  (motive_2:=B7)
  (motive_3:=kU)
  (motive_4:=io)
  ?_ ?_ ?_ ?_
 ·exact(λf0 f1 h0 h1 v r h=>wC f0 f1 h0 h1 v r (an (by kernel_rfl) h))
 ·exact(λf0 h0 v r h=>MO f0 h0 v r (an (by kernel_rfl) h))
 ·exact(λf0 h0 v r h=>Fd f0 h0 v r (an (by kernel_rfl) h))
 ·exact(λf0 h0 v r h=>C5 f0 h0 v r (an (by kernel_rfl) h))
theorem Ih:bd prog 52 l7 n_52:=λv r x h hx=>pT.2.1 v r h x hx
def ID:bc vw:={rcut:=nu}
def ER:Nat->Bool:=λ_=>false
def sy:Sig vw:={params:=[Dq2, .fn 75 [] []],rcut:=nu,rvars:=[.tmp 4]}
noncomputable def fu(v:(List ByteArray)×Unit):Option (Bool×Unit):=fD v>>=λx1=>some ((decide (x1.1>=(0:Int)),()))
def tf:aB vw:=cP prog 103 pf fD c0
def KU:Xc vw:={P:=prog,n:=9,call:=tf,pre:=ER,sh:=ID}
theorem tg:aj prog tf:=bE vZ rfl rfl ci
theorem zb:bd prog 77 sy fu:=λv r x h hx=>
 bk (X:=KU) (sig:=sy) rfl Tryz.func77 (c:=aa Tryz.f77) (by kernel_rfl) Tryz.ntmps77 (by kernel_rfl) (by kernel_rfl) rfl Ty.mixed tg rfl (λC hP hN=>(aw (an (by kernel_rfl) trivial))) (an (by kernel_rfl) h) x hx
def g7:Cut SN:=⟨[(0,Dq6),(1, .fn 79 [] []),(7,Dq1),(8,Dq1)],[]⟩
def sx:bc vw:={exits:=λid=>match id with|0=>eE|_=>⟨[],[]⟩,rcut:=da}
def uD:Nat->Bool:=λ_=>false
def cZ:Sig vw:={params:=[Dq6, .fn 79 [] []],rcut:=da,rvars:=[.tmp 4]}
def LF:Cut SN:=⟨[(1, .bp 1 0),(52,Dq4)],[(1, .st .tagT)]⟩
def LG:Cut SN:=⟨[(1, .bp 1 0),(75,Dq4)],[(1, .st .tagT)]⟩
def N4:bc vw:={rcut:=qk}
def Mr:Nat->Bool:=λ_=>false
def l6:Sig vw:={params:=[Dq3],rcut:=qk,rvars:=[.tmp 2]}
def IF:bc vw:={rcut:=nu}
def ET:Nat->Bool:=λ_=>false
def d5:Sig vw:={params:=[Dq6, .fn 79 [] []],rcut:=nu,rvars:=[.tmp 4]}
def N7:bc vw:={rcut:=qk}
def Mu:Nat->Bool:=λ_=>false
def pg:Sig vw:={params:=[Dq3],rcut:=qk,rvars:=[.tmp 2]}
mutual
noncomputable def aF(v:Tq4):Option (((Int×Unit)⊕(Unit))):=if decide (v.2.2.1<v.2.1)=true then if(0:Int)<=v.2.2.1 then v.1[v.2.2.1.toNat]?>>=λx1=>n_79 (x1,())>>=λx2=>if x2.1=true then some (Po v.2.2)else aF (v.1,v.2.1,i64.wrap (v.2.2.1+(1:Int)),())else none else some (PD ()) partial_fixpoint
noncomputable def n_79(v:Tag×Unit):Option (Bool×Unit):=n_51 v>>=λx1=>some ((!x1.1,())) partial_fixpoint
noncomputable def n_51(v:Tag×Unit):Option (Bool×Unit):=(if decide (v.1.kind<(0:Int))=true then some (true,v)else if decide (v.1.kind>(6:Int))=true then some (true,v)else if(v.1.kind !=(3:Int))=true then if(v.1.n !=(0:Int))=true then some (true,v)else if decide (v.1.n<(-9007199254740992:Int))=true then some (true,v)else if decide (v.1.n>(9007199254740992:Int))=true then some (true,v)else if(v.1.kind !=(4:Int))=true then if(!v.1.text.toList==(Oo #[]).toList)=true then some (true,v)else if decide (v.1.kind<(5:Int))=true then some ((decide ((↑v.1.parts.length:Int)>(0:Int)),v))else some (false,v)else if decide (v.1.kind<(5:Int))=true then some ((decide ((↑v.1.parts.length:Int)>(0:Int)),v))else some (false,v)else if decide (v.1.n<(-9007199254740992:Int))=true then some (true,v)else if decide (v.1.n>(9007199254740992:Int))=true then some (true,v)else if(v.1.kind !=(4:Int))=true then if(!v.1.text.toList==(Oo #[]).toList)=true then some (true,v)else if decide (v.1.kind<(5:Int))=true then some ((decide ((↑v.1.parts.length:Int)>(0:Int)),v))else some (false,v)else if decide (v.1.kind<(5:Int))=true then some ((decide ((↑v.1.parts.length:Int)>(0:Int)),v))else some (false,v))>>=λx1=>if x1.1=true then some ((false,()))else(if(x1.2.1.kind==(6:Int))=true then if((↑x1.2.1.names.length:Int) !=(↑x1.2.1.parts.length:Int))=true then some (true,x1.2)else if(x1.2.1.kind !=(6:Int))=true then some ((decide ((↑x1.2.1.names.length:Int)>(0:Int)),x1.2))else some (false,x1.2)else if(x1.2.1.kind !=(6:Int))=true then some ((decide ((↑x1.2.1.names.length:Int)>(0:Int)),x1.2))else some (false,x1.2))>>=λx2=>if x2.1=true then some ((false,()))else(DJ (x2.2.1.text,())>>=λx3=>if(!x3.1)=true then fu (x2.2.1.names,())>>=λx4=>if(!x4.1)=true then n_78c79 (x2.2.1.parts,())>>=λx5=>some ((!x5.1,()))else some ((false,()))else some ((false,())))>>=λx3=>some (x3) partial_fixpoint
noncomputable def n_78c79(v:(List Tag)×Unit):Option (Bool×Unit):=n_104c79 v>>=λx1=>some ((decide (x1.1>=(0:Int)),())) partial_fixpoint
noncomputable def n_104c79(v:(List Tag)×Unit):Option (Int×Unit):=aF (v.1,(↑v.1.length:Int),(0:Int),())>>=λx1=>match x1 with| .inl y1=>some y1| .inr y1=>some (((-1:Int),())) partial_fixpoint
end
def lD(aF:Tq4->Option (((Int×Unit)⊕(Unit))))(n_79:Tag×Unit->Option (Bool×Unit))(n_51:Tag×Unit->Option (Bool×Unit))(n_78c79:(List Tag)×Unit->Option (Bool×Unit))(n_104c79:(List Tag)×Unit->Option (Int×Unit)):aB vw:=λA fid args S k=>match fid with|79=>bh prog pg n_79 A args S k|_=>none
def d9(aF:Tq4->Option (((Int×Unit)⊕(Unit))))(n_79:Tag×Unit->Option (Bool×Unit))(n_51:Tag×Unit->Option (Bool×Unit))(n_78c79:(List Tag)×Unit->Option (Bool×Unit))(n_104c79:(List Tag)×Unit->Option (Int×Unit)):Xc vw:={P:=prog,n:=19,call:=lD aF n_79 n_51 n_78c79 n_104c79,pre:=uD,sh:=sx,loops:=λk=>match k with|2=>some {cut:=g7,alts:=[.ret, .exit 0],F:=aF}|_=>none}
def Gh(aF:Tq4->Option (((Int×Unit)⊕(Unit))))(n_79:Tag×Unit->Option (Bool×Unit))(n_51:Tag×Unit->Option (Bool×Unit))(n_78c79:(List Tag)×Unit->Option (Bool×Unit))(n_104c79:(List Tag)×Unit->Option (Int×Unit)):aB vw:=λA fid args S k=>match fid with|75=>bh prog E8 DJ A args S k|77=>bh prog sy fu A args S k|78=>bh prog d5 n_78c79 A args S k|_=>none
def x51(aF:Tq4->Option (((Int×Unit)⊕(Unit))))(n_79:Tag×Unit->Option (Bool×Unit))(n_51:Tag×Unit->Option (Bool×Unit))(n_78c79:(List Tag)×Unit->Option (Bool×Unit))(n_104c79:(List Tag)×Unit->Option (Int×Unit)):Xc vw:={P:=prog,n:=94,call:=Gh aF n_79 n_51 n_78c79 n_104c79,pre:=Mr,sh:=N4,regs:=λk=>match k with|1=>some LF|3=>some LG|6=>some qk|_=>none}
def ti(aF:Tq4->Option (((Int×Unit)⊕(Unit))))(n_79:Tag×Unit->Option (Bool×Unit))(n_51:Tag×Unit->Option (Bool×Unit))(n_78c79:(List Tag)×Unit->Option (Bool×Unit))(n_104c79:(List Tag)×Unit->Option (Int×Unit)):aB vw:=λA fid args S k=>match fid with|104=>bh prog cZ n_104c79 A args S k|_=>none
def rb(aF:Tq4->Option (((Int×Unit)⊕(Unit))))(n_79:Tag×Unit->Option (Bool×Unit))(n_51:Tag×Unit->Option (Bool×Unit))(n_78c79:(List Tag)×Unit->Option (Bool×Unit))(n_104c79:(List Tag)×Unit->Option (Int×Unit)):Xc vw:={P:=prog,n:=9,call:=ti aF n_79 n_51 n_78c79 n_104c79,pre:=ET,sh:=IF}
def Gm(aF:Tq4->Option (((Int×Unit)⊕(Unit))))(n_79:Tag×Unit->Option (Bool×Unit))(n_51:Tag×Unit->Option (Bool×Unit))(n_78c79:(List Tag)×Unit->Option (Bool×Unit))(n_104c79:(List Tag)×Unit->Option (Int×Unit)):aB vw:=λA fid args S k=>match fid with|51=>bh prog l6 n_51 A args S k|_=>none
def x79(aF:Tq4->Option (((Int×Unit)⊕(Unit))))(n_79:Tag×Unit->Option (Bool×Unit))(n_51:Tag×Unit->Option (Bool×Unit))(n_78c79:(List Tag)×Unit->Option (Bool×Unit))(n_104c79:(List Tag)×Unit->Option (Int×Unit)):Xc vw:={P:=prog,n:=6,call:=Gm aF n_79 n_51 n_78c79 n_104c79,pre:=Mu,sh:=N7}
abbrev du(v:Tq4)(r:((Int×Unit)⊕(Unit))):Prop:=(λv out=>∀C:Ctx,C.P=prog->C.N=19/\Fx C uD->ea C (ae (aa Tryz.f104) 0) (Go.Tx.az vw (bi vw g7 v)) (eL sx [.ret, .exit 0] out)) v r
abbrev B_(v:Tag×Unit)(r:Bool×Unit):Prop:=(λv r=>∀x,lS prog pg r=some x->c8 prog 79 (encL vw (aE pg v).len (bj pg v).1) (br (aE pg v).len (aE pg v).own) (ao vw (bi vw pg.rcut r).len x) (br (bi vw pg.rcut r).len (gY pg r))) v r
abbrev B6(v:Tag×Unit)(r:Bool×Unit):Prop:=(λv r=>∀x,lS prog l6 r=some x->c8 prog 51 (encL vw (aE l6 v).len (bj l6 v).1) (br (aE l6 v).len (aE l6 v).own) (ao vw (bi vw l6.rcut r).len x) (br (bi vw l6.rcut r).len (gY l6 r))) v r
abbrev kV(v:(List Tag)×Unit)(r:Bool×Unit):Prop:=(λv r=>∀x,lS prog d5 r=some x->c8 prog 78 (encL vw (aE d5 v).len (bj d5 v).1) (br (aE d5 v).len (aE d5 v).own) (ao vw (bi vw d5.rcut r).len x) (br (bi vw d5.rcut r).len (gY d5 r))) v r
abbrev ip(v:(List Tag)×Unit)(r:Int×Unit):Prop:=(λv r=>∀x,lS prog cZ r=some x->c8 prog 104 (encL vw (aE cZ v).len (bj cZ v).1) (br (aE cZ v).len (aE cZ v).own) (ao vw (bi vw cZ.rcut r).len x) (br (bi vw cZ.rcut r).len (gY cZ r))) v r
theorem vA(f0:Tq4->Option (((Int×Unit)⊕(Unit))))(f1:Tag×Unit->Option (Bool×Unit))(h0:∀v r,f0 v=some r->du v r)(h1:∀v r,f1 v=some r->B_ v r):aj prog (d9 f0 f1 (λ_=>none) (λ_=>none) (λ_=>none)).call:=(by
 intro A fid args S dst k r h
 unfold d9 lD at h
 simp only at h
 split at h
 ·exact au ((λv r x h hx=>h1 v r h x hx)) rfl rfl h
 ·cases h)
theorem wD(f0:Tq4->Option (((Int×Unit)⊕(Unit))))(f1:Tag×Unit->Option (Bool×Unit))(h0:∀v r,f0 v=some r->du v r)(h1:∀v r,f1 v=some r->B_ v r)(v:Tq4)(r:((Int×Unit)⊕(Unit)))(h:exL (d9 f0 f1 (λ_=>none) (λ_=>none) (λ_=>none)) (ae (aa Tryz.f104) 0) g7 [.ret, .exit 0] f0 v=some r):du v r:=λC hP hN=>aI (X:=d9 f0 f1 (λ_=>none) (λ_=>none) (λ_=>none)) (b:=(ae (aa Tryz.f104) 0)) hP hN Ty.mixed (vA f0 f1 h0 h1) (aw (X:=d9 f0 f1 (λ_=>none) (λ_=>none) (λ_=>none)) (c:=(ae (aa Tryz.f104) 0)) (an (by kernel_rfl:True=bw (ay C (d9 f0 f1 (λ_=>none) (λ_=>none) (λ_=>none))) (ax (ae (aa Tryz.f104) 0))) trivial)) (cut:=g7) (alts:=[.ret, .exit 0]) (F:=f0) (λv out h=>h0 v out h C hP hN) h
theorem LY(f0:Tag×Unit->Option (Bool×Unit))(h0:∀v r,f0 v=some r->B6 v r):aj prog (x79 (λ_=>none) (λ_=>none) f0 (λ_=>none) (λ_=>none)).call:=(by
 intro A fid args S dst k r h
 unfold x79 Gm at h
 simp only at h
 split at h
 ·exact au ((λv r x h hx=>h0 v r h x hx)) rfl rfl h
 ·cases h)
theorem MR(f0:Tag×Unit->Option (Bool×Unit))(h0:∀v r,f0 v=some r->B6 v r)(v:Tag×Unit)(r:Bool×Unit)(h:exF (x79 (λ_=>none) (λ_=>none) f0 (λ_=>none) (λ_=>none)) pg rfl (aa Tryz.f79) v=some r):B_ v r:=λx hx=>bk (X:=x79 (λ_=>none) (λ_=>none) f0 (λ_=>none) (λ_=>none)) (sig:=pg) rfl Tryz.func79 (c:=aa Tryz.f79) (by kernel_rfl) Tryz.ntmps79 (by kernel_rfl) (by kernel_rfl) rfl Ty.mixed (LY f0 h0) rfl (λC hP hN=>(aw (X:=x79 (λ_=>none) (λ_=>none) f0 (λ_=>none) (λ_=>none)) (c:=(aa Tryz.f79)) (an (by kernel_rfl:True=bw (ay C (x79 (λ_=>none) (λ_=>none) f0 (λ_=>none) (λ_=>none))) (ax (aa Tryz.f79))) trivial))) h x hx
theorem LU(f0:(List Tag)×Unit->Option (Bool×Unit))(h0:∀v r,f0 v=some r->kV v r):aj prog (x51 (λ_=>none) (λ_=>none) (λ_=>none) f0 (λ_=>none)).call:=(by
 intro A fid args S dst k r h
 unfold x51 Gh at h
 simp only at h
 split at h
 ·exact au (Cp) rfl rfl h
 ·exact au (zb) rfl rfl h
 ·exact au ((λv r x h hx=>h0 v r h x hx)) rfl rfl h
 ·cases h)
theorem MN(f0:(List Tag)×Unit->Option (Bool×Unit))(h0:∀v r,f0 v=some r->kV v r)(v:Tag×Unit)(r:Bool×Unit)(h:exF (x51 (λ_=>none) (λ_=>none) (λ_=>none) f0 (λ_=>none)) l6 rfl (aa Tryz.f51) v=some r):B6 v r:=λx hx=>bk (X:=x51 (λ_=>none) (λ_=>none) (λ_=>none) f0 (λ_=>none)) (sig:=l6) rfl Tryz.func51 (c:=aa Tryz.f51) (by kernel_rfl) Tryz.ntmps51 (by kernel_rfl) (by kernel_rfl) rfl Ty.mixed (LU f0 h0) rfl (λC hP hN=>(aw (X:=x51 (λ_=>none) (λ_=>none) (λ_=>none) f0 (λ_=>none)) (c:=(aa Tryz.f51)) (an (by kernel_rfl:True=bw (ay C (x51 (λ_=>none) (λ_=>none) (λ_=>none) f0 (λ_=>none))) (ax (aa Tryz.f51))) trivial))) h x hx
theorem D6(f0:(List Tag)×Unit->Option (Int×Unit))(h0:∀v r,f0 v=some r->ip v r):aj prog (rb (λ_=>none) (λ_=>none) (λ_=>none) (λ_=>none) f0).call:=(by
 intro A fid args S dst k r h
 unfold rb ti at h
 simp only at h
 split at h
 ·exact au ((λv r x h hx=>h0 v r h x hx)) rfl rfl h
 ·cases h)
theorem Fe(f0:(List Tag)×Unit->Option (Int×Unit))(h0:∀v r,f0 v=some r->ip v r)(v:(List Tag)×Unit)(r:Bool×Unit)(h:exF (rb (λ_=>none) (λ_=>none) (λ_=>none) (λ_=>none) f0) d5 rfl (aa Tryz.f78) v=some r):kV v r:=λx hx=>bk (X:=rb (λ_=>none) (λ_=>none) (λ_=>none) (λ_=>none) f0) (sig:=d5) rfl Tryz.func78 (c:=aa Tryz.f78) (by kernel_rfl) Tryz.ntmps78 (by kernel_rfl) (by kernel_rfl) rfl Ty.mixed (D6 f0 h0) rfl (λC hP hN=>(aw (X:=rb (λ_=>none) (λ_=>none) (λ_=>none) (λ_=>none) f0) (c:=(aa Tryz.f78)) (an (by kernel_rfl:True=bw (ay C (rb (λ_=>none) (λ_=>none) (λ_=>none) (λ_=>none) f0)) (ax (aa Tryz.f78))) trivial))) h x hx
theorem A0(f0:Tq4->Option (((Int×Unit)⊕(Unit))))(h0:∀v r,f0 v=some r->du v r):aj prog (d9 f0 (λ_=>none) (λ_=>none) (λ_=>none) (λ_=>none)).call:=(by
 intro A fid args S dst k r h
 unfold d9 lD at h
 simp only at h
 split at h
 ·exact au ((λv r x h hx=>by cases h)) rfl rfl h
 ·cases h)
theorem C6(f0:Tq4->Option (((Int×Unit)⊕(Unit))))(h0:∀v r,f0 v=some r->du v r)(v:(List Tag)×Unit)(r:Int×Unit)(h:exF (d9 f0 (λ_=>none) (λ_=>none) (λ_=>none) (λ_=>none)) cZ rfl (aa Tryz.f104) v=some r):ip v r:=λx hx=>bk (X:=d9 f0 (λ_=>none) (λ_=>none) (λ_=>none) (λ_=>none)) (sig:=cZ) rfl Tryz.func104 (c:=aa Tryz.f104) (by kernel_rfl) Tryz.ntmps104 (by kernel_rfl) (by kernel_rfl) rfl Ty.mixed (A0 f0 h0) rfl (λC hP hN=>(aw (X:=d9 f0 (λ_=>none) (λ_=>none) (λ_=>none) (λ_=>none)) (c:=(aa Tryz.f104)) (an (by kernel_rfl:bw (ay C (d9 f0 (λ_=>none) (λ_=>none) (λ_=>none) (λ_=>none))) [(ae (aa Tryz.f104) 0)]=bw (ay C (d9 f0 (λ_=>none) (λ_=>none) (λ_=>none) (λ_=>none))) (ax (aa Tryz.f104))) ⟨bf (X:=d9 f0 (λ_=>none) (λ_=>none) (λ_=>none) (λ_=>none)) (b:=(ae (aa Tryz.f104) 0)) (by kernel_rfl) (show bC C (ae (aa Tryz.f104) 0) (sh:=sx) {cut:=g7,alts:=[.ret, .exit 0],F:=f0}fromλv out h=>h0 v out h C hP hN),trivial⟩))) h x hx
theorem pU:(∀v r,aF v=some r->du v r)/\(∀v r,n_79 v=some r->B_ v r)/\(∀v r,n_51 v=some r->B6 v r)/\(∀v r,n_78c79 v=some r->kV v r)/\(∀v r,n_104c79 v=some r->ip v r):=by
 refine aF.mutual_partial_correctness
  (motive_1:=du)
  (motive_2:=B_)
  (motive_3:=B6)
  (motive_4:=kV)
  (motive_5:=ip)
  ?_ ?_ ?_ ?_ ?_
 ·exact(λf0 f1 h0 h1 v r h=>wD f0 f1 h0 h1 v r (an (by kernel_rfl) h))
 ·exact(λf0 h0 v r h=>MR f0 h0 v r (an (by kernel_rfl) h))
 ·exact(λf0 h0 v r h=>MN f0 h0 v r (an (by kernel_rfl) h))
 ·exact(λf0 h0 v r h=>Fe f0 h0 v r (an (by kernel_rfl) h))
 ·exact(λf0 h0 v r h=>C6 f0 h0 v r (an (by kernel_rfl) h))
theorem Ig:bd prog 51 l6 n_51:=λv r x h hx=>pU.2.2.1 v r h x hx
abbrev Dq7:Pt SN:= .dat (.int .u8)
def GA:Sig vw:={params:=[Dq5,Dq7],rcut:=da,rvars:=[.tmp 4]}
noncomputable def Er(v:ByteArray×Int×Unit):Option (Int×Unit):=some (Lib.indexByte v.1.data.toList v.2.1.toNat.toUInt8,())
theorem Es:bd prog 132 GA Er:=λv r x h hx=>by
 obtain⟨s,c,u⟩:=v
 cases h;cases hx
 exact an (by kernel_rfl) (c8.pure (P:=prog) (f:=132) (args:=[.d (.v (.string s)), .d (.v (.int .u8 c))]) (r:= .d (.v (.int .i64 (Lib.indexByte s.data.toList c.toNat.toUInt8)))) (by kernel_rfl) λE M w vs _ _ hv=>by
  obtain⟨v1,v2,rfl,h1,h2⟩:=tL hv
  rw[h1.dv,h2.dv]
  exact(Tryz.stringslite_IndexByte s c w).mono λe w' ⟨he,hw⟩=>⟨_,he, .d (.v _),hw▸Go.RowKit.Below.refl _ _⟩)
def Mx:bc vw:={rcut:=da}
def Kz:Nat->Bool:=λ_=>false
def xO:Sig vw:={params:=[Dq5,Dq7],rcut:=da,rvars:=[.tmp 4]}
noncomputable def v6(v:ByteArray×Int×Unit):Option (Int×Unit):=Er v>>=λx1=>some (x1)
def AB:aB vw:=cP prog 132 GA Er c0
def Oj:Xc vw:={P:=prog,n:=8,call:=AB,pre:=Kz,sh:=Mx}
theorem yC:aj prog AB:=bE Es rfl rfl ci
theorem xB:bd prog 118 xO v6:=λv r x h hx=>
 bk (X:=Oj) (sig:=xO) rfl Tryz.func118 (c:=aa Tryz.f118) (by kernel_rfl) Tryz.ntmps118 (by kernel_rfl) (by kernel_rfl) rfl Ty.mixed yC rfl (λC hP hN=>(aw (an (by kernel_rfl) trivial))) (an (by kernel_rfl) h) x hx
def DX:Cut SN:=⟨[(2,Dq5)],[]⟩
def GB:Sig vw:={params:=[Dq5],rcut:=DX,rvars:=[.tmp 2]}
noncomputable def Cc(v:ByteArray×Unit):Option (ByteArray×Unit):=if v.1.size<=140737488355328/\v.1.data.toList.all (λb=>decide (b.toNat<128))=true then some (⟨(Lib.toLowerA v.1.data.toList).toArray⟩,())else none
theorem Et:bd prog 133 GB Cc:=λv r x h hx=>by
 obtain⟨s,u⟩:=v
 unfold Cc at h
 split at h
 ·rename_i hc
  obtain⟨h0,h1⟩:=hc
  simp only at h0 h1
  cases h;cases hx
  exact an (by kernel_rfl) (c8.pure (P:=prog) (f:=133) (args:=[.d (.v (.string s))]) (r:= .d (.v (.string ⟨(Lib.toLowerA s.data.toList).toArray⟩))) (by kernel_rfl) λE M w vs hg hm hv=>by
   obtain⟨v1,rfl,h2⟩:=dT hv
   rw[h2.dv]
   exact(Tryz.strings_ToLower_ascii s w h0 (λj b hb=>of_decide_eq_true (OD.1 h1 b (OA hb)))).mono λe w' ⟨he,hw⟩=>⟨_,he, .d (.v _),hw⟩)
 ·cases h
def yy:Cut SN:=⟨[(0, .bp 100000 0),(33,Dq4)],[(100000, .st .readerT)]⟩
def kz:Cut SN:=⟨[(0, .bp 100000 0),(4,Dq4)],[(100000, .st .readerT)]⟩
def CY:bc vw:={rcut:=kz}
def zn:Nat->Bool:=λ_=>false
def df:Sig vw:={params:=[.bp 100000 0,Dq5],objs:=[(100000, .st .readerT)],rcut:=kz,rvars:=[.tmp 4],keep:=[100000]}
noncomputable def aM(v:ByteArray×aq×Unit):Option (Bool×aq×Unit):=(if(v.2.1.at0==(↑v.2.1.s.size:Int))=true then some (true,v.2)else if(0:Int)<=v.2.1.at0/\v.2.1.at0<=i64.wrap (v.2.1.at0+(1:Int))/\i64.wrap (v.2.1.at0+(1:Int))<=(↑v.2.1.s.size:Int)then Cb (v.1,v.2.1.s.extract v.2.1.at0.toNat (i64.wrap (v.2.1.at0+(1:Int))).toNat,())>>=λx1=>some (!x1.1,v.2)else none)>>=λx1=>if x1.1=true then some (false,x1.2)else some ((true,aq.mk x1.2.1.s (i64.wrap (x1.2.1.at0+(1:Int))),()))
def nL:aB vw:=cP prog 101 Gz Cb c0
def FM:Xc vw:={P:=prog,n:=41,call:=nL,pre:=zn,sh:=CY,regs:=λk=>match k with|1=>some yy|_=>none}
theorem pI:aj prog nL:=bE Ep rfl rfl ci
theorem cd:bd prog 74 df aM:=λv r x h hx=>
 bk (X:=FM) (sig:=df) rfl Tryz.func74 (c:=aa Tryz.f74) (by kernel_rfl) Tryz.ntmps74 (by kernel_rfl) (by kernel_rfl) rfl Ty.mixed pI rfl (λC hP hN=>(aw (an (by kernel_rfl) trivial))) (an (by kernel_rfl) h) x hx
abbrev DF:Pt SN:= .dat (.int .i32)
def g8:Cut SN:=⟨[(0, .bp 100000 0),(10,DF),(50, .dat (.sl (.int .u8))),(51,Dq1),(52,Dq1)],[(100000, .st .readerT)]⟩
def vl:Cut SN:=⟨[(0, .bp 100000 0),(8,Dq1),(9,Dq5)],[(100000, .st .readerT)]⟩
def vm:Cut SN:=⟨[(0, .bp 100000 0),(8,Dq1),(38,Dq4)],[(100000, .st .readerT)]⟩
def vk:Cut SN:=⟨[(0, .bp 100000 0),(10,DF)],[(100000, .st .readerT)]⟩
def qg:Cut SN:=⟨[(0, .bp 100000 0),(6,DF),(7,Dq4)],[(100000, .st .readerT)]⟩
def lU:bc vw:={exits:=λid=>match id with|1=>vk|_=>⟨[],[]⟩,rcut:=qg}
def oN:Nat->Bool:=λ_=>false
def ka:Sig vw:={params:=[.bp 100000 0,Dq5,Dq5],objs:=[(100000, .st .readerT)],rcut:=qg,rvars:=[.tmp 6, .tmp 7],keep:=[100000]}
abbrev M_:=Int×(List Int)×Int×Int×aq×Unit
noncomputable def cy(v:M_):Option ((Int×aq×Unit)):=if decide (v.2.2.2.1<v.2.2.1)=true then if(0:Int)<=v.2.2.2.1 then v.2.1[v.2.2.2.1.toNat]?>>=λx1=>v6 (Oo #[48,49,50,51,52,53,54,55,56,57,97,98,99,100,101,102,65,66,67,68,69,70],x1,())>>=λx2=>cy (i32.wrap (i32.wrap ((16:Int) *v.1)+i32.wrap x2.1),v.2.1,v.2.2.1,i64.wrap (v.2.2.2.1+(1:Int)),v.2.2.2.2)else none else some (v.1,v.2.2.2.2) partial_fixpoint
abbrev Lj:=ByteArray×ByteArray×aq×Unit
abbrev KZ:=Int×Bool×aq×Unit
noncomputable def fb(v:Lj):Option (KZ):=(aM (v.1,v.2.2)>>=λx1=>if x1.1=true then some (Po (v.2.2.1.at0,Oo #[48,49,50,51,52,53,54,55,56,57,97,98,99,100,101,102,65,66,67,68,69,70],x1.2))else aM (Oo #[100,68],x1.2)>>=λx2=>if x2.1=true then some (Po (v.2.2.1.at0,v.2.1,x2.2))else some (PD ((0:Int),false,x2.2)))>>=λx1=>match x1 with| .inl y1=>(aM y1.2>>=λx2=>if(!x2.1)=true then some (y1.1,true,x2.2)else aM (Oo #[48,49,50,51,52,53,54,55,56,57,97,98,99,100,101,102,65,66,67,68,69,70],x2.2)>>=λx3=>if(!x3.1)=true then some (y1.1,true,x3.2)else aM (Oo #[48,49,50,51,52,53,54,55,56,57,97,98,99,100,101,102,65,66,67,68,69,70],x3.2)>>=λx4=>some (y1.1,!x4.1,x4.2))>>=λx2=>if x2.2.1=true then some (((0:Int),false,x2.2.2))else if(0:Int)<=x2.1/\x2.1<=x2.2.2.1.at0/\x2.2.2.1.at0<=(↑x2.2.2.1.s.size:Int)then Cc (x2.2.2.1.s.extract x2.1.toNat x2.2.2.1.at0.toNat,())>>=λx3=>cy ((0:Int),Bs.ints x3.1,(↑(Bs.ints x3.1).length:Int),(0:Int),x2.2.2)>>=λx4=>some (x4.1,true,x4.2)else none| .inr y1=>some y1
def ml:aB vw:=cO prog 74 df aM (cP prog 118 xO v6 (cP prog 133 GB Cc c0))
def fw:Xc vw:={P:=prog,n:=64,call:=ml,pre:=oN,sh:=lU,joins:=λk=>match k with|7=>some (vl,[.norm, .ret])|_=>none,regs:=λk=>match k with|7=>some vm|_=>none,loops:=λk=>match k with|11=>some {cut:=g8,alts:=[.exit 1],F:=cy}|_=>none}
theorem g_:aj prog ml:=eb cd (bE xB rfl rfl (bE Et rfl rfl ci))
theorem mP(C:Ctx)(hP:C.P=prog)(hN:C.N=64/\Fx C oN):bC C (ae (aa Tryz.f119) 0) (sh:=lU) {cut:=g8,alts:=[.exit 1],F:=cy}:=
 cy.partial_correctness (motive:=λv out=>ea C (ae (aa Tryz.f119) 0) (Go.Tx.az vw (bi vw g8 v)) (eL lU [.exit 1] out)) λF ih v out h=>
  aI (X:=fw) (b:=(ae (aa Tryz.f119) 0)) hP hN Ty.mixed g_ (aw (X:=fw) (c:=(ae (aa Tryz.f119) 0)) (an (by kernel_rfl:True=bw (ay C (fw)) (ax (ae (aa Tryz.f119) 0))) trivial)) ih (an (by kernel_rfl) h)
theorem rW:bd prog 119 ka fb:=λv r x h hx=>
 bk (X:=fw) (sig:=ka) rfl Tryz.func119 (c:=aa Tryz.f119) (by kernel_rfl) Tryz.ntmps119 (by kernel_rfl) (by kernel_rfl) rfl Ty.mixed g_ rfl (λC hP hN=>(aw (an (by kernel_rfl:bw (ay C (fw)) [(ae (aa Tryz.f119) 0)]=bw (ay C (fw)) (ax (aa Tryz.f119))) ⟨bf (X:=fw) (b:=(ae (aa Tryz.f119) 0)) (by kernel_rfl) (mP C hP hN),trivial⟩))) (an (by kernel_rfl) h) x hx
def G0:Cut SN:=⟨[(0,Dq2),(1,Dq2),(5,Dq1)],[]⟩
def Mz:bc vw:={exits:=λid=>match id with|0=>eE|_=>⟨[],[]⟩,rcut:=nu}
def KB:Nat->Bool:=λ_=>false
def E6:Sig vw:={params:=[Dq2,Dq2],rcut:=nu,rvars:=[.tmp 4]}
noncomputable def mw(v:(List ByteArray)×(List ByteArray)×Int×Unit):Option (((Bool×Unit)⊕(Unit))):=if decide (v.2.2.1<(↑v.1.length:Int))=true then if(0:Int)<=v.2.2.1 then v.1[v.2.2.1.toNat]?>>=λx1=>if(0:Int)<=v.2.2.1 then v.2.1[v.2.2.1.toNat]?>>=λx2=>if(!x1.toList==x2.toList)=true then some (Po (false,()))else mw (v.1,v.2.1,i64.wrap (v.2.2.1+(1:Int)),())else none else none else some (PD ()) partial_fixpoint
noncomputable def H7(v:(List ByteArray)×(List ByteArray)×Unit):Option (Bool×Unit):=if((↑v.1.length:Int) !=(↑v.2.1.length:Int))=true then some ((false,()))else mw (v.1,v.2.1,(0:Int),())>>=λx1=>match x1 with| .inl y1=>some y1| .inr y1=>some ((true,()))
def Gb:aB vw:=c0
def x26:Xc vw:={P:=prog,n:=26,call:=Gb,pre:=KB,sh:=Mz,loops:=λk=>match k with|4=>some {cut:=G0,alts:=[.ret, .exit 0],F:=mw}|_=>none}
theorem s8:aj prog Gb:=ci
theorem Cd(C:Ctx)(hP:C.P=prog)(hN:C.N=26/\Fx C KB):bC C (ae (aa Tryz.f26) 0) (sh:=Mz) {cut:=G0,alts:=[.ret, .exit 0],F:=mw}:=
 mw.partial_correctness (motive:=λv out=>ea C (ae (aa Tryz.f26) 0) (Go.Tx.az vw (bi vw G0 v)) (eL Mz [.ret, .exit 0] out)) λF ih v out h=>
  aI (X:=x26) (b:=(ae (aa Tryz.f26) 0)) hP hN Ty.mixed s8 (aw (X:=x26) (c:=(ae (aa Tryz.f26) 0)) (an (by kernel_rfl:True=bw (ay C (x26)) (ax (ae (aa Tryz.f26) 0))) trivial)) ih (an (by kernel_rfl) h)
theorem v7:bd prog 26 E6 H7:=λv r x h hx=>
 bk (X:=x26) (sig:=E6) rfl Tryz.func26 (c:=aa Tryz.f26) (by kernel_rfl) Tryz.ntmps26 (by kernel_rfl) (by kernel_rfl) rfl Ty.mixed s8 rfl (λC hP hN=>(aw (an (by kernel_rfl:bw (ay C (x26)) [(ae (aa Tryz.f26) 0)]=bw (ay C (x26)) (ax (aa Tryz.f26))) ⟨bf (X:=x26) (b:=(ae (aa Tryz.f26) 0)) (by kernel_rfl) (Cd C hP hN),trivial⟩))) (an (by kernel_rfl) h) x hx
def Au:Cut SN:=⟨[(2, .bp 2 0),(3, .bp 3 0),(5,Dq1)],[(2, .st .tagT),(3, .st .tagT)]⟩
def Lp:Cut SN:=⟨[(2, .bp 2 0),(3, .bp 3 0),(41,Dq4)],[(2, .st .tagT),(3, .st .tagT)]⟩
def My:bc vw:={exits:=λid=>match id with|0=>eE|_=>⟨[],[]⟩,rcut:=nu}
def KA:Nat->Bool:=λ_=>false
def lV:Sig vw:={params:=[Dq3,Dq3],rcut:=nu,rvars:=[.tmp 4]}
abbrev DQ:=Int×Tag×Tag×Unit
mutual
noncomputable def iu(v:DQ):Option (((Bool×Unit)⊕(Unit))):=if decide (v.1<(↑v.2.1.parts.length:Int))=true then if(0:Int)<=v.1 then v.2.1.parts[v.1.toNat]?>>=λx1=>if(0:Int)<=v.1 then v.2.2.1.parts[v.1.toNat]?>>=λx2=>n_12 (x1,x2,())>>=λx3=>if(!x3.1)=true then some (Po (false,()))else iu (i64.wrap (v.1+(1:Int)),v.2)else none else none else some (PD ()) partial_fixpoint
noncomputable def n_12(v:Tag×Tag×Unit):Option (Bool×Unit):=(if(v.1.kind !=v.2.1.kind)=true then some (true,v)else if(v.1.n !=v.2.1.n)=true then some (true,v)else if(!v.1.text.toList==v.2.1.text.toList)=true then some (true,v)else H7 (v.1.names,v.2.1.names,())>>=λx1=>if(!x1.1)=true then some (true,v)else some (((↑v.1.parts.length:Int) !=(↑v.2.1.parts.length:Int),v)))>>=λx1=>if x1.1=true then some ((false,()))else iu ((0:Int),x1.2)>>=λx2=>match x2 with| .inl y2=>some y2| .inr y2=>some ((true,())) partial_fixpoint
end
def AC(iu:DQ->Option (((Bool×Unit)⊕(Unit))))(n_12:Tag×Tag×Unit->Option (Bool×Unit)):aB vw:=λA fid args S k=>match fid with|12=>bh prog lV n_12 A args S k|26=>bh prog E6 H7 A args S k|_=>none
def x12(iu:DQ->Option (((Bool×Unit)⊕(Unit))))(n_12:Tag×Tag×Unit->Option (Bool×Unit)):Xc vw:={P:=prog,n:=61,call:=AC iu n_12,pre:=KA,sh:=My,regs:=λk=>match k with|1=>some Lp|_=>none,loops:=λk=>match k with|4=>some {cut:=Au,alts:=[.ret, .exit 0],F:=iu}|_=>none}
abbrev jV(v:DQ)(r:((Bool×Unit)⊕(Unit))):Prop:=(λv out=>∀C:Ctx,C.P=prog->C.N=61/\Fx C KA->ea C (ae (aa Tryz.f12) 0) (Go.Tx.az vw (bi vw Au v)) (eL My [.ret, .exit 0] out)) v r
abbrev BT(v:Tag×Tag×Unit)(r:Bool×Unit):Prop:=(λv r=>∀x,lS prog lV r=some x->c8 prog 12 (encL vw (aE lV v).len (bj lV v).1) (br (aE lV v).len (aE lV v).own) (ao vw (bi vw lV.rcut r).len x) (br (bi vw lV.rcut r).len (gY lV r))) v r
theorem G4(f0:DQ->Option (((Bool×Unit)⊕(Unit))))(f1:Tag×Tag×Unit->Option (Bool×Unit))(h0:∀v r,f0 v=some r->jV v r)(h1:∀v r,f1 v=some r->BT v r):aj prog (x12 f0 f1).call:=(by
 intro A fid args S dst k r h
 unfold x12 AC at h
 simp only at h
 split at h
 ·exact au ((λv r x h hx=>h1 v r h x hx)) rfl rfl h
 ·exact au (v7) rfl rfl h
 ·cases h)
theorem IZ(f0:DQ->Option (((Bool×Unit)⊕(Unit))))(f1:Tag×Tag×Unit->Option (Bool×Unit))(h0:∀v r,f0 v=some r->jV v r)(h1:∀v r,f1 v=some r->BT v r)(v:DQ)(r:((Bool×Unit)⊕(Unit)))(h:exL (x12 f0 f1) (ae (aa Tryz.f12) 0) Au [.ret, .exit 0] f0 v=some r):jV v r:=λC hP hN=>aI (X:=x12 f0 f1) (b:=(ae (aa Tryz.f12) 0)) hP hN Ty.mixed (G4 f0 f1 h0 h1) (aw (X:=x12 f0 f1) (c:=(ae (aa Tryz.f12) 0)) (an (by kernel_rfl:True=bw (ay C (x12 f0 f1)) (ax (ae (aa Tryz.f12) 0))) trivial)) (cut:=Au) (alts:=[.ret, .exit 0]) (F:=f0) (λv out h=>h0 v out h C hP hN) h
theorem LN(f0:DQ->Option (((Bool×Unit)⊕(Unit))))(h0:∀v r,f0 v=some r->jV v r):aj prog (x12 f0 (λ_=>none)).call:=(by
 intro A fid args S dst k r h
 unfold x12 AC at h
 simp only at h
 split at h
 ·exact au ((λv r x h hx=>by cases h)) rfl rfl h
 ·exact au (v7) rfl rfl h
 ·cases h)
theorem MG(f0:DQ->Option (((Bool×Unit)⊕(Unit))))(h0:∀v r,f0 v=some r->jV v r)(v:Tag×Tag×Unit)(r:Bool×Unit)(h:exF (x12 f0 (λ_=>none)) lV rfl (aa Tryz.f12) v=some r):BT v r:=λx hx=>bk (X:=x12 f0 (λ_=>none)) (sig:=lV) rfl Tryz.func12 (c:=aa Tryz.f12) (by kernel_rfl) Tryz.ntmps12 (by kernel_rfl) (by kernel_rfl) rfl Ty.mixed (LN f0 h0) rfl (λC hP hN=>(aw (X:=x12 f0 (λ_=>none)) (c:=(aa Tryz.f12)) (an (by kernel_rfl:bw (ay C (x12 f0 (λ_=>none))) [(ae (aa Tryz.f12) 0)]=bw (ay C (x12 f0 (λ_=>none))) (ax (aa Tryz.f12))) ⟨bf (X:=x12 f0 (λ_=>none)) (b:=(ae (aa Tryz.f12) 0)) (by kernel_rfl) (show bC C (ae (aa Tryz.f12) 0) (sh:=My) {cut:=Au,alts:=[.ret, .exit 0],F:=f0}fromλv out h=>h0 v out h C hP hN),trivial⟩))) h x hx
theorem yY:(∀v r,iu v=some r->jV v r)/\(∀v r,n_12 v=some r->BT v r):=by
 refine iu.mutual_partial_correctness
  (motive_1:=jV)
  (motive_2:=BT)
  ?_ ?_
 ·exact(λf0 f1 h0 h1 v r h=>IZ f0 f1 h0 h1 v r (an (by kernel_rfl) h))
 ·exact(λf0 h0 v r h=>MG f0 h0 v r (an (by kernel_rfl) h))
theorem HP:bd prog 12 lV n_12:=λv r x h hx=>yY.2 v r h x hx
def nx:Cut SN:=⟨[(0, .vh 100000),(1,DF),(5, .dat (.int .u32)),(25,Dq4)],[(100000,Oq8)]⟩
def vp:Cut SN:=⟨[(0, .vh 100000),(1,DF),(50,Dq4)],[(100000,Oq8)]⟩
def iO:Cut SN:=⟨[(4, .vh 2004)],[(2004,Oq8)]⟩
def zE:bc vw:={rcut:=iO}
def ws:Nat->Bool:=λ_=>false
def kh:Sig vw:={params:=[.vh 100000,DF],objs:=[(100000,Oq8)],rcut:=iO,rvars:=[.tmp 4],keep:=[2004]}
noncomputable def iZ(v:Int×(List Int)×Unit):Option ((List Int)×Unit):=if decide (IntKind.u32.wrap v.1<=(2047:Int))=true then if v.2.1.length+[Bs.ior u8 (192:Int) (u8.wrap (Bs.ishr i32 v.1 (6:Int))),Bs.ior u8 (128:Int) (Bs.iand u8 (u8.wrap v.1) (63:Int))].length<=(4294967296:Nat)then some ((v.2.1++[Bs.ior u8 (192:Int) (u8.wrap (Bs.ishr i32 v.1 (6:Int))),Bs.ior u8 (128:Int) (Bs.iand u8 (u8.wrap v.1) (63:Int))],()))else none else(if decide (IntKind.u32.wrap v.1<(55296:Int))=true then some (v.1,IntKind.u32.wrap v.1,true,v.2)else(if decide ((57343:Int)<IntKind.u32.wrap v.1)=true then some ((v.1,IntKind.u32.wrap v.1,decide (IntKind.u32.wrap v.1<=(65535:Int)),v.2))else some (v.1,IntKind.u32.wrap v.1,false,v.2))>>=λx1=>some (x1))>>=λx1=>if x1.2.2.1=true then if x1.2.2.2.1.length+[Bs.ior u8 (224:Int) (u8.wrap (Bs.ishr i32 x1.1 (12:Int))),Bs.ior u8 (128:Int) (Bs.iand u8 (u8.wrap (Bs.ishr i32 x1.1 (6:Int))) (63:Int)),Bs.ior u8 (128:Int) (Bs.iand u8 (u8.wrap x1.1) (63:Int))].length<=(4294967296:Nat)then some ((x1.2.2.2.1++[Bs.ior u8 (224:Int) (u8.wrap (Bs.ishr i32 x1.1 (12:Int))),Bs.ior u8 (128:Int) (Bs.iand u8 (u8.wrap (Bs.ishr i32 x1.1 (6:Int))) (63:Int)),Bs.ior u8 (128:Int) (Bs.iand u8 (u8.wrap x1.1) (63:Int))],()))else none else(if decide (x1.2.1>(65535:Int))=true then some ((x1.1,decide (x1.2.1<=(1114111:Int)),x1.2.2.2))else some (x1.1,false,x1.2.2.2))>>=λx2=>if x2.2.1=true then if x2.2.2.1.length+[Bs.ior u8 (240:Int) (u8.wrap (Bs.ishr i32 x2.1 (18:Int))),Bs.ior u8 (128:Int) (Bs.iand u8 (u8.wrap (Bs.ishr i32 x2.1 (12:Int))) (63:Int)),Bs.ior u8 (128:Int) (Bs.iand u8 (u8.wrap (Bs.ishr i32 x2.1 (6:Int))) (63:Int)),Bs.ior u8 (128:Int) (Bs.iand u8 (u8.wrap x2.1) (63:Int))].length<=(4294967296:Nat)then some ((x2.2.2.1++[Bs.ior u8 (240:Int) (u8.wrap (Bs.ishr i32 x2.1 (18:Int))),Bs.ior u8 (128:Int) (Bs.iand u8 (u8.wrap (Bs.ishr i32 x2.1 (12:Int))) (63:Int)),Bs.ior u8 (128:Int) (Bs.iand u8 (u8.wrap (Bs.ishr i32 x2.1 (6:Int))) (63:Int)),Bs.ior u8 (128:Int) (Bs.iand u8 (u8.wrap x2.1) (63:Int))],()))else none else if x2.2.2.1.length+[(239:Int),(191:Int),(189:Int)].length<=(4294967296:Nat)then some ((x2.2.2.1++[(239:Int),(191:Int),(189:Int)],()))else none
def mo:aB vw:=c0
def DB:Xc vw:={P:=prog,n:=78,call:=mo,pre:=ws,sh:=zE,joins:=λk=>match k with|7=>some (nx,[.norm])|_=>none,regs:=λk=>match k with|6=>some nx|8=>some vp|_=>none}
theorem nC:aj prog mo:=ci
theorem rZ:bd prog 135 kh iZ:=λv r x h hx=>
 bk (X:=DB) (sig:=kh) rfl Tryz.func135 (c:=aa Tryz.f135) (by kernel_rfl) Tryz.ntmps135 (by kernel_rfl) (by kernel_rfl) rfl Ty.mixed nC rfl (λC hP hN=>(aw (an (by kernel_rfl) trivial))) (an (by kernel_rfl) h) x hx
def zC:bc vw:={rcut:=iO}
def wo:Nat->Bool:=λ_=>false
def kd:Sig vw:={params:=[.vh 100000,DF],objs:=[(100000,Oq8)],rcut:=iO,rvars:=[.tmp 4],keep:=[2004]}
noncomputable def gd(v:Int×(List Int)×Unit):Option ((List Int)×Unit):=if decide (IntKind.u32.wrap v.1<=(127:Int))=true then if v.2.1.length+[u8.wrap v.1].length<=(4294967296:Nat)then some ((v.2.1++[u8.wrap v.1],()))else none else iZ v>>=λx1=>some (x1)
def mm:aB vw:=cO prog 135 kh iZ c0
def Dz:Xc vw:={P:=prog,n:=16,call:=mm,pre:=wo,sh:=zC}
theorem nA:aj prog mm:=eb rZ ci
theorem rX:bd prog 121 kd gd:=λv r x h hx=>
 bk (X:=Dz) (sig:=kd) rfl Tryz.func121 (c:=aa Tryz.f121) (by kernel_rfl) Tryz.ntmps121 (by kernel_rfl) (by kernel_rfl) rfl Ty.mixed nA rfl (λC hP hN=>(aw (an (by kernel_rfl) trivial))) (an (by kernel_rfl) h) x hx
def vo:Cut SN:=⟨[(0, .bp 100000 0),(42,Dq4)],[(100000, .st .readerT)]⟩
def qh:Cut SN:=⟨[(0, .bp 100000 0),(6,Dq4)],[(100000, .st .readerT)]⟩
def zD:bc vw:={rcut:=qh}
def wq:Nat->Bool:=λ_=>false
def kf:Sig vw:={params:=[.bp 100000 0,Dq7,Dq7],objs:=[(100000, .st .readerT)],rcut:=qh,rvars:=[.tmp 6],keep:=[100000]}
noncomputable def iY(v:Int×Int×aq×Unit):Option (Bool×aq×Unit):=(if(v.2.2.1.at0==(↑v.2.2.1.s.size:Int))=true then some (true,v.2.2)else if(0:Int)<=v.2.2.1.at0 then v.2.2.1.s[v.2.2.1.at0.toNat]?>>=λx1=>if decide ((↑x1.toNat:Int)<v.1)=true then some (true,v.2.2)else if(0:Int)<=v.2.2.1.at0 then v.2.2.1.s[v.2.2.1.at0.toNat]?>>=λx2=>some ((decide ((↑x2.toNat:Int)>v.2.1),v.2.2))else none else none)>>=λx1=>if x1.1=true then some (false,x1.2)else some ((true,aq.mk x1.2.1.s (i64.wrap (x1.2.1.at0+(1:Int))),()))
def mn:aB vw:=c0
def DA:Xc vw:={P:=prog,n:=50,call:=mn,pre:=wq,sh:=zD,regs:=λk=>match k with|1=>some vo|_=>none}
theorem nB:aj prog mn:=ci
theorem rY:bd prog 122 kf iY:=λv r x h hx=>
 bk (X:=DA) (sig:=kf) rfl Tryz.func122 (c:=aa Tryz.f122) (by kernel_rfl) Tryz.ntmps122 (by kernel_rfl) (by kernel_rfl) rfl Ty.mixed nB rfl (λC hP hN=>(aw (an (by kernel_rfl) trivial))) (an (by kernel_rfl) h) x hx
def yo:Cut SN:=⟨[(1, .bp 1 0),(2, .bp 2 0),(3, .bp 3 0),(14,Dq2),(15,Dq1),(16,Dq1)],[(1, .st .tagT),(2, .st .sizeT),(3, .st .sizeT)]⟩
def Aw:Cut SN:=⟨[(2, .bp 2 0),(3, .bp 3 0),(28,Dq6),(29,Dq1),(30,Dq1)],[(2, .st .sizeT),(3, .st .sizeT)]⟩
def Lz:Cut SN:=⟨[(1, .bp 1 0),(2, .bp 2 0),(3, .bp 3 0)],[(1, .st .tagT),(2, .st .sizeT),(3, .st .sizeT)]⟩
def LA:Cut SN:=⟨[(2, .bp 2 0),(3, .bp 3 0)],[(2, .st .sizeT),(3, .st .sizeT)]⟩
def Nh:Cut SN:=⟨[(2, .bp 2 0)],[(2, .st .sizeT)]⟩
def JN:bc vw:={exits:=λid=>match id with|0=>Lz|2=>LA|_=>⟨[],[]⟩,rcut:=Nh}
def EM:Nat->Bool:=λ_=>false
def kj:Sig vw:={params:=[Dq3],rcut:=Nh,rvars:=[.cell 2 57]}
abbrev FT:=(List ByteArray)×Int×Int×Tag×cH×cH×Unit
abbrev FU:=Tag×cH×cH×Unit
noncomputable def cD(v:FT):Option ((FU)):=if decide (v.2.2.1<v.2.1)=true then if(0:Int)<=v.2.2.1 then v.1[v.2.2.1.toNat]?>>=λx1=>cD (v.1,v.2.1,i64.wrap (v.2.2.1+(1:Int)),v.2.2.2.1,v.2.2.2.2.1,cH.mk v.2.2.2.2.2.1.depth v.2.2.2.2.2.1.pieces (i64.wrap (v.2.2.2.2.2.1.bytes+(↑x1.size:Int))),())else none else some (v.2.2.2) partial_fixpoint
abbrev Ag:=(List Tag)×Int×Int×cH×cH×Unit
mutual
noncomputable def dV(v:Ag):Option ((cH×cH×Unit)):=if decide (v.2.2.1<v.2.1)=true then if(0:Int)<=v.2.2.1 then v.1[v.2.2.1.toNat]?>>=λx1=>n_42 (x1,())>>=λx2=>dV (v.1,v.2.1,i64.wrap (v.2.2.1+(1:Int)),v.2.2.2.1,cH.mk (max v.2.2.2.2.1.depth x2.1.depth) (i64.wrap (v.2.2.2.2.1.pieces+x2.1.pieces)) (i64.wrap (v.2.2.2.2.1.bytes+x2.1.bytes)),())else none else some (v.2.2.2) partial_fixpoint
noncomputable def n_42(v:Tag×Unit):Option (cH×Unit):=cD (v.1.names,(↑v.1.names.length:Int),(0:Int),v.1,cH.mk (0:Int) (0:Int) (0:Int),cH.mk (0:Int) (1:Int) (↑v.1.text.size:Int),())>>=λx1=>dV (x1.1.parts,(↑x1.1.parts.length:Int),(0:Int),x1.2)>>=λx2=>some ((cH.mk (i64.wrap (x2.2.1.depth+(1:Int))) x2.2.1.pieces x2.2.1.bytes,())) partial_fixpoint
end
def w8(cD:FT->Option ((FU)))(dV:Ag->Option ((cH×cH×Unit)))(n_42:Tag×Unit->Option (cH×Unit)):aB vw:=λA fid args S k=>match fid with|42=>bh prog kj n_42 A args S k|_=>none
def x42(cD:FT->Option ((FU)))(dV:Ag->Option ((cH×cH×Unit)))(n_42:Tag×Unit->Option (cH×Unit)):Xc vw:={P:=prog,n:=58,call:=w8 cD dV n_42,pre:=EM,sh:=JN,loops:=λk=>match k with|3=>some {cut:=yo,alts:=[.exit 0],F:=cD}|8=>some {cut:=Aw,alts:=[.exit 2],F:=dV}|_=>none}
abbrev rO(v:FT)(r:(FU)):Prop:=(λv out=>∀C:Ctx,C.P=prog->C.N=58/\Fx C EM->ea C (ae (aa Tryz.f42) 0) (Go.Tx.az vw (bi vw yo v)) (eL JN [.exit 0] out)) v r
theorem G7(f0:FT->Option ((FU)))(h0:∀v r,f0 v=some r->rO v r):aj prog (x42 f0 (λ_=>none) (λ_=>none)).call:=(by
 intro A fid args S dst k r h
 unfold x42 w8 at h
 simp only at h
 split at h
 ·exact au ((λv r x h hx=>by cases h)) rfl rfl h
 ·cases h)
theorem I2(f0:FT->Option ((FU)))(h0:∀v r,f0 v=some r->rO v r)(v:FT)(r:(FU))(h:exL (x42 f0 (λ_=>none) (λ_=>none)) (ae (aa Tryz.f42) 0) yo [.exit 0] f0 v=some r):rO v r:=λC hP hN=>aI (X:=x42 f0 (λ_=>none) (λ_=>none)) (b:=(ae (aa Tryz.f42) 0)) hP hN Ty.mixed (G7 f0 h0) (aw (X:=x42 f0 (λ_=>none) (λ_=>none)) (c:=(ae (aa Tryz.f42) 0)) (an (by kernel_rfl:True=bw (ay C (x42 f0 (λ_=>none) (λ_=>none))) (ax (ae (aa Tryz.f42) 0))) trivial)) (cut:=yo) (alts:=[.exit 0]) (F:=f0) (λv out h=>h0 v out h C hP hN) h
theorem Ch:∀v out,cD v=some out->(λv out=>∀C:Ctx,C.P=prog->C.N=58/\Fx C EM->ea C (ae (aa Tryz.f42) 0) (Go.Tx.az vw (bi vw yo v)) (eL JN [.exit 0] out)) v out:=(cD.partial_correctness (motive:=rO) (λf0 h0 v r h=>I2 f0 h0 v r (an (by kernel_rfl) h)))
abbrev jX(v:Ag)(r:(cH×cH×Unit)):Prop:=(λv out=>∀C:Ctx,C.P=prog->C.N=58/\Fx C EM->ea C (ae (aa Tryz.f42) 1) (Go.Tx.az vw (bi vw Aw v)) (eL JN [.exit 2] out)) v r
abbrev BV(v:Tag×Unit)(r:cH×Unit):Prop:=(λv r=>∀x,lS prog kj r=some x->c8 prog 42 (encL vw (aE kj v).len (bj kj v).1) (br (aE kj v).len (aE kj v).own) (ao vw (bi vw kj.rcut r).len x) (br (bi vw kj.rcut r).len (gY kj r))) v r
theorem G8(f0:Ag->Option ((cH×cH×Unit)))(f1:Tag×Unit->Option (cH×Unit))(h0:∀v r,f0 v=some r->jX v r)(h1:∀v r,f1 v=some r->BV v r):aj prog (x42 (λ_=>none) f0 f1).call:=(by
 intro A fid args S dst k r h
 unfold x42 w8 at h
 simp only at h
 split at h
 ·exact au ((λv r x h hx=>h1 v r h x hx)) rfl rfl h
 ·cases h)
theorem I3(f0:Ag->Option ((cH×cH×Unit)))(f1:Tag×Unit->Option (cH×Unit))(h0:∀v r,f0 v=some r->jX v r)(h1:∀v r,f1 v=some r->BV v r)(v:Ag)(r:(cH×cH×Unit))(h:exL (x42 (λ_=>none) f0 f1) (ae (aa Tryz.f42) 1) Aw [.exit 2] f0 v=some r):jX v r:=λC hP hN=>aI (X:=x42 (λ_=>none) f0 f1) (b:=(ae (aa Tryz.f42) 1)) hP hN Ty.mixed (G8 f0 f1 h0 h1) (aw (X:=x42 (λ_=>none) f0 f1) (c:=(ae (aa Tryz.f42) 1)) (an (by kernel_rfl:True=bw (ay C (x42 (λ_=>none) f0 f1)) (ax (ae (aa Tryz.f42) 1))) trivial)) (cut:=Aw) (alts:=[.exit 2]) (F:=f0) (λv out h=>h0 v out h C hP hN) h
theorem LP(f0:Ag->Option ((cH×cH×Unit)))(h0:∀v r,f0 v=some r->jX v r):aj prog (x42 cD f0 (λ_=>none)).call:=(by
 intro A fid args S dst k r h
 unfold x42 w8 at h
 simp only at h
 split at h
 ·exact au ((λv r x h hx=>by cases h)) rfl rfl h
 ·cases h)
theorem MI(f0:Ag->Option ((cH×cH×Unit)))(h0:∀v r,f0 v=some r->jX v r)(v:Tag×Unit)(r:cH×Unit)(h:exF (x42 cD f0 (λ_=>none)) kj rfl (aa Tryz.f42) v=some r):BV v r:=λx hx=>bk (X:=x42 cD f0 (λ_=>none)) (sig:=kj) rfl Tryz.func42 (c:=aa Tryz.f42) (by kernel_rfl) Tryz.ntmps42 (by kernel_rfl) (by kernel_rfl) rfl Ty.mixed (LP f0 h0) rfl (λC hP hN=>(aw (X:=x42 cD f0 (λ_=>none)) (c:=(aa Tryz.f42)) (an (by kernel_rfl:bw (ay C (x42 cD f0 (λ_=>none))) [(ae (aa Tryz.f42) 0),(ae (aa Tryz.f42) 1)]=bw (ay C (x42 cD f0 (λ_=>none))) (ax (aa Tryz.f42))) ⟨bf (X:=x42 cD f0 (λ_=>none)) (b:=(ae (aa Tryz.f42) 0)) (by kernel_rfl) (show bC C (ae (aa Tryz.f42) 0) (sh:=JN) {cut:=yo,alts:=[.exit 0],F:=cD}fromλv out h=>Ch v out h C hP hN),bf (X:=x42 cD f0 (λ_=>none)) (b:=(ae (aa Tryz.f42) 1)) (by kernel_rfl) (show bC C (ae (aa Tryz.f42) 1) (sh:=JN) {cut:=Aw,alts:=[.exit 2],F:=f0}fromλv out h=>h0 v out h C hP hN),trivial⟩))) h x hx
theorem y5:(∀v r,dV v=some r->jX v r)/\(∀v r,n_42 v=some r->BV v r):=by
 refine dV.mutual_partial_correctness
  (motive_1:=jX)
  (motive_2:=BV)
  ?_ ?_
 ·exact(λf0 f1 h0 h1 v r h=>I3 f0 f1 h0 h1 v r (an (by kernel_rfl) h))
 ·exact(λf0 h0 v r h=>MI f0 h0 v r (an (by kernel_rfl) h))
theorem v8:bd prog 42 kj n_42:=λv r x h hx=>y5.2 v r h x hx
def Lu:Cut SN:=⟨[(1, .bp 1 0),(6,Dq4)],[(1, .st .tagT)]⟩
def K2:Cut SN:=⟨[(2,Dq1)],[]⟩
def N1:bc vw:={rcut:=K2}
def Mn:Nat->Bool:=λ_=>false
def uL:Sig vw:={params:=[Dq3],rcut:=K2,rvars:=[.tmp 2]}
noncomputable def oC(v:Tag×Unit):Option (Int×Unit):=n_42 v>>=λx1=>(if decide (x1.1.depth>(20:Int))=true then some (true,v)else if decide (x1.1.pieces>(500:Int))=true then some (true,v)else some ((decide (x1.1.bytes>(4096:Int)),v)))>>=λx2=>if x2.1=true then some (((3:Int),()))else n_51 x2.2>>=λx3=>if(!x3.1)=true then some (((1:Int),()))else n_52 x2.2>>=λx4=>if x4.1=true then some (((5:Int),()))else some (((0:Int),()))
def Gd:aB vw:=cP prog 42 kj n_42 (cP prog 51 l6 n_51 (cP prog 52 l7 n_52 c0))
def x29:Xc vw:={P:=prog,n:=27,call:=Gd,pre:=Mn,sh:=N1,regs:=λk=>match k with|2=>some Lu|_=>none}
theorem AO:aj prog Gd:=bE v8 rfl rfl (bE Ig rfl rfl (bE Ih rfl rfl ci))
theorem lN:bd prog 29 uL oC:=λv r x h hx=>
 bk (X:=x29) (sig:=uL) rfl Tryz.func29 (c:=aa Tryz.f29) (by kernel_rfl) Tryz.ntmps29 (by kernel_rfl) (by kernel_rfl) rfl Ty.mixed AO rfl (λC hP hN=>(aw (an (by kernel_rfl) trivial))) (an (by kernel_rfl) h) x hx
abbrev Oq9:OPt SN:= .vec 9 .str
def g9:Cut SN:=⟨[(2, .vh 2002)],[(2002,Oq9)]⟩
def CW:bc vw:={rcut:=g9}
def zk:Nat->Bool:=λ_=>false
def dO:Sig vw:={params:=[Dq2],rcut:=g9,rvars:=[.tmp 2],keep:=[2002]}
noncomputable def cV(v:(List ByteArray)×Unit):Option ((List ByteArray)×Unit):=if v.1.length<=4294967296 then some (v.1,())else none
def nG:aB vw:=c0
def ng:Xc vw:={P:=prog,n:=8,nm:=λd=>match d with|5=>40005|_=>d,call:=nG,pre:=zk,sh:=CW}
theorem fM:aj prog nG:=ci
theorem eH:bd prog 53 dO cV:=λv r x h hx=>by
 unfold cV at h
 split at h
 ·rename_i hlen
  cases h;cases hx
  refine an (by kernel_rfl) (Ec (P:=prog) (f:=53) (sz:=1) (rows:=(v.1.map λy=>Go.Tx.aV szN A9 .str y)) (r:= .vh 2002 v.1.length) (own':=[(2002, .vec 9 1 (v.1.map λy=>Go.Tx.aV szN A9 .str y))]) (λhne=> ?_) (λhe=> ?_) (λhe a cap=> ?_))
  ·obtain⟨l,u⟩:=v
   cases l with
   |nil=>simp at hne
   |cons y ys=>
    have e:exF ng dO rfl (aa Tryz.f53) (y::ys,())=if([]:(List ByteArray)).length+(y::ys).length<=most then some ([]++(y::ys),())else none:=by kernel_rfl
    rw[RS (by simp only[Pv,OS];exact hlen)]at e
    exact an (by kernel_rfl) (bk (X:=ng) (sig:=dO) rfl Tryz.func53 (c:=aa Tryz.f53) (by kernel_rfl) Tryz.ntmps53 (by kernel_rfl) (by kernel_rfl) rfl Ty.mixed fM rfl (λC hP hN=>(aw (an (by kernel_rfl) trivial))) (v:=(y::ys,())) e (.vh 2002) rfl)
  ·have hv:v.1=[]:=by simpa using he
   obtain⟨l,u⟩:=v
   cases hv
   exact an (by kernel_rfl) (Gq (X:=ng) (sig:=dO) rfl Tryz.func53 (c:=aa Tryz.f53) (by kernel_rfl) Tryz.ntmps53 (by kernel_rfl) (by kernel_rfl) Ty.mixed fM rfl (λC hP hN=>(aw (an (by kernel_rfl) trivial))) (xs:=[.raw (.slice none 0 0)]) (by kernel_rfl) (r:=([],())) (by kernel_rfl) (.vh 2002) rfl)
  ·have hv:v.1=[]:=by simpa using he
   obtain⟨l,u⟩:=v
   cases hv
   exact an (by kernel_rfl) (Gq (X:=ng) (sig:=dO) rfl Tryz.func53 (c:=aa Tryz.f53) (by kernel_rfl) Tryz.ntmps53 (by kernel_rfl) (by kernel_rfl) Ty.mixed fM rfl (λC hP hN=>(aw (an (by kernel_rfl) trivial))) (xs:=[.raw (.slice (some a) 0 cap)]) (by kernel_rfl) (r:=([],())) (by kernel_rfl) (.vh 2002) rfl)
 ·cases h
abbrev Lh:Bool->OPt SN:= .dvec 25 (.st .tagT)
def fR:Cut SN:=⟨[(1, .bp 1 0),(2, .bp 2 0),(3, .vh 1003),(11,Dq6),(12,Dq1),(13,Dq1)],[(1, .box none [Dq1,Dq1,Dq5, .vh 3013,Dq6]),(2, .st .tagT),(1003,Lh false),(3013,Oq9)]⟩
def yn:Cut SN:=⟨[(1, .bp 1 0),(2, .bp 2 0),(3, .vh 1003)],[(1, .box none [Dq1,Dq1,Dq5, .vh 3013,Dq6]),(2, .st .tagT),(1003,Lh false),(3013,Oq9)]⟩
def sU:Cut SN:=⟨[(2, .bp 2 0)],[(2, .box none [Dq1,Dq1,Dq5, .vh 6023, .vh 6024]),(6023,Oq9),(6024,Lh false)]⟩
def oY:bc vw:={exits:=λid=>match id with|0=>yn|_=>⟨[],[]⟩,rcut:=sU}
def qF:Nat->Bool:=λk=>match k with|1000020=>true|_=>false
def bP:Sig vw:={params:=[Dq3],rcut:=sU,rvars:=[.cell 2 25],keep:=[6023,6024]}
abbrev Tq3:=(List Tag)×Int×Int×Int×Int×ByteArray×(List Tag)×Tag×(List Tag)×(List ByteArray)×Unit
abbrev Tq8:=Int×Int×ByteArray×(List Tag)×Tag×(List Tag)×(List ByteArray)×Unit
abbrev FS:=Int×Int×ByteArray×(List ByteArray)×(List Tag)×Unit
mutual
noncomputable def bB(v:Tq3):Option ((Tq8)):=if decide (v.2.2.1<v.2.1)=true then if(0:Int)<=v.2.2.1 then v.1[v.2.2.1.toNat]?>>=λx1=>n_31s06c9 (x1,())>>=λx2=>if v.2.2.2.2.2.2.2.2.1.length+[Tag.mk x2.1 x2.2.1 x2.2.2.1 x2.2.2.2.1 x2.2.2.2.2.1].length<=(4294967296:Nat)then bB (v.1,v.2.1,i64.wrap (v.2.2.1+(1:Int)),v.2.2.2.1,v.2.2.2.2.1,v.2.2.2.2.2.1,v.2.2.2.2.2.2.1,v.2.2.2.2.2.2.2.1,v.2.2.2.2.2.2.2.2.1++[Tag.mk x2.1 x2.2.1 x2.2.2.1 x2.2.2.2.1 x2.2.2.2.2.1],v.2.2.2.2.2.2.2.2.2)else none else none else some (v.2.2.2) partial_fixpoint
noncomputable def n_31s06c9(v:Tag×Unit):Option (FS):=cV (v.1.names,())>>=λx1=>bB (v.1.parts,(↑v.1.parts.length:Int),(0:Int),v.1.kind,v.1.n,v.1.text,v.1.parts,Tag.mk (0:Int) (0:Int) (Oo #[]) [] [],[],x1)>>=λx2=>some ((x2.1,x2.2.1,x2.2.2.1,x2.2.2.2.2.2.2.1,x2.2.2.2.2.2.1,())) partial_fixpoint
end
def jL(bB:Tq3->Option ((Tq8)))(n_31s06c9:Tag×Unit->Option (FS)):aB vw:=λA fid args S k=>match fid with|31=>bQ prog bP n_31s06c9 A args S k|53=>bQ prog dO cV A args S k|_=>none
def cG(bB:Tq3->Option ((Tq8)))(n_31s06c9:Tag×Unit->Option (FS)):Xc vw:={P:=prog,n:=26,call:=jL bB n_31s06c9,pre:=qF,sh:=oY,loops:=λk=>match k with|4=>some {cut:=fR,alts:=[.exit 0],F:=bB}|_=>none}
abbrev cN(v:Tq3)(r:(Tq8)):Prop:=(λv out=>∀C:Ctx,C.P=prog->C.N=26/\Fx C qF->ea C (ae (aa Tryz.f31) 0) (Go.Tx.az vw (bi vw fR v)) (eL oY [.exit 0] out)) v r
abbrev f8(v:Tag×Unit)(r:FS):Prop:=(λv r=>∀x,lS prog bP r=some x->c8 prog 31 (encL vw (aE bP v).len (bj bP v).1) (br (aE bP v).len (aE bP v).own) (ao vw (bi vw bP.rcut r).len x) (br (bi vw bP.rcut r).len (gY bP r))) v r
theorem tj(f0:Tq3->Option ((Tq8)))(f1:Tag×Unit->Option (FS))(h0:∀v r,f0 v=some r->cN v r)(h1:∀v r,f1 v=some r->f8 v r):aj prog (cG f0 f1).call:=(by
 intro A fid args S dst k r h
 unfold cG jL at h
 simp only at h
 split at h
 ·exact aA ((λv r x h hx=>h1 v r h x hx)) h
 ·exact aA (eH) h
 ·cases h)
theorem uM(f0:Tq3->Option ((Tq8)))(f1:Tag×Unit->Option (FS))(h0:∀v r,f0 v=some r->cN v r)(h1:∀v r,f1 v=some r->f8 v r)(v:Tq3)(r:(Tq8))(h:exL (cG f0 f1) (ae (aa Tryz.f31) 0) fR [.exit 0] f0 v=some r):cN v r:=λC hP hN=>aI (X:=cG f0 f1) (b:=(ae (aa Tryz.f31) 0)) hP hN Ty.mixed (tj f0 f1 h0 h1) (aw (X:=cG f0 f1) (c:=(ae (aa Tryz.f31) 0)) (an (by kernel_rfl:True=bw (ay C (cG f0 f1)) (ax (ae (aa Tryz.f31) 0))) trivial)) (cut:=fR) (alts:=[.exit 0]) (F:=f0) (λv out h=>h0 v out h C hP hN) h
theorem yD(f0:Tq3->Option ((Tq8)))(h0:∀v r,f0 v=some r->cN v r):aj prog (cG f0 (λ_=>none)).call:=(by
 intro A fid args S dst k r h
 unfold cG jL at h
 simp only at h
 split at h
 ·exact aA ((λv r x h hx=>by cases h)) h
 ·exact aA (eH) h
 ·cases h)
theorem zG(f0:Tq3->Option ((Tq8)))(h0:∀v r,f0 v=some r->cN v r)(v:Tag×Unit)(r:FS)(h:exF (cG f0 (λ_=>none)) bP rfl (aa Tryz.f31) v=some r):f8 v r:=λx hx=>bk (X:=cG f0 (λ_=>none)) (sig:=bP) rfl Tryz.func31 (c:=aa Tryz.f31) (by kernel_rfl) Tryz.ntmps31 (by kernel_rfl) (by kernel_rfl) rfl Ty.mixed (yD f0 h0) rfl (λC hP hN=>(aw (X:=cG f0 (λ_=>none)) (c:=(aa Tryz.f31)) (an (by kernel_rfl:bw (ay C (cG f0 (λ_=>none))) [(ae (aa Tryz.f31) 0)]=bw (ay C (cG f0 (λ_=>none))) (ax (aa Tryz.f31))) ⟨bf (X:=cG f0 (λ_=>none)) (b:=(ae (aa Tryz.f31) 0)) (by kernel_rfl) (show bC C (ae (aa Tryz.f31) 0) (sh:=oY) {cut:=fR,alts:=[.exit 0],F:=f0}fromλv out h=>h0 v out h C hP hN),trivial⟩))) h x hx
theorem oD:(∀v r,bB v=some r->cN v r)/\(∀v r,n_31s06c9 v=some r->f8 v r):=by
 refine bB.mutual_partial_correctness
  (motive_1:=cN)
  (motive_2:=f8)
  ?_ ?_
 ·exact(λf0 f1 h0 h1 v r h=>uM f0 f1 h0 h1 v r (an (by kernel_rfl) h))
 ·exact(λf0 h0 v r h=>zG f0 h0 v r (an (by kernel_rfl) h))
theorem ue:bd prog 31 bP n_31s06c9:=λv r x h hx=>oD.2 v r h x hx
def G3:Cut SN:=⟨[(0,Dq2),(1,Dq5),(7,Dq1),(8,Dq1)],[]⟩
def MC:bc vw:={exits:=λid=>match id with|0=>eE|_=>⟨[],[]⟩,rcut:=da}
def KE:Nat->Bool:=λ_=>false
def E7:Sig vw:={params:=[Dq2,Dq5],rcut:=da,rvars:=[.tmp 4]}
abbrev M9:=(List ByteArray)×ByteArray×Int×Int×Unit
noncomputable def jB(v:M9):Option (((Int×Unit)⊕(Unit))):=if decide (v.2.2.2.1<v.2.2.1)=true then if(0:Int)<=v.2.2.2.1 then v.1[v.2.2.2.1.toNat]?>>=λx1=>if(v.2.1.toList==x1.toList)=true then some (Po v.2.2.2)else jB (v.1,v.2.1,v.2.2.1,i64.wrap (v.2.2.2.1+(1:Int)),())else none else some (PD ()) partial_fixpoint
noncomputable def Eu(v:(List ByteArray)×ByteArray×Unit):Option (Int×Unit):=jB (v.1,v.2.1,(↑v.1.length:Int),(0:Int),())>>=λx1=>match x1 with| .inl y1=>some y1| .inr y1=>some (((-1:Int),()))
def Gi:aB vw:=c0
def x58:Xc vw:={P:=prog,n:=19,call:=Gi,pre:=KE,sh:=MC,loops:=λk=>match k with|2=>some {cut:=G3,alts:=[.ret, .exit 0],F:=jB}|_=>none}
theorem tc:aj prog Gi:=ci
theorem Cn(C:Ctx)(hP:C.P=prog)(hN:C.N=19/\Fx C KE):bC C (ae (aa Tryz.f58) 0) (sh:=MC) {cut:=G3,alts:=[.ret, .exit 0],F:=jB}:=
 jB.partial_correctness (motive:=λv out=>ea C (ae (aa Tryz.f58) 0) (Go.Tx.az vw (bi vw G3 v)) (eL MC [.ret, .exit 0] out)) λF ih v out h=>
  aI (X:=x58) (b:=(ae (aa Tryz.f58) 0)) hP hN Ty.mixed tc (aw (X:=x58) (c:=(ae (aa Tryz.f58) 0)) (an (by kernel_rfl:True=bw (ay C (x58)) (ax (ae (aa Tryz.f58) 0))) trivial)) ih (an (by kernel_rfl) h)
theorem r8:bd prog 58 E7 Eu:=λv r x h hx=>
 bk (X:=x58) (sig:=E7) rfl Tryz.func58 (c:=aa Tryz.f58) (by kernel_rfl) Tryz.ntmps58 (by kernel_rfl) (by kernel_rfl) rfl Ty.mixed tc rfl (λC hP hN=>(aw (an (by kernel_rfl:bw (ay C (x58)) [(ae (aa Tryz.f58) 0)]=bw (ay C (x58)) (ax (aa Tryz.f58))) ⟨bf (X:=x58) (b:=(ae (aa Tryz.f58) 0)) (by kernel_rfl) (Cn C hP hN),trivial⟩))) (an (by kernel_rfl) h) x hx
def Nv:Cut SN:=⟨[(2,Dq1),(3, .dat .er)],[]⟩
def KL:Sig vw:={params:=[Dq5],rcut:=Nv,rvars:=[.tmp 2, .tmp 3]}
noncomputable def Ko(v:ByteArray×Unit):Option (Int×Bool×Unit):=if v.1.size<=1000000000000 then(match Lib.atoiAll v.1.data.toList with| .ok n=>some (n,false,())| .range=>some (Lib.atoiSat v.1.data.toList,true,())|_=>some (0,true,()))else none
theorem Ik:bd prog 59 KL Ko:=λv r x h hx=>by
 obtain⟨s,u⟩:=v
 unfold Ko at h
 split at h
 ·rename_i hc
  simp only at hc h
  cases hq:Lib.atoiAll s.data.toList with
  |ok n=>
   simp only[hq]at h
   cases h;cases hx
   exact an (by kernel_rfl) (c8.pure (P:=prog) (f:=59) (args:=[.d (.v (.string s))]) (r:= .tup [.d (.v (.int .i64 n)), .d (.er false)]) (by kernel_rfl) λE M w vs hg hm hv=>by
    obtain⟨v1,rfl,h1⟩:=dT hv
    rw[h1.dv]
    exact(Tryz.strconv_Atoi_ok s (by omega) n hq w).mono λe w' ⟨he,hw⟩=>⟨_,he,vR .ern,vi hw⟩)
  |range=>
   simp only[hq]at h
   cases h;cases hx
   exact an (by kernel_rfl) (c8.pure (P:=prog) (f:=59) (args:=[.d (.v (.string s))]) (r:= .tup [.d (.v (.int .i64 (Lib.atoiSat s.data.toList))), .d (.er true)]) (by kernel_rfl) λE M w vs hg hm hv=>by
    obtain⟨v1,rfl,h1⟩:=dT hv
    rw[h1.dv]
    obtain⟨te,pe,hev⟩:=Ee hg hm
    exact(Tryz.strconv_Atoi_range s (by omega) hq _ w hev (.inr ⟨te,pe,rfl⟩)).mono λe w' ⟨N,he,_,_,hw⟩=>⟨_,he,vR (.ere _ _),hw⟩)
  |_=>
   simp only[hq]at h
   cases h;cases hx
   exact an (by kernel_rfl) (c8.pure (P:=prog) (f:=59) (args:=[.d (.v (.string s))]) (r:= .tup [.d (.v (.int .i64 0)), .d (.er true)]) (by kernel_rfl) λE M w vs hg hm hv=>by
    obtain⟨v1,rfl,h1⟩:=dT hv
    rw[h1.dv]
    obtain⟨te,pe,hev⟩:=Bp hg hm
    exact(Tryz.strconv_Atoi_syntax s (by omega) ⟨λn hn=>(by rw[hq]at hn;cases hn),λhn=>(by rw[hq]at hn;cases hn)⟩ _ w hev (.inr ⟨te,pe,rfl⟩)).mono λe w' ⟨N,he,_,_,hw⟩=>⟨_,he,vR (.ere _ _),hw⟩)
 ·cases h
def KM:Sig vw:={params:=[Dq1],rcut:=DX,rvars:=[.tmp 2]}
noncomputable def Kp(v:Int×Unit):Option (ByteArray×Unit):=if-9223372036854775808<=v.1/\v.1<=9223372036854775807 then some (⟨(Lib.itoa v.1).toArray⟩,())else none
theorem Il:bd prog 60 KM Kp:=λv r x h hx=>by
 obtain⟨n,u⟩:=v
 unfold Kp at h
 split at h
 ·rename_i hc
  obtain⟨h0,h1⟩:=hc
  simp only at h0 h1
  cases h;cases hx
  exact an (by kernel_rfl) (c8.pure (P:=prog) (f:=60) (args:=[.d (.v (.int .i64 n))]) (r:= .d (.v (.string ⟨(Lib.itoa n).toArray⟩))) (by kernel_rfl) λE M w vs hg hm hv=>by
   obtain⟨v1,rfl,h2⟩:=dT hv
   rw[h2.dv]
   exact(Tryz.strconv_Itoa n h0 h1 w (Db hg hm)).mono λe w' ⟨he,k,os,hw⟩=>⟨_,he, .d (.v _),hw▸Lib.below_grow _ w (OO _) k os⟩)
 ·cases h
def Ly:Cut SN:=⟨[(5,Dq1),(42,Dq4)],[]⟩
def N3:bc vw:={rcut:=da}
def Mq:Nat->Bool:=λ_=>false
def IV:Sig vw:={params:=[Dq3,Dq5],rcut:=da,rvars:=[.tmp 4]}
noncomputable def Kn(v:Tag×ByteArray×Unit):Option (Int×Unit):=if(v.1.kind==(6:Int))=true then Eu (v.1.names,v.2)>>=λx1=>some (x1)else Ko v.2>>=λx1=>(if(v.1.kind !=(5:Int))=true then some ((x1.1,true,()))else if x1.2.1=true then some ((x1.1,true,()))else if decide (x1.1<(0:Int))=true then some ((x1.1,true,()))else if decide (x1.1>(↑v.1.parts.length:Int))=true then some ((x1.1,true,()))else Kp (x1.1,())>>=λx2=>some ((x1.1,!x2.1.toList==v.2.1.toList,())))>>=λx2=>if x2.2.1=true then some (((-1:Int),()))else some ((x2.1,()))
def Gg:aB vw:=cP prog 58 E7 Eu (cP prog 59 KL Ko (cP prog 60 KM Kp c0))
def x39:Xc vw:={P:=prog,n:=44,call:=Gg,pre:=Mq,sh:=N3,regs:=λk=>match k with|4=>some Ly|_=>none}
theorem AQ:aj prog Gg:=bE r8 rfl rfl (bE Ik rfl rfl (bE Il rfl rfl ci))
theorem H_:bd prog 39 IV Kn:=λv r x h hx=>
 bk (X:=x39) (sig:=IV) rfl Tryz.func39 (c:=aa Tryz.f39) (by kernel_rfl) Tryz.ntmps39 (by kernel_rfl) (by kernel_rfl) rfl Ty.mixed AQ rfl (λC hP hN=>(aw (an (by kernel_rfl) trivial))) (an (by kernel_rfl) h) x hx
def G1:Cut SN:=⟨[(2, .bp 2 0),(4, .bp 4 0),(9,Dq2),(10,Dq1),(11,Dq1)],[(2, .st .tagT),(4, .st .tagT)]⟩
def Lx:Cut SN:=⟨[(2, .bp 2 0),(4, .bp 4 0),(8,Dq1),(9,Dq2),(10,Dq1),(11,Dq1),(26,Dq4)],[(2, .st .tagT),(4, .st .tagT)]⟩
def Lw:Cut SN:=⟨[(2, .bp 2 0),(4, .bp 4 0)],[(2, .st .tagT),(4, .st .tagT)]⟩
def Ng:Cut SN:=⟨[(4, .bp 4 0),(5,Dq4)],[(4, .st .tagT)]⟩
def MA:bc vw:={exits:=λid=>match id with|0=>Lw|_=>⟨[],[]⟩,rcut:=Ng}
def KC:Nat->Bool:=λ_=>false
def IU:Sig vw:={params:=[Dq3,Dq2],rcut:=Ng,rvars:=[.cell 4 25, .tmp 5]}
abbrev M8:=(List ByteArray)×Int×Int×Tag×Tag×Unit
noncomputable def oE(v:M8):Option (((Bool×Tag×Unit)⊕(Tag×Tag×Unit))):=if decide (v.2.2.1<v.2.1)=true then if(0:Int)<=v.2.2.1 then v.1[v.2.2.1.toNat]?>>=λx1=>Kn (v.2.2.2.1,x1,())>>=λx2=>(if decide (x2.1<(0:Int))=true then some (x2.1,v.1,v.2.1,v.2.2.1,true,v.2.2.2)else some ((x2.1,v.1,v.2.1,v.2.2.1,decide (x2.1>=(↑v.2.2.2.1.parts.length:Int)),v.2.2.2)))>>=λx3=>if x3.2.2.2.2.1=true then some (Po (false,Tag.mk (0:Int) (0:Int) (Oo #[]) [] [],()))else if(0:Int)<=x3.1 then x3.2.2.2.2.2.1.parts[x3.1.toNat]?>>=λx4=>oE (x3.2.1,x3.2.2.1,i64.wrap (x3.2.2.2.1+(1:Int)),x4,x3.2.2.2.2.2.2)else none else none else some (PD v.2.2.2) partial_fixpoint
noncomputable def Km(v:Tag×(List ByteArray)×Unit):Option (Bool×Tag×Unit):=oE (v.2.1,(↑v.2.1.length:Int),(0:Int),v.1,Tag.mk (0:Int) (0:Int) (Oo #[]) [] [],())>>=λx1=>match x1 with| .inl y1=>some y1| .inr y1=>some ((true,y1.1,()))
def Gf:aB vw:=cP prog 39 IV Kn c0
def x36:Xc vw:={P:=prog,n:=35,call:=Gf,pre:=KC,sh:=MA,regs:=λk=>match k with|5=>some Lx|_=>none,loops:=λk=>match k with|2=>some {cut:=G1,alts:=[.ret, .exit 0],F:=oE}|_=>none}
theorem s9:aj prog Gf:=bE H_ rfl rfl ci
theorem Cg(C:Ctx)(hP:C.P=prog)(hN:C.N=35/\Fx C KC):bC C (ae (aa Tryz.f36) 0) (sh:=MA) {cut:=G1,alts:=[.ret, .exit 0],F:=oE}:=
 oE.partial_correctness (motive:=λv out=>ea C (ae (aa Tryz.f36) 0) (Go.Tx.az vw (bi vw G1 v)) (eL MA [.ret, .exit 0] out)) λF ih v out h=>
  aI (X:=x36) (b:=(ae (aa Tryz.f36) 0)) hP hN Ty.mixed s9 (aw (X:=x36) (c:=(ae (aa Tryz.f36) 0)) (an (by kernel_rfl:True=bw (ay C (x36)) (ax (ae (aa Tryz.f36) 0))) trivial)) ih (an (by kernel_rfl) h)
theorem H9:bd prog 36 IU Km:=λv r x h hx=>
 bk (X:=x36) (sig:=IU) rfl Tryz.func36 (c:=aa Tryz.f36) (by kernel_rfl) Tryz.ntmps36 (by kernel_rfl) (by kernel_rfl) rfl Ty.mixed s9 rfl (λC hP hN=>(aw (an (by kernel_rfl:bw (ay C (x36)) [(ae (aa Tryz.f36) 0)]=bw (ay C (x36)) (ax (aa Tryz.f36))) ⟨bf (X:=x36) (b:=(ae (aa Tryz.f36) 0)) (by kernel_rfl) (Cg C hP hN),trivial⟩))) (an (by kernel_rfl) h) x hx
def Nc:Cut SN:=⟨[(4, .bp 4 0),(5,Dq4),(6,Dq1)],[(4, .st .tagT)]⟩
def NR:bc vw:={rcut:=Nc}
def Md:Nat->Bool:=λ_=>false
def IG:Sig vw:={params:=[Dq3,Dq2],rcut:=Nc,rvars:=[.cell 4 25, .tmp 5, .tmp 6]}
noncomputable def Kl(v:Tag×(List ByteArray)×Unit):Option (Bool×Int×Tag×Unit):=oC (v.1,())>>=λx1=>if(x1.1 !=(0:Int))=true then some ((false,x1.1,Tag.mk (0:Int) (0:Int) (Oo #[]) [] [],()))else Km v>>=λx2=>n_31s06c9 x2.2>>=λx3=>some ((x2.1,(0:Int),Tag.mk x3.1 x3.2.1 x3.2.2.1 x3.2.2.2.1 x3.2.2.2.2.1,()))
def F3:aB vw:=cP prog 29 uL oC (cO prog 31 bP n_31s06c9 (cP prog 36 IU Km c0))
def x13:Xc vw:={P:=prog,n:=25,call:=F3,pre:=Md,sh:=NR}
theorem AD:aj prog F3:=bE lN rfl rfl (eb ue (bE H9 rfl rfl ci))
theorem HQ:bd prog 13 IG Kl:=λv r x h hx=>
 bk (X:=x13) (sig:=IG) rfl Tryz.func13 (c:=aa Tryz.f13) (by kernel_rfl) Tryz.ntmps13 (by kernel_rfl) (by kernel_rfl) rfl Ty.mixed AD rfl (λC hP hN=>(aw (an (by kernel_rfl) trivial))) (an (by kernel_rfl) h) x hx
def F1:Cut SN:=⟨[(2,Dq1),(3,Dq1)],[]⟩
def NS:bc vw:={rcut:=F1}
def Me:Nat->Bool:=λ_=>false
def IH:Sig vw:={params:=[Dq3],rcut:=F1,rvars:=[.tmp 2, .tmp 3]}
noncomputable def HR(v:Tag×Unit):Option (Int×Int×Unit):=oC v>>=λx1=>if(x1.1 !=(0:Int))=true then some (((0:Int),x1))else n_42 v>>=λx2=>some ((x2.1.pieces,(0:Int),()))
def F4:aB vw:=cP prog 29 uL oC (cP prog 42 kj n_42 c0)
def x18:Xc vw:={P:=prog,n:=13,call:=F4,pre:=Me,sh:=NS}
theorem AE:aj prog F4:=bE lN rfl rfl (bE v8 rfl rfl ci)
theorem HS:bd prog 18 IH HR:=λv r x h hx=>
 bk (X:=x18) (sig:=IH) rfl Tryz.func18 (c:=aa Tryz.f18) (by kernel_rfl) Tryz.ntmps18 (by kernel_rfl) (by kernel_rfl) rfl Ty.mixed AE rfl (λC hP hN=>(aw (an (by kernel_rfl) trivial))) (an (by kernel_rfl) h) x hx
def ny:Cut SN:=⟨[(2,Dq2)],[]⟩
def qY:Sig vw:={params:=[.fn 84 [] [100000]],objs:=[(100000, .box none [Dq2])],rcut:=ny,rvars:=[.tmp 2]}
noncomputable def gi(v:(List ByteArray)×Unit):Option ((List ByteArray)×Unit):=if v.1.length<=8796093020160 then some (sortStr v.1,())else none
theorem iz:bd prog 63 qY gi:=λv r x h hx=>by
 obtain⟨xs,u⟩:=v
 unfold gi at h
 split at h
 ·rename_i hc
  cases h;cases hx
  exact an (by kernel_rfl) (c8.sortedVals (P:=prog) (f:=63) (g:=84) (a:=100000) (xs:=xs) (by kernel_rfl) Tryz.sortedVals hc)
 ·cases h
def Ni:Cut SN:=⟨[(2, .fn 84 [] [1])],[(1, .box none [Dq2])]⟩
def N5:bc vw:={rcut:=Ni}
def Ms:Nat->Bool:=λ_=>false
def IW:Sig vw:={params:=[Dq2],rcut:=Ni,rvars:=[.tmp 2],keep:=[1]}
noncomputable def K_(v:(List ByteArray)×Unit):Option ((List ByteArray)×Unit):=some (v)
def Gj:aB vw:=c0
def x64:Xc vw:={P:=prog,n:=4,call:=Gj,pre:=Ms,sh:=N5}
theorem AV:aj prog Gj:=ci
theorem wb:bd prog 64 IW K_:=λv r x h hx=>
 bk (X:=x64) (sig:=IW) rfl Tryz.func64 (c:=aa Tryz.f64) (by kernel_rfl) Tryz.ntmps64 (by kernel_rfl) (by kernel_rfl) rfl Ty.mixed AV rfl (λC hP hN=>(aw (an (by kernel_rfl) trivial))) (an (by kernel_rfl) h) x hx
abbrev DG:OPt SN:= .vec 25 (.st .tagT)
def Ax:Cut SN:=⟨[(1, .bp 1 0),(2, .bp 2 0),(3, .vh 1003),(10,Dq6),(11,Dq1),(12,Dq1)],[(1, .st .tagT),(2, .st .tagT),(1003,DG)]⟩
def qi:Cut SN:=⟨[(1, .bp 1 0),(2, .bp 2 0),(3, .vh 1003),(6, .bp 6 0),(35,Dq2),(36,Dq1),(37,Dq1)],[(1, .st .tagT),(2, .st .tagT),(1003,DG),(6, .box none [Dq1,Dq1,Dq5,Dq2, .vh 3064]),(3064,DG)]⟩
def F2:Cut SN:=⟨[(2, .bp 2 0),(6, .bp 6 0)],[(2, .st .tagT),(6, .box none [Dq1,Dq1,Dq5,Dq2, .vh 3064]),(3064,DG)]⟩
def LB:Cut SN:=⟨[(1, .bp 1 0),(2, .bp 2 0),(3, .vh 1003)],[(1, .st .tagT),(2, .st .tagT),(1003,DG)]⟩
def K3:Cut SN:=⟨[(2, .bp 2 0)],[(2, .st .tagT)]⟩
def JO:bc vw:={exits:=λid=>match id with|0=>LB|2=>F2|_=>⟨[],[]⟩,rcut:=K3}
def EN:Nat->Bool:=λ_=>false
def lW:Sig vw:={params:=[Dq3],rcut:=K3,rvars:=[.cell 2 25]}
abbrev Tq7:=(List ByteArray)×Int×Int×Tag×Tag×(List Tag)×Int×Int×ByteArray×(List ByteArray)×(List Tag)×Unit
abbrev GL:=Tag×Int×Int×ByteArray×(List ByteArray)×(List Tag)×Unit
noncomputable def co(v:Tq7):Option ((GL)):=if decide (v.2.2.1<v.2.1)=true then if(0:Int)<=v.2.2.1 then v.1[v.2.2.1.toNat]?>>=λx1=>Eu (v.2.2.2.1.names,x1,())>>=λx2=>if(0:Int)<=x2.1/\x2.1<(↑v.2.2.2.2.2.1.length:Int)then v.2.2.2.2.2.1[x2.1.toNat]?>>=λx3=>if v.2.2.2.2.2.2.2.2.2.2.1.length+[x3].length<=(4294967296:Nat)then co (v.1,v.2.1,i64.wrap (v.2.2.1+(1:Int)),v.2.2.2.1,v.2.2.2.2.1,v.2.2.2.2.2.1,v.2.2.2.2.2.2.1,v.2.2.2.2.2.2.2.1,v.2.2.2.2.2.2.2.2.1,v.2.2.2.2.2.2.2.2.2.1,v.2.2.2.2.2.2.2.2.2.2.1++[x3],())else none else none else none else some (v.2.2.2.2.1,v.2.2.2.2.2.2) partial_fixpoint
abbrev DN:=(List Tag)×Int×Int×Tag×Tag×(List Tag)×Unit
abbrev DP:=Tag×Tag×(List Tag)×Unit
mutual
noncomputable def iv(v:DN):Option ((DP)):=if decide (v.2.2.1<v.2.1)=true then if(0:Int)<=v.2.2.1 then v.1[v.2.2.1.toNat]?>>=λx1=>n_43 (x1,())>>=λx2=>if v.2.2.2.2.2.1.length+[x2.1].length<=(4294967296:Nat)then iv (v.1,v.2.1,i64.wrap (v.2.2.1+(1:Int)),v.2.2.2.1,v.2.2.2.2.1,v.2.2.2.2.2.1++[x2.1],())else none else none else some (v.2.2.2) partial_fixpoint
noncomputable def n_43(v:Tag×Unit):Option (Tag×Unit):=iv (v.1.parts,(↑v.1.parts.length:Int),(0:Int),v.1,Tag.mk (0:Int) (0:Int) (Oo #[]) [] [],[],())>>=λx1=>K_ (x1.1.names,())>>=λx2=>gi x2>>=λx3=>(if(x1.1.kind==(6:Int))=true then co (x3.1,(↑x3.1.length:Int),(0:Int),x1.1,x1.2.1,x1.2.2.1,x1.1.kind,x1.1.n,x1.1.text,x3.1,[],())>>=λx4=>some (x4)else some (x1.2.1,x1.1.kind,x1.1.n,x1.1.text,x3.1,x1.2.2))>>=λx4=>some ((Tag.mk x4.2.1 x4.2.2.1 x4.2.2.2.1 x4.2.2.2.2.1 x4.2.2.2.2.2.1,())) partial_fixpoint
end
def w9(co:Tq7->Option ((GL)))(iv:DN->Option ((DP)))(n_43:Tag×Unit->Option (Tag×Unit)):aB vw:=λA fid args S k=>match fid with|43=>bh prog lW n_43 A args S k|58=>bh prog E7 Eu A args S k|63=>bQ prog qY gi A args S k|64=>bQ prog IW K_ A args S k|_=>none
def x43(co:Tq7->Option ((GL)))(iv:DN->Option ((DP)))(n_43:Tag×Unit->Option (Tag×Unit)):Xc vw:={P:=prog,n:=55,call:=w9 co iv n_43,pre:=EN,sh:=JO,joins:=λk=>match k with|16=>some (F2,[.norm])|_=>none,loops:=λk=>match k with|3=>some {cut:=Ax,alts:=[.exit 0],F:=iv}|12=>some {cut:=qi,alts:=[.exit 2],F:=co}|_=>none}
abbrev m7(v:Tq7)(r:(GL)):Prop:=(λv out=>∀C:Ctx,C.P=prog->C.N=55/\Fx C EN->ea C (ae (aa Tryz.f43) 1) (Go.Tx.az vw (bi vw qi v)) (eL JO [.exit 2] out)) v r
theorem D1(f0:Tq7->Option ((GL)))(h0:∀v r,f0 v=some r->m7 v r):aj prog (x43 f0 (λ_=>none) (λ_=>none)).call:=(by
 intro A fid args S dst k r h
 unfold x43 w9 at h
 simp only at h
 split at h
 ·exact au ((λv r x h hx=>by cases h)) rfl rfl h
 ·exact au (r8) rfl rfl h
 ·exact aA (iz) h
 ·exact aA (wb) h
 ·cases h)
theorem E_(f0:Tq7->Option ((GL)))(h0:∀v r,f0 v=some r->m7 v r)(v:Tq7)(r:(GL))(h:exL (x43 f0 (λ_=>none) (λ_=>none)) (ae (aa Tryz.f43) 1) qi [.exit 2] f0 v=some r):m7 v r:=λC hP hN=>aI (X:=x43 f0 (λ_=>none) (λ_=>none)) (b:=(ae (aa Tryz.f43) 1)) hP hN Ty.mixed (D1 f0 h0) (aw (X:=x43 f0 (λ_=>none) (λ_=>none)) (c:=(ae (aa Tryz.f43) 1)) (an (by kernel_rfl:True=bw (ay C (x43 f0 (λ_=>none) (λ_=>none))) (ax (ae (aa Tryz.f43) 1))) trivial)) (cut:=qi) (alts:=[.exit 2]) (F:=f0) (λv out h=>h0 v out h C hP hN) h
theorem y6:∀v out,co v=some out->(λv out=>∀C:Ctx,C.P=prog->C.N=55/\Fx C EN->ea C (ae (aa Tryz.f43) 1) (Go.Tx.az vw (bi vw qi v)) (eL JO [.exit 2] out)) v out:=(co.partial_correctness (motive:=m7) (λf0 h0 v r h=>E_ f0 h0 v r (an (by kernel_rfl) h)))
abbrev jY(v:DN)(r:(DP)):Prop:=(λv out=>∀C:Ctx,C.P=prog->C.N=55/\Fx C EN->ea C (ae (aa Tryz.f43) 0) (Go.Tx.az vw (bi vw Ax v)) (eL JO [.exit 0] out)) v r
abbrev BW(v:Tag×Unit)(r:Tag×Unit):Prop:=(λv r=>∀x,lS prog lW r=some x->c8 prog 43 (encL vw (aE lW v).len (bj lW v).1) (br (aE lW v).len (aE lW v).own) (ao vw (bi vw lW.rcut r).len x) (br (bi vw lW.rcut r).len (gY lW r))) v r
theorem G9(f0:DN->Option ((DP)))(f1:Tag×Unit->Option (Tag×Unit))(h0:∀v r,f0 v=some r->jY v r)(h1:∀v r,f1 v=some r->BW v r):aj prog (x43 (λ_=>none) f0 f1).call:=(by
 intro A fid args S dst k r h
 unfold x43 w9 at h
 simp only at h
 split at h
 ·exact au ((λv r x h hx=>h1 v r h x hx)) rfl rfl h
 ·exact au (r8) rfl rfl h
 ·exact aA (iz) h
 ·exact aA (wb) h
 ·cases h)
theorem I4(f0:DN->Option ((DP)))(f1:Tag×Unit->Option (Tag×Unit))(h0:∀v r,f0 v=some r->jY v r)(h1:∀v r,f1 v=some r->BW v r)(v:DN)(r:(DP))(h:exL (x43 (λ_=>none) f0 f1) (ae (aa Tryz.f43) 0) Ax [.exit 0] f0 v=some r):jY v r:=λC hP hN=>aI (X:=x43 (λ_=>none) f0 f1) (b:=(ae (aa Tryz.f43) 0)) hP hN Ty.mixed (G9 f0 f1 h0 h1) (aw (X:=x43 (λ_=>none) f0 f1) (c:=(ae (aa Tryz.f43) 0)) (an (by kernel_rfl:True=bw (ay C (x43 (λ_=>none) f0 f1)) (ax (ae (aa Tryz.f43) 0))) trivial)) (cut:=Ax) (alts:=[.exit 0]) (F:=f0) (λv out h=>h0 v out h C hP hN) h
theorem LQ(f0:DN->Option ((DP)))(h0:∀v r,f0 v=some r->jY v r):aj prog (x43 co f0 (λ_=>none)).call:=(by
 intro A fid args S dst k r h
 unfold x43 w9 at h
 simp only at h
 split at h
 ·exact au ((λv r x h hx=>by cases h)) rfl rfl h
 ·exact au (r8) rfl rfl h
 ·exact aA (iz) h
 ·exact aA (wb) h
 ·cases h)
theorem MJ(f0:DN->Option ((DP)))(h0:∀v r,f0 v=some r->jY v r)(v:Tag×Unit)(r:Tag×Unit)(h:exF (x43 co f0 (λ_=>none)) lW rfl (aa Tryz.f43) v=some r):BW v r:=λx hx=>bk (X:=x43 co f0 (λ_=>none)) (sig:=lW) rfl Tryz.func43 (c:=aa Tryz.f43) (by kernel_rfl) Tryz.ntmps43 (by kernel_rfl) (by kernel_rfl) rfl Ty.mixed (LQ f0 h0) rfl (λC hP hN=>(aw (X:=x43 co f0 (λ_=>none)) (c:=(aa Tryz.f43)) (an (by kernel_rfl:bw (ay C (x43 co f0 (λ_=>none))) [(ae (aa Tryz.f43) 0),(ae (aa Tryz.f43) 1)]=bw (ay C (x43 co f0 (λ_=>none))) (ax (aa Tryz.f43))) ⟨bf (X:=x43 co f0 (λ_=>none)) (b:=(ae (aa Tryz.f43) 0)) (by kernel_rfl) (show bC C (ae (aa Tryz.f43) 0) (sh:=JO) {cut:=Ax,alts:=[.exit 0],F:=f0}fromλv out h=>h0 v out h C hP hN),bf (X:=x43 co f0 (λ_=>none)) (b:=(ae (aa Tryz.f43) 1)) (by kernel_rfl) (show bC C (ae (aa Tryz.f43) 1) (sh:=JO) {cut:=qi,alts:=[.exit 2],F:=co}fromλv out h=>y6 v out h C hP hN),trivial⟩))) h x hx
theorem y7:(∀v r,iv v=some r->jY v r)/\(∀v r,n_43 v=some r->BW v r):=by
 refine iv.mutual_partial_correctness
  (motive_1:=jY)
  (motive_2:=BW)
  ?_ ?_
 ·exact(λf0 f1 h0 h1 v r h=>I4 f0 f1 h0 h1 v r (an (by kernel_rfl) h))
 ·exact(λf0 h0 v r h=>MJ f0 h0 v r (an (by kernel_rfl) h))
theorem Ia:bd prog 43 lW n_43:=λv r x h hx=>y7.2 v r h x hx
def K0:Cut SN:=⟨[(2, .bp 2 0),(3,Dq1)],[(2, .st .tagT)]⟩
def NT:bc vw:={rcut:=K0}
def Mf:Nat->Bool:=λ_=>false
def II:Sig vw:={params:=[Dq3],rcut:=K0,rvars:=[.cell 2 25, .tmp 3]}
noncomputable def Aa(v:Tag×Unit):Option (Int×Tag×Unit):=oC v>>=λx1=>if(x1.1 !=(0:Int))=true then some ((x1.1,Tag.mk (0:Int) (0:Int) (Oo #[]) [] [],()))else n_43 v>>=λx2=>some (((0:Int),x2))
def F5:aB vw:=cP prog 29 uL oC (cP prog 43 lW n_43 c0)
def x19:Xc vw:={P:=prog,n:=13,call:=F5,pre:=Mf,sh:=NT}
theorem AF:aj prog F5:=bE lN rfl rfl (bE Ia rfl rfl ci)
theorem HT:bd prog 19 II Aa:=λv r x h hx=>
 bk (X:=x19) (sig:=II) rfl Tryz.func19 (c:=aa Tryz.f19) (by kernel_rfl) Tryz.ntmps19 (by kernel_rfl) (by kernel_rfl) rfl Ty.mixed AF rfl (λC hP hN=>(aw (an (by kernel_rfl) trivial))) (an (by kernel_rfl) h) x hx
def ym:Cut SN:=⟨[(1, .bp 1 0),(5,Dq1),(6,Dq1),(7,Dq1),(8,Dq1)],[(1, .st .tagT)]⟩
def Av:Cut SN:=⟨[(1, .bp 1 0),(5,Dq1),(6,Dq1),(7,Dq1),(9,Dq1)],[(1, .st .tagT)]⟩
def Lq:Cut SN:=⟨[(1, .bp 1 0),(5,Dq1),(6,Dq1),(7,Dq1)],[(1, .st .tagT)]⟩
def Lr:Cut SN:=⟨[(5,Dq1),(6,Dq1),(7,Dq1)],[]⟩
def Nd:Cut SN:=⟨[(2,Dq1),(3,Dq1),(4,Dq1)],[]⟩
def JM:bc vw:={exits:=λid=>match id with|0=>Lq|2=>Lr|_=>⟨[],[]⟩,rcut:=Nd}
def EL:Nat->Bool:=λ_=>false
def jf:Sig vw:={params:=[Dq3],rcut:=Nd,rvars:=[.tmp 2, .tmp 3, .tmp 4]}
abbrev Tq9:=Int×Int×Int×Int×Tag×Unit
abbrev GO:=Int×Int×Int×Tag×Unit
noncomputable def cT(v:Tq9):Option ((GO)):=if decide (v.2.2.2.1<(↑v.2.2.2.2.1.names.length:Int))=true then if(0:Int)<=v.2.2.2.1 then v.2.2.2.2.1.names[v.2.2.2.1.toNat]?>>=λx1=>cT (v.1,v.2.1,i64.wrap (v.2.2.1+(↑x1.size:Int)),i64.wrap (v.2.2.2.1+(1:Int)),v.2.2.2.2)else none else some (v.1,v.2.1,v.2.2.1,v.2.2.2.2) partial_fixpoint
abbrev u7:=Int×Int×Int×Unit
mutual
noncomputable def fE(v:Tq9):Option ((u7)):=if decide (v.2.2.2.1<(↑v.2.2.2.2.1.parts.length:Int))=true then if(0:Int)<=v.2.2.2.1 then v.2.2.2.2.1.parts[v.2.2.2.1.toNat]?>>=λx1=>n_27 (x1,())>>=λx2=>fE (i64.wrap (v.1+x2.1),max v.2.1 x2.2.1,i64.wrap (v.2.2.1+x2.2.2.1),i64.wrap (v.2.2.2.1+(1:Int)),v.2.2.2.2)else none else some ((v.1,v.2.1,v.2.2.1,())) partial_fixpoint
noncomputable def n_27(v:Tag×Unit):Option (u7):=cT ((1:Int),(0:Int),(↑v.1.text.size:Int),(0:Int),v)>>=λx1=>fE (x1.1,x1.2.1,x1.2.2.1,(0:Int),x1.2.2.2)>>=λx2=>some ((x2.1,i64.wrap (x2.2.1+(1:Int)),x2.2.2)) partial_fixpoint
end
def w7(cT:Tq9->Option ((GO)))(fE:Tq9->Option ((u7)))(n_27:Tag×Unit->Option (u7)):aB vw:=λA fid args S k=>match fid with|27=>bh prog jf n_27 A args S k|_=>none
def x27(cT:Tq9->Option ((GO)))(fE:Tq9->Option ((u7)))(n_27:Tag×Unit->Option (u7)):Xc vw:={P:=prog,n:=61,call:=w7 cT fE n_27,pre:=EL,sh:=JM,loops:=λk=>match k with|3=>some {cut:=ym,alts:=[.exit 0],F:=cT}|7=>some {cut:=Av,alts:=[.exit 2],F:=fE}|_=>none}
abbrev rN(v:Tq9)(r:(GO)):Prop:=(λv out=>∀C:Ctx,C.P=prog->C.N=61/\Fx C EL->ea C (ae (aa Tryz.f27) 0) (Go.Tx.az vw (bi vw ym v)) (eL JM [.exit 0] out)) v r
theorem G5(f0:Tq9->Option ((GO)))(h0:∀v r,f0 v=some r->rN v r):aj prog (x27 f0 (λ_=>none) (λ_=>none)).call:=(by
 intro A fid args S dst k r h
 unfold x27 w7 at h
 simp only at h
 split at h
 ·exact au ((λv r x h hx=>by cases h)) rfl rfl h
 ·cases h)
theorem I0(f0:Tq9->Option ((GO)))(h0:∀v r,f0 v=some r->rN v r)(v:Tq9)(r:(GO))(h:exL (x27 f0 (λ_=>none) (λ_=>none)) (ae (aa Tryz.f27) 0) ym [.exit 0] f0 v=some r):rN v r:=λC hP hN=>aI (X:=x27 f0 (λ_=>none) (λ_=>none)) (b:=(ae (aa Tryz.f27) 0)) hP hN Ty.mixed (G5 f0 h0) (aw (X:=x27 f0 (λ_=>none) (λ_=>none)) (c:=(ae (aa Tryz.f27) 0)) (an (by kernel_rfl:True=bw (ay C (x27 f0 (λ_=>none) (λ_=>none))) (ax (ae (aa Tryz.f27) 0))) trivial)) (cut:=ym) (alts:=[.exit 0]) (F:=f0) (λv out h=>h0 v out h C hP hN) h
theorem Ce:∀v out,cT v=some out->(λv out=>∀C:Ctx,C.P=prog->C.N=61/\Fx C EL->ea C (ae (aa Tryz.f27) 0) (Go.Tx.az vw (bi vw ym v)) (eL JM [.exit 0] out)) v out:=(cT.partial_correctness (motive:=rN) (λf0 h0 v r h=>I0 f0 h0 v r (an (by kernel_rfl) h)))
abbrev jW(v:Tq9)(r:(u7)):Prop:=(λv out=>∀C:Ctx,C.P=prog->C.N=61/\Fx C EL->ea C (ae (aa Tryz.f27) 1) (Go.Tx.az vw (bi vw Av v)) (eL JM [.exit 2] out)) v r
abbrev BU(v:Tag×Unit)(r:u7):Prop:=(λv r=>∀x,lS prog jf r=some x->c8 prog 27 (encL vw (aE jf v).len (bj jf v).1) (br (aE jf v).len (aE jf v).own) (ao vw (bi vw jf.rcut r).len x) (br (bi vw jf.rcut r).len (gY jf r))) v r
theorem G6(f0:Tq9->Option ((u7)))(f1:Tag×Unit->Option (u7))(h0:∀v r,f0 v=some r->jW v r)(h1:∀v r,f1 v=some r->BU v r):aj prog (x27 (λ_=>none) f0 f1).call:=(by
 intro A fid args S dst k r h
 unfold x27 w7 at h
 simp only at h
 split at h
 ·exact au ((λv r x h hx=>h1 v r h x hx)) rfl rfl h
 ·cases h)
theorem I1(f0:Tq9->Option ((u7)))(f1:Tag×Unit->Option (u7))(h0:∀v r,f0 v=some r->jW v r)(h1:∀v r,f1 v=some r->BU v r)(v:Tq9)(r:(u7))(h:exL (x27 (λ_=>none) f0 f1) (ae (aa Tryz.f27) 1) Av [.exit 2] f0 v=some r):jW v r:=λC hP hN=>aI (X:=x27 (λ_=>none) f0 f1) (b:=(ae (aa Tryz.f27) 1)) hP hN Ty.mixed (G6 f0 f1 h0 h1) (aw (X:=x27 (λ_=>none) f0 f1) (c:=(ae (aa Tryz.f27) 1)) (an (by kernel_rfl:True=bw (ay C (x27 (λ_=>none) f0 f1)) (ax (ae (aa Tryz.f27) 1))) trivial)) (cut:=Av) (alts:=[.exit 2]) (F:=f0) (λv out h=>h0 v out h C hP hN) h
theorem LO(f0:Tq9->Option ((u7)))(h0:∀v r,f0 v=some r->jW v r):aj prog (x27 cT f0 (λ_=>none)).call:=(by
 intro A fid args S dst k r h
 unfold x27 w7 at h
 simp only at h
 split at h
 ·exact au ((λv r x h hx=>by cases h)) rfl rfl h
 ·cases h)
theorem MH(f0:Tq9->Option ((u7)))(h0:∀v r,f0 v=some r->jW v r)(v:Tag×Unit)(r:u7)(h:exF (x27 cT f0 (λ_=>none)) jf rfl (aa Tryz.f27) v=some r):BU v r:=λx hx=>bk (X:=x27 cT f0 (λ_=>none)) (sig:=jf) rfl Tryz.func27 (c:=aa Tryz.f27) (by kernel_rfl) Tryz.ntmps27 (by kernel_rfl) (by kernel_rfl) rfl Ty.mixed (LO f0 h0) rfl (λC hP hN=>(aw (X:=x27 cT f0 (λ_=>none)) (c:=(aa Tryz.f27)) (an (by kernel_rfl:bw (ay C (x27 cT f0 (λ_=>none))) [(ae (aa Tryz.f27) 0),(ae (aa Tryz.f27) 1)]=bw (ay C (x27 cT f0 (λ_=>none))) (ax (aa Tryz.f27))) ⟨bf (X:=x27 cT f0 (λ_=>none)) (b:=(ae (aa Tryz.f27) 0)) (by kernel_rfl) (show bC C (ae (aa Tryz.f27) 0) (sh:=JM) {cut:=ym,alts:=[.exit 0],F:=cT}fromλv out h=>Ce v out h C hP hN),bf (X:=x27 cT f0 (λ_=>none)) (b:=(ae (aa Tryz.f27) 1)) (by kernel_rfl) (show bC C (ae (aa Tryz.f27) 1) (sh:=JM) {cut:=Av,alts:=[.exit 2],F:=f0}fromλv out h=>h0 v out h C hP hN),trivial⟩))) h x hx
theorem yZ:(∀v r,fE v=some r->jW v r)/\(∀v r,n_27 v=some r->BU v r):=by
 refine fE.mutual_partial_correctness
  (motive_1:=jW)
  (motive_2:=BU)
  ?_ ?_
 ·exact(λf0 f1 h0 h1 v r h=>I1 f0 f1 h0 h1 v r (an (by kernel_rfl) h))
 ·exact(λf0 h0 v r h=>MH f0 h0 v r (an (by kernel_rfl) h))
theorem r5:bd prog 27 jf n_27:=λv r x h hx=>yZ.2 v r h x hx
def lz:Cut SN:=⟨[(1, .bp 1 0),(3,Dq1)],[(1, .st .tagT)]⟩
def sX:Cut SN:=⟨[(1, .bp 1 0),(4,Dq1)],[(1, .st .tagT)]⟩
def LH:Cut SN:=⟨[(1, .bp 1 0),(54,Dq4)],[(1, .st .tagT)]⟩
def LI:Cut SN:=⟨[(1, .bp 1 0),(82,Dq4)],[(1, .st .tagT)]⟩
def JR:bc vw:={exits:=λid=>match id with|0=>G2|2=>eE|_=>⟨[],[]⟩,rcut:=qk}
def EQ:Nat->Bool:=λ_=>false
def l8:Sig vw:={params:=[Dq3],rcut:=qk,rvars:=[.tmp 2]}
noncomputable def dj(v:Int×Tag×Unit):Option (((Bool×Unit)⊕(Tag×Unit))):=if decide (v.1<(↑v.2.1.names.length:Int))=true then if(0:Int)<=v.1 then v.2.1.names[v.1.toNat]?>>=λx1=>DK (x1,())>>=λx2=>if(!x2.1)=true then some (Po (false,()))else dj (i64.wrap (v.1+(1:Int)),v.2)else none else some (PD v.2) partial_fixpoint
mutual
noncomputable def eN(v:Int×Tag×Unit):Option (((Bool×Unit)⊕(Unit))):=if decide (v.1<(↑v.2.1.parts.length:Int))=true then if(0:Int)<=v.1 then v.2.1.parts[v.1.toNat]?>>=λx1=>n_54 (x1,())>>=λx2=>if(!x2.1)=true then some (Po (false,()))else eN (i64.wrap (v.1+(1:Int)),v.2)else none else some (PD ()) partial_fixpoint
noncomputable def n_54(v:Tag×Unit):Option (Bool×Unit):=(if decide (v.1.kind<(0:Int))=true then some (true,v)else if decide (v.1.kind>(6:Int))=true then some (true,v)else if(v.1.kind !=(3:Int))=true then if(v.1.n !=(0:Int))=true then some (true,v)else if(v.1.kind !=(4:Int))=true then if(!v.1.text.toList==(Oo #[]).toList)=true then some (true,v)else if(v.1.kind !=(6:Int))=true then if decide ((↑v.1.names.length:Int)>(0:Int))=true then some (true,v)else if decide (v.1.kind<(5:Int))=true then some ((decide ((↑v.1.parts.length:Int)>(0:Int)),v))else some (false,v)else if decide (v.1.kind<(5:Int))=true then some ((decide ((↑v.1.parts.length:Int)>(0:Int)),v))else some (false,v)else if(v.1.kind !=(6:Int))=true then if decide ((↑v.1.names.length:Int)>(0:Int))=true then some (true,v)else if decide (v.1.kind<(5:Int))=true then some ((decide ((↑v.1.parts.length:Int)>(0:Int)),v))else some (false,v)else if decide (v.1.kind<(5:Int))=true then some ((decide ((↑v.1.parts.length:Int)>(0:Int)),v))else some (false,v)else if(v.1.kind !=(4:Int))=true then if(!v.1.text.toList==(Oo #[]).toList)=true then some (true,v)else if(v.1.kind !=(6:Int))=true then if decide ((↑v.1.names.length:Int)>(0:Int))=true then some (true,v)else if decide (v.1.kind<(5:Int))=true then some ((decide ((↑v.1.parts.length:Int)>(0:Int)),v))else some (false,v)else if decide (v.1.kind<(5:Int))=true then some ((decide ((↑v.1.parts.length:Int)>(0:Int)),v))else some (false,v)else if(v.1.kind !=(6:Int))=true then if decide ((↑v.1.names.length:Int)>(0:Int))=true then some (true,v)else if decide (v.1.kind<(5:Int))=true then some ((decide ((↑v.1.parts.length:Int)>(0:Int)),v))else some (false,v)else if decide (v.1.kind<(5:Int))=true then some ((decide ((↑v.1.parts.length:Int)>(0:Int)),v))else some (false,v))>>=λx1=>if x1.1=true then some ((false,()))else(if decide (x1.2.1.n<(-9007199254740992:Int))=true then some (true,x1.2)else if decide (x1.2.1.n>(9007199254740992:Int))=true then some (true,x1.2)else DK (x1.2.1.text,())>>=λx2=>if(!x2.1)=true then some (true,x1.2)else if(x1.2.1.kind==(6:Int))=true then some (((↑x1.2.1.names.length:Int) !=(↑x1.2.1.parts.length:Int),x1.2))else some (false,x1.2))>>=λx2=>if x2.1=true then some ((false,()))else dj ((0:Int),x2.2)>>=λx3=>match x3 with| .inl y3=>some y3| .inr y3=>eN ((0:Int),y3)>>=λx4=>match x4 with| .inl y4=>some y4| .inr y4=>some ((true,())) partial_fixpoint
end
def xb(dj:Int×Tag×Unit->Option (((Bool×Unit)⊕(Tag×Unit))))(eN:Int×Tag×Unit->Option (((Bool×Unit)⊕(Unit))))(n_54:Tag×Unit->Option (Bool×Unit)):aB vw:=λA fid args S k=>match fid with|54=>bh prog l8 n_54 A args S k|76=>bh prog IY DK A args S k|_=>none
def x54(dj:Int×Tag×Unit->Option (((Bool×Unit)⊕(Tag×Unit))))(eN:Int×Tag×Unit->Option (((Bool×Unit)⊕(Unit))))(n_54:Tag×Unit->Option (Bool×Unit)):Xc vw:={P:=prog,n:=111,call:=xb dj eN n_54,pre:=EQ,sh:=JR,regs:=λk=>match k with|1=>some LH|3=>some LI|_=>none,loops:=λk=>match k with|6=>some {cut:=lz,alts:=[.ret, .exit 0],F:=dj}|11=>some {cut:=sX,alts:=[.ret, .exit 2],F:=eN}|_=>none}
abbrev rR(v:Int×Tag×Unit)(r:((Bool×Unit)⊕(Tag×Unit))):Prop:=(λv out=>∀C:Ctx,C.P=prog->C.N=111/\Fx C EQ->ea C (ae (aa Tryz.f54) 0) (Go.Tx.az vw (bi vw lz v)) (eL JR [.ret, .exit 0] out)) v r
theorem He(f0:Int×Tag×Unit->Option (((Bool×Unit)⊕(Tag×Unit))))(h0:∀v r,f0 v=some r->rR v r):aj prog (x54 f0 (λ_=>none) (λ_=>none)).call:=(by
 intro A fid args S dst k r h
 unfold x54 xb at h
 simp only at h
 split at h
 ·exact au ((λv r x h hx=>by cases h)) rfl rfl h
 ·exact au (r9) rfl rfl h
 ·cases h)
theorem I_(f0:Int×Tag×Unit->Option (((Bool×Unit)⊕(Tag×Unit))))(h0:∀v r,f0 v=some r->rR v r)(v:Int×Tag×Unit)(r:((Bool×Unit)⊕(Tag×Unit)))(h:exL (x54 f0 (λ_=>none) (λ_=>none)) (ae (aa Tryz.f54) 0) lz [.ret, .exit 0] f0 v=some r):rR v r:=λC hP hN=>aI (X:=x54 f0 (λ_=>none) (λ_=>none)) (b:=(ae (aa Tryz.f54) 0)) hP hN Ty.mixed (He f0 h0) (aw (X:=x54 f0 (λ_=>none) (λ_=>none)) (c:=(ae (aa Tryz.f54) 0)) (an (by kernel_rfl:True=bw (ay C (x54 f0 (λ_=>none) (λ_=>none))) (ax (ae (aa Tryz.f54) 0))) trivial)) (cut:=lz) (alts:=[.ret, .exit 0]) (F:=f0) (λv out h=>h0 v out h C hP hN) h
theorem Ck:∀v out,dj v=some out->(λv out=>∀C:Ctx,C.P=prog->C.N=111/\Fx C EQ->ea C (ae (aa Tryz.f54) 0) (Go.Tx.az vw (bi vw lz v)) (eL JR [.ret, .exit 0] out)) v out:=(dj.partial_correctness (motive:=rR) (λf0 h0 v r h=>I_ f0 h0 v r (an (by kernel_rfl) h)))
abbrev gH(v:Int×Tag×Unit)(r:((Bool×Unit)⊕(Unit))):Prop:=(λv out=>∀C:Ctx,C.P=prog->C.N=111/\Fx C EQ->ea C (ae (aa Tryz.f54) 1) (Go.Tx.az vw (bi vw sX v)) (eL JR [.ret, .exit 2] out)) v r
abbrev B8(v:Tag×Unit)(r:Bool×Unit):Prop:=(λv r=>∀x,lS prog l8 r=some x->c8 prog 54 (encL vw (aE l8 v).len (bj l8 v).1) (br (aE l8 v).len (aE l8 v).own) (ao vw (bi vw l8.rcut r).len x) (br (bi vw l8.rcut r).len (gY l8 r))) v r
theorem D3(f0:Int×Tag×Unit->Option (((Bool×Unit)⊕(Unit))))(f1:Tag×Unit->Option (Bool×Unit))(h0:∀v r,f0 v=some r->gH v r)(h1:∀v r,f1 v=some r->B8 v r):aj prog (x54 (λ_=>none) f0 f1).call:=(by
 intro A fid args S dst k r h
 unfold x54 xb at h
 simp only at h
 split at h
 ·exact au ((λv r x h hx=>h1 v r h x hx)) rfl rfl h
 ·exact au (r9) rfl rfl h
 ·cases h)
theorem Fb(f0:Int×Tag×Unit->Option (((Bool×Unit)⊕(Unit))))(f1:Tag×Unit->Option (Bool×Unit))(h0:∀v r,f0 v=some r->gH v r)(h1:∀v r,f1 v=some r->B8 v r)(v:Int×Tag×Unit)(r:((Bool×Unit)⊕(Unit)))(h:exL (x54 (λ_=>none) f0 f1) (ae (aa Tryz.f54) 1) sX [.ret, .exit 2] f0 v=some r):gH v r:=λC hP hN=>aI (X:=x54 (λ_=>none) f0 f1) (b:=(ae (aa Tryz.f54) 1)) hP hN Ty.mixed (D3 f0 f1 h0 h1) (aw (X:=x54 (λ_=>none) f0 f1) (c:=(ae (aa Tryz.f54) 1)) (an (by kernel_rfl:True=bw (ay C (x54 (λ_=>none) f0 f1)) (ax (ae (aa Tryz.f54) 1))) trivial)) (cut:=sX) (alts:=[.ret, .exit 2]) (F:=f0) (λv out h=>h0 v out h C hP hN) h
theorem LW(f0:Int×Tag×Unit->Option (((Bool×Unit)⊕(Unit))))(h0:∀v r,f0 v=some r->gH v r):aj prog (x54 dj f0 (λ_=>none)).call:=(by
 intro A fid args S dst k r h
 unfold x54 xb at h
 simp only at h
 split at h
 ·exact au ((λv r x h hx=>by cases h)) rfl rfl h
 ·exact au (r9) rfl rfl h
 ·cases h)
theorem MP(f0:Int×Tag×Unit->Option (((Bool×Unit)⊕(Unit))))(h0:∀v r,f0 v=some r->gH v r)(v:Tag×Unit)(r:Bool×Unit)(h:exF (x54 dj f0 (λ_=>none)) l8 rfl (aa Tryz.f54) v=some r):B8 v r:=λx hx=>bk (X:=x54 dj f0 (λ_=>none)) (sig:=l8) rfl Tryz.func54 (c:=aa Tryz.f54) (by kernel_rfl) Tryz.ntmps54 (by kernel_rfl) (by kernel_rfl) rfl Ty.mixed (LW f0 h0) rfl (λC hP hN=>(aw (X:=x54 dj f0 (λ_=>none)) (c:=(aa Tryz.f54)) (an (by kernel_rfl:bw (ay C (x54 dj f0 (λ_=>none))) [(ae (aa Tryz.f54) 0),(ae (aa Tryz.f54) 1)]=bw (ay C (x54 dj f0 (λ_=>none))) (ax (aa Tryz.f54))) ⟨bf (X:=x54 dj f0 (λ_=>none)) (b:=(ae (aa Tryz.f54) 0)) (by kernel_rfl) (show bC C (ae (aa Tryz.f54) 0) (sh:=JR) {cut:=lz,alts:=[.ret, .exit 0],F:=dj}fromλv out h=>Ck v out h C hP hN),bf (X:=x54 dj f0 (λ_=>none)) (b:=(ae (aa Tryz.f54) 1)) (by kernel_rfl) (show bC C (ae (aa Tryz.f54) 1) (sh:=JR) {cut:=sX,alts:=[.ret, .exit 2],F:=f0}fromλv out h=>h0 v out h C hP hN),trivial⟩))) h x hx
theorem v_:(∀v r,eN v=some r->gH v r)/\(∀v r,n_54 v=some r->B8 v r):=by
 refine eN.mutual_partial_correctness
  (motive_1:=gH)
  (motive_2:=B8)
  ?_ ?_
 ·exact(λf0 f1 h0 h1 v r h=>Fb f0 f1 h0 h1 v r (an (by kernel_rfl) h))
 ·exact(λf0 h0 v r h=>MP f0 h0 v r (an (by kernel_rfl) h))
theorem Ii:bd prog 54 l8 n_54:=λv r x h hx=>v_.2 v r h x hx
def yu:Cut SN:=⟨[(1, .bp 1 0),(3,Dq1),(4,Dq1)],[(1, .st .tagT)]⟩
def sY:Cut SN:=⟨[(1, .bp 1 0),(5,Dq1)],[(1, .st .tagT)]⟩
def E5:bc vw:={exits:=λid=>match id with|0=>G2|2=>lz|4=>eE|_=>⟨[],[]⟩,rcut:=qk}
def zl:Nat->Bool:=λ_=>false
def l9:Sig vw:={params:=[Dq3],rcut:=qk,rvars:=[.tmp 2]}
abbrev DR:=Int×Int×Tag×Unit
noncomputable def dL(v:DR):Option (((Bool×Unit)⊕(Int×Tag×Unit))):=if decide (v.2.1<v.1)=true then if(0:Int)<=v.1 then v.2.2.1.names[v.1.toNat]?>>=λx1=>if(0:Int)<=v.2.1 then v.2.2.1.names[v.2.1.toNat]?>>=λx2=>if(x1.toList==x2.toList)=true then some (Po (true,()))else dL (v.1,i64.wrap (v.2.1+(1:Int)),v.2.2)else none else none else some (PD (v.1,v.2.2)) partial_fixpoint
noncomputable def dK(v:Int×Tag×Unit):Option (((Bool×Unit)⊕(Tag×Unit))):=if decide (v.1<(↑v.2.1.names.length:Int))=true then dL (v.1,(0:Int),v.2)>>=λx1=>match x1 with| .inl y1=>some (Po y1)| .inr y1=>dK (i64.wrap (y1.1+(1:Int)),y1.2)else some (PD v.2) partial_fixpoint
mutual
noncomputable def ft(v:Int×Tag×Unit):Option (((Bool×Unit)⊕(Unit))):=if decide (v.1<(↑v.2.1.parts.length:Int))=true then if(0:Int)<=v.1 then v.2.1.parts[v.1.toNat]?>>=λx1=>n_55 (x1,())>>=λx2=>if x2.1=true then some (Po (true,()))else ft (i64.wrap (v.1+(1:Int)),v.2)else none else some (PD ()) partial_fixpoint
noncomputable def n_55(v:Tag×Unit):Option (Bool×Unit):=dK ((0:Int),v)>>=λx1=>match x1 with| .inl y1=>some y1| .inr y1=>ft ((0:Int),y1)>>=λx2=>match x2 with| .inl y2=>some y2| .inr y2=>some ((false,())) partial_fixpoint
end
def s_(dL:DR->Option (((Bool×Unit)⊕(Int×Tag×Unit))))(dK:Int×Tag×Unit->Option (((Bool×Unit)⊕(Tag×Unit))))(ft:Int×Tag×Unit->Option (((Bool×Unit)⊕(Unit))))(n_55:Tag×Unit->Option (Bool×Unit)):aB vw:=λA fid args S k=>match fid with|55=>bh prog l9 n_55 A args S k|_=>none
def x55(dL:DR->Option (((Bool×Unit)⊕(Int×Tag×Unit))))(dK:Int×Tag×Unit->Option (((Bool×Unit)⊕(Tag×Unit))))(ft:Int×Tag×Unit->Option (((Bool×Unit)⊕(Unit))))(n_55:Tag×Unit->Option (Bool×Unit)):Xc vw:={P:=prog,n:=42,call:=s_ dL dK ft n_55,pre:=zl,sh:=E5,loops:=λk=>match k with|2=>some {cut:=lz,alts:=[.ret, .exit 0],F:=dK}|5=>some {cut:=yu,alts:=[.ret, .exit 2],F:=dL}|10=>some {cut:=sY,alts:=[.ret, .exit 4],F:=ft}|_=>none}
abbrev rT(v:DR)(r:((Bool×Unit)⊕(Int×Tag×Unit))):Prop:=(λv out=>∀C:Ctx,C.P=prog->C.N=42/\Fx C zl->ea C (ae (ae (aa Tryz.f55) 0) 0) (Go.Tx.az vw (bi vw yu v)) (eL E5 [.ret, .exit 2] out)) v r
theorem Hg(f0:DR->Option (((Bool×Unit)⊕(Int×Tag×Unit))))(h0:∀v r,f0 v=some r->rT v r):aj prog (x55 f0 (λ_=>none) (λ_=>none) (λ_=>none)).call:=(by
 intro A fid args S dst k r h
 unfold x55 s_ at h
 simp only at h
 split at h
 ·exact au ((λv r x h hx=>by cases h)) rfl rfl h
 ·cases h)
theorem Jb(f0:DR->Option (((Bool×Unit)⊕(Int×Tag×Unit))))(h0:∀v r,f0 v=some r->rT v r)(v:DR)(r:((Bool×Unit)⊕(Int×Tag×Unit)))(h:exL (x55 f0 (λ_=>none) (λ_=>none) (λ_=>none)) (ae (ae (aa Tryz.f55) 0) 0) yu [.ret, .exit 2] f0 v=some r):rT v r:=λC hP hN=>aI (X:=x55 f0 (λ_=>none) (λ_=>none) (λ_=>none)) (b:=(ae (ae (aa Tryz.f55) 0) 0)) hP hN Ty.mixed (Hg f0 h0) (aw (X:=x55 f0 (λ_=>none) (λ_=>none) (λ_=>none)) (c:=(ae (ae (aa Tryz.f55) 0) 0)) (an (by kernel_rfl:True=bw (ay C (x55 f0 (λ_=>none) (λ_=>none) (λ_=>none))) (ax (ae (ae (aa Tryz.f55) 0) 0))) trivial)) (cut:=yu) (alts:=[.ret, .exit 2]) (F:=f0) (λv out h=>h0 v out h C hP hN) h
theorem Cm:∀v out,dL v=some out->(λv out=>∀C:Ctx,C.P=prog->C.N=42/\Fx C zl->ea C (ae (ae (aa Tryz.f55) 0) 0) (Go.Tx.az vw (bi vw yu v)) (eL E5 [.ret, .exit 2] out)) v out:=(dL.partial_correctness (motive:=rT) (λf0 h0 v r h=>Jb f0 h0 v r (an (by kernel_rfl) h)))
abbrev rS(v:Int×Tag×Unit)(r:((Bool×Unit)⊕(Tag×Unit))):Prop:=(λv out=>∀C:Ctx,C.P=prog->C.N=42/\Fx C zl->ea C (ae (aa Tryz.f55) 0) (Go.Tx.az vw (bi vw lz v)) (eL E5 [.ret, .exit 0] out)) v r
theorem Hf(f0:Int×Tag×Unit->Option (((Bool×Unit)⊕(Tag×Unit))))(h0:∀v r,f0 v=some r->rS v r):aj prog (x55 dL f0 (λ_=>none) (λ_=>none)).call:=(by
 intro A fid args S dst k r h
 unfold x55 s_ at h
 simp only at h
 split at h
 ·exact au ((λv r x h hx=>by cases h)) rfl rfl h
 ·cases h)
theorem Ja(f0:Int×Tag×Unit->Option (((Bool×Unit)⊕(Tag×Unit))))(h0:∀v r,f0 v=some r->rS v r)(v:Int×Tag×Unit)(r:((Bool×Unit)⊕(Tag×Unit)))(h:exL (x55 dL f0 (λ_=>none) (λ_=>none)) (ae (aa Tryz.f55) 0) lz [.ret, .exit 0] f0 v=some r):rS v r:=λC hP hN=>aI (X:=x55 dL f0 (λ_=>none) (λ_=>none)) (b:=(ae (aa Tryz.f55) 0)) hP hN Ty.mixed (Hf f0 h0) (aw (X:=x55 dL f0 (λ_=>none) (λ_=>none)) (c:=(ae (aa Tryz.f55) 0)) (an (by kernel_rfl:bw (ay C (x55 dL f0 (λ_=>none) (λ_=>none))) [(ae (ae (aa Tryz.f55) 0) 0)]=bw (ay C (x55 dL f0 (λ_=>none) (λ_=>none))) (ax (ae (aa Tryz.f55) 0))) ⟨bf (X:=x55 dL f0 (λ_=>none) (λ_=>none)) (b:=(ae (ae (aa Tryz.f55) 0) 0)) (by kernel_rfl) (show bC C (ae (ae (aa Tryz.f55) 0) 0) (sh:=E5) {cut:=yu,alts:=[.ret, .exit 2],F:=dL}fromλv out h=>Cm v out h C hP hN),trivial⟩)) (cut:=lz) (alts:=[.ret, .exit 0]) (F:=f0) (λv out h=>h0 v out h C hP hN) h
theorem Cl:∀v out,dK v=some out->(λv out=>∀C:Ctx,C.P=prog->C.N=42/\Fx C zl->ea C (ae (aa Tryz.f55) 0) (Go.Tx.az vw (bi vw lz v)) (eL E5 [.ret, .exit 0] out)) v out:=(dK.partial_correctness (motive:=rS) (λf0 h0 v r h=>Ja f0 h0 v r (an (by kernel_rfl) h)))
abbrev gI(v:Int×Tag×Unit)(r:((Bool×Unit)⊕(Unit))):Prop:=(λv out=>∀C:Ctx,C.P=prog->C.N=42/\Fx C zl->ea C (ae (aa Tryz.f55) 1) (Go.Tx.az vw (bi vw sY v)) (eL E5 [.ret, .exit 4] out)) v r
abbrev B9(v:Tag×Unit)(r:Bool×Unit):Prop:=(λv r=>∀x,lS prog l9 r=some x->c8 prog 55 (encL vw (aE l9 v).len (bj l9 v).1) (br (aE l9 v).len (aE l9 v).own) (ao vw (bi vw l9.rcut r).len x) (br (bi vw l9.rcut r).len (gY l9 r))) v r
theorem D4(f0:Int×Tag×Unit->Option (((Bool×Unit)⊕(Unit))))(f1:Tag×Unit->Option (Bool×Unit))(h0:∀v r,f0 v=some r->gI v r)(h1:∀v r,f1 v=some r->B9 v r):aj prog (x55 (λ_=>none) (λ_=>none) f0 f1).call:=(by
 intro A fid args S dst k r h
 unfold x55 s_ at h
 simp only at h
 split at h
 ·exact au ((λv r x h hx=>h1 v r h x hx)) rfl rfl h
 ·cases h)
theorem Fc(f0:Int×Tag×Unit->Option (((Bool×Unit)⊕(Unit))))(f1:Tag×Unit->Option (Bool×Unit))(h0:∀v r,f0 v=some r->gI v r)(h1:∀v r,f1 v=some r->B9 v r)(v:Int×Tag×Unit)(r:((Bool×Unit)⊕(Unit)))(h:exL (x55 (λ_=>none) (λ_=>none) f0 f1) (ae (aa Tryz.f55) 1) sY [.ret, .exit 4] f0 v=some r):gI v r:=λC hP hN=>aI (X:=x55 (λ_=>none) (λ_=>none) f0 f1) (b:=(ae (aa Tryz.f55) 1)) hP hN Ty.mixed (D4 f0 f1 h0 h1) (aw (X:=x55 (λ_=>none) (λ_=>none) f0 f1) (c:=(ae (aa Tryz.f55) 1)) (an (by kernel_rfl:True=bw (ay C (x55 (λ_=>none) (λ_=>none) f0 f1)) (ax (ae (aa Tryz.f55) 1))) trivial)) (cut:=sY) (alts:=[.ret, .exit 4]) (F:=f0) (λv out h=>h0 v out h C hP hN) h
theorem LX(f0:Int×Tag×Unit->Option (((Bool×Unit)⊕(Unit))))(h0:∀v r,f0 v=some r->gI v r):aj prog (x55 (λ_=>none) dK f0 (λ_=>none)).call:=(by
 intro A fid args S dst k r h
 unfold x55 s_ at h
 simp only at h
 split at h
 ·exact au ((λv r x h hx=>by cases h)) rfl rfl h
 ·cases h)
theorem MQ(f0:Int×Tag×Unit->Option (((Bool×Unit)⊕(Unit))))(h0:∀v r,f0 v=some r->gI v r)(v:Tag×Unit)(r:Bool×Unit)(h:exF (x55 (λ_=>none) dK f0 (λ_=>none)) l9 rfl (aa Tryz.f55) v=some r):B9 v r:=λx hx=>bk (X:=x55 (λ_=>none) dK f0 (λ_=>none)) (sig:=l9) rfl Tryz.func55 (c:=aa Tryz.f55) (by kernel_rfl) Tryz.ntmps55 (by kernel_rfl) (by kernel_rfl) rfl Ty.mixed (LX f0 h0) rfl (λC hP hN=>(aw (X:=x55 (λ_=>none) dK f0 (λ_=>none)) (c:=(aa Tryz.f55)) (an (by kernel_rfl:bw (ay C (x55 (λ_=>none) dK f0 (λ_=>none))) [(ae (aa Tryz.f55) 0),(ae (aa Tryz.f55) 1)]=bw (ay C (x55 (λ_=>none) dK f0 (λ_=>none))) (ax (aa Tryz.f55))) ⟨bf (X:=x55 (λ_=>none) dK f0 (λ_=>none)) (b:=(ae (aa Tryz.f55) 0)) (by kernel_rfl) (show bC C (ae (aa Tryz.f55) 0) (sh:=E5) {cut:=lz,alts:=[.ret, .exit 0],F:=dK}fromλv out h=>Cl v out h C hP hN),bf (X:=x55 (λ_=>none) dK f0 (λ_=>none)) (b:=(ae (aa Tryz.f55) 1)) (by kernel_rfl) (show bC C (ae (aa Tryz.f55) 1) (sh:=E5) {cut:=sY,alts:=[.ret, .exit 4],F:=f0}fromλv out h=>h0 v out h C hP hN),trivial⟩))) h x hx
theorem wa:(∀v r,ft v=some r->gI v r)/\(∀v r,n_55 v=some r->B9 v r):=by
 refine ft.mutual_partial_correctness
  (motive_1:=gI)
  (motive_2:=B9)
  ?_ ?_
 ·exact(λf0 f1 h0 h1 v r h=>Fc f0 f1 h0 h1 v r (an (by kernel_rfl) h))
 ·exact(λf0 h0 v r h=>MQ f0 h0 v r (an (by kernel_rfl) h))
theorem Ij:bd prog 55 l9 n_55:=λv r x h hx=>wa.2 v r h x hx
def Lv:Cut SN:=⟨[(1, .bp 1 0),(21,Dq4)],[(1, .st .tagT)]⟩
def N2:bc vw:={rcut:=K2}
def Mo:Nat->Bool:=λ_=>false
def zF:Sig vw:={params:=[Dq3],rcut:=K2,rvars:=[.tmp 2]}
noncomputable def Cf(v:Tag×Unit):Option (Int×Unit):=n_27 v>>=λx1=>(if decide (x1.1>(500:Int))=true then some (true,v)else if decide (x1.2.1>(20:Int))=true then some (true,v)else some ((decide (x1.2.2.1>(4096:Int)),v)))>>=λx2=>if x2.1=true then some (((3:Int),()))else n_54 x2.2>>=λx3=>if(!x3.1)=true then some (((1:Int),()))else n_55 x2.2>>=λx4=>if x4.1=true then some (((5:Int),()))else some (((0:Int),()))
def Ge:aB vw:=cP prog 27 jf n_27 (cP prog 54 l8 n_54 (cP prog 55 l9 n_55 c0))
def x33:Xc vw:={P:=prog,n:=27,call:=Ge,pre:=Mo,sh:=N2,regs:=λk=>match k with|2=>some Lv|_=>none}
theorem AP:aj prog Ge:=bE r5 rfl rfl (bE Ii rfl rfl (bE Ij rfl rfl ci))
theorem r6:bd prog 33 zF Cf:=λv r x h hx=>
 bk (X:=x33) (sig:=zF) rfl Tryz.func33 (c:=aa Tryz.f33) (by kernel_rfl) Tryz.ntmps33 (by kernel_rfl) (by kernel_rfl) rfl Ty.mixed AP rfl (λC hP hN=>(aw (an (by kernel_rfl) trivial))) (an (by kernel_rfl) h) x hx
def vq:Cut SN:=⟨[(1, .bp 1 0),(2, .bp 2 0),(3, .vh 1003),(4, .vh 1004),(5,Dq1)],[(1, .st .tagT),(2, .st .tagT),(1003,Oq9),(1004,DG)]⟩
def qj:Cut SN:=⟨[(1, .bp 1 0),(2, .bp 2 0),(3, .vh 1003),(4, .vh 1004),(5,Dq1),(6,Dq1)],[(1, .st .tagT),(2, .st .tagT),(1003,Oq9),(1004,DG)]⟩
def JZ:Cut SN:=⟨[(1, .bp 1 0),(2, .bp 2 0),(3, .vh 1003),(4, .vh 1004),(5,Dq1),(6,Dq1),(48,Dq4)],[(1, .st .tagT),(2, .st .tagT),(1003,Oq9),(1004,DG)]⟩
def LC:Cut SN:=⟨[(1, .bp 1 0),(2, .bp 2 0),(3, .vh 1003),(4, .vh 1004)],[(1, .st .tagT),(2, .st .tagT),(1003,Oq9),(1004,DG)]⟩
def JP:bc vw:={exits:=λid=>match id with|0=>LC|2=>vq|_=>⟨[],[]⟩,rcut:=K3}
def EO:Nat->Bool:=λ_=>false
def lX:Sig vw:={params:=[Dq3],rcut:=K3,rvars:=[.cell 2 25]}
abbrev GM:=Int×Int×Tag×Tag×(List ByteArray)×(List Tag)×Unit
abbrev Tq5:=Int×Tag×Tag×(List ByteArray)×(List Tag)×Unit
noncomputable def cz(v:GM):Option ((Tq5)):=(if decide (v.2.1>(0:Int))=true then if(0:Int)<=v.2.1/\v.2.1<(↑v.2.2.2.2.1.length:Int)then v.2.2.2.2.1[v.2.1.toNat]?>>=λx1=>if(0:Int)<=i64.wrap (v.2.1-(1:Int))/\i64.wrap (v.2.1-(1:Int))<(↑v.2.2.2.2.1.length:Int)then v.2.2.2.2.1[(i64.wrap (v.2.1-(1:Int))).toNat]?>>=λx2=>some (v.1,v.2.1,Bs.blt x1 x2,v.2.2)else none else none else some (v.1,v.2.1,false,v.2.2))>>=λx1=>if x1.2.2.1=true then if(0:Int)<=i64.wrap (x1.2.1-(1:Int))/\i64.wrap (x1.2.1-(1:Int))<(↑x1.2.2.2.2.2.1.length:Int)then x1.2.2.2.2.2.1[(i64.wrap (x1.2.1-(1:Int))).toNat]?>>=λx2=>if(0:Int)<=x1.2.1/\x1.2.1<(↑x1.2.2.2.2.2.1.length:Int)then x1.2.2.2.2.2.1[x1.2.1.toNat]?>>=λx3=>if(0:Int)<=x1.2.1/\x1.2.1<(↑x1.2.2.2.2.2.1.length:Int)then x1.2.2.2.2.2.1[x1.2.1.toNat]?>>=λx4=>if(0:Int)<=i64.wrap (x1.2.1-(1:Int))/\i64.wrap (x1.2.1-(1:Int))<(↑(x1.2.2.2.2.2.1.set x1.2.1.toNat x2).length:Int)then(x1.2.2.2.2.2.1.set x1.2.1.toNat x2)[(i64.wrap (x1.2.1-(1:Int))).toNat]?>>=λx5=>if(0:Int)<=i64.wrap (x1.2.1-(1:Int))/\i64.wrap (x1.2.1-(1:Int))<(↑x1.2.2.2.2.2.2.1.length:Int)then x1.2.2.2.2.2.2.1[(i64.wrap (x1.2.1-(1:Int))).toNat]?>>=λx6=>if(0:Int)<=x1.2.1/\x1.2.1<(↑x1.2.2.2.2.2.2.1.length:Int)then x1.2.2.2.2.2.2.1[x1.2.1.toNat]?>>=λx7=>if(0:Int)<=x1.2.1/\x1.2.1<(↑x1.2.2.2.2.2.2.1.length:Int)then x1.2.2.2.2.2.2.1[x1.2.1.toNat]?>>=λx8=>if(0:Int)<=i64.wrap (x1.2.1-(1:Int))/\i64.wrap (x1.2.1-(1:Int))<(↑(x1.2.2.2.2.2.2.1.set x1.2.1.toNat (Tag.mk x6.kind x6.n x6.text x6.names x6.parts)).length:Int)then(x1.2.2.2.2.2.2.1.set x1.2.1.toNat (Tag.mk x6.kind x6.n x6.text x6.names x6.parts))[(i64.wrap (x1.2.1-(1:Int))).toNat]?>>=λx9=>cz (x1.1,i64.wrap (x1.2.1-(1:Int)),x1.2.2.2.1,x1.2.2.2.2.1,(x1.2.2.2.2.2.1.set x1.2.1.toNat x2).set (i64.wrap (x1.2.1-(1:Int))).toNat x3,(x1.2.2.2.2.2.2.1.set x1.2.1.toNat (Tag.mk x6.kind x6.n x6.text x6.names x6.parts)).set (i64.wrap (x1.2.1-(1:Int))).toNat (Tag.mk x7.kind x7.n x7.text x7.names x7.parts),())else none else none else none else none else none else none else none else none else some (x1.1,x1.2.2.2) partial_fixpoint
abbrev DO:=Tag×Tag×(List ByteArray)×(List Tag)×Unit
mutual
noncomputable def fF(v:Tq5):Option ((DO)):=if decide (v.1<(↑v.2.1.parts.length:Int))=true then(if(0:Int)<=v.1 then v.2.1.parts[v.1.toNat]?>>=λx1=>n_44 (x1,())>>=λx2=>if v.2.2.2.2.1.length+[x2.1].length<=(4294967296:Nat)then if(v.2.1.kind !=(6:Int))=true then some ((v.1,v.2.1,v.2.2.1,v.2.2.2.1,v.2.2.2.2.1++[x2.1],()))else if(0:Int)<=v.1 then v.2.1.names[v.1.toNat]?>>=λx3=>if v.2.2.2.1.length+[x3].length<=(4294967296:Nat)then cz (v.1,v.1,v.2.1,v.2.2.1,v.2.2.2.1++[x3],v.2.2.2.2.1++[x2.1],())>>=λx4=>some (x4)else none else none else none else none)>>=λx1=>fF (i64.wrap (x1.1+(1:Int)),x1.2)else some (v.2) partial_fixpoint
noncomputable def n_44(v:Tag×Unit):Option (Tag×Unit):=fF ((0:Int),v.1,Tag.mk (0:Int) (0:Int) (Oo #[]) [] [],[],[],())>>=λx1=>some ((Tag.mk x1.1.kind x1.1.n x1.1.text x1.2.2.1 x1.2.2.2.1,())) partial_fixpoint
end
def w_(cz:GM->Option ((Tq5)))(fF:Tq5->Option ((DO)))(n_44:Tag×Unit->Option (Tag×Unit)):aB vw:=λA fid args S k=>match fid with|44=>bh prog lX n_44 A args S k|_=>none
def x44(cz:GM->Option ((Tq5)))(fF:Tq5->Option ((DO)))(n_44:Tag×Unit->Option (Tag×Unit)):Xc vw:={P:=prog,n:=88,call:=w_ cz fF n_44,pre:=EO,sh:=JP,joins:=λk=>match k with|5=>some (vq,[.norm])|_=>none,regs:=λk=>match k with|10=>some JZ|_=>none,loops:=λk=>match k with|4=>some {cut:=vq,alts:=[.exit 0],F:=fF}|10=>some {cut:=qj,alts:=[.exit 2],F:=cz}|_=>none}
abbrev m8(v:GM)(r:(Tq5)):Prop:=(λv out=>∀C:Ctx,C.P=prog->C.N=88/\Fx C EO->ea C (ae (ae (aa Tryz.f44) 0) 0) (Go.Tx.az vw (bi vw qj v)) (eL JP [.exit 2] out)) v r
theorem D2(f0:GM->Option ((Tq5)))(h0:∀v r,f0 v=some r->m8 v r):aj prog (x44 f0 (λ_=>none) (λ_=>none)).call:=(by
 intro A fid args S dst k r h
 unfold x44 w_ at h
 simp only at h
 split at h
 ·exact au ((λv r x h hx=>by cases h)) rfl rfl h
 ·cases h)
theorem Fa(f0:GM->Option ((Tq5)))(h0:∀v r,f0 v=some r->m8 v r)(v:GM)(r:(Tq5))(h:exL (x44 f0 (λ_=>none) (λ_=>none)) (ae (ae (aa Tryz.f44) 0) 0) qj [.exit 2] f0 v=some r):m8 v r:=λC hP hN=>aI (X:=x44 f0 (λ_=>none) (λ_=>none)) (b:=(ae (ae (aa Tryz.f44) 0) 0)) hP hN Ty.mixed (D2 f0 h0) (aw (X:=x44 f0 (λ_=>none) (λ_=>none)) (c:=(ae (ae (aa Tryz.f44) 0) 0)) (an (by kernel_rfl:True=bw (ay C (x44 f0 (λ_=>none) (λ_=>none))) (ax (ae (ae (aa Tryz.f44) 0) 0))) trivial)) (cut:=qj) (alts:=[.exit 2]) (F:=f0) (λv out h=>h0 v out h C hP hN) h
theorem y8:∀v out,cz v=some out->(λv out=>∀C:Ctx,C.P=prog->C.N=88/\Fx C EO->ea C (ae (ae (aa Tryz.f44) 0) 0) (Go.Tx.az vw (bi vw qj v)) (eL JP [.exit 2] out)) v out:=(cz.partial_correctness (motive:=m8) (λf0 h0 v r h=>Fa f0 h0 v r (an (by kernel_rfl) h)))
abbrev jZ(v:Tq5)(r:(DO)):Prop:=(λv out=>∀C:Ctx,C.P=prog->C.N=88/\Fx C EO->ea C (ae (aa Tryz.f44) 0) (Go.Tx.az vw (bi vw vq v)) (eL JP [.exit 0] out)) v r
abbrev BX(v:Tag×Unit)(r:Tag×Unit):Prop:=(λv r=>∀x,lS prog lX r=some x->c8 prog 44 (encL vw (aE lX v).len (bj lX v).1) (br (aE lX v).len (aE lX v).own) (ao vw (bi vw lX.rcut r).len x) (br (bi vw lX.rcut r).len (gY lX r))) v r
theorem G_(f0:Tq5->Option ((DO)))(f1:Tag×Unit->Option (Tag×Unit))(h0:∀v r,f0 v=some r->jZ v r)(h1:∀v r,f1 v=some r->BX v r):aj prog (x44 cz f0 f1).call:=(by
 intro A fid args S dst k r h
 unfold x44 w_ at h
 simp only at h
 split at h
 ·exact au ((λv r x h hx=>h1 v r h x hx)) rfl rfl h
 ·cases h)
theorem I5(f0:Tq5->Option ((DO)))(f1:Tag×Unit->Option (Tag×Unit))(h0:∀v r,f0 v=some r->jZ v r)(h1:∀v r,f1 v=some r->BX v r)(v:Tq5)(r:(DO))(h:exL (x44 cz f0 f1) (ae (aa Tryz.f44) 0) vq [.exit 0] f0 v=some r):jZ v r:=λC hP hN=>aI (X:=x44 cz f0 f1) (b:=(ae (aa Tryz.f44) 0)) hP hN Ty.mixed (G_ f0 f1 h0 h1) (aw (X:=x44 cz f0 f1) (c:=(ae (aa Tryz.f44) 0)) (an (by kernel_rfl:bw (ay C (x44 cz f0 f1)) [(ae (ae (aa Tryz.f44) 0) 0)]=bw (ay C (x44 cz f0 f1)) (ax (ae (aa Tryz.f44) 0))) ⟨bf (X:=x44 cz f0 f1) (b:=(ae (ae (aa Tryz.f44) 0) 0)) (by kernel_rfl) (show bC C (ae (ae (aa Tryz.f44) 0) 0) (sh:=JP) {cut:=qj,alts:=[.exit 2],F:=cz}fromλv out h=>y8 v out h C hP hN),trivial⟩)) (cut:=vq) (alts:=[.exit 0]) (F:=f0) (λv out h=>h0 v out h C hP hN) h
theorem LR(f0:Tq5->Option ((DO)))(h0:∀v r,f0 v=some r->jZ v r):aj prog (x44 (λ_=>none) f0 (λ_=>none)).call:=(by
 intro A fid args S dst k r h
 unfold x44 w_ at h
 simp only at h
 split at h
 ·exact au ((λv r x h hx=>by cases h)) rfl rfl h
 ·cases h)
theorem MK(f0:Tq5->Option ((DO)))(h0:∀v r,f0 v=some r->jZ v r)(v:Tag×Unit)(r:Tag×Unit)(h:exF (x44 (λ_=>none) f0 (λ_=>none)) lX rfl (aa Tryz.f44) v=some r):BX v r:=λx hx=>bk (X:=x44 (λ_=>none) f0 (λ_=>none)) (sig:=lX) rfl Tryz.func44 (c:=aa Tryz.f44) (by kernel_rfl) Tryz.ntmps44 (by kernel_rfl) (by kernel_rfl) rfl Ty.mixed (LR f0 h0) rfl (λC hP hN=>(aw (X:=x44 (λ_=>none) f0 (λ_=>none)) (c:=(aa Tryz.f44)) (an (by kernel_rfl:bw (ay C (x44 (λ_=>none) f0 (λ_=>none))) [(ae (aa Tryz.f44) 0)]=bw (ay C (x44 (λ_=>none) f0 (λ_=>none))) (ax (aa Tryz.f44))) ⟨bf (X:=x44 (λ_=>none) f0 (λ_=>none)) (b:=(ae (aa Tryz.f44) 0)) (by kernel_rfl) (show bC C (ae (aa Tryz.f44) 0) (sh:=JP) {cut:=vq,alts:=[.exit 0],F:=f0}fromλv out h=>h0 v out h C hP hN),trivial⟩))) h x hx
theorem y9:(∀v r,fF v=some r->jZ v r)/\(∀v r,n_44 v=some r->BX v r):=by
 refine fF.mutual_partial_correctness
  (motive_1:=jZ)
  (motive_2:=BX)
  ?_ ?_
 ·exact(λf0 f1 h0 h1 v r h=>I5 f0 f1 h0 h1 v r (an (by kernel_rfl) h))
 ·exact(λf0 h0 v r h=>MK f0 h0 v r (an (by kernel_rfl) h))
theorem Ib:bd prog 44 lX n_44:=λv r x h hx=>y9.2 v r h x hx
def NU:bc vw:={rcut:=K0}
def Mg:Nat->Bool:=λ_=>false
def IJ:Sig vw:={params:=[Dq3],rcut:=K0,rvars:=[.cell 2 25, .tmp 3]}
noncomputable def HU(v:Tag×Unit):Option (Int×Tag×Unit):=Cf v>>=λx1=>if(x1.1 !=(0:Int))=true then some ((x1.1,Tag.mk (0:Int) (0:Int) (Oo #[]) [] [],()))else n_44 v>>=λx2=>some (((0:Int),x2))
def F6:aB vw:=cP prog 33 zF Cf (cP prog 44 lX n_44 c0)
def x20:Xc vw:={P:=prog,n:=13,call:=F6,pre:=Mg,sh:=NU}
theorem AG:aj prog F6:=bE r6 rfl rfl (bE Ib rfl rfl ci)
theorem HV:bd prog 20 IJ HU:=λv r x h hx=>
 bk (X:=x20) (sig:=IJ) rfl Tryz.func20 (c:=aa Tryz.f20) (by kernel_rfl) Tryz.ntmps20 (by kernel_rfl) (by kernel_rfl) rfl Ty.mixed AG rfl (λC hP hN=>(aw (an (by kernel_rfl) trivial))) (an (by kernel_rfl) h) x hx
def sV:Cut SN:=⟨[(3, .vh 1003),(10,Dq6),(11,Dq1),(12,Dq1)],[(1003,Oq9)]⟩
def J0:Cut SN:=⟨[(3, .vh 1003)],[(1003,Oq9)]⟩
def MB:bc vw:={exits:=λid=>match id with|0=>J0|_=>⟨[],[]⟩,rcut:=ny}
def KD:Nat->Bool:=λ_=>false
def lY:Sig vw:={params:=[Dq3],rcut:=ny,rvars:=[.tmp 2]}
abbrev DI:=(List Tag)×Int×Int×(List ByteArray)×Unit
mutual
noncomputable def iw(v:DI):Option (((List ByteArray)×Unit)):=if decide (v.2.2.1<v.2.1)=true then if(0:Int)<=v.2.2.1 then v.1[v.2.2.1.toNat]?>>=λx1=>n_45 (x1,())>>=λx2=>if v.2.2.2.1.length+x2.1.length<=(4294967296:Nat)then iw (v.1,v.2.1,i64.wrap (v.2.2.1+(1:Int)),v.2.2.2.1++x2.1,())else none else none else some (v.2.2.2) partial_fixpoint
noncomputable def n_45(v:Tag×Unit):Option ((List ByteArray)×Unit):=cV (v.1.names,())>>=λx1=>iw (v.1.parts,(↑v.1.parts.length:Int),(0:Int),x1)>>=λx2=>some (x2) partial_fixpoint
end
def AR(iw:DI->Option (((List ByteArray)×Unit)))(n_45:Tag×Unit->Option ((List ByteArray)×Unit)):aB vw:=λA fid args S k=>match fid with|45=>bh prog lY n_45 A args S k|53=>bQ prog dO cV A args S k|_=>none
def x45(iw:DI->Option (((List ByteArray)×Unit)))(n_45:Tag×Unit->Option ((List ByteArray)×Unit)):Xc vw:={P:=prog,n:=22,call:=AR iw n_45,pre:=KD,sh:=MB,loops:=λk=>match k with|3=>some {cut:=sV,alts:=[.exit 0],F:=iw}|_=>none}
abbrev j4(v:DI)(r:((List ByteArray)×Unit)):Prop:=(λv out=>∀C:Ctx,C.P=prog->C.N=22/\Fx C KD->ea C (ae (aa Tryz.f45) 0) (Go.Tx.az vw (bi vw sV v)) (eL MB [.exit 0] out)) v r
abbrev BZ(v:Tag×Unit)(r:(List ByteArray)×Unit):Prop:=(λv r=>∀x,lS prog lY r=some x->c8 prog 45 (encL vw (aE lY v).len (bj lY v).1) (br (aE lY v).len (aE lY v).own) (ao vw (bi vw lY.rcut r).len x) (br (bi vw lY.rcut r).len (gY lY r))) v r
theorem Ha(f0:DI->Option (((List ByteArray)×Unit)))(f1:Tag×Unit->Option ((List ByteArray)×Unit))(h0:∀v r,f0 v=some r->j4 v r)(h1:∀v r,f1 v=some r->BZ v r):aj prog (x45 f0 f1).call:=(by
 intro A fid args S dst k r h
 unfold x45 AR at h
 simp only at h
 split at h
 ·exact au ((λv r x h hx=>h1 v r h x hx)) rfl rfl h
 ·exact aA (eH) h
 ·cases h)
theorem I6(f0:DI->Option (((List ByteArray)×Unit)))(f1:Tag×Unit->Option ((List ByteArray)×Unit))(h0:∀v r,f0 v=some r->j4 v r)(h1:∀v r,f1 v=some r->BZ v r)(v:DI)(r:((List ByteArray)×Unit))(h:exL (x45 f0 f1) (ae (aa Tryz.f45) 0) sV [.exit 0] f0 v=some r):j4 v r:=λC hP hN=>aI (X:=x45 f0 f1) (b:=(ae (aa Tryz.f45) 0)) hP hN Ty.mixed (Ha f0 f1 h0 h1) (aw (X:=x45 f0 f1) (c:=(ae (aa Tryz.f45) 0)) (an (by kernel_rfl:True=bw (ay C (x45 f0 f1)) (ax (ae (aa Tryz.f45) 0))) trivial)) (cut:=sV) (alts:=[.exit 0]) (F:=f0) (λv out h=>h0 v out h C hP hN) h
theorem LS(f0:DI->Option (((List ByteArray)×Unit)))(h0:∀v r,f0 v=some r->j4 v r):aj prog (x45 f0 (λ_=>none)).call:=(by
 intro A fid args S dst k r h
 unfold x45 AR at h
 simp only at h
 split at h
 ·exact au ((λv r x h hx=>by cases h)) rfl rfl h
 ·exact aA (eH) h
 ·cases h)
theorem ML(f0:DI->Option (((List ByteArray)×Unit)))(h0:∀v r,f0 v=some r->j4 v r)(v:Tag×Unit)(r:(List ByteArray)×Unit)(h:exF (x45 f0 (λ_=>none)) lY rfl (aa Tryz.f45) v=some r):BZ v r:=λx hx=>bk (X:=x45 f0 (λ_=>none)) (sig:=lY) rfl Tryz.func45 (c:=aa Tryz.f45) (by kernel_rfl) Tryz.ntmps45 (by kernel_rfl) (by kernel_rfl) rfl Ty.mixed (LS f0 h0) rfl (λC hP hN=>(aw (X:=x45 f0 (λ_=>none)) (c:=(aa Tryz.f45)) (an (by kernel_rfl:bw (ay C (x45 f0 (λ_=>none))) [(ae (aa Tryz.f45) 0)]=bw (ay C (x45 f0 (λ_=>none))) (ax (aa Tryz.f45))) ⟨bf (X:=x45 f0 (λ_=>none)) (b:=(ae (aa Tryz.f45) 0)) (by kernel_rfl) (show bC C (ae (aa Tryz.f45) 0) (sh:=MB) {cut:=sV,alts:=[.exit 0],F:=f0}fromλv out h=>h0 v out h C hP hN),trivial⟩))) h x hx
theorem y_:(∀v r,iw v=some r->j4 v r)/\(∀v r,n_45 v=some r->BZ v r):=by
 refine iw.mutual_partial_correctness
  (motive_1:=j4)
  (motive_2:=BZ)
  ?_ ?_
 ·exact(λf0 f1 h0 h1 v r h=>I6 f0 f1 h0 h1 v r (an (by kernel_rfl) h))
 ·exact(λf0 h0 v r h=>ML f0 h0 v r (an (by kernel_rfl) h))
theorem Ic:bd prog 45 lY n_45:=λv r x h hx=>y_.2 v r h x hx
end Go.Proofs.YtpndmanbfleadaaGreatDoor
end
