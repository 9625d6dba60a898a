/-
  Texts of this claim, joined by a program of mine: what the theorem uses.
-/
import Derived.Test.YtcghbgmmgcljkaaGreatDoorPkE
import Derived.KernelRfl
import Derived.Test.YtcghbgmmgcljkaaGreatDoorPkC
import Derived.WalkKit
import Derived.ProofKit
import Derived.OpenShut
import Derived.Test.YtcghbgmmgcljkaaGreatDoorRows
import Derived.Lib.LaidIn
import Derived.Lib.LaidU8T
import Derived.MakeChecks
import Derived.Test.YtcghbgmmgcljkaaGreatDoorProg
import Derived.Test.YtcghbgmmgcljkaaGreatDoorPkA
import Derived.Shelf.Strings.Builder1
import Derived.Defers
open Array renaming getElem?_eq_getElem→QC,length_toList→RB
open Bool renaming and_eq_true→Qk,or_eq_false_iff→Ro,or_eq_true→QX,true_and→RU
open Int renaming emod_emod_of_dvd→Tq,emod_eq_of_lt→SA,emod_nonneg→SG,natCast_dvd_natCast→Sy,toNat_natCast→Qs,toNat_of_nonneg→SJ
open List renaming all_eq_true→Qq,any_eq_true→Rs,append_assoc→Rt,append_eq_nil_iff→Sk,append_nil→RO,drop_drop→Ry,drop_zero→QV,eq_nil_of_length_eq_zero→QE,filterMap_cons→R5,filter_cons→S9,getElem?_append_left→Qv,getElem?_append_right→Qx,getElem?_eq_getElem→Qi,getElem?_eq_some_iff→Qf,getElem?_map→Qh,getElem?_range→Ru,getElem?_take→Qz,getElem_of_mem→Sr,length_map→Qg,map→RM,map_append→QU,map_cons→Qp,map_map→QJ,map_nil→QW,mem_append→Q0,mem_append_left→Rz,mem_append_right→RY,mem_cons→Qu,mem_cons_of_mem→Qm,mem_cons_self→Qo,mem_filter→Te,mem_filterMap→RE,mem_map→QD,mem_map_of_mem→QN,mem_of_getElem?→Qn,take_of_length_le→QP
open List.cons renaming injEq→Re
open Nat renaming beq→QZ,beq_refl→R7,ble→Se,blt→RD,blt_eq→RN,eq_of_beq_eq_true→QT,le_of_eq→TF,le_refl→QF,mod_lt→Sq,mul_le_mul_right→Qw,pow_dvd_pow→Td,pow_le_pow_right→R1,strongRecOn→Tc,succ_mul→QM,zero_add→Qy
open Ne renaming symm→Rf
open Option renaming bind_eq_some_iff→RF,bind_some→Qe,isSome_iff_exists→Su,map_eq_some_iff→Qr,map_some→QG
open Option.some renaming inj→Rc,injEq→Qd
open Prod.mk renaming injEq→QI
noncomputable section
set_option linter.unusedSectionVars false
set_option linter.unusedSimpArgs false
set_option linter.unusedVariables false
section
namespace Go.Tx
open Go.Awp
variable [Inhabited GMem]
section
variable {V:gW}
mutual
def TV.plain:TV V.N->Bool
 | .lf .. =>true
 | .raw _=>true
 | .rp .. =>true
 | .junk=>true
 | .agg cs=>TV.plainL cs
 | .tup vs=>TV.plainL vs
 | .fn _ a b=>TV.plainL a&&TV.plainL b
 |_=>false
def TV.plainL:List (TV V.N)->Bool
 |[]=>true
 |x::r=>TV.plain x&&TV.plainL r
end
mutual
theorem plain_has:∀{x:TV V.N},TV.plain x=true->∀n,TV.has n x=false
 | .lf ..,_,n=>by simp[TV.has]
 | .raw _,_,n=>by simp[TV.has]
 | .rp ..,_,n=>by simp[TV.has]
 | .junk,_,n=>by simp[TV.has]
 | .agg cs,h,n=>by simp only[TV.plain]at h;simp only[TV.has];exact plainL_has h n
 | .tup cs,h,n=>by simp only[TV.plain]at h;simp only[TV.has];exact plainL_has h n
 | .fn f a b,h,n=>by
  simp only[TV.plain,Qk]at h
  simp only[TV.has,plainL_has h.1 n,plainL_has h.2 n];rfl
 | .bp ..,h,n=>by simp[TV.plain]at h
 | .vh ..,h,n=>by simp[TV.plain]at h
 | .ep ..,h,n=>by simp[TV.plain]at h
 | .sv ..,h,n=>by simp[TV.plain]at h
 | .mp ..,h,n=>by simp[TV.plain]at h
 | .np ..,h,n=>by simp[TV.plain]at h
 | .sd ..,h,n=>by simp[TV.plain]at h
 | .ai ..,h,n=>by simp[TV.plain]at h
theorem plainL_has:∀{l:List (TV V.N)},TV.plainL l=true->∀n,TV.hasL n l=false
 |[],_,n=>by simp[TV.hasL]
 |x::r,h,n=>by
  simp only[TV.plainL,Qk]at h
  simp only[TV.hasL,plain_has h.1 n,plainL_has h.2 n];rfl
end
theorem sM{x:TV V.N}(h:TV.plain x=true)(ω ω':Nat->Nat):aK V ω' x=aK V ω x:=iA x λn hn=>by rw[plain_has h n]at hn;cases hn
def Ty.flat{ι:Type}:Ty ι->Bool
 | .int _=>true
 | .bool=>true
 | .str=>true
 |_=>false
def gD:TV V.N->Bool
 | .lf t x=>(bC V t x).all λl=>l.t.flat
 |_=>false
def g_:TV V.N->Bool
 | .tup vs=>vs.all gD
 |x=>gD x
theorem tZ{x:TV V.N}(h:gD x=true):TV.plain x=true:=by
 cases x<;>first|rfl|(simp[gD]at h;done)
theorem xe{x:TV V.N}(h:g_ x=true):TV.plain x=true:=by
 cases x with
 |tup vs=>
  simp only[g_,Qq]at h
  simp only[TV.plain]
  have:∀l:List (TV V.N),(∀x∈l,gD x=true)->TV.plainL l=true:=by
   intro l
   induction l with
   |nil=>intro _;rfl
   |cons y r ih=>intro h;simp only[TV.plainL,Qk];exact⟨tZ (h y Qo),ih λx hx=>h x (Qm _ hx)⟩
  exact this vs h
 |lf t x=>rfl
 |raw _=>rfl
 |rp a b c=>rfl
 |junk=>rfl
 |agg cs=>simp[g_,gD]at h
 |fn f a b=>simp[g_,gD]at h
 |bp a b=>simp[g_,gD]at h
 |vh a=>simp[g_,gD]at h
 |ep a b c d=>simp[g_,gD]at h
 |sv a b c d=>simp[g_,gD]at h
 |mp a=>simp[g_,gD]at h
 |np a b=>simp[g_,gD]at h
 |sd a=>simp[g_,gD]at h
 |ai a b c d=>simp[g_,gD]at h
theorem gZ{l:dB V.N}(h:l.t.flat=true){M M':Mem}{v:Value}(hv:cS M v (aY V.sz V.enc l.t l.x)):cS M' v (aY V.sz V.enc l.t l.x):=by
 obtain⟨t,x⟩:=l
 cases t with
 |int k=>simp only[aY]at hv⊢;cases hv;exact .v _
 |bool=>simp only[aY]at hv⊢;cases hv;exact .v _
 |str=>simp only[aY]at hv⊢;cases hv;exact .v _
 |st i=>simp[Ty.flat]at h
 |sl e=>simp[Ty.flat]at h
 |mp k v=>simp[Ty.flat]at h
 |er=>simp[Ty.flat]at h
 |op e=>simp[Ty.flat]at h
 |fnc=>simp[Ty.flat]at h
 |fno=>simp[Ty.flat]at h
 |ar n e=>simp[Ty.flat]at h
theorem rS{x:TV V.N}(h:gD x=true){ω:Nat->Nat}{E E':Env}{M M':Mem}{v:Value}(hv:bF E M v (aK V ω x)):bF E' M' v (aK V ω x):=by
 cases x with
 |lf t x=>
  simp only[gD,Qq]at h
  simp only[aK]at hv⊢
  cases hv with
  |d hd=>
   refine .d ?_
   cases t with
   |st i=>
    simp only[aY]at hd⊢
    rw[V.enc_cells]at hd⊢
    cases hd with
    |agg cs _ hl hh=>
     refine .agg cs _ hl λk c y hc hy=> ?_
     rw[Qh]at hy
     cases hq:(V.cells i x)[k]? with
     |none=>rw[hq]at hy;cases hy
     |some l=>
      rw[hq]at hy;simp at hy;subst hy
      exact gZ (h l (Qn hq)) (hh k c _ hc (by rw[Qh,hq];rfl))
   |int k=>exact gZ (l:=⟨.int k,x⟩) rfl hd
   |bool=>exact gZ (l:=⟨.bool,x⟩) rfl hd
   |str=>exact gZ (l:=⟨.str,x⟩) rfl hd
   |sl e=>simp[bC,Ty.flat]at h
   |mp k v=>simp[bC,Ty.flat]at h
   |er=>simp[bC,Ty.flat]at h
   |op e=>simp[bC,Ty.flat]at h
   |fnc=>simp[bC,Ty.flat]at h
   |fno=>simp[bC,Ty.flat]at h
   |ar n e=>
    simp only[aY]at hd⊢
    rw[cN]at hd⊢
    cases hd with
    |agg cs _ hl hh=>
     refine .agg cs _ hl λk c y hc hy=> ?_
     rw[Qh]at hy
     cases hq:(bC V (.ar n e) x)[k]? with
     |none=>rw[hq]at hy;cases hy
     |some l=>
      rw[hq]at hy;simp at hy;subst hy
      exact gZ (h l (Qn hq)) (hh k c _ hc (by rw[Qh,hq];rfl))
 |_=>simp[gD]at h
theorem C9{x:TV V.N}(h:g_ x=true){ω:Nat->Nat}{E E':Env}{M M':Mem}{v:Value}(hv:bF E M v (aK V ω x)):bF E' M' v (aK V ω x):=by
 cases x with
 |tup vs=>
  simp only[g_,Qq]at h
  simp only[aK]at hv⊢
  obtain⟨cs,rfl,h1,h2⟩:=hv.htup
  refine .tup cs _ h1 λi c y hc hy=> ?_
  rw[aO,Qh]at hy
  cases hq:vs[i]? with
  |none=>rw[hq]at hy;cases hy
  |some u=>
   rw[hq]at hy;simp at hy;subst hy
   exact rS (h u (Qn hq)) (h2 i c _ hc (by rw[aO,Qh,hq];rfl))
 |lf t x=>exact rS (x:= .lf t x) (by simpa[g_]using h) hv
 |_=>simp[g_,gD]at h
def cT(own:List (Nat×Own))(a a0:H):Prop:=∀(E:Env) (M:Mem) (w:World) (v:Value),M.le (fN w)->G5 E M w own->bF E M v a->bF E (fN w) v a0
theorem cT.le{own:List (Nat×Own)}{a a0:H}(h:H.le a a0):cT own a a0:=λE M w v hM _ hv=>(h E M v hv).le hM
theorem cT.agg{own:List (Nat×Own)}{l l0:List H}(hl:l0.length=l.length)(h:∀(i:Nat) (a a0:H),l[i]?=some a->l0[i]?=some a0->cT own a a0):cT own (.agg l) (.agg l0):=λE M w v hM ho hv=>by
 obtain⟨cs,rfl,h1,h2⟩:=hv.hagg
 refine .agg cs l0 (by omega) λi c x hc hx=> ?_
 have hi:i<l.length:=by rw[<-hl];exact(Qf.1 hx).1
 exact h i _ x (Qi hi) hx E M w c hM ho (h2 i c _ hc (Qi hi))
theorem cT.vh{own:List (Nat×Own)}{n e sz:Nat}{rows:List (List D)}(h1:gt own n=some (.vec e sz rows)):cT own (.vh n rows.length) (.d (.sl sz rows)):=λE M w v hM ho hca=>by
 obtain⟨xs,g1,g2,g3,g4⟩:=ho.ok n _ h1
 refine .d ?_
 cases hca with
 |vh n len l cc a hE hle=>
  rcases g1.2 with⟨hnil,hz⟩|⟨g,cap,cur,hE',hbg,hg,hnc,hcm,hcs,htake⟩
  ·rw[hE]at hnil
   simp only[Value.slice.injEq]at hnil
   obtain⟨rfl,rfl,rfl⟩:=hnil
   have:rows=[]:=QE hz
   subst this
   exact .slnil sz
  ·rw[hE]at hE'
   simp only[Value.slice.injEq]at hE'
   obtain⟨rfl,rfl,rfl⟩:=hE'
   refine .sl g 0 _ _ sz rows (λk=>xs.getD k undef) rfl hnc g2 (λk hk=> ?_) λi j r x hr' hx=> ?_
   ·have hxk:k<xs.length:=by rw[g1.1];exact hk
    obtain⟨u,hu⟩:∃u,xs[k]?=some u:=⟨_,Qi hxk⟩
    have hq:w.cell? ⟨g,k,none⟩=some u:=by
     rw[cell_of_row w g k cur e (0,0) hg]
     have hu':=hu
     rw[<-htake,Qz,TP hk]at hu'
     simpa using hu'
    simp[fN,hq,hu]
   ·have hlr:=g2 r (Qn hr')
    have hir:i<rows.length:=(Qf.1 hr').1
    have hj:j<sz:=by have:=(Qf.1 hx).1;omega
    have hmul:(i+1) *sz<=rows.length *sz:=Qw _ hir
    rw[QM]at hmul
    have hxk:i *sz+j<xs.length:=by rw[g1.1];omega
    have:=g3 i j r xs[i *sz+j] x hr' hx (Qi hxk)
    have hg':xs.getD (i *sz+j) undef=xs[i *sz+j]:=by simp[hxk]
    rw[hg']
    exact this.mono hM
theorem cT.dvh{own:List (Nat×Own)}{n e sz:Nat}{rows:List (List DD)}{ds:List (List D)}(h1:gt own n=some (.dvec e sz rows))(hd:DD.toR rows=some ds):cT own (.vh n rows.length) (.d (.sl sz ds)):=λE M w v hM ho hca=>by
 have hok:=ho.ok n _ h1
 obtain⟨ad,cap,hE⟩:=hok.dlen
 have hv:=gr hca hE
 subst hv
 obtain⟨B,g1,g2,g3⟩:=hok
 exact .d (g1.frozen hM (λb _ o v hv=>hv) (xs:=[.sl sz ds]) (by simp[DD.toL,DD.toD,hd]) 0 _ _ rfl rfl)
def sa:TO V.N->Option (dB V.N)
 | .vec _ e xs=>some ⟨.sl e,xs⟩
 | .dvec _ e ys=>some ⟨.sl e,ys⟩
 |_=>none
theorem jI{o:TO V.N}{l0:dB V.N}(h:sa o=some l0):∃x:Own,(∀ω,bS V ω o=some x)/\∀(own:List (Nat×Own)) (n:Nat),gt own n=some x->cT own (.vh n (TO.len (some o))) (.d (aY V.sz V.enc l0.t l0.x)):=by
 unfold sa at h
 split at h
 ·rename_i te e xs
  cases h
  refine⟨_,λω=>rfl,λown n hn=> ?_⟩
  have:=cT.vh hn
  rw[Qg]at this
  exact this
 ·rename_i te e ys
  cases h
  refine⟨_,λω=>rfl,λown n hn=> ?_⟩
  have:=cT.dvh hn (qX ys)
  rw[Qg]at this
  simpa[TO.len,aY]using this
 ·cases h
theorem Ow{P:Program}{f:FuncId}{args0 args:List H}{r:H}{own:List (Nat×Own)}(h:lS P f args0 [] r [])(hl:args.length=args0.length)
 (ha:∀(i:Nat) (a a0:H),args[i]?=some a->args0[i]?=some a0->cT own a a0)
 (hr:∀(E E':Env) (M M':Mem) (v:Value),bF E M v r->bF E' M' v r):FV P f args own r own:=by
 refine⟨h.1,λE M w vs hgm hm ho hvs=> ?_⟩
 have hM:M.le (fN w):=λb o v hv=>hm b o v hv
 have hrep:f7 E (fN w) vs args0:=by
  refine⟨hvs.1.trans hl,λi c x hc hx=> ?_⟩
  have hi:i<args.length:=by rw[hl];exact(Qf.1 hx).1
  have hca:=hvs.2 i c _ hc (Qi hi)
  exact ha i _ x (Qi hi) hx E M w c hM ho hca
 refine(h.2 E (fN w) w vs (hgm.mono hM λ_ _ _=>rfl) (λb o v hv=>hv) ⟨λn o hn=>by simp[gt]at hn,λn m o o' b _ hn=>by simp[gt]at hn⟩ hrep).mono ?_
 rintro e w' ⟨v,E',M',rfl,hp⟩
 have hfr:∀b,b<w.heap.size->w'.heap[b]?=w.heap[b]?:=λb hb=>hp.frame b hb λ⟨n,o,hn,_⟩=>by simp[gt]at hn
 have hft:∀n o,gt own n=some o->∀b,o.foot w' (E n) b->o.foot w (E n) b:=λn o hn b hb=>((ho.ok n o hn).foot_keep (λb hb=>hfr b ((ho.ok n o hn).block hb).1) b).1 hb
 refine⟨v,E,M,rfl,{rep:=hr _ _ _ _ _ hp.rep,owns:=⟨λn o hn=> ?_,λn m o o' b hne hn hm hb hb'=>ho.apart n m o o' b hne hn hm (hft n o hn b hb) (hft m o' hm b hb')⟩,mle:=Mem.le_refl _,mem:=λb o v hv=>hp.mem b o v (hp.mle b o v (hm b o v hv)),mnew:=λb o v hv=> .inl hv,home:=λn o b hn hb=> .inl ⟨n,o,hn,hft n o hn b hb⟩,frame:=λk hk _=>hfr k hk,grows:=hp.grows,os:=hp.os,tape:=hp.tape,output:=hp.output,env:=λ_ _=>rfl},λ_ _=>rfl⟩
 have hok:=ho.ok n o hn
 refine hok.keep rfl (λb hb=>hfr b (hok.block hb).1) (λ_ _=>rfl) (Mem.le_refl _) λb hb=>(hok.block hb).2
def F3(S:TS V.N):List (Ty V.ι)->List (TV V.N)->Option (List (Nat×TO V.N)×List (dB V.N))
 |[],[]=>some ([],[])
 | .sl _::ts, .vh n::xs=>match S.own? n with
  |some o=>match sa o with
   |some l0=>match F3 S ts xs with
    |some (l,ls)=>some ((n,o)::l,l0::ls)
    |none=>none
   |none=>none
  |_=>none
 |t::ts,x::xs=>match kN V false t x with
  |some l0=>match F3 S ts xs with
   |some (l,ls)=>some (l,l0::ls)
   |none=>none
  |none=>none
 |_,_=>none
def Ka:List (TV V.N)->Bool
 |[]=>false
 | .vh _::_=>true
 |_::r=>Ka r
def LB(S:TS V.N):Pt V.ι->TV V.N->Option (List (Nat×TO V.N)×List (dB V.N))
 | .dat (.sl e), .vh n=>match S.own? n with
  |some o=>match sa o with
   |some l0=>if l0.t= .sl e then some ([(n,o)],[l0])else none
   |none=>none
  |_=>none
 | .dat (.st i), .agg vs=>match Ka vs with
  |true=>match F3 S (V.tys i) vs with
   |some (p::l,ls)=>match V.ofCells i ls with
    |some y=>some (p::l,[⟨.st i,y⟩])
    |none=>none
   |_=>none
  |false=>match mt1 V [] (.dat (.st i)) (.agg vs)with
   |some (_,ls)=>some ([],ls)
   |none=>none
 | .dat t,x=>match mt1 V [] (.dat t) x with
  |some (_,ls)=>some ([],ls)
  |none=>none
 | .fn f [] [], .fn f' [] []=>if f=f' then some ([],[])else none
 |_,_=>none
def tI(S:TS V.N):List (Pt V.ι)->List (TV V.N)->Option (List (Nat×TO V.N)×List (dB V.N))
 |[],[]=>some ([],[])
 |p::ps,x::xs=>match LB S p x with
  |some (l,ls)=>match tI S ps xs with
   |some (l',ls')=>some (l++l',ls++ls')
   |none=>none
  |none=>none
 |_,_=>none
def cG(P:Program)(sig:Sig V)(F:HL V.N sig.tys->Option (HL V.N sig.rcut.tys))(A:Type)(args:List (TV V.N))(S:TS V.N)(k:TE V.N->Option A):Option A:=
 match tI S sig.params args with
 |some (lent,ls)=>match GO sig.tys ls with
  |some v=>F v>>=λr=>match Gy P sig r with
   |some x=>match lent with
    |[]=>match TV.plain x with
     |true=>k {val:=x}
     |false=>none
    |p::l=>match g_ x with
     |true=>k {val:=x,acc:=(p::l).map (·.1),upd:=(p::l)++(p::l).map λq=>(q.1, .gone (TO.len (some q.2)))}
     |false=>none
   |none=>none
  |none=>none
 |none=>none
theorem AA{σ σ':da}{t:Ty V.ι}{x:TV V.N}{ls:List (dB V.N)}(h:mt1 V σ (.dat t) x=some (σ',ls)):σ'=σ:=by
 cases x with
 |lf t' y=>
  simp only[mt1]at h
  have:=(aF h).2
  simp only[Qd,QI]at this
  exact this.1.symm
 |raw v=>
  unfold mt1 at h
  split at h<;>first
   |(simp only[Qd,QI]at h;exact h.1.symm)
   |(cases h;done)
   |contradiction
 |agg cs=>
  unfold mt1 at h
  split at h<;>first
   |(split at h
     ·simp only[Qd,QI]at h;exact h.1.symm
     ·cases h)
   |(cases h;done)
   |contradiction
 |_=>simp[mt1]at h
theorem cT.pre{own:List (Nat×Own)}{a b c:H}(h:H.le a b)(k:cT own b c):cT own a c:=λE M w v hM ho hv=>k E M w v hM ho (h E M v hv)
theorem cT.post{own:List (Nat×Own)}{a b c:H}(h:cT own a b)(k:H.le b c):cT own a c:=λE M w v hM ho hv=>k E _ v (h E M w v hM ho hv)
def GX(own:List (Nat×Own))(l:List (Nat×TO V.N)):Prop:=∀n o,(n,o)∈l->∀x,(∀ω,bS V ω o=some x)->gt own n=some x
theorem ka{S:TS V.N}:∀{ts:List (Ty V.ι)} {xs:List (TV V.N)} {l:List (Nat×TO V.N)} {ls:List (dB V.N)},F3 S ts xs=some (l,ls)->
 xs.length=ls.length/\(∀n o,(n,o)∈l->S.own? n=some o/\∃l0,sa o=some l0)/\
  ∀own:List (Nat×Own),GX own l->∀(i:Nat) (x:TV V.N) (l0:dB V.N),xs[i]?=some x->ls[i]?=some l0->cT own (aK V S.len x) (.d (aY V.sz V.enc l0.t l0.x))
 |[],[],l,ls,h=>by
  simp[F3]at h;obtain⟨rfl,rfl⟩:=h
  exact⟨rfl,λn o hm=>by simp at hm,λown _ i x l0 hx=>by simp at hx⟩
 |[],_::_,l,ls,h=>by simp[F3]at h
 |_::_,[],l,ls,h=>by unfold F3 at h;split at h<;>first|(cases h;done)|contradiction
 |t::ts,x::xs,l,ls,h=>by
  unfold F3 at h
  split at h
  ·rename_i heq _;cases heq
  ·rename_i e ts' n xs' heq1 heq2
   simp only[Re]at heq1 heq2
   obtain⟨rfl,rfl⟩:=heq1
   obtain⟨rfl,rfl⟩:=heq2
   split at h
   ·rename_i o hn
    split at h
    ·rename_i l00 hl0
     split at h
     ·rename_i l' ls' h2
      simp at h;obtain⟨rfl,rfl⟩:=h
      obtain⟨b1,b2,b3⟩:=ka h2
      refine⟨by simp[b1],λm o hm=> ?_,λown hown i y l0 hy hl=> ?_⟩
      ·rcases Qu.1 hm with he|hm
       ·simp only[QI]at he
        obtain⟨rfl,rfl⟩:=he
        exact⟨hn,_,hl0⟩
       ·exact b2 m o hm
      ·cases i with
       |zero=>
        simp at hy hl;subst hy;subst hl
        obtain⟨x,x1,x2⟩:=jI hl0
        have:=x2 own n (hown n o Qo x x1)
        simp only[aK]
        unfold TS.len
        rw[hn];exact this
       |succ i=>exact b3 own (λm a hm=>hown m a (Qm _ hm)) i y l0 (by simpa using hy) (by simpa using hl)
     ·cases h
    ·cases h
   ·cases h
  ·rename_i t' ts' x' xs' _ heq1 heq2
   simp only[Re]at heq1 heq2
   obtain⟨rfl,rfl⟩:=heq1
   obtain⟨rfl,rfl⟩:=heq2
   split at h
   ·rename_i l0 hl
    split at h
    ·rename_i l' ls' h2
     simp at h;obtain⟨rfl,rfl⟩:=h
     obtain⟨b1,b2,b3⟩:=ka h2
     refine⟨by simp[b1],b2,λown hown i y l1 hy hl1=> ?_⟩
     cases i with
     |zero=>
      simp at hy hl1;subst hy;subst hl1
      have hls:de V false [t] [x]=some [l0]:=by simp[de,hl]
      obtain⟨ds,e1,e2,_⟩:=cW (ω:=S.len) hls
      simp only[encL]at e1
      obtain⟨d,hd⟩:∃d,ds=[d]:=by
       match ds,e1 with
       |[d],_=>exact⟨d,rfl⟩
       |[],e1=>simp at e1
       |_::_::_,e1=>simp at e1
      subst hd
      simp only[Qp,QW,Re,and_true]at e1
      rw[e1]
      obtain⟨d0,g1,g2⟩:=e2.get 0 (aY V.sz V.enc l0.t l0.x) rfl
      simp at g1;subst g1
      refine cT.le λE M a hr=> ?_
      cases hr with
      |d q=>exact .d (g2 M a q)
     |succ i=>exact b3 own hown i y l1 (by simpa using hy) (by simpa using hl1)
    ·cases h
   ·cases h
  ·cases h
theorem wL{S:TS V.N}{p:Pt V.ι}{x:TV V.N}{l:List (Nat×TO V.N)}{ls:List (dB V.N)}(h:LB S p x=some (l,ls)):
 (∃x0,(∀rest,bd1 V p (ls++rest)=some (x0,rest))/\∀ω0:Nat->Nat,(l=[]->H.le (aK V S.len x) (aK V ω0 x0))/\∀own,GX own l->cT own (aK V S.len x) (aK V ω0 x0))/\
   ∀n o,(n,o)∈l->S.own? n=some o/\∃l0,sa o=some l0:=by
 unfold LB at h
 split at h
 ·rename_i e n
  split at h
  ·rename_i o hn
   split at h
   ·rename_i l0 hl0
    have h':=aF h;clear h
    obtain⟨he,h⟩:=h'
    simp at h;obtain⟨rfl,rfl⟩:=h
    refine⟨⟨.lf l0.t l0.x,λrest=>rfl,λω0=>⟨λhl=>by simp at hl,λown hown=> ?_⟩⟩,λm o' hm=> ?_⟩
    ·obtain⟨x,x1,x2⟩:=jI hl0
     have:=x2 own n (hown n o Qo x x1)
     simp only[aK]
     unfold TS.len
     rw[hn];exact this
    ·simp at hm
     obtain⟨rfl,rfl⟩:=hm
     exact⟨hn,l0,hl0⟩
   ·cases h
  ·cases h
 ·rename_i i vs
  split at h
  ·split at h
   ·rename_i p0 l0 ls0 hC
    split at h
    ·rename_i y hy
     simp at h;obtain⟨rfl,rfl⟩:=h
     obtain⟨b1,b2,b3⟩:=ka hC
     refine⟨⟨.lf (.st i) y,λrest=>rfl,λω0=>⟨λhl=>by simp at hl,λown hown=> ?_⟩⟩,b2⟩
     have hc:=V.of_cells i ls0 y hy
     simp only[aK,aY]
     refine cT.pre (jK _) (cT.post (cT.agg (l0:=ls0.map λl=> .d (aY V.sz V.enc l.t l.x)) (by rw[Qg,a_];exact b1.symm) λi a a0 ha ha0=> ?_) ?_)
     ·rw[aO,Qh,Qr]at ha
      rw[Qh,Qr]at ha0
      obtain⟨u,hu,rfl⟩:=ha
      obtain⟨l1,hl1,rfl⟩:=ha0
      exact b3 own hown i u l1 hu hl1
     ·have e1:V.enc i y=ls0.map λl=>aY V.sz V.enc l.t l.x:=by rw[V.enc_cells,hc]
      have:=qH ((ls0.map λl=>aY V.sz V.enc l.t l.x).map H.d)
      rw[cq,dH]at this
      rw[e1]
      rw[QJ]at this
      exact this
    ·cases h
   ·cases h
  ·split at h
   ·rename_i σ ls' h1
    simp at h;obtain⟨rfl,rfl⟩:=h
    obtain⟨_,_,_,x0,a1,a2⟩:=nF h1
    have hσ:=AA h1
    subst hσ
    have hle:∀ω0:Nat->Nat,H.le (aK V S.len (.agg vs)) (aK V ω0 x0):=λω0 E M v hv=>a2 [] [] E E M S.len ω0 v (Sub.refl _) rfl ⟨λc n hc=>by simp[gt]at hc,λc n hc=>by simp at hc⟩ hv
    exact⟨⟨x0,a1,λω0=>⟨λ_=>hle ω0,λown _=>cT.le (hle ω0)⟩⟩,λn o hm=>by simp at hm⟩
   ·cases h
 ·rename_i t x' hne hne2
  split at h
  ·rename_i σ ls' h1
   simp at h;obtain⟨rfl,rfl⟩:=h
   obtain⟨_,_,_,x0,a1,a2⟩:=nF h1
   have hσ:=AA h1
   subst hσ
   have hle:∀ω0:Nat->Nat,H.le (aK V S.len x) (aK V ω0 x0):=λω0 E M v hv=>a2 [] [] E E M S.len ω0 v (Sub.refl _) rfl ⟨λc n hc=>by simp[gt]at hc,λc n hc=>by simp at hc⟩ hv
   exact⟨⟨x0,a1,λω0=>⟨λ_=>hle ω0,λown _=>cT.le (hle ω0)⟩⟩,λn o hm=>by simp at hm⟩
  ·cases h
 ·rename_i f f'
  have h':=aF h;clear h
  obtain⟨he,h⟩:=h'
  subst he
  simp at h;obtain⟨rfl,rfl⟩:=h
  have hle:∀ω0:Nat->Nat,H.le (aK V S.len (.fn f [] [])) (aK V ω0 (.fn f [] []:TV V.N)):=λω0=>by simp only[aK,encL];exact H.le.refl _
  exact⟨⟨.fn f [] [],λrest=>rfl,λω0=>⟨λ_=>hle ω0,λown _=>cT.le (hle ω0)⟩⟩,λn o hm=>by simp at hm⟩
 ·cases h
theorem mw{S:TS V.N}:∀{ps:List (Pt V.ι)} {xs:List (TV V.N)} {l:List (Nat×TO V.N)} {ls:List (dB V.N)},tI S ps xs=some (l,ls)->
 ∃xs0:List (TV V.N),xs0.length=xs.length/\(∀rest,bdL V ps (ls++rest)=some (xs0,rest))/\(∀(i:Nat) (x x0:TV V.N),xs[i]?=some x->xs0[i]?=some x0->
  ∀ω0:Nat->Nat,(l=[]->H.le (aK V S.len x) (aK V ω0 x0))/\∀own,GX own l->cT own (aK V S.len x) (aK V ω0 x0))/\
  ∀n o,(n,o)∈l->S.own? n=some o/\∃l0,sa o=some l0
 |[],[],l,ls,h=>by
  simp[tI]at h;obtain⟨rfl,rfl⟩:=h
  exact⟨[],rfl,λrest=>rfl,λi x x0 hx=>by simp at hx,λn o hm=>by simp at hm⟩
 |[],_::_,l,ls,h=>by simp[tI]at h
 |_::_,[],l,ls,h=>by simp[tI]at h
 |p::ps,x::xs,l,ls,h=>by
  simp only[tI]at h
  split at h
  ·rename_i l1 ls1 h1
   split at h
   ·rename_i l2 ls2 h2
    simp at h;obtain⟨rfl,rfl⟩:=h
    obtain⟨⟨x0,a1,a2⟩,a3⟩:=wL h1
    obtain⟨xs0,b1,b2,b3,b4⟩:=mw h2
    refine⟨x0::xs0,by simp[b1],λrest=>by simp only[bdL,Rt,a1,b2],λi y y0 hy hy0 ω0=> ?_,λn o hm=> ?_⟩
    ·cases i with
     |zero=>
      simp at hy hy0;subst hy;subst hy0
      exact⟨λhl=>(a2 ω0).1 (Sk.1 hl).1,λown hown=>(a2 ω0).2 own λm a hm=>hown m a (Rz _ hm)⟩
     |succ i=>
      have:=b3 i y y0 (by simpa using hy) (by simpa using hy0) ω0
      exact⟨λhl=>this.1 (Sk.1 hl).2,λown hown=>this.2 own λm a hm=>hown m a (RY _ hm)⟩
    ·rcases Q0.1 hm with hm|hm
     ·exact a3 n o hm
     ·exact b4 n o hm
   ·cases h
  ·cases h
theorem lA{own:List (Nat×Own)}:∀{l:List (Nat×Own)},(∀p∈l,∃o,gt own p.1=some o)->eJ own l=[]
 |[],_=>rfl
 |(n,o)::r,h=>by
  obtain⟨o',ho⟩:=h (n,o) Qo
  simp only at ho
  simp only[eJ,ho]
  exact lA λp hp=>h p (Qm _ hp)
theorem bM{P:Program}{fid:Nat}{sig:Sig V}{F:HL V.N sig.tys->Option (HL V.N sig.rcut.tys)}(hF:aT P fid sig F)(ho:sig.objs=[])(hk0:sig.keep=[]){A:Type}{args:List (TV V.N)}{S:TS V.N}{dst:Option Tmp}
 {k:TE V.N->Option A}{r:A}(h:cG P sig F A args S k=some r):
 ∃te,k te=some r/\good S te/\tA P fid (encL V S.len args) (aV V S).own? λe'=>ELe true e' (f6 (S.app dst te).len te):=by
 unfold cG at h
 split at h
 ·rename_i lent ls hargs
  split at h
  ·rename_i v hv
   obtain⟨y,hy,h⟩:=bT h
   split at h
   ·rename_i x hx
    have hc:=hF v y x hy hx
    have hkept:qy sig y=[]:=by
     unfold qy
     rw[hk0,List.filter_eq_nil_iff]
     intro p _;simp
    rw[hkept]at hc
    obtain⟨xs0,b1,b2,b3,b4⟩:=mw hargs
    have hls:=ri hv
    have hst:ek sig v=(xs0,[]):=by
     unfold ek
     rw[hls]
     have:=b2 []
     rw[RO]at this
     rw[this,ho]
     rfl
    have hown0:(cX sig v).own=[]:=by unfold cX;rw[hst]
    rw[hst,hown0]at hc
    simp only[fj,List.filterMap_nil]at hc
    generalize (cX sig v).len=ω0 at hc
    cases lent with
    |nil=>
     simp only at h
     split at h
     ·rename_i hpl
      refine⟨_,h,iE S x [],?_⟩
      have hw:=hc.weak (args':=encL V S.len args) (by rw[a_,a_];exact b1.symm) λi a a0 ha ha0=>by
       rw[aO,Qh,Qr]at ha ha0
       obtain⟨u,hu,rfl⟩:=ha
       obtain⟨u0,hu0,rfl⟩:=ha0
       exact(b3 i u u0 hu hu0 ω0).1 rfl
      have hplH:H.plain (aK V (f_ V sig.rcut y).len x)=true:=by
       have:∀z:H,(∀n,H.has n z=false)->H.plain z=true:=by
        intro z
        refine H.rec (motive_1:=λz=>(∀n,H.has n z=false)->H.plain z=true) (motive_2:=λl=>(∀n,H.hasL n l=false)->H.plainL l=true) ?_ ?_ ?_ ?_ ?_ ?_ ?_ ?_ ?_ ?_ ?_ ?_ ?_ ?_ z
        ·intro _ _;rfl
        ·intro _;rfl
        ·intro m o hn;have:=hn m;simp[H.has]at this
        ·intro m o hn;have:=hn m;simp[H.has]at this
        ·intro m s i o hn;have:=hn m;simp[H.has]at this
        ·intro m s i o hn;have:=hn m;simp[H.has]at this
        ·intro m hn;have:=hn m;simp[H.has]at this
        ·intro m b hn;have:=hn m;simp[H.has]at this
        ·intro m hn;have:=hn m;simp[H.has]at this
        ·intro cs ih hn;simp only[H.plain];exact ih λn=>by have:=hn n;simpa[H.has]using this
        ·intro cs ih hn;simp only[H.plain];exact ih λn=>by have:=hn n;simpa[H.has]using this
        ·intro f a b ih1 ih2 hn
         simp only[H.plain,Qk]
         exact⟨ih1 λn=>by have:=hn n;simp only[H.has,Ro]at this;exact this.1,ih2 λn=>by have:=hn n;simp only[H.has,Ro]at this;exact this.2⟩
        ·intro _;rfl
        ·intro x r ih1 ih2 hn
         simp only[H.plainL,Qk]
         exact⟨ih1 λn=>by have:=hn n;simp only[H.hasL,Ro]at this;exact this.1,ih2 λn=>by have:=hn n;simp only[H.hasL,Ro]at this;exact this.2⟩
       exact this _ λn=>by rw[iB];exact plain_has hpl n
      refine wI hw hplH ?_
      exact rK (dst:=dst) (l:=[]) (sM hpl _ _)
     ·cases h
    |cons p l=>
     simp only at h
     split at h
     ·rename_i hfl
      generalize hL:p::l=L at h hargs b3 b4
      have hpl:=xe hfl
      refine⟨_,h,λm o hm=> ?_,?_⟩
      ·right
       simp only[eL]at hm
       cases hq:gt L m with
       |some o'=>
        rw[hq]at hm;simp at hm;subst hm
        obtain⟨h2,_⟩:=b4 m o' (cz hq)
        unfold TS.len;rw[h2]
       |none=>
        rw[hq]at hm
        have hm':=cz hm
        obtain⟨q,hq1,hq2⟩:=QD.1 hm'
        simp only[QI]at hq2
        obtain⟨rfl,rfl⟩:=hq2
        obtain⟨h2,_⟩:=b4 q.1 q.2 hq1
        unfold TS.len;rw[h2];rfl
      ·let own:List (Nat×Own):=L.filterMap λq=>(bS V S.len q.2).map λo=>(q.1,o)
       have hmap:∀l':List (Nat×TO V.N),(∀n o,(n,o)∈l'->S.own? n=some o/\∃l0,sa o=some l0)->∀ω:Nat->Nat,
        l'.map (λq=>(q.1,bS V ω q.2))=(l'.filterMap λq=>(bS V S.len q.2).map λo=>(q.1,o)).map (λq=>(q.1,some q.2))/\
        (l'.map λq:Nat×TO V.N=>(q.1,TO.gone (N:=V.N) (TO.len (some q.2)))).map (λq=>(q.1,bS V ω q.2))=(l'.filterMap λq=>(bS V S.len q.2).map λo=>(q.1,o)).map (λq=>(q.1,none))/\
        l'.map (·.1)=(l'.filterMap λq=>(bS V S.len q.2).map λo=>(q.1,o)).map (·.1):=by
        intro l'
        induction l' with
        |nil=>intro _ ω;exact⟨rfl,rfl,rfl⟩
        |cons q r ih=>
         intro hq ω
         obtain⟨n,o⟩:=q
         obtain⟨h2,l00,hl0⟩:=hq n o Qo
         obtain⟨i1,i2,i3⟩:=ih (λn o hm=>hq n o (Qm _ hm)) ω
         obtain⟨x0,e0,_⟩:=jI hl0
         simp only[R5,e0,QG,Qp]
         rw[i1,i2,i3]
         exact⟨rfl,rfl,rfl⟩
       have hgt:∀n x,gt own n=some x->∃o,(n,o)∈L/\S.own? n=some o/\bS V S.len o=some x:=by
        intro n x hn
        obtain⟨z,h1,h2⟩:=eM hn
        exact⟨z,h1,(b4 n z h1).1,h2⟩
       have hgt':∀n o,(n,o)∈L->∀x,(∀ω,bS V ω o=some x)->gt own n=some x:=by
        intro n o hn x hx
        have hkey:n∈own.map (·.1):=by rw[<-(hmap L b4 S.len).2.2];exact QN (f:=(·.1)) hn
        obtain⟨x',hxx⟩:=fZ hkey
        obtain⟨o',h1,h2,h3⟩:=hgt n x' hxx
        rw[(b4 n o hn).1]at h2;cases h2
        rw[hx]at h3;cases h3
        exact hxx
       have hat:=Ow (args:=encL V S.len args) (own:=own) hc (by rw[a_,a_];exact b1.symm) (λi a a0 ha ha0=>by
        rw[aO,Qh,Qr]at ha ha0
        obtain⟨u,hu,rfl⟩:=ha
        obtain⟨u0,hu0,rfl⟩:=ha0
        exact(b3 i u u0 hu hu0 ω0).2 own hgt') (λE E' M M' v hv=>C9 hfl hv)
       refine⟨own,_,own,hat,λq hq=> ?_,?_⟩
       ·obtain⟨z,hz1,hz2⟩:=RE.1 hq
        obtain⟨h2,l00,hl0⟩:=b4 z.1 z.2 hz1
        obtain⟨x0,e0,_⟩:=jI hl0
        rw[e0]at hz2
        simp only[QG,Qd]at hz2
        subst hz2
        rw[aZ,h2];exact e0 _
       ·refine cw ?_ ?_ ?_ ?_
        ·exact sM hpl _ _
        ·simp only[gw]
         exact lA λp hp=>by
          obtain⟨o,hoo⟩:=fZ (QN (f:=(·.1)) hp)
          exact⟨o,hoo⟩
        ·simp only[gw,QU]
         obtain⟨i1,i2,_⟩:=hmap L b4 (S.app dst {val:=x,acc:=L.map (·.1),upd:=L++L.map λq=>(q.1, .gone (TO.len (some q.2)))}).len
         rw[i1,i2]
        ·simp only[gw]
         exact(hmap L b4 S.len).2.2.symm
     ·cases h
   ·cases h
  ·cases h
 ·cases h
end
end Go.Tx
end
section
namespace Go.Tx
open Go.Awp
variable [Inhabited GMem]
def bA(f:Func):Code:=match f.body with
 |some c=>c
 |none=> .skip
def cM:Code->List Code
 | .seq a b=>cM a++cM b
 | .block _ x=>cM x
 | .cond _ a b=>cM a++cM b
 | .loop b=>[b]
 | .scope b=>cM b
 |_=>[]
def cp(c:Code)(i:Nat):Code:=match(cM c)[i]? with
 |some b=>b
 |none=> .skip
def i_:Code->List Code
 | .seq a b=>i_ a++i_ b
 | .block _ x=>i_ x
 | .cond _ a b=>i_ a++i_ b
 | .scope b=>b::i_ b
 |_=>[]
def tB(p:Code->Prop):List Code->Prop
 |[]=>True
 |b::r=>p b/\tB p r
theorem eG{p:Code->Prop}:∀{l m:List Code},tB p (l++m)->tB p l/\tB p m
 |[],_,h=>⟨trivial,h⟩
 |_::_,_,h=>⟨⟨h.1,(eG h.2).1⟩,(eG h.2).2⟩
theorem kq{a b:Prop}(h:a=b)(x:a):b:=h▸x
section
variable {V:gW}
def iR(C:Ctx)(X:Xc V)(b:Code):Prop:=∀la,X.loops (cx b)=some la->iQ C b la
def Jd(C:Ctx)(X:Xc V)(x:Code):Prop:=∀l la,X.jumps (cx x)=some (l,la)->FX C x l la
theorem Dl{C:Ctx}{X:Xc V}:∀{c:Code},tB (iR C X) (cM c)->tB (Jd C X) (i_ c)->LOk C X c:=by
 intro c
 induction c with
 |seq a b iha ihb=>intro h g;exact⟨iha (eG h).1 (eG g).1,ihb (eG h).2 (eG g).2⟩
 |block id x ih=>intro h g;exact ih h g
 |scope x ih=>intro h g;exact⟨ih h g.2,g.1⟩
 |cond c a b iha ihb=>intro h g;exact⟨iha (eG h).1 (eG g).1,ihb (eG h).2 (eG g).2⟩
 |loop b ih=>intro h g;exact h.1
 |_=>intro _ _;trivial
theorem yQ{p:Code->Prop}(h:∀b,p b):∀l:List Code,tB p l
 |[]=>trivial
 |b::r=>⟨h b,yQ h r⟩
theorem h_{C:Ctx}{X:Xc V}{c:Code}(h:tB (iR C X) (cM c))(hj:∀k,X.jumps k=none:=by intro k;rfl):LOk C X c:=
 Dl h (yQ (λx l la e=>by rw[hj]at e;cases e) _)
theorem nC{C:Ctx}{X:Xc V}{b:Code}{la0:lJ V X.sh}(e:X.loops (cx b)=some la0)(h:iQ C b la0):iR C X b:=λla hl=>by
 rw[e]at hl
 cases hl
 exact h
end
end Go.Tx
end
section
namespace Go.Tx
open Go.Awp
variable [Inhabited GMem]
section
variable {ι:Type} {N:ι->Type}
mutual
def TV.ren(f:Nat->Nat):TV N->TV N
 | .bp n o=> .bp (f n) o
 | .vh n=> .vh (f n)
 | .ep n s i o=> .ep (f n) s i o
 | .sv n s i o=> .sv (f n) s i o
 | .mp n=> .mp (f n)
 | .np n b=> .np (f n) b
 | .sd n=> .sd (f n)
 | .ai n s i o=> .ai (f n) s i o
 | .agg cs=> .agg (TV.renL f cs)
 | .tup vs=> .tup (TV.renL f vs)
 | .fn g a b=> .fn g (TV.renL f a) (TV.renL f b)
 | .lf t x=> .lf t x
 | .raw v=> .raw v
 | .rp t x off=> .rp t x off
 | .junk=> .junk
def TV.renL(f:Nat->Nat):List (TV N)->List (TV N)
 |[]=>[]
 |x::r=>TV.ren f x::TV.renL f r
end
def TO.ren(f:Nat->Nat):TO N->TO N
 | .box o cells=> .box o (TV.renL f cells)
 | .bst i x=> .bst i x
 | .vec te e xs=> .vec te e xs
 | .dvec te e xs=> .dvec te e xs
 | .pvec te e xs=> .pvec te e xs
 | .map k v es=> .map k v es
 | .iter s p=> .iter s p
 | .miter m k v es rest cur=> .miter (f m) k v es rest cur
 | .que te e xs=> .que te e xs
 | .maps te k v es al=> .maps te k v es (al.map λq=>(f q.1,q.2))
 | .bar n e xs=> .bar n e xs
 | .alias m=> .alias m
 | .gone l=> .gone l
mutual
def TV.allN(p:Nat->Bool):TV N->Bool
 | .bp n _=>p n
 | .vh n=>p n
 | .ep n _ _ _=>p n
 | .sv n _ _ _=>p n
 | .mp n=>p n
 | .np n _=>p n
 | .sd n=>p n
 | .ai n _ _ _=>p n
 | .agg cs=>TV.allNL p cs
 | .tup vs=>TV.allNL p vs
 | .fn _ a b=>TV.allNL p a&&TV.allNL p b
 | .lf .. =>true
 | .raw _=>true
 | .rp .. =>true
 | .junk=>true
def TV.allNL(p:Nat->Bool):List (TV N)->Bool
 |[]=>true
 |x::r=>TV.allN p x&&TV.allNL p r
end
def TO.allN(p:Nat->Bool):TO N->Bool
 | .box _ cells=>TV.allNL p cells
 | .bst .. =>true
 | .vec .. =>true
 | .dvec .. =>true
 | .pvec .. =>true
 | .map .. =>true
 | .iter .. =>true
 | .miter m _ _ _ _ _=>p m
 | .que .. =>true
 | .maps _ _ _ _ al=>match al with
  |some q=>p q.1
  |none=>true
 | .bar .. =>true
 | .alias _=>false
 | .gone _=>false
end
section
variable {V:gW}
mutual
theorem TV.allN_has{p:Nat->Bool}{n:Nat}:∀{x:TV V.N},TV.allN p x=true->TV.has n x=true->p n=true
 | .bp m o,h,hn=>by simp[TV.has]at hn;subst hn;simpa[TV.allN]using h
 | .vh m,h,hn=>by simp[TV.has]at hn;subst hn;simpa[TV.allN]using h
 | .ep m s i o,h,hn=>by simp[TV.has]at hn;subst hn;simpa[TV.allN]using h
 | .sv m s i o,h,hn=>by simp[TV.has]at hn;subst hn;simpa[TV.allN]using h
 | .mp m,h,hn=>by simp[TV.has]at hn;subst hn;simpa[TV.allN]using h
 | .np m b,h,hn=>by simp[TV.has]at hn;subst hn;simpa[TV.allN]using h
 | .sd m,h,hn=>by simp[TV.has]at hn;subst hn;simpa[TV.allN]using h
 | .ai m s i o,h,hn=>by simp[TV.has]at hn;subst hn;simpa[TV.allN]using h
 | .agg cs,h,hn=>by simp only[TV.allN]at h;simp only[TV.has]at hn;exact TV.allNL_has h hn
 | .tup cs,h,hn=>by simp only[TV.allN]at h;simp only[TV.has]at hn;exact TV.allNL_has h hn
 | .fn f a b,h,hn=>by
  simp only[TV.allN,Qk]at h
  simp only[TV.has,QX]at hn
  rcases hn with hn|hn
  ·exact TV.allNL_has h.1 hn
  ·exact TV.allNL_has h.2 hn
 | .lf ..,h,hn=>by simp[TV.has]at hn
 | .raw _,h,hn=>by simp[TV.has]at hn
 | .rp ..,h,hn=>by simp[TV.has]at hn
 | .junk,h,hn=>by simp[TV.has]at hn
theorem TV.allNL_has{p:Nat->Bool}{n:Nat}:∀{l:List (TV V.N)},TV.allNL p l=true->TV.hasL n l=true->p n=true
 |[],h,hn=>by simp[TV.hasL]at hn
 |x::r,h,hn=>by
  simp only[TV.allNL,Qk]at h
  simp only[TV.hasL,QX]at hn
  rcases hn with hn|hn
  ·exact TV.allN_has h.1 hn
  ·exact TV.allNL_has h.2 hn
end
theorem TO.allN_has{p:Nat->Bool}{n:Nat}{o:TO V.N}(h:TO.allN p o=true)(hn:TO.has n o=true):p n=true:=by
 cases o with
 |box oty cells=>exact TV.allNL_has h hn
 |bst i x=>simp[TO.has]at hn
 |vec te e xs=>simp[TO.has]at hn
 |dvec te e xs=>simp[TO.has]at hn
 |pvec te e xs=>simp[TO.has]at hn
 |map k v es=>simp[TO.has]at hn
 |iter s p=>simp[TO.has]at hn
 |miter m k v es rest cur=>simp[TO.has]at hn;subst hn;exact h
 |que te e xs=>simp[TO.has]at hn
 |maps te k v es al=>
  cases al with
  |none=>simp[TO.has]at hn
  |some q=>simp[TO.has]at hn;subst hn;exact h
 |bar m e xs=>simp[TO.has]at hn
 |alias m=>simp[TO.has]at hn
 |gone l=>simp[TO.has]at hn
mutual
theorem H.allN_of{p:Nat->Bool}:∀{x:H},(∀n,H.has n x=true->p n=true)->H.allN p x=true
 | .bp m o,h=>by simp only[H.allN];exact h m (by simp[H.has])
 | .vh m l,h=>by simp only[H.allN];exact h m (by simp[H.has])
 | .ep m s i o,h=>by simp only[H.allN];exact h m (by simp[H.has])
 | .sv m s i o,h=>by simp only[H.allN];exact h m (by simp[H.has])
 | .mp m,h=>by simp only[H.allN];exact h m (by simp[H.has])
 | .np m b,h=>by simp only[H.allN];exact h m (by simp[H.has])
 | .sd m,h=>by simp only[H.allN];exact h m (by simp[H.has])
 | .agg cs,h=>by simp only[H.allN];exact H.allNL_of λn hn=>h n (by simpa[H.has]using hn)
 | .tup cs,h=>by simp only[H.allN];exact H.allNL_of λn hn=>h n (by simpa[H.has]using hn)
 | .fn f a b,h=>by
  simp only[H.allN,Qk]
  exact⟨H.allNL_of λn hn=>h n (by simp[H.has,hn]),H.allNL_of λn hn=>h n (by simp[H.has,hn])⟩
 | .d _,h=>by simp[H.allN]
 | .junk,h=>by simp[H.allN]
theorem H.allNL_of{p:Nat->Bool}:∀{l:List H},(∀n,H.hasL n l=true->p n=true)->H.allNL p l=true
 |[],h=>by simp[H.allNL]
 |x::r,h=>by
  simp only[H.allNL,Qk]
  exact⟨H.allN_of λn hn=>h n (by simp[H.hasL,hn]),H.allNL_of λn hn=>h n (by simp[H.hasL,hn])⟩
end
theorem vm(f:Nat->Nat):∀l:List H,fW (H.renL f l)=fW l
 |[]=>rfl
 |x::r=>by
  have ih:=vm f r
  cases x<;>simp[H.renL,H.ren,fW,ih]
theorem Az(f:Nat->Nat)(l:List H):H.ren f (cq l)=cq (H.renL f l):=by
 unfold cq
 rw[vm]
 split<;>simp[H.ren]
theorem w_(f:Nat->Nat)(v:Value):H.ren f (bZ v)=bZ v:=by cases v<;>simp[bZ,H.ren]
mutual
theorem vA{f:Nat->Nat}{ω ω':Nat->Nat}:∀x:TV V.N,(∀n,TV.has n x=true->ω' (f n)=ω n)->aK V ω' (TV.ren f x)=H.ren f (aK V ω x)
 | .bp m o,h=>by simp[TV.ren,aK,H.ren]
 | .vh m,h=>by simp[TV.ren,aK,H.ren,h m (by simp[TV.has])]
 | .ep m s i o,h=>by simp[TV.ren,aK,H.ren]
 | .sv m s i o,h=>by simp[TV.ren,aK,H.ren]
 | .mp m,h=>by simp[TV.ren,aK,H.ren]
 | .np m b,h=>by simp[TV.ren,aK,H.ren]
 | .sd m,h=>by simp[TV.ren,aK,H.ren]
 | .ai m s i o,h=>by simp[TV.ren,aK,H.ren]
 | .agg cs,h=>by simp only[TV.ren,aK,Az];rw[encL_ren cs λn hn=>h n (by simpa[TV.has]using hn)]
 | .tup cs,h=>by simp only[TV.ren,aK,H.ren];rw[encL_ren cs λn hn=>h n (by simpa[TV.has]using hn)]
 | .fn g a b,h=>by
  simp only[TV.ren,aK,H.ren]
  rw[encL_ren a λn hn=>h n (by simp[TV.has,hn]),encL_ren b λn hn=>h n (by simp[TV.has,hn])]
 | .lf t x,h=>by simp[TV.ren,aK,H.ren]
 | .raw v,h=>by simp[TV.ren,aK,w_]
 | .rp t x o,h=>by simp[TV.ren,aK,H.ren]
 | .junk,h=>by simp[TV.ren,aK,H.ren]
theorem encL_ren{f:Nat->Nat}{ω ω':Nat->Nat}:∀l:List (TV V.N),(∀n,TV.hasL n l=true->ω' (f n)=ω n)->encL V ω' (TV.renL f l)=H.renL f (encL V ω l)
 |[],h=>rfl
 |x::r,h=>by
  simp only[TV.renL,encL,H.renL]
  rw[vA x λn hn=>h n (by simp[TV.hasL,hn]),encL_ren r λn hn=>h n (by simp[TV.hasL,hn])]
end
theorem uE(f:Nat->Nat):∀l:List D,H.renL f (l.map .d)=l.map .d
 |[]=>rfl
 |x::r=>by simp only[Qp,H.renL,H.ren,uE f r]
theorem C6{f:Nat->Nat}{ω ω':Nat->Nat}(o:TO V.N)(h:∀n,TO.has n o=true->ω' (f n)=ω n):bS V ω' (TO.ren f o)=(bS V ω o).map (Own.ren f):=by
 cases o with
 |box oty cells=>simp only[TO.ren,bS,QG,Own.ren];rw[encL_ren cells h]
 |bst i x=>simp only[TO.ren,bS,QG,Own.ren];rw[uE]
 |vec te e xs=>simp[TO.ren,bS,Own.ren]
 |dvec te e xs=>simp[TO.ren,bS,Own.ren]
 |pvec te e xs=>simp[TO.ren,bS,Own.ren]
 |map k v es=>simp[TO.ren,bS,Own.ren]
 |iter s p=>simp[TO.ren,bS,Own.ren]
 |miter m k v es rest cur=>simp[TO.ren,bS,Own.ren]
 |que te e xs=>simp[TO.ren,bS,Own.que,Own.ren]
 |maps te k v es al=>cases al<;>simp[TO.ren,bS,Own.maps,Own.ren]
 |bar m e xs=>simp only[TO.ren,bS,QG,Own.ren];rw[uE]
 |alias m=>simp[TO.ren,bS]
 |gone l=>simp[TO.ren,bS]
theorem FV.weak{P:Program}{f:FuncId}{args args':List H}{own own1 own':List (Nat×Own)}{r:H}(h:FV P f args own r own')
 (ha:∀E M vs,f7 E M vs args'->f7 E M vs args)(ho:∀E M w,G5 E M w own1->G5 E M w own)(hk:∀n,(∃o,gt own n=some o)↔∃o,gt own1 n=some o)
 (hf:∀E M w,G5 E M w own1->∀b,lL E w own b->lL E w own1 b):FV P f args' own1 r own':=by
 refine⟨h.1,λE M w vs hgm hm how hvs=>(h.2 E M w vs hgm hm (ho E M w how) (ha E M vs hvs)).mono ?_⟩
 have hin:∀b,lL E w own b->lL E w own1 b:=hf E M w how
 rintro e w' ⟨v,E',M',rfl,hp,hE⟩
 refine⟨v,E',M',rfl,{hp with mnew:=λb o v hv=> ?_,home:=λn o b hn hb=> ?_,frame:=λk hk hx=>hp.frame k hk λh1=>hx (hin k h1)},λn hn=>hE n ?_⟩
 ·rcases hp.mnew b o v hv with h1|h1|h1
  ·exact .inl h1
  ·exact .inr (.inl (hin b h1))
  ·exact .inr (.inr h1)
 ·rcases hp.home n o b hn hb with h1|h1
  ·exact .inl (hin b h1)
  ·exact .inr h1
 ·rcases hn with hn|hn
  ·exact .inl hn
  ·exact .inr ((hk n).2 hn)
end
end Go.Tx
end
section
namespace Go.Tx
open Go.Awp
variable [Inhabited GMem]
section
variable {V:gW}
def Ab(n:Nat):List Nat->Bool
 |[]=>false
 |k::r=>QZ k n||Ab n r
def Ig(ks:List Nat):List Nat->List Nat
 |[]=>[]
 |n::r=>match Ab n ks with
  |true=>Ig ks r
  |false=>n::Ig ks r
def fh:Nat->da->List Nat->da
 |_,σ,[]=>σ
 |b,σ,c::r=>match gt σ c with
  |some _=>fh b σ r
  |none=>fh (b+1) ((c,b)::σ) r
def Gk(sig:Sig V):Bool:=sig.params.all (tz V sig.objs)&&sig.objs.all (λp=>match p.2 with
 | .box _ ps=>ps.all (tz V sig.objs)
 |_=>true)&&sig.objs.all (λp=>Se given p.1)
def yo(S:TS V.N)(n:Nat):TO V.N->Bool
 | .box _ _=>QZ (S.len n) 0
 | .bst _ _=>QZ (S.len n) 0
 | .map _ _ _=>QZ (S.len n) 0
 | .iter _ _=>QZ (S.len n) 0
 | .vec _ _ _=>true
 | .dvec _ _ _=>true
 | .pvec _ _ _=>true
 | .que _ _ _=>true
 | .maps _ _ _ _ _=>true
 | .bar _ _ _=>QZ (S.len n) 0
 |_=>false
def zA(S:TS V.N)(sig:Sig V)(τ:da)(x:TV V.N)(os:List (Nat×TO V.N)):Bool:=
 σok τ&&os.all (λp=>Se given p.1||RD (σf τ p.1) given)&&TV.allN (λn=>(gt os n).isSome) x&&os.all (λp=>TO.allN (λn=>(gt os n).isSome) p.2)&&
  os.all (λp=> !Ab p.1 (sig.objs.map (·.1))||yo S (σf τ p.1) p.2)&&d7 (os.map (·.1))
def lenO:TO V.N->Option Nat
 | .vec _ _ xs=>some xs.length
 | .dvec _ _ xs=>some xs.length
 | .pvec _ _ xs=>some xs.length
 | .que _ _ xs=>some xs.length
 | .maps _ _ _ es _=>some es.length
 |_=>none
def gH(S:TS V.N)(ks:List Nat)(τ:da):List (Nat×TO V.N)->List (Nat×Nat)
 |[]=>[]
 |(c,o)::r=>match lenO o with
  |some l=>match Ab c ks with
   |true=>(l,S.len (σf τ c))::gH S ks τ r
   |false=>gH S ks τ r
  |none=>gH S ks τ r
def vS{A:Type}:List (Nat×Nat)->Option A->Option A
 |[],k=>k
 |(a,b)::r,k=>if a=b then vS r k else none
theorem nB{A:Type}{x:A}:∀{l:List (Nat×Nat)} {k:Option A},vS l k=some x->k=some x/\∀p∈l,p.1=p.2
 |[],k,h=>⟨h,λp hp=>by cases hp⟩
 |(a,b)::r,k,h=>by
  simp only[vS]at h
  split at h
  ·rename_i hab
   obtain⟨h1,h2⟩:=nB h
   refine⟨h1,λp hp=> ?_⟩
   rcases Qu.1 hp with rfl|hp
   ·exact hab
   ·exact h2 p hp
  ·cases h
theorem d5{S:TS V.N}{ks:List Nat}{τ:da}{c:Nat}{x:TO V.N}(hx:lenO x=some (TO.len (some x)))(hi:Ab c ks=true):∀{l:List (Nat×TO V.N)},(c,x)∈l->(TO.len (some x),S.len (σf τ c))∈gH S ks τ l
 |(d,o)::r,h=>by
  rcases Qu.1 h with h|h
  ·simp only[QI]at h
   obtain⟨rfl,rfl⟩:=h
   simp only[gH,hx,hi]
   exact Qo
  ·have ih:=d5 (S:=S) (τ:=τ) hx hi h
   unfold gH
   split
   ·split
    ·exact Qm _ ih
    ·exact ih
   ·exact ih
def ci(P:Program)(sig:Sig V)(F:HL V.N sig.tys->Option (HL V.N sig.rcut.tys))(A:Type)(args:List (TV V.N))(S:TS V.N)(k:TE V.N->Option A):Option A:=
 match mtL V [] sig.params args with
 |some (σ0,l0)=>match mtO V S σ0 sig.objs with
  |some (σ1,l1)=>match Gk sig with
   |true=>match GO sig.tys (l0++l1)with
    |some v=>F v>>=λr=>match Gy P sig r with
     |some x=>match zA S sig (fh (80000+S.own.length) σ1 ((qy sig r).map (·.1))) x (qy sig r)with
      |true=>vS (gH S (sig.objs.map (·.1)) (fh (80000+S.own.length) σ1 ((qy sig r).map (·.1))) (qy sig r)) (k
       { val:=x.ren (σf (fh (80000+S.own.length) σ1 ((qy sig r).map (·.1))))
         acc:=sig.objs.map λp=>σf σ1 p.1
         upd:=((qy sig r).map λp=>(σf (fh (80000+S.own.length) σ1 ((qy sig r).map (·.1))) p.1,p.2.ren (σf (fh (80000+S.own.length) σ1 ((qy sig r).map (·.1))))))++sig.objs.map λp=>(σf σ1 p.1, .gone (S.len (σf σ1 p.1)))
         new:=Ig (sig.objs.map λp=>σf σ1 p.1) ((qy sig r).map λp=>σf (fh (80000+S.own.length) σ1 ((qy sig r).map (·.1))) p.1)})
      |false=>none
     |none=>none
    |none=>none
   |false=>none
  |none=>none
 |none=>none
theorem jD{n:Nat}:∀{l:List Nat},Ab n l=true↔n∈l
 |[]=>by simp[Ab]
 |k::r=>by
  simp only[Ab,QX,Qu,jD (l:=r)]
  constructor
  ·rintro(h|h)
   ·exact .inl (QT h).symm
   ·exact .inr h
  ·rintro(rfl|h)
   ·exact .inl (by simp)
   ·exact .inr h
theorem nj{α:Type}:∀{l:List (Nat×α)} {n:Nat},gt l n=none↔n∉l.map (·.1)
 |[],n=>by simp[gt]
 |(k,x)::r,n=>by
  rw[aE]
  by_cases hk:k=n
  ·subst hk;simp
  ·rw[TN hk,nj (l:=r)]
   simp[Rf hk]
theorem gK{own:List (Nat×Own)}:∀{l:List (Nat×Own)},eJ own l=Ig (own.map (·.1)) (l.map (·.1))
 |[]=>rfl
 |(n,o)::r=>by
  simp only[eJ,Qp,Ig]
  cases hq:gt own n with
  |none=>
   have:Ab n (own.map (·.1))=false:=by
    rw[Bool.eq_false_iff];intro h;exact nj.1 hq (jD.1 h)
   simp only[this,gK (l:=r)]
  |some y=>
   have:Ab n (own.map (·.1))=true:=jD.2 (QN (f:=(·.1)) (cz hq))
   simp only[this,gK (l:=r)]
theorem i5:∀{l:List Nat} {b:Nat} {σ:da} {c n:Nat},gt σ c=some n->gt (fh b σ l) c=some n
 |[],b,σ,c,n,h=>h
 |d::r,b,σ,c,n,h=>by
  simp only[fh]
  split
  ·exact i5 h
  ·rename_i hd
   refine i5 ?_
   rw[aE]
   by_cases hk:d=c
   ·subst hk;rw[hd]at h;cases h
   ·rw[TN hk];exact h
theorem σf_some{σ:da}{c n:Nat}(h:gt σ c=some n):σf σ c=n:=by unfold σf;rw[h]
end
end Go.Tx
end
section
namespace Go.Tx
open Go.Awp
variable [Inhabited GMem]
section
variable {V:gW}
theorem ni{α:Type}(q:Nat->Bool):∀(l:List (Nat×α)) (n:Nat) (x:α),gt (l.filter λp=>q p.1) n=some x->gt l n=some x
 |[],n,x,h=>by simp[gt]at h
 |(k,y)::r,n,x,h=>by
  rw[S9]at h
  rw[aE]
  by_cases hk:k=n
  ·subst hk
   rw[TP rfl]
   split at h
   ·rw[aE,TP rfl]at h;exact h
   ·rename_i hq
    have:=cz h
    have:=(Te.1 this).2
    exact(hq this).elim
  ·rw[TN hk]
   split at h
   ·rw[aE,TN hk]at h;exact ni q r n x h
   ·exact ni q r n x h
theorem uc{α β:Type}{f:Nat->Nat}{g:α->β}(hf:∀a b,f a=f b->a=b):∀(l:List (Nat×α)) (n:Nat),gt (l.map λp=>(f p.1,g p.2)) (f n)=(gt l n).map g
 |[],n=>by simp[gt]
 |(k,y)::r,n=>by
  rw[Qp,aE,aE]
  by_cases hk:k=n
  ·subst hk;simp
  ·rw[TN hk,TN λe=>hk (hf _ _ e)];exact uc hf r n
theorem qP{ks:List Nat}{n:Nat}:∀{l:List Nat},n∈l->n∉ks->n∈Ig ks l
 |[],h,_=>by cases h
 |k::r,h,hn=>by
  simp only[Ig]
  rcases Qu.1 h with rfl|h
  ·split
   ·rename_i hi;exact(hn (jD.1 hi)).elim
   ·exact Qo
  ·split
   ·exact qP h hn
   ·exact Qm _ (qP h hn)
theorem An(f:Nat->Nat)(o:TO V.N):TO.len (some (TO.ren f o))=TO.len (some o):=by cases o<;>rfl
theorem aL{P:Program}{fid:Nat}{sig:Sig V}{F:HL V.N sig.tys->Option (HL V.N sig.rcut.tys)}(hF:aT P fid sig F){A:Type}{args:List (TV V.N)}{S:TS V.N}{dst:Option Tmp}
 {k:TE V.N->Option A}{r:A}(h:ci P sig F A args S k=some r):
 ∃te,k te=some r/\good S te/\tA P fid (encL V S.len args) (aV V S).own? λe'=>ELe true e' (f6 (S.app dst te).len te):=by
 unfold ci at h
 split at h
 ·rename_i σ0 l0 h0
  split at h
  ·rename_i σ1 l1 h1
   split at h
   ·rename_i hin
    split at h
    ·rename_i v hv
     obtain⟨y,hy,h⟩:=bT h
     split at h
     ·rename_i x hx
      split at h
      ·rename_i hout
       obtain⟨h,hlens⟩:=nB h
       have hc:=hF v y x hy hx
       have hls:=ri hv
       obtain⟨a1,a2,a3,xs0,a4,a5,a6⟩:=ic h0
       obtain⟨b1,b2,os0,b3,b4,b5,b6⟩:=ct h1
       have hst:ek sig v=(xs0,os0):=by
        unfold ek
        rw[hls,a5 l1]
        simp only[b4]
       have hS:(cX sig v).own=os0:=by unfold cX;rw[hst]
       rw[hst,hS]at hc
       have hlen0:∀c o,gt os0 c=some o->(cX sig v).len c=TO.len (some o):=by
        intro c o ho
        unfold TS.len TS.own?
        rw[hS,ho]
       generalize (cX sig v).len=ω0 at hc hlen0
       generalize hos:qy sig y=os at h hout hc hlens
       have hlen1:∀c o,gt os c=some o->(f_ V sig.rcut y).len c=TO.len (some o):=by
        intro c o ho
        rw[<-hos]at ho
        have:=ni (λn=>sig.keep.contains n) (f_ V sig.rcut y).own c o ho
        unfold TS.len TS.own?
        rw[this]
       generalize (f_ V sig.rcut y).len=ω1 at hc hlen1
       generalize hτ:fh (80000+S.own.length) σ1 (os.map (·.1))=τ at h hout hlens
       have hsub:∀c n,gt σ1 c=some n->gt τ c=some n:=λc n hcn=>by rw[<-hτ];exact i5 hcn
       simp only[zA,Qk,Qq]at hout
       obtain⟨⟨⟨⟨⟨o1,o2⟩,o3⟩,o4⟩,o5⟩,o6⟩:=hout
       simp only[Gk,Qk,Qq]at hin
       obtain⟨⟨i1,i2⟩,i3⟩:=hin
       have hfi:=σf_inj o1
       have hbound:∀p∈sig.objs,∃n o,gt σ1 p.1=some n/\S.own? n=some o/\∃z,bS V S.len o=some z:=by
        intro p hp
        have:p.1∈os0.map (·.1):=by rw[b6];exact QN hp
        obtain⟨q,hq,hqe⟩:=QD.1 this
        obtain⟨n,o,q1,q2,_,z,q3,_⟩:=b5 q.1 q.2 hq
        exact⟨n,o,by rw[<-hqe];exact q1,q2,_,q3 S.len⟩
       have hTr:∀E:Env,Tr σ1 sig.objs E (λc=>E (σf τ c)) S.len ω0:=λE=>by
        refine⟨λc n hcn=>by rw[σf_some (hsub c n hcn)],λc n hc' hcn=> ?_⟩
        rw[Rs]at hc'
        obtain⟨p,hp,hpn⟩:=hc'
        have hpn:p.1=c:=by simpa using hpn
        have hm:c∈os0.map (·.1):=by rw[b6,<-hpn];exact QN hp
        obtain⟨o,ho⟩:=fZ hm
        obtain⟨n',o',q1,q2,q3,_⟩:=b5 c o (cz ho)
        rw[hcn]at q1;cases q1
        rw[hlen0 c o ho,q3];unfold TS.len;rw[q2]
       have hob':∀p∈sig.objs,match p.2 with| .box _ ps=>ps.all (tz V sig.objs)=true|_=>True:=by
        intro p hp
        have:=i2 p hp
        cases hq:p.2 with
        |box oty ps=>rw[hq]at this;simpa using this
        |st i=>trivial
        |vec te e=>trivial
        |dvec te e out=>trivial
        |map tk tv=>trivial
        |iter=>trivial
        |miter m k v=>trivial
        |que te e=>trivial
        |maps te k v=>trivial
        |bar m e=>trivial
       have hown:∀n o,gt (sig.objs.filterMap λp=>((S.own? (σf σ1 p.1)).bind (bS V S.len)).map λo=>(σf σ1 p.1,o)) n=some o->(S.own? n).bind (bS V S.len)=some o:=by
        intro n o hn
        obtain⟨p,hp,hpe⟩:=RE.1 (cz hn)
        rw[Qr]at hpe
        obtain⟨o',h1,h2⟩:=hpe
        simp only[QI]at h2
        obtain⟨rfl,rfl⟩:=h2
        exact h1
       have hkeys:∀n,n∈(sig.objs.filterMap λp=>((S.own? (σf σ1 p.1)).bind (bS V S.len)).map λo=>(σf σ1 p.1,o)).map (·.1)↔n∈sig.objs.map λp=>σf σ1 p.1:=by
        intro n
        constructor
        ·intro hn
         obtain⟨q,hq,rfl⟩:=QD.1 hn
         obtain⟨p,hp,hpe⟩:=RE.1 hq
         rw[Qr]at hpe
         obtain⟨o',h1,h2⟩:=hpe
         rw[<-h2]
         exact QN (f:=λp=>σf σ1 p.1) hp
        ·intro hn
         obtain⟨p,hp,rfl⟩:=QD.1 hn
         obtain⟨n,o,q1,q2,z,q3⟩:=hbound p hp
         refine QD.2 ⟨(σf σ1 p.1,z),RE.2 ⟨p,hp,?_⟩,rfl⟩
         rw[σf_some q1,q2]
         simp[q3]
       have hex:∀n o,gt (xP (σf τ) (fj ω0 os0)) n=some o->∃z,(gt (sig.objs.filterMap λp=>((S.own? (σf σ1 p.1)).bind (bS V S.len)).map λo=>(σf σ1 p.1,o)) n=some z)/\(∀E M w,bD E M w n z->bD E M w n o)/\∀(E:Env) M w b,bD E M w n z->o.foot w (E n) b->z.foot w (E n) b:=by
        intro n o hn
        obtain⟨c,o1,rfl,hg,rfl⟩:=dY hfi hn
        obtain⟨t,ht,hto⟩:=eM hg
        obtain⟨n',oS,q1,q2,_,x4,q4,x',q5,q6,q7⟩:=b5 c t ht
        rw[q5]at hto
        simp only[Qd]at hto;subst hto
        have e:σf τ c=n':=σf_some (hsub _ _ q1)
        have hck:c∈sig.objs.map (·.1):=by rw[<-b6];exact QN (f:=(·.1)) ht
        obtain⟨p,hp,hpc⟩:=QD.1 hck
        have hk':=(hkeys n').2 (QD.2 ⟨p,hp,by rw[hpc];exact σf_some q1⟩)
        obtain⟨z,hz⟩:=fZ hk'
        have hz':=hown _ _ hz
        rw[q2]at hz'
        simp only[Qe,q4,Qd]at hz'
        rw[e]
        refine⟨z,hz,λE M w hw=> ?_,λE M w b hw hb=> ?_⟩
        ·rw[<-hz']at hw
         have:=(q6 σ1 sig.objs E _ M w S.len ω0 (Sub.refl _) hob' (hTr E) hw).ren (E':=E) (f:=σf τ) rfl λm _=>rfl
         rw[e]at this
         exact this
        ·rw[Own.ren_foot]at hb
         rw[<-hz']
         exact q7 E (λ_=>E n') M w S.len ω0 b (by rw[<-hz']at hw;exact hw) rfl hb
       have hsome:∀p∈os,∃o,bS V ω1 p.2=some o:=by
        intro p hp
        have:=o4 p hp
        cases hq:p.2 with
        |box oty cells=>exact⟨_,rfl⟩
        |bst i x=>exact⟨_,rfl⟩
        |vec te e xs=>exact⟨_,rfl⟩
        |dvec te e xs=>exact⟨_,rfl⟩
        |pvec te e xs=>exact⟨_,rfl⟩
        |map tk tv es=>exact⟨_,rfl⟩
        |iter s p=>exact⟨_,rfl⟩
        |miter m k v es rest cur=>exact⟨_,rfl⟩
        |que te e xs=>exact⟨_,rfl⟩
        |maps te k v es al=>exact⟨_,rfl⟩
        |bar m e xs=>exact⟨_,rfl⟩
        |alias m=>rw[hq]at this;simp[TO.allN]at this
        |gone l=>rw[hq]at this;simp[TO.allN]at this
       have hgos:∀n,(gt os n).isSome=true->(gt (fj ω1 os) n).isSome=true:=by
        intro n hn
        obtain⟨o,ho⟩:=Su.1 hn
        obtain⟨z,hz⟩:=hsome _ (cz ho)
        rw[lW ho hz];rfl
       refine⟨_,h,?_,?_⟩
       ·intro m o hm
        simp only[eL]at hm
        split at hm
        ·rename_i o' hq
         simp only[Qd]at hm;subst hm
         obtain⟨p,hp,hpe⟩:=QD.1 (cz hq)
         simp only[QI]at hpe
         obtain⟨rfl,rfl⟩:=hpe
         have h5:=o5 p hp
         rw[QX]at h5
         by_cases hpk:Ab p.1 (sig.objs.map (·.1))=true
         ·right
          rcases h5 with h5|h5
          ·rw[hpk]at h5;cases h5
          ·rw[An]
           cases hpp:p.2 with
           |box oty cells=>rw[hpp]at h5;simp only[yo]at h5;exact(QT h5).symm
           |bst i x=>rw[hpp]at h5;simp only[yo]at h5;exact(QT h5).symm
           |vec te e xs=>exact hlens _ (d5 (x:= .vec te e xs) rfl hpk (hpp▸hp))
           |dvec te e xs=>exact hlens _ (d5 (x:= .dvec te e xs) rfl hpk (hpp▸hp))
           |pvec te e xs=>exact hlens _ (d5 (x:= .pvec te e xs) rfl hpk (hpp▸hp))
           |map tk tv es=>rw[hpp]at h5;simp only[yo]at h5;exact(QT h5).symm
           |iter s p=>rw[hpp]at h5;simp only[yo]at h5;exact(QT h5).symm
           |miter m k v es rest cur=>rw[hpp]at h5;cases h5
           |que te e xs=>exact hlens _ (d5 (x:= .que te e xs) rfl hpk (hpp▸hp))
           |maps te k v es al=>exact hlens _ (d5 (x:= .maps te k v es al) rfl hpk (hpp▸hp))
           |bar m e xs=>rw[hpp]at h5;simp only[yo]at h5;exact(QT h5).symm
           |alias m=>rw[hpp]at h5;cases h5
           |gone l=>rw[hpp]at h5;cases h5
         ·left
          refine qP (QD.2 ⟨p,hp,rfl⟩) λhmem=>hpk (jD.2 ?_)
          obtain⟨q,hq',hqe⟩:=QD.1 hmem
          obtain⟨n,o,q1,_⟩:=hbound q hq'
          rw[σf_some q1,<-σf_some (hsub _ _ q1)]at hqe
          rw[<-hfi _ _ hqe]
          exact QN (f:=(·.1)) hq'
        ·right
         obtain⟨q,hq',hqe⟩:=QD.1 (cz hm)
         simp only[QI]at hqe
         obtain⟨rfl,rfl⟩:=hqe
         rfl
       ·have hat:=hc.ren τ (by
         simp only[Iw,Qk,Qq]
         refine⟨⟨⟨⟨o1,λp hp=> ?_⟩,λp hp=> ?_⟩,?_⟩,λp hp=> ?_⟩
         ·obtain⟨z,hz,hz2⟩:=RE.1 hp
          rw[Qr]at hz2
          obtain⟨o',_,rfl⟩:=hz2
          have:z.1∈sig.objs.map (·.1):=by rw[<-b6];exact QN (f:=(·.1)) hz
          obtain⟨q,hq,hqe⟩:=QD.1 this
          have:=i3 q hq
          rw[hqe]at this
          exact this
         ·obtain⟨z,hz,hz2⟩:=RE.1 hp
          rw[Qr]at hz2
          obtain⟨o',_,rfl⟩:=hz2
          exact o2 z hz
         ·refine H.allN_of λn hn=> ?_
          rw[iB]at hn
          have:=TV.allN_has o3 hn
          rw[QX];exact .inr (hgos n this)
         ·obtain⟨z,hz,hz2⟩:=RE.1 hp
          rw[Qr]at hz2
          obtain⟨o',ho',rfl⟩:=hz2
          have h4:=o4 z hz
          cases o' with
          |box oty cells=>
           simp only[Own.allN]
           refine H.allNL_of λn hn=> ?_
           have:TO.has n z.2=true:=by rw[<-jv ω1 n ho'];exact hn
           have:=TO.allN_has h4 this
           rw[QX];exact .inr (hgos n this)
          |vec e sz rows=>rfl
          |map es=>rfl
          |iter s p=>rfl
          |dvec e sz rows=>rfl
          |miter m es rest cur=>
           simp only[Own.allN]
           have:TO.has m z.2=true:=by rw[<-jv ω1 m ho'];exact R7 m
           have:=TO.allN_has h4 this
           rw[QX];exact .inr (hgos m this)
          |gen ds G=>
           simp only[Own.allN,Qq]
           intro m hm
           have:TO.has m z.2=true:=by rw[<-jv ω1 m ho'];exact Rs.2 ⟨m,hm,R7 m⟩
           have:=TO.allN_has h4 this
           rw[QX];exact .inr (hgos m this))
        generalize hownE:(sig.objs.filterMap λp=>((S.own? (σf σ1 p.1)).bind (bS V S.len)).map λo=>(σf σ1 p.1,o))=own at hown hkeys hex
        refine⟨own,_,_,FV.weak (args':=encL V S.len args) (own1:=own) hat (λE M vs hvs=> ?_) (λE M w hw=> ?_) (λn=> ?_) (λE M w hw b hb=> ?_),λp hp=> ?_,?_⟩
        ·refine⟨by rw[hvs.1,H.renL_len,a_,a_,a4],λi c z hcz hz=> ?_⟩
         rw[H.renL_get,aO,Qh,Option.map_map,Qr]at hz
         obtain⟨u0,hu0,rfl⟩:=hz
         have hi:i<args.length:=by rw[<-a4];exact(Qf.1 hu0).1
         have hu:=Qi hi
         obtain⟨_,k2⟩:=a6 i _ u0 hu hu0
         have hr:=hvs.2 i c (aK V S.len args[i]) hcz (by rw[aO,Qh,hu];rfl)
         exact(k2 σ1 sig.objs E _ M S.len ω0 c b1 (Qq.2 i1) (hTr E) hr).ren λn _=>rfl
        ·refine⟨λn o hn=> ?_,λn m o o' b hne hn hm hb=> ?_⟩
         ·obtain⟨z,hz,hz',_⟩:=hex n o hn
          exact hz' E M w (hw.ok n z hz)
         ·obtain⟨z,hz,_,f1⟩:=hex n o hn
          obtain⟨z',hz',_,f2⟩:=hex m o' hm
          exactλhb'=>hw.apart n m z z' b hne hz hz' (f1 E M w b (hw.ok n z hz) hb) (f2 E M w b (hw.ok m z' hz') hb')
        ·constructor
         ·rintro⟨o,ho⟩
          obtain⟨z,hz,_⟩:=hex n o ho
          exact⟨z,hz⟩
         ·rintro⟨o,ho⟩
          have:=(hkeys n).1 (QN (f:=(·.1)) (cz ho))
          obtain⟨p,hp,rfl⟩:=QD.1 this
          have hm:p.1∈os0.map (·.1):=by rw[b6];exact QN hp
          obtain⟨t,ht⟩:=fZ hm
          obtain⟨n',oS,q1,q2,_,x4,q4,x',q5,q6⟩:=b5 p.1 t (cz ht)
          refine⟨(x' ω0).ren (σf τ),?_⟩
          rw[σf_some q1,<-σf_some (hsub _ _ q1),hG hfi,lW ht (q5 ω0)]
          rfl
        ·obtain⟨n,o,hn,hb⟩:=hb
         obtain⟨z,hz,_,f1⟩:=hex n o hn
         exact⟨n,z,hz,f1 E M w b (hw.ok n z hz) hb⟩
        ·rw[<-hownE]at hp
         obtain⟨q,hq,hqe⟩:=RE.1 hp
         rw[Qr]at hqe
         obtain⟨o',h1,rfl⟩:=hqe
         rw[aZ];exact h1
        ·have hω:∀te:TE V.N,(∀c o,gt os c=some o->gt te.upd (σf τ c)=some (o.ren (σf τ)))->∀c,(gt os c).isSome=true->(S.app dst te).len (σf τ c)=ω1 c:=by
          intro te hte c hcs
          obtain⟨o,ho⟩:=Su.1 hcs
          rw[dt,hte c o ho,hlen1 c o ho]
          exact An _ o
         have hkl:own.map (·.1)=sig.objs.map λp=>σf σ1 p.1:=by
          rw[<-hownE]
          have:∀l:List (Nat×OPt V.ι),(∀p∈l,∃n o,gt σ1 p.1=some n/\S.own? n=some o/\∃z,bS V S.len o=some z)->
           (l.filterMap λp=>((S.own? (σf σ1 p.1)).bind (bS V S.len)).map λo=>(σf σ1 p.1,o)).map (·.1)=l.map λp=>σf σ1 p.1:=by
           intro l
           induction l with
           |nil=>intro _;rfl
           |cons p r ih=>
            intro hl
            obtain⟨n,o,q1,q2,z,q3⟩:=hl p Qo
            have e:(S.own? (σf σ1 p.1)).bind (bS V S.len)=some z:=by rw[σf_some q1,q2];exact q3
            simp only[R5,e,QG,Qp]
            rw[ih λq hq=>hl q (Qm _ hq)]
          exact this sig.objs hbound
         have hml:(xP (σf τ) (fj ω1 os)).map (·.1)=os.map λp=>σf τ p.1:=by
          have:∀l:List (Nat×TO V.N),(∀p∈l,∃o,bS V ω1 p.2=some o)->(xP (σf τ) (fj ω1 l)).map (·.1)=l.map λp=>σf τ p.1:=by
           intro l
           induction l with
           |nil=>intro _;rfl
           |cons p r ih=>
            intro hl
            obtain⟨o,ho⟩:=hl p Qo
            have:=ih λq hq=>hl q (Qm _ hq)
            unfold xP fj at this⊢
            simp only[R5,ho,QG,Qp]
            rw[this]
          exact this os hsome
         refine cw ?_ ?_ ?_ ?_
         ·simp only[gw]
          refine(vA x λn hn=>hω _ (λc o ho=> ?_) n (TV.allN_has o3 hn)).symm
          simp only[eL,uc hfi,ho,QG]
         ·simp only[gw]
          rw[gK,hkl]
          rw[hml]
         ·simp only[gw,QU]
          refine congr (congrArg _ ?_) ?_
          ·have:∀(ω2:Nat->Nat) (l:List (Nat×TO V.N)),(∀p∈l,∃o,bS V ω1 p.2=some o)->(∀p∈l,bS V ω2 (TO.ren (σf τ) p.2)=(bS V ω1 p.2).map (Own.ren (σf τ)))->
            (xP (σf τ) (fj ω1 l)).map (λp=>(p.1,some p.2))=(l.map λp=>(σf τ p.1,TO.ren (σf τ) p.2)).map λp=>(p.1,bS V ω2 p.2):=by
            intro ω2 l
            induction l with
            |nil=>intro _ _;rfl
            |cons p r ih=>
             intro hl hl2
             obtain⟨o,ho⟩:=hl p Qo
             have h2:=hl2 p Qo
             have:=ih (λq hq=>hl q (Qm _ hq)) λq hq=>hl2 q (Qm _ hq)
             unfold xP fj at this⊢
             simp only[R5,ho,QG,Qp,h2]
             rw[this]
           refine this _ os hsome λp hp=>C6 p.2 λn hn=>hω _ (λc o ho=> ?_) n (TO.allN_has (o4 p hp) hn)
           simp only[eL,uc hfi,ho,QG]
          ·have e:own.map (λp:Nat×Own=>(p.1,(none:Option Own)))=(own.map (·.1)).map λn=>(n,none):=by rw[QJ];rfl
           rw[e,hkl,QJ,QJ]
           rfl
         ·simp only[gw]
          exact hkl
      ·cases h
     ·cases h
    ·cases h
   ·cases h
  ·cases h
 ·cases h
end
end Go.Tx
end
section
namespace Go.Tx
open Go.Awp
variable [Inhabited GMem]
section
variable (V:gW)
mutual
def dw{H:Type}:DataW H->Nat
 | .lit (.string bs)=>bs.length+1
 | .lit _=>1
 | .nil=>1
 | .ptr d=>dw d+1
 | .slice elems spare=>dbulkL elems+dbulkL spare+1
 | .agg parts=>dbulkL parts+1
 | .iface _ d=>dw d+1
 | .map _=>1
 | .held _=>1
def dbulkL{H:Type}:List (DataW H)->Nat
 |[]=>0
 |d::r=>dw d+dbulkL r
end
theorem kj{H:Type}:∀l:List (DataW H),dbulkL l=(l.map dw).sum
 |[]=>by simp[dbulkL]
 |d::r=>by simp[dbulkL,kj r]
inductive Ok:(t:Ty V.ι)->den V.N t->Prop
 |int {k:IntKind} {n:Int}:(Lit.int k n).wf=true->Ok (.int k) n
 |bool (b:Bool):Ok .bool b
 |str {s:ByteArray}:s.size<=maxLen->Ok .str s
 |sl {e:Ty V.ι} {xs:List (den V.N e)}:xs.length<=maxLen->(∀x∈xs,Ok e x)->Ok (.sl e) xs
 |st {i:V.ι} {x:V.N i}:(∀l∈V.cells i x,Ok l.t l.x)->Ok (.st i) x
inductive Bk:(t:Ty V.ι)->den V.N t->Nat->Prop
 |int {k:IntKind} {n:Int} {m:Nat}:1<=m->Bk (.int k) n m
 |bool {b:Bool} {m:Nat}:1<=m->Bk .bool b m
 |str {s:ByteArray} {m:Nat}:s.size+1<=m->Bk .str s m
 |sl {e:Ty V.ι} {xs:List (den V.N e)} {m:Nat} (ns:List Nat):ns.length=xs.length->(∀(i:Nat) (x:den V.N e) (n:Nat),xs[i]?=some x->ns[i]?=some n->Bk e x n)->ns.sum+1<=m->Bk (.sl e) xs m
 |st {i:V.ι} {x:V.N i} {m:Nat} (ns:List Nat):ns.length=(V.cells i x).length->(∀(j:Nat) (l:dB V.N) (n:Nat),(V.cells i x)[j]?=some l->ns[j]?=some n->Bk l.t l.x n)->ns.sum+1<=m->Bk (.st i) x m
def Bks(ls:List (dB V.N))(m:Nat):Prop:=
 ∃ns:List Nat,ns.length=ls.length/\(∀(j:Nat) (l:dB V.N) (n:Nat),ls[j]?=some l->ns[j]?=some n->Bk V l.t l.x n)/\ns.sum<=m
def vE:Ty V.ι->List (Ty V.ι)
 | .st i=>V.tys i
 |t=>[t]
def J_(P:Program):Nat->List Field->Option (List (Ty V.ι))
 |_,[]=>some []
 |off,f::fs=>match V.ty f.type with
  |some τ=>if f.offset=off/\P.cellsOf f.type=tsz V.sz τ then match J_ P (off+tsz V.sz τ) fs with
   |some l=>some (vE V τ++l)
   |none=>none
   else none
  |none=>none
class OkI where ok:V.ι->Bool
variable [OkI V]
def noF:Ty V.ι->Bool
 | .fnc=>false
 | .fno=>false
 | .ar _ _=>false
 | .op _=>false
 | .mp _ _=>false
 | .er=>false
 | .sl e=>noF e
 | .st i=>OkI.ok i
 |_=>true
def bL(P:Program)(t:TypeId):Ty V.ι->Prop
 | .int k=>P.underlying t=some (.int k)
 | .bool=>P.underlying t=some .bool
 | .str=>P.underlying t=some .string
 | .sl e=>∃te,P.underlying t=some (.slice te)/\V.ty te=some e/\P.cellsOf te=tsz V.sz e/\RD 0 (tsz V.sz e)=true
 | .mp _ _=>False
 | .er=>False
 | .op _=>False
 | .fnc=>False
 | .fno=>False
 | .ar _ _=>False
 | .st i=>∃fs:Array Field,P.underlying t=some (.struct fs)/\P.cellsOf t=V.sz i/\J_ V P 0 fs.toList=some (V.tys i)
structure CL (P:Program):Prop where
 ty:∀t τ,V.ty t=some τ->noF V τ=true->bL V P t τ
 nof:∀i,OkI.ok i=(V.tys i).all (noF V)
 tys:∀i x,(V.cells i x).map (·.t)=V.tys i
 of:∀i ls,ls.map (·.t)=V.tys i->∃y,V.ofCells i ls=some y
end
section
variable {V:gW} [OkI V] {H0:Type} {enc:TypeId×Value->H0} {P:Program} {W:World} {spare:Nat->Bool} {held:Bool} {base:Nat}
theorem uD{t:TypeId}(hu:P.underlying t=some .string){fuel:Nat}{cs:List Value}{x:DataW H0×List MemPlace}(h:DataW.trod enc P W base spare held fuel t cs=some x):
 ∃s,cs=[.string s]/\s.size<=maxLen:=by
 cases fuel with
 |zero=>cases h
 |succ fuel=>
  unfold DataW.trod at h
  rw[hu]at h
  simp only[]at h
  split at h<;>try(rename_i h1 _;cases h1)
  all_goals try(cases h;done)
  all_goals simp_all
def iW(M:Mem)(cs:List Value)(ls:List (dB V.N)):Prop:=
 cs.length=ls.length/\∀(i:Nat) (c:Value) (l:dB V.N),cs[i]?=some c->ls[i]?=some l->cS M c (aY V.sz V.enc l.t l.x)
theorem iW.app{M:Mem}{cs cs':List Value}{ls ls':List (dB V.N)}(h:iW M cs ls)(h':iW M cs' ls'):iW M (cs++cs') (ls++ls'):=by
 refine⟨by simp[h.1,h'.1],λi c l hc hl=> ?_⟩
 by_cases hi:i<cs.length
 ·rw[Qv hi]at hc
  rw[Qv (by rw[<-h.1];exact hi)]at hl
  exact h.2 i c l hc hl
 ·rw[Qx (by omega)]at hc
  rw[Qx (by rw[<-h.1];omega),<-h.1]at hl
  exact h'.2 _ c l hc hl
theorem Bks.app{ls ls':List (dB V.N)}{m m':Nat}(h:Bks V ls m)(h':Bks V ls' m'):Bks V (ls++ls') (m+m'):=by
 obtain⟨ns,h1,h2,h3⟩:=h
 obtain⟨ns',h1',h2',h3'⟩:=h'
 refine⟨ns++ns',by simp[h1,h1'],λj l n hl hn=> ?_,by simp;omega⟩
 by_cases hj:j<ls.length
 ·rw[Qv hj]at hl
  rw[Qv (by omega)]at hn
  exact h2 j l n hl hn
 ·rw[Qx (by omega)]at hl
  rw[Qx (by omega),h1]at hn
  exact h2' _ l n hl hn
theorem Bks.one{t:Ty V.ι}{x:den V.N t}{m:Nat}(h:Bk V t x m):Bks V [⟨t,x⟩] m:=
 ⟨[m],rfl,λj l n hl hn=>by
  cases j with
  |zero=>simp at hl hn;subst hl;subst hn;exact h
  |succ j=>simp at hl,by simp⟩
def Rd(M:Mem)(τ:Ty V.ι)(cs:List Value)(m:Nat):Prop:=
 ∃y:den V.N τ,Ok V τ y/\iW M cs (bC V τ y)/\(bC V τ y).map (·.t)=vE V τ/\(∀l∈bC V τ y,Ok V l.t l.x)/\Bk V τ y m/\Bks V (bC V τ y) m
theorem n9(F:CL V P){M:Mem}{rd:TypeId->List Value->Nat->Prop}(hrd:∀t τ cs m,V.ty t=some τ->noF V τ=true->rd t cs m->Rd (V:=V) M τ cs m){cs:List Value}:∀(fs:List Field) (ms:List Nat) (off:Nat) (l:List (Ty V.ι)),
 J_ V P off fs=some l->(∀τ∈l,noF V τ=true)->ms.length=fs.length->(∀(j:Nat) (f:Field) (m:Nat),fs[j]?=some f->ms[j]?=some m->rd f.type ((cs.drop f.offset).take (P.cellsOf f.type)) m)->
 ∃(n:Nat) (ls:List (dB V.N)),ls.map (·.t)=l/\iW M ((cs.drop off).take n) ls/\(∀x∈ls,Ok V x.t x.x)/\n=ls.length/\Bks V ls ms.sum
 |[],ms,off,l,h,_,hm,_=>by
  simp[J_]at h;subst h
  exact⟨0,[],rfl,⟨rfl,λi c l hc=>by simp at hc⟩,(λx hx=>nomatch hx),rfl,[],rfl,λj l n hl=>by simp at hl,by simp⟩
 |f::fs,[],off,l,h,_,hm,_=>by simp at hm
 |f::fs,m::ms,off,l,h,hnf,hm,hf=>by
  simp only[J_]at h
  split at h
  ·rename_i τ hτ
   split at h
   ·rename_i hc
    obtain⟨ho,hsz⟩:=hc
    split at h
    ·rename_i l' hl'
     simp at h;subst h
     obtain⟨n,ls,a1,a2,a3,a4,a5⟩:=n9 F hrd fs ms _ l' hl' (λτ hτ=>hnf τ (RY _ hτ)) (by simpa using hm) λj g m hg hm=>hf (j+1) g m (by simpa using hg) (by simpa using hm)
     obtain⟨y,b1,b2,b3,b4,b5,b6⟩:=hrd f.type τ _ m hτ (by
      cases τ with
      |st j=>exact(F.nof j).trans (Qq.2 λτ hτ=>hnf τ (Rz _ hτ))
      |_=>first|rfl|exact hnf _ (Rz _ (by simp[vE]))) (hf 0 f m rfl rfl)
     rw[ho,hsz]at b2
     refine⟨tsz V.sz τ+n,bC V τ y++ls,by simp[a1,b3],?_,λx hx=> ?_,by simp[gn,a4],by rw[List.sum_cons];exact b6.app a5⟩
     ·have e:(cs.drop off).take (tsz V.sz τ+n)=(cs.drop off).take (tsz V.sz τ)++(cs.drop (off+tsz V.sz τ)).take n:=by
       rw[List.take_add,Ry]
      rw[e]
      exact b2.app a2
     ·rcases Q0.1 hx with hx|hx
      ·exact b4 x hx
      ·exact a3 x hx
    ·cases h
   ·cases h
  ·cases h
theorem sV{t:TypeId}{fs:Array Field}(hu:P.underlying t=some (.struct fs)){fuel:Nat}{cs:List Value}{x:DataW H0×List MemPlace}(h:DataW.trod enc P W base spare held (fuel+1) t cs=some x):
 cs.length=P.cellsOf t/\∃ds:List (DataW H0),x.1= .agg ds/\ds.length=fs.toList.length/\∀(i:Nat) (f:Field),fs.toList[i]?=some f->∃y,ds[i]?=some y.1/\DataW.trod enc P W base spare held fuel f.type ((cs.drop f.offset).take (P.cellsOf f.type))=some y:=by
 unfold DataW.trod at h
 rw[hu]at h
 simp only[]at h
 split at h
 ·rename_i hl
  rw[Qr]at h
  obtain⟨ys,hm,hx⟩:=h
  subst hx
  refine⟨hl,ys.map (·.1),rfl,by rw[Qg,(gg hm).1],λi f hf=> ?_⟩
  obtain⟨y,hy1,hy⟩:=(gg hm).2 i f hf
  exact⟨y,by rw[Qh,hy1];rfl,hy⟩
 ·cases h
theorem uC{t e:TypeId}(hu:P.underlying t=some (.slice e)){fuel:Nat}{cs:List Value}{x:DataW H0×List MemPlace}(h:DataW.trod enc P W base spare held (fuel+1) t cs=some x):
 (cs=[.slice none 0 0]/\x.1= .nil)\/∃a len cap,cs=[.slice (some a) len cap]/\len<=cap/\cap<=maxLen/\∃ds sp:List (DataW H0),x.1= .slice ds sp/\ds.length=len/\
   ∀i,i<len->∃row y,W.cells? base (a.add (i *P.cellsOf e)) (P.cellsOf e)=some row/\DataW.trod enc P W base spare held fuel e row=some y/\ds[i]?=some y.1:=by
 unfold DataW.trod at h
 rw[hu]at h
 simp only[]at h
 split at h
 all_goals first
  |(simp only[Qd,reduceCtorEq]at *;done)
  |(left;simp only[Qd]at h;exact⟨rfl,by rw[<-h]⟩)
  |(rename_i a len cap hx
    simp only[Qd,TypeDesc.slice.injEq]at hx
    subst hx
    right
    split at h
    ·rename_i hc
     rw[RF]at h
     obtain⟨ys,hm,h⟩:=h
     rw[Qr]at h
     obtain⟨rest,_,h⟩:=h
     subst h
     refine⟨a,len,cap,rfl,hc.2.1,hc.2.2,ys.map (·.1),rest.map (·.1),rfl,by rw[Qg,(gg hm).1,List.length_range],λi hi=> ?_⟩
     obtain⟨y,hy1,hy⟩:=(gg hm).2 i i (by rw[Ru hi])
     rw[RF]at hy
     obtain⟨row,h1,h2⟩:=hy
     exact⟨row,y,h1,h2,by rw[Qh,hy1];rfl⟩
    ·cases h)
  |skip
theorem ju{H:Type}(d:DataW H):1<=dw d:=by
 cases d with
 |lit l=>cases l<;>simp[dw]
 |_=>simp[dw]
theorem sU{t:TypeId}(hu:P.underlying t=some .string){fuel:Nat}{cs:List Value}{x:DataW H0×List MemPlace}(h:DataW.trod enc P W base spare held fuel t cs=some x):
 ∃s,cs=[.string s]/\s.size<=maxLen/\dw x.1=s.size+1:=by
 cases fuel with
 |zero=>cases h
 |succ fuel=>
  obtain⟨s,rfl,hs⟩:=uD hu h
  refine⟨s,rfl,hs,?_⟩
  unfold DataW.trod at h
  rw[hu]at h
  simp only[]at h
  rw[TP hs]at h
  cases h
  show dw (.lit (.string s.data.toList))=s.data.size+1
  rw[dw,RB]
theorem na(τ:Ty V.ι)(y:den V.N τ):bN V.sz V.enc τ y=(bC V τ y).map λl=>aY V.sz V.enc l.t l.x:=cN τ y
theorem EG(F:CL V P):∀(fuel:Nat) (t:TypeId) (τ:Ty V.ι) (cs:List Value) (x:DataW H0×List MemPlace),V.ty t=some τ->noF V τ=true->DataW.trod enc P W base spare held fuel t cs=some x->Rd (fN W) τ cs (dw x.1):=by
 intro fuel
 induction fuel using Tc with
 |ind fuel ih=>
 intro t τ cs x hty hn h
 have hf:=F.ty t τ hty hn
 cases τ with
 |mp k v=>exact hf.elim
 |er=>exact hf.elim
 |op e=>exact hf.elim
 |fnc=>exact hf.elim
 |fno=>exact hf.elim
 |ar n e=>exact hf.elim
 |int k=>
  obtain⟨n,rfl,hw⟩:=EH hf h
  refine⟨n, .int hw,⟨rfl,λi c l hc hl=> ?_⟩,rfl,λl hl=> ?_, .int (ju _), .one (.int (ju _))⟩
  ·cases i with
   |zero=>simp[bC]at hc hl;subst hc;subst hl;exact .v _
   |succ i=>simp at hc
  ·simp[bC]at hl;subst hl;exact .int hw
 |bool=>
  obtain⟨b,rfl⟩:=Bt hf h
  refine⟨b, .bool b,⟨rfl,λi c l hc hl=> ?_⟩,rfl,λl hl=> ?_, .bool (ju _), .one (.bool (ju _))⟩
  ·cases i with
   |zero=>simp[bC]at hc hl;subst hc;subst hl;exact .v _
   |succ i=>simp at hc
  ·simp[bC]at hl;subst hl;exact .bool b
 |str=>
  obtain⟨s,rfl,hs,hb⟩:=sU hf h
  refine⟨s, .str hs,⟨rfl,λi c l hc hl=> ?_⟩,rfl,λl hl=> ?_, .str (TF hb.symm), .one (.str (TF hb.symm))⟩
  ·cases i with
   |zero=>simp[bC]at hc hl;subst hc;subst hl;exact .v _
   |succ i=>simp at hc
  ·simp[bC]at hl;subst hl;exact .str hs
 |st i=>
  obtain⟨fs,hu,hsz,hfl⟩:=hf
  cases fuel with
  |zero=>cases h
  |succ fuel=>
   obtain⟨hl,ds,hx,hdl,hr⟩:=sV hu h
   obtain⟨n,ls,a1,a2,a3,a4,a5⟩:=n9 F (M:=fN W) (rd:=λt cs m=>∃y,DataW.trod enc P W base spare held fuel t cs=some y/\m=dw y.1) (λt τ cs m hτ hn ⟨y,hy,hm⟩=>hm▸ih fuel (by omega) t τ cs y hτ hn hy) fs.toList (ds.map dw) 0 _ hfl (λτ hτ=>Qq.1 ((F.nof _).symm.trans hn) τ hτ)
    (by rw[Qg,hdl])
    (λj f m hf hm=>by
      obtain⟨y,hy1,hy⟩:=hr j f hf
      rw[Qh,hy1]at hm
      exact⟨y,hy,by simpa using hm.symm⟩)
   obtain⟨y,hy⟩:=F.of i ls a1
   have hc:=V.of_cells i ls y hy
   have hn:n=cs.length:=by rw[a4,<-hc,V.len_cells,hl,hsz]
   rw[QV,QP (by omega)]at a2
   have hdb:dw x.1=(ds.map dw).sum+1:=by rw[hx,dw,kj]
   obtain⟨ns,c1,c2,c3⟩:=a5
   refine⟨y, .st (by rw[hc];exact a3),by simpa only[bC,hc]using a2,by simpa only[bC,hc,vE]using a1,by simpa only[bC,hc]using a3, .st ns (by rw[hc];exact c1) (by rw[hc];exact c2) (by omega),ns,by simpa only[bC,hc]using c1,by simpa only[bC,hc]using c2,by omega⟩
 |sl e=>
  obtain⟨te,hu,hte,hsz,hpos⟩:=hf
  have hpos:0<tsz V.sz e:=by simpa[RN]using hpos
  cases fuel with
  |zero=>cases h
  |succ fuel=>
   have fin:∀(c3:Value) (ys:List (den V.N e)),ys.length<=maxLen->(∀y∈ys,Ok V e y)->cS (fN W) c3 (aY V.sz V.enc (.sl e) ys)->Bk V (.sl e) ys (dw x.1)->Rd (V:=V) (fN W) (.sl e) [c3] (dw x.1):=by
    intro c3 ys h1 h2 h3 h4
    refine⟨ys, .sl h1 h2,⟨rfl,λi c l hc hl=> ?_⟩,rfl,λl hl=> ?_,h4, .one h4⟩
    ·cases i with
     |zero=>simp[bC]at hc hl;subst hc;subst hl;exact h3
     |succ i=>simp at hc
    ·simp[bC]at hl;subst hl;exact .sl h1 h2
   rcases uC hu h with⟨h4,hx⟩|⟨a,len,cap,h4,hlc,hcm,ds,sp,hx,hdl,hr⟩
   ·subst h4
    exact fin _ [] (by simp) (λy hy=>by cases hy) (.slnil _) (.sl [] rfl (λi x n hx=>by simp at hx) (by rw[hx];simp[dw]))
   ·subst h4
    rw[hsz]at hr
    obtain⟨ys,hyl,hys⟩:=Ao (α:=den V.N e) (R:=λi y=>∃row d,W.cells? base (a.add (i *tsz V.sz e)) (tsz V.sz e)=some row/\Ok V e y/\iW (fN W) row (bC V e y)/\ds[i]?=some d/\Bk V e y (dw d)) len
     λi hi=>by
      obtain⟨row,z,g1,g2,g3⟩:=hr i hi
      obtain⟨y,b1,b2,_,_,b5,_⟩:=ih fuel (by omega) te e row z hte (by simpa[noF]using hn) g2
      exact⟨y,row,z.1,g1,b1,b2,g3,b5⟩
    have hdb:dw x.1=(ds.map dw).sum+dbulkL sp+1:=by rw[hx,dw,kj]
    refine fin _ ys (by omega) (λy hy=> ?_) (cS.of_slice (b:=base) hpos hlc (by rw[Qg,hyl]) (λr hr'=> ?_) λi hi=> ?_) (.sl (ds.map dw) (by rw[Qg,hdl,hyl]) (λi y n hy hn=> ?_) (by omega))
    ·obtain⟨i,hi,rfl⟩:=Sr hy
     obtain⟨row,_,_,e1,_⟩:=hys i _ (Qi hi)
     exact e1
    ·obtain⟨y,_,rfl⟩:=QD.1 hr'
     rw[na,Qg,gn]
    ·obtain⟨row,_,e0,_,e2,_⟩:=hys i (ys[i]'(by omega)) (Qi (by omega))
     refine⟨row,e0,λr hr' j c y hc hy=> ?_⟩
     rw[Qh,Qi (by omega:i<ys.length)]at hr'
     simp at hr'
     subst hr'
     rw[na,Qh,Qr]at hy
     obtain⟨l,hl,rfl⟩:=hy
     exact e2.2 j c l hc hl
    ·obtain⟨row,d,_,_,_,e3,e4⟩:=hys i y hy
     rw[Qh,e3]at hn
     simp at hn
     subst hn
     exact e4
theorem fP{r:Reach}{t:TypeId}{cs:Array Value}(h:(∃k,P.underlying t=some (.int k))\/P.underlying t=some .bool\/P.underlying t=some .string\/∃e,P.underlying t=some (.slice e)):
 ¬Value.okWide P W r base t (.agg cs):=by
 intro hv
 unfold Value.okWide at hv
 rcases h with⟨k,h⟩|h|h|⟨e,h⟩<;>rw[h]at hv<;>simp only[Cell.okWide,Cell.ok,h]at hv
theorem nU(F:CL V P){r:Reach}{b0:Nat}{t:TypeId}{τ:Ty V.ι}{v:Value}{d:DataW H0}{p:List MemPlace}(hty:V.ty t=some τ)(hok:Value.okWide P W r b0 t v)(h:DataW.Trod enc P W base spare held t v d p)(hn:noF V τ=true:=by rfl):
 ∃y:den V.N τ,Ok V τ y/\cS (fN W) v (aY V.sz V.enc τ y)/\Bk V τ y (dw d):=by
 obtain⟨fuel,h⟩:=h
 obtain⟨y,h1,h2,_,_,h5,_⟩:=EG F fuel t τ _ _ hty hn h
 refine⟨y,h1,?_,h5⟩
 have hf:=F.ty t τ hty hn
 have cell:(∀cs,v≠ .agg cs)->bC V τ y=[⟨τ,y⟩]->cS (fN W) v (aY V.sz V.enc τ y):=by
  intro hn hr
  rw[hr]at h2
  have hc:v.cells.toList=[v]:=by cases v<;>first|rfl|exact(hn _ rfl).elim
  rw[hc]at h2
  exact h2.2 0 v ⟨τ,y⟩ rfl rfl
 cases τ with
 |mp k v=>exact hf.elim
 |er=>exact hf.elim
 |op e=>exact hf.elim
 |fnc=>exact hf.elim
 |fno=>exact hf.elim
 |ar n e=>exact hf.elim
 |int k=>exact cell (λcs e=>by subst e;exact fP (.inl ⟨k,hf⟩) hok) rfl
 |bool=>exact cell (λcs e=>by subst e;exact fP (.inr (.inl hf)) hok) rfl
 |str=>exact cell (λcs e=>by subst e;exact fP (.inr (.inr (.inl hf))) hok) rfl
 |sl e=>
  obtain⟨te,hu,_⟩:=hf
  exact cell (λcs e=>by subst e;exact fP (.inr (.inr (.inr ⟨te,hu⟩))) hok) rfl
 |st i=>
  obtain⟨fs,hu,_,_⟩:=hf
  unfold Value.okWide at hok
  rw[hu]at hok
  obtain⟨cs,rfl,_⟩:=hok
  simp only[Value.cells]at h2
  simp only[aY]
  rw[V.enc_cells]
  refine .agg cs _ (by rw[Qg];have:=h2.1;simpa[bC]using this) λk c x hc hx=> ?_
  rw[Qh,Qr]at hx
  obtain⟨l,hl,rfl⟩:=hx
  exact h2.2 k c l (by simpa using hc) hl
end
end Go.Tx
end
section
namespace Go.Proofs.YtcghbgmmgcljkaaGreatDoor
open Go.Awp Go.Shelf
set_option maxRecDepth 100000
theorem K6:(Rows.laid_strings_asciiSpace:DataW Unit)=Lib.tabData .u8 Lib.asciiSpaceTab:=by kernel_rfl
def L5:List (String×DataW Unit):=[("unicode.White_Space",Rows.laid_unicode_White_Space),("strings.asciiSpace",Rows.laid_strings_asciiSpace)]
theorem s7{P:Program}{w:World}{name:String}{k:IntKind}{zs:List Int}{g:Nat}{t e:TypeId}{n:Nat}(hg:P.globalNamed name=some g)(hty:(P.globals[g]?).map (·.type)=some t)(ht:P.underlying t=some (.array n e))(he:P.underlying e=some (.int k))(hce:P.cellsOf e=1)(hct:P.cellsOf t=n)
 (h:Lib.VarReads P w name (Lib.tabData k zs)):Lib.TabIs P w name k zs:=by
 obtain⟨g',t',cs,fuel,p,hg',ht',hvar,hd⟩:=h
 obtain rfl:=Rc (hg.symm.trans hg')
 obtain rfl:=Rc (hty.symm.trans ht')
 unfold Lib.TabIs
 rw[hvar,<-Lib.cells_of_tab ht he hce hct hd]
theorem zX{W:World}(h:laidMetH Tryz.prog L5 W):GOk (fN W) W:=by
 rw[MakeChecks.laidMetH_plain _ _ _ (by kernel_rfl)]at h
 have h3:Lib.VarReads Tryz.prog W "strings.asciiSpace" (Lib.tabData .u8 Lib.asciiSpaceTab):=K6▸Lib.laidMet.reads h (.tail _ (.head _))
 have h6:Lib.TabIs Tryz.prog W "strings.asciiSpace" .u8 Lib.asciiSpaceTab:=by
  obtain⟨g,t,cs,fuel,p,hg,ht,_,_⟩:=id h3
  exact s7 (g:=0) (t:=198) (e:=5) (n:=256) (by kernel_rfl) (by kernel_rfl) (by kernel_rfl) (by kernel_rfl) (by kernel_rfl) (by kernel_rfl) h3
 refine⟨IG h6,λb hb=> ?_,λp hp=> ?_⟩
 ·cases hb
 ·have hp:p∈[(0,256)]:=hp
  simp only[Qu,List.not_mem_nil,or_false]at hp
  subst hp
  have hn:Tryz.prog.globalNamed "strings.asciiSpace" =some 0:=by kernel_rfl
  refine⟨⟨_,h6.cell hn 0 (by rw[Lib.asciiSpaceTab_length];decide)⟩,?_⟩
  unfold Lib.TabIs World.var? at h6
  rw[hn]at h6
  simp only[Qe]at h6
  split at h6
  ·rename_i cs t fr hw
   cases h6
   exact⟨_,_,_,hw,by simp[Lib.asciiSpaceTab_length]⟩
  ·cases h6
mutual
theorem iz{H:Type}:∀d:DataW H,Go.Tx.dw d<=Rows.uptoBulk d
 | .lit l=>by cases l<;>simp[Go.Tx.dw,Rows.uptoBulk]
 | .nil=>by simp[Go.Tx.dw,Rows.uptoBulk]
 | .ptr d=>by have:=iz d;simp only[Go.Tx.dw,Rows.uptoBulk];omega
 | .slice es sp=>by have h1:=dbulkL_le es;have h2:=dbulkL_le sp;simp only[Go.Tx.dw,Rows.uptoBulk];omega
 | .agg ps=>by have:=dbulkL_le ps;simp only[Go.Tx.dw,Rows.uptoBulk];omega
 | .iface _ d=>by have:=iz d;simp only[Go.Tx.dw,Rows.uptoBulk];omega
 | .map es=>by simp[Go.Tx.dw,Rows.uptoBulk]
 | .held h=>by simp[Go.Tx.dw,Rows.uptoBulk]
theorem dbulkL_le{H:Type}:∀l:List (DataW H),Go.Tx.dbulkL l<=Rows.uptoBulkAll l
 |[]=>by simp[Go.Tx.dbulkL,Rows.uptoBulkAll]
 |d::r=>by have h1:=iz d;have h2:=dbulkL_le r;simp only[Go.Tx.dbulkL,Rows.uptoBulkAll];omega
end
end Go.Proofs.YtcghbgmmgcljkaaGreatDoor
end
section
namespace Go.Tx
open Go.Awp
variable [Inhabited GMem]
section
variable {V:gW}
end
end Go.Tx
end
section
namespace Go.Proofs.YtcghbgmmgcljkaaGreatDoor.Ty
open Go.Awp
theorem mixed:Tryz.prog.follows .mixedOrders=true:=by kernel_rfl
end Go.Proofs.YtcghbgmmgcljkaaGreatDoor.Ty
end
section
namespace Go.Proofs.YtcghbgmmgcljkaaGreatDoor
open Go.Awp Go.Tx
structure aG where
 base:Int
 bits:Int
 name0:ByteArray
 opt:Bool
 err:Bool
noncomputable def aG.enc(x:aG):List D:=[.v (.int .i64 x.base)]++[.v (.int .i64 x.bits)]++[.v (.string x.name0)]++[.v (.bool x.opt)]++[.v (.bool x.err)]
noncomputable def aG.encd(x:aG):List DD:=[.d (.v (.int .i64 x.base))]++[.d (.v (.int .i64 x.bits))]++[.d (.v (.string x.name0))]++[.d (.v (.bool x.opt))]++[.d (.v (.bool x.err))]
theorem aG.encd_toL(x:aG):DD.toL x.encd=some x.enc:=(DD.toL_app (DD.toL_app (DD.toL_app (DD.toL_app (ew _) (ew _)) (ew _)) (ew _)) (ew _))
structure aD where
 type0:aG
 n:Int
 null:Bool
 err:ByteArray
 of0:aG
noncomputable def aD.enc(x:aD):List D:=aG.enc x.type0++[.v (.int .i64 x.n)]++[.v (.bool x.null)]++[.v (.string x.err)]++aG.enc x.of0
noncomputable def aD.encd(x:aD):List DD:=aG.encd x.type0++[.d (.v (.int .i64 x.n))]++[.d (.v (.bool x.null))]++[.d (.v (.string x.err))]++aG.encd x.of0
theorem aD.encd_toL(x:aD):DD.toL x.encd=some x.enc:=(DD.toL_app (DD.toL_app (DD.toL_app (DD.toL_app (aG.encd_toL _) (ew _)) (ew _)) (ew _)) (aG.encd_toL _))
structure ff where
 name0:ByteArray
 args:(List aD)
 checks:Bool
noncomputable def ff.enc(x:ff):List D:=[.v (.string x.name0)]++[.sl 13 (RM (λy=>aD.enc y) x.args)]++[.v (.bool x.checks)]
noncomputable def ff.encd(x:ff):List DD:=[.d (.v (.string x.name0))]++[.sl 31 13 (RM (λy=>aD.encd y) x.args)]++[.d (.v (.bool x.checks))]
theorem ff.encd_toL(x:ff):DD.toL x.encd=some x.enc:=(DD.toL_app (DD.toL_app (ew _) (IX (GP (λy=>(aD.encd_toL y)) _))) (ew _))
structure bP where
 kind:Int
 value:aD
 stop:Int
 trace:(List ByteArray)
noncomputable def bP.enc(x:bP):List D:=[.v (.int .i64 x.kind)]++aD.enc x.value++[.v (.int .i64 x.stop)]++[.sl 1 (RM (λy=>[.v (.string y)]) x.trace)]
noncomputable def bP.encd(x:bP):List DD:=[.d (.v (.int .i64 x.kind))]++aD.encd x.value++[.d (.v (.int .i64 x.stop))]++[.sl 9 1 (RM (λy=>[.d (.v (.string y))]) x.trace)]
theorem bP.encd_toL(x:bP):DD.toL x.encd=some x.enc:=(DD.toL_app (DD.toL_app (DD.toL_app (ew _) (aD.encd_toL _)) (ew _)) (IX (GP (λy=>(ew _)) _)))
structure aM where
 op:Int
 a:Int
 b:Int
 type0:aG
 name0:ByteArray
noncomputable def aM.enc(x:aM):List D:=[.v (.int .i64 x.op)]++[.v (.int .i64 x.a)]++[.v (.int .i64 x.b)]++aG.enc x.type0++[.v (.string x.name0)]
noncomputable def aM.encd(x:aM):List DD:=[.d (.v (.int .i64 x.op))]++[.d (.v (.int .i64 x.a))]++[.d (.v (.int .i64 x.b))]++aG.encd x.type0++[.d (.v (.string x.name0))]
theorem aM.encd_toL(x:aM):DD.toL x.encd=some x.enc:=(DD.toL_app (DD.toL_app (DD.toL_app (DD.toL_app (ew _) (ew _)) (ew _)) (aG.encd_toL _)) (ew _))
structure aB where
 name0:ByteArray
 params:Int
 places:Int
 type0:aG
 code:(List aM)
noncomputable def aB.enc(x:aB):List D:=[.v (.string x.name0)]++[.v (.int .i64 x.params)]++[.v (.int .i64 x.places)]++aG.enc x.type0++[.sl 9 (RM (λy=>aM.enc y) x.code)]
noncomputable def aB.encd(x:aB):List DD:=[.d (.v (.string x.name0))]++[.d (.v (.int .i64 x.params))]++[.d (.v (.int .i64 x.places))]++aG.encd x.type0++[.sl 44 9 (RM (λy=>aM.encd y) x.code)]
theorem aB.encd_toL(x:aB):DD.toL x.encd=some x.enc:=(DD.toL_app (DD.toL_app (DD.toL_app (DD.toL_app (ew _) (ew _)) (ew _)) (aG.encd_toL _)) (IX (GP (λy=>(aM.encd_toL y)) _)))
structure Item where
 n:Int
 null:Bool
 err:ByteArray
noncomputable def Item.enc(x:Item):List D:=[.v (.int .i64 x.n)]++[.v (.bool x.null)]++[.v (.string x.err)]
noncomputable def Item.encd(x:Item):List DD:=[.d (.v (.int .i64 x.n))]++[.d (.v (.bool x.null))]++[.d (.v (.string x.err))]
theorem Item.encd_toL(x:Item):DD.toL x.encd=some x.enc:=(DD.toL_app (DD.toL_app (ew _) (ew _)) (ew _))
structure Log where
 kind:Int
 stop:Int
 steps:Int
 calls:(List Int)
 high:Int
 seen:(List Item)
 place:Int
noncomputable def Log.enc(x:Log):List D:=[.v (.int .i64 x.kind)]++[.v (.int .i64 x.stop)]++[.v (.int .i64 x.steps)]++[.sl 1 (RM (λy=>[.v (.int .i64 y)]) x.calls)]++[.v (.int .i64 x.high)]++[.sl 3 (RM (λy=>Item.enc y) x.seen)]++[.v (.int .i64 x.place)]
noncomputable def Log.encd(x:Log):List DD:=[.d (.v (.int .i64 x.kind))]++[.d (.v (.int .i64 x.stop))]++[.d (.v (.int .i64 x.steps))]++[.sl 3 1 (RM (λy=>[.d (.v (.int .i64 y))]) x.calls)]++[.d (.v (.int .i64 x.high))]++[.sl 65 3 (RM (λy=>Item.encd y) x.seen)]++[.d (.v (.int .i64 x.place))]
theorem Log.encd_toL(x:Log):DD.toL x.encd=some x.enc:=(DD.toL_app (DD.toL_app (DD.toL_app (DD.toL_app (DD.toL_app (DD.toL_app (ew _) (ew _)) (ew _)) (IX (GP (λy=>(ew _)) _))) (ew _)) (IX (GP (λy=>(Item.encd_toL y)) _))) (ew _))
structure bH where
 kind:Int
 why:Int
 deriving DecidableEq
noncomputable def bH.enc(x:bH):List D:=[.v (.int .i64 x.kind)]++[.v (.int .i64 x.why)]
noncomputable def bH.encd(x:bH):List DD:=[.d (.v (.int .i64 x.kind))]++[.d (.v (.int .i64 x.why))]
theorem bH.encd_toL(x:bH):DD.toL x.encd=some x.enc:=(DD.toL_app (ew _) (ew _))
structure bI where
 a:Bool
 b:Bool
 kind:Bool
 name0:Bool
 deriving DecidableEq
noncomputable def bI.enc(x:bI):List D:=[.v (.bool x.a)]++[.v (.bool x.b)]++[.v (.bool x.kind)]++[.v (.bool x.name0)]
noncomputable def bI.encd(x:bI):List DD:=[.d (.v (.bool x.a))]++[.d (.v (.bool x.b))]++[.d (.v (.bool x.kind))]++[.d (.v (.bool x.name0))]
theorem bI.encd_toL(x:bI):DD.toL x.encd=some x.enc:=(DD.toL_app (DD.toL_app (DD.toL_app (ew _) (ew _)) (ew _)) (ew _))
structure aP where
 at0:Int
 height:Int
 deriving DecidableEq
noncomputable def aP.enc(x:aP):List D:=[.v (.int .i64 x.at0)]++[.v (.int .i64 x.height)]
noncomputable def aP.encd(x:aP):List DD:=[.d (.v (.int .i64 x.at0))]++[.d (.v (.int .i64 x.height))]
theorem aP.encd_toL(x:aP):DD.toL x.encd=some x.enc:=(DD.toL_app (ew _) (ew _))
structure mu where
 takes:Int
 puts:Int
 goes:Bool
 deriving DecidableEq
noncomputable def mu.enc(x:mu):List D:=[.v (.int .i64 x.takes)]++[.v (.int .i64 x.puts)]++[.v (.bool x.goes)]
noncomputable def mu.encd(x:mu):List DD:=[.d (.v (.int .i64 x.takes))]++[.d (.v (.int .i64 x.puts))]++[.d (.v (.bool x.goes))]
theorem mu.encd_toL(x:mu):DD.toL x.encd=some x.enc:=(DD.toL_app (DD.toL_app (ew _) (ew _)) (ew _))
structure b9 where
 signed:Bool
 bits:Int
 deriving DecidableEq
noncomputable def b9.enc(x:b9):List D:=[.v (.bool x.signed)]++[.v (.int .i64 x.bits)]
noncomputable def b9.encd(x:b9):List DD:=[.d (.v (.bool x.signed))]++[.d (.v (.int .i64 x.bits))]
theorem b9.encd_toL(x:b9):DD.toL x.encd=some x.enc:=(DD.toL_app (ew _) (ew _))
structure jo where
 kind:Int
 at0:Int
 text:ByteArray
noncomputable def jo.enc(x:jo):List D:=[.v (.int .i64 x.kind)]++[.v (.int .i64 x.at0)]++[.v (.string x.text)]
noncomputable def jo.encd(x:jo):List DD:=[.d (.v (.int .i64 x.kind))]++[.d (.v (.int .i64 x.at0))]++[.d (.v (.string x.text))]
theorem jo.encd_toL(x:jo):DD.toL x.encd=some x.enc:=(DD.toL_app (DD.toL_app (ew _) (ew _)) (ew _))
structure aW where
 whole:(Option Nat)
 into:(Option Nat)
noncomputable def aW.enc(x:aW):List D:=[CG x.whole]++[CG x.into]
noncomputable def aW.encd(x:aW):List DD:=[.d (CG x.whole)]++[.d (CG x.into)]
theorem aW.encd_toL(x:aW):DD.toL x.encd=some x.enc:=(DD.toL_app (ew _) (ew _))
structure vi where
 start:Int
 end0:Int
 deriving DecidableEq
noncomputable def vi.enc(x:vi):List D:=[.v (.int .i64 x.start)]++[.v (.int .i64 x.end0)]
noncomputable def vi.encd(x:vi):List DD:=[.d (.v (.int .i64 x.start))]++[.d (.v (.int .i64 x.end0))]
theorem vi.encd_toL(x:vi):DD.toL x.encd=some x.enc:=(DD.toL_app (ew _) (ew _))
structure dq where
 lo:Int
 hi:Int
 stride:Int
 deriving DecidableEq
noncomputable def dq.enc(x:dq):List D:=[.v (.int .u16 x.lo)]++[.v (.int .u16 x.hi)]++[.v (.int .u16 x.stride)]
noncomputable def dq.encd(x:dq):List DD:=[.d (.v (.int .u16 x.lo))]++[.d (.v (.int .u16 x.hi))]++[.d (.v (.int .u16 x.stride))]
theorem dq.encd_toL(x:dq):DD.toL x.encd=some x.enc:=(DD.toL_app (DD.toL_app (ew _) (ew _)) (ew _))
structure dr where
 lo:Int
 hi:Int
 stride:Int
 deriving DecidableEq
noncomputable def dr.enc(x:dr):List D:=[.v (.int .u32 x.lo)]++[.v (.int .u32 x.hi)]++[.v (.int .u32 x.stride)]
noncomputable def dr.encd(x:dr):List DD:=[.d (.v (.int .u32 x.lo))]++[.d (.v (.int .u32 x.hi))]++[.d (.v (.int .u32 x.stride))]
theorem dr.encd_toL(x:dr):DD.toL x.encd=some x.enc:=(DD.toL_app (DD.toL_app (ew _) (ew _)) (ew _))
structure cn where
 r16:(List dq)
 r32:(List dr)
 latinOffset:Int
noncomputable def cn.enc(x:cn):List D:=[.sl 3 (RM (λy=>dq.enc y) x.r16)]++[.sl 3 (RM (λy=>dr.enc y) x.r32)]++[.v (.int .i64 x.latinOffset)]
noncomputable def cn.encd(x:cn):List DD:=[.sl 225 3 (RM (λy=>dq.encd y) x.r16)]++[.sl 228 3 (RM (λy=>dr.encd y) x.r32)]++[.d (.v (.int .i64 x.latinOffset))]
theorem cn.encd_toL(x:cn):DD.toL x.encd=some x.enc:=(DD.toL_app (DD.toL_app (IX (GP (λy=>(dq.encd_toL y)) _)) (IX (GP (λy=>(dr.encd_toL y)) _))) (ew _))
inductive SN where
 |myTypeT
 |myValueT
 |askedT
 |outcomeT
 |myCodeT
 |myFuncT
 |itemT
 |logT
 |endingT
 |myShapeT
 |pointT
 |stepT
 |myIntT
 |tokenT
 |operationT
 |spanT
 |range16T
 |range32T
 |rangeTableT
 deriving DecidableEq
abbrev NN:SN->Type
 | .myTypeT=>aG
 | .myValueT=>aD
 | .askedT=>ff
 | .outcomeT=>bP
 | .myCodeT=>aM
 | .myFuncT=>aB
 | .itemT=>Item
 | .logT=>Log
 | .endingT=>bH
 | .myShapeT=>bI
 | .pointT=>aP
 | .stepT=>mu
 | .myIntT=>b9
 | .tokenT=>jo
 | .operationT=>aW
 | .spanT=>vi
 | .range16T=>dq
 | .range32T=>dr
 | .rangeTableT=>cn
noncomputable def szN:SN->Nat
 | .myTypeT=>5
 | .myValueT=>13
 | .askedT=>3
 | .outcomeT=>16
 | .myCodeT=>9
 | .myFuncT=>9
 | .itemT=>3
 | .logT=>7
 | .endingT=>2
 | .myShapeT=>4
 | .pointT=>2
 | .stepT=>3
 | .myIntT=>2
 | .tokenT=>3
 | .operationT=>2
 | .spanT=>2
 | .range16T=>3
 | .range32T=>3
 | .rangeTableT=>3
noncomputable def Oj:SN->List (Ty SN)
 | .myTypeT=>[(.int .i64),(.int .i64), .str, .bool, .bool]
 | .myValueT=>[(.int .i64),(.int .i64), .str, .bool, .bool,(.int .i64), .bool, .str,(.int .i64),(.int .i64), .str, .bool, .bool]
 | .askedT=>[.str,(.sl (.st .myValueT)), .bool]
 | .outcomeT=>[(.int .i64),(.int .i64),(.int .i64), .str, .bool, .bool,(.int .i64), .bool, .str,(.int .i64),(.int .i64), .str, .bool, .bool,(.int .i64),(.sl .str)]
 | .myCodeT=>[(.int .i64),(.int .i64),(.int .i64),(.int .i64),(.int .i64), .str, .bool, .bool, .str]
 | .myFuncT=>[.str,(.int .i64),(.int .i64),(.int .i64),(.int .i64), .str, .bool, .bool,(.sl (.st .myCodeT))]
 | .itemT=>[(.int .i64), .bool, .str]
 | .logT=>[(.int .i64),(.int .i64),(.int .i64),(.sl (.int .i64)),(.int .i64),(.sl (.st .itemT)),(.int .i64)]
 | .endingT=>[(.int .i64),(.int .i64)]
 | .myShapeT=>[.bool, .bool, .bool, .bool]
 | .pointT=>[(.int .i64),(.int .i64)]
 | .stepT=>[(.int .i64),(.int .i64), .bool]
 | .myIntT=>[.bool,(.int .i64)]
 | .tokenT=>[(.int .i64),(.int .i64), .str]
 | .operationT=>[.fno, .fno]
 | .spanT=>[(.int .i64),(.int .i64)]
 | .range16T=>[(.int .u16),(.int .u16),(.int .u16)]
 | .range32T=>[(.int .u32),(.int .u32),(.int .u32)]
 | .rangeTableT=>[(.sl (.st .range16T)),(.sl (.st .range32T)),(.int .i64)]
noncomputable def eu:(i:SN)->NN i->List (dB NN)
 | .myTypeT,x=>[⟨(.int .i64),x.base⟩,⟨(.int .i64),x.bits⟩,⟨.str,x.name0⟩,⟨.bool,x.opt⟩,⟨.bool,x.err⟩]
 | .myValueT,x=>[⟨(.int .i64),x.type0.base⟩,⟨(.int .i64),x.type0.bits⟩,⟨.str,x.type0.name0⟩,⟨.bool,x.type0.opt⟩,⟨.bool,x.type0.err⟩,⟨(.int .i64),x.n⟩,⟨.bool,x.null⟩,⟨.str,x.err⟩,⟨(.int .i64),x.of0.base⟩,⟨(.int .i64),x.of0.bits⟩,⟨.str,x.of0.name0⟩,⟨.bool,x.of0.opt⟩,⟨.bool,x.of0.err⟩]
 | .askedT,x=>[⟨.str,x.name0⟩,⟨(.sl (.st .myValueT)),x.args⟩,⟨.bool,x.checks⟩]
 | .outcomeT,x=>[⟨(.int .i64),x.kind⟩,⟨(.int .i64),x.value.type0.base⟩,⟨(.int .i64),x.value.type0.bits⟩,⟨.str,x.value.type0.name0⟩,⟨.bool,x.value.type0.opt⟩,⟨.bool,x.value.type0.err⟩,⟨(.int .i64),x.value.n⟩,⟨.bool,x.value.null⟩,⟨.str,x.value.err⟩,⟨(.int .i64),x.value.of0.base⟩,⟨(.int .i64),x.value.of0.bits⟩,⟨.str,x.value.of0.name0⟩,⟨.bool,x.value.of0.opt⟩,⟨.bool,x.value.of0.err⟩,⟨(.int .i64),x.stop⟩,⟨(.sl .str),x.trace⟩]
 | .myCodeT,x=>[⟨(.int .i64),x.op⟩,⟨(.int .i64),x.a⟩,⟨(.int .i64),x.b⟩,⟨(.int .i64),x.type0.base⟩,⟨(.int .i64),x.type0.bits⟩,⟨.str,x.type0.name0⟩,⟨.bool,x.type0.opt⟩,⟨.bool,x.type0.err⟩,⟨.str,x.name0⟩]
 | .myFuncT,x=>[⟨.str,x.name0⟩,⟨(.int .i64),x.params⟩,⟨(.int .i64),x.places⟩,⟨(.int .i64),x.type0.base⟩,⟨(.int .i64),x.type0.bits⟩,⟨.str,x.type0.name0⟩,⟨.bool,x.type0.opt⟩,⟨.bool,x.type0.err⟩,⟨(.sl (.st .myCodeT)),x.code⟩]
 | .itemT,x=>[⟨(.int .i64),x.n⟩,⟨.bool,x.null⟩,⟨.str,x.err⟩]
 | .logT,x=>[⟨(.int .i64),x.kind⟩,⟨(.int .i64),x.stop⟩,⟨(.int .i64),x.steps⟩,⟨(.sl (.int .i64)),x.calls⟩,⟨(.int .i64),x.high⟩,⟨(.sl (.st .itemT)),x.seen⟩,⟨(.int .i64),x.place⟩]
 | .endingT,x=>[⟨(.int .i64),x.kind⟩,⟨(.int .i64),x.why⟩]
 | .myShapeT,x=>[⟨.bool,x.a⟩,⟨.bool,x.b⟩,⟨.bool,x.kind⟩,⟨.bool,x.name0⟩]
 | .pointT,x=>[⟨(.int .i64),x.at0⟩,⟨(.int .i64),x.height⟩]
 | .stepT,x=>[⟨(.int .i64),x.takes⟩,⟨(.int .i64),x.puts⟩,⟨.bool,x.goes⟩]
 | .myIntT,x=>[⟨.bool,x.signed⟩,⟨(.int .i64),x.bits⟩]
 | .tokenT,x=>[⟨(.int .i64),x.kind⟩,⟨(.int .i64),x.at0⟩,⟨.str,x.text⟩]
 | .operationT,x=>[⟨.fno,x.whole⟩,⟨.fno,x.into⟩]
 | .spanT,x=>[⟨(.int .i64),x.start⟩,⟨(.int .i64),x.end0⟩]
 | .range16T,x=>[⟨(.int .u16),x.lo⟩,⟨(.int .u16),x.hi⟩,⟨(.int .u16),x.stride⟩]
 | .range32T,x=>[⟨(.int .u32),x.lo⟩,⟨(.int .u32),x.hi⟩,⟨(.int .u32),x.stride⟩]
 | .rangeTableT,x=>[⟨(.sl (.st .range16T)),x.r16⟩,⟨(.sl (.st .range32T)),x.r32⟩,⟨(.int .i64),x.latinOffset⟩]
noncomputable def CF:(i:SN)->NN i->List D
 | .myTypeT,x=>aG.enc x
 | .myValueT,x=>aD.enc x
 | .askedT,x=>ff.enc x
 | .outcomeT,x=>bP.enc x
 | .myCodeT,x=>aM.enc x
 | .myFuncT,x=>aB.enc x
 | .itemT,x=>Item.enc x
 | .logT,x=>Log.enc x
 | .endingT,x=>bH.enc x
 | .myShapeT,x=>bI.enc x
 | .pointT,x=>aP.enc x
 | .stepT,x=>mu.enc x
 | .myIntT,x=>b9.enc x
 | .tokenT,x=>jo.enc x
 | .operationT,x=>aW.enc x
 | .spanT,x=>vi.enc x
 | .range16T,x=>dq.enc x
 | .range32T,x=>dr.enc x
 | .rangeTableT,x=>cn.enc x
noncomputable def ofN:(i:SN)->List (dB NN)->Option (NN i)
 | .myTypeT,[⟨(.int .i64),a0⟩,⟨(.int .i64),a1⟩,⟨.str,a2⟩,⟨.bool,a3⟩,⟨.bool,a4⟩]=>some ⟨a0,a1,a2,a3,a4⟩
 | .myValueT,[⟨(.int .i64),a0⟩,⟨(.int .i64),a1⟩,⟨.str,a2⟩,⟨.bool,a3⟩,⟨.bool,a4⟩,⟨(.int .i64),a5⟩,⟨.bool,a6⟩,⟨.str,a7⟩,⟨(.int .i64),a8⟩,⟨(.int .i64),a9⟩,⟨.str,a10⟩,⟨.bool,a11⟩,⟨.bool,a12⟩]=>some ⟨⟨a0,a1,a2,a3,a4⟩,a5,a6,a7,⟨a8,a9,a10,a11,a12⟩⟩
 | .askedT,[⟨.str,a0⟩,⟨(.sl (.st .myValueT)),a1⟩,⟨.bool,a2⟩]=>some ⟨a0,a1,a2⟩
 | .outcomeT,[⟨(.int .i64),a0⟩,⟨(.int .i64),a1⟩,⟨(.int .i64),a2⟩,⟨.str,a3⟩,⟨.bool,a4⟩,⟨.bool,a5⟩,⟨(.int .i64),a6⟩,⟨.bool,a7⟩,⟨.str,a8⟩,⟨(.int .i64),a9⟩,⟨(.int .i64),a10⟩,⟨.str,a11⟩,⟨.bool,a12⟩,⟨.bool,a13⟩,⟨(.int .i64),a14⟩,⟨(.sl .str),a15⟩]=>some ⟨a0,⟨⟨a1,a2,a3,a4,a5⟩,a6,a7,a8,⟨a9,a10,a11,a12,a13⟩⟩,a14,a15⟩
 | .myCodeT,[⟨(.int .i64),a0⟩,⟨(.int .i64),a1⟩,⟨(.int .i64),a2⟩,⟨(.int .i64),a3⟩,⟨(.int .i64),a4⟩,⟨.str,a5⟩,⟨.bool,a6⟩,⟨.bool,a7⟩,⟨.str,a8⟩]=>some ⟨a0,a1,a2,⟨a3,a4,a5,a6,a7⟩,a8⟩
 | .myFuncT,[⟨.str,a0⟩,⟨(.int .i64),a1⟩,⟨(.int .i64),a2⟩,⟨(.int .i64),a3⟩,⟨(.int .i64),a4⟩,⟨.str,a5⟩,⟨.bool,a6⟩,⟨.bool,a7⟩,⟨(.sl (.st .myCodeT)),a8⟩]=>some ⟨a0,a1,a2,⟨a3,a4,a5,a6,a7⟩,a8⟩
 | .itemT,[⟨(.int .i64),a0⟩,⟨.bool,a1⟩,⟨.str,a2⟩]=>some ⟨a0,a1,a2⟩
 | .logT,[⟨(.int .i64),a0⟩,⟨(.int .i64),a1⟩,⟨(.int .i64),a2⟩,⟨(.sl (.int .i64)),a3⟩,⟨(.int .i64),a4⟩,⟨(.sl (.st .itemT)),a5⟩,⟨(.int .i64),a6⟩]=>some ⟨a0,a1,a2,a3,a4,a5,a6⟩
 | .endingT,[⟨(.int .i64),a0⟩,⟨(.int .i64),a1⟩]=>some ⟨a0,a1⟩
 | .myShapeT,[⟨.bool,a0⟩,⟨.bool,a1⟩,⟨.bool,a2⟩,⟨.bool,a3⟩]=>some ⟨a0,a1,a2,a3⟩
 | .pointT,[⟨(.int .i64),a0⟩,⟨(.int .i64),a1⟩]=>some ⟨a0,a1⟩
 | .stepT,[⟨(.int .i64),a0⟩,⟨(.int .i64),a1⟩,⟨.bool,a2⟩]=>some ⟨a0,a1,a2⟩
 | .myIntT,[⟨.bool,a0⟩,⟨(.int .i64),a1⟩]=>some ⟨a0,a1⟩
 | .tokenT,[⟨(.int .i64),a0⟩,⟨(.int .i64),a1⟩,⟨.str,a2⟩]=>some ⟨a0,a1,a2⟩
 | .operationT,[⟨.fno,a0⟩,⟨.fno,a1⟩]=>some ⟨a0,a1⟩
 | .spanT,[⟨(.int .i64),a0⟩,⟨(.int .i64),a1⟩]=>some ⟨a0,a1⟩
 | .range16T,[⟨(.int .u16),a0⟩,⟨(.int .u16),a1⟩,⟨(.int .u16),a2⟩]=>some ⟨a0,a1,a2⟩
 | .range32T,[⟨(.int .u32),a0⟩,⟨(.int .u32),a1⟩,⟨(.int .u32),a2⟩]=>some ⟨a0,a1,a2⟩
 | .rangeTableT,[⟨(.sl (.st .range16T)),a0⟩,⟨(.sl (.st .range32T)),a1⟩,⟨(.int .i64),a2⟩]=>some ⟨a0,a1,a2⟩
 |_,_=>none
noncomputable def tyN:TypeId->Option (Ty SN)
 |2=>some (.int .i64)
 |3=>some (.int .i64)
 |4=>some .bool
 |5=>some (.int .u8)
 |6=>some (.int .u8)
 |9=>some .str
 |10=>some .str
 |11=>some .str
 |12=>some (.int .u64)
 |21=>some (.int .i32)
 |22=>some (.sl (.st .myFuncT))
 |23=>some (.sl (.st .myValueT))
 |25=>some (.st .askedT)
 |29=>some (.st .myTypeT)
 |31=>some (.st .myValueT)
 |32=>some (.sl .str)
 |34=>some (.st .outcomeT)
 |35=>some (.int .i64)
 |40=>some (.sl (.st .myCodeT))
 |42=>some (.st .myFuncT)
 |44=>some (.st .myCodeT)
 |52=>some (.sl (.int .i64))
 |65=>some (.st .itemT)
 |66=>some (.sl (.st .itemT))
 |68=>some (.st .logT)
 |72=>some (.op (.st .endingT))
 |85=>some (.st .endingT)
 |98=>some (.op (.st .myValueT))
 |102=>some (.ar 20 .fno)
 |118=>some (.st .myShapeT)
 |123=>some (.st .pointT)
 |125=>some (.sl (.st .pointT))
 |130=>some (.st .stepT)
 |135=>some (.st .myIntT)
 |141=>some (.sl (.mp (.int .i64) .bool))
 |142=>some (.sl .bool)
 |148=>some .fno
 |164=>some (.ar 6 .bool)
 |171=>some (.ar 2 (.int .i64))
 |172=>some (.sl (.ar 2 (.int .i64)))
 |178=>some (.int .u8)
 |179=>some (.ar 256 (.int .u8))
 |189=>some (.sl (.st .tokenT))
 |193=>some (.st .tokenT)
 |198=>some (.ar 256 (.int .u8))
 |204=>some .fno
 |206=>some (.st .operationT)
 |207=>some (.ar 18 (.st .operationT))
 |211=>some (.sl (.st .spanT))
 |213=>some (.st .spanT)
 |214=>some (.int .u32)
 |219=>some (.sl (.st .range16T))
 |220=>some (.sl (.st .range32T))
 |222=>some (.st .rangeTableT)
 |223=>some (.int .u16)
 |225=>some (.st .range16T)
 |228=>some (.st .range32T)
 |232=>some (.int .u64)
 |241=>some (.int .u8)
 |242=>some (.int .u8)
 |245=>some (.int .i32)
 |246=>some (.int .i32)
 |_=>none
theorem xa(i:SN)(x:NN i):CF i x=(eu i x).map λl=>aY szN CF l.t l.x:=by
 cases i<;>cases x<;>first|(simp[CF,eu,aY,bN,tsz,szN,aG.enc,aD.enc,ff.enc,bP.enc,aM.enc,aB.enc,Item.enc,Log.enc,bH.enc,bI.enc,aP.enc,mu.enc,b9.enc,jo.enc,aW.enc,vi.enc,dq.enc,dr.enc,cn.enc];done)|(rename_i q;cases q;simp[CF,eu,aY,bN,tsz,szN,aG.enc,aD.enc,ff.enc,bP.enc,aM.enc,aB.enc,Item.enc,Log.enc,bH.enc,bI.enc,aP.enc,mu.enc,b9.enc,jo.enc,aW.enc,vi.enc,dq.enc,dr.enc,cn.enc])
theorem A0(i:SN)(ls:List (dB NN))(x:NN i)(h:ofN i ls=some x):eu i x=ls:=by
 unfold ofN at h
 split at h<;>first
  |(cases h;rfl)
  |(cases h;done)
theorem xk(i:SN)(x:NN i):(eu i x).length=szN i:=by cases i<;>rfl
theorem yG(i:SN)(x:NN i):(eu i x).map (λl=>l.t)=Oj i:=by cases i<;>rfl
theorem xG(i:SN)(x:NN i):∀l∈eu i x,l.t.cell=true:=by
 have h:(eu i x).all (λl=>l.t.cell)=true:=by cases i<;>rfl
 exact Qq.1 h
noncomputable def xb:(i:SN)->NN i->List DD
 | .myTypeT,x=>aG.encd x
 | .myValueT,x=>aD.encd x
 | .askedT,x=>ff.encd x
 | .outcomeT,x=>bP.encd x
 | .myCodeT,x=>aM.encd x
 | .myFuncT,x=>aB.encd x
 | .itemT,x=>Item.encd x
 | .logT,x=>Log.encd x
 | .endingT,x=>bH.encd x
 | .myShapeT,x=>bI.encd x
 | .pointT,x=>aP.encd x
 | .stepT,x=>mu.encd x
 | .myIntT,x=>b9.encd x
 | .tokenT,x=>jo.encd x
 | .operationT,x=>aW.encd x
 | .spanT,x=>vi.encd x
 | .range16T,x=>dq.encd x
 | .range32T,x=>dr.encd x
 | .rangeTableT,x=>cn.encd x
noncomputable def J9:SN->Bool
 | .myTypeT=>true
 | .myValueT=>true
 | .askedT=>false
 | .outcomeT=>false
 | .myCodeT=>true
 | .myFuncT=>false
 | .itemT=>true
 | .logT=>false
 | .endingT=>true
 | .myShapeT=>true
 | .pointT=>true
 | .stepT=>true
 | .myIntT=>true
 | .tokenT=>true
 | .operationT=>true
 | .spanT=>true
 | .range16T=>true
 | .range32T=>true
 | .rangeTableT=>false
noncomputable def Lv:Ty SN->Nat
 |(.st .myFuncT)=>42
 |(.st .myValueT)=>31
 | .str=>9
 |(.st .myCodeT)=>44
 |(.int .i64)=>3
 |(.st .itemT)=>65
 |(.st .pointT)=>123
 | .bool=>4
 |(.ar 2 (.int .i64))=>171
 |(.st .tokenT)=>193
 |(.st .spanT)=>213
 |(.st .range16T)=>225
 |(.st .range32T)=>228
 |_=>0
theorem tV(i:SN)(x:NN i):xb i x=(eu i x).map λl=>C5 szN CF Lv xb l.t l.x:=by
 cases i<;>cases x<;>first|(simp[xb,eu,C5,eK,aY,bN,Lv,tsz,szN,aG.encd,aD.encd,ff.encd,bP.encd,aM.encd,aB.encd,Item.encd,Log.encd,bH.encd,bI.encd,aP.encd,mu.encd,b9.encd,jo.encd,aW.encd,vi.encd,dq.encd,dr.encd,cn.encd];done)|(rename_i q;cases q;simp[xb,eu,C5,eK,aY,bN,Lv,tsz,szN,aG.encd,aD.encd,ff.encd,bP.encd,aM.encd,aB.encd,Item.encd,Log.encd,bH.encd,bI.encd,aP.encd,mu.encd,b9.encd,jo.encd,aW.encd,vi.encd,dq.encd,dr.encd,cn.encd])
theorem zI(i:SN)(x:NN i):DD.toL (xb i x)=some (CF i x):=by
 cases i
 ·exact aG.encd_toL x
 ·exact aD.encd_toL x
 ·exact ff.encd_toL x
 ·exact bP.encd_toL x
 ·exact aM.encd_toL x
 ·exact aB.encd_toL x
 ·exact Item.encd_toL x
 ·exact Log.encd_toL x
 ·exact bH.encd_toL x
 ·exact bI.encd_toL x
 ·exact aP.encd_toL x
 ·exact mu.encd_toL x
 ·exact b9.encd_toL x
 ·exact jo.encd_toL x
 ·exact aW.encd_toL x
 ·exact vi.encd_toL x
 ·exact dq.encd_toL x
 ·exact dr.encd_toL x
 ·exact cn.encd_toL x
theorem t6(i:SN)(x:NN i)(h:J9 i=true):∀l∈eu i x,l.t.isSl=false:=by
 have h1:(eu i x).all (λl=> !l.t.isSl)=true:=by
  revert h
  cases i<;>first
   |(intro h;cases h;done)
   |(intro _;rfl)
 intro l hl
 simpa using Qq.1 h1 l hl
noncomputable def vw:gW where
 ι:=SN
 dec:=inferInstance
 N:=NN
 sz:=szN
 tys:=Oj
 cells:=eu
 ofCells:=ofN
 enc:=CF
 ty:=tyN
 enc_cells:=xa
 of_cells:=A0
 len_cells:=xk
 one_cells:=xG
 tys_cells:=yG
 tid:=Lv
 encd:=xb
 encd_cells:=tV
 encd_toL:=zI
 flat:=J9
 flat_cells:=t6
end Go.Proofs.YtcghbgmmgcljkaaGreatDoor
end
section
namespace Go.Proofs.YtcghbgmmgcljkaaGreatDoor
open Go.Awp Go.Tx
open Go.Proofs.Tryz (prog)
set_option maxRecDepth 100000
def cH(P:Program)(t:TypeId):Array Field:=match P.underlying t with
 |some (.struct fs)=>fs
 |_=> #[]
theorem tf2:bL vw prog 2 (.int .i64):=(by kernel_rfl:prog.underlying 2=some (.int .i64))
theorem tf3:bL vw prog 3 (.int .i64):=(by kernel_rfl:prog.underlying 3=some (.int .i64))
theorem tf4:bL vw prog 4 .bool:=(by kernel_rfl:prog.underlying 4=some .bool)
theorem tf5:bL vw prog 5 (.int .u8):=(by kernel_rfl:prog.underlying 5=some (.int .u8))
theorem tf6:bL vw prog 6 (.int .u8):=(by kernel_rfl:prog.underlying 6=some (.int .u8))
theorem tf9:bL vw prog 9 .str:=(by kernel_rfl:prog.underlying 9=some .string)
theorem Pc:bL vw prog 10 .str:=(by kernel_rfl:prog.underlying 10=some .string)
theorem Pd:bL vw prog 11 .str:=(by kernel_rfl:prog.underlying 11=some .string)
theorem Pe:bL vw prog 12 (.int .u64):=(by kernel_rfl:prog.underlying 12=some (.int .u64))
theorem Pf:bL vw prog 21 (.int .i32):=(by kernel_rfl:prog.underlying 21=some (.int .i32))
theorem Pg:bL vw prog 22 (.sl (.st .myFuncT)):=⟨42,by kernel_rfl,by kernel_rfl,by kernel_rfl,by kernel_rfl⟩
theorem Ph:bL vw prog 23 (.sl (.st .myValueT)):=⟨31,by kernel_rfl,by kernel_rfl,by kernel_rfl,by kernel_rfl⟩
theorem Pi:bL vw prog 25 (.st .askedT):=⟨cH prog 25,by kernel_rfl,by kernel_rfl,by kernel_rfl⟩
theorem Pj:bL vw prog 29 (.st .myTypeT):=⟨cH prog 29,by kernel_rfl,by kernel_rfl,by kernel_rfl⟩
theorem Pk:bL vw prog 31 (.st .myValueT):=⟨cH prog 31,by kernel_rfl,by kernel_rfl,by kernel_rfl⟩
theorem Pl:bL vw prog 32 (.sl .str):=⟨9,by kernel_rfl,by kernel_rfl,by kernel_rfl,by kernel_rfl⟩
theorem Pm:bL vw prog 34 (.st .outcomeT):=⟨cH prog 34,by kernel_rfl,by kernel_rfl,by kernel_rfl⟩
theorem Pn:bL vw prog 35 (.int .i64):=(by kernel_rfl:prog.underlying 35=some (.int .i64))
theorem Po:bL vw prog 40 (.sl (.st .myCodeT)):=⟨44,by kernel_rfl,by kernel_rfl,by kernel_rfl,by kernel_rfl⟩
theorem Pp:bL vw prog 42 (.st .myFuncT):=⟨cH prog 42,by kernel_rfl,by kernel_rfl,by kernel_rfl⟩
theorem Pq:bL vw prog 44 (.st .myCodeT):=⟨cH prog 44,by kernel_rfl,by kernel_rfl,by kernel_rfl⟩
theorem Pr:bL vw prog 52 (.sl (.int .i64)):=⟨3,by kernel_rfl,by kernel_rfl,by kernel_rfl,by kernel_rfl⟩
theorem Ps:bL vw prog 65 (.st .itemT):=⟨cH prog 65,by kernel_rfl,by kernel_rfl,by kernel_rfl⟩
theorem Pu:bL vw prog 66 (.sl (.st .itemT)):=⟨65,by kernel_rfl,by kernel_rfl,by kernel_rfl,by kernel_rfl⟩
theorem Pv:bL vw prog 68 (.st .logT):=⟨cH prog 68,by kernel_rfl,by kernel_rfl,by kernel_rfl⟩
theorem Pw:bL vw prog 85 (.st .endingT):=⟨cH prog 85,by kernel_rfl,by kernel_rfl,by kernel_rfl⟩
theorem Ns:bL vw prog 118 (.st .myShapeT):=⟨cH prog 118,by kernel_rfl,by kernel_rfl,by kernel_rfl⟩
theorem Nt:bL vw prog 123 (.st .pointT):=⟨cH prog 123,by kernel_rfl,by kernel_rfl,by kernel_rfl⟩
theorem Nu:bL vw prog 125 (.sl (.st .pointT)):=⟨123,by kernel_rfl,by kernel_rfl,by kernel_rfl,by kernel_rfl⟩
theorem Nv:bL vw prog 130 (.st .stepT):=⟨cH prog 130,by kernel_rfl,by kernel_rfl,by kernel_rfl⟩
theorem Nw:bL vw prog 135 (.st .myIntT):=⟨cH prog 135,by kernel_rfl,by kernel_rfl,by kernel_rfl⟩
theorem Nx:bL vw prog 142 (.sl .bool):=⟨4,by kernel_rfl,by kernel_rfl,by kernel_rfl,by kernel_rfl⟩
theorem Ny:bL vw prog 178 (.int .u8):=(by kernel_rfl:prog.underlying 178=some (.int .u8))
theorem Nz:bL vw prog 189 (.sl (.st .tokenT)):=⟨193,by kernel_rfl,by kernel_rfl,by kernel_rfl,by kernel_rfl⟩
theorem NA:bL vw prog 193 (.st .tokenT):=⟨cH prog 193,by kernel_rfl,by kernel_rfl,by kernel_rfl⟩
theorem NB:bL vw prog 211 (.sl (.st .spanT)):=⟨213,by kernel_rfl,by kernel_rfl,by kernel_rfl,by kernel_rfl⟩
theorem NC:bL vw prog 213 (.st .spanT):=⟨cH prog 213,by kernel_rfl,by kernel_rfl,by kernel_rfl⟩
theorem ND:bL vw prog 214 (.int .u32):=(by kernel_rfl:prog.underlying 214=some (.int .u32))
theorem NE:bL vw prog 219 (.sl (.st .range16T)):=⟨225,by kernel_rfl,by kernel_rfl,by kernel_rfl,by kernel_rfl⟩
theorem NF:bL vw prog 220 (.sl (.st .range32T)):=⟨228,by kernel_rfl,by kernel_rfl,by kernel_rfl,by kernel_rfl⟩
theorem NG:bL vw prog 222 (.st .rangeTableT):=⟨cH prog 222,by kernel_rfl,by kernel_rfl,by kernel_rfl⟩
theorem NH:bL vw prog 223 (.int .u16):=(by kernel_rfl:prog.underlying 223=some (.int .u16))
theorem NI:bL vw prog 225 (.st .range16T):=⟨cH prog 225,by kernel_rfl,by kernel_rfl,by kernel_rfl⟩
theorem NJ:bL vw prog 228 (.st .range32T):=⟨cH prog 228,by kernel_rfl,by kernel_rfl,by kernel_rfl⟩
theorem NK:bL vw prog 232 (.int .u64):=(by kernel_rfl:prog.underlying 232=some (.int .u64))
theorem NL:bL vw prog 241 (.int .u8):=(by kernel_rfl:prog.underlying 241=some (.int .u8))
theorem NM:bL vw prog 242 (.int .u8):=(by kernel_rfl:prog.underlying 242=some (.int .u8))
theorem NO:bL vw prog 245 (.int .i32):=(by kernel_rfl:prog.underlying 245=some (.int .i32))
theorem NP:bL vw prog 246 (.int .i32):=(by kernel_rfl:prog.underlying 246=some (.int .i32))
theorem aC{ls:List (dB NN)}{t:Ty SN}{ts:List (Ty SN)}(h:ls.map (·.t)=t::ts):∃(x:den NN t) (ls':List (dB NN)),ls=⟨t,x⟩::ls'/\ls'.map (·.t)=ts:=by
 match ls,h with
 |⟨t',x⟩::r,h=>
  simp only[Qp,Re]at h
  obtain⟨h1,h2⟩:=h
  subst h1
  exact⟨x,r,rfl,h2⟩
theorem bR{ls:List (dB NN)}(h:ls.map (·.t)=[]):ls=[]:=by simpa using h
instance:OkI vw:=⟨λi=>match i with
 | .operationT=>false
 |_=>true⟩
theorem facts:CL vw prog where
 ty:=λt τ h hn=>by
  have h:tyN t=some τ:=h
  unfold tyN at h
  split at h
  ·cases h;exact tf2
  ·cases h;exact tf3
  ·cases h;exact tf4
  ·cases h;exact tf5
  ·cases h;exact tf6
  ·cases h;exact tf9
  ·cases h;exact Pc
  ·cases h;exact Pd
  ·cases h;exact Pe
  ·cases h;exact Pf
  ·cases h;exact Pg
  ·cases h;exact Ph
  ·cases h;exact Pi
  ·cases h;exact Pj
  ·cases h;exact Pk
  ·cases h;exact Pl
  ·cases h;exact Pm
  ·cases h;exact Pn
  ·cases h;exact Po
  ·cases h;exact Pp
  ·cases h;exact Pq
  ·cases h;exact Pr
  ·cases h;exact Ps
  ·cases h;exact Pu
  ·cases h;exact Pv
  ·cases h;cases hn
  ·cases h;exact Pw
  ·cases h;cases hn
  ·cases h;cases hn
  ·cases h;exact Ns
  ·cases h;exact Nt
  ·cases h;exact Nu
  ·cases h;exact Nv
  ·cases h;exact Nw
  ·cases h;cases hn
  ·cases h;exact Nx
  ·cases h;cases hn
  ·cases h;cases hn
  ·cases h;cases hn
  ·cases h;cases hn
  ·cases h;exact Ny
  ·cases h;cases hn
  ·cases h;exact Nz
  ·cases h;exact NA
  ·cases h;cases hn
  ·cases h;cases hn
  ·cases h;cases hn
  ·cases h;cases hn
  ·cases h;exact NB
  ·cases h;exact NC
  ·cases h;exact ND
  ·cases h;exact NE
  ·cases h;exact NF
  ·cases h;exact NG
  ·cases h;exact NH
  ·cases h;exact NI
  ·cases h;exact NJ
  ·cases h;exact NK
  ·cases h;exact NL
  ·cases h;exact NM
  ·cases h;exact NO
  ·cases h;exact NP
  ·cases h
 nof:=λi=>by cases i<;>rfl
 tys:=λi x=>by cases i<;>rfl
 of:=λi ls h=>by
  cases i with
  |myTypeT=>
   obtain⟨a0,l0,rfl,h0⟩:=aC h
   obtain⟨a1,l1,rfl,h1⟩:=aC h0
   obtain⟨a2,l2,rfl,h2⟩:=aC h1
   obtain⟨a3,l3,rfl,h3⟩:=aC h2
   obtain⟨a4,l4,rfl,h4⟩:=aC h3
   obtain rfl:=bR h4
   exact⟨_,rfl⟩
  |myValueT=>
   obtain⟨a0,l0,rfl,h0⟩:=aC h
   obtain⟨a1,l1,rfl,h1⟩:=aC h0
   obtain⟨a2,l2,rfl,h2⟩:=aC h1
   obtain⟨a3,l3,rfl,h3⟩:=aC h2
   obtain⟨a4,l4,rfl,h4⟩:=aC h3
   obtain⟨a5,l5,rfl,h5⟩:=aC h4
   obtain⟨a6,l6,rfl,h6⟩:=aC h5
   obtain⟨a7,l7,rfl,h7⟩:=aC h6
   obtain⟨a8,l8,rfl,h8⟩:=aC h7
   obtain⟨a9,l9,rfl,h9⟩:=aC h8
   obtain⟨a10,l10,rfl,h10⟩:=aC h9
   obtain⟨a11,l11,rfl,h11⟩:=aC h10
   obtain⟨a12,l12,rfl,h12⟩:=aC h11
   obtain rfl:=bR h12
   exact⟨_,rfl⟩
  |askedT=>
   obtain⟨a0,l0,rfl,h0⟩:=aC h
   obtain⟨a1,l1,rfl,h1⟩:=aC h0
   obtain⟨a2,l2,rfl,h2⟩:=aC h1
   obtain rfl:=bR h2
   exact⟨_,rfl⟩
  |outcomeT=>
   obtain⟨a0,l0,rfl,h0⟩:=aC h
   obtain⟨a1,l1,rfl,h1⟩:=aC h0
   obtain⟨a2,l2,rfl,h2⟩:=aC h1
   obtain⟨a3,l3,rfl,h3⟩:=aC h2
   obtain⟨a4,l4,rfl,h4⟩:=aC h3
   obtain⟨a5,l5,rfl,h5⟩:=aC h4
   obtain⟨a6,l6,rfl,h6⟩:=aC h5
   obtain⟨a7,l7,rfl,h7⟩:=aC h6
   obtain⟨a8,l8,rfl,h8⟩:=aC h7
   obtain⟨a9,l9,rfl,h9⟩:=aC h8
   obtain⟨a10,l10,rfl,h10⟩:=aC h9
   obtain⟨a11,l11,rfl,h11⟩:=aC h10
   obtain⟨a12,l12,rfl,h12⟩:=aC h11
   obtain⟨a13,l13,rfl,h13⟩:=aC h12
   obtain⟨a14,l14,rfl,h14⟩:=aC h13
   obtain⟨a15,l15,rfl,h15⟩:=aC h14
   obtain rfl:=bR h15
   exact⟨_,rfl⟩
  |myCodeT=>
   obtain⟨a0,l0,rfl,h0⟩:=aC h
   obtain⟨a1,l1,rfl,h1⟩:=aC h0
   obtain⟨a2,l2,rfl,h2⟩:=aC h1
   obtain⟨a3,l3,rfl,h3⟩:=aC h2
   obtain⟨a4,l4,rfl,h4⟩:=aC h3
   obtain⟨a5,l5,rfl,h5⟩:=aC h4
   obtain⟨a6,l6,rfl,h6⟩:=aC h5
   obtain⟨a7,l7,rfl,h7⟩:=aC h6
   obtain⟨a8,l8,rfl,h8⟩:=aC h7
   obtain rfl:=bR h8
   exact⟨_,rfl⟩
  |myFuncT=>
   obtain⟨a0,l0,rfl,h0⟩:=aC h
   obtain⟨a1,l1,rfl,h1⟩:=aC h0
   obtain⟨a2,l2,rfl,h2⟩:=aC h1
   obtain⟨a3,l3,rfl,h3⟩:=aC h2
   obtain⟨a4,l4,rfl,h4⟩:=aC h3
   obtain⟨a5,l5,rfl,h5⟩:=aC h4
   obtain⟨a6,l6,rfl,h6⟩:=aC h5
   obtain⟨a7,l7,rfl,h7⟩:=aC h6
   obtain⟨a8,l8,rfl,h8⟩:=aC h7
   obtain rfl:=bR h8
   exact⟨_,rfl⟩
  |itemT=>
   obtain⟨a0,l0,rfl,h0⟩:=aC h
   obtain⟨a1,l1,rfl,h1⟩:=aC h0
   obtain⟨a2,l2,rfl,h2⟩:=aC h1
   obtain rfl:=bR h2
   exact⟨_,rfl⟩
  |logT=>
   obtain⟨a0,l0,rfl,h0⟩:=aC h
   obtain⟨a1,l1,rfl,h1⟩:=aC h0
   obtain⟨a2,l2,rfl,h2⟩:=aC h1
   obtain⟨a3,l3,rfl,h3⟩:=aC h2
   obtain⟨a4,l4,rfl,h4⟩:=aC h3
   obtain⟨a5,l5,rfl,h5⟩:=aC h4
   obtain⟨a6,l6,rfl,h6⟩:=aC h5
   obtain rfl:=bR h6
   exact⟨_,rfl⟩
  |endingT=>
   obtain⟨a0,l0,rfl,h0⟩:=aC h
   obtain⟨a1,l1,rfl,h1⟩:=aC h0
   obtain rfl:=bR h1
   exact⟨_,rfl⟩
  |myShapeT=>
   obtain⟨a0,l0,rfl,h0⟩:=aC h
   obtain⟨a1,l1,rfl,h1⟩:=aC h0
   obtain⟨a2,l2,rfl,h2⟩:=aC h1
   obtain⟨a3,l3,rfl,h3⟩:=aC h2
   obtain rfl:=bR h3
   exact⟨_,rfl⟩
  |pointT=>
   obtain⟨a0,l0,rfl,h0⟩:=aC h
   obtain⟨a1,l1,rfl,h1⟩:=aC h0
   obtain rfl:=bR h1
   exact⟨_,rfl⟩
  |stepT=>
   obtain⟨a0,l0,rfl,h0⟩:=aC h
   obtain⟨a1,l1,rfl,h1⟩:=aC h0
   obtain⟨a2,l2,rfl,h2⟩:=aC h1
   obtain rfl:=bR h2
   exact⟨_,rfl⟩
  |myIntT=>
   obtain⟨a0,l0,rfl,h0⟩:=aC h
   obtain⟨a1,l1,rfl,h1⟩:=aC h0
   obtain rfl:=bR h1
   exact⟨_,rfl⟩
  |tokenT=>
   obtain⟨a0,l0,rfl,h0⟩:=aC h
   obtain⟨a1,l1,rfl,h1⟩:=aC h0
   obtain⟨a2,l2,rfl,h2⟩:=aC h1
   obtain rfl:=bR h2
   exact⟨_,rfl⟩
  |operationT=>
   obtain⟨a0,l0,rfl,h0⟩:=aC h
   obtain⟨a1,l1,rfl,h1⟩:=aC h0
   obtain rfl:=bR h1
   exact⟨_,rfl⟩
  |spanT=>
   obtain⟨a0,l0,rfl,h0⟩:=aC h
   obtain⟨a1,l1,rfl,h1⟩:=aC h0
   obtain rfl:=bR h1
   exact⟨_,rfl⟩
  |range16T=>
   obtain⟨a0,l0,rfl,h0⟩:=aC h
   obtain⟨a1,l1,rfl,h1⟩:=aC h0
   obtain⟨a2,l2,rfl,h2⟩:=aC h1
   obtain rfl:=bR h2
   exact⟨_,rfl⟩
  |range32T=>
   obtain⟨a0,l0,rfl,h0⟩:=aC h
   obtain⟨a1,l1,rfl,h1⟩:=aC h0
   obtain⟨a2,l2,rfl,h2⟩:=aC h1
   obtain rfl:=bR h2
   exact⟨_,rfl⟩
  |rangeTableT=>
   obtain⟨a0,l0,rfl,h0⟩:=aC h
   obtain⟨a1,l1,rfl,h1⟩:=aC h0
   obtain⟨a2,l2,rfl,h2⟩:=aC h1
   obtain rfl:=bR h2
   exact⟨_,rfl⟩
end Go.Proofs.YtcghbgmmgcljkaaGreatDoor
end
section
namespace Go.Proofs.YtcghbgmmgcljkaaGreatDoor
theorem w64{x:Int}(h1: -9223372036854775808<=x)(h2:x<=9223372036854775807):IntKind.i64.wrap x=x:=by
 unfold IntKind.wrap
 simp only[IntKind.bits,IntKind.signed,RU]
 split<;>rename_i h<;>simp at h<;>omega
def lo(s:Bool)(b:Int):Int:=if s=true then-(2^(b.toNat-1))else 0
def hi(s:Bool)(b:Int):Int:=if s=true then 2^(b.toNat-1) -1 else 2^b.toNat-1
def inT(s:Bool)(b n:Int):Prop:=lo s b<=n/\n<=hi s b
def rk(s:Bool)(b n:Int):Int:=if s=true/\2^(b.toNat-1)<=n%2^b.toNat then n%2^b.toNat-2^b.toNat else n%2^b.toNat
theorem jh{b:Int}(h1:1<=b)(h2:b<=31):(1:Int)<=2^(b.toNat-1)/\(2:Int)^b.toNat=2 *2^(b.toNat-1)/\(2:Int)^(b.toNat-1)<=1073741824:=by
 obtain⟨k,rfl⟩:∃k:Nat,b=(k:Int)+1:=⟨(b-1).toNat,by omega⟩
 have hk:k<=30:=by omega
 have e1:((k:Int)+1).toNat=k+1:=by omega
 rw[e1,Nat.add_sub_cancel,Int.pow_succ]
 have p1:(1:Nat)<=2^k:=Nat.one_le_two_pow
 have p2:2^k<=2^30:=R1 (by omega) hk
 have e2:((2:Int)^k)=((2^k:Nat):Int):=by simp
 rw[e2]
 refine⟨by omega,by omega,by omega⟩
theorem Dk{s:Bool}{b n:Int}(h1:1<=b)(h2:b<=31)(h:inT s b n): -1073741824<=n/\n<=2147483647:=by
 obtain⟨p1,p2,p3⟩:=jh h1 h2
 obtain⟨q1,q2⟩:=h
 unfold lo at q1
 unfold hi at q2
 cases s<;>simp at q1 q2<;>omega
theorem Hd{s:Bool}{b n:Int}(h1:1<=b)(h2:b<=31):inT s b (rk s b n):=by
 obtain⟨p1,p2,p3⟩:=jh h1 h2
 have m1:=SG n (show(2:Int)^b.toNat≠0 by omega)
 have m2:=Int.emod_lt_of_pos n (show(0:Int)<2^b.toNat by omega)
 unfold inT rk lo hi
 cases s
 ·simp;omega
 ·simp only[TK,true_and]
  split<;>omega
theorem kd{s:Bool}{b n:Int}(h1:1<=b)(h2:b<=31)(h:inT s b n):rk s b n=n:=by
 obtain⟨p1,p2,p3⟩:=jh h1 h2
 obtain⟨q1,q2⟩:=h
 unfold lo at q1
 unfold hi at q2
 unfold rk
 generalize hp:(2:Int)^(b.toNat-1)=p at *
 rw[p2]at *
 cases s
 ·simp at q1 q2⊢
  exact SA q1 (by omega)
 ·simp only[TK,true_and]at q1 q2⊢
  by_cases hn:0<=n
  ·rw[SA hn (by omega),TN (by omega)]
  ·have:n%(2 *p)=n+2 *p:=by
    rw[<-Int.add_emod_right n (2 *p),SA (by omega) (by omega)]
   rw[this,TP (by omega)];omega
theorem wN{s:Bool}{b n m:Int}(h:n%2^b.toNat=m%2^b.toNat):rk s b n=rk s b m:=by
 unfold rk;rw[h]
theorem z_(n:Int){k:Nat}(hk:k<=62):Bs.iand .i64 n (2^k-1)=n%2^k:=by
 have p1:(1:Nat)<=2^k:=Nat.one_le_two_pow
 have p2:2^k<=2^62:=R1 (by omega) hk
 have e2:((2:Int)^k)=((2^k:Nat):Int):=by simp
 show IntKind.i64.wrap (((BitVec.ofInt 64 n)&&&(BitVec.ofInt 64 (2^k-1))).toNat:Int)=_
 rw[BitVec.toNat_and,BitVec.toNat_ofInt,BitVec.toNat_ofInt]
 have hb:((2:Int)^k-1)%((2^64:Nat):Int)=((2^k-1:Nat):Int):=by
  rw[e2,SA]<;>omega
 rw[hb,Qs,Nat.and_two_pow_sub_one_eq_mod]
 obtain⟨m,hm⟩:∃m:Nat,n%((2^64:Nat):Int)=(m:Int):=⟨(n%((2^64:Nat):Int)).toNat,(SJ (SG _ (by decide))).symm⟩
 rw[hm,Qs]
 have hmm:(m:Int)%((2^k:Nat):Int)=n%((2^k:Nat):Int):=by
  rw[<-hm]
  exact Tq n (by
   rw[Sy]
   exact Td 2 (by omega))
 have hlt:m%2^k<2^k:=Sq _ (by omega)
 rw[w64 (by omega) (by omega),e2,<-hmm]
 omega
end Go.Proofs.YtcghbgmmgcljkaaGreatDoor
end
section
namespace Go.Tx
open Go.Awp
variable [Inhabited GMem]
theorem lS.pure{P:Program}{f:FuncId}{args:List H}{r:H}(hc:ix P f=true)
 (h:∀(E:Env) (M:Mem) (w:World) (vs:Array Value),GOk M w->(∀b o v,M b o=some v->w.cell? ⟨b,o,none⟩=some v)->f7 E M vs args->
   Calls P f vs w λe w'=>∃v,e= .returned v/\bF E M v r/\Go.RowKit.Below w.heap.size w w'):lS P f args [] r []:=by
 refine⟨hc,λE M w vs hgm hm _ hvs=>(h E M w vs hgm hm hvs).mono ?_⟩
 rintro e w' ⟨v,rfl,hr,hb⟩
 refine⟨v,E,M,rfl,{rep:=hr,owns:=⟨λn o hn=>by simp[gt]at hn,λn m o o' b _ hn=>by simp[gt]at hn⟩,mle:=Mem.le_refl _,mem:=λb o v hv=> ?_,mnew:=λb o v hv=> .inl hv,home:=λn o b hn=>by simp[gt]at hn,frame:=λk hk _=>hb.block k hk,grows:=hb.size,os:=hb.os,tape:=hb.tape,output:=hb.output,env:=λ_ _=>rfl}⟩
 have h1:=hm b o v hv
 have hlt:=World.block_lt_of_cell? w (a:=⟨b,o,none⟩) h1
 rw[<-h1]
 exact World.cell?_of_block (a:=⟨b,o,none⟩) (hb.block b hlt)
theorem lS.newRow{P:Program}{f:FuncId}{args:List H}{sz:Nat}{rows:List (List D)}(hc:ix P f=true)(hz:∀r∈rows,r.length=sz)
 (h:∀(E:Env) (M:Mem) (w:World) (vs:Array Value),GOk M w->(∀b o v,M b o=some v->w.cell? ⟨b,o,none⟩=some v)->f7 E M vs args->
   Calls P f vs w λe w'=>∃(cs:Array Value) (t:TypeId),e= .returned (.slice (some ⟨w.heap.size,0,none⟩) rows.length rows.length)/\w'=w.alloc (.cells cs t)/\cs.size=rows.length *sz/\
    ∀(i j:Nat) (r:List D) (c:Value) (x:D),rows[i]?=some r->r[j]?=some x->cs[i *sz+j]?=some c->cS M c x):lS P f args [] (.d (.sl sz rows)) []:=by
 refine⟨hc,λE M w vs hgm hm _ hvs=>(h E M w vs hgm hm hvs).mono ?_⟩
 rintro e w' ⟨cs,t,rfl,rfl,hsz,hcr⟩
 have hnew:∀k,M w.heap.size k=none:=λk=>by
  cases hk:M w.heap.size k with
  |none=>rfl
  |some v=>
   have:=World.block_lt_of_cell? w (a:=⟨w.heap.size,k,none⟩) (hm _ _ _ hk)
   simp at this
 let M':Mem:=λb k=>if b=w.heap.size then cs[k]? else M b k
 have hM:M.le M':=λb k v hv=>by
  by_cases hb:b=w.heap.size
  ·subst hb;rw[hnew]at hv;cases hv
  ·simp[M',hb,hv]
 have hgr:=World.grownBy_alloc w (.cells cs t) none
 have hold:∀b,b<w.heap.size->(w.alloc (.cells cs t)).heap[b]?=w.heap[b]?:=λb hb=>hgr.block b hb (by simp)
 refine⟨_,E,M',rfl,{rep:= ?_,owns:=⟨λn o hn=>by simp[gt]at hn,λn m o o' b _ hn=>by simp[gt]at hn⟩,mle:=hM,mem:=λb k v hv=> ?_,mnew:=λb k v hv=> ?_,home:=λn o b hn=>by simp[gt]at hn,frame:=λk hk _=>hold k hk,grows:=hgr.size,os:=hgr.os,tape:=hgr.tape,output:=hgr.output,env:=λ_ _=>rfl}⟩
 ·refine .d (.sl w.heap.size 0 rows.length rows.length sz rows (λk=>cs.getD k undef) rfl (QF _) hz (λk hk=> ?_) λi j r x hr hx=> ?_)
  ·have:k<cs.size:=by omega
   simp only[M',TK,Qy]
   rw[QC this]
   simp[this]
  ·have hj:j<sz:=by
    have:=hz r (Qn hr)
    have:=(Qf.1 hx).1;omega
   have hi:i<rows.length:=(Qf.1 hr).1
   have hmul:(i+1) *sz<=rows.length *sz:=Qw _ hi
   rw[QM]at hmul
   have hk:i *sz+j<cs.size:=by omega
   have:=hcr i j r cs[i *sz+j] x hr hx (QC hk)
   have hg:cs.getD (i *sz+j) undef=cs[i *sz+j]:=by simp[hk]
   rw[hg]
   exact this.mono hM
 ·by_cases hb:b=w.heap.size
  ·subst hb
   simp only[M',TK]at hv
   rw[cell_of_row _ w.heap.size k cs t (0,0) (heap_alloc_new w _)]
   exact hv
  ·simp only[M',TN hb]at hv
   have h1:=hm b k v hv
   have hlt:=World.block_lt_of_cell? w (a:=⟨b,k,none⟩) h1
   rw[<-h1]
   exact World.cell?_of_block (a:=⟨b,k,none⟩) (hold b hlt)
 ·by_cases hb:b=w.heap.size
  ·exact .inr (.inr (by omega))
  ·simp only[M',TN hb]at hv
   exact .inl hv
theorem z7{E:Env}{M:Mem}{vs:Array Value}{a:H}(h:f7 E M vs [a]):∃v,vs= #[v]/\bF E M v a:=by
 obtain⟨h1,h2⟩:=h
 match vs,h1 with
 |⟨[v]⟩,_=>exact⟨v,rfl,h2 0 v a rfl rfl⟩
theorem z8{E:Env}{M:Mem}{vs:Array Value}{a b:H}(h:f7 E M vs [a,b]):∃v u,vs= #[v,u]/\bF E M v a/\bF E M u b:=by
 obtain⟨h1,h2⟩:=h
 match vs,h1 with
 |⟨[v,u]⟩,_=>exact⟨v,u,rfl,h2 0 v a rfl rfl,h2 1 u b rfl rfl⟩
section
open Go.Shelf Go.RowKit Go.Proofs
set_option maxHeartbeats 1000000 in
end
end Go.Tx
end
section
namespace Go.Tx
open Go.Awp
variable [Inhabited GMem]
section
variable {V:gW}
def c0:dl V:=λ_ _ _ _ _=>none
def cO(P:Program)(fid:Nat)(sig:Sig V)(F:HL V.N sig.tys->Option (HL V.N sig.rcut.tys))(r:dl V):dl V:=λA f args S k=>match QZ f fid with
 |true=>ci P sig F A args S k
 |false=>r A f args S k
def cP(P:Program)(fid:Nat)(sig:Sig V)(F:HL V.N sig.tys->Option (HL V.N sig.rcut.tys))(r:dl V):dl V:=λA f args S k=>match QZ f fid with
 |true=>cG P sig F A args S k
 |false=>r A f args S k
theorem cv{P:Program}:bO P (c0:dl V):=λA fid args S dst k r h=>by cases h
theorem LQ{P:Program}{fid:Nat}{sig:Sig V}{F:HL V.N sig.tys->Option (HL V.N sig.rcut.tys)}{r:dl V}(h:aT P fid sig F)(hr:bO P r):bO P (cO P fid sig F r):=λA f args S dst k x hx=>by
 unfold cO at hx
 split at hx
 ·rename_i e
  have e:=QT e
  subst e
  exact aL h hx
 ·exact hr A f args S dst k x hx
theorem LR{P:Program}{fid:Nat}{sig:Sig V}{F:HL V.N sig.tys->Option (HL V.N sig.rcut.tys)}{r:dl V}(h:aT P fid sig F)(ho:sig.objs=[])(hk:sig.keep=[])(hr:bO P r):bO P (cP P fid sig F r):=λA f args S dst k x hx=>by
 unfold cP at hx
 split at hx
 ·rename_i e
  have e:=QT e
  subst e
  exact bM h ho hk hx
 ·exact hr A f args S dst k x hx
end
end Go.Tx
end
section
namespace Go.Awp
variable [Inhabited GMem]
end Go.Awp
namespace Go.Tx
open Go.Awp
variable [Inhabited GMem]
section
variable {V:gW}
end
end Go.Tx
end
section
namespace Go.Tx
open Go.Awp
variable {V:gW} [Inhabited GMem]
def I_:Nat->Bool:=λ_=>false
theorem N_{C:Ctx}{X:Xc V}{c:Code}(h:cM c=[])(hj:∀k,X.jumps k=none:=by intro k;rfl):LOk C X c:=h_ (by rw[h];trivial) hj
theorem Oa{C:Ctx}{X:Xc V}{c b:Code}{la:lJ V X.sh}(h:cM c=[b])(e:X.loops (cx b)=some la)(h1:iQ C b la)(hj:∀k,X.jumps k=none:=by intro k;rfl):LOk C X c:=
 h_ (by rw[h];exact⟨nC e h1,trivial⟩) hj
theorem Ox{C:Ctx}{X:Xc V}{c b b':Code}{la la':lJ V X.sh}(h:cM c=[b,b'])(e:X.loops (cx b)=some la)(e':X.loops (cx b')=some la')(h1:iQ C b la)(h2:iQ C b' la')(hj:∀k,X.jumps k=none:=by intro k;rfl):LOk C X c:=
 h_ (by rw[h];exact⟨nC e h1,nC e' h2,trivial⟩) hj
theorem fnA(X:Xc V){sig:Sig V}{fid:FuncId}{fn:Func}{n:HL V.N sig.tys->Option (HL V.N sig.rcut.tys)}(hf:X.P.funcs[fid]?=some fn)
 (hk:(fn.body,fn.results.toList,(fn.name != "runtime.NumGoroutine"),fn.ntmps)=(some (bA fn),sig.rvars,true,X.n))(hm:X.P.follows .mixedOrders=true)(hcall:bO X.P X.call)
 (hsh:X.sh.rcut=sig.rcut)(hlen:Se sig.params.length X.n=true)(hdr:d7 (sig.rcut.objs.map (·.1))=true)(h:∀v,exF X sig hsh (bA fn) v=n v)
 (hl:∀C:Ctx,C.P=X.P->C.N=X.n/\Fx C X.pre->LOk C X (bA fn)):aT X.P fid sig n:=λv r x hr hx=>by
 injection hk with h1 h2
 injection h2 with h2 h3
 injection h3 with h3 h4
 exact C_ hsh hf h1 h4 h2 h3 hlen hm hcall hdr hl ((h v).trans hr) x hx
theorem lpB{C:Ctx}{X:Xc V}{b:Code}{cut:Cut V.ι}{alts:List Alt}{n:HL V.N cut.tys->Option (mr (cU X.sh []) alts)}
 {bd:(HL V.N cut.tys->Option (mr (cU X.sh []) alts))->HL V.N cut.tys->Option (mr (cU X.sh []) alts)}
 (pc:∀m:HL V.N cut.tys->mr (cU X.sh []) alts->Prop,(∀F,(∀v r,F v=some r->m v r)->∀v r,bd F v=some r->m v r)->∀v r,n v=some r->m v r)
 (hP:C.P=X.P)(hn:C.N=X.n/\Fx C X.pre)(hm:X.P.follows .mixedOrders=true)(hcall:bO X.P X.call)(hl:LOk C X b)(h:∀F v,exL X b cut alts F v=bd F v):
 iQ C b (sh:=X.sh) ⟨cut,alts,n⟩:=
 pc _ λF ih v _ hr=>nD hP hn hm hcall hl ih ((h F v).trans hr)
def tl{α:Type _}:List (Nat×α)->Nat->Option α
 |[],_=>none
 |(k,a)::r,i=>bif QZ i k then some a else tl r i
def shL(l:List (Nat×Cut V.ι))(z:Cut V.ι):aU V:=⟨λi=>(tl l i).getD ⟨[],[]⟩,z⟩
def mX(P:Program)(n:Nat)(call:dl V)(sh:aU V)(j:List (Nat×Cut V.ι×List Alt))(r:List (Nat×Cut V.ι))(l:List (Nat×lJ V sh)):Xc V:={P:=P,n:=n,call:=call,pre:=I_,sh:=sh,joins:=tl j,regs:=tl r,loops:=tl l}
abbrev mq(X:Xc V)(b:Code)(la:lJ V X.sh):Prop:=∀C:Ctx,C.P=X.P->C.N=X.n/\Fx C X.pre->iQ C b la
theorem fn0(X:Xc V){sig:Sig V}{fid:FuncId}{fn:Func}{n:HL V.N sig.tys->Option (HL V.N sig.rcut.tys)}(hf:X.P.funcs[fid]?=some fn)(hcall:bO X.P X.call)
 (hl:cM (bA fn)=[]:=by kernel_rfl)
 (hk:(fn.body,fn.results.toList,(fn.name != "runtime.NumGoroutine"),fn.ntmps)=(some (bA fn),sig.rvars,true,X.n):=by kernel_rfl)(hm:X.P.follows .mixedOrders=true:=by kernel_rfl)
 (hsh:X.sh.rcut=sig.rcut:=by exact rfl)(hlen:Se sig.params.length X.n=true:=by exact rfl)(hdr:d7 (sig.rcut.objs.map (·.1))=true:=by exact rfl)(hj:∀k,X.jumps k=none:=by intro k;rfl)
 (h:∀v,exF X sig hsh (bA fn) v=n v:=by intro v;kernel_rfl):aT X.P fid sig n:=
 fnA X hf hk hm hcall hsh hlen hdr h λ_ _ _=>N_ hl hj
theorem fn1(X:Xc V){sig:Sig V}{fid:FuncId}{fn:Func}{n:HL V.N sig.tys->Option (HL V.N sig.rcut.tys)}{b:Code}{la:lJ V X.sh}(hf:X.P.funcs[fid]?=some fn)(hcall:bO X.P X.call)
 (h1:mq X b la)(hl:cM (bA fn)=[b]:=by kernel_rfl)(e:X.loops (cx b)=some la:=by kernel_rfl)
 (hk:(fn.body,fn.results.toList,(fn.name != "runtime.NumGoroutine"),fn.ntmps)=(some (bA fn),sig.rvars,true,X.n):=by kernel_rfl)(hm:X.P.follows .mixedOrders=true:=by kernel_rfl)
 (hsh:X.sh.rcut=sig.rcut:=by exact rfl)(hlen:Se sig.params.length X.n=true:=by exact rfl)(hdr:d7 (sig.rcut.objs.map (·.1))=true:=by exact rfl)(hj:∀k,X.jumps k=none:=by intro k;rfl)
 (h:∀v,exF X sig hsh (bA fn) v=n v:=by intro v;kernel_rfl):aT X.P fid sig n:=
 fnA X hf hk hm hcall hsh hlen hdr h λC p q=>Oa hl e (h1 C p q) hj
theorem fn2(X:Xc V){sig:Sig V}{fid:FuncId}{fn:Func}{n:HL V.N sig.tys->Option (HL V.N sig.rcut.tys)}{b b':Code}{la la':lJ V X.sh}(hf:X.P.funcs[fid]?=some fn)(hcall:bO X.P X.call)
 (h1:mq X b la)(h2:mq X b' la')(hl:cM (bA fn)=[b,b']:=by kernel_rfl)(e:X.loops (cx b)=some la:=by kernel_rfl)(e':X.loops (cx b')=some la':=by kernel_rfl)
 (hk:(fn.body,fn.results.toList,(fn.name != "runtime.NumGoroutine"),fn.ntmps)=(some (bA fn),sig.rvars,true,X.n):=by kernel_rfl)(hm:X.P.follows .mixedOrders=true:=by kernel_rfl)
 (hsh:X.sh.rcut=sig.rcut:=by exact rfl)(hlen:Se sig.params.length X.n=true:=by exact rfl)(hdr:d7 (sig.rcut.objs.map (·.1))=true:=by exact rfl)(hj:∀k,X.jumps k=none:=by intro k;rfl)
 (h:∀v,exF X sig hsh (bA fn) v=n v:=by intro v;kernel_rfl):aT X.P fid sig n:=
 fnA X hf hk hm hcall hsh hlen hdr h λC p q=>Ox hl e e' (h1 C p q) (h2 C p q) hj
def sg(p:List (Pt V.ι))(z:Cut V.ι)(r:List ResultVar):Sig V:={params:=p,rcut:=z,rvars:=r}
def CC(P:Program)(V:gW)[Inhabited GMem]:={c:dl V//bO P c}
def k0{P:Program}:CC P V:=⟨c0,cv⟩
def kP{P:Program}{fid:Nat}{sig:Sig V}{F:HL V.N sig.tys->Option (HL V.N sig.rcut.tys)}(h:aT P fid sig F)(r:CC P V)(ho:sig.objs=[]:=by exact rfl)(hk:sig.keep=[]:=by exact rfl):CC P V:=⟨cP P fid sig F r.1,LR h ho hk r.2⟩
def kO{P:Program}{fid:Nat}{sig:Sig V}{F:HL V.N sig.tys->Option (HL V.N sig.rcut.tys)}(h:aT P fid sig F)(r:CC P V):CC P V:=⟨cO P fid sig F r.1,LQ h r.2⟩
theorem lp0{X:Xc V}{b:Code}{cut:Cut V.ι}{alts:List Alt}{n:HL V.N cut.tys->Option (mr (cU X.sh []) alts)}
 {bd:(HL V.N cut.tys->Option (mr (cU X.sh []) alts))->HL V.N cut.tys->Option (mr (cU X.sh []) alts)}
 (pc:∀m:HL V.N cut.tys->mr (cU X.sh []) alts->Prop,(∀F,(∀v r,F v=some r->m v r)->∀v r,bd F v=some r->m v r)->∀v r,n v=some r->m v r)
 (hcall:bO X.P X.call)(hl:cM b=[]:=by kernel_rfl)(hm:X.P.follows .mixedOrders=true:=by kernel_rfl)(hj:∀k,X.jumps k=none:=by intro k;rfl)
 (h:∀F v,exL X b cut alts F v=bd F v:=by intro F v;kernel_rfl):mq X b ⟨cut,alts,n⟩:=
 λ_ hP hn=>lpB pc hP hn hm hcall (N_ hl hj) h
theorem lp1{X:Xc V}{b:Code}{cut:Cut V.ι}{alts:List Alt}{n:HL V.N cut.tys->Option (mr (cU X.sh []) alts)}
 {bd:(HL V.N cut.tys->Option (mr (cU X.sh []) alts))->HL V.N cut.tys->Option (mr (cU X.sh []) alts)}
 (pc:∀m:HL V.N cut.tys->mr (cU X.sh []) alts->Prop,(∀F,(∀v r,F v=some r->m v r)->∀v r,bd F v=some r->m v r)->∀v r,n v=some r->m v r)
 (hcall:bO X.P X.call){b1:Code}{l1:lJ V X.sh}(h1:mq X b1 l1)(hl:cM b=[b1]:=by kernel_rfl)(e:X.loops (cx b1)=some l1:=by kernel_rfl)(hm:X.P.follows .mixedOrders=true:=by kernel_rfl)(hj:∀k,X.jumps k=none:=by intro k;rfl)
 (h:∀F v,exL X b cut alts F v=bd F v:=by intro F v;kernel_rfl):mq X b ⟨cut,alts,n⟩:=
 λC hP hn=>lpB pc hP hn hm hcall (Oa hl e (h1 C hP hn) hj) h
end Go.Tx
end
