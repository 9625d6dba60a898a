/-
  Texts of this claim, joined by a program of mine: what the theorem uses.
-/
import Derived.Test.YtpelkenpapfadaaGreatDoorPkD
import Derived.KernelRfl
import Derived.Test.YtpelkenpapfadaaGreatDoorPkC
import Derived.WalkKit
import Derived.ProofKit
import Derived.OpenShut
import Derived.Test.YtpelkenpapfadaaGreatDoorRows
import Derived.Lib.LaidIn
import Derived.Lib.LaidU8T
import Derived.MakeChecks
import Derived.Test.YtpelkenpapfadaaGreatDoorProg
import Derived.Shelf.Strings.Builder1
import Derived.Defers
open Array renaming getD_eq_getD_getElem?→Wu,getElem?_append_left→Wa,getElem?_eq_getElem→UO,getElem?_eq_some_iff→Uq,getElem?_setIfInBounds_ne→U3,getElem?_toList→Vo,length_toList→Vj,replicate→VM,toList_setIfInBounds→V_
open Bool renaming and_eq_true→Uk,eq_false_iff→W6,false_or→UD,not_eq_true'→VP,or_assoc→Xt,or_eq_false_iff→UY,or_eq_true→UI,true_and→Vg,true_or→UJ
open Classical renaming choose_spec→Xo
open Int renaming mul_le_mul_of_nonneg_left→WU,mul_le_mul_of_nonneg_right→WR,mul_nonneg→Xn
open List renaming all_cons→Vq,all_eq_true→Uo,any_cons→Wk,any_eq_false→W5,any_eq_true→Vu,any_nil→Xe,append_assoc→UQ,append_eq_nil_iff→Wo,append_nil→U0,drop_drop→VY,drop_eq_getElem_cons→VC,drop_eq_nil_of_le→Vz,drop_zero→UT,eq_nil_of_length_eq_zero→UE,ext_getElem?→Vm,filterMap_cons→VD,filter_cons→Xb,foldl_cons→Vd,getElem?_append_left→UA,getElem?_append_right→Uz,getElem?_eq_getElem→Ub,getElem?_eq_some_iff→Uc,getElem?_map→Ue,getElem?_range→VL,getElem?_set→Vl,getElem?_take→U1,getElem_mem→Vt,getElem_of_mem→Ww,length_append→Uh,length_cons→Ui,length_map→Ug,length_nil→Uw,map→VI,map_append→UZ,map_cons→Uj,map_map→UH,map_nil→UM,mem_append→Ur,mem_append_left→Vy,mem_append_right→VN,mem_cons→Um,mem_cons_of_mem→Ua,mem_cons_self→Uf,mem_filter→Wz,mem_filterMap→Va,mem_map→Uy,mem_map_of_mem→Uv,mem_of_getElem?→Un,not_all_eq_any_not→Xf,not_mem_nil→Xa,range→V3,take_of_length_le→UP
open List.cons renaming injEq→VQ
open Nat renaming add_zero→UF,beq→Vb,beq_refl→Wg,ble→V7,blt→VA,blt_eq→VG,eq_of_beq_eq_true→US,le_of_ble_eq_true→Vn,le_of_eq→XC,le_refl→Us,mul_le_mul_right→UL,mul_one→WX,strongRecOn→WP,sub_zero→W9,succ_mul→U_
open Ne renaming symm→UG
open Option renaming bind_eq_some_iff→Vw,bind_some→T0,isSome_iff_exists→We,map_eq_some_iff→Ul,map_map→Xl,map_some→UB
open Option.some renaming inj→VZ,injEq→Ud
open Prod.mk renaming injEq→UC
noncomputable section
set_option linter.unusedSectionVars false
set_option linter.unusedSimpArgs false
set_option linter.unusedVariables false
section
namespace Go.Tx
open Go.Awp
variable [Inhabited GMem]
section
variable {V:mz}
mutual
def TV.plain:TV V.N->Bool
 | .lf .. =>true
 | .raw _=>true
 | .rp .. =>true
 | .junk=>true
 | .agg cs=>TV.plainL cs
 | .tup vs=>TV.plainL vs
 | .fn _ a b=>TV.plainL a&&TV.plainL b
 |_=>false
def TV.plainL:List (TV V.N)->Bool
 |[]=>true
 |x::r=>TV.plain x&&TV.plainL r
end
mutual
theorem plain_has:∀{x:TV V.N},TV.plain x=true->∀n,TV.has n x=false
 | .lf ..,_,n=>by simp[TV.has]
 | .raw _,_,n=>by simp[TV.has]
 | .rp ..,_,n=>by simp[TV.has]
 | .junk,_,n=>by simp[TV.has]
 | .agg cs,h,n=>by simp only[TV.plain]at h;simp only[TV.has];exact plainL_has h n
 | .tup cs,h,n=>by simp only[TV.plain]at h;simp only[TV.has];exact plainL_has h n
 | .fn f a b,h,n=>by
  simp only[TV.plain,Uk]at h
  simp only[TV.has,plainL_has h.1 n,plainL_has h.2 n];rfl
 | .bp ..,h,n=>by simp[TV.plain]at h
 | .vh ..,h,n=>by simp[TV.plain]at h
 | .ep ..,h,n=>by simp[TV.plain]at h
 | .sv ..,h,n=>by simp[TV.plain]at h
 | .mp ..,h,n=>by simp[TV.plain]at h
 | .np ..,h,n=>by simp[TV.plain]at h
 | .sd ..,h,n=>by simp[TV.plain]at h
theorem plainL_has:∀{l:List (TV V.N)},TV.plainL l=true->∀n,TV.hasL n l=false
 |[],_,n=>by simp[TV.hasL]
 |x::r,h,n=>by
  simp only[TV.plainL,Uk]at h
  simp only[TV.hasL,plain_has h.1 n,plainL_has h.2 n];rfl
end
theorem vL{x:TV V.N}(h:TV.plain x=true)(ω ω':Nat->Nat):an V ω' x=an V ω x:=mM x λn hn=>by rw[plain_has h n]at hn;cases hn
def Ty.flat{ι:Type}:Ty ι->Bool
 | .int _=>true
 | .bool=>true
 | .str=>true
 |_=>false
def iQ:TV V.N->Bool
 | .lf t x=>(aK V t x).all λl=>l.t.flat
 |_=>false
def j7:TV V.N->Bool
 | .tup vs=>vs.all iQ
 |x=>iQ x
theorem xJ{x:TV V.N}(h:iQ x=true):TV.plain x=true:=by
 cases x<;>first|rfl|(simp[iQ]at h;done)
theorem Bc{x:TV V.N}(h:j7 x=true):TV.plain x=true:=by
 cases x with
 |tup vs=>
  simp only[j7,Uo]at h
  simp only[TV.plain]
  have:∀l:List (TV V.N),(∀x∈l,iQ x=true)->TV.plainL l=true:=by
   intro l
   induction l with
   |nil=>intro _;rfl
   |cons y r ih=>intro h;simp only[TV.plainL,Uk];exact⟨xJ (h y Uf),ih λx hx=>h x (Ua _ hx)⟩
  exact this vs h
 |lf t x=>rfl
 |raw _=>rfl
 |rp a b c=>rfl
 |junk=>rfl
 |agg cs=>simp[j7,iQ]at h
 |fn f a b=>simp[j7,iQ]at h
 |bp a b=>simp[j7,iQ]at h
 |vh a=>simp[j7,iQ]at h
 |ep a b c d=>simp[j7,iQ]at h
 |sv a b c d=>simp[j7,iQ]at h
 |mp a=>simp[j7,iQ]at h
 |np a b=>simp[j7,iQ]at h
 |sd a=>simp[j7,iQ]at h
theorem lH{l:dm V.N}(h:l.t.flat=true){M M':Mem}{v:Value}(hv:dd M v (aO V.sz V.enc l.t l.x)):dd M' v (aO V.sz V.enc l.t l.x):=by
 obtain⟨t,x⟩:=l
 cases t with
 |int k=>simp only[aO]at hv⊢;cases hv;exact .v _
 |bool=>simp only[aO]at hv⊢;cases hv;exact .v _
 |str=>simp only[aO]at hv⊢;cases hv;exact .v _
 |st i=>simp[Ty.flat]at h
 |sl e=>simp[Ty.flat]at h
 |mp k v=>simp[Ty.flat]at h
 |er=>simp[Ty.flat]at h
 |op e=>simp[Ty.flat]at h
 |fnc=>simp[Ty.flat]at h
theorem uQ{x:TV V.N}(h:iQ x=true){ω:Nat->Nat}{E E':Env}{M M':Mem}{v:Value}(hv:aL E M v (an V ω x)):aL E' M' v (an V ω x):=by
 cases x with
 |lf t x=>
  simp only[iQ,Uo]at h
  simp only[an]at hv⊢
  cases hv with
  |d hd=>
   refine .d ?_
   cases t with
   |st i=>
    simp only[aO]at hd⊢
    rw[V.enc_cells]at hd⊢
    cases hd with
    |agg cs _ hl hh=>
     refine .agg cs _ hl λk c y hc hy=> ?_
     rw[Ue]at hy
     cases hq:(V.cells i x)[k]? with
     |none=>rw[hq]at hy;cases hy
     |some l=>
      rw[hq]at hy;simp at hy;subst hy
      exact lH (h l (Un hq)) (hh k c _ hc (by rw[Ue,hq];rfl))
   |int k=>exact lH (l:=⟨.int k,x⟩) rfl hd
   |bool=>exact lH (l:=⟨.bool,x⟩) rfl hd
   |str=>exact lH (l:=⟨.str,x⟩) rfl hd
   |sl e=>simp[aK,Ty.flat]at h
   |mp k v=>simp[aK,Ty.flat]at h
   |er=>simp[aK,Ty.flat]at h
   |op e=>simp[aK,Ty.flat]at h
   |fnc=>simp[aK,Ty.flat]at h
 |_=>simp[iQ]at h
theorem Ht{x:TV V.N}(h:j7 x=true){ω:Nat->Nat}{E E':Env}{M M':Mem}{v:Value}(hv:aL E M v (an V ω x)):aL E' M' v (an V ω x):=by
 cases x with
 |tup vs=>
  simp only[j7,Uo]at h
  simp only[an]at hv⊢
  obtain⟨cs,rfl,h1,h2⟩:=hv.htup
  refine .tup cs _ h1 λi c y hc hy=> ?_
  rw[encL_map,Ue]at hy
  cases hq:vs[i]? with
  |none=>rw[hq]at hy;cases hy
  |some u=>
   rw[hq]at hy;simp at hy;subst hy
   exact uQ (h u (Un hq)) (h2 i c _ hc (by rw[encL_map,Ue,hq];rfl))
 |lf t x=>exact uQ (x:= .lf t x) (by simpa[j7]using h) hv
 |_=>simp[j7,iQ]at h
def bY(own:List (Nat×Own))(a a0:H):Prop:=∀(E:Env) (M:Mem) (w:World) (v:Value),M.le (fJ w)->CY E M w own->aL E M v a->aL E (fJ w) v a0
theorem bY.le{own:List (Nat×Own)}{a a0:H}(h:H.le a a0):bY own a a0:=λE M w v hM _ hv=>(h E M v hv).le hM
theorem bY.agg{own:List (Nat×Own)}{l l0:List H}(hl:l0.length=l.length)(h:∀(i:Nat) (a a0:H),l[i]?=some a->l0[i]?=some a0->bY own a a0):bY own (.agg l) (.agg l0):=λE M w v hM ho hv=>by
 obtain⟨cs,rfl,h1,h2⟩:=hv.hagg
 refine .agg cs l0 (by omega) λi c x hc hx=> ?_
 have hi:i<l.length:=by rw[<-hl];exact(Uc.1 hx).1
 exact h i _ x (Ub hi) hx E M w c hM ho (h2 i c _ hc (Ub hi))
theorem bY.vh{own:List (Nat×Own)}{n e sz:Nat}{rows:List (List D)}(h1:gt own n=some (.vec e sz rows)):bY own (.vh n rows.length) (.d (.sl sz rows)):=λE M w v hM ho hca=>by
 obtain⟨xs,g1,g2,g3,g4⟩:=ho.ok n _ h1
 refine .d ?_
 cases hca with
 |vh n len l cc a hE hle=>
  rcases g1.2 with⟨hnil,hz⟩|⟨g,cap,cur,hE',hbg,hg,hnc,hcm,hcs,htake⟩
  ·rw[hE]at hnil
   simp only[Value.slice.injEq]at hnil
   obtain⟨rfl,rfl,rfl⟩:=hnil
   have:rows=[]:=UE hz
   subst this
   exact .slnil sz
  ·rw[hE]at hE'
   simp only[Value.slice.injEq]at hE'
   obtain⟨rfl,rfl,rfl⟩:=hE'
   refine .sl g 0 _ _ sz rows (λk=>xs.getD k undef) rfl hnc g2 (λk hk=> ?_) λi j r x hr' hx=> ?_
   ·have hxk:k<xs.length:=by rw[g1.1];exact hk
    obtain⟨u,hu⟩:∃u,xs[k]?=some u:=⟨_,Ub hxk⟩
    have hq:w.cell? ⟨g,k,none⟩=some u:=by
     rw[cell_of_row w g k cur e (0,0) hg]
     have hu':=hu
     rw[<-htake,U1,XK hk]at hu'
     simpa using hu'
    simp[fJ,hq,hu]
   ·have hlr:=g2 r (Un hr')
    have hir:i<rows.length:=(Uc.1 hr').1
    have hj:j<sz:=by have:=(Uc.1 hx).1;omega
    have hmul:(i+1) *sz<=rows.length *sz:=UL _ hir
    rw[U_]at hmul
    have hxk:i *sz+j<xs.length:=by rw[g1.1];omega
    have:=g3 i j r xs[i *sz+j] x hr' hx (Ub hxk)
    have hg':xs.getD (i *sz+j) undef=xs[i *sz+j]:=by simp[hxk]
    rw[hg']
    exact this.mono hM
theorem bY.dvh{own:List (Nat×Own)}{n e sz:Nat}{rows:List (List DD)}{ds:List (List D)}(h1:gt own n=some (.dvec e sz rows))(hd:DD.toR rows=some ds):bY own (.vh n rows.length) (.d (.sl sz ds)):=λE M w v hM ho hca=>by
 have hok:=ho.ok n _ h1
 obtain⟨ad,cap,hE⟩:=hok.dlen
 have hv:=wh hca hE
 subst hv
 obtain⟨B,g1,g2,g3⟩:=hok
 exact .d (g1.frozen hM (λb _ o v hv=>hv) (xs:=[.sl sz ds]) (by simp[DD.toL,DD.toD,hd]) 0 _ _ rfl rfl)
def u3:TO V.N->Option (dm V.N)
 | .vec _ e xs=>some ⟨.sl e,xs⟩
 | .dvec _ e ys=>some ⟨.sl e,ys⟩
 |_=>none
theorem lN{o:TO V.N}{l0:dm V.N}(h:u3 o=some l0):∃x:Own,(∀ω,bg V ω o=some x)/\∀(own:List (Nat×Own)) (n:Nat),gt own n=some x->bY own (.vh n (TO.len (some o))) (.d (aO V.sz V.enc l0.t l0.x)):=by
 unfold u3 at h
 split at h
 ·rename_i te e xs
  cases h
  refine⟨_,λω=>rfl,λown n hn=> ?_⟩
  have:=bY.vh hn
  rw[Ug]at this
  exact this
 ·rename_i te e ys
  cases h
  refine⟨_,λω=>rfl,λown n hn=> ?_⟩
  have:=bY.dvh hn (tC ys)
  rw[Ug]at this
  simpa[TO.len,aO]using this
 ·cases h
theorem SB{P:Program}{f:FuncId}{args0 args:List H}{r:H}{own:List (Nat×Own)}(h:gr P f args0 [] r [])(hl:args.length=args0.length)
 (ha:∀(i:Nat) (a a0:H),args[i]?=some a->args0[i]?=some a0->bY own a a0)
 (hr:∀(E E':Env) (M M':Mem) (v:Value),aL E M v r->aL E' M' v r):Ja P f args own r own:=by
 refine⟨h.1,λE M w vs hgm hm ho hvs=> ?_⟩
 have hM:M.le (fJ w):=λb o v hv=>hm b o v hv
 have hrep:eU E (fJ w) vs args0:=by
  refine⟨hvs.1.trans hl,λi c x hc hx=> ?_⟩
  have hi:i<args.length:=by rw[hl];exact(Uc.1 hx).1
  have hca:=hvs.2 i c _ hc (Ub hi)
  exact ha i _ x (Ub hi) hx E M w c hM ho hca
 refine(h.2 E (fJ w) w vs (hgm.mono hM λ_ _ _=>rfl) (λb o v hv=>hv) ⟨λn o hn=>by simp[gt]at hn,λn m o o' b _ hn=>by simp[gt]at hn⟩ hrep).mono ?_
 rintro e w' ⟨v,E',M',rfl,hp⟩
 have hfr:∀b,b<w.heap.size->w'.heap[b]?=w.heap[b]?:=λb hb=>hp.frame b hb λ⟨n,o,hn,_⟩=>by simp[gt]at hn
 have hft:∀n o,gt own n=some o->∀b,o.foot w' (E n) b->o.foot w (E n) b:=λn o hn b hb=>((ho.ok n o hn).foot_keep (λb hb=>hfr b ((ho.ok n o hn).block hb).1) b).1 hb
 refine⟨v,E,M,rfl,{rep:=hr _ _ _ _ _ hp.rep,owns:=⟨λn o hn=> ?_,λn m o o' b hne hn hm hb hb'=>ho.apart n m o o' b hne hn hm (hft n o hn b hb) (hft m o' hm b hb')⟩,mle:=Mem.le_refl _,mem:=λb o v hv=>hp.mem b o v (hp.mle b o v (hm b o v hv)),mnew:=λb o v hv=> .inl hv,home:=λn o b hn hb=> .inl ⟨n,o,hn,hft n o hn b hb⟩,frame:=λk hk _=>hfr k hk,grows:=hp.grows,os:=hp.os,tape:=hp.tape,output:=hp.output,env:=λ_ _=>rfl},λ_ _=>rfl⟩
 have hok:=ho.ok n o hn
 refine hok.keep rfl (λb hb=>hfr b (hok.block hb).1) (λ_ _=>rfl) (Mem.le_refl _) λb hb=>(hok.block hb).2
def Je(S:TS V.N):List (Ty V.ι)->List (TV V.N)->Option (List (Nat×TO V.N)×List (dm V.N))
 |[],[]=>some ([],[])
 | .sl _::ts, .vh n::xs=>match S.own? n with
  |some o=>match u3 o with
   |some l0=>match Je S ts xs with
    |some (l,ls)=>some ((n,o)::l,l0::ls)
    |none=>none
   |none=>none
  |_=>none
 |t::ts,x::xs=>match nF V false t x with
  |some l0=>match Je S ts xs with
   |some (l,ls)=>some (l,l0::ls)
   |none=>none
  |none=>none
 |_,_=>none
def Nh:List (TV V.N)->Bool
 |[]=>false
 | .vh _::_=>true
 |_::r=>Nh r
def O1(S:TS V.N):Pt V.ι->TV V.N->Option (List (Nat×TO V.N)×List (dm V.N))
 | .dat (.sl e), .vh n=>match S.own? n with
  |some o=>match u3 o with
   |some l0=>if l0.t= .sl e then some ([(n,o)],[l0])else none
   |none=>none
  |_=>none
 | .dat (.st i), .agg vs=>match Nh vs with
  |true=>match Je S (V.tys i) vs with
   |some (p::l,ls)=>match V.ofCells i ls with
    |some y=>some (p::l,[⟨.st i,y⟩])
    |none=>none
   |_=>none
  |false=>match mt1 V [] (.dat (.st i)) (.agg vs)with
   |some (_,ls)=>some ([],ls)
   |none=>none
 | .dat t,x=>match mt1 V [] (.dat t) x with
  |some (_,ls)=>some ([],ls)
  |none=>none
 | .fn f [] [], .fn f' [] []=>if f=f' then some ([],[])else none
 |_,_=>none
def wH(S:TS V.N):List (Pt V.ι)->List (TV V.N)->Option (List (Nat×TO V.N)×List (dm V.N))
 |[],[]=>some ([],[])
 |p::ps,x::xs=>match O1 S p x with
  |some (l,ls)=>match wH S ps xs with
   |some (l',ls')=>some (l++l',ls++ls')
   |none=>none
  |none=>none
 |_,_=>none
def aP(P:Program)(sig:Sig V)(F:HL V.N sig.tys->Option (HL V.N sig.rcut.tys))(A:Type)(args:List (TV V.N))(S:TS V.N)(k:TE V.N->Option A):Option A:=
 match wH S sig.params args with
 |some (lent,ls)=>match JU sig.tys ls with
  |some v=>F v>>=λr=>match qF P sig r with
   |some x=>match lent with
    |[]=>match TV.plain x with
     |true=>k {val:=x}
     |false=>none
    |p::l=>match j7 x with
     |true=>k {val:=x,acc:=(p::l).map (·.1),upd:=(p::l)++(p::l).map λq=>(q.1, .gone (TO.len (some q.2)))}
     |false=>none
   |none=>none
  |none=>none
 |none=>none
theorem Eq{σ σ':cG}{t:Ty V.ι}{x:TV V.N}{ls:List (dm V.N)}(h:mt1 V σ (.dat t) x=some (σ',ls)):σ'=σ:=by
 cases x with
 |lf t' y=>
  simp only[mt1]at h
  have:=(ao h).2
  simp only[Ud,UC]at this
  exact this.1.symm
 |raw v=>
  unfold mt1 at h
  split at h<;>first
   |(simp only[Ud,UC]at h;exact h.1.symm)
   |(cases h;done)
   |contradiction
 |agg cs=>
  unfold mt1 at h
  split at h<;>first
   |(split at h
     ·simp only[Ud,UC]at h;exact h.1.symm
     ·cases h)
   |(cases h;done)
   |contradiction
 |_=>simp[mt1]at h
theorem bY.pre{own:List (Nat×Own)}{a b c:H}(h:H.le a b)(k:bY own b c):bY own a c:=λE M w v hM ho hv=>k E M w v hM ho (h E M v hv)
theorem bY.post{own:List (Nat×Own)}{a b c:H}(h:bY own a b)(k:H.le b c):bY own a c:=λE M w v hM ho hv=>k E _ v (h E M w v hM ho hv)
def J4(own:List (Nat×Own))(l:List (Nat×TO V.N)):Prop:=∀n o,(n,o)∈l->∀x,(∀ω,bg V ω o=some x)->gt own n=some x
theorem mD{S:TS V.N}:∀{ts:List (Ty V.ι)} {xs:List (TV V.N)} {l:List (Nat×TO V.N)} {ls:List (dm V.N)},Je S ts xs=some (l,ls)->
 xs.length=ls.length/\(∀n o,(n,o)∈l->S.own? n=some o/\∃l0,u3 o=some l0)/\
  ∀own:List (Nat×Own),J4 own l->∀(i:Nat) (x:TV V.N) (l0:dm V.N),xs[i]?=some x->ls[i]?=some l0->bY own (an V S.len x) (.d (aO V.sz V.enc l0.t l0.x))
 |[],[],l,ls,h=>by
  simp[Je]at h;obtain⟨rfl,rfl⟩:=h
  exact⟨rfl,λn o hm=>by simp at hm,λown _ i x l0 hx=>by simp at hx⟩
 |[],_::_,l,ls,h=>by simp[Je]at h
 |_::_,[],l,ls,h=>by unfold Je at h;split at h<;>first|(cases h;done)|contradiction
 |t::ts,x::xs,l,ls,h=>by
  unfold Je at h
  split at h
  ·rename_i heq _;cases heq
  ·rename_i e ts' n xs' heq1 heq2
   simp only[VQ]at heq1 heq2
   obtain⟨rfl,rfl⟩:=heq1
   obtain⟨rfl,rfl⟩:=heq2
   split at h
   ·rename_i o hn
    split at h
    ·rename_i l00 hl0
     split at h
     ·rename_i l' ls' h2
      simp at h;obtain⟨rfl,rfl⟩:=h
      obtain⟨b1,b2,b3⟩:=mD h2
      refine⟨by simp[b1],λm o hm=> ?_,λown hown i y l0 hy hl=> ?_⟩
      ·rcases Um.1 hm with he|hm
       ·simp only[UC]at he
        obtain⟨rfl,rfl⟩:=he
        exact⟨hn,_,hl0⟩
       ·exact b2 m o hm
      ·cases i with
       |zero=>
        simp at hy hl;subst hy;subst hl
        obtain⟨x,x1,x2⟩:=lN hl0
        have:=x2 own n (hown n o Uf x x1)
        simp only[an]
        unfold TS.len
        rw[hn];exact this
       |succ i=>exact b3 own (λm a hm=>hown m a (Ua _ hm)) i y l0 (by simpa using hy) (by simpa using hl)
     ·cases h
    ·cases h
   ·cases h
  ·rename_i t' ts' x' xs' _ heq1 heq2
   simp only[VQ]at heq1 heq2
   obtain⟨rfl,rfl⟩:=heq1
   obtain⟨rfl,rfl⟩:=heq2
   split at h
   ·rename_i l0 hl
    split at h
    ·rename_i l' ls' h2
     simp at h;obtain⟨rfl,rfl⟩:=h
     obtain⟨b1,b2,b3⟩:=mD h2
     refine⟨by simp[b1],b2,λown hown i y l1 hy hl1=> ?_⟩
     cases i with
     |zero=>
      simp at hy hl1;subst hy;subst hl1
      have hls:cJ V false [t] [x]=some [l0]:=by simp[cJ,hl]
      obtain⟨ds,e1,e2,_⟩:=cp (ω:=S.len) hls
      simp only[encL]at e1
      obtain⟨d,hd⟩:∃d,ds=[d]:=by
       match ds,e1 with
       |[d],_=>exact⟨d,rfl⟩
       |[],e1=>simp at e1
       |_::_::_,e1=>simp at e1
      subst hd
      simp only[Uj,UM,VQ,and_true]at e1
      rw[e1]
      obtain⟨d0,g1,g2⟩:=e2.get 0 (aO V.sz V.enc l0.t l0.x) rfl
      simp at g1;subst g1
      refine bY.le λE M a hr=> ?_
      cases hr with
      |d q=>exact .d (g2 M a q)
     |succ i=>exact b3 own hown i y l1 (by simpa using hy) (by simpa using hl1)
    ·cases h
   ·cases h
  ·cases h
theorem AH{S:TS V.N}{p:Pt V.ι}{x:TV V.N}{l:List (Nat×TO V.N)}{ls:List (dm V.N)}(h:O1 S p x=some (l,ls)):
 (∃x0,(∀rest,bd1 V p (ls++rest)=some (x0,rest))/\∀ω0:Nat->Nat,(l=[]->H.le (an V S.len x) (an V ω0 x0))/\∀own,J4 own l->bY own (an V S.len x) (an V ω0 x0))/\
   ∀n o,(n,o)∈l->S.own? n=some o/\∃l0,u3 o=some l0:=by
 unfold O1 at h
 split at h
 ·rename_i e n
  split at h
  ·rename_i o hn
   split at h
   ·rename_i l0 hl0
    have h':=ao h;clear h
    obtain⟨he,h⟩:=h'
    simp at h;obtain⟨rfl,rfl⟩:=h
    refine⟨⟨.lf l0.t l0.x,λrest=>rfl,λω0=>⟨λhl=>by simp at hl,λown hown=> ?_⟩⟩,λm o' hm=> ?_⟩
    ·obtain⟨x,x1,x2⟩:=lN hl0
     have:=x2 own n (hown n o Uf x x1)
     simp only[an]
     unfold TS.len
     rw[hn];exact this
    ·simp at hm
     obtain⟨rfl,rfl⟩:=hm
     exact⟨hn,l0,hl0⟩
   ·cases h
  ·cases h
 ·rename_i i vs
  split at h
  ·split at h
   ·rename_i p0 l0 ls0 hC
    split at h
    ·rename_i y hy
     simp at h;obtain⟨rfl,rfl⟩:=h
     obtain⟨b1,b2,b3⟩:=mD hC
     refine⟨⟨.lf (.st i) y,λrest=>rfl,λω0=>⟨λhl=>by simp at hl,λown hown=> ?_⟩⟩,b2⟩
     have hc:=V.of_cells i ls0 y hy
     simp only[an,aO]
     refine bY.pre (lQ _) (bY.post (bY.agg (l0:=ls0.map λl=> .d (aO V.sz V.enc l.t l.x)) (by rw[Ug,aG];exact b1.symm) λi a a0 ha ha0=> ?_) ?_)
     ·rw[encL_map,Ue,Ul]at ha
      rw[Ue,Ul]at ha0
      obtain⟨u,hu,rfl⟩:=ha
      obtain⟨l1,hl1,rfl⟩:=ha0
      exact b3 own hown i u l1 hu hl1
     ·have e1:V.enc i y=ls0.map λl=>aO V.sz V.enc l.t l.x:=by rw[V.enc_cells,hc]
      have:=sV ((ls0.map λl=>aO V.sz V.enc l.t l.x).map H.d)
      rw[cU,eV]at this
      rw[e1]
      rw[UH]at this
      exact this
    ·cases h
   ·cases h
  ·split at h
   ·rename_i σ ls' h1
    simp at h;obtain⟨rfl,rfl⟩:=h
    obtain⟨_,_,_,x0,a1,a2⟩:=px h1
    have hσ:=Eq h1
    subst hσ
    have hle:∀ω0:Nat->Nat,H.le (an V S.len (.agg vs)) (an V ω0 x0):=λω0 E M v hv=>a2 [] [] E E M S.len ω0 v (Sub.refl _) rfl ⟨λc n hc=>by simp[gt]at hc,λc n hc=>by simp at hc⟩ hv
    exact⟨⟨x0,a1,λω0=>⟨λ_=>hle ω0,λown _=>bY.le (hle ω0)⟩⟩,λn o hm=>by simp at hm⟩
   ·cases h
 ·rename_i t x' hne hne2
  split at h
  ·rename_i σ ls' h1
   simp at h;obtain⟨rfl,rfl⟩:=h
   obtain⟨_,_,_,x0,a1,a2⟩:=px h1
   have hσ:=Eq h1
   subst hσ
   have hle:∀ω0:Nat->Nat,H.le (an V S.len x) (an V ω0 x0):=λω0 E M v hv=>a2 [] [] E E M S.len ω0 v (Sub.refl _) rfl ⟨λc n hc=>by simp[gt]at hc,λc n hc=>by simp at hc⟩ hv
   exact⟨⟨x0,a1,λω0=>⟨λ_=>hle ω0,λown _=>bY.le (hle ω0)⟩⟩,λn o hm=>by simp at hm⟩
  ·cases h
 ·rename_i f f'
  have h':=ao h;clear h
  obtain⟨he,h⟩:=h'
  subst he
  simp at h;obtain⟨rfl,rfl⟩:=h
  have hle:∀ω0:Nat->Nat,H.le (an V S.len (.fn f [] [])) (an V ω0 (.fn f [] []:TV V.N)):=λω0=>by simp only[an,encL];exact H.le.refl _
  exact⟨⟨.fn f [] [],λrest=>rfl,λω0=>⟨λ_=>hle ω0,λown _=>bY.le (hle ω0)⟩⟩,λn o hm=>by simp at hm⟩
 ·cases h
theorem oH{S:TS V.N}:∀{ps:List (Pt V.ι)} {xs:List (TV V.N)} {l:List (Nat×TO V.N)} {ls:List (dm V.N)},wH S ps xs=some (l,ls)->
 ∃xs0:List (TV V.N),xs0.length=xs.length/\(∀rest,bdL V ps (ls++rest)=some (xs0,rest))/\(∀(i:Nat) (x x0:TV V.N),xs[i]?=some x->xs0[i]?=some x0->
  ∀ω0:Nat->Nat,(l=[]->H.le (an V S.len x) (an V ω0 x0))/\∀own,J4 own l->bY own (an V S.len x) (an V ω0 x0))/\
  ∀n o,(n,o)∈l->S.own? n=some o/\∃l0,u3 o=some l0
 |[],[],l,ls,h=>by
  simp[wH]at h;obtain⟨rfl,rfl⟩:=h
  exact⟨[],rfl,λrest=>rfl,λi x x0 hx=>by simp at hx,λn o hm=>by simp at hm⟩
 |[],_::_,l,ls,h=>by simp[wH]at h
 |_::_,[],l,ls,h=>by simp[wH]at h
 |p::ps,x::xs,l,ls,h=>by
  simp only[wH]at h
  split at h
  ·rename_i l1 ls1 h1
   split at h
   ·rename_i l2 ls2 h2
    simp at h;obtain⟨rfl,rfl⟩:=h
    obtain⟨⟨x0,a1,a2⟩,a3⟩:=AH h1
    obtain⟨xs0,b1,b2,b3,b4⟩:=oH h2
    refine⟨x0::xs0,by simp[b1],λrest=>by simp only[bdL,UQ,a1,b2],λi y y0 hy hy0 ω0=> ?_,λn o hm=> ?_⟩
    ·cases i with
     |zero=>
      simp at hy hy0;subst hy;subst hy0
      exact⟨λhl=>(a2 ω0).1 (Wo.1 hl).1,λown hown=>(a2 ω0).2 own λm a hm=>hown m a (Vy _ hm)⟩
     |succ i=>
      have:=b3 i y y0 (by simpa using hy) (by simpa using hy0) ω0
      exact⟨λhl=>this.1 (Wo.1 hl).2,λown hown=>this.2 own λm a hm=>hown m a (VN _ hm)⟩
    ·rcases Ur.1 hm with hm|hm
     ·exact a3 n o hm
     ·exact b4 n o hm
   ·cases h
  ·cases h
theorem nL{own:List (Nat×Own)}:∀{l:List (Nat×Own)},(∀p∈l,∃o,gt own p.1=some o)->ed own l=[]
 |[],_=>rfl
 |(n,o)::r,h=>by
  obtain⟨o',ho⟩:=h (n,o) Uf
  simp only at ho
  simp only[ed,ho]
  exact nL λp hp=>h p (Ua _ hp)
theorem ak{P:Program}{fid:Nat}{sig:Sig V}{F:HL V.N sig.tys->Option (HL V.N sig.rcut.tys)}(hF:aq P fid sig F)(ho:sig.objs=[])(hk0:sig.keep=[]){A:Type}{args:List (TV V.N)}{S:TS V.N}{dst:Option Tmp}
 {k:TE V.N->Option A}{r:A}(h:aP P sig F A args S k=some r):
 ∃te,k te=some r/\good S te/\wE P fid (encL V S.len args) (aH V S).own? λe'=>ELe true e' (gl (S.app dst te).len te):=by
 unfold aP at h
 split at h
 ·rename_i lent ls hargs
  split at h
  ·rename_i v hv
   obtain⟨y,hy,h⟩:=bB h
   split at h
   ·rename_i x hx
    have hc:=hF v y x hy hx
    have hkept:jJ sig y=[]:=by
     unfold jJ
     rw[hk0,List.filter_eq_nil_iff]
     intro p _;simp
    rw[hkept]at hc
    obtain⟨xs0,b1,b2,b3,b4⟩:=oH hargs
    have hls:=qt hv
    have hst:aX sig v=(xs0,[]):=by
     unfold aX
     rw[hls]
     have:=b2 []
     rw[U0]at this
     rw[this,ho]
     rfl
    have hown0:(az sig v).own=[]:=by unfold az;rw[hst]
    rw[hst,hown0]at hc
    simp only[bt,List.filterMap_nil]at hc
    generalize (az sig v).len=ω0 at hc
    cases lent with
    |nil=>
     simp only at h
     split at h
     ·rename_i hpl
      refine⟨_,h,gc S x [],?_⟩
      have hw:=hc.weak (args':=encL V S.len args) (by rw[aG,aG];exact b1.symm) λi a a0 ha ha0=>by
       rw[encL_map,Ue,Ul]at ha ha0
       obtain⟨u,hu,rfl⟩:=ha
       obtain⟨u0,hu0,rfl⟩:=ha0
       exact(b3 i u u0 hu hu0 ω0).1 rfl
      have hplH:H.plain (an V (bV V sig.rcut y).len x)=true:=by
       have:∀z:H,(∀n,H.has n z=false)->H.plain z=true:=by
        intro z
        refine H.rec (motive_1:=λz=>(∀n,H.has n z=false)->H.plain z=true) (motive_2:=λl=>(∀n,H.hasL n l=false)->H.plainL l=true) ?_ ?_ ?_ ?_ ?_ ?_ ?_ ?_ ?_ ?_ ?_ ?_ ?_ ?_ z
        ·intro _ _;rfl
        ·intro _;rfl
        ·intro m o hn;have:=hn m;simp[H.has]at this
        ·intro m o hn;have:=hn m;simp[H.has]at this
        ·intro m s i o hn;have:=hn m;simp[H.has]at this
        ·intro m s i o hn;have:=hn m;simp[H.has]at this
        ·intro m hn;have:=hn m;simp[H.has]at this
        ·intro m b hn;have:=hn m;simp[H.has]at this
        ·intro m hn;have:=hn m;simp[H.has]at this
        ·intro cs ih hn;simp only[H.plain];exact ih λn=>by have:=hn n;simpa[H.has]using this
        ·intro cs ih hn;simp only[H.plain];exact ih λn=>by have:=hn n;simpa[H.has]using this
        ·intro f a b ih1 ih2 hn
         simp only[H.plain,Uk]
         exact⟨ih1 λn=>by have:=hn n;simp only[H.has,UY]at this;exact this.1,ih2 λn=>by have:=hn n;simp only[H.has,UY]at this;exact this.2⟩
        ·intro _;rfl
        ·intro x r ih1 ih2 hn
         simp only[H.plainL,Uk]
         exact⟨ih1 λn=>by have:=hn n;simp only[H.hasL,UY]at this;exact this.1,ih2 λn=>by have:=hn n;simp only[H.hasL,UY]at this;exact this.2⟩
       exact this _ λn=>by rw[g_];exact plain_has hpl n
      refine AE hw hplH ?_
      exact oV (dst:=dst) (l:=[]) (vL hpl _ _)
     ·cases h
    |cons p l=>
     simp only at h
     split at h
     ·rename_i hfl
      generalize hL:p::l=L at h hargs b3 b4
      have hpl:=Bc hfl
      refine⟨_,h,λm o hm=> ?_,?_⟩
      ·right
       simp only[d5]at hm
       cases hq:gt L m with
       |some o'=>
        rw[hq]at hm;simp at hm;subst hm
        obtain⟨h2,_⟩:=b4 m o' (bc hq)
        unfold TS.len;rw[h2]
       |none=>
        rw[hq]at hm
        have hm':=bc hm
        obtain⟨q,hq1,hq2⟩:=Uy.1 hm'
        simp only[UC]at hq2
        obtain⟨rfl,rfl⟩:=hq2
        obtain⟨h2,_⟩:=b4 q.1 q.2 hq1
        unfold TS.len;rw[h2];rfl
      ·let own:List (Nat×Own):=L.filterMap λq=>(bg V S.len q.2).map λo=>(q.1,o)
       have hmap:∀l':List (Nat×TO V.N),(∀n o,(n,o)∈l'->S.own? n=some o/\∃l0,u3 o=some l0)->∀ω:Nat->Nat,
        l'.map (λq=>(q.1,bg V ω q.2))=(l'.filterMap λq=>(bg V S.len q.2).map λo=>(q.1,o)).map (λq=>(q.1,some q.2))/\
        (l'.map λq:Nat×TO V.N=>(q.1,TO.gone (N:=V.N) (TO.len (some q.2)))).map (λq=>(q.1,bg V ω q.2))=(l'.filterMap λq=>(bg V S.len q.2).map λo=>(q.1,o)).map (λq=>(q.1,none))/\
        l'.map (·.1)=(l'.filterMap λq=>(bg V S.len q.2).map λo=>(q.1,o)).map (·.1):=by
        intro l'
        induction l' with
        |nil=>intro _ ω;exact⟨rfl,rfl,rfl⟩
        |cons q r ih=>
         intro hq ω
         obtain⟨n,o⟩:=q
         obtain⟨h2,l00,hl0⟩:=hq n o Uf
         obtain⟨i1,i2,i3⟩:=ih (λn o hm=>hq n o (Ua _ hm)) ω
         obtain⟨x0,e0,_⟩:=lN hl0
         simp only[VD,e0,UB,Uj]
         rw[i1,i2,i3]
         exact⟨rfl,rfl,rfl⟩
       have hgt:∀n x,gt own n=some x->∃o,(n,o)∈L/\S.own? n=some o/\bg V S.len o=some x:=by
        intro n x hn
        obtain⟨z,h1,h2⟩:=cE hn
        exact⟨z,h1,(b4 n z h1).1,h2⟩
       have hgt':∀n o,(n,o)∈L->∀x,(∀ω,bg V ω o=some x)->gt own n=some x:=by
        intro n o hn x hx
        have hkey:n∈own.map (·.1):=by rw[<-(hmap L b4 S.len).2.2];exact Uv (f:=(·.1)) hn
        obtain⟨x',hxx⟩:=eu hkey
        obtain⟨o',h1,h2,h3⟩:=hgt n x' hxx
        rw[(b4 n o hn).1]at h2;cases h2
        rw[hx]at h3;cases h3
        exact hxx
       have hat:=SB (args:=encL V S.len args) (own:=own) hc (by rw[aG,aG];exact b1.symm) (λi a a0 ha ha0=>by
        rw[encL_map,Ue,Ul]at ha ha0
        obtain⟨u,hu,rfl⟩:=ha
        obtain⟨u0,hu0,rfl⟩:=ha0
        exact(b3 i u u0 hu hu0 ω0).2 own hgt') (λE E' M M' v hv=>Ht hfl hv)
       refine⟨own,_,own,hat,λq hq=> ?_,?_⟩
       ·obtain⟨z,hz1,hz2⟩:=Va.1 hq
        obtain⟨h2,l00,hl0⟩:=b4 z.1 z.2 hz1
        obtain⟨x0,e0,_⟩:=lN hl0
        rw[e0]at hz2
        simp only[UB,Ud]at hz2
        subst hz2
        rw[aM,h2];exact e0 _
       ·refine bU ?_ ?_ ?_ ?_
        ·exact vL hpl _ _
        ·simp only[dJ]
         exact nL λp hp=>by
          obtain⟨o,hoo⟩:=eu (Uv (f:=(·.1)) hp)
          exact⟨o,hoo⟩
        ·simp only[dJ,UZ]
         obtain⟨i1,i2,_⟩:=hmap L b4 (S.app dst {val:=x,acc:=L.map (·.1),upd:=L++L.map λq=>(q.1, .gone (TO.len (some q.2)))}).len
         rw[i1,i2]
        ·simp only[dJ]
         exact(hmap L b4 S.len).2.2.symm
     ·cases h
   ·cases h
  ·cases h
 ·cases h
end
end Go.Tx
end
section
namespace Go.Tx
open Go.Awp
variable [Inhabited GMem]
def af(f:Func):Code:=match f.body with
 |some c=>c
 |none=> .skip
def aJ:Code->List Code
 | .seq a b=>aJ a++aJ b
 | .block _ x=>aJ x
 | .cond _ a b=>aJ a++aJ b
 | .loop b=>[b]
 | .scope b=>aJ b
 |_=>[]
def ai(c:Code)(i:Nat):Code:=match(aJ c)[i]? with
 |some b=>b
 |none=> .skip
def k_:Code->List Code
 | .seq a b=>k_ a++k_ b
 | .block _ x=>k_ x
 | .cond _ a b=>k_ a++k_ b
 | .scope b=>b::k_ b
 |_=>[]
def fZ(p:Code->Prop):List Code->Prop
 |[]=>True
 |b::r=>p b/\fZ p r
theorem eC{p:Code->Prop}:∀{l m:List Code},fZ p (l++m)->fZ p l/\fZ p m
 |[],_,h=>⟨trivial,h⟩
 |_::_,_,h=>⟨⟨h.1,(eC h.2).1⟩,(eC h.2).2⟩
theorem bj{a b:Prop}(h:a=b)(x:a):b:=h▸x
section
variable {V:mz}
def bq(C:Ctx)(X:Xc V)(b:Code):Prop:=∀la,X.loops (bL b)=some la->dB C b la
def Me(C:Ctx)(X:Xc V)(x:Code):Prop:=∀l la,X.jumps (bL x)=some (l,la)->Jb C x l la
theorem HE{C:Ctx}{X:Xc V}:∀{c:Code},fZ (bq C X) (aJ c)->fZ (Me C X) (k_ c)->LOk C X c:=by
 intro c
 induction c with
 |seq a b iha ihb=>intro h g;exact⟨iha (eC h).1 (eC g).1,ihb (eC h).2 (eC g).2⟩
 |block id x ih=>intro h g;exact ih h g
 |scope x ih=>intro h g;exact⟨ih h g.2,g.1⟩
 |cond c a b iha ihb=>intro h g;exact⟨iha (eC h).1 (eC g).1,ihb (eC h).2 (eC g).2⟩
 |loop b ih=>intro h g;exact h.1
 |_=>intro _ _;trivial
theorem C9{p:Code->Prop}(h:∀b,p b):∀l:List Code,fZ p l
 |[]=>trivial
 |b::r=>⟨h b,C9 h r⟩
theorem bm{C:Ctx}{X:Xc V}{c:Code}(h:fZ (bq C X) (aJ c))(hj:∀k,X.jumps k=none:=by intro k;rfl):LOk C X c:=
 HE h (C9 (λx l la e=>by rw[hj]at e;cases e) _)
theorem d8{C:Ctx}{X:Xc V}{b:Code}{la0:nV V X.sh}(e:X.loops (bL b)=some la0)(h:dB C b la0):bq C X b:=λla hl=>by
 rw[e]at hl
 cases hl
 exact h
end
end Go.Tx
end
section
namespace Go.Tx
open Go.Awp
variable [Inhabited GMem]
section
variable {ι:Type} {N:ι->Type}
mutual
def TV.ren(f:Nat->Nat):TV N->TV N
 | .bp n o=> .bp (f n) o
 | .vh n=> .vh (f n)
 | .ep n s i o=> .ep (f n) s i o
 | .sv n s i o=> .sv (f n) s i o
 | .mp n=> .mp (f n)
 | .np n b=> .np (f n) b
 | .sd n=> .sd (f n)
 | .agg cs=> .agg (TV.renL f cs)
 | .tup vs=> .tup (TV.renL f vs)
 | .fn g a b=> .fn g (TV.renL f a) (TV.renL f b)
 | .lf t x=> .lf t x
 | .raw v=> .raw v
 | .rp t x off=> .rp t x off
 | .junk=> .junk
def TV.renL(f:Nat->Nat):List (TV N)->List (TV N)
 |[]=>[]
 |x::r=>TV.ren f x::TV.renL f r
end
def TO.ren(f:Nat->Nat):TO N->TO N
 | .box o cells=> .box o (TV.renL f cells)
 | .bst i x=> .bst i x
 | .vec te e xs=> .vec te e xs
 | .dvec te e xs=> .dvec te e xs
 | .pvec te e xs=> .pvec te e xs
 | .map k v es=> .map k v es
 | .iter s p=> .iter s p
 | .miter m k v es rest cur=> .miter (f m) k v es rest cur
 | .gone l=> .gone l
mutual
def TV.allN(p:Nat->Bool):TV N->Bool
 | .bp n _=>p n
 | .vh n=>p n
 | .ep n _ _ _=>p n
 | .sv n _ _ _=>p n
 | .mp n=>p n
 | .np n _=>p n
 | .sd n=>p n
 | .agg cs=>TV.allNL p cs
 | .tup vs=>TV.allNL p vs
 | .fn _ a b=>TV.allNL p a&&TV.allNL p b
 | .lf .. =>true
 | .raw _=>true
 | .rp .. =>true
 | .junk=>true
def TV.allNL(p:Nat->Bool):List (TV N)->Bool
 |[]=>true
 |x::r=>TV.allN p x&&TV.allNL p r
end
def TO.allN(p:Nat->Bool):TO N->Bool
 | .box _ cells=>TV.allNL p cells
 | .bst .. =>true
 | .vec .. =>true
 | .dvec .. =>true
 | .pvec .. =>true
 | .map .. =>true
 | .iter .. =>true
 | .miter m _ _ _ _ _=>p m
 | .gone _=>false
end
section
variable {V:mz}
mutual
theorem TV.allN_has{p:Nat->Bool}{n:Nat}:∀{x:TV V.N},TV.allN p x=true->TV.has n x=true->p n=true
 | .bp m o,h,hn=>by simp[TV.has]at hn;subst hn;simpa[TV.allN]using h
 | .vh m,h,hn=>by simp[TV.has]at hn;subst hn;simpa[TV.allN]using h
 | .ep m s i o,h,hn=>by simp[TV.has]at hn;subst hn;simpa[TV.allN]using h
 | .sv m s i o,h,hn=>by simp[TV.has]at hn;subst hn;simpa[TV.allN]using h
 | .mp m,h,hn=>by simp[TV.has]at hn;subst hn;simpa[TV.allN]using h
 | .np m b,h,hn=>by simp[TV.has]at hn;subst hn;simpa[TV.allN]using h
 | .sd m,h,hn=>by simp[TV.has]at hn;subst hn;simpa[TV.allN]using h
 | .agg cs,h,hn=>by simp only[TV.allN]at h;simp only[TV.has]at hn;exact TV.allNL_has h hn
 | .tup cs,h,hn=>by simp only[TV.allN]at h;simp only[TV.has]at hn;exact TV.allNL_has h hn
 | .fn f a b,h,hn=>by
  simp only[TV.allN,Uk]at h
  simp only[TV.has,UI]at hn
  rcases hn with hn|hn
  ·exact TV.allNL_has h.1 hn
  ·exact TV.allNL_has h.2 hn
 | .lf ..,h,hn=>by simp[TV.has]at hn
 | .raw _,h,hn=>by simp[TV.has]at hn
 | .rp ..,h,hn=>by simp[TV.has]at hn
 | .junk,h,hn=>by simp[TV.has]at hn
theorem TV.allNL_has{p:Nat->Bool}{n:Nat}:∀{l:List (TV V.N)},TV.allNL p l=true->TV.hasL n l=true->p n=true
 |[],h,hn=>by simp[TV.hasL]at hn
 |x::r,h,hn=>by
  simp only[TV.allNL,Uk]at h
  simp only[TV.hasL,UI]at hn
  rcases hn with hn|hn
  ·exact TV.allN_has h.1 hn
  ·exact TV.allNL_has h.2 hn
end
theorem TO.allN_has{p:Nat->Bool}{n:Nat}{o:TO V.N}(h:TO.allN p o=true)(hn:TO.has n o=true):p n=true:=by
 cases o with
 |box oty cells=>exact TV.allNL_has h hn
 |bst i x=>simp[TO.has]at hn
 |vec te e xs=>simp[TO.has]at hn
 |dvec te e xs=>simp[TO.has]at hn
 |pvec te e xs=>simp[TO.has]at hn
 |map k v es=>simp[TO.has]at hn
 |iter s p=>simp[TO.has]at hn
 |miter m k v es rest cur=>simp[TO.has]at hn;subst hn;exact h
 |gone l=>simp[TO.has]at hn
mutual
theorem H.allN_of{p:Nat->Bool}:∀{x:H},(∀n,H.has n x=true->p n=true)->H.allN p x=true
 | .bp m o,h=>by simp only[H.allN];exact h m (by simp[H.has])
 | .vh m l,h=>by simp only[H.allN];exact h m (by simp[H.has])
 | .ep m s i o,h=>by simp only[H.allN];exact h m (by simp[H.has])
 | .sv m s i o,h=>by simp only[H.allN];exact h m (by simp[H.has])
 | .mp m,h=>by simp only[H.allN];exact h m (by simp[H.has])
 | .np m b,h=>by simp only[H.allN];exact h m (by simp[H.has])
 | .sd m,h=>by simp only[H.allN];exact h m (by simp[H.has])
 | .agg cs,h=>by simp only[H.allN];exact H.allNL_of λn hn=>h n (by simpa[H.has]using hn)
 | .tup cs,h=>by simp only[H.allN];exact H.allNL_of λn hn=>h n (by simpa[H.has]using hn)
 | .fn f a b,h=>by
  simp only[H.allN,Uk]
  exact⟨H.allNL_of λn hn=>h n (by simp[H.has,hn]),H.allNL_of λn hn=>h n (by simp[H.has,hn])⟩
 | .d _,h=>by simp[H.allN]
 | .junk,h=>by simp[H.allN]
theorem H.allNL_of{p:Nat->Bool}:∀{l:List H},(∀n,H.hasL n l=true->p n=true)->H.allNL p l=true
 |[],h=>by simp[H.allNL]
 |x::r,h=>by
  simp only[H.allNL,Uk]
  exact⟨H.allN_of λn hn=>h n (by simp[H.hasL,hn]),H.allNL_of λn hn=>h n (by simp[H.hasL,hn])⟩
end
theorem zl(f:Nat->Nat):∀l:List H,gk (H.renL f l)=gk l
 |[]=>rfl
 |x::r=>by
  have ih:=zl f r
  cases x<;>simp[H.renL,H.ren,gk,ih]
theorem En(f:Nat->Nat)(l:List H):H.ren f (cU l)=cU (H.renL f l):=by
 unfold cU
 rw[zl]
 split<;>simp[H.ren]
theorem A6(f:Nat->Nat)(v:Value):H.ren f (bF v)=bF v:=by cases v<;>simp[bF,H.ren]
mutual
theorem sE{f:Nat->Nat}{ω ω':Nat->Nat}:∀x:TV V.N,(∀n,TV.has n x=true->ω' (f n)=ω n)->an V ω' (TV.ren f x)=H.ren f (an V ω x)
 | .bp m o,h=>by simp[TV.ren,an,H.ren]
 | .vh m,h=>by simp[TV.ren,an,H.ren,h m (by simp[TV.has])]
 | .ep m s i o,h=>by simp[TV.ren,an,H.ren]
 | .sv m s i o,h=>by simp[TV.ren,an,H.ren]
 | .mp m,h=>by simp[TV.ren,an,H.ren]
 | .np m b,h=>by simp[TV.ren,an,H.ren]
 | .sd m,h=>by simp[TV.ren,an,H.ren]
 | .agg cs,h=>by simp only[TV.ren,an,En];rw[encL_ren cs λn hn=>h n (by simpa[TV.has]using hn)]
 | .tup cs,h=>by simp only[TV.ren,an,H.ren];rw[encL_ren cs λn hn=>h n (by simpa[TV.has]using hn)]
 | .fn g a b,h=>by
  simp only[TV.ren,an,H.ren]
  rw[encL_ren a λn hn=>h n (by simp[TV.has,hn]),encL_ren b λn hn=>h n (by simp[TV.has,hn])]
 | .lf t x,h=>by simp[TV.ren,an,H.ren]
 | .raw v,h=>by simp[TV.ren,an,A6]
 | .rp t x o,h=>by simp[TV.ren,an,H.ren]
 | .junk,h=>by simp[TV.ren,an,H.ren]
theorem encL_ren{f:Nat->Nat}{ω ω':Nat->Nat}:∀l:List (TV V.N),(∀n,TV.hasL n l=true->ω' (f n)=ω n)->encL V ω' (TV.renL f l)=H.renL f (encL V ω l)
 |[],h=>rfl
 |x::r,h=>by
  simp only[TV.renL,encL,H.renL]
  rw[sE x λn hn=>h n (by simp[TV.hasL,hn]),encL_ren r λn hn=>h n (by simp[TV.hasL,hn])]
end
theorem FJ(f:Nat->Nat):∀l:List D,H.renL f (l.map .d)=l.map .d
 |[]=>rfl
 |x::r=>by simp only[Uj,H.renL,H.ren,FJ f r]
theorem zx{f:Nat->Nat}{ω ω':Nat->Nat}(o:TO V.N)(h:∀n,TO.has n o=true->ω' (f n)=ω n):bg V ω' (TO.ren f o)=(bg V ω o).map (Own.ren f):=by
 cases o with
 |box oty cells=>simp only[TO.ren,bg,UB,Own.ren];rw[encL_ren cells h]
 |bst i x=>simp only[TO.ren,bg,UB,Own.ren];rw[FJ]
 |vec te e xs=>simp[TO.ren,bg,Own.ren]
 |dvec te e xs=>simp[TO.ren,bg,Own.ren]
 |pvec te e xs=>simp[TO.ren,bg,Own.ren]
 |map k v es=>simp[TO.ren,bg,Own.ren]
 |iter s p=>simp[TO.ren,bg,Own.ren]
 |miter m k v es rest cur=>simp[TO.ren,bg,Own.ren]
 |gone l=>simp[TO.ren,bg]
theorem Ja.weak{P:Program}{f:FuncId}{args args':List H}{own own1 own':List (Nat×Own)}{r:H}(h:Ja P f args own r own')
 (ha:∀E M vs,eU E M vs args'->eU E M vs args)(ho:∀E M w,CY E M w own1->CY E M w own)(hk:∀n,(∃o,gt own n=some o)↔∃o,gt own1 n=some o)
 (hf:∀E M w,CY E M w own1->∀b,gE E w own b->gE E w own1 b):Ja P f args' own1 r own':=by
 refine⟨h.1,λE M w vs hgm hm how hvs=>(h.2 E M w vs hgm hm (ho E M w how) (ha E M vs hvs)).mono ?_⟩
 have hin:∀b,gE E w own b->gE E w own1 b:=hf E M w how
 rintro e w' ⟨v,E',M',rfl,hp,hE⟩
 refine⟨v,E',M',rfl,{hp with mnew:=λb o v hv=> ?_,home:=λn o b hn hb=> ?_,frame:=λk hk hx=>hp.frame k hk λh1=>hx (hin k h1)},λn hn=>hE n ?_⟩
 ·rcases hp.mnew b o v hv with h1|h1|h1
  ·exact .inl h1
  ·exact .inr (.inl (hin b h1))
  ·exact .inr (.inr h1)
 ·rcases hp.home n o b hn hb with h1|h1
  ·exact .inl (hin b h1)
  ·exact .inr h1
 ·rcases hn with hn|hn
  ·exact .inl hn
  ·exact .inr ((hk n).2 hn)
end
end Go.Tx
end
section
namespace Go.Tx
open Go.Awp
variable [Inhabited GMem]
section
variable {V:mz}
def zD(n:Nat):List Nat->Bool
 |[]=>false
 |k::r=>Vb k n||zD n r
def Lh(ks:List Nat):List Nat->List Nat
 |[]=>[]
 |n::r=>match zD n ks with
  |true=>Lh ks r
  |false=>n::Lh ks r
def eO:Nat->cG->List Nat->cG
 |_,σ,[]=>σ
 |b,σ,c::r=>match gt σ c with
  |some _=>eO b σ r
  |none=>eO (b+1) ((c,b)::σ) r
def DI(sig:Sig V):Bool:=sig.params.all (wg V sig.objs)&&sig.objs.all (λp=>match p.2 with
 | .box _ ps=>ps.all (wg V sig.objs)
 |_=>true)&&sig.objs.all (λp=>V7 given p.1)
def tK(S:TS V.N)(n:Nat):TO V.N->Bool
 | .box _ _=>Vb (S.len n) 0
 | .bst _ _=>Vb (S.len n) 0
 | .map _ _ _=>Vb (S.len n) 0
 | .iter _ _=>Vb (S.len n) 0
 | .vec _ _ _=>true
 | .dvec _ _ _=>true
 | .pvec _ _ _=>true
 |_=>false
def xy(S:TS V.N)(sig:Sig V)(τ:cG)(x:TV V.N)(os:List (Nat×TO V.N)):Bool:=
 σok τ&&os.all (λp=>V7 given p.1||VA (σf τ p.1) given)&&TV.allN (λn=>(gt os n).isSome) x&&os.all (λp=>TO.allN (λn=>(gt os n).isSome) p.2)&&
  os.all (λp=> !zD p.1 (sig.objs.map (·.1))||tK S (σf τ p.1) p.2)&&dr (os.map (·.1))
def du(S:TS V.N)(ks:List Nat)(τ:cG):List (Nat×TO V.N)->List (Nat×Nat)
 |[]=>[]
 |(c,o)::r=>match o with
  | .vec _ _ xs=>match zD c ks with
   |true=>(xs.length,S.len (σf τ c))::du S ks τ r
   |false=>du S ks τ r
  | .dvec _ _ xs=>match zD c ks with
   |true=>(xs.length,S.len (σf τ c))::du S ks τ r
   |false=>du S ks τ r
  | .pvec _ _ xs=>match zD c ks with
   |true=>(xs.length,S.len (σf τ c))::du S ks τ r
   |false=>du S ks τ r
  |_=>du S ks τ r
def zF{A:Type}:List (Nat×Nat)->Option A->Option A
 |[],k=>k
 |(a,b)::r,k=>if a=b then zF r k else none
theorem lb{A:Type}{x:A}:∀{l:List (Nat×Nat)} {k:Option A},zF l k=some x->k=some x/\∀p∈l,p.1=p.2
 |[],k,h=>⟨h,λp hp=>by cases hp⟩
 |(a,b)::r,k,h=>by
  simp only[zF]at h
  split at h
  ·rename_i hab
   obtain⟨h1,h2⟩:=lb h
   refine⟨h1,λp hp=> ?_⟩
   rcases Um.1 hp with rfl|hp
   ·exact hab
   ·exact h2 p hp
  ·cases h
theorem di{S:TS V.N}{ks:List Nat}{τ:cG}{c:Nat}{x:TO V.N}(hx:(∃te e ys,x= .vec te e ys)\/(∃te e ys,x= .dvec te e ys)\/∃te e ys,x= .pvec te e ys)(hi:zD c ks=true):∀{l:List (Nat×TO V.N)},(c,x)∈l->(TO.len (some x),S.len (σf τ c))∈du S ks τ l
 |(d,o)::r,h=>by
  rcases Um.1 h with h|h
  ·simp only[UC]at h
   obtain⟨rfl,rfl⟩:=h
   rcases hx with⟨te,e,ys,rfl⟩|⟨te,e,ys,rfl⟩|⟨te,e,ys,rfl⟩
   ·simp only[du,hi]
    exact Uf
   ·simp only[du,hi]
    exact Uf
   ·simp only[du,hi]
    exact Uf
  ·have ih:=di (S:=S) (τ:=τ) hx hi h
   unfold du
   split
   ·split
    ·exact Ua _ ih
    ·exact ih
   ·split
    ·exact Ua _ ih
    ·exact ih
   ·split
    ·exact Ua _ ih
    ·exact ih
   ·exact ih
def eP(P:Program)(sig:Sig V)(F:HL V.N sig.tys->Option (HL V.N sig.rcut.tys))(A:Type)(args:List (TV V.N))(S:TS V.N)(k:TE V.N->Option A):Option A:=
 match mtL V [] sig.params args with
 |some (σ0,l0)=>match mtO V S σ0 sig.objs with
  |some (σ1,l1)=>match DI sig with
   |true=>match JU sig.tys (l0++l1)with
    |some v=>F v>>=λr=>match qF P sig r with
     |some x=>match xy S sig (eO (80000+S.own.length) σ1 ((jJ sig r).map (·.1))) x (jJ sig r)with
      |true=>zF (du S (sig.objs.map (·.1)) (eO (80000+S.own.length) σ1 ((jJ sig r).map (·.1))) (jJ sig r)) (k
       { val:=x.ren (σf (eO (80000+S.own.length) σ1 ((jJ sig r).map (·.1))))
         acc:=sig.objs.map λp=>σf σ1 p.1
         upd:=((jJ sig r).map λp=>(σf (eO (80000+S.own.length) σ1 ((jJ sig r).map (·.1))) p.1,p.2.ren (σf (eO (80000+S.own.length) σ1 ((jJ sig r).map (·.1))))))++sig.objs.map λp=>(σf σ1 p.1, .gone (S.len (σf σ1 p.1)))
         new:=Lh (sig.objs.map λp=>σf σ1 p.1) ((jJ sig r).map λp=>σf (eO (80000+S.own.length) σ1 ((jJ sig r).map (·.1))) p.1)})
      |false=>none
     |none=>none
    |none=>none
   |false=>none
  |none=>none
 |none=>none
theorem jI{n:Nat}:∀{l:List Nat},zD n l=true↔n∈l
 |[]=>by simp[zD]
 |k::r=>by
  simp only[zD,UI,Um,jI (l:=r)]
  constructor
  ·rintro(h|h)
   ·exact .inl (US h).symm
   ·exact .inr h
  ·rintro(rfl|h)
   ·exact .inl (by simp)
   ·exact .inr h
theorem pb{α:Type}:∀{l:List (Nat×α)} {n:Nat},gt l n=none↔n∉l.map (·.1)
 |[],n=>by simp[gt]
 |(k,x)::r,n=>by
  rw[ah]
  by_cases hk:k=n
  ·subst hk;simp
  ·rw[XJ hk,pb (l:=r)]
   simp[UG hk]
theorem fg{own:List (Nat×Own)}:∀{l:List (Nat×Own)},ed own l=Lh (own.map (·.1)) (l.map (·.1))
 |[]=>rfl
 |(n,o)::r=>by
  simp only[ed,Uj,Lh]
  cases hq:gt own n with
  |none=>
   have:zD n (own.map (·.1))=false:=by
    rw[W6];intro h;exact pb.1 hq (jI.1 h)
   simp only[this,fg (l:=r)]
  |some y=>
   have:zD n (own.map (·.1))=true:=jI.2 (Uv (f:=(·.1)) (bc hq))
   simp only[this,fg (l:=r)]
theorem g6:∀{l:List Nat} {b:Nat} {σ:cG} {c n:Nat},gt σ c=some n->gt (eO b σ l) c=some n
 |[],b,σ,c,n,h=>h
 |d::r,b,σ,c,n,h=>by
  simp only[eO]
  split
  ·exact g6 h
  ·rename_i hd
   refine g6 ?_
   rw[ah]
   by_cases hk:d=c
   ·subst hk;rw[hd]at h;cases h
   ·rw[XJ hk];exact h
theorem σf_some{σ:cG}{c n:Nat}(h:gt σ c=some n):σf σ c=n:=by unfold σf;rw[h]
end
end Go.Tx
end
section
namespace Go.Tx
open Go.Awp
variable [Inhabited GMem]
section
variable {V:mz}
theorem lI{α:Type}(q:Nat->Bool):∀(l:List (Nat×α)) (n:Nat) (x:α),gt (l.filter λp=>q p.1) n=some x->gt l n=some x
 |[],n,x,h=>by simp[gt]at h
 |(k,y)::r,n,x,h=>by
  rw[Xb]at h
  rw[ah]
  by_cases hk:k=n
  ·subst hk
   rw[XK rfl]
   split at h
   ·rw[ah,XK rfl]at h;exact h
   ·rename_i hq
    have:=bc h
    have:=(Wz.1 this).2
    exact(hq this).elim
  ·rw[XJ hk]
   split at h
   ·rw[ah,XJ hk]at h;exact lI q r n x h
   ·exact lI q r n x h
theorem o_{α β:Type}{f:Nat->Nat}{g:α->β}(hf:∀a b,f a=f b->a=b):∀(l:List (Nat×α)) (n:Nat),gt (l.map λp=>(f p.1,g p.2)) (f n)=(gt l n).map g
 |[],n=>by simp[gt]
 |(k,y)::r,n=>by
  rw[Uj,ah,ah]
  by_cases hk:k=n
  ·subst hk;simp
  ·rw[XJ hk,XJ λe=>hk (hf _ _ e)];exact o_ hf r n
theorem oq{ks:List Nat}{n:Nat}:∀{l:List Nat},n∈l->n∉ks->n∈Lh ks l
 |[],h,_=>by cases h
 |k::r,h,hn=>by
  simp only[Lh]
  rcases Um.1 h with rfl|h
  ·split
   ·rename_i hi;exact(hn (jI.1 hi)).elim
   ·exact Uf
  ·split
   ·exact oq h hn
   ·exact Ua _ (oq h hn)
theorem sQ(f:Nat->Nat)(o:TO V.N):TO.len (some (TO.ren f o))=TO.len (some o):=by cases o<;>rfl
theorem dq{P:Program}{fid:Nat}{sig:Sig V}{F:HL V.N sig.tys->Option (HL V.N sig.rcut.tys)}(hF:aq P fid sig F){A:Type}{args:List (TV V.N)}{S:TS V.N}{dst:Option Tmp}
 {k:TE V.N->Option A}{r:A}(h:eP P sig F A args S k=some r):
 ∃te,k te=some r/\good S te/\wE P fid (encL V S.len args) (aH V S).own? λe'=>ELe true e' (gl (S.app dst te).len te):=by
 unfold eP at h
 split at h
 ·rename_i σ0 l0 h0
  split at h
  ·rename_i σ1 l1 h1
   split at h
   ·rename_i hin
    split at h
    ·rename_i v hv
     obtain⟨y,hy,h⟩:=bB h
     split at h
     ·rename_i x hx
      split at h
      ·rename_i hout
       obtain⟨h,hlens⟩:=lb h
       have hc:=hF v y x hy hx
       have hls:=qt hv
       obtain⟨a1,a2,a3,xs0,a4,a5,a6⟩:=gL h0
       obtain⟨b1,b2,os0,b3,b4,b5,b6⟩:=b9 h1
       have hst:aX sig v=(xs0,os0):=by
        unfold aX
        rw[hls,a5 l1]
        simp only[b4]
       have hS:(az sig v).own=os0:=by unfold az;rw[hst]
       rw[hst,hS]at hc
       have hlen0:∀c o,gt os0 c=some o->(az sig v).len c=TO.len (some o):=by
        intro c o ho
        unfold TS.len TS.own?
        rw[hS,ho]
       generalize (az sig v).len=ω0 at hc hlen0
       generalize hos:jJ sig y=os at h hout hc hlens
       have hlen1:∀c o,gt os c=some o->(bV V sig.rcut y).len c=TO.len (some o):=by
        intro c o ho
        rw[<-hos]at ho
        have:=lI (λn=>sig.keep.contains n) (bV V sig.rcut y).own c o ho
        unfold TS.len TS.own?
        rw[this]
       generalize (bV V sig.rcut y).len=ω1 at hc hlen1
       generalize hτ:eO (80000+S.own.length) σ1 (os.map (·.1))=τ at h hout hlens
       have hsub:∀c n,gt σ1 c=some n->gt τ c=some n:=λc n hcn=>by rw[<-hτ];exact g6 hcn
       simp only[xy,Uk,Uo]at hout
       obtain⟨⟨⟨⟨⟨o1,o2⟩,o3⟩,o4⟩,o5⟩,o6⟩:=hout
       simp only[DI,Uk,Uo]at hin
       obtain⟨⟨i1,i2⟩,i3⟩:=hin
       have hfi:=σf_inj o1
       have hbound:∀p∈sig.objs,∃n o,gt σ1 p.1=some n/\S.own? n=some o/\∃z,bg V S.len o=some z:=by
        intro p hp
        have:p.1∈os0.map (·.1):=by rw[b6];exact Uv hp
        obtain⟨q,hq,hqe⟩:=Uy.1 this
        obtain⟨n,o,q1,q2,_,z,q3,_⟩:=b5 q.1 q.2 hq
        exact⟨n,o,by rw[<-hqe];exact q1,q2,_,q3 S.len⟩
       have hTr:∀E:Env,Tr σ1 sig.objs E (λc=>E (σf τ c)) S.len ω0:=λE=>by
        refine⟨λc n hcn=>by rw[σf_some (hsub c n hcn)],λc n hc' hcn=> ?_⟩
        rw[Vu]at hc'
        obtain⟨p,hp,hpn⟩:=hc'
        have hpn:p.1=c:=by simpa using hpn
        have hm:c∈os0.map (·.1):=by rw[b6,<-hpn];exact Uv hp
        obtain⟨o,ho⟩:=eu hm
        obtain⟨n',o',q1,q2,q3,_⟩:=b5 c o (bc ho)
        rw[hcn]at q1;cases q1
        rw[hlen0 c o ho,q3];unfold TS.len;rw[q2]
       have hob':∀p∈sig.objs,match p.2 with| .box _ ps=>ps.all (wg V sig.objs)=true|_=>True:=by
        intro p hp
        have:=i2 p hp
        cases hq:p.2 with
        |box oty ps=>rw[hq]at this;simpa using this
        |st i=>trivial
        |vec te e=>trivial
        |dvec te e out=>trivial
        |map tk tv=>trivial
        |iter=>trivial
        |miter m k v=>trivial
       have hown:∀n o,gt (sig.objs.filterMap λp=>((S.own? (σf σ1 p.1)).bind (bg V S.len)).map λo=>(σf σ1 p.1,o)) n=some o->(S.own? n).bind (bg V S.len)=some o:=by
        intro n o hn
        obtain⟨p,hp,hpe⟩:=Va.1 (bc hn)
        rw[Ul]at hpe
        obtain⟨o',h1,h2⟩:=hpe
        simp only[UC]at h2
        obtain⟨rfl,rfl⟩:=h2
        exact h1
       have hkeys:∀n,n∈(sig.objs.filterMap λp=>((S.own? (σf σ1 p.1)).bind (bg V S.len)).map λo=>(σf σ1 p.1,o)).map (·.1)↔n∈sig.objs.map λp=>σf σ1 p.1:=by
        intro n
        constructor
        ·intro hn
         obtain⟨q,hq,rfl⟩:=Uy.1 hn
         obtain⟨p,hp,hpe⟩:=Va.1 hq
         rw[Ul]at hpe
         obtain⟨o',h1,h2⟩:=hpe
         rw[<-h2]
         exact Uv (f:=λp=>σf σ1 p.1) hp
        ·intro hn
         obtain⟨p,hp,rfl⟩:=Uy.1 hn
         obtain⟨n,o,q1,q2,z,q3⟩:=hbound p hp
         refine Uy.2 ⟨(σf σ1 p.1,z),Va.2 ⟨p,hp,?_⟩,rfl⟩
         rw[σf_some q1,q2]
         simp[q3]
       have hex:∀n o,gt (qE (σf τ) (bt ω0 os0)) n=some o->∃z,(gt (sig.objs.filterMap λp=>((S.own? (σf σ1 p.1)).bind (bg V S.len)).map λo=>(σf σ1 p.1,o)) n=some z)/\(∀E M w,aY E M w n z->aY E M w n o)/\∀(E:Env) w b,o.foot w (E n) b->z.foot w (E n) b:=by
        intro n o hn
        obtain⟨c,o1,rfl,hg,rfl⟩:=bx hfi hn
        obtain⟨t,ht,hto⟩:=cE hg
        obtain⟨n',oS,q1,q2,_,x4,q4,x',q5,q6,q7⟩:=b5 c t ht
        rw[q5]at hto
        simp only[Ud]at hto;subst hto
        have e:σf τ c=n':=σf_some (hsub _ _ q1)
        have hck:c∈sig.objs.map (·.1):=by rw[<-b6];exact Uv (f:=(·.1)) ht
        obtain⟨p,hp,hpc⟩:=Uy.1 hck
        have hk':=(hkeys n').2 (Uy.2 ⟨p,hp,by rw[hpc];exact σf_some q1⟩)
        obtain⟨z,hz⟩:=eu hk'
        have hz':=hown _ _ hz
        rw[q2]at hz'
        simp only[T0,q4,Ud]at hz'
        rw[e]
        refine⟨z,hz,λE M w hw=> ?_,λE w b hb=> ?_⟩
        ·rw[<-hz']at hw
         have:=(q6 σ1 sig.objs E _ M w S.len ω0 (Sub.refl _) hob' (hTr E) hw).ren (E':=E) (f:=σf τ) rfl λm _=>rfl
         rw[e]at this
         exact this
        ·rw[Own.ren_foot]at hb
         rw[<-hz']
         exact q7 E (λ_=>E n') w S.len ω0 b rfl hb
       have hsome:∀p∈os,∃o,bg V ω1 p.2=some o:=by
        intro p hp
        have:=o4 p hp
        cases hq:p.2 with
        |box oty cells=>exact⟨_,rfl⟩
        |bst i x=>exact⟨_,rfl⟩
        |vec te e xs=>exact⟨_,rfl⟩
        |dvec te e xs=>exact⟨_,rfl⟩
        |pvec te e xs=>exact⟨_,rfl⟩
        |map tk tv es=>exact⟨_,rfl⟩
        |iter s p=>exact⟨_,rfl⟩
        |miter m k v es rest cur=>exact⟨_,rfl⟩
        |gone l=>rw[hq]at this;simp[TO.allN]at this
       have hgos:∀n,(gt os n).isSome=true->(gt (bt ω1 os) n).isSome=true:=by
        intro n hn
        obtain⟨o,ho⟩:=We.1 hn
        obtain⟨z,hz⟩:=hsome _ (bc ho)
        rw[gd ho hz];rfl
       refine⟨_,h,?_,?_⟩
       ·intro m o hm
        simp only[d5]at hm
        split at hm
        ·rename_i o' hq
         simp only[Ud]at hm;subst hm
         obtain⟨p,hp,hpe⟩:=Uy.1 (bc hq)
         simp only[UC]at hpe
         obtain⟨rfl,rfl⟩:=hpe
         have h5:=o5 p hp
         rw[UI]at h5
         by_cases hpk:zD p.1 (sig.objs.map (·.1))=true
         ·right
          rcases h5 with h5|h5
          ·rw[hpk]at h5;cases h5
          ·rw[sQ]
           cases hpp:p.2 with
           |box oty cells=>rw[hpp]at h5;simp only[tK]at h5;exact(US h5).symm
           |bst i x=>rw[hpp]at h5;simp only[tK]at h5;exact(US h5).symm
           |vec te e xs=>
            exact hlens _ (di (.inl ⟨te,e,xs,rfl⟩) hpk (by rw[<-hpp];exact hp))
           |dvec te e xs=>
            exact hlens _ (di (.inr (.inl ⟨te,e,xs,rfl⟩)) hpk (by rw[<-hpp];exact hp))
           |pvec te e xs=>
            exact hlens _ (di (.inr (.inr ⟨te,e,xs,rfl⟩)) hpk (by rw[<-hpp];exact hp))
           |map tk tv es=>rw[hpp]at h5;simp only[tK]at h5;exact(US h5).symm
           |iter s p=>rw[hpp]at h5;simp only[tK]at h5;exact(US h5).symm
           |miter m k v es rest cur=>rw[hpp]at h5;cases h5
           |gone l=>rw[hpp]at h5;cases h5
         ·left
          refine oq (Uy.2 ⟨p,hp,rfl⟩) λhmem=>hpk (jI.2 ?_)
          obtain⟨q,hq',hqe⟩:=Uy.1 hmem
          obtain⟨n,o,q1,_⟩:=hbound q hq'
          rw[σf_some q1,<-σf_some (hsub _ _ q1)]at hqe
          rw[<-hfi _ _ hqe]
          exact Uv (f:=(·.1)) hq'
        ·right
         obtain⟨q,hq',hqe⟩:=Uy.1 (bc hm)
         simp only[UC]at hqe
         obtain⟨rfl,rfl⟩:=hqe
         rfl
       ·have hat:=hc.ren τ (by
         simp only[BR,Uk,Uo]
         refine⟨⟨⟨⟨o1,λp hp=> ?_⟩,λp hp=> ?_⟩,?_⟩,λp hp=> ?_⟩
         ·obtain⟨z,hz,hz2⟩:=Va.1 hp
          rw[Ul]at hz2
          obtain⟨o',_,rfl⟩:=hz2
          have:z.1∈sig.objs.map (·.1):=by rw[<-b6];exact Uv (f:=(·.1)) hz
          obtain⟨q,hq,hqe⟩:=Uy.1 this
          have:=i3 q hq
          rw[hqe]at this
          exact this
         ·obtain⟨z,hz,hz2⟩:=Va.1 hp
          rw[Ul]at hz2
          obtain⟨o',_,rfl⟩:=hz2
          exact o2 z hz
         ·refine H.allN_of λn hn=> ?_
          rw[g_]at hn
          have:=TV.allN_has o3 hn
          rw[UI];exact .inr (hgos n this)
         ·obtain⟨z,hz,hz2⟩:=Va.1 hp
          rw[Ul]at hz2
          obtain⟨o',ho',rfl⟩:=hz2
          have h4:=o4 z hz
          cases o' with
          |box oty cells=>
           simp only[Own.allN]
           refine H.allNL_of λn hn=> ?_
           have:TO.has n z.2=true:=by rw[<-jE ω1 n ho'];exact hn
           have:=TO.allN_has h4 this
           rw[UI];exact .inr (hgos n this)
          |vec e sz rows=>rfl
          |map es=>rfl
          |iter s p=>rfl
          |dvec e sz rows=>rfl
          |miter m es rest cur=>
           simp only[Own.allN]
           have:TO.has m z.2=true:=by rw[<-jE ω1 m ho'];exact Wg m
           have:=TO.allN_has h4 this
           rw[UI];exact .inr (hgos m this))
        generalize hownE:(sig.objs.filterMap λp=>((S.own? (σf σ1 p.1)).bind (bg V S.len)).map λo=>(σf σ1 p.1,o))=own at hown hkeys hex
        refine⟨own,_,_,Ja.weak (args':=encL V S.len args) (own1:=own) hat (λE M vs hvs=> ?_) (λE M w hw=> ?_) (λn=> ?_) (λE M w hw b hb=> ?_),λp hp=> ?_,?_⟩
        ·refine⟨by rw[hvs.1,H.renL_len,aG,aG,a4],λi c z hcz hz=> ?_⟩
         rw[H.renL_get,encL_map,Ue,Xl,Ul]at hz
         obtain⟨u0,hu0,rfl⟩:=hz
         have hi:i<args.length:=by rw[<-a4];exact(Uc.1 hu0).1
         have hu:=Ub hi
         obtain⟨_,k2⟩:=a6 i _ u0 hu hu0
         have hr:=hvs.2 i c (an V S.len args[i]) hcz (by rw[encL_map,Ue,hu];rfl)
         exact(k2 σ1 sig.objs E _ M S.len ω0 c b1 (Uo.2 i1) (hTr E) hr).ren λn _=>rfl
        ·refine⟨λn o hn=> ?_,λn m o o' b hne hn hm hb=> ?_⟩
         ·obtain⟨z,hz,hz',_⟩:=hex n o hn
          exact hz' E M w (hw.ok n z hz)
         ·obtain⟨z,hz,_,f1⟩:=hex n o hn
          obtain⟨z',hz',_,f2⟩:=hex m o' hm
          exactλhb'=>hw.apart n m z z' b hne hz hz' (f1 E w b hb) (f2 E w b hb')
        ·constructor
         ·rintro⟨o,ho⟩
          obtain⟨z,hz,_⟩:=hex n o ho
          exact⟨z,hz⟩
         ·rintro⟨o,ho⟩
          have:=(hkeys n).1 (Uv (f:=(·.1)) (bc ho))
          obtain⟨p,hp,rfl⟩:=Uy.1 this
          have hm:p.1∈os0.map (·.1):=by rw[b6];exact Uv hp
          obtain⟨t,ht⟩:=eu hm
          obtain⟨n',oS,q1,q2,_,x4,q4,x',q5,q6⟩:=b5 p.1 t (bc ht)
          refine⟨(x' ω0).ren (σf τ),?_⟩
          rw[σf_some q1,<-σf_some (hsub _ _ q1),d6 hfi,gd ht (q5 ω0)]
          rfl
        ·obtain⟨n,o,hn,hb⟩:=hb
         obtain⟨z,hz,_,f1⟩:=hex n o hn
         exact⟨n,z,hz,f1 E w b hb⟩
        ·rw[<-hownE]at hp
         obtain⟨q,hq,hqe⟩:=Va.1 hp
         rw[Ul]at hqe
         obtain⟨o',h1,rfl⟩:=hqe
         rw[aM];exact h1
        ·have hω:∀te:TE V.N,(∀c o,gt os c=some o->gt te.upd (σf τ c)=some (o.ren (σf τ)))->∀c,(gt os c).isSome=true->(S.app dst te).len (σf τ c)=ω1 c:=by
          intro te hte c hcs
          obtain⟨o,ho⟩:=We.1 hcs
          rw[cH,hte c o ho,hlen1 c o ho]
          exact sQ _ o
         have hkl:own.map (·.1)=sig.objs.map λp=>σf σ1 p.1:=by
          rw[<-hownE]
          have:∀l:List (Nat×OPt V.ι),(∀p∈l,∃n o,gt σ1 p.1=some n/\S.own? n=some o/\∃z,bg V S.len o=some z)->
           (l.filterMap λp=>((S.own? (σf σ1 p.1)).bind (bg V S.len)).map λo=>(σf σ1 p.1,o)).map (·.1)=l.map λp=>σf σ1 p.1:=by
           intro l
           induction l with
           |nil=>intro _;rfl
           |cons p r ih=>
            intro hl
            obtain⟨n,o,q1,q2,z,q3⟩:=hl p Uf
            have e:(S.own? (σf σ1 p.1)).bind (bg V S.len)=some z:=by rw[σf_some q1,q2];exact q3
            simp only[VD,e,UB,Uj]
            rw[ih λq hq=>hl q (Ua _ hq)]
          exact this sig.objs hbound
         have hml:(qE (σf τ) (bt ω1 os)).map (·.1)=os.map λp=>σf τ p.1:=by
          have:∀l:List (Nat×TO V.N),(∀p∈l,∃o,bg V ω1 p.2=some o)->(qE (σf τ) (bt ω1 l)).map (·.1)=l.map λp=>σf τ p.1:=by
           intro l
           induction l with
           |nil=>intro _;rfl
           |cons p r ih=>
            intro hl
            obtain⟨o,ho⟩:=hl p Uf
            have:=ih λq hq=>hl q (Ua _ hq)
            unfold qE bt at this⊢
            simp only[VD,ho,UB,Uj]
            rw[this]
          exact this os hsome
         refine bU ?_ ?_ ?_ ?_
         ·simp only[dJ]
          refine(sE x λn hn=>hω _ (λc o ho=> ?_) n (TV.allN_has o3 hn)).symm
          simp only[d5,o_ hfi,ho,UB]
         ·simp only[dJ]
          rw[fg,hkl]
          rw[hml]
         ·simp only[dJ,UZ]
          refine congr (congrArg _ ?_) ?_
          ·have:∀(ω2:Nat->Nat) (l:List (Nat×TO V.N)),(∀p∈l,∃o,bg V ω1 p.2=some o)->(∀p∈l,bg V ω2 (TO.ren (σf τ) p.2)=(bg V ω1 p.2).map (Own.ren (σf τ)))->
            (qE (σf τ) (bt ω1 l)).map (λp=>(p.1,some p.2))=(l.map λp=>(σf τ p.1,TO.ren (σf τ) p.2)).map λp=>(p.1,bg V ω2 p.2):=by
            intro ω2 l
            induction l with
            |nil=>intro _ _;rfl
            |cons p r ih=>
             intro hl hl2
             obtain⟨o,ho⟩:=hl p Uf
             have h2:=hl2 p Uf
             have:=ih (λq hq=>hl q (Ua _ hq)) λq hq=>hl2 q (Ua _ hq)
             unfold qE bt at this⊢
             simp only[VD,ho,UB,Uj,h2]
             rw[this]
           refine this _ os hsome λp hp=>zx p.2 λn hn=>hω _ (λc o ho=> ?_) n (TO.allN_has (o4 p hp) hn)
           simp only[d5,o_ hfi,ho,UB]
          ·have e:own.map (λp:Nat×Own=>(p.1,(none:Option Own)))=(own.map (·.1)).map λn=>(n,none):=by rw[UH];rfl
           rw[e,hkl,UH,UH]
           rfl
         ·simp only[dJ]
          exact hkl
      ·cases h
     ·cases h
    ·cases h
   ·cases h
  ·cases h
 ·cases h
end
end Go.Tx
end
section
namespace Go.Tx
open Go.Awp
variable [Inhabited GMem]
section
variable (V:mz)
mutual
def eQ{H:Type}:DataW H->Nat
 | .lit (.string bs)=>bs.length+1
 | .lit _=>1
 | .nil=>1
 | .ptr d=>eQ d+1
 | .slice elems spare=>dbulkL elems+dbulkL spare+1
 | .agg parts=>dbulkL parts+1
 | .iface _ d=>eQ d+1
 | .map _=>1
 | .held _=>1
def dbulkL{H:Type}:List (DataW H)->Nat
 |[]=>0
 |d::r=>eQ d+dbulkL r
end
theorem mH{H:Type}:∀l:List (DataW H),dbulkL l=(l.map eQ).sum
 |[]=>by simp[dbulkL]
 |d::r=>by simp[dbulkL,mH r]
inductive Ok:(t:Ty V.ι)->den V.N t->Prop
 |int {k:IntKind} {n:Int}:(Lit.int k n).wf=true->Ok (.int k) n
 |bool (b:Bool):Ok .bool b
 |str {s:ByteArray}:s.size<=maxLen->Ok .str s
 |sl {e:Ty V.ι} {xs:List (den V.N e)}:xs.length<=maxLen->(∀x∈xs,Ok e x)->Ok (.sl e) xs
 |st {i:V.ι} {x:V.N i}:(∀l∈V.cells i x,Ok l.t l.x)->Ok (.st i) x
inductive Bk:(t:Ty V.ι)->den V.N t->Nat->Prop
 |int {k:IntKind} {n:Int} {m:Nat}:1<=m->Bk (.int k) n m
 |bool {b:Bool} {m:Nat}:1<=m->Bk .bool b m
 |str {s:ByteArray} {m:Nat}:s.size+1<=m->Bk .str s m
 |sl {e:Ty V.ι} {xs:List (den V.N e)} {m:Nat} (ns:List Nat):ns.length=xs.length->(∀(i:Nat) (x:den V.N e) (n:Nat),xs[i]?=some x->ns[i]?=some n->Bk e x n)->ns.sum+1<=m->Bk (.sl e) xs m
 |st {i:V.ι} {x:V.N i} {m:Nat} (ns:List Nat):ns.length=(V.cells i x).length->(∀(j:Nat) (l:dm V.N) (n:Nat),(V.cells i x)[j]?=some l->ns[j]?=some n->Bk l.t l.x n)->ns.sum+1<=m->Bk (.st i) x m
def Bks(ls:List (dm V.N))(m:Nat):Prop:=
 ∃ns:List Nat,ns.length=ls.length/\(∀(j:Nat) (l:dm V.N) (n:Nat),ls[j]?=some l->ns[j]?=some n->Bk V l.t l.x n)/\ns.sum<=m
def zA:Ty V.ι->List (Ty V.ι)
 | .st i=>V.tys i
 |t=>[t]
def Na(P:Program):Nat->List Field->Option (List (Ty V.ι))
 |_,[]=>some []
 |off,f::fs=>match V.ty f.type with
  |some τ=>if f.offset=off/\P.cellsOf f.type=tsz V.sz τ then match Na P (off+tsz V.sz τ) fs with
   |some l=>some (zA V τ++l)
   |none=>none
   else none
  |none=>none
def noF:Ty V.ι->Bool
 | .fnc=>false
 | .sl e=>noF e
 |_=>true
def bh(P:Program)(t:TypeId):Ty V.ι->Prop
 | .int k=>P.underlying t=some (.int k)
 | .bool=>P.underlying t=some .bool
 | .str=>P.underlying t=some .string
 | .sl e=>∃te,P.underlying t=some (.slice te)/\V.ty te=some e/\P.cellsOf te=tsz V.sz e/\VA 0 (tsz V.sz e)=true
 | .mp _ _=>False
 | .er=>False
 | .op _=>False
 | .fnc=>False
 | .st i=>∃fs:Array Field,P.underlying t=some (.struct fs)/\P.cellsOf t=V.sz i/\Na V P 0 fs.toList=some (V.tys i)
structure C4 (P:Program):Prop where
 ty:∀t τ,V.ty t=some τ->noF V τ=true->bh V P t τ
 nof:∀i,(V.tys i).all (noF V)=true
 tys:∀i x,(V.cells i x).map (·.t)=V.tys i
 of:∀i ls,ls.map (·.t)=V.tys i->∃y,V.ofCells i ls=some y
end
section
variable {V:mz} {H0:Type} {enc:TypeId×Value->H0} {P:Program} {W:World} {spare:Nat->Bool} {held:Bool} {base:Nat}
theorem yw{t:TypeId}(hu:P.underlying t=some .string){fuel:Nat}{cs:List Value}{x:DataW H0×List MemPlace}(h:DataW.trod enc P W base spare held fuel t cs=some x):
 ∃s,cs=[.string s]/\s.size<=maxLen:=by
 cases fuel with
 |zero=>cases h
 |succ fuel=>
  unfold DataW.trod at h
  rw[hu]at h
  simp only[]at h
  split at h<;>try(rename_i h1 _;cases h1)
  all_goals try(cases h;done)
  all_goals simp_all
def kw(M:Mem)(cs:List Value)(ls:List (dm V.N)):Prop:=
 cs.length=ls.length/\∀(i:Nat) (c:Value) (l:dm V.N),cs[i]?=some c->ls[i]?=some l->dd M c (aO V.sz V.enc l.t l.x)
theorem kw.app{M:Mem}{cs cs':List Value}{ls ls':List (dm V.N)}(h:kw M cs ls)(h':kw M cs' ls'):kw M (cs++cs') (ls++ls'):=by
 refine⟨by simp[h.1,h'.1],λi c l hc hl=> ?_⟩
 by_cases hi:i<cs.length
 ·rw[UA hi]at hc
  rw[UA (by rw[<-h.1];exact hi)]at hl
  exact h.2 i c l hc hl
 ·rw[Uz (by omega)]at hc
  rw[Uz (by rw[<-h.1];omega),<-h.1]at hl
  exact h'.2 _ c l hc hl
theorem Bks.app{ls ls':List (dm V.N)}{m m':Nat}(h:Bks V ls m)(h':Bks V ls' m'):Bks V (ls++ls') (m+m'):=by
 obtain⟨ns,h1,h2,h3⟩:=h
 obtain⟨ns',h1',h2',h3'⟩:=h'
 refine⟨ns++ns',by simp[h1,h1'],λj l n hl hn=> ?_,by simp;omega⟩
 by_cases hj:j<ls.length
 ·rw[UA hj]at hl
  rw[UA (by omega)]at hn
  exact h2 j l n hl hn
 ·rw[Uz (by omega)]at hl
  rw[Uz (by omega),h1]at hn
  exact h2' _ l n hl hn
theorem Bks.one{t:Ty V.ι}{x:den V.N t}{m:Nat}(h:Bk V t x m):Bks V [⟨t,x⟩] m:=
 ⟨[m],rfl,λj l n hl hn=>by
  cases j with
  |zero=>simp at hl hn;subst hl;subst hn;exact h
  |succ j=>simp at hl,by simp⟩
def Rd(M:Mem)(τ:Ty V.ι)(cs:List Value)(m:Nat):Prop:=
 ∃y:den V.N τ,Ok V τ y/\kw M cs (aK V τ y)/\(aK V τ y).map (·.t)=zA V τ/\(∀l∈aK V τ y,Ok V l.t l.x)/\Bk V τ y m/\Bks V (aK V τ y) m
theorem p8(F:C4 V P){M:Mem}{rd:TypeId->List Value->Nat->Prop}(hrd:∀t τ cs m,V.ty t=some τ->noF V τ=true->rd t cs m->Rd (V:=V) M τ cs m){cs:List Value}:∀(fs:List Field) (ms:List Nat) (off:Nat) (l:List (Ty V.ι)),
 Na V P off fs=some l->(∀τ∈l,noF V τ=true)->ms.length=fs.length->(∀(j:Nat) (f:Field) (m:Nat),fs[j]?=some f->ms[j]?=some m->rd f.type ((cs.drop f.offset).take (P.cellsOf f.type)) m)->
 ∃(n:Nat) (ls:List (dm V.N)),ls.map (·.t)=l/\kw M ((cs.drop off).take n) ls/\(∀x∈ls,Ok V x.t x.x)/\n=ls.length/\Bks V ls ms.sum
 |[],ms,off,l,h,_,hm,_=>by
  simp[Na]at h;subst h
  exact⟨0,[],rfl,⟨rfl,λi c l hc=>by simp at hc⟩,(λx hx=>nomatch hx),rfl,[],rfl,λj l n hl=>by simp at hl,by simp⟩
 |f::fs,[],off,l,h,_,hm,_=>by simp at hm
 |f::fs,m::ms,off,l,h,hnf,hm,hf=>by
  simp only[Na]at h
  split at h
  ·rename_i τ hτ
   split at h
   ·rename_i hc
    obtain⟨ho,hsz⟩:=hc
    split at h
    ·rename_i l' hl'
     simp at h;subst h
     obtain⟨n,ls,a1,a2,a3,a4,a5⟩:=p8 F hrd fs ms _ l' hl' (λτ hτ=>hnf τ (VN _ hτ)) (by simpa using hm) λj g m hg hm=>hf (j+1) g m (by simpa using hg) (by simpa using hm)
     obtain⟨y,b1,b2,b3,b4,b5,b6⟩:=hrd f.type τ _ m hτ (by cases τ<;>first|rfl|exact hnf _ (Vy _ (by simp[zA]))) (hf 0 f m rfl rfl)
     rw[ho,hsz]at b2
     refine⟨tsz V.sz τ+n,aK V τ y++ls,by simp[a1,b3],?_,λx hx=> ?_,by simp[fx,a4],by rw[List.sum_cons];exact b6.app a5⟩
     ·have e:(cs.drop off).take (tsz V.sz τ+n)=(cs.drop off).take (tsz V.sz τ)++(cs.drop (off+tsz V.sz τ)).take n:=by
       rw[List.take_add,VY]
      rw[e]
      exact b2.app a2
     ·rcases Ur.1 hx with hx|hx
      ·exact b4 x hx
      ·exact a3 x hx
    ·cases h
   ·cases h
  ·cases h
theorem vP{t:TypeId}{fs:Array Field}(hu:P.underlying t=some (.struct fs)){fuel:Nat}{cs:List Value}{x:DataW H0×List MemPlace}(h:DataW.trod enc P W base spare held (fuel+1) t cs=some x):
 cs.length=P.cellsOf t/\∃ds:List (DataW H0),x.1= .agg ds/\ds.length=fs.toList.length/\∀(i:Nat) (f:Field),fs.toList[i]?=some f->∃y,ds[i]?=some y.1/\DataW.trod enc P W base spare held fuel f.type ((cs.drop f.offset).take (P.cellsOf f.type))=some y:=by
 unfold DataW.trod at h
 rw[hu]at h
 simp only[]at h
 split at h
 ·rename_i hl
  rw[Ul]at h
  obtain⟨ys,hm,hx⟩:=h
  subst hx
  refine⟨hl,ys.map (·.1),rfl,by rw[Ug,(gI hm).1],λi f hf=> ?_⟩
  obtain⟨y,hy1,hy⟩:=(gI hm).2 i f hf
  exact⟨y,by rw[Ue,hy1];rfl,hy⟩
 ·cases h
theorem yv{t e:TypeId}(hu:P.underlying t=some (.slice e)){fuel:Nat}{cs:List Value}{x:DataW H0×List MemPlace}(h:DataW.trod enc P W base spare held (fuel+1) t cs=some x):
 (cs=[.slice none 0 0]/\x.1= .nil)\/∃a len cap,cs=[.slice (some a) len cap]/\len<=cap/\cap<=maxLen/\∃ds sp:List (DataW H0),x.1= .slice ds sp/\ds.length=len/\
   ∀i,i<len->∃row y,W.cells? base (a.add (i *P.cellsOf e)) (P.cellsOf e)=some row/\DataW.trod enc P W base spare held fuel e row=some y/\ds[i]?=some y.1:=by
 unfold DataW.trod at h
 rw[hu]at h
 simp only[]at h
 split at h
 all_goals first
  |(simp only[Ud,reduceCtorEq]at *;done)
  |(left;simp only[Ud]at h;exact⟨rfl,by rw[<-h]⟩)
  |(rename_i a len cap hx
    simp only[Ud,TypeDesc.slice.injEq]at hx
    subst hx
    right
    split at h
    ·rename_i hc
     rw[Vw]at h
     obtain⟨ys,hm,h⟩:=h
     rw[Ul]at h
     obtain⟨rest,_,h⟩:=h
     subst h
     refine⟨a,len,cap,rfl,hc.2.1,hc.2.2,ys.map (·.1),rest.map (·.1),rfl,by rw[Ug,(gI hm).1,List.length_range],λi hi=> ?_⟩
     obtain⟨y,hy1,hy⟩:=(gI hm).2 i i (by rw[VL hi])
     rw[Vw]at hy
     obtain⟨row,h1,h2⟩:=hy
     exact⟨row,y,h1,h2,by rw[Ue,hy1];rfl⟩
    ·cases h)
  |skip
theorem lF{H:Type}(d:DataW H):1<=eQ d:=by
 cases d with
 |lit l=>cases l<;>simp[eQ]
 |_=>simp[eQ]
theorem vO{t:TypeId}(hu:P.underlying t=some .string){fuel:Nat}{cs:List Value}{x:DataW H0×List MemPlace}(h:DataW.trod enc P W base spare held fuel t cs=some x):
 ∃s,cs=[.string s]/\s.size<=maxLen/\eQ x.1=s.size+1:=by
 cases fuel with
 |zero=>cases h
 |succ fuel=>
  obtain⟨s,rfl,hs⟩:=yw hu h
  refine⟨s,rfl,hs,?_⟩
  unfold DataW.trod at h
  rw[hu]at h
  simp only[]at h
  rw[XK hs]at h
  cases h
  show eQ (.lit (.string s.data.toList))=s.data.size+1
  rw[eQ,Vj]
theorem oX(τ:Ty V.ι)(y:den V.N τ):dc V.sz V.enc τ y=(aK V τ y).map λl=>aO V.sz V.enc l.t l.x:=by
 cases τ<;>first|rfl|(simp only[dc,aK];exact V.enc_cells _ _)|simp[dc,aK,aO]
theorem Iw(F:C4 V P):∀(fuel:Nat) (t:TypeId) (τ:Ty V.ι) (cs:List Value) (x:DataW H0×List MemPlace),V.ty t=some τ->noF V τ=true->DataW.trod enc P W base spare held fuel t cs=some x->Rd (fJ W) τ cs (eQ x.1):=by
 intro fuel
 induction fuel using WP with
 |ind fuel ih=>
 intro t τ cs x hty hn h
 have hf:=F.ty t τ hty hn
 cases τ with
 |mp k v=>exact hf.elim
 |er=>exact hf.elim
 |op e=>exact hf.elim
 |fnc=>exact hf.elim
 |int k=>
  obtain⟨n,rfl,hw⟩:=Ix hf h
  refine⟨n, .int hw,⟨rfl,λi c l hc hl=> ?_⟩,rfl,λl hl=> ?_, .int (lF _), .one (.int (lF _))⟩
  ·cases i with
   |zero=>simp[aK]at hc hl;subst hc;subst hl;exact .v _
   |succ i=>simp at hc
  ·simp[aK]at hl;subst hl;exact .int hw
 |bool=>
  obtain⟨b,rfl⟩:=FI hf h
  refine⟨b, .bool b,⟨rfl,λi c l hc hl=> ?_⟩,rfl,λl hl=> ?_, .bool (lF _), .one (.bool (lF _))⟩
  ·cases i with
   |zero=>simp[aK]at hc hl;subst hc;subst hl;exact .v _
   |succ i=>simp at hc
  ·simp[aK]at hl;subst hl;exact .bool b
 |str=>
  obtain⟨s,rfl,hs,hb⟩:=vO hf h
  refine⟨s, .str hs,⟨rfl,λi c l hc hl=> ?_⟩,rfl,λl hl=> ?_, .str (XC hb.symm), .one (.str (XC hb.symm))⟩
  ·cases i with
   |zero=>simp[aK]at hc hl;subst hc;subst hl;exact .v _
   |succ i=>simp at hc
  ·simp[aK]at hl;subst hl;exact .str hs
 |st i=>
  obtain⟨fs,hu,hsz,hfl⟩:=hf
  cases fuel with
  |zero=>cases h
  |succ fuel=>
   obtain⟨hl,ds,hx,hdl,hr⟩:=vP hu h
   obtain⟨n,ls,a1,a2,a3,a4,a5⟩:=p8 F (M:=fJ W) (rd:=λt cs m=>∃y,DataW.trod enc P W base spare held fuel t cs=some y/\m=eQ y.1) (λt τ cs m hτ hn ⟨y,hy,hm⟩=>hm▸ih fuel (by omega) t τ cs y hτ hn hy) fs.toList (ds.map eQ) 0 _ hfl (λτ hτ=>Uo.1 (F.nof _) τ hτ)
    (by rw[Ug,hdl])
    (λj f m hf hm=>by
      obtain⟨y,hy1,hy⟩:=hr j f hf
      rw[Ue,hy1]at hm
      exact⟨y,hy,by simpa using hm.symm⟩)
   obtain⟨y,hy⟩:=F.of i ls a1
   have hc:=V.of_cells i ls y hy
   have hn:n=cs.length:=by rw[a4,<-hc,V.len_cells,hl,hsz]
   rw[UT,UP (by omega)]at a2
   have hdb:eQ x.1=(ds.map eQ).sum+1:=by rw[hx,eQ,mH]
   obtain⟨ns,c1,c2,c3⟩:=a5
   refine⟨y, .st (by rw[hc];exact a3),by simpa only[aK,hc]using a2,by simpa only[aK,hc,zA]using a1,by simpa only[aK,hc]using a3, .st ns (by rw[hc];exact c1) (by rw[hc];exact c2) (by omega),ns,by simpa only[aK,hc]using c1,by simpa only[aK,hc]using c2,by omega⟩
 |sl e=>
  obtain⟨te,hu,hte,hsz,hpos⟩:=hf
  have hpos:0<tsz V.sz e:=by simpa[VG]using hpos
  cases fuel with
  |zero=>cases h
  |succ fuel=>
   have fin:∀(c3:Value) (ys:List (den V.N e)),ys.length<=maxLen->(∀y∈ys,Ok V e y)->dd (fJ W) c3 (aO V.sz V.enc (.sl e) ys)->Bk V (.sl e) ys (eQ x.1)->Rd (V:=V) (fJ W) (.sl e) [c3] (eQ x.1):=by
    intro c3 ys h1 h2 h3 h4
    refine⟨ys, .sl h1 h2,⟨rfl,λi c l hc hl=> ?_⟩,rfl,λl hl=> ?_,h4, .one h4⟩
    ·cases i with
     |zero=>simp[aK]at hc hl;subst hc;subst hl;exact h3
     |succ i=>simp at hc
    ·simp[aK]at hl;subst hl;exact .sl h1 h2
   rcases yv hu h with⟨h4,hx⟩|⟨a,len,cap,h4,hlc,hcm,ds,sp,hx,hdl,hr⟩
   ·subst h4
    exact fin _ [] (by simp) (λy hy=>by cases hy) (.slnil _) (.sl [] rfl (λi x n hx=>by simp at hx) (by rw[hx];simp[eQ]))
   ·subst h4
    rw[hsz]at hr
    obtain⟨ys,hyl,hys⟩:=Ef (α:=den V.N e) (R:=λi y=>∃row d,W.cells? base (a.add (i *tsz V.sz e)) (tsz V.sz e)=some row/\Ok V e y/\kw (fJ W) row (aK V e y)/\ds[i]?=some d/\Bk V e y (eQ d)) len
     λi hi=>by
      obtain⟨row,z,g1,g2,g3⟩:=hr i hi
      obtain⟨y,b1,b2,_,_,b5,_⟩:=ih fuel (by omega) te e row z hte (by simpa[noF]using hn) g2
      exact⟨y,row,z.1,g1,b1,b2,g3,b5⟩
    have hdb:eQ x.1=(ds.map eQ).sum+dbulkL sp+1:=by rw[hx,eQ,mH]
    refine fin _ ys (by omega) (λy hy=> ?_) (dd.of_slice (b:=base) hpos hlc (by rw[Ug,hyl]) (λr hr'=> ?_) λi hi=> ?_) (.sl (ds.map eQ) (by rw[Ug,hdl,hyl]) (λi y n hy hn=> ?_) (by omega))
    ·obtain⟨i,hi,rfl⟩:=Ww hy
     obtain⟨row,_,_,e1,_⟩:=hys i _ (Ub hi)
     exact e1
    ·obtain⟨y,_,rfl⟩:=Uy.1 hr'
     rw[oX,Ug,fx]
    ·obtain⟨row,_,e0,_,e2,_⟩:=hys i (ys[i]'(by omega)) (Ub (by omega))
     refine⟨row,e0,λr hr' j c y hc hy=> ?_⟩
     rw[Ue,Ub (by omega:i<ys.length)]at hr'
     simp at hr'
     subst hr'
     rw[oX,Ue,Ul]at hy
     obtain⟨l,hl,rfl⟩:=hy
     exact e2.2 j c l hc hl
    ·obtain⟨row,d,_,_,_,e3,e4⟩:=hys i y hy
     rw[Ue,e3]at hn
     simp at hn
     subst hn
     exact e4
theorem gb{r:Reach}{t:TypeId}{cs:Array Value}(h:(∃k,P.underlying t=some (.int k))\/P.underlying t=some .bool\/P.underlying t=some .string\/∃e,P.underlying t=some (.slice e)):
 ¬Value.okWide P W r base t (.agg cs):=by
 intro hv
 unfold Value.okWide at hv
 rcases h with⟨k,h⟩|h|h|⟨e,h⟩<;>rw[h]at hv<;>simp only[Cell.okWide,Cell.ok,h]at hv
theorem Fq(F:C4 V P){r:Reach}{b0:Nat}{t:TypeId}{τ:Ty V.ι}{v:Value}{d:DataW H0}{p:List MemPlace}(hty:V.ty t=some τ)(hok:Value.okWide P W r b0 t v)(h:DataW.Trod enc P W base spare held t v d p)(hn:noF V τ=true:=by rfl):
 ∃y:den V.N τ,Ok V τ y/\dd (fJ W) v (aO V.sz V.enc τ y)/\Bk V τ y (eQ d):=by
 obtain⟨fuel,h⟩:=h
 obtain⟨y,h1,h2,_,_,h5,_⟩:=Iw F fuel t τ _ _ hty hn h
 refine⟨y,h1,?_,h5⟩
 have hf:=F.ty t τ hty hn
 have cell:(∀cs,v≠ .agg cs)->aK V τ y=[⟨τ,y⟩]->dd (fJ W) v (aO V.sz V.enc τ y):=by
  intro hn hr
  rw[hr]at h2
  have hc:v.cells.toList=[v]:=by cases v<;>first|rfl|exact(hn _ rfl).elim
  rw[hc]at h2
  exact h2.2 0 v ⟨τ,y⟩ rfl rfl
 cases τ with
 |mp k v=>exact hf.elim
 |er=>exact hf.elim
 |op e=>exact hf.elim
 |fnc=>exact hf.elim
 |int k=>exact cell (λcs e=>by subst e;exact gb (.inl ⟨k,hf⟩) hok) rfl
 |bool=>exact cell (λcs e=>by subst e;exact gb (.inr (.inl hf)) hok) rfl
 |str=>exact cell (λcs e=>by subst e;exact gb (.inr (.inr (.inl hf))) hok) rfl
 |sl e=>
  obtain⟨te,hu,_⟩:=hf
  exact cell (λcs e=>by subst e;exact gb (.inr (.inr (.inr ⟨te,hu⟩))) hok) rfl
 |st i=>
  obtain⟨fs,hu,_,_⟩:=hf
  unfold Value.okWide at hok
  rw[hu]at hok
  obtain⟨cs,rfl,_⟩:=hok
  simp only[Value.cells]at h2
  simp only[aO]
  rw[V.enc_cells]
  refine .agg cs _ (by rw[Ug];have:=h2.1;simpa[aK]using this) λk c x hc hx=> ?_
  rw[Ue,Ul]at hx
  obtain⟨l,hl,rfl⟩:=hx
  exact h2.2 k c l (by simpa using hc) hl
theorem Ip(F:C4 V P){r:Reach}{b0:Nat}{t:TypeId}{τ:Ty V.ι}{v:Value}{d:DataW H0}{p:List MemPlace}(hty:V.ty t=some τ)(hok:Value.okWide P W r b0 t v)(h:DataW.Trod enc P W base spare held t v d p)(hn:noF V τ=true:=by rfl):
 ∃y:den V.N τ,Ok V τ y/\dd (fJ W) v (aO V.sz V.enc τ y):=
 let⟨y,h1,h2,_⟩:=Fq F hty hok h hn
 ⟨y,h1,h2⟩
end
end Go.Tx
end
section
namespace Go.Proofs.YtpelkenpapfadaaGreatDoor
open Go.Awp Go.Shelf
open Go.Proofs.Tryz (prog)
set_option maxRecDepth 100000
theorem Om:U8Types prog Tryz.lays197_ren:=⟨by kernel_rfl,by kernel_rfl,by kernel_rfl,by kernel_rfl⟩
theorem MW:U8Extra prog Tryz.lays197_ren:=⟨by kernel_rfl,by kernel_rfl,by kernel_rfl,by kernel_rfl,by kernel_rfl,by kernel_rfl,by kernel_rfl⟩
theorem M8:Rows.laid_unicode_utf8_first=Lib.firstData:=by kernel_rfl
theorem J6:(Rows.laid_unicode_utf8_acceptRanges:DataW Unit)=Lib.acceptData:=by kernel_rfl
theorem SD:(Rows.laid_internal_strconv_uint64pow10:DataW Unit)=Lib.tabData .u64 Lib.pow10Tab:=by kernel_rfl
def Jh:List Int:=[0,1,56,2,57,49,28,3,61,58,42,50,38,29,17,4,62,47,59,36,45,43,51,22,53,39,33,30,24,18,12,5,63,55,48,27,60,41,37,16,46,35,44,21,52,32,23,11,54,26,40,15,34,20,31,10,25,14,19,9,13,8,7,6]
theorem Ke:(Rows.laid_math_bits_deBruijn64tab:DataW Unit)=Lib.tabData .u8 Jh:=by kernel_rfl
def PX:List (String×DataW Unit):=[("math/bits.deBruijn32tab",Rows.laid_math_bits_deBruijn32tab),("math/bits.deBruijn64tab",Rows.laid_math_bits_deBruijn64tab),("internal/strconv.uint64pow10",Rows.laid_internal_strconv_uint64pow10),("unicode/utf8.acceptRanges",Rows.laid_unicode_utf8_acceptRanges),("strconv.ErrRange",Rows.laid_strconv_ErrRange),("strconv.ErrSyntax",Rows.laid_strconv_ErrSyntax),("unicode/utf8.first",Rows.laid_unicode_utf8_first)]
theorem nS{P:Program}{w:World}{name:String}{k:IntKind}{zs:List Int}{g:Nat}{t e:TypeId}{n:Nat}(hg:P.globalNamed name=some g)(hty:(P.globals[g]?).map (·.type)=some t)(ht:P.underlying t=some (.array n e))(he:P.underlying e=some (.int k))(hce:P.cellsOf e=1)(hct:P.cellsOf t=n)
 (h:Lib.VarReads P w name (Lib.tabData k zs)):Lib.TabIs P w name k zs:=by
 obtain⟨g',t',cs,fuel,p,hg',ht',hvar,hd⟩:=h
 obtain rfl:=VZ (hg.symm.trans hg')
 obtain rfl:=VZ (hty.symm.trans ht')
 unfold Lib.TabIs
 rw[hvar,<-Lib.cells_of_tab ht he hce hct hd]
theorem kh{P:Program}{w:World}{name nm:String}{d:DataW Unit}{g:Nat}{t:TypeId}{ms:TypeDesc}(hg:P.globalNamed name=some g)(hty:(P.globals[g]?).map (·.type)=some t)(ht:P.underlying t=some ms)(hms:∃l,ms= .interface l)
 (h:Lib.VarReads P w name (.iface nm d)):∃u v,w.cell? ⟨g,0,none⟩=some (.iface u v):=by
 obtain⟨l,rfl⟩:=hms
 obtain⟨g',t',cs,fuel,p,hg',ht',hvar,hd⟩:=h
 obtain rfl:=VZ (hg.symm.trans hg')
 obtain rfl:=VZ (hty.symm.trans ht')
 have hc:∃u v,cs.toList=[.iface u v]:=by
  cases fuel with
  |zero=>cases hd
  |succ fuel=>
   unfold DataW.trod at hd
   rw[ht]at hd
   simp only[]at hd
   split at hd<;>try(rename_i h1 _;cases h1)
   all_goals try(cases hd;done)
   all_goals first
    |(rename_i u v _;exact⟨u,v,by assumption⟩)
    |(simp_all;done)
 obtain⟨u,v,hc⟩:=hc
 refine⟨u,v,?_⟩
 unfold World.var? at hvar
 rw[hg]at hvar
 simp only[T0]at hvar
 split at hvar
 ·rename_i cs' _ _ hw
  cases hvar
  have:cs[0]?=some (.iface u v):=by rw[<-Vo,hc];rfl
  simpa[World.cell?,hw]using this
 ·cases hvar
theorem DZ{W:World}(h:laidMetH prog PX W):GOk (fJ W) W:=by
 rw[MakeChecks.laidMetH_plain _ _ _ (by kernel_rfl)]at h
 have h1:Lib.VarReads prog W "unicode/utf8.acceptRanges" Lib.acceptData:=J6▸Lib.laidMet.reads h (.tail _ (.tail _ (.tail _ (.head _))))
 have h2:Lib.VarReads prog W "unicode/utf8.first" Lib.firstData:=M8▸Lib.laidMet.reads h (.tail _ (.tail _ (.tail _ (.tail _ (.tail _ (.tail _ (.head _)))))))
 have h3:Lib.VarReads prog W "internal/strconv.uint64pow10" (Lib.tabData .u64 Lib.pow10Tab):=SD▸Lib.laidMet.reads h (.tail _ (.tail _ (.head _)))
 have h4:=kh (P:=prog) (g:=7) (t:=85) (by kernel_rfl) (by kernel_rfl) Tryz.underlying85 ⟨_,rfl⟩ (Lib.laidMet.reads h (.tail _ (.tail _ (.tail _ (.tail _ (.head _))))))
 have h5:=kh (P:=prog) (g:=6) (t:=85) (by kernel_rfl) (by kernel_rfl) Tryz.underlying85 ⟨_,rfl⟩ (Lib.laidMet.reads h (.tail _ (.tail _ (.tail _ (.tail _ (.tail _ (.head _)))))))
 have h6:Lib.TabIs prog W "internal/strconv.uint64pow10" .u64 Lib.pow10Tab:=by
  obtain⟨g,t,cs,fuel,p,hg,ht,_,_⟩:=id h3
  exact nS (g:=0) (t:=189) (e:=171) (n:=20) (by kernel_rfl) (by kernel_rfl) (by kernel_rfl) (by kernel_rfl) (by kernel_rfl) (by kernel_rfl) h3
 have h7:W.cell? ⟨5,15,none⟩=some (.int .u8 4):=by
  have h9:Lib.VarReads prog W "math/bits.deBruijn64tab" (Lib.tabData .u8 Jh):=Ke▸Lib.laidMet.reads h (.tail _ (.head _))
  have h10:=nS (P:=prog) (g:=5) (t:=217) (e:=5) (n:=64) (by kernel_rfl) (by kernel_rfl) (by kernel_rfl) (by kernel_rfl) (by kernel_rfl) (by kernel_rfl) h9
  have:=h10.cell (g:=5) (by kernel_rfl) 15 (by decide)
  exact this
 refine⟨LC h7 (utf8Tabs_of_readsT Om MW h2 h1) h6,λb hb=> ?_,λp hp=> ?_⟩
 ·have hb:b∈[6,7]:=hb
  simp only[Um,Xa,or_false]at hb
  rcases hb with rfl|rfl
  ·exact h5
  ·exact h4
 ·have hp:p∈[(0,20)]:=hp
  simp only[Um,Xa,or_false]at hp
  subst hp
  have hn:prog.globalNamed "internal/strconv.uint64pow10" =some 0:=by kernel_rfl
  refine⟨⟨_,h6.cell hn 0 (by rw[gT];decide)⟩,?_⟩
  unfold Lib.TabIs World.var? at h6
  rw[hn]at h6
  simp only[T0]at h6
  split at h6
  ·rename_i cs t fr hw
   cases h6
   exact⟨_,_,_,hw,by simp[gT]⟩
  ·cases h6
end Go.Proofs.YtpelkenpapfadaaGreatDoor
end
section
namespace Go.Tx
open Go.Awp
variable [Inhabited GMem]
section
variable {V:mz}
end
end Go.Tx
end
section
namespace Go.Proofs.YtpelkenpapfadaaGreatDoor.Ty
open Go.Awp
theorem mixed:Tryz.prog.follows .mixedOrders=true:=by kernel_rfl
end Go.Proofs.YtpelkenpapfadaaGreatDoor.Ty
end
section
namespace Go.Proofs.YtpelkenpapfadaaGreatDoor
open Go.Awp Go.Tx
structure aF where
 word:Int
 big:Bool
 deriving DecidableEq
noncomputable def aF.enc(x:aF):List D:=[.v (.int .i64 x.word)]++[.v (.bool x.big)]
noncomputable def aF.encd(x:aF):List DD:=[.d (.v (.int .i64 x.word))]++[.d (.v (.bool x.big))]
theorem aF.encd_toL(x:aF):DD.toL x.encd=some x.enc:=(DD.toL_app (n_ _) (n_ _))
structure aa where
 kind:Int
 n:Int
 flag:Bool
 parts:(List aa)
mutual
noncomputable def aa.enc:aa->List D
 |⟨a0,a1,a2,a3⟩=>[.v (.int .i64 a0)]++[.v (.int .i64 a1)]++[.v (.bool a2)]++[.sl 4 (aa.encL a3)]
noncomputable def aa.encL:List aa->List (List D)
 |[]=>[]
 |x::r=>aa.enc x::aa.encL r
end
theorem aa.encL_map:∀l:List aa,aa.encL l=l.map aa.enc
 |[]=>by simp[aa.encL]
 |x::r=>by simp[aa.encL,aa.encL_map r]
mutual
noncomputable def aa.encd:aa->List DD
 |⟨a0,a1,a2,a3⟩=>[.d (.v (.int .i64 a0))]++[.d (.v (.int .i64 a1))]++[.d (.v (.bool a2))]++[.sl 42 4 (aa.encdL a3)]
noncomputable def aa.encdL:List aa->List (List DD)
 |[]=>[]
 |x::r=>aa.encd x::aa.encdL r
end
theorem aa.encdL_map:∀l:List aa,aa.encdL l=l.map aa.encd
 |[]=>by simp[aa.encdL]
 |x::r=>by simp[aa.encdL,aa.encdL_map r]
mutual
theorem aa.encd_toL:∀x:aa,DD.toL x.encd=some x.enc
 |⟨a0,a1,a2,a3⟩=>by rw[aa.encd,aa.enc];exact(DD.toL_app (DD.toL_app (DD.toL_app (n_ _) (n_ _)) (n_ _)) (Oh (aa.encdL_toR a3)))
theorem aa.encdL_toR:∀l:List aa,DD.toR (aa.encdL l)=some (aa.encL l)
 |[]=>by rw[aa.encdL,aa.encL];rfl
 |x::r=>by rw[aa.encdL,aa.encL];exact R2 (aa.encd_toL x) (aa.encdL_toR r)
end
structure Item where
 kind:Int
 name0:ByteArray
 n:Int
 names:(List ByteArray)
 layout:aa
noncomputable def Item.enc(x:Item):List D:=[.v (.int .i64 x.kind)]++[.v (.string x.name0)]++[.v (.int .i64 x.n)]++[.sl 1 (VI (λy=>[.v (.string y)]) x.names)]++aa.enc x.layout
noncomputable def Item.encd(x:Item):List DD:=[.d (.v (.int .i64 x.kind))]++[.d (.v (.string x.name0))]++[.d (.v (.int .i64 x.n))]++[.sl 9 1 (VI (λy=>[.d (.v (.string y))]) x.names)]++aa.encd x.layout
theorem Item.encd_toL(x:Item):DD.toL x.encd=some x.enc:=(DD.toL_app (DD.toL_app (DD.toL_app (DD.toL_app (n_ _) (n_ _)) (n_ _)) (Oh (Oi (λy=>(n_ _)) _))) (aa.encd_toL _))
structure od where
 number:Int
 text:ByteArray
noncomputable def od.enc(x:od):List D:=[.v (.int .i64 x.number)]++[.v (.string x.text)]
noncomputable def od.encd(x:od):List DD:=[.d (.v (.int .i64 x.number))]++[.d (.v (.string x.text))]
theorem od.encd_toL(x:od):DD.toL x.encd=some x.enc:=(DD.toL_app (n_ _) (n_ _))
structure bD where
 items:(List Item)
noncomputable def bD.enc(x:bD):List D:=[.sl 8 (VI (λy=>Item.enc y) x.items)]
noncomputable def bD.encd(x:bD):List DD:=[.sl 44 8 (VI (λy=>Item.encd y) x.items)]
theorem bD.encd_toL(x:bD):DD.toL x.encd=some x.enc:=(Oh (Oi (λy=>(Item.encd_toL y)) _))
structure a_ where
 size:Int
 align:Int
 deriving DecidableEq
noncomputable def a_.enc(x:a_):List D:=[.v (.int .i64 x.size)]++[.v (.int .i64 x.align)]
noncomputable def a_.encd(x:a_):List DD:=[.d (.v (.int .i64 x.size))]++[.d (.v (.int .i64 x.align))]
theorem a_.encd_toL(x:a_):DD.toL x.encd=some x.enc:=(DD.toL_app (n_ _) (n_ _))
structure lB where
 size:Int
 align:Int
 deriving DecidableEq
noncomputable def lB.enc(x:lB):List D:=[.v (.int .i64 x.size)]++[.v (.int .i64 x.align)]
noncomputable def lB.encd(x:lB):List DD:=[.d (.v (.int .i64 x.size))]++[.d (.v (.int .i64 x.align))]
theorem lB.encd_toL(x:lB):DD.toL x.encd=some x.enc:=(DD.toL_app (n_ _) (n_ _))
structure aD where
 at0:Int
 text:ByteArray
noncomputable def aD.enc(x:aD):List D:=[.v (.int .i64 x.at0)]++[.v (.string x.text)]
noncomputable def aD.encd(x:aD):List DD:=[.d (.v (.int .i64 x.at0))]++[.d (.v (.string x.text))]
theorem aD.encd_toL(x:aD):DD.toL x.encd=some x.enc:=(DD.toL_app (n_ _) (n_ _))
structure f5 where
 l:(List ByteArray)
 before:(List Item)
 wrong:Bool
noncomputable def f5.enc(x:f5):List D:=[.sl 1 (VI (λy=>[.v (.string y)]) x.l)]++[.sl 8 (VI (λy=>Item.enc y) x.before)]++[.v (.bool x.wrong)]
noncomputable def f5.encd(x:f5):List DD:=[.sl 9 1 (VI (λy=>[.d (.v (.string y))]) x.l)]++[.sl 44 8 (VI (λy=>Item.encd y) x.before)]++[.d (.v (.bool x.wrong))]
theorem f5.encd_toL(x:f5):DD.toL x.encd=some x.enc:=(DD.toL_app (DD.toL_app (Oh (Oi (λy=>(n_ _)) _)) (Oh (Oi (λy=>(Item.encd_toL y)) _))) (n_ _))
structure al where
 count:Int
 deep:Int
 large:Bool
 deriving DecidableEq
noncomputable def al.enc(x:al):List D:=[.v (.int .i64 x.count)]++[.v (.int .i64 x.deep)]++[.v (.bool x.large)]
noncomputable def al.encd(x:al):List DD:=[.d (.v (.int .i64 x.count))]++[.d (.v (.int .i64 x.deep))]++[.d (.v (.bool x.large))]
theorem al.encd_toL(x:al):DD.toL x.encd=some x.enc:=(DD.toL_app (DD.toL_app (n_ _) (n_ _)) (n_ _))
structure bn where
 lo:Int
 hi:Int
 deriving DecidableEq
noncomputable def bn.enc(x:bn):List D:=[.v (.int .u8 x.lo)]++[.v (.int .u8 x.hi)]
noncomputable def bn.encd(x:bn):List DD:=[.d (.v (.int .u8 x.lo))]++[.d (.v (.int .u8 x.hi))]
theorem bn.encd_toL(x:bn):DD.toL x.encd=some x.enc:=(DD.toL_app (n_ _) (n_ _))
structure bo where
 s:ByteArray
noncomputable def bo.enc(x:bo):List D:=[.v (.string x.s)]
noncomputable def bo.encd(x:bo):List DD:=[.d (.v (.string x.s))]
theorem bo.encd_toL(x:bo):DD.toL x.encd=some x.enc:=(n_ _)
inductive SN where
 |targetT
 |layoutT
 |itemT
 |partT
 |translatorT
 |roomT
 |placeT
 |tokenT
 |readerT
 |countedT
 |acceptRangeT
 |errorStringT
 deriving DecidableEq
abbrev NN:SN->Type
 | .targetT=>aF
 | .layoutT=>aa
 | .itemT=>Item
 | .partT=>od
 | .translatorT=>bD
 | .roomT=>a_
 | .placeT=>lB
 | .tokenT=>aD
 | .readerT=>f5
 | .countedT=>al
 | .acceptRangeT=>bn
 | .errorStringT=>bo
noncomputable def szN:SN->Nat
 | .targetT=>2
 | .layoutT=>4
 | .itemT=>8
 | .partT=>2
 | .translatorT=>1
 | .roomT=>2
 | .placeT=>2
 | .tokenT=>2
 | .readerT=>3
 | .countedT=>3
 | .acceptRangeT=>2
 | .errorStringT=>1
noncomputable def TJ:SN->List (Ty SN)
 | .targetT=>[(.int .i64), .bool]
 | .layoutT=>[(.int .i64),(.int .i64), .bool,(.sl (.st .layoutT))]
 | .itemT=>[(.int .i64), .str,(.int .i64),(.sl .str),(.int .i64),(.int .i64), .bool,(.sl (.st .layoutT))]
 | .partT=>[(.int .i64), .str]
 | .translatorT=>[(.sl (.st .itemT))]
 | .roomT=>[(.int .i64),(.int .i64)]
 | .placeT=>[(.int .i64),(.int .i64)]
 | .tokenT=>[(.int .i64), .str]
 | .readerT=>[(.sl .str),(.sl (.st .itemT)), .bool]
 | .countedT=>[(.int .i64),(.int .i64), .bool]
 | .acceptRangeT=>[(.int .u8),(.int .u8)]
 | .errorStringT=>[.str]
noncomputable def gz:(i:SN)->NN i->List (dm NN)
 | .targetT,x=>[⟨(.int .i64),x.word⟩,⟨.bool,x.big⟩]
 | .layoutT,x=>[⟨(.int .i64),x.kind⟩,⟨(.int .i64),x.n⟩,⟨.bool,x.flag⟩,⟨(.sl (.st .layoutT)),x.parts⟩]
 | .itemT,x=>[⟨(.int .i64),x.kind⟩,⟨.str,x.name0⟩,⟨(.int .i64),x.n⟩,⟨(.sl .str),x.names⟩,⟨(.int .i64),x.layout.kind⟩,⟨(.int .i64),x.layout.n⟩,⟨.bool,x.layout.flag⟩,⟨(.sl (.st .layoutT)),x.layout.parts⟩]
 | .partT,x=>[⟨(.int .i64),x.number⟩,⟨.str,x.text⟩]
 | .translatorT,x=>[⟨(.sl (.st .itemT)),x.items⟩]
 | .roomT,x=>[⟨(.int .i64),x.size⟩,⟨(.int .i64),x.align⟩]
 | .placeT,x=>[⟨(.int .i64),x.size⟩,⟨(.int .i64),x.align⟩]
 | .tokenT,x=>[⟨(.int .i64),x.at0⟩,⟨.str,x.text⟩]
 | .readerT,x=>[⟨(.sl .str),x.l⟩,⟨(.sl (.st .itemT)),x.before⟩,⟨.bool,x.wrong⟩]
 | .countedT,x=>[⟨(.int .i64),x.count⟩,⟨(.int .i64),x.deep⟩,⟨.bool,x.large⟩]
 | .acceptRangeT,x=>[⟨(.int .u8),x.lo⟩,⟨(.int .u8),x.hi⟩]
 | .errorStringT,x=>[⟨.str,x.s⟩]
noncomputable def Hn:(i:SN)->NN i->List D
 | .targetT,x=>aF.enc x
 | .layoutT,x=>aa.enc x
 | .itemT,x=>Item.enc x
 | .partT,x=>od.enc x
 | .translatorT,x=>bD.enc x
 | .roomT,x=>a_.enc x
 | .placeT,x=>lB.enc x
 | .tokenT,x=>aD.enc x
 | .readerT,x=>f5.enc x
 | .countedT,x=>al.enc x
 | .acceptRangeT,x=>bn.enc x
 | .errorStringT,x=>bo.enc x
noncomputable def ofN:(i:SN)->List (dm NN)->Option (NN i)
 | .targetT,[⟨(.int .i64),a0⟩,⟨.bool,a1⟩]=>some ⟨a0,a1⟩
 | .layoutT,[⟨(.int .i64),a0⟩,⟨(.int .i64),a1⟩,⟨.bool,a2⟩,⟨(.sl (.st .layoutT)),a3⟩]=>some ⟨a0,a1,a2,a3⟩
 | .itemT,[⟨(.int .i64),a0⟩,⟨.str,a1⟩,⟨(.int .i64),a2⟩,⟨(.sl .str),a3⟩,⟨(.int .i64),a4⟩,⟨(.int .i64),a5⟩,⟨.bool,a6⟩,⟨(.sl (.st .layoutT)),a7⟩]=>some ⟨a0,a1,a2,a3,⟨a4,a5,a6,a7⟩⟩
 | .partT,[⟨(.int .i64),a0⟩,⟨.str,a1⟩]=>some ⟨a0,a1⟩
 | .translatorT,[⟨(.sl (.st .itemT)),a0⟩]=>some ⟨a0⟩
 | .roomT,[⟨(.int .i64),a0⟩,⟨(.int .i64),a1⟩]=>some ⟨a0,a1⟩
 | .placeT,[⟨(.int .i64),a0⟩,⟨(.int .i64),a1⟩]=>some ⟨a0,a1⟩
 | .tokenT,[⟨(.int .i64),a0⟩,⟨.str,a1⟩]=>some ⟨a0,a1⟩
 | .readerT,[⟨(.sl .str),a0⟩,⟨(.sl (.st .itemT)),a1⟩,⟨.bool,a2⟩]=>some ⟨a0,a1,a2⟩
 | .countedT,[⟨(.int .i64),a0⟩,⟨(.int .i64),a1⟩,⟨.bool,a2⟩]=>some ⟨a0,a1,a2⟩
 | .acceptRangeT,[⟨(.int .u8),a0⟩,⟨(.int .u8),a1⟩]=>some ⟨a0,a1⟩
 | .errorStringT,[⟨.str,a0⟩]=>some ⟨a0⟩
 |_,_=>none
noncomputable def tyN:TypeId->Option (Ty SN)
 |2=>some (.int .i64)
 |3=>some (.int .i64)
 |4=>some .bool
 |5=>some (.int .u8)
 |6=>some (.int .u8)
 |9=>some .str
 |10=>some .str
 |11=>some .str
 |12=>some (.int .u64)
 |21=>some (.int .i32)
 |23=>some (.sl (.st .itemT))
 |24=>some (.sl .str)
 |25=>some (.int .i64)
 |35=>some (.st .targetT)
 |40=>some (.sl (.st .layoutT))
 |42=>some (.st .layoutT)
 |44=>some (.st .itemT)
 |55=>some (.sl (.sl .str))
 |57=>some (.sl (.int .i64))
 |61=>some (.sl (.st .partT))
 |65=>some (.st .partT)
 |74=>some (.sl (.sl (.st .tokenT)))
 |77=>some (.sl (.st .tokenT))
 |81=>some (.sl (.int .u8))
 |100=>some (.st .translatorT)
 |107=>some (.st .roomT)
 |111=>some (.st .placeT)
 |122=>some (.sl .bool)
 |125=>some (.st .tokenT)
 |133=>some (.sl .fnc)
 |143=>some (.st .readerT)
 |163=>some (.st .countedT)
 |171=>some (.int .u64)
 |190=>some (.int .u32)
 |193=>some (.int .u64)
 |204=>some (.st .acceptRangeT)
 |210=>some (.int .i64)
 |227=>some (.st .errorStringT)
 |233=>some (.int .u8)
 |234=>some (.int .u8)
 |236=>some (.int .i32)
 |237=>some (.int .i32)
 |_=>none
theorem A7(i:SN)(x:NN i):Hn i x=(gz i x).map λl=>aO szN Hn l.t l.x:=by
 cases i<;>cases x<;>first|(simp[Hn,gz,aO,dc,tsz,szN,aF.enc,aa.enc,Item.enc,od.enc,bD.enc,a_.enc,lB.enc,aD.enc,f5.enc,al.enc,bn.enc,bo.enc,aa.encL_map];done)|(rename_i q;cases q;simp[Hn,gz,aO,dc,tsz,szN,aF.enc,aa.enc,Item.enc,od.enc,bD.enc,a_.enc,lB.enc,aD.enc,f5.enc,al.enc,bn.enc,bo.enc,aa.encL_map])
theorem Ff(i:SN)(ls:List (dm NN))(x:NN i)(h:ofN i ls=some x):gz i x=ls:=by
 unfold ofN at h
 split at h<;>first
  |(cases h;rfl)
  |(cases h;done)
theorem Bi(i:SN)(x:NN i):(gz i x).length=szN i:=by cases i<;>rfl
theorem BM(i:SN)(x:NN i):∀l∈gz i x,l.t.cell=true:=by
 have h:(gz i x).all (λl=>l.t.cell)=true:=by cases i<;>rfl
 exact Uo.1 h
noncomputable def A8:(i:SN)->NN i->List DD
 | .targetT,x=>aF.encd x
 | .layoutT,x=>aa.encd x
 | .itemT,x=>Item.encd x
 | .partT,x=>od.encd x
 | .translatorT,x=>bD.encd x
 | .roomT,x=>a_.encd x
 | .placeT,x=>lB.encd x
 | .tokenT,x=>aD.encd x
 | .readerT,x=>f5.encd x
 | .countedT,x=>al.encd x
 | .acceptRangeT,x=>bn.encd x
 | .errorStringT,x=>bo.encd x
noncomputable def M_:SN->Bool
 | .targetT=>true
 | .layoutT=>false
 | .itemT=>false
 | .partT=>true
 | .translatorT=>false
 | .roomT=>true
 | .placeT=>true
 | .tokenT=>true
 | .readerT=>false
 | .countedT=>true
 | .acceptRangeT=>true
 | .errorStringT=>true
noncomputable def OV:Ty SN->Nat
 |(.st .itemT)=>44
 | .str=>9
 |(.st .layoutT)=>42
 |(.sl .str)=>24
 |(.int .i64)=>3
 |(.st .partT)=>65
 |(.sl (.st .tokenT))=>77
 |(.st .tokenT)=>125
 |(.int .u8)=>5
 | .bool=>4
 |_=>0
theorem xD(i:SN)(x:NN i):A8 i x=(gz i x).map λl=>fE szN Hn OV A8 l.t l.x:=by
 cases i<;>cases x<;>first|(simp[A8,gz,fE,cD,aO,dc,OV,tsz,szN,aF.encd,aa.encd,Item.encd,od.encd,bD.encd,a_.encd,lB.encd,aD.encd,f5.encd,al.encd,bn.encd,bo.encd,aa.encdL_map];done)|(rename_i q;cases q;simp[A8,gz,fE,cD,aO,dc,OV,tsz,szN,aF.encd,aa.encd,Item.encd,od.encd,bD.encd,a_.encd,lB.encd,aD.encd,f5.encd,al.encd,bn.encd,bo.encd,aa.encdL_map])
theorem DR(i:SN)(x:NN i):DD.toL (A8 i x)=some (Hn i x):=by
 cases i
 ·exact aF.encd_toL x
 ·exact aa.encd_toL x
 ·exact Item.encd_toL x
 ·exact od.encd_toL x
 ·exact bD.encd_toL x
 ·exact a_.encd_toL x
 ·exact lB.encd_toL x
 ·exact aD.encd_toL x
 ·exact f5.encd_toL x
 ·exact al.encd_toL x
 ·exact bn.encd_toL x
 ·exact bo.encd_toL x
theorem xK(i:SN)(x:NN i)(h:M_ i=true):∀l∈gz i x,l.t.isSl=false:=by
 have h1:(gz i x).all (λl=> !l.t.isSl)=true:=by
  revert h
  cases i<;>first
   |(intro h;cases h;done)
   |(intro _;rfl)
 intro l hl
 simpa using Uo.1 h1 l hl
noncomputable def vw:mz where
 ι:=SN
 dec:=inferInstance
 N:=NN
 sz:=szN
 tys:=TJ
 cells:=gz
 ofCells:=ofN
 enc:=Hn
 ty:=tyN
 enc_cells:=A7
 of_cells:=Ff
 len_cells:=Bi
 one_cells:=BM
 tid:=OV
 encd:=A8
 encd_cells:=xD
 encd_toL:=DR
 flat:=M_
 flat_cells:=xK
end Go.Proofs.YtpelkenpapfadaaGreatDoor
end
section
namespace Go.Proofs.YtpelkenpapfadaaGreatDoor
open Go.Awp Go.Tx
open Go.Proofs.Tryz (prog)
set_option maxRecDepth 100000
def dG(P:Program)(t:TypeId):Array Field:=match P.underlying t with
 |some (.struct fs)=>fs
 |_=> #[]
theorem tf2:bh vw prog 2 (.int .i64):=(by kernel_rfl:prog.underlying 2=some (.int .i64))
theorem tf3:bh vw prog 3 (.int .i64):=(by kernel_rfl:prog.underlying 3=some (.int .i64))
theorem tf4:bh vw prog 4 .bool:=(by kernel_rfl:prog.underlying 4=some .bool)
theorem tf5:bh vw prog 5 (.int .u8):=(by kernel_rfl:prog.underlying 5=some (.int .u8))
theorem tf6:bh vw prog 6 (.int .u8):=(by kernel_rfl:prog.underlying 6=some (.int .u8))
theorem tf9:bh vw prog 9 .str:=(by kernel_rfl:prog.underlying 9=some .string)
theorem Tn:bh vw prog 10 .str:=(by kernel_rfl:prog.underlying 10=some .string)
theorem To:bh vw prog 11 .str:=(by kernel_rfl:prog.underlying 11=some .string)
theorem Tp:bh vw prog 12 (.int .u64):=(by kernel_rfl:prog.underlying 12=some (.int .u64))
theorem Tq:bh vw prog 21 (.int .i32):=(by kernel_rfl:prog.underlying 21=some (.int .i32))
theorem Ts:bh vw prog 23 (.sl (.st .itemT)):=⟨44,by kernel_rfl,by kernel_rfl,by kernel_rfl,by kernel_rfl⟩
theorem Tt:bh vw prog 24 (.sl .str):=⟨9,by kernel_rfl,by kernel_rfl,by kernel_rfl,by kernel_rfl⟩
theorem Tu:bh vw prog 25 (.int .i64):=(by kernel_rfl:prog.underlying 25=some (.int .i64))
theorem Tv:bh vw prog 35 (.st .targetT):=⟨dG prog 35,by kernel_rfl,by kernel_rfl,by kernel_rfl⟩
theorem Tw:bh vw prog 40 (.sl (.st .layoutT)):=⟨42,by kernel_rfl,by kernel_rfl,by kernel_rfl,by kernel_rfl⟩
theorem Tz:bh vw prog 42 (.st .layoutT):=⟨dG prog 42,by kernel_rfl,by kernel_rfl,by kernel_rfl⟩
theorem TA:bh vw prog 44 (.st .itemT):=⟨dG prog 44,by kernel_rfl,by kernel_rfl,by kernel_rfl⟩
theorem TB:bh vw prog 55 (.sl (.sl .str)):=⟨24,by kernel_rfl,by kernel_rfl,by kernel_rfl,by kernel_rfl⟩
theorem TC:bh vw prog 57 (.sl (.int .i64)):=⟨3,by kernel_rfl,by kernel_rfl,by kernel_rfl,by kernel_rfl⟩
theorem TD:bh vw prog 61 (.sl (.st .partT)):=⟨65,by kernel_rfl,by kernel_rfl,by kernel_rfl,by kernel_rfl⟩
theorem TF:bh vw prog 65 (.st .partT):=⟨dG prog 65,by kernel_rfl,by kernel_rfl,by kernel_rfl⟩
theorem TG:bh vw prog 74 (.sl (.sl (.st .tokenT))):=⟨77,by kernel_rfl,by kernel_rfl,by kernel_rfl,by kernel_rfl⟩
theorem TH:bh vw prog 77 (.sl (.st .tokenT)):=⟨125,by kernel_rfl,by kernel_rfl,by kernel_rfl,by kernel_rfl⟩
theorem TI:bh vw prog 81 (.sl (.int .u8)):=⟨5,by kernel_rfl,by kernel_rfl,by kernel_rfl,by kernel_rfl⟩
theorem Q8:bh vw prog 100 (.st .translatorT):=⟨dG prog 100,by kernel_rfl,by kernel_rfl,by kernel_rfl⟩
theorem Q9:bh vw prog 107 (.st .roomT):=⟨dG prog 107,by kernel_rfl,by kernel_rfl,by kernel_rfl⟩
theorem Q_:bh vw prog 111 (.st .placeT):=⟨dG prog 111,by kernel_rfl,by kernel_rfl,by kernel_rfl⟩
theorem Ra:bh vw prog 122 (.sl .bool):=⟨4,by kernel_rfl,by kernel_rfl,by kernel_rfl,by kernel_rfl⟩
theorem Rb:bh vw prog 125 (.st .tokenT):=⟨dG prog 125,by kernel_rfl,by kernel_rfl,by kernel_rfl⟩
theorem Rc:bh vw prog 143 (.st .readerT):=⟨dG prog 143,by kernel_rfl,by kernel_rfl,by kernel_rfl⟩
theorem Re:bh vw prog 163 (.st .countedT):=⟨dG prog 163,by kernel_rfl,by kernel_rfl,by kernel_rfl⟩
theorem Rf:bh vw prog 171 (.int .u64):=(by kernel_rfl:prog.underlying 171=some (.int .u64))
theorem Rg:bh vw prog 190 (.int .u32):=(by kernel_rfl:prog.underlying 190=some (.int .u32))
theorem Rh:bh vw prog 193 (.int .u64):=(by kernel_rfl:prog.underlying 193=some (.int .u64))
theorem Ri:bh vw prog 204 (.st .acceptRangeT):=⟨dG prog 204,by kernel_rfl,by kernel_rfl,by kernel_rfl⟩
theorem Rj:bh vw prog 210 (.int .i64):=(by kernel_rfl:prog.underlying 210=some (.int .i64))
theorem Rk:bh vw prog 227 (.st .errorStringT):=⟨dG prog 227,by kernel_rfl,by kernel_rfl,by kernel_rfl⟩
theorem Rm:bh vw prog 233 (.int .u8):=(by kernel_rfl:prog.underlying 233=some (.int .u8))
theorem Rn:bh vw prog 234 (.int .u8):=(by kernel_rfl:prog.underlying 234=some (.int .u8))
theorem Ro:bh vw prog 236 (.int .i32):=(by kernel_rfl:prog.underlying 236=some (.int .i32))
theorem Rp:bh vw prog 237 (.int .i32):=(by kernel_rfl:prog.underlying 237=some (.int .i32))
theorem aw{ls:List (dm NN)}{t:Ty SN}{ts:List (Ty SN)}(h:ls.map (·.t)=t::ts):∃(x:den NN t) (ls':List (dm NN)),ls=⟨t,x⟩::ls'/\ls'.map (·.t)=ts:=by
 match ls,h with
 |⟨t',x⟩::r,h=>
  simp only[Uj,VQ]at h
  obtain⟨h1,h2⟩:=h
  subst h1
  exact⟨x,r,rfl,h2⟩
theorem bW{ls:List (dm NN)}(h:ls.map (·.t)=[]):ls=[]:=by simpa using h
theorem facts:C4 vw prog where
 ty:=λt τ h hn=>by
  have h:tyN t=some τ:=h
  unfold tyN at h
  split at h
  ·cases h;exact tf2
  ·cases h;exact tf3
  ·cases h;exact tf4
  ·cases h;exact tf5
  ·cases h;exact tf6
  ·cases h;exact tf9
  ·cases h;exact Tn
  ·cases h;exact To
  ·cases h;exact Tp
  ·cases h;exact Tq
  ·cases h;exact Ts
  ·cases h;exact Tt
  ·cases h;exact Tu
  ·cases h;exact Tv
  ·cases h;exact Tw
  ·cases h;exact Tz
  ·cases h;exact TA
  ·cases h;exact TB
  ·cases h;exact TC
  ·cases h;exact TD
  ·cases h;exact TF
  ·cases h;exact TG
  ·cases h;exact TH
  ·cases h;exact TI
  ·cases h;exact Q8
  ·cases h;exact Q9
  ·cases h;exact Q_
  ·cases h;exact Ra
  ·cases h;exact Rb
  ·cases h;cases hn
  ·cases h;exact Rc
  ·cases h;exact Re
  ·cases h;exact Rf
  ·cases h;exact Rg
  ·cases h;exact Rh
  ·cases h;exact Ri
  ·cases h;exact Rj
  ·cases h;exact Rk
  ·cases h;exact Rm
  ·cases h;exact Rn
  ·cases h;exact Ro
  ·cases h;exact Rp
  ·cases h
 nof:=λi=>by cases i<;>rfl
 tys:=λi x=>by cases i<;>rfl
 of:=λi ls h=>by
  cases i with
  |targetT=>
   obtain⟨a0,l0,rfl,h0⟩:=aw h
   obtain⟨a1,l1,rfl,h1⟩:=aw h0
   obtain rfl:=bW h1
   exact⟨_,rfl⟩
  |layoutT=>
   obtain⟨a0,l0,rfl,h0⟩:=aw h
   obtain⟨a1,l1,rfl,h1⟩:=aw h0
   obtain⟨a2,l2,rfl,h2⟩:=aw h1
   obtain⟨a3,l3,rfl,h3⟩:=aw h2
   obtain rfl:=bW h3
   exact⟨_,rfl⟩
  |itemT=>
   obtain⟨a0,l0,rfl,h0⟩:=aw h
   obtain⟨a1,l1,rfl,h1⟩:=aw h0
   obtain⟨a2,l2,rfl,h2⟩:=aw h1
   obtain⟨a3,l3,rfl,h3⟩:=aw h2
   obtain⟨a4,l4,rfl,h4⟩:=aw h3
   obtain⟨a5,l5,rfl,h5⟩:=aw h4
   obtain⟨a6,l6,rfl,h6⟩:=aw h5
   obtain⟨a7,l7,rfl,h7⟩:=aw h6
   obtain rfl:=bW h7
   exact⟨_,rfl⟩
  |partT=>
   obtain⟨a0,l0,rfl,h0⟩:=aw h
   obtain⟨a1,l1,rfl,h1⟩:=aw h0
   obtain rfl:=bW h1
   exact⟨_,rfl⟩
  |translatorT=>
   obtain⟨a0,l0,rfl,h0⟩:=aw h
   obtain rfl:=bW h0
   exact⟨_,rfl⟩
  |roomT=>
   obtain⟨a0,l0,rfl,h0⟩:=aw h
   obtain⟨a1,l1,rfl,h1⟩:=aw h0
   obtain rfl:=bW h1
   exact⟨_,rfl⟩
  |placeT=>
   obtain⟨a0,l0,rfl,h0⟩:=aw h
   obtain⟨a1,l1,rfl,h1⟩:=aw h0
   obtain rfl:=bW h1
   exact⟨_,rfl⟩
  |tokenT=>
   obtain⟨a0,l0,rfl,h0⟩:=aw h
   obtain⟨a1,l1,rfl,h1⟩:=aw h0
   obtain rfl:=bW h1
   exact⟨_,rfl⟩
  |readerT=>
   obtain⟨a0,l0,rfl,h0⟩:=aw h
   obtain⟨a1,l1,rfl,h1⟩:=aw h0
   obtain⟨a2,l2,rfl,h2⟩:=aw h1
   obtain rfl:=bW h2
   exact⟨_,rfl⟩
  |countedT=>
   obtain⟨a0,l0,rfl,h0⟩:=aw h
   obtain⟨a1,l1,rfl,h1⟩:=aw h0
   obtain⟨a2,l2,rfl,h2⟩:=aw h1
   obtain rfl:=bW h2
   exact⟨_,rfl⟩
  |acceptRangeT=>
   obtain⟨a0,l0,rfl,h0⟩:=aw h
   obtain⟨a1,l1,rfl,h1⟩:=aw h0
   obtain rfl:=bW h1
   exact⟨_,rfl⟩
  |errorStringT=>
   obtain⟨a0,l0,rfl,h0⟩:=aw h
   obtain rfl:=bW h0
   exact⟨_,rfl⟩
end Go.Proofs.YtpelkenpapfadaaGreatDoor
end
section
namespace Go.Proofs.YtpelkenpapfadaaGreatDoor
set_option maxRecDepth 20000
mutual
def aa.depth:aa->Nat
 | .mk _ _ _ ps=>aa.depthL ps+1
def aa.depthL:List aa->Nat
 |[]=>0
 |p::r=>max (aa.depth p) (aa.depthL r)
end
mutual
def aa.all:aa->List aa
 | .mk k n f ps=> .mk k n f ps::aa.allL ps
def aa.allL:List aa->List aa
 |[]=>[]
 |p::r=>aa.all p++aa.allL r
end
theorem aa.depth_eq(l:aa):l.depth=aa.depthL l.parts+1:=by cases l;rfl
theorem aa.all_eq(l:aa):l.all=l::aa.allL l.parts:=by cases l;rfl
theorem aa.depthL_mem:∀{ps:List aa} {p:aa},p∈ps->p.depth<=aa.depthL ps
 |q::r,p,h=>by
  rw[aa.depthL]
  rcases Um.1 h with rfl|h
  ·omega
  ·have:=aa.depthL_mem h;omega
theorem aa.depth_mem{l p:aa}(h:p∈l.parts):p.depth<l.depth:=by
 rw[l.depth_eq];have:=aa.depthL_mem h;omega
theorem aa.allL_mem{q:aa}:∀{ps:List aa} {p:aa},p∈ps->q∈p.all->q∈aa.allL ps
 |p'::r,p,h,hq=>by
  rw[aa.allL,Ur]
  rcases Um.1 h with rfl|h
  ·exact .inl hq
  ·exact .inr (aa.allL_mem h hq)
def aa.fit(l:aa):Prop:=(-9223372036854775808<=l.kind/\l.kind<=9223372036854775807)/\(-9223372036854775808<=l.n/\l.n<=9223372036854775807)/\l.parts.length<=9223372036854775807
def aa.Fits(l:aa):Prop:=∀q∈l.all,q.fit
theorem aa.Fits.self{l:aa}(h:l.Fits):l.fit:=h l (by rw[l.all_eq];exact Uf)
theorem aa.Fits.len{l:aa}(h:l.Fits):l.parts.length<=9223372036854775807:=h.self.2.2
theorem aa.Fits.part{l p:aa}(h:l.Fits)(hp:p∈l.parts):p.Fits:=λq hq=>h q (by rw[l.all_eq];exact Ua _ (aa.allL_mem hp hq))
theorem cV{x:Int}(h1: -9223372036854775808<=x)(h2:x<=9223372036854775807):IntKind.i64.wrap x=x:=by
 unfold IntKind.wrap
 simp only[IntKind.bits,IntKind.signed,Vg]
 split<;>rename_i h<;>simp at h<;>omega
theorem DM{α:Type}{l:List α}{k:Nat}(h:k<l.length):∃p,l[k]?=some p/\p∈l/\l.drop k=p::l.drop (k+1):=
 ⟨l[k],Ub h,Vt h,VC h⟩
theorem eX{α:Type}{l:List α}{k:Nat}(h:¬k<l.length):l.drop k=[]:=Vz (by omega)
theorem bC{k n:Nat}(h:k<n)(hn:n<=9223372036854775807):IntKind.i64.wrap ((k:Int)+1)=((k+1:Nat):Int):=by rw[cV (by omega) (by omega)];omega
def j5(l:aa):Int:=if l.kind=1 then 1 else if l.kind=2 then max l.n 0 else 0
def upS(n m:Int):Int:=(n+m-1).tdiv m *m
theorem aa.ind{P:aa->Prop}(h:∀l:aa,(∀p∈l.parts,P p)->P l):∀l,P l:=by
 have:∀(d:Nat) (l:aa),l.depth<=d->P l:=by
  intro d
  induction d with
  |zero=>intro l hl;rw[l.depth_eq]at hl;omega
  |succ d ih=>intro l hl;exact h l λp hp=>ih p (by have:=aa.depth_mem hp;omega)
 exactλl=>this l.depth l (Us _)
def Ah(n:Int):Int:=if n=0 then 0 else if n<=8 then 1 else if n<=16 then 2 else if n<=32 then 4 else 8
def far:Int:=1099511627776
def OU(xs:List Int):Int:=xs.foldl (λn x=>min far (n+min x far)) 0
theorem Q7(a b:Int)(ha:0<=a)(hb:0<=b):OU [a,b]=min far (a+b):=by simp[OU,far];omega
def c6:List aa->Int
 |[]=>0
 |p::r=>j5 p+c6 r
theorem f8(p:aa):0<=j5 p:=by unfold j5;repeat' split<;>omega
theorem gn:∀ps:List aa,0<=c6 ps
 |[]=>by simp[c6]
 |p::r=>by have:=f8 p;have:=gn r;simp only[c6];omega
def js(ps:List aa):Int:=ps.foldl (λn p=>min (n+min (j5 p) 1000) 100000) 0
theorem si:∀(ps:List aa) (a b:Int),0<=a->(a=b/\a<=64\/64<a/\64<b)->
 (let x:=ps.foldl (λn p=>min (n+min (j5 p) 1000) 100000) a;let y:=b+c6 ps;x=y/\x<=64\/64<x/\64<y)
 |[],a,b,ha,h=>by simpa[c6]using h
 |p::r,a,b,ha,h=>by
  have b1:=f8 p
  have:=si r (min (a+min (j5 p) 1000) 100000) (b+j5 p) (by omega) (by omega)
  simp only[Vd,c6]at this⊢
  rw[<-Int.add_assoc];exact this
theorem BX(ps:List aa):js ps=c6 ps/\js ps<=64\/64<js ps/\64<c6 ps:=by
 have:=si ps 0 0 (by omega) (by omega)
 simpa[js]using this
mutual
def aa.cells:aa->Int
 | .mk k n _ ps=>(if k=5 then max 0 n *aa.cellsL ps else aa.cellsL ps)+1
def aa.cellsL:List aa->Int
 |[]=>0
 |p::r=>aa.cells p+aa.cellsL r
end
theorem aa.cells_eq(l:aa):l.cells=(if l.kind=5 then max 0 l.n *aa.cellsL l.parts else aa.cellsL l.parts)+1:=by cases l;rfl
theorem aa.cellsL_of{ps:List aa}(h:∀p∈ps,1<=p.cells):0<=aa.cellsL ps:=by
 induction ps with
 |nil=>simp[aa.cellsL]
 |cons p r ih=>
  have:=h p Uf
  have:=ih λq hq=>h q (Ua _ hq)
  simp only[aa.cellsL];omega
theorem aa.cells_pos:∀l:aa,1<=l.cells:=by
 refine aa.ind λl ih=> ?_
 have h:=aa.cellsL_of ih
 rw[l.cells_eq]
 split
 ·have:=Xn (a:=max 0 l.n) (by omega) h
  omega
 ·omega
theorem aa.cellsL_nonneg(ps:List aa):0<=aa.cellsL ps:=aa.cellsL_of λp _=>p.cells_pos
def aa.arr(l:aa):Prop:=∀q∈l.all,q.kind=5->q.n<=1000000
theorem aa.arr.part{l p:aa}(h:l.arr)(hp:p∈l.parts):p.arr:=λq hq=>h q (by rw[l.all_eq];exact Ua _ (aa.allL_mem hp hq))
theorem aa.arr.self{l:aa}(h:l.arr):l.kind=5->l.n<=1000000:=h l (by rw[l.all_eq];exact Uf)
theorem FP{a n m:Int}(hn:0<=n)(h:0<=m)(ha:1<=a):min a (1+n *min a m)=min a (n *m+1):=by
 by_cases hm:m<=a
 ·have e:min a m=m:=by omega
  rw[e,Int.add_comm]
 ·have e:min a m=a:=by omega
  rw[e]
  by_cases h0:n=0
  ·subst h0;simp
  ·have h1:1<=n:=by omega
   have h2:a<=n *a:=by have:=WR h1 (show 0<=a by omega);omega
   have h3:m<=n *m:=by have:=WR h1 h;omega
   omega
theorem IA{a n m:Int}(hn:0<=n)(h:0<=m)(ha:1<=a):min (min n a *min a m+1) a=min a (n *m+1):=by
 by_cases h0:m=0
 ·subst h0
  have:min a 0=0:=by omega
  rw[this];simp;omega
 by_cases hn':n<=a
 ·rw[Int.min_eq_left hn',<-FP hn h ha];omega
 ·have e:min n a=a:=by omega
  rw[e]
  have h1:1<=min a m:=by omega
  have h2:a<=a *min a m:=by have:=WU h1 (show 0<=a by omega);omega
  have h3:n<=n *m:=by have:=WU (show 1<=m by omega) hn;omega
  omega
def aa.big1(l:aa):Bool:=l.kind==2&&decide (l.n>64)||l.kind==5&&decide (l.n>1000)||l.kind==7&&decide (l.n>65536)||l.kind==9&&decide (min far (c6 l.parts)>64)
mutual
def aa.look:aa->Int->Int->Int->Bool->Int×Int×Bool
 | .mk k n f ps,dep,c,d,g=>
  if(g||decide (c+1>60)||decide (dep>5)||decide ((ps.length:Int)>12)||aa.big1 (.mk k n f ps))=true then(c+1,max d dep,true)
  else aa.lookL ps (dep+1) (c+1,max d dep,false)
def aa.lookL:List aa->Int->Int×Int×Bool->Int×Int×Bool
 |[],_,s=>s
 |p::r,dep,s=>aa.lookL r dep (aa.look p dep s.1 s.2.1 s.2.2)
end
theorem aa.look_eq(l:aa)(dep c d:Int)(g:Bool):l.look dep c d g=if(g||decide (c+1>60)||decide (dep>5)||decide ((l.parts.length:Int)>12)||l.big1)=true then(c+1,max d dep,true)
 else aa.lookL l.parts (dep+1) (c+1,max d dep,false):=by cases l;rfl
theorem aa.lookL_cnt{ps:List aa}(h:∀p∈ps,∀dep c d g,c<=(p.look dep c d g).1/\(p.look dep c d g).1<=c+p.all.length)(dep:Int):∀s:Int×Int×Bool,s.1<=(aa.lookL ps dep s).1/\(aa.lookL ps dep s).1<=s.1+(aa.allL ps).length:=by
 induction ps with
 |nil=>intro s;simp[aa.lookL,aa.allL]
 |cons p r ih=>
  intro s
  have h1:=h p Uf dep s.1 s.2.1 s.2.2
  have h2:=ih (λq hq=>h q (Ua _ hq)) (p.look dep s.1 s.2.1 s.2.2)
  simp only[aa.lookL,aa.allL,Uh];omega
theorem aa.look_cnt:∀(l:aa) (dep c d:Int) (g:Bool),c<=(l.look dep c d g).1/\(l.look dep c d g).1<=c+l.all.length:=by
 refine aa.ind λl ih dep c d g=> ?_
 have:=aa.lookL_cnt ih (dep+1) (c+1,max d dep,false)
 rw[l.look_eq,l.all_eq,Ui]
 split
 ·simp only[];omega
 ·simp only[]at this;omega
def p5(l:aa):Bool:=
 if l.kind=4\/l.kind=5 then(l.parts.length:Int)==1 else if l.kind=6\/l.kind=9 then true else if l.kind=8 then decide ((l.parts.length:Int)>=1)else(l.parts.length:Int)==0
def uX(k:Int):Int:=if k=2 then 64 else if k=5 then 1000 else if k=7 then 65536 else 9223372036854775807
def fA(p:aa):Bool:=p.kind==1||p.kind==2
def NB(l:aa):Bool:=
 if l.kind=2\/l.kind=7 then decide (l.n>=1)else if l.kind=5 then decide (l.n>=0)else if l.kind=9 then l.parts.all fA&&l.n==0 else l.n==0
def aa.isS(l:aa):Bool:=decide (0<=l.kind/\l.kind<=9)&&p5 l&& !(l.flag&&l.kind !=2)&&NB l
def D4(pred:aa->Bool):List aa->Int->Int
 |[],_=> -1
 |p::r,k=>if pred p=true then k else D4 pred r (k+1)
theorem sN(pred:aa->Bool):∀(ps:List aa) (k:Int),0<=k->decide (D4 pred ps k>=0)=ps.any pred
 |[],k,hk=>rfl
 |p::r,k,hk=>by
  rw[D4,Wk]
  cases hp:pred p
  ·rw[XJ (by decide),UD];exact sN pred r (k+1) (by omega)
  ·rw[XK rfl,UJ];simpa using hk
def aa.right(l:aa):Bool:=l.all.all aa.isS
theorem zm(f:aa->Bool):∀ps:List aa,(aa.allL ps).all f=ps.all λp=>p.all.all f
 |[]=>rfl
 |p::r=>by simp[aa.allL,zm f r]
theorem aa.right_eq(l:aa):l.right=(l.isS&&l.parts.all aa.right):=by
 unfold aa.right
 rw[l.all_eq,Vq,zm]
def pcS(l:aa):Int:=if l.kind=5\/l.kind=4 then 1 else if l.kind=8\/l.kind=6\/l.kind=9 then l.parts.length else 0
def nbS(l:aa):Bool:=if l.kind=2\/l.kind=7 then decide (l.n>=1)else if l.kind=5 then decide (l.n>=0)else if l.kind=8 then l.n==0&&decide ((l.parts.length:Int)>=1)else l.n==0
theorem Nk(l:aa)(h:0<=l.kind/\l.kind<=9):l.isS=(nbS l&& !((l.parts.length:Int) !=pcS l)&& !(l.flag&&l.kind !=2)&& !(l.kind==9&&l.parts.any λp=> !fA p)):=by
 have e:(l.parts.any λp=> !fA p)= !l.parts.all fA:=by rw[Xf]
 rw[e]
 unfold aa.isS p5 NB nbS pcS
 have hk:l.kind=0\/l.kind=1\/l.kind=2\/l.kind=3\/l.kind=4\/l.kind=5\/l.kind=6\/l.kind=7\/l.kind=8\/l.kind=9:=by omega
 generalize l.kind=kind at h hk⊢
 generalize (l.parts.length:Int)=len
 generalize l.parts.all fA=ab
 generalize l.flag=fl
 generalize l.n=n
 rw[Bool.eq_iff_iff]
 rcases hk with rfl|rfl|rfl|rfl|rfl|rfl|rfl|rfl|rfl|rfl<;>cases ab<;>cases fl<;>simp<;>omega
def aa.big(l:aa):Bool:=decide ((l.parts.length:Int)>12)||l.big1
theorem Eh(l:aa)(dep c d:Int):(l.look dep c d true).2.2=true:=by rw[l.look_eq];simp
theorem rX:∀(ps:List aa) (dep:Int) (s:Int×Int×Bool),s.2.2=true->(aa.lookL ps dep s).2.2=true
 |[],dep,s,h=>h
 |p::r,dep,s,h=>by
  rw[aa.lookL]
  refine rX r dep _ ?_
  rw[h];exact Eh p dep _ _
def Jc(l:aa):Prop:=∀(dep c d:Int),0<=c->
 ((l.look dep c d false).2.2=false↔c+l.all.length<=60/\dep-1+l.depth<=5/\l.all.any aa.big=false)/\
 ((l.look dep c d false).2.2=false->(l.look dep c d false).1=c+l.all.length/\(l.look dep c d false).2.1=max d (dep-1+l.depth))
theorem zH:∀(ps:List aa),(∀p∈ps,Jc p)->∀(dep:Int) (s:Int×Int×Bool),s.2.2=false->0<=s.1->s.1<=60->dep-1<=5->dep-1<=s.2.1->
 ((aa.lookL ps dep s).2.2=false↔s.1+(aa.allL ps).length<=60/\dep-1+aa.depthL ps<=5/\(aa.allL ps).any aa.big=false)/\
 ((aa.lookL ps dep s).2.2=false->(aa.lookL ps dep s).1=s.1+(aa.allL ps).length/\(aa.lookL ps dep s).2.1=max s.2.1 (dep-1+aa.depthL ps))
 |[],_,dep,s,hg,h0,h1,h2,h3=>by
  simp only[aa.lookL,aa.allL,aa.depthL,Uw,Xe]
  refine⟨⟨λ_=>⟨by omega,by omega,trivial⟩,λ_=>hg⟩,λ_=>⟨by omega,by omega⟩⟩
 |p::r,hp,dep,s,hg,h0,h1,h2,h3=>by
  have hl:=hp p Uf dep s.1 s.2.1 h0
  simp only[aa.lookL,aa.allL,aa.depthL,Uh,List.any_append,hg]
  cases hb:(p.look dep s.1 s.2.1 false).2.2 with
  |true=>
   have hne:¬(s.1+(p.all.length:Int)<=60/\dep-1+(p.depth:Int)<=5/\p.all.any aa.big=false):=λh=>by
    have:=hl.1.2 h;rw[hb]at this;cases this
   rw[rX r dep _ hb]
   refine⟨⟨(λh=>by cases h),λh=>(hne ⟨by omega,by omega,?_⟩).elim⟩,(λh=>by cases h)⟩
   have:=h.2.2
   rw[UY]at this
   exact this.1
  |false=>
   obtain⟨a1,a2,a3⟩:=hl.1.1 hb
   obtain⟨b1,b2⟩:=hl.2 hb
   have hr:=zH r (λq hq=>hp q (Ua _ hq)) dep (p.look dep s.1 s.2.1 false) hb (by omega) (by omega) h2 (by omega)
   rw[b1,b2]at hr
   refine⟨⟨λh=> ?_,λh=>hr.1.2 ⟨by omega,by omega,?_⟩⟩,λh=> ?_⟩
   ·obtain⟨c1,c2,c3⟩:=hr.1.1 h
    exact⟨by omega,by omega,by rw[a3,c3];rfl⟩
   ·have:=h.2.2
    rw[UY]at this
    exact this.2
   ·obtain⟨c1,c2⟩:=hr.2 h
    exact⟨by omega,by omega⟩
theorem Eg:∀l:aa,Jc l:=by
 refine aa.ind λl ih dep c d hc=> ?_
 rw[l.look_eq,l.all_eq,l.depth_eq,Ui,Wk]
 by_cases h:(false||decide (c+1>60)||decide (dep>5)||decide ((l.parts.length:Int)>12)||l.big1)=true
 ·rw[XK h]
  refine⟨⟨(λh=>by cases h),λh'=> ?_⟩,(λh=>by cases h)⟩
  obtain⟨c1,c2,c3⟩:=h'
  rw[UY]at c3
  have c4:=c3.1
  unfold aa.big at c4
  rw[UY]at c4
  simp only[UD,UI,XI,c4.2]at h
  have c5:¬((l.parts.length:Int)>12):=of_decide_eq_false c4.1
  rcases h with((h|h)|h)|h
  ·omega
  ·omega
  ·omega
  ·cases h
 ·rw[XJ h]
  simp only[UD,UI,XI,not_or]at h
  obtain⟨⟨⟨h1,h2⟩,h3⟩,h4⟩:=h
  have hbig:l.big=false:=by unfold aa.big;simp only[UY,decide_eq_false_iff_not];exact⟨h3,by simpa using h4⟩
  have:=zH l.parts ih (dep+1) (c+1,max d dep,false) rfl (by simp only[];omega) (by simp only[];omega) (by omega) (by simp only[];omega)
  simp only[]at this
  rw[hbig,UD]
  refine⟨⟨λh=> ?_,λh=>this.1.2 ⟨by omega,by omega,h.2.2⟩⟩,λh=> ?_⟩
  ·obtain⟨c1,c2,c3⟩:=this.1.1 h
   exact⟨by omega,by omega,c3⟩
  ·obtain⟨c1,c2⟩:=this.2 h
   exact⟨by omega,by omega⟩
def aa.large(l:aa):Bool:=decide (l.all.length>60)||decide (l.depth>5)||l.all.any aa.big
def jx(l:aa):Int:=if(l.large||decide (l.cells>4096))=true then 3 else if l.right=true then 0 else 1
theorem Bm(l:aa):(l.look 1 0 0 false).2.2=l.large:=by
 have:=(Eg l 1 0 0 (by omega)).1
 cases hb:(l.look 1 0 0 false).2.2 with
 |false=>
  obtain⟨a1,a2,a3⟩:=this.1 hb
  unfold aa.large
  rw[a3,decide_eq_false (by omega),decide_eq_false (by omega)];rfl
 |true=>
  cases hl:l.large with
  |true=>rfl
  |false=>
   unfold aa.large at hl
   simp only[UY,decide_eq_false_iff_not]at hl
   have:=this.2 ⟨by omega,by omega,hl.2⟩
   rw[hb]at this;cases this
theorem t_{l:aa}(h:l.large=false):l.arr:=by
 unfold aa.large at h
 simp only[UY]at h
 intro q hq hk
 have h1:=W5.1 h.2 q hq
 unfold aa.big aa.big1 at h1
 simp[hk]at h1
 omega
def CZ(p:aa):Bool:=decide ((p.parts.length:Int)>12)||decide (p.n>uX p.kind)||(p.kind==9&&decide (js p.parts>64))
theorem Kd(p:aa)(hp:p.fit):CZ p=p.big:=by
 unfold CZ aa.big
 rw[Xt]
 congr 1
 unfold aa.big1 uX
 have h1:=hp.2.1.2
 have h2:=BX p.parts
 have h3:far=1099511627776:=rfl
 have h4:=gn p.parts
 by_cases k2:p.kind=2
 ·simp[k2]
 by_cases k5:p.kind=5
 ·simp[k5]
 by_cases k7:p.kind=7
 ·simp[k7]
 by_cases k9:p.kind=9
 ·simp[k9]
  rw[Bool.eq_iff_iff];simp;omega
 ·rw[beq_eq_false_iff_ne.2 k2,beq_eq_false_iff_ne.2 k5,beq_eq_false_iff_ne.2 k7,beq_eq_false_iff_ne.2 k9]
  simp[k2,k5,k7];omega
theorem aa.all_all:∀l q:aa,q∈l.all->∀r∈q.all,r∈l.all:=by
 refine aa.ind λl ih q hq r hr=> ?_
 rw[l.all_eq]at hq⊢
 rcases Um.1 hq with rfl|hq
 ·rw[q.all_eq]at hr;exact hr
 ·refine Ua _ ?_
  have:∀ps:List aa,(∀p∈ps,∀q∈p.all,∀r∈q.all,r∈p.all)->q∈aa.allL ps->r∈aa.allL ps:=by
   intro ps
   induction ps with
   |nil=>intro _ h;simp[aa.allL]at h
   |cons p rr ih2=>
    intro hp h
    rw[aa.allL,Ur]at h⊢
    rcases h with h|h
    ·exact .inl (hp p Uf q h r hr)
    ·exact .inr (ih2 (λp' hp'=>hp p' (Ua _ hp')) h)
  exact this l.parts ih hq
theorem aa.Fits.mem{l q:aa}(hl:l.Fits)(hq:q∈l.all):q.Fits:=λr hr=>hl r (aa.all_all l q hq r hr)
def z_(s:List Int×Int×Int)(q:Int×Int):List Int×Int×Int:=(s.1++[upS s.2.1 q.2],upS s.2.1 q.2+q.1,max s.2.2 q.2)
def Og(qs:List (Int×Int)):List Int×Int×Int:=
 ((qs.foldl z_ ([],0,1)).1,upS (qs.foldl z_ ([],0,1)).2.1 (qs.foldl z_ ([],0,1)).2.2,(qs.foldl z_ ([],0,1)).2.2)
def On(o p:Int×Int):Int×Int:=(max o.1 p.1,max o.2 p.2)
def Gv(qs:List (Int×Int)):Int×Int:=qs.foldl On (0,1)
def ofS(w k n:Int)(ps:List aa)(qs:List (Int×Int)):Int×Int:=
 if k=0 then(0,1)else if k=1 then(1,1)else if k=2 then(max 1 (Ah n),min (max 1 (Ah n)) w)else if k=3 then(w,w)
 else if k=4 then(upS ((qs.headD (0,1)).1+1) (qs.headD (0,1)).2,(qs.headD (0,1)).2)
 else if k=5 then(n *(qs.headD (0,1)).1,(qs.headD (0,1)).2)
 else if k=6 then(Og qs).2
 else if k=7 then(if n<=256 then(1,1)else(2,min 2 w))
 else if k=8 then(upS ((Gv qs).1+1) (Gv qs).2,(Gv qs).2)
 else(Ah (c6 ps),max 1 (min (Ah (c6 ps)) w))
mutual
def aa.of(w:Int):aa->Int×Int
 | .mk k n _ ps=>ofS w k n ps (aa.ofL w ps)
def aa.ofL(w:Int):List aa->List (Int×Int)
 |[]=>[]
 |p::r=>aa.of w p::aa.ofL w r
end
structure aa.Val (w:Int) (l:aa):Prop where
 fits:l.Fits
 right:l.right=true
 big:l.all.any aa.big=false
 size:∀q∈l.all,(q.of w).1<=100000000000
theorem aa.mem_self(l:aa):l∈l.all:=by rw[l.all_eq];exact Uf
structure aa.Fine (l:aa):Prop where
 fits:l.Fits
 count:l.all.length<=10000
 deep:l.depth<=10000
end Go.Proofs.YtpelkenpapfadaaGreatDoor
end
section
namespace Go.Tx
open Go.Awp
variable [Inhabited GMem]
theorem gr.pure{P:Program}{f:FuncId}{args:List H}{r:H}(hc:dY P f=true)
 (h:∀(E:Env) (M:Mem) (w:World) (vs:Array Value),GOk M w->(∀b o v,M b o=some v->w.cell? ⟨b,o,none⟩=some v)->eU E M vs args->
   Calls P f vs w λe w'=>∃v,e= .returned v/\aL E M v r/\Go.RowKit.Below w.heap.size w w'):gr P f args [] r []:=by
 refine⟨hc,λE M w vs hgm hm _ hvs=>(h E M w vs hgm hm hvs).mono ?_⟩
 rintro e w' ⟨v,rfl,hr,hb⟩
 refine⟨v,E,M,rfl,{rep:=hr,owns:=⟨λn o hn=>by simp[gt]at hn,λn m o o' b _ hn=>by simp[gt]at hn⟩,mle:=Mem.le_refl _,mem:=λb o v hv=> ?_,mnew:=λb o v hv=> .inl hv,home:=λn o b hn=>by simp[gt]at hn,frame:=λk hk _=>hb.block k hk,grows:=hb.size,os:=hb.os,tape:=hb.tape,output:=hb.output,env:=λ_ _=>rfl}⟩
 have h1:=hm b o v hv
 have hlt:=World.block_lt_of_cell? w (a:=⟨b,o,none⟩) h1
 rw[<-h1]
 exact World.cell?_of_block (a:=⟨b,o,none⟩) (hb.block b hlt)
theorem gD{E:Env}{M:Mem}{vs:Array Value}{a:H}(h:eU E M vs [a]):∃v,vs= #[v]/\aL E M v a:=by
 obtain⟨h1,h2⟩:=h
 match vs,h1 with
 |⟨[v]⟩,_=>exact⟨v,rfl,h2 0 v a rfl rfl⟩
theorem pg{E:Env}{M:Mem}{vs:Array Value}{a b:H}(h:eU E M vs [a,b]):∃v u,vs= #[v,u]/\aL E M v a/\aL E M u b:=by
 obtain⟨h1,h2⟩:=h
 match vs,h1 with
 |⟨[v,u]⟩,_=>exact⟨v,u,rfl,h2 0 v a rfl rfl,h2 1 u b rfl rfl⟩
theorem IG{E:Env}{M:Mem}{v:Value}{xs:List ByteArray}(h:aL E M v (.d (.sl 1 (xs.map λy=>[D.v (.string y)])))):
 (xs=[]/\∃a c,v= .slice a 0 c)\/∃b off c,xs≠[]/\v= .slice (some ⟨b,off,none⟩) xs.length c/\xs.length<=c/\∀(j:Nat) x,xs[j]?=some x->M b (off+j)=some (.string x):=by
 cases h with
 |d h=>
  generalize hr:(xs.map λy=>[D.v (.string y)])=rows at h
  cases h with
  |slnil=>exact .inl ⟨by simpa using hr,none,0,rfl⟩
  |slmt a cap=>exact .inl ⟨by simpa using hr,some a,cap,rfl⟩
  |sl b off len cap _ _ c hlen hcap hsz hm hh=>
   subst hr
   rw[Ug]at hlen
   subst hlen
   by_cases he:xs=[]
   ·subst he;exact .inl ⟨rfl,_,cap,rfl⟩
   ·refine .inr ⟨b,off,cap,he,rfl,hcap,λj x hj=> ?_⟩
    have hlt:j<xs.length:=(Uc.1 hj).1
    have h1:=hm j (by omega)
    have h2:=hh j 0 [D.v (.string x)] (.v (.string x)) (by simp[hj]) rfl
    simp only[WX,UF]at h2
    rw[h1]
    generalize hq:c j=q at h2
    cases h2
    rfl
theorem D3{E:Env}{M:Mem}{k k':IntKind}{a b:Int}:aL E M (.tuple #[.int k a, .int k' b]) (.tup [.d (.v (.int k a)), .d (.v (.int k' b))]):=
 .tup _ _ rfl λi c x hc hx=>by
  match i with
  |0=>simp at hc hx;subst hc;subst hx;exact .d (.v _)
  |1=>simp at hc hx;subst hc;subst hx;exact .d (.v _)
  |i+2=>simp at hc
theorem gr.copyCheck{P:Program}{f:FuncId}{T:TypeId}{rest:List D}(hc:dY P f=true)
 (fresh:∀(b:Nat) (w:World),w.cell? ⟨b,0,none⟩=some (.pointer none)->w.shape? b=some (T,rest.length+2)->w.frozen? ⟨b,0,none⟩=false->
   Calls P f #[.pointer (some ⟨b,0,none⟩)] w λe w'=>e= .returned (.tuple #[])/\w'=w.setCell ⟨b,0,none⟩ (.pointer (some ⟨b,0,none⟩)))
 (used:∀(b:Nat) (w:World),w.cell? ⟨b,0,none⟩=some (.pointer (some ⟨b,0,none⟩))->
   Calls P f #[.pointer (some ⟨b,0,none⟩)] w λe w'=>e= .returned (.tuple #[])/\w'=w)
 {g m c l:Nat}{bl:Bool}{e sz:Nat}{rows:List (List D)}(hgm:g≠m)(hgc:g≠c)(hcg:c<given):
 gr P f [.bp g 0] [(g, .box (some T) (.np g bl:: .vh m l::rest.map H.d)),(m, .vec e sz rows)] (.tup []) [(g, .box (some T) (.np g true:: .vh c l::rest.map H.d)),(c, .vec e sz rows)]:=by
 refine⟨hc,λE M w vs _ hm how hvs=> ?_⟩
 obtain⟨v,rfl,hv⟩:=gD hvs
 have g1:gt [(g,Own.box (some T) (H.np g bl::H.vh m l::rest.map H.d)),(m,Own.vec e sz rows)] g=some (.box (some T) (.np g bl:: .vh m l::rest.map H.d)):=by simp[gt]
 have g2:gt [(g,Own.box (some T) (H.np g bl::H.vh m l::rest.map H.d)),(m,Own.vec e sz rows)] m=some (.vec e sz rows):=by simp[gt,hgm]
 have o1:=how.ok g _ g1
 have o2:=how.ok m _ g2
 obtain⟨b,cs,ty,k1,k2,k3,k4,k5,k6⟩:=o1
 have hty:=k6 T rfl
 subst hty
 cases hv with
 |bp n off b' hE=>
 rw[hE]at k1;cases k1
 obtain⟨p,q,rs,rfl⟩:∃p q rs,cs=⟨p::q::rs⟩:=by
  match cs,k3 with
  |⟨p::q::rs⟩,_=>exact⟨p,q,rs,rfl⟩
 have hrs:rs.length=rest.length:=by simpa using k3
 have hp:=k4 0 p (.np g bl) rfl rfl
 have hq:=k4 1 q (.vh m l) rfl rfl
 have hcell:∀u,w.cell? ⟨b,0,none⟩=some u↔p=u:=λu=>by simp[World.cell?,k2]
 have hsh:w.shape? b=some (ty,rest.length+2):=by simp[World.shape?,k2,hrs]
 have hfz:w.frozen? ⟨b,0,none⟩=false:=by simp[World.frozen?,k2]
 have hblt:b<w.heap.size:=(Uq.1 k2).1
 have hapart:∀b',aj (E m)=some b'->b'≠b:=λb' hb' he=>by
  subst he
  exact how.apart g m _ _ b' hgm g1 g2 (by rw[hE];rfl) hb'
 let E':Env:=λn=>if n=c then E m else E n
 have hE':∀n,n≠c->E' n=E n:=λn hn=>by simp[E',hn]
 have hEc:E' c=E m:=by simp[E']
 have hEg:E' g= .pointer (some ⟨b,0,none⟩):=by rw[hE' g hgc];exact hE
 have fin:∀w',w'.heap=w.heap.setIfInBounds b (.cells ⟨.pointer (some ⟨b,0,none⟩)::q::rs⟩ ty (0,0))->w'.os=w.os->w'.tape=w.tape->w'.output=w.output->
  ng E M [(g, .box (some ty) (.np g bl:: .vh m l::rest.map H.d)),(m, .vec e sz rows)] w (.tuple #[]) (.tup []) [(g, .box (some ty) (.np g true:: .vh c l::rest.map H.d)),(c, .vec e sz rows)] E' M w':=by
  intro w' hh h1 h2 h3
  have hother:∀k,k≠b->w'.heap[k]?=w.heap[k]?:=λk hk=>by
   rw[hh,U3 (λe=>hk e.symm)]
  have hft:∀n o bb,gt [(g,Own.box (some ty) (H.np g true::H.vh c l::rest.map H.d)),(c,Own.vec e sz rows)] n=some o->o.foot w' (E' n) bb->aj (E' n)=some bb:=by
   intro n o bb hn hb
   rw[ah]at hn
   by_cases hgn:g=n
   ·rw[XK hgn]at hn;cases hn;exact hb
   ·rw[XJ hgn,ah]at hn
    by_cases hcn:c=n
    ·rw[XK hcn]at hn;cases hn;exact hb
    ·rw[XJ hcn]at hn;simp[gt]at hn
  have hblk:∀n o bb,gt [(g,Own.box (some ty) (H.np g true::H.vh c l::rest.map H.d)),(c,Own.vec e sz rows)] n=some o->aj (E' n)=some bb->(n=g/\bb=b)\/(n=c/\aj (E m)=some bb):=by
   intro n o bb hn hb
   rw[ah]at hn
   by_cases hgn:g=n
   ·subst hgn;rw[hEg]at hb;left;exact⟨rfl,by simpa[aj]using hb.symm⟩
   ·rw[XJ hgn,ah]at hn
    by_cases hcn:c=n
    ·subst hcn;rw[hEc]at hb;right;exact⟨rfl,hb⟩
    ·rw[XJ hcn]at hn;simp[gt]at hn
  refine{rep:= .tup #[] [] rfl (λi c x hc=>by simp at hc),owns:=⟨λn o hn=> ?_,λn n' o o' bb hne hn hn' hb hb'=> ?_⟩,mle:=Mem.le_refl _,mem:=λbb o v hv=> ?_,mnew:=λbb o v hv=> .inl hv,home:=λn o bb hn hb=> ?_,frame:=λk hk hx=> ?_,grows:= ?_,os:=h1,tape:=h2,output:=h3,env:=λn hn=> ?_}
  ·rw[ah]at hn
   by_cases hgn:g=n
   ·subst hgn
    rw[XK rfl]at hn;cases hn
    refine⟨b,⟨.pointer (some ⟨b,0,none⟩)::q::rs⟩,ty,hEg,by rw[hh];simp[hblt],by simp[hrs],λi x y hx hy=> ?_,k5,λt ht=>by cases ht;rfl⟩
    match i with
    |0=>simp at hx hy;subst hx;subst hy;exact .np1 g b hEg
    |1=>
     simp at hx hy;subst hx;subst hy
     cases hq with
     |vh _ len l' cc ad hEm hl=>exact aL.vh c l l' cc ad (hEc.trans hEm) hl
    |i+2=>
     have hr:=k4 (i+2) x y (by simpa using hx) (by simpa using hy)
     have hy':(rest.map H.d)[i]?=some y:=by simpa using hy
     rw[Ue,Ul]at hy'
     obtain⟨d,_,rfl⟩:=hy'
     cases hr with
     |d hd=>exact .d hd
   ·rw[XJ hgn,ah]at hn
    by_cases hcn:c=n
    ·subst hcn
     rw[XK rfl]at hn;cases hn
     have:=o2.keep (E':=E) (M':=M) (w':=w') rfl (λb' hb'=>hother b' (hapart b' hb')) (λ_ _=>rfl) (Mem.le_refl _) λb' hb'=>(o2.block hb').2
     obtain⟨xs,y1,y2,y3,y4⟩:=this
     exact⟨xs,by rw[hEc];exact y1,y2,y3,by rw[hEc];exact y4⟩
    ·rw[XJ hcn]at hn;simp[gt]at hn
  ·rcases hblk n o bb hn (hft n o bb hn hb)with⟨rfl,rfl⟩|⟨rfl,h4⟩
   ·rcases hblk n' o' bb hn' (hft n' o' bb hn' hb')with⟨rfl,_⟩|⟨rfl,h5⟩
    ·exact hne rfl
    ·exact hapart bb h5 rfl
   ·rcases hblk n' o' bb hn' (hft n' o' bb hn' hb')with⟨rfl,rfl⟩|⟨rfl,h5⟩
    ·exact hapart bb h4 rfl
    ·exact hne rfl
  ·have h4:=hm bb o v hv
   have hne:bb≠b:=by rintro rfl;rw[k5 o]at hv;cases hv
   rw[<-h4]
   exact World.cell?_of_block (a:=⟨bb,o,none⟩) (hother bb hne)
  ·rcases hblk n o bb hn (hft n o bb hn hb)with⟨rfl,rfl⟩|⟨rfl,h4⟩
   ·exact .inl ⟨n,_,g1,by rw[hE];rfl⟩
   ·exact .inl ⟨m,_,g2,h4⟩
  ·exact hother k λe=>hx ⟨g,_,g1,by rw[hE,e];rfl⟩
  ·rw[hh];simp
  ·exact hE' n (by omega)
 cases hp with
 |np0=>
  refine(fresh b w ((hcell _).2 rfl) hsh hfz).mono ?_
  rintro e' w' ⟨rfl,rfl⟩
  refine⟨_,E',M,rfl,fin _ ?_ rfl rfl rfl⟩
  simp only[World.setCell]
  apply Array.ext'
  rw[V_]
  apply Vm
  intro k
  simp only[Array.toList_modify,List.getElem?_modify,Vl,Vo,Vj]
  by_cases hk:b=k
  ·subst hk
   have k2':w.heap[b]= .cells ⟨.pointer none::q::rs⟩ ty (0,0):=by rw[UO hblt]at k2;exact VZ k2
   simp[hblt,k2']
  ·simp[hk]
 |np1 _ b' hb'=>
  rw[hE]at hb';cases hb'
  refine(used b w ((hcell _).2 rfl)).mono ?_
  rintro e' w' ⟨rfl,rfl⟩
  refine⟨_,E',M,rfl,fin _ ?_ rfl rfl rfl⟩
  apply Array.ext'
  rw[V_]
  apply Vm
  intro k
  simp only[Vl,Vo,Vj]
  by_cases hk:b=k
  ·subst hk
   rw[k2];simp[hblt]
  ·simp[hk]
section
open Go.Shelf Go.RowKit Go.Proofs
set_option maxHeartbeats 1000000 in
set_option maxRecDepth 100000 in
end
end Go.Tx
end
section
namespace Go.Awp
variable [Inhabited GMem]
def tX(P:Program)(f:FuncId)(args:Array Value)(w:World)(R:Ending->World->Prop):Prop:=∀u,CallsD P f args u w λe u' w'=>u'=u/\R e w'
theorem tX.mono{P:Program}{f:FuncId}{args:Array Value}{w:World}{R R':Ending->World->Prop}(h:tX P f args w R)(hr:∀e w',R e w'->R' e w'):tX P f args w R':=
 λu=>(h u).mono λe u' w' ⟨a,b⟩=>⟨a,hr e w' b⟩
def C5(P:Program)(f:FuncId)(args:List H)(own:List (Nat×Own))(r:H)(own':List (Nat×Own)):Prop:=
 dY P f=true/\∀(E:Env) (M:Mem) (w:World) (vs:Array Value),GOk M w->(∀b o v,M b o=some v->w.cell? ⟨b,o,none⟩=some v)->CY E M w own->eU E M vs args->
  tX P f vs w λe w'=>∃v E' M',e= .returned v/\ng E M own w v r own' E' M' w'
def AC(P:Program)(f:FuncId)(args:List H)(own:List (Nat×Own))(r:H)(own':List (Nat×Own)):Prop:=
 dY P f=true/\∀(E:Env) (M:Mem) (w:World) (vs:Array Value),GOk M w->(∀b o v,M b o=some v->w.cell? ⟨b,o,none⟩=some v)->CY E M w own->eU E M vs args->
  tX P f vs w λe w'=>∃v E' M',e= .returned v/\ng E M own w v r own' E' M' w'/\∀n,(gt own' n=none\/∃o,gt own n=some o)->E' n=E n
def Mc(P:Program)(f:FuncId)(args:List H)(ω:Nat->Option Own)(k:Eff->Prop):Prop:=
 ∃own r own',AC P f args own r own'/\(∀p∈own,ω p.1=some p.2)/\k (dJ r own own')
open Classical in
theorem C5.ren{P:Program}{f:FuncId}{args:List H}{own own':List (Nat×Own)}{r:H}(h:C5 P f args own r own')(σ:List (Nat×Nat))(hc:BR σ own r own'=true):
 AC P f (H.renL (σf σ) args) (qE (σf σ) own) (r.ren (σf σ)) (qE (σf σ) own'):=by
 simp only[BR,Uk,Uo]at hc
 obtain⟨⟨⟨⟨c1,c2⟩,c3⟩,c4⟩,c5⟩:=hc
 have hf:=σf_inj c1
 refine⟨h.1,λE M w vs hgm hm how hvs=> ?_⟩
 refine(h.2 (λn=>E (σf σ n)) M w vs hgm hm ⟨λn o hn=> ?_,λn m o o' b hne hn hm' hb hb2=> ?_⟩ ⟨?_,λi c x hc hx=> ?_⟩).mono ?_
 ·exact(how.ok _ _ (by rw[d6 hf,hn];rfl)).unren
 ·refine how.apart (σf σ n) (σf σ m) (o.ren (σf σ)) (o'.ren (σf σ)) b (λe=>hne (hf _ _ e)) (by rw[d6 hf,hn];rfl) (by rw[d6 hf,hm'];rfl) ?_ ?_
  ·rw[Own.ren_foot];exact hb
  ·rw[Own.ren_foot];exact hb2
 ·rw[hvs.1,H.renL_len]
 ·exact(hvs.2 i c _ hc (by rw[H.renL_get,hx];rfl)).unren rfl
 rintro e w' ⟨v,E2,M2,rfl,hp⟩
 let E':Env:=λn=>if h:∃m,σf σ m=n/\m<given/\gt own' m≠none then E2 (Classical.choose h)else E n
 have hE1:∀m,given<=m\/gt own' m≠none->E' (σf σ m)=E2 m:=by
  intro m hm'
  by_cases hlt:m<given
  ·have hm2:gt own' m≠none:=by rcases hm' with h1|h1;(omega);exact h1
   have hex:∃m',σf σ m'=σf σ m/\m'<given/\gt own' m'≠none:=⟨m,rfl,hlt,hm2⟩
   simp only[E']
   rw[dif_pos hex]
   exact congrArg E2 (hf _ _ (Xo hex).1)
  ·have hex:¬∃m',σf σ m'=σf σ m/\m'<given/\gt own' m'≠none:=by
    rintro⟨m',he,hl,_⟩
    have:=hf _ _ he
    omega
   simp only[E']
   rw[dif_neg hex]
   exact(hp.env m (by omega)).symm
 have hE2:∀n,(¬∃m,σf σ m=n/\m<given/\gt own' m≠none)->E' n=E n:=λn hn=>by simp only[E'];rw[dif_neg hn]
 have hpn:∀n,(V7 given n||(gt own' n).isSome)=true->given<=n\/gt own' n≠none:=by
  intro n hn
  rw[UI]at hn
  rcases hn with hn|hn
  ·exact .inl (Vn hn)
  ·exact .inr λe=>by rw[e]at hn;cases hn
 have hext:∀b,gE (λn=>E (σf σ n)) w own b->gE E w (qE (σf σ) own) b:=by
  rintro b ⟨n,o,hn,hb⟩
  exact⟨σf σ n,o.ren (σf σ),by rw[d6 hf,hn];rfl,by rw[Own.ren_foot];exact hb⟩
 have hblk:∀n o,gt own' n=some o->E' (σf σ n)=E2 n:=λn o hn=>hE1 n (.inr (by rw[hn];simp))
 refine⟨v,E',M2,rfl,{rep:=hp.rep.ren λn hn=>hE1 n (hpn n (H.allN_has c4 hn)),owns:=⟨λn o hn=> ?_,λn m o o' b hne hn hm' hb hb2=> ?_⟩,mle:=hp.mle,mem:=hp.mem,mnew:=λb o v hv=> ?_,home:=λn o b hn hb=> ?_,frame:=λk hk hx=>hp.frame k hk λh1=>hx (hext k h1),grows:=hp.grows,os:=hp.os,tape:=hp.tape,output:=hp.output,env:=λn hn=>hE2 n ?_},λn hn=>hE2 n ?_⟩
 ·obtain⟨m,o1,rfl,hg,rfl⟩:=bx hf hn
  refine(hp.owns.ok m o1 hg).ren (hblk m o1 hg) λk hk=>hE1 k (hpn k ?_)
  have:=c5 _ (bc hg)
  cases o1 with
  |box oty cells=>exact H.allNL_has this hk
  |vec e sz rows=>simp[Own.has]at hk
  |map es=>simp[Own.has]at hk
  |iter s pos=>simp[Own.has]at hk
  |dvec e sz rows=>simp[Own.has]at hk
  |miter m es rest cur=>simp only[Own.has]at hk;exact(US hk)▸this
 ·obtain⟨n1,o1,rfl,hg1,rfl⟩:=bx hf hn
  obtain⟨m1,o2,rfl,hg2,rfl⟩:=bx hf hm'
  rw[hblk n1 o1 hg1,Own.ren_foot]at hb
  rw[hblk m1 o2 hg2,Own.ren_foot]at hb2
  exact hp.owns.apart n1 m1 _ _ b (λe=>hne (by rw[e])) hg1 hg2 hb hb2
 ·rcases hp.mnew b o v hv with h1|h1|h1
  ·exact .inl h1
  ·exact .inr (.inl (hext b h1))
  ·exact .inr (.inr h1)
 ·obtain⟨m,o1,rfl,hg,rfl⟩:=bx hf hn
  rw[hblk m o1 hg,Own.ren_foot]at hb
  rcases hp.home m o1 b hg hb with h1|h1
  ·exact .inl (hext b h1)
  ·exact .inr h1
 ·rintro⟨m,rfl,hl,hne⟩
  cases hg:gt own' m with
  |none=>exact hne hg
  |some o=>
   have:=c3 _ (bc hg)
   simp only[UI]at this
   rcases this with h1|h1
   ·have:=Vn h1;omega
   ·have:σf σ m<given:=by simpa[VG]using h1
    omega
 ·rintro⟨m,rfl,hl,hne⟩
  rcases hn with hn|⟨o,ho⟩
  ·rw[d6 hf]at hn
   cases hg:gt own' m with
   |none=>exact hne hg
   |some o=>rw[hg]at hn;cases hn
  ·obtain⟨n1,o1,he,hg,_⟩:=bx hf ho
   have:=hf _ _ he
   subst this
   have:=Vn (c2 _ (bc hg))
   simp only[]at this
   omega
end Go.Awp
namespace Go.Tx
open Go.Awp
variable [Inhabited GMem]
theorem AC.weak{P:Program}{f:FuncId}{args args':List H}{own own1 own':List (Nat×Own)}{r:H}(h:AC P f args own r own')
 (ha:∀E M vs,eU E M vs args'->eU E M vs args)(ho:∀E M w,CY E M w own1->CY E M w own)(hk:∀n,(∃o,gt own n=some o)↔∃o,gt own1 n=some o)
 (hf:∀E M w,CY E M w own1->∀b,gE E w own b->gE E w own1 b):AC P f args' own1 r own':=by
 refine⟨h.1,λE M w vs hgm hm how hvs=>(h.2 E M w vs hgm hm (ho E M w how) (ha E M vs hvs)).mono ?_⟩
 have hin:∀b,gE E w own b->gE E w own1 b:=hf E M w how
 rintro e w' ⟨v,E',M',rfl,hp,hE⟩
 refine⟨v,E',M',rfl,{hp with mnew:=λb o v hv=> ?_,home:=λn o b hn hb=> ?_,frame:=λk hk hx=>hp.frame k hk λh1=>hx (hin k h1)},λn hn=>hE n ?_⟩
 ·rcases hp.mnew b o v hv with h1|h1|h1
  ·exact .inl h1
  ·exact .inr (.inl (hin b h1))
  ·exact .inr (.inr h1)
 ·rcases hp.home n o b hn hb with h1|h1
  ·exact .inl (hin b h1)
  ·exact .inr h1
 ·rcases hn with hn|hn
  ·exact .inl hn
  ·exact .inr ((hk n).2 hn)
theorem xL{P:Program}{f:FuncId}{fn:Func}{c:Code}{args:List H}{own own':List (Nat×Own)}{r:H}(hf:P.funcs[f]?=some fn)(hb:fn.body=some c)
 (hname:(fn.name != "runtime.NumGoroutine")=true)(hn:args.length<=fn.ntmps)
 (h:∀C:Ctx,C.P=P->C.N=fn.ntmps/\C.fix=[]->AWp C c ⟨gh 0 args,ku own⟩ (tY P fn.results.toList r own')):C5 P f args own r own':=by
 refine⟨by simp[dY,hf,hb,hname],λE M w vs hgm hm how hvs=> ?_⟩
 intro u;refine callsD_of_wp hf hb ?_
 let C:Ctx:=⟨P,fn.ntmps,w,M,E,gE E w own,hgm,λb ⟨n,o,hn,hb⟩=>((how.ok n o hn).block hb).2,[],[]⟩
 have hs:Sim C E M ⟨gh 0 args,ku own⟩ {tmps:=vs++VM (fn.ntmps-vs.size) undef,defers:=[]} w:=by
  have hvs1:=hvs.1
  refine{size:=by simp[C];omega,defers:=rfl,fixed:=λp hp=>(by cases hp),tmps:=λt x hx=> ?_,mem:=hm,own:=λn o ho=> ?_,apart:=λn m o o' b hne ho ho'=> ?_,home:=λn o b ho hb=> ?_,m0:=Mem.le_refl M,mnew:=λb o v hv=> .inl hv,frame:=λ_ _ _=>rfl,grows:=Us _,os:=rfl,tape:=rfl,output:=rfl,env:=λ_ _=>rfl}
  ·obtain⟨_,h2⟩:=lJ args 0 t x hx
   simp only[W9]at h2
   have hlt:t<vs.size:=by have:=(Uc.1 h2).1;omega
   exact⟨vs[t],by simp[Wa hlt,hlt],hvs.2 t _ x (UO hlt) h2⟩
  ·have ho':gt own n=some o:=by rw[<-bJ];exact ho
   exact how.ok n o ho'
  ·have h1:gt own n=some o:=by rw[<-bJ];exact ho
   have h2:gt own m=some o':=by rw[<-bJ];exact ho'
   exact how.apart n m o o' b hne h1 h2
  ·have h1:gt own n=some o:=by rw[<-bJ];exact ho
   exact .inl ⟨n,o,h1,hb⟩
 refine wp_mono (h C rfl ⟨rfl,rfl⟩ E M _ w hs) ?_
 rintro e a' w' ⟨S',E',M',⟨he,S'',hent,hh,hres,hle,hown⟩,hs'⟩
 obtain⟨E2,M2,hs2⟩:=hent C E' M' a' w' hs'
 obtain⟨v,hrun,hrep⟩:=tF (C:=C) hs2 hres
 have hpost:ng E M own w v r own' E2 M2 w':=
  {rep:=hle _ _ _ hrep,owns:=⟨λn o ho=>hs2.own n o (hown n o ho),λn m o o' b hne h1 h2=>hs2.apart n m o o' b hne (hown n o h1) (hown m o' h2)⟩,mle:=hs2.m0,mem:=hs2.mem,mnew:=hs2.mnew,home:=λn o b ho hb=>hs2.home n o b (hown n o ho) hb,frame:=hs2.frame,grows:=hs2.grows,os:=hs2.os,tape:=hs2.tape,output:=hs2.output,env:=hs2.env}
 rcases he with rfl|rfl
 ·exact⟨hs2.defers,v,hrun,v,E2,M2,rfl,hpost⟩
 ·exact⟨hs2.defers,v,hrun,v,E2,M2,rfl,hpost⟩
section
variable {V:mz}
def C7(P:Program)(fid:FuncId)(sig:Sig V)(F:HL V.N sig.tys->Option (HL V.N sig.rcut.tys)):Prop:=
 ∀v r x,F v=some r->qF P sig r=some x->
  C5 P fid (encL V (az sig v).len (aX sig v).1) (bt (az sig v).len (az sig v).own) (an V (bV V sig.rcut r).len x) (bt (bV V sig.rcut r).len (jJ sig r))
theorem Nb{X:Xc V}{sig:Sig V}(hsh:X.sh.rcut=sig.rcut){fid:FuncId}{fn:Func}{c:Code}(hf:X.P.funcs[fid]?=some fn)(hb:fn.body=some c)(hn:fn.ntmps=X.n)(hrs:fn.results.toList=sig.rvars)
 (hname:(fn.name != "runtime.NumGoroutine")=true)(hlen:V7 sig.params.length X.n=true)(hm:X.P.follows .mixedOrders=true)(hcall:ay X.P X.call)
 (hdr:dr (sig.rcut.objs.map (·.1))=true)(hl:∀C:Ctx,C.P=X.P->C.N=X.n/\Fx C X.pre->LOk C X c){v:HL V.N sig.tys}{r:HL V.N sig.rcut.tys}(h:exF X sig hsh c v=some r):
 ∀x,qF X.P sig r=some x->
  C5 X.P fid (encL V (az sig v).len (aX sig v).1) (bt (az sig v).len (az sig v).own) (an V (bV V sig.rcut r).len x) (bt (bV V sig.rcut r).len (jJ sig r)):=by
 obtain⟨params,objs,rcut,rvars,keep⟩:=sig
 simp only at hsh
 subst hsh
 intro x hx
 have hargs:(aX ⟨params,objs,X.sh.rcut,rvars,keep⟩ v).1.length<=X.n:=by
  have hp:params.length<=X.n:=Vn hlen
  unfold aX
  split
  ·rename_i xs ls h1
   split
   ·simp only;rw[sw h1];exact hp
   ·simp
  ·simp
 refine xL hf hb hname (by rw[aG,hn];exact hargs) λC hP hN=> ?_
 have hent:Ent ⟨gh 0 (encL V (az ⟨params,objs,X.sh.rcut,rvars,keep⟩ v).len (aX ⟨params,objs,X.sh.rcut,rvars,keep⟩ v).1),ku (bt (az ⟨params,objs,X.sh.rcut,rvars,keep⟩ v).len (az ⟨params,objs,X.sh.rcut,rvars,keep⟩ v).own)⟩
  (aH V (az ⟨params,objs,X.sh.rcut,rvars,keep⟩ v)):=by
  refine Ent.le (λt y hy=>⟨y,?_,H.le.refl _⟩) λn o ho=>⟨o,?_,OLe.refl _⟩
  ·rw[iC];exact hy
  ·rw[aM,Vw]at ho
   obtain⟨o',ho',hoo⟩:=ho
   have:=gd (os:=(az ⟨params,objs,X.sh.rcut,rvars,keep⟩ v).own) ho' hoo
   unfold ae.own?
   rw[bJ]
   exact this
 have hend:∀e σ,(e= .normal\/e= .ret)->Ent σ (aH V (bV V X.sh.rcut r))->
  tY X.P fn.results.toList (an V (bV V X.sh.rcut r).len x) (bt (bV V X.sh.rcut r).len (jJ ⟨params,objs,X.sh.rcut,rvars,keep⟩ r)) e σ:=by
  intro e σ he hσ
  unfold qF at hx
  rw[Ul]at hx
  obtain⟨vs,hvs,hone⟩:=hx
  obtain⟨hs,g1,g2,g3⟩:=jQ hvs
  have hh:∃y,Iy X.P (aH V (bV V X.sh.rcut r)) fn.results.toList=some y/\H.le y (an V (bV V X.sh.rcut r).len x):=by
   rw[hrs]
   unfold Iy
   rw[g1]
   cases vs with
   |nil=>
    have:hs=[]:=UE (by simpa using g2)
    subst this;subst hone
    exact⟨.tup [],rfl,by simp only[Ln,an,encL];exact H.le.refl _⟩
   |cons a l=>
    cases l with
    |nil=>
     cases hs with
     |nil=>simp at g2
     |cons y l'=>
      have:l'=[]:=UE (by simpa using g2)
      subst this;subst hone
      obtain⟨z,z1,z2⟩:=g3 0 a rfl
      simp at z1;subst z1
      exact⟨y,rfl,z2⟩
    |cons b l=>
     cases hs with
     |nil=>simp at g2
     |cons y l'=>
      cases l' with
      |nil=>simp at g2
      |cons y2 l2=>
       subst hone
       refine⟨.tup (y::y2::l2),rfl,?_⟩
       simp only[Ln,an]
       refine wb (by rw[aG];exact g2) λi w hw=> ?_
       rw[encL_map,Ue,Ul]at hw
       obtain⟨u,hu,rfl⟩:=hw
       exact g3 i u hu
  obtain⟨y,hy1,hy2⟩:=hh
  refine⟨he,_,hσ,y,hy1,hy2,λn o ho=> ?_⟩
  obtain⟨o',h1,h2⟩:=cE ho
  have h1:(n,o')∈(bV V X.sh.rcut r).own:=(Wz.1 h1).1
  have:=hI (kC X.sh.rcut _ hdr) h1
  rw[aM]
  unfold TS.own?
  unfold bV at *
  rw[this]
  exact h2
 refine .ent hent (hG hP ⟨by rw[hN.1,hn],λp hp=>(by rw[hN.2]at hp;cases hp)⟩ hm hcall c _ _ _ _ _ r _ (hl C hP ⟨by rw[hN.1,hn],λp hp=>(by rw[hN.2]at hp;cases hp)⟩) h ⟨λS σ hk he=> ?_,λid S σ _ hk he=>(by cases hk),λl S σ hk he=>(by cases hk),λw σ hk he=> ?_⟩)
 ·exact hend _ σ (.inl rfl) (Ent.trans he (dD hk))
 ·have:w=r:=by simpa using hk
  subst this
  exact hend _ σ (.inr rfl) he
theorem xx{P:Program}{fid:Nat}{sig:Sig V}{F:HL V.N sig.tys->Option (HL V.N sig.rcut.tys)}(hF:C7 P fid sig F){A:Type}{args:List (TV V.N)}{S:TS V.N}{dst:Option Tmp}
 {k:TE V.N->Option A}{r:A}(h:eP P sig F A args S k=some r):
 ∃te,k te=some r/\good S te/\Mc P fid (encL V S.len args) (aH V S).own? λe'=>ELe true e' (gl (S.app dst te).len te):=by
 unfold eP at h
 split at h
 ·rename_i σ0 l0 h0
  split at h
  ·rename_i σ1 l1 h1
   split at h
   ·rename_i hin
    split at h
    ·rename_i v hv
     obtain⟨y,hy,h⟩:=bB h
     split at h
     ·rename_i x hx
      split at h
      ·rename_i hout
       obtain⟨h,hlens⟩:=lb h
       have hc:=hF v y x hy hx
       have hls:=qt hv
       obtain⟨a1,a2,a3,xs0,a4,a5,a6⟩:=gL h0
       obtain⟨b1,b2,os0,b3,b4,b5,b6⟩:=b9 h1
       have hst:aX sig v=(xs0,os0):=by
        unfold aX
        rw[hls,a5 l1]
        simp only[b4]
       have hS:(az sig v).own=os0:=by unfold az;rw[hst]
       rw[hst,hS]at hc
       have hlen0:∀c o,gt os0 c=some o->(az sig v).len c=TO.len (some o):=by
        intro c o ho
        unfold TS.len TS.own?
        rw[hS,ho]
       generalize (az sig v).len=ω0 at hc hlen0
       generalize hos:jJ sig y=os at h hout hc hlens
       have hlen1:∀c o,gt os c=some o->(bV V sig.rcut y).len c=TO.len (some o):=by
        intro c o ho
        rw[<-hos]at ho
        have:=lI (λn=>sig.keep.contains n) (bV V sig.rcut y).own c o ho
        unfold TS.len TS.own?
        rw[this]
       generalize (bV V sig.rcut y).len=ω1 at hc hlen1
       generalize hτ:eO (80000+S.own.length) σ1 (os.map (·.1))=τ at h hout hlens
       have hsub:∀c n,gt σ1 c=some n->gt τ c=some n:=λc n hcn=>by rw[<-hτ];exact g6 hcn
       simp only[xy,Uk,Uo]at hout
       obtain⟨⟨⟨⟨⟨o1,o2⟩,o3⟩,o4⟩,o5⟩,o6⟩:=hout
       simp only[DI,Uk,Uo]at hin
       obtain⟨⟨i1,i2⟩,i3⟩:=hin
       have hfi:=σf_inj o1
       have hbound:∀p∈sig.objs,∃n o,gt σ1 p.1=some n/\S.own? n=some o/\∃z,bg V S.len o=some z:=by
        intro p hp
        have:p.1∈os0.map (·.1):=by rw[b6];exact Uv hp
        obtain⟨q,hq,hqe⟩:=Uy.1 this
        obtain⟨n,o,q1,q2,_,z,q3,_⟩:=b5 q.1 q.2 hq
        exact⟨n,o,by rw[<-hqe];exact q1,q2,_,q3 S.len⟩
       have hTr:∀E:Env,Tr σ1 sig.objs E (λc=>E (σf τ c)) S.len ω0:=λE=>by
        refine⟨λc n hcn=>by rw[σf_some (hsub c n hcn)],λc n hc' hcn=> ?_⟩
        rw[Vu]at hc'
        obtain⟨p,hp,hpn⟩:=hc'
        have hpn:p.1=c:=by simpa using hpn
        have hm:c∈os0.map (·.1):=by rw[b6,<-hpn];exact Uv hp
        obtain⟨o,ho⟩:=eu hm
        obtain⟨n',o',q1,q2,q3,_⟩:=b5 c o (bc ho)
        rw[hcn]at q1;cases q1
        rw[hlen0 c o ho,q3];unfold TS.len;rw[q2]
       have hob':∀p∈sig.objs,match p.2 with| .box _ ps=>ps.all (wg V sig.objs)=true|_=>True:=by
        intro p hp
        have:=i2 p hp
        cases hq:p.2 with
        |box oty ps=>rw[hq]at this;simpa using this
        |st i=>trivial
        |vec te e=>trivial
        |dvec te e out=>trivial
        |map tk tv=>trivial
        |iter=>trivial
        |miter m k v=>trivial
       have hown:∀n o,gt (sig.objs.filterMap λp=>((S.own? (σf σ1 p.1)).bind (bg V S.len)).map λo=>(σf σ1 p.1,o)) n=some o->(S.own? n).bind (bg V S.len)=some o:=by
        intro n o hn
        obtain⟨p,hp,hpe⟩:=Va.1 (bc hn)
        rw[Ul]at hpe
        obtain⟨o',h1,h2⟩:=hpe
        simp only[UC]at h2
        obtain⟨rfl,rfl⟩:=h2
        exact h1
       have hkeys:∀n,n∈(sig.objs.filterMap λp=>((S.own? (σf σ1 p.1)).bind (bg V S.len)).map λo=>(σf σ1 p.1,o)).map (·.1)↔n∈sig.objs.map λp=>σf σ1 p.1:=by
        intro n
        constructor
        ·intro hn
         obtain⟨q,hq,rfl⟩:=Uy.1 hn
         obtain⟨p,hp,hpe⟩:=Va.1 hq
         rw[Ul]at hpe
         obtain⟨o',h1,h2⟩:=hpe
         rw[<-h2]
         exact Uv (f:=λp=>σf σ1 p.1) hp
        ·intro hn
         obtain⟨p,hp,rfl⟩:=Uy.1 hn
         obtain⟨n,o,q1,q2,z,q3⟩:=hbound p hp
         refine Uy.2 ⟨(σf σ1 p.1,z),Va.2 ⟨p,hp,?_⟩,rfl⟩
         rw[σf_some q1,q2]
         simp[q3]
       have hex:∀n o,gt (qE (σf τ) (bt ω0 os0)) n=some o->∃z,(gt (sig.objs.filterMap λp=>((S.own? (σf σ1 p.1)).bind (bg V S.len)).map λo=>(σf σ1 p.1,o)) n=some z)/\(∀E M w,aY E M w n z->aY E M w n o)/\∀(E:Env) w b,o.foot w (E n) b->z.foot w (E n) b:=by
        intro n o hn
        obtain⟨c,o1,rfl,hg,rfl⟩:=bx hfi hn
        obtain⟨t,ht,hto⟩:=cE hg
        obtain⟨n',oS,q1,q2,_,x4,q4,x',q5,q6,q7⟩:=b5 c t ht
        rw[q5]at hto
        simp only[Ud]at hto;subst hto
        have e:σf τ c=n':=σf_some (hsub _ _ q1)
        have hck:c∈sig.objs.map (·.1):=by rw[<-b6];exact Uv (f:=(·.1)) ht
        obtain⟨p,hp,hpc⟩:=Uy.1 hck
        have hk':=(hkeys n').2 (Uy.2 ⟨p,hp,by rw[hpc];exact σf_some q1⟩)
        obtain⟨z,hz⟩:=eu hk'
        have hz':=hown _ _ hz
        rw[q2]at hz'
        simp only[T0,q4,Ud]at hz'
        rw[e]
        refine⟨z,hz,λE M w hw=> ?_,λE w b hb=> ?_⟩
        ·rw[<-hz']at hw
         have:=(q6 σ1 sig.objs E _ M w S.len ω0 (Sub.refl _) hob' (hTr E) hw).ren (E':=E) (f:=σf τ) rfl λm _=>rfl
         rw[e]at this
         exact this
        ·rw[Own.ren_foot]at hb
         rw[<-hz']
         exact q7 E (λ_=>E n') w S.len ω0 b rfl hb
       have hsome:∀p∈os,∃o,bg V ω1 p.2=some o:=by
        intro p hp
        have:=o4 p hp
        cases hq:p.2 with
        |box oty cells=>exact⟨_,rfl⟩
        |bst i x=>exact⟨_,rfl⟩
        |vec te e xs=>exact⟨_,rfl⟩
        |dvec te e xs=>exact⟨_,rfl⟩
        |pvec te e xs=>exact⟨_,rfl⟩
        |map tk tv es=>exact⟨_,rfl⟩
        |iter s p=>exact⟨_,rfl⟩
        |miter m k v es rest cur=>exact⟨_,rfl⟩
        |gone l=>rw[hq]at this;simp[TO.allN]at this
       have hgos:∀n,(gt os n).isSome=true->(gt (bt ω1 os) n).isSome=true:=by
        intro n hn
        obtain⟨o,ho⟩:=We.1 hn
        obtain⟨z,hz⟩:=hsome _ (bc ho)
        rw[gd ho hz];rfl
       refine⟨_,h,?_,?_⟩
       ·intro m o hm
        simp only[d5]at hm
        split at hm
        ·rename_i o' hq
         simp only[Ud]at hm;subst hm
         obtain⟨p,hp,hpe⟩:=Uy.1 (bc hq)
         simp only[UC]at hpe
         obtain⟨rfl,rfl⟩:=hpe
         have h5:=o5 p hp
         rw[UI]at h5
         by_cases hpk:zD p.1 (sig.objs.map (·.1))=true
         ·right
          rcases h5 with h5|h5
          ·rw[hpk]at h5;cases h5
          ·rw[sQ]
           cases hpp:p.2 with
           |box oty cells=>rw[hpp]at h5;simp only[tK]at h5;exact(US h5).symm
           |bst i x=>rw[hpp]at h5;simp only[tK]at h5;exact(US h5).symm
           |vec te e xs=>
            exact hlens _ (di (.inl ⟨te,e,xs,rfl⟩) hpk (by rw[<-hpp];exact hp))
           |dvec te e xs=>
            exact hlens _ (di (.inr (.inl ⟨te,e,xs,rfl⟩)) hpk (by rw[<-hpp];exact hp))
           |pvec te e xs=>
            exact hlens _ (di (.inr (.inr ⟨te,e,xs,rfl⟩)) hpk (by rw[<-hpp];exact hp))
           |map tk tv es=>rw[hpp]at h5;simp only[tK]at h5;exact(US h5).symm
           |iter s p=>rw[hpp]at h5;simp only[tK]at h5;exact(US h5).symm
           |miter m k v es rest cur=>rw[hpp]at h5;cases h5
           |gone l=>rw[hpp]at h5;cases h5
         ·left
          refine oq (Uy.2 ⟨p,hp,rfl⟩) λhmem=>hpk (jI.2 ?_)
          obtain⟨q,hq',hqe⟩:=Uy.1 hmem
          obtain⟨n,o,q1,_⟩:=hbound q hq'
          rw[σf_some q1,<-σf_some (hsub _ _ q1)]at hqe
          rw[<-hfi _ _ hqe]
          exact Uv (f:=(·.1)) hq'
        ·right
         obtain⟨q,hq',hqe⟩:=Uy.1 (bc hm)
         simp only[UC]at hqe
         obtain⟨rfl,rfl⟩:=hqe
         rfl
       ·have hat:=hc.ren τ (by
         simp only[BR,Uk,Uo]
         refine⟨⟨⟨⟨o1,λp hp=> ?_⟩,λp hp=> ?_⟩,?_⟩,λp hp=> ?_⟩
         ·obtain⟨z,hz,hz2⟩:=Va.1 hp
          rw[Ul]at hz2
          obtain⟨o',_,rfl⟩:=hz2
          have:z.1∈sig.objs.map (·.1):=by rw[<-b6];exact Uv (f:=(·.1)) hz
          obtain⟨q,hq,hqe⟩:=Uy.1 this
          have:=i3 q hq
          rw[hqe]at this
          exact this
         ·obtain⟨z,hz,hz2⟩:=Va.1 hp
          rw[Ul]at hz2
          obtain⟨o',_,rfl⟩:=hz2
          exact o2 z hz
         ·refine H.allN_of λn hn=> ?_
          rw[g_]at hn
          have:=TV.allN_has o3 hn
          rw[UI];exact .inr (hgos n this)
         ·obtain⟨z,hz,hz2⟩:=Va.1 hp
          rw[Ul]at hz2
          obtain⟨o',ho',rfl⟩:=hz2
          have h4:=o4 z hz
          cases o' with
          |box oty cells=>
           simp only[Own.allN]
           refine H.allNL_of λn hn=> ?_
           have:TO.has n z.2=true:=by rw[<-jE ω1 n ho'];exact hn
           have:=TO.allN_has h4 this
           rw[UI];exact .inr (hgos n this)
          |vec e sz rows=>rfl
          |map es=>rfl
          |iter s p=>rfl
          |dvec e sz rows=>rfl
          |miter m es rest cur=>
           simp only[Own.allN]
           have:TO.has m z.2=true:=by rw[<-jE ω1 m ho'];exact Wg m
           have:=TO.allN_has h4 this
           rw[UI];exact .inr (hgos m this))
        generalize hownE:(sig.objs.filterMap λp=>((S.own? (σf σ1 p.1)).bind (bg V S.len)).map λo=>(σf σ1 p.1,o))=own at hown hkeys hex
        refine⟨own,_,_,AC.weak (args':=encL V S.len args) (own1:=own) hat (λE M vs hvs=> ?_) (λE M w hw=> ?_) (λn=> ?_) (λE M w hw b hb=> ?_),λp hp=> ?_,?_⟩
        ·refine⟨by rw[hvs.1,H.renL_len,aG,aG,a4],λi c z hcz hz=> ?_⟩
         rw[H.renL_get,encL_map,Ue,Xl,Ul]at hz
         obtain⟨u0,hu0,rfl⟩:=hz
         have hi:i<args.length:=by rw[<-a4];exact(Uc.1 hu0).1
         have hu:=Ub hi
         obtain⟨_,k2⟩:=a6 i _ u0 hu hu0
         have hr:=hvs.2 i c (an V S.len args[i]) hcz (by rw[encL_map,Ue,hu];rfl)
         exact(k2 σ1 sig.objs E _ M S.len ω0 c b1 (Uo.2 i1) (hTr E) hr).ren λn _=>rfl
        ·refine⟨λn o hn=> ?_,λn m o o' b hne hn hm hb=> ?_⟩
         ·obtain⟨z,hz,hz',_⟩:=hex n o hn
          exact hz' E M w (hw.ok n z hz)
         ·obtain⟨z,hz,_,f1⟩:=hex n o hn
          obtain⟨z',hz',_,f2⟩:=hex m o' hm
          exactλhb'=>hw.apart n m z z' b hne hz hz' (f1 E w b hb) (f2 E w b hb')
        ·constructor
         ·rintro⟨o,ho⟩
          obtain⟨z,hz,_⟩:=hex n o ho
          exact⟨z,hz⟩
         ·rintro⟨o,ho⟩
          have:=(hkeys n).1 (Uv (f:=(·.1)) (bc ho))
          obtain⟨p,hp,rfl⟩:=Uy.1 this
          have hm:p.1∈os0.map (·.1):=by rw[b6];exact Uv hp
          obtain⟨t,ht⟩:=eu hm
          obtain⟨n',oS,q1,q2,_,x4,q4,x',q5,q6⟩:=b5 p.1 t (bc ht)
          refine⟨(x' ω0).ren (σf τ),?_⟩
          rw[σf_some q1,<-σf_some (hsub _ _ q1),d6 hfi,gd ht (q5 ω0)]
          rfl
        ·obtain⟨n,o,hn,hb⟩:=hb
         obtain⟨z,hz,_,f1⟩:=hex n o hn
         exact⟨n,z,hz,f1 E w b hb⟩
        ·rw[<-hownE]at hp
         obtain⟨q,hq,hqe⟩:=Va.1 hp
         rw[Ul]at hqe
         obtain⟨o',h1,rfl⟩:=hqe
         rw[aM];exact h1
        ·have hω:∀te:TE V.N,(∀c o,gt os c=some o->gt te.upd (σf τ c)=some (o.ren (σf τ)))->∀c,(gt os c).isSome=true->(S.app dst te).len (σf τ c)=ω1 c:=by
          intro te hte c hcs
          obtain⟨o,ho⟩:=We.1 hcs
          rw[cH,hte c o ho,hlen1 c o ho]
          exact sQ _ o
         have hkl:own.map (·.1)=sig.objs.map λp=>σf σ1 p.1:=by
          rw[<-hownE]
          have:∀l:List (Nat×OPt V.ι),(∀p∈l,∃n o,gt σ1 p.1=some n/\S.own? n=some o/\∃z,bg V S.len o=some z)->
           (l.filterMap λp=>((S.own? (σf σ1 p.1)).bind (bg V S.len)).map λo=>(σf σ1 p.1,o)).map (·.1)=l.map λp=>σf σ1 p.1:=by
           intro l
           induction l with
           |nil=>intro _;rfl
           |cons p r ih=>
            intro hl
            obtain⟨n,o,q1,q2,z,q3⟩:=hl p Uf
            have e:(S.own? (σf σ1 p.1)).bind (bg V S.len)=some z:=by rw[σf_some q1,q2];exact q3
            simp only[VD,e,UB,Uj]
            rw[ih λq hq=>hl q (Ua _ hq)]
          exact this sig.objs hbound
         have hml:(qE (σf τ) (bt ω1 os)).map (·.1)=os.map λp=>σf τ p.1:=by
          have:∀l:List (Nat×TO V.N),(∀p∈l,∃o,bg V ω1 p.2=some o)->(qE (σf τ) (bt ω1 l)).map (·.1)=l.map λp=>σf τ p.1:=by
           intro l
           induction l with
           |nil=>intro _;rfl
           |cons p r ih=>
            intro hl
            obtain⟨o,ho⟩:=hl p Uf
            have:=ih λq hq=>hl q (Ua _ hq)
            unfold qE bt at this⊢
            simp only[VD,ho,UB,Uj]
            rw[this]
          exact this os hsome
         refine bU ?_ ?_ ?_ ?_
         ·simp only[dJ]
          refine(sE x λn hn=>hω _ (λc o ho=> ?_) n (TV.allN_has o3 hn)).symm
          simp only[d5,o_ hfi,ho,UB]
         ·simp only[dJ]
          rw[fg,hkl]
          rw[hml]
         ·simp only[dJ,UZ]
          refine congr (congrArg _ ?_) ?_
          ·have:∀(ω2:Nat->Nat) (l:List (Nat×TO V.N)),(∀p∈l,∃o,bg V ω1 p.2=some o)->(∀p∈l,bg V ω2 (TO.ren (σf τ) p.2)=(bg V ω1 p.2).map (Own.ren (σf τ)))->
            (qE (σf τ) (bt ω1 l)).map (λp=>(p.1,some p.2))=(l.map λp=>(σf τ p.1,TO.ren (σf τ) p.2)).map λp=>(p.1,bg V ω2 p.2):=by
            intro ω2 l
            induction l with
            |nil=>intro _ _;rfl
            |cons p r ih=>
             intro hl hl2
             obtain⟨o,ho⟩:=hl p Uf
             have h2:=hl2 p Uf
             have:=ih (λq hq=>hl q (Ua _ hq)) λq hq=>hl2 q (Ua _ hq)
             unfold qE bt at this⊢
             simp only[VD,ho,UB,Uj,h2]
             rw[this]
           refine this _ os hsome λp hp=>zx p.2 λn hn=>hω _ (λc o ho=> ?_) n (TO.allN_has (o4 p hp) hn)
           simp only[d5,o_ hfi,ho,UB]
          ·have e:own.map (λp:Nat×Own=>(p.1,(none:Option Own)))=(own.map (·.1)).map λn=>(n,none):=by rw[UH];rfl
           rw[e,hkl,UH,UH]
           rfl
         ·simp only[dJ]
          exact hkl
      ·cases h
     ·cases h
    ·cases h
   ·cases h
  ·cases h
 ·cases h
def vT:Code->Code
 | .seq a _=>a
 |c=>c
def iR:Code->Code
 | .seq _ b=>b
 |c=>c
def JL:Oper:={dst:=none,op:= .move (.tmp 0),type:=0,pos:= "",after:= #[],guard:=none}
def NI(i:Nat):Code->Oper
 | .region _ ops _=>(ops.toList[i]?).getD JL
 |_=>JL
noncomputable def RO(X:Xc V)(pa:Nat->Bool)(x0 x1 B z:Code)(td:Tmp)(caps:List Tmp)(sigD:Sig V)(FD:HL V.N sigD.tys->Option (HL V.N sigD.rcut.tys))(S0:TS V.N):Option (HL V.N X.sh.rcut.tys):=
 ex {X with pre:=pa} x0 _ S0 (λS1=>ex {X with pre:=pa} x1 _ S1 (λS2=>
  ex X B _ {S2 with tmps:=(td, .junk)::S2.tmps} (λS4=>ex X z _ S4 (λS5=>
   eP X.P sigD FD _ (caps.map S5.get) S5 λte=>match eh S5 te with
    |true=>A9 V X.sh.rcut (S5.app none te)
    |false=>none) (λ_ _=>none) (λ_=>none)) (λ_ _=>none) (λ_=>none)) (λ_ _=>none) (λ_=>none)) (λ_ _=>none) (λ_=>none)
theorem zY{sh:ax V}{A:Type}{k:TS V.N->Option A}{r:A}:Rw sh k (λ_ _=>none) (λ_=>none) r (λe σ=>e= .normal/\∃S,k S=some r/\Ent σ (aH V S)):=
 ⟨λS σ hk he=>⟨rfl,S,hk,he⟩,λ_ _ _ _ h=>(by cases h),λ_ _ _ h=>(by cases h),λ_ _ h=>(by cases h)⟩
theorem Hu{X:Xc V}{sig:Sig V}(hsh:X.sh.rcut=sig.rcut){fid fd:FuncId}{fn:Func}{x0 x1 B z:Code}{id:Nat}{o1 o2:Oper}{td:Tmp}{caps:List Tmp}{ct:Call}{pa:Nat->Bool}(hf:X.P.funcs[fid]?=some fn)
 (hb:fn.body=some (.seq x0 (.seq x1 (.seq (.region id #[o1,o2] false) (.seq B (.seq z .ret))))))(hn:fn.ntmps=X.n)(hrs:fn.results.toList=sig.rvars)(hname:(fn.name != "runtime.NumGoroutine")=true)
 (hlen:V7 sig.params.length X.n=true)(hm:X.P.follows .mixedOrders=true)(hcall:ay X.P X.call)(hdr:dr (sig.rcut.objs.map (·.1))=true)
 (ho1:o1.op= .makeFunc (.func fd) #[] (caps.map Operand.tmp).toArray)(hd1:o1.dst=some td)(hg1:o1.guard=none)(ho2:o2.op= .defer ct)(hct:ct.callee= .value (.tmp td))(hca:ct.args= #[])(hd2:o2.dst=none)(hg2:o2.guard=none)
 (htd:VA td X.n=true)(hcaps:caps.all (λt=>VA t X.n&& !Vb t td&&X.pre (4000000+t))=true)
 (hl:∀C:Ctx,C.P=X.P->C.N=X.n/\Fx C X.pre->LOk C X B/\LOk C X z)(hl0:∀C:Ctx,LOk C {X with pre:=pa} x0/\LOk C {X with pre:=pa} x1)
 {sigD:Sig V}{FD:HL V.N sigD.tys->Option (HL V.N sigD.rcut.tys)}(hD:C7 X.P fd sigD FD){v:HL V.N sig.tys}{r:HL V.N sig.rcut.tys}(h:RO X pa x0 x1 B z td caps sigD FD (az sig v)=some (hsh▸r)):
 ∀x,qF X.P sig r=some x->
  gr X.P fid (encL V (az sig v).len (aX sig v).1) (bt (az sig v).len (az sig v).own) (an V (bV V sig.rcut r).len x) (bt (bV V sig.rcut r).len (jJ sig r)):=by
 obtain⟨params,objs,rcut,rvars,keep⟩:=sig
 simp only at hsh
 subst hsh
 intro x hx
 have htd:td<X.n:=by simpa[VG]using htd
 have hcaps:∀t∈caps,t<X.n/\t≠td/\X.pre (4000000+t)=true:=λt ht=>by
  have:=Uo.1 hcaps t ht
  simp only[Uk,VG,VP]at this
  refine⟨this.1.1,⟨λe=> ?_,this.2⟩⟩
  rw[e,Wg]at this
  cases this.1.2
 have hargs:(aX ⟨params,objs,X.sh.rcut,rvars,keep⟩ v).1.length<=X.n:=by
  have hp:params.length<=X.n:=Vn hlen
  unfold aX
  split
  ·rename_i xs ls h1
   split
   ·simp only;rw[sw h1];exact hp
   ·simp
  ·simp
 have hent:Ent ⟨gh 0 (encL V (az ⟨params,objs,X.sh.rcut,rvars,keep⟩ v).len (aX ⟨params,objs,X.sh.rcut,rvars,keep⟩ v).1),ku (bt (az ⟨params,objs,X.sh.rcut,rvars,keep⟩ v).len (az ⟨params,objs,X.sh.rcut,rvars,keep⟩ v).own)⟩
  (aH V (az ⟨params,objs,X.sh.rcut,rvars,keep⟩ v)):=by
  refine Ent.le (λt y hy=>⟨y,?_,H.le.refl _⟩) λn o ho=>⟨o,?_,OLe.refl _⟩
  ·rw[iC];exact hy
  ·rw[aM,Vw]at ho
   obtain⟨o',ho',hoo⟩:=ho
   have:=gd (os:=(az ⟨params,objs,X.sh.rcut,rvars,keep⟩ v).own) ho' hoo
   unfold ae.own?
   rw[bJ]
   exact this
 have hend:∀e σ,(e= .normal\/e= .ret)->Ent σ (aH V (bV V X.sh.rcut r))->
  tY X.P fn.results.toList (an V (bV V X.sh.rcut r).len x) (bt (bV V X.sh.rcut r).len (jJ ⟨params,objs,X.sh.rcut,rvars,keep⟩ r)) e σ:=by
  intro e σ he hσ
  unfold qF at hx
  rw[Ul]at hx
  obtain⟨vs,hvs,hone⟩:=hx
  obtain⟨hs,g1,g2,g3⟩:=jQ hvs
  have hh:∃y,Iy X.P (aH V (bV V X.sh.rcut r)) fn.results.toList=some y/\H.le y (an V (bV V X.sh.rcut r).len x):=by
   rw[hrs]
   unfold Iy
   rw[g1]
   cases vs with
   |nil=>
    have:hs=[]:=UE (by simpa using g2)
    subst this;subst hone
    exact⟨.tup [],rfl,by simp only[Ln,an,encL];exact H.le.refl _⟩
   |cons a l=>
    cases l with
    |nil=>
     cases hs with
     |nil=>simp at g2
     |cons y l'=>
      have:l'=[]:=UE (by simpa using g2)
      subst this;subst hone
      obtain⟨z,z1,z2⟩:=g3 0 a rfl
      simp at z1;subst z1
      exact⟨y,rfl,z2⟩
    |cons b l=>
     cases hs with
     |nil=>simp at g2
     |cons y l'=>
      cases l' with
      |nil=>simp at g2
      |cons y2 l2=>
       subst hone
       refine⟨.tup (y::y2::l2),rfl,?_⟩
       simp only[Ln,an]
       refine wb (by rw[aG];exact g2) λi w hw=> ?_
       rw[encL_map,Ue,Ul]at hw
       obtain⟨u,hu,rfl⟩:=hw
       exact g3 i u hu
  obtain⟨y,hy1,hy2⟩:=hh
  refine⟨he,_,hσ,y,hy1,hy2,λn o ho=> ?_⟩
  obtain⟨o',h1,h2⟩:=cE ho
  have h1:(n,o')∈(bV V X.sh.rcut r).own:=(Wz.1 h1).1
  have:=hI (kC X.sh.rcut _ hdr) h1
  rw[aM]
  unfold TS.own?
  unfold bV at *
  rw[this]
  exact h2
 generalize hS0:az ⟨params,objs,X.sh.rcut,rvars,keep⟩ v=S0 at hent h⊢
 generalize hx0:aX ⟨params,objs,X.sh.rcut,rvars,keep⟩ v=O0 at hent hargs⊢
 generalize hown0:bt S0.len S0.own=own at hent⊢
 refine⟨by simp[dY,hf,hb,hname],λE M w vs hgm hm' how hvs=> ?_⟩
 refine calls_of_wp_defers hf hb ?_
 let C:Ctx:=⟨X.P,fn.ntmps,w,M,E,gE E w own,hgm,λb ⟨n,o,hn,hb⟩=>((how.ok n o hn).block hb).2,[],[]⟩
 have hs:Sim C E M ⟨gh 0 (encL V S0.len O0.1),ku own⟩ {tmps:=vs++VM (fn.ntmps-vs.size) undef,defers:=[]} w:=by
  have hvs1:=hvs.1
  rw[aG]at hvs1
  refine{size:=by simp[C];omega,defers:=rfl,fixed:=λp hp=>(by cases hp),tmps:=λt x hx=> ?_,mem:=hm',own:=λn o ho=> ?_,apart:=λn m o o' b hne ho ho'=> ?_,home:=λn o b ho hb=> ?_,m0:=Mem.le_refl M,mnew:=λb o v hv=> .inl hv,frame:=λ_ _ _=>rfl,grows:=Us _,os:=rfl,tape:=rfl,output:=rfl,env:=λ_ _=>rfl}
  ·obtain⟨_,h2⟩:=lJ _ 0 t x hx
   simp only[W9]at h2
   have hlt:t<vs.size:=by have:=(Uc.1 h2).1;rw[aG]at this;omega
   exact⟨vs[t],by simp[Wa hlt,hlt],hvs.2 t _ x (UO hlt) h2⟩
  ·have ho':gt own n=some o:=by rw[<-bJ];exact ho
   exact how.ok n o ho'
  ·have h1:gt own n=some o:=by rw[<-bJ];exact ho
   have h2:gt own m=some o':=by rw[<-bJ];exact ho'
   exact how.apart n m o o' b hne h1 h2
  ·have h1:gt own n=some o:=by rw[<-bJ];exact ho
   exact .inl ⟨n,o,h1,hb⟩
 obtain⟨E0,M0,hs0⟩:=hent _ _ _ _ _ hs
 have hF0:Fx C pa:=λp hp=>by cases hp
 unfold RO at h
 have A0:=hG (C:=C) (X:={X with pre:=pa}) rfl ⟨hn,hF0⟩ hm hcall x0 _ S0 _ _ _ _ _ (hl0 C).1 h zY
 refine wp_seq (wp_mono (A0 E0 M0 _ w hs0) ?_)
 rintro e a1 w1 ⟨σ1,E1,M1,⟨rfl,S1,h1,he1⟩,hs1⟩
 obtain⟨E1,M1,hs1⟩:=he1 _ _ _ _ _ hs1
 have A1:=hG (C:=C) (X:={X with pre:=pa}) rfl ⟨hn,hF0⟩ hm hcall x1 _ S1 _ _ _ _ _ (hl0 C).2 h1 zY
 refine wp_seq (wp_mono (A1 E1 M1 a1 w1 hs1) ?_)
 rintro e a2 w2 ⟨σ2,E2,M2,⟨rfl,S2,h2,he2⟩,hs2⟩
 obtain⟨E2,M2,hs2⟩:=he2 _ _ _ _ _ hs2
 have hsz:a2.tmps.size=X.n:=hs2.size.trans hn
 generalize hcv:(caps.map Operand.tmp).toArray.map a2.eval=capv
 have hwr:∀d,o1.dst=some d->C.wr d:=λd hd=>by
  rw[hd1]at hd;cases hd
  exact⟨by show td<fn.ntmps;rw[hn];exact htd,λp hp=>by cases hp⟩
 have hs3:=hs2.put o1.dst hwr (aL.junk (E:=E2) (M:=M2) (.func (.func fd) #[] capv))
 refine wp_seq (wp_region ?_)
 have hrange:V3 (#[o1,o2]:Array Oper).size=[0,1]:=rfl
 have hi0:(#[o1,o2]:Array Oper)[0]?=some o1:=rfl
 have hi1:(#[o1,o2]:Array Oper)[1]?=some o2:=rfl
 rw[hrange]
 simp only[wpOps,hi0,hi1]
 rw[XK (by simp[Region.wanted,hg1])]
 refine .inl (am (v:= .func (.func fd) #[] capv) (w':=w2) (by simp[execOp,ho1,Instr.makeFunc,hcv]) ?_)
 rw[XK (by simp[Region.wanted,hg2])]
 refine .inl ?_
 have htdv:(a2.put o1.dst (.func (.func fd) #[] capv)).eval (.tmp td)= .func (.func fd) #[] capv:=by
  rw[hd1]
  simp[Act.put,Act.eval,hsz,htd]
 unfold Oper.wp
 have hdef:(execOp (a2.put o1.dst (.func (.func fd) #[] capv)).eval o2).run X.P w2= .ok (.defer ⟨.fn (.func fd) capv, #[]⟩) w2:=by
  simp[execOp,ho2,resolve,hct,hca,htdv,Deferred.ofValue]
 rw[hdef,Oper.upon_defer,hd2]
 generalize ha3:a2.put o1.dst (.func (.func fd) #[] capv)=a3 at hs3⊢
 have ht3:∀t∈caps,a3.tmps[t]?=some (a2.eval (.tmp t)):=λt ht=>by
  obtain⟨q1,q2,_⟩:=hcaps t ht
  rw[<-ha3,hd1]
  have hlt:t<a2.tmps.size:=by rw[hsz];exact q1
  show(a2.tmps.setIfInBounds td (.func (.func fd) #[] capv))[t]?=some (a2.tmps.getD t undef)
  rw[U3 (UG q2),Wu,UO hlt]
  rfl
 let C1:Ctx:={C with D:=[⟨.fn (.func fd) capv, #[]⟩],fix:=caps.map λt=>(t,a2.eval (.tmp t))}
 have hs4:Sim C1 E2 M2 (aH V {S2 with tmps:=(td, .junk)::S2.tmps}) (({a3 with defers:=⟨.fn (.func fd) capv, #[]⟩::a3.defers}:Act).put none undef) w2:=by
  have hde:a3.defers=[]:=hs3.defers
  have hst:aH V {S2 with tmps:=(td, .junk)::S2.tmps}={aH V S2 with tmps:=ov o1.dst .junk (aH V S2).tmps}:=by
   rw[hd1];rfl
  rw[hst]
  have hfx:∀p∈C1.fix,a3.tmps[p.1]?=some p.2:=λp hp=>by
   obtain⟨t,ht,rfl⟩:=Uy.1 hp
   exact ht3 t ht
  exact{size:=hs3.size,defers:=(by simp[Act.put,hde,C1]),fixed:=hfx,tmps:=hs3.tmps,mem:=hs3.mem,own:=hs3.own,apart:=hs3.apart,home:=hs3.home,m0:=hs3.m0,mnew:=hs3.mnew,frame:=hs3.frame,grows:=hs3.grows,os:=hs3.os,tape:=hs3.tape,output:=hs3.output,env:=hs3.env}
 generalize ({a3 with defers:=⟨.fn (.func fd) capv, #[]⟩::a3.defers}:Act).put none undef=a4 at hs4⊢
 have hF1:Fx C1 X.pre:=λp hp=>by
  obtain⟨t,ht,rfl⟩:=Uy.1 hp
  exact(hcaps t ht).2.2
 have hL:=hl C1 rfl ⟨hn,hF1⟩
 have A4:=hG (C:=C1) (X:=X) rfl ⟨hn,hF1⟩ hm hcall B _ _ _ _ _ _ _ hL.1 h2 zY
 refine wp_seq (wp_mono (A4 E2 M2 a4 w2 hs4) ?_)
 rintro e a5 w5 ⟨σ5,E5,M5,⟨rfl,S5,h5,he5⟩,hs5⟩
 obtain⟨E5,M5,hs5⟩:=he5 _ _ _ _ _ hs5
 have A5:=hG (C:=C1) (X:=X) rfl ⟨hn,hF1⟩ hm hcall z _ _ _ _ _ _ _ hL.2 h5 zY
 refine wp_seq (wp_mono (A5 E5 M5 a5 w5 hs5) ?_)
 rintro e a6 w6 ⟨σ6,E6,M6,⟨rfl,S6,h6,he6⟩,hs6⟩
 obtain⟨E6,M6,hs6⟩:=he6 _ _ _ _ _ hs6
 refine wp_ret ?_
 show Leaves X.P fn a6.tmps _ a6.defers .returning w6
 have hde:a6.defers=[⟨.fn (.func fd) capv, #[]⟩]:=hs6.defers
 rw[hde]
 obtain⟨te,k1,k2,own1,rr,own1',hat,hsub0,hele⟩:=xx hD (dst:=none) h6
 have hsub:∀n o,gt own1 n=some o->(aH V S6).own? n=some o:=λn o hq=>hsub0 (n,o) (bc hq)
 have hnk:eh S6 te=true/\A9 V X.sh.rcut (S6.app none te)=some r:=by
  cases hq:eh S6 te with
  |true=>rw[hq]at k1;exact⟨rfl,k1⟩
  |false=>rw[hq]at k1;cases k1
 obtain⟨f1,f2⟩:=dl hnk.1
 have hnew:∀d∈ed own1 own1',(aH V S6).fresh d=true/\d<given:=λd hd=>by
  have hd:d∈te.new:=by have:=hele.new;simp only[dJ]at this;rw[this]at hd;exact hd
  exact⟨eo (f1 d hd),f2 d hd⟩
 have hcal:=hat.1
 refine⟨by simp, .func fd,capv,fd,capv,rfl,?_,?_⟩
 ·unfold dY at hcal
  split at hcal
  ·rename_i fn' hfn'
   simp only[Uk,bne_iff_ne,ne_eq]at hcal
   have hbb:¬fn'.body=none:=by
    intro hbb
    rw[hbb]at hcal;simp at hcal
   simp[invoke,callFunc,hfn',hcal.1,hbb]
  ·cases hcal
 ·have hreps:eU E6 M6 capv (encL V S6.len (caps.map S6.get)):=by
   have hcl:capv.size=caps.length:=by rw[<-hcv];simp
   refine⟨by rw[aG,Ug];exact hcl,λi c y hc hy=> ?_⟩
   rw[encL_map,Ue,Ue]at hy
   cases hq:caps[i]? with
   |none=>rw[hq]at hy;cases hy
   |some t=>
    rw[hq]at hy
    simp only[UB,Ud]at hy
    subst hy
    have hc2:c=a2.eval (.tmp t):=by
     rw[<-hcv]at hc
     simp[hq]at hc
     exact hc.symm
    have hfx:=hs6.fixed (t,a2.eval (.tmp t)) (Uy.2 ⟨t,Un hq,rfl⟩)
    have hev:=hs6.ev (.tmp t)
    rw[au]at hev
    have:a6.eval (.tmp t)=c:=by
     rw[hc2]
     simp only[Act.eval]
     rw[Wu,hfx];rfl
    rw[this]at hev
    exact hev
  have hC:=hat.2 E6 M6 w6 capv (C1.g0.mono hs6.m0 λb ⟨v,hv⟩ hb=>hs6.frame b hb λhx=>by rw[C1.gx b hx 0]at hv;cases hv) hs6.mem
   ⟨λn o h=>hs6.own n o (hsub n o h),λn m o o' b hne h h'=>hs6.apart n m o o' b hne (hsub n o h) (hsub m o' h')⟩ hreps
  refine(hC .returning).mono ?_
  rintro e u' w7 ⟨rfl,v1,E7,M7,rfl,hp,henv⟩
  have hs7:=Sim.called (o:=o2) (λd hd=>by rw[hd2]at hd;cases hd) hs6 hsub hp henv hnew
  rw[hd2]at hs7
  have hs8:=Sim.tapp (dst:=none) k2 f1 hele hs7
  obtain⟨he,S8,hen8,hh,hres,hle,hown⟩:=hend .ret _ (.inr rfl) (dD hnk.2)
  obtain⟨E9,M9,hs9⟩:=hen8 _ _ _ _ _ hs8
  obtain⟨v9,hrun,hrep⟩:=tF (C:=C1) hs9 hres
  refine⟨v9,hrun,v9,E9,M9,rfl,?_⟩
  exact{rep:=hle _ _ _ hrep,owns:=⟨λn o ho=>hs9.own n o (hown n o ho),λn m o o' b hne h1 h2=>hs9.apart n m o o' b hne (hown n o h1) (hown m o' h2)⟩,mle:=hs9.m0,mem:=hs9.mem,mnew:=hs9.mnew,home:=λn o b ho hb=>hs9.home n o b (hown n o ho) hb,frame:=hs9.frame,grows:=hs9.grows,os:=hs9.os,tape:=hs9.tape,output:=hs9.output,env:=hs9.env}
end
end Go.Tx
end
section
namespace Go.Tx
open Go.Awp
variable [Inhabited GMem]
section
variable {V:mz}
def c0:bz V:=λ_ _ _ _ _=>none
def cO(P:Program)(fid:Nat)(sig:Sig V)(F:HL V.N sig.tys->Option (HL V.N sig.rcut.tys))(r:bz V):bz V:=λA f args S k=>match Vb f fid with
 |true=>eP P sig F A args S k
 |false=>r A f args S k
def cP(P:Program)(fid:Nat)(sig:Sig V)(F:HL V.N sig.tys->Option (HL V.N sig.rcut.tys))(r:bz V):bz V:=λA f args S k=>match Vb f fid with
 |true=>aP P sig F A args S k
 |false=>r A f args S k
theorem bI{P:Program}:ay P (c0:bz V):=λA fid args S dst k r h=>by cases h
theorem Pv{P:Program}{fid:Nat}{sig:Sig V}{F:HL V.N sig.tys->Option (HL V.N sig.rcut.tys)}{r:bz V}(h:aq P fid sig F)(hr:ay P r):ay P (cO P fid sig F r):=λA f args S dst k x hx=>by
 unfold cO at hx
 split at hx
 ·rename_i e
  have e:=US e
  subst e
  exact dq h hx
 ·exact hr A f args S dst k x hx
theorem Pw{P:Program}{fid:Nat}{sig:Sig V}{F:HL V.N sig.tys->Option (HL V.N sig.rcut.tys)}{r:bz V}(h:aq P fid sig F)(ho:sig.objs=[])(hk:sig.keep=[])(hr:ay P r):ay P (cP P fid sig F r):=λA f args S dst k x hx=>by
 unfold cP at hx
 split at hx
 ·rename_i e
  have e:=US e
  subst e
  exact ak h ho hk hx
 ·exact hr A f args S dst k x hx
end
noncomputable def Kv{A:Type}:Nat->Option A->Option A
 |0,x=>x
 |n+1,x=>Mi x (Kv n x)
theorem kV{A:Type}(x:Option A):∀n,Kv n x=x
 |0=>rfl
 |n+1=>by rw[Kv,kV x n];unfold Mi;rw[XK rfl]
end Go.Tx
end
section
namespace Go.Tx
open Go.Awp
variable {V:mz} [Inhabited GMem]
def kp:Nat->Bool:=λ_=>false
theorem RX{C:Ctx}{X:Xc V}{c:Code}(h:aJ c=[])(hj:∀k,X.jumps k=none:=by intro k;rfl):LOk C X c:=bm (by rw[h];trivial) hj
theorem RY{C:Ctx}{X:Xc V}{c b:Code}{la:nV V X.sh}(h:aJ c=[b])(e:X.loops (bL b)=some la)(h1:dB C b la)(hj:∀k,X.jumps k=none:=by intro k;rfl):LOk C X c:=
 bm (by rw[h];exact⟨d8 e h1,trivial⟩) hj
theorem Ou{C:Ctx}{X:Xc V}{c b b':Code}{la la':nV V X.sh}(h:aJ c=[b,b'])(e:X.loops (bL b)=some la)(e':X.loops (bL b')=some la')(h1:dB C b la)(h2:dB C b' la')(hj:∀k,X.jumps k=none:=by intro k;rfl):LOk C X c:=
 bm (by rw[h];exact⟨d8 e h1,d8 e' h2,trivial⟩) hj
theorem fnA(X:Xc V){sig:Sig V}{fid:FuncId}{fn:Func}{n:HL V.N sig.tys->Option (HL V.N sig.rcut.tys)}(hf:X.P.funcs[fid]?=some fn)
 (hk:(fn.body,fn.results.toList,(fn.name != "runtime.NumGoroutine"),fn.ntmps)=(some (af fn),sig.rvars,true,X.n))(hm:X.P.follows .mixedOrders=true)(hcall:ay X.P X.call)
 (hsh:X.sh.rcut=sig.rcut)(hlen:V7 sig.params.length X.n=true)(hdr:dr (sig.rcut.objs.map (·.1))=true)(h:∀v,exF X sig hsh (af fn) v=n v)
 (hl:∀C:Ctx,C.P=X.P->C.N=X.n/\Fx C X.pre->LOk C X (af fn)):aq X.P fid sig n:=λv r x hr hx=>by
 injection hk with h1 h2
 injection h2 with h2 h3
 injection h3 with h3 h4
 exact mO hsh hf h1 h4 h2 h3 hlen hm hcall hdr hl ((h v).trans hr) x hx
theorem lpB{C:Ctx}{X:Xc V}{b:Code}{cut:Cut V.ι}{alts:List Alt}{n:HL V.N cut.tys->Option (oF (bZ X.sh []) alts)}
 {bd:(HL V.N cut.tys->Option (oF (bZ X.sh []) alts))->HL V.N cut.tys->Option (oF (bZ X.sh []) alts)}
 (pc:∀m:HL V.N cut.tys->oF (bZ X.sh []) alts->Prop,(∀F,(∀v r,F v=some r->m v r)->∀v r,bd F v=some r->m v r)->∀v r,n v=some r->m v r)
 (hP:C.P=X.P)(hn:C.N=X.n/\Fx C X.pre)(hm:X.P.follows .mixedOrders=true)(hcall:ay X.P X.call)(hl:LOk C X b)(h:∀F v,exL X b cut alts F v=bd F v):
 dB C b (sh:=X.sh) ⟨cut,alts,n⟩:=
 pc _ λF ih v _ hr=>dj hP hn hm hcall hl ih ((h F v).trans hr)
def tl{α:Type _}:List (Nat×α)->Nat->Option α
 |[],_=>none
 |(k,a)::r,i=>bif Vb i k then some a else tl r i
def shL(l:List (Nat×Cut V.ι))(z:Cut V.ι):ax V:=⟨λi=>(tl l i).getD ⟨[],[]⟩,z⟩
def mX(P:Program)(n:Nat)(call:bz V)(sh:ax V)(j:List (Nat×Cut V.ι×List Alt))(r:List (Nat×Cut V.ι))(l:List (Nat×nV V sh)):Xc V:={P:=P,n:=n,call:=call,pre:=kp,sh:=sh,joins:=tl j,regs:=tl r,loops:=tl l}
abbrev dU(X:Xc V)(b:Code)(la:nV V X.sh):Prop:=∀C:Ctx,C.P=X.P->C.N=X.n/\Fx C X.pre->dB C b la
theorem fn0(X:Xc V){sig:Sig V}{fid:FuncId}{fn:Func}{n:HL V.N sig.tys->Option (HL V.N sig.rcut.tys)}(hf:X.P.funcs[fid]?=some fn)(hcall:ay X.P X.call)
 (hl:aJ (af fn)=[]:=by kernel_rfl)
 (hk:(fn.body,fn.results.toList,(fn.name != "runtime.NumGoroutine"),fn.ntmps)=(some (af fn),sig.rvars,true,X.n):=by kernel_rfl)(hm:X.P.follows .mixedOrders=true:=by kernel_rfl)
 (hsh:X.sh.rcut=sig.rcut:=by exact rfl)(hlen:V7 sig.params.length X.n=true:=by exact rfl)(hdr:dr (sig.rcut.objs.map (·.1))=true:=by exact rfl)(hj:∀k,X.jumps k=none:=by intro k;rfl)
 (h:∀v,exF X sig hsh (af fn) v=n v:=by intro v;kernel_rfl):aq X.P fid sig n:=
 fnA X hf hk hm hcall hsh hlen hdr h λ_ _ _=>RX hl hj
theorem fn1(X:Xc V){sig:Sig V}{fid:FuncId}{fn:Func}{n:HL V.N sig.tys->Option (HL V.N sig.rcut.tys)}{b:Code}{la:nV V X.sh}(hf:X.P.funcs[fid]?=some fn)(hcall:ay X.P X.call)
 (h1:dU X b la)(hl:aJ (af fn)=[b]:=by kernel_rfl)(e:X.loops (bL b)=some la:=by kernel_rfl)
 (hk:(fn.body,fn.results.toList,(fn.name != "runtime.NumGoroutine"),fn.ntmps)=(some (af fn),sig.rvars,true,X.n):=by kernel_rfl)(hm:X.P.follows .mixedOrders=true:=by kernel_rfl)
 (hsh:X.sh.rcut=sig.rcut:=by exact rfl)(hlen:V7 sig.params.length X.n=true:=by exact rfl)(hdr:dr (sig.rcut.objs.map (·.1))=true:=by exact rfl)(hj:∀k,X.jumps k=none:=by intro k;rfl)
 (h:∀v,exF X sig hsh (af fn) v=n v:=by intro v;kernel_rfl):aq X.P fid sig n:=
 fnA X hf hk hm hcall hsh hlen hdr h λC p q=>RY hl e (h1 C p q) hj
theorem fn2(X:Xc V){sig:Sig V}{fid:FuncId}{fn:Func}{n:HL V.N sig.tys->Option (HL V.N sig.rcut.tys)}{b b':Code}{la la':nV V X.sh}(hf:X.P.funcs[fid]?=some fn)(hcall:ay X.P X.call)
 (h1:dU X b la)(h2:dU X b' la')(hl:aJ (af fn)=[b,b']:=by kernel_rfl)(e:X.loops (bL b)=some la:=by kernel_rfl)(e':X.loops (bL b')=some la':=by kernel_rfl)
 (hk:(fn.body,fn.results.toList,(fn.name != "runtime.NumGoroutine"),fn.ntmps)=(some (af fn),sig.rvars,true,X.n):=by kernel_rfl)(hm:X.P.follows .mixedOrders=true:=by kernel_rfl)
 (hsh:X.sh.rcut=sig.rcut:=by exact rfl)(hlen:V7 sig.params.length X.n=true:=by exact rfl)(hdr:dr (sig.rcut.objs.map (·.1))=true:=by exact rfl)(hj:∀k,X.jumps k=none:=by intro k;rfl)
 (h:∀v,exF X sig hsh (af fn) v=n v:=by intro v;kernel_rfl):aq X.P fid sig n:=
 fnA X hf hk hm hcall hsh hlen hdr h λC p q=>Ou hl e e' (h1 C p q) (h2 C p q) hj
def sg(p:List (Pt V.ι))(z:Cut V.ι)(r:List ResultVar):Sig V:={params:=p,rcut:=z,rvars:=r}
def CC(P:Program)(V:mz)[Inhabited GMem]:={c:bz V//ay P c}
def k0{P:Program}:CC P V:=⟨c0,bI⟩
def kP{P:Program}{fid:Nat}{sig:Sig V}{F:HL V.N sig.tys->Option (HL V.N sig.rcut.tys)}(h:aq P fid sig F)(r:CC P V)(ho:sig.objs=[]:=by exact rfl)(hk:sig.keep=[]:=by exact rfl):CC P V:=⟨cP P fid sig F r.1,Pw h ho hk r.2⟩
def kO{P:Program}{fid:Nat}{sig:Sig V}{F:HL V.N sig.tys->Option (HL V.N sig.rcut.tys)}(h:aq P fid sig F)(r:CC P V):CC P V:=⟨cO P fid sig F r.1,Pv h r.2⟩
theorem lp0{X:Xc V}{b:Code}{cut:Cut V.ι}{alts:List Alt}{n:HL V.N cut.tys->Option (oF (bZ X.sh []) alts)}
 {bd:(HL V.N cut.tys->Option (oF (bZ X.sh []) alts))->HL V.N cut.tys->Option (oF (bZ X.sh []) alts)}
 (pc:∀m:HL V.N cut.tys->oF (bZ X.sh []) alts->Prop,(∀F,(∀v r,F v=some r->m v r)->∀v r,bd F v=some r->m v r)->∀v r,n v=some r->m v r)
 (hcall:ay X.P X.call)(hl:aJ b=[]:=by kernel_rfl)(hm:X.P.follows .mixedOrders=true:=by kernel_rfl)(hj:∀k,X.jumps k=none:=by intro k;rfl)
 (h:∀F v,exL X b cut alts F v=bd F v:=by intro F v;kernel_rfl):dU X b ⟨cut,alts,n⟩:=
 λ_ hP hn=>lpB pc hP hn hm hcall (RX hl hj) h
theorem lp1{X:Xc V}{b:Code}{cut:Cut V.ι}{alts:List Alt}{n:HL V.N cut.tys->Option (oF (bZ X.sh []) alts)}
 {bd:(HL V.N cut.tys->Option (oF (bZ X.sh []) alts))->HL V.N cut.tys->Option (oF (bZ X.sh []) alts)}
 (pc:∀m:HL V.N cut.tys->oF (bZ X.sh []) alts->Prop,(∀F,(∀v r,F v=some r->m v r)->∀v r,bd F v=some r->m v r)->∀v r,n v=some r->m v r)
 (hcall:ay X.P X.call){b1:Code}{l1:nV V X.sh}(h1:dU X b1 l1)(hl:aJ b=[b1]:=by kernel_rfl)(e:X.loops (bL b1)=some l1:=by kernel_rfl)(hm:X.P.follows .mixedOrders=true:=by kernel_rfl)(hj:∀k,X.jumps k=none:=by intro k;rfl)
 (h:∀F v,exL X b cut alts F v=bd F v:=by intro F v;kernel_rfl):dU X b ⟨cut,alts,n⟩:=
 λC hP hn=>lpB pc hP hn hm hcall (RY hl e (h1 C hP hn) hj) h
end Go.Tx
end
