/-
  Texts of this claim, joined by a program of mine: what the theorem uses.
-/
import Derived.Test.YtcghbgmmgcljkaaGreatDoorPkE
import Derived.KernelRfl
import Derived.Test.YtcghbgmmgcljkaaGreatDoorPkC
import Derived.WalkKit
import Derived.ProofKit
import Derived.OpenShut
import Derived.Test.YtcghbgmmgcljkaaGreatDoorRows
import Derived.Lib.LaidIn
import Derived.Lib.LaidU8T
import Derived.MakeChecks
import Derived.Test.YtcghbgmmgcljkaaGreatDoorProg
import Derived.Test.YtcghbgmmgcljkaaGreatDoorPkA
import Derived.Shelf.Strings.Builder1
import Derived.Defers
open Array renaming getElem?_eq_getElem→abc,length_toList→acu
open Bool renaming and_eq_true→aaT,or_eq_false_iff→ab3,or_eq_true→abo,true_and→acb
open Int renaming emod_emod_of_dvd→ad3,emod_eq_of_lt→acQ,emod_lt_of_pos→ac0,emod_nonneg→acC,natCast_dvd_natCast→adi,pow_succ→aeh,toNat_natCast→aaQ,toNat_of_nonneg→acs
open List renaming all_eq_true→aa1,any_eq_true→abM,append_assoc→abW,append_eq_nil_iff→adU,append_nil→acK,drop_drop→acm,drop_zero→aa8,eq_nil_of_length_eq_zero→abl,filterMap_cons→acE,filter_cons→adL,getElem?_append_left→aba,getElem?_append_right→aa5,getElem?_eq_getElem→aaO,getElem?_eq_some_iff→aaP,getElem?_map→aaR,getElem?_range→ab7,getElem?_take→aa9,getElem_of_mem→ac_,length_cons→aaW,length_map→aaS,map→ac7,map_append→abG,map_cons→aaY,map_map→abq,map_nil→abE,mem_append→abU,mem_append_left→ab2,mem_append_right→acy,mem_cons→aa4,mem_cons_of_mem→aaX,mem_cons_self→aa2,mem_filter→ada,mem_filterMap→ack,mem_map→abg,mem_map_of_mem→abu,mem_of_getElem?→aaV,take_of_length_le→abt
open List.cons renaming injEq→abD
open Nat renaming add_sub_cancel→ady,and_mod_two_pow→ad7,beq→abI,beq_refl→acF,ble→acW,blt→aci,blt_eq→acq,eq_of_beq_eq_true→abw,le_of_eq→aee,le_refl→abe,mod_lt→adf,mod_two_eq_zero_or_one→ab5,mul_le_mul_right→aa_,pow_dvd_pow→adR,pow_le_pow_right→acd,pow_one→aej,strongRecOn→adq,succ_mul→abs,xor_mod_two_pow→ad6,zero_add→aaU
open Ne renaming symm→ab8
open Option renaming bind_eq_some_iff→acr,bind_some→aaJ,isSome_iff_exists→adc,map_eq_some_iff→aa0,map_some→abf
open Option.some renaming inj→abO,injEq→aaN
open Prod.mk renaming injEq→abn
noncomputable section
set_option linter.unusedSectionVars false
set_option linter.unusedSimpArgs false
set_option linter.unusedVariables false
section
namespace Go.Tx
open Go.Awp
variable [Inhabited GMem]
section
variable {V:iF}
mutual
def TV.plain:TV V.N->Bool
 | .lf .. =>true
 | .raw _=>true
 | .rp .. =>true
 | .junk=>true
 | .agg cs=>TV.plainL cs
 | .tup vs=>TV.plainL vs
 | .fn _ a b=>TV.plainL a&&TV.plainL b
 |_=>false
def TV.plainL:List (TV V.N)->Bool
 |[]=>true
 |x::r=>TV.plain x&&TV.plainL r
end
mutual
theorem plain_has:∀{x:TV V.N},TV.plain x=true->∀n,TV.has n x=false
 | .lf ..,_,n=>by simp[TV.has]
 | .raw _,_,n=>by simp[TV.has]
 | .rp ..,_,n=>by simp[TV.has]
 | .junk,_,n=>by simp[TV.has]
 | .agg cs,h,n=>by simp only[TV.plain]at h;simp only[TV.has];exact plainL_has h n
 | .tup cs,h,n=>by simp only[TV.plain]at h;simp only[TV.has];exact plainL_has h n
 | .fn f a b,h,n=>by
  simp only[TV.plain,aaT]at h
  simp only[TV.has,plainL_has h.1 n,plainL_has h.2 n];rfl
 | .bp ..,h,n=>by simp[TV.plain]at h
 | .vh ..,h,n=>by simp[TV.plain]at h
 | .ep ..,h,n=>by simp[TV.plain]at h
 | .sv ..,h,n=>by simp[TV.plain]at h
 | .mp ..,h,n=>by simp[TV.plain]at h
 | .np ..,h,n=>by simp[TV.plain]at h
 | .sd ..,h,n=>by simp[TV.plain]at h
 | .ai ..,h,n=>by simp[TV.plain]at h
theorem plainL_has:∀{l:List (TV V.N)},TV.plainL l=true->∀n,TV.hasL n l=false
 |[],_,n=>by simp[TV.hasL]
 |x::r,h,n=>by
  simp only[TV.plainL,aaT]at h
  simp only[TV.hasL,plain_has h.1 n,plainL_has h.2 n];rfl
end
theorem uU{x:TV V.N}(h:TV.plain x=true)(ω ω':Nat->Nat):aL V ω' x=aL V ω x:=jp x λn hn=>by rw[plain_has h n]at hn;cases hn
def Ty.flat{ι:Type}:Ty ι->Bool
 | .int _=>true
 | .bool=>true
 | .str=>true
 |_=>false
def hI:TV V.N->Bool
 | .lf t x=>(bK V t x).all λl=>l.t.flat
 |_=>false
def iO:TV V.N->Bool
 | .tup vs=>vs.all hI
 |x=>hI x
theorem wC{x:TV V.N}(h:hI x=true):TV.plain x=true:=by
 cases x<;>first|rfl|(simp[hI]at h;done)
theorem AB{x:TV V.N}(h:iO x=true):TV.plain x=true:=by
 cases x with
 |tup vs=>
  simp only[iO,aa1]at h
  simp only[TV.plain]
  have:∀l:List (TV V.N),(∀x∈l,hI x=true)->TV.plainL l=true:=by
   intro l
   induction l with
   |nil=>intro _;rfl
   |cons y r ih=>intro h;simp only[TV.plainL,aaT];exact⟨wC (h y aa2),ih λx hx=>h x (aaX _ hx)⟩
  exact this vs h
 |lf t x=>rfl
 |raw _=>rfl
 |rp a b c=>rfl
 |junk=>rfl
 |agg cs=>simp[iO,hI]at h
 |fn f a b=>simp[iO,hI]at h
 |bp a b=>simp[iO,hI]at h
 |vh a=>simp[iO,hI]at h
 |ep a b c d=>simp[iO,hI]at h
 |sv a b c d=>simp[iO,hI]at h
 |mp a=>simp[iO,hI]at h
 |np a b=>simp[iO,hI]at h
 |sd a=>simp[iO,hI]at h
 |ai a b c d=>simp[iO,hI]at h
theorem iK{l:dW V.N}(h:l.t.flat=true){M M':Mem}{v:Value}(hv:df M v (bC V.sz V.enc l.t l.x)):df M' v (bC V.sz V.enc l.t l.x):=by
 obtain⟨t,x⟩:=l
 cases t with
 |int k=>simp only[bC]at hv⊢;cases hv;exact .v _
 |bool=>simp only[bC]at hv⊢;cases hv;exact .v _
 |str=>simp only[bC]at hv⊢;cases hv;exact .v _
 |st i=>simp[Ty.flat]at h
 |sl e=>simp[Ty.flat]at h
 |mp k v=>simp[Ty.flat]at h
 |er=>simp[Ty.flat]at h
 |op e=>simp[Ty.flat]at h
 |fnc=>simp[Ty.flat]at h
 |fno=>simp[Ty.flat]at h
 |ar n e=>simp[Ty.flat]at h
theorem ua{x:TV V.N}(h:hI x=true){ω:Nat->Nat}{E E':Env}{M M':Mem}{v:Value}(hv:bO E M v (aL V ω x)):bO E' M' v (aL V ω x):=by
 cases x with
 |lf t x=>
  simp only[hI,aa1]at h
  simp only[aL]at hv⊢
  cases hv with
  |d hd=>
   refine .d ?_
   cases t with
   |st i=>
    simp only[bC]at hd⊢
    rw[V.enc_cells]at hd⊢
    cases hd with
    |agg cs _ hl hh=>
     refine .agg cs _ hl λk c y hc hy=> ?_
     rw[aaR]at hy
     cases hq:(V.cells i x)[k]? with
     |none=>rw[hq]at hy;cases hy
     |some l=>
      rw[hq]at hy;simp at hy;subst hy
      exact iK (h l (aaV hq)) (hh k c _ hc (by rw[aaR,hq];rfl))
   |int k=>exact iK (l:=⟨.int k,x⟩) rfl hd
   |bool=>exact iK (l:=⟨.bool,x⟩) rfl hd
   |str=>exact iK (l:=⟨.str,x⟩) rfl hd
   |sl e=>simp[bK,Ty.flat]at h
   |mp k v=>simp[bK,Ty.flat]at h
   |er=>simp[bK,Ty.flat]at h
   |op e=>simp[bK,Ty.flat]at h
   |fnc=>simp[bK,Ty.flat]at h
   |fno=>simp[bK,Ty.flat]at h
   |ar n e=>
    simp only[bC]at hd⊢
    rw[c6]at hd⊢
    cases hd with
    |agg cs _ hl hh=>
     refine .agg cs _ hl λk c y hc hy=> ?_
     rw[aaR]at hy
     cases hq:(bK V (.ar n e) x)[k]? with
     |none=>rw[hq]at hy;cases hy
     |some l=>
      rw[hq]at hy;simp at hy;subst hy
      exact iK (h l (aaV hq)) (hh k c _ hc (by rw[aaR,hq];rfl))
 |_=>simp[hI]at h
theorem Hr{x:TV V.N}(h:iO x=true){ω:Nat->Nat}{E E':Env}{M M':Mem}{v:Value}(hv:bO E M v (aL V ω x)):bO E' M' v (aL V ω x):=by
 cases x with
 |tup vs=>
  simp only[iO,aa1]at h
  simp only[aL]at hv⊢
  obtain⟨cs,rfl,h1,h2⟩:=hv.htup
  refine .tup cs _ h1 λi c y hc hy=> ?_
  rw[aU,aaR]at hy
  cases hq:vs[i]? with
  |none=>rw[hq]at hy;cases hy
  |some u=>
   rw[hq]at hy;simp at hy;subst hy
   exact ua (h u (aaV hq)) (h2 i c _ hc (by rw[aU,aaR,hq];rfl))
 |lf t x=>exact ua (x:= .lf t x) (by simpa[iO]using h) hv
 |_=>simp[iO,hI]at h
def dr(own:List (Nat×Own))(a a0:H):Prop:=∀(E:Env) (M:Mem) (w:World) (v:Value),M.le (gi w)->Mu E M w own->bO E M v a->bO E (gi w) v a0
theorem dr.le{own:List (Nat×Own)}{a a0:H}(h:H.le a a0):dr own a a0:=λE M w v hM _ hv=>(h E M v hv).le hM
theorem dr.agg{own:List (Nat×Own)}{l l0:List H}(hl:l0.length=l.length)(h:∀(i:Nat) (a a0:H),l[i]?=some a->l0[i]?=some a0->dr own a a0):dr own (.agg l) (.agg l0):=λE M w v hM ho hv=>by
 obtain⟨cs,rfl,h1,h2⟩:=hv.hagg
 refine .agg cs l0 (by omega) λi c x hc hx=> ?_
 have hi:i<l.length:=by rw[<-hl];exact(aaP.1 hx).1
 exact h i _ x (aaO hi) hx E M w c hM ho (h2 i c _ hc (aaO hi))
theorem dr.vh{own:List (Nat×Own)}{n e sz:Nat}{rows:List (List D)}(h1:gt own n=some (.vec e sz rows)):dr own (.vh n rows.length) (.d (.sl sz rows)):=λE M w v hM ho hca=>by
 obtain⟨xs,g1,g2,g3,g4⟩:=ho.ok n _ h1
 refine .d ?_
 cases hca with
 |vh n len l cc a hE hle=>
  rcases g1.2 with⟨hnil,hz⟩|⟨g,cap,cur,hE',hbg,hg,hnc,hcm,hcs,htake⟩
  ·rw[hE]at hnil
   simp only[Value.slice.injEq]at hnil
   obtain⟨rfl,rfl,rfl⟩:=hnil
   have:rows=[]:=abl hz
   subst this
   exact .slnil sz
  ·rw[hE]at hE'
   simp only[Value.slice.injEq]at hE'
   obtain⟨rfl,rfl,rfl⟩:=hE'
   refine .sl g 0 _ _ sz rows (λk=>xs.getD k undef) rfl hnc g2 (λk hk=> ?_) λi j r x hr' hx=> ?_
   ·have hxk:k<xs.length:=by rw[g1.1];exact hk
    obtain⟨u,hu⟩:∃u,xs[k]?=some u:=⟨_,aaO hxk⟩
    have hq:w.cell? ⟨g,k,none⟩=some u:=by
     rw[cell_of_row w g k cur e (0,0) hg]
     have hu':=hu
     rw[<-htake,aa9,aep hk]at hu'
     simpa using hu'
    simp[gi,hq,hu]
   ·have hlr:=g2 r (aaV hr')
    have hir:i<rows.length:=(aaP.1 hr').1
    have hj:j<sz:=by have:=(aaP.1 hx).1;omega
    have hmul:(i+1) *sz<=rows.length *sz:=aa_ _ hir
    rw[abs]at hmul
    have hxk:i *sz+j<xs.length:=by rw[g1.1];omega
    have:=g3 i j r xs[i *sz+j] x hr' hx (aaO hxk)
    have hg':xs.getD (i *sz+j) undef=xs[i *sz+j]:=by simp[hxk]
    rw[hg']
    exact this.mono hM
def uo:TO V.N->Option (dW V.N)
 | .vec _ e xs=>some ⟨.sl e,xs⟩
 |_=>none
theorem kE{o:TO V.N}{l0:dW V.N}(h:uo o=some l0):∃x:Own,(∀ω,ct V ω o=some x)/\∀(own:List (Nat×Own)) (n:Nat),gt own n=some x->dr own (.vh n (TO.len (some o))) (.d (bC V.sz V.enc l0.t l0.x)):=by
 unfold uo at h
 split at h
 ·rename_i te e xs
  cases h
  refine⟨_,λω=>rfl,λown n hn=> ?_⟩
  have:=dr.vh hn
  rw[aaS]at this
  exact this
 ·cases h
theorem XX{P:Program}{f:FuncId}{args0 args:List H}{r:H}{own:List (Nat×Own)}(h:l_ P f args0 [] r [])(hl:args.length=args0.length)
 (ha:∀(i:Nat) (a a0:H),args[i]?=some a->args0[i]?=some a0->dr own a a0)
 (hr:∀(E E':Env) (M M':Mem) (v:Value),bO E M v r->bO E' M' v r):KV P f args own r own:=by
 refine⟨h.1,λE M w vs hgm hm ho hvs=> ?_⟩
 have hM:M.le (gi w):=λb o v hv=>hm b o v hv
 have hrep:gC E (gi w) vs args0:=by
  refine⟨hvs.1.trans hl,λi c x hc hx=> ?_⟩
  have hi:i<args.length:=by rw[hl];exact(aaP.1 hx).1
  have hca:=hvs.2 i c _ hc (aaO hi)
  exact ha i _ x (aaO hi) hx E M w c hM ho hca
 refine(h.2 E (gi w) w vs (hgm.mono hM λ_ _ _=>rfl) (λb o v hv=>hv) ⟨λn o hn=>by simp[gt]at hn,λn m o o' b _ hn=>by simp[gt]at hn⟩ hrep).mono ?_
 rintro e w' ⟨v,E',M',rfl,hp⟩
 have hfr:∀b,b<w.heap.size->w'.heap[b]?=w.heap[b]?:=λb hb=>hp.frame b hb λ⟨n,o,hn,_⟩=>by simp[gt]at hn
 have hft:∀n o,gt own n=some o->∀b,o.foot w' (E n) b->o.foot w (E n) b:=λn o hn b hb=>((ho.ok n o hn).foot_keep (λb hb=>hfr b ((ho.ok n o hn).block hb).1) b).1 hb
 refine⟨v,E,M,rfl,{rep:=hr _ _ _ _ _ hp.rep,owns:=⟨λn o hn=> ?_,λn m o o' b hne hn hm hb hb'=>ho.apart n m o o' b hne hn hm (hft n o hn b hb) (hft m o' hm b hb')⟩,mle:=Mem.le_refl _,mem:=λb o v hv=>hp.mem b o v (hp.mle b o v (hm b o v hv)),mnew:=λb o v hv=> .inl hv,home:=λn o b hn hb=> .inl ⟨n,o,hn,hft n o hn b hb⟩,frame:=λk hk _=>hfr k hk,grows:=hp.grows,os:=hp.os,tape:=hp.tape,output:=hp.output,env:=λ_ _=>rfl},λ_ _=>rfl⟩
 have hok:=ho.ok n o hn
 refine hok.keep rfl (λb hb=>hfr b (hok.block hb).1) (λ_ _=>rfl) (Mem.le_refl _) λb hb=>(hok.block hb).2
def K3(S:TS V.N):List (Ty V.ι)->List (TV V.N)->Option (List (Nat×TO V.N)×List (dW V.N))
 |[],[]=>some ([],[])
 | .sl _::ts, .vh n::xs=>match S.own? n with
  |some o=>match uo o with
   |some l0=>match K3 S ts xs with
    |some (l,ls)=>some ((n,o)::l,l0::ls)
    |none=>none
   |none=>none
  |_=>none
 |t::ts,x::xs=>match md V false t x with
  |some l0=>match K3 S ts xs with
   |some (l,ls)=>some (l,l0::ls)
   |none=>none
  |none=>none
 |_,_=>none
def QV:List (TV V.N)->Bool
 |[]=>false
 | .vh _::_=>true
 |_::r=>QV r
def TR(S:TS V.N):Pt V.ι->TV V.N->Option (List (Nat×TO V.N)×List (dW V.N))
 | .dat (.sl e), .vh n=>match S.own? n with
  |some o=>match uo o with
   |some l0=>if l0.t= .sl e then some ([(n,o)],[l0])else none
   |none=>none
  |_=>none
 | .dat (.st i), .agg vs=>match QV vs with
  |true=>match K3 S (V.tys i) vs with
   |some (p::l,ls)=>match V.ofCells i ls with
    |some y=>some (p::l,[⟨.st i,y⟩])
    |none=>none
   |_=>none
  |false=>match mt1 V [] (.dat (.st i)) (.agg vs)with
   |some (_,ls)=>some ([],ls)
   |none=>none
 | .dat t,x=>match mt1 V [] (.dat t) x with
  |some (_,ls)=>some ([],ls)
  |none=>none
 | .fn f [] [], .fn f' [] []=>if f=f' then some ([],[])else none
 |_,_=>none
def vT(S:TS V.N):List (Pt V.ι)->List (TV V.N)->Option (List (Nat×TO V.N)×List (dW V.N))
 |[],[]=>some ([],[])
 |p::ps,x::xs=>match TR S p x with
  |some (l,ls)=>match vT S ps xs with
   |some (l',ls')=>some (l++l',ls++ls')
   |none=>none
  |none=>none
 |_,_=>none
def cv(P:Program)(sig:Sig V)(F:HL V.N sig.tys->Option (HL V.N sig.rcut.tys))(A:Type)(args:List (TV V.N))(S:TS V.N)(k:TE V.N->Option A):Option A:=
 match vT S sig.params args with
 |some (lent,ls)=>match Mi sig.tys ls with
  |some v=>F v>>=λr=>match GO P sig r with
   |some x=>match lent with
    |[]=>match TV.plain x with
     |true=>k {val:=x}
     |false=>none
    |p::l=>match iO x with
     |true=>k {val:=x,acc:=(p::l).map (·.1),upd:=(p::l)++(p::l).map λq=>(q.1, .gone (TO.len (some q.2)))}
     |false=>none
   |none=>none
  |none=>none
 |none=>none
theorem Ej{σ σ':dz}{t:Ty V.ι}{x:TV V.N}{ls:List (dW V.N)}(h:mt1 V σ (.dat t) x=some (σ',ls)):σ'=σ:=by
 cases x with
 |lf t' y=>
  simp only[mt1]at h
  have:=(aG h).2
  simp only[aaN,abn]at this
  exact this.1.symm
 |raw v=>
  unfold mt1 at h
  split at h<;>first
   |(simp only[aaN,abn]at h;exact h.1.symm)
   |(cases h;done)
   |contradiction
 |agg cs=>
  unfold mt1 at h
  split at h<;>first
   |(split at h
     ·simp only[aaN,abn]at h;exact h.1.symm
     ·cases h)
   |(cases h;done)
   |contradiction
 |_=>simp[mt1]at h
theorem dr.pre{own:List (Nat×Own)}{a b c:H}(h:H.le a b)(k:dr own b c):dr own a c:=λE M w v hM ho hv=>k E M w v hM ho (h E M v hv)
theorem dr.post{own:List (Nat×Own)}{a b c:H}(h:dr own a b)(k:H.le b c):dr own a c:=λE M w v hM ho hv=>k E _ v (h E M w v hM ho hv)
def Mq(own:List (Nat×Own))(l:List (Nat×TO V.N)):Prop:=∀n o,(n,o)∈l->∀x,(∀ω,ct V ω o=some x)->gt own n=some x
theorem lD{S:TS V.N}:∀{ts:List (Ty V.ι)} {xs:List (TV V.N)} {l:List (Nat×TO V.N)} {ls:List (dW V.N)},K3 S ts xs=some (l,ls)->
 xs.length=ls.length/\(∀n o,(n,o)∈l->S.own? n=some o/\∃l0,uo o=some l0)/\
  ∀own:List (Nat×Own),Mq own l->∀(i:Nat) (x:TV V.N) (l0:dW V.N),xs[i]?=some x->ls[i]?=some l0->dr own (aL V S.len x) (.d (bC V.sz V.enc l0.t l0.x))
 |[],[],l,ls,h=>by
  simp[K3]at h;obtain⟨rfl,rfl⟩:=h
  exact⟨rfl,λn o hm=>by simp at hm,λown _ i x l0 hx=>by simp at hx⟩
 |[],_::_,l,ls,h=>by simp[K3]at h
 |_::_,[],l,ls,h=>by unfold K3 at h;split at h<;>first|(cases h;done)|contradiction
 |t::ts,x::xs,l,ls,h=>by
  unfold K3 at h
  split at h
  ·rename_i heq _;cases heq
  ·rename_i e ts' n xs' heq1 heq2
   simp only[abD]at heq1 heq2
   obtain⟨rfl,rfl⟩:=heq1
   obtain⟨rfl,rfl⟩:=heq2
   split at h
   ·rename_i o hn
    split at h
    ·rename_i l00 hl0
     split at h
     ·rename_i l' ls' h2
      simp at h;obtain⟨rfl,rfl⟩:=h
      obtain⟨b1,b2,b3⟩:=lD h2
      refine⟨by simp[b1],λm o hm=> ?_,λown hown i y l0 hy hl=> ?_⟩
      ·rcases aa4.1 hm with he|hm
       ·simp only[abn]at he
        obtain⟨rfl,rfl⟩:=he
        exact⟨hn,_,hl0⟩
       ·exact b2 m o hm
      ·cases i with
       |zero=>
        simp at hy hl;subst hy;subst hl
        obtain⟨x,x1,x2⟩:=kE hl0
        have:=x2 own n (hown n o aa2 x x1)
        simp only[aL]
        unfold TS.len
        rw[hn];exact this
       |succ i=>exact b3 own (λm a hm=>hown m a (aaX _ hm)) i y l0 (by simpa using hy) (by simpa using hl)
     ·cases h
    ·cases h
   ·cases h
  ·rename_i t' ts' x' xs' _ heq1 heq2
   simp only[abD]at heq1 heq2
   obtain⟨rfl,rfl⟩:=heq1
   obtain⟨rfl,rfl⟩:=heq2
   split at h
   ·rename_i l0 hl
    split at h
    ·rename_i l' ls' h2
     simp at h;obtain⟨rfl,rfl⟩:=h
     obtain⟨b1,b2,b3⟩:=lD h2
     refine⟨by simp[b1],b2,λown hown i y l1 hy hl1=> ?_⟩
     cases i with
     |zero=>
      simp at hy hl1;subst hy;subst hl1
      have hls:dC V false [t] [x]=some [l0]:=by simp[dC,hl]
      obtain⟨ds,e1,e2,_⟩:=dc (ω:=S.len) hls
      simp only[encL]at e1
      obtain⟨d,hd⟩:∃d,ds=[d]:=by
       match ds,e1 with
       |[d],_=>exact⟨d,rfl⟩
       |[],e1=>simp at e1
       |_::_::_,e1=>simp at e1
      subst hd
      simp only[aaY,abE,abD,and_true]at e1
      rw[e1]
      obtain⟨d0,g1,g2⟩:=e2.get 0 (bC V.sz V.enc l0.t l0.x) rfl
      simp at g1;subst g1
      refine dr.le λE M a hr=> ?_
      cases hr with
      |d q=>exact .d (g2 M a q)
     |succ i=>exact b3 own hown i y l1 (by simpa using hy) (by simpa using hl1)
    ·cases h
   ·cases h
  ·cases h
theorem z7{S:TS V.N}{p:Pt V.ι}{x:TV V.N}{l:List (Nat×TO V.N)}{ls:List (dW V.N)}(h:TR S p x=some (l,ls)):
 (∃x0,(∀rest,bd1 V p (ls++rest)=some (x0,rest))/\∀ω0:Nat->Nat,(l=[]->H.le (aL V S.len x) (aL V ω0 x0))/\∀own,Mq own l->dr own (aL V S.len x) (aL V ω0 x0))/\
   ∀n o,(n,o)∈l->S.own? n=some o/\∃l0,uo o=some l0:=by
 unfold TR at h
 split at h
 ·rename_i e n
  split at h
  ·rename_i o hn
   split at h
   ·rename_i l0 hl0
    have h':=aG h;clear h
    obtain⟨he,h⟩:=h'
    simp at h;obtain⟨rfl,rfl⟩:=h
    refine⟨⟨.lf l0.t l0.x,λrest=>rfl,λω0=>⟨λhl=>by simp at hl,λown hown=> ?_⟩⟩,λm o' hm=> ?_⟩
    ·obtain⟨x,x1,x2⟩:=kE hl0
     have:=x2 own n (hown n o aa2 x x1)
     simp only[aL]
     unfold TS.len
     rw[hn];exact this
    ·simp at hm
     obtain⟨rfl,rfl⟩:=hm
     exact⟨hn,l0,hl0⟩
   ·cases h
  ·cases h
 ·rename_i i vs
  split at h
  ·split at h
   ·rename_i p0 l0 ls0 hC
    split at h
    ·rename_i y hy
     simp at h;obtain⟨rfl,rfl⟩:=h
     obtain⟨b1,b2,b3⟩:=lD hC
     refine⟨⟨.lf (.st i) y,λrest=>rfl,λω0=>⟨λhl=>by simp at hl,λown hown=> ?_⟩⟩,b2⟩
     have hc:=V.of_cells i ls0 y hy
     simp only[aL,bC]
     refine dr.pre (kI _) (dr.post (dr.agg (l0:=ls0.map λl=> .d (bC V.sz V.enc l.t l.x)) (by rw[aaS,bF];exact b1.symm) λi a a0 ha ha0=> ?_) ?_)
     ·rw[aU,aaR,aa0]at ha
      rw[aaR,aa0]at ha0
      obtain⟨u,hu,rfl⟩:=ha
      obtain⟨l1,hl1,rfl⟩:=ha0
      exact b3 own hown i u l1 hu hl1
     ·have e1:V.enc i y=ls0.map λl=>bC V.sz V.enc l.t l.x:=by rw[V.enc_cells,hc]
      have:=sJ ((ls0.map λl=>bC V.sz V.enc l.t l.x).map H.d)
      rw[cR,dX]at this
      rw[e1]
      rw[abq]at this
      exact this
    ·cases h
   ·cases h
  ·split at h
   ·rename_i σ ls' h1
    simp at h;obtain⟨rfl,rfl⟩:=h
    obtain⟨_,_,_,x0,a1,a2⟩:=o9 h1
    have hσ:=Ej h1
    subst hσ
    have hle:∀ω0:Nat->Nat,H.le (aL V S.len (.agg vs)) (aL V ω0 x0):=λω0 E M v hv=>a2 [] [] E E M S.len ω0 v (Sub.refl _) rfl ⟨λc n hc=>by simp[gt]at hc,λc n hc=>by simp at hc⟩ hv
    exact⟨⟨x0,a1,λω0=>⟨λ_=>hle ω0,λown _=>dr.le (hle ω0)⟩⟩,λn o hm=>by simp at hm⟩
   ·cases h
 ·rename_i t x' hne hne2
  split at h
  ·rename_i σ ls' h1
   simp at h;obtain⟨rfl,rfl⟩:=h
   obtain⟨_,_,_,x0,a1,a2⟩:=o9 h1
   have hσ:=Ej h1
   subst hσ
   have hle:∀ω0:Nat->Nat,H.le (aL V S.len x) (aL V ω0 x0):=λω0 E M v hv=>a2 [] [] E E M S.len ω0 v (Sub.refl _) rfl ⟨λc n hc=>by simp[gt]at hc,λc n hc=>by simp at hc⟩ hv
   exact⟨⟨x0,a1,λω0=>⟨λ_=>hle ω0,λown _=>dr.le (hle ω0)⟩⟩,λn o hm=>by simp at hm⟩
  ·cases h
 ·rename_i f f'
  have h':=aG h;clear h
  obtain⟨he,h⟩:=h'
  subst he
  simp at h;obtain⟨rfl,rfl⟩:=h
  have hle:∀ω0:Nat->Nat,H.le (aL V S.len (.fn f [] [])) (aL V ω0 (.fn f [] []:TV V.N)):=λω0=>by simp only[aL,encL];exact H.le.refl _
  exact⟨⟨.fn f [] [],λrest=>rfl,λω0=>⟨λ_=>hle ω0,λown _=>dr.le (hle ω0)⟩⟩,λn o hm=>by simp at hm⟩
 ·cases h
theorem nX{S:TS V.N}:∀{ps:List (Pt V.ι)} {xs:List (TV V.N)} {l:List (Nat×TO V.N)} {ls:List (dW V.N)},vT S ps xs=some (l,ls)->
 ∃xs0:List (TV V.N),xs0.length=xs.length/\(∀rest,bdL V ps (ls++rest)=some (xs0,rest))/\(∀(i:Nat) (x x0:TV V.N),xs[i]?=some x->xs0[i]?=some x0->
  ∀ω0:Nat->Nat,(l=[]->H.le (aL V S.len x) (aL V ω0 x0))/\∀own,Mq own l->dr own (aL V S.len x) (aL V ω0 x0))/\
  ∀n o,(n,o)∈l->S.own? n=some o/\∃l0,uo o=some l0
 |[],[],l,ls,h=>by
  simp[vT]at h;obtain⟨rfl,rfl⟩:=h
  exact⟨[],rfl,λrest=>rfl,λi x x0 hx=>by simp at hx,λn o hm=>by simp at hm⟩
 |[],_::_,l,ls,h=>by simp[vT]at h
 |_::_,[],l,ls,h=>by simp[vT]at h
 |p::ps,x::xs,l,ls,h=>by
  simp only[vT]at h
  split at h
  ·rename_i l1 ls1 h1
   split at h
   ·rename_i l2 ls2 h2
    simp at h;obtain⟨rfl,rfl⟩:=h
    obtain⟨⟨x0,a1,a2⟩,a3⟩:=z7 h1
    obtain⟨xs0,b1,b2,b3,b4⟩:=nX h2
    refine⟨x0::xs0,by simp[b1],λrest=>by simp only[bdL,abW,a1,b2],λi y y0 hy hy0 ω0=> ?_,λn o hm=> ?_⟩
    ·cases i with
     |zero=>
      simp at hy hy0;subst hy;subst hy0
      exact⟨λhl=>(a2 ω0).1 (adU.1 hl).1,λown hown=>(a2 ω0).2 own λm a hm=>hown m a (ab2 _ hm)⟩
     |succ i=>
      have:=b3 i y y0 (by simpa using hy) (by simpa using hy0) ω0
      exact⟨λhl=>this.1 (adU.1 hl).2,λown hown=>this.2 own λm a hm=>hown m a (acy _ hm)⟩
    ·rcases abU.1 hm with hm|hm
     ·exact a3 n o hm
     ·exact b4 n o hm
   ·cases h
  ·cases h
theorem mQ{own:List (Nat×Own)}:∀{l:List (Nat×Own)},(∀p∈l,∃o,gt own p.1=some o)->eZ own l=[]
 |[],_=>rfl
 |(n,o)::r,h=>by
  obtain⟨o',ho⟩:=h (n,o) aa2
  simp only at ho
  simp only[eZ,ho]
  exact mQ λp hp=>h p (aaX _ hp)
theorem aR{P:Program}{fid:Nat}{sig:Sig V}{F:HL V.N sig.tys->Option (HL V.N sig.rcut.tys)}(hF:aM P fid sig F)(ho:sig.objs=[])(hk0:sig.keep=[]){A:Type}{args:List (TV V.N)}{S:TS V.N}{dst:Option Tmp}
 {k:TE V.N->Option A}{r:A}(h:cv P sig F A args S k=some r):
 ∃te,k te=some r/\good S te/\vJ P fid (encL V S.len args) (a_ V S).own? λe'=>ELe true e' (gB (S.app dst te).len te):=by
 unfold cv at h
 split at h
 ·rename_i lent ls hargs
  split at h
  ·rename_i v hv
   obtain⟨y,hy,h⟩:=ci h
   split at h
   ·rename_i x hx
    have hc:=hF v y x hy hx
    have hkept:ql sig y=[]:=by
     unfold ql
     rw[hk0,List.filter_eq_nil_iff]
     intro p _;simp
    rw[hkept]at hc
    obtain⟨xs0,b1,b2,b3,b4⟩:=nX hargs
    have hls:=tq hv
    have hst:d7 sig v=(xs0,[]):=by
     unfold d7
     rw[hls]
     have:=b2 []
     rw[acK]at this
     rw[this,ho]
     rfl
    have hown0:(cE sig v).own=[]:=by unfold cE;rw[hst]
    rw[hst,hown0]at hc
    simp only[eP,List.filterMap_nil]at hc
    generalize (cE sig v).len=ω0 at hc
    cases lent with
    |nil=>
     simp only at h
     split at h
     ·rename_i hpl
      refine⟨_,h,ju S x [],?_⟩
      have hw:=hc.weak (args':=encL V S.len args) (by rw[bF,bF];exact b1.symm) λi a a0 ha ha0=>by
       rw[aU,aaR,aa0]at ha ha0
       obtain⟨u,hu,rfl⟩:=ha
       obtain⟨u0,hu0,rfl⟩:=ha0
       exact(b3 i u u0 hu hu0 ω0).1 rfl
      have hplH:H.plain (aL V (fk V sig.rcut y).len x)=true:=by
       have:∀z:H,(∀n,H.has n z=false)->H.plain z=true:=by
        intro z
        refine H.rec (motive_1:=λz=>(∀n,H.has n z=false)->H.plain z=true) (motive_2:=λl=>(∀n,H.hasL n l=false)->H.plainL l=true) ?_ ?_ ?_ ?_ ?_ ?_ ?_ ?_ ?_ ?_ ?_ ?_ ?_ ?_ z
        ·intro _ _;rfl
        ·intro _;rfl
        ·intro m o hn;have:=hn m;simp[H.has]at this
        ·intro m o hn;have:=hn m;simp[H.has]at this
        ·intro m s i o hn;have:=hn m;simp[H.has]at this
        ·intro m s i o hn;have:=hn m;simp[H.has]at this
        ·intro m hn;have:=hn m;simp[H.has]at this
        ·intro m b hn;have:=hn m;simp[H.has]at this
        ·intro m hn;have:=hn m;simp[H.has]at this
        ·intro cs ih hn;simp only[H.plain];exact ih λn=>by have:=hn n;simpa[H.has]using this
        ·intro cs ih hn;simp only[H.plain];exact ih λn=>by have:=hn n;simpa[H.has]using this
        ·intro f a b ih1 ih2 hn
         simp only[H.plain,aaT]
         exact⟨ih1 λn=>by have:=hn n;simp only[H.has,ab3]at this;exact this.1,ih2 λn=>by have:=hn n;simp only[H.has,ab3]at this;exact this.2⟩
        ·intro _;rfl
        ·intro x r ih1 ih2 hn
         simp only[H.plainL,aaT]
         exact⟨ih1 λn=>by have:=hn n;simp only[H.hasL,ab3]at this;exact this.1,ih2 λn=>by have:=hn n;simp only[H.hasL,ab3]at this;exact this.2⟩
       exact this _ λn=>by rw[jq];exact plain_has hpl n
      refine zZ hw hplH ?_
      exact tW (dst:=dst) (l:=[]) (uU hpl _ _)
     ·cases h
    |cons p l=>
     simp only at h
     split at h
     ·rename_i hfl
      generalize hL:p::l=L at h hargs b3 b4
      have hpl:=AB hfl
      refine⟨_,h,λm o hm=> ?_,?_⟩
      ·right
       simp only[e_]at hm
       cases hq:gt L m with
       |some o'=>
        rw[hq]at hm;simp at hm;subst hm
        obtain⟨h2,_⟩:=b4 m o' (cV hq)
        unfold TS.len;rw[h2]
       |none=>
        rw[hq]at hm
        have hm':=cV hm
        obtain⟨q,hq1,hq2⟩:=abg.1 hm'
        simp only[abn]at hq2
        obtain⟨rfl,rfl⟩:=hq2
        obtain⟨h2,_⟩:=b4 q.1 q.2 hq1
        unfold TS.len;rw[h2];rfl
      ·let own:List (Nat×Own):=L.filterMap λq=>(ct V S.len q.2).map λo=>(q.1,o)
       have hmap:∀l':List (Nat×TO V.N),(∀n o,(n,o)∈l'->S.own? n=some o/\∃l0,uo o=some l0)->∀ω:Nat->Nat,
        l'.map (λq=>(q.1,ct V ω q.2))=(l'.filterMap λq=>(ct V S.len q.2).map λo=>(q.1,o)).map (λq=>(q.1,some q.2))/\
        (l'.map λq:Nat×TO V.N=>(q.1,TO.gone (N:=V.N) (TO.len (some q.2)))).map (λq=>(q.1,ct V ω q.2))=(l'.filterMap λq=>(ct V S.len q.2).map λo=>(q.1,o)).map (λq=>(q.1,none))/\
        l'.map (·.1)=(l'.filterMap λq=>(ct V S.len q.2).map λo=>(q.1,o)).map (·.1):=by
        intro l'
        induction l' with
        |nil=>intro _ ω;exact⟨rfl,rfl,rfl⟩
        |cons q r ih=>
         intro hq ω
         obtain⟨n,o⟩:=q
         obtain⟨h2,l00,hl0⟩:=hq n o aa2
         obtain⟨i1,i2,i3⟩:=ih (λn o hm=>hq n o (aaX _ hm)) ω
         obtain⟨x0,e0,_⟩:=kE hl0
         simp only[acE,e0,abf,aaY]
         rw[i1,i2,i3]
         exact⟨rfl,rfl,rfl⟩
       have hgt:∀n x,gt own n=some x->∃o,(n,o)∈L/\S.own? n=some o/\ct V S.len o=some x:=by
        intro n x hn
        obtain⟨z,h1,h2⟩:=fa hn
        exact⟨z,h1,(b4 n z h1).1,h2⟩
       have hgt':∀n o,(n,o)∈L->∀x,(∀ω,ct V ω o=some x)->gt own n=some x:=by
        intro n o hn x hx
        have hkey:n∈own.map (·.1):=by rw[<-(hmap L b4 S.len).2.2];exact abu (f:=(·.1)) hn
        obtain⟨x',hxx⟩:=gA hkey
        obtain⟨o',h1,h2,h3⟩:=hgt n x' hxx
        rw[(b4 n o hn).1]at h2;cases h2
        rw[hx]at h3;cases h3
        exact hxx
       have hat:=XX (args:=encL V S.len args) (own:=own) hc (by rw[bF,bF];exact b1.symm) (λi a a0 ha ha0=>by
        rw[aU,aaR,aa0]at ha ha0
        obtain⟨u,hu,rfl⟩:=ha
        obtain⟨u0,hu0,rfl⟩:=ha0
        exact(b3 i u u0 hu hu0 ω0).2 own hgt') (λE E' M M' v hv=>Hr hfl hv)
       refine⟨own,_,own,hat,λq hq=> ?_,?_⟩
       ·obtain⟨z,hz1,hz2⟩:=ack.1 hq
        obtain⟨h2,l00,hl0⟩:=b4 z.1 z.2 hz1
        obtain⟨x0,e0,_⟩:=kE hl0
        rw[e0]at hz2
        simp only[abf,aaN]at hz2
        subst hz2
        rw[bL,h2];exact e0 _
       ·refine cX ?_ ?_ ?_ ?_
        ·exact uU hpl _ _
        ·simp only[g8]
         exact mQ λp hp=>by
          obtain⟨o,hoo⟩:=gA (abu (f:=(·.1)) hp)
          exact⟨o,hoo⟩
        ·simp only[g8,abG]
         obtain⟨i1,i2,_⟩:=hmap L b4 (S.app dst {val:=x,acc:=L.map (·.1),upd:=L++L.map λq=>(q.1, .gone (TO.len (some q.2)))}).len
         rw[i1,i2]
        ·simp only[g8]
         exact(hmap L b4 S.len).2.2.symm
     ·cases h
   ·cases h
  ·cases h
 ·cases h
end
end Go.Tx
end
section
namespace Go.Tx
open Go.Awp
variable [Inhabited GMem]
def aO(f:Func):Code:=match f.body with
 |some c=>c
 |none=> .skip
def cB:Code->List Code
 | .seq a b=>cB a++cB b
 | .block _ x=>cB x
 | .cond _ a b=>cB a++cB b
 | .loop b=>[b]
 | .scope b=>cB b
 |_=>[]
def aS(c:Code)(i:Nat):Code:=match(cB c)[i]? with
 |some b=>b
 |none=> .skip
def jY:Code->List Code
 | .seq a b=>jY a++jY b
 | .block _ x=>jY x
 | .cond _ a b=>jY a++jY b
 | .scope b=>b::jY b
 |_=>[]
def qe(p:Code->Prop):List Code->Prop
 |[]=>True
 |b::r=>p b/\qe p r
theorem eW{p:Code->Prop}:∀{l m:List Code},qe p (l++m)->qe p l/\qe p m
 |[],_,h=>⟨trivial,h⟩
 |_::_,_,h=>⟨⟨h.1,(eW h.2).1⟩,(eW h.2).2⟩
theorem fH{a b:Prop}(h:a=b)(x:a):b:=h▸x
section
variable {V:iF}
def e7(C:Ctx)(X:Xc V)(b:Code):Prop:=∀la,X.loops (cI b)=some la->gD C b la
def Pr(C:Ctx)(X:Xc V)(x:Code):Prop:=∀l la,X.jumps (cI x)=some (l,la)->KY C x l la
theorem HG{C:Ctx}{X:Xc V}:∀{c:Code},qe (e7 C X) (cB c)->qe (Pr C X) (jY c)->LOk C X c:=by
 intro c
 induction c with
 |seq a b iha ihb=>intro h g;exact⟨iha (eW h).1 (eW g).1,ihb (eW h).2 (eW g).2⟩
 |block id x ih=>intro h g;exact ih h g
 |scope x ih=>intro h g;exact⟨ih h g.2,g.1⟩
 |cond c a b iha ihb=>intro h g;exact⟨iha (eW h).1 (eW g).1,ihb (eW h).2 (eW g).2⟩
 |loop b ih=>intro h g;exact h.1
 |_=>intro _ _;trivial
theorem Cn{p:Code->Prop}(h:∀b,p b):∀l:List Code,qe p l
 |[]=>trivial
 |b::r=>⟨h b,Cn h r⟩
theorem eT{C:Ctx}{X:Xc V}{c:Code}(h:qe (e7 C X) (cB c))(hj:∀k,X.jumps k=none:=by intro k;rfl):LOk C X c:=
 HG h (Cn (λx l la e=>by rw[hj]at e;cases e) _)
theorem iX{C:Ctx}{X:Xc V}{b:Code}{la0:m6 V X.sh}(e:X.loops (cI b)=some la0)(h:gD C b la0):e7 C X b:=λla hl=>by
 rw[e]at hl
 cases hl
 exact h
end
end Go.Tx
end
section
namespace Go.Tx
open Go.Awp
variable [Inhabited GMem]
section
variable {ι:Type} {N:ι->Type}
mutual
def TV.ren(f:Nat->Nat):TV N->TV N
 | .bp n o=> .bp (f n) o
 | .vh n=> .vh (f n)
 | .ep n s i o=> .ep (f n) s i o
 | .sv n s i o=> .sv (f n) s i o
 | .mp n=> .mp (f n)
 | .np n b=> .np (f n) b
 | .sd n=> .sd (f n)
 | .ai n s i o=> .ai (f n) s i o
 | .agg cs=> .agg (TV.renL f cs)
 | .tup vs=> .tup (TV.renL f vs)
 | .fn g a b=> .fn g (TV.renL f a) (TV.renL f b)
 | .lf t x=> .lf t x
 | .raw v=> .raw v
 | .rp t x off=> .rp t x off
 | .junk=> .junk
def TV.renL(f:Nat->Nat):List (TV N)->List (TV N)
 |[]=>[]
 |x::r=>TV.ren f x::TV.renL f r
end
def TO.ren(f:Nat->Nat):TO N->TO N
 | .box o cells=> .box o (TV.renL f cells)
 | .bst i x=> .bst i x
 | .vec te e xs=> .vec te e xs
 | .map k v es=> .map k v es
 | .iter s p=> .iter s p
 | .miter m k v es rest cur=> .miter (f m) k v es rest cur
 | .que te e xs=> .que te e xs
 | .maps te k v es al=> .maps te k v es (al.map λq=>(f q.1,q.2))
 | .bar n e xs=> .bar n e xs
 | .alias m=> .alias m
 | .gone l=> .gone l
mutual
def TV.allN(p:Nat->Bool):TV N->Bool
 | .bp n _=>p n
 | .vh n=>p n
 | .ep n _ _ _=>p n
 | .sv n _ _ _=>p n
 | .mp n=>p n
 | .np n _=>p n
 | .sd n=>p n
 | .ai n _ _ _=>p n
 | .agg cs=>TV.allNL p cs
 | .tup vs=>TV.allNL p vs
 | .fn _ a b=>TV.allNL p a&&TV.allNL p b
 | .lf .. =>true
 | .raw _=>true
 | .rp .. =>true
 | .junk=>true
def TV.allNL(p:Nat->Bool):List (TV N)->Bool
 |[]=>true
 |x::r=>TV.allN p x&&TV.allNL p r
end
def TO.allN(p:Nat->Bool):TO N->Bool
 | .box _ cells=>TV.allNL p cells
 | .bst .. =>true
 | .vec .. =>true
 | .map .. =>true
 | .iter .. =>true
 | .miter m _ _ _ _ _=>p m
 | .que .. =>true
 | .maps _ _ _ _ al=>match al with
  |some q=>p q.1
  |none=>true
 | .bar .. =>true
 | .alias _=>false
 | .gone _=>false
end
section
variable {V:iF}
mutual
theorem TV.allN_has{p:Nat->Bool}{n:Nat}:∀{x:TV V.N},TV.allN p x=true->TV.has n x=true->p n=true
 | .bp m o,h,hn=>by simp[TV.has]at hn;subst hn;simpa[TV.allN]using h
 | .vh m,h,hn=>by simp[TV.has]at hn;subst hn;simpa[TV.allN]using h
 | .ep m s i o,h,hn=>by simp[TV.has]at hn;subst hn;simpa[TV.allN]using h
 | .sv m s i o,h,hn=>by simp[TV.has]at hn;subst hn;simpa[TV.allN]using h
 | .mp m,h,hn=>by simp[TV.has]at hn;subst hn;simpa[TV.allN]using h
 | .np m b,h,hn=>by simp[TV.has]at hn;subst hn;simpa[TV.allN]using h
 | .sd m,h,hn=>by simp[TV.has]at hn;subst hn;simpa[TV.allN]using h
 | .ai m s i o,h,hn=>by simp[TV.has]at hn;subst hn;simpa[TV.allN]using h
 | .agg cs,h,hn=>by simp only[TV.allN]at h;simp only[TV.has]at hn;exact TV.allNL_has h hn
 | .tup cs,h,hn=>by simp only[TV.allN]at h;simp only[TV.has]at hn;exact TV.allNL_has h hn
 | .fn f a b,h,hn=>by
  simp only[TV.allN,aaT]at h
  simp only[TV.has,abo]at hn
  rcases hn with hn|hn
  ·exact TV.allNL_has h.1 hn
  ·exact TV.allNL_has h.2 hn
 | .lf ..,h,hn=>by simp[TV.has]at hn
 | .raw _,h,hn=>by simp[TV.has]at hn
 | .rp ..,h,hn=>by simp[TV.has]at hn
 | .junk,h,hn=>by simp[TV.has]at hn
theorem TV.allNL_has{p:Nat->Bool}{n:Nat}:∀{l:List (TV V.N)},TV.allNL p l=true->TV.hasL n l=true->p n=true
 |[],h,hn=>by simp[TV.hasL]at hn
 |x::r,h,hn=>by
  simp only[TV.allNL,aaT]at h
  simp only[TV.hasL,abo]at hn
  rcases hn with hn|hn
  ·exact TV.allN_has h.1 hn
  ·exact TV.allNL_has h.2 hn
end
theorem TO.allN_has{p:Nat->Bool}{n:Nat}{o:TO V.N}(h:TO.allN p o=true)(hn:TO.has n o=true):p n=true:=by
 cases o with
 |box oty cells=>exact TV.allNL_has h hn
 |bst i x=>simp[TO.has]at hn
 |vec te e xs=>simp[TO.has]at hn
 |map k v es=>simp[TO.has]at hn
 |iter s p=>simp[TO.has]at hn
 |miter m k v es rest cur=>simp[TO.has]at hn;subst hn;exact h
 |que te e xs=>simp[TO.has]at hn
 |maps te k v es al=>
  cases al with
  |none=>simp[TO.has]at hn
  |some q=>simp[TO.has]at hn;subst hn;exact h
 |bar m e xs=>simp[TO.has]at hn
 |alias m=>simp[TO.has]at hn
 |gone l=>simp[TO.has]at hn
mutual
theorem H.allN_of{p:Nat->Bool}:∀{x:H},(∀n,H.has n x=true->p n=true)->H.allN p x=true
 | .bp m o,h=>by simp only[H.allN];exact h m (by simp[H.has])
 | .vh m l,h=>by simp only[H.allN];exact h m (by simp[H.has])
 | .ep m s i o,h=>by simp only[H.allN];exact h m (by simp[H.has])
 | .sv m s i o,h=>by simp only[H.allN];exact h m (by simp[H.has])
 | .mp m,h=>by simp only[H.allN];exact h m (by simp[H.has])
 | .np m b,h=>by simp only[H.allN];exact h m (by simp[H.has])
 | .sd m,h=>by simp only[H.allN];exact h m (by simp[H.has])
 | .agg cs,h=>by simp only[H.allN];exact H.allNL_of λn hn=>h n (by simpa[H.has]using hn)
 | .tup cs,h=>by simp only[H.allN];exact H.allNL_of λn hn=>h n (by simpa[H.has]using hn)
 | .fn f a b,h=>by
  simp only[H.allN,aaT]
  exact⟨H.allNL_of λn hn=>h n (by simp[H.has,hn]),H.allNL_of λn hn=>h n (by simp[H.has,hn])⟩
 | .d _,h=>by simp[H.allN]
 | .junk,h=>by simp[H.allN]
theorem H.allNL_of{p:Nat->Bool}:∀{l:List H},(∀n,H.hasL n l=true->p n=true)->H.allNL p l=true
 |[],h=>by simp[H.allNL]
 |x::r,h=>by
  simp only[H.allNL,aaT]
  exact⟨H.allN_of λn hn=>h n (by simp[H.hasL,hn]),H.allNL_of λn hn=>h n (by simp[H.hasL,hn])⟩
end
theorem yd(f:Nat->Nat):∀l:List H,gE (H.renL f l)=gE l
 |[]=>rfl
 |x::r=>by
  have ih:=yd f r
  cases x<;>simp[H.renL,H.ren,gE,ih]
theorem Ei(f:Nat->Nat)(l:List H):H.ren f (cR l)=cR (H.renL f l):=by
 unfold cR
 rw[yd]
 split<;>simp[H.ren]
theorem Aw(f:Nat->Nat)(v:Value):H.ren f (cy v)=cy v:=by cases v<;>simp[cy,H.ren]
mutual
theorem yr{f:Nat->Nat}{ω ω':Nat->Nat}:∀x:TV V.N,(∀n,TV.has n x=true->ω' (f n)=ω n)->aL V ω' (TV.ren f x)=H.ren f (aL V ω x)
 | .bp m o,h=>by simp[TV.ren,aL,H.ren]
 | .vh m,h=>by simp[TV.ren,aL,H.ren,h m (by simp[TV.has])]
 | .ep m s i o,h=>by simp[TV.ren,aL,H.ren]
 | .sv m s i o,h=>by simp[TV.ren,aL,H.ren]
 | .mp m,h=>by simp[TV.ren,aL,H.ren]
 | .np m b,h=>by simp[TV.ren,aL,H.ren]
 | .sd m,h=>by simp[TV.ren,aL,H.ren]
 | .ai m s i o,h=>by simp[TV.ren,aL,H.ren]
 | .agg cs,h=>by simp only[TV.ren,aL,Ei];rw[encL_ren cs λn hn=>h n (by simpa[TV.has]using hn)]
 | .tup cs,h=>by simp only[TV.ren,aL,H.ren];rw[encL_ren cs λn hn=>h n (by simpa[TV.has]using hn)]
 | .fn g a b,h=>by
  simp only[TV.ren,aL,H.ren]
  rw[encL_ren a λn hn=>h n (by simp[TV.has,hn]),encL_ren b λn hn=>h n (by simp[TV.has,hn])]
 | .lf t x,h=>by simp[TV.ren,aL,H.ren]
 | .raw v,h=>by simp[TV.ren,aL,Aw]
 | .rp t x o,h=>by simp[TV.ren,aL,H.ren]
 | .junk,h=>by simp[TV.ren,aL,H.ren]
theorem encL_ren{f:Nat->Nat}{ω ω':Nat->Nat}:∀l:List (TV V.N),(∀n,TV.hasL n l=true->ω' (f n)=ω n)->encL V ω' (TV.renL f l)=H.renL f (encL V ω l)
 |[],h=>rfl
 |x::r,h=>by
  simp only[TV.renL,encL,H.renL]
  rw[yr x λn hn=>h n (by simp[TV.hasL,hn]),encL_ren r λn hn=>h n (by simp[TV.hasL,hn])]
end
theorem xl(f:Nat->Nat):∀l:List D,H.renL f (l.map .d)=l.map .d
 |[]=>rfl
 |x::r=>by simp only[aaY,H.renL,H.ren,xl f r]
theorem Ho{f:Nat->Nat}{ω ω':Nat->Nat}(o:TO V.N)(h:∀n,TO.has n o=true->ω' (f n)=ω n):ct V ω' (TO.ren f o)=(ct V ω o).map (Own.ren f):=by
 cases o with
 |box oty cells=>simp only[TO.ren,ct,abf,Own.ren];rw[encL_ren cells h]
 |bst i x=>simp only[TO.ren,ct,abf,Own.ren];rw[xl]
 |vec te e xs=>simp[TO.ren,ct,Own.ren]
 |map k v es=>simp[TO.ren,ct,Own.ren]
 |iter s p=>simp[TO.ren,ct,Own.ren]
 |miter m k v es rest cur=>simp[TO.ren,ct,Own.ren]
 |que te e xs=>simp[TO.ren,ct,Own.que,Own.ren]
 |maps te k v es al=>cases al<;>simp[TO.ren,ct,Own.maps,Own.ren]
 |bar m e xs=>simp only[TO.ren,ct,abf,Own.ren];rw[xl]
 |alias m=>simp[TO.ren,ct]
 |gone l=>simp[TO.ren,ct]
theorem KV.weak{P:Program}{f:FuncId}{args args':List H}{own own1 own':List (Nat×Own)}{r:H}(h:KV P f args own r own')
 (ha:∀E M vs,gC E M vs args'->gC E M vs args)(ho:∀E M w,Mu E M w own1->Mu E M w own)(hk:∀n,(∃o,gt own n=some o)↔∃o,gt own1 n=some o)
 (hf:∀E M w,Mu E M w own1->∀b,m9 E w own b->m9 E w own1 b):KV P f args' own1 r own':=by
 refine⟨h.1,λE M w vs hgm hm how hvs=>(h.2 E M w vs hgm hm (ho E M w how) (ha E M vs hvs)).mono ?_⟩
 have hin:∀b,m9 E w own b->m9 E w own1 b:=hf E M w how
 rintro e w' ⟨v,E',M',rfl,hp,hE⟩
 refine⟨v,E',M',rfl,{hp with mnew:=λb o v hv=> ?_,home:=λn o b hn hb=> ?_,frame:=λk hk hx=>hp.frame k hk λh1=>hx (hin k h1)},λn hn=>hE n ?_⟩
 ·rcases hp.mnew b o v hv with h1|h1|h1
  ·exact .inl h1
  ·exact .inr (.inl (hin b h1))
  ·exact .inr (.inr h1)
 ·rcases hp.home n o b hn hb with h1|h1
  ·exact .inl (hin b h1)
  ·exact .inr h1
 ·rcases hn with hn|hn
  ·exact .inl hn
  ·exact .inr ((hk n).2 hn)
end
end Go.Tx
end
section
namespace Go.Tx
open Go.Awp
variable [Inhabited GMem]
section
variable {V:iF}
def DT(n:Nat):List Nat->Bool
 |[]=>false
 |k::r=>abI k n||DT n r
def Ol(ks:List Nat):List Nat->List Nat
 |[]=>[]
 |n::r=>match DT n ks with
  |true=>Ol ks r
  |false=>n::Ol ks r
def fF:Nat->dz->List Nat->dz
 |_,σ,[]=>σ
 |b,σ,c::r=>match gt σ c with
  |some _=>fF b σ r
  |none=>fF (b+1) ((c,b)::σ) r
def LK(sig:Sig V):Bool:=sig.params.all (vH V sig.objs)&&sig.objs.all (λp=>match p.2 with
 | .box _ ps=>ps.all (vH V sig.objs)
 |_=>true)&&sig.objs.all (λp=>acW given p.1)
def BV(S:TS V.N)(n:Nat):TO V.N->Bool
 | .box _ _=>abI (S.len n) 0
 | .bst _ _=>abI (S.len n) 0
 | .map _ _ _=>abI (S.len n) 0
 | .iter _ _=>abI (S.len n) 0
 | .vec _ _ _=>true
 | .que _ _ _=>true
 | .maps _ _ _ _ _=>true
 | .bar _ _ _=>abI (S.len n) 0
 |_=>false
def Dp(S:TS V.N)(sig:Sig V)(τ:dz)(x:TV V.N)(os:List (Nat×TO V.N)):Bool:=
 σok τ&&os.all (λp=>acW given p.1||aci (σf τ p.1) given)&&TV.allN (λn=>(gt os n).isSome) x&&os.all (λp=>TO.allN (λn=>(gt os n).isSome) p.2)&&
  os.all (λp=> !DT p.1 (sig.objs.map (·.1))||BV S (σf τ p.1) p.2)&&eD (os.map (·.1))
def lenO:TO V.N->Option Nat
 | .vec _ _ xs=>some xs.length
 | .que _ _ xs=>some xs.length
 | .maps _ _ _ es _=>some es.length
 |_=>none
def ia(S:TS V.N)(ks:List Nat)(τ:dz):List (Nat×TO V.N)->List (Nat×Nat)
 |[]=>[]
 |(c,o)::r=>match lenO o with
  |some l=>match DT c ks with
   |true=>(l,S.len (σf τ c))::ia S ks τ r
   |false=>ia S ks τ r
  |none=>ia S ks τ r
def yN{A:Type}:List (Nat×Nat)->Option A->Option A
 |[],k=>k
 |(a,b)::r,k=>if a=b then yN r k else none
theorem oZ{A:Type}{x:A}:∀{l:List (Nat×Nat)} {k:Option A},yN l k=some x->k=some x/\∀p∈l,p.1=p.2
 |[],k,h=>⟨h,λp hp=>by cases hp⟩
 |(a,b)::r,k,h=>by
  simp only[yN]at h
  split at h
  ·rename_i hab
   obtain⟨h1,h2⟩:=oZ h
   refine⟨h1,λp hp=> ?_⟩
   rcases aa4.1 hp with rfl|hp
   ·exact hab
   ·exact h2 p hp
  ·cases h
theorem gp{S:TS V.N}{ks:List Nat}{τ:dz}{c:Nat}{x:TO V.N}(hx:lenO x=some (TO.len (some x)))(hi:DT c ks=true):∀{l:List (Nat×TO V.N)},(c,x)∈l->(TO.len (some x),S.len (σf τ c))∈ia S ks τ l
 |(d,o)::r,h=>by
  rcases aa4.1 h with h|h
  ·simp only[abn]at h
   obtain⟨rfl,rfl⟩:=h
   simp only[ia,hx,hi]
   exact aa2
  ·have ih:=gp (S:=S) (τ:=τ) hx hi h
   unfold ia
   split
   ·split
    ·exact aaX _ ih
    ·exact ih
   ·exact ih
def cz(P:Program)(sig:Sig V)(F:HL V.N sig.tys->Option (HL V.N sig.rcut.tys))(A:Type)(args:List (TV V.N))(S:TS V.N)(k:TE V.N->Option A):Option A:=
 match mtL V [] sig.params args with
 |some (σ0,l0)=>match mtO V S σ0 sig.objs with
  |some (σ1,l1)=>match LK sig with
   |true=>match Mi sig.tys (l0++l1)with
    |some v=>F v>>=λr=>match GO P sig r with
     |some x=>match Dp S sig (fF (80000+S.own.length) σ1 ((ql sig r).map (·.1))) x (ql sig r)with
      |true=>yN (ia S (sig.objs.map (·.1)) (fF (80000+S.own.length) σ1 ((ql sig r).map (·.1))) (ql sig r)) (k
       { val:=x.ren (σf (fF (80000+S.own.length) σ1 ((ql sig r).map (·.1))))
         acc:=sig.objs.map λp=>σf σ1 p.1
         upd:=((ql sig r).map λp=>(σf (fF (80000+S.own.length) σ1 ((ql sig r).map (·.1))) p.1,p.2.ren (σf (fF (80000+S.own.length) σ1 ((ql sig r).map (·.1))))))++sig.objs.map λp=>(σf σ1 p.1, .gone (S.len (σf σ1 p.1)))
         new:=Ol (sig.objs.map λp=>σf σ1 p.1) ((ql sig r).map λp=>σf (fF (80000+S.own.length) σ1 ((ql sig r).map (·.1))) p.1)})
      |false=>none
     |none=>none
    |none=>none
   |false=>none
  |none=>none
 |none=>none
theorem kz{n:Nat}:∀{l:List Nat},DT n l=true↔n∈l
 |[]=>by simp[DT]
 |k::r=>by
  simp only[DT,abo,aa4,kz (l:=r)]
  constructor
  ·rintro(h|h)
   ·exact .inl (abw h).symm
   ·exact .inr h
  ·rintro(rfl|h)
   ·exact .inl (by simp)
   ·exact .inr h
theorem oO{α:Type}:∀{l:List (Nat×α)} {n:Nat},gt l n=none↔n∉l.map (·.1)
 |[],n=>by simp[gt]
 |(k,x)::r,n=>by
  rw[aH]
  by_cases hk:k=n
  ·subst hk;simp
  ·rw[aeo hk,oO (l:=r)]
   simp[ab8 hk]
theorem ig{own:List (Nat×Own)}:∀{l:List (Nat×Own)},eZ own l=Ol (own.map (·.1)) (l.map (·.1))
 |[]=>rfl
 |(n,o)::r=>by
  simp only[eZ,aaY,Ol]
  cases hq:gt own n with
  |none=>
   have:DT n (own.map (·.1))=false:=by
    rw[Bool.eq_false_iff];intro h;exact oO.1 hq (kz.1 h)
   simp only[this,ig (l:=r)]
  |some y=>
   have:DT n (own.map (·.1))=true:=kz.2 (abu (f:=(·.1)) (cV hq))
   simp only[this,ig (l:=r)]
theorem jU:∀{l:List Nat} {b:Nat} {σ:dz} {c n:Nat},gt σ c=some n->gt (fF b σ l) c=some n
 |[],b,σ,c,n,h=>h
 |d::r,b,σ,c,n,h=>by
  simp only[fF]
  split
  ·exact jU h
  ·rename_i hd
   refine jU ?_
   rw[aH]
   by_cases hk:d=c
   ·subst hk;rw[hd]at h;cases h
   ·rw[aeo hk];exact h
theorem σf_some{σ:dz}{c n:Nat}(h:gt σ c=some n):σf σ c=n:=by unfold σf;rw[h]
end
end Go.Tx
end
section
namespace Go.Tx
open Go.Awp
variable [Inhabited GMem]
section
variable {V:iF}
theorem oN{α:Type}(q:Nat->Bool):∀(l:List (Nat×α)) (n:Nat) (x:α),gt (l.filter λp=>q p.1) n=some x->gt l n=some x
 |[],n,x,h=>by simp[gt]at h
 |(k,y)::r,n,x,h=>by
  rw[adL]at h
  rw[aH]
  by_cases hk:k=n
  ·subst hk
   rw[aep rfl]
   split at h
   ·rw[aH,aep rfl]at h;exact h
   ·rename_i hq
    have:=cV h
    have:=(ada.1 this).2
    exact(hq this).elim
  ·rw[aeo hk]
   split at h
   ·rw[aH,aeo hk]at h;exact oN q r n x h
   ·exact oN q r n x h
theorem wI{α β:Type}{f:Nat->Nat}{g:α->β}(hf:∀a b,f a=f b->a=b):∀(l:List (Nat×α)) (n:Nat),gt (l.map λp=>(f p.1,g p.2)) (f n)=(gt l n).map g
 |[],n=>by simp[gt]
 |(k,y)::r,n=>by
  rw[aaY,aH,aH]
  by_cases hk:k=n
  ·subst hk;simp
  ·rw[aeo hk,aeo λe=>hk (hf _ _ e)];exact wI hf r n
theorem sV{ks:List Nat}{n:Nat}:∀{l:List Nat},n∈l->n∉ks->n∈Ol ks l
 |[],h,_=>by cases h
 |k::r,h,hn=>by
  simp only[Ol]
  rcases aa4.1 h with rfl|h
  ·split
   ·rename_i hi;exact(hn (kz.1 hi)).elim
   ·exact aa2
  ·split
   ·exact sV h hn
   ·exact aaX _ (sV h hn)
theorem D7(f:Nat->Nat)(o:TO V.N):TO.len (some (TO.ren f o))=TO.len (some o):=by cases o<;>rfl
theorem aP{P:Program}{fid:Nat}{sig:Sig V}{F:HL V.N sig.tys->Option (HL V.N sig.rcut.tys)}(hF:aM P fid sig F){A:Type}{args:List (TV V.N)}{S:TS V.N}{dst:Option Tmp}
 {k:TE V.N->Option A}{r:A}(h:cz P sig F A args S k=some r):
 ∃te,k te=some r/\good S te/\vJ P fid (encL V S.len args) (a_ V S).own? λe'=>ELe true e' (gB (S.app dst te).len te):=by
 unfold cz at h
 split at h
 ·rename_i σ0 l0 h0
  split at h
  ·rename_i σ1 l1 h1
   split at h
   ·rename_i hin
    split at h
    ·rename_i v hv
     obtain⟨y,hy,h⟩:=ci h
     split at h
     ·rename_i x hx
      split at h
      ·rename_i hout
       obtain⟨h,hlens⟩:=oZ h
       have hc:=hF v y x hy hx
       have hls:=tq hv
       obtain⟨a1,a2,a3,xs0,a4,a5,a6⟩:=iZ h0
       obtain⟨b1,b2,os0,b3,b4,b5,b6⟩:=dj h1
       have hst:d7 sig v=(xs0,os0):=by
        unfold d7
        rw[hls,a5 l1]
        simp only[b4]
       have hS:(cE sig v).own=os0:=by unfold cE;rw[hst]
       rw[hst,hS]at hc
       have hlen0:∀c o,gt os0 c=some o->(cE sig v).len c=TO.len (some o):=by
        intro c o ho
        unfold TS.len TS.own?
        rw[hS,ho]
       generalize (cE sig v).len=ω0 at hc hlen0
       generalize hos:ql sig y=os at h hout hc hlens
       have hlen1:∀c o,gt os c=some o->(fk V sig.rcut y).len c=TO.len (some o):=by
        intro c o ho
        rw[<-hos]at ho
        have:=oN (λn=>sig.keep.contains n) (fk V sig.rcut y).own c o ho
        unfold TS.len TS.own?
        rw[this]
       generalize (fk V sig.rcut y).len=ω1 at hc hlen1
       generalize hτ:fF (80000+S.own.length) σ1 (os.map (·.1))=τ at h hout hlens
       have hsub:∀c n,gt σ1 c=some n->gt τ c=some n:=λc n hcn=>by rw[<-hτ];exact jU hcn
       simp only[Dp,aaT,aa1]at hout
       obtain⟨⟨⟨⟨⟨o1,o2⟩,o3⟩,o4⟩,o5⟩,o6⟩:=hout
       simp only[LK,aaT,aa1]at hin
       obtain⟨⟨i1,i2⟩,i3⟩:=hin
       have hfi:=σf_inj o1
       have hbound:∀p∈sig.objs,∃n o,gt σ1 p.1=some n/\S.own? n=some o/\∃z,ct V S.len o=some z:=by
        intro p hp
        have:p.1∈os0.map (·.1):=by rw[b6];exact abu hp
        obtain⟨q,hq,hqe⟩:=abg.1 this
        obtain⟨n,o,q1,q2,_,z,q3,_⟩:=b5 q.1 q.2 hq
        exact⟨n,o,by rw[<-hqe];exact q1,q2,_,q3 S.len⟩
       have hTr:∀E:Env,Tr σ1 sig.objs E (λc=>E (σf τ c)) S.len ω0:=λE=>by
        refine⟨λc n hcn=>by rw[σf_some (hsub c n hcn)],λc n hc' hcn=> ?_⟩
        rw[abM]at hc'
        obtain⟨p,hp,hpn⟩:=hc'
        have hpn:p.1=c:=by simpa using hpn
        have hm:c∈os0.map (·.1):=by rw[b6,<-hpn];exact abu hp
        obtain⟨o,ho⟩:=gA hm
        obtain⟨n',o',q1,q2,q3,_⟩:=b5 c o (cV ho)
        rw[hcn]at q1;cases q1
        rw[hlen0 c o ho,q3];unfold TS.len;rw[q2]
       have hob':∀p∈sig.objs,match p.2 with| .box _ ps=>ps.all (vH V sig.objs)=true|_=>True:=by
        intro p hp
        have:=i2 p hp
        cases hq:p.2 with
        |box oty ps=>rw[hq]at this;simpa using this
        |st i=>trivial
        |vec te e=>trivial
        |map tk tv=>trivial
        |iter=>trivial
        |miter m k v=>trivial
        |que te e=>trivial
        |maps te k v=>trivial
        |bar m e=>trivial
       have hown:∀n o,gt (sig.objs.filterMap λp=>((S.own? (σf σ1 p.1)).bind (ct V S.len)).map λo=>(σf σ1 p.1,o)) n=some o->(S.own? n).bind (ct V S.len)=some o:=by
        intro n o hn
        obtain⟨p,hp,hpe⟩:=ack.1 (cV hn)
        rw[aa0]at hpe
        obtain⟨o',h1,h2⟩:=hpe
        simp only[abn]at h2
        obtain⟨rfl,rfl⟩:=h2
        exact h1
       have hkeys:∀n,n∈(sig.objs.filterMap λp=>((S.own? (σf σ1 p.1)).bind (ct V S.len)).map λo=>(σf σ1 p.1,o)).map (·.1)↔n∈sig.objs.map λp=>σf σ1 p.1:=by
        intro n
        constructor
        ·intro hn
         obtain⟨q,hq,rfl⟩:=abg.1 hn
         obtain⟨p,hp,hpe⟩:=ack.1 hq
         rw[aa0]at hpe
         obtain⟨o',h1,h2⟩:=hpe
         rw[<-h2]
         exact abu (f:=λp=>σf σ1 p.1) hp
        ·intro hn
         obtain⟨p,hp,rfl⟩:=abg.1 hn
         obtain⟨n,o,q1,q2,z,q3⟩:=hbound p hp
         refine abg.2 ⟨(σf σ1 p.1,z),ack.2 ⟨p,hp,?_⟩,rfl⟩
         rw[σf_some q1,q2]
         simp[q3]
       have hex:∀n o,gt (Bt (σf τ) (eP ω0 os0)) n=some o->∃z,(gt (sig.objs.filterMap λp=>((S.own? (σf σ1 p.1)).bind (ct V S.len)).map λo=>(σf σ1 p.1,o)) n=some z)/\(∀E M w,cq E M w n z->cq E M w n o)/\∀(E:Env) M w b,cq E M w n z->o.foot w (E n) b->z.foot w (E n) b:=by
        intro n o hn
        obtain⟨c,o1,rfl,hg,rfl⟩:=ew hfi hn
        obtain⟨t,ht,hto⟩:=fa hg
        obtain⟨n',oS,q1,q2,_,x4,q4,x',q5,q6,q7⟩:=b5 c t ht
        rw[q5]at hto
        simp only[aaN]at hto;subst hto
        have e:σf τ c=n':=σf_some (hsub _ _ q1)
        have hck:c∈sig.objs.map (·.1):=by rw[<-b6];exact abu (f:=(·.1)) ht
        obtain⟨p,hp,hpc⟩:=abg.1 hck
        have hk':=(hkeys n').2 (abg.2 ⟨p,hp,by rw[hpc];exact σf_some q1⟩)
        obtain⟨z,hz⟩:=gA hk'
        have hz':=hown _ _ hz
        rw[q2]at hz'
        simp only[aaJ,q4,aaN]at hz'
        rw[e]
        refine⟨z,hz,λE M w hw=> ?_,λE M w b hw hb=> ?_⟩
        ·rw[<-hz']at hw
         have:=(q6 σ1 sig.objs E _ M w S.len ω0 (Sub.refl _) hob' (hTr E) hw).ren (E':=E) (f:=σf τ) rfl λm _=>rfl
         rw[e]at this
         exact this
        ·rw[Own.ren_foot]at hb
         rw[<-hz']
         exact q7 E (λ_=>E n') M w S.len ω0 b (by rw[<-hz']at hw;exact hw) rfl hb
       have hsome:∀p∈os,∃o,ct V ω1 p.2=some o:=by
        intro p hp
        have:=o4 p hp
        cases hq:p.2 with
        |box oty cells=>exact⟨_,rfl⟩
        |bst i x=>exact⟨_,rfl⟩
        |vec te e xs=>exact⟨_,rfl⟩
        |map tk tv es=>exact⟨_,rfl⟩
        |iter s p=>exact⟨_,rfl⟩
        |miter m k v es rest cur=>exact⟨_,rfl⟩
        |que te e xs=>exact⟨_,rfl⟩
        |maps te k v es al=>exact⟨_,rfl⟩
        |bar m e xs=>exact⟨_,rfl⟩
        |alias m=>rw[hq]at this;simp[TO.allN]at this
        |gone l=>rw[hq]at this;simp[TO.allN]at this
       have hgos:∀n,(gt os n).isSome=true->(gt (eP ω1 os) n).isSome=true:=by
        intro n hn
        obtain⟨o,ho⟩:=adc.1 hn
        obtain⟨z,hz⟩:=hsome _ (cV ho)
        rw[nv ho hz];rfl
       refine⟨_,h,?_,?_⟩
       ·intro m o hm
        simp only[e_]at hm
        split at hm
        ·rename_i o' hq
         simp only[aaN]at hm;subst hm
         obtain⟨p,hp,hpe⟩:=abg.1 (cV hq)
         simp only[abn]at hpe
         obtain⟨rfl,rfl⟩:=hpe
         have h5:=o5 p hp
         rw[abo]at h5
         by_cases hpk:DT p.1 (sig.objs.map (·.1))=true
         ·right
          rcases h5 with h5|h5
          ·rw[hpk]at h5;cases h5
          ·rw[D7]
           cases hpp:p.2 with
           |box oty cells=>rw[hpp]at h5;simp only[BV]at h5;exact(abw h5).symm
           |bst i x=>rw[hpp]at h5;simp only[BV]at h5;exact(abw h5).symm
           |vec te e xs=>exact hlens _ (gp (x:= .vec te e xs) rfl hpk (hpp▸hp))
           |map tk tv es=>rw[hpp]at h5;simp only[BV]at h5;exact(abw h5).symm
           |iter s p=>rw[hpp]at h5;simp only[BV]at h5;exact(abw h5).symm
           |miter m k v es rest cur=>rw[hpp]at h5;cases h5
           |que te e xs=>exact hlens _ (gp (x:= .que te e xs) rfl hpk (hpp▸hp))
           |maps te k v es al=>exact hlens _ (gp (x:= .maps te k v es al) rfl hpk (hpp▸hp))
           |bar m e xs=>rw[hpp]at h5;simp only[BV]at h5;exact(abw h5).symm
           |alias m=>rw[hpp]at h5;cases h5
           |gone l=>rw[hpp]at h5;cases h5
         ·left
          refine sV (abg.2 ⟨p,hp,rfl⟩) λhmem=>hpk (kz.2 ?_)
          obtain⟨q,hq',hqe⟩:=abg.1 hmem
          obtain⟨n,o,q1,_⟩:=hbound q hq'
          rw[σf_some q1,<-σf_some (hsub _ _ q1)]at hqe
          rw[<-hfi _ _ hqe]
          exact abu (f:=(·.1)) hq'
        ·right
         obtain⟨q,hq',hqe⟩:=abg.1 (cV hm)
         simp only[abn]at hqe
         obtain⟨rfl,rfl⟩:=hqe
         rfl
       ·have hat:=hc.ren τ (by
         simp only[OJ,aaT,aa1]
         refine⟨⟨⟨⟨o1,λp hp=> ?_⟩,λp hp=> ?_⟩,?_⟩,λp hp=> ?_⟩
         ·obtain⟨z,hz,hz2⟩:=ack.1 hp
          rw[aa0]at hz2
          obtain⟨o',_,rfl⟩:=hz2
          have:z.1∈sig.objs.map (·.1):=by rw[<-b6];exact abu (f:=(·.1)) hz
          obtain⟨q,hq,hqe⟩:=abg.1 this
          have:=i3 q hq
          rw[hqe]at this
          exact this
         ·obtain⟨z,hz,hz2⟩:=ack.1 hp
          rw[aa0]at hz2
          obtain⟨o',_,rfl⟩:=hz2
          exact o2 z hz
         ·refine H.allN_of λn hn=> ?_
          rw[jq]at hn
          have:=TV.allN_has o3 hn
          rw[abo];exact .inr (hgos n this)
         ·obtain⟨z,hz,hz2⟩:=ack.1 hp
          rw[aa0]at hz2
          obtain⟨o',ho',rfl⟩:=hz2
          have h4:=o4 z hz
          cases o' with
          |box oty cells=>
           simp only[Own.allN]
           refine H.allNL_of λn hn=> ?_
           have:TO.has n z.2=true:=by rw[<-kj ω1 n ho'];exact hn
           have:=TO.allN_has h4 this
           rw[abo];exact .inr (hgos n this)
          |vec e sz rows=>rfl
          |map es=>rfl
          |iter s p=>rfl
          |miter m es rest cur=>
           simp only[Own.allN]
           have:TO.has m z.2=true:=by rw[<-kj ω1 m ho'];exact acF m
           have:=TO.allN_has h4 this
           rw[abo];exact .inr (hgos m this)
          |gen ds G=>
           simp only[Own.allN,aa1]
           intro m hm
           have:TO.has m z.2=true:=by rw[<-kj ω1 m ho'];exact abM.2 ⟨m,hm,acF m⟩
           have:=TO.allN_has h4 this
           rw[abo];exact .inr (hgos m this))
        generalize hownE:(sig.objs.filterMap λp=>((S.own? (σf σ1 p.1)).bind (ct V S.len)).map λo=>(σf σ1 p.1,o))=own at hown hkeys hex
        refine⟨own,_,_,KV.weak (args':=encL V S.len args) (own1:=own) hat (λE M vs hvs=> ?_) (λE M w hw=> ?_) (λn=> ?_) (λE M w hw b hb=> ?_),λp hp=> ?_,?_⟩
        ·refine⟨by rw[hvs.1,H.renL_len,bF,bF,a4],λi c z hcz hz=> ?_⟩
         rw[H.renL_get,aU,aaR,Option.map_map,aa0]at hz
         obtain⟨u0,hu0,rfl⟩:=hz
         have hi:i<args.length:=by rw[<-a4];exact(aaP.1 hu0).1
         have hu:=aaO hi
         obtain⟨_,k2⟩:=a6 i _ u0 hu hu0
         have hr:=hvs.2 i c (aL V S.len args[i]) hcz (by rw[aU,aaR,hu];rfl)
         exact(k2 σ1 sig.objs E _ M S.len ω0 c b1 (aa1.2 i1) (hTr E) hr).ren λn _=>rfl
        ·refine⟨λn o hn=> ?_,λn m o o' b hne hn hm hb=> ?_⟩
         ·obtain⟨z,hz,hz',_⟩:=hex n o hn
          exact hz' E M w (hw.ok n z hz)
         ·obtain⟨z,hz,_,f1⟩:=hex n o hn
          obtain⟨z',hz',_,f2⟩:=hex m o' hm
          exactλhb'=>hw.apart n m z z' b hne hz hz' (f1 E M w b (hw.ok n z hz) hb) (f2 E M w b (hw.ok m z' hz') hb')
        ·constructor
         ·rintro⟨o,ho⟩
          obtain⟨z,hz,_⟩:=hex n o ho
          exact⟨z,hz⟩
         ·rintro⟨o,ho⟩
          have:=(hkeys n).1 (abu (f:=(·.1)) (cV ho))
          obtain⟨p,hp,rfl⟩:=abg.1 this
          have hm:p.1∈os0.map (·.1):=by rw[b6];exact abu hp
          obtain⟨t,ht⟩:=gA hm
          obtain⟨n',oS,q1,q2,_,x4,q4,x',q5,q6⟩:=b5 p.1 t (cV ht)
          refine⟨(x' ω0).ren (σf τ),?_⟩
          rw[σf_some q1,<-σf_some (hsub _ _ q1),iP hfi,nv ht (q5 ω0)]
          rfl
        ·obtain⟨n,o,hn,hb⟩:=hb
         obtain⟨z,hz,_,f1⟩:=hex n o hn
         exact⟨n,z,hz,f1 E M w b (hw.ok n z hz) hb⟩
        ·rw[<-hownE]at hp
         obtain⟨q,hq,hqe⟩:=ack.1 hp
         rw[aa0]at hqe
         obtain⟨o',h1,rfl⟩:=hqe
         rw[bL];exact h1
        ·have hω:∀te:TE V.N,(∀c o,gt os c=some o->gt te.upd (σf τ c)=some (o.ren (σf τ)))->∀c,(gt os c).isSome=true->(S.app dst te).len (σf τ c)=ω1 c:=by
          intro te hte c hcs
          obtain⟨o,ho⟩:=adc.1 hcs
          rw[d6,hte c o ho,hlen1 c o ho]
          exact D7 _ o
         have hkl:own.map (·.1)=sig.objs.map λp=>σf σ1 p.1:=by
          rw[<-hownE]
          have:∀l:List (Nat×OPt V.ι),(∀p∈l,∃n o,gt σ1 p.1=some n/\S.own? n=some o/\∃z,ct V S.len o=some z)->
           (l.filterMap λp=>((S.own? (σf σ1 p.1)).bind (ct V S.len)).map λo=>(σf σ1 p.1,o)).map (·.1)=l.map λp=>σf σ1 p.1:=by
           intro l
           induction l with
           |nil=>intro _;rfl
           |cons p r ih=>
            intro hl
            obtain⟨n,o,q1,q2,z,q3⟩:=hl p aa2
            have e:(S.own? (σf σ1 p.1)).bind (ct V S.len)=some z:=by rw[σf_some q1,q2];exact q3
            simp only[acE,e,abf,aaY]
            rw[ih λq hq=>hl q (aaX _ hq)]
          exact this sig.objs hbound
         have hml:(Bt (σf τ) (eP ω1 os)).map (·.1)=os.map λp=>σf τ p.1:=by
          have:∀l:List (Nat×TO V.N),(∀p∈l,∃o,ct V ω1 p.2=some o)->(Bt (σf τ) (eP ω1 l)).map (·.1)=l.map λp=>σf τ p.1:=by
           intro l
           induction l with
           |nil=>intro _;rfl
           |cons p r ih=>
            intro hl
            obtain⟨o,ho⟩:=hl p aa2
            have:=ih λq hq=>hl q (aaX _ hq)
            unfold Bt eP at this⊢
            simp only[acE,ho,abf,aaY]
            rw[this]
          exact this os hsome
         refine cX ?_ ?_ ?_ ?_
         ·simp only[g8]
          refine(yr x λn hn=>hω _ (λc o ho=> ?_) n (TV.allN_has o3 hn)).symm
          simp only[e_,wI hfi,ho,abf]
         ·simp only[g8]
          rw[ig,hkl]
          rw[hml]
         ·simp only[g8,abG]
          refine congr (congrArg _ ?_) ?_
          ·have:∀(ω2:Nat->Nat) (l:List (Nat×TO V.N)),(∀p∈l,∃o,ct V ω1 p.2=some o)->(∀p∈l,ct V ω2 (TO.ren (σf τ) p.2)=(ct V ω1 p.2).map (Own.ren (σf τ)))->
            (Bt (σf τ) (eP ω1 l)).map (λp=>(p.1,some p.2))=(l.map λp=>(σf τ p.1,TO.ren (σf τ) p.2)).map λp=>(p.1,ct V ω2 p.2):=by
            intro ω2 l
            induction l with
            |nil=>intro _ _;rfl
            |cons p r ih=>
             intro hl hl2
             obtain⟨o,ho⟩:=hl p aa2
             have h2:=hl2 p aa2
             have:=ih (λq hq=>hl q (aaX _ hq)) λq hq=>hl2 q (aaX _ hq)
             unfold Bt eP at this⊢
             simp only[acE,ho,abf,aaY,h2]
             rw[this]
           refine this _ os hsome λp hp=>Ho p.2 λn hn=>hω _ (λc o ho=> ?_) n (TO.allN_has (o4 p hp) hn)
           simp only[e_,wI hfi,ho,abf]
          ·have e:own.map (λp:Nat×Own=>(p.1,(none:Option Own)))=(own.map (·.1)).map λn=>(n,none):=by rw[abq];rfl
           rw[e,hkl,abq,abq]
           rfl
         ·simp only[g8]
          exact hkl
      ·cases h
     ·cases h
    ·cases h
   ·cases h
  ·cases h
 ·cases h
end
end Go.Tx
end
section
namespace Go.Tx
open Go.Awp
variable [Inhabited GMem]
section
variable (V:iF)
mutual
def dQ{H:Type}:DataW H->Nat
 | .lit (.string bs)=>bs.length+1
 | .lit _=>1
 | .nil=>1
 | .ptr d=>dQ d+1
 | .slice elems spare=>dbulkL elems+dbulkL spare+1
 | .agg parts=>dbulkL parts+1
 | .iface _ d=>dQ d+1
 | .map _=>1
 | .held _=>1
def dbulkL{H:Type}:List (DataW H)->Nat
 |[]=>0
 |d::r=>dQ d+dbulkL r
end
theorem lJ{H:Type}:∀l:List (DataW H),dbulkL l=(l.map dQ).sum
 |[]=>by simp[dbulkL]
 |d::r=>by simp[dbulkL,lJ r]
inductive Ok:(t:Ty V.ι)->den V.N t->Prop
 |int {k:IntKind} {n:Int}:(Lit.int k n).wf=true->Ok (.int k) n
 |bool (b:Bool):Ok .bool b
 |str {s:ByteArray}:s.size<=maxLen->Ok .str s
 |sl {e:Ty V.ι} {xs:List (den V.N e)}:xs.length<=maxLen->(∀x∈xs,Ok e x)->Ok (.sl e) xs
 |st {i:V.ι} {x:V.N i}:(∀l∈V.cells i x,Ok l.t l.x)->Ok (.st i) x
inductive Bk:(t:Ty V.ι)->den V.N t->Nat->Prop
 |int {k:IntKind} {n:Int} {m:Nat}:1<=m->Bk (.int k) n m
 |bool {b:Bool} {m:Nat}:1<=m->Bk .bool b m
 |str {s:ByteArray} {m:Nat}:s.size+1<=m->Bk .str s m
 |sl {e:Ty V.ι} {xs:List (den V.N e)} {m:Nat} (ns:List Nat):ns.length=xs.length->(∀(i:Nat) (x:den V.N e) (n:Nat),xs[i]?=some x->ns[i]?=some n->Bk e x n)->ns.sum+1<=m->Bk (.sl e) xs m
 |st {i:V.ι} {x:V.N i} {m:Nat} (ns:List Nat):ns.length=(V.cells i x).length->(∀(j:Nat) (l:dW V.N) (n:Nat),(V.cells i x)[j]?=some l->ns[j]?=some n->Bk l.t l.x n)->ns.sum+1<=m->Bk (.st i) x m
def Bks(ls:List (dW V.N))(m:Nat):Prop:=
 ∃ns:List Nat,ns.length=ls.length/\(∀(j:Nat) (l:dW V.N) (n:Nat),ls[j]?=some l->ns[j]?=some n->Bk V l.t l.x n)/\ns.sum<=m
def yz:Ty V.ι->List (Ty V.ι)
 | .st i=>V.tys i
 |t=>[t]
def QU(P:Program):Nat->List Field->Option (List (Ty V.ι))
 |_,[]=>some []
 |off,f::fs=>match V.ty f.type with
  |some τ=>if f.offset=off/\P.cellsOf f.type=tsz V.sz τ then match QU P (off+tsz V.sz τ) fs with
   |some l=>some (yz V τ++l)
   |none=>none
   else none
  |none=>none
class OkI where ok:V.ι->Bool
variable [OkI V]
def noF:Ty V.ι->Bool
 | .fnc=>false
 | .fno=>false
 | .ar _ _=>false
 | .op _=>false
 | .mp _ _=>false
 | .er=>false
 | .sl e=>noF e
 | .st i=>OkI.ok i
 |_=>true
def bT(P:Program)(t:TypeId):Ty V.ι->Prop
 | .int k=>P.underlying t=some (.int k)
 | .bool=>P.underlying t=some .bool
 | .str=>P.underlying t=some .string
 | .sl e=>∃te,P.underlying t=some (.slice te)/\V.ty te=some e/\P.cellsOf te=tsz V.sz e/\aci 0 (tsz V.sz e)=true
 | .mp _ _=>False
 | .er=>False
 | .op _=>False
 | .fnc=>False
 | .fno=>False
 | .ar _ _=>False
 | .st i=>∃fs:Array Field,P.underlying t=some (.struct fs)/\P.cellsOf t=V.sz i/\QU V P 0 fs.toList=some (V.tys i)
structure GR (P:Program):Prop where
 ty:∀t τ,V.ty t=some τ->noF V τ=true->bT V P t τ
 nof:∀i,OkI.ok i=(V.tys i).all (noF V)
 tys:∀i x,(V.cells i x).map (·.t)=V.tys i
 of:∀i ls,ls.map (·.t)=V.tys i->∃y,V.ofCells i ls=some y
end
section
variable {V:iF} [OkI V] {H0:Type} {enc:TypeId×Value->H0} {P:Program} {W:World} {spare:Nat->Bool} {held:Bool} {base:Nat}
theorem xk{t:TypeId}(hu:P.underlying t=some .string){fuel:Nat}{cs:List Value}{x:DataW H0×List MemPlace}(h:DataW.trod enc P W base spare held fuel t cs=some x):
 ∃s,cs=[.string s]/\s.size<=maxLen:=by
 cases fuel with
 |zero=>cases h
 |succ fuel=>
  unfold DataW.trod at h
  rw[hu]at h
  simp only[]at h
  split at h<;>try(rename_i h1 _;cases h1)
  all_goals try(cases h;done)
  all_goals simp_all
def jP(M:Mem)(cs:List Value)(ls:List (dW V.N)):Prop:=
 cs.length=ls.length/\∀(i:Nat) (c:Value) (l:dW V.N),cs[i]?=some c->ls[i]?=some l->df M c (bC V.sz V.enc l.t l.x)
theorem jP.app{M:Mem}{cs cs':List Value}{ls ls':List (dW V.N)}(h:jP M cs ls)(h':jP M cs' ls'):jP M (cs++cs') (ls++ls'):=by
 refine⟨by simp[h.1,h'.1],λi c l hc hl=> ?_⟩
 by_cases hi:i<cs.length
 ·rw[aba hi]at hc
  rw[aba (by rw[<-h.1];exact hi)]at hl
  exact h.2 i c l hc hl
 ·rw[aa5 (by omega)]at hc
  rw[aa5 (by rw[<-h.1];omega),<-h.1]at hl
  exact h'.2 _ c l hc hl
theorem Bks.app{ls ls':List (dW V.N)}{m m':Nat}(h:Bks V ls m)(h':Bks V ls' m'):Bks V (ls++ls') (m+m'):=by
 obtain⟨ns,h1,h2,h3⟩:=h
 obtain⟨ns',h1',h2',h3'⟩:=h'
 refine⟨ns++ns',by simp[h1,h1'],λj l n hl hn=> ?_,by simp;omega⟩
 by_cases hj:j<ls.length
 ·rw[aba hj]at hl
  rw[aba (by omega)]at hn
  exact h2 j l n hl hn
 ·rw[aa5 (by omega)]at hl
  rw[aa5 (by omega),h1]at hn
  exact h2' _ l n hl hn
theorem Bks.one{t:Ty V.ι}{x:den V.N t}{m:Nat}(h:Bk V t x m):Bks V [⟨t,x⟩] m:=
 ⟨[m],rfl,λj l n hl hn=>by
  cases j with
  |zero=>simp at hl hn;subst hl;subst hn;exact h
  |succ j=>simp at hl,by simp⟩
def Rd(M:Mem)(τ:Ty V.ι)(cs:List Value)(m:Nat):Prop:=
 ∃y:den V.N τ,Ok V τ y/\jP M cs (bK V τ y)/\(bK V τ y).map (·.t)=yz V τ/\(∀l∈bK V τ y,Ok V l.t l.x)/\Bk V τ y m/\Bks V (bK V τ y) m
theorem pG(F:GR V P){M:Mem}{rd:TypeId->List Value->Nat->Prop}(hrd:∀t τ cs m,V.ty t=some τ->noF V τ=true->rd t cs m->Rd (V:=V) M τ cs m){cs:List Value}:∀(fs:List Field) (ms:List Nat) (off:Nat) (l:List (Ty V.ι)),
 QU V P off fs=some l->(∀τ∈l,noF V τ=true)->ms.length=fs.length->(∀(j:Nat) (f:Field) (m:Nat),fs[j]?=some f->ms[j]?=some m->rd f.type ((cs.drop f.offset).take (P.cellsOf f.type)) m)->
 ∃(n:Nat) (ls:List (dW V.N)),ls.map (·.t)=l/\jP M ((cs.drop off).take n) ls/\(∀x∈ls,Ok V x.t x.x)/\n=ls.length/\Bks V ls ms.sum
 |[],ms,off,l,h,_,hm,_=>by
  simp[QU]at h;subst h
  exact⟨0,[],rfl,⟨rfl,λi c l hc=>by simp at hc⟩,(λx hx=>nomatch hx),rfl,[],rfl,λj l n hl=>by simp at hl,by simp⟩
 |f::fs,[],off,l,h,_,hm,_=>by simp at hm
 |f::fs,m::ms,off,l,h,hnf,hm,hf=>by
  simp only[QU]at h
  split at h
  ·rename_i τ hτ
   split at h
   ·rename_i hc
    obtain⟨ho,hsz⟩:=hc
    split at h
    ·rename_i l' hl'
     simp at h;subst h
     obtain⟨n,ls,a1,a2,a3,a4,a5⟩:=pG F hrd fs ms _ l' hl' (λτ hτ=>hnf τ (acy _ hτ)) (by simpa using hm) λj g m hg hm=>hf (j+1) g m (by simpa using hg) (by simpa using hm)
     obtain⟨y,b1,b2,b3,b4,b5,b6⟩:=hrd f.type τ _ m hτ (by
      cases τ with
      |st j=>exact(F.nof j).trans (aa1.2 λτ hτ=>hnf τ (ab2 _ hτ))
      |_=>first|rfl|exact hnf _ (ab2 _ (by simp[yz]))) (hf 0 f m rfl rfl)
     rw[ho,hsz]at b2
     refine⟨tsz V.sz τ+n,bK V τ y++ls,by simp[a1,b3],?_,λx hx=> ?_,by simp[gV,a4],by rw[List.sum_cons];exact b6.app a5⟩
     ·have e:(cs.drop off).take (tsz V.sz τ+n)=(cs.drop off).take (tsz V.sz τ)++(cs.drop (off+tsz V.sz τ)).take n:=by
       rw[List.take_add,acm]
      rw[e]
      exact b2.app a2
     ·rcases abU.1 hx with hx|hx
      ·exact b4 x hx
      ·exact a3 x hx
    ·cases h
   ·cases h
  ·cases h
theorem vd{t:TypeId}{fs:Array Field}(hu:P.underlying t=some (.struct fs)){fuel:Nat}{cs:List Value}{x:DataW H0×List MemPlace}(h:DataW.trod enc P W base spare held (fuel+1) t cs=some x):
 cs.length=P.cellsOf t/\∃ds:List (DataW H0),x.1= .agg ds/\ds.length=fs.toList.length/\∀(i:Nat) (f:Field),fs.toList[i]?=some f->∃y,ds[i]?=some y.1/\DataW.trod enc P W base spare held fuel f.type ((cs.drop f.offset).take (P.cellsOf f.type))=some y:=by
 unfold DataW.trod at h
 rw[hu]at h
 simp only[]at h
 split at h
 ·rename_i hl
  rw[aa0]at h
  obtain⟨ys,hm,hx⟩:=h
  subst hx
  refine⟨hl,ys.map (·.1),rfl,by rw[aaS,(gN hm).1],λi f hf=> ?_⟩
  obtain⟨y,hy1,hy⟩:=(gN hm).2 i f hf
  exact⟨y,by rw[aaR,hy1];rfl,hy⟩
 ·cases h
theorem xj{t e:TypeId}(hu:P.underlying t=some (.slice e)){fuel:Nat}{cs:List Value}{x:DataW H0×List MemPlace}(h:DataW.trod enc P W base spare held (fuel+1) t cs=some x):
 (cs=[.slice none 0 0]/\x.1= .nil)\/∃a len cap,cs=[.slice (some a) len cap]/\len<=cap/\cap<=maxLen/\∃ds sp:List (DataW H0),x.1= .slice ds sp/\ds.length=len/\
   ∀i,i<len->∃row y,W.cells? base (a.add (i *P.cellsOf e)) (P.cellsOf e)=some row/\DataW.trod enc P W base spare held fuel e row=some y/\ds[i]?=some y.1:=by
 unfold DataW.trod at h
 rw[hu]at h
 simp only[]at h
 split at h
 all_goals first
  |(simp only[aaN,reduceCtorEq]at *;done)
  |(left;simp only[aaN]at h;exact⟨rfl,by rw[<-h]⟩)
  |(rename_i a len cap hx
    simp only[aaN,TypeDesc.slice.injEq]at hx
    subst hx
    right
    split at h
    ·rename_i hc
     rw[acr]at h
     obtain⟨ys,hm,h⟩:=h
     rw[aa0]at h
     obtain⟨rest,_,h⟩:=h
     subst h
     refine⟨a,len,cap,rfl,hc.2.1,hc.2.2,ys.map (·.1),rest.map (·.1),rfl,by rw[aaS,(gN hm).1,List.length_range],λi hi=> ?_⟩
     obtain⟨y,hy1,hy⟩:=(gN hm).2 i i (by rw[ab7 hi])
     rw[acr]at hy
     obtain⟨row,h1,h2⟩:=hy
     exact⟨row,y,h1,h2,by rw[aaR,hy1];rfl⟩
    ·cases h)
  |skip
theorem kh{H:Type}(d:DataW H):1<=dQ d:=by
 cases d with
 |lit l=>cases l<;>simp[dQ]
 |_=>simp[dQ]
theorem vc{t:TypeId}(hu:P.underlying t=some .string){fuel:Nat}{cs:List Value}{x:DataW H0×List MemPlace}(h:DataW.trod enc P W base spare held fuel t cs=some x):
 ∃s,cs=[.string s]/\s.size<=maxLen/\dQ x.1=s.size+1:=by
 cases fuel with
 |zero=>cases h
 |succ fuel=>
  obtain⟨s,rfl,hs⟩:=xk hu h
  refine⟨s,rfl,hs,?_⟩
  unfold DataW.trod at h
  rw[hu]at h
  simp only[]at h
  rw[aep hs]at h
  cases h
  show dQ (.lit (.string s.data.toList))=s.data.size+1
  rw[dQ,acu]
theorem oG(τ:Ty V.ι)(y:den V.N τ):bY V.sz V.enc τ y=(bK V τ y).map λl=>bC V.sz V.enc l.t l.x:=c6 τ y
theorem JG(F:GR V P):∀(fuel:Nat) (t:TypeId) (τ:Ty V.ι) (cs:List Value) (x:DataW H0×List MemPlace),V.ty t=some τ->noF V τ=true->DataW.trod enc P W base spare held fuel t cs=some x->Rd (gi W) τ cs (dQ x.1):=by
 intro fuel
 induction fuel using adq with
 |ind fuel ih=>
 intro t τ cs x hty hn h
 have hf:=F.ty t τ hty hn
 cases τ with
 |mp k v=>exact hf.elim
 |er=>exact hf.elim
 |op e=>exact hf.elim
 |fnc=>exact hf.elim
 |fno=>exact hf.elim
 |ar n e=>exact hf.elim
 |int k=>
  obtain⟨n,rfl,hw⟩:=JH hf h
  refine⟨n, .int hw,⟨rfl,λi c l hc hl=> ?_⟩,rfl,λl hl=> ?_, .int (kh _), .one (.int (kh _))⟩
  ·cases i with
   |zero=>simp[bK]at hc hl;subst hc;subst hl;exact .v _
   |succ i=>simp at hc
  ·simp[bK]at hl;subst hl;exact .int hw
 |bool=>
  obtain⟨b,rfl⟩:=FF hf h
  refine⟨b, .bool b,⟨rfl,λi c l hc hl=> ?_⟩,rfl,λl hl=> ?_, .bool (kh _), .one (.bool (kh _))⟩
  ·cases i with
   |zero=>simp[bK]at hc hl;subst hc;subst hl;exact .v _
   |succ i=>simp at hc
  ·simp[bK]at hl;subst hl;exact .bool b
 |str=>
  obtain⟨s,rfl,hs,hb⟩:=vc hf h
  refine⟨s, .str hs,⟨rfl,λi c l hc hl=> ?_⟩,rfl,λl hl=> ?_, .str (aee hb.symm), .one (.str (aee hb.symm))⟩
  ·cases i with
   |zero=>simp[bK]at hc hl;subst hc;subst hl;exact .v _
   |succ i=>simp at hc
  ·simp[bK]at hl;subst hl;exact .str hs
 |st i=>
  obtain⟨fs,hu,hsz,hfl⟩:=hf
  cases fuel with
  |zero=>cases h
  |succ fuel=>
   obtain⟨hl,ds,hx,hdl,hr⟩:=vd hu h
   obtain⟨n,ls,a1,a2,a3,a4,a5⟩:=pG F (M:=gi W) (rd:=λt cs m=>∃y,DataW.trod enc P W base spare held fuel t cs=some y/\m=dQ y.1) (λt τ cs m hτ hn ⟨y,hy,hm⟩=>hm▸ih fuel (by omega) t τ cs y hτ hn hy) fs.toList (ds.map dQ) 0 _ hfl (λτ hτ=>aa1.1 ((F.nof _).symm.trans hn) τ hτ)
    (by rw[aaS,hdl])
    (λj f m hf hm=>by
      obtain⟨y,hy1,hy⟩:=hr j f hf
      rw[aaR,hy1]at hm
      exact⟨y,hy,by simpa using hm.symm⟩)
   obtain⟨y,hy⟩:=F.of i ls a1
   have hc:=V.of_cells i ls y hy
   have hn:n=cs.length:=by rw[a4,<-hc,V.len_cells,hl,hsz]
   rw[aa8,abt (by omega)]at a2
   have hdb:dQ x.1=(ds.map dQ).sum+1:=by rw[hx,dQ,lJ]
   obtain⟨ns,c1,c2,c3⟩:=a5
   refine⟨y, .st (by rw[hc];exact a3),by simpa only[bK,hc]using a2,by simpa only[bK,hc,yz]using a1,by simpa only[bK,hc]using a3, .st ns (by rw[hc];exact c1) (by rw[hc];exact c2) (by omega),ns,by simpa only[bK,hc]using c1,by simpa only[bK,hc]using c2,by omega⟩
 |sl e=>
  obtain⟨te,hu,hte,hsz,hpos⟩:=hf
  have hpos:0<tsz V.sz e:=by simpa[acq]using hpos
  cases fuel with
  |zero=>cases h
  |succ fuel=>
   have fin:∀(c3:Value) (ys:List (den V.N e)),ys.length<=maxLen->(∀y∈ys,Ok V e y)->df (gi W) c3 (bC V.sz V.enc (.sl e) ys)->Bk V (.sl e) ys (dQ x.1)->Rd (V:=V) (gi W) (.sl e) [c3] (dQ x.1):=by
    intro c3 ys h1 h2 h3 h4
    refine⟨ys, .sl h1 h2,⟨rfl,λi c l hc hl=> ?_⟩,rfl,λl hl=> ?_,h4, .one h4⟩
    ·cases i with
     |zero=>simp[bK]at hc hl;subst hc;subst hl;exact h3
     |succ i=>simp at hc
    ·simp[bK]at hl;subst hl;exact .sl h1 h2
   rcases xj hu h with⟨h4,hx⟩|⟨a,len,cap,h4,hlc,hcm,ds,sp,hx,hdl,hr⟩
   ·subst h4
    exact fin _ [] (by simp) (λy hy=>by cases hy) (.slnil _) (.sl [] rfl (λi x n hx=>by simp at hx) (by rw[hx];simp[dQ]))
   ·subst h4
    rw[hsz]at hr
    obtain⟨ys,hyl,hys⟩:=D8 (α:=den V.N e) (R:=λi y=>∃row d,W.cells? base (a.add (i *tsz V.sz e)) (tsz V.sz e)=some row/\Ok V e y/\jP (gi W) row (bK V e y)/\ds[i]?=some d/\Bk V e y (dQ d)) len
     λi hi=>by
      obtain⟨row,z,g1,g2,g3⟩:=hr i hi
      obtain⟨y,b1,b2,_,_,b5,_⟩:=ih fuel (by omega) te e row z hte (by simpa[noF]using hn) g2
      exact⟨y,row,z.1,g1,b1,b2,g3,b5⟩
    have hdb:dQ x.1=(ds.map dQ).sum+dbulkL sp+1:=by rw[hx,dQ,lJ]
    refine fin _ ys (by omega) (λy hy=> ?_) (df.of_slice (b:=base) hpos hlc (by rw[aaS,hyl]) (λr hr'=> ?_) λi hi=> ?_) (.sl (ds.map dQ) (by rw[aaS,hdl,hyl]) (λi y n hy hn=> ?_) (by omega))
    ·obtain⟨i,hi,rfl⟩:=ac_ hy
     obtain⟨row,_,_,e1,_⟩:=hys i _ (aaO hi)
     exact e1
    ·obtain⟨y,_,rfl⟩:=abg.1 hr'
     rw[oG,aaS,gV]
    ·obtain⟨row,_,e0,_,e2,_⟩:=hys i (ys[i]'(by omega)) (aaO (by omega))
     refine⟨row,e0,λr hr' j c y hc hy=> ?_⟩
     rw[aaR,aaO (by omega:i<ys.length)]at hr'
     simp at hr'
     subst hr'
     rw[oG,aaR,aa0]at hy
     obtain⟨l,hl,rfl⟩:=hy
     exact e2.2 j c l hc hl
    ·obtain⟨row,d,_,_,_,e3,e4⟩:=hys i y hy
     rw[aaR,e3]at hn
     simp at hn
     subst hn
     exact e4
theorem gk{r:Reach}{t:TypeId}{cs:Array Value}(h:(∃k,P.underlying t=some (.int k))\/P.underlying t=some .bool\/P.underlying t=some .string\/∃e,P.underlying t=some (.slice e)):
 ¬Value.okWide P W r base t (.agg cs):=by
 intro hv
 unfold Value.okWide at hv
 rcases h with⟨k,h⟩|h|h|⟨e,h⟩<;>rw[h]at hv<;>simp only[Cell.okWide,Cell.ok,h]at hv
theorem uO(F:GR V P){r:Reach}{b0:Nat}{t:TypeId}{τ:Ty V.ι}{v:Value}{d:DataW H0}{p:List MemPlace}(hty:V.ty t=some τ)(hok:Value.okWide P W r b0 t v)(h:DataW.Trod enc P W base spare held t v d p)(hn:noF V τ=true:=by rfl):
 ∃y:den V.N τ,Ok V τ y/\df (gi W) v (bC V.sz V.enc τ y)/\Bk V τ y (dQ d):=by
 obtain⟨fuel,h⟩:=h
 obtain⟨y,h1,h2,_,_,h5,_⟩:=JG F fuel t τ _ _ hty hn h
 refine⟨y,h1,?_,h5⟩
 have hf:=F.ty t τ hty hn
 have cell:(∀cs,v≠ .agg cs)->bK V τ y=[⟨τ,y⟩]->df (gi W) v (bC V.sz V.enc τ y):=by
  intro hn hr
  rw[hr]at h2
  have hc:v.cells.toList=[v]:=by cases v<;>first|rfl|exact(hn _ rfl).elim
  rw[hc]at h2
  exact h2.2 0 v ⟨τ,y⟩ rfl rfl
 cases τ with
 |mp k v=>exact hf.elim
 |er=>exact hf.elim
 |op e=>exact hf.elim
 |fnc=>exact hf.elim
 |fno=>exact hf.elim
 |ar n e=>exact hf.elim
 |int k=>exact cell (λcs e=>by subst e;exact gk (.inl ⟨k,hf⟩) hok) rfl
 |bool=>exact cell (λcs e=>by subst e;exact gk (.inr (.inl hf)) hok) rfl
 |str=>exact cell (λcs e=>by subst e;exact gk (.inr (.inr (.inl hf))) hok) rfl
 |sl e=>
  obtain⟨te,hu,_⟩:=hf
  exact cell (λcs e=>by subst e;exact gk (.inr (.inr (.inr ⟨te,hu⟩))) hok) rfl
 |st i=>
  obtain⟨fs,hu,_,_⟩:=hf
  unfold Value.okWide at hok
  rw[hu]at hok
  obtain⟨cs,rfl,_⟩:=hok
  simp only[Value.cells]at h2
  simp only[bC]
  rw[V.enc_cells]
  refine .agg cs _ (by rw[aaS];have:=h2.1;simpa[bK]using this) λk c x hc hx=> ?_
  rw[aaR,aa0]at hx
  obtain⟨l,hl,rfl⟩:=hx
  exact h2.2 k c l (by simpa using hc) hl
end
end Go.Tx
end
section
namespace Go.Proofs.YtcghbgmmgcljkaaGreatDoor
open Go.Awp Go.Shelf
set_option maxRecDepth 100000
theorem SV:(Rows.laid_strings_asciiSpace:DataW Unit)=Lib.tabData .u8 Lib.asciiSpaceTab:=by kernel_rfl
def Un:List (String×DataW Unit):=[("unicode.White_Space",Rows.laid_unicode_White_Space),("strings.asciiSpace",Rows.laid_strings_asciiSpace)]
theorem vp{P:Program}{w:World}{name:String}{k:IntKind}{zs:List Int}{g:Nat}{t e:TypeId}{n:Nat}(hg:P.globalNamed name=some g)(hty:(P.globals[g]?).map (·.type)=some t)(ht:P.underlying t=some (.array n e))(he:P.underlying e=some (.int k))(hce:P.cellsOf e=1)(hct:P.cellsOf t=n)
 (h:Lib.VarReads P w name (Lib.tabData k zs)):Lib.TabIs P w name k zs:=by
 obtain⟨g',t',cs,fuel,p,hg',ht',hvar,hd⟩:=h
 obtain rfl:=abO (hg.symm.trans hg')
 obtain rfl:=abO (hty.symm.trans ht')
 unfold Lib.TabIs
 rw[hvar,<-Lib.cells_of_tab ht he hce hct hd]
theorem DK{W:World}(h:laidMetH Tryz.prog Un W):GOk (gi W) W:=by
 rw[MakeChecks.laidMetH_plain _ _ _ (by kernel_rfl)]at h
 have h3:Lib.VarReads Tryz.prog W "strings.asciiSpace" (Lib.tabData .u8 Lib.asciiSpaceTab):=SV▸Lib.laidMet.reads h (.tail _ (.head _))
 have h6:Lib.TabIs Tryz.prog W "strings.asciiSpace" .u8 Lib.asciiSpaceTab:=by
  obtain⟨g,t,cs,fuel,p,hg,ht,_,_⟩:=id h3
  exact vp (g:=0) (t:=198) (e:=5) (n:=256) (by kernel_rfl) (by kernel_rfl) (by kernel_rfl) (by kernel_rfl) (by kernel_rfl) (by kernel_rfl) h3
 refine⟨OT h6,λb hb=> ?_,λp hp=> ?_⟩
 ·cases hb
 ·have hp:p∈[(0,256)]:=hp
  simp only[aa4,List.not_mem_nil,or_false]at hp
  subst hp
  have hn:Tryz.prog.globalNamed "strings.asciiSpace" =some 0:=by kernel_rfl
  refine⟨⟨_,h6.cell hn 0 (by rw[Lib.asciiSpaceTab_length];decide)⟩,?_⟩
  unfold Lib.TabIs World.var? at h6
  rw[hn]at h6
  simp only[aaJ]at h6
  split at h6
  ·rename_i cs t fr hw
   cases h6
   exact⟨_,_,_,hw,by simp[Lib.asciiSpaceTab_length]⟩
  ·cases h6
mutual
theorem kg{H:Type}:∀d:DataW H,Go.Tx.dQ d<=Rows.uptoBulk d
 | .lit l=>by cases l<;>simp[Go.Tx.dQ,Rows.uptoBulk]
 | .nil=>by simp[Go.Tx.dQ,Rows.uptoBulk]
 | .ptr d=>by have:=kg d;simp only[Go.Tx.dQ,Rows.uptoBulk];omega
 | .slice es sp=>by have h1:=dbulkL_le es;have h2:=dbulkL_le sp;simp only[Go.Tx.dQ,Rows.uptoBulk];omega
 | .agg ps=>by have:=dbulkL_le ps;simp only[Go.Tx.dQ,Rows.uptoBulk];omega
 | .iface _ d=>by have:=kg d;simp only[Go.Tx.dQ,Rows.uptoBulk];omega
 | .map es=>by simp[Go.Tx.dQ,Rows.uptoBulk]
 | .held h=>by simp[Go.Tx.dQ,Rows.uptoBulk]
theorem dbulkL_le{H:Type}:∀l:List (DataW H),Go.Tx.dbulkL l<=Rows.uptoBulkAll l
 |[]=>by simp[Go.Tx.dbulkL,Rows.uptoBulkAll]
 |d::r=>by have h1:=kg d;have h2:=dbulkL_le r;simp only[Go.Tx.dbulkL,Rows.uptoBulkAll];omega
end
end Go.Proofs.YtcghbgmmgcljkaaGreatDoor
end
section
namespace Go.Tx
open Go.Awp
variable [Inhabited GMem]
section
variable {V:iF}
end
end Go.Tx
end
section
namespace Go.Proofs.YtcghbgmmgcljkaaGreatDoor.Ty
open Go.Awp
theorem mixed:Tryz.prog.follows .mixedOrders=true:=by kernel_rfl
end Go.Proofs.YtcghbgmmgcljkaaGreatDoor.Ty
end
section
namespace Go.Proofs.YtcghbgmmgcljkaaGreatDoor
open Go.Awp Go.Tx
structure aF where
 base:Int
 bits:Int
 name0:ByteArray
 opt:Bool
 err:Bool
noncomputable def aF.enc(x:aF):List D:=[.v (.int .i64 x.base)]++[.v (.int .i64 x.bits)]++[.v (.string x.name0)]++[.v (.bool x.opt)]++[.v (.bool x.err)]
structure aE where
 type0:aF
 n:Int
 null:Bool
 err:ByteArray
 of0:aF
noncomputable def aE.enc(x:aE):List D:=aF.enc x.type0++[.v (.int .i64 x.n)]++[.v (.bool x.null)]++[.v (.string x.err)]++aF.enc x.of0
structure nS where
 name0:ByteArray
 args:(List aE)
 checks:Bool
noncomputable def nS.enc(x:nS):List D:=[.v (.string x.name0)]++[.sl 13 (ac7 (λy=>aE.enc y) x.args)]++[.v (.bool x.checks)]
structure b9 where
 kind:Int
 value:aE
 stop:Int
 trace:(List ByteArray)
noncomputable def b9.enc(x:b9):List D:=[.v (.int .i64 x.kind)]++aE.enc x.value++[.v (.int .i64 x.stop)]++[.sl 1 (ac7 (λy=>[.v (.string y)]) x.trace)]
structure aQ where
 op:Int
 a:Int
 b:Int
 type0:aF
 name0:ByteArray
noncomputable def aQ.enc(x:aQ):List D:=[.v (.int .i64 x.op)]++[.v (.int .i64 x.a)]++[.v (.int .i64 x.b)]++aF.enc x.type0++[.v (.string x.name0)]
structure aB where
 name0:ByteArray
 params:Int
 places:Int
 type0:aF
 code:(List aQ)
noncomputable def aB.enc(x:aB):List D:=[.v (.string x.name0)]++[.v (.int .i64 x.params)]++[.v (.int .i64 x.places)]++aF.enc x.type0++[.sl 9 (ac7 (λy=>aQ.enc y) x.code)]
structure Item where
 n:Int
 null:Bool
 err:ByteArray
noncomputable def Item.enc(x:Item):List D:=[.v (.int .i64 x.n)]++[.v (.bool x.null)]++[.v (.string x.err)]
structure Log where
 kind:Int
 stop:Int
 steps:Int
 calls:(List Int)
 high:Int
 seen:(List Item)
 place:Int
noncomputable def Log.enc(x:Log):List D:=[.v (.int .i64 x.kind)]++[.v (.int .i64 x.stop)]++[.v (.int .i64 x.steps)]++[.sl 1 (ac7 (λy=>[.v (.int .i64 y)]) x.calls)]++[.v (.int .i64 x.high)]++[.sl 3 (ac7 (λy=>Item.enc y) x.seen)]++[.v (.int .i64 x.place)]
structure bX where
 kind:Int
 why:Int
 deriving DecidableEq
noncomputable def bX.enc(x:bX):List D:=[.v (.int .i64 x.kind)]++[.v (.int .i64 x.why)]
structure cn where
 a:Bool
 b:Bool
 kind:Bool
 name0:Bool
 deriving DecidableEq
noncomputable def cn.enc(x:cn):List D:=[.v (.bool x.a)]++[.v (.bool x.b)]++[.v (.bool x.kind)]++[.v (.bool x.name0)]
structure aZ where
 at0:Int
 height:Int
 deriving DecidableEq
noncomputable def aZ.enc(x:aZ):List D:=[.v (.int .i64 x.at0)]++[.v (.int .i64 x.height)]
structure vN where
 takes:Int
 puts:Int
 goes:Bool
 deriving DecidableEq
noncomputable def vN.enc(x:vN):List D:=[.v (.int .i64 x.takes)]++[.v (.int .i64 x.puts)]++[.v (.bool x.goes)]
structure bB where
 signed:Bool
 bits:Int
 deriving DecidableEq
noncomputable def bB.enc(x:bB):List D:=[.v (.bool x.signed)]++[.v (.int .i64 x.bits)]
structure ka where
 kind:Int
 at0:Int
 text:ByteArray
noncomputable def ka.enc(x:ka):List D:=[.v (.int .i64 x.kind)]++[.v (.int .i64 x.at0)]++[.v (.string x.text)]
structure bR where
 whole:(Option Nat)
 into:(Option Nat)
noncomputable def bR.enc(x:bR):List D:=[LM x.whole]++[LM x.into]
structure Ph where
 start:Int
 end0:Int
 deriving DecidableEq
noncomputable def Ph.enc(x:Ph):List D:=[.v (.int .i64 x.start)]++[.v (.int .i64 x.end0)]
structure iD where
 lo:Int
 hi:Int
 stride:Int
 deriving DecidableEq
noncomputable def iD.enc(x:iD):List D:=[.v (.int .u16 x.lo)]++[.v (.int .u16 x.hi)]++[.v (.int .u16 x.stride)]
structure iE where
 lo:Int
 hi:Int
 stride:Int
 deriving DecidableEq
noncomputable def iE.enc(x:iE):List D:=[.v (.int .u32 x.lo)]++[.v (.int .u32 x.hi)]++[.v (.int .u32 x.stride)]
structure fC where
 r16:(List iD)
 r32:(List iE)
 latinOffset:Int
noncomputable def fC.enc(x:fC):List D:=[.sl 3 (ac7 (λy=>iD.enc y) x.r16)]++[.sl 3 (ac7 (λy=>iE.enc y) x.r32)]++[.v (.int .i64 x.latinOffset)]
inductive SN where
 |myTypeT
 |myValueT
 |askedT
 |outcomeT
 |myCodeT
 |myFuncT
 |itemT
 |logT
 |endingT
 |myShapeT
 |pointT
 |stepT
 |myIntT
 |tokenT
 |operationT
 |spanT
 |range16T
 |range32T
 |rangeTableT
 deriving DecidableEq
abbrev NN:SN->Type
 | .myTypeT=>aF
 | .myValueT=>aE
 | .askedT=>nS
 | .outcomeT=>b9
 | .myCodeT=>aQ
 | .myFuncT=>aB
 | .itemT=>Item
 | .logT=>Log
 | .endingT=>bX
 | .myShapeT=>cn
 | .pointT=>aZ
 | .stepT=>vN
 | .myIntT=>bB
 | .tokenT=>ka
 | .operationT=>bR
 | .spanT=>Ph
 | .range16T=>iD
 | .range32T=>iE
 | .rangeTableT=>fC
noncomputable def szN:SN->Nat
 | .myTypeT=>5
 | .myValueT=>13
 | .askedT=>3
 | .outcomeT=>16
 | .myCodeT=>9
 | .myFuncT=>9
 | .itemT=>3
 | .logT=>7
 | .endingT=>2
 | .myShapeT=>4
 | .pointT=>2
 | .stepT=>3
 | .myIntT=>2
 | .tokenT=>3
 | .operationT=>2
 | .spanT=>2
 | .range16T=>3
 | .range32T=>3
 | .rangeTableT=>3
noncomputable def XK:SN->List (Ty SN)
 | .myTypeT=>[(.int .i64),(.int .i64), .str, .bool, .bool]
 | .myValueT=>[(.int .i64),(.int .i64), .str, .bool, .bool,(.int .i64), .bool, .str,(.int .i64),(.int .i64), .str, .bool, .bool]
 | .askedT=>[.str,(.sl (.st .myValueT)), .bool]
 | .outcomeT=>[(.int .i64),(.int .i64),(.int .i64), .str, .bool, .bool,(.int .i64), .bool, .str,(.int .i64),(.int .i64), .str, .bool, .bool,(.int .i64),(.sl .str)]
 | .myCodeT=>[(.int .i64),(.int .i64),(.int .i64),(.int .i64),(.int .i64), .str, .bool, .bool, .str]
 | .myFuncT=>[.str,(.int .i64),(.int .i64),(.int .i64),(.int .i64), .str, .bool, .bool,(.sl (.st .myCodeT))]
 | .itemT=>[(.int .i64), .bool, .str]
 | .logT=>[(.int .i64),(.int .i64),(.int .i64),(.sl (.int .i64)),(.int .i64),(.sl (.st .itemT)),(.int .i64)]
 | .endingT=>[(.int .i64),(.int .i64)]
 | .myShapeT=>[.bool, .bool, .bool, .bool]
 | .pointT=>[(.int .i64),(.int .i64)]
 | .stepT=>[(.int .i64),(.int .i64), .bool]
 | .myIntT=>[.bool,(.int .i64)]
 | .tokenT=>[(.int .i64),(.int .i64), .str]
 | .operationT=>[.fno, .fno]
 | .spanT=>[(.int .i64),(.int .i64)]
 | .range16T=>[(.int .u16),(.int .u16),(.int .u16)]
 | .range32T=>[(.int .u32),(.int .u32),(.int .u32)]
 | .rangeTableT=>[(.sl (.st .range16T)),(.sl (.st .range32T)),(.int .i64)]
noncomputable def gG:(i:SN)->NN i->List (dW NN)
 | .myTypeT,x=>[⟨(.int .i64),x.base⟩,⟨(.int .i64),x.bits⟩,⟨.str,x.name0⟩,⟨.bool,x.opt⟩,⟨.bool,x.err⟩]
 | .myValueT,x=>[⟨(.int .i64),x.type0.base⟩,⟨(.int .i64),x.type0.bits⟩,⟨.str,x.type0.name0⟩,⟨.bool,x.type0.opt⟩,⟨.bool,x.type0.err⟩,⟨(.int .i64),x.n⟩,⟨.bool,x.null⟩,⟨.str,x.err⟩,⟨(.int .i64),x.of0.base⟩,⟨(.int .i64),x.of0.bits⟩,⟨.str,x.of0.name0⟩,⟨.bool,x.of0.opt⟩,⟨.bool,x.of0.err⟩]
 | .askedT,x=>[⟨.str,x.name0⟩,⟨(.sl (.st .myValueT)),x.args⟩,⟨.bool,x.checks⟩]
 | .outcomeT,x=>[⟨(.int .i64),x.kind⟩,⟨(.int .i64),x.value.type0.base⟩,⟨(.int .i64),x.value.type0.bits⟩,⟨.str,x.value.type0.name0⟩,⟨.bool,x.value.type0.opt⟩,⟨.bool,x.value.type0.err⟩,⟨(.int .i64),x.value.n⟩,⟨.bool,x.value.null⟩,⟨.str,x.value.err⟩,⟨(.int .i64),x.value.of0.base⟩,⟨(.int .i64),x.value.of0.bits⟩,⟨.str,x.value.of0.name0⟩,⟨.bool,x.value.of0.opt⟩,⟨.bool,x.value.of0.err⟩,⟨(.int .i64),x.stop⟩,⟨(.sl .str),x.trace⟩]
 | .myCodeT,x=>[⟨(.int .i64),x.op⟩,⟨(.int .i64),x.a⟩,⟨(.int .i64),x.b⟩,⟨(.int .i64),x.type0.base⟩,⟨(.int .i64),x.type0.bits⟩,⟨.str,x.type0.name0⟩,⟨.bool,x.type0.opt⟩,⟨.bool,x.type0.err⟩,⟨.str,x.name0⟩]
 | .myFuncT,x=>[⟨.str,x.name0⟩,⟨(.int .i64),x.params⟩,⟨(.int .i64),x.places⟩,⟨(.int .i64),x.type0.base⟩,⟨(.int .i64),x.type0.bits⟩,⟨.str,x.type0.name0⟩,⟨.bool,x.type0.opt⟩,⟨.bool,x.type0.err⟩,⟨(.sl (.st .myCodeT)),x.code⟩]
 | .itemT,x=>[⟨(.int .i64),x.n⟩,⟨.bool,x.null⟩,⟨.str,x.err⟩]
 | .logT,x=>[⟨(.int .i64),x.kind⟩,⟨(.int .i64),x.stop⟩,⟨(.int .i64),x.steps⟩,⟨(.sl (.int .i64)),x.calls⟩,⟨(.int .i64),x.high⟩,⟨(.sl (.st .itemT)),x.seen⟩,⟨(.int .i64),x.place⟩]
 | .endingT,x=>[⟨(.int .i64),x.kind⟩,⟨(.int .i64),x.why⟩]
 | .myShapeT,x=>[⟨.bool,x.a⟩,⟨.bool,x.b⟩,⟨.bool,x.kind⟩,⟨.bool,x.name0⟩]
 | .pointT,x=>[⟨(.int .i64),x.at0⟩,⟨(.int .i64),x.height⟩]
 | .stepT,x=>[⟨(.int .i64),x.takes⟩,⟨(.int .i64),x.puts⟩,⟨.bool,x.goes⟩]
 | .myIntT,x=>[⟨.bool,x.signed⟩,⟨(.int .i64),x.bits⟩]
 | .tokenT,x=>[⟨(.int .i64),x.kind⟩,⟨(.int .i64),x.at0⟩,⟨.str,x.text⟩]
 | .operationT,x=>[⟨.fno,x.whole⟩,⟨.fno,x.into⟩]
 | .spanT,x=>[⟨(.int .i64),x.start⟩,⟨(.int .i64),x.end0⟩]
 | .range16T,x=>[⟨(.int .u16),x.lo⟩,⟨(.int .u16),x.hi⟩,⟨(.int .u16),x.stride⟩]
 | .range32T,x=>[⟨(.int .u32),x.lo⟩,⟨(.int .u32),x.hi⟩,⟨(.int .u32),x.stride⟩]
 | .rangeTableT,x=>[⟨(.sl (.st .range16T)),x.r16⟩,⟨(.sl (.st .range32T)),x.r32⟩,⟨(.int .i64),x.latinOffset⟩]
noncomputable def Nb:(i:SN)->NN i->List D
 | .myTypeT,x=>aF.enc x
 | .myValueT,x=>aE.enc x
 | .askedT,x=>nS.enc x
 | .outcomeT,x=>b9.enc x
 | .myCodeT,x=>aQ.enc x
 | .myFuncT,x=>aB.enc x
 | .itemT,x=>Item.enc x
 | .logT,x=>Log.enc x
 | .endingT,x=>bX.enc x
 | .myShapeT,x=>cn.enc x
 | .pointT,x=>aZ.enc x
 | .stepT,x=>vN.enc x
 | .myIntT,x=>bB.enc x
 | .tokenT,x=>ka.enc x
 | .operationT,x=>bR.enc x
 | .spanT,x=>Ph.enc x
 | .range16T,x=>iD.enc x
 | .range32T,x=>iE.enc x
 | .rangeTableT,x=>fC.enc x
noncomputable def ofN:(i:SN)->List (dW NN)->Option (NN i)
 | .myTypeT,[⟨(.int .i64),a0⟩,⟨(.int .i64),a1⟩,⟨.str,a2⟩,⟨.bool,a3⟩,⟨.bool,a4⟩]=>some ⟨a0,a1,a2,a3,a4⟩
 | .myValueT,[⟨(.int .i64),a0⟩,⟨(.int .i64),a1⟩,⟨.str,a2⟩,⟨.bool,a3⟩,⟨.bool,a4⟩,⟨(.int .i64),a5⟩,⟨.bool,a6⟩,⟨.str,a7⟩,⟨(.int .i64),a8⟩,⟨(.int .i64),a9⟩,⟨.str,a10⟩,⟨.bool,a11⟩,⟨.bool,a12⟩]=>some ⟨⟨a0,a1,a2,a3,a4⟩,a5,a6,a7,⟨a8,a9,a10,a11,a12⟩⟩
 | .askedT,[⟨.str,a0⟩,⟨(.sl (.st .myValueT)),a1⟩,⟨.bool,a2⟩]=>some ⟨a0,a1,a2⟩
 | .outcomeT,[⟨(.int .i64),a0⟩,⟨(.int .i64),a1⟩,⟨(.int .i64),a2⟩,⟨.str,a3⟩,⟨.bool,a4⟩,⟨.bool,a5⟩,⟨(.int .i64),a6⟩,⟨.bool,a7⟩,⟨.str,a8⟩,⟨(.int .i64),a9⟩,⟨(.int .i64),a10⟩,⟨.str,a11⟩,⟨.bool,a12⟩,⟨.bool,a13⟩,⟨(.int .i64),a14⟩,⟨(.sl .str),a15⟩]=>some ⟨a0,⟨⟨a1,a2,a3,a4,a5⟩,a6,a7,a8,⟨a9,a10,a11,a12,a13⟩⟩,a14,a15⟩
 | .myCodeT,[⟨(.int .i64),a0⟩,⟨(.int .i64),a1⟩,⟨(.int .i64),a2⟩,⟨(.int .i64),a3⟩,⟨(.int .i64),a4⟩,⟨.str,a5⟩,⟨.bool,a6⟩,⟨.bool,a7⟩,⟨.str,a8⟩]=>some ⟨a0,a1,a2,⟨a3,a4,a5,a6,a7⟩,a8⟩
 | .myFuncT,[⟨.str,a0⟩,⟨(.int .i64),a1⟩,⟨(.int .i64),a2⟩,⟨(.int .i64),a3⟩,⟨(.int .i64),a4⟩,⟨.str,a5⟩,⟨.bool,a6⟩,⟨.bool,a7⟩,⟨(.sl (.st .myCodeT)),a8⟩]=>some ⟨a0,a1,a2,⟨a3,a4,a5,a6,a7⟩,a8⟩
 | .itemT,[⟨(.int .i64),a0⟩,⟨.bool,a1⟩,⟨.str,a2⟩]=>some ⟨a0,a1,a2⟩
 | .logT,[⟨(.int .i64),a0⟩,⟨(.int .i64),a1⟩,⟨(.int .i64),a2⟩,⟨(.sl (.int .i64)),a3⟩,⟨(.int .i64),a4⟩,⟨(.sl (.st .itemT)),a5⟩,⟨(.int .i64),a6⟩]=>some ⟨a0,a1,a2,a3,a4,a5,a6⟩
 | .endingT,[⟨(.int .i64),a0⟩,⟨(.int .i64),a1⟩]=>some ⟨a0,a1⟩
 | .myShapeT,[⟨.bool,a0⟩,⟨.bool,a1⟩,⟨.bool,a2⟩,⟨.bool,a3⟩]=>some ⟨a0,a1,a2,a3⟩
 | .pointT,[⟨(.int .i64),a0⟩,⟨(.int .i64),a1⟩]=>some ⟨a0,a1⟩
 | .stepT,[⟨(.int .i64),a0⟩,⟨(.int .i64),a1⟩,⟨.bool,a2⟩]=>some ⟨a0,a1,a2⟩
 | .myIntT,[⟨.bool,a0⟩,⟨(.int .i64),a1⟩]=>some ⟨a0,a1⟩
 | .tokenT,[⟨(.int .i64),a0⟩,⟨(.int .i64),a1⟩,⟨.str,a2⟩]=>some ⟨a0,a1,a2⟩
 | .operationT,[⟨.fno,a0⟩,⟨.fno,a1⟩]=>some ⟨a0,a1⟩
 | .spanT,[⟨(.int .i64),a0⟩,⟨(.int .i64),a1⟩]=>some ⟨a0,a1⟩
 | .range16T,[⟨(.int .u16),a0⟩,⟨(.int .u16),a1⟩,⟨(.int .u16),a2⟩]=>some ⟨a0,a1,a2⟩
 | .range32T,[⟨(.int .u32),a0⟩,⟨(.int .u32),a1⟩,⟨(.int .u32),a2⟩]=>some ⟨a0,a1,a2⟩
 | .rangeTableT,[⟨(.sl (.st .range16T)),a0⟩,⟨(.sl (.st .range32T)),a1⟩,⟨(.int .i64),a2⟩]=>some ⟨a0,a1,a2⟩
 |_,_=>none
noncomputable def tyN:TypeId->Option (Ty SN)
 |2=>some (.int .i64)
 |3=>some (.int .i64)
 |4=>some .bool
 |5=>some (.int .u8)
 |6=>some (.int .u8)
 |9=>some .str
 |10=>some .str
 |11=>some .str
 |12=>some (.int .u64)
 |21=>some (.int .i32)
 |22=>some (.sl (.st .myFuncT))
 |23=>some (.sl (.st .myValueT))
 |25=>some (.st .askedT)
 |29=>some (.st .myTypeT)
 |31=>some (.st .myValueT)
 |32=>some (.sl .str)
 |34=>some (.st .outcomeT)
 |35=>some (.int .i64)
 |40=>some (.sl (.st .myCodeT))
 |42=>some (.st .myFuncT)
 |44=>some (.st .myCodeT)
 |52=>some (.sl (.int .i64))
 |65=>some (.st .itemT)
 |66=>some (.sl (.st .itemT))
 |68=>some (.st .logT)
 |72=>some (.op (.st .endingT))
 |85=>some (.st .endingT)
 |98=>some (.op (.st .myValueT))
 |102=>some (.ar 20 .fno)
 |118=>some (.st .myShapeT)
 |123=>some (.st .pointT)
 |125=>some (.sl (.st .pointT))
 |130=>some (.st .stepT)
 |135=>some (.st .myIntT)
 |141=>some (.sl (.mp (.int .i64) .bool))
 |142=>some (.sl .bool)
 |148=>some .fno
 |164=>some (.ar 6 .bool)
 |171=>some (.ar 2 (.int .i64))
 |172=>some (.sl (.ar 2 (.int .i64)))
 |178=>some (.int .u8)
 |179=>some (.ar 256 (.int .u8))
 |189=>some (.sl (.st .tokenT))
 |193=>some (.st .tokenT)
 |198=>some (.ar 256 (.int .u8))
 |204=>some .fno
 |206=>some (.st .operationT)
 |207=>some (.ar 18 (.st .operationT))
 |211=>some (.sl (.st .spanT))
 |213=>some (.st .spanT)
 |214=>some (.int .u32)
 |219=>some (.sl (.st .range16T))
 |220=>some (.sl (.st .range32T))
 |222=>some (.st .rangeTableT)
 |223=>some (.int .u16)
 |225=>some (.st .range16T)
 |228=>some (.st .range32T)
 |232=>some (.int .u64)
 |241=>some (.int .u8)
 |242=>some (.int .u8)
 |245=>some (.int .i32)
 |246=>some (.int .i32)
 |_=>none
theorem Ax(i:SN)(x:NN i):Nb i x=(gG i x).map λl=>bC szN Nb l.t l.x:=by
 cases i<;>cases x<;>first|(simp[Nb,gG,bC,bY,tsz,szN,aF.enc,aE.enc,nS.enc,b9.enc,aQ.enc,aB.enc,Item.enc,Log.enc,bX.enc,cn.enc,aZ.enc,vN.enc,bB.enc,ka.enc,bR.enc,Ph.enc,iD.enc,iE.enc,fC.enc];done)|(rename_i q;cases q;simp[Nb,gG,bC,bY,tsz,szN,aF.enc,aE.enc,nS.enc,b9.enc,aQ.enc,aB.enc,Item.enc,Log.enc,bX.enc,cn.enc,aZ.enc,vN.enc,bB.enc,ka.enc,bR.enc,Ph.enc,iD.enc,iE.enc,fC.enc])
theorem Fb(i:SN)(ls:List (dW NN))(x:NN i)(h:ofN i ls=some x):gG i x=ls:=by
 unfold ofN at h
 split at h<;>first
  |(cases h;rfl)
  |(cases h;done)
theorem AH(i:SN)(x:NN i):(gG i x).length=szN i:=by cases i<;>rfl
theorem Cb(i:SN)(x:NN i):(gG i x).map (λl=>l.t)=XK i:=by cases i<;>rfl
theorem Bl(i:SN)(x:NN i):∀l∈gG i x,l.t.cell=true:=by
 have h:(gG i x).all (λl=>l.t.cell)=true:=by cases i<;>rfl
 exact aa1.1 h
noncomputable def ZF:Ty SN->Nat
 |(.st .myFuncT)=>42
 |(.st .myValueT)=>31
 | .str=>9
 |(.st .myCodeT)=>44
 |(.int .i64)=>3
 |(.st .itemT)=>65
 |(.st .pointT)=>123
 | .bool=>4
 |(.ar 2 (.int .i64))=>171
 |(.st .tokenT)=>193
 |(.st .spanT)=>213
 |(.st .range16T)=>225
 |(.st .range32T)=>228
 |_=>0
noncomputable def vw:iF where
 ι:=SN
 dec:=inferInstance
 N:=NN
 sz:=szN
 tys:=XK
 cells:=gG
 ofCells:=ofN
 enc:=Nb
 ty:=tyN
 enc_cells:=Ax
 of_cells:=Fb
 len_cells:=AH
 one_cells:=Bl
 tys_cells:=Cb
 tid:=ZF
end Go.Proofs.YtcghbgmmgcljkaaGreatDoor
end
section
namespace Go.Proofs.YtcghbgmmgcljkaaGreatDoor
open Go.Awp Go.Tx
open Go.Proofs.Tryz (prog)
set_option maxRecDepth 100000
def cT(P:Program)(t:TypeId):Array Field:=match P.underlying t with
 |some (.struct fs)=>fs
 |_=> #[]
theorem tf2:bT vw prog 2 (.int .i64):=(by kernel_rfl:prog.underlying 2=some (.int .i64))
theorem tf3:bT vw prog 3 (.int .i64):=(by kernel_rfl:prog.underlying 3=some (.int .i64))
theorem tf4:bT vw prog 4 .bool:=(by kernel_rfl:prog.underlying 4=some .bool)
theorem tf5:bT vw prog 5 (.int .u8):=(by kernel_rfl:prog.underlying 5=some (.int .u8))
theorem tf6:bT vw prog 6 (.int .u8):=(by kernel_rfl:prog.underlying 6=some (.int .u8))
theorem tf9:bT vw prog 9 .str:=(by kernel_rfl:prog.underlying 9=some .string)
theorem Zl:bT vw prog 10 .str:=(by kernel_rfl:prog.underlying 10=some .string)
theorem Zm:bT vw prog 11 .str:=(by kernel_rfl:prog.underlying 11=some .string)
theorem Zn:bT vw prog 12 (.int .u64):=(by kernel_rfl:prog.underlying 12=some (.int .u64))
theorem Zo:bT vw prog 21 (.int .i32):=(by kernel_rfl:prog.underlying 21=some (.int .i32))
theorem Zp:bT vw prog 22 (.sl (.st .myFuncT)):=⟨42,by kernel_rfl,by kernel_rfl,by kernel_rfl,by kernel_rfl⟩
theorem Zq:bT vw prog 23 (.sl (.st .myValueT)):=⟨31,by kernel_rfl,by kernel_rfl,by kernel_rfl,by kernel_rfl⟩
theorem Zr:bT vw prog 25 (.st .askedT):=⟨cT prog 25,by kernel_rfl,by kernel_rfl,by kernel_rfl⟩
theorem Zs:bT vw prog 29 (.st .myTypeT):=⟨cT prog 29,by kernel_rfl,by kernel_rfl,by kernel_rfl⟩
theorem Zt:bT vw prog 31 (.st .myValueT):=⟨cT prog 31,by kernel_rfl,by kernel_rfl,by kernel_rfl⟩
theorem Zu:bT vw prog 32 (.sl .str):=⟨9,by kernel_rfl,by kernel_rfl,by kernel_rfl,by kernel_rfl⟩
theorem Zv:bT vw prog 34 (.st .outcomeT):=⟨cT prog 34,by kernel_rfl,by kernel_rfl,by kernel_rfl⟩
theorem Zw:bT vw prog 35 (.int .i64):=(by kernel_rfl:prog.underlying 35=some (.int .i64))
theorem Zx:bT vw prog 40 (.sl (.st .myCodeT)):=⟨44,by kernel_rfl,by kernel_rfl,by kernel_rfl,by kernel_rfl⟩
theorem Zy:bT vw prog 42 (.st .myFuncT):=⟨cT prog 42,by kernel_rfl,by kernel_rfl,by kernel_rfl⟩
theorem Zz:bT vw prog 44 (.st .myCodeT):=⟨cT prog 44,by kernel_rfl,by kernel_rfl,by kernel_rfl⟩
theorem ZA:bT vw prog 52 (.sl (.int .i64)):=⟨3,by kernel_rfl,by kernel_rfl,by kernel_rfl,by kernel_rfl⟩
theorem ZB:bT vw prog 65 (.st .itemT):=⟨cT prog 65,by kernel_rfl,by kernel_rfl,by kernel_rfl⟩
theorem ZC:bT vw prog 66 (.sl (.st .itemT)):=⟨65,by kernel_rfl,by kernel_rfl,by kernel_rfl,by kernel_rfl⟩
theorem ZD:bT vw prog 68 (.st .logT):=⟨cT prog 68,by kernel_rfl,by kernel_rfl,by kernel_rfl⟩
theorem ZE:bT vw prog 85 (.st .endingT):=⟨cT prog 85,by kernel_rfl,by kernel_rfl,by kernel_rfl⟩
theorem WI:bT vw prog 118 (.st .myShapeT):=⟨cT prog 118,by kernel_rfl,by kernel_rfl,by kernel_rfl⟩
theorem WJ:bT vw prog 123 (.st .pointT):=⟨cT prog 123,by kernel_rfl,by kernel_rfl,by kernel_rfl⟩
theorem WK:bT vw prog 125 (.sl (.st .pointT)):=⟨123,by kernel_rfl,by kernel_rfl,by kernel_rfl,by kernel_rfl⟩
theorem WL:bT vw prog 130 (.st .stepT):=⟨cT prog 130,by kernel_rfl,by kernel_rfl,by kernel_rfl⟩
theorem WM:bT vw prog 135 (.st .myIntT):=⟨cT prog 135,by kernel_rfl,by kernel_rfl,by kernel_rfl⟩
theorem WN:bT vw prog 142 (.sl .bool):=⟨4,by kernel_rfl,by kernel_rfl,by kernel_rfl,by kernel_rfl⟩
theorem WO:bT vw prog 178 (.int .u8):=(by kernel_rfl:prog.underlying 178=some (.int .u8))
theorem WP:bT vw prog 189 (.sl (.st .tokenT)):=⟨193,by kernel_rfl,by kernel_rfl,by kernel_rfl,by kernel_rfl⟩
theorem WQ:bT vw prog 193 (.st .tokenT):=⟨cT prog 193,by kernel_rfl,by kernel_rfl,by kernel_rfl⟩
theorem WR:bT vw prog 211 (.sl (.st .spanT)):=⟨213,by kernel_rfl,by kernel_rfl,by kernel_rfl,by kernel_rfl⟩
theorem WS:bT vw prog 213 (.st .spanT):=⟨cT prog 213,by kernel_rfl,by kernel_rfl,by kernel_rfl⟩
theorem WT:bT vw prog 214 (.int .u32):=(by kernel_rfl:prog.underlying 214=some (.int .u32))
theorem WU:bT vw prog 219 (.sl (.st .range16T)):=⟨225,by kernel_rfl,by kernel_rfl,by kernel_rfl,by kernel_rfl⟩
theorem WV:bT vw prog 220 (.sl (.st .range32T)):=⟨228,by kernel_rfl,by kernel_rfl,by kernel_rfl,by kernel_rfl⟩
theorem WW:bT vw prog 222 (.st .rangeTableT):=⟨cT prog 222,by kernel_rfl,by kernel_rfl,by kernel_rfl⟩
theorem WX:bT vw prog 223 (.int .u16):=(by kernel_rfl:prog.underlying 223=some (.int .u16))
theorem WY:bT vw prog 225 (.st .range16T):=⟨cT prog 225,by kernel_rfl,by kernel_rfl,by kernel_rfl⟩
theorem WZ:bT vw prog 228 (.st .range32T):=⟨cT prog 228,by kernel_rfl,by kernel_rfl,by kernel_rfl⟩
theorem W0:bT vw prog 232 (.int .u64):=(by kernel_rfl:prog.underlying 232=some (.int .u64))
theorem W4:bT vw prog 241 (.int .u8):=(by kernel_rfl:prog.underlying 241=some (.int .u8))
theorem W5:bT vw prog 242 (.int .u8):=(by kernel_rfl:prog.underlying 242=some (.int .u8))
theorem W6:bT vw prog 245 (.int .i32):=(by kernel_rfl:prog.underlying 245=some (.int .i32))
theorem W7:bT vw prog 246 (.int .i32):=(by kernel_rfl:prog.underlying 246=some (.int .i32))
theorem aD{ls:List (dW NN)}{t:Ty SN}{ts:List (Ty SN)}(h:ls.map (·.t)=t::ts):∃(x:den NN t) (ls':List (dW NN)),ls=⟨t,x⟩::ls'/\ls'.map (·.t)=ts:=by
 match ls,h with
 |⟨t',x⟩::r,h=>
  simp only[aaY,abD]at h
  obtain⟨h1,h2⟩:=h
  subst h1
  exact⟨x,r,rfl,h2⟩
theorem bW{ls:List (dW NN)}(h:ls.map (·.t)=[]):ls=[]:=by simpa using h
instance:OkI vw:=⟨λi=>match i with
 | .operationT=>false
 |_=>true⟩
theorem facts:GR vw prog where
 ty:=λt τ h hn=>by
  have h:tyN t=some τ:=h
  unfold tyN at h
  split at h
  ·cases h;exact tf2
  ·cases h;exact tf3
  ·cases h;exact tf4
  ·cases h;exact tf5
  ·cases h;exact tf6
  ·cases h;exact tf9
  ·cases h;exact Zl
  ·cases h;exact Zm
  ·cases h;exact Zn
  ·cases h;exact Zo
  ·cases h;exact Zp
  ·cases h;exact Zq
  ·cases h;exact Zr
  ·cases h;exact Zs
  ·cases h;exact Zt
  ·cases h;exact Zu
  ·cases h;exact Zv
  ·cases h;exact Zw
  ·cases h;exact Zx
  ·cases h;exact Zy
  ·cases h;exact Zz
  ·cases h;exact ZA
  ·cases h;exact ZB
  ·cases h;exact ZC
  ·cases h;exact ZD
  ·cases h;cases hn
  ·cases h;exact ZE
  ·cases h;cases hn
  ·cases h;cases hn
  ·cases h;exact WI
  ·cases h;exact WJ
  ·cases h;exact WK
  ·cases h;exact WL
  ·cases h;exact WM
  ·cases h;cases hn
  ·cases h;exact WN
  ·cases h;cases hn
  ·cases h;cases hn
  ·cases h;cases hn
  ·cases h;cases hn
  ·cases h;exact WO
  ·cases h;cases hn
  ·cases h;exact WP
  ·cases h;exact WQ
  ·cases h;cases hn
  ·cases h;cases hn
  ·cases h;cases hn
  ·cases h;cases hn
  ·cases h;exact WR
  ·cases h;exact WS
  ·cases h;exact WT
  ·cases h;exact WU
  ·cases h;exact WV
  ·cases h;exact WW
  ·cases h;exact WX
  ·cases h;exact WY
  ·cases h;exact WZ
  ·cases h;exact W0
  ·cases h;exact W4
  ·cases h;exact W5
  ·cases h;exact W6
  ·cases h;exact W7
  ·cases h
 nof:=λi=>by cases i<;>rfl
 tys:=λi x=>by cases i<;>rfl
 of:=λi ls h=>by
  cases i with
  |myTypeT=>
   obtain⟨a0,l0,rfl,h0⟩:=aD h
   obtain⟨a1,l1,rfl,h1⟩:=aD h0
   obtain⟨a2,l2,rfl,h2⟩:=aD h1
   obtain⟨a3,l3,rfl,h3⟩:=aD h2
   obtain⟨a4,l4,rfl,h4⟩:=aD h3
   obtain rfl:=bW h4
   exact⟨_,rfl⟩
  |myValueT=>
   obtain⟨a0,l0,rfl,h0⟩:=aD h
   obtain⟨a1,l1,rfl,h1⟩:=aD h0
   obtain⟨a2,l2,rfl,h2⟩:=aD h1
   obtain⟨a3,l3,rfl,h3⟩:=aD h2
   obtain⟨a4,l4,rfl,h4⟩:=aD h3
   obtain⟨a5,l5,rfl,h5⟩:=aD h4
   obtain⟨a6,l6,rfl,h6⟩:=aD h5
   obtain⟨a7,l7,rfl,h7⟩:=aD h6
   obtain⟨a8,l8,rfl,h8⟩:=aD h7
   obtain⟨a9,l9,rfl,h9⟩:=aD h8
   obtain⟨a10,l10,rfl,h10⟩:=aD h9
   obtain⟨a11,l11,rfl,h11⟩:=aD h10
   obtain⟨a12,l12,rfl,h12⟩:=aD h11
   obtain rfl:=bW h12
   exact⟨_,rfl⟩
  |askedT=>
   obtain⟨a0,l0,rfl,h0⟩:=aD h
   obtain⟨a1,l1,rfl,h1⟩:=aD h0
   obtain⟨a2,l2,rfl,h2⟩:=aD h1
   obtain rfl:=bW h2
   exact⟨_,rfl⟩
  |outcomeT=>
   obtain⟨a0,l0,rfl,h0⟩:=aD h
   obtain⟨a1,l1,rfl,h1⟩:=aD h0
   obtain⟨a2,l2,rfl,h2⟩:=aD h1
   obtain⟨a3,l3,rfl,h3⟩:=aD h2
   obtain⟨a4,l4,rfl,h4⟩:=aD h3
   obtain⟨a5,l5,rfl,h5⟩:=aD h4
   obtain⟨a6,l6,rfl,h6⟩:=aD h5
   obtain⟨a7,l7,rfl,h7⟩:=aD h6
   obtain⟨a8,l8,rfl,h8⟩:=aD h7
   obtain⟨a9,l9,rfl,h9⟩:=aD h8
   obtain⟨a10,l10,rfl,h10⟩:=aD h9
   obtain⟨a11,l11,rfl,h11⟩:=aD h10
   obtain⟨a12,l12,rfl,h12⟩:=aD h11
   obtain⟨a13,l13,rfl,h13⟩:=aD h12
   obtain⟨a14,l14,rfl,h14⟩:=aD h13
   obtain⟨a15,l15,rfl,h15⟩:=aD h14
   obtain rfl:=bW h15
   exact⟨_,rfl⟩
  |myCodeT=>
   obtain⟨a0,l0,rfl,h0⟩:=aD h
   obtain⟨a1,l1,rfl,h1⟩:=aD h0
   obtain⟨a2,l2,rfl,h2⟩:=aD h1
   obtain⟨a3,l3,rfl,h3⟩:=aD h2
   obtain⟨a4,l4,rfl,h4⟩:=aD h3
   obtain⟨a5,l5,rfl,h5⟩:=aD h4
   obtain⟨a6,l6,rfl,h6⟩:=aD h5
   obtain⟨a7,l7,rfl,h7⟩:=aD h6
   obtain⟨a8,l8,rfl,h8⟩:=aD h7
   obtain rfl:=bW h8
   exact⟨_,rfl⟩
  |myFuncT=>
   obtain⟨a0,l0,rfl,h0⟩:=aD h
   obtain⟨a1,l1,rfl,h1⟩:=aD h0
   obtain⟨a2,l2,rfl,h2⟩:=aD h1
   obtain⟨a3,l3,rfl,h3⟩:=aD h2
   obtain⟨a4,l4,rfl,h4⟩:=aD h3
   obtain⟨a5,l5,rfl,h5⟩:=aD h4
   obtain⟨a6,l6,rfl,h6⟩:=aD h5
   obtain⟨a7,l7,rfl,h7⟩:=aD h6
   obtain⟨a8,l8,rfl,h8⟩:=aD h7
   obtain rfl:=bW h8
   exact⟨_,rfl⟩
  |itemT=>
   obtain⟨a0,l0,rfl,h0⟩:=aD h
   obtain⟨a1,l1,rfl,h1⟩:=aD h0
   obtain⟨a2,l2,rfl,h2⟩:=aD h1
   obtain rfl:=bW h2
   exact⟨_,rfl⟩
  |logT=>
   obtain⟨a0,l0,rfl,h0⟩:=aD h
   obtain⟨a1,l1,rfl,h1⟩:=aD h0
   obtain⟨a2,l2,rfl,h2⟩:=aD h1
   obtain⟨a3,l3,rfl,h3⟩:=aD h2
   obtain⟨a4,l4,rfl,h4⟩:=aD h3
   obtain⟨a5,l5,rfl,h5⟩:=aD h4
   obtain⟨a6,l6,rfl,h6⟩:=aD h5
   obtain rfl:=bW h6
   exact⟨_,rfl⟩
  |endingT=>
   obtain⟨a0,l0,rfl,h0⟩:=aD h
   obtain⟨a1,l1,rfl,h1⟩:=aD h0
   obtain rfl:=bW h1
   exact⟨_,rfl⟩
  |myShapeT=>
   obtain⟨a0,l0,rfl,h0⟩:=aD h
   obtain⟨a1,l1,rfl,h1⟩:=aD h0
   obtain⟨a2,l2,rfl,h2⟩:=aD h1
   obtain⟨a3,l3,rfl,h3⟩:=aD h2
   obtain rfl:=bW h3
   exact⟨_,rfl⟩
  |pointT=>
   obtain⟨a0,l0,rfl,h0⟩:=aD h
   obtain⟨a1,l1,rfl,h1⟩:=aD h0
   obtain rfl:=bW h1
   exact⟨_,rfl⟩
  |stepT=>
   obtain⟨a0,l0,rfl,h0⟩:=aD h
   obtain⟨a1,l1,rfl,h1⟩:=aD h0
   obtain⟨a2,l2,rfl,h2⟩:=aD h1
   obtain rfl:=bW h2
   exact⟨_,rfl⟩
  |myIntT=>
   obtain⟨a0,l0,rfl,h0⟩:=aD h
   obtain⟨a1,l1,rfl,h1⟩:=aD h0
   obtain rfl:=bW h1
   exact⟨_,rfl⟩
  |tokenT=>
   obtain⟨a0,l0,rfl,h0⟩:=aD h
   obtain⟨a1,l1,rfl,h1⟩:=aD h0
   obtain⟨a2,l2,rfl,h2⟩:=aD h1
   obtain rfl:=bW h2
   exact⟨_,rfl⟩
  |operationT=>
   obtain⟨a0,l0,rfl,h0⟩:=aD h
   obtain⟨a1,l1,rfl,h1⟩:=aD h0
   obtain rfl:=bW h1
   exact⟨_,rfl⟩
  |spanT=>
   obtain⟨a0,l0,rfl,h0⟩:=aD h
   obtain⟨a1,l1,rfl,h1⟩:=aD h0
   obtain rfl:=bW h1
   exact⟨_,rfl⟩
  |range16T=>
   obtain⟨a0,l0,rfl,h0⟩:=aD h
   obtain⟨a1,l1,rfl,h1⟩:=aD h0
   obtain⟨a2,l2,rfl,h2⟩:=aD h1
   obtain rfl:=bW h2
   exact⟨_,rfl⟩
  |range32T=>
   obtain⟨a0,l0,rfl,h0⟩:=aD h
   obtain⟨a1,l1,rfl,h1⟩:=aD h0
   obtain⟨a2,l2,rfl,h2⟩:=aD h1
   obtain rfl:=bW h2
   exact⟨_,rfl⟩
  |rangeTableT=>
   obtain⟨a0,l0,rfl,h0⟩:=aD h
   obtain⟨a1,l1,rfl,h1⟩:=aD h0
   obtain⟨a2,l2,rfl,h2⟩:=aD h1
   obtain rfl:=bW h2
   exact⟨_,rfl⟩
end Go.Proofs.YtcghbgmmgcljkaaGreatDoor
end
section
namespace Go.Proofs.YtcghbgmmgcljkaaGreatDoor
theorem w64{x:Int}(h1: -9223372036854775808<=x)(h2:x<=9223372036854775807):IntKind.i64.wrap x=x:=by
 unfold IntKind.wrap
 simp only[IntKind.bits,IntKind.signed,acb]
 split<;>rename_i h<;>simp at h<;>omega
def lo(s:Bool)(b:Int):Int:=if s=true then-(2^(b.toNat-1))else 0
def hi(s:Bool)(b:Int):Int:=if s=true then 2^(b.toNat-1) -1 else 2^b.toNat-1
def inT(s:Bool)(b n:Int):Prop:=lo s b<=n/\n<=hi s b
def qi(s:Bool)(b n:Int):Int:=if s=true/\2^(b.toNat-1)<=n%2^b.toNat then n%2^b.toNat-2^b.toNat else n%2^b.toNat
theorem fg{b:Int}(h1:1<=b)(h2:b<=31):(1:Int)<=2^(b.toNat-1)/\(2:Int)^b.toNat=2 *2^(b.toNat-1)/\(2:Int)^(b.toNat-1)<=1073741824:=by
 obtain⟨k,rfl⟩:∃k:Nat,b=(k:Int)+1:=⟨(b-1).toNat,by omega⟩
 have hk:k<=30:=by omega
 have e1:((k:Int)+1).toNat=k+1:=by omega
 rw[e1,ady,aeh]
 have p1:(1:Nat)<=2^k:=Nat.one_le_two_pow
 have p2:2^k<=2^30:=acd (by omega) hk
 have e2:((2:Int)^k)=((2^k:Nat):Int):=by simp
 rw[e2]
 refine⟨by omega,by omega,by omega⟩
theorem o7{s:Bool}{b n:Int}(h1:1<=b)(h2:b<=31)(h:inT s b n): -1073741824<=n/\n<=2147483647:=by
 obtain⟨p1,p2,p3⟩:=fg h1 h2
 obtain⟨q1,q2⟩:=h
 unfold lo at q1
 unfold hi at q2
 cases s<;>simp at q1 q2<;>omega
theorem MG{s:Bool}{b n:Int}(h1:1<=b)(h2:b<=31):inT s b (qi s b n):=by
 obtain⟨p1,p2,p3⟩:=fg h1 h2
 have m1:=acC n (show(2:Int)^b.toNat≠0 by omega)
 have m2:=ac0 n (show(0:Int)<2^b.toNat by omega)
 unfold inT qi lo hi
 cases s
 ·simp;omega
 ·simp only[ael,true_and]
  split<;>omega
theorem lF{s:Bool}{b n:Int}(h1:1<=b)(h2:b<=31)(h:inT s b n):qi s b n=n:=by
 obtain⟨p1,p2,p3⟩:=fg h1 h2
 obtain⟨q1,q2⟩:=h
 unfold lo at q1
 unfold hi at q2
 unfold qi
 generalize hp:(2:Int)^(b.toNat-1)=p at *
 rw[p2]at *
 cases s
 ·simp at q1 q2⊢
  exact acQ q1 (by omega)
 ·simp only[ael,true_and]at q1 q2⊢
  by_cases hn:0<=n
  ·rw[acQ hn (by omega),aeo (by omega)]
  ·have:n%(2 *p)=n+2 *p:=by
    rw[<-Int.add_emod_right n (2 *p),acQ (by omega) (by omega)]
   rw[this,aep (by omega)];omega
theorem Aa{s:Bool}{b n m:Int}(h:n%2^b.toNat=m%2^b.toNat):qi s b n=qi s b m:=by
 unfold qi;rw[h]
theorem DQ(n:Int){k:Nat}(hk:k<=62):Bs.iand .i64 n (2^k-1)=n%2^k:=by
 have p1:(1:Nat)<=2^k:=Nat.one_le_two_pow
 have p2:2^k<=2^62:=acd (by omega) hk
 have e2:((2:Int)^k)=((2^k:Nat):Int):=by simp
 show IntKind.i64.wrap (((BitVec.ofInt 64 n)&&&(BitVec.ofInt 64 (2^k-1))).toNat:Int)=_
 rw[BitVec.toNat_and,BitVec.toNat_ofInt,BitVec.toNat_ofInt]
 have hb:((2:Int)^k-1)%((2^64:Nat):Int)=((2^k-1:Nat):Int):=by
  rw[e2,acQ]<;>omega
 rw[hb,aaQ,Nat.and_two_pow_sub_one_eq_mod]
 obtain⟨m,hm⟩:∃m:Nat,n%((2^64:Nat):Int)=(m:Int):=⟨(n%((2^64:Nat):Int)).toNat,(acs (acC _ (by decide))).symm⟩
 rw[hm,aaQ]
 have hmm:(m:Int)%((2^k:Nat):Int)=n%((2^k:Nat):Int):=by
  rw[<-hm]
  exact ad3 n (by
   rw[adi]
   exact adR 2 (by omega))
 have hlt:m%2^k<2^k:=adf _ (by omega)
 rw[w64 (by omega) (by omega),e2,<-hmm]
 omega
def gw:Nat->Nat->List Int
 |0,_=>[]
 |k+1,n=>((n%2:Nat):Int)::gw k (n/2)
def On:List Int->Int
 |[]=>0
 |x::r=>2 *On r+x
theorem e8:∀k n,(gw k n).length=k
 |0,_=>rfl
 |k+1,n=>by rw[gw,aaW,e8 k]
theorem D4(a b:Nat):a&&&b=2 *(a/2&&&b/2)+(a%2) *(b%2):=by
 have h1:(a&&&b)/2=a/2&&&b/2:=Nat.and_div_two
 have h2:(a&&&b)%2=(a%2) *(b%2):=by
  have:=ad7 (a:=a) (b:=b) (n:=1)
  simp only[aej]at this
  rw[this]
  rcases ab5 a with h|h<;>rcases ab5 b with h'|h'<;>rw[h,h']<;>rfl
 omega
theorem HJ(a b:Nat):a|||b=2 *(a/2|||b/2)+((a%2)+(b%2)+1)/2:=by
 have h1:(a|||b)/2=a/2|||b/2:=Nat.or_div_two
 have h2:(a|||b)%2=((a%2)+(b%2)+1)/2:=by
  have:=Nat.or_mod_two_pow (a:=a) (b:=b) (n:=1)
  simp only[aej]at this
  rw[this]
  rcases ab5 a with h|h<;>rcases ab5 b with h'|h'<;>rw[h,h']<;>rfl
 omega
theorem Ed(a b:Nat):a^^^b=2 *(a/2^^^b/2)+((a%2)+(b%2))%2:=by
 have h1:(a^^^b)/2=a/2^^^b/2:=Nat.xor_div_two
 have h2:(a^^^b)%2=((a%2)+(b%2))%2:=by
  have:=ad6 (a:=a) (b:=b) (n:=1)
  simp only[aej]at this
  rw[this]
  rcases ab5 a with h|h<;>rcases ab5 b with h'|h'<;>rw[h,h']<;>rfl
 omega
end Go.Proofs.YtcghbgmmgcljkaaGreatDoor
end
section
namespace Go.Tx
open Go.Awp
variable [Inhabited GMem]
theorem l_.pure{P:Program}{f:FuncId}{args:List H}{r:H}(hc:jn P f=true)
 (h:∀(E:Env) (M:Mem) (w:World) (vs:Array Value),GOk M w->(∀b o v,M b o=some v->w.cell? ⟨b,o,none⟩=some v)->gC E M vs args->
   Calls P f vs w λe w'=>∃v,e= .returned v/\bO E M v r/\Go.RowKit.Below w.heap.size w w'):l_ P f args [] r []:=by
 refine⟨hc,λE M w vs hgm hm _ hvs=>(h E M w vs hgm hm hvs).mono ?_⟩
 rintro e w' ⟨v,rfl,hr,hb⟩
 refine⟨v,E,M,rfl,{rep:=hr,owns:=⟨λn o hn=>by simp[gt]at hn,λn m o o' b _ hn=>by simp[gt]at hn⟩,mle:=Mem.le_refl _,mem:=λb o v hv=> ?_,mnew:=λb o v hv=> .inl hv,home:=λn o b hn=>by simp[gt]at hn,frame:=λk hk _=>hb.block k hk,grows:=hb.size,os:=hb.os,tape:=hb.tape,output:=hb.output,env:=λ_ _=>rfl}⟩
 have h1:=hm b o v hv
 have hlt:=World.block_lt_of_cell? w (a:=⟨b,o,none⟩) h1
 rw[<-h1]
 exact World.cell?_of_block (a:=⟨b,o,none⟩) (hb.block b hlt)
theorem l_.newRow{P:Program}{f:FuncId}{args:List H}{sz:Nat}{rows:List (List D)}(hc:jn P f=true)(hz:∀r∈rows,r.length=sz)
 (h:∀(E:Env) (M:Mem) (w:World) (vs:Array Value),GOk M w->(∀b o v,M b o=some v->w.cell? ⟨b,o,none⟩=some v)->gC E M vs args->
   Calls P f vs w λe w'=>∃(cs:Array Value) (t:TypeId),e= .returned (.slice (some ⟨w.heap.size,0,none⟩) rows.length rows.length)/\w'=w.alloc (.cells cs t)/\cs.size=rows.length *sz/\
    ∀(i j:Nat) (r:List D) (c:Value) (x:D),rows[i]?=some r->r[j]?=some x->cs[i *sz+j]?=some c->df M c x):l_ P f args [] (.d (.sl sz rows)) []:=by
 refine⟨hc,λE M w vs hgm hm _ hvs=>(h E M w vs hgm hm hvs).mono ?_⟩
 rintro e w' ⟨cs,t,rfl,rfl,hsz,hcr⟩
 have hnew:∀k,M w.heap.size k=none:=λk=>by
  cases hk:M w.heap.size k with
  |none=>rfl
  |some v=>
   have:=World.block_lt_of_cell? w (a:=⟨w.heap.size,k,none⟩) (hm _ _ _ hk)
   simp at this
 let M':Mem:=λb k=>if b=w.heap.size then cs[k]? else M b k
 have hM:M.le M':=λb k v hv=>by
  by_cases hb:b=w.heap.size
  ·subst hb;rw[hnew]at hv;cases hv
  ·simp[M',hb,hv]
 have hgr:=World.grownBy_alloc w (.cells cs t) none
 have hold:∀b,b<w.heap.size->(w.alloc (.cells cs t)).heap[b]?=w.heap[b]?:=λb hb=>hgr.block b hb (by simp)
 refine⟨_,E,M',rfl,{rep:= ?_,owns:=⟨λn o hn=>by simp[gt]at hn,λn m o o' b _ hn=>by simp[gt]at hn⟩,mle:=hM,mem:=λb k v hv=> ?_,mnew:=λb k v hv=> ?_,home:=λn o b hn=>by simp[gt]at hn,frame:=λk hk _=>hold k hk,grows:=hgr.size,os:=hgr.os,tape:=hgr.tape,output:=hgr.output,env:=λ_ _=>rfl}⟩
 ·refine .d (.sl w.heap.size 0 rows.length rows.length sz rows (λk=>cs.getD k undef) rfl (abe _) hz (λk hk=> ?_) λi j r x hr hx=> ?_)
  ·have:k<cs.size:=by omega
   simp only[M',ael,aaU]
   rw[abc this]
   simp[this]
  ·have hj:j<sz:=by
    have:=hz r (aaV hr)
    have:=(aaP.1 hx).1;omega
   have hi:i<rows.length:=(aaP.1 hr).1
   have hmul:(i+1) *sz<=rows.length *sz:=aa_ _ hi
   rw[abs]at hmul
   have hk:i *sz+j<cs.size:=by omega
   have:=hcr i j r cs[i *sz+j] x hr hx (abc hk)
   have hg:cs.getD (i *sz+j) undef=cs[i *sz+j]:=by simp[hk]
   rw[hg]
   exact this.mono hM
 ·by_cases hb:b=w.heap.size
  ·subst hb
   simp only[M',ael]at hv
   rw[cell_of_row _ w.heap.size k cs t (0,0) (heap_alloc_new w _)]
   exact hv
  ·simp only[M',aeo hb]at hv
   have h1:=hm b k v hv
   have hlt:=World.block_lt_of_cell? w (a:=⟨b,k,none⟩) h1
   rw[<-h1]
   exact World.cell?_of_block (a:=⟨b,k,none⟩) (hold b hlt)
 ·by_cases hb:b=w.heap.size
  ·exact .inr (.inr (by omega))
  ·simp only[M',aeo hb]at hv
   exact .inl hv
theorem DO{E:Env}{M:Mem}{vs:Array Value}{a:H}(h:gC E M vs [a]):∃v,vs= #[v]/\bO E M v a:=by
 obtain⟨h1,h2⟩:=h
 match vs,h1 with
 |⟨[v]⟩,_=>exact⟨v,rfl,h2 0 v a rfl rfl⟩
theorem DP{E:Env}{M:Mem}{vs:Array Value}{a b:H}(h:gC E M vs [a,b]):∃v u,vs= #[v,u]/\bO E M v a/\bO E M u b:=by
 obtain⟨h1,h2⟩:=h
 match vs,h1 with
 |⟨[v,u]⟩,_=>exact⟨v,u,rfl,h2 0 v a rfl rfl,h2 1 u b rfl rfl⟩
section
open Go.Shelf Go.RowKit Go.Proofs
set_option maxHeartbeats 1000000 in
end
end Go.Tx
end
section
namespace Go.Tx
open Go.Awp
variable [Inhabited GMem]
section
variable {V:iF}
def c0:dh V:=λ_ _ _ _ _=>none
def cO(P:Program)(fid:Nat)(sig:Sig V)(F:HL V.N sig.tys->Option (HL V.N sig.rcut.tys))(r:dh V):dh V:=λA f args S k=>match abI f fid with
 |true=>cz P sig F A args S k
 |false=>r A f args S k
def cP(P:Program)(fid:Nat)(sig:Sig V)(F:HL V.N sig.tys->Option (HL V.N sig.rcut.tys))(r:dh V):dh V:=λA f args S k=>match abI f fid with
 |true=>cv P sig F A args S k
 |false=>r A f args S k
theorem bP{P:Program}:bH P (c0:dh V):=λA fid args S dst k r h=>by cases h
theorem Ub{P:Program}{fid:Nat}{sig:Sig V}{F:HL V.N sig.tys->Option (HL V.N sig.rcut.tys)}{r:dh V}(h:aM P fid sig F)(hr:bH P r):bH P (cO P fid sig F r):=λA f args S dst k x hx=>by
 unfold cO at hx
 split at hx
 ·rename_i e
  have e:=abw e
  subst e
  exact aP h hx
 ·exact hr A f args S dst k x hx
theorem Uc{P:Program}{fid:Nat}{sig:Sig V}{F:HL V.N sig.tys->Option (HL V.N sig.rcut.tys)}{r:dh V}(h:aM P fid sig F)(ho:sig.objs=[])(hk:sig.keep=[])(hr:bH P r):bH P (cP P fid sig F r):=λA f args S dst k x hx=>by
 unfold cP at hx
 split at hx
 ·rename_i e
  have e:=abw e
  subst e
  exact aR h ho hk hx
 ·exact hr A f args S dst k x hx
end
end Go.Tx
end
section
namespace Go.Awp
variable [Inhabited GMem]
end Go.Awp
namespace Go.Tx
open Go.Awp
variable [Inhabited GMem]
section
variable {V:iF}
end
end Go.Tx
end
section
namespace Go.Tx
open Go.Awp
variable {V:iF} [Inhabited GMem]
def Jy:Nat->Bool:=λ_=>false
theorem Xz{C:Ctx}{X:Xc V}{c:Code}(h:cB c=[])(hj:∀k,X.jumps k=none:=by intro k;rfl):LOk C X c:=eT (by rw[h];trivial) hj
theorem XA{C:Ctx}{X:Xc V}{c b:Code}{la:m6 V X.sh}(h:cB c=[b])(e:X.loops (cI b)=some la)(h1:gD C b la)(hj:∀k,X.jumps k=none:=by intro k;rfl):LOk C X c:=
 eT (by rw[h];exact⟨iX e h1,trivial⟩) hj
theorem XY{C:Ctx}{X:Xc V}{c b b':Code}{la la':m6 V X.sh}(h:cB c=[b,b'])(e:X.loops (cI b)=some la)(e':X.loops (cI b')=some la')(h1:gD C b la)(h2:gD C b' la')(hj:∀k,X.jumps k=none:=by intro k;rfl):LOk C X c:=
 eT (by rw[h];exact⟨iX e h1,iX e' h2,trivial⟩) hj
theorem fnA(X:Xc V){sig:Sig V}{fid:FuncId}{fn:Func}{n:HL V.N sig.tys->Option (HL V.N sig.rcut.tys)}(hf:X.P.funcs[fid]?=some fn)
 (hk:(fn.body,fn.results.toList,(fn.name != "runtime.NumGoroutine"),fn.ntmps)=(some (aO fn),sig.rvars,true,X.n))(hm:X.P.follows .mixedOrders=true)(hcall:bH X.P X.call)
 (hsh:X.sh.rcut=sig.rcut)(hlen:acW sig.params.length X.n=true)(hdr:eD (sig.rcut.objs.map (·.1))=true)(h:∀v,exF X sig hsh (aO fn) v=n v)
 (hl:∀C:Ctx,C.P=X.P->C.N=X.n/\Fx C X.pre->LOk C X (aO fn)):aM X.P fid sig n:=λv r x hr hx=>by
 injection hk with h1 h2
 injection h2 with h2 h3
 injection h3 with h3 h4
 exact AD hsh hf h1 h4 h2 h3 hlen hm hcall hdr hl ((h v).trans hr) x hx
theorem lpB{C:Ctx}{X:Xc V}{b:Code}{cut:Cut V.ι}{alts:List Alt}{n:HL V.N cut.tys->Option (nU (c_ X.sh []) alts)}
 {bd:(HL V.N cut.tys->Option (nU (c_ X.sh []) alts))->HL V.N cut.tys->Option (nU (c_ X.sh []) alts)}
 (pc:∀m:HL V.N cut.tys->nU (c_ X.sh []) alts->Prop,(∀F,(∀v r,F v=some r->m v r)->∀v r,bd F v=some r->m v r)->∀v r,n v=some r->m v r)
 (hP:C.P=X.P)(hn:C.N=X.n/\Fx C X.pre)(hm:X.P.follows .mixedOrders=true)(hcall:bH X.P X.call)(hl:LOk C X b)(h:∀F v,exL X b cut alts F v=bd F v):
 gD C b (sh:=X.sh) ⟨cut,alts,n⟩:=
 pc _ λF ih v _ hr=>gM hP hn hm hcall hl ih ((h F v).trans hr)
def tl{α:Type _}:List (Nat×α)->Nat->Option α
 |[],_=>none
 |(k,a)::r,i=>bif abI i k then some a else tl r i
def shL(l:List (Nat×Cut V.ι))(z:Cut V.ι):aN V:=⟨λi=>(tl l i).getD ⟨[],[]⟩,z⟩
def mX(P:Program)(n:Nat)(call:dh V)(sh:aN V)(j:List (Nat×Cut V.ι×List Alt))(r:List (Nat×Cut V.ι))(l:List (Nat×m6 V sh)):Xc V:={P:=P,n:=n,call:=call,pre:=Jy,sh:=sh,joins:=tl j,regs:=tl r,loops:=tl l}
abbrev fB(X:Xc V)(b:Code)(la:m6 V X.sh):Prop:=∀C:Ctx,C.P=X.P->C.N=X.n/\Fx C X.pre->gD C b la
theorem fn0(X:Xc V){sig:Sig V}{fid:FuncId}{fn:Func}{n:HL V.N sig.tys->Option (HL V.N sig.rcut.tys)}(hf:X.P.funcs[fid]?=some fn)(hcall:bH X.P X.call)
 (hl:cB (aO fn)=[]:=by kernel_rfl)
 (hk:(fn.body,fn.results.toList,(fn.name != "runtime.NumGoroutine"),fn.ntmps)=(some (aO fn),sig.rvars,true,X.n):=by kernel_rfl)(hm:X.P.follows .mixedOrders=true:=by kernel_rfl)
 (hsh:X.sh.rcut=sig.rcut:=by exact rfl)(hlen:acW sig.params.length X.n=true:=by exact rfl)(hdr:eD (sig.rcut.objs.map (·.1))=true:=by exact rfl)(hj:∀k,X.jumps k=none:=by intro k;rfl)
 (h:∀v,exF X sig hsh (aO fn) v=n v:=by intro v;kernel_rfl):aM X.P fid sig n:=
 fnA X hf hk hm hcall hsh hlen hdr h λ_ _ _=>Xz hl hj
theorem fn1(X:Xc V){sig:Sig V}{fid:FuncId}{fn:Func}{n:HL V.N sig.tys->Option (HL V.N sig.rcut.tys)}{b:Code}{la:m6 V X.sh}(hf:X.P.funcs[fid]?=some fn)(hcall:bH X.P X.call)
 (h1:fB X b la)(hl:cB (aO fn)=[b]:=by kernel_rfl)(e:X.loops (cI b)=some la:=by kernel_rfl)
 (hk:(fn.body,fn.results.toList,(fn.name != "runtime.NumGoroutine"),fn.ntmps)=(some (aO fn),sig.rvars,true,X.n):=by kernel_rfl)(hm:X.P.follows .mixedOrders=true:=by kernel_rfl)
 (hsh:X.sh.rcut=sig.rcut:=by exact rfl)(hlen:acW sig.params.length X.n=true:=by exact rfl)(hdr:eD (sig.rcut.objs.map (·.1))=true:=by exact rfl)(hj:∀k,X.jumps k=none:=by intro k;rfl)
 (h:∀v,exF X sig hsh (aO fn) v=n v:=by intro v;kernel_rfl):aM X.P fid sig n:=
 fnA X hf hk hm hcall hsh hlen hdr h λC p q=>XA hl e (h1 C p q) hj
theorem fn2(X:Xc V){sig:Sig V}{fid:FuncId}{fn:Func}{n:HL V.N sig.tys->Option (HL V.N sig.rcut.tys)}{b b':Code}{la la':m6 V X.sh}(hf:X.P.funcs[fid]?=some fn)(hcall:bH X.P X.call)
 (h1:fB X b la)(h2:fB X b' la')(hl:cB (aO fn)=[b,b']:=by kernel_rfl)(e:X.loops (cI b)=some la:=by kernel_rfl)(e':X.loops (cI b')=some la':=by kernel_rfl)
 (hk:(fn.body,fn.results.toList,(fn.name != "runtime.NumGoroutine"),fn.ntmps)=(some (aO fn),sig.rvars,true,X.n):=by kernel_rfl)(hm:X.P.follows .mixedOrders=true:=by kernel_rfl)
 (hsh:X.sh.rcut=sig.rcut:=by exact rfl)(hlen:acW sig.params.length X.n=true:=by exact rfl)(hdr:eD (sig.rcut.objs.map (·.1))=true:=by exact rfl)(hj:∀k,X.jumps k=none:=by intro k;rfl)
 (h:∀v,exF X sig hsh (aO fn) v=n v:=by intro v;kernel_rfl):aM X.P fid sig n:=
 fnA X hf hk hm hcall hsh hlen hdr h λC p q=>XY hl e e' (h1 C p q) (h2 C p q) hj
def sg(p:List (Pt V.ι))(z:Cut V.ι)(r:List ResultVar):Sig V:={params:=p,rcut:=z,rvars:=r}
def CC(P:Program)(V:iF)[Inhabited GMem]:={c:dh V//bH P c}
def k0{P:Program}:CC P V:=⟨c0,bP⟩
def kP{P:Program}{fid:Nat}{sig:Sig V}{F:HL V.N sig.tys->Option (HL V.N sig.rcut.tys)}(h:aM P fid sig F)(r:CC P V)(ho:sig.objs=[]:=by exact rfl)(hk:sig.keep=[]:=by exact rfl):CC P V:=⟨cP P fid sig F r.1,Uc h ho hk r.2⟩
def kO{P:Program}{fid:Nat}{sig:Sig V}{F:HL V.N sig.tys->Option (HL V.N sig.rcut.tys)}(h:aM P fid sig F)(r:CC P V):CC P V:=⟨cO P fid sig F r.1,Ub h r.2⟩
theorem lp0{X:Xc V}{b:Code}{cut:Cut V.ι}{alts:List Alt}{n:HL V.N cut.tys->Option (nU (c_ X.sh []) alts)}
 {bd:(HL V.N cut.tys->Option (nU (c_ X.sh []) alts))->HL V.N cut.tys->Option (nU (c_ X.sh []) alts)}
 (pc:∀m:HL V.N cut.tys->nU (c_ X.sh []) alts->Prop,(∀F,(∀v r,F v=some r->m v r)->∀v r,bd F v=some r->m v r)->∀v r,n v=some r->m v r)
 (hcall:bH X.P X.call)(hl:cB b=[]:=by kernel_rfl)(hm:X.P.follows .mixedOrders=true:=by kernel_rfl)(hj:∀k,X.jumps k=none:=by intro k;rfl)
 (h:∀F v,exL X b cut alts F v=bd F v:=by intro F v;kernel_rfl):fB X b ⟨cut,alts,n⟩:=
 λ_ hP hn=>lpB pc hP hn hm hcall (Xz hl hj) h
theorem lp1{X:Xc V}{b:Code}{cut:Cut V.ι}{alts:List Alt}{n:HL V.N cut.tys->Option (nU (c_ X.sh []) alts)}
 {bd:(HL V.N cut.tys->Option (nU (c_ X.sh []) alts))->HL V.N cut.tys->Option (nU (c_ X.sh []) alts)}
 (pc:∀m:HL V.N cut.tys->nU (c_ X.sh []) alts->Prop,(∀F,(∀v r,F v=some r->m v r)->∀v r,bd F v=some r->m v r)->∀v r,n v=some r->m v r)
 (hcall:bH X.P X.call){b1:Code}{l1:m6 V X.sh}(h1:fB X b1 l1)(hl:cB b=[b1]:=by kernel_rfl)(e:X.loops (cI b1)=some l1:=by kernel_rfl)(hm:X.P.follows .mixedOrders=true:=by kernel_rfl)(hj:∀k,X.jumps k=none:=by intro k;rfl)
 (h:∀F v,exL X b cut alts F v=bd F v:=by intro F v;kernel_rfl):fB X b ⟨cut,alts,n⟩:=
 λC hP hn=>lpB pc hP hn hm hcall (XA hl e (h1 C hP hn) hj) h
end Go.Tx
end
