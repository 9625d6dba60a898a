/-
  Texts of this claim, joined by a program of mine: what the theorem uses.
-/
import Derived.Test.YtpndmanbfleadaaGreatDoorPkE
import Derived.KernelRfl
import Derived.Test.YtpndmanbfleadaaGreatDoorPkC
import Derived.WalkKit
import Derived.ProofKit
import Derived.OpenShut
import Derived.Test.YtpndmanbfleadaaGreatDoorRows
import Derived.Lib.LaidIn
import Derived.Lib.LaidU8T
import Derived.MakeChecks
import Derived.Test.YtpndmanbfleadaaGreatDoorProg
import Derived.Shelf.Strings.Builder1
import Derived.Sort.Grow
import Derived.Sort.EncStr
import Derived.Lib.SlicesCompact
import Derived.Sort.Walk0
open Array renaming eq_empty_of_size_eq_zero→Qk,getElem?_append→Rv,getElem?_eq_getElem→OU,getElem?_eq_some_iff→OC,getElem?_modify→PI,getElem?_setIfInBounds_ne→Pb,getElem?_toList→Pm,length_toList→PB,toList_setIfInBounds→Qv
open Bool renaming and_eq_true→Oy,eq_false_iff→Ra,or_eq_false_iff→PM,or_eq_true→Pk
open List renaming all_eq_true→OD,any_eq_true→PG,append_assoc→O9,append_eq_nil_iff→QG,append_nil→Pj,drop_drop→PJ,drop_zero→OZ,eq_nil_of_length_eq_zero→OL,ext_getElem?→Pf,filterMap_cons→Qm,filter_cons→Ri,getD→RL,getElem?_append_left→OK,getElem?_append_right→OI,getElem?_cons_zero→PW,getElem?_eq_getElem→Ou,getElem?_eq_some_iff→Ol,getElem?_map→Oq,getElem?_range→PP,getElem?_set→Pa,getElem?_take→OE,getElem_mem→Pn,getElem_of_mem→QB,length_append→OJ,length_cons→O_,length_eq_zero_iff→QD,length_map→On,length_replicate→P5,length_take→O1,map→Ry,map_append→O6,map_congr_left→OP,map_cons→Ow,map_id→RN,map_map→OQ,map_nil→O0,mem_append→ON,mem_append_left→PY,mem_append_right→Qf,mem_cons→Oz,mem_cons_of_mem→Ot,mem_cons_self→Ox,mem_filter→Qr,mem_filterMap→PU,mem_map→OT,mem_map_of_mem→OR,mem_of_getElem?→OA,mem_range→Q3,mergeSort_perm→RE,not_mem_nil→QX,pairwise_cons→P7,pairwise_iff_getElem→Rb,pairwise_map→QJ,pairwise_mergeSort→Rm,range→P9,replicate→Pc,sum_cons→Qu,take_append_of_le_length→PO,take_of_length_le→O8
open List.Pairwise renaming nil→Q_
open List.Perm renaming eq_of_pairwise→Rk
open List.cons renaming injEq→PF
open Nat renaming add_zero→Pd,beq→Ph,beq_refl→Qo,ble→QR,blt→PQ,blt_eq→P8,eq_of_beq_eq_true→O2,le_of_ble_eq_true→Qe,le_of_eq→RK,le_refl→OO,le_trans→Ps,min_eq_left→PA,mul_le_mul_right→OH,mul_one→Qn,strongRecOn→Ro,succ_mul→OY,zero_add→OS,zero_le→Pu
open Ne renaming symm→O3
open Option renaming bind_eq_some_iff→PV,bind_some→PX,isSome_iff_exists→QN,map_eq_some_iff→OB,map_some→OW
open Option.some renaming inj→P_,injEq→Om
open Prod.mk renaming injEq→OV
noncomputable section
set_option linter.unusedSectionVars false
set_option linter.unusedSimpArgs false
set_option linter.unusedVariables false
section
namespace Go.Tx
open Go.Awp
variable [Inhabited GMem]
section
variable {V:jj}
mutual
def TV.plain:TV V.N->Bool
 | .lf .. =>true
 | .raw _=>true
 | .rp .. =>true
 | .junk=>true
 | .agg cs=>TV.plainL cs
 | .tup vs=>TV.plainL vs
 | .fn _ a b=>TV.plainL a&&TV.plainL b
 |_=>false
def TV.plainL:List (TV V.N)->Bool
 |[]=>true
 |x::r=>TV.plain x&&TV.plainL r
end
mutual
theorem plain_has:∀{x:TV V.N},TV.plain x=true->∀n,TV.has n x=false
 | .lf ..,_,n=>by simp[TV.has]
 | .raw _,_,n=>by simp[TV.has]
 | .rp ..,_,n=>by simp[TV.has]
 | .junk,_,n=>by simp[TV.has]
 | .agg cs,h,n=>by simp only[TV.plain]at h;simp only[TV.has];exact plainL_has h n
 | .tup cs,h,n=>by simp only[TV.plain]at h;simp only[TV.has];exact plainL_has h n
 | .fn f a b,h,n=>by
  simp only[TV.plain,Oy]at h
  simp only[TV.has,plainL_has h.1 n,plainL_has h.2 n];rfl
 | .bp ..,h,n=>by simp[TV.plain]at h
 | .vh ..,h,n=>by simp[TV.plain]at h
 | .ep ..,h,n=>by simp[TV.plain]at h
 | .sv ..,h,n=>by simp[TV.plain]at h
 | .mp ..,h,n=>by simp[TV.plain]at h
 | .np ..,h,n=>by simp[TV.plain]at h
 | .sd ..,h,n=>by simp[TV.plain]at h
 | .ai ..,h,n=>by simp[TV.plain]at h
theorem plainL_has:∀{l:List (TV V.N)},TV.plainL l=true->∀n,TV.hasL n l=false
 |[],_,n=>by simp[TV.hasL]
 |x::r,h,n=>by
  simp only[TV.plainL,Oy]at h
  simp only[TV.hasL,plain_has h.1 n,plainL_has h.2 n];rfl
end
theorem uA{x:TV V.N}(h:TV.plain x=true)(ω ω':Nat->Nat):ao V ω' x=ao V ω x:=iQ x λn hn=>by rw[plain_has h n]at hn;cases hn
def Ty.flat{ι:Type}:Ty ι->Bool
 | .int _=>true
 | .bool=>true
 | .str=>true
 |_=>false
def gy:TV V.N->Bool
 | .lf t x=>(aN V t x).all λl=>l.t.flat
 |_=>false
def hZ:TV V.N->Bool
 | .tup vs=>vs.all gy
 |x=>gy x
theorem vG{x:TV V.N}(h:gy x=true):TV.plain x=true:=by
 cases x<;>first|rfl|(simp[gy]at h;done)
theorem yO{x:TV V.N}(h:hZ x=true):TV.plain x=true:=by
 cases x with
 |tup vs=>
  simp only[hZ,OD]at h
  simp only[TV.plain]
  have:∀l:List (TV V.N),(∀x∈l,gy x=true)->TV.plainL l=true:=by
   intro l
   induction l with
   |nil=>intro _;rfl
   |cons y r ih=>intro h;simp only[TV.plainL,Oy];exact⟨vG (h y Ox),ih λx hx=>h x (Ot _ hx)⟩
  exact this vs h
 |lf t x=>rfl
 |raw _=>rfl
 |rp a b c=>rfl
 |junk=>rfl
 |agg cs=>simp[hZ,gy]at h
 |fn f a b=>simp[hZ,gy]at h
 |bp a b=>simp[hZ,gy]at h
 |vh a=>simp[hZ,gy]at h
 |ep a b c d=>simp[hZ,gy]at h
 |sv a b c d=>simp[hZ,gy]at h
 |mp a=>simp[hZ,gy]at h
 |np a b=>simp[hZ,gy]at h
 |sd a=>simp[hZ,gy]at h
 |ai a b c d=>simp[hZ,gy]at h
theorem hG{l:cj V.N}(h:l.t.flat=true){M M':Mem}{v:Value}(hv:bW M v (aL V.sz V.enc l.t l.x)):bW M' v (aL V.sz V.enc l.t l.x):=by
 obtain⟨t,x⟩:=l
 cases t with
 |int k=>simp only[aL]at hv⊢;cases hv;exact .v _
 |bool=>simp only[aL]at hv⊢;cases hv;exact .v _
 |str=>simp only[aL]at hv⊢;cases hv;exact .v _
 |st i=>simp[Ty.flat]at h
 |sl e=>simp[Ty.flat]at h
 |mp k v=>simp[Ty.flat]at h
 |er=>simp[Ty.flat]at h
 |op e=>simp[Ty.flat]at h
 |fnc=>simp[Ty.flat]at h
 |fno=>simp[Ty.flat]at h
 |ar n e=>simp[Ty.flat]at h
theorem tA{x:TV V.N}(h:gy x=true){ω:Nat->Nat}{E E':Env}{M M':Mem}{v:Value}(hv:aP E M v (ao V ω x)):aP E' M' v (ao V ω x):=by
 cases x with
 |lf t x=>
  simp only[gy,OD]at h
  simp only[ao]at hv⊢
  cases hv with
  |d hd=>
   refine .d ?_
   cases t with
   |st i=>
    simp only[aL]at hd⊢
    rw[V.enc_cells]at hd⊢
    cases hd with
    |agg cs _ hl hh=>
     refine .agg cs _ hl λk c y hc hy=> ?_
     rw[Oq]at hy
     cases hq:(V.cells i x)[k]? with
     |none=>rw[hq]at hy;cases hy
     |some l=>
      rw[hq]at hy;simp at hy;subst hy
      exact hG (h l (OA hq)) (hh k c _ hc (by rw[Oq,hq];rfl))
   |int k=>exact hG (l:=⟨.int k,x⟩) rfl hd
   |bool=>exact hG (l:=⟨.bool,x⟩) rfl hd
   |str=>exact hG (l:=⟨.str,x⟩) rfl hd
   |sl e=>simp[aN,Ty.flat]at h
   |mp k v=>simp[aN,Ty.flat]at h
   |er=>simp[aN,Ty.flat]at h
   |op e=>simp[aN,Ty.flat]at h
   |fnc=>simp[aN,Ty.flat]at h
   |fno=>simp[aN,Ty.flat]at h
   |ar n e=>
    simp only[aL]at hd⊢
    rw[bZ]at hd⊢
    cases hd with
    |agg cs _ hl hh=>
     refine .agg cs _ hl λk c y hc hy=> ?_
     rw[Oq]at hy
     cases hq:(aN V (.ar n e) x)[k]? with
     |none=>rw[hq]at hy;cases hy
     |some l=>
      rw[hq]at hy;simp at hy;subst hy
      exact hG (h l (OA hq)) (hh k c _ hc (by rw[Oq,hq];rfl))
 |_=>simp[gy]at h
theorem Eb{x:TV V.N}(h:hZ x=true){ω:Nat->Nat}{E E':Env}{M M':Mem}{v:Value}(hv:aP E M v (ao V ω x)):aP E' M' v (ao V ω x):=by
 cases x with
 |tup vs=>
  simp only[hZ,OD]at h
  simp only[ao]at hv⊢
  obtain⟨cs,rfl,h1,h2⟩:=hv.htup
  refine .tup cs _ h1 λi c y hc hy=> ?_
  rw[encL_map,Oq]at hy
  cases hq:vs[i]? with
  |none=>rw[hq]at hy;cases hy
  |some u=>
   rw[hq]at hy;simp at hy;subst hy
   exact tA (h u (OA hq)) (h2 i c _ hc (by rw[encL_map,Oq,hq];rfl))
 |lf t x=>exact tA (x:= .lf t x) (by simpa[hZ]using h) hv
 |_=>simp[hZ,gy]at h
def b_(own:List (Nat×Own))(a a0:H):Prop:=∀(E:Env) (M:Mem) (w:World) (v:Value),M.le (fx w)->DM E M w own->aP E M v a->aP E (fx w) v a0
theorem b_.le{own:List (Nat×Own)}{a a0:H}(h:H.le a a0):b_ own a a0:=λE M w v hM _ hv=>(h E M v hv).le hM
theorem b_.agg{own:List (Nat×Own)}{l l0:List H}(hl:l0.length=l.length)(h:∀(i:Nat) (a a0:H),l[i]?=some a->l0[i]?=some a0->b_ own a a0):b_ own (.agg l) (.agg l0):=λE M w v hM ho hv=>by
 obtain⟨cs,rfl,h1,h2⟩:=hv.hagg
 refine .agg cs l0 (by omega) λi c x hc hx=> ?_
 have hi:i<l.length:=by rw[<-hl];exact(Ol.1 hx).1
 exact h i _ x (Ou hi) hx E M w c hM ho (h2 i c _ hc (Ou hi))
theorem b_.vh{own:List (Nat×Own)}{n e sz:Nat}{rows:List (List D)}(h1:gt own n=some (.vec e sz rows)):b_ own (.vh n rows.length) (.d (.sl sz rows)):=λE M w v hM ho hca=>by
 obtain⟨xs,g1,g2,g3,g4⟩:=ho.ok n _ h1
 refine .d ?_
 cases hca with
 |vh n len l cc a hE hle=>
  rcases g1.2 with⟨hnil,hz⟩|⟨g,cap,cur,hE',hbg,hg,hnc,hcm,hcs,htake⟩
  ·rw[hE]at hnil
   simp only[Value.slice.injEq]at hnil
   obtain⟨rfl,rfl,rfl⟩:=hnil
   have:rows=[]:=OL hz
   subst this
   exact .slnil sz
  ·rw[hE]at hE'
   simp only[Value.slice.injEq]at hE'
   obtain⟨rfl,rfl,rfl⟩:=hE'
   refine .sl g 0 _ _ sz rows (λk=>xs.getD k undef) rfl hnc g2 (λk hk=> ?_) λi j r x hr' hx=> ?_
   ·have hxk:k<xs.length:=by rw[g1.1];exact hk
    obtain⟨u,hu⟩:∃u,xs[k]?=some u:=⟨_,Ou hxk⟩
    have hq:w.cell? ⟨g,k,none⟩=some u:=by
     rw[cell_of_row w g k cur e (0,0) hg]
     have hu':=hu
     rw[<-htake,OE,RS hk]at hu'
     simpa using hu'
    simp[fx,hq,hu]
   ·have hlr:=g2 r (OA hr')
    have hir:i<rows.length:=(Ol.1 hr').1
    have hj:j<sz:=by have:=(Ol.1 hx).1;omega
    have hmul:(i+1) *sz<=rows.length *sz:=OH _ hir
    rw[OY]at hmul
    have hxk:i *sz+j<xs.length:=by rw[g1.1];omega
    have:=g3 i j r xs[i *sz+j] x hr' hx (Ou hxk)
    have hg':xs.getD (i *sz+j) undef=xs[i *sz+j]:=by simp[hxk]
    rw[hg']
    exact this.mono hM
theorem b_.dvh{own:List (Nat×Own)}{n e sz:Nat}{rows:List (List DD)}{ds:List (List D)}(h1:gt own n=some (.dvec e sz rows))(hd:DD.toR rows=some ds):b_ own (.vh n rows.length) (.d (.sl sz ds)):=λE M w v hM ho hca=>by
 have hok:=ho.ok n _ h1
 obtain⟨ad,cap,hE⟩:=hok.dlen
 have hv:=d_ hca hE
 subst hv
 obtain⟨B,g1,g2,g3⟩:=hok
 exact .d (g1.frozen hM (λb _ o v hv=>hv) (xs:=[.sl sz ds]) (by simp[DD.toL,DD.toD,hd]) 0 _ _ rfl rfl)
def tR:TO V.N->Option (cj V.N)
 | .vec _ e xs=>some ⟨.sl e,xs⟩
 | .dvec _ e ys=>some ⟨.sl e,ys⟩
 |_=>none
theorem kO{o:TO V.N}{l0:cj V.N}(h:tR o=some l0):∃x:Own,(∀ω,aZ V ω o=some x)/\∀(own:List (Nat×Own)) (n:Nat),gt own n=some x->b_ own (.vh n (TO.len (some o))) (.d (aL V.sz V.enc l0.t l0.x)):=by
 unfold tR at h
 split at h
 ·rename_i te e xs
  cases h
  refine⟨_,λω=>rfl,λown n hn=> ?_⟩
  have:=b_.vh hn
  rw[On]at this
  exact this
 ·rename_i te e ys
  cases h
  refine⟨_,λω=>rfl,λown n hn=> ?_⟩
  have:=b_.dvh hn (sk ys)
  rw[On]at this
  simpa[TO.len,aL]using this
 ·cases h
theorem NI{P:Program}{f:FuncId}{args0 args:List H}{r:H}{own:List (Nat×Own)}(h:c8 P f args0 [] r [])(hl:args.length=args0.length)
 (ha:∀(i:Nat) (a a0:H),args[i]?=some a->args0[i]?=some a0->b_ own a a0)
 (hr:∀(E E':Env) (M M':Mem) (v:Value),aP E M v r->aP E' M' v r):FR P f args own r own:=by
 refine⟨h.1,λE M w vs hgm hm ho hvs=> ?_⟩
 have hM:M.le (fx w):=λb o v hv=>hm b o v hv
 have hrep:fK E (fx w) vs args0:=by
  refine⟨hvs.1.trans hl,λi c x hc hx=> ?_⟩
  have hi:i<args.length:=by rw[hl];exact(Ol.1 hx).1
  have hca:=hvs.2 i c _ hc (Ou hi)
  exact ha i _ x (Ou hi) hx E M w c hM ho hca
 refine(h.2 E (fx w) w vs (hgm.mono hM λ_ _ _=>rfl) (λb o v hv=>hv) ⟨λn o hn=>by simp[gt]at hn,λn m o o' b _ hn=>by simp[gt]at hn⟩ hrep).mono ?_
 rintro e w' ⟨v,E',M',rfl,hp⟩
 have hfr:∀b,b<w.heap.size->w'.heap[b]?=w.heap[b]?:=λb hb=>hp.frame b hb λ⟨n,o,hn,_⟩=>by simp[gt]at hn
 have hft:∀n o,gt own n=some o->∀b,o.foot w' (E n) b->o.foot w (E n) b:=λn o hn b hb=>((ho.ok n o hn).foot_keep (λb hb=>hfr b ((ho.ok n o hn).block hb).1) b).1 hb
 refine⟨v,E,M,rfl,{rep:=hr _ _ _ _ _ hp.rep,owns:=⟨λn o hn=> ?_,λn m o o' b hne hn hm hb hb'=>ho.apart n m o o' b hne hn hm (hft n o hn b hb) (hft m o' hm b hb')⟩,mle:=Mem.le_refl _,mem:=λb o v hv=>hp.mem b o v (hp.mle b o v (hm b o v hv)),mnew:=λb o v hv=> .inl hv,home:=λn o b hn hb=> .inl ⟨n,o,hn,hft n o hn b hb⟩,frame:=λk hk _=>hfr k hk,grows:=hp.grows,os:=hp.os,tape:=hp.tape,output:=hp.output,env:=λ_ _=>rfl},λ_ _=>rfl⟩
 have hok:=ho.ok n o hn
 refine hok.keep rfl (λb hb=>hfr b (hok.block hb).1) (λ_ _=>rfl) (Mem.le_refl _) λb hb=>(hok.block hb).2
def FX(S:TS V.N):List (Ty V.ι)->List (TV V.N)->Option (List (Nat×TO V.N)×List (cj V.N))
 |[],[]=>some ([],[])
 | .sl _::ts, .vh n::xs=>match S.own? n with
  |some o=>match tR o with
   |some l0=>match FX S ts xs with
    |some (l,ls)=>some ((n,o)::l,l0::ls)
    |none=>none
   |none=>none
  |_=>none
 |t::ts,x::xs=>match mu V false t x with
  |some l0=>match FX S ts xs with
   |some (l,ls)=>some (l,l0::ls)
   |none=>none
  |none=>none
 |_,_=>none
def Kc:List (TV V.N)->Bool
 |[]=>false
 | .vh _::_=>true
 |_::r=>Kc r
def Lm(S:TS V.N):Pt V.ι->TV V.N->Option (List (Nat×TO V.N)×List (cj V.N))
 | .dat (.sl e), .vh n=>match S.own? n with
  |some o=>match tR o with
   |some l0=>if l0.t= .sl e then some ([(n,o)],[l0])else none
   |none=>none
  |_=>none
 | .dat (.st i), .agg vs=>match Kc vs with
  |true=>match FX S (V.tys i) vs with
   |some (p::l,ls)=>match V.ofCells i ls with
    |some y=>some (p::l,[⟨.st i,y⟩])
    |none=>none
   |_=>none
  |false=>match mt1 V [] (.dat (.st i)) (.agg vs)with
   |some (_,ls)=>some ([],ls)
   |none=>none
 | .dat t,x=>match mt1 V [] (.dat t) x with
  |some (_,ls)=>some ([],ls)
  |none=>none
 | .fn f [] [], .fn f' [] []=>if f=f' then some ([],[])else none
 |_,_=>none
def vg(S:TS V.N):List (Pt V.ι)->List (TV V.N)->Option (List (Nat×TO V.N)×List (cj V.N))
 |[],[]=>some ([],[])
 |p::ps,x::xs=>match Lm S p x with
  |some (l,ls)=>match vg S ps xs with
   |some (l',ls')=>some (l++l',ls++ls')
   |none=>none
  |none=>none
 |_,_=>none
def bh(P:Program)(sig:Sig V)(F:HL V.N sig.tys->Option (HL V.N sig.rcut.tys))(A:Type)(args:List (TV V.N))(S:TS V.N)(k:TE V.N->Option A):Option A:=
 match vg S sig.params args with
 |some (lent,ls)=>match GD sig.tys ls with
  |some v=>F v>>=λr=>match lS P sig r with
   |some x=>match lent with
    |[]=>match TV.plain x with
     |true=>k {val:=x}
     |false=>none
    |p::l=>match hZ x with
     |true=>k {val:=x,acc:=(p::l).map (·.1),upd:=(p::l)++(p::l).map λq=>(q.1, .gone (TO.len (some q.2)))}
     |false=>none
   |none=>none
  |none=>none
 |none=>none
theorem Ca{σ σ':cu}{t:Ty V.ι}{x:TV V.N}{ls:List (cj V.N)}(h:mt1 V σ (.dat t) x=some (σ',ls)):σ'=σ:=by
 cases x with
 |lf t' y=>
  simp only[mt1]at h
  have:=(ah h).2
  simp only[Om,OV]at this
  exact this.1.symm
 |raw v=>
  unfold mt1 at h
  split at h<;>first
   |(simp only[Om,OV]at h;exact h.1.symm)
   |(cases h;done)
   |contradiction
 |agg cs=>
  unfold mt1 at h
  split at h<;>first
   |(split at h
     ·simp only[Om,OV]at h;exact h.1.symm
     ·cases h)
   |(cases h;done)
   |contradiction
 |_=>simp[mt1]at h
theorem b_.pre{own:List (Nat×Own)}{a b c:H}(h:H.le a b)(k:b_ own b c):b_ own a c:=λE M w v hM ho hv=>k E M w v hM ho (h E M v hv)
theorem b_.post{own:List (Nat×Own)}{a b c:H}(h:b_ own a b)(k:H.le b c):b_ own a c:=λE M w v hM ho hv=>k E _ v (h E M w v hM ho hv)
def GJ(own:List (Nat×Own))(l:List (Nat×TO V.N)):Prop:=∀n o,(n,o)∈l->∀x,(∀ω,aZ V ω o=some x)->gt own n=some x
theorem lw{S:TS V.N}:∀{ts:List (Ty V.ι)} {xs:List (TV V.N)} {l:List (Nat×TO V.N)} {ls:List (cj V.N)},FX S ts xs=some (l,ls)->
 xs.length=ls.length/\(∀n o,(n,o)∈l->S.own? n=some o/\∃l0,tR o=some l0)/\
  ∀own:List (Nat×Own),GJ own l->∀(i:Nat) (x:TV V.N) (l0:cj V.N),xs[i]?=some x->ls[i]?=some l0->b_ own (ao V S.len x) (.d (aL V.sz V.enc l0.t l0.x))
 |[],[],l,ls,h=>by
  simp[FX]at h;obtain⟨rfl,rfl⟩:=h
  exact⟨rfl,λn o hm=>by simp at hm,λown _ i x l0 hx=>by simp at hx⟩
 |[],_::_,l,ls,h=>by simp[FX]at h
 |_::_,[],l,ls,h=>by unfold FX at h;split at h<;>first|(cases h;done)|contradiction
 |t::ts,x::xs,l,ls,h=>by
  unfold FX at h
  split at h
  ·rename_i heq _;cases heq
  ·rename_i e ts' n xs' heq1 heq2
   simp only[PF]at heq1 heq2
   obtain⟨rfl,rfl⟩:=heq1
   obtain⟨rfl,rfl⟩:=heq2
   split at h
   ·rename_i o hn
    split at h
    ·rename_i l00 hl0
     split at h
     ·rename_i l' ls' h2
      simp at h;obtain⟨rfl,rfl⟩:=h
      obtain⟨b1,b2,b3⟩:=lw h2
      refine⟨by simp[b1],λm o hm=> ?_,λown hown i y l0 hy hl=> ?_⟩
      ·rcases Oz.1 hm with he|hm
       ·simp only[OV]at he
        obtain⟨rfl,rfl⟩:=he
        exact⟨hn,_,hl0⟩
       ·exact b2 m o hm
      ·cases i with
       |zero=>
        simp at hy hl;subst hy;subst hl
        obtain⟨x,x1,x2⟩:=kO hl0
        have:=x2 own n (hown n o Ox x x1)
        simp only[ao]
        unfold TS.len
        rw[hn];exact this
       |succ i=>exact b3 own (λm a hm=>hown m a (Ot _ hm)) i y l0 (by simpa using hy) (by simpa using hl)
     ·cases h
    ·cases h
   ·cases h
  ·rename_i t' ts' x' xs' _ heq1 heq2
   simp only[PF]at heq1 heq2
   obtain⟨rfl,rfl⟩:=heq1
   obtain⟨rfl,rfl⟩:=heq2
   split at h
   ·rename_i l0 hl
    split at h
    ·rename_i l' ls' h2
     simp at h;obtain⟨rfl,rfl⟩:=h
     obtain⟨b1,b2,b3⟩:=lw h2
     refine⟨by simp[b1],b2,λown hown i y l1 hy hl1=> ?_⟩
     cases i with
     |zero=>
      simp at hy hl1;subst hy;subst hl1
      have hls:cx V false [t] [x]=some [l0]:=by simp[cx,hl]
      obtain⟨ds,e1,e2,_⟩:=cf (ω:=S.len) hls
      simp only[encL]at e1
      obtain⟨d,hd⟩:∃d,ds=[d]:=by
       match ds,e1 with
       |[d],_=>exact⟨d,rfl⟩
       |[],e1=>simp at e1
       |_::_::_,e1=>simp at e1
      subst hd
      simp only[Ow,O0,PF,and_true]at e1
      rw[e1]
      obtain⟨d0,g1,g2⟩:=e2.get 0 (aL V.sz V.enc l0.t l0.x) rfl
      simp at g1;subst g1
      refine b_.le λE M a hr=> ?_
      cases hr with
      |d q=>exact .d (g2 M a q)
     |succ i=>exact b3 own hown i y l1 (by simpa using hy) (by simpa using hl1)
    ·cases h
   ·cases h
  ·cases h
theorem yi{S:TS V.N}{p:Pt V.ι}{x:TV V.N}{l:List (Nat×TO V.N)}{ls:List (cj V.N)}(h:Lm S p x=some (l,ls)):
 (∃x0,(∀rest,bd1 V p (ls++rest)=some (x0,rest))/\∀ω0:Nat->Nat,(l=[]->H.le (ao V S.len x) (ao V ω0 x0))/\∀own,GJ own l->b_ own (ao V S.len x) (ao V ω0 x0))/\
   ∀n o,(n,o)∈l->S.own? n=some o/\∃l0,tR o=some l0:=by
 unfold Lm at h
 split at h
 ·rename_i e n
  split at h
  ·rename_i o hn
   split at h
   ·rename_i l0 hl0
    have h':=ah h;clear h
    obtain⟨he,h⟩:=h'
    simp at h;obtain⟨rfl,rfl⟩:=h
    refine⟨⟨.lf l0.t l0.x,λrest=>rfl,λω0=>⟨λhl=>by simp at hl,λown hown=> ?_⟩⟩,λm o' hm=> ?_⟩
    ·obtain⟨x,x1,x2⟩:=kO hl0
     have:=x2 own n (hown n o Ox x x1)
     simp only[ao]
     unfold TS.len
     rw[hn];exact this
    ·simp at hm
     obtain⟨rfl,rfl⟩:=hm
     exact⟨hn,l0,hl0⟩
   ·cases h
  ·cases h
 ·rename_i i vs
  split at h
  ·split at h
   ·rename_i p0 l0 ls0 hC
    split at h
    ·rename_i y hy
     simp at h;obtain⟨rfl,rfl⟩:=h
     obtain⟨b1,b2,b3⟩:=lw hC
     refine⟨⟨.lf (.st i) y,λrest=>rfl,λω0=>⟨λhl=>by simp at hl,λown hown=> ?_⟩⟩,b2⟩
     have hc:=V.of_cells i ls0 y hy
     simp only[ao,aL]
     refine b_.pre (kT _) (b_.post (b_.agg (l0:=ls0.map λl=> .d (aL V.sz V.enc l.t l.x)) (by rw[On,aK];exact b1.symm) λi a a0 ha ha0=> ?_) ?_)
     ·rw[encL_map,Oq,OB]at ha
      rw[Oq,OB]at ha0
      obtain⟨u,hu,rfl⟩:=ha
      obtain⟨l1,hl1,rfl⟩:=ha0
      exact b3 own hown i u l1 hu hl1
     ·have e1:V.enc i y=ls0.map λl=>aL V.sz V.enc l.t l.x:=by rw[V.enc_cells,hc]
      have:=rM ((ls0.map λl=>aL V.sz V.enc l.t l.x).map H.d)
      rw[bA,c_]at this
      rw[e1]
      rw[OQ]at this
      exact this
    ·cases h
   ·cases h
  ·split at h
   ·rename_i σ ls' h1
    simp at h;obtain⟨rfl,rfl⟩:=h
    obtain⟨_,_,_,x0,a1,a2⟩:=oA h1
    have hσ:=Ca h1
    subst hσ
    have hle:∀ω0:Nat->Nat,H.le (ao V S.len (.agg vs)) (ao V ω0 x0):=λω0 E M v hv=>a2 [] [] E E M S.len ω0 v (Sub.refl _) rfl ⟨λc n hc=>by simp[gt]at hc,λc n hc=>by simp at hc⟩ hv
    exact⟨⟨x0,a1,λω0=>⟨λ_=>hle ω0,λown _=>b_.le (hle ω0)⟩⟩,λn o hm=>by simp at hm⟩
   ·cases h
 ·rename_i t x' hne hne2
  split at h
  ·rename_i σ ls' h1
   simp at h;obtain⟨rfl,rfl⟩:=h
   obtain⟨_,_,_,x0,a1,a2⟩:=oA h1
   have hσ:=Ca h1
   subst hσ
   have hle:∀ω0:Nat->Nat,H.le (ao V S.len x) (ao V ω0 x0):=λω0 E M v hv=>a2 [] [] E E M S.len ω0 v (Sub.refl _) rfl ⟨λc n hc=>by simp[gt]at hc,λc n hc=>by simp at hc⟩ hv
   exact⟨⟨x0,a1,λω0=>⟨λ_=>hle ω0,λown _=>b_.le (hle ω0)⟩⟩,λn o hm=>by simp at hm⟩
  ·cases h
 ·rename_i f f'
  have h':=ah h;clear h
  obtain⟨he,h⟩:=h'
  subst he
  simp at h;obtain⟨rfl,rfl⟩:=h
  have hle:∀ω0:Nat->Nat,H.le (ao V S.len (.fn f [] [])) (ao V ω0 (.fn f [] []:TV V.N)):=λω0=>by simp only[ao,encL];exact H.le.refl _
  exact⟨⟨.fn f [] [],λrest=>rfl,λω0=>⟨λ_=>hle ω0,λown _=>b_.le (hle ω0)⟩⟩,λn o hm=>by simp at hm⟩
 ·cases h
theorem nk{S:TS V.N}:∀{ps:List (Pt V.ι)} {xs:List (TV V.N)} {l:List (Nat×TO V.N)} {ls:List (cj V.N)},vg S ps xs=some (l,ls)->
 ∃xs0:List (TV V.N),xs0.length=xs.length/\(∀rest,bdL V ps (ls++rest)=some (xs0,rest))/\(∀(i:Nat) (x x0:TV V.N),xs[i]?=some x->xs0[i]?=some x0->
  ∀ω0:Nat->Nat,(l=[]->H.le (ao V S.len x) (ao V ω0 x0))/\∀own,GJ own l->b_ own (ao V S.len x) (ao V ω0 x0))/\
  ∀n o,(n,o)∈l->S.own? n=some o/\∃l0,tR o=some l0
 |[],[],l,ls,h=>by
  simp[vg]at h;obtain⟨rfl,rfl⟩:=h
  exact⟨[],rfl,λrest=>rfl,λi x x0 hx=>by simp at hx,λn o hm=>by simp at hm⟩
 |[],_::_,l,ls,h=>by simp[vg]at h
 |_::_,[],l,ls,h=>by simp[vg]at h
 |p::ps,x::xs,l,ls,h=>by
  simp only[vg]at h
  split at h
  ·rename_i l1 ls1 h1
   split at h
   ·rename_i l2 ls2 h2
    simp at h;obtain⟨rfl,rfl⟩:=h
    obtain⟨⟨x0,a1,a2⟩,a3⟩:=yi h1
    obtain⟨xs0,b1,b2,b3,b4⟩:=nk h2
    refine⟨x0::xs0,by simp[b1],λrest=>by simp only[bdL,O9,a1,b2],λi y y0 hy hy0 ω0=> ?_,λn o hm=> ?_⟩
    ·cases i with
     |zero=>
      simp at hy hy0;subst hy;subst hy0
      exact⟨λhl=>(a2 ω0).1 (QG.1 hl).1,λown hown=>(a2 ω0).2 own λm a hm=>hown m a (PY _ hm)⟩
     |succ i=>
      have:=b3 i y y0 (by simpa using hy) (by simpa using hy0) ω0
      exact⟨λhl=>this.1 (QG.1 hl).2,λown hown=>this.2 own λm a hm=>hown m a (Qf _ hm)⟩
    ·rcases ON.1 hm with hm|hm
     ·exact a3 n o hm
     ·exact b4 n o hm
   ·cases h
  ·cases h
theorem mB{own:List (Nat×Own)}:∀{l:List (Nat×Own)},(∀p∈l,∃o,gt own p.1=some o)->eB own l=[]
 |[],_=>rfl
 |(n,o)::r,h=>by
  obtain⟨o',ho⟩:=h (n,o) Ox
  simp only at ho
  simp only[eB,ho]
  exact mB λp hp=>h p (Ot _ hp)
theorem au{P:Program}{fid:Nat}{sig:Sig V}{F:HL V.N sig.tys->Option (HL V.N sig.rcut.tys)}(hF:bd P fid sig F)(ho:sig.objs=[])(hk0:sig.keep=[]){A:Type}{args:List (TV V.N)}{S:TS V.N}{dst:Option Tmp}
 {k:TE V.N->Option A}{r:A}(h:bh P sig F A args S k=some r):
 ∃te,k te=some r/\n9 S te/\u_ P fid (encL V S.len args) (az V S).own? λe'=>ELe true e' (fP (S.app dst te).len te):=by
 unfold bh at h
 split at h
 ·rename_i lent ls hargs
  split at h
  ·rename_i v hv
   obtain⟨y,hy,h⟩:=aS h
   split at h
   ·rename_i x hx
    have hc:=hF v y x hy hx
    have hkept:gY sig y=[]:=by
     unfold gY
     rw[hk0,List.filter_eq_nil_iff]
     intro p _;simp
    rw[hkept]at hc
    obtain⟨xs0,b1,b2,b3,b4⟩:=nk hargs
    have hls:=sG hv
    have hst:bj sig v=(xs0,[]):=by
     unfold bj
     rw[hls]
     have:=b2 []
     rw[Pj]at this
     rw[this,ho]
     rfl
    have hown0:(aE sig v).own=[]:=by unfold aE;rw[hst]
    rw[hst,hown0]at hc
    simp only[br,List.filterMap_nil]at hc
    generalize (aE sig v).len=ω0 at hc
    cases lent with
    |nil=>
     simp only at h
     split at h
     ·rename_i hpl
      refine⟨_,h,eW S x [],?_⟩
      have hw:=hc.weak (args':=encL V S.len args) (by rw[aK,aK];exact b1.symm) λi a a0 ha ha0=>by
       rw[encL_map,Oq,OB]at ha ha0
       obtain⟨u,hu,rfl⟩:=ha
       obtain⟨u0,hu0,rfl⟩:=ha0
       exact(b3 i u u0 hu hu0 ω0).1 rfl
      have hplH:H.plain (ao V (bi V sig.rcut y).len x)=true:=by
       have:∀z:H,(∀n,H.has n z=false)->H.plain z=true:=by
        intro z
        refine H.rec (motive_1:=λz=>(∀n,H.has n z=false)->H.plain z=true) (motive_2:=λl=>(∀n,H.hasL n l=false)->H.plainL l=true) ?_ ?_ ?_ ?_ ?_ ?_ ?_ ?_ ?_ ?_ ?_ ?_ ?_ ?_ z
        ·intro _ _;rfl
        ·intro _;rfl
        ·intro m o hn;have:=hn m;simp[H.has]at this
        ·intro m o hn;have:=hn m;simp[H.has]at this
        ·intro m s i o hn;have:=hn m;simp[H.has]at this
        ·intro m s i o hn;have:=hn m;simp[H.has]at this
        ·intro m hn;have:=hn m;simp[H.has]at this
        ·intro m b hn;have:=hn m;simp[H.has]at this
        ·intro m hn;have:=hn m;simp[H.has]at this
        ·intro cs ih hn;simp only[H.plain];exact ih λn=>by have:=hn n;simpa[H.has]using this
        ·intro cs ih hn;simp only[H.plain];exact ih λn=>by have:=hn n;simpa[H.has]using this
        ·intro f a b ih1 ih2 hn
         simp only[H.plain,Oy]
         exact⟨ih1 λn=>by have:=hn n;simp only[H.has,PM]at this;exact this.1,ih2 λn=>by have:=hn n;simp only[H.has,PM]at this;exact this.2⟩
        ·intro _;rfl
        ·intro x r ih1 ih2 hn
         simp only[H.plainL,Oy]
         exact⟨ih1 λn=>by have:=hn n;simp only[H.hasL,PM]at this;exact this.1,ih2 λn=>by have:=hn n;simp only[H.hasL,PM]at this;exact this.2⟩
       exact this _ λn=>by rw[iR];exact plain_has hpl n
      refine yf hw hplH ?_
      exact mq (dst:=dst) (l:=[]) (uA hpl _ _)
     ·cases h
    |cons p l=>
     simp only at h
     split at h
     ·rename_i hfl
      generalize hL:p::l=L at h hargs b3 b4
      have hpl:=yO hfl
      refine⟨_,h,λm o hm=> ?_,?_⟩
      ·right
       simp only[eG]at hm
       cases hq:gt L m with
       |some o'=>
        rw[hq]at hm;simp at hm;subst hm
        obtain⟨h2,_⟩:=b4 m o' (bI hq)
        unfold TS.len;rw[h2]
       |none=>
        rw[hq]at hm
        have hm':=bI hm
        obtain⟨q,hq1,hq2⟩:=OT.1 hm'
        simp only[OV]at hq2
        obtain⟨rfl,rfl⟩:=hq2
        obtain⟨h2,_⟩:=b4 q.1 q.2 hq1
        unfold TS.len;rw[h2];rfl
      ·let own:List (Nat×Own):=L.filterMap λq=>(aZ V S.len q.2).map λo=>(q.1,o)
       have hmap:∀l':List (Nat×TO V.N),(∀n o,(n,o)∈l'->S.own? n=some o/\∃l0,tR o=some l0)->∀ω:Nat->Nat,
        l'.map (λq=>(q.1,aZ V ω q.2))=(l'.filterMap λq=>(aZ V S.len q.2).map λo=>(q.1,o)).map (λq=>(q.1,some q.2))/\
        (l'.map λq:Nat×TO V.N=>(q.1,TO.gone (N:=V.N) (TO.len (some q.2)))).map (λq=>(q.1,aZ V ω q.2))=(l'.filterMap λq=>(aZ V S.len q.2).map λo=>(q.1,o)).map (λq=>(q.1,none))/\
        l'.map (·.1)=(l'.filterMap λq=>(aZ V S.len q.2).map λo=>(q.1,o)).map (·.1):=by
        intro l'
        induction l' with
        |nil=>intro _ ω;exact⟨rfl,rfl,rfl⟩
        |cons q r ih=>
         intro hq ω
         obtain⟨n,o⟩:=q
         obtain⟨h2,l00,hl0⟩:=hq n o Ox
         obtain⟨i1,i2,i3⟩:=ih (λn o hm=>hq n o (Ot _ hm)) ω
         obtain⟨x0,e0,_⟩:=kO hl0
         simp only[Qm,e0,OW,Ow]
         rw[i1,i2,i3]
         exact⟨rfl,rfl,rfl⟩
       have hgt:∀n x,gt own n=some x->∃o,(n,o)∈L/\S.own? n=some o/\aZ V S.len o=some x:=by
        intro n x hn
        obtain⟨z,h1,h2⟩:=dE hn
        exact⟨z,h1,(b4 n z h1).1,h2⟩
       have hgt':∀n o,(n,o)∈L->∀x,(∀ω,aZ V ω o=some x)->gt own n=some x:=by
        intro n o hn x hx
        have hkey:n∈own.map (·.1):=by rw[<-(hmap L b4 S.len).2.2];exact OR (f:=(·.1)) hn
        obtain⟨x',hxx⟩:=fN hkey
        obtain⟨o',h1,h2,h3⟩:=hgt n x' hxx
        rw[(b4 n o hn).1]at h2;cases h2
        rw[hx]at h3;cases h3
        exact hxx
       have hat:=NI (args:=encL V S.len args) (own:=own) hc (by rw[aK,aK];exact b1.symm) (λi a a0 ha ha0=>by
        rw[encL_map,Oq,OB]at ha ha0
        obtain⟨u,hu,rfl⟩:=ha
        obtain⟨u0,hu0,rfl⟩:=ha0
        exact(b3 i u u0 hu hu0 ω0).2 own hgt') (λE E' M M' v hv=>Eb hfl hv)
       refine⟨own,_,own,hat,λq hq=> ?_,?_⟩
       ·obtain⟨z,hz1,hz2⟩:=PU.1 hq
        obtain⟨h2,l00,hl0⟩:=b4 z.1 z.2 hz1
        obtain⟨x0,e0,_⟩:=kO hl0
        rw[e0]at hz2
        simp only[OW,Om]at hz2
        subst hz2
        rw[aH,h2];exact e0 _
       ·refine bq ?_ ?_ ?_ ?_
        ·exact uA hpl _ _
        ·simp only[gq]
         exact mB λp hp=>by
          obtain⟨o,hoo⟩:=fN (OR (f:=(·.1)) hp)
          exact⟨o,hoo⟩
        ·simp only[gq,O6]
         obtain⟨i1,i2,_⟩:=hmap L b4 (S.app dst {val:=x,acc:=L.map (·.1),upd:=L++L.map λq=>(q.1, .gone (TO.len (some q.2)))}).len
         rw[i1,i2]
        ·simp only[gq]
         exact(hmap L b4 S.len).2.2.symm
     ·cases h
   ·cases h
  ·cases h
 ·cases h
end
end Go.Tx
end
section
namespace Go.Tx
open Go.Awp
variable [Inhabited GMem]
def aa(f:Func):Code:=match f.body with
 |some c=>c
 |none=> .skip
def ax:Code->List Code
 | .seq a b=>ax a++ax b
 | .block _ x=>ax x
 | .cond _ a b=>ax a++ax b
 | .loop b=>[b]
 | .scope b=>ax b
 |_=>[]
def ae(c:Code)(i:Nat):Code:=match(ax c)[i]? with
 |some b=>b
 |none=> .skip
def eM:Code->List Code
 | .seq a b=>eM a++eM b
 | .block _ x=>eM x
 | .cond _ a b=>eM a++eM b
 | .scope b=>b::eM b
 |_=>[]
def bL(c:Code)(i:Nat):Code:=match(eM c)[i]? with
 |some b=>b
 |none=> .skip
def fG(c:Code)(l:Nat):Code:=match findLabel c l with
 |some b=>b
 |none=> .skip
def bw(p:Code->Prop):List Code->Prop
 |[]=>True
 |b::r=>p b/\bw p r
theorem ew{p:Code->Prop}:∀{l m:List Code},bw p (l++m)->bw p l/\bw p m
 |[],_,h=>⟨trivial,h⟩
 |_::_,_,h=>⟨⟨h.1,(ew h.2).1⟩,(ew h.2).2⟩
theorem an{a b:Prop}(h:a=b)(x:a):b:=h▸x
section
variable {V:jj}
def ay(C:Ctx)(X:Xc V)(b:Code):Prop:=∀la,X.loops (cF b)=some la->bC C b la
def jh(C:Ctx)(X:Xc V)(x:Code):Prop:=∀l la,X.jumps (cF x)=some (l,la)->sK C x l la
theorem kP{C:Ctx}{X:Xc V}:∀{c:Code},bw (ay C X) (ax c)->bw (jh C X) (eM c)->LOk C X c:=by
 intro c
 induction c with
 |seq a b iha ihb=>intro h g;exact⟨iha (ew h).1 (ew g).1,ihb (ew h).2 (ew g).2⟩
 |block id x ih=>intro h g;exact ih h g
 |scope x ih=>intro h g;exact⟨ih h g.2,g.1⟩
 |cond c a b iha ihb=>intro h g;exact⟨iha (ew h).1 (ew g).1,ihb (ew h).2 (ew g).2⟩
 |loop b ih=>intro h g;exact h.1
 |_=>intro _ _;trivial
theorem Ai{p:Code->Prop}(h:∀b,p b):∀l:List Code,bw p l
 |[]=>trivial
 |b::r=>⟨h b,Ai h r⟩
theorem aw{C:Ctx}{X:Xc V}{c:Code}(h:bw (ay C X) (ax c))(hj:∀k,X.jumps k=none:=by intro k;rfl):LOk C X c:=
 kP h (Ai (λx l la e=>by rw[hj]at e;cases e) _)
theorem BD{C:Ctx}{X:Xc V}{x:Code}{l:Nat}{la0:yd V X.sh}(e:X.jumps (cF x)=some (l,la0))(h:sK C x l la0):jh C X x:=λl' la hl=>by
 rw[e]at hl
 cases hl
 exact h
theorem bf{C:Ctx}{X:Xc V}{b:Code}{la0:yd V X.sh}(e:X.loops (cF b)=some la0)(h:bC C b la0):ay C X b:=λla hl=>by
 rw[e]at hl
 cases hl
 exact h
end
end Go.Tx
end
section
namespace Go.Tx
open Go.Awp
variable [Inhabited GMem]
section
variable {ι:Type} {N:ι->Type}
mutual
def TV.ren(f:Nat->Nat):TV N->TV N
 | .bp n o=> .bp (f n) o
 | .vh n=> .vh (f n)
 | .ep n s i o=> .ep (f n) s i o
 | .sv n s i o=> .sv (f n) s i o
 | .mp n=> .mp (f n)
 | .np n b=> .np (f n) b
 | .sd n=> .sd (f n)
 | .ai n s i o=> .ai (f n) s i o
 | .agg cs=> .agg (TV.renL f cs)
 | .tup vs=> .tup (TV.renL f vs)
 | .fn g a b=> .fn g (TV.renL f a) (TV.renL f b)
 | .lf t x=> .lf t x
 | .raw v=> .raw v
 | .rp t x off=> .rp t x off
 | .junk=> .junk
def TV.renL(f:Nat->Nat):List (TV N)->List (TV N)
 |[]=>[]
 |x::r=>TV.ren f x::TV.renL f r
end
def TO.ren(f:Nat->Nat):TO N->TO N
 | .box o cells=> .box o (TV.renL f cells)
 | .bst i x=> .bst i x
 | .vec te e xs=> .vec te e xs
 | .dvec te e xs=> .dvec te e xs
 | .pvec te e xs=> .pvec te e xs
 | .map k v es=> .map k v es
 | .iter s p=> .iter s p
 | .miter m k v es rest cur=> .miter (f m) k v es rest cur
 | .que te e xs=> .que te e xs
 | .maps te k v es al=> .maps te k v es (al.map λq=>(f q.1,q.2))
 | .bar n e xs=> .bar n e xs
 | .alias m=> .alias m
 | .gone l=> .gone l
mutual
def TV.allN(p:Nat->Bool):TV N->Bool
 | .bp n _=>p n
 | .vh n=>p n
 | .ep n _ _ _=>p n
 | .sv n _ _ _=>p n
 | .mp n=>p n
 | .np n _=>p n
 | .sd n=>p n
 | .ai n _ _ _=>p n
 | .agg cs=>TV.allNL p cs
 | .tup vs=>TV.allNL p vs
 | .fn _ a b=>TV.allNL p a&&TV.allNL p b
 | .lf .. =>true
 | .raw _=>true
 | .rp .. =>true
 | .junk=>true
def TV.allNL(p:Nat->Bool):List (TV N)->Bool
 |[]=>true
 |x::r=>TV.allN p x&&TV.allNL p r
end
def TO.allN(p:Nat->Bool):TO N->Bool
 | .box _ cells=>TV.allNL p cells
 | .bst .. =>true
 | .vec .. =>true
 | .dvec .. =>true
 | .pvec .. =>true
 | .map .. =>true
 | .iter .. =>true
 | .miter m _ _ _ _ _=>p m
 | .que .. =>true
 | .maps _ _ _ _ al=>match al with
  |some q=>p q.1
  |none=>true
 | .bar .. =>true
 | .alias _=>false
 | .gone _=>false
end
section
variable {V:jj}
mutual
theorem TV.allN_has{p:Nat->Bool}{n:Nat}:∀{x:TV V.N},TV.allN p x=true->TV.has n x=true->p n=true
 | .bp m o,h,hn=>by simp[TV.has]at hn;subst hn;simpa[TV.allN]using h
 | .vh m,h,hn=>by simp[TV.has]at hn;subst hn;simpa[TV.allN]using h
 | .ep m s i o,h,hn=>by simp[TV.has]at hn;subst hn;simpa[TV.allN]using h
 | .sv m s i o,h,hn=>by simp[TV.has]at hn;subst hn;simpa[TV.allN]using h
 | .mp m,h,hn=>by simp[TV.has]at hn;subst hn;simpa[TV.allN]using h
 | .np m b,h,hn=>by simp[TV.has]at hn;subst hn;simpa[TV.allN]using h
 | .sd m,h,hn=>by simp[TV.has]at hn;subst hn;simpa[TV.allN]using h
 | .ai m s i o,h,hn=>by simp[TV.has]at hn;subst hn;simpa[TV.allN]using h
 | .agg cs,h,hn=>by simp only[TV.allN]at h;simp only[TV.has]at hn;exact TV.allNL_has h hn
 | .tup cs,h,hn=>by simp only[TV.allN]at h;simp only[TV.has]at hn;exact TV.allNL_has h hn
 | .fn f a b,h,hn=>by
  simp only[TV.allN,Oy]at h
  simp only[TV.has,Pk]at hn
  rcases hn with hn|hn
  ·exact TV.allNL_has h.1 hn
  ·exact TV.allNL_has h.2 hn
 | .lf ..,h,hn=>by simp[TV.has]at hn
 | .raw _,h,hn=>by simp[TV.has]at hn
 | .rp ..,h,hn=>by simp[TV.has]at hn
 | .junk,h,hn=>by simp[TV.has]at hn
theorem TV.allNL_has{p:Nat->Bool}{n:Nat}:∀{l:List (TV V.N)},TV.allNL p l=true->TV.hasL n l=true->p n=true
 |[],h,hn=>by simp[TV.hasL]at hn
 |x::r,h,hn=>by
  simp only[TV.allNL,Oy]at h
  simp only[TV.hasL,Pk]at hn
  rcases hn with hn|hn
  ·exact TV.allN_has h.1 hn
  ·exact TV.allNL_has h.2 hn
end
theorem TO.allN_has{p:Nat->Bool}{n:Nat}{o:TO V.N}(h:TO.allN p o=true)(hn:TO.has n o=true):p n=true:=by
 cases o with
 |box oty cells=>exact TV.allNL_has h hn
 |bst i x=>simp[TO.has]at hn
 |vec te e xs=>simp[TO.has]at hn
 |dvec te e xs=>simp[TO.has]at hn
 |pvec te e xs=>simp[TO.has]at hn
 |map k v es=>simp[TO.has]at hn
 |iter s p=>simp[TO.has]at hn
 |miter m k v es rest cur=>simp[TO.has]at hn;subst hn;exact h
 |que te e xs=>simp[TO.has]at hn
 |maps te k v es al=>
  cases al with
  |none=>simp[TO.has]at hn
  |some q=>simp[TO.has]at hn;subst hn;exact h
 |bar m e xs=>simp[TO.has]at hn
 |alias m=>simp[TO.has]at hn
 |gone l=>simp[TO.has]at hn
mutual
theorem H.allN_of{p:Nat->Bool}:∀{x:H},(∀n,H.has n x=true->p n=true)->H.allN p x=true
 | .bp m o,h=>by simp only[H.allN];exact h m (by simp[H.has])
 | .vh m l,h=>by simp only[H.allN];exact h m (by simp[H.has])
 | .ep m s i o,h=>by simp only[H.allN];exact h m (by simp[H.has])
 | .sv m s i o,h=>by simp only[H.allN];exact h m (by simp[H.has])
 | .mp m,h=>by simp only[H.allN];exact h m (by simp[H.has])
 | .np m b,h=>by simp only[H.allN];exact h m (by simp[H.has])
 | .sd m,h=>by simp only[H.allN];exact h m (by simp[H.has])
 | .agg cs,h=>by simp only[H.allN];exact H.allNL_of λn hn=>h n (by simpa[H.has]using hn)
 | .tup cs,h=>by simp only[H.allN];exact H.allNL_of λn hn=>h n (by simpa[H.has]using hn)
 | .fn f a b,h=>by
  simp only[H.allN,Oy]
  exact⟨H.allNL_of λn hn=>h n (by simp[H.has,hn]),H.allNL_of λn hn=>h n (by simp[H.has,hn])⟩
 | .d _,h=>by simp[H.allN]
 | .junk,h=>by simp[H.allN]
theorem H.allNL_of{p:Nat->Bool}:∀{l:List H},(∀n,H.hasL n l=true->p n=true)->H.allNL p l=true
 |[],h=>by simp[H.allNL]
 |x::r,h=>by
  simp only[H.allNL,Oy]
  exact⟨H.allN_of λn hn=>h n (by simp[H.hasL,hn]),H.allNL_of λn hn=>h n (by simp[H.hasL,hn])⟩
end
theorem w3(f:Nat->Nat):∀l:List H,fL (H.renL f l)=fL l
 |[]=>rfl
 |x::r=>by
  have ih:=w3 f r
  cases x<;>simp[H.renL,H.ren,fL,ih]
theorem BS(f:Nat->Nat)(l:List H):H.ren f (bA l)=bA (H.renL f l):=by
 unfold bA
 rw[w3]
 split<;>simp[H.ren]
theorem yI(f:Nat->Nat)(v:Value):H.ren f (bx v)=bx v:=by cases v<;>simp[bx,H.ren]
mutual
theorem xg{f:Nat->Nat}{ω ω':Nat->Nat}:∀x:TV V.N,(∀n,TV.has n x=true->ω' (f n)=ω n)->ao V ω' (TV.ren f x)=H.ren f (ao V ω x)
 | .bp m o,h=>by simp[TV.ren,ao,H.ren]
 | .vh m,h=>by simp[TV.ren,ao,H.ren,h m (by simp[TV.has])]
 | .ep m s i o,h=>by simp[TV.ren,ao,H.ren]
 | .sv m s i o,h=>by simp[TV.ren,ao,H.ren]
 | .mp m,h=>by simp[TV.ren,ao,H.ren]
 | .np m b,h=>by simp[TV.ren,ao,H.ren]
 | .sd m,h=>by simp[TV.ren,ao,H.ren]
 | .ai m s i o,h=>by simp[TV.ren,ao,H.ren]
 | .agg cs,h=>by simp only[TV.ren,ao,BS];rw[encL_ren cs λn hn=>h n (by simpa[TV.has]using hn)]
 | .tup cs,h=>by simp only[TV.ren,ao,H.ren];rw[encL_ren cs λn hn=>h n (by simpa[TV.has]using hn)]
 | .fn g a b,h=>by
  simp only[TV.ren,ao,H.ren]
  rw[encL_ren a λn hn=>h n (by simp[TV.has,hn]),encL_ren b λn hn=>h n (by simp[TV.has,hn])]
 | .lf t x,h=>by simp[TV.ren,ao,H.ren]
 | .raw v,h=>by simp[TV.ren,ao,yI]
 | .rp t x o,h=>by simp[TV.ren,ao,H.ren]
 | .junk,h=>by simp[TV.ren,ao,H.ren]
theorem encL_ren{f:Nat->Nat}{ω ω':Nat->Nat}:∀l:List (TV V.N),(∀n,TV.hasL n l=true->ω' (f n)=ω n)->encL V ω' (TV.renL f l)=H.renL f (encL V ω l)
 |[],h=>rfl
 |x::r,h=>by
  simp only[TV.renL,encL,H.renL]
  rw[xg x λn hn=>h n (by simp[TV.hasL,hn]),encL_ren r λn hn=>h n (by simp[TV.hasL,hn])]
end
theorem wv(f:Nat->Nat):∀l:List D,H.renL f (l.map .d)=l.map .d
 |[]=>rfl
 |x::r=>by simp only[Ow,H.renL,H.ren,wv f r]
theorem D_{f:Nat->Nat}{ω ω':Nat->Nat}(o:TO V.N)(h:∀n,TO.has n o=true->ω' (f n)=ω n):aZ V ω' (TO.ren f o)=(aZ V ω o).map (Own.ren f):=by
 cases o with
 |box oty cells=>simp only[TO.ren,aZ,OW,Own.ren];rw[encL_ren cells h]
 |bst i x=>simp only[TO.ren,aZ,OW,Own.ren];rw[wv]
 |vec te e xs=>simp[TO.ren,aZ,Own.ren]
 |dvec te e xs=>simp[TO.ren,aZ,Own.ren]
 |pvec te e xs=>simp[TO.ren,aZ,Own.ren]
 |map k v es=>simp[TO.ren,aZ,Own.ren]
 |iter s p=>simp[TO.ren,aZ,Own.ren]
 |miter m k v es rest cur=>simp[TO.ren,aZ,Own.ren]
 |que te e xs=>simp[TO.ren,aZ,Own.que,Own.ren]
 |maps te k v es al=>cases al<;>simp[TO.ren,aZ,Own.maps,Own.ren]
 |bar m e xs=>simp only[TO.ren,aZ,OW,Own.ren];rw[wv]
 |alias m=>simp[TO.ren,aZ]
 |gone l=>simp[TO.ren,aZ]
theorem FR.weak{P:Program}{f:FuncId}{args args':List H}{own own1 own':List (Nat×Own)}{r:H}(h:FR P f args own r own')
 (ha:∀E M vs,fK E M vs args'->fK E M vs args)(ho:∀E M w,DM E M w own1->DM E M w own)(hk:∀n,(∃o,gt own n=some o)↔∃o,gt own1 n=some o)
 (hf:∀E M w,DM E M w own1->∀b,mO E w own b->mO E w own1 b):FR P f args' own1 r own':=by
 refine⟨h.1,λE M w vs hgm hm how hvs=>(h.2 E M w vs hgm hm (ho E M w how) (ha E M vs hvs)).mono ?_⟩
 have hin:∀b,mO E w own b->mO E w own1 b:=hf E M w how
 rintro e w' ⟨v,E',M',rfl,hp,hE⟩
 refine⟨v,E',M',rfl,{hp with mnew:=λb o v hv=> ?_,home:=λn o b hn hb=> ?_,frame:=λk hk hx=>hp.frame k hk λh1=>hx (hin k h1)},λn hn=>hE n ?_⟩
 ·rcases hp.mnew b o v hv with h1|h1|h1
  ·exact .inl h1
  ·exact .inr (.inl (hin b h1))
  ·exact .inr (.inr h1)
 ·rcases hp.home n o b hn hb with h1|h1
  ·exact .inl (hin b h1)
  ·exact .inr h1
 ·rcases hn with hn|hn
  ·exact .inl hn
  ·exact .inr ((hk n).2 hn)
end
end Go.Tx
end
section
namespace Go.Tx
open Go.Awp
variable [Inhabited GMem]
section
variable {V:jj}
def Bx(n:Nat):List Nat->Bool
 |[]=>false
 |k::r=>Ph k n||Bx n r
def Io(ks:List Nat):List Nat->List Nat
 |[]=>[]
 |n::r=>match Bx n ks with
  |true=>Io ks r
  |false=>n::Io ks r
def fg:Nat->cu->List Nat->cu
 |_,σ,[]=>σ
 |b,σ,c::r=>match gt σ c with
  |some _=>fg b σ r
  |none=>fg (b+1) ((c,b)::σ) r
def Gn(sig:Sig V):Bool:=sig.params.all (u9 V sig.objs)&&sig.objs.all (λp=>match p.2 with
 | .box _ ps=>ps.all (u9 V sig.objs)
 |_=>true)&&sig.objs.all (λp=>QR given p.1)
def zL(S:TS V.N)(n:Nat):TO V.N->Bool
 | .box _ _=>Ph (S.len n) 0
 | .bst _ _=>Ph (S.len n) 0
 | .map _ _ _=>Ph (S.len n) 0
 | .iter _ _=>Ph (S.len n) 0
 | .vec _ _ _=>true
 | .dvec _ _ _=>true
 | .pvec _ _ _=>true
 | .que _ _ _=>true
 | .maps _ _ _ _ _=>true
 | .bar _ _ _=>Ph (S.len n) 0
 |_=>false
def AX(S:TS V.N)(sig:Sig V)(τ:cu)(x:TV V.N)(os:List (Nat×TO V.N)):Bool:=
 σok τ&&os.all (λp=>QR given p.1||PQ (σf τ p.1) given)&&TV.allN (λn=>(gt os n).isSome) x&&os.all (λp=>TO.allN (λn=>(gt os n).isSome) p.2)&&
  os.all (λp=> !Bx p.1 (sig.objs.map (·.1))||zL S (σf τ p.1) p.2)&&fA (os.map (·.1))
def Nl:TO V.N->Option Nat
 | .vec _ _ xs=>some xs.length
 | .dvec _ _ xs=>some xs.length
 | .pvec _ _ xs=>some xs.length
 | .que _ _ xs=>some xs.length
 | .maps _ _ _ es _=>some es.length
 |_=>none
def gC(S:TS V.N)(ks:List Nat)(τ:cu):List (Nat×TO V.N)->List (Nat×Nat)
 |[]=>[]
 |(c,o)::r=>match Nl o with
  |some l=>match Bx c ks with
   |true=>(l,S.len (σf τ c))::gC S ks τ r
   |false=>gC S ks τ r
  |none=>gC S ks τ r
def xr{A:Type}:List (Nat×Nat)->Option A->Option A
 |[],k=>k
 |(a,b)::r,k=>if a=b then xr r k else none
theorem ol{A:Type}{x:A}:∀{l:List (Nat×Nat)} {k:Option A},xr l k=some x->k=some x/\∀p∈l,p.1=p.2
 |[],k,h=>⟨h,λp hp=>by cases hp⟩
 |(a,b)::r,k,h=>by
  simp only[xr]at h
  split at h
  ·rename_i hab
   obtain⟨h1,h2⟩:=ol h
   refine⟨h1,λp hp=> ?_⟩
   rcases Oz.1 hp with rfl|hp
   ·exact hab
   ·exact h2 p hp
  ·cases h
theorem dG{S:TS V.N}{ks:List Nat}{τ:cu}{c:Nat}{x:TO V.N}(hx:Nl x=some (TO.len (some x)))(hi:Bx c ks=true):∀{l:List (Nat×TO V.N)},(c,x)∈l->(TO.len (some x),S.len (σf τ c))∈gC S ks τ l
 |(d,o)::r,h=>by
  rcases Oz.1 h with h|h
  ·simp only[OV]at h
   obtain⟨rfl,rfl⟩:=h
   simp only[gC,hx,hi]
   exact Ox
  ·have ih:=dG (S:=S) (τ:=τ) hx hi h
   unfold gC
   split
   ·split
    ·exact Ot _ ih
    ·exact ih
   ·exact ih
def bQ(P:Program)(sig:Sig V)(F:HL V.N sig.tys->Option (HL V.N sig.rcut.tys))(A:Type)(args:List (TV V.N))(S:TS V.N)(k:TE V.N->Option A):Option A:=
 match mtL V [] sig.params args with
 |some (σ0,l0)=>match mtO V S σ0 sig.objs with
  |some (σ1,l1)=>match Gn sig with
   |true=>match GD sig.tys (l0++l1)with
    |some v=>F v>>=λr=>match lS P sig r with
     |some x=>match AX S sig (fg (80000+S.own.length) σ1 ((gY sig r).map (·.1))) x (gY sig r)with
      |true=>xr (gC S (sig.objs.map (·.1)) (fg (80000+S.own.length) σ1 ((gY sig r).map (·.1))) (gY sig r)) (k
       { val:=x.ren (σf (fg (80000+S.own.length) σ1 ((gY sig r).map (·.1))))
         acc:=sig.objs.map λp=>σf σ1 p.1
         upd:=((gY sig r).map λp=>(σf (fg (80000+S.own.length) σ1 ((gY sig r).map (·.1))) p.1,p.2.ren (σf (fg (80000+S.own.length) σ1 ((gY sig r).map (·.1))))))++sig.objs.map λp=>(σf σ1 p.1, .gone (S.len (σf σ1 p.1)))
         new:=Io (sig.objs.map λp=>σf σ1 p.1) ((gY sig r).map λp=>σf (fg (80000+S.own.length) σ1 ((gY sig r).map (·.1))) p.1)})
      |false=>none
     |none=>none
    |none=>none
   |false=>none
  |none=>none
 |none=>none
theorem kJ{n:Nat}:∀{l:List Nat},Bx n l=true↔n∈l
 |[]=>by simp[Bx]
 |k::r=>by
  simp only[Bx,Pk,Oz,kJ (l:=r)]
  constructor
  ·rintro(h|h)
   ·exact .inl (O2 h).symm
   ·exact .inr h
  ·rintro(rfl|h)
   ·exact .inl (by simp)
   ·exact .inr h
theorem ob{α:Type}:∀{l:List (Nat×α)} {n:Nat},gt l n=none↔n∉l.map (·.1)
 |[],n=>by simp[gt]
 |(k,x)::r,n=>by
  rw[af]
  by_cases hk:k=n
  ·subst hk;simp
  ·rw[RR hk,ob (l:=r)]
   simp[O3 hk]
theorem gJ{own:List (Nat×Own)}:∀{l:List (Nat×Own)},eB own l=Io (own.map (·.1)) (l.map (·.1))
 |[]=>rfl
 |(n,o)::r=>by
  simp only[eB,Ow,Io]
  cases hq:gt own n with
  |none=>
   have:Bx n (own.map (·.1))=false:=by
    rw[Ra];intro h;exact ob.1 hq (kJ.1 h)
   simp only[this,gJ (l:=r)]
  |some y=>
   have:Bx n (own.map (·.1))=true:=kJ.2 (OR (f:=(·.1)) (bI hq))
   simp only[this,gJ (l:=r)]
theorem jO:∀{l:List Nat} {b:Nat} {σ:cu} {c n:Nat},gt σ c=some n->gt (fg b σ l) c=some n
 |[],b,σ,c,n,h=>h
 |d::r,b,σ,c,n,h=>by
  simp only[fg]
  split
  ·exact jO h
  ·rename_i hd
   refine jO ?_
   rw[af]
   by_cases hk:d=c
   ·subst hk;rw[hd]at h;cases h
   ·rw[RR hk];exact h
theorem σf_some{σ:cu}{c n:Nat}(h:gt σ c=some n):σf σ c=n:=by unfold σf;rw[h]
end
end Go.Tx
end
section
namespace Go.Tx
open Go.Awp
variable [Inhabited GMem]
section
variable {V:jj}
theorem oa{α:Type}(q:Nat->Bool):∀(l:List (Nat×α)) (n:Nat) (x:α),gt (l.filter λp=>q p.1) n=some x->gt l n=some x
 |[],n,x,h=>by simp[gt]at h
 |(k,y)::r,n,x,h=>by
  rw[Ri]at h
  rw[af]
  by_cases hk:k=n
  ·subst hk
   rw[RS rfl]
   split at h
   ·rw[af,RS rfl]at h;exact h
   ·rename_i hq
    have:=bI h
    have:=(Qr.1 this).2
    exact(hq this).elim
  ·rw[RR hk]
   split at h
   ·rw[af,RR hk]at h;exact oa q r n x h
   ·exact oa q r n x h
theorem vO{α β:Type}{f:Nat->Nat}{g:α->β}(hf:∀a b,f a=f b->a=b):∀(l:List (Nat×α)) (n:Nat),gt (l.map λp=>(f p.1,g p.2)) (f n)=(gt l n).map g
 |[],n=>by simp[gt]
 |(k,y)::r,n=>by
  rw[Ow,af,af]
  by_cases hk:k=n
  ·subst hk;simp
  ·rw[RR hk,RR λe=>hk (hf _ _ e)];exact vO hf r n
theorem r_{ks:List Nat}{n:Nat}:∀{l:List Nat},n∈l->n∉ks->n∈Io ks l
 |[],h,_=>by cases h
 |k::r,h,hn=>by
  simp only[Io]
  rcases Oz.1 h with rfl|h
  ·split
   ·rename_i hi;exact(hn (kJ.1 hi)).elim
   ·exact Ox
  ·split
   ·exact r_ h hn
   ·exact Ot _ (r_ h hn)
theorem BG(f:Nat->Nat)(o:TO V.N):TO.len (some (TO.ren f o))=TO.len (some o):=by cases o<;>rfl
theorem aA{P:Program}{fid:Nat}{sig:Sig V}{F:HL V.N sig.tys->Option (HL V.N sig.rcut.tys)}(hF:bd P fid sig F){A:Type}{args:List (TV V.N)}{S:TS V.N}{dst:Option Tmp}
 {k:TE V.N->Option A}{r:A}(h:bQ P sig F A args S k=some r):
 ∃te,k te=some r/\n9 S te/\u_ P fid (encL V S.len args) (az V S).own? λe'=>ELe true e' (fP (S.app dst te).len te):=by
 unfold bQ at h
 split at h
 ·rename_i σ0 l0 h0
  split at h
  ·rename_i σ1 l1 h1
   split at h
   ·rename_i hin
    split at h
    ·rename_i v hv
     obtain⟨y,hy,h⟩:=aS h
     split at h
     ·rename_i x hx
      split at h
      ·rename_i hout
       obtain⟨h,hlens⟩:=ol h
       have hc:=hF v y x hy hx
       have hls:=sG hv
       obtain⟨a1,a2,a3,xs0,a4,a5,a6⟩:=ir h0
       obtain⟨b1,b2,os0,b3,b4,b5,b6⟩:=bK h1
       have hst:bj sig v=(xs0,os0):=by
        unfold bj
        rw[hls,a5 l1]
        simp only[b4]
       have hS:(aE sig v).own=os0:=by unfold aE;rw[hst]
       rw[hst,hS]at hc
       have hlen0:∀c o,gt os0 c=some o->(aE sig v).len c=TO.len (some o):=by
        intro c o ho
        unfold TS.len TS.own?
        rw[hS,ho]
       generalize (aE sig v).len=ω0 at hc hlen0
       generalize hos:gY sig y=os at h hout hc hlens
       have hlen1:∀c o,gt os c=some o->(bi V sig.rcut y).len c=TO.len (some o):=by
        intro c o ho
        rw[<-hos]at ho
        have:=oa (λn=>sig.keep.contains n) (bi V sig.rcut y).own c o ho
        unfold TS.len TS.own?
        rw[this]
       generalize (bi V sig.rcut y).len=ω1 at hc hlen1
       generalize hτ:fg (80000+S.own.length) σ1 (os.map (·.1))=τ at h hout hlens
       have hsub:∀c n,gt σ1 c=some n->gt τ c=some n:=λc n hcn=>by rw[<-hτ];exact jO hcn
       simp only[AX,Oy,OD]at hout
       obtain⟨⟨⟨⟨⟨o1,o2⟩,o3⟩,o4⟩,o5⟩,o6⟩:=hout
       simp only[Gn,Oy,OD]at hin
       obtain⟨⟨i1,i2⟩,i3⟩:=hin
       have hfi:=σf_inj o1
       have hbound:∀p∈sig.objs,∃n o,gt σ1 p.1=some n/\S.own? n=some o/\∃z,aZ V S.len o=some z:=by
        intro p hp
        have:p.1∈os0.map (·.1):=by rw[b6];exact OR hp
        obtain⟨q,hq,hqe⟩:=OT.1 this
        obtain⟨n,o,q1,q2,_,z,q3,_⟩:=b5 q.1 q.2 hq
        exact⟨n,o,by rw[<-hqe];exact q1,q2,_,q3 S.len⟩
       have hTr:∀E:Env,Tr σ1 sig.objs E (λc=>E (σf τ c)) S.len ω0:=λE=>by
        refine⟨λc n hcn=>by rw[σf_some (hsub c n hcn)],λc n hc' hcn=> ?_⟩
        rw[PG]at hc'
        obtain⟨p,hp,hpn⟩:=hc'
        have hpn:p.1=c:=by simpa using hpn
        have hm:c∈os0.map (·.1):=by rw[b6,<-hpn];exact OR hp
        obtain⟨o,ho⟩:=fN hm
        obtain⟨n',o',q1,q2,q3,_⟩:=b5 c o (bI ho)
        rw[hcn]at q1;cases q1
        rw[hlen0 c o ho,q3];unfold TS.len;rw[q2]
       have hob':∀p∈sig.objs,match p.2 with| .box _ ps=>ps.all (u9 V sig.objs)=true|_=>True:=by
        intro p hp
        have:=i2 p hp
        cases hq:p.2 with
        |box oty ps=>rw[hq]at this;simpa using this
        |st i=>trivial
        |vec te e=>trivial
        |dvec te e out=>trivial
        |map tk tv=>trivial
        |iter=>trivial
        |miter m k v=>trivial
        |que te e=>trivial
        |maps te k v=>trivial
        |bar m e=>trivial
       have hown:∀n o,gt (sig.objs.filterMap λp=>((S.own? (σf σ1 p.1)).bind (aZ V S.len)).map λo=>(σf σ1 p.1,o)) n=some o->(S.own? n).bind (aZ V S.len)=some o:=by
        intro n o hn
        obtain⟨p,hp,hpe⟩:=PU.1 (bI hn)
        rw[OB]at hpe
        obtain⟨o',h1,h2⟩:=hpe
        simp only[OV]at h2
        obtain⟨rfl,rfl⟩:=h2
        exact h1
       have hkeys:∀n,n∈(sig.objs.filterMap λp=>((S.own? (σf σ1 p.1)).bind (aZ V S.len)).map λo=>(σf σ1 p.1,o)).map (·.1)↔n∈sig.objs.map λp=>σf σ1 p.1:=by
        intro n
        constructor
        ·intro hn
         obtain⟨q,hq,rfl⟩:=OT.1 hn
         obtain⟨p,hp,hpe⟩:=PU.1 hq
         rw[OB]at hpe
         obtain⟨o',h1,h2⟩:=hpe
         rw[<-h2]
         exact OR (f:=λp=>σf σ1 p.1) hp
        ·intro hn
         obtain⟨p,hp,rfl⟩:=OT.1 hn
         obtain⟨n,o,q1,q2,z,q3⟩:=hbound p hp
         refine OT.2 ⟨(σf σ1 p.1,z),PU.2 ⟨p,hp,?_⟩,rfl⟩
         rw[σf_some q1,q2]
         simp[q3]
       have hex:∀n o,gt (zt (σf τ) (br ω0 os0)) n=some o->∃z,(gt (sig.objs.filterMap λp=>((S.own? (σf σ1 p.1)).bind (aZ V S.len)).map λo=>(σf σ1 p.1,o)) n=some z)/\(∀E M w,aJ E M w n z->aJ E M w n o)/\∀(E:Env) M w b,aJ E M w n z->o.foot w (E n) b->z.foot w (E n) b:=by
        intro n o hn
        obtain⟨c,o1,rfl,hg,rfl⟩:=dF hfi hn
        obtain⟨t,ht,hto⟩:=dE hg
        obtain⟨n',oS,q1,q2,_,x4,q4,x',q5,q6,q7⟩:=b5 c t ht
        rw[q5]at hto
        simp only[Om]at hto;subst hto
        have e:σf τ c=n':=σf_some (hsub _ _ q1)
        have hck:c∈sig.objs.map (·.1):=by rw[<-b6];exact OR (f:=(·.1)) ht
        obtain⟨p,hp,hpc⟩:=OT.1 hck
        have hk':=(hkeys n').2 (OT.2 ⟨p,hp,by rw[hpc];exact σf_some q1⟩)
        obtain⟨z,hz⟩:=fN hk'
        have hz':=hown _ _ hz
        rw[q2]at hz'
        simp only[PX,q4,Om]at hz'
        rw[e]
        refine⟨z,hz,λE M w hw=> ?_,λE M w b hw hb=> ?_⟩
        ·rw[<-hz']at hw
         have:=(q6 σ1 sig.objs E _ M w S.len ω0 (Sub.refl _) hob' (hTr E) hw).ren (E':=E) (f:=σf τ) rfl λm _=>rfl
         rw[e]at this
         exact this
        ·rw[Own.ren_foot]at hb
         rw[<-hz']
         exact q7 E (λ_=>E n') M w S.len ω0 b (by rw[<-hz']at hw;exact hw) rfl hb
       have hsome:∀p∈os,∃o,aZ V ω1 p.2=some o:=by
        intro p hp
        have:=o4 p hp
        cases hq:p.2 with
        |box oty cells=>exact⟨_,rfl⟩
        |bst i x=>exact⟨_,rfl⟩
        |vec te e xs=>exact⟨_,rfl⟩
        |dvec te e xs=>exact⟨_,rfl⟩
        |pvec te e xs=>exact⟨_,rfl⟩
        |map tk tv es=>exact⟨_,rfl⟩
        |iter s p=>exact⟨_,rfl⟩
        |miter m k v es rest cur=>exact⟨_,rfl⟩
        |que te e xs=>exact⟨_,rfl⟩
        |maps te k v es al=>exact⟨_,rfl⟩
        |bar m e xs=>exact⟨_,rfl⟩
        |alias m=>rw[hq]at this;simp[TO.allN]at this
        |gone l=>rw[hq]at this;simp[TO.allN]at this
       have hgos:∀n,(gt os n).isSome=true->(gt (br ω1 os) n).isSome=true:=by
        intro n hn
        obtain⟨o,ho⟩:=QN.1 hn
        obtain⟨z,hz⟩:=hsome _ (bI ho)
        rw[m4 ho hz];rfl
       refine⟨_,h,?_,?_⟩
       ·intro m o hm
        simp only[eG]at hm
        split at hm
        ·rename_i o' hq
         simp only[Om]at hm;subst hm
         obtain⟨p,hp,hpe⟩:=OT.1 (bI hq)
         simp only[OV]at hpe
         obtain⟨rfl,rfl⟩:=hpe
         have h5:=o5 p hp
         rw[Pk]at h5
         by_cases hpk:Bx p.1 (sig.objs.map (·.1))=true
         ·right
          rcases h5 with h5|h5
          ·rw[hpk]at h5;cases h5
          ·rw[BG]
           cases hpp:p.2 with
           |box oty cells=>rw[hpp]at h5;simp only[zL]at h5;exact(O2 h5).symm
           |bst i x=>rw[hpp]at h5;simp only[zL]at h5;exact(O2 h5).symm
           |vec te e xs=>exact hlens _ (dG (x:= .vec te e xs) rfl hpk (hpp▸hp))
           |dvec te e xs=>exact hlens _ (dG (x:= .dvec te e xs) rfl hpk (hpp▸hp))
           |pvec te e xs=>exact hlens _ (dG (x:= .pvec te e xs) rfl hpk (hpp▸hp))
           |map tk tv es=>rw[hpp]at h5;simp only[zL]at h5;exact(O2 h5).symm
           |iter s p=>rw[hpp]at h5;simp only[zL]at h5;exact(O2 h5).symm
           |miter m k v es rest cur=>rw[hpp]at h5;cases h5
           |que te e xs=>exact hlens _ (dG (x:= .que te e xs) rfl hpk (hpp▸hp))
           |maps te k v es al=>exact hlens _ (dG (x:= .maps te k v es al) rfl hpk (hpp▸hp))
           |bar m e xs=>rw[hpp]at h5;simp only[zL]at h5;exact(O2 h5).symm
           |alias m=>rw[hpp]at h5;cases h5
           |gone l=>rw[hpp]at h5;cases h5
         ·left
          refine r_ (OT.2 ⟨p,hp,rfl⟩) λhmem=>hpk (kJ.2 ?_)
          obtain⟨q,hq',hqe⟩:=OT.1 hmem
          obtain⟨n,o,q1,_⟩:=hbound q hq'
          rw[σf_some q1,<-σf_some (hsub _ _ q1)]at hqe
          rw[<-hfi _ _ hqe]
          exact OR (f:=(·.1)) hq'
        ·right
         obtain⟨q,hq',hqe⟩:=OT.1 (bI hm)
         simp only[OV]at hqe
         obtain⟨rfl,rfl⟩:=hqe
         rfl
       ·have hat:=hc.ren τ (by
         simp only[IA,Oy,OD]
         refine⟨⟨⟨⟨o1,λp hp=> ?_⟩,λp hp=> ?_⟩,?_⟩,λp hp=> ?_⟩
         ·obtain⟨z,hz,hz2⟩:=PU.1 hp
          rw[OB]at hz2
          obtain⟨o',_,rfl⟩:=hz2
          have:z.1∈sig.objs.map (·.1):=by rw[<-b6];exact OR (f:=(·.1)) hz
          obtain⟨q,hq,hqe⟩:=OT.1 this
          have:=i3 q hq
          rw[hqe]at this
          exact this
         ·obtain⟨z,hz,hz2⟩:=PU.1 hp
          rw[OB]at hz2
          obtain⟨o',_,rfl⟩:=hz2
          exact o2 z hz
         ·refine H.allN_of λn hn=> ?_
          rw[iR]at hn
          have:=TV.allN_has o3 hn
          rw[Pk];exact .inr (hgos n this)
         ·obtain⟨z,hz,hz2⟩:=PU.1 hp
          rw[OB]at hz2
          obtain⟨o',ho',rfl⟩:=hz2
          have h4:=o4 z hz
          cases o' with
          |box oty cells=>
           simp only[Own.allN]
           refine H.allNL_of λn hn=> ?_
           have:TO.has n z.2=true:=by rw[<-kD ω1 n ho'];exact hn
           have:=TO.allN_has h4 this
           rw[Pk];exact .inr (hgos n this)
          |vec e sz rows=>rfl
          |map es=>rfl
          |iter s p=>rfl
          |dvec e sz rows=>rfl
          |miter m es rest cur=>
           simp only[Own.allN]
           have:TO.has m z.2=true:=by rw[<-kD ω1 m ho'];exact Qo m
           have:=TO.allN_has h4 this
           rw[Pk];exact .inr (hgos m this)
          |gen ds G=>
           simp only[Own.allN,OD]
           intro m hm
           have:TO.has m z.2=true:=by rw[<-kD ω1 m ho'];exact PG.2 ⟨m,hm,Qo m⟩
           have:=TO.allN_has h4 this
           rw[Pk];exact .inr (hgos m this))
        generalize hownE:(sig.objs.filterMap λp=>((S.own? (σf σ1 p.1)).bind (aZ V S.len)).map λo=>(σf σ1 p.1,o))=own at hown hkeys hex
        refine⟨own,_,_,FR.weak (args':=encL V S.len args) (own1:=own) hat (λE M vs hvs=> ?_) (λE M w hw=> ?_) (λn=> ?_) (λE M w hw b hb=> ?_),λp hp=> ?_,?_⟩
        ·refine⟨by rw[hvs.1,H.renL_len,aK,aK,a4],λi c z hcz hz=> ?_⟩
         rw[H.renL_get,encL_map,Oq,Option.map_map,OB]at hz
         obtain⟨u0,hu0,rfl⟩:=hz
         have hi:i<args.length:=by rw[<-a4];exact(Ol.1 hu0).1
         have hu:=Ou hi
         obtain⟨_,k2⟩:=a6 i _ u0 hu hu0
         have hr:=hvs.2 i c (ao V S.len args[i]) hcz (by rw[encL_map,Oq,hu];rfl)
         exact(k2 σ1 sig.objs E _ M S.len ω0 c b1 (OD.2 i1) (hTr E) hr).ren λn _=>rfl
        ·refine⟨λn o hn=> ?_,λn m o o' b hne hn hm hb=> ?_⟩
         ·obtain⟨z,hz,hz',_⟩:=hex n o hn
          exact hz' E M w (hw.ok n z hz)
         ·obtain⟨z,hz,_,f1⟩:=hex n o hn
          obtain⟨z',hz',_,f2⟩:=hex m o' hm
          exactλhb'=>hw.apart n m z z' b hne hz hz' (f1 E M w b (hw.ok n z hz) hb) (f2 E M w b (hw.ok m z' hz') hb')
        ·constructor
         ·rintro⟨o,ho⟩
          obtain⟨z,hz,_⟩:=hex n o ho
          exact⟨z,hz⟩
         ·rintro⟨o,ho⟩
          have:=(hkeys n).1 (OR (f:=(·.1)) (bI ho))
          obtain⟨p,hp,rfl⟩:=OT.1 this
          have hm:p.1∈os0.map (·.1):=by rw[b6];exact OR hp
          obtain⟨t,ht⟩:=fN hm
          obtain⟨n',oS,q1,q2,_,x4,q4,x',q5,q6⟩:=b5 p.1 t (bI ht)
          refine⟨(x' ω0).ren (σf τ),?_⟩
          rw[σf_some q1,<-σf_some (hsub _ _ q1),h_ hfi,m4 ht (q5 ω0)]
          rfl
        ·obtain⟨n,o,hn,hb⟩:=hb
         obtain⟨z,hz,_,f1⟩:=hex n o hn
         exact⟨n,z,hz,f1 E M w b (hw.ok n z hz) hb⟩
        ·rw[<-hownE]at hp
         obtain⟨q,hq,hqe⟩:=PU.1 hp
         rw[OB]at hqe
         obtain⟨o',h1,rfl⟩:=hqe
         rw[aH];exact h1
        ·have hω:∀te:TE V.N,(∀c o,gt os c=some o->gt te.upd (σf τ c)=some (o.ren (σf τ)))->∀c,(gt os c).isSome=true->(S.app dst te).len (σf τ c)=ω1 c:=by
          intro te hte c hcs
          obtain⟨o,ho⟩:=QN.1 hcs
          rw[bX,hte c o ho,hlen1 c o ho]
          exact BG _ o
         have hkl:own.map (·.1)=sig.objs.map λp=>σf σ1 p.1:=by
          rw[<-hownE]
          have:∀l:List (Nat×OPt V.ι),(∀p∈l,∃n o,gt σ1 p.1=some n/\S.own? n=some o/\∃z,aZ V S.len o=some z)->
           (l.filterMap λp=>((S.own? (σf σ1 p.1)).bind (aZ V S.len)).map λo=>(σf σ1 p.1,o)).map (·.1)=l.map λp=>σf σ1 p.1:=by
           intro l
           induction l with
           |nil=>intro _;rfl
           |cons p r ih=>
            intro hl
            obtain⟨n,o,q1,q2,z,q3⟩:=hl p Ox
            have e:(S.own? (σf σ1 p.1)).bind (aZ V S.len)=some z:=by rw[σf_some q1,q2];exact q3
            simp only[Qm,e,OW,Ow]
            rw[ih λq hq=>hl q (Ot _ hq)]
          exact this sig.objs hbound
         have hml:(zt (σf τ) (br ω1 os)).map (·.1)=os.map λp=>σf τ p.1:=by
          have:∀l:List (Nat×TO V.N),(∀p∈l,∃o,aZ V ω1 p.2=some o)->(zt (σf τ) (br ω1 l)).map (·.1)=l.map λp=>σf τ p.1:=by
           intro l
           induction l with
           |nil=>intro _;rfl
           |cons p r ih=>
            intro hl
            obtain⟨o,ho⟩:=hl p Ox
            have:=ih λq hq=>hl q (Ot _ hq)
            unfold zt br at this⊢
            simp only[Qm,ho,OW,Ow]
            rw[this]
          exact this os hsome
         refine bq ?_ ?_ ?_ ?_
         ·simp only[gq]
          refine(xg x λn hn=>hω _ (λc o ho=> ?_) n (TV.allN_has o3 hn)).symm
          simp only[eG,vO hfi,ho,OW]
         ·simp only[gq]
          rw[gJ,hkl]
          rw[hml]
         ·simp only[gq,O6]
          refine congr (congrArg _ ?_) ?_
          ·have:∀(ω2:Nat->Nat) (l:List (Nat×TO V.N)),(∀p∈l,∃o,aZ V ω1 p.2=some o)->(∀p∈l,aZ V ω2 (TO.ren (σf τ) p.2)=(aZ V ω1 p.2).map (Own.ren (σf τ)))->
            (zt (σf τ) (br ω1 l)).map (λp=>(p.1,some p.2))=(l.map λp=>(σf τ p.1,TO.ren (σf τ) p.2)).map λp=>(p.1,aZ V ω2 p.2):=by
            intro ω2 l
            induction l with
            |nil=>intro _ _;rfl
            |cons p r ih=>
             intro hl hl2
             obtain⟨o,ho⟩:=hl p Ox
             have h2:=hl2 p Ox
             have:=ih (λq hq=>hl q (Ot _ hq)) λq hq=>hl2 q (Ot _ hq)
             unfold zt br at this⊢
             simp only[Qm,ho,OW,Ow,h2]
             rw[this]
           refine this _ os hsome λp hp=>D_ p.2 λn hn=>hω _ (λc o ho=> ?_) n (TO.allN_has (o4 p hp) hn)
           simp only[eG,vO hfi,ho,OW]
          ·have e:own.map (λp:Nat×Own=>(p.1,(none:Option Own)))=(own.map (·.1)).map λn=>(n,none):=by rw[OQ];rfl
           rw[e,hkl,OQ,OQ]
           rfl
         ·simp only[gq]
          exact hkl
      ·cases h
     ·cases h
    ·cases h
   ·cases h
  ·cases h
 ·cases h
end
end Go.Tx
end
section
namespace Go.Tx
open Go.Awp
variable [Inhabited GMem]
section
variable (V:jj)
mutual
def cL{H:Type}:DataW H->Nat
 | .lit (.string bs)=>bs.length+1
 | .lit _=>1
 | .nil=>1
 | .ptr d=>cL d+1
 | .slice elems spare=>dbulkL elems+dbulkL spare+1
 | .agg parts=>dbulkL parts+1
 | .iface _ d=>cL d+1
 | .map _=>1
 | .held _=>1
def dbulkL{H:Type}:List (DataW H)->Nat
 |[]=>0
 |d::r=>cL d+dbulkL r
end
theorem lG{H:Type}:∀l:List (DataW H),dbulkL l=(l.map cL).sum
 |[]=>by simp[dbulkL]
 |d::r=>by simp[dbulkL,lG r]
inductive Ok:(t:Ty V.ι)->den V.N t->Prop
 |int {k:IntKind} {n:Int}:(Lit.int k n).wf=true->Ok (.int k) n
 |bool (b:Bool):Ok .bool b
 |str {s:ByteArray}:s.size<=maxLen->Ok .str s
 |sl {e:Ty V.ι} {xs:List (den V.N e)}:xs.length<=maxLen->(∀x∈xs,Ok e x)->Ok (.sl e) xs
 |st {i:V.ι} {x:V.N i}:(∀l∈V.cells i x,Ok l.t l.x)->Ok (.st i) x
inductive Bk:(t:Ty V.ι)->den V.N t->Nat->Prop
 |int {k:IntKind} {n:Int} {m:Nat}:1<=m->Bk (.int k) n m
 |bool {b:Bool} {m:Nat}:1<=m->Bk .bool b m
 |str {s:ByteArray} {m:Nat}:s.size+1<=m->Bk .str s m
 |sl {e:Ty V.ι} {xs:List (den V.N e)} {m:Nat} (ns:List Nat):ns.length=xs.length->(∀(i:Nat) (x:den V.N e) (n:Nat),xs[i]?=some x->ns[i]?=some n->Bk e x n)->ns.sum+1<=m->Bk (.sl e) xs m
 |st {i:V.ι} {x:V.N i} {m:Nat} (ns:List Nat):ns.length=(V.cells i x).length->(∀(j:Nat) (l:cj V.N) (n:Nat),(V.cells i x)[j]?=some l->ns[j]?=some n->Bk l.t l.x n)->ns.sum+1<=m->Bk (.st i) x m
def Bks(ls:List (cj V.N))(m:Nat):Prop:=
 ∃ns:List Nat,ns.length=ls.length/\(∀(j:Nat) (l:cj V.N) (n:Nat),ls[j]?=some l->ns[j]?=some n->Bk V l.t l.x n)/\ns.sum<=m
def xj:Ty V.ι->List (Ty V.ι)
 | .st i=>V.tys i
 |t=>[t]
def Kb(P:Program):Nat->List Field->Option (List (Ty V.ι))
 |_,[]=>some []
 |off,f::fs=>match V.ty f.type with
  |some τ=>if f.offset=off/\P.cellsOf f.type=tsz V.sz τ then match Kb P (off+tsz V.sz τ) fs with
   |some l=>some (xj V τ++l)
   |none=>none
   else none
  |none=>none
class OkI where ok:V.ι->Bool
variable [OkI V]
def noF:Ty V.ι->Bool
 | .fnc=>false
 | .fno=>false
 | .ar _ _=>false
 | .op _=>false
 | .mp _ _=>false
 | .er=>false
 | .sl e=>noF e
 | .st i=>OkI.ok i
 |_=>true
def bV(P:Program)(t:TypeId):Ty V.ι->Prop
 | .int k=>P.underlying t=some (.int k)
 | .bool=>P.underlying t=some .bool
 | .str=>P.underlying t=some .string
 | .sl e=>∃te,P.underlying t=some (.slice te)/\V.ty te=some e/\P.cellsOf te=tsz V.sz e/\PQ 0 (tsz V.sz e)=true
 | .mp _ _=>False
 | .er=>False
 | .op _=>False
 | .fnc=>False
 | .fno=>False
 | .ar _ _=>False
 | .st i=>∃fs:Array Field,P.underlying t=some (.struct fs)/\P.cellsOf t=V.sz i/\Kb V P 0 fs.toList=some (V.tys i)
structure DL (P:Program):Prop where
 ty:∀t τ,V.ty t=some τ->noF V τ=true->bV V P t τ
 nof:∀i,OkI.ok i=(V.tys i).all (noF V)
 tys:∀i x,(V.cells i x).map (·.t)=V.tys i
 of:∀i ls,ls.map (·.t)=V.tys i->∃y,V.ofCells i ls=some y
end
section
variable {V:jj} [OkI V] {H0:Type} {enc:TypeId×Value->H0} {P:Program} {W:World} {spare:Nat->Bool} {held:Bool} {base:Nat}
theorem wu{t:TypeId}(hu:P.underlying t=some .string){fuel:Nat}{cs:List Value}{x:DataW H0×List MemPlace}(h:DataW.trod enc P W base spare held fuel t cs=some x):
 ∃s,cs=[.string s]/\s.size<=maxLen:=by
 cases fuel with
 |zero=>cases h
 |succ fuel=>
  unfold DataW.trod at h
  rw[hu]at h
  simp only[]at h
  split at h<;>try(rename_i h1 _;cases h1)
  all_goals try(cases h;done)
  all_goals simp_all
def jG(M:Mem)(cs:List Value)(ls:List (cj V.N)):Prop:=
 cs.length=ls.length/\∀(i:Nat) (c:Value) (l:cj V.N),cs[i]?=some c->ls[i]?=some l->bW M c (aL V.sz V.enc l.t l.x)
theorem jG.app{M:Mem}{cs cs':List Value}{ls ls':List (cj V.N)}(h:jG M cs ls)(h':jG M cs' ls'):jG M (cs++cs') (ls++ls'):=by
 refine⟨by simp[h.1,h'.1],λi c l hc hl=> ?_⟩
 by_cases hi:i<cs.length
 ·rw[OK hi]at hc
  rw[OK (by rw[<-h.1];exact hi)]at hl
  exact h.2 i c l hc hl
 ·rw[OI (by omega)]at hc
  rw[OI (by rw[<-h.1];omega),<-h.1]at hl
  exact h'.2 _ c l hc hl
theorem Bks.app{ls ls':List (cj V.N)}{m m':Nat}(h:Bks V ls m)(h':Bks V ls' m'):Bks V (ls++ls') (m+m'):=by
 obtain⟨ns,h1,h2,h3⟩:=h
 obtain⟨ns',h1',h2',h3'⟩:=h'
 refine⟨ns++ns',by simp[h1,h1'],λj l n hl hn=> ?_,by simp;omega⟩
 by_cases hj:j<ls.length
 ·rw[OK hj]at hl
  rw[OK (by omega)]at hn
  exact h2 j l n hl hn
 ·rw[OI (by omega)]at hl
  rw[OI (by omega),h1]at hn
  exact h2' _ l n hl hn
theorem Bks.one{t:Ty V.ι}{x:den V.N t}{m:Nat}(h:Bk V t x m):Bks V [⟨t,x⟩] m:=
 ⟨[m],rfl,λj l n hl hn=>by
  cases j with
  |zero=>simp at hl hn;subst hl;subst hn;exact h
  |succ j=>simp at hl,by simp⟩
def Rd(M:Mem)(τ:Ty V.ι)(cs:List Value)(m:Nat):Prop:=
 ∃y:den V.N τ,Ok V τ y/\jG M cs (aN V τ y)/\(aN V τ y).map (·.t)=xj V τ/\(∀l∈aN V τ y,Ok V l.t l.x)/\Bk V τ y m/\Bks V (aN V τ y) m
theorem oP(F:DL V P){M:Mem}{rd:TypeId->List Value->Nat->Prop}(hrd:∀t τ cs m,V.ty t=some τ->noF V τ=true->rd t cs m->Rd (V:=V) M τ cs m){cs:List Value}:∀(fs:List Field) (ms:List Nat) (off:Nat) (l:List (Ty V.ι)),
 Kb V P off fs=some l->(∀τ∈l,noF V τ=true)->ms.length=fs.length->(∀(j:Nat) (f:Field) (m:Nat),fs[j]?=some f->ms[j]?=some m->rd f.type ((cs.drop f.offset).take (P.cellsOf f.type)) m)->
 ∃(n:Nat) (ls:List (cj V.N)),ls.map (·.t)=l/\jG M ((cs.drop off).take n) ls/\(∀x∈ls,Ok V x.t x.x)/\n=ls.length/\Bks V ls ms.sum
 |[],ms,off,l,h,_,hm,_=>by
  simp[Kb]at h;subst h
  exact⟨0,[],rfl,⟨rfl,λi c l hc=>by simp at hc⟩,(λx hx=>nomatch hx),rfl,[],rfl,λj l n hl=>by simp at hl,by simp⟩
 |f::fs,[],off,l,h,_,hm,_=>by simp at hm
 |f::fs,m::ms,off,l,h,hnf,hm,hf=>by
  simp only[Kb]at h
  split at h
  ·rename_i τ hτ
   split at h
   ·rename_i hc
    obtain⟨ho,hsz⟩:=hc
    split at h
    ·rename_i l' hl'
     simp at h;subst h
     obtain⟨n,ls,a1,a2,a3,a4,a5⟩:=oP F hrd fs ms _ l' hl' (λτ hτ=>hnf τ (Qf _ hτ)) (by simpa using hm) λj g m hg hm=>hf (j+1) g m (by simpa using hg) (by simpa using hm)
     obtain⟨y,b1,b2,b3,b4,b5,b6⟩:=hrd f.type τ _ m hτ (by
      cases τ with
      |st j=>exact(F.nof j).trans (OD.2 λτ hτ=>hnf τ (PY _ hτ))
      |_=>first|rfl|exact hnf _ (PY _ (by simp[xj]))) (hf 0 f m rfl rfl)
     rw[ho,hsz]at b2
     refine⟨tsz V.sz τ+n,aN V τ y++ls,by simp[a1,b3],?_,λx hx=> ?_,by simp[fc,a4],by rw[Qu];exact b6.app a5⟩
     ·have e:(cs.drop off).take (tsz V.sz τ+n)=(cs.drop off).take (tsz V.sz τ)++(cs.drop (off+tsz V.sz τ)).take n:=by
       rw[List.take_add,PJ]
      rw[e]
      exact b2.app a2
     ·rcases ON.1 hx with hx|hx
      ·exact b4 x hx
      ·exact a3 x hx
    ·cases h
   ·cases h
  ·cases h
theorem uG{t:TypeId}{fs:Array Field}(hu:P.underlying t=some (.struct fs)){fuel:Nat}{cs:List Value}{x:DataW H0×List MemPlace}(h:DataW.trod enc P W base spare held (fuel+1) t cs=some x):
 cs.length=P.cellsOf t/\∃ds:List (DataW H0),x.1= .agg ds/\ds.length=fs.toList.length/\∀(i:Nat) (f:Field),fs.toList[i]?=some f->∃y,ds[i]?=some y.1/\DataW.trod enc P W base spare held fuel f.type ((cs.drop f.offset).take (P.cellsOf f.type))=some y:=by
 unfold DataW.trod at h
 rw[hu]at h
 simp only[]at h
 split at h
 ·rename_i hl
  rw[OB]at h
  obtain⟨ys,hm,hx⟩:=h
  subst hx
  refine⟨hl,ys.map (·.1),rfl,by rw[On,(fZ hm).1],λi f hf=> ?_⟩
  obtain⟨y,hy1,hy⟩:=(fZ hm).2 i f hf
  exact⟨y,by rw[Oq,hy1];rfl,hy⟩
 ·cases h
theorem wt{t e:TypeId}(hu:P.underlying t=some (.slice e)){fuel:Nat}{cs:List Value}{x:DataW H0×List MemPlace}(h:DataW.trod enc P W base spare held (fuel+1) t cs=some x):
 (cs=[.slice none 0 0]/\x.1= .nil)\/∃a len cap,cs=[.slice (some a) len cap]/\len<=cap/\cap<=maxLen/\∃ds sp:List (DataW H0),x.1= .slice ds sp/\ds.length=len/\
   ∀i,i<len->∃row y,W.cells? base (a.add (i *P.cellsOf e)) (P.cellsOf e)=some row/\DataW.trod enc P W base spare held fuel e row=some y/\ds[i]?=some y.1:=by
 unfold DataW.trod at h
 rw[hu]at h
 simp only[]at h
 split at h
 all_goals first
  |(simp only[Om,reduceCtorEq]at *;done)
  |(left;simp only[Om]at h;exact⟨rfl,by rw[<-h]⟩)
  |(rename_i a len cap hx
    simp only[Om,TypeDesc.slice.injEq]at hx
    subst hx
    right
    split at h
    ·rename_i hc
     rw[PV]at h
     obtain⟨ys,hm,h⟩:=h
     rw[OB]at h
     obtain⟨rest,_,h⟩:=h
     subst h
     refine⟨a,len,cap,rfl,hc.2.1,hc.2.2,ys.map (·.1),rest.map (·.1),rfl,by rw[On,(fZ hm).1,List.length_range],λi hi=> ?_⟩
     obtain⟨y,hy1,hy⟩:=(fZ hm).2 i i (by rw[PP hi])
     rw[PV]at hy
     obtain⟨row,h1,h2⟩:=hy
     exact⟨row,y,h1,h2,by rw[Oq,hy1];rfl⟩
    ·cases h)
  |skip
theorem kC{H:Type}(d:DataW H):1<=cL d:=by
 cases d with
 |lit l=>cases l<;>simp[cL]
 |_=>simp[cL]
theorem uF{t:TypeId}(hu:P.underlying t=some .string){fuel:Nat}{cs:List Value}{x:DataW H0×List MemPlace}(h:DataW.trod enc P W base spare held fuel t cs=some x):
 ∃s,cs=[.string s]/\s.size<=maxLen/\cL x.1=s.size+1:=by
 cases fuel with
 |zero=>cases h
 |succ fuel=>
  obtain⟨s,rfl,hs⟩:=wu hu h
  refine⟨s,rfl,hs,?_⟩
  unfold DataW.trod at h
  rw[hu]at h
  simp only[]at h
  rw[RS hs]at h
  cases h
  show cL (.lit (.string s.data.toList))=s.data.size+1
  rw[cL,PB]
theorem nZ(τ:Ty V.ι)(y:den V.N τ):aV V.sz V.enc τ y=(aN V τ y).map λl=>aL V.sz V.enc l.t l.x:=bZ τ y
theorem EX(F:DL V P):∀(fuel:Nat) (t:TypeId) (τ:Ty V.ι) (cs:List Value) (x:DataW H0×List MemPlace),V.ty t=some τ->noF V τ=true->DataW.trod enc P W base spare held fuel t cs=some x->Rd (fx W) τ cs (cL x.1):=by
 intro fuel
 induction fuel using Ro with
 |ind fuel ih=>
 intro t τ cs x hty hn h
 have hf:=F.ty t τ hty hn
 cases τ with
 |mp k v=>exact hf.elim
 |er=>exact hf.elim
 |op e=>exact hf.elim
 |fnc=>exact hf.elim
 |fno=>exact hf.elim
 |ar n e=>exact hf.elim
 |int k=>
  obtain⟨n,rfl,hw⟩:=EY hf h
  refine⟨n, .int hw,⟨rfl,λi c l hc hl=> ?_⟩,rfl,λl hl=> ?_, .int (kC _), .one (.int (kC _))⟩
  ·cases i with
   |zero=>simp[aN]at hc hl;subst hc;subst hl;exact .v _
   |succ i=>simp at hc
  ·simp[aN]at hl;subst hl;exact .int hw
 |bool=>
  obtain⟨b,rfl⟩:=CN hf h
  refine⟨b, .bool b,⟨rfl,λi c l hc hl=> ?_⟩,rfl,λl hl=> ?_, .bool (kC _), .one (.bool (kC _))⟩
  ·cases i with
   |zero=>simp[aN]at hc hl;subst hc;subst hl;exact .v _
   |succ i=>simp at hc
  ·simp[aN]at hl;subst hl;exact .bool b
 |str=>
  obtain⟨s,rfl,hs,hb⟩:=uF hf h
  refine⟨s, .str hs,⟨rfl,λi c l hc hl=> ?_⟩,rfl,λl hl=> ?_, .str (RK hb.symm), .one (.str (RK hb.symm))⟩
  ·cases i with
   |zero=>simp[aN]at hc hl;subst hc;subst hl;exact .v _
   |succ i=>simp at hc
  ·simp[aN]at hl;subst hl;exact .str hs
 |st i=>
  obtain⟨fs,hu,hsz,hfl⟩:=hf
  cases fuel with
  |zero=>cases h
  |succ fuel=>
   obtain⟨hl,ds,hx,hdl,hr⟩:=uG hu h
   obtain⟨n,ls,a1,a2,a3,a4,a5⟩:=oP F (M:=fx W) (rd:=λt cs m=>∃y,DataW.trod enc P W base spare held fuel t cs=some y/\m=cL y.1) (λt τ cs m hτ hn ⟨y,hy,hm⟩=>hm▸ih fuel (by omega) t τ cs y hτ hn hy) fs.toList (ds.map cL) 0 _ hfl (λτ hτ=>OD.1 ((F.nof _).symm.trans hn) τ hτ)
    (by rw[On,hdl])
    (λj f m hf hm=>by
      obtain⟨y,hy1,hy⟩:=hr j f hf
      rw[Oq,hy1]at hm
      exact⟨y,hy,by simpa using hm.symm⟩)
   obtain⟨y,hy⟩:=F.of i ls a1
   have hc:=V.of_cells i ls y hy
   have hn:n=cs.length:=by rw[a4,<-hc,V.len_cells,hl,hsz]
   rw[OZ,O8 (by omega)]at a2
   have hdb:cL x.1=(ds.map cL).sum+1:=by rw[hx,cL,lG]
   obtain⟨ns,c1,c2,c3⟩:=a5
   refine⟨y, .st (by rw[hc];exact a3),by simpa only[aN,hc]using a2,by simpa only[aN,hc,xj]using a1,by simpa only[aN,hc]using a3, .st ns (by rw[hc];exact c1) (by rw[hc];exact c2) (by omega),ns,by simpa only[aN,hc]using c1,by simpa only[aN,hc]using c2,by omega⟩
 |sl e=>
  obtain⟨te,hu,hte,hsz,hpos⟩:=hf
  have hpos:0<tsz V.sz e:=by simpa[P8]using hpos
  cases fuel with
  |zero=>cases h
  |succ fuel=>
   have fin:∀(c3:Value) (ys:List (den V.N e)),ys.length<=maxLen->(∀y∈ys,Ok V e y)->bW (fx W) c3 (aL V.sz V.enc (.sl e) ys)->Bk V (.sl e) ys (cL x.1)->Rd (V:=V) (fx W) (.sl e) [c3] (cL x.1):=by
    intro c3 ys h1 h2 h3 h4
    refine⟨ys, .sl h1 h2,⟨rfl,λi c l hc hl=> ?_⟩,rfl,λl hl=> ?_,h4, .one h4⟩
    ·cases i with
     |zero=>simp[aN]at hc hl;subst hc;subst hl;exact h3
     |succ i=>simp at hc
    ·simp[aN]at hl;subst hl;exact .sl h1 h2
   rcases wt hu h with⟨h4,hx⟩|⟨a,len,cap,h4,hlc,hcm,ds,sp,hx,hdl,hr⟩
   ·subst h4
    exact fin _ [] (by simp) (λy hy=>by cases hy) (.slnil _) (.sl [] rfl (λi x n hx=>by simp at hx) (by rw[hx];simp[cL]))
   ·subst h4
    rw[hsz]at hr
    obtain⟨ys,hyl,hys⟩:=BH (α:=den V.N e) (R:=λi y=>∃row d,W.cells? base (a.add (i *tsz V.sz e)) (tsz V.sz e)=some row/\Ok V e y/\jG (fx W) row (aN V e y)/\ds[i]?=some d/\Bk V e y (cL d)) len
     λi hi=>by
      obtain⟨row,z,g1,g2,g3⟩:=hr i hi
      obtain⟨y,b1,b2,_,_,b5,_⟩:=ih fuel (by omega) te e row z hte (by simpa[noF]using hn) g2
      exact⟨y,row,z.1,g1,b1,b2,g3,b5⟩
    have hdb:cL x.1=(ds.map cL).sum+dbulkL sp+1:=by rw[hx,cL,lG]
    refine fin _ ys (by omega) (λy hy=> ?_) (bW.of_slice (b:=base) hpos hlc (by rw[On,hyl]) (λr hr'=> ?_) λi hi=> ?_) (.sl (ds.map cL) (by rw[On,hdl,hyl]) (λi y n hy hn=> ?_) (by omega))
    ·obtain⟨i,hi,rfl⟩:=QB hy
     obtain⟨row,_,_,e1,_⟩:=hys i _ (Ou hi)
     exact e1
    ·obtain⟨y,_,rfl⟩:=OT.1 hr'
     rw[nZ,On,fc]
    ·obtain⟨row,_,e0,_,e2,_⟩:=hys i (ys[i]'(by omega)) (Ou (by omega))
     refine⟨row,e0,λr hr' j c y hc hy=> ?_⟩
     rw[Oq,Ou (by omega:i<ys.length)]at hr'
     simp at hr'
     subst hr'
     rw[nZ,Oq,OB]at hy
     obtain⟨l,hl,rfl⟩:=hy
     exact e2.2 j c l hc hl
    ·obtain⟨row,d,_,_,_,e3,e4⟩:=hys i y hy
     rw[Oq,e3]at hn
     simp at hn
     subst hn
     exact e4
theorem fz{r:Reach}{t:TypeId}{cs:Array Value}(h:(∃k,P.underlying t=some (.int k))\/P.underlying t=some .bool\/P.underlying t=some .string\/∃e,P.underlying t=some (.slice e)):
 ¬Value.okWide P W r base t (.agg cs):=by
 intro hv
 unfold Value.okWide at hv
 rcases h with⟨k,h⟩|h|h|⟨e,h⟩<;>rw[h]at hv<;>simp only[Cell.okWide,Cell.ok,h]at hv
theorem CC(F:DL V P){r:Reach}{b0:Nat}{t:TypeId}{τ:Ty V.ι}{v:Value}{d:DataW H0}{p:List MemPlace}(hty:V.ty t=some τ)(hok:Value.okWide P W r b0 t v)(h:DataW.Trod enc P W base spare held t v d p)(hn:noF V τ=true:=by rfl):
 ∃y:den V.N τ,Ok V τ y/\bW (fx W) v (aL V.sz V.enc τ y)/\Bk V τ y (cL d):=by
 obtain⟨fuel,h⟩:=h
 obtain⟨y,h1,h2,_,_,h5,_⟩:=EX F fuel t τ _ _ hty hn h
 refine⟨y,h1,?_,h5⟩
 have hf:=F.ty t τ hty hn
 have cell:(∀cs,v≠ .agg cs)->aN V τ y=[⟨τ,y⟩]->bW (fx W) v (aL V.sz V.enc τ y):=by
  intro hn hr
  rw[hr]at h2
  have hc:v.cells.toList=[v]:=by cases v<;>first|rfl|exact(hn _ rfl).elim
  rw[hc]at h2
  exact h2.2 0 v ⟨τ,y⟩ rfl rfl
 cases τ with
 |mp k v=>exact hf.elim
 |er=>exact hf.elim
 |op e=>exact hf.elim
 |fnc=>exact hf.elim
 |fno=>exact hf.elim
 |ar n e=>exact hf.elim
 |int k=>exact cell (λcs e=>by subst e;exact fz (.inl ⟨k,hf⟩) hok) rfl
 |bool=>exact cell (λcs e=>by subst e;exact fz (.inr (.inl hf)) hok) rfl
 |str=>exact cell (λcs e=>by subst e;exact fz (.inr (.inr (.inl hf))) hok) rfl
 |sl e=>
  obtain⟨te,hu,_⟩:=hf
  exact cell (λcs e=>by subst e;exact fz (.inr (.inr (.inr ⟨te,hu⟩))) hok) rfl
 |st i=>
  obtain⟨fs,hu,_,_⟩:=hf
  unfold Value.okWide at hok
  rw[hu]at hok
  obtain⟨cs,rfl,_⟩:=hok
  simp only[Value.cells]at h2
  simp only[aL]
  rw[V.enc_cells]
  refine .agg cs _ (by rw[On];have:=h2.1;simpa[aN]using this) λk c x hc hx=> ?_
  rw[Oq,OB]at hx
  obtain⟨l,hl,rfl⟩:=hx
  exact h2.2 k c l (by simpa using hc) hl
end
end Go.Tx
end
section
namespace Go.Proofs.YtpndmanbfleadaaGreatDoor
open Go.Awp Go.Shelf
open Go.Proofs.Tryz (prog)
set_option maxRecDepth 100000
theorem KR:U8Types prog Tryz.lays196_ren:= .of196 Tryz.lays196
theorem J8:U8Extra prog Tryz.lays196_ren:=⟨by kernel_rfl,by kernel_rfl,by kernel_rfl,by kernel_rfl,by kernel_rfl,by kernel_rfl,by kernel_rfl⟩
theorem J_:Rows.laid_unicode_utf8_first=Lib.firstData:=by kernel_rfl
theorem GP:(Rows.laid_unicode_utf8_acceptRanges:DataW Unit)=Lib.acceptData:=by kernel_rfl
theorem NK:(Rows.laid_internal_strconv_uint64pow10:DataW Unit)=Lib.tabData .u64 Lib.pow10Tab:=by kernel_rfl
def F0:List Int:=[0,1,56,2,57,49,28,3,61,58,42,50,38,29,17,4,62,47,59,36,45,43,51,22,53,39,33,30,24,18,12,5,63,55,48,27,60,41,37,16,46,35,44,21,52,32,23,11,54,26,40,15,34,20,31,10,25,14,19,9,13,8,7,6]
theorem GX:(Rows.laid_math_bits_deBruijn64tab:DataW Unit)=Lib.tabData .u8 F0:=by kernel_rfl
def L6:List (String×DataW Unit):=[("math/bits.deBruijn32tab",Rows.laid_math_bits_deBruijn32tab),("math/bits.deBruijn64tab",Rows.laid_math_bits_deBruijn64tab),("internal/strconv.uint64pow10",Rows.laid_internal_strconv_uint64pow10),("unicode/utf8.acceptRanges",Rows.laid_unicode_utf8_acceptRanges),("strconv.ErrRange",Rows.laid_strconv_ErrRange),("strconv.ErrSyntax",Rows.laid_strconv_ErrSyntax),("unicode.CaseRanges",Rows.laid_unicode_CaseRanges),("unicode/utf8.first",Rows.laid_unicode_utf8_first)]
theorem mL{P:Program}{w:World}{name:String}{k:IntKind}{zs:List Int}{g:Nat}{t e:TypeId}{n:Nat}(hg:P.globalNamed name=some g)(hty:(P.globals[g]?).map (·.type)=some t)(ht:P.underlying t=some (.array n e))(he:P.underlying e=some (.int k))(hce:P.cellsOf e=1)(hct:P.cellsOf t=n)
 (h:Lib.VarReads P w name (Lib.tabData k zs)):Lib.TabIs P w name k zs:=by
 obtain⟨g',t',cs,fuel,p,hg',ht',hvar,hd⟩:=h
 obtain rfl:=P_ (hg.symm.trans hg')
 obtain rfl:=P_ (hty.symm.trans ht')
 unfold Lib.TabIs
 rw[hvar,<-Lib.cells_of_tab ht he hce hct hd]
theorem js{P:Program}{w:World}{name nm:String}{d:DataW Unit}{g:Nat}{t:TypeId}{ms:TypeDesc}(hg:P.globalNamed name=some g)(hty:(P.globals[g]?).map (·.type)=some t)(ht:P.underlying t=some ms)(hms:∃l,ms= .interface l)
 (h:Lib.VarReads P w name (.iface nm d)):∃u v,w.cell? ⟨g,0,none⟩=some (.iface u v):=by
 obtain⟨l,rfl⟩:=hms
 obtain⟨g',t',cs,fuel,p,hg',ht',hvar,hd⟩:=h
 obtain rfl:=P_ (hg.symm.trans hg')
 obtain rfl:=P_ (hty.symm.trans ht')
 have hc:∃u v,cs.toList=[.iface u v]:=by
  cases fuel with
  |zero=>cases hd
  |succ fuel=>
   unfold DataW.trod at hd
   rw[ht]at hd
   simp only[]at hd
   split at hd<;>try(rename_i h1 _;cases h1)
   all_goals try(cases hd;done)
   all_goals first
    |(rename_i u v _;exact⟨u,v,by assumption⟩)
    |(simp_all;done)
 obtain⟨u,v,hc⟩:=hc
 refine⟨u,v,?_⟩
 unfold World.var? at hvar
 rw[hg]at hvar
 simp only[PX]at hvar
 split at hvar
 ·rename_i cs' _ _ hw
  cases hvar
  have:cs[0]?=some (.iface u v):=by rw[<-Pm,hc];rfl
  simpa[World.cell?,hw]using this
 ·cases hvar
theorem Bq{W:World}(h:laidMetH prog L6 W):GOk (fx W) W:=by
 rw[MakeChecks.laidMetH_plain _ _ _ (by kernel_rfl)]at h
 have h1:Lib.VarReads prog W "unicode/utf8.acceptRanges" Lib.acceptData:=GP▸Lib.laidMet.reads h (.tail _ (.tail _ (.tail _ (.head _))))
 have h2:Lib.VarReads prog W "unicode/utf8.first" Lib.firstData:=J_▸Lib.laidMet.reads h (.tail _ (.tail _ (.tail _ (.tail _ (.tail _ (.tail _ (.tail _ (.head _))))))))
 have h3:Lib.VarReads prog W "internal/strconv.uint64pow10" (Lib.tabData .u64 Lib.pow10Tab):=NK▸Lib.laidMet.reads h (.tail _ (.tail _ (.head _)))
 have h4:=js (P:=prog) (g:=3) (t:=71) (by kernel_rfl) (by kernel_rfl) Tryz.underlying71 ⟨_,rfl⟩ (Lib.laidMet.reads h (.tail _ (.tail _ (.tail _ (.tail _ (.head _))))))
 have h5:=js (P:=prog) (g:=2) (t:=71) (by kernel_rfl) (by kernel_rfl) Tryz.underlying71 ⟨_,rfl⟩ (Lib.laidMet.reads h (.tail _ (.tail _ (.tail _ (.tail _ (.tail _ (.head _)))))))
 have h6:Lib.TabIs prog W "internal/strconv.uint64pow10" .u64 Lib.pow10Tab:=by
  obtain⟨g,t,cs,fuel,p,hg,ht,_,_⟩:=id h3
  exact mL (g:=4) (t:=161) (e:=104) (n:=20) (by kernel_rfl) (by kernel_rfl) (by kernel_rfl) (by kernel_rfl) (by kernel_rfl) (by kernel_rfl) h3
 have h7:W.cell? ⟨7,15,none⟩=some (.int .u8 4):=by
  have h9:Lib.VarReads prog W "math/bits.deBruijn64tab" (Lib.tabData .u8 F0):=GX▸Lib.laidMet.reads h (.tail _ (.head _))
  have h10:=mL (P:=prog) (g:=7) (t:=176) (e:=5) (n:=64) (by kernel_rfl) (by kernel_rfl) (by kernel_rfl) (by kernel_rfl) (by kernel_rfl) (by kernel_rfl) h9
  have:=h10.cell (g:=7) (by kernel_rfl) 15 (by decide)
  exact this
 refine⟨Jg h7 (utf8Tabs_of_readsT KR J8 h2 h1) h6,λb hb=> ?_,λp hp=> ?_⟩
 ·have hb:b∈[2,3]:=hb
  simp only[Oz,QX,or_false]at hb
  rcases hb with rfl|rfl
  ·exact h5
  ·exact h4
 ·have hp:p∈[(4,20)]:=hp
  simp only[Oz,QX,or_false]at hp
  subst hp
  have hn:prog.globalNamed "internal/strconv.uint64pow10" =some 4:=by kernel_rfl
  refine⟨⟨_,h6.cell hn 0 (by rw[gj];decide)⟩,?_⟩
  unfold Lib.TabIs World.var? at h6
  rw[hn]at h6
  simp only[PX]at h6
  split at h6
  ·rename_i cs t fr hw
   cases h6
   exact⟨_,_,_,hw,by simp[gj]⟩
  ·cases h6
mutual
theorem mW{H:Type}:∀d:DataW H,Go.Tx.cL d<=Rows.uptoBulk d
 | .lit l=>by cases l<;>simp[Go.Tx.cL,Rows.uptoBulk]
 | .nil=>by simp[Go.Tx.cL,Rows.uptoBulk]
 | .ptr d=>by have:=mW d;simp only[Go.Tx.cL,Rows.uptoBulk];omega
 | .slice es sp=>by have h1:=dbulkL_le es;have h2:=dbulkL_le sp;simp only[Go.Tx.cL,Rows.uptoBulk];omega
 | .agg ps=>by have:=dbulkL_le ps;simp only[Go.Tx.cL,Rows.uptoBulk];omega
 | .iface _ d=>by have:=mW d;simp only[Go.Tx.cL,Rows.uptoBulk];omega
 | .map es=>by simp[Go.Tx.cL,Rows.uptoBulk]
 | .held h=>by simp[Go.Tx.cL,Rows.uptoBulk]
theorem dbulkL_le{H:Type}:∀l:List (DataW H),Go.Tx.dbulkL l<=Rows.uptoBulkAll l
 |[]=>by simp[Go.Tx.dbulkL,Rows.uptoBulkAll]
 |d::r=>by have h1:=mW d;have h2:=dbulkL_le r;simp only[Go.Tx.dbulkL,Rows.uptoBulkAll];omega
end
end Go.Proofs.YtpndmanbfleadaaGreatDoor
end
section
namespace Go.Tx
open Go.Awp
variable [Inhabited GMem]
section
variable {V:jj}
theorem Gq{X:Xc V}{sig:Sig V}(hsh:X.sh.rcut=sig.rcut){fid:FuncId}{fn:Func}{c:Code}(hf:X.P.funcs[fid]?=some fn)(hb:fn.body=some c)(hn:fn.ntmps=X.n)(hrs:fn.results.toList=sig.rvars)
 (hname:(fn.name != "runtime.NumGoroutine")=true)(hm:X.P.follows .mixedOrders=true)(hcall:aj X.P X.call)(hdr:fA (sig.rcut.objs.map (·.1))=true)
 (hl:∀C:Ctx,C.P=X.P->C.N=X.n/\Fx C X.pre->LOk C X c){xs:List (TV V.N)}(hlen:QR xs.length X.n=true){r:HL V.N sig.rcut.tys}
 (h:ex X c _ {tmps:=yL 0 xs,own:=[]} (λS=>xh V sig.rcut S) (λ_ _=>none) (λr=>some (hsh▸r))=some r):
 ∀x,lS X.P sig r=some x->c8 X.P fid (encL V (λ_=>0) xs) [] (ao V (bi V sig.rcut r).len x) (br (bi V sig.rcut r).len (gY sig r)):=by
 obtain⟨params,objs,rcut,rvars,keep⟩:=sig
 simp only at hsh
 subst hsh
 intro x hx
 have hargs:xs.length<=X.n:=Qe hlen
 refine qr hf hb hname (by rw[aK,hn];exact hargs) λC hP hN=> ?_
 have hent:Ent ⟨jE 0 (encL V (λ_=>0) xs),qZ []⟩ (az V {tmps:=yL 0 xs,own:=[]}):=by
  refine Ent.le (λt y hy=>⟨y,?_,H.le.refl _⟩) λn o ho=> ?_
  ·rw[ko];exact hy
  ·rw[aH]at ho
   simp[TS.own?,gt]at ho
 have hend:∀e σ,(e= .normal\/e= .ret)->Ent σ (az V (bi V X.sh.rcut r))->
  Ae X.P fn.results.toList (ao V (bi V X.sh.rcut r).len x) (br (bi V X.sh.rcut r).len (gY ⟨params,objs,X.sh.rcut,rvars,keep⟩ r)) e σ:=by
  intro e σ he hσ
  unfold lS at hx
  rw[OB]at hx
  obtain⟨vs,hvs,hone⟩:=hx
  obtain⟨hs,g1,g2,g3⟩:=lR hvs
  have hh:∃y,IB X.P (az V (bi V X.sh.rcut r)) fn.results.toList=some y/\H.le y (ao V (bi V X.sh.rcut r).len x):=by
   rw[hrs]
   unfold IB
   rw[g1]
   cases vs with
   |nil=>
    have:hs=[]:=OL (by simpa using g2)
    subst this;subst hone
    exact⟨.tup [],rfl,by simp only[Kx,ao,encL];exact H.le.refl _⟩
   |cons a l=>
    cases l with
    |nil=>
     cases hs with
     |nil=>simp at g2
     |cons y l'=>
      have:l'=[]:=OL (by simpa using g2)
      subst this;subst hone
      obtain⟨z,z1,z2⟩:=g3 0 a rfl
      simp at z1;subst z1
      exact⟨y,rfl,z2⟩
    |cons b l=>
     cases hs with
     |nil=>simp at g2
     |cons y l'=>
      cases l' with
      |nil=>simp at g2
      |cons y2 l2=>
       subst hone
       refine⟨.tup (y::y2::l2),rfl,?_⟩
       simp only[Kx,ao]
       refine xW (by rw[aK];exact g2) λi w hw=> ?_
       rw[encL_map,Oq,OB]at hw
       obtain⟨u,hu,rfl⟩:=hw
       exact g3 i u hu
  obtain⟨y,hy1,hy2⟩:=hh
  refine⟨he,_,hσ,y,hy1,hy2,λn o ho=> ?_⟩
  obtain⟨o',h1,h2⟩:=dE ho
  have h1:(n,o')∈(bi V X.sh.rcut r).own:=(Qr.1 h1).1
  have:=jS (nt X.sh.rcut _ hdr) h1
  rw[aH]
  unfold TS.own?
  unfold bi at *
  rw[this]
  exact h2
 refine .ent hent (mX hP ⟨by rw[hN.1,hn],λp hp=>(by rw[hN.2]at hp;cases hp)⟩ hm hcall c _ _ _ _ _ r _ (hl C hP ⟨by rw[hN.1,hn],λp hp=>(by rw[hN.2]at hp;cases hp)⟩) h ⟨λS σ hk he=> ?_,λid S σ _ hk he=>(by cases hk),λl S σ hk he=>(by cases hk),λw σ hk he=> ?_⟩)
 ·exact hend _ σ (.inl rfl) (Ent.trans he (db hk))
 ·have:w=r:=by simpa using hk
  subst this
  exact hend _ σ (.inr rfl) he
theorem Ec{P:Program}{f:FuncId}{sz:Nat}{rows:List (List D)}{r:H}{own':List (Nat×Own)}(h1:rows≠[]->c8 P f [.d (.sl sz rows)] [] r own')
 (h2:rows=[]->c8 P f [.d (.v (.slice none 0 0))] [] r own')(h3:rows=[]->∀a cap,c8 P f [.d (.v (.slice (some a) 0 cap))] [] r own'):c8 P f [.d (.sl sz rows)] [] r own':=by
 by_cases h0:rows=[]
 ·refine⟨(h2 h0).1,λE M w vs hgm hm ho hvs=> ?_⟩
  obtain⟨hsz,hv⟩:=hvs
  obtain⟨v,hv0⟩:∃v,vs[0]?=some v:=⟨vs[0]'(by simp at hsz;omega),OU _⟩
  have hr:=hv 0 v _ hv0 rfl
  have go:∀u:Value,v=u->fK E M vs [.d (.v u)]:=by
   rintro u rfl
   refine⟨hsz,λi c x hc hx=> ?_⟩
   cases i with
   |zero=>simp at hx;subst hx;rw[hv0]at hc;cases hc;exact .d (.v _)
   |succ i=>simp at hx
  subst h0
  cases hr with
  |d hd=>
   generalize hq:D.sl sz []=q at hd
   cases hd with
   |slnil=>exact(h2 rfl).2 E M w vs hgm hm ho (go _ rfl)
   |slmt a cap=>exact(h3 rfl a cap).2 E M w vs hgm hm ho (go _ rfl)
   |sl b off len cap sz' rows' c hlen hcap=>
    simp only[D.sl.injEq]at hq
    obtain⟨_,rfl⟩:=hq
    simp at hlen
    subst hlen
    exact(h3 rfl _ cap).2 E M w vs hgm hm ho (go _ rfl)
   |_=>cases hq
 ·exact h1 h0
end
end Go.Tx
end
section
namespace Go.Proofs.YtpndmanbfleadaaGreatDoor.Ty
open Go.Awp
theorem mixed:Tryz.prog.follows .mixedOrders=true:=by kernel_rfl
end Go.Proofs.YtpndmanbfleadaaGreatDoor.Ty
end
section
namespace Go.Proofs.YtpndmanbfleadaaGreatDoor
open Go.Awp Go.Tx
structure Tag where
 kind:Int
 n:Int
 text:ByteArray
 names:(List ByteArray)
 parts:(List Tag)
mutual
noncomputable def Tag.enc:Tag->List D
 |⟨a0,a1,a2,a3,a4⟩=>[.v (.int .i64 a0)]++[.v (.int .i64 a1)]++[.v (.string a2)]++[.sl 1 (Ry (λy=>[.v (.string y)]) a3)]++[.sl 5 (Tag.encL a4)]
noncomputable def Tag.encL:List Tag->List (List D)
 |[]=>[]
 |x::r=>Tag.enc x::Tag.encL r
end
theorem Tag.encL_map:∀l:List Tag,Tag.encL l=l.map Tag.enc
 |[]=>by simp[Tag.encL]
 |x::r=>by simp[Tag.encL,Tag.encL_map r]
mutual
noncomputable def Tag.encd:Tag->List DD
 |⟨a0,a1,a2,a3,a4⟩=>[.d (.v (.int .i64 a0))]++[.d (.v (.int .i64 a1))]++[.d (.v (.string a2))]++[.sl 9 1 (Ry (λy=>[.d (.v (.string y))]) a3)]++[.sl 25 5 (Tag.encdL a4)]
noncomputable def Tag.encdL:List Tag->List (List DD)
 |[]=>[]
 |x::r=>Tag.encd x::Tag.encdL r
end
theorem Tag.encdL_map:∀l:List Tag,Tag.encdL l=l.map Tag.encd
 |[]=>by simp[Tag.encdL]
 |x::r=>by simp[Tag.encdL,Tag.encdL_map r]
mutual
theorem Tag.encd_toL:∀x:Tag,DD.toL x.encd=some x.enc
 |⟨a0,a1,a2,a3,a4⟩=>by rw[Tag.encd,Tag.enc];exact(DD.toL_app (DD.toL_app (DD.toL_app (DD.toL_app (Ab _) (Ab _)) (Ab _)) (Np (Nr (λy=>(Ab _)) a3))) (Np (Tag.encdL_toR a4)))
theorem Tag.encdL_toR:∀l:List Tag,DD.toR (Tag.encdL l)=some (Tag.encL l)
 |[]=>by rw[Tag.encdL,Tag.encL];rfl
 |x::r=>by rw[Tag.encdL,Tag.encL];exact Nq (Tag.encd_toL x) (Tag.encdL_toR r)
end
structure cH where
 depth:Int
 pieces:Int
 bytes:Int
 deriving DecidableEq
noncomputable def cH.enc(x:cH):List D:=[.v (.int .i64 x.depth)]++[.v (.int .i64 x.pieces)]++[.v (.int .i64 x.bytes)]
noncomputable def cH.encd(x:cH):List DD:=[.d (.v (.int .i64 x.depth))]++[.d (.v (.int .i64 x.pieces))]++[.d (.v (.int .i64 x.bytes))]
theorem cH.encd_toL(x:cH):DD.toL x.encd=some x.enc:=(DD.toL_app (DD.toL_app (Ab _) (Ab _)) (Ab _))
structure aq where
 s:ByteArray
 at0:Int
noncomputable def aq.enc(x:aq):List D:=[.v (.string x.s)]++[.v (.int .i64 x.at0)]
noncomputable def aq.encd(x:aq):List DD:=[.d (.v (.string x.s))]++[.d (.v (.int .i64 x.at0))]
theorem aq.encd_toL(x:aq):DD.toL x.encd=some x.enc:=(DD.toL_app (Ab _) (Ab _))
structure bm where
 lo:Int
 hi:Int
 deriving DecidableEq
noncomputable def bm.enc(x:bm):List D:=[.v (.int .u8 x.lo)]++[.v (.int .u8 x.hi)]
noncomputable def bm.encd(x:bm):List DD:=[.d (.v (.int .u8 x.lo))]++[.d (.v (.int .u8 x.hi))]
theorem bm.encd_toL(x:bm):DD.toL x.encd=some x.enc:=(DD.toL_app (Ab _) (Ab _))
structure bo where
 s:ByteArray
noncomputable def bo.enc(x:bo):List D:=[.v (.string x.s)]
noncomputable def bo.encd(x:bo):List DD:=[.d (.v (.string x.s))]
theorem bo.encd_toL(x:bo):DD.toL x.encd=some x.enc:=(Ab _)
inductive SN where
 |tagT
 |sizeT
 |readerT
 |acceptRangeT
 |errorStringT
 deriving DecidableEq
abbrev NN:SN->Type
 | .tagT=>Tag
 | .sizeT=>cH
 | .readerT=>aq
 | .acceptRangeT=>bm
 | .errorStringT=>bo
noncomputable def szN:SN->Nat
 | .tagT=>5
 | .sizeT=>3
 | .readerT=>2
 | .acceptRangeT=>2
 | .errorStringT=>1
noncomputable def Ns:SN->List (Ty SN)
 | .tagT=>[(.int .i64),(.int .i64), .str,(.sl .str),(.sl (.st .tagT))]
 | .sizeT=>[(.int .i64),(.int .i64),(.int .i64)]
 | .readerT=>[.str,(.int .i64)]
 | .acceptRangeT=>[(.int .u8),(.int .u8)]
 | .errorStringT=>[.str]
noncomputable def cK:(i:SN)->NN i->List (cj NN)
 | .tagT,x=>[⟨(.int .i64),x.kind⟩,⟨(.int .i64),x.n⟩,⟨.str,x.text⟩,⟨(.sl .str),x.names⟩,⟨(.sl (.st .tagT)),x.parts⟩]
 | .sizeT,x=>[⟨(.int .i64),x.depth⟩,⟨(.int .i64),x.pieces⟩,⟨(.int .i64),x.bytes⟩]
 | .readerT,x=>[⟨.str,x.s⟩,⟨(.int .i64),x.at0⟩]
 | .acceptRangeT,x=>[⟨(.int .u8),x.lo⟩,⟨(.int .u8),x.hi⟩]
 | .errorStringT,x=>[⟨.str,x.s⟩]
noncomputable def A9:(i:SN)->NN i->List D
 | .tagT,x=>Tag.enc x
 | .sizeT,x=>cH.enc x
 | .readerT,x=>aq.enc x
 | .acceptRangeT,x=>bm.enc x
 | .errorStringT,x=>bo.enc x
noncomputable def ofN:(i:SN)->List (cj NN)->Option (NN i)
 | .tagT,[⟨(.int .i64),a0⟩,⟨(.int .i64),a1⟩,⟨.str,a2⟩,⟨(.sl .str),a3⟩,⟨(.sl (.st .tagT)),a4⟩]=>some ⟨a0,a1,a2,a3,a4⟩
 | .sizeT,[⟨(.int .i64),a0⟩,⟨(.int .i64),a1⟩,⟨(.int .i64),a2⟩]=>some ⟨a0,a1,a2⟩
 | .readerT,[⟨.str,a0⟩,⟨(.int .i64),a1⟩]=>some ⟨a0,a1⟩
 | .acceptRangeT,[⟨(.int .u8),a0⟩,⟨(.int .u8),a1⟩]=>some ⟨a0,a1⟩
 | .errorStringT,[⟨.str,a0⟩]=>some ⟨a0⟩
 |_,_=>none
noncomputable def tyN:TypeId->Option (Ty SN)
 |2=>some (.int .i64)
 |3=>some (.int .i64)
 |4=>some .bool
 |5=>some (.int .u8)
 |6=>some (.int .u8)
 |9=>some .str
 |10=>some .str
 |11=>some .str
 |12=>some (.int .u64)
 |21=>some (.int .i32)
 |22=>some (.sl .str)
 |23=>some (.sl (.st .tagT))
 |25=>some (.st .tagT)
 |29=>some (.int .i64)
 |57=>some (.st .sizeT)
 |65=>some (.st .readerT)
 |83=>some (.int .u64)
 |94=>some (.int .i64)
 |102=>some (.int .u32)
 |104=>some (.int .u64)
 |106=>some (.sl (.int .u8))
 |114=>some (.ar 256 (.int .u8))
 |116=>some (.st .acceptRangeT)
 |117=>some (.ar 16 (.st .acceptRangeT))
 |120=>some (.int .i64)
 |128=>some (.int .u64)
 |146=>some (.ar 24 (.int .u8))
 |158=>some (.st .errorStringT)
 |161=>some (.ar 20 (.int .u64))
 |162=>some (.ar 65 (.int .u8))
 |175=>some (.ar 32 (.int .u8))
 |176=>some (.ar 64 (.int .u8))
 |183=>some (.ar 3 (.int .i32))
 |184=>some (.ar 3 (.int .i32))
 |192=>some (.int .u8)
 |193=>some (.int .u8)
 |195=>some (.int .i32)
 |196=>some (.int .i32)
 |_=>none
theorem yJ(i:SN)(x:NN i):A9 i x=(cK i x).map λl=>aL szN A9 l.t l.x:=by
 cases i<;>cases x<;>first|(simp[A9,cK,aL,aV,tsz,szN,Tag.enc,cH.enc,aq.enc,bm.enc,bo.enc,Tag.encL_map];done)|(rename_i q;cases q;simp[A9,cK,aL,aV,tsz,szN,Tag.enc,cH.enc,aq.enc,bm.enc,bo.enc,Tag.encL_map])
theorem Cu(i:SN)(ls:List (cj NN))(x:NN i)(h:ofN i ls=some x):cK i x=ls:=by
 unfold ofN at h
 split at h<;>first
  |(cases h;rfl)
  |(cases h;done)
theorem yS(i:SN)(x:NN i):(cK i x).length=szN i:=by cases i<;>rfl
theorem z6(i:SN)(x:NN i):(cK i x).map (λl=>l.t)=Ns i:=by cases i<;>rfl
theorem zf(i:SN)(x:NN i):∀l∈cK i x,l.t.cell=true:=by
 have h:(cK i x).all (λl=>l.t.cell)=true:=by cases i<;>rfl
 exact OD.1 h
noncomputable def yK:(i:SN)->NN i->List DD
 | .tagT,x=>Tag.encd x
 | .sizeT,x=>cH.encd x
 | .readerT,x=>aq.encd x
 | .acceptRangeT,x=>bm.encd x
 | .errorStringT,x=>bo.encd x
noncomputable def Ka:SN->Bool
 | .tagT=>false
 | .sizeT=>true
 | .readerT=>true
 | .acceptRangeT=>true
 | .errorStringT=>true
noncomputable def Ld:Ty SN->Nat
 | .str=>9
 |(.st .tagT)=>25
 |(.int .u8)=>5
 |_=>0
theorem vC(i:SN)(x:NN i):yK i x=(cK i x).map λl=>fi szN A9 Ld yK l.t l.x:=by
 cases i<;>cases x<;>first|(simp[yK,cK,fi,bT,aL,aV,Ld,tsz,szN,Tag.encd,cH.encd,aq.encd,bm.encd,bo.encd,Tag.encdL_map];done)|(rename_i q;cases q;simp[yK,cK,fi,bT,aL,aV,Ld,tsz,szN,Tag.encd,cH.encd,aq.encd,bm.encd,bo.encd,Tag.encdL_map])
theorem Ba(i:SN)(x:NN i):DD.toL (yK i x)=some (A9 i x):=by
 cases i
 ·exact Tag.encd_toL x
 ·exact cH.encd_toL x
 ·exact aq.encd_toL x
 ·exact bm.encd_toL x
 ·exact bo.encd_toL x
theorem vH(i:SN)(x:NN i)(h:Ka i=true):∀l∈cK i x,l.t.isSl=false:=by
 have h1:(cK i x).all (λl=> !l.t.isSl)=true:=by
  revert h
  cases i<;>first
   |(intro h;cases h;done)
   |(intro _;rfl)
 intro l hl
 simpa using OD.1 h1 l hl
noncomputable def vw:jj where
 ι:=SN
 dec:=inferInstance
 N:=NN
 sz:=szN
 tys:=Ns
 cells:=cK
 ofCells:=ofN
 enc:=A9
 ty:=tyN
 enc_cells:=yJ
 of_cells:=Cu
 len_cells:=yS
 one_cells:=zf
 tys_cells:=z6
 tid:=Ld
 encd:=yK
 encd_cells:=vC
 encd_toL:=Ba
 flat:=Ka
 flat_cells:=vH
end Go.Proofs.YtpndmanbfleadaaGreatDoor
end
section
namespace Go.Proofs.YtpndmanbfleadaaGreatDoor
open Go.Awp Go.Tx
open Go.Proofs.Tryz (prog)
set_option maxRecDepth 100000
def lp(P:Program)(t:TypeId):Array Field:=match P.underlying t with
 |some (.struct fs)=>fs
 |_=> #[]
theorem tf2:bV vw prog 2 (.int .i64):=(by kernel_rfl:prog.underlying 2=some (.int .i64))
theorem tf3:bV vw prog 3 (.int .i64):=(by kernel_rfl:prog.underlying 3=some (.int .i64))
theorem tf4:bV vw prog 4 .bool:=(by kernel_rfl:prog.underlying 4=some .bool)
theorem tf5:bV vw prog 5 (.int .u8):=(by kernel_rfl:prog.underlying 5=some (.int .u8))
theorem tf6:bV vw prog 6 (.int .u8):=(by kernel_rfl:prog.underlying 6=some (.int .u8))
theorem tf9:bV vw prog 9 .str:=(by kernel_rfl:prog.underlying 9=some .string)
theorem N8:bV vw prog 10 .str:=(by kernel_rfl:prog.underlying 10=some .string)
theorem N9:bV vw prog 11 .str:=(by kernel_rfl:prog.underlying 11=some .string)
theorem N_:bV vw prog 12 (.int .u64):=(by kernel_rfl:prog.underlying 12=some (.int .u64))
theorem Oa:bV vw prog 21 (.int .i32):=(by kernel_rfl:prog.underlying 21=some (.int .i32))
theorem Ob:bV vw prog 22 (.sl .str):=⟨9,by kernel_rfl,by kernel_rfl,by kernel_rfl,by kernel_rfl⟩
theorem Oc:bV vw prog 23 (.sl (.st .tagT)):=⟨25,by kernel_rfl,by kernel_rfl,by kernel_rfl,by kernel_rfl⟩
theorem Od:bV vw prog 25 (.st .tagT):=⟨lp prog 25,by kernel_rfl,by kernel_rfl,by kernel_rfl⟩
theorem Oe:bV vw prog 29 (.int .i64):=(by kernel_rfl:prog.underlying 29=some (.int .i64))
theorem Of:bV vw prog 57 (.st .sizeT):=⟨lp prog 57,by kernel_rfl,by kernel_rfl,by kernel_rfl⟩
theorem Og:bV vw prog 65 (.st .readerT):=⟨lp prog 65,by kernel_rfl,by kernel_rfl,by kernel_rfl⟩
theorem Oh:bV vw prog 83 (.int .u64):=(by kernel_rfl:prog.underlying 83=some (.int .u64))
theorem Oi:bV vw prog 94 (.int .i64):=(by kernel_rfl:prog.underlying 94=some (.int .i64))
theorem MT:bV vw prog 102 (.int .u32):=(by kernel_rfl:prog.underlying 102=some (.int .u32))
theorem MU:bV vw prog 104 (.int .u64):=(by kernel_rfl:prog.underlying 104=some (.int .u64))
theorem MV:bV vw prog 106 (.sl (.int .u8)):=⟨5,by kernel_rfl,by kernel_rfl,by kernel_rfl,by kernel_rfl⟩
theorem MW:bV vw prog 116 (.st .acceptRangeT):=⟨lp prog 116,by kernel_rfl,by kernel_rfl,by kernel_rfl⟩
theorem MX:bV vw prog 120 (.int .i64):=(by kernel_rfl:prog.underlying 120=some (.int .i64))
theorem MY:bV vw prog 128 (.int .u64):=(by kernel_rfl:prog.underlying 128=some (.int .u64))
theorem MZ:bV vw prog 158 (.st .errorStringT):=⟨lp prog 158,by kernel_rfl,by kernel_rfl,by kernel_rfl⟩
theorem M1:bV vw prog 192 (.int .u8):=(by kernel_rfl:prog.underlying 192=some (.int .u8))
theorem M3:bV vw prog 193 (.int .u8):=(by kernel_rfl:prog.underlying 193=some (.int .u8))
theorem M4:bV vw prog 195 (.int .i32):=(by kernel_rfl:prog.underlying 195=some (.int .i32))
theorem M5:bV vw prog 196 (.int .i32):=(by kernel_rfl:prog.underlying 196=some (.int .i32))
theorem bz{ls:List (cj NN)}{t:Ty SN}{ts:List (Ty SN)}(h:ls.map (·.t)=t::ts):∃(x:den NN t) (ls':List (cj NN)),ls=⟨t,x⟩::ls'/\ls'.map (·.t)=ts:=by
 match ls,h with
 |⟨t',x⟩::r,h=>
  simp only[Ow,PF]at h
  obtain⟨h1,h2⟩:=h
  subst h1
  exact⟨x,r,rfl,h2⟩
theorem fW{ls:List (cj NN)}(h:ls.map (·.t)=[]):ls=[]:=by simpa using h
instance:OkI vw:=⟨λi=>match i with
 |_=>true⟩
theorem facts:DL vw prog where
 ty:=λt τ h hn=>by
  have h:tyN t=some τ:=h
  unfold tyN at h
  split at h
  ·cases h;exact tf2
  ·cases h;exact tf3
  ·cases h;exact tf4
  ·cases h;exact tf5
  ·cases h;exact tf6
  ·cases h;exact tf9
  ·cases h;exact N8
  ·cases h;exact N9
  ·cases h;exact N_
  ·cases h;exact Oa
  ·cases h;exact Ob
  ·cases h;exact Oc
  ·cases h;exact Od
  ·cases h;exact Oe
  ·cases h;exact Of
  ·cases h;exact Og
  ·cases h;exact Oh
  ·cases h;exact Oi
  ·cases h;exact MT
  ·cases h;exact MU
  ·cases h;exact MV
  ·cases h;cases hn
  ·cases h;exact MW
  ·cases h;cases hn
  ·cases h;exact MX
  ·cases h;exact MY
  ·cases h;cases hn
  ·cases h;exact MZ
  ·cases h;cases hn
  ·cases h;cases hn
  ·cases h;cases hn
  ·cases h;cases hn
  ·cases h;cases hn
  ·cases h;cases hn
  ·cases h;exact M1
  ·cases h;exact M3
  ·cases h;exact M4
  ·cases h;exact M5
  ·cases h
 nof:=λi=>by cases i<;>rfl
 tys:=λi x=>by cases i<;>rfl
 of:=λi ls h=>by
  cases i with
  |tagT=>
   obtain⟨a0,l0,rfl,h0⟩:=bz h
   obtain⟨a1,l1,rfl,h1⟩:=bz h0
   obtain⟨a2,l2,rfl,h2⟩:=bz h1
   obtain⟨a3,l3,rfl,h3⟩:=bz h2
   obtain⟨a4,l4,rfl,h4⟩:=bz h3
   obtain rfl:=fW h4
   exact⟨_,rfl⟩
  |sizeT=>
   obtain⟨a0,l0,rfl,h0⟩:=bz h
   obtain⟨a1,l1,rfl,h1⟩:=bz h0
   obtain⟨a2,l2,rfl,h2⟩:=bz h1
   obtain rfl:=fW h2
   exact⟨_,rfl⟩
  |readerT=>
   obtain⟨a0,l0,rfl,h0⟩:=bz h
   obtain⟨a1,l1,rfl,h1⟩:=bz h0
   obtain rfl:=fW h1
   exact⟨_,rfl⟩
  |acceptRangeT=>
   obtain⟨a0,l0,rfl,h0⟩:=bz h
   obtain⟨a1,l1,rfl,h1⟩:=bz h0
   obtain rfl:=fW h1
   exact⟨_,rfl⟩
  |errorStringT=>
   obtain⟨a0,l0,rfl,h0⟩:=bz h
   obtain rfl:=fW h0
   exact⟨_,rfl⟩
end Go.Proofs.YtpndmanbfleadaaGreatDoor
end
section
namespace Go.Tx
open Go.Awp
variable [Inhabited GMem]
theorem c8.pure{P:Program}{f:FuncId}{args:List H}{r:H}(hc:dS P f=true)
 (h:∀(E:Env) (M:Mem) (w:World) (vs:Array Value),GOk M w->(∀b o v,M b o=some v->w.cell? ⟨b,o,none⟩=some v)->fK E M vs args->
   Calls P f vs w λe w'=>∃v,e= .returned v/\aP E M v r/\Go.RowKit.Below w.heap.size w w'):c8 P f args [] r []:=by
 refine⟨hc,λE M w vs hgm hm _ hvs=>(h E M w vs hgm hm hvs).mono ?_⟩
 rintro e w' ⟨v,rfl,hr,hb⟩
 refine⟨v,E,M,rfl,{rep:=hr,owns:=⟨λn o hn=>by simp[gt]at hn,λn m o o' b _ hn=>by simp[gt]at hn⟩,mle:=Mem.le_refl _,mem:=λb o v hv=> ?_,mnew:=λb o v hv=> .inl hv,home:=λn o b hn=>by simp[gt]at hn,frame:=λk hk _=>hb.block k hk,grows:=hb.size,os:=hb.os,tape:=hb.tape,output:=hb.output,env:=λ_ _=>rfl}⟩
 have h1:=hm b o v hv
 have hlt:=World.block_lt_of_cell? w (a:=⟨b,o,none⟩) h1
 rw[<-h1]
 exact World.cell?_of_block (a:=⟨b,o,none⟩) (hb.block b hlt)
theorem dT{E:Env}{M:Mem}{vs:Array Value}{a:H}(h:fK E M vs [a]):∃v,vs= #[v]/\aP E M v a:=by
 obtain⟨h1,h2⟩:=h
 match vs,h1 with
 |⟨[v]⟩,_=>exact⟨v,rfl,h2 0 v a rfl rfl⟩
theorem tL{E:Env}{M:Mem}{vs:Array Value}{a b:H}(h:fK E M vs [a,b]):∃v u,vs= #[v,u]/\aP E M v a/\aP E M u b:=by
 obtain⟨h1,h2⟩:=h
 match vs,h1 with
 |⟨[v,u]⟩,_=>exact⟨v,u,rfl,h2 0 v a rfl rfl,h2 1 u b rfl rfl⟩
theorem Fg{E:Env}{M:Mem}{v:Value}{xs:List ByteArray}(h:aP E M v (.d (.sl 1 (xs.map λy=>[D.v (.string y)])))):
 (xs=[]/\∃a c,v= .slice a 0 c)\/∃b off c,xs≠[]/\v= .slice (some ⟨b,off,none⟩) xs.length c/\xs.length<=c/\∀(j:Nat) x,xs[j]?=some x->M b (off+j)=some (.string x):=by
 cases h with
 |d h=>
  generalize hr:(xs.map λy=>[D.v (.string y)])=rows at h
  cases h with
  |slnil=>exact .inl ⟨by simpa using hr,none,0,rfl⟩
  |slmt a cap=>exact .inl ⟨by simpa using hr,some a,cap,rfl⟩
  |sl b off len cap _ _ c hlen hcap hsz hm hh=>
   subst hr
   rw[On]at hlen
   subst hlen
   by_cases he:xs=[]
   ·subst he;exact .inl ⟨rfl,_,cap,rfl⟩
   ·refine .inr ⟨b,off,cap,he,rfl,hcap,λj x hj=> ?_⟩
    have hlt:j<xs.length:=(Ol.1 hj).1
    have h1:=hm j (by omega)
    have h2:=hh j 0 [D.v (.string x)] (.v (.string x)) (by simp[hj]) rfl
    simp only[Qn,Pd]at h2
    rw[h1]
    generalize hq:c j=q at h2
    cases h2
    rfl
theorem c8.copyCheck{P:Program}{f:FuncId}{T:TypeId}{rest:List D}(hc:dS P f=true)
 (fresh:∀(b:Nat) (w:World),w.cell? ⟨b,0,none⟩=some (.pointer none)->w.shape? b=some (T,rest.length+2)->w.frozen? ⟨b,0,none⟩=false->
   Calls P f #[.pointer (some ⟨b,0,none⟩)] w λe w'=>e= .returned (.tuple #[])/\w'=w.setCell ⟨b,0,none⟩ (.pointer (some ⟨b,0,none⟩)))
 (used:∀(b:Nat) (w:World),w.cell? ⟨b,0,none⟩=some (.pointer (some ⟨b,0,none⟩))->
   Calls P f #[.pointer (some ⟨b,0,none⟩)] w λe w'=>e= .returned (.tuple #[])/\w'=w)
 {g m c l:Nat}{bl:Bool}{e sz:Nat}{rows:List (List D)}(hgm:g≠m)(hgc:g≠c)(hcg:c<given):
 c8 P f [.bp g 0] [(g, .box (some T) (.np g bl:: .vh m l::rest.map H.d)),(m, .vec e sz rows)] (.tup []) [(g, .box (some T) (.np g true:: .vh c l::rest.map H.d)),(c, .vec e sz rows)]:=by
 refine⟨hc,λE M w vs _ hm how hvs=> ?_⟩
 obtain⟨v,rfl,hv⟩:=dT hvs
 have g1:gt [(g,Own.box (some T) (H.np g bl::H.vh m l::rest.map H.d)),(m,Own.vec e sz rows)] g=some (.box (some T) (.np g bl:: .vh m l::rest.map H.d)):=by simp[gt]
 have g2:gt [(g,Own.box (some T) (H.np g bl::H.vh m l::rest.map H.d)),(m,Own.vec e sz rows)] m=some (.vec e sz rows):=by simp[gt,hgm]
 have o1:=how.ok g _ g1
 have o2:=how.ok m _ g2
 obtain⟨b,cs,ty,k1,k2,k3,k4,k5,k6⟩:=o1
 have hty:=k6 T rfl
 subst hty
 cases hv with
 |bp n off b' hE=>
 rw[hE]at k1;cases k1
 obtain⟨p,q,rs,rfl⟩:∃p q rs,cs=⟨p::q::rs⟩:=by
  match cs,k3 with
  |⟨p::q::rs⟩,_=>exact⟨p,q,rs,rfl⟩
 have hrs:rs.length=rest.length:=by simpa using k3
 have hp:=k4 0 p (.np g bl) rfl rfl
 have hq:=k4 1 q (.vh m l) rfl rfl
 have hcell:∀u,w.cell? ⟨b,0,none⟩=some u↔p=u:=λu=>by simp[World.cell?,k2]
 have hsh:w.shape? b=some (ty,rest.length+2):=by simp[World.shape?,k2,hrs]
 have hfz:w.frozen? ⟨b,0,none⟩=false:=by simp[World.frozen?,k2]
 have hblt:b<w.heap.size:=(OC.1 k2).1
 have hapart:∀b',ak (E m)=some b'->b'≠b:=λb' hb' he=>by
  subst he
  exact how.apart g m _ _ b' hgm g1 g2 (by rw[hE];rfl) hb'
 let E':Env:=λn=>if n=c then E m else E n
 have hE':∀n,n≠c->E' n=E n:=λn hn=>by simp[E',hn]
 have hEc:E' c=E m:=by simp[E']
 have hEg:E' g= .pointer (some ⟨b,0,none⟩):=by rw[hE' g hgc];exact hE
 have fin:∀w',w'.heap=w.heap.setIfInBounds b (.cells ⟨.pointer (some ⟨b,0,none⟩)::q::rs⟩ ty (0,0))->w'.os=w.os->w'.tape=w.tape->w'.output=w.output->
  p9 E M [(g, .box (some ty) (.np g bl:: .vh m l::rest.map H.d)),(m, .vec e sz rows)] w (.tuple #[]) (.tup []) [(g, .box (some ty) (.np g true:: .vh c l::rest.map H.d)),(c, .vec e sz rows)] E' M w':=by
  intro w' hh h1 h2 h3
  have hother:∀k,k≠b->w'.heap[k]?=w.heap[k]?:=λk hk=>by
   rw[hh,Pb (λe=>hk e.symm)]
  have hft:∀n o bb,gt [(g,Own.box (some ty) (H.np g true::H.vh c l::rest.map H.d)),(c,Own.vec e sz rows)] n=some o->o.foot w' (E' n) bb->ak (E' n)=some bb:=by
   intro n o bb hn hb
   rw[af]at hn
   by_cases hgn:g=n
   ·rw[RS hgn]at hn;cases hn;exact hb
   ·rw[RR hgn,af]at hn
    by_cases hcn:c=n
    ·rw[RS hcn]at hn;cases hn;exact hb
    ·rw[RR hcn]at hn;simp[gt]at hn
  have hblk:∀n o bb,gt [(g,Own.box (some ty) (H.np g true::H.vh c l::rest.map H.d)),(c,Own.vec e sz rows)] n=some o->ak (E' n)=some bb->(n=g/\bb=b)\/(n=c/\ak (E m)=some bb):=by
   intro n o bb hn hb
   rw[af]at hn
   by_cases hgn:g=n
   ·subst hgn;rw[hEg]at hb;left;exact⟨rfl,by simpa[ak]using hb.symm⟩
   ·rw[RR hgn,af]at hn
    by_cases hcn:c=n
    ·subst hcn;rw[hEc]at hb;right;exact⟨rfl,hb⟩
    ·rw[RR hcn]at hn;simp[gt]at hn
  refine{rep:= .tup #[] [] rfl (λi c x hc=>by simp at hc),owns:=⟨λn o hn=> ?_,λn n' o o' bb hne hn hn' hb hb'=> ?_⟩,mle:=Mem.le_refl _,mem:=λbb o v hv=> ?_,mnew:=λbb o v hv=> .inl hv,home:=λn o bb hn hb=> ?_,frame:=λk hk hx=> ?_,grows:= ?_,os:=h1,tape:=h2,output:=h3,env:=λn hn=> ?_}
  ·rw[af]at hn
   by_cases hgn:g=n
   ·subst hgn
    rw[RS rfl]at hn;cases hn
    refine⟨b,⟨.pointer (some ⟨b,0,none⟩)::q::rs⟩,ty,hEg,by rw[hh];simp[hblt],by simp[hrs],λi x y hx hy=> ?_,k5,λt ht=>by cases ht;rfl⟩
    match i with
    |0=>simp at hx hy;subst hx;subst hy;exact .np1 g b hEg
    |1=>
     simp at hx hy;subst hx;subst hy
     cases hq with
     |vh _ len l' cc ad hEm hl=>exact aP.vh c l l' cc ad (hEc.trans hEm) hl
    |i+2=>
     have hr:=k4 (i+2) x y (by simpa using hx) (by simpa using hy)
     have hy':(rest.map H.d)[i]?=some y:=by simpa using hy
     rw[Oq,OB]at hy'
     obtain⟨d,_,rfl⟩:=hy'
     cases hr with
     |d hd=>exact .d hd
   ·rw[RR hgn,af]at hn
    by_cases hcn:c=n
    ·subst hcn
     rw[RS rfl]at hn;cases hn
     have:=o2.keep (E':=E) (M':=M) (w':=w') rfl (λb' hb'=>hother b' (hapart b' hb')) (λ_ _=>rfl) (Mem.le_refl _) λb' hb'=>(o2.block hb').2
     obtain⟨xs,y1,y2,y3,y4⟩:=this
     exact⟨xs,by rw[hEc];exact y1,y2,y3,by rw[hEc];exact y4⟩
    ·rw[RR hcn]at hn;simp[gt]at hn
  ·rcases hblk n o bb hn (hft n o bb hn hb)with⟨rfl,rfl⟩|⟨rfl,h4⟩
   ·rcases hblk n' o' bb hn' (hft n' o' bb hn' hb')with⟨rfl,_⟩|⟨rfl,h5⟩
    ·exact hne rfl
    ·exact hapart bb h5 rfl
   ·rcases hblk n' o' bb hn' (hft n' o' bb hn' hb')with⟨rfl,rfl⟩|⟨rfl,h5⟩
    ·exact hapart bb h4 rfl
    ·exact hne rfl
  ·have h4:=hm bb o v hv
   have hne:bb≠b:=by rintro rfl;rw[k5 o]at hv;cases hv
   rw[<-h4]
   exact World.cell?_of_block (a:=⟨bb,o,none⟩) (hother bb hne)
  ·rcases hblk n o bb hn (hft n o bb hn hb)with⟨rfl,rfl⟩|⟨rfl,h4⟩
   ·exact .inl ⟨n,_,g1,by rw[hE];rfl⟩
   ·exact .inl ⟨m,_,g2,h4⟩
  ·exact hother k λe=>hx ⟨g,_,g1,by rw[hE,e];rfl⟩
  ·rw[hh];simp
  ·exact hE' n (by omega)
 cases hp with
 |np0=>
  refine(fresh b w ((hcell _).2 rfl) hsh hfz).mono ?_
  rintro e' w' ⟨rfl,rfl⟩
  refine⟨_,E',M,rfl,fin _ ?_ rfl rfl rfl⟩
  simp only[World.setCell]
  apply Array.ext'
  rw[Qv]
  apply Pf
  intro k
  simp only[Array.toList_modify,List.getElem?_modify,Pa,Pm,PB]
  by_cases hk:b=k
  ·subst hk
   have k2':w.heap[b]= .cells ⟨.pointer none::q::rs⟩ ty (0,0):=by rw[OU hblt]at k2;exact P_ k2
   simp[hblt,k2']
  ·simp[hk]
 |np1 _ b' hb'=>
  rw[hE]at hb';cases hb'
  refine(used b w ((hcell _).2 rfl)).mono ?_
  rintro e' w' ⟨rfl,rfl⟩
  refine⟨_,E',M,rfl,fin _ ?_ rfl rfl rfl⟩
  apply Array.ext'
  rw[Qv]
  apply Pf
  intro k
  simp only[Pa,Pm,PB]
  by_cases hk:b=k
  ·subst hk
   rw[k2];simp[hblt]
  ·simp[hk]
section
open Go.Shelf Go.RowKit Go.Proofs
set_option maxHeartbeats 1000000 in
end
end Go.Tx
end
section
namespace Go.Tx
open Go.Awp Go.Proofs
variable [Inhabited GMem]
theorem rv{α:Type}{n m:Nat}{x y:α}(h:gt [(n,x)] m=some y):m=n/\y=x:=by
 simp only[af]at h
 split at h
 ·rename_i e;cases h;exact⟨e.symm,rfl⟩
 ·simp[gt]at h
theorem CP{E:Env}{M:Mem}{w w':World}{a c te sz:Nat}{rows rows':List (List D)}{nv v:Value}{r:H}(ho:DM E M w [(a, .vec te sz rows)])(hm:∀b o v,M b o=some v->w.cell? ⟨b,o,none⟩=some v)(hcg:c<given\/nv=E c)
 (hgr:w.grownBy w' (ak (E a)))(hb:∀b,ak nv=some b->ak (E a)=some b)(hn:aJ (λx=>if x=c then nv else E x) M w' c (.vec te sz rows'))(hr:aP (λx=>if x=c then nv else E x) M v r):
 p9 E M [(a, .vec te sz rows)] w v r [(c, .vec te sz rows')] (λx=>if x=c then nv else E x) M w':=by
 have hok:aJ E M w a (.vec te sz rows):=ho.ok a _ (by simp[gt])
 obtain⟨cs,_,_,_,hM⟩:=hok
 refine{rep:=hr,owns:=⟨λn o hq=> ?_,λn m o o' b hne hq hq'=> ?_⟩,mle:=Mem.le_refl _,mem:=λb o v hv=> ?_,mnew:=λb o v hv=> .inl hv,home:=λn o b hq hf=> ?_,frame:=λx hx hxn=>hgr.block x hx λe=>hxn ⟨a, .vec te sz rows,by simp[gt],e.symm⟩,grows:=hgr.size,os:=hgr.os,tape:=hgr.tape,output:=hgr.output,env:=λn hq=> ?_}
 ·obtain⟨rfl,rfl⟩:=rv hq
  exact hn
 ·obtain⟨rfl,_⟩:=rv hq
  obtain⟨rfl,_⟩:=rv hq'
  exact(hne rfl).elim
 ·refine hgr.cell (hm b o v hv) λe=> ?_
  have:=hM b e.symm o
  rw[hv]at this
  cases this
 ·obtain⟨rfl,rfl⟩:=rv hq
  have hf:ak (if n=n then nv else E n)=some b:=hf
  rw[RS rfl]at hf
  exact .inl ⟨a, .vec te sz rows,by simp[gt],hb b hf⟩
 ·show(if n=c then nv else E n)=E n
  by_cases hnc:n=c
  ·subst hnc
   rcases hcg with h|h
   ·omega
   ·rw[RS rfl];exact h
  ·exact RR hnc
theorem vQ{α:Type}[Inhabited α]{enc:α->Value}{w:World}{g te n:Nat}{cur:Array Value}{d:Array α}{os:Array Obj}(hg:w.heap[g]?=some (.cells cur te (0,0))):
 (Sort.grow (Sort.putRow enc (Sort.ahead w n) g 0 d) os).heap[g]?=some (.cells (Sort.putCells enc 0 d cur) te (0,0))/\w.grownBy (Sort.grow (Sort.putRow enc (Sort.ahead w n) g 0 d) os) (some g):=by
 have hlt:g<w.heap.size:=(OC.1 hg).1
 constructor
 ·unfold Sort.grow Sort.putRow Sort.mapBlock Sort.ahead
  simp only[Rv,Array.size_modify,hlt,RO,PI,hg,OW]
  rfl
 ·refine⟨rfl,rfl,rfl,?_,λk hk hne=> ?_⟩
  ·unfold Sort.grow Sort.putRow Sort.mapBlock Sort.ahead
   simp
  ·have hkg:¬g=k:=λe=>hne (by rw[e])
   unfold Sort.grow Sort.putRow Sort.mapBlock Sort.ahead
   simp only[Rv,Array.size_modify,hk,RO,PI,hkg,RP]
theorem c8.row1{P:Program}{f:FuncId}{α:Type}[Inhabited α]{enc:α->Value}(hc:dS P f=true){ret:Bool}{xs ys:List α}{k te a c:Nat}(hcg:c<given\/c=a/\ret=false)(hk:k<=ys.length)(hl:ys.length=xs.length)
 (h:∀(g cap:Nat) (w:World),xs≠[]->Sort.Holds enc w g 0 xs.toArray->g<w.heap.size->xs.length<=cap->Calls P f #[.slice (some ⟨g,0,none⟩) xs.length cap] w λe w'=>
   e= .returned (if ret then .slice (some ⟨g,0,none⟩) k cap else .tuple #[])/\∃n os,w'=Sort.grow (Sort.putRow enc (Sort.ahead w n) g 0 ys.toArray) os)
 (h0:∀(p:Option Addr) (cap:Nat) (w:World),xs=[]->Calls P f #[.slice p 0 cap] w λe w'=>e= .returned (if ret then .slice p 0 cap else .tuple #[])/\w'=w)(hr:ret=false->k=ys.length):
 c8 P f [.vh a xs.length] [(a, .vec te 1 (xs.map λx=>[D.v (enc x)]))] (if ret then .vh c k else .tup []) [(c, .vec te 1 ((ys.take k).map λx=>[D.v (enc x)]))]:=by
 refine⟨hc,λE M w vs hgm hm ho hv=> ?_⟩
 obtain⟨v1,rfl,r1⟩:=dT hv
 have hok:aJ E M w a (.vec te 1 (xs.map λx=>[D.v (enc x)])):=ho.ok a _ (by simp[gt])
 obtain⟨cs,hown,hz,hD,hM⟩:=hok
 rw[On]at hown
 have hrep:∀(nv:Value) (ad:Option Addr) (cap:Nat),nv= .slice ad k cap->aP (λx=>if x=c then nv else E x) M (if ret then nv else .tuple #[]) (if ret then .vh c k else .tup []):=λnv ad cap hnv=>by
  cases ret with
  |true=>
   simp only[RO]
   rw[hnv]
   exact aP.vh c k k cap ad (RS rfl) (OO _)
  |false=>exact .tup #[] [] rfl (λi c x hc=>by simp at hc)
 by_cases hx:xs=[]
 ·have hy:ys=[]:=by
   cases ys with
   |nil=>rfl
   |cons y r=>rw[hx]at hl;cases hl
  have hk0:k=0:=by rw[hy]at hk;simpa using hk
  obtain⟨ad,cap,hE⟩:∃ad cap,E a= .slice ad xs.length cap:=by
   rcases hown.2 with⟨hE,hn⟩|⟨g,cap,cur,hE,_⟩
   ·exact⟨none,0,by rw[hE,hx];rfl⟩
   ·exact⟨_,cap,hE⟩
  have hv1:v1= .slice ad 0 cap:=by rw[d_ r1 hE,hE,hx];rfl
  rw[hv1]
  refine(h0 ad cap w hx).mono ?_
  rintro e w' ⟨rfl,rfl⟩
  have hEa:E a= .slice ad 0 cap:=by rw[hE,hx];rfl
  refine⟨_,_,M,rfl,CP (nv:= .slice ad 0 cap) ho hm (hcg.imp_right λh=>by rw[h.1];exact hEa.symm) ⟨rfl,rfl,rfl,OO _,λ_ _ _=>rfl⟩ (λb hb=>by rw[hEa];exact hb) ?_ ?_⟩
  ·subst hy
   have hcs:cs=[]:=by
    have h2:=hown.1
    rw[hx]at h2
    simpa using h2
   subst hcs
   rw[List.take_nil]
   refine⟨[],?_,by simp,by simp,λb hb=>hM b ?_⟩
   ·show World.ownsRow _ 0 te 1 (if c=c then Value.slice ad 0 cap else E c) _ _
    rw[RS rfl,<-hEa]
    rw[hx]at hown
    exact hown
   ·have hb:ak (if c=c then Value.slice ad 0 cap else E c)=some b:=hb
    rw[RS rfl]at hb
    rw[hEa];exact hb
  ·have:=hrep (.slice ad 0 cap) ad cap (by rw[hk0])
   cases ret<;>exact this
 ·rcases hown.2 with⟨hE,hn⟩|⟨g,cap,cur,hE,_,hg,hnc,hcm,hcs,hct⟩
  ·exact(hx (QD.1 hn)).elim
  have hv1:v1= .slice (some ⟨g,0,none⟩) xs.length cap:=by rw[d_ r1 hE,hE]
  rw[hv1]
  have hlt:g<w.heap.size:=(OC.1 hg).1
  have hH:Sort.Holds enc w g 0 xs.toArray:=λj hj=>by
   have hj':j<xs.length:=by simpa using hj
   rw[OS]
   refine⟨?_,frozen_of_row w g j cur te hg⟩
   rw[cell_of_row w g j cur te (0,0) hg]
   have hcl:cs.length=xs.length *1:=hown.1
   have hjc:j<cs.length:=by omega
   have h1:cur[j]?=some cs[j]:=by
    have:cs[j]?=cur.toList[j]?:=by rw[<-hct,OE,RS (by omega)]
    rw[<-Pm,<-this,Ou hjc]
   rw[h1]
   have h2:=hD j 0 [D.v (enc xs[j])] cs[j] (.v (enc xs[j])) (by simp[hj']) rfl (by simp[hjc])
   generalize cs[j]=q at h2
   cases h2
   simp[hj']
  refine(h g cap w hx hH hlt hnc).mono ?_
  rintro e w' ⟨rfl,n,os,rfl⟩
  obtain⟨p1,p2⟩:=vQ (enc:=enc) (n:=n) (d:=ys.toArray) (os:=os) hg
  refine⟨_,_,M,rfl,CP (nv:= .slice (some ⟨g,0,none⟩) k cap) ho hm (hcg.imp_right λh=>by rw[h.1,hE,hr h.2,hl]) (by rw[hE];exact p2) (λb hb=>by rw[hE];exact hb) ?_ (by have:=hrep (.slice (some ⟨g,0,none⟩) k cap) _ cap rfl;cases ret<;>exact this)⟩
  have hkc:k<=cap:=by omega
  have hsz:(Sort.putCells enc 0 ys.toArray cur).size=cap *1:=by rw[<-hcs];simp[Sort.putCells]
  have htk:((ys.take k).map enc).length=k:=by rw[On,O1];omega
  refine⟨(ys.take k).map enc,?_,λr hr=> ?_,λi j r cv x hr hj hc=> ?_,λb hb=>hM b ?_⟩
  ·show World.ownsRow _ 0 te 1 (if c=c then Value.slice (some ⟨g,0,none⟩) k cap else E c) _ _
   rw[RS rfl,On,O1,PA hk]
   refine⟨by rw[htk,Qn], .inr ⟨g,cap,_,rfl,Pu _,p1,hkc,hcm,hsz,?_⟩⟩
   rw[Qn]
   apply Pf
   intro j
   rw[OE,Oq]
   by_cases hj:j<k
   ·rw[RS hj,Pm,OE,RS hj]
    have hjy:j<ys.length:=by omega
    have hjc:j<cur.size:=by omega
    simp[Sort.putCells,hjy,hjc]
   ·rw[RR hj,OE,RR hj];rfl
  ·obtain⟨y,_,rfl⟩:=OT.1 hr
   rfl
  ·rw[Oq,OB]at hr
   obtain⟨y,hy,rfl⟩:=hr
   match j,hj with
   |0,hj=>
    simp only[PW,Om]at hj
    subst hj
    rw[Qn,Pd,Oq,hy]at hc
    simp only[OW,Om]at hc
    subst hc
    exact .v _
   |j+1,hj=>simp at hj
  ·have hb:ak (if c=c then Value.slice (some ⟨g,0,none⟩) k cap else E c)=some b:=hb
   rw[RS rfl]at hb
   rw[hE];exact hb
theorem c8.newData{P:Program}{f:FuncId}{args:List H}{own:List (Nat×Own)}{sz:Nat}{rows:List (List D)}(hc:dS P f=true)(hz:∀r∈rows,r.length=sz)
 (h:∀(E:Env) (M:Mem) (w:World) (vs:Array Value),GOk M w->(∀b o v,M b o=some v->w.cell? ⟨b,o,none⟩=some v)->DM E M w own->fK E M vs args->
   Calls P f vs w λe w'=>∃(v:Value) (cs:List Value) (te:TypeId),e= .returned v/\w'.ownsRow w.heap.size te sz v rows.length cs/\Go.RowKit.Below w.heap.size w w'/\
    ∀(i j:Nat) (r:List D) (c:Value) (x:D),rows[i]?=some r->r[j]?=some x->cs[i *sz+j]?=some c->bW M c x):c8 P f args own (.d (.sl sz rows)) []:=by
 refine⟨hc,λE M w vs hgm hm ho hvs=>(h E M w vs hgm hm ho hvs).mono ?_⟩
 rintro e w' ⟨v,cs,te,rfl,hrow,hb,hcr⟩
 have hold:∀b,b<w.heap.size->w'.heap[b]?=w.heap[b]?:=λb hlt=>hb.block b hlt
 have hkeep:∀b k u,M b k=some u->w'.cell? ⟨b,k,none⟩=some u:=λb k u hu=>by
  have h1:=hm b k u hu
  have hlt:=World.block_lt_of_cell? w (a:=⟨b,k,none⟩) h1
  rw[<-h1]
  exact World.cell?_of_block (a:=⟨b,k,none⟩) (hold b hlt)
 rcases hrow.2 with⟨rfl,hn⟩|⟨g,cap,cur,rfl,hg0,hg,hnc,hcm,hcs,hct⟩
 ·have hr:rows=[]:=QD.1 hn
  subst hr
  exact⟨_,E,M,rfl,{rep:= .d (.slnil _),owns:=⟨λn o hn=>by simp[gt]at hn,λn m o o' b _ hn=>by simp[gt]at hn⟩,mle:=Mem.le_refl _,mem:=hkeep,mnew:=λb k v hv=> .inl hv,home:=λn o b hn=>by simp[gt]at hn,frame:=λk hk _=>hold k hk,grows:=hb.size,os:=hb.os,tape:=hb.tape,output:=hb.output,env:=λ_ _=>rfl}⟩
 ·have hnew:∀k,M g k=none:=λk=>by
   cases hk:M g k with
   |none=>rfl
   |some v=>
    have:=World.block_lt_of_cell? w (a:=⟨g,k,none⟩) (hm _ _ _ hk)
    simp only at this
    omega
  let M':Mem:=λb k=>if b=g then cs[k]? else M b k
  have hM:M.le M':=λb k v hv=>by
   by_cases hbg:b=g
   ·subst hbg;rw[hnew]at hv;cases hv
   ·simp[M',hbg,hv]
  have hcl:cs.length=rows.length *sz:=hrow.1
  refine⟨_,E,M',rfl,{rep:= ?_,owns:=⟨λn o hn=>by simp[gt]at hn,λn m o o' b _ hn=>by simp[gt]at hn⟩,mle:=hM,mem:=λb k v hv=> ?_,mnew:=λb k v hv=> ?_,home:=λn o b hn=>by simp[gt]at hn,frame:=λk hk _=>hold k hk,grows:=hb.size,os:=hb.os,tape:=hb.tape,output:=hb.output,env:=λ_ _=>rfl}⟩
  ·refine .d (.sl g 0 rows.length cap sz rows (λk=>cs.getD k undef) rfl hnc hz (λk hk=> ?_) λi j r x hr hx=> ?_)
   ·have:k<cs.length:=by omega
    simp only[M',RO,OS]
    rw[Ou this]
    simp[RL,this]
   ·have hj:j<sz:=by
     have:=hz r (OA hr)
     have:=(Ol.1 hx).1;omega
    have hi:i<rows.length:=(Ol.1 hr).1
    have hmul:(i+1) *sz<=rows.length *sz:=OH _ hi
    rw[OY]at hmul
    have hk:i *sz+j<cs.length:=by omega
    have:=hcr i j r cs[i *sz+j] x hr hx (Ou hk)
    have hgd:cs.getD (i *sz+j) undef=cs[i *sz+j]:=by simp[RL,hk]
    rw[hgd]
    exact this.mono hM
  ·by_cases hbg:b=g
   ·subst hbg
    simp only[M',RO]at hv
    rw[cell_of_row _ b k cur te (0,0) hg]
    have hk:=(Ol.1 hv).1
    rw[<-hct,OE]at hv
    split at hv
    ·simpa using hv
    ·cases hv
   ·simp only[M',RR hbg]at hv
    exact hkeep b k v hv
  ·by_cases hbg:b=g
   ·exact .inr (.inr (by omega))
   ·simp only[M',RR hbg]at hv
    exact .inl hv
def sortStr(xs:List ByteArray):List ByteArray:=((xs.map λs=>s.data.toList).mergeSort λx y=>decide (x<=y)).map λl=>⟨l.toArray⟩
def compactStr(xs:List ByteArray):List ByteArray:=(Lib.compact (xs.map λs=>s.data.toList)).map λl=>⟨l.toArray⟩
theorem xJ(xs:List ByteArray):(xs.map λs=>[D.v (.string s)])=(xs.map λs=>s.data.toList).map λl=>[D.v (encStr l)]:=by
 rw[OQ]
 exact OP λx _=>rfl
theorem sj(ls:List (List UInt8)):((ls.map λl=>(⟨l.toArray⟩:ByteArray)).map λs=>[D.v (.string s)])=ls.map λl=>[D.v (encStr l)]:=by
 rw[OQ]
 exact OP λx _=>rfl
theorem nS{α:Type}[Inhabited α][DecidableEq α](xs:List α):(Lib.compact xs).length<=xs.length:=by
 unfold Lib.compact Lib.compactUpTo
 rw[On]
 exact Ps (List.length_filter_le _ _) (by simp)
theorem c8.sortStr{P:Program}{f:FuncId}{te a:Nat}{xs:List ByteArray}(hc:dS P f=true)
 (h:∀(b o cap:Nat) (zs:List (List UInt8)) (w:World),Sort.Holds encStr w b o zs.toArray->b<w.heap.size->zs.length<4611686018427387904->Calls P f #[.slice (some ⟨b,o,none⟩) zs.length cap] w λe w'=>
   e= .returned (.tuple #[])/\∃n os,w'=Sort.grow (Sort.putRow encStr (Sort.ahead w n) b o (zs.mergeSort λx y=>decide (x<=y)).toArray) os)
 (h0:∀(p:Option Addr) (cap:Nat) (w:World),Calls P f #[.slice p 0 cap] w λe w'=>e= .returned (.tuple #[])/\w'=w)(hl:xs.length<4611686018427387904):
 c8 P f [.vh a xs.length] [(a, .vec te 1 (xs.map λs=>[D.v (.string s)]))] (.tup []) [(a, .vec te 1 ((Go.Tx.sortStr xs).map λs=>[D.v (.string s)]))]:=by
 have h1:=c8.row1 (P:=P) (f:=f) (enc:=encStr) (ret:=false) (xs:=xs.map λs=>s.data.toList) (ys:=(xs.map λs=>s.data.toList).mergeSort λx y=>decide (x<=y)) (k:=xs.length) (te:=te) (a:=a) (c:=a) hc (.inr ⟨rfl,rfl⟩) (by simp) (by simp) ?_ ?_ (λ_=>by simp)
 ·rw[xJ,Go.Tx.sortStr,sj]
  rw[On,O8 (by simp)]at h1
  exact h1
 ·intro g cap w _ hH hb _
  have h2:=h g 0 cap (xs.map λs=>s.data.toList) w hH hb (by rw[On];exact hl)
  refine h2.mono ?_
  rintro e w' ⟨he,n,os,hw⟩
  exact⟨he,n,os,hw⟩
 ·intro p cap w _
  refine(h0 p cap w).mono ?_
  rintro e w' ⟨he,hw⟩
  exact⟨he,hw⟩
theorem c8.compactStr{P:Program}{f:FuncId}{te a c:Nat}{xs:List ByteArray}(hc:dS P f=true)
 (h:∀(b o cap:Nat) (zs:List (List UInt8)) (w:World),Sort.Holds encStr w b o zs.toArray->zs.length<=9223372036854775807->zs.length<=cap->Calls P f #[.slice (some ⟨b,o,none⟩) zs.length cap] w λe w'=>
   e= .returned (.slice (some ⟨b,o,none⟩) (Lib.compact zs).length cap)/\∃q,w'=Sort.putRow encStr (Sort.ahead w q) b o (Lib.compact zs++Pc (zs.length-(Lib.compact zs).length) []).toArray)
 (h0:∀(p:Option Addr) (cap:Nat) (w:World),Calls P f #[.slice p 0 cap] w λe w'=>e= .returned (.slice p 0 cap)/\w'=w)(hcg:c<given)(hl:xs.length<=9223372036854775807):
 c8 P f [.vh a xs.length] [(a, .vec te 1 (xs.map λs=>[D.v (.string s)]))] (.vh c (Go.Tx.compactStr xs).length) [(c, .vec te 1 ((Go.Tx.compactStr xs).map λs=>[D.v (.string s)]))]:=by
 have hle:=nS (xs.map λs:ByteArray=>s.data.toList)
 have h1:=c8.row1 (P:=P) (f:=f) (enc:=encStr) (ret:=true) (xs:=xs.map λs=>s.data.toList) (ys:=Lib.compact (xs.map λs=>s.data.toList)++Pc ((xs.map λs:ByteArray=>s.data.toList).length-(Lib.compact (xs.map λs:ByteArray=>s.data.toList)).length) [])
  (k:=(Lib.compact (xs.map λs:ByteArray=>s.data.toList)).length) (te:=te) (a:=a) (c:=c) hc (.inl hcg) (by simp) (by rw[OJ,P5];omega) ?_ ?_ (λe=>by cases e)
 ·rw[xJ,Go.Tx.compactStr,sj,On]
  rw[On,PO (OO _),List.take_length]at h1
  exact h1
 ·intro g cap w _ hH _ hcap
  have h2:=h g 0 cap (xs.map λs=>s.data.toList) w hH (by rw[On];exact hl) hcap
  refine h2.mono ?_
  rintro e w' ⟨he,q,hw⟩
  exact⟨he,q, #[],by rw[hw,Sort.grow_empty]⟩
 ·intro p cap w _
  refine(h0 p cap w).mono ?_
  rintro e w' ⟨he,hw⟩
  have hz:(Lib.compact (xs.map λs:ByteArray=>s.data.toList)).length=0:=by
   rename_i hx
   rw[hx];rfl
  exact⟨he,hw⟩
def p_(P:Program)(f g:FuncId):Prop:=∀(b:Nat) (sv:Value) (xs:List ByteArray) (w:World),xs.length<=8796093020160->w.cell? ⟨b,0,none⟩=some sv->
 ((xs=[]/\∃a c,sv= .slice a 0 c)\/∃b2 off c,sv= .slice (some ⟨b2,off,none⟩) xs.length c/\∀(j:Nat) x,xs[j]?=some x->w.cell? ⟨b2,off+j,none⟩=some (.string x))->
 Calls P f #[.func (.func g) #[] #[.pointer (some ⟨b,0,none⟩)]] w λe w'=>∃(v:Value) (te:TypeId),e= .returned v/\
  w'.ownsRow w.heap.size te 1 v xs.length (((xs.map λs=>s.data.toList).mergeSort λx y=>decide (x<=y)).map encStr)/\Go.RowKit.Below w.heap.size w w'
theorem c8.sortedVals{P:Program}{f g:FuncId}{a:Nat}{xs:List ByteArray}(hc:dS P f=true)(h:p_ P f g)(hl:xs.length<=8796093020160):
 c8 P f [.fn g [] [.bp a 0]] [(a, .box none [.d (.sl 1 (xs.map λs=>[D.v (.string s)]))])] (.d (.sl 1 ((Go.Tx.sortStr xs).map λs=>[D.v (.string s)]))) []:=by
 refine c8.newData hc (λr hr=>by obtain⟨_,_,rfl⟩:=OT.1 hr;rfl) λE M w vs hgm hm ho hvs=> ?_
 obtain⟨v1,rfl,r1⟩:=dT hvs
 obtain⟨b,cs,ty,hE,hw,hsz,hD,_,_⟩:aJ E M w a (.box none [.d (.sl 1 (xs.map λs=>[D.v (.string s)]))]):=ho.ok a _ (by simp[gt])
 obtain⟨sv,hcs⟩:∃sv,cs= #[sv]:=by
  match cs,hsz with
  |⟨[x]⟩,_=>exact⟨x,rfl⟩
 subst hcs
 have hs:=hD 0 sv _ rfl rfl
 have hv1:v1= .func (.func g) #[] #[.pointer (some ⟨b,0,none⟩)]:=by
  cases r1 with
  |fn f first captured l l' h1 h2 h3 h4=>
   have e1:first= #[]:=Qk h1
   obtain⟨y,e2⟩:∃y,captured= #[y]:=by
    match captured,h2 with
    |⟨[y]⟩,_=>exact⟨y,rfl⟩
   subst e1;subst e2
   have:=h4 0 y _ rfl rfl
   cases this with
   |bp n off b' hb=>rw[hE]at hb;cases hb;rfl
 rw[hv1]
 have hcell:w.cell? ⟨b,0,none⟩=some sv:=by simp[World.cell?,hw]
 have hst:=Fg hs
 refine(h b sv xs w hl hcell ?_).mono ?_
 ·rcases hst with⟨h1,h2⟩|⟨b2,off,c,_,h2,_,h3⟩
  ·exact .inl ⟨h1,h2⟩
  ·exact .inr ⟨b2,off,c,h2,λj x hj=>hm _ _ _ (h3 j x hj)⟩
 ·rintro e w' ⟨v,te,rfl,hrow,hb⟩
  have hlen:((Go.Tx.sortStr xs).map λs=>[D.v (.string s)]).length=xs.length:=by simp[Go.Tx.sortStr]
  refine⟨v,_,te,rfl,by rw[hlen];exact hrow,hb,λi j r c x hr hx hc=> ?_⟩
  unfold Go.Tx.sortStr at hr
  rw[sj,Oq,OB]at hr
  obtain⟨l,hl1,rfl⟩:=hr
  match j,hx with
  |0,hx=>
   simp only[PW,Om]at hx
   subst hx
   rw[Qn,Pd,Oq,hl1]at hc
   simp only[OW,Om]at hc
   subst hc
   exact .v _
  |j+1,hx=>simp at hx
end Go.Tx
end
section
namespace Go.Proofs.YtpndmanbfleadaaGreatDoor
open Go.Awp Go.Tx
def tle(a b:ByteArray):Prop:=a.data.toList<=b.data.toList
instance (a b:ByteArray):Decidable (tle a b):=inferInstanceAs (Decidable (a.data.toList<=b.data.toList))
theorem nq{a b:ByteArray}(h:a.data.toList=b.data.toList):a=b:=by
 obtain⟨⟨a⟩⟩:=a
 obtain⟨⟨b⟩⟩:=b
 simp only at h
 rw[h]
theorem Dj{a b:ByteArray}(h:a.toList=b.toList):a=b:=by
 rw[ByteArray.toList_eq,ByteArray.toList_eq]at h
 exact nq h
theorem nb(a:ByteArray):tle a a:=List.le_refl _
theorem px{a b c:ByteArray}(h:tle a b)(k:tle b c):tle a c:=List.le_trans h k
theorem lr(a b:ByteArray):tle a b\/tle b a:=List.le_total _ _
theorem na{a b:ByteArray}(h:tle a b)(k:tle b a):a=b:=nq (List.le_antisymm h k)
theorem blt_eq(a b:ByteArray):Bs.blt a b=decide (¬tle b a):=by
 unfold Bs.blt tle
 rw[bytesLess_eq,ByteArray.toList_eq,ByteArray.toList_eq]
 rw[decide_eq_decide,<-List.not_lt,Decidable.not_not]
theorem Bu(a b:ByteArray):(!(Bs.blt a b||a.toList==b.toList))=decide (¬tle a b):=by
 rw[blt_eq]
 by_cases h:tle b a
 ·by_cases e:a=b
  ·subst e;simp[nb]
  ·have e':¬(a.toList=b.toList):=λk=>e (Dj k)
   have k:¬tle a b:=λk=>e (na k h)
   simp[h,e',k]
 ·have k:tle a b:=(lr a b).resolve_right h
  simp[h,k]
theorem pi{xs ys:List ByteArray}(hp:xs.Perm ys)(hx:xs.Pairwise tle)(hy:ys.Pairwise tle):xs=ys:=
 Rk (λ_ _ _ _ h k=>na h k) hx hy hp
theorem DU(xs:List ByteArray):((xs.map λs=>s.data.toList).map λl=>(⟨l.toArray⟩:ByteArray))=xs:=by
 rw[OQ]
 conv=>rhs;rw[<-RN xs]
 exact OP λx _=>rfl
theorem eJ(xs:List ByteArray):(sortStr xs).Perm xs:=by
 have h:=(RE (xs.map λs=>s.data.toList) (λx y=>decide (x<=y))).map λl=>(⟨l.toArray⟩:ByteArray)
 rw[DU]at h
 exact h
theorem fO(xs:List ByteArray):(sortStr xs).Pairwise tle:=by
 unfold sortStr
 rw[QJ]
 refine(Rm (le:=λx y:List UInt8=>decide (x<=y)) (λa b c h k=> ?_) (λa b=> ?_) _).imp λ{a b} h=> ?_
 ·simp only[RQ]at h k⊢
  exact List.le_trans h k
 ·rcases List.le_total a b with h|h<;>simp[h]
 ·simp only[RQ]at h
  exact h
theorem eC(xs:List ByteArray):(sortStr xs).length=xs.length:=(eJ xs).length_eq
theorem zK{xs:List ByteArray}(h:xs.Pairwise tle):sortStr xs=xs:=pi (eJ xs) (fO xs) h
def tlt(a b:ByteArray):Prop:=tle a b/\a≠b
theorem mf(a:ByteArray):¬tlt a a:=λh=>h.2 rfl
theorem uT{a b c:ByteArray}(h:tlt a b)(k:tlt b c):tlt a c:=⟨px h.1 k.1,λe=>by subst e;exact h.2 (na h.1 k.1)⟩
theorem qV:∀{xs ys:List ByteArray},xs.Pairwise tlt->ys.Pairwise tlt->(∀s,s∈xs↔s∈ys)->xs=ys
 |[],[],_,_,_=>rfl
 |[],y::ys,_,_,h=>by have:=(h y).2 Ox;cases this
 |x::xs,[],_,_,h=>by have:=(h x).1 Ox;cases this
 |x::xs,y::ys,hx,hy,h=>by
  rw[P7]at hx hy
  have hxy:x=y:=by
   rcases Oz.1 ((h x).1 Ox)with e|e
   ·exact e
   ·rcases Oz.1 ((h y).2 Ox)with e2|e2
    ·exact e2.symm
    ·exact(mf x (uT (hx.1 y e2) (hy.1 x e))).elim
  subst hxy
  rw[qV hx.2 hy.2 λs=> ?_]
  constructor
  ·intro hs
   rcases Oz.1 ((h s).1 (Ot _ hs))with e|e
   ·subst e;exact(mf s (hx.1 s hs)).elim
   ·exact e
  ·intro hs
   rcases Oz.1 ((h s).2 (Ot _ hs))with e|e
   ·subst e;exact(mf s (hy.1 s hs)).elim
   ·exact e
def sJ:List ByteArray->ByteArray->List ByteArray
 |[],s=>[s]
 |a::r,s=>if¬tle a s then s::a::r else if a=s then a::r else a::sJ r s
theorem sg(s x:ByteArray):∀l:List ByteArray,x∈sJ l s↔x=s\/x∈l
 |[]=>by simp[sJ]
 |a::r=>by
  unfold sJ
  split
  ·simp
  ·split
   ·rename_i e;subst e;simp
   ·rw[Oz,sg s x r,Oz]
    constructor
    ·rintro(h|h|h)<;>simp[h]
    ·rintro(h|h|h)<;>simp[h]
theorem oO{s:ByteArray}:∀{l:List ByteArray},l.Pairwise tlt->(sJ l s).Pairwise tlt
 |[],_=>by simp[sJ]
 |a::r,h=>by
  rw[P7]at h
  unfold sJ
  split
  ·rename_i hn
   have hsa:tlt s a:=⟨(lr a s).resolve_left hn,λe=>hn (by rw[e];exact nb _)⟩
   rw[P7]
   refine⟨λx hx=> ?_,P7.2 h⟩
   rcases Oz.1 hx with rfl|hx
   ·exact hsa
   ·exact uT hsa (h.1 x hx)
  ·rename_i hn
   split
   ·exact P7.2 h
   ·rename_i hne
    rw[P7]
    refine⟨λx hx=> ?_,oO h.2⟩
    rcases(sg s x r).1 hx with rfl|hx
    ·exact⟨Decidable.of_not_not hn,hne⟩
    ·exact h.1 x hx
theorem gP(s:ByteArray):∀l:List ByteArray,(sJ l s).length<=l.length+1
 |[]=>by simp[sJ]
 |a::r=>by
  unfold sJ
  split
  ·simp
  ·split
   ·simp
   ·have:=gP s r;simp;omega
def dN(l:List ByteArray)(ss:List ByteArray):List ByteArray:=ss.foldl sJ l
theorem qP(x:ByteArray):∀(ss l:List ByteArray),x∈dN l ss↔x∈l\/x∈ss
 |[],l=>by simp[dN]
 |s::ss,l=>by
  have h:dN l (s::ss)=dN (sJ l s) ss:=rfl
  rw[h,qP x ss,sg,Oz]
  constructor
  ·rintro((h|h)|h)<;>simp[h]
  ·rintro(h|h|h)<;>simp[h]
theorem k_:∀(ss:List ByteArray) {l:List ByteArray},l.Pairwise tlt->(dN l ss).Pairwise tlt
 |[],_,h=>h
 |s::ss,l,h=>k_ ss (oO h)
theorem gO:∀(ss l:List ByteArray),(dN l ss).length<=l.length+ss.length
 |[],l=>OO _
 |s::ss,l=>by
  have h:dN l (s::ss)=dN (sJ l s) ss:=rfl
  have h1:=gO ss (sJ l s)
  have h2:=gP s l
  rw[h];simp only[O_];omega
theorem qO(l a b:List ByteArray):dN l (a++b)=dN (dN l a) b:=List.foldl_append
theorem pN{ls:List (List UInt8)}(h:ls.Pairwise (·<= ·)):(Lib.compact ls).Pairwise λa b=>a<=b/\a≠b:=by
 unfold Lib.compact Lib.compactUpTo
 rw[QJ,List.pairwise_filter]
 refine List.pairwise_lt_range.imp_of_mem λ{i j} hi hj hij hki hkj=> ?_
 rw[Q3]at hi hj
 have hg:∀k (hk:k<ls.length),(ls.toArray)[k]! =ls[k]:=λk hk=>by simp[hk]
 have hle:∀a b (ha:a<ls.length) (hb:b<ls.length),a<=b->ls[a]<=ls[b]:=λa b ha hb hab=>by
  rcases Nat.lt_or_eq_of_le hab with hlt|rfl
  ·exact(Rb.1 h) a b ha hb hlt
  ·exact List.le_refl _
 rw[hg i hi,hg j hj]
 refine⟨hle i j hi hj (Nat.le_of_lt hij),λe=> ?_⟩
 unfold Lib.keeps at hkj
 simp only[RQ]at hkj
 rcases hkj with h0|hne
 ·omega
 ·have hj1:j-1<ls.length:=by omega
  rw[hg j hj,hg (j-1) hj1]at hne
  refine hne (List.le_antisymm ?_ (hle (j-1) j hj1 hj (by omega)))
  rw[<-e]
  exact hle i (j-1) hi hj1 (by omega)
theorem nT(ls:List (List UInt8))(x:List UInt8):x∈Lib.compact ls↔x∈ls:=by
 have hg:∀k (hk:k<ls.length),(ls.toArray)[k]! =ls[k]:=λk hk=>by simp[hk]
 unfold Lib.compact Lib.compactUpTo
 rw[OT]
 constructor
 ·rintro⟨k,hk,rfl⟩
  have:=Q3.1 (Qr.1 hk).1
  rw[hg k this]
  exact Pn _
 ·intro hx
  obtain⟨k,hk,rfl⟩:=QB hx
  have key:∀k (hk:k<ls.length),∃a,a∈(P9 ls.length).filter (Lib.keeps ls.toArray)/\(ls.toArray)[a]! =ls[k]:=by
   intro k
   induction k with
   |zero=>intro hk;exact⟨0,Qr.2 ⟨Q3.2 hk,by simp[Lib.keeps]⟩,hg 0 hk⟩
   |succ k ih=>
    intro hk
    by_cases e:ls[k+1]=ls[k]
    ·obtain⟨a,h1,h2⟩:=ih (by omega)
     exact⟨a,h1,by rw[h2,e]⟩
    ·refine⟨k+1,Qr.2 ⟨Q3.2 hk,?_⟩,hg _ hk⟩
     unfold Lib.keeps
     simp only[RQ]
     right
     rw[hg _ hk,Nat.add_sub_cancel,hg k (by omega)]
     exact e
  exact key k hk
theorem lE{xs:List ByteArray}(h:xs.Pairwise tle):(compactStr xs).Pairwise tlt:=by
 unfold compactStr
 rw[QJ]
 refine(pN ?_).imp λ{a b} h=>⟨h.1,λe=>h.2 ?_⟩
 ·rw[QJ];exact h
 ·have:=congrArg (λs:ByteArray=>s.data.toList) e
  simpa using this
theorem pM(xs:List ByteArray)(s:ByteArray):s∈compactStr xs↔s∈xs:=by
 unfold compactStr
 rw[OT]
 constructor
 ·rintro⟨l,hl,rfl⟩
  obtain⟨x,hx,e⟩:=OT.1 ((nT _ _).1 hl)
  have:x=⟨l.toArray⟩:=nq (by simpa using e)
  rw[<-this];exact hx
 ·intro hs
  exact⟨s.data.toList,(nT _ _).2 (OR hs),rfl⟩
theorem E4(xs:List ByteArray):compactStr (sortStr xs)=dN [] xs:=
 qV (lE (fO xs)) (k_ xs Q_) λs=>by
  rw[pM,qP]
  constructor
  ·intro h;exact .inr ((eJ xs).mem_iff.1 h)
  ·rintro(h|h)
   ·cases h
   ·exact(eJ xs).mem_iff.2 h
end Go.Proofs.YtpndmanbfleadaaGreatDoor
end
section
namespace Go.Tx
open Go.Awp
variable [Inhabited GMem]
section
variable {V:jj}
def c0:aB V:=λ_ _ _ _ _=>none
def cO(P:Program)(fid:Nat)(sig:Sig V)(F:HL V.N sig.tys->Option (HL V.N sig.rcut.tys))(r:aB V):aB V:=λA f args S k=>match Ph f fid with
 |true=>bQ P sig F A args S k
 |false=>r A f args S k
def cP(P:Program)(fid:Nat)(sig:Sig V)(F:HL V.N sig.tys->Option (HL V.N sig.rcut.tys))(r:aB V):aB V:=λA f args S k=>match Ph f fid with
 |true=>bh P sig F A args S k
 |false=>r A f args S k
theorem ci{P:Program}:aj P (c0:aB V):=λA fid args S dst k r h=>by cases h
theorem eb{P:Program}{fid:Nat}{sig:Sig V}{F:HL V.N sig.tys->Option (HL V.N sig.rcut.tys)}{r:aB V}(h:bd P fid sig F)(hr:aj P r):aj P (cO P fid sig F r):=λA f args S dst k x hx=>by
 unfold cO at hx
 split at hx
 ·rename_i e
  have e:=O2 e
  subst e
  exact aA h hx
 ·exact hr A f args S dst k x hx
theorem bE{P:Program}{fid:Nat}{sig:Sig V}{F:HL V.N sig.tys->Option (HL V.N sig.rcut.tys)}{r:aB V}(h:bd P fid sig F)(ho:sig.objs=[])(hk:sig.keep=[])(hr:aj P r):aj P (cP P fid sig F r):=λA f args S dst k x hx=>by
 unfold cP at hx
 split at hx
 ·rename_i e
  have e:=O2 e
  subst e
  exact au h ho hk hx
 ·exact hr A f args S dst k x hx
end
end Go.Tx
end
