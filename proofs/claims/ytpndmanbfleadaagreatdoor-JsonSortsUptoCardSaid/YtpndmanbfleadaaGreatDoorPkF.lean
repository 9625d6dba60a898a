/-
  Texts of this claim, joined by a program of mine: what the theorem uses.
-/
import Derived.Test.YtpndmanbfleadaaGreatDoorPkE
import Derived.KernelRfl
import Derived.Test.YtpndmanbfleadaaGreatDoorPkC
import Derived.WalkKit
import Derived.ProofKit
import Derived.OpenShut
import Derived.Test.YtpndmanbfleadaaGreatDoorRows
import Derived.Lib.LaidIn
import Derived.Lib.LaidU8T
import Derived.MakeChecks
import Derived.Test.YtpndmanbfleadaaGreatDoorProg
import Derived.Shelf.Strings.Builder1
import Derived.Sort.Grow
import Derived.Sort.EncStr
import Derived.Lib.SlicesCompact
import Derived.Sort.Walk0
import Derived.RangeFuncBox
import Derived.RangeFuncLeaves
import Derived.Shelf.Abstract
import Derived.OwnWalkIn
import Derived.TacticsInMore
import Derived.LoopNIn
import Derived.LoopIn
import Derived.Maps.AppendAt
import Derived.Sort.OwnSorted
open Array renaming eq_empty_of_size_eq_zero→Py,getElem?_append→QJ,getElem?_eq_getElem→N4,getElem?_eq_some_iff→NL,getElem?_modify→OW,getElem?_setIfInBounds_ne→Om,getElem?_toList→OA,length_toList→OP,replicate_succ→PP,replicate_zero→PO,toList_setIfInBounds→PK
open Bool renaming and_eq_true→NH,eq_false_iff→Qq,or_eq_false_iff→O0,or_eq_true→Oy
open ByteArray renaming empty→Og,toList_eq→PB
open List renaming all_eq_true→NM,any_eq_true→OU,append_assoc→Oi,append_eq_nil_iff→PW,append_nil→Ox,append_toArray→PR,cons_append→NQ,drop_drop→OX,drop_zero→N9,eq_nil_of_length_eq_zero→NV,ext_getElem?→Ot,filterMap_cons→PA,filter_cons→Qx,getD→QZ,getElem?_append_left→NU,getElem?_append_right→NS,getElem?_cons_zero→O9,getElem?_eq_getElem→ND,getElem?_eq_some_iff→Nx,getElem?_map→NB,getElem?_range→O3,getElem?_set→Ol,getElem?_take→NO,getElem_mem→OB,getElem_of_mem→PQ,length_append→NT,length_cons→Oj,length_eq_zero_iff→PS,length_map→Nz,length_nil→OJ,length_replicate→Ph,length_take→Oa,map→QM,map_append→Of,map_congr_left→NZ,map_cons→NF,map_id→Q1,map_map→N0,map_nil→N_,mem_append→NX,mem_append_left→Pa,mem_append_right→Ps,mem_cons→NI,mem_cons_of_mem→NC,mem_cons_self→NG,mem_filter→PG,mem_filterMap→O7,mem_map→N3,mem_map_of_mem→N1,mem_of_getElem?→NJ,mem_range→Qi,mergeSort_perm→QS,nil_append→NW,not_mem_nil→Qc,pairwise_cons→Pj,pairwise_iff_getElem→Qr,pairwise_map→PZ,pairwise_mergeSort→QA,push_toArray→PY,range→Pl,replicate→On,size_toArray→Pf,sum_cons→PJ,take_append_of_le_length→O2,take_of_length_le→Oh
open List.Pairwise renaming nil→Qp
open List.Perm renaming eq_of_pairwise→Qz
open List.cons renaming injEq→OT
open Nat renaming add_zero→Oo,beq→Ov,beq_refl→PD,ble→P7,blt→O4,blt_eq→Pk,eq_of_beq_eq_true→Ob,le_of_ble_eq_true→Pr,le_of_eq→QY,le_refl→NY,le_trans→OH,min_eq_left→OO,mul_le_mul_right→NR,mul_one→PC,reduceAdd→Qa,reduceSub→P_,strongRecOn→QC,succ_mul→N8,zero_add→N2,zero_le→OI
open Ne renaming symm→Oc
open Option renaming bind_eq_some_iff→O8,bind_some→O_,isSome_iff_exists→P3,map_eq_some_iff→NK,map_some→N6
open Option.some renaming inj→Pm,injEq→Ny
open Prod.mk renaming injEq→N5
noncomputable section
set_option linter.unusedSectionVars false
set_option linter.unusedSimpArgs false
set_option linter.unusedVariables false
section
namespace Go.Tx
open Go.Awp
variable [Inhabited GMem]
section
variable {V:i7}
mutual
def TV.plain:TV V.N->Bool
 | .lf .. =>true
 | .raw _=>true
 | .rp .. =>true
 | .junk=>true
 | .agg cs=>TV.plainL cs
 | .tup vs=>TV.plainL vs
 | .fn _ a b=>TV.plainL a&&TV.plainL b
 |_=>false
def TV.plainL:List (TV V.N)->Bool
 |[]=>true
 |x::r=>TV.plain x&&TV.plainL r
end
mutual
theorem plain_has:∀{x:TV V.N},TV.plain x=true->∀n,TV.has n x=false
 | .lf ..,_,n=>by simp[TV.has]
 | .raw _,_,n=>by simp[TV.has]
 | .rp ..,_,n=>by simp[TV.has]
 | .junk,_,n=>by simp[TV.has]
 | .agg cs,h,n=>by simp only[TV.plain]at h;simp only[TV.has];exact plainL_has h n
 | .tup cs,h,n=>by simp only[TV.plain]at h;simp only[TV.has];exact plainL_has h n
 | .fn f a b,h,n=>by
  simp only[TV.plain,NH]at h
  simp only[TV.has,plainL_has h.1 n,plainL_has h.2 n];rfl
 | .bp ..,h,n=>by simp[TV.plain]at h
 | .vh ..,h,n=>by simp[TV.plain]at h
 | .ep ..,h,n=>by simp[TV.plain]at h
 | .sv ..,h,n=>by simp[TV.plain]at h
 | .mp ..,h,n=>by simp[TV.plain]at h
 | .np ..,h,n=>by simp[TV.plain]at h
 | .sd ..,h,n=>by simp[TV.plain]at h
 | .ai ..,h,n=>by simp[TV.plain]at h
theorem plainL_has:∀{l:List (TV V.N)},TV.plainL l=true->∀n,TV.hasL n l=false
 |[],_,n=>by simp[TV.hasL]
 |x::r,h,n=>by
  simp only[TV.plainL,NH]at h
  simp only[TV.hasL,plain_has h.1 n,plainL_has h.2 n];rfl
end
theorem tY{x:TV V.N}(h:TV.plain x=true)(ω ω':Nat->Nat):an V ω' x=an V ω x:=iE x λn hn=>by rw[plain_has h n]at hn;cases hn
def Ty.flat{ι:Type}:Ty ι->Bool
 | .int _=>true
 | .bool=>true
 | .str=>true
 |_=>false
def gj:TV V.N->Bool
 | .lf t x=>(aL V t x).all λl=>l.t.flat
 |_=>false
def gZ:TV V.N->Bool
 | .tup vs=>vs.all gj
 |x=>gj x
theorem u3{x:TV V.N}(h:gj x=true):TV.plain x=true:=by
 cases x<;>first|rfl|(simp[gj]at h;done)
theorem ye{x:TV V.N}(h:gZ x=true):TV.plain x=true:=by
 cases x with
 |tup vs=>
  simp only[gZ,NM]at h
  simp only[TV.plain]
  have:∀l:List (TV V.N),(∀x∈l,gj x=true)->TV.plainL l=true:=by
   intro l
   induction l with
   |nil=>intro _;rfl
   |cons y r ih=>intro h;simp only[TV.plainL,NH];exact⟨u3 (h y NG),ih λx hx=>h x (NC _ hx)⟩
  exact this vs h
 |lf t x=>rfl
 |raw _=>rfl
 |rp a b c=>rfl
 |junk=>rfl
 |agg cs=>simp[gZ,gj]at h
 |fn f a b=>simp[gZ,gj]at h
 |bp a b=>simp[gZ,gj]at h
 |vh a=>simp[gZ,gj]at h
 |ep a b c d=>simp[gZ,gj]at h
 |sv a b c d=>simp[gZ,gj]at h
 |mp a=>simp[gZ,gj]at h
 |np a b=>simp[gZ,gj]at h
 |sd a=>simp[gZ,gj]at h
 |ai a b c d=>simp[gZ,gj]at h
theorem gW{l:cg V.N}(h:l.t.flat=true){M M':Mem}{v:Value}(hv:bU M v (aK V.sz V.enc l.t l.x)):bU M' v (aK V.sz V.enc l.t l.x):=by
 obtain⟨t,x⟩:=l
 cases t with
 |int k=>simp only[aK]at hv⊢;cases hv;exact .v _
 |bool=>simp only[aK]at hv⊢;cases hv;exact .v _
 |str=>simp only[aK]at hv⊢;cases hv;exact .v _
 |st i=>simp[Ty.flat]at h
 |sl e=>simp[Ty.flat]at h
 |mp k v=>simp[Ty.flat]at h
 |er=>simp[Ty.flat]at h
 |op e=>simp[Ty.flat]at h
 |fnc=>simp[Ty.flat]at h
 |fno=>simp[Ty.flat]at h
 |ar n e=>simp[Ty.flat]at h
theorem sN{x:TV V.N}(h:gj x=true){ω:Nat->Nat}{E E':Env}{M M':Mem}{v:Value}(hv:aN E M v (an V ω x)):aN E' M' v (an V ω x):=by
 cases x with
 |lf t x=>
  simp only[gj,NM]at h
  simp only[an]at hv⊢
  cases hv with
  |d hd=>
   refine .d ?_
   cases t with
   |st i=>
    simp only[aK]at hd⊢
    rw[V.enc_cells]at hd⊢
    cases hd with
    |agg cs _ hl hh=>
     refine .agg cs _ hl λk c y hc hy=> ?_
     rw[NB]at hy
     cases hq:(V.cells i x)[k]? with
     |none=>rw[hq]at hy;cases hy
     |some l=>
      rw[hq]at hy;simp at hy;subst hy
      exact gW (h l (NJ hq)) (hh k c _ hc (by rw[NB,hq];rfl))
   |int k=>exact gW (l:=⟨.int k,x⟩) rfl hd
   |bool=>exact gW (l:=⟨.bool,x⟩) rfl hd
   |str=>exact gW (l:=⟨.str,x⟩) rfl hd
   |sl e=>simp[aL,Ty.flat]at h
   |mp k v=>simp[aL,Ty.flat]at h
   |er=>simp[aL,Ty.flat]at h
   |op e=>simp[aL,Ty.flat]at h
   |fnc=>simp[aL,Ty.flat]at h
   |fno=>simp[aL,Ty.flat]at h
   |ar n e=>
    simp only[aK]at hd⊢
    rw[bX]at hd⊢
    cases hd with
    |agg cs _ hl hh=>
     refine .agg cs _ hl λk c y hc hy=> ?_
     rw[NB]at hy
     cases hq:(aL V (.ar n e) x)[k]? with
     |none=>rw[hq]at hy;cases hy
     |some l=>
      rw[hq]at hy;simp at hy;subst hy
      exact gW (h l (NJ hq)) (hh k c _ hc (by rw[NB,hq];rfl))
 |_=>simp[gj]at h
theorem Dk{x:TV V.N}(h:gZ x=true){ω:Nat->Nat}{E E':Env}{M M':Mem}{v:Value}(hv:aN E M v (an V ω x)):aN E' M' v (an V ω x):=by
 cases x with
 |tup vs=>
  simp only[gZ,NM]at h
  simp only[an]at hv⊢
  obtain⟨cs,rfl,h1,h2⟩:=hv.htup
  refine .tup cs _ h1 λi c y hc hy=> ?_
  rw[encL_map,NB]at hy
  cases hq:vs[i]? with
  |none=>rw[hq]at hy;cases hy
  |some u=>
   rw[hq]at hy;simp at hy;subst hy
   exact sN (h u (NJ hq)) (h2 i c _ hc (by rw[encL_map,NB,hq];rfl))
 |lf t x=>exact sN (x:= .lf t x) (by simpa[gZ]using h) hv
 |_=>simp[gZ,gj]at h
def b9(own:List (Nat×Own))(a a0:H):Prop:=∀(E:Env) (M:Mem) (w:World) (v:Value),M.le (fl w)->CY E M w own->aN E M v a->aN E (fl w) v a0
theorem b9.le{own:List (Nat×Own)}{a a0:H}(h:H.le a a0):b9 own a a0:=λE M w v hM _ hv=>(h E M v hv).le hM
theorem b9.agg{own:List (Nat×Own)}{l l0:List H}(hl:l0.length=l.length)(h:∀(i:Nat) (a a0:H),l[i]?=some a->l0[i]?=some a0->b9 own a a0):b9 own (.agg l) (.agg l0):=λE M w v hM ho hv=>by
 obtain⟨cs,rfl,h1,h2⟩:=hv.hagg
 refine .agg cs l0 (by omega) λi c x hc hx=> ?_
 have hi:i<l.length:=by rw[<-hl];exact(Nx.1 hx).1
 exact h i _ x (ND hi) hx E M w c hM ho (h2 i c _ hc (ND hi))
theorem b9.vh{own:List (Nat×Own)}{n e sz:Nat}{rows:List (List D)}(h1:gt own n=some (.vec e sz rows)):b9 own (.vh n rows.length) (.d (.sl sz rows)):=λE M w v hM ho hca=>by
 obtain⟨xs,g1,g2,g3,g4⟩:=ho.ok n _ h1
 refine .d ?_
 cases hca with
 |vh n len l cc a hE hle=>
  rcases g1.2 with⟨hnil,hz⟩|⟨g,cap,cur,hE',hbg,hg,hnc,hcm,hcs,htake⟩
  ·rw[hE]at hnil
   simp only[Value.slice.injEq]at hnil
   obtain⟨rfl,rfl,rfl⟩:=hnil
   have:rows=[]:=NV hz
   subst this
   exact .slnil sz
  ·rw[hE]at hE'
   simp only[Value.slice.injEq]at hE'
   obtain⟨rfl,rfl,rfl⟩:=hE'
   refine .sl g 0 _ _ sz rows (λk=>xs.getD k undef) rfl hnc g2 (λk hk=> ?_) λi j r x hr' hx=> ?_
   ·have hxk:k<xs.length:=by rw[g1.1];exact hk
    obtain⟨u,hu⟩:∃u,xs[k]?=some u:=⟨_,ND hxk⟩
    have hq:w.cell? ⟨g,k,none⟩=some u:=by
     rw[cell_of_row w g k cur e (0,0) hg]
     have hu':=hu
     rw[<-htake,NO,Q6 hk]at hu'
     simpa using hu'
    simp[fl,hq,hu]
   ·have hlr:=g2 r (NJ hr')
    have hir:i<rows.length:=(Nx.1 hr').1
    have hj:j<sz:=by have:=(Nx.1 hx).1;omega
    have hmul:(i+1) *sz<=rows.length *sz:=NR _ hir
    rw[N8]at hmul
    have hxk:i *sz+j<xs.length:=by rw[g1.1];omega
    have:=g3 i j r xs[i *sz+j] x hr' hx (ND hxk)
    have hg':xs.getD (i *sz+j) undef=xs[i *sz+j]:=by simp[hxk]
    rw[hg']
    exact this.mono hM
theorem b9.dvh{own:List (Nat×Own)}{n e sz:Nat}{rows:List (List DD)}{ds:List (List D)}(h1:gt own n=some (.dvec e sz rows))(hd:DD.toR rows=some ds):b9 own (.vh n rows.length) (.d (.sl sz ds)):=λE M w v hM ho hca=>by
 have hok:=ho.ok n _ h1
 obtain⟨ad,cap,hE⟩:=hok.dlen
 have hv:=d5 hca hE
 subst hv
 obtain⟨B,g1,g2,g3⟩:=hok
 exact .d (g1.frozen hM (λb _ o v hv=>hv) (xs:=[.sl sz ds]) (by simp[DD.toL,DD.toD,hd]) 0 _ _ rfl rfl)
def s_:TO V.N->Option (cg V.N)
 | .vec _ e xs=>some ⟨.sl e,xs⟩
 | .dvec _ e ys=>some ⟨.sl e,ys⟩
 |_=>none
theorem kq{o:TO V.N}{l0:cg V.N}(h:s_ o=some l0):∃x:Own,(∀ω,aX V ω o=some x)/\∀(own:List (Nat×Own)) (n:Nat),gt own n=some x->b9 own (.vh n (TO.len (some o))) (.d (aK V.sz V.enc l0.t l0.x)):=by
 unfold s_ at h
 split at h
 ·rename_i te e xs
  cases h
  refine⟨_,λω=>rfl,λown n hn=> ?_⟩
  have:=b9.vh hn
  rw[Nz]at this
  exact this
 ·rename_i te e ys
  cases h
  refine⟨_,λω=>rfl,λown n hn=> ?_⟩
  have:=b9.dvh hn (rM ys)
  rw[Nz]at this
  simpa[TO.len,aK]using this
 ·cases h
theorem MT{P:Program}{f:FuncId}{args0 args:List H}{r:H}{own:List (Nat×Own)}(h:cX P f args0 [] r [])(hl:args.length=args0.length)
 (ha:∀(i:Nat) (a a0:H),args[i]?=some a->args0[i]?=some a0->b9 own a a0)
 (hr:∀(E E':Env) (M M':Mem) (v:Value),aN E M v r->aN E' M' v r):EV P f args own r own:=by
 refine⟨h.1,λE M w vs hgm hm ho hvs=> ?_⟩
 have hM:M.le (fl w):=λb o v hv=>hm b o v hv
 have hrep:fB E (fl w) vs args0:=by
  refine⟨hvs.1.trans hl,λi c x hc hx=> ?_⟩
  have hi:i<args.length:=by rw[hl];exact(Nx.1 hx).1
  have hca:=hvs.2 i c _ hc (ND hi)
  exact ha i _ x (ND hi) hx E M w c hM ho hca
 refine(h.2 E (fl w) w vs (hgm.mono hM λ_ _ _=>rfl) (λb o v hv=>hv) ⟨λn o hn=>by simp[gt]at hn,λn m o o' b _ hn=>by simp[gt]at hn⟩ hrep).mono ?_
 rintro e w' ⟨v,E',M',rfl,hp⟩
 have hfr:∀b,b<w.heap.size->w'.heap[b]?=w.heap[b]?:=λb hb=>hp.frame b hb λ⟨n,o,hn,_⟩=>by simp[gt]at hn
 have hft:∀n o,gt own n=some o->∀b,o.foot w' (E n) b->o.foot w (E n) b:=λn o hn b hb=>((ho.ok n o hn).foot_keep (λb hb=>hfr b ((ho.ok n o hn).block hb).1) b).1 hb
 refine⟨v,E,M,rfl,{rep:=hr _ _ _ _ _ hp.rep,owns:=⟨λn o hn=> ?_,λn m o o' b hne hn hm hb hb'=>ho.apart n m o o' b hne hn hm (hft n o hn b hb) (hft m o' hm b hb')⟩,mle:=Mem.le_refl _,mem:=λb o v hv=>hp.mem b o v (hp.mle b o v (hm b o v hv)),mnew:=λb o v hv=> .inl hv,home:=λn o b hn hb=> .inl ⟨n,o,hn,hft n o hn b hb⟩,frame:=λk hk _=>hfr k hk,grows:=hp.grows,os:=hp.os,tape:=hp.tape,output:=hp.output,env:=λ_ _=>rfl},λ_ _=>rfl⟩
 have hok:=ho.ok n o hn
 refine hok.keep rfl (λb hb=>hfr b (hok.block hb).1) (λ_ _=>rfl) (Mem.le_refl _) λb hb=>(hok.block hb).2
def E4(S:TS V.N):List (Ty V.ι)->List (TV V.N)->Option (List (Nat×TO V.N)×List (cg V.N))
 |[],[]=>some ([],[])
 | .sl _::ts, .vh n::xs=>match S.own? n with
  |some o=>match s_ o with
   |some l0=>match E4 S ts xs with
    |some (l,ls)=>some ((n,o)::l,l0::ls)
    |none=>none
   |none=>none
  |_=>none
 |t::ts,x::xs=>match lV V false t x with
  |some l0=>match E4 S ts xs with
   |some (l,ls)=>some (l,l0::ls)
   |none=>none
  |none=>none
 |_,_=>none
def I6:List (TV V.N)->Bool
 |[]=>false
 | .vh _::_=>true
 |_::r=>I6 r
def Kw(S:TS V.N):Pt V.ι->TV V.N->Option (List (Nat×TO V.N)×List (cg V.N))
 | .dat (.sl e), .vh n=>match S.own? n with
  |some o=>match s_ o with
   |some l0=>if l0.t= .sl e then some ([(n,o)],[l0])else none
   |none=>none
  |_=>none
 | .dat (.st i), .agg vs=>match I6 vs with
  |true=>match E4 S (V.tys i) vs with
   |some (p::l,ls)=>match V.ofCells i ls with
    |some y=>some (p::l,[⟨.st i,y⟩])
    |none=>none
   |_=>none
  |false=>match mt1 V [] (.dat (.st i)) (.agg vs)with
   |some (_,ls)=>some ([],ls)
   |none=>none
 | .dat t,x=>match mt1 V [] (.dat t) x with
  |some (_,ls)=>some ([],ls)
  |none=>none
 | .fn f [] [], .fn f' [] []=>if f=f' then some ([],[])else none
 |_,_=>none
def uG(S:TS V.N):List (Pt V.ι)->List (TV V.N)->Option (List (Nat×TO V.N)×List (cg V.N))
 |[],[]=>some ([],[])
 |p::ps,x::xs=>match Kw S p x with
  |some (l,ls)=>match uG S ps xs with
   |some (l',ls')=>some (l++l',ls++ls')
   |none=>none
  |none=>none
 |_,_=>none
def bg(P:Program)(sig:Sig V)(F:HL V.N sig.tys->Option (HL V.N sig.rcut.tys))(A:Type)(args:List (TV V.N))(S:TS V.N)(k:TE V.N->Option A):Option A:=
 match uG S sig.params args with
 |some (lent,ls)=>match FF sig.tys ls with
  |some v=>F v>>=λr=>match lG P sig r with
   |some x=>match lent with
    |[]=>match TV.plain x with
     |true=>k {val:=x}
     |false=>none
    |p::l=>match gZ x with
     |true=>k {val:=x,acc:=(p::l).map (·.1),upd:=(p::l)++(p::l).map λq=>(q.1, .gone (TO.len (some q.2)))}
     |false=>none
   |none=>none
  |none=>none
 |none=>none
theorem Bh{σ σ':cq}{t:Ty V.ι}{x:TV V.N}{ls:List (cg V.N)}(h:mt1 V σ (.dat t) x=some (σ',ls)):σ'=σ:=by
 cases x with
 |lf t' y=>
  simp only[mt1]at h
  have:=(ah h).2
  simp only[Ny,N5]at this
  exact this.1.symm
 |raw v=>
  unfold mt1 at h
  split at h<;>first
   |(simp only[Ny,N5]at h;exact h.1.symm)
   |(cases h;done)
   |contradiction
 |agg cs=>
  unfold mt1 at h
  split at h<;>first
   |(split at h
     ·simp only[Ny,N5]at h;exact h.1.symm
     ·cases h)
   |(cases h;done)
   |contradiction
 |_=>simp[mt1]at h
theorem b9.pre{own:List (Nat×Own)}{a b c:H}(h:H.le a b)(k:b9 own b c):b9 own a c:=λE M w v hM ho hv=>k E M w v hM ho (h E M v hv)
theorem b9.post{own:List (Nat×Own)}{a b c:H}(h:b9 own a b)(k:H.le b c):b9 own a c:=λE M w v hM ho hv=>k E _ v (h E M w v hM ho hv)
def FL(own:List (Nat×Own))(l:List (Nat×TO V.N)):Prop:=∀n o,(n,o)∈l->∀x,(∀ω,aX V ω o=some x)->gt own n=some x
theorem k_{S:TS V.N}:∀{ts:List (Ty V.ι)} {xs:List (TV V.N)} {l:List (Nat×TO V.N)} {ls:List (cg V.N)},E4 S ts xs=some (l,ls)->
 xs.length=ls.length/\(∀n o,(n,o)∈l->S.own? n=some o/\∃l0,s_ o=some l0)/\
  ∀own:List (Nat×Own),FL own l->∀(i:Nat) (x:TV V.N) (l0:cg V.N),xs[i]?=some x->ls[i]?=some l0->b9 own (an V S.len x) (.d (aK V.sz V.enc l0.t l0.x))
 |[],[],l,ls,h=>by
  simp[E4]at h;obtain⟨rfl,rfl⟩:=h
  exact⟨rfl,λn o hm=>by simp at hm,λown _ i x l0 hx=>by simp at hx⟩
 |[],_::_,l,ls,h=>by simp[E4]at h
 |_::_,[],l,ls,h=>by unfold E4 at h;split at h<;>first|(cases h;done)|contradiction
 |t::ts,x::xs,l,ls,h=>by
  unfold E4 at h
  split at h
  ·rename_i heq _;cases heq
  ·rename_i e ts' n xs' heq1 heq2
   simp only[OT]at heq1 heq2
   obtain⟨rfl,rfl⟩:=heq1
   obtain⟨rfl,rfl⟩:=heq2
   split at h
   ·rename_i o hn
    split at h
    ·rename_i l00 hl0
     split at h
     ·rename_i l' ls' h2
      simp at h;obtain⟨rfl,rfl⟩:=h
      obtain⟨b1,b2,b3⟩:=k_ h2
      refine⟨by simp[b1],λm o hm=> ?_,λown hown i y l0 hy hl=> ?_⟩
      ·rcases NI.1 hm with he|hm
       ·simp only[N5]at he
        obtain⟨rfl,rfl⟩:=he
        exact⟨hn,_,hl0⟩
       ·exact b2 m o hm
      ·cases i with
       |zero=>
        simp at hy hl;subst hy;subst hl
        obtain⟨x,x1,x2⟩:=kq hl0
        have:=x2 own n (hown n o NG x x1)
        simp only[an]
        unfold TS.len
        rw[hn];exact this
       |succ i=>exact b3 own (λm a hm=>hown m a (NC _ hm)) i y l0 (by simpa using hy) (by simpa using hl)
     ·cases h
    ·cases h
   ·cases h
  ·rename_i t' ts' x' xs' _ heq1 heq2
   simp only[OT]at heq1 heq2
   obtain⟨rfl,rfl⟩:=heq1
   obtain⟨rfl,rfl⟩:=heq2
   split at h
   ·rename_i l0 hl
    split at h
    ·rename_i l' ls' h2
     simp at h;obtain⟨rfl,rfl⟩:=h
     obtain⟨b1,b2,b3⟩:=k_ h2
     refine⟨by simp[b1],b2,λown hown i y l1 hy hl1=> ?_⟩
     cases i with
     |zero=>
      simp at hy hl1;subst hy;subst hl1
      have hls:cu V false [t] [x]=some [l0]:=by simp[cu,hl]
      obtain⟨ds,e1,e2,_⟩:=ce (ω:=S.len) hls
      simp only[encL]at e1
      obtain⟨d,hd⟩:∃d,ds=[d]:=by
       match ds,e1 with
       |[d],_=>exact⟨d,rfl⟩
       |[],e1=>simp at e1
       |_::_::_,e1=>simp at e1
      subst hd
      simp only[NF,N_,OT,and_true]at e1
      rw[e1]
      obtain⟨d0,g1,g2⟩:=e2.get 0 (aK V.sz V.enc l0.t l0.x) rfl
      simp at g1;subst g1
      refine b9.le λE M a hr=> ?_
      cases hr with
      |d q=>exact .d (g2 M a q)
     |succ i=>exact b3 own hown i y l1 (by simpa using hy) (by simpa using hl1)
    ·cases h
   ·cases h
  ·cases h
theorem xD{S:TS V.N}{p:Pt V.ι}{x:TV V.N}{l:List (Nat×TO V.N)}{ls:List (cg V.N)}(h:Kw S p x=some (l,ls)):
 (∃x0,(∀rest,bd1 V p (ls++rest)=some (x0,rest))/\∀ω0:Nat->Nat,(l=[]->H.le (an V S.len x) (an V ω0 x0))/\∀own,FL own l->b9 own (an V S.len x) (an V ω0 x0))/\
   ∀n o,(n,o)∈l->S.own? n=some o/\∃l0,s_ o=some l0:=by
 unfold Kw at h
 split at h
 ·rename_i e n
  split at h
  ·rename_i o hn
   split at h
   ·rename_i l0 hl0
    have h':=ah h;clear h
    obtain⟨he,h⟩:=h'
    simp at h;obtain⟨rfl,rfl⟩:=h
    refine⟨⟨.lf l0.t l0.x,λrest=>rfl,λω0=>⟨λhl=>by simp at hl,λown hown=> ?_⟩⟩,λm o' hm=> ?_⟩
    ·obtain⟨x,x1,x2⟩:=kq hl0
     have:=x2 own n (hown n o NG x x1)
     simp only[an]
     unfold TS.len
     rw[hn];exact this
    ·simp at hm
     obtain⟨rfl,rfl⟩:=hm
     exact⟨hn,l0,hl0⟩
   ·cases h
  ·cases h
 ·rename_i i vs
  split at h
  ·split at h
   ·rename_i p0 l0 ls0 hC
    split at h
    ·rename_i y hy
     simp at h;obtain⟨rfl,rfl⟩:=h
     obtain⟨b1,b2,b3⟩:=k_ hC
     refine⟨⟨.lf (.st i) y,λrest=>rfl,λω0=>⟨λhl=>by simp at hl,λown hown=> ?_⟩⟩,b2⟩
     have hc:=V.of_cells i ls0 y hy
     simp only[an,aK]
     refine b9.pre (kA _) (b9.post (b9.agg (l0:=ls0.map λl=> .d (aK V.sz V.enc l.t l.x)) (by rw[Nz,aJ];exact b1.symm) λi a a0 ha ha0=> ?_) ?_)
     ·rw[encL_map,NB,NK]at ha
      rw[NB,NK]at ha0
      obtain⟨u,hu,rfl⟩:=ha
      obtain⟨l1,hl1,rfl⟩:=ha0
      exact b3 own hown i u l1 hu hl1
     ·have e1:V.enc i y=ls0.map λl=>aK V.sz V.enc l.t l.x:=by rw[V.enc_cells,hc]
      have:=rf ((ls0.map λl=>aK V.sz V.enc l.t l.x).map H.d)
      rw[bA,cY]at this
      rw[e1]
      rw[N0]at this
      exact this
    ·cases h
   ·cases h
  ·split at h
   ·rename_i σ ls' h1
    simp at h;obtain⟨rfl,rfl⟩:=h
    obtain⟨_,_,_,x0,a1,a2⟩:=nV h1
    have hσ:=Bh h1
    subst hσ
    have hle:∀ω0:Nat->Nat,H.le (an V S.len (.agg vs)) (an V ω0 x0):=λω0 E M v hv=>a2 [] [] E E M S.len ω0 v (Sub.refl _) rfl ⟨λc n hc=>by simp[gt]at hc,λc n hc=>by simp at hc⟩ hv
    exact⟨⟨x0,a1,λω0=>⟨λ_=>hle ω0,λown _=>b9.le (hle ω0)⟩⟩,λn o hm=>by simp at hm⟩
   ·cases h
 ·rename_i t x' hne hne2
  split at h
  ·rename_i σ ls' h1
   simp at h;obtain⟨rfl,rfl⟩:=h
   obtain⟨_,_,_,x0,a1,a2⟩:=nV h1
   have hσ:=Bh h1
   subst hσ
   have hle:∀ω0:Nat->Nat,H.le (an V S.len x) (an V ω0 x0):=λω0 E M v hv=>a2 [] [] E E M S.len ω0 v (Sub.refl _) rfl ⟨λc n hc=>by simp[gt]at hc,λc n hc=>by simp at hc⟩ hv
   exact⟨⟨x0,a1,λω0=>⟨λ_=>hle ω0,λown _=>b9.le (hle ω0)⟩⟩,λn o hm=>by simp at hm⟩
  ·cases h
 ·rename_i f f'
  have h':=ah h;clear h
  obtain⟨he,h⟩:=h'
  subst he
  simp at h;obtain⟨rfl,rfl⟩:=h
  have hle:∀ω0:Nat->Nat,H.le (an V S.len (.fn f [] [])) (an V ω0 (.fn f [] []:TV V.N)):=λω0=>by simp only[an,encL];exact H.le.refl _
  exact⟨⟨.fn f [] [],λrest=>rfl,λω0=>⟨λ_=>hle ω0,λown _=>b9.le (hle ω0)⟩⟩,λn o hm=>by simp at hm⟩
 ·cases h
theorem mY{S:TS V.N}:∀{ps:List (Pt V.ι)} {xs:List (TV V.N)} {l:List (Nat×TO V.N)} {ls:List (cg V.N)},uG S ps xs=some (l,ls)->
 ∃xs0:List (TV V.N),xs0.length=xs.length/\(∀rest,bdL V ps (ls++rest)=some (xs0,rest))/\(∀(i:Nat) (x x0:TV V.N),xs[i]?=some x->xs0[i]?=some x0->
  ∀ω0:Nat->Nat,(l=[]->H.le (an V S.len x) (an V ω0 x0))/\∀own,FL own l->b9 own (an V S.len x) (an V ω0 x0))/\
  ∀n o,(n,o)∈l->S.own? n=some o/\∃l0,s_ o=some l0
 |[],[],l,ls,h=>by
  simp[uG]at h;obtain⟨rfl,rfl⟩:=h
  exact⟨[],rfl,λrest=>rfl,λi x x0 hx=>by simp at hx,λn o hm=>by simp at hm⟩
 |[],_::_,l,ls,h=>by simp[uG]at h
 |_::_,[],l,ls,h=>by simp[uG]at h
 |p::ps,x::xs,l,ls,h=>by
  simp only[uG]at h
  split at h
  ·rename_i l1 ls1 h1
   split at h
   ·rename_i l2 ls2 h2
    simp at h;obtain⟨rfl,rfl⟩:=h
    obtain⟨⟨x0,a1,a2⟩,a3⟩:=xD h1
    obtain⟨xs0,b1,b2,b3,b4⟩:=mY h2
    refine⟨x0::xs0,by simp[b1],λrest=>by simp only[bdL,Oi,a1,b2],λi y y0 hy hy0 ω0=> ?_,λn o hm=> ?_⟩
    ·cases i with
     |zero=>
      simp at hy hy0;subst hy;subst hy0
      exact⟨λhl=>(a2 ω0).1 (PW.1 hl).1,λown hown=>(a2 ω0).2 own λm a hm=>hown m a (Pa _ hm)⟩
     |succ i=>
      have:=b3 i y y0 (by simpa using hy) (by simpa using hy0) ω0
      exact⟨λhl=>this.1 (PW.1 hl).2,λown hown=>this.2 own λm a hm=>hown m a (Ps _ hm)⟩
    ·rcases NX.1 hm with hm|hm
     ·exact a3 n o hm
     ·exact b4 n o hm
   ·cases h
  ·cases h
theorem l6{own:List (Nat×Own)}:∀{l:List (Nat×Own)},(∀p∈l,∃o,gt own p.1=some o)->ek own l=[]
 |[],_=>rfl
 |(n,o)::r,h=>by
  obtain⟨o',ho⟩:=h (n,o) NG
  simp only at ho
  simp only[ek,ho]
  exact l6 λp hp=>h p (NC _ hp)
theorem aq{P:Program}{fid:Nat}{sig:Sig V}{F:HL V.N sig.tys->Option (HL V.N sig.rcut.tys)}(hF:bc P fid sig F)(ho:sig.objs=[])(hk0:sig.keep=[]){A:Type}{args:List (TV V.N)}{S:TS V.N}{dst:Option Tmp}
 {k:TE V.N->Option A}{r:A}(h:bg P sig F A args S k=some r):
 ∃te,k te=some r/\nC S te/\uB P fid (encL V S.len args) (az V S).own? λe'=>ELe true e' (fF (S.app dst te).len te):=by
 unfold bg at h
 split at h
 ·rename_i lent ls hargs
  split at h
  ·rename_i v hv
   obtain⟨y,hy,h⟩:=aR h
   split at h
   ·rename_i x hx
    have hc:=hF v y x hy hx
    have hkept:gO sig y=[]:=by
     unfold gO
     rw[hk0,List.filter_eq_nil_iff]
     intro p _;simp
    rw[hkept]at hc
    obtain⟨xs0,b1,b2,b3,b4⟩:=mY hargs
    have hls:=r6 hv
    have hst:bi sig v=(xs0,[]):=by
     unfold bi
     rw[hls]
     have:=b2 []
     rw[Ox]at this
     rw[this,ho]
     rfl
    have hown0:(aD sig v).own=[]:=by unfold aD;rw[hst]
    rw[hst,hown0]at hc
    simp only[br,List.filterMap_nil]at hc
    generalize (aD sig v).len=ω0 at hc
    cases lent with
    |nil=>
     simp only at h
     split at h
     ·rename_i hpl
      refine⟨_,h,eQ S x [],?_⟩
      have hw:=hc.weak (args':=encL V S.len args) (by rw[aJ,aJ];exact b1.symm) λi a a0 ha ha0=>by
       rw[encL_map,NB,NK]at ha ha0
       obtain⟨u,hu,rfl⟩:=ha
       obtain⟨u0,hu0,rfl⟩:=ha0
       exact(b3 i u u0 hu hu0 ω0).1 rfl
      have hplH:H.plain (an V (bh V sig.rcut y).len x)=true:=by
       have:∀z:H,(∀n,H.has n z=false)->H.plain z=true:=by
        intro z
        refine H.rec (motive_1:=λz=>(∀n,H.has n z=false)->H.plain z=true) (motive_2:=λl=>(∀n,H.hasL n l=false)->H.plainL l=true) ?_ ?_ ?_ ?_ ?_ ?_ ?_ ?_ ?_ ?_ ?_ ?_ ?_ ?_ z
        ·intro _ _;rfl
        ·intro _;rfl
        ·intro m o hn;have:=hn m;simp[H.has]at this
        ·intro m o hn;have:=hn m;simp[H.has]at this
        ·intro m s i o hn;have:=hn m;simp[H.has]at this
        ·intro m s i o hn;have:=hn m;simp[H.has]at this
        ·intro m hn;have:=hn m;simp[H.has]at this
        ·intro m b hn;have:=hn m;simp[H.has]at this
        ·intro m hn;have:=hn m;simp[H.has]at this
        ·intro cs ih hn;simp only[H.plain];exact ih λn=>by have:=hn n;simpa[H.has]using this
        ·intro cs ih hn;simp only[H.plain];exact ih λn=>by have:=hn n;simpa[H.has]using this
        ·intro f a b ih1 ih2 hn
         simp only[H.plain,NH]
         exact⟨ih1 λn=>by have:=hn n;simp only[H.has,O0]at this;exact this.1,ih2 λn=>by have:=hn n;simp only[H.has,O0]at this;exact this.2⟩
        ·intro _;rfl
        ·intro x r ih1 ih2 hn
         simp only[H.plainL,NH]
         exact⟨ih1 λn=>by have:=hn n;simp only[H.hasL,O0]at this;exact this.1,ih2 λn=>by have:=hn n;simp only[H.hasL,O0]at this;exact this.2⟩
       exact this _ λn=>by rw[iF];exact plain_has hpl n
      refine xA hw hplH ?_
      exact lT (dst:=dst) (l:=[]) (tY hpl _ _)
     ·cases h
    |cons p l=>
     simp only at h
     split at h
     ·rename_i hfl
      generalize hL:p::l=L at h hargs b3 b4
      have hpl:=ye hfl
      refine⟨_,h,λm o hm=> ?_,?_⟩
      ·right
       simp only[ez]at hm
       cases hq:gt L m with
       |some o'=>
        rw[hq]at hm;simp at hm;subst hm
        obtain⟨h2,_⟩:=b4 m o' (bH hq)
        unfold TS.len;rw[h2]
       |none=>
        rw[hq]at hm
        have hm':=bH hm
        obtain⟨q,hq1,hq2⟩:=N3.1 hm'
        simp only[N5]at hq2
        obtain⟨rfl,rfl⟩:=hq2
        obtain⟨h2,_⟩:=b4 q.1 q.2 hq1
        unfold TS.len;rw[h2];rfl
      ·let own:List (Nat×Own):=L.filterMap λq=>(aX V S.len q.2).map λo=>(q.1,o)
       have hmap:∀l':List (Nat×TO V.N),(∀n o,(n,o)∈l'->S.own? n=some o/\∃l0,s_ o=some l0)->∀ω:Nat->Nat,
        l'.map (λq=>(q.1,aX V ω q.2))=(l'.filterMap λq=>(aX V S.len q.2).map λo=>(q.1,o)).map (λq=>(q.1,some q.2))/\
        (l'.map λq:Nat×TO V.N=>(q.1,TO.gone (N:=V.N) (TO.len (some q.2)))).map (λq=>(q.1,aX V ω q.2))=(l'.filterMap λq=>(aX V S.len q.2).map λo=>(q.1,o)).map (λq=>(q.1,none))/\
        l'.map (·.1)=(l'.filterMap λq=>(aX V S.len q.2).map λo=>(q.1,o)).map (·.1):=by
        intro l'
        induction l' with
        |nil=>intro _ ω;exact⟨rfl,rfl,rfl⟩
        |cons q r ih=>
         intro hq ω
         obtain⟨n,o⟩:=q
         obtain⟨h2,l00,hl0⟩:=hq n o NG
         obtain⟨i1,i2,i3⟩:=ih (λn o hm=>hq n o (NC _ hm)) ω
         obtain⟨x0,e0,_⟩:=kq hl0
         simp only[PA,e0,N6,NF]
         rw[i1,i2,i3]
         exact⟨rfl,rfl,rfl⟩
       have hgt:∀n x,gt own n=some x->∃o,(n,o)∈L/\S.own? n=some o/\aX V S.len o=some x:=by
        intro n x hn
        obtain⟨z,h1,h2⟩:=dB hn
        exact⟨z,h1,(b4 n z h1).1,h2⟩
       have hgt':∀n o,(n,o)∈L->∀x,(∀ω,aX V ω o=some x)->gt own n=some x:=by
        intro n o hn x hx
        have hkey:n∈own.map (·.1):=by rw[<-(hmap L b4 S.len).2.2];exact N1 (f:=(·.1)) hn
        obtain⟨x',hxx⟩:=fD hkey
        obtain⟨o',h1,h2,h3⟩:=hgt n x' hxx
        rw[(b4 n o hn).1]at h2;cases h2
        rw[hx]at h3;cases h3
        exact hxx
       have hat:=MT (args:=encL V S.len args) (own:=own) hc (by rw[aJ,aJ];exact b1.symm) (λi a a0 ha ha0=>by
        rw[encL_map,NB,NK]at ha ha0
        obtain⟨u,hu,rfl⟩:=ha
        obtain⟨u0,hu0,rfl⟩:=ha0
        exact(b3 i u u0 hu hu0 ω0).2 own hgt') (λE E' M M' v hv=>Dk hfl hv)
       refine⟨own,_,own,hat,λq hq=> ?_,?_⟩
       ·obtain⟨z,hz1,hz2⟩:=O7.1 hq
        obtain⟨h2,l00,hl0⟩:=b4 z.1 z.2 hz1
        obtain⟨x0,e0,_⟩:=kq hl0
        rw[e0]at hz2
        simp only[N6,Ny]at hz2
        subst hz2
        rw[aG,h2];exact e0 _
       ·refine bq ?_ ?_ ?_ ?_
        ·exact tY hpl _ _
        ·simp only[gc]
         exact l6 λp hp=>by
          obtain⟨o,hoo⟩:=fD (N1 (f:=(·.1)) hp)
          exact⟨o,hoo⟩
        ·simp only[gc,Of]
         obtain⟨i1,i2,_⟩:=hmap L b4 (S.app dst {val:=x,acc:=L.map (·.1),upd:=L++L.map λq=>(q.1, .gone (TO.len (some q.2)))}).len
         rw[i1,i2]
        ·simp only[gc]
         exact(hmap L b4 S.len).2.2.symm
     ·cases h
   ·cases h
  ·cases h
 ·cases h
end
end Go.Tx
end
section
namespace Go.Tx
open Go.Awp
variable [Inhabited GMem]
def aa(f:Func):Code:=match f.body with
 |some c=>c
 |none=> .skip
def aw:Code->List Code
 | .seq a b=>aw a++aw b
 | .block _ x=>aw x
 | .cond _ a b=>aw a++aw b
 | .loop b=>[b]
 | .scope b=>aw b
 |_=>[]
def ae(c:Code)(i:Nat):Code:=match(aw c)[i]? with
 |some b=>b
 |none=> .skip
def eG:Code->List Code
 | .seq a b=>eG a++eG b
 | .block _ x=>eG x
 | .cond _ a b=>eG a++eG b
 | .scope b=>b::eG b
 |_=>[]
def bJ(c:Code)(i:Nat):Code:=match(eG c)[i]? with
 |some b=>b
 |none=> .skip
def fx(c:Code)(l:Nat):Code:=match findLabel c l with
 |some b=>b
 |none=> .skip
def bv(p:Code->Prop):List Code->Prop
 |[]=>True
 |b::r=>p b/\bv p r
theorem ef{p:Code->Prop}:∀{l m:List Code},bv p (l++m)->bv p l/\bv p m
 |[],_,h=>⟨trivial,h⟩
 |_::_,_,h=>⟨⟨h.1,(ef h.2).1⟩,(ef h.2).2⟩
theorem am{a b:Prop}(h:a=b)(x:a):b:=h▸x
section
variable {V:i7}
def ax(C:Ctx)(X:Xc V)(b:Code):Prop:=∀la,X.loops (cD b)=some la->bC C b la
def iZ(C:Ctx)(X:Xc V)(x:Code):Prop:=∀l la,X.jumps (cD x)=some (l,la)->r_ C x l la
theorem ku{C:Ctx}{X:Xc V}:∀{c:Code},bv (ax C X) (aw c)->bv (iZ C X) (eG c)->LOk C X c:=by
 intro c
 induction c with
 |seq a b iha ihb=>intro h g;exact⟨iha (ef h).1 (ef g).1,ihb (ef h).2 (ef g).2⟩
 |block id x ih=>intro h g;exact ih h g
 |scope x ih=>intro h g;exact⟨ih h g.2,g.1⟩
 |cond c a b iha ihb=>intro h g;exact⟨iha (ef h).1 (ef g).1,ihb (ef h).2 (ef g).2⟩
 |loop b ih=>intro h g;exact h.1
 |_=>intro _ _;trivial
theorem zE{p:Code->Prop}(h:∀b,p b):∀l:List Code,bv p l
 |[]=>trivial
 |b::r=>⟨h b,zE h r⟩
theorem au{C:Ctx}{X:Xc V}{c:Code}(h:bv (ax C X) (aw c))(hj:∀k,X.jumps k=none:=by intro k;rfl):LOk C X c:=
 ku h (zE (λx l la e=>by rw[hj]at e;cases e) _)
theorem AO{C:Ctx}{X:Xc V}{x:Code}{l:Nat}{la0:xy V X.sh}(e:X.jumps (cD x)=some (l,la0))(h:r_ C x l la0):iZ C X x:=λl' la hl=>by
 rw[e]at hl
 cases hl
 exact h
theorem bd{C:Ctx}{X:Xc V}{b:Code}{la0:xy V X.sh}(e:X.loops (cD b)=some la0)(h:bC C b la0):ax C X b:=λla hl=>by
 rw[e]at hl
 cases hl
 exact h
end
end Go.Tx
end
section
namespace Go.Tx
open Go.Awp
variable [Inhabited GMem]
section
variable {ι:Type} {N:ι->Type}
mutual
def TV.ren(f:Nat->Nat):TV N->TV N
 | .bp n o=> .bp (f n) o
 | .vh n=> .vh (f n)
 | .ep n s i o=> .ep (f n) s i o
 | .sv n s i o=> .sv (f n) s i o
 | .mp n=> .mp (f n)
 | .np n b=> .np (f n) b
 | .sd n=> .sd (f n)
 | .ai n s i o=> .ai (f n) s i o
 | .agg cs=> .agg (TV.renL f cs)
 | .tup vs=> .tup (TV.renL f vs)
 | .fn g a b=> .fn g (TV.renL f a) (TV.renL f b)
 | .lf t x=> .lf t x
 | .raw v=> .raw v
 | .rp t x off=> .rp t x off
 | .junk=> .junk
def TV.renL(f:Nat->Nat):List (TV N)->List (TV N)
 |[]=>[]
 |x::r=>TV.ren f x::TV.renL f r
end
def TO.ren(f:Nat->Nat):TO N->TO N
 | .box o cells=> .box o (TV.renL f cells)
 | .bst i x=> .bst i x
 | .vec te e xs=> .vec te e xs
 | .dvec te e xs=> .dvec te e xs
 | .pvec te e xs=> .pvec te e xs
 | .map k v es=> .map k v es
 | .iter s p=> .iter s p
 | .miter m k v es rest cur=> .miter (f m) k v es rest cur
 | .que te e xs=> .que te e xs
 | .maps te k v es al=> .maps te k v es (al.map λq=>(f q.1,q.2))
 | .bar n e xs=> .bar n e xs
 | .alias m=> .alias m
 | .gone l=> .gone l
mutual
def TV.allN(p:Nat->Bool):TV N->Bool
 | .bp n _=>p n
 | .vh n=>p n
 | .ep n _ _ _=>p n
 | .sv n _ _ _=>p n
 | .mp n=>p n
 | .np n _=>p n
 | .sd n=>p n
 | .ai n _ _ _=>p n
 | .agg cs=>TV.allNL p cs
 | .tup vs=>TV.allNL p vs
 | .fn _ a b=>TV.allNL p a&&TV.allNL p b
 | .lf .. =>true
 | .raw _=>true
 | .rp .. =>true
 | .junk=>true
def TV.allNL(p:Nat->Bool):List (TV N)->Bool
 |[]=>true
 |x::r=>TV.allN p x&&TV.allNL p r
end
def TO.allN(p:Nat->Bool):TO N->Bool
 | .box _ cells=>TV.allNL p cells
 | .bst .. =>true
 | .vec .. =>true
 | .dvec .. =>true
 | .pvec .. =>true
 | .map .. =>true
 | .iter .. =>true
 | .miter m _ _ _ _ _=>p m
 | .que .. =>true
 | .maps _ _ _ _ al=>match al with
  |some q=>p q.1
  |none=>true
 | .bar .. =>true
 | .alias _=>false
 | .gone _=>false
end
section
variable {V:i7}
mutual
theorem TV.allN_has{p:Nat->Bool}{n:Nat}:∀{x:TV V.N},TV.allN p x=true->TV.has n x=true->p n=true
 | .bp m o,h,hn=>by simp[TV.has]at hn;subst hn;simpa[TV.allN]using h
 | .vh m,h,hn=>by simp[TV.has]at hn;subst hn;simpa[TV.allN]using h
 | .ep m s i o,h,hn=>by simp[TV.has]at hn;subst hn;simpa[TV.allN]using h
 | .sv m s i o,h,hn=>by simp[TV.has]at hn;subst hn;simpa[TV.allN]using h
 | .mp m,h,hn=>by simp[TV.has]at hn;subst hn;simpa[TV.allN]using h
 | .np m b,h,hn=>by simp[TV.has]at hn;subst hn;simpa[TV.allN]using h
 | .sd m,h,hn=>by simp[TV.has]at hn;subst hn;simpa[TV.allN]using h
 | .ai m s i o,h,hn=>by simp[TV.has]at hn;subst hn;simpa[TV.allN]using h
 | .agg cs,h,hn=>by simp only[TV.allN]at h;simp only[TV.has]at hn;exact TV.allNL_has h hn
 | .tup cs,h,hn=>by simp only[TV.allN]at h;simp only[TV.has]at hn;exact TV.allNL_has h hn
 | .fn f a b,h,hn=>by
  simp only[TV.allN,NH]at h
  simp only[TV.has,Oy]at hn
  rcases hn with hn|hn
  ·exact TV.allNL_has h.1 hn
  ·exact TV.allNL_has h.2 hn
 | .lf ..,h,hn=>by simp[TV.has]at hn
 | .raw _,h,hn=>by simp[TV.has]at hn
 | .rp ..,h,hn=>by simp[TV.has]at hn
 | .junk,h,hn=>by simp[TV.has]at hn
theorem TV.allNL_has{p:Nat->Bool}{n:Nat}:∀{l:List (TV V.N)},TV.allNL p l=true->TV.hasL n l=true->p n=true
 |[],h,hn=>by simp[TV.hasL]at hn
 |x::r,h,hn=>by
  simp only[TV.allNL,NH]at h
  simp only[TV.hasL,Oy]at hn
  rcases hn with hn|hn
  ·exact TV.allN_has h.1 hn
  ·exact TV.allNL_has h.2 hn
end
theorem TO.allN_has{p:Nat->Bool}{n:Nat}{o:TO V.N}(h:TO.allN p o=true)(hn:TO.has n o=true):p n=true:=by
 cases o with
 |box oty cells=>exact TV.allNL_has h hn
 |bst i x=>simp[TO.has]at hn
 |vec te e xs=>simp[TO.has]at hn
 |dvec te e xs=>simp[TO.has]at hn
 |pvec te e xs=>simp[TO.has]at hn
 |map k v es=>simp[TO.has]at hn
 |iter s p=>simp[TO.has]at hn
 |miter m k v es rest cur=>simp[TO.has]at hn;subst hn;exact h
 |que te e xs=>simp[TO.has]at hn
 |maps te k v es al=>
  cases al with
  |none=>simp[TO.has]at hn
  |some q=>simp[TO.has]at hn;subst hn;exact h
 |bar m e xs=>simp[TO.has]at hn
 |alias m=>simp[TO.has]at hn
 |gone l=>simp[TO.has]at hn
mutual
theorem H.allN_of{p:Nat->Bool}:∀{x:H},(∀n,H.has n x=true->p n=true)->H.allN p x=true
 | .bp m o,h=>by simp only[H.allN];exact h m (by simp[H.has])
 | .vh m l,h=>by simp only[H.allN];exact h m (by simp[H.has])
 | .ep m s i o,h=>by simp only[H.allN];exact h m (by simp[H.has])
 | .sv m s i o,h=>by simp only[H.allN];exact h m (by simp[H.has])
 | .mp m,h=>by simp only[H.allN];exact h m (by simp[H.has])
 | .np m b,h=>by simp only[H.allN];exact h m (by simp[H.has])
 | .sd m,h=>by simp only[H.allN];exact h m (by simp[H.has])
 | .agg cs,h=>by simp only[H.allN];exact H.allNL_of λn hn=>h n (by simpa[H.has]using hn)
 | .tup cs,h=>by simp only[H.allN];exact H.allNL_of λn hn=>h n (by simpa[H.has]using hn)
 | .fn f a b,h=>by
  simp only[H.allN,NH]
  exact⟨H.allNL_of λn hn=>h n (by simp[H.has,hn]),H.allNL_of λn hn=>h n (by simp[H.has,hn])⟩
 | .d _,h=>by simp[H.allN]
 | .junk,h=>by simp[H.allN]
theorem H.allNL_of{p:Nat->Bool}:∀{l:List H},(∀n,H.hasL n l=true->p n=true)->H.allNL p l=true
 |[],h=>by simp[H.allNL]
 |x::r,h=>by
  simp only[H.allNL,NH]
  exact⟨H.allN_of λn hn=>h n (by simp[H.hasL,hn]),H.allNL_of λn hn=>h n (by simp[H.hasL,hn])⟩
end
theorem wv(f:Nat->Nat):∀l:List H,fC (H.renL f l)=fC l
 |[]=>rfl
 |x::r=>by
  have ih:=wv f r
  cases x<;>simp[H.renL,H.ren,fC,ih]
theorem A5(f:Nat->Nat)(l:List H):H.ren f (bA l)=bA (H.renL f l):=by
 unfold bA
 rw[wv]
 split<;>simp[H.ren]
theorem xZ(f:Nat->Nat)(v:Value):H.ren f (bw v)=bw v:=by cases v<;>simp[bw,H.ren]
mutual
theorem wJ{f:Nat->Nat}{ω ω':Nat->Nat}:∀x:TV V.N,(∀n,TV.has n x=true->ω' (f n)=ω n)->an V ω' (TV.ren f x)=H.ren f (an V ω x)
 | .bp m o,h=>by simp[TV.ren,an,H.ren]
 | .vh m,h=>by simp[TV.ren,an,H.ren,h m (by simp[TV.has])]
 | .ep m s i o,h=>by simp[TV.ren,an,H.ren]
 | .sv m s i o,h=>by simp[TV.ren,an,H.ren]
 | .mp m,h=>by simp[TV.ren,an,H.ren]
 | .np m b,h=>by simp[TV.ren,an,H.ren]
 | .sd m,h=>by simp[TV.ren,an,H.ren]
 | .ai m s i o,h=>by simp[TV.ren,an,H.ren]
 | .agg cs,h=>by simp only[TV.ren,an,A5];rw[encL_ren cs λn hn=>h n (by simpa[TV.has]using hn)]
 | .tup cs,h=>by simp only[TV.ren,an,H.ren];rw[encL_ren cs λn hn=>h n (by simpa[TV.has]using hn)]
 | .fn g a b,h=>by
  simp only[TV.ren,an,H.ren]
  rw[encL_ren a λn hn=>h n (by simp[TV.has,hn]),encL_ren b λn hn=>h n (by simp[TV.has,hn])]
 | .lf t x,h=>by simp[TV.ren,an,H.ren]
 | .raw v,h=>by simp[TV.ren,an,xZ]
 | .rp t x o,h=>by simp[TV.ren,an,H.ren]
 | .junk,h=>by simp[TV.ren,an,H.ren]
theorem encL_ren{f:Nat->Nat}{ω ω':Nat->Nat}:∀l:List (TV V.N),(∀n,TV.hasL n l=true->ω' (f n)=ω n)->encL V ω' (TV.renL f l)=H.renL f (encL V ω l)
 |[],h=>rfl
 |x::r,h=>by
  simp only[TV.renL,encL,H.renL]
  rw[wJ x λn hn=>h n (by simp[TV.hasL,hn]),encL_ren r λn hn=>h n (by simp[TV.hasL,hn])]
end
theorem vP(f:Nat->Nat):∀l:List D,H.renL f (l.map .d)=l.map .d
 |[]=>rfl
 |x::r=>by simp only[NF,H.renL,H.ren,vP f r]
theorem Di{f:Nat->Nat}{ω ω':Nat->Nat}(o:TO V.N)(h:∀n,TO.has n o=true->ω' (f n)=ω n):aX V ω' (TO.ren f o)=(aX V ω o).map (Own.ren f):=by
 cases o with
 |box oty cells=>simp only[TO.ren,aX,N6,Own.ren];rw[encL_ren cells h]
 |bst i x=>simp only[TO.ren,aX,N6,Own.ren];rw[vP]
 |vec te e xs=>simp[TO.ren,aX,Own.ren]
 |dvec te e xs=>simp[TO.ren,aX,Own.ren]
 |pvec te e xs=>simp[TO.ren,aX,Own.ren]
 |map k v es=>simp[TO.ren,aX,Own.ren]
 |iter s p=>simp[TO.ren,aX,Own.ren]
 |miter m k v es rest cur=>simp[TO.ren,aX,Own.ren]
 |que te e xs=>simp[TO.ren,aX,Own.que,Own.ren]
 |maps te k v es al=>cases al<;>simp[TO.ren,aX,Own.maps,Own.ren]
 |bar m e xs=>simp only[TO.ren,aX,N6,Own.ren];rw[vP]
 |alias m=>simp[TO.ren,aX]
 |gone l=>simp[TO.ren,aX]
theorem EV.weak{P:Program}{f:FuncId}{args args':List H}{own own1 own':List (Nat×Own)}{r:H}(h:EV P f args own r own')
 (ha:∀E M vs,fB E M vs args'->fB E M vs args)(ho:∀E M w,CY E M w own1->CY E M w own)(hk:∀n,(∃o,gt own n=some o)↔∃o,gt own1 n=some o)
 (hf:∀E M w,CY E M w own1->∀b,mi E w own b->mi E w own1 b):EV P f args' own1 r own':=by
 refine⟨h.1,λE M w vs hgm hm how hvs=>(h.2 E M w vs hgm hm (ho E M w how) (ha E M vs hvs)).mono ?_⟩
 have hin:∀b,mi E w own b->mi E w own1 b:=hf E M w how
 rintro e w' ⟨v,E',M',rfl,hp,hE⟩
 refine⟨v,E',M',rfl,{hp with mnew:=λb o v hv=> ?_,home:=λn o b hn hb=> ?_,frame:=λk hk hx=>hp.frame k hk λh1=>hx (hin k h1)},λn hn=>hE n ?_⟩
 ·rcases hp.mnew b o v hv with h1|h1|h1
  ·exact .inl h1
  ·exact .inr (.inl (hin b h1))
  ·exact .inr (.inr h1)
 ·rcases hp.home n o b hn hb with h1|h1
  ·exact .inl (hin b h1)
  ·exact .inr h1
 ·rcases hn with hn|hn
  ·exact .inl hn
  ·exact .inr ((hk n).2 hn)
end
end Go.Tx
end
section
namespace Go.Tx
open Go.Awp
variable [Inhabited GMem]
section
variable {V:i7}
def AJ(n:Nat):List Nat->Bool
 |[]=>false
 |k::r=>Ov k n||AJ n r
def Hg(ks:List Nat):List Nat->List Nat
 |[]=>[]
 |n::r=>match AJ n ks with
  |true=>Hg ks r
  |false=>n::Hg ks r
def eY:Nat->cq->List Nat->cq
 |_,σ,[]=>σ
 |b,σ,c::r=>match gt σ c with
  |some _=>eY b σ r
  |none=>eY (b+1) ((c,b)::σ) r
def Fq(sig:Sig V):Bool:=sig.params.all (uA V sig.objs)&&sig.objs.all (λp=>match p.2 with
 | .box _ ps=>ps.all (uA V sig.objs)
 |_=>true)&&sig.objs.all (λp=>P7 given p.1)
def zd(S:TS V.N)(n:Nat):TO V.N->Bool
 | .box _ _=>Ov (S.len n) 0
 | .bst _ _=>Ov (S.len n) 0
 | .map _ _ _=>Ov (S.len n) 0
 | .iter _ _=>Ov (S.len n) 0
 | .vec _ _ _=>true
 | .dvec _ _ _=>true
 | .pvec _ _ _=>true
 | .que _ _ _=>true
 | .maps _ _ _ _ _=>true
 | .bar _ _ _=>Ov (S.len n) 0
 |_=>false
def z8(S:TS V.N)(sig:Sig V)(τ:cq)(x:TV V.N)(os:List (Nat×TO V.N)):Bool:=
 σok τ&&os.all (λp=>P7 given p.1||O4 (σf τ p.1) given)&&TV.allN (λn=>(gt os n).isSome) x&&os.all (λp=>TO.allN (λn=>(gt os n).isSome) p.2)&&
  os.all (λp=> !AJ p.1 (sig.objs.map (·.1))||zd S (σf τ p.1) p.2)&&fq (os.map (·.1))
def Mt:TO V.N->Option Nat
 | .vec _ _ xs=>some xs.length
 | .dvec _ _ xs=>some xs.length
 | .pvec _ _ xs=>some xs.length
 | .que _ _ xs=>some xs.length
 | .maps _ _ _ es _=>some es.length
 |_=>none
def gn(S:TS V.N)(ks:List Nat)(τ:cq):List (Nat×TO V.N)->List (Nat×Nat)
 |[]=>[]
 |(c,o)::r=>match Mt o with
  |some l=>match AJ c ks with
   |true=>(l,S.len (σf τ c))::gn S ks τ r
   |false=>gn S ks τ r
  |none=>gn S ks τ r
def wU{A:Type}:List (Nat×Nat)->Option A->Option A
 |[],k=>k
 |(a,b)::r,k=>if a=b then wU r k else none
theorem nN{A:Type}{x:A}:∀{l:List (Nat×Nat)} {k:Option A},wU l k=some x->k=some x/\∀p∈l,p.1=p.2
 |[],k,h=>⟨h,λp hp=>by cases hp⟩
 |(a,b)::r,k,h=>by
  simp only[wU]at h
  split at h
  ·rename_i hab
   obtain⟨h1,h2⟩:=nN h
   refine⟨h1,λp hp=> ?_⟩
   rcases NI.1 hp with rfl|hp
   ·exact hab
   ·exact h2 p hp
  ·cases h
theorem dD{S:TS V.N}{ks:List Nat}{τ:cq}{c:Nat}{x:TO V.N}(hx:Mt x=some (TO.len (some x)))(hi:AJ c ks=true):∀{l:List (Nat×TO V.N)},(c,x)∈l->(TO.len (some x),S.len (σf τ c))∈gn S ks τ l
 |(d,o)::r,h=>by
  rcases NI.1 h with h|h
  ·simp only[N5]at h
   obtain⟨rfl,rfl⟩:=h
   simp only[gn,hx,hi]
   exact NG
  ·have ih:=dD (S:=S) (τ:=τ) hx hi h
   unfold gn
   split
   ·split
    ·exact NC _ ih
    ·exact ih
   ·exact ih
def bN(P:Program)(sig:Sig V)(F:HL V.N sig.tys->Option (HL V.N sig.rcut.tys))(A:Type)(args:List (TV V.N))(S:TS V.N)(k:TE V.N->Option A):Option A:=
 match mtL V [] sig.params args with
 |some (σ0,l0)=>match mtO V S σ0 sig.objs with
  |some (σ1,l1)=>match Fq sig with
   |true=>match FF sig.tys (l0++l1)with
    |some v=>F v>>=λr=>match lG P sig r with
     |some x=>match z8 S sig (eY (80000+S.own.length) σ1 ((gO sig r).map (·.1))) x (gO sig r)with
      |true=>wU (gn S (sig.objs.map (·.1)) (eY (80000+S.own.length) σ1 ((gO sig r).map (·.1))) (gO sig r)) (k
       { val:=x.ren (σf (eY (80000+S.own.length) σ1 ((gO sig r).map (·.1))))
         acc:=sig.objs.map λp=>σf σ1 p.1
         upd:=((gO sig r).map λp=>(σf (eY (80000+S.own.length) σ1 ((gO sig r).map (·.1))) p.1,p.2.ren (σf (eY (80000+S.own.length) σ1 ((gO sig r).map (·.1))))))++sig.objs.map λp=>(σf σ1 p.1, .gone (S.len (σf σ1 p.1)))
         new:=Hg (sig.objs.map λp=>σf σ1 p.1) ((gO sig r).map λp=>σf (eY (80000+S.own.length) σ1 ((gO sig r).map (·.1))) p.1)})
      |false=>none
     |none=>none
    |none=>none
   |false=>none
  |none=>none
 |none=>none
theorem kf{n:Nat}:∀{l:List Nat},AJ n l=true↔n∈l
 |[]=>by simp[AJ]
 |k::r=>by
  simp only[AJ,Oy,NI,kf (l:=r)]
  constructor
  ·rintro(h|h)
   ·exact .inl (Ob h).symm
   ·exact .inr h
  ·rintro(rfl|h)
   ·exact .inl (by simp)
   ·exact .inr h
theorem nF{α:Type}:∀{l:List (Nat×α)} {n:Nat},gt l n=none↔n∉l.map (·.1)
 |[],n=>by simp[gt]
 |(k,x)::r,n=>by
  rw[af]
  by_cases hk:k=n
  ·subst hk;simp
  ·rw[Q5 hk,nF (l:=r)]
   simp[Oc hk]
theorem gz{own:List (Nat×Own)}:∀{l:List (Nat×Own)},ek own l=Hg (own.map (·.1)) (l.map (·.1))
 |[]=>rfl
 |(n,o)::r=>by
  simp only[ek,NF,Hg]
  cases hq:gt own n with
  |none=>
   have:AJ n (own.map (·.1))=false:=by
    rw[Qq];intro h;exact nF.1 hq (kf.1 h)
   simp only[this,gz (l:=r)]
  |some y=>
   have:AJ n (own.map (·.1))=true:=kf.2 (N1 (f:=(·.1)) (bH hq))
   simp only[this,gz (l:=r)]
theorem jC:∀{l:List Nat} {b:Nat} {σ:cq} {c n:Nat},gt σ c=some n->gt (eY b σ l) c=some n
 |[],b,σ,c,n,h=>h
 |d::r,b,σ,c,n,h=>by
  simp only[eY]
  split
  ·exact jC h
  ·rename_i hd
   refine jC ?_
   rw[af]
   by_cases hk:d=c
   ·subst hk;rw[hd]at h;cases h
   ·rw[Q5 hk];exact h
theorem σf_some{σ:cq}{c n:Nat}(h:gt σ c=some n):σf σ c=n:=by unfold σf;rw[h]
end
end Go.Tx
end
section
namespace Go.Tx
open Go.Awp
variable [Inhabited GMem]
section
variable {V:i7}
theorem nE{α:Type}(q:Nat->Bool):∀(l:List (Nat×α)) (n:Nat) (x:α),gt (l.filter λp=>q p.1) n=some x->gt l n=some x
 |[],n,x,h=>by simp[gt]at h
 |(k,y)::r,n,x,h=>by
  rw[Qx]at h
  rw[af]
  by_cases hk:k=n
  ·subst hk
   rw[Q6 rfl]
   split at h
   ·rw[af,Q6 rfl]at h;exact h
   ·rename_i hq
    have:=bH h
    have:=(PG.1 this).2
    exact(hq this).elim
  ·rw[Q5 hk]
   split at h
   ·rw[af,Q5 hk]at h;exact nE q r n x h
   ·exact nE q r n x h
theorem vd{α β:Type}{f:Nat->Nat}{g:α->β}(hf:∀a b,f a=f b->a=b):∀(l:List (Nat×α)) (n:Nat),gt (l.map λp=>(f p.1,g p.2)) (f n)=(gt l n).map g
 |[],n=>by simp[gt]
 |(k,y)::r,n=>by
  rw[NF,af,af]
  by_cases hk:k=n
  ·subst hk;simp
  ·rw[Q5 hk,Q5 λe=>hk (hf _ _ e)];exact vd hf r n
theorem rD{ks:List Nat}{n:Nat}:∀{l:List Nat},n∈l->n∉ks->n∈Hg ks l
 |[],h,_=>by cases h
 |k::r,h,hn=>by
  simp only[Hg]
  rcases NI.1 h with rfl|h
  ·split
   ·rename_i hi;exact(hn (kf.1 hi)).elim
   ·exact NG
  ·split
   ·exact rD h hn
   ·exact NC _ (rD h hn)
theorem AR(f:Nat->Nat)(o:TO V.N):TO.len (some (TO.ren f o))=TO.len (some o):=by cases o<;>rfl
theorem aA{P:Program}{fid:Nat}{sig:Sig V}{F:HL V.N sig.tys->Option (HL V.N sig.rcut.tys)}(hF:bc P fid sig F){A:Type}{args:List (TV V.N)}{S:TS V.N}{dst:Option Tmp}
 {k:TE V.N->Option A}{r:A}(h:bN P sig F A args S k=some r):
 ∃te,k te=some r/\nC S te/\uB P fid (encL V S.len args) (az V S).own? λe'=>ELe true e' (fF (S.app dst te).len te):=by
 unfold bN at h
 split at h
 ·rename_i σ0 l0 h0
  split at h
  ·rename_i σ1 l1 h1
   split at h
   ·rename_i hin
    split at h
    ·rename_i v hv
     obtain⟨y,hy,h⟩:=aR h
     split at h
     ·rename_i x hx
      split at h
      ·rename_i hout
       obtain⟨h,hlens⟩:=nN h
       have hc:=hF v y x hy hx
       have hls:=r6 hv
       obtain⟨a1,a2,a3,xs0,a4,a5,a6⟩:=ia h0
       obtain⟨b1,b2,os0,b3,b4,b5,b6⟩:=bI h1
       have hst:bi sig v=(xs0,os0):=by
        unfold bi
        rw[hls,a5 l1]
        simp only[b4]
       have hS:(aD sig v).own=os0:=by unfold aD;rw[hst]
       rw[hst,hS]at hc
       have hlen0:∀c o,gt os0 c=some o->(aD sig v).len c=TO.len (some o):=by
        intro c o ho
        unfold TS.len TS.own?
        rw[hS,ho]
       generalize (aD sig v).len=ω0 at hc hlen0
       generalize hos:gO sig y=os at h hout hc hlens
       have hlen1:∀c o,gt os c=some o->(bh V sig.rcut y).len c=TO.len (some o):=by
        intro c o ho
        rw[<-hos]at ho
        have:=nE (λn=>sig.keep.contains n) (bh V sig.rcut y).own c o ho
        unfold TS.len TS.own?
        rw[this]
       generalize (bh V sig.rcut y).len=ω1 at hc hlen1
       generalize hτ:eY (80000+S.own.length) σ1 (os.map (·.1))=τ at h hout hlens
       have hsub:∀c n,gt σ1 c=some n->gt τ c=some n:=λc n hcn=>by rw[<-hτ];exact jC hcn
       simp only[z8,NH,NM]at hout
       obtain⟨⟨⟨⟨⟨o1,o2⟩,o3⟩,o4⟩,o5⟩,o6⟩:=hout
       simp only[Fq,NH,NM]at hin
       obtain⟨⟨i1,i2⟩,i3⟩:=hin
       have hfi:=σf_inj o1
       have hbound:∀p∈sig.objs,∃n o,gt σ1 p.1=some n/\S.own? n=some o/\∃z,aX V S.len o=some z:=by
        intro p hp
        have:p.1∈os0.map (·.1):=by rw[b6];exact N1 hp
        obtain⟨q,hq,hqe⟩:=N3.1 this
        obtain⟨n,o,q1,q2,_,z,q3,_⟩:=b5 q.1 q.2 hq
        exact⟨n,o,by rw[<-hqe];exact q1,q2,_,q3 S.len⟩
       have hTr:∀E:Env,Tr σ1 sig.objs E (λc=>E (σf τ c)) S.len ω0:=λE=>by
        refine⟨λc n hcn=>by rw[σf_some (hsub c n hcn)],λc n hc' hcn=> ?_⟩
        rw[OU]at hc'
        obtain⟨p,hp,hpn⟩:=hc'
        have hpn:p.1=c:=by simpa using hpn
        have hm:c∈os0.map (·.1):=by rw[b6,<-hpn];exact N1 hp
        obtain⟨o,ho⟩:=fD hm
        obtain⟨n',o',q1,q2,q3,_⟩:=b5 c o (bH ho)
        rw[hcn]at q1;cases q1
        rw[hlen0 c o ho,q3];unfold TS.len;rw[q2]
       have hob':∀p∈sig.objs,match p.2 with| .box _ ps=>ps.all (uA V sig.objs)=true|_=>True:=by
        intro p hp
        have:=i2 p hp
        cases hq:p.2 with
        |box oty ps=>rw[hq]at this;simpa using this
        |st i=>trivial
        |vec te e=>trivial
        |dvec te e out=>trivial
        |map tk tv=>trivial
        |iter=>trivial
        |miter m k v=>trivial
        |que te e=>trivial
        |maps te k v=>trivial
        |bar m e=>trivial
       have hown:∀n o,gt (sig.objs.filterMap λp=>((S.own? (σf σ1 p.1)).bind (aX V S.len)).map λo=>(σf σ1 p.1,o)) n=some o->(S.own? n).bind (aX V S.len)=some o:=by
        intro n o hn
        obtain⟨p,hp,hpe⟩:=O7.1 (bH hn)
        rw[NK]at hpe
        obtain⟨o',h1,h2⟩:=hpe
        simp only[N5]at h2
        obtain⟨rfl,rfl⟩:=h2
        exact h1
       have hkeys:∀n,n∈(sig.objs.filterMap λp=>((S.own? (σf σ1 p.1)).bind (aX V S.len)).map λo=>(σf σ1 p.1,o)).map (·.1)↔n∈sig.objs.map λp=>σf σ1 p.1:=by
        intro n
        constructor
        ·intro hn
         obtain⟨q,hq,rfl⟩:=N3.1 hn
         obtain⟨p,hp,hpe⟩:=O7.1 hq
         rw[NK]at hpe
         obtain⟨o',h1,h2⟩:=hpe
         rw[<-h2]
         exact N1 (f:=λp=>σf σ1 p.1) hp
        ·intro hn
         obtain⟨p,hp,rfl⟩:=N3.1 hn
         obtain⟨n,o,q1,q2,z,q3⟩:=hbound p hp
         refine N3.2 ⟨(σf σ1 p.1,z),O7.2 ⟨p,hp,?_⟩,rfl⟩
         rw[σf_some q1,q2]
         simp[q3]
       have hex:∀n o,gt (yR (σf τ) (br ω0 os0)) n=some o->∃z,(gt (sig.objs.filterMap λp=>((S.own? (σf σ1 p.1)).bind (aX V S.len)).map λo=>(σf σ1 p.1,o)) n=some z)/\(∀E M w,aI E M w n z->aI E M w n o)/\∀(E:Env) M w b,aI E M w n z->o.foot w (E n) b->z.foot w (E n) b:=by
        intro n o hn
        obtain⟨c,o1,rfl,hg,rfl⟩:=dC hfi hn
        obtain⟨t,ht,hto⟩:=dB hg
        obtain⟨n',oS,q1,q2,_,x4,q4,x',q5,q6,q7⟩:=b5 c t ht
        rw[q5]at hto
        simp only[Ny]at hto;subst hto
        have e:σf τ c=n':=σf_some (hsub _ _ q1)
        have hck:c∈sig.objs.map (·.1):=by rw[<-b6];exact N1 (f:=(·.1)) ht
        obtain⟨p,hp,hpc⟩:=N3.1 hck
        have hk':=(hkeys n').2 (N3.2 ⟨p,hp,by rw[hpc];exact σf_some q1⟩)
        obtain⟨z,hz⟩:=fD hk'
        have hz':=hown _ _ hz
        rw[q2]at hz'
        simp only[O_,q4,Ny]at hz'
        rw[e]
        refine⟨z,hz,λE M w hw=> ?_,λE M w b hw hb=> ?_⟩
        ·rw[<-hz']at hw
         have:=(q6 σ1 sig.objs E _ M w S.len ω0 (Sub.refl _) hob' (hTr E) hw).ren (E':=E) (f:=σf τ) rfl λm _=>rfl
         rw[e]at this
         exact this
        ·rw[Own.ren_foot]at hb
         rw[<-hz']
         exact q7 E (λ_=>E n') M w S.len ω0 b (by rw[<-hz']at hw;exact hw) rfl hb
       have hsome:∀p∈os,∃o,aX V ω1 p.2=some o:=by
        intro p hp
        have:=o4 p hp
        cases hq:p.2 with
        |box oty cells=>exact⟨_,rfl⟩
        |bst i x=>exact⟨_,rfl⟩
        |vec te e xs=>exact⟨_,rfl⟩
        |dvec te e xs=>exact⟨_,rfl⟩
        |pvec te e xs=>exact⟨_,rfl⟩
        |map tk tv es=>exact⟨_,rfl⟩
        |iter s p=>exact⟨_,rfl⟩
        |miter m k v es rest cur=>exact⟨_,rfl⟩
        |que te e xs=>exact⟨_,rfl⟩
        |maps te k v es al=>exact⟨_,rfl⟩
        |bar m e xs=>exact⟨_,rfl⟩
        |alias m=>rw[hq]at this;simp[TO.allN]at this
        |gone l=>rw[hq]at this;simp[TO.allN]at this
       have hgos:∀n,(gt os n).isSome=true->(gt (br ω1 os) n).isSome=true:=by
        intro n hn
        obtain⟨o,ho⟩:=P3.1 hn
        obtain⟨z,hz⟩:=hsome _ (bH ho)
        rw[mK ho hz];rfl
       refine⟨_,h,?_,?_⟩
       ·intro m o hm
        simp only[ez]at hm
        split at hm
        ·rename_i o' hq
         simp only[Ny]at hm;subst hm
         obtain⟨p,hp,hpe⟩:=N3.1 (bH hq)
         simp only[N5]at hpe
         obtain⟨rfl,rfl⟩:=hpe
         have h5:=o5 p hp
         rw[Oy]at h5
         by_cases hpk:AJ p.1 (sig.objs.map (·.1))=true
         ·right
          rcases h5 with h5|h5
          ·rw[hpk]at h5;cases h5
          ·rw[AR]
           cases hpp:p.2 with
           |box oty cells=>rw[hpp]at h5;simp only[zd]at h5;exact(Ob h5).symm
           |bst i x=>rw[hpp]at h5;simp only[zd]at h5;exact(Ob h5).symm
           |vec te e xs=>exact hlens _ (dD (x:= .vec te e xs) rfl hpk (hpp▸hp))
           |dvec te e xs=>exact hlens _ (dD (x:= .dvec te e xs) rfl hpk (hpp▸hp))
           |pvec te e xs=>exact hlens _ (dD (x:= .pvec te e xs) rfl hpk (hpp▸hp))
           |map tk tv es=>rw[hpp]at h5;simp only[zd]at h5;exact(Ob h5).symm
           |iter s p=>rw[hpp]at h5;simp only[zd]at h5;exact(Ob h5).symm
           |miter m k v es rest cur=>rw[hpp]at h5;cases h5
           |que te e xs=>exact hlens _ (dD (x:= .que te e xs) rfl hpk (hpp▸hp))
           |maps te k v es al=>exact hlens _ (dD (x:= .maps te k v es al) rfl hpk (hpp▸hp))
           |bar m e xs=>rw[hpp]at h5;simp only[zd]at h5;exact(Ob h5).symm
           |alias m=>rw[hpp]at h5;cases h5
           |gone l=>rw[hpp]at h5;cases h5
         ·left
          refine rD (N3.2 ⟨p,hp,rfl⟩) λhmem=>hpk (kf.2 ?_)
          obtain⟨q,hq',hqe⟩:=N3.1 hmem
          obtain⟨n,o,q1,_⟩:=hbound q hq'
          rw[σf_some q1,<-σf_some (hsub _ _ q1)]at hqe
          rw[<-hfi _ _ hqe]
          exact N1 (f:=(·.1)) hq'
        ·right
         obtain⟨q,hq',hqe⟩:=N3.1 (bH hm)
         simp only[N5]at hqe
         obtain⟨rfl,rfl⟩:=hqe
         rfl
       ·have hat:=hc.ren τ (by
         simp only[Hs,NH,NM]
         refine⟨⟨⟨⟨o1,λp hp=> ?_⟩,λp hp=> ?_⟩,?_⟩,λp hp=> ?_⟩
         ·obtain⟨z,hz,hz2⟩:=O7.1 hp
          rw[NK]at hz2
          obtain⟨o',_,rfl⟩:=hz2
          have:z.1∈sig.objs.map (·.1):=by rw[<-b6];exact N1 (f:=(·.1)) hz
          obtain⟨q,hq,hqe⟩:=N3.1 this
          have:=i3 q hq
          rw[hqe]at this
          exact this
         ·obtain⟨z,hz,hz2⟩:=O7.1 hp
          rw[NK]at hz2
          obtain⟨o',_,rfl⟩:=hz2
          exact o2 z hz
         ·refine H.allN_of λn hn=> ?_
          rw[iF]at hn
          have:=TV.allN_has o3 hn
          rw[Oy];exact .inr (hgos n this)
         ·obtain⟨z,hz,hz2⟩:=O7.1 hp
          rw[NK]at hz2
          obtain⟨o',ho',rfl⟩:=hz2
          have h4:=o4 z hz
          cases o' with
          |box oty cells=>
           simp only[Own.allN]
           refine H.allNL_of λn hn=> ?_
           have:TO.has n z.2=true:=by rw[<-j8 ω1 n ho'];exact hn
           have:=TO.allN_has h4 this
           rw[Oy];exact .inr (hgos n this)
          |vec e sz rows=>rfl
          |map es=>rfl
          |iter s p=>rfl
          |dvec e sz rows=>rfl
          |miter m es rest cur=>
           simp only[Own.allN]
           have:TO.has m z.2=true:=by rw[<-j8 ω1 m ho'];exact PD m
           have:=TO.allN_has h4 this
           rw[Oy];exact .inr (hgos m this)
          |gen ds G=>
           simp only[Own.allN,NM]
           intro m hm
           have:TO.has m z.2=true:=by rw[<-j8 ω1 m ho'];exact OU.2 ⟨m,hm,PD m⟩
           have:=TO.allN_has h4 this
           rw[Oy];exact .inr (hgos m this))
        generalize hownE:(sig.objs.filterMap λp=>((S.own? (σf σ1 p.1)).bind (aX V S.len)).map λo=>(σf σ1 p.1,o))=own at hown hkeys hex
        refine⟨own,_,_,EV.weak (args':=encL V S.len args) (own1:=own) hat (λE M vs hvs=> ?_) (λE M w hw=> ?_) (λn=> ?_) (λE M w hw b hb=> ?_),λp hp=> ?_,?_⟩
        ·refine⟨by rw[hvs.1,H.renL_len,aJ,aJ,a4],λi c z hcz hz=> ?_⟩
         rw[H.renL_get,encL_map,NB,Option.map_map,NK]at hz
         obtain⟨u0,hu0,rfl⟩:=hz
         have hi:i<args.length:=by rw[<-a4];exact(Nx.1 hu0).1
         have hu:=ND hi
         obtain⟨_,k2⟩:=a6 i _ u0 hu hu0
         have hr:=hvs.2 i c (an V S.len args[i]) hcz (by rw[encL_map,NB,hu];rfl)
         exact(k2 σ1 sig.objs E _ M S.len ω0 c b1 (NM.2 i1) (hTr E) hr).ren λn _=>rfl
        ·refine⟨λn o hn=> ?_,λn m o o' b hne hn hm hb=> ?_⟩
         ·obtain⟨z,hz,hz',_⟩:=hex n o hn
          exact hz' E M w (hw.ok n z hz)
         ·obtain⟨z,hz,_,f1⟩:=hex n o hn
          obtain⟨z',hz',_,f2⟩:=hex m o' hm
          exactλhb'=>hw.apart n m z z' b hne hz hz' (f1 E M w b (hw.ok n z hz) hb) (f2 E M w b (hw.ok m z' hz') hb')
        ·constructor
         ·rintro⟨o,ho⟩
          obtain⟨z,hz,_⟩:=hex n o ho
          exact⟨z,hz⟩
         ·rintro⟨o,ho⟩
          have:=(hkeys n).1 (N1 (f:=(·.1)) (bH ho))
          obtain⟨p,hp,rfl⟩:=N3.1 this
          have hm:p.1∈os0.map (·.1):=by rw[b6];exact N1 hp
          obtain⟨t,ht⟩:=fD hm
          obtain⟨n',oS,q1,q2,_,x4,q4,x',q5,q6⟩:=b5 p.1 t (bH ht)
          refine⟨(x' ω0).ren (σf τ),?_⟩
          rw[σf_some q1,<-σf_some (hsub _ _ q1),g5 hfi,mK ht (q5 ω0)]
          rfl
        ·obtain⟨n,o,hn,hb⟩:=hb
         obtain⟨z,hz,_,f1⟩:=hex n o hn
         exact⟨n,z,hz,f1 E M w b (hw.ok n z hz) hb⟩
        ·rw[<-hownE]at hp
         obtain⟨q,hq,hqe⟩:=O7.1 hp
         rw[NK]at hqe
         obtain⟨o',h1,rfl⟩:=hqe
         rw[aG];exact h1
        ·have hω:∀te:TE V.N,(∀c o,gt os c=some o->gt te.upd (σf τ c)=some (o.ren (σf τ)))->∀c,(gt os c).isSome=true->(S.app dst te).len (σf τ c)=ω1 c:=by
          intro te hte c hcs
          obtain⟨o,ho⟩:=P3.1 hcs
          rw[bV,hte c o ho,hlen1 c o ho]
          exact AR _ o
         have hkl:own.map (·.1)=sig.objs.map λp=>σf σ1 p.1:=by
          rw[<-hownE]
          have:∀l:List (Nat×OPt V.ι),(∀p∈l,∃n o,gt σ1 p.1=some n/\S.own? n=some o/\∃z,aX V S.len o=some z)->
           (l.filterMap λp=>((S.own? (σf σ1 p.1)).bind (aX V S.len)).map λo=>(σf σ1 p.1,o)).map (·.1)=l.map λp=>σf σ1 p.1:=by
           intro l
           induction l with
           |nil=>intro _;rfl
           |cons p r ih=>
            intro hl
            obtain⟨n,o,q1,q2,z,q3⟩:=hl p NG
            have e:(S.own? (σf σ1 p.1)).bind (aX V S.len)=some z:=by rw[σf_some q1,q2];exact q3
            simp only[PA,e,N6,NF]
            rw[ih λq hq=>hl q (NC _ hq)]
          exact this sig.objs hbound
         have hml:(yR (σf τ) (br ω1 os)).map (·.1)=os.map λp=>σf τ p.1:=by
          have:∀l:List (Nat×TO V.N),(∀p∈l,∃o,aX V ω1 p.2=some o)->(yR (σf τ) (br ω1 l)).map (·.1)=l.map λp=>σf τ p.1:=by
           intro l
           induction l with
           |nil=>intro _;rfl
           |cons p r ih=>
            intro hl
            obtain⟨o,ho⟩:=hl p NG
            have:=ih λq hq=>hl q (NC _ hq)
            unfold yR br at this⊢
            simp only[PA,ho,N6,NF]
            rw[this]
          exact this os hsome
         refine bq ?_ ?_ ?_ ?_
         ·simp only[gc]
          refine(wJ x λn hn=>hω _ (λc o ho=> ?_) n (TV.allN_has o3 hn)).symm
          simp only[ez,vd hfi,ho,N6]
         ·simp only[gc]
          rw[gz,hkl]
          rw[hml]
         ·simp only[gc,Of]
          refine congr (congrArg _ ?_) ?_
          ·have:∀(ω2:Nat->Nat) (l:List (Nat×TO V.N)),(∀p∈l,∃o,aX V ω1 p.2=some o)->(∀p∈l,aX V ω2 (TO.ren (σf τ) p.2)=(aX V ω1 p.2).map (Own.ren (σf τ)))->
            (yR (σf τ) (br ω1 l)).map (λp=>(p.1,some p.2))=(l.map λp=>(σf τ p.1,TO.ren (σf τ) p.2)).map λp=>(p.1,aX V ω2 p.2):=by
            intro ω2 l
            induction l with
            |nil=>intro _ _;rfl
            |cons p r ih=>
             intro hl hl2
             obtain⟨o,ho⟩:=hl p NG
             have h2:=hl2 p NG
             have:=ih (λq hq=>hl q (NC _ hq)) λq hq=>hl2 q (NC _ hq)
             unfold yR br at this⊢
             simp only[PA,ho,N6,NF,h2]
             rw[this]
           refine this _ os hsome λp hp=>Di p.2 λn hn=>hω _ (λc o ho=> ?_) n (TO.allN_has (o4 p hp) hn)
           simp only[ez,vd hfi,ho,N6]
          ·have e:own.map (λp:Nat×Own=>(p.1,(none:Option Own)))=(own.map (·.1)).map λn=>(n,none):=by rw[N0];rfl
           rw[e,hkl,N0,N0]
           rfl
         ·simp only[gc]
          exact hkl
      ·cases h
     ·cases h
    ·cases h
   ·cases h
  ·cases h
 ·cases h
end
end Go.Tx
end
section
namespace Go.Tx
open Go.Awp
variable [Inhabited GMem]
section
variable (V:i7)
mutual
def cJ{H:Type}:DataW H->Nat
 | .lit (.string bs)=>bs.length+1
 | .lit _=>1
 | .nil=>1
 | .ptr d=>cJ d+1
 | .slice elems spare=>dbulkL elems+dbulkL spare+1
 | .agg parts=>dbulkL parts+1
 | .iface _ d=>cJ d+1
 | .map _=>1
 | .held _=>1
def dbulkL{H:Type}:List (DataW H)->Nat
 |[]=>0
 |d::r=>cJ d+dbulkL r
end
theorem lp{H:Type}:∀l:List (DataW H),dbulkL l=(l.map cJ).sum
 |[]=>by simp[dbulkL]
 |d::r=>by simp[dbulkL,lp r]
inductive Ok:(t:Ty V.ι)->den V.N t->Prop
 |int {k:IntKind} {n:Int}:(Lit.int k n).wf=true->Ok (.int k) n
 |bool (b:Bool):Ok .bool b
 |str {s:ByteArray}:s.size<=maxLen->Ok .str s
 |sl {e:Ty V.ι} {xs:List (den V.N e)}:xs.length<=maxLen->(∀x∈xs,Ok e x)->Ok (.sl e) xs
 |st {i:V.ι} {x:V.N i}:(∀l∈V.cells i x,Ok l.t l.x)->Ok (.st i) x
inductive Bk:(t:Ty V.ι)->den V.N t->Nat->Prop
 |int {k:IntKind} {n:Int} {m:Nat}:1<=m->Bk (.int k) n m
 |bool {b:Bool} {m:Nat}:1<=m->Bk .bool b m
 |str {s:ByteArray} {m:Nat}:s.size+1<=m->Bk .str s m
 |sl {e:Ty V.ι} {xs:List (den V.N e)} {m:Nat} (ns:List Nat):ns.length=xs.length->(∀(i:Nat) (x:den V.N e) (n:Nat),xs[i]?=some x->ns[i]?=some n->Bk e x n)->ns.sum+1<=m->Bk (.sl e) xs m
 |st {i:V.ι} {x:V.N i} {m:Nat} (ns:List Nat):ns.length=(V.cells i x).length->(∀(j:Nat) (l:cg V.N) (n:Nat),(V.cells i x)[j]?=some l->ns[j]?=some n->Bk l.t l.x n)->ns.sum+1<=m->Bk (.st i) x m
def Bks(ls:List (cg V.N))(m:Nat):Prop:=
 ∃ns:List Nat,ns.length=ls.length/\(∀(j:Nat) (l:cg V.N) (n:Nat),ls[j]?=some l->ns[j]?=some n->Bk V l.t l.x n)/\ns.sum<=m
def wM:Ty V.ι->List (Ty V.ι)
 | .st i=>V.tys i
 |t=>[t]
def I5(P:Program):Nat->List Field->Option (List (Ty V.ι))
 |_,[]=>some []
 |off,f::fs=>match V.ty f.type with
  |some τ=>if f.offset=off/\P.cellsOf f.type=tsz V.sz τ then match I5 P (off+tsz V.sz τ) fs with
   |some l=>some (wM V τ++l)
   |none=>none
   else none
  |none=>none
class OkI where ok:V.ι->Bool
variable [OkI V]
def noF:Ty V.ι->Bool
 | .fnc=>false
 | .fno=>false
 | .ar _ _=>false
 | .op _=>false
 | .mp _ _=>false
 | .er=>false
 | .sl e=>noF e
 | .st i=>OkI.ok i
 |_=>true
def bT(P:Program)(t:TypeId):Ty V.ι->Prop
 | .int k=>P.underlying t=some (.int k)
 | .bool=>P.underlying t=some .bool
 | .str=>P.underlying t=some .string
 | .sl e=>∃te,P.underlying t=some (.slice te)/\V.ty te=some e/\P.cellsOf te=tsz V.sz e/\O4 0 (tsz V.sz e)=true
 | .mp _ _=>False
 | .er=>False
 | .op _=>False
 | .fnc=>False
 | .fno=>False
 | .ar _ _=>False
 | .st i=>∃fs:Array Field,P.underlying t=some (.struct fs)/\P.cellsOf t=V.sz i/\I5 V P 0 fs.toList=some (V.tys i)
structure CX (P:Program):Prop where
 ty:∀t τ,V.ty t=some τ->noF V τ=true->bT V P t τ
 nof:∀i,OkI.ok i=(V.tys i).all (noF V)
 tys:∀i x,(V.cells i x).map (·.t)=V.tys i
 of:∀i ls,ls.map (·.t)=V.tys i->∃y,V.ofCells i ls=some y
end
section
variable {V:i7} [OkI V] {H0:Type} {enc:TypeId×Value->H0} {P:Program} {W:World} {spare:Nat->Bool} {held:Bool} {base:Nat}
theorem vO{t:TypeId}(hu:P.underlying t=some .string){fuel:Nat}{cs:List Value}{x:DataW H0×List MemPlace}(h:DataW.trod enc P W base spare held fuel t cs=some x):
 ∃s,cs=[.string s]/\s.size<=maxLen:=by
 cases fuel with
 |zero=>cases h
 |succ fuel=>
  unfold DataW.trod at h
  rw[hu]at h
  simp only[]at h
  split at h<;>try(rename_i h1 _;cases h1)
  all_goals try(cases h;done)
  all_goals simp_all
def jn(M:Mem)(cs:List Value)(ls:List (cg V.N)):Prop:=
 cs.length=ls.length/\∀(i:Nat) (c:Value) (l:cg V.N),cs[i]?=some c->ls[i]?=some l->bU M c (aK V.sz V.enc l.t l.x)
theorem jn.app{M:Mem}{cs cs':List Value}{ls ls':List (cg V.N)}(h:jn M cs ls)(h':jn M cs' ls'):jn M (cs++cs') (ls++ls'):=by
 refine⟨by simp[h.1,h'.1],λi c l hc hl=> ?_⟩
 by_cases hi:i<cs.length
 ·rw[NU hi]at hc
  rw[NU (by rw[<-h.1];exact hi)]at hl
  exact h.2 i c l hc hl
 ·rw[NS (by omega)]at hc
  rw[NS (by rw[<-h.1];omega),<-h.1]at hl
  exact h'.2 _ c l hc hl
theorem Bks.app{ls ls':List (cg V.N)}{m m':Nat}(h:Bks V ls m)(h':Bks V ls' m'):Bks V (ls++ls') (m+m'):=by
 obtain⟨ns,h1,h2,h3⟩:=h
 obtain⟨ns',h1',h2',h3'⟩:=h'
 refine⟨ns++ns',by simp[h1,h1'],λj l n hl hn=> ?_,by simp;omega⟩
 by_cases hj:j<ls.length
 ·rw[NU hj]at hl
  rw[NU (by omega)]at hn
  exact h2 j l n hl hn
 ·rw[NS (by omega)]at hl
  rw[NS (by omega),h1]at hn
  exact h2' _ l n hl hn
theorem Bks.one{t:Ty V.ι}{x:den V.N t}{m:Nat}(h:Bk V t x m):Bks V [⟨t,x⟩] m:=
 ⟨[m],rfl,λj l n hl hn=>by
  cases j with
  |zero=>simp at hl hn;subst hl;subst hn;exact h
  |succ j=>simp at hl,by simp⟩
def Rd(M:Mem)(τ:Ty V.ι)(cs:List Value)(m:Nat):Prop:=
 ∃y:den V.N τ,Ok V τ y/\jn M cs (aL V τ y)/\(aL V τ y).map (·.t)=wM V τ/\(∀l∈aL V τ y,Ok V l.t l.x)/\Bk V τ y m/\Bks V (aL V τ y) m
theorem od(F:CX V P){M:Mem}{rd:TypeId->List Value->Nat->Prop}(hrd:∀t τ cs m,V.ty t=some τ->noF V τ=true->rd t cs m->Rd (V:=V) M τ cs m){cs:List Value}:∀(fs:List Field) (ms:List Nat) (off:Nat) (l:List (Ty V.ι)),
 I5 V P off fs=some l->(∀τ∈l,noF V τ=true)->ms.length=fs.length->(∀(j:Nat) (f:Field) (m:Nat),fs[j]?=some f->ms[j]?=some m->rd f.type ((cs.drop f.offset).take (P.cellsOf f.type)) m)->
 ∃(n:Nat) (ls:List (cg V.N)),ls.map (·.t)=l/\jn M ((cs.drop off).take n) ls/\(∀x∈ls,Ok V x.t x.x)/\n=ls.length/\Bks V ls ms.sum
 |[],ms,off,l,h,_,hm,_=>by
  simp[I5]at h;subst h
  exact⟨0,[],rfl,⟨rfl,λi c l hc=>by simp at hc⟩,(λx hx=>nomatch hx),rfl,[],rfl,λj l n hl=>by simp at hl,by simp⟩
 |f::fs,[],off,l,h,_,hm,_=>by simp at hm
 |f::fs,m::ms,off,l,h,hnf,hm,hf=>by
  simp only[I5]at h
  split at h
  ·rename_i τ hτ
   split at h
   ·rename_i hc
    obtain⟨ho,hsz⟩:=hc
    split at h
    ·rename_i l' hl'
     simp at h;subst h
     obtain⟨n,ls,a1,a2,a3,a4,a5⟩:=od F hrd fs ms _ l' hl' (λτ hτ=>hnf τ (Ps _ hτ)) (by simpa using hm) λj g m hg hm=>hf (j+1) g m (by simpa using hg) (by simpa using hm)
     obtain⟨y,b1,b2,b3,b4,b5,b6⟩:=hrd f.type τ _ m hτ (by
      cases τ with
      |st j=>exact(F.nof j).trans (NM.2 λτ hτ=>hnf τ (Pa _ hτ))
      |_=>first|rfl|exact hnf _ (Pa _ (by simp[wM]))) (hf 0 f m rfl rfl)
     rw[ho,hsz]at b2
     refine⟨tsz V.sz τ+n,aL V τ y++ls,by simp[a1,b3],?_,λx hx=> ?_,by simp[eW,a4],by rw[PJ];exact b6.app a5⟩
     ·have e:(cs.drop off).take (tsz V.sz τ+n)=(cs.drop off).take (tsz V.sz τ)++(cs.drop (off+tsz V.sz τ)).take n:=by
       rw[List.take_add,OX]
      rw[e]
      exact b2.app a2
     ·rcases NX.1 hx with hx|hx
      ·exact b4 x hx
      ·exact a3 x hx
    ·cases h
   ·cases h
  ·cases h
theorem t_{t:TypeId}{fs:Array Field}(hu:P.underlying t=some (.struct fs)){fuel:Nat}{cs:List Value}{x:DataW H0×List MemPlace}(h:DataW.trod enc P W base spare held (fuel+1) t cs=some x):
 cs.length=P.cellsOf t/\∃ds:List (DataW H0),x.1= .agg ds/\ds.length=fs.toList.length/\∀(i:Nat) (f:Field),fs.toList[i]?=some f->∃y,ds[i]?=some y.1/\DataW.trod enc P W base spare held fuel f.type ((cs.drop f.offset).take (P.cellsOf f.type))=some y:=by
 unfold DataW.trod at h
 rw[hu]at h
 simp only[]at h
 split at h
 ·rename_i hl
  rw[NK]at h
  obtain⟨ys,hm,hx⟩:=h
  subst hx
  refine⟨hl,ys.map (·.1),rfl,by rw[Nz,(fP hm).1],λi f hf=> ?_⟩
  obtain⟨y,hy1,hy⟩:=(fP hm).2 i f hf
  exact⟨y,by rw[NB,hy1];rfl,hy⟩
 ·cases h
theorem vN{t e:TypeId}(hu:P.underlying t=some (.slice e)){fuel:Nat}{cs:List Value}{x:DataW H0×List MemPlace}(h:DataW.trod enc P W base spare held (fuel+1) t cs=some x):
 (cs=[.slice none 0 0]/\x.1= .nil)\/∃a len cap,cs=[.slice (some a) len cap]/\len<=cap/\cap<=maxLen/\∃ds sp:List (DataW H0),x.1= .slice ds sp/\ds.length=len/\
   ∀i,i<len->∃row y,W.cells? base (a.add (i *P.cellsOf e)) (P.cellsOf e)=some row/\DataW.trod enc P W base spare held fuel e row=some y/\ds[i]?=some y.1:=by
 unfold DataW.trod at h
 rw[hu]at h
 simp only[]at h
 split at h
 all_goals first
  |(simp only[Ny,reduceCtorEq]at *;done)
  |(left;simp only[Ny]at h;exact⟨rfl,by rw[<-h]⟩)
  |(rename_i a len cap hx
    simp only[Ny,TypeDesc.slice.injEq]at hx
    subst hx
    right
    split at h
    ·rename_i hc
     rw[O8]at h
     obtain⟨ys,hm,h⟩:=h
     rw[NK]at h
     obtain⟨rest,_,h⟩:=h
     subst h
     refine⟨a,len,cap,rfl,hc.2.1,hc.2.2,ys.map (·.1),rest.map (·.1),rfl,by rw[Nz,(fP hm).1,List.length_range],λi hi=> ?_⟩
     obtain⟨y,hy1,hy⟩:=(fP hm).2 i i (by rw[O3 hi])
     rw[O8]at hy
     obtain⟨row,h1,h2⟩:=hy
     exact⟨row,y,h1,h2,by rw[NB,hy1];rfl⟩
    ·cases h)
  |skip
theorem j7{H:Type}(d:DataW H):1<=cJ d:=by
 cases d with
 |lit l=>cases l<;>simp[cJ]
 |_=>simp[cJ]
theorem t8{t:TypeId}(hu:P.underlying t=some .string){fuel:Nat}{cs:List Value}{x:DataW H0×List MemPlace}(h:DataW.trod enc P W base spare held fuel t cs=some x):
 ∃s,cs=[.string s]/\s.size<=maxLen/\cJ x.1=s.size+1:=by
 cases fuel with
 |zero=>cases h
 |succ fuel=>
  obtain⟨s,rfl,hs⟩:=vO hu h
  refine⟨s,rfl,hs,?_⟩
  unfold DataW.trod at h
  rw[hu]at h
  simp only[]at h
  rw[Q6 hs]at h
  cases h
  show cJ (.lit (.string s.data.toList))=s.data.size+1
  rw[cJ,OP]
theorem nw(τ:Ty V.ι)(y:den V.N τ):aT V.sz V.enc τ y=(aL V τ y).map λl=>aK V.sz V.enc l.t l.x:=bX τ y
theorem D8(F:CX V P):∀(fuel:Nat) (t:TypeId) (τ:Ty V.ι) (cs:List Value) (x:DataW H0×List MemPlace),V.ty t=some τ->noF V τ=true->DataW.trod enc P W base spare held fuel t cs=some x->Rd (fl W) τ cs (cJ x.1):=by
 intro fuel
 induction fuel using QC with
 |ind fuel ih=>
 intro t τ cs x hty hn h
 have hf:=F.ty t τ hty hn
 cases τ with
 |mp k v=>exact hf.elim
 |er=>exact hf.elim
 |op e=>exact hf.elim
 |fnc=>exact hf.elim
 |fno=>exact hf.elim
 |ar n e=>exact hf.elim
 |int k=>
  obtain⟨n,rfl,hw⟩:=D9 hf h
  refine⟨n, .int hw,⟨rfl,λi c l hc hl=> ?_⟩,rfl,λl hl=> ?_, .int (j7 _), .one (.int (j7 _))⟩
  ·cases i with
   |zero=>simp[aL]at hc hl;subst hc;subst hl;exact .v _
   |succ i=>simp at hc
  ·simp[aL]at hl;subst hl;exact .int hw
 |bool=>
  obtain⟨b,rfl⟩:=BV hf h
  refine⟨b, .bool b,⟨rfl,λi c l hc hl=> ?_⟩,rfl,λl hl=> ?_, .bool (j7 _), .one (.bool (j7 _))⟩
  ·cases i with
   |zero=>simp[aL]at hc hl;subst hc;subst hl;exact .v _
   |succ i=>simp at hc
  ·simp[aL]at hl;subst hl;exact .bool b
 |str=>
  obtain⟨s,rfl,hs,hb⟩:=t8 hf h
  refine⟨s, .str hs,⟨rfl,λi c l hc hl=> ?_⟩,rfl,λl hl=> ?_, .str (QY hb.symm), .one (.str (QY hb.symm))⟩
  ·cases i with
   |zero=>simp[aL]at hc hl;subst hc;subst hl;exact .v _
   |succ i=>simp at hc
  ·simp[aL]at hl;subst hl;exact .str hs
 |st i=>
  obtain⟨fs,hu,hsz,hfl⟩:=hf
  cases fuel with
  |zero=>cases h
  |succ fuel=>
   obtain⟨hl,ds,hx,hdl,hr⟩:=t_ hu h
   obtain⟨n,ls,a1,a2,a3,a4,a5⟩:=od F (M:=fl W) (rd:=λt cs m=>∃y,DataW.trod enc P W base spare held fuel t cs=some y/\m=cJ y.1) (λt τ cs m hτ hn ⟨y,hy,hm⟩=>hm▸ih fuel (by omega) t τ cs y hτ hn hy) fs.toList (ds.map cJ) 0 _ hfl (λτ hτ=>NM.1 ((F.nof _).symm.trans hn) τ hτ)
    (by rw[Nz,hdl])
    (λj f m hf hm=>by
      obtain⟨y,hy1,hy⟩:=hr j f hf
      rw[NB,hy1]at hm
      exact⟨y,hy,by simpa using hm.symm⟩)
   obtain⟨y,hy⟩:=F.of i ls a1
   have hc:=V.of_cells i ls y hy
   have hn:n=cs.length:=by rw[a4,<-hc,V.len_cells,hl,hsz]
   rw[N9,Oh (by omega)]at a2
   have hdb:cJ x.1=(ds.map cJ).sum+1:=by rw[hx,cJ,lp]
   obtain⟨ns,c1,c2,c3⟩:=a5
   refine⟨y, .st (by rw[hc];exact a3),by simpa only[aL,hc]using a2,by simpa only[aL,hc,wM]using a1,by simpa only[aL,hc]using a3, .st ns (by rw[hc];exact c1) (by rw[hc];exact c2) (by omega),ns,by simpa only[aL,hc]using c1,by simpa only[aL,hc]using c2,by omega⟩
 |sl e=>
  obtain⟨te,hu,hte,hsz,hpos⟩:=hf
  have hpos:0<tsz V.sz e:=by simpa[Pk]using hpos
  cases fuel with
  |zero=>cases h
  |succ fuel=>
   have fin:∀(c3:Value) (ys:List (den V.N e)),ys.length<=maxLen->(∀y∈ys,Ok V e y)->bU (fl W) c3 (aK V.sz V.enc (.sl e) ys)->Bk V (.sl e) ys (cJ x.1)->Rd (V:=V) (fl W) (.sl e) [c3] (cJ x.1):=by
    intro c3 ys h1 h2 h3 h4
    refine⟨ys, .sl h1 h2,⟨rfl,λi c l hc hl=> ?_⟩,rfl,λl hl=> ?_,h4, .one h4⟩
    ·cases i with
     |zero=>simp[aL]at hc hl;subst hc;subst hl;exact h3
     |succ i=>simp at hc
    ·simp[aL]at hl;subst hl;exact .sl h1 h2
   rcases vN hu h with⟨h4,hx⟩|⟨a,len,cap,h4,hlc,hcm,ds,sp,hx,hdl,hr⟩
   ·subst h4
    exact fin _ [] (by simp) (λy hy=>by cases hy) (.slnil _) (.sl [] rfl (λi x n hx=>by simp at hx) (by rw[hx];simp[cJ]))
   ·subst h4
    rw[hsz]at hr
    obtain⟨ys,hyl,hys⟩:=AU (α:=den V.N e) (R:=λi y=>∃row d,W.cells? base (a.add (i *tsz V.sz e)) (tsz V.sz e)=some row/\Ok V e y/\jn (fl W) row (aL V e y)/\ds[i]?=some d/\Bk V e y (cJ d)) len
     λi hi=>by
      obtain⟨row,z,g1,g2,g3⟩:=hr i hi
      obtain⟨y,b1,b2,_,_,b5,_⟩:=ih fuel (by omega) te e row z hte (by simpa[noF]using hn) g2
      exact⟨y,row,z.1,g1,b1,b2,g3,b5⟩
    have hdb:cJ x.1=(ds.map cJ).sum+dbulkL sp+1:=by rw[hx,cJ,lp]
    refine fin _ ys (by omega) (λy hy=> ?_) (bU.of_slice (b:=base) hpos hlc (by rw[Nz,hyl]) (λr hr'=> ?_) λi hi=> ?_) (.sl (ds.map cJ) (by rw[Nz,hdl,hyl]) (λi y n hy hn=> ?_) (by omega))
    ·obtain⟨i,hi,rfl⟩:=PQ hy
     obtain⟨row,_,_,e1,_⟩:=hys i _ (ND hi)
     exact e1
    ·obtain⟨y,_,rfl⟩:=N3.1 hr'
     rw[nw,Nz,eW]
    ·obtain⟨row,_,e0,_,e2,_⟩:=hys i (ys[i]'(by omega)) (ND (by omega))
     refine⟨row,e0,λr hr' j c y hc hy=> ?_⟩
     rw[NB,ND (by omega:i<ys.length)]at hr'
     simp at hr'
     subst hr'
     rw[nw,NB,NK]at hy
     obtain⟨l,hl,rfl⟩:=hy
     exact e2.2 j c l hc hl
    ·obtain⟨row,d,_,_,_,e3,e4⟩:=hys i y hy
     rw[NB,e3]at hn
     simp at hn
     subst hn
     exact e4
theorem fp{r:Reach}{t:TypeId}{cs:Array Value}(h:(∃k,P.underlying t=some (.int k))\/P.underlying t=some .bool\/P.underlying t=some .string\/∃e,P.underlying t=some (.slice e)):
 ¬Value.okWide P W r base t (.agg cs):=by
 intro hv
 unfold Value.okWide at hv
 rcases h with⟨k,h⟩|h|h|⟨e,h⟩<;>rw[h]at hv<;>simp only[Cell.okWide,Cell.ok,h]at hv
theorem BL(F:CX V P){r:Reach}{b0:Nat}{t:TypeId}{τ:Ty V.ι}{v:Value}{d:DataW H0}{p:List MemPlace}(hty:V.ty t=some τ)(hok:Value.okWide P W r b0 t v)(h:DataW.Trod enc P W base spare held t v d p)(hn:noF V τ=true:=by rfl):
 ∃y:den V.N τ,Ok V τ y/\bU (fl W) v (aK V.sz V.enc τ y)/\Bk V τ y (cJ d):=by
 obtain⟨fuel,h⟩:=h
 obtain⟨y,h1,h2,_,_,h5,_⟩:=D8 F fuel t τ _ _ hty hn h
 refine⟨y,h1,?_,h5⟩
 have hf:=F.ty t τ hty hn
 have cell:(∀cs,v≠ .agg cs)->aL V τ y=[⟨τ,y⟩]->bU (fl W) v (aK V.sz V.enc τ y):=by
  intro hn hr
  rw[hr]at h2
  have hc:v.cells.toList=[v]:=by cases v<;>first|rfl|exact(hn _ rfl).elim
  rw[hc]at h2
  exact h2.2 0 v ⟨τ,y⟩ rfl rfl
 cases τ with
 |mp k v=>exact hf.elim
 |er=>exact hf.elim
 |op e=>exact hf.elim
 |fnc=>exact hf.elim
 |fno=>exact hf.elim
 |ar n e=>exact hf.elim
 |int k=>exact cell (λcs e=>by subst e;exact fp (.inl ⟨k,hf⟩) hok) rfl
 |bool=>exact cell (λcs e=>by subst e;exact fp (.inr (.inl hf)) hok) rfl
 |str=>exact cell (λcs e=>by subst e;exact fp (.inr (.inr (.inl hf))) hok) rfl
 |sl e=>
  obtain⟨te,hu,_⟩:=hf
  exact cell (λcs e=>by subst e;exact fp (.inr (.inr (.inr ⟨te,hu⟩))) hok) rfl
 |st i=>
  obtain⟨fs,hu,_,_⟩:=hf
  unfold Value.okWide at hok
  rw[hu]at hok
  obtain⟨cs,rfl,_⟩:=hok
  simp only[Value.cells]at h2
  simp only[aK]
  rw[V.enc_cells]
  refine .agg cs _ (by rw[Nz];have:=h2.1;simpa[aL]using this) λk c x hc hx=> ?_
  rw[NB,NK]at hx
  obtain⟨l,hl,rfl⟩:=hx
  exact h2.2 k c l (by simpa using hc) hl
end
end Go.Tx
end
section
namespace Go.Proofs.YtpndmanbfleadaaGreatDoor
open Go.Awp Go.Shelf
open Go.Proofs.Tryz (prog)
set_option maxRecDepth 100000
theorem JX:U8Types prog Tryz.lays196_ren:= .of196 Tryz.lays196
theorem I1:U8Extra prog Tryz.lays196_ren:=⟨by kernel_rfl,by kernel_rfl,by kernel_rfl,by kernel_rfl,by kernel_rfl,by kernel_rfl,by kernel_rfl⟩
theorem I3:Rows.laid_unicode_utf8_first=Lib.firstData:=by kernel_rfl
theorem FR:(Rows.laid_unicode_utf8_acceptRanges:DataW Unit)=Lib.acceptData:=by kernel_rfl
theorem MV:(Rows.laid_internal_strconv_uint64pow10:DataW Unit)=Lib.tabData .u64 Lib.pow10Tab:=by kernel_rfl
def E7:List Int:=[0,1,56,2,57,49,28,3,61,58,42,50,38,29,17,4,62,47,59,36,45,43,51,22,53,39,33,30,24,18,12,5,63,55,48,27,60,41,37,16,46,35,44,21,52,32,23,11,54,26,40,15,34,20,31,10,25,14,19,9,13,8,7,6]
theorem FZ:(Rows.laid_math_bits_deBruijn64tab:DataW Unit)=Lib.tabData .u8 E7:=by kernel_rfl
def Lg:List (String×DataW Unit):=[("math/bits.deBruijn32tab",Rows.laid_math_bits_deBruijn32tab),("math/bits.deBruijn64tab",Rows.laid_math_bits_deBruijn64tab),("internal/strconv.uint64pow10",Rows.laid_internal_strconv_uint64pow10),("unicode/utf8.acceptRanges",Rows.laid_unicode_utf8_acceptRanges),("strconv.ErrRange",Rows.laid_strconv_ErrRange),("strconv.ErrSyntax",Rows.laid_strconv_ErrSyntax),("unicode.CaseRanges",Rows.laid_unicode_CaseRanges),("unicode/utf8.first",Rows.laid_unicode_utf8_first)]
theorem mf{P:Program}{w:World}{name:String}{k:IntKind}{zs:List Int}{g:Nat}{t e:TypeId}{n:Nat}(hg:P.globalNamed name=some g)(hty:(P.globals[g]?).map (·.type)=some t)(ht:P.underlying t=some (.array n e))(he:P.underlying e=some (.int k))(hce:P.cellsOf e=1)(hct:P.cellsOf t=n)
 (h:Lib.VarReads P w name (Lib.tabData k zs)):Lib.TabIs P w name k zs:=by
 obtain⟨g',t',cs,fuel,p,hg',ht',hvar,hd⟩:=h
 obtain rfl:=Pm (hg.symm.trans hg')
 obtain rfl:=Pm (hty.symm.trans ht')
 unfold Lib.TabIs
 rw[hvar,<-Lib.cells_of_tab ht he hce hct hd]
theorem i_{P:Program}{w:World}{name nm:String}{d:DataW Unit}{g:Nat}{t:TypeId}{ms:TypeDesc}(hg:P.globalNamed name=some g)(hty:(P.globals[g]?).map (·.type)=some t)(ht:P.underlying t=some ms)(hms:∃l,ms= .interface l)
 (h:Lib.VarReads P w name (.iface nm d)):∃u v,w.cell? ⟨g,0,none⟩=some (.iface u v):=by
 obtain⟨l,rfl⟩:=hms
 obtain⟨g',t',cs,fuel,p,hg',ht',hvar,hd⟩:=h
 obtain rfl:=Pm (hg.symm.trans hg')
 obtain rfl:=Pm (hty.symm.trans ht')
 have hc:∃u v,cs.toList=[.iface u v]:=by
  cases fuel with
  |zero=>cases hd
  |succ fuel=>
   unfold DataW.trod at hd
   rw[ht]at hd
   simp only[]at hd
   split at hd<;>try(rename_i h1 _;cases h1)
   all_goals try(cases hd;done)
   all_goals first
    |(rename_i u v _;exact⟨u,v,by assumption⟩)
    |(simp_all;done)
 obtain⟨u,v,hc⟩:=hc
 refine⟨u,v,?_⟩
 unfold World.var? at hvar
 rw[hg]at hvar
 simp only[O_]at hvar
 split at hvar
 ·rename_i cs' _ _ hw
  cases hvar
  have:cs[0]?=some (.iface u v):=by rw[<-OA,hc];rfl
  simpa[World.cell?,hw]using this
 ·cases hvar
theorem AC{W:World}(h:laidMetH prog Lg W):GOk (fl W) W:=by
 rw[MakeChecks.laidMetH_plain _ _ _ (by kernel_rfl)]at h
 have h1:Lib.VarReads prog W "unicode/utf8.acceptRanges" Lib.acceptData:=FR▸Lib.laidMet.reads h (.tail _ (.tail _ (.tail _ (.head _))))
 have h2:Lib.VarReads prog W "unicode/utf8.first" Lib.firstData:=I3▸Lib.laidMet.reads h (.tail _ (.tail _ (.tail _ (.tail _ (.tail _ (.tail _ (.tail _ (.head _))))))))
 have h3:Lib.VarReads prog W "internal/strconv.uint64pow10" (Lib.tabData .u64 Lib.pow10Tab):=MV▸Lib.laidMet.reads h (.tail _ (.tail _ (.head _)))
 have h4:=i_ (P:=prog) (g:=3) (t:=71) (by kernel_rfl) (by kernel_rfl) Tryz.underlying71 ⟨_,rfl⟩ (Lib.laidMet.reads h (.tail _ (.tail _ (.tail _ (.tail _ (.head _))))))
 have h5:=i_ (P:=prog) (g:=2) (t:=71) (by kernel_rfl) (by kernel_rfl) Tryz.underlying71 ⟨_,rfl⟩ (Lib.laidMet.reads h (.tail _ (.tail _ (.tail _ (.tail _ (.tail _ (.head _)))))))
 have h6:Lib.TabIs prog W "internal/strconv.uint64pow10" .u64 Lib.pow10Tab:=by
  obtain⟨g,t,cs,fuel,p,hg,ht,_,_⟩:=id h3
  exact mf (g:=4) (t:=161) (e:=104) (n:=20) (by kernel_rfl) (by kernel_rfl) (by kernel_rfl) (by kernel_rfl) (by kernel_rfl) (by kernel_rfl) h3
 have h7:W.cell? ⟨7,15,none⟩=some (.int .u8 4):=by
  have h9:Lib.VarReads prog W "math/bits.deBruijn64tab" (Lib.tabData .u8 E7):=FZ▸Lib.laidMet.reads h (.tail _ (.head _))
  have h10:=mf (P:=prog) (g:=7) (t:=176) (e:=5) (n:=64) (by kernel_rfl) (by kernel_rfl) (by kernel_rfl) (by kernel_rfl) (by kernel_rfl) (by kernel_rfl) h9
  have:=h10.cell (g:=7) (by kernel_rfl) 15 (by decide)
  exact this
 refine⟨HW h7 (utf8Tabs_of_readsT JX I1 h2 h1) h6,λb hb=> ?_,λp hp=> ?_⟩
 ·have hb:b∈[2,3]:=hb
  simp only[NI,Qc,or_false]at hb
  rcases hb with rfl|rfl
  ·exact h5
  ·exact h4
 ·have hp:p∈[(4,20)]:=hp
  simp only[NI,Qc,or_false]at hp
  subst hp
  have hn:prog.globalNamed "internal/strconv.uint64pow10" =some 4:=by kernel_rfl
  refine⟨⟨_,h6.cell hn 0 (by rw[fX];decide)⟩,?_⟩
  unfold Lib.TabIs World.var? at h6
  rw[hn]at h6
  simp only[O_]at h6
  split at h6
  ·rename_i cs t fr hw
   cases h6
   exact⟨_,_,_,hw,by simp[fX]⟩
  ·cases h6
mutual
theorem mG{H:Type}:∀d:DataW H,Go.Tx.cJ d<=Rows.uptoBulk d
 | .lit l=>by cases l<;>simp[Go.Tx.cJ,Rows.uptoBulk]
 | .nil=>by simp[Go.Tx.cJ,Rows.uptoBulk]
 | .ptr d=>by have:=mG d;simp only[Go.Tx.cJ,Rows.uptoBulk];omega
 | .slice es sp=>by have h1:=dbulkL_le es;have h2:=dbulkL_le sp;simp only[Go.Tx.cJ,Rows.uptoBulk];omega
 | .agg ps=>by have:=dbulkL_le ps;simp only[Go.Tx.cJ,Rows.uptoBulk];omega
 | .iface _ d=>by have:=mG d;simp only[Go.Tx.cJ,Rows.uptoBulk];omega
 | .map es=>by simp[Go.Tx.cJ,Rows.uptoBulk]
 | .held h=>by simp[Go.Tx.cJ,Rows.uptoBulk]
theorem dbulkL_le{H:Type}:∀l:List (DataW H),Go.Tx.dbulkL l<=Rows.uptoBulkAll l
 |[]=>by simp[Go.Tx.dbulkL,Rows.uptoBulkAll]
 |d::r=>by have h1:=mG d;have h2:=dbulkL_le r;simp only[Go.Tx.dbulkL,Rows.uptoBulkAll];omega
end
end Go.Proofs.YtpndmanbfleadaaGreatDoor
end
section
namespace Go.Tx
open Go.Awp
variable [Inhabited GMem]
section
variable {V:i7}
theorem Fs{X:Xc V}{sig:Sig V}(hsh:X.sh.rcut=sig.rcut){fid:FuncId}{fn:Func}{c:Code}(hf:X.P.funcs[fid]?=some fn)(hb:fn.body=some c)(hn:fn.ntmps=X.n)(hrs:fn.results.toList=sig.rvars)
 (hname:(fn.name != "runtime.NumGoroutine")=true)(hm:X.P.follows .mixedOrders=true)(hcall:ay X.P X.call)(hdr:fq (sig.rcut.objs.map (·.1))=true)
 (hl:∀C:Ctx,C.P=X.P->C.N=X.n/\Fx C X.pre->LOk C X c){xs:List (TV V.N)}(hlen:P7 xs.length X.n=true){r:HL V.N sig.rcut.tys}
 (h:ex X c _ {tmps:=yb 0 xs,own:=[]} (λS=>wK V sig.rcut S) (λ_ _=>none) (λr=>some (hsh▸r))=some r):
 ∀x,lG X.P sig r=some x->cX X.P fid (encL V (λ_=>0) xs) [] (an V (bh V sig.rcut r).len x) (br (bh V sig.rcut r).len (gO sig r)):=by
 obtain⟨params,objs,rcut,rvars,keep⟩:=sig
 simp only at hsh
 subst hsh
 intro x hx
 have hargs:xs.length<=X.n:=Pr hlen
 refine pQ hf hb hname (by rw[aJ,hn];exact hargs) λC hP hN=> ?_
 have hent:Ent ⟨jk 0 (encL V (λ_=>0) xs),qx []⟩ (az V {tmps:=yb 0 xs,own:=[]}):=by
  refine Ent.le (λt y hy=>⟨y,?_,H.le.refl _⟩) λn o ho=> ?_
  ·rw[jU];exact hy
  ·rw[aG]at ho
   simp[TS.own?,gt]at ho
 have hend:∀e σ,(e= .normal\/e= .ret)->Ent σ (az V (bh V X.sh.rcut r))->
  zA X.P fn.results.toList (an V (bh V X.sh.rcut r).len x) (br (bh V X.sh.rcut r).len (gO ⟨params,objs,X.sh.rcut,rvars,keep⟩ r)) e σ:=by
  intro e σ he hσ
  unfold lG at hx
  rw[NK]at hx
  obtain⟨vs,hvs,hone⟩:=hx
  obtain⟨hs,g1,g2,g3⟩:=lF hvs
  have hh:∃y,Ht X.P (az V (bh V X.sh.rcut r)) fn.results.toList=some y/\H.le y (an V (bh V X.sh.rcut r).len x):=by
   rw[hrs]
   unfold Ht
   rw[g1]
   cases vs with
   |nil=>
    have:hs=[]:=NV (by simpa using g2)
    subst this;subst hone
    exact⟨.tup [],rfl,by simp only[Jm,an,encL];exact H.le.refl _⟩
   |cons a l=>
    cases l with
    |nil=>
     cases hs with
     |nil=>simp at g2
     |cons y l'=>
      have:l'=[]:=NV (by simpa using g2)
      subst this;subst hone
      obtain⟨z,z1,z2⟩:=g3 0 a rfl
      simp at z1;subst z1
      exact⟨y,rfl,z2⟩
    |cons b l=>
     cases hs with
     |nil=>simp at g2
     |cons y l'=>
      cases l' with
      |nil=>simp at g2
      |cons y2 l2=>
       subst hone
       refine⟨.tup (y::y2::l2),rfl,?_⟩
       simp only[Jm,an]
       refine xn (by rw[aJ];exact g2) λi w hw=> ?_
       rw[encL_map,NB,NK]at hw
       obtain⟨u,hu,rfl⟩:=hw
       exact g3 i u hu
  obtain⟨y,hy1,hy2⟩:=hh
  refine⟨he,_,hσ,y,hy1,hy2,λn o ho=> ?_⟩
  obtain⟨o',h1,h2⟩:=dB ho
  have h1:(n,o')∈(bh V X.sh.rcut r).own:=(PG.1 h1).1
  have:=jG (m6 X.sh.rcut _ hdr) h1
  rw[aG]
  unfold TS.own?
  unfold bh at *
  rw[this]
  exact h2
 refine .ent hent (mH hP ⟨by rw[hN.1,hn],λp hp=>(by rw[hN.2]at hp;cases hp)⟩ hm hcall c _ _ _ _ _ r _ (hl C hP ⟨by rw[hN.1,hn],λp hp=>(by rw[hN.2]at hp;cases hp)⟩) h ⟨λS σ hk he=> ?_,λid S σ _ hk he=>(by cases hk),λl S σ hk he=>(by cases hk),λw σ hk he=> ?_⟩)
 ·exact hend _ σ (.inl rfl) (Ent.trans he (c8 hk))
 ·have:w=r:=by simpa using hk
  subst this
  exact hend _ σ (.inr rfl) he
theorem Dl{P:Program}{f:FuncId}{sz:Nat}{rows:List (List D)}{r:H}{own':List (Nat×Own)}(h1:rows≠[]->cX P f [.d (.sl sz rows)] [] r own')
 (h2:rows=[]->cX P f [.d (.v (.slice none 0 0))] [] r own')(h3:rows=[]->∀a cap,cX P f [.d (.v (.slice (some a) 0 cap))] [] r own'):cX P f [.d (.sl sz rows)] [] r own':=by
 by_cases h0:rows=[]
 ·refine⟨(h2 h0).1,λE M w vs hgm hm ho hvs=> ?_⟩
  obtain⟨hsz,hv⟩:=hvs
  obtain⟨v,hv0⟩:∃v,vs[0]?=some v:=⟨vs[0]'(by simp at hsz;omega),N4 _⟩
  have hr:=hv 0 v _ hv0 rfl
  have go:∀u:Value,v=u->fB E M vs [.d (.v u)]:=by
   rintro u rfl
   refine⟨hsz,λi c x hc hx=> ?_⟩
   cases i with
   |zero=>simp at hx;subst hx;rw[hv0]at hc;cases hc;exact .d (.v _)
   |succ i=>simp at hx
  subst h0
  cases hr with
  |d hd=>
   generalize hq:D.sl sz []=q at hd
   cases hd with
   |slnil=>exact(h2 rfl).2 E M w vs hgm hm ho (go _ rfl)
   |slmt a cap=>exact(h3 rfl a cap).2 E M w vs hgm hm ho (go _ rfl)
   |sl b off len cap sz' rows' c hlen hcap=>
    simp only[D.sl.injEq]at hq
    obtain⟨_,rfl⟩:=hq
    simp at hlen
    subst hlen
    exact(h3 rfl _ cap).2 E M w vs hgm hm ho (go _ rfl)
   |_=>cases hq
 ·exact h1 h0
end
end Go.Tx
end
section
namespace Go.Proofs.YtpndmanbfleadaaGreatDoor.Ty
open Go.Awp
theorem mixed:Tryz.prog.follows .mixedOrders=true:=by kernel_rfl
end Go.Proofs.YtpndmanbfleadaaGreatDoor.Ty
end
section
namespace Go.Proofs.YtpndmanbfleadaaGreatDoor
open Go.Awp Go.Tx
structure Tag where
 kind:Int
 n:Int
 text:ByteArray
 names:(List ByteArray)
 parts:(List Tag)
mutual
noncomputable def Tag.enc:Tag->List D
 |⟨a0,a1,a2,a3,a4⟩=>[.v (.int .i64 a0)]++[.v (.int .i64 a1)]++[.v (.string a2)]++[.sl 1 (QM (λy=>[.v (.string y)]) a3)]++[.sl 5 (Tag.encL a4)]
noncomputable def Tag.encL:List Tag->List (List D)
 |[]=>[]
 |x::r=>Tag.enc x::Tag.encL r
end
theorem Tag.encL_map:∀l:List Tag,Tag.encL l=l.map Tag.enc
 |[]=>by simp[Tag.encL]
 |x::r=>by simp[Tag.encL,Tag.encL_map r]
mutual
noncomputable def Tag.encd:Tag->List DD
 |⟨a0,a1,a2,a3,a4⟩=>[.d (.v (.int .i64 a0))]++[.d (.v (.int .i64 a1))]++[.d (.v (.string a2))]++[.sl 9 1 (QM (λy=>[.d (.v (.string y))]) a3)]++[.sl 25 5 (Tag.encdL a4)]
noncomputable def Tag.encdL:List Tag->List (List DD)
 |[]=>[]
 |x::r=>Tag.encd x::Tag.encdL r
end
theorem Tag.encdL_map:∀l:List Tag,Tag.encdL l=l.map Tag.encd
 |[]=>by simp[Tag.encdL]
 |x::r=>by simp[Tag.encdL,Tag.encdL_map r]
mutual
theorem Tag.encd_toL:∀x:Tag,DD.toL x.encd=some x.enc
 |⟨a0,a1,a2,a3,a4⟩=>by rw[Tag.encd,Tag.enc];exact(DD.toL_app (DD.toL_app (DD.toL_app (DD.toL_app (zy _) (zy _)) (zy _)) (My (MA (λy=>(zy _)) a3))) (My (Tag.encdL_toR a4)))
theorem Tag.encdL_toR:∀l:List Tag,DD.toR (Tag.encdL l)=some (Tag.encL l)
 |[]=>by rw[Tag.encdL,Tag.encL];rfl
 |x::r=>by rw[Tag.encdL,Tag.encL];exact Mz (Tag.encd_toL x) (Tag.encdL_toR r)
end
structure cF where
 depth:Int
 pieces:Int
 bytes:Int
 deriving DecidableEq
noncomputable def cF.enc(x:cF):List D:=[.v (.int .i64 x.depth)]++[.v (.int .i64 x.pieces)]++[.v (.int .i64 x.bytes)]
noncomputable def cF.encd(x:cF):List DD:=[.d (.v (.int .i64 x.depth))]++[.d (.v (.int .i64 x.pieces))]++[.d (.v (.int .i64 x.bytes))]
theorem cF.encd_toL(x:cF):DD.toL x.encd=some x.enc:=(DD.toL_app (DD.toL_app (zy _) (zy _)) (zy _))
structure ap where
 s:ByteArray
 at0:Int
noncomputable def ap.enc(x:ap):List D:=[.v (.string x.s)]++[.v (.int .i64 x.at0)]
noncomputable def ap.encd(x:ap):List DD:=[.d (.v (.string x.s))]++[.d (.v (.int .i64 x.at0))]
theorem ap.encd_toL(x:ap):DD.toL x.encd=some x.enc:=(DD.toL_app (zy _) (zy _))
structure bk where
 lo:Int
 hi:Int
 deriving DecidableEq
noncomputable def bk.enc(x:bk):List D:=[.v (.int .u8 x.lo)]++[.v (.int .u8 x.hi)]
noncomputable def bk.encd(x:bk):List DD:=[.d (.v (.int .u8 x.lo))]++[.d (.v (.int .u8 x.hi))]
theorem bk.encd_toL(x:bk):DD.toL x.encd=some x.enc:=(DD.toL_app (zy _) (zy _))
structure bo where
 s:ByteArray
noncomputable def bo.enc(x:bo):List D:=[.v (.string x.s)]
noncomputable def bo.encd(x:bo):List DD:=[.d (.v (.string x.s))]
theorem bo.encd_toL(x:bo):DD.toL x.encd=some x.enc:=(zy _)
inductive SN where
 |tagT
 |sizeT
 |readerT
 |acceptRangeT
 |errorStringT
 deriving DecidableEq
abbrev NN:SN->Type
 | .tagT=>Tag
 | .sizeT=>cF
 | .readerT=>ap
 | .acceptRangeT=>bk
 | .errorStringT=>bo
noncomputable def szN:SN->Nat
 | .tagT=>5
 | .sizeT=>3
 | .readerT=>2
 | .acceptRangeT=>2
 | .errorStringT=>1
noncomputable def MB:SN->List (Ty SN)
 | .tagT=>[(.int .i64),(.int .i64), .str,(.sl .str),(.sl (.st .tagT))]
 | .sizeT=>[(.int .i64),(.int .i64),(.int .i64)]
 | .readerT=>[.str,(.int .i64)]
 | .acceptRangeT=>[(.int .u8),(.int .u8)]
 | .errorStringT=>[.str]
noncomputable def cI:(i:SN)->NN i->List (cg NN)
 | .tagT,x=>[⟨(.int .i64),x.kind⟩,⟨(.int .i64),x.n⟩,⟨.str,x.text⟩,⟨(.sl .str),x.names⟩,⟨(.sl (.st .tagT)),x.parts⟩]
 | .sizeT,x=>[⟨(.int .i64),x.depth⟩,⟨(.int .i64),x.pieces⟩,⟨(.int .i64),x.bytes⟩]
 | .readerT,x=>[⟨.str,x.s⟩,⟨(.int .i64),x.at0⟩]
 | .acceptRangeT,x=>[⟨(.int .u8),x.lo⟩,⟨(.int .u8),x.hi⟩]
 | .errorStringT,x=>[⟨.str,x.s⟩]
noncomputable def Al:(i:SN)->NN i->List D
 | .tagT,x=>Tag.enc x
 | .sizeT,x=>cF.enc x
 | .readerT,x=>ap.enc x
 | .acceptRangeT,x=>bk.enc x
 | .errorStringT,x=>bo.enc x
noncomputable def ofN:(i:SN)->List (cg NN)->Option (NN i)
 | .tagT,[⟨(.int .i64),a0⟩,⟨(.int .i64),a1⟩,⟨.str,a2⟩,⟨(.sl .str),a3⟩,⟨(.sl (.st .tagT)),a4⟩]=>some ⟨a0,a1,a2,a3,a4⟩
 | .sizeT,[⟨(.int .i64),a0⟩,⟨(.int .i64),a1⟩,⟨(.int .i64),a2⟩]=>some ⟨a0,a1,a2⟩
 | .readerT,[⟨.str,a0⟩,⟨(.int .i64),a1⟩]=>some ⟨a0,a1⟩
 | .acceptRangeT,[⟨(.int .u8),a0⟩,⟨(.int .u8),a1⟩]=>some ⟨a0,a1⟩
 | .errorStringT,[⟨.str,a0⟩]=>some ⟨a0⟩
 |_,_=>none
noncomputable def tyN:TypeId->Option (Ty SN)
 |2=>some (.int .i64)
 |3=>some (.int .i64)
 |4=>some .bool
 |5=>some (.int .u8)
 |6=>some (.int .u8)
 |9=>some .str
 |10=>some .str
 |11=>some .str
 |12=>some (.int .u64)
 |21=>some (.int .i32)
 |22=>some (.sl .str)
 |23=>some (.sl (.st .tagT))
 |25=>some (.st .tagT)
 |29=>some (.int .i64)
 |57=>some (.st .sizeT)
 |65=>some (.st .readerT)
 |83=>some (.int .u64)
 |94=>some (.int .i64)
 |102=>some (.int .u32)
 |104=>some (.int .u64)
 |106=>some (.sl (.int .u8))
 |114=>some (.ar 256 (.int .u8))
 |116=>some (.st .acceptRangeT)
 |117=>some (.ar 16 (.st .acceptRangeT))
 |120=>some (.int .i64)
 |128=>some (.int .u64)
 |146=>some (.ar 24 (.int .u8))
 |158=>some (.st .errorStringT)
 |161=>some (.ar 20 (.int .u64))
 |162=>some (.ar 65 (.int .u8))
 |175=>some (.ar 32 (.int .u8))
 |176=>some (.ar 64 (.int .u8))
 |183=>some (.ar 3 (.int .i32))
 |184=>some (.ar 3 (.int .i32))
 |192=>some (.int .u8)
 |193=>some (.int .u8)
 |195=>some (.int .i32)
 |196=>some (.int .i32)
 |_=>none
theorem x_(i:SN)(x:NN i):Al i x=(cI i x).map λl=>aK szN Al l.t l.x:=by
 cases i<;>cases x<;>first|(simp[Al,cI,aK,aT,tsz,szN,Tag.enc,cF.enc,ap.enc,bk.enc,bo.enc,Tag.encL_map];done)|(rename_i q;cases q;simp[Al,cI,aK,aT,tsz,szN,Tag.enc,cF.enc,ap.enc,bk.enc,bo.enc,Tag.encL_map])
theorem BD(i:SN)(ls:List (cg NN))(x:NN i)(h:ofN i ls=some x):cI i x=ls:=by
 unfold ofN at h
 split at h<;>first
  |(cases h;rfl)
  |(cases h;done)
theorem yi(i:SN)(x:NN i):(cI i x).length=szN i:=by cases i<;>rfl
theorem zt(i:SN)(x:NN i):(cI i x).map (λl=>l.t)=MB i:=by cases i<;>rfl
theorem yE(i:SN)(x:NN i):∀l∈cI i x,l.t.cell=true:=by
 have h:(cI i x).all (λl=>l.t.cell)=true:=by cases i<;>rfl
 exact NM.1 h
noncomputable def ya:(i:SN)->NN i->List DD
 | .tagT,x=>Tag.encd x
 | .sizeT,x=>cF.encd x
 | .readerT,x=>ap.encd x
 | .acceptRangeT,x=>bk.encd x
 | .errorStringT,x=>bo.encd x
noncomputable def I4:SN->Bool
 | .tagT=>false
 | .sizeT=>true
 | .readerT=>true
 | .acceptRangeT=>true
 | .errorStringT=>true
noncomputable def Ko:Ty SN->Nat
 | .str=>9
 |(.st .tagT)=>25
 |(.int .u8)=>5
 |_=>0
theorem uW(i:SN)(x:NN i):ya i x=(cI i x).map λl=>e_ szN Al Ko ya l.t l.x:=by
 cases i<;>cases x<;>first|(simp[ya,cI,e_,bR,aK,aT,Ko,tsz,szN,Tag.encd,cF.encd,ap.encd,bk.encd,bo.encd,Tag.encdL_map];done)|(rename_i q;cases q;simp[ya,cI,e_,bR,aK,aT,Ko,tsz,szN,Tag.encd,cF.encd,ap.encd,bk.encd,bo.encd,Tag.encdL_map])
theorem An(i:SN)(x:NN i):DD.toL (ya i x)=some (Al i x):=by
 cases i
 ·exact Tag.encd_toL x
 ·exact cF.encd_toL x
 ·exact ap.encd_toL x
 ·exact bk.encd_toL x
 ·exact bo.encd_toL x
theorem u4(i:SN)(x:NN i)(h:I4 i=true):∀l∈cI i x,l.t.isSl=false:=by
 have h1:(cI i x).all (λl=> !l.t.isSl)=true:=by
  revert h
  cases i<;>first
   |(intro h;cases h;done)
   |(intro _;rfl)
 intro l hl
 simpa using NM.1 h1 l hl
noncomputable def vw:i7 where
 ι:=SN
 dec:=inferInstance
 N:=NN
 sz:=szN
 tys:=MB
 cells:=cI
 ofCells:=ofN
 enc:=Al
 ty:=tyN
 enc_cells:=x_
 of_cells:=BD
 len_cells:=yi
 one_cells:=yE
 tys_cells:=zt
 tid:=Ko
 encd:=ya
 encd_cells:=uW
 encd_toL:=An
 flat:=I4
 flat_cells:=u4
end Go.Proofs.YtpndmanbfleadaaGreatDoor
end
section
namespace Go.Proofs.YtpndmanbfleadaaGreatDoor
open Go.Awp Go.Tx
open Go.Proofs.Tryz (prog)
set_option maxRecDepth 100000
def kV(P:Program)(t:TypeId):Array Field:=match P.underlying t with
 |some (.struct fs)=>fs
 |_=> #[]
theorem tf2:bT vw prog 2 (.int .i64):=(by kernel_rfl:prog.underlying 2=some (.int .i64))
theorem tf3:bT vw prog 3 (.int .i64):=(by kernel_rfl:prog.underlying 3=some (.int .i64))
theorem tf4:bT vw prog 4 .bool:=(by kernel_rfl:prog.underlying 4=some .bool)
theorem tf5:bT vw prog 5 (.int .u8):=(by kernel_rfl:prog.underlying 5=some (.int .u8))
theorem tf6:bT vw prog 6 (.int .u8):=(by kernel_rfl:prog.underlying 6=some (.int .u8))
theorem tf9:bT vw prog 9 .str:=(by kernel_rfl:prog.underlying 9=some .string)
theorem Nj:bT vw prog 10 .str:=(by kernel_rfl:prog.underlying 10=some .string)
theorem Nk:bT vw prog 11 .str:=(by kernel_rfl:prog.underlying 11=some .string)
theorem Nl:bT vw prog 12 (.int .u64):=(by kernel_rfl:prog.underlying 12=some (.int .u64))
theorem Nm:bT vw prog 21 (.int .i32):=(by kernel_rfl:prog.underlying 21=some (.int .i32))
theorem Nn:bT vw prog 22 (.sl .str):=⟨9,by kernel_rfl,by kernel_rfl,by kernel_rfl,by kernel_rfl⟩
theorem Np:bT vw prog 23 (.sl (.st .tagT)):=⟨25,by kernel_rfl,by kernel_rfl,by kernel_rfl,by kernel_rfl⟩
theorem Nq:bT vw prog 25 (.st .tagT):=⟨kV prog 25,by kernel_rfl,by kernel_rfl,by kernel_rfl⟩
theorem Nr:bT vw prog 29 (.int .i64):=(by kernel_rfl:prog.underlying 29=some (.int .i64))
theorem Ns:bT vw prog 57 (.st .sizeT):=⟨kV prog 57,by kernel_rfl,by kernel_rfl,by kernel_rfl⟩
theorem Nt:bT vw prog 65 (.st .readerT):=⟨kV prog 65,by kernel_rfl,by kernel_rfl,by kernel_rfl⟩
theorem Nu:bT vw prog 83 (.int .u64):=(by kernel_rfl:prog.underlying 83=some (.int .u64))
theorem Nv:bT vw prog 94 (.int .i64):=(by kernel_rfl:prog.underlying 94=some (.int .i64))
theorem L3:bT vw prog 102 (.int .u32):=(by kernel_rfl:prog.underlying 102=some (.int .u32))
theorem L4:bT vw prog 104 (.int .u64):=(by kernel_rfl:prog.underlying 104=some (.int .u64))
theorem L5:bT vw prog 106 (.sl (.int .u8)):=⟨5,by kernel_rfl,by kernel_rfl,by kernel_rfl,by kernel_rfl⟩
theorem L6:bT vw prog 116 (.st .acceptRangeT):=⟨kV prog 116,by kernel_rfl,by kernel_rfl,by kernel_rfl⟩
theorem L7:bT vw prog 120 (.int .i64):=(by kernel_rfl:prog.underlying 120=some (.int .i64))
theorem L8:bT vw prog 128 (.int .u64):=(by kernel_rfl:prog.underlying 128=some (.int .u64))
theorem L9:bT vw prog 158 (.st .errorStringT):=⟨kV prog 158,by kernel_rfl,by kernel_rfl,by kernel_rfl⟩
theorem L_:bT vw prog 192 (.int .u8):=(by kernel_rfl:prog.underlying 192=some (.int .u8))
theorem Ma:bT vw prog 193 (.int .u8):=(by kernel_rfl:prog.underlying 193=some (.int .u8))
theorem Mb:bT vw prog 195 (.int .i32):=(by kernel_rfl:prog.underlying 195=some (.int .i32))
theorem Mc:bT vw prog 196 (.int .i32):=(by kernel_rfl:prog.underlying 196=some (.int .i32))
theorem bz{ls:List (cg NN)}{t:Ty SN}{ts:List (Ty SN)}(h:ls.map (·.t)=t::ts):∃(x:den NN t) (ls':List (cg NN)),ls=⟨t,x⟩::ls'/\ls'.map (·.t)=ts:=by
 match ls,h with
 |⟨t',x⟩::r,h=>
  simp only[NF,OT]at h
  obtain⟨h1,h2⟩:=h
  subst h1
  exact⟨x,r,rfl,h2⟩
theorem fM{ls:List (cg NN)}(h:ls.map (·.t)=[]):ls=[]:=by simpa using h
instance:OkI vw:=⟨λi=>match i with
 |_=>true⟩
theorem facts:CX vw prog where
 ty:=λt τ h hn=>by
  have h:tyN t=some τ:=h
  unfold tyN at h
  split at h
  ·cases h;exact tf2
  ·cases h;exact tf3
  ·cases h;exact tf4
  ·cases h;exact tf5
  ·cases h;exact tf6
  ·cases h;exact tf9
  ·cases h;exact Nj
  ·cases h;exact Nk
  ·cases h;exact Nl
  ·cases h;exact Nm
  ·cases h;exact Nn
  ·cases h;exact Np
  ·cases h;exact Nq
  ·cases h;exact Nr
  ·cases h;exact Ns
  ·cases h;exact Nt
  ·cases h;exact Nu
  ·cases h;exact Nv
  ·cases h;exact L3
  ·cases h;exact L4
  ·cases h;exact L5
  ·cases h;cases hn
  ·cases h;exact L6
  ·cases h;cases hn
  ·cases h;exact L7
  ·cases h;exact L8
  ·cases h;cases hn
  ·cases h;exact L9
  ·cases h;cases hn
  ·cases h;cases hn
  ·cases h;cases hn
  ·cases h;cases hn
  ·cases h;cases hn
  ·cases h;cases hn
  ·cases h;exact L_
  ·cases h;exact Ma
  ·cases h;exact Mb
  ·cases h;exact Mc
  ·cases h
 nof:=λi=>by cases i<;>rfl
 tys:=λi x=>by cases i<;>rfl
 of:=λi ls h=>by
  cases i with
  |tagT=>
   obtain⟨a0,l0,rfl,h0⟩:=bz h
   obtain⟨a1,l1,rfl,h1⟩:=bz h0
   obtain⟨a2,l2,rfl,h2⟩:=bz h1
   obtain⟨a3,l3,rfl,h3⟩:=bz h2
   obtain⟨a4,l4,rfl,h4⟩:=bz h3
   obtain rfl:=fM h4
   exact⟨_,rfl⟩
  |sizeT=>
   obtain⟨a0,l0,rfl,h0⟩:=bz h
   obtain⟨a1,l1,rfl,h1⟩:=bz h0
   obtain⟨a2,l2,rfl,h2⟩:=bz h1
   obtain rfl:=fM h2
   exact⟨_,rfl⟩
  |readerT=>
   obtain⟨a0,l0,rfl,h0⟩:=bz h
   obtain⟨a1,l1,rfl,h1⟩:=bz h0
   obtain rfl:=fM h1
   exact⟨_,rfl⟩
  |acceptRangeT=>
   obtain⟨a0,l0,rfl,h0⟩:=bz h
   obtain⟨a1,l1,rfl,h1⟩:=bz h0
   obtain rfl:=fM h1
   exact⟨_,rfl⟩
  |errorStringT=>
   obtain⟨a0,l0,rfl,h0⟩:=bz h
   obtain rfl:=fM h0
   exact⟨_,rfl⟩
end Go.Proofs.YtpndmanbfleadaaGreatDoor
end
section
namespace Go.Tx
open Go.Awp
variable [Inhabited GMem]
theorem cX.pure{P:Program}{f:FuncId}{args:List H}{r:H}(hc:dO P f=true)
 (h:∀(E:Env) (M:Mem) (w:World) (vs:Array Value),GOk M w->(∀b o v,M b o=some v->w.cell? ⟨b,o,none⟩=some v)->fB E M vs args->
   Calls P f vs w λe w'=>∃v,e= .returned v/\aN E M v r/\Go.RowKit.Below w.heap.size w w'):cX P f args [] r []:=by
 refine⟨hc,λE M w vs hgm hm _ hvs=>(h E M w vs hgm hm hvs).mono ?_⟩
 rintro e w' ⟨v,rfl,hr,hb⟩
 refine⟨v,E,M,rfl,{rep:=hr,owns:=⟨λn o hn=>by simp[gt]at hn,λn m o o' b _ hn=>by simp[gt]at hn⟩,mle:=Mem.le_refl _,mem:=λb o v hv=> ?_,mnew:=λb o v hv=> .inl hv,home:=λn o b hn=>by simp[gt]at hn,frame:=λk hk _=>hb.block k hk,grows:=hb.size,os:=hb.os,tape:=hb.tape,output:=hb.output,env:=λ_ _=>rfl}⟩
 have h1:=hm b o v hv
 have hlt:=World.block_lt_of_cell? w (a:=⟨b,o,none⟩) h1
 rw[<-h1]
 exact World.cell?_of_block (a:=⟨b,o,none⟩) (hb.block b hlt)
theorem dP{E:Env}{M:Mem}{vs:Array Value}{a:H}(h:fB E M vs [a]):∃v,vs= #[v]/\aN E M v a:=by
 obtain⟨h1,h2⟩:=h
 match vs,h1 with
 |⟨[v]⟩,_=>exact⟨v,rfl,h2 0 v a rfl rfl⟩
theorem sZ{E:Env}{M:Mem}{vs:Array Value}{a b:H}(h:fB E M vs [a,b]):∃v u,vs= #[v,u]/\aN E M v a/\aN E M u b:=by
 obtain⟨h1,h2⟩:=h
 match vs,h1 with
 |⟨[v,u]⟩,_=>exact⟨v,u,rfl,h2 0 v a rfl rfl,h2 1 u b rfl rfl⟩
theorem El{E:Env}{M:Mem}{v:Value}{xs:List ByteArray}(h:aN E M v (.d (.sl 1 (xs.map λy=>[D.v (.string y)])))):
 (xs=[]/\∃a c,v= .slice a 0 c)\/∃b off c,xs≠[]/\v= .slice (some ⟨b,off,none⟩) xs.length c/\xs.length<=c/\∀(j:Nat) x,xs[j]?=some x->M b (off+j)=some (.string x):=by
 cases h with
 |d h=>
  generalize hr:(xs.map λy=>[D.v (.string y)])=rows at h
  cases h with
  |slnil=>exact .inl ⟨by simpa using hr,none,0,rfl⟩
  |slmt a cap=>exact .inl ⟨by simpa using hr,some a,cap,rfl⟩
  |sl b off len cap _ _ c hlen hcap hsz hm hh=>
   subst hr
   rw[Nz]at hlen
   subst hlen
   by_cases he:xs=[]
   ·subst he;exact .inl ⟨rfl,_,cap,rfl⟩
   ·refine .inr ⟨b,off,cap,he,rfl,hcap,λj x hj=> ?_⟩
    have hlt:j<xs.length:=(Nx.1 hj).1
    have h1:=hm j (by omega)
    have h2:=hh j 0 [D.v (.string x)] (.v (.string x)) (by simp[hj]) rfl
    simp only[PC,Oo]at h2
    rw[h1]
    generalize hq:c j=q at h2
    cases h2
    rfl
theorem cX.copyCheck{P:Program}{f:FuncId}{T:TypeId}{rest:List D}(hc:dO P f=true)
 (fresh:∀(b:Nat) (w:World),w.cell? ⟨b,0,none⟩=some (.pointer none)->w.shape? b=some (T,rest.length+2)->w.frozen? ⟨b,0,none⟩=false->
   Calls P f #[.pointer (some ⟨b,0,none⟩)] w λe w'=>e= .returned (.tuple #[])/\w'=w.setCell ⟨b,0,none⟩ (.pointer (some ⟨b,0,none⟩)))
 (used:∀(b:Nat) (w:World),w.cell? ⟨b,0,none⟩=some (.pointer (some ⟨b,0,none⟩))->
   Calls P f #[.pointer (some ⟨b,0,none⟩)] w λe w'=>e= .returned (.tuple #[])/\w'=w)
 {g m c l:Nat}{bl:Bool}{e sz:Nat}{rows:List (List D)}(hgm:g≠m)(hgc:g≠c)(hcg:c<given):
 cX P f [.bp g 0] [(g, .box (some T) (.np g bl:: .vh m l::rest.map H.d)),(m, .vec e sz rows)] (.tup []) [(g, .box (some T) (.np g true:: .vh c l::rest.map H.d)),(c, .vec e sz rows)]:=by
 refine⟨hc,λE M w vs _ hm how hvs=> ?_⟩
 obtain⟨v,rfl,hv⟩:=dP hvs
 have g1:gt [(g,Own.box (some T) (H.np g bl::H.vh m l::rest.map H.d)),(m,Own.vec e sz rows)] g=some (.box (some T) (.np g bl:: .vh m l::rest.map H.d)):=by simp[gt]
 have g2:gt [(g,Own.box (some T) (H.np g bl::H.vh m l::rest.map H.d)),(m,Own.vec e sz rows)] m=some (.vec e sz rows):=by simp[gt,hgm]
 have o1:=how.ok g _ g1
 have o2:=how.ok m _ g2
 obtain⟨b,cs,ty,k1,k2,k3,k4,k5,k6⟩:=o1
 have hty:=k6 T rfl
 subst hty
 cases hv with
 |bp n off b' hE=>
 rw[hE]at k1;cases k1
 obtain⟨p,q,rs,rfl⟩:∃p q rs,cs=⟨p::q::rs⟩:=by
  match cs,k3 with
  |⟨p::q::rs⟩,_=>exact⟨p,q,rs,rfl⟩
 have hrs:rs.length=rest.length:=by simpa using k3
 have hp:=k4 0 p (.np g bl) rfl rfl
 have hq:=k4 1 q (.vh m l) rfl rfl
 have hcell:∀u,w.cell? ⟨b,0,none⟩=some u↔p=u:=λu=>by simp[World.cell?,k2]
 have hsh:w.shape? b=some (ty,rest.length+2):=by simp[World.shape?,k2,hrs]
 have hfz:w.frozen? ⟨b,0,none⟩=false:=by simp[World.frozen?,k2]
 have hblt:b<w.heap.size:=(NL.1 k2).1
 have hapart:∀b',aj (E m)=some b'->b'≠b:=λb' hb' he=>by
  subst he
  exact how.apart g m _ _ b' hgm g1 g2 (by rw[hE];rfl) hb'
 let E':Env:=λn=>if n=c then E m else E n
 have hE':∀n,n≠c->E' n=E n:=λn hn=>by simp[E',hn]
 have hEc:E' c=E m:=by simp[E']
 have hEg:E' g= .pointer (some ⟨b,0,none⟩):=by rw[hE' g hgc];exact hE
 have fin:∀w',w'.heap=w.heap.setIfInBounds b (.cells ⟨.pointer (some ⟨b,0,none⟩)::q::rs⟩ ty (0,0))->w'.os=w.os->w'.tape=w.tape->w'.output=w.output->
  pA E M [(g, .box (some ty) (.np g bl:: .vh m l::rest.map H.d)),(m, .vec e sz rows)] w (.tuple #[]) (.tup []) [(g, .box (some ty) (.np g true:: .vh c l::rest.map H.d)),(c, .vec e sz rows)] E' M w':=by
  intro w' hh h1 h2 h3
  have hother:∀k,k≠b->w'.heap[k]?=w.heap[k]?:=λk hk=>by
   rw[hh,Om (λe=>hk e.symm)]
  have hft:∀n o bb,gt [(g,Own.box (some ty) (H.np g true::H.vh c l::rest.map H.d)),(c,Own.vec e sz rows)] n=some o->o.foot w' (E' n) bb->aj (E' n)=some bb:=by
   intro n o bb hn hb
   rw[af]at hn
   by_cases hgn:g=n
   ·rw[Q6 hgn]at hn;cases hn;exact hb
   ·rw[Q5 hgn,af]at hn
    by_cases hcn:c=n
    ·rw[Q6 hcn]at hn;cases hn;exact hb
    ·rw[Q5 hcn]at hn;simp[gt]at hn
  have hblk:∀n o bb,gt [(g,Own.box (some ty) (H.np g true::H.vh c l::rest.map H.d)),(c,Own.vec e sz rows)] n=some o->aj (E' n)=some bb->(n=g/\bb=b)\/(n=c/\aj (E m)=some bb):=by
   intro n o bb hn hb
   rw[af]at hn
   by_cases hgn:g=n
   ·subst hgn;rw[hEg]at hb;left;exact⟨rfl,by simpa[aj]using hb.symm⟩
   ·rw[Q5 hgn,af]at hn
    by_cases hcn:c=n
    ·subst hcn;rw[hEc]at hb;right;exact⟨rfl,hb⟩
    ·rw[Q5 hcn]at hn;simp[gt]at hn
  refine{rep:= .tup #[] [] rfl (λi c x hc=>by simp at hc),owns:=⟨λn o hn=> ?_,λn n' o o' bb hne hn hn' hb hb'=> ?_⟩,mle:=Mem.le_refl _,mem:=λbb o v hv=> ?_,mnew:=λbb o v hv=> .inl hv,home:=λn o bb hn hb=> ?_,frame:=λk hk hx=> ?_,grows:= ?_,os:=h1,tape:=h2,output:=h3,env:=λn hn=> ?_}
  ·rw[af]at hn
   by_cases hgn:g=n
   ·subst hgn
    rw[Q6 rfl]at hn;cases hn
    refine⟨b,⟨.pointer (some ⟨b,0,none⟩)::q::rs⟩,ty,hEg,by rw[hh];simp[hblt],by simp[hrs],λi x y hx hy=> ?_,k5,λt ht=>by cases ht;rfl⟩
    match i with
    |0=>simp at hx hy;subst hx;subst hy;exact .np1 g b hEg
    |1=>
     simp at hx hy;subst hx;subst hy
     cases hq with
     |vh _ len l' cc ad hEm hl=>exact aN.vh c l l' cc ad (hEc.trans hEm) hl
    |i+2=>
     have hr:=k4 (i+2) x y (by simpa using hx) (by simpa using hy)
     have hy':(rest.map H.d)[i]?=some y:=by simpa using hy
     rw[NB,NK]at hy'
     obtain⟨d,_,rfl⟩:=hy'
     cases hr with
     |d hd=>exact .d hd
   ·rw[Q5 hgn,af]at hn
    by_cases hcn:c=n
    ·subst hcn
     rw[Q6 rfl]at hn;cases hn
     have:=o2.keep (E':=E) (M':=M) (w':=w') rfl (λb' hb'=>hother b' (hapart b' hb')) (λ_ _=>rfl) (Mem.le_refl _) λb' hb'=>(o2.block hb').2
     obtain⟨xs,y1,y2,y3,y4⟩:=this
     exact⟨xs,by rw[hEc];exact y1,y2,y3,by rw[hEc];exact y4⟩
    ·rw[Q5 hcn]at hn;simp[gt]at hn
  ·rcases hblk n o bb hn (hft n o bb hn hb)with⟨rfl,rfl⟩|⟨rfl,h4⟩
   ·rcases hblk n' o' bb hn' (hft n' o' bb hn' hb')with⟨rfl,_⟩|⟨rfl,h5⟩
    ·exact hne rfl
    ·exact hapart bb h5 rfl
   ·rcases hblk n' o' bb hn' (hft n' o' bb hn' hb')with⟨rfl,rfl⟩|⟨rfl,h5⟩
    ·exact hapart bb h4 rfl
    ·exact hne rfl
  ·have h4:=hm bb o v hv
   have hne:bb≠b:=by rintro rfl;rw[k5 o]at hv;cases hv
   rw[<-h4]
   exact World.cell?_of_block (a:=⟨bb,o,none⟩) (hother bb hne)
  ·rcases hblk n o bb hn (hft n o bb hn hb)with⟨rfl,rfl⟩|⟨rfl,h4⟩
   ·exact .inl ⟨n,_,g1,by rw[hE];rfl⟩
   ·exact .inl ⟨m,_,g2,h4⟩
  ·exact hother k λe=>hx ⟨g,_,g1,by rw[hE,e];rfl⟩
  ·rw[hh];simp
  ·exact hE' n (by omega)
 cases hp with
 |np0=>
  refine(fresh b w ((hcell _).2 rfl) hsh hfz).mono ?_
  rintro e' w' ⟨rfl,rfl⟩
  refine⟨_,E',M,rfl,fin _ ?_ rfl rfl rfl⟩
  simp only[World.setCell]
  apply Array.ext'
  rw[PK]
  apply Ot
  intro k
  simp only[Array.toList_modify,List.getElem?_modify,Ol,OA,OP]
  by_cases hk:b=k
  ·subst hk
   have k2':w.heap[b]= .cells ⟨.pointer none::q::rs⟩ ty (0,0):=by rw[N4 hblt]at k2;exact Pm k2
   simp[hblt,k2']
  ·simp[hk]
 |np1 _ b' hb'=>
  rw[hE]at hb';cases hb'
  refine(used b w ((hcell _).2 rfl)).mono ?_
  rintro e' w' ⟨rfl,rfl⟩
  refine⟨_,E',M,rfl,fin _ ?_ rfl rfl rfl⟩
  apply Array.ext'
  rw[PK]
  apply Ot
  intro k
  simp only[Ol,OA,OP]
  by_cases hk:b=k
  ·subst hk
   rw[k2];simp[hblt]
  ·simp[hk]
section
open Go.Shelf Go.RowKit Go.Proofs
set_option maxHeartbeats 1000000 in
end
end Go.Tx
end
section
namespace Go.Tx
open Go.Awp Go.Proofs
variable [Inhabited GMem]
theorem qR{α:Type}{n m:Nat}{x y:α}(h:gt [(n,x)] m=some y):m=n/\y=x:=by
 simp only[af]at h
 split at h
 ·rename_i e;cases h;exact⟨e.symm,rfl⟩
 ·simp[gt]at h
theorem BX{E:Env}{M:Mem}{w w':World}{a c te sz:Nat}{rows rows':List (List D)}{nv v:Value}{r:H}(ho:CY E M w [(a, .vec te sz rows)])(hm:∀b o v,M b o=some v->w.cell? ⟨b,o,none⟩=some v)(hcg:c<given\/nv=E c)
 (hgr:w.grownBy w' (aj (E a)))(hb:∀b,aj nv=some b->aj (E a)=some b)(hn:aI (λx=>if x=c then nv else E x) M w' c (.vec te sz rows'))(hr:aN (λx=>if x=c then nv else E x) M v r):
 pA E M [(a, .vec te sz rows)] w v r [(c, .vec te sz rows')] (λx=>if x=c then nv else E x) M w':=by
 have hok:aI E M w a (.vec te sz rows):=ho.ok a _ (by simp[gt])
 obtain⟨cs,_,_,_,hM⟩:=hok
 refine{rep:=hr,owns:=⟨λn o hq=> ?_,λn m o o' b hne hq hq'=> ?_⟩,mle:=Mem.le_refl _,mem:=λb o v hv=> ?_,mnew:=λb o v hv=> .inl hv,home:=λn o b hq hf=> ?_,frame:=λx hx hxn=>hgr.block x hx λe=>hxn ⟨a, .vec te sz rows,by simp[gt],e.symm⟩,grows:=hgr.size,os:=hgr.os,tape:=hgr.tape,output:=hgr.output,env:=λn hq=> ?_}
 ·obtain⟨rfl,rfl⟩:=qR hq
  exact hn
 ·obtain⟨rfl,_⟩:=qR hq
  obtain⟨rfl,_⟩:=qR hq'
  exact(hne rfl).elim
 ·refine hgr.cell (hm b o v hv) λe=> ?_
  have:=hM b e.symm o
  rw[hv]at this
  cases this
 ·obtain⟨rfl,rfl⟩:=qR hq
  have hf:aj (if n=n then nv else E n)=some b:=hf
  rw[Q6 rfl]at hf
  exact .inl ⟨a, .vec te sz rows,by simp[gt],hb b hf⟩
 ·show(if n=c then nv else E n)=E n
  by_cases hnc:n=c
  ·subst hnc
   rcases hcg with h|h
   ·omega
   ·rw[Q6 rfl];exact h
  ·exact Q5 hnc
theorem vf{α:Type}[Inhabited α]{enc:α->Value}{w:World}{g te n:Nat}{cur:Array Value}{d:Array α}{os:Array Obj}(hg:w.heap[g]?=some (.cells cur te (0,0))):
 (Sort.grow (Sort.putRow enc (Sort.ahead w n) g 0 d) os).heap[g]?=some (.cells (Sort.putCells enc 0 d cur) te (0,0))/\w.grownBy (Sort.grow (Sort.putRow enc (Sort.ahead w n) g 0 d) os) (some g):=by
 have hlt:g<w.heap.size:=(NL.1 hg).1
 constructor
 ·unfold Sort.grow Sort.putRow Sort.mapBlock Sort.ahead
  simp only[QJ,Array.size_modify,hlt,Q2,OW,hg,N6]
  rfl
 ·refine⟨rfl,rfl,rfl,?_,λk hk hne=> ?_⟩
  ·unfold Sort.grow Sort.putRow Sort.mapBlock Sort.ahead
   simp
  ·have hkg:¬g=k:=λe=>hne (by rw[e])
   unfold Sort.grow Sort.putRow Sort.mapBlock Sort.ahead
   simp only[QJ,Array.size_modify,hk,Q2,OW,hkg,Q3]
theorem cX.row1{P:Program}{f:FuncId}{α:Type}[Inhabited α]{enc:α->Value}(hc:dO P f=true){ret:Bool}{xs ys:List α}{k te a c:Nat}(hcg:c<given\/c=a/\ret=false)(hk:k<=ys.length)(hl:ys.length=xs.length)
 (h:∀(g cap:Nat) (w:World),xs≠[]->Sort.Holds enc w g 0 xs.toArray->g<w.heap.size->xs.length<=cap->Calls P f #[.slice (some ⟨g,0,none⟩) xs.length cap] w λe w'=>
   e= .returned (if ret then .slice (some ⟨g,0,none⟩) k cap else .tuple #[])/\∃n os,w'=Sort.grow (Sort.putRow enc (Sort.ahead w n) g 0 ys.toArray) os)
 (h0:∀(p:Option Addr) (cap:Nat) (w:World),xs=[]->Calls P f #[.slice p 0 cap] w λe w'=>e= .returned (if ret then .slice p 0 cap else .tuple #[])/\w'=w)(hr:ret=false->k=ys.length):
 cX P f [.vh a xs.length] [(a, .vec te 1 (xs.map λx=>[D.v (enc x)]))] (if ret then .vh c k else .tup []) [(c, .vec te 1 ((ys.take k).map λx=>[D.v (enc x)]))]:=by
 refine⟨hc,λE M w vs hgm hm ho hv=> ?_⟩
 obtain⟨v1,rfl,r1⟩:=dP hv
 have hok:aI E M w a (.vec te 1 (xs.map λx=>[D.v (enc x)])):=ho.ok a _ (by simp[gt])
 obtain⟨cs,hown,hz,hD,hM⟩:=hok
 rw[Nz]at hown
 have hrep:∀(nv:Value) (ad:Option Addr) (cap:Nat),nv= .slice ad k cap->aN (λx=>if x=c then nv else E x) M (if ret then nv else .tuple #[]) (if ret then .vh c k else .tup []):=λnv ad cap hnv=>by
  cases ret with
  |true=>
   simp only[Q2]
   rw[hnv]
   exact aN.vh c k k cap ad (Q6 rfl) (NY _)
  |false=>exact .tup #[] [] rfl (λi c x hc=>by simp at hc)
 by_cases hx:xs=[]
 ·have hy:ys=[]:=by
   cases ys with
   |nil=>rfl
   |cons y r=>rw[hx]at hl;cases hl
  have hk0:k=0:=by rw[hy]at hk;simpa using hk
  obtain⟨ad,cap,hE⟩:∃ad cap,E a= .slice ad xs.length cap:=by
   rcases hown.2 with⟨hE,hn⟩|⟨g,cap,cur,hE,_⟩
   ·exact⟨none,0,by rw[hE,hx];rfl⟩
   ·exact⟨_,cap,hE⟩
  have hv1:v1= .slice ad 0 cap:=by rw[d5 r1 hE,hE,hx];rfl
  rw[hv1]
  refine(h0 ad cap w hx).mono ?_
  rintro e w' ⟨rfl,rfl⟩
  have hEa:E a= .slice ad 0 cap:=by rw[hE,hx];rfl
  refine⟨_,_,M,rfl,BX (nv:= .slice ad 0 cap) ho hm (hcg.imp_right λh=>by rw[h.1];exact hEa.symm) ⟨rfl,rfl,rfl,NY _,λ_ _ _=>rfl⟩ (λb hb=>by rw[hEa];exact hb) ?_ ?_⟩
  ·subst hy
   have hcs:cs=[]:=by
    have h2:=hown.1
    rw[hx]at h2
    simpa using h2
   subst hcs
   rw[List.take_nil]
   refine⟨[],?_,by simp,by simp,λb hb=>hM b ?_⟩
   ·show World.ownsRow _ 0 te 1 (if c=c then Value.slice ad 0 cap else E c) _ _
    rw[Q6 rfl,<-hEa]
    rw[hx]at hown
    exact hown
   ·have hb:aj (if c=c then Value.slice ad 0 cap else E c)=some b:=hb
    rw[Q6 rfl]at hb
    rw[hEa];exact hb
  ·have:=hrep (.slice ad 0 cap) ad cap (by rw[hk0])
   cases ret<;>exact this
 ·rcases hown.2 with⟨hE,hn⟩|⟨g,cap,cur,hE,_,hg,hnc,hcm,hcs,hct⟩
  ·exact(hx (PS.1 hn)).elim
  have hv1:v1= .slice (some ⟨g,0,none⟩) xs.length cap:=by rw[d5 r1 hE,hE]
  rw[hv1]
  have hlt:g<w.heap.size:=(NL.1 hg).1
  have hH:Sort.Holds enc w g 0 xs.toArray:=λj hj=>by
   have hj':j<xs.length:=by simpa using hj
   rw[N2]
   refine⟨?_,frozen_of_row w g j cur te hg⟩
   rw[cell_of_row w g j cur te (0,0) hg]
   have hcl:cs.length=xs.length *1:=hown.1
   have hjc:j<cs.length:=by omega
   have h1:cur[j]?=some cs[j]:=by
    have:cs[j]?=cur.toList[j]?:=by rw[<-hct,NO,Q6 (by omega)]
    rw[<-OA,<-this,ND hjc]
   rw[h1]
   have h2:=hD j 0 [D.v (enc xs[j])] cs[j] (.v (enc xs[j])) (by simp[hj']) rfl (by simp[hjc])
   generalize cs[j]=q at h2
   cases h2
   simp[hj']
  refine(h g cap w hx hH hlt hnc).mono ?_
  rintro e w' ⟨rfl,n,os,rfl⟩
  obtain⟨p1,p2⟩:=vf (enc:=enc) (n:=n) (d:=ys.toArray) (os:=os) hg
  refine⟨_,_,M,rfl,BX (nv:= .slice (some ⟨g,0,none⟩) k cap) ho hm (hcg.imp_right λh=>by rw[h.1,hE,hr h.2,hl]) (by rw[hE];exact p2) (λb hb=>by rw[hE];exact hb) ?_ (by have:=hrep (.slice (some ⟨g,0,none⟩) k cap) _ cap rfl;cases ret<;>exact this)⟩
  have hkc:k<=cap:=by omega
  have hsz:(Sort.putCells enc 0 ys.toArray cur).size=cap *1:=by rw[<-hcs];simp[Sort.putCells]
  have htk:((ys.take k).map enc).length=k:=by rw[Nz,Oa];omega
  refine⟨(ys.take k).map enc,?_,λr hr=> ?_,λi j r cv x hr hj hc=> ?_,λb hb=>hM b ?_⟩
  ·show World.ownsRow _ 0 te 1 (if c=c then Value.slice (some ⟨g,0,none⟩) k cap else E c) _ _
   rw[Q6 rfl,Nz,Oa,OO hk]
   refine⟨by rw[htk,PC], .inr ⟨g,cap,_,rfl,OI _,p1,hkc,hcm,hsz,?_⟩⟩
   rw[PC]
   apply Ot
   intro j
   rw[NO,NB]
   by_cases hj:j<k
   ·rw[Q6 hj,OA,NO,Q6 hj]
    have hjy:j<ys.length:=by omega
    have hjc:j<cur.size:=by omega
    simp[Sort.putCells,hjy,hjc]
   ·rw[Q5 hj,NO,Q5 hj];rfl
  ·obtain⟨y,_,rfl⟩:=N3.1 hr
   rfl
  ·rw[NB,NK]at hr
   obtain⟨y,hy,rfl⟩:=hr
   match j,hj with
   |0,hj=>
    simp only[O9,Ny]at hj
    subst hj
    rw[PC,Oo,NB,hy]at hc
    simp only[N6,Ny]at hc
    subst hc
    exact .v _
   |j+1,hj=>simp at hj
  ·have hb:aj (if c=c then Value.slice (some ⟨g,0,none⟩) k cap else E c)=some b:=hb
   rw[Q6 rfl]at hb
   rw[hE];exact hb
theorem cX.newData{P:Program}{f:FuncId}{args:List H}{own:List (Nat×Own)}{sz:Nat}{rows:List (List D)}(hc:dO P f=true)(hz:∀r∈rows,r.length=sz)
 (h:∀(E:Env) (M:Mem) (w:World) (vs:Array Value),GOk M w->(∀b o v,M b o=some v->w.cell? ⟨b,o,none⟩=some v)->CY E M w own->fB E M vs args->
   Calls P f vs w λe w'=>∃(v:Value) (cs:List Value) (te:TypeId),e= .returned v/\w'.ownsRow w.heap.size te sz v rows.length cs/\Go.RowKit.Below w.heap.size w w'/\
    ∀(i j:Nat) (r:List D) (c:Value) (x:D),rows[i]?=some r->r[j]?=some x->cs[i *sz+j]?=some c->bU M c x):cX P f args own (.d (.sl sz rows)) []:=by
 refine⟨hc,λE M w vs hgm hm ho hvs=>(h E M w vs hgm hm ho hvs).mono ?_⟩
 rintro e w' ⟨v,cs,te,rfl,hrow,hb,hcr⟩
 have hold:∀b,b<w.heap.size->w'.heap[b]?=w.heap[b]?:=λb hlt=>hb.block b hlt
 have hkeep:∀b k u,M b k=some u->w'.cell? ⟨b,k,none⟩=some u:=λb k u hu=>by
  have h1:=hm b k u hu
  have hlt:=World.block_lt_of_cell? w (a:=⟨b,k,none⟩) h1
  rw[<-h1]
  exact World.cell?_of_block (a:=⟨b,k,none⟩) (hold b hlt)
 rcases hrow.2 with⟨rfl,hn⟩|⟨g,cap,cur,rfl,hg0,hg,hnc,hcm,hcs,hct⟩
 ·have hr:rows=[]:=PS.1 hn
  subst hr
  exact⟨_,E,M,rfl,{rep:= .d (.slnil _),owns:=⟨λn o hn=>by simp[gt]at hn,λn m o o' b _ hn=>by simp[gt]at hn⟩,mle:=Mem.le_refl _,mem:=hkeep,mnew:=λb k v hv=> .inl hv,home:=λn o b hn=>by simp[gt]at hn,frame:=λk hk _=>hold k hk,grows:=hb.size,os:=hb.os,tape:=hb.tape,output:=hb.output,env:=λ_ _=>rfl}⟩
 ·have hnew:∀k,M g k=none:=λk=>by
   cases hk:M g k with
   |none=>rfl
   |some v=>
    have:=World.block_lt_of_cell? w (a:=⟨g,k,none⟩) (hm _ _ _ hk)
    simp only at this
    omega
  let M':Mem:=λb k=>if b=g then cs[k]? else M b k
  have hM:M.le M':=λb k v hv=>by
   by_cases hbg:b=g
   ·subst hbg;rw[hnew]at hv;cases hv
   ·simp[M',hbg,hv]
  have hcl:cs.length=rows.length *sz:=hrow.1
  refine⟨_,E,M',rfl,{rep:= ?_,owns:=⟨λn o hn=>by simp[gt]at hn,λn m o o' b _ hn=>by simp[gt]at hn⟩,mle:=hM,mem:=λb k v hv=> ?_,mnew:=λb k v hv=> ?_,home:=λn o b hn=>by simp[gt]at hn,frame:=λk hk _=>hold k hk,grows:=hb.size,os:=hb.os,tape:=hb.tape,output:=hb.output,env:=λ_ _=>rfl}⟩
  ·refine .d (.sl g 0 rows.length cap sz rows (λk=>cs.getD k undef) rfl hnc hz (λk hk=> ?_) λi j r x hr hx=> ?_)
   ·have:k<cs.length:=by omega
    simp only[M',Q2,N2]
    rw[ND this]
    simp[QZ,this]
   ·have hj:j<sz:=by
     have:=hz r (NJ hr)
     have:=(Nx.1 hx).1;omega
    have hi:i<rows.length:=(Nx.1 hr).1
    have hmul:(i+1) *sz<=rows.length *sz:=NR _ hi
    rw[N8]at hmul
    have hk:i *sz+j<cs.length:=by omega
    have:=hcr i j r cs[i *sz+j] x hr hx (ND hk)
    have hgd:cs.getD (i *sz+j) undef=cs[i *sz+j]:=by simp[QZ,hk]
    rw[hgd]
    exact this.mono hM
  ·by_cases hbg:b=g
   ·subst hbg
    simp only[M',Q2]at hv
    rw[cell_of_row _ b k cur te (0,0) hg]
    have hk:=(Nx.1 hv).1
    rw[<-hct,NO]at hv
    split at hv
    ·simpa using hv
    ·cases hv
   ·simp only[M',Q5 hbg]at hv
    exact hkeep b k v hv
  ·by_cases hbg:b=g
   ·exact .inr (.inr (by omega))
   ·simp only[M',Q5 hbg]at hv
    exact .inl hv
def sortStr(xs:List ByteArray):List ByteArray:=((xs.map λs=>s.data.toList).mergeSort λx y=>decide (x<=y)).map λl=>⟨l.toArray⟩
def compactStr(xs:List ByteArray):List ByteArray:=(Lib.compact (xs.map λs=>s.data.toList)).map λl=>⟨l.toArray⟩
theorem xb(xs:List ByteArray):(xs.map λs=>[D.v (.string s)])=(xs.map λs=>s.data.toList).map λl=>[D.v (encStr l)]:=by
 rw[N0]
 exact NZ λx _=>rfl
theorem rL(ls:List (List UInt8)):((ls.map λl=>(⟨l.toArray⟩:ByteArray)).map λs=>[D.v (.string s)])=ls.map λl=>[D.v (encStr l)]:=by
 rw[N0]
 exact NZ λx _=>rfl
theorem nj{α:Type}[Inhabited α][DecidableEq α](xs:List α):(Lib.compact xs).length<=xs.length:=by
 unfold Lib.compact Lib.compactUpTo
 rw[Nz]
 exact OH (List.length_filter_le _ _) (by simp)
theorem cX.sortStr{P:Program}{f:FuncId}{te a:Nat}{xs:List ByteArray}(hc:dO P f=true)
 (h:∀(b o cap:Nat) (zs:List (List UInt8)) (w:World),Sort.Holds encStr w b o zs.toArray->b<w.heap.size->zs.length<4611686018427387904->Calls P f #[.slice (some ⟨b,o,none⟩) zs.length cap] w λe w'=>
   e= .returned (.tuple #[])/\∃n os,w'=Sort.grow (Sort.putRow encStr (Sort.ahead w n) b o (zs.mergeSort λx y=>decide (x<=y)).toArray) os)
 (h0:∀(p:Option Addr) (cap:Nat) (w:World),Calls P f #[.slice p 0 cap] w λe w'=>e= .returned (.tuple #[])/\w'=w)(hl:xs.length<4611686018427387904):
 cX P f [.vh a xs.length] [(a, .vec te 1 (xs.map λs=>[D.v (.string s)]))] (.tup []) [(a, .vec te 1 ((Go.Tx.sortStr xs).map λs=>[D.v (.string s)]))]:=by
 have h1:=cX.row1 (P:=P) (f:=f) (enc:=encStr) (ret:=false) (xs:=xs.map λs=>s.data.toList) (ys:=(xs.map λs=>s.data.toList).mergeSort λx y=>decide (x<=y)) (k:=xs.length) (te:=te) (a:=a) (c:=a) hc (.inr ⟨rfl,rfl⟩) (by simp) (by simp) ?_ ?_ (λ_=>by simp)
 ·rw[xb,Go.Tx.sortStr,rL]
  rw[Nz,Oh (by simp)]at h1
  exact h1
 ·intro g cap w _ hH hb _
  have h2:=h g 0 cap (xs.map λs=>s.data.toList) w hH hb (by rw[Nz];exact hl)
  refine h2.mono ?_
  rintro e w' ⟨he,n,os,hw⟩
  exact⟨he,n,os,hw⟩
 ·intro p cap w _
  refine(h0 p cap w).mono ?_
  rintro e w' ⟨he,hw⟩
  exact⟨he,hw⟩
theorem cX.compactStr{P:Program}{f:FuncId}{te a c:Nat}{xs:List ByteArray}(hc:dO P f=true)
 (h:∀(b o cap:Nat) (zs:List (List UInt8)) (w:World),Sort.Holds encStr w b o zs.toArray->zs.length<=9223372036854775807->zs.length<=cap->Calls P f #[.slice (some ⟨b,o,none⟩) zs.length cap] w λe w'=>
   e= .returned (.slice (some ⟨b,o,none⟩) (Lib.compact zs).length cap)/\∃q,w'=Sort.putRow encStr (Sort.ahead w q) b o (Lib.compact zs++On (zs.length-(Lib.compact zs).length) []).toArray)
 (h0:∀(p:Option Addr) (cap:Nat) (w:World),Calls P f #[.slice p 0 cap] w λe w'=>e= .returned (.slice p 0 cap)/\w'=w)(hcg:c<given)(hl:xs.length<=9223372036854775807):
 cX P f [.vh a xs.length] [(a, .vec te 1 (xs.map λs=>[D.v (.string s)]))] (.vh c (Go.Tx.compactStr xs).length) [(c, .vec te 1 ((Go.Tx.compactStr xs).map λs=>[D.v (.string s)]))]:=by
 have hle:=nj (xs.map λs:ByteArray=>s.data.toList)
 have h1:=cX.row1 (P:=P) (f:=f) (enc:=encStr) (ret:=true) (xs:=xs.map λs=>s.data.toList) (ys:=Lib.compact (xs.map λs=>s.data.toList)++On ((xs.map λs:ByteArray=>s.data.toList).length-(Lib.compact (xs.map λs:ByteArray=>s.data.toList)).length) [])
  (k:=(Lib.compact (xs.map λs:ByteArray=>s.data.toList)).length) (te:=te) (a:=a) (c:=c) hc (.inl hcg) (by simp) (by rw[NT,Ph];omega) ?_ ?_ (λe=>by cases e)
 ·rw[xb,Go.Tx.compactStr,rL,Nz]
  rw[Nz,O2 (NY _),List.take_length]at h1
  exact h1
 ·intro g cap w _ hH _ hcap
  have h2:=h g 0 cap (xs.map λs=>s.data.toList) w hH (by rw[Nz];exact hl) hcap
  refine h2.mono ?_
  rintro e w' ⟨he,q,hw⟩
  exact⟨he,q, #[],by rw[hw,Sort.grow_empty]⟩
 ·intro p cap w _
  refine(h0 p cap w).mono ?_
  rintro e w' ⟨he,hw⟩
  have hz:(Lib.compact (xs.map λs:ByteArray=>s.data.toList)).length=0:=by
   rename_i hx
   rw[hx];rfl
  exact⟨he,hw⟩
def pB(P:Program)(f g:FuncId):Prop:=∀(b:Nat) (sv:Value) (xs:List ByteArray) (w:World),xs.length<=8796093020160->w.cell? ⟨b,0,none⟩=some sv->
 ((xs=[]/\∃a c,sv= .slice a 0 c)\/∃b2 off c,sv= .slice (some ⟨b2,off,none⟩) xs.length c/\∀(j:Nat) x,xs[j]?=some x->w.cell? ⟨b2,off+j,none⟩=some (.string x))->
 Calls P f #[.func (.func g) #[] #[.pointer (some ⟨b,0,none⟩)]] w λe w'=>∃(v:Value) (te:TypeId),e= .returned v/\
  w'.ownsRow w.heap.size te 1 v xs.length (((xs.map λs=>s.data.toList).mergeSort λx y=>decide (x<=y)).map encStr)/\Go.RowKit.Below w.heap.size w w'
theorem cX.sortedVals{P:Program}{f g:FuncId}{a:Nat}{xs:List ByteArray}(hc:dO P f=true)(h:pB P f g)(hl:xs.length<=8796093020160):
 cX P f [.fn g [] [.bp a 0]] [(a, .box none [.d (.sl 1 (xs.map λs=>[D.v (.string s)]))])] (.d (.sl 1 ((Go.Tx.sortStr xs).map λs=>[D.v (.string s)]))) []:=by
 refine cX.newData hc (λr hr=>by obtain⟨_,_,rfl⟩:=N3.1 hr;rfl) λE M w vs hgm hm ho hvs=> ?_
 obtain⟨v1,rfl,r1⟩:=dP hvs
 obtain⟨b,cs,ty,hE,hw,hsz,hD,_,_⟩:aI E M w a (.box none [.d (.sl 1 (xs.map λs=>[D.v (.string s)]))]):=ho.ok a _ (by simp[gt])
 obtain⟨sv,hcs⟩:∃sv,cs= #[sv]:=by
  match cs,hsz with
  |⟨[x]⟩,_=>exact⟨x,rfl⟩
 subst hcs
 have hs:=hD 0 sv _ rfl rfl
 have hv1:v1= .func (.func g) #[] #[.pointer (some ⟨b,0,none⟩)]:=by
  cases r1 with
  |fn f first captured l l' h1 h2 h3 h4=>
   have e1:first= #[]:=Py h1
   obtain⟨y,e2⟩:∃y,captured= #[y]:=by
    match captured,h2 with
    |⟨[y]⟩,_=>exact⟨y,rfl⟩
   subst e1;subst e2
   have:=h4 0 y _ rfl rfl
   cases this with
   |bp n off b' hb=>rw[hE]at hb;cases hb;rfl
 rw[hv1]
 have hcell:w.cell? ⟨b,0,none⟩=some sv:=by simp[World.cell?,hw]
 have hst:=El hs
 refine(h b sv xs w hl hcell ?_).mono ?_
 ·rcases hst with⟨h1,h2⟩|⟨b2,off,c,_,h2,_,h3⟩
  ·exact .inl ⟨h1,h2⟩
  ·exact .inr ⟨b2,off,c,h2,λj x hj=>hm _ _ _ (h3 j x hj)⟩
 ·rintro e w' ⟨v,te,rfl,hrow,hb⟩
  have hlen:((Go.Tx.sortStr xs).map λs=>[D.v (.string s)]).length=xs.length:=by simp[Go.Tx.sortStr]
  refine⟨v,_,te,rfl,by rw[hlen];exact hrow,hb,λi j r c x hr hx hc=> ?_⟩
  unfold Go.Tx.sortStr at hr
  rw[rL,NB,NK]at hr
  obtain⟨l,hl1,rfl⟩:=hr
  match j,hx with
  |0,hx=>
   simp only[O9,Ny]at hx
   subst hx
   rw[PC,Oo,NB,hl1]at hc
   simp only[N6,Ny]at hc
   subst hc
   exact .v _
  |j+1,hx=>simp at hx
end Go.Tx
end
section
namespace Go.Proofs.YtpndmanbfleadaaGreatDoor
open Go.Awp Go.Tx
def tle(a b:ByteArray):Prop:=a.data.toList<=b.data.toList
instance (a b:ByteArray):Decidable (tle a b):=inferInstanceAs (Decidable (a.data.toList<=b.data.toList))
theorem m4{a b:ByteArray}(h:a.data.toList=b.data.toList):a=b:=by
 obtain⟨⟨a⟩⟩:=a
 obtain⟨⟨b⟩⟩:=b
 simp only at h
 rw[h]
theorem Cx{a b:ByteArray}(h:a.toList=b.toList):a=b:=by
 rw[PB,PB]at h
 exact m4 h
theorem mS(a:ByteArray):tle a a:=List.le_refl _
theorem oT{a b c:ByteArray}(h:tle a b)(k:tle b c):tle a c:=List.le_trans h k
theorem kX(a b:ByteArray):tle a b\/tle b a:=List.le_total _ _
theorem mR{a b:ByteArray}(h:tle a b)(k:tle b a):a=b:=m4 (List.le_antisymm h k)
theorem blt_eq(a b:ByteArray):Bs.blt a b=decide (¬tle b a):=by
 unfold Bs.blt tle
 rw[bytesLess_eq,PB,PB]
 rw[decide_eq_decide,<-List.not_lt,Decidable.not_not]
theorem AF(a b:ByteArray):(!(Bs.blt a b||a.toList==b.toList))=decide (¬tle a b):=by
 rw[blt_eq]
 by_cases h:tle b a
 ·by_cases e:a=b
  ·subst e;simp[mS]
  ·have e':¬(a.toList=b.toList):=λk=>e (Cx k)
   have k:¬tle a b:=λk=>e (mR k h)
   simp[h,e',k]
 ·have k:tle a b:=(kX a b).resolve_right h
  simp[h,k]
theorem oK{xs ys:List ByteArray}(hp:xs.Perm ys)(hx:xs.Pairwise tle)(hy:ys.Pairwise tle):xs=ys:=
 Qz (λ_ _ _ _ h k=>mR h k) hx hy hp
theorem C6(xs:List ByteArray):((xs.map λs=>s.data.toList).map λl=>(⟨l.toArray⟩:ByteArray))=xs:=by
 rw[N0]
 conv=>rhs;rw[<-Q1 xs]
 exact NZ λx _=>rfl
theorem eD(xs:List ByteArray):(sortStr xs).Perm xs:=by
 have h:=(QS (xs.map λs=>s.data.toList) (λx y=>decide (x<=y))).map λl=>(⟨l.toArray⟩:ByteArray)
 rw[C6]at h
 exact h
theorem fE(xs:List ByteArray):(sortStr xs).Pairwise tle:=by
 unfold sortStr
 rw[PZ]
 refine(QA (le:=λx y:List UInt8=>decide (x<=y)) (λa b c h k=> ?_) (λa b=> ?_) _).imp λ{a b} h=> ?_
 ·simp only[Q4]at h k⊢
  exact List.le_trans h k
 ·rcases List.le_total a b with h|h<;>simp[h]
 ·simp only[Q4]at h
  exact h
theorem en(xs:List ByteArray):(sortStr xs).length=xs.length:=(eD xs).length_eq
theorem zc{xs:List ByteArray}(h:xs.Pairwise tle):sortStr xs=xs:=oK (eD xs) (fE xs) h
def tlt(a b:ByteArray):Prop:=tle a b/\a≠b
theorem lM(a:ByteArray):¬tlt a a:=λh=>h.2 rfl
theorem um{a b c:ByteArray}(h:tlt a b)(k:tlt b c):tlt a c:=⟨oT h.1 k.1,λe=>by subst e;exact h.2 (mR h.1 k.1)⟩
theorem qo:∀{xs ys:List ByteArray},xs.Pairwise tlt->ys.Pairwise tlt->(∀s,s∈xs↔s∈ys)->xs=ys
 |[],[],_,_,_=>rfl
 |[],y::ys,_,_,h=>by have:=(h y).2 NG;cases this
 |x::xs,[],_,_,h=>by have:=(h x).1 NG;cases this
 |x::xs,y::ys,hx,hy,h=>by
  rw[Pj]at hx hy
  have hxy:x=y:=by
   rcases NI.1 ((h x).1 NG)with e|e
   ·exact e
   ·rcases NI.1 ((h y).2 NG)with e2|e2
    ·exact e2.symm
    ·exact(lM x (um (hx.1 y e2) (hy.1 x e))).elim
  subst hxy
  rw[qo hx.2 hy.2 λs=> ?_]
  constructor
  ·intro hs
   rcases NI.1 ((h s).1 (NC _ hs))with e|e
   ·subst e;exact(lM s (hx.1 s hs)).elim
   ·exact e
  ·intro hs
   rcases NI.1 ((h s).2 (NC _ hs))with e|e
   ·subst e;exact(lM s (hy.1 s hs)).elim
   ·exact e
def r9:List ByteArray->ByteArray->List ByteArray
 |[],s=>[s]
 |a::r,s=>if¬tle a s then s::a::r else if a=s then a::r else a::r9 r s
theorem rJ(s x:ByteArray):∀l:List ByteArray,x∈r9 l s↔x=s\/x∈l
 |[]=>by simp[r9]
 |a::r=>by
  unfold r9
  split
  ·simp
  ·split
   ·rename_i e;subst e;simp
   ·rw[NI,rJ s x r,NI]
    constructor
    ·rintro(h|h|h)<;>simp[h]
    ·rintro(h|h|h)<;>simp[h]
theorem oc{s:ByteArray}:∀{l:List ByteArray},l.Pairwise tlt->(r9 l s).Pairwise tlt
 |[],_=>by simp[r9]
 |a::r,h=>by
  rw[Pj]at h
  unfold r9
  split
  ·rename_i hn
   have hsa:tlt s a:=⟨(kX a s).resolve_left hn,λe=>hn (by rw[e];exact mS _)⟩
   rw[Pj]
   refine⟨λx hx=> ?_,Pj.2 h⟩
   rcases NI.1 hx with rfl|hx
   ·exact hsa
   ·exact um hsa (h.1 x hx)
  ·rename_i hn
   split
   ·exact Pj.2 h
   ·rename_i hne
    rw[Pj]
    refine⟨λx hx=> ?_,oc h.2⟩
    rcases(rJ s x r).1 hx with rfl|hx
    ·exact⟨Decidable.of_not_not hn,hne⟩
    ·exact h.1 x hx
theorem gF(s:ByteArray):∀l:List ByteArray,(r9 l s).length<=l.length+1
 |[]=>by simp[r9]
 |a::r=>by
  unfold r9
  split
  ·simp
  ·split
   ·simp
   ·have:=gF s r;simp;omega
def dK(l:List ByteArray)(ss:List ByteArray):List ByteArray:=ss.foldl r9 l
theorem qi(x:ByteArray):∀(ss l:List ByteArray),x∈dK l ss↔x∈l\/x∈ss
 |[],l=>by simp[dK]
 |s::ss,l=>by
  have h:dK l (s::ss)=dK (r9 l s) ss:=rfl
  rw[h,qi x ss,rJ,NI]
  constructor
  ·rintro((h|h)|h)<;>simp[h]
  ·rintro(h|h|h)<;>simp[h]
theorem kK:∀(ss:List ByteArray) {l:List ByteArray},l.Pairwise tlt->(dK l ss).Pairwise tlt
 |[],_,h=>h
 |s::ss,l,h=>kK ss (oc h)
theorem gE:∀(ss l:List ByteArray),(dK l ss).length<=l.length+ss.length
 |[],l=>NY _
 |s::ss,l=>by
  have h:dK l (s::ss)=dK (r9 l s) ss:=rfl
  have h1:=gE ss (r9 l s)
  have h2:=gF s l
  rw[h];simp only[Oj];omega
theorem qh(l a b:List ByteArray):dK l (a++b)=dK (dK l a) b:=List.foldl_append
theorem pb{ls:List (List UInt8)}(h:ls.Pairwise (·<= ·)):(Lib.compact ls).Pairwise λa b=>a<=b/\a≠b:=by
 unfold Lib.compact Lib.compactUpTo
 rw[PZ,List.pairwise_filter]
 refine List.pairwise_lt_range.imp_of_mem λ{i j} hi hj hij hki hkj=> ?_
 rw[Qi]at hi hj
 have hg:∀k (hk:k<ls.length),(ls.toArray)[k]! =ls[k]:=λk hk=>by simp[hk]
 have hle:∀a b (ha:a<ls.length) (hb:b<ls.length),a<=b->ls[a]<=ls[b]:=λa b ha hb hab=>by
  rcases Nat.lt_or_eq_of_le hab with hlt|rfl
  ·exact(Qr.1 h) a b ha hb hlt
  ·exact List.le_refl _
 rw[hg i hi,hg j hj]
 refine⟨hle i j hi hj (Nat.le_of_lt hij),λe=> ?_⟩
 unfold Lib.keeps at hkj
 simp only[Q4]at hkj
 rcases hkj with h0|hne
 ·omega
 ·have hj1:j-1<ls.length:=by omega
  rw[hg j hj,hg (j-1) hj1]at hne
  refine hne (List.le_antisymm ?_ (hle (j-1) j hj1 hj (by omega)))
  rw[<-e]
  exact hle i (j-1) hi hj1 (by omega)
theorem nk(ls:List (List UInt8))(x:List UInt8):x∈Lib.compact ls↔x∈ls:=by
 have hg:∀k (hk:k<ls.length),(ls.toArray)[k]! =ls[k]:=λk hk=>by simp[hk]
 unfold Lib.compact Lib.compactUpTo
 rw[N3]
 constructor
 ·rintro⟨k,hk,rfl⟩
  have:=Qi.1 (PG.1 hk).1
  rw[hg k this]
  exact OB _
 ·intro hx
  obtain⟨k,hk,rfl⟩:=PQ hx
  have key:∀k (hk:k<ls.length),∃a,a∈(Pl ls.length).filter (Lib.keeps ls.toArray)/\(ls.toArray)[a]! =ls[k]:=by
   intro k
   induction k with
   |zero=>intro hk;exact⟨0,PG.2 ⟨Qi.2 hk,by simp[Lib.keeps]⟩,hg 0 hk⟩
   |succ k ih=>
    intro hk
    by_cases e:ls[k+1]=ls[k]
    ·obtain⟨a,h1,h2⟩:=ih (by omega)
     exact⟨a,h1,by rw[h2,e]⟩
    ·refine⟨k+1,PG.2 ⟨Qi.2 hk,?_⟩,hg _ hk⟩
     unfold Lib.keeps
     simp only[Q4]
     right
     rw[hg _ hk,Nat.add_sub_cancel,hg k (by omega)]
     exact e
  exact key k hk
theorem lk{xs:List ByteArray}(h:xs.Pairwise tle):(compactStr xs).Pairwise tlt:=by
 unfold compactStr
 rw[PZ]
 refine(pb ?_).imp λ{a b} h=>⟨h.1,λe=>h.2 ?_⟩
 ·rw[PZ];exact h
 ·have:=congrArg (λs:ByteArray=>s.data.toList) e
  simpa using this
theorem pa(xs:List ByteArray)(s:ByteArray):s∈compactStr xs↔s∈xs:=by
 unfold compactStr
 rw[N3]
 constructor
 ·rintro⟨l,hl,rfl⟩
  obtain⟨x,hx,e⟩:=N3.1 ((nk _ _).1 hl)
  have:x=⟨l.toArray⟩:=m4 (by simpa using e)
  rw[<-this];exact hx
 ·intro hs
  exact⟨s.data.toList,(nk _ _).2 (N1 hs),rfl⟩
theorem Eb(xs:List ByteArray):compactStr (sortStr xs)=dK [] xs:=
 qo (lk (fE xs)) (kK xs Qp) λs=>by
  rw[pa,qi]
  constructor
  ·intro h;exact .inr ((eD xs).mem_iff.1 h)
  ·rintro(h|h)
   ·cases h
   ·exact(eD xs).mem_iff.2 h
end Go.Proofs.YtpndmanbfleadaaGreatDoor
end
section
namespace Go.Proofs
open Go.RowKit Go.Shelf Go.Sort
open Go.Proofs.Tryz (prog)
attribute [local go_sem] Oper.semAt_some
def Tryz.upto{α:Type}(f:Nat->α)(k:Nat):List α:=(Pl k).map f
theorem Tryz.upto_succ{α:Type}(f:Nat->α)(k:Nat):Tryz.upto f (k+1)=Tryz.upto f k++[f k]:=by simp[Tryz.upto,List.range_succ]
theorem Tryz.upto_length{α:Type}(f:Nat->α)(k:Nat):(Tryz.upto f k).length=k:=by simp[Tryz.upto]
theorem Tryz.upto_all(zs:List ByteArray):Tryz.upto (λj=>zs[j]?.getD Og) zs.length=zs:=by
 apply List.ext_getElem
 ·simp[Tryz.upto]
 ·intro i h1 h2
  simp[Tryz.upto,h2]
theorem Tryz.upto_take(zs:List ByteArray){k:Nat}(hk:k<=zs.length):Tryz.upto (λj=>zs[j]?.getD Og) k=zs.take k:=by
 apply List.ext_getElem
 ·simp[Tryz.upto,hk]
 ·intro i h1 h2
  have:i<zs.length:=by simp[Tryz.upto]at h1;omega
  simp[Tryz.upto,this]
set_option maxRecDepth 100000 in
set_option maxHeartbeats 2000000 in
theorem Tryz.values1_in(F:Fence)(n:Nat)(h7:F.fn 84)(hro:F.round=none)(hn:1<=n)(l Bs n₀ b off len cap:Nat)(zs:List ByteArray)(hreach:len *16<=140737488351232)(hb:b<n₀)(J Jx:List ByteArray->World->Prop)
 (hY:∀pre x W,J pre W->pre.length<len->YieldAt F (n-1) prog l #[.string x] W λe W'=>
   (e= .returned (.bool true)/\J (pre++[x]) W'/\Below n₀ W W')\/(e= .returned (.bool false)/\Jx (pre++[x]) W'))
 (W:World)(hBs:W.cell? ⟨Bs,0,none⟩=some (.slice (some ⟨b,off,none⟩) len cap))(hc:∀j,j<len->W.cell? ⟨b,off+j,none⟩=some (.string (zs[j]?.getD Og)))(h0:J [] W):
 CallsIn F n prog 84 #[.func (.yield l) #[] #[], .pointer (some ⟨Bs,0,none⟩)] W λe W'=>(∃v,e= .returned v)/\
  ((∃ys,ys=Tryz.upto (λj=>zs[j]?.getD Og) len/\J ys W')\/(∃pre,(∃k,k<=len/\pre=Tryz.upto (λj=>zs[j]?.getD Og) k)/\Jx pre W')):=by
 refine callsIn_of_wp Tryz.func84 rfl h7 ?_ hro
 simp only[Tryz.ntmps84,Pf,Oj,OJ,Qa,P_,PP,PO,PY,PR,NW,NQ]
 gi_wp2
 gi_loopw [7] (λi wr=>∃k:Nat,k<=len/\i= .int .i64 k/\J (Tryz.upto (λj=>zs[j]?.getD Og) k) wr/\Below n₀ W wr)
  (λi _=>len-(intOf i).toNat)
 case atStart=>exact⟨0,OI _,rfl,h0,Below.refl _ _⟩
 case round=>
  obtain⟨k,hk,rfl,hJs,hnx⟩:=hrel
  have hcx:k<len->wr.cell? ⟨b,off+k,none⟩=some (.string (zs[k]?.getD Og)):=λh=>(hnx.cell (p:=⟨b,off+k,none⟩) hb).trans (hc k h)
  by_cases hlt:k<len
  ·obtain⟨fn,tmps,assign,body,hy,hR⟩:=hY _ (zs[k]?.getD Og) wr hJs (by rw[Tryz.upto_length];exact hlt)
   have hcx':=hcx hlt
   gi_wp2
   refine hR.mono ?_
   rintro e W3 (⟨rfl,hJ3,hk3⟩|⟨rfl,hJx3⟩)
   ·gi_wp2
    go_roundw
    case rel=>exact⟨k+1,by omega,by simp,by rw[Tryz.upto_succ];exact hJ3,hnx.trans hk3⟩
    case measure=>simp[intOf];omega
   ·gi_wp2
    refine bodyPost_ret (results_none rfl _ _ _) rfl ?_
    exact⟨⟨_,rfl⟩, .inr ⟨_,⟨k+1,by omega,(Tryz.upto_succ _ _).symm⟩,hJx3⟩⟩
  ·obtain rfl:k=len:=by omega
   gi_wp2
   go_end0
   exact⟨⟨_,rfl⟩, .inl ⟨_,rfl,hJs⟩⟩
def Tryz.Strs(n₀:Nat)(W:World)(sv:Value)(zs:List ByteArray):Prop:=
 (zs=[]/\∃a c,sv= .slice a 0 c)\/∃b off cap,sv= .slice (some ⟨b,off,none⟩) zs.length cap/\b<n₀/\∀j,j<zs.length->W.cell? ⟨b,off+j,none⟩=some (.string (zs[j]?.getD Og))
theorem Tryz.Strs.below{n₀:Nat}{A B:World}(h:Below n₀ A B){sv:Value}{zs:List ByteArray}:Tryz.Strs n₀ A sv zs->Tryz.Strs n₀ B sv zs
 | .inl e=> .inl e
 | .inr ⟨b,off,cap,e,hb,hc⟩=> .inr ⟨b,off,cap,e,hb,λj hj=>(h.cell (p:=⟨b,off+j,none⟩) hb).trans (hc j hj)⟩
set_option maxRecDepth 100000 in
set_option maxHeartbeats 1000000 in
theorem Tryz.values1_nil_in(F:Fence)(n:Nat)(h7:F.fn 84)(hro:F.round=none)(l Bs:Nat)(a:Option Addr)(c:Nat)(J:List ByteArray->World->Prop)(W:World)(hBs:W.cell? ⟨Bs,0,none⟩=some (.slice a 0 c))(h0:J [] W):
 CallsIn F n prog 84 #[.func (.yield l) #[] #[], .pointer (some ⟨Bs,0,none⟩)] W λe W'=>(∃v,e= .returned v)/\J [] W':=by
 refine callsIn_of_wp Tryz.func84 rfl h7 ?_ hro
 simp only[Tryz.ntmps84,Pf,Oj,OJ,Qa,P_,PP,PO,PY,PR,NW,NQ]
 gi_wp2
 gi_loopw [7] (λi wr=>i= .int .i64 0/\J [] wr) (λ_ _=>0)
 case atStart=>exact⟨rfl,h0⟩
 case round=>
  obtain⟨rfl,hJs⟩:=hrel
  gi_wp2
  go_end0
  exact⟨⟨_,rfl⟩,hJs⟩
theorem Tryz.values_stops(F:Fence)(n:Nat)(h7:F.fn 84)(hro:F.round=none)(hn:1<=n)(Bs n₀:Nat)(sv:Value)(zs:List ByteArray)(hreach:zs.length *16<=140737488351232)(w:World)(hBs:Bs<w.heap.size)(hn₀:n₀<=w.heap.size)
 (hc:w.cell? ⟨Bs,0,none⟩=some sv)(hI:Tryz.Strs n₀ w sv zs):
 SeqStopsK F n prog 84 #[.pointer (some ⟨Bs,0,none⟩)] (λx:ByteArray=> #[Value.string x]) (Below n₀) (λys=>ys=zs) (λpre=>pre<+:zs) zs.length w:=λl J Jx W hW _ _ hY h0=>by
 have hc':=(hW.cell (p:=⟨Bs,0,none⟩) hBs).trans hc
 rcases hI.below (hW.mono hn₀)with⟨rfl,a,c,rfl⟩|⟨b,off,cap,rfl,hb,hcs⟩
 ·exact(Tryz.values1_nil_in F n h7 hro l Bs a c J W hc' h0).mono λe W' ⟨he,hj⟩=>⟨he, .inl ⟨_,rfl,hj⟩⟩
 ·refine(Tryz.values1_in F n h7 hro hn l Bs n₀ b off zs.length cap zs hreach hb J Jx hY W hc' hcs h0).mono ?_
  rintro e W' ⟨he,⟨ys,rfl,hj⟩|⟨pre,⟨k,hk,rfl⟩,hj⟩⟩
  ·exact⟨he, .inl ⟨_,Tryz.upto_all zs,hj⟩⟩
  ·exact⟨he, .inr ⟨_,by rw[Tryz.upto_take zs hk];exact List.take_prefix _ _,hj⟩⟩
theorem Tryz.info9s:(prog.info? 9).map (λi=>(i.zero,i.size,i.bytes))=some (some (.string Og),1,16):=by kernel_rfl
set_option maxRecDepth 100000 in
set_option maxHeartbeats 2000000 in
theorem Tryz.appendSeq_in(F:Fence)(n:Nat)(h111:F.fn 111)(h84:F.fn 84)(hro:F.round=none)(hn:3<=n)(Bs:Nat)(sv:Value)(zs:List ByteArray)(hreach:zs.length *16<=140737488351232)(w:World)(hBs:Bs<w.heap.size)
 (hcell:w.cell? ⟨Bs,0,none⟩=some sv)(hI:Tryz.Strs w.heap.size w sv zs):
 CallsIn F n prog 111 #[.slice none 0 0, .func (.func 84) #[] #[.pointer (some ⟨Bs,0,none⟩)]] w λe W'=>∃v,e= .returned v/\W'.ownsRow w.heap.size 9 1 v zs.length (zs.map Value.string)/\Below w.heap.size w W':=by
 have h1:1<=n:=by omega
 have hlen:zs.length<=maxLen:=by unfold maxLen;omega
 have hbytes:zs.length *16<=140737488355328:=by omega
 obtain⟨i0,hi,hz0,hz1,hz2⟩:=info_parts Tryz.info9s
 refine callsIn_of_wp_marks Tryz.func111 rfl h111 ?_ hro
 simp only[Tryz.ntmps111,Pf,Oj,OJ,Qa,P_,PP,PO,PY,PR,NW,NQ]
 gi_wp2
 have bO:=Boxed.new w 22 (.slice none 0 0)
 have hB0:Below w.heap.size w (w.alloc (.cells #[.slice none 0 0] 22)):=(Below.refl _ w).alloc (NY _) _
 refine wpIn_rangeFunc_ownG hro h1 (gf:=84) (lb:= #[.pointer (some ⟨Bs,0,none⟩)]) rfl h84 (enters_of Tryz.func84 (by kernel_rfl) rfl)
  (Tryz.values_stops F (n-1) h84 hro (by omega) Bs w.heap.size sv zs hreach _ (by simp;omega) (by simp) ((hB0.cell (p:=⟨Bs,0,none⟩) hBs).trans hcell) (hI.below hB0)) belowK_t (belowK_b (by simp)) (Below.refl _ _) (λ_=>rfl)
  (λpre W=>(∃v,Boxed W w.heap.size 22 v/\W.ownsRow w.heap.size 9 1 v pre.length (pre.map Value.string)/\(v= .slice none 0 0↔pre=[]))/\Below w.heap.size w W)
  (λ_ _ _=>False)
  (OwnFrom.and (Own.from (holdsRow_own w.heap.size w.heap.size 22 9 1 (λpre=>pre.length) (λpre=>pre.map Value.string) (λpre v=>v= .slice none 0 0↔pre=[])) _) (ownFrom_below (NY _) (by simp)))
  (λ_ _ _ _ _ hs _ _=>hs)
  ⟨⟨_,bO,World.ownsRow_nil _ _ _ _,by simp⟩,hB0⟩
  (λx=>{tmps:= #[.slice none 0 0, .func (.func 84) #[] #[.pointer (some ⟨Bs,0,none⟩)], .pointer (some ⟨w.heap.size,0,none⟩),undef, .slice none 0 0, .string x, .func (.func 84) #[] #[.pointer (some ⟨Bs,0,none⟩)], .string x,undef,undef,undef,undef,undef],defers:=[]}) ?assign ?body ?done ?stop
 case assign=>
  intro l x W K hK
  gi_wp2
  exact hK
 case body=>
  rintro l pre x W ⟨⟨v,hv,hrow,hnil⟩,hB⟩ hlt
  have hc:=hv.cell
  gi_wp2_with (gi_at_builtin;refine wpListIn_append_own _ rfl _ _ 22 rfl w.heap.size 9 i0 (.string Og) 1 16 Tryz.underlying22 hi hz0 hz1 hz2 rfl (by decide) _ _ _ rfl (hrow.alloc _) ⟨W.heap.size,0,none⟩ 1 1 [.string x] rfl rfl (cell_one_new _ _ _) (by simp[Value.oneCell']) (by omega) (by omega) (by have:=hB.size;simp;omega) ?_;intro v' w1 hown' hgrow _;obtain⟨g',cap',rfl⟩:=ownsRow_succ hown';obtain⟨hv1,hv2,hr2,hk2,hb2⟩:=hv.appended (by decide) hrow hB.size (NY _) hown' hgrow;have hc1:=hv1.cell;have hf1:=hv1.frozen)
  exact⟨hk2.from _,hb2,⟨_,hv2,by simpa using hr2,by simp⟩,hB.trans hb2⟩
 case done=>
  rintro D ys W hD rfl ⟨⟨v,hv,hrow,hnil⟩,hB⟩ hK
  have hc:=hv.cell
  gi_wp2
  refine⟨by simp, .inl ⟨_,_,rfl,run_takeDeferred hK,?_⟩⟩
  exact⟨_,results_tmp rfl _ _ _,v,rfl,ownsRow_putObj hrow _ hK rfl,hB.trans (belowK_b (w:=w) (NY _) W D _ _ (by simp at hD;omega) hK rfl rfl)⟩
 case stop=>
  rintro D c pre W _ _ h _
  exact h.elim
set_option maxRecDepth 100000 in
set_option maxHeartbeats 2000000 in
theorem Tryz.collect_in(F:Fence)(n:Nat)(h83:F.fn 83)(h111:F.fn 111)(h84:F.fn 84)(hro:F.round=none)(hn:4<=n)(Bs:Nat)(sv:Value)(zs:List ByteArray)(hreach:zs.length *16<=140737488351232)(w:World)(hBs:Bs<w.heap.size)
 (hcell:w.cell? ⟨Bs,0,none⟩=some sv)(hI:Tryz.Strs w.heap.size w sv zs):
 CallsIn F n prog 83 #[.func (.func 84) #[] #[.pointer (some ⟨Bs,0,none⟩)]] w λe W'=>∃v,e= .returned v/\W'.ownsRow w.heap.size 9 1 v zs.length (zs.map Value.string)/\Below w.heap.size w W':=by
 have h1:1<=n:=by omega
 have hA:=Tryz.appendSeq_in F (n-1) h111 h84 hro (by omega) Bs sv zs hreach w hBs hcell hI
 refine callsIn_of_wp Tryz.func83 rfl h83 ?_ hro
 simp only[Tryz.ntmps83,Pf,Oj,OJ,Qa,P_,PP,PO,PY,PR,NW,NQ]
 gi_wp2_with (gi_at_call 111;refine hA.mono ?_;rintro e w' ⟨v,rfl,hrow,hb⟩)
 go_ret
 exact⟨v,rfl,hrow,hb⟩
set_option maxRecDepth 100000 in
set_option maxHeartbeats 2000000 in
theorem Tryz.sortedVals:Go.Tx.pB prog 63 84:=by
 intro Bs sv xs w hl hcell hs
 refine(callsIn_wide (n:=6)).1 ?_
 have hBs:Bs<w.heap.size:=World.block_lt_of_cell? w (a:=⟨Bs,0,none⟩) hcell
 have hI:Tryz.Strs w.heap.size w sv xs:=by
  rcases hs with h|⟨b2,off,c,h,hc⟩
  ·exact .inl h
  ·by_cases hx:xs=[]
   ·exact .inl ⟨hx,_,_,by rw[h,hx];rfl⟩
   ·refine .inr ⟨b2,off,c,h,?_,λj hj=> ?_⟩
    ·obtain⟨x,hx0⟩:∃x,xs[0]?=some x:=by
      match xs,hx with
      |x::r,_=>exact⟨x,rfl⟩
     exact World.block_lt_of_cell? w (a:=⟨b2,off+0,none⟩) (hc 0 x hx0)
    ·rw[hc j xs[j] (ND hj),ND hj];rfl
 have hC:=Tryz.collect_in Fence.wide 5 trivial trivial trivial rfl (by omega) Bs sv xs (by omega) w hBs hcell hI
 have hf1:Fence.wide.fn 83:=trivial
 have hf2:Fence.wide.fn 46:=trivial
 refine callsIn_of_wp Tryz.func63 rfl trivial ?_ rfl
 simp only[Tryz.ntmps63,Pf,Oj,OJ,Qa,P_,PP,PO,PY,PR,NW,NQ]
 gi_wp2_with (gi_at_call 83;refine hC.mono ?_;rintro e W ⟨v,rfl,hrow,hb⟩)
 rcases hrow.2 with⟨rfl,hz⟩|⟨gb,cap,cur,rfl,hbase,hgb,r1,r2,r3,r4⟩
 ·have hss:xs=[]:=NV hz
  subst hss
  gi_wp2_with (gi_at_call 46;refine(callsIn_wide.2 (Tryz.slices_Sort_string_none none 0 W)).mono ?_;rintro e w' ⟨rfl,rfl⟩)
  go_ret
  exact⟨.slice none 0 0,9,rfl,by simpa using hrow,hb⟩
 ·have hH:Holds encStr W gb 0 (xs.map λs=>s.data.toList).toArray:=holds_of_block hgb (by
   rw[Nz,N0]
   rw[PC]at r4
   exact r4)
  have hgl:gb<W.heap.size:=(NL.1 hgb).1
  have cS:=Tryz.slices_Sort_string gb 0 cap (xs.map λs=>s.data.toList) W hH hgl (by rw[Nz];omega)
  rw[Nz]at cS
  gi_wp2_with (gi_at_call 46;refine(callsIn_wide.2 cS).mono ?_;rintro e w' ⟨rfl,nn,os,rfl⟩)
  go_ret
  refine⟨_,9,rfl,?_,hb.grown (grownBy_sorted _) hb.size (λj hj=>by cases hj;exact hbase)⟩
  have h9:=ownsRow_sorted (ss:=xs.map λs:ByteArray=>s.data.toList) (ts:=(xs.map λs:ByteArray=>s.data.toList).mergeSort λx y=>decide (x<=y)) (n:=nn) (os:=os) (by simp) hbase hgb (by rw[Nz];exact r1) r2 r3
  rw[Nz]at h9
  exact h9
end Go.Proofs
end
section
namespace Go.Tx
open Go.Awp
variable [Inhabited GMem]
section
variable {V:i7}
def c0:bm V:=λ_ _ _ _ _=>none
def cO(P:Program)(fid:Nat)(sig:Sig V)(F:HL V.N sig.tys->Option (HL V.N sig.rcut.tys))(r:bm V):bm V:=λA f args S k=>match Ov f fid with
 |true=>bN P sig F A args S k
 |false=>r A f args S k
def cP(P:Program)(fid:Nat)(sig:Sig V)(F:HL V.N sig.tys->Option (HL V.N sig.rcut.tys))(r:bm V):bm V:=λA f args S k=>match Ov f fid with
 |true=>bg P sig F A args S k
 |false=>r A f args S k
theorem j4{P:Program}:ay P (c0:bm V):=λA fid args S dst k r h=>by cases h
theorem MF{P:Program}{fid:Nat}{sig:Sig V}{F:HL V.N sig.tys->Option (HL V.N sig.rcut.tys)}{r:bm V}(h:bc P fid sig F)(hr:ay P r):ay P (cO P fid sig F r):=λA f args S dst k x hx=>by
 unfold cO at hx
 split at hx
 ·rename_i e
  have e:=Ob e
  subst e
  exact aA h hx
 ·exact hr A f args S dst k x hx
theorem MG{P:Program}{fid:Nat}{sig:Sig V}{F:HL V.N sig.tys->Option (HL V.N sig.rcut.tys)}{r:bm V}(h:bc P fid sig F)(ho:sig.objs=[])(hk:sig.keep=[])(hr:ay P r):ay P (cP P fid sig F r):=λA f args S dst k x hx=>by
 unfold cP at hx
 split at hx
 ·rename_i e
  have e:=Ob e
  subst e
  exact aq h ho hk hx
 ·exact hr A f args S dst k x hx
end
end Go.Tx
end
