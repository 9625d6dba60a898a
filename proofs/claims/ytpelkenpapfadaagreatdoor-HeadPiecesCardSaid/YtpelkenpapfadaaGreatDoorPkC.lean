/-
  Texts of this claim, joined by a program of mine: what the theorem uses.
-/
import Derived.Test.YtpelkenpapfadaaGreatDoorPkB
import Derived.ProofKit
import Derived.Test.YtpelkenpapfadaaGreatDoorProg
import Derived.Shelf.Unicode.DecodeSlow
import Derived.Lib.ItoaNum
import Derived.Lib.LaidTab
import Derived.Lib.AppendIntMem
import Derived.Lib.AtoiErrMem
import Derived.Shelf.Strings.Builder1
import Derived.Shelf.Strings.Builder2
import Derived.Shelf.Strings.OnBuilder
import Derived.Shelf.Strings.BuilderF
import Derived.Shelf.Strings.BuilderK
import Derived.Shelf.Strconv.Atoi
import Derived.Shelf.Strconv.Itoa0
import Derived.Shelf.Strconv.Itoa1
import Derived.Shelf.LaysM
import Derived.Shelf.Strconv.Itoa2
import Derived.Shelf.Strconv.Itoa3
import Derived.Shelf.Strconv.AtoiErrFast
import Derived.Shelf.Strconv.ParseIntEmpty
import Derived.Shelf.Strconv.AtoiFail
import Derived.Shelf.Strconv.Clone
import Derived.Shelf.Strconv.SyntaxError
import Derived.Shelf.LaysC
import Derived.Shelf.Strconv.ToError
import Derived.Shelf.Strconv.Lower
import Derived.Shelf.Strconv.ParseUint10
import Derived.Shelf.Strconv.ParseUint10Empty
import Derived.Shelf.Strconv.ParseUint10Any
import Derived.Shelf.Strconv.ParseInt10
import Derived.Shelf.Strconv.AtoiLong
import Derived.Shelf.Strconv.AtoiInnerAll
import Derived.Shelf.Strconv.RangeError
import Derived.Shelf.Strconv.ToErrorRange
import Derived.Shelf.Strconv.AtoiAll
import Derived.Shelf.Strconv.ErrVarAll
import Derived.Shelf.Strings.Search1
import Derived.Shelf.Strings.Search2
import Derived.Shelf.Strings.Search3
import Derived.Shelf.Strings.Count
import Derived.Shelf.Strings.Shaped
import Derived.Shelf.Unicode.DecodeAny
import Derived.Shelf.Slices.Turned
open Array renaming getElem?_eq_getElem→UO,getElem?_eq_none→VS,getElem?_eq_some_iff→Uq,getElem?_setIfInBounds_ne→U3,getElem?_toList→Vo,mem_toList_iff→WS,replicate→VM,toList_setIfInBounds→V_
open Bool renaming and_eq_true→Uk,false_eq_true→TZ,false_or→UD,not_eq_true'→VP,not_false→T5,not_true→T7,or_eq_false_iff→UY,or_eq_true→UI,true_or→UJ
open ByteArray renaming empty→VR
open Classical renaming choose_spec→Xo
open Function renaming comp→W4
open List renaming all_eq_true→Uo,all_map→VJ,any_cons→Wk,any_eq_true→Vu,append_nil→U0,countP_eq_zero→Xy,countP_pos_iff→Xx,drop_zero→UT,eq_nil_of_length_eq_zero→UE,ext_getElem?→Vm,foldl_cons→Vd,getElem?_append_left→UA,getElem?_append_right→Uz,getElem?_cons_zero→Wj,getElem?_eq_getElem→Ub,getElem?_eq_some_iff→Uc,getElem?_map→Ue,getElem?_of_mem→Wc,getElem?_range→VL,getElem?_set_self→WH,getElem?_take→U1,getElem?_toArray→Ws,getElem_mem→Vt,getElem_of_mem→Ww,length→Wd,length_append→Uh,length_cons→Ui,length_drop→UV,length_map→Ug,length_set→Vk,length_singleton→T_,mapM→W2,mapM_cons→Xm,map_congr_left→U7,map_cons→Uj,map_drop→VU,map_map→UH,map_nil→UM,map_take→VT,mem_append→Ur,mem_append_left→Vy,mem_append_right→VN,mem_cons→Um,mem_cons_of_mem→Ua,mem_cons_self→Uf,mem_filterMap→Va,mem_map→Uy,mem_map_of_mem→Uv,mem_of_getElem?→Un,mem_singleton→UX,mk_mem_zipIdx_iff_getElem?→WO,nil_append→UN,not_mem_nil→Xa,range→V3,replicate→U5,take_of_length_le→UP
open Nat renaming add_assoc→Vh,add_zero→UF,beq→Vb,beq_refl→Wg,ble→V7,blt→VA,blt_eq→VG,div_add_mod→Xj,div_lt_of_lt_mul→WQ,eq_of_beq_eq_true→US,le_of_ble_eq_true→Vn,le_of_eq→XC,le_refl→Us,le_trans→U4,lt_or_ge→XB,mod_lt→Xq,mul_comm→WB,mul_le_mul_right→UL,strongRecOn→WP,succ_mul→U_,zero_add→UK,zero_le→Vp,zero_mul→WA
open Ne renaming symm→UG
open Option renaming bind_some→T0,getD_some→VF,map_none→Wx,map_some→UB
open Option.some renaming injEq→Ud
open Prod.mk renaming injEq→UC
noncomputable section
set_option linter.unusedSectionVars false
set_option linter.unusedSimpArgs false
section
namespace Go.Awp
variable [Inhabited GMem]
def det:Op->Bool
 | .next _ false=>false
 |_=>true
theorem J3{P:Program}{nm:Nat->Nat}{o:Oper}{ρ:Operand->H}{ω:Nat->Option Own}{k:Eff->Prop}(hdet:det o.op=true)(hv:aV P nm o ρ ω k):∃e,aV P nm o ρ ω (λe'=>e'=e)/\k e:=by
 unfold aV at hv⊢
 cases hop:o.op<;>simp only[hop,I1]at hv⊢
 case next x is=>
  cases is with
  |false=>rw[hop]at hdet;cases hdet
  |true=>
   dsimp only at hv⊢
   (repeat' split at hv)<;>first
     |exact hv.elim
     |exact⟨_,⟨hv.1,rfl⟩,hv.2⟩
     |(simp only[*];exact⟨_,⟨hv.1,rfl⟩,hv.2⟩)
     |(simp only[*];exact⟨_,⟨trivial,rfl⟩,hv.2⟩)
 case buildSlice t len parts=>
  split at hv
  ·rename_i e sz by_ ht
   try simp only[ht]
   split at hv
   ·rename_i rows hr
    try simp only[hr]
    obtain⟨hv1,hv2⟩:=hv
    split at hv2
    ·rename_i d hd
     split at hv2
     ·rename_i hn
      try simp only[hd,XK hn]
      exact⟨_,⟨hv1,rfl⟩,hv2⟩
     ·rename_i hn
      try simp only[hd,XJ hn]
      exact⟨_,⟨hv1,rfl⟩,hv2⟩
    ·rename_i hd
     try simp only[hd]
     exact⟨_,⟨hv1,rfl⟩,hv2⟩
   ·exact hv.elim
  ·exact hv.elim
 case box t x=>
  split at hv
  ·rename_i cs d hc hd
   obtain⟨q,h1,h2⟩:=hv
   try simp only[hc,hd]
   exact⟨_,⟨q,h1,rfl⟩,h2⟩
  ·exact hv.elim
 all_goals
  first
  |exact⟨_,rfl,hv⟩
  |((repeat' split at hv)<;>first
   |exact hv.elim
   |exact⟨_,rfl,hv⟩
   |exact⟨_,⟨hv.1,rfl⟩,hv.2⟩
   |(simp only[*];exact⟨_,rfl,hv⟩)
   |(simp only[*];exact⟨_,⟨hv.1,rfl⟩,hv.2⟩)
   |(obtain⟨⟨c1,c2⟩,es2,h1,h2⟩:=hv;simp only[*];exact⟨_,⟨⟨trivial,trivial⟩,es2,h1,rfl⟩,h2⟩)
   |(obtain⟨own,r,own',h1,h2,h3⟩:=hv;exact⟨_,⟨own,r,own',h1,h2,rfl⟩,h3⟩))
theorem tW{P:Program}{nm:Nat->Nat}{o:Oper}{ρ:Operand->H}{ω:Nat->Option Own}{k k':Eff->Prop}(h:∀e,k e->k' e)(hv:aV P nm o ρ ω k):aV P nm o ρ ω k':=by
 unfold aV at hv⊢
 cases hop:o.op<;>simp only[hop,I1]at hv⊢
 case next x is=>
  cases is with
  |false=>
   dsimp only at hv⊢
   (repeat' split at hv)<;>first
     |exact hv.elim
     |exact⟨hv.1,λhr=>h _ (hv.2.1 hr),λi p hp=>h _ (hv.2.2 i p hp)⟩
  |true=>
   dsimp only at hv⊢
   (repeat' split at hv)<;>first
     |exact hv.elim
     |exact⟨hv.1,h _ hv.2⟩
     |(simp only[*];exact⟨hv.1,h _ hv.2⟩)
     |(simp only[*];exact⟨trivial,h _ hv.2⟩)
 case buildSlice t len parts=>
  split at hv
  ·rename_i e sz by_ ht
   try simp only[ht]
   split at hv
   ·rename_i rows hr
    try simp only[hr]
    obtain⟨hv1,hv2⟩:=hv
    split at hv2
    ·rename_i d hd
     split at hv2
     ·rename_i hn
      try simp only[hd,XK hn]
      exact⟨hv1,h _ hv2⟩
     ·rename_i hn
      try simp only[hd,XJ hn]
      exact⟨hv1,h _ hv2⟩
    ·rename_i hd
     try simp only[hd]
     exact⟨hv1,h _ hv2⟩
   ·exact hv.elim
  ·exact hv.elim
 case box t x=>
  split at hv
  ·rename_i cs d hc hd
   obtain⟨q,h1,h2⟩:=hv
   try simp only[hc,hd]
   exact⟨q,h1,h _ h2⟩
  ·exact hv.elim
 all_goals
  first
  |exact h _ hv
  |((repeat' split at hv)<;>first
   |exact hv.elim
   |exact h _ hv
   |exact⟨hv.1,h _ hv.2⟩
   |(simp only[*];exact h _ hv)
   |(simp only[*];exact⟨hv.1,h _ hv.2⟩)
   |(obtain⟨⟨c1,c2⟩,es2,h1,h2⟩:=hv;exact⟨⟨c1,c2⟩,es2,h1,h _ h2⟩)
   |(obtain⟨own,r,own',h1,h2,h3⟩:=hv;exact⟨own,r,own',h1,h2,h _ h3⟩))
theorem fa{l:Array Operand}{ρ ρ':Operand->H}(h:∀x∈l,ρ' x=ρ x):l.toList.map ρ'=l.toList.map ρ:=
 U7 λx hx=>h x (WS.1 hx)
theorem pq{l:Array (Nat×Operand)}{ρ ρ':Operand->H}(h:∀x∈(l.toList.map (·.2)).toArray,ρ' x=ρ x):
 l.toList.map (λ(p:Nat×Operand)=>(p.1,ρ' p.2))=l.toList.map (λ(p:Nat×Operand)=>(p.1,ρ p.2)):=
 U7 λx hx=>by rw[h x.2 (by simpa using ⟨x.1,by simpa using hx⟩)]
theorem sR{l:Array (Nat×Operand)}{ρ ρ':Operand->H}(h:∀x∈(l.toList.map (·.2)).toArray,ρ' x=ρ x):
 l.toList.map (λ(p:Nat×Operand)=>(p.1,fnD (ρ' p.2)))=l.toList.map (λ(p:Nat×Operand)=>(p.1,fnD (ρ p.2))):=
 U7 λx hx=>by rw[h x.2 (by simpa using ⟨x.1,by simpa using hx⟩)]
theorem uc{ρ ρ':Operand->H}{lo:Option Operand}{d:Int}(h:∀x∈lo.toArray,ρ' x=ρ x):bnd ρ' lo d=bnd ρ lo d:=by
 cases lo with
 |none=>rfl
 |some x=>simp only[bnd,h x (by simp)]
theorem AA{P:Program}{nm:Nat->Nat}{o:Oper}{ρ ρ':Operand->H}{ω ω':Nat->Option Own}{e:Eff}(hρ:∀x∈o.op.operands,ρ' x=ρ x)(hω:∀n∈e.acc,ω' n=ω n)(hdet:det o.op=true)
 (hv:aV P nm o ρ ω (λe'=>e'=e)):aV P nm o ρ' ω' (λe'=>e'=e):=by
 unfold aV at hv⊢
 cases hop:o.op<;>simp only[hop,I1]at hv⊢<;>simp only[hop,Op.operands]at hρ
 case next x is=>
  cases is with
  |false=>rw[hop]at hdet;cases hdet
  |true=>
   dsimp only at hv⊢
   rw[hρ x (by simp)]
   (repeat' split at hv)<;>first
     |exact hv.elim
     |(obtain⟨hc1,rfl⟩:=hv;have hw:=hω _ (UX.2 rfl);revert hc1;simp only[*,and_true,imp_self];done)
 case build=>simp only[pq hρ];exact hv
 case buildSlice=>simp only[sR hρ];exact hv
 case makeFunc fn first captured=>
  rw[fa λx hx=>hρ x (by simp[hx]),fa λx hx=>hρ x (by simp[hx])];exact hv
 case slice t x lo hi mx=>
  have hx:=hρ x (by simp)
  have hlo:=λd=>uc (ρ:=ρ) (ρ':=ρ') (lo:=lo) (d:=d) λy hy=>hρ y (by simp[hy])
  have hhi:=λd=>uc (ρ:=ρ) (ρ':=ρ') (lo:=hi) (d:=d) λy hy=>hρ y (by simp[hy])
  simp only[hx,hlo,hhi]
  (repeat' split at hv)<;>first
    |exact hv.elim
    |exact hv
    |(obtain⟨hc1,rfl⟩:=hv;have hw:=hω _ (UX.2 rfl);revert hc1;simp only[*,and_true,imp_self];done)
 case makeMap t hint=>
  have:pf ρ' hint=pf ρ hint:=by
   cases hint with
   |none=>rfl
   |some x=>simp only[pf,hρ x (by simp)]
  rw[this];exact hv
 case call c=>
  cases hc:c.callee with
  |value f=>
   simp only[hc]at hv⊢
   simp only[Call.operands,hc]at hρ
   rw[hρ f (by simp),fa λx hx=>hρ x (by simp[hx])]
   split at hv
   ·obtain⟨own,r,own',h1,h2,rfl⟩:=hv
    exact⟨own,r,own',h1,λp hp=>by rw[hω p.1 (Uv hp)];exact h2 p hp,rfl⟩
   ·obtain⟨own,r,own',h1,h2,rfl⟩:=hv
    exact⟨own,r,own',h1,λp hp=>by rw[hω p.1 (Uv hp)];exact h2 p hp,rfl⟩
   ·exact hv
  |invoke r m=>simp only[hc]at hv
  |builtin b=>
   simp only[hc]at hv⊢
   simp only[Call.operands,hc]at hρ
   rw[fa λx hx=>hρ x (by simpa using hx)]
   (repeat' split at hv)<;>first
     |exact hv.elim
     |exact hv
     |(simp only[*];exact hv)
     |(obtain⟨hc1,rfl⟩:=hv;have hw:=hω _ (UX.2 rfl);revert hc1;simp only[*,and_true,imp_self];done)
     |skip
 all_goals(try simp only[Array.mem_def,Um,Xa,or_false,forall_eq_or_imp,forall_eq]at hρ)
 all_goals first
  |exact hv
  |(simp only[hρ];first
   |exact hv
   |((repeat' split at hv)<;>first
    |exact hv.elim
    |exact hv
    |(subst hv;have hw:=hω _ (UX.2 rfl);simp only[*];done)
    |(obtain⟨hc1,rfl⟩:=hv;have hw:=hω _ (UX.2 rfl);revert hc1;simp only[*,and_true,imp_self];done)
    |(obtain⟨hc1,rfl⟩:=hv;have hw:=hω _ (UX.2 rfl);simp only[*,and_self];done)
    |(obtain⟨hc1,es2,hp,rfl⟩:=hv;have hw:=hω _ (UX.2 rfl);simp only[*];exact⟨⟨trivial,trivial⟩,es2,hp,rfl⟩)))
theorem C3{P:Program}{nm:Nat->Nat}{o:Oper}{ρ:Operand->H}{ω:Nat->Option Own}{k:Eff->Prop}(hdet:det o.op=true)(hv:wC P nm o ρ ω k):∃e,wC P nm o ρ ω (λe'=>e'=e)/\k e:=by
 rcases hv with hv|⟨e,h1,h2⟩
 ·obtain⟨e,h1,h2⟩:=J3 hdet hv
  exact⟨e, .inl h1,h2⟩
 ·exact⟨e, .inr ⟨e,h1,rfl⟩,h2⟩
theorem lA{P:Program}{nm:Nat->Nat}{o:Oper}{ρ:Operand->H}{ω:Nat->Option Own}{k k':Eff->Prop}(h:∀e,k e->k' e)(hv:wC P nm o ρ ω k):wC P nm o ρ ω k':=by
 rcases hv with hv|⟨e,h1,h2⟩
 ·exact .inl (tW h hv)
 ·exact .inr ⟨e,h1,h e h2⟩
theorem AB{P:Program}{nm:Nat->Nat}{o:Oper}{ρ ρ':Operand->H}{ω ω':Nat->Option Own}{e:Eff}(hρ:∀x∈o.op.operands,ρ' x=ρ x)(hω:∀n∈e.acc,ω' n=ω n)(hdet:det o.op=true)
 (hv:wC P nm o ρ ω (λe'=>e'=e)):wC P nm o ρ' ω' (λe'=>e'=e):=by
 rcases hv with hv|⟨e',h1,rfl⟩
 ·exact .inl (AA hρ hω hdet hv)
 ·exact .inr ⟨_,h1.congr hρ hω,rfl⟩
end Go.Awp
end
section
namespace Go.Awp
variable [Inhabited GMem]
structure Tr1 where
 e:Eff
 ex:Bool
def j4(P:Program)(N:Nat->Prop)(nm:Nat->Nat)(all:List Oper):List Oper->ae->List Tr1->(ae->List Tr1->Prop)->Prop
 |[],S,tr,k=>k S tr
 |o::os,S,tr,k=>
  ((∀d,o.dst=some d->N d)/\det o.op=true)/\
  match o.guard with
  |none=>wC P nm o (ev S) S.own? (λe=>(∀d∈e.new,S.fresh d=true/\d<given)/\j4 P N nm all os (S.app o.dst e) (tr++[⟨e,true⟩]) k)
  |some (j,want)=>match kf S all j want with
   |some b=>aIf (b==want) (wC P nm o (ev S) S.own? (λe=>(∀d∈e.new,S.fresh d=true/\d<given)/\j4 P N nm all os (S.app o.dst e) (tr++[⟨e,true⟩]) k))
    (j4 P N nm all os (S.app o.dst {val:= .tup []}) (tr++[⟨{val:= .tup []},false⟩]) k)
   |none=>False
def Did(P:Program)(N:Nat->Prop)(nm:Nat->Nat)(all:List Oper)(o:Oper)(S:ae)(t:Tr1):Prop:=
 ((∀d,o.dst=some d->N d)/\det o.op=true)/\
 (match o.guard with
  |none=>t.ex=true
  |some (j,want)=>∃b,kf S all j want=some b/\t.ex=(b==want))/\
 (t.ex=true->wC P nm o (ev S) S.own? (λe'=>e'=t.e)/\∀d∈t.e.new,S.fresh d=true/\d<given)/\(t.ex=false->t.e={val:= .tup []})
def stE(E:Nat->Bool):Nat->List (Oper×Tr1)->ae->ae
 |_,[],S=>S
 |i,(o,t)::r,S=>stE E (i+1) r (if E i then S.app o.dst t.e else S)
def ka(P:Program)(N:Nat->Prop)(nm:Nat->Nat)(all:List Oper):List (Oper×Tr1)->ae->Prop
 |[],_=>True
 |(o,t)::r,S=>Did P N nm all o S t/\ka P N nm all r (S.app o.dst t.e)
theorem su{P:Program}{N:Nat->Prop}{nm:Nat->Nat}{all:List Oper}:∀{os:List Oper} {S:ae} {tr:List Tr1} {k:ae->List Tr1->Prop},j4 P N nm all os S tr k->
 ∃l:List (Oper×Tr1),l.map (·.1)=os/\ka P N nm all l S/\k (stE (λ_=>true) 0 l S) (tr++l.map (·.2))
 |[],S,tr,k,h=>⟨[],rfl,trivial,by simpa[j4,stE]using h⟩
 |o::os,S,tr,k,h=>by
  have shift:∀(l:List (Oper×Tr1)) (i:Nat) (S:ae),stE (λ_=>true) i l S=stE (λ_=>true) 0 l S:=by
   intro l
   induction l with
   |nil=>intro i S;rfl
   |cons x r ih=>intro i S;obtain⟨o,t⟩:=x;simp only[stE];rw[ih (i+1),ih (0+1)]
  simp only[j4]at h
  obtain⟨hd,h⟩:=h
  have go:∀e,wC P nm o (ev S) S.own? (λe'=>e'=e)->(∀d∈e.new,S.fresh d=true/\d<given)->(match o.guard with|none=>True|some (j,want)=>∃b,kf S all j want=some b/\(b==want)=true)->
   j4 P N nm all os (S.app o.dst e) (tr++[⟨e,true⟩]) k->∃l:List (Oper×Tr1),l.map (·.1)=o::os/\ka P N nm all l S/\k (stE (λ_=>true) 0 l S) (tr++l.map (·.2)):=by
   intro e hv hn hg hk
   obtain⟨l,h1,h2,h3⟩:=su hk
   refine⟨(o,⟨e,true⟩)::l,by simp[h1],⟨⟨hd,?_,λ_=>⟨hv,hn⟩,(λh=>by cases h)⟩,h2⟩,?_⟩
   ·cases hgu:o.guard with
    |none=>rfl
    |some g=>
     obtain⟨j,want⟩:=g
     rw[hgu]at hg
     obtain⟨b,hb1,hb2⟩:=hg
     exact⟨b,hb1,hb2.symm⟩
   ·simp only[stE,XG,Uj]
    rw[shift];simpa using h3
  cases hg:o.guard with
  |none=>
   simp only[hg]at h
   obtain⟨e,hv,hn,hk⟩:=C3 hd.2 h
   exact go e hv hn (by rw[hg];trivial) hk
  |some g=>
   obtain⟨j,want⟩:=g
   simp only[hg]at h
   split at h
   ·rename_i b hb
    by_cases hbw:(b==want)=true
    ·have h:=h.1 hbw
     obtain⟨e,hv,hn,hk⟩:=C3 hd.2 h
     exact go e hv hn (by rw[hg];exact⟨b,hb,hbw⟩) hk
    ·have hbw:(b==want)=false:=by simpa using hbw
     have h:=h.2 hbw
     obtain⟨l,h1,h2,h3⟩:=su h
     refine⟨(o,⟨{val:= .tup []},false⟩)::l,by simp[h1],⟨⟨hd,by rw[hg];exact⟨b,hb,hbw.symm⟩,(λh=>by cases h),λ_=>rfl⟩,h2⟩,?_⟩
     simp only[stE,XG,Uj]
     rw[shift];simpa using h3
   ·exact h.elim
def PZ(acc:List Nat)(o:Oper):Nat:=o.after.toList.foldl (λs e=>if Region.binds .any e then s|||(2^e.on|||(acc[e.on]?).getD 0)else s) 0
def Hb(acc:List Nat):List Oper->List Nat
 |[]=>acc
 |o::r=>Hb (acc++[PZ acc o]) r
inductive mB (ops:List Oper):Nat->Nat->Prop
 |one {k:Nat} {o:Oper} {e:Edge} (ho:ops[k]?=some o) (he:e∈o.after) (hb:Region.binds .any e=true):mB ops e.on k
 |more {i k:Nat} {o:Oper} {e:Edge} (ho:ops[k]?=some o) (he:e∈o.after) (hb:Region.binds .any e=true) (h:mB ops i e.on):mB ops i k
theorem Ek{ops:List Oper}{acc:List Nat}{k:Nat}{o:Oper}(ho:ops[k]?=some o)(hacc:∀j m i,acc[j]?=some m->m.testBit i=true->mB ops i j):
 ∀i,(PZ acc o).testBit i=true->mB ops i k:=by
 have key:∀(l:List Edge) (s:Nat),(∀e∈l,e∈o.after)->(∀i,s.testBit i=true->mB ops i k)->
  ∀i,(l.foldl (λs e=>if Region.binds .any e then s|||(2^e.on|||(acc[e.on]?).getD 0)else s) s).testBit i=true->mB ops i k:=by
  intro l
  induction l with
  |nil=>intro s _ hs i h;exact hs i h
  |cons e r ih=>
   intro s hl hs i h
   simp only[Vd]at h
   refine ih _ (λe' he'=>hl e' (Ua _ he')) ?_ i h
   intro i' h'
   by_cases hb:Region.binds .any e=true
   ·rw[XK hb]at h'
    simp only[Nat.testBit_or,UI]at h'
    rcases h' with h'|h'|h'
    ·exact hs i' h'
    ·rw[Nat.testBit_two_pow]at h'
     have:e.on=i':=by simpa using h'
     subst this
     exact .one ho (hl e Uf) hb
    ·cases hq:acc[e.on]? with
     |none=>rw[hq]at h';simp at h'
     |some m=>rw[hq]at h';exact .more ho (hl e Uf) hb (hacc e.on m i' hq h')
   ·rw[XJ hb]at h';exact hs i' h'
 intro i h
 exact key o.after.toList 0 (λe he=>WS.1 he) (λi h=>by simp at h) i h
theorem ua{ops:List Oper}:∀(l:List Oper) (acc:List Nat),(∀j o,l[j]?=some o->ops[acc.length+j]?=some o)->(∀j m i,acc[j]?=some m->m.testBit i=true->mB ops i j)->
 ∀j m i,(Hb acc l)[j]?=some m->m.testBit i=true->mB ops i j
 |[],acc,_,hacc,j,m,i,hm,hi=>hacc j m i hm hi
 |o::r,acc,hl,hacc,j,m,i,hm,hi=>by
  simp only[Hb]at hm
  refine ua r (acc++[PZ acc o]) (λj o' ho'=> ?_) (λj m i hm hi=> ?_) j m i hm hi
  ·have:=hl (j+1) o' (by simpa using ho')
   rw[Uh,T_]
   rwa [show acc.length+1+j=acc.length+(j+1) by omega]
  ·by_cases hj:j<acc.length
   ·rw[UA hj]at hm;exact hacc j m i hm hi
   ·rw[Uz (by omega)]at hm
    cases hjj:j-acc.length with
    |zero=>
     rw[hjj]at hm;simp at hm;subst hm
     have:j=acc.length:=by omega
     subst this
     exact Ek (by simpa using hl 0 o rfl) hacc i hi
    |succ q=>rw[hjj]at hm;simp at hm
def looks(all:List Oper)(o:Oper):List Tmp:=
 (o.op.operands.toList.filterMap λ| .tmp t=>some t|_=>none)++
 (match o.guard with
  |some (g,_)=>match all[g]? with
   |some x=>x.dst.toList
   |none=>[]
  |none=>[])
def Eff.names(e:Eff):List Nat:=e.upd.map (·.1)++e.new
def Eff.has(e:Eff)(n:Nat):Bool:=H.has n e.val||e.upd.any λu=>match u.2 with
 |some o=>Own.has n o
 |none=>false
def mG(all:List Oper)(x y:Oper×Tr1):Bool:=
 (match x.1.dst with|some d=>(looks all y.1).contains d|none=>false)||
 (match y.1.dst with|some d=>(looks all x.1).contains d|none=>false)||
 (match x.1.dst,y.1.dst with|some a,some b=>Vb a b|_,_=>false)||
 (x.2.e.names.any λn=>y.2.e.acc.contains n||y.2.e.names.contains n)||
 (y.2.e.names.any λn=>x.2.e.acc.contains n)||
 (x.2.e.new.any λn=>y.2.e.has n)||
 (y.2.e.new.any λn=>x.2.e.has n)
def lw(all:List Oper)(bs:List Nat):Nat->List (Oper×Tr1)->List (Oper×Tr1)->Bool
 |_,_,[]=>true
 |k,done,y::r=>(done.zipIdx.all λx=> !mG all x.1 y||((bs[k]?).getD 0).testBit x.2)&&lw all bs (k+1) (done++[y]) r
def zu(ops:List Oper)(tr:List Tr1):Bool:=
 lw ops (Hb [] ops) 0 [] (ops.zip tr)&&ops.zipIdx.all (λx=>x.1.after.all λe=> !Region.binds .any e||VA e.on x.2)
theorem nN{all:List Oper}{bs:List Nat}:∀(l done:List (Oper×Tr1)),lw all bs done.length done l=true->∀(i k:Nat) (x y:Oper×Tr1),i<k->done.length<=k->(done++l)[i]?=some x->(done++l)[k]?=some y->
 mG all x y=true->((bs[k]?).getD 0).testBit i=true
 |[],done,_,i,k,x,y,hik,hk,hx,hy,_=>by
  rw[U0]at hy
  have:=(Uc.1 hy).1;omega
 |z::r,done,h,i,k,x,y,hik,hk,hx,hy,hc=>by
  simp only[lw,Uk]at h
  by_cases hkd:k=done.length
  ·subst hkd
   rw[Uz (Us _)]at hy
   simp at hy;subst hy
   rw[UA hik]at hx
   have h1:=h.1
   rw[Uo]at h1
   have:=h1 (x,i) (WO.2 hx)
   simp only[hc,T7,UD]at this
   exact this
  ·have h2:=h.2
   have e:done.length+1=(done++[z]).length:=by simp
   rw[e]at h2
   exact nN r (done++[z]) h2 i k x y hik (by simp;omega) (by simpa using hx) (by simpa using hy) hc
end Go.Awp
end
section
namespace Go.Awp
variable [Inhabited GMem]
theorem xT{α:Type}:∀{l:List (Nat×α)} {n:Nat},n∉l.map (·.1)->gt l n=none
 |[],_,_=>rfl
 |(k,x)::r,n,h=>by
  simp only[Uj,Um,not_or]at h
  rw[ah,XJ (λe=>h.1 e.symm)]
  exact xT h.2
theorem eu{α:Type}:∀{l:List (Nat×α)} {n:Nat},n∈l.map (·.1)->∃x,gt l n=some x
 |[],_,h=>by simp at h
 |(k,x)::r,n,h=>by
  rw[ah]
  by_cases hk:k=n
  ·exact⟨x,by rw[XK hk]⟩
  ·rw[XJ hk]
   simp only[Uj,Um]at h
   exact eu (h.resolve_left λe=>hk e.symm)
theorem qm{t:Nat}{E E':Nat->Bool}:∀(l:List (Oper×Tr1)) (i:Nat) (S S':ae),gt S.tmps t=gt S'.tmps t->(∀k x,l[k]?=some x->x.1.dst=some t->E (i+k)=E' (i+k))->
 gt (stE E i l S).tmps t=gt (stE E' i l S').tmps t
 |[],_,_,_,h,_=>h
 |(o,tr)::r,i,S,S',h,hE=>by
  simp only[stE]
  refine qm r (i+1) _ _ ?_ λk x hx hd=>by
   have:=hE (k+1) x (by simpa using hx) hd
   rwa [show i+1+k=i+(k+1) by omega]
  by_cases hd:o.dst=some t
  ·have:=hE 0 (o,tr) rfl hd
   simp only[UF]at this
   rw[this]
   cases E' i with
   |true=>simp[ae.app,ov,hd,ah]
   |false=>simpa using h
  ·have key:∀S:ae,gt (S.app o.dst tr.e).tmps t=gt S.tmps t:=by
    intro S
    simp only[ae.app,ov]
    cases hdd:o.dst with
    |none=>rfl
    |some d=>simp only[ah];rw[XJ (λe=>hd (by rw[hdd,e]))]
   cases E i<;>cases E' i<;>simp[key,h]
theorem ql{n:Nat}{E E':Nat->Bool}:∀(l:List (Oper×Tr1)) (i:Nat) (S S':ae),gt S.own n=gt S'.own n->(∀k x,l[k]?=some x->n∈x.2.e.upd.map (·.1)->E (i+k)=E' (i+k))->
 gt (stE E i l S).own n=gt (stE E' i l S').own n
 |[],_,_,_,h,_=>h
 |(o,tr)::r,i,S,S',h,hE=>by
  simp only[stE]
  refine ql r (i+1) _ _ ?_ λk x hx hd=>by
   have:=hE (k+1) x (by simpa using hx) hd
   rwa [show i+1+k=i+(k+1) by omega]
  by_cases hd:n∈tr.e.upd.map (·.1)
  ·have:=hE 0 (o,tr) rfl hd
   simp only[UF]at this
   rw[this]
   cases E' i with
   |true=>
    obtain⟨x,hx⟩:=eu hd
    simp[ae.app,d5,hx]
   |false=>simpa using h
  ·have key:∀S:ae,gt (S.app o.dst tr.e).own n=gt S.own n:=by
    intro S
    simp only[ae.app,d5,xT hd]
   cases E i<;>cases E' i<;>simp[key,h]
theorem qk{E:Nat->Bool}:∀(l:List (Oper×Tr1)) (i:Nat) (S:ae) (p:Nat×H),p∈(stE E i l S).tmps->p∈S.tmps\/∃k x,l[k]?=some x/\E (i+k)=true/\x.1.dst=some p.1/\p.2=x.2.e.val
 |[],_,_,_,h=> .inl h
 |(o,tr)::r,i,S,p,h=>by
  simp only[stE]at h
  rcases qk r (i+1) _ p h with h1|⟨k,x,h1,h2,h3⟩
  ·cases hE:E i with
   |false=>rw[hE]at h1;exact .inl h1
   |true=>
    rw[hE]at h1
    simp only[XG,ae.app,ov]at h1
    cases hd:o.dst with
    |none=>rw[hd]at h1;exact .inl h1
    |some d=>
     rw[hd]at h1
     rcases Um.1 h1 with h2|h2
     ·exact .inr ⟨0,(o,tr),rfl,by simpa using hE,by rw[h2];exact hd,by rw[h2]⟩
     ·exact .inl h2
  ·exact .inr ⟨k+1,x,by simpa using h1,by rwa [show i+(k+1)=i+1+k by omega],h3⟩
theorem qj{E:Nat->Bool}:∀(l:List (Oper×Tr1)) (i:Nat) (S:ae) (p:Nat×Option Own),p∈(stE E i l S).own->p∈S.own\/∃k x,l[k]?=some x/\E (i+k)=true/\p∈x.2.e.upd
 |[],_,_,_,h=> .inl h
 |(o,tr)::r,i,S,p,h=>by
  simp only[stE]at h
  rcases qj r (i+1) _ p h with h1|⟨k,x,h1,h2,h3⟩
  ·cases hE:E i with
   |false=>rw[hE]at h1;exact .inl h1
   |true=>
    rw[hE]at h1
    simp only[XG,ae.app]at h1
    rcases Ur.1 h1 with h2|h2
    ·exact .inr ⟨0,(o,tr),rfl,by simpa using hE,h2⟩
    ·exact .inl h2
  ·exact .inr ⟨k+1,x,by simpa using h1,by rwa [show i+(k+1)=i+1+k by omega],h3⟩
theorem tI{E:Nat->Bool}:∀(l:List (Oper×Tr1)) (i:Nat) (S:ae),(∀p∈S.tmps,p∈(stE E i l S).tmps)/\(∀p∈S.own,p∈(stE E i l S).own)
 |[],_,_=>⟨λ_ h=>h,λ_ h=>h⟩
 |(o,tr)::r,i,S=>by
  simp only[stE]
  obtain⟨h1,h2⟩:=tI r (i+1) (if E i then S.app o.dst tr.e else S) (E:=E)
  refine⟨λp hp=>h1 p ?_,λp hp=>h2 p ?_⟩
  ·cases E i with
   |false=>simpa using hp
   |true=>
    simp only[XG,ae.app,ov]
    cases o.dst with
    |none=>exact hp
    |some d=>exact Ua _ hp
  ·cases E i with
   |false=>simpa using hp
   |true=>simp only[XG,ae.app];exact VN _ hp
theorem y_{E:Nat->Bool}:∀(l:List (Oper×Tr1)) (i:Nat) (S:ae) (k:Nat) (x:Oper×Tr1),l[k]?=some x->E (i+k)=true->
 (∀d,x.1.dst=some d->(d,x.2.e.val)∈(stE E i l S).tmps)/\(∀p∈x.2.e.upd,p∈(stE E i l S).own)
 |[],_,_,k,x,h,_=>by simp at h
 |(o,tr)::r,i,S,0,x,h,hE=>by
  simp at h;subst h
  simp only[stE]
  simp only[UF]at hE
  obtain⟨h1,h2⟩:=tI r (i+1) (S.app o.dst tr.e) (E:=E)
  rw[hE]
  refine⟨λd hd=>h1 _ ?_,λp hp=>h2 _ ?_⟩
  ·try simp only at hd
   simp[ae.app,ov,hd]
  ·simp only[ae.app];exact Vy _ hp
 |(o,tr)::r,i,S,k+1,x,h,hE=>by
  simp only[stE]
  exact y_ r (i+1) _ k x (by simpa using h) (by rwa [show i+1+k=i+(k+1) by omega])
theorem nR{t:Nat}{E:Nat->Bool}:∀(l:List (Oper×Tr1)) (i:Nat) (S:ae) (k:Nat) (x:Oper×Tr1),l[k]?=some x->x.1.dst=some t->E (i+k)=true->
 (∀j y,l[j]?=some y->k<j->y.1.dst=some t->E (i+j)=false)->gt (stE E i l S).tmps t=some x.2.e.val
 |[],_,_,k,x,h,_,_,_=>by simp at h
 |(o,tr)::r,i,S,0,x,h,hd,hE,hl=>by
  simp at h;subst h
  simp only[stE]
  simp only[UF]at hE
  rw[hE]
  have:=qm (t:=t) (E:=E) (E':=λ_=>false) r (i+1) (if true=true then S.app o.dst tr.e else S) (if true=true then S.app o.dst tr.e else S) rfl λj y hy hdy=>by
   have:=hl (j+1) y (by simpa using hy) (by omega) hdy
   rwa [show i+1+j=i+(j+1) by omega]
  rw[this]
  have none:∀(l:List (Oper×Tr1)) (i:Nat) (S:ae),stE (λ_=>false) i l S=S:=by
   intro l
   induction l with
   |nil=>intro i S;rfl
   |cons y r ih=>intro i S;obtain⟨o,t⟩:=y;simp only[stE];exact ih _ _
  rw[none]
  try simp only at hd
  simp[ae.app,ov,hd,ah]
 |(o,tr)::r,i,S,k+1,x,h,hd,hE,hl=>by
  simp only[stE]
  exact nR r (i+1) _ k x (by simpa using h) hd (by rwa [show i+1+k=i+(k+1) by omega]) λj y hy hkj hdy=>by
   have:=hl (j+1) y (by simpa using hy) (by omega) hdy
   rwa [show i+1+j=i+(j+1) by omega]
theorem nQ{n:Nat}{E:Nat->Bool}:∀(l:List (Oper×Tr1)) (i:Nat) (S:ae) (k:Nat) (x:Oper×Tr1),l[k]?=some x->n∈x.2.e.upd.map (·.1)->E (i+k)=true->
 (∀j y,l[j]?=some y->k<j->n∈y.2.e.upd.map (·.1)->E (i+j)=false)->gt (stE E i l S).own n=gt x.2.e.upd n
 |[],_,_,k,x,h,_,_,_=>by simp at h
 |(o,tr)::r,i,S,0,x,h,hd,hE,hl=>by
  simp at h;subst h
  simp only[stE]
  simp only[UF]at hE
  rw[hE]
  have:=ql (n:=n) (E:=E) (E':=λ_=>false) r (i+1) (if true=true then S.app o.dst tr.e else S) (if true=true then S.app o.dst tr.e else S) rfl λj y hy hdy=>by
   have:=hl (j+1) y (by simpa using hy) (by omega) hdy
   rwa [show i+1+j=i+(j+1) by omega]
  rw[this]
  have none:∀(l:List (Oper×Tr1)) (i:Nat) (S:ae),stE (λ_=>false) i l S=S:=by
   intro l
   induction l with
   |nil=>intro i S;rfl
   |cons y r ih=>intro i S;obtain⟨o,t⟩:=y;simp only[stE];exact ih _ _
  rw[none]
  obtain⟨u,hu⟩:=eu hd
  simp[ae.app,d5,hu]
 |(o,tr)::r,i,S,k+1,x,h,hd,hE,hl=>by
  simp only[stE]
  exact nQ r (i+1) _ k x (by simpa using h) hd (by rwa [show i+1+k=i+(k+1) by omega]) λj y hy hkj hdy=>by
   have:=hl (j+1) y (by simpa using hy) (by omega) hdy
   rwa [show i+1+j=i+(j+1) by omega]
theorem ka.at{P:Program}{N:Nat->Prop}{nm:Nat->Nat}{all:List Oper}:∀(l:List (Oper×Tr1)) (i:Nat) (S:ae),ka P N nm all l S->∀k x,l[k]?=some x->
 Did P N nm all x.1 (stE (λj=>decide (j<i+k)) i l S) x.2
 |[],_,_,_,k,x,h=>by simp at h
 |(o,t)::r,i,S,h,0,x,hx=>by
  simp at hx;subst hx
  have none:∀(l:List (Oper×Tr1)) (j:Nat) (S:ae),i<=j->stE (λk=>decide (k<i+0)) j l S=S:=by
   intro l
   induction l with
   |nil=>intro j S _;rfl
   |cons y r ih=>intro j S hj;obtain⟨o,t⟩:=y;simp only[stE];rw[XJ (by simp;omega)];exact ih _ _ (by omega)
  rw[none _ _ _ (Us _)]
  exact h.1
 |(o,t)::r,i,S,h,k+1,x,hx=>by
  have:=ka.at r (i+1) _ h.2 k x (by simpa using hx)
  simp only[stE]
  rw[XK (by simp)]
  rwa [show i+1+k=i+(k+1) by omega]at this
end Go.Awp
end
section
namespace Go.Awp
variable [Inhabited GMem]
theorem sU{all:List Oper}{o:Oper}{t:Tmp}(h:Operand.tmp t∈o.op.operands):t∈looks all o:=by
 unfold looks
 refine Vy _ (Va.2 ⟨_,WS.2 h,rfl⟩)
theorem uY{S S':ae}{all:List Oper}{o:Oper}{j:Nat}{w:Bool}(hg:o.guard=some (j,w))(h:∀t∈looks all o,gt S'.tmps t=gt S.tmps t):kf S' all j w=kf S all j w:=by
 unfold kf
 cases hj:all[j]? with
 |none=>rfl
 |some x=>
  cases hd:x.dst with
  |none=>simp[hd]
  |some d=>
   have:d∈looks all o:=by
    unfold looks
    refine VN _ ?_
    simp[hg,hj,hd]
   simp only[hd,ae.get,h d this]
section
variable {C:Ctx} {nm:Nat->Nat} {ops:Array Oper} {l:List (Oper×Tr1)} {S0:ae}
def aW(listed:Array Bool)(k:Nat):Bool:=listed.getD k false
theorem uJ(hl:l.map (·.1)=ops.toList)(hdid:ka C.P C.wr nm ops.toList l S0)
 (hp:lw ops.toList (Hb [] ops.toList) 0 [] l=true){listed:Array Bool}(hsz:listed.size=ops.size)
 (hdown:∀k o e,ops[k]?=some o->aW listed k=true->e∈o.after->Region.binds .any e=true->aW listed e.on=true)
 {i:Nat}{x:Oper×Tr1}(hi:l[i]?=some x)(hni:aW listed i=false)(hready:∀e∈x.1.after,Region.binds .any e=true->aW listed e.on=true)
 {E:Env}{M:Mem}{a:Act}{w:World}(hs:Sim C E M (stE (aW listed) 0 l S0) a w){K:Act->World->Prop}{Q:Exit->Act->World->Prop}
 (hK:∀E' M' a' w',Sim C E' M' (stE (aW (listed.setIfInBounds i true)) 0 l S0) a' w'->K a' w'):wpOp C.P ops Q i K a w:=by
 have hio:ops[i]?=some x.1:=by
  have:(l.map (·.1))[i]?=some x.1:=by rw[Ue,hi];rfl
  rw[hl]at this;simpa using this
 have hlo:∀(k:Nat) (y:Oper×Tr1),l[k]?=some y->ops[k]?=some y.1:=by
  intro k y hy
  have:(l.map (·.1))[k]?=some y.1:=by rw[Ue,hy];rfl
  rw[hl]at this;simpa using this
 have hilt:i<listed.size:=by rw[hsz];exact(Uq.1 hio).1
 have hahead:∀j k,mB ops.toList j k->aW listed k=true->aW listed j=true:=by
  intro j k h
  induction h with
  |one ho he hb=>intro hk;exact hdown _ _ _ (by simpa using ho) hk he hb
  |more ho he hb _ ih=>intro hk;exact ih (hdown _ _ _ (by simpa using ho) hk he hb)
 have hbef:∀j k m,(Hb [] ops.toList)[k]?=some m->m.testBit j=true->mB ops.toList j k:=λj k m hm hb=>
  ua ops.toList [] (λj o h=>by simpa using h) (λj m i h=>by simp at h) k m j hm hb
 have horder:∀(j k:Nat) (y z:Oper×Tr1),j<k->l[j]?=some y->l[k]?=some z->mG ops.toList y z=true->mB ops.toList j k:=by
  intro j k y z hjk hy hz hc
  have:=nN l [] hp j k y z hjk (Vp _) (by simpa using hy) (by simpa using hz) hc
  cases hm:(Hb [] ops.toList)[k]? with
  |none=>rw[hm]at this;simp at this
  |some m=>rw[hm]at this;exact hbef j k m hm this
 have hreadyA:∀j,mB ops.toList j i->aW listed j=true:=by
  intro j h
  cases h with
  |one ho he hb=>exact hready _ (by rw[Vo,hio]at ho;cases ho;exact he) hb
  |more ho he hb h=>exact hahead _ _ h (hready _ (by rw[Vo,hio]at ho;cases ho;exact he) hb)
 have hsame:∀(k:Nat) (y:Oper×Tr1),l[k]?=some y->(mG ops.toList y x=true\/mG ops.toList x y=true)->k≠i->aW listed k=decide (k<i):=by
  intro k y hy hc hki
  rcases Nat.lt_or_gt_of_ne hki with h|h
  ·have hc':mG ops.toList y x=true:=by
    rcases hc with hc|hc
    ·exact hc
    ·simp only[mG,UI,Vu]at hc⊢
     rcases hc with(((((h1|h1)|h1)|⟨n,h2,h3⟩)|⟨n,h2,h3⟩)|⟨n,h2,h3⟩)|⟨n,h2,h3⟩
     ·exact .inl (.inl (.inl (.inl (.inl (.inr h1)))))
     ·exact .inl (.inl (.inl (.inl (.inl (.inl h1)))))
     ·refine .inl (.inl (.inl (.inl (.inr ?_))))
      cases hx:x.1.dst<;>cases hyd:y.1.dst<;>rw[hx,hyd]at h1<;>simp at h1⊢
      exact h1.symm
     ·rcases h3 with h3|h3
      ·exact .inl (.inl (.inr ⟨n,h2,h3⟩))
      ·exact .inl (.inl (.inl (.inr ⟨n,by simpa using h3, .inr (by simpa using h2)⟩)))
     ·exact .inl (.inl (.inl (.inr ⟨n,h2, .inl h3⟩)))
     ·exact .inr ⟨n,h2,h3⟩
     ·exact .inl (.inr ⟨n,h2,h3⟩)
   rw[hreadyA k (horder k i y x h hy hi hc')];simp[h]
  ·have hc':mG ops.toList x y=true:=by
    rcases hc with hc|hc
    ·simp only[mG,UI,Vu]at hc⊢
     rcases hc with(((((h1|h1)|h1)|⟨n,h2,h3⟩)|⟨n,h2,h3⟩)|⟨n,h2,h3⟩)|⟨n,h2,h3⟩
     ·exact .inl (.inl (.inl (.inl (.inl (.inr h1)))))
     ·exact .inl (.inl (.inl (.inl (.inl (.inl h1)))))
     ·refine .inl (.inl (.inl (.inl (.inr ?_))))
      cases hx:x.1.dst<;>cases hyd:y.1.dst<;>rw[hx,hyd]at h1<;>simp at h1⊢
      exact h1.symm
     ·rcases h3 with h3|h3
      ·exact .inl (.inl (.inr ⟨n,h2,h3⟩))
      ·exact .inl (.inl (.inl (.inr ⟨n,by simpa using h3, .inr (by simpa using h2)⟩)))
     ·exact .inl (.inl (.inl (.inr ⟨n,h2, .inl h3⟩)))
     ·exact .inr ⟨n,h2,h3⟩
     ·exact .inl (.inr ⟨n,h2,h3⟩)
    ·exact hc
   have hA:=horder i k x y h hi hy hc'
   cases hd:aW listed k with
   |false=>simp;omega
   |true=>rw[hahead i k hA hd]at hni;cases hni
 have hat:=ka.at l 0 S0 hdid i x hi
 simp only[UK]at hat
 have hwr_tmp:∀t,(t∈looks ops.toList x.1\/x.1.dst=some t)->∀(k:Nat) (y:Oper×Tr1),l[k]?=some y->y.1.dst=some t->k≠i->aW listed k=decide (k<i):=by
  intro t ht k y hy hyd hki
  refine hsame k y hy ?_ hki
  rcases ht with ht|ht
  ·left;simp only[mG,hyd,UI];exact .inl (.inl (.inl (.inl (.inl (.inl (by simpa using ht))))))
  ·left;simp only[mG,hyd,ht,UI];exact .inl (.inl (.inl (.inl (.inr (Wg t)))))
 have hlook:∀t∈looks ops.toList x.1,gt (stE (aW listed) 0 l S0).tmps t=gt (stE (λj=>decide (j<i)) 0 l S0).tmps t:=by
  intro t ht
  refine qm l 0 S0 S0 rfl λk y hy hyd=> ?_
  simp only[UK]
  by_cases hki:k=i
  ·subst hki;rw[hni];simp
  ·exact hwr_tmp t (.inl ht) k y hy hyd hki
 have hwr_own:∀n,(n∈x.2.e.acc\/n∈x.2.e.names)->∀(k:Nat) (y:Oper×Tr1),l[k]?=some y->n∈y.2.e.upd.map (·.1)->k≠i->aW listed k=decide (k<i):=by
  intro n hn k y hy hyn hki
  refine hsame k y hy (.inl ?_) hki
  simp only[mG,UI,Vu]
  refine .inl (.inl (.inl (.inr ⟨n,by unfold Eff.names;exact Vy _ hyn,?_⟩)))
  rcases hn with hn|hn
  ·exact .inl (by simpa using hn)
  ·exact .inr (by simpa using hn)
 have hacc:∀n,(n∈x.2.e.acc\/n∈x.2.e.names)->gt (stE (aW listed) 0 l S0).own n=gt (stE (λj=>decide (j<i)) 0 l S0).own n:=by
  intro n hn
  refine ql l 0 S0 S0 rfl λk y hy hyn=> ?_
  simp only[UK]
  by_cases hki:k=i
  ·subst hki;rw[hni];simp
  ·exact hwr_own n hn k y hy hyn hki
 obtain⟨⟨hd,hdt⟩,hg,hex,hnex⟩:=hat
 have hset:∀k,aW (listed.setIfInBounds i true) k=if k=i then true else aW listed k:=by
  intro k
  unfold aW
  by_cases hk:k=i
  ·subst hk;simp[hilt]
  ·rw[XJ hk];simp[U3 (UG hk)]
 have hnext:∀E' M' a' w',Sim C E' M' ((stE (aW listed) 0 l S0).app x.1.dst x.2.e) a' w'->K a' w':=by
  intro E' M' a' w' h
  refine hK E' M' a' w' (h.weaken (λt y hy=> .inl ?_) (λn o ho=> ?_))
  ·rw[<-hy]
   by_cases hdt:x.1.dst=some t
   ·rw[nR l 0 S0 i x hi hdt (by rw[UK,hset];simp) λk z hz hik hzd=>by
     rw[UK,hset,XJ (by omega),hwr_tmp t (.inr hdt) k z hz hzd (by omega)];simp;omega]
    simp[ae.app,ov,hdt,ah]
   ·rw[qm (E:=aW (listed.setIfInBounds i true)) (E':=aW listed) l 0 S0 S0 rfl λk z hz hzd=>by
     rw[UK,hset]
     by_cases hk:k=i
     ·subst hk;rw[hi]at hz;cases hz;exact(hdt hzd).elim
     ·rw[XJ hk]]
    simp only[ae.app,ov]
    cases hxd:x.1.dst with
    |none=>rfl
    |some d=>simp only[ah];rw[XJ (λe=>hdt (by rw[hxd,e]))]
  ·rw[<-ho]
   simp only[ae.own?]
   congr 1
   by_cases hn:n∈x.2.e.upd.map (·.1)
   ·rw[nQ l 0 S0 i x hi hn (by rw[UK,hset];simp) λk z hz hik hzn=>by
     rw[UK,hset,XJ (by omega),hwr_own n (.inr (by unfold Eff.names;exact Vy _ hn)) k z hz hzn (by omega)];simp;omega]
    obtain⟨u,hu⟩:=eu hn
    simp[ae.app,d5,hu]
   ·rw[ql (E:=aW (listed.setIfInBounds i true)) (E':=aW listed) l 0 S0 S0 rfl λk z hz hzn=>by
     rw[UK,hset]
     by_cases hk:k=i
     ·subst hk;rw[hi]at hz;cases hz;exact(hn hzn).elim
     ·rw[XJ hk]]
    simp only[ae.app,d5,xT hn]
 have hwant:Region.wanted x.1 (yielded ops a.tmps)=x.2.ex:=by
  unfold Region.wanted
  cases hgu:x.1.guard with
  |none=>rw[hgu]at hg;exact hg.symm
  |some g=>
   obtain⟨j,want⟩:=g
   rw[hgu]at hg
   obtain⟨b,hb1,hb2⟩:=hg
   rw[<-uY hgu hlook]at hb1
   have hy:=hs.guard hb1
   rw[hb2]
   exact hy
 unfold wpOp
 rw[hio]
 simp only[hwant]
 cases hx:x.2.ex with
 |false=>
  simp only[TZ,XH]
  have he:=hnex hx
  refine hnext E M _ w ?_
  exact hs.app_val (o:=x.1) hd (by rw[he]) (by rw[he];exact JY)
 |true=>
  simp only[XG]
  left
  obtain⟨hv,hnew⟩:=hex hx
  have hv':=AB (ρ':=ev (stE (aW listed) 0 l S0)) (ω':=(stE (aW listed) 0 l S0).own?) (λy hy=>by
   cases y with
   |tmp t=>simp only[ev,ae.get,hlook t (sU hy)]
   |const v=>rfl
   |global g=>rfl
   |func f=>rfl) (λn hn=>by simp only[ae.own?,hacc n (.inl hn)]) hdt hv
  have hfresh:∀d∈x.2.e.new,(stE (aW listed) 0 l S0).fresh d=true/\d<given:=by
   intro d hdn
   obtain⟨hf,hlt⟩:=hnew d hdn
   refine⟨?_,hlt⟩
   have hown:(stE (aW listed) 0 l S0).own? d=(stE (λj=>decide (j<i)) 0 l S0).own? d:=by
    simp only[ae.own?,hacc d (.inr (by unfold Eff.names;exact VN _ hdn))]
   have hno:∀(k:Nat) (y:Oper×Tr1),l[k]?=some y->aW listed k=true->y.2.e.has d=true->k<i:=by
    intro k y hy hk hh
    by_cases hki:k=i
    ·subst hki;rw[hk]at hni;cases hni
    ·have:=hsame k y hy (.inr (by
      simp only[mG,UI,Vu]
      exact .inl (.inr ⟨d,hdn,hh⟩))) hki
     rw[hk]at this;simpa using this.symm
   simp only[ae.fresh,Uk,Uo,VP]at hf⊢
   obtain⟨⟨hf1,hf2⟩,hf3⟩:=hf
   refine⟨⟨by rw[hown];exact hf1,λp hp=> ?_⟩,λp hp=> ?_⟩
   ·rcases qk l 0 S0 p hp with h|⟨k,y,h1,h2,h3',h3⟩
    ·exact hf2 p ((tI l 0 S0).1 p h)
    ·simp only[UK]at h2
     cases hh:H.has d p.2 with
     |false=>rfl
     |true=>
      rw[h3]at hh
      have hki:=hno k y h1 h2 (by simp[Eff.has,hh])
      have:=(y_ (E:=λj=>decide (j<i)) l 0 S0 k y h1 (by simpa using hki)).1 p.1 h3'
      have:=hf2 _ this
      simp only at this
      rw[hh]at this;cases this
   ·rcases qj l 0 S0 p hp with h|⟨k,y,h1,h2,h3⟩
    ·exact hf3 p ((tI l 0 S0).2 p h)
    ·simp only[UK]at h2
     cases hpo:p.2 with
     |none=>rfl
     |some oo=>
      simp only[]
      cases hh:Own.has d oo with
      |false=>rfl
      |true=>
       have hki:=hno k y h1 h2 (by
        simp only[Eff.has,UI,Vu]
        exact .inr ⟨p,h3,by rw[hpo];exact hh⟩)
       have:=(y_ (E:=λj=>decide (j<i)) l 0 S0 k y h1 (by simpa using hki)).2 p h3
       have:=hf3 p this
       rw[hpo]at this
       simp[hh]at this
  have hfin:wC C.P nm x.1 (ev (stE (aW listed) 0 l S0)) (stE (aW listed) 0 l S0).own? (λe=>(∀d∈e.new,(stE (aW listed) 0 l S0).fresh d=true/\d<given)/\e=x.2.e):=
   lA (λe he=>⟨by rw[he];exact hfresh,he⟩) hv'
  exact wC.ok (nm:=nm) hd hs hfin λe E' M' a' w' he h=>hnext E' M' a' w' (he▸h)
theorem Hm(hl:l.map (·.1)=ops.toList)(hdid:ka C.P C.wr nm ops.toList l S0)(hp:lw ops.toList (Hb [] ops.toList) 0 [] l=true)
 (hlow:∀(k:Nat) (o:Oper) (e:Edge),ops[k]?=some o->e∈o.after->Region.binds .any e=true->e.on<k){Q:Exit->Act->World->Prop}
 (hQ:∀E' M' a' w',Sim C E' M' (stE (λ_=>true) 0 l S0) a' w'->Q .normal a' w'):
 ∀(fuel:Nat) (listed:Array Bool) (E:Env) (M:Mem) (a:Act) (w:World),listed.size=ops.size->listed.toList.countP (λb=> !b)<=fuel->
  (∀k o e,ops[k]?=some o->aW listed k=true->e∈o.after->Region.binds .any e=true->aW listed e.on=true)->Sim C E M (stE (aW listed) 0 l S0) a w->
  wpAny C.P .any ops Q fuel listed a w:=by
 have hlen:l.length=ops.size:=by
  have:=congrArg Wd hl;simpa using this
 have hall:∀(listed:Array Bool),listed.size=ops.size->Region.ready .any ops listed=[]->∀k,k<ops.size->aW listed k=true:=by
  intro listed hsz hr k
  induction k using WP with
  |_ k ih=>
   intro hk
   cases hd:aW listed k with
   |true=>rfl
   |false=>
    have ho:ops[k]?=some ops[k]:=UO hk
    have:k∈Region.ready .any ops listed:=by
     rw[mem_ready]
     refine⟨?_,ops[k],ho,λe he hb=>ih e.on (hlow k _ e ho he hb) (Nat.lt_trans (hlow k _ e ho he hb) hk)⟩
     unfold aW at hd
     have hkl:k<listed.size:=by omega
     simp[hkl]at hd⊢;exact hd
    rw[hr]at this;cases this
 have hend:∀(listed:Array Bool) (E:Env) (M:Mem) (a:Act) (w:World),listed.size=ops.size->Region.ready .any ops listed=[]->Sim C E M (stE (aW listed) 0 l S0) a w->Q .normal a w:=by
  intro listed E M a w hsz hr hs
  refine hQ E M a w (hs.weaken (λt y hy=> .inl ?_) (λn o ho=> ?_))
  ·rw[<-hy]
   exact qm l 0 S0 S0 rfl λk y hy _=>by
    rw[UK];exact hall listed hsz hr k (by have:=(Uc.1 hy).1;omega)
  ·rw[<-ho]
   simp only[ae.own?]
   have he:=ql (n:=n) (E:=aW listed) (E':=λ_=>true) l 0 S0 S0 rfl λk y hy _=>by
    rw[UK];exact hall listed hsz hr k (by have:=(Uc.1 hy).1;omega)
   rw[he]
 intro fuel
 induction fuel with
 |zero=>
  intro listed E M a w hsz hc hdown hs
  have hr:Region.ready .any ops listed=[]:=by
   cases hr:Region.ready .any ops listed with
   |nil=>rfl
   |cons i r=>
    have hi:i∈Region.ready .any ops listed:=by rw[hr];exact Uf
    rw[mem_ready]at hi
    have h0:listed.toList.countP (λb=> !b)=0:=by omega
    rw[Xy]at h0
    have hil:i<listed.size:=by
     obtain⟨_,o,ho,_⟩:=hi
     have:=(Uq.1 ho).1;omega
    have:=h0 listed[i] (by simp)
    have h1:=hi.1
    simp[hil]at h1
    simp[h1]at this
  exact⟨hr,hend listed E M a w hsz hr hs⟩
 |succ fuel ih=>
  intro listed E M a w hsz hc hdown hs
  refine⟨λhr=>hend listed E M a w hsz hr hs,λi hi=> ?_⟩
  rw[mem_ready]at hi
  obtain⟨h0,o,ho,hready⟩:=hi
  have hio:i<ops.size:=(Uq.1 ho).1
  have hil:i<listed.size:=by omega
  obtain⟨x,hx⟩:∃x,l[i]?=some x:=⟨l[i]'(by omega),Ub (by omega)⟩
  have hxo:x.1=o:=by
   have:(l.map (·.1))[i]?=some x.1:=by rw[Ue,hx];rfl
   rw[hl]at this
   simp[ho]at this;exact this.symm
  have hni:aW listed i=false:=by
   unfold aW;simp[hil]at h0⊢;exact h0
  refine uJ hl hdid hp hsz hdown hx hni (λe he hb=>hready e (by rw[<-hxo];exact he) hb) hs λE' M' a' w' hs'=> ?_
  refine ih _ E' M' a' w' (by simpa using hsz) ?_ (λk o' e hk hd he hb=> ?_) hs'
  ·rw[V_,List.countP_set (by simpa using hil)]
   have hli:listed.toList[i]'(by simpa using hil)=false:=by simpa[hil]using h0
   have hpos:0<listed.toList.countP (λb=> !b):=Xx.2 ⟨false,by rw[<-hli];exact Vt _,rfl⟩
   simp only[hli,T5,XG,T7,TZ,XH]
   omega
  ·unfold aW at hd⊢
   by_cases hki:k=i
   ·subst hki
    rw[ho]at hk;cases hk
    exact getD_set_true (hready e he hb)
   ·rw[getD_set_ne false (UG hki)]at hd
    exact getD_set_true (hdown k o' e hk hd he hb)
end
section
variable [Inhabited GMem]
inductive G4 (ops:Array Oper):Array Bool->List Nat->Prop
 |nil {listed:Array Bool} (h:Region.ready .any ops listed=[]):G4 ops listed []
 |cons {listed:Array Bool} {i:Nat} {is:List Nat} (h:i∈Region.ready .any ops listed) (hr:G4 ops (listed.setIfInBounds i true) is):G4 ops listed (i::is)
theorem lE{listed:Array Bool}{i:Nat}(h:listed.getD i true=false):(listed.setIfInBounds i true).toList.countP (λb=> !b)<listed.toList.countP (λb=> !b):=by
 have hil:i<listed.size:=by
  rcases XB i listed.size with h2|h2
  ·exact h2
  ·simp[VS h2]at h
 rw[V_,List.countP_set (by simpa using hil)]
 have hli:listed.toList[i]'(by simpa using hil)=false:=by simpa[hil]using h
 have hpos:0<listed.toList.countP (λb=> !b):=Xx.2 ⟨false,by rw[<-hli];exact Vt _,rfl⟩
 simp only[hli,T5,XG,T7,TZ,XH]
 omega
theorem rb(ops:Array Oper):∀(fuel t:Nat) (listed:Array Bool),listed.toList.countP (λb=> !b)<=fuel->G4 ops listed (Region.linearise.go .any ops fuel t listed []):=by
 intro fuel
 induction fuel with
 |zero=>
  intro t listed h
  simp only[Region.linearise.go,List.reverse_nil]
  refine .nil ?_
  cases hr:Region.ready .any ops listed with
  |nil=>rfl
  |cons i r=>
   have hi:i∈Region.ready .any ops listed:=by rw[hr];exact Uf
   have:=lE (mem_ready.1 hi).1
   omega
 |succ fuel ih=>
  intro t listed h
  simp only[Region.linearise.go]
  change G4 ops listed (match(Region.ready .any ops listed)[t%(Region.ready .any ops listed).length]? with
   |some i=>Region.linearise.go .any ops fuel (t/(Region.ready .any ops listed).length) (listed.setIfInBounds i true) [i]
   |none=>[].reverse)
  cases hi:(Region.ready .any ops listed)[t%(Region.ready .any ops listed).length]? with
  |none=>
   refine .nil ?_
   cases hr:Region.ready .any ops listed with
   |nil=>rfl
   |cons i r=>
    rw[hr]at hi
    rw[List.getElem?_eq_none_iff]at hi
    have:=Xq t (show 0<(i::r).length by simp)
    omega
  |some i=>
   simp only
   rw[linearise_go_acc]
   have hm:=Un hi
   have:=lE (mem_ready.1 hm).1
   exact .cons hm (ih _ _ (by omega))
def swq(p q k:Nat):Nat:=if k=p then q else if k=q then p else k
theorem tM(p q k:Nat):swq p q (swq p q k)=k:=by
 unfold swq
 repeat' split
 all_goals omega
def CV(s:Nat->Nat)(extra:Array Edge)(o:Oper):Oper:=
 {dst:=o.dst,op:=o.op,type:=o.type,pos:=o.pos,after:=(o.after.map λe=>{on:=s e.on,ground:=e.ground})++extra,guard:=o.guard.map λg=>(s g.1,g.2)}
def eL(p q x y:Nat)(ops:Array Oper):Array Oper:=
 ((V3 ops.size).map λk=>match ops[swq p q k]? with
   |some o=>CV (swq p q) (if swq p q k=y then #[{on:=swq p q x,ground:= .phase}]else #[]) o
   |none=>default).toArray
theorem lz(p q x y:Nat)(ops:Array Oper):(eL p q x y ops).size=ops.size:=by simp[eL]
theorem vZ{p q k n:Nat}(hp:p<n)(hq:q<n):swq p q k<n↔k<n:=by
 unfold swq
 repeat' split
 all_goals omega
theorem my{p q x y:Nat}{ops:Array Oper}(hp:p<ops.size)(hq:q<ops.size){k:Nat}{o:Oper}(h:ops[k]?=some o):
 (eL p q x y ops)[swq p q k]?=some (CV (swq p q) (if k=y then #[{on:=swq p q x,ground:= .phase}]else #[]) o):=by
 have hk:k<ops.size:=(Uq.1 h).1
 have hk2:swq p q k<ops.size:=(vZ hp hq).2 hk
 unfold eL
 rw[Ws,Ue,VL hk2]
 simp only[UB,tM,h]
theorem ly{p q x y:Nat}{ops:Array Oper}(hp:p<ops.size)(hq:q<ops.size){k:Nat}(h:ops[k]?=none):(eL p q x y ops)[swq p q k]?=none:=by
 have hk:¬k<ops.size:=by
  intro hk
  rw[UO hk]at h;cases h
 rw[Array.getElem?_eq_none_iff,lz]
 have:=(vZ (k:=k) hp hq).1
 omega
theorem jz{P:Program}{p q x y:Nat}{ops:Array Oper}(hp:p<ops.size)(hq:q<ops.size){Q:Exit->Act->World->Prop}:
 ∀(is:List Nat) (a:Act) (w:World),wpOps P (eL p q x y ops) Q (is.map (swq p q)) a w->wpOps P ops Q is a w
 |[],a,w,h=>h
 |i::is,a,w,h=>by
  rw[Uj,wpOps_cons]at h
  rw[wpOps_cons]
  unfold wpOp at *
  cases ho:ops[i]? with
  |none=>
   rw[ly hp hq ho]at h
   exact jz hp hq is a w h
  |some o=>
   rw[my hp hq ho]at h
   simp only at h⊢
   have hy:∀j,yielded (eL p q x y ops) a.tmps (swq p q j)=yielded ops a.tmps j:=by
    intro j
    unfold yielded
    cases hj:ops[j]? with
    |none=>rw[ly hp hq hj]
    |some z=>rw[my hp hq hj];rfl
   have hw:Region.wanted (CV (swq p q) (if i=y then #[{on:=swq p q x,ground:= .phase}]else #[]) o) (yielded (eL p q x y ops) a.tmps)=Region.wanted o (yielded ops a.tmps):=by
    unfold Region.wanted CV
    cases o.guard with
    |none=>rfl
    |some g=>
     obtain⟨j,want⟩:=g
     simp only[UB,hy]
   rw[hw]at h
   by_cases hz:Region.wanted o (yielded ops a.tmps)=true
   ·rw[XK hz]at h⊢
    rcases h with h|h
    ·refine .inl ?_
     have h2:o.wp P a w (wpOps P (eL p q x y ops) Q (is.map (swq p q))) Q:=h
     exact Oper.wp_mono (λa w h=>jz hp hq is a w h) h2
    ·exact .inr h
   ·rw[XJ hz]at h⊢
    exact jz hp hq is _ w h
def bef(x y:Nat):List Nat->Prop
 |[]=>True
 |k::r=>k=x\/(k≠y/\bef x y r)
theorem Jf{x y:Nat}(h:x≠y):∀is:List Nat,bef x y is\/bef y x is
 |[]=> .inl trivial
 |k::r=>by
  by_cases h1:k=x
  ·exact .inl (.inl h1)
  ·by_cases h2:k=y
   ·exact .inr (.inl h2)
   ·rcases Jf h r with h3|h3
    ·exact .inl (.inr ⟨h2,h3⟩)
    ·exact .inr (.inr ⟨h1,h3⟩)
theorem z6{p q x y:Nat}(hxy:x≠y){ops:Array Oper}(hp:p<ops.size)(hq:q<ops.size){listed:Array Bool}{is:List Nat}(h:G4 ops listed is):
 ∀listed':Array Bool,listed.size=ops.size->listed'.size=ops.size->(∀k,k<ops.size->aW listed' (swq p q k)=aW listed k)->(aW listed x=true\/bef x y is)->G4 (eL p q x y ops) listed' (is.map (swq p q)):=by
 have down:∀(listed listed':Array Bool),listed.size=ops.size->listed'.size=ops.size->(∀k,k<ops.size->aW listed' (swq p q k)=aW listed k)->∀k,swq p q k∈Region.ready .any (eL p q x y ops) listed'->k∈Region.ready .any ops listed:=by
  intro listed listed' hs hs' hd k hk
  rw[mem_ready]at hk⊢
  obtain⟨h1,o',ho',h2⟩:=hk
  cases ho:ops[k]? with
  |none=>rw[ly hp hq ho]at ho';cases ho'
  |some o=>
   rw[my hp hq ho]at ho'
   cases ho'
   have hkl:k<ops.size:=(Uq.1 ho).1
   have hkl2:swq p q k<ops.size:=(vZ hp hq).2 hkl
   refine⟨?_,o,rfl,λe he hb=> ?_⟩
   ·have:=hd k hkl
    unfold aW at this
    simp[hs,hs',hkl,hkl2]at this h1⊢
    rw[<-this,h1]
   ·have h3:=h2 {on:=swq p q e.on,ground:=e.ground} (by
     simp only[CV,Array.mem_append,Array.mem_map]
     exact .inl ⟨e,he,rfl⟩) hb
    by_cases hel:e.on<ops.size
    ·have:=hd e.on hel
     unfold aW at this
     rw[<-this];exact h3
    ·have hel2:¬swq p q e.on<ops.size:=λh=>hel ((vZ hp hq).1 h)
     simp[hs',hel2]at h3
 induction h with
 |nil h0=>
  intro listed' hs hs' hd _
  refine .nil ?_
  cases hr:Region.ready .any (eL p q x y ops) listed' with
  |nil=>rfl
  |cons i r=>
   have hi:swq p q (swq p q i)∈Region.ready .any (eL p q x y ops) listed':=by rw[tM,hr];exact Uf
   have:=down _ _ hs hs' hd _ hi
   rw[h0]at this;cases this
 |cons hm hr ih=>
  rename_i listed i is
  intro listed' hs hs' hd hb
  have hm':=mem_ready.1 hm
  obtain⟨h1,o,ho,h2⟩:=hm'
  have hkl:i<ops.size:=(Uq.1 ho).1
  have hkl2:swq p q i<ops.size:=(vZ hp hq).2 hkl
  refine .cons (mem_ready.2 ⟨?_,_,my hp hq ho,λe he hbd=> ?_⟩) (ih _ (by simpa using hs) (by simpa using hs') (λk hk=> ?_) ?_)
  ·have:=hd i hkl
   unfold aW at this
   simp[hs,hs',hkl,hkl2]at this h1⊢
   rw[this,h1]
  ·simp only[CV,Array.mem_append,Array.mem_map]at he
   rcases he with⟨e0,he0,rfl⟩|he
   ·have h3:=h2 e0 he0 hbd
    by_cases hel:e0.on<ops.size
    ·have:=hd e0.on hel
     unfold aW at this
     rw[this];exact h3
    ·simp[hs,hel]at h3
   ·by_cases hiy:i=y
    ·rw[XK hiy]at he
     simp at he
     subst he
     have hx:aW listed x=true:=by
      rcases hb with hb|hb
      ·exact hb
      ·rcases hb with hb|hb
       ·exact absurd (hb.symm.trans hiy) hxy
       ·exact absurd hiy hb.1
     have hxl:x<ops.size:=by
      unfold aW at hx
      rcases XB x listed.size with h|h
      ·omega
      ·simp[VS h]at hx
     have:=hd x hxl
     unfold aW at this hx
     simp only
     rw[this];exact hx
    ·rw[XJ hiy]at he;simp at he
  ·unfold aW
   by_cases hki:k=i
   ·subst hki
    simp[hs,hs',hkl,hkl2]
   ·have:swq p q k≠swq p q i:=λe=>hki (by rw[<-tM p q k,e,tM])
    rw[getD_set_ne false (UG hki),getD_set_ne false (UG this)]
    exact hd k hk
  ·rcases hb with hb|hb
   ·exact .inl (getD_set_true hb)
   ·rcases hb with hb|hb
    ·refine .inl ?_
     subst hb
     unfold aW
     simp[hs,hkl]
    ·exact .inr hb.2
theorem DL{C:Ctx}{nm:Nat->Nat}{ops:Array Oper}{l:List (Oper×Tr1)}{S0:ae}(hl:l.map (·.1)=ops.toList)(hdid:ka C.P C.wr nm ops.toList l S0)(hp:lw ops.toList (Hb [] ops.toList) 0 [] l=true)
 (hlow:∀(k:Nat) (o:Oper) (e:Edge),ops[k]?=some o->e∈o.after->Region.binds .any e=true->e.on<k){Q:Exit->Act->World->Prop}
 (hQ:∀E' M' a' w',Sim C E' M' (stE (λ_=>true) 0 l S0) a' w'->Q .normal a' w'){listed:Array Bool}{is:List Nat}(hr:G4 ops listed is):
 ∀(E:Env) (M:Mem) (a:Act) (w:World),listed.size=ops.size->
  (∀k o e,ops[k]?=some o->aW listed k=true->e∈o.after->Region.binds .any e=true->aW listed e.on=true)->Sim C E M (stE (aW listed) 0 l S0) a w->
  wpOps C.P ops Q is a w:=by
 have hlen:l.length=ops.size:=by
  have:=congrArg Wd hl;simpa using this
 induction hr with
 |nil hr=>
  rename_i listed
  intro E M a w hsz hdown hs
  have:=Hm (C:=C) (nm:=nm) hl hdid hp hlow hQ 0 listed E M a w hsz
   (by
     refine XC (Xy.2 λb hb=> ?_)
     obtain⟨i,hi,rfl⟩:=Ww hb
     cases hbi:listed.toList[i]with
     |true=>simp
     |false=>
      exfalso
      have hall:∀k,k<ops.size->aW listed k=true:=by
       intro k
       induction k using WP with
       |_ k ih=>
        intro hk
        cases hd:aW listed k with
        |true=>rfl
        |false=>
         have ho:ops[k]?=some ops[k]:=UO hk
         have:k∈Region.ready .any ops listed:=by
          rw[mem_ready]
          refine⟨?_,ops[k],ho,λe he hb=>ih e.on (hlow k _ e ho he hb) (Nat.lt_trans (hlow k _ e ho he hb) hk)⟩
          unfold aW at hd
          have hkl:k<listed.size:=by omega
          simp[hkl]at hd⊢;exact hd
         rw[hr]at this;cases this
      have hil:i<listed.size:=by simpa using hi
      have:=hall i (by omega)
      unfold aW at this
      simp[hil]at this hbi
      rw[hbi]at this;cases this) hdown hs
  exact this.2
 |cons hm hr ih=>
  rename_i listed i is
  intro E M a w hsz hdown hs
  obtain⟨h0,o,ho,hready⟩:=mem_ready.1 hm
  have hio:i<ops.size:=(Uq.1 ho).1
  have hil:i<listed.size:=by omega
  obtain⟨x,hx⟩:∃x,l[i]?=some x:=⟨l[i]'(by omega),Ub (by omega)⟩
  have hxo:x.1=o:=by
   have:(l.map (·.1))[i]?=some x.1:=by rw[Ue,hx];rfl
   rw[hl]at this
   simp[ho]at this;exact this.symm
  have hni:aW listed i=false:=by
   unfold aW;simp[hil]at h0⊢;exact h0
  rw[wpOps_cons]
  refine uJ hl hdid hp hsz hdown hx hni (λe he hb=>hready e (by rw[<-hxo];exact he) hb) hs λE' M' a' w' hs'=> ?_
  refine ih E' M' a' w' (by simpa using hsz) (λk o' e hk hd he hb=> ?_) hs'
  unfold aW at hd⊢
  by_cases hki:k=i
  ·subst hki
   rw[ho]at hk;cases hk
   exact getD_set_true (hready e he hb)
  ·rw[getD_set_ne false (UG hki)]at hd
   exact getD_set_true (hdown k o' e hk hd he hb)
inductive PT where
 |leaf
 |node (i j:Nat) (a b:PT)
def PT.ok(C:Ctx)(nm:Nat->Nat)(S:ae)(Q:ae->Prop):PT->Array Oper->Prop
 | .leaf,ops=>j4 C.P C.wr nm ops.toList ops.toList S [] (λS' tr=>zu ops.toList tr=true/\Q S')
 | .node i j a b,ops=>(i≠j/\i<ops.size/\j<ops.size)/\PT.ok C nm S Q a (eL i i i j ops)/\PT.ok C nm S Q b (eL i j j i ops)
theorem PT.runs{C:Ctx}{nm:Nat->Nat}{S:ae}{Q:ae->Prop}{Q':Exit->Act->World->Prop}{E:Env}{M:Mem}{a:Act}{w:World}(hs:Sim C E M S a w)
 (hQ:∀S' E' M' a' w',Q S'->Sim C E' M' S' a' w'->Q' .normal a' w'):∀(t:PT) (ops:Array Oper) (is:List Nat),PT.ok C nm S Q t ops->G4 ops (VM ops.size false) is->wpOps C.P ops Q' is a w
 | .leaf,ops,is,h,hr=>by
  obtain⟨l,h1,h2,h3,h4⟩:=su h
  have hz:ops.toList.zip (l.map (·.2))=l:=by
   rw[<-h1]
   have:∀l:List (Oper×Tr1),(l.map (·.1)).zip (l.map (·.2))=l:=by
    intro l
    induction l with
    |nil=>rfl
    |cons x r ih=>simp[ih]
   exact this l
  simp only[UN,zu,Uk,hz]at h3
  obtain⟨hp',hlow⟩:=h3
  have hd0:∀k,aW (VM ops.size false) k=false:=by
   intro k
   unfold aW
   by_cases hk:k<ops.size
   ·simp[hk]
   ·simp[hk]
  refine DL (C:=C) (nm:=nm) (l:=l) (S0:=S) h1 h2 hp' (λk o e ho he hb=> ?_) (λE' M' a' w' hs'=>hQ _ E' M' a' w' h4 hs')
   hr E M a _ (by simp) (λk o e _ hd=> ?_) ?_
  ·rw[Uo]at hlow
   have:=hlow (o,k) (WO.2 (by simpa using ho))
   simp only at this
   rw[Array.all_eq_true_iff_forall_mem]at this
   have:=this e he
   simp only[hb,T7,UD]at this
   exact of_eq_true (by rw[<-VG,this];simp)
  ·rw[hd0]at hd;cases hd
  ·have none:∀(l:List (Oper×Tr1)) (i:Nat) (S:ae),stE (aW (VM ops.size false)) i l S=S:=by
    intro l
    induction l with
    |nil=>intro i S;rfl
    |cons x r ih=>
     intro i S;obtain⟨o,t⟩:=x
     simp only[stE,hd0]
     exact ih _ _
   rw[none]
   exact hs
 | .node i j ta tb,ops,is,h,hr=>by
  obtain⟨⟨hij,hi,hj⟩,hA,hB⟩:=h
  have hd0:∀n k,aW (VM n false) k=false:=by
   intro n k
   unfold aW
   by_cases hk:k<n
   ·simp[hk]
   ·simp[hk]
  rcases Jf hij is with hb|hb
  ·refine jz (p:=i) (q:=i) (x:=i) (y:=j) hi hi _ _ _ (PT.runs hs hQ ta _ _ hA ?_)
   exact z6 (p:=i) (q:=i) (x:=i) (y:=j) hij hi hi hr _ (by simp) (by simp[lz]) (λk _=>by rw[hd0,hd0]) (.inr hb)
  ·refine jz (p:=i) (q:=j) (x:=j) (y:=i) hi hj _ _ _ (PT.runs hs hQ tb _ _ hB ?_)
   exact z6 (p:=i) (q:=j) (x:=j) (y:=i) (UG hij) hi hj hr _ (by simp) (by simp[lz]) (λk _=>by rw[hd0,hd0]) (.inr hb)
theorem AWp.drawT{C:Ctx}{id:Nat}{ops:Array Oper}{S:ae}{Q:Exit->ae->Prop}(nm:Nat->Nat)(t:PT)(hm:C.P.follows .mixedOrders=true)
 (h:PT.ok C nm S (Q .normal) t ops):AWp C (.region id ops true) S Q:=λE M a w hs=>by
 refine wp_region_draw λtp=> ?_
 simp only[Region.schedule,hm,UJ,XG]
 have hr:G4 ops (VM ops.size false) (Region.linearise .any ops tp):=rb ops ops.size tp _ (U4 List.countP_le_length (by simp))
 exact PT.runs (Q':=λe a' w'=>∃S' E' M',Q e S'/\Sim C E' M' S' a' w') hs.drew (λS' E' M' a' w' hq hs'=>⟨S',E',M',hq,hs'⟩) t ops _ h hr
end
end Go.Awp
end
section
namespace Go.Awp
variable [Inhabited GMem]
section
variable {P:Program} {N:Nat->Prop} {C:Ctx} {nm:Nat->Nat} {S:ae} {Q:Exit->ae->Prop}
end
theorem gr.at{P:Program}{f:FuncId}{args:List H}{r:H}(h:gr P f args [] r [])(hr:H.plain r=true):Ja P f args [] r []:=by
 refine⟨h.1,λE M w vs hgm hm ho hv=>(h.2 E M w vs hgm hm ho hv).mono ?_⟩
 rintro e w' ⟨v,E',M',rfl,hp⟩
 refine⟨v,E,M',rfl,{hp with rep:=hp.rep.mono (Mem.le_refl _) (λn hn=>by rw[H.plain_has hr]at hn;cases hn),owns:=⟨λn o h=>by simp[gt]at h,λn m o o' b _ h=>by simp[gt]at h⟩,home:=λn o b h=>by simp[gt]at h,env:=λ_ _=>rfl},λ_ _=>rfl⟩
theorem AE{P:Program}{f:FuncId}{args:List H}{ω:Nat->Option Own}{k:Eff->Prop}{r:H}(h:gr P f args [] r [])(hr:H.plain r=true)(hk:k {val:=r}):wE P f args ω k:=
 ⟨[],r,[],h.at hr,by simp,hk⟩
theorem Ent.nilvec{S:ae}{t n e sz:Nat}(ht:gt S.tmps t=some (.d (.v (.slice none 0 0))))(hf:S.fresh n=true)(hg:n<given):
 Ent S {tmps:=(t, .vh n 0)::S.tmps,own:=(n,some (.vec e sz []))::S.own}:=λC E M a w hs=>by
 have h1:=hs.own_new (E':=λm=>if m=n then .slice none 0 0 else E m) (d:=n) (o':= .vec e sz []) (w':=w) ⟨rfl,rfl,rfl,Us _,λ_ _ _=>rfl⟩ (λm hm=>by simp[hm]) hf hg
  (λb hb=>by simp[Own.foot,aj]at hb) ⟨[],by simpa using World.ownsRow_nil w 0 e sz,by simp,by simp,λb hb=>by simp[aj]at hb⟩
 refine⟨_,M,{h1 with tmps:=λt' x hx=> ?_}⟩
 rw[ah]at hx
 by_cases htt:t=t'
 ·subst htt
  simp at hx;subst hx
  obtain⟨v,hv,hr⟩:=hs.tmps t _ ht
  refine⟨v,hv,?_⟩
  rw[hr.dv]
  exact .vh n 0 0 0 none (by simp) (Us _)
 ·rw[XJ htt]at hx
  exact h1.tmps t' x hx
theorem Ent.nilcell{S:ae}{b n e sz i:Nat}{oty:Option TypeId}{cells:List H}(ho:S.own? b=some (.box oty cells))(hi:cells[i]?=some (.d (.v (.slice none 0 0))))(hf:S.fresh n=true)(hg:n<given):
 Ent S {tmps:=S.tmps,own:=(b,some (.box oty (cells.set i (.vh n 0))))::(n,some (.vec e sz []))::S.own}:=λC E M a w hs=>by
 have h1:=hs.own_new (E':=λm=>if m=n then .slice none 0 0 else E m) (d:=n) (o':= .vec e sz []) (w':=w) ⟨rfl,rfl,rfl,Us _,λ_ _ _=>rfl⟩ (λm hm=>by simp[hm]) hf hg
  (λb hb=>by simp[Own.foot,aj]at hb) ⟨[],by simpa using World.ownsRow_nil w 0 e sz,by simp,by simp,λb hb=>by simp[aj]at hb⟩
 have hbn:b≠n:=by
  rintro rfl
  unfold ae.fresh at hf
  simp[ho]at hf
 have hown:∀m o,ae.own? {tmps:=S.tmps,own:=(b,some (.box oty (cells.set i (.vh n 0))))::(n,some (.vec e sz []))::S.own} m=some o->
  (m=b/\o= .box oty (cells.set i (.vh n 0)))\/(m≠b/\ae.own? {tmps:=S.tmps,own:=(n,some (.vec e sz []))::S.own} m=some o):=by
  intro m o hm
  unfold ae.own? at hm⊢
  rw[ah]at hm
  by_cases hmb:b=m
  ·rw[XK hmb]at hm
   left;exact⟨hmb.symm,by simpa using hm.symm⟩
  ·rw[XJ hmb]at hm
   right;exact⟨λe=>hmb e.symm,hm⟩
 have hb1:ae.own? {tmps:=S.tmps,own:=(n,some (.vec e sz []))::S.own} b=some (.box oty cells):=by
  unfold ae.own? at ho⊢
  rw[ah,XJ (λe=>hbn e.symm)];exact ho
 have hany:∀m o,ae.own? {tmps:=S.tmps,own:=(b,some (.box oty (cells.set i (.vh n 0))))::(n,some (.vec e sz []))::S.own} m=some o->∃o',ae.own? {tmps:=S.tmps,own:=(n,some (.vec e sz []))::S.own} m=some o'/\∀v,o.foot w v=o'.foot w v:=by
  intro m o hm
  rcases hown m o hm with⟨rfl,rfl⟩|⟨_,h⟩
  ·exact⟨_,hb1,λ_=>rfl⟩
  ·exact⟨_,h,λ_=>rfl⟩
 refine⟨_,M,{h1 with own:=λm o hm=> ?_,apart:=λm m' o o' bb hne hm hm' hbb hbb'=> ?_,home:=λm o bb hm hbb=> ?_}⟩
 ·rcases hown m o hm with⟨rfl,rfl⟩|⟨_,h⟩
  ·obtain⟨blk,cs,ty,k1,k2,k3,k4,k5⟩:=h1.own m _ hb1
   refine⟨blk,cs,ty,k1,k2,by rw[Vk];exact k3,λj c x hc hx=> ?_,k5⟩
   by_cases hij:i=j
   ·subst hij
    have hlt:i<cells.length:=(Uc.1 hi).1
    rw[WH hlt]at hx
    simp at hx;subst hx
    have:=k4 i c _ hc hi
    rw[this.dv]
    exact .vh n 0 0 0 none (by simp) (Us _)
   ·rw[List.getElem?_set_ne hij]at hx
    exact k4 j c x hc hx
  ·exact h1.own m o h
 ·obtain⟨q,hq,e⟩:=hany m o hm
  obtain⟨q',hq',e'⟩:=hany m' o' hm'
  rw[e]at hbb
  rw[e']at hbb'
  exact h1.apart m m' q q' bb hne hq hq' hbb hbb'
 ·obtain⟨q,hq,e⟩:=hany m o hm
  rw[e]at hbb
  exact h1.home m q bb hq hbb
mutual
def H.frz(n sz:Nat)(rows:List (List D)):H->H
 | .vh m len=>if m=n/\len=rows.length then .d (.sl sz rows)else .vh m len
 | .agg cs=>cU (H.frzL n sz rows cs)
 | .tup vs=> .tup (H.frzL n sz rows vs)
 |x=>x
def H.frzL(n sz:Nat)(rows:List (List D)):List H->List H
 |[]=>[]
 |x::r=>H.frz n sz rows x::H.frzL n sz rows r
end
theorem H.frzL_len(n sz:Nat)(rows:List (List D)):∀l:List H,(H.frzL n sz rows l).length=l.length
 |[]=>rfl
 |x::r=>by simp[H.frzL,H.frzL_len n sz rows r]
theorem H.frzL_get(n sz:Nat)(rows:List (List D)):∀(l:List H) (i:Nat),(H.frzL n sz rows l)[i]?=(l[i]?).map (H.frz n sz rows)
 |[],i=>by simp[H.frzL]
 |x::r,0=>by simp[H.frzL]
 |x::r,i+1=>by simpa[H.frzL]using H.frzL_get n sz rows r i
def Own.frz(n sz:Nat)(rows:List (List D)):Own->Own
 | .box o cells=> .box o (H.frzL n sz rows cells)
 |o=>o
theorem Own.frz_foot(n sz:Nat)(rows:List (List D))(w:World)(v:Value)(o:Own):(Own.frz n sz rows o).foot w v=o.foot w v:=by
 cases o<;>rfl
def ae.frz(S:ae)(n sz:Nat)(rows:List (List D)):ae:=
 {tmps:=S.tmps.map λp=>(p.1,H.frz n sz rows p.2),own:=(n,none)::S.own.map λp=>(p.1,p.2.map (Own.frz n sz rows))}
theorem gC{α β:Type}(f:α->β):∀(l:List (Nat×α)) (n:Nat),gt (l.map λp=>(p.1,f p.2)) n=(gt l n).map f
 |[],n=>rfl
 |(k,x)::r,n=>by
  simp only[Uj,ah]
  by_cases h:k=n
  ·simp[h]
  ·rw[XJ h,XJ h];exact gC f r n
theorem aL.frz{E:Env}{M M':Mem}(hM:M.le M'){n sz:Nat}{rows:List (List D)}(hn:∀v,aL E M v (.vh n rows.length)->dd M' v (.sl sz rows)){v:Value}{x:H}(h:aL E M v x):aL E M' v (H.frz n sz rows x):=by
 induction h with
 |d h=>exact .d (h.mono hM)
 |junk v=>exact .junk v
 |bp n off b h=>exact .bp n off b h
 |vh m len l c a h hl=>
  simp only[H.frz]
  split
  ·rename_i hc
   obtain⟨rfl,rfl⟩:=hc
   exact .d (hn _ (.vh m _ l c a h hl))
  ·exact .vh m len l c a h hl
 |ep n sz i off b l c h hi=>exact .ep n sz i off b l c h hi
 |sv n sz i off b l c h hi=>exact .sv n sz i off b l c h hi
 |mp n r h=>exact .mp n r h
 |np0 n=>exact .np0 n
 |np1 n b h=>exact .np1 n b h
 |sd n p h=>exact .sd n p h
 |agg cs l hl h ih=>
  refine aL.mk_agg (by rw[H.frzL_len];exact hl) λi c y hc hy=> ?_
  rw[H.frzL_get]at hy
  cases hz:l[i]? with
  |none=>rw[hz]at hy;cases hy
  |some z=>rw[hz]at hy;simp at hy;subst hy;exact ih i c z hc hz
 |tup cs l hl h ih=>
  refine .tup cs _ (by rw[H.frzL_len];exact hl) λi c y hc hy=> ?_
  rw[H.frzL_get]at hy
  cases hz:l[i]? with
  |none=>rw[hz]at hy;cases hy
  |some z=>rw[hz]at hy;simp at hy;subst hy;exact ih i c z hc hz
 |fn f first captured l l' hl hl' h h' ih ih'=>exact .fn f first captured l l' hl hl' (λi c x hc hx=>(h i c x hc hx).le hM) (λi c x hc hx=>(h' i c x hc hx).le hM)
theorem Ent.freeze{S:ae}{n e sz:Nat}{rows:List (List D)}(hn:S.own? n=some (.vec e sz rows)):Ent S (S.frz n sz rows):=λC E M a w hs=>by
 obtain⟨xs,h1,h2,h3,h4⟩:=hs.own n _ hn
 let M':Mem:=λb k=>match M b k with
  |some v=>some v
  |none=>if aj (E n)=some b/\k<rows.length *sz then xs[k]? else none
 have hM:M.le M':=λb k v hv=>by simp[M',hv]
 have hcell:∀b k v,aj (E n)=some b->xs[k]?=some v->w.cell? ⟨b,k,none⟩=some v:=by
  intro b k v hb hv
  rcases h1.2 with⟨hnil,_⟩|⟨g,cap,cur,hE,_,hg,_,_,_,htake⟩
  ·rw[hnil]at hb;simp[aj]at hb
  ·rw[hE]at hb;simp[aj]at hb;subst hb
   rw[cell_of_row w g k cur e (0,0) hg]
   rw[<-htake,U1]at hv
   split at hv
   ·simpa using hv
   ·cases hv
 have hrep:∀v,aL E M v (.vh n rows.length)->dd M' v (.sl sz rows):=by
  intro v hv
  cases hv with
  |vh n len l c a h hl=>
   rcases h1.2 with⟨hnil,hz⟩|⟨g,cap,cur,hE,_,hg,hnc,_,_,htake⟩
   ·rw[h]at hnil
    simp only[Value.slice.injEq]at hnil
    obtain⟨rfl,rfl,rfl⟩:=hnil
    have hz':rows=[]:=UE hz
    subst hz'
    exact .slnil sz
   ·rw[h]at hE
    simp only[Value.slice.injEq]at hE
    obtain⟨rfl,rfl,rfl⟩:=hE
    refine .sl g 0 _ _ sz rows (λk=>xs.getD k undef) rfl hnc h2 (λk hk=> ?_) λi j r x hr hx=> ?_
    ·have hxk:k<xs.length:=by rw[h1.1];exact hk
     have hMk:M g k=none:=h4 g (by rw[h];rfl) k
     simp only[M',UK,hMk]
     rw[XK ⟨by rw[h];rfl,hk⟩,Ub hxk]
     simp[hxk]
    ·have hlr:=h2 r (Un hr)
     have hir:i<rows.length:=(Uc.1 hr).1
     have hj:j<sz:=by have:=(Uc.1 hx).1;omega
     have hmul:(i+1) *sz<=rows.length *sz:=UL _ hir
     rw[U_]at hmul
     have hxk:i *sz+j<xs.length:=by rw[h1.1];omega
     have:=h3 i j r xs[i *sz+j] x hr hx (Ub hxk)
     have hg':xs.getD (i *sz+j) undef=xs[i *sz+j]:=by simp[hxk]
     rw[hg']
     exact this.mono hM
 have hown:∀m o,(S.frz n sz rows).own? m=some o->m≠n/\∃o0,S.own? m=some o0/\o=Own.frz n sz rows o0:=by
  intro m o ho
  simp only[ae.frz,ae.own?,ah]at ho
  by_cases hm:n=m
  ·rw[XK hm]at ho;simp at ho
  ·rw[XJ hm,gC (λx:Option Own=>x.map (Own.frz n sz rows))]at ho
   refine⟨λe=>hm e.symm,?_⟩
   cases hg:gt S.own m with
   |none=>rw[hg]at ho;simp at ho
   |some oo=>
    rw[hg]at ho
    cases oo with
    |none=>simp at ho
    |some o0=>simp at ho;exact⟨o0,by simp[ae.own?,hg],ho.symm⟩
 have hM'none:∀m o,m≠n->S.own? m=some o->∀b,o.foot w (E m) b->∀k,M' b k=none:=by
  intro m o hm ho b hb k
  have h0:=((hs.own m o ho).block hb).2 k
  simp only[M',h0]
  rw[XJ]
  rintro⟨hb',_⟩
  exact hs.apart m n o _ b hm ho hn hb hb'
 refine⟨E,M',{size:=hs.size,defers:=hs.defers,fixed:=hs.fixed,tmps:= ?_,mem:= ?_,own:= ?_,apart:= ?_,home:= ?_,m0:=Mem.le_trans hs.m0 hM,mnew:= ?_,frame:=hs.frame,grows:=hs.grows,os:=hs.os,tape:=hs.tape,output:=hs.output,env:=hs.env}⟩
 ·intro t x hx
  simp only[ae.frz,gC]at hx
  cases hg:gt S.tmps t with
  |none=>rw[hg]at hx;cases hx
  |some y=>
   rw[hg]at hx;simp at hx;subst hx
   obtain⟨v,hv,hr⟩:=hs.tmps t y hg
   exact⟨v,hv,hr.frz hM hrep⟩
 ·intro b k v hv
  simp only[M']at hv
  cases h0:M b k with
  |some u=>rw[h0]at hv;simp at hv;subst hv;exact hs.mem b k u h0
  |none=>
   rw[h0]at hv
   simp only at hv
   split at hv
   ·rename_i hc;exact hcell b k v hc.1 hv
   ·cases hv
 ·intro m o ho
  obtain⟨hm,o0,ho0,rfl⟩:=hown m o ho
  have hk:=hs.own m o0 ho0
  cases o0 with
  |vec e' sz' rows'=>exact hk.keep rfl (λ_ _=>rfl) (λ_ _=>rfl) hM (hM'none m _ hm ho0)
  |map es=>exact hk.keep rfl (λ_ _=>rfl) (λ_ _=>rfl) hM (hM'none m _ hm ho0)
  |iter s pos=>exact hk.keep rfl (λ_ _=>rfl) (λ_ _=>rfl) hM (hM'none m _ hm ho0)
  |dvec e' sz' rows'=>exact hk.keep rfl (λ_ _=>rfl) (λ_ _=>rfl) hM (hM'none m _ hm ho0)
  |miter m2 es rest cur=>exact hk.keep rfl (λ_ _=>rfl) (λ_ _=>rfl) hM (hM'none m _ hm ho0)
  |box oty cells=>
   obtain⟨b,cs,ty,k1,k2,k3,k4,k5,k6⟩:=hk
   refine⟨b,cs,ty,k1,k2,by rw[H.frzL_len];exact k3,λi c y hc hy=> ?_,hM'none m _ hm ho0 b (by rw[k1];rfl),k6⟩
   rw[H.frzL_get]at hy
   cases hz:cells[i]? with
   |none=>rw[hz]at hy;cases hy
   |some z=>rw[hz]at hy;simp at hy;subst hy;exact(k4 i c z hc hz).frz hM hrep
 ·intro m m' o o' b hne ho ho' hb hb'
  obtain⟨_,o0,h0,e0⟩:=hown m o ho
  obtain⟨_,o1,h1',e1⟩:=hown m' o' ho'
  rw[e0,Own.frz_foot]at hb
  rw[e1,Own.frz_foot]at hb'
  exact hs.apart m m' o0 o1 b hne h0 h1' hb hb'
 ·intro m o b ho hb
  obtain⟨_,o0,h0,e0⟩:=hown m o ho
  rw[e0,Own.frz_foot]at hb
  exact hs.home m o0 b h0 hb
 ·intro b k v hv
  simp only[M']at hv
  cases h0:M b k with
  |some u=>rw[h0]at hv;simp at hv;subst hv;exact hs.mnew b k u h0
  |none=>
   rw[h0]at hv
   simp only at hv
   split at hv
   ·rename_i hc;exact .inr (hs.home n _ b hn hc.1)
   ·cases hv
structure Md {α:Sort _} (a:α):Type where
section
variable {P:Program} {N:Nat->Prop} {nm:Nat->Nat} {all os:List Oper} {S:ae} {tr:List Tr1} {k:ae->Prop} {kt:ae->List Tr1->Prop} {h:Md k} {ht:Md kt}
end
section
variable {P:Program} {N:Nat->Prop} {C:Ctx} {nm:Nat->Nat} {S:ae} {Q:Exit->ae->Prop}
end
end Go.Awp
end
section
namespace Go.Awp
variable [Inhabited GMem]
mutual
def H.ren(f:Nat->Nat):H->H
 | .d x=> .d x
 | .junk=> .junk
 | .bp n o=> .bp (f n) o
 | .vh n l=> .vh (f n) l
 | .ep n s i o=> .ep (f n) s i o
 | .sv n s i o=> .sv (f n) s i o
 | .mp n=> .mp (f n)
 | .np n b=> .np (f n) b
 | .sd n=> .sd (f n)
 | .agg cs=> .agg (H.renL f cs)
 | .tup vs=> .tup (H.renL f vs)
 | .fn g a b=> .fn g (H.renL f a) (H.renL f b)
def H.renL(f:Nat->Nat):List H->List H
 |[]=>[]
 |x::r=>H.ren f x::H.renL f r
end
theorem H.renL_len(f:Nat->Nat):∀l:List H,(H.renL f l).length=l.length
 |[]=>rfl
 |x::r=>by simp[H.renL,H.renL_len f r]
theorem H.renL_get(f:Nat->Nat):∀(l:List H) (i:Nat),(H.renL f l)[i]?=(l[i]?).map (H.ren f)
 |[],i=>by simp[H.renL]
 |x::r,0=>by simp[H.renL]
 |x::r,i+1=>by simpa[H.renL]using H.renL_get f r i
theorem H.has_get{n:Nat}:∀{l:List H} {i:Nat} {x:H},l[i]?=some x->H.has n x=true->H.hasL n l=true:=by
 intro l i x hx hn
 cases hh:H.hasL n l with
 |true=>rfl
 |false=>rw[H.hasL_get hh hx]at hn;cases hn
theorem aL.ren{E E':Env}{M:Mem}{f:Nat->Nat}{v:Value}{x:H}(h:aL E M v x)(hE:∀n,H.has n x=true->E' (f n)=E n):aL E' M v (x.ren f):=by
 induction h with
 |d h=>exact .d h
 |junk v=>exact .junk v
 |bp n off b h=>exact .bp _ off b (by rw[hE n (by simp[H.has])];exact h)
 |vh n len l c a h hl=>exact .vh _ len l c a (by rw[hE n (by simp[H.has])];exact h) hl
 |ep n sz i off b l c h hi=>exact .ep _ sz i off b l c (by rw[hE n (by simp[H.has])];exact h) hi
 |sv n sz i off b l c h hi=>exact .sv _ sz i off b l c (by rw[hE n (by simp[H.has])];exact h) hi
 |mp n r h=>exact .mp _ r (by rw[hE n (by simp[H.has])];exact h)
 |np0 n=>exact .np0 _
 |np1 n b h=>exact .np1 _ b (by rw[hE n (by simp[H.has])];exact h)
 |sd n p h=>exact .sd _ p (by rw[hE n (by simp[H.has])];exact h)
 |agg cs l hl h ih=>
  refine .agg cs _ (by rw[H.renL_len];exact hl) λi c y hc hy=> ?_
  rw[H.renL_get]at hy
  cases hz:l[i]? with
  |none=>rw[hz]at hy;cases hy
  |some z=>rw[hz]at hy;simp at hy;subst hy;exact ih i c z hc hz λn hn=>hE n (H.has_get hz hn)
 |tup cs l hl h ih=>
  refine .tup cs _ (by rw[H.renL_len];exact hl) λi c y hc hy=> ?_
  rw[H.renL_get]at hy
  cases hz:l[i]? with
  |none=>rw[hz]at hy;cases hy
  |some z=>rw[hz]at hy;simp at hy;subst hy;exact ih i c z hc hz λn hn=>hE n (H.has_get hz hn)
 |fn g first captured l l' hl hl' h h' ih ih'=>
  refine .fn g first captured _ _ (by rw[H.renL_len];exact hl) (by rw[H.renL_len];exact hl') (λi c y hc hy=> ?_) (λi c y hc hy=> ?_)
  ·rw[H.renL_get]at hy
   cases hz:l[i]? with
   |none=>rw[hz]at hy;cases hy
   |some z=>rw[hz]at hy;simp at hy;subst hy;exact ih i c z hc hz λn hn=>hE n (by simp[H.has,H.has_get hz hn])
  ·rw[H.renL_get]at hy
   cases hz:l'[i]? with
   |none=>rw[hz]at hy;cases hy
   |some z=>rw[hz]at hy;simp at hy;subst hy;exact ih' i c z hc hz λn hn=>hE n (by simp[H.has,H.has_get hz hn])
theorem aL.unren{E:Env}{M:Mem}{f:Nat->Nat}{v:Value}{x:H}(h:aL E M v x):∀{y:H},x=y.ren f->aL (λn=>E (f n)) M v y:=by
 induction h with
 |d h=>intro y hy;cases y<;>simp only[H.ren,reduceCtorEq]at hy;cases hy;exact .d h
 |junk v=>intro y hy;cases y<;>simp only[H.ren,reduceCtorEq]at hy;exact .junk v
 |bp n off b h=>intro y hy;cases y<;>simp only[H.ren,reduceCtorEq]at hy;cases hy;exact .bp _ _ b h
 |vh n len l c a h hl=>intro y hy;cases y<;>simp only[H.ren,reduceCtorEq]at hy;cases hy;exact .vh _ _ l c a h hl
 |ep n sz i off b l c h hi=>intro y hy;cases y<;>simp only[H.ren,reduceCtorEq]at hy;cases hy;exact .ep _ _ _ _ b l c h hi
 |sv n sz i off b l c h hi=>intro y hy;cases y<;>simp only[H.ren,reduceCtorEq]at hy;cases hy;exact .sv _ _ _ _ b l c h hi
 |mp n r h=>intro y hy;cases y<;>simp only[H.ren,reduceCtorEq]at hy;cases hy;exact .mp _ r h
 |np0 n=>intro y hy;cases y<;>simp only[H.ren,reduceCtorEq]at hy;cases hy;exact .np0 _
 |np1 n b h=>intro y hy;cases y<;>simp only[H.ren,reduceCtorEq]at hy;cases hy;exact .np1 _ b h
 |sd n p h=>intro y hy;cases y<;>simp only[H.ren,reduceCtorEq]at hy;cases hy;exact .sd _ p h
 |agg cs l hl h ih=>
  intro y hy
  cases y<;>simp only[H.ren,reduceCtorEq]at hy
  cases hy
  exact .agg cs _ (by rw[H.renL_len]at hl;exact hl) λi c z hc hz=>ih i c _ hc (by rw[H.renL_get,hz];rfl) rfl
 |tup cs l hl h ih=>
  intro y hy
  cases y<;>simp only[H.ren,reduceCtorEq]at hy
  cases hy
  exact .tup cs _ (by rw[H.renL_len]at hl;exact hl) λi c z hc hz=>ih i c _ hc (by rw[H.renL_get,hz];rfl) rfl
 |fn g first captured l l' hl hl' h h' ih ih'=>
  intro y hy
  cases y<;>simp only[H.ren,reduceCtorEq]at hy
  cases hy
  exact .fn _ first captured _ _ (by rw[H.renL_len]at hl;exact hl) (by rw[H.renL_len]at hl';exact hl') (λi c z hc hz=>ih i c _ hc (by rw[H.renL_get,hz];rfl) rfl)
   (λi c z hc hz=>ih' i c _ hc (by rw[H.renL_get,hz];rfl) rfl)
def Own.ren(f:Nat->Nat):Own->Own
 | .box o cells=> .box o (H.renL f cells)
 | .vec e sz rows=> .vec e sz rows
 | .map es=> .map es
 | .iter s pos=> .iter s pos
 | .dvec e sz rows=> .dvec e sz rows
 | .miter m es rest cur=> .miter (f m) es rest cur
theorem Own.ren_foot(f:Nat->Nat)(w:World)(v:Value)(o:Own):(o.ren f).foot w v=o.foot w v:=by
 cases o<;>rfl
theorem aY.ren{E E':Env}{M:Mem}{w:World}{f:Nat->Nat}{n:Nat}{o:Own}(h:aY E M w n o)(hn:E' (f n)=E n)(hE:∀m,Own.has m o=true->E' (f m)=E m):aY E' M w (f n) (o.ren f):=by
 cases o with
 |box oty cells=>
  obtain⟨b,cs,ty,h1,h2,h3,h4,h5⟩:=h
  refine⟨b,cs,ty,by rw[hn];exact h1,h2,by rw[H.renL_len];exact h3,λi c y hc hy=> ?_,h5⟩
  rw[H.renL_get]at hy
  cases hz:cells[i]? with
  |none=>rw[hz]at hy;cases hy
  |some z=>rw[hz]at hy;simp at hy;subst hy;exact(h4 i c z hc hz).ren λm hm=>hE m (H.has_get hz hm)
 |vec e sz rows=>
  obtain⟨xs,h1,h2,h3,h4⟩:=h
  exact⟨xs,by rw[hn];exact h1,h2,h3,by rw[hn];exact h4⟩
 |map es=>
  obtain⟨b,es',clock,h1,h2⟩:=h
  exact⟨b,es',clock,by rw[hn];exact h1,h2⟩
 |iter s pos=>
  obtain⟨b,h1,h2⟩:=h
  exact⟨b,by rw[hn];exact h1,h2⟩
 |dvec e sz rows=>
  obtain⟨B,h1,h2⟩:=h
  exact⟨B,by rw[hn];exact h1,h2⟩
 |miter m es rest cur=>
  obtain⟨r,b,es',clock,since,seen,last,h1,h2,h3⟩:=h
  exact⟨r,b,es',clock,since,seen,last,by rw[hn];exact h1,by rw[hE m (Wg m)];exact h2,h3⟩
theorem aY.unren{E:Env}{M:Mem}{w:World}{f:Nat->Nat}{n:Nat}{o:Own}(h:aY E M w (f n) (o.ren f)):aY (λn=>E (f n)) M w n o:=by
 cases o with
 |box oty cells=>
  obtain⟨b,cs,ty,h1,h2,h3,h4,h5⟩:=h
  exact⟨b,cs,ty,h1,h2,by rw[H.renL_len]at h3;exact h3,λi c z hc hz=>(h4 i c _ hc (by rw[H.renL_get,hz];rfl)).unren rfl,h5⟩
 |vec e sz rows=>exact h
 |map es=>exact h
 |iter s pos=>exact h
 |dvec e sz rows=>exact h
 |miter m es rest cur=>exact h
def qE(f:Nat->Nat)(own:List (Nat×Own)):List (Nat×Own):=own.map λp=>(f p.1,p.2.ren f)
theorem d6{f:Nat->Nat}(hf:∀a b,f a=f b->a=b):∀(own:List (Nat×Own)) (n:Nat),gt (qE f own) (f n)=(gt own n).map (Own.ren f)
 |[],n=>rfl
 |(k,o)::r,n=>by
  have ih:=d6 hf r n
  simp only[qE,Uj,ah]at ih⊢
  by_cases h:k=n
  ·subst h;simp
  ·rw[XJ h,XJ λe=>h (hf _ _ e)];exact ih
theorem bx{f:Nat->Nat}(hf:∀a b,f a=f b->a=b){own:List (Nat×Own)}{m:Nat}{o:Own}(h:gt (qE f own) m=some o):∃n o',m=f n/\gt own n=some o'/\o=o'.ren f:=by
 have hm:=bc h
 simp only[qE,Uy]at hm
 obtain⟨⟨k,o1⟩,_,he⟩:=hm
 simp only[UC]at he
 obtain⟨rfl,_⟩:=he
 rw[d6 hf]at h
 cases hg:gt own k with
 |none=>rw[hg]at h;cases h
 |some o'=>rw[hg]at h;simp at h;exact⟨k,o',rfl,hg,h.symm⟩
mutual
def H.allN(p:Nat->Bool):H->Bool
 | .d _=>true
 | .junk=>true
 | .bp n _=>p n
 | .vh n _=>p n
 | .ep n _ _ _=>p n
 | .sv n _ _ _=>p n
 | .mp n=>p n
 | .np n _=>p n
 | .sd n=>p n
 | .agg cs=>H.allNL p cs
 | .tup vs=>H.allNL p vs
 | .fn _ a b=>H.allNL p a&&H.allNL p b
def H.allNL(p:Nat->Bool):List H->Bool
 |[]=>true
 |x::r=>H.allN p x&&H.allNL p r
end
mutual
theorem H.allN_has{p:Nat->Bool}{n:Nat}:∀{x:H},H.allN p x=true->H.has n x=true->p n=true
 | .d _,_,h=>by simp[H.has]at h
 | .junk,_,h=>by simp[H.has]at h
 | .bp m _,h,hn=>by simp[H.has,H.allN]at h hn;exact hn▸h
 | .vh m _,h,hn=>by simp[H.has,H.allN]at h hn;exact hn▸h
 | .ep m _ _ _,h,hn=>by simp[H.has,H.allN]at h hn;exact hn▸h
 | .sv m _ _ _,h,hn=>by simp[H.has,H.allN]at h hn;exact hn▸h
 | .mp m,h,hn=>by simp[H.has,H.allN]at h hn;exact hn▸h
 | .np m _,h,hn=>by simp[H.has,H.allN]at h hn;exact hn▸h
 | .sd m,h,hn=>by simp[H.has,H.allN]at h hn;exact hn▸h
 | .agg cs,h,hn=>by rw[H.allN]at h;rw[H.has]at hn;exact H.allNL_has h hn
 | .tup cs,h,hn=>by rw[H.allN]at h;rw[H.has]at hn;exact H.allNL_has h hn
 | .fn _ a b,h,hn=>by
  rw[H.allN,Uk]at h
  rw[H.has,UI]at hn
  rcases hn with hn|hn
  ·exact H.allNL_has h.1 hn
  ·exact H.allNL_has h.2 hn
theorem H.allNL_has{p:Nat->Bool}{n:Nat}:∀{l:List H},H.allNL p l=true->H.hasL n l=true->p n=true
 |[],_,h=>by simp[H.hasL]at h
 |x::r,h,hn=>by
  rw[H.allNL,Uk]at h
  rw[H.hasL,UI]at hn
  rcases hn with hn|hn
  ·exact H.allN_has h.1 hn
  ·exact H.allNL_has h.2 hn
end
def Own.allN(p:Nat->Bool):Own->Bool
 | .box _ cells=>H.allNL p cells
 | .vec .. =>true
 | .map _=>true
 | .iter _ _=>true
 | .dvec .. =>true
 | .miter m _ _ _=>p m
def σf(σ:List (Nat×Nat))(m:Nat):Nat:=match gt σ m with
 |some k=>k
 |none=>m+1000000
def σok:List (Nat×Nat)->Bool
 |[]=>true
 |(_,b)::r=>VA b 1000000&&(r.all λp=> !Vb p.2 b)&&σok r
theorem σok_lt:∀{σ:List (Nat×Nat)},σok σ=true->∀{m k:Nat},gt σ m=some k->k<1000000
 |(a,b)::r,h,m,k,hg=>by
  simp only[σok,Uk]at h
  rw[ah]at hg
  split at hg
  ·simp at hg;subst hg;exact by simpa[VG]using h.1.1
  ·exact σok_lt h.2 hg
theorem σok_inj:∀{σ:List (Nat×Nat)},σok σ=true->∀{m m' k:Nat},gt σ m=some k->gt σ m'=some k->m=m'
 |(a,b)::r,h,m,m',k,hg,hg'=>by
  simp only[σok,Uk,Uo]at h
  have hne:∀x,gt r x≠some b:=λx hx=>by
   have:=h.1.2 _ (bc hx)
   simp at this
  rw[ah]at hg hg'
  split at hg<;>split at hg'
  ·rename_i h1 h2;exact h1.symm.trans h2
  ·simp at hg;subst hg;exact(hne _ hg').elim
  ·simp at hg';subst hg';exact(hne _ hg).elim
  ·exact σok_inj h.2 hg hg'
theorem σf_inj{σ:List (Nat×Nat)}(h:σok σ=true)(a b:Nat)(he:σf σ a=σf σ b):a=b:=by
 unfold σf at he
 cases ha:gt σ a with
 |none=>
  cases hb:gt σ b with
  |none=>rw[ha,hb]at he;simp only[]at he;omega
  |some k=>rw[ha,hb]at he;have:=σok_lt h hb;simp only[]at he;omega
 |some k=>
  cases hb:gt σ b with
  |none=>rw[ha,hb]at he;have:=σok_lt h ha;simp only[]at he;omega
  |some k'=>rw[ha,hb]at he;simp only[]at he;subst he;exact σok_inj h ha hb
def BR(σ:List (Nat×Nat))(own:List (Nat×Own))(r:H)(own':List (Nat×Own)):Bool:=
 σok σ&&own.all (λp=>V7 given p.1)&&own'.all (λp=>V7 given p.1||VA (σf σ p.1) given)&&
  H.allN (λn=>V7 given n||(gt own' n).isSome) r&&own'.all (λp=>Own.allN (λn=>V7 given n||(gt own' n).isSome) p.2)
open Classical in
theorem gr.ren{P:Program}{f:FuncId}{args:List H}{own own':List (Nat×Own)}{r:H}(h:gr P f args own r own')(σ:List (Nat×Nat))(hc:BR σ own r own'=true):
 Ja P f (H.renL (σf σ) args) (qE (σf σ) own) (r.ren (σf σ)) (qE (σf σ) own'):=by
 simp only[BR,Uk,Uo]at hc
 obtain⟨⟨⟨⟨c1,c2⟩,c3⟩,c4⟩,c5⟩:=hc
 have hf:=σf_inj c1
 refine⟨h.1,λE M w vs hgm hm how hvs=> ?_⟩
 refine(h.2 (λn=>E (σf σ n)) M w vs hgm hm ⟨λn o hn=> ?_,λn m o o' b hne hn hm' hb hb2=> ?_⟩ ⟨?_,λi c x hc hx=> ?_⟩).mono ?_
 ·exact(how.ok _ _ (by rw[d6 hf,hn];rfl)).unren
 ·refine how.apart (σf σ n) (σf σ m) (o.ren (σf σ)) (o'.ren (σf σ)) b (λe=>hne (hf _ _ e)) (by rw[d6 hf,hn];rfl) (by rw[d6 hf,hm'];rfl) ?_ ?_
  ·rw[Own.ren_foot];exact hb
  ·rw[Own.ren_foot];exact hb2
 ·rw[hvs.1,H.renL_len]
 ·exact(hvs.2 i c _ hc (by rw[H.renL_get,hx];rfl)).unren rfl
 rintro e w' ⟨v,E2,M2,rfl,hp⟩
 let E':Env:=λn=>if h:∃m,σf σ m=n/\m<given/\gt own' m≠none then E2 (Classical.choose h)else E n
 have hE1:∀m,given<=m\/gt own' m≠none->E' (σf σ m)=E2 m:=by
  intro m hm'
  by_cases hlt:m<given
  ·have hm2:gt own' m≠none:=by rcases hm' with h1|h1;(omega);exact h1
   have hex:∃m',σf σ m'=σf σ m/\m'<given/\gt own' m'≠none:=⟨m,rfl,hlt,hm2⟩
   simp only[E']
   rw[dif_pos hex]
   exact congrArg E2 (hf _ _ (Xo hex).1)
  ·have hex:¬∃m',σf σ m'=σf σ m/\m'<given/\gt own' m'≠none:=by
    rintro⟨m',he,hl,_⟩
    have:=hf _ _ he
    omega
   simp only[E']
   rw[dif_neg hex]
   exact(hp.env m (by omega)).symm
 have hE2:∀n,(¬∃m,σf σ m=n/\m<given/\gt own' m≠none)->E' n=E n:=λn hn=>by simp only[E'];rw[dif_neg hn]
 have hpn:∀n,(V7 given n||(gt own' n).isSome)=true->given<=n\/gt own' n≠none:=by
  intro n hn
  rw[UI]at hn
  rcases hn with hn|hn
  ·exact .inl (Vn hn)
  ·exact .inr λe=>by rw[e]at hn;cases hn
 have hext:∀b,gE (λn=>E (σf σ n)) w own b->gE E w (qE (σf σ) own) b:=by
  rintro b ⟨n,o,hn,hb⟩
  exact⟨σf σ n,o.ren (σf σ),by rw[d6 hf,hn];rfl,by rw[Own.ren_foot];exact hb⟩
 have hblk:∀n o,gt own' n=some o->E' (σf σ n)=E2 n:=λn o hn=>hE1 n (.inr (by rw[hn];simp))
 refine⟨v,E',M2,rfl,{rep:=hp.rep.ren λn hn=>hE1 n (hpn n (H.allN_has c4 hn)),owns:=⟨λn o hn=> ?_,λn m o o' b hne hn hm' hb hb2=> ?_⟩,mle:=hp.mle,mem:=hp.mem,mnew:=λb o v hv=> ?_,home:=λn o b hn hb=> ?_,frame:=λk hk hx=>hp.frame k hk λh1=>hx (hext k h1),grows:=hp.grows,os:=hp.os,tape:=hp.tape,output:=hp.output,env:=λn hn=>hE2 n ?_},λn hn=>hE2 n ?_⟩
 ·obtain⟨m,o1,rfl,hg,rfl⟩:=bx hf hn
  refine(hp.owns.ok m o1 hg).ren (hblk m o1 hg) λk hk=>hE1 k (hpn k ?_)
  have:=c5 _ (bc hg)
  cases o1 with
  |box oty cells=>exact H.allNL_has this hk
  |vec e sz rows=>simp[Own.has]at hk
  |map es=>simp[Own.has]at hk
  |iter s pos=>simp[Own.has]at hk
  |dvec e sz rows=>simp[Own.has]at hk
  |miter m es rest cur=>simp only[Own.has]at hk;exact(US hk)▸this
 ·obtain⟨n1,o1,rfl,hg1,rfl⟩:=bx hf hn
  obtain⟨m1,o2,rfl,hg2,rfl⟩:=bx hf hm'
  rw[hblk n1 o1 hg1,Own.ren_foot]at hb
  rw[hblk m1 o2 hg2,Own.ren_foot]at hb2
  exact hp.owns.apart n1 m1 _ _ b (λe=>hne (by rw[e])) hg1 hg2 hb hb2
 ·rcases hp.mnew b o v hv with h1|h1|h1
  ·exact .inl h1
  ·exact .inr (.inl (hext b h1))
  ·exact .inr (.inr h1)
 ·obtain⟨m,o1,rfl,hg,rfl⟩:=bx hf hn
  rw[hblk m o1 hg,Own.ren_foot]at hb
  rcases hp.home m o1 b hg hb with h1|h1
  ·exact .inl (hext b h1)
  ·exact .inr h1
 ·rintro⟨m,rfl,hl,hne⟩
  cases hg:gt own' m with
  |none=>exact hne hg
  |some o=>
   have:=c3 _ (bc hg)
   simp only[UI]at this
   rcases this with h1|h1
   ·have:=Vn h1;omega
   ·have:σf σ m<given:=by simpa[VG]using h1
    omega
 ·rintro⟨m,rfl,hl,hne⟩
  rcases hn with hn|⟨o,ho⟩
  ·rw[d6 hf]at hn
   cases hg:gt own' m with
   |none=>exact hne hg
   |some o=>rw[hg]at hn;cases hn
  ·obtain⟨n1,o1,he,hg,_⟩:=bx hf ho
   have:=hf _ _ he
   subst this
   have:=Vn (c2 _ (bc hg))
   simp only[]at this
   omega
end Go.Awp
end
section
namespace Go.Awp
variable [Inhabited GMem]
def D.le(a b:D):Prop:=∀(M:Mem) (v:Value),dd M v a->dd M v b
def H.le(a b:H):Prop:=∀(E:Env) (M:Mem) (v:Value),aL E M v a->aL E M v b
theorem D.le.refl(a:D):D.le a a:=λ_ _ h=>h
theorem H.le.refl(a:H):H.le a a:=λ_ _ _ h=>h
theorem H.le.d{a b:D}(h:D.le a b):H.le (.d a) (.d b):=λE M v hv=>by
 cases hv with
 |d hd=>exact .d (h M v hd)
theorem D.le.ern:D.le (.v .nilIface) (.er false):=λM v hv=>by
 cases hv
 exact .ern
theorem D.le.nil(sz:Nat):D.le (.v (.slice none 0 0)) (.sl sz []):=λM v hv=>by
 cases hv with
 |v=>exact .slnil sz
inductive D.Les:List D->List D->Prop
 |nil:D.Les [] []
 |cons {a b:D} {r s:List D} (h:D.le a b) (t:D.Les r s):D.Les (a::r) (b::s)
theorem D.Les.len{a b:List D}(h:D.Les a b):a.length=b.length:=by
 induction h with
 |nil=>rfl
 |cons h t ih=>simp[ih]
theorem D.Les.get{a b:List D}(h:D.Les a b):∀(i:Nat) (y:D),b[i]?=some y->∃x,a[i]?=some x/\D.le x y:=by
 induction h with
 |nil=>intro i y hy;simp at hy
 |cons h t ih=>
  intro i y hy
  cases i with
  |zero=>simp at hy;subst hy;exact⟨_,rfl,h⟩
  |succ i=>exact ih i y (by simpa using hy)
theorem D.Les.refl:∀a:List D,D.Les a a
 |[]=> .nil
 |x::r=> .cons (.refl x) (D.Les.refl r)
theorem D.le.agg{a b:List D}(h:D.Les a b):D.le (.agg a) (.agg b):=λM v hv=>by
 cases hv with
 |agg cs l hl hh=>
  refine .agg cs b (hl.trans h.len) λi c y hc hy=> ?_
  obtain⟨x,hx,hxy⟩:=h.get i y hy
  exact hxy M c (hh i c x hc hx)
inductive D.Rows:List (List D)->List (List D)->Prop
 |nil:D.Rows [] []
 |cons {a b:List D} {r s:List (List D)} (h:D.Les a b) (t:D.Rows r s):D.Rows (a::r) (b::s)
theorem D.Rows.len{a b:List (List D)}(h:D.Rows a b):a.length=b.length:=by
 induction h with
 |nil=>rfl
 |cons h t ih=>simp[ih]
theorem D.Rows.get{a b:List (List D)}(h:D.Rows a b):∀(i:Nat) (y:List D),b[i]?=some y->∃x,a[i]?=some x/\D.Les x y:=by
 induction h with
 |nil=>intro i y hy;simp at hy
 |cons h t ih=>
  intro i y hy
  cases i with
  |zero=>simp at hy;subst hy;exact⟨_,rfl,h⟩
  |succ i=>exact ih i y (by simpa using hy)
theorem D.le.sl{sz:Nat}{a b:List (List D)}(h:D.Rows a b):D.le (.sl sz a) (.sl sz b):=λM v hv=>by
 cases hv with
 |slnil=>cases h;exact .slnil sz
 |slmt a cap=>cases h;exact .slmt a cap sz
 |sl bl off len cap _ _ c hlen hcap hsz hm hh=>
  refine .sl bl off len cap sz b c (hlen.trans h.len) hcap (λr hr=> ?_) hm λi j r y hr hy=> ?_
  ·obtain⟨i,hi,rfl⟩:=Ww hr
   obtain⟨x,hx,hxy⟩:=h.get i _ (Ub hi)
   rw[<-hxy.len];exact hsz x (Un hx)
  ·obtain⟨x,hx,hxy⟩:=h.get i r hr
   obtain⟨z,hz,hzy⟩:=hxy.get j y hy
   exact hzy M _ (hh i j x z hx hz)
theorem gr.weak{P:Program}{f:FuncId}{args args':List H}{own own':List (Nat×Own)}{r:H}(h:gr P f args own r own')(hl:args'.length=args.length)
 (hw:∀(i:Nat) (x' x:H),args'[i]?=some x'->args[i]?=some x->H.le x' x):gr P f args' own r own':=by
 refine⟨h.1,λE M w vs hgm hm ho hv=>h.2 E M w vs hgm hm ho ⟨hv.1.trans hl,λi c x hc hx=> ?_⟩⟩
 have hi:i<args'.length:=by rw[hl];exact(Uc.1 hx).1
 exact hw i _ x (Ub hi) hx E M c (hv.2 i c _ hc (Ub hi))
end Go.Awp
end
section
namespace Go.Awp
variable [Inhabited GMem]
variable {H0:Type} {enc:TypeId×Value->H0} {P:Program} {W:World} {spare:Nat->Bool} {held:Bool} {base:Nat}
def fJ(W:World):Mem:=λb o=>W.cell? ⟨b,o,none⟩
theorem gI{α β:Type}{f:α->Option β}:∀{l:List α} {r:List β},l.mapM f=some r->r.length=l.length/\∀(i:Nat) (x:α),l[i]?=some x->∃y,r[i]?=some y/\f x=some y
 |[],r,h=>by
  simp at h;subst h
  exact⟨rfl,λi x hx=>by simp at hx⟩
 |a::l,r,h=>by
  rw[Xm]at h
  cases ha:f a with
  |none=>rw[ha]at h;cases h
  |some y=>
   rw[ha]at h
   cases hl:l.mapM f with
   |none=>simp[hl]at h
   |some ys=>
    simp[hl]at h
    subst h
    obtain⟨h1,h2⟩:=gI hl
    refine⟨by simp[h1],λi x hx=> ?_⟩
    cases i with
    |zero=>simp at hx;subst hx;exact⟨y,rfl,ha⟩
    |succ i=>exact h2 i x (by simpa using hx)
theorem Ix{t:TypeId}{k:IntKind}(hu:P.underlying t=some (.int k)){fuel:Nat}{cs:List Value}{x:DataW H0×List MemPlace}(h:DataW.trod enc P W base spare held fuel t cs=some x):
 ∃n,cs=[.int k n]/\(Lit.int k n).wf=true:=by
 cases fuel with
 |zero=>cases h
 |succ fuel=>
  unfold DataW.trod at h
  rw[hu]at h
  simp only[]at h
  split at h<;>try(rename_i h1 _;cases h1)
  all_goals try(cases h;done)
  all_goals simp_all
theorem FI{t:TypeId}(hu:P.underlying t=some .bool){fuel:Nat}{cs:List Value}{x:DataW H0×List MemPlace}(h:DataW.trod enc P W base spare held fuel t cs=some x):
 ∃b,cs=[.bool b]:=by
 cases fuel with
 |zero=>cases h
 |succ fuel=>
  unfold DataW.trod at h
  rw[hu]at h
  simp only[]at h
  split at h<;>try(rename_i h1 _;cases h1)
  all_goals try(cases h;done)
  all_goals simp_all
theorem sb{w:World}{b n:Nat}{a:Addr}{row:List Value}(h:w.cells? b a n=some row):row.length=n/\∀j,j<n->w.cell? (a.add j)=row[j]?:=by
 unfold World.cells? at h
 split at h
 ·obtain⟨h1,h2⟩:=gI h
  rw[List.length_range]at h1
  refine⟨h1,λj hj=> ?_⟩
  obtain⟨y,hy,hf⟩:=h2 j j (by rw[VL hj])
  rw[hf,hy]
 ·cases h
theorem Ef{α:Type}{R:Nat->α->Prop}:∀(n:Nat),(∀i,i<n->∃x,R i x)->∃l:List α,l.length=n/\∀(i:Nat) (x:α),l[i]?=some x->R i x
 |0,_=>⟨[],rfl,λi x hx=>by simp at hx⟩
 |n+1,h=>by
  obtain⟨l,h1,h2⟩:=Ef n λi hi=>h i (by omega)
  obtain⟨x,hx⟩:=h n (by omega)
  refine⟨l++[x],by simp[h1],λi y hy=> ?_⟩
  by_cases hi:i<l.length
  ·rw[UA hi]at hy;exact h2 i y hy
  ·rw[Uz (by omega)]at hy
   have:i-l.length=0:=by
    have:=(Uc.1 hy).1
    simp at this;omega
   rw[this]at hy
   simp at hy
   subst hy
   have:i=n:=by omega
   subst this;exact hx
theorem AF{w:World}{a:Addr}{k:Nat}{v:Value}(h:w.cell? (a.add k)=some v)(hk:k=0):a.spot=none:=by
 subst hk
 simp only[Addr.add,XG]at h
 unfold World.cell? at h
 split at h
 ·split at h
  ·cases h
  ·rename_i hs;simpa using hs
 ·cases h
theorem zj(b o k:Nat):(⟨b,o,none⟩:Addr).add k=⟨b,o+k,none⟩:=by
 unfold Addr.add
 split
 ·rename_i h;subst h;rfl
 ·rfl
theorem dd.of_slice{W:World}{b:Nat}{a:Addr}{len cap sz:Nat}(hsz:0<sz)(hc:len<=cap){rows:List (List D)}(hl:rows.length=len)(hr:∀r∈rows,r.length=sz)
 (h:∀i,i<len->∃row,W.cells? b (a.add (i *sz)) sz=some row/\∀r,rows[i]?=some r->∀(j:Nat) (c:Value) (x:D),row[j]?=some c->r[j]?=some x->dd (fJ W) c x):
 dd (fJ W) (.slice (some a) len cap) (.sl sz rows):=by
 by_cases h0:len=0
 ·subst h0
  have:rows=[]:=UE hl
  subst this
  exact .slmt a cap sz
 ·have hspot:a.spot=none:=by
   obtain⟨row,h1,_⟩:=h 0 (by omega)
   rw[WA]at h1
   obtain⟨g1,g2⟩:=sb h1
   have:=g2 0 hsz
   have h3:(a.add 0)=a:=by simp[Addr.add]
   rw[h3]at this
   rw[Ub (by omega)]at this
   exact AF (k:=0) this rfl
  obtain⟨blk,off,spot⟩:=a
  simp only[]at hspot
  subst hspot
  have cell:∀(i j:Nat),i<len->j<sz->∃row c,W.cells? b ((⟨blk,off,none⟩:Addr).add (i *sz)) sz=some row/\row[j]?=some c/\W.cell? ⟨blk,off+(i *sz+j),none⟩=some c/\
   ∀r,rows[i]?=some r->∀(x:D),r[j]?=some x->dd (fJ W) c x:=by
   intro i j hi hj
   obtain⟨row,h1,h2⟩:=h i hi
   obtain⟨g1,g2⟩:=sb h1
   have:=g2 j hj
   rw[zj,zj]at this
   have hrow:row[j]?=some (row[j]'(by omega)):=Ub (by omega)
   rw[hrow,Vh]at this
   exact⟨row,_,h1,hrow,this,λr hr x hx=>h2 r hr j _ x hrow hx⟩
  refine .sl blk off len cap sz rows (λk=>(W.cell? ⟨blk,off+k,none⟩).getD undef) hl.symm hc hr (λk hk=> ?_) λi j r x hr' hx=> ?_
  ·have hi:k/sz<len:=WQ (by rw[WB];exact hk)
   obtain⟨row,c,_,_,h3,_⟩:=cell (k/sz) (k%sz) hi (Xq _ hsz)
   have hdm:k/sz *sz+k%sz=k:=by rw[WB];exact Xj k sz
   rw[hdm]at h3
   simp[fJ,h3]
  ·have hi:i<len:=by rw[<-hl];exact(Uc.1 hr').1
   have hj:j<sz:=by rw[<-hr r (Un hr')];exact(Uc.1 hx).1
   obtain⟨row,c,_,_,h3,h4⟩:=cell i j hi hj
   simp only[h3,VF]
   exact h4 r hr' x hx
theorem gr.closed{f:FuncId}{args:List H}{x:Value}(h:gr P f args [] (.d (.v x)) []){W:World}{vs:Array Value}(hg:GOk (fJ W) W)(hv:eU (λ_=>undef) (fJ W) vs args):
 Calls P f vs W λe W'=>e= .returned x/\Go.RowKit.Below W.heap.size W W':=
 (h.2 (λ_=>undef) (fJ W) W vs hg (λ_ _ _ hm=>hm) ⟨λn o hn=>by simp[gt]at hn,λn m o o' b _ hn=>by simp[gt]at hn⟩ hv).mono λe W' ⟨v,E',M',he,hp⟩=>by
   have hr:=hp.rep
   cases hr with
   |d hd=>cases hd with
    |v=>exact⟨he,hp.os,hp.tape,hp.output,hp.grows,λk hk=>hp.frame k hk λ⟨n,o,hn,_⟩=>by simp[gt]at hn⟩
end Go.Awp
end
section
namespace Go.Proofs.YtpelkenpapfadaaGreatDoor
open Go.Awp
noncomputable def Gc:Mem:=λb o=>
 if b=2 then(if o<256 then some (.int .u8 (Lib.firstT o))else none)
 else if b=3 then(if o<32 then some (.int .u8 (if o%2=0 then Lib.accLo (o/2)else Lib.accHi (o/2)))else none)
 else if b=0 then(if o<20 then some (.int .u64 (Lib.pow10Tab.getD o 0))else none)
 else if b=5 then(if o=15 then some (.int .u8 4)else none)
 else none
noncomputable instance:Inhabited GMem:=⟨{mem:=Gc,errs:=[6,7],whole:=[(0,20)]}⟩
theorem Gd{M:Mem}{w:World}(hg:GOk M w)(hm:∀b o v,M b o=some v->w.cell? ⟨b,o,none⟩=some v):Lib.Utf8Tabs 2 3 w:=by
 have h:=hg.le
 refine⟨λc hc=>hm _ _ _ (h 2 c _ ?_),λi hi=>⟨hm _ _ _ (h 3 (2 *i) _ ?_),hm _ _ _ (h 3 (2 *i+1) _ ?_)⟩⟩
 ·show Gc 2 c=_
  simp[Gc,hc]
 ·show Gc 3 (2 *i)=_
  simp[Gc,show 2 *i<32 by omega]
 ·show Gc 3 (2 *i+1)=_
  have h1:(2 *i+1)%2=1:=by omega
  have h2:(2 *i+1)/2=i:=by omega
  simp[Gc,show 2 *i+1<32 by omega,h1,h2]
theorem gT:Lib.pow10Tab.length=20:=by decide
theorem Gb{M:Mem}{w:World}(hg:GOk M w)(hm:∀b o v,M b o=some v->w.cell? ⟨b,o,none⟩=some v):Lib.TabIs Tryz.prog w "internal/strconv.uint64pow10" .u64 Lib.pow10Tab:=by
 obtain⟨_,cs,t,fr,hw,hs⟩:=hg.whole (0,20) (.head _)
 simp only at hw hs
 have hcell:∀i,i<20->cs[i]?=some (.int .u64 (Lib.pow10Tab.getD i 0)):=by
  intro i hi
  have:=hm 0 i _ (hg.le 0 i (.int .u64 (Lib.pow10Tab.getD i 0)) (by show Gc 0 i=_;simp[Gc,hi]))
  simpa[World.cell?,hw]using this
 unfold Lib.TabIs World.var?
 have hn:Tryz.prog.globalNamed "internal/strconv.uint64pow10" =some 0:=by kernel_rfl
 rw[hn]
 simp only[T0,hw,Ud]
 apply Array.ext_getElem?
 intro i
 by_cases hi:i<20
 ·rw[hcell i hi]
  simp only[Ws,Ue]
  rw[Ub (by rw[gT];exact hi)]
  simp[List.getD,Ub (show i<Lib.pow10Tab.length by rw[gT];exact hi)]
 ·rw[VS (by omega)]
  rw[VS (by simp[gT];omega)]
theorem DY{M:Mem}{w:World}(hg:GOk M w)(hm:∀b o v,M b o=some v->w.cell? ⟨b,o,none⟩=some v):∃t x,w.cell? ⟨6,0,none⟩=some (.iface t x):=
 let⟨t,x,h⟩:=hg.errs 6 (.head _)
 ⟨t,x,hm _ _ _ h⟩
theorem Hw{M:Mem}{w:World}(hg:GOk M w)(hm:∀b o v,M b o=some v->w.cell? ⟨b,o,none⟩=some v):∃t x,w.cell? ⟨7,0,none⟩=some (.iface t x):=
 let⟨t,x,h⟩:=hg.errs 7 (.tail _ (.head _))
 ⟨t,x,hm _ _ _ h⟩
theorem LC{w:World}(h7:w.cell? ⟨5,15,none⟩=some (.int .u8 4))(h:Lib.Utf8Tabs 2 3 w)(h10:Lib.TabIs Tryz.prog w "internal/strconv.uint64pow10" .u64 Lib.pow10Tab):RW.le (fJ w):=by
 intro b o v hv
 change Gc b o=some v at hv
 unfold Gc at hv
 split at hv
 ·rename_i hb;subst hb
  split at hv
  ·rename_i ho;cases hv;exact h.1 o ho
  ·cases hv
 ·split at hv
  ·rename_i hb;subst hb
   split at hv
   ·rename_i ho
    have h2:=h.2 (o/2) (by omega)
    by_cases hm:o%2=0
    ·rw[XK hm]at hv;cases hv
     have:=h2.1
     rwa [show 2 *(o/2)=o by omega]at this
    ·rw[XJ hm]at hv;cases hv
     have:=h2.2
     rwa [show 2 *(o/2)+1=o by omega]at this
   ·cases hv
  ·split at hv
   ·rename_i hb;subst hb
    split at hv
    ·rename_i ho
     cases hv
     exact h10.cell (by kernel_rfl) o (by rw[gT];exact ho)
    ·cases hv
   ·split at hv
    ·rename_i hb;subst hb
     split at hv
     ·rename_i ho;subst ho;cases hv;exact h7
     ·cases hv
    ·cases hv
theorem wK{w w':World}{e:TypeId}(h:w'=w\/∃t,w'=Lib.bytesWorld w e t):Go.RowKit.Below w.heap.size w w':=by
 rcases h with rfl|⟨t,rfl⟩
 ·exact Go.RowKit.Below.refl _ _
 ·exact Lib.bytesWorld_below _ _ _
theorem xV{E:Env}{M:Mem}{k:IntKind}{n:Int}{v:Value}{b:Bool}(h:dd M v (.er b)):aL E M (.tuple #[.int k n,v]) (.tup [.d (.v (.int k n)), .d (.er b)]):=
 .tup _ _ rfl λi c x hc hx=>by
  match i with
  |0=>simp at hc hx;subst hc;subst hx;exact .d (.v _)
  |1=>simp at hc hx;subst hc;subst hx;exact .d h
  |i+2=>simp at hc
end Go.Proofs.YtpelkenpapfadaaGreatDoor
end
section
namespace Go.Proofs
open Go.Shelf
open Go.Proofs.Tryz (prog)
def Tryz.lays156_ren:Go.Shelf.Ren:=⟨λ|156=>69|165=>100|166=>54|169=>56|240=>90|241=>129|276=>115|277=>168|n=>n,λ|31=>24|9=>9|3=>3|4=>4|0=>0|20=>20|72=>83|76=>86|70=>80|37=>81|75=>85|127=>127|164=>152|5=>5|80=>89|n=>n,λ|n=>n⟩
theorem Tryz.lays156:Go.Proofs.Lays.n156 prog Tryz.lays156_ren:={
 mixed:=by kernel_rfl
 f156:=Tryz.func69.trans (congrArg some (by kernel_rfl))
 f165:=Tryz.func100.trans (congrArg some (by kernel_rfl))
 f166:=Tryz.func54.trans (congrArg some (by kernel_rfl))
 f169:=Tryz.func56.trans (congrArg some (by kernel_rfl))
 f240:=Tryz.func90.trans (congrArg some (by kernel_rfl))
 f241:=Tryz.func129.trans (congrArg some (by kernel_rfl))
 f276:=Tryz.func115.trans (congrArg some (by kernel_rfl))
 f277:=Tryz.func168.trans (congrArg some (by kernel_rfl))
 t0:=Tryz.underlying0
 a0:=Tryz.isAgg0
 z0:=Tryz.sizeOf0
 v0:=Tryz.zeroValue0
 t3:=Tryz.underlying3
 a3:=Tryz.isAgg3
 z3:=Tryz.sizeOf3
 v3:=Tryz.zeroValue3
 t4:=Tryz.underlying4
 a4:=Tryz.isAgg4
 z4:=Tryz.sizeOf4
 v4:=Tryz.zeroValue4
 t9:=Tryz.underlying9
 a9:=Tryz.isAgg9
 z9:=Tryz.sizeOf9
 v9:=Tryz.zeroValue9
 t20:=Tryz.underlying20
 a20:=Tryz.isAgg20
 z20:=Tryz.sizeOf20
 v20:=Tryz.zeroValue20
 t31:=Tryz.underlying24
 a31:=Tryz.isAgg24
 z31:=Tryz.sizeOf24
 v31:=Tryz.zeroValue24
 t37:=Tryz.underlying81
 a37:=Tryz.isAgg81
 z37:=Tryz.sizeOf81
 v37:=Tryz.zeroValue81
 t70:=Tryz.underlying80
 a70:=Tryz.isAgg80
 z70:=Tryz.sizeOf80
 v70:=Tryz.zeroValue80
 t72:=Tryz.underlying83
 a72:=Tryz.isAgg83
 z72:=Tryz.sizeOf83
 v72:=Tryz.zeroValue83
 t75:=Tryz.underlying85
 a75:=Tryz.isAgg85
 z75:=Tryz.sizeOf85
 v75:=Tryz.zeroValue85
 t76:=Tryz.underlying86
 a76:=Tryz.isAgg86
 z76:=Tryz.sizeOf86
 v76:=Tryz.zeroValue86
 t127:=Tryz.underlying127
 a127:=Tryz.isAgg127
 z127:=Tryz.sizeOf127
 v127:=Tryz.zeroValue127
 t164:=Tryz.underlying152
 a164:=Tryz.isAgg152
 z164:=Tryz.sizeOf152
 v164:=Tryz.zeroValue152}
theorem Tryz.Builder_Extra_156:Builder.Extra prog Tryz.lays156_ren:={
 sizeBuilder:=by kernel_rfl
 liesBuilder:=by kernel_rfl
 t5:=Tryz.underlying5
 a5:=Tryz.isAgg5
 z5:=Tryz.sizeOf5
 v5:=Tryz.zeroValue5
 infoByte:=by kernel_rfl
 cellsByte:=by kernel_rfl
 sizeByte:=by kernel_rfl
 neB5:=by decide}
open Go.RowKit in
theorem Tryz.strings_Join_none(a:Option Addr)(c:Nat)(sep:ByteArray)(w:World):
 Calls prog 69 #[.slice a 0 c, .string sep] w λe w'=>e= .returned (.string ⟨#[]⟩)/\w'=w:=Any.strings_Join_none Tryz.lays156 Tryz.Builder_Extra_156 a c sep w
open Go.RowKit in
theorem Tryz.strings_Join(bk o c:Nat)(xs:List ByteArray)(sep:ByteArray)(w:World)(hcells:∀(j:Nat) x,xs[j]?=some x->w.cell? ⟨bk,o+j,none⟩=some (.string x))(hbk:bk<w.heap.size)(hN:xs.length<=140737488355328)(hcap:xs.length<=c)(hlen:(Lib.join (xs.map (·.data.toList)) sep.data.toList).length<=140737488355328):
 Calls prog 69 #[.slice (some ⟨bk,o,none⟩) xs.length c, .string sep] w λe w'=>e= .returned (.string ⟨(Lib.join (xs.map (·.data.toList)) sep.data.toList).toArray⟩)/\Below w.heap.size w w':=Any.strings_Join Tryz.lays156 Tryz.Builder_Extra_156 bk o c xs sep w hcells hbk hN hcap hlen
def Tryz.laysM171_ren:Go.Shelf.Ren:=⟨λ|171=>55|243=>91|246=>116|283=>145|284=>146|285=>147|286=>148|129=>173|317=>172|318=>174|319=>175|320=>176|337=>192|338=>193|n=>n,λ|3=>3|9=>9|2=>2|4=>4|171=>170|0=>0|53=>171|37=>81|5=>5|173=>174|212=>189|51=>190|20=>20|213=>191|46=>193|232=>216|233=>217|n=>n,λ|17=>0|18=>4|19=>5|n=>n⟩
theorem Tryz.laysM171:Go.Proofs.LaysM.n171 prog Tryz.laysM171_ren:={
 mixed:=by kernel_rfl
 f129:=Tryz.func173.trans (congrArg some (by kernel_rfl))
 f171:=Tryz.func55.trans (congrArg some (by kernel_rfl))
 f243:=Tryz.func91.trans (congrArg some (by kernel_rfl))
 f246:=Tryz.func116.trans (congrArg some (by kernel_rfl))
 f283:=Tryz.func145.trans (congrArg some (by kernel_rfl))
 f284:=Tryz.func146.trans (congrArg some (by kernel_rfl))
 f285:=Tryz.func147.trans (congrArg some (by kernel_rfl))
 f286:=Tryz.func148.trans (congrArg some (by kernel_rfl))
 f317:=Tryz.func172.trans (congrArg some (by kernel_rfl))
 f318:=Tryz.func174.trans (congrArg some (by kernel_rfl))
 f319:=Tryz.func175.trans (congrArg some (by kernel_rfl))
 f320:=Tryz.func176.trans (congrArg some (by kernel_rfl))
 f337:=Tryz.func192.trans (congrArg some (by kernel_rfl))
 f338:=Tryz.func193.trans (congrArg some (by kernel_rfl))
 t0:=Tryz.underlying0
 a0:=Tryz.isAgg0
 z0:=Tryz.sizeOf0
 v0:=Tryz.zeroValue0
 t2:=Tryz.underlying2
 a2:=Tryz.isAgg2
 z2:=Tryz.sizeOf2
 v2:=Tryz.zeroValue2
 t3:=Tryz.underlying3
 a3:=Tryz.isAgg3
 z3:=Tryz.sizeOf3
 v3:=Tryz.zeroValue3
 t4:=Tryz.underlying4
 a4:=Tryz.isAgg4
 z4:=Tryz.sizeOf4
 v4:=Tryz.zeroValue4
 t5:=Tryz.underlying5
 a5:=Tryz.isAgg5
 z5:=Tryz.sizeOf5
 v5:=Tryz.zeroValue5
 t9:=Tryz.underlying9
 a9:=Tryz.isAgg9
 z9:=Tryz.sizeOf9
 v9:=Tryz.zeroValue9
 t20:=Tryz.underlying20
 a20:=Tryz.isAgg20
 z20:=Tryz.sizeOf20
 v20:=Tryz.zeroValue20
 t37:=Tryz.underlying81
 a37:=Tryz.isAgg81
 z37:=Tryz.sizeOf81
 v37:=Tryz.zeroValue81
 t46:=Tryz.underlying193
 a46:=Tryz.isAgg193
 z46:=Tryz.sizeOf193
 v46:=Tryz.zeroValue193
 t51:=Tryz.underlying190
 a51:=Tryz.isAgg190
 z51:=Tryz.sizeOf190
 v51:=Tryz.zeroValue190
 t53:=Tryz.underlying171
 a53:=Tryz.isAgg171
 z53:=Tryz.sizeOf171
 v53:=Tryz.zeroValue171
 t171:=Tryz.underlying170
 a171:=Tryz.isAgg170
 z171:=Tryz.sizeOf170
 v171:=Tryz.zeroValue170
 t173:=Tryz.underlying174
 a173:=Tryz.isAgg174
 z173:=Tryz.sizeOf174
 v173:=Tryz.zeroValue174
 t212:=Tryz.underlying189
 a212:=Tryz.isAgg189
 z212:=Tryz.sizeOf189
 v212:=Tryz.zeroValue189
 t213:=Tryz.underlying191
 a213:=Tryz.isAgg191
 z213:=Tryz.sizeOf191
 t232:=Tryz.underlying216
 a232:=Tryz.isAgg216
 z232:=Tryz.sizeOf216
 v232:=Tryz.zeroValue216
 t233:=Tryz.underlying217
 a233:=Tryz.isAgg217
 z233:=Tryz.sizeOf217
 v233:=Tryz.zeroValue217
 g17:=by kernel_rfl
 g18:=by kernel_rfl
 g19:=by kernel_rfl
 i0:=by kernel_rfl
 i2:=by kernel_rfl
 i3:=by kernel_rfl
 i4:=by kernel_rfl
 i5:=by kernel_rfl
 i9:=by kernel_rfl
 i20:=by kernel_rfl
 i37:=by kernel_rfl
 i46:=by kernel_rfl
 i51:=by kernel_rfl
 i53:=by kernel_rfl
 i171:=by kernel_rfl
 i173:=by kernel_rfl
 i212:=by kernel_rfl
 i232:=by kernel_rfl
 i233:=by kernel_rfl
 m17:=by kernel_rfl
 m18:=by kernel_rfl
 m19:=by kernel_rfl}
open Go.RowKit Go.Sort Go.Lib in
theorem Tryz.strconv_Itoa(n:Int)(h0: -9223372036854775808<=n)(h1:n<=9223372036854775807)(w:World)(htab:Lib.TabIs prog w "internal/strconv.uint64pow10" .u64 Lib.pow10Tab):
 Calls prog 55 #[.int .i64 n] w λe w'=>e= .returned (.string ⟨(Lib.itoa n).toArray⟩)/\∃k os,w'=grow (w.drewN k) os:=Any.strconv_Itoa Tryz.laysM171 n h0 h1 w htab
def Tryz.laysC172_ren:Go.Shelf.Ren:=⟨λ|172=>170|244=>190|245=>191|247=>197|279=>198|280=>199|281=>200|282=>201|287=>202|316=>203|171=>55|205=>204|321=>205|322=>206|243=>91|246=>116|283=>145|284=>146|285=>147|286=>148|129=>173|317=>172|318=>174|319=>175|320=>176|337=>192|338=>193|n=>n,λ|9=>9|3=>3|75=>85|76=>86|4=>4|5=>5|167=>210|37=>81|0=>0|85=>211|2=>2|168=>213|53=>171|175=>218|46=>193|210=>222|127=>127|145=>227|143=>225|21=>21|171=>170|173=>174|212=>189|51=>190|20=>20|213=>191|232=>216|233=>217|80=>89|n=>n,λ|15=>6|16=>7|17=>0|18=>4|19=>5|n=>n⟩
theorem Tryz.laysC172:Go.Proofs.LaysC.n172 prog Tryz.laysC172_ren:={
 mixed:=by kernel_rfl
 f129:=Tryz.func173.trans (congrArg some (by kernel_rfl))
 f171:=Tryz.func55.trans (congrArg some (by kernel_rfl))
 f172:=Tryz.func170.trans (congrArg some (by kernel_rfl))
 f205:=Tryz.func204.trans (congrArg some (by kernel_rfl))
 f243:=Tryz.func91.trans (congrArg some (by kernel_rfl))
 f244:=Tryz.func190.trans (congrArg some (by kernel_rfl))
 f245:=Tryz.func191.trans (congrArg some (by kernel_rfl))
 f246:=Tryz.func116.trans (congrArg some (by kernel_rfl))
 f247:=Tryz.func197.trans (congrArg some (by kernel_rfl))
 f279:=Tryz.func198.trans (congrArg some (by kernel_rfl))
 f280:=Tryz.func199.trans (congrArg some (by kernel_rfl))
 f281:=Tryz.func200.trans (congrArg some (by kernel_rfl))
 f282:=Tryz.func201.trans (congrArg some (by kernel_rfl))
 f283:=Tryz.func145.trans (congrArg some (by kernel_rfl))
 f284:=Tryz.func146.trans (congrArg some (by kernel_rfl))
 f285:=Tryz.func147.trans (congrArg some (by kernel_rfl))
 f286:=Tryz.func148.trans (congrArg some (by kernel_rfl))
 f287:=Tryz.func202.trans (congrArg some (by kernel_rfl))
 f316:=Tryz.func203.trans (congrArg some (by kernel_rfl))
 f317:=Tryz.func172.trans (congrArg some (by kernel_rfl))
 f318:=Tryz.func174.trans (congrArg some (by kernel_rfl))
 f319:=Tryz.func175.trans (congrArg some (by kernel_rfl))
 f320:=Tryz.func176.trans (congrArg some (by kernel_rfl))
 f321:=Tryz.func205.trans (congrArg some (by kernel_rfl))
 f322:=Tryz.func206.trans (congrArg some (by kernel_rfl))
 f337:=Tryz.func192.trans (congrArg some (by kernel_rfl))
 f338:=Tryz.func193.trans (congrArg some (by kernel_rfl))
 t0:=Tryz.underlying0
 a0:=Tryz.isAgg0
 z0:=Tryz.sizeOf0
 v0:=Tryz.zeroValue0
 t2:=Tryz.underlying2
 a2:=Tryz.isAgg2
 z2:=Tryz.sizeOf2
 v2:=Tryz.zeroValue2
 t3:=Tryz.underlying3
 a3:=Tryz.isAgg3
 z3:=Tryz.sizeOf3
 v3:=Tryz.zeroValue3
 t4:=Tryz.underlying4
 a4:=Tryz.isAgg4
 z4:=Tryz.sizeOf4
 v4:=Tryz.zeroValue4
 t5:=Tryz.underlying5
 a5:=Tryz.isAgg5
 z5:=Tryz.sizeOf5
 v5:=Tryz.zeroValue5
 t9:=Tryz.underlying9
 a9:=Tryz.isAgg9
 z9:=Tryz.sizeOf9
 v9:=Tryz.zeroValue9
 t20:=Tryz.underlying20
 a20:=Tryz.isAgg20
 z20:=Tryz.sizeOf20
 v20:=Tryz.zeroValue20
 t21:=Tryz.underlying21
 a21:=Tryz.isAgg21
 z21:=Tryz.sizeOf21
 v21:=Tryz.zeroValue21
 t37:=Tryz.underlying81
 a37:=Tryz.isAgg81
 z37:=Tryz.sizeOf81
 v37:=Tryz.zeroValue81
 t46:=Tryz.underlying193
 a46:=Tryz.isAgg193
 z46:=Tryz.sizeOf193
 v46:=Tryz.zeroValue193
 t51:=Tryz.underlying190
 a51:=Tryz.isAgg190
 z51:=Tryz.sizeOf190
 v51:=Tryz.zeroValue190
 t53:=Tryz.underlying171
 a53:=Tryz.isAgg171
 z53:=Tryz.sizeOf171
 v53:=Tryz.zeroValue171
 t75:=Tryz.underlying85
 a75:=Tryz.isAgg85
 z75:=Tryz.sizeOf85
 v75:=Tryz.zeroValue85
 t76:=Tryz.underlying86
 a76:=Tryz.isAgg86
 z76:=Tryz.sizeOf86
 v76:=Tryz.zeroValue86
 t85:=Tryz.underlying211
 a85:=Tryz.isAgg211
 z85:=Tryz.sizeOf211
 v85:=Tryz.zeroValue211
 t127:=Tryz.underlying127
 a127:=Tryz.isAgg127
 z127:=Tryz.sizeOf127
 v127:=Tryz.zeroValue127
 t143:=Tryz.underlying225
 a143:=Tryz.isAgg225
 z143:=Tryz.sizeOf225
 v143:=Tryz.zeroValue225
 t145:=Tryz.underlying227
 a145:=Tryz.isAgg227
 z145:=Tryz.sizeOf227
 v145:=Tryz.zeroValue227
 t167:=Tryz.underlying210
 a167:=Tryz.isAgg210
 z167:=Tryz.sizeOf210
 v167:=Tryz.zeroValue210
 t168:=Tryz.underlying213
 a168:=Tryz.isAgg213
 z168:=Tryz.sizeOf213
 v168:=Tryz.zeroValue213
 t171:=Tryz.underlying170
 a171:=Tryz.isAgg170
 z171:=Tryz.sizeOf170
 v171:=Tryz.zeroValue170
 t173:=Tryz.underlying174
 a173:=Tryz.isAgg174
 z173:=Tryz.sizeOf174
 v173:=Tryz.zeroValue174
 t175:=Tryz.underlying218
 a175:=Tryz.isAgg218
 z175:=Tryz.sizeOf218
 v175:=Tryz.zeroValue218
 t210:=Tryz.underlying222
 a210:=Tryz.isAgg222
 z210:=Tryz.sizeOf222
 v210:=Tryz.zeroValue222
 t212:=Tryz.underlying189
 a212:=Tryz.isAgg189
 z212:=Tryz.sizeOf189
 v212:=Tryz.zeroValue189
 t213:=Tryz.underlying191
 a213:=Tryz.isAgg191
 z213:=Tryz.sizeOf191
 t232:=Tryz.underlying216
 a232:=Tryz.isAgg216
 z232:=Tryz.sizeOf216
 v232:=Tryz.zeroValue216
 t233:=Tryz.underlying217
 a233:=Tryz.isAgg217
 z233:=Tryz.sizeOf217
 v233:=Tryz.zeroValue217
 g15:=by kernel_rfl
 g16:=by kernel_rfl
 g17:=by kernel_rfl
 g18:=by kernel_rfl
 g19:=by kernel_rfl
 t80:=Tryz.underlying89
 a80:=Tryz.isAgg89
 z80:=Tryz.sizeOf89
 v80:=Tryz.zeroValue89
 i0:=by kernel_rfl
 i2:=by kernel_rfl
 i3:=by kernel_rfl
 i4:=by kernel_rfl
 i5:=by kernel_rfl
 i9:=by kernel_rfl
 i20:=by kernel_rfl
 i21:=by kernel_rfl
 i37:=by kernel_rfl
 i46:=by kernel_rfl
 i51:=by kernel_rfl
 i53:=by kernel_rfl
 i75:=by kernel_rfl
 i76:=by kernel_rfl
 i80:=by kernel_rfl
 i85:=by kernel_rfl
 i127:=by kernel_rfl
 i143:=by kernel_rfl
 i145:=by kernel_rfl
 i167:=by kernel_rfl
 i168:=by kernel_rfl
 i171:=by kernel_rfl
 i173:=by kernel_rfl
 i175:=by kernel_rfl
 i210:=by kernel_rfl
 i212:=by kernel_rfl
 i232:=by kernel_rfl
 i233:=by kernel_rfl
 m15:=by kernel_rfl
 m16:=by kernel_rfl
 m17:=by kernel_rfl
 m18:=by kernel_rfl
 m19:=by kernel_rfl
 c0:=by kernel_rfl
 c2:=by kernel_rfl
 c3:=by kernel_rfl
 c4:=by kernel_rfl
 c5:=by kernel_rfl
 c9:=by kernel_rfl
 c20:=by kernel_rfl
 c21:=by kernel_rfl
 c37:=by kernel_rfl
 c46:=by kernel_rfl
 c51:=by kernel_rfl
 c53:=by kernel_rfl
 c75:=by kernel_rfl
 c76:=by kernel_rfl
 c80:=by kernel_rfl
 c85:=by kernel_rfl
 c127:=by kernel_rfl
 c143:=by kernel_rfl
 c145:=by kernel_rfl
 c167:=by kernel_rfl
 c168:=by kernel_rfl
 c171:=by kernel_rfl
 c173:=by kernel_rfl
 c175:=by kernel_rfl
 c210:=by kernel_rfl
 c212:=by kernel_rfl
 c213:=by kernel_rfl
 c232:=by kernel_rfl
 c233:=by kernel_rfl}
open Go.RowKit in
theorem Tryz.strconv_Atoi_ok(s:ByteArray)(hmax:s.size<=9223372036854775806)(v:Int)(h:Lib.atoiAll s.data.toList= .ok v)(w:World):
 Calls prog 170 #[.string s] w λe w'=>e= .returned (.tuple #[.int .i64 v, .nilIface])/\(w'=w\/∃t,w'=Lib.bytesWorld w 5 t):=Any.strconv_Atoi_ok Tryz.laysC172 s hmax v h w
open Go.RowKit in
theorem Tryz.strconv_Atoi_syntax(s:ByteArray)(hlim:s.size<=281474976710656)(h:(∀n,Lib.atoiAll s.data.toList≠ .ok n)/\Lib.atoiAll s.data.toList≠ .range)(ev:Value)(w:World)(hv:w.cell? ⟨6,0,none⟩=some ev)(hev:ev= .nilIface\/∃te pe,ev= .iface te pe):
 Calls prog 170 #[.string s] w λe w'=>∃N,e= .returned (.tuple #[.int .i64 (0), .iface 213 (.pointer (some ⟨N,0,none⟩))])/\w.heap.size<=N/\w'.heap[N]?=some (.cells #[.string ⟨#[65,116,111,105]⟩, .string s,ev] 222 (0,0))/\Below w.heap.size w w':=by
 cases hq:Lib.atoiAll s.data.toList with
 |ok n=>exact(h.1 n hq).elim
 |range=>exact(h.2 hq).elim
 |_=>exact Any.strconv_Atoi_syntax Tryz.laysC172 s hlim hq ev w hv hev
open Go.RowKit in
theorem Tryz.strconv_Atoi_range(s:ByteArray)(hlim:s.size<=281474976710656)(h:Lib.atoiAll s.data.toList= .range)(ev:Value)(w:World)(hv:w.cell? ⟨7,0,none⟩=some ev)(hev:ev= .nilIface\/∃te pe,ev= .iface te pe):
 Calls prog 170 #[.string s] w λe w'=>∃N,e= .returned (.tuple #[.int .i64 (Lib.atoiSat s.data.toList), .iface 213 (.pointer (some ⟨N,0,none⟩))])/\w.heap.size<=N/\w'.heap[N]?=some (.cells #[.string ⟨#[65,116,111,105]⟩, .string s,ev] 222 (0,0))/\Below w.heap.size w w':=Any.strconv_Atoi_range Tryz.laysC172 s hlim h ev w hv hev
def Tryz.lays143_ren:Go.Shelf.Ren:=⟨λ|143=>121|219=>153|217=>178|225=>179|224=>180|267=>181|266=>194|314=>195|n=>n,λ|9=>9|3=>3|4=>4|5=>5|46=>193|146=>206|51=>190|n=>n,λ|1=>1|n=>n⟩
theorem Tryz.lays143:Go.Proofs.Lays.n143 prog Tryz.lays143_ren:={
 mixed:=by kernel_rfl
 f143:=Tryz.func121.trans (congrArg some (by kernel_rfl))
 f217:=Tryz.func178.trans (congrArg some (by kernel_rfl))
 f219:=Tryz.func153.trans (congrArg some (by kernel_rfl))
 f224:=Tryz.func180.trans (congrArg some (by kernel_rfl))
 f225:=Tryz.func179.trans (congrArg some (by kernel_rfl))
 f266:=Tryz.func194.trans (congrArg some (by kernel_rfl))
 f267:=Tryz.func181.trans (congrArg some (by kernel_rfl))
 f314:=Tryz.func195.trans (congrArg some (by kernel_rfl))
 t3:=Tryz.underlying3
 a3:=Tryz.isAgg3
 z3:=Tryz.sizeOf3
 v3:=Tryz.zeroValue3
 t4:=Tryz.underlying4
 a4:=Tryz.isAgg4
 z4:=Tryz.sizeOf4
 v4:=Tryz.zeroValue4
 t5:=Tryz.underlying5
 a5:=Tryz.isAgg5
 z5:=Tryz.sizeOf5
 v5:=Tryz.zeroValue5
 t9:=Tryz.underlying9
 a9:=Tryz.isAgg9
 z9:=Tryz.sizeOf9
 v9:=Tryz.zeroValue9
 t46:=Tryz.underlying193
 a46:=Tryz.isAgg193
 z46:=Tryz.sizeOf193
 v46:=Tryz.zeroValue193
 t51:=Tryz.underlying190
 a51:=Tryz.isAgg190
 z51:=Tryz.sizeOf190
 v51:=Tryz.zeroValue190
 t146:=Tryz.underlying206
 a146:=Tryz.isAgg206
 z146:=Tryz.sizeOf206
 v146:=Tryz.zeroValue206
 g1:=by kernel_rfl}
open Go.RowKit Go.Lib in
theorem Tryz.strings_Index_one(s:ByteArray)(c:UInt8)(w:World):
 Calls prog 121 #[.string s, .string ⟨#[c]⟩] w λe w'=>e= .returned (.int .i64 (Lib.indexByte s.data.toList c))/\w'=w:=Any.strings_Index_one Tryz.lays143 s c w
def Tryz.lays138_ren:Go.Shelf.Ren:=⟨λ|138=>120|195=>150|218=>152|143=>121|219=>153|217=>178|225=>179|224=>180|267=>181|266=>194|314=>195|n=>n,λ|9=>9|3=>3|4=>4|5=>5|0=>0|46=>193|146=>206|51=>190|n=>n,λ|1=>1|n=>n⟩
theorem Tryz.lays138:Go.Proofs.Lays.n138 prog Tryz.lays138_ren:={
 mixed:=by kernel_rfl
 f138:=Tryz.func120.trans (congrArg some (by kernel_rfl))
 f143:=Tryz.func121.trans (congrArg some (by kernel_rfl))
 f195:=Tryz.func150.trans (congrArg some (by kernel_rfl))
 f217:=Tryz.func178.trans (congrArg some (by kernel_rfl))
 f218:=Tryz.func152.trans (congrArg some (by kernel_rfl))
 f219:=Tryz.func153.trans (congrArg some (by kernel_rfl))
 f224:=Tryz.func180.trans (congrArg some (by kernel_rfl))
 f225:=Tryz.func179.trans (congrArg some (by kernel_rfl))
 f266:=Tryz.func194.trans (congrArg some (by kernel_rfl))
 f267:=Tryz.func181.trans (congrArg some (by kernel_rfl))
 f314:=Tryz.func195.trans (congrArg some (by kernel_rfl))
 t0:=Tryz.underlying0
 a0:=Tryz.isAgg0
 z0:=Tryz.sizeOf0
 v0:=Tryz.zeroValue0
 t3:=Tryz.underlying3
 a3:=Tryz.isAgg3
 z3:=Tryz.sizeOf3
 v3:=Tryz.zeroValue3
 t4:=Tryz.underlying4
 a4:=Tryz.isAgg4
 z4:=Tryz.sizeOf4
 v4:=Tryz.zeroValue4
 t5:=Tryz.underlying5
 a5:=Tryz.isAgg5
 z5:=Tryz.sizeOf5
 v5:=Tryz.zeroValue5
 t9:=Tryz.underlying9
 a9:=Tryz.isAgg9
 z9:=Tryz.sizeOf9
 v9:=Tryz.zeroValue9
 t46:=Tryz.underlying193
 a46:=Tryz.isAgg193
 z46:=Tryz.sizeOf193
 v46:=Tryz.zeroValue193
 t51:=Tryz.underlying190
 a51:=Tryz.isAgg190
 z51:=Tryz.sizeOf190
 v51:=Tryz.zeroValue190
 t146:=Tryz.underlying206
 a146:=Tryz.isAgg206
 z146:=Tryz.sizeOf206
 v146:=Tryz.zeroValue206
 g1:=by kernel_rfl}
open Go.RowKit Go.Lib in
theorem Tryz.strings_Count_one(s:ByteArray)(c:UInt8)(w:World):
 Calls prog 120 #[.string s, .string ⟨#[c]⟩] w λe w'=>e= .returned (.int .i64 (Lib.countByte s.data.toList c))/\w'=w:=Any.strings_Count_one Tryz.lays138 s c w
def Tryz.lays197_ren:Go.Shelf.Ren:=⟨λ|197=>151|260=>177|n=>n,λ|9=>9|21=>21|3=>3|4=>4|5=>5|105=>178|119=>202|0=>0|46=>193|139=>205|138=>204|n=>n,λ|3=>2|4=>3|n=>n⟩
theorem Tryz.lays197:Go.Proofs.Lays.n197 prog Tryz.lays197_ren:={
 mixed:=by kernel_rfl
 f197:=Tryz.func151.trans (congrArg some (by kernel_rfl))
 f260:=Tryz.func177.trans (congrArg some (by kernel_rfl))
 t0:=Tryz.underlying0
 a0:=Tryz.isAgg0
 z0:=Tryz.sizeOf0
 v0:=Tryz.zeroValue0
 t3:=Tryz.underlying3
 a3:=Tryz.isAgg3
 z3:=Tryz.sizeOf3
 v3:=Tryz.zeroValue3
 t4:=Tryz.underlying4
 a4:=Tryz.isAgg4
 z4:=Tryz.sizeOf4
 v4:=Tryz.zeroValue4
 t5:=Tryz.underlying5
 a5:=Tryz.isAgg5
 z5:=Tryz.sizeOf5
 v5:=Tryz.zeroValue5
 t9:=Tryz.underlying9
 a9:=Tryz.isAgg9
 z9:=Tryz.sizeOf9
 v9:=Tryz.zeroValue9
 t21:=Tryz.underlying21
 a21:=Tryz.isAgg21
 z21:=Tryz.sizeOf21
 v21:=Tryz.zeroValue21
 t46:=Tryz.underlying193
 a46:=Tryz.isAgg193
 z46:=Tryz.sizeOf193
 v46:=Tryz.zeroValue193
 t105:=Tryz.underlying178
 a105:=Tryz.isAgg178
 z105:=Tryz.sizeOf178
 v105:=Tryz.zeroValue178
 t119:=Tryz.underlying202
 a119:=Tryz.isAgg202
 z119:=Tryz.sizeOf202
 t138:=Tryz.underlying204
 a138:=Tryz.isAgg204
 z138:=Tryz.sizeOf204
 v138:=Tryz.zeroValue204
 t139:=Tryz.underlying205
 a139:=Tryz.isAgg205
 z139:=Tryz.sizeOf205
 v139:=Tryz.zeroValue205
 g3:=by kernel_rfl
 g4:=by kernel_rfl}
open Go.RowKit Go.Lib in
theorem Tryz.utf8_DecodeRuneInString(s:ByteArray)(w:World)(hT:Lib.Utf8Tabs 2 3 w):
 Calls prog 151 #[.string s] w λe w'=>e= .returned (.tuple #[.int .i32 (Lib.decodeGo s).1, .int .i64 (Lib.decodeGo s).2])/\Below w.heap.size w w':=Any.utf8_DecodeRuneInString Tryz.lays197 s w hT
end Go.Proofs
end
section
namespace Go.Mp
def get{κ β:Type}(eq:κ->κ->Bool)(x:κ):List (κ×β)->Option β
 |[]=>none
 |p::r=>if eq x p.1=true then some p.2 else get eq x r
def put{κ β:Type}(eq:κ->κ->Bool)(x:κ)(y:β):List (κ×β)->List (κ×β)
 |[]=>[(x,y)]
 |p::r=>if eq x p.1=true then(x,y)::r else p::put eq x y r
def ins{κ β:Type}(lt:κ->κ->Bool)(x:κ)(y:β):List (κ×β)->List (κ×β)
 |[]=>[(x,y)]
 |p::r=>if lt x p.1=true then(x,y)::p::r else p::ins lt x y r
def set{κ β:Type}(eq lt:κ->κ->Bool)(x:κ)(y:β)(l:List (κ×β)):List (κ×β):=if l.any (λp=>eq x p.1)=true then put eq x y l else ins lt x y l
theorem FC{κ β:Type}{eq:κ->κ->Bool}{x:κ}{y:β}:∀{l:List (κ×β)},l.any (λp=>eq x p.1)=false->put eq x y l=l++[(x,y)]
 |[],_=>rfl
 |p::r,h=>by
  rw[Wk,UY]at h
  rw[put,h.1,XJ (by decide),FC h.2];rfl
theorem zC{κ β:Type}{lt:κ->κ->Bool}{x:κ}{y:β}:∀l:List (κ×β),(ins lt x y l).Perm ((x,y)::l)
 |[]=> .refl _
 |p::r=>by
  rw[ins]
  split
  ·exact .refl _
  ·exact((zC r).cons p).trans (.swap _ _ _)
theorem set_perm{κ β:Type}(eq lt:κ->κ->Bool)(x:κ)(y:β)(l:List (κ×β)):(set eq lt x y l).Perm (put eq x y l):=by
 unfold set
 split
 ·exact .refl _
 ·rename_i h
  rw[FC (by simpa using h)]
  exact(zC l).trans (List.perm_append_singleton _ _).symm
def ieq(a b:Int):Bool:=a==b
def beq(a b:Bool):Bool:=a==b
def seq(a b:ByteArray):Bool:=a==b
def ilt(a b:Int):Bool:=decide (a<b)
def blt(a b:Bool):Bool:= !a&&b
def lex:List UInt8->List UInt8->Bool
 |[],[]=>false
 |[],_::_=>true
 |_::_,[]=>false
 |a::r,b::s=>if a.toNat<b.toNat then true else if b.toNat<a.toNat then false else lex r s
def slt(a b:ByteArray):Bool:=lex a.data.toList b.data.toList
end Go.Mp
namespace Go.Tx
open Go.Awp
variable [Inhabited GMem]
inductive Ty (ι:Type)where
 |int (k:IntKind)
 |bool
 |str
 |st (i:ι)
 |sl (e:Ty ι)
 |mp (k v:Ty ι)
 |er
 /-- a pointer to what nobody writes, or nil -/
 |op (e:Ty ι)
 /-- a function that captures nothing -/
 |fnc
 deriving DecidableEq
@[reducible] def den {ι:Type} (N:ι->Type):Ty ι->Type
 | .int _=>Int
 | .bool=>Bool
 | .str=>ByteArray
 | .st i=>N i
 | .sl e=>List (den N e)
 | .mp k v=>List (den N k×den N v)
 | .er=>Bool
 | .op e=>Option (den N e)
 | .fnc=>Nat
structure dm {ι:Type} (N:ι->Type)where
 t:Ty ι
 x:den N t
section
variable {ι:Type} {N:ι->Type} (sz:ι->Nat) (enc:(i:ι)->N i->List D)
def tsz:Ty ι->Nat
 | .st i=>sz i
 |_=>1
def opD:Option (List D)->D
 |none=> .v (.pointer none)
 |some c=> .rp c
theorem Lo(x:Option (List D)):(opD x).one=true:=by cases x<;>rfl
def dc:(t:Ty ι)->den N t->List D
 | .int k,n=>[.v (.int k n)]
 | .bool,b=>[.v (.bool b)]
 | .str,s=>[.v (.string s)]
 | .st i,x=>enc i x
 | .sl e,xs=>[.sl (tsz sz e) (xs.map λx=>dc e x)]
 | .mp _ _,_=>[.v (.map none)]
 | .er,b=>[.er b]
 | .op e,x=>[opD (x.map λy=>dc e y)]
 | .fnc,f=>[.v (.func (.func f) #[] #[])]
def aO:(t:Ty ι)->den N t->D
 | .int k,n=> .v (.int k n)
 | .bool,b=> .v (.bool b)
 | .str,s=> .v (.string s)
 | .st i,x=> .agg (enc i x)
 | .sl e,xs=> .sl (tsz sz e) (xs.map λx=>dc sz enc e x)
 | .mp _ _,_=> .v (.map none)
 | .er,b=> .er b
 | .op e,x=>opD (x.map λy=>dc sz enc e y)
 | .fnc,f=> .v (.func (.func f) #[] #[])
end
section
variable {ι:Type} {N:ι->Type} (sz:ι->Nat) (enc:(i:ι)->N i->List D) (tid:Ty ι->Nat) (encd:(i:ι)->N i->List DD)
def cD:(t:Ty ι)->den N t->List DD
 | .st i,x=>encd i x
 | .sl e,xs=>[.sl (tid e) (tsz sz e) (xs.map λx=>cD e x)]
 |t,x=>(dc sz enc t x).map .d
def fE:(t:Ty ι)->den N t->DD
 | .sl e,xs=> .sl (tid e) (tsz sz e) (xs.map λx=>cD sz enc tid encd e x)
 |t,x=> .d (aO sz enc t x)
end
def Ty.isSl{ι:Type}:Ty ι->Bool
 | .sl _=>true
 |_=>false
def j6{ι:Type}{N:ι->Type}:(t:Ty ι)->den N t->Value
 | .int k,n=> .int k n
 | .bool,b=> .bool b
 | .str,s=> .string s
 |_,_=> .map none
def Ty.cell{ι:Type}:Ty ι->Bool
 | .st _=>false
 |_=>true
structure mz where
 ι:Type
 dec:DecidableEq ι
 N:ι->Type
 sz:ι->Nat
 tys:ι->List (Ty ι)
 cells:(i:ι)->N i->List (dm N)
 ofCells:(i:ι)->List (dm N)->Option (N i)
 enc:(i:ι)->N i->List D
 ty:TypeId->Option (Ty ι)
 enc_cells:∀i x,enc i x=(cells i x).map λl=>aO sz enc l.t l.x
 of_cells:∀i ls x,ofCells i ls=some x->cells i x=ls
 len_cells:∀i x,(cells i x).length=sz i
 one_cells:∀i x,∀l∈cells i x,l.t.cell=true
 tid:Ty ι->Nat
 encd:(i:ι)->N i->List DD
 encd_cells:∀i x,encd i x=(cells i x).map λl=>fE sz enc tid encd l.t l.x
 encd_toL:∀i x,DD.toL (encd i x)=some (enc i x)
 flat:ι->Bool
 flat_cells:∀i x,flat i=true->∀l∈cells i x,l.t.isSl=false
instance (V:mz):DecidableEq V.ι:=V.dec
inductive TV {ι:Type} (N:ι->Type)where
 |lf (t:Ty ι) (x:den N t)
 |raw (v:Value)
 |bp (n off:Nat)
 |vh (n:Nat)
 |ep (n sz i off:Nat)
 |sv (n sz i off:Nat)
 |mp (n:Nat)
 |np (n:Nat) (b:Bool)
 |sd (n:Nat)
 |rp (t:Ty ι) (x:den N t) (off:Nat)
 |agg (cs:List (TV N))
 |tup (vs:List (TV N))
 |fn (f:Nat) (a b:List (TV N))
 |junk
inductive TO {ι:Type} (N:ι->Type)where
 |box (o:Option TypeId) (cells:List (TV N))
 /-- a box that holds a struct whole -/
 |bst (i:ι) (x:N i)
 |vec (te:TypeId) (e:Ty ι) (xs:List (den N e))
 /-- a slice whose elements own what they hold -/
 |dvec (te:TypeId) (e:Ty ι) (xs:List (den N e))
 /-- the same, some elements are out -/
 |pvec (te:TypeId) (e:Ty ι) (xs:List (Option (den N e)))
 |map (k v:Ty ι) (es:List (den N k×den N v))
 |iter (s:ByteArray) (p:Int)
 /-- a map through which a loop goes: its name, what it holds, what is left, what came last -/
 |miter (m:Nat) (k v:Ty ι) (es rest:List (den N k×den N v)) (cur:Option (den N k×den N v))
 /-- no longer owned: how long it was -/
 |gone (len:Nat)
structure TS {ι:Type} (N:ι->Type)where
 tmps:List (Nat×TV N)
 own:List (Nat×TO N)
section
variable {ι:Type} {N:ι->Type}
def TS.own?(S:TS N)(n:Nat):Option (TO N):=gt S.own n
def TS.get(S:TS N)(t:Nat):TV N:=(gt S.tmps t).getD .junk
def TO.len:Option (TO N)->Nat
 |some (.vec _ _ xs)=>xs.length
 |some (.dvec _ _ xs)=>xs.length
 |some (.pvec _ _ xs)=>xs.length
 |some (.gone l)=>l
 |_=>0
def TS.len(S:TS N)(n:Nat):Nat:=TO.len (S.own? n)
mutual
def TV.has(n:Nat):TV N->Bool
 | .bp m _=>Vb m n
 | .vh m=>Vb m n
 | .ep m _ _ _=>Vb m n
 | .sv m _ _ _=>Vb m n
 | .mp m=>Vb m n
 | .np m _=>Vb m n
 | .sd m=>Vb m n
 | .agg cs=>TV.hasL n cs
 | .tup vs=>TV.hasL n vs
 | .fn _ a b=>TV.hasL n a||TV.hasL n b
 |_=>false
def TV.hasL(n:Nat):List (TV N)->Bool
 |[]=>false
 |x::r=>TV.has n x||TV.hasL n r
end
def TO.has(n:Nat):TO N->Bool
 | .box _ cells=>TV.hasL n cells
 | .miter m _ _ _ _ _=>Vb m n
 |_=>false
def TS.fresh(S:TS N)(n:Nat):Bool:=
 (S.own? n).isNone&&S.tmps.all (λx=> !TV.has n x.2)&&S.own.all (λx=> !TO.has n x.2)
end
section
variable (V:mz)
def bF:Value->H
 | .agg cs=> .d (.agg (cs.toList.map .v))
 |v=> .d (.v v)
mutual
def an(ω:Nat->Nat):TV V.N->H
 | .lf t x=> .d (aO V.sz V.enc t x)
 | .raw v=>bF v
 | .bp n off=> .bp n off
 | .vh n=> .vh n (ω n)
 | .ep n s i off=> .ep n s i off
 | .sv n s i off=> .sv n s i off
 | .mp n=> .mp n
 | .np n b=> .np n b
 | .sd n=> .sd n
 | .rp t x off=> .d (.rp ((dc V.sz V.enc t x).drop off))
 | .agg cs=>cU (encL ω cs)
 | .tup vs=> .tup (encL ω vs)
 | .fn f a b=> .fn f (encL ω a) (encL ω b)
 | .junk=> .junk
def encL(ω:Nat->Nat):List (TV V.N)->List H
 |[]=>[]
 |x::r=>an ω x::encL ω r
end
def ra(e:Ty V.ι):Option (den V.N e)->List DD
 |some x=>cD V.sz V.enc V.tid V.encd e x
 |none=>U5 (tsz V.sz e) .junk
def bg(ω:Nat->Nat):TO V.N->Option Own
 | .box o cells=>some (.box o (encL V ω cells))
 | .bst i x=>some (.box none ((V.enc i x).map .d))
 | .vec te e xs=>some (.vec te (tsz V.sz e) (xs.map λx=>dc V.sz V.enc e x))
 | .dvec te e xs=>some (.dvec te (tsz V.sz e) (xs.map λx=>cD V.sz V.enc V.tid V.encd e x))
 | .pvec te e xs=>some (.dvec te (tsz V.sz e) (xs.map λx=>ra V e x))
 | .map k v es=>some (.map (es.map λp=>(j6 k p.1,aO V.sz V.enc v p.2)))
 | .iter s p=>some (.iter s p.toNat)
 | .miter m k v es rest cur=>some (.miter m (es.map λp=>(j6 k p.1,aO V.sz V.enc v p.2)) (rest.map λp=>(j6 k p.1,aO V.sz V.enc v p.2)) (cur.map λp=>(j6 k p.1,aO V.sz V.enc v p.2)))
 | .gone _=>none
def aH(S:TS V.N):ae:=
 {tmps:=S.tmps.map λp=>(p.1,an V S.len p.2),own:=S.own.map λp=>(p.1,bg V S.len p.2)}
variable {V}
theorem encL_map(ω:Nat->Nat)(l:List (TV V.N)):encL V ω l=l.map (an V ω):=by
 induction l with
 |nil=>rfl
 |cons x r ih=>simp[encL,ih]
theorem zk{n:Nat}:∀{l:List H} {ds:List D},gk l=some ds->H.hasL n l=false
 |[],_,_=>by simp[H.hasL]
 | .d x::r,ds,h=>by
  simp only[gk]at h
  split at h
  ·rename_i l hl
   simp[H.hasL,H.has,zk hl]
  ·cases h
 | .junk::r,ds,h=>by simp[gk]at h
 | .bp .. ::r,ds,h=>by simp[gk]at h
 | .vh .. ::r,ds,h=>by simp[gk]at h
 | .ep .. ::r,ds,h=>by simp[gk]at h
 | .sv .. ::r,ds,h=>by simp[gk]at h
 | .mp .. ::r,ds,h=>by simp[gk]at h
 | .np .. ::r,ds,h=>by simp[gk]at h
 | .sd .. ::r,ds,h=>by simp[gk]at h
 | .agg .. ::r,ds,h=>by simp[gk]at h
 | .tup .. ::r,ds,h=>by simp[gk]at h
 | .fn .. ::r,ds,h=>by simp[gk]at h
theorem Em(n:Nat)(l:List H):H.has n (cU l)=H.hasL n l:=by
 unfold cU
 split
 ·rename_i ds h;rw[zk h];simp[H.has]
 ·simp[H.has]
theorem A3(n:Nat)(v:Value):H.has n (bF v)=false:=by
 cases v<;>simp[bF,H.has]
mutual
theorem g_(ω:Nat->Nat)(n:Nat):∀v:TV V.N,H.has n (an V ω v)=TV.has n v
 | .lf t x=>by simp[an,H.has,TV.has]
 | .raw v=>by simp[an,TV.has,A3]
 | .bp m off=>by simp[an,H.has,TV.has]
 | .vh m=>by simp[an,H.has,TV.has]
 | .ep m s i off=>by simp[an,H.has,TV.has]
 | .sv m s i off=>by simp[an,H.has,TV.has]
 | .mp m=>by simp[an,H.has,TV.has]
 | .np m b=>by simp[an,H.has,TV.has]
 | .sd m=>by simp[an,H.has,TV.has]
 | .rp t x off=>by simp[an,H.has,TV.has]
 | .agg cs=>by simp only[an,Em,TV.has];exact encL_has ω n cs
 | .tup vs=>by simp only[an,H.has,TV.has];exact encL_has ω n vs
 | .fn f a b=>by simp only[an,H.has,TV.has];rw[encL_has ω n a,encL_has ω n b]
 | .junk=>by simp[an,H.has,TV.has]
theorem encL_has(ω:Nat->Nat)(n:Nat):∀l:List (TV V.N),H.hasL n (encL V ω l)=TV.hasL n l
 |[]=>by simp[encL,H.hasL,TV.hasL]
 |x::r=>by simp only[encL,H.hasL,TV.hasL];rw[g_ ω n x,encL_has ω n r]
end
theorem jE(ω:Nat->Nat)(n:Nat){o:TO V.N}{o':Own}(h:bg V ω o=some o'):Own.has n o'=TO.has n o:=by
 cases o with
 |box oty cells=>simp only[bg,Ud]at h;subst h;simp only[Own.has,TO.has];exact encL_has ω n cells
 |bst i x=>
  simp only[bg,Ud]at h;subst h;simp only[Own.has,TO.has]
  generalize V.enc i x=l
  induction l with
  |nil=>simp[H.hasL]
  |cons y r ih=>simpa[H.hasL,H.has]using ih
 |vec te e xs=>simp only[bg,Ud]at h;subst h;simp[Own.has,TO.has]
 |dvec te e xs=>simp only[bg,Ud]at h;subst h;simp[Own.has,TO.has]
 |pvec te e xs=>simp only[bg,Ud]at h;subst h;simp[Own.has,TO.has]
 |map k v es=>simp only[bg,Ud]at h;subst h;simp[Own.has,TO.has]
 |iter s p=>simp only[bg,Ud]at h;subst h;simp[Own.has,TO.has]
 |miter m k v es rest cur=>simp only[bg,Ud]at h;subst h;simp[Own.has,TO.has]
 |gone l=>simp[bg]at h
theorem aM(S:TS V.N)(n:Nat):(aH V S).own? n=(S.own? n).bind (bg V S.len):=by
 unfold ae.own? TS.own? aH
 simp only[gC]
 cases gt S.own n with
 |none=>rfl
 |some x=>rfl
theorem Ho(S:TS V.N)(t:Nat):(aH V S).get t=an V S.len (S.get t):=by
 unfold ae.get TS.get aH
 simp only[gC]
 cases gt S.tmps t with
 |none=>simp[an]
 |some x=>rfl
theorem cI(S:TS V.N)(t:Nat):gt (aH V S).tmps t=(gt S.tmps t).map (an V S.len):=by
 unfold aH
 simp only[gC]
theorem eo{S:TS V.N}{n:Nat}(h:S.fresh n=true):(aH V S).fresh n=true:=by
 unfold TS.fresh at h
 unfold ae.fresh
 rw[aM]
 simp only[Uk]at h⊢
 obtain⟨⟨h1,h2⟩,h3⟩:=h
 refine⟨⟨?_,?_⟩,?_⟩
 ·cases hq:S.own? n with
  |none=>rfl
  |some o=>rw[hq]at h1;cases h1
 ·unfold aH
  simp only[VJ]
  rw[Uo]at h2⊢
  intro x hx
  have:=h2 x hx
  simpa[g_]using this
 ·unfold aH
  simp only[VJ]
  rw[Uo]at h3⊢
  intro x hx
  have:=h3 x hx
  simp only[W4]
  cases hq:bg V S.len x.2 with
  |none=>rfl
  |some o=>simp only[jE S.len n hq];exact this
mutual
theorem mM{ω ω':Nat->Nat}:∀v:TV V.N,(∀n,TV.has n v=true->ω' n=ω n)->an V ω' v=an V ω v
 | .lf t x,_=>by simp[an]
 | .raw v,_=>by simp[an]
 | .bp m off,_=>by simp[an]
 | .vh m,h=>by simp[an,h m (by simp[TV.has])]
 | .ep m s i off,_=>by simp[an]
 | .sv m s i off,_=>by simp[an]
 | .mp m,_=>by simp[an]
 | .np m b,_=>by simp[an]
 | .sd m,_=>by simp[an]
 | .rp t x off,_=>by simp[an]
 | .agg cs,h=>by simp only[an];rw[encL_congr cs λn hn=>h n (by simpa[TV.has]using hn)]
 | .tup vs,h=>by simp only[an];rw[encL_congr vs λn hn=>h n (by simpa[TV.has]using hn)]
 | .fn f a b,h=>by simp only[an];rw[encL_congr a λn hn=>h n (by simp[TV.has,hn]),encL_congr b λn hn=>h n (by simp[TV.has,hn])]
 | .junk,_=>by simp[an]
theorem encL_congr{ω ω':Nat->Nat}:∀l:List (TV V.N),(∀n,TV.hasL n l=true->ω' n=ω n)->encL V ω' l=encL V ω l
 |[],_=>rfl
 |x::r,h=>by
  simp only[encL]
  rw[mM x λn hn=>h n (by simp[TV.hasL,hn]),encL_congr r λn hn=>h n (by simp[TV.hasL,hn])]
end
theorem A2{ω ω':Nat->Nat}(o:TO V.N)(h:∀n,TO.has n o=true->ω' n=ω n):bg V ω' o=bg V ω o:=by
 cases o with
 |box oty cells=>simp only[bg];rw[encL_congr cells h]
 |bst i x=>rfl
 |vec te e xs=>rfl
 |dvec te e xs=>rfl
 |pvec te e xs=>rfl
 |map k v es=>rfl
 |iter s p=>rfl
 |miter m k v es rest cur=>rfl
 |gone l=>rfl
end
end Go.Tx
end
section
namespace Go.Tx
open Go.Awp
variable [Inhabited GMem]
structure TE {ι:Type} (N:ι->Type)where
 val:TV N
 acc:List Nat:=[]
 upd:List (Nat×TO N):=[]
 new:List Nat:=[]
section
variable {ι:Type} {N:ι->Type}
def tvc:Value->TV N
 | .int k n=> .lf (.int k) n
 | .bool b=> .lf .bool b
 | .string s=> .lf .str s
 |v=> .raw v
def D6:Operand->Bool
 | .const .nilIface=>true
 |_=>false
def tev(S:TS N):Operand->TV N
 | .tmp t=>S.get t
 | .const v=>tvc v
 | .global g=> .raw (.pointer (some ⟨g,0,none⟩))
 | .func f=> .fn f [] []
def fnT:TV N->TV N
 | .fn f [] []=> .lf .fnc f
 |v=>v
def TV.one:TV N->Bool
 | .lf t _=>t.cell
 | .raw v=>d7 v&&v.oneCell'
 | .bp .. =>true
 | .vh .. =>true
 | .ep .. =>true
 | .sv .. =>true
 | .mp .. =>true
 | .np .. =>true
 | .sd .. =>true
 | .rp .. =>true
 | .fn .. =>true
 |_=>false
def OT(dst:Option Tmp)(x:TV N)(l:List (Nat×TV N)):List (Nat×TV N):=match dst with|some d=>(d,x)::l|none=>l
def TS.app(S:TS N)(dst:Option Tmp)(e:TE N):TS N:={tmps:=OT dst e.val S.tmps,own:=e.upd++S.own}
end
section
variable (V:mz)
def nF(ex:Bool)(t:Ty V.ι):TV V.N->Option (dm V.N)
 | .lf t' x=>some ⟨t',x⟩
 | .raw v=>match ex with
  |true=>none
  |false=>match v,t with
   | .slice none 0 0, .sl e=>some ⟨.sl e,[]⟩
   | .nilIface, .er=>some ⟨.er,false⟩
   |_,_=>none
 |_=>none
def cJ(ex:Bool):List (Ty V.ι)->List (TV V.N)->Option (List (dm V.N))
 |[],[]=>some []
 |t::ts,x::xs=>match nF V ex t x,cJ ex ts xs with
  |some l,some ls=>some (l::ls)
  |_,_=>none
 |_,_=>none
def Hd:Option (TO V.N)->Option (List (TV V.N))
 |some (.box _ cells)=>some cells
 |some (.bst i x)=>some ((V.cells i x).map λl=> .lf l.t l.x)
 |_=>none
def Ai(ag:Bool)(off sz:Nat)(ot:Option (Ty V.ι)):Option (TO V.N)->Option (TV V.N)
 |some (.bst i x)=>if ag=true/\off=0/\sz=V.sz i/\ot=some (.st i)then some (.lf (.st i) x)else none
 |_=>none
def Dh(v:TV V.N)(cs:List (TV V.N)):TO V.N:=match v with
 | .lf (.st i) x=> .bst i x
 |_=> .box none cs
def O2:Option (TO V.N)->Option TypeId
 |some (.box o _)=>o
 |_=>none
def Iv(o:Option TypeId)(v:TV V.N)(cs:List (TV V.N)):TO V.N:=match o with
 |none=>Dh V v cs
 |some t=> .box (some t) cs
def mkV(ex:Bool)(ot:Option (Ty V.ι))(cs:List (TV V.N)):TV V.N:=match ot with
 |some (.st i)=>match cJ V ex (V.tys i) cs with
  |some ls=>match V.ofCells i ls with
   |some x=> .lf (.st i) x
   |none=> .agg cs
  |none=> .agg cs
 |_=> .agg cs
def HA(t:TypeId):List (TV V.N)->Option TypeId
 | .raw (.pointer none):: .raw (.slice none 0 0)::_=>some t
 |_=>none
def aK:(t:Ty V.ι)->den V.N t->List (dm V.N)
 | .st i,x=>V.cells i x
 |t,x=>[⟨t,x⟩]
def TV.cells:TV V.N->Option (List (TV V.N))
 | .lf t x=>some ((aK V t x).map λl=> .lf l.t l.x)
 | .raw v=>if d7 v then some [.raw v]else none
 | .agg cs=>some cs
 | .tup _=>none
 | .junk=>none
 |v=>some [v]
def dV(ex:Bool):(e:Ty V.ι)->List (TV V.N)->Option (den V.N e)
 | .st i,cs=>match cJ V ex (V.tys i) cs with
  |some ls=>V.ofCells i ls
  |none=>none
 |t,[x]=>match nF V ex t x with
  |some l=>if h:l.t=t then some (h▸l.x)else none
  |none=>none
 |_,_=>none
def mq:(e:Ty V.ι)->List (dm V.N)->Option (den V.N e)
 | .st i,ls=>V.ofCells i ls
 |t,[l]=>if h:l.t=t then some (h▸l.x)else none
 |_,_=>none
def Bl(ex:Bool)(ag:Bool)(sz:Nat)(ot:Option (Ty V.ι))(cells:List (TV V.N)):Option (TV V.N):=match ag with
 |true=>if sz<=cells.length then some (mkV V ex ot (cells.take sz))else none
 |false=>cells.head?
def Bj(ag:Bool)(sz:Nat)(ot:Option (Ty V.ι))(t:Ty V.ι)(x:den V.N t)(off:Nat):Option (TV V.N):=match ag with
 |true=>if off=0/\ot=some t/\t.cell=false/\sz=tsz V.sz t then some (.lf t x)else match ot with
  |some (.st i)=>if off+sz<=(aK V t x).length then match V.ofCells i (((aK V t x).drop off).take sz)with
   |some y=>some (.lf (.st i) y)
   |none=>none
   else none
  |_=>none
 |false=>match((aK V t x).drop off).head? with
  |some l=>some (.lf l.t l.x)
  |none=>none
def DT(pl:List (Nat×Nat)):List (TV V.N)->List (Nat×TV V.N)->Option (List (TV V.N))
 |cells,[]=>some cells
 |cells,(i,x)::r=>match pl[i]?,TV.cells V x with
  |some (off,sz),some cs=>if cs.length=sz/\off+sz<=cells.length then DT pl (cells.take off++cs++cells.drop (off+cs.length)) r else none
  |_,_=>none
def KA(ex:Bool)(e:Ty V.ι)(x:TV V.N):Option (den V.N e):=match x with
 | .lf t y=>if h:t=e then some (h▸y)else none
 |x=>match TV.cells V x with
  |some cs=>dV V ex e cs
  |none=>none
def PW(nm:Nat->Nat):Option Tmp->Bool
 |some d=> !(Vb (nm d) d)
 |none=>false
def FL(ex:Bool)(e:Ty V.ι):Nat->List (Nat×TV V.N)->Option (List (den V.N e))
 |_,[]=>some []
 |i,(j,x)::r=>if i=j then match KA V ex e x,FL ex e (i+1) r with
   |some y,some ys=>some (y::ys)
   |_,_=>none
  else none
def keq{ι:Type}{N:ι->Type}:(t:Ty ι)->den N t->den N t->Bool
 | .int _=>Mp.ieq
 | .bool=>Mp.beq
 | .str=>Mp.seq
 |_=>λ_ _=>false
def klt{ι:Type}{N:ι->Type}:(t:Ty ι)->den N t->den N t->Bool
 | .int _=>Mp.ilt
 | .bool=>Mp.blt
 | .str=>Mp.slt
 |_=>λ_ _=>false
def gF{ι:Type}:Option TypeDesc->Ty ι->Bool
 |some (.int k), .int k'=>decide (k=k')
 |some .string, .str=>true
 |some .bool, .bool=>true
 |_,_=>false
def nT:List D->Option (List Value)
 |[]=>some []
 | .v x::r=>match nT r with
  |some l=>some (x::l)
  |none=>none
 |_::_=>none
def ofZ(ex:Bool):(t:Ty V.ι)->D->Option (den V.N t)
 | .int k, .v (.int k' n)=>if k=k' then some n else none
 | .bool, .v (.bool b)=>some b
 | .str, .v (.string s)=>some s
 | .sl _, .v (.slice none 0 0)=>match ex with
  |true=>none
  |false=>some []
 | .st i, .agg ds=>match nT ds with
  |some z=>if z.all d7=true then dV V ex (.st i) (z.map tvc)else none
  |none=>none
 |_,_=>none
def Ni(S:TS V.N):Option Operand->Bool
 |none=>true
 |some x=>match tev S x with
  | .lf (.int _) _=>true
  |_=>false
def Jg(S:TS V.N):Option Operand->Int->Option Int
 |some l,_=>match tev S l with
  | .lf (.int _) n=>some n
  |_=>none
 |none,n=>some n
def FN:Operand->Operand->Bool
 | .tmp a, .tmp b=>Vb a b
 |_,_=>false
def most:Nat:=4294967296
variable (P:Program) (nm:Nat->Nat)
abbrev bz:=(A:Type)->Nat->List (TV V.N)->TS V.N->(TE V.N->Option A)->Option A
def Nl(P:Program)(t:TypeId):Bool:=match P.underlying t with
 |some .string=>true
 |_=>false
def D8(P:Program)(t e:TypeId):Bool:=match P.underlying t with
 |some (.pointer e')=>Vb e' e
 |_=>false
def J2(P:Program)(t:TypeId):Bool:=match rj P t with
 |some (.v (.int .u8 n))=>n==0
 |_=>false
def Ad{A:Type}(b:Builtin)(rt:TypeId)(args:List (TV V.N))(tys:List TypeId)(dst:Option Tmp)(S:TS V.N)(k:TE V.N->Option A):Option A:=match b,args with
 | .len,[.lf (.sl _) xs]=>if de P tys=2 then k {val:= .lf (.int .i64) xs.length}else none
 | .len,[.vh n]=>if de P tys=2 then k {val:= .lf (.int .i64) (S.len n)}else none
 | .len,[.mp n]=>match S.own? n with
  |some (.map _ _ es)=>if de P tys=3 then k {val:= .lf (.int .i64) es.length,acc:=[n]}else none
  |_=>none
 | .len,[.lf .str s]=>if de P tys=1 then k {val:= .lf (.int .i64) s.size}else none
 | .min,[.lf (.int kx) a, .lf (.int _) b]=>k {val:= .lf (.int kx) (min a b)}
 | .max,[.lf (.int kx) a, .lf (.int _) b]=>k {val:= .lf (.int kx) (max a b)}
 | .append,[x, .lf (.sl e') news]=>match dst,tys with
  |some d,[t,t']=>match bT P t with
   |some (te,sz,bytes)=>match x with
    | .vh n=>match S.own? n with
     |some (.vec te2 e xs)=>if h:e'=e then
      if t=t'/\te=te2/\sz=tsz V.sz e/\bytes<=32768/\¬n=nm d then
       if xs.length+news.length<=most then k {val:= .vh (nm d),acc:=[n],upd:=[(nm d, .vec te e (xs++h▸news)),(n, .gone xs.length)],new:=[nm d]}else none
      else none
      else none
     |_=>none
    | .raw (.slice none 0 0)=>if t=t'/\sz=tsz V.sz e'/\bytes<=32768 then
       if news.length<=most then k {val:= .vh (nm d),upd:=[(nm d, .vec te e' news)],new:=[nm d]}else none
      else none
    |_=>none
   |none=>none
  |_,_=>none
 | .append,[x, .lf .str s]=>match dst,tys with
  |some d,[t,t']=>match bT P t with
   |some (te,sz,bytes)=>if Nl P t'=true/\sz=1/\bytes=1/\J2 P te=true then match x with
    | .vh n=>match S.own? n with
     |some (.vec te2 (.int .u8) xs)=>if te=te2/\¬n=nm d then
      if xs.length+s.size<=most then k {val:= .vh (nm d),acc:=[n],upd:=[(nm d, .vec te (.int .u8) (xs++Bs.ints s)),(n, .gone xs.length)],new:=[nm d]}else none
      else none
     |_=>none
    | .raw (.slice none 0 0)=>if s.size<=most then k {val:= .vh (nm d),upd:=[(nm d, .vec te (.int .u8) (Bs.ints s))],new:=[nm d]}else none
    |_=>none
    else none
   |none=>none
  |_,_=>none
 | .unsafeSliceData,[.vh n]=>match S.own? n with
  |some (.vec _ _ _)=>if qM P rt=true then k {val:= .sd n,acc:=[n]}else none
  |_=>none
 | .unsafeString,[.sd n, .lf (.int ki) l]=>match S.own? n,tys with
  |some (.vec te (.int .u8) xs),[pt,_]=>if D8 P pt te=true/\P.cellsOf te=1/\ki= .i64 then
   if l=xs.length/\xs.length<=most then k {val:= .lf .str (Bs.bytes xs),acc:=[n],upd:=[(n, .gone xs.length)]}else none
   else none
  |_,_=>none
 |_,_=>none
def OX{A:Type}(t:TypeId)(x i y:Operand)(S:TS V.N)(k:TE V.N->Option A):Option A:=match P.underlying t,tev S x,tev S i,tev S y with
 |some (.map kt _), .mp n, .lf tk key, .lf tv z=>match S.own? n with
  |some (.map tk' tv' es)=>if h:tk=tk' then
   if h':tv=tv' then
    if gF (P.underlying kt) tk'=true then k {val:= .junk,acc:=[n],upd:=[(n, .map tk' tv' (Mp.set (keq tk') (klt tk') (h▸key) (h'▸z) es))]}else none
   else none
   else none
  |_=>none
 |_,_,_,_=>none
def KJ{ι:Type}:Ty ι->Bool
 | .int _=>true
 | .bool=>true
 | .str=>true
 |_=>false
def steps{α:Type}:List α->List (α×List α)
 |[]=>[]
 |a::r=>(a,r)::(steps r).map λq=>(q.1,a::q.2)
open Classical in
noncomputable def same{A:Type}(l:List A):Option A:=
 if h:∃x,l≠[]/\∀a∈l,a=x then some h.choose else none
theorem vS{A:Type}{l:List A}{x:A}:same l=some x↔l≠[]/\∀a∈l,a=x:=by
 unfold same
 constructor
 ·intro h
  split at h
  ·rename_i hx
   cases h
   exact hx.choose_spec
  ·cases h
 ·intro h
  have hx:∃x,l≠[]/\∀a∈l,a=x:=⟨x,h⟩
  rw[dif_pos hx]
  obtain⟨a,ha⟩:=List.exists_mem_of_ne_nil l h.1
  rw[<-h.2 a ha,<-hx.choose_spec.2 a ha]
noncomputable def Ka{α A:Type}(l:List α)(k:α->Option A):Option A:=W2 k l>>=same
theorem oj{α A:Type}{k:α->Option A}:∀{l:List α} {xs:List A},W2 k l=some xs↔xs.length=l.length/\∀(i:Nat) (a:α),l[i]?=some a->k a=xs[i]?
 |[],xs=>by
  simp only[List.mapM_nil]
  constructor
  ·intro h;cases h;simp
  ·intro h;rw[UE h.1];rfl
 |a::r,xs=>by
  rw[Xm]
  constructor
  ·intro h
   cases hk:k a with
   |none=>rw[hk]at h;cases h
   |some y=>
    rw[hk]at h
    cases hr:W2 k r with
    |none=>rw[hr]at h;cases h
    |some ys=>
     rw[hr]at h
     cases h
     obtain⟨h1,h2⟩:=oj.1 hr
     refine⟨by simp[h1],λi b hb=> ?_⟩
     cases i with
     |zero=>simp at hb;subst hb;simpa using hk
     |succ i=>simpa using h2 i b (by simpa using hb)
  ·intro ⟨h1,h2⟩
   cases xs with
   |nil=>simp at h1
   |cons y ys=>
    have hk:=h2 0 a rfl
    have hr:W2 k r=some ys:=oj.2 ⟨by simpa using h1,λi b hb=>by simpa using h2 (i+1) b (by simpa using hb)⟩
    simp only[Wj]at hk
    rw[hk,hr];rfl
theorem AG{α A:Type}{l:List α}{k:α->Option A}{x:A}:Ka l k=some x↔l≠[]/\∀a∈l,k a=some x:=by
 unfold Ka
 constructor
 ·intro h
  cases hm:W2 k l with
  |none=>rw[hm]at h;cases h
  |some xs=>
   rw[hm]at h
   obtain⟨h1,h2⟩:=oj.1 hm
   obtain⟨h3,h4⟩:=vS.1 h
   refine⟨λe=>h3 (UE (by rw[h1,e];rfl)),λa ha=> ?_⟩
   obtain⟨i,hi⟩:=Wc ha
   rw[h2 i a hi]
   have:i<xs.length:=by rw[h1];exact(Uc.1 hi).1
   rw[Ub this,h4 _ (Vt this)]
 ·intro ⟨h1,h2⟩
  have hm:W2 k l=some (l.map λ_=>x):=oj.2 ⟨by simp,λi a hi=>by rw[h2 a (Un hi),Ue,hi];rfl⟩
  rw[hm]
  exact vS.2 ⟨by simpa using h1,by simp⟩
theorem F_{α:Type}{l:List α}:∀{i:Nat} {a:α},l[i]?=some a->(a,l.eraseIdx i)∈steps l:=by
 induction l with
 |nil=>intro i a h;simp at h
 |cons x r ih=>
  intro i a h
  cases i with
  |zero=>simp at h;subst h;exact Uf
  |succ i=>exact Ua _ (Uy.2 ⟨_,ih (by simpa using h),rfl⟩)
def yB:BinOp->Option Bool
 | .shl=>some true
 | .shr=>some false
 |_=>none
def tx{A:Type}(call:bz V)(ex:Bool)(o:Oper)(S:TS V.N)(k:TE V.N->Option A):Option A:=match o.op with
 | .move x=>k {val:=tev S x}
 | .assign x=>k {val:=tev S x}
 | .pick c x y=>match tev S c with
  | .lf .bool b=>if b=true then k {val:=tev S x}else k {val:=tev S y}
  |_=>none
 | .alloc t=>match qD P t,o.dst with
  |some z,some d=>if z.all d7=true then k {val:= .bp (nm d) 0,upd:=[(nm d, .box (zE t z) (z.map tvc))],new:=[nm d]}else none
  |_,_=>none
 | .box t x=>match TV.cells V (tev S x),o.dst with
  |some cs,some d=>k {val:= .bp (nm d) 0,upd:=[(nm d,Iv V (HA V t cs) (tev S x) cs)],new:=[nm d]}
  |_,_=>none
 | .load t x=>match cj P t with
  |some (ag,sz)=>match tev S x with
   | .bp n off=>match Ai V ag off sz (V.ty t) (S.own? n)with
    |some v=>k {val:=v,acc:=[n]}
    |none=>match Hd V (S.own? n)with
     |some cells=>match Bl V ex ag sz (V.ty t) (cells.drop off)with
      |some v=>k {val:=v,acc:=[n]}
      |none=>none
     |none=>none
   | .ep n s i off=>match S.own? n with
    |some (.vec _ e xs)=>if s=tsz V.sz e then xs[i]?>>=λx=>match Bj V ag sz (V.ty t) e x off with
     |some v=>k {val:=v,acc:=[n]}
     |none=>none
     else none
    |_=>none
   | .rp t' x off=>match Bj V ag sz (V.ty t) t' x off with
    |some v=>k {val:=v}
    |none=>none
   |_=>none
  |none=>none
 | .store t x y=>match cj P t with
  |some (_,sz)=>match tev S x,TV.cells V (tev S y)with
   | .bp n off,some cs=>match Hd V (S.own? n)with
    |some cells=>if cs.length=sz/\cs.all TV.one=true/\off+sz<=cells.length then
     if off=0/\sz=cells.length then k {val:= .junk,acc:=[n],upd:=[(n,Iv V (O2 V (S.own? n)) (tev S y) cs)]}
     else k {val:= .junk,acc:=[n],upd:=[(n, .box (O2 V (S.own? n)) (cells.take off++cs++cells.drop (off+cs.length)))]}
     else none
    |none=>none
   | .ep n s i off,some cs=>match S.own? n with
    |some (.vec te e xs)=>if s=tsz V.sz e/\cs.length=sz/\cs.all TV.one=true/\off+sz<=s then
     xs[i]?>>=λx=>match dV V true e ((((aK V e x).take off).map λl=> .lf l.t l.x)++cs++(((aK V e x).drop (off+cs.length)).map λl=> .lf l.t l.x))with
      |some y=>k {val:= .junk,acc:=[n],upd:=[(n, .vec te e (xs.set i y))]}
      |none=>none
     else none
    |_=>none
   |_,_=>none
  |none=>none
 | .nilCheck x=>match tev S x with
  | .bp n off=>k {val:= .bp n off}
  | .ep n s i off=>k {val:= .ep n s i off}
  | .rp t x off=>k {val:= .rp t x off}
  | .np n b=>if b=true then k {val:= .bp n 0}else none
  |_=>none
 | .binOp op xt x y _=>match tev S x,tev S y with
  | .lf (.int kx) a, .lf (.int ky) b=>match yB op with
   |some true=>if 0<=b then k {val:= .lf (.int kx) (Bs.ishl kx a b)}else none
   |some false=>if 0<=b then k {val:= .lf (.int kx) (Bs.ishr kx a b)}else none
   |none=>if kx=ky then match op with
    | .add=>k {val:= .lf (.int kx) (kx.wrap (a+b))}
    | .sub=>k {val:= .lf (.int kx) (kx.wrap (a-b))}
    | .mul=>k {val:= .lf (.int kx) (kx.wrap (a *b))}
    | .eql=>k {val:= .lf .bool (a==b)}
    | .neq=>k {val:= .lf .bool (a !=b)}
    | .lss=>k {val:= .lf .bool (decide (a<b))}
    | .leq=>k {val:= .lf .bool (decide (a<=b))}
    | .gtr=>k {val:= .lf .bool (decide (a>b))}
    | .geq=>k {val:= .lf .bool (decide (a>=b))}
    | .quo=>if b=0 then none else k {val:= .lf (.int kx) (kx.wrap (a.tdiv b))}
    | .rem=>if b=0 then none else k {val:= .lf (.int kx) (a.tmod b)}
    | .and=>k {val:= .lf (.int kx) (Bs.iand kx a b)}
    | .or=>k {val:= .lf (.int kx) (Bs.ior kx a b)}
    | .xor=>k {val:= .lf (.int kx) (Bs.ixor kx a b)}
    | .andNot=>k {val:= .lf (.int kx) (Bs.iandn kx a b)}
    |_=>none
   else none
  | .lf .bool a, .lf .bool b=>match P.underlying xt,op with
   |some .bool, .eql=>k {val:= .lf .bool (a==b)}
   |some .bool, .neq=>k {val:= .lf .bool (!(a==b))}
   |_,_=>none
  | .lf .str a, .lf .str b=>match op with
   | .eql=>k {val:= .lf .bool (a.toList==b.toList)}
   | .neq=>k {val:= .lf .bool (!(a.toList==b.toList))}
   | .add=>if a.size+b.size<=most then k {val:= .lf .str (a++b)}else none
   |_=>none
  | .raw (.slice a _ _), .raw (.slice none 0 0)=>match isSl P xt,op with
   |true, .eql=>k {val:= .lf .bool a.isNone}
   |true, .neq=>k {val:= .lf .bool (!a.isNone)}
   |_,_=>none
  | .lf (.sl _) (_::_), .raw (.slice none 0 0)=>match isSl P xt,op with
   |true, .eql=>k {val:= .lf .bool false}
   |true, .neq=>k {val:= .lf .bool true}
   |_,_=>none
  | .np _ b, .raw (.pointer none)=>match qM P xt,op with
   |true, .eql=>k {val:= .lf .bool (!b)}
   |true, .neq=>k {val:= .lf .bool b}
   |_,_=>none
  | .lf .er b, .raw .nilIface=>if KI P xt=true/\D6 y=true then match op with
    | .eql=>k {val:= .lf .bool (!b)}
    | .neq=>k {val:= .lf .bool b}
    |_=>none
   else none
  |_,_=>none
 | .makeInterface t _=>match Li P t with
  |true=>k {val:= .lf .er true}
  |false=>none
 | .unOp op _ x=>match op,tev S x with
  | .not, .lf .bool b=>k {val:= .lf .bool (!b)}
  | .neg, .lf (.int ki) n=>k {val:= .lf (.int ki) (ki.wrap (0-n))}
  |_,_=>none
 | .convert s t x=>match P.underlying s,P.underlying t,tev S x with
  |some _,some (.int ki), .lf (.int _) n=>k {val:= .lf (.int ki) (ki.wrap n)}
  |some _,some .string, .lf (.int _) n=>k {val:= .lf .str (Bs.enc1 n)}
  |some .string,some (.slice e), .lf .str x=>match P.underlying e,o.dst with
   |some (.int .i32),some d=>if x.size<=most then k {val:= .vh (nm d),upd:=[(nm d, .vec e (.int .i32) (Bs.runes x))],new:=[nm d]}else none
   |some (.int .u8),_=>k {val:= .lf (.sl (.int .u8)) (Bs.ints x)}
   |_,_=>none
  |some (.slice e),some .string, .lf (.sl (.int ik)) xs=>match P.underlying e,ik with
   |some (.int .i32), .i32=>k {val:= .lf .str (Bs.text xs)}
   |some (.int .u8), .u8=>k {val:= .lf .str (Bs.bytes xs)}
   |_,_=>none
  |some (.slice e),some .string, .raw (.slice none 0 0)=>match P.underlying e with
   |some (.int .i32)=>k {val:= .lf .str VR}
   |some (.int .u8)=>k {val:= .lf .str VR}
   |_=>none
  |_,_,_=>none
 | .build t parts=>match qD P t,places P t with
  |some z,some pl=>if z.all d7=true then match DT V pl (z.map tvc) (parts.toList.map λ(i,x)=>(i,tev S x))with
   |some cs=>match PW nm o.dst with
    |true=>k {val:= .agg cs}
    |false=>k {val:=mkV V ex (V.ty t) cs}
   |none=>none
   else none
  |_,_=>none
 | .buildSlice t len parts=>match bT P t,V.ty t with
  |some (te,sz,_),some (.sl e)=>if sz=tsz V.sz e then match FL V ex e 0 (parts.toList.map λ(i,x)=>(i,fnT (tev S x)))with
   |some ys=>if parts.toList.length=len/\len *sz<=16777216 then match o.dst with
    |some d=>if nm d=d then k {val:= .lf (.sl e) ys}else k {val:= .vh (nm d),upd:=[(nm d, .vec te e ys)],new:=[nm d]}
    |none=>k {val:= .lf (.sl e) ys}
    else none
   |none=>none
   else none
  |_,_=>none
 | .makeSlice t l c=>match bT P t,V.ty t,o.dst with
  |some (te,sz,bytes),some (.sl e),some d=>match qD P te,tev S l,tev S c with
   |some z, .lf (.int _) n, .lf (.int _) m=>match dV V ex e (z.map tvc)with
    |some y=>if sz=tsz V.sz e/\bytes<=32768/\z.all d7=true then
     match FN l c with
     |true=>if 0<=m then
      if m<=4294967296 then k {val:= .vh (nm d),upd:=[(nm d, .vec te e (U5 m.toNat y))],new:=[nm d]}else none
      else none
     |false=>if n=0 then
      if 0<=m then
       if m<=4294967296 then k {val:= .vh (nm d),upd:=[(nm d, .vec te e [])],new:=[nm d]}else none
      else none
      else none
     else none
    |none=>none
   |_,_,_=>none
  |_,_,_=>none
 | .makeMap t hint=>match P.underlying t,o.dst with
  |some (.map kt et),some d=>match V.ty kt,V.ty et with
   |some tk,some tv=>if Ni V S hint=true then k {val:= .mp (nm d),upd:=[(nm d, .map tk tv [])],new:=[nm d]}else none
   |_,_=>none
  |_,_=>none
 | .lookup t x i c=>match P.underlying t,tev S x,tev S i with
  |some (.map kt et), .mp n, .lf tk key=>match S.own? n,rj P et with
   |some (.map tk' tv es),some d=>match ofZ V ex tv d with
    |some z=>if h:tk=tk' then
     if gF (P.underlying kt) tk'=true then match c with
      |true=>k {val:= .tup [.lf tv ((Mp.get (keq tk') (h▸key) es).getD z), .lf .bool (Mp.get (keq tk') (h▸key) es).isSome],acc:=[n]}
      |false=>k {val:= .lf tv ((Mp.get (keq tk') (h▸key) es).getD z),acc:=[n]}
     else none
     else none
    |none=>none
   |_,_=>none
  |_,_,_=>none
 | .range t x=>match P.underlying t,tev S x,o.dst with
  |some .string, .lf .str s,some d=>k {val:= .bp (nm d) 0,upd:=[(nm d, .iter s 0)],new:=[nm d]}
  |some (.map _ _), .mp m,some d=>match S.own? m with
   |some (.map tk tv es)=>k {val:= .bp (nm d) 0,acc:=[m],upd:=[(nm d, .miter m tk tv es es none),(m, .gone 0)],new:=[nm d]}
   |_=>none
  |_,_,_=>none
 | .next x true=>match tev S x with
  | .bp n 0=>match S.own? n with
   |some (.iter s p)=>if 0<=p then
    if p<s.size then k {val:= .tup [.lf .bool true, .lf (.int .i64) p, .lf (.int .i32) (Bs.dec s p)],acc:=[n],upd:=[(n, .iter s (p+Bs.wid s p))]}
    else k {val:= .tup [.lf .bool false],acc:=[n]}
    else none
   |_=>none
  |_=>none
 | .entry x=>match tev S x with
  | .bp n 0=>match S.own? n with
   |some (.miter _ tk tv _ _ (some p))=>if KJ tk=true then k {val:= .tup [.lf tk p.1, .lf tv p.2],acc:=[n]}else none
   |_=>none
  |_=>none
 | .mapUpdate t x i y=>OX V P t x i y S k
 | .insert t x i y=>OX V P t x i y S k
 | .fieldAddr s x f=>match sH P s f with
  |some fo=>match tev S x with
   | .bp n off=>k {val:= .bp n (off+fo)}
   | .ep n sz i off=>k {val:= .ep n sz i (off+fo)}
   | .rp t x off=>if off+fo<=(aK V t x).length then k {val:= .rp t x (off+fo)}else none
   |_=>none
  |none=>none
 | .field s x f=>match sI P s f,tev S x with
  |some (off,ag,sz), .lf t y=>if t.cell=false then match Bj V ag sz (match P.underlying s with|some (.struct fs)=>(fs[f]?).bind λfd=>V.ty fd.type|_=>none) t y off with
   |some v=>k {val:=v}
   |none=>none
   else none
  |some (off,ag,sz), .agg cs=>match Bl V ex ag sz (match P.underlying s with|some (.struct fs)=>(fs[f]?).bind λfd=>V.ty fd.type|_=>none) (cs.drop off)with
   |some v=>k {val:=v}
   |none=>none
  |_,_=>none
 | .indexAddr t x i=>match bT P t with
  |some (_,sz,_)=>match tev S x,tev S i with
   | .lf (.sl e) xs, .lf (.int _) n=>if sz=tsz V.sz e then
     if 0<=n then xs[n.toNat]?>>=λx=>k {val:= .rp e x 0}else none
    else none
   | .vh m, .lf (.int _) n=>match S.own? m with
    |some (.vec _ _ xs)=>if 0<=n/\n<xs.length then k {val:= .ep m sz n.toNat 0,acc:=[m]}else none
    |_=>none
   |_,_=>none
  |none=>none
 | .index t x i=>match P.underlying t,tev S x,tev S i with
  |some .string, .lf .str s, .lf (.int _) n=>if 0<=n then s[n.toNat]?>>=λb=>k {val:= .lf (.int .u8) b.toNat}else none
  |_,_,_=>none
 | .slice t x lo hi none=>match P.underlying t,tev S x with
  |some .string, .lf .str s=>match Jg V S lo 0,Jg V S hi s.size with
   |some l,some h=>if 0<=l/\l<=h/\h<=s.size then k {val:= .lf .str (s.extract l.toNat h.toNat)}else none
   |_,_=>none
  |some (.slice _), .lf (.sl e) xs=>match bT P t,Jg V S lo 0,Jg V S hi xs.length with
   |some (_,sz',_),some l,some h=>if sz'=tsz V.sz e then
    if 0<=l/\l<=h/\h<=xs.length then k {val:= .lf (.sl e) ((xs.take h.toNat).drop l.toNat)}else none
    else none
   |_,_,_=>none
  |_,_=>none
 | .extract x i=>match tev S x with
  | .tup vs=>match vs[i]? with
   |some v=>k {val:=v}
   |none=>none
  |_=>none
 | .makeFunc (.func f) first captured=>k {val:= .fn f (first.toList.map (tev S)) (captured.toList.map (tev S))}
 | .call c=>match c.callee with
  | .value f=>match tev S f with
   | .fn fid first captured=>call A fid (first++c.args.toList.map (tev S)++captured) S k
   | .lf .fnc fid=>call A fid (c.args.toList.map (tev S)) S k
   |_=>none
  | .builtin b=>Ad V P nm b o.type (c.args.toList.map (tev S)) c.argTypes.toList o.dst S k
  |_=>none
 |_=>none
end
end Go.Tx
end
section
namespace Go.Tx
open Go.Awp
variable [Inhabited GMem]
structure ELe (ex:Bool) (e' e:Eff):Prop where
 val:H.le e'.val e.val
 new:e'.new=e.new
 none:∀n,gt e.upd n=none->gt e'.upd n=none
 some:∀n o,gt e.upd n=some (some o)->∃o',gt e'.upd n=some (some o')/\OLe o' o
 eq:ex=true->e'.val=e.val/\e'.upd=e.upd/\e'.acc=e.acc
theorem Sim.le{C:Ctx}{E:Env}{M:Mem}{S S':ae}{a:Act}{w:World}(h:Sim C E M S a w)
 (ht:∀t x,gt S'.tmps t=some x->∃y,gt S.tmps t=some y/\H.le y x)(ho:∀n o,S'.own? n=some o->∃o',S.own? n=some o'/\OLe o' o):Sim C E M S' a w:=
 { h with
   tmps:=λt x hx=>by
    obtain⟨y,hy,hle⟩:=ht t x hx
    obtain⟨v,hv,hr⟩:=h.tmps t y hy
    exact⟨v,hv,hle E M v hr⟩
   own:=λn o hn=>by
    obtain⟨o',ho',hle⟩:=ho n o hn
    exact hle.ok E M w n (h.own n o' ho')
   apart:=λn m o o' b hne hn hm hb hb'=>by
    obtain⟨o1,h1,l1⟩:=ho n o hn
    obtain⟨o2,h2,l2⟩:=ho m o' hm
    exact h.apart n m o1 o2 b hne h1 h2 (l1.foot E M w n b (h.own n o1 h1) hb) (l2.foot E M w m b (h.own m o2 h2) hb')
   home:=λn o b hn hb=>by
    obtain⟨o1,h1,l1⟩:=ho n o hn
    exact h.home n o1 b h1 (l1.foot E M w n b (h.own n o1 h1) hb)}
theorem H.le.junk(x:H):H.le x .junk:=λ_ _ v _=> .junk v
theorem OLe.box{o o':Option TypeId}(ho:o=none\/o=o'){l l':List H}(hl:l'.length=l.length)(h:∀(i:Nat) (x:H),l[i]?=some x->∃y,l'[i]?=some y/\H.le y x):OLe (.box o' l') (.box o l):=by
 refine⟨?_,λ_ _ _ _ _ _ h=>h⟩
 rintro E M w n ⟨b,cs,ty,h1,h2,h3,h4,h5,h6⟩
 refine⟨b,cs,ty,h1,h2,by omega,λi c x hc hx=> ?_,h5,λt ht=>by
  rcases ho with ho|ho
  ·rw[ho]at ht;cases ht
  ·rw[ho]at ht;exact h6 t ht⟩
 obtain⟨y,hy,hle⟩:=h i x hx
 exact hle E M c (h4 i c y hc hy)
section
variable {V:mz}
def gl(ω:Nat->Nat)(e:TE V.N):Eff:={val:=an V ω e.val,acc:=e.acc,upd:=e.upd.map λp=>(p.1,bg V ω p.2),new:=e.new}
def good(S:TS V.N)(e:TE V.N):Prop:=∀m o,gt e.upd m=some o->m∈e.new\/TO.len (some o)=S.len m
theorem oe(S:TS V.N)(dst:Option Tmp)(e:TE V.N)(n:Nat):(S.app dst e).own? n=match gt e.upd n with
 |some o=>some o
 |none=>S.own? n:=by
 unfold TS.app TS.own?
 simp only[d5]
 cases gt e.upd n<;>rfl
theorem cH(S:TS V.N)(dst:Option Tmp)(e:TE V.N)(n:Nat):(S.app dst e).len n=match gt e.upd n with
 |some o=>TO.len (some o)
 |none=>S.len n:=by
 unfold TS.len
 rw[oe]
 cases gt e.upd n<;>rfl
theorem fresh_tmp{S:TS V.N}{n:Nat}(h:S.fresh n=true){t:Nat}{x:TV V.N}(hx:gt S.tmps t=some x):TV.has n x=false:=by
 simp[TS.fresh]at h;exact h.1.2 _ _ (bc hx)
theorem fresh_own{S:TS V.N}{n:Nat}(h:S.fresh n=true){m:Nat}{o:TO V.N}(ho:S.own? m=some o):TO.has n o=false:=by
 simp[TS.fresh]at h;exact h.2 _ _ (bc ho)
theorem G_{S:TS V.N}{dst:Option Tmp}{te:TE V.N}(hg:good S te)(hn:∀d∈te.new,S.fresh d=true):
 (∀t v,gt S.tmps t=some v->an V (S.app dst te).len v=an V S.len v)/\(∀n o,S.own? n=some o->bg V (S.app dst te).len o=bg V S.len o):=by
 have keep:∀n,n∉te.new->(S.app dst te).len n=S.len n:=by
  intro n hnn
  rw[cH]
  cases hu:gt te.upd n with
  |none=>rfl
  |some o=>exact(hg n o hu).resolve_left hnn
 refine⟨λt v hv=>mM v λn hnv=>keep n λhd=> ?_,λn o ho=>A2 o λm hm=>keep m λhd=> ?_⟩
 ·rw[fresh_tmp (hn n hd) hv]at hnv;cases hnv
 ·rw[fresh_own (hn m hd) ho]at hm;cases hm
theorem sD{S:TS V.N}{dst:Option Tmp}{te:TE V.N}(hg:good S te)(hn:∀d∈te.new,S.fresh d=true):
 (∀t,gt (aH V (S.app dst te)).tmps t=gt ((aH V S).app dst (gl (S.app dst te).len te)).tmps t)/\
 (∀n,(aH V (S.app dst te)).own? n=((aH V S).app dst (gl (S.app dst te).len te)).own? n):=by
 obtain⟨k1,k2⟩:=G_ (dst:=dst) hg hn
 refine⟨λt=> ?_,λn=> ?_⟩
 ·rw[cI]
  have:gt (S.app dst te).tmps t=if dst=some t then some te.val else gt S.tmps t:=by
   unfold TS.app OT
   cases dst with
   |none=>simp
   |some d=>simp only[ah,Ud]
  rw[this]
  simp only[ae.app,ov]
  cases dst with
  |none=>
   simp only[reduceCtorEq,XH,cI]
   cases hq:gt S.tmps t with
   |none=>rfl
   |some v=>simp only[UB];rw[k1 t v hq]
  |some d=>
   simp only[ah,Ud,cI]
   by_cases hd:d=t
   ·rw[XK hd,XK hd];rfl
   ·rw[XJ hd,XJ hd]
    cases hq:gt S.tmps t with
    |none=>rfl
    |some v=>simp only[UB];rw[k1 t v hq]
 ·rw[aM,oe]
  simp only[ae.own?,ae.app,d5]
  have hu:gt (gl (S.app dst te).len te).upd n=(gt te.upd n).map (bg V (S.app dst te).len):=by simp only[gl,gC]
  rw[hu]
  cases hq:gt te.upd n with
  |some o=>rfl
  |none=>
   simp only[Wx]
   have:=aM S n
   unfold ae.own? at this
   rw[this]
   cases ho:S.own? n with
   |none=>rfl
   |some o=>simp only[T0];rw[k2 n o ho]
theorem Sim.tapp{C:Ctx}{E:Env}{M:Mem}{S:TS V.N}{dst:Option Tmp}{te:TE V.N}{e':Eff}{a:Act}{w:World}{ex:Bool}(hg:good S te)(hn:∀d∈te.new,S.fresh d=true)
 (hle:ELe ex e' (gl (S.app dst te).len te))(hs:Sim C E M ((aH V S).app dst e') a w):Sim C E M (aH V (S.app dst te)) a w:=by
 obtain⟨h1,h2⟩:=sD (dst:=dst) hg hn
 refine Sim.le hs (λt x hx=> ?_) (λn o ho=> ?_)
 ·rw[h1]at hx
  simp only[ae.app,ov]at hx⊢
  cases dst with
  |none=>exact⟨x,hx,H.le.refl _⟩
  |some d=>
   simp only[ah]at hx⊢
   by_cases hd:d=t
   ·rw[XK hd]at hx⊢;simp at hx;subst hx;exact⟨_,rfl,hle.val⟩
   ·rw[XJ hd]at hx⊢;exact⟨x,hx,H.le.refl _⟩
 ·rw[h2]at ho
  simp only[ae.own?,ae.app,d5]at ho⊢
  cases hu:gt (gl (S.app dst te).len te).upd n with
  |none=>
   rw[hu]at ho
   rw[hle.none n hu]
   exact⟨o,ho,OLe.refl _⟩
  |some oo=>
   rw[hu]at ho
   simp at ho
   subst ho
   obtain⟨o',k1,k2⟩:=hle.some n o hu
   exact⟨o',by rw[k1];rfl,k2⟩
theorem au(S:TS V.N)(x:Operand):ev (aH V S) x=an V S.len (tev S x):=by
 cases x with
 |tmp t=>exact Ho S t
 |const v=>cases v<;>simp[ev,tev,tvc,an,aO,bF]
 |global g=>simp[ev,tev,an,bF]
 |func f=>simp[ev,tev,an,encL]
theorem sF(ω:Nat->Nat)(i:V.ι)(x:V.N i):an V ω (.lf (.st i) x)= .d (.agg (V.enc i x)):=by simp only[an,aO]
theorem dR(t:Ty V.ι)(x:den V.N t):dc V.sz V.enc t x=(aK V t x).map λl=>aO V.sz V.enc l.t l.x:=by
 cases t with
 |st i=>simp only[dc,aK];exact V.enc_cells i x
 |_=>simp[dc,aK,aO]
theorem eK:∀l:List D,DD.toL (l.map .d)=some l
 |[]=>by simp[DD.toL]
 |x::r=>by simp[DD.toL,DD.toD,eK r]
theorem uL:∀(t:Ty V.ι) (x:den V.N t),DD.toL (cD V.sz V.enc V.tid V.encd t x)=some (dc V.sz V.enc t x)
 | .st i,x=>by simp only[cD,dc];exact V.encd_toL i x
 | .sl e,xs=>by
  have h:DD.toR (xs.map λx=>cD V.sz V.enc V.tid V.encd e x)=some (xs.map λx=>dc V.sz V.enc e x):=by
   induction xs with
   |nil=>simp[DD.toR]
   |cons x r ih=>simp[DD.toR,uL e x,ih]
  simp[cD,dc,DD.toL,DD.toD,h]
 | .int k,x=>by simp only[cD];exact eK _
 | .bool,x=>by simp only[cD];exact eK _
 | .str,x=>by simp only[cD];exact eK _
 | .mp k v,x=>by simp only[cD];exact eK _
 | .er,x=>by simp only[cD];exact eK _
 | .op e,x=>by simp only[cD];exact eK _
 | .fnc,x=>by simp only[cD];exact eK _
theorem tC{e:Ty V.ι}:∀ys:List (den V.N e),DD.toR (ys.map λx=>cD V.sz V.enc V.tid V.encd e x)=some (ys.map λx=>dc V.sz V.enc e x)
 |[]=>by simp[DD.toR]
 |y::r=>by
  have:=tC r
  simp only[Uj,DD.toR,uL]at this⊢
  rw[this]
theorem fx(t:Ty V.ι)(x:den V.N t):(aK V t x).length=tsz V.sz t:=by
 cases t with
 |st i=>exact V.len_cells i x
 |_=>rfl
theorem og(t:Ty V.ι)(x:den V.N t):(dc V.sz V.enc t x).length=tsz V.sz t:=by
 rw[dR,Ug,fx]
theorem p7(t:Ty V.ι)(x:den V.N t):∀l∈aK V t x,l.t.cell=true:=by
 cases t with
 |st i=>exact V.one_cells i x
 |_=>simp[aK,Ty.cell]
theorem oW{l:dm V.N}(h:l.t.cell=true):(H.d (aO V.sz V.enc l.t l.x)).one=true:=by
 obtain⟨t,x⟩:=l
 cases t<;>first|(simp[Ty.cell]at h;done)|rfl|exact Lo _
theorem KF{ω:Nat->Nat}(v:TV V.N):an V ω (fnT v)=fnD (an V ω v):=by
 unfold fnT
 split
 ·simp[an,encL,fnD,aO]
 ·rename_i hno
  cases v with
  |fn f a b=>
   simp only[an]
   unfold fnD
   split
   ·rename_i h
    cases a with
    |nil=>cases b with
     |nil=>exact(hno f rfl).elim
     |cons _ _=>simp[encL]at h
    |cons _ _=>simp[encL]at h
   ·rfl
  |agg cs=>simp only[an,cU];split<;>rfl
  |raw v=>cases v<;>rfl
  |_=>rfl
theorem Fp(x:Option (List D)):(H.d (opD x)).cells=some [H.d (opD x)]:=by cases x<;>rfl
theorem dh{ω:Nat->Nat}{v:TV V.N}{cs:List (TV V.N)}(h:TV.cells V v=some cs):(an V ω v).cells=some (encL V ω cs):=by
 cases v with
 |lf t x=>
  simp only[TV.cells,Ud]at h
  subst h
  have e:encL V ω ((aK V t x).map λl=>TV.lf l.t l.x)=(dc V.sz V.enc t x).map H.d:=by
   rw[dR,encL_map,UH,UH]
   exact U7 λl _=>by simp[an]
  rw[e]
  cases t with
  |op e=>simp only[an,aO,dc,Fp,Uj,UM]
  |_=>simp[an,aO,dc,H.cells,d7]
 |raw v=>
  simp only[TV.cells]at h
  split at h
  ·rename_i hc
   simp at h;subst h
   cases v<;>first|(simp[d7]at hc;done)|simp[an,encL,bF,H.cells,d7]
  ·cases h
 |agg cs'=>
  simp only[TV.cells,Ud]at h
  subst h
  simp only[an,cU]
  split
  ·rename_i ds hds
   simp only[H.cells]
   congr 1
   obtain⟨h1,h2⟩:=f7 hds
   apply Vm
   intro i
   rw[h2,Ue]
  ·rfl
 |tup vs=>simp[TV.cells]at h
 |junk=>simp[TV.cells]at h
 |rp t x off=>simp[TV.cells]at h;subst h;simp[an,encL,H.cells]
 |bp n off=>simp[TV.cells]at h;subst h;simp[an,encL,H.cells]
 |vh n=>simp[TV.cells]at h;subst h;simp[an,encL,H.cells]
 |ep n s i off=>simp[TV.cells]at h;subst h;simp[an,encL,H.cells]
 |sv n s i off=>simp[TV.cells]at h;subst h;simp[an,encL,H.cells]
 |mp n=>simp[TV.cells]at h;subst h;simp[an,encL,H.cells]
 |np n b=>simp[TV.cells]at h;subst h;simp[an,encL,H.cells]
 |sd n=>simp[TV.cells]at h;subst h;simp[an,encL,H.cells]
 |fn f a b=>simp[TV.cells]at h;subst h;simp[an,encL,H.cells]
theorem Fo{ω:Nat->Nat}{v:TV V.N}(h:v.one=true):(an V ω v).one=true:=by
 cases v with
 |lf t x=>simp only[TV.one]at h;simp only[an];exact oW (l:=⟨t,x⟩) h
 |raw v=>
  simp only[TV.one,Uk]at h
  cases v<;>first|(simp[d7]at h;done)|(simp only[an,bF,H.one,D.one];exact h.2)
 |agg cs=>simp[TV.one]at h
 |tup cs=>simp[TV.one]at h
 |junk=>simp[TV.one]at h
 |_=>simp[an,H.one,D.one]
theorem eW{ω:Nat->Nat}{l:List (TV V.N)}(h:l.all TV.one=true):(encL V ω l).all H.one=true:=by
 rw[encL_map,VJ]
 rw[Uo]at h⊢
 exactλx hx=>Fo (h x hx)
theorem cp{ω:Nat->Nat}{ex:Bool}:∀{ts:List (Ty V.ι)} {cs:List (TV V.N)} {ls:List (dm V.N)},cJ V ex ts cs=some ls->
 ∃ds,encL V ω cs=ds.map H.d/\D.Les ds (ls.map λl=>aO V.sz V.enc l.t l.x)/\(ex=true->ds=ls.map λl=>aO V.sz V.enc l.t l.x)
 |[],[],ls,h=>by simp[cJ]at h;subst h;exact⟨[],rfl, .nil,λ_=>rfl⟩
 |[],_::_,ls,h=>by simp[cJ]at h
 |_::_,[],ls,h=>by simp[cJ]at h
 |t::ts,x::xs,ls,h=>by
  simp only[cJ]at h
  split at h
  ·rename_i l ls' h1 h2
   simp at h;subst h
   obtain⟨ds,e1,e2,e3⟩:=cp (ω:=ω) h2
   cases x with
   |lf t' y=>
    simp[nF]at h1;subst h1
    exact⟨aO V.sz V.enc t' y::ds,by simp[encL,an,e1], .cons (D.le.refl _) e2,λhx=>by simp[e3 hx]⟩
   |raw v=>
    simp only[nF]at h1
    split at h1
    ·cases h1
    ·rename_i hex
     split at h1
     ·simp at h1;subst h1
      exact⟨.v (.slice none 0 0)::ds,by simp[encL,an,bF,e1], .cons (D.le.nil _) e2,λhx=>by simp at hx⟩
     ·simp at h1;subst h1
      exact⟨.v .nilIface::ds,by simp[encL,an,bF,e1], .cons D.le.ern e2,λhx=>by simp at hx⟩
     ·cases h1
   |_=>simp[nF]at h1
  ·cases h
theorem eV(ds:List D):gk (ds.map H.d)=some ds:=by
 induction ds with
 |nil=>rfl
 |cons x r ih=>simp[gk,ih]
theorem jf{ω:Nat->Nat}{ex:Bool}{ot:Option (Ty V.ι)}{cs:List (TV V.N)}:H.le (cU (encL V ω cs)) (an V ω (mkV V ex ot cs))/\(ex=true->cU (encL V ω cs)=an V ω (mkV V ex ot cs)):=by
 unfold mkV
 have dflt:H.le (cU (encL V ω cs)) (an V ω (.agg cs))/\(ex=true->cU (encL V ω cs)=an V ω (.agg cs)):=by
  rw[an];exact⟨H.le.refl _,λ_=>rfl⟩
 split
 ·rename_i i
  split
  ·rename_i ls hls
   split
   ·rename_i x hx
    obtain⟨ds,e1,e2,e3⟩:=cp (ω:=ω) hls
    have hc:=V.of_cells i ls x hx
    have he:an V ω (.lf (.st i) x)= .d (.agg (ls.map λl=>aO V.sz V.enc l.t l.x)):=by
     rw[sF,V.enc_cells,hc]
    rw[e1,cU,eV,he]
    exact⟨H.le.d (D.le.agg e2),λh=>by rw[e3 h]⟩
   ·exact dflt
  ·exact dflt
 ·exact dflt
theorem lg{ω:Nat->Nat}{ex ag:Bool}{sz:Nat}{ot:Option (Ty V.ι)}{cells:List (TV V.N)}{v:TV V.N}(h:Bl V ex ag sz ot cells=some v):
 ∃x,gH ag sz (encL V ω cells)=some x/\H.le x (an V ω v)/\(ex=true->x=an V ω v):=by
 cases ag with
 |true=>
  simp only[Bl]at h
  split at h
  ·rename_i hle
   simp at h;subst h
   refine⟨cU (encL V ω (cells.take sz)),?_,jf⟩
   simp only[gH,encL_map,Ug]
   rw[XK hle,VT]
  ·cases h
 |false=>
  simp only[Bl]at h
  cases cells with
  |nil=>simp at h
  |cons c r=>simp at h;subst h;exact⟨an V ω c,by simp[gH,encL],H.le.refl _,λ_=>rfl⟩
theorem ld{ω:Nat->Nat}{ag:Bool}{sz:Nat}{ot:Option (Ty V.ι)}{t:Ty V.ι}{x:den V.N t}{off:Nat}{v:TV V.N}(h:Bj V ag sz ot t x off=some v):
 ∃d,mS ag sz ((dc V.sz V.enc t x).drop off)=some d/\an V ω v= .d d:=by
 cases ag with
 |true=>
  simp only[Bj]at h
  split at h
  ·rename_i hc
   obtain⟨h1,h2,h3,h4⟩:=hc
   simp at h;subst h
   subst h1;subst h4
   have hl:=og t x
   refine⟨.agg (dc V.sz V.enc t x),?_,?_⟩
   ·simp only[mS,UT]
    rw[XK (by omega),UP (by omega)]
   ·cases t<;>first|(simp[Ty.cell]at h3;done)|simp[an,aO,dc]
  ·split at h
   ·split at h
    ·rename_i hle
     split at h
     ·rename_i y hy
      simp at h;subst h
      have hc:=V.of_cells _ _ _ hy
      refine⟨.agg (((dc V.sz V.enc t x).drop off).take sz),?_,?_⟩
      ·simp only[mS]
       rw[XK (by rw[UV,og];rw[fx]at hle;omega)]
      ·rw[sF,V.enc_cells,hc,dR,VT,VU]
     ·cases h
    ·cases h
   ·cases h
 |false=>
  simp only[Bj]at h
  split at h
  ·rename_i l hl
   simp at h;subst h
   refine⟨aO V.sz V.enc l.t l.x,?_,by simp[an]⟩
   simp only[mS,dR]
   rw[<-VU,List.head?_map,hl];rfl
  ·cases h
theorem uK(ω:Nat->Nat)(n:Nat)(l:List (TV V.N)):encL V ω (l.take n)=(encL V ω l).take n:=by simp[encL_map,VT]
theorem jc(ω:Nat->Nat)(n:Nat)(l:List (TV V.N)):encL V ω (l.drop n)=(encL V ω l).drop n:=by simp[encL_map,VU]
theorem g8(ω:Nat->Nat)(l m:List (TV V.N)):encL V ω (l++m)=encL V ω l++encL V ω m:=by simp[encL_map]
theorem aG(ω:Nat->Nat)(l:List (TV V.N)):(encL V ω l).length=l.length:=by simp[encL_map]
theorem o7{ω:Nat->Nat}{pl:List (Nat×Nat)}:∀{parts:List (Nat×TV V.N)} {cells cs:List (TV V.N)},DT V pl cells parts=some cs->
 uM pl (encL V ω cells) (parts.map λp=>(p.1,an V ω p.2))=some (encL V ω cs)
 |[],cells,cs,h=>by simp[DT]at h;subst h;rfl
 |(i,x)::r,cells,cs,h=>by
  simp only[DT]at h
  split at h
  ·rename_i off sz cc h1 h2
   split at h
   ·rename_i hc
    have ih:=o7 (ω:=ω) h
    simp only[Uj,uM,h1,dh (ω:=ω) h2,aG]
    rw[XK hc]
    simp only[fU,aG]
    rw[g8,g8,uK,jc]at ih
    exact ih
   ·cases h
  ·cases h
theorem iw{ω:Nat->Nat}{ex:Bool}{e:Ty V.ι}{cs:List (TV V.N)}{y:den V.N e}(h:dV V ex e cs=some y):
 ∃ds,encL V ω cs=ds.map H.d/\D.Les ds (dc V.sz V.enc e y)/\(ex=true->ds=dc V.sz V.enc e y):=by
 have single:∀(t:Ty V.ι) (y:den V.N t) (cs:List (TV V.N)),(∃x l,cs=[x]/\nF V ex t x=some l/\∃ht:l.t=t,ht▸l.x=y)->aK V t y=[⟨t,y⟩]->∃ds,encL V ω cs=ds.map H.d/\D.Les ds (dc V.sz V.enc t y)/\(ex=true->ds=dc V.sz V.enc t y):=by
  rintro t y cs ⟨x,⟨lt,lx⟩,rfl,hl,ht,rfl⟩ hrc
  simp only at ht
  subst ht
  rw[dR,hrc]
  have hls:cJ V ex [lt] [x]=some [⟨lt,lx⟩]:=by simp[cJ,hl]
  exact cp (ω:=ω) hls
 cases e with
 |st i=>
  simp only[dV]at h
  split at h
  ·rename_i ls hls
   obtain⟨ds,e1,e2,e3⟩:=cp (ω:=ω) hls
   have hc:=V.of_cells i ls y h
   refine⟨ds,e1,?_,?_⟩<;>simp only[dc]<;>rw[V.enc_cells,hc]
   ·exact e2
   ·exact e3
  ·cases h
 |int k=>
  refine single (.int k) y cs ?_ rfl
  match cs,h with
  |[],h=>simp[dV]at h
  |_::_::_,h=>simp[dV]at h
  |[x],h=>
   simp only[dV]at h
   split at h
   ·rename_i l hl
    split at h
    ·rename_i ht;simp only[Ud]at h;exact⟨x,l,rfl,hl,ht,h⟩
    ·cases h
   ·cases h
 |bool=>
  refine single .bool y cs ?_ rfl
  match cs,h with
  |[],h=>simp[dV]at h
  |_::_::_,h=>simp[dV]at h
  |[x],h=>
   simp only[dV]at h
   split at h
   ·rename_i l hl
    split at h
    ·rename_i ht;simp only[Ud]at h;exact⟨x,l,rfl,hl,ht,h⟩
    ·cases h
   ·cases h
 |op e=>
  refine single (.op e) y cs ?_ rfl
  match cs,h with
  |[],h=>simp[dV]at h
  |_::_::_,h=>simp[dV]at h
  |[x],h=>
   simp only[dV]at h
   split at h
   ·rename_i l hl
    split at h
    ·rename_i ht;simp only[Ud]at h;exact⟨x,l,rfl,hl,ht,h⟩
    ·cases h
   ·cases h
 |er=>
  refine single .er y cs ?_ rfl
  match cs,h with
  |[],h=>simp[dV]at h
  |_::_::_,h=>simp[dV]at h
  |[x],h=>
   simp only[dV]at h
   split at h
   ·rename_i l hl
    split at h
    ·rename_i ht;simp only[Ud]at h;exact⟨x,l,rfl,hl,ht,h⟩
    ·cases h
   ·cases h
 |fnc=>
  refine single .fnc y cs ?_ rfl
  match cs,h with
  |[],h=>simp[dV]at h
  |_::_::_,h=>simp[dV]at h
  |[x],h=>
   simp only[dV]at h
   split at h
   ·rename_i l hl
    split at h
    ·rename_i ht;simp only[Ud]at h;exact⟨x,l,rfl,hl,ht,h⟩
    ·cases h
   ·cases h
 |str=>
  refine single .str y cs ?_ rfl
  match cs,h with
  |[],h=>simp[dV]at h
  |_::_::_,h=>simp[dV]at h
  |[x],h=>
   simp only[dV]at h
   split at h
   ·rename_i l hl
    split at h
    ·rename_i ht;simp only[Ud]at h;exact⟨x,l,rfl,hl,ht,h⟩
    ·cases h
   ·cases h
 |sl e=>
  refine single (.sl e) y cs ?_ rfl
  match cs,h with
  |[],h=>simp[dV]at h
  |_::_::_,h=>simp[dV]at h
  |[x],h=>
   simp only[dV]at h
   split at h
   ·rename_i l hl
    split at h
    ·rename_i ht;simp only[Ud]at h;exact⟨x,l,rfl,hl,ht,h⟩
    ·cases h
   ·cases h
 |mp tk tv=>
  refine single (.mp tk tv) y cs ?_ rfl
  match cs,h with
  |[],h=>simp[dV]at h
  |_::_::_,h=>simp[dV]at h
  |[x],h=>
   simp only[dV]at h
   split at h
   ·rename_i l hl
    split at h
    ·rename_i ht;simp only[Ud]at h;exact⟨x,l,rfl,hl,ht,h⟩
    ·cases h
   ·cases h
end
end Go.Tx
end
section
namespace Go.Tx
open Go.Awp
variable [Inhabited GMem]
section
variable {V:mz}
def ay(P:Program)(call:bz V):Prop:=∀(A:Type) (fid:Nat) (args:List (TV V.N)) (S:TS V.N) (dst:Option Tmp) (k:TE V.N->Option A) (r:A),call A fid args S k=some r->
 ∃te,k te=some r/\good S te/\wE P fid (encL V S.len args) (aH V S).own? λe'=>ELe true e' (gl (S.app dst te).len te)
def OpS(ex:Bool)(P:Program)(nm:Nat->Nat){A:Type}(o:Oper)(S:TS V.N)(k:TE V.N->Option A)(r:A):Prop:=
 ∃te,k te=some r/\good S te/\aV P nm o (ev (aH V S)) (aH V S).own? λe'=>ELe ex e' (gl (S.app o.dst te).len te)
theorem gc(S:TS V.N)(v:TV V.N)(l:List Nat):good S {val:=v,acc:=l}:=λm o h=>by simp[gt]at h
theorem wF(S:TS V.N)(dst:Option Tmp)(v:TV V.N)(l:List Nat):(S.app dst {val:=v,acc:=l}).len=S.len:=by
 funext n;rw[cH];rfl
theorem DO{ex:Bool}{S:TS V.N}{dst:Option Tmp}{v:TV V.N}{x:H}{l:List Nat}(h:H.le x (an V S.len v))(hx:ex=true->x=an V S.len v):ELe ex {val:=x,acc:=l} (gl (S.app dst {val:=v,acc:=l}).len {val:=v,acc:=l}):=by
 rw[wF]
 exact{val:=h,new:=rfl,none:=λn _=>rfl,some:=λn o h=>by simp[gl,gt]at h,eq:=λh=>⟨hx h,rfl,rfl⟩}
theorem oV{ex:Bool}{S:TS V.N}{dst:Option Tmp}{v:TV V.N}{x:H}{l:List Nat}(h:x=an V S.len v):ELe ex {val:=x,acc:=l} (gl (S.app dst {val:=v,acc:=l}).len {val:=v,acc:=l}):=DO (h▸H.le.refl _) λ_=>h
theorem bU{ex:Bool}{ω:Nat->Nat}{te:TE V.N}{e':Eff}(hv:e'.val=an V ω te.val)(hn:e'.new=te.new)(hu:e'.upd=te.upd.map λp=>(p.1,bg V ω p.2))(ha:e'.acc=te.acc):ELe ex e' (gl ω te)where
 val:=by rw[hv];exact H.le.refl _
 new:=hn
 none:=λn h=>by rw[hu];exact h
 some:=λn o h=>⟨o,by rw[hu];exact h,OLe.refl o⟩
 eq:=λ_=>⟨hv,hu,ha⟩
theorem LS(ω:Nat->Nat)(x:Value):an V ω (tvc x)=bF x:=by
 cases x<;>simp[tvc,an,aO,bF]
theorem fI(S:TS V.N)(l:List Operand):l.map (ev (aH V S))=encL V S.len (l.map (tev S)):=by
 rw[encL_map,UH]
 exact U7 λx _=>au S x
theorem Ei(S:TS V.N)(l:List (Nat×Operand)):l.map (λp=>(p.1,ev (aH V S) p.2))=(l.map λp=>(p.1,tev S p.2)).map λp=>(p.1,an V S.len p.2):=by
 rw[UH]
 exact U7 λx _=>by simp[au]
theorem gv{S:TS V.N}{lo:Option Operand}{d n:Int}(h:Jg V S lo d=some n):bnd (ev (aH V S)) lo d=some n:=by
 cases lo with
 |none=>exact h
 |some x=>
  simp only[Jg]at h
  simp only[bnd,au]
  split at h
  ·rename_i hx;rw[hx];simpa[an,aO]using h
  ·cases h
theorem fR{S:TS V.N}{n:Nat}{te:TypeId}{e:Ty V.ι}{xs:List (den V.N e)}(h:S.own? n=some (.vec te e xs)):
 (aH V S).own? n=some (.vec te (tsz V.sz e) (xs.map λx=>dc V.sz V.enc e x)):=by rw[aM,h];rfl
theorem kB(ω:Nat->Nat)(i:V.ι)(x:V.N i):encL V ω ((V.cells i x).map λl=>(.lf l.t l.x:TV V.N))=(V.enc i x).map .d:=by
 rw[V.enc_cells,encL_map,UH,UH]
 exact U7 λl _=>by simp[an]
theorem ix{S:TS V.N}{n:Nat}{cells:List (TV V.N)}(h:Hd V (S.own? n)=some cells):(aH V S).own? n=some (.box (O2 V (S.own? n)) (encL V S.len cells)):=by
 rw[aM]
 cases ho:S.own? n with
 |none=>rw[ho]at h;cases h
 |some o=>
  rw[ho]at h
  cases o with
  |box oty cs=>simp only[Hd,Ud]at h;subst h;rfl
  |bst i x=>simp only[Hd,Ud]at h;subst h;simp only[T0,bg,kB];rfl
  |vec te e xs=>cases h
  |dvec te e xs=>cases h
  |pvec te e xs=>cases h
  |map tk tv es=>cases h
  |iter s p=>cases h
  |miter m tk tv es rest cur=>cases h
  |gone l=>cases h
theorem zo{S:TS V.N}{n:Nat}{cells:List (TV V.N)}(h:Hd V (S.own? n)=some cells):S.len n=0:=by
 unfold TS.len
 cases ho:S.own? n with
 |none=>rfl
 |some o=>
  rw[ho]at h
  cases o<;>first|rfl|cases h
theorem Di{ω:Nat->Nat}{v:TV V.N}{cs:List (TV V.N)}(h:TV.cells V v=some cs):bg V ω (Dh V v cs)=some (.box none (encL V ω cs)):=by
 unfold Dh
 split
 ·rename_i i x
  simp only[TV.cells,aK,Ud]at h
  subst h
  simp only[bg,kB]
 ·rfl
theorem vN{ω:Nat->Nat}{o:Option TypeId}{v:TV V.N}{cs:List (TV V.N)}(h:TV.cells V v=some cs):bg V ω (Iv V o v cs)=some (.box o (encL V ω cs)):=by
 cases o with
 |none=>exact Di h
 |some t=>rfl
theorem Dj{v:TV V.N}{cs:List (TV V.N)}:TO.len (some (Dh V v cs))=0:=by
 unfold Dh
 split<;>rfl
theorem FH{o:Option TypeId}{v:TV V.N}{cs:List (TV V.N)}:TO.len (some (Iv V o v cs))=0:=by
 cases o with
 |none=>exact Dj
 |some t=>rfl
theorem hY{S:TS V.N}{n:Nat}{te:TypeId}{e:Ty V.ι}{xs:List (den V.N e)}(h:S.own? n=some (.vec te e xs)):S.len n=xs.length:=by unfold TS.len;rw[h];rfl
theorem FG{t:Ty V.ι}{x:den V.N t}:((dc V.sz V.enc t x).all D.one)=true:=by
 rw[dR,VJ,Uo]
 exactλl hl=>by have:=oW (V:=V) (p7 t x l hl);simpa[H.one]using this
variable {P:Program} {nm:Nat->Nat} {call:bz V} {A:Type} {S:TS V.N} {k:TE V.N->Option A} {r:A} {o:Oper} {ex:Bool}
theorem aA{v:TV V.N}{l:List Nat}(hk:k {val:=v,acc:=l}=some r)(h:∀K:Eff->Prop,K {val:=an V S.len v,acc:=l}->aV P nm o (ev (aH V S)) (aH V S).own? K):OpS ex P nm o S k r:=
 ⟨_,hk,gc S v l,h _ (oV rfl)⟩
theorem nM{v:TV V.N}{l:List Nat}(hk:k {val:=v,acc:=l}=some r)(h:∀K:Eff->Prop,(∀x,H.le x (an V S.len v)->(ex=true->x=an V S.len v)->K {val:=x,acc:=l})->aV P nm o (ev (aH V S)) (aH V S).own? K):OpS ex P nm o S k r:=
 ⟨_,hk,gc S v l,h _ λ_ hx hy=>DO hx hy⟩
theorem I9(S:TS V.N)(dst:Option Tmp)(d:Nat)(v:TV V.N)(b:TO V.N)(cs:List (TV V.N))(hf:∀n,TV.hasL n cs=true->n≠d):
 encL V (S.app dst {val:=v,upd:=[(d,b)],new:=[d]}).len cs=encL V S.len cs:=by
 refine encL_congr cs λn hn=> ?_
 rw[cH]
 simp only[ah]
 rw[XJ (λe=>hf n hn e.symm)]
 rfl
theorem Gg{S:TS V.N}{d:Nat}(h:S.fresh d=true)(x:Operand):TV.has d (tev S x)=false:=by
 cases x with
 |tmp t=>
  simp only[tev,TS.get]
  cases hg:gt S.tmps t with
  |none=>simp[TV.has]
  |some v=>exact fresh_tmp h hg
 |const v=>cases v<;>simp[tev,tvc,TV.has]
 |global g=>simp[tev,TV.has]
 |func f=>simp[tev,TV.has,TV.hasL]
theorem rS{d:Nat}{l:List (TV V.N)}(h:∀x∈l,TV.has d x=false):TV.hasL d l=false:=by
 induction l with
 |nil=>simp[TV.hasL]
 |cons y r ih=>rw[TV.hasL,h y Uf,ih λx hx=>h x (Ua _ hx)];rfl
theorem xz{d:Nat}{v:TV V.N}{cs:List (TV V.N)}(h:TV.cells V v=some cs)(hv:TV.has d v=false):TV.hasL d cs=false:=by
 cases v with
 |lf t x=>
  simp only[TV.cells,Ud]at h
  subst h
  exact rS λy hy=>by
   obtain⟨l,_,rfl⟩:=Uy.1 hy
   simp[TV.has]
 |raw v=>
  simp only[TV.cells]at h
  split at h
  ·simp at h;subst h;simp[TV.hasL,TV.has]
  ·cases h
 |agg cs'=>simp only[TV.cells,Ud]at h;subst h;simpa[TV.has]using hv
 |tup vs=>simp[TV.cells]at h
 |junk=>simp[TV.cells]at h
 |rp t x off=>simp[TV.cells]at h;subst h;simp[TV.hasL,TV.has]
 |bp n off=>simp[TV.cells]at h;subst h;simpa[TV.hasL]using hv
 |vh n=>simp[TV.cells]at h;subst h;simpa[TV.hasL]using hv
 |ep n s i off=>simp[TV.cells]at h;subst h;simpa[TV.hasL]using hv
 |sv n s i off=>simp[TV.cells]at h;subst h;simpa[TV.hasL]using hv
 |mp n=>simp[TV.cells]at h;subst h;simpa[TV.hasL]using hv
 |np n b=>simp[TV.cells]at h;subst h;simpa[TV.hasL]using hv
 |sd n=>simp[TV.cells]at h;subst h;simpa[TV.hasL]using hv
 |fn f a b=>simp[TV.cells]at h;subst h;simpa[TV.hasL]using hv
theorem Fr{d:Nat}{b:TO V.N}{oty:Option TypeId}{cs:List (TV V.N)}(hb:∀ω,bg V ω b=some (.box oty (encL V ω cs)))(hk:k {val:= .bp (nm d) 0,upd:=[(nm d,b)],new:=[nm d]}=some r)(hf:TV.hasL (nm d) cs=false)
 (h:∀K:Eff->Prop,K {val:= .bp (nm d) 0,acc:=[],upd:=[(nm d,some (.box oty (encL V S.len cs)))],new:=[nm d]}->aV P nm o (ev (aH V S)) (aH V S).own? K):OpS ex P nm o S k r:=by
 refine⟨_,hk,λm o hm=> ?_,h _ (bU (by simp[an]) rfl ?_ rfl)⟩
 ·simp only[ah]at hm
  split at hm
  ·rename_i e;left;simp[e]
  ·simp[gt]at hm
 ·simp only[Uj,UM,hb]
  rw[I9 S o.dst (nm d) (.bp (nm d) 0) b cs λn hn e=>by subst e;rw[hf]at hn;cases hn]
theorem tz{n:Nat}{o':TO V.N}(hk:k {val:= .junk,acc:=[n],upd:=[(n,o')]}=some r)(hl:TO.len (some o')=S.len n)
 (h:∀K:Eff->Prop,K {val:= .junk,acc:=[n],upd:=[(n,bg V S.len o')]}->aV P nm o (ev (aH V S)) (aH V S).own? K):OpS ex P nm o S k r:=by
 have hlen:(S.app o.dst {val:= .junk,acc:=[n],upd:=[(n,o')]}).len=S.len:=by
  funext m
  rw[cH]
  simp only[ah]
  by_cases hm:n=m
  ·subst hm;simpa using hl
  ·rw[XJ hm];simp[gt]
 refine⟨_,hk,λm o hm=> ?_,h _ (bU (by simp[an]) rfl ?_ rfl)⟩
 ·simp only[ah]at hm
  split at hm
  ·rename_i e;simp at hm;subst hm;subst e;exact .inr hl
  ·simp[gt]at hm
 ·simp only[Uj,UM]
  rw[hlen]
theorem pW{d:Nat}{te:TypeId}{e:Ty V.ι}{ys:List (den V.N e)}{old:List (Nat×Nat)}{l:List Nat}(hold:∀p∈old,S.len p.1=p.2)(hk:k {val:= .vh (nm d),acc:=l,upd:=(nm d, .vec te e ys)::old.map (λp=>(p.1, .gone p.2)),new:=[nm d]}=some r)
 (h:∀K:Eff->Prop,K {val:= .vh (nm d) ys.length,acc:=l,upd:=(nm d,some (.vec te (tsz V.sz e) (ys.map λx=>dc V.sz V.enc e x)))::old.map (λp=>(p.1,none)),new:=[nm d]}->aV P nm o (ev (aH V S)) (aH V S).own? K):OpS ex P nm o S k r:=by
 refine⟨_,hk,λm o hm=> ?_,h _ (bU ?_ rfl ?_ rfl)⟩
 ·simp only[ah]at hm
  split at hm
  ·rename_i e;left;simp[e]
  ·right
   have:=bc hm
   obtain⟨p,hp,he⟩:=Uy.1 this
   simp only[UC]at he
   obtain⟨rfl,rfl⟩:=he
   exact(hold p hp).symm
 ·simp only[an]
  rw[cH]
  simp[ah,TO.len]
 ·simp[bg,UH,Function.comp_def]
theorem pX{n:Nat}{tk tv:Ty V.ι}{es:List (den V.N tk×den V.N tv)}(h:S.own? n=some (.map tk tv es)):
 (aH V S).own? n=some (.map (es.map λp=>(j6 tk p.1,aO V.sz V.enc tv p.2))):=by rw[aM,h];rfl
theorem Ed{n:Nat}{tk tv:Ty V.ι}{es:List (den V.N tk×den V.N tv)}(h:S.own? n=some (.map tk tv es)):S.len n=0:=by unfold TS.len;rw[h];rfl
theorem zT{n:Nat}{s:ByteArray}{p:Int}(h:S.own? n=some (.iter s p)):(aH V S).own? n=some (.iter s p.toNat):=by rw[aM,h];rfl
theorem HB{n:Nat}{s:ByteArray}{p:Int}(h:S.own? n=some (.iter s p)):S.len n=0:=by unfold TS.len;rw[h];rfl
theorem vF{n m:Nat}{tk tv:Ty V.ι}{es rest:List (den V.N tk×den V.N tv)}{cur:Option (den V.N tk×den V.N tv)}(h:S.own? n=some (.miter m tk tv es rest cur)):
 (aH V S).own? n=some (.miter m (es.map λp=>(j6 tk p.1,aO V.sz V.enc tv p.2)) (rest.map λp=>(j6 tk p.1,aO V.sz V.enc tv p.2)) (cur.map λp=>(j6 tk p.1,aO V.sz V.enc tv p.2))):=by rw[aM,h];rfl
theorem u2{n m:Nat}{tk tv:Ty V.ι}{es rest:List (den V.N tk×den V.N tv)}{cur:Option (den V.N tk×den V.N tv)}(h:S.own? n=some (.miter m tk tv es rest cur)):S.len n=0:=by unfold TS.len;rw[h];rfl
theorem Ea{tk:Ty V.ι}(hk:KJ tk=true)(x:den V.N tk):aO V.sz V.enc tk x= .v (j6 tk x):=by
 cases tk<;>first|rfl|cases hk
theorem yp{d:Nat}{s:ByteArray}(hk:k {val:= .bp (nm d) 0,upd:=[(nm d, .iter s 0)],new:=[nm d]}=some r)
 (h:∀K:Eff->Prop,K {val:= .bp (nm d) 0,acc:=[],upd:=[(nm d,some (.iter s 0))],new:=[nm d]}->aV P nm o (ev (aH V S)) (aH V S).own? K):OpS ex P nm o S k r:=by
 refine⟨_,hk,λm o hm=> ?_,h _ (bU (by simp[an]) rfl (by simp[bg]) rfl)⟩
 simp only[ah]at hm
 split at hm
 ·rename_i e;left;simp[e]
 ·simp[gt]at hm
theorem Iq{n l:Nat}{v:TV V.N}(hv:∀ω ω':Nat->Nat,an V ω v=an V ω' v)(hk:k {val:=v,acc:=[n],upd:=[(n, .gone l)]}=some r)(hl:S.len n=l)
 (h:∀K:Eff->Prop,K {val:=an V S.len v,acc:=[n],upd:=[(n,none)]}->aV P nm o (ev (aH V S)) (aH V S).own? K):OpS ex P nm o S k r:=by
 refine⟨_,hk,λm o hm=> ?_,h _ (bU (hv _ _) rfl (by simp[bg]) rfl)⟩
 simp only[ah]at hm
 split at hm
 ·rename_i e;right;simp at hm;subst hm;subst e;simp[TO.len,hl]
 ·simp[gt]at hm
theorem u1(ik:IntKind):∀l:List Int,qL ik (l.map (q_ ik))=some l
 |[]=>rfl
 |n::r=>by simp[q_,qL,u1 ik r]
theorem pi(ik:IntKind)(l:List (den V.N (.int ik))):qL ik (l.map λx=>dc V.sz V.enc (.int ik) x)=some l:=u1 ik l
theorem qd(s:ByteArray):∀n i:Nat,(Bs.runesAt s n i).length<=n
 |0,_=>Us _
 |n+1,i=>by
  unfold Bs.runesAt
  split
  ·simp only[Ui];have:=qd s n (i+(Utf8.decode s i).2);omega
  ·simp
theorem FM(s:ByteArray):(Bs.runes s).length<=s.size:=qd s _ _
theorem BN{d:Nat}{tk tv:Ty V.ι}(hk:k {val:= .mp (nm d),upd:=[(nm d, .map tk tv [])],new:=[nm d]}=some r)
 (h:∀K:Eff->Prop,K {val:= .mp (nm d),acc:=[],upd:=[(nm d,some (.map []))],new:=[nm d]}->aV P nm o (ev (aH V S)) (aH V S).own? K):OpS ex P nm o S k r:=by
 refine⟨_,hk,λm o hm=> ?_,h _ (bU (by simp[an]) rfl (by simp[bg]) rfl)⟩
 simp only[ah]at hm
 split at hm
 ·rename_i e;left;simp[e]
 ·simp[gt]at hm
theorem sP{tk:Ty V.ι}{kind:TypeDesc}(hk:gF (some kind) tk=true)(x y:den V.N tk):Instr.sameNow kind (j6 tk x) (j6 tk y)=some (keq tk x y):=by
 cases kind<;>cases tk<;>simp_all [gF,j6,keq,Instr.sameNow,Mp.ieq,Mp.beq,Mp.seq]
theorem mQ{tk:Ty V.ι}{kind:TypeDesc}(hk:gF (some kind) tk=true):eJ kind=true:=by
 cases kind<;>cases tk<;>simp_all [gF,eJ]
theorem xX{tk:Ty V.ι}{kind:TypeDesc}(hk:gF (some kind) tk=true)(x:den V.N tk):aO V.sz V.enc tk x= .v (j6 tk x):=by
 cases kind<;>cases tk<;>simp_all [gF,j6,aO]
theorem zz{tk tv:Ty V.ι}{kind:TypeDesc}(hk:gF (some kind) tk=true)(x:den V.N tk):∀es:List (den V.N tk×den V.N tv),
 uO kind (j6 tk x) (es.map λp=>(j6 tk p.1,aO V.sz V.enc tv p.2))=some ((Mp.get (keq tk) x es).map (aO V.sz V.enc tv))
 |[]=>rfl
 |p::r=>by
  simp only[Uj,uO,sP hk,Mp.get]
  cases keq tk x p.1 with
  |true=>rfl
  |false=>exact zz hk x r
theorem FR{tk tv:Ty V.ι}{kind:TypeDesc}(hk:gF (some kind) tk=true)(x:den V.N tk)(y:den V.N tv):∀es:List (den V.N tk×den V.N tv),
 JQ kind (j6 tk x) (aO V.sz V.enc tv y) (es.map λp=>(j6 tk p.1,aO V.sz V.enc tv p.2))=some ((Mp.put (keq tk) x y es).map λp=>(j6 tk p.1,aO V.sz V.enc tv p.2))
 |[]=>rfl
 |p::r=>by
  simp only[Uj,JQ,sP hk,Mp.put]
  cases keq tk x p.1 with
  |true=>rfl
  |false=>simp only[FR hk x y r];rfl
theorem na{tk tv:Ty V.ι}{kind:TypeDesc}(hk:gF (some kind) tk=true)(x:den V.N tk)(es:List (den V.N tk×den V.N tv)):
 iD kind (j6 tk x) (es.map λp=>(j6 tk p.1,aO V.sz V.enc tv p.2))=true:=by
 unfold iD
 rw[VJ,Uo]
 intro p _
 simp only[W4,sP hk,Option.isSome_some]
theorem qy:∀{ds:List D} {z:List Value},nT ds=some z->ds=z.map .v
 |[],z,h=>by simp[nT]at h;subst h;rfl
 | .v x::r,z,h=>by
  simp only[nT]at h
  split at h
  ·rename_i l hl
   simp at h;subst h
   rw[qy hl];rfl
  ·cases h
 | .agg _::_,_,h=>by simp[nT]at h
 | .sl _ _::_,_,h=>by simp[nT]at h
 | .rp _::_,_,h=>by simp[nT]at h
theorem bB{α β:Type}{x:Option α}{f:α->Option β}{r:β}(h:x>>=f=some r):∃y,x=some y/\f y=some r:=by
 cases x with
 |none=>cases h
 |some y=>exact⟨y,rfl,h⟩
theorem ao{c:Prop}[Decidable c]{β:Type}{x:Option β}{r:β}(h:(if c then x else none)=some r):c/\x=some r:=by
 split at h
 ·exact⟨‹_›,h⟩
 ·cases h
theorem xC{ω:Nat->Nat}{e:Ty V.ι}{x:TV V.N}{y:den V.N e}(h:KA V ex e x=some y):
 ∃cs ds,TV.cells V x=some cs/\encL V ω cs=ds.map H.d/\D.Les ds (dc V.sz V.enc e y)/\(ex=true->ds=dc V.sz V.enc e y):=by
 unfold KA at h
 split at h
 ·rename_i t z
  split at h
  ·rename_i ht
   subst ht
   simp only[Ud]at h;subst h
   refine⟨_,dc V.sz V.enc t z,rfl,?_,D.Les.refl _,λ_=>rfl⟩
   rw[dR,encL_map,UH,UH]
   exact U7 λl _=>by simp[an]
  ·cases h
 ·split at h
  ·rename_i cs hcs
   obtain⟨ds,e1,e2,e3⟩:=iw (ω:=ω) h
   exact⟨cs,ds,hcs,e1,e2,e3⟩
  ·cases h
theorem qa{ω:Nat->Nat}{e:Ty V.ι}:∀{i:Nat} {parts:List (Nat×TV V.N)} {ys:List (den V.N e)},FL V ex e i parts=some ys->
 ∃rows,p9 (tsz V.sz e) i (parts.map λp=>(p.1,an V ω p.2))=some rows/\rows.length=parts.length/\D.Rows rows (ys.map λx=>dc V.sz V.enc e x)/\(ex=true->rows=ys.map λx=>dc V.sz V.enc e x)
 |i,[],ys,h=>by simp[FL]at h;subst h;exact⟨[],rfl,rfl, .nil,λ_=>rfl⟩
 |i,(j,x)::r,ys,h=>by
  simp only[FL]at h
  obtain⟨hij,h⟩:=ao h
  split at h
  ·rename_i y ys' h1 h2
   simp at h;subst h
   obtain⟨cs,ds,hcs,e1,e2,e3⟩:=xC (ω:=ω) h1
   obtain⟨rows,f1,f2,f3,f4⟩:=qa (ω:=ω) h2
   have hds:ds.length=tsz V.sz e:=by rw[e2.len,og]
   refine⟨ds::rows,?_,by simp[f2], .cons e2 f3,λhx=>by simp[e3 hx,f4 hx]⟩
   simp only[Uj,p9,dh (ω:=ω) hcs,e1,eV,f1]
   rw[XK hij,XK hds]
  ·cases h
end
end Go.Tx
end
