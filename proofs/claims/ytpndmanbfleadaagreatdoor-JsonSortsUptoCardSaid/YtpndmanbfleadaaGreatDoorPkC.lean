/-
  Texts of this claim, joined by a program of mine: what the theorem uses.
-/
import Derived.Test.YtpndmanbfleadaaGreatDoorPkB
import Derived.ProofKit
import Derived.Test.YtpndmanbfleadaaGreatDoorProg
import Derived.Shelf.Unicode.DecodeSlow
import Derived.Lib.ItoaNum
import Derived.Lib.LaidTab
import Derived.Lib.AppendIntMem
import Derived.Lib.AtoiErrMem
import Derived.Shelf.Unicode.ValidAny
import Derived.Shelf.Strings.Builder1
import Derived.Shelf.Strings.Builder2
import Derived.Shelf.Strings.OnBuilder
import Derived.Shelf.Small.Utf8
import Derived.Shelf.Small.Bits
import Derived.Shelf.Small.Strs
import Derived.Shelf.Strings.BuilderF
import Derived.Shelf.Strings.BuilderK
import Derived.Shelf.Strconv.Atoi
import Derived.Shelf.Strconv.Itoa0
import Derived.Shelf.Strconv.Itoa1
import Derived.Shelf.LaysM
import Derived.Shelf.Strconv.Itoa2
import Derived.Shelf.Strconv.Itoa3
import Derived.Shelf.Strconv.AtoiErrFast
import Derived.Shelf.Strconv.ParseIntEmpty
import Derived.Shelf.Strconv.AtoiFail
import Derived.Shelf.Strconv.Clone
import Derived.Shelf.Strconv.SyntaxError
import Derived.Shelf.LaysC
import Derived.Shelf.Strconv.ToError
import Derived.Shelf.Strconv.Lower
import Derived.Shelf.Strconv.ParseUint10
import Derived.Shelf.Strconv.ParseUint10Empty
import Derived.Shelf.Strconv.ParseUint10Any
import Derived.Shelf.Strconv.ParseInt10
import Derived.Shelf.Strconv.AtoiLong
import Derived.Shelf.Strconv.AtoiInnerAll
import Derived.Shelf.Strconv.RangeError
import Derived.Shelf.Strconv.ToErrorRange
import Derived.Shelf.Strconv.AtoiAll
import Derived.Shelf.Strconv.ErrVarAll
import Derived.Shelf.Strings.Search1
import Derived.Shelf.Strings.Search2
import Derived.Shelf.Strings.Search3
import Derived.Shelf.Strings.Shaped
import Derived.Shelf.Sort.Plain
import Derived.Shelf.Unicode.Latin
import Derived.Shelf.Unicode.Decode
import Derived.Shelf.Unicode.DecodeAny
import Derived.Shelf.Unicode.CaseLookup
import Derived.Shelf.Unicode.CaseConvert
import Derived.Shelf.Unicode.CaseTo
import Derived.Shelf.Unicode.CaseLaid
import Derived.Shelf.Slices.Turned
import Derived.Ground.Names2Prog
import Derived.Shelf.Slices.Clone
import Derived.Shelf.Slices.CompactS
import Derived.Shelf.Slices.Delete
import Derived.Shelf.Slices.Cells
import Derived.Shelf.Slices.In.SortNone
import Derived.Shelf.Slices.Empties
import Derived.Ground.SlgnProg
import Derived.Shelf.SlicesE.Clone
import Derived.Laws.StructEq
open Array renaming getElem?_append_left→Qw,getElem?_append_right→Q6,getElem?_eq_getElem→OU,getElem?_eq_none→Qc,getElem?_eq_some_iff→OC,getElem?_modify→PI,getElem?_setIfInBounds_ne→Pb,getElem?_toList→Pm,mem_toList_iff→Q1,replicate→Qj,toList_push→QT,toList_setIfInBounds→Qv
open Bool renaming and_eq_true→Oy,false_eq_true→Pe,not_eq_true'→Qy,not_false→PS,not_true→PK,or_eq_true→Pk
open Iff renaming rfl→RM
open List renaming all_cons→PC,all_eq_true→OD,any_eq_true→PG,append_nil→Pj,cons_append→OG,countP_eq_zero→RI,countP_pos_iff→RH,drop_drop→PJ,drop_eq_nil_of_le→P2,eq_nil_of_length_eq_zero→OL,ext_getElem?→Pf,foldl_cons→Rp,getD→RL,getElem?_append_left→OK,getElem?_append_right→OI,getElem?_drop→OX,getElem?_eq_getElem→Ou,getElem?_eq_some_iff→Ol,getElem?_map→Oq,getElem?_of_mem→Py,getElem?_range→PP,getElem?_set→Pa,getElem?_set_self→Rs,getElem?_take→OE,getElem?_toArray→Qs,getElem_mem→Pn,getElem_of_mem→QB,length→Qh,length_append→OJ,length_drop→O5,length_map→On,length_pos_iff→Ov,length_set→Pi,length_singleton→QZ,length_take→O1,mapM_cons→Ru,map_append→O6,map_congr_left→OP,map_cons→Ow,map_drop→Pr,map_map→OQ,map_nil→O0,map_set→P1,mem_append→ON,mem_append_left→PY,mem_append_right→Qf,mem_cons→Oz,mem_cons_of_mem→Ot,mem_cons_self→Ox,mem_filterMap→PU,mem_iff_getElem?→P4,mem_map→OT,mem_map_of_mem→OR,mem_of_getElem?→OA,mem_of_mem_drop→Px,mem_of_mem_take→Pg,mem_singleton→PE,mk_mem_zipIdx_iff_getElem?→Q0,nil_append→OM,nodup_append→Qx,not_mem_nil→QX,range→P9,replicate→Pc,size_toArray→P3,take_append→Rg,take_of_length_le→O8,take_succ_cons→RC,take_take→Q2,take_zero→QK,zip_cons_cons→QF
open List.cons renaming injEq→PF
open Nat renaming add_assoc→Pl,add_mul→Qb,add_zero→Pd,beq→Ph,beq_refl→Qo,ble→QR,blt→PQ,blt_eq→P8,div_add_mod→Qq,div_lt_of_lt_mul→Qi,eq_of_beq_eq_true→O2,le_of_ble_eq_true→Qe,le_of_eq→RK,le_refl→OO,le_trans→Ps,lt_of_lt_of_le→Qd,min_eq_left→PA,mod_lt→QQ,mul_comm→P0,mul_le_mul_right→OH,strongRecOn→Ro,sub_mul→Rr,sub_zero→Rf,succ_mul→OY,zero_add→OS,zero_le→Pu,zero_mul→P6
open Ne renaming symm→O3
open Option renaming bind_some→PX,getD_some→Pw,map_some→OW
open Option.some renaming injEq→Om
open Prod.mk renaming injEq→OV
noncomputable section
set_option linter.unusedSectionVars false
set_option linter.unusedSimpArgs false
section
namespace Go.Awp
variable [Inhabited GMem]
def det:Op->Bool
 | .next _ false=>false
 |_=>true
theorem GI{P:Program}{nm:Nat->Nat}{o:Oper}{ρ:Operand->H}{ω:Nat->Option Own}{k:Eff->Prop}(hdet:det o.op=true)(hv:aT P nm o ρ ω k):∃e,aT P nm o ρ ω (λe'=>e'=e)/\k e:=by
 unfold aT at hv⊢
 cases hop:o.op<;>simp only[hop,FI]at hv⊢
 case next x is=>
  cases is with
  |false=>rw[hop]at hdet;cases hdet
  |true=>
   dsimp only at hv⊢
   (repeat' split at hv)<;>first
     |exact hv.elim
     |exact⟨_,⟨hv.1,rfl⟩,hv.2⟩
     |(simp only[*];exact⟨_,⟨hv.1,rfl⟩,hv.2⟩)
     |(simp only[*];exact⟨_,⟨trivial,rfl⟩,hv.2⟩)
 case buildSlice t len parts=>
  split at hv
  ·rename_i e sz by_ ht
   try simp only[ht]
   split at hv
   ·rename_i rows hr
    try simp only[hr]
    obtain⟨hv1,hv2⟩:=hv
    split at hv2
    ·rename_i d hd
     split at hv2
     ·rename_i hn
      try simp only[hd,RS hn]
      exact⟨_,⟨hv1,rfl⟩,hv2⟩
     ·rename_i hn
      try simp only[hd,RR hn]
      exact⟨_,⟨hv1,rfl⟩,hv2⟩
    ·rename_i hd
     try simp only[hd]
     exact⟨_,⟨hv1,rfl⟩,hv2⟩
   ·exact hv.elim
  ·exact hv.elim
 case box t x=>
  split at hv
  ·rename_i cs d hc hd
   obtain⟨q,h1,h2⟩:=hv
   try simp only[hc,hd]
   exact⟨_,⟨q,h1,rfl⟩,h2⟩
  ·exact hv.elim
 all_goals
  first
  |exact⟨_,rfl,hv⟩
  |((repeat' split at hv)<;>first
   |exact hv.elim
   |exact⟨_,rfl,hv⟩
   |exact⟨_,⟨hv.1,rfl⟩,hv.2⟩
   |(simp only[*];exact⟨_,rfl,hv⟩)
   |(simp only[*];exact⟨_,⟨hv.1,rfl⟩,hv.2⟩)
   |(obtain⟨⟨c1,c2⟩,es2,h1,h2⟩:=hv;simp only[*];exact⟨_,⟨⟨trivial,trivial⟩,es2,h1,rfl⟩,h2⟩)
   |(obtain⟨own,r,own',h1,h2,h3⟩:=hv;exact⟨_,⟨own,r,own',h1,h2,rfl⟩,h3⟩))
theorem nh{P:Program}{nm:Nat->Nat}{o:Oper}{ρ:Operand->H}{ω:Nat->Option Own}{k k':Eff->Prop}(h:∀e,k e->k' e)(hv:aT P nm o ρ ω k):aT P nm o ρ ω k':=by
 unfold aT at hv⊢
 cases hop:o.op<;>simp only[hop,FI]at hv⊢
 case next x is=>
  cases is with
  |false=>
   dsimp only at hv⊢
   (repeat' split at hv)<;>first
     |exact hv.elim
     |exact⟨hv.1,λhr=>h _ (hv.2.1 hr),λi p hp=>h _ (hv.2.2 i p hp)⟩
  |true=>
   dsimp only at hv⊢
   (repeat' split at hv)<;>first
     |exact hv.elim
     |exact⟨hv.1,h _ hv.2⟩
     |(simp only[*];exact⟨hv.1,h _ hv.2⟩)
     |(simp only[*];exact⟨trivial,h _ hv.2⟩)
 case buildSlice t len parts=>
  split at hv
  ·rename_i e sz by_ ht
   try simp only[ht]
   split at hv
   ·rename_i rows hr
    try simp only[hr]
    obtain⟨hv1,hv2⟩:=hv
    split at hv2
    ·rename_i d hd
     split at hv2
     ·rename_i hn
      try simp only[hd,RS hn]
      exact⟨hv1,h _ hv2⟩
     ·rename_i hn
      try simp only[hd,RR hn]
      exact⟨hv1,h _ hv2⟩
    ·rename_i hd
     try simp only[hd]
     exact⟨hv1,h _ hv2⟩
   ·exact hv.elim
  ·exact hv.elim
 case box t x=>
  split at hv
  ·rename_i cs d hc hd
   obtain⟨q,h1,h2⟩:=hv
   try simp only[hc,hd]
   exact⟨q,h1,h _ h2⟩
  ·exact hv.elim
 all_goals
  first
  |exact h _ hv
  |((repeat' split at hv)<;>first
   |exact hv.elim
   |exact h _ hv
   |exact⟨hv.1,h _ hv.2⟩
   |(simp only[*];exact h _ hv)
   |(simp only[*];exact⟨hv.1,h _ hv.2⟩)
   |(obtain⟨⟨c1,c2⟩,es2,h1,h2⟩:=hv;exact⟨⟨c1,c2⟩,es2,h1,h _ h2⟩)
   |(obtain⟨own,r,own',h1,h2,h3⟩:=hv;exact⟨own,r,own',h1,h2,h _ h3⟩))
theorem eZ{l:Array Operand}{ρ ρ':Operand->H}(h:∀x∈l,ρ' x=ρ x):l.toList.map ρ'=l.toList.map ρ:=
 OP λx hx=>h x (Q1.1 hx)
theorem oy{l:Array (Nat×Operand)}{ρ ρ':Operand->H}(h:∀x∈(l.toList.map (·.2)).toArray,ρ' x=ρ x):
 l.toList.map (λ(p:Nat×Operand)=>(p.1,ρ' p.2))=l.toList.map (λ(p:Nat×Operand)=>(p.1,ρ p.2)):=
 OP λx hx=>by rw[h x.2 (by simpa using ⟨x.1,by simpa using hx⟩)]
theorem rJ{l:Array (Nat×Operand)}{ρ ρ':Operand->H}(h:∀x∈(l.toList.map (·.2)).toArray,ρ' x=ρ x):
 l.toList.map (λ(p:Nat×Operand)=>(p.1,fnD (ρ' p.2)))=l.toList.map (λ(p:Nat×Operand)=>(p.1,fnD (ρ p.2))):=
 OP λx hx=>by rw[h x.2 (by simpa using ⟨x.1,by simpa using hx⟩)]
theorem sQ{ρ ρ':Operand->H}{lo:Option Operand}{d:Int}(h:∀x∈lo.toArray,ρ' x=ρ x):bnd ρ' lo d=bnd ρ lo d:=by
 cases lo with
 |none=>rfl
 |some x=>simp only[bnd,h x (by simp)]
theorem yb{P:Program}{nm:Nat->Nat}{o:Oper}{ρ ρ':Operand->H}{ω ω':Nat->Option Own}{e:Eff}(hρ:∀x∈o.op.operands,ρ' x=ρ x)(hω:∀n∈e.acc,ω' n=ω n)(hdet:det o.op=true)
 (hv:aT P nm o ρ ω (λe'=>e'=e)):aT P nm o ρ' ω' (λe'=>e'=e):=by
 unfold aT at hv⊢
 cases hop:o.op<;>simp only[hop,FI]at hv⊢<;>simp only[hop,Op.operands]at hρ
 case next x is=>
  cases is with
  |false=>rw[hop]at hdet;cases hdet
  |true=>
   dsimp only at hv⊢
   rw[hρ x (by simp)]
   (repeat' split at hv)<;>first
     |exact hv.elim
     |(obtain⟨hc1,rfl⟩:=hv;have hw:=hω _ (PE.2 rfl);revert hc1;simp only[*,and_true,imp_self];done)
 case build=>simp only[oy hρ];exact hv
 case buildSlice=>simp only[rJ hρ];exact hv
 case makeFunc fn first captured=>
  rw[eZ λx hx=>hρ x (by simp[hx]),eZ λx hx=>hρ x (by simp[hx])];exact hv
 case slice t x lo hi mx=>
  have hx:=hρ x (by simp)
  have hlo:=λd=>sQ (ρ:=ρ) (ρ':=ρ') (lo:=lo) (d:=d) λy hy=>hρ y (by simp[hy])
  have hhi:=λd=>sQ (ρ:=ρ) (ρ':=ρ') (lo:=hi) (d:=d) λy hy=>hρ y (by simp[hy])
  simp only[hx,hlo,hhi]
  (repeat' split at hv)<;>first
    |exact hv.elim
    |exact hv
    |(obtain⟨hc1,rfl⟩:=hv;have hw:=hω _ (PE.2 rfl);revert hc1;simp only[*,and_true,imp_self];done)
 case makeMap t hint=>
  have:od ρ' hint=od ρ hint:=by
   cases hint with
   |none=>rfl
   |some x=>simp only[od,hρ x (by simp)]
  rw[this];exact hv
 case call c=>
  cases hc:c.callee with
  |value f=>
   simp only[hc]at hv⊢
   simp only[Call.operands,hc]at hρ
   rw[hρ f (by simp),eZ λx hx=>hρ x (by simp[hx])]
   split at hv
   ·obtain⟨own,r,own',h1,h2,rfl⟩:=hv
    exact⟨own,r,own',h1,λp hp=>by rw[hω p.1 (OR hp)];exact h2 p hp,rfl⟩
   ·obtain⟨own,r,own',h1,h2,rfl⟩:=hv
    exact⟨own,r,own',h1,λp hp=>by rw[hω p.1 (OR hp)];exact h2 p hp,rfl⟩
   ·exact hv
  |invoke r m=>simp only[hc]at hv
  |builtin b=>
   simp only[hc]at hv⊢
   simp only[Call.operands,hc]at hρ
   rw[eZ λx hx=>hρ x (by simpa using hx)]
   (repeat' split at hv)<;>first
     |exact hv.elim
     |exact hv
     |(simp only[*];exact hv)
     |(obtain⟨hc1,rfl⟩:=hv;have hw:=hω _ (PE.2 rfl);revert hc1;simp only[*,and_true,imp_self];done)
     |skip
 all_goals(try simp only[Array.mem_def,Oz,QX,or_false,forall_eq_or_imp,forall_eq]at hρ)
 all_goals first
  |exact hv
  |(simp only[hρ];first
   |exact hv
   |((repeat' split at hv)<;>first
    |exact hv.elim
    |exact hv
    |(subst hv;have hw:=hω _ (PE.2 rfl);simp only[*];done)
    |(obtain⟨hc1,rfl⟩:=hv;have hw:=hω _ (PE.2 rfl);revert hc1;simp only[*,and_true,imp_self];done)
    |(obtain⟨hc1,rfl⟩:=hv;have hw:=hω _ (PE.2 rfl);simp only[*,and_self];done)
    |(obtain⟨hc1,es2,hp,rfl⟩:=hv;have hw:=hω _ (PE.2 rfl);simp only[*];exact⟨⟨trivial,trivial⟩,es2,hp,rfl⟩)))
theorem Ad{P:Program}{nm:Nat->Nat}{o:Oper}{ρ:Operand->H}{ω:Nat->Option Own}{k:Eff->Prop}(hdet:det o.op=true)(hv:u5 P nm o ρ ω k):∃e,u5 P nm o ρ ω (λe'=>e'=e)/\k e:=by
 rcases hv with hv|⟨e,h1,h2⟩
 ·obtain⟨e,h1,h2⟩:=GI hdet hv
  exact⟨e, .inl h1,h2⟩
 ·exact⟨e, .inr ⟨e,h1,rfl⟩,h2⟩
theorem kv{P:Program}{nm:Nat->Nat}{o:Oper}{ρ:Operand->H}{ω:Nat->Option Own}{k k':Eff->Prop}(h:∀e,k e->k' e)(hv:u5 P nm o ρ ω k):u5 P nm o ρ ω k':=by
 rcases hv with hv|⟨e,h1,h2⟩
 ·exact .inl (nh h hv)
 ·exact .inr ⟨e,h1,h e h2⟩
theorem yc{P:Program}{nm:Nat->Nat}{o:Oper}{ρ ρ':Operand->H}{ω ω':Nat->Option Own}{e:Eff}(hρ:∀x∈o.op.operands,ρ' x=ρ x)(hω:∀n∈e.acc,ω' n=ω n)(hdet:det o.op=true)
 (hv:u5 P nm o ρ ω (λe'=>e'=e)):u5 P nm o ρ' ω' (λe'=>e'=e):=by
 rcases hv with hv|⟨e',h1,rfl⟩
 ·exact .inl (yb hρ hω hdet hv)
 ·exact .inr ⟨_,h1.congr hρ hω,rfl⟩
end Go.Awp
end
section
namespace Go.Awp
variable [Inhabited GMem]
structure Tr1 where
 e:Eff
 ex:Bool
def je(P:Program)(N:Nat->Prop)(nm:Nat->Nat)(all:List Oper):List Oper->ab->List Tr1->(ab->List Tr1->Prop)->Prop
 |[],S,tr,k=>k S tr
 |o::os,S,tr,k=>
  ((∀d,o.dst=some d->N d)/\det o.op=true)/\
  match o.guard with
  |none=>u5 P nm o (ev S) S.own? (λe=>(∀d∈e.new,S.fresh d=true/\d<given)/\je P N nm all os (S.app o.dst e) (tr++[⟨e,true⟩]) k)
  |some (j,want)=>match jr S all j want with
   |some b=>aIf (b==want) (u5 P nm o (ev S) S.own? (λe=>(∀d∈e.new,S.fresh d=true/\d<given)/\je P N nm all os (S.app o.dst e) (tr++[⟨e,true⟩]) k))
    (je P N nm all os (S.app o.dst {val:= .tup []}) (tr++[⟨{val:= .tup []},false⟩]) k)
   |none=>False
def Did(P:Program)(N:Nat->Prop)(nm:Nat->Nat)(all:List Oper)(o:Oper)(S:ab)(t:Tr1):Prop:=
 ((∀d,o.dst=some d->N d)/\det o.op=true)/\
 (match o.guard with
  |none=>t.ex=true
  |some (j,want)=>∃b,jr S all j want=some b/\t.ex=(b==want))/\
 (t.ex=true->u5 P nm o (ev S) S.own? (λe'=>e'=t.e)/\∀d∈t.e.new,S.fresh d=true/\d<given)/\(t.ex=false->t.e={val:= .tup []})
def stE(E:Nat->Bool):Nat->List (Oper×Tr1)->ab->ab
 |_,[],S=>S
 |i,(o,t)::r,S=>stE E (i+1) r (if E i then S.app o.dst t.e else S)
def jg(P:Program)(N:Nat->Prop)(nm:Nat->Nat)(all:List Oper):List (Oper×Tr1)->ab->Prop
 |[],_=>True
 |(o,t)::r,S=>Did P N nm all o S t/\jg P N nm all r (S.app o.dst t.e)
theorem re{P:Program}{N:Nat->Prop}{nm:Nat->Nat}{all:List Oper}:∀{os:List Oper} {S:ab} {tr:List Tr1} {k:ab->List Tr1->Prop},je P N nm all os S tr k->
 ∃l:List (Oper×Tr1),l.map (·.1)=os/\jg P N nm all l S/\k (stE (λ_=>true) 0 l S) (tr++l.map (·.2))
 |[],S,tr,k,h=>⟨[],rfl,trivial,by simpa[je,stE]using h⟩
 |o::os,S,tr,k,h=>by
  have shift:∀(l:List (Oper×Tr1)) (i:Nat) (S:ab),stE (λ_=>true) i l S=stE (λ_=>true) 0 l S:=by
   intro l
   induction l with
   |nil=>intro i S;rfl
   |cons x r ih=>intro i S;obtain⟨o,t⟩:=x;simp only[stE];rw[ih (i+1),ih (0+1)]
  simp only[je]at h
  obtain⟨hd,h⟩:=h
  have go:∀e,u5 P nm o (ev S) S.own? (λe'=>e'=e)->(∀d∈e.new,S.fresh d=true/\d<given)->(match o.guard with|none=>True|some (j,want)=>∃b,jr S all j want=some b/\(b==want)=true)->
   je P N nm all os (S.app o.dst e) (tr++[⟨e,true⟩]) k->∃l:List (Oper×Tr1),l.map (·.1)=o::os/\jg P N nm all l S/\k (stE (λ_=>true) 0 l S) (tr++l.map (·.2)):=by
   intro e hv hn hg hk
   obtain⟨l,h1,h2,h3⟩:=re hk
   refine⟨(o,⟨e,true⟩)::l,by simp[h1],⟨⟨hd,?_,λ_=>⟨hv,hn⟩,(λh=>by cases h)⟩,h2⟩,?_⟩
   ·cases hgu:o.guard with
    |none=>rfl
    |some g=>
     obtain⟨j,want⟩:=g
     rw[hgu]at hg
     obtain⟨b,hb1,hb2⟩:=hg
     exact⟨b,hb1,hb2.symm⟩
   ·simp only[stE,RO,Ow]
    rw[shift];simpa using h3
  cases hg:o.guard with
  |none=>
   simp only[hg]at h
   obtain⟨e,hv,hn,hk⟩:=Ad hd.2 h
   exact go e hv hn (by rw[hg];trivial) hk
  |some g=>
   obtain⟨j,want⟩:=g
   simp only[hg]at h
   split at h
   ·rename_i b hb
    by_cases hbw:(b==want)=true
    ·have h:=h.1 hbw
     obtain⟨e,hv,hn,hk⟩:=Ad hd.2 h
     exact go e hv hn (by rw[hg];exact⟨b,hb,hbw⟩) hk
    ·have hbw:(b==want)=false:=by simpa using hbw
     have h:=h.2 hbw
     obtain⟨l,h1,h2,h3⟩:=re h
     refine⟨(o,⟨{val:= .tup []},false⟩)::l,by simp[h1],⟨⟨hd,by rw[hg];exact⟨b,hb,hbw.symm⟩,(λh=>by cases h),λ_=>rfl⟩,h2⟩,?_⟩
     simp only[stE,RO,Ow]
     rw[shift];simpa using h3
   ·exact h.elim
def Mb(acc:List Nat)(o:Oper):Nat:=o.after.toList.foldl (λs e=>if Region.binds .any e then s|||(2^e.on|||(acc[e.on]?).getD 0)else s) 0
def DV(acc:List Nat):List Oper->List Nat
 |[]=>acc
 |o::r=>DV (acc++[Mb acc o]) r
inductive lv (ops:List Oper):Nat->Nat->Prop
 |one {k:Nat} {o:Oper} {e:Edge} (ho:ops[k]?=some o) (he:e∈o.after) (hb:Region.binds .any e=true):lv ops e.on k
 |more {i k:Nat} {o:Oper} {e:Edge} (ho:ops[k]?=some o) (he:e∈o.after) (hb:Region.binds .any e=true) (h:lv ops i e.on):lv ops i k
theorem BQ{ops:List Oper}{acc:List Nat}{k:Nat}{o:Oper}(ho:ops[k]?=some o)(hacc:∀j m i,acc[j]?=some m->m.testBit i=true->lv ops i j):
 ∀i,(Mb acc o).testBit i=true->lv ops i k:=by
 have key:∀(l:List Edge) (s:Nat),(∀e∈l,e∈o.after)->(∀i,s.testBit i=true->lv ops i k)->
  ∀i,(l.foldl (λs e=>if Region.binds .any e then s|||(2^e.on|||(acc[e.on]?).getD 0)else s) s).testBit i=true->lv ops i k:=by
  intro l
  induction l with
  |nil=>intro s _ hs i h;exact hs i h
  |cons e r ih=>
   intro s hl hs i h
   simp only[Rp]at h
   refine ih _ (λe' he'=>hl e' (Ot _ he')) ?_ i h
   intro i' h'
   by_cases hb:Region.binds .any e=true
   ·rw[RS hb]at h'
    simp only[Nat.testBit_or,Pk]at h'
    rcases h' with h'|h'|h'
    ·exact hs i' h'
    ·rw[Nat.testBit_two_pow]at h'
     have:e.on=i':=by simpa using h'
     subst this
     exact .one ho (hl e Ox) hb
    ·cases hq:acc[e.on]? with
     |none=>rw[hq]at h';simp at h'
     |some m=>rw[hq]at h';exact .more ho (hl e Ox) hb (hacc e.on m i' hq h')
   ·rw[RR hb]at h';exact hs i' h'
 intro i h
 exact key o.after.toList 0 (λe he=>Q1.1 he) (λi h=>by simp at h) i h
theorem sO{ops:List Oper}:∀(l:List Oper) (acc:List Nat),(∀j o,l[j]?=some o->ops[acc.length+j]?=some o)->(∀j m i,acc[j]?=some m->m.testBit i=true->lv ops i j)->
 ∀j m i,(DV acc l)[j]?=some m->m.testBit i=true->lv ops i j
 |[],acc,_,hacc,j,m,i,hm,hi=>hacc j m i hm hi
 |o::r,acc,hl,hacc,j,m,i,hm,hi=>by
  simp only[DV]at hm
  refine sO r (acc++[Mb acc o]) (λj o' ho'=> ?_) (λj m i hm hi=> ?_) j m i hm hi
  ·have:=hl (j+1) o' (by simpa using ho')
   rw[OJ,QZ]
   rwa [show acc.length+1+j=acc.length+(j+1) by omega]
  ·by_cases hj:j<acc.length
   ·rw[OK hj]at hm;exact hacc j m i hm hi
   ·rw[OI (by omega)]at hm
    cases hjj:j-acc.length with
    |zero=>
     rw[hjj]at hm;simp at hm;subst hm
     have:j=acc.length:=by omega
     subst this
     exact BQ (by simpa using hl 0 o rfl) hacc i hi
    |succ q=>rw[hjj]at hm;simp at hm
def looks(all:List Oper)(o:Oper):List Tmp:=
 (o.op.operands.toList.filterMap λ| .tmp t=>some t|_=>none)++
 (match o.guard with
  |some (g,_)=>match all[g]? with
   |some x=>x.dst.toList
   |none=>[]
  |none=>[])
def Eff.names(e:Eff):List Nat:=e.upd.map (·.1)++e.new
def Eff.has(e:Eff)(n:Nat):Bool:=H.has n e.val||e.upd.any λu=>match u.2 with
 |some o=>Own.has n o
 |none=>false
def lF(all:List Oper)(x y:Oper×Tr1):Bool:=
 (match x.1.dst with|some d=>(looks all y.1).contains d|none=>false)||
 (match y.1.dst with|some d=>(looks all x.1).contains d|none=>false)||
 (match x.1.dst,y.1.dst with|some a,some b=>Ph a b|_,_=>false)||
 (x.2.e.names.any λn=>y.2.e.acc.contains n||y.2.e.names.contains n)||
 (y.2.e.names.any λn=>x.2.e.acc.contains n)||
 (x.2.e.new.any λn=>y.2.e.has n)||
 (y.2.e.new.any λn=>x.2.e.has n)
def j7(all:List Oper)(bs:List Nat):Nat->List (Oper×Tr1)->List (Oper×Tr1)->Bool
 |_,_,[]=>true
 |k,done,y::r=>(done.zipIdx.all λx=> !lF all x.1 y||((bs[k]?).getD 0).testBit x.2)&&j7 all bs (k+1) (done++[y]) r
def xe(ops:List Oper)(tr:List Tr1):Bool:=
 j7 ops (DV [] ops) 0 [] (ops.zip tr)&&ops.zipIdx.all (λx=>x.1.after.all λe=> !Region.binds .any e||PQ e.on x.2)
theorem mE{all:List Oper}{bs:List Nat}:∀(l done:List (Oper×Tr1)),j7 all bs done.length done l=true->∀(i k:Nat) (x y:Oper×Tr1),i<k->done.length<=k->(done++l)[i]?=some x->(done++l)[k]?=some y->
 lF all x y=true->((bs[k]?).getD 0).testBit i=true
 |[],done,_,i,k,x,y,hik,hk,hx,hy,_=>by
  rw[Pj]at hy
  have:=(Ol.1 hy).1;omega
 |z::r,done,h,i,k,x,y,hik,hk,hx,hy,hc=>by
  simp only[j7,Oy]at h
  by_cases hkd:k=done.length
  ·subst hkd
   rw[OI (OO _)]at hy
   simp at hy;subst hy
   rw[OK hik]at hx
   have h1:=h.1
   rw[OD]at h1
   have:=h1 (x,i) (Q0.2 hx)
   simp only[hc,PK,Bool.false_or]at this
   exact this
  ·have h2:=h.2
   have e:done.length+1=(done++[z]).length:=by simp
   rw[e]at h2
   exact mE r (done++[z]) h2 i k x y hik (by simp;omega) (by simpa using hx) (by simpa using hy) hc
end Go.Awp
end
section
namespace Go.Awp
variable [Inhabited GMem]
theorem vP{α:Type}:∀{l:List (Nat×α)} {n:Nat},n∉l.map (·.1)->gt l n=none
 |[],_,_=>rfl
 |(k,x)::r,n,h=>by
  simp only[Ow,Oz,not_or]at h
  rw[af,RR (λe=>h.1 e.symm)]
  exact vP h.2
theorem fN{α:Type}:∀{l:List (Nat×α)} {n:Nat},n∈l.map (·.1)->∃x,gt l n=some x
 |[],_,h=>by simp at h
 |(k,x)::r,n,h=>by
  rw[af]
  by_cases hk:k=n
  ·exact⟨x,by rw[RS hk]⟩
  ·rw[RR hk]
   simp only[Ow,Oz]at h
   exact fN (h.resolve_left λe=>hk e.symm)
theorem po{t:Nat}{E E':Nat->Bool}:∀(l:List (Oper×Tr1)) (i:Nat) (S S':ab),gt S.tmps t=gt S'.tmps t->(∀k x,l[k]?=some x->x.1.dst=some t->E (i+k)=E' (i+k))->
 gt (stE E i l S).tmps t=gt (stE E' i l S').tmps t
 |[],_,_,_,h,_=>h
 |(o,tr)::r,i,S,S',h,hE=>by
  simp only[stE]
  refine po r (i+1) _ _ ?_ λk x hx hd=>by
   have:=hE (k+1) x (by simpa using hx) hd
   rwa [show i+1+k=i+(k+1) by omega]
  by_cases hd:o.dst=some t
  ·have:=hE 0 (o,tr) rfl hd
   simp only[Pd]at this
   rw[this]
   cases E' i with
   |true=>simp[ab.app,mR,hd,af]
   |false=>simpa using h
  ·have key:∀S:ab,gt (S.app o.dst tr.e).tmps t=gt S.tmps t:=by
    intro S
    simp only[ab.app,mR]
    cases hdd:o.dst with
    |none=>rfl
    |some d=>simp only[af];rw[RR (λe=>hd (by rw[hdd,e]))]
   cases E i<;>cases E' i<;>simp[key,h]
theorem pm{n:Nat}{E E':Nat->Bool}:∀(l:List (Oper×Tr1)) (i:Nat) (S S':ab),gt S.own n=gt S'.own n->(∀k x,l[k]?=some x->n∈x.2.e.upd.map (·.1)->E (i+k)=E' (i+k))->
 gt (stE E i l S).own n=gt (stE E' i l S').own n
 |[],_,_,_,h,_=>h
 |(o,tr)::r,i,S,S',h,hE=>by
  simp only[stE]
  refine pm r (i+1) _ _ ?_ λk x hx hd=>by
   have:=hE (k+1) x (by simpa using hx) hd
   rwa [show i+1+k=i+(k+1) by omega]
  by_cases hd:n∈tr.e.upd.map (·.1)
  ·have:=hE 0 (o,tr) rfl hd
   simp only[Pd]at this
   rw[this]
   cases E' i with
   |true=>
    obtain⟨x,hx⟩:=fN hd
    simp[ab.app,eG,hx]
   |false=>simpa using h
  ·have key:∀S:ab,gt (S.app o.dst tr.e).own n=gt S.own n:=by
    intro S
    simp only[ab.app,eG,vP hd]
   cases E i<;>cases E' i<;>simp[key,h]
theorem pk{E:Nat->Bool}:∀(l:List (Oper×Tr1)) (i:Nat) (S:ab) (p:Nat×H),p∈(stE E i l S).tmps->p∈S.tmps\/∃k x,l[k]?=some x/\E (i+k)=true/\x.1.dst=some p.1/\p.2=x.2.e.val
 |[],_,_,_,h=> .inl h
 |(o,tr)::r,i,S,p,h=>by
  simp only[stE]at h
  rcases pk r (i+1) _ p h with h1|⟨k,x,h1,h2,h3⟩
  ·cases hE:E i with
   |false=>rw[hE]at h1;exact .inl h1
   |true=>
    rw[hE]at h1
    simp only[RO,ab.app,mR]at h1
    cases hd:o.dst with
    |none=>rw[hd]at h1;exact .inl h1
    |some d=>
     rw[hd]at h1
     rcases Oz.1 h1 with h2|h2
     ·exact .inr ⟨0,(o,tr),rfl,by simpa using hE,by rw[h2];exact hd,by rw[h2]⟩
     ·exact .inl h2
  ·exact .inr ⟨k+1,x,by simpa using h1,by rwa [show i+(k+1)=i+1+k by omega],h3⟩
theorem pj{E:Nat->Bool}:∀(l:List (Oper×Tr1)) (i:Nat) (S:ab) (p:Nat×Option Own),p∈(stE E i l S).own->p∈S.own\/∃k x,l[k]?=some x/\E (i+k)=true/\p∈x.2.e.upd
 |[],_,_,_,h=> .inl h
 |(o,tr)::r,i,S,p,h=>by
  simp only[stE]at h
  rcases pj r (i+1) _ p h with h1|⟨k,x,h1,h2,h3⟩
  ·cases hE:E i with
   |false=>rw[hE]at h1;exact .inl h1
   |true=>
    rw[hE]at h1
    simp only[RO,ab.app]at h1
    rcases ON.1 h1 with h2|h2
    ·exact .inr ⟨0,(o,tr),rfl,by simpa using hE,h2⟩
    ·exact .inl h2
  ·exact .inr ⟨k+1,x,by simpa using h1,by rwa [show i+(k+1)=i+1+k by omega],h3⟩
theorem sB{E:Nat->Bool}:∀(l:List (Oper×Tr1)) (i:Nat) (S:ab),(∀p∈S.tmps,p∈(stE E i l S).tmps)/\(∀p∈S.own,p∈(stE E i l S).own)
 |[],_,_=>⟨λ_ h=>h,λ_ h=>h⟩
 |(o,tr)::r,i,S=>by
  simp only[stE]
  obtain⟨h1,h2⟩:=sB r (i+1) (if E i then S.app o.dst tr.e else S) (E:=E)
  refine⟨λp hp=>h1 p ?_,λp hp=>h2 p ?_⟩
  ·cases E i with
   |false=>simpa using hp
   |true=>
    simp only[RO,ab.app,mR]
    cases o.dst with
    |none=>exact hp
    |some d=>exact Ot _ hp
  ·cases E i with
   |false=>simpa using hp
   |true=>simp only[RO,ab.app];exact Qf _ hp
theorem wE{E:Nat->Bool}:∀(l:List (Oper×Tr1)) (i:Nat) (S:ab) (k:Nat) (x:Oper×Tr1),l[k]?=some x->E (i+k)=true->
 (∀d,x.1.dst=some d->(d,x.2.e.val)∈(stE E i l S).tmps)/\(∀p∈x.2.e.upd,p∈(stE E i l S).own)
 |[],_,_,k,x,h,_=>by simp at h
 |(o,tr)::r,i,S,0,x,h,hE=>by
  simp at h;subst h
  simp only[stE]
  simp only[Pd]at hE
  obtain⟨h1,h2⟩:=sB r (i+1) (S.app o.dst tr.e) (E:=E)
  rw[hE]
  refine⟨λd hd=>h1 _ ?_,λp hp=>h2 _ ?_⟩
  ·try simp only at hd
   simp[ab.app,mR,hd]
  ·simp only[ab.app];exact PY _ hp
 |(o,tr)::r,i,S,k+1,x,h,hE=>by
  simp only[stE]
  exact wE r (i+1) _ k x (by simpa using h) (by rwa [show i+1+k=i+(k+1) by omega])
theorem mK{t:Nat}{E:Nat->Bool}:∀(l:List (Oper×Tr1)) (i:Nat) (S:ab) (k:Nat) (x:Oper×Tr1),l[k]?=some x->x.1.dst=some t->E (i+k)=true->
 (∀j y,l[j]?=some y->k<j->y.1.dst=some t->E (i+j)=false)->gt (stE E i l S).tmps t=some x.2.e.val
 |[],_,_,k,x,h,_,_,_=>by simp at h
 |(o,tr)::r,i,S,0,x,h,hd,hE,hl=>by
  simp at h;subst h
  simp only[stE]
  simp only[Pd]at hE
  rw[hE]
  have:=po (t:=t) (E:=E) (E':=λ_=>false) r (i+1) (if true=true then S.app o.dst tr.e else S) (if true=true then S.app o.dst tr.e else S) rfl λj y hy hdy=>by
   have:=hl (j+1) y (by simpa using hy) (by omega) hdy
   rwa [show i+1+j=i+(j+1) by omega]
  rw[this]
  have none:∀(l:List (Oper×Tr1)) (i:Nat) (S:ab),stE (λ_=>false) i l S=S:=by
   intro l
   induction l with
   |nil=>intro i S;rfl
   |cons y r ih=>intro i S;obtain⟨o,t⟩:=y;simp only[stE];exact ih _ _
  rw[none]
  try simp only at hd
  simp[ab.app,mR,hd,af]
 |(o,tr)::r,i,S,k+1,x,h,hd,hE,hl=>by
  simp only[stE]
  exact mK r (i+1) _ k x (by simpa using h) hd (by rwa [show i+1+k=i+(k+1) by omega]) λj y hy hkj hdy=>by
   have:=hl (j+1) y (by simpa using hy) (by omega) hdy
   rwa [show i+1+j=i+(j+1) by omega]
theorem mJ{n:Nat}{E:Nat->Bool}:∀(l:List (Oper×Tr1)) (i:Nat) (S:ab) (k:Nat) (x:Oper×Tr1),l[k]?=some x->n∈x.2.e.upd.map (·.1)->E (i+k)=true->
 (∀j y,l[j]?=some y->k<j->n∈y.2.e.upd.map (·.1)->E (i+j)=false)->gt (stE E i l S).own n=gt x.2.e.upd n
 |[],_,_,k,x,h,_,_,_=>by simp at h
 |(o,tr)::r,i,S,0,x,h,hd,hE,hl=>by
  simp at h;subst h
  simp only[stE]
  simp only[Pd]at hE
  rw[hE]
  have:=pm (n:=n) (E:=E) (E':=λ_=>false) r (i+1) (if true=true then S.app o.dst tr.e else S) (if true=true then S.app o.dst tr.e else S) rfl λj y hy hdy=>by
   have:=hl (j+1) y (by simpa using hy) (by omega) hdy
   rwa [show i+1+j=i+(j+1) by omega]
  rw[this]
  have none:∀(l:List (Oper×Tr1)) (i:Nat) (S:ab),stE (λ_=>false) i l S=S:=by
   intro l
   induction l with
   |nil=>intro i S;rfl
   |cons y r ih=>intro i S;obtain⟨o,t⟩:=y;simp only[stE];exact ih _ _
  rw[none]
  obtain⟨u,hu⟩:=fN hd
  simp[ab.app,eG,hu]
 |(o,tr)::r,i,S,k+1,x,h,hd,hE,hl=>by
  simp only[stE]
  exact mJ r (i+1) _ k x (by simpa using h) hd (by rwa [show i+1+k=i+(k+1) by omega]) λj y hy hkj hdy=>by
   have:=hl (j+1) y (by simpa using hy) (by omega) hdy
   rwa [show i+1+j=i+(j+1) by omega]
theorem jg.at{P:Program}{N:Nat->Prop}{nm:Nat->Nat}{all:List Oper}:∀(l:List (Oper×Tr1)) (i:Nat) (S:ab),jg P N nm all l S->∀k x,l[k]?=some x->
 Did P N nm all x.1 (stE (λj=>decide (j<i+k)) i l S) x.2
 |[],_,_,_,k,x,h=>by simp at h
 |(o,t)::r,i,S,h,0,x,hx=>by
  simp at hx;subst hx
  have none:∀(l:List (Oper×Tr1)) (j:Nat) (S:ab),i<=j->stE (λk=>decide (k<i+0)) j l S=S:=by
   intro l
   induction l with
   |nil=>intro j S _;rfl
   |cons y r ih=>intro j S hj;obtain⟨o,t⟩:=y;simp only[stE];rw[RR (by simp;omega)];exact ih _ _ (by omega)
  rw[none _ _ _ (OO _)]
  exact h.1
 |(o,t)::r,i,S,h,k+1,x,hx=>by
  have:=jg.at r (i+1) _ h.2 k x (by simpa using hx)
  simp only[stE]
  rw[RS (by simp)]
  rwa [show i+1+k=i+(k+1) by omega]at this
end Go.Awp
end
section
namespace Go.Awp
variable [Inhabited GMem]
theorem rL{all:List Oper}{o:Oper}{t:Tmp}(h:Operand.tmp t∈o.op.operands):t∈looks all o:=by
 unfold looks
 refine PY _ (PU.2 ⟨_,Q1.2 h,rfl⟩)
theorem tJ{S S':ab}{all:List Oper}{o:Oper}{j:Nat}{w:Bool}(hg:o.guard=some (j,w))(h:∀t∈looks all o,gt S'.tmps t=gt S.tmps t):jr S' all j w=jr S all j w:=by
 unfold jr
 cases hj:all[j]? with
 |none=>rfl
 |some x=>
  cases hd:x.dst with
  |none=>simp[hd]
  |some d=>
   have:d∈looks all o:=by
    unfold looks
    refine Qf _ ?_
    simp[hg,hj,hd]
   simp only[hd,ab.get,h d this]
section
variable {C:Ctx} {nm:Nat->Nat} {ops:Array Oper} {l:List (Oper×Tr1)} {S0:ab}
def a_(listed:Array Bool)(k:Nat):Bool:=listed.getD k false
theorem tq(hl:l.map (·.1)=ops.toList)(hdid:jg C.P C.wr nm ops.toList l S0)
 (hp:j7 ops.toList (DV [] ops.toList) 0 [] l=true){listed:Array Bool}(hsz:listed.size=ops.size)
 (hdown:∀k o e,ops[k]?=some o->a_ listed k=true->e∈o.after->Region.binds .any e=true->a_ listed e.on=true)
 {i:Nat}{x:Oper×Tr1}(hi:l[i]?=some x)(hni:a_ listed i=false)(hready:∀e∈x.1.after,Region.binds .any e=true->a_ listed e.on=true)
 {E:Env}{M:Mem}{a:Act}{w:World}(hs:Sim C E M (stE (a_ listed) 0 l S0) a w){K:Act->World->Prop}{Q:Exit->Act->World->Prop}
 (hK:∀E' M' a' w',Sim C E' M' (stE (a_ (listed.setIfInBounds i true)) 0 l S0) a' w'->K a' w'):wpOp C.P ops Q i K a w:=by
 have hio:ops[i]?=some x.1:=by
  have:(l.map (·.1))[i]?=some x.1:=by rw[Oq,hi];rfl
  rw[hl]at this;simpa using this
 have hlo:∀(k:Nat) (y:Oper×Tr1),l[k]?=some y->ops[k]?=some y.1:=by
  intro k y hy
  have:(l.map (·.1))[k]?=some y.1:=by rw[Oq,hy];rfl
  rw[hl]at this;simpa using this
 have hilt:i<listed.size:=by rw[hsz];exact(OC.1 hio).1
 have hahead:∀j k,lv ops.toList j k->a_ listed k=true->a_ listed j=true:=by
  intro j k h
  induction h with
  |one ho he hb=>intro hk;exact hdown _ _ _ (by simpa using ho) hk he hb
  |more ho he hb _ ih=>intro hk;exact ih (hdown _ _ _ (by simpa using ho) hk he hb)
 have hbef:∀j k m,(DV [] ops.toList)[k]?=some m->m.testBit j=true->lv ops.toList j k:=λj k m hm hb=>
  sO ops.toList [] (λj o h=>by simpa using h) (λj m i h=>by simp at h) k m j hm hb
 have horder:∀(j k:Nat) (y z:Oper×Tr1),j<k->l[j]?=some y->l[k]?=some z->lF ops.toList y z=true->lv ops.toList j k:=by
  intro j k y z hjk hy hz hc
  have:=mE l [] hp j k y z hjk (Pu _) (by simpa using hy) (by simpa using hz) hc
  cases hm:(DV [] ops.toList)[k]? with
  |none=>rw[hm]at this;simp at this
  |some m=>rw[hm]at this;exact hbef j k m hm this
 have hreadyA:∀j,lv ops.toList j i->a_ listed j=true:=by
  intro j h
  cases h with
  |one ho he hb=>exact hready _ (by rw[Pm,hio]at ho;cases ho;exact he) hb
  |more ho he hb h=>exact hahead _ _ h (hready _ (by rw[Pm,hio]at ho;cases ho;exact he) hb)
 have hsame:∀(k:Nat) (y:Oper×Tr1),l[k]?=some y->(lF ops.toList y x=true\/lF ops.toList x y=true)->k≠i->a_ listed k=decide (k<i):=by
  intro k y hy hc hki
  rcases Nat.lt_or_gt_of_ne hki with h|h
  ·have hc':lF ops.toList y x=true:=by
    rcases hc with hc|hc
    ·exact hc
    ·simp only[lF,Pk,PG]at hc⊢
     rcases hc with(((((h1|h1)|h1)|⟨n,h2,h3⟩)|⟨n,h2,h3⟩)|⟨n,h2,h3⟩)|⟨n,h2,h3⟩
     ·exact .inl (.inl (.inl (.inl (.inl (.inr h1)))))
     ·exact .inl (.inl (.inl (.inl (.inl (.inl h1)))))
     ·refine .inl (.inl (.inl (.inl (.inr ?_))))
      cases hx:x.1.dst<;>cases hyd:y.1.dst<;>rw[hx,hyd]at h1<;>simp at h1⊢
      exact h1.symm
     ·rcases h3 with h3|h3
      ·exact .inl (.inl (.inr ⟨n,h2,h3⟩))
      ·exact .inl (.inl (.inl (.inr ⟨n,by simpa using h3, .inr (by simpa using h2)⟩)))
     ·exact .inl (.inl (.inl (.inr ⟨n,h2, .inl h3⟩)))
     ·exact .inr ⟨n,h2,h3⟩
     ·exact .inl (.inr ⟨n,h2,h3⟩)
   rw[hreadyA k (horder k i y x h hy hi hc')];simp[h]
  ·have hc':lF ops.toList x y=true:=by
    rcases hc with hc|hc
    ·simp only[lF,Pk,PG]at hc⊢
     rcases hc with(((((h1|h1)|h1)|⟨n,h2,h3⟩)|⟨n,h2,h3⟩)|⟨n,h2,h3⟩)|⟨n,h2,h3⟩
     ·exact .inl (.inl (.inl (.inl (.inl (.inr h1)))))
     ·exact .inl (.inl (.inl (.inl (.inl (.inl h1)))))
     ·refine .inl (.inl (.inl (.inl (.inr ?_))))
      cases hx:x.1.dst<;>cases hyd:y.1.dst<;>rw[hx,hyd]at h1<;>simp at h1⊢
      exact h1.symm
     ·rcases h3 with h3|h3
      ·exact .inl (.inl (.inr ⟨n,h2,h3⟩))
      ·exact .inl (.inl (.inl (.inr ⟨n,by simpa using h3, .inr (by simpa using h2)⟩)))
     ·exact .inl (.inl (.inl (.inr ⟨n,h2, .inl h3⟩)))
     ·exact .inr ⟨n,h2,h3⟩
     ·exact .inl (.inr ⟨n,h2,h3⟩)
    ·exact hc
   have hA:=horder i k x y h hi hy hc'
   cases hd:a_ listed k with
   |false=>simp;omega
   |true=>rw[hahead i k hA hd]at hni;cases hni
 have hat:=jg.at l 0 S0 hdid i x hi
 simp only[OS]at hat
 have hwr_tmp:∀t,(t∈looks ops.toList x.1\/x.1.dst=some t)->∀(k:Nat) (y:Oper×Tr1),l[k]?=some y->y.1.dst=some t->k≠i->a_ listed k=decide (k<i):=by
  intro t ht k y hy hyd hki
  refine hsame k y hy ?_ hki
  rcases ht with ht|ht
  ·left;simp only[lF,hyd,Pk];exact .inl (.inl (.inl (.inl (.inl (.inl (by simpa using ht))))))
  ·left;simp only[lF,hyd,ht,Pk];exact .inl (.inl (.inl (.inl (.inr (Qo t)))))
 have hlook:∀t∈looks ops.toList x.1,gt (stE (a_ listed) 0 l S0).tmps t=gt (stE (λj=>decide (j<i)) 0 l S0).tmps t:=by
  intro t ht
  refine po l 0 S0 S0 rfl λk y hy hyd=> ?_
  simp only[OS]
  by_cases hki:k=i
  ·subst hki;rw[hni];simp
  ·exact hwr_tmp t (.inl ht) k y hy hyd hki
 have hwr_own:∀n,(n∈x.2.e.acc\/n∈x.2.e.names)->∀(k:Nat) (y:Oper×Tr1),l[k]?=some y->n∈y.2.e.upd.map (·.1)->k≠i->a_ listed k=decide (k<i):=by
  intro n hn k y hy hyn hki
  refine hsame k y hy (.inl ?_) hki
  simp only[lF,Pk,PG]
  refine .inl (.inl (.inl (.inr ⟨n,by unfold Eff.names;exact PY _ hyn,?_⟩)))
  rcases hn with hn|hn
  ·exact .inl (by simpa using hn)
  ·exact .inr (by simpa using hn)
 have hacc:∀n,(n∈x.2.e.acc\/n∈x.2.e.names)->gt (stE (a_ listed) 0 l S0).own n=gt (stE (λj=>decide (j<i)) 0 l S0).own n:=by
  intro n hn
  refine pm l 0 S0 S0 rfl λk y hy hyn=> ?_
  simp only[OS]
  by_cases hki:k=i
  ·subst hki;rw[hni];simp
  ·exact hwr_own n hn k y hy hyn hki
 obtain⟨⟨hd,hdt⟩,hg,hex,hnex⟩:=hat
 have hset:∀k,a_ (listed.setIfInBounds i true) k=if k=i then true else a_ listed k:=by
  intro k
  unfold a_
  by_cases hk:k=i
  ·subst hk;simp[hilt]
  ·rw[RR hk];simp[Pb (O3 hk)]
 have hnext:∀E' M' a' w',Sim C E' M' ((stE (a_ listed) 0 l S0).app x.1.dst x.2.e) a' w'->K a' w':=by
  intro E' M' a' w' h
  refine hK E' M' a' w' (h.weaken (λt y hy=> .inl ?_) (λn o ho=> ?_))
  ·rw[<-hy]
   by_cases hdt:x.1.dst=some t
   ·rw[mK l 0 S0 i x hi hdt (by rw[OS,hset];simp) λk z hz hik hzd=>by
     rw[OS,hset,RR (by omega),hwr_tmp t (.inr hdt) k z hz hzd (by omega)];simp;omega]
    simp[ab.app,mR,hdt,af]
   ·rw[po (E:=a_ (listed.setIfInBounds i true)) (E':=a_ listed) l 0 S0 S0 rfl λk z hz hzd=>by
     rw[OS,hset]
     by_cases hk:k=i
     ·subst hk;rw[hi]at hz;cases hz;exact(hdt hzd).elim
     ·rw[RR hk]]
    simp only[ab.app,mR]
    cases hxd:x.1.dst with
    |none=>rfl
    |some d=>simp only[af];rw[RR (λe=>hdt (by rw[hxd,e]))]
  ·rw[<-ho]
   simp only[ab.own?]
   congr 1
   by_cases hn:n∈x.2.e.upd.map (·.1)
   ·rw[mJ l 0 S0 i x hi hn (by rw[OS,hset];simp) λk z hz hik hzn=>by
     rw[OS,hset,RR (by omega),hwr_own n (.inr (by unfold Eff.names;exact PY _ hn)) k z hz hzn (by omega)];simp;omega]
    obtain⟨u,hu⟩:=fN hn
    simp[ab.app,eG,hu]
   ·rw[pm (E:=a_ (listed.setIfInBounds i true)) (E':=a_ listed) l 0 S0 S0 rfl λk z hz hzn=>by
     rw[OS,hset]
     by_cases hk:k=i
     ·subst hk;rw[hi]at hz;cases hz;exact(hn hzn).elim
     ·rw[RR hk]]
    simp only[ab.app,eG,vP hn]
 have hwant:Region.wanted x.1 (yielded ops a.tmps)=x.2.ex:=by
  unfold Region.wanted
  cases hgu:x.1.guard with
  |none=>rw[hgu]at hg;exact hg.symm
  |some g=>
   obtain⟨j,want⟩:=g
   rw[hgu]at hg
   obtain⟨b,hb1,hb2⟩:=hg
   rw[<-tJ hgu hlook]at hb1
   have hy:=hs.guard hb1
   rw[hb2]
   exact hy
 unfold wpOp
 rw[hio]
 simp only[hwant]
 cases hx:x.2.ex with
 |false=>
  simp only[Pe,RP]
  have he:=hnex hx
  refine hnext E M _ w ?_
  exact hs.app_val (o:=x.1) hd (by rw[he]) (by rw[he];exact GF)
 |true=>
  simp only[RO]
  left
  obtain⟨hv,hnew⟩:=hex hx
  have hv':=yc (ρ':=ev (stE (a_ listed) 0 l S0)) (ω':=(stE (a_ listed) 0 l S0).own?) (λy hy=>by
   cases y with
   |tmp t=>simp only[ev,ab.get,hlook t (rL hy)]
   |const v=>rfl
   |global g=>rfl
   |func f=>rfl) (λn hn=>by simp only[ab.own?,hacc n (.inl hn)]) hdt hv
  have hfresh:∀d∈x.2.e.new,(stE (a_ listed) 0 l S0).fresh d=true/\d<given:=by
   intro d hdn
   obtain⟨hf,hlt⟩:=hnew d hdn
   refine⟨?_,hlt⟩
   have hown:(stE (a_ listed) 0 l S0).own? d=(stE (λj=>decide (j<i)) 0 l S0).own? d:=by
    simp only[ab.own?,hacc d (.inr (by unfold Eff.names;exact Qf _ hdn))]
   have hno:∀(k:Nat) (y:Oper×Tr1),l[k]?=some y->a_ listed k=true->y.2.e.has d=true->k<i:=by
    intro k y hy hk hh
    by_cases hki:k=i
    ·subst hki;rw[hk]at hni;cases hni
    ·have:=hsame k y hy (.inr (by
      simp only[lF,Pk,PG]
      exact .inl (.inr ⟨d,hdn,hh⟩))) hki
     rw[hk]at this;simpa using this.symm
   simp only[ab.fresh,Oy,OD,Qy]at hf⊢
   obtain⟨⟨hf1,hf2⟩,hf3⟩:=hf
   refine⟨⟨by rw[hown];exact hf1,λp hp=> ?_⟩,λp hp=> ?_⟩
   ·rcases pk l 0 S0 p hp with h|⟨k,y,h1,h2,h3',h3⟩
    ·exact hf2 p ((sB l 0 S0).1 p h)
    ·simp only[OS]at h2
     cases hh:H.has d p.2 with
     |false=>rfl
     |true=>
      rw[h3]at hh
      have hki:=hno k y h1 h2 (by simp[Eff.has,hh])
      have:=(wE (E:=λj=>decide (j<i)) l 0 S0 k y h1 (by simpa using hki)).1 p.1 h3'
      have:=hf2 _ this
      simp only at this
      rw[hh]at this;cases this
   ·rcases pj l 0 S0 p hp with h|⟨k,y,h1,h2,h3⟩
    ·exact hf3 p ((sB l 0 S0).2 p h)
    ·simp only[OS]at h2
     cases hpo:p.2 with
     |none=>rfl
     |some oo=>
      simp only[]
      cases hh:Own.has d oo with
      |false=>rfl
      |true=>
       have hki:=hno k y h1 h2 (by
        simp only[Eff.has,Pk,PG]
        exact .inr ⟨p,h3,by rw[hpo];exact hh⟩)
       have:=(wE (E:=λj=>decide (j<i)) l 0 S0 k y h1 (by simpa using hki)).2 p h3
       have:=hf3 p this
       rw[hpo]at this
       simp[hh]at this
  have hfin:u5 C.P nm x.1 (ev (stE (a_ listed) 0 l S0)) (stE (a_ listed) 0 l S0).own? (λe=>(∀d∈e.new,(stE (a_ listed) 0 l S0).fresh d=true/\d<given)/\e=x.2.e):=
   kv (λe he=>⟨by rw[he];exact hfresh,he⟩) hv'
  exact u5.ok (nm:=nm) hd hs hfin λe E' M' a' w' he h=>hnext E' M' a' w' (he▸h)
theorem D8(hl:l.map (·.1)=ops.toList)(hdid:jg C.P C.wr nm ops.toList l S0)(hp:j7 ops.toList (DV [] ops.toList) 0 [] l=true)
 (hlow:∀(k:Nat) (o:Oper) (e:Edge),ops[k]?=some o->e∈o.after->Region.binds .any e=true->e.on<k){Q:Exit->Act->World->Prop}
 (hQ:∀E' M' a' w',Sim C E' M' (stE (λ_=>true) 0 l S0) a' w'->Q .normal a' w'):
 ∀(fuel:Nat) (listed:Array Bool) (E:Env) (M:Mem) (a:Act) (w:World),listed.size=ops.size->listed.toList.countP (λb=> !b)<=fuel->
  (∀k o e,ops[k]?=some o->a_ listed k=true->e∈o.after->Region.binds .any e=true->a_ listed e.on=true)->Sim C E M (stE (a_ listed) 0 l S0) a w->
  wpAny C.P .any ops Q fuel listed a w:=by
 have hlen:l.length=ops.size:=by
  have:=congrArg Qh hl;simpa using this
 have hall:∀(listed:Array Bool),listed.size=ops.size->Region.ready .any ops listed=[]->∀k,k<ops.size->a_ listed k=true:=by
  intro listed hsz hr k
  induction k using Ro with
  |_ k ih=>
   intro hk
   cases hd:a_ listed k with
   |true=>rfl
   |false=>
    have ho:ops[k]?=some ops[k]:=OU hk
    have:k∈Region.ready .any ops listed:=by
     rw[mem_ready]
     refine⟨?_,ops[k],ho,λe he hb=>ih e.on (hlow k _ e ho he hb) (Nat.lt_trans (hlow k _ e ho he hb) hk)⟩
     unfold a_ at hd
     have hkl:k<listed.size:=by omega
     simp[hkl]at hd⊢;exact hd
    rw[hr]at this;cases this
 have hend:∀(listed:Array Bool) (E:Env) (M:Mem) (a:Act) (w:World),listed.size=ops.size->Region.ready .any ops listed=[]->Sim C E M (stE (a_ listed) 0 l S0) a w->Q .normal a w:=by
  intro listed E M a w hsz hr hs
  refine hQ E M a w (hs.weaken (λt y hy=> .inl ?_) (λn o ho=> ?_))
  ·rw[<-hy]
   exact po l 0 S0 S0 rfl λk y hy _=>by
    rw[OS];exact hall listed hsz hr k (by have:=(Ol.1 hy).1;omega)
  ·rw[<-ho]
   simp only[ab.own?]
   have he:=pm (n:=n) (E:=a_ listed) (E':=λ_=>true) l 0 S0 S0 rfl λk y hy _=>by
    rw[OS];exact hall listed hsz hr k (by have:=(Ol.1 hy).1;omega)
   rw[he]
 intro fuel
 induction fuel with
 |zero=>
  intro listed E M a w hsz hc hdown hs
  have hr:Region.ready .any ops listed=[]:=by
   cases hr:Region.ready .any ops listed with
   |nil=>rfl
   |cons i r=>
    have hi:i∈Region.ready .any ops listed:=by rw[hr];exact Ox
    rw[mem_ready]at hi
    have h0:listed.toList.countP (λb=> !b)=0:=by omega
    rw[RI]at h0
    have hil:i<listed.size:=by
     obtain⟨_,o,ho,_⟩:=hi
     have:=(OC.1 ho).1;omega
    have:=h0 listed[i] (by simp)
    have h1:=hi.1
    simp[hil]at h1
    simp[h1]at this
  exact⟨hr,hend listed E M a w hsz hr hs⟩
 |succ fuel ih=>
  intro listed E M a w hsz hc hdown hs
  refine⟨λhr=>hend listed E M a w hsz hr hs,λi hi=> ?_⟩
  rw[mem_ready]at hi
  obtain⟨h0,o,ho,hready⟩:=hi
  have hio:i<ops.size:=(OC.1 ho).1
  have hil:i<listed.size:=by omega
  obtain⟨x,hx⟩:∃x,l[i]?=some x:=⟨l[i]'(by omega),Ou (by omega)⟩
  have hxo:x.1=o:=by
   have:(l.map (·.1))[i]?=some x.1:=by rw[Oq,hx];rfl
   rw[hl]at this
   simp[ho]at this;exact this.symm
  have hni:a_ listed i=false:=by
   unfold a_;simp[hil]at h0⊢;exact h0
  refine tq hl hdid hp hsz hdown hx hni (λe he hb=>hready e (by rw[<-hxo];exact he) hb) hs λE' M' a' w' hs'=> ?_
  refine ih _ E' M' a' w' (by simpa using hsz) ?_ (λk o' e hk hd he hb=> ?_) hs'
  ·rw[Qv,List.countP_set (by simpa using hil)]
   have hli:listed.toList[i]'(by simpa using hil)=false:=by simpa[hil]using h0
   have hpos:0<listed.toList.countP (λb=> !b):=RH.2 ⟨false,by rw[<-hli];exact Pn _,rfl⟩
   simp only[hli,PS,RO,PK,Pe,RP]
   omega
  ·unfold a_ at hd⊢
   by_cases hki:k=i
   ·subst hki
    rw[ho]at hk;cases hk
    exact getD_set_true (hready e he hb)
   ·rw[getD_set_ne false (O3 hki)]at hd
    exact getD_set_true (hdown k o' e hk hd he hb)
end
section
variable [Inhabited GMem]
inductive DH (ops:Array Oper):Array Bool->List Nat->Prop
 |nil {listed:Array Bool} (h:Region.ready .any ops listed=[]):DH ops listed []
 |cons {listed:Array Bool} {i:Nat} {is:List Nat} (h:i∈Region.ready .any ops listed) (hr:DH ops (listed.setIfInBounds i true) is):DH ops listed (i::is)
theorem kB{listed:Array Bool}{i:Nat}(h:listed.getD i true=false):(listed.setIfInBounds i true).toList.countP (λb=> !b)<listed.toList.countP (λb=> !b):=by
 have hil:i<listed.size:=by
  rcases Nat.lt_or_ge i listed.size with h2|h2
  ·exact h2
  ·simp[Qc h2]at h
 rw[Qv,List.countP_set (by simpa using hil)]
 have hli:listed.toList[i]'(by simpa using hil)=false:=by simpa[hil]using h
 have hpos:0<listed.toList.countP (λb=> !b):=RH.2 ⟨false,by rw[<-hli];exact Pn _,rfl⟩
 simp only[hli,PS,RO,PK,Pe,RP]
 omega
theorem p8(ops:Array Oper):∀(fuel t:Nat) (listed:Array Bool),listed.toList.countP (λb=> !b)<=fuel->DH ops listed (Region.linearise.go .any ops fuel t listed []):=by
 intro fuel
 induction fuel with
 |zero=>
  intro t listed h
  simp only[Region.linearise.go,List.reverse_nil]
  refine .nil ?_
  cases hr:Region.ready .any ops listed with
  |nil=>rfl
  |cons i r=>
   have hi:i∈Region.ready .any ops listed:=by rw[hr];exact Ox
   have:=kB (mem_ready.1 hi).1
   omega
 |succ fuel ih=>
  intro t listed h
  simp only[Region.linearise.go]
  change DH ops listed (match(Region.ready .any ops listed)[t%(Region.ready .any ops listed).length]? with
   |some i=>Region.linearise.go .any ops fuel (t/(Region.ready .any ops listed).length) (listed.setIfInBounds i true) [i]
   |none=>[].reverse)
  cases hi:(Region.ready .any ops listed)[t%(Region.ready .any ops listed).length]? with
  |none=>
   refine .nil ?_
   cases hr:Region.ready .any ops listed with
   |nil=>rfl
   |cons i r=>
    rw[hr]at hi
    rw[List.getElem?_eq_none_iff]at hi
    have:=QQ t (show 0<(i::r).length by simp)
    omega
  |some i=>
   simp only
   rw[linearise_go_acc]
   have hm:=OA hi
   have:=kB (mem_ready.1 hm).1
   exact .cons hm (ih _ _ (by omega))
def swq(p q k:Nat):Nat:=if k=p then q else if k=q then p else k
theorem sD(p q k:Nat):swq p q (swq p q k)=k:=by
 unfold swq
 repeat' split
 all_goals omega
def z8(s:Nat->Nat)(extra:Array Edge)(o:Oper):Oper:=
 {dst:=o.dst,op:=o.op,type:=o.type,pos:=o.pos,after:=(o.after.map λe=>{on:=s e.on,ground:=e.ground})++extra,guard:=o.guard.map λg=>(s g.1,g.2)}
def eK(p q x y:Nat)(ops:Array Oper):Array Oper:=
 ((P9 ops.size).map λk=>match ops[swq p q k]? with
   |some o=>z8 (swq p q) (if swq p q k=y then #[{on:=swq p q x,ground:= .phase}]else #[]) o
   |none=>default).toArray
theorem kq(p q x y:Nat)(ops:Array Oper):(eK p q x y ops).size=ops.size:=by simp[eK]
theorem uQ{p q k n:Nat}(hp:p<n)(hq:q<n):swq p q k<n↔k<n:=by
 unfold swq
 repeat' split
 all_goals omega
theorem lu{p q x y:Nat}{ops:Array Oper}(hp:p<ops.size)(hq:q<ops.size){k:Nat}{o:Oper}(h:ops[k]?=some o):
 (eK p q x y ops)[swq p q k]?=some (z8 (swq p q) (if k=y then #[{on:=swq p q x,ground:= .phase}]else #[]) o):=by
 have hk:k<ops.size:=(OC.1 h).1
 have hk2:swq p q k<ops.size:=(uQ hp hq).2 hk
 unfold eK
 rw[Qs,Oq,PP hk2]
 simp only[OW,sD,h]
theorem kp{p q x y:Nat}{ops:Array Oper}(hp:p<ops.size)(hq:q<ops.size){k:Nat}(h:ops[k]?=none):(eK p q x y ops)[swq p q k]?=none:=by
 have hk:¬k<ops.size:=by
  intro hk
  rw[OU hk]at h;cases h
 rw[Array.getElem?_eq_none_iff,kq]
 have:=(uQ (k:=k) hp hq).1
 omega
theorem iL{P:Program}{p q x y:Nat}{ops:Array Oper}(hp:p<ops.size)(hq:q<ops.size){Q:Exit->Act->World->Prop}:
 ∀(is:List Nat) (a:Act) (w:World),wpOps P (eK p q x y ops) Q (is.map (swq p q)) a w->wpOps P ops Q is a w
 |[],a,w,h=>h
 |i::is,a,w,h=>by
  rw[Ow,wpOps_cons]at h
  rw[wpOps_cons]
  unfold wpOp at *
  cases ho:ops[i]? with
  |none=>
   rw[kp hp hq ho]at h
   exact iL hp hq is a w h
  |some o=>
   rw[lu hp hq ho]at h
   simp only at h⊢
   have hy:∀j,yielded (eK p q x y ops) a.tmps (swq p q j)=yielded ops a.tmps j:=by
    intro j
    unfold yielded
    cases hj:ops[j]? with
    |none=>rw[kp hp hq hj]
    |some z=>rw[lu hp hq hj];rfl
   have hw:Region.wanted (z8 (swq p q) (if i=y then #[{on:=swq p q x,ground:= .phase}]else #[]) o) (yielded (eK p q x y ops) a.tmps)=Region.wanted o (yielded ops a.tmps):=by
    unfold Region.wanted z8
    cases o.guard with
    |none=>rfl
    |some g=>
     obtain⟨j,want⟩:=g
     simp only[OW,hy]
   rw[hw]at h
   by_cases hz:Region.wanted o (yielded ops a.tmps)=true
   ·rw[RS hz]at h⊢
    rcases h with h|h
    ·refine .inl ?_
     have h2:o.wp P a w (wpOps P (eK p q x y ops) Q (is.map (swq p q))) Q:=h
     exact Oper.wp_mono (λa w h=>iL hp hq is a w h) h2
    ·exact .inr h
   ·rw[RR hz]at h⊢
    exact iL hp hq is _ w h
def bef(x y:Nat):List Nat->Prop
 |[]=>True
 |k::r=>k=x\/(k≠y/\bef x y r)
theorem FY{x y:Nat}(h:x≠y):∀is:List Nat,bef x y is\/bef y x is
 |[]=> .inl trivial
 |k::r=>by
  by_cases h1:k=x
  ·exact .inl (.inl h1)
  ·by_cases h2:k=y
   ·exact .inr (.inl h2)
   ·rcases FY h r with h3|h3
    ·exact .inl (.inr ⟨h2,h3⟩)
    ·exact .inr (.inr ⟨h1,h3⟩)
theorem xL{p q x y:Nat}(hxy:x≠y){ops:Array Oper}(hp:p<ops.size)(hq:q<ops.size){listed:Array Bool}{is:List Nat}(h:DH ops listed is):
 ∀listed':Array Bool,listed.size=ops.size->listed'.size=ops.size->(∀k,k<ops.size->a_ listed' (swq p q k)=a_ listed k)->(a_ listed x=true\/bef x y is)->DH (eK p q x y ops) listed' (is.map (swq p q)):=by
 have down:∀(listed listed':Array Bool),listed.size=ops.size->listed'.size=ops.size->(∀k,k<ops.size->a_ listed' (swq p q k)=a_ listed k)->∀k,swq p q k∈Region.ready .any (eK p q x y ops) listed'->k∈Region.ready .any ops listed:=by
  intro listed listed' hs hs' hd k hk
  rw[mem_ready]at hk⊢
  obtain⟨h1,o',ho',h2⟩:=hk
  cases ho:ops[k]? with
  |none=>rw[kp hp hq ho]at ho';cases ho'
  |some o=>
   rw[lu hp hq ho]at ho'
   cases ho'
   have hkl:k<ops.size:=(OC.1 ho).1
   have hkl2:swq p q k<ops.size:=(uQ hp hq).2 hkl
   refine⟨?_,o,rfl,λe he hb=> ?_⟩
   ·have:=hd k hkl
    unfold a_ at this
    simp[hs,hs',hkl,hkl2]at this h1⊢
    rw[<-this,h1]
   ·have h3:=h2 {on:=swq p q e.on,ground:=e.ground} (by
     simp only[z8,Array.mem_append,Array.mem_map]
     exact .inl ⟨e,he,rfl⟩) hb
    by_cases hel:e.on<ops.size
    ·have:=hd e.on hel
     unfold a_ at this
     rw[<-this];exact h3
    ·have hel2:¬swq p q e.on<ops.size:=λh=>hel ((uQ hp hq).1 h)
     simp[hs',hel2]at h3
 induction h with
 |nil h0=>
  intro listed' hs hs' hd _
  refine .nil ?_
  cases hr:Region.ready .any (eK p q x y ops) listed' with
  |nil=>rfl
  |cons i r=>
   have hi:swq p q (swq p q i)∈Region.ready .any (eK p q x y ops) listed':=by rw[sD,hr];exact Ox
   have:=down _ _ hs hs' hd _ hi
   rw[h0]at this;cases this
 |cons hm hr ih=>
  rename_i listed i is
  intro listed' hs hs' hd hb
  have hm':=mem_ready.1 hm
  obtain⟨h1,o,ho,h2⟩:=hm'
  have hkl:i<ops.size:=(OC.1 ho).1
  have hkl2:swq p q i<ops.size:=(uQ hp hq).2 hkl
  refine .cons (mem_ready.2 ⟨?_,_,lu hp hq ho,λe he hbd=> ?_⟩) (ih _ (by simpa using hs) (by simpa using hs') (λk hk=> ?_) ?_)
  ·have:=hd i hkl
   unfold a_ at this
   simp[hs,hs',hkl,hkl2]at this h1⊢
   rw[this,h1]
  ·simp only[z8,Array.mem_append,Array.mem_map]at he
   rcases he with⟨e0,he0,rfl⟩|he
   ·have h3:=h2 e0 he0 hbd
    by_cases hel:e0.on<ops.size
    ·have:=hd e0.on hel
     unfold a_ at this
     rw[this];exact h3
    ·simp[hs,hel]at h3
   ·by_cases hiy:i=y
    ·rw[RS hiy]at he
     simp at he
     subst he
     have hx:a_ listed x=true:=by
      rcases hb with hb|hb
      ·exact hb
      ·rcases hb with hb|hb
       ·exact absurd (hb.symm.trans hiy) hxy
       ·exact absurd hiy hb.1
     have hxl:x<ops.size:=by
      unfold a_ at hx
      rcases Nat.lt_or_ge x listed.size with h|h
      ·omega
      ·simp[Qc h]at hx
     have:=hd x hxl
     unfold a_ at this hx
     simp only
     rw[this];exact hx
    ·rw[RR hiy]at he;simp at he
  ·unfold a_
   by_cases hki:k=i
   ·subst hki
    simp[hs,hs',hkl,hkl2]
   ·have:swq p q k≠swq p q i:=λe=>hki (by rw[<-sD p q k,e,sD])
    rw[getD_set_ne false (O3 hki),getD_set_ne false (O3 this)]
    exact hd k hk
  ·rcases hb with hb|hb
   ·exact .inl (getD_set_true hb)
   ·rcases hb with hb|hb
    ·refine .inl ?_
     subst hb
     unfold a_
     simp[hs,hkl]
    ·exact .inr hb.2
theorem A5{C:Ctx}{nm:Nat->Nat}{ops:Array Oper}{l:List (Oper×Tr1)}{S0:ab}(hl:l.map (·.1)=ops.toList)(hdid:jg C.P C.wr nm ops.toList l S0)(hp:j7 ops.toList (DV [] ops.toList) 0 [] l=true)
 (hlow:∀(k:Nat) (o:Oper) (e:Edge),ops[k]?=some o->e∈o.after->Region.binds .any e=true->e.on<k){Q:Exit->Act->World->Prop}
 (hQ:∀E' M' a' w',Sim C E' M' (stE (λ_=>true) 0 l S0) a' w'->Q .normal a' w'){listed:Array Bool}{is:List Nat}(hr:DH ops listed is):
 ∀(E:Env) (M:Mem) (a:Act) (w:World),listed.size=ops.size->
  (∀k o e,ops[k]?=some o->a_ listed k=true->e∈o.after->Region.binds .any e=true->a_ listed e.on=true)->Sim C E M (stE (a_ listed) 0 l S0) a w->
  wpOps C.P ops Q is a w:=by
 have hlen:l.length=ops.size:=by
  have:=congrArg Qh hl;simpa using this
 induction hr with
 |nil hr=>
  rename_i listed
  intro E M a w hsz hdown hs
  have:=D8 (C:=C) (nm:=nm) hl hdid hp hlow hQ 0 listed E M a w hsz
   (by
     refine RK (RI.2 λb hb=> ?_)
     obtain⟨i,hi,rfl⟩:=QB hb
     cases hbi:listed.toList[i]with
     |true=>simp
     |false=>
      exfalso
      have hall:∀k,k<ops.size->a_ listed k=true:=by
       intro k
       induction k using Ro with
       |_ k ih=>
        intro hk
        cases hd:a_ listed k with
        |true=>rfl
        |false=>
         have ho:ops[k]?=some ops[k]:=OU hk
         have:k∈Region.ready .any ops listed:=by
          rw[mem_ready]
          refine⟨?_,ops[k],ho,λe he hb=>ih e.on (hlow k _ e ho he hb) (Nat.lt_trans (hlow k _ e ho he hb) hk)⟩
          unfold a_ at hd
          have hkl:k<listed.size:=by omega
          simp[hkl]at hd⊢;exact hd
         rw[hr]at this;cases this
      have hil:i<listed.size:=by simpa using hi
      have:=hall i (by omega)
      unfold a_ at this
      simp[hil]at this hbi
      rw[hbi]at this;cases this) hdown hs
  exact this.2
 |cons hm hr ih=>
  rename_i listed i is
  intro E M a w hsz hdown hs
  obtain⟨h0,o,ho,hready⟩:=mem_ready.1 hm
  have hio:i<ops.size:=(OC.1 ho).1
  have hil:i<listed.size:=by omega
  obtain⟨x,hx⟩:∃x,l[i]?=some x:=⟨l[i]'(by omega),Ou (by omega)⟩
  have hxo:x.1=o:=by
   have:(l.map (·.1))[i]?=some x.1:=by rw[Oq,hx];rfl
   rw[hl]at this
   simp[ho]at this;exact this.symm
  have hni:a_ listed i=false:=by
   unfold a_;simp[hil]at h0⊢;exact h0
  rw[wpOps_cons]
  refine tq hl hdid hp hsz hdown hx hni (λe he hb=>hready e (by rw[<-hxo];exact he) hb) hs λE' M' a' w' hs'=> ?_
  refine ih E' M' a' w' (by simpa using hsz) (λk o' e hk hd he hb=> ?_) hs'
  unfold a_ at hd⊢
  by_cases hki:k=i
  ·subst hki
   rw[ho]at hk;cases hk
   exact getD_set_true (hready e he hb)
  ·rw[getD_set_ne false (O3 hki)]at hd
   exact getD_set_true (hdown k o' e hk hd he hb)
inductive PT where
 |leaf
 |node (i j:Nat) (a b:PT)
def PT.ok(C:Ctx)(nm:Nat->Nat)(S:ab)(Q:ab->Prop):PT->Array Oper->Prop
 | .leaf,ops=>je C.P C.wr nm ops.toList ops.toList S [] (λS' tr=>xe ops.toList tr=true/\Q S')
 | .node i j a b,ops=>(i≠j/\i<ops.size/\j<ops.size)/\PT.ok C nm S Q a (eK i i i j ops)/\PT.ok C nm S Q b (eK i j j i ops)
theorem PT.runs{C:Ctx}{nm:Nat->Nat}{S:ab}{Q:ab->Prop}{Q':Exit->Act->World->Prop}{E:Env}{M:Mem}{a:Act}{w:World}(hs:Sim C E M S a w)
 (hQ:∀S' E' M' a' w',Q S'->Sim C E' M' S' a' w'->Q' .normal a' w'):∀(t:PT) (ops:Array Oper) (is:List Nat),PT.ok C nm S Q t ops->DH ops (Qj ops.size false) is->wpOps C.P ops Q' is a w
 | .leaf,ops,is,h,hr=>by
  obtain⟨l,h1,h2,h3,h4⟩:=re h
  have hz:ops.toList.zip (l.map (·.2))=l:=by
   rw[<-h1]
   have:∀l:List (Oper×Tr1),(l.map (·.1)).zip (l.map (·.2))=l:=by
    intro l
    induction l with
    |nil=>rfl
    |cons x r ih=>simp[ih]
   exact this l
  simp only[OM,xe,Oy,hz]at h3
  obtain⟨hp',hlow⟩:=h3
  have hd0:∀k,a_ (Qj ops.size false) k=false:=by
   intro k
   unfold a_
   by_cases hk:k<ops.size
   ·simp[hk]
   ·simp[hk]
  refine A5 (C:=C) (nm:=nm) (l:=l) (S0:=S) h1 h2 hp' (λk o e ho he hb=> ?_) (λE' M' a' w' hs'=>hQ _ E' M' a' w' h4 hs')
   hr E M a _ (by simp) (λk o e _ hd=> ?_) ?_
  ·rw[OD]at hlow
   have:=hlow (o,k) (Q0.2 (by simpa using ho))
   simp only at this
   rw[Array.all_eq_true_iff_forall_mem]at this
   have:=this e he
   simp only[hb,PK,Bool.false_or]at this
   exact of_eq_true (by rw[<-P8,this];simp)
  ·rw[hd0]at hd;cases hd
  ·have none:∀(l:List (Oper×Tr1)) (i:Nat) (S:ab),stE (a_ (Qj ops.size false)) i l S=S:=by
    intro l
    induction l with
    |nil=>intro i S;rfl
    |cons x r ih=>
     intro i S;obtain⟨o,t⟩:=x
     simp only[stE,hd0]
     exact ih _ _
   rw[none]
   exact hs
 | .node i j ta tb,ops,is,h,hr=>by
  obtain⟨⟨hij,hi,hj⟩,hA,hB⟩:=h
  have hd0:∀n k,a_ (Qj n false) k=false:=by
   intro n k
   unfold a_
   by_cases hk:k<n
   ·simp[hk]
   ·simp[hk]
  rcases FY hij is with hb|hb
  ·refine iL (p:=i) (q:=i) (x:=i) (y:=j) hi hi _ _ _ (PT.runs hs hQ ta _ _ hA ?_)
   exact xL (p:=i) (q:=i) (x:=i) (y:=j) hij hi hi hr _ (by simp) (by simp[kq]) (λk _=>by rw[hd0,hd0]) (.inr hb)
  ·refine iL (p:=i) (q:=j) (x:=j) (y:=i) hi hj _ _ _ (PT.runs hs hQ tb _ _ hB ?_)
   exact xL (p:=i) (q:=j) (x:=j) (y:=i) (O3 hij) hi hj hr _ (by simp) (by simp[kq]) (λk _=>by rw[hd0,hd0]) (.inr hb)
theorem AWp.drawT{C:Ctx}{id:Nat}{ops:Array Oper}{S:ab}{Q:Exit->ab->Prop}(nm:Nat->Nat)(t:PT)(hm:C.P.follows .mixedOrders=true)
 (h:PT.ok C nm S (Q .normal) t ops):AWp C (.region id ops true) S Q:=λE M a w hs=>by
 refine wp_region_draw λtp=> ?_
 simp only[Region.schedule,hm,Bool.true_or,RO]
 have hr:DH ops (Qj ops.size false) (Region.linearise .any ops tp):=p8 ops ops.size tp _ (Ps List.countP_le_length (by simp))
 exact PT.runs (Q':=λe a' w'=>∃S' E' M',Q e S'/\Sim C E' M' S' a' w') hs.drew (λS' E' M' a' w' hq hs'=>⟨S',E',M',hq,hs'⟩) t ops _ h hr
end
end Go.Awp
end
section
namespace Go.Awp
variable [Inhabited GMem]
section
variable {P:Program} {N:Nat->Prop} {C:Ctx} {nm:Nat->Nat} {S:ab} {Q:Exit->ab->Prop}
end
theorem c8.at{P:Program}{f:FuncId}{args:List H}{r:H}(h:c8 P f args [] r [])(hr:H.plain r=true):FR P f args [] r []:=by
 refine⟨h.1,λE M w vs hgm hm ho hv=>(h.2 E M w vs hgm hm ho hv).mono ?_⟩
 rintro e w' ⟨v,E',M',rfl,hp⟩
 refine⟨v,E,M',rfl,{hp with rep:=hp.rep.mono (Mem.le_refl _) (λn hn=>by rw[H.plain_has hr]at hn;cases hn),owns:=⟨λn o h=>by simp[gt]at h,λn m o o' b _ h=>by simp[gt]at h⟩,home:=λn o b h=>by simp[gt]at h,env:=λ_ _=>rfl},λ_ _=>rfl⟩
theorem yf{P:Program}{f:FuncId}{args:List H}{ω:Nat->Option Own}{k:Eff->Prop}{r:H}(h:c8 P f args [] r [])(hr:H.plain r=true)(hk:k {val:=r}):u_ P f args ω k:=
 ⟨[],r,[],h.at hr,by simp,hk⟩
theorem Ent.nilvec{S:ab}{t n e sz:Nat}(ht:gt S.tmps t=some (.d (.v (.slice none 0 0))))(hf:S.fresh n=true)(hg:n<given):
 Ent S {tmps:=(t, .vh n 0)::S.tmps,own:=(n,some (.vec e sz []))::S.own}:=λC E M a w hs=>by
 have h1:=hs.own_new (E':=λm=>if m=n then .slice none 0 0 else E m) (d:=n) (o':= .vec e sz []) (w':=w) ⟨rfl,rfl,rfl,OO _,λ_ _ _=>rfl⟩ (λm hm=>by simp[hm]) hf hg
  (λb hb=>by simp[Own.foot,ak]at hb) ⟨[],by simpa using World.ownsRow_nil w 0 e sz,by simp,by simp,λb hb=>by simp[ak]at hb⟩
 refine⟨_,M,{h1 with tmps:=λt' x hx=> ?_}⟩
 rw[af]at hx
 by_cases htt:t=t'
 ·subst htt
  simp at hx;subst hx
  obtain⟨v,hv,hr⟩:=hs.tmps t _ ht
  refine⟨v,hv,?_⟩
  rw[hr.dv]
  exact .vh n 0 0 0 none (by simp) (OO _)
 ·rw[RR htt]at hx
  exact h1.tmps t' x hx
theorem Ent.nilcell{S:ab}{b n e sz i:Nat}{oty:Option TypeId}{cells:List H}(ho:S.own? b=some (.box oty cells))(hi:cells[i]?=some (.d (.v (.slice none 0 0))))(hf:S.fresh n=true)(hg:n<given):
 Ent S {tmps:=S.tmps,own:=(b,some (.box oty (cells.set i (.vh n 0))))::(n,some (.vec e sz []))::S.own}:=λC E M a w hs=>by
 have h1:=hs.own_new (E':=λm=>if m=n then .slice none 0 0 else E m) (d:=n) (o':= .vec e sz []) (w':=w) ⟨rfl,rfl,rfl,OO _,λ_ _ _=>rfl⟩ (λm hm=>by simp[hm]) hf hg
  (λb hb=>by simp[Own.foot,ak]at hb) ⟨[],by simpa using World.ownsRow_nil w 0 e sz,by simp,by simp,λb hb=>by simp[ak]at hb⟩
 have hbn:b≠n:=by
  rintro rfl
  unfold ab.fresh at hf
  simp[ho]at hf
 have hown:∀m o,ab.own? {tmps:=S.tmps,own:=(b,some (.box oty (cells.set i (.vh n 0))))::(n,some (.vec e sz []))::S.own} m=some o->
  (m=b/\o= .box oty (cells.set i (.vh n 0)))\/(m≠b/\ab.own? {tmps:=S.tmps,own:=(n,some (.vec e sz []))::S.own} m=some o):=by
  intro m o hm
  unfold ab.own? at hm⊢
  rw[af]at hm
  by_cases hmb:b=m
  ·rw[RS hmb]at hm
   left;exact⟨hmb.symm,by simpa using hm.symm⟩
  ·rw[RR hmb]at hm
   right;exact⟨λe=>hmb e.symm,hm⟩
 have hb1:ab.own? {tmps:=S.tmps,own:=(n,some (.vec e sz []))::S.own} b=some (.box oty cells):=by
  unfold ab.own? at ho⊢
  rw[af,RR (λe=>hbn e.symm)];exact ho
 have hany:∀m o,ab.own? {tmps:=S.tmps,own:=(b,some (.box oty (cells.set i (.vh n 0))))::(n,some (.vec e sz []))::S.own} m=some o->∃o',ab.own? {tmps:=S.tmps,own:=(n,some (.vec e sz []))::S.own} m=some o'/\∀v,o.foot w v=o'.foot w v:=by
  intro m o hm
  rcases hown m o hm with⟨rfl,rfl⟩|⟨_,h⟩
  ·exact⟨_,hb1,λ_=>rfl⟩
  ·exact⟨_,h,λ_=>rfl⟩
 refine⟨_,M,{h1 with own:=λm o hm=> ?_,apart:=λm m' o o' bb hne hm hm' hbb hbb'=> ?_,home:=λm o bb hm hbb=> ?_}⟩
 ·rcases hown m o hm with⟨rfl,rfl⟩|⟨_,h⟩
  ·obtain⟨blk,cs,ty,k1,k2,k3,k4,k5⟩:=h1.own m _ hb1
   refine⟨blk,cs,ty,k1,k2,by rw[Pi];exact k3,λj c x hc hx=> ?_,k5⟩
   by_cases hij:i=j
   ·subst hij
    have hlt:i<cells.length:=(Ol.1 hi).1
    rw[Rs hlt]at hx
    simp at hx;subst hx
    have:=k4 i c _ hc hi
    rw[this.dv]
    exact .vh n 0 0 0 none (by simp) (OO _)
   ·rw[List.getElem?_set_ne hij]at hx
    exact k4 j c x hc hx
  ·exact h1.own m o h
 ·obtain⟨q,hq,e⟩:=hany m o hm
  obtain⟨q',hq',e'⟩:=hany m' o' hm'
  rw[e]at hbb
  rw[e']at hbb'
  exact h1.apart m m' q q' bb hne hq hq' hbb hbb'
 ·obtain⟨q,hq,e⟩:=hany m o hm
  rw[e]at hbb
  exact h1.home m q bb hq hbb
mutual
def H.frz(n sz:Nat)(rows:List (List D)):H->H
 | .vh m len=>if m=n/\len=rows.length then .d (.sl sz rows)else .vh m len
 | .agg cs=>bA (H.frzL n sz rows cs)
 | .tup vs=> .tup (H.frzL n sz rows vs)
 |x=>x
def H.frzL(n sz:Nat)(rows:List (List D)):List H->List H
 |[]=>[]
 |x::r=>H.frz n sz rows x::H.frzL n sz rows r
end
theorem H.frzL_len(n sz:Nat)(rows:List (List D)):∀l:List H,(H.frzL n sz rows l).length=l.length
 |[]=>rfl
 |x::r=>by simp[H.frzL,H.frzL_len n sz rows r]
theorem H.frzL_get(n sz:Nat)(rows:List (List D)):∀(l:List H) (i:Nat),(H.frzL n sz rows l)[i]?=(l[i]?).map (H.frz n sz rows)
 |[],i=>by simp[H.frzL]
 |x::r,0=>by simp[H.frzL]
 |x::r,i+1=>by simpa[H.frzL]using H.frzL_get n sz rows r i
def Own.frz(n sz:Nat)(rows:List (List D)):Own->Own
 | .box o cells=> .box o (H.frzL n sz rows cells)
 |o=>o
theorem Own.frz_foot(n sz:Nat)(rows:List (List D))(w:World)(v:Value)(o:Own):(Own.frz n sz rows o).foot w v=o.foot w v:=by
 cases o<;>rfl
def ab.frz(S:ab)(n sz:Nat)(rows:List (List D)):ab:=
 {tmps:=S.tmps.map λp=>(p.1,H.frz n sz rows p.2),own:=(n,none)::S.own.map λp=>(p.1,p.2.map (Own.frz n sz rows))}
theorem fU{α β:Type}(f:α->β):∀(l:List (Nat×α)) (n:Nat),gt (l.map λp=>(p.1,f p.2)) n=(gt l n).map f
 |[],n=>rfl
 |(k,x)::r,n=>by
  simp only[Ow,af]
  by_cases h:k=n
  ·simp[h]
  ·rw[RR h,RR h];exact fU f r n
theorem aP.frz{E:Env}{M M':Mem}(hM:M.le M'){n sz:Nat}{rows:List (List D)}(hn:∀v,aP E M v (.vh n rows.length)->bW M' v (.sl sz rows)){v:Value}{x:H}(h:aP E M v x):aP E M' v (H.frz n sz rows x):=by
 induction h with
 |d h=>exact .d (h.mono hM)
 |junk v=>exact .junk v
 |bp n off b h=>exact .bp n off b h
 |vh m len l c a h hl=>
  simp only[H.frz]
  split
  ·rename_i hc
   obtain⟨rfl,rfl⟩:=hc
   exact .d (hn _ (.vh m _ l c a h hl))
  ·exact .vh m len l c a h hl
 |ep n sz i off b q l c h hi=>exact .ep n sz i off b q l c h hi
 |sv n sz i off b l c h hi=>exact .sv n sz i off b l c h hi
 |sv0 n sz h=>exact .sv0 n sz h
 |mp n r h=>exact .mp n r h
 |np0 n=>exact .np0 n
 |np1 n b h=>exact .np1 n b h
 |sd n p h=>exact .sd n p h
 |agg cs l hl h ih=>
  refine aP.mk_agg (by rw[H.frzL_len];exact hl) λi c y hc hy=> ?_
  rw[H.frzL_get]at hy
  cases hz:l[i]? with
  |none=>rw[hz]at hy;cases hy
  |some z=>rw[hz]at hy;simp at hy;subst hy;exact ih i c z hc hz
 |tup cs l hl h ih=>
  refine .tup cs _ (by rw[H.frzL_len];exact hl) λi c y hc hy=> ?_
  rw[H.frzL_get]at hy
  cases hz:l[i]? with
  |none=>rw[hz]at hy;cases hy
  |some z=>rw[hz]at hy;simp at hy;subst hy;exact ih i c z hc hz
 |fn f first captured l l' hl hl' h h' ih ih'=>exact .fn f first captured l l' hl hl' (λi c x hc hx=>(h i c x hc hx).le hM) (λi c x hc hx=>(h' i c x hc hx).le hM)
theorem Ent.freeze{S:ab}{n e sz:Nat}{rows:List (List D)}(hn:S.own? n=some (.vec e sz rows)):Ent S (S.frz n sz rows):=λC E M a w hs=>by
 obtain⟨xs,h1,h2,h3,h4⟩:=hs.own n _ hn
 let M':Mem:=λb k=>match M b k with
  |some v=>some v
  |none=>if ak (E n)=some b/\k<rows.length *sz then xs[k]? else none
 have hM:M.le M':=λb k v hv=>by simp[M',hv]
 have hcell:∀b k v,ak (E n)=some b->xs[k]?=some v->w.cell? ⟨b,k,none⟩=some v:=by
  intro b k v hb hv
  rcases h1.2 with⟨hnil,_⟩|⟨g,cap,cur,hE,_,hg,_,_,_,htake⟩
  ·rw[hnil]at hb;simp[ak]at hb
  ·rw[hE]at hb;simp[ak]at hb;subst hb
   rw[cell_of_row w g k cur e (0,0) hg]
   rw[<-htake,OE]at hv
   split at hv
   ·simpa using hv
   ·cases hv
 have hrep:∀v,aP E M v (.vh n rows.length)->bW M' v (.sl sz rows):=by
  intro v hv
  cases hv with
  |vh n len l c a h hl=>
   rcases h1.2 with⟨hnil,hz⟩|⟨g,cap,cur,hE,_,hg,hnc,_,_,htake⟩
   ·rw[h]at hnil
    simp only[Value.slice.injEq]at hnil
    obtain⟨rfl,rfl,rfl⟩:=hnil
    have hz':rows=[]:=OL hz
    subst hz'
    exact .slnil sz
   ·rw[h]at hE
    simp only[Value.slice.injEq]at hE
    obtain⟨rfl,rfl,rfl⟩:=hE
    refine .sl g 0 _ _ sz rows (λk=>xs.getD k undef) rfl hnc h2 (λk hk=> ?_) λi j r x hr hx=> ?_
    ·have hxk:k<xs.length:=by rw[h1.1];exact hk
     have hMk:M g k=none:=h4 g (by rw[h];rfl) k
     simp only[M',OS,hMk]
     rw[RS ⟨by rw[h];rfl,hk⟩,Ou hxk]
     simp[hxk]
    ·have hlr:=h2 r (OA hr)
     have hir:i<rows.length:=(Ol.1 hr).1
     have hj:j<sz:=by have:=(Ol.1 hx).1;omega
     have hmul:(i+1) *sz<=rows.length *sz:=OH _ hir
     rw[OY]at hmul
     have hxk:i *sz+j<xs.length:=by rw[h1.1];omega
     have:=h3 i j r xs[i *sz+j] x hr hx (Ou hxk)
     have hg':xs.getD (i *sz+j) undef=xs[i *sz+j]:=by simp[hxk]
     rw[hg']
     exact this.mono hM
 have hown:∀m o,(S.frz n sz rows).own? m=some o->m≠n/\∃o0,S.own? m=some o0/\o=Own.frz n sz rows o0:=by
  intro m o ho
  simp only[ab.frz,ab.own?,af]at ho
  by_cases hm:n=m
  ·rw[RS hm]at ho;simp at ho
  ·rw[RR hm,fU (λx:Option Own=>x.map (Own.frz n sz rows))]at ho
   refine⟨λe=>hm e.symm,?_⟩
   cases hg:gt S.own m with
   |none=>rw[hg]at ho;simp at ho
   |some oo=>
    rw[hg]at ho
    cases oo with
    |none=>simp at ho
    |some o0=>simp at ho;exact⟨o0,by simp[ab.own?,hg],ho.symm⟩
 have hM'none:∀m o,m≠n->S.own? m=some o->∀b,o.foot w (E m) b->∀k,M' b k=none:=by
  intro m o hm ho b hb k
  have h0:=((hs.own m o ho).block hb).2 k
  simp only[M',h0]
  rw[RR]
  rintro⟨hb',_⟩
  exact hs.apart m n o _ b hm ho hn hb hb'
 refine⟨E,M',{size:=hs.size,defers:=hs.defers,fixed:=hs.fixed,tmps:= ?_,mem:= ?_,own:= ?_,apart:= ?_,home:= ?_,m0:=Mem.le_trans hs.m0 hM,mnew:= ?_,frame:=hs.frame,grows:=hs.grows,os:=hs.os,tape:=hs.tape,output:=hs.output,env:=hs.env}⟩
 ·intro t x hx
  simp only[ab.frz,fU]at hx
  cases hg:gt S.tmps t with
  |none=>rw[hg]at hx;cases hx
  |some y=>
   rw[hg]at hx;simp at hx;subst hx
   obtain⟨v,hv,hr⟩:=hs.tmps t y hg
   exact⟨v,hv,hr.frz hM hrep⟩
 ·intro b k v hv
  simp only[M']at hv
  cases h0:M b k with
  |some u=>rw[h0]at hv;simp at hv;subst hv;exact hs.mem b k u h0
  |none=>
   rw[h0]at hv
   simp only at hv
   split at hv
   ·rename_i hc;exact hcell b k v hc.1 hv
   ·cases hv
 ·intro m o ho
  obtain⟨hm,o0,ho0,rfl⟩:=hown m o ho
  have hk:=hs.own m o0 ho0
  cases o0 with
  |vec e' sz' rows'=>exact hk.keep rfl (λ_ _=>rfl) (λ_ _=>rfl) hM (hM'none m _ hm ho0)
  |map es=>exact hk.keep rfl (λ_ _=>rfl) (λ_ _=>rfl) hM (hM'none m _ hm ho0)
  |iter s pos=>exact hk.keep rfl (λ_ _=>rfl) (λ_ _=>rfl) hM (hM'none m _ hm ho0)
  |dvec e' sz' rows'=>exact hk.keep rfl (λ_ _=>rfl) (λ_ _=>rfl) hM (hM'none m _ hm ho0)
  |miter m2 es rest cur=>exact hk.keep rfl (λ_ _=>rfl) (λ_ _=>rfl) hM (hM'none m _ hm ho0)
  |gen ds G=>exact hk.keep rfl (λ_ _=>rfl) (λ_ _=>rfl) hM (hM'none m _ hm ho0)
  |box oty cells=>
   obtain⟨b,cs,ty,k1,k2,k3,k4,k5,k6⟩:=hk
   refine⟨b,cs,ty,k1,k2,by rw[H.frzL_len];exact k3,λi c y hc hy=> ?_,hM'none m _ hm ho0 b (by rw[k1];rfl),k6⟩
   rw[H.frzL_get]at hy
   cases hz:cells[i]? with
   |none=>rw[hz]at hy;cases hy
   |some z=>rw[hz]at hy;simp at hy;subst hy;exact(k4 i c z hc hz).frz hM hrep
 ·intro m m' o o' b hne ho ho' hb hb'
  obtain⟨_,o0,h0,e0⟩:=hown m o ho
  obtain⟨_,o1,h1',e1⟩:=hown m' o' ho'
  rw[e0,Own.frz_foot]at hb
  rw[e1,Own.frz_foot]at hb'
  exact hs.apart m m' o0 o1 b hne h0 h1' hb hb'
 ·intro m o b ho hb
  obtain⟨_,o0,h0,e0⟩:=hown m o ho
  rw[e0,Own.frz_foot]at hb
  exact hs.home m o0 b h0 hb
 ·intro b k v hv
  simp only[M']at hv
  cases h0:M b k with
  |some u=>rw[h0]at hv;simp at hv;subst hv;exact hs.mnew b k u h0
  |none=>
   rw[h0]at hv
   simp only at hv
   split at hv
   ·rename_i hc;exact .inr (hs.home n _ b hn hc.1)
   ·cases hv
structure JS {α:Sort _} (a:α):Type where
section
variable {P:Program} {N:Nat->Prop} {nm:Nat->Nat} {all os:List Oper} {S:ab} {tr:List Tr1} {k:ab->Prop} {kt:ab->List Tr1->Prop} {h:JS k} {ht:JS kt}
end
section
variable {P:Program} {N:Nat->Prop} {C:Ctx} {nm:Nat->Nat} {S:ab} {Q:Exit->ab->Prop}
end
end Go.Awp
end
section
namespace Go.Awp
variable [Inhabited GMem]
mutual
def H.ren(f:Nat->Nat):H->H
 | .d x=> .d x
 | .junk=> .junk
 | .bp n o=> .bp (f n) o
 | .vh n l=> .vh (f n) l
 | .ep n s i o=> .ep (f n) s i o
 | .sv n s i o=> .sv (f n) s i o
 | .mp n=> .mp (f n)
 | .np n b=> .np (f n) b
 | .sd n=> .sd (f n)
 | .agg cs=> .agg (H.renL f cs)
 | .tup vs=> .tup (H.renL f vs)
 | .fn g a b=> .fn g (H.renL f a) (H.renL f b)
def H.renL(f:Nat->Nat):List H->List H
 |[]=>[]
 |x::r=>H.ren f x::H.renL f r
end
theorem H.renL_len(f:Nat->Nat):∀l:List H,(H.renL f l).length=l.length
 |[]=>rfl
 |x::r=>by simp[H.renL,H.renL_len f r]
theorem H.renL_get(f:Nat->Nat):∀(l:List H) (i:Nat),(H.renL f l)[i]?=(l[i]?).map (H.ren f)
 |[],i=>by simp[H.renL]
 |x::r,0=>by simp[H.renL]
 |x::r,i+1=>by simpa[H.renL]using H.renL_get f r i
theorem H.has_get{n:Nat}:∀{l:List H} {i:Nat} {x:H},l[i]?=some x->H.has n x=true->H.hasL n l=true:=by
 intro l i x hx hn
 cases hh:H.hasL n l with
 |true=>rfl
 |false=>rw[H.hasL_get hh hx]at hn;cases hn
theorem aP.ren{E E':Env}{M:Mem}{f:Nat->Nat}{v:Value}{x:H}(h:aP E M v x)(hE:∀n,H.has n x=true->E' (f n)=E n):aP E' M v (x.ren f):=by
 induction h with
 |d h=>exact .d h
 |junk v=>exact .junk v
 |bp n off b h=>exact .bp _ off b (by rw[hE n (by simp[H.has])];exact h)
 |vh n len l c a h hl=>exact .vh _ len l c a (by rw[hE n (by simp[H.has])];exact h) hl
 |ep n sz i off b q l c h hi=>exact .ep _ sz i off b q l c (by rw[hE n (by simp[H.has])];exact h) hi
 |sv n sz i off b l c h hi=>exact .sv _ sz i off b l c (by rw[hE n (by simp[H.has])];exact h) hi
 |sv0 n sz h=>exact .sv0 _ sz (by rw[hE n (by simp[H.has])];exact h)
 |mp n r h=>exact .mp _ r (by rw[hE n (by simp[H.has])];exact h)
 |np0 n=>exact .np0 _
 |np1 n b h=>exact .np1 _ b (by rw[hE n (by simp[H.has])];exact h)
 |sd n p h=>exact .sd _ p (by rw[hE n (by simp[H.has])];exact h)
 |agg cs l hl h ih=>
  refine .agg cs _ (by rw[H.renL_len];exact hl) λi c y hc hy=> ?_
  rw[H.renL_get]at hy
  cases hz:l[i]? with
  |none=>rw[hz]at hy;cases hy
  |some z=>rw[hz]at hy;simp at hy;subst hy;exact ih i c z hc hz λn hn=>hE n (H.has_get hz hn)
 |tup cs l hl h ih=>
  refine .tup cs _ (by rw[H.renL_len];exact hl) λi c y hc hy=> ?_
  rw[H.renL_get]at hy
  cases hz:l[i]? with
  |none=>rw[hz]at hy;cases hy
  |some z=>rw[hz]at hy;simp at hy;subst hy;exact ih i c z hc hz λn hn=>hE n (H.has_get hz hn)
 |fn g first captured l l' hl hl' h h' ih ih'=>
  refine .fn g first captured _ _ (by rw[H.renL_len];exact hl) (by rw[H.renL_len];exact hl') (λi c y hc hy=> ?_) (λi c y hc hy=> ?_)
  ·rw[H.renL_get]at hy
   cases hz:l[i]? with
   |none=>rw[hz]at hy;cases hy
   |some z=>rw[hz]at hy;simp at hy;subst hy;exact ih i c z hc hz λn hn=>hE n (by simp[H.has,H.has_get hz hn])
  ·rw[H.renL_get]at hy
   cases hz:l'[i]? with
   |none=>rw[hz]at hy;cases hy
   |some z=>rw[hz]at hy;simp at hy;subst hy;exact ih' i c z hc hz λn hn=>hE n (by simp[H.has,H.has_get hz hn])
theorem aP.unren{E:Env}{M:Mem}{f:Nat->Nat}{v:Value}{x:H}(h:aP E M v x):∀{y:H},x=y.ren f->aP (λn=>E (f n)) M v y:=by
 induction h with
 |d h=>intro y hy;cases y<;>simp only[H.ren,reduceCtorEq]at hy;cases hy;exact .d h
 |junk v=>intro y hy;cases y<;>simp only[H.ren,reduceCtorEq]at hy;exact .junk v
 |bp n off b h=>intro y hy;cases y<;>simp only[H.ren,reduceCtorEq]at hy;cases hy;exact .bp _ _ b h
 |vh n len l c a h hl=>intro y hy;cases y<;>simp only[H.ren,reduceCtorEq]at hy;cases hy;exact .vh _ _ l c a h hl
 |ep n sz i off b q l c h hi=>intro y hy;cases y<;>simp only[H.ren,reduceCtorEq]at hy;cases hy;exact .ep _ _ _ _ b q l c h hi
 |sv n sz i off b l c h hi=>intro y hy;cases y<;>simp only[H.ren,reduceCtorEq]at hy;cases hy;exact .sv _ _ _ _ b l c h hi
 |sv0 n sz h=>intro y hy;cases y<;>simp only[H.ren,reduceCtorEq]at hy;cases hy;exact .sv0 _ _ h
 |mp n r h=>intro y hy;cases y<;>simp only[H.ren,reduceCtorEq]at hy;cases hy;exact .mp _ r h
 |np0 n=>intro y hy;cases y<;>simp only[H.ren,reduceCtorEq]at hy;cases hy;exact .np0 _
 |np1 n b h=>intro y hy;cases y<;>simp only[H.ren,reduceCtorEq]at hy;cases hy;exact .np1 _ b h
 |sd n p h=>intro y hy;cases y<;>simp only[H.ren,reduceCtorEq]at hy;cases hy;exact .sd _ p h
 |agg cs l hl h ih=>
  intro y hy
  cases y<;>simp only[H.ren,reduceCtorEq]at hy
  cases hy
  exact .agg cs _ (by rw[H.renL_len]at hl;exact hl) λi c z hc hz=>ih i c _ hc (by rw[H.renL_get,hz];rfl) rfl
 |tup cs l hl h ih=>
  intro y hy
  cases y<;>simp only[H.ren,reduceCtorEq]at hy
  cases hy
  exact .tup cs _ (by rw[H.renL_len]at hl;exact hl) λi c z hc hz=>ih i c _ hc (by rw[H.renL_get,hz];rfl) rfl
 |fn g first captured l l' hl hl' h h' ih ih'=>
  intro y hy
  cases y<;>simp only[H.ren,reduceCtorEq]at hy
  cases hy
  exact .fn _ first captured _ _ (by rw[H.renL_len]at hl;exact hl) (by rw[H.renL_len]at hl';exact hl') (λi c z hc hz=>ih i c _ hc (by rw[H.renL_get,hz];rfl) rfl)
   (λi c z hc hz=>ih' i c _ hc (by rw[H.renL_get,hz];rfl) rfl)
def Own.ren(f:Nat->Nat):Own->Own
 | .box o cells=> .box o (H.renL f cells)
 | .vec e sz rows=> .vec e sz rows
 | .map es=> .map es
 | .iter s pos=> .iter s pos
 | .dvec e sz rows=> .dvec e sz rows
 | .miter m es rest cur=> .miter (f m) es rest cur
 | .gen ds G=> .gen (ds.map f) G
theorem Own.ren_foot(f:Nat->Nat)(w:World)(v:Value)(o:Own):(o.ren f).foot w v=o.foot w v:=by
 cases o<;>rfl
theorem aJ.ren{E E':Env}{M:Mem}{w:World}{f:Nat->Nat}{n:Nat}{o:Own}(h:aJ E M w n o)(hn:E' (f n)=E n)(hE:∀m,Own.has m o=true->E' (f m)=E m):aJ E' M w (f n) (o.ren f):=by
 cases o with
 |box oty cells=>
  obtain⟨b,cs,ty,h1,h2,h3,h4,h5⟩:=h
  refine⟨b,cs,ty,by rw[hn];exact h1,h2,by rw[H.renL_len];exact h3,λi c y hc hy=> ?_,h5⟩
  rw[H.renL_get]at hy
  cases hz:cells[i]? with
  |none=>rw[hz]at hy;cases hy
  |some z=>rw[hz]at hy;simp at hy;subst hy;exact(h4 i c z hc hz).ren λm hm=>hE m (H.has_get hz hm)
 |vec e sz rows=>
  obtain⟨xs,h1,h2,h3,h4⟩:=h
  exact⟨xs,by rw[hn];exact h1,h2,h3,by rw[hn];exact h4⟩
 |map es=>
  obtain⟨b,es',clock,h1,h2⟩:=h
  exact⟨b,es',clock,by rw[hn];exact h1,h2⟩
 |iter s pos=>
  obtain⟨b,h1,h2⟩:=h
  exact⟨b,by rw[hn];exact h1,h2⟩
 |dvec e sz rows=>
  obtain⟨B,h1,h2⟩:=h
  exact⟨B,by rw[hn];exact h1,h2⟩
 |gen ds G=>
  obtain⟨B,h1,h2⟩:=h
  refine⟨B,?_,h2⟩
  have hd:(ds.map f).map E'=ds.map E:=by
   rw[OQ]
   exact OP λk hk=>hE k (by
    simp only[Own.has,PG]
    exact⟨k,hk,Qo k⟩)
  rw[hn,hd];exact h1
 |miter m es rest cur=>
  obtain⟨r,b,es',clock,since,seen,last,h1,h2,h3⟩:=h
  exact⟨r,b,es',clock,since,seen,last,by rw[hn];exact h1,by rw[hE m (Qo m)];exact h2,h3⟩
theorem aJ.unren{E:Env}{M:Mem}{w:World}{f:Nat->Nat}{n:Nat}{o:Own}(h:aJ E M w (f n) (o.ren f)):aJ (λn=>E (f n)) M w n o:=by
 cases o with
 |box oty cells=>
  obtain⟨b,cs,ty,h1,h2,h3,h4,h5⟩:=h
  exact⟨b,cs,ty,h1,h2,by rw[H.renL_len]at h3;exact h3,λi c z hc hz=>(h4 i c _ hc (by rw[H.renL_get,hz];rfl)).unren rfl,h5⟩
 |vec e sz rows=>exact h
 |map es=>exact h
 |iter s pos=>exact h
 |dvec e sz rows=>exact h
 |miter m es rest cur=>exact h
 |gen ds G=>
  obtain⟨B,h1,h2⟩:=h
  exact⟨B,by rw[OQ]at h1;exact h1,h2⟩
def zt(f:Nat->Nat)(own:List (Nat×Own)):List (Nat×Own):=own.map λp=>(f p.1,p.2.ren f)
theorem h_{f:Nat->Nat}(hf:∀a b,f a=f b->a=b):∀(own:List (Nat×Own)) (n:Nat),gt (zt f own) (f n)=(gt own n).map (Own.ren f)
 |[],n=>rfl
 |(k,o)::r,n=>by
  have ih:=h_ hf r n
  simp only[zt,Ow,af]at ih⊢
  by_cases h:k=n
  ·subst h;simp
  ·rw[RR h,RR λe=>h (hf _ _ e)];exact ih
theorem dF{f:Nat->Nat}(hf:∀a b,f a=f b->a=b){own:List (Nat×Own)}{m:Nat}{o:Own}(h:gt (zt f own) m=some o):∃n o',m=f n/\gt own n=some o'/\o=o'.ren f:=by
 have hm:=bI h
 simp only[zt,OT]at hm
 obtain⟨⟨k,o1⟩,_,he⟩:=hm
 simp only[OV]at he
 obtain⟨rfl,_⟩:=he
 rw[h_ hf]at h
 cases hg:gt own k with
 |none=>rw[hg]at h;cases h
 |some o'=>rw[hg]at h;simp at h;exact⟨k,o',rfl,hg,h.symm⟩
mutual
def H.allN(p:Nat->Bool):H->Bool
 | .d _=>true
 | .junk=>true
 | .bp n _=>p n
 | .vh n _=>p n
 | .ep n _ _ _=>p n
 | .sv n _ _ _=>p n
 | .mp n=>p n
 | .np n _=>p n
 | .sd n=>p n
 | .agg cs=>H.allNL p cs
 | .tup vs=>H.allNL p vs
 | .fn _ a b=>H.allNL p a&&H.allNL p b
def H.allNL(p:Nat->Bool):List H->Bool
 |[]=>true
 |x::r=>H.allN p x&&H.allNL p r
end
mutual
theorem H.allN_has{p:Nat->Bool}{n:Nat}:∀{x:H},H.allN p x=true->H.has n x=true->p n=true
 | .d _,_,h=>by simp[H.has]at h
 | .junk,_,h=>by simp[H.has]at h
 | .bp m _,h,hn=>by simp[H.has,H.allN]at h hn;exact hn▸h
 | .vh m _,h,hn=>by simp[H.has,H.allN]at h hn;exact hn▸h
 | .ep m _ _ _,h,hn=>by simp[H.has,H.allN]at h hn;exact hn▸h
 | .sv m _ _ _,h,hn=>by simp[H.has,H.allN]at h hn;exact hn▸h
 | .mp m,h,hn=>by simp[H.has,H.allN]at h hn;exact hn▸h
 | .np m _,h,hn=>by simp[H.has,H.allN]at h hn;exact hn▸h
 | .sd m,h,hn=>by simp[H.has,H.allN]at h hn;exact hn▸h
 | .agg cs,h,hn=>by rw[H.allN]at h;rw[H.has]at hn;exact H.allNL_has h hn
 | .tup cs,h,hn=>by rw[H.allN]at h;rw[H.has]at hn;exact H.allNL_has h hn
 | .fn _ a b,h,hn=>by
  rw[H.allN,Oy]at h
  rw[H.has,Pk]at hn
  rcases hn with hn|hn
  ·exact H.allNL_has h.1 hn
  ·exact H.allNL_has h.2 hn
theorem H.allNL_has{p:Nat->Bool}{n:Nat}:∀{l:List H},H.allNL p l=true->H.hasL n l=true->p n=true
 |[],_,h=>by simp[H.hasL]at h
 |x::r,h,hn=>by
  rw[H.allNL,Oy]at h
  rw[H.hasL,Pk]at hn
  rcases hn with hn|hn
  ·exact H.allN_has h.1 hn
  ·exact H.allNL_has h.2 hn
end
def Own.allN(p:Nat->Bool):Own->Bool
 | .box _ cells=>H.allNL p cells
 | .vec .. =>true
 | .map _=>true
 | .iter _ _=>true
 | .dvec .. =>true
 | .miter m _ _ _=>p m
 | .gen ds _=>ds.all p
def σf(σ:List (Nat×Nat))(m:Nat):Nat:=match gt σ m with
 |some k=>k
 |none=>m+1000000
def σok:List (Nat×Nat)->Bool
 |[]=>true
 |(_,b)::r=>PQ b 1000000&&(r.all λp=> !Ph p.2 b)&&σok r
theorem σok_lt:∀{σ:List (Nat×Nat)},σok σ=true->∀{m k:Nat},gt σ m=some k->k<1000000
 |(a,b)::r,h,m,k,hg=>by
  simp only[σok,Oy]at h
  rw[af]at hg
  split at hg
  ·simp at hg;subst hg;exact by simpa[P8]using h.1.1
  ·exact σok_lt h.2 hg
theorem σok_inj:∀{σ:List (Nat×Nat)},σok σ=true->∀{m m' k:Nat},gt σ m=some k->gt σ m'=some k->m=m'
 |(a,b)::r,h,m,m',k,hg,hg'=>by
  simp only[σok,Oy,OD]at h
  have hne:∀x,gt r x≠some b:=λx hx=>by
   have:=h.1.2 _ (bI hx)
   simp at this
  rw[af]at hg hg'
  split at hg<;>split at hg'
  ·rename_i h1 h2;exact h1.symm.trans h2
  ·simp at hg;subst hg;exact(hne _ hg').elim
  ·simp at hg';subst hg';exact(hne _ hg).elim
  ·exact σok_inj h.2 hg hg'
theorem σf_inj{σ:List (Nat×Nat)}(h:σok σ=true)(a b:Nat)(he:σf σ a=σf σ b):a=b:=by
 unfold σf at he
 cases ha:gt σ a with
 |none=>
  cases hb:gt σ b with
  |none=>rw[ha,hb]at he;simp only[]at he;omega
  |some k=>rw[ha,hb]at he;have:=σok_lt h hb;simp only[]at he;omega
 |some k=>
  cases hb:gt σ b with
  |none=>rw[ha,hb]at he;have:=σok_lt h ha;simp only[]at he;omega
  |some k'=>rw[ha,hb]at he;simp only[]at he;subst he;exact σok_inj h ha hb
def IA(σ:List (Nat×Nat))(own:List (Nat×Own))(r:H)(own':List (Nat×Own)):Bool:=
 σok σ&&own.all (λp=>QR given p.1)&&own'.all (λp=>QR given p.1||PQ (σf σ p.1) given)&&
  H.allN (λn=>QR given n||(gt own' n).isSome) r&&own'.all (λp=>Own.allN (λn=>QR given n||(gt own' n).isSome) p.2)
open Classical in
theorem c8.ren{P:Program}{f:FuncId}{args:List H}{own own':List (Nat×Own)}{r:H}(h:c8 P f args own r own')(σ:List (Nat×Nat))(hc:IA σ own r own'=true):
 FR P f (H.renL (σf σ) args) (zt (σf σ) own) (r.ren (σf σ)) (zt (σf σ) own'):=by
 simp only[IA,Oy,OD]at hc
 obtain⟨⟨⟨⟨c1,c2⟩,c3⟩,c4⟩,c5⟩:=hc
 have hf:=σf_inj c1
 refine⟨h.1,λE M w vs hgm hm how hvs=> ?_⟩
 refine(h.2 (λn=>E (σf σ n)) M w vs hgm hm ⟨λn o hn=> ?_,λn m o o' b hne hn hm' hb hb2=> ?_⟩ ⟨?_,λi c x hc hx=> ?_⟩).mono ?_
 ·exact(how.ok _ _ (by rw[h_ hf,hn];rfl)).unren
 ·refine how.apart (σf σ n) (σf σ m) (o.ren (σf σ)) (o'.ren (σf σ)) b (λe=>hne (hf _ _ e)) (by rw[h_ hf,hn];rfl) (by rw[h_ hf,hm'];rfl) ?_ ?_
  ·rw[Own.ren_foot];exact hb
  ·rw[Own.ren_foot];exact hb2
 ·rw[hvs.1,H.renL_len]
 ·exact(hvs.2 i c _ hc (by rw[H.renL_get,hx];rfl)).unren rfl
 rintro e w' ⟨v,E2,M2,rfl,hp⟩
 let E':Env:=λn=>if h:∃m,σf σ m=n/\m<given/\gt own' m≠none then E2 (Classical.choose h)else E n
 have hE1:∀m,given<=m\/gt own' m≠none->E' (σf σ m)=E2 m:=by
  intro m hm'
  by_cases hlt:m<given
  ·have hm2:gt own' m≠none:=by rcases hm' with h1|h1;(omega);exact h1
   have hex:∃m',σf σ m'=σf σ m/\m'<given/\gt own' m'≠none:=⟨m,rfl,hlt,hm2⟩
   simp only[E']
   rw[dif_pos hex]
   exact congrArg E2 (hf _ _ (Classical.choose_spec hex).1)
  ·have hex:¬∃m',σf σ m'=σf σ m/\m'<given/\gt own' m'≠none:=by
    rintro⟨m',he,hl,_⟩
    have:=hf _ _ he
    omega
   simp only[E']
   rw[dif_neg hex]
   exact(hp.env m (by omega)).symm
 have hE2:∀n,(¬∃m,σf σ m=n/\m<given/\gt own' m≠none)->E' n=E n:=λn hn=>by simp only[E'];rw[dif_neg hn]
 have hpn:∀n,(QR given n||(gt own' n).isSome)=true->given<=n\/gt own' n≠none:=by
  intro n hn
  rw[Pk]at hn
  rcases hn with hn|hn
  ·exact .inl (Qe hn)
  ·exact .inr λe=>by rw[e]at hn;cases hn
 have hext:∀b,mO (λn=>E (σf σ n)) w own b->mO E w (zt (σf σ) own) b:=by
  rintro b ⟨n,o,hn,hb⟩
  exact⟨σf σ n,o.ren (σf σ),by rw[h_ hf,hn];rfl,by rw[Own.ren_foot];exact hb⟩
 have hblk:∀n o,gt own' n=some o->E' (σf σ n)=E2 n:=λn o hn=>hE1 n (.inr (by rw[hn];simp))
 refine⟨v,E',M2,rfl,{rep:=hp.rep.ren λn hn=>hE1 n (hpn n (H.allN_has c4 hn)),owns:=⟨λn o hn=> ?_,λn m o o' b hne hn hm' hb hb2=> ?_⟩,mle:=hp.mle,mem:=hp.mem,mnew:=λb o v hv=> ?_,home:=λn o b hn hb=> ?_,frame:=λk hk hx=>hp.frame k hk λh1=>hx (hext k h1),grows:=hp.grows,os:=hp.os,tape:=hp.tape,output:=hp.output,env:=λn hn=>hE2 n ?_},λn hn=>hE2 n ?_⟩
 ·obtain⟨m,o1,rfl,hg,rfl⟩:=dF hf hn
  refine(hp.owns.ok m o1 hg).ren (hblk m o1 hg) λk hk=>hE1 k (hpn k ?_)
  have:=c5 _ (bI hg)
  cases o1 with
  |box oty cells=>exact H.allNL_has this hk
  |vec e sz rows=>simp[Own.has]at hk
  |map es=>simp[Own.has]at hk
  |iter s pos=>simp[Own.has]at hk
  |dvec e sz rows=>simp[Own.has]at hk
  |miter m es rest cur=>simp only[Own.has]at hk;exact(O2 hk)▸this
  |gen ds G=>
   simp only[Own.has,PG]at hk
   obtain⟨q,hq1,hq2⟩:=hk
   have h9:ds.all (λn=>QR given n||(gt own' n).isSome)=true:=this
   have:=OD.1 h9 q hq1
   rw[O2 hq2]at this;exact this
 ·obtain⟨n1,o1,rfl,hg1,rfl⟩:=dF hf hn
  obtain⟨m1,o2,rfl,hg2,rfl⟩:=dF hf hm'
  rw[hblk n1 o1 hg1,Own.ren_foot]at hb
  rw[hblk m1 o2 hg2,Own.ren_foot]at hb2
  exact hp.owns.apart n1 m1 _ _ b (λe=>hne (by rw[e])) hg1 hg2 hb hb2
 ·rcases hp.mnew b o v hv with h1|h1|h1
  ·exact .inl h1
  ·exact .inr (.inl (hext b h1))
  ·exact .inr (.inr h1)
 ·obtain⟨m,o1,rfl,hg,rfl⟩:=dF hf hn
  rw[hblk m o1 hg,Own.ren_foot]at hb
  rcases hp.home m o1 b hg hb with h1|h1
  ·exact .inl (hext b h1)
  ·exact .inr h1
 ·rintro⟨m,rfl,hl,hne⟩
  cases hg:gt own' m with
  |none=>exact hne hg
  |some o=>
   have:=c3 _ (bI hg)
   simp only[Pk]at this
   rcases this with h1|h1
   ·have:=Qe h1;omega
   ·have:σf σ m<given:=by simpa[P8]using h1
    omega
 ·rintro⟨m,rfl,hl,hne⟩
  rcases hn with hn|⟨o,ho⟩
  ·rw[h_ hf]at hn
   cases hg:gt own' m with
   |none=>exact hne hg
   |some o=>rw[hg]at hn;cases hn
  ·obtain⟨n1,o1,he,hg,_⟩:=dF hf ho
   have:=hf _ _ he
   subst this
   have:=Qe (c2 _ (bI hg))
   simp only[]at this
   omega
end Go.Awp
end
section
namespace Go.Awp
variable [Inhabited GMem]
def D.le(a b:D):Prop:=∀(M:Mem) (v:Value),bW M v a->bW M v b
def H.le(a b:H):Prop:=∀(E:Env) (M:Mem) (v:Value),aP E M v a->aP E M v b
theorem D.le.refl(a:D):D.le a a:=λ_ _ h=>h
theorem H.le.refl(a:H):H.le a a:=λ_ _ _ h=>h
theorem H.le.d{a b:D}(h:D.le a b):H.le (.d a) (.d b):=λE M v hv=>by
 cases hv with
 |d hd=>exact .d (h M v hd)
theorem D.le.ern:D.le (.v .nilIface) (.er false):=λM v hv=>by
 cases hv
 exact .ern
theorem D.le.nil(sz:Nat):D.le (.v (.slice none 0 0)) (.sl sz []):=λM v hv=>by
 cases hv with
 |v=>exact .slnil sz
inductive D.Les:List D->List D->Prop
 |nil:D.Les [] []
 |cons {a b:D} {r s:List D} (h:D.le a b) (t:D.Les r s):D.Les (a::r) (b::s)
theorem D.Les.len{a b:List D}(h:D.Les a b):a.length=b.length:=by
 induction h with
 |nil=>rfl
 |cons h t ih=>simp[ih]
theorem D.Les.get{a b:List D}(h:D.Les a b):∀(i:Nat) (y:D),b[i]?=some y->∃x,a[i]?=some x/\D.le x y:=by
 induction h with
 |nil=>intro i y hy;simp at hy
 |cons h t ih=>
  intro i y hy
  cases i with
  |zero=>simp at hy;subst hy;exact⟨_,rfl,h⟩
  |succ i=>exact ih i y (by simpa using hy)
theorem D.Les.refl:∀a:List D,D.Les a a
 |[]=> .nil
 |x::r=> .cons (.refl x) (D.Les.refl r)
theorem D.le.agg{a b:List D}(h:D.Les a b):D.le (.agg a) (.agg b):=λM v hv=>by
 cases hv with
 |agg cs l hl hh=>
  refine .agg cs b (hl.trans h.len) λi c y hc hy=> ?_
  obtain⟨x,hx,hxy⟩:=h.get i y hy
  exact hxy M c (hh i c x hc hx)
inductive D.Rows:List (List D)->List (List D)->Prop
 |nil:D.Rows [] []
 |cons {a b:List D} {r s:List (List D)} (h:D.Les a b) (t:D.Rows r s):D.Rows (a::r) (b::s)
theorem D.Rows.len{a b:List (List D)}(h:D.Rows a b):a.length=b.length:=by
 induction h with
 |nil=>rfl
 |cons h t ih=>simp[ih]
theorem D.Rows.get{a b:List (List D)}(h:D.Rows a b):∀(i:Nat) (y:List D),b[i]?=some y->∃x,a[i]?=some x/\D.Les x y:=by
 induction h with
 |nil=>intro i y hy;simp at hy
 |cons h t ih=>
  intro i y hy
  cases i with
  |zero=>simp at hy;subst hy;exact⟨_,rfl,h⟩
  |succ i=>exact ih i y (by simpa using hy)
theorem D.le.sl{sz:Nat}{a b:List (List D)}(h:D.Rows a b):D.le (.sl sz a) (.sl sz b):=λM v hv=>by
 cases hv with
 |slnil=>cases h;exact .slnil sz
 |slmt a cap=>cases h;exact .slmt a cap sz
 |sl bl off len cap _ _ c hlen hcap hsz hm hh=>
  refine .sl bl off len cap sz b c (hlen.trans h.len) hcap (λr hr=> ?_) hm λi j r y hr hy=> ?_
  ·obtain⟨i,hi,rfl⟩:=QB hr
   obtain⟨x,hx,hxy⟩:=h.get i _ (Ou hi)
   rw[<-hxy.len];exact hsz x (OA hx)
  ·obtain⟨x,hx,hxy⟩:=h.get i r hr
   obtain⟨z,hz,hzy⟩:=hxy.get j y hy
   exact hzy M _ (hh i j x z hx hz)
theorem c8.weak{P:Program}{f:FuncId}{args args':List H}{own own':List (Nat×Own)}{r:H}(h:c8 P f args own r own')(hl:args'.length=args.length)
 (hw:∀(i:Nat) (x' x:H),args'[i]?=some x'->args[i]?=some x->H.le x' x):c8 P f args' own r own':=by
 refine⟨h.1,λE M w vs hgm hm ho hv=>h.2 E M w vs hgm hm ho ⟨hv.1.trans hl,λi c x hc hx=> ?_⟩⟩
 have hi:i<args'.length:=by rw[hl];exact(Ol.1 hx).1
 exact hw i _ x (Ou hi) hx E M c (hv.2 i c _ hc (Ou hi))
end Go.Awp
end
section
namespace Go.Awp
variable [Inhabited GMem]
variable {H0:Type} {enc:TypeId×Value->H0} {P:Program} {W:World} {spare:Nat->Bool} {held:Bool} {base:Nat}
def fx(W:World):Mem:=λb o=>W.cell? ⟨b,o,none⟩
theorem fZ{α β:Type}{f:α->Option β}:∀{l:List α} {r:List β},l.mapM f=some r->r.length=l.length/\∀(i:Nat) (x:α),l[i]?=some x->∃y,r[i]?=some y/\f x=some y
 |[],r,h=>by
  simp at h;subst h
  exact⟨rfl,λi x hx=>by simp at hx⟩
 |a::l,r,h=>by
  rw[Ru]at h
  cases ha:f a with
  |none=>rw[ha]at h;cases h
  |some y=>
   rw[ha]at h
   cases hl:l.mapM f with
   |none=>simp[hl]at h
   |some ys=>
    simp[hl]at h
    subst h
    obtain⟨h1,h2⟩:=fZ hl
    refine⟨by simp[h1],λi x hx=> ?_⟩
    cases i with
    |zero=>simp at hx;subst hx;exact⟨y,rfl,ha⟩
    |succ i=>exact h2 i x (by simpa using hx)
theorem EY{t:TypeId}{k:IntKind}(hu:P.underlying t=some (.int k)){fuel:Nat}{cs:List Value}{x:DataW H0×List MemPlace}(h:DataW.trod enc P W base spare held fuel t cs=some x):
 ∃n,cs=[.int k n]/\(Lit.int k n).wf=true:=by
 cases fuel with
 |zero=>cases h
 |succ fuel=>
  unfold DataW.trod at h
  rw[hu]at h
  simp only[]at h
  split at h<;>try(rename_i h1 _;cases h1)
  all_goals try(cases h;done)
  all_goals simp_all
theorem CN{t:TypeId}(hu:P.underlying t=some .bool){fuel:Nat}{cs:List Value}{x:DataW H0×List MemPlace}(h:DataW.trod enc P W base spare held fuel t cs=some x):
 ∃b,cs=[.bool b]:=by
 cases fuel with
 |zero=>cases h
 |succ fuel=>
  unfold DataW.trod at h
  rw[hu]at h
  simp only[]at h
  split at h<;>try(rename_i h1 _;cases h1)
  all_goals try(cases h;done)
  all_goals simp_all
theorem qQ{w:World}{b n:Nat}{a:Addr}{row:List Value}(h:w.cells? b a n=some row):row.length=n/\∀j,j<n->w.cell? (a.add j)=row[j]?:=by
 unfold World.cells? at h
 split at h
 ·obtain⟨h1,h2⟩:=fZ h
  rw[List.length_range]at h1
  refine⟨h1,λj hj=> ?_⟩
  obtain⟨y,hy,hf⟩:=h2 j j (by rw[PP hj])
  rw[hf,hy]
 ·cases h
theorem BH{α:Type}{R:Nat->α->Prop}:∀(n:Nat),(∀i,i<n->∃x,R i x)->∃l:List α,l.length=n/\∀(i:Nat) (x:α),l[i]?=some x->R i x
 |0,_=>⟨[],rfl,λi x hx=>by simp at hx⟩
 |n+1,h=>by
  obtain⟨l,h1,h2⟩:=BH n λi hi=>h i (by omega)
  obtain⟨x,hx⟩:=h n (by omega)
  refine⟨l++[x],by simp[h1],λi y hy=> ?_⟩
  by_cases hi:i<l.length
  ·rw[OK hi]at hy;exact h2 i y hy
  ·rw[OI (by omega)]at hy
   have:i-l.length=0:=by
    have:=(Ol.1 hy).1
    simp at this;omega
   rw[this]at hy
   simp at hy
   subst hy
   have:i=n:=by omega
   subst this;exact hx
theorem yg{w:World}{a:Addr}{k:Nat}{v:Value}(h:w.cell? (a.add k)=some v)(hk:k=0):a.spot=none:=by
 subst hk
 simp only[Addr.add,RO]at h
 unfold World.cell? at h
 split at h
 ·split at h
  ·cases h
  ·rename_i hs;simpa using hs
 ·cases h
theorem wY(b o k:Nat):(⟨b,o,none⟩:Addr).add k=⟨b,o+k,none⟩:=by
 unfold Addr.add
 split
 ·rename_i h;subst h;rfl
 ·rfl
theorem bW.of_slice{W:World}{b:Nat}{a:Addr}{len cap sz:Nat}(hsz:0<sz)(hc:len<=cap){rows:List (List D)}(hl:rows.length=len)(hr:∀r∈rows,r.length=sz)
 (h:∀i,i<len->∃row,W.cells? b (a.add (i *sz)) sz=some row/\∀r,rows[i]?=some r->∀(j:Nat) (c:Value) (x:D),row[j]?=some c->r[j]?=some x->bW (fx W) c x):
 bW (fx W) (.slice (some a) len cap) (.sl sz rows):=by
 by_cases h0:len=0
 ·subst h0
  have:rows=[]:=OL hl
  subst this
  exact .slmt a cap sz
 ·have hspot:a.spot=none:=by
   obtain⟨row,h1,_⟩:=h 0 (by omega)
   rw[P6]at h1
   obtain⟨g1,g2⟩:=qQ h1
   have:=g2 0 hsz
   have h3:(a.add 0)=a:=by simp[Addr.add]
   rw[h3]at this
   rw[Ou (by omega)]at this
   exact yg (k:=0) this rfl
  obtain⟨blk,off,spot⟩:=a
  simp only[]at hspot
  subst hspot
  have cell:∀(i j:Nat),i<len->j<sz->∃row c,W.cells? b ((⟨blk,off,none⟩:Addr).add (i *sz)) sz=some row/\row[j]?=some c/\W.cell? ⟨blk,off+(i *sz+j),none⟩=some c/\
   ∀r,rows[i]?=some r->∀(x:D),r[j]?=some x->bW (fx W) c x:=by
   intro i j hi hj
   obtain⟨row,h1,h2⟩:=h i hi
   obtain⟨g1,g2⟩:=qQ h1
   have:=g2 j hj
   rw[wY,wY]at this
   have hrow:row[j]?=some (row[j]'(by omega)):=Ou (by omega)
   rw[hrow,Pl]at this
   exact⟨row,_,h1,hrow,this,λr hr x hx=>h2 r hr j _ x hrow hx⟩
  refine .sl blk off len cap sz rows (λk=>(W.cell? ⟨blk,off+k,none⟩).getD undef) hl.symm hc hr (λk hk=> ?_) λi j r x hr' hx=> ?_
  ·have hi:k/sz<len:=Qi (by rw[P0];exact hk)
   obtain⟨row,c,_,_,h3,_⟩:=cell (k/sz) (k%sz) hi (QQ _ hsz)
   have hdm:k/sz *sz+k%sz=k:=by rw[P0];exact Qq k sz
   rw[hdm]at h3
   simp[fx,h3]
  ·have hi:i<len:=by rw[<-hl];exact(Ol.1 hr').1
   have hj:j<sz:=by rw[<-hr r (OA hr')];exact(Ol.1 hx).1
   obtain⟨row,c,_,_,h3,h4⟩:=cell i j hi hj
   simp only[h3,Pw]
   exact h4 r hr' x hx
theorem c8.closed{f:FuncId}{args:List H}{x:Value}(h:c8 P f args [] (.d (.v x)) []){W:World}{vs:Array Value}(hg:GOk (fx W) W)(hv:fK (λ_=>undef) (fx W) vs args):
 Calls P f vs W λe W'=>e= .returned x/\Go.RowKit.Below W.heap.size W W':=
 (h.2 (λ_=>undef) (fx W) W vs hg (λ_ _ _ hm=>hm) ⟨λn o hn=>by simp[gt]at hn,λn m o o' b _ hn=>by simp[gt]at hn⟩ hv).mono λe W' ⟨v,E',M',he,hp⟩=>by
   have hr:=hp.rep
   cases hr with
   |d hd=>cases hd with
    |v=>exact⟨he,hp.os,hp.tape,hp.output,hp.grows,λk hk=>hp.frame k hk λ⟨n,o,hn,_⟩=>by simp[gt]at hn⟩
end Go.Awp
end
section
namespace Go.Proofs.YtpndmanbfleadaaGreatDoor
open Go.Awp
noncomputable def Dc:Mem:=λb o=>
 if b=0 then(if o<256 then some (.int .u8 (Lib.firstT o))else none)
 else if b=1 then(if o<32 then some (.int .u8 (if o%2=0 then Lib.accLo (o/2)else Lib.accHi (o/2)))else none)
 else if b=4 then(if o<20 then some (.int .u64 (Lib.pow10Tab.getD o 0))else none)
 else if b=7 then(if o=15 then some (.int .u8 4)else none)
 else none
noncomputable instance:Inhabited GMem:=⟨{mem:=Dc,errs:=[2,3],whole:=[(4,20)]}⟩
theorem Dd{M:Mem}{w:World}(hg:GOk M w)(hm:∀b o v,M b o=some v->w.cell? ⟨b,o,none⟩=some v):Lib.Utf8Tabs 0 1 w:=by
 have h:=hg.le
 refine⟨λc hc=>hm _ _ _ (h 0 c _ ?_),λi hi=>⟨hm _ _ _ (h 1 (2 *i) _ ?_),hm _ _ _ (h 1 (2 *i+1) _ ?_)⟩⟩
 ·show Dc 0 c=_
  simp[Dc,hc]
 ·show Dc 1 (2 *i)=_
  simp[Dc,show 2 *i<32 by omega]
 ·show Dc 1 (2 *i+1)=_
  have h1:(2 *i+1)%2=1:=by omega
  have h2:(2 *i+1)/2=i:=by omega
  simp[Dc,show 2 *i+1<32 by omega,h1,h2]
theorem gj:Lib.pow10Tab.length=20:=by decide
theorem Db{M:Mem}{w:World}(hg:GOk M w)(hm:∀b o v,M b o=some v->w.cell? ⟨b,o,none⟩=some v):Lib.TabIs Tryz.prog w "internal/strconv.uint64pow10" .u64 Lib.pow10Tab:=by
 obtain⟨_,cs,t,fr,hw,hs⟩:=hg.whole (4,20) (.head _)
 simp only at hw hs
 have hcell:∀i,i<20->cs[i]?=some (.int .u64 (Lib.pow10Tab.getD i 0)):=by
  intro i hi
  have:=hm 4 i _ (hg.le 4 i (.int .u64 (Lib.pow10Tab.getD i 0)) (by show Dc 4 i=_;simp[Dc,hi]))
  simpa[World.cell?,hw]using this
 unfold Lib.TabIs World.var?
 have hn:Tryz.prog.globalNamed "internal/strconv.uint64pow10" =some 4:=by kernel_rfl
 rw[hn]
 simp only[PX,hw,Om]
 apply Array.ext_getElem?
 intro i
 by_cases hi:i<20
 ·rw[hcell i hi]
  simp only[Qs,Oq]
  rw[Ou (by rw[gj];exact hi)]
  simp[RL,Ou (show i<Lib.pow10Tab.length by rw[gj];exact hi)]
 ·rw[Qc (by omega)]
  rw[Qc (by simp[gj];omega)]
theorem Bp{M:Mem}{w:World}(hg:GOk M w)(hm:∀b o v,M b o=some v->w.cell? ⟨b,o,none⟩=some v):∃t x,w.cell? ⟨2,0,none⟩=some (.iface t x):=
 let⟨t,x,h⟩:=hg.errs 2 (.head _)
 ⟨t,x,hm _ _ _ h⟩
theorem Ee{M:Mem}{w:World}(hg:GOk M w)(hm:∀b o v,M b o=some v->w.cell? ⟨b,o,none⟩=some v):∃t x,w.cell? ⟨3,0,none⟩=some (.iface t x):=
 let⟨t,x,h⟩:=hg.errs 3 (.tail _ (.head _))
 ⟨t,x,hm _ _ _ h⟩
theorem Jg{w:World}(h7:w.cell? ⟨7,15,none⟩=some (.int .u8 4))(h:Lib.Utf8Tabs 0 1 w)(h10:Lib.TabIs Tryz.prog w "internal/strconv.uint64pow10" .u64 Lib.pow10Tab):Nk.le (fx w):=by
 intro b o v hv
 change Dc b o=some v at hv
 unfold Dc at hv
 split at hv
 ·rename_i hb;subst hb
  split at hv
  ·rename_i ho;cases hv;exact h.1 o ho
  ·cases hv
 ·split at hv
  ·rename_i hb;subst hb
   split at hv
   ·rename_i ho
    have h2:=h.2 (o/2) (by omega)
    by_cases hm:o%2=0
    ·rw[RS hm]at hv;cases hv
     have:=h2.1
     rwa [show 2 *(o/2)=o by omega]at this
    ·rw[RR hm]at hv;cases hv
     have:=h2.2
     rwa [show 2 *(o/2)+1=o by omega]at this
   ·cases hv
  ·split at hv
   ·rename_i hb;subst hb
    split at hv
    ·rename_i ho
     cases hv
     exact h10.cell (by kernel_rfl) o (by rw[gj];exact ho)
    ·cases hv
   ·split at hv
    ·rename_i hb;subst hb
     split at hv
     ·rename_i ho;subst ho;cases hv;exact h7
     ·cases hv
    ·cases hv
theorem vi{w w':World}{e:TypeId}(h:w'=w\/∃t,w'=Lib.bytesWorld w e t):Go.RowKit.Below w.heap.size w w':=by
 rcases h with rfl|⟨t,rfl⟩
 ·exact Go.RowKit.Below.refl _ _
 ·exact Lib.bytesWorld_below _ _ _
theorem vR{E:Env}{M:Mem}{k:IntKind}{n:Int}{v:Value}{b:Bool}(h:bW M v (.er b)):aP E M (.tuple #[.int k n,v]) (.tup [.d (.v (.int k n)), .d (.er b)]):=
 .tup _ _ rfl λi c x hc hx=>by
  match i with
  |0=>simp at hc hx;subst hc;subst hx;exact .d (.v _)
  |1=>simp at hc hx;subst hc;subst hx;exact .d h
  |i+2=>simp at hc
end Go.Proofs.YtpndmanbfleadaaGreatDoor
end
section
namespace Go.Proofs
open Go.Shelf
open Go.Proofs.Tryz (prog)
def Tryz.lays159_ren:Go.Shelf.Ren:=⟨λ|159=>133|165=>144|166=>100|167=>145|169=>96|230=>146|204=>147|240=>120|241=>153|197=>154|118=>155|168=>98|270=>156|262=>157|276=>134|277=>159|260=>160|242=>121|313=>161|278=>135|274=>162|275=>163|n=>n,λ|9=>9|4=>4|3=>3|5=>5|72=>108|0=>0|76=>72|75=>71|107=>167|70=>105|20=>20|37=>106|127=>134|21=>21|105=>168|164=>153|162=>179|203=>110|119=>114|46=>83|139=>117|138=>116|51=>102|160=>180|208=>186|206=>184|80=>109|n=>n,λ|13=>8|3=>0|4=>1|n=>n⟩
theorem Tryz.lays159:Go.Proofs.Lays.n159 prog Tryz.lays159_ren:={
 mixed:=by kernel_rfl
 f118:=Tryz.func155.trans (congrArg some (by kernel_rfl))
 f159:=Tryz.func133.trans (congrArg some (by kernel_rfl))
 f165:=Tryz.func144.trans (congrArg some (by kernel_rfl))
 f166:=Tryz.func100.trans (congrArg some (by kernel_rfl))
 f167:=Tryz.func145.trans (congrArg some (by kernel_rfl))
 f168:=Tryz.func98.trans (congrArg some (by kernel_rfl))
 f169:=Tryz.func96.trans (congrArg some (by kernel_rfl))
 f197:=Tryz.func154.trans (congrArg some (by kernel_rfl))
 f204:=Tryz.func147.trans (congrArg some (by kernel_rfl))
 f230:=Tryz.func146.trans (congrArg some (by kernel_rfl))
 f240:=Tryz.func120.trans (congrArg some (by kernel_rfl))
 f241:=Tryz.func153.trans (congrArg some (by kernel_rfl))
 f242:=Tryz.func121.trans (congrArg some (by kernel_rfl))
 f260:=Tryz.func160.trans (congrArg some (by kernel_rfl))
 f262:=Tryz.func157.trans (congrArg some (by kernel_rfl))
 f270:=Tryz.func156.trans (congrArg some (by kernel_rfl))
 f274:=Tryz.func162.trans (congrArg some (by kernel_rfl))
 f275:=Tryz.func163.trans (congrArg some (by kernel_rfl))
 f276:=Tryz.func134.trans (congrArg some (by kernel_rfl))
 f277:=Tryz.func159.trans (congrArg some (by kernel_rfl))
 f278:=Tryz.func135.trans (congrArg some (by kernel_rfl))
 f313:=Tryz.func161.trans (congrArg some (by kernel_rfl))
 t0:=Tryz.underlying0
 a0:=Tryz.isAgg0
 z0:=Tryz.sizeOf0
 v0:=Tryz.zeroValue0
 t3:=Tryz.underlying3
 a3:=Tryz.isAgg3
 z3:=Tryz.sizeOf3
 v3:=Tryz.zeroValue3
 t4:=Tryz.underlying4
 a4:=Tryz.isAgg4
 z4:=Tryz.sizeOf4
 v4:=Tryz.zeroValue4
 t5:=Tryz.underlying5
 a5:=Tryz.isAgg5
 z5:=Tryz.sizeOf5
 v5:=Tryz.zeroValue5
 t9:=Tryz.underlying9
 a9:=Tryz.isAgg9
 z9:=Tryz.sizeOf9
 v9:=Tryz.zeroValue9
 t20:=Tryz.underlying20
 a20:=Tryz.isAgg20
 z20:=Tryz.sizeOf20
 v20:=Tryz.zeroValue20
 t21:=Tryz.underlying21
 a21:=Tryz.isAgg21
 z21:=Tryz.sizeOf21
 v21:=Tryz.zeroValue21
 t37:=Tryz.underlying106
 a37:=Tryz.isAgg106
 z37:=Tryz.sizeOf106
 v37:=Tryz.zeroValue106
 t46:=Tryz.underlying83
 a46:=Tryz.isAgg83
 z46:=Tryz.sizeOf83
 v46:=Tryz.zeroValue83
 t51:=Tryz.underlying102
 a51:=Tryz.isAgg102
 z51:=Tryz.sizeOf102
 v51:=Tryz.zeroValue102
 t70:=Tryz.underlying105
 a70:=Tryz.isAgg105
 z70:=Tryz.sizeOf105
 v70:=Tryz.zeroValue105
 t72:=Tryz.underlying108
 a72:=Tryz.isAgg108
 z72:=Tryz.sizeOf108
 v72:=Tryz.zeroValue108
 t75:=Tryz.underlying71
 a75:=Tryz.isAgg71
 z75:=Tryz.sizeOf71
 v75:=Tryz.zeroValue71
 t76:=Tryz.underlying72
 a76:=Tryz.isAgg72
 z76:=Tryz.sizeOf72
 v76:=Tryz.zeroValue72
 t105:=Tryz.underlying168
 a105:=Tryz.isAgg168
 z105:=Tryz.sizeOf168
 v105:=Tryz.zeroValue168
 t107:=Tryz.underlying167
 a107:=Tryz.isAgg167
 z107:=Tryz.sizeOf167
 v107:=Tryz.zeroValue167
 t119:=Tryz.underlying114
 a119:=Tryz.isAgg114
 z119:=Tryz.sizeOf114
 t127:=Tryz.underlying134
 a127:=Tryz.isAgg134
 z127:=Tryz.sizeOf134
 v127:=Tryz.zeroValue134
 t138:=Tryz.underlying116
 a138:=Tryz.isAgg116
 z138:=Tryz.sizeOf116
 v138:=Tryz.zeroValue116
 t139:=Tryz.underlying117
 a139:=Tryz.isAgg117
 z139:=Tryz.sizeOf117
 v139:=Tryz.zeroValue117
 t160:=Tryz.underlying180
 a160:=Tryz.isAgg180
 z160:=Tryz.sizeOf180
 v160:=Tryz.zeroValue180
 t162:=Tryz.underlying179
 a162:=Tryz.isAgg179
 z162:=Tryz.sizeOf179
 v162:=Tryz.zeroValue179
 t164:=Tryz.underlying153
 a164:=Tryz.isAgg153
 z164:=Tryz.sizeOf153
 v164:=Tryz.zeroValue153
 t203:=Tryz.underlying110
 a203:=Tryz.isAgg110
 z203:=Tryz.sizeOf110
 v203:=Tryz.zeroValue110
 t206:=Tryz.underlying184
 a206:=Tryz.isAgg184
 z206:=Tryz.sizeOf184
 v206:=Tryz.zeroValue184
 t208:=Tryz.underlying186
 a208:=Tryz.isAgg186
 z208:=Tryz.sizeOf186
 v208:=Tryz.zeroValue186
 g3:=by kernel_rfl
 g4:=by kernel_rfl
 g13:=by kernel_rfl}
theorem Tryz.Builder_Extra_159:Builder.Extra prog Tryz.lays159_ren:={
 sizeBuilder:=by kernel_rfl
 liesBuilder:=by kernel_rfl
 t5:=Tryz.underlying5
 a5:=Tryz.isAgg5
 z5:=Tryz.sizeOf5
 v5:=Tryz.zeroValue5
 infoByte:=by kernel_rfl
 cellsByte:=by kernel_rfl
 sizeByte:=by kernel_rfl
 neB5:=by decide}
open Go.RowKit in
theorem Tryz.strings_ToLower_ascii(s:ByteArray)(w:World)(hs:s.size<=140737488355328)(hascii:∀(j:Nat) (b:UInt8),s.data.toList[j]?=some b->b.toNat<128):
 Calls prog 133 #[.string s] w λe w'=>e= .returned (.string ⟨(Lib.toLowerA s.data.toList).toArray⟩)/\Below w.heap.size w w':=Any.strings_ToLower_ascii Tryz.lays159 Tryz.Builder_Extra_159 s w hs hascii
def Tryz.laysM171_ren:Go.Shelf.Ren:=⟨λ|171=>60|243=>82|246=>110|283=>127|284=>128|285=>129|286=>130|129=>95|317=>139|318=>140|319=>141|320=>142|337=>151|338=>152|n=>n,λ|3=>3|9=>9|2=>2|4=>4|171=>146|0=>0|53=>104|37=>106|5=>5|173=>148|212=>161|51=>102|20=>20|213=>162|46=>83|232=>175|233=>176|n=>n,λ|17=>4|18=>6|19=>7|n=>n⟩
theorem Tryz.laysM171:Go.Proofs.LaysM.n171 prog Tryz.laysM171_ren:={
 mixed:=by kernel_rfl
 f129:=Tryz.func95.trans (congrArg some (by kernel_rfl))
 f171:=Tryz.func60.trans (congrArg some (by kernel_rfl))
 f243:=Tryz.func82.trans (congrArg some (by kernel_rfl))
 f246:=Tryz.func110.trans (congrArg some (by kernel_rfl))
 f283:=Tryz.func127.trans (congrArg some (by kernel_rfl))
 f284:=Tryz.func128.trans (congrArg some (by kernel_rfl))
 f285:=Tryz.func129.trans (congrArg some (by kernel_rfl))
 f286:=Tryz.func130.trans (congrArg some (by kernel_rfl))
 f317:=Tryz.func139.trans (congrArg some (by kernel_rfl))
 f318:=Tryz.func140.trans (congrArg some (by kernel_rfl))
 f319:=Tryz.func141.trans (congrArg some (by kernel_rfl))
 f320:=Tryz.func142.trans (congrArg some (by kernel_rfl))
 f337:=Tryz.func151.trans (congrArg some (by kernel_rfl))
 f338:=Tryz.func152.trans (congrArg some (by kernel_rfl))
 t0:=Tryz.underlying0
 a0:=Tryz.isAgg0
 z0:=Tryz.sizeOf0
 v0:=Tryz.zeroValue0
 t2:=Tryz.underlying2
 a2:=Tryz.isAgg2
 z2:=Tryz.sizeOf2
 v2:=Tryz.zeroValue2
 t3:=Tryz.underlying3
 a3:=Tryz.isAgg3
 z3:=Tryz.sizeOf3
 v3:=Tryz.zeroValue3
 t4:=Tryz.underlying4
 a4:=Tryz.isAgg4
 z4:=Tryz.sizeOf4
 v4:=Tryz.zeroValue4
 t5:=Tryz.underlying5
 a5:=Tryz.isAgg5
 z5:=Tryz.sizeOf5
 v5:=Tryz.zeroValue5
 t9:=Tryz.underlying9
 a9:=Tryz.isAgg9
 z9:=Tryz.sizeOf9
 v9:=Tryz.zeroValue9
 t20:=Tryz.underlying20
 a20:=Tryz.isAgg20
 z20:=Tryz.sizeOf20
 v20:=Tryz.zeroValue20
 t37:=Tryz.underlying106
 a37:=Tryz.isAgg106
 z37:=Tryz.sizeOf106
 v37:=Tryz.zeroValue106
 t46:=Tryz.underlying83
 a46:=Tryz.isAgg83
 z46:=Tryz.sizeOf83
 v46:=Tryz.zeroValue83
 t51:=Tryz.underlying102
 a51:=Tryz.isAgg102
 z51:=Tryz.sizeOf102
 v51:=Tryz.zeroValue102
 t53:=Tryz.underlying104
 a53:=Tryz.isAgg104
 z53:=Tryz.sizeOf104
 v53:=Tryz.zeroValue104
 t171:=Tryz.underlying146
 a171:=Tryz.isAgg146
 z171:=Tryz.sizeOf146
 v171:=Tryz.zeroValue146
 t173:=Tryz.underlying148
 a173:=Tryz.isAgg148
 z173:=Tryz.sizeOf148
 v173:=Tryz.zeroValue148
 t212:=Tryz.underlying161
 a212:=Tryz.isAgg161
 z212:=Tryz.sizeOf161
 v212:=Tryz.zeroValue161
 t213:=Tryz.underlying162
 a213:=Tryz.isAgg162
 z213:=Tryz.sizeOf162
 t232:=Tryz.underlying175
 a232:=Tryz.isAgg175
 z232:=Tryz.sizeOf175
 v232:=Tryz.zeroValue175
 t233:=Tryz.underlying176
 a233:=Tryz.isAgg176
 z233:=Tryz.sizeOf176
 v233:=Tryz.zeroValue176
 g17:=by kernel_rfl
 g18:=by kernel_rfl
 g19:=by kernel_rfl
 i0:=by kernel_rfl
 i2:=by kernel_rfl
 i3:=by kernel_rfl
 i4:=by kernel_rfl
 i5:=by kernel_rfl
 i9:=by kernel_rfl
 i20:=by kernel_rfl
 i37:=by kernel_rfl
 i46:=by kernel_rfl
 i51:=by kernel_rfl
 i53:=by kernel_rfl
 i171:=by kernel_rfl
 i173:=by kernel_rfl
 i212:=by kernel_rfl
 i232:=by kernel_rfl
 i233:=by kernel_rfl
 m17:=by kernel_rfl
 m18:=by kernel_rfl
 m19:=by kernel_rfl}
open Go.RowKit Go.Sort Go.Lib in
theorem Tryz.strconv_Itoa(n:Int)(h0: -9223372036854775808<=n)(h1:n<=9223372036854775807)(w:World)(htab:Lib.TabIs prog w "internal/strconv.uint64pow10" .u64 Lib.pow10Tab):
 Calls prog 60 #[.int .i64 n] w λe w'=>e= .returned (.string ⟨(Lib.itoa n).toArray⟩)/\∃k os,w'=grow (w.drewN k) os:=Any.strconv_Itoa Tryz.laysM171 n h0 h1 w htab
def Tryz.laysC172_ren:Go.Shelf.Ren:=⟨λ|172=>59|244=>80|245=>81|247=>105|279=>106|280=>107|281=>108|282=>109|287=>124|316=>125|171=>60|205=>126|321=>137|322=>138|243=>82|246=>110|283=>127|284=>128|285=>129|286=>130|129=>95|317=>139|318=>140|319=>141|320=>142|337=>151|338=>152|n=>n,λ|9=>9|3=>3|75=>71|76=>72|4=>4|5=>5|167=>120|37=>106|0=>0|85=>121|2=>2|168=>123|53=>104|175=>140|46=>83|210=>144|127=>134|145=>158|143=>156|21=>21|171=>146|173=>148|212=>161|51=>102|20=>20|213=>162|232=>175|233=>176|80=>109|n=>n,λ|15=>2|16=>3|17=>4|18=>6|19=>7|n=>n⟩
theorem Tryz.laysC172:Go.Proofs.LaysC.n172 prog Tryz.laysC172_ren:={
 mixed:=by kernel_rfl
 f129:=Tryz.func95.trans (congrArg some (by kernel_rfl))
 f171:=Tryz.func60.trans (congrArg some (by kernel_rfl))
 f172:=Tryz.func59.trans (congrArg some (by kernel_rfl))
 f205:=Tryz.func126.trans (congrArg some (by kernel_rfl))
 f243:=Tryz.func82.trans (congrArg some (by kernel_rfl))
 f244:=Tryz.func80.trans (congrArg some (by kernel_rfl))
 f245:=Tryz.func81.trans (congrArg some (by kernel_rfl))
 f246:=Tryz.func110.trans (congrArg some (by kernel_rfl))
 f247:=Tryz.func105.trans (congrArg some (by kernel_rfl))
 f279:=Tryz.func106.trans (congrArg some (by kernel_rfl))
 f280:=Tryz.func107.trans (congrArg some (by kernel_rfl))
 f281:=Tryz.func108.trans (congrArg some (by kernel_rfl))
 f282:=Tryz.func109.trans (congrArg some (by kernel_rfl))
 f283:=Tryz.func127.trans (congrArg some (by kernel_rfl))
 f284:=Tryz.func128.trans (congrArg some (by kernel_rfl))
 f285:=Tryz.func129.trans (congrArg some (by kernel_rfl))
 f286:=Tryz.func130.trans (congrArg some (by kernel_rfl))
 f287:=Tryz.func124.trans (congrArg some (by kernel_rfl))
 f316:=Tryz.func125.trans (congrArg some (by kernel_rfl))
 f317:=Tryz.func139.trans (congrArg some (by kernel_rfl))
 f318:=Tryz.func140.trans (congrArg some (by kernel_rfl))
 f319:=Tryz.func141.trans (congrArg some (by kernel_rfl))
 f320:=Tryz.func142.trans (congrArg some (by kernel_rfl))
 f321:=Tryz.func137.trans (congrArg some (by kernel_rfl))
 f322:=Tryz.func138.trans (congrArg some (by kernel_rfl))
 f337:=Tryz.func151.trans (congrArg some (by kernel_rfl))
 f338:=Tryz.func152.trans (congrArg some (by kernel_rfl))
 t0:=Tryz.underlying0
 a0:=Tryz.isAgg0
 z0:=Tryz.sizeOf0
 v0:=Tryz.zeroValue0
 t2:=Tryz.underlying2
 a2:=Tryz.isAgg2
 z2:=Tryz.sizeOf2
 v2:=Tryz.zeroValue2
 t3:=Tryz.underlying3
 a3:=Tryz.isAgg3
 z3:=Tryz.sizeOf3
 v3:=Tryz.zeroValue3
 t4:=Tryz.underlying4
 a4:=Tryz.isAgg4
 z4:=Tryz.sizeOf4
 v4:=Tryz.zeroValue4
 t5:=Tryz.underlying5
 a5:=Tryz.isAgg5
 z5:=Tryz.sizeOf5
 v5:=Tryz.zeroValue5
 t9:=Tryz.underlying9
 a9:=Tryz.isAgg9
 z9:=Tryz.sizeOf9
 v9:=Tryz.zeroValue9
 t20:=Tryz.underlying20
 a20:=Tryz.isAgg20
 z20:=Tryz.sizeOf20
 v20:=Tryz.zeroValue20
 t21:=Tryz.underlying21
 a21:=Tryz.isAgg21
 z21:=Tryz.sizeOf21
 v21:=Tryz.zeroValue21
 t37:=Tryz.underlying106
 a37:=Tryz.isAgg106
 z37:=Tryz.sizeOf106
 v37:=Tryz.zeroValue106
 t46:=Tryz.underlying83
 a46:=Tryz.isAgg83
 z46:=Tryz.sizeOf83
 v46:=Tryz.zeroValue83
 t51:=Tryz.underlying102
 a51:=Tryz.isAgg102
 z51:=Tryz.sizeOf102
 v51:=Tryz.zeroValue102
 t53:=Tryz.underlying104
 a53:=Tryz.isAgg104
 z53:=Tryz.sizeOf104
 v53:=Tryz.zeroValue104
 t75:=Tryz.underlying71
 a75:=Tryz.isAgg71
 z75:=Tryz.sizeOf71
 v75:=Tryz.zeroValue71
 t76:=Tryz.underlying72
 a76:=Tryz.isAgg72
 z76:=Tryz.sizeOf72
 v76:=Tryz.zeroValue72
 t85:=Tryz.underlying121
 a85:=Tryz.isAgg121
 z85:=Tryz.sizeOf121
 v85:=Tryz.zeroValue121
 t127:=Tryz.underlying134
 a127:=Tryz.isAgg134
 z127:=Tryz.sizeOf134
 v127:=Tryz.zeroValue134
 t143:=Tryz.underlying156
 a143:=Tryz.isAgg156
 z143:=Tryz.sizeOf156
 v143:=Tryz.zeroValue156
 t145:=Tryz.underlying158
 a145:=Tryz.isAgg158
 z145:=Tryz.sizeOf158
 v145:=Tryz.zeroValue158
 t167:=Tryz.underlying120
 a167:=Tryz.isAgg120
 z167:=Tryz.sizeOf120
 v167:=Tryz.zeroValue120
 t168:=Tryz.underlying123
 a168:=Tryz.isAgg123
 z168:=Tryz.sizeOf123
 v168:=Tryz.zeroValue123
 t171:=Tryz.underlying146
 a171:=Tryz.isAgg146
 z171:=Tryz.sizeOf146
 v171:=Tryz.zeroValue146
 t173:=Tryz.underlying148
 a173:=Tryz.isAgg148
 z173:=Tryz.sizeOf148
 v173:=Tryz.zeroValue148
 t175:=Tryz.underlying140
 a175:=Tryz.isAgg140
 z175:=Tryz.sizeOf140
 v175:=Tryz.zeroValue140
 t210:=Tryz.underlying144
 a210:=Tryz.isAgg144
 z210:=Tryz.sizeOf144
 v210:=Tryz.zeroValue144
 t212:=Tryz.underlying161
 a212:=Tryz.isAgg161
 z212:=Tryz.sizeOf161
 v212:=Tryz.zeroValue161
 t213:=Tryz.underlying162
 a213:=Tryz.isAgg162
 z213:=Tryz.sizeOf162
 t232:=Tryz.underlying175
 a232:=Tryz.isAgg175
 z232:=Tryz.sizeOf175
 v232:=Tryz.zeroValue175
 t233:=Tryz.underlying176
 a233:=Tryz.isAgg176
 z233:=Tryz.sizeOf176
 v233:=Tryz.zeroValue176
 g15:=by kernel_rfl
 g16:=by kernel_rfl
 g17:=by kernel_rfl
 g18:=by kernel_rfl
 g19:=by kernel_rfl
 t80:=Tryz.underlying109
 a80:=Tryz.isAgg109
 z80:=Tryz.sizeOf109
 v80:=Tryz.zeroValue109
 i0:=by kernel_rfl
 i2:=by kernel_rfl
 i3:=by kernel_rfl
 i4:=by kernel_rfl
 i5:=by kernel_rfl
 i9:=by kernel_rfl
 i20:=by kernel_rfl
 i21:=by kernel_rfl
 i37:=by kernel_rfl
 i46:=by kernel_rfl
 i51:=by kernel_rfl
 i53:=by kernel_rfl
 i75:=by kernel_rfl
 i76:=by kernel_rfl
 i80:=by kernel_rfl
 i85:=by kernel_rfl
 i127:=by kernel_rfl
 i143:=by kernel_rfl
 i145:=by kernel_rfl
 i167:=by kernel_rfl
 i168:=by kernel_rfl
 i171:=by kernel_rfl
 i173:=by kernel_rfl
 i175:=by kernel_rfl
 i210:=by kernel_rfl
 i212:=by kernel_rfl
 i232:=by kernel_rfl
 i233:=by kernel_rfl
 m15:=by kernel_rfl
 m16:=by kernel_rfl
 m17:=by kernel_rfl
 m18:=by kernel_rfl
 m19:=by kernel_rfl
 c0:=by kernel_rfl
 c2:=by kernel_rfl
 c3:=by kernel_rfl
 c4:=by kernel_rfl
 c5:=by kernel_rfl
 c9:=by kernel_rfl
 c20:=by kernel_rfl
 c21:=by kernel_rfl
 c37:=by kernel_rfl
 c46:=by kernel_rfl
 c51:=by kernel_rfl
 c53:=by kernel_rfl
 c75:=by kernel_rfl
 c76:=by kernel_rfl
 c80:=by kernel_rfl
 c85:=by kernel_rfl
 c127:=by kernel_rfl
 c143:=by kernel_rfl
 c145:=by kernel_rfl
 c167:=by kernel_rfl
 c168:=by kernel_rfl
 c171:=by kernel_rfl
 c173:=by kernel_rfl
 c175:=by kernel_rfl
 c210:=by kernel_rfl
 c212:=by kernel_rfl
 c213:=by kernel_rfl
 c232:=by kernel_rfl
 c233:=by kernel_rfl}
open Go.RowKit in
theorem Tryz.strconv_Atoi_ok(s:ByteArray)(hmax:s.size<=9223372036854775806)(v:Int)(h:Lib.atoiAll s.data.toList= .ok v)(w:World):
 Calls prog 59 #[.string s] w λe w'=>e= .returned (.tuple #[.int .i64 v, .nilIface])/\(w'=w\/∃t,w'=Lib.bytesWorld w 5 t):=Any.strconv_Atoi_ok Tryz.laysC172 s hmax v h w
open Go.RowKit in
theorem Tryz.strconv_Atoi_syntax(s:ByteArray)(hlim:s.size<=281474976710656)(h:(∀n,Lib.atoiAll s.data.toList≠ .ok n)/\Lib.atoiAll s.data.toList≠ .range)(ev:Value)(w:World)(hv:w.cell? ⟨2,0,none⟩=some ev)(hev:ev= .nilIface\/∃te pe,ev= .iface te pe):
 Calls prog 59 #[.string s] w λe w'=>∃N,e= .returned (.tuple #[.int .i64 (0), .iface 123 (.pointer (some ⟨N,0,none⟩))])/\w.heap.size<=N/\w'.heap[N]?=some (.cells #[.string ⟨#[65,116,111,105]⟩, .string s,ev] 144 (0,0))/\Below w.heap.size w w':=by
 cases hq:Lib.atoiAll s.data.toList with
 |ok n=>exact(h.1 n hq).elim
 |range=>exact(h.2 hq).elim
 |_=>exact Any.strconv_Atoi_syntax Tryz.laysC172 s hlim hq ev w hv hev
open Go.RowKit in
theorem Tryz.strconv_Atoi_range(s:ByteArray)(hlim:s.size<=281474976710656)(h:Lib.atoiAll s.data.toList= .range)(ev:Value)(w:World)(hv:w.cell? ⟨3,0,none⟩=some ev)(hev:ev= .nilIface\/∃te pe,ev= .iface te pe):
 Calls prog 59 #[.string s] w λe w'=>∃N,e= .returned (.tuple #[.int .i64 (Lib.atoiSat s.data.toList), .iface 123 (.pointer (some ⟨N,0,none⟩))])/\w.heap.size<=N/\w'.heap[N]?=some (.cells #[.string ⟨#[65,116,111,105]⟩, .string s,ev] 144 (0,0))/\Below w.heap.size w w':=Any.strconv_Atoi_range Tryz.laysC172 s hlim h ev w hv hev
def Tryz.lays217_ren:Go.Shelf.Ren:=⟨λ|217=>132|266=>143|n=>n,λ|9=>9|5=>5|3=>3|n=>n,λ|n=>n⟩
theorem Tryz.lays217:Go.Proofs.Lays.n217 prog Tryz.lays217_ren:={
 mixed:=by kernel_rfl
 f217:=Tryz.func132.trans (congrArg some (by kernel_rfl))
 f266:=Tryz.func143.trans (congrArg some (by kernel_rfl))
 t3:=Tryz.underlying3
 a3:=Tryz.isAgg3
 z3:=Tryz.sizeOf3
 v3:=Tryz.zeroValue3
 t5:=Tryz.underlying5
 a5:=Tryz.isAgg5
 z5:=Tryz.sizeOf5
 v5:=Tryz.zeroValue5
 t9:=Tryz.underlying9
 a9:=Tryz.isAgg9
 z9:=Tryz.sizeOf9
 v9:=Tryz.zeroValue9}
open Go.RowKit Go.Lib in
theorem Tryz.stringslite_IndexByte(s:ByteArray)(c:Int)(w:World):
 Calls prog 132 #[.string s, .int .u8 c] w λe w'=>e= .returned (.int .i64 (Lib.indexByte s.data.toList c.toNat.toUInt8))/\w'=w:=Any.stringslite_IndexByte Tryz.lays217 s c w
def Tryz.lays144_ren:Go.Shelf.Ren:=⟨λ|144=>101|143=>123|219=>136|217=>132|225=>148|224=>149|267=>150|266=>143|314=>158|n=>n,λ|9=>9|4=>4|3=>3|5=>5|46=>83|146=>173|51=>102|n=>n,λ|1=>5|n=>n⟩
theorem Tryz.lays144:Go.Proofs.Lays.n144 prog Tryz.lays144_ren:={
 mixed:=by kernel_rfl
 f143:=Tryz.func123.trans (congrArg some (by kernel_rfl))
 f144:=Tryz.func101.trans (congrArg some (by kernel_rfl))
 f217:=Tryz.func132.trans (congrArg some (by kernel_rfl))
 f219:=Tryz.func136.trans (congrArg some (by kernel_rfl))
 f224:=Tryz.func149.trans (congrArg some (by kernel_rfl))
 f225:=Tryz.func148.trans (congrArg some (by kernel_rfl))
 f266:=Tryz.func143.trans (congrArg some (by kernel_rfl))
 f267:=Tryz.func150.trans (congrArg some (by kernel_rfl))
 f314:=Tryz.func158.trans (congrArg some (by kernel_rfl))
 t3:=Tryz.underlying3
 a3:=Tryz.isAgg3
 z3:=Tryz.sizeOf3
 v3:=Tryz.zeroValue3
 t4:=Tryz.underlying4
 a4:=Tryz.isAgg4
 z4:=Tryz.sizeOf4
 v4:=Tryz.zeroValue4
 t5:=Tryz.underlying5
 a5:=Tryz.isAgg5
 z5:=Tryz.sizeOf5
 v5:=Tryz.zeroValue5
 t9:=Tryz.underlying9
 a9:=Tryz.isAgg9
 z9:=Tryz.sizeOf9
 v9:=Tryz.zeroValue9
 t46:=Tryz.underlying83
 a46:=Tryz.isAgg83
 z46:=Tryz.sizeOf83
 v46:=Tryz.zeroValue83
 t51:=Tryz.underlying102
 a51:=Tryz.isAgg102
 z51:=Tryz.sizeOf102
 v51:=Tryz.zeroValue102
 t146:=Tryz.underlying173
 a146:=Tryz.isAgg173
 z146:=Tryz.sizeOf173
 v146:=Tryz.zeroValue173
 g1:=by kernel_rfl}
open Go.RowKit Go.Lib in
theorem Tryz.strings_Contains_one(s:ByteArray)(c:UInt8)(w:World):
 Calls prog 101 #[.string s, .string ⟨#[c]⟩] w λe w'=>e= .returned (.bool (decide (0<=Lib.indexByte s.data.toList c)))/\w'=w:=Any.strings_Contains_one Tryz.lays144 s c w
def Tryz.lays190_ren:Go.Shelf.Ren:=⟨λ|190=>46|125=>66|258=>65|128=>94|129=>95|302=>85|303=>86|304=>87|305=>88|306=>89|307=>90|308=>91|309=>92|310=>93|333=>112|329=>113|330=>114|334=>115|335=>116|336=>117|344=>131|n=>n,λ|31=>22|9=>9|3=>3|46=>83|0=>0|51=>102|53=>104|4=>4|183=>95|182=>94|131=>67|5=>5|218=>128|222=>132|228=>150|229=>151|n=>n,λ|n=>n⟩
theorem Tryz.lays190:Go.Proofs.Lays.n190 prog Tryz.lays190_ren:={
 mixed:=by kernel_rfl
 f125:=Tryz.func66.trans (congrArg some (by kernel_rfl))
 f128:=Tryz.func94.trans (congrArg some (by kernel_rfl))
 f129:=Tryz.func95.trans (congrArg some (by kernel_rfl))
 f190:=Tryz.func46.trans (congrArg some (by kernel_rfl))
 f258:=Tryz.func65.trans (congrArg some (by kernel_rfl))
 f302:=Tryz.func85.trans (congrArg some (by kernel_rfl))
 f303:=Tryz.func86.trans (congrArg some (by kernel_rfl))
 f304:=Tryz.func87.trans (congrArg some (by kernel_rfl))
 f305:=Tryz.func88.trans (congrArg some (by kernel_rfl))
 f306:=Tryz.func89.trans (congrArg some (by kernel_rfl))
 f307:=Tryz.func90.trans (congrArg some (by kernel_rfl))
 f308:=Tryz.func91.trans (congrArg some (by kernel_rfl))
 f309:=Tryz.func92.trans (congrArg some (by kernel_rfl))
 f310:=Tryz.func93.trans (congrArg some (by kernel_rfl))
 f329:=Tryz.func113.trans (congrArg some (by kernel_rfl))
 f330:=Tryz.func114.trans (congrArg some (by kernel_rfl))
 f333:=Tryz.func112.trans (congrArg some (by kernel_rfl))
 f334:=Tryz.func115.trans (congrArg some (by kernel_rfl))
 f335:=Tryz.func116.trans (congrArg some (by kernel_rfl))
 f336:=Tryz.func117.trans (congrArg some (by kernel_rfl))
 f344:=Tryz.func131.trans (congrArg some (by kernel_rfl))
 t0:=Tryz.underlying0
 a0:=Tryz.isAgg0
 z0:=Tryz.sizeOf0
 v0:=Tryz.zeroValue0
 t3:=Tryz.underlying3
 a3:=Tryz.isAgg3
 z3:=Tryz.sizeOf3
 v3:=Tryz.zeroValue3
 t4:=Tryz.underlying4
 a4:=Tryz.isAgg4
 z4:=Tryz.sizeOf4
 v4:=Tryz.zeroValue4
 t5:=Tryz.underlying5
 a5:=Tryz.isAgg5
 z5:=Tryz.sizeOf5
 v5:=Tryz.zeroValue5
 t9:=Tryz.underlying9
 a9:=Tryz.isAgg9
 z9:=Tryz.sizeOf9
 v9:=Tryz.zeroValue9
 t31:=Tryz.underlying22
 a31:=Tryz.isAgg22
 z31:=Tryz.sizeOf22
 v31:=Tryz.zeroValue22
 t46:=Tryz.underlying83
 a46:=Tryz.isAgg83
 z46:=Tryz.sizeOf83
 v46:=Tryz.zeroValue83
 t51:=Tryz.underlying102
 a51:=Tryz.isAgg102
 z51:=Tryz.sizeOf102
 v51:=Tryz.zeroValue102
 t53:=Tryz.underlying104
 a53:=Tryz.isAgg104
 z53:=Tryz.sizeOf104
 v53:=Tryz.zeroValue104
 t131:=Tryz.underlying67
 a131:=Tryz.isAgg67
 z131:=Tryz.sizeOf67
 v131:=Tryz.zeroValue67
 t182:=Tryz.underlying94
 a182:=Tryz.isAgg94
 z182:=Tryz.sizeOf94
 v182:=Tryz.zeroValue94
 t183:=Tryz.underlying95
 a183:=Tryz.isAgg95
 z183:=Tryz.sizeOf95
 v183:=Tryz.zeroValue95
 t218:=Tryz.underlying128
 a218:=Tryz.isAgg128
 z218:=Tryz.sizeOf128
 v218:=Tryz.zeroValue128
 t222:=Tryz.underlying132
 a222:=Tryz.isAgg132
 z222:=Tryz.sizeOf132
 v222:=Tryz.zeroValue132
 t228:=Tryz.underlying150
 a228:=Tryz.isAgg150
 z228:=Tryz.sizeOf150
 v228:=Tryz.zeroValue150
 t229:=Tryz.underlying151
 a229:=Tryz.isAgg151
 z229:=Tryz.sizeOf151
 v229:=Tryz.zeroValue151}
open Go.Sort Go.RowKit in
theorem Tryz.slices_Sort_string(blk off cap:Nat)(ss:List (List UInt8))(w:World)(hH:Holds encStr w blk off ss.toArray)(hblk:blk<w.heap.size)(hsz:ss.length<4611686018427387904):
 Calls prog 46 #[.slice (some ⟨blk,off,none⟩) ss.length cap] w λe w'=>
  e= .returned (.tuple #[])/\∃n os,w'=grow (putRow encStr (Sort.ahead w n) blk off (ss.mergeSort λx y=>decide (x<=y)).toArray) os:=Any.slices_Sort_string Tryz.lays190 blk off cap ss w hH hblk hsz
def Tryz.lays194_ren:Go.Shelf.Ren:=⟨λ|194=>47|n=>n,λ|31=>22|9=>9|3=>3|4=>4|0=>0|n=>n,λ|n=>n⟩
theorem Tryz.lays194:Go.Proofs.Lays.n194 prog Tryz.lays194_ren:={
 mixed:=by kernel_rfl
 f194:=Tryz.func47.trans (congrArg some (by kernel_rfl))
 t0:=Tryz.underlying0
 a0:=Tryz.isAgg0
 z0:=Tryz.sizeOf0
 v0:=Tryz.zeroValue0
 t3:=Tryz.underlying3
 a3:=Tryz.isAgg3
 z3:=Tryz.sizeOf3
 v3:=Tryz.zeroValue3
 t4:=Tryz.underlying4
 a4:=Tryz.isAgg4
 z4:=Tryz.sizeOf4
 v4:=Tryz.zeroValue4
 t9:=Tryz.underlying9
 a9:=Tryz.isAgg9
 z9:=Tryz.sizeOf9
 v9:=Tryz.zeroValue9
 t31:=Tryz.underlying22
 a31:=Tryz.isAgg22
 z31:=Tryz.sizeOf22
 v31:=Tryz.zeroValue22}
open Go.RowKit Go.Lib Go.Sort in
theorem Tryz.slices_Compact_string(blk off cap:Nat)(zs:List (List UInt8))(w:World)(hH:Holds encStr w blk off zs.toArray)(hsz:zs.length<=9223372036854775807)(hcap:zs.length<=cap):
 Calls prog 47 #[.slice (some ⟨blk,off,none⟩) zs.length cap] w λe w'=>e= .returned (.slice (some ⟨blk,off,none⟩) (Lib.compact zs).length cap)/\∃q,w'=putRow encStr (Sort.ahead w q) blk off (Lib.compact zs++Pc (zs.length-(Lib.compact zs).length) []).toArray:=Any.slices_Compact_string Tryz.lays194 blk off cap zs w hH hsz hcap
open Go.RowKit Go.Lib Go.Sort in
theorem Tryz.slices_Compact_string_empty(a:Option Addr)(cap:Nat)(w:World):
 Calls prog 47 #[.slice a 0 cap] w λe w'=>e= .returned (.slice a 0 cap)/\w'=w:=Any.slices_Compact_string_empty Tryz.lays194 a cap w
open Go.RowKit Go.Sort in
theorem Tryz.slices_Sort_string_none(p:Option Addr)(cap:Nat)(w:World):
 Calls prog 46 #[.slice p 0 cap] w λe w'=>e= .returned (.tuple #[])/\w'=w:=Any.slices_Sort_string_none Tryz.lays190 p cap w
def Tryz.lays196_ren:Go.Shelf.Ren:=⟨λ|196=>76|259=>102|n=>n,λ|9=>9|4=>4|3=>3|5=>5|12=>12|119=>114|0=>0|46=>83|139=>117|138=>116|53=>104|n=>n,λ|3=>0|4=>1|n=>n⟩
theorem Tryz.lays196:Go.Proofs.Lays.n196 prog Tryz.lays196_ren:={
 mixed:=by kernel_rfl
 f196:=Tryz.func76.trans (congrArg some (by kernel_rfl))
 f259:=Tryz.func102.trans (congrArg some (by kernel_rfl))
 t0:=Tryz.underlying0
 a0:=Tryz.isAgg0
 z0:=Tryz.sizeOf0
 v0:=Tryz.zeroValue0
 t3:=Tryz.underlying3
 a3:=Tryz.isAgg3
 z3:=Tryz.sizeOf3
 v3:=Tryz.zeroValue3
 t4:=Tryz.underlying4
 a4:=Tryz.isAgg4
 z4:=Tryz.sizeOf4
 v4:=Tryz.zeroValue4
 t5:=Tryz.underlying5
 a5:=Tryz.isAgg5
 z5:=Tryz.sizeOf5
 v5:=Tryz.zeroValue5
 t9:=Tryz.underlying9
 a9:=Tryz.isAgg9
 z9:=Tryz.sizeOf9
 v9:=Tryz.zeroValue9
 t12:=Tryz.underlying12
 a12:=Tryz.isAgg12
 z12:=Tryz.sizeOf12
 v12:=Tryz.zeroValue12
 t46:=Tryz.underlying83
 a46:=Tryz.isAgg83
 z46:=Tryz.sizeOf83
 v46:=Tryz.zeroValue83
 t53:=Tryz.underlying104
 a53:=Tryz.isAgg104
 z53:=Tryz.sizeOf104
 v53:=Tryz.zeroValue104
 t119:=Tryz.underlying114
 a119:=Tryz.isAgg114
 z119:=Tryz.sizeOf114
 t138:=Tryz.underlying116
 a138:=Tryz.isAgg116
 z138:=Tryz.sizeOf116
 v138:=Tryz.zeroValue116
 t139:=Tryz.underlying117
 a139:=Tryz.isAgg117
 z139:=Tryz.sizeOf117
 v139:=Tryz.zeroValue117
 g3:=by kernel_rfl
 g4:=by kernel_rfl}
open Go.RowKit in
theorem Tryz.utf8_ValidString(s:ByteArray)(w:World)(hs:s.size<=9223372036854775807)(hT:Lib.Utf8Tabs 0 1 w):
 Calls prog 76 #[.string s] w λe w'=>e= .returned (.bool (Lib.validD s.data.toList))/\Below w.heap.size w w':=Any.utf8_ValidString Tryz.lays196 s w hs hT
end Go.Proofs
end
section
namespace Go.Awp
variable [Inhabited GMem]
def NQ(e sz:Nat)(rows:List (List D))(M:Mem)(w:World)(v:Value)(_:List Value)(B:Nat->Prop):Prop:=
 ∃g q cap cur,v= .slice (some ⟨g,q,none⟩) rows.length cap/\(∀b,B b↔b=g)/\w.heap[g]?=some (.cells cur e (0,0))/\rows.length<=cap/\q+cap *sz<=cur.size/\(∀r∈rows,r.length=sz)/\
  ∀(i j:Nat) (r:List D) (x:D),rows[i]?=some r->r[j]?=some x->∃c,cur[q+i *sz+j]?=some c/\bW M c x
def Nm(e sz:Nat)(rows:List (List D)):wV where
 R:=NQ e sz rows
 keep:=by
  rintro M M' w w' v vs B ⟨g,q,cap,cur,h1,h2,h3,h4,h6,h7,h8⟩ hM hw
  exact⟨g,q,cap,cur,h1,h2,by rw[hw g ((h2 g).2 rfl)];exact h3,h4,h6,h7,λi j r x hr hx=>let⟨c,k1,k2⟩:=h8 i j r x hr hx;⟨c,k1,k2.mono hM⟩⟩
 lt:=by
  rintro M w v vs B ⟨g,q,cap,cur,h1,h2,h3,_⟩ b hb
  rw[h2]at hb;subst hb
  exact(OC.1 h3).1
 det:=by
  rintro M M' w v vs vs' B B' ⟨g,q,cap,cur,rfl,h2,_⟩ ⟨g',q',cap',cur',h1,h2',_⟩ b
  cases h1
  rw[h2,h2']
 outer:=by
  rintro M w v vs B b ⟨g,q,cap,cur,rfl,h2,_⟩ hb
  cases hb;exact(h2 _).2 rfl
def Own.que(e sz:Nat)(rows:List (List D)):Own:= .gen [] (Nm e sz rows)
theorem aJ.que{E:Env}{M:Mem}{w:World}{n e sz:Nat}{rows:List (List D)}(h:aJ E M w n (.que e sz rows)):∃g q cap cur,E n= .slice (some ⟨g,q,none⟩) rows.length cap/\w.heap[g]?=some (.cells cur e (0,0))/\rows.length<=cap/\
 q+cap *sz<=cur.size/\(∀r∈rows,r.length=sz)/\(∀(i j:Nat) (r:List D) (x:D),rows[i]?=some r->r[j]?=some x->∃c,cur[q+i *sz+j]?=some c/\bW M c x)/\(∀o,M g o=none)/\∀b,(Own.que e sz rows).foot w (E n) b↔b=g:=by
 obtain⟨B,hR,h3⟩:=h
 have hR':=hR
 obtain⟨g,q,cap,cur,k1,k2,k3,k4,k6,k7,k8⟩:=hR
 exact⟨g,q,cap,cur,k1,k3,k4,k6,k7,k8,h3 g ((k2 g).2 rfl),λb=>by rw[Own.que,dn hR',k2]⟩
theorem aJ.mkQue{E:Env}{M:Mem}{w:World}{n e sz g q cap:Nat}{rows:List (List D)}{cur:Array Value}(hE:E n= .slice (some ⟨g,q,none⟩) rows.length cap)(hg:w.heap[g]?=some (.cells cur e (0,0)))(hc:rows.length<=cap)
 (hs:q+cap *sz<=cur.size)(hz:∀r∈rows,r.length=sz)(hx:∀(i j:Nat) (r:List D) (x:D),rows[i]?=some r->r[j]?=some x->∃c,cur[q+i *sz+j]?=some c/\bW M c x)(hM:∀o,M g o=none):
 aJ E M w n (.que e sz rows)/\∀b,(Own.que e sz rows).foot w (E n) b↔b=g:=by
 have hR:(Nm e sz rows).R M w (E n) [] (λb=>b=g):=⟨g,q,cap,cur,hE,λ_=>RM,hg,hc,hs,hz,hx⟩
 exact⟨⟨_,hR,λb hb=>by subst hb;exact hM⟩,λb=>by rw[Own.que,dn hR]⟩
theorem OLe.v2q{e sz:Nat}{rows:List (List D)}(hne:rows≠[]):OLe (.vec e sz rows) (.que e sz rows):=by
 have key:∀(E:Env) (M:Mem) (w:World) (n:Nat),aJ E M w n (.vec e sz rows)->aJ E M w n (.que e sz rows)/\∀b,(Own.que e sz rows).foot w (E n) b->(Own.vec e sz rows).foot w (E n) b:=by
  intro E M w n ⟨xs,h1,h2,h3,h4⟩
  have hlp:0<rows.length:=Ov.2 hne
  rcases h1.2 with⟨_,hz0⟩|⟨g,cap,cur,hE,_,hg,hnc,hcm,hcs,hct⟩
  ·omega
  obtain⟨k1,k2⟩:=aJ.mkQue (E:=E) (M:=M) (w:=w) (n:=n) (e:=e) (sz:=sz) (g:=g) (q:=0) (cap:=cap) (rows:=rows) (cur:=cur) hE hg hnc (by omega) h2 (λi j r x hr hx=>by
   have hi:i<rows.length:=(Ol.1 hr).1
   have hj:j<sz:=by rw[<-h2 r (OA hr)];exact(Ol.1 hx).1
   have hmul:(i+1) *sz<=rows.length *sz:=OH _ hi
   rw[OY]at hmul
   have hxl:=h1.1
   have hlt:i *sz+j<xs.length:=by omega
   obtain⟨u,this⟩:∃u,xs[i *sz+j]?=some u:=⟨_,Ou hlt⟩
   refine⟨u,?_,h3 i j r _ x hr hx this⟩
   rw[<-hct,OE,RS (by omega)]at this
   rw[OS]
   simpa using this) (h4 g (by rw[hE];rfl))
  refine⟨k1,λb hb=> ?_⟩
  have:=(k2 b).1 hb
  subst this
  rw[hE];rfl
 exact⟨λE M w n h=>(key E M w n h).1,λE M w n b h hb=>(key E M w n h).2 b hb⟩
variable {P:Program} {nm:Nat->Nat} {o:Oper} {ρ:Operand->H} {ω:Nat->Option Own}
theorem aC.pure{h:H}(hf:∀(E:Env) (M:Mem) (ev:Operand->Value) (w:World),(∀x∈o.op.operands,aP E M (ev x) (ρ x))->(∀b o v,M b o=some v->w.cell? ⟨b,o,none⟩=some v)->
 ∃v,(execOp ev o).run P w= .ok (.value v) w/\aP E M v h):aC P nm o ρ ω {val:=h}:=by
 intro C E M S a w K Q hP hd hs he ho hn hK
 subst hP
 obtain⟨v,h1,h2⟩:=hf E M a.eval w (λx hx=>by rw[<-he x hx];exact hs.ev x) hs.mem
 exact ap h1 (hK _ _ _ _ (hs.app_val hd rfl h2))
theorem cM(w:World)(r:Option Nat):w.grownBy w r:=⟨rfl,rfl,rfl,OO _,λ_ _ _=>rfl⟩
theorem aC.qtail{t:TypeId}{x lo:Operand}{m e e' sz by_ nn:Nat}{kk:IntKind}{l:Int}{rows:List (List D)}(ho:o.op= .slice t x (some lo) none none)(ht:bg P t=some (e',sz,by_))(hx:ρ x= .vh m rows.length)
 (hm:ω m=some (.que e sz rows))(hl:ρ lo= .d (.v (.int kk l)))(h0:0<=l)(h1:l<=rows.length):
 aC P nm o ρ ω {val:= .vh nn (rows.length-l.toNat),acc:=[m],upd:=[(nn,some (.que e sz (rows.drop l.toNat))),(m,none)],new:=[nn]}:=by
 intro C E M S a w K Q hP hd hs he hacc hn hK
 subst hP
 simp only[ho,Op.operands]at he
 obtain⟨ii,z,hu,hii,hz,hzs,his,hib,hpos⟩:=ba ht
 have hx':Go.Awp.ev S x= .vh m rows.length:=by rw[he x (by simp)];exact hx
 have hm':S.own? m=some (.que e sz rows):=by rw[hacc m (by simp)];exact hm
 have hxr:=hs.ev x
 rw[hx']at hxr
 obtain⟨g,q,cap,cur,hE,hg,hnc,hcs,hrz,hcell,hMg,hft⟩:=(hs.own m _ hm').que
 have hq:=d_ hxr hE
 rw[hE]at hq
 have hlo:a.eval lo= .int kk l:=by
  have:=hs.ev lo
  rw[he lo (by simp),hl]at this
  exact this.dv
 have hr:=eo (P:=C.P) (w:=w) true (len:=rows.length) (cap:=cap) (lo:=some (.int kk l)) (hi:=none) (l:=l) (h:=rows.length) (.inr ⟨kk,rfl⟩) (.inl ⟨rfl,rfl⟩) h0 (by omega) (by omega)
 have hdl:(rows.drop l.toNat).length=rows.length-l.toNat:=by simp
 obtain⟨v,q',hv,hrun,hcs'⟩:∃v q',v= .slice (some ⟨g,q',none⟩) (rows.drop l.toNat).length (cap-l.toNat)/\(execOp a.eval o).run C.P w= .ok (.value v) w/\(q'+(cap-l.toNat) *sz<=cur.size/\
  ∀(i j:Nat) (r:List D) (x:D),(rows.drop l.toNat)[i]?=some r->r[j]?=some x->∃c,cur[q'+i *sz+j]?=some c/\bW M c x):=by
  have run:(execOp a.eval o).run C.P w= .ok (.value (.slice (if cap=l.toNat then some ⟨g,q,none⟩else some ((⟨g,q,none⟩:Addr).add (l.toNat *sz))) (rows.length-l.toNat) (cap-l.toNat))) w:=by
   simp[execOp,ho,hq,hlo,Instr.sliceAt,Instr.slice,run_underlying hu,hr,sizeOf,typeInfo,hii,his]
  have hmul:cap *sz=l.toNat *sz+(cap-l.toNat) *sz:=by rw[<-Qb];congr 1;omega
  by_cases hlc:cap=l.toNat
  ·rw[RS hlc]at run
   refine⟨_,q,by rw[hdl],run,by rw[hlc,Nat.sub_self,P6];omega,λi j r x hr hx=> ?_⟩
   rw[OX]at hr
   have:=(Ol.1 hr).1
   omega
  ·rw[RR hlc,bF]at run
   refine⟨_,q+l.toNat *sz,by rw[hdl],run,by omega,λi j r x hr hx=> ?_⟩
   rw[OX]at hr
   obtain⟨c,k1,k2⟩:=hcell _ j r x hr hx
   refine⟨c,?_,k2⟩
   rw[Qb,<-Pl q]at k1
   exact k1
 refine ap hrun ?_
 obtain⟨k1,k2⟩:=aJ.mkQue (E:=λk=>if k=nn then v else E k) (M:=M) (w:=w) (n:=nn) (e:=e) (sz:=sz) (g:=g) (q:=q') (cap:=cap-l.toNat) (rows:=rows.drop l.toNat) (cur:=cur) (by rw[RS rfl];exact hv) hg
  (by rw[hdl];omega) hcs'.1 (λr hr=>hrz r (Px hr)) hcs'.2 hMg
 have h2:=hs.own_step (E':=λk=>if k=nn then v else E k) (n:=m) (d:=nn) (o':= .que e sz (rows.drop l.toNat)) hm' (w':=w) (cM w _) (λk hk=>RR hk) (.inr (hn nn (by simp)))
  (λb hb=> .inl ((hft b).2 ((k2 b).1 hb))) (λb hb=>by rw[RS rfl,hv]at hb;cases hb;exact(OC.1 hg).1) k1
 have h3:=h2.put o.dst hd (v:=v) (x:= .vh nn (rows.length-l.toNat)) (by rw[hv,hdl];exact .vh nn _ _ _ (some ⟨g,q',none⟩) (by rw[RS rfl]) (OO _))
 exact hK _ _ _ _ h3
theorem aC.qindex{t:TypeId}{x i:Operand}{m e e' sz sz' by_:Nat}{kk:IntKind}{n:Int}{rows:List (List D)}(ho:o.op= .indexAddr t x i)(ht:bg P t=some (e',sz,by_))(hx:ρ x= .vh m rows.length)(hi:ρ i= .d (.v (.int kk n)))
 (hm:ω m=some (.que e sz' rows))(h0:0<=n)(h1:n<rows.length):aC P nm o ρ ω {val:= .ep m sz n.toNat 0,acc:=[m]}:=by
 intro C E M S a w K Q hP hd hs he hacc hn hK
 subst hP
 simp only[ho,Op.operands]at he
 obtain⟨ii,z,hu,hii,hz,hzs,his,hib,hpos⟩:=ba ht
 have hx':Go.Awp.ev S x= .vh m rows.length:=by rw[he x (by simp)];exact hx
 have hm':S.own? m=some (.que e sz' rows):=by rw[hacc m (by simp)];exact hm
 have hxr:=hs.ev x
 rw[hx']at hxr
 obtain⟨g,q,cap,cur,hE,hg,hnc,hcs,hrz,hcell,hMg,hft⟩:=(hs.own m _ hm').que
 have hq:=d_ hxr hE
 rw[hE]at hq
 have hir:a.eval i= .int kk n:=by
  have:=hs.ev i
  rw[he i (by simp),hi]at this
  exact this.dv
 have hrun:(execOp a.eval o).run C.P w= .ok (.value (.pointer (some ⟨g,q+n.toNat *sz,none⟩))) w:=by
  simp[execOp,ho,hq,hir,Instr.indexAt,asIntOf,run_underlying hu,sizeOf,typeInfo,hii,his,h0,h1,bF]
 refine ap hrun (hK _ _ _ _ (hs.app_val hd rfl ?_))
 have:=aP.ep (E:=E) (M:=M) m sz n.toNat 0 g q rows.length _ hE (by omega)
 simpa using this
theorem aC.qload{t:TypeId}{x:Operand}{m s i off e sz:Nat}{ag:Bool}{rows:List (List D)}{r:List D}{d:D}(ho:o.op= .load t x)(ht:bu P t=some (ag,sz))(hx:ρ x= .ep m s i off)(hm:ω m=some (.que e s rows))
 (hr:rows[i]?=some r)(hl:de ag sz (r.drop off)=some d):aC P nm o ρ ω {val:= .d d,acc:=[m]}:=by
 intro C E M S a w K Q hP hd hs he hacc hn hK
 subst hP
 simp only[ho,Op.operands]at he
 have hx':Go.Awp.ev S x= .ep m s i off:=by rw[he x (by simp)];exact hx
 have hm':S.own? m=some (.que e s rows):=by rw[hacc m (by simp)];exact hm
 have hxr:=hs.ev x
 rw[hx']at hxr
 obtain⟨g,q,cap,cur,hE,hg,hnc,hcs,hrz,hcell,hMg,hft⟩:=(hs.own m _ hm').que
 generalize hq:a.eval x=qv at hxr
 cases hxr with
 |ep n sz' i off b q0 l c hE2 hi=>
  rw[hE]at hE2;cases hE2
  have hlr:=hrz r (OA hr)
  have hir:i<rows.length:=(Ol.1 hr).1
  have hmul:(i+1) *s<=cap *s:=OH _ (by omega)
  rw[OY]at hmul
  obtain⟨cs,hcsd⟩:∃cs,cs=((cur.toList.drop (q+i *s)).take s).drop off:=⟨_,rfl⟩
  have hcsl:cs.length=(r.drop off).length:=by rw[hcsd];simp[hlr];omega
  have hget:∀(j:Nat) v,cs[j]?=some v->off+j<s/\cur[q+i *s+(off+j)]?=some v:=by
   intro j v hv
   rw[hcsd,OX,OE]at hv
   split at hv
   ·rename_i hlt
    rw[OX]at hv
    exact⟨hlt,by simpa using hv⟩
   ·cases hv
  obtain⟨v,hrun,hrep⟩:=ie (E:=E) (M:=M) (cs:=cs) (l:=(r.drop off).map H.d) (w:=w) (b:=g) (off:=q+i *s+off) ht (by rw[hcsl];simp)
   (λj v hv=>by
     obtain⟨_,h2⟩:=hget j v hv
     rw[Pl]
     simp[World.cell?,hg,h2])
   (λj c z hc hz=>by
     simp only[Oq,OX]at hz
     cases hz':r[off+j]? with
     |none=>rw[hz']at hz;cases hz
     |some z'=>
      rw[hz']at hz;simp at hz;subst hz
      obtain⟨_,h2⟩:=hget j c hc
      obtain⟨c',k1,k2⟩:=hcell i (off+j) r z' hr hz'
      rw[h2]at k1;cases k1
      exact .d k2) (ic hl)
  exact ap (fl ho hq hrun) (hK _ _ _ _ (hs.app_val hd rfl hrep))
theorem aC.qappend{c:Call}{p q:Operand}{e sz bytes m nn:Nat}{t:TypeId}{rows news:List (List D)}(ho:o.op= .call c)(hc:c.callee= .builtin .append)(hargs:c.args= #[p,q])(hty:c.argTypes= #[t,t])
 (ht:bg P t=some (e,sz,bytes))(hp:ρ p= .vh m rows.length)(hm:ω m=some (.que e sz rows))(hq:ρ q= .d (.sl sz news))(hne:news≠[])(hone:news.all (λr=>r.all D.one)=true)
 (hby:(rows.length+news.length) *bytes<=140737488355328)(hle:rows.length+news.length<=1000000000000):
 aC P nm o ρ ω {val:= .vh nn (rows.length+news.length),acc:=[m],upd:=[(nn,some (.que e sz (rows++news))),(m,none)],new:=[nn]}:=by
 intro C E M S a w K Q hP hd hs he hacc hn hK
 subst hP
 simp only[ho,Op.operands,Call.operands,hc,hargs]at he
 obtain⟨ii,z,hu,hii,hz,hzs,his,hib,hpos⟩:=ba ht
 have hp':Go.Awp.ev S p= .vh m rows.length:=by rw[he p (by simp)];exact hp
 have hq':Go.Awp.ev S q= .d (.sl sz news):=by rw[he q (by simp)];exact hq
 have hm':S.own? m=some (.que e sz rows):=by rw[hacc m (by simp)];exact hm
 have hpr:=hs.ev p
 rw[hp']at hpr
 have hqr:=hs.ev q
 rw[hq']at hqr
 obtain⟨g,q0,cap,cur,hE,hg,hnc,hcs,hrz,hcell,hMg,hft⟩:=(hs.own m _ hm').que
 have hpv:=d_ hpr hE
 rw[hE]at hpv
 have exec:∀v w',(Builtin.append_ #[t,t] o.type #[a.eval p,a.eval q]).run C.P w= .ok v w'->(execOp a.eval o).run C.P w= .ok (.value v) w':=by
  intro v w' h
  simp[execOp,ho,resolve,hc,hargs,invoke,builtin,hty,h]
 rcases hqr.toD.sl_cells with⟨_,h'⟩|⟨ad,cc,_,h'⟩|⟨b,off,cc,hqv,hcc,cs,hcl,hcm,hrl,hcr⟩
 ·exact(hne h').elim
 ·exact(hne h').elim
 have hsrc:∀(j:Nat) u,cs[j]?=some u->w.cell? ((⟨b,off,none⟩:Addr).add j)=some u:=λj u hu=>by rw[bF];exact hs.mem _ _ _ (hcm j u hu)
 have hc1:∀u∈cs,u.oneCell'=true:=by
  intro u hu
  obtain⟨kk,hkk⟩:=P4.1 hu
  have hlt:kk<news.length *sz:=by rw[<-hcl];exact(Ol.1 hkk).1
  have hi:kk/sz<news.length:=Qi (by rw[P0];exact hlt)
  have hj:kk%sz<(news[kk/sz]).length:=by rw[hrl _ (Pn hi)];exact QQ _ hpos
  have hdm:kk/sz *sz+kk%sz=kk:=by rw[P0];exact Qq kk sz
  have hrep:=hcr (kk/sz) (kk%sz) _ u _ (Ou hi) (Ou hj) (by rw[hdm];exact hkk)
  have ho1:((news[kk/sz])[kk%sz]).one=true:=by
   rw[OD]at hone
   have:=hone _ (Pn hi)
   rw[OD]at this
   exact this _ (Pn hj)
  exact(aP.d (E:=E) hrep).one ho1
 have hmul:∀x y:Nat,x<=y->x *sz<=y *sz:=λx y h=>OH sz h
 have hrz':∀r∈rows++news,r.length=sz:=λr hr=>by
  rcases ON.1 hr with h|h
  ·exact hrz r h
  ·exact hrl r h
 have hall:(rows++news).length=rows.length+news.length:=OJ
 have hadd:(rows.length+news.length) *sz=rows.length *sz+news.length *sz:=Qb _ _ _
 obtain⟨v,w',g',q',cap',cur',hv,hrun,hgr,hg',hnc',hcs',hcell',hgg,hMg'⟩:∃v w' g' q' cap' cur',v= .slice (some ⟨g',q',none⟩) (rows++news).length cap'/\(Builtin.append_ #[t,t] o.type #[a.eval p,a.eval q]).run C.P w= .ok v w'/\
  w.grownBy w' (some g)/\w'.heap[g']?=some (.cells cur' e (0,0))/\(rows++news).length<=cap'/\q'+cap' *sz<=cur'.size/\
  (∀(i j:Nat) (r:List D) (x:D),(rows++news)[i]?=some r->r[j]?=some x->∃c,cur'[q'+i *sz+j]?=some c/\bW M c x)/\(g'=g\/w.heap.size<=g')/\∀o,M g' o=none:=by
  have glue:∀(cur':Array Value) (q':Nat),(∀x,x<rows.length *sz->cur'[q'+x]?=cur[q0+x]?)->(∀x,x<news.length *sz->cur'[q'+rows.length *sz+x]?=cs[x]?)->
   ∀(i j:Nat) (r:List D) (x:D),(rows++news)[i]?=some r->r[j]?=some x->∃c,cur'[q'+i *sz+j]?=some c/\bW M c x:=by
   intro cur' q' e1 e2 i j r x hr hx
   have hj:j<sz:=by
    have:=hrz' r (OA hr)
    have:=(Ol.1 hx).1;omega
   by_cases hi:i<rows.length
   ·rw[OK hi]at hr
    have h4:=hmul (i+1) rows.length hi
    rw[OY]at h4
    obtain⟨c,k1,k2⟩:=hcell i j r x hr hx
    exact⟨c,by rw[Pl,e1 _ (by omega),<-Pl];exact k1,k2⟩
   ·rw[OI (by omega)]at hr
    have hi2:=(Ol.1 hr).1
    have h4:=hmul rows.length i (by omega)
    have h5:i *sz=rows.length *sz+(i-rows.length) *sz:=by rw[<-Qb];congr 1;omega
    have h6:=hmul (i-rows.length+1) news.length hi2
    rw[OY]at h6
    have hlt:(i-rows.length) *sz+j<cs.length:=by omega
    refine⟨cs[(i-rows.length) *sz+j],?_,hcr _ j r _ x hr hx (Ou hlt)⟩
    rw[h5,<-Pl,Pl,e2 _ (by omega)]
    exact Ou hlt
  by_cases hroom:rows.length+news.length<=cap
  ·have h4:=hmul _ _ hroom
   have f1:=run_append_room_cells (P:=C.P) w t o.type e ii hu hii g q0 rows.length cap ⟨b,off,none⟩ news.length cc cs (by rw[his];exact hcl) hsrc hc1 hroom
    (λx hx=>by
      rw[his]
      have:q0+rows.length *sz+x<cur.size:=by omega
      simp[World.cell?,hg,OU this])
    (λx hx=>by simp[World.frozen?,hg])
   rw[his]at f1
   obtain⟨cur',b1,b2,b3,b4,b5,b6,b7,b8⟩:=dY cs (q0+rows.length *sz) w cur hg (by omega)
   have hget:∀x,cur'[x]?=if x<q0+rows.length *sz then cur[x]? else if x<q0+rows.length *sz+cs.length then cs[x-(q0+rows.length *sz)]? else cur[x]?:=by
    intro x
    have h5:=bD cur.toList cs (q0+rows.length *sz) x (by simp;omega)
    rw[<-b2]at h5
    simpa using h5
   refine⟨_,_,g,q0,cap,cur',by rw[hall],by rw[hpv,hqv];exact f1,⟨b6,b7,b8,by rw[b5];exact OO _,λk _ hk=>b4 k λe=>hk (by rw[e])⟩,b1,by rw[hall];exact hroom,by rw[b3];exact hcs,glue cur' q0 (λx hx=> ?_) (λx hx=> ?_), .inl rfl,hMg⟩
   ·rw[hget,RS (by omega)]
   ·rw[hget,RR (by omega),RS (by omega)]
    congr 1;omega
  ·have hol:((cur.toList.drop q0).take (rows.length *sz)).length=rows.length *ii.size:=by
    have:=hmul _ _ hnc
    rw[his];simp;omega
   have f1:=run_append_grow (P:=C.P) w t o.type e ii z hu hii hz ⟨g,q0,none⟩ rows.length cap ((cur.toList.drop q0).take (rows.length *sz)) hol
    (λj u hu=>by
      rw[OE]at hu
      split at hu
      ·rw[OX]at hu
       rw[bF]
       simpa[World.cell?,hg]using hu
      ·cases hu) ⟨b,off,none⟩ news.length cc cs (by rw[his];exact hcl) hsrc (by omega) (by omega) (growslice_fits (by omega) (by rw[hib];exact hby))
   have hge:=grownCap_ge w (rows.length+news.length) cap e
   obtain⟨zs,hzs'⟩:∃zs,zs=Builtin.zeroCells z.cells (grownCap w (rows.length+news.length) cap e-(rows.length+news.length)):=⟨_,rfl⟩
   have hzl:zs.size=(grownCap w (rows.length+news.length) cap e-(rows.length+news.length)) *sz:=by rw[hzs'];simp[Builtin.zeroCells,hzs]
   rw[<-hzs']at f1
   rw[his]at hol
   have hlen1:((cur.toList.drop q0).take (rows.length *sz)).toArray.size=rows.length *sz:=by simpa using hol
   have hM2:∀k,M w.heap.size k=none:=by
    intro k
    cases hm3:M w.heap.size k with
    |none=>rfl
    |some v=>have:=hs.cell_lt hm3;omega
   refine⟨_,w.drew.alloc (.cells (((cur.toList.drop q0).take (rows.length *sz)).toArray++cs.toArray++zs) e),w.heap.size,0,_,((cur.toList.drop q0).take (rows.length *sz)).toArray++cs.toArray++zs,by rw[hall],by rw[hpv,hqv];exact f1,?_,?_,by rw[hall];exact hge,?_,glue _ 0 (λx hx=> ?_) (λx hx=> ?_), .inr (OO _),hM2⟩
   ·have:=World.grownBy_alloc w.drew (.cells (((cur.toList.drop q0).take (rows.length *sz)).toArray++cs.toArray++zs) e) (some g)
    exact⟨this.os,this.tape,this.output,this.size,this.block⟩
   ·exact heap_alloc_new w.drew _
   ·simp only[Array.size_append,hlen1,hzl,P3,hcl]
    rw[OS]
    have:grownCap w (rows.length+news.length) cap e *sz=(rows.length+news.length) *sz+(grownCap w (rows.length+news.length) cap e-(rows.length+news.length)) *sz:=by rw[<-Qb];congr 1;omega
    omega
   ·rw[OS,Array.append_assoc,Qw (by rw[hlen1];exact hx)]
    simp only[Qs,OE,RS hx,OX]
    simp
   ·rw[OS,Qw (by simp only[Array.size_append,hlen1,P3,hcl];omega),Q6 (by rw[hlen1];omega),hlen1]
    simp
 refine ap (exec v w' hrun) ?_
 obtain⟨k1,k2⟩:=aJ.mkQue (E:=λk=>if k=nn then v else E k) (M:=M) (w:=w') (n:=nn) (e:=e) (sz:=sz) (g:=g') (q:=q') (cap:=cap') (rows:=rows++news) (cur:=cur') (by rw[RS rfl];exact hv) hg' hnc' hcs' hrz' hcell' hMg'
 have h2:=hs.own_step (E':=λk=>if k=nn then v else E k) (n:=m) (d:=nn) (o':= .que e sz (rows++news)) hm' (w':=w') (by rw[hE];exact hgr) (λk hk=>RR hk) (.inr (hn nn (by simp)))
  (λb hb=>by
    have:=(k2 b).1 hb
    subst this
    rcases hgg with h|h
    ·exact .inl ((hft _).2 h)
    ·exact .inr h) (λb hb=>by rw[RS rfl,hv]at hb;cases hb;exact(OC.1 hg').1) k1
 have h3:=h2.put o.dst hd (v:=v) (x:= .vh nn (rows.length+news.length)) (by rw[hv,hall];exact .vh nn _ _ _ (some ⟨g',q',none⟩) (by rw[RS rfl]) (OO _))
 exact hK _ _ _ _ h3
end Go.Awp
end
section
namespace Go.Awp
variable [Inhabited GMem] {P:Program} {nm:Nat->Nat} {o:Oper} {ρ:Operand->H} {ω:Nat->Option Own}
theorem aC.trunc{t:TypeId}{x hi:Operand}{m e e' sz sz' by_ nn:Nat}{kk:IntKind}{h:Int}{rows:List (List D)}(ho:o.op= .slice t x none (some hi) none)(ht:bg P t=some (e',sz',by_))(hx:ρ x= .vh m rows.length)
 (hm:ω m=some (.vec e sz rows))(hh:ρ hi= .d (.v (.int kk h)))(h0:0<=h)(h1:h<=rows.length):
 aC P nm o ρ ω {val:= .vh nn h.toNat,acc:=[m],upd:=[(nn,some (.vec e sz (rows.take h.toNat))),(m,none)],new:=[nn]}:=by
 intro C E M S a w K Q hP hd hs he hacc hn hK
 subst hP
 simp only[ho,Op.operands]at he
 obtain⟨ii,z,hu,hii,hz,hzs,his,hib,hpos⟩:=ba ht
 have hx':Go.Awp.ev S x= .vh m rows.length:=by rw[he x (by simp)];exact hx
 have hm':S.own? m=some (.vec e sz rows):=by rw[hacc m (by simp)];exact hm
 have hxr:=hs.ev x
 rw[hx']at hxr
 have hhi:a.eval hi= .int kk h:=by
  have:=hs.ev hi
  rw[he hi (by simp),hh]at this
  exact this.dv
 obtain⟨xs,ho1,ho2,ho3,ho4⟩:=hs.own m _ hm'
 have hform:∃ad cap,E m= .slice ad rows.length cap/\rows.length<=cap:=by
  rcases ho1.2 with⟨hn',hz'⟩|⟨g,cap,cur,hv',_,_,hnc,_⟩
  ·exact⟨none,0,by rw[hn',hz'],by omega⟩
  ·exact⟨_,cap,hv',hnc⟩
 obtain⟨ad,cap,hE,hcap⟩:=hform
 have hq:=d_ hxr hE
 rw[hE]at hq
 have hr:=eo (P:=C.P) (w:=w) true (len:=rows.length) (cap:=cap) (lo:=none) (hi:=some (.int kk h)) (l:=0) (h:=h) (.inl ⟨rfl,rfl⟩) (.inr ⟨kk,rfl⟩) (by omega) h0 (by omega)
 have run:(execOp a.eval o).run C.P w= .ok (.value (.slice ad h.toNat cap)) w:=by
  have:(execOp a.eval o).run C.P w= .ok (.value (.slice (if cap=0 then ad else ad.map (·.add 0)) h.toNat cap)) w:=by
   simp[execOp,ho,hq,hhi,Instr.sliceAt,Instr.slice,run_underlying hu,hr,sizeOf,typeInfo,hii,his]
  rw[this]
  have h0:ad.map (·.add 0)=ad:=by cases ad<;>simp[Addr.add]
  rw[h0]
  split<;>rfl
 refine ap run ?_
 have htl:(rows.take h.toNat).length=h.toNat:=by simp;omega
 have hmul:h.toNat *sz<=rows.length *sz:=OH _ (by omega)
 have hown':w.ownsRow 0 e sz (.slice ad h.toNat cap) h.toNat (xs.take (h.toNat *sz)):=by
  refine⟨by rw[O1,ho1.1,PA hmul],?_⟩
  rcases ho1.2 with⟨hn',hz'⟩|⟨g,cap',cur,hv',hb,hg,hnc,hcm,hcs,hct⟩
  ·left
   rw[hE]at hn'
   simp only[Value.slice.injEq]at hn'
   have h6:h.toNat=0:=by omega
   exact⟨by rw[hn'.1,h6,hn'.2.2],h6⟩
  ·right
   rw[hE]at hv'
   cases hv'
   exact⟨g,cap,cur,rfl,hb,hg,by omega,hcm,hcs,by rw[<-hct,Q2,PA hmul]⟩
 have ok:aJ (λk=>if k=nn then .slice ad h.toNat cap else E k) M w nn (.vec e sz (rows.take h.toNat)):=by
  refine⟨xs.take (h.toNat *sz),by simp only[RO];rw[htl];exact hown',λr hr=>ho2 r (Pg hr),λi j r c x hr hx hc=> ?_,λb hb k=> ?_⟩
  ·rw[OE]at hr hc
   split at hr
   ·split at hc
    ·exact ho3 i j r c x hr hx hc
    ·cases hc
   ·cases hr
  ·simp only[RO]at hb
   exact ho4 b (by rw[hE];cases ad<;>exact hb) k
 have h2:=hs.own_step (E':=λk=>if k=nn then .slice ad h.toNat cap else E k) (n:=m) (d:=nn) (o':= .vec e sz (rows.take h.toNat)) hm' (w':=w) (cM w _) (λk hk=>RR hk) (.inr (hn nn (by simp)))
  (λb hb=> .inl (by
    have hb:ak (if nn=nn then Value.slice ad h.toNat cap else E nn)=some b:=hb
    rw[RS rfl]at hb
    show ak (E m)=some b
    rw[hE];cases ad<;>exact hb)) (λb hb=>by
    rw[RS rfl]at hb
    exact hs.block_lt hm' (b:=b) (by
     show ak (E m)=some b
     rw[hE];cases ad<;>exact hb)) ok
 have h3:=h2.put o.dst hd (v:= .slice ad h.toNat cap) (x:= .vh nn h.toNat) (.vh nn _ _ _ ad (by rw[RS rfl]) (OO _))
 exact hK _ _ _ _ h3
def Li(ρ:Operand->H)(ω:Nat->Option Own)(q:Operand)(sz:Nat)(news:List (List D))(m:Nat)(acc:List Nat):Prop:=
 ρ q= .d (.sl sz news)/\acc=[m]\/∃m2 e lo rows,ρ q= .sv m2 sz lo news.length/\ω m2=some (.vec e sz rows)/\lo+news.length<=rows.length/\news=(rows.drop lo).take news.length/\m2≠m/\acc=[m,m2]
theorem aC.copy{c:Call}{p q:Operand}{e sz by_ m:Nat}{t:TypeId}{rows news:List (List D)}{acc:List Nat}(ho:o.op= .call c)(hc:c.callee= .builtin .copy)(hargs:c.args= #[p,q])(hty:c.argTypes[0]?=some t)
 (ht:bg P t=some (e,sz,by_))(hp:ρ p= .vh m rows.length)(hm:ω m=some (.vec e sz rows))(hq:Li ρ ω q sz news m acc)(hone:news.all (λr=>r.all D.one)=true):
 aC P nm o ρ ω {val:= .d (.v (.int .i64 (min news.length rows.length:Nat))),acc:=acc,upd:=[(m,some (.vec e sz (news.take rows.length++rows.drop news.length)))]}:=by
 intro C E M S a w K Q hP hd hs he hacc hn hK
 subst hP
 simp only[ho,Op.operands,Call.operands,hc,hargs]at he
 obtain⟨ii,z,hu,hii,hz,hzs,his,hib,hpos⟩:=ba ht
 have hma:m∈acc:=by
  rcases hq with⟨_,h⟩|⟨m2,e2,lo,rows2,_,_,_,_,_,h⟩<;>rw[h]<;>simp
 have hp':Go.Awp.ev S p= .vh m rows.length:=by rw[he p (by simp)];exact hp
 have hm':S.own? m=some (.vec e sz rows):=by rw[hacc m hma];exact hm
 have hpr:=hs.ev p
 rw[hp']at hpr
 have hqr:=hs.ev q
 rw[he q (by simp)]at hqr
 obtain⟨xs,ho1,ho2,ho3,ho4⟩:=hs.own m _ hm'
 obtain⟨qa,qc,cs,hqv,hcl,hcell,hnz,hcr⟩:∃qa qc,∃cs:List Value,a.eval q= .slice qa news.length qc/\cs.length=news.length *sz/\(∀(k:Nat) u,cs[k]?=some u->∃ad,qa=some ad/\w.cell? (ad.add k)=some u)/\(∀r∈news,r.length=sz)/\
  ∀(i j:Nat) (r:List D) (c:Value) (x:D),news[i]?=some r->r[j]?=some x->cs[i *sz+j]?=some c->bW M c x:=by
  rcases hq with⟨hq,_⟩|⟨m2,e2,lo,rows2,hq,hm2,hlo,hnews,hne,hac⟩
  ·rw[hq]at hqr
   rcases hqr.toD.sl_cells with⟨h,h'⟩|⟨ad,cc,h,h'⟩|⟨b,off,cc,hqv,hcc,cs,hcl,hcm,hrl,hcr⟩
   ·subst h'
    exact⟨none,0,[],h,by simp,by simp,by simp,by simp⟩
   ·subst h'
    exact⟨some ad,cc,[],h,by simp,by simp,by simp,by simp⟩
   ·exact⟨_,_,cs,hqv,hcl,λk u hu=>⟨_,rfl,by rw[bF];exact hs.mem _ _ _ (hcm k u hu)⟩,hrl,hcr⟩
  ·have hm2':S.own? m2=some (.vec e2 sz rows2):=by rw[hacc m2 (by rw[hac];simp)];exact hm2
   rw[hq]at hqr
   generalize hqv:a.eval q=qv at hqr
   obtain⟨ys,p1,p2,p3,p4⟩:=hs.own m2 _ hm2'
   generalize hnl0:news.length=nl at hqr
   cases hqr with
   |sv0 _ _ hE=>
    have:news=[]:=OL hnl0
    subst this
    exact⟨none,0,[],rfl,by simp,by simp,by simp,by simp⟩
   |sv _ _ _ _ g l cap hE hl1=>
    subst hnl0
    rcases p1.2 with⟨hn',_⟩|⟨g',cap',cur,hv',_,hg,hnc,hcm,hcs,hct⟩
    ·rw[hE]at hn';cases hn'
    rw[hE]at hv'
    cases hv'
    have hmul:∀x y:Nat,x<=y->x *sz<=y *sz:=λx y h=>OH sz h
    have h4:=hmul _ _ hlo
    rw[Qb]at h4
    have hyl:=p1.1
    refine⟨_,_,(ys.drop (lo *sz)).take (news.length *sz),rfl,by rw[O1,O5];omega,λk u hu=>⟨_,rfl,?_⟩,λr hr=>p2 r ?_,λi j r c x hr hx hc'=> ?_⟩
    ·rw[OE]at hu
     split at hu
     ·rename_i hk
      rw[OX]at hu
      have hlt:lo≠cap:=λe=>by
       have:news.length=0:=by omega
       rw[this,P6]at hk;omega
      rw[RR hlt,bF]
      rw[<-hct,OE]at hu
      split at hu
      ·simpa[World.cell?,hg]using hu
      ·cases hu
     ·cases hu
    ·rw[hnews]at hr
     exact Px (Pg hr)
    ·rw[hnews,OE]at hr
     split at hr
     ·rename_i hi
      rw[OX]at hr
      rw[OE]at hc'
      split at hc'
      ·rw[OX]at hc'
       refine p3 (lo+i) j r c x hr hx ?_
       rw[Qb,Pl];exact hc'
      ·cases hc'
     ·cases hr
 have hc1:∀u∈cs,u.oneCell'=true:=by
  intro u hu
  obtain⟨kk,hkk⟩:=P4.1 hu
  have hlt:kk<news.length *sz:=by rw[<-hcl];exact(Ol.1 hkk).1
  have hi:kk/sz<news.length:=Qi (by rw[P0];exact hlt)
  have hj:kk%sz<(news[kk/sz]).length:=by rw[hnz _ (Pn hi)];exact QQ _ hpos
  have hdm:kk/sz *sz+kk%sz=kk:=by rw[P0];exact Qq kk sz
  have hrep:=hcr (kk/sz) (kk%sz) _ u _ (Ou hi) (Ou hj) (by rw[hdm];exact hkk)
  have ho1:((news[kk/sz])[kk%sz]).one=true:=by
   rw[OD]at hone
   have:=hone _ (Pn hi)
   rw[OD]at this
   exact this _ (Pn hj)
  exact(aP.d (E:=E) hrep).one ho1
 obtain⟨n,hn0⟩:∃n,n=min news.length rows.length:=⟨_,rfl⟩
 have hfc:(Builtin.firstCells sz n (.slice qa news.length qc)).run C.P w= .ok (cs.take (n *sz)).toArray w:=by
  have hnl:n *sz<=news.length *sz:=OH _ (by omega)
  cases qa with
  |some ad=>
   exact run_firstCells_some (P:=C.P) w sz n ad _ _ _ (by rw[O1,hcl,PA hnl]) λj v hv=>by
    rw[OE]at hv
    split at hv
    ·obtain⟨ad',h1,h2⟩:=hcell j v hv
     cases h1;exact h2
    ·cases hv
  |none=>
   have:cs=[]:=by
    cases cs with
    |nil=>rfl
    |cons u r=>obtain⟨ad,h,_⟩:=hcell 0 u rfl;cases h
   subst this
   simp[Builtin.firstCells]
 have exec:∀w',(Builtin.copy_ c.argTypes o.type #[a.eval p,a.eval q]).run C.P w= .ok (goInt n) w'->(execOp a.eval o).run C.P w= .ok (.value (.int .i64 n)) w':=by
  intro w' h
  simp[execOp,ho,resolve,hc,hargs,invoke,builtin,h,goInt]
 have hmin:news.take rows.length++rows.drop news.length=news.take n++rows.drop n:=by
  by_cases h:news.length<=rows.length
  ·have h3:n=news.length:=by omega
   rw[h3,O8 h,List.take_length]
  ·have h2:rows.drop news.length=rows.drop rows.length:=by rw[P2 (by omega),P2 (OO _)]
   have h3:n=rows.length:=by omega
   rw[h3,h2]
 rw[hmin,<-hn0]at hK
 have hmul:∀x y:Nat,x<=y->x *sz<=y *sz:=λx y h=>OH sz h
 have hnrow:n<=rows.length:=by omega
 have hlen':(news.take n++rows.drop n).length=rows.length:=by simp;omega
 have hxl:=ho1.1
 have hctl:(cs.take (n *sz)).length=n *sz:=by rw[O1,hcl,PA (hmul _ _ (by omega))]
 have glue:∀(i j:Nat) (r:List D) (c:Value) (x:D),(news.take n++rows.drop n)[i]?=some r->r[j]?=some x->(cs.take (n *sz)++xs.drop (n *sz))[i *sz+j]?=some c->bW M c x:=by
  intro i j r c x hr hx hcc
  have hj:j<sz:=by
   have:r.length=sz:=by
    rcases ON.1 (OA hr)with h|h
    ·exact hnz r (Pg h)
    ·exact ho2 r (Px h)
   have:=(Ol.1 hx).1;omega
  have htl:(news.take n).length=n:=by simp;omega
  by_cases hi:i<n
  ·have h4:=hmul (i+1) n hi
   rw[OY]at h4
   rw[OK (by omega),OE,RS hi]at hr
   rw[OK (by omega),OE,RS (by omega)]at hcc
   exact hcr i j r c x hr hx hcc
  ·have h4:=hmul n i (by omega)
   rw[OI (by omega),OX,htl]at hr
   rw[OI (by omega),OX,hctl]at hcc
   have e1:n+(i-n)=i:=by omega
   have e2:n *sz+(i *sz+j-n *sz)=i *sz+j:=by omega
   rw[e1]at hr
   rw[e2]at hcc
   exact ho3 i j r c x hr hx hcc
 have hz2:∀r∈news.take n++rows.drop n,r.length=sz:=λr hr=>by
  rcases ON.1 hr with h|h
  ·exact hnz r (Pg h)
  ·exact ho2 r (Px h)
 have fin:∀w':World,(execOp a.eval o).run C.P w= .ok (.value (.int .i64 n)) w'->w.grownBy w' (ak (E m))->w'.ownsRow 0 e sz (E m) rows.length (cs.take (n *sz)++xs.drop (n *sz))->o.wp C.P a w K Q:=by
  intro w' hrun hgr hown
  refine ap hrun ?_
  have hmv:=hs.own_step (E':=E) (n:=m) (d:=m) (o':= .vec e sz (news.take n++rows.drop n)) hm' (w':=w') hgr (λ_ _=>rfl) (.inl ⟨rfl,rfl⟩) (λb hb=> .inl hb) (λb hb=>Qd (hs.block_lt hm' hb) hgr.size)
   ⟨_,by rw[hlen'];exact hown,hz2,glue,ho4⟩
  have h3:=hmv.put o.dst hd (v:= .int .i64 n) (x:= .d (.v (.int .i64 n))) (.d (.v _))
  refine hK _ _ _ _ (h3.weaken (λt x hx=> .inl hx) λk o' hk=> ?_)
  simp only[ab.own?,ab.app,OG,OM,af]at hk⊢
  by_cases hmk:m=k
  ·rw[RS hmk]at hk⊢;exact hk
  ·rw[RR hmk]at hk⊢;rw[RR hmk];exact hk
 rcases ho1.2 with⟨hEn,hz0⟩|⟨g,cap,cur,hE,hb,hg,hnc,hcm,hcs,hct⟩
 ·have hpv:a.eval p= .slice none 0 0:=by
   have:=d_ hpr (ad:=none) (cap:=0) (by rw[hEn,hz0])
   rw[this,hEn]
  have hn1:n=0:=by omega
  refine fin w (exec w ?_) (cM w _) ?_
  ·rw[hpv,hqv]
   have h5:Nat.min news.length 0=0:=Nat.min_zero _
   simp only[hn1,P6,QK]at hfc
   simp[Builtin.copy_,hty,run_underlying hu,Builtin.lenOf,sizeOf,typeInfo,hii,his,hn1,h5,hfc]
  ·rw[hn1]
   simpa using ho1
 ·have hpv:=d_ hpr hE
  rw[hE]at hpv
  have h4:=hmul _ _ hnrow
  have h5:=hmul _ _ hnc
  have hst:=run_storeCells_cells (P:=C.P) g 0 (cs.take (n *sz)) 0 w (λj hj=>by
   rw[hctl]at hj
   have:0+0+j<cur.size:=by omega
   simp[World.cell?,hg,OU this]
   omega)
   (λj _=>by simp[World.frozen?,hg]) (λu hu=>hc1 u (Pg hu))
  simp only[Pd]at hst
  obtain⟨cur',b1,b2,b3,b4,b5,b6,b7,b8⟩:=dY (cs.take (n *sz)) 0 w cur hg (by omega)
  refine fin (w.setCells g 0 (cs.take (n *sz))) (exec _ ?_) ⟨b6,b7,b8,by rw[b5];exact OO _,λk _ hk=>b4 k λe=>hk (by rw[hE,e];rfl)⟩ ?_
  ·rw[hpv,hqv]
   have h6:Nat.min news.length rows.length=n:=hn0.symm
   simp[Builtin.copy_,hty,run_underlying hu,Builtin.lenOf,sizeOf,typeInfo,hii,his,h6,hfc,hst]
  ·rw[hE]
   refine⟨by rw[OJ,hctl,O5];omega, .inr ⟨g,cap,cur',rfl,Pu _,b1,hnc,hcm,by rw[b3];exact hcs,?_⟩⟩
   rw[b2]
   simp only[QK,OM,OS,hctl]
   rw[Rg,hctl,O8 (by omega),<-hct]
   congr 1
   rw[List.drop_take]
theorem aC.freezeBox{t:TypeId}{x:Operand}{ds:List D}(ho:o.op= .box t x)(hx:(ρ x).cells=some (ds.map .d)):aC P nm o ρ ω {val:= .d (.rp ds)}:=by
 intro C E M S a w K Q hP hd hs he hacc hn hK
 subst hP
 simp only[ho,Op.operands]at he
 have hxr:=hs.ev x
 rw[he x (by simp)]at hxr
 obtain⟨hsz,hcell⟩:=hxr.cells hx
 have hnew:∀(k:Nat),M w.heap.size k=none:=by
  intro k
  cases hm:M w.heap.size k with
  |none=>rfl
  |some v=>have:=hs.cell_lt hm;omega
 refine ap (v:= .pointer (some ⟨w.heap.size,0,none⟩)) (w':=w.alloc (.cells (a.eval x).cells t)) ?_ ?_
 ·simp[execOp,ho,Instr.box,newVar,newRow,newObj,Sem.run]
 have hle:Mem.le M (λb k=>if b=w.heap.size then(a.eval x).cells[k]? else M b k):=by
  intro b k v hv
  by_cases hb:b=w.heap.size
  ·subst hb;rw[hnew]at hv;cases hv
  ·simp[hb,hv]
 have h1:Sim C E (λb k=>if b=w.heap.size then(a.eval x).cells[k]? else M b k) S a (w.alloc (.cells (a.eval x).cells t)):=by
  refine hs.ro_new (World.grownBy_alloc w _ none) hle (λb k v hv=> ?_) (λb k v hv hb=> ?_)
  ·by_cases hb:b=w.heap.size
   ·right;omega
   ·left;simpa[hb]using hv
  ·by_cases hb':b=w.heap.size
   ·subst hb'
    simp at hv
    rw[cell_of_row _ w.heap.size k (a.eval x).cells t (0,0) (heap_alloc_new w _)]
    exact hv
   ·simp only[hb',RP]at hv
    have:=hs.cell_lt hv;omega
 rw[On]at hsz
 refine hK _ _ _ _ (h1.app_val hd rfl (.d ?_))
 refine .rp w.heap.size 0 ds (λk=>(a.eval x).cells.getD k undef) (λk hk=> ?_) λj y hy=> ?_
 ·simp only[OS,RO]
  have:k<(a.eval x).cells.size:=by omega
  rw[OU this]
  simp[this]
 ·have hj:j<(a.eval x).cells.size:=by have:=(Ol.1 hy).1;omega
  have hc:=hcell j _ (.d y) (OU hj) (by rw[Oq,hy];rfl)
  have:(a.eval x).cells.getD j undef=(a.eval x).cells[j]:=by simp[hj]
  rw[this]
  exact hc.toD.mono hle
end Go.Awp
end
section
namespace Go.Awp
variable [Inhabited GMem] {P:Program} {nm:Nat->Nat} {o:Oper} {ρ:Operand->H} {ω:Nat->Option Own}
def sN(P:Program)(t:TypeId):Option (Nat×TypeId×Bool×Nat):=
 match P.underlying t with
 |some (.array n e)=>match bu P e with
  |some (ag,sz)=>if 0<sz then some (n,e,ag,sz)else none
  |none=>none
 |_=>none
theorem ly{t e:TypeId}{n sz:Nat}{ag:Bool}(h:sN P t=some (n,e,ag,sz)):P.underlying t=some (.array n e)/\bu P e=some (ag,sz)/\(∃i,P.info? e=some i/\i.size=sz)/\0<sz:=by
 unfold sN at h
 split at h
 ·rename_i n' e' hu
  split at h
  ·rename_i ag' sz' hl
   split at h
   ·rename_i hp
    simp only[Om,OV]at h
    obtain⟨rfl,rfl,rfl,rfl⟩:=h
    refine⟨hu,hl,?_,hp⟩
    unfold bu at hl
    split at hl
    ·rename_i d i hd hi
     simp only[Om,OV]at hl
     exact⟨i,hi,hl.2⟩
    ·cases hl
   ·cases h
  ·cases h
 ·cases h
theorem aC.index{t e:TypeId}{x i:Operand}{len sz:Nat}{ag:Bool}{kk:IntKind}{n:Int}{ds:List D}{d:D}(ho:o.op= .index t x i)(ht:sN P t=some (len,e,ag,sz))(hx:ρ x= .d (.agg ds))(hi:ρ i= .d (.v (.int kk n)))
 (h0:0<=n)(h1:n<len)(hl:de ag sz (ds.drop (n.toNat *sz))=some d):aC P nm o ρ ω {val:= .d d}:=by
 obtain⟨hu,hty,⟨ii,hii,his⟩,hpos⟩:=ly ht
 refine aC.pure λE M ev w hr hm=> ?_
 simp only[ho,Op.operands]at hr
 have hxr:=hr x (by simp)
 have hir:=hr i (by simp)
 rw[hx]at hxr
 rw[hi]at hir
 have hiv:=hir.dv
 generalize hq:ev x=q at hxr
 cases hxr with
 |d h=>cases h with
  |agg cs _ hcl hc=>
   obtain⟨v,hv1,hv2⟩:=xK (w:=w) (E:=E) (M:=M) (cs:=cs) (l:=ds.map H.d) (off:=n.toNat *sz) (h:= .d d) hty (by simp[hcl]) (λj c y hcj hy=>by
    rw[Oq]at hy
    cases hz:ds[j]? with
    |none=>rw[hz]at hy;cases hy
    |some z=>rw[hz]at hy;simp at hy;subst hy;exact .d (hc j c z hcj hz)) (by rw[<-Pr];exact ic hl)
   refine⟨v,?_,hv2⟩
   simp[execOp,ho,hq,hiv,Instr.index,asIntOf,run_underlying hu,sizeOf,typeInfo,hii,his,h0,h1,hv1]
theorem aC.indexArr{t e:TypeId}{x i:Operand}{len sz:Nat}{ag:Bool}{kk:IntKind}{n:Int}{hx':H}(ho:o.op= .indexAddr t x i)(ht:sN P t=some (len,e,ag,sz))(hi:ρ i= .d (.v (.int kk n)))(h0:0<=n)(h1:n<len)
 (hh:(∃m off,ρ x= .bp m off/\hx'= .bp m (off+n.toNat *sz))\/(∃m s k off,ρ x= .ep m s k off/\hx'= .ep m s k (off+n.toNat *sz))\/
   ∃cells,ρ x= .d (.rp cells)/\n.toNat *sz+sz<=cells.length/\hx'= .d (.rp ((cells.drop (n.toNat *sz)).take sz))):aC P nm o ρ ω {val:=hx'}:=by
 obtain⟨hu,hty,⟨ii,hii,his⟩,hpos⟩:=ly ht
 refine aC.pure λE M ev w hr hm=> ?_
 simp only[ho,Op.operands]at hr
 have hxr:=hr x (by simp)
 have hir:=hr i (by simp)
 rw[hi]at hir
 have hiv:=hir.dv
 have run:∀b off,ev x= .pointer (some ⟨b,off,none⟩)->(execOp ev o).run P w= .ok (.value (.pointer (some ⟨b,off+n.toNat *sz,none⟩))) w:=by
  intro b off hq
  simp[execOp,ho,hq,hiv,Instr.indexAt,asIntOf,run_underlying hu,Instr.sureAddr,sizeOf,typeInfo,hii,his,h0,h1,bF]
 generalize hq:ev x=q at hxr
 rcases hh with⟨m,off,h,rfl⟩|⟨m,s,k,off,h,rfl⟩|⟨cells,h,hle,rfl⟩
 ·rw[h]at hxr
  cases hxr with
  |bp _ _ b hE=>exact⟨_,run _ _ hq, .bp m _ b hE⟩
 ·rw[h]at hxr
  cases hxr with
  |ep _ _ _ _ b q0 l c hE hi=>exact⟨_,run _ _ hq,by rw[Pl];exact .ep m s k _ b q0 l c hE hi⟩
 ·rw[h]at hxr
  cases hxr with
  |d hd=>cases hd with
   |rp b off _ c hc hd=>
    refine⟨_,run _ _ hq, .d (.rp b _ _ (λk=>c (n.toNat *sz+k)) (λk hk=> ?_) λj y hy=> ?_)⟩
    ·rw[O1,O5]at hk
     rw[Pl];exact hc _ (by omega)
    ·rw[OE]at hy
     split at hy
     ·rw[OX]at hy
      exact hd _ y hy
     ·cases hy
def yj(n sz:Nat):List (Nat×Nat):=(P9 n).map λi=>(i *sz,sz)
theorem qo{p p':Nat->Option (Nat×Nat)}:∀(l:List (Nat×Value)) (cells:Array Value) {r:Array Value},(∀i x,p i=some x->p' i=some x)->Instr.fill p cells l=some r->Instr.fill p' cells l=some r
 |[],cells,r,_,h=>h
 |(i,v)::rest,cells,r,hp,h=>by
  simp only[Instr.fill]at h⊢
  split at h
  ·cases h
  ·rename_i off size hi
   rw[hp i _ hi]
   simp only
   split at h
   ·cases h
   ·rename_i hc
    rw[RR hc]
    exact qo rest _ hp h
theorem aC.buildArr{t e:TypeId}{parts:Array (Nat×Operand)}{len sz:Nat}{ag:Bool}{z:List Value}{cs:List H}(ho:o.op= .build t parts)(ht:sN P t=some (len,e,ag,sz))(hz:gn P t=some z)
 (hcs:mN (yj len sz) (z.map λx=> .d (.v x)) (parts.toList.map λ(i,x)=>(i,fnD (ρ x)))=some cs):aC P nm o ρ ω {val:=bA cs}:=by
 obtain⟨hu,hty,⟨ii,hii,his⟩,hpos⟩:=ly ht
 refine aC.pure λE M ev w hr hm=> ?_
 simp only[ho,Op.operands]at hr
 unfold gn at hz
 split at hz
 ·rename_i it hit
  split at hz
  ·rename_i zv hzv
   simp only[Om]at hz;subst hz
   obtain⟨cells',e1,e2,e3⟩:=mY (E:=E) (M:=M) (yj len sz) _ (parts.toList.map λ(i,x)=>(i,ev x)) zv.cells _ cs hcs (by simp)
    (λi p q hp hq=>by
      simp only[Oq]at hp hq
      cases hx:parts.toList[i]? with
      |none=>rw[hx]at hp;cases hp
      |some y=>
       rw[hx]at hp hq;simp at hp hq;subst hp;subst hq
       exact⟨rfl,vI (hr y.2 (by simpa using ⟨y.1,by simpa using OA hx⟩))⟩) (by simp)
    (λi c x hc hx=>by
      simp only[Oq]at hx
      have hc':zv.cells.toList[i]?=some c:=by simpa using hc
      rw[hc']at hx;simp at hx;subst hx
      exact .d (.v c))
   have e1':=qo (p':=λi=>some (i *sz,sz)) _ _ (λi x hx=>by
    simp only[yj,Oq]at hx
    cases hr:(P9 len)[i]? with
    |none=>rw[hr]at hx;cases hx
    |some k=>
     rw[hr]at hx
     have:=(Ol.1 hr).2
     simp at this hx
     subst this;rw[<-hx]) e1
   refine⟨.agg cells',?_,aP.mk_agg e2 e3⟩
   have e1'':Instr.fill (λi=>some (i *sz,sz)) zv.cells (parts.map λ(i,x)=>(i,ev x)).toList=some cells':=by simpa using e1'
   simp only[execOp,ho,Instr.build,Sem.run_bind,zeroValue,typeInfo,program,Sem.run,hit,hzv,Result.andThen_ok,run_underlying hu,Sem.run_pure,sizeOf,hii,his]
   simp only[e1'',Sem.run_pure,Result.andThen_ok,Sem.run_bind]
  ·cases hz
 ·cases hz
inductive CK where
 |int (k:IntKind)
 |bool
 |str
 deriving DecidableEq
def CK.is:CK->Value->Bool
 | .int k, .int k' _=>decide (k=k')
 | .bool, .bool _=>true
 | .str, .string _=>true
 |_,_=>false
def n4:Value->Value->Bool
 | .int _ a, .int _ b=>a==b
 | .bool a, .bool b=>a==b
 | .string a, .string b=>a.toList==b.toList
 |_,_=>false
def bY:List Value->List Value->Bool
 |[],[]=>true
 |x::r,y::s=>n4 x y&&bY r s
 |_,_=>false
def gw:List CK->List Value->Bool
 |[],[]=>true
 |k::r,x::s=>k.is x&&gw r s
 |_,_=>false
def yN(P:Program)(g:TypeId->Option (List CK)):Nat->List Field->Option (List CK)
 |_,[]=>some []
 |off,f::fs=>if f.name != "_" &&Ph f.offset off then match P.info? f.type,g f.type with
  |some i,some ks=>if Ph i.size ks.length then match yN P g (off+ks.length) fs with
   |some r=>some (ks++r)
   |none=>none
   else none
  |_,_=>none
  else none
def hU(P:Program):Nat->TypeId->Option (List CK)
 |0,_=>none
 |d+1,t=>match P.underlying t with
  |some (.int k)=>some [.int k]
  |some .bool=>some [.bool]
  |some .string=>some [.str]
  |some (.struct fs)=>if P.stoodInHeld t=false then yN P (hU P d) 0 fs.toList else none
  |_=>none
def Bf(P:Program)(d off:Nat)(fs:List Field):Option (List CK):=yN P (hU P d) off fs
theorem iT:∀{ks:List CK} {xs:List Value},gw ks xs=true->ks.length=xs.length
 |[],[],_=>rfl
 |[],_::_,h=>by simp[gw]at h
 |_::_,[],h=>by simp[gw]at h
 |_::r,_::s,h=>by
  simp only[gw,Oy]at h
  simp[iT h.2]
theorem mZ:∀{ks ks':List CK} {xs:List Value},gw (ks++ks') xs=true->gw ks (xs.take ks.length)=true/\gw ks' (xs.drop ks.length)=true
 |[],ks',xs,h=>⟨by simp[gw],by simpa using h⟩
 |k::r,ks',[],h=>by simp[gw]at h
 |k::r,ks',x::s,h=>by
  simp only[OG,gw,Oy]at h
  obtain⟨h1,h2⟩:=mZ h.2
  exact⟨by simp[gw,h.1,h1],by simpa using h2⟩
theorem n5:∀(n:Nat) (xs ys:List Value),xs.length=ys.length->n<=xs.length->bY xs ys=(bY (xs.take n) (ys.take n)&&bY (xs.drop n) (ys.drop n))
 |0,xs,ys,_,_=>by simp[bY]
 |n+1,[],ys,_,h=>by simp at h
 |n+1,x::xs,[],h,_=>by simp at h
 |n+1,x::xs,y::ys,h,hn=>by
  simp only[RC,List.drop_succ_cons,bY]
  rw[n5 n xs ys (by simpa using h) (by simpa using hn),Bool.and_assoc]
def IsT(P:Program)(t:TypeId)(xs:List Value)(X:Value):Prop:=match P.underlying t with
 |some (.struct _)=>X= .agg xs.toArray
 |_=>xs=[X]
theorem mS{w:World}{t:TypeId}{k:CK}(hu:(∃q,k= .int q/\P.underlying t=some (.int q))\/k= .bool/\P.underlying t=some .bool\/k= .str/\P.underlying t=some .string)(d:Nat){x y:Value}
 (hx:k.is x=true)(hy:k.is y=true):(Op.equalIn (d+1) t x y).run P w= .ok (n4 x y) w:=by
 rcases hu with⟨q,rfl,hu⟩|⟨rfl,hu⟩|⟨rfl,hu⟩
 ·cases x<;>simp[CK.is]at hx
  cases y<;>simp[CK.is]at hy
  subst hx;subst hy
  exact run_equalIn_int w d t _ _ _ _ hu
 ·cases x<;>simp[CK.is]at hx
  cases y<;>simp[CK.is]at hy
  exact run_equalIn_bool' w d t _ _ hu
 ·cases x<;>simp[CK.is]at hx
  cases y<;>simp[CK.is]at hy
  exact run_equalIn_string w d t _ _ hu
theorem qS{w:World}{f:TypeId}{i:TypeInfo}{off:Nat}{xs:List Value}(hi:P.info? f=some i)(hu:∃d,P.underlying f=some d)(hl:off+i.size<=xs.length)(h1:(∀fs,P.underlying f≠some (.struct fs))->i.size=1/\∀n e,P.underlying f≠some (.array n e)):
 ∃X,(part f xs.toArray off).run P w= .ok X w/\IsT P f ((xs.drop off).take i.size) X:=by
 obtain⟨d,hd⟩:=hu
 cases d with
 |struct fs=>
  refine⟨.agg ((xs.drop off).take i.size).toArray,?_,by simp only[IsT,hd]⟩
  simp[part,isAgg,run_underlying hd,sizeOf,typeInfo,hi,List.extract]
 |_=>
  obtain⟨h2,h3⟩:=h1 (λfs=>by rw[hd];simp)
  have hlt:off<xs.length:=by omega
  refine⟨xs[off],?_,?_⟩
  ·first
    |(exfalso;exact h3 _ _ hd)
    |simp[part,isAgg,run_underlying hd,hlt]
  ·simp only[IsT,hd]
   rw[h2]
   apply Pf
   intro j
   rw[OE]
   cases j with
   |zero=>simp[hlt]
   |succ j=>simp
theorem qq:∀{d:Nat} {t:TypeId} {ks:List CK},hU P d t=some ks->(∃k,P.underlying t=some k)/\((∀fs,P.underlying t≠some (.struct fs))->ks.length=1/\∀n e,P.underlying t≠some (.array n e))
 |0,_,_,h=>by simp[hU]at h
 |d+1,t,ks,h=>by
  unfold hU at h
  split at h
  ·rename_i k hu;cases h;exact⟨⟨_,hu⟩,λ_=>⟨rfl,λn e=>by rw[hu];simp⟩⟩
  ·rename_i hu;cases h;exact⟨⟨_,hu⟩,λ_=>⟨rfl,λn e=>by rw[hu];simp⟩⟩
  ·rename_i hu;cases h;exact⟨⟨_,hu⟩,λ_=>⟨rfl,λn e=>by rw[hu];simp⟩⟩
  ·rename_i fs hu;exact⟨⟨_,hu⟩,λhn=>(hn fs hu).elim⟩
  ·cases h
mutual
theorem kF:∀(d:Nat) (t:TypeId) (ks:List CK),hU P d t=some ks->∀(k:Nat) (w:World) (xs ys:List Value) (X Y:Value),gw ks xs=true->gw ks ys=true->IsT P t xs X->IsT P t ys Y->
 (Op.equalIn (k+d) t X Y).run P w= .ok (bY xs ys) w
 |0,_,_,h=>by simp[hU]at h
 |d+1,t,ks,h=>by
  intro k w xs ys X Y hx hy hX hY
  unfold hU at h
  have one:∀c:CK,((∃q,c= .int q/\P.underlying t=some (.int q))\/c= .bool/\P.underlying t=some .bool\/c= .str/\P.underlying t=some .string)->ks=[c]->(Op.equalIn (k+(d+1)) t X Y).run P w= .ok (bY xs ys) w:=by
   intro c hu hks
   subst hks
   have e:xs=[X]/\ys=[Y]:=by
    rcases hu with⟨q,_,hu⟩|⟨_,hu⟩|⟨_,hu⟩<;>(simp only[IsT,hu]at hX hY;exact⟨hX,hY⟩)
   obtain⟨rfl,rfl⟩:=e
   simp only[gw,Oy]at hx hy
   rw[show k+(d+1)=(k+d)+1 from rfl,mS hu _ hx.1 hy.1]
   simp[bY]
  split at h
  ·rename_i q hu;cases h;exact one _ (.inl ⟨q,rfl,hu⟩) rfl
  ·rename_i hu;cases h;exact one _ (.inr (.inl ⟨rfl,hu⟩)) rfl
  ·rename_i hu;cases h;exact one _ (.inr (.inr ⟨rfl,hu⟩)) rfl
  ·rename_i fs hu
   split at h
   ·rename_i hst
    simp only[IsT,hu]at hX hY
    subst hX;subst hY
    have hfs:P.fieldsOf t=fs:=by simp[Program.fieldsOf,hu]
    rw[show k+(d+1)=(k+d)+1 from rfl,run_equalIn_struct w (k+d) t _ _ (by rw[hfs];exact hu) hst,hfs]
    have:=flatF_run d 0 fs.toList ks h k w xs ys (by simpa using hx) (by simpa using hy)
    simpa using this
   ·cases h
  ·cases h
theorem flatF_run:∀(d off:Nat) (fs:List Field) (ks:List CK),Bf P d off fs=some ks->∀(k:Nat) (w:World) (xs ys:List Value),gw ks (xs.drop off)=true->gw ks (ys.drop off)=true->
 (Op.eqFields (k+d) xs.toArray ys.toArray fs).run P w= .ok (bY (xs.drop off) (ys.drop off)) w
 |d,off,[],ks,h=>by
  intro k w xs ys hx hy
  simp only[Bf,yN,Om]at h
  subst h
  have e1:=iT hx
  have e2:=iT hy
  rw[OL e1.symm,OL e2.symm]
  simp[Op.eqFields,bY]
 |d,off,f::fs,ks,h=>by
  intro k w xs ys hx hy
  unfold Bf yN at h
  split at h
  ·rename_i hc
   simp only[Oy,bne_iff_ne,ne_eq]at hc
   obtain⟨hnm,hoff⟩:=hc
   have hoff:f.offset=off:=O2 hoff
   split at h
   ·rename_i i ks1 hi hks1
    split at h
    ·rename_i hsz
     have hsz:i.size=ks1.length:=O2 hsz
     split at h
     ·rename_i r hr
      cases h
      have e1:=iT hx
      have e2:=iT hy
      simp only[OJ,O5]at e1 e2
      obtain⟨x1,x2⟩:=mZ hx
      obtain⟨y1,y2⟩:=mZ hy
      obtain⟨hu,hsc⟩:=qq hks1
      by_cases hz:ks1.length=0
      ·-- a field of no cells
       by_cases hss:∃fs',P.underlying f.type=some (.struct fs')
       ·obtain⟨fs',hfs'⟩:=hss
        have hp:∀zs:List Value,(part f.type zs.toArray f.offset).run P w= .ok (.agg #[]) w:=λzs=>by
         have h0:i.size=0:=by omega
         simp[part,isAgg,run_underlying hfs',sizeOf,typeInfo,hi,h0]
        have hk0:ks1=[]:=OL hz
        have ih:=kF d f.type ks1 hks1 k w [] [] (.agg #[]) (.agg #[]) (by rw[hk0];rfl) (by rw[hk0];rfl) (by simp only[IsT,hfs']) (by simp only[IsT,hfs'])
        have ih2:=flatF_run d (off+ks1.length) fs r hr k w xs ys (by rw[<-PJ];exact x2) (by rw[<-PJ];exact y2)
        simp only[Op.eqFields,hnm,ne_eq,not_false_eq_true,RO,Sem.run_bind,hp xs,hp ys,Result.andThen_ok,ih,bY,PK,Pe,RP,ih2]
        rw[hz,Pd]
       ·have:=hsc λfs' e=>hss ⟨fs',e⟩
        omega
      ·have hps:∀zs:List Value,off+i.size<=zs.length->∃X,(part f.type zs.toArray f.offset).run P w= .ok X w/\IsT P f.type ((zs.drop off).take i.size) X:=λzs hz=>by
        rw[hoff]
        exact qS hi hu hz λhn=>⟨by rw[hsz];exact(hsc hn).1,(hsc hn).2⟩
       obtain⟨X,hX1,hX2⟩:=hps xs (by omega)
       obtain⟨Y,hY1,hY2⟩:=hps ys (by omega)
       rw[hsz]at hX2 hY2
       have ih:=kF d f.type ks1 hks1 k w _ _ X Y x1 y1 hX2 hY2
       have ih2:=flatF_run d (off+ks1.length) fs r hr k w xs ys (by rw[<-PJ];exact x2) (by rw[<-PJ];exact y2)
       rw[n5 ks1.length (xs.drop off) (ys.drop off) (by simp;omega) (by simp;omega),PJ,PJ]
       simp only[Op.eqFields,hnm,ne_eq,not_false_eq_true,RO,Sem.run_bind,hX1,hY1,Result.andThen_ok,ih]
       cases bY ((xs.drop off).take ks1.length) ((ys.drop off).take ks1.length)with
       |false=>simp
       |true=>simpa using ih2
     ·cases h
    ·cases h
   ·cases h
  ·cases h
end
end Go.Awp
end
section
namespace Go.Awp
variable [Inhabited GMem] {P:Program} {nm:Nat->Nat} {o:Oper} {ρ:Operand->H} {ω:Nat->Option Own}
def LZ:BinOp->Option Bool
 | .eql=>some true
 | .neq=>some false
 |_=>none
inductive ni (P:Program) (t:TypeId):D->D->Bool->Prop
 |st {d:Nat} {ks:List CK} {xs ys:List Value} (hu:∃fs,P.underlying t=some (.struct fs)) (hg:P.eqGuardType P.depth t=false) (hd:d<=10000) (hf:hU P d t=some ks) (hx:gw ks xs=true) (hy:gw ks ys=true):
  ni P t (.agg (xs.map .v)) (.agg (ys.map .v)) (bY xs ys)
 |rp {cells:List D} (hp:lJ P t=true):ni P t (.rp cells) (.v (.pointer none)) false
 |pn (hp:lJ P t=true):ni P t (.v (.pointer none)) (.v (.pointer none)) true
 |fn {f:Fn} {a b:Array Value} (hp:∃x y z,P.underlying t=some (.func x y z)):ni P t (.v (.func f a b)) (.v .nilFunc) false
 |nf (hp:∃x y z,P.underlying t=some (.func x y z)):ni P t (.v .nilFunc) (.v .nilFunc) true
theorem nU{M:Mem}{v:Value}{xs:List Value}(h:bW M v (.agg (xs.map .v))):v= .agg xs.toArray:=by
 cases h with
 |agg cs _ hl hc=>
  congr 1
  apply Array.ext
  ·simpa using hl
  ·intro i h1 h2
   have h3:=hc i cs[i] (.v (xs.toArray[i])) (OU h1) (by
    have h2':i<xs.length:=by simpa using h2
    simp[h2'])
   generalize cs[i]=u at h3⊢
   generalize xs.toArray[i]=u' at h3⊢
   cases h3;rfl
theorem aC.cmp{op:BinOp}{t t':TypeId}{x y:Operand}{dx dy:D}{b q:Bool}(ho:o.op= .binOp op t x y t')(hop:LZ op=some q)(hx:ρ x= .d dx)(hy:ρ y= .d dy)(hc:ni P t dx dy b):
 aC P nm o ρ ω {val:= .d (.v (.bool (if q=true then b else !b)))}:=by
 refine aC.pure λE M ev w hr hm=> ?_
 simp only[ho,Op.operands]at hr
 have hxr:=hr x (by simp)
 have hyr:=hr y (by simp)
 rw[hx]at hxr
 rw[hy]at hyr
 refine⟨_,?_, .d (.v _)⟩
 have fin:∀(va vb:Value),ev x=va->ev y=vb->(∀op,(eqGuard op t x y va vb).run P w= .ok () w)->(Op.equalIn 10000 t va vb).run P w= .ok b w->(∀op,op= .eql\/op= .neq->(binOp op t va vb).run P w=((Op.equalIn 10000 t va vb).run P w).andThen λr w'=> .ok (.bool (if op= .eql then r else !r)) w')->
  (execOp ev o).run P w= .ok (.value (.bool (if q=true then b else !b))) w:=by
  intro va vb h1 h2 h3 h4 h5
  cases op<;>simp[LZ]at hop
  ·subst hop
   have:=h5 .eql (.inl rfl)
   rw[h4]at this
   simp[execOp,ho,h1,h2,h3,this]
  ·subst hop
   have:=h5 .neq (.inr rfl)
   rw[h4]at this
   simp[execOp,ho,h1,h2,h3,this]
 cases hc with
 | @st d ks xs ys hu hg hd hf hfx hfy=>
  obtain⟨fs,hu⟩:=hu
  refine fin _ _ (nU hxr.toD) (nU hyr.toD) (λop=>run_eqGuard_agg w op t x y _ _ hg) ?_ λop h=> ?_
  ·have:=kF d t ks hf (10000-d) w xs ys (.agg xs.toArray) (.agg ys.toArray) hfx hfy (by simp only[IsT,hu]) (by simp only[IsT,hu])
   rwa [show 10000-d+d=10000 by omega]at this
  ·rcases h with rfl|rfl
   ·rw[run_eql_struct];rfl
   ·rw[run_neq_struct];rfl
 | @rp cells hp=>
  generalize hq:ev x=qv at hxr
  cases hxr.toD with
  |rp b off _ c hc hd=>
   refine fin _ _ hq hyr.dv (λop=>gu) (dX 9999 _ hp) λop h=> ?_
   rcases h with rfl|rfl<;>simp[binOp,Op.equal,Op.maxDepth]
 |pn hp=>
  refine fin _ _ hxr.dv hyr.dv (λop=>gu) (dX 9999 _ hp) λop h=> ?_
  rcases h with rfl|rfl<;>simp[binOp,Op.equal,Op.maxDepth]
 | @fn f a c hp=>
  obtain⟨p1,p2,p3,hp⟩:=hp
  refine fin _ _ hxr.dv hyr.dv (λop=>by unfold eqGuard;cases op<;>rfl) (by rw[show(10000:Nat)=9999+1 from rfl];unfold Op.equalIn;simp only[Sem.run_bind,run_underlying hp,Result.andThen_ok];rfl) λop h=> ?_
  rcases h with rfl|rfl<;>simp[binOp,Op.equal,Op.maxDepth]
 |nf hp=>
  obtain⟨p1,p2,p3,hp⟩:=hp
  refine fin _ _ hxr.dv hyr.dv (λop=>by unfold eqGuard;cases op<;>rfl) (by rw[show(10000:Nat)=9999+1 from rfl];unfold Op.equalIn;simp only[Sem.run_bind,run_underlying hp,Result.andThen_ok];rfl) λop h=> ?_
  rcases h with rfl|rfl<;>simp[binOp,Op.equal,Op.maxDepth]
theorem Ent.head{S:ab}{b m sz l e i nn:Nat}{oty:Option TypeId}{cells:List H}{rows:List (List D)}(hb:S.own? b=some (.box oty cells))(hi:cells[i]?=some (.sv m sz 0 l))(hm:S.own? m=some (.vec e sz rows))(hl:l<=rows.length)(hne:b≠m)
 (hf:S.fresh nn=true/\nn<given):Ent S {S with own:=(b,some (.box oty (cells.set i (.vh nn l))))::(nn,some (.vec e sz (rows.take l)))::(m,none)::S.own}:=by
 intro C E M a w hs
 obtain⟨bb,cs,ty,hE,hbw,hcl,hcr,hMb,hty⟩:=hs.own b _ hb
 have hic:i<cs.size:=by rw[hcl];exact(Ol.1 hi).1
 have hrep:=hcr i cs[i] _ (OU hic) hi
 obtain⟨xs,ho1,ho2,ho3,ho4⟩:=hs.own m _ hm
 have htl:(rows.take l).length=l:=by simp;omega
 have hmul:l *sz<=rows.length *sz:=OH _ hl
 obtain⟨ad,cap,hv,hown',hblk⟩:∃ad cap,cs[i]= .slice ad l cap/\w.ownsRow 0 e sz (.slice ad l cap) l (xs.take (l *sz))/\∀b,ak (.slice ad l cap)=some b->ak (E m)=some b:=by
  generalize hv:cs[i]=v at hrep
  generalize hz:(0:Nat)=z0 at hrep
  cases hrep with
  |sv0 _ _ hEm=>
   rcases ho1.2 with⟨_,hz⟩|⟨g',cap',cur,hv',_⟩
   ·refine⟨none,0,rfl,?_,λb hb=>by cases hb⟩
    rw[P6,QK]
    exact World.ownsRow_nil w 0 e sz
   ·rw[hEm]at hv';cases hv'
  |sv _ _ _ _ g l0 cap hEm hle=>
   subst hz
   rcases ho1.2 with⟨hn',_⟩|⟨g',cap',cur,hv',hb0,hg,hnc,hcm,hcs,hct⟩
   ·rw[hEm]at hn';cases hn'
   rw[hEm]at hv'
   cases hv'
   have hz0:(if(0:Nat)=cap then 0 else 0 *sz)=0:=by split<;>simp
   rw[hz0,Rf]
   exact⟨_,_,rfl,⟨by rw[O1,ho1.1,PA hmul], .inr ⟨g,cap,cur,rfl,hb0,hg,by omega,hcm,hcs,by rw[<-hct,Q2,PA hmul]⟩⟩,λb hb=>by rw[hEm];exact hb⟩
 have ok:aJ (λk=>if k=nn then .slice ad l cap else E k) M w nn (.vec e sz (rows.take l)):=by
  refine⟨xs.take (l *sz),by simp only[RO];rw[htl];exact hown',λr hr=>ho2 r (Pg hr),λi j r c x hr hx hc=> ?_,λb hb k=> ?_⟩
  ·rw[OE]at hr hc
   split at hr
   ·split at hc
    ·exact ho3 i j r c x hr hx hc
    ·cases hc
   ·cases hr
  ·simp only[RO]at hb
   exact ho4 b (hblk b hb) k
 have h2:=hs.own_step (E':=λk=>if k=nn then .slice ad l cap else E k) (n:=m) (d:=nn) (o':= .vec e sz (rows.take l)) hm (w':=w) (cM w _) (λk hk=>RR hk) (.inr hf)
  (λb hb=> .inl (by
    have hb:ak (if nn=nn then Value.slice ad l cap else E nn)=some b:=hb
    rw[RS rfl]at hb
    exact hblk b hb)) (λb hb=>by
    rw[RS rfl]at hb
    exact hs.block_lt hm (b:=b) (hblk b hb)) ok
 have hbn:b≠nn:=λe=>by
  have:=hf.1
  unfold ab.fresh at this
  simp only[Oy]at this
  rw[<-e,hb]at this
  simp at this
 have hb2:({S with own:=(nn,some (.vec e sz (rows.take l)))::(m,none)::S.own}:ab).own? b=some (.box oty cells):=by
  simp only[ab.own?,af,RR (O3 hbn),RR (O3 hne)]
  exact hb
 have h3:=h2.own_step (E':=λk=>if k=nn then .slice ad l cap else E k) (n:=b) (d:=b) (o':= .box oty (cells.set i (.vh nn l))) hb2 (w':=w) (cM w _) (λ_ _=>rfl) (.inl ⟨rfl,rfl⟩) (λb' hb'=> .inl hb')
  (λb' hb'=>h2.block_lt hb2 (b:=b') hb') ⟨bb,cs,ty,by simp only[RR hbn];exact hE,hbw,by rw[Pi];exact hcl,λj c x hc hx=>by
    rw[Pa]at hx
    by_cases hij:i=j
    ·subst hij
     rw[RS rfl,RS (by rw[<-hcl];exact hic)]at hx
     simp only[Om]at hx;subst hx
     rw[OU hic,hv]at hc
     simp only[Om]at hc;subst hc
     exact .vh nn l l cap ad (by simp) (OO _)
    ·rw[RR hij]at hx
     refine(hcr j c x hc hx).mono (Mem.le_refl M) λk hk=> ?_
     have:k≠nn:=λe=>by
      have h5:=ab.fresh_cell hf.1 hb
      simp only[Own.has]at h5
      have:=H.hasL_get h5 hx
      rw[<-e,hk]at this;cases this
     rw[RR this],hMb,hty⟩
 refine⟨_,M,h3.weaken (λt x hx=> .inl hx) λk o' hk=> ?_⟩
 simp only[ab.own?,af]at hk⊢
 by_cases q1:b=k
 ·rw[RS q1]at hk⊢;exact hk
 ·rw[RR q1]at hk⊢;rw[RR q1];exact hk
theorem aC.appendCut{c:Call}{p q:Operand}{e sz bytes m lo len:Nat}{e2 nn:Nat}{t:TypeId}{rows rows2:List (List D)}{ns:List Nat}(ho:o.op= .call c)(hc:c.callee= .builtin .append)(hargs:c.args= #[p,q])(hty:c.argTypes= #[t,t])
 (ht:bg P t=some (e,sz,bytes))(hp:(∃n,ρ p= .vh n rows.length/\ω n=some (.vec e sz rows)/\n≠m/\ns=[n])\/ρ p= .d (.v (.slice none 0 0))/\rows=[]/\ns=[])(hq:ρ q= .sv m sz lo len)(hm:ω m=some (.vec e2 sz rows2))(hl:lo+len<=rows2.length)
 (hone:rows2.all (λr=>r.all D.one)=true)(hby:(rows.length+len) *bytes<=140737488355328)(hle:rows.length+len<=1000000000000):
 aC P nm o ρ ω {val:= .vh nn (rows.length+len),acc:=m::ns,upd:=(nn,some (.vec e sz (rows++(rows2.drop lo).take len)))::ns.map (λn=>(n,none)),new:=[nn]}:=by
 intro C E M S a w K Q hP hd hs he hacc hn hK
 subst hP
 simp only[ho,Op.operands,Call.operands,hc,hargs]at he
 obtain⟨ii,z,hu,hii,hz,hzs,his,hib,hpos⟩:=ba ht
 have hq':Go.Awp.ev S q= .sv m sz lo len:=by rw[he q (by simp)];exact hq
 have hm':S.own? m=some (.vec e2 sz rows2):=by rw[hacc m (by simp)];exact hm
 have hqr:=hs.ev q
 rw[hq']at hqr
 generalize hqv:a.eval q=qv at hqr
 have exec:∀v w',(Builtin.append_ #[t,t] o.type #[a.eval p,a.eval q]).run C.P w= .ok v w'->(execOp a.eval o).run C.P w= .ok (.value v) w':=by
  intro v w' h
  simp[execOp,ho,resolve,hc,hargs,invoke,builtin,hty,h]
 obtain⟨ys,p1,p2,p3,p4⟩:=hs.own m _ hm'
 have hmul:∀x y:Nat,x<=y->x *sz<=y *sz:=λx y h=>OH sz h
 have h4:=hmul _ _ hl
 rw[Qb]at h4
 have hyl:=p1.1
 obtain⟨cs,hcsd⟩:∃cs,cs=(ys.drop (lo *sz)).take (len *sz):=⟨_,rfl⟩
 have hcl:cs.length=len *sz:=by rw[hcsd,O1,O5];omega
 have hx:(a.eval q= .slice none 0 0/\len=0)\/∃ad c,a.eval q= .slice (some ad) len c/\∀(j:Nat) u,cs[j]?=some u->w.cell? (ad.add j)=some u:=by
  rw[hqv]
  cases hqr with
  |sv0 _ _ hE=>exact .inl ⟨rfl,rfl⟩
  |sv _ _ _ _ g l cap hE hl1=>
  rcases p1.2 with⟨hn',_⟩|⟨g',cap',cur,hv',_,hg,hnc,hcm,hcs,hct⟩
  ·rw[hE]at hn';cases hn'
  rw[hE]at hv'
  cases hv'
  refine .inr ⟨_,_,rfl,λk u hu=> ?_⟩
  rw[hcsd,OE]at hu
  split at hu
  ·rename_i hk
   rw[OX]at hu
   have hlt:lo≠cap:=λe=>by
    have:len=0:=by omega
    rw[this,P6]at hk;omega
   rw[RR hlt,bF]
   rw[<-hct,OE]at hu
   split at hu
   ·simpa[World.cell?,hg]using hu
   ·cases hu
  ·cases hu
 obtain⟨news,hnd⟩:∃news,news=(rows2.drop lo).take len:=⟨_,rfl⟩
 rw[<-hnd]at hK hn
 have hnl:news.length=len:=by rw[hnd,O1,O5];omega
 have hnz:∀r∈news,r.length=sz:=λr hr=>p2 r (by rw[hnd]at hr;exact Px (Pg hr))
 have hcr:∀(i j:Nat) (r:List D) (c:Value) (x:D),news[i]?=some r->r[j]?=some x->cs[i *sz+j]?=some c->bW M c x:=λi j r c x hr hx hc'=>by
  rw[hnd,OE]at hr
  split at hr
  ·rw[OX]at hr
   rw[hcsd,OE]at hc'
   split at hc'
   ·rw[OX]at hc'
    refine p3 (lo+i) j r c x hr hx ?_
    rw[Qb,Pl];exact hc'
   ·cases hc'
  ·cases hr
 have hc1:∀u∈cs,u.oneCell'=true:=by
  intro u hu
  obtain⟨kk,hkk⟩:=P4.1 hu
  have hlt:kk<news.length *sz:=by rw[hnl,<-hcl];exact(Ol.1 hkk).1
  have hi:kk/sz<news.length:=Qi (by rw[P0];exact hlt)
  have hj:kk%sz<(news[kk/sz]).length:=by rw[hnz _ (Pn hi)];exact QQ _ hpos
  have hdm:kk/sz *sz+kk%sz=kk:=by rw[P0];exact Qq kk sz
  have hrep:=hcr (kk/sz) (kk%sz) _ u _ (Ou hi) (Ou hj) (by rw[hdm];exact hkk)
  have ho1:((news[kk/sz])[kk%sz]).one=true:=by
   rw[OD]at hone
   have hsub:∀r∈news,r∈rows2:=λr hr=>by
    rw[hnd]at hr
    exact Px (Pg hr)
   have hmem:news[kk/sz]∈rows2:=hsub _ (Pn hi)
   have:=hone _ hmem
   rw[OD]at this
   exact this _ (Pn hj)
  exact(aP.d (E:=E) hrep).one ho1
 obtain⟨pv,n0,xs,hpv,hown,hxr,hxz,hfp⟩:∃pv:Value,∃n0:Option Nat,∃xs:List Value,a.eval p=pv/\w.ownsRow 0 e sz pv rows.length xs/\(∀(i j:Nat) (r:List D) (c:Value) (x:D),rows[i]?=some r->r[j]?=some x->xs[i *sz+j]?=some c->bW M c x)/\
  (∀r∈rows,r.length=sz)/\((∃n,ns=[n]/\S.own? n=some (.vec e sz rows)/\E n=pv/\n≠m)\/ns=[]/\pv= .slice none 0 0):=by
  rcases hp with⟨n,hp,hpo,hnm,rfl⟩|⟨hp,rfl,rfl⟩
  ·have hpr:=hs.ev p
   rw[he p (by simp),hp]at hpr
   have hno:S.own? n=some (.vec e sz rows):=by rw[hacc n (by simp)];exact hpo
   obtain⟨xs,q1,q2,q3,q4⟩:=hs.own n _ hno
   have hform:∃ad cap,E n= .slice ad rows.length cap:=by
    rcases q1.2 with⟨hn',hz'⟩|⟨g,cap,cur,hv',_⟩
    ·exact⟨none,0,by rw[hn',hz']⟩
    ·exact⟨_,cap,hv'⟩
   obtain⟨ad,cap',hEn⟩:=hform
   exact⟨E n,none,xs,d_ hpr hEn,q1,q3,q2, .inl ⟨n,rfl,hno,rfl,hnm⟩⟩
  ·have hpr:=hs.ev p
   rw[he p (by simp),hp]at hpr
   exact⟨_,none,[],hpr.dv,World.ownsRow_nil w 0 e sz,by simp,by simp, .inr ⟨rfl,rfl⟩⟩
 obtain⟨v',w',r1,r2,r3,r4⟩:=e_ (P:=C.P) (w:=w) t o.type e ii z sz bytes hu hii hz his hib hzs hpos pv rows.length xs hown (a.eval q) cs len hcl hx hc1 hle hby
 refine ap (exec v' w' (by rw[hpv];exact r1)) ?_
 have hxl:=hown.1
 have hlen':(rows++news).length=rows.length+len:=by rw[OJ,hnl]
 have hform:∃ad' cc',v'= .slice ad' (rows.length+len) cc':=by
  rcases r2.2 with⟨h,h'⟩|⟨g,cap,cur,h,_⟩
  ·exact⟨none,0,by rw[h,h']⟩
  ·exact⟨_,_,h⟩
 obtain⟨ad',cc',hv'⟩:=hform
 have glue:∀(i j:Nat) (r:List D) (c:Value) (x:D),(rows++news)[i]?=some r->r[j]?=some x->(xs++cs)[i *sz+j]?=some c->bW M c x:=by
  intro i j r c x hr hx hcc
  by_cases hi:i<rows.length
  ·rw[OK hi]at hr
   have hj:j<sz:=by
    have:=hxz r (OA hr)
    have:=(Ol.1 hx).1;omega
   have h5:=hmul (i+1) rows.length hi
   rw[OY]at h5
   rw[OK (by omega)]at hcc
   exact hxr i j r c x hr hx hcc
  ·rw[OI (by omega)]at hr
   have h5:=hmul rows.length i (by omega)
   rw[OI (by omega),hxl]at hcc
   have:i *sz+j-rows.length *sz=(i-rows.length) *sz+j:=by rw[Rr];omega
   rw[this]at hcc
   exact hcr _ j r c x hr hx hcc
 have hrow:ak pv=none\/∃n∈ns,∃o,S.own? n=some o/\∀b,ak pv=some b->o.foot w (E n) b:=by
  rcases hfp with⟨n,rfl,h1,h2,_⟩|⟨_,rfl⟩
  ·exact .inr ⟨n,by simp,_,h1,λb hb=>by rw[h2];exact hb⟩
  ·exact .inl rfl
 have hmv:=hs.own_many (E':=λk=>if k=nn then v' else E k) (d:=nn) (o':= .vec e sz (rows++news)) (w':=w') ns (row:=ak pv) r3
  (λb hb=>by
    rcases hrow with h|⟨n,h1,o,h2,h3⟩
    ·rw[h]at hb;cases hb
    ·exact⟨n,h1,o,h2,h3 b hb⟩) (λk hk=>RR hk) (.inr (hn nn (by simp)))
  (λb hb=>by
    have hb:ak (if nn=nn then v' else E nn)=some b:=hb
    rw[RS rfl]at hb
    rcases r4 b hb with h|h
    ·rcases hrow with h'|⟨n,h1,o,h2,h3⟩
     ·rw[h']at h;cases h
     ·exact .inl ⟨n,h1,o,h2,h3 b h⟩
    ·exact .inr h)
  ⟨xs++cs,by simp only[RO];rw[hlen'];exact r2,λr hr=>by
   rcases ON.1 hr with h|h
   ·exact hxz r h
   ·exact hnz r h,glue,λb hb k=>by
   simp only[RO]at hb
   rcases r4 b hb with h|h
   ·rcases hrow with h'|⟨n,h1,o,h2,h3⟩
    ·rw[h']at h;cases h
    ·exact((hs.own n o h2).block (h3 b h)).2 k
   ·cases hm3:M b k with
    |none=>rfl
    |some v=>have:=hs.cell_lt hm3;omega⟩
 have h3:=hmv.put o.dst hd (v:=v') (x:= .vh nn (rows.length+len)) (by rw[hv'];exact .vh nn _ _ _ ad' (by rw[RS rfl]) (OO _))
 exact hK _ _ _ _ h3
end Go.Awp
end
section
namespace Go.Awp
variable [Inhabited GMem] {P:Program} {nm:Nat->Nat} {o:Oper} {ρ:Operand->H} {ω:Nat->Option Own}
structure pF (P:Program) (kt:TypeId) (key:Value) (keys:List Value):Prop where
 check:∀(e:Bool) (w:World),(Instr.checkKey e 10000 kt key).run P w= .ok () w
 find:∀(l:List MapEntry) (w:World),(∀e∈l,e.key∈keys)->((∀e∈l,e.key≠key)/\(Instr.findKey kt key l).run P w= .ok none w)\/
  ∃(j:Nat) (e:MapEntry),l[j]?=some e/\e.key=key/\(Instr.findKey kt key l).run P w= .ok (some (j,e.val)) w
 bits:Instr.sameBits 10000 key key=true
theorem pF.simple{kt:TypeId}{kind:TypeDesc}{key:Value}{keys:List Value}(hu:P.underlying kt=some kind)(hs:d6 kind=true)(h:∀k∈key::keys,(Instr.sameNow kind key k).isSome=true):pF P kt key keys where
 check:=λe w=>bS hu hs e key
 find:=λl w hl=>by
  rcases ee (kind:=kind) (key:=key) (l:=l) 0 (λe he=>h _ (Ot _ (hl e he)))with⟨h1,h2⟩|⟨j,e,h1,h2,h3⟩
  ·refine .inl ⟨λe he hk=>i7 (h1 e he) hk.symm,?_⟩
   simp only[Instr.findKey,Sem.run_bind,run_underlying hu,Result.andThen_ok,h2,Sem.run_pure]
  ·rw[OS]at h3
   refine .inr ⟨j,e,h1,(fe h2).symm,?_⟩
   simp only[Instr.findKey,Sem.run_bind,run_underlying hu,Result.andThen_ok,h3,Sem.run_pure]
 bits:=by
  have h0:=h key Ox
  cases hq:Instr.sameNow kind key key with
  |none=>rw[hq]at h0;cases h0
  |some b=>
   cases b with
   |true=>exact oX hq
   |false=>exact(i7 hq rfl).elim
theorem qn{k:CK}{x y:Value}(hx:k.is x=true)(hy:k.is y=true):n4 x y=true↔x=y:=by
 cases k<;>cases x<;>simp[CK.is]at hx<;>cases y<;>simp[CK.is]at hy
 ·subst hx;subst hy;simp[n4]
 ·simp[n4]
 ·rename_i a b
  simp only[n4,Value.string.injEq]
  rw[<-beq_toListBytes]
  exact MapKept.bytes_beq a b
theorem gr:∀{ks:List CK} {xs ys:List Value},gw ks xs=true->gw ks ys=true->(bY xs ys=true↔xs=ys)
 |[],[],[],_,_=>by simp[bY]
 |[],_::_,_,h,_=>by simp[gw]at h
 |[],[],_::_,_,h=>by simp[gw]at h
 |_::_,[],_,h,_=>by simp[gw]at h
 |_::_,_::_,[],_,h=>by simp[gw]at h
 |k::ks,x::xs,y::ys,hx,hy=>by
  simp only[gw,Oy]at hx hy
  simp only[bY,Oy,PF]
  rw[qn hx.1 hy.1,gr hx.2 hy.2]
def Gp(em:Bool)(d:Nat)(cs:Array Value):List Field->Sem Unit
 |[]=>pure ()
 |f::fs=>if f.name≠ "_" then do
  let x<-part f.type cs f.offset
  Instr.checkKey em d f.type x
  Gp em d cs fs
  else Gp em d cs fs
theorem p7{w:World}{em:Bool}{d:Nat}{t:TypeId}{fs:Array Field}{cs:Array Value}(hu:P.underlying t=some (.struct fs)):
 (Instr.checkKey em (d+1) t (.agg cs)).run P w=(Gp em d cs fs.toList).run P w:=by
 simp only[Instr.checkKey,Sem.run_bind,run_underlying hu,Result.andThen_ok]
 rw[<-Array.forIn_toList]
 generalize fs.toList=l
 induction l generalizing w with
 |nil=>simp[Gp]
 |cons f l ih=>
  simp only[List.forIn_cons,Gp,Sem.run_bind,Sem.run_ite]
  split
  ·generalize (part f.type cs f.offset).run P w=r1
   cases r1 with
   |ok a w1=>
    simp only[Result.andThen_ok]
    generalize (Instr.checkKey em d f.type a).run P w1=r2
    cases r2 with
    |ok b w2=>simp only[Result.andThen_ok,Sem.run_pure];exact ih
    |halt x w2=>simp[Result.andThen]
   |halt x w1=>simp[Result.andThen]
  ·simp only[Sem.run_pure,Result.andThen_ok]
   exact ih
mutual
theorem n6(em:Bool):∀(d:Nat) (t:TypeId) (ks:List CK),hU P d t=some ks->∀(k:Nat) (w:World) (xs:List Value) (X:Value),gw ks xs=true->IsT P t xs X->(Instr.checkKey em (k+d) t X).run P w= .ok () w
 |0,_,_,h=>by simp[hU]at h
 |d+1,t,ks,h=>by
  intro k w xs X hx hX
  unfold hU at h
  split at h
  ·rename_i q hu;rw[show k+(d+1)=(k+d)+1 from rfl];unfold Instr.checkKey;simp only[Sem.run_bind,run_underlying hu,Result.andThen_ok];rfl
  ·rename_i hu;rw[show k+(d+1)=(k+d)+1 from rfl];unfold Instr.checkKey;simp only[Sem.run_bind,run_underlying hu,Result.andThen_ok];rfl
  ·rename_i hu;rw[show k+(d+1)=(k+d)+1 from rfl];unfold Instr.checkKey;simp only[Sem.run_bind,run_underlying hu,Result.andThen_ok];rfl
  ·rename_i fs hu
   split at h
   ·simp only[IsT,hu]at hX
    subst hX
    rw[show k+(d+1)=(k+d)+1 from rfl,p7 hu]
    exact flatF_chk em d 0 fs.toList ks h k w xs (by simpa using hx)
   ·cases h
  ·cases h
theorem flatF_chk(em:Bool):∀(d off:Nat) (fs:List Field) (ks:List CK),Bf P d off fs=some ks->∀(k:Nat) (w:World) (xs:List Value),gw ks (xs.drop off)=true->(Gp em (k+d) xs.toArray fs).run P w= .ok () w
 |d,off,[],ks,h=>by intro k w xs _;rfl
 |d,off,f::fs,ks,h=>by
  intro k w xs hx
  unfold Bf yN at h
  split at h
  ·rename_i hc
   simp only[Oy,bne_iff_ne,ne_eq]at hc
   obtain⟨hnm,hoff⟩:=hc
   have hoff:f.offset=off:=O2 hoff
   split at h
   ·rename_i i ks1 hi hks1
    split at h
    ·rename_i hsz
     have hsz:i.size=ks1.length:=O2 hsz
     split at h
     ·rename_i r hr
      cases h
      have e1:=iT hx
      simp only[OJ,O5]at e1
      obtain⟨x1,x2⟩:=mZ hx
      obtain⟨hu,hsc⟩:=qq hks1
      have ih2:=flatF_chk em d (off+ks1.length) fs r hr k w xs (by rw[<-PJ];exact x2)
      by_cases hz:ks1.length=0
      ·by_cases hss:∃fs',P.underlying f.type=some (.struct fs')
       ·obtain⟨fs',hfs'⟩:=hss
        have hp:(part f.type xs.toArray f.offset).run P w= .ok (.agg #[]) w:=by
         have h0:i.size=0:=by omega
         simp[part,isAgg,run_underlying hfs',sizeOf,typeInfo,hi,h0]
        have hk0:ks1=[]:=OL hz
        have ih:=n6 em d f.type ks1 hks1 k w [] (.agg #[]) (by rw[hk0];rfl) (by simp only[IsT,hfs'])
        simp only[Gp,hnm,ne_eq,not_false_eq_true,RO,Sem.run_bind,hp,Result.andThen_ok,ih,ih2]
       ·have:=hsc λfs' e=>hss ⟨fs',e⟩
        omega
      ·obtain⟨X,hX1,hX2⟩:=qS (w:=w) (xs:=xs) (off:=off) hi hu (by omega) λhn=>⟨by rw[hsz];exact(hsc hn).1,(hsc hn).2⟩
       rw[hsz]at hX2
       have ih:=n6 em d f.type ks1 hks1 k w _ X x1 hX2
       simp only[Gp,hnm,ne_eq,not_false_eq_true,RO,Sem.run_bind,hoff,hX1,Result.andThen_ok,ih,ih2]
     ·cases h
    ·cases h
   ·cases h
  ·cases h
end
theorem sq{k:CK}{x:Value}(h:k.is x=true)(n:Nat):Instr.sameBits n x x=true:=by
 cases k<;>cases x<;>simp[CK.is]at h<;>cases n<;>simp[Instr.sameBits,(MapKept.bytes_beq _ _).2 rfl]
theorem mH:∀{ks:List CK} {xs:List Value},gw ks xs=true->∀n,((xs.zip xs).all λ(p:Value×Value)=>Instr.sameBits n p.1 p.2)=true
 |[],[],_,_=>rfl
 |[],_::_,h,_=>by simp[gw]at h
 |_::_,[],h,_=>by simp[gw]at h
 |k::ks,x::xs,h,n=>by
  simp only[gw,Oy]at h
  simp only[QF,PC,Oy]
  exact⟨sq h.1 n,mH h.2 n⟩
theorem pF.struct{kt:TypeId}{fs:Array Field}{d:Nat}{ks:List CK}{xs:List Value}{keys:List Value}(hu:P.underlying kt=some (.struct fs))(hd:d<=10000)(hf:hU P d kt=some ks)(hx:gw ks xs=true)
 (hk:∀k∈keys,∃ys:List Value,k= .agg ys.toArray/\gw ks ys=true):pF P kt (.agg xs.toArray) keys where
 check:=λe w=>by
  have:=n6 (P:=P) e d kt ks hf (10000-d) w xs (.agg xs.toArray) hx (by simp only[IsT,hu])
  rwa [show 10000-d+d=10000 by omega]at this
 find:=λl w hl=>by
  have ask:∀(l:List MapEntry) (i:Nat),(∀e∈l,e.key∈keys)->((∀e∈l,e.key≠ .agg xs.toArray)/\(Instr.findAsking kt (.agg xs.toArray) l i).run P w= .ok none w)\/
   ∃(j:Nat) (e:MapEntry),l[j]?=some e/\e.key= .agg xs.toArray/\(Instr.findAsking kt (.agg xs.toArray) l i).run P w= .ok (some (i+j,e.val)) w:=by
   intro l
   induction l with
   |nil=>intro i _;exact .inl ⟨by simp,rfl⟩
   |cons e l ih=>
    intro i hl
    obtain⟨ys,hy1,hy2⟩:=hk _ (hl e Ox)
    have hrun:=kF d kt ks hf (10000-d) w xs ys (.agg xs.toArray) (.agg ys.toArray) hx hy2 (by simp only[IsT,hu]) (by simp only[IsT,hu])
    rw[show 10000-d+d=10000 by omega]at hrun
    have hrun':(Op.equal kt (.agg xs.toArray) e.key).run P w= .ok (bY xs ys) w:=by rw[hy1];exact hrun
    cases hq:bY xs ys with
    |true=>
     have:xs=ys:=(gr hx hy2).1 hq
     subst this
     refine .inr ⟨0,e,rfl,hy1,?_⟩
     simp only[Instr.findAsking,Sem.run_bind,hrun',hq,Result.andThen_ok,RO,Sem.run_pure,Pd]
    |false=>
     have hne:e.key≠ .agg xs.toArray:=λh=>by
      rw[hy1]at h
      have:ys=xs:=by simpa using congrArg (λv=>match v with|Value.agg a=>a.toList|_=>[]) h
      rw[(gr hx hy2).2 this.symm]at hq;cases hq
     rcases ih (i+1) (λe' he'=>hl e' (Ot _ he'))with⟨h1,h2⟩|⟨j,e',h1,h2,h3⟩
     ·refine .inl ⟨λe' he'=> ?_,?_⟩
      ·rcases Oz.1 he' with rfl|he'
       ·exact hne
       ·exact h1 e' he'
      ·simp only[Instr.findAsking,Sem.run_bind,hrun',hq,Result.andThen_ok,Pe,RP,h2]
     ·refine .inr ⟨j+1,e',by simpa using h1,h2,?_⟩
      simp only[Instr.findAsking,Sem.run_bind,hrun',hq,Result.andThen_ok,Pe,RP,h3]
      congr 3;omega
  cases l with
  |nil=>
   refine .inl ⟨by simp,?_⟩
   simp only[Instr.findKey,Sem.run_bind,run_underlying hu,Result.andThen_ok,Instr.findNow,Sem.run_pure]
  |cons e l=>
   have hn:Instr.findNow (.struct fs) (.agg xs.toArray) (e::l) 0=none:=by
    simp only[Instr.findNow,Instr.sameNow]
   have:=ask (e::l) 0 hl
   simp only[Instr.findKey,Sem.run_bind,run_underlying hu,Result.andThen_ok,hn]
   simpa using this
 bits:=by
  simp only[Instr.sameBits,beq_self_eq_true,Bool.true_and]
  exact mH hx _
def Af(key:Value)(x:D)(es es2:List (Value×D)):Prop:=
 (es2=es++[(key,x)]/\∀p∈es,p.1≠key)\/∃(j:Nat) (p:Value×D),es[j]?=some p/\p.1=key/\es2=es.set j (key,x)
theorem Af.entries{M:Mem}{key:Value}{x:D}{l:List MapEntry}{es es2:List (Value×D)}{kt:TypeId}(hn:cI es)(h:aW M l es)(hk:pF P kt key (es.map (·.1)))(hq:Af key x es es2)(w:World):
 ((Instr.findKey kt key l).run P w= .ok none w/\cI es2/\∀e1:MapEntry,e1.key=key->bW M e1.val x->aW M (l++[e1]) es2)\/
 ∃(j:Nat) (v:Value) (e0:MapEntry),(Instr.findKey kt key l).run P w= .ok (some (j,v)) w/\l[j]?=some e0/\e0.key=key/\cI es2/\∀e1:MapEntry,e1.key=key->bW M e1.val x->aW M (l.set j e1) es2:=by
 have hkeys:∀e∈l,e.key∈es.map (·.1):=λe he=>by
  obtain⟨p,hp,h1,_⟩:=h.to he
  rw[h1];exact OR hp
 rcases hq with⟨rfl,hall⟩|⟨j0,p,hp,ht,rfl⟩
 ·rcases hk.find l w hkeys with⟨_,h1⟩|⟨j,e,he,ht,_⟩
  ·refine .inl ⟨h1,?_,λe1 hk hd=> ?_⟩
   ·unfold cI
    rw[O6,Ow,O0,Qx]
    refine⟨hn,by simp,λa ha b hb=> ?_⟩
    simp at hb;subst hb
    obtain⟨p,hp,rfl⟩:=OT.1 ha
    exact hall p hp
   ·obtain⟨l',p1,p2⟩:=aW.iff.1 h
    refine⟨l'++[e1],p1.append_right _,by simp[p2.get.1],λi e p he hp=> ?_⟩
    by_cases hi:i<l'.length
    ·rw[OK hi]at he
     rw[OK (by rw[<-p2.get.1];exact hi)]at hp
     exact p2.get.2 i e p he hp
    ·have hil:=(Ol.1 he).1
     rw[OJ,QZ]at hil
     have hi2:i=l'.length:=by omega
     subst hi2
     rw[OI (by omega)]at he
     rw[p2.get.1,OI (by omega)]at hp
     simp at he hp
     subst he;subst hp
     exact⟨hk,hd⟩
  ·obtain⟨p,hp,hk,_⟩:=h.to (OA he)
   exact(hall p hp (by rw[<-hk,ht])).elim
 ·have hl':=h
  obtain⟨l',p1,p2,p3⟩:=hl'
  have hj0:j0<l'.length:=by rw[p2];exact(Ol.1 hp).1
  have he':=Ou hj0
  obtain⟨q1,q2⟩:=p3 j0 _ p he' hp
  rcases hk.find l w hkeys with⟨hall,_⟩|⟨j,e,he,ht',hf⟩
  ·exact(hall _ (p1.mem_iff.1 (OA he')) (by rw[q1,ht])).elim
  ·have hee:l'[j0]=e:=rB (h.nodup hn) (p1.mem_iff.1 (OA he')) (OA he) (by rw[q1,ht,ht'])
   rw[hee]at he'
   refine .inr ⟨j,e.val,e,hf,he,ht',?_,λe1 hk hd=>⟨l'.set j0 e1,?_,by simp[p2],λi e2 p' h1 h2=> ?_⟩⟩
   ·have:(es.set j0 (key,x)).map (·.1)=es.map (·.1):=by
     rw[P1]
     apply Pf
     intro i
     rw[Pa]
     split
     ·rename_i hi
      subst hi
      rw[Oq,hp]
      simp[ht,(Ol.1 hp).1]
     ·rfl
    unfold cI
    rw[this];exact hn
   ·obtain⟨a1,a2⟩:=m_ (a:=e1) he'
    obtain⟨b1,b2⟩:=m_ (a:=e1) he
    have c:(e::l'.eraseIdx j0).Perm (e::l.eraseIdx j):=a2.symm.trans (p1.trans b2)
    exact a1.trans ((List.Perm.cons e1 ((List.perm_cons e).1 c)).trans b1.symm)
   ·rw[Pa]at h1 h2
    by_cases hi:j0=i
    ·subst hi
     rw[RS rfl,RS hj0]at h1
     rw[RS rfl,RS (by rw[<-p2];exact hj0)]at h2
     simp at h1 h2
     subst h1;subst h2
     exact⟨hk,hd⟩
    ·rw[RR hi]at h1 h2
     exact p3 i e2 p' h1 h2
def GK(key:Value)(es:List (Value×D))(q:Option D):Prop:=(q=none/\∀p∈es,p.1≠key)\/∃p∈es,p.1=key/\q=some p.2
theorem wx{w:World}{M:Mem}{t kt et:TypeId}{b:Nat}{es':Array MapEntry}{clock:Nat}{es:List (Value×D)}{key:Value}{q:Option D}{z:D}{c:Bool}(hu:P.underlying t=some (.map kt et))(hz:mh P et=some z)
 (hb:w.heap[b]?=some (.map es' clock))(hn:cI es)(he:aW M es'.toList es)(hk:pF P kt key (es.map (·.1)))(hq:GK key es q):
 ∃v,(Instr.lookup t (.map (some b)) key c).run P w= .ok (if c then .tuple #[v, .bool q.isSome]else v) w/\bW M v (q.getD z):=by
 obtain⟨z',hz1,hz2⟩:=rc hz
 have hkeys:∀e∈es'.toList,e.key∈es.map (·.1):=λe h=>by
  obtain⟨p,hp,h1,_⟩:=he.to h
  rw[h1];exact OR hp
 rcases hk.find es'.toList w hkeys with⟨hall,hf⟩|⟨j,e,hj,hek,hf⟩
 ·have hq0:q=none:=by
   rcases hq with⟨h,_⟩|⟨p,hp,h1,_⟩
   ·exact h
   ·obtain⟨e1,he1,hk1,_⟩:=he.of hp
    exact(hall e1 he1 (by rw[hk1,h1])).elim
  subst hq0
  refine⟨z',?_,hz2 M⟩
  simp only[Instr.lookup,Sem.run_bind,run_underlying hu,Result.andThen_ok,MapKept.run_getObj_map hb,Sem.run_pure,hk.check,hf,hz1]
  cases c<;>rfl
 ·obtain⟨p,hp,h1,h2⟩:=he.to (OA hj)
  have hq1:q=some p.2:=by
   rcases hq with⟨_,h⟩|⟨p',hp',h3,h4⟩
   ·exact(h p hp (by rw[<-h1,hek])).elim
   ·have:p'=p:=by
     have hn':=hn
     unfold cI at hn'
     obtain⟨i,hi⟩:=Py hp
     obtain⟨i',hi'⟩:=Py hp'
     have hil:=(Ol.1 hi).1
     have hil':=(Ol.1 hi').1
     have:=(List.getElem_inj (xs:=es.map (·.1)) (i:=i) (j:=i') (h₀:=by simpa using hil) (h₁:=by simpa using hil') hn').1 (by
      simp only[List.getElem_map]
      rw[(Ol.1 hi).2,(Ol.1 hi').2,<-h1,hek,h3])
     subst this
     rw[hi]at hi';cases hi';rfl
    rw[h4,this]
  subst hq1
  refine⟨e.val,?_,h2⟩
  simp only[Instr.lookup,Sem.run_bind,run_underlying hu,Result.andThen_ok,MapKept.run_getObj_map hb,Sem.run_pure,hk.check,hf]
  cases c<;>rfl
theorem wz{w:World}{M:Mem}{t kt et:TypeId}{b:Nat}{es':Array MapEntry}{clock:Nat}{es es2:List (Value×D)}{key v:Value}{dv:D}(hu:P.underlying t=some (.map kt et))
 (hb:w.heap[b]?=some (.map es' clock))(hn:cI es)(he:aW M es'.toList es)(hs:ji es' clock)(hk:pF P kt key (es.map (·.1)))(hv:bW M v dv)(hq:Af key dv es es2):
 ∃(es3:Array MapEntry) (clock':Nat),(Instr.mapUpdate t (.map (some b)) key v).run P w= .ok () {w with heap:=w.heap.setIfInBounds b (.map es3 clock')}/\cI es2/\aW M es3.toList es2/\ji es3 clock':=by
 rcases hq.entries hn he hk w with⟨hf,g1,g2⟩|⟨j,v0,e0,hf,he0,hsame,g1,g2⟩
 ·refine⟨es'.push {key:=key,val:=v,born:=clock},clock+1,?_,g1,?_,pq hs⟩
  ·simp only[Instr.mapUpdate,Sem.run_bind,run_underlying hu,Result.andThen_ok,MapKept.run_getObj_map hb,hk.check,hf,Sem.run_pure,MapKept.run_setObj_map _ hb]
  ·rw[QT]
   exact g2 _ rfl hv
 ·have hge:es'[j]?=some e0:=by simpa using he0
  refine⟨es'.modify j λe=>{e with key:=key,val:=v},clock,?_,g1,?_,lm hs (λ_=>rfl)⟩
  ·have hkeep:(Instr.keyThatStays (((es'[j]?).map (·.key)).getD key) key).run P w= .ok key w:=by
    simp only[Instr.keyThatStays,hge,OW,Pw,hsame,hk.bits,RO,Sem.run_pure]
   simp only[Instr.mapUpdate,Sem.run_bind,run_underlying hu,Result.andThen_ok,MapKept.run_getObj_map hb,hk.check,hf,Sem.run_pure,hkeep,MapKept.run_setObj_map _ hb]
  ·have hl:(es'.modify j λe=>{e with key:=key,val:=v}).toList=es'.toList.set j {e0 with key:=key,val:=v}:=by
    apply Pf
    intro i
    rw[Pm,PI,Pa]
    by_cases hij:j=i
    ·subst hij
     have hj:j<es'.toList.length:=(Ol.1 he0).1
     rw[RS rfl,RS rfl,RS hj,hge];rfl
    ·rw[RR hij,RR hij,Pm]
   rw[hl]
   exact g2 _ rfl hv
theorem aC.lookupK{t kt et:TypeId}{x i:Operand}{c:Bool}{n:Nat}{key:Value}{dk z:D}{es:List (Value×D)}{q:Option D}(ho:o.op= .lookup t x i c)(hu:P.underlying t=some (.map kt et))(hz:mh P et=some z)(hx:ρ x= .mp n)
 (hi:ρ i= .d dk)(hdk:∀M v,bW M v dk->v=key)(hm:ω n=some (.map es))(hk:pF P kt key (es.map (·.1)))(hq:GK key es q):
 aC P nm o ρ ω {val:=if c=true then .tup [.d (q.getD z), .d (.v (.bool q.isSome))]else .d (q.getD z),acc:=[n]}:=by
 intro C E M S a w K Q hP hd hs he hacc hn hK
 subst hP
 simp only[ho,Op.operands]at he
 have hm':S.own? n=some (.map es):=by rw[hacc n (by simp)];exact hm
 have ei:a.eval i=key:=by
  have:=hs.ev i
  rw[he i (by simp),hi]at this
  exact hdk _ _ this.toD
 have hxv:=hs.ev x
 rw[he x (by simp),hx]at hxv
 generalize hxq:a.eval x=xv at hxv
 cases hxv with
 |mp n b hE=>
  obtain⟨b',es',clock,h1,h2,h3,h4,h6,h5⟩:=hs.own n _ hm'
  rw[hE]at h1;cases h1
  obtain⟨v,hr,hdv⟩:=wx (P:=C.P) (c:=c) hu hz h2 h3 h4 hk hq
  refine ap (v:=if c then .tuple #[v, .bool q.isSome]else v) (w':=w) ?_ (hK _ _ _ _ (hs.app_val hd rfl ?_))
  ·simp only[execOp,ho,hxq,ei,Sem.run_bind,hr,Result.andThen_ok,Sem.run_pure]
  ·cases c with
   |false=>simp only[Pe,RP];exact .d hdv
   |true=>
    simp only[RO]
    refine .tup _ _ rfl λi c y hc hy=> ?_
    match i with
    |0=>simp at hc hy;subst hc;subst hy;exact .d hdv
    |1=>simp at hc hy;subst hc;subst hy;exact .d (.v _)
    |i+2=>simp at hc
theorem aC.updateK{t kt et:TypeId}{x i y:Operand}{n:Nat}{key:Value}{dk dv:D}{es es2 es5:List (Value×D)}(ho:o.op= .mapUpdate t x i y\/o.op= .insert t x i y)(hu:P.underlying t=some (.map kt et))(hx:ρ x= .mp n)
 (hi:ρ i= .d dk)(hdk:∀M v,bW M v dk->v=key)(hy:ρ y= .d dv)(hm:ω n=some (.map es))(hk:pF P kt key (es.map (·.1)))(hq:Af key dv es es2)(hpm:es5.Perm es2):
 aC P nm o ρ ω {val:= .junk,acc:=[n],upd:=[(n,some (.map es5))]}:=by
 intro C E M S a w K Q hP hd hs he hacc hn hK
 subst hP
 have he:Go.Awp.ev S x=ρ x/\Go.Awp.ev S i=ρ i/\Go.Awp.ev S y=ρ y:=by
  rcases ho with ho|ho<;>(simp only[ho,Op.operands]at he;exact⟨he x (by simp),he i (by simp),he y (by simp)⟩)
 have hrunop:∀w',(Instr.mapUpdate t (a.eval x) (a.eval i) (a.eval y)).run C.P w= .ok () w'->(execOp a.eval o).run C.P w= .ok .skip w':=by
  intro w' h
  rcases ho with ho|ho<;>simp[execOp,ho,h]
 have hm':S.own? n=some (.map es):=by rw[hacc n (by simp)];exact hm
 have ei:a.eval i=key:=by
  have:=hs.ev i
  rw[he.2.1,hi]at this
  exact hdk _ _ this.toD
 have ey:bW M (a.eval y) dv:=by
  have:=hs.ev y
  rw[he.2.2,hy]at this
  exact this.toD
 have hxv:=hs.ev x
 rw[he.1,hx]at hxv
 generalize hxq:a.eval x=xv at hxv
 cases hxv with
 |mp n b hE=>
  obtain⟨b',es',clock,h1,h2,h3,h4,h6,h5⟩:=hs.own n _ hm'
  rw[hE]at h1;cases h1
  have hblt:b<w.heap.size:=(OC.1 h2).1
  obtain⟨es3,clock',hr,hnd,hrep,hst3⟩:=wz (P:=C.P) hu h2 h3 h4 h6 hk ey hq
  refine ja (w':={w with heap:=w.heap.setIfInBounds b (.map es3 clock')}) ?_ ?_
  ·exact hrunop _ (by rw[hxq,ei];exact hr)
  ·have hmv:=hs.own_step (E':=E) (n:=n) (d:=n) (o':= .map es5) hm' (w':={w with heap:=w.heap.setIfInBounds b (.map es3 clock')})
    (by rw[hE];exact⟨rfl,rfl,rfl,by simp,λk hk hne=>by simp only[ak]at hne;rw[Pb (by intro e;subst e;exact hne rfl)]⟩) (λ_ _=>rfl) (.inl ⟨rfl,rfl⟩) (λb' hb=> .inl hb)
    (λb' hb=>by have:=hs.block_lt hm' hb;simpa using this)
    ⟨b,es3,clock',hE,by simp[hblt],hnd.perm hpm.symm,hrep.perm hpm.symm,hst3,λk=>((hs.own n _ hm').block (b:=b) (by rw[hE];rfl)).2 k⟩
   have hp:=hmv.put o.dst hd (aP.junk undef)
   refine hK _ _ _ _ (hp.weaken (λt x hx=> .inl hx) (λm p hm=> ?_))
   simp only[ab.own?,ab.app,OG,OM,af]at hm⊢
   by_cases hnm:n=m
   ·rw[RS hnm]at hm⊢;exact hm
   ·rw[RR hnm]at hm⊢;rw[RR hnm];exact hm
end Go.Awp
end
