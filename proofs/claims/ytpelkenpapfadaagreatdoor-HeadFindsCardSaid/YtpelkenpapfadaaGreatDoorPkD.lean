/-
  Texts of this claim, joined by a program of mine: what the theorem uses.
-/
import Derived.Test.YtpelkenpapfadaaGreatDoorPkC
import Derived.Scope
import Derived.KernelRfl
open Array renaming getElem?_append_left→V1,getElem?_eq_getElem→UN,replicate→VH,toList_inj→VK
open Bool renaming and_eq_true→Uf,eq_false_iff→WZ,not_eq_true'→VL,or_eq_false_iff→UQ,or_eq_true→UB
open List renaming all_cons→Vi,all_eq_true→Uj,all_map→VD,any_eq_true→Vl,append_assoc→UO,append_eq_nil_iff→Wf,append_nil→UZ,cons_append→Uo,drop_zero→UJ,eq_nil_of_length_eq_zero→Uz,eraseIdx_cons_succ→W9,filterMap_cons→Vx,getElem?_eq_getElem→T8,getElem?_eq_some_iff→T7,getElem?_map→Ua,getElem?_take→US,length→V5,length_append→Uc,length_cons→Ue,length_drop→UR,length_map→Ub,length_nil→Uv,length_set→Ve,length_take→UY,map→VC,map_append→UV,map_congr_left→U7,map_cons→Ud,map_drop→VO,map_map→UC,map_nil→UL,map_set→V9,map_take→VN,mem_append→Uk,mem_append_left→Vq,mem_append_right→VI,mem_cons→Uh,mem_cons_of_mem→T6,mem_cons_self→T_,mem_filter→Wq,mem_filterMap→U6,mem_map→Us,mem_map_of_mem→Uq,mem_of_getElem?→Ui,nil_append→UK,nodup_cons→Vc,range→VV,take_of_length_le→UU
open List.cons renaming injEq→VM
open Nat renaming add_zero→UE,beq→U8,beq_refl→V8,ble→VY,blt→Vu,blt_eq→VB,eq_of_beq_eq_true→UM,le_of_ble_eq_true→Vg,le_refl→Up,min_eq_left→Xb,mul_le_mul→WN,mul_le_mul_right→UH,sub_zero→W2,succ_mul→U5,zero_add→UG
open Ne renaming symm→UA
open Option renaming bind_eq_some_iff→Vp,bind_some→TU,getD_some→Vr,map_eq_some_iff→Ug,map_map→Xg,map_none→Wo,map_some→Uw
open Option.some renaming injEq→T9
open Prod.mk renaming injEq→Uy
noncomputable section
set_option linter.unusedSectionVars false
set_option linter.unusedSimpArgs false
set_option linter.unusedVariables false
section
namespace Go.Tx
open Go.Awp
variable [Inhabited GMem]
inductive Pt (ι:Type)where
 |dat (t:Ty ι)
 |bp (c off:Nat)
 |vh (c:Nat)
 |mp (c:Nat)
 |np (c:Nat)
 /-- the nil of an interface -/
 |nif
 |fn (f:Nat) (a b:List Nat)
 /-- a struct, some of its cells owned slices -/
 |ag (cs:List (Ty ι⊕Nat))
inductive OPt (ι:Type)where
 |box (o:Option TypeId) (cells:List (Pt ι))
 |st (i:ι)
 |vec (te:TypeId) (e:Ty ι)
 /-- a slice whose elements own what they hold: all of them are there, or some are out -/
 |dvec (te:TypeId) (e:Ty ι) (out:Bool)
 |map (k v:Ty ι)
 |iter
 |miter (m:Nat) (k v:Ty ι)
structure Cut (ι:Type)where
 slots:List (Nat×Pt ι)
 objs:List (Nat×OPt ι)
section
variable {ι:Type}
def JK:List (Ty ι⊕Nat)->List (Ty ι)
 |[]=>[]
 | .inl t::r=>t::JK r
 | .inr _::r=>JK r
def Pt.tys:Pt ι->List (Ty ι)
 | .dat t=>[t]
 | .ag cs=>JK cs
 | .np _=>[.bool]
 |_=>[]
def Fi:List (Pt ι)->List (Ty ι)
 |[]=>[]
 |p::r=>p.tys++Fi r
def FQ:List (Nat×Pt ι)->List (Ty ι)
 |[]=>[]
 |p::r=>p.2.tys++FQ r
def OPt.tys:OPt ι->List (Ty ι)
 | .box _ cells=>Fi cells
 | .st i=>[.st i]
 | .vec _ e=>[.sl e]
 | .dvec _ e out=>match out with
  |true=>[.sl (.op e)]
  |false=>[.sl e]
 | .map k v=>[.mp k v]
 | .iter=>[.str, .int .i64]
 | .miter _ k v=>[.mp k v, .mp k v]
def EQ:List (Nat×OPt ι)->List (Ty ι)
 |[]=>[]
 |p::r=>p.2.tys++EQ r
def Cut.tys(c:Cut ι):List (Ty ι):=FQ c.slots++EQ c.objs
def CX{α:Type}:List (Option α)->Option (List α)
 |[]=>some []
 |x::r=>match x with
  |none=>none
  |some y=>match CX r with
   |some l=>some (y::l)
   |none=>none
theorem CY{α:Type}:∀{l:List (Option α)} {r:List α},CX l=some r->l=r.map some
 |[],r,h=>by simp[CX]at h;subst h;rfl
 |x::l,r,h=>by
  simp only[CX]at h
  split at h
  ·cases h
  ·split at h
   ·rename_i l' hl
    cases h
    rw[CY hl];rfl
   ·cases h
@[reducible] def HL (N:ι->Type):List (Ty ι)->Type
 |[]=>Unit
 |t::r=>den N t×HL N r
def Nm{N:ι->Type}:(ts:List (Ty ι))->HL N ts->List (dh N)
 |[],_=>[]
 |t::r,v=>⟨t,v.1⟩::Nm r v.2
def Jv[DecidableEq ι]{N:ι->Type}:(ts:List (Ty ι))->List (dh N)->Option (HL N ts)
 |[],[]=>some ()
 |t::r,l::ls=>if h:l.t=t then match Jv r ls with
  |some v=>some (h▸l.x,v)
  |none=>none
  else none
 |_,_=>none
theorem ql[DecidableEq ι]{N:ι->Type}:∀{ts:List (Ty ι)} {ls:List (dh N)} {v:HL N ts},Jv ts ls=some v->Nm ts v=ls
 |[],[],v,_=>rfl
 |[],_::_,v,h=>by simp[Jv]at h
 |_::_,[],v,h=>by simp[Jv]at h
 |t::r,l::ls,v,h=>by
  simp only[Jv]at h
  split at h
  ·rename_i ht
   split at h
   ·rename_i w hw
    obtain⟨lt,lx⟩:=l
    simp only at ht
    subst ht
    simp at h;subst h
    simp[Nm,ql hw]
   ·cases h
  ·cases h
abbrev cC:=List (Nat×Nat)
def qA(σ:cC)(c n:Nat):Option cC:=match gt σ c with
 |some m=>if m=n then some σ else none
 |none=>if σ.any (λp=>U8 p.2 n)=true then none else some ((c,n)::σ)
def tZ{N:ι->Type}(σ:cC):List Nat->List (TV N)->Option cC
 |[],[]=>some σ
 |c::r, .bp n 0::s=>match qA σ c n with
  |some σ'=>tZ σ' r s
  |none=>none
 |_,_=>none
end
section
variable (V:mD)
def mtC(σ:cC):List (Ty V.ι⊕Nat)->List (TV V.N)->Option (cC×List (dh V.N))
 |[],[]=>some (σ,[])
 | .inl t::r,x::s=>match nE V false t x with
  |some l=>match mtC σ r s with
   |some (σ',ls)=>some (σ',l::ls)
   |none=>none
  |none=>none
 | .inr c::r, .vh n::s=>match qA σ c n with
  |some σ'=>mtC σ' r s
  |none=>none
 |_,_=>none
def mt1(σ:cC):Pt V.ι->TV V.N->Option (cC×List (dh V.N))
 | .dat t, .lf t' x=>if t'=t then some (σ,[⟨t',x⟩])else none
 | .dat (.sl e), .raw (.slice none 0 0)=>some (σ,[⟨.sl e,[]⟩])
 | .dat .er, .raw .nilIface=>some (σ,[⟨.er,false⟩])
 | .dat (.st i), .agg cs=>match mkV V false (some (.st i)) cs with
  | .lf t x=>some (σ,[⟨t,x⟩])
  |_=>none
 | .bp c off, .bp n off'=>if off=off' then(qA σ c n).map λσ'=>(σ',[])else none
 | .vh c, .vh n=>(qA σ c n).map λσ'=>(σ',[])
 | .mp c, .mp n=>(qA σ c n).map λσ'=>(σ',[])
 | .np c, .np n b=>(qA σ c n).map λσ'=>(σ',[⟨.bool,b⟩])
 | .np c, .bp n 0=>(qA σ c n).map λσ'=>(σ',[⟨.bool,true⟩])
 | .np _, .raw (.pointer none)=>some (σ,[⟨.bool,false⟩])
 | .nif, .raw .nilIface=>some (σ,[])
 | .fn f a b, .fn f' a' b'=>if f=f' then match tZ σ a a' with
   |some σ'=>(tZ σ' b b').map λσ''=>(σ'',[])
   |none=>none
  else none
 | .ag cs, .agg vs=>mtC V σ cs vs
 |_,_=>none
def mtL(σ:cC):List (Pt V.ι)->List (TV V.N)->Option (cC×List (dh V.N))
 |[],[]=>some (σ,[])
 |p::r,x::s=>match mt1 V σ p x with
  |some (σ',l)=>match mtL σ' r s with
   |some (σ'',l')=>some (σ'',l++l')
   |none=>none
  |none=>none
 |_,_=>none
def mtO(S:TS V.N)(σ:cC):List (Nat×OPt V.ι)->Option (cC×List (dh V.N))
 |[]=>some (σ,[])
 |(c,p)::r=>match gt σ c with
  |some n=>match p,S.own? n with
   | .box o ps,some (.box o' cells)=>if o=none\/o=o' then match mtL V σ ps cells with
    |some (σ',l)=>match mtO S σ' r with
     |some (σ'',l')=>some (σ'',l++l')
     |none=>none
    |none=>none
    else none
   | .st i,some (.box _ cells)=>match mkV V false (some (.st i)) cells with
    | .lf (.st j) x=>match mtO S σ r with
     |some (σ'',l')=>some (σ'',⟨.st j,x⟩::l')
     |none=>none
    |_=>none
   | .st i,some (.bst j x)=>if i=j then match mtO S σ r with
     |some (σ'',l')=>some (σ'',⟨.st j,x⟩::l')
     |none=>none
    else none
   | .box none ps,some (.bst j x)=>match mtL V σ ps ((V.cells j x).map λl=> .lf l.t l.x)with
    |some (σ',l)=>match mtO S σ' r with
     |some (σ'',l')=>some (σ'',l++l')
     |none=>none
    |none=>none
   | .vec te e,some (.vec te' e' xs)=>if te=te'/\e=e' then match mtO S σ r with
     |some (σ'',l')=>some (σ'',⟨.sl e',xs⟩::l')
     |none=>none
    else none
   | .dvec te e true,some (.pvec te' e' xs)=>if te=te'/\e=e' then match mtO S σ r with
     |some (σ'',l')=>some (σ'',⟨.sl (.op e'),xs⟩::l')
     |none=>none
    else none
   | .dvec te e true,some (.dvec te' e' xs)=>if te=te'/\e=e' then match mtO S σ r with
     |some (σ'',l')=>some (σ'',⟨.sl (.op e'),xs.map some⟩::l')
     |none=>none
    else none
   | .dvec te e false,some (.dvec te' e' xs)=>if te=te'/\e=e' then match mtO S σ r with
     |some (σ'',l')=>some (σ'',⟨.sl e',xs⟩::l')
     |none=>none
    else none
   | .iter,some (.iter s p)=>match mtO S σ r with
     |some (σ'',l')=>some (σ'',⟨.str,s⟩::⟨.int .i64,p⟩::l')
     |none=>none
   | .miter cm tk tv,some (.miter m tk' tv' es rest _)=>if tk=tk'/\tv=tv' then match qA σ cm m with
     |some σ'=>match mtO S σ' r with
      |some (σ'',l')=>some (σ'',⟨.mp tk' tv',es⟩::⟨.mp tk' tv',rest⟩::l')
      |none=>none
     |none=>none
    else none
   | .map tk tv,some (.map tk' tv' es)=>if tk=tk'/\tv=tv' then match mtO S σ r with
     |some (σ'',l')=>some (σ'',⟨.mp tk' tv',es⟩::l')
     |none=>none
    else none
   |_,_=>none
  |none=>none
def bdC:List (Ty V.ι⊕Nat)->List (dh V.N)->Option (List (TV V.N)×List (dh V.N))
 |[],ls=>some ([],ls)
 | .inl _::r,l::ls=>match bdC r ls with
  |some (vs,ls')=>some (.lf l.t l.x::vs,ls')
  |none=>none
 | .inl _::_,[]=>none
 | .inr c::r,ls=>match bdC r ls with
  |some (vs,ls')=>some (.vh c::vs,ls')
  |none=>none
def bd1:(p:Pt V.ι)->List (dh V.N)->Option (TV V.N×List (dh V.N))
 | .dat _,l::ls=>some (.lf l.t l.x,ls)
 | .dat _,[]=>none
 | .bp c off,ls=>some (.bp c off,ls)
 | .vh c,ls=>some (.vh c,ls)
 | .mp c,ls=>some (.mp c,ls)
 | .np c,⟨.bool,b⟩::ls=>some (.np c b,ls)
 | .np _,_=>none
 | .nif,ls=>some (.raw .nilIface,ls)
 | .fn f a b,ls=>some (.fn f (a.map λc=> .bp c 0) (b.map λc=> .bp c 0),ls)
 | .ag cs,ls=>match bdC V cs ls with
  |some (vs,ls')=>some (.agg vs,ls')
  |none=>none
def bdL:List (Pt V.ι)->List (dh V.N)->Option (List (TV V.N)×List (dh V.N))
 |[],ls=>some ([],ls)
 |p::r,ls=>match bd1 V p ls with
  |some (x,ls')=>match bdL r ls' with
   |some (xs,ls'')=>some (x::xs,ls'')
   |none=>none
  |none=>none
def bdO:List (Nat×OPt V.ι)->List (dh V.N)->Option (List (Nat×TO V.N))
 |[],[]=>some []
 |[],_::_=>none
 |(c, .box o ps)::r,ls=>match bdL V ps ls with
  |some (xs,ls')=>match bdO r ls' with
   |some os=>some ((c, .box o xs)::os)
   |none=>none
  |none=>none
 |(c, .st i)::r,⟨.st j,x⟩::ls=>if j=i then match bdO r ls with
    |some os=>some ((c, .bst j x)::os)
    |none=>none
  else none
 |(c, .vec te e)::r,⟨.sl e',xs⟩::ls=>if e'=e then match bdO r ls with
    |some os=>some ((c, .vec te e' xs)::os)
    |none=>none
  else none
 |(c, .dvec te e true)::r,⟨.sl (.op e'),xs⟩::ls=>if e'=e then match bdO r ls with
    |some os=>some ((c, .pvec te e' xs)::os)
    |none=>none
  else none
 |(c, .dvec te e false)::r,⟨.sl e',xs⟩::ls=>if e'=e then match bdO r ls with
    |some os=>some ((c, .dvec te e' xs)::os)
    |none=>none
  else none
 |(c, .iter)::r,⟨.str,s⟩::⟨.int .i64,p⟩::ls=>match bdO r ls with
    |some os=>some ((c, .iter s p)::os)
    |none=>none
 |(c, .miter cm tk tv)::r,⟨.mp tk' tv',es⟩::⟨.mp tk2 tv2,rest⟩::ls=>if h:(tk2=tk'/\tv2=tv')/\tk'=tk/\tv'=tv then match bdO r ls with
    |some os=>some ((c, .miter cm tk' tv' es (h.1.1▸h.1.2▸rest) none)::os)
    |none=>none
  else none
 |(c, .map tk tv)::r,⟨.mp tk' tv',es⟩::ls=>if tk'=tk/\tv'=tv then match bdO r ls with
    |some os=>some ((c, .map tk' tv' es)::os)
    |none=>none
  else none
 |_,_=>none
def build(c:Cut V.ι)(ls:List (dh V.N)):TS V.N:=match bdL V (c.slots.map (·.2)) ls with
 |some (xs,ls')=>match bdO V c.objs ls' with
  |some os=>{tmps:=(c.slots.map (·.1)).zip xs,own:=os}
  |none=>{tmps:=[],own:=[]}
 |none=>{tmps:=[],own:=[]}
def bP(c:Cut V.ι)(v:HL V.N c.tys):TS V.N:=build V c (Nm c.tys v)
def Jj(n:Nat)(e:Ty V.ι)(xs:List (den V.N e))(v:TV V.N):TV V.N:=match v with
 | .vh m=>if m=n then .lf (.sl e) xs else .vh m
 |v=>if TV.has n v=true then .junk else v
def PH(n:Nat)(e:Ty V.ι)(xs:List (den V.N e))(v:TV V.N):TV V.N:=match v with
 | .agg cs=> .agg (cs.map (Jj V n e xs))
 |v=>Jj V n e xs v
def A6(n:Nat)(e:Ty V.ι)(xs:List (den V.N e)):TO V.N->TO V.N
 | .box o cells=> .box o (cells.map (Jj V n e xs))
 |o=>o
def TS.frz(S:TS V.N)(n:Nat)(e:Ty V.ι)(xs:List (den V.N e)):TS V.N:=
 {tmps:=S.tmps.map λp=>(p.1,PH V n e xs p.2),own:=(n, .gone xs.length)::S.own.map λp=>(p.1,A6 V n e xs p.2)}
def Kh(S:TS V.N)(v:TV V.N):TS V.N:=match v with
 | .vh n=>match S.own? n with
  |some (.vec _ e xs)=>S.frz V n e xs
  |some (.dvec te e ys)=>TS.frz V {S with own:=(n, .vec te e ys)::S.own} n e ys
  |_=>S
 |_=>S
def frzL(S:TS V.N):List (TV V.N)->TS V.N
 |[]=>S
 |v::r=>frzL (Kh V S v) r
def Ge:List (Ty V.ι⊕Nat)->List (TV V.N)->List (TV V.N)
 | .inl _::r,v::s=>v::Ge r s
 | .inr _::r,_::s=>Ge r s
 |_,_=>[]
def wants:Pt V.ι->TV V.N->List (TV V.N)
 | .dat _, .vh n=>[.vh n]
 | .dat _, .agg cs=>cs
 | .ag cs, .agg vs=>Ge V cs vs
 |_,_=>[]
def LO(dv:Bool)(te:TypeId)(e:Ty V.ι):TO V.N:=match dv with
 |true=> .dvec te e []
 |false=> .vec te e []
def Bx(dv:Bool)(te:TypeId)(e:Ty V.ι)(S:TS V.N)(t:Nat):TS V.N:=match gt S.tmps t with
 |some (.raw (.slice none 0 0))=>if S.fresh (60000+t)=true/\Vu (60000+t) given=true then{tmps:=(t, .vh (60000+t))::S.tmps,own:=(60000+t,LO V dv te e)::S.own}else S
 |_=>S
def rU(dv:Bool)(te:TypeId)(e:Ty V.ι)(S:TS V.N)(b i:Nat):TS V.N:=match S.own? b with
 |some (.box o cells)=>match cells[i]? with
  |some (.raw (.slice none 0 0))=>if S.fresh (70000+S.own.length)=true/\Vu (70000+S.own.length) given=true then
   {tmps:=S.tmps,own:=(b, .box o (cells.set i (.vh (70000+S.own.length))))::(70000+S.own.length,LO V dv te e)::S.own}else S
  |_=>S
 |_=>S
def cellAt(S:TS V.N)(b i:Nat):TV V.N:=match S.own? b with
 |some (.box _ cells)=>(cells[i]?).getD .junk
 |_=> .junk
def fS(objs:List (Nat×OPt V.ι))(b:Nat):Nat->List (Pt V.ι)->TS V.N->TS V.N
 |_,[],S=>S
 |i, .vh c::r,S=>match gt objs c with
  |some (.vec te e)=>fS objs b (i+1) r (rU V false te e S b i)
  |some (.dvec te e _)=>fS objs b (i+1) r (rU V true te e S b i)
  |_=>fS objs b (i+1) r S
 |i, .dat ty::r,S=>fS objs b (i+1) r (frzL V S (wants V (.dat ty) (cellAt V S b i)))
 |i,_::r,S=>fS objs b (i+1) r S
def Ff(objs:List (Nat×OPt V.ι))(c b:Nat)(S:TS V.N):TS V.N:=match gt objs c with
 |some (.box _ ps)=>fS V objs b 0 ps S
 |some (.st _)=>match S.own? b with
  |some (.box _ cells)=>frzL V S cells
  |_=>S
 |_=>S
def Jn:Pt V.ι->TV V.N->List (Nat×Nat)
 | .bp c _, .bp n _=>[(c,n)]
 | .mp c, .mp n=>[(c,n)]
 | .fn _ a b, .fn _ a' b'=>(a++b).zip ((a'++b').map λv=>match v with
  | .bp n _=>n
  |_=>0)
 |_,_=>[]
def Jo:List (Pt V.ι)->List (TV V.N)->List (Nat×Nat)
 |p::ps,v::vs=>Jn V p v++Jo ps vs
 |_,_=>[]
def Np(objs:List (Nat×OPt V.ι))(S:TS V.N)(c b:Nat):List (Nat×Nat):=match gt objs c,S.own? b with
 |some (.box _ ps),some (.box _ cells)=>Jo V ps cells
 |_,_=>[]
def LP(objs:List (Nat×OPt V.ι)):Nat->List (Nat×Nat)->TS V.N->TS V.N
 |0,_,S=>S
 |_,[],S=>S
 |m+1,(c,b)::r,S=>LP objs m (r++Np V objs S c b) (Ff V objs c b S)
def vA(objs:List (Nat×OPt V.ι))(S:TS V.N):List (Nat×Pt V.ι)->TS V.N
 |[]=>S
 |(t, .vh c)::r=>match gt objs c with
  |some (.vec te e)=>vA objs (Bx V false te e S t) r
  |some (.dvec te e _)=>vA objs (Bx V true te e S t) r
  |_=>vA objs S r
 |(t, .dat ty)::r=>vA objs (frzL V S (wants V (.dat ty) (S.get t))) r
 |(t, .ag cs)::r=>vA objs (frzL V S (wants V (.ag cs) (S.get t))) r
 |_::r=>vA objs S r
def PU(objs:List (Nat×OPt V.ι))(S:TS V.N)(slots:List (Nat×Pt V.ι)):TS V.N:=match objs with
 |[]=>vA V objs S slots
 |_=>LP V objs (4 *objs.length) (slots.flatMap λp=>Jn V p.2 (S.get p.1)) (vA V objs S slots)
def Kc(c:Cut V.ι)(S:TS V.N):Option (cC×List (dh V.N)):=match mtL V [] (c.slots.map (·.2)) (c.slots.map λp=>S.get p.1)with
 |some (σ,l)=>match mtO V S σ c.objs with
  |some (σ',l')=>some (σ',l++l')
  |none=>none
 |none=>none
def vU(objs:List (Nat×OPt V.ι)):Pt V.ι->Bool
 | .vh c=>objs.any λp=>U8 p.1 c
 | .ag cs=>cs.all λx=>match x with
  | .inr c=>objs.any λp=>U8 p.1 c
  | .inl _=>true
 |_=>true
def ER(c:Cut V.ι)(σ:cC):Bool:=σ.all (λp=>Vu p.1 given||U8 p.1 p.2)&&c.slots.all (λp=>vU V c.objs p.2)&&c.objs.all (λp=>match p.2 with
 | .box _ ps=>ps.all (vU V c.objs)
 |_=>true)
def AU(c:Cut V.ι)(S:TS V.N):Option (HL V.N c.tys):=match Kc V c (PU V c.objs S c.slots)with
 |some (σ,ls)=>if ER V c σ=true then Jv c.tys ls else none
 |none=>none
end
end Go.Tx
end
section
namespace Go.Tx
open Go.Awp
variable [Inhabited GMem]
def Sub(σ σ':cC):Prop:=∀c n,gt σ c=some n->gt σ' c=some n
theorem Sub.refl(σ:cC):Sub σ σ:=λ_ _ h=>h
theorem Sub.trans{a b c:cC}(h:Sub a b)(k:Sub b c):Sub a c:=λx n hx=>k x n (h x n hx)
def Inj(σ:cC):Prop:=∀c c' n,gt σ c=some n->gt σ c'=some n->c=c'
theorem db{σ σ':cC}{c n:Nat}(h:qA σ c n=some σ'):Sub σ σ'/\gt σ' c=some n/\(Inj σ->Inj σ'):=by
 unfold qA at h
 split at h
 ·rename_i m hm
  split at h
  ·rename_i e;cases h;subst e;exact⟨Sub.refl _,hm,id⟩
  ·cases h
 ·rename_i hc
  split at h
  ·cases h
  ·rename_i hn
   cases h
   have hn':∀x,gt σ x≠some n:=λx hx=>by
    apply hn
    rw[Vl]
    exact⟨(x,n),ba hx,by simp⟩
   refine⟨λx m hx=> ?_,by simp[ah],λhi x y m hx hy=> ?_⟩
   ·rw[ah]
    by_cases e:c=x
    ·subst e;rw[hc]at hx;cases hx
    ·rw[XF e];exact hx
   ·rw[ah]at hx hy
    by_cases e:c=x<;>by_cases e':c=y
    ·rw[<-e,<-e']
    ·rw[XG e]at hx;rw[XF e']at hy;cases hx;exact(hn' _ hy).elim
    ·rw[XG e']at hy;rw[XF e]at hx;cases hy;exact(hn' _ hx).elim
    ·rw[XF e]at hx;rw[XF e']at hy;exact hi x y m hx hy
section
variable {V:mD}
theorem H.le.nil(sz:Nat):H.le (.d (.v (.slice none 0 0))) (.d (.sl sz [])):=H.le.d (D.le.nil sz)
structure Tr (σ:cC) (objs:List (Nat×OPt V.ι)) (E E':Env) (ω ω':Nat->Nat):Prop where
 env:∀c n,gt σ c=some n->E' c=E n
 len:∀c n,(objs.any λp=>U8 p.1 c)=true->gt σ c=some n->ω' c=ω n
theorem kw:∀{l:List Nat} {vs:List (TV V.N)} {σ σ':cC},tZ σ l vs=some σ'->Sub σ σ'/\(Inj σ->Inj σ')/\l.length=vs.length/\
 ∀(i:Nat) (c:Nat) (v:TV V.N),l[i]?=some c->vs[i]?=some v->∃n,v= .bp n 0/\gt σ' c=some n
 |[],[],σ,σ',h=>by simp[tZ]at h;subst h;exact⟨Sub.refl _,id,rfl,λi c v hc=>by simp at hc⟩
 |[],_::_,σ,σ',h=>by simp[tZ]at h
 |_::_,[],σ,σ',h=>by simp[tZ]at h
 |c::r,v::s,σ,σ',h=>by
  unfold tZ at h
  split at h
  ·rename_i heq1 heq2;cases heq1
  ·rename_i c' r' n s' heq1 heq2
   simp only[VM]at heq1 heq2
   obtain⟨rfl,rfl⟩:=heq1
   obtain⟨rfl,rfl⟩:=heq2
   split at h
   ·rename_i σ1 h1
    obtain⟨a1,a2,a3⟩:=db h1
    obtain⟨b1,b2,b3,b4⟩:=kw h
    refine⟨a1.trans b1,λhi=>b2 (a3 hi),by simp[b3],λi x w hx hw=> ?_⟩
    cases i with
    |zero=>simp at hx hw;subst hx;subst hw;exact⟨n,rfl,b1 _ _ a2⟩
    |succ i=>exact b4 i x w (by simpa using hx) (by simpa using hw)
   ·cases h
  ·cases h
theorem C7{E E':Env}{M:Mem}{σ:cC}{ω ω':Nat->Nat}(hE:∀c n,gt σ c=some n->E' c=E n){l:List Nat}{vs:List (TV V.N)}(hl:l.length=vs.length)
 (h:∀(i:Nat) (c:Nat) (v:TV V.N),l[i]?=some c->vs[i]?=some v->∃n,v= .bp n 0/\gt σ c=some n){av:Array Value}
 (hs:av.size=(encL V ω vs).length)(hr:∀(i:Nat) (c:Value) (x:H),av[i]?=some c->(encL V ω vs)[i]?=some x->aL E M c x):
 av.size=(encL V ω' (l.map λc=>(.bp c 0:TV V.N))).length/\∀(i:Nat) (c:Value) (x:H),av[i]?=some c->(encL V ω' (l.map λc=>(.bp c 0:TV V.N)))[i]?=some x->aL E' M c x:=by
 rw[aF]at hs
 refine⟨by rw[aF,Ub];omega,λi c x hc hx=> ?_⟩
 simp only[encL_map,Ua,Xg]at hx
 cases hli:l[i]? with
 |none=>rw[hli]at hx;cases hx
 |some k=>
  rw[hli]at hx
  simp[am]at hx;subst hx
  have hi:i<vs.length:=by rw[<-hl];exact(T7.1 hli).1
  obtain⟨n,hv,hn⟩:=h i k _ hli (T8 hi)
  have:=hr i c (.bp n 0) hc (by rw[encL_map,Ua,T8 hi,hv];simp[am])
  cases this with
  |bp _ off b hb=>exact .bp k 0 b (by rw[hE k n hn];exact hb)
theorem pn:∀{cs:List (Ty V.ι⊕Nat)} {vs:List (TV V.N)} {σ σ1:cC} {l:List (dh V.N)},mtC V σ cs vs=some (σ1,l)->Sub σ σ1/\(Inj σ->Inj σ1)/\
 ∃vs':List (TV V.N),vs'.length=vs.length/\(∀rest,bdC V cs (l++rest)=some (vs',rest))/\∀(i:Nat) (v v':TV V.N),vs[i]?=some v->vs'[i]?=some v'->
  ∀(τ:cC) (objs:List (Nat×OPt V.ι)) (E E':Env) (M:Mem) (ω ω':Nat->Nat) (a:Value),Sub σ1 τ->vU V objs (.ag cs)=true->Tr τ objs E E' ω ω'->aL E M a (am V ω v)->aL E' M a (am V ω' v')
 |[],[],σ,σ1,l,h=>by
  simp[mtC]at h;obtain⟨rfl,rfl⟩:=h
  exact⟨Sub.refl _,id,[],rfl,λrest=>rfl,λi v v' hv=>by simp at hv⟩
 |[],_::_,σ,σ1,l,h=>by simp[mtC]at h
 |_::_,[],σ,σ1,l,h=>by unfold mtC at h;split at h<;>first|(cases h;done)|contradiction
 | .inl t::r,x::s,σ,σ1,l,h=>by
  simp only[mtC]at h
  split at h
  ·rename_i l0 hl
   split at h
   ·rename_i σ' ls h2
    simp at h;obtain⟨rfl,rfl⟩:=h
    obtain⟨b1,b2,vs',b4,b5,b6⟩:=pn h2
    refine⟨b1,b2, .lf l0.t l0.x::vs',by simp[b4],λrest=> ?_,λi w w' hw hw' τ objs E E' M ω ω' a hs hv ht hr=> ?_⟩
    ·simp only[Uo,bdC,b5]
    ·cases i with
     |zero=>
      simp at hw hw';subst hw;subst hw'
      have hls:cF V false [t] [x]=some [l0]:=by simp[cF,hl]
      obtain⟨ds,e1,e2,_⟩:=ck (ω:=ω) hls
      simp only[encL]at e1
      obtain⟨d,hd⟩:∃d,ds=[d]:=by
       match ds,e1 with
       |[d],_=>exact⟨d,rfl⟩
       |[],e1=>simp at e1
       |_::_::_,e1=>simp at e1
      subst hd
      simp only[Ud,UL,VM,and_true]at e1
      rw[e1]at hr
      simp only[am]
      obtain⟨d0,g1,g2⟩:=e2.get 0 (aN V.sz V.enc l0.t l0.x) rfl
      simp at g1;subst g1
      cases hr with
      |d q=>exact .d (g2 M a q)
     |succ i=>
      refine b6 i w w' (by simpa using hw) (by simpa using hw') τ objs E E' M ω ω' a hs ?_ ht hr
      simp only[vU,Vi,Uf]at hv⊢;exact hv.2
   ·cases h
  ·cases h
 | .inr c::r,x::s,σ,σ1,l,h=>by
  unfold mtC at h
  split at h
  ·rename_i heq _;cases heq
  ·rename_i heq _;simp at heq
  ·rename_i c' r' n s' heq1 heq2
   simp only[VM,Sum.inr.injEq]at heq1 heq2
   obtain⟨rfl,rfl⟩:=heq1
   obtain⟨rfl,rfl⟩:=heq2
   split at h
   ·rename_i σ' hb
    obtain⟨a1,a2,a3⟩:=db hb
    obtain⟨b1,b2,vs',b4,b5,b6⟩:=pn h
    refine⟨a1.trans b1,λhi=>b2 (a3 hi), .vh c::vs',by simp[b4],λrest=> ?_,λi w w' hw hw' τ objs E E' M ω ω' a hs hv ht hr=> ?_⟩
    ·simp only[bdC,b5]
    ·simp only[vU,Vi,Uf]at hv
     cases i with
     |zero=>
      simp at hw hw';subst hw;subst hw'
      simp only[am]at hr⊢
      rw[ht.len c n hv.1 (hs _ _ (b1 _ _ a2))]
      cases hr with
      |vh _ len l cc ad hE hl=>exact .vh c _ l cc ad (by rw[ht.env c n (hs _ _ (b1 _ _ a2))];exact hE) hl
     |succ i=>
      refine b6 i w w' (by simpa using hw) (by simpa using hw') τ objs E E' M ω ω' a hs ?_ ht hr
      simp only[vU];exact hv.2
   ·cases h
  ·cases h
theorem pm{σ σ1:cC}{p:Pt V.ι}{v:TV V.N}{l:List (dh V.N)}(h:mt1 V σ p v=some (σ1,l)):Sub σ σ1/\(Inj σ->Inj σ1)/\v≠ .junk/\
 ∃v',(∀rest,bd1 V p (l++rest)=some (v',rest))/\∀(τ:cC) (objs:List (Nat×OPt V.ι)) (E E':Env) (M:Mem) (ω ω':Nat->Nat) (a:Value),Sub σ1 τ->vU V objs p=true->Tr τ objs E E' ω ω'->
  aL E M a (am V ω v)->aL E' M a (am V ω' v'):=by
 unfold mt1 at h
 split at h
 ·rename_i t t' x
  obtain⟨rfl,h⟩:=ao h
  simp at h;obtain⟨rfl,rfl⟩:=h
  refine⟨Sub.refl _,id,by simp, .lf t' x,λrest=>rfl,λτ objs E E' M ω ω' a _ _ _ hr=> ?_⟩
  simp only[am]at hr⊢
  exact hr.mono (Mem.le_refl _) λn hn=>by simp[H.has]at hn
 ·rename_i e
  simp at h;obtain⟨rfl,rfl⟩:=h
  refine⟨Sub.refl _,id,by simp, .lf (.sl e) [],λrest=>rfl,λτ objs E E' M ω ω' a _ _ _ hr=> ?_⟩
  simp only[am,bD,aN,UL]at hr⊢
  exact H.le.nil _ E' M a (hr.mono (Mem.le_refl _) λn hn=>by simp[H.has]at hn)
 ·simp at h;obtain⟨rfl,rfl⟩:=h
  refine⟨Sub.refl _,id,by simp, .lf .er false,λrest=>rfl,λτ objs E E' M ω ω' a _ _ _ hr=> ?_⟩
  simp only[am,bD,aN]at hr⊢
  exact H.le.d D.le.ern E' M a (hr.mono (Mem.le_refl _) λn hn=>by simp[H.has]at hn)
 ·rename_i i cs
  split at h
  ·rename_i t x hx
   simp at h;obtain⟨rfl,rfl⟩:=h
   refine⟨Sub.refl _,id,by simp, .lf t x,λrest=>rfl,λτ objs E E' M ω ω' a _ _ _ hr=> ?_⟩
   have hm:=(jc (V:=V) (ω:=ω) (ex:=false) (ot:=some (.st i)) (cs:=cs)).1
   rw[hx]at hm
   simp only[am]at hr hm⊢
   exact(hm E M a hr).mono (Mem.le_refl _) λn hn=>by simp[H.has]at hn
  ·cases h
 ·rename_i c off n off'
  have h':=ao h;clear h
  obtain⟨e,h⟩:=h'
  subst e
  rw[Ug]at h
  obtain⟨σ',hb,h⟩:=h
  simp at h;obtain⟨rfl,rfl⟩:=h
  obtain⟨h1,h2,h3⟩:=db hb
  refine⟨h1,h3,by simp, .bp c off,λrest=>rfl,λτ objs E E' M ω ω' a hs _ ht hr=> ?_⟩
  simp only[am]at hr⊢
  cases hr with
  |bp _ _ b hb=>exact .bp c off b (by rw[ht.env c n (hs _ _ h2)];exact hb)
 ·rename_i c n
  rw[Ug]at h
  obtain⟨σ',hb,h⟩:=h
  simp at h;obtain⟨rfl,rfl⟩:=h
  obtain⟨h1,h2,h3⟩:=db hb
  refine⟨h1,h3,by simp, .vh c,λrest=>rfl,λτ objs E E' M ω ω' a hs hv ht hr=> ?_⟩
  simp only[am]at hr⊢
  rw[ht.len c n (by simpa[vU]using hv) (hs _ _ h2)]
  cases hr with
  |vh _ len l cc ad hE hl=>exact .vh c _ l cc ad (by rw[ht.env c n (hs _ _ h2)];exact hE) hl
 ·rename_i c n
  rw[Ug]at h
  obtain⟨σ',hb,h⟩:=h
  simp at h;obtain⟨rfl,rfl⟩:=h
  obtain⟨h1,h2,h3⟩:=db hb
  refine⟨h1,h3,by simp, .mp c,λrest=>rfl,λτ objs E E' M ω ω' a hs _ ht hr=> ?_⟩
  simp only[am]at hr⊢
  cases hr with
  |mp _ b hE=>exact .mp c b (by rw[ht.env c n (hs _ _ h2)];exact hE)
 ·rename_i c n b
  rw[Ug]at h
  obtain⟨σ',hb,h⟩:=h
  simp at h;obtain⟨rfl,rfl⟩:=h
  obtain⟨h1,h2,h3⟩:=db hb
  refine⟨h1,h3,by simp, .np c b,λrest=>rfl,λτ objs E E' M ω ω' a hs _ ht hr=> ?_⟩
  simp only[am]at hr⊢
  cases hr with
  |np0=>exact .np0 c
  |np1 _ b hE=>exact .np1 c b (by rw[ht.env c n (hs _ _ h2)];exact hE)
 ·rename_i c n
  rw[Ug]at h
  obtain⟨σ',hb,h⟩:=h
  simp at h;obtain⟨rfl,rfl⟩:=h
  obtain⟨h1,h2,h3⟩:=db hb
  refine⟨h1,h3,by simp, .np c true,λrest=>rfl,λτ objs E E' M ω ω' a hs _ ht hr=> ?_⟩
  simp only[am]at hr⊢
  cases hr with
  |bp _ _ b hE=>exact .np1 c b (by rw[ht.env c n (hs _ _ h2)];exact hE)
 ·rename_i c
  simp at h;obtain⟨rfl,rfl⟩:=h
  refine⟨Sub.refl _,id,by simp, .np c false,λrest=>rfl,λτ objs E E' M ω ω' a _ _ _ hr=> ?_⟩
  simp only[am,bD]at hr⊢
  rw[hr.dv]
  exact .np0 c
 ·simp at h;obtain⟨rfl,rfl⟩:=h
  refine⟨Sub.refl _,id,by simp, .raw .nilIface,λrest=>rfl,λτ objs E E' M ω ω' a _ _ _ hr=> ?_⟩
  simp only[am,bD]at hr⊢
  exact hr.mono (Mem.le_refl _) λn hn=>by simp[H.has]at hn
 ·rename_i f a b f' a' b'
  have h':=ao h;clear h
  obtain⟨e,h⟩:=h'
  subst e
  split at h
  ·rename_i σ' ha
   rw[Ug]at h
   obtain⟨σ'',hb,h⟩:=h
   simp at h;obtain⟨rfl,rfl⟩:=h
   obtain⟨a1,a2,a3,a4⟩:=kw ha
   obtain⟨b1,b2,b3,b4⟩:=kw hb
   refine⟨a1.trans b1,λhi=>b2 (a2 hi),by simp, .fn f (a.map λc=> .bp c 0) (b.map λc=> .bp c 0),λrest=>rfl,λτ objs E E' M ω ω' v hs _ ht hr=> ?_⟩
   simp only[am]at hr⊢
   cases hr with
   |fn _ first captured l l' h1 h2 h3 h4=>
    obtain⟨x1,x2⟩:=C7 (V:=V) (ω':=ω') (λc n hc=>ht.env c n hc) a3 (λi c v hc hv=>by
     obtain⟨n,q1,q2⟩:=a4 i c v hc hv
     exact⟨n,q1,hs _ _ (b1 _ _ q2)⟩) h1 h3
    obtain⟨y1,y2⟩:=C7 (V:=V) (ω':=ω') (λc n hc=>ht.env c n hc) b3 (λi c v hc hv=>by
     obtain⟨n,q1,q2⟩:=b4 i c v hc hv
     exact⟨n,q1,hs _ _ q2⟩) h2 h4
    exact .fn f first captured _ _ x1 y1 x2 y2
  ·cases h
 ·rename_i cs vs
  obtain⟨b1,b2,vs',b4,b5,b6⟩:=pn h
  refine⟨b1,b2,by simp, .agg vs',λrest=>by simp only[bd1,b5],λτ objs E E' M ω ω' a hs hv ht hr=> ?_⟩
  simp only[am]at hr⊢
  have h1:=lS _ E M a hr
  obtain⟨xs,rfl,h2,h3⟩:=h1.hagg
  refine sM _ E' M _ (.agg xs _ (by rw[aF]at h2⊢;omega) λi c x hc hx=> ?_)
  rw[encL_map,Ua,Ug]at hx
  obtain⟨v',hv',rfl⟩:=hx
  have hi:i<vs.length:=by rw[<-b4];exact(T7.1 hv').1
  exact b6 i _ v' (T8 hi) hv' τ objs E E' M ω ω' c hs hv ht (h3 i c _ hc (by rw[encL_map,Ua,T8 hi];rfl))
 ·cases h
theorem gK:∀{ps:List (Pt V.ι)} {vs:List (TV V.N)} {σ σ1:cC} {l:List (dh V.N)},mtL V σ ps vs=some (σ1,l)->Sub σ σ1/\(Inj σ->Inj σ1)/\ps.length=vs.length/\
 ∃vs':List (TV V.N),vs'.length=vs.length/\(∀rest,bdL V ps (l++rest)=some (vs',rest))/\∀(i:Nat) (v v':TV V.N),vs[i]?=some v->vs'[i]?=some v'->v≠ .junk/\
  ∀(τ:cC) (objs:List (Nat×OPt V.ι)) (E E':Env) (M:Mem) (ω ω':Nat->Nat) (a:Value),Sub σ1 τ->ps.all (vU V objs)=true->Tr τ objs E E' ω ω'->aL E M a (am V ω v)->aL E' M a (am V ω' v')
 |[],[],σ,σ1,l,h=>by
  simp[mtL]at h;obtain⟨rfl,rfl⟩:=h
  exact⟨Sub.refl _,id,rfl,[],rfl,λrest=>rfl,λi v v' hv=>by simp at hv⟩
 |[],_::_,σ,σ1,l,h=>by simp[mtL]at h
 |_::_,[],σ,σ1,l,h=>by simp[mtL]at h
 |p::r,v::s,σ,σ1,l,h=>by
  simp only[mtL]at h
  split at h
  ·rename_i σ' l1 h1
   split at h
   ·rename_i σ'' l2 h2
    simp at h;obtain⟨rfl,rfl⟩:=h
    obtain⟨a1,a2,a3,v',a4,a5⟩:=pm h1
    obtain⟨b1,b2,b3,vs',b4,b5,b6⟩:=gK h2
    refine⟨a1.trans b1,λhi=>b2 (a2 hi),by simp[b3],v'::vs',by simp[b4],λrest=> ?_,λi w w' hw hw'=> ?_⟩
    ·simp only[bdL,UO,a4,b5]
    ·cases i with
     |zero=>
      simp at hw hw';subst hw;subst hw'
      refine⟨a3,λτ objs E E' M ω ω' a hs hv ht hr=>a5 τ objs E E' M ω ω' a (b1.trans hs) ?_ ht hr⟩
      simp only[Vi,Uf]at hv;exact hv.1
     |succ i=>
      obtain⟨c1,c2⟩:=b6 i w w' (by simpa using hw) (by simpa using hw')
      refine⟨c1,λτ objs E E' M ω ω' a hs hv ht hr=>c2 τ objs E E' M ω ω' a hs ?_ ht hr⟩
      simp only[Vi,Uf]at hv;exact hv.2
   ·cases h
  ·cases h
theorem bX{S:TS V.N}:∀{objs:List (Nat×OPt V.ι)} {σ σ1:cC} {l:List (dh V.N)},mtO V S σ objs=some (σ1,l)->Sub σ σ1/\(Inj σ->Inj σ1)/\
 ∃os:List (Nat×TO V.N),os.length=objs.length/\bdO V objs l=some os/\(∀c o',(c,o')∈os->∃n o,gt σ1 c=some n/\S.own? n=some o/\TO.len (some o')=TO.len (some o)/\
  ∃x:(Nat->Nat)->Own,(∀ω,bh V ω o=some (x ω))/\∃x':(Nat->Nat)->Own,(∀ω,bh V ω o'=some (x' ω))/\
  (∀(τ:cC) (all:List (Nat×OPt V.ι)) (E E':Env) (M:Mem) (w:World) (ω ω':Nat->Nat),Sub σ1 τ->(∀p∈objs,match p.2 with| .box _ ps=>ps.all (vU V all)=true|_=>True)->Tr τ all E E' ω ω'->
    aY E M w n (x ω)->aY E' M w c (x' ω'))/\
  ∀(E E':Env) (w:World) (ω ω':Nat->Nat) (b:Nat),E' c=E n->(x' ω').foot w (E' c) b->(x ω).foot w (E n) b)/\os.map (·.1)=objs.map (·.1)
 |[],σ,σ1,l,h=>by
  simp[mtO]at h;obtain⟨rfl,rfl⟩:=h
  exact⟨Sub.refl _,id,[],rfl,rfl,λc o' h=>by simp at h,rfl⟩
 |(c,p)::r,σ,σ1,l,h=>by
  simp only[mtO]at h
  split at h
  ·rename_i n hn
   split at h
   ·rename_i oo ps oo' cells hown
    have h':=ao h;clear h
    obtain⟨hoo,h⟩:=h'
    split at h
    ·rename_i σ' l1 h1
     split at h
     ·rename_i σ'' l2 h2
      simp at h;obtain⟨rfl,rfl⟩:=h
      obtain⟨a1,a2,a3,vs',a4,a5,a6⟩:=gK h1
      obtain⟨b1,b2,os,b3,b4,b5,b6⟩:=bX h2
      refine⟨a1.trans b1,λhi=>b2 (a2 hi),(c, .box oo vs')::os,by simp[b3],by simp only[bdO,a5,b4],λc' o' hm=> ?_,by simp[b6]⟩
      rcases Uh.1 hm with he|hm
      ·simp only[Uy]at he
       obtain⟨rfl,rfl⟩:=he
       refine⟨n, .box oo' cells,b1 _ _ (a1 _ _ hn),hown,rfl,λω=> .box oo' (encL V ω cells),λω=>rfl,λω=> .box oo (encL V ω vs'),λω=>rfl,λτ all E E' M w ω ω' hs hv ht ho=> ?_,λE E' w ω ω' b he hb=>by rw[he]at hb;exact hb⟩
       have hv0:ps.all (vU V all)=true:=hv (c', .box oo ps) T_
       obtain⟨b,cs,ty,k1,k2,k3,k4,k5,k6⟩:=ho
       rw[aF]at k3
       refine⟨b,cs,ty,by rw[ht.env c' n (hs _ _ (b1 _ _ (a1 _ _ hn)))];exact k1,k2,by rw[aF];omega,λi x y hx hy=> ?_,k5,λt htt=>by
        rcases hoo with hoo|hoo
        ·rw[hoo]at htt;cases htt
        ·rw[hoo]at htt;exact k6 t htt⟩
       simp only[encL_map,Ua]at hy
       cases hvi:vs'[i]? with
       |none=>rw[hvi]at hy;cases hy
       |some v'=>
        rw[hvi]at hy;simp at hy;subst hy
        have hi:i<cells.length:=by rw[<-a4];exact(T7.1 hvi).1
        obtain⟨_,q⟩:=a6 i _ v' (T8 hi) hvi
        exact q τ all E E' M ω ω' x (b1.trans hs) hv0 ht (k4 i x _ hx (by rw[encL_map,Ua,T8 hi];rfl))
      ·obtain⟨n',o,q1,q2,q3,x,q4,x',q5,q6,q7⟩:=b5 c' o' hm
       exact⟨n',o,q1,q2,q3,x,q4,x',q5,λτ all E E' M w ω ω' hs hv ht ho=>q6 τ all E E' M w ω ω' hs (λp hp=>hv p (T6 _ hp)) ht ho,q7⟩
     ·cases h
    ·cases h
   ·rename_i i oty cells hown
    split at h
    ·rename_i j x hx
     split at h
     ·rename_i σ'' l2 h2
      simp at h;obtain⟨rfl,rfl⟩:=h
      obtain⟨b1,b2,os,b3,b4,b5,b6⟩:=bX h2
      have hmk:i=j/\∃ls,cF V false (V.tys i) cells=some ls/\∃y:V.N i,V.ofCells i ls=some y/\(TV.lf (.st i) y:TV V.N)= .lf (.st j) x:=by
       unfold mkV at hx
       simp only at hx
       split at hx
       ·rename_i ls hls
        split at hx
        ·rename_i y hy
         have:i=j:=by cases hx;rfl
         exact⟨this,ls,hls,y,hy,hx⟩
        ·cases hx
       ·cases hx
      obtain⟨rfl,ls,hls,y,hy,he⟩:=hmk
      have he:y=x:=by cases he;rfl
      subst he
      refine⟨b1,b2,(c, .bst i y)::os,by simp[b3],by simp[bdO,b4],λc' o' hm=> ?_,by simp[b6]⟩
      rcases Uh.1 hm with he|hm
      ·simp only[Uy]at he
       obtain⟨rfl,rfl⟩:=he
       refine⟨n, .box oty cells,b1 _ _ hn,hown,rfl,λω=> .box oty (encL V ω cells),λω=>rfl,λ_=> .box none ((V.enc i y).map .d),λω=>rfl,λτ all E E' M w ω ω' hs _ ht ho=> ?_,λE E' w ω ω' b he hb=>by rw[he]at hb;exact hb⟩
       obtain⟨ds,e1,e2,_⟩:=ck (ω:=ω) hls
       obtain⟨b,cs,ty,k1,k2,k3,k4,k5,_⟩:=ho
       have hc:=V.of_cells i ls y hy
       have hnew:(V.enc i y).map H.d=(ls.map λl=>aN V.sz V.enc l.t l.x).map H.d:=by
        rw[V.enc_cells,hc]
       refine⟨b,cs,ty,by rw[ht.env c' n (hs _ _ (b1 _ _ hn))];exact k1,k2,?_,λi' a z ha hz=> ?_,k5,λt htt=>by cases htt⟩
       ·rw[k3,hnew,e1,Ub,Ub];exact e2.len
       ·rw[hnew,Ua]at hz
        cases hd:(ls.map λl=>aN V.sz V.enc l.t l.x)[i']? with
        |none=>rw[hd]at hz;cases hz
        |some d=>
         rw[hd]at hz;simp at hz;subst hz
         obtain⟨d0,g1,g2⟩:=e2.get i' d hd
         have:=k4 i' a (.d d0) ha (by rw[e1,Ua,g1];rfl)
         cases this with
         |d q=>exact .d (g2 M a q)
      ·obtain⟨n',o,q1,q2,q3,x,q4,x',q5,q6,q7⟩:=b5 c' o' hm
       exact⟨n',o,q1,q2,q3,x,q4,x',q5,λτ all E E' M w ω ω' hs hv ht ho=>q6 τ all E E' M w ω ω' hs (λp hp=>hv p (T6 _ hp)) ht ho,q7⟩
     ·cases h
    ·cases h
   ·rename_i i j x hown
    have h':=ao h;clear h
    obtain⟨e1,h⟩:=h'
    subst e1
    split at h
    ·rename_i σ'' l2 h2
     simp at h;obtain⟨rfl,rfl⟩:=h
     obtain⟨b1,b2,os,b3,b4,b5,b6⟩:=bX h2
     refine⟨b1,b2,(c, .bst i x)::os,by simp[b3],by simp[bdO,b4],λc' o' hm=> ?_,by simp[b6]⟩
     rcases Uh.1 hm with he|hm
     ·simp only[Uy]at he
      obtain⟨rfl,rfl⟩:=he
      refine⟨n, .bst i x,b1 _ _ hn,hown,rfl,λ_=> .box none ((V.enc i x).map .d),λω=>rfl,λ_=> .box none ((V.enc i x).map .d),λω=>rfl,λτ all E E' M w ω ω' hs _ ht ho=> ?_,λE E' w ω ω' b he hb=>by rw[he]at hb;exact hb⟩
      obtain⟨b,cs,ty,k1,k2,k3,k4,k5⟩:=ho
      refine⟨b,cs,ty,by rw[ht.env c' n (hs _ _ (b1 _ _ hn))];exact k1,k2,k3,λi' a z ha hz=> ?_,k5⟩
      have hq:=k4 i' a z ha hz
      rw[Ua,Ug]at hz
      obtain⟨d,_,rfl⟩:=hz
      exact hq.mono (Mem.le_refl _) λm hm=>by simp[H.has]at hm
     ·obtain⟨n',o,q1,q2,q3,x,q4,x',q5,q6,q7⟩:=b5 c' o' hm
      exact⟨n',o,q1,q2,q3,x,q4,x',q5,λτ all E E' M w ω ω' hs hv ht ho=>q6 τ all E E' M w ω ω' hs (λp hp=>hv p (T6 _ hp)) ht ho,q7⟩
    ·cases h
   ·rename_i ps j x hown
    split at h
    ·rename_i σ' l1 h1
     split at h
     ·rename_i σ'' l2 h2
      simp at h;obtain⟨rfl,rfl⟩:=h
      obtain⟨a1,a2,a3,vs',a4,a5,a6⟩:=gK h1
      obtain⟨b1,b2,os,b3,b4,b5,b6⟩:=bX h2
      refine⟨a1.trans b1,λhi=>b2 (a2 hi),(c, .box none vs')::os,by simp[b3],by simp only[bdO,a5,b4],λc' o' hm=> ?_,by simp[b6]⟩
      rcases Uh.1 hm with he|hm
      ·simp only[Uy]at he
       obtain⟨rfl,rfl⟩:=he
       refine⟨n, .bst j x,b1 _ _ (a1 _ _ hn),hown,rfl,λ_=> .box none ((V.enc j x).map .d),λω=>rfl,λω=> .box none (encL V ω vs'),λω=>rfl,λτ all E E' M w ω ω' hs hv ht ho=> ?_,λE E' w ω ω' b he hb=>by rw[he]at hb;exact hb⟩
       have hv0:ps.all (vU V all)=true:=hv (c', .box none ps) T_
       obtain⟨b,cs,ty,k1,k2,k3,k4,k5⟩:=ho
       rw[<-kz ω,aF]at k3
       refine⟨b,cs,ty,by rw[ht.env c' n (hs _ _ (b1 _ _ (a1 _ _ hn)))];exact k1,k2,by rw[aF];omega,λi x' y hx hy=> ?_,k5⟩
       simp only[encL_map,Ua]at hy
       cases hvi:vs'[i]? with
       |none=>rw[hvi]at hy;cases hy
       |some v'=>
        rw[hvi]at hy;simp at hy;subst hy
        have hi:i<((V.cells j x).map λl=>(.lf l.t l.x:TV V.N)).length:=by rw[<-a4];exact(T7.1 hvi).1
        obtain⟨_,q⟩:=a6 i _ v' (T8 hi) hvi
        exact q τ all E E' M ω ω' x' (b1.trans hs) hv0 ht (k4 i x' _ hx (by rw[<-kz ω,encL_map,Ua,T8 hi];rfl))
      ·obtain⟨n',o,q1,q2,q3,x,q4,x',q5,q6,q7⟩:=b5 c' o' hm
       exact⟨n',o,q1,q2,q3,x,q4,x',q5,λτ all E E' M w ω ω' hs hv ht ho=>q6 τ all E E' M w ω ω' hs (λp hp=>hv p (T6 _ hp)) ht ho,q7⟩
     ·cases h
    ·cases h
   ·rename_i te e te' e' xs hown
    have h':=ao h;clear h
    obtain⟨⟨e1,e2⟩,h⟩:=h'
    subst e1;subst e2
    split at h
    ·rename_i σ'' l2 h2
     simp at h;obtain⟨rfl,rfl⟩:=h
     obtain⟨b1,b2,os,b3,b4,b5,b6⟩:=bX h2
     refine⟨b1,b2,(c, .vec te e xs)::os,by simp[b3],by simp[bdO,b4],λc' o' hm=> ?_,by simp[b6]⟩
     rcases Uh.1 hm with he|hm
     ·simp only[Uy]at he
      obtain⟨rfl,rfl⟩:=he
      refine⟨n, .vec te e xs,b1 _ _ hn,hown,rfl,λ_=> .vec te (tsz V.sz e) (xs.map λx=>c8 V.sz V.enc e x),λω=>rfl,λ_=> .vec te (tsz V.sz e) (xs.map λx=>c8 V.sz V.enc e x),λω=>rfl,λτ all E E' M w ω ω' hs _ ht ho=> ?_,λE E' w ω ω' b he hb=>by rw[he]at hb;exact hb⟩
      obtain⟨ys,k1,k2,k3,k4⟩:=ho
      have he:=ht.env c' n (hs _ _ (b1 _ _ hn))
      exact⟨ys,by rw[he];exact k1,k2,k3,by rw[he];exact k4⟩
     ·obtain⟨n',o,q1,q2,q3,x,q4,x',q5,q6,q7⟩:=b5 c' o' hm
      exact⟨n',o,q1,q2,q3,x,q4,x',q5,λτ all E E' M w ω ω' hs hv ht ho=>q6 τ all E E' M w ω ω' hs (λp hp=>hv p (T6 _ hp)) ht ho,q7⟩
    ·cases h
   ·rename_i te e te' e' xs hown
    have h':=ao h;clear h
    obtain⟨⟨e1,e2⟩,h⟩:=h'
    subst e1;subst e2
    split at h
    ·rename_i σ'' l2 h2
     simp at h;obtain⟨rfl,rfl⟩:=h
     obtain⟨b1,b2,os,b3,b4,b5,b6⟩:=bX h2
     refine⟨b1,b2,(c, .pvec te e xs)::os,by simp[b3],by simp[bdO,b4],λc' o' hm=> ?_,by simp[b6]⟩
     rcases Uh.1 hm with he|hm
     ·simp only[Uy]at he
      obtain⟨rfl,rfl⟩:=he
      refine⟨n, .pvec te e xs,b1 _ _ hn,hown,rfl,λ_=> .dvec te (tsz V.sz e) (xs.map λx=>qV V e x),λω=>rfl,λ_=> .dvec te (tsz V.sz e) (xs.map λx=>qV V e x),λω=>rfl,λτ all E E' M w ω ω' hs _ ht ho=> ?_,λE E' w ω ω' b he hb=> ?_⟩
      ·obtain⟨B,k1,k2⟩:=ho
       have he:=ht.env c' n (hs _ _ (b1 _ _ hn))
       exact⟨B,by rw[he];exact k1,k2⟩
      ·rw[he]at hb;exact hb
     ·obtain⟨n',o,q1,q2,q3,x,q4,x',q5,q6,q7⟩:=b5 c' o' hm
      exact⟨n',o,q1,q2,q3,x,q4,x',q5,λτ all E E' M w ω ω' hs hv ht ho=>q6 τ all E E' M w ω ω' hs (λp hp=>hv p (T6 _ hp)) ht ho,q7⟩
    ·cases h
   ·rename_i te e te' e' xs hown
    have h':=ao h;clear h
    obtain⟨⟨e1,e2⟩,h⟩:=h'
    subst e1;subst e2
    split at h
    ·rename_i σ'' l2 h2
     simp at h;obtain⟨rfl,rfl⟩:=h
     obtain⟨b1,b2,os,b3,b4,b5,b6⟩:=bX h2
     refine⟨b1,b2,(c, .pvec te e (xs.map some))::os,by simp[b3],by simp[bdO,b4],λc' o' hm=> ?_,by simp[b6]⟩
     rcases Uh.1 hm with he|hm
     ·simp only[Uy]at he
      obtain⟨rfl,rfl⟩:=he
      refine⟨n, .dvec te e xs,b1 _ _ hn,hown,by simp[TO.len],λ_=> .dvec te (tsz V.sz e) (xs.map λx=>cy V.sz V.enc V.tid V.encd e x),λω=>rfl,λ_=> .dvec te (tsz V.sz e) ((xs.map some).map λx=>qV V e x),λω=>rfl,λτ all E E' M w ω ω' hs _ ht ho=> ?_,λE E' w ω ω' b he hb=> ?_⟩
      ·obtain⟨B,k1,k2⟩:=ho
       have he:=ht.env c' n (hs _ _ (b1 _ _ hn))
       exact⟨B,by rw[he];rw[UC];exact k1,k2⟩
      ·rw[he]at hb;rw[UC]at hb;exact hb
     ·obtain⟨n',o,q1,q2,q3,x,q4,x',q5,q6,q7⟩:=b5 c' o' hm
      exact⟨n',o,q1,q2,q3,x,q4,x',q5,λτ all E E' M w ω ω' hs hv ht ho=>q6 τ all E E' M w ω ω' hs (λp hp=>hv p (T6 _ hp)) ht ho,q7⟩
    ·cases h
   ·rename_i te e te' e' xs hown
    have h':=ao h;clear h
    obtain⟨⟨e1,e2⟩,h⟩:=h'
    subst e1;subst e2
    split at h
    ·rename_i σ'' l2 h2
     simp at h;obtain⟨rfl,rfl⟩:=h
     obtain⟨b1,b2,os,b3,b4,b5,b6⟩:=bX h2
     refine⟨b1,b2,(c, .dvec te e xs)::os,by simp[b3],by simp[bdO,b4],λc' o' hm=> ?_,by simp[b6]⟩
     rcases Uh.1 hm with he|hm
     ·simp only[Uy]at he
      obtain⟨rfl,rfl⟩:=he
      refine⟨n, .dvec te e xs,b1 _ _ hn,hown,rfl,λ_=> .dvec te (tsz V.sz e) (xs.map λx=>cy V.sz V.enc V.tid V.encd e x),λω=>rfl,λ_=> .dvec te (tsz V.sz e) (xs.map λx=>cy V.sz V.enc V.tid V.encd e x),λω=>rfl,λτ all E E' M w ω ω' hs _ ht ho=> ?_,λE E' w ω ω' b he hb=> ?_⟩
      ·obtain⟨B,k1,k2⟩:=ho
       have he:=ht.env c' n (hs _ _ (b1 _ _ hn))
       exact⟨B,by rw[he];exact k1,k2⟩
      ·rw[he]at hb;exact hb
     ·obtain⟨n',o,q1,q2,q3,x,q4,x',q5,q6,q7⟩:=b5 c' o' hm
      exact⟨n',o,q1,q2,q3,x,q4,x',q5,λτ all E E' M w ω ω' hs hv ht ho=>q6 τ all E E' M w ω ω' hs (λp hp=>hv p (T6 _ hp)) ht ho,q7⟩
    ·cases h
   ·rename_i s p hown
    split at h
    ·rename_i σ'' l2 h2
     simp at h;obtain⟨rfl,rfl⟩:=h
     obtain⟨b1,b2,os,b3,b4,b5,b6⟩:=bX h2
     refine⟨b1,b2,(c, .iter s p)::os,by simp[b3],by simp[bdO,b4],λc' o' hm=> ?_,by simp[b6]⟩
     rcases Uh.1 hm with he|hm
     ·simp only[Uy]at he
      obtain⟨rfl,rfl⟩:=he
      refine⟨n, .iter s p,b1 _ _ hn,hown,rfl,λ_=> .iter s p.toNat,λω=>rfl,λ_=> .iter s p.toNat,λω=>rfl,λτ all E E' M w ω ω' hs _ ht ho=> ?_,λE E' w ω ω' b he hb=>by rw[he]at hb;exact hb⟩
      obtain⟨b,k1,k2,k3⟩:=ho
      have he:=ht.env c' n (hs _ _ (b1 _ _ hn))
      exact⟨b,by rw[he];exact k1,k2,k3⟩
     ·obtain⟨n',o,q1,q2,q3,x,q4,x',q5,q6,q7⟩:=b5 c' o' hm
      exact⟨n',o,q1,q2,q3,x,q4,x',q5,λτ all E E' M w ω ω' hs hv ht ho=>q6 τ all E E' M w ω ω' hs (λp hp=>hv p (T6 _ hp)) ht ho,q7⟩
    ·cases h
   ·rename_i cm tk tv m tk' tv' es rest cur hown
    have h':=ao h;clear h
    obtain⟨⟨e1,e2⟩,h⟩:=h'
    subst e1;subst e2
    split at h
    ·rename_i σ' hb
     obtain⟨a1,a2,a3⟩:=db hb
     split at h
     ·rename_i σ'' l2 h2
      simp at h;obtain⟨rfl,rfl⟩:=h
      obtain⟨b1,b2,os,b3,b4,b5,b6⟩:=bX h2
      refine⟨a1.trans b1,λhi=>b2 (a3 hi),(c, .miter cm tk tv es rest none)::os,by simp[b3],by simp[bdO,b4],λc' o' hm=> ?_,by simp[b6]⟩
      rcases Uh.1 hm with he|hm
      ·simp only[Uy]at he
       obtain⟨rfl,rfl⟩:=he
       refine⟨n, .miter m tk tv es rest cur,b1 _ _ (a1 _ _ hn),hown,rfl,λ_=> .miter m (es.map λp=>(j5 tk p.1,aN V.sz V.enc tv p.2)) (rest.map λp=>(j5 tk p.1,aN V.sz V.enc tv p.2)) (cur.map λp=>(j5 tk p.1,aN V.sz V.enc tv p.2)),λω=>rfl,
        λ_=> .miter cm (es.map λp=>(j5 tk p.1,aN V.sz V.enc tv p.2)) (rest.map λp=>(j5 tk p.1,aN V.sz V.enc tv p.2)) none,λω=>rfl,λτ all E E' M w ω ω' hs _ ht ho=> ?_,λE E' w ω ω' b he hb=>by rw[he]at hb;exact hb⟩
       obtain⟨r',b,es',clock,since,seen,last,k1,k2,k3,k4,k5,k6,k7,k8,k9,k10,_,k12⟩:=ho
       have he:=ht.env c' n (hs _ _ (b1 _ _ (a1 _ _ hn)))
       have he2:=ht.env cm m (hs _ _ (b1 _ _ a2))
       exact⟨r',b,es',clock,since,seen,last,by rw[he];exact k1,by rw[he2];exact k2,k3,k4,k5,k6,k7,k8,k9,k10,(λp hp=>by cases hp),k12⟩
      ·obtain⟨n',o,q1,q2,q3,x,q4,x',q5,q6,q7⟩:=b5 c' o' hm
       exact⟨n',o,q1,q2,q3,x,q4,x',q5,λτ all E E' M w ω ω' hs hv ht ho=>q6 τ all E E' M w ω ω' hs (λp hp=>hv p (T6 _ hp)) ht ho,q7⟩
     ·cases h
    ·cases h
   ·rename_i tk tv tk' tv' es hown
    have h':=ao h;clear h
    obtain⟨⟨e1,e2⟩,h⟩:=h'
    subst e1;subst e2
    split at h
    ·rename_i σ'' l2 h2
     simp at h;obtain⟨rfl,rfl⟩:=h
     obtain⟨b1,b2,os,b3,b4,b5,b6⟩:=bX h2
     refine⟨b1,b2,(c, .map tk tv es)::os,by simp[b3],by simp[bdO,b4],λc' o' hm=> ?_,by simp[b6]⟩
     rcases Uh.1 hm with he|hm
     ·simp only[Uy]at he
      obtain⟨rfl,rfl⟩:=he
      refine⟨n, .map tk tv es,b1 _ _ hn,hown,rfl,λ_=> .map (es.map λp=>(j5 tk p.1,aN V.sz V.enc tv p.2)),λω=>rfl,λ_=> .map (es.map λp=>(j5 tk p.1,aN V.sz V.enc tv p.2)),λω=>rfl,λτ all E E' M w ω ω' hs _ ht ho=> ?_,λE E' w ω ω' b he hb=>by rw[he]at hb;exact hb⟩
      obtain⟨b,es',clock,k1,k2,k3,k4,k5⟩:=ho
      have he:=ht.env c' n (hs _ _ (b1 _ _ hn))
      exact⟨b,es',clock,by rw[he];exact k1,k2,k3,k4,k5⟩
     ·obtain⟨n',o,q1,q2,q3,x,q4,x',q5,q6,q7⟩:=b5 c' o' hm
      exact⟨n',o,q1,q2,q3,x,q4,x',q5,λτ all E E' M w ω ω' hs hv ht ho=>q6 τ all E E' M w ω ω' hs (λp hp=>hv p (T6 _ hp)) ht ho,q7⟩
    ·cases h
   ·cases h
  ·cases h
theorem Jk{α:Type}:∀{ks:List Nat} {vs:List α} {t:Nat} {x:α},gt (ks.zip vs) t=some x->∃i:Nat,ks[i]?=some t/\vs[i]?=some x
 |[],_,t,x,h=>by simp[gt]at h
 |_::_,[],t,x,h=>by simp[gt]at h
 |k::ks,v::vs,t,x,h=>by
  simp only[List.zip_cons_cons,ah]at h
  by_cases hk:k=t
  ·rw[XG hk]at h;cases h;exact⟨0,by simp[hk],rfl⟩
  ·rw[XF hk]at h
   obtain⟨i,h1,h2⟩:=Jk h
   exact⟨i+1,by simpa using h1,by simpa using h2⟩
theorem J9{S:TS V.N}{c:Cut V.ι}{σ:cC}{ls:List (dh V.N)}(h:Kc V c S=some (σ,ls))(hok:ER V c σ=true):Ent (aG V S) (aG V (build V c ls)):=by
 unfold Kc at h
 split at h
 ·rename_i σ0 l0 h0
  split at h
  ·rename_i σ1 l1 h1
   simp at h;obtain⟨rfl,rfl⟩:=h
   obtain⟨a1,a2,a3,vs',a4,a5,a6⟩:=gK h0
   obtain⟨b1,b2,os,b3,b4,b5,b6⟩:=bX h1
   have hinj:Inj σ1:=b2 (a2 λc c' n h=>by simp[gt]at h)
   simp only[ER,Uf,Uj]at hok
   obtain⟨⟨hg,hsl⟩,hob⟩:=hok
   have hbuild:build V c (l0++l1)={tmps:=(c.slots.map (·.1)).zip vs',own:=os}:=by
    unfold build
    rw[a5 l1]
    simp only[b4]
   rw[hbuild]
   let S':TS V.N:={tmps:=(c.slots.map (·.1)).zip vs',own:=os}
   have hown:∀n o,S'.own? n=some o->(n,o)∈os:=λn o ho=>ba ho
   have hkey:∀n,(c.objs.any λp=>U8 p.1 n)=true->∃o,S'.own? n=some o:=by
    intro n hn
    rw[Vl]at hn
    obtain⟨p,hp,hpn⟩:=hn
    have hpn:p.1=n:=by simpa using hpn
    have hm:n∈os.map (·.1):=by rw[b6,<-hpn];exact Uq hp
    exact eh hm
   intro C E M a w hs
   let E':Env:=λm=>match gt σ1 m with
    |some n=>E n
    |none=>E m
   have hE:∀k n,gt σ1 k=some n->E' k=E n:=λk n hk=>by simp only[E',hk]
   have ht:Tr σ1 c.objs E E' S.len S'.len:=by
    refine⟨hE,λk n hk hkn=> ?_⟩
    obtain⟨o,ho⟩:=hkey k hk
    obtain⟨n',o',q1,q2,q3,_⟩:=b5 k o (hown k o ho)
    rw[hkn]at q1;cases q1
    unfold TS.len;rw[ho,q2];exact q3
   have hob':∀p∈c.objs,match p.2 with| .box _ ps=>ps.all (vU V c.objs)=true|_=>True:=by
    intro p hp
    have:=hob p hp
    cases hq:p.2 with
    |box oty ps=>rw[hq]at this;simpa using this
    |st i=>trivial
    |vec te e=>trivial
    |dvec te e out=>trivial
    |map tk tv=>trivial
    |iter=>trivial
    |miter m k v=>trivial
   have hfind:∀n o,(aG V S').own? n=some o->∃n0 o0,gt σ1 n=some n0/\(aG V S).own? n0=some o0/\(∀w,aY E M w n0 o0->aY E' M w n o)/\∀w b,o.foot w (E' n) b->o0.foot w (E n0) b:=by
    intro n o ho
    rw[aM,Vp]at ho
    obtain⟨o',ho',hoo⟩:=ho
    obtain⟨n0,o0,q1,q2,_,x,q4,x',q5,q6,q7⟩:=b5 n o' (hown n o' ho')
    rw[q5]at hoo
    simp only[T9]at hoo
    subst hoo
    exact⟨n0,x S.len,q1,by rw[aM,q2];exact q4 _,λw hw=>q6 σ1 c.objs E E' M w S.len S'.len (Sub.refl _) hob' ht hw,λw b hb=>q7 E E' w S.len S'.len b (hE _ _ q1) hb⟩
   refine⟨E',M,{size:=hs.size,defers:=hs.defers,fixed:=hs.fixed,tmps:=λt x hx=> ?_,mem:=hs.mem,own:=λn o hn=> ?_,apart:=λn m o o' b hne hn hm hb=> ?_,home:=λn o b hn hb=> ?_,m0:=hs.m0,mnew:=hs.mnew,frame:=hs.frame,grows:=hs.grows,os:=hs.os,tape:=hs.tape,output:=hs.output,env:=λn hn=> ?_}⟩
   ·rw[cE,Ug]at hx
    obtain⟨v',hv',rfl⟩:=hx
    obtain⟨i,g1,g2⟩:=Jk hv'
    have hi:i<(c.slots.map λp=>S.get p.1).length:=by rw[<-a4];exact(T7.1 g2).1
    have hget:(c.slots.map λp=>S.get p.1)[i]?=some (S.get t):=by
     rw[Ua]at g1⊢
     cases hsl':c.slots[i]? with
     |none=>rw[hsl']at g1;cases g1
     |some p=>rw[hsl']at g1;simp at g1;subst g1;rfl
    obtain⟨k1,k2⟩:=a6 i _ v' hget g2
    have hgt:∃v,gt S.tmps t=some v/\S.get t=v:=by
     unfold TS.get at k1⊢
     cases hq:gt S.tmps t with
     |none=>rw[hq]at k1;exact(k1 rfl).elim
     |some v=>exact⟨v,rfl,rfl⟩
    obtain⟨v,hv1,hv2⟩:=hgt
    obtain⟨av,hav,hrep⟩:=hs.tmps t (am V S.len v) (by rw[cE,hv1];rfl)
    refine⟨av,hav,k2 σ1 c.objs E E' M S.len S'.len av b1 ?_ ht (by rw[hv2];exact hrep)⟩
    rw[VD]
    exact Uj.2 hsl
   ·obtain⟨n0,o0,q1,q2,q3⟩:=hfind n o hn
    exact q3.1 w (hs.own n0 _ q2)
   ·obtain⟨n0,o0,q1,q2,q3⟩:=hfind n o hn
    obtain⟨m0,o1,r1,r2,r3⟩:=hfind m o' hm
    intro hb'
    exact hs.apart n0 m0 _ _ b (λe=>by subst e;exact hne (hinj n m n0 q1 r1)) q2 r2 (q3.2 w b hb) (r3.2 w b hb')
   ·obtain⟨n0,o0,q1,q2,q3⟩:=hfind n o hn
    exact hs.home n0 _ b q2 (q3.2 w b hb)
   ·cases hq:gt σ1 n with
    |none=>simp only[E',hq];exact hs.env n hn
    |some m=>
     have:=hg _ (ba hq)
     simp only[UB,VB]at this
     rcases this with h|h
     ·omega
     ·have e:n=m:=by simpa using h
      rw[hE n m hq,<-e];exact hs.env n hn
  ·cases h
 ·cases h
end
end Go.Tx
end
section
namespace Go.Tx
open Go.Awp
variable [Inhabited GMem]
theorem Ent.le{S S':ae}(ht:∀t x,gt S'.tmps t=some x->∃y,gt S.tmps t=some y/\H.le y x)(ho:∀n o,S'.own? n=some o->∃o',S.own? n=some o'/\OLe o' o):Ent S S':=
 λ_ E M _ _ hs=>⟨E,M,Sim.le hs ht ho⟩
theorem lN{a b c:H}(h:H.le a b)(k:H.le b c):H.le a c:=λE M v x=>k E M v (h E M v x)
mutual
theorem DI{n sz:Nat}{rows:List (List D)}:∀x:H,H.has n x=false->H.le (H.frz n sz rows x) x
 | .d x,_=>by simp only[H.frz];exact H.le.refl _
 | .junk,_=>by simp only[H.frz];exact H.le.refl _
 | .bp m o,_=>by simp only[H.frz];exact H.le.refl _
 | .vh m l,h=>by
  simp only[H.has]at h
  have:m≠n:=by intro e;subst e;simp at h
  simp only[H.frz]
  rw[XF (λe=>this e.1)]
  exact H.le.refl _
 | .ep m s i o,_=>by simp only[H.frz];exact H.le.refl _
 | .sv m s i o,_=>by simp only[H.frz];exact H.le.refl _
 | .mp m,_=>by simp only[H.frz];exact H.le.refl _
 | .np m b,_=>by simp only[H.frz];exact H.le.refl _
 | .sd m,_=>by simp only[H.frz];exact H.le.refl _
 | .agg cs,h=>by
  simp only[H.frz]
  simp only[H.has]at h
  exact lN (lS _) (IO (H.frzL_len ..) (frzL_le cs h))
 | .tup cs,h=>by
  simp only[H.frz]
  simp only[H.has]at h
  exact vS (H.frzL_len ..) (frzL_le cs h)
 | .fn f a b,_=>by simp only[H.frz];exact H.le.refl _
theorem frzL_le{n sz:Nat}{rows:List (List D)}:∀l:List H,H.hasL n l=false->∀(i:Nat) (x:H),l[i]?=some x->∃y,(H.frzL n sz rows l)[i]?=some y/\H.le y x
 |[],_,i,x,hx=>by simp at hx
 |y::r,h,0,x,hx=>by
  rw[H.hasL,UQ]at h
  simp at hx;subst hx
  exact⟨H.frz n sz rows y,by simp[H.frzL],DI y h.1⟩
 |y::r,h,i+1,x,hx=>by
  rw[H.hasL,UQ]at h
  obtain⟨z,h1,h2⟩:=frzL_le r h.2 i x (by simpa using hx)
  exact⟨z,by simpa[H.frzL]using h1,h2⟩
end
section
variable {V:mD}
theorem DJ{S:TS V.N}{n:Nat}{te:TypeId}{e:Ty V.ι}{xs:List (den V.N e)}(hn:S.own? n=some (.vec te e xs)):(S.frz V n e xs).len=S.len:=by
 funext m
 unfold TS.len
 unfold TS.own? at hn⊢
 unfold TS.frz
 simp only[ah]
 by_cases hm:n=m
 ·subst hm;rw[XG rfl,hn];rfl
 ·rw[XF hm,gC (A6 V n e xs)]
  cases gt S.own m with
  |none=>rfl
  |some o=>cases o<;>rfl
theorem xB{S:TS V.N}{n:Nat}{te:TypeId}{e:Ty V.ι}{xs:List (den V.N e)}(hn:S.own? n=some (.vec te e xs))(v:TV V.N):
 H.le (H.frz n (tsz V.sz e) (xs.map λx=>c8 V.sz V.enc e x) (am V S.len v)) (am V (S.frz V n e xs).len (Jj V n e xs v)):=by
 have other:∀v:TV V.N,H.le (H.frz n (tsz V.sz e) (xs.map λx=>c8 V.sz V.enc e x) (am V S.len v)) (am V (S.frz V n e xs).len (if TV.has n v=true then .junk else v)):=by
  intro v
  split
  ·simp only[am];exact H.le.junk _
  ·rename_i hh
   have hh:TV.has n v=false:=by simpa using hh
   rw[DJ hn]
   exact DI _ (by rw[g6];exact hh)
 unfold Jj
 split
 ·rename_i m
  by_cases hm:m=n
  ·subst hm
   rw[XG rfl]
   simp only[am,aN,H.frz,hI hn,Ub,and_self,XC]
   exact H.le.refl _
  ·rw[XF hm]
   simp only[am,H.frz]
   rw[XF (λe=>hm e.1),DJ hn]
   exact H.le.refl _
 ·exact other v
theorem Ki{S:TS V.N}{n:Nat}{te:TypeId}{e:Ty V.ι}{xs:List (den V.N e)}(hn:S.own? n=some (.vec te e xs))(v:TV V.N):
 H.le (H.frz n (tsz V.sz e) (xs.map λx=>c8 V.sz V.enc e x) (am V S.len v)) (am V (S.frz V n e xs).len (PH V n e xs v)):=by
 unfold PH
 split
 ·rename_i cs
  simp only[am]
  refine lN ?_ (sM _)
  have hp:∀(l:List H),(∀(i:Nat) (x:H),(encL V (S.frz V n e xs).len (cs.map (Jj V n e xs)))[i]?=some x->∃y,l[i]?=some y/\H.le y x)->l.length=cs.length->
   H.le (.agg l) (.agg (encL V (S.frz V n e xs).len (cs.map (Jj V n e xs)))):=λl h hl=>IO (by rw[aF,Ub];exact hl) h
  have hfrz:∀(i:Nat) (x:H),(encL V (S.frz V n e xs).len (cs.map (Jj V n e xs)))[i]?=some x->
   ∃y,(encL V S.len cs)[i]?=some y/\H.le (H.frz n (tsz V.sz e) (xs.map λx=>c8 V.sz V.enc e x) y) x:=by
   intro i x hx
   simp only[encL_map,Ua]at hx⊢
   cases hc:cs[i]? with
   |none=>rw[hc]at hx;cases hx
   |some c=>rw[hc]at hx;simp at hx;subst hx;exact⟨_,rfl,xB hn c⟩
  unfold cR
  split
  ·rename_i ds hds
   obtain⟨g1,g2⟩:=f7 hds
   simp only[H.frz]
   have e1:H.le (.d (.agg ds)) (.agg (encL V S.len cs)):=by
    have:=lS (encL V S.len cs)
    unfold cR at this
    rw[hds]at this;exact this
   refine lN e1 (hp _ (λi x hx=> ?_) (aF ..))
   obtain⟨y,hy,hle⟩:=hfrz i x hx
   refine⟨y,hy,?_⟩
   rw[g2]at hy
   cases hd:ds[i]? with
   |none=>rw[hd]at hy;cases hy
   |some d=>rw[hd]at hy;simp at hy;subst hy;simpa only[H.frz]using hle
  ·simp only[H.frz]
   refine lN (lS _) (hp _ (λi x hx=> ?_) (by rw[H.frzL_len,aF]))
   obtain⟨y,hy,hle⟩:=hfrz i x hx
   exact⟨_,by rw[H.frzL_get,hy];rfl,hle⟩
 ·exact xB hn v
theorem DH{S:TS V.N}{n:Nat}{te:TypeId}{e:Ty V.ι}{xs:List (den V.N e)}(hn:S.own? n=some (.vec te e xs)):Ent (aG V S) (aG V (S.frz V n e xs)):=by
 refine Ent.trans (Ent.freeze (fR hn)) (Ent.le (λt x hx=> ?_) λm o ho=> ?_)
 ·rw[cE]at hx
  simp only[TS.frz,gC]at hx
  cases hq:gt S.tmps t with
  |none=>rw[hq]at hx;cases hx
  |some v=>
   rw[hq]at hx;simp at hx;subst hx
   refine⟨_,by simp only[ae.frz,gC,cE,hq,Uw],Ki hn v⟩
 ·rw[aM,Vp]at ho
  obtain⟨o1,ho1,ho⟩:=ho
  have hown:(S.frz V n e xs).own? m=if n=m then some (.gone xs.length)else(S.own? m).map (A6 V n e xs):=by
   unfold TS.own? TS.frz
   simp only[ah]
   split
   ·rfl
   ·rw[gC (A6 V n e xs)]
  rw[hown]at ho1
  by_cases hm:n=m
  ·rw[XG hm]at ho1;simp at ho1;subst ho1;simp[bh]at ho
  ·rw[XF hm]at ho1
   cases hq:S.own? m with
   |none=>rw[hq]at ho1;cases ho1
   |some o0=>
    rw[hq]at ho1;simp at ho1;subst ho1
    have hsrc:∀x,bh V S.len o0=some x->((aG V S).frz n (tsz V.sz e) (xs.map λx=>c8 V.sz V.enc e x)).own? m=some (Own.frz n (tsz V.sz e) (xs.map λx=>c8 V.sz V.enc e x) x):=by
     intro x hx
     have:=aM S m
     rw[hq]at this
     simp only[TU,hx]at this
     unfold ae.own? at this⊢
     simp only[ae.frz,ah]
     rw[XF hm,gC (λx:Option Own=>x.map (Own.frz n (tsz V.sz e) (xs.map λx=>c8 V.sz V.enc e x)))]
     cases hg:gt (aG V S).own m with
     |none=>rw[hg]at this;cases this
     |some oo=>rw[hg]at this;simp at this;subst this;rfl
    cases o0 with
    |gone l=>simp[A6,bh]at ho
    |bst i y=>
     simp only[A6,bh,T9]at ho
     subst ho
     refine⟨_,hsrc _ rfl,?_⟩
     simp only[Own.frz]
     refine OLe.box (.inr rfl) (by rw[H.frzL_len]) λi' x hx=> ?_
     refine⟨_,by rw[H.frzL_get,hx];rfl,?_⟩
     rw[Ua,Ug]at hx
     obtain⟨d,_,rfl⟩:=hx
     exact DI _ (by simp[H.has])
    |vec te' e' ys=>
     simp only[A6,bh,T9]at ho
     subst ho
     exact⟨_,hsrc _ rfl,OLe.refl _⟩
    |dvec te' e' ys=>
     simp only[A6,bh,T9]at ho
     subst ho
     exact⟨_,hsrc _ rfl,OLe.refl _⟩
    |pvec te' e' ys=>
     simp only[A6,bh,T9]at ho
     subst ho
     exact⟨_,hsrc _ rfl,OLe.refl _⟩
    |map tk tv es=>
     simp only[A6,bh,T9]at ho
     subst ho
     exact⟨_,hsrc _ rfl,OLe.refl _⟩
    |iter s p=>
     simp only[A6,bh,T9]at ho
     subst ho
     exact⟨_,hsrc _ rfl,OLe.refl _⟩
    |miter m k v es rest cur=>
     simp only[A6,bh,T9]at ho
     subst ho
     exact⟨_,hsrc _ rfl,OLe.refl _⟩
    |box oty cells=>
     simp only[A6,bh,T9]at ho
     subst ho
     refine⟨_,hsrc _ rfl,?_⟩
     simp only[Own.frz]
     refine OLe.box (.inr rfl) (by rw[H.frzL_len,aF,aF,Ub]) λi x hx=> ?_
     simp only[encL_map,Ua]at hx
     cases hc:cells[i]? with
     |none=>rw[hc]at hx;cases hx
     |some c=>
      rw[hc]at hx;simp at hx;subst hx
      exact⟨_,by rw[H.frzL_get,encL_map,Ua,hc];rfl,xB hn c⟩
theorem Ent.tle{S S':TS V.N}(hl:S'.len=S.len)(ht:∀t v,gt S'.tmps t=some v->gt S.tmps t=some v)
 (ho:∀n o x,S'.own? n=some o->bh V S.len o=some x->∃o' x',S.own? n=some o'/\bh V S.len o'=some x'/\OLe x' x):Ent (aG V S) (aG V S'):=by
 refine Ent.le (λt x hx=> ?_) λn x hx=> ?_
 ·rw[cE,Ug]at hx
  obtain⟨v,hv,rfl⟩:=hx
  exact⟨_,by rw[cE,ht t v hv];rfl,by rw[hl];exact H.le.refl _⟩
 ·rw[aM,Vp]at hx
  obtain⟨o,ho1,ho2⟩:=hx
  rw[hl]at ho2
  obtain⟨o',x',h1,h2,h3⟩:=ho n o x ho1 ho2
  exact⟨x',by rw[aM,h1];exact h2,h3⟩
theorem iu{S:TS V.N}{n:Nat}{te:TypeId}{e:Ty V.ι}{xs:List (den V.N e)}(h:S.own? n=some (.dvec te e xs)):
 (aG V S).own? n=some (.dvec te (tsz V.sz e) (xs.map λx=>cy V.sz V.enc V.tid V.encd e x)):=by rw[aM,h];rfl
theorem ou{S:TS V.N}{n:Nat}{te:TypeId}{e:Ty V.ι}{xs:List (Option (den V.N e))}(h:S.own? n=some (.pvec te e xs)):
 (aG V S).own? n=some (.dvec te (tsz V.sz e) (xs.map λx=>qV V e x)):=by rw[aM,h];rfl
theorem zE(S:TS V.N)(n:Nat)(o:TO V.N)(m:Nat):({S with own:=(n,o)::S.own}:TS V.N).own? m=if n=m then some o else S.own? m:=by
 unfold TS.own?
 rw[ah]
theorem J_{S:TS V.N}{n:Nat}{te:TypeId}{e:Ty V.ι}{ys:List (den V.N e)}(hn:S.own? n=some (.dvec te e ys)):
 Ent (aG V S) (aG V {S with own:=(n, .vec te e ys)::S.own}):=λC E M a w hs=>by
 obtain⟨M',h1⟩:=hs.dfrz (iu hn) (tq ys)
 refine⟨E,M',?_⟩
 have hl:({S with own:=(n, .vec te e ys)::S.own}:TS V.N).len=S.len:=by
  funext m
  unfold TS.len
  rw[zE]
  by_cases h:n=m
  ·subst h;rw[XG rfl,hn];simp[TO.len]
  ·rw[XF h]
 have:aG V {S with own:=(n, .vec te e ys)::S.own}={aG V S with own:=(n,some (.vec te (tsz V.sz e) (ys.map λx=>c8 V.sz V.enc e x)))::(aG V S).own}:=by
  unfold aG
  rw[hl]
  rfl
 rw[this]
 exact h1
theorem DG(S:TS V.N)(v:TV V.N):Ent (aG V S) (aG V (Kh V S v)):=by
 unfold Kh
 split
 ·rename_i n
  split
  ·rename_i te e xs hn;exact DH hn
  ·rename_i te e ys hn
   exact Ent.trans (J_ hn) (DH (by rw[zE,XG rfl]))
  ·exact Ent.refl _
 ·exact Ent.refl _
theorem EP{S1 S2:TS V.N}{n:Nat}{te:TypeId}{e:Ty V.ι}(ht:S2.tmps=S1.tmps)(h1:S1.own? n=some (.vec te e []))(h2:S2.own? n=some (.dvec te e []))(h3:∀k,k≠n->S2.own? k=S1.own? k):Ent (aG V S1) (aG V S2):=by
 have hl:S2.len=S1.len:=by
  funext m
  unfold TS.len
  by_cases h:m=n
  ·subst h;rw[h1,h2];rfl
  ·rw[h3 m h]
 refine Ent.tle hl (λt v hv=>by rw[<-ht];exact hv) λk o x hk hx=> ?_
 by_cases h:k=n
 ·subst h
  rw[h2]at hk;cases hk
  simp only[bh,UL,T9]at hx;subst hx
  exact⟨_,_,h1,rfl,by simpa using (OLe.v2d (e:=te) (sz:=tsz V.sz e) (rows:=[]))⟩
 ·rw[h3 k h]at hk
  exact⟨o,x,hk,hx,OLe.refl _⟩
theorem dA:∀(l:List (TV V.N)) (S:TS V.N),Ent (aG V S) (aG V (frzL V S l))
 |[],_=>Ent.refl _
 |v::r,S=>Ent.trans (DG S v) (dA r _)
theorem rT(te:TypeId)(e:Ty V.ι)(S:TS V.N)(t:Nat):Ent (aG V S) (aG V (Bx V false te e S t)):=by
 unfold Bx LO
 simp only
 split
 ·rename_i ht
  split
  ·rename_i hf
   obtain⟨hf,hg⟩:=hf
   have hg:60000+t<given:=by simpa[VB]using hg
   have h1:gt (aG V S).tmps t=some (.d (.v (.slice none 0 0))):=by rw[cE,ht];simp[am,bD]
   have h2:(aG V S).fresh (60000+t)=true:=eg hf
   refine Ent.trans (Ent.nilvec (e:=te) (sz:=tsz V.sz e) h1 h2 hg) λC E M a w hs=>⟨E,M,?_⟩
   exact Sim.tapp (V:=V) (S:=S) (dst:=some t) (te:={val:= .vh (60000+t),upd:=[(60000+t, .vec te e [])],new:=[60000+t]}) (ex:=false)
    (e':={val:= .vh (60000+t) 0,upd:=[(60000+t,some (.vec te (tsz V.sz e) []))],new:=[60000+t]}) (λm o hm=>by
      simp only[ah]at hm
      split at hm
      ·rename_i e;left;simp[e]
      ·simp[gt]at hm) (λd hd=>by simp at hd;subst hd;exact hf) (bS (by
      simp only[am]
      rw[cD]
      simp[ah,TO.len]) rfl (by simp[bh]) rfl) hs
  ·exact Ent.refl _
 ·exact Ent.refl _
theorem vl(dv:Bool)(te:TypeId)(e:Ty V.ι)(S:TS V.N)(t:Nat):Ent (aG V S) (aG V (Bx V dv te e S t)):=by
 cases dv with
 |false=>exact rT te e S t
 |true=>
  refine Ent.trans (rT te e S t) ?_
  unfold Bx LO
  simp only
  split
  ·split
   ·refine EP (n:=60000+t) (te:=te) (e:=e) rfl ?_ ?_ λk hk=> ?_<;>unfold TS.own?<;>simp only[ah]
    ·simp
    ·simp
    ·rw[XF (UA hk),XF (UA hk)]
   ·exact Ent.refl _
  ·exact Ent.refl _
theorem eS(objs:List (Nat×OPt V.ι)):∀(l:List (Nat×Pt V.ι)) (S:TS V.N),Ent (aG V S) (aG V (vA V objs S l))
 |[],_=>Ent.refl _
 |(t, .vh c)::r,S=>by
  simp only[vA]
  split
  ·exact Ent.trans (vl _ _ _ S t) (eS objs r _)
  ·exact Ent.trans (vl _ _ _ S t) (eS objs r _)
  ·exact eS objs r S
 |(t, .dat ty)::r,S=>by
  simp only[vA]
  exact Ent.trans (dA _ S) (eS objs r _)
 |(t, .bp c off)::r,S=>by simp only[vA];exact eS objs r S
 |(t, .mp c)::r,S=>by simp only[vA];exact eS objs r S
 |(t, .np c)::r,S=>by simp only[vA];exact eS objs r S
 |(t, .nif)::r,S=>by simp only[vA];exact eS objs r S
 |(t, .ag cs)::r,S=>by
  simp only[vA]
  exact Ent.trans (dA _ S) (eS objs r _)
 |(t, .fn f a b)::r,S=>by simp only[vA];exact eS objs r S
theorem pJ(te:TypeId)(e:Ty V.ι)(S:TS V.N)(b i:Nat):Ent (aG V S) (aG V (rU V false te e S b i)):=by
 unfold rU LO
 simp only
 split
 ·rename_i oty cells hb
  split
  ·rename_i hc
   split
   ·rename_i hf
    obtain⟨hf,hg⟩:=hf
    generalize hn:70000+S.own.length=n at hf hg⊢
    have hg:n<given:=by simpa[VB]using hg
    have h1:(aG V S).own? b=some (.box oty (encL V S.len cells)):=by rw[aM,hb];rfl
    have h2:(encL V S.len cells)[i]?=some (.d (.v (.slice none 0 0))):=by rw[encL_map,Ua,hc];simp[am,bD]
    have hfr:=hf
    unfold TS.fresh at hfr
    simp only[Uf,Uj]at hfr
    obtain⟨⟨f1,f2⟩,f3⟩:=hfr
    have hbn:b≠n:=by
     rintro rfl
     rw[hb]at f1;cases f1
    have hcn:TV.hasL n cells=false:=by
     have:=f3 (b, .box oty cells) (ba hb)
     simpa[TO.has]using this
    refine Ent.trans (Ent.nilcell (e:=te) (sz:=tsz V.sz e) h1 h2 (eg hf) hg) λC E M a w hs=>⟨E,M,?_⟩
    refine Sim.tapp (V:=V) (S:=S) (dst:=none) (te:={val:= .junk,upd:=[(b, .box oty (cells.set i (.vh n))),(n, .vec te e [])],new:=[n]}) (ex:=false)
     (e':={val:= .junk,upd:=[(b,some (.box oty ((encL V S.len cells).set i (.vh n 0)))),(n,some (.vec te (tsz V.sz e) []))],new:=[n]}) (λm o hm=> ?_) (λd hd=>by simp at hd;subst hd;exact hf) (bS ?_ rfl ?_ rfl) hs
    ·simp only[ah]at hm
     split at hm
     ·rename_i e1
      right
      simp at hm;subst hm;subst e1
      unfold TS.len
      rw[hb];rfl
     ·split at hm
      ·rename_i e1;left;simp[e1]
      ·simp[gt]at hm
    ·simp[am]
    ·simp only[Ud,UL,bh]
     have hl:∀m,(S.app none ({val:= .junk,upd:=[(b, .box oty (cells.set i (.vh n))),(n, .vec te e [])],new:=[n]}:TE V.N)).len m=if m=n then 0 else S.len m:=by
      intro m
      rw[cD]
      simp only[ah]
      by_cases hmb:b=m
      ·subst hmb
       rw[XG rfl,XF hbn]
       simp only[TO.len]
       unfold TS.len;rw[hb];rfl
      ·rw[XF hmb]
       by_cases hmn:n=m
       ·subst hmn;simp[TO.len]
       ·rw[XF hmn,XF (λe=>hmn e.symm)];rfl
     have hcells:encL V (S.app none ({val:= .junk,upd:=[(b, .box oty (cells.set i (.vh n))),(n, .vec te e [])],new:=[n]}:TE V.N)).len (cells.set i (.vh n))=(encL V S.len cells).set i (.vh n 0):=by
      rw[encL_map,V9,encL_map]
      congr 1
      ·rw[<-encL_map,<-encL_map]
       refine encL_congr cells λm hm=> ?_
       rw[hl,XF]
       rintro rfl
       rw[hcn]at hm;cases hm
      ·simp only[am]
       rw[hl,XG rfl]
     rw[hcells]
   ·exact Ent.refl _
  ·exact Ent.refl _
 ·exact Ent.refl _
theorem rV(dv:Bool)(te:TypeId)(e:Ty V.ι)(S:TS V.N)(b i:Nat):Ent (aG V S) (aG V (rU V dv te e S b i)):=by
 cases dv with
 |false=>exact pJ te e S b i
 |true=>
  refine Ent.trans (pJ te e S b i) ?_
  unfold rU LO
  simp only
  split
  ·rename_i oty cells hb
   split
   ·split
    ·rename_i hf
     have hbn:b≠70000+S.own.length:=λe=>by
      have h1:=hf.1
      unfold TS.fresh at h1
      simp only[Uf]at h1
      rw[<-e,hb]at h1;exact absurd h1.1.1 (by simp)
     refine EP (n:=70000+S.own.length) (te:=te) (e:=e) rfl ?_ ?_ λk hk=> ?_<;>unfold TS.own?<;>simp only[ah]
     ·rw[XF hbn];simp
     ·rw[XF hbn];simp
     ·rw[XF (UA hk),XF (UA hk)]
    ·exact Ent.refl _
   ·exact Ent.refl _
  ·exact Ent.refl _
theorem cv(objs:List (Nat×OPt V.ι))(b:Nat):∀(l:List (Pt V.ι)) (i:Nat) (S:TS V.N),Ent (aG V S) (aG V (fS V objs b i l S))
 |[],_,_=>Ent.refl _
 | .vh c::r,i,S=>by
  simp only[fS]
  split
  ·exact Ent.trans (rV _ _ _ S b i) (cv objs b r _ _)
  ·exact Ent.trans (rV _ _ _ S b i) (cv objs b r _ _)
  ·exact cv objs b r _ S
 | .dat ty::r,i,S=>by simp only[fS];exact Ent.trans (dA _ S) (cv objs b r _ _)
 | .bp c off::r,i,S=>by simp only[fS];exact cv objs b r _ S
 | .mp c::r,i,S=>by simp only[fS];exact cv objs b r _ S
 | .np c::r,i,S=>by simp only[fS];exact cv objs b r _ S
 | .nif::r,i,S=>by simp only[fS];exact cv objs b r _ S
 | .ag cs::r,i,S=>by simp only[fS];exact cv objs b r _ S
 | .fn f x y::r,i,S=>by simp only[fS];exact cv objs b r _ S
theorem BH(objs:List (Nat×OPt V.ι))(c b:Nat)(S:TS V.N):Ent (aG V S) (aG V (Ff V objs c b S)):=by
 unfold Ff
 split
 ·exact cv objs b _ 0 S
 ·split
  ·exact dA _ S
  ·exact Ent.refl _
 ·exact Ent.refl _
theorem zN(objs:List (Nat×OPt V.ι)):∀(m:Nat) (l:List (Nat×Nat)) (S:TS V.N),Ent (aG V S) (aG V (LP V objs m l S))
 |0,_,_=>by simp only[LP];exact Ent.refl _
 |_+1,[],_=>by simp only[LP];exact Ent.refl _
 |m+1,(c,b)::r,S=>by simp only[LP];exact Ent.trans (BH objs c b S) (zN objs m _ _)
theorem H7(objs:List (Nat×OPt V.ι))(l:List (Nat×Pt V.ι))(S:TS V.N):Ent (aG V S) (aG V (PU V objs S l)):=by
 unfold PU
 split
 ·exact eS _ l S
 ·exact Ent.trans (eS _ l S) (zN _ _ _ _)
theorem dz{c:Cut V.ι}{S:TS V.N}{v:HL V.N c.tys}(h:AU V c S=some v):Ent (aG V S) (aG V (bP V c v)):=by
 unfold AU at h
 split at h
 ·rename_i σ ls hx
  obtain⟨hok,h⟩:=ao h
  have:=ql h
  unfold bP
  rw[this]
  exact Ent.trans (H7 c.objs c.slots S) (J9 hx hok)
 ·cases h
end
end Go.Tx
end
section
namespace Go.Tx
open Go.Awp
variable [Inhabited GMem]
theorem oa(x:D):DD.toL [.d x]=some [x]:=by simp[DD.toL,DD.toD]
theorem N3{t z:Nat}{rows:List (List DD)}{ds:List (List D)}(h:DD.toR rows=some ds):DD.toL [.sl t z rows]=some [.sl z ds]:=by simp[DD.toL,DD.toD,h]
theorem RT{r:List DD}{s:List (List DD)}{x:List D}{y:List (List D)}(h:DD.toL r=some x)(h':DD.toR s=some y):DD.toR (r::s)=some (x::y):=by simp[DD.toR,h,h']
theorem N4{α:Type}{f:α->List DD}{g:α->List D}(h:∀x,DD.toL (f x)=some (g x)):∀l:List α,DD.toR (l.map f)=some (l.map g)
 |[]=>by simp[DD.toR]
 |x::r=>RT (h x) (N4 h r)
section
variable (V:mD)
def OB:Ty V.ι->Bool
 | .st i=>V.flat i
 | .sl _=>false
 |_=>true
def vv(e:Ty V.ι)(ys:List (den V.N e)):TO V.N:=match OB V e with
 |true=> .vec (V.tid e) e ys
 |false=> .dvec (V.tid e) e ys
def gU(b:Nat):Nat->List (dh V.N)->List (TV V.N)×List (Nat×TO V.N)
 |_,[]=>([],[])
 |j,l::r=>match l with
  |⟨.sl e,ys⟩=>(.vh (zU b j)::(gU b (j+1) r).1,(zU b j,vv V e ys)::(gU b (j+1) r).2)
  |⟨t,x⟩=>(.lf t x::(gU b (j+1) r).1,(gU b (j+1) r).2)
def nin(n:Nat):List Nat->Bool
 |[]=>true
 |k::r=> !U8 k n&&nin n r
def xm:List Nat->Bool
 |[]=>true
 |k::r=>nin k r&&xm r
def MW{α:Type}:List α->Bool
 |[]=>true
 |_::_=>false
def Lc(ag:Bool)(ot:Option (Ty V.ι))(vs:List (TV V.N)):Option (TV V.N):=match ag with
 |true=>some (mkV V true ot vs)
 |false=>match vs with
  |[v]=>some v
  |_=>none
variable (P:Program) (nm:Nat->Nat)
def Hh{A:Type}(t:TypeId)(ag:Bool)(sz n s i off d:Nat)(te:TypeId)(e:Ty V.ι)(xs:List (Option (den V.N e)))(y:den V.N e)(k:TE V.N->Option A):Option A:=
 if s=tsz V.sz e/\off+hO ag sz<=s then match gU V (nm d) off (((aK V e y).drop off).take (hO ag sz))with
  |(vs,os)=>match Lc V ag (V.ty t) vs,xm (os.map (·.1))with
   |some v,true=>match MW os with
    |true=>k {val:=v,acc:=[n]}
    |false=>k {val:=v,acc:=[n],upd:=(n, .pvec te e (xs.set i none))::os,new:=os.map (·.1)}
   |_,_=>none
 else none
def FZ{A:Type}(t:TypeId)(x:Operand)(dst:Option Tmp)(S:TS V.N)(k:TE V.N->Option A):Option A:=match cf P t,tev S x,dst with
 |some (ag,sz), .ep n s i off,some d=>match S.own? n with
  |some (.dvec te e ys)=>ys[i]?>>=λy=>Hh V nm t ag sz n s i off d te e (ys.map some) y k
  |some (.pvec te e xs)=>xs[i]?>>=λox=>ox>>=λy=>Hh V nm t ag sz n s i off d te e xs y k
  |_=>none
 |_,_,_=>none
def give1(S:TS V.N):Ty V.ι->TV V.N->Option (dh V.N×Option Nat)
 | .sl e, .vh n=>match S.own? n with
  |some (.vec te e' xs)=>if te=V.tid e'/\e'=e/\OB V e'=true then some (⟨.sl e',xs⟩,some n)else none
  |some (.dvec te e' ys)=>if te=V.tid e'/\e'=e then some (⟨.sl e',ys⟩,some n)else none
  |_=>none
 | .sl e, .raw (.slice none 0 0)=>some (⟨.sl e,[]⟩,none)
 | .sl _,_=>none
 |t, .lf t' x=>if t'=t then some (⟨t',x⟩,none)else none
 |_,_=>none
def uK(S:TS V.N):List (Ty V.ι)->List (TV V.N)->Option (List (dh V.N)×List (Option Nat))
 |[],[]=>some ([],[])
 |t::ts,v::vs=>match give1 V S t v,uK S ts vs with
  |some (l,n),some (ls,ns)=>some (l::ls,n::ns)
  |_,_=>none
 |_,_=>none
def Du:Ty V.ι->List (Ty V.ι)
 | .st i=>V.tys i
 |t=>[t]
def zT{A:Type}(s sz n:Nat)(e:Ty V.ι)(cs:List (TV V.N))(S:TS V.N)(k:den V.N e->List Nat->Option A):Option A:=
 if s=tsz V.sz e/\sz=s/\cs.length=s/\cs.all TV.one=true then match uK V S (Du V e) cs with
  |some (ls,ns)=>match mw V e ls with
   |some y=>match xm (fZ ns)&&nin n (fZ ns)with
    |true=>k y (fZ ns)
    |false=>none
   |none=>none
  |none=>none
 else none
def xE(S:TS V.N)(ns:List Nat):List (Nat×TO V.N):=ns.map λm=>(m, .gone (S.len m))
def yU{A:Type}(t:TypeId)(x y:Operand)(S:TS V.N)(k:TE V.N->Option A):Option A:=match cf P t,tev S x,TV.cells V (tev S y)with
 |some (_,sz), .ep n s i 0,some cs=>match S.own? n with
  |some (.dvec te e ys)=>ys[i]?>>=λ_=>zT V s sz n e cs S λy ns=>k {val:= .junk,acc:=n::ns,upd:=(n, .dvec te e (ys.set i y))::xE V S ns}
  |some (.pvec te e xs)=>xs[i]?>>=λ_=>zT V s sz n e cs S λy ns=>CX (xs.set i (some y))>>=λys=>k {val:= .junk,acc:=n::ns,upd:=(n, .dvec te e ys)::xE V S ns}
  |_=>none
 |_,_,_=>none
def yP{A:Type}(t:TypeId)(len:Nat)(parts:List (Nat×Operand))(dst:Option Tmp)(S:TS V.N)(k:TE V.N->Option A):Option A:=match parts,dst,bQ P t,V.ty t with
 |[(0,x)],some d,some (te,sz,_),some (.sl e)=>match TV.cells V (tev S x)with
  |some cs=>if len=1/\sz=tsz V.sz e/\sz<=16777216/\cs.length=sz then match uK V S (Du V e) cs with
   |some (ls,ns)=>match mw V e ls with
    |some y=>match xm (fZ ns)with
     |true=>k {val:= .vh (nm d),acc:=fZ ns,upd:=(nm d, .dvec te e [y])::xE V S (fZ ns),new:=[nm d]}
     |false=>none
    |none=>none
   |none=>none
   else none
  |none=>none
 |_,_,_,_=>none
def Ln{A:Type}(args:List (TV V.N))(tys:List TypeId)(dst:Option Tmp)(S:TS V.N)(k:TE V.N->Option A):Option A:=match args,tys,dst with
 |[x, .vh n2],[t,t'],some d=>match bQ P t,S.own? n2 with
  |some (te,sz,bytes),some (.dvec te2 e ys)=>if t=t'/\te=te2/\sz=tsz V.sz e/\bytes<=32768/\¬n2=nm d then match x with
   | .vh n=>if¬n=nm d/\¬n=n2 then match S.own? n with
     |some (.dvec te1 e1 xs)=>if h:e=e1 then
      if te1=te then
       if xs.length+ys.length<=most then k {val:= .vh (nm d),acc:=[n,n2],upd:=[(nm d, .dvec te e1 (xs++h▸ys)),(n, .gone (S.len n)),(n2, .gone (S.len n2))],new:=[nm d]}else none
      else none
      else none
     |some (.pvec te1 e1 xs)=>if h:e=e1 then
      if te1=te then
       if xs.length+ys.length<=most then k {val:= .vh (nm d),acc:=[n,n2],upd:=[(nm d, .pvec te e1 (xs++h▸ys.map some)),(n, .gone (S.len n)),(n2, .gone (S.len n2))],new:=[nm d]}else none
      else none
      else none
     |_=>none
    else none
   | .raw (.slice none 0 0)=>if ys.length<=most then k {val:= .vh (nm d),acc:=[n2],upd:=[(nm d, .dvec te e ys),(n2, .gone (S.len n2))],new:=[nm d]}else none
   |_=>none
   else none
  |_,_=>none
 |_,_,_=>none
def Lr{A:Type}(t:TypeId)(x i:Operand)(S:TS V.N)(k:TE V.N->Option A):Option A:=match bQ P t,tev S x,tev S i with
 |some (_,sz,_), .vh m, .lf (.int _) n=>match S.own? m with
  |some (.dvec _ _ xs)=>if 0<=n/\n<xs.length then k {val:= .ep m sz n.toNat 0,acc:=[m]}else none
  |some (.pvec _ _ xs)=>if 0<=n/\n<xs.length then k {val:= .ep m sz n.toNat 0,acc:=[m]}else none
  |_=>none
 |_,_,_=>none
def Lp{A:Type}(t:TypeId)(x:Operand)(lo hi mx:Option Operand)(S:TS V.N)(k:TE V.N->Option A):Option A:=match mx,bQ P t,tev S x with
 |none,some (_,sz,_), .vh n=>match S.own? n with
  |some (.vec _ e xs)=>match IR V S lo 0,IR V S hi xs.length with
   |some l,some h=>if(sz=tsz V.sz e/\0<xs.length)/\0<=l/\l<=h/\h<=xs.length then k {val:= .sv n sz l.toNat (h.toNat-l.toNat),acc:=[n]}else none
   |_,_=>none
  |_=>none
 |_,_,_=>none
def FY{A:Type}(args:List (TV V.N))(tys:List TypeId)(dst:Option Tmp)(S:TS V.N)(k:TE V.N->Option A):Option A:=match args,tys,dst with
 |[.sv n sz lo i, .sv n2 sz2 j len],[t,t'],some d=>match bQ P t,S.own? n with
  |some (te,sz',_),some (.vec te1 e xs)=>if((t=t'/\te=te1)/\(sz'=tsz V.sz e/\sz=sz')/\(sz2=sz'/\n2=n))/\(lo=0/\len=xs.length-j)/\(i<=j/\j<=xs.length)then
   k {val:= .vh (nm d),acc:=[n],upd:=[(nm d, .vec te1 e (xs.take i++xs.drop j)),(n, .gone (S.len n))],new:=[nm d]}
   else none
  |_,_=>none
 |_,_,_=>none
def m8(b:Nat):Nat->List (Ty V.ι)->List Value->List (TV V.N)×List (Nat×TO V.N)
 |j,t::ts,z::zs=>match t,z with
  | .sl e, .slice none 0 0=>(.vh (zU b j)::(m8 b (j+1) ts zs).1,(zU b j,vv V e [])::(m8 b (j+1) ts zs).2)
  |_,z=>(tvc z::(m8 b (j+1) ts zs).1,(m8 b (j+1) ts zs).2)
 |_,_,zs=>(zs.map tvc,[])
def F0{A:Type}(t:TypeId)(parts:List (Nat×Operand))(dst:Option Tmp)(k:TE V.N->Option A):Option A:=match parts,qw P t,places P t with
 |[],some z,some _=>match V.ty t,dst with
  |some (.st i),some d=>match z.all d5,m8 V d 0 (V.tys i) z with
   |true,(vs,os)=>match xm (os.map (·.1))with
    |true=>k {val:= .agg vs,acc:=[],upd:=os,new:=os.map (·.1)}
    |false=>none
   |false,_=>none
  |_,_=>none
 |_,_,_=>none
def isD:Option (TO V.N)->Bool
 |some (.dvec ..)=>true
 |some (.pvec ..)=>true
 |_=>false
def Ji(pre:Nat->Bool)(o:Oper)(S:TS V.N):Bool:=match o.op with
 | .load _ x=>match tev S x with
  | .ep n _ _ _=>isD V (S.own? n)
  |_=>false
 | .store _ x _=>match tev S x with
  | .ep n _ _ _=>isD V (S.own? n)
  |_=>false
 | .indexAddr _ x _=>match tev S x with
  | .vh n=>isD V (S.own? n)
  |_=>false
 | .buildSlice _ _ _=>match o.dst with
  |some d=>pre (1000000+d)
  |none=>false
 | .call c=>match c.callee with
  | .builtin .append=>match c.args.toList with
   |[_,y]=>match tev S y with
    | .vh n=>isD V (S.own? n)
    | .sv .. =>true
    |_=>false
   |_=>false
  |_=>false
 | .slice _ _ _ _ _=>match o.dst with
  |some d=>pre (3000000+d)
  |none=>false
 | .build _ parts=>match parts.toList,o.dst with
  |[],some d=>pre (1000000+d)
  |_,_=>false
 |_=>false
def FW{A:Type}(o:Oper)(S:TS V.N)(k:TE V.N->Option A):Option A:=match o.op with
 | .load t x=>FZ V P nm t x o.dst S k
 | .store t x y=>yU V P t x y S k
 | .indexAddr t x i=>Lr V P t x i S k
 | .buildSlice t len parts=>yP V P nm t len parts.toList o.dst S k
 | .call c=>match c.callee with
  | .builtin .append=>match c.args.toList.map (tev S)with
   |[_, .sv ..]=>FY V P nm (c.args.toList.map (tev S)) c.argTypes.toList o.dst S k
   |_=>Ln V P nm (c.args.toList.map (tev S)) c.argTypes.toList o.dst S k
  |_=>none
 | .slice t x lo hi mx=>Lp V P t x lo hi mx S k
 | .build t parts=>F0 V P t parts.toList o.dst k
 |_=>none
end
section
variable {V:mD}
theorem rK{e:Ty V.ι}(h:OB V e=true)(y:den V.N e):cy V.sz V.enc V.tid V.encd e y=(c8 V.sz V.enc e y).map .d:=by
 cases e with
 |st i=>
  simp only[cy,c8]
  rw[V.encd_cells,V.enc_cells,UC]
  refine U7 λl hl=> ?_
  have:=V.flat_cells i y h l hl
  obtain⟨t,x⟩:=l
  cases t<;>first|rfl|simp[Ty.isSl]at this
 |sl e=>simp[OB]at h
 |_=>rfl
theorem H5(e:Ty V.ι)(ys:List (den V.N e)):∃o,(∀ω,bh V ω (vv V e ys)=some o)/\OLe (.dvec (V.tid e) (tsz V.sz e) (ys.map λx=>cy V.sz V.enc V.tid V.encd e x)) o:=by
 unfold vv
 split
 ·rename_i h
  refine⟨_,λ_=>rfl,?_⟩
  have:(ys.map λx=>cy V.sz V.enc V.tid V.encd e x)=(ys.map λx=>c8 V.sz V.enc e x).map λr=>r.map .d:=by
   rw[UC]
   exact U7 λx _=>rK h x
  rw[this]
  exact OLe.d2v
 ·exact⟨_,λ_=>rfl,OLe.refl _⟩
theorem vx(e:Ty V.ι)(ys:List (den V.N e)):TO.len (some (vv V e ys))=ys.length:=by
 unfold vv
 split<;>rfl
theorem g5(e:Ty V.ι)(y:den V.N e):cy V.sz V.enc V.tid V.encd e y=(aK V e y).map λl=>fD V.sz V.enc V.tid V.encd l.t l.x:=by
 cases e with
 |st i=>simp only[cy,aK];exact V.encd_cells i y
 |sl e=>rfl
 |_=>rfl
theorem qi(b:Nat):∀(ls:List (dh V.N)) (j:Nat),∃hs os os' ds,mB (zU b) j (ls.map λl=>fD V.sz V.enc V.tid V.encd l.t l.x)=some (hs,os,ds)/\PLe os os'/\(∀ω,os'.map (λp=>(p.1,some p.2))=(gU V b j ls).2.map λp=>(p.1,bh V ω p.2))/\
 (∀ω:Nat->Nat,(∀p∈(gU V b j ls).2,ω p.1=TO.len (some p.2))->hs=encL V ω (gU V b j ls).1)/\((gU V b j ls).2=[]->os=[]/\ds=ls.map λl=>fD V.sz V.enc V.tid V.encd l.t l.x)
 |[],j=>⟨[],[],[],[],rfl, .nil,λ_=>rfl,λ_ _=>rfl,λ_=>⟨rfl,rfl⟩⟩
 |⟨t,x⟩::r,j=>by
  obtain⟨hs,os,os',ds,h1,h2,h3,h4,h5⟩:=qi b r (j+1)
  have other:∀(t:Ty V.ι) (x:den V.N t),fD V.sz V.enc V.tid V.encd t x= .d (aN V.sz V.enc t x)->gU V b j (⟨t,x⟩::r)=(.lf t x::(gU V b (j+1) r).1,(gU V b (j+1) r).2)->
   ∃hs os os' ds,mB (zU b) j ((⟨t,x⟩::r:List (dh V.N)).map λl=>fD V.sz V.enc V.tid V.encd l.t l.x)=some (hs,os,ds)/\PLe os os'/\(∀ω,os'.map (λp=>(p.1,some p.2))=(gU V b j (⟨t,x⟩::r)).2.map λp=>(p.1,bh V ω p.2))/\
  (∀ω:Nat->Nat,(∀p∈(gU V b j (⟨t,x⟩::r)).2,ω p.1=TO.len (some p.2))->hs=encL V ω (gU V b j (⟨t,x⟩::r)).1)/\
    ((gU V b j (⟨t,x⟩::r)).2=[]->os=[]/\ds=(⟨t,x⟩::r:List (dh V.N)).map λl=>fD V.sz V.enc V.tid V.encd l.t l.x):=by
    intro t x he ht
    rw[ht]
    refine⟨.d (aN V.sz V.enc t x)::hs,os,os', .d (aN V.sz V.enc t x)::ds,?_,h2,h3,λω hω=> ?_,λhn=>⟨(h5 hn).1,?_⟩⟩
    ·simp only[Ud,mB,h1,he]
    ·simp only[encL,am]
     rw[h4 ω hω]
    ·rw[Ud,(h5 hn).2,he]
  cases t with
  |sl e=>
   obtain⟨o,o1,o2⟩:=H5 (V:=V) e x
   refine⟨.vh (zU b j) x.length::hs,(zU b j, .dvec (V.tid e) (tsz V.sz e) (x.map λy=>cy V.sz V.enc V.tid V.encd e y))::os,(zU b j,o)::os', .junk::ds,?_, .cons o2 h2,λω=> ?_,λω hω=> ?_,λhn=> ?_⟩
   ·simp only[Ud,mB,h1]
    simp only[fD,Ub]
   ·simp only[gU,Ud,h3 ω,o1]
   ·simp only[gU,encL,am]at hω⊢
    have:=hω _ T_
    simp only at this
    rw[this,vx,h4 ω λp hp=>hω p (T6 _ hp)]
   ·simp only[gU]at hn;cases hn
  |int k=>exact other _ x rfl rfl
  |bool=>exact other _ x rfl rfl
  |str=>exact other _ x rfl rfl
  |st i=>exact other _ x rfl rfl
  |mp k v=>exact other _ x rfl rfl
  |er=>exact other _ x rfl rfl
  |op e=>exact other _ x rfl rfl
  |fnc=>exact other _ x rfl rfl
theorem xW{n:Nat}:∀{l:List Nat},nin n l=true->n∉l
 |[],_=>by simp
 |k::r,h=>by
  simp only[nin,Uf,VL]at h
  intro hm
  rcases Uh.1 hm with q|q
  ·subst q;simp at h
  ·exact xW h.2 q
theorem fC:∀{l:List Nat},xm l=true->l.Nodup
 |[],_=> .nil
 |a::r,h=>by
  simp only[xm,Uf]at h
  exact Vc.2 ⟨xW h.1,fC h.2⟩
theorem kh{e:Ty V.ι}{ls:List (dh V.N)}{y:den V.N e}(h:mw V e ls=some y):aK V e y=ls:=by
 have single:∀(t:Ty V.ι) (y:den V.N t) (l:dh V.N),(if h:l.t=t then some (h▸l.x:den V.N t)else none)=some y->[(⟨t,y⟩:dh V.N)]=[l]:=by
  intro t y l h
  split at h
  ·rename_i ht
   obtain⟨lt,lx⟩:=l
   simp only at ht;subst ht
   simp only[T9]at h
   subst h;rfl
  ·cases h
 cases e with
 |st i=>exact V.of_cells _ _ _ h
 |_=>
  cases ls with
  |nil=>simp[mw]at h
  |cons l r=>
   cases r with
   |nil=>exact single _ y l h
   |cons a b=>simp[mw]at h
theorem xD{S:TS V.N}{t:Ty V.ι}{v:TV V.N}{l:dh V.N}{n:Option Nat}(h:give1 V S t v=some (l,n)):kp (aG V S).own? (am V S.len v) (fD V.sz V.enc V.tid V.encd l.t l.x) n:=by
 unfold give1 at h
 split at h
 ·rename_i e n'
  split at h
  ·rename_i te e' xs hn
   have h':=ao h;clear h
   obtain⟨⟨h1,h2,hf⟩,h⟩:=h'
   subst h1;subst h2
   simp only[T9,Uy]at h
   obtain⟨rfl,rfl⟩:=h
   have:=kp.v (ω:=(aG V S).own?) n' (V.tid e') (tsz V.sz e') _ (fR hn)
   simp only[am,hI hn,fD]
   rw[Ub]at this
   have he:(xs.map λx=>cy V.sz V.enc V.tid V.encd e' x)=(xs.map λx=>c8 V.sz V.enc e' x).map λr=>r.map .d:=by
    rw[UC]
    exact U7 λx _=>rK hf x
   rw[he];exact this
  ·rename_i te e' ys hn
   have h':=ao h;clear h
   obtain⟨⟨h1,h2⟩,h⟩:=h'
   subst h1;subst h2
   simp only[T9,Uy]at h
   obtain⟨rfl,rfl⟩:=h
   have:=kp.dv (ω:=(aG V S).own?) n' (V.tid e') (tsz V.sz e') _ (iu hn)
   have hl:S.len n'=ys.length:=by unfold TS.len;rw[hn];rfl
   simp only[am,hl,fD]
   rw[Ub]at this
   exact this
  ·cases h
 ·rename_i e
  simp only[T9,Uy]at h
  obtain⟨rfl,rfl⟩:=h
  exact .nil _ _
 ·cases h
 ·rename_i t' x hne
  have h':=ao h;clear h
  obtain⟨h1,h⟩:=h'
  subst h1
  simp only[T9,Uy]at h
  obtain⟨rfl,rfl⟩:=h
  have:fD V.sz V.enc V.tid V.encd t' x= .d (aN V.sz V.enc t' x):=by
   cases t'<;>first|rfl|simp_all
  rw[this]
  exact .d _
 ·cases h
theorem kV{S:TS V.N}:∀{ts:List (Ty V.ι)} {vs:List (TV V.N)} {ls:List (dh V.N)} {ns:List (Option Nat)},uK V S ts vs=some (ls,ns)->
 ∃l:List (H×DD×Option Nat),(l.map λp=>p.1)=encL V S.len vs/\(l.map λp=>p.2.1)=(ls.map λl=>fD V.sz V.enc V.tid V.encd l.t l.x)/\(l.map λp=>p.2.2)=ns/\∀p∈l,kp (aG V S).own? p.1 p.2.1 p.2.2
 |[],[],ls,ns,h=>by
  simp only[uK,T9,Uy]at h
  obtain⟨rfl,rfl⟩:=h
  exact⟨[],rfl,rfl,rfl,λp hp=>by cases hp⟩
 |[],_::_,ls,ns,h=>by simp[uK]at h
 |_::_,[],ls,ns,h=>by simp[uK]at h
 |t::ts,v::vs,ls,ns,h=>by
  simp only[uK]at h
  split at h
  ·rename_i l n ls' ns' h1 h2
   simp only[T9,Uy]at h
   obtain⟨rfl,rfl⟩:=h
   obtain⟨L,a1,a2,a3,a4⟩:=kV h2
   refine⟨(am V S.len v,fD V.sz V.enc V.tid V.encd l.t l.x,n)::L,by simp[encL,a1],by simp[a2],by simp[a3],λp hp=> ?_⟩
   rcases Uh.1 hp with q|q
   ·subst q;exact xD h1
   ·exact a4 p q
  ·cases h
theorem DA{l:dh V.N}(h:l.t.cell=true):DD.one (fD V.sz V.enc V.tid V.encd l.t l.x)=true:=by
 obtain⟨t,x⟩:=l
 have:=oU (l:=⟨t,x⟩) h
 cases t<;>first|rfl|(simp[Ty.cell]at h;done)|simpa[fD,DD.one,H.one]using this
theorem DB(e:Ty V.ι)(y:den V.N e):(cy V.sz V.enc V.tid V.encd e y).all DD.one=true:=by
 rw[g5,VD,Uj]
 exactλl hl=>DA (pU e y l hl)
theorem dlen{S:TS V.N}{n:Nat}{te:TypeId}{e:Ty V.ι}{xs:List (den V.N e)}(h:S.own? n=some (.dvec te e xs)):S.len n=xs.length:=by unfold TS.len;rw[h];rfl
theorem OC{S:TS V.N}{n:Nat}{te:TypeId}{e:Ty V.ι}{xs:List (Option (den V.N e))}(h:S.own? n=some (.pvec te e xs)):S.len n=xs.length:=by unfold TS.len;rw[h];rfl
theorem fT{e:Ty V.ι}(ys:List (den V.N e)):((ys.map some).map λx=>qV V e x)=ys.map λx=>cy V.sz V.enc V.tid V.encd e x:=by
 rw[UC];rfl
theorem uM{S:TS V.N}{ns:List Nat}{m:Nat}{o:TO V.N}(h:gt (xE V S ns) m=some o):TO.len (some o)=S.len m:=by
 obtain⟨k,_,hk⟩:=Us.1 (ba h)
 simp only[Uy]at hk
 obtain⟨rfl,rfl⟩:=hk
 rfl
theorem uL(ω:Nat->Nat)(S:TS V.N)(ns:List Nat):(xE V S ns).map (λp=>(p.1,bh V ω p.2))=ns.map λn=>(n,none):=by
 unfold xE
 rw[UC]
 rfl
theorem sD{α:Type}:∀{l:List (Nat×α)} {n:Nat} {x:α},(l.map (·.1)).Nodup->(n,x)∈l->gt l n=some x
 |[],_,_,_,h=>by cases h
 |(k,y)::r,n,x,hn,h=>by
  rw[Ud,Vc]at hn
  rw[ah]
  rcases Uh.1 h with q|q
  ·cases q;rw[XG rfl]
  ·rw[XF λe=>hn.1 (by rw[e];exact Us.2 ⟨_,q,rfl⟩)]
   exact sD hn.2 q
theorem pk{α:Type}{l:List (Nat×α)}{n:Nat}{x:α}(h:(n,x)∈l):n∈l.map (·.1):=Us.2 ⟨_,h,rfl⟩
section
variable {P:Program} {nm:Nat->Nat} {o:Oper} {S:TS V.N} {A:Type} {k:TE V.N->Option A} {r:A}
def OpD(P:Program)(nm:Nat->Nat)(o:Oper)(S:TS V.N)(k:TE V.N->Option A)(r:A):Prop:=
 ∃te,k te=some r/\good S te/\∃e',re P nm o (Go.Awp.ev (aG V S)) (aG V S).own? e'/\ELe true e' (gm (S.app o.dst te).len te)
theorem zq{t:TypeId}{x:Operand}{ag:Bool}{sz n s i off d:Nat}{te:TypeId}{e:Ty V.ι}{xs:List (Option (den V.N e))}{y:den V.N e}(hf:∀te,k te=some r->∀d∈te.new,S.fresh d=true)(ho:o.op= .load t x)(hdst:o.dst=some d)
 (ht:cf P t=some (ag,sz))(hx:tev S x= .ep n s i off)(hn:(aG V S).own? n=some (.dvec te (tsz V.sz e) (xs.map λx=>qV V e x)))(hsome:S.own? n≠none)(hln:S.len n=xs.length)(hox:xs[i]?=some (some y))
 (h:Hh V nm t ag sz n s i off d te e xs y k=some r):OpD P nm o S k r:=by
 unfold Hh at h
 have h':=ao h;clear h
 obtain⟨⟨hse,hfit⟩,h⟩:=h'
 generalize hT:gU V (nm d) off (((aK V e y).drop off).take (hO ag sz))=T at h
 obtain⟨vs,os⟩:=T
 simp only at h
 obtain⟨hh,hos,hos',ds,b1,b2,b3,b4,b5⟩:=qi (V:=V) (nm d) (((aK V e y).drop off).take (hO ag sz)) off
 rw[hT]at b3 b4 b5
 simp only at b3 b4 b5
 have hrl:=fv e y
 let all:=(aK V e y).map λl=>fD V.sz V.enc V.tid V.encd l.t l.x
 have hrow:(xs.map λx=>qV V e x)[i]?=some all:=by
  rw[Ua,hox]
  simp only[Uw,qV,all]
  rw[g5]
 have hmid:(all.drop off).take (hO ag sz)=(((aK V e y).drop off).take (hO ag sz)).map λl=>fD V.sz V.enc V.tid V.encd l.t l.x:=by
  simp only[all,VO,VN]
 have hal:all.length=s:=by simp only[all];rw[Ub,hrl,hse]
 have hsn:(aG V S).own? n=some (.dvec te s (xs.map λx=>qV V e x)):=by rw[hn,hse]
 have hxe:Go.Awp.ev (aG V S) x= .ep n s i off:=by rw[au,hx];rfl
 have hnames:os.map (·.1)=hos'.map (·.1):=by
  have:=congrArg (VC (·.1)) (b3 λ_=>0)
  rw[UC,UC]at this
  exact this.symm
 split at h
 ·rename_i v hv hdi
  have hdi:=fC hdi
  have hval:∀ω:Nat->Nat,hh=encL V ω vs->(ag=true/\am V ω v=cR hh\/ag=false/\hh=[am V ω v]):=by
   intro ω hω
   cases ag with
   |true=>
    simp only[Lc,T9]at hv
    subst hv
    exact .inl ⟨rfl,by rw[hω];exact(jc.2 rfl).symm⟩
   |false=>
    simp only[Lc]at hv
    split at hv
    ·rename_i v0
     cases hv
     exact .inr ⟨rfl,by rw[hω];rfl⟩
    ·cases hv
  cases hni:MW os with
  |true=>
   rw[hni]at h
   simp only at h
   have hos0:os=[]:=by cases os with|nil=>rfl|cons a b=>cases hni
   subst hos0
   obtain⟨q1,q2⟩:=b5 rfl
   subst q1
   rw[<-hmid]at q2
   subst q2
   refine⟨_,h,gd S v [n],_, .load0 (val:=am V S.len v) ho hdst ht hxe hsn hrow hal hfit (by rw[<-hmid]at b1;exact b1) (hval _ (b4 _ λp hp=>by cases hp)),oT rfl⟩
  |false=>
   rw[hni]at h
   simp only at h
   have hfr:=hf _ h
   have hlen:∀p∈os,(S.app o.dst {val:=v,acc:=[n],upd:=(n, .pvec te e (xs.set i none))::os,new:=os.map (·.1)}).len p.1=TO.len (some p.2):=by
    intro p hp
    rw[cD]
    have hpn:n≠p.1:=λe1=>by
     have:=hfr p.1 (Uq hp)
     unfold TS.fresh at this
     simp only[Uf]at this
     have h9:=this.1.1
     rw[<-e1]at h9
     cases hq:S.own? n with
     |none=>exact hsome hq
     |some o9=>rw[hq]at h9;cases h9
    simp only[ah,XF hpn]
    have:gt os p.1=some p.2:=sD hdi hp
    rw[this]
   refine⟨_,h,λm p hm=> ?_,_, .load (val:=am V (S.app o.dst {val:=v,acc:=[n],upd:=(n, .pvec te e (xs.set i none))::os,new:=os.map (·.1)}).len v) ho hdst ht hxe hsn hrow hal hfit (by rw[<-hmid]at b1;exact b1) (hval _ (b4 _ hlen)) b2 (by rw[<-hnames];exact hdi),
    bS rfl hnames.symm ?_ rfl⟩
   ·simp only[ah]at hm
    by_cases hnm:n=m
    ·subst hnm
     rw[XG rfl]at hm;cases hm
     right;rw[hln];simp[TO.len]
    ·rw[XF hnm]at hm
     exact .inl (pk (ba hm))
   ·rw[Ud]
    refine congr (congrArg List.cons ?_) (b3 _)
    simp only[bh,V9,qV,hse]
 ·cases h
theorem Ip{t:TypeId}{x:Operand}(hf:∀te,k te=some r->∀d∈te.new,S.fresh d=true)(ho:o.op= .load t x)(h:FZ V P nm t x o.dst S k=some r):OpD P nm o S k r:=by
 unfold FZ at h
 split at h
 ·rename_i ag sz n s i off d ht hx hdst
  split at h
  ·rename_i te e ys hn
   obtain⟨y,hy,h2⟩:=bA h
   exact zq hf ho hdst ht hx (by rw[fT];exact iu hn) (by rw[hn];simp) (by rw[dlen hn,Ub]) (by rw[Ua,hy];rfl) h2
  ·rename_i te e xs hn
   obtain⟨ox,hox,h2⟩:=bA h
   obtain⟨y,hy,h3⟩:=bA h2
   exact zq hf ho hdst ht hx (ou hn) (by rw[hn];simp) (OC hn) (by rw[hox,hy]) h3
  ·cases h
 ·cases h
theorem vL{t:TypeId}{x y:Operand}{ag:Bool}{sz n s i:Nat}{te:TypeId}{e:Ty V.ι}{xs:List (Option (den V.N e))}{ox:Option (den V.N e)}{cs:List (TV V.N)}{f:den V.N e->List Nat->Option A}(ho:o.op= .store t x y)
 (ht:cf P t=some (ag,sz))(hx:tev S x= .ep n s i 0)(hcs:TV.cells V (tev S y)=some cs)(hn:(aG V S).own? n=some (.dvec te (tsz V.sz e) (xs.map λx=>qV V e x)))(hox:xs[i]?=some ox)
 (h:zT V s sz n e cs S f=some r):∃y' ns,f y' ns=some r/\re P nm o (Go.Awp.ev (aG V S)) (aG V S).own? {val:= .junk,acc:=n::ns,upd:=(n,some (.dvec te (tsz V.sz e) ((xs.set i (some y')).map λx=>qV V e x)))::ns.map λm=>(m,none)}:=by
 unfold zT at h
 have h':=ao h;clear h
 obtain⟨⟨hse,hss,hcl,hone⟩,h⟩:=h'
 rw[hss]at ht
 split at h
 ·rename_i ls ns hg
  split at h
  ·rename_i y' hy'
   split at h
   ·rename_i hdi
    rw[Uf]at hdi
    obtain⟨l,l1,l2,l3,l4⟩:=kV hg
    have hrc:=kh hy'
    have hll:l.length=s:=by
     have:=congrArg V5 l1
     rw[Ub,aF]at this;omega
    have hrow:(xs.map λx=>qV V e x)[i]?=some (qV V e ox):=by rw[Ua,hox];rfl
    refine⟨y',fZ ns,h,?_⟩
    have:=re.store (ρ:=Go.Awp.ev (aG V S)) (ω:=(aG V S).own?) (nm:=nm) (l:=l) ho ht (by rw[au,hx];rfl) (by rw[hn,hse]) hrow (by rw[au,l1];exact dd hcs) hll (by rw[l1];exact eW hone) l4 (by rw[l3];exact fC hdi.1) (by rw[l3];exact xW hdi.2)
    rw[l2,l3]at this
    have hq:qV V e (some y')=ls.map λl=>fD V.sz V.enc V.tid V.encd l.t l.x:=by
     simp only[qV]
     rw[g5,hrc]
    rw[V9,hq,<-hse]
    exact this
   ·cases h
  ·cases h
 ·cases h
theorem F7{t:TypeId}{x y:Operand}(ho:o.op= .store t x y)(h:yU V P t x y S k=some r):OpD P nm o S k r:=by
 have fin:∀(n:Nat) (te:TypeId) (e:Ty V.ι) (ys:List (den V.N e)) (ns:List Nat),S.len n=ys.length->k {val:= .junk,acc:=n::ns,upd:=(n, .dvec te e ys)::xE V S ns}=some r->
  re P nm o (Go.Awp.ev (aG V S)) (aG V S).own? {val:= .junk,acc:=n::ns,upd:=(n,some (.dvec te (tsz V.sz e) (ys.map λx=>cy V.sz V.enc V.tid V.encd e x)))::ns.map λm=>(m,none)}->OpD P nm o S k r:=by
  intro n te e ys ns hl h hs'
  refine⟨_,h,λm p hm=> ?_,_,hs',bS rfl rfl ?_ rfl⟩
  ·simp only[ah]at hm
   by_cases hnm:n=m
   ·subst hnm
    rw[XG rfl]at hm;cases hm
    right;rw[hl];rfl
   ·rw[XF hnm]at hm
    exact .inr (uM hm)
  ·rw[Ud,uL];rfl
 unfold yU at h
 split at h
 ·rename_i ag sz n s i cs ht hx hcs
  split at h
  ·rename_i te e ys hn
   obtain⟨y0,hy0,h2⟩:=bA h
   obtain⟨y',ns,h3,h4⟩:=vL (nm:=nm) (xs:=ys.map some) ho ht hx hcs (by rw[fT];exact iu hn) (by rw[Ua,hy0];rfl) h2
   refine fin n te e _ ns (by rw[dlen hn,Ve]) h3 ?_
   rw[<-fT,V9]
   exact h4
  ·rename_i te e xs hn
   obtain⟨ox,hox,h2⟩:=bA h
   obtain⟨y',ns,h3,h4⟩:=vL (nm:=nm) ho ht hx hcs (ou hn) hox h2
   obtain⟨ys,hys,h5⟩:=bA h3
   have hq:=CY hys
   refine fin n te e ys ns ?_ h5 ?_
   ·rw[OC hn]
    have:=congrArg V5 hq
    rw[Ve,Ub]at this;exact this
   ·rw[<-fT,<-hq];exact h4
  ·cases h
 ·cases h
theorem FV{t:TypeId}{len:Nat}{parts:Array (Nat×Operand)}(ho:o.op= .buildSlice t len parts)(h:yP V P nm t len parts.toList o.dst S k=some r):OpD P nm o S k r:=by
 unfold yP at h
 split at h
 ·rename_i x d te sz by_ e hparts hdst ht hty
  split at h
  ·rename_i cs hcs
   have h':=ao h;clear h
   obtain⟨⟨h0,hse,hsm,hcl⟩,h⟩:=h'
   subst h0
   split at h
   ·rename_i ls ns hg
    split at h
    ·rename_i y' hy'
     split at h
     ·rename_i hdi
      obtain⟨l,l1,l2,l3,l4⟩:=kV hg
      have hrc:=kh hy'
      have hll:l.length=sz:=by
       have:=congrArg V5 l1
       rw[Ub,aF]at this;omega
      have hpa:parts= #[(0,x)]:=by rw[<-VK];exact hparts
      subst hpa
      have:=re.build (ρ:=Go.Awp.ev (aG V S)) (ω:=(aG V S).own?) (nm:=nm) (l:=l) ho hdst ht hsm (by rw[au,l1];exact dd hcs) hll l4 (by rw[l3];exact fC hdi)
      rw[l2,l3]at this
      refine⟨_,h,λm p hm=> ?_,_,this,bS ?_ rfl ?_ rfl⟩
      ·simp only[ah]at hm
       by_cases hnm:nm d=m
       ·left;simp[hnm]
       ·rw[XF hnm]at hm
        exact .inr (uM hm)
      ·simp only[am]
       rw[cD]
       simp only[ah,XC]
       rfl
      ·rw[Ud,uL]
       have hq:cy V.sz V.enc V.tid V.encd e y'=ls.map λl=>fD V.sz V.enc V.tid V.encd l.t l.x:=by
        rw[g5,hrc]
       simp only[bh,Ud,UL]
       rw[hq,hse]
     ·cases h
    ·cases h
   ·cases h
  ·cases h
 ·cases h
theorem Ls{t:TypeId}{x i:Operand}(ho:o.op= .indexAddr t x i)(h:Lr V P t x i S k=some r):OpD P nm o S k r:=by
 unfold Lr at h
 split at h
 ·rename_i te sz by_ m kk n ht hx hi
  split at h
  ·rename_i te' e' xs hm
   have h':=ao h;clear h
   obtain⟨⟨h0,h1⟩,h⟩:=h'
   exact⟨_,h,gd S _ _,_, .index ho ht (by rw[au,hx];rfl) (by rw[au,hi];rfl) (iu hm) h0 (by rw[dlen hm];exact h1),oT rfl⟩
  ·rename_i te' e' xs hm
   have h':=ao h;clear h
   obtain⟨⟨h0,h1⟩,h⟩:=h'
   exact⟨_,h,gd S _ _,_, .index ho ht (by rw[au,hx];rfl) (by rw[au,hi];rfl) (ou hm) h0 (by rw[OC hm];exact h1),oT rfl⟩
  ·cases h
 ·cases h
theorem Lo{c:Call}(ho:o.op= .call c)(hc:c.callee= .builtin .append)(h:Ln V P nm (c.args.toList.map (tev S)) c.argTypes.toList o.dst S k=some r):OpD P nm o S k r:=by
 unfold Ln at h
 split at h
 ·rename_i x n2 t t' d hargs htys hdst
  split at h
  ·rename_i te sz bytes te2 e ys ht hn2
   have h':=ao h;clear h
   obtain⟨⟨h1,h2,hse,hby,hnd⟩,h⟩:=h'
   subst h1;subst h2
   obtain⟨p,q,hpq,hpx,hqx⟩:∃p q,c.args.toList=[p,q]/\tev S p=x/\tev S q= .vh n2:=by
    match hcl:c.args.toList,hargs with
    |[p,q],hargs=>simp at hargs;exact⟨p,q,rfl,hargs.1,hargs.2⟩
    |[],hargs=>simp at hargs
    |[_],hargs=>simp at hargs
    |_::_::_::_,hargs=>simp at hargs
   have hca:c.args= #[p,q]:=by rw[<-VK];exact hpq
   have hct:c.argTypes= #[t,t]:=by rw[<-VK];exact htys
   have hqe:Go.Awp.ev (aG V S) q= .vh n2 (ys.map λx=>cy V.sz V.enc V.tid V.encd e x).length:=by
    rw[au,hqx];simp only[am];rw[dlen hn2];simp
   have hone:(ys.map λx=>cy V.sz V.enc V.tid V.encd e x).flatten.all DD.one=true:=by
    rw[List.all_flatten,VD,Uj]
    intro y _
    exact DB e y
   have hown2:(aG V S).own? n2=some (.dvec te sz (ys.map λx=>cy V.sz V.enc V.tid V.encd e x)):=by rw[iu hn2,hse]
   have good2:∀(n:Nat) (o1:TO V.N) (m:Nat) (p:TO V.N),gt [(nm d,o1),(n, .gone (S.len n)),(n2, .gone (S.len n2))] m=some p->m∈[nm d]\/TO.len (some p)=S.len m:=by
    intro n o1 m p hm
    simp only[ah]at hm
    by_cases e1:nm d=m
    ·left;simp[e1]
    ·rw[XF e1]at hm
     right
     by_cases e2:n=m
     ·rw[XG e2]at hm;cases hm;subst e2;rfl
     ·rw[XF e2]at hm
      by_cases e3:n2=m
      ·rw[XG e3]at hm;cases hm;subst e3;rfl
      ·rw[XF e3]at hm;simp[gt]at hm
   have two:∀(n:Nat) (xs:List (Option (den V.N e))) (o1:TO V.N),tev S p= .vh n->¬n=n2->S.len n=xs.length->(aG V S).own? n=some (.dvec te sz (xs.map λx=>qV V e x))->TO.len (some o1)=xs.length+ys.length->
    (∀ω,bh V ω o1=some (.dvec te sz ((xs.map λx=>qV V e x)++ys.map λx=>cy V.sz V.enc V.tid V.encd e x)))->
    (if xs.length+ys.length<=most then k {val:= .vh (nm d),acc:=[n,n2],upd:=[(nm d,o1),(n, .gone (S.len n)),(n2, .gone (S.len n2))],new:=[nm d]}else none)=some r->OpD P nm o S k r:=by
    intro n xs o1 hp hn12 hln hown hlo henc h
    have h':=ao h;clear h
    obtain⟨hle,h⟩:=h'
    have hby':((xs.map λx=>qV V e x).length+(ys.map λx=>cy V.sz V.enc V.tid V.encd e x).length) *bytes<=140737488355328:=by
     simp only[Ub,most]at hle⊢
     have:(xs.length+ys.length) *bytes<=4294967296 *32768:=WN hle hby
     omega
    refine⟨_,h,λm p hm=>good2 n o1 m p hm,_, .append (nm:=nm) (rows:=xs.map λx=>qV V e x) (ns:=[n,n2]) ho hc hca hct hdst ht (.inl ⟨n,by rw[au,hp];simp only[am];rw[hln];simp,hown,hn12,rfl⟩) hqe hown2 hone hby' (by simp only[Ub,most]at hle⊢;omega),bS ?_ rfl ?_ rfl⟩
    ·simp only[am]
     rw[cD]
     simp only[ah,XC]
     rw[hlo,Ub,Ub]
    ·simp only[Ud,UL,henc]
     rfl
   split at h
   ·rename_i n
    have h':=ao h;clear h
    obtain⟨⟨hnn,hn12⟩,h⟩:=h'
    split at h
    ·rename_i te1 e1 xs hn
     split at h
     ·rename_i he
      subst he
      have h':=ao h;clear h
      obtain⟨h3,h⟩:=h'
      subst h3
      refine two n (xs.map some) (.dvec te1 e (xs++ys)) hpx hn12 (by rw[dlen hn,Ub]) (by rw[fT,iu hn,hse]) (by simp[TO.len]) (λω=> ?_) (by rw[Ub];exact h)
      simp only[bh,UV]
      rw[fT,hse]
     ·cases h
    ·rename_i te1 e1 xs hn
     split at h
     ·rename_i he
      subst he
      have h':=ao h;clear h
      obtain⟨h3,h⟩:=h'
      subst h3
      refine two n xs (.pvec te1 e (xs++ys.map some)) hpx hn12 (OC hn) (by rw[ou hn,hse]) (by simp[TO.len]) (λω=> ?_) h
      simp only[bh,UV]
      rw[fT,hse]
     ·cases h
    ·cases h
   ·have h':=ao h;clear h
    obtain⟨hle,h⟩:=h'
    have hby':(([]:List (List DD)).length+(ys.map λx=>cy V.sz V.enc V.tid V.encd e x).length) *bytes<=140737488355328:=by
     simp only[Ub,Uv,most]at hle⊢
     have:ys.length *bytes<=4294967296 *32768:=WN hle hby
     rw[UG];omega
    refine⟨_,h,λm p hm=> ?_,_, .append (nm:=nm) (rows:=[]) (ns:=[n2]) ho hc hca hct hdst ht (.inr ⟨by rw[au,hpx];rfl,rfl,rfl⟩) hqe hown2 hone hby' (by simp only[Ub,Uv,most]at hle⊢;omega),bS ?_ rfl ?_ rfl⟩
    ·simp only[ah]at hm
     by_cases e1:nm d=m
     ·left;simp[e1]
     ·rw[XF e1]at hm
      right
      by_cases e3:n2=m
      ·rw[XG e3]at hm;cases hm;subst e3;rfl
      ·rw[XF e3]at hm;simp[gt]at hm
    ·simp only[am]
     rw[cD]
     simp only[ah,XC,TO.len,Ub,Uv,UG]
    ·simp only[Ud,UL,bh,UK,hse]
   ·cases h
  ·cases h
 ·cases h
theorem Lq{t:TypeId}{x:Operand}{lo hi mx:Option Operand}(ho:o.op= .slice t x lo hi mx)(h:Lp V P t x lo hi mx S k=some r):OpD P nm o S k r:=by
 unfold Lp at h
 split at h
 ·rename_i te sz by_ n ht hx
  split at h
  ·rename_i te1 e xs hn
   split at h
   ·rename_i l u hl hu
    have h':=ao h;clear h
    obtain⟨⟨⟨hse,hpos⟩,h0,h1,h2⟩,h⟩:=h'
    have hlen:S.len n=xs.length:=by unfold TS.len;rw[hn];rfl
    refine⟨_,h,gd S _ _,_, .cut (rows:=xs.map λx=>c8 V.sz V.enc e x) (e:=te1) ho ht (by rw[au,hx];simp only[am];rw[hlen,Ub]) (by rw[fR hn,hse]) (λe0=> ?_) (gv hl) (by rw[Ub];exact gv hu) h0 h1 (by rw[Ub];exact h2),oT rfl⟩
    have:=congrArg V5 e0
    rw[Ub,Uv]at this
    omega
   ·cases h
  ·cases h
 ·cases h
theorem Im{c:Call}(ho:o.op= .call c)(hc:c.callee= .builtin .append)(h:FY V P nm (c.args.toList.map (tev S)) c.argTypes.toList o.dst S k=some r):OpD P nm o S k r:=by
 unfold FY at h
 split at h
 ·rename_i n sz lo i n2 sz2 j len t t' d hargs htys hdst
  split at h
  ·rename_i te sz' by_ te1 e xs ht hn
   have h':=ao h;clear h
   obtain⟨⟨⟨e1,e2⟩,⟨e3,e4⟩,e5,e6⟩,⟨e7,e8⟩,e9,e10⟩:=h'.1
   have h:=h'.2
   subst e1;subst e2;subst e4;subst e5;subst e6;subst e7;subst e8
   obtain⟨p,q,hpq,hpx,hqx⟩:∃p q,c.args.toList=[p,q]/\tev S p= .sv n2 sz2 0 i/\tev S q= .sv n2 sz2 j (xs.length-j):=by
    match hcl:c.args.toList,hargs with
    |[p,q],hargs=>simp at hargs;exact⟨p,q,rfl,hargs.1,hargs.2⟩
    |[],hargs=>simp at hargs
    |[_],hargs=>simp at hargs
    |_::_::_::_,hargs=>simp at hargs
   have hca:c.args= #[p,q]:=by rw[<-VK];exact hpq
   have hct:c.argTypes= #[t,t]:=by rw[<-VK];exact htys
   have hone:(xs.map λx=>c8 V.sz V.enc e x).all (λr=>r.all D.one)=true:=by
    rw[VD,Uj]
    intro y _
    exact Fo
   refine⟨_,h,λm o1 hm=> ?_,_, .join (nm:=nm) (rows:=xs.map λx=>c8 V.sz V.enc e x) (m:=n2) (i:=i) (j:=j) ho hc hca hct hdst ht (by rw[au,hpx];rfl) (by rw[au,hqx];simp only[am,Ub]) (by rw[fR hn,e3]) e9 (by rw[Ub];exact e10) hone,bS ?_ rfl ?_ rfl⟩
   ·simp only[ah]at hm
    by_cases q1:nm d=m
    ·left;simp[q1]
    ·rw[XF q1]at hm
     right
     by_cases q2:n2=m
     ·rw[XG q2]at hm;cases hm;subst q2;rfl
     ·rw[XF q2]at hm;simp[gt]at hm
   ·simp only[am]
    rw[cD]
    simp only[ah,XC,TO.len,Uc,UY,UR,Ub]
    rw[Xb (by omega)]
   ·simp only[Ud,UL,bh,UV,VN,VO,e3]
  ·cases h
 ·cases h
theorem IB{ω:Nat->Nat}{z:List Value}(hz:z.all d5=true):yX z (encL V ω (z.map tvc)) []:=by
 rw[jX hz]
 induction z with
 |nil=>exact .nil
 |cons x z ih=>exact .keep x (ih (by simp only[Vi,Uf]at hz;exact hz.2))
theorem Fc(e:Ty V.ι)(ω:Nat->Nat):∃o,bh V ω (vv V e [])=some o/\∃a s,o= .vec a s []\/o= .dvec a s []:=by
 unfold vv
 split
 ·exact⟨_,rfl,V.tid e,_, .inl rfl⟩
 ·exact⟨_,rfl,V.tid e,_, .inr rfl⟩
theorem lp(b:Nat)(ω:Nat->Nat):∀(z:List Value) (ts:List (Ty V.ι)) (j:Nat),z.all d5=true->(∀p∈(m8 V b j ts z).2,ω p.1=0)->
 ∃os,yX z (encL V ω (m8 V b j ts z).1) os/\os.map (λp=>(p.1,some p.2))=(m8 V b j ts z).2.map (λp=>(p.1,bh V ω p.2))
 |[],ts,j,hz,_=>by
  cases ts<;>exact⟨[], .nil,rfl⟩
 |x::z,[],j,hz,_=>⟨[],by simp only[m8];exact IB hz,rfl⟩
 |x::z,t::ts,j,hz,hω=>by
  have hz2:d5 x=true/\z.all d5=true:=by simpa only[Vi,Uf]using hz
  unfold m8 at hω⊢
  split
  ·rename_i e
   obtain⟨os,h1,h2⟩:=lp b ω z ts (j+1) hz2.2 λp hp=>hω p (T6 _ hp)
   obtain⟨o,o1,a,s,o2⟩:=Fc (V:=V) e ω
   refine⟨(zU b j,o)::os,?_,by simp only[Ud,h2,o1]⟩
   simp only[encL,am]
   have:=hω _ T_
   simp only at this
   rw[this]
   exact .new _ a s o o2 h1
  ·rename_i hno
   have hω':∀p∈(m8 V b (j+1) ts z).2,ω p.1=0:=by
    intro p hp
    refine hω p ?_
    split
    ·exact T6 _ hp
    ·exact hp
   obtain⟨os,h1,h2⟩:=lp b ω z ts (j+1) hz2.2 hω'
   refine⟨os,?_,h2⟩
   simp only[encL]
   have:am V ω (tvc x)= .d (.v x):=by
    have:=jX (V:=V) (ω:=ω) (z:=[x]) (by simp[hz2.1])
    simpa[encL]using this
   rw[this]
   exact .keep x h1
theorem pK(b:Nat):∀(z:List Value) (ts:List (Ty V.ι)) (j:Nat),∀p∈(m8 V b j ts z).2,TO.len (some p.2)=0
 |[],ts,j,p,hp=>by cases ts<;>cases hp
 |x::z,[],j,p,hp=>by cases hp
 |x::z,t::ts,j,p,hp=>by
  unfold m8 at hp
  split at hp
  ·rcases Uh.1 hp with rfl|hp
   ·exact vx _ _
   ·exact pK b z ts (j+1) p hp
  ·exact pK b z ts (j+1) p hp
theorem Ir{t:TypeId}{parts:Array (Nat×Operand)}(ho:o.op= .build t parts)(h:F0 V P t parts.toList o.dst k=some r):OpD P nm o S k r:=by
 unfold F0 at h
 split at h
 ·rename_i z pl hparts hz hpl
  have hpa:parts= #[]:=by rw[<-VK];exact hparts
  subst hpa
  split at h
  ·rename_i i d hty hdst
   split at h
   ·rename_i vs os hall hT
    split at h
    ·rename_i hdi
     have hdi:=fC hdi
     have hlen:∀p∈os,(S.app o.dst {val:= .agg vs,acc:=[],upd:=os,new:=os.map (·.1)}).len p.1=0:=by
      intro p hp
      rw[cD]
      have:gt os p.1=some p.2:=sD hdi hp
      simp only[this]
      have h9:=pK (V:=V) d z (V.tys i) 0
      rw[hT]at h9
      exact h9 p hp
     obtain⟨os',h1,h2⟩:=lp (V:=V) d (S.app o.dst {val:= .agg vs,acc:=[],upd:=os,new:=os.map (·.1)}).len z (V.tys i) 0 hall (by rw[hT];exact hlen)
     rw[hT]at h1 h2
     simp only at h1 h2
     have hnames:os.map (·.1)=os'.map (·.1):=by
      have:=congrArg (VC (·.1)) h2
      rw[UC,UC]at this
      exact this.symm
     refine⟨_,h,λm p hm=> .inl (pk (ba hm)),_, .nils ho hdst hz hpl h1 (by rw[<-hnames];exact hdi),bS rfl hnames.symm h2 rfl⟩
    ·cases h
   ·cases h
  ·cases h
 ·cases h
theorem qj(hf:∀te,k te=some r->∀d∈te.new,S.fresh d=true)(h:FW V P nm o S k=some r):OpD P nm o S k r:=by
 unfold FW at h
 split at h
 ·rename_i t x ho;exact Ip hf ho h
 ·rename_i t x y ho;exact F7 ho h
 ·rename_i t x i ho;exact Ls ho h
 ·rename_i t len parts ho;exact FV ho h
 ·rename_i c ho
  split at h
  ·rename_i hc
   split at h
   ·exact Im ho hc h
   ·exact Lo ho hc h
  ·cases h
 ·rename_i t x lo hi mx ho;exact Lq ho h
 ·rename_i t parts ho;exact Ir ho h
 ·cases h
end
end
end Go.Tx
end
section
namespace Go.Tx
open Go.Awp
variable [Inhabited GMem]
section
variable {ι:Type} {N:ι->Type}
def setB(S:TS N)(d:Nat)(b:Bool):TS N:={S with tmps:=(d, .lf .bool b)::S.tmps}
def uP(S:TS N)(all:List Oper)(j:Nat):Option (Nat×TV N):=match all[j]? with
 |some o=>match o.dst with
  |some d=>match gt S.tmps d with
   |some v=>some (d,v)
   |none=>none
  |none=>none
 |none=>none
def Dy(n:Nat)(pre:Nat->Bool)(o:Oper):Bool:=match o.dst with
 |some d=>Vu d n&& !pre (4000000+d)
 |none=>true
def eb(S:TS N)(e:TE N):Bool:=e.new.all λd=>S.fresh d&&Vu d given
end
section
variable (V:mD) (P:Program) (n:Nat) (nm:Nat->Nat) (call:bx V)
def oy:TV V.N->List (TV V.N)
 | .vh n=>[.vh n]
 | .agg cs=>cs
 |_=>[]
def JA(b c:Bool):TV V.N->List (TV V.N)
 | .vh n=>match b with
  |true=>[.vh n]
  |false=>[]
 | .agg cs=>match c with
  |true=>[]
  |false=>cs
 |_=>[]
def Fg(pre:Nat->Bool)(o:Oper)(S:TS V.N):TS V.N:=match o.op with
 | .buildSlice _ _ parts=>frzL V S (parts.toList.flatMap λp=>oy V (tev S p.2))
 | .convert _ _ x=>frzL V S (oy V (tev S x))
 | .slice _ x _ _ _=>frzL V S (oy V (tev S x))
 | .store _ x y=>match tev S x with
  | .ep .. =>frzL V S (oy V (tev S y))
  |_=>S
 | .call c=>match c.callee with
  | .value f=>match tev S f with
   | .fn fid first captured=>frzL V S ((first++c.args.toList.map (tev S)++captured).flatMap (JA V (pre fid) (pre (2000000+fid))))
   | .lf .fnc _=>frzL V S ((c.args.toList.map (tev S)).flatMap (JA V false false))
   |_=>S
  | .builtin .append=>match c.args.toList,c.argTypes.toList with
   |[_, .tmp t],ty::_=>match gt S.tmps t,V.ty ty with
    |some (.vh n),_=>frzL V S [.vh n]
    |some (.raw (.slice (some _) 0 _)),some (.sl e)=>{S with tmps:=(t, .lf (.sl e) [])::S.tmps}
    |some (.raw (.slice none 0 0)),some (.sl e)=>{S with tmps:=(t, .lf (.sl e) [])::S.tmps}
    |_,_=>S
   |_,_=>S
  |_=>S
 |_=>S
def uI{α β:Type}:List α->(List α->β)->β
 |[],k=>k []
 |x::r,k=>uI r λl=>k (x::l)
theorem oZ{α β:Type}:∀(l:List α) (k:List α->β),uI l k=k l
 |[],_=>rfl
 |x::r,k=>by rw[uI,oZ r]
def zl{ι:Type}{N:ι->Type}{β:Type}(S:TS N)(k:TS N->β):β:=uI S.tmps λt=>uI S.own λo=>k ⟨t,o⟩
theorem uJ{ι:Type}{N:ι->Type}{β:Type}(S:TS N)(k:TS N->β):zl S k=k S:=by
 unfold zl
 rw[oZ,oZ]
noncomputable def Lt{A:Type}(x:Operand)(S:TS V.N)(k:TE V.N->Option A):Option A:=match tev S x with
 | .bp n 0=>match S.own? n with
  |some (.miter m tk tv es rest _)=>if Kk tk=true/\S.len m=0 then
   if rest.isEmpty=true then k {val:= .tup [.lf .bool false],acc:=[n,m],upd:=[(m, .map tk tv es),(n, .gone 0)]}
   else JM (steps rest) λq=>k {val:= .tup [.lf .bool true, .lf tk q.1.1, .lf tv q.1.2],acc:=[n],upd:=[(n, .miter m tk tv es q.2 (some q.1))]}
   else none
  |_=>none
 |_=>none
noncomputable def txo(pre:Nat->Bool)(o:Oper){A:Type}(S:TS V.N)(k:TS V.N->Option A):Option A:=match o.op with
 | .next x false=>Lt V x S λte=>match eb S te with
  |true=>k (S.app o.dst te)
  |false=>none
 |_=>match Ji V pre o S with
  |true=>FW V P nm o S λte=>match eb S te with
   |true=>k (S.app o.dst te)
   |false=>none
  |false=>tx V P nm call false o (Fg V pre o S) λte=>match eb (Fg V pre o S) te with
   |true=>k ((Fg V pre o S).app o.dst te)
   |false=>none
noncomputable def txs(pre:Nat->Bool)(all:List Oper){A:Type}:List Oper->TS V.N->(TS V.N->Option A)->Option A
 |[],S,k=>k S
 |o::os,S,k=>zl S λS=>match Dy n pre o with
  |false=>none
  |true=>match o.guard with
   |none=>txo V P nm call pre o S λS'=>txs pre all os S' k
   |some (j,want)=>match uP S all j with
    |some (d, .lf .bool b)=>if b=true then
      match want with
      |true=>txo V P nm call pre o (setB S d true) λS'=>txs pre all os S' k
      |false=>txs pre all os ((setB S d true).app o.dst {val:= .tup []}) k
     else
      match want with
      |false=>txo V P nm call pre o (setB S d false) λS'=>txs pre all os S' k
      |true=>txs pre all os ((setB S d false).app o.dst {val:= .tup []}) k
    |some (_, .tup [])=>txs pre all os (S.app o.dst {val:= .tup []}) k
    |_=>none
def txq(pre:Nat->Bool)(o:Oper){A:Type}(S:TS V.N)(k:TE V.N->Option A):Option A:=match Ji V pre o S with
 |true=>FW V P nm o S k
 |false=>tx V P nm call true o S k
def txd(pre:Nat->Bool)(all:List Oper){A:Type}:List Oper->TS V.N->List Tr1->(TS V.N->List Tr1->Option A)->Option A
 |[],S,tr,k=>k S tr
 |o::os,S,tr,k=>zl S λS=>match Dy n pre o with
  |false=>none
  |true=>match det o.op with
   |false=>none
   |true=>match o.guard with
   |none=>txq V P nm call pre o S λte=>match eb S te with
    |true=>txd pre all os (S.app o.dst te) (tr++[⟨gm (S.app o.dst te).len te,true⟩]) k
    |false=>none
   |some (j,want)=>match uP S all j with
    |some (d, .lf .bool b)=>if b=true then
      match want with
      |true=>txq V P nm call pre o (setB S d true) λte=>match eb (setB S d true) te with
       |true=>txd pre all os ((setB S d true).app o.dst te) (tr++[⟨gm ((setB S d true).app o.dst te).len te,true⟩]) k
       |false=>none
      |false=>txd pre all os ((setB S d true).app o.dst {val:= .tup []}) (tr++[⟨{val:= .tup []},false⟩]) k
     else
      match want with
      |false=>txq V P nm call pre o (setB S d false) λte=>match eb (setB S d false) te with
       |true=>txd pre all os ((setB S d false).app o.dst te) (tr++[⟨gm ((setB S d false).app o.dst te).len te,true⟩]) k
       |false=>none
      |true=>txd pre all os ((setB S d false).app o.dst {val:= .tup []}) (tr++[⟨{val:= .tup []},false⟩]) k
    |some (_, .tup [])=>txd pre all os (S.app o.dst {val:= .tup []}) (tr++[⟨{val:= .tup []},false⟩]) k
    |_=>none
end
section
variable {V:mD}
theorem tz{C:Ctx}{E:Env}{M:Mem}{S:TS V.N}{d:Nat}{b:Bool}{a:Act}{w:World}(hd:gt S.tmps d=some (.lf .bool b))(hs:Sim C E M (aG V S) a w):Sim C E M (aG V (setB S d b)) a w:=by
 have hl:(setB S d b).len=S.len:=rfl
 refine Sim.le hs (λt x hx=> ?_) λn o ho=>⟨o,ho,OLe.refl _⟩
 rw[cE]at hx⊢
 simp only[setB,ah]at hx
 by_cases h:d=t
 ·subst h
  rw[XG rfl]at hx
  rw[hd]
  exact⟨x,hx,H.le.refl _⟩
 ·rw[XF h]at hx
  exact⟨x,hx,H.le.refl _⟩
theorem kW{S:TS V.N}{all:List Oper}{j d:Nat}{v:TV V.N}(h:uP S all j=some (d,v)):gt S.tmps d=some v/\∃o,all[j]?=some o/\o.dst=some d:=by
 unfold uP at h
 split at h
 ·rename_i o ho
  split at h
  ·rename_i d' hd
   split at h
   ·rename_i v' hv
    simp at h;obtain⟨rfl,rfl⟩:=h
    exact⟨hv,o,ho,hd⟩
   ·cases h
  ·cases h
 ·cases h
theorem lL{S:TS V.N}{σ:ae}(hσ:∀t,gt σ.tmps t=gt (aG V S).tmps t){all:List Oper}{j d:Nat}{v:TV V.N}{want b:Bool}(h:uP S all j=some (d,v))
 (hv:v= .lf .bool b\/v= .tup []/\b= !want):kb σ all j want=some b:=by
 obtain⟨h1,o,h2,h3⟩:=kW h
 have hg:σ.get d=am V S.len v:=by
  unfold ae.get
  rw[hσ,cE,h1];rfl
 unfold kb
 simp only[h2,h3,hg]
 rcases hv with rfl|⟨rfl,rfl⟩
 ·simp[am,aN]
 ·simp[am,encL]
theorem dg{S:TS V.N}{te:TE V.N}(h:eb S te=true):(∀d∈te.new,S.fresh d=true)/\∀d∈te.new,d<given:=by
 unfold eb at h
 rw[Uj]at h
 refine⟨λd hd=> ?_,λd hd=> ?_⟩
 ·have:=h d hd
  simp only[Uf]at this
  exact this.1
 ·have:=h d hd
  simp only[Uf,VB]at this
  exact this.2
def Fx(C:Ctx)(pre:Nat->Bool):Prop:=∀p∈C.fix,pre (4000000+p.1)=true
theorem sq{C:Ctx}{pre:Nat->Bool}{o:Oper}(hF:Fx C pre)(h:Dy C.N pre o=true):∀d,o.dst=some d->C.wr d:=by
 intro d hd
 unfold Dy at h
 rw[hd]at h
 simp only[Uf,VB,VL]at h
 refine⟨h.1,λp hp e=> ?_⟩
 have:=hF p hp
 rw[e,h.2]at this
 cases this
theorem zX(S:TS V.N):good S {val:= .tup []}:=gd S _ _
theorem LB{C:Ctx}{E:Env}{M:Mem}{S:TS V.N}{o:Oper}{a:Act}{w:World}(hd:∀d,o.dst=some d->C.wr d)(hs:Sim C E M (aG V S) a w):Sim C E M (aG V (S.app o.dst {val:= .tup []})) (a.put o.dst undef) w:=by
 have h1:=hs.app_val (o:=o) hd (e:={val:= .tup []}) rfl Jz
 refine Sim.tapp (ex:=false) (e':={val:= .tup []}) (zX S) (λd h=>by cases h) (oT ?_) h1
 simp[am,encL]
theorem Rg{C:Ctx}{nm:Nat->Nat}{call:bx V}{ex:Bool}{o:Oper}{S:TS V.N}{A:Type}{k:TS V.N->Option A}{r:A}{E:Env}{M:Mem}{a:Act}{w:World}{K:Act->World->Prop}{Q:Exit->Act->World->Prop}
 (hcall:ax C.P call)(hd:∀d,o.dst=some d->C.wr d)(h:(tx V C.P nm call ex o S λte=>match eb S te with|true=>k (S.app o.dst te)|false=>none)=some r)(hs:Sim C E M (aG V S) a w)
 (hK:∀te E' M' a' w',k (S.app o.dst te)=some r->Sim C E' M' (aG V (S.app o.dst te)) a' w'->K a' w'):o.wp C.P a w K Q:=by
 have hnew:∀te:TE V.N,(match eb S te with|true=>k (S.app o.dst te)|false=>none)=some r->eb S te=true/\k (S.app o.dst te)=some r:=by
  intro te h
  cases hq:eb S te with
  |true=>rw[hq]at h;exact⟨rfl,h⟩
  |false=>rw[hq]at h;cases h
 obtain⟨te,h1,h2,h3⟩:=zY hcall (λte hte=>(dg (hnew te hte).1).1) h
 obtain⟨hn,hk⟩:=hnew te h1
 obtain⟨f1,f2⟩:=dg hn
 refine EU hd E M (aG V S) a w K Q (λe=>ELe ex e (gm (S.app o.dst te).len te)) hs (tR (λe he=>⟨λd hd=> ?_,he⟩) h3) λe E' M' a' w' he hs'=>hK te E' M' a' w' hk (Sim.tapp h2 f1 he hs')
 have hd:d∈te.new:=by rw[he.new]at hd;exact hd
 exact⟨eg (f1 d hd),f2 d hd⟩
theorem Il{C:Ctx}{nm:Nat->Nat}{o:Oper}{S:TS V.N}{A:Type}{k:TS V.N->Option A}{r:A}{E:Env}{M:Mem}{a:Act}{w:World}{K:Act->World->Prop}{Q:Exit->Act->World->Prop}
 (hd:∀d,o.dst=some d->C.wr d)(h:(FW V C.P nm o S λte=>match eb S te with|true=>k (S.app o.dst te)|false=>none)=some r)(hs:Sim C E M (aG V S) a w)
 (hK:∀te E' M' a' w',k (S.app o.dst te)=some r->Sim C E' M' (aG V (S.app o.dst te)) a' w'->K a' w'):o.wp C.P a w K Q:=by
 have hnew:∀te:TE V.N,(match eb S te with|true=>k (S.app o.dst te)|false=>none)=some r->eb S te=true/\k (S.app o.dst te)=some r:=by
  intro te h
  cases hq:eb S te with
  |true=>rw[hq]at h;exact⟨rfl,h⟩
  |false=>rw[hq]at h;cases h
 obtain⟨te,h1,h2,e',h3,h4⟩:=qj (λte hte=>(dg (hnew te hte).1).1) h
 obtain⟨hn,hk⟩:=hnew te h1
 obtain⟨f1,f2⟩:=dg hn
 refine h3.ok hd hs (λd hd=> ?_) λE' M' a' w' hs'=>hK te E' M' a' w' hk (Sim.tapp h2 f1 h4 hs')
 have hd:d∈te.new:=by rw[h4.new]at hd;exact hd
 exact⟨eg (f1 d hd),f2 d hd⟩
theorem uW{α β:Type}(f:α->β):∀(l:List α) (i:Nat),(l.eraseIdx i).map f=(l.map f).eraseIdx i
 |[],_=>rfl
 |_::_,0=>rfl
 |x::r,i+1=>by simp[W9,uW f r i]
theorem Iq{C:Ctx}{nm:Nat->Nat}{o:Oper}{S:TS V.N}{A:Type}{k:TS V.N->Option A}{r:A}{E:Env}{M:Mem}{a:Act}{w:World}{K:Act->World->Prop}{Q:Exit->Act->World->Prop}{x:Operand}
 (ho:o.op= .next x false)(hd:∀d,o.dst=some d->C.wr d)(h:(Lt V x S λte=>match eb S te with|true=>k (S.app o.dst te)|false=>none)=some r)(hs:Sim C E M (aG V S) a w)
 (hK:∀te E' M' a' w',k (S.app o.dst te)=some r->Sim C E' M' (aG V (S.app o.dst te)) a' w'->K a' w'):o.wp C.P a w K Q:=by
 have hnew:∀te:TE V.N,(match eb S te with|true=>k (S.app o.dst te)|false=>none)=some r->eb S te=true/\k (S.app o.dst te)=some r:=by
  intro te h
  cases hq:eb S te with
  |true=>rw[hq]at h;exact⟨rfl,h⟩
  |false=>rw[hq]at h;cases h
 have go:∀(te:TE V.N) (e:Eff),(match eb S te with|true=>k (S.app o.dst te)|false=>none)=some r->good S te->ELe false e (gm (S.app o.dst te).len te)->
  (∀d∈e.new,(aG V S).fresh d=true/\d<given)/\∃te,good S te/\(∀d∈te.new,S.fresh d=true)/\ELe false e (gm (S.app o.dst te).len te)/\k (S.app o.dst te)=some r:=by
  intro te e h hg he
  obtain⟨hn,hk⟩:=hnew te h
  obtain⟨f1,f2⟩:=dg hn
  exact⟨λd hd=>by
   have hd:d∈te.new:=by rw[he.new]at hd;exact hd
   exact⟨eg (f1 d hd),f2 d hd⟩,te,hg,f1,he,hk⟩
 unfold Lt at h
 split at h
 ·rename_i n hx
  split at h
  ·rename_i m tk tv es rest cur hown
   obtain⟨⟨hkey,hlm⟩,h⟩:=ao h
   refine EU (nm:=nm) hd E M (aG V S) a w K Q (λe=>∃te,good S te/\(∀d∈te.new,S.fresh d=true)/\ELe false e (gm (S.app o.dst te).len te)/\k (S.app o.dst te)=some r) hs ?_
    λe E' M' a' w' ⟨te,h2,f1,he,hk⟩ hs'=>hK te E' M' a' w' hk (Sim.tapp h2 f1 he hs')
   simp only[aV,ho,au,hx,am,vq hown]
   refine⟨trivial,λhr=> ?_,λi p hp=> ?_⟩
   ·have hr:rest=[]:=by simpa using hr
    subst hr
    simp only[List.isEmpty_nil,XC]at h
    refine go {val:= .tup [.lf .bool false],acc:=[n,m],upd:=[(m, .map tk tv es),(n, .gone 0)]} {val:= .tup [.d (.v (.bool false))],acc:=[n,m],upd:=[(m,some (.map (es.map λp=>(j5 tk p.1,aN V.sz V.enc tv p.2)))),(n,none)]} h (λm' o' hm=> ?_)
     (bS (by simp[am,encL,aN]) rfl (by simp[bh]) rfl)
    simp only[ah]at hm
    right
    split at hm
    ·rename_i e;simp at hm;subst hm;subst e;simp[TO.len,hlm]
    ·split at hm
     ·rename_i e;simp at hm;subst hm;subst e;simp[TO.len,uS hown]
     ·simp[gt]at hm
   ·rw[Ua,Ug]at hp
    obtain⟨q,hq,rfl⟩:=hp
    have hne:rest.isEmpty=false:=by cases rest with|nil=>simp at hq|cons a r=>rfl
    rw[XF (by simp[hne]),Au]at h
    have h:=h.2 _ (FS hq)
    refine go {val:= .tup [.lf .bool true, .lf tk q.1, .lf tv q.2],acc:=[n],upd:=[(n, .miter m tk tv es (rest.eraseIdx i) (some q))]}
     {val:= .tup [.d (.v (.bool true)), .d (.v (j5 tk q.1)), .d (aN V.sz V.enc tv q.2)],acc:=[n],upd:=[(n,some (.miter m (es.map λp=>(j5 tk p.1,aN V.sz V.enc tv p.2)) ((rest.map λp=>(j5 tk p.1,aN V.sz V.enc tv p.2)).eraseIdx i) (some (j5 tk q.1,aN V.sz V.enc tv q.2))))]} h (λm' o' hm=> ?_)
     (bS (by simp only[am,encL,DY hkey];rfl) rfl (by simp[bh,uW]) rfl)
    simp only[ah]at hm
    right
    split at hm
    ·rename_i e;simp at hm;subst hm;subst e;simp[TO.len,uS hown]
    ·simp[gt]at hm
  ·cases h
 ·cases h
theorem FR{S:TS V.N}{t:Nat}{v v':TV V.N}(ht:gt S.tmps t=some v)(h:H.le (am V S.len v) (am V S.len v')):Ent (aG V S) (aG V {S with tmps:=(t,v')::S.tmps}):=
 Ent.le (λd x hx=>by
  have hl:({S with tmps:=(t,v')::S.tmps}:TS V.N).len=S.len:=rfl
  rw[cE]at hx
  simp only[ah,hl]at hx
  by_cases h1:t=d
  ·subst h1
   rw[XG rfl]at hx
   simp at hx;subst hx
   exact⟨_,by rw[cE,ht];rfl,h⟩
  ·rw[XF h1]at hx
   exact⟨x,by rw[cE];exact hx,H.le.refl _⟩) λn o ho=>⟨o,ho,OLe.refl _⟩
theorem Fh(pre:Nat->Bool)(o:Oper)(S:TS V.N):Ent (aG V S) (aG V (Fg V pre o S)):=by
 unfold Fg
 split
 ·exact dA _ S
 ·exact dA _ S
 ·exact dA _ S
 ·split
  ·exact dA _ S
  ·exact Ent.refl _
 ·split
  ·split
   ·exact dA _ S
   ·exact dA _ S
   ·exact Ent.refl _
  ·split
   ·split
    ·exact dA _ S
    ·rename_i ht _
     refine FR ht ?_
     simp only[am,bD,aN,UL]
     exactλE M v h=>by rw[h.dv];exact .d (.slmt _ _ _)
    ·rename_i ht _
     refine FR ht ?_
     simp only[am,bD,aN,UL]
     exactλE M v h=>by rw[h.dv];exact .d (.slnil _)
    ·exact Ent.refl _
   ·exact Ent.refl _
  ·exact Ent.refl _
 ·exact Ent.refl _
theorem N6{C:Ctx}{nm:Nat->Nat}{call:bx V}{pre:Nat->Bool}{o:Oper}{S:TS V.N}{A:Type}{k:TS V.N->Option A}{r:A}{E:Env}{M:Mem}{a:Act}{w:World}{K:Act->World->Prop}{Q:Exit->Act->World->Prop}
 (hcall:ax C.P call)(hd:∀d,o.dst=some d->C.wr d)(h:txo V C.P nm call pre o S k=some r)(hs:Sim C E M (aG V S) a w)
 (hK:∀S' E' M' a' w',k S'=some r->Sim C E' M' (aG V S') a' w'->K a' w'):o.wp C.P a w K Q:=by
 unfold txo at h
 split at h
 ·rename_i x hx
  exact Iq (nm:=nm) hx hd h hs λte E' M' a' w' hk hs'=>hK _ E' M' a' w' hk hs'
 ·split at h
  ·exact Il hd h hs λte E' M' a' w' hk hs'=>hK _ E' M' a' w' hk hs'
  ·obtain⟨_,_,hs1⟩:=Fh pre o S C E M a w hs
   exact Rg hcall hd h hs1 λte E' M' a' w' hk hs'=>hK _ E' M' a' w' hk hs'
theorem qo{C:Ctx}{nm:Nat->Nat}{call:bx V}{pre:Nat->Bool}{ops:Array Oper}{Q:Exit->Act->World->Prop}{A:Type}{r:A}(hcall:ax C.P call)(hF:Fx C pre):∀(l:List Oper) (i:Nat) (S:TS V.N) (k:TS V.N->Option A) (E:Env) (M:Mem) (a:Act) (w:World),
 ops.toList.drop i=l->txs V C.P C.N nm call pre ops.toList l S k=some r->Sim C E M (aG V S) a w->(∀S' E' M' a' w',k S'=some r->Sim C E' M' (aG V S') a' w'->Q .normal a' w')->
 wpOps C.P ops Q ((VV l.length).map (i+ ·)) a w
 |[],i,S,k,E,M,a,w,_,h,hs,hQ=>by
  simp only[txs]at h
  simpa[wpOps]using hQ S E M a w h hs
 |o::os,i,S,k,E,M,a,w,hl,h,hs,hQ=>by
  have hi:ops[i]?=some o:=by
   have:(ops.toList.drop i)[0]?=some o:=by rw[hl];rfl
   simpa using this
  have hl':ops.toList.drop (i+1)=os:=by
   rw[<-List.tail_drop,hl];rfl
  have hlist:(VV (o::os).length).map (i+ ·)=i::(VV os.length).map (i+1+ ·):=by
   simp only[Ue,List.range_succ_eq_map,Ud,UC,UE]
   congr 1
   apply U7
   intro x _
   simp;omega
  rw[hlist]
  simp only[txs,uJ]at h
  split at h
  ·cases h
  rename_i hdst
  have run:∀(S:TS V.N),Sim C E M (aG V S) a w->(txo V C.P nm call pre o S λS'=>txs V C.P C.N nm call pre ops.toList os S' k)=some r->
   o.wp C.P a w (wpOps C.P ops Q ((VV os.length).map (i+1+ ·))) Q:=λS hs h=>
   N6 (k:=λS'=>txs V C.P C.N nm call pre ops.toList os S' k) hcall (sq hF hdst) h hs λS' E' M' a' w' hk hs'=>qo hcall hF os (i+1) _ k E' M' a' w' hl' hk hs' hQ
  have off:∀(S:TS V.N),Sim C E M (aG V S) a w->txs V C.P C.N nm call pre ops.toList os (S.app o.dst {val:= .tup []}) k=some r->
   wpOps C.P ops Q ((VV os.length).map (i+1+ ·)) (a.put o.dst undef) w:=λS hs h=>
   qo hcall hF os (i+1) _ k E M _ w hl' h (LB (sq hF hdst) hs) hQ
  simp only[wpOps,hi]
  cases hg:o.guard with
  |none=>
   simp only[hg]at h
   rw[XG (by simp[Region.wanted,hg])]
   exact .inl (run S hs h)
  |some g=>
   obtain⟨j,want⟩:=g
   simp only[hg]at h
   split at h
   ·rename_i d b hgv
    have hb:=lL (V:=V) (S:=S) (σ:=aG V S) (λt=>rfl) (want:=want) hgv (.inl rfl)
    have hy:=hs.guard hb
    have hgt:=(kW hgv).1
    cases b with
    |true=>
     rw[XG rfl]at h
     have hs':=tz hgt hs
     cases want with
     |true=>
      rw[XG (by simp[Region.wanted,hg,hy])]
      exact .inl (run _ hs' h)
     |false=>
      rw[XF (by simp[Region.wanted,hg,hy])]
      exact off _ hs' h
    |false=>
     rw[XF (by simp)]at h
     have hs':=tz hgt hs
     cases want with
     |false=>
      rw[XG (by simp[Region.wanted,hg,hy])]
      exact .inl (run _ hs' h)
     |true=>
      rw[XF (by simp[Region.wanted,hg,hy])]
      exact off _ hs' h
   ·rename_i d hgv
    have hb:=lL (V:=V) (S:=S) (σ:=aG V S) (λt=>rfl) (want:=want) hgv (.inr ⟨rfl,rfl⟩)
    have hy:=hs.guard hb
    rw[XF (by cases want<;>simp[Region.wanted,hg,hy])]
    exact off _ hs h
   ·cases h
structure Rl (σ:ae) (S:TS V.N):Prop where
 tmp:∀t,gt σ.tmps t=gt (aG V S).tmps t
 own:∀n,σ.own? n=(aG V S).own? n
 fresh:∀d,S.fresh d=true->σ.fresh d=true
theorem Rl.refl(S:TS V.N):Rl (aG V S) S:=⟨λ_=>rfl,λ_=>rfl,λ_ h=>eg h⟩
theorem Rl.ent{σ:ae}{S:TS V.N}(h:Rl σ S):Ent σ (aG V S):=Ent.le (λt x hx=>⟨x,by rw[h.tmp];exact hx,H.le.refl _⟩) λn o ho=>⟨o,by rw[h.own];exact ho,OLe.refl _⟩
theorem Rl.setB{σ:ae}{S:TS V.N}(h:Rl σ S){d:Nat}{b:Bool}(hd:gt S.tmps d=some (.lf .bool b)):Rl σ (setB S d b)where
 tmp:=λt=>by
  rw[h.tmp,cE,cE]
  simp only[Tx.setB,ah]
  by_cases e:d=t
  ·subst e;rw[XG rfl,hd];simp[am]
  ·rw[XF e];rfl
 own:=λn=>h.own n
 fresh:=λn hn=>h.fresh n (by
  unfold TS.fresh at hn⊢
  simp only[Uf]at hn⊢
  refine⟨⟨hn.1.1,?_⟩,hn.2⟩
  have:=hn.1.2
  simp only[Tx.setB,Vi,Uf]at this
  exact this.2)
theorem Rl.app{σ:ae}{S:TS V.N}(h:Rl σ S){dst:Option Tmp}{te:TE V.N}(hg:good S te)(hn:∀d∈te.new,S.fresh d=true):Rl (σ.app dst (gm (S.app dst te).len te)) (S.app dst te)where
 tmp:=λt=>by
  rw[(su (dst:=dst) hg hn).1]
  simp only[ae.app,ov]
  cases dst with
  |none=>exact h.tmp t
  |some d=>simp only[ah];rw[h.tmp]
 own:=λn=>by
  rw[(su (dst:=dst) hg hn).2]
  have:=h.own n
  unfold ae.own? at this⊢
  simp only[ae.app,dY]
  cases gt (gm (S.app dst te).len te).upd n with
  |some o=>rfl
  |none=>exact this
 fresh:=λn hn'=>by
  unfold TS.fresh at hn'
  simp only[Uf]at hn'
  obtain⟨⟨f1,f2⟩,f3⟩:=hn'
  have hu:gt te.upd n=none:=by
   rw[od]at f1
   cases hq:gt te.upd n with
   |none=>rfl
   |some o=>rw[hq]at f1;cases f1
  have hs:S.fresh n=true:=by
   unfold TS.fresh
   simp only[Uf]
   refine⟨⟨?_,?_⟩,?_⟩
   ·rw[od,hu]at f1;exact f1
   ·rw[Uj]at f2⊢
    intro p hp
    refine f2 p ?_
    unfold TS.app OD
    cases dst with
    |none=>exact hp
    |some d=>exact T6 _ hp
   ·rw[Uj]at f3⊢
    exactλp hp=>f3 p (VI _ hp)
  have hσ:=h.fresh n hs
  unfold ae.fresh at hσ⊢
  simp only[Uf]at hσ⊢
  obtain⟨⟨g1,g2⟩,g3⟩:=hσ
  refine⟨⟨?_,?_⟩,?_⟩
  ·have hq:gt (gm (S.app dst te).len te).upd n=none:=by simp only[gm,gC,hu];rfl
   unfold ae.own? at g1⊢
   simp only[ae.app,dY,hq]
   exact g1
  ·simp only[ae.app,ov]
   cases dst with
   |none=>exact g2
   |some d=>
    rw[Vi,Uf]
    refine⟨?_,g2⟩
    rw[Uj]at f2
    have:=f2 (d,te.val) (by simp[TS.app,OD])
    simpa[gm,g6]using this
  ·simp only[ae.app,List.all_append,Uf]
   refine⟨?_,g3⟩
   rw[Uj]at f3⊢
   intro p hp
   simp only[gm,Us]at hp
   obtain⟨q,hq,rfl⟩:=hp
   have:=f3 q (Vq _ hq)
   simp only
   cases ho:bh V (S.app dst te).len q.2 with
   |none=>rfl
   |some o=>simp only[jC _ n ho];exact this
theorem Rl.tup{σ:ae}{S:TS V.N}(h:Rl σ S){dst:Option Tmp}:Rl (σ.app dst {val:= .tup []}) (S.app dst {val:= .tup []}):=by
 have:=h.app (dst:=dst) (te:={val:= .tup []}) (zX S) λd h=>by cases h
 simpa[gm,am,encL]using this
theorem F_{P:Program}{nm:Nat->Nat}{call:bx V}{pre:Nat->Bool}{o:Oper}{S:TS V.N}{A:Type}{k:TE V.N->Option A}{r:A}(hcall:ax P call)(hf:∀te,k te=some r->∀d∈te.new,S.fresh d=true)(h:txq V P nm call pre o S k=some r):
 ∃te,k te=some r/\good S te/\wl P nm o (ev (aG V S)) (aG V S).own? λe=>ELe true e (gm (S.app o.dst te).len te):=by
 unfold txq at h
 split at h
 ·obtain⟨te,h1,h2,e',h3,h4⟩:=qj hf h
  exact⟨te,h1,h2, .inr ⟨e',h3,h4⟩⟩
 ·obtain⟨te,h1,h2,h3⟩:=zY hcall hf h
  exact⟨te,h1,h2, .inl h3⟩
theorem qn{P:Program}{n:Nat}{W:Nat->Prop}{nm:Nat->Nat}{call:bx V}{pre:Nat->Bool}{all:List Oper}{A:Type}{r:A}(hcall:ax P call)(hW:∀o,Dy n pre o=true->∀d,o.dst=some d->W d):∀(l:List Oper) (S:TS V.N) (σ:ae) (tr:List Tr1) (k:TS V.N->List Tr1->Option A),
 txd V P n nm call pre all l S tr k=some r->Rl σ S->jZ P W nm all l σ tr λσ' tr'=>∃S',Rl σ' S'/\k S' tr'=some r
 |[],S,σ,tr,k,h,hr=>by
  simp only[txd]at h
  exact⟨S,hr,h⟩
 |o::os,S,σ,tr,k,h,hr=>by
  simp only[txd,uJ]at h
  split at h
  ·cases h
  rename_i hdst
  split at h
  ·cases h
  rename_i hdet
  have run:∀(S:TS V.N),Rl σ S->(txq V P nm call pre o S λte=>match eb S te with|true=>txd V P n nm call pre all os (S.app o.dst te) (tr++[⟨gm (S.app o.dst te).len te,true⟩]) k|false=>none)=some r->
   wl P nm o (ev σ) σ.own? λe=>(∀d∈e.new,σ.fresh d=true/\d<given)/\jZ P W nm all os (σ.app o.dst e) (tr++[⟨e,true⟩]) λσ' tr'=>∃S',Rl σ' S'/\k S' tr'=some r:=by
   intro S hr h
   have hnew:∀te:TE V.N,(match eb S te with|true=>txd V P n nm call pre all os (S.app o.dst te) (tr++[⟨gm (S.app o.dst te).len te,true⟩]) k|false=>none)=some r->
    eb S te=true/\txd V P n nm call pre all os (S.app o.dst te) (tr++[⟨gm (S.app o.dst te).len te,true⟩]) k=some r:=by
    intro te h
    cases hq:eb S te with
    |true=>rw[hq]at h;exact⟨rfl,h⟩
    |false=>rw[hq]at h;cases h
   obtain⟨te,h1,h2,h3⟩:=F_ hcall (λte hte=>(dg (hnew te hte).1).1) h
   obtain⟨hn,hk⟩:=hnew te h1
   obtain⟨f1,f2⟩:=dg hn
   have e1:ev σ=ev (aG V S):=by
    funext x
    cases x with
    |tmp t=>simp only[ev,ae.get,hr.tmp]
    |_=>rfl
   have e2:σ.own?=(aG V S).own?:=funext hr.own
   rw[e1,e2]
   refine lA (λe he=> ?_) h3
   have he':e=gm (S.app o.dst te).len te:=by
    obtain⟨q1,q2,q3⟩:=he.eq rfl
    have q4:=he.new
    cases e
    simp only at q1 q2 q3 q4
    subst q1;subst q2;subst q3;subst q4;rfl
   subst he'
   exact⟨λd hd=>⟨hr.fresh d (f1 d hd),f2 d hd⟩,qn hcall hW os _ _ _ k hk (hr.app h2 f1)⟩
  have off:∀(S:TS V.N),Rl σ S->txd V P n nm call pre all os (S.app o.dst {val:= .tup []}) (tr++[⟨{val:= .tup []},false⟩]) k=some r->
   jZ P W nm all os (σ.app o.dst {val:= .tup []}) (tr++[⟨{val:= .tup []},false⟩]) λσ' tr'=>∃S',Rl σ' S'/\k S' tr'=some r:=λS hr h=>
   qn hcall hW os _ _ _ k h hr.tup
  simp only[jZ]
  refine⟨⟨hW o hdst,hdet⟩,?_⟩
  cases hg:o.guard with
  |none=>
   simp only[hg]at h
   exact run S hr h
  |some g=>
   obtain⟨j,want⟩:=g
   simp only[hg]at h
   split at h
   ·rename_i d b hgv
    have hb:=lL (V:=V) (S:=S) (σ:=σ) hr.tmp (want:=want) hgv (.inl rfl)
    have hgt:=(kW hgv).1
    simp only[hb]
    cases b with
    |true=>
     rw[XG rfl]at h
     have hr':=hr.setB hgt
     cases want with
     |true=>exact⟨λ_=>run _ hr' h,λe=>by simp at e⟩
     |false=>exact⟨λe=>by simp at e,λ_=>off _ hr' h⟩
    |false=>
     rw[XF (by simp)]at h
     have hr':=hr.setB hgt
     cases want with
     |false=>exact⟨λ_=>run _ hr' h,λe=>by simp at e⟩
     |true=>exact⟨λe=>by simp at e,λ_=>off _ hr' h⟩
   ·rename_i d hgv
    have hb:=lL (V:=V) (S:=S) (σ:=σ) hr.tmp (want:=want) hgv (.inr ⟨rfl,rfl⟩)
    simp only[hb]
    exact⟨λe=>by cases want<;>simp at e,λ_=>off _ hr h⟩
   ·cases h
end
end Go.Tx
end
section
namespace Go.Tx
open Go.Awp
variable [Inhabited GMem]
inductive Alt where
 |norm
 |ret
 |exit (id:Nat)
 deriving DecidableEq
section
variable (V:mD)
structure ay where
 exits:Nat->Cut V.ι:=λ_=>⟨[],[]⟩
 rcut:Cut V.ι
variable {V}
def bW(sh:ay V)(jt:List (Ty V.ι)):Alt->List (Ty V.ι)
 | .norm=>jt
 | .ret=>sh.rcut.tys
 | .exit id=>(sh.exits id).tys
def oF(E:Alt->List (Ty V.ι)):List Alt->Type
 |[]=>Empty
 |[a]=>HL V.N (E a)
 |a::b::r=>HL V.N (E a)⊕oF E (b::r)
def inj(E:Alt->List (Ty V.ι)):(alts:List Alt)->(a:Alt)->HL V.N (E a)->Option (oF E alts)
 |[],_,_=>none
 |[b],a,v=>if h:a=b then some (h▸v)else none
 |b::c::r,a,v=>if h:a=b then some (.inl (h▸v))else match inj E (c::r) a v with
  |some o=>some (.inr o)
  |none=>none
def rL(E:Alt->List (Ty V.ι)){A:Type}:(alts:List Alt)->oF E alts->((a:Alt)->HL V.N (E a)->Option A)->Option A
 |[],_,_=>none
 |[a],v,f=>f a v
 |a::b::r,o,f=>match o with
  | .inl v=>f a v
  | .inr o'=>rL E (b::r) o' f
theorem dl{E:Alt->List (Ty V.ι)}{A:Type}{f:(a:Alt)->HL V.N (E a)->Option A}:∀{alts:List Alt} {a:Alt} {v:HL V.N (E a)} {o:oF E alts},inj E alts a v=some o->rL E alts o f=f a v
 |[],a,v,o,h=>by simp[inj]at h
 |[b],a,v,o,h=>by
  simp only[inj]at h
  split at h
  ·rename_i e;subst e;cases h;rfl
  ·cases h
 |b::c::r,a,v,o,h=>by
  simp only[inj]at h
  split at h
  ·rename_i e;subst e;cases h;rfl
  ·split at h
   ·rename_i o' ho
    cases h
    show rL E (c::r) o' f=f a v
    exact dl (f:=f) ho
   ·cases h
variable (V)
structure nV (sh:ay V)where
 cut:Cut V.ι
 alts:List Alt
 F:HL V.N cut.tys->Option (oF (bW sh []) alts)
structure Xc where
 P:Program
 n:Nat
 nm:Nat->Nat:=id
 call:bx V
 pre:Nat->Bool:=λ_=>false
 sh:ay V
 joins:Nat->Option (Cut V.ι×List Alt):=λ_=>none
 regs:Nat->Option (Cut V.ι):=λ_=>none
 loops:Nat->Option (nV V sh):=λ_=>none
 pair:Nat->PT:=λ_=> .leaf
 jumps:Nat->Option (Nat×nV V sh):=λ_=>none
def bI:Code->Nat
 | .region id _ _=>id
 | .seq a b=>if bI a=1000000 then bI b else bI a
 | .block _ x=>bI x
 | .cond _ a b=>if bI a=1000000 then bI b else bI a
 | .loop b=>bI b
 | .scope b=>bI b
 |_=>1000000
variable {V}
noncomputable def L2{A:Type}(x y:Option A):Option A:=by classical exact if x=y then x else none
theorem C3{A:Type}{x y:Option A}{r:A}(h:L2 x y=some r):x=some r/\y=some r:=by
 unfold L2 at h
 split at h
 ·rename_i e;exact⟨h,e▸h⟩
 ·cases h
def PV(X:Xc V){A:Type}(ops:Array Oper)(S:TS V.N)(k:TS V.N->Option A):Option A:=
 txd V X.P X.n X.nm X.call X.pre ops.toList ops.toList S [] λS' tr=>match ze ops.toList tr with
  |true=>k S'
  |false=>none
def zH(i j n:Nat):Bool:= !U8 i j&&Vu i n&&Vu j n
noncomputable def Nu(X:Xc V){A:Type}(S:TS V.N)(k:TS V.N->Option A):PT->Array Oper->Option A
 | .leaf,ops=>PV X ops S k
 | .node i j a b,ops=>match zH i j ops.size with
  |true=>L2 (Nu X S k a (eI i i i j ops)) (Nu X S k b (eI i j j i ops))
  |false=>none
noncomputable def Nv(X:Xc V){A:Type}(id:Nat)(ops:Array Oper)(draw:Bool)(S:TS V.N)(k:TS V.N->Option A):Option A:=match draw with
 |false=>txs V X.P X.n X.nm X.call X.pre ops.toList ops.toList S k
 |true=>Nu X S k (X.pair id) ops
def pL{A:Type}(ke:Nat->TS V.N->Option A):Nat->TS V.N->Option A:=λid S=>match Vu id 1000000 with
 |true=>ke id S
 |false=>none
noncomputable def ex(X:Xc V):Code->(A:Type)->TS V.N->(TS V.N->Option A)->(Nat->TS V.N->Option A)->(HL V.N X.sh.rcut.tys->Option A)->Option A
 | .skip,_,S,kn,_,_=>kn S
 | .ret,_,S,_,_,kr=>match AU V X.sh.rcut S with
  |some v=>kr v
  |none=>none
 | .exit id,_,S,_,ke,_=>pL ke id S
 | .goto l,_,S,_,ke,_=>ke (1000000+l) S
 | .label _,_,S,kn,_,_=>kn S
 | .seq x y,A,S,kn,ke,kr=>match X.joins (bI y)with
  |none=>ex X x A S (λS'=>ex X y A S' kn ke kr) ke kr
  |some (cut,alts)=>
   ex X x (oF (bW X.sh cut.tys) alts) S
    (λS'=>match AU V cut S' with
      |some v=>inj (bW X.sh cut.tys) alts .norm v
      |none=>none)
    (λid S'=>match AU V (X.sh.exits id) S' with
      |some v=>inj (bW X.sh cut.tys) alts (.exit id) v
      |none=>none)
    (λv=>inj (bW X.sh cut.tys) alts .ret v)>>=λout=>
   rL (bW X.sh cut.tys) alts out λa=>match a with
    | .norm=>λv=>ex X y A (bP V cut v) kn ke kr
    | .ret=>λv=>kr v
    | .exit id=>λv=>ke id (bP V (X.sh.exits id) v)
 | .block id x,A,S,kn,ke,kr=>match Vu id 1000000 with
  |true=>ex X x A S kn (λid' S'=>if id'=id then kn S' else ke id' S') kr
  |false=>none
 | .cond c x y,A,S,kn,ke,kr=>match c with
  | .tmp t=>match gt S.tmps t with
   |some (.lf .bool b)=>if b=true then ex X x A (setB S t true) kn ke kr else ex X y A (setB S t false) kn ke kr
   |_=>none
  | .const (.bool b)=>match b with
   |true=>ex X x A S kn ke kr
   |false=>ex X y A S kn ke kr
  |_=>none
 | .region id ops draw,_,S,kn,_,_=>match X.regs id with
  |none=>Nv X id ops draw S kn
  |some cut=>(Nv X id ops draw S λS'=>AU V cut S')>>=λv=>kn (bP V cut v)
 | .scope c,A,S,kn,ke,kr=>match X.jumps (bI c)with
  |none=>ex X c A S kn (pL ke) kr
  |some (l,la)=>ex X c A S kn (λid S'=>match U8 id (1000000+l)with
   |true=>match AU V la.cut S' with
    |none=>none
    |some v=>la.F v>>=λout=>rL (bW X.sh []) la.alts out λa=>match a with
     | .norm=>λ_=>none
     | .ret=>λv=>kr v
     | .exit id=>λv=>ke id (bP V (X.sh.exits id) v)
   |false=>pL ke id S') kr
 | .loop b,_,S,_,ke,kr=>match X.loops (bI b)with
  |none=>none
  |some la=>match AU V la.cut S with
   |none=>none
   |some v=>la.F v>>=λout=>rL (bW X.sh []) la.alts out λa=>match a with
    | .norm=>λ_=>none
    | .ret=>λv=>kr v
    | .exit id=>λv=>ke id (bP V (X.sh.exits id) v)
 |_,_,_,_,_,_=>none
noncomputable def exL(X:Xc V)(b:Code)(cut:Cut V.ι)(alts:List Alt)(F:HL V.N cut.tys->Option (oF (bW X.sh []) alts))(v:HL V.N cut.tys):Option (oF (bW X.sh []) alts):=
 ex X b _ (bP V cut v)
  (λS'=>match AU V cut S' with
    |some v=>F v
    |none=>none)
  (pL λid S'=>match AU V (X.sh.exits id) S' with
    |some v=>inj (bW X.sh []) alts (.exit id) v
    |none=>none)
  (λv=>inj (bW X.sh []) alts .ret v)
def nU(C:Ctx)(c:Code)(S:ae)(Q:Exit->ae->Prop):Prop:=
 ∀(E:Env) (M:Mem) (a:Act) (w:World),Sim C E M S a w->∀(b:Frame) (k:List Item) (cs:List Frame),
  ∃e a' w',(∃S' E' M',Q e S'/\Sim C E' M' S' a' w')/\Arrives C.P (lone (b.at a (.code c:: .inLoop c::k)) cs w) b k cs e a' w'
theorem nU.loop{C:Ctx}{c:Code}{S:ae}{Q:Exit->ae->Prop}(h:nU C c S Q):AWp C (.loop c) S Q:=λE M a w hs b k cs=>
 let⟨e,a',w',hq,harr⟩:=h E M a w hs b k cs
 ⟨e,a',w',hq, .of_steps (.one step_loop) harr⟩
theorem nU.ent{C:Ctx}{c:Code}{S S':ae}{Q:Exit->ae->Prop}(he:Ent S S')(h:nU C c S' Q):nU C c S Q:=λE M a w hs=>
 let⟨E',M',hs'⟩:=he C E M a w hs
 h E' M' a w hs'
theorem nU.round{C:Ctx}{c:Code}{S:ae}{Q:Exit->ae->Prop}(h:AWp C c S (MG (λS'=>nU C c S' Q) Q)):nU C c S Q:=by
 intro E M a w hs b k cs
 obtain⟨e,a₁,w₁,⟨S₁,E₁,M₁,hq,hs₁⟩,harr⟩:=h E M a w hs b (.inLoop c::k) cs
 cases e with
 |normal=>
  obtain⟨e₂,a₂,w₂,hq₂,harr₂⟩:=hq E₁ M₁ a₁ w₁ hs₁ b k cs
  exact⟨e₂,a₂,w₂,hq₂, .of_steps (Steps.trans harr (.one step_inLoop)) harr₂⟩
 |exit id=>exact⟨_,a₁,w₁,⟨S₁,E₁,M₁,hq,hs₁⟩, .pass (x:= .inLoop c) rfl (λ_ _=> .inl (by simp)) harr⟩
 |goto l=>exact⟨_,a₁,w₁,⟨S₁,E₁,M₁,hq,hs₁⟩, .pass (x:= .inLoop c) rfl (λ_ _=> .inl (by simp)) harr⟩
 |ret=>exact⟨_,a₁,w₁,⟨S₁,E₁,M₁,hq,hs₁⟩, .pass (x:= .inLoop c) rfl (λ_ _=> .inl (by simp)) harr⟩
 |panic ch=>exact⟨_,a₁,w₁,⟨S₁,E₁,M₁,hq,hs₁⟩, .pass (x:= .inLoop c) rfl (λ_ _=> .inl (by simp)) harr⟩
 |outgrown=>exact⟨_,a₁,w₁,⟨S₁,E₁,M₁,hq,hs₁⟩, .pass (x:= .inLoop c) rfl (λ_ _=> .inl (by simp)) harr⟩
def IJ(C:Ctx)(x rest:Code)(S:ae)(Q:Exit->ae->Prop):Prop:=
 ∀(E:Env) (M:Mem) (a:Act) (w:World),Sim C E M S a w->∀(b:Frame) (k:List Item) (cs:List Frame),
  ∃e a' w',(∃S' E' M',Q e S'/\Sim C E' M' S' a' w')/\Arrives C.P (lone (b.at a (.code rest:: .inScope x::k)) cs w) b k cs e a' w'
def Pn(l:Nat)(J:ae->Prop)(Q:Exit->ae->Prop):Exit->ae->Prop
 | .goto l',S=>l'=l/\J S
 |e,S=>Q e S
theorem IJ.ent{C:Ctx}{x rest:Code}{S S':ae}{Q:Exit->ae->Prop}(he:Ent S S')(h:IJ C x rest S' Q):IJ C x rest S Q:=λE M a w hs=>
 let⟨E',M',hs'⟩:=he C E M a w hs
 h E' M' a w hs'
theorem IJ.mono{C:Ctx}{x rest:Code}{S:ae}{Q Q':Exit->ae->Prop}(h:IJ C x rest S Q)(hq:∀e S,Q e S->Q' e S):IJ C x rest S Q':=λE M a w hs b k cs=>
 let⟨e,a',w',⟨S',E',M',hq',hs'⟩,harr⟩:=h E M a w hs b k cs
 ⟨e,a',w',⟨S',E',M',hq e S' hq',hs'⟩,harr⟩
theorem oI{C:Ctx}{x rest:Code}{l:Nat}{S:ae}{Q:Exit->ae->Prop}(hf:findLabel x l=some rest)(h:AWp C x S (Pn l (λS'=>IJ C x rest S' Q) Q)):AWp C (.scope x) S Q:=by
 intro E M a w hs b k cs
 have hg:gotoIn l (.inScope x::k)=some (.code rest:: .inScope x::k):=by simp[gotoIn,hf]
 obtain⟨e,a₁,w₁,⟨S₁,E₁,M₁,hq,hs₁⟩,harr⟩:=h E M a w hs b (.inScope x::k) cs
 cases e with
 |normal=>exact⟨.normal,a₁,w₁,⟨S₁,E₁,M₁,hq,hs₁⟩, .head step_scope (Steps.trans harr (.one step_inScope))⟩
 |exit id=>exact⟨.exit id,a₁,w₁,⟨S₁,E₁,M₁,hq,hs₁⟩,λk' hk=> .head step_scope (harr k' (by simp[exitTo,hk]))⟩
 |goto l'=>
  obtain⟨rfl,hJ⟩:=hq
  obtain⟨e₂,a₂,w₂,hq₂,harr₂⟩:=hJ E₁ M₁ a₁ w₁ hs₁ b k cs
  exact⟨e₂,a₂,w₂,hq₂, .of_steps (.head step_scope (harr _ hg)) harr₂⟩
 |ret=>exact⟨_,a₁,w₁,⟨S₁,E₁,M₁,hq,hs₁⟩, .of_steps (.one step_scope) harr⟩
 |panic ch=>exact⟨_,a₁,w₁,⟨S₁,E₁,M₁,hq,hs₁⟩, .of_steps (.one step_scope) harr⟩
 |outgrown=>exact⟨_,a₁,w₁,⟨S₁,E₁,M₁,hq,hs₁⟩, .of_steps (.one step_scope) harr⟩
theorem sm(l:Nat):Vu (1000000+l) 1000000=false:=by
 cases h:Vu (1000000+l) 1000000 with
 |false=>rfl
 |true=>rw[VB]at h;omega
theorem fQ{A:Type}{ke:Nat->TS V.N->Option A}{id:Nat}{S:TS V.N}{r:A}(h:pL ke id S=some r):Vu id 1000000=true/\ke id S=some r:=by
 unfold pL at h
 split at h
 ·exact⟨‹_›,h⟩
 ·cases h
theorem lq{A:Type}{ke:Nat->TS V.N->Option A}{l:Nat}{S:TS V.N}{r:A}(h:pL ke (1000000+l) S=some r):False:=by
 have:=(fQ h).1
 rw[sm]at this;cases this
structure Rn (sh:ay V) {A:Type} (kn:TS V.N->Option A) (ke:Nat->TS V.N->Option A) (kr:HL V.N sh.rcut.tys->Option A) (r:A) (Q:Exit->ae->Prop):Prop where
 norm:∀S σ,kn S=some r->Ent σ (aG V S)->Q .normal σ
 exit:∀id S σ,Vu id 1000000=true->ke id S=some r->Ent σ (aG V S)->Q (.exit id) σ
 jump:∀l S σ,ke (1000000+l) S=some r->Ent σ (aG V S)->Q (.goto l) σ
 ret:∀v σ,kr v=some r->Ent σ (aG V (bP V sh.rcut v))->Q .ret σ
def tP(sh:ay V)(alts:List Alt)(out:oF (bW sh []) alts)(e:Exit)(σ:ae):Prop:=match e with
 | .exit id=>Vu id 1000000=true/\∃v:HL V.N (sh.exits id).tys,inj (bW sh []) alts (.exit id) v=some out/\Ent σ (aG V (bP V (sh.exits id) v))
 | .ret=>∃v:HL V.N sh.rcut.tys,inj (bW sh []) alts .ret v=some out/\Ent σ (aG V (bP V sh.rcut v))
 |_=>False
def dx(C:Ctx)(b:Code){sh:ay V}(la:nV V sh):Prop:=∀v out,la.F v=some out->nU C b (aG V (bP V la.cut v)) (tP sh la.alts out)
def IL(C:Ctx)(x:Code)(l:Nat){sh:ay V}(la:nV V sh):Prop:=
 ∃rest,findLabel x l=some rest/\∀v out,la.F v=some out->IJ C x rest (aG V (bP V la.cut v)) (tP sh la.alts out)
def LOk(C:Ctx)(X:Xc V):Code->Prop
 | .seq x y=>LOk C X x/\LOk C X y
 | .block _ x=>LOk C X x
 | .scope x=>LOk C X x/\∀l la,X.jumps (bI x)=some (l,la)->IL C x l la
 | .cond _ x y=>LOk C X x/\LOk C X y
 | .loop b=>∀la,X.loops (bI b)=some la->dx C b la
 |_=>True
theorem jz{P:Program}{N:Nat->Prop}{nm:Nat->Nat}{all:List Oper}:∀{os:List Oper} {S:ae} {tr:List Tr1} {k k':ae->List Tr1->Prop},(∀S tr,k S tr->k' S tr)->jZ P N nm all os S tr k->jZ P N nm all os S tr k'
 |[],S,tr,k,k',hk,h=>hk _ _ h
 |o::os,S,tr,k,k',hk,h=>by
  simp only[jZ]at h⊢
  obtain⟨hd,h⟩:=h
  refine⟨hd,?_⟩
  cases hg:o.guard with
  |none=>
   simp only[hg]at h⊢
   exact lA (λe ⟨h1,h2⟩=>⟨h1,jz hk h2⟩) h
  |some g=>
   obtain⟨j,want⟩:=g
   simp only[hg]at h⊢
   split at h
   ·exact⟨λe=>lA (λe ⟨h1,h2⟩=>⟨h1,jz hk h2⟩) (h.1 e),λe=>jz hk (h.2 e)⟩
   ·exact h.elim
def Sv(Q:Exit->ae->Prop):Exit->ae->Prop
 | .goto _,_=>False
 |e,S=>Q e S
theorem C0{C:Ctx}{c:Code}{S:ae}{Q:Exit->ae->Prop}(h:AWp C c S (Sv Q)):AWp C (.scope c) S Q:=λE M a w hs=>
 wp_scope_straight (wp_mono (h E M a w hs) λe a' w'=>by
  rintro⟨S',E',M',hq,hs'⟩
  cases e with
  |goto l=>exact hq.elim
  |_=>exact⟨S',E',M',hq,hs'⟩)
theorem g7{C:Ctx}{X:Xc V}(hP:C.P=X.P)(hn:C.N=X.n/\Fx C X.pre)(hm:X.P.follows .mixedOrders=true)(hcall:ax X.P X.call):∀(c:Code) (A:Type) (S:TS V.N) (kn:TS V.N->Option A) (ke:Nat->TS V.N->Option A)
 (kr:HL V.N X.sh.rcut.tys->Option A) (r:A) (Q:Exit->ae->Prop),LOk C X c->ex X c A S kn ke kr=some r->Rn X.sh kn ke kr r Q->AWp C c (aG V S) Q:=by
 intro c
 induction c with
 |skip=>intro A S kn ke kr r Q _ h hp;exact .skip (hp.norm S _ h (Ent.refl _))
 |label l=>intro A S kn ke kr r Q _ h hp;exact .label (hp.norm S _ h (Ent.refl _))
 |exit id=>
  intro A S kn ke kr r Q _ h hp
  simp only[ex]at h
  obtain⟨h1,h2⟩:=fQ h
  exact .exit (hp.exit id S _ h1 h2 (Ent.refl _))
 |goto l=>intro A S kn ke kr r Q _ h hp;exact .goto (hp.jump l S _ h (Ent.refl _))
 |ret=>
  intro A S kn ke kr r Q _ h hp
  simp only[ex]at h
  split at h
  ·rename_i v hv;exact .ret (hp.ret v _ h (dz hv))
  ·cases h
 |seq x y ihx ihy=>
  intro A S kn ke kr r Q hl h hp
  obtain⟨hlx,hly⟩:=hl
  simp only[ex]at h
  split at h
  ·refine .seq (ihx A S _ ke kr r _ hlx h ⟨λS' σ hk he=> ?_,hp.exit,hp.jump,λv σ hk he=>hp.ret v σ hk he⟩)
   exact .ent he (ihy A S' kn ke kr r Q hly hk hp)
  ·rename_i cut alts hj
   obtain⟨out,h1,h2⟩:=bA h
   refine .seq (ihx _ S _ _ _ out _ hlx h1 ⟨λS' σ hk he=> ?_,λid S' σ hb hk he=> ?_,λl S' σ hk he=> ?_,λv σ hk he=> ?_⟩)
   ·split at hk
    ·rename_i v hv
     rw[dl hk]at h2
     exact .ent (Ent.trans he (dz hv)) (ihy A _ kn ke kr r Q hly h2 hp)
    ·cases hk
   ·split at hk
    ·rename_i v hv
     rw[dl hk]at h2
     exact hp.exit id _ σ hb h2 (Ent.trans he (dz hv))
    ·cases hk
   ·split at hk
    ·rename_i v hv
     rw[dl hk]at h2
     exact hp.jump l _ σ h2 (Ent.trans he (dz hv))
    ·cases hk
   ·rw[dl hk]at h2
    exact hp.ret v σ h2 he
 |block id x ih=>
  intro A S kn ke kr r Q hl h hp
  simp only[ex]at h
  split at h
  ·rename_i hb
   refine .block (ih A S kn _ kr r _ hl h ⟨λS' σ hk he=>hp.norm S' σ hk he,λid' S' σ hb' hk he=> ?_,λl S' σ hk he=> ?_,λv σ hk he=>hp.ret v σ hk he⟩)
   ·simp only[zg]
    split at hk
    ·rename_i e;rw[XG e];exact hp.norm S' σ hk he
    ·rename_i e;rw[XF e];exact hp.exit id' S' σ hb' hk he
   ·simp only[zg]
    rw[XF (λe=>by rw[<-e,sm]at hb;cases hb)]at hk
    exact hp.jump l S' σ hk he
  ·cases h
 |cond c x y ihx ihy=>
  intro A S kn ke kr r Q hl h hp
  obtain⟨hlx,hly⟩:=hl
  simp only[ex]at h
  split at h
  ·rename_i t
   split at h
   ·rename_i b hb
    have hev:ev (aG V S) (.tmp t)= .d (.v (.bool b)):=by
     rw[au]
     simp only[tev,TS.get,hb,Vr,am,aN]
    have hset:∀b',b=b'->Ent (aG V S) (aG V (setB S t b')):=λb' e C E M a w hs=>⟨E,M,tz (by rw[hb,e]) hs⟩
    cases b with
    |true=>
     rw[XG rfl]at h
     exact .cond hev (λ_=> .ent (hset true rfl) (ihx A _ kn ke kr r Q hlx h hp)) (λe=>by cases e)
    |false=>
     rw[XF (by simp)]at h
     exact .cond hev (λe=>by cases e) (λ_=> .ent (hset false rfl) (ihy A _ kn ke kr r Q hly h hp))
   ·cases h
  ·rename_i b
   have hev:ev (aG V S) (.const (.bool b))= .d (.v (.bool b)):=rfl
   cases b with
   |true=>exact .cond hev (λ_=>ihx A _ kn ke kr r Q hlx h hp) (λe=>by cases e)
   |false=>exact .cond hev (λe=>by cases e) (λ_=>ihy A _ kn ke kr r Q hly h hp)
  ·cases h
 |region id ops draw=>
  intro A S kn ke kr r Q _ h hp
  have key:∀{B:Type} (k:TS V.N->Option B) (s:B),Nv X id ops draw S k=some s->(∀S' σ,k S'=some s->Ent σ (aG V S')->Q .normal σ)->AWp C (.region id ops draw) (aG V S) Q:=by
   intro B k s hr hq
   cases draw with
   |false=>
    simp only[Nv]at hr
    rw[<-hP,<-hn.1]at hr
    intro E M a w hs
    refine wp_region ?_
    have:=qo (C:=C) (ops:=ops) (Q:=λe a' w'=>∃S' E' M',Q e S'/\Sim C E' M' S' a' w') (hP▸hcall) hn.2 ops.toList 0 S k E M a w (by simp) hr hs
     λS' E' M' a' w' hk hs'=>⟨_,E',M',hq S' _ hk (Ent.refl _),hs'⟩
    have e:(VV ops.toList.length).map (0+ ·)=VV ops.size:=by simp
    rw[e]at this
    exact this
   |true=>
    simp only[Nv]at hr
    have one:∀(ops:Array Oper),PV X ops S k=some s->jZ C.P C.wr X.nm ops.toList ops.toList (aG V S) [] (λS' tr=>ze ops.toList tr=true/\Q .normal S'):=by
     intro ops hr
     simp only[PV]at hr
     rw[hP]
     have h2:=qn (W:=C.wr) hcall (λo ho=>sq hn.2 (by rw[hn.1];exact ho)) ops.toList S (aG V S) [] _ hr (Rl.refl S)
     refine jz (λσ' tr' ⟨S',hrl,hk⟩=> ?_) h2
     split at hk
     ·rename_i hd;exact⟨hd,hq S' σ' hk hrl.ent⟩
     ·cases hk
    have tree:∀(t:PT) (ops:Array Oper),Nu X S k t ops=some s->PT.ok C X.nm (aG V S) (Q .normal) t ops:=by
     intro t
     induction t with
     |leaf=>intro ops hr;exact one ops hr
     |node i j ta tb iha ihb=>
      intro ops hr
      simp only[Nu]at hr
      split at hr
      ·rename_i hf
       obtain⟨h1,h2⟩:=C3 hr
       simp only[zH,Uf,VL,VB]at hf
       obtain⟨⟨f1,f2⟩,f3⟩:=hf
       exact⟨⟨(λe=>by rw[e,V8]at f1;cases f1),f2,f3⟩,iha _ h1,ihb _ h2⟩
      ·cases hr
    exact .drawT X.nm (X.pair id) (by rw[hP];exact hm) (tree _ _ hr)
  simp only[ex]at h
  split at h
  ·exact key kn r h λS' σ hk he=>hp.norm S' σ hk he
  ·rename_i cut _
   obtain⟨v,h1,h2⟩:=bA h
   exact key _ v h1 λS' σ hk he=>hp.norm _ σ h2 (Ent.trans he (dz hk))
 |scope x ih=>
  intro A S kn ke kr r Q hl h hp
  simp only[ex]at h
  split at h
  ·exact C0 (ih A S kn _ kr r _ hl.1 h ⟨λS' σ hk he=>hp.norm S' σ hk he,λid' S' σ hb hk he=>hp.exit id' S' σ hb (fQ hk).2 he,λl S' σ hk he=>(lq hk).elim,λv σ hk he=>hp.ret v σ hk he⟩)
  ·rename_i l la hj
   obtain⟨rest,hf,hok⟩:=hl.2 l la hj
   refine oI hf (ih A S kn _ kr r _ hl.1 h ⟨λS' σ hk he=>hp.norm S' σ hk he,λid' S' σ hb hk he=> ?_,λl' S' σ hk he=> ?_,λv σ hk he=>hp.ret v σ hk he⟩)
   ·split at hk
    ·rename_i e
     have:=UM e
     rw[this,sm]at hb;cases hb
    ·exact hp.exit id' S' σ hb (fQ hk).2 he
   ·split at hk
    ·rename_i e
     have e:=UM e
     refine⟨by omega,?_⟩
     split at hk
     ·cases hk
     ·rename_i v hv
      obtain⟨out,h1,h2⟩:=bA hk
      refine .ent (Ent.trans he (dz hv)) ((hok v out h1).mono λe σ hq=> ?_)
      unfold tP at hq
      split at hq
      ·obtain⟨hb,w,hw1,hw2⟩:=hq
       rw[dl hw1]at h2
       exact hp.exit _ _ σ hb h2 hw2
      ·obtain⟨w,hw1,hw2⟩:=hq
       rw[dl hw1]at h2
       exact hp.ret w σ h2 hw2
      ·exact hq.elim
    ·exact(lq hk).elim
 |loop b ih=>
  intro A S kn ke kr r Q hl h hp
  simp only[ex]at h
  split at h
  ·cases h
  ·rename_i la hla
   split at h
   ·cases h
   ·rename_i v hv
    obtain⟨out,h1,h2⟩:=bA h
    refine .ent (dz hv) ((nU.loop (hl la hla v out h1)).mono λe σ hq=> ?_)
    unfold tP at hq
    split at hq
    ·obtain⟨hb,w,hw1,hw2⟩:=hq
     rw[dl hw1]at h2
     exact hp.exit _ _ σ hb h2 hw2
    ·obtain⟨w,hw1,hw2⟩:=hq
     rw[dl hw1]at h2
     exact hp.ret w σ h2 hw2
    ·exact hq.elim
 |_=>intro A S kn ke kr r Q _ h hp;simp only[ex]at h;cases h
theorem cQ{C:Ctx}{X:Xc V}(hP:C.P=X.P)(hn:C.N=X.n/\Fx C X.pre)(hm:X.P.follows .mixedOrders=true)(hcall:ax X.P X.call){b:Code}(hl:LOk C X b){cut:Cut V.ι}{alts:List Alt}
 {F:HL V.N cut.tys->Option (oF (bW X.sh []) alts)}(ih:∀v out,F v=some out->nU C b (aG V (bP V cut v)) (tP X.sh alts out)){v:HL V.N cut.tys}{out:oF (bW X.sh []) alts}
 (h:exL X b cut alts F v=some out):nU C b (aG V (bP V cut v)) (tP X.sh alts out):=by
 refine nU.round (g7 hP hn hm hcall b _ _ _ _ _ out _ hl h ⟨λS' σ hk he=> ?_,λid S' σ hb hk he=> ?_,λl S' σ hk he=>(lq hk).elim,λv σ hk he=> ?_⟩)
 ·split at hk
  ·rename_i w hw;exact .ent (Ent.trans he (dz hw)) (ih w out hk)
  ·cases hk
 ·have hk:=(fQ hk).2
  split at hk
  ·rename_i w hw;exact⟨hb,w,hk,Ent.trans he (dz hw)⟩
  ·cases hk
 ·exact⟨v,hk,he⟩
end
end Go.Tx
end
section
namespace Go.Tx
open Go.Awp
variable [Inhabited GMem]
def tT(P:Program)(rs:List ResultVar)(r:H)(own':List (Nat×Own))(e:Exit)(S:ae):Prop:=
 (e= .normal\/e= .ret)/\∃S',Ent S S'/\∃h,Ia P S' rs=some h/\H.le h r/\∀n o,gt own' n=some o->S'.own? n=some o
theorem AZ{P:Program}{f:FuncId}{fn:Func}{c:Code}{args:List H}{own own':List (Nat×Own)}{r:H}(hf:P.funcs[f]?=some fn)(hb:fn.body=some c)
 (hname:(fn.name != "runtime.NumGoroutine")=true)(hn:args.length<=fn.ntmps)
 (h:∀C:Ctx,C.P=P->C.N=fn.ntmps/\C.fix=[]->AWp C c ⟨gi 0 args,ko own⟩ (tT P fn.results.toList r own')):iA P f args own r own':=by
 refine⟨by simp[ew,hf,hb,hname],λE M w vs hgm hm how hvs=> ?_⟩
 refine calls_of_wp hf hb ?_
 let C:Ctx:=⟨P,fn.ntmps,w,M,E,gD E w own,hgm,λb ⟨n,o,hn,hb⟩=>((how.ok n o hn).block hb).2,[],[]⟩
 have hs:Sim C E M ⟨gi 0 args,ko own⟩ {tmps:=vs++VH (fn.ntmps-vs.size) undef,defers:=[]} w:=by
  have hvs1:=hvs.1
  refine{size:=by simp[C];omega,defers:=rfl,fixed:=λp hp=>(by cases hp),tmps:=λt x hx=> ?_,mem:=hm,own:=λn o ho=> ?_,apart:=λn m o o' b hne ho ho'=> ?_,home:=λn o b ho hb=> ?_,m0:=Mem.le_refl M,mnew:=λb o v hv=> .inl hv,frame:=λ_ _ _=>rfl,grows:=Up _,os:=rfl,tape:=rfl,output:=rfl,env:=λ_ _=>rfl}
  ·obtain⟨_,h2⟩:=lK args 0 t x hx
   simp only[W2]at h2
   have hlt:t<vs.size:=by have:=(T7.1 h2).1;omega
   exact⟨vs[t],by simp[V1 hlt,hlt],hvs.2 t _ x (UN hlt) h2⟩
  ·have ho':gt own n=some o:=by rw[<-bG];exact ho
   exact how.ok n o ho'
  ·have h1:gt own n=some o:=by rw[<-bG];exact ho
   have h2:gt own m=some o':=by rw[<-bG];exact ho'
   exact how.apart n m o o' b hne h1 h2
  ·have h1:gt own n=some o:=by rw[<-bG];exact ho
   exact .inl ⟨n,o,h1,hb⟩
 refine wp_mono (h C rfl ⟨rfl,rfl⟩ E M _ w hs) ?_
 rintro e a' w' ⟨S',E',M',⟨he,S'',hent,hh,hres,hle,hown⟩,hs'⟩
 obtain⟨E2,M2,hs2⟩:=hent C E' M' a' w' hs'
 obtain⟨v,hrun,hrep⟩:=tw (C:=C) hs2 hres
 have hpost:oD E M own w v r own' E2 M2 w':=
  {rep:=hle _ _ _ hrep,owns:=⟨λn o ho=>hs2.own n o (hown n o ho),λn m o o' b hne h1 h2=>hs2.apart n m o o' b hne (hown n o h1) (hown m o' h2)⟩,mle:=hs2.m0,mem:=hs2.mem,mnew:=hs2.mnew,home:=λn o b ho hb=>hs2.home n o b (hown n o ho) hb,frame:=hs2.frame,grows:=hs2.grows,os:=hs2.os,tape:=hs2.tape,output:=hs2.output,env:=hs2.env}
 rcases he with rfl|rfl
 ·exact⟨hs2.defers,v,hrun,v,E2,M2,rfl,hpost⟩
 ·exact⟨hs2.defers,v,hrun,v,E2,M2,rfl,hpost⟩
section
variable (V:mD)
structure Sig where
 params:List (Pt V.ι)
 objs:List (Nat×OPt V.ι):=[]
 rcut:Cut V.ι
 rvars:List ResultVar
 keep:List Nat:=[]
variable {V}
def Sig.tys(sig:Sig V):List (Ty V.ι):=Fi sig.params++EQ sig.objs
def G4{α:Type}:Nat->List α->List (Nat×α)
 |_,[]=>[]
 |i,x::r=>(i,x)::G4 (i+1) r
def aU(sig:Sig V)(v:HL V.N sig.tys):List (TV V.N)×List (Nat×TO V.N):=match bdL V sig.params (Nm sig.tys v)with
 |some (xs,ls)=>match bdO V sig.objs ls with
  |some os=>(xs,os)
  |none=>([],[])
 |none=>([],[])
def az(sig:Sig V)(v:HL V.N sig.tys):TS V.N:={tmps:=G4 0 (aU sig v).1,own:=(aU sig v).2}
def Le(P:Program)(S:TS V.N):ResultVar->Option (TV V.N)
 | .tmp t=>gt S.tmps t
 | .cell a t=>match gt S.tmps a with
  |some (.bp n off)=>match cf P t with
   |some (ag,sz)=>match z6 V ag off sz (V.ty t) (S.own? n)with
    |some v=>some v
    |none=>match GT V (S.own? n)with
     |some cells=>Ba V false ag sz (V.ty t) (cells.drop off)
     |none=>none
   |none=>none
  |_=>none
def Fs(P:Program)(S:TS V.N):List ResultVar->Option (List (TV V.N))
 |[]=>some []
 |x::r=>match Le P S x,Fs P S r with
  |some h,some l=>some (h::l)
  |_,_=>none
def K7:List (TV V.N)->TV V.N
 |[x]=>x
 |l=> .tup l
def pW(P:Program)(sig:Sig V)(r:HL V.N sig.rcut.tys):Option (TV V.N):=(Fs P (bP V sig.rcut r) sig.rvars).map K7
def bo(ω:Nat->Nat)(os:List (Nat×TO V.N)):List (Nat×Own):=os.filterMap λp=>(bh V ω p.2).map λo=>(p.1,o)
def jb(sig:Sig V)(r:HL V.N sig.rcut.tys):List (Nat×TO V.N):=(bP V sig.rcut r).own.filter λp=>sig.keep.contains p.1
def aq(P:Program)(fid:FuncId)(sig:Sig V)(F:HL V.N sig.tys->Option (HL V.N sig.rcut.tys)):Prop:=
 ∀v r x,F v=some r->pW P sig r=some x->
  iA P fid (encL V (az sig v).len (aU sig v).1) (bo (az sig v).len (az sig v).own) (am V (bP V sig.rcut r).len x) (bo (bP V sig.rcut r).len (jb sig r))
noncomputable def exF(X:Xc V)(sig:Sig V)(h:X.sh.rcut=sig.rcut)(c:Code)(v:HL V.N sig.tys):Option (HL V.N sig.rcut.tys):=
 ex X c _ (az sig v) (λS=>AU V sig.rcut S) (λ_ _=>none) (λr=>some (h▸r))
theorem cz{α β:Type}{f:α->Option β}:∀{l:List (Nat×α)} {n:Nat} {y:β},gt (l.filterMap λp=>(f p.2).map λo=>(p.1,o)) n=some y->∃x,(n,x)∈l/\f x=some y
 |[],n,y,h=>by simp[gt]at h
 |(k,x)::r,n,y,h=>by
  rw[Vx]at h
  cases hx:f x with
  |none=>
   simp only[hx,Wo]at h
   obtain⟨z,h1,h2⟩:=cz h
   exact⟨z,T6 _ h1,h2⟩
  |some z=>
   simp only[hx,Uw,ah]at h
   by_cases hk:k=n
   ·rw[XG hk]at h;cases h;subst hk;exact⟨x,T_,hx⟩
   ·rw[XF hk]at h
    obtain⟨w,h1,h2⟩:=cz h
    exact⟨w,T6 _ h1,h2⟩
def dj:List Nat->Bool
 |[]=>true
 |x::r=> !r.contains x&&dj r
theorem hG{α:Type}:∀{l:List (Nat×α)} {n:Nat} {x:α},dj (l.map (·.1))=true->(n,x)∈l->gt l n=some x
 |[],n,x,_,h=>by cases h
 |(k,y)::r,n,x,hd,h=>by
  simp only[Ud,dj,Uf]at hd
  rw[ah]
  rcases Uh.1 h with he|h
  ·simp only[Uy]at he
   obtain⟨rfl,rfl⟩:=he
   rw[XG rfl]
  ·have:k≠n:=by
    intro e;subst e
    have h1:=hd.1
    have:k∈r.map (·.1):=Uq h
    simp at h1
    simp at this
    exact h1 _ this.choose_spec
   rw[XF this]
   exact hG hd.2 h
theorem jO{P:Program}{S:TS V.N}:∀{rs:List ResultVar} {vs:List (TV V.N)},Fs P S rs=some vs->
 ∃hs,jm P (aG V S) rs=some hs/\hs.length=vs.length/\∀(i:Nat) (v:TV V.N),vs[i]?=some v->∃h,hs[i]?=some h/\H.le h (am V S.len v)
 |[],vs,h=>by simp[Fs]at h;subst h;exact⟨[],rfl,rfl,λi v hv=>by simp at hv⟩
 |x::r,vs,h=>by
  simp only[Fs]at h
  split at h
  ·rename_i v l h1 h2
   simp at h;subst h
   obtain⟨hs,g1,g2,g3⟩:=jO h2
   have:∃y,rY P (aG V S) x=some y/\H.le y (am V S.len v):=by
    cases x with
    |tmp t=>
     simp only[Le]at h1
     refine⟨(aG V S).get t,rfl,?_⟩
     unfold ae.get
     rw[cE,h1]
     exact H.le.refl _
    |cell a t=>
     simp only[Le]at h1
     split at h1
     ·rename_i n off hn
      have hg:(aG V S).get a= .bp n off:=by
       unfold ae.get
       rw[cE,hn];simp[am]
      split at h1
      ·rename_i ag sz ht
       split at h1
       ·rename_i w hw
        simp only[T9]at h1;subst h1
        unfold z6 at hw
        split at hw
        ·rename_i i y hnn
         have hw':=ao hw;clear hw
         obtain⟨⟨e1,e2,e3,hot⟩,hw⟩:=hw'
         subst e1;subst e2;subst e3
         simp only[T9]at hw;subst hw
         have hb:GT V (S.own? n)=some ((V.cells i y).map λl=> .lf l.t l.x):=by rw[hnn];rfl
         have hl:(V.enc i y).length=V.sz i:=by rw[V.enc_cells,Ub,V.len_cells]
         refine⟨am V S.len (.lf (.st i) y),?_,H.le.refl _⟩
         simp only[rY,hg,ir hb,ht,kz,gG,UJ,sx,Ub]
         rw[XG (by omega),UU (by rw[Ub];omega),cR,eV]
        ·cases hw
       ·split at h1
        ·rename_i cells hc
         obtain⟨y,k1,k2,_⟩:=lb (ω:=S.len) h1
         rw[i8]at k1
         refine⟨y,?_,k2⟩
         simp only[rY,hg,ir hc,ht,k1]
        ·cases h1
      ·cases h1
     ·cases h1
   obtain⟨y,y1,y2⟩:=this
   refine⟨y::hs,by simp only[jm,y1,g1],by simp[g2],λi w hw=> ?_⟩
   cases i with
   |zero=>simp at hw;subst hw;exact⟨y,rfl,y2⟩
   |succ i=>obtain⟨z,z1,z2⟩:=g3 i w (by simpa using hw);exact⟨z,by simpa using z1,z2⟩
  ·cases h
theorem iy{ω:Nat->Nat}:∀(l:List (TV V.N)) (i:Nat),gi i (encL V ω l)=(G4 i l).map λp=>(p.1,am V ω p.2)
 |[],i=>rfl
 |x::r,i=>by simp[encL,gi,G4,iy r (i+1)]
theorem sk:∀{ps:List (Pt V.ι)} {ls ls':List (dh V.N)} {xs:List (TV V.N)},bdL V ps ls=some (xs,ls')->xs.length=ps.length
 |[],ls,ls',xs,h=>by simp[bdL]at h;rw[h.1];rfl
 |p::r,ls,ls',xs,h=>by
  simp only[bdL]at h
  split at h
  ·rename_i x l1 h1
   split at h
   ·rename_i ys l2 h2
    simp at h
    rw[<-h.1]
    simp[sk h2]
   ·cases h
  ·cases h
theorem dX:∀{objs:List (Nat×OPt V.ι)} {ls:List (dh V.N)} {os:List (Nat×TO V.N)},bdO V objs ls=some os->os.map (·.1)=objs.map (·.1)
 |[],[],os,h=>by simp[bdO]at h;subst h;rfl
 |[],_::_,os,h=>by simp[bdO]at h
 |(c, .box oty ps)::r,ls,os,h=>by
  simp only[bdO]at h
  split at h
  ·split at h
   ·rename_i os' h2
    simp at h;subst h
    simp[dX h2]
   ·cases h
  ·cases h
 |(c, .st i)::r,[],os,h=>by simp[bdO]at h
 |(c, .vec te e)::r,[],os,h=>by simp[bdO]at h
 |(c, .st i)::r,⟨t,x⟩::ls,os,h=>by
  cases t<;>simp only[bdO]at h<;>first
   |(cases h;done)
   |(split at h
     ·split at h
      ·rename_i os' h2
       simp at h;subst h
       simp[dX h2]
      ·cases h
     ·cases h)
 |(c, .vec te e)::r,⟨t,x⟩::ls,os,h=>by
  cases t<;>simp only[bdO]at h<;>first
   |(cases h;done)
   |(split at h
     ·split at h
      ·rename_i os' h2
       simp at h;subst h
       simp[dX h2]
      ·cases h
     ·cases h)
 |(c, .dvec te e true)::r,[],os,h=>by simp[bdO]at h
 |(c, .dvec te e false)::r,[],os,h=>by simp[bdO]at h
 |(c, .dvec te e true)::r,⟨t,x⟩::ls,os,h=>by
  cases t<;>first
   |(simp[bdO]at h;done)
   |(rename_i t2;cases t2<;>first
    |(simp[bdO]at h;done)
    |(simp only[bdO]at h
      split at h
      ·split at h
       ·rename_i os' h2
        simp at h;subst h
        simp[dX h2]
       ·cases h
      ·cases h))
 |(c, .dvec te e false)::r,⟨t,x⟩::ls,os,h=>by
  cases t<;>simp only[bdO]at h<;>first
   |(cases h;done)
   |(split at h
     ·split at h
      ·rename_i os' h2
       simp at h;subst h
       simp[dX h2]
      ·cases h
     ·cases h)
 |(c, .iter)::r,[],os,h=>by simp[bdO]at h
 |(c, .iter)::r,[⟨t,x⟩],os,h=>by
  cases t<;>simp[bdO]at h
 |(c, .iter)::r,⟨t,x⟩::⟨t2,x2⟩::ls,os,h=>by
  cases t<;>first
   |(simp[bdO]at h;done)
   |(cases t2<;>first
    |(simp[bdO]at h;done)
    |(rename_i ki;cases ki<;>first
     |(simp[bdO]at h;done)
     |(simp only[bdO]at h
       split at h
       ·rename_i os' h2
        simp at h;subst h
        simp[dX h2]
       ·cases h)))
 |(c, .miter cm k v)::r,[],os,h=>by simp[bdO]at h
 |(c, .miter cm k v)::r,[⟨t,x⟩],os,h=>by
  cases t<;>simp[bdO]at h
 |(c, .miter cm k v)::r,⟨t,x⟩::⟨t2,x2⟩::ls,os,h=>by
  cases t<;>first
   |(simp[bdO]at h;done)
   |(cases t2<;>first
    |(simp[bdO]at h;done)
    |(simp only[bdO]at h
      split at h
      ·split at h
       ·rename_i os' h2
        simp at h;subst h
        simp[dX h2]
       ·cases h
      ·cases h))
 |(c, .map tk tv)::r,[],os,h=>by simp[bdO]at h
 |(c, .map tk tv)::r,⟨t,x⟩::ls,os,h=>by
  cases t<;>simp only[bdO]at h<;>first
   |(cases h;done)
   |(split at h
     ·split at h
      ·rename_i os' h2
       simp at h;subst h
       simp[dX h2]
      ·cases h
     ·cases h)
theorem kA(c:Cut V.ι)(ls:List (dh V.N))(h:dj (c.objs.map (·.1))=true):dj ((build V c ls).own.map (·.1))=true:=by
 unfold build
 split
 ·split
  ·rename_i os ho
   simp only
   rw[dX ho];exact h
  ·rfl
 ·rfl
theorem gf{ω:Nat->Nat}:∀{os:List (Nat×TO V.N)} {n:Nat} {x:TO V.N} {o:Own},gt os n=some x->bh V ω x=some o->gt (bo ω os) n=some o
 |[],n,x,o,h,_=>by simp[gt]at h
 |(k,y)::r,n,x,o,h,ho=>by
  rw[ah]at h
  unfold bo
  rw[Vx]
  by_cases hk:k=n
  ·rw[XG hk]at h;cases h
   simp only[ho,Uw,ah]
   rw[XG hk]
  ·rw[XF hk]at h
   have ih:=gf (ω:=ω) h ho
   unfold bo at ih
   cases hy:bh V ω y with
   |none=>simp only[hy,Wo];exact ih
   |some z=>
    simp only[hy,Uw,ah]
    rw[XF hk];exact ih
theorem lI{X:Xc V}{sig:Sig V}(hsh:X.sh.rcut=sig.rcut){fid:FuncId}{fn:Func}{c:Code}(hf:X.P.funcs[fid]?=some fn)(hb:fn.body=some c)(hn:fn.ntmps=X.n)(hrs:fn.results.toList=sig.rvars)
 (hname:(fn.name != "runtime.NumGoroutine")=true)(hlen:VY sig.params.length X.n=true)(hm:X.P.follows .mixedOrders=true)(hcall:ax X.P X.call)
 (hdr:dj (sig.rcut.objs.map (·.1))=true)(hl:∀C:Ctx,C.P=X.P->C.N=X.n/\Fx C X.pre->LOk C X c){v:HL V.N sig.tys}{r:HL V.N sig.rcut.tys}(h:exF X sig hsh c v=some r):
 ∀x,pW X.P sig r=some x->
  iA X.P fid (encL V (az sig v).len (aU sig v).1) (bo (az sig v).len (az sig v).own) (am V (bP V sig.rcut r).len x) (bo (bP V sig.rcut r).len (jb sig r)):=by
 obtain⟨params,objs,rcut,rvars,keep⟩:=sig
 simp only at hsh
 subst hsh
 intro x hx
 have hargs:(aU ⟨params,objs,X.sh.rcut,rvars,keep⟩ v).1.length<=X.n:=by
  have hp:params.length<=X.n:=Vg hlen
  unfold aU
  split
  ·rename_i xs ls h1
   split
   ·simp only;rw[sk h1];exact hp
   ·simp
  ·simp
 refine AZ hf hb hname (by rw[aF,hn];exact hargs) λC hP hN=> ?_
 have hent:Ent ⟨gi 0 (encL V (az ⟨params,objs,X.sh.rcut,rvars,keep⟩ v).len (aU ⟨params,objs,X.sh.rcut,rvars,keep⟩ v).1),ko (bo (az ⟨params,objs,X.sh.rcut,rvars,keep⟩ v).len (az ⟨params,objs,X.sh.rcut,rvars,keep⟩ v).own)⟩
  (aG V (az ⟨params,objs,X.sh.rcut,rvars,keep⟩ v)):=by
  refine Ent.le (λt y hy=>⟨y,?_,H.le.refl _⟩) λn o ho=>⟨o,?_,OLe.refl _⟩
  ·rw[iy];exact hy
  ·rw[aM,Vp]at ho
   obtain⟨o',ho',hoo⟩:=ho
   have:=gf (os:=(az ⟨params,objs,X.sh.rcut,rvars,keep⟩ v).own) ho' hoo
   unfold ae.own?
   rw[bG]
   exact this
 have hend:∀e σ,(e= .normal\/e= .ret)->Ent σ (aG V (bP V X.sh.rcut r))->
  tT X.P fn.results.toList (am V (bP V X.sh.rcut r).len x) (bo (bP V X.sh.rcut r).len (jb ⟨params,objs,X.sh.rcut,rvars,keep⟩ r)) e σ:=by
  intro e σ he hσ
  unfold pW at hx
  rw[Ug]at hx
  obtain⟨vs,hvs,hone⟩:=hx
  obtain⟨hs,g1,g2,g3⟩:=jO hvs
  have hh:∃y,Ia X.P (aG V (bP V X.sh.rcut r)) fn.results.toList=some y/\H.le y (am V (bP V X.sh.rcut r).len x):=by
   rw[hrs]
   unfold Ia
   rw[g1]
   cases vs with
   |nil=>
    have:hs=[]:=Uz (by simpa using g2)
    subst this;subst hone
    exact⟨.tup [],rfl,by simp only[K7,am,encL];exact H.le.refl _⟩
   |cons a l=>
    cases l with
    |nil=>
     cases hs with
     |nil=>simp at g2
     |cons y l'=>
      have:l'=[]:=Uz (by simpa using g2)
      subst this;subst hone
      obtain⟨z,z1,z2⟩:=g3 0 a rfl
      simp at z1;subst z1
      exact⟨y,rfl,z2⟩
    |cons b l=>
     cases hs with
     |nil=>simp at g2
     |cons y l'=>
      cases l' with
      |nil=>simp at g2
      |cons y2 l2=>
       subst hone
       refine⟨.tup (y::y2::l2),rfl,?_⟩
       simp only[K7,am]
       refine vS (by rw[aF];exact g2) λi w hw=> ?_
       rw[encL_map,Ua,Ug]at hw
       obtain⟨u,hu,rfl⟩:=hw
       exact g3 i u hu
  obtain⟨y,hy1,hy2⟩:=hh
  refine⟨he,_,hσ,y,hy1,hy2,λn o ho=> ?_⟩
  obtain⟨o',h1,h2⟩:=cz ho
  have h1:(n,o')∈(bP V X.sh.rcut r).own:=(Wq.1 h1).1
  have:=hG (kA X.sh.rcut _ hdr) h1
  rw[aM]
  unfold TS.own?
  unfold bP at *
  rw[this]
  exact h2
 refine .ent hent (g7 hP ⟨by rw[hN.1,hn],λp hp=>(by rw[hN.2]at hp;cases hp)⟩ hm hcall c _ _ _ _ _ r _ (hl C hP ⟨by rw[hN.1,hn],λp hp=>(by rw[hN.2]at hp;cases hp)⟩) h ⟨λS σ hk he=> ?_,λid S σ _ hk he=>(by cases hk),λl S σ hk he=>(by cases hk),λw σ hk he=> ?_⟩)
 ·exact hend _ σ (.inl rfl) (Ent.trans he (dz hk))
 ·have:w=r:=by simpa using hk
  subst this
  exact hend _ σ (.inr rfl) he
end
end Go.Tx
end
section
namespace Go.Tx
open Go.Awp
variable [Inhabited GMem]
section
variable {V:mD}
mutual
def TV.plain:TV V.N->Bool
 | .lf .. =>true
 | .raw _=>true
 | .rp .. =>true
 | .junk=>true
 | .agg cs=>TV.plainL cs
 | .tup vs=>TV.plainL vs
 | .fn _ a b=>TV.plainL a&&TV.plainL b
 |_=>false
def TV.plainL:List (TV V.N)->Bool
 |[]=>true
 |x::r=>TV.plain x&&TV.plainL r
end
mutual
theorem plain_has:∀{x:TV V.N},TV.plain x=true->∀n,TV.has n x=false
 | .lf ..,_,n=>by simp[TV.has]
 | .raw _,_,n=>by simp[TV.has]
 | .rp ..,_,n=>by simp[TV.has]
 | .junk,_,n=>by simp[TV.has]
 | .agg cs,h,n=>by simp only[TV.plain]at h;simp only[TV.has];exact plainL_has h n
 | .tup cs,h,n=>by simp only[TV.plain]at h;simp only[TV.has];exact plainL_has h n
 | .fn f a b,h,n=>by
  simp only[TV.plain,Uf]at h
  simp only[TV.has,plainL_has h.1 n,plainL_has h.2 n];rfl
 | .bp ..,h,n=>by simp[TV.plain]at h
 | .vh ..,h,n=>by simp[TV.plain]at h
 | .ep ..,h,n=>by simp[TV.plain]at h
 | .sv ..,h,n=>by simp[TV.plain]at h
 | .mp ..,h,n=>by simp[TV.plain]at h
 | .np ..,h,n=>by simp[TV.plain]at h
 | .sd ..,h,n=>by simp[TV.plain]at h
theorem plainL_has:∀{l:List (TV V.N)},TV.plainL l=true->∀n,TV.hasL n l=false
 |[],_,n=>by simp[TV.hasL]
 |x::r,h,n=>by
  simp only[TV.plainL,Uf]at h
  simp only[TV.hasL,plain_has h.1 n,plainL_has h.2 n];rfl
end
theorem vz{x:TV V.N}(h:TV.plain x=true)(ω ω':Nat->Nat):am V ω' x=am V ω x:=mO x λn hn=>by rw[plain_has h n]at hn;cases hn
def Ty.flat{ι:Type}:Ty ι->Bool
 | .int _=>true
 | .bool=>true
 | .str=>true
 |_=>false
def iN:TV V.N->Bool
 | .lf t x=>(aK V t x).all λl=>l.t.flat
 |_=>false
def j6:TV V.N->Bool
 | .tup vs=>vs.all iN
 |x=>iN x
theorem xx{x:TV V.N}(h:iN x=true):TV.plain x=true:=by
 cases x<;>first|rfl|(simp[iN]at h;done)
theorem AY{x:TV V.N}(h:j6 x=true):TV.plain x=true:=by
 cases x with
 |tup vs=>
  simp only[j6,Uj]at h
  simp only[TV.plain]
  have:∀l:List (TV V.N),(∀x∈l,iN x=true)->TV.plainL l=true:=by
   intro l
   induction l with
   |nil=>intro _;rfl
   |cons y r ih=>intro h;simp only[TV.plainL,Uf];exact⟨xx (h y T_),ih λx hx=>h x (T6 _ hx)⟩
  exact this vs h
 |lf t x=>rfl
 |raw _=>rfl
 |rp a b c=>rfl
 |junk=>rfl
 |agg cs=>simp[j6,iN]at h
 |fn f a b=>simp[j6,iN]at h
 |bp a b=>simp[j6,iN]at h
 |vh a=>simp[j6,iN]at h
 |ep a b c d=>simp[j6,iN]at h
 |sv a b c d=>simp[j6,iN]at h
 |mp a=>simp[j6,iN]at h
 |np a b=>simp[j6,iN]at h
 |sd a=>simp[j6,iN]at h
theorem lH{l:dh V.N}(h:l.t.flat=true){M M':Mem}{v:Value}(hv:c_ M v (aN V.sz V.enc l.t l.x)):c_ M' v (aN V.sz V.enc l.t l.x):=by
 obtain⟨t,x⟩:=l
 cases t with
 |int k=>simp only[aN]at hv⊢;cases hv;exact .v _
 |bool=>simp only[aN]at hv⊢;cases hv;exact .v _
 |str=>simp only[aN]at hv⊢;cases hv;exact .v _
 |st i=>simp[Ty.flat]at h
 |sl e=>simp[Ty.flat]at h
 |mp k v=>simp[Ty.flat]at h
 |er=>simp[Ty.flat]at h
 |op e=>simp[Ty.flat]at h
 |fnc=>simp[Ty.flat]at h
theorem uG{x:TV V.N}(h:iN x=true){ω:Nat->Nat}{E E':Env}{M M':Mem}{v:Value}(hv:aL E M v (am V ω x)):aL E' M' v (am V ω x):=by
 cases x with
 |lf t x=>
  simp only[iN,Uj]at h
  simp only[am]at hv⊢
  cases hv with
  |d hd=>
   refine .d ?_
   cases t with
   |st i=>
    simp only[aN]at hd⊢
    rw[V.enc_cells]at hd⊢
    cases hd with
    |agg cs _ hl hh=>
     refine .agg cs _ hl λk c y hc hy=> ?_
     rw[Ua]at hy
     cases hq:(V.cells i x)[k]? with
     |none=>rw[hq]at hy;cases hy
     |some l=>
      rw[hq]at hy;simp at hy;subst hy
      exact lH (h l (Ui hq)) (hh k c _ hc (by rw[Ua,hq];rfl))
   |int k=>exact lH (l:=⟨.int k,x⟩) rfl hd
   |bool=>exact lH (l:=⟨.bool,x⟩) rfl hd
   |str=>exact lH (l:=⟨.str,x⟩) rfl hd
   |sl e=>simp[aK,Ty.flat]at h
   |mp k v=>simp[aK,Ty.flat]at h
   |er=>simp[aK,Ty.flat]at h
   |op e=>simp[aK,Ty.flat]at h
   |fnc=>simp[aK,Ty.flat]at h
 |_=>simp[iN]at h
theorem G8{x:TV V.N}(h:j6 x=true){ω:Nat->Nat}{E E':Env}{M M':Mem}{v:Value}(hv:aL E M v (am V ω x)):aL E' M' v (am V ω x):=by
 cases x with
 |tup vs=>
  simp only[j6,Uj]at h
  simp only[am]at hv⊢
  obtain⟨cs,rfl,h1,h2⟩:=hv.htup
  refine .tup cs _ h1 λi c y hc hy=> ?_
  rw[encL_map,Ua]at hy
  cases hq:vs[i]? with
  |none=>rw[hq]at hy;cases hy
  |some u=>
   rw[hq]at hy;simp at hy;subst hy
   exact uG (h u (Ui hq)) (h2 i c _ hc (by rw[encL_map,Ua,hq];rfl))
 |lf t x=>exact uG (x:= .lf t x) (by simpa[j6]using h) hv
 |_=>simp[j6,iN]at h
def bV(own:List (Nat×Own))(a a0:H):Prop:=∀(E:Env) (M:Mem) (w:World) (v:Value),M.le (fI w)->CL E M w own->aL E M v a->aL E (fI w) v a0
theorem bV.le{own:List (Nat×Own)}{a a0:H}(h:H.le a a0):bV own a a0:=λE M w v hM _ hv=>(h E M v hv).le hM
theorem bV.agg{own:List (Nat×Own)}{l l0:List H}(hl:l0.length=l.length)(h:∀(i:Nat) (a a0:H),l[i]?=some a->l0[i]?=some a0->bV own a a0):bV own (.agg l) (.agg l0):=λE M w v hM ho hv=>by
 obtain⟨cs,rfl,h1,h2⟩:=hv.hagg
 refine .agg cs l0 (by omega) λi c x hc hx=> ?_
 have hi:i<l.length:=by rw[<-hl];exact(T7.1 hx).1
 exact h i _ x (T8 hi) hx E M w c hM ho (h2 i c _ hc (T8 hi))
theorem bV.vh{own:List (Nat×Own)}{n e sz:Nat}{rows:List (List D)}(h1:gt own n=some (.vec e sz rows)):bV own (.vh n rows.length) (.d (.sl sz rows)):=λE M w v hM ho hca=>by
 obtain⟨xs,g1,g2,g3,g4⟩:=ho.ok n _ h1
 refine .d ?_
 cases hca with
 |vh n len l cc a hE hle=>
  rcases g1.2 with⟨hnil,hz⟩|⟨g,cap,cur,hE',hbg,hg,hnc,hcm,hcs,htake⟩
  ·rw[hE]at hnil
   simp only[Value.slice.injEq]at hnil
   obtain⟨rfl,rfl,rfl⟩:=hnil
   have:rows=[]:=Uz hz
   subst this
   exact .slnil sz
  ·rw[hE]at hE'
   simp only[Value.slice.injEq]at hE'
   obtain⟨rfl,rfl,rfl⟩:=hE'
   refine .sl g 0 _ _ sz rows (λk=>xs.getD k undef) rfl hnc g2 (λk hk=> ?_) λi j r x hr' hx=> ?_
   ·have hxk:k<xs.length:=by rw[g1.1];exact hk
    obtain⟨u,hu⟩:∃u,xs[k]?=some u:=⟨_,T8 hxk⟩
    have hq:w.cell? ⟨g,k,none⟩=some u:=by
     rw[cell_of_row w g k cur e (0,0) hg]
     have hu':=hu
     rw[<-htake,US,XG hk]at hu'
     simpa using hu'
    simp[fI,hq,hu]
   ·have hlr:=g2 r (Ui hr')
    have hir:i<rows.length:=(T7.1 hr').1
    have hj:j<sz:=by have:=(T7.1 hx).1;omega
    have hmul:(i+1) *sz<=rows.length *sz:=UH _ hir
    rw[U5]at hmul
    have hxk:i *sz+j<xs.length:=by rw[g1.1];omega
    have:=g3 i j r xs[i *sz+j] x hr' hx (T8 hxk)
    have hg':xs.getD (i *sz+j) undef=xs[i *sz+j]:=by simp[hxk]
    rw[hg']
    exact this.mono hM
theorem bV.dvh{own:List (Nat×Own)}{n e sz:Nat}{rows:List (List DD)}{ds:List (List D)}(h1:gt own n=some (.dvec e sz rows))(hd:DD.toR rows=some ds):bV own (.vh n rows.length) (.d (.sl sz ds)):=λE M w v hM ho hca=>by
 have hok:=ho.ok n _ h1
 obtain⟨ad,cap,hE⟩:=hok.dlen
 have hv:=vV hca hE
 subst hv
 obtain⟨B,g1,g2,g3⟩:=hok
 exact .d (g1.frozen hM (λb _ o v hv=>hv) (xs:=[.sl sz ds]) (by simp[DD.toL,DD.toD,hd]) 0 _ _ rfl rfl)
def uT:TO V.N->Option (dh V.N)
 | .vec _ e xs=>some ⟨.sl e,xs⟩
 | .dvec _ e ys=>some ⟨.sl e,ys⟩
 |_=>none
theorem lP{o:TO V.N}{l0:dh V.N}(h:uT o=some l0):∃x:Own,(∀ω,bh V ω o=some x)/\∀(own:List (Nat×Own)) (n:Nat),gt own n=some x->bV own (.vh n (TO.len (some o))) (.d (aN V.sz V.enc l0.t l0.x)):=by
 unfold uT at h
 split at h
 ·rename_i te e xs
  cases h
  refine⟨_,λω=>rfl,λown n hn=> ?_⟩
  have:=bV.vh hn
  rw[Ub]at this
  exact this
 ·rename_i te e ys
  cases h
  refine⟨_,λω=>rfl,λown n hn=> ?_⟩
  have:=bV.dvh hn (tq ys)
  rw[Ub]at this
  simpa[TO.len,aN]using this
 ·cases h
theorem Su{P:Program}{f:FuncId}{args0 args:List H}{r:H}{own:List (Nat×Own)}(h:iA P f args0 [] r [])(hl:args.length=args0.length)
 (ha:∀(i:Nat) (a a0:H),args[i]?=some a->args0[i]?=some a0->bV own a a0)
 (hr:∀(E E':Env) (M M':Mem) (v:Value),aL E M v r->aL E' M' v r):IK P f args own r own:=by
 refine⟨h.1,λE M w vs hgm hm ho hvs=> ?_⟩
 have hM:M.le (fI w):=λb o v hv=>hm b o v hv
 have hrep:eU E (fI w) vs args0:=by
  refine⟨hvs.1.trans hl,λi c x hc hx=> ?_⟩
  have hi:i<args.length:=by rw[hl];exact(T7.1 hx).1
  have hca:=hvs.2 i c _ hc (T8 hi)
  exact ha i _ x (T8 hi) hx E M w c hM ho hca
 refine(h.2 E (fI w) w vs (hgm.mono hM λ_ _ _=>rfl) (λb o v hv=>hv) ⟨λn o hn=>by simp[gt]at hn,λn m o o' b _ hn=>by simp[gt]at hn⟩ hrep).mono ?_
 rintro e w' ⟨v,E',M',rfl,hp⟩
 have hfr:∀b,b<w.heap.size->w'.heap[b]?=w.heap[b]?:=λb hb=>hp.frame b hb λ⟨n,o,hn,_⟩=>by simp[gt]at hn
 have hft:∀n o,gt own n=some o->∀b,o.foot w' (E n) b->o.foot w (E n) b:=λn o hn b hb=>((ho.ok n o hn).foot_keep (λb hb=>hfr b ((ho.ok n o hn).block hb).1) b).1 hb
 refine⟨v,E,M,rfl,{rep:=hr _ _ _ _ _ hp.rep,owns:=⟨λn o hn=> ?_,λn m o o' b hne hn hm hb hb'=>ho.apart n m o o' b hne hn hm (hft n o hn b hb) (hft m o' hm b hb')⟩,mle:=Mem.le_refl _,mem:=λb o v hv=>hp.mem b o v (hp.mle b o v (hm b o v hv)),mnew:=λb o v hv=> .inl hv,home:=λn o b hn hb=> .inl ⟨n,o,hn,hft n o hn b hb⟩,frame:=λk hk _=>hfr k hk,grows:=hp.grows,os:=hp.os,tape:=hp.tape,output:=hp.output,env:=λ_ _=>rfl},λ_ _=>rfl⟩
 have hok:=ho.ok n o hn
 refine hok.keep rfl (λb hb=>hfr b (hok.block hb).1) (λ_ _=>rfl) (Mem.le_refl _) λb hb=>(hok.block hb).2
def IP(S:TS V.N):List (Ty V.ι)->List (TV V.N)->Option (List (Nat×TO V.N)×List (dh V.N))
 |[],[]=>some ([],[])
 | .sl _::ts, .vh n::xs=>match S.own? n with
  |some o=>match uT o with
   |some l0=>match IP S ts xs with
    |some (l,ls)=>some ((n,o)::l,l0::ls)
    |none=>none
   |none=>none
  |_=>none
 |t::ts,x::xs=>match nE V false t x with
  |some l0=>match IP S ts xs with
   |some (l,ls)=>some (l,l0::ls)
   |none=>none
  |none=>none
 |_,_=>none
def MU:List (TV V.N)->Bool
 |[]=>false
 | .vh _::_=>true
 |_::r=>MU r
def OM(S:TS V.N):Pt V.ι->TV V.N->Option (List (Nat×TO V.N)×List (dh V.N))
 | .dat (.sl e), .vh n=>match S.own? n with
  |some o=>match uT o with
   |some l0=>if l0.t= .sl e then some ([(n,o)],[l0])else none
   |none=>none
  |_=>none
 | .dat (.st i), .agg vs=>match MU vs with
  |true=>match IP S (V.tys i) vs with
   |some (p::l,ls)=>match V.ofCells i ls with
    |some y=>some (p::l,[⟨.st i,y⟩])
    |none=>none
   |_=>none
  |false=>match mt1 V [] (.dat (.st i)) (.agg vs)with
   |some (_,ls)=>some ([],ls)
   |none=>none
 | .dat t,x=>match mt1 V [] (.dat t) x with
  |some (_,ls)=>some ([],ls)
  |none=>none
 | .fn f [] [], .fn f' [] []=>if f=f' then some ([],[])else none
 |_,_=>none
def wu(S:TS V.N):List (Pt V.ι)->List (TV V.N)->Option (List (Nat×TO V.N)×List (dh V.N))
 |[],[]=>some ([],[])
 |p::ps,x::xs=>match OM S p x with
  |some (l,ls)=>match wu S ps xs with
   |some (l',ls')=>some (l++l',ls++ls')
   |none=>none
  |none=>none
 |_,_=>none
def aO(P:Program)(sig:Sig V)(F:HL V.N sig.tys->Option (HL V.N sig.rcut.tys))(A:Type)(args:List (TV V.N))(S:TS V.N)(k:TE V.N->Option A):Option A:=
 match wu S sig.params args with
 |some (lent,ls)=>match Jv sig.tys ls with
  |some v=>F v>>=λr=>match pW P sig r with
   |some x=>match lent with
    |[]=>match TV.plain x with
     |true=>k {val:=x}
     |false=>none
    |p::l=>match j6 x with
     |true=>k {val:=x,acc:=(p::l).map (·.1),upd:=(p::l)++(p::l).map λq=>(q.1, .gone (TO.len (some q.2)))}
     |false=>none
   |none=>none
  |none=>none
 |none=>none
theorem Ed{σ σ':cC}{t:Ty V.ι}{x:TV V.N}{ls:List (dh V.N)}(h:mt1 V σ (.dat t) x=some (σ',ls)):σ'=σ:=by
 cases x with
 |lf t' y=>
  simp only[mt1]at h
  have:=(ao h).2
  simp only[T9,Uy]at this
  exact this.1.symm
 |raw v=>
  unfold mt1 at h
  split at h<;>first
   |(simp only[T9,Uy]at h;exact h.1.symm)
   |(cases h;done)
   |contradiction
 |agg cs=>
  unfold mt1 at h
  split at h<;>first
   |(split at h
     ·simp only[T9,Uy]at h;exact h.1.symm
     ·cases h)
   |(cases h;done)
   |contradiction
 |_=>simp[mt1]at h
theorem bV.pre{own:List (Nat×Own)}{a b c:H}(h:H.le a b)(k:bV own b c):bV own a c:=λE M w v hM ho hv=>k E M w v hM ho (h E M v hv)
theorem bV.post{own:List (Nat×Own)}{a b c:H}(h:bV own a b)(k:H.le b c):bV own a c:=λE M w v hM ho hv=>k E _ v (h E M w v hM ho hv)
def JF(own:List (Nat×Own))(l:List (Nat×TO V.N)):Prop:=∀n o,(n,o)∈l->∀x,(∀ω,bh V ω o=some x)->gt own n=some x
theorem mF{S:TS V.N}:∀{ts:List (Ty V.ι)} {xs:List (TV V.N)} {l:List (Nat×TO V.N)} {ls:List (dh V.N)},IP S ts xs=some (l,ls)->
 xs.length=ls.length/\(∀n o,(n,o)∈l->S.own? n=some o/\∃l0,uT o=some l0)/\
  ∀own:List (Nat×Own),JF own l->∀(i:Nat) (x:TV V.N) (l0:dh V.N),xs[i]?=some x->ls[i]?=some l0->bV own (am V S.len x) (.d (aN V.sz V.enc l0.t l0.x))
 |[],[],l,ls,h=>by
  simp[IP]at h;obtain⟨rfl,rfl⟩:=h
  exact⟨rfl,λn o hm=>by simp at hm,λown _ i x l0 hx=>by simp at hx⟩
 |[],_::_,l,ls,h=>by simp[IP]at h
 |_::_,[],l,ls,h=>by unfold IP at h;split at h<;>first|(cases h;done)|contradiction
 |t::ts,x::xs,l,ls,h=>by
  unfold IP at h
  split at h
  ·rename_i heq _;cases heq
  ·rename_i e ts' n xs' heq1 heq2
   simp only[VM]at heq1 heq2
   obtain⟨rfl,rfl⟩:=heq1
   obtain⟨rfl,rfl⟩:=heq2
   split at h
   ·rename_i o hn
    split at h
    ·rename_i l00 hl0
     split at h
     ·rename_i l' ls' h2
      simp at h;obtain⟨rfl,rfl⟩:=h
      obtain⟨b1,b2,b3⟩:=mF h2
      refine⟨by simp[b1],λm o hm=> ?_,λown hown i y l0 hy hl=> ?_⟩
      ·rcases Uh.1 hm with he|hm
       ·simp only[Uy]at he
        obtain⟨rfl,rfl⟩:=he
        exact⟨hn,_,hl0⟩
       ·exact b2 m o hm
      ·cases i with
       |zero=>
        simp at hy hl;subst hy;subst hl
        obtain⟨x,x1,x2⟩:=lP hl0
        have:=x2 own n (hown n o T_ x x1)
        simp only[am]
        unfold TS.len
        rw[hn];exact this
       |succ i=>exact b3 own (λm a hm=>hown m a (T6 _ hm)) i y l0 (by simpa using hy) (by simpa using hl)
     ·cases h
    ·cases h
   ·cases h
  ·rename_i t' ts' x' xs' _ heq1 heq2
   simp only[VM]at heq1 heq2
   obtain⟨rfl,rfl⟩:=heq1
   obtain⟨rfl,rfl⟩:=heq2
   split at h
   ·rename_i l0 hl
    split at h
    ·rename_i l' ls' h2
     simp at h;obtain⟨rfl,rfl⟩:=h
     obtain⟨b1,b2,b3⟩:=mF h2
     refine⟨by simp[b1],b2,λown hown i y l1 hy hl1=> ?_⟩
     cases i with
     |zero=>
      simp at hy hl1;subst hy;subst hl1
      have hls:cF V false [t] [x]=some [l0]:=by simp[cF,hl]
      obtain⟨ds,e1,e2,_⟩:=ck (ω:=S.len) hls
      simp only[encL]at e1
      obtain⟨d,hd⟩:∃d,ds=[d]:=by
       match ds,e1 with
       |[d],_=>exact⟨d,rfl⟩
       |[],e1=>simp at e1
       |_::_::_,e1=>simp at e1
      subst hd
      simp only[Ud,UL,VM,and_true]at e1
      rw[e1]
      obtain⟨d0,g1,g2⟩:=e2.get 0 (aN V.sz V.enc l0.t l0.x) rfl
      simp at g1;subst g1
      refine bV.le λE M a hr=> ?_
      cases hr with
      |d q=>exact .d (g2 M a q)
     |succ i=>exact b3 own hown i y l1 (by simpa using hy) (by simpa using hl1)
    ·cases h
   ·cases h
  ·cases h
theorem Av{S:TS V.N}{p:Pt V.ι}{x:TV V.N}{l:List (Nat×TO V.N)}{ls:List (dh V.N)}(h:OM S p x=some (l,ls)):
 (∃x0,(∀rest,bd1 V p (ls++rest)=some (x0,rest))/\∀ω0:Nat->Nat,(l=[]->H.le (am V S.len x) (am V ω0 x0))/\∀own,JF own l->bV own (am V S.len x) (am V ω0 x0))/\
   ∀n o,(n,o)∈l->S.own? n=some o/\∃l0,uT o=some l0:=by
 unfold OM at h
 split at h
 ·rename_i e n
  split at h
  ·rename_i o hn
   split at h
   ·rename_i l0 hl0
    have h':=ao h;clear h
    obtain⟨he,h⟩:=h'
    simp at h;obtain⟨rfl,rfl⟩:=h
    refine⟨⟨.lf l0.t l0.x,λrest=>rfl,λω0=>⟨λhl=>by simp at hl,λown hown=> ?_⟩⟩,λm o' hm=> ?_⟩
    ·obtain⟨x,x1,x2⟩:=lP hl0
     have:=x2 own n (hown n o T_ x x1)
     simp only[am]
     unfold TS.len
     rw[hn];exact this
    ·simp at hm
     obtain⟨rfl,rfl⟩:=hm
     exact⟨hn,l0,hl0⟩
   ·cases h
  ·cases h
 ·rename_i i vs
  split at h
  ·split at h
   ·rename_i p0 l0 ls0 hC
    split at h
    ·rename_i y hy
     simp at h;obtain⟨rfl,rfl⟩:=h
     obtain⟨b1,b2,b3⟩:=mF hC
     refine⟨⟨.lf (.st i) y,λrest=>rfl,λω0=>⟨λhl=>by simp at hl,λown hown=> ?_⟩⟩,b2⟩
     have hc:=V.of_cells i ls0 y hy
     simp only[am,aN]
     refine bV.pre (lS _) (bV.post (bV.agg (l0:=ls0.map λl=> .d (aN V.sz V.enc l.t l.x)) (by rw[Ub,aF];exact b1.symm) λi a a0 ha ha0=> ?_) ?_)
     ·rw[encL_map,Ua,Ug]at ha
      rw[Ua,Ug]at ha0
      obtain⟨u,hu,rfl⟩:=ha
      obtain⟨l1,hl1,rfl⟩:=ha0
      exact b3 own hown i u l1 hu hl1
     ·have e1:V.enc i y=ls0.map λl=>aN V.sz V.enc l.t l.x:=by rw[V.enc_cells,hc]
      have:=sM ((ls0.map λl=>aN V.sz V.enc l.t l.x).map H.d)
      rw[cR,eV]at this
      rw[e1]
      rw[UC]at this
      exact this
    ·cases h
   ·cases h
  ·split at h
   ·rename_i σ ls' h1
    simp at h;obtain⟨rfl,rfl⟩:=h
    obtain⟨_,_,_,x0,a1,a2⟩:=pm h1
    have hσ:=Ed h1
    subst hσ
    have hle:∀ω0:Nat->Nat,H.le (am V S.len (.agg vs)) (am V ω0 x0):=λω0 E M v hv=>a2 [] [] E E M S.len ω0 v (Sub.refl _) rfl ⟨λc n hc=>by simp[gt]at hc,λc n hc=>by simp at hc⟩ hv
    exact⟨⟨x0,a1,λω0=>⟨λ_=>hle ω0,λown _=>bV.le (hle ω0)⟩⟩,λn o hm=>by simp at hm⟩
   ·cases h
 ·rename_i t x' hne hne2
  split at h
  ·rename_i σ ls' h1
   simp at h;obtain⟨rfl,rfl⟩:=h
   obtain⟨_,_,_,x0,a1,a2⟩:=pm h1
   have hσ:=Ed h1
   subst hσ
   have hle:∀ω0:Nat->Nat,H.le (am V S.len x) (am V ω0 x0):=λω0 E M v hv=>a2 [] [] E E M S.len ω0 v (Sub.refl _) rfl ⟨λc n hc=>by simp[gt]at hc,λc n hc=>by simp at hc⟩ hv
   exact⟨⟨x0,a1,λω0=>⟨λ_=>hle ω0,λown _=>bV.le (hle ω0)⟩⟩,λn o hm=>by simp at hm⟩
  ·cases h
 ·rename_i f f'
  have h':=ao h;clear h
  obtain⟨he,h⟩:=h'
  subst he
  simp at h;obtain⟨rfl,rfl⟩:=h
  have hle:∀ω0:Nat->Nat,H.le (am V S.len (.fn f [] [])) (am V ω0 (.fn f [] []:TV V.N)):=λω0=>by simp only[am,encL];exact H.le.refl _
  exact⟨⟨.fn f [] [],λrest=>rfl,λω0=>⟨λ_=>hle ω0,λown _=>bV.le (hle ω0)⟩⟩,λn o hm=>by simp at hm⟩
 ·cases h
theorem oH{S:TS V.N}:∀{ps:List (Pt V.ι)} {xs:List (TV V.N)} {l:List (Nat×TO V.N)} {ls:List (dh V.N)},wu S ps xs=some (l,ls)->
 ∃xs0:List (TV V.N),xs0.length=xs.length/\(∀rest,bdL V ps (ls++rest)=some (xs0,rest))/\(∀(i:Nat) (x x0:TV V.N),xs[i]?=some x->xs0[i]?=some x0->
  ∀ω0:Nat->Nat,(l=[]->H.le (am V S.len x) (am V ω0 x0))/\∀own,JF own l->bV own (am V S.len x) (am V ω0 x0))/\
  ∀n o,(n,o)∈l->S.own? n=some o/\∃l0,uT o=some l0
 |[],[],l,ls,h=>by
  simp[wu]at h;obtain⟨rfl,rfl⟩:=h
  exact⟨[],rfl,λrest=>rfl,λi x x0 hx=>by simp at hx,λn o hm=>by simp at hm⟩
 |[],_::_,l,ls,h=>by simp[wu]at h
 |_::_,[],l,ls,h=>by simp[wu]at h
 |p::ps,x::xs,l,ls,h=>by
  simp only[wu]at h
  split at h
  ·rename_i l1 ls1 h1
   split at h
   ·rename_i l2 ls2 h2
    simp at h;obtain⟨rfl,rfl⟩:=h
    obtain⟨⟨x0,a1,a2⟩,a3⟩:=Av h1
    obtain⟨xs0,b1,b2,b3,b4⟩:=oH h2
    refine⟨x0::xs0,by simp[b1],λrest=>by simp only[bdL,UO,a1,b2],λi y y0 hy hy0 ω0=> ?_,λn o hm=> ?_⟩
    ·cases i with
     |zero=>
      simp at hy hy0;subst hy;subst hy0
      exact⟨λhl=>(a2 ω0).1 (Wf.1 hl).1,λown hown=>(a2 ω0).2 own λm a hm=>hown m a (Vq _ hm)⟩
     |succ i=>
      have:=b3 i y y0 (by simpa using hy) (by simpa using hy0) ω0
      exact⟨λhl=>this.1 (Wf.1 hl).2,λown hown=>this.2 own λm a hm=>hown m a (VI _ hm)⟩
    ·rcases Uk.1 hm with hm|hm
     ·exact a3 n o hm
     ·exact b4 n o hm
   ·cases h
  ·cases h
theorem nK{own:List (Nat×Own)}:∀{l:List (Nat×Own)},(∀p∈l,∃o,gt own p.1=some o)->d_ own l=[]
 |[],_=>rfl
 |(n,o)::r,h=>by
  obtain⟨o',ho⟩:=h (n,o) T_
  simp only at ho
  simp only[d_,ho]
  exact nK λp hp=>h p (T6 _ hp)
theorem aj{P:Program}{fid:Nat}{sig:Sig V}{F:HL V.N sig.tys->Option (HL V.N sig.rcut.tys)}(hF:aq P fid sig F)(ho:sig.objs=[])(hk0:sig.keep=[]){A:Type}{args:List (TV V.N)}{S:TS V.N}{dst:Option Tmp}
 {k:TE V.N->Option A}{r:A}(h:aO P sig F A args S k=some r):
 ∃te,k te=some r/\good S te/\wn P fid (encL V S.len args) (aG V S).own? λe'=>ELe true e' (gm (S.app dst te).len te):=by
 unfold aO at h
 split at h
 ·rename_i lent ls hargs
  split at h
  ·rename_i v hv
   obtain⟨y,hy,h⟩:=bA h
   split at h
   ·rename_i x hx
    have hc:=hF v y x hy hx
    have hkept:jb sig y=[]:=by
     unfold jb
     rw[hk0,List.filter_eq_nil_iff]
     intro p _;simp
    rw[hkept]at hc
    obtain⟨xs0,b1,b2,b3,b4⟩:=oH hargs
    have hls:=ql hv
    have hst:aU sig v=(xs0,[]):=by
     unfold aU
     rw[hls]
     have:=b2 []
     rw[UZ]at this
     rw[this,ho]
     rfl
    have hown0:(az sig v).own=[]:=by unfold az;rw[hst]
    rw[hst,hown0]at hc
    simp only[bo,List.filterMap_nil]at hc
    generalize (az sig v).len=ω0 at hc
    cases lent with
    |nil=>
     simp only at h
     split at h
     ·rename_i hpl
      refine⟨_,h,gd S x [],?_⟩
      have hw:=hc.weak (args':=encL V S.len args) (by rw[aF,aF];exact b1.symm) λi a a0 ha ha0=>by
       rw[encL_map,Ua,Ug]at ha ha0
       obtain⟨u,hu,rfl⟩:=ha
       obtain⟨u0,hu0,rfl⟩:=ha0
       exact(b3 i u u0 hu hu0 ω0).1 rfl
      have hplH:H.plain (am V (bP V sig.rcut y).len x)=true:=by
       have:∀z:H,(∀n,H.has n z=false)->H.plain z=true:=by
        intro z
        refine H.rec (motive_1:=λz=>(∀n,H.has n z=false)->H.plain z=true) (motive_2:=λl=>(∀n,H.hasL n l=false)->H.plainL l=true) ?_ ?_ ?_ ?_ ?_ ?_ ?_ ?_ ?_ ?_ ?_ ?_ ?_ ?_ z
        ·intro _ _;rfl
        ·intro _;rfl
        ·intro m o hn;have:=hn m;simp[H.has]at this
        ·intro m o hn;have:=hn m;simp[H.has]at this
        ·intro m s i o hn;have:=hn m;simp[H.has]at this
        ·intro m s i o hn;have:=hn m;simp[H.has]at this
        ·intro m hn;have:=hn m;simp[H.has]at this
        ·intro m b hn;have:=hn m;simp[H.has]at this
        ·intro m hn;have:=hn m;simp[H.has]at this
        ·intro cs ih hn;simp only[H.plain];exact ih λn=>by have:=hn n;simpa[H.has]using this
        ·intro cs ih hn;simp only[H.plain];exact ih λn=>by have:=hn n;simpa[H.has]using this
        ·intro f a b ih1 ih2 hn
         simp only[H.plain,Uf]
         exact⟨ih1 λn=>by have:=hn n;simp only[H.has,UQ]at this;exact this.1,ih2 λn=>by have:=hn n;simp only[H.has,UQ]at this;exact this.2⟩
        ·intro _;rfl
        ·intro x r ih1 ih2 hn
         simp only[H.plainL,Uf]
         exact⟨ih1 λn=>by have:=hn n;simp only[H.hasL,UQ]at this;exact this.1,ih2 λn=>by have:=hn n;simp only[H.hasL,UQ]at this;exact this.2⟩
       exact this _ λn=>by rw[g6];exact plain_has hpl n
      refine As hw hplH ?_
      exact oT (dst:=dst) (l:=[]) (vz hpl _ _)
     ·cases h
    |cons p l=>
     simp only at h
     split at h
     ·rename_i hfl
      generalize hL:p::l=L at h hargs b3 b4
      have hpl:=AY hfl
      refine⟨_,h,λm o hm=> ?_,?_⟩
      ·right
       simp only[dY]at hm
       cases hq:gt L m with
       |some o'=>
        rw[hq]at hm;simp at hm;subst hm
        obtain⟨h2,_⟩:=b4 m o' (ba hq)
        unfold TS.len;rw[h2]
       |none=>
        rw[hq]at hm
        have hm':=ba hm
        obtain⟨q,hq1,hq2⟩:=Us.1 hm'
        simp only[Uy]at hq2
        obtain⟨rfl,rfl⟩:=hq2
        obtain⟨h2,_⟩:=b4 q.1 q.2 hq1
        unfold TS.len;rw[h2];rfl
      ·let own:List (Nat×Own):=L.filterMap λq=>(bh V S.len q.2).map λo=>(q.1,o)
       have hmap:∀l':List (Nat×TO V.N),(∀n o,(n,o)∈l'->S.own? n=some o/\∃l0,uT o=some l0)->∀ω:Nat->Nat,
        l'.map (λq=>(q.1,bh V ω q.2))=(l'.filterMap λq=>(bh V S.len q.2).map λo=>(q.1,o)).map (λq=>(q.1,some q.2))/\
        (l'.map λq:Nat×TO V.N=>(q.1,TO.gone (N:=V.N) (TO.len (some q.2)))).map (λq=>(q.1,bh V ω q.2))=(l'.filterMap λq=>(bh V S.len q.2).map λo=>(q.1,o)).map (λq=>(q.1,none))/\
        l'.map (·.1)=(l'.filterMap λq=>(bh V S.len q.2).map λo=>(q.1,o)).map (·.1):=by
        intro l'
        induction l' with
        |nil=>intro _ ω;exact⟨rfl,rfl,rfl⟩
        |cons q r ih=>
         intro hq ω
         obtain⟨n,o⟩:=q
         obtain⟨h2,l00,hl0⟩:=hq n o T_
         obtain⟨i1,i2,i3⟩:=ih (λn o hm=>hq n o (T6 _ hm)) ω
         obtain⟨x0,e0,_⟩:=lP hl0
         simp only[Vx,e0,Uw,Ud]
         rw[i1,i2,i3]
         exact⟨rfl,rfl,rfl⟩
       have hgt:∀n x,gt own n=some x->∃o,(n,o)∈L/\S.own? n=some o/\bh V S.len o=some x:=by
        intro n x hn
        obtain⟨z,h1,h2⟩:=cz hn
        exact⟨z,h1,(b4 n z h1).1,h2⟩
       have hgt':∀n o,(n,o)∈L->∀x,(∀ω,bh V ω o=some x)->gt own n=some x:=by
        intro n o hn x hx
        have hkey:n∈own.map (·.1):=by rw[<-(hmap L b4 S.len).2.2];exact Uq (f:=(·.1)) hn
        obtain⟨x',hxx⟩:=eh hkey
        obtain⟨o',h1,h2,h3⟩:=hgt n x' hxx
        rw[(b4 n o hn).1]at h2;cases h2
        rw[hx]at h3;cases h3
        exact hxx
       have hat:=Su (args:=encL V S.len args) (own:=own) hc (by rw[aF,aF];exact b1.symm) (λi a a0 ha ha0=>by
        rw[encL_map,Ua,Ug]at ha ha0
        obtain⟨u,hu,rfl⟩:=ha
        obtain⟨u0,hu0,rfl⟩:=ha0
        exact(b3 i u u0 hu hu0 ω0).2 own hgt') (λE E' M M' v hv=>G8 hfl hv)
       refine⟨own,_,own,hat,λq hq=> ?_,?_⟩
       ·obtain⟨z,hz1,hz2⟩:=U6.1 hq
        obtain⟨h2,l00,hl0⟩:=b4 z.1 z.2 hz1
        obtain⟨x0,e0,_⟩:=lP hl0
        rw[e0]at hz2
        simp only[Uw,T9]at hz2
        subst hz2
        rw[aM,h2];exact e0 _
       ·refine bS ?_ ?_ ?_ ?_
        ·exact vz hpl _ _
        ·simp only[dH]
         exact nK λp hp=>by
          obtain⟨o,hoo⟩:=eh (Uq (f:=(·.1)) hp)
          exact⟨o,hoo⟩
        ·simp only[dH,UV]
         obtain⟨i1,i2,_⟩:=hmap L b4 (S.app dst {val:=x,acc:=L.map (·.1),upd:=L++L.map λq=>(q.1, .gone (TO.len (some q.2)))}).len
         rw[i1,i2]
        ·simp only[dH]
         exact(hmap L b4 S.len).2.2.symm
     ·cases h
   ·cases h
  ·cases h
 ·cases h
end
end Go.Tx
end
section
namespace Go.Tx
open Go.Awp
variable [Inhabited GMem]
def af(f:Func):Code:=match f.body with
 |some c=>c
 |none=> .skip
def aJ:Code->List Code
 | .seq a b=>aJ a++aJ b
 | .block _ x=>aJ x
 | .cond _ a b=>aJ a++aJ b
 | .loop b=>[b]
 | .scope b=>aJ b
 |_=>[]
def ai(c:Code)(i:Nat):Code:=match(aJ c)[i]? with
 |some b=>b
 |none=> .skip
def kX:Code->List Code
 | .seq a b=>kX a++kX b
 | .block _ x=>kX x
 | .cond _ a b=>kX a++kX b
 | .scope b=>b::kX b
 |_=>[]
def fx(p:Code->Prop):List Code->Prop
 |[]=>True
 |b::r=>p b/\fx p r
theorem eu{p:Code->Prop}:∀{l m:List Code},fx p (l++m)->fx p l/\fx p m
 |[],_,h=>⟨trivial,h⟩
 |_::_,_,h=>⟨⟨h.1,(eu h.2).1⟩,(eu h.2).2⟩
theorem bj{a b:Prop}(h:a=b)(x:a):b:=h▸x
section
variable {V:mD}
def bg(C:Ctx)(X:Xc V)(b:Code):Prop:=∀la,X.loops (bI b)=some la->dx C b la
def LX(C:Ctx)(X:Xc V)(x:Code):Prop:=∀l la,X.jumps (bI x)=some (l,la)->IL C x l la
theorem Hi{C:Ctx}{X:Xc V}:∀{c:Code},fx (bg C X) (aJ c)->fx (LX C X) (kX c)->LOk C X c:=by
 intro c
 induction c with
 |seq a b iha ihb=>intro h g;exact⟨iha (eu h).1 (eu g).1,ihb (eu h).2 (eu g).2⟩
 |block id x ih=>intro h g;exact ih h g
 |scope x ih=>intro h g;exact⟨ih h g.2,g.1⟩
 |cond c a b iha ihb=>intro h g;exact⟨iha (eu h).1 (eu g).1,ihb (eu h).2 (eu g).2⟩
 |loop b ih=>intro h g;exact h.1
 |_=>intro _ _;trivial
theorem CU{p:Code->Prop}(h:∀b,p b):∀l:List Code,fx p l
 |[]=>trivial
 |b::r=>⟨h b,CU h r⟩
theorem bc{C:Ctx}{X:Xc V}{c:Code}(h:fx (bg C X) (aJ c))(hj:∀k,X.jumps k=none:=by intro k;rfl):LOk C X c:=
 Hi h (CU (λx l la e=>by rw[hj]at e;cases e) _)
theorem dJ{C:Ctx}{X:Xc V}{b:Code}{la0:nV V X.sh}(e:X.loops (bI b)=some la0)(h:dx C b la0):bg C X b:=λla hl=>by
 rw[e]at hl
 cases hl
 exact h
end
end Go.Tx
end
section
namespace Go.Tx
open Go.Awp
variable [Inhabited GMem]
section
variable {ι:Type} {N:ι->Type}
mutual
def TV.ren(f:Nat->Nat):TV N->TV N
 | .bp n o=> .bp (f n) o
 | .vh n=> .vh (f n)
 | .ep n s i o=> .ep (f n) s i o
 | .sv n s i o=> .sv (f n) s i o
 | .mp n=> .mp (f n)
 | .np n b=> .np (f n) b
 | .sd n=> .sd (f n)
 | .agg cs=> .agg (TV.renL f cs)
 | .tup vs=> .tup (TV.renL f vs)
 | .fn g a b=> .fn g (TV.renL f a) (TV.renL f b)
 | .lf t x=> .lf t x
 | .raw v=> .raw v
 | .rp t x off=> .rp t x off
 | .junk=> .junk
def TV.renL(f:Nat->Nat):List (TV N)->List (TV N)
 |[]=>[]
 |x::r=>TV.ren f x::TV.renL f r
end
def TO.ren(f:Nat->Nat):TO N->TO N
 | .box o cells=> .box o (TV.renL f cells)
 | .bst i x=> .bst i x
 | .vec te e xs=> .vec te e xs
 | .dvec te e xs=> .dvec te e xs
 | .pvec te e xs=> .pvec te e xs
 | .map k v es=> .map k v es
 | .iter s p=> .iter s p
 | .miter m k v es rest cur=> .miter (f m) k v es rest cur
 | .gone l=> .gone l
mutual
def TV.allN(p:Nat->Bool):TV N->Bool
 | .bp n _=>p n
 | .vh n=>p n
 | .ep n _ _ _=>p n
 | .sv n _ _ _=>p n
 | .mp n=>p n
 | .np n _=>p n
 | .sd n=>p n
 | .agg cs=>TV.allNL p cs
 | .tup vs=>TV.allNL p vs
 | .fn _ a b=>TV.allNL p a&&TV.allNL p b
 | .lf .. =>true
 | .raw _=>true
 | .rp .. =>true
 | .junk=>true
def TV.allNL(p:Nat->Bool):List (TV N)->Bool
 |[]=>true
 |x::r=>TV.allN p x&&TV.allNL p r
end
def TO.allN(p:Nat->Bool):TO N->Bool
 | .box _ cells=>TV.allNL p cells
 | .bst .. =>true
 | .vec .. =>true
 | .dvec .. =>true
 | .pvec .. =>true
 | .map .. =>true
 | .iter .. =>true
 | .miter m _ _ _ _ _=>p m
 | .gone _=>false
end
section
variable {V:mD}
mutual
theorem TV.allN_has{p:Nat->Bool}{n:Nat}:∀{x:TV V.N},TV.allN p x=true->TV.has n x=true->p n=true
 | .bp m o,h,hn=>by simp[TV.has]at hn;subst hn;simpa[TV.allN]using h
 | .vh m,h,hn=>by simp[TV.has]at hn;subst hn;simpa[TV.allN]using h
 | .ep m s i o,h,hn=>by simp[TV.has]at hn;subst hn;simpa[TV.allN]using h
 | .sv m s i o,h,hn=>by simp[TV.has]at hn;subst hn;simpa[TV.allN]using h
 | .mp m,h,hn=>by simp[TV.has]at hn;subst hn;simpa[TV.allN]using h
 | .np m b,h,hn=>by simp[TV.has]at hn;subst hn;simpa[TV.allN]using h
 | .sd m,h,hn=>by simp[TV.has]at hn;subst hn;simpa[TV.allN]using h
 | .agg cs,h,hn=>by simp only[TV.allN]at h;simp only[TV.has]at hn;exact TV.allNL_has h hn
 | .tup cs,h,hn=>by simp only[TV.allN]at h;simp only[TV.has]at hn;exact TV.allNL_has h hn
 | .fn f a b,h,hn=>by
  simp only[TV.allN,Uf]at h
  simp only[TV.has,UB]at hn
  rcases hn with hn|hn
  ·exact TV.allNL_has h.1 hn
  ·exact TV.allNL_has h.2 hn
 | .lf ..,h,hn=>by simp[TV.has]at hn
 | .raw _,h,hn=>by simp[TV.has]at hn
 | .rp ..,h,hn=>by simp[TV.has]at hn
 | .junk,h,hn=>by simp[TV.has]at hn
theorem TV.allNL_has{p:Nat->Bool}{n:Nat}:∀{l:List (TV V.N)},TV.allNL p l=true->TV.hasL n l=true->p n=true
 |[],h,hn=>by simp[TV.hasL]at hn
 |x::r,h,hn=>by
  simp only[TV.allNL,Uf]at h
  simp only[TV.hasL,UB]at hn
  rcases hn with hn|hn
  ·exact TV.allN_has h.1 hn
  ·exact TV.allNL_has h.2 hn
end
theorem TO.allN_has{p:Nat->Bool}{n:Nat}{o:TO V.N}(h:TO.allN p o=true)(hn:TO.has n o=true):p n=true:=by
 cases o with
 |box oty cells=>exact TV.allNL_has h hn
 |bst i x=>simp[TO.has]at hn
 |vec te e xs=>simp[TO.has]at hn
 |dvec te e xs=>simp[TO.has]at hn
 |pvec te e xs=>simp[TO.has]at hn
 |map k v es=>simp[TO.has]at hn
 |iter s p=>simp[TO.has]at hn
 |miter m k v es rest cur=>simp[TO.has]at hn;subst hn;exact h
 |gone l=>simp[TO.has]at hn
mutual
theorem H.allN_of{p:Nat->Bool}:∀{x:H},(∀n,H.has n x=true->p n=true)->H.allN p x=true
 | .bp m o,h=>by simp only[H.allN];exact h m (by simp[H.has])
 | .vh m l,h=>by simp only[H.allN];exact h m (by simp[H.has])
 | .ep m s i o,h=>by simp only[H.allN];exact h m (by simp[H.has])
 | .sv m s i o,h=>by simp only[H.allN];exact h m (by simp[H.has])
 | .mp m,h=>by simp only[H.allN];exact h m (by simp[H.has])
 | .np m b,h=>by simp only[H.allN];exact h m (by simp[H.has])
 | .sd m,h=>by simp only[H.allN];exact h m (by simp[H.has])
 | .agg cs,h=>by simp only[H.allN];exact H.allNL_of λn hn=>h n (by simpa[H.has]using hn)
 | .tup cs,h=>by simp only[H.allN];exact H.allNL_of λn hn=>h n (by simpa[H.has]using hn)
 | .fn f a b,h=>by
  simp only[H.allN,Uf]
  exact⟨H.allNL_of λn hn=>h n (by simp[H.has,hn]),H.allNL_of λn hn=>h n (by simp[H.has,hn])⟩
 | .d _,h=>by simp[H.allN]
 | .junk,h=>by simp[H.allN]
theorem H.allNL_of{p:Nat->Bool}:∀{l:List H},(∀n,H.hasL n l=true->p n=true)->H.allNL p l=true
 |[],h=>by simp[H.allNL]
 |x::r,h=>by
  simp only[H.allNL,Uf]
  exact⟨H.allN_of λn hn=>h n (by simp[H.hasL,hn]),H.allNL_of λn hn=>h n (by simp[H.hasL,hn])⟩
end
theorem y5(f:Nat->Nat):∀l:List H,gk (H.renL f l)=gk l
 |[]=>rfl
 |x::r=>by
  have ih:=y5 f r
  cases x<;>simp[H.renL,H.ren,gk,ih]
theorem D_(f:Nat->Nat)(l:List H):H.ren f (cR l)=cR (H.renL f l):=by
 unfold cR
 rw[y5]
 split<;>simp[H.ren]
theorem AP(f:Nat->Nat)(v:Value):H.ren f (bD v)=bD v:=by cases v<;>simp[bD,H.ren]
mutual
theorem sw{f:Nat->Nat}{ω ω':Nat->Nat}:∀x:TV V.N,(∀n,TV.has n x=true->ω' (f n)=ω n)->am V ω' (TV.ren f x)=H.ren f (am V ω x)
 | .bp m o,h=>by simp[TV.ren,am,H.ren]
 | .vh m,h=>by simp[TV.ren,am,H.ren,h m (by simp[TV.has])]
 | .ep m s i o,h=>by simp[TV.ren,am,H.ren]
 | .sv m s i o,h=>by simp[TV.ren,am,H.ren]
 | .mp m,h=>by simp[TV.ren,am,H.ren]
 | .np m b,h=>by simp[TV.ren,am,H.ren]
 | .sd m,h=>by simp[TV.ren,am,H.ren]
 | .agg cs,h=>by simp only[TV.ren,am,D_];rw[encL_ren cs λn hn=>h n (by simpa[TV.has]using hn)]
 | .tup cs,h=>by simp only[TV.ren,am,H.ren];rw[encL_ren cs λn hn=>h n (by simpa[TV.has]using hn)]
 | .fn g a b,h=>by
  simp only[TV.ren,am,H.ren]
  rw[encL_ren a λn hn=>h n (by simp[TV.has,hn]),encL_ren b λn hn=>h n (by simp[TV.has,hn])]
 | .lf t x,h=>by simp[TV.ren,am,H.ren]
 | .raw v,h=>by simp[TV.ren,am,AP]
 | .rp t x o,h=>by simp[TV.ren,am,H.ren]
 | .junk,h=>by simp[TV.ren,am,H.ren]
theorem encL_ren{f:Nat->Nat}{ω ω':Nat->Nat}:∀l:List (TV V.N),(∀n,TV.hasL n l=true->ω' (f n)=ω n)->encL V ω' (TV.renL f l)=H.renL f (encL V ω l)
 |[],h=>rfl
 |x::r,h=>by
  simp only[TV.renL,encL,H.renL]
  rw[sw x λn hn=>h n (by simp[TV.hasL,hn]),encL_ren r λn hn=>h n (by simp[TV.hasL,hn])]
end
theorem Fr(f:Nat->Nat):∀l:List D,H.renL f (l.map .d)=l.map .d
 |[]=>rfl
 |x::r=>by simp only[Ud,H.renL,H.ren,Fr f r]
theorem zh{f:Nat->Nat}{ω ω':Nat->Nat}(o:TO V.N)(h:∀n,TO.has n o=true->ω' (f n)=ω n):bh V ω' (TO.ren f o)=(bh V ω o).map (Own.ren f):=by
 cases o with
 |box oty cells=>simp only[TO.ren,bh,Uw,Own.ren];rw[encL_ren cells h]
 |bst i x=>simp only[TO.ren,bh,Uw,Own.ren];rw[Fr]
 |vec te e xs=>simp[TO.ren,bh,Own.ren]
 |dvec te e xs=>simp[TO.ren,bh,Own.ren]
 |pvec te e xs=>simp[TO.ren,bh,Own.ren]
 |map k v es=>simp[TO.ren,bh,Own.ren]
 |iter s p=>simp[TO.ren,bh,Own.ren]
 |miter m k v es rest cur=>simp[TO.ren,bh,Own.ren]
 |gone l=>simp[TO.ren,bh]
theorem IK.weak{P:Program}{f:FuncId}{args args':List H}{own own1 own':List (Nat×Own)}{r:H}(h:IK P f args own r own')
 (ha:∀E M vs,eU E M vs args'->eU E M vs args)(ho:∀E M w,CL E M w own1->CL E M w own)(hk:∀n,(∃o,gt own n=some o)↔∃o,gt own1 n=some o)
 (hf:∀E M w,CL E M w own1->∀b,gD E w own b->gD E w own1 b):IK P f args' own1 r own':=by
 refine⟨h.1,λE M w vs hgm hm how hvs=>(h.2 E M w vs hgm hm (ho E M w how) (ha E M vs hvs)).mono ?_⟩
 have hin:∀b,gD E w own b->gD E w own1 b:=hf E M w how
 rintro e w' ⟨v,E',M',rfl,hp,hE⟩
 refine⟨v,E',M',rfl,{hp with mnew:=λb o v hv=> ?_,home:=λn o b hn hb=> ?_,frame:=λk hk hx=>hp.frame k hk λh1=>hx (hin k h1)},λn hn=>hE n ?_⟩
 ·rcases hp.mnew b o v hv with h1|h1|h1
  ·exact .inl h1
  ·exact .inr (.inl (hin b h1))
  ·exact .inr (.inr h1)
 ·rcases hp.home n o b hn hb with h1|h1
  ·exact .inl (hin b h1)
  ·exact .inr h1
 ·rcases hn with hn|hn
  ·exact .inl hn
  ·exact .inr ((hk n).2 hn)
end
end Go.Tx
end
section
namespace Go.Tx
open Go.Awp
variable [Inhabited GMem]
section
variable {V:mD}
def zn(n:Nat):List Nat->Bool
 |[]=>false
 |k::r=>U8 k n||zn n r
def K1(ks:List Nat):List Nat->List Nat
 |[]=>[]
 |n::r=>match zn n ks with
  |true=>K1 ks r
  |false=>n::K1 ks r
def eM:Nat->cC->List Nat->cC
 |_,σ,[]=>σ
 |b,σ,c::r=>match gt σ c with
  |some _=>eM b σ r
  |none=>eM (b+1) ((c,b)::σ) r
def Ds(sig:Sig V):Bool:=sig.params.all (vU V sig.objs)&&sig.objs.all (λp=>match p.2 with
 | .box _ ps=>ps.all (vU V sig.objs)
 |_=>true)&&sig.objs.all (λp=>VY given p.1)
def tD(S:TS V.N)(n:Nat):TO V.N->Bool
 | .box _ _=>U8 (S.len n) 0
 | .bst _ _=>U8 (S.len n) 0
 | .map _ _ _=>U8 (S.len n) 0
 | .iter _ _=>U8 (S.len n) 0
 | .vec _ _ _=>true
 | .dvec _ _ _=>true
 | .pvec _ _ _=>true
 |_=>false
def xj(S:TS V.N)(sig:Sig V)(τ:cC)(x:TV V.N)(os:List (Nat×TO V.N)):Bool:=
 σok τ&&os.all (λp=>VY given p.1||Vu (σf τ p.1) given)&&TV.allN (λn=>(gt os n).isSome) x&&os.all (λp=>TO.allN (λn=>(gt os n).isSome) p.2)&&
  os.all (λp=> !zn p.1 (sig.objs.map (·.1))||tD S (σf τ p.1) p.2)&&dj (os.map (·.1))
def dn(S:TS V.N)(ks:List Nat)(τ:cC):List (Nat×TO V.N)->List (Nat×Nat)
 |[]=>[]
 |(c,o)::r=>match o with
  | .vec _ _ xs=>match zn c ks with
   |true=>(xs.length,S.len (σf τ c))::dn S ks τ r
   |false=>dn S ks τ r
  | .dvec _ _ xs=>match zn c ks with
   |true=>(xs.length,S.len (σf τ c))::dn S ks τ r
   |false=>dn S ks τ r
  | .pvec _ _ xs=>match zn c ks with
   |true=>(xs.length,S.len (σf τ c))::dn S ks τ r
   |false=>dn S ks τ r
  |_=>dn S ks τ r
def zp{A:Type}:List (Nat×Nat)->Option A->Option A
 |[],k=>k
 |(a,b)::r,k=>if a=b then zp r k else none
theorem kY{A:Type}{x:A}:∀{l:List (Nat×Nat)} {k:Option A},zp l k=some x->k=some x/\∀p∈l,p.1=p.2
 |[],k,h=>⟨h,λp hp=>by cases hp⟩
 |(a,b)::r,k,h=>by
  simp only[zp]at h
  split at h
  ·rename_i hab
   obtain⟨h1,h2⟩:=kY h
   refine⟨h1,λp hp=> ?_⟩
   rcases Uh.1 hp with rfl|hp
   ·exact hab
   ·exact h2 p hp
  ·cases h
theorem de{S:TS V.N}{ks:List Nat}{τ:cC}{c:Nat}{x:TO V.N}(hx:(∃te e ys,x= .vec te e ys)\/(∃te e ys,x= .dvec te e ys)\/∃te e ys,x= .pvec te e ys)(hi:zn c ks=true):∀{l:List (Nat×TO V.N)},(c,x)∈l->(TO.len (some x),S.len (σf τ c))∈dn S ks τ l
 |(d,o)::r,h=>by
  rcases Uh.1 h with h|h
  ·simp only[Uy]at h
   obtain⟨rfl,rfl⟩:=h
   rcases hx with⟨te,e,ys,rfl⟩|⟨te,e,ys,rfl⟩|⟨te,e,ys,rfl⟩
   ·simp only[dn,hi]
    exact T_
   ·simp only[dn,hi]
    exact T_
   ·simp only[dn,hi]
    exact T_
  ·have ih:=de (S:=S) (τ:=τ) hx hi h
   unfold dn
   split
   ·split
    ·exact T6 _ ih
    ·exact ih
   ·split
    ·exact T6 _ ih
    ·exact ih
   ·split
    ·exact T6 _ ih
    ·exact ih
   ·exact ih
def eN(P:Program)(sig:Sig V)(F:HL V.N sig.tys->Option (HL V.N sig.rcut.tys))(A:Type)(args:List (TV V.N))(S:TS V.N)(k:TE V.N->Option A):Option A:=
 match mtL V [] sig.params args with
 |some (σ0,l0)=>match mtO V S σ0 sig.objs with
  |some (σ1,l1)=>match Ds sig with
   |true=>match Jv sig.tys (l0++l1)with
    |some v=>F v>>=λr=>match pW P sig r with
     |some x=>match xj S sig (eM (80000+S.own.length) σ1 ((jb sig r).map (·.1))) x (jb sig r)with
      |true=>zp (dn S (sig.objs.map (·.1)) (eM (80000+S.own.length) σ1 ((jb sig r).map (·.1))) (jb sig r)) (k
       { val:=x.ren (σf (eM (80000+S.own.length) σ1 ((jb sig r).map (·.1))))
         acc:=sig.objs.map λp=>σf σ1 p.1
         upd:=((jb sig r).map λp=>(σf (eM (80000+S.own.length) σ1 ((jb sig r).map (·.1))) p.1,p.2.ren (σf (eM (80000+S.own.length) σ1 ((jb sig r).map (·.1))))))++sig.objs.map λp=>(σf σ1 p.1, .gone (S.len (σf σ1 p.1)))
         new:=K1 (sig.objs.map λp=>σf σ1 p.1) ((jb sig r).map λp=>σf (eM (80000+S.own.length) σ1 ((jb sig r).map (·.1))) p.1)})
      |false=>none
     |none=>none
    |none=>none
   |false=>none
  |none=>none
 |none=>none
theorem jG{n:Nat}:∀{l:List Nat},zn n l=true↔n∈l
 |[]=>by simp[zn]
 |k::r=>by
  simp only[zn,UB,Uh,jG (l:=r)]
  constructor
  ·rintro(h|h)
   ·exact .inl (UM h).symm
   ·exact .inr h
  ·rintro(rfl|h)
   ·exact .inl (by simp)
   ·exact .inr h
theorem o8{α:Type}:∀{l:List (Nat×α)} {n:Nat},gt l n=none↔n∉l.map (·.1)
 |[],n=>by simp[gt]
 |(k,x)::r,n=>by
  rw[ah]
  by_cases hk:k=n
  ·subst hk;simp
  ·rw[XF hk,o8 (l:=r)]
   simp[UA hk]
theorem fe{own:List (Nat×Own)}:∀{l:List (Nat×Own)},d_ own l=K1 (own.map (·.1)) (l.map (·.1))
 |[]=>rfl
 |(n,o)::r=>by
  simp only[d_,Ud,K1]
  cases hq:gt own n with
  |none=>
   have:zn n (own.map (·.1))=false:=by
    rw[WZ];intro h;exact o8.1 hq (jG.1 h)
   simp only[this,fe (l:=r)]
  |some y=>
   have:zn n (own.map (·.1))=true:=jG.2 (Uq (f:=(·.1)) (ba hq))
   simp only[this,fe (l:=r)]
theorem gX:∀{l:List Nat} {b:Nat} {σ:cC} {c n:Nat},gt σ c=some n->gt (eM b σ l) c=some n
 |[],b,σ,c,n,h=>h
 |d::r,b,σ,c,n,h=>by
  simp only[eM]
  split
  ·exact gX h
  ·rename_i hd
   refine gX ?_
   rw[ah]
   by_cases hk:d=c
   ·subst hk;rw[hd]at h;cases h
   ·rw[XF hk];exact h
theorem σf_some{σ:cC}{c n:Nat}(h:gt σ c=some n):σf σ c=n:=by unfold σf;rw[h]
end
end Go.Tx
end
