/-
  Texts of this claim, joined by a program of mine: what the theorem uses.
-/
import Derived.Test.YtpelkenpapfadaaGreatDoorPkC
import Derived.Scope
import Derived.KernelRfl
open Array renaming getElem?_append_left→Xq,getElem?_eq_getElem→Wb,replicate→W4,toList_inj→W6
open Bool renaming and_eq_true→VE,eq_false_iff→Yo,not_eq_true'→W7,or_eq_false_iff→We,or_eq_true→V0
open List renaming all_cons→WG,all_eq_true→VH,all_map→W1,any_eq_true→WJ,append_assoc→Wc,append_eq_nil_iff→XE,append_nil→Wo,cons_append→VM,drop_zero→V6,eq_nil_of_length_eq_zero→VY,eraseIdx_cons_succ→Yz,filterMap_cons→WV,getElem?_eq_getElem→Vw,getElem?_eq_some_iff→Vv,getElem?_map→Vz,getElem?_take→Wh,length→Xt,length_append→VB,length_cons→VD,length_drop→Wg,length_map→VA,length_nil→VU,length_set→WD,length_take→Wj,map→W0,map_append→Wk,map_congr_left→Wv,map_cons→VC,map_drop→Xa,map_map→V1,map_nil→V8,map_set→Xx,map_take→W_,mem_append→VJ,mem_append_left→WQ,mem_append_right→W5,mem_cons→VG,mem_cons_of_mem→Vu,mem_cons_self→Vy,mem_filter→XR,mem_filterMap→Wu,mem_map→VQ,mem_map_of_mem→VO,mem_of_getElem?→VI,nil_append→V7,nodup_cons→WC,range→Xk,take_of_length_le→Wf
open List.cons renaming injEq→W8
open Nat renaming add_zero→V3,beq→Ww,beq_refl→Xw,ble→XH,blt→WS,blt_eq→WZ,eq_of_beq_eq_true→Wa,le_of_ble_eq_true→WF,le_refl→VN,min_eq_left→YC,mul_le_mul→Yc,mul_le_mul_right→V5,sub_zero→Yr,succ_mul→Wt,zero_add→V4
open Ne renaming symm→VZ
open Option renaming bind_eq_some_iff→WO,bind_some→Vk,getD_some→WY,map_eq_some_iff→VF,map_map→YG,map_none→XP,map_some→VV
open Option.some renaming injEq→Vx
open Prod.mk renaming injEq→VW
noncomputable section
set_option linter.unusedSectionVars false
set_option linter.unusedSimpArgs false
set_option linter.unusedVariables false
section
namespace Go.Tx
open Go.Awp
variable [Inhabited GMem]
inductive Pt (ι:Type)where
 |dat (t:Ty ι)
 |bp (c off:Nat)
 |vh (c:Nat)
 |mp (c:Nat)
 |np (c:Nat)
 /-- the nil of an interface -/
 |nif
 |fn (f:Nat) (a b:List Nat)
 /-- a struct, some of its cells owned slices -/
 |ag (cs:List (Ty ι⊕Nat))
inductive OPt (ι:Type)where
 |box (o:Option TypeId) (cells:List (Pt ι))
 |st (i:ι)
 |vec (te:TypeId) (e:Ty ι)
 /-- a slice whose elements own what they hold: all of them are there, or some are out -/
 |dvec (te:TypeId) (e:Ty ι) (out:Bool)
 |map (k v:Ty ι)
 |iter
 |miter (m:Nat) (k v:Ty ι)
structure Cut (ι:Type)where
 slots:List (Nat×Pt ι)
 objs:List (Nat×OPt ι)
section
variable {ι:Type}
def L8:List (Ty ι⊕Nat)->List (Ty ι)
 |[]=>[]
 | .inl t::r=>t::L8 r
 | .inr _::r=>L8 r
def Pt.tys:Pt ι->List (Ty ι)
 | .dat t=>[t]
 | .ag cs=>L8 cs
 | .np _=>[.bool]
 |_=>[]
def Hd:List (Pt ι)->List (Ty ι)
 |[]=>[]
 |p::r=>p.tys++Hd r
def HF:List (Nat×Pt ι)->List (Ty ι)
 |[]=>[]
 |p::r=>p.2.tys++HF r
def OPt.tys:OPt ι->List (Ty ι)
 | .box _ cells=>Hd cells
 | .st i=>[.st i]
 | .vec _ e=>[.sl e]
 | .dvec _ e out=>match out with
  |true=>[.sl (.op e)]
  |false=>[.sl e]
 | .map k v=>[.mp k v]
 | .iter=>[.str, .int .i64]
 | .miter _ k v=>[.mp k v, .mp k v]
def GS:List (Nat×OPt ι)->List (Ty ι)
 |[]=>[]
 |p::r=>p.2.tys++GS r
def Cut.tys(c:Cut ι):List (Ty ι):=HF c.slots++GS c.objs
def Ec{α:Type}:List (Option α)->Option (List α)
 |[]=>some []
 |x::r=>match x with
  |none=>none
  |some y=>match Ec r with
   |some l=>some (y::l)
   |none=>none
theorem Ed{α:Type}:∀{l:List (Option α)} {r:List α},Ec l=some r->l=r.map some
 |[],r,h=>by simp[Ec]at h;subst h;rfl
 |x::l,r,h=>by
  simp only[Ec]at h
  split at h
  ·cases h
  ·split at h
   ·rename_i l' hl
    cases h
    rw[Ed hl];rfl
   ·cases h
@[reducible] def HL (N:ι->Type):List (Ty ι)->Type
 |[]=>Unit
 |t::r=>den N t×HL N r
def P2{N:ι->Type}:(ts:List (Ty ι))->HL N ts->List (du N)
 |[],_=>[]
 |t::r,v=>⟨t,v.1⟩::P2 r v.2
def LS[DecidableEq ι]{N:ι->Type}:(ts:List (Ty ι))->List (du N)->Option (HL N ts)
 |[],[]=>some ()
 |t::r,l::ls=>if h:l.t=t then match LS r ls with
  |some v=>some (h▸l.x,v)
  |none=>none
  else none
 |_,_=>none
theorem rT[DecidableEq ι]{N:ι->Type}:∀{ts:List (Ty ι)} {ls:List (du N)} {v:HL N ts},LS ts ls=some v->P2 ts v=ls
 |[],[],v,_=>rfl
 |[],_::_,v,h=>by simp[LS]at h
 |_::_,[],v,h=>by simp[LS]at h
 |t::r,l::ls,v,h=>by
  simp only[LS]at h
  split at h
  ·rename_i ht
   split at h
   ·rename_i w hw
    obtain⟨lt,lx⟩:=l
    simp only at ht
    subst ht
    simp at h;subst h
    simp[P2,rT hw]
   ·cases h
  ·cases h
abbrev cQ:=List (Nat×Nat)
def sg(σ:cQ)(c n:Nat):Option cQ:=match gt σ c with
 |some m=>if m=n then some σ else none
 |none=>if σ.any (λp=>Ww p.2 n)=true then none else some ((c,n)::σ)
def vV{N:ι->Type}(σ:cQ):List Nat->List (TV N)->Option cQ
 |[],[]=>some σ
 |c::r, .bp n 0::s=>match sg σ c n with
  |some σ'=>vV σ' r s
  |none=>none
 |_,_=>none
end
section
variable (V:m_)
def mtC(σ:cQ):List (Ty V.ι⊕Nat)->List (TV V.N)->Option (cQ×List (du V.N))
 |[],[]=>some (σ,[])
 | .inl t::r,x::s=>match oy V false t x with
  |some l=>match mtC σ r s with
   |some (σ',ls)=>some (σ',l::ls)
   |none=>none
  |none=>none
 | .inr c::r, .vh n::s=>match sg σ c n with
  |some σ'=>mtC σ' r s
  |none=>none
 |_,_=>none
def mt1(σ:cQ):Pt V.ι->TV V.N->Option (cQ×List (du V.N))
 | .dat t, .lf t' x=>if t'=t then some (σ,[⟨t',x⟩])else none
 | .dat (.sl e), .raw (.slice none 0 0)=>some (σ,[⟨.sl e,[]⟩])
 | .dat .er, .raw .nilIface=>some (σ,[⟨.er,false⟩])
 | .dat (.st i), .agg cs=>match mkV V false (some (.st i)) cs with
  | .lf t x=>some (σ,[⟨t,x⟩])
  |_=>none
 | .bp c off, .bp n off'=>if off=off' then(sg σ c n).map λσ'=>(σ',[])else none
 | .vh c, .vh n=>(sg σ c n).map λσ'=>(σ',[])
 | .mp c, .mp n=>(sg σ c n).map λσ'=>(σ',[])
 | .np c, .np n b=>(sg σ c n).map λσ'=>(σ',[⟨.bool,b⟩])
 | .np c, .bp n 0=>(sg σ c n).map λσ'=>(σ',[⟨.bool,true⟩])
 | .np _, .raw (.pointer none)=>some (σ,[⟨.bool,false⟩])
 | .nif, .raw .nilIface=>some (σ,[])
 | .fn f a b, .fn f' a' b'=>if f=f' then match vV σ a a' with
   |some σ'=>(vV σ' b b').map λσ''=>(σ'',[])
   |none=>none
  else none
 | .ag cs, .agg vs=>mtC V σ cs vs
 |_,_=>none
def mtL(σ:cQ):List (Pt V.ι)->List (TV V.N)->Option (cQ×List (du V.N))
 |[],[]=>some (σ,[])
 |p::r,x::s=>match mt1 V σ p x with
  |some (σ',l)=>match mtL σ' r s with
   |some (σ'',l')=>some (σ'',l++l')
   |none=>none
  |none=>none
 |_,_=>none
def mtO(S:TS V.N)(σ:cQ):List (Nat×OPt V.ι)->Option (cQ×List (du V.N))
 |[]=>some (σ,[])
 |(c,p)::r=>match gt σ c with
  |some n=>match p,S.own? n with
   | .box o ps,some (.box o' cells)=>if o=none\/o=o' then match mtL V σ ps cells with
    |some (σ',l)=>match mtO S σ' r with
     |some (σ'',l')=>some (σ'',l++l')
     |none=>none
    |none=>none
    else none
   | .st i,some (.box _ cells)=>match mkV V false (some (.st i)) cells with
    | .lf (.st j) x=>match mtO S σ r with
     |some (σ'',l')=>some (σ'',⟨.st j,x⟩::l')
     |none=>none
    |_=>none
   | .st i,some (.bst j x)=>if i=j then match mtO S σ r with
     |some (σ'',l')=>some (σ'',⟨.st j,x⟩::l')
     |none=>none
    else none
   | .box none ps,some (.bst j x)=>match mtL V σ ps ((V.cells j x).map λl=> .lf l.t l.x)with
    |some (σ',l)=>match mtO S σ' r with
     |some (σ'',l')=>some (σ'',l++l')
     |none=>none
    |none=>none
   | .vec te e,some (.vec te' e' xs)=>if te=te'/\e=e' then match mtO S σ r with
     |some (σ'',l')=>some (σ'',⟨.sl e',xs⟩::l')
     |none=>none
    else none
   | .dvec te e true,some (.pvec te' e' xs)=>if te=te'/\e=e' then match mtO S σ r with
     |some (σ'',l')=>some (σ'',⟨.sl (.op e'),xs⟩::l')
     |none=>none
    else none
   | .dvec te e true,some (.dvec te' e' xs)=>if te=te'/\e=e' then match mtO S σ r with
     |some (σ'',l')=>some (σ'',⟨.sl (.op e'),xs.map some⟩::l')
     |none=>none
    else none
   | .dvec te e false,some (.dvec te' e' xs)=>if te=te'/\e=e' then match mtO S σ r with
     |some (σ'',l')=>some (σ'',⟨.sl e',xs⟩::l')
     |none=>none
    else none
   | .iter,some (.iter s p)=>match mtO S σ r with
     |some (σ'',l')=>some (σ'',⟨.str,s⟩::⟨.int .i64,p⟩::l')
     |none=>none
   | .miter cm tk tv,some (.miter m tk' tv' es rest _)=>if tk=tk'/\tv=tv' then match sg σ cm m with
     |some σ'=>match mtO S σ' r with
      |some (σ'',l')=>some (σ'',⟨.mp tk' tv',es⟩::⟨.mp tk' tv',rest⟩::l')
      |none=>none
     |none=>none
    else none
   | .map tk tv,some (.map tk' tv' es)=>if tk=tk'/\tv=tv' then match mtO S σ r with
     |some (σ'',l')=>some (σ'',⟨.mp tk' tv',es⟩::l')
     |none=>none
    else none
   |_,_=>none
  |none=>none
def bdC:List (Ty V.ι⊕Nat)->List (du V.N)->Option (List (TV V.N)×List (du V.N))
 |[],ls=>some ([],ls)
 | .inl _::r,l::ls=>match bdC r ls with
  |some (vs,ls')=>some (.lf l.t l.x::vs,ls')
  |none=>none
 | .inl _::_,[]=>none
 | .inr c::r,ls=>match bdC r ls with
  |some (vs,ls')=>some (.vh c::vs,ls')
  |none=>none
def bd1:(p:Pt V.ι)->List (du V.N)->Option (TV V.N×List (du V.N))
 | .dat _,l::ls=>some (.lf l.t l.x,ls)
 | .dat _,[]=>none
 | .bp c off,ls=>some (.bp c off,ls)
 | .vh c,ls=>some (.vh c,ls)
 | .mp c,ls=>some (.mp c,ls)
 | .np c,⟨.bool,b⟩::ls=>some (.np c b,ls)
 | .np _,_=>none
 | .nif,ls=>some (.raw .nilIface,ls)
 | .fn f a b,ls=>some (.fn f (a.map λc=> .bp c 0) (b.map λc=> .bp c 0),ls)
 | .ag cs,ls=>match bdC V cs ls with
  |some (vs,ls')=>some (.agg vs,ls')
  |none=>none
def bdL:List (Pt V.ι)->List (du V.N)->Option (List (TV V.N)×List (du V.N))
 |[],ls=>some ([],ls)
 |p::r,ls=>match bd1 V p ls with
  |some (x,ls')=>match bdL r ls' with
   |some (xs,ls'')=>some (x::xs,ls'')
   |none=>none
  |none=>none
def bdO:List (Nat×OPt V.ι)->List (du V.N)->Option (List (Nat×TO V.N))
 |[],[]=>some []
 |[],_::_=>none
 |(c, .box o ps)::r,ls=>match bdL V ps ls with
  |some (xs,ls')=>match bdO r ls' with
   |some os=>some ((c, .box o xs)::os)
   |none=>none
  |none=>none
 |(c, .st i)::r,⟨.st j,x⟩::ls=>if j=i then match bdO r ls with
    |some os=>some ((c, .bst j x)::os)
    |none=>none
  else none
 |(c, .vec te e)::r,⟨.sl e',xs⟩::ls=>if e'=e then match bdO r ls with
    |some os=>some ((c, .vec te e' xs)::os)
    |none=>none
  else none
 |(c, .dvec te e true)::r,⟨.sl (.op e'),xs⟩::ls=>if e'=e then match bdO r ls with
    |some os=>some ((c, .pvec te e' xs)::os)
    |none=>none
  else none
 |(c, .dvec te e false)::r,⟨.sl e',xs⟩::ls=>if e'=e then match bdO r ls with
    |some os=>some ((c, .dvec te e' xs)::os)
    |none=>none
  else none
 |(c, .iter)::r,⟨.str,s⟩::⟨.int .i64,p⟩::ls=>match bdO r ls with
    |some os=>some ((c, .iter s p)::os)
    |none=>none
 |(c, .miter cm tk tv)::r,⟨.mp tk' tv',es⟩::⟨.mp tk2 tv2,rest⟩::ls=>if h:(tk2=tk'/\tv2=tv')/\tk'=tk/\tv'=tv then match bdO r ls with
    |some os=>some ((c, .miter cm tk' tv' es (h.1.1▸h.1.2▸rest) none)::os)
    |none=>none
  else none
 |(c, .map tk tv)::r,⟨.mp tk' tv',es⟩::ls=>if tk'=tk/\tv'=tv then match bdO r ls with
    |some os=>some ((c, .map tk' tv' es)::os)
    |none=>none
  else none
 |_,_=>none
def build(c:Cut V.ι)(ls:List (du V.N)):TS V.N:=match bdL V (c.slots.map (·.2)) ls with
 |some (xs,ls')=>match bdO V c.objs ls' with
  |some os=>{tmps:=(c.slots.map (·.1)).zip xs,own:=os}
  |none=>{tmps:=[],own:=[]}
 |none=>{tmps:=[],own:=[]}
def bZ(c:Cut V.ι)(v:HL V.N c.tys):TS V.N:=build V c (P2 c.tys v)
def Lo(n:Nat)(e:Ty V.ι)(xs:List (den V.N e))(v:TV V.N):TV V.N:=match v with
 | .vh m=>if m=n then .lf (.sl e) xs else .vh m
 |v=>if TV.has n v=true then .junk else v
def R6(n:Nat)(e:Ty V.ι)(xs:List (den V.N e))(v:TV V.N):TV V.N:=match v with
 | .agg cs=> .agg (cs.map (Lo V n e xs))
 |v=>Lo V n e xs v
def CQ(n:Nat)(e:Ty V.ι)(xs:List (den V.N e)):TO V.N->TO V.N
 | .box o cells=> .box o (cells.map (Lo V n e xs))
 |o=>o
def TS.frz(S:TS V.N)(n:Nat)(e:Ty V.ι)(xs:List (den V.N e)):TS V.N:=
 {tmps:=S.tmps.map λp=>(p.1,R6 V n e xs p.2),own:=(n, .gone xs.length)::S.own.map λp=>(p.1,CQ V n e xs p.2)}
def MF(S:TS V.N)(v:TV V.N):TS V.N:=match v with
 | .vh n=>match S.own? n with
  |some (.vec _ e xs)=>S.frz V n e xs
  |some (.dvec te e ys)=>TS.frz V {S with own:=(n, .vec te e ys)::S.own} n e ys
  |_=>S
 |_=>S
def frzL(S:TS V.N):List (TV V.N)->TS V.N
 |[]=>S
 |v::r=>frzL (MF V S v) r
def H6:List (Ty V.ι⊕Nat)->List (TV V.N)->List (TV V.N)
 | .inl _::r,v::s=>v::H6 r s
 | .inr _::r,_::s=>H6 r s
 |_,_=>[]
def wants:Pt V.ι->TV V.N->List (TV V.N)
 | .dat _, .vh n=>[.vh n]
 | .dat _, .agg cs=>cs
 | .ag cs, .agg vs=>H6 V cs vs
 |_,_=>[]
def Or(dv:Bool)(te:TypeId)(e:Ty V.ι):TO V.N:=match dv with
 |true=> .dvec te e []
 |false=> .vec te e []
def De(dv:Bool)(te:TypeId)(e:Ty V.ι)(S:TS V.N)(t:Nat):TS V.N:=match gt S.tmps t with
 |some (.raw (.slice none 0 0))=>if S.fresh (60000+t)=true/\WS (60000+t) given=true then{tmps:=(t, .vh (60000+t))::S.tmps,own:=(60000+t,Or V dv te e)::S.own}else S
 |_=>S
def tW(dv:Bool)(te:TypeId)(e:Ty V.ι)(S:TS V.N)(b i:Nat):TS V.N:=match S.own? b with
 |some (.box o cells)=>match cells[i]? with
  |some (.raw (.slice none 0 0))=>if S.fresh (70000+S.own.length)=true/\WS (70000+S.own.length) given=true then
   {tmps:=S.tmps,own:=(b, .box o (cells.set i (.vh (70000+S.own.length))))::(70000+S.own.length,Or V dv te e)::S.own}else S
  |_=>S
 |_=>S
def cellAt(S:TS V.N)(b i:Nat):TV V.N:=match S.own? b with
 |some (.box _ cells)=>(cells[i]?).getD .junk
 |_=> .junk
def gh(objs:List (Nat×OPt V.ι))(b:Nat):Nat->List (Pt V.ι)->TS V.N->TS V.N
 |_,[],S=>S
 |i, .vh c::r,S=>match gt objs c with
  |some (.vec te e)=>gh objs b (i+1) r (tW V false te e S b i)
  |some (.dvec te e _)=>gh objs b (i+1) r (tW V true te e S b i)
  |_=>gh objs b (i+1) r S
 |i, .dat ty::r,S=>gh objs b (i+1) r (frzL V S (wants V (.dat ty) (cellAt V S b i)))
 |i,_::r,S=>gh objs b (i+1) r S
def Ha(objs:List (Nat×OPt V.ι))(c b:Nat)(S:TS V.N):TS V.N:=match gt objs c with
 |some (.box _ ps)=>gh V objs b 0 ps S
 |some (.st _)=>match S.own? b with
  |some (.box _ cells)=>frzL V S cells
  |_=>S
 |_=>S
def Lw:Pt V.ι->TV V.N->List (Nat×Nat)
 | .bp c _, .bp n _=>[(c,n)]
 | .mp c, .mp n=>[(c,n)]
 | .fn _ a b, .fn _ a' b'=>(a++b).zip ((a'++b').map λv=>match v with
  | .bp n _=>n
  |_=>0)
 |_,_=>[]
def Lx:List (Pt V.ι)->List (TV V.N)->List (Nat×Nat)
 |p::ps,v::vs=>Lw V p v++Lx ps vs
 |_,_=>[]
def P4(objs:List (Nat×OPt V.ι))(S:TS V.N)(c b:Nat):List (Nat×Nat):=match gt objs c,S.own? b with
 |some (.box _ ps),some (.box _ cells)=>Lx V ps cells
 |_,_=>[]
def Ot(objs:List (Nat×OPt V.ι)):Nat->List (Nat×Nat)->TS V.N->TS V.N
 |0,_,S=>S
 |_,[],S=>S
 |m+1,(c,b)::r,S=>Ot objs m (r++P4 V objs S c b) (Ha V objs c b S)
def xU(objs:List (Nat×OPt V.ι))(S:TS V.N):List (Nat×Pt V.ι)->TS V.N
 |[]=>S
 |(t, .vh c)::r=>match gt objs c with
  |some (.vec te e)=>xU objs (De V false te e S t) r
  |some (.dvec te e _)=>xU objs (De V true te e S t) r
  |_=>xU objs S r
 |(t, .dat ty)::r=>xU objs (frzL V S (wants V (.dat ty) (S.get t))) r
 |(t, .ag cs)::r=>xU objs (frzL V S (wants V (.ag cs) (S.get t))) r
 |_::r=>xU objs S r
def Sa(objs:List (Nat×OPt V.ι))(S:TS V.N)(slots:List (Nat×Pt V.ι)):TS V.N:=match objs with
 |[]=>xU V objs S slots
 |_=>Ot V objs (4 *objs.length) (slots.flatMap λp=>Lw V p.2 (S.get p.1)) (xU V objs S slots)
def MA(c:Cut V.ι)(S:TS V.N):Option (cQ×List (du V.N)):=match mtL V [] (c.slots.map (·.2)) (c.slots.map λp=>S.get p.1)with
 |some (σ,l)=>match mtO V S σ c.objs with
  |some (σ',l')=>some (σ',l++l')
  |none=>none
 |none=>none
def yv(objs:List (Nat×OPt V.ι)):Pt V.ι->Bool
 | .vh c=>objs.any λp=>Ww p.1 c
 | .ag cs=>cs.all λx=>match x with
  | .inr c=>objs.any λp=>Ww p.1 c
  | .inl _=>true
 |_=>true
def GT(c:Cut V.ι)(σ:cQ):Bool:=σ.all (λp=>WS p.1 given||Ww p.1 p.2)&&c.slots.all (λp=>yv V c.objs p.2)&&c.objs.all (λp=>match p.2 with
 | .box _ ps=>ps.all (yv V c.objs)
 |_=>true)
def CI(c:Cut V.ι)(S:TS V.N):Option (HL V.N c.tys):=match MA V c (Sa V c.objs S c.slots)with
 |some (σ,ls)=>if GT V c σ=true then LS c.tys ls else none
 |none=>none
end
end Go.Tx
end
section
namespace Go.Tx
open Go.Awp
variable [Inhabited GMem]
def Sub(σ σ':cQ):Prop:=∀c n,gt σ c=some n->gt σ' c=some n
theorem Sub.refl(σ:cQ):Sub σ σ:=λ_ _ h=>h
theorem Sub.trans{a b c:cQ}(h:Sub a b)(k:Sub b c):Sub a c:=λx n hx=>k x n (h x n hx)
def Inj(σ:cQ):Prop:=∀c c' n,gt σ c=some n->gt σ c'=some n->c=c'
theorem dk{σ σ':cQ}{c n:Nat}(h:sg σ c n=some σ'):Sub σ σ'/\gt σ' c=some n/\(Inj σ->Inj σ'):=by
 unfold sg at h
 split at h
 ·rename_i m hm
  split at h
  ·rename_i e;cases h;subst e;exact⟨Sub.refl _,hm,id⟩
  ·cases h
 ·rename_i hc
  split at h
  ·cases h
  ·rename_i hn
   cases h
   have hn':∀x,gt σ x≠some n:=λx hx=>by
    apply hn
    rw[WJ]
    exact⟨(x,n),bn hx,by simp⟩
   refine⟨λx m hx=> ?_,by simp[ai],λhi x y m hx hy=> ?_⟩
   ·rw[ai]
    by_cases e:c=x
    ·subst e;rw[hc]at hx;cases hx
    ·rw[Y4 e];exact hx
   ·rw[ai]at hx hy
    by_cases e:c=x<;>by_cases e':c=y
    ·rw[<-e,<-e']
    ·rw[Y5 e]at hx;rw[Y4 e']at hy;cases hx;exact(hn' _ hy).elim
    ·rw[Y5 e']at hy;rw[Y4 e]at hx;cases hy;exact(hn' _ hx).elim
    ·rw[Y4 e]at hx;rw[Y4 e']at hy;exact hi x y m hx hy
section
variable {V:m_}
theorem H.le.nil(sz:Nat):H.le (.d (.v (.slice none 0 0))) (.d (.sl sz [])):=H.le.d (D.le.nil sz)
structure Tr (σ:cQ) (objs:List (Nat×OPt V.ι)) (E E':Env) (ω ω':Nat->Nat):Prop where
 env:∀c n,gt σ c=some n->E' c=E n
 len:∀c n,(objs.any λp=>Ww p.1 c)=true->gt σ c=some n->ω' c=ω n
theorem lc:∀{l:List Nat} {vs:List (TV V.N)} {σ σ':cQ},vV σ l vs=some σ'->Sub σ σ'/\(Inj σ->Inj σ')/\l.length=vs.length/\
 ∀(i:Nat) (c:Nat) (v:TV V.N),l[i]?=some c->vs[i]?=some v->∃n,v= .bp n 0/\gt σ' c=some n
 |[],[],σ,σ',h=>by simp[vV]at h;subst h;exact⟨Sub.refl _,id,rfl,λi c v hc=>by simp at hc⟩
 |[],_::_,σ,σ',h=>by simp[vV]at h
 |_::_,[],σ,σ',h=>by simp[vV]at h
 |c::r,v::s,σ,σ',h=>by
  unfold vV at h
  split at h
  ·rename_i heq1 heq2;cases heq1
  ·rename_i c' r' n s' heq1 heq2
   simp only[W8]at heq1 heq2
   obtain⟨rfl,rfl⟩:=heq1
   obtain⟨rfl,rfl⟩:=heq2
   split at h
   ·rename_i σ1 h1
    obtain⟨a1,a2,a3⟩:=dk h1
    obtain⟨b1,b2,b3,b4⟩:=lc h
    refine⟨a1.trans b1,λhi=>b2 (a3 hi),by simp[b3],λi x w hx hw=> ?_⟩
    cases i with
    |zero=>simp at hx hw;subst hx;subst hw;exact⟨n,rfl,b1 _ _ a2⟩
    |succ i=>exact b4 i x w (by simpa using hx) (by simpa using hw)
   ·cases h
  ·cases h
theorem El{E E':Env}{M:Mem}{σ:cQ}{ω ω':Nat->Nat}(hE:∀c n,gt σ c=some n->E' c=E n){l:List Nat}{vs:List (TV V.N)}(hl:l.length=vs.length)
 (h:∀(i:Nat) (c:Nat) (v:TV V.N),l[i]?=some c->vs[i]?=some v->∃n,v= .bp n 0/\gt σ c=some n){av:Array Value}
 (hs:av.size=(encL V ω vs).length)(hr:∀(i:Nat) (c:Value) (x:H),av[i]?=some c->(encL V ω vs)[i]?=some x->aS E M c x):
 av.size=(encL V ω' (l.map λc=>(.bp c 0:TV V.N))).length/\∀(i:Nat) (c:Value) (x:H),av[i]?=some c->(encL V ω' (l.map λc=>(.bp c 0:TV V.N)))[i]?=some x->aS E' M c x:=by
 rw[aH]at hs
 refine⟨by rw[aH,VA];omega,λi c x hc hx=> ?_⟩
 simp only[encL_map,Vz,YG]at hx
 cases hli:l[i]? with
 |none=>rw[hli]at hx;cases hx
 |some k=>
  rw[hli]at hx
  simp[ao]at hx;subst hx
  have hi:i<vs.length:=by rw[<-hl];exact(Vv.1 hli).1
  obtain⟨n,hv,hn⟩:=h i k _ hli (Vw hi)
  have:=hr i c (.bp n 0) hc (by rw[encL_map,Vz,Vw hi,hv];simp[ao])
  cases this with
  |bp _ off b hb=>exact .bp k 0 b (by rw[hE k n hn];exact hb)
theorem qC:∀{cs:List (Ty V.ι⊕Nat)} {vs:List (TV V.N)} {σ σ1:cQ} {l:List (du V.N)},mtC V σ cs vs=some (σ1,l)->Sub σ σ1/\(Inj σ->Inj σ1)/\
 ∃vs':List (TV V.N),vs'.length=vs.length/\(∀rest,bdC V cs (l++rest)=some (vs',rest))/\∀(i:Nat) (v v':TV V.N),vs[i]?=some v->vs'[i]?=some v'->
  ∀(τ:cQ) (objs:List (Nat×OPt V.ι)) (E E':Env) (M:Mem) (ω ω':Nat->Nat) (a:Value),Sub σ1 τ->yv V objs (.ag cs)=true->Tr τ objs E E' ω ω'->aS E M a (ao V ω v)->aS E' M a (ao V ω' v')
 |[],[],σ,σ1,l,h=>by
  simp[mtC]at h;obtain⟨rfl,rfl⟩:=h
  exact⟨Sub.refl _,id,[],rfl,λrest=>rfl,λi v v' hv=>by simp at hv⟩
 |[],_::_,σ,σ1,l,h=>by simp[mtC]at h
 |_::_,[],σ,σ1,l,h=>by unfold mtC at h;split at h<;>first|(cases h;done)|contradiction
 | .inl t::r,x::s,σ,σ1,l,h=>by
  simp only[mtC]at h
  split at h
  ·rename_i l0 hl
   split at h
   ·rename_i σ' ls h2
    simp at h;obtain⟨rfl,rfl⟩:=h
    obtain⟨b1,b2,vs',b4,b5,b6⟩:=qC h2
    refine⟨b1,b2, .lf l0.t l0.x::vs',by simp[b4],λrest=> ?_,λi w w' hw hw' τ objs E E' M ω ω' a hs hv ht hr=> ?_⟩
    ·simp only[VM,bdC,b5]
    ·cases i with
     |zero=>
      simp at hw hw';subst hw;subst hw'
      have hls:cT V false [t] [x]=some [l0]:=by simp[cT,hl]
      obtain⟨ds,e1,e2,_⟩:=cx (ω:=ω) hls
      simp only[encL]at e1
      obtain⟨d,hd⟩:∃d,ds=[d]:=by
       match ds,e1 with
       |[d],_=>exact⟨d,rfl⟩
       |[],e1=>simp at e1
       |_::_::_,e1=>simp at e1
      subst hd
      simp only[VC,V8,W8,and_true]at e1
      rw[e1]at hr
      simp only[ao]
      obtain⟨d0,g1,g2⟩:=e2.get 0 (aW V.sz V.enc l0.t l0.x) rfl
      simp at g1;subst g1
      cases hr with
      |d q=>exact .d (g2 M a q)
     |succ i=>
      refine b6 i w w' (by simpa using hw) (by simpa using hw') τ objs E E' M ω ω' a hs ?_ ht hr
      simp only[yv,WG,VE]at hv⊢;exact hv.2
   ·cases h
  ·cases h
 | .inr c::r,x::s,σ,σ1,l,h=>by
  unfold mtC at h
  split at h
  ·rename_i heq _;cases heq
  ·rename_i heq _;simp at heq
  ·rename_i c' r' n s' heq1 heq2
   simp only[W8,Sum.inr.injEq]at heq1 heq2
   obtain⟨rfl,rfl⟩:=heq1
   obtain⟨rfl,rfl⟩:=heq2
   split at h
   ·rename_i σ' hb
    obtain⟨a1,a2,a3⟩:=dk hb
    obtain⟨b1,b2,vs',b4,b5,b6⟩:=qC h
    refine⟨a1.trans b1,λhi=>b2 (a3 hi), .vh c::vs',by simp[b4],λrest=> ?_,λi w w' hw hw' τ objs E E' M ω ω' a hs hv ht hr=> ?_⟩
    ·simp only[bdC,b5]
    ·simp only[yv,WG,VE]at hv
     cases i with
     |zero=>
      simp at hw hw';subst hw;subst hw'
      simp only[ao]at hr⊢
      rw[ht.len c n hv.1 (hs _ _ (b1 _ _ a2))]
      cases hr with
      |vh _ len l cc ad hE hl=>exact .vh c _ l cc ad (by rw[ht.env c n (hs _ _ (b1 _ _ a2))];exact hE) hl
     |succ i=>
      refine b6 i w w' (by simpa using hw) (by simpa using hw') τ objs E E' M ω ω' a hs ?_ ht hr
      simp only[yv];exact hv.2
   ·cases h
  ·cases h
theorem qB{σ σ1:cQ}{p:Pt V.ι}{v:TV V.N}{l:List (du V.N)}(h:mt1 V σ p v=some (σ1,l)):Sub σ σ1/\(Inj σ->Inj σ1)/\v≠ .junk/\
 ∃v',(∀rest,bd1 V p (l++rest)=some (v',rest))/\∀(τ:cQ) (objs:List (Nat×OPt V.ι)) (E E':Env) (M:Mem) (ω ω':Nat->Nat) (a:Value),Sub σ1 τ->yv V objs p=true->Tr τ objs E E' ω ω'->
  aS E M a (ao V ω v)->aS E' M a (ao V ω' v'):=by
 unfold mt1 at h
 split at h
 ·rename_i t t' x
  obtain⟨rfl,h⟩:=aq h
  simp at h;obtain⟨rfl,rfl⟩:=h
  refine⟨Sub.refl _,id,by simp, .lf t' x,λrest=>rfl,λτ objs E E' M ω ω' a _ _ _ hr=> ?_⟩
  simp only[ao]at hr⊢
  exact hr.mono (Mem.le_refl _) λn hn=>by simp[H.has]at hn
 ·rename_i e
  simp at h;obtain⟨rfl,rfl⟩:=h
  refine⟨Sub.refl _,id,by simp, .lf (.sl e) [],λrest=>rfl,λτ objs E E' M ω ω' a _ _ _ hr=> ?_⟩
  simp only[ao,bN,aW,V8]at hr⊢
  exact H.le.nil _ E' M a (hr.mono (Mem.le_refl _) λn hn=>by simp[H.has]at hn)
 ·simp at h;obtain⟨rfl,rfl⟩:=h
  refine⟨Sub.refl _,id,by simp, .lf .er false,λrest=>rfl,λτ objs E E' M ω ω' a _ _ _ hr=> ?_⟩
  simp only[ao,bN,aW]at hr⊢
  exact H.le.d D.le.ern E' M a (hr.mono (Mem.le_refl _) λn hn=>by simp[H.has]at hn)
 ·rename_i i cs
  split at h
  ·rename_i t x hx
   simp at h;obtain⟨rfl,rfl⟩:=h
   refine⟨Sub.refl _,id,by simp, .lf t x,λrest=>rfl,λτ objs E E' M ω ω' a _ _ _ hr=> ?_⟩
   have hm:=(jy (V:=V) (ω:=ω) (ex:=false) (ot:=some (.st i)) (cs:=cs)).1
   rw[hx]at hm
   simp only[ao]at hr hm⊢
   exact(hm E M a hr).mono (Mem.le_refl _) λn hn=>by simp[H.has]at hn
  ·cases h
 ·rename_i c off n off'
  have h':=aq h;clear h
  obtain⟨e,h⟩:=h'
  subst e
  rw[VF]at h
  obtain⟨σ',hb,h⟩:=h
  simp at h;obtain⟨rfl,rfl⟩:=h
  obtain⟨h1,h2,h3⟩:=dk hb
  refine⟨h1,h3,by simp, .bp c off,λrest=>rfl,λτ objs E E' M ω ω' a hs _ ht hr=> ?_⟩
  simp only[ao]at hr⊢
  cases hr with
  |bp _ _ b hb=>exact .bp c off b (by rw[ht.env c n (hs _ _ h2)];exact hb)
 ·rename_i c n
  rw[VF]at h
  obtain⟨σ',hb,h⟩:=h
  simp at h;obtain⟨rfl,rfl⟩:=h
  obtain⟨h1,h2,h3⟩:=dk hb
  refine⟨h1,h3,by simp, .vh c,λrest=>rfl,λτ objs E E' M ω ω' a hs hv ht hr=> ?_⟩
  simp only[ao]at hr⊢
  rw[ht.len c n (by simpa[yv]using hv) (hs _ _ h2)]
  cases hr with
  |vh _ len l cc ad hE hl=>exact .vh c _ l cc ad (by rw[ht.env c n (hs _ _ h2)];exact hE) hl
 ·rename_i c n
  rw[VF]at h
  obtain⟨σ',hb,h⟩:=h
  simp at h;obtain⟨rfl,rfl⟩:=h
  obtain⟨h1,h2,h3⟩:=dk hb
  refine⟨h1,h3,by simp, .mp c,λrest=>rfl,λτ objs E E' M ω ω' a hs _ ht hr=> ?_⟩
  simp only[ao]at hr⊢
  cases hr with
  |mp _ b hE=>exact .mp c b (by rw[ht.env c n (hs _ _ h2)];exact hE)
 ·rename_i c n b
  rw[VF]at h
  obtain⟨σ',hb,h⟩:=h
  simp at h;obtain⟨rfl,rfl⟩:=h
  obtain⟨h1,h2,h3⟩:=dk hb
  refine⟨h1,h3,by simp, .np c b,λrest=>rfl,λτ objs E E' M ω ω' a hs _ ht hr=> ?_⟩
  simp only[ao]at hr⊢
  cases hr with
  |np0=>exact .np0 c
  |np1 _ b hE=>exact .np1 c b (by rw[ht.env c n (hs _ _ h2)];exact hE)
 ·rename_i c n
  rw[VF]at h
  obtain⟨σ',hb,h⟩:=h
  simp at h;obtain⟨rfl,rfl⟩:=h
  obtain⟨h1,h2,h3⟩:=dk hb
  refine⟨h1,h3,by simp, .np c true,λrest=>rfl,λτ objs E E' M ω ω' a hs _ ht hr=> ?_⟩
  simp only[ao]at hr⊢
  cases hr with
  |bp _ _ b hE=>exact .np1 c b (by rw[ht.env c n (hs _ _ h2)];exact hE)
 ·rename_i c
  simp at h;obtain⟨rfl,rfl⟩:=h
  refine⟨Sub.refl _,id,by simp, .np c false,λrest=>rfl,λτ objs E E' M ω ω' a _ _ _ hr=> ?_⟩
  simp only[ao,bN]at hr⊢
  rw[hr.dv]
  exact .np0 c
 ·simp at h;obtain⟨rfl,rfl⟩:=h
  refine⟨Sub.refl _,id,by simp, .raw .nilIface,λrest=>rfl,λτ objs E E' M ω ω' a _ _ _ hr=> ?_⟩
  simp only[ao,bN]at hr⊢
  exact hr.mono (Mem.le_refl _) λn hn=>by simp[H.has]at hn
 ·rename_i f a b f' a' b'
  have h':=aq h;clear h
  obtain⟨e,h⟩:=h'
  subst e
  split at h
  ·rename_i σ' ha
   rw[VF]at h
   obtain⟨σ'',hb,h⟩:=h
   simp at h;obtain⟨rfl,rfl⟩:=h
   obtain⟨a1,a2,a3,a4⟩:=lc ha
   obtain⟨b1,b2,b3,b4⟩:=lc hb
   refine⟨a1.trans b1,λhi=>b2 (a2 hi),by simp, .fn f (a.map λc=> .bp c 0) (b.map λc=> .bp c 0),λrest=>rfl,λτ objs E E' M ω ω' v hs _ ht hr=> ?_⟩
   simp only[ao]at hr⊢
   cases hr with
   |fn _ first captured l l' h1 h2 h3 h4=>
    obtain⟨x1,x2⟩:=El (V:=V) (ω':=ω') (λc n hc=>ht.env c n hc) a3 (λi c v hc hv=>by
     obtain⟨n,q1,q2⟩:=a4 i c v hc hv
     exact⟨n,q1,hs _ _ (b1 _ _ q2)⟩) h1 h3
    obtain⟨y1,y2⟩:=El (V:=V) (ω':=ω') (λc n hc=>ht.env c n hc) b3 (λi c v hc hv=>by
     obtain⟨n,q1,q2⟩:=b4 i c v hc hv
     exact⟨n,q1,hs _ _ q2⟩) h2 h4
    exact .fn f first captured _ _ x1 y1 x2 y2
  ·cases h
 ·rename_i cs vs
  obtain⟨b1,b2,vs',b4,b5,b6⟩:=qC h
  refine⟨b1,b2,by simp, .agg vs',λrest=>by simp only[bd1,b5],λτ objs E E' M ω ω' a hs hv ht hr=> ?_⟩
  simp only[ao]at hr⊢
  have h1:=mA _ E M a hr
  obtain⟨xs,rfl,h2,h3⟩:=h1.hagg
  refine uU _ E' M _ (.agg xs _ (by rw[aH]at h2⊢;omega) λi c x hc hx=> ?_)
  rw[encL_map,Vz,VF]at hx
  obtain⟨v',hv',rfl⟩:=hx
  have hi:i<vs.length:=by rw[<-b4];exact(Vv.1 hv').1
  exact b6 i _ v' (Vw hi) hv' τ objs E E' M ω ω' c hs hv ht (h3 i c _ hc (by rw[encL_map,Vz,Vw hi];rfl))
 ·cases h
theorem g8:∀{ps:List (Pt V.ι)} {vs:List (TV V.N)} {σ σ1:cQ} {l:List (du V.N)},mtL V σ ps vs=some (σ1,l)->Sub σ σ1/\(Inj σ->Inj σ1)/\ps.length=vs.length/\
 ∃vs':List (TV V.N),vs'.length=vs.length/\(∀rest,bdL V ps (l++rest)=some (vs',rest))/\∀(i:Nat) (v v':TV V.N),vs[i]?=some v->vs'[i]?=some v'->v≠ .junk/\
  ∀(τ:cQ) (objs:List (Nat×OPt V.ι)) (E E':Env) (M:Mem) (ω ω':Nat->Nat) (a:Value),Sub σ1 τ->ps.all (yv V objs)=true->Tr τ objs E E' ω ω'->aS E M a (ao V ω v)->aS E' M a (ao V ω' v')
 |[],[],σ,σ1,l,h=>by
  simp[mtL]at h;obtain⟨rfl,rfl⟩:=h
  exact⟨Sub.refl _,id,rfl,[],rfl,λrest=>rfl,λi v v' hv=>by simp at hv⟩
 |[],_::_,σ,σ1,l,h=>by simp[mtL]at h
 |_::_,[],σ,σ1,l,h=>by simp[mtL]at h
 |p::r,v::s,σ,σ1,l,h=>by
  simp only[mtL]at h
  split at h
  ·rename_i σ' l1 h1
   split at h
   ·rename_i σ'' l2 h2
    simp at h;obtain⟨rfl,rfl⟩:=h
    obtain⟨a1,a2,a3,v',a4,a5⟩:=qB h1
    obtain⟨b1,b2,b3,vs',b4,b5,b6⟩:=g8 h2
    refine⟨a1.trans b1,λhi=>b2 (a2 hi),by simp[b3],v'::vs',by simp[b4],λrest=> ?_,λi w w' hw hw'=> ?_⟩
    ·simp only[bdL,Wc,a4,b5]
    ·cases i with
     |zero=>
      simp at hw hw';subst hw;subst hw'
      refine⟨a3,λτ objs E E' M ω ω' a hs hv ht hr=>a5 τ objs E E' M ω ω' a (b1.trans hs) ?_ ht hr⟩
      simp only[WG,VE]at hv;exact hv.1
     |succ i=>
      obtain⟨c1,c2⟩:=b6 i w w' (by simpa using hw) (by simpa using hw')
      refine⟨c1,λτ objs E E' M ω ω' a hs hv ht hr=>c2 τ objs E E' M ω ω' a hs ?_ ht hr⟩
      simp only[WG,VE]at hv;exact hv.2
   ·cases h
  ·cases h
theorem ce{S:TS V.N}:∀{objs:List (Nat×OPt V.ι)} {σ σ1:cQ} {l:List (du V.N)},mtO V S σ objs=some (σ1,l)->Sub σ σ1/\(Inj σ->Inj σ1)/\
 ∃os:List (Nat×TO V.N),os.length=objs.length/\bdO V objs l=some os/\(∀c o',(c,o')∈os->∃n o,gt σ1 c=some n/\S.own? n=some o/\TO.len (some o')=TO.len (some o)/\
  ∃x:(Nat->Nat)->Own,(∀ω,bu V ω o=some (x ω))/\∃x':(Nat->Nat)->Own,(∀ω,bu V ω o'=some (x' ω))/\
  (∀(τ:cQ) (all:List (Nat×OPt V.ι)) (E E':Env) (M:Mem) (w:World) (ω ω':Nat->Nat),Sub σ1 τ->(∀p∈objs,match p.2 with| .box _ ps=>ps.all (yv V all)=true|_=>True)->Tr τ all E E' ω ω'->
    bg E M w n (x ω)->bg E' M w c (x' ω'))/\
  ∀(E E':Env) (w:World) (ω ω':Nat->Nat) (b:Nat),E' c=E n->(x' ω').foot w (E' c) b->(x ω).foot w (E n) b)/\os.map (·.1)=objs.map (·.1)
 |[],σ,σ1,l,h=>by
  simp[mtO]at h;obtain⟨rfl,rfl⟩:=h
  exact⟨Sub.refl _,id,[],rfl,rfl,λc o' h=>by simp at h,rfl⟩
 |(c,p)::r,σ,σ1,l,h=>by
  simp only[mtO]at h
  split at h
  ·rename_i n hn
   split at h
   ·rename_i oo ps oo' cells hown
    have h':=aq h;clear h
    obtain⟨hoo,h⟩:=h'
    split at h
    ·rename_i σ' l1 h1
     split at h
     ·rename_i σ'' l2 h2
      simp at h;obtain⟨rfl,rfl⟩:=h
      obtain⟨a1,a2,a3,vs',a4,a5,a6⟩:=g8 h1
      obtain⟨b1,b2,os,b3,b4,b5,b6⟩:=ce h2
      refine⟨a1.trans b1,λhi=>b2 (a2 hi),(c, .box oo vs')::os,by simp[b3],by simp only[bdO,a5,b4],λc' o' hm=> ?_,by simp[b6]⟩
      rcases VG.1 hm with he|hm
      ·simp only[VW]at he
       obtain⟨rfl,rfl⟩:=he
       refine⟨n, .box oo' cells,b1 _ _ (a1 _ _ hn),hown,rfl,λω=> .box oo' (encL V ω cells),λω=>rfl,λω=> .box oo (encL V ω vs'),λω=>rfl,λτ all E E' M w ω ω' hs hv ht ho=> ?_,λE E' w ω ω' b he hb=>by rw[he]at hb;exact hb⟩
       have hv0:ps.all (yv V all)=true:=hv (c', .box oo ps) Vy
       obtain⟨b,cs,ty,k1,k2,k3,k4,k5,k6⟩:=ho
       rw[aH]at k3
       refine⟨b,cs,ty,by rw[ht.env c' n (hs _ _ (b1 _ _ (a1 _ _ hn)))];exact k1,k2,by rw[aH];omega,λi x y hx hy=> ?_,k5,λt htt=>by
        rcases hoo with hoo|hoo
        ·rw[hoo]at htt;cases htt
        ·rw[hoo]at htt;exact k6 t htt⟩
       simp only[encL_map,Vz]at hy
       cases hvi:vs'[i]? with
       |none=>rw[hvi]at hy;cases hy
       |some v'=>
        rw[hvi]at hy;simp at hy;subst hy
        have hi:i<cells.length:=by rw[<-a4];exact(Vv.1 hvi).1
        obtain⟨_,q⟩:=a6 i _ v' (Vw hi) hvi
        exact q τ all E E' M ω ω' x (b1.trans hs) hv0 ht (k4 i x _ hx (by rw[encL_map,Vz,Vw hi];rfl))
      ·obtain⟨n',o,q1,q2,q3,x,q4,x',q5,q6,q7⟩:=b5 c' o' hm
       exact⟨n',o,q1,q2,q3,x,q4,x',q5,λτ all E E' M w ω ω' hs hv ht ho=>q6 τ all E E' M w ω ω' hs (λp hp=>hv p (Vu _ hp)) ht ho,q7⟩
     ·cases h
    ·cases h
   ·rename_i i oty cells hown
    split at h
    ·rename_i j x hx
     split at h
     ·rename_i σ'' l2 h2
      simp at h;obtain⟨rfl,rfl⟩:=h
      obtain⟨b1,b2,os,b3,b4,b5,b6⟩:=ce h2
      have hmk:i=j/\∃ls,cT V false (V.tys i) cells=some ls/\∃y:V.N i,V.ofCells i ls=some y/\(TV.lf (.st i) y:TV V.N)= .lf (.st j) x:=by
       unfold mkV at hx
       simp only at hx
       split at hx
       ·rename_i ls hls
        split at hx
        ·rename_i y hy
         have:i=j:=by cases hx;rfl
         exact⟨this,ls,hls,y,hy,hx⟩
        ·cases hx
       ·cases hx
      obtain⟨rfl,ls,hls,y,hy,he⟩:=hmk
      have he:y=x:=by cases he;rfl
      subst he
      refine⟨b1,b2,(c, .bst i y)::os,by simp[b3],by simp[bdO,b4],λc' o' hm=> ?_,by simp[b6]⟩
      rcases VG.1 hm with he|hm
      ·simp only[VW]at he
       obtain⟨rfl,rfl⟩:=he
       refine⟨n, .box oty cells,b1 _ _ hn,hown,rfl,λω=> .box oty (encL V ω cells),λω=>rfl,λ_=> .box none ((V.enc i y).map .d),λω=>rfl,λτ all E E' M w ω ω' hs _ ht ho=> ?_,λE E' w ω ω' b he hb=>by rw[he]at hb;exact hb⟩
       obtain⟨ds,e1,e2,_⟩:=cx (ω:=ω) hls
       obtain⟨b,cs,ty,k1,k2,k3,k4,k5,_⟩:=ho
       have hc:=V.of_cells i ls y hy
       have hnew:(V.enc i y).map H.d=(ls.map λl=>aW V.sz V.enc l.t l.x).map H.d:=by
        rw[V.enc_cells,hc]
       refine⟨b,cs,ty,by rw[ht.env c' n (hs _ _ (b1 _ _ hn))];exact k1,k2,?_,λi' a z ha hz=> ?_,k5,λt htt=>by cases htt⟩
       ·rw[k3,hnew,e1,VA,VA];exact e2.len
       ·rw[hnew,Vz]at hz
        cases hd:(ls.map λl=>aW V.sz V.enc l.t l.x)[i']? with
        |none=>rw[hd]at hz;cases hz
        |some d=>
         rw[hd]at hz;simp at hz;subst hz
         obtain⟨d0,g1,g2⟩:=e2.get i' d hd
         have:=k4 i' a (.d d0) ha (by rw[e1,Vz,g1];rfl)
         cases this with
         |d q=>exact .d (g2 M a q)
      ·obtain⟨n',o,q1,q2,q3,x,q4,x',q5,q6,q7⟩:=b5 c' o' hm
       exact⟨n',o,q1,q2,q3,x,q4,x',q5,λτ all E E' M w ω ω' hs hv ht ho=>q6 τ all E E' M w ω ω' hs (λp hp=>hv p (Vu _ hp)) ht ho,q7⟩
     ·cases h
    ·cases h
   ·rename_i i j x hown
    have h':=aq h;clear h
    obtain⟨e1,h⟩:=h'
    subst e1
    split at h
    ·rename_i σ'' l2 h2
     simp at h;obtain⟨rfl,rfl⟩:=h
     obtain⟨b1,b2,os,b3,b4,b5,b6⟩:=ce h2
     refine⟨b1,b2,(c, .bst i x)::os,by simp[b3],by simp[bdO,b4],λc' o' hm=> ?_,by simp[b6]⟩
     rcases VG.1 hm with he|hm
     ·simp only[VW]at he
      obtain⟨rfl,rfl⟩:=he
      refine⟨n, .bst i x,b1 _ _ hn,hown,rfl,λ_=> .box none ((V.enc i x).map .d),λω=>rfl,λ_=> .box none ((V.enc i x).map .d),λω=>rfl,λτ all E E' M w ω ω' hs _ ht ho=> ?_,λE E' w ω ω' b he hb=>by rw[he]at hb;exact hb⟩
      obtain⟨b,cs,ty,k1,k2,k3,k4,k5⟩:=ho
      refine⟨b,cs,ty,by rw[ht.env c' n (hs _ _ (b1 _ _ hn))];exact k1,k2,k3,λi' a z ha hz=> ?_,k5⟩
      have hq:=k4 i' a z ha hz
      rw[Vz,VF]at hz
      obtain⟨d,_,rfl⟩:=hz
      exact hq.mono (Mem.le_refl _) λm hm=>by simp[H.has]at hm
     ·obtain⟨n',o,q1,q2,q3,x,q4,x',q5,q6,q7⟩:=b5 c' o' hm
      exact⟨n',o,q1,q2,q3,x,q4,x',q5,λτ all E E' M w ω ω' hs hv ht ho=>q6 τ all E E' M w ω ω' hs (λp hp=>hv p (Vu _ hp)) ht ho,q7⟩
    ·cases h
   ·rename_i ps j x hown
    split at h
    ·rename_i σ' l1 h1
     split at h
     ·rename_i σ'' l2 h2
      simp at h;obtain⟨rfl,rfl⟩:=h
      obtain⟨a1,a2,a3,vs',a4,a5,a6⟩:=g8 h1
      obtain⟨b1,b2,os,b3,b4,b5,b6⟩:=ce h2
      refine⟨a1.trans b1,λhi=>b2 (a2 hi),(c, .box none vs')::os,by simp[b3],by simp only[bdO,a5,b4],λc' o' hm=> ?_,by simp[b6]⟩
      rcases VG.1 hm with he|hm
      ·simp only[VW]at he
       obtain⟨rfl,rfl⟩:=he
       refine⟨n, .bst j x,b1 _ _ (a1 _ _ hn),hown,rfl,λ_=> .box none ((V.enc j x).map .d),λω=>rfl,λω=> .box none (encL V ω vs'),λω=>rfl,λτ all E E' M w ω ω' hs hv ht ho=> ?_,λE E' w ω ω' b he hb=>by rw[he]at hb;exact hb⟩
       have hv0:ps.all (yv V all)=true:=hv (c', .box none ps) Vy
       obtain⟨b,cs,ty,k1,k2,k3,k4,k5⟩:=ho
       rw[<-ld ω,aH]at k3
       refine⟨b,cs,ty,by rw[ht.env c' n (hs _ _ (b1 _ _ (a1 _ _ hn)))];exact k1,k2,by rw[aH];omega,λi x' y hx hy=> ?_,k5⟩
       simp only[encL_map,Vz]at hy
       cases hvi:vs'[i]? with
       |none=>rw[hvi]at hy;cases hy
       |some v'=>
        rw[hvi]at hy;simp at hy;subst hy
        have hi:i<((V.cells j x).map λl=>(.lf l.t l.x:TV V.N)).length:=by rw[<-a4];exact(Vv.1 hvi).1
        obtain⟨_,q⟩:=a6 i _ v' (Vw hi) hvi
        exact q τ all E E' M ω ω' x' (b1.trans hs) hv0 ht (k4 i x' _ hx (by rw[<-ld ω,encL_map,Vz,Vw hi];rfl))
      ·obtain⟨n',o,q1,q2,q3,x,q4,x',q5,q6,q7⟩:=b5 c' o' hm
       exact⟨n',o,q1,q2,q3,x,q4,x',q5,λτ all E E' M w ω ω' hs hv ht ho=>q6 τ all E E' M w ω ω' hs (λp hp=>hv p (Vu _ hp)) ht ho,q7⟩
     ·cases h
    ·cases h
   ·rename_i te e te' e' xs hown
    have h':=aq h;clear h
    obtain⟨⟨e1,e2⟩,h⟩:=h'
    subst e1;subst e2
    split at h
    ·rename_i σ'' l2 h2
     simp at h;obtain⟨rfl,rfl⟩:=h
     obtain⟨b1,b2,os,b3,b4,b5,b6⟩:=ce h2
     refine⟨b1,b2,(c, .vec te e xs)::os,by simp[b3],by simp[bdO,b4],λc' o' hm=> ?_,by simp[b6]⟩
     rcases VG.1 hm with he|hm
     ·simp only[VW]at he
      obtain⟨rfl,rfl⟩:=he
      refine⟨n, .vec te e xs,b1 _ _ hn,hown,rfl,λ_=> .vec te (tsz V.sz e) (xs.map λx=>dh V.sz V.enc e x),λω=>rfl,λ_=> .vec te (tsz V.sz e) (xs.map λx=>dh V.sz V.enc e x),λω=>rfl,λτ all E E' M w ω ω' hs _ ht ho=> ?_,λE E' w ω ω' b he hb=>by rw[he]at hb;exact hb⟩
      obtain⟨ys,k1,k2,k3,k4⟩:=ho
      have he:=ht.env c' n (hs _ _ (b1 _ _ hn))
      exact⟨ys,by rw[he];exact k1,k2,k3,by rw[he];exact k4⟩
     ·obtain⟨n',o,q1,q2,q3,x,q4,x',q5,q6,q7⟩:=b5 c' o' hm
      exact⟨n',o,q1,q2,q3,x,q4,x',q5,λτ all E E' M w ω ω' hs hv ht ho=>q6 τ all E E' M w ω ω' hs (λp hp=>hv p (Vu _ hp)) ht ho,q7⟩
    ·cases h
   ·rename_i te e te' e' xs hown
    have h':=aq h;clear h
    obtain⟨⟨e1,e2⟩,h⟩:=h'
    subst e1;subst e2
    split at h
    ·rename_i σ'' l2 h2
     simp at h;obtain⟨rfl,rfl⟩:=h
     obtain⟨b1,b2,os,b3,b4,b5,b6⟩:=ce h2
     refine⟨b1,b2,(c, .pvec te e xs)::os,by simp[b3],by simp[bdO,b4],λc' o' hm=> ?_,by simp[b6]⟩
     rcases VG.1 hm with he|hm
     ·simp only[VW]at he
      obtain⟨rfl,rfl⟩:=he
      refine⟨n, .pvec te e xs,b1 _ _ hn,hown,rfl,λ_=> .dvec te (tsz V.sz e) (xs.map λx=>sO V e x),λω=>rfl,λ_=> .dvec te (tsz V.sz e) (xs.map λx=>sO V e x),λω=>rfl,λτ all E E' M w ω ω' hs _ ht ho=> ?_,λE E' w ω ω' b he hb=> ?_⟩
      ·obtain⟨B,k1,k2⟩:=ho
       have he:=ht.env c' n (hs _ _ (b1 _ _ hn))
       exact⟨B,by rw[he];exact k1,k2⟩
      ·rw[he]at hb;exact hb
     ·obtain⟨n',o,q1,q2,q3,x,q4,x',q5,q6,q7⟩:=b5 c' o' hm
      exact⟨n',o,q1,q2,q3,x,q4,x',q5,λτ all E E' M w ω ω' hs hv ht ho=>q6 τ all E E' M w ω ω' hs (λp hp=>hv p (Vu _ hp)) ht ho,q7⟩
    ·cases h
   ·rename_i te e te' e' xs hown
    have h':=aq h;clear h
    obtain⟨⟨e1,e2⟩,h⟩:=h'
    subst e1;subst e2
    split at h
    ·rename_i σ'' l2 h2
     simp at h;obtain⟨rfl,rfl⟩:=h
     obtain⟨b1,b2,os,b3,b4,b5,b6⟩:=ce h2
     refine⟨b1,b2,(c, .pvec te e (xs.map some))::os,by simp[b3],by simp[bdO,b4],λc' o' hm=> ?_,by simp[b6]⟩
     rcases VG.1 hm with he|hm
     ·simp only[VW]at he
      obtain⟨rfl,rfl⟩:=he
      refine⟨n, .dvec te e xs,b1 _ _ hn,hown,by simp[TO.len],λ_=> .dvec te (tsz V.sz e) (xs.map λx=>cK V.sz V.enc V.tid V.encd e x),λω=>rfl,λ_=> .dvec te (tsz V.sz e) ((xs.map some).map λx=>sO V e x),λω=>rfl,λτ all E E' M w ω ω' hs _ ht ho=> ?_,λE E' w ω ω' b he hb=> ?_⟩
      ·obtain⟨B,k1,k2⟩:=ho
       have he:=ht.env c' n (hs _ _ (b1 _ _ hn))
       exact⟨B,by rw[he];rw[V1];exact k1,k2⟩
      ·rw[he]at hb;rw[V1]at hb;exact hb
     ·obtain⟨n',o,q1,q2,q3,x,q4,x',q5,q6,q7⟩:=b5 c' o' hm
      exact⟨n',o,q1,q2,q3,x,q4,x',q5,λτ all E E' M w ω ω' hs hv ht ho=>q6 τ all E E' M w ω ω' hs (λp hp=>hv p (Vu _ hp)) ht ho,q7⟩
    ·cases h
   ·rename_i te e te' e' xs hown
    have h':=aq h;clear h
    obtain⟨⟨e1,e2⟩,h⟩:=h'
    subst e1;subst e2
    split at h
    ·rename_i σ'' l2 h2
     simp at h;obtain⟨rfl,rfl⟩:=h
     obtain⟨b1,b2,os,b3,b4,b5,b6⟩:=ce h2
     refine⟨b1,b2,(c, .dvec te e xs)::os,by simp[b3],by simp[bdO,b4],λc' o' hm=> ?_,by simp[b6]⟩
     rcases VG.1 hm with he|hm
     ·simp only[VW]at he
      obtain⟨rfl,rfl⟩:=he
      refine⟨n, .dvec te e xs,b1 _ _ hn,hown,rfl,λ_=> .dvec te (tsz V.sz e) (xs.map λx=>cK V.sz V.enc V.tid V.encd e x),λω=>rfl,λ_=> .dvec te (tsz V.sz e) (xs.map λx=>cK V.sz V.enc V.tid V.encd e x),λω=>rfl,λτ all E E' M w ω ω' hs _ ht ho=> ?_,λE E' w ω ω' b he hb=> ?_⟩
      ·obtain⟨B,k1,k2⟩:=ho
       have he:=ht.env c' n (hs _ _ (b1 _ _ hn))
       exact⟨B,by rw[he];exact k1,k2⟩
      ·rw[he]at hb;exact hb
     ·obtain⟨n',o,q1,q2,q3,x,q4,x',q5,q6,q7⟩:=b5 c' o' hm
      exact⟨n',o,q1,q2,q3,x,q4,x',q5,λτ all E E' M w ω ω' hs hv ht ho=>q6 τ all E E' M w ω ω' hs (λp hp=>hv p (Vu _ hp)) ht ho,q7⟩
    ·cases h
   ·rename_i s p hown
    split at h
    ·rename_i σ'' l2 h2
     simp at h;obtain⟨rfl,rfl⟩:=h
     obtain⟨b1,b2,os,b3,b4,b5,b6⟩:=ce h2
     refine⟨b1,b2,(c, .iter s p)::os,by simp[b3],by simp[bdO,b4],λc' o' hm=> ?_,by simp[b6]⟩
     rcases VG.1 hm with he|hm
     ·simp only[VW]at he
      obtain⟨rfl,rfl⟩:=he
      refine⟨n, .iter s p,b1 _ _ hn,hown,rfl,λ_=> .iter s p.toNat,λω=>rfl,λ_=> .iter s p.toNat,λω=>rfl,λτ all E E' M w ω ω' hs _ ht ho=> ?_,λE E' w ω ω' b he hb=>by rw[he]at hb;exact hb⟩
      obtain⟨b,k1,k2,k3⟩:=ho
      have he:=ht.env c' n (hs _ _ (b1 _ _ hn))
      exact⟨b,by rw[he];exact k1,k2,k3⟩
     ·obtain⟨n',o,q1,q2,q3,x,q4,x',q5,q6,q7⟩:=b5 c' o' hm
      exact⟨n',o,q1,q2,q3,x,q4,x',q5,λτ all E E' M w ω ω' hs hv ht ho=>q6 τ all E E' M w ω ω' hs (λp hp=>hv p (Vu _ hp)) ht ho,q7⟩
    ·cases h
   ·rename_i cm tk tv m tk' tv' es rest cur hown
    have h':=aq h;clear h
    obtain⟨⟨e1,e2⟩,h⟩:=h'
    subst e1;subst e2
    split at h
    ·rename_i σ' hb
     obtain⟨a1,a2,a3⟩:=dk hb
     split at h
     ·rename_i σ'' l2 h2
      simp at h;obtain⟨rfl,rfl⟩:=h
      obtain⟨b1,b2,os,b3,b4,b5,b6⟩:=ce h2
      refine⟨a1.trans b1,λhi=>b2 (a3 hi),(c, .miter cm tk tv es rest none)::os,by simp[b3],by simp[bdO,b4],λc' o' hm=> ?_,by simp[b6]⟩
      rcases VG.1 hm with he|hm
      ·simp only[VW]at he
       obtain⟨rfl,rfl⟩:=he
       refine⟨n, .miter m tk tv es rest cur,b1 _ _ (a1 _ _ hn),hown,rfl,λ_=> .miter m (es.map λp=>(kD tk p.1,aW V.sz V.enc tv p.2)) (rest.map λp=>(kD tk p.1,aW V.sz V.enc tv p.2)) (cur.map λp=>(kD tk p.1,aW V.sz V.enc tv p.2)),λω=>rfl,
        λ_=> .miter cm (es.map λp=>(kD tk p.1,aW V.sz V.enc tv p.2)) (rest.map λp=>(kD tk p.1,aW V.sz V.enc tv p.2)) none,λω=>rfl,λτ all E E' M w ω ω' hs _ ht ho=> ?_,λE E' w ω ω' b he hb=>by rw[he]at hb;exact hb⟩
       obtain⟨r',b,es',clock,since,seen,last,k1,k2,k3,k4,k5,k6,k7,k8,k9,k10,_,k12⟩:=ho
       have he:=ht.env c' n (hs _ _ (b1 _ _ (a1 _ _ hn)))
       have he2:=ht.env cm m (hs _ _ (b1 _ _ a2))
       exact⟨r',b,es',clock,since,seen,last,by rw[he];exact k1,by rw[he2];exact k2,k3,k4,k5,k6,k7,k8,k9,k10,(λp hp=>by cases hp),k12⟩
      ·obtain⟨n',o,q1,q2,q3,x,q4,x',q5,q6,q7⟩:=b5 c' o' hm
       exact⟨n',o,q1,q2,q3,x,q4,x',q5,λτ all E E' M w ω ω' hs hv ht ho=>q6 τ all E E' M w ω ω' hs (λp hp=>hv p (Vu _ hp)) ht ho,q7⟩
     ·cases h
    ·cases h
   ·rename_i tk tv tk' tv' es hown
    have h':=aq h;clear h
    obtain⟨⟨e1,e2⟩,h⟩:=h'
    subst e1;subst e2
    split at h
    ·rename_i σ'' l2 h2
     simp at h;obtain⟨rfl,rfl⟩:=h
     obtain⟨b1,b2,os,b3,b4,b5,b6⟩:=ce h2
     refine⟨b1,b2,(c, .map tk tv es)::os,by simp[b3],by simp[bdO,b4],λc' o' hm=> ?_,by simp[b6]⟩
     rcases VG.1 hm with he|hm
     ·simp only[VW]at he
      obtain⟨rfl,rfl⟩:=he
      refine⟨n, .map tk tv es,b1 _ _ hn,hown,rfl,λ_=> .map (es.map λp=>(kD tk p.1,aW V.sz V.enc tv p.2)),λω=>rfl,λ_=> .map (es.map λp=>(kD tk p.1,aW V.sz V.enc tv p.2)),λω=>rfl,λτ all E E' M w ω ω' hs _ ht ho=> ?_,λE E' w ω ω' b he hb=>by rw[he]at hb;exact hb⟩
      obtain⟨b,es',clock,k1,k2,k3,k4,k5⟩:=ho
      have he:=ht.env c' n (hs _ _ (b1 _ _ hn))
      exact⟨b,es',clock,by rw[he];exact k1,k2,k3,k4,k5⟩
     ·obtain⟨n',o,q1,q2,q3,x,q4,x',q5,q6,q7⟩:=b5 c' o' hm
      exact⟨n',o,q1,q2,q3,x,q4,x',q5,λτ all E E' M w ω ω' hs hv ht ho=>q6 τ all E E' M w ω ω' hs (λp hp=>hv p (Vu _ hp)) ht ho,q7⟩
    ·cases h
   ·cases h
  ·cases h
theorem Lp{α:Type}:∀{ks:List Nat} {vs:List α} {t:Nat} {x:α},gt (ks.zip vs) t=some x->∃i:Nat,ks[i]?=some t/\vs[i]?=some x
 |[],_,t,x,h=>by simp[gt]at h
 |_::_,[],t,x,h=>by simp[gt]at h
 |k::ks,v::vs,t,x,h=>by
  simp only[List.zip_cons_cons,ai]at h
  by_cases hk:k=t
  ·rw[Y5 hk]at h;cases h;exact⟨0,by simp[hk],rfl⟩
  ·rw[Y4 hk]at h
   obtain⟨i,h1,h2⟩:=Lp h
   exact⟨i+1,by simpa using h1,by simpa using h2⟩
theorem Mw{S:TS V.N}{c:Cut V.ι}{σ:cQ}{ls:List (du V.N)}(h:MA V c S=some (σ,ls))(hok:GT V c σ=true):Ent (aI V S) (aI V (build V c ls)):=by
 unfold MA at h
 split at h
 ·rename_i σ0 l0 h0
  split at h
  ·rename_i σ1 l1 h1
   simp at h;obtain⟨rfl,rfl⟩:=h
   obtain⟨a1,a2,a3,vs',a4,a5,a6⟩:=g8 h0
   obtain⟨b1,b2,os,b3,b4,b5,b6⟩:=ce h1
   have hinj:Inj σ1:=b2 (a2 λc c' n h=>by simp[gt]at h)
   simp only[GT,VE,VH]at hok
   obtain⟨⟨hg,hsl⟩,hob⟩:=hok
   have hbuild:build V c (l0++l1)={tmps:=(c.slots.map (·.1)).zip vs',own:=os}:=by
    unfold build
    rw[a5 l1]
    simp only[b4]
   rw[hbuild]
   let S':TS V.N:={tmps:=(c.slots.map (·.1)).zip vs',own:=os}
   have hown:∀n o,S'.own? n=some o->(n,o)∈os:=λn o ho=>bn ho
   have hkey:∀n,(c.objs.any λp=>Ww p.1 n)=true->∃o,S'.own? n=some o:=by
    intro n hn
    rw[WJ]at hn
    obtain⟨p,hp,hpn⟩:=hn
    have hpn:p.1=n:=by simpa using hpn
    have hm:n∈os.map (·.1):=by rw[b6,<-hpn];exact VO hp
    exact eD hm
   intro C E M a w hs
   let E':Env:=λm=>match gt σ1 m with
    |some n=>E n
    |none=>E m
   have hE:∀k n,gt σ1 k=some n->E' k=E n:=λk n hk=>by simp only[E',hk]
   have ht:Tr σ1 c.objs E E' S.len S'.len:=by
    refine⟨hE,λk n hk hkn=> ?_⟩
    obtain⟨o,ho⟩:=hkey k hk
    obtain⟨n',o',q1,q2,q3,_⟩:=b5 k o (hown k o ho)
    rw[hkn]at q1;cases q1
    unfold TS.len;rw[ho,q2];exact q3
   have hob':∀p∈c.objs,match p.2 with| .box _ ps=>ps.all (yv V c.objs)=true|_=>True:=by
    intro p hp
    have:=hob p hp
    cases hq:p.2 with
    |box oty ps=>rw[hq]at this;simpa using this
    |st i=>trivial
    |vec te e=>trivial
    |dvec te e out=>trivial
    |map tk tv=>trivial
    |iter=>trivial
    |miter m k v=>trivial
   have hfind:∀n o,(aI V S').own? n=some o->∃n0 o0,gt σ1 n=some n0/\(aI V S).own? n0=some o0/\(∀w,bg E M w n0 o0->bg E' M w n o)/\∀w b,o.foot w (E' n) b->o0.foot w (E n0) b:=by
    intro n o ho
    rw[aT,WO]at ho
    obtain⟨o',ho',hoo⟩:=ho
    obtain⟨n0,o0,q1,q2,_,x,q4,x',q5,q6,q7⟩:=b5 n o' (hown n o' ho')
    rw[q5]at hoo
    simp only[Vx]at hoo
    subst hoo
    exact⟨n0,x S.len,q1,by rw[aT,q2];exact q4 _,λw hw=>q6 σ1 c.objs E E' M w S.len S'.len (Sub.refl _) hob' ht hw,λw b hb=>q7 E E' w S.len S'.len b (hE _ _ q1) hb⟩
   refine⟨E',M,{size:=hs.size,defers:=hs.defers,fixed:=hs.fixed,tmps:=λt x hx=> ?_,mem:=hs.mem,own:=λn o hn=> ?_,apart:=λn m o o' b hne hn hm hb=> ?_,home:=λn o b hn hb=> ?_,m0:=hs.m0,mnew:=hs.mnew,frame:=hs.frame,grows:=hs.grows,os:=hs.os,tape:=hs.tape,output:=hs.output,env:=λn hn=> ?_}⟩
   ·rw[cS,VF]at hx
    obtain⟨v',hv',rfl⟩:=hx
    obtain⟨i,g1,g2⟩:=Lp hv'
    have hi:i<(c.slots.map λp=>S.get p.1).length:=by rw[<-a4];exact(Vv.1 g2).1
    have hget:(c.slots.map λp=>S.get p.1)[i]?=some (S.get t):=by
     rw[Vz]at g1⊢
     cases hsl':c.slots[i]? with
     |none=>rw[hsl']at g1;cases g1
     |some p=>rw[hsl']at g1;simp at g1;subst g1;rfl
    obtain⟨k1,k2⟩:=a6 i _ v' hget g2
    have hgt:∃v,gt S.tmps t=some v/\S.get t=v:=by
     unfold TS.get at k1⊢
     cases hq:gt S.tmps t with
     |none=>rw[hq]at k1;exact(k1 rfl).elim
     |some v=>exact⟨v,rfl,rfl⟩
    obtain⟨v,hv1,hv2⟩:=hgt
    obtain⟨av,hav,hrep⟩:=hs.tmps t (ao V S.len v) (by rw[cS,hv1];rfl)
    refine⟨av,hav,k2 σ1 c.objs E E' M S.len S'.len av b1 ?_ ht (by rw[hv2];exact hrep)⟩
    rw[W1]
    exact VH.2 hsl
   ·obtain⟨n0,o0,q1,q2,q3⟩:=hfind n o hn
    exact q3.1 w (hs.own n0 _ q2)
   ·obtain⟨n0,o0,q1,q2,q3⟩:=hfind n o hn
    obtain⟨m0,o1,r1,r2,r3⟩:=hfind m o' hm
    intro hb'
    exact hs.apart n0 m0 _ _ b (λe=>by subst e;exact hne (hinj n m n0 q1 r1)) q2 r2 (q3.2 w b hb) (r3.2 w b hb')
   ·obtain⟨n0,o0,q1,q2,q3⟩:=hfind n o hn
    exact hs.home n0 _ b q2 (q3.2 w b hb)
   ·cases hq:gt σ1 n with
    |none=>simp only[E',hq];exact hs.env n hn
    |some m=>
     have:=hg _ (bn hq)
     simp only[V0,WZ]at this
     rcases this with h|h
     ·omega
     ·have e:n=m:=by simpa using h
      rw[hE n m hq,<-e];exact hs.env n hn
  ·cases h
 ·cases h
end
end Go.Tx
end
section
namespace Go.Tx
open Go.Awp
variable [Inhabited GMem]
theorem Ent.le{S S':ae}(ht:∀t x,gt S'.tmps t=some x->∃y,gt S.tmps t=some y/\H.le y x)(ho:∀n o,S'.own? n=some o->∃o',S.own? n=some o'/\OLe o' o):Ent S S':=
 λ_ E M _ _ hs=>⟨E,M,Sim.le hs ht ho⟩
theorem mu{a b c:H}(h:H.le a b)(k:H.le b c):H.le a c:=λE M v x=>k E M v (h E M v x)
mutual
theorem FE{n sz:Nat}{rows:List (List D)}:∀x:H,H.has n x=false->H.le (H.frz n sz rows x) x
 | .d x,_=>by simp only[H.frz];exact H.le.refl _
 | .junk,_=>by simp only[H.frz];exact H.le.refl _
 | .bp m o,_=>by simp only[H.frz];exact H.le.refl _
 | .vh m l,h=>by
  simp only[H.has]at h
  have:m≠n:=by intro e;subst e;simp at h
  simp only[H.frz]
  rw[Y4 (λe=>this e.1)]
  exact H.le.refl _
 | .ep m s i o,_=>by simp only[H.frz];exact H.le.refl _
 | .sv m s i o,_=>by simp only[H.frz];exact H.le.refl _
 | .mp m,_=>by simp only[H.frz];exact H.le.refl _
 | .np m b,_=>by simp only[H.frz];exact H.le.refl _
 | .sd m,_=>by simp only[H.frz];exact H.le.refl _
 | .agg cs,h=>by
  simp only[H.frz]
  simp only[H.has]at h
  exact mu (mA _) (KA (H.frzL_len ..) (frzL_le cs h))
 | .tup cs,h=>by
  simp only[H.frz]
  simp only[H.has]at h
  exact yt (H.frzL_len ..) (frzL_le cs h)
 | .fn f a b,_=>by simp only[H.frz];exact H.le.refl _
theorem frzL_le{n sz:Nat}{rows:List (List D)}:∀l:List H,H.hasL n l=false->∀(i:Nat) (x:H),l[i]?=some x->∃y,(H.frzL n sz rows l)[i]?=some y/\H.le y x
 |[],_,i,x,hx=>by simp at hx
 |y::r,h,0,x,hx=>by
  rw[H.hasL,We]at h
  simp at hx;subst hx
  exact⟨H.frz n sz rows y,by simp[H.frzL],FE y h.1⟩
 |y::r,h,i+1,x,hx=>by
  rw[H.hasL,We]at h
  obtain⟨z,h1,h2⟩:=frzL_le r h.2 i x (by simpa using hx)
  exact⟨z,by simpa[H.frzL]using h1,h2⟩
end
section
variable {V:m_}
theorem FF{S:TS V.N}{n:Nat}{te:TypeId}{e:Ty V.ι}{xs:List (den V.N e)}(hn:S.own? n=some (.vec te e xs)):(S.frz V n e xs).len=S.len:=by
 funext m
 unfold TS.len
 unfold TS.own? at hn⊢
 unfold TS.frz
 simp only[ai]
 by_cases hm:n=m
 ·subst hm;rw[Y5 rfl,hn];rfl
 ·rw[Y4 hm,gV (CQ V n e xs)]
  cases gt S.own m with
  |none=>rfl
  |some o=>cases o<;>rfl
theorem zR{S:TS V.N}{n:Nat}{te:TypeId}{e:Ty V.ι}{xs:List (den V.N e)}(hn:S.own? n=some (.vec te e xs))(v:TV V.N):
 H.le (H.frz n (tsz V.sz e) (xs.map λx=>dh V.sz V.enc e x) (ao V S.len v)) (ao V (S.frz V n e xs).len (Lo V n e xs v)):=by
 have other:∀v:TV V.N,H.le (H.frz n (tsz V.sz e) (xs.map λx=>dh V.sz V.enc e x) (ao V S.len v)) (ao V (S.frz V n e xs).len (if TV.has n v=true then .junk else v)):=by
  intro v
  split
  ·simp only[ao];exact H.le.junk _
  ·rename_i hh
   have hh:TV.has n v=false:=by simpa using hh
   rw[FF hn]
   exact FE _ (by rw[iq];exact hh)
 unfold Lo
 split
 ·rename_i m
  by_cases hm:m=n
  ·subst hm
   rw[Y5 rfl]
   simp only[ao,aW,H.frz,iz hn,VA,and_self,Y1]
   exact H.le.refl _
  ·rw[Y4 hm]
   simp only[ao,H.frz]
   rw[Y4 (λe=>hm e.1),FF hn]
   exact H.le.refl _
 ·exact other v
theorem MG{S:TS V.N}{n:Nat}{te:TypeId}{e:Ty V.ι}{xs:List (den V.N e)}(hn:S.own? n=some (.vec te e xs))(v:TV V.N):
 H.le (H.frz n (tsz V.sz e) (xs.map λx=>dh V.sz V.enc e x) (ao V S.len v)) (ao V (S.frz V n e xs).len (R6 V n e xs v)):=by
 unfold R6
 split
 ·rename_i cs
  simp only[ao]
  refine mu ?_ (uU _)
  have hp:∀(l:List H),(∀(i:Nat) (x:H),(encL V (S.frz V n e xs).len (cs.map (Lo V n e xs)))[i]?=some x->∃y,l[i]?=some y/\H.le y x)->l.length=cs.length->
   H.le (.agg l) (.agg (encL V (S.frz V n e xs).len (cs.map (Lo V n e xs)))):=λl h hl=>KA (by rw[aH,VA];exact hl) h
  have hfrz:∀(i:Nat) (x:H),(encL V (S.frz V n e xs).len (cs.map (Lo V n e xs)))[i]?=some x->
   ∃y,(encL V S.len cs)[i]?=some y/\H.le (H.frz n (tsz V.sz e) (xs.map λx=>dh V.sz V.enc e x) y) x:=by
   intro i x hx
   simp only[encL_map,Vz]at hx⊢
   cases hc:cs[i]? with
   |none=>rw[hc]at hx;cases hx
   |some c=>rw[hc]at hx;simp at hx;subst hx;exact⟨_,rfl,zR hn c⟩
  unfold c_
  split
  ·rename_i ds hds
   obtain⟨g1,g2⟩:=gv hds
   simp only[H.frz]
   have e1:H.le (.d (.agg ds)) (.agg (encL V S.len cs)):=by
    have:=mA (encL V S.len cs)
    unfold c_ at this
    rw[hds]at this;exact this
   refine mu e1 (hp _ (λi x hx=> ?_) (aH ..))
   obtain⟨y,hy,hle⟩:=hfrz i x hx
   refine⟨y,hy,?_⟩
   rw[g2]at hy
   cases hd:ds[i]? with
   |none=>rw[hd]at hy;cases hy
   |some d=>rw[hd]at hy;simp at hy;subst hy;simpa only[H.frz]using hle
  ·simp only[H.frz]
   refine mu (mA _) (hp _ (λi x hx=> ?_) (by rw[H.frzL_len,aH]))
   obtain⟨y,hy,hle⟩:=hfrz i x hx
   exact⟨_,by rw[H.frzL_get,hy];rfl,hle⟩
 ·exact zR hn v
theorem FC{S:TS V.N}{n:Nat}{te:TypeId}{e:Ty V.ι}{xs:List (den V.N e)}(hn:S.own? n=some (.vec te e xs)):Ent (aI V S) (aI V (S.frz V n e xs)):=by
 refine Ent.trans (Ent.freeze (gg hn)) (Ent.le (λt x hx=> ?_) λm o ho=> ?_)
 ·rw[cS]at hx
  simp only[TS.frz,gV]at hx
  cases hq:gt S.tmps t with
  |none=>rw[hq]at hx;cases hx
  |some v=>
   rw[hq]at hx;simp at hx;subst hx
   refine⟨_,by simp only[ae.frz,gV,cS,hq,VV],MG hn v⟩
 ·rw[aT,WO]at ho
  obtain⟨o1,ho1,ho⟩:=ho
  have hown:(S.frz V n e xs).own? m=if n=m then some (.gone xs.length)else(S.own? m).map (CQ V n e xs):=by
   unfold TS.own? TS.frz
   simp only[ai]
   split
   ·rfl
   ·rw[gV (CQ V n e xs)]
  rw[hown]at ho1
  by_cases hm:n=m
  ·rw[Y5 hm]at ho1;simp at ho1;subst ho1;simp[bu]at ho
  ·rw[Y4 hm]at ho1
   cases hq:S.own? m with
   |none=>rw[hq]at ho1;cases ho1
   |some o0=>
    rw[hq]at ho1;simp at ho1;subst ho1
    have hsrc:∀x,bu V S.len o0=some x->((aI V S).frz n (tsz V.sz e) (xs.map λx=>dh V.sz V.enc e x)).own? m=some (Own.frz n (tsz V.sz e) (xs.map λx=>dh V.sz V.enc e x) x):=by
     intro x hx
     have:=aT S m
     rw[hq]at this
     simp only[Vk,hx]at this
     unfold ae.own? at this⊢
     simp only[ae.frz,ai]
     rw[Y4 hm,gV (λx:Option Own=>x.map (Own.frz n (tsz V.sz e) (xs.map λx=>dh V.sz V.enc e x)))]
     cases hg:gt (aI V S).own m with
     |none=>rw[hg]at this;cases this
     |some oo=>rw[hg]at this;simp at this;subst this;rfl
    cases o0 with
    |gone l=>simp[CQ,bu]at ho
    |bst i y=>
     simp only[CQ,bu,Vx]at ho
     subst ho
     refine⟨_,hsrc _ rfl,?_⟩
     simp only[Own.frz]
     refine OLe.box (.inr rfl) (by rw[H.frzL_len]) λi' x hx=> ?_
     refine⟨_,by rw[H.frzL_get,hx];rfl,?_⟩
     rw[Vz,VF]at hx
     obtain⟨d,_,rfl⟩:=hx
     exact FE _ (by simp[H.has])
    |vec te' e' ys=>
     simp only[CQ,bu,Vx]at ho
     subst ho
     exact⟨_,hsrc _ rfl,OLe.refl _⟩
    |dvec te' e' ys=>
     simp only[CQ,bu,Vx]at ho
     subst ho
     exact⟨_,hsrc _ rfl,OLe.refl _⟩
    |pvec te' e' ys=>
     simp only[CQ,bu,Vx]at ho
     subst ho
     exact⟨_,hsrc _ rfl,OLe.refl _⟩
    |map tk tv es=>
     simp only[CQ,bu,Vx]at ho
     subst ho
     exact⟨_,hsrc _ rfl,OLe.refl _⟩
    |iter s p=>
     simp only[CQ,bu,Vx]at ho
     subst ho
     exact⟨_,hsrc _ rfl,OLe.refl _⟩
    |miter m k v es rest cur=>
     simp only[CQ,bu,Vx]at ho
     subst ho
     exact⟨_,hsrc _ rfl,OLe.refl _⟩
    |box oty cells=>
     simp only[CQ,bu,Vx]at ho
     subst ho
     refine⟨_,hsrc _ rfl,?_⟩
     simp only[Own.frz]
     refine OLe.box (.inr rfl) (by rw[H.frzL_len,aH,aH,VA]) λi x hx=> ?_
     simp only[encL_map,Vz]at hx
     cases hc:cells[i]? with
     |none=>rw[hc]at hx;cases hx
     |some c=>
      rw[hc]at hx;simp at hx;subst hx
      exact⟨_,by rw[H.frzL_get,encL_map,Vz,hc];rfl,zR hn c⟩
theorem Ent.tle{S S':TS V.N}(hl:S'.len=S.len)(ht:∀t v,gt S'.tmps t=some v->gt S.tmps t=some v)
 (ho:∀n o x,S'.own? n=some o->bu V S.len o=some x->∃o' x',S.own? n=some o'/\bu V S.len o'=some x'/\OLe x' x):Ent (aI V S) (aI V S'):=by
 refine Ent.le (λt x hx=> ?_) λn x hx=> ?_
 ·rw[cS,VF]at hx
  obtain⟨v,hv,rfl⟩:=hx
  exact⟨_,by rw[cS,ht t v hv];rfl,by rw[hl];exact H.le.refl _⟩
 ·rw[aT,WO]at hx
  obtain⟨o,ho1,ho2⟩:=hx
  rw[hl]at ho2
  obtain⟨o',x',h1,h2,h3⟩:=ho n o x ho1 ho2
  exact⟨x',by rw[aT,h1];exact h2,h3⟩
theorem iR{S:TS V.N}{n:Nat}{te:TypeId}{e:Ty V.ι}{xs:List (den V.N e)}(h:S.own? n=some (.dvec te e xs)):
 (aI V S).own? n=some (.dvec te (tsz V.sz e) (xs.map λx=>cK V.sz V.enc V.tid V.encd e x)):=by rw[aT,h];rfl
theorem ph{S:TS V.N}{n:Nat}{te:TypeId}{e:Ty V.ι}{xs:List (Option (den V.N e))}(h:S.own? n=some (.pvec te e xs)):
 (aI V S).own? n=some (.dvec te (tsz V.sz e) (xs.map λx=>sO V e x)):=by rw[aT,h];rfl
theorem Bj(S:TS V.N)(n:Nat)(o:TO V.N)(m:Nat):({S with own:=(n,o)::S.own}:TS V.N).own? m=if n=m then some o else S.own? m:=by
 unfold TS.own?
 rw[ai]
theorem Mx{S:TS V.N}{n:Nat}{te:TypeId}{e:Ty V.ι}{ys:List (den V.N e)}(hn:S.own? n=some (.dvec te e ys)):
 Ent (aI V S) (aI V {S with own:=(n, .vec te e ys)::S.own}):=λC E M a w hs=>by
 obtain⟨M',h1⟩:=hs.dfrz (iR hn) (vo ys)
 refine⟨E,M',?_⟩
 have hl:({S with own:=(n, .vec te e ys)::S.own}:TS V.N).len=S.len:=by
  funext m
  unfold TS.len
  rw[Bj]
  by_cases h:n=m
  ·subst h;rw[Y5 rfl,hn];simp[TO.len]
  ·rw[Y4 h]
 have:aI V {S with own:=(n, .vec te e ys)::S.own}={aI V S with own:=(n,some (.vec te (tsz V.sz e) (ys.map λx=>dh V.sz V.enc e x)))::(aI V S).own}:=by
  unfold aI
  rw[hl]
  rfl
 rw[this]
 exact h1
theorem FB(S:TS V.N)(v:TV V.N):Ent (aI V S) (aI V (MF V S v)):=by
 unfold MF
 split
 ·rename_i n
  split
  ·rename_i te e xs hn;exact FC hn
  ·rename_i te e ys hn
   exact Ent.trans (Mx hn) (FC (by rw[Bj,Y5 rfl]))
  ·exact Ent.refl _
 ·exact Ent.refl _
theorem GR{S1 S2:TS V.N}{n:Nat}{te:TypeId}{e:Ty V.ι}(ht:S2.tmps=S1.tmps)(h1:S1.own? n=some (.vec te e []))(h2:S2.own? n=some (.dvec te e []))(h3:∀k,k≠n->S2.own? k=S1.own? k):Ent (aI V S1) (aI V S2):=by
 have hl:S2.len=S1.len:=by
  funext m
  unfold TS.len
  by_cases h:m=n
  ·subst h;rw[h1,h2];rfl
  ·rw[h3 m h]
 refine Ent.tle hl (λt v hv=>by rw[<-ht];exact hv) λk o x hk hx=> ?_
 by_cases h:k=n
 ·subst h
  rw[h2]at hk;cases hk
  simp only[bu,V8,Vx]at hx;subst hx
  exact⟨_,_,h1,rfl,by simpa using (OLe.v2d (e:=te) (sz:=tsz V.sz e) (rows:=[]))⟩
 ·rw[h3 k h]at hk
  exact⟨o,x,hk,hx,OLe.refl _⟩
theorem dJ:∀(l:List (TV V.N)) (S:TS V.N),Ent (aI V S) (aI V (frzL V S l))
 |[],_=>Ent.refl _
 |v::r,S=>Ent.trans (FB S v) (dJ r _)
theorem tV(te:TypeId)(e:Ty V.ι)(S:TS V.N)(t:Nat):Ent (aI V S) (aI V (De V false te e S t)):=by
 unfold De Or
 simp only
 split
 ·rename_i ht
  split
  ·rename_i hf
   obtain⟨hf,hg⟩:=hf
   have hg:60000+t<given:=by simpa[WZ]using hg
   have h1:gt (aI V S).tmps t=some (.d (.v (.slice none 0 0))):=by rw[cS,ht];simp[ao,bN]
   have h2:(aI V S).fresh (60000+t)=true:=eC hf
   refine Ent.trans (Ent.nilvec (e:=te) (sz:=tsz V.sz e) h1 h2 hg) λC E M a w hs=>⟨E,M,?_⟩
   exact Sim.tapp (V:=V) (S:=S) (dst:=some t) (te:={val:= .vh (60000+t),upd:=[(60000+t, .vec te e [])],new:=[60000+t]}) (ex:=false)
    (e':={val:= .vh (60000+t) 0,upd:=[(60000+t,some (.vec te (tsz V.sz e) []))],new:=[60000+t]}) (λm o hm=>by
      simp only[ai]at hm
      split at hm
      ·rename_i e;left;simp[e]
      ·simp[gt]at hm) (λd hd=>by simp at hd;subst hd;exact hf) (ca (by
      simp only[ao]
      rw[cR]
      simp[ai,TO.len]) rfl (by simp[bu]) rfl) hs
  ·exact Ent.refl _
 ·exact Ent.refl _
theorem xH(dv:Bool)(te:TypeId)(e:Ty V.ι)(S:TS V.N)(t:Nat):Ent (aI V S) (aI V (De V dv te e S t)):=by
 cases dv with
 |false=>exact tV te e S t
 |true=>
  refine Ent.trans (tV te e S t) ?_
  unfold De Or
  simp only
  split
  ·split
   ·refine GR (n:=60000+t) (te:=te) (e:=e) rfl ?_ ?_ λk hk=> ?_<;>unfold TS.own?<;>simp only[ai]
    ·simp
    ·simp
    ·rw[Y4 (VZ hk),Y4 (VZ hk)]
   ·exact Ent.refl _
  ·exact Ent.refl _
theorem fj(objs:List (Nat×OPt V.ι)):∀(l:List (Nat×Pt V.ι)) (S:TS V.N),Ent (aI V S) (aI V (xU V objs S l))
 |[],_=>Ent.refl _
 |(t, .vh c)::r,S=>by
  simp only[xU]
  split
  ·exact Ent.trans (xH _ _ _ S t) (fj objs r _)
  ·exact Ent.trans (xH _ _ _ S t) (fj objs r _)
  ·exact fj objs r S
 |(t, .dat ty)::r,S=>by
  simp only[xU]
  exact Ent.trans (dJ _ S) (fj objs r _)
 |(t, .bp c off)::r,S=>by simp only[xU];exact fj objs r S
 |(t, .mp c)::r,S=>by simp only[xU];exact fj objs r S
 |(t, .np c)::r,S=>by simp only[xU];exact fj objs r S
 |(t, .nif)::r,S=>by simp only[xU];exact fj objs r S
 |(t, .ag cs)::r,S=>by
  simp only[xU]
  exact Ent.trans (dJ _ S) (fj objs r _)
 |(t, .fn f a b)::r,S=>by simp only[xU];exact fj objs r S
theorem qS(te:TypeId)(e:Ty V.ι)(S:TS V.N)(b i:Nat):Ent (aI V S) (aI V (tW V false te e S b i)):=by
 unfold tW Or
 simp only
 split
 ·rename_i oty cells hb
  split
  ·rename_i hc
   split
   ·rename_i hf
    obtain⟨hf,hg⟩:=hf
    generalize hn:70000+S.own.length=n at hf hg⊢
    have hg:n<given:=by simpa[WZ]using hg
    have h1:(aI V S).own? b=some (.box oty (encL V S.len cells)):=by rw[aT,hb];rfl
    have h2:(encL V S.len cells)[i]?=some (.d (.v (.slice none 0 0))):=by rw[encL_map,Vz,hc];simp[ao,bN]
    have hfr:=hf
    unfold TS.fresh at hfr
    simp only[VE,VH]at hfr
    obtain⟨⟨f1,f2⟩,f3⟩:=hfr
    have hbn:b≠n:=by
     rintro rfl
     rw[hb]at f1;cases f1
    have hcn:TV.hasL n cells=false:=by
     have:=f3 (b, .box oty cells) (bn hb)
     simpa[TO.has]using this
    refine Ent.trans (Ent.nilcell (e:=te) (sz:=tsz V.sz e) h1 h2 (eC hf) hg) λC E M a w hs=>⟨E,M,?_⟩
    refine Sim.tapp (V:=V) (S:=S) (dst:=none) (te:={val:= .junk,upd:=[(b, .box oty (cells.set i (.vh n))),(n, .vec te e [])],new:=[n]}) (ex:=false)
     (e':={val:= .junk,upd:=[(b,some (.box oty ((encL V S.len cells).set i (.vh n 0)))),(n,some (.vec te (tsz V.sz e) []))],new:=[n]}) (λm o hm=> ?_) (λd hd=>by simp at hd;subst hd;exact hf) (ca ?_ rfl ?_ rfl) hs
    ·simp only[ai]at hm
     split at hm
     ·rename_i e1
      right
      simp at hm;subst hm;subst e1
      unfold TS.len
      rw[hb];rfl
     ·split at hm
      ·rename_i e1;left;simp[e1]
      ·simp[gt]at hm
    ·simp[ao]
    ·simp only[VC,V8,bu]
     have hl:∀m,(S.app none ({val:= .junk,upd:=[(b, .box oty (cells.set i (.vh n))),(n, .vec te e [])],new:=[n]}:TE V.N)).len m=if m=n then 0 else S.len m:=by
      intro m
      rw[cR]
      simp only[ai]
      by_cases hmb:b=m
      ·subst hmb
       rw[Y5 rfl,Y4 hbn]
       simp only[TO.len]
       unfold TS.len;rw[hb];rfl
      ·rw[Y4 hmb]
       by_cases hmn:n=m
       ·subst hmn;simp[TO.len]
       ·rw[Y4 hmn,Y4 (λe=>hmn e.symm)];rfl
     have hcells:encL V (S.app none ({val:= .junk,upd:=[(b, .box oty (cells.set i (.vh n))),(n, .vec te e [])],new:=[n]}:TE V.N)).len (cells.set i (.vh n))=(encL V S.len cells).set i (.vh n 0):=by
      rw[encL_map,Xx,encL_map]
      congr 1
      ·rw[<-encL_map,<-encL_map]
       refine encL_congr cells λm hm=> ?_
       rw[hl,Y4]
       rintro rfl
       rw[hcn]at hm;cases hm
      ·simp only[ao]
       rw[hl,Y5 rfl]
     rw[hcells]
   ·exact Ent.refl _
  ·exact Ent.refl _
 ·exact Ent.refl _
theorem tX(dv:Bool)(te:TypeId)(e:Ty V.ι)(S:TS V.N)(b i:Nat):Ent (aI V S) (aI V (tW V dv te e S b i)):=by
 cases dv with
 |false=>exact qS te e S b i
 |true=>
  refine Ent.trans (qS te e S b i) ?_
  unfold tW Or
  simp only
  split
  ·rename_i oty cells hb
   split
   ·split
    ·rename_i hf
     have hbn:b≠70000+S.own.length:=λe=>by
      have h1:=hf.1
      unfold TS.fresh at h1
      simp only[VE]at h1
      rw[<-e,hb]at h1;exact absurd h1.1.1 (by simp)
     refine GR (n:=70000+S.own.length) (te:=te) (e:=e) rfl ?_ ?_ λk hk=> ?_<;>unfold TS.own?<;>simp only[ai]
     ·rw[Y4 hbn];simp
     ·rw[Y4 hbn];simp
     ·rw[Y4 (VZ hk),Y4 (VZ hk)]
    ·exact Ent.refl _
   ·exact Ent.refl _
  ·exact Ent.refl _
theorem cH(objs:List (Nat×OPt V.ι))(b:Nat):∀(l:List (Pt V.ι)) (i:Nat) (S:TS V.N),Ent (aI V S) (aI V (gh V objs b i l S))
 |[],_,_=>Ent.refl _
 | .vh c::r,i,S=>by
  simp only[gh]
  split
  ·exact Ent.trans (tX _ _ _ S b i) (cH objs b r _ _)
  ·exact Ent.trans (tX _ _ _ S b i) (cH objs b r _ _)
  ·exact cH objs b r _ S
 | .dat ty::r,i,S=>by simp only[gh];exact Ent.trans (dJ _ S) (cH objs b r _ _)
 | .bp c off::r,i,S=>by simp only[gh];exact cH objs b r _ S
 | .mp c::r,i,S=>by simp only[gh];exact cH objs b r _ S
 | .np c::r,i,S=>by simp only[gh];exact cH objs b r _ S
 | .nif::r,i,S=>by simp only[gh];exact cH objs b r _ S
 | .ag cs::r,i,S=>by simp only[gh];exact cH objs b r _ S
 | .fn f x y::r,i,S=>by simp only[gh];exact cH objs b r _ S
theorem Dm(objs:List (Nat×OPt V.ι))(c b:Nat)(S:TS V.N):Ent (aI V S) (aI V (Ha V objs c b S)):=by
 unfold Ha
 split
 ·exact cH objs b _ 0 S
 ·split
  ·exact dJ _ S
  ·exact Ent.refl _
 ·exact Ent.refl _
theorem Br(objs:List (Nat×OPt V.ι)):∀(m:Nat) (l:List (Nat×Nat)) (S:TS V.N),Ent (aI V S) (aI V (Ot V objs m l S))
 |0,_,_=>by simp only[Ot];exact Ent.refl _
 |_+1,[],_=>by simp only[Ot];exact Ent.refl _
 |m+1,(c,b)::r,S=>by simp only[Ot];exact Ent.trans (Dm objs c b S) (Br objs m _ _)
theorem JV(objs:List (Nat×OPt V.ι))(l:List (Nat×Pt V.ι))(S:TS V.N):Ent (aI V S) (aI V (Sa V objs S l)):=by
 unfold Sa
 split
 ·exact fj _ l S
 ·exact Ent.trans (fj _ l S) (Br _ _ _ _)
theorem dI{c:Cut V.ι}{S:TS V.N}{v:HL V.N c.tys}(h:CI V c S=some v):Ent (aI V S) (aI V (bZ V c v)):=by
 unfold CI at h
 split at h
 ·rename_i σ ls hx
  obtain⟨hok,h⟩:=aq h
  have:=rT h
  unfold bZ
  rw[this]
  exact Ent.trans (JV c.objs c.slots S) (Mw hx hok)
 ·cases h
end
end Go.Tx
end
section
namespace Go.Tx
open Go.Awp
variable [Inhabited GMem]
theorem oX(x:D):DD.toL [.d x]=some [x]:=by simp[DD.toL,DD.toD]
theorem QP{t z:Nat}{rows:List (List DD)}{ds:List (List D)}(h:DD.toR rows=some ds):DD.toL [.sl t z rows]=some [.sl z ds]:=by simp[DD.toL,DD.toD,h]
theorem TM{r:List DD}{s:List (List DD)}{x:List D}{y:List (List D)}(h:DD.toL r=some x)(h':DD.toR s=some y):DD.toR (r::s)=some (x::y):=by simp[DD.toR,h,h']
theorem QQ{α:Type}{f:α->List DD}{g:α->List D}(h:∀x,DD.toL (f x)=some (g x)):∀l:List α,DD.toR (l.map f)=some (l.map g)
 |[]=>by simp[DD.toR]
 |x::r=>TM (h x) (QQ h r)
section
variable (V:m_)
def Q5:Ty V.ι->Bool
 | .st i=>V.flat i
 | .sl _=>false
 |_=>true
def xP(e:Ty V.ι)(ys:List (den V.N e)):TO V.N:=match Q5 V e with
 |true=> .vec (V.tid e) e ys
 |false=> .dvec (V.tid e) e ys
def ie(b:Nat):Nat->List (du V.N)->List (TV V.N)×List (Nat×TO V.N)
 |_,[]=>([],[])
 |j,l::r=>match l with
  |⟨.sl e,ys⟩=>(.vh (BC b j)::(ie b (j+1) r).1,(BC b j,xP V e ys)::(ie b (j+1) r).2)
  |⟨t,x⟩=>(.lf t x::(ie b (j+1) r).1,(ie b (j+1) r).2)
def nin(n:Nat):List Nat->Bool
 |[]=>true
 |k::r=> !Ww k n&&nin n r
def zE:List Nat->Bool
 |[]=>true
 |k::r=>nin k r&&zE r
def Pz{α:Type}:List α->Bool
 |[]=>true
 |_::_=>false
def NE(ag:Bool)(ot:Option (Ty V.ι))(vs:List (TV V.N)):Option (TV V.N):=match ag with
 |true=>some (mkV V true ot vs)
 |false=>match vs with
  |[v]=>some v
  |_=>none
variable (P:Program) (nm:Nat->Nat)
def Je{A:Type}(t:TypeId)(ag:Bool)(sz n s i off d:Nat)(te:TypeId)(e:Ty V.ι)(xs:List (Option (den V.N e)))(y:den V.N e)(k:TE V.N->Option A):Option A:=
 if s=tsz V.sz e/\off+iA ag sz<=s then match ie V (nm d) off (((aQ V e y).drop off).take (iA ag sz))with
  |(vs,os)=>match NE V ag (V.ty t) vs,zE (os.map (·.1))with
   |some v,true=>match Pz os with
    |true=>k {val:=v,acc:=[n]}
    |false=>k {val:=v,acc:=[n],upd:=(n, .pvec te e (xs.set i none))::os,new:=os.map (·.1)}
   |_,_=>none
 else none
def HP{A:Type}(t:TypeId)(x:Operand)(dst:Option Tmp)(S:TS V.N)(k:TE V.N->Option A):Option A:=match cq P t,tev S x,dst with
 |some (ag,sz), .ep n s i off,some d=>match S.own? n with
  |some (.dvec te e ys)=>ys[i]?>>=λy=>Je V nm t ag sz n s i off d te e (ys.map some) y k
  |some (.pvec te e xs)=>xs[i]?>>=λox=>ox>>=λy=>Je V nm t ag sz n s i off d te e xs y k
  |_=>none
 |_,_,_=>none
def give1(S:TS V.N):Ty V.ι->TV V.N->Option (du V.N×Option Nat)
 | .sl e, .vh n=>match S.own? n with
  |some (.vec te e' xs)=>if te=V.tid e'/\e'=e/\Q5 V e'=true then some (⟨.sl e',xs⟩,some n)else none
  |some (.dvec te e' ys)=>if te=V.tid e'/\e'=e then some (⟨.sl e',ys⟩,some n)else none
  |_=>none
 | .sl e, .raw (.slice none 0 0)=>some (⟨.sl e,[]⟩,none)
 | .sl _,_=>none
 |t, .lf t' x=>if t'=t then some (⟨t',x⟩,none)else none
 |_,_=>none
def wX(S:TS V.N):List (Ty V.ι)->List (TV V.N)->Option (List (du V.N)×List (Option Nat))
 |[],[]=>some ([],[])
 |t::ts,v::vs=>match give1 V S t v,wX S ts vs with
  |some (l,n),some (ls,ns)=>some (l::ls,n::ns)
  |_,_=>none
 |_,_=>none
def Fo:Ty V.ι->List (Ty V.ι)
 | .st i=>V.tys i
 |t=>[t]
def BB{A:Type}(s sz n:Nat)(e:Ty V.ι)(cs:List (TV V.N))(S:TS V.N)(k:den V.N e->List Nat->Option A):Option A:=
 if s=tsz V.sz e/\sz=s/\cs.length=s/\cs.all TV.one=true then match wX V S (Fo V e) cs with
  |some (ls,ns)=>match mT V e ls with
   |some y=>match zE (gr ns)&&nin n (gr ns)with
    |true=>k y (gr ns)
    |false=>none
   |none=>none
  |none=>none
 else none
def zU(S:TS V.N)(ns:List Nat):List (Nat×TO V.N):=ns.map λm=>(m, .gone (S.len m))
def AE{A:Type}(t:TypeId)(x y:Operand)(S:TS V.N)(k:TE V.N->Option A):Option A:=match cq P t,tev S x,TV.cells V (tev S y)with
 |some (_,sz), .ep n s i 0,some cs=>match S.own? n with
  |some (.dvec te e ys)=>ys[i]?>>=λ_=>BB V s sz n e cs S λy ns=>k {val:= .junk,acc:=n::ns,upd:=(n, .dvec te e (ys.set i y))::zU V S ns}
  |some (.pvec te e xs)=>xs[i]?>>=λ_=>BB V s sz n e cs S λy ns=>Ec (xs.set i (some y))>>=λys=>k {val:= .junk,acc:=n::ns,upd:=(n, .dvec te e ys)::zU V S ns}
  |_=>none
 |_,_,_=>none
def Az{A:Type}(t:TypeId)(len:Nat)(parts:List (Nat×Operand))(dst:Option Tmp)(S:TS V.N)(k:TE V.N->Option A):Option A:=match parts,dst,b9 P t,V.ty t with
 |[(0,x)],some d,some (te,sz,_),some (.sl e)=>match TV.cells V (tev S x)with
  |some cs=>if len=1/\sz=tsz V.sz e/\sz<=16777216/\cs.length=sz then match wX V S (Fo V e) cs with
   |some (ls,ns)=>match mT V e ls with
    |some y=>match zE (gr ns)with
     |true=>k {val:= .vh (nm d),acc:=gr ns,upd:=(nm d, .dvec te e [y])::zU V S (gr ns),new:=[nm d]}
     |false=>none
    |none=>none
   |none=>none
   else none
  |none=>none
 |_,_,_,_=>none
def N4{A:Type}(args:List (TV V.N))(tys:List TypeId)(dst:Option Tmp)(S:TS V.N)(k:TE V.N->Option A):Option A:=match args,tys,dst with
 |[x, .vh n2],[t,t'],some d=>match b9 P t,S.own? n2 with
  |some (te,sz,bytes),some (.dvec te2 e ys)=>if t=t'/\te=te2/\sz=tsz V.sz e/\bytes<=32768/\¬n2=nm d then match x with
   | .vh n=>if¬n=nm d/\¬n=n2 then match S.own? n with
     |some (.dvec te1 e1 xs)=>if h:e=e1 then
      if te1=te then
       if xs.length+ys.length<=most then k {val:= .vh (nm d),acc:=[n,n2],upd:=[(nm d, .dvec te e1 (xs++h▸ys)),(n, .gone (S.len n)),(n2, .gone (S.len n2))],new:=[nm d]}else none
      else none
      else none
     |some (.pvec te1 e1 xs)=>if h:e=e1 then
      if te1=te then
       if xs.length+ys.length<=most then k {val:= .vh (nm d),acc:=[n,n2],upd:=[(nm d, .pvec te e1 (xs++h▸ys.map some)),(n, .gone (S.len n)),(n2, .gone (S.len n2))],new:=[nm d]}else none
      else none
      else none
     |_=>none
    else none
   | .raw (.slice none 0 0)=>if ys.length<=most then k {val:= .vh (nm d),acc:=[n2],upd:=[(nm d, .dvec te e ys),(n2, .gone (S.len n2))],new:=[nm d]}else none
   |_=>none
   else none
  |_,_=>none
 |_,_,_=>none
def N8{A:Type}(t:TypeId)(x i:Operand)(S:TS V.N)(k:TE V.N->Option A):Option A:=match b9 P t,tev S x,tev S i with
 |some (_,sz,_), .vh m, .lf (.int _) n=>match S.own? m with
  |some (.dvec _ _ xs)=>if 0<=n/\n<xs.length then k {val:= .ep m sz n.toNat 0,acc:=[m]}else none
  |some (.pvec _ _ xs)=>if 0<=n/\n<xs.length then k {val:= .ep m sz n.toNat 0,acc:=[m]}else none
  |_=>none
 |_,_,_=>none
def N6{A:Type}(t:TypeId)(x:Operand)(lo hi mx:Option Operand)(S:TS V.N)(k:TE V.N->Option A):Option A:=match mx,b9 P t,tev S x with
 |none,some (_,sz,_), .vh n=>match S.own? n with
  |some (.vec _ e xs)=>match KD V S lo 0,KD V S hi xs.length with
   |some l,some h=>if(sz=tsz V.sz e/\0<xs.length)/\0<=l/\l<=h/\h<=xs.length then k {val:= .sv n sz l.toNat (h.toNat-l.toNat),acc:=[n]}else none
   |_,_=>none
  |_=>none
 |_,_,_=>none
def HO{A:Type}(args:List (TV V.N))(tys:List TypeId)(dst:Option Tmp)(S:TS V.N)(k:TE V.N->Option A):Option A:=match args,tys,dst with
 |[.sv n sz lo i, .sv n2 sz2 j len],[t,t'],some d=>match b9 P t,S.own? n with
  |some (te,sz',_),some (.vec te1 e xs)=>if((t=t'/\te=te1)/\(sz'=tsz V.sz e/\sz=sz')/\(sz2=sz'/\n2=n))/\(lo=0/\len=xs.length-j)/\(i<=j/\j<=xs.length)then
   k {val:= .vh (nm d),acc:=[n],upd:=[(nm d, .vec te1 e (xs.take i++xs.drop j)),(n, .gone (S.len n))],new:=[nm d]}
   else none
  |_,_=>none
 |_,_,_=>none
def nB(b:Nat):Nat->List (Ty V.ι)->List Value->List (TV V.N)×List (Nat×TO V.N)
 |j,t::ts,z::zs=>match t,z with
  | .sl e, .slice none 0 0=>(.vh (BC b j)::(nB b (j+1) ts zs).1,(BC b j,xP V e [])::(nB b (j+1) ts zs).2)
  |_,z=>(tvc z::(nB b (j+1) ts zs).1,(nB b (j+1) ts zs).2)
 |_,_,zs=>(zs.map tvc,[])
def HQ{A:Type}(t:TypeId)(parts:List (Nat×Operand))(dst:Option Tmp)(k:TE V.N->Option A):Option A:=match parts,sa P t,places P t with
 |[],some z,some _=>match V.ty t,dst with
  |some (.st i),some d=>match z.all ef,nB V d 0 (V.tys i) z with
   |true,(vs,os)=>match zE (os.map (·.1))with
    |true=>k {val:= .agg vs,acc:=[],upd:=os,new:=os.map (·.1)}
    |false=>none
   |false,_=>none
  |_,_=>none
 |_,_,_=>none
def isD:Option (TO V.N)->Bool
 |some (.dvec ..)=>true
 |some (.pvec ..)=>true
 |_=>false
def Lm(pre:Nat->Bool)(o:Oper)(S:TS V.N):Bool:=match o.op with
 | .load _ x=>match tev S x with
  | .ep n _ _ _=>isD V (S.own? n)
  |_=>false
 | .store _ x _=>match tev S x with
  | .ep n _ _ _=>isD V (S.own? n)
  |_=>false
 | .indexAddr _ x _=>match tev S x with
  | .vh n=>isD V (S.own? n)
  |_=>false
 | .buildSlice _ _ _=>match o.dst with
  |some d=>pre (1000000+d)
  |none=>false
 | .call c=>match c.callee with
  | .builtin .append=>match c.args.toList with
   |[_,y]=>match tev S y with
    | .vh n=>isD V (S.own? n)
    | .sv .. =>true
    |_=>false
   |_=>false
  |_=>false
 | .slice _ _ _ _ _=>match o.dst with
  |some d=>pre (3000000+d)
  |none=>false
 | .build _ parts=>match parts.toList,o.dst with
  |[],some d=>pre (1000000+d)
  |_,_=>false
 |_=>false
def HM{A:Type}(o:Oper)(S:TS V.N)(k:TE V.N->Option A):Option A:=match o.op with
 | .load t x=>HP V P nm t x o.dst S k
 | .store t x y=>AE V P t x y S k
 | .indexAddr t x i=>N8 V P t x i S k
 | .buildSlice t len parts=>Az V P nm t len parts.toList o.dst S k
 | .call c=>match c.callee with
  | .builtin .append=>match c.args.toList.map (tev S)with
   |[_, .sv ..]=>HO V P nm (c.args.toList.map (tev S)) c.argTypes.toList o.dst S k
   |_=>N4 V P nm (c.args.toList.map (tev S)) c.argTypes.toList o.dst S k
  |_=>none
 | .slice t x lo hi mx=>N6 V P t x lo hi mx S k
 | .build t parts=>HQ V P t parts.toList o.dst k
 |_=>none
end
section
variable {V:m_}
theorem tM{e:Ty V.ι}(h:Q5 V e=true)(y:den V.N e):cK V.sz V.enc V.tid V.encd e y=(dh V.sz V.enc e y).map .d:=by
 cases e with
 |st i=>
  simp only[cK,dh]
  rw[V.encd_cells,V.enc_cells,V1]
  refine Wv λl hl=> ?_
  have:=V.flat_cells i y h l hl
  obtain⟨t,x⟩:=l
  cases t<;>first|rfl|simp[Ty.isSl]at this
 |sl e=>simp[Q5]at h
 |_=>rfl
theorem JT(e:Ty V.ι)(ys:List (den V.N e)):∃o,(∀ω,bu V ω (xP V e ys)=some o)/\OLe (.dvec (V.tid e) (tsz V.sz e) (ys.map λx=>cK V.sz V.enc V.tid V.encd e x)) o:=by
 unfold xP
 split
 ·rename_i h
  refine⟨_,λ_=>rfl,?_⟩
  have:(ys.map λx=>cK V.sz V.enc V.tid V.encd e x)=(ys.map λx=>dh V.sz V.enc e x).map λr=>r.map .d:=by
   rw[V1]
   exact Wv λx _=>tM h x
  rw[this]
  exact OLe.d2v
 ·exact⟨_,λ_=>rfl,OLe.refl _⟩
theorem xQ(e:Ty V.ι)(ys:List (den V.N e)):TO.len (some (xP V e ys))=ys.length:=by
 unfold xP
 split<;>rfl
theorem ip(e:Ty V.ι)(y:den V.N e):cK V.sz V.enc V.tid V.encd e y=(aQ V e y).map λl=>fY V.sz V.enc V.tid V.encd l.t l.x:=by
 cases e with
 |st i=>simp only[cK,aQ];exact V.encd_cells i y
 |sl e=>rfl
 |_=>rfl
theorem rQ(b:Nat):∀(ls:List (du V.N)) (j:Nat),∃hs os os' ds,mY (BC b) j (ls.map λl=>fY V.sz V.enc V.tid V.encd l.t l.x)=some (hs,os,ds)/\PLe os os'/\(∀ω,os'.map (λp=>(p.1,some p.2))=(ie V b j ls).2.map λp=>(p.1,bu V ω p.2))/\
 (∀ω:Nat->Nat,(∀p∈(ie V b j ls).2,ω p.1=TO.len (some p.2))->hs=encL V ω (ie V b j ls).1)/\((ie V b j ls).2=[]->os=[]/\ds=ls.map λl=>fY V.sz V.enc V.tid V.encd l.t l.x)
 |[],j=>⟨[],[],[],[],rfl, .nil,λ_=>rfl,λ_ _=>rfl,λ_=>⟨rfl,rfl⟩⟩
 |⟨t,x⟩::r,j=>by
  obtain⟨hs,os,os',ds,h1,h2,h3,h4,h5⟩:=rQ b r (j+1)
  have other:∀(t:Ty V.ι) (x:den V.N t),fY V.sz V.enc V.tid V.encd t x= .d (aW V.sz V.enc t x)->ie V b j (⟨t,x⟩::r)=(.lf t x::(ie V b (j+1) r).1,(ie V b (j+1) r).2)->
   ∃hs os os' ds,mY (BC b) j ((⟨t,x⟩::r:List (du V.N)).map λl=>fY V.sz V.enc V.tid V.encd l.t l.x)=some (hs,os,ds)/\PLe os os'/\(∀ω,os'.map (λp=>(p.1,some p.2))=(ie V b j (⟨t,x⟩::r)).2.map λp=>(p.1,bu V ω p.2))/\
  (∀ω:Nat->Nat,(∀p∈(ie V b j (⟨t,x⟩::r)).2,ω p.1=TO.len (some p.2))->hs=encL V ω (ie V b j (⟨t,x⟩::r)).1)/\
    ((ie V b j (⟨t,x⟩::r)).2=[]->os=[]/\ds=(⟨t,x⟩::r:List (du V.N)).map λl=>fY V.sz V.enc V.tid V.encd l.t l.x):=by
    intro t x he ht
    rw[ht]
    refine⟨.d (aW V.sz V.enc t x)::hs,os,os', .d (aW V.sz V.enc t x)::ds,?_,h2,h3,λω hω=> ?_,λhn=>⟨(h5 hn).1,?_⟩⟩
    ·simp only[VC,mY,h1,he]
    ·simp only[encL,ao]
     rw[h4 ω hω]
    ·rw[VC,(h5 hn).2,he]
  cases t with
  |sl e=>
   obtain⟨o,o1,o2⟩:=JT (V:=V) e x
   refine⟨.vh (BC b j) x.length::hs,(BC b j, .dvec (V.tid e) (tsz V.sz e) (x.map λy=>cK V.sz V.enc V.tid V.encd e y))::os,(BC b j,o)::os', .junk::ds,?_, .cons o2 h2,λω=> ?_,λω hω=> ?_,λhn=> ?_⟩
   ·simp only[VC,mY,h1]
    simp only[fY,VA]
   ·simp only[ie,VC,h3 ω,o1]
   ·simp only[ie,encL,ao]at hω⊢
    have:=hω _ Vy
    simp only at this
    rw[this,xQ,h4 ω λp hp=>hω p (Vu _ hp)]
   ·simp only[ie]at hn;cases hn
  |int k=>exact other _ x rfl rfl
  |bool=>exact other _ x rfl rfl
  |str=>exact other _ x rfl rfl
  |st i=>exact other _ x rfl rfl
  |mp k v=>exact other _ x rfl rfl
  |er=>exact other _ x rfl rfl
  |op e=>exact other _ x rfl rfl
  |fnc=>exact other _ x rfl rfl
theorem Ak{n:Nat}:∀{l:List Nat},nin n l=true->n∉l
 |[],_=>by simp
 |k::r,h=>by
  simp only[nin,VE,W7]at h
  intro hm
  rcases VG.1 hm with q|q
  ·subst q;simp at h
  ·exact Ak h.2 q
theorem fX:∀{l:List Nat},zE l=true->l.Nodup
 |[],_=> .nil
 |a::r,h=>by
  simp only[zE,VE]at h
  exact WC.2 ⟨Ak h.1,fX h.2⟩
theorem kU{e:Ty V.ι}{ls:List (du V.N)}{y:den V.N e}(h:mT V e ls=some y):aQ V e y=ls:=by
 have single:∀(t:Ty V.ι) (y:den V.N t) (l:du V.N),(if h:l.t=t then some (h▸l.x:den V.N t)else none)=some y->[(⟨t,y⟩:du V.N)]=[l]:=by
  intro t y l h
  split at h
  ·rename_i ht
   obtain⟨lt,lx⟩:=l
   simp only at ht;subst ht
   simp only[Vx]at h
   subst h;rfl
  ·cases h
 cases e with
 |st i=>exact V.of_cells _ _ _ h
 |_=>
  cases ls with
  |nil=>simp[mT]at h
  |cons l r=>
   cases r with
   |nil=>exact single _ y l h
   |cons a b=>simp[mT]at h
theorem zT{S:TS V.N}{t:Ty V.ι}{v:TV V.N}{l:du V.N}{n:Option Nat}(h:give1 V S t v=some (l,n)):kY (aI V S).own? (ao V S.len v) (fY V.sz V.enc V.tid V.encd l.t l.x) n:=by
 unfold give1 at h
 split at h
 ·rename_i e n'
  split at h
  ·rename_i te e' xs hn
   have h':=aq h;clear h
   obtain⟨⟨h1,h2,hf⟩,h⟩:=h'
   subst h1;subst h2
   simp only[Vx,VW]at h
   obtain⟨rfl,rfl⟩:=h
   have:=kY.v (ω:=(aI V S).own?) n' (V.tid e') (tsz V.sz e') _ (gg hn)
   simp only[ao,iz hn,fY]
   rw[VA]at this
   have he:(xs.map λx=>cK V.sz V.enc V.tid V.encd e' x)=(xs.map λx=>dh V.sz V.enc e' x).map λr=>r.map .d:=by
    rw[V1]
    exact Wv λx _=>tM hf x
   rw[he];exact this
  ·rename_i te e' ys hn
   have h':=aq h;clear h
   obtain⟨⟨h1,h2⟩,h⟩:=h'
   subst h1;subst h2
   simp only[Vx,VW]at h
   obtain⟨rfl,rfl⟩:=h
   have:=kY.dv (ω:=(aI V S).own?) n' (V.tid e') (tsz V.sz e') _ (iR hn)
   have hl:S.len n'=ys.length:=by unfold TS.len;rw[hn];rfl
   simp only[ao,hl,fY]
   rw[VA]at this
   exact this
  ·cases h
 ·rename_i e
  simp only[Vx,VW]at h
  obtain⟨rfl,rfl⟩:=h
  exact .nil _ _
 ·cases h
 ·rename_i t' x hne
  have h':=aq h;clear h
  obtain⟨h1,h⟩:=h'
  subst h1
  simp only[Vx,VW]at h
  obtain⟨rfl,rfl⟩:=h
  have:fY V.sz V.enc V.tid V.encd t' x= .d (aW V.sz V.enc t' x):=by
   cases t'<;>first|rfl|simp_all
  rw[this]
  exact .d _
 ·cases h
theorem lB{S:TS V.N}:∀{ts:List (Ty V.ι)} {vs:List (TV V.N)} {ls:List (du V.N)} {ns:List (Option Nat)},wX V S ts vs=some (ls,ns)->
 ∃l:List (H×DD×Option Nat),(l.map λp=>p.1)=encL V S.len vs/\(l.map λp=>p.2.1)=(ls.map λl=>fY V.sz V.enc V.tid V.encd l.t l.x)/\(l.map λp=>p.2.2)=ns/\∀p∈l,kY (aI V S).own? p.1 p.2.1 p.2.2
 |[],[],ls,ns,h=>by
  simp only[wX,Vx,VW]at h
  obtain⟨rfl,rfl⟩:=h
  exact⟨[],rfl,rfl,rfl,λp hp=>by cases hp⟩
 |[],_::_,ls,ns,h=>by simp[wX]at h
 |_::_,[],ls,ns,h=>by simp[wX]at h
 |t::ts,v::vs,ls,ns,h=>by
  simp only[wX]at h
  split at h
  ·rename_i l n ls' ns' h1 h2
   simp only[Vx,VW]at h
   obtain⟨rfl,rfl⟩:=h
   obtain⟨L,a1,a2,a3,a4⟩:=lB h2
   refine⟨(ao V S.len v,fY V.sz V.enc V.tid V.encd l.t l.x,n)::L,by simp[encL,a1],by simp[a2],by simp[a3],λp hp=> ?_⟩
   rcases VG.1 hp with q|q
   ·subst q;exact zT h1
   ·exact a4 p q
  ·cases h
theorem Fv{l:du V.N}(h:l.t.cell=true):DD.one (fY V.sz V.enc V.tid V.encd l.t l.x)=true:=by
 obtain⟨t,x⟩:=l
 have:=qi (l:=⟨t,x⟩) h
 cases t<;>first|rfl|(simp[Ty.cell]at h;done)|simpa[fY,DD.one,H.one]using this
theorem Fw(e:Ty V.ι)(y:den V.N e):(cK V.sz V.enc V.tid V.encd e y).all DD.one=true:=by
 rw[ip,W1,VH]
 exactλl hl=>Fv (rf e y l hl)
theorem dlen{S:TS V.N}{n:Nat}{te:TypeId}{e:Ty V.ι}{xs:List (den V.N e)}(h:S.own? n=some (.dvec te e xs)):S.len n=xs.length:=by unfold TS.len;rw[h];rfl
theorem Q7{S:TS V.N}{n:Nat}{te:TypeId}{e:Ty V.ι}{xs:List (Option (den V.N e))}(h:S.own? n=some (.pvec te e xs)):S.len n=xs.length:=by unfold TS.len;rw[h];rfl
theorem gi{e:Ty V.ι}(ys:List (den V.N e)):((ys.map some).map λx=>sO V e x)=ys.map λx=>cK V.sz V.enc V.tid V.encd e x:=by
 rw[V1];rfl
theorem wZ{S:TS V.N}{ns:List Nat}{m:Nat}{o:TO V.N}(h:gt (zU V S ns) m=some o):TO.len (some o)=S.len m:=by
 obtain⟨k,_,hk⟩:=VQ.1 (bn h)
 simp only[VW]at hk
 obtain⟨rfl,rfl⟩:=hk
 rfl
theorem wY(ω:Nat->Nat)(S:TS V.N)(ns:List Nat):(zU V S ns).map (λp=>(p.1,bu V ω p.2))=ns.map λn=>(n,none):=by
 unfold zU
 rw[V1]
 rfl
theorem uK{α:Type}:∀{l:List (Nat×α)} {n:Nat} {x:α},(l.map (·.1)).Nodup->(n,x)∈l->gt l n=some x
 |[],_,_,_,h=>by cases h
 |(k,y)::r,n,x,hn,h=>by
  rw[VC,WC]at hn
  rw[ai]
  rcases VG.1 h with q|q
  ·cases q;rw[Y5 rfl]
  ·rw[Y4 λe=>hn.1 (by rw[e];exact VQ.2 ⟨_,q,rfl⟩)]
   exact uK hn.2 q
theorem qA{α:Type}{l:List (Nat×α)}{n:Nat}{x:α}(h:(n,x)∈l):n∈l.map (·.1):=VQ.2 ⟨_,h,rfl⟩
section
variable {P:Program} {nm:Nat->Nat} {o:Oper} {S:TS V.N} {A:Type} {k:TE V.N->Option A} {r:A}
def OpD(P:Program)(nm:Nat->Nat)(o:Oper)(S:TS V.N)(k:TE V.N->Option A)(r:A):Prop:=
 ∃te,k te=some r/\good S te/\∃e',sX P nm o (Go.Awp.ev (aI V S)) (aI V S).own? e'/\ELe true e' (gJ (S.app o.dst te).len te)
theorem A9{t:TypeId}{x:Operand}{ag:Bool}{sz n s i off d:Nat}{te:TypeId}{e:Ty V.ι}{xs:List (Option (den V.N e))}{y:den V.N e}(hf:∀te,k te=some r->∀d∈te.new,S.fresh d=true)(ho:o.op= .load t x)(hdst:o.dst=some d)
 (ht:cq P t=some (ag,sz))(hx:tev S x= .ep n s i off)(hn:(aI V S).own? n=some (.dvec te (tsz V.sz e) (xs.map λx=>sO V e x)))(hsome:S.own? n≠none)(hln:S.len n=xs.length)(hox:xs[i]?=some (some y))
 (h:Je V nm t ag sz n s i off d te e xs y k=some r):OpD P nm o S k r:=by
 unfold Je at h
 have h':=aq h;clear h
 obtain⟨⟨hse,hfit⟩,h⟩:=h'
 generalize hT:ie V (nm d) off (((aQ V e y).drop off).take (iA ag sz))=T at h
 obtain⟨vs,os⟩:=T
 simp only at h
 obtain⟨hh,hos,hos',ds,b1,b2,b3,b4,b5⟩:=rQ (V:=V) (nm d) (((aQ V e y).drop off).take (iA ag sz)) off
 rw[hT]at b3 b4 b5
 simp only at b3 b4 b5
 have hrl:=fP e y
 let all:=(aQ V e y).map λl=>fY V.sz V.enc V.tid V.encd l.t l.x
 have hrow:(xs.map λx=>sO V e x)[i]?=some all:=by
  rw[Vz,hox]
  simp only[VV,sO,all]
  rw[ip]
 have hmid:(all.drop off).take (iA ag sz)=(((aQ V e y).drop off).take (iA ag sz)).map λl=>fY V.sz V.enc V.tid V.encd l.t l.x:=by
  simp only[all,Xa,W_]
 have hal:all.length=s:=by simp only[all];rw[VA,hrl,hse]
 have hsn:(aI V S).own? n=some (.dvec te s (xs.map λx=>sO V e x)):=by rw[hn,hse]
 have hxe:Go.Awp.ev (aI V S) x= .ep n s i off:=by rw[aw,hx];rfl
 have hnames:os.map (·.1)=hos'.map (·.1):=by
  have:=congrArg (W0 (·.1)) (b3 λ_=>0)
  rw[V1,V1]at this
  exact this.symm
 split at h
 ·rename_i v hv hdi
  have hdi:=fX hdi
  have hval:∀ω:Nat->Nat,hh=encL V ω vs->(ag=true/\ao V ω v=c_ hh\/ag=false/\hh=[ao V ω v]):=by
   intro ω hω
   cases ag with
   |true=>
    simp only[NE,Vx]at hv
    subst hv
    exact .inl ⟨rfl,by rw[hω];exact(jy.2 rfl).symm⟩
   |false=>
    simp only[NE]at hv
    split at hv
    ·rename_i v0
     cases hv
     exact .inr ⟨rfl,by rw[hω];rfl⟩
    ·cases hv
  cases hni:Pz os with
  |true=>
   rw[hni]at h
   simp only at h
   have hos0:os=[]:=by cases os with|nil=>rfl|cons a b=>cases hni
   subst hos0
   obtain⟨q1,q2⟩:=b5 rfl
   subst q1
   rw[<-hmid]at q2
   subst q2
   refine⟨_,h,gB S v [n],_, .load0 (val:=ao V S.len v) ho hdst ht hxe hsn hrow hal hfit (by rw[<-hmid]at b1;exact b1) (hval _ (b4 _ λp hp=>by cases hp)),qh rfl⟩
  |false=>
   rw[hni]at h
   simp only at h
   have hfr:=hf _ h
   have hlen:∀p∈os,(S.app o.dst {val:=v,acc:=[n],upd:=(n, .pvec te e (xs.set i none))::os,new:=os.map (·.1)}).len p.1=TO.len (some p.2):=by
    intro p hp
    rw[cR]
    have hpn:n≠p.1:=λe1=>by
     have:=hfr p.1 (VO hp)
     unfold TS.fresh at this
     simp only[VE]at this
     have h9:=this.1.1
     rw[<-e1]at h9
     cases hq:S.own? n with
     |none=>exact hsome hq
     |some o9=>rw[hq]at h9;cases h9
    simp only[ai,Y4 hpn]
    have:gt os p.1=some p.2:=uK hdi hp
    rw[this]
   refine⟨_,h,λm p hm=> ?_,_, .load (val:=ao V (S.app o.dst {val:=v,acc:=[n],upd:=(n, .pvec te e (xs.set i none))::os,new:=os.map (·.1)}).len v) ho hdst ht hxe hsn hrow hal hfit (by rw[<-hmid]at b1;exact b1) (hval _ (b4 _ hlen)) b2 (by rw[<-hnames];exact hdi),
    ca rfl hnames.symm ?_ rfl⟩
   ·simp only[ai]at hm
    by_cases hnm:n=m
    ·subst hnm
     rw[Y5 rfl]at hm;cases hm
     right;rw[hln];simp[TO.len]
    ·rw[Y4 hnm]at hm
     exact .inl (qA (bn hm))
   ·rw[VC]
    refine congr (congrArg List.cons ?_) (b3 _)
    simp only[bu,Xx,sO,hse]
 ·cases h
theorem Kc{t:TypeId}{x:Operand}(hf:∀te,k te=some r->∀d∈te.new,S.fresh d=true)(ho:o.op= .load t x)(h:HP V P nm t x o.dst S k=some r):OpD P nm o S k r:=by
 unfold HP at h
 split at h
 ·rename_i ag sz n s i off d ht hx hdst
  split at h
  ·rename_i te e ys hn
   obtain⟨y,hy,h2⟩:=bK h
   exact A9 hf ho hdst ht hx (by rw[gi];exact iR hn) (by rw[hn];simp) (by rw[dlen hn,VA]) (by rw[Vz,hy];rfl) h2
  ·rename_i te e xs hn
   obtain⟨ox,hox,h2⟩:=bK h
   obtain⟨y,hy,h3⟩:=bK h2
   exact A9 hf ho hdst ht hx (ph hn) (by rw[hn];simp) (Q7 hn) (by rw[hox,hy]) h3
  ·cases h
 ·cases h
theorem yl{t:TypeId}{x y:Operand}{ag:Bool}{sz n s i:Nat}{te:TypeId}{e:Ty V.ι}{xs:List (Option (den V.N e))}{ox:Option (den V.N e)}{cs:List (TV V.N)}{f:den V.N e->List Nat->Option A}(ho:o.op= .store t x y)
 (ht:cq P t=some (ag,sz))(hx:tev S x= .ep n s i 0)(hcs:TV.cells V (tev S y)=some cs)(hn:(aI V S).own? n=some (.dvec te (tsz V.sz e) (xs.map λx=>sO V e x)))(hox:xs[i]?=some ox)
 (h:BB V s sz n e cs S f=some r):∃y' ns,f y' ns=some r/\sX P nm o (Go.Awp.ev (aI V S)) (aI V S).own? {val:= .junk,acc:=n::ns,upd:=(n,some (.dvec te (tsz V.sz e) ((xs.set i (some y')).map λx=>sO V e x)))::ns.map λm=>(m,none)}:=by
 unfold BB at h
 have h':=aq h;clear h
 obtain⟨⟨hse,hss,hcl,hone⟩,h⟩:=h'
 rw[hss]at ht
 split at h
 ·rename_i ls ns hg
  split at h
  ·rename_i y' hy'
   split at h
   ·rename_i hdi
    rw[VE]at hdi
    obtain⟨l,l1,l2,l3,l4⟩:=lB hg
    have hrc:=kU hy'
    have hll:l.length=s:=by
     have:=congrArg Xt l1
     rw[VA,aH]at this;omega
    have hrow:(xs.map λx=>sO V e x)[i]?=some (sO V e ox):=by rw[Vz,hox];rfl
    refine⟨y',gr ns,h,?_⟩
    have:=sX.store (ρ:=Go.Awp.ev (aI V S)) (ω:=(aI V S).own?) (nm:=nm) (l:=l) ho ht (by rw[aw,hx];rfl) (by rw[hn,hse]) hrow (by rw[aw,l1];exact dm hcs) hll (by rw[l1];exact fu hone) l4 (by rw[l3];exact fX hdi.1) (by rw[l3];exact Ak hdi.2)
    rw[l2,l3]at this
    have hq:sO V e (some y')=ls.map λl=>fY V.sz V.enc V.tid V.encd l.t l.x:=by
     simp only[sO]
     rw[ip,hrc]
    rw[Xx,hq,<-hse]
    exact this
   ·cases h
  ·cases h
 ·cases h
theorem HX{t:TypeId}{x y:Operand}(ho:o.op= .store t x y)(h:AE V P t x y S k=some r):OpD P nm o S k r:=by
 have fin:∀(n:Nat) (te:TypeId) (e:Ty V.ι) (ys:List (den V.N e)) (ns:List Nat),S.len n=ys.length->k {val:= .junk,acc:=n::ns,upd:=(n, .dvec te e ys)::zU V S ns}=some r->
  sX P nm o (Go.Awp.ev (aI V S)) (aI V S).own? {val:= .junk,acc:=n::ns,upd:=(n,some (.dvec te (tsz V.sz e) (ys.map λx=>cK V.sz V.enc V.tid V.encd e x)))::ns.map λm=>(m,none)}->OpD P nm o S k r:=by
  intro n te e ys ns hl h hs'
  refine⟨_,h,λm p hm=> ?_,_,hs',ca rfl rfl ?_ rfl⟩
  ·simp only[ai]at hm
   by_cases hnm:n=m
   ·subst hnm
    rw[Y5 rfl]at hm;cases hm
    right;rw[hl];rfl
   ·rw[Y4 hnm]at hm
    exact .inr (wZ hm)
  ·rw[VC,wY];rfl
 unfold AE at h
 split at h
 ·rename_i ag sz n s i cs ht hx hcs
  split at h
  ·rename_i te e ys hn
   obtain⟨y0,hy0,h2⟩:=bK h
   obtain⟨y',ns,h3,h4⟩:=yl (nm:=nm) (xs:=ys.map some) ho ht hx hcs (by rw[gi];exact iR hn) (by rw[Vz,hy0];rfl) h2
   refine fin n te e _ ns (by rw[dlen hn,WD]) h3 ?_
   rw[<-gi,Xx]
   exact h4
  ·rename_i te e xs hn
   obtain⟨ox,hox,h2⟩:=bK h
   obtain⟨y',ns,h3,h4⟩:=yl (nm:=nm) ho ht hx hcs (ph hn) hox h2
   obtain⟨ys,hys,h5⟩:=bK h3
   have hq:=Ed hys
   refine fin n te e ys ns ?_ h5 ?_
   ·rw[Q7 hn]
    have:=congrArg Xt hq
    rw[WD,VA]at this;exact this
   ·rw[<-gi,<-hq];exact h4
  ·cases h
 ·cases h
theorem HK{t:TypeId}{len:Nat}{parts:Array (Nat×Operand)}(ho:o.op= .buildSlice t len parts)(h:Az V P nm t len parts.toList o.dst S k=some r):OpD P nm o S k r:=by
 unfold Az at h
 split at h
 ·rename_i x d te sz by_ e hparts hdst ht hty
  split at h
  ·rename_i cs hcs
   have h':=aq h;clear h
   obtain⟨⟨h0,hse,hsm,hcl⟩,h⟩:=h'
   subst h0
   split at h
   ·rename_i ls ns hg
    split at h
    ·rename_i y' hy'
     split at h
     ·rename_i hdi
      obtain⟨l,l1,l2,l3,l4⟩:=lB hg
      have hrc:=kU hy'
      have hll:l.length=sz:=by
       have:=congrArg Xt l1
       rw[VA,aH]at this;omega
      have hpa:parts= #[(0,x)]:=by rw[<-W6];exact hparts
      subst hpa
      have:=sX.build (ρ:=Go.Awp.ev (aI V S)) (ω:=(aI V S).own?) (nm:=nm) (l:=l) ho hdst ht hsm (by rw[aw,l1];exact dm hcs) hll l4 (by rw[l3];exact fX hdi)
      rw[l2,l3]at this
      refine⟨_,h,λm p hm=> ?_,_,this,ca ?_ rfl ?_ rfl⟩
      ·simp only[ai]at hm
       by_cases hnm:nm d=m
       ·left;simp[hnm]
       ·rw[Y4 hnm]at hm
        exact .inr (wZ hm)
      ·simp only[ao]
       rw[cR]
       simp only[ai,Y1]
       rfl
      ·rw[VC,wY]
       have hq:cK V.sz V.enc V.tid V.encd e y'=ls.map λl=>fY V.sz V.enc V.tid V.encd l.t l.x:=by
        rw[ip,hrc]
       simp only[bu,VC,V8]
       rw[hq,hse]
     ·cases h
    ·cases h
   ·cases h
  ·cases h
 ·cases h
theorem N9{t:TypeId}{x i:Operand}(ho:o.op= .indexAddr t x i)(h:N8 V P t x i S k=some r):OpD P nm o S k r:=by
 unfold N8 at h
 split at h
 ·rename_i te sz by_ m kk n ht hx hi
  split at h
  ·rename_i te' e' xs hm
   have h':=aq h;clear h
   obtain⟨⟨h0,h1⟩,h⟩:=h'
   exact⟨_,h,gB S _ _,_, .index ho ht (by rw[aw,hx];rfl) (by rw[aw,hi];rfl) (iR hm) h0 (by rw[dlen hm];exact h1),qh rfl⟩
  ·rename_i te' e' xs hm
   have h':=aq h;clear h
   obtain⟨⟨h0,h1⟩,h⟩:=h'
   exact⟨_,h,gB S _ _,_, .index ho ht (by rw[aw,hx];rfl) (by rw[aw,hi];rfl) (ph hm) h0 (by rw[Q7 hm];exact h1),qh rfl⟩
  ·cases h
 ·cases h
theorem N5{c:Call}(ho:o.op= .call c)(hc:c.callee= .builtin .append)(h:N4 V P nm (c.args.toList.map (tev S)) c.argTypes.toList o.dst S k=some r):OpD P nm o S k r:=by
 unfold N4 at h
 split at h
 ·rename_i x n2 t t' d hargs htys hdst
  split at h
  ·rename_i te sz bytes te2 e ys ht hn2
   have h':=aq h;clear h
   obtain⟨⟨h1,h2,hse,hby,hnd⟩,h⟩:=h'
   subst h1;subst h2
   obtain⟨p,q,hpq,hpx,hqx⟩:∃p q,c.args.toList=[p,q]/\tev S p=x/\tev S q= .vh n2:=by
    match hcl:c.args.toList,hargs with
    |[p,q],hargs=>simp at hargs;exact⟨p,q,rfl,hargs.1,hargs.2⟩
    |[],hargs=>simp at hargs
    |[_],hargs=>simp at hargs
    |_::_::_::_,hargs=>simp at hargs
   have hca:c.args= #[p,q]:=by rw[<-W6];exact hpq
   have hct:c.argTypes= #[t,t]:=by rw[<-W6];exact htys
   have hqe:Go.Awp.ev (aI V S) q= .vh n2 (ys.map λx=>cK V.sz V.enc V.tid V.encd e x).length:=by
    rw[aw,hqx];simp only[ao];rw[dlen hn2];simp
   have hone:(ys.map λx=>cK V.sz V.enc V.tid V.encd e x).flatten.all DD.one=true:=by
    rw[List.all_flatten,W1,VH]
    intro y _
    exact Fw e y
   have hown2:(aI V S).own? n2=some (.dvec te sz (ys.map λx=>cK V.sz V.enc V.tid V.encd e x)):=by rw[iR hn2,hse]
   have good2:∀(n:Nat) (o1:TO V.N) (m:Nat) (p:TO V.N),gt [(nm d,o1),(n, .gone (S.len n)),(n2, .gone (S.len n2))] m=some p->m∈[nm d]\/TO.len (some p)=S.len m:=by
    intro n o1 m p hm
    simp only[ai]at hm
    by_cases e1:nm d=m
    ·left;simp[e1]
    ·rw[Y4 e1]at hm
     right
     by_cases e2:n=m
     ·rw[Y5 e2]at hm;cases hm;subst e2;rfl
     ·rw[Y4 e2]at hm
      by_cases e3:n2=m
      ·rw[Y5 e3]at hm;cases hm;subst e3;rfl
      ·rw[Y4 e3]at hm;simp[gt]at hm
   have two:∀(n:Nat) (xs:List (Option (den V.N e))) (o1:TO V.N),tev S p= .vh n->¬n=n2->S.len n=xs.length->(aI V S).own? n=some (.dvec te sz (xs.map λx=>sO V e x))->TO.len (some o1)=xs.length+ys.length->
    (∀ω,bu V ω o1=some (.dvec te sz ((xs.map λx=>sO V e x)++ys.map λx=>cK V.sz V.enc V.tid V.encd e x)))->
    (if xs.length+ys.length<=most then k {val:= .vh (nm d),acc:=[n,n2],upd:=[(nm d,o1),(n, .gone (S.len n)),(n2, .gone (S.len n2))],new:=[nm d]}else none)=some r->OpD P nm o S k r:=by
    intro n xs o1 hp hn12 hln hown hlo henc h
    have h':=aq h;clear h
    obtain⟨hle,h⟩:=h'
    have hby':((xs.map λx=>sO V e x).length+(ys.map λx=>cK V.sz V.enc V.tid V.encd e x).length) *bytes<=140737488355328:=by
     simp only[VA,most]at hle⊢
     have:(xs.length+ys.length) *bytes<=4294967296 *32768:=Yc hle hby
     omega
    refine⟨_,h,λm p hm=>good2 n o1 m p hm,_, .append (nm:=nm) (rows:=xs.map λx=>sO V e x) (ns:=[n,n2]) ho hc hca hct hdst ht (.inl ⟨n,by rw[aw,hp];simp only[ao];rw[hln];simp,hown,hn12,rfl⟩) hqe hown2 hone hby' (by simp only[VA,most]at hle⊢;omega),ca ?_ rfl ?_ rfl⟩
    ·simp only[ao]
     rw[cR]
     simp only[ai,Y1]
     rw[hlo,VA,VA]
    ·simp only[VC,V8,henc]
     rfl
   split at h
   ·rename_i n
    have h':=aq h;clear h
    obtain⟨⟨hnn,hn12⟩,h⟩:=h'
    split at h
    ·rename_i te1 e1 xs hn
     split at h
     ·rename_i he
      subst he
      have h':=aq h;clear h
      obtain⟨h3,h⟩:=h'
      subst h3
      refine two n (xs.map some) (.dvec te1 e (xs++ys)) hpx hn12 (by rw[dlen hn,VA]) (by rw[gi,iR hn,hse]) (by simp[TO.len]) (λω=> ?_) (by rw[VA];exact h)
      simp only[bu,Wk]
      rw[gi,hse]
     ·cases h
    ·rename_i te1 e1 xs hn
     split at h
     ·rename_i he
      subst he
      have h':=aq h;clear h
      obtain⟨h3,h⟩:=h'
      subst h3
      refine two n xs (.pvec te1 e (xs++ys.map some)) hpx hn12 (Q7 hn) (by rw[ph hn,hse]) (by simp[TO.len]) (λω=> ?_) h
      simp only[bu,Wk]
      rw[gi,hse]
     ·cases h
    ·cases h
   ·have h':=aq h;clear h
    obtain⟨hle,h⟩:=h'
    have hby':(([]:List (List DD)).length+(ys.map λx=>cK V.sz V.enc V.tid V.encd e x).length) *bytes<=140737488355328:=by
     simp only[VA,VU,most]at hle⊢
     have:ys.length *bytes<=4294967296 *32768:=Yc hle hby
     rw[V4];omega
    refine⟨_,h,λm p hm=> ?_,_, .append (nm:=nm) (rows:=[]) (ns:=[n2]) ho hc hca hct hdst ht (.inr ⟨by rw[aw,hpx];rfl,rfl,rfl⟩) hqe hown2 hone hby' (by simp only[VA,VU,most]at hle⊢;omega),ca ?_ rfl ?_ rfl⟩
    ·simp only[ai]at hm
     by_cases e1:nm d=m
     ·left;simp[e1]
     ·rw[Y4 e1]at hm
      right
      by_cases e3:n2=m
      ·rw[Y5 e3]at hm;cases hm;subst e3;rfl
      ·rw[Y4 e3]at hm;simp[gt]at hm
    ·simp only[ao]
     rw[cR]
     simp only[ai,Y1,TO.len,VA,VU,V4]
    ·simp only[VC,V8,bu,V7,hse]
   ·cases h
  ·cases h
 ·cases h
theorem N7{t:TypeId}{x:Operand}{lo hi mx:Option Operand}(ho:o.op= .slice t x lo hi mx)(h:N6 V P t x lo hi mx S k=some r):OpD P nm o S k r:=by
 unfold N6 at h
 split at h
 ·rename_i te sz by_ n ht hx
  split at h
  ·rename_i te1 e xs hn
   split at h
   ·rename_i l u hl hu
    have h':=aq h;clear h
    obtain⟨⟨⟨hse,hpos⟩,h0,h1,h2⟩,h⟩:=h'
    have hlen:S.len n=xs.length:=by unfold TS.len;rw[hn];rfl
    refine⟨_,h,gB S _ _,_, .cut (rows:=xs.map λx=>dh V.sz V.enc e x) (e:=te1) ho ht (by rw[aw,hx];simp only[ao];rw[hlen,VA]) (by rw[gg hn,hse]) (λe0=> ?_) (gP hl) (by rw[VA];exact gP hu) h0 h1 (by rw[VA];exact h2),qh rfl⟩
    have:=congrArg Xt e0
    rw[VA,VU]at this
    omega
   ·cases h
  ·cases h
 ·cases h
theorem Ka{c:Call}(ho:o.op= .call c)(hc:c.callee= .builtin .append)(h:HO V P nm (c.args.toList.map (tev S)) c.argTypes.toList o.dst S k=some r):OpD P nm o S k r:=by
 unfold HO at h
 split at h
 ·rename_i n sz lo i n2 sz2 j len t t' d hargs htys hdst
  split at h
  ·rename_i te sz' by_ te1 e xs ht hn
   have h':=aq h;clear h
   obtain⟨⟨⟨e1,e2⟩,⟨e3,e4⟩,e5,e6⟩,⟨e7,e8⟩,e9,e10⟩:=h'.1
   have h:=h'.2
   subst e1;subst e2;subst e4;subst e5;subst e6;subst e7;subst e8
   obtain⟨p,q,hpq,hpx,hqx⟩:∃p q,c.args.toList=[p,q]/\tev S p= .sv n2 sz2 0 i/\tev S q= .sv n2 sz2 j (xs.length-j):=by
    match hcl:c.args.toList,hargs with
    |[p,q],hargs=>simp at hargs;exact⟨p,q,rfl,hargs.1,hargs.2⟩
    |[],hargs=>simp at hargs
    |[_],hargs=>simp at hargs
    |_::_::_::_,hargs=>simp at hargs
   have hca:c.args= #[p,q]:=by rw[<-W6];exact hpq
   have hct:c.argTypes= #[t,t]:=by rw[<-W6];exact htys
   have hone:(xs.map λx=>dh V.sz V.enc e x).all (λr=>r.all D.one)=true:=by
    rw[W1,VH]
    intro y _
    exact Hh
   refine⟨_,h,λm o1 hm=> ?_,_, .join (nm:=nm) (rows:=xs.map λx=>dh V.sz V.enc e x) (m:=n2) (i:=i) (j:=j) ho hc hca hct hdst ht (by rw[aw,hpx];rfl) (by rw[aw,hqx];simp only[ao,VA]) (by rw[gg hn,e3]) e9 (by rw[VA];exact e10) hone,ca ?_ rfl ?_ rfl⟩
   ·simp only[ai]at hm
    by_cases q1:nm d=m
    ·left;simp[q1]
    ·rw[Y4 q1]at hm
     right
     by_cases q2:n2=m
     ·rw[Y5 q2]at hm;cases hm;subst q2;rfl
     ·rw[Y4 q2]at hm;simp[gt]at hm
   ·simp only[ao]
    rw[cR]
    simp only[ai,Y1,TO.len,VB,Wj,Wg,VA]
    rw[YC (by omega)]
   ·simp only[VC,V8,bu,Wk,W_,Xa,e3]
  ·cases h
 ·cases h
theorem Ko{ω:Nat->Nat}{z:List Value}(hz:z.all ef=true):AG z (encL V ω (z.map tvc)) []:=by
 rw[kA hz]
 induction z with
 |nil=>exact .nil
 |cons x z ih=>exact .keep x (ih (by simp only[WG,VE]at hz;exact hz.2))
theorem G8(e:Ty V.ι)(ω:Nat->Nat):∃o,bu V ω (xP V e [])=some o/\∃a s,o= .vec a s []\/o= .dvec a s []:=by
 unfold xP
 split
 ·exact⟨_,rfl,V.tid e,_, .inl rfl⟩
 ·exact⟨_,rfl,V.tid e,_, .inr rfl⟩
theorem lR(b:Nat)(ω:Nat->Nat):∀(z:List Value) (ts:List (Ty V.ι)) (j:Nat),z.all ef=true->(∀p∈(nB V b j ts z).2,ω p.1=0)->
 ∃os,AG z (encL V ω (nB V b j ts z).1) os/\os.map (λp=>(p.1,some p.2))=(nB V b j ts z).2.map (λp=>(p.1,bu V ω p.2))
 |[],ts,j,hz,_=>by
  cases ts<;>exact⟨[], .nil,rfl⟩
 |x::z,[],j,hz,_=>⟨[],by simp only[nB];exact Ko hz,rfl⟩
 |x::z,t::ts,j,hz,hω=>by
  have hz2:ef x=true/\z.all ef=true:=by simpa only[WG,VE]using hz
  unfold nB at hω⊢
  split
  ·rename_i e
   obtain⟨os,h1,h2⟩:=lR b ω z ts (j+1) hz2.2 λp hp=>hω p (Vu _ hp)
   obtain⟨o,o1,a,s,o2⟩:=G8 (V:=V) e ω
   refine⟨(BC b j,o)::os,?_,by simp only[VC,h2,o1]⟩
   simp only[encL,ao]
   have:=hω _ Vy
   simp only at this
   rw[this]
   exact .new _ a s o o2 h1
  ·rename_i hno
   have hω':∀p∈(nB V b (j+1) ts z).2,ω p.1=0:=by
    intro p hp
    refine hω p ?_
    split
    ·exact Vu _ hp
    ·exact hp
   obtain⟨os,h1,h2⟩:=lR b ω z ts (j+1) hz2.2 hω'
   refine⟨os,?_,h2⟩
   simp only[encL]
   have:ao V ω (tvc x)= .d (.v x):=by
    have:=kA (V:=V) (ω:=ω) (z:=[x]) (by simp[hz2.1])
    simpa[encL]using this
   rw[this]
   exact .keep x h1
theorem qT(b:Nat):∀(z:List Value) (ts:List (Ty V.ι)) (j:Nat),∀p∈(nB V b j ts z).2,TO.len (some p.2)=0
 |[],ts,j,p,hp=>by cases ts<;>cases hp
 |x::z,[],j,p,hp=>by cases hp
 |x::z,t::ts,j,p,hp=>by
  unfold nB at hp
  split at hp
  ·rcases VG.1 hp with rfl|hp
   ·exact xQ _ _
   ·exact qT b z ts (j+1) p hp
  ·exact qT b z ts (j+1) p hp
theorem Ke{t:TypeId}{parts:Array (Nat×Operand)}(ho:o.op= .build t parts)(h:HQ V P t parts.toList o.dst k=some r):OpD P nm o S k r:=by
 unfold HQ at h
 split at h
 ·rename_i z pl hparts hz hpl
  have hpa:parts= #[]:=by rw[<-W6];exact hparts
  subst hpa
  split at h
  ·rename_i i d hty hdst
   split at h
   ·rename_i vs os hall hT
    split at h
    ·rename_i hdi
     have hdi:=fX hdi
     have hlen:∀p∈os,(S.app o.dst {val:= .agg vs,acc:=[],upd:=os,new:=os.map (·.1)}).len p.1=0:=by
      intro p hp
      rw[cR]
      have:gt os p.1=some p.2:=uK hdi hp
      simp only[this]
      have h9:=qT (V:=V) d z (V.tys i) 0
      rw[hT]at h9
      exact h9 p hp
     obtain⟨os',h1,h2⟩:=lR (V:=V) d (S.app o.dst {val:= .agg vs,acc:=[],upd:=os,new:=os.map (·.1)}).len z (V.tys i) 0 hall (by rw[hT];exact hlen)
     rw[hT]at h1 h2
     simp only at h1 h2
     have hnames:os.map (·.1)=os'.map (·.1):=by
      have:=congrArg (W0 (·.1)) h2
      rw[V1,V1]at this
      exact this.symm
     refine⟨_,h,λm p hm=> .inl (qA (bn hm)),_, .nils ho hdst hz hpl h1 (by rw[<-hnames];exact hdi),ca rfl hnames.symm h2 rfl⟩
    ·cases h
   ·cases h
  ·cases h
 ·cases h
theorem rR(hf:∀te,k te=some r->∀d∈te.new,S.fresh d=true)(h:HM V P nm o S k=some r):OpD P nm o S k r:=by
 unfold HM at h
 split at h
 ·rename_i t x ho;exact Kc hf ho h
 ·rename_i t x y ho;exact HX ho h
 ·rename_i t x i ho;exact N9 ho h
 ·rename_i t len parts ho;exact HK ho h
 ·rename_i c ho
  split at h
  ·rename_i hc
   split at h
   ·exact Ka ho hc h
   ·exact N5 ho hc h
  ·cases h
 ·rename_i t x lo hi mx ho;exact N7 ho h
 ·rename_i t parts ho;exact Ke ho h
 ·cases h
end
end
end Go.Tx
end
section
namespace Go.Tx
open Go.Awp
variable [Inhabited GMem]
section
variable {ι:Type} {N:ι->Type}
def setB(S:TS N)(d:Nat)(b:Bool):TS N:={S with tmps:=(d, .lf .bool b)::S.tmps}
def xb(S:TS N)(all:List Oper)(j:Nat):Option (Nat×TV N):=match all[j]? with
 |some o=>match o.dst with
  |some d=>match gt S.tmps d with
   |some v=>some (d,v)
   |none=>none
  |none=>none
 |none=>none
def Ft(n:Nat)(pre:Nat->Bool)(o:Oper):Bool:=match o.dst with
 |some d=>WS d n&& !pre (4000000+d)
 |none=>true
def ew(S:TS N)(e:TE N):Bool:=e.new.all λd=>S.fresh d&&WS d given
end
section
variable (V:m_) (P:Program) (n:Nat) (nm:Nat->Nat) (call:al V)
def pk:TV V.N->List (TV V.N)
 | .vh n=>[.vh n]
 | .agg cs=>cs
 |_=>[]
def LX(b c:Bool):TV V.N->List (TV V.N)
 | .vh n=>match b with
  |true=>[.vh n]
  |false=>[]
 | .agg cs=>match c with
  |true=>[]
  |false=>cs
 |_=>[]
def Hb(pre:Nat->Bool)(o:Oper)(S:TS V.N):TS V.N:=match o.op with
 | .buildSlice _ _ parts=>frzL V S (parts.toList.flatMap λp=>pk V (tev S p.2))
 | .convert _ _ x=>frzL V S (pk V (tev S x))
 | .slice _ x _ _ _=>frzL V S (pk V (tev S x))
 | .store _ x y=>match tev S x with
  | .ep .. =>frzL V S (pk V (tev S y))
  |_=>S
 | .call c=>match c.callee with
  | .value f=>match tev S f with
   | .fn fid first captured=>frzL V S ((first++c.args.toList.map (tev S)++captured).flatMap (LX V (pre fid) (pre (2000000+fid))))
   | .lf .fnc _=>frzL V S ((c.args.toList.map (tev S)).flatMap (LX V false false))
   |_=>S
  | .builtin .append=>match c.args.toList,c.argTypes.toList with
   |[_, .tmp t],ty::_=>match gt S.tmps t,V.ty ty with
    |some (.vh n),_=>frzL V S [.vh n]
    |some (.raw (.slice (some _) 0 _)),some (.sl e)=>{S with tmps:=(t, .lf (.sl e) [])::S.tmps}
    |some (.raw (.slice none 0 0)),some (.sl e)=>{S with tmps:=(t, .lf (.sl e) [])::S.tmps}
    |_,_=>S
   |_,_=>S
  |_=>S
 |_=>S
def wV{α β:Type}:List α->(List α->β)->β
 |[],k=>k []
 |x::r,k=>wV r λl=>k (x::l)
theorem qn{α β:Type}:∀(l:List α) (k:List α->β),wV l k=k l
 |[],_=>rfl
 |x::r,k=>by rw[wV,qn r]
def A2{ι:Type}{N:ι->Type}{β:Type}(S:TS N)(k:TS N->β):β:=wV S.tmps λt=>wV S.own λo=>k ⟨t,o⟩
theorem wW{ι:Type}{N:ι->Type}{β:Type}(S:TS N)(k:TS N->β):A2 S k=k S:=by
 unfold A2
 rw[qn,qn]
noncomputable def N_{A:Type}(x:Operand)(S:TS V.N)(k:TE V.N->Option A):Option A:=match tev S x with
 | .bp n 0=>match S.own? n with
  |some (.miter m tk tv es rest _)=>if MI tk=true/\S.len m=0 then
   if rest.isEmpty=true then k {val:= .tup [.lf .bool false],acc:=[n,m],upd:=[(m, .map tk tv es),(n, .gone 0)]}
   else L_ (steps rest) λq=>k {val:= .tup [.lf .bool true, .lf tk q.1.1, .lf tv q.1.2],acc:=[n],upd:=[(n, .miter m tk tv es q.2 (some q.1))]}
   else none
  |_=>none
 |_=>none
noncomputable def txo(pre:Nat->Bool)(o:Oper){A:Type}(S:TS V.N)(k:TS V.N->Option A):Option A:=match o.op with
 | .next x false=>N_ V x S λte=>match ew S te with
  |true=>k (S.app o.dst te)
  |false=>none
 |_=>match Lm V pre o S with
  |true=>HM V P nm o S λte=>match ew S te with
   |true=>k (S.app o.dst te)
   |false=>none
  |false=>tx V P nm call false o (Hb V pre o S) λte=>match ew (Hb V pre o S) te with
   |true=>k ((Hb V pre o S).app o.dst te)
   |false=>none
noncomputable def txs(pre:Nat->Bool)(all:List Oper){A:Type}:List Oper->TS V.N->(TS V.N->Option A)->Option A
 |[],S,k=>k S
 |o::os,S,k=>A2 S λS=>match Ft n pre o with
  |false=>none
  |true=>match o.guard with
   |none=>txo V P nm call pre o S λS'=>txs pre all os S' k
   |some (j,want)=>match xb S all j with
    |some (d, .lf .bool b)=>if b=true then
      match want with
      |true=>txo V P nm call pre o (setB S d true) λS'=>txs pre all os S' k
      |false=>txs pre all os ((setB S d true).app o.dst {val:= .tup []}) k
     else
      match want with
      |false=>txo V P nm call pre o (setB S d false) λS'=>txs pre all os S' k
      |true=>txs pre all os ((setB S d false).app o.dst {val:= .tup []}) k
    |some (_, .tup [])=>txs pre all os (S.app o.dst {val:= .tup []}) k
    |_=>none
def txq(pre:Nat->Bool)(o:Oper){A:Type}(S:TS V.N)(k:TE V.N->Option A):Option A:=match Lm V pre o S with
 |true=>HM V P nm o S k
 |false=>tx V P nm call true o S k
def txd(pre:Nat->Bool)(all:List Oper){A:Type}:List Oper->TS V.N->List Tr1->(TS V.N->List Tr1->Option A)->Option A
 |[],S,tr,k=>k S tr
 |o::os,S,tr,k=>A2 S λS=>match Ft n pre o with
  |false=>none
  |true=>match det o.op with
   |false=>none
   |true=>match o.guard with
   |none=>txq V P nm call pre o S λte=>match ew S te with
    |true=>txd pre all os (S.app o.dst te) (tr++[⟨gJ (S.app o.dst te).len te,true⟩]) k
    |false=>none
   |some (j,want)=>match xb S all j with
    |some (d, .lf .bool b)=>if b=true then
      match want with
      |true=>txq V P nm call pre o (setB S d true) λte=>match ew (setB S d true) te with
       |true=>txd pre all os ((setB S d true).app o.dst te) (tr++[⟨gJ ((setB S d true).app o.dst te).len te,true⟩]) k
       |false=>none
      |false=>txd pre all os ((setB S d true).app o.dst {val:= .tup []}) (tr++[⟨{val:= .tup []},false⟩]) k
     else
      match want with
      |false=>txq V P nm call pre o (setB S d false) λte=>match ew (setB S d false) te with
       |true=>txd pre all os ((setB S d false).app o.dst te) (tr++[⟨gJ ((setB S d false).app o.dst te).len te,true⟩]) k
       |false=>none
      |true=>txd pre all os ((setB S d false).app o.dst {val:= .tup []}) (tr++[⟨{val:= .tup []},false⟩]) k
    |some (_, .tup [])=>txd pre all os (S.app o.dst {val:= .tup []}) (tr++[⟨{val:= .tup []},false⟩]) k
    |_=>none
end
section
variable {V:m_}
theorem vu{C:Ctx}{E:Env}{M:Mem}{S:TS V.N}{d:Nat}{b:Bool}{a:Act}{w:World}(hd:gt S.tmps d=some (.lf .bool b))(hs:Sim C E M (aI V S) a w):Sim C E M (aI V (setB S d b)) a w:=by
 have hl:(setB S d b).len=S.len:=rfl
 refine Sim.le hs (λt x hx=> ?_) λn o ho=>⟨o,ho,OLe.refl _⟩
 rw[cS]at hx⊢
 simp only[setB,ai]at hx
 by_cases h:d=t
 ·subst h
  rw[Y5 rfl]at hx
  rw[hd]
  exact⟨x,hx,H.le.refl _⟩
 ·rw[Y4 h]at hx
  exact⟨x,hx,H.le.refl _⟩
theorem lC{S:TS V.N}{all:List Oper}{j d:Nat}{v:TV V.N}(h:xb S all j=some (d,v)):gt S.tmps d=some v/\∃o,all[j]?=some o/\o.dst=some d:=by
 unfold xb at h
 split at h
 ·rename_i o ho
  split at h
  ·rename_i d' hd
   split at h
   ·rename_i v' hv
    simp at h;obtain⟨rfl,rfl⟩:=h
    exact⟨hv,o,ho,hd⟩
   ·cases h
  ·cases h
 ·cases h
theorem mq{S:TS V.N}{σ:ae}(hσ:∀t,gt σ.tmps t=gt (aI V S).tmps t){all:List Oper}{j d:Nat}{v:TV V.N}{want b:Bool}(h:xb S all j=some (d,v))
 (hv:v= .lf .bool b\/v= .tup []/\b= !want):kR σ all j want=some b:=by
 obtain⟨h1,o,h2,h3⟩:=lC h
 have hg:σ.get d=ao V S.len v:=by
  unfold ae.get
  rw[hσ,cS,h1];rfl
 unfold kR
 simp only[h2,h3,hg]
 rcases hv with rfl|⟨rfl,rfl⟩
 ·simp[ao,aW]
 ·simp[ao,encL]
theorem dr{S:TS V.N}{te:TE V.N}(h:ew S te=true):(∀d∈te.new,S.fresh d=true)/\∀d∈te.new,d<given:=by
 unfold ew at h
 rw[VH]at h
 refine⟨λd hd=> ?_,λd hd=> ?_⟩
 ·have:=h d hd
  simp only[VE]at this
  exact this.1
 ·have:=h d hd
  simp only[VE,WZ]at this
  exact this.2
def Fx(C:Ctx)(pre:Nat->Bool):Prop:=∀p∈C.fix,pre (4000000+p.1)=true
theorem uB{C:Ctx}{pre:Nat->Bool}{o:Oper}(hF:Fx C pre)(h:Ft C.N pre o=true):∀d,o.dst=some d->C.wr d:=by
 intro d hd
 unfold Ft at h
 rw[hd]at h
 simp only[VE,WZ,W7]at h
 refine⟨h.1,λp hp e=> ?_⟩
 have:=hF p hp
 rw[e,h.2]at this
 cases this
theorem BF(S:TS V.N):good S {val:= .tup []}:=gB S _ _
theorem Oh{C:Ctx}{E:Env}{M:Mem}{S:TS V.N}{o:Oper}{a:Act}{w:World}(hd:∀d,o.dst=some d->C.wr d)(hs:Sim C E M (aI V S) a w):Sim C E M (aI V (S.app o.dst {val:= .tup []})) (a.put o.dst undef) w:=by
 have h1:=hs.app_val (o:=o) hd (e:={val:= .tup []}) rfl LW
 refine Sim.tapp (ex:=false) (e':={val:= .tup []}) (BF S) (λd h=>by cases h) (qh ?_) h1
 simp[ao,encL]
theorem SQ{C:Ctx}{nm:Nat->Nat}{call:al V}{ex:Bool}{o:Oper}{S:TS V.N}{A:Type}{k:TS V.N->Option A}{r:A}{E:Env}{M:Mem}{a:Act}{w:World}{K:Act->World->Prop}{Q:Exit->Act->World->Prop}
 (hcall:af C.P call)(hd:∀d,o.dst=some d->C.wr d)(h:(tx V C.P nm call ex o S λte=>match ew S te with|true=>k (S.app o.dst te)|false=>none)=some r)(hs:Sim C E M (aI V S) a w)
 (hK:∀te E' M' a' w',k (S.app o.dst te)=some r->Sim C E' M' (aI V (S.app o.dst te)) a' w'->K a' w'):o.wp C.P a w K Q:=by
 have hnew:∀te:TE V.N,(match ew S te with|true=>k (S.app o.dst te)|false=>none)=some r->ew S te=true/\k (S.app o.dst te)=some r:=by
  intro te h
  cases hq:ew S te with
  |true=>rw[hq]at h;exact⟨rfl,h⟩
  |false=>rw[hq]at h;cases h
 obtain⟨te,h1,h2,h3⟩:=BG hcall (λte hte=>(dr (hnew te hte).1).1) h
 obtain⟨hn,hk⟩:=hnew te h1
 obtain⟨f1,f2⟩:=dr hn
 refine GW hd E M (aI V S) a w K Q (λe=>ELe ex e (gJ (S.app o.dst te).len te)) hs (vN (λe he=>⟨λd hd=> ?_,he⟩) h3) λe E' M' a' w' he hs'=>hK te E' M' a' w' hk (Sim.tapp h2 f1 he hs')
 have hd:d∈te.new:=by rw[he.new]at hd;exact hd
 exact⟨eC (f1 d hd),f2 d hd⟩
theorem J_{C:Ctx}{nm:Nat->Nat}{o:Oper}{S:TS V.N}{A:Type}{k:TS V.N->Option A}{r:A}{E:Env}{M:Mem}{a:Act}{w:World}{K:Act->World->Prop}{Q:Exit->Act->World->Prop}
 (hd:∀d,o.dst=some d->C.wr d)(h:(HM V C.P nm o S λte=>match ew S te with|true=>k (S.app o.dst te)|false=>none)=some r)(hs:Sim C E M (aI V S) a w)
 (hK:∀te E' M' a' w',k (S.app o.dst te)=some r->Sim C E' M' (aI V (S.app o.dst te)) a' w'->K a' w'):o.wp C.P a w K Q:=by
 have hnew:∀te:TE V.N,(match ew S te with|true=>k (S.app o.dst te)|false=>none)=some r->ew S te=true/\k (S.app o.dst te)=some r:=by
  intro te h
  cases hq:ew S te with
  |true=>rw[hq]at h;exact⟨rfl,h⟩
  |false=>rw[hq]at h;cases h
 obtain⟨te,h1,h2,e',h3,h4⟩:=rR (λte hte=>(dr (hnew te hte).1).1) h
 obtain⟨hn,hk⟩:=hnew te h1
 obtain⟨f1,f2⟩:=dr hn
 refine h3.ok hd hs (λd hd=> ?_) λE' M' a' w' hs'=>hK te E' M' a' w' hk (Sim.tapp h2 f1 h4 hs')
 have hd:d∈te.new:=by rw[h4.new]at hd;exact hd
 exact⟨eC (f1 d hd),f2 d hd⟩
theorem xi{α β:Type}(f:α->β):∀(l:List α) (i:Nat),(l.eraseIdx i).map f=(l.map f).eraseIdx i
 |[],_=>rfl
 |_::_,0=>rfl
 |x::r,i+1=>by simp[Yz,xi f r i]
theorem Kd{C:Ctx}{nm:Nat->Nat}{o:Oper}{S:TS V.N}{A:Type}{k:TS V.N->Option A}{r:A}{E:Env}{M:Mem}{a:Act}{w:World}{K:Act->World->Prop}{Q:Exit->Act->World->Prop}{x:Operand}
 (ho:o.op= .next x false)(hd:∀d,o.dst=some d->C.wr d)(h:(N_ V x S λte=>match ew S te with|true=>k (S.app o.dst te)|false=>none)=some r)(hs:Sim C E M (aI V S) a w)
 (hK:∀te E' M' a' w',k (S.app o.dst te)=some r->Sim C E' M' (aI V (S.app o.dst te)) a' w'->K a' w'):o.wp C.P a w K Q:=by
 have hnew:∀te:TE V.N,(match ew S te with|true=>k (S.app o.dst te)|false=>none)=some r->ew S te=true/\k (S.app o.dst te)=some r:=by
  intro te h
  cases hq:ew S te with
  |true=>rw[hq]at h;exact⟨rfl,h⟩
  |false=>rw[hq]at h;cases h
 have go:∀(te:TE V.N) (e:Eff),(match ew S te with|true=>k (S.app o.dst te)|false=>none)=some r->good S te->ELe false e (gJ (S.app o.dst te).len te)->
  (∀d∈e.new,(aI V S).fresh d=true/\d<given)/\∃te,good S te/\(∀d∈te.new,S.fresh d=true)/\ELe false e (gJ (S.app o.dst te).len te)/\k (S.app o.dst te)=some r:=by
  intro te e h hg he
  obtain⟨hn,hk⟩:=hnew te h
  obtain⟨f1,f2⟩:=dr hn
  exact⟨λd hd=>by
   have hd:d∈te.new:=by rw[he.new]at hd;exact hd
   exact⟨eC (f1 d hd),f2 d hd⟩,te,hg,f1,he,hk⟩
 unfold N_ at h
 split at h
 ·rename_i n hx
  split at h
  ·rename_i m tk tv es rest cur hown
   obtain⟨⟨hkey,hlm⟩,h⟩:=aq h
   refine GW (nm:=nm) hd E M (aI V S) a w K Q (λe=>∃te,good S te/\(∀d∈te.new,S.fresh d=true)/\ELe false e (gJ (S.app o.dst te).len te)/\k (S.app o.dst te)=some r) hs ?_
    λe E' M' a' w' ⟨te,h2,f1,he,hk⟩ hs'=>hK te E' M' a' w' hk (Sim.tapp h2 f1 he hs')
   simp only[bc,ho,aw,hx,ao,xM hown]
   refine⟨trivial,λhr=> ?_,λi p hp=> ?_⟩
   ·have hr:rest=[]:=by simpa using hr
    subst hr
    simp only[List.isEmpty_nil,Y1]at h
    refine go {val:= .tup [.lf .bool false],acc:=[n,m],upd:=[(m, .map tk tv es),(n, .gone 0)]} {val:= .tup [.d (.v (.bool false))],acc:=[n,m],upd:=[(m,some (.map (es.map λp=>(kD tk p.1,aW V.sz V.enc tv p.2)))),(n,none)]} h (λm' o' hm=> ?_)
     (ca (by simp[ao,encL,aW]) rfl (by simp[bu]) rfl)
    simp only[ai]at hm
    right
    split at hm
    ·rename_i e;simp at hm;subst hm;subst e;simp[TO.len,hlm]
    ·split at hm
     ·rename_i e;simp at hm;subst hm;subst e;simp[TO.len,xe hown]
     ·simp[gt]at hm
   ·rw[Vz,VF]at hp
    obtain⟨q,hq,rfl⟩:=hp
    have hne:rest.isEmpty=false:=by cases rest with|nil=>simp at hq|cons a r=>rfl
    rw[Y4 (by simp[hne]),Cb]at h
    have h:=h.2 _ (HH hq)
    refine go {val:= .tup [.lf .bool true, .lf tk q.1, .lf tv q.2],acc:=[n],upd:=[(n, .miter m tk tv es (rest.eraseIdx i) (some q))]}
     {val:= .tup [.d (.v (.bool true)), .d (.v (kD tk q.1)), .d (aW V.sz V.enc tv q.2)],acc:=[n],upd:=[(n,some (.miter m (es.map λp=>(kD tk p.1,aW V.sz V.enc tv p.2)) ((rest.map λp=>(kD tk p.1,aW V.sz V.enc tv p.2)).eraseIdx i) (some (kD tk q.1,aW V.sz V.enc tv q.2))))]} h (λm' o' hm=> ?_)
     (ca (by simp only[ao,encL,FU hkey];rfl) rfl (by simp[bu,xi]) rfl)
    simp only[ai]at hm
    right
    split at hm
    ·rename_i e;simp at hm;subst hm;subst e;simp[TO.len,xe hown]
    ·simp[gt]at hm
  ·cases h
 ·cases h
theorem HG{S:TS V.N}{t:Nat}{v v':TV V.N}(ht:gt S.tmps t=some v)(h:H.le (ao V S.len v) (ao V S.len v')):Ent (aI V S) (aI V {S with tmps:=(t,v')::S.tmps}):=
 Ent.le (λd x hx=>by
  have hl:({S with tmps:=(t,v')::S.tmps}:TS V.N).len=S.len:=rfl
  rw[cS]at hx
  simp only[ai,hl]at hx
  by_cases h1:t=d
  ·subst h1
   rw[Y5 rfl]at hx
   simp at hx;subst hx
   exact⟨_,by rw[cS,ht];rfl,h⟩
  ·rw[Y4 h1]at hx
   exact⟨x,by rw[cS];exact hx,H.le.refl _⟩) λn o ho=>⟨o,ho,OLe.refl _⟩
theorem Hc(pre:Nat->Bool)(o:Oper)(S:TS V.N):Ent (aI V S) (aI V (Hb V pre o S)):=by
 unfold Hb
 split
 ·exact dJ _ S
 ·exact dJ _ S
 ·exact dJ _ S
 ·split
  ·exact dJ _ S
  ·exact Ent.refl _
 ·split
  ·split
   ·exact dJ _ S
   ·exact dJ _ S
   ·exact Ent.refl _
  ·split
   ·split
    ·exact dJ _ S
    ·rename_i ht _
     refine HG ht ?_
     simp only[ao,bN,aW,V8]
     exactλE M v h=>by rw[h.dv];exact .d (.slmt _ _ _)
    ·rename_i ht _
     refine HG ht ?_
     simp only[ao,bN,aW,V8]
     exactλE M v h=>by rw[h.dv];exact .d (.slnil _)
    ·exact Ent.refl _
   ·exact Ent.refl _
  ·exact Ent.refl _
 ·exact Ent.refl _
theorem QS{C:Ctx}{nm:Nat->Nat}{call:al V}{pre:Nat->Bool}{o:Oper}{S:TS V.N}{A:Type}{k:TS V.N->Option A}{r:A}{E:Env}{M:Mem}{a:Act}{w:World}{K:Act->World->Prop}{Q:Exit->Act->World->Prop}
 (hcall:af C.P call)(hd:∀d,o.dst=some d->C.wr d)(h:txo V C.P nm call pre o S k=some r)(hs:Sim C E M (aI V S) a w)
 (hK:∀S' E' M' a' w',k S'=some r->Sim C E' M' (aI V S') a' w'->K a' w'):o.wp C.P a w K Q:=by
 unfold txo at h
 split at h
 ·rename_i x hx
  exact Kd (nm:=nm) hx hd h hs λte E' M' a' w' hk hs'=>hK _ E' M' a' w' hk hs'
 ·split at h
  ·exact J_ hd h hs λte E' M' a' w' hk hs'=>hK _ E' M' a' w' hk hs'
  ·obtain⟨_,_,hs1⟩:=Hc pre o S C E M a w hs
   exact SQ hcall hd h hs1 λte E' M' a' w' hk hs'=>hK _ E' M' a' w' hk hs'
theorem rW{C:Ctx}{nm:Nat->Nat}{call:al V}{pre:Nat->Bool}{ops:Array Oper}{Q:Exit->Act->World->Prop}{A:Type}{r:A}(hcall:af C.P call)(hF:Fx C pre):∀(l:List Oper) (i:Nat) (S:TS V.N) (k:TS V.N->Option A) (E:Env) (M:Mem) (a:Act) (w:World),
 ops.toList.drop i=l->txs V C.P C.N nm call pre ops.toList l S k=some r->Sim C E M (aI V S) a w->(∀S' E' M' a' w',k S'=some r->Sim C E' M' (aI V S') a' w'->Q .normal a' w')->
 wpOps C.P ops Q ((Xk l.length).map (i+ ·)) a w
 |[],i,S,k,E,M,a,w,_,h,hs,hQ=>by
  simp only[txs]at h
  simpa[wpOps]using hQ S E M a w h hs
 |o::os,i,S,k,E,M,a,w,hl,h,hs,hQ=>by
  have hi:ops[i]?=some o:=by
   have:(ops.toList.drop i)[0]?=some o:=by rw[hl];rfl
   simpa using this
  have hl':ops.toList.drop (i+1)=os:=by
   rw[<-List.tail_drop,hl];rfl
  have hlist:(Xk (o::os).length).map (i+ ·)=i::(Xk os.length).map (i+1+ ·):=by
   simp only[VD,List.range_succ_eq_map,VC,V1,V3]
   congr 1
   apply Wv
   intro x _
   simp;omega
  rw[hlist]
  simp only[txs,wW]at h
  split at h
  ·cases h
  rename_i hdst
  have run:∀(S:TS V.N),Sim C E M (aI V S) a w->(txo V C.P nm call pre o S λS'=>txs V C.P C.N nm call pre ops.toList os S' k)=some r->
   o.wp C.P a w (wpOps C.P ops Q ((Xk os.length).map (i+1+ ·))) Q:=λS hs h=>
   QS (k:=λS'=>txs V C.P C.N nm call pre ops.toList os S' k) hcall (uB hF hdst) h hs λS' E' M' a' w' hk hs'=>rW hcall hF os (i+1) _ k E' M' a' w' hl' hk hs' hQ
  have off:∀(S:TS V.N),Sim C E M (aI V S) a w->txs V C.P C.N nm call pre ops.toList os (S.app o.dst {val:= .tup []}) k=some r->
   wpOps C.P ops Q ((Xk os.length).map (i+1+ ·)) (a.put o.dst undef) w:=λS hs h=>
   rW hcall hF os (i+1) _ k E M _ w hl' h (Oh (uB hF hdst) hs) hQ
  simp only[wpOps,hi]
  cases hg:o.guard with
  |none=>
   simp only[hg]at h
   rw[Y5 (by simp[Region.wanted,hg])]
   exact .inl (run S hs h)
  |some g=>
   obtain⟨j,want⟩:=g
   simp only[hg]at h
   split at h
   ·rename_i d b hgv
    have hb:=mq (V:=V) (S:=S) (σ:=aI V S) (λt=>rfl) (want:=want) hgv (.inl rfl)
    have hy:=hs.guard hb
    have hgt:=(lC hgv).1
    cases b with
    |true=>
     rw[Y5 rfl]at h
     have hs':=vu hgt hs
     cases want with
     |true=>
      rw[Y5 (by simp[Region.wanted,hg,hy])]
      exact .inl (run _ hs' h)
     |false=>
      rw[Y4 (by simp[Region.wanted,hg,hy])]
      exact off _ hs' h
    |false=>
     rw[Y4 (by simp)]at h
     have hs':=vu hgt hs
     cases want with
     |false=>
      rw[Y5 (by simp[Region.wanted,hg,hy])]
      exact .inl (run _ hs' h)
     |true=>
      rw[Y4 (by simp[Region.wanted,hg,hy])]
      exact off _ hs' h
   ·rename_i d hgv
    have hb:=mq (V:=V) (S:=S) (σ:=aI V S) (λt=>rfl) (want:=want) hgv (.inr ⟨rfl,rfl⟩)
    have hy:=hs.guard hb
    rw[Y4 (by cases want<;>simp[Region.wanted,hg,hy])]
    exact off _ hs h
   ·cases h
structure Rl (σ:ae) (S:TS V.N):Prop where
 tmp:∀t,gt σ.tmps t=gt (aI V S).tmps t
 own:∀n,σ.own? n=(aI V S).own? n
 fresh:∀d,S.fresh d=true->σ.fresh d=true
theorem Rl.refl(S:TS V.N):Rl (aI V S) S:=⟨λ_=>rfl,λ_=>rfl,λ_ h=>eC h⟩
theorem Rl.ent{σ:ae}{S:TS V.N}(h:Rl σ S):Ent σ (aI V S):=Ent.le (λt x hx=>⟨x,by rw[h.tmp];exact hx,H.le.refl _⟩) λn o ho=>⟨o,by rw[h.own];exact ho,OLe.refl _⟩
theorem Rl.setB{σ:ae}{S:TS V.N}(h:Rl σ S){d:Nat}{b:Bool}(hd:gt S.tmps d=some (.lf .bool b)):Rl σ (setB S d b)where
 tmp:=λt=>by
  rw[h.tmp,cS,cS]
  simp only[Tx.setB,ai]
  by_cases e:d=t
  ·subst e;rw[Y5 rfl,hd];simp[ao]
  ·rw[Y4 e];rfl
 own:=λn=>h.own n
 fresh:=λn hn=>h.fresh n (by
  unfold TS.fresh at hn⊢
  simp only[VE]at hn⊢
  refine⟨⟨hn.1.1,?_⟩,hn.2⟩
  have:=hn.1.2
  simp only[Tx.setB,WG,VE]at this
  exact this.2)
theorem Rl.app{σ:ae}{S:TS V.N}(h:Rl σ S){dst:Option Tmp}{te:TE V.N}(hg:good S te)(hn:∀d∈te.new,S.fresh d=true):Rl (σ.app dst (gJ (S.app dst te).len te)) (S.app dst te)where
 tmp:=λt=>by
  rw[(uD (dst:=dst) hg hn).1]
  simp only[ae.app,pi]
  cases dst with
  |none=>exact h.tmp t
  |some d=>simp only[ai];rw[h.tmp]
 own:=λn=>by
  rw[(uD (dst:=dst) hg hn).2]
  have:=h.own n
  unfold ae.own? at this⊢
  simp only[ae.app,ed]
  cases gt (gJ (S.app dst te).len te).upd n with
  |some o=>rfl
  |none=>exact this
 fresh:=λn hn'=>by
  unfold TS.fresh at hn'
  simp only[VE]at hn'
  obtain⟨⟨f1,f2⟩,f3⟩:=hn'
  have hu:gt te.upd n=none:=by
   rw[oZ]at f1
   cases hq:gt te.upd n with
   |none=>rfl
   |some o=>rw[hq]at f1;cases f1
  have hs:S.fresh n=true:=by
   unfold TS.fresh
   simp only[VE]
   refine⟨⟨?_,?_⟩,?_⟩
   ·rw[oZ,hu]at f1;exact f1
   ·rw[VH]at f2⊢
    intro p hp
    refine f2 p ?_
    unfold TS.app Q8
    cases dst with
    |none=>exact hp
    |some d=>exact Vu _ hp
   ·rw[VH]at f3⊢
    exactλp hp=>f3 p (W5 _ hp)
  have hσ:=h.fresh n hs
  unfold ae.fresh at hσ⊢
  simp only[VE]at hσ⊢
  obtain⟨⟨g1,g2⟩,g3⟩:=hσ
  refine⟨⟨?_,?_⟩,?_⟩
  ·have hq:gt (gJ (S.app dst te).len te).upd n=none:=by simp only[gJ,gV,hu];rfl
   unfold ae.own? at g1⊢
   simp only[ae.app,ed,hq]
   exact g1
  ·simp only[ae.app,pi]
   cases dst with
   |none=>exact g2
   |some d=>
    rw[WG,VE]
    refine⟨?_,g2⟩
    rw[VH]at f2
    have:=f2 (d,te.val) (by simp[TS.app,Q8])
    simpa[gJ,iq]using this
  ·simp only[ae.app,List.all_append,VE]
   refine⟨?_,g3⟩
   rw[VH]at f3⊢
   intro p hp
   simp only[gJ,VQ]at hp
   obtain⟨q,hq,rfl⟩:=hp
   have:=f3 q (WQ _ hq)
   simp only
   cases ho:bu V (S.app dst te).len q.2 with
   |none=>rfl
   |some o=>simp only[j7 _ n ho];exact this
theorem Rl.tup{σ:ae}{S:TS V.N}(h:Rl σ S){dst:Option Tmp}:Rl (σ.app dst {val:= .tup []}) (S.app dst {val:= .tup []}):=by
 have:=h.app (dst:=dst) (te:={val:= .tup []}) (BF S) λd h=>by cases h
 simpa[gJ,ao,encL]using this
theorem H1{P:Program}{nm:Nat->Nat}{call:al V}{pre:Nat->Bool}{o:Oper}{S:TS V.N}{A:Type}{k:TE V.N->Option A}{r:A}(hcall:af P call)(hf:∀te,k te=some r->∀d∈te.new,S.fresh d=true)(h:txq V P nm call pre o S k=some r):
 ∃te,k te=some r/\good S te/\yN P nm o (ev (aI V S)) (aI V S).own? λe=>ELe true e (gJ (S.app o.dst te).len te):=by
 unfold txq at h
 split at h
 ·obtain⟨te,h1,h2,e',h3,h4⟩:=rR hf h
  exact⟨te,h1,h2, .inr ⟨e',h3,h4⟩⟩
 ·obtain⟨te,h1,h2,h3⟩:=BG hcall hf h
  exact⟨te,h1,h2, .inl h3⟩
theorem rV{P:Program}{n:Nat}{W:Nat->Prop}{nm:Nat->Nat}{call:al V}{pre:Nat->Bool}{all:List Oper}{A:Type}{r:A}(hcall:af P call)(hW:∀o,Ft n pre o=true->∀d,o.dst=some d->W d):∀(l:List Oper) (S:TS V.N) (σ:ae) (tr:List Tr1) (k:TS V.N->List Tr1->Option A),
 txd V P n nm call pre all l S tr k=some r->Rl σ S->kC P W nm all l σ tr λσ' tr'=>∃S',Rl σ' S'/\k S' tr'=some r
 |[],S,σ,tr,k,h,hr=>by
  simp only[txd]at h
  exact⟨S,hr,h⟩
 |o::os,S,σ,tr,k,h,hr=>by
  simp only[txd,wW]at h
  split at h
  ·cases h
  rename_i hdst
  split at h
  ·cases h
  rename_i hdet
  have run:∀(S:TS V.N),Rl σ S->(txq V P nm call pre o S λte=>match ew S te with|true=>txd V P n nm call pre all os (S.app o.dst te) (tr++[⟨gJ (S.app o.dst te).len te,true⟩]) k|false=>none)=some r->
   yN P nm o (ev σ) σ.own? λe=>(∀d∈e.new,σ.fresh d=true/\d<given)/\kC P W nm all os (σ.app o.dst e) (tr++[⟨e,true⟩]) λσ' tr'=>∃S',Rl σ' S'/\k S' tr'=some r:=by
   intro S hr h
   have hnew:∀te:TE V.N,(match ew S te with|true=>txd V P n nm call pre all os (S.app o.dst te) (tr++[⟨gJ (S.app o.dst te).len te,true⟩]) k|false=>none)=some r->
    ew S te=true/\txd V P n nm call pre all os (S.app o.dst te) (tr++[⟨gJ (S.app o.dst te).len te,true⟩]) k=some r:=by
    intro te h
    cases hq:ew S te with
    |true=>rw[hq]at h;exact⟨rfl,h⟩
    |false=>rw[hq]at h;cases h
   obtain⟨te,h1,h2,h3⟩:=H1 hcall (λte hte=>(dr (hnew te hte).1).1) h
   obtain⟨hn,hk⟩:=hnew te h1
   obtain⟨f1,f2⟩:=dr hn
   have e1:ev σ=ev (aI V S):=by
    funext x
    cases x with
    |tmp t=>simp only[ev,ae.get,hr.tmp]
    |_=>rfl
   have e2:σ.own?=(aI V S).own?:=funext hr.own
   rw[e1,e2]
   refine mc (λe he=> ?_) h3
   have he':e=gJ (S.app o.dst te).len te:=by
    obtain⟨q1,q2,q3⟩:=he.eq rfl
    have q4:=he.new
    cases e
    simp only at q1 q2 q3 q4
    subst q1;subst q2;subst q3;subst q4;rfl
   subst he'
   exact⟨λd hd=>⟨hr.fresh d (f1 d hd),f2 d hd⟩,rV hcall hW os _ _ _ k hk (hr.app h2 f1)⟩
  have off:∀(S:TS V.N),Rl σ S->txd V P n nm call pre all os (S.app o.dst {val:= .tup []}) (tr++[⟨{val:= .tup []},false⟩]) k=some r->
   kC P W nm all os (σ.app o.dst {val:= .tup []}) (tr++[⟨{val:= .tup []},false⟩]) λσ' tr'=>∃S',Rl σ' S'/\k S' tr'=some r:=λS hr h=>
   rV hcall hW os _ _ _ k h hr.tup
  simp only[kC]
  refine⟨⟨hW o hdst,hdet⟩,?_⟩
  cases hg:o.guard with
  |none=>
   simp only[hg]at h
   exact run S hr h
  |some g=>
   obtain⟨j,want⟩:=g
   simp only[hg]at h
   split at h
   ·rename_i d b hgv
    have hb:=mq (V:=V) (S:=S) (σ:=σ) hr.tmp (want:=want) hgv (.inl rfl)
    have hgt:=(lC hgv).1
    simp only[hb]
    cases b with
    |true=>
     rw[Y5 rfl]at h
     have hr':=hr.setB hgt
     cases want with
     |true=>exact⟨λ_=>run _ hr' h,λe=>by simp at e⟩
     |false=>exact⟨λe=>by simp at e,λ_=>off _ hr' h⟩
    |false=>
     rw[Y4 (by simp)]at h
     have hr':=hr.setB hgt
     cases want with
     |false=>exact⟨λ_=>run _ hr' h,λe=>by simp at e⟩
     |true=>exact⟨λe=>by simp at e,λ_=>off _ hr' h⟩
   ·rename_i d hgv
    have hb:=mq (V:=V) (S:=S) (σ:=σ) hr.tmp (want:=want) hgv (.inr ⟨rfl,rfl⟩)
    simp only[hb]
    exact⟨λe=>by cases want<;>simp at e,λ_=>off _ hr h⟩
   ·cases h
end
end Go.Tx
end
section
namespace Go.Tx
open Go.Awp
variable [Inhabited GMem]
inductive Alt where
 |norm
 |ret
 |exit (id:Nat)
 deriving DecidableEq
section
variable (V:m_)
structure az where
 exits:Nat->Cut V.ι:=λ_=>⟨[],[]⟩
 rcut:Cut V.ι
variable {V}
def dG(sh:az V)(jt:List (Ty V.ι)):Alt->List (Ty V.ι)
 | .norm=>jt
 | .ret=>sh.rcut.tys
 | .exit id=>(sh.exits id).tys
def yR(E:Alt->List (Ty V.ι)):List Alt->Type
 |[]=>Empty
 |[a]=>HL V.N (E a)
 |a::b::r=>HL V.N (E a)⊕yR E (b::r)
def inj(E:Alt->List (Ty V.ι)):(alts:List Alt)->(a:Alt)->HL V.N (E a)->Option (yR E alts)
 |[],_,_=>none
 |[b],a,v=>if h:a=b then some (h▸v)else none
 |b::c::r,a,v=>if h:a=b then some (.inl (h▸v))else match inj E (c::r) a v with
  |some o=>some (.inr o)
  |none=>none
def tN(E:Alt->List (Ty V.ι)){A:Type}:(alts:List Alt)->yR E alts->((a:Alt)->HL V.N (E a)->Option A)->Option A
 |[],_,_=>none
 |[a],v,f=>f a v
 |a::b::r,o,f=>match o with
  | .inl v=>f a v
  | .inr o'=>tN E (b::r) o' f
theorem dz{E:Alt->List (Ty V.ι)}{A:Type}{f:(a:Alt)->HL V.N (E a)->Option A}:∀{alts:List Alt} {a:Alt} {v:HL V.N (E a)} {o:yR E alts},inj E alts a v=some o->tN E alts o f=f a v
 |[],a,v,o,h=>by simp[inj]at h
 |[b],a,v,o,h=>by
  simp only[inj]at h
  split at h
  ·rename_i e;subst e;cases h;rfl
  ·cases h
 |b::c::r,a,v,o,h=>by
  simp only[inj]at h
  split at h
  ·rename_i e;subst e;cases h;rfl
  ·split at h
   ·rename_i o' ho
    cases h
    show tN E (c::r) o' f=f a v
    exact dz (f:=f) ho
   ·cases h
variable (V)
structure yQ (sh:az V)where
 cut:Cut V.ι
 alts:List Alt
 F:HL V.N cut.tys->Option (yR (dG sh []) alts)
structure Xc where
 P:Program
 n:Nat
 nm:Nat->Nat:=id
 call:al V
 pre:Nat->Bool:=λ_=>false
 sh:az V
 joins:Nat->Option (Cut V.ι×List Alt):=λ_=>none
 regs:Nat->Option (Cut V.ι):=λ_=>none
 loops:Nat->Option (yQ V sh):=λ_=>none
 pair:Nat->PT:=λ_=> .leaf
 jumps:Nat->Option (Nat×yQ V sh):=λ_=>none
def cC:Code->Nat
 | .region id _ _=>id
 | .seq a b=>if cC a=1000000 then cC b else cC a
 | .block _ x=>cC x
 | .cond _ a b=>if cC a=1000000 then cC b else cC a
 | .loop b=>cC b
 | .scope b=>cC b
 |_=>1000000
variable {V}
noncomputable def OG{A:Type}(x y:Option A):Option A:=by classical exact if x=y then x else none
theorem Eh{A:Type}{x y:Option A}{r:A}(h:OG x y=some r):x=some r/\y=some r:=by
 unfold OG at h
 split at h
 ·rename_i e;exact⟨h,e▸h⟩
 ·cases h
def Sb(X:Xc V){A:Type}(ops:Array Oper)(S:TS V.N)(k:TS V.N->Option A):Option A:=
 txd V X.P X.n X.nm X.call X.pre ops.toList ops.toList S [] λS' tr=>match AU ops.toList tr with
  |true=>k S'
  |false=>none
def Bn(i j n:Nat):Bool:= !Ww i j&&WS i n&&WS j n
noncomputable def Qa(X:Xc V){A:Type}(S:TS V.N)(k:TS V.N->Option A):PT->Array Oper->Option A
 | .leaf,ops=>Sb X ops S k
 | .node i j a b,ops=>match Bn i j ops.size with
  |true=>OG (Qa X S k a (fb i i i j ops)) (Qa X S k b (fb i j j i ops))
  |false=>none
noncomputable def Qb(X:Xc V){A:Type}(id:Nat)(ops:Array Oper)(draw:Bool)(S:TS V.N)(k:TS V.N->Option A):Option A:=match draw with
 |false=>txs V X.P X.n X.nm X.call X.pre ops.toList ops.toList S k
 |true=>Qa X S k (X.pair id) ops
def qU{A:Type}(ke:Nat->TS V.N->Option A):Nat->TS V.N->Option A:=λid S=>match WS id 1000000 with
 |true=>ke id S
 |false=>none
noncomputable def ex(X:Xc V):Code->(A:Type)->TS V.N->(TS V.N->Option A)->(Nat->TS V.N->Option A)->(HL V.N X.sh.rcut.tys->Option A)->Option A
 | .skip,_,S,kn,_,_=>kn S
 | .ret,_,S,_,_,kr=>match CI V X.sh.rcut S with
  |some v=>kr v
  |none=>none
 | .exit id,_,S,_,ke,_=>qU ke id S
 | .goto l,_,S,_,ke,_=>ke (1000000+l) S
 | .label _,_,S,kn,_,_=>kn S
 | .seq x y,A,S,kn,ke,kr=>match X.joins (cC y)with
  |none=>ex X x A S (λS'=>ex X y A S' kn ke kr) ke kr
  |some (cut,alts)=>
   ex X x (yR (dG X.sh cut.tys) alts) S
    (λS'=>match CI V cut S' with
      |some v=>inj (dG X.sh cut.tys) alts .norm v
      |none=>none)
    (λid S'=>match CI V (X.sh.exits id) S' with
      |some v=>inj (dG X.sh cut.tys) alts (.exit id) v
      |none=>none)
    (λv=>inj (dG X.sh cut.tys) alts .ret v)>>=λout=>
   tN (dG X.sh cut.tys) alts out λa=>match a with
    | .norm=>λv=>ex X y A (bZ V cut v) kn ke kr
    | .ret=>λv=>kr v
    | .exit id=>λv=>ke id (bZ V (X.sh.exits id) v)
 | .block id x,A,S,kn,ke,kr=>match WS id 1000000 with
  |true=>ex X x A S kn (λid' S'=>if id'=id then kn S' else ke id' S') kr
  |false=>none
 | .cond c x y,A,S,kn,ke,kr=>match c with
  | .tmp t=>match gt S.tmps t with
   |some (.lf .bool b)=>if b=true then ex X x A (setB S t true) kn ke kr else ex X y A (setB S t false) kn ke kr
   |_=>none
  | .const (.bool b)=>match b with
   |true=>ex X x A S kn ke kr
   |false=>ex X y A S kn ke kr
  |_=>none
 | .region id ops draw,_,S,kn,_,_=>match X.regs id with
  |none=>Qb X id ops draw S kn
  |some cut=>(Qb X id ops draw S λS'=>CI V cut S')>>=λv=>kn (bZ V cut v)
 | .scope c,A,S,kn,ke,kr=>match X.jumps (cC c)with
  |none=>ex X c A S kn (qU ke) kr
  |some (l,la)=>ex X c A S kn (λid S'=>match Ww id (1000000+l)with
   |true=>match CI V la.cut S' with
    |none=>none
    |some v=>la.F v>>=λout=>tN (dG X.sh []) la.alts out λa=>match a with
     | .norm=>λ_=>none
     | .ret=>λv=>kr v
     | .exit id=>λv=>ke id (bZ V (X.sh.exits id) v)
   |false=>qU ke id S') kr
 | .loop b,_,S,_,ke,kr=>match X.loops (cC b)with
  |none=>none
  |some la=>match CI V la.cut S with
   |none=>none
   |some v=>la.F v>>=λout=>tN (dG X.sh []) la.alts out λa=>match a with
    | .norm=>λ_=>none
    | .ret=>λv=>kr v
    | .exit id=>λv=>ke id (bZ V (X.sh.exits id) v)
 |_,_,_,_,_,_=>none
noncomputable def exL(X:Xc V)(b:Code)(cut:Cut V.ι)(alts:List Alt)(F:HL V.N cut.tys->Option (yR (dG X.sh []) alts))(v:HL V.N cut.tys):Option (yR (dG X.sh []) alts):=
 ex X b _ (bZ V cut v)
  (λS'=>match CI V cut S' with
    |some v=>F v
    |none=>none)
  (qU λid S'=>match CI V (X.sh.exits id) S' with
    |some v=>inj (dG X.sh []) alts (.exit id) v
    |none=>none)
  (λv=>inj (dG X.sh []) alts .ret v)
def oP(C:Ctx)(c:Code)(S:ae)(Q:Exit->ae->Prop):Prop:=
 ∀(E:Env) (M:Mem) (a:Act) (w:World),Sim C E M S a w->∀(b:Frame) (k:List Item) (cs:List Frame),
  ∃e a' w',(∃S' E' M',Q e S'/\Sim C E' M' S' a' w')/\Arrives C.P (lone (b.at a (.code c:: .inLoop c::k)) cs w) b k cs e a' w'
theorem oP.loop{C:Ctx}{c:Code}{S:ae}{Q:Exit->ae->Prop}(h:oP C c S Q):AWp C (.loop c) S Q:=λE M a w hs b k cs=>
 let⟨e,a',w',hq,harr⟩:=h E M a w hs b k cs
 ⟨e,a',w',hq, .of_steps (.one step_loop) harr⟩
theorem oP.ent{C:Ctx}{c:Code}{S S':ae}{Q:Exit->ae->Prop}(he:Ent S S')(h:oP C c S' Q):oP C c S Q:=λE M a w hs=>
 let⟨E',M',hs'⟩:=he C E M a w hs
 h E' M' a w hs'
theorem oP.round{C:Ctx}{c:Code}{S:ae}{Q:Exit->ae->Prop}(h:AWp C c S (Ph (λS'=>oP C c S' Q) Q)):oP C c S Q:=by
 intro E M a w hs b k cs
 obtain⟨e,a₁,w₁,⟨S₁,E₁,M₁,hq,hs₁⟩,harr⟩:=h E M a w hs b (.inLoop c::k) cs
 cases e with
 |normal=>
  obtain⟨e₂,a₂,w₂,hq₂,harr₂⟩:=hq E₁ M₁ a₁ w₁ hs₁ b k cs
  exact⟨e₂,a₂,w₂,hq₂, .of_steps (Steps.trans harr (.one step_inLoop)) harr₂⟩
 |exit id=>exact⟨_,a₁,w₁,⟨S₁,E₁,M₁,hq,hs₁⟩, .pass (x:= .inLoop c) rfl (λ_ _=> .inl (by simp)) harr⟩
 |goto l=>exact⟨_,a₁,w₁,⟨S₁,E₁,M₁,hq,hs₁⟩, .pass (x:= .inLoop c) rfl (λ_ _=> .inl (by simp)) harr⟩
 |ret=>exact⟨_,a₁,w₁,⟨S₁,E₁,M₁,hq,hs₁⟩, .pass (x:= .inLoop c) rfl (λ_ _=> .inl (by simp)) harr⟩
 |panic ch=>exact⟨_,a₁,w₁,⟨S₁,E₁,M₁,hq,hs₁⟩, .pass (x:= .inLoop c) rfl (λ_ _=> .inl (by simp)) harr⟩
 |outgrown=>exact⟨_,a₁,w₁,⟨S₁,E₁,M₁,hq,hs₁⟩, .pass (x:= .inLoop c) rfl (λ_ _=> .inl (by simp)) harr⟩
def Kw(C:Ctx)(x rest:Code)(S:ae)(Q:Exit->ae->Prop):Prop:=
 ∀(E:Env) (M:Mem) (a:Act) (w:World),Sim C E M S a w->∀(b:Frame) (k:List Item) (cs:List Frame),
  ∃e a' w',(∃S' E' M',Q e S'/\Sim C E' M' S' a' w')/\Arrives C.P (lone (b.at a (.code rest:: .inScope x::k)) cs w) b k cs e a' w'
def RO(l:Nat)(J:ae->Prop)(Q:Exit->ae->Prop):Exit->ae->Prop
 | .goto l',S=>l'=l/\J S
 |e,S=>Q e S
theorem Kw.ent{C:Ctx}{x rest:Code}{S S':ae}{Q:Exit->ae->Prop}(he:Ent S S')(h:Kw C x rest S' Q):Kw C x rest S Q:=λE M a w hs=>
 let⟨E',M',hs'⟩:=he C E M a w hs
 h E' M' a w hs'
theorem Kw.mono{C:Ctx}{x rest:Code}{S:ae}{Q Q':Exit->ae->Prop}(h:Kw C x rest S Q)(hq:∀e S,Q e S->Q' e S):Kw C x rest S Q':=λE M a w hs b k cs=>
 let⟨e,a',w',⟨S',E',M',hq',hs'⟩,harr⟩:=h E M a w hs b k cs
 ⟨e,a',w',⟨S',E',M',hq e S' hq',hs'⟩,harr⟩
theorem py{C:Ctx}{x rest:Code}{l:Nat}{S:ae}{Q:Exit->ae->Prop}(hf:findLabel x l=some rest)(h:AWp C x S (RO l (λS'=>Kw C x rest S' Q) Q)):AWp C (.scope x) S Q:=by
 intro E M a w hs b k cs
 have hg:gotoIn l (.inScope x::k)=some (.code rest:: .inScope x::k):=by simp[gotoIn,hf]
 obtain⟨e,a₁,w₁,⟨S₁,E₁,M₁,hq,hs₁⟩,harr⟩:=h E M a w hs b (.inScope x::k) cs
 cases e with
 |normal=>exact⟨.normal,a₁,w₁,⟨S₁,E₁,M₁,hq,hs₁⟩, .head step_scope (Steps.trans harr (.one step_inScope))⟩
 |exit id=>exact⟨.exit id,a₁,w₁,⟨S₁,E₁,M₁,hq,hs₁⟩,λk' hk=> .head step_scope (harr k' (by simp[exitTo,hk]))⟩
 |goto l'=>
  obtain⟨rfl,hJ⟩:=hq
  obtain⟨e₂,a₂,w₂,hq₂,harr₂⟩:=hJ E₁ M₁ a₁ w₁ hs₁ b k cs
  exact⟨e₂,a₂,w₂,hq₂, .of_steps (.head step_scope (harr _ hg)) harr₂⟩
 |ret=>exact⟨_,a₁,w₁,⟨S₁,E₁,M₁,hq,hs₁⟩, .of_steps (.one step_scope) harr⟩
 |panic ch=>exact⟨_,a₁,w₁,⟨S₁,E₁,M₁,hq,hs₁⟩, .of_steps (.one step_scope) harr⟩
 |outgrown=>exact⟨_,a₁,w₁,⟨S₁,E₁,M₁,hq,hs₁⟩, .of_steps (.one step_scope) harr⟩
theorem uA(l:Nat):WS (1000000+l) 1000000=false:=by
 cases h:WS (1000000+l) 1000000 with
 |false=>rfl
 |true=>rw[WZ]at h;omega
theorem gf{A:Type}{ke:Nat->TS V.N->Option A}{id:Nat}{S:TS V.N}{r:A}(h:qU ke id S=some r):WS id 1000000=true/\ke id S=some r:=by
 unfold qU at h
 split at h
 ·exact⟨‹_›,h⟩
 ·cases h
theorem lS{A:Type}{ke:Nat->TS V.N->Option A}{l:Nat}{S:TS V.N}{r:A}(h:qU ke (1000000+l) S=some r):False:=by
 have:=(gf h).1
 rw[uA]at this;cases this
structure SW (sh:az V) {A:Type} (kn:TS V.N->Option A) (ke:Nat->TS V.N->Option A) (kr:HL V.N sh.rcut.tys->Option A) (r:A) (Q:Exit->ae->Prop):Prop where
 norm:∀S σ,kn S=some r->Ent σ (aI V S)->Q .normal σ
 exit:∀id S σ,WS id 1000000=true->ke id S=some r->Ent σ (aI V S)->Q (.exit id) σ
 jump:∀l S σ,ke (1000000+l) S=some r->Ent σ (aI V S)->Q (.goto l) σ
 ret:∀v σ,kr v=some r->Ent σ (aI V (bZ V sh.rcut v))->Q .ret σ
def vL(sh:az V)(alts:List Alt)(out:yR (dG sh []) alts)(e:Exit)(σ:ae):Prop:=match e with
 | .exit id=>WS id 1000000=true/\∃v:HL V.N (sh.exits id).tys,inj (dG sh []) alts (.exit id) v=some out/\Ent σ (aI V (bZ V (sh.exits id) v))
 | .ret=>∃v:HL V.N sh.rcut.tys,inj (dG sh []) alts .ret v=some out/\Ent σ (aI V (bZ V sh.rcut v))
 |_=>False
def aD(C:Ctx)(b:Code){sh:az V}(la:yQ V sh):Prop:=∀v out,la.F v=some out->oP C b (aI V (bZ V la.cut v)) (vL sh la.alts out)
def Ky(C:Ctx)(x:Code)(l:Nat){sh:az V}(la:yQ V sh):Prop:=
 ∃rest,findLabel x l=some rest/\∀v out,la.F v=some out->Kw C x rest (aI V (bZ V la.cut v)) (vL sh la.alts out)
def LOk(C:Ctx)(X:Xc V):Code->Prop
 | .seq x y=>LOk C X x/\LOk C X y
 | .block _ x=>LOk C X x
 | .scope x=>LOk C X x/\∀l la,X.jumps (cC x)=some (l,la)->Ky C x l la
 | .cond _ x y=>LOk C X x/\LOk C X y
 | .loop b=>∀la,X.loops (cC b)=some la->aD C b la
 |_=>True
theorem j4{P:Program}{N:Nat->Prop}{nm:Nat->Nat}{all:List Oper}:∀{os:List Oper} {S:ae} {tr:List Tr1} {k k':ae->List Tr1->Prop},(∀S tr,k S tr->k' S tr)->kC P N nm all os S tr k->kC P N nm all os S tr k'
 |[],S,tr,k,k',hk,h=>hk _ _ h
 |o::os,S,tr,k,k',hk,h=>by
  simp only[kC]at h⊢
  obtain⟨hd,h⟩:=h
  refine⟨hd,?_⟩
  cases hg:o.guard with
  |none=>
   simp only[hg]at h⊢
   exact mc (λe ⟨h1,h2⟩=>⟨h1,j4 hk h2⟩) h
  |some g=>
   obtain⟨j,want⟩:=g
   simp only[hg]at h⊢
   split at h
   ·exact⟨λe=>mc (λe ⟨h1,h2⟩=>⟨h1,j4 hk h2⟩) (h.1 e),λe=>j4 hk (h.2 e)⟩
   ·exact h.elim
def Us(Q:Exit->ae->Prop):Exit->ae->Prop
 | .goto _,_=>False
 |e,S=>Q e S
theorem Ef{C:Ctx}{c:Code}{S:ae}{Q:Exit->ae->Prop}(h:AWp C c S (Us Q)):AWp C (.scope c) S Q:=λE M a w hs=>
 wp_scope_straight (wp_mono (h E M a w hs) λe a' w'=>by
  rintro⟨S',E',M',hq,hs'⟩
  cases e with
  |goto l=>exact hq.elim
  |_=>exact⟨S',E',M',hq,hs'⟩)
theorem ir{C:Ctx}{X:Xc V}(hP:C.P=X.P)(hn:C.N=X.n/\Fx C X.pre)(hm:X.P.follows .mixedOrders=true)(hcall:af X.P X.call):∀(c:Code) (A:Type) (S:TS V.N) (kn:TS V.N->Option A) (ke:Nat->TS V.N->Option A)
 (kr:HL V.N X.sh.rcut.tys->Option A) (r:A) (Q:Exit->ae->Prop),LOk C X c->ex X c A S kn ke kr=some r->SW X.sh kn ke kr r Q->AWp C c (aI V S) Q:=by
 intro c
 induction c with
 |skip=>intro A S kn ke kr r Q _ h hp;exact .skip (hp.norm S _ h (Ent.refl _))
 |label l=>intro A S kn ke kr r Q _ h hp;exact .label (hp.norm S _ h (Ent.refl _))
 |exit id=>
  intro A S kn ke kr r Q _ h hp
  simp only[ex]at h
  obtain⟨h1,h2⟩:=gf h
  exact .exit (hp.exit id S _ h1 h2 (Ent.refl _))
 |goto l=>intro A S kn ke kr r Q _ h hp;exact .goto (hp.jump l S _ h (Ent.refl _))
 |ret=>
  intro A S kn ke kr r Q _ h hp
  simp only[ex]at h
  split at h
  ·rename_i v hv;exact .ret (hp.ret v _ h (dI hv))
  ·cases h
 |seq x y ihx ihy=>
  intro A S kn ke kr r Q hl h hp
  obtain⟨hlx,hly⟩:=hl
  simp only[ex]at h
  split at h
  ·refine .seq (ihx A S _ ke kr r _ hlx h ⟨λS' σ hk he=> ?_,hp.exit,hp.jump,λv σ hk he=>hp.ret v σ hk he⟩)
   exact .ent he (ihy A S' kn ke kr r Q hly hk hp)
  ·rename_i cut alts hj
   obtain⟨out,h1,h2⟩:=bK h
   refine .seq (ihx _ S _ _ _ out _ hlx h1 ⟨λS' σ hk he=> ?_,λid S' σ hb hk he=> ?_,λl S' σ hk he=> ?_,λv σ hk he=> ?_⟩)
   ·split at hk
    ·rename_i v hv
     rw[dz hk]at h2
     exact .ent (Ent.trans he (dI hv)) (ihy A _ kn ke kr r Q hly h2 hp)
    ·cases hk
   ·split at hk
    ·rename_i v hv
     rw[dz hk]at h2
     exact hp.exit id _ σ hb h2 (Ent.trans he (dI hv))
    ·cases hk
   ·split at hk
    ·rename_i v hv
     rw[dz hk]at h2
     exact hp.jump l _ σ h2 (Ent.trans he (dI hv))
    ·cases hk
   ·rw[dz hk]at h2
    exact hp.ret v σ h2 he
 |block id x ih=>
  intro A S kn ke kr r Q hl h hp
  simp only[ex]at h
  split at h
  ·rename_i hb
   refine .block (ih A S kn _ kr r _ hl h ⟨λS' σ hk he=>hp.norm S' σ hk he,λid' S' σ hb' hk he=> ?_,λl S' σ hk he=> ?_,λv σ hk he=>hp.ret v σ hk he⟩)
   ·simp only[AV]
    split at hk
    ·rename_i e;rw[Y5 e];exact hp.norm S' σ hk he
    ·rename_i e;rw[Y4 e];exact hp.exit id' S' σ hb' hk he
   ·simp only[AV]
    rw[Y4 (λe=>by rw[<-e,uA]at hb;cases hb)]at hk
    exact hp.jump l S' σ hk he
  ·cases h
 |cond c x y ihx ihy=>
  intro A S kn ke kr r Q hl h hp
  obtain⟨hlx,hly⟩:=hl
  simp only[ex]at h
  split at h
  ·rename_i t
   split at h
   ·rename_i b hb
    have hev:ev (aI V S) (.tmp t)= .d (.v (.bool b)):=by
     rw[aw]
     simp only[tev,TS.get,hb,WY,ao,aW]
    have hset:∀b',b=b'->Ent (aI V S) (aI V (setB S t b')):=λb' e C E M a w hs=>⟨E,M,vu (by rw[hb,e]) hs⟩
    cases b with
    |true=>
     rw[Y5 rfl]at h
     exact .cond hev (λ_=> .ent (hset true rfl) (ihx A _ kn ke kr r Q hlx h hp)) (λe=>by cases e)
    |false=>
     rw[Y4 (by simp)]at h
     exact .cond hev (λe=>by cases e) (λ_=> .ent (hset false rfl) (ihy A _ kn ke kr r Q hly h hp))
   ·cases h
  ·rename_i b
   have hev:ev (aI V S) (.const (.bool b))= .d (.v (.bool b)):=rfl
   cases b with
   |true=>exact .cond hev (λ_=>ihx A _ kn ke kr r Q hlx h hp) (λe=>by cases e)
   |false=>exact .cond hev (λe=>by cases e) (λ_=>ihy A _ kn ke kr r Q hly h hp)
  ·cases h
 |region id ops draw=>
  intro A S kn ke kr r Q _ h hp
  have key:∀{B:Type} (k:TS V.N->Option B) (s:B),Qb X id ops draw S k=some s->(∀S' σ,k S'=some s->Ent σ (aI V S')->Q .normal σ)->AWp C (.region id ops draw) (aI V S) Q:=by
   intro B k s hr hq
   cases draw with
   |false=>
    simp only[Qb]at hr
    rw[<-hP,<-hn.1]at hr
    intro E M a w hs
    refine wp_region ?_
    have:=rW (C:=C) (ops:=ops) (Q:=λe a' w'=>∃S' E' M',Q e S'/\Sim C E' M' S' a' w') (hP▸hcall) hn.2 ops.toList 0 S k E M a w (by simp) hr hs
     λS' E' M' a' w' hk hs'=>⟨_,E',M',hq S' _ hk (Ent.refl _),hs'⟩
    have e:(Xk ops.toList.length).map (0+ ·)=Xk ops.size:=by simp
    rw[e]at this
    exact this
   |true=>
    simp only[Qb]at hr
    have one:∀(ops:Array Oper),Sb X ops S k=some s->kC C.P C.wr X.nm ops.toList ops.toList (aI V S) [] (λS' tr=>AU ops.toList tr=true/\Q .normal S'):=by
     intro ops hr
     simp only[Sb]at hr
     rw[hP]
     have h2:=rV (W:=C.wr) hcall (λo ho=>uB hn.2 (by rw[hn.1];exact ho)) ops.toList S (aI V S) [] _ hr (Rl.refl S)
     refine j4 (λσ' tr' ⟨S',hrl,hk⟩=> ?_) h2
     split at hk
     ·rename_i hd;exact⟨hd,hq S' σ' hk hrl.ent⟩
     ·cases hk
    have tree:∀(t:PT) (ops:Array Oper),Qa X S k t ops=some s->PT.ok C X.nm (aI V S) (Q .normal) t ops:=by
     intro t
     induction t with
     |leaf=>intro ops hr;exact one ops hr
     |node i j ta tb iha ihb=>
      intro ops hr
      simp only[Qa]at hr
      split at hr
      ·rename_i hf
       obtain⟨h1,h2⟩:=Eh hr
       simp only[Bn,VE,W7,WZ]at hf
       obtain⟨⟨f1,f2⟩,f3⟩:=hf
       exact⟨⟨(λe=>by rw[e,Xw]at f1;cases f1),f2,f3⟩,iha _ h1,ihb _ h2⟩
      ·cases hr
    exact .drawT X.nm (X.pair id) (by rw[hP];exact hm) (tree _ _ hr)
  simp only[ex]at h
  split at h
  ·exact key kn r h λS' σ hk he=>hp.norm S' σ hk he
  ·rename_i cut _
   obtain⟨v,h1,h2⟩:=bK h
   exact key _ v h1 λS' σ hk he=>hp.norm _ σ h2 (Ent.trans he (dI hk))
 |scope x ih=>
  intro A S kn ke kr r Q hl h hp
  simp only[ex]at h
  split at h
  ·exact Ef (ih A S kn _ kr r _ hl.1 h ⟨λS' σ hk he=>hp.norm S' σ hk he,λid' S' σ hb hk he=>hp.exit id' S' σ hb (gf hk).2 he,λl S' σ hk he=>(lS hk).elim,λv σ hk he=>hp.ret v σ hk he⟩)
  ·rename_i l la hj
   obtain⟨rest,hf,hok⟩:=hl.2 l la hj
   refine py hf (ih A S kn _ kr r _ hl.1 h ⟨λS' σ hk he=>hp.norm S' σ hk he,λid' S' σ hb hk he=> ?_,λl' S' σ hk he=> ?_,λv σ hk he=>hp.ret v σ hk he⟩)
   ·split at hk
    ·rename_i e
     have:=Wa e
     rw[this,uA]at hb;cases hb
    ·exact hp.exit id' S' σ hb (gf hk).2 he
   ·split at hk
    ·rename_i e
     have e:=Wa e
     refine⟨by omega,?_⟩
     split at hk
     ·cases hk
     ·rename_i v hv
      obtain⟨out,h1,h2⟩:=bK hk
      refine .ent (Ent.trans he (dI hv)) ((hok v out h1).mono λe σ hq=> ?_)
      unfold vL at hq
      split at hq
      ·obtain⟨hb,w,hw1,hw2⟩:=hq
       rw[dz hw1]at h2
       exact hp.exit _ _ σ hb h2 hw2
      ·obtain⟨w,hw1,hw2⟩:=hq
       rw[dz hw1]at h2
       exact hp.ret w σ h2 hw2
      ·exact hq.elim
    ·exact(lS hk).elim
 |loop b ih=>
  intro A S kn ke kr r Q hl h hp
  simp only[ex]at h
  split at h
  ·cases h
  ·rename_i la hla
   split at h
   ·cases h
   ·rename_i v hv
    obtain⟨out,h1,h2⟩:=bK h
    refine .ent (dI hv) ((oP.loop (hl la hla v out h1)).mono λe σ hq=> ?_)
    unfold vL at hq
    split at hq
    ·obtain⟨hb,w,hw1,hw2⟩:=hq
     rw[dz hw1]at h2
     exact hp.exit _ _ σ hb h2 hw2
    ·obtain⟨w,hw1,hw2⟩:=hq
     rw[dz hw1]at h2
     exact hp.ret w σ h2 hw2
    ·exact hq.elim
 |_=>intro A S kn ke kr r Q _ h hp;simp only[ex]at h;cases h
theorem c8{C:Ctx}{X:Xc V}(hP:C.P=X.P)(hn:C.N=X.n/\Fx C X.pre)(hm:X.P.follows .mixedOrders=true)(hcall:af X.P X.call){b:Code}(hl:LOk C X b){cut:Cut V.ι}{alts:List Alt}
 {F:HL V.N cut.tys->Option (yR (dG X.sh []) alts)}(ih:∀v out,F v=some out->oP C b (aI V (bZ V cut v)) (vL X.sh alts out)){v:HL V.N cut.tys}{out:yR (dG X.sh []) alts}
 (h:exL X b cut alts F v=some out):oP C b (aI V (bZ V cut v)) (vL X.sh alts out):=by
 refine oP.round (ir hP hn hm hcall b _ _ _ _ _ out _ hl h ⟨λS' σ hk he=> ?_,λid S' σ hb hk he=> ?_,λl S' σ hk he=>(lS hk).elim,λv σ hk he=> ?_⟩)
 ·split at hk
  ·rename_i w hw;exact .ent (Ent.trans he (dI hw)) (ih w out hk)
  ·cases hk
 ·have hk:=(gf hk).2
  split at hk
  ·rename_i w hw;exact⟨hb,w,hk,Ent.trans he (dI hw)⟩
  ·cases hk
 ·exact⟨v,hk,he⟩
end
end Go.Tx
end
section
namespace Go.Tx
open Go.Awp
variable [Inhabited GMem]
def vP(P:Program)(rs:List ResultVar)(r:H)(own':List (Nat×Own))(e:Exit)(S:ae):Prop:=
 (e= .normal\/e= .ret)/\∃S',Ent S S'/\∃h,JZ P S' rs=some h/\H.le h r/\∀n o,gt own' n=some o->S'.own? n=some o
theorem CN{P:Program}{f:FuncId}{fn:Func}{c:Code}{args:List H}{own own':List (Nat×Own)}{r:H}(hf:P.funcs[f]?=some fn)(hb:fn.body=some c)
 (hname:(fn.name != "runtime.NumGoroutine")=true)(hn:args.length<=fn.ntmps)
 (h:∀C:Ctx,C.P=P->C.N=fn.ntmps/\C.fix=[]->AWp C c ⟨gF 0 args,kX own⟩ (vP P fn.results.toList r own')):i6 P f args own r own':=by
 refine⟨by simp[eO,hf,hb,hname],λE M w vs hgm hm how hvs=> ?_⟩
 refine calls_of_wp hf hb ?_
 let C:Ctx:=⟨P,fn.ntmps,w,M,E,gW E w own,hgm,λb ⟨n,o,hn,hb⟩=>((how.ok n o hn).block hb).2,[],[]⟩
 have hs:Sim C E M ⟨gF 0 args,kX own⟩ {tmps:=vs++W4 (fn.ntmps-vs.size) undef,defers:=[]} w:=by
  have hvs1:=hvs.1
  refine{size:=by simp[C];omega,defers:=rfl,fixed:=λp hp=>(by cases hp),tmps:=λt x hx=> ?_,mem:=hm,own:=λn o ho=> ?_,apart:=λn m o o' b hne ho ho'=> ?_,home:=λn o b ho hb=> ?_,m0:=Mem.le_refl M,mnew:=λb o v hv=> .inl hv,frame:=λ_ _ _=>rfl,grows:=VN _,os:=rfl,tape:=rfl,output:=rfl,env:=λ_ _=>rfl}
  ·obtain⟨_,h2⟩:=mo args 0 t x hx
   simp only[Yr]at h2
   have hlt:t<vs.size:=by have:=(Vv.1 h2).1;omega
   exact⟨vs[t],by simp[Xq hlt,hlt],hvs.2 t _ x (Wb hlt) h2⟩
  ·have ho':gt own n=some o:=by rw[<-bQ];exact ho
   exact how.ok n o ho'
  ·have h1:gt own n=some o:=by rw[<-bQ];exact ho
   have h2:gt own m=some o':=by rw[<-bQ];exact ho'
   exact how.apart n m o o' b hne h1 h2
  ·have h1:gt own n=some o:=by rw[<-bQ];exact ho
   exact .inl ⟨n,o,h1,hb⟩
 refine wp_mono (h C rfl ⟨rfl,rfl⟩ E M _ w hs) ?_
 rintro e a' w' ⟨S',E',M',⟨he,S'',hent,hh,hres,hle,hown⟩,hs'⟩
 obtain⟨E2,M2,hs2⟩:=hent C E' M' a' w' hs'
 obtain⟨v,hrun,hrep⟩:=vt (C:=C) hs2 hres
 have hpost:pq E M own w v r own' E2 M2 w':=
  {rep:=hle _ _ _ hrep,owns:=⟨λn o ho=>hs2.own n o (hown n o ho),λn m o o' b hne h1 h2=>hs2.apart n m o o' b hne (hown n o h1) (hown m o' h2)⟩,mle:=hs2.m0,mem:=hs2.mem,mnew:=hs2.mnew,home:=λn o b ho hb=>hs2.home n o b (hown n o ho) hb,frame:=hs2.frame,grows:=hs2.grows,os:=hs2.os,tape:=hs2.tape,output:=hs2.output,env:=hs2.env}
 rcases he with rfl|rfl
 ·exact⟨hs2.defers,v,hrun,v,E2,M2,rfl,hpost⟩
 ·exact⟨hs2.defers,v,hrun,v,E2,M2,rfl,hpost⟩
section
variable (V:m_)
structure Sig where
 params:List (Pt V.ι)
 objs:List (Nat×OPt V.ι):=[]
 rcut:Cut V.ι
 rvars:List ResultVar
 keep:List Nat:=[]
variable {V}
def Sig.tys(sig:Sig V):List (Ty V.ι):=Hd sig.params++GS sig.objs
def I1{α:Type}:Nat->List α->List (Nat×α)
 |_,[]=>[]
 |i,x::r=>(i,x)::I1 (i+1) r
def a_(sig:Sig V)(v:HL V.N sig.tys):List (TV V.N)×List (Nat×TO V.N):=match bdL V sig.params (P2 sig.tys v)with
 |some (xs,ls)=>match bdO V sig.objs ls with
  |some os=>(xs,os)
  |none=>([],[])
 |none=>([],[])
def ay(sig:Sig V)(v:HL V.N sig.tys):TS V.N:={tmps:=I1 0 (a_ sig v).1,own:=(a_ sig v).2}
def NH(P:Program)(S:TS V.N):ResultVar->Option (TV V.N)
 | .tmp t=>gt S.tmps t
 | .cell a t=>match gt S.tmps a with
  |some (.bp n off)=>match cq P t with
   |some (ag,sz)=>match BI V ag off sz (V.ty t) (S.own? n)with
    |some v=>some v
    |none=>match IM V (S.own? n)with
     |some cells=>CV V false ag sz (V.ty t) (cells.drop off)
     |none=>none
   |none=>none
  |_=>none
def Hl(P:Program)(S:TS V.N):List ResultVar->Option (List (TV V.N))
 |[]=>some []
 |x::r=>match NH P S x,Hl P S r with
  |some h,some l=>some (h::l)
  |_,_=>none
def Ny:List (TV V.N)->TV V.N
 |[x]=>x
 |l=> .tup l
def rh(P:Program)(sig:Sig V)(r:HL V.N sig.rcut.tys):Option (TV V.N):=(Hl P (bZ V sig.rcut r) sig.rvars).map Ny
def bB(ω:Nat->Nat)(os:List (Nat×TO V.N)):List (Nat×Own):=os.filterMap λp=>(bu V ω p.2).map λo=>(p.1,o)
def jx(sig:Sig V)(r:HL V.N sig.rcut.tys):List (Nat×TO V.N):=(bZ V sig.rcut r).own.filter λp=>sig.keep.contains p.1
def aA(P:Program)(fid:FuncId)(sig:Sig V)(F:HL V.N sig.tys->Option (HL V.N sig.rcut.tys)):Prop:=
 ∀v r x,F v=some r->rh P sig r=some x->
  i6 P fid (encL V (ay sig v).len (a_ sig v).1) (bB (ay sig v).len (ay sig v).own) (ao V (bZ V sig.rcut r).len x) (bB (bZ V sig.rcut r).len (jx sig r))
noncomputable def exF(X:Xc V)(sig:Sig V)(h:X.sh.rcut=sig.rcut)(c:Code)(v:HL V.N sig.tys):Option (HL V.N sig.rcut.tys):=
 ex X c _ (ay sig v) (λS=>CI V sig.rcut S) (λ_ _=>none) (λr=>some (h▸r))
theorem cL{α β:Type}{f:α->Option β}:∀{l:List (Nat×α)} {n:Nat} {y:β},gt (l.filterMap λp=>(f p.2).map λo=>(p.1,o)) n=some y->∃x,(n,x)∈l/\f x=some y
 |[],n,y,h=>by simp[gt]at h
 |(k,x)::r,n,y,h=>by
  rw[WV]at h
  cases hx:f x with
  |none=>
   simp only[hx,XP]at h
   obtain⟨z,h1,h2⟩:=cL h
   exact⟨z,Vu _ h1,h2⟩
  |some z=>
   simp only[hx,VV,ai]at h
   by_cases hk:k=n
   ·rw[Y5 hk]at h;cases h;subst hk;exact⟨x,Vy,hx⟩
   ·rw[Y4 hk]at h
    obtain⟨w,h1,h2⟩:=cL h
    exact⟨w,Vu _ h1,h2⟩
def eP:List Nat->Bool
 |[]=>true
 |x::r=> !r.contains x&&eP r
theorem iw{α:Type}:∀{l:List (Nat×α)} {n:Nat} {x:α},eP (l.map (·.1))=true->(n,x)∈l->gt l n=some x
 |[],n,x,_,h=>by cases h
 |(k,y)::r,n,x,hd,h=>by
  simp only[VC,eP,VE]at hd
  rw[ai]
  rcases VG.1 h with he|h
  ·simp only[VW]at he
   obtain⟨rfl,rfl⟩:=he
   rw[Y5 rfl]
  ·have:k≠n:=by
    intro e;subst e
    have h1:=hd.1
    have:k∈r.map (·.1):=VO h
    simp at h1
    simp at this
    exact h1 _ this.choose_spec
   rw[Y4 this]
   exact iw hd.2 h
theorem kh{P:Program}{S:TS V.N}:∀{rs:List ResultVar} {vs:List (TV V.N)},Hl P S rs=some vs->
 ∃hs,jO P (aI V S) rs=some hs/\hs.length=vs.length/\∀(i:Nat) (v:TV V.N),vs[i]?=some v->∃h,hs[i]?=some h/\H.le h (ao V S.len v)
 |[],vs,h=>by simp[Hl]at h;subst h;exact⟨[],rfl,rfl,λi v hv=>by simp at hv⟩
 |x::r,vs,h=>by
  simp only[Hl]at h
  split at h
  ·rename_i v l h1 h2
   simp at h;subst h
   obtain⟨hs,g1,g2,g3⟩:=kh h2
   have:∃y,t6 P (aI V S) x=some y/\H.le y (ao V S.len v):=by
    cases x with
    |tmp t=>
     simp only[NH]at h1
     refine⟨(aI V S).get t,rfl,?_⟩
     unfold ae.get
     rw[cS,h1]
     exact H.le.refl _
    |cell a t=>
     simp only[NH]at h1
     split at h1
     ·rename_i n off hn
      have hg:(aI V S).get a= .bp n off:=by
       unfold ae.get
       rw[cS,hn];simp[ao]
      split at h1
      ·rename_i ag sz ht
       split at h1
       ·rename_i w hw
        simp only[Vx]at h1;subst h1
        unfold BI at hw
        split at hw
        ·rename_i i y hnn
         have hw':=aq hw;clear hw
         obtain⟨⟨e1,e2,e3,hot⟩,hw⟩:=hw'
         subst e1;subst e2;subst e3
         simp only[Vx]at hw;subst hw
         have hb:IM V (S.own? n)=some ((V.cells i y).map λl=> .lf l.t l.x):=by rw[hnn];rfl
         have hl:(V.enc i y).length=V.sz i:=by rw[V.enc_cells,VA,V.len_cells]
         refine⟨ao V S.len (.lf (.st i) y),?_,H.le.refl _⟩
         simp only[t6,hg,iQ hb,ht,ld,gZ,V6,uF,VA]
         rw[Y5 (by omega),Wf (by rw[VA];omega),c_,ft]
        ·cases hw
       ·split at h1
        ·rename_i cells hc
         obtain⟨y,k1,k2,_⟩:=lI (ω:=S.len) h1
         rw[ju]at k1
         refine⟨y,?_,k2⟩
         simp only[t6,hg,iQ hc,ht,k1]
        ·cases h1
      ·cases h1
     ·cases h1
   obtain⟨y,y1,y2⟩:=this
   refine⟨y::hs,by simp only[jO,y1,g1],by simp[g2],λi w hw=> ?_⟩
   cases i with
   |zero=>simp at hw;subst hw;exact⟨y,rfl,y2⟩
   |succ i=>obtain⟨z,z1,z2⟩:=g3 i w (by simpa using hw);exact⟨z,by simpa using z1,z2⟩
  ·cases h
theorem iY{ω:Nat->Nat}:∀(l:List (TV V.N)) (i:Nat),gF i (encL V ω l)=(I1 i l).map λp=>(p.1,ao V ω p.2)
 |[],i=>rfl
 |x::r,i=>by simp[encL,gF,I1,iY r (i+1)]
theorem uz:∀{ps:List (Pt V.ι)} {ls ls':List (du V.N)} {xs:List (TV V.N)},bdL V ps ls=some (xs,ls')->xs.length=ps.length
 |[],ls,ls',xs,h=>by simp[bdL]at h;rw[h.1];rfl
 |p::r,ls,ls',xs,h=>by
  simp only[bdL]at h
  split at h
  ·rename_i x l1 h1
   split at h
   ·rename_i ys l2 h2
    simp at h
    rw[<-h.1]
    simp[uz h2]
   ·cases h
  ·cases h
theorem eb:∀{objs:List (Nat×OPt V.ι)} {ls:List (du V.N)} {os:List (Nat×TO V.N)},bdO V objs ls=some os->os.map (·.1)=objs.map (·.1)
 |[],[],os,h=>by simp[bdO]at h;subst h;rfl
 |[],_::_,os,h=>by simp[bdO]at h
 |(c, .box oty ps)::r,ls,os,h=>by
  simp only[bdO]at h
  split at h
  ·split at h
   ·rename_i os' h2
    simp at h;subst h
    simp[eb h2]
   ·cases h
  ·cases h
 |(c, .st i)::r,[],os,h=>by simp[bdO]at h
 |(c, .vec te e)::r,[],os,h=>by simp[bdO]at h
 |(c, .st i)::r,⟨t,x⟩::ls,os,h=>by
  cases t<;>simp only[bdO]at h<;>first
   |(cases h;done)
   |(split at h
     ·split at h
      ·rename_i os' h2
       simp at h;subst h
       simp[eb h2]
      ·cases h
     ·cases h)
 |(c, .vec te e)::r,⟨t,x⟩::ls,os,h=>by
  cases t<;>simp only[bdO]at h<;>first
   |(cases h;done)
   |(split at h
     ·split at h
      ·rename_i os' h2
       simp at h;subst h
       simp[eb h2]
      ·cases h
     ·cases h)
 |(c, .dvec te e true)::r,[],os,h=>by simp[bdO]at h
 |(c, .dvec te e false)::r,[],os,h=>by simp[bdO]at h
 |(c, .dvec te e true)::r,⟨t,x⟩::ls,os,h=>by
  cases t<;>first
   |(simp[bdO]at h;done)
   |(rename_i t2;cases t2<;>first
    |(simp[bdO]at h;done)
    |(simp only[bdO]at h
      split at h
      ·split at h
       ·rename_i os' h2
        simp at h;subst h
        simp[eb h2]
       ·cases h
      ·cases h))
 |(c, .dvec te e false)::r,⟨t,x⟩::ls,os,h=>by
  cases t<;>simp only[bdO]at h<;>first
   |(cases h;done)
   |(split at h
     ·split at h
      ·rename_i os' h2
       simp at h;subst h
       simp[eb h2]
      ·cases h
     ·cases h)
 |(c, .iter)::r,[],os,h=>by simp[bdO]at h
 |(c, .iter)::r,[⟨t,x⟩],os,h=>by
  cases t<;>simp[bdO]at h
 |(c, .iter)::r,⟨t,x⟩::⟨t2,x2⟩::ls,os,h=>by
  cases t<;>first
   |(simp[bdO]at h;done)
   |(cases t2<;>first
    |(simp[bdO]at h;done)
    |(rename_i ki;cases ki<;>first
     |(simp[bdO]at h;done)
     |(simp only[bdO]at h
       split at h
       ·rename_i os' h2
        simp at h;subst h
        simp[eb h2]
       ·cases h)))
 |(c, .miter cm k v)::r,[],os,h=>by simp[bdO]at h
 |(c, .miter cm k v)::r,[⟨t,x⟩],os,h=>by
  cases t<;>simp[bdO]at h
 |(c, .miter cm k v)::r,⟨t,x⟩::⟨t2,x2⟩::ls,os,h=>by
  cases t<;>first
   |(simp[bdO]at h;done)
   |(cases t2<;>first
    |(simp[bdO]at h;done)
    |(simp only[bdO]at h
      split at h
      ·split at h
       ·rename_i os' h2
        simp at h;subst h
        simp[eb h2]
       ·cases h
      ·cases h))
 |(c, .map tk tv)::r,[],os,h=>by simp[bdO]at h
 |(c, .map tk tv)::r,⟨t,x⟩::ls,os,h=>by
  cases t<;>simp only[bdO]at h<;>first
   |(cases h;done)
   |(split at h
     ·split at h
      ·rename_i os' h2
       simp at h;subst h
       simp[eb h2]
      ·cases h
     ·cases h)
theorem lg(c:Cut V.ι)(ls:List (du V.N))(h:eP (c.objs.map (·.1))=true):eP ((build V c ls).own.map (·.1))=true:=by
 unfold build
 split
 ·split
  ·rename_i os ho
   simp only
   rw[eb ho];exact h
  ·rfl
 ·rfl
theorem gC{ω:Nat->Nat}:∀{os:List (Nat×TO V.N)} {n:Nat} {x:TO V.N} {o:Own},gt os n=some x->bu V ω x=some o->gt (bB ω os) n=some o
 |[],n,x,o,h,_=>by simp[gt]at h
 |(k,y)::r,n,x,o,h,ho=>by
  rw[ai]at h
  unfold bB
  rw[WV]
  by_cases hk:k=n
  ·rw[Y5 hk]at h;cases h
   simp only[ho,VV,ai]
   rw[Y5 hk]
  ·rw[Y4 hk]at h
   have ih:=gC (ω:=ω) h ho
   unfold bB at ih
   cases hy:bu V ω y with
   |none=>simp only[hy,XP];exact ih
   |some z=>
    simp only[hy,VV,ai]
    rw[Y4 hk];exact ih
theorem mm{X:Xc V}{sig:Sig V}(hsh:X.sh.rcut=sig.rcut){fid:FuncId}{fn:Func}{c:Code}(hf:X.P.funcs[fid]?=some fn)(hb:fn.body=some c)(hn:fn.ntmps=X.n)(hrs:fn.results.toList=sig.rvars)
 (hname:(fn.name != "runtime.NumGoroutine")=true)(hlen:XH sig.params.length X.n=true)(hm:X.P.follows .mixedOrders=true)(hcall:af X.P X.call)
 (hdr:eP (sig.rcut.objs.map (·.1))=true)(hl:∀C:Ctx,C.P=X.P->C.N=X.n/\Fx C X.pre->LOk C X c){v:HL V.N sig.tys}{r:HL V.N sig.rcut.tys}(h:exF X sig hsh c v=some r):
 ∀x,rh X.P sig r=some x->
  i6 X.P fid (encL V (ay sig v).len (a_ sig v).1) (bB (ay sig v).len (ay sig v).own) (ao V (bZ V sig.rcut r).len x) (bB (bZ V sig.rcut r).len (jx sig r)):=by
 obtain⟨params,objs,rcut,rvars,keep⟩:=sig
 simp only at hsh
 subst hsh
 intro x hx
 have hargs:(a_ ⟨params,objs,X.sh.rcut,rvars,keep⟩ v).1.length<=X.n:=by
  have hp:params.length<=X.n:=WF hlen
  unfold a_
  split
  ·rename_i xs ls h1
   split
   ·simp only;rw[uz h1];exact hp
   ·simp
  ·simp
 refine CN hf hb hname (by rw[aH,hn];exact hargs) λC hP hN=> ?_
 have hent:Ent ⟨gF 0 (encL V (ay ⟨params,objs,X.sh.rcut,rvars,keep⟩ v).len (a_ ⟨params,objs,X.sh.rcut,rvars,keep⟩ v).1),kX (bB (ay ⟨params,objs,X.sh.rcut,rvars,keep⟩ v).len (ay ⟨params,objs,X.sh.rcut,rvars,keep⟩ v).own)⟩
  (aI V (ay ⟨params,objs,X.sh.rcut,rvars,keep⟩ v)):=by
  refine Ent.le (λt y hy=>⟨y,?_,H.le.refl _⟩) λn o ho=>⟨o,?_,OLe.refl _⟩
  ·rw[iY];exact hy
  ·rw[aT,WO]at ho
   obtain⟨o',ho',hoo⟩:=ho
   have:=gC (os:=(ay ⟨params,objs,X.sh.rcut,rvars,keep⟩ v).own) ho' hoo
   unfold ae.own?
   rw[bQ]
   exact this
 have hend:∀e σ,(e= .normal\/e= .ret)->Ent σ (aI V (bZ V X.sh.rcut r))->
  vP X.P fn.results.toList (ao V (bZ V X.sh.rcut r).len x) (bB (bZ V X.sh.rcut r).len (jx ⟨params,objs,X.sh.rcut,rvars,keep⟩ r)) e σ:=by
  intro e σ he hσ
  unfold rh at hx
  rw[VF]at hx
  obtain⟨vs,hvs,hone⟩:=hx
  obtain⟨hs,g1,g2,g3⟩:=kh hvs
  have hh:∃y,JZ X.P (aI V (bZ V X.sh.rcut r)) fn.results.toList=some y/\H.le y (ao V (bZ V X.sh.rcut r).len x):=by
   rw[hrs]
   unfold JZ
   rw[g1]
   cases vs with
   |nil=>
    have:hs=[]:=VY (by simpa using g2)
    subst this;subst hone
    exact⟨.tup [],rfl,by simp only[Ny,ao,encL];exact H.le.refl _⟩
   |cons a l=>
    cases l with
    |nil=>
     cases hs with
     |nil=>simp at g2
     |cons y l'=>
      have:l'=[]:=VY (by simpa using g2)
      subst this;subst hone
      obtain⟨z,z1,z2⟩:=g3 0 a rfl
      simp at z1;subst z1
      exact⟨y,rfl,z2⟩
    |cons b l=>
     cases hs with
     |nil=>simp at g2
     |cons y l'=>
      cases l' with
      |nil=>simp at g2
      |cons y2 l2=>
       subst hone
       refine⟨.tup (y::y2::l2),rfl,?_⟩
       simp only[Ny,ao]
       refine yt (by rw[aH];exact g2) λi w hw=> ?_
       rw[encL_map,Vz,VF]at hw
       obtain⟨u,hu,rfl⟩:=hw
       exact g3 i u hu
  obtain⟨y,hy1,hy2⟩:=hh
  refine⟨he,_,hσ,y,hy1,hy2,λn o ho=> ?_⟩
  obtain⟨o',h1,h2⟩:=cL ho
  have h1:(n,o')∈(bZ V X.sh.rcut r).own:=(XR.1 h1).1
  have:=iw (lg X.sh.rcut _ hdr) h1
  rw[aT]
  unfold TS.own?
  unfold bZ at *
  rw[this]
  exact h2
 refine .ent hent (ir hP ⟨by rw[hN.1,hn],λp hp=>(by rw[hN.2]at hp;cases hp)⟩ hm hcall c _ _ _ _ _ r _ (hl C hP ⟨by rw[hN.1,hn],λp hp=>(by rw[hN.2]at hp;cases hp)⟩) h ⟨λS σ hk he=> ?_,λid S σ _ hk he=>(by cases hk),λl S σ hk he=>(by cases hk),λw σ hk he=> ?_⟩)
 ·exact hend _ σ (.inl rfl) (Ent.trans he (dI hk))
 ·have:w=r:=by simpa using hk
  subst this
  exact hend _ σ (.inr rfl) he
end
end Go.Tx
end
section
namespace Go.Tx
open Go.Awp
variable [Inhabited GMem]
section
variable {V:m_}
mutual
def TV.plain:TV V.N->Bool
 | .lf .. =>true
 | .raw _=>true
 | .rp .. =>true
 | .junk=>true
 | .agg cs=>TV.plainL cs
 | .tup vs=>TV.plainL vs
 | .fn _ a b=>TV.plainL a&&TV.plainL b
 |_=>false
def TV.plainL:List (TV V.N)->Bool
 |[]=>true
 |x::r=>TV.plain x&&TV.plainL r
end
mutual
theorem plain_has:∀{x:TV V.N},TV.plain x=true->∀n,TV.has n x=false
 | .lf ..,_,n=>by simp[TV.has]
 | .raw _,_,n=>by simp[TV.has]
 | .rp ..,_,n=>by simp[TV.has]
 | .junk,_,n=>by simp[TV.has]
 | .agg cs,h,n=>by simp only[TV.plain]at h;simp only[TV.has];exact plainL_has h n
 | .tup cs,h,n=>by simp only[TV.plain]at h;simp only[TV.has];exact plainL_has h n
 | .fn f a b,h,n=>by
  simp only[TV.plain,VE]at h
  simp only[TV.has,plainL_has h.1 n,plainL_has h.2 n];rfl
 | .bp ..,h,n=>by simp[TV.plain]at h
 | .vh ..,h,n=>by simp[TV.plain]at h
 | .ep ..,h,n=>by simp[TV.plain]at h
 | .sv ..,h,n=>by simp[TV.plain]at h
 | .mp ..,h,n=>by simp[TV.plain]at h
 | .np ..,h,n=>by simp[TV.plain]at h
 | .sd ..,h,n=>by simp[TV.plain]at h
theorem plainL_has:∀{l:List (TV V.N)},TV.plainL l=true->∀n,TV.hasL n l=false
 |[],_,n=>by simp[TV.hasL]
 |x::r,h,n=>by
  simp only[TV.plainL,VE]at h
  simp only[TV.hasL,plain_has h.1 n,plainL_has h.2 n];rfl
end
theorem xT{x:TV V.N}(h:TV.plain x=true)(ω ω':Nat->Nat):ao V ω' x=ao V ω x:=nq x λn hn=>by rw[plain_has h n]at hn;cases hn
def Ty.flat{ι:Type}:Ty ι->Bool
 | .int _=>true
 | .bool=>true
 | .str=>true
 |_=>false
def jf:TV V.N->Bool
 | .lf t x=>(aQ V t x).all λl=>l.t.flat
 |_=>false
def kE:TV V.N->Bool
 | .tup vs=>vs.all jf
 |x=>jf x
theorem zN{x:TV V.N}(h:jf x=true):TV.plain x=true:=by
 cases x<;>first|rfl|(simp[jf]at h;done)
theorem CM{x:TV V.N}(h:kE x=true):TV.plain x=true:=by
 cases x with
 |tup vs=>
  simp only[kE,VH]at h
  simp only[TV.plain]
  have:∀l:List (TV V.N),(∀x∈l,jf x=true)->TV.plainL l=true:=by
   intro l
   induction l with
   |nil=>intro _;rfl
   |cons y r ih=>intro h;simp only[TV.plainL,VE];exact⟨zN (h y Vy),ih λx hx=>h x (Vu _ hx)⟩
  exact this vs h
 |lf t x=>rfl
 |raw _=>rfl
 |rp a b c=>rfl
 |junk=>rfl
 |agg cs=>simp[kE,jf]at h
 |fn f a b=>simp[kE,jf]at h
 |bp a b=>simp[kE,jf]at h
 |vh a=>simp[kE,jf]at h
 |ep a b c d=>simp[kE,jf]at h
 |sv a b c d=>simp[kE,jf]at h
 |mp a=>simp[kE,jf]at h
 |np a b=>simp[kE,jf]at h
 |sd a=>simp[kE,jf]at h
theorem ml{l:du V.N}(h:l.t.flat=true){M M':Mem}{v:Value}(hv:di M v (aW V.sz V.enc l.t l.x)):di M' v (aW V.sz V.enc l.t l.x):=by
 obtain⟨t,x⟩:=l
 cases t with
 |int k=>simp only[aW]at hv⊢;cases hv;exact .v _
 |bool=>simp only[aW]at hv⊢;cases hv;exact .v _
 |str=>simp only[aW]at hv⊢;cases hv;exact .v _
 |st i=>simp[Ty.flat]at h
 |sl e=>simp[Ty.flat]at h
 |mp k v=>simp[Ty.flat]at h
 |er=>simp[Ty.flat]at h
 |op e=>simp[Ty.flat]at h
 |fnc=>simp[Ty.flat]at h
theorem wS{x:TV V.N}(h:jf x=true){ω:Nat->Nat}{E E':Env}{M M':Mem}{v:Value}(hv:aS E M v (ao V ω x)):aS E' M' v (ao V ω x):=by
 cases x with
 |lf t x=>
  simp only[jf,VH]at h
  simp only[ao]at hv⊢
  cases hv with
  |d hd=>
   refine .d ?_
   cases t with
   |st i=>
    simp only[aW]at hd⊢
    rw[V.enc_cells]at hd⊢
    cases hd with
    |agg cs _ hl hh=>
     refine .agg cs _ hl λk c y hc hy=> ?_
     rw[Vz]at hy
     cases hq:(V.cells i x)[k]? with
     |none=>rw[hq]at hy;cases hy
     |some l=>
      rw[hq]at hy;simp at hy;subst hy
      exact ml (h l (VI hq)) (hh k c _ hc (by rw[Vz,hq];rfl))
   |int k=>exact ml (l:=⟨.int k,x⟩) rfl hd
   |bool=>exact ml (l:=⟨.bool,x⟩) rfl hd
   |str=>exact ml (l:=⟨.str,x⟩) rfl hd
   |sl e=>simp[aQ,Ty.flat]at h
   |mp k v=>simp[aQ,Ty.flat]at h
   |er=>simp[aQ,Ty.flat]at h
   |op e=>simp[aQ,Ty.flat]at h
   |fnc=>simp[aQ,Ty.flat]at h
 |_=>simp[jf]at h
theorem I5{x:TV V.N}(h:kE x=true){ω:Nat->Nat}{E E':Env}{M M':Mem}{v:Value}(hv:aS E M v (ao V ω x)):aS E' M' v (ao V ω x):=by
 cases x with
 |tup vs=>
  simp only[kE,VH]at h
  simp only[ao]at hv⊢
  obtain⟨cs,rfl,h1,h2⟩:=hv.htup
  refine .tup cs _ h1 λi c y hc hy=> ?_
  rw[encL_map,Vz]at hy
  cases hq:vs[i]? with
  |none=>rw[hq]at hy;cases hy
  |some u=>
   rw[hq]at hy;simp at hy;subst hy
   exact wS (h u (VI hq)) (h2 i c _ hc (by rw[encL_map,Vz,hq];rfl))
 |lf t x=>exact wS (x:= .lf t x) (by simpa[kE]using h) hv
 |_=>simp[kE,jf]at h
def cd(own:List (Nat×Own))(a a0:H):Prop:=∀(E:Env) (M:Mem) (w:World) (v:Value),M.le (f7 w)->D0 E M w own->aS E M v a->aS E (f7 w) v a0
theorem cd.le{own:List (Nat×Own)}{a a0:H}(h:H.le a a0):cd own a a0:=λE M w v hM _ hv=>(h E M v hv).le hM
theorem cd.agg{own:List (Nat×Own)}{l l0:List H}(hl:l0.length=l.length)(h:∀(i:Nat) (a a0:H),l[i]?=some a->l0[i]?=some a0->cd own a a0):cd own (.agg l) (.agg l0):=λE M w v hM ho hv=>by
 obtain⟨cs,rfl,h1,h2⟩:=hv.hagg
 refine .agg cs l0 (by omega) λi c x hc hx=> ?_
 have hi:i<l.length:=by rw[<-hl];exact(Vv.1 hx).1
 exact h i _ x (Vw hi) hx E M w c hM ho (h2 i c _ hc (Vw hi))
theorem cd.vh{own:List (Nat×Own)}{n e sz:Nat}{rows:List (List D)}(h1:gt own n=some (.vec e sz rows)):cd own (.vh n rows.length) (.d (.sl sz rows)):=λE M w v hM ho hca=>by
 obtain⟨xs,g1,g2,g3,g4⟩:=ho.ok n _ h1
 refine .d ?_
 cases hca with
 |vh n len l cc a hE hle=>
  rcases g1.2 with⟨hnil,hz⟩|⟨g,cap,cur,hE',hbg,hg,hnc,hcm,hcs,htake⟩
  ·rw[hE]at hnil
   simp only[Value.slice.injEq]at hnil
   obtain⟨rfl,rfl,rfl⟩:=hnil
   have:rows=[]:=VY hz
   subst this
   exact .slnil sz
  ·rw[hE]at hE'
   simp only[Value.slice.injEq]at hE'
   obtain⟨rfl,rfl,rfl⟩:=hE'
   refine .sl g 0 _ _ sz rows (λk=>xs.getD k undef) rfl hnc g2 (λk hk=> ?_) λi j r x hr' hx=> ?_
   ·have hxk:k<xs.length:=by rw[g1.1];exact hk
    obtain⟨u,hu⟩:∃u,xs[k]?=some u:=⟨_,Vw hxk⟩
    have hq:w.cell? ⟨g,k,none⟩=some u:=by
     rw[cell_of_row w g k cur e (0,0) hg]
     have hu':=hu
     rw[<-htake,Wh,Y5 hk]at hu'
     simpa using hu'
    simp[f7,hq,hu]
   ·have hlr:=g2 r (VI hr')
    have hir:i<rows.length:=(Vv.1 hr').1
    have hj:j<sz:=by have:=(Vv.1 hx).1;omega
    have hmul:(i+1) *sz<=rows.length *sz:=V5 _ hir
    rw[Wt]at hmul
    have hxk:i *sz+j<xs.length:=by rw[g1.1];omega
    have:=g3 i j r xs[i *sz+j] x hr' hx (Vw hxk)
    have hg':xs.getD (i *sz+j) undef=xs[i *sz+j]:=by simp[hxk]
    rw[hg']
    exact this.mono hM
theorem cd.dvh{own:List (Nat×Own)}{n e sz:Nat}{rows:List (List DD)}{ds:List (List D)}(h1:gt own n=some (.dvec e sz rows))(hd:DD.toR rows=some ds):cd own (.vh n rows.length) (.d (.sl sz ds)):=λE M w v hM ho hca=>by
 have hok:=ho.ok n _ h1
 obtain⟨ad,cap,hE⟩:=hok.dlen
 have hv:=yw hca hE
 subst hv
 obtain⟨B,g1,g2,g3⟩:=hok
 exact .d (g1.frozen hM (λb _ o v hv=>hv) (xs:=[.sl sz ds]) (by simp[DD.toL,DD.toD,hd]) 0 _ _ rfl rfl)
def xf:TO V.N->Option (du V.N)
 | .vec _ e xs=>some ⟨.sl e,xs⟩
 | .dvec _ e ys=>some ⟨.sl e,ys⟩
 |_=>none
theorem mw{o:TO V.N}{l0:du V.N}(h:xf o=some l0):∃x:Own,(∀ω,bu V ω o=some x)/\∀(own:List (Nat×Own)) (n:Nat),gt own n=some x->cd own (.vh n (TO.len (some o))) (.d (aW V.sz V.enc l0.t l0.x)):=by
 unfold xf at h
 split at h
 ·rename_i te e xs
  cases h
  refine⟨_,λω=>rfl,λown n hn=> ?_⟩
  have:=cd.vh hn
  rw[VA]at this
  exact this
 ·rename_i te e ys
  cases h
  refine⟨_,λω=>rfl,λown n hn=> ?_⟩
  have:=cd.dvh hn (vo ys)
  rw[VA]at this
  simpa[TO.len,aW]using this
 ·cases h
theorem Ur{P:Program}{f:FuncId}{args0 args:List H}{r:H}{own:List (Nat×Own)}(h:i6 P f args0 [] r [])(hl:args.length=args0.length)
 (ha:∀(i:Nat) (a a0:H),args[i]?=some a->args0[i]?=some a0->cd own a a0)
 (hr:∀(E E':Env) (M M':Mem) (v:Value),aS E M v r->aS E' M' v r):Kx P f args own r own:=by
 refine⟨h.1,λE M w vs hgm hm ho hvs=> ?_⟩
 have hM:M.le (f7 w):=λb o v hv=>hm b o v hv
 have hrep:fm E (f7 w) vs args0:=by
  refine⟨hvs.1.trans hl,λi c x hc hx=> ?_⟩
  have hi:i<args.length:=by rw[hl];exact(Vv.1 hx).1
  have hca:=hvs.2 i c _ hc (Vw hi)
  exact ha i _ x (Vw hi) hx E M w c hM ho hca
 refine(h.2 E (f7 w) w vs (hgm.mono hM λ_ _ _=>rfl) (λb o v hv=>hv) ⟨λn o hn=>by simp[gt]at hn,λn m o o' b _ hn=>by simp[gt]at hn⟩ hrep).mono ?_
 rintro e w' ⟨v,E',M',rfl,hp⟩
 have hfr:∀b,b<w.heap.size->w'.heap[b]?=w.heap[b]?:=λb hb=>hp.frame b hb λ⟨n,o,hn,_⟩=>by simp[gt]at hn
 have hft:∀n o,gt own n=some o->∀b,o.foot w' (E n) b->o.foot w (E n) b:=λn o hn b hb=>((ho.ok n o hn).foot_keep (λb hb=>hfr b ((ho.ok n o hn).block hb).1) b).1 hb
 refine⟨v,E,M,rfl,{rep:=hr _ _ _ _ _ hp.rep,owns:=⟨λn o hn=> ?_,λn m o o' b hne hn hm hb hb'=>ho.apart n m o o' b hne hn hm (hft n o hn b hb) (hft m o' hm b hb')⟩,mle:=Mem.le_refl _,mem:=λb o v hv=>hp.mem b o v (hp.mle b o v (hm b o v hv)),mnew:=λb o v hv=> .inl hv,home:=λn o b hn hb=> .inl ⟨n,o,hn,hft n o hn b hb⟩,frame:=λk hk _=>hfr k hk,grows:=hp.grows,os:=hp.os,tape:=hp.tape,output:=hp.output,env:=λ_ _=>rfl},λ_ _=>rfl⟩
 have hok:=ho.ok n o hn
 refine hok.keep rfl (λb hb=>hfr b (hok.block hb).1) (λ_ _=>rfl) (Mem.le_refl _) λb hb=>(hok.block hb).2
def KB(S:TS V.N):List (Ty V.ι)->List (TV V.N)->Option (List (Nat×TO V.N)×List (du V.N))
 |[],[]=>some ([],[])
 | .sl _::ts, .vh n::xs=>match S.own? n with
  |some o=>match xf o with
   |some l0=>match KB S ts xs with
    |some (l,ls)=>some ((n,o)::l,l0::ls)
    |none=>none
   |none=>none
  |_=>none
 |t::ts,x::xs=>match oy V false t x with
  |some l0=>match KB S ts xs with
   |some (l,ls)=>some (l,l0::ls)
   |none=>none
  |none=>none
 |_,_=>none
def Px:List (TV V.N)->Bool
 |[]=>false
 | .vh _::_=>true
 |_::r=>Px r
def Rh(S:TS V.N):Pt V.ι->TV V.N->Option (List (Nat×TO V.N)×List (du V.N))
 | .dat (.sl e), .vh n=>match S.own? n with
  |some o=>match xf o with
   |some l0=>if l0.t= .sl e then some ([(n,o)],[l0])else none
   |none=>none
  |_=>none
 | .dat (.st i), .agg vs=>match Px vs with
  |true=>match KB S (V.tys i) vs with
   |some (p::l,ls)=>match V.ofCells i ls with
    |some y=>some (p::l,[⟨.st i,y⟩])
    |none=>none
   |_=>none
  |false=>match mt1 V [] (.dat (.st i)) (.agg vs)with
   |some (_,ls)=>some ([],ls)
   |none=>none
 | .dat t,x=>match mt1 V [] (.dat t) x with
  |some (_,ls)=>some ([],ls)
  |none=>none
 | .fn f [] [], .fn f' [] []=>if f=f' then some ([],[])else none
 |_,_=>none
def yU(S:TS V.N):List (Pt V.ι)->List (TV V.N)->Option (List (Nat×TO V.N)×List (du V.N))
 |[],[]=>some ([],[])
 |p::ps,x::xs=>match Rh S p x with
  |some (l,ls)=>match yU S ps xs with
   |some (l',ls')=>some (l++l',ls++ls')
   |none=>none
  |none=>none
 |_,_=>none
def aV(P:Program)(sig:Sig V)(F:HL V.N sig.tys->Option (HL V.N sig.rcut.tys))(A:Type)(args:List (TV V.N))(S:TS V.N)(k:TE V.N->Option A):Option A:=
 match yU S sig.params args with
 |some (lent,ls)=>match LS sig.tys ls with
  |some v=>F v>>=λr=>match rh P sig r with
   |some x=>match lent with
    |[]=>match TV.plain x with
     |true=>k {val:=x}
     |false=>none
    |p::l=>match kE x with
     |true=>k {val:=x,acc:=(p::l).map (·.1),upd:=(p::l)++(p::l).map λq=>(q.1, .gone (TO.len (some q.2)))}
     |false=>none
   |none=>none
  |none=>none
 |none=>none
theorem F_{σ σ':cQ}{t:Ty V.ι}{x:TV V.N}{ls:List (du V.N)}(h:mt1 V σ (.dat t) x=some (σ',ls)):σ'=σ:=by
 cases x with
 |lf t' y=>
  simp only[mt1]at h
  have:=(aq h).2
  simp only[Vx,VW]at this
  exact this.1.symm
 |raw v=>
  unfold mt1 at h
  split at h<;>first
   |(simp only[Vx,VW]at h;exact h.1.symm)
   |(cases h;done)
   |contradiction
 |agg cs=>
  unfold mt1 at h
  split at h<;>first
   |(split at h
     ·simp only[Vx,VW]at h;exact h.1.symm
     ·cases h)
   |(cases h;done)
   |contradiction
 |_=>simp[mt1]at h
theorem cd.pre{own:List (Nat×Own)}{a b c:H}(h:H.le a b)(k:cd own b c):cd own a c:=λE M w v hM ho hv=>k E M w v hM ho (h E M v hv)
theorem cd.post{own:List (Nat×Own)}{a b c:H}(h:cd own a b)(k:H.le b c):cd own a c:=λE M w v hM ho hv=>k E _ v (h E M w v hM ho hv)
def L3(own:List (Nat×Own))(l:List (Nat×TO V.N)):Prop:=∀n o,(n,o)∈l->∀x,(∀ω,bu V ω o=some x)->gt own n=some x
theorem na{S:TS V.N}:∀{ts:List (Ty V.ι)} {xs:List (TV V.N)} {l:List (Nat×TO V.N)} {ls:List (du V.N)},KB S ts xs=some (l,ls)->
 xs.length=ls.length/\(∀n o,(n,o)∈l->S.own? n=some o/\∃l0,xf o=some l0)/\
  ∀own:List (Nat×Own),L3 own l->∀(i:Nat) (x:TV V.N) (l0:du V.N),xs[i]?=some x->ls[i]?=some l0->cd own (ao V S.len x) (.d (aW V.sz V.enc l0.t l0.x))
 |[],[],l,ls,h=>by
  simp[KB]at h;obtain⟨rfl,rfl⟩:=h
  exact⟨rfl,λn o hm=>by simp at hm,λown _ i x l0 hx=>by simp at hx⟩
 |[],_::_,l,ls,h=>by simp[KB]at h
 |_::_,[],l,ls,h=>by unfold KB at h;split at h<;>first|(cases h;done)|contradiction
 |t::ts,x::xs,l,ls,h=>by
  unfold KB at h
  split at h
  ·rename_i heq _;cases heq
  ·rename_i e ts' n xs' heq1 heq2
   simp only[W8]at heq1 heq2
   obtain⟨rfl,rfl⟩:=heq1
   obtain⟨rfl,rfl⟩:=heq2
   split at h
   ·rename_i o hn
    split at h
    ·rename_i l00 hl0
     split at h
     ·rename_i l' ls' h2
      simp at h;obtain⟨rfl,rfl⟩:=h
      obtain⟨b1,b2,b3⟩:=na h2
      refine⟨by simp[b1],λm o hm=> ?_,λown hown i y l0 hy hl=> ?_⟩
      ·rcases VG.1 hm with he|hm
       ·simp only[VW]at he
        obtain⟨rfl,rfl⟩:=he
        exact⟨hn,_,hl0⟩
       ·exact b2 m o hm
      ·cases i with
       |zero=>
        simp at hy hl;subst hy;subst hl
        obtain⟨x,x1,x2⟩:=mw hl0
        have:=x2 own n (hown n o Vy x x1)
        simp only[ao]
        unfold TS.len
        rw[hn];exact this
       |succ i=>exact b3 own (λm a hm=>hown m a (Vu _ hm)) i y l0 (by simpa using hy) (by simpa using hl)
     ·cases h
    ·cases h
   ·cases h
  ·rename_i t' ts' x' xs' _ heq1 heq2
   simp only[W8]at heq1 heq2
   obtain⟨rfl,rfl⟩:=heq1
   obtain⟨rfl,rfl⟩:=heq2
   split at h
   ·rename_i l0 hl
    split at h
    ·rename_i l' ls' h2
     simp at h;obtain⟨rfl,rfl⟩:=h
     obtain⟨b1,b2,b3⟩:=na h2
     refine⟨by simp[b1],b2,λown hown i y l1 hy hl1=> ?_⟩
     cases i with
     |zero=>
      simp at hy hl1;subst hy;subst hl1
      have hls:cT V false [t] [x]=some [l0]:=by simp[cT,hl]
      obtain⟨ds,e1,e2,_⟩:=cx (ω:=S.len) hls
      simp only[encL]at e1
      obtain⟨d,hd⟩:∃d,ds=[d]:=by
       match ds,e1 with
       |[d],_=>exact⟨d,rfl⟩
       |[],e1=>simp at e1
       |_::_::_,e1=>simp at e1
      subst hd
      simp only[VC,V8,W8,and_true]at e1
      rw[e1]
      obtain⟨d0,g1,g2⟩:=e2.get 0 (aW V.sz V.enc l0.t l0.x) rfl
      simp at g1;subst g1
      refine cd.le λE M a hr=> ?_
      cases hr with
      |d q=>exact .d (g2 M a q)
     |succ i=>exact b3 own hown i y l1 (by simpa using hy) (by simpa using hl1)
    ·cases h
   ·cases h
  ·cases h
theorem Cc{S:TS V.N}{p:Pt V.ι}{x:TV V.N}{l:List (Nat×TO V.N)}{ls:List (du V.N)}(h:Rh S p x=some (l,ls)):
 (∃x0,(∀rest,bd1 V p (ls++rest)=some (x0,rest))/\∀ω0:Nat->Nat,(l=[]->H.le (ao V S.len x) (ao V ω0 x0))/\∀own,L3 own l->cd own (ao V S.len x) (ao V ω0 x0))/\
   ∀n o,(n,o)∈l->S.own? n=some o/\∃l0,xf o=some l0:=by
 unfold Rh at h
 split at h
 ·rename_i e n
  split at h
  ·rename_i o hn
   split at h
   ·rename_i l0 hl0
    have h':=aq h;clear h
    obtain⟨he,h⟩:=h'
    simp at h;obtain⟨rfl,rfl⟩:=h
    refine⟨⟨.lf l0.t l0.x,λrest=>rfl,λω0=>⟨λhl=>by simp at hl,λown hown=> ?_⟩⟩,λm o' hm=> ?_⟩
    ·obtain⟨x,x1,x2⟩:=mw hl0
     have:=x2 own n (hown n o Vy x x1)
     simp only[ao]
     unfold TS.len
     rw[hn];exact this
    ·simp at hm
     obtain⟨rfl,rfl⟩:=hm
     exact⟨hn,l0,hl0⟩
   ·cases h
  ·cases h
 ·rename_i i vs
  split at h
  ·split at h
   ·rename_i p0 l0 ls0 hC
    split at h
    ·rename_i y hy
     simp at h;obtain⟨rfl,rfl⟩:=h
     obtain⟨b1,b2,b3⟩:=na hC
     refine⟨⟨.lf (.st i) y,λrest=>rfl,λω0=>⟨λhl=>by simp at hl,λown hown=> ?_⟩⟩,b2⟩
     have hc:=V.of_cells i ls0 y hy
     simp only[ao,aW]
     refine cd.pre (mA _) (cd.post (cd.agg (l0:=ls0.map λl=> .d (aW V.sz V.enc l.t l.x)) (by rw[VA,aH];exact b1.symm) λi a a0 ha ha0=> ?_) ?_)
     ·rw[encL_map,Vz,VF]at ha
      rw[Vz,VF]at ha0
      obtain⟨u,hu,rfl⟩:=ha
      obtain⟨l1,hl1,rfl⟩:=ha0
      exact b3 own hown i u l1 hu hl1
     ·have e1:V.enc i y=ls0.map λl=>aW V.sz V.enc l.t l.x:=by rw[V.enc_cells,hc]
      have:=uU ((ls0.map λl=>aW V.sz V.enc l.t l.x).map H.d)
      rw[c_,ft]at this
      rw[e1]
      rw[V1]at this
      exact this
    ·cases h
   ·cases h
  ·split at h
   ·rename_i σ ls' h1
    simp at h;obtain⟨rfl,rfl⟩:=h
    obtain⟨_,_,_,x0,a1,a2⟩:=qB h1
    have hσ:=F_ h1
    subst hσ
    have hle:∀ω0:Nat->Nat,H.le (ao V S.len (.agg vs)) (ao V ω0 x0):=λω0 E M v hv=>a2 [] [] E E M S.len ω0 v (Sub.refl _) rfl ⟨λc n hc=>by simp[gt]at hc,λc n hc=>by simp at hc⟩ hv
    exact⟨⟨x0,a1,λω0=>⟨λ_=>hle ω0,λown _=>cd.le (hle ω0)⟩⟩,λn o hm=>by simp at hm⟩
   ·cases h
 ·rename_i t x' hne hne2
  split at h
  ·rename_i σ ls' h1
   simp at h;obtain⟨rfl,rfl⟩:=h
   obtain⟨_,_,_,x0,a1,a2⟩:=qB h1
   have hσ:=F_ h1
   subst hσ
   have hle:∀ω0:Nat->Nat,H.le (ao V S.len x) (ao V ω0 x0):=λω0 E M v hv=>a2 [] [] E E M S.len ω0 v (Sub.refl _) rfl ⟨λc n hc=>by simp[gt]at hc,λc n hc=>by simp at hc⟩ hv
   exact⟨⟨x0,a1,λω0=>⟨λ_=>hle ω0,λown _=>cd.le (hle ω0)⟩⟩,λn o hm=>by simp at hm⟩
  ·cases h
 ·rename_i f f'
  have h':=aq h;clear h
  obtain⟨he,h⟩:=h'
  subst he
  simp at h;obtain⟨rfl,rfl⟩:=h
  have hle:∀ω0:Nat->Nat,H.le (ao V S.len (.fn f [] [])) (ao V ω0 (.fn f [] []:TV V.N)):=λω0=>by simp only[ao,encL];exact H.le.refl _
  exact⟨⟨.fn f [] [],λrest=>rfl,λω0=>⟨λ_=>hle ω0,λown _=>cd.le (hle ω0)⟩⟩,λn o hm=>by simp at hm⟩
 ·cases h
theorem px{S:TS V.N}:∀{ps:List (Pt V.ι)} {xs:List (TV V.N)} {l:List (Nat×TO V.N)} {ls:List (du V.N)},yU S ps xs=some (l,ls)->
 ∃xs0:List (TV V.N),xs0.length=xs.length/\(∀rest,bdL V ps (ls++rest)=some (xs0,rest))/\(∀(i:Nat) (x x0:TV V.N),xs[i]?=some x->xs0[i]?=some x0->
  ∀ω0:Nat->Nat,(l=[]->H.le (ao V S.len x) (ao V ω0 x0))/\∀own,L3 own l->cd own (ao V S.len x) (ao V ω0 x0))/\
  ∀n o,(n,o)∈l->S.own? n=some o/\∃l0,xf o=some l0
 |[],[],l,ls,h=>by
  simp[yU]at h;obtain⟨rfl,rfl⟩:=h
  exact⟨[],rfl,λrest=>rfl,λi x x0 hx=>by simp at hx,λn o hm=>by simp at hm⟩
 |[],_::_,l,ls,h=>by simp[yU]at h
 |_::_,[],l,ls,h=>by simp[yU]at h
 |p::ps,x::xs,l,ls,h=>by
  simp only[yU]at h
  split at h
  ·rename_i l1 ls1 h1
   split at h
   ·rename_i l2 ls2 h2
    simp at h;obtain⟨rfl,rfl⟩:=h
    obtain⟨⟨x0,a1,a2⟩,a3⟩:=Cc h1
    obtain⟨xs0,b1,b2,b3,b4⟩:=px h2
    refine⟨x0::xs0,by simp[b1],λrest=>by simp only[bdL,Wc,a1,b2],λi y y0 hy hy0 ω0=> ?_,λn o hm=> ?_⟩
    ·cases i with
     |zero=>
      simp at hy hy0;subst hy;subst hy0
      exact⟨λhl=>(a2 ω0).1 (XE.1 hl).1,λown hown=>(a2 ω0).2 own λm a hm=>hown m a (WQ _ hm)⟩
     |succ i=>
      have:=b3 i y y0 (by simpa using hy) (by simpa using hy0) ω0
      exact⟨λhl=>this.1 (XE.1 hl).2,λown hown=>this.2 own λm a hm=>hown m a (W5 _ hm)⟩
    ·rcases VJ.1 hm with hm|hm
     ·exact a3 n o hm
     ·exact b4 n o hm
   ·cases h
  ·cases h
theorem oF{own:List (Nat×Own)}:∀{l:List (Nat×Own)},(∀p∈l,∃o,gt own p.1=some o)->eo own l=[]
 |[],_=>rfl
 |(n,o)::r,h=>by
  obtain⟨o',ho⟩:=h (n,o) Vy
  simp only at ho
  simp only[eo,ho]
  exact oF λp hp=>h p (Vu _ hp)
theorem ak{P:Program}{fid:Nat}{sig:Sig V}{F:HL V.N sig.tys->Option (HL V.N sig.rcut.tys)}(hF:aA P fid sig F)(ho:sig.objs=[])(hk0:sig.keep=[]){A:Type}{args:List (TV V.N)}{S:TS V.N}{dst:Option Tmp}
 {k:TE V.N->Option A}{r:A}(h:aV P sig F A args S k=some r):
 ∃te,k te=some r/\good S te/\yP P fid (encL V S.len args) (aI V S).own? λe'=>ELe true e' (gJ (S.app dst te).len te):=by
 unfold aV at h
 split at h
 ·rename_i lent ls hargs
  split at h
  ·rename_i v hv
   obtain⟨y,hy,h⟩:=bK h
   split at h
   ·rename_i x hx
    have hc:=hF v y x hy hx
    have hkept:jx sig y=[]:=by
     unfold jx
     rw[hk0,List.filter_eq_nil_iff]
     intro p _;simp
    rw[hkept]at hc
    obtain⟨xs0,b1,b2,b3,b4⟩:=px hargs
    have hls:=rT hv
    have hst:a_ sig v=(xs0,[]):=by
     unfold a_
     rw[hls]
     have:=b2 []
     rw[Wo]at this
     rw[this,ho]
     rfl
    have hown0:(ay sig v).own=[]:=by unfold ay;rw[hst]
    rw[hst,hown0]at hc
    simp only[bB,List.filterMap_nil]at hc
    generalize (ay sig v).len=ω0 at hc
    cases lent with
    |nil=>
     simp only at h
     split at h
     ·rename_i hpl
      refine⟨_,h,gB S x [],?_⟩
      have hw:=hc.weak (args':=encL V S.len args) (by rw[aH,aH];exact b1.symm) λi a a0 ha ha0=>by
       rw[encL_map,Vz,VF]at ha ha0
       obtain⟨u,hu,rfl⟩:=ha
       obtain⟨u0,hu0,rfl⟩:=ha0
       exact(b3 i u u0 hu hu0 ω0).1 rfl
      have hplH:H.plain (ao V (bZ V sig.rcut y).len x)=true:=by
       have:∀z:H,(∀n,H.has n z=false)->H.plain z=true:=by
        intro z
        refine H.rec (motive_1:=λz=>(∀n,H.has n z=false)->H.plain z=true) (motive_2:=λl=>(∀n,H.hasL n l=false)->H.plainL l=true) ?_ ?_ ?_ ?_ ?_ ?_ ?_ ?_ ?_ ?_ ?_ ?_ ?_ ?_ z
        ·intro _ _;rfl
        ·intro _;rfl
        ·intro m o hn;have:=hn m;simp[H.has]at this
        ·intro m o hn;have:=hn m;simp[H.has]at this
        ·intro m s i o hn;have:=hn m;simp[H.has]at this
        ·intro m s i o hn;have:=hn m;simp[H.has]at this
        ·intro m hn;have:=hn m;simp[H.has]at this
        ·intro m b hn;have:=hn m;simp[H.has]at this
        ·intro m hn;have:=hn m;simp[H.has]at this
        ·intro cs ih hn;simp only[H.plain];exact ih λn=>by have:=hn n;simpa[H.has]using this
        ·intro cs ih hn;simp only[H.plain];exact ih λn=>by have:=hn n;simpa[H.has]using this
        ·intro f a b ih1 ih2 hn
         simp only[H.plain,VE]
         exact⟨ih1 λn=>by have:=hn n;simp only[H.has,We]at this;exact this.1,ih2 λn=>by have:=hn n;simp only[H.has,We]at this;exact this.2⟩
        ·intro _;rfl
        ·intro x r ih1 ih2 hn
         simp only[H.plainL,VE]
         exact⟨ih1 λn=>by have:=hn n;simp only[H.hasL,We]at this;exact this.1,ih2 λn=>by have:=hn n;simp only[H.hasL,We]at this;exact this.2⟩
       exact this _ λn=>by rw[iq];exact plain_has hpl n
      refine B_ hw hplH ?_
      exact qh (dst:=dst) (l:=[]) (xT hpl _ _)
     ·cases h
    |cons p l=>
     simp only at h
     split at h
     ·rename_i hfl
      generalize hL:p::l=L at h hargs b3 b4
      have hpl:=CM hfl
      refine⟨_,h,λm o hm=> ?_,?_⟩
      ·right
       simp only[ed]at hm
       cases hq:gt L m with
       |some o'=>
        rw[hq]at hm;simp at hm;subst hm
        obtain⟨h2,_⟩:=b4 m o' (bn hq)
        unfold TS.len;rw[h2]
       |none=>
        rw[hq]at hm
        have hm':=bn hm
        obtain⟨q,hq1,hq2⟩:=VQ.1 hm'
        simp only[VW]at hq2
        obtain⟨rfl,rfl⟩:=hq2
        obtain⟨h2,_⟩:=b4 q.1 q.2 hq1
        unfold TS.len;rw[h2];rfl
      ·let own:List (Nat×Own):=L.filterMap λq=>(bu V S.len q.2).map λo=>(q.1,o)
       have hmap:∀l':List (Nat×TO V.N),(∀n o,(n,o)∈l'->S.own? n=some o/\∃l0,xf o=some l0)->∀ω:Nat->Nat,
        l'.map (λq=>(q.1,bu V ω q.2))=(l'.filterMap λq=>(bu V S.len q.2).map λo=>(q.1,o)).map (λq=>(q.1,some q.2))/\
        (l'.map λq:Nat×TO V.N=>(q.1,TO.gone (N:=V.N) (TO.len (some q.2)))).map (λq=>(q.1,bu V ω q.2))=(l'.filterMap λq=>(bu V S.len q.2).map λo=>(q.1,o)).map (λq=>(q.1,none))/\
        l'.map (·.1)=(l'.filterMap λq=>(bu V S.len q.2).map λo=>(q.1,o)).map (·.1):=by
        intro l'
        induction l' with
        |nil=>intro _ ω;exact⟨rfl,rfl,rfl⟩
        |cons q r ih=>
         intro hq ω
         obtain⟨n,o⟩:=q
         obtain⟨h2,l00,hl0⟩:=hq n o Vy
         obtain⟨i1,i2,i3⟩:=ih (λn o hm=>hq n o (Vu _ hm)) ω
         obtain⟨x0,e0,_⟩:=mw hl0
         simp only[WV,e0,VV,VC]
         rw[i1,i2,i3]
         exact⟨rfl,rfl,rfl⟩
       have hgt:∀n x,gt own n=some x->∃o,(n,o)∈L/\S.own? n=some o/\bu V S.len o=some x:=by
        intro n x hn
        obtain⟨z,h1,h2⟩:=cL hn
        exact⟨z,h1,(b4 n z h1).1,h2⟩
       have hgt':∀n o,(n,o)∈L->∀x,(∀ω,bu V ω o=some x)->gt own n=some x:=by
        intro n o hn x hx
        have hkey:n∈own.map (·.1):=by rw[<-(hmap L b4 S.len).2.2];exact VO (f:=(·.1)) hn
        obtain⟨x',hxx⟩:=eD hkey
        obtain⟨o',h1,h2,h3⟩:=hgt n x' hxx
        rw[(b4 n o hn).1]at h2;cases h2
        rw[hx]at h3;cases h3
        exact hxx
       have hat:=Ur (args:=encL V S.len args) (own:=own) hc (by rw[aH,aH];exact b1.symm) (λi a a0 ha ha0=>by
        rw[encL_map,Vz,VF]at ha ha0
        obtain⟨u,hu,rfl⟩:=ha
        obtain⟨u0,hu0,rfl⟩:=ha0
        exact(b3 i u u0 hu hu0 ω0).2 own hgt') (λE E' M M' v hv=>I5 hfl hv)
       refine⟨own,_,own,hat,λq hq=> ?_,?_⟩
       ·obtain⟨z,hz1,hz2⟩:=Wu.1 hq
        obtain⟨h2,l00,hl0⟩:=b4 z.1 z.2 hz1
        obtain⟨x0,e0,_⟩:=mw hl0
        rw[e0]at hz2
        simp only[VV,Vx]at hz2
        subst hz2
        rw[aT,h2];exact e0 _
       ·refine ca ?_ ?_ ?_ ?_
        ·exact xT hpl _ _
        ·simp only[dQ]
         exact oF λp hp=>by
          obtain⟨o,hoo⟩:=eD (VO (f:=(·.1)) hp)
          exact⟨o,hoo⟩
        ·simp only[dQ,Wk]
         obtain⟨i1,i2,_⟩:=hmap L b4 (S.app dst {val:=x,acc:=L.map (·.1),upd:=L++L.map λq=>(q.1, .gone (TO.len (some q.2)))}).len
         rw[i1,i2]
        ·simp only[dQ]
         exact(hmap L b4 S.len).2.2.symm
     ·cases h
   ·cases h
  ·cases h
 ·cases h
end
end Go.Tx
end
section
namespace Go.Tx
open Go.Awp
variable [Inhabited GMem]
def ah(f:Func):Code:=match f.body with
 |some c=>c
 |none=> .skip
def aR:Code->List Code
 | .seq a b=>aR a++aR b
 | .block _ x=>aR x
 | .cond _ a b=>aR a++aR b
 | .loop b=>[b]
 | .scope b=>aR b
 |_=>[]
def aj(c:Code)(i:Nat):Code:=match(aR c)[i]? with
 |some b=>b
 |none=> .skip
def lE:Code->List Code
 | .seq a b=>lE a++lE b
 | .block _ x=>lE x
 | .cond _ a b=>lE a++lE b
 | .scope b=>b::lE b
 |_=>[]
def fR(p:Code->Prop):List Code->Prop
 |[]=>True
 |b::r=>p b/\fR p r
theorem eM{p:Code->Prop}:∀{l m:List Code},fR p (l++m)->fR p l/\fR p m
 |[],_,h=>⟨trivial,h⟩
 |_::_,_,h=>⟨⟨h.1,(eM h.2).1⟩,(eM h.2).2⟩
theorem bw{a b:Prop}(h:a=b)(x:a):b:=h▸x
section
variable {V:m_}
def bt(C:Ctx)(X:Xc V)(b:Code):Prop:=∀la,X.loops (cC b)=some la->aD C b la
def OB(C:Ctx)(X:Xc V)(x:Code):Prop:=∀l la,X.jumps (cC x)=some (l,la)->Ky C x l la
theorem Jf{C:Ctx}{X:Xc V}:∀{c:Code},fR (bt C X) (aR c)->fR (OB C X) (lE c)->LOk C X c:=by
 intro c
 induction c with
 |seq a b iha ihb=>intro h g;exact⟨iha (eM h).1 (eM g).1,ihb (eM h).2 (eM g).2⟩
 |block id x ih=>intro h g;exact ih h g
 |scope x ih=>intro h g;exact⟨ih h g.2,g.1⟩
 |cond c a b iha ihb=>intro h g;exact⟨iha (eM h).1 (eM g).1,ihb (eM h).2 (eM g).2⟩
 |loop b ih=>intro h g;exact h.1
 |_=>intro _ _;trivial
theorem D_{p:Code->Prop}(h:∀b,p b):∀l:List Code,fR p l
 |[]=>trivial
 |b::r=>⟨h b,D_ h r⟩
theorem bo{C:Ctx}{X:Xc V}{c:Code}(h:fR (bt C X) (aR c))(hj:∀k,X.jumps k=none:=by intro k;rfl):LOk C X c:=
 Jf h (D_ (λx l la e=>by rw[hj]at e;cases e) _)
theorem dS{C:Ctx}{X:Xc V}{b:Code}{la0:yQ V X.sh}(e:X.loops (cC b)=some la0)(h:aD C b la0):bt C X b:=λla hl=>by
 rw[e]at hl
 cases hl
 exact h
end
end Go.Tx
end
section
namespace Go.Tx
open Go.Awp
variable [Inhabited GMem]
section
variable {ι:Type} {N:ι->Type}
mutual
def TV.ren(f:Nat->Nat):TV N->TV N
 | .bp n o=> .bp (f n) o
 | .vh n=> .vh (f n)
 | .ep n s i o=> .ep (f n) s i o
 | .sv n s i o=> .sv (f n) s i o
 | .mp n=> .mp (f n)
 | .np n b=> .np (f n) b
 | .sd n=> .sd (f n)
 | .agg cs=> .agg (TV.renL f cs)
 | .tup vs=> .tup (TV.renL f vs)
 | .fn g a b=> .fn g (TV.renL f a) (TV.renL f b)
 | .lf t x=> .lf t x
 | .raw v=> .raw v
 | .rp t x off=> .rp t x off
 | .junk=> .junk
def TV.renL(f:Nat->Nat):List (TV N)->List (TV N)
 |[]=>[]
 |x::r=>TV.ren f x::TV.renL f r
end
def TO.ren(f:Nat->Nat):TO N->TO N
 | .box o cells=> .box o (TV.renL f cells)
 | .bst i x=> .bst i x
 | .vec te e xs=> .vec te e xs
 | .dvec te e xs=> .dvec te e xs
 | .pvec te e xs=> .pvec te e xs
 | .map k v es=> .map k v es
 | .iter s p=> .iter s p
 | .miter m k v es rest cur=> .miter (f m) k v es rest cur
 | .gone l=> .gone l
mutual
def TV.allN(p:Nat->Bool):TV N->Bool
 | .bp n _=>p n
 | .vh n=>p n
 | .ep n _ _ _=>p n
 | .sv n _ _ _=>p n
 | .mp n=>p n
 | .np n _=>p n
 | .sd n=>p n
 | .agg cs=>TV.allNL p cs
 | .tup vs=>TV.allNL p vs
 | .fn _ a b=>TV.allNL p a&&TV.allNL p b
 | .lf .. =>true
 | .raw _=>true
 | .rp .. =>true
 | .junk=>true
def TV.allNL(p:Nat->Bool):List (TV N)->Bool
 |[]=>true
 |x::r=>TV.allN p x&&TV.allNL p r
end
def TO.allN(p:Nat->Bool):TO N->Bool
 | .box _ cells=>TV.allNL p cells
 | .bst .. =>true
 | .vec .. =>true
 | .dvec .. =>true
 | .pvec .. =>true
 | .map .. =>true
 | .iter .. =>true
 | .miter m _ _ _ _ _=>p m
 | .gone _=>false
end
section
variable {V:m_}
mutual
theorem TV.allN_has{p:Nat->Bool}{n:Nat}:∀{x:TV V.N},TV.allN p x=true->TV.has n x=true->p n=true
 | .bp m o,h,hn=>by simp[TV.has]at hn;subst hn;simpa[TV.allN]using h
 | .vh m,h,hn=>by simp[TV.has]at hn;subst hn;simpa[TV.allN]using h
 | .ep m s i o,h,hn=>by simp[TV.has]at hn;subst hn;simpa[TV.allN]using h
 | .sv m s i o,h,hn=>by simp[TV.has]at hn;subst hn;simpa[TV.allN]using h
 | .mp m,h,hn=>by simp[TV.has]at hn;subst hn;simpa[TV.allN]using h
 | .np m b,h,hn=>by simp[TV.has]at hn;subst hn;simpa[TV.allN]using h
 | .sd m,h,hn=>by simp[TV.has]at hn;subst hn;simpa[TV.allN]using h
 | .agg cs,h,hn=>by simp only[TV.allN]at h;simp only[TV.has]at hn;exact TV.allNL_has h hn
 | .tup cs,h,hn=>by simp only[TV.allN]at h;simp only[TV.has]at hn;exact TV.allNL_has h hn
 | .fn f a b,h,hn=>by
  simp only[TV.allN,VE]at h
  simp only[TV.has,V0]at hn
  rcases hn with hn|hn
  ·exact TV.allNL_has h.1 hn
  ·exact TV.allNL_has h.2 hn
 | .lf ..,h,hn=>by simp[TV.has]at hn
 | .raw _,h,hn=>by simp[TV.has]at hn
 | .rp ..,h,hn=>by simp[TV.has]at hn
 | .junk,h,hn=>by simp[TV.has]at hn
theorem TV.allNL_has{p:Nat->Bool}{n:Nat}:∀{l:List (TV V.N)},TV.allNL p l=true->TV.hasL n l=true->p n=true
 |[],h,hn=>by simp[TV.hasL]at hn
 |x::r,h,hn=>by
  simp only[TV.allNL,VE]at h
  simp only[TV.hasL,V0]at hn
  rcases hn with hn|hn
  ·exact TV.allN_has h.1 hn
  ·exact TV.allNL_has h.2 hn
end
theorem TO.allN_has{p:Nat->Bool}{n:Nat}{o:TO V.N}(h:TO.allN p o=true)(hn:TO.has n o=true):p n=true:=by
 cases o with
 |box oty cells=>exact TV.allNL_has h hn
 |bst i x=>simp[TO.has]at hn
 |vec te e xs=>simp[TO.has]at hn
 |dvec te e xs=>simp[TO.has]at hn
 |pvec te e xs=>simp[TO.has]at hn
 |map k v es=>simp[TO.has]at hn
 |iter s p=>simp[TO.has]at hn
 |miter m k v es rest cur=>simp[TO.has]at hn;subst hn;exact h
 |gone l=>simp[TO.has]at hn
mutual
theorem H.allN_of{p:Nat->Bool}:∀{x:H},(∀n,H.has n x=true->p n=true)->H.allN p x=true
 | .bp m o,h=>by simp only[H.allN];exact h m (by simp[H.has])
 | .vh m l,h=>by simp only[H.allN];exact h m (by simp[H.has])
 | .ep m s i o,h=>by simp only[H.allN];exact h m (by simp[H.has])
 | .sv m s i o,h=>by simp only[H.allN];exact h m (by simp[H.has])
 | .mp m,h=>by simp only[H.allN];exact h m (by simp[H.has])
 | .np m b,h=>by simp only[H.allN];exact h m (by simp[H.has])
 | .sd m,h=>by simp only[H.allN];exact h m (by simp[H.has])
 | .agg cs,h=>by simp only[H.allN];exact H.allNL_of λn hn=>h n (by simpa[H.has]using hn)
 | .tup cs,h=>by simp only[H.allN];exact H.allNL_of λn hn=>h n (by simpa[H.has]using hn)
 | .fn f a b,h=>by
  simp only[H.allN,VE]
  exact⟨H.allNL_of λn hn=>h n (by simp[H.has,hn]),H.allNL_of λn hn=>h n (by simp[H.has,hn])⟩
 | .d _,h=>by simp[H.allN]
 | .junk,h=>by simp[H.allN]
theorem H.allNL_of{p:Nat->Bool}:∀{l:List H},(∀n,H.hasL n l=true->p n=true)->H.allNL p l=true
 |[],h=>by simp[H.allNL]
 |x::r,h=>by
  simp only[H.allNL,VE]
  exact⟨H.allN_of λn hn=>h n (by simp[H.hasL,hn]),H.allNL_of λn hn=>h n (by simp[H.hasL,hn])⟩
end
theorem AK(f:Nat->Nat):∀l:List H,gH (H.renL f l)=gH l
 |[]=>rfl
 |x::r=>by
  have ih:=AK f r
  cases x<;>simp[H.renL,H.ren,gH,ih]
theorem F6(f:Nat->Nat)(l:List H):H.ren f (c_ l)=c_ (H.renL f l):=by
 unfold c_
 rw[AK]
 split<;>simp[H.ren]
theorem CF(f:Nat->Nat)(v:Value):H.ren f (bN v)=bN v:=by cases v<;>simp[bN,H.ren]
mutual
theorem uE{f:Nat->Nat}{ω ω':Nat->Nat}:∀x:TV V.N,(∀n,TV.has n x=true->ω' (f n)=ω n)->ao V ω' (TV.ren f x)=H.ren f (ao V ω x)
 | .bp m o,h=>by simp[TV.ren,ao,H.ren]
 | .vh m,h=>by simp[TV.ren,ao,H.ren,h m (by simp[TV.has])]
 | .ep m s i o,h=>by simp[TV.ren,ao,H.ren]
 | .sv m s i o,h=>by simp[TV.ren,ao,H.ren]
 | .mp m,h=>by simp[TV.ren,ao,H.ren]
 | .np m b,h=>by simp[TV.ren,ao,H.ren]
 | .sd m,h=>by simp[TV.ren,ao,H.ren]
 | .agg cs,h=>by simp only[TV.ren,ao,F6];rw[encL_ren cs λn hn=>h n (by simpa[TV.has]using hn)]
 | .tup cs,h=>by simp only[TV.ren,ao,H.ren];rw[encL_ren cs λn hn=>h n (by simpa[TV.has]using hn)]
 | .fn g a b,h=>by
  simp only[TV.ren,ao,H.ren]
  rw[encL_ren a λn hn=>h n (by simp[TV.has,hn]),encL_ren b λn hn=>h n (by simp[TV.has,hn])]
 | .lf t x,h=>by simp[TV.ren,ao,H.ren]
 | .raw v,h=>by simp[TV.ren,ao,CF]
 | .rp t x o,h=>by simp[TV.ren,ao,H.ren]
 | .junk,h=>by simp[TV.ren,ao,H.ren]
theorem encL_ren{f:Nat->Nat}{ω ω':Nat->Nat}:∀l:List (TV V.N),(∀n,TV.hasL n l=true->ω' (f n)=ω n)->encL V ω' (TV.renL f l)=H.renL f (encL V ω l)
 |[],h=>rfl
 |x::r,h=>by
  simp only[TV.renL,encL,H.renL]
  rw[uE x λn hn=>h n (by simp[TV.hasL,hn]),encL_ren r λn hn=>h n (by simp[TV.hasL,hn])]
end
theorem Hk(f:Nat->Nat):∀l:List D,H.renL f (l.map .d)=l.map .d
 |[]=>rfl
 |x::r=>by simp only[VC,H.renL,H.ren,Hk f r]
theorem AW{f:Nat->Nat}{ω ω':Nat->Nat}(o:TO V.N)(h:∀n,TO.has n o=true->ω' (f n)=ω n):bu V ω' (TO.ren f o)=(bu V ω o).map (Own.ren f):=by
 cases o with
 |box oty cells=>simp only[TO.ren,bu,VV,Own.ren];rw[encL_ren cells h]
 |bst i x=>simp only[TO.ren,bu,VV,Own.ren];rw[Hk]
 |vec te e xs=>simp[TO.ren,bu,Own.ren]
 |dvec te e xs=>simp[TO.ren,bu,Own.ren]
 |pvec te e xs=>simp[TO.ren,bu,Own.ren]
 |map k v es=>simp[TO.ren,bu,Own.ren]
 |iter s p=>simp[TO.ren,bu,Own.ren]
 |miter m k v es rest cur=>simp[TO.ren,bu,Own.ren]
 |gone l=>simp[TO.ren,bu]
theorem Kx.weak{P:Program}{f:FuncId}{args args':List H}{own own1 own':List (Nat×Own)}{r:H}(h:Kx P f args own r own')
 (ha:∀E M vs,fm E M vs args'->fm E M vs args)(ho:∀E M w,D0 E M w own1->D0 E M w own)(hk:∀n,(∃o,gt own n=some o)↔∃o,gt own1 n=some o)
 (hf:∀E M w,D0 E M w own1->∀b,gW E w own b->gW E w own1 b):Kx P f args' own1 r own':=by
 refine⟨h.1,λE M w vs hgm hm how hvs=>(h.2 E M w vs hgm hm (ho E M w how) (ha E M vs hvs)).mono ?_⟩
 have hin:∀b,gW E w own b->gW E w own1 b:=hf E M w how
 rintro e w' ⟨v,E',M',rfl,hp,hE⟩
 refine⟨v,E',M',rfl,{hp with mnew:=λb o v hv=> ?_,home:=λn o b hn hb=> ?_,frame:=λk hk hx=>hp.frame k hk λh1=>hx (hin k h1)},λn hn=>hE n ?_⟩
 ·rcases hp.mnew b o v hv with h1|h1|h1
  ·exact .inl h1
  ·exact .inr (.inl (hin b h1))
  ·exact .inr (.inr h1)
 ·rcases hp.home n o b hn hb with h1|h1
  ·exact .inl (hin b h1)
  ·exact .inr h1
 ·rcases hn with hn|hn
  ·exact .inl hn
  ·exact .inr ((hk n).2 hn)
end
end Go.Tx
end
section
namespace Go.Tx
open Go.Awp
variable [Inhabited GMem]
section
variable {V:m_}
def A6(n:Nat):List Nat->Bool
 |[]=>false
 |k::r=>Ww k n||A6 n r
def Ns(ks:List Nat):List Nat->List Nat
 |[]=>[]
 |n::r=>match A6 n ks with
  |true=>Ns ks r
  |false=>n::Ns ks r
def fe:Nat->cQ->List Nat->cQ
 |_,σ,[]=>σ
 |b,σ,c::r=>match gt σ c with
  |some _=>fe b σ r
  |none=>fe (b+1) ((c,b)::σ) r
def Fk(sig:Sig V):Bool:=sig.params.all (yv V sig.objs)&&sig.objs.all (λp=>match p.2 with
 | .box _ ps=>ps.all (yv V sig.objs)
 |_=>true)&&sig.objs.all (λp=>XH given p.1)
def vz(S:TS V.N)(n:Nat):TO V.N->Bool
 | .box _ _=>Ww (S.len n) 0
 | .bst _ _=>Ww (S.len n) 0
 | .map _ _ _=>Ww (S.len n) 0
 | .iter _ _=>Ww (S.len n) 0
 | .vec _ _ _=>true
 | .dvec _ _ _=>true
 | .pvec _ _ _=>true
 |_=>false
def zB(S:TS V.N)(sig:Sig V)(τ:cQ)(x:TV V.N)(os:List (Nat×TO V.N)):Bool:=
 σok τ&&os.all (λp=>XH given p.1||WS (σf τ p.1) given)&&TV.allN (λn=>(gt os n).isSome) x&&os.all (λp=>TO.allN (λn=>(gt os n).isSome) p.2)&&
  os.all (λp=> !A6 p.1 (sig.objs.map (·.1))||vz S (σf τ p.1) p.2)&&eP (os.map (·.1))
def dA(S:TS V.N)(ks:List Nat)(τ:cQ):List (Nat×TO V.N)->List (Nat×Nat)
 |[]=>[]
 |(c,o)::r=>match o with
  | .vec _ _ xs=>match A6 c ks with
   |true=>(xs.length,S.len (σf τ c))::dA S ks τ r
   |false=>dA S ks τ r
  | .dvec _ _ xs=>match A6 c ks with
   |true=>(xs.length,S.len (σf τ c))::dA S ks τ r
   |false=>dA S ks τ r
  | .pvec _ _ xs=>match A6 c ks with
   |true=>(xs.length,S.len (σf τ c))::dA S ks τ r
   |false=>dA S ks τ r
  |_=>dA S ks τ r
def A8{A:Type}:List (Nat×Nat)->Option A->Option A
 |[],k=>k
 |(a,b)::r,k=>if a=b then A8 r k else none
theorem lF{A:Type}{x:A}:∀{l:List (Nat×Nat)} {k:Option A},A8 l k=some x->k=some x/\∀p∈l,p.1=p.2
 |[],k,h=>⟨h,λp hp=>by cases hp⟩
 |(a,b)::r,k,h=>by
  simp only[A8]at h
  split at h
  ·rename_i hab
   obtain⟨h1,h2⟩:=lF h
   refine⟨h1,λp hp=> ?_⟩
   rcases VG.1 hp with rfl|hp
   ·exact hab
   ·exact h2 p hp
  ·cases h
theorem dn{S:TS V.N}{ks:List Nat}{τ:cQ}{c:Nat}{x:TO V.N}(hx:(∃te e ys,x= .vec te e ys)\/(∃te e ys,x= .dvec te e ys)\/∃te e ys,x= .pvec te e ys)(hi:A6 c ks=true):∀{l:List (Nat×TO V.N)},(c,x)∈l->(TO.len (some x),S.len (σf τ c))∈dA S ks τ l
 |(d,o)::r,h=>by
  rcases VG.1 h with h|h
  ·simp only[VW]at h
   obtain⟨rfl,rfl⟩:=h
   rcases hx with⟨te,e,ys,rfl⟩|⟨te,e,ys,rfl⟩|⟨te,e,ys,rfl⟩
   ·simp only[dA,hi]
    exact Vy
   ·simp only[dA,hi]
    exact Vy
   ·simp only[dA,hi]
    exact Vy
  ·have ih:=dn (S:=S) (τ:=τ) hx hi h
   unfold dA
   split
   ·split
    ·exact Vu _ ih
    ·exact ih
   ·split
    ·exact Vu _ ih
    ·exact ih
   ·split
    ·exact Vu _ ih
    ·exact ih
   ·exact ih
def ff(P:Program)(sig:Sig V)(F:HL V.N sig.tys->Option (HL V.N sig.rcut.tys))(A:Type)(args:List (TV V.N))(S:TS V.N)(k:TE V.N->Option A):Option A:=
 match mtL V [] sig.params args with
 |some (σ0,l0)=>match mtO V S σ0 sig.objs with
  |some (σ1,l1)=>match Fk sig with
   |true=>match LS sig.tys (l0++l1)with
    |some v=>F v>>=λr=>match rh P sig r with
     |some x=>match zB S sig (fe (80000+S.own.length) σ1 ((jx sig r).map (·.1))) x (jx sig r)with
      |true=>A8 (dA S (sig.objs.map (·.1)) (fe (80000+S.own.length) σ1 ((jx sig r).map (·.1))) (jx sig r)) (k
       { val:=x.ren (σf (fe (80000+S.own.length) σ1 ((jx sig r).map (·.1))))
         acc:=sig.objs.map λp=>σf σ1 p.1
         upd:=((jx sig r).map λp=>(σf (fe (80000+S.own.length) σ1 ((jx sig r).map (·.1))) p.1,p.2.ren (σf (fe (80000+S.own.length) σ1 ((jx sig r).map (·.1))))))++sig.objs.map λp=>(σf σ1 p.1, .gone (S.len (σf σ1 p.1)))
         new:=Ns (sig.objs.map λp=>σf σ1 p.1) ((jx sig r).map λp=>σf (fe (80000+S.own.length) σ1 ((jx sig r).map (·.1))) p.1)})
      |false=>none
     |none=>none
    |none=>none
   |false=>none
  |none=>none
 |none=>none
theorem ka{n:Nat}:∀{l:List Nat},A6 n l=true↔n∈l
 |[]=>by simp[A6]
 |k::r=>by
  simp only[A6,V0,VG,ka (l:=r)]
  constructor
  ·rintro(h|h)
   ·exact .inl (Wa h).symm
   ·exact .inr h
  ·rintro(rfl|h)
   ·exact .inl (by simp)
   ·exact .inr h
theorem qp{α:Type}:∀{l:List (Nat×α)} {n:Nat},gt l n=none↔n∉l.map (·.1)
 |[],n=>by simp[gt]
 |(k,x)::r,n=>by
  rw[ai]
  by_cases hk:k=n
  ·subst hk;simp
  ·rw[Y4 hk,qp (l:=r)]
   simp[VZ hk]
theorem fD{own:List (Nat×Own)}:∀{l:List (Nat×Own)},eo own l=Ns (own.map (·.1)) (l.map (·.1))
 |[]=>rfl
 |(n,o)::r=>by
  simp only[eo,VC,Ns]
  cases hq:gt own n with
  |none=>
   have:A6 n (own.map (·.1))=false:=by
    rw[Yo];intro h;exact qp.1 hq (ka.1 h)
   simp only[this,fD (l:=r)]
  |some y=>
   have:A6 n (own.map (·.1))=true:=ka.2 (VO (f:=(·.1)) (bn hq))
   simp only[this,fD (l:=r)]
theorem il:∀{l:List Nat} {b:Nat} {σ:cQ} {c n:Nat},gt σ c=some n->gt (fe b σ l) c=some n
 |[],b,σ,c,n,h=>h
 |d::r,b,σ,c,n,h=>by
  simp only[fe]
  split
  ·exact il h
  ·rename_i hd
   refine il ?_
   rw[ai]
   by_cases hk:d=c
   ·subst hk;rw[hd]at h;cases h
   ·rw[Y4 hk];exact h
theorem σf_some{σ:cQ}{c n:Nat}(h:gt σ c=some n):σf σ c=n:=by unfold σf;rw[h]
end
end Go.Tx
end
