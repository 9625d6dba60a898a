/-
  Texts of this claim, joined by a program of mine: what the theorem uses.
-/
import Derived.Test.YtcghbgmmgcljkaaGreatDoorPkC
open Bool renaming and_eq_true→Qk,or_eq_false_iff→Ro,or_eq_true→QX
open ByteArray renaming empty→Rr
open Function renaming comp→SV
open Int renaming le_refl→RS
open List renaming all_cons→Rb,all_eq_true→Qq,all_map→RI,any_cons→SS,any_eq_true→Rs,append_assoc→Rt,append_nil→RO,cons_append→QR,drop_drop→Ry,drop_of_length_le→Th,drop_zero→QV,eq_nil_of_length_eq_zero→QE,ext_getElem?→Rw,flatten_cons→Q4,getElem?_cons_zero→Ri,getElem?_eq_getElem→Qi,getElem?_eq_some_iff→Qf,getElem?_map→Qh,getElem?_of_mem→RA,getElem_mem→Q7,getElem_of_mem→Sr,length→Sj,length_append→QB,length_cons→QA,length_drop→QO,length_map→Qg,length_replicate→Ra,mapM→SO,mapM_cons→Tk,map_append→QU,map_congr_left→QL,map_cons→Qp,map_drop→Q_,map_map→QJ,map_nil→QW,map_replicate→RZ,map_set→RQ,map_take→Q9,mem_append→Q0,mem_cons→Qu,mem_cons_of_mem→Qm,mem_cons_self→Qo,mem_map→QD,mem_map_of_mem→QN,mem_of_getElem?→Qn,mem_of_mem_take→QY,mem_replicate→SM,nil_append→QS,replicate→QK,take_append_drop→Sn,take_append_of_le_length→RL,take_of_length_le→QP,take_succ_cons→Tt,take_zero→Sv
open List.cons renaming injEq→Re
open Nat renaming beq→QZ,blt→RD,blt_eq→RN,eq_of_beq_eq_true→QT,le_refl→QF,mul_le_mul→Tj,succ_mul→QM,zero_add→Qy,zero_mul→R0
open Ne renaming symm→Rf
open Option renaming bind_eq_some_iff→RF,bind_some→Qe,getD_some→Rk,isSome_map→SY,isSome_some→St,map_eq_some_iff→Qr,map_none→Sf,map_some→QG
open Option.some renaming injEq→Qd
open Prod.mk renaming injEq→QI
noncomputable section
set_option linter.unusedSectionVars false
set_option linter.unusedSimpArgs false
section
namespace Go.Mp
def get{κ β:Type}(eq:κ->κ->Bool)(x:κ):List (κ×β)->Option β
 |[]=>none
 |p::r=>if eq x p.1=true then some p.2 else get eq x r
def put{κ β:Type}(eq:κ->κ->Bool)(x:κ)(y:β):List (κ×β)->List (κ×β)
 |[]=>[(x,y)]
 |p::r=>if eq x p.1=true then(x,y)::r else p::put eq x y r
def ins{κ β:Type}(lt:κ->κ->Bool)(x:κ)(y:β):List (κ×β)->List (κ×β)
 |[]=>[(x,y)]
 |p::r=>if lt x p.1=true then(x,y)::p::r else p::ins lt x y r
def set{κ β:Type}(eq lt:κ->κ->Bool)(x:κ)(y:β)(l:List (κ×β)):List (κ×β):=if l.any (λp=>eq x p.1)=true then put eq x y l else ins lt x y l
theorem Bo{κ β:Type}{eq:κ->κ->Bool}{x:κ}{y:β}:∀{l:List (κ×β)},l.any (λp=>eq x p.1)=false->put eq x y l=l++[(x,y)]
 |[],_=>rfl
 |p::r,h=>by
  rw[SS,Ro]at h
  rw[put,h.1,TN (by decide),Bo h.2];rfl
theorem vP{κ β:Type}{lt:κ->κ->Bool}{x:κ}{y:β}:∀l:List (κ×β),(ins lt x y l).Perm ((x,y)::l)
 |[]=> .refl _
 |p::r=>by
  rw[ins]
  split
  ·exact .refl _
  ·exact((vP r).cons p).trans (.swap _ _ _)
theorem set_perm{κ β:Type}(eq lt:κ->κ->Bool)(x:κ)(y:β)(l:List (κ×β)):(set eq lt x y l).Perm (put eq x y l):=by
 unfold set
 split
 ·exact .refl _
 ·rename_i h
  rw[Bo (by simpa using h)]
  exact(vP l).trans (List.perm_append_singleton _ _).symm
def ieq(a b:Int):Bool:=a==b
def beq(a b:Bool):Bool:=a==b
def seq(a b:ByteArray):Bool:=a==b
def ilt(a b:Int):Bool:=decide (a<b)
def blt(a b:Bool):Bool:= !a&&b
def lex:List UInt8->List UInt8->Bool
 |[],[]=>false
 |[],_::_=>true
 |_::_,[]=>false
 |a::r,b::s=>if a.toNat<b.toNat then true else if b.toNat<a.toNat then false else lex r s
def slt(a b:ByteArray):Bool:=lex a.data.toList b.data.toList
end Go.Mp
namespace Go.Tx
open Go.Awp
variable [Inhabited GMem]
inductive Ty (ι:Type)where
 |int (k:IntKind)
 |bool
 |str
 |st (i:ι)
 |sl (e:Ty ι)
 |mp (k v:Ty ι)
 |er
 /-- a pointer to what nobody writes, or nil -/
 |op (e:Ty ι)
 /-- a function that captures nothing -/
 |fnc
 /-- the same, or nil -/
 |fno
 /-- an array -/
 |ar (n:Nat) (e:Ty ι)
 deriving DecidableEq
@[reducible] def den {ι:Type} (N:ι->Type):Ty ι->Type
 | .int _=>Int
 | .bool=>Bool
 | .str=>ByteArray
 | .st i=>N i
 | .sl e=>List (den N e)
 | .mp k v=>List (den N k×den N v)
 | .er=>Bool
 | .op e=>Option (den N e)
 | .fnc=>Nat
 | .fno=>Option Nat
 | .ar _ e=>List (den N e)
def arL{α:Type}(m:Nat)(pad:α)(l:List α):List α:=(l++QK m pad).take m
theorem Ha{α:Type}(m:Nat)(pad:α)(l:List α):(arL m pad l).length=m:=by
 unfold arL
 simp
theorem Hb{α β:Type}(f:α->β)(m:Nat)(pad:α)(l:List α):(arL m pad l).map f=arL m (f pad) (l.map f):=by
 unfold arL
 simp
structure dB {ι:Type} (N:ι->Type)where
 t:Ty ι
 x:den N t
section
variable {ι:Type} {N:ι->Type} (sz:ι->Nat) (enc:(i:ι)->N i->List D)
def tsz:Ty ι->Nat
 | .st i=>sz i
 | .ar n e=>n *tsz e
 |_=>1
def opD:Option (List D)->D
 |none=> .v (.pointer none)
 |some c=> .rp c
theorem Im(x:Option (List D)):(opD x).one=true:=by cases x<;>rfl
def CG:Option Nat->D
 |none=> .v .nilFunc
 |some f=> .v (.func (.func f) #[] #[])
theorem Da(x:Option Nat):(CG x).one=true:=by cases x<;>rfl
def bN:(t:Ty ι)->den N t->List D
 | .int k,n=>[.v (.int k n)]
 | .bool,b=>[.v (.bool b)]
 | .str,s=>[.v (.string s)]
 | .st i,x=>enc i x
 | .sl e,xs=>[.sl (tsz sz e) (xs.map λx=>bN e x)]
 | .mp _ _,_=>[.v (.map none)]
 | .er,b=>[.er b]
 | .op e,x=>[opD (x.map λy=>bN e y)]
 | .fnc,f=>[.v (.func (.func f) #[] #[])]
 | .fno,f=>[CG f]
 | .ar n e,xs=>arL (n *tsz sz e) (.v (.bool false)) (xs.map λx=>bN e x).flatten
def aY:(t:Ty ι)->den N t->D
 | .int k,n=> .v (.int k n)
 | .bool,b=> .v (.bool b)
 | .str,s=> .v (.string s)
 | .st i,x=> .agg (enc i x)
 | .sl e,xs=> .sl (tsz sz e) (xs.map λx=>bN sz enc e x)
 | .mp _ _,_=> .v (.map none)
 | .er,b=> .er b
 | .op e,x=>opD (x.map λy=>bN sz enc e y)
 | .fnc,f=> .v (.func (.func f) #[] #[])
 | .fno,f=>CG f
 | .ar n e,xs=> .agg (bN sz enc (.ar n e) xs)
end
section
variable {ι:Type} {N:ι->Type} (sz:ι->Nat) (enc:(i:ι)->N i->List D) (tid:Ty ι->Nat) (encd:(i:ι)->N i->List DD)
def eK:(t:Ty ι)->den N t->List DD
 | .st i,x=>encd i x
 | .sl e,xs=>[.sl (tid e) (tsz sz e) (xs.map λx=>eK e x)]
 | .ar n e,xs=>arL (n *tsz sz e) (.d (.v (.bool false))) (xs.map λx=>eK e x).flatten
 |t,x=>(bN sz enc t x).map .d
def C5:(t:Ty ι)->den N t->DD
 | .sl e,xs=> .sl (tid e) (tsz sz e) (xs.map λx=>eK sz enc tid encd e x)
 |t,x=> .d (aY sz enc t x)
end
def Ty.isSl{ι:Type}:Ty ι->Bool
 | .sl _=>true
 |_=>false
def Ol:D->Value
 | .v x=>x
 |_=> .nilIface
def d6{ι:Type}{N:ι->Type}(enc:(i:ι)->N i->List D):(t:Ty ι)->den N t->Value
 | .int k,n=> .int k n
 | .bool,b=> .bool b
 | .str,s=> .string s
 | .st i,x=> .agg ((enc i x).map Ol).toArray
 |_,_=> .map none
def Ty.cell{ι:Type}:Ty ι->Bool
 | .st _=>false
 | .ar _ _=>false
 |_=>true
structure gW where
 ι:Type
 dec:DecidableEq ι
 N:ι->Type
 sz:ι->Nat
 tys:ι->List (Ty ι)
 cells:(i:ι)->N i->List (dB N)
 ofCells:(i:ι)->List (dB N)->Option (N i)
 enc:(i:ι)->N i->List D
 ty:TypeId->Option (Ty ι)
 enc_cells:∀i x,enc i x=(cells i x).map λl=>aY sz enc l.t l.x
 of_cells:∀i ls x,ofCells i ls=some x->cells i x=ls
 len_cells:∀i x,(cells i x).length=sz i
 one_cells:∀i x,∀l∈cells i x,l.t.cell=true
 tys_cells:∀i x,(cells i x).map (λl=>l.t)=tys i
 tid:Ty ι->Nat
 encd:(i:ι)->N i->List DD
 encd_cells:∀i x,encd i x=(cells i x).map λl=>C5 sz enc tid encd l.t l.x
 encd_toL:∀i x,DD.toL (encd i x)=some (enc i x)
 flat:ι->Bool
 flat_cells:∀i x,flat i=true->∀l∈cells i x,l.t.isSl=false
instance (V:gW):DecidableEq V.ι:=V.dec
inductive TV {ι:Type} (N:ι->Type)where
 |lf (t:Ty ι) (x:den N t)
 |raw (v:Value)
 |bp (n off:Nat)
 |vh (n:Nat)
 |ep (n sz i off:Nat)
 |sv (n sz i off:Nat)
 |mp (n:Nat)
 |np (n:Nat) (b:Bool)
 |sd (n:Nat)
 |rp (t:Ty ι) (x:den N t) (off:Nat)
 /-- a place in an array that lies in a box -/
 |ai (n sz i off:Nat)
 |agg (cs:List (TV N))
 |tup (vs:List (TV N))
 |fn (f:Nat) (a b:List (TV N))
 |junk
inductive TO {ι:Type} (N:ι->Type)where
 |box (o:Option TypeId) (cells:List (TV N))
 /-- a box that holds a struct whole -/
 |bst (i:ι) (x:N i)
 |vec (te:TypeId) (e:Ty ι) (xs:List (den N e))
 /-- a slice whose elements own what they hold -/
 |dvec (te:TypeId) (e:Ty ι) (xs:List (den N e))
 /-- the same, some elements are out -/
 |pvec (te:TypeId) (e:Ty ι) (xs:List (Option (den N e)))
 |map (k v:Ty ι) (es:List (den N k×den N v))
 |iter (s:ByteArray) (p:Int)
 /-- a map through which a loop goes: its name, what it holds, what is left, what came last -/
 |miter (m:Nat) (k v:Ty ι) (es rest:List (den N k×den N v)) (cur:Option (den N k×den N v))
 /-- a slice that lies somewhere in its block -/
 |que (te:TypeId) (e:Ty ι) (xs:List (den N e))
 /-- a slice of maps; one of them may have a name -/
 |maps (te:TypeId) (k v:Ty ι) (es:List (Option (List (den N k×den N v)))) (al:Option (Nat×Nat))
 /-- a box that holds an array whole -/
 |bar (n:Nat) (e:Ty ι) (xs:List (den N e))
 /-- the name of a map that lies in a slice -/
 |alias (m:Nat)
 /-- no longer owned: how long it was -/
 |gone (len:Nat)
structure TS {ι:Type} (N:ι->Type)where
 tmps:List (Nat×TV N)
 own:List (Nat×TO N)
section
variable {ι:Type} {N:ι->Type}
def TS.own?(S:TS N)(n:Nat):Option (TO N):=gt S.own n
def TS.get(S:TS N)(t:Nat):TV N:=(gt S.tmps t).getD .junk
def TO.len:Option (TO N)->Nat
 |some (.vec _ _ xs)=>xs.length
 |some (.dvec _ _ xs)=>xs.length
 |some (.pvec _ _ xs)=>xs.length
 |some (.que _ _ xs)=>xs.length
 |some (.maps _ _ _ es _)=>es.length
 |some (.gone l)=>l
 |_=>0
def TS.len(S:TS N)(n:Nat):Nat:=TO.len (S.own? n)
mutual
def TV.has(n:Nat):TV N->Bool
 | .bp m _=>QZ m n
 | .vh m=>QZ m n
 | .ep m _ _ _=>QZ m n
 | .sv m _ _ _=>QZ m n
 | .mp m=>QZ m n
 | .np m _=>QZ m n
 | .sd m=>QZ m n
 | .ai m _ _ _=>QZ m n
 | .agg cs=>TV.hasL n cs
 | .tup vs=>TV.hasL n vs
 | .fn _ a b=>TV.hasL n a||TV.hasL n b
 |_=>false
def TV.hasL(n:Nat):List (TV N)->Bool
 |[]=>false
 |x::r=>TV.has n x||TV.hasL n r
end
def TO.has(n:Nat):TO N->Bool
 | .box _ cells=>TV.hasL n cells
 | .miter m _ _ _ _ _=>QZ m n
 | .maps _ _ _ _ (some p)=>QZ p.1 n
 |_=>false
def TS.fresh(S:TS N)(n:Nat):Bool:=
 (S.own? n).isNone&&S.tmps.all (λx=> !TV.has n x.2)&&S.own.all (λx=> !TO.has n x.2)
end
section
variable (V:gW)
def bZ:Value->H
 | .agg cs=> .d (.agg (cs.toList.map .v))
 |v=> .d (.v v)
mutual
def aK(ω:Nat->Nat):TV V.N->H
 | .lf t x=> .d (aY V.sz V.enc t x)
 | .raw v=>bZ v
 | .bp n off=> .bp n off
 | .vh n=> .vh n (ω n)
 | .ep n s i off=> .ep n s i off
 | .sv n s i off=> .sv n s i off
 | .mp n=> .mp n
 | .np n b=> .np n b
 | .sd n=> .sd n
 | .rp t x off=> .d (.rp ((bN V.sz V.enc t x).drop off))
 | .ai n s i off=> .bp n (i *s+off)
 | .agg cs=>cq (encL ω cs)
 | .tup vs=> .tup (encL ω vs)
 | .fn f a b=> .fn f (encL ω a) (encL ω b)
 | .junk=> .junk
def encL(ω:Nat->Nat):List (TV V.N)->List H
 |[]=>[]
 |x::r=>aK ω x::encL ω r
end
def Lu(e:Ty V.ι):Option (den V.N e)->List DD
 |some x=>eK V.sz V.enc V.tid V.encd e x
 |none=>QK (tsz V.sz e) .junk
def bS(ω:Nat->Nat):TO V.N->Option Own
 | .box o cells=>some (.box o (encL V ω cells))
 | .bst i x=>some (.box none ((V.enc i x).map .d))
 | .vec te e xs=>some (.vec te (tsz V.sz e) (xs.map λx=>bN V.sz V.enc e x))
 | .dvec te e xs=>some (.dvec te (tsz V.sz e) (xs.map λx=>eK V.sz V.enc V.tid V.encd e x))
 | .pvec te e xs=>some (.dvec te (tsz V.sz e) (xs.map λx=>Lu V e x))
 | .map k v es=>some (.map (es.map λp=>(d6 V.enc k p.1,aY V.sz V.enc v p.2)))
 | .iter s p=>some (.iter s p.toNat)
 | .miter m k v es rest cur=>some (.miter m (es.map λp=>(d6 V.enc k p.1,aY V.sz V.enc v p.2)) (rest.map λp=>(d6 V.enc k p.1,aY V.sz V.enc v p.2)) (cur.map λp=>(d6 V.enc k p.1,aY V.sz V.enc v p.2)))
 | .que te e xs=>some (.que te (tsz V.sz e) (xs.map λx=>bN V.sz V.enc e x))
 | .maps te k v es al=>some (.maps te (es.map λo=>o.map λl=>l.map λp=>(d6 V.enc k p.1,aY V.sz V.enc v p.2)) al)
 | .bar n e xs=>some (.box none ((bN V.sz V.enc (.ar n e) xs).map .d))
 | .alias _=>none
 | .gone _=>none
def aV(S:TS V.N):aA:=
 {tmps:=S.tmps.map λp=>(p.1,aK V S.len p.2),own:=S.own.map λp=>(p.1,bS V S.len p.2)}
variable {V}
theorem aO(ω:Nat->Nat)(l:List (TV V.N)):encL V ω l=l.map (aK V ω):=by
 induction l with
 |nil=>rfl
 |cons x r ih=>simp[encL,ih]
theorem vl{n:Nat}:∀{l:List H} {ds:List D},fW l=some ds->H.hasL n l=false
 |[],_,_=>by simp[H.hasL]
 | .d x::r,ds,h=>by
  simp only[fW]at h
  split at h
  ·rename_i l hl
   simp[H.hasL,H.has,vl hl]
  ·cases h
 | .junk::r,ds,h=>by simp[fW]at h
 | .bp .. ::r,ds,h=>by simp[fW]at h
 | .vh .. ::r,ds,h=>by simp[fW]at h
 | .ep .. ::r,ds,h=>by simp[fW]at h
 | .sv .. ::r,ds,h=>by simp[fW]at h
 | .mp .. ::r,ds,h=>by simp[fW]at h
 | .np .. ::r,ds,h=>by simp[fW]at h
 | .sd .. ::r,ds,h=>by simp[fW]at h
 | .agg .. ::r,ds,h=>by simp[fW]at h
 | .tup .. ::r,ds,h=>by simp[fW]at h
 | .fn .. ::r,ds,h=>by simp[fW]at h
theorem Ay(n:Nat)(l:List H):H.has n (cq l)=H.hasL n l:=by
 unfold cq
 split
 ·rename_i ds h;rw[vl h];simp[H.has]
 ·simp[H.has]
theorem w9(n:Nat)(v:Value):H.has n (bZ v)=false:=by
 cases v<;>simp[bZ,H.has]
mutual
theorem iB(ω:Nat->Nat)(n:Nat):∀v:TV V.N,H.has n (aK V ω v)=TV.has n v
 | .lf t x=>by simp[aK,H.has,TV.has]
 | .raw v=>by simp[aK,TV.has,w9]
 | .bp m off=>by simp[aK,H.has,TV.has]
 | .vh m=>by simp[aK,H.has,TV.has]
 | .ep m s i off=>by simp[aK,H.has,TV.has]
 | .sv m s i off=>by simp[aK,H.has,TV.has]
 | .mp m=>by simp[aK,H.has,TV.has]
 | .np m b=>by simp[aK,H.has,TV.has]
 | .sd m=>by simp[aK,H.has,TV.has]
 | .rp t x off=>by simp[aK,H.has,TV.has]
 | .ai m s i off=>by simp[aK,H.has,TV.has]
 | .agg cs=>by simp only[aK,Ay,TV.has];exact encL_has ω n cs
 | .tup vs=>by simp only[aK,H.has,TV.has];exact encL_has ω n vs
 | .fn f a b=>by simp only[aK,H.has,TV.has];rw[encL_has ω n a,encL_has ω n b]
 | .junk=>by simp[aK,H.has,TV.has]
theorem encL_has(ω:Nat->Nat)(n:Nat):∀l:List (TV V.N),H.hasL n (encL V ω l)=TV.hasL n l
 |[]=>by simp[encL,H.hasL,TV.hasL]
 |x::r=>by simp only[encL,H.hasL,TV.hasL];rw[iB ω n x,encL_has ω n r]
end
theorem jv(ω:Nat->Nat)(n:Nat){o:TO V.N}{o':Own}(h:bS V ω o=some o'):Own.has n o'=TO.has n o:=by
 cases o with
 |box oty cells=>simp only[bS,Qd]at h;subst h;simp only[Own.has,TO.has];exact encL_has ω n cells
 |bst i x=>
  simp only[bS,Qd]at h;subst h;simp only[Own.has,TO.has]
  generalize V.enc i x=l
  induction l with
  |nil=>simp[H.hasL]
  |cons y r ih=>simpa[H.hasL,H.has]using ih
 |vec te e xs=>simp only[bS,Qd]at h;subst h;simp[Own.has,TO.has]
 |dvec te e xs=>simp only[bS,Qd]at h;subst h;simp[Own.has,TO.has]
 |pvec te e xs=>simp only[bS,Qd]at h;subst h;simp[Own.has,TO.has]
 |map k v es=>simp only[bS,Qd]at h;subst h;simp[Own.has,TO.has]
 |iter s p=>simp only[bS,Qd]at h;subst h;simp[Own.has,TO.has]
 |miter m k v es rest cur=>simp only[bS,Qd]at h;subst h;simp[Own.has,TO.has]
 |que te e xs=>simp only[bS,Qd]at h;subst h;simp[Own.que,Own.has,TO.has]
 |maps te k v es al=>
  simp only[bS,Qd]at h;subst h
  cases al with
  |none=>simp[Own.maps,Own.has,TO.has]
  |some p=>simp[Own.maps,Own.has,TO.has]
 |bar m e xs=>
  simp only[bS,Qd]at h;subst h;simp only[Own.has,TO.has]
  generalize bN V.sz V.enc (.ar m e) xs=l
  induction l with
  |nil=>simp[H.hasL]
  |cons y r ih=>simpa[H.hasL,H.has]using ih
 |alias m=>simp[bS]at h
 |gone l=>simp[bS]at h
theorem aZ(S:TS V.N)(n:Nat):(aV V S).own? n=(S.own? n).bind (bS V S.len):=by
 unfold aA.own? TS.own? aV
 simp only[gb]
 cases gt S.own n with
 |none=>rfl
 |some x=>rfl
theorem C7(S:TS V.N)(t:Nat):(aV V S).get t=aK V S.len (S.get t):=by
 unfold aA.get TS.get aV
 simp only[gb]
 cases gt S.tmps t with
 |none=>simp[aK]
 |some x=>rfl
theorem cC(S:TS V.N)(t:Nat):gt (aV V S).tmps t=(gt S.tmps t).map (aK V S.len):=by
 unfold aV
 simp only[gb]
theorem eB{S:TS V.N}{n:Nat}(h:S.fresh n=true):(aV V S).fresh n=true:=by
 unfold TS.fresh at h
 unfold aA.fresh
 rw[aZ]
 simp only[Qk]at h⊢
 obtain⟨⟨h1,h2⟩,h3⟩:=h
 refine⟨⟨?_,?_⟩,?_⟩
 ·cases hq:S.own? n with
  |none=>rfl
  |some o=>rw[hq]at h1;cases h1
 ·unfold aV
  simp only[RI]
  rw[Qq]at h2⊢
  intro x hx
  have:=h2 x hx
  simpa[iB]using this
 ·unfold aV
  simp only[RI]
  rw[Qq]at h3⊢
  intro x hx
  have:=h3 x hx
  simp only[SV]
  cases hq:bS V S.len x.2 with
  |none=>rfl
  |some o=>simp only[jv S.len n hq];exact this
mutual
theorem iA{ω ω':Nat->Nat}:∀v:TV V.N,(∀n,TV.has n v=true->ω' n=ω n)->aK V ω' v=aK V ω v
 | .lf t x,_=>by simp[aK]
 | .raw v,_=>by simp[aK]
 | .bp m off,_=>by simp[aK]
 | .vh m,h=>by simp[aK,h m (by simp[TV.has])]
 | .ep m s i off,_=>by simp[aK]
 | .sv m s i off,_=>by simp[aK]
 | .mp m,_=>by simp[aK]
 | .np m b,_=>by simp[aK]
 | .sd m,_=>by simp[aK]
 | .rp t x off,_=>by simp[aK]
 | .ai m s i off,_=>by simp[aK]
 | .agg cs,h=>by simp only[aK];rw[encL_congr cs λn hn=>h n (by simpa[TV.has]using hn)]
 | .tup vs,h=>by simp only[aK];rw[encL_congr vs λn hn=>h n (by simpa[TV.has]using hn)]
 | .fn f a b,h=>by simp only[aK];rw[encL_congr a λn hn=>h n (by simp[TV.has,hn]),encL_congr b λn hn=>h n (by simp[TV.has,hn])]
 | .junk,_=>by simp[aK]
theorem encL_congr{ω ω':Nat->Nat}:∀l:List (TV V.N),(∀n,TV.hasL n l=true->ω' n=ω n)->encL V ω' l=encL V ω l
 |[],_=>rfl
 |x::r,h=>by
  simp only[encL]
  rw[iA x λn hn=>h n (by simp[TV.hasL,hn]),encL_congr r λn hn=>h n (by simp[TV.hasL,hn])]
end
theorem o8{ω ω':Nat->Nat}(o:TO V.N)(h:∀n,TO.has n o=true->ω' n=ω n):bS V ω' o=bS V ω o:=by
 cases o with
 |box oty cells=>simp only[bS];rw[encL_congr cells h]
 |bst i x=>rfl
 |vec te e xs=>rfl
 |dvec te e xs=>rfl
 |pvec te e xs=>rfl
 |map k v es=>rfl
 |iter s p=>rfl
 |miter m k v es rest cur=>rfl
 |que te e xs=>rfl
 |maps te k v es al=>rfl
 |bar m e xs=>rfl
 |alias m=>rfl
 |gone l=>rfl
end
end Go.Tx
end
section
namespace Go.Tx
open Go.Awp
variable [Inhabited GMem]
structure TE {ι:Type} (N:ι->Type)where
 val:TV N
 acc:List Nat:=[]
 upd:List (Nat×TO N):=[]
 new:List Nat:=[]
section
variable {ι:Type} {N:ι->Type}
def tvc:Value->TV N
 | .int k n=> .lf (.int k) n
 | .bool b=> .lf .bool b
 | .string s=> .lf .str s
 |v=> .raw v
def Ad:Operand->Bool
 | .const .nilIface=>true
 |_=>false
def tev(S:TS N):Operand->TV N
 | .tmp t=>S.get t
 | .const v=>tvc v
 | .global g=> .raw (.pointer (some ⟨g,0,none⟩))
 | .func f=> .fn f [] []
def fnT:TV N->TV N
 | .fn f [] []=> .lf .fnc f
 |v=>v
def TV.one:TV N->Bool
 | .lf t _=>t.cell
 | .raw v=>c9 v&&v.oneCell'
 | .bp .. =>true
 | .vh .. =>true
 | .ep .. =>true
 | .sv .. =>true
 | .mp .. =>true
 | .np .. =>true
 | .sd .. =>true
 | .rp .. =>true
 | .fn .. =>true
 |_=>false
def Lt(dst:Option Tmp)(x:TV N)(l:List (Nat×TV N)):List (Nat×TV N):=match dst with|some d=>(d,x)::l|none=>l
def TS.app(S:TS N)(dst:Option Tmp)(e:TE N):TS N:={tmps:=Lt dst e.val S.tmps,own:=e.upd++S.own}
end
section
variable (V:gW)
def LX(t:Ty V.ι):dB V.N->dB V.N
 |⟨.fnc,f⟩=>match t with
  | .fno=>⟨.fno,some f⟩
  |_=>⟨.fnc,f⟩
 |l=>l
def kN(ex:Bool)(t:Ty V.ι):TV V.N->Option (dB V.N)
 | .lf t' x=>some (LX V t ⟨t',x⟩)
 | .raw v=>match v,t with
  | .pointer none, .op e=>some ⟨.op e,none⟩
  | .nilFunc, .fno=>some ⟨.fno,none⟩
  | .slice none 0 0, .sl e=>match ex with
   |true=>none
   |false=>some ⟨.sl e,[]⟩
  | .nilIface, .er=>match ex with
   |true=>none
   |false=>some ⟨.er,false⟩
  |_,_=>none
 |_=>none
def de(ex:Bool):List (Ty V.ι)->List (TV V.N)->Option (List (dB V.N))
 |[],[]=>some []
 |t::ts,x::xs=>match kN V ex t x,de ex ts xs with
  |some l,some ls=>some (l::ls)
  |_,_=>none
 |_,_=>none
def CW:Option (TO V.N)->Option (List (TV V.N))
 |some (.box _ cells)=>some cells
 |some (.bst i x)=>some ((V.cells i x).map λl=> .lf l.t l.x)
 |_=>none
def wy(ag:Bool)(off sz:Nat)(ot:Option (Ty V.ι)):Option (TO V.N)->Option (TV V.N)
 |some (.bst i x)=>if ag=true/\off=0/\sz=V.sz i/\ot=some (.st i)then some (.lf (.st i) x)else none
 |some (.bar n e xs)=>if ag=true/\off=0/\sz=tsz V.sz (.ar n e)/\ot=some (.ar n e)then some (.lf (.ar n e) xs)else none
 |_=>none
def yY(v:TV V.N)(cs:List (TV V.N)):TO V.N:=match v with
 | .lf (.st i) x=> .bst i x
 |_=> .box none cs
def LD:Option (TO V.N)->Option TypeId
 |some (.box o _)=>o
 |_=>none
def EF(o:Option TypeId)(v:TV V.N)(cs:List (TV V.N)):TO V.N:=match o with
 |none=>yY V v cs
 |some t=> .box (some t) cs
def mkV(ex:Bool)(ot:Option (Ty V.ι))(cs:List (TV V.N)):TV V.N:=match ot with
 |some (.st i)=>match de V ex (V.tys i) cs with
  |some ls=>match V.ofCells i ls with
   |some x=> .lf (.st i) x
   |none=> .agg cs
  |none=> .agg cs
 |_=> .agg cs
def Df(t:TypeId):List (TV V.N)->Option TypeId
 | .raw (.pointer none):: .raw (.slice none 0 0)::_=>some t
 |_=>none
def bC:(t:Ty V.ι)->den V.N t->List (dB V.N)
 | .st i,x=>V.cells i x
 | .ar n e,xs=>arL (n *tsz V.sz e) ⟨.bool,false⟩ (xs.map λx=>bC e x).flatten
 |t,x=>[⟨t,x⟩]
def TV.cells:TV V.N->Option (List (TV V.N))
 | .lf t x=>some ((bC V t x).map λl=> .lf l.t l.x)
 | .raw v=>if c9 v then some [.raw v]else none
 | .agg cs=>some cs
 | .tup _=>none
 | .junk=>none
 |v=>some [v]
def sW{α β:Type}(f:List α->Option β)(sz:Nat):Nat->List α->Option (List β)
 |0,_=>some []
 |n+1,cs=>match f (cs.take sz),sW f sz n (cs.drop sz)with
  |some x,some r=>some (x::r)
  |_,_=>none
def di(ex:Bool):(e:Ty V.ι)->List (TV V.N)->Option (den V.N e)
 | .st i,cs=>match de V ex (V.tys i) cs with
  |some ls=>V.ofCells i ls
  |none=>none
 | .ar n e,cs=>if cs.length=n *tsz V.sz e then sW (di ex e) (tsz V.sz e) n cs else none
 |t,[x]=>match kN V ex t x with
  |some l=>if h:l.t=t then some (h▸l.x)else none
  |none=>none
 |_,_=>none
def xl(ex:Bool)(ag:Bool)(sz:Nat)(ot:Option (Ty V.ι))(cells:List (TV V.N)):Option (TV V.N):=match ag with
 |true=>if sz<=cells.length then some (mkV V ex ot (cells.take sz))else none
 |false=>cells.head?
def sc(ag:Bool)(sz:Nat)(ot:Option (Ty V.ι))(t:Ty V.ι)(x:den V.N t)(off:Nat):Option (TV V.N):=match ag with
 |true=>if off=0/\ot=some t/\t.cell=false/\sz=tsz V.sz t then some (.lf t x)else match ot with
  |some (.st i)=>if off+sz<=(bC V t x).length then match V.ofCells i (((bC V t x).drop off).take sz)with
   |some y=>some (.lf (.st i) y)
   |none=>none
   else none
  |_=>none
 |false=>match((bC V t x).drop off).head? with
  |some l=>some (.lf l.t l.x)
  |none=>none
def tY(pl:List (Nat×Nat)):List (TV V.N)->List (Nat×TV V.N)->Option (List (TV V.N))
 |cells,[]=>some cells
 |cells,(i,x)::r=>match pl[i]?,TV.cells V x with
  |some (off,sz),some cs=>if cs.length=sz/\off+sz<=cells.length then tY pl (cells.take off++cs++cells.drop (off+cs.length)) r else none
  |_,_=>none
def C4(ex:Bool)(e:Ty V.ι)(x:TV V.N):Option (den V.N e):=match x with
 | .lf t y=>if h:t=e then some (h▸y)else none
 |x=>match TV.cells V x with
  |some cs=>di V ex e cs
  |none=>none
def L3(nm:Nat->Nat):Option Tmp->Bool
 |some d=> !(QZ (nm d) d)
 |none=>false
def xR(ex:Bool)(e:Ty V.ι):Nat->List (Nat×TV V.N)->Option (List (den V.N e))
 |_,[]=>some []
 |i,(j,x)::r=>if i=j then match C4 V ex e x,xR ex e (i+1) r with
   |some y,some ys=>some (y::ys)
   |_,_=>none
  else none
def Li{ι:Type}{N:ι->Type}:dB N->dB N->Bool
 |⟨.int _,a⟩,⟨.int _,b⟩=>Mp.ieq a b
 |⟨.bool,a⟩,⟨.bool,b⟩=>Mp.beq a b
 |⟨.str,a⟩,⟨.str,b⟩=>Mp.seq a b
 |_,_=>false
def zK{ι:Type}{N:ι->Type}:List (dB N)->List (dB N)->Bool
 |[],[]=>true
 |[a],[b]=>Li a b
 |a::r,b::s=>Li a b&&zK r s
 |_,_=>false
def keq{ι:Type}{N:ι->Type}(cells:(i:ι)->N i->List (dB N)):(t:Ty ι)->den N t->den N t->Bool
 | .int _=>Mp.ieq
 | .bool=>Mp.beq
 | .str=>Mp.seq
 | .st i=>λx y=>zK (cells i x) (cells i y)
 |_=>λ_ _=>false
def klt{ι:Type}{N:ι->Type}:(t:Ty ι)->den N t->den N t->Bool
 | .int _=>Mp.ilt
 | .bool=>Mp.blt
 | .str=>Mp.slt
 |_=>λ_ _=>false
def eU{ι:Type}:Option TypeDesc->Ty ι->Bool
 |some (.int k), .int k'=>decide (k=k')
 |some .string, .str=>true
 |some .bool, .bool=>true
 |_,_=>false
def lI:List D->Option (List Value)
 |[]=>some []
 | .v x::r=>match lI r with
  |some l=>some (x::l)
  |none=>none
 |_::_=>none
def ofZ(ex:Bool):(t:Ty V.ι)->D->Option (den V.N t)
 | .int k, .v (.int k' n)=>if k=k' then some n else none
 | .bool, .v (.bool b)=>some b
 | .str, .v (.string s)=>some s
 | .sl _, .v (.slice none 0 0)=>match ex with
  |true=>none
  |false=>some []
 | .st i, .agg ds=>match lI ds with
  |some z=>if z.all c9=true then di V ex (.st i) (z.map tvc)else none
  |none=>none
 |_,_=>none
def Kb(S:TS V.N):Option Operand->Bool
 |none=>true
 |some x=>match tev S x with
  | .lf (.int _) _=>true
  |_=>false
def F5(S:TS V.N):Option Operand->Int->Option Int
 |some l,_=>match tev S l with
  | .lf (.int _) n=>some n
  |_=>none
 |none,n=>some n
def pG:Operand->Operand->Bool
 | .tmp a, .tmp b=>QZ a b
 |_,_=>false
def most:Nat:=4294967296
variable (P:Program) (nm:Nat->Nat)
abbrev dl:=(A:Type)->Nat->List (TV V.N)->TS V.N->(TE V.N->Option A)->Option A
def Kd(P:Program)(t:TypeId):Bool:=match P.underlying t with
 |some .string=>true
 |_=>false
def Af(P:Program)(t e:TypeId):Bool:=match P.underlying t with
 |some (.pointer e')=>QZ e' e
 |_=>false
def GU(P:Program)(t:TypeId):Bool:=match kI P t with
 |some (.v (.int .u8 n))=>n==0
 |_=>false
def ws{A:Type}(b:Builtin)(rt:TypeId)(args:List (TV V.N))(tys:List TypeId)(dst:Option Tmp)(S:TS V.N)(k:TE V.N->Option A):Option A:=match b,args with
 | .len,[.lf (.sl _) xs]=>if du P tys=2 then k {val:= .lf (.int .i64) xs.length}else none
 | .len,[.vh n]=>if du P tys=2 then k {val:= .lf (.int .i64) (S.len n)}else none
 | .len,[.mp n]=>match S.own? n with
  |some (.map _ _ es)=>if du P tys=3 then k {val:= .lf (.int .i64) es.length,acc:=[n]}else none
  |_=>none
 | .len,[.lf .str s]=>if du P tys=1 then k {val:= .lf (.int .i64) s.size}else none
 | .min,[.lf (.int kx) a, .lf (.int _) b]=>k {val:= .lf (.int kx) (min a b)}
 | .max,[.lf (.int kx) a, .lf (.int _) b]=>k {val:= .lf (.int kx) (max a b)}
 | .append,[x, .lf (.sl e') news]=>match dst,tys with
  |some d,[t,t']=>match cj P t with
   |some (te,sz,bytes)=>match x with
    | .vh n=>match S.own? n with
     |some (.vec te2 e xs)=>if h:e'=e then
      if t=t'/\te=te2/\sz=tsz V.sz e/\bytes<=32768/\¬n=nm d then
       if xs.length+news.length<=most then k {val:= .vh (nm d),acc:=[n],upd:=[(nm d, .vec te e (xs++h▸news)),(n, .gone xs.length)],new:=[nm d]}else none
      else none
      else none
     |_=>none
    | .raw (.slice none 0 0)=>if t=t'/\sz=tsz V.sz e'/\bytes<=32768 then
       if news.length<=most then k {val:= .vh (nm d),upd:=[(nm d, .vec te e' news)],new:=[nm d]}else none
      else none
    |_=>none
   |none=>none
  |_,_=>none
 | .append,[x, .lf .str s]=>match dst,tys with
  |some d,[t,t']=>match cj P t with
   |some (te,sz,bytes)=>if Kd P t'=true/\sz=1/\bytes=1/\GU P te=true then match x with
    | .vh n=>match S.own? n with
     |some (.vec te2 (.int .u8) xs)=>if te=te2/\¬n=nm d then
      if xs.length+s.size<=most then k {val:= .vh (nm d),acc:=[n],upd:=[(nm d, .vec te (.int .u8) (xs++Bs.ints s)),(n, .gone xs.length)],new:=[nm d]}else none
      else none
     |_=>none
    | .raw (.slice none 0 0)=>if s.size<=most then k {val:= .vh (nm d),upd:=[(nm d, .vec te (.int .u8) (Bs.ints s))],new:=[nm d]}else none
    |_=>none
    else none
   |none=>none
  |_,_=>none
 | .unsafeSliceData,[.vh n]=>match S.own? n with
  |some (.vec _ _ _)=>if kp P rt=true then k {val:= .sd n,acc:=[n]}else none
  |_=>none
 | .unsafeString,[.sd n, .lf (.int ki) l]=>match S.own? n,tys with
  |some (.vec te (.int .u8) xs),[pt,_]=>if Af P pt te=true/\P.cellsOf te=1/\ki= .i64 then
   if l=xs.length/\xs.length<=most then k {val:= .lf .str (Bs.bytes xs),acc:=[n],upd:=[(n, .gone xs.length)]}else none
   else none
  |_,_=>none
 |_,_=>none
def Lw{A:Type}(t:TypeId)(x i y:Operand)(S:TS V.N)(k:TE V.N->Option A):Option A:=match P.underlying t,tev S x,tev S i,tev S y with
 |some (.map kt _), .mp n, .lf tk key, .lf tv z=>match S.own? n with
  |some (.map tk' tv' es)=>if h:tk=tk' then
   if h':tv=tv' then
    if eU (P.underlying kt) tk'=true then k {val:= .junk,acc:=[n],upd:=[(n, .map tk' tv' (Mp.set (keq V.cells tk') (klt tk') (h▸key) (h'▸z) es))]}else none
   else none
   else none
  |_=>none
 |_,_,_,_=>none
def HJ{ι:Type}:Ty ι->Bool
 | .int _=>true
 | .bool=>true
 | .str=>true
 |_=>false
def steps{α:Type}:List α->List (α×List α)
 |[]=>[]
 |a::r=>(a,r)::(steps r).map λq=>(q.1,a::q.2)
open Classical in
noncomputable def same{A:Type}(l:List A):Option A:=
 if h:∃x,l≠[]/\∀a∈l,a=x then some h.choose else none
theorem sZ{A:Type}{l:List A}{x:A}:same l=some x↔l≠[]/\∀a∈l,a=x:=by
 unfold same
 constructor
 ·intro h
  split at h
  ·rename_i hx
   cases h
   exact hx.choose_spec
  ·cases h
 ·intro h
  have hx:∃x,l≠[]/\∀a∈l,a=x:=⟨x,h⟩
  rw[dif_pos hx]
  obtain⟨a,ha⟩:=List.exists_mem_of_ne_nil l h.1
  rw[<-h.2 a ha,<-hx.choose_spec.2 a ha]
noncomputable def G_{α A:Type}(l:List α)(k:α->Option A):Option A:=SO k l>>=same
theorem ma{α A:Type}{k:α->Option A}:∀{l:List α} {xs:List A},SO k l=some xs↔xs.length=l.length/\∀(i:Nat) (a:α),l[i]?=some a->k a=xs[i]?
 |[],xs=>by
  simp only[List.mapM_nil]
  constructor
  ·intro h;cases h;simp
  ·intro h;rw[QE h.1];rfl
 |a::r,xs=>by
  rw[Tk]
  constructor
  ·intro h
   cases hk:k a with
   |none=>rw[hk]at h;cases h
   |some y=>
    rw[hk]at h
    cases hr:SO k r with
    |none=>rw[hr]at h;cases h
    |some ys=>
     rw[hr]at h
     cases h
     obtain⟨h1,h2⟩:=ma.1 hr
     refine⟨by simp[h1],λi b hb=> ?_⟩
     cases i with
     |zero=>simp at hb;subst hb;simpa using hk
     |succ i=>simpa using h2 i b (by simpa using hb)
  ·intro ⟨h1,h2⟩
   cases xs with
   |nil=>simp at h1
   |cons y ys=>
    have hk:=h2 0 a rfl
    have hr:SO k r=some ys:=ma.2 ⟨by simpa using h1,λi b hb=>by simpa using h2 (i+1) b (by simpa using hb)⟩
    simp only[Ri]at hk
    rw[hk,hr];rfl
theorem wK{α A:Type}{l:List α}{k:α->Option A}{x:A}:G_ l k=some x↔l≠[]/\∀a∈l,k a=some x:=by
 unfold G_
 constructor
 ·intro h
  cases hm:SO k l with
  |none=>rw[hm]at h;cases h
  |some xs=>
   rw[hm]at h
   obtain⟨h1,h2⟩:=ma.1 hm
   obtain⟨h3,h4⟩:=sZ.1 h
   refine⟨λe=>h3 (QE (by rw[h1,e];rfl)),λa ha=> ?_⟩
   obtain⟨i,hi⟩:=RA ha
   rw[h2 i a hi]
   have:i<xs.length:=by rw[h1];exact(Qf.1 hi).1
   rw[Qi this,h4 _ (Q7 this)]
 ·intro ⟨h1,h2⟩
  have hm:SO k l=some (l.map λ_=>x):=ma.2 ⟨by simp,λi a hi=>by rw[h2 a (Qn hi),Qh,hi];rfl⟩
  rw[hm]
  exact sZ.2 ⟨by simpa using h1,by simp⟩
theorem Cd{α:Type}{l:List α}:∀{i:Nat} {a:α},l[i]?=some a->(a,l.eraseIdx i)∈steps l:=by
 induction l with
 |nil=>intro i a h;simp at h
 |cons x r ih=>
  intro i a h
  cases i with
  |zero=>simp at h;subst h;exact Qo
  |succ i=>exact Qm _ (QD.2 ⟨_,ih (by simpa using h),rfl⟩)
def uK:BinOp->Option Bool
 | .shl=>some true
 | .shr=>some false
 |_=>none
def tx{A:Type}(call:dl V)(ex:Bool)(o:Oper)(S:TS V.N)(k:TE V.N->Option A):Option A:=match o.op with
 | .move x=>k {val:=tev S x}
 | .assign x=>k {val:=tev S x}
 | .pick c x y=>match tev S c with
  | .lf .bool b=>if b=true then k {val:=tev S x}else k {val:=tev S y}
  |_=>none
 | .alloc t=>match gu P t,o.dst with
  |some z,some d=>if z.all c9=true then k {val:= .bp (nm d) 0,upd:=[(nm d, .box (r8 t z) (z.map tvc))],new:=[nm d]}else none
  |_,_=>none
 | .box t x=>match TV.cells V (tev S x),o.dst with
  |some cs,some d=>k {val:= .bp (nm d) 0,upd:=[(nm d,EF V (Df V t cs) (tev S x) cs)],new:=[nm d]}
  |_,_=>none
 | .load t x=>match cK P t with
  |some (ag,sz)=>match tev S x with
   | .bp n off=>match wy V ag off sz (V.ty t) (S.own? n)with
    |some v=>k {val:=v,acc:=[n]}
    |none=>match CW V (S.own? n)with
     |some cells=>match xl V ex ag sz (V.ty t) (cells.drop off)with
      |some v=>k {val:=v,acc:=[n]}
      |none=>none
     |none=>none
   | .ep n s i off=>match S.own? n with
    |some (.vec _ e xs)=>if s=tsz V.sz e then xs[i]?>>=λx=>match sc V ag sz (V.ty t) e x off with
     |some v=>k {val:=v,acc:=[n]}
     |none=>none
     else none
    |_=>none
   | .rp t' x off=>match sc V ag sz (V.ty t) t' x off with
    |some v=>k {val:=v}
    |none=>none
   |_=>none
  |none=>none
 | .store t x y=>match cK P t with
  |some (_,sz)=>match tev S x,TV.cells V (tev S y)with
   | .bp n off,some cs=>match CW V (S.own? n)with
    |some cells=>if cs.length=sz/\cs.all TV.one=true/\off+sz<=cells.length then
     if off=0/\sz=cells.length then k {val:= .junk,acc:=[n],upd:=[(n,EF V (LD V (S.own? n)) (tev S y) cs)]}
     else k {val:= .junk,acc:=[n],upd:=[(n, .box (LD V (S.own? n)) (cells.take off++cs++cells.drop (off+cs.length)))]}
     else none
    |none=>none
   | .ep n s i off,some cs=>match S.own? n with
    |some (.vec te e xs)=>if s=tsz V.sz e/\cs.length=sz/\cs.all TV.one=true/\off+sz<=s then
     xs[i]?>>=λx=>match di V true e ((((bC V e x).take off).map λl=> .lf l.t l.x)++cs++(((bC V e x).drop (off+cs.length)).map λl=> .lf l.t l.x))with
      |some y=>k {val:= .junk,acc:=[n],upd:=[(n, .vec te e (xs.set i y))]}
      |none=>none
     else none
    |_=>none
   |_,_=>none
  |none=>none
 | .nilCheck x=>match tev S x with
  | .bp n off=>k {val:= .bp n off}
  | .ep n s i off=>k {val:= .ep n s i off}
  | .rp t x off=>k {val:= .rp t x off}
  | .np n b=>if b=true then k {val:= .bp n 0}else none
  |_=>none
 | .binOp op xt x y _=>match tev S x,tev S y with
  | .lf (.int kx) a, .lf (.int ky) b=>match uK op with
   |some true=>if 0<=b then k {val:= .lf (.int kx) (Bs.ishl kx a b)}else none
   |some false=>if 0<=b then k {val:= .lf (.int kx) (Bs.ishr kx a b)}else none
   |none=>if kx=ky then match op with
    | .add=>k {val:= .lf (.int kx) (kx.wrap (a+b))}
    | .sub=>k {val:= .lf (.int kx) (kx.wrap (a-b))}
    | .mul=>k {val:= .lf (.int kx) (kx.wrap (a *b))}
    | .eql=>k {val:= .lf .bool (a==b)}
    | .neq=>k {val:= .lf .bool (a !=b)}
    | .lss=>k {val:= .lf .bool (decide (a<b))}
    | .leq=>k {val:= .lf .bool (decide (a<=b))}
    | .gtr=>k {val:= .lf .bool (decide (a>b))}
    | .geq=>k {val:= .lf .bool (decide (a>=b))}
    | .quo=>if b=0 then none else k {val:= .lf (.int kx) (kx.wrap (a.tdiv b))}
    | .rem=>if b=0 then none else k {val:= .lf (.int kx) (a.tmod b)}
    | .and=>k {val:= .lf (.int kx) (Bs.iand kx a b)}
    | .or=>k {val:= .lf (.int kx) (Bs.ior kx a b)}
    | .xor=>k {val:= .lf (.int kx) (Bs.ixor kx a b)}
    | .andNot=>k {val:= .lf (.int kx) (Bs.iandn kx a b)}
    |_=>none
   else none
  | .lf .bool a, .lf .bool b=>match P.underlying xt,op with
   |some .bool, .eql=>k {val:= .lf .bool (a==b)}
   |some .bool, .neq=>k {val:= .lf .bool (!(a==b))}
   |_,_=>none
  | .lf .str a, .lf .str b=>match op with
   | .eql=>k {val:= .lf .bool (a.toList==b.toList)}
   | .neq=>k {val:= .lf .bool (!(a.toList==b.toList))}
   | .add=>if a.size+b.size<=most then k {val:= .lf .str (a++b)}else none
   |_=>none
  | .raw (.slice a _ _), .raw (.slice none 0 0)=>match isSl P xt,op with
   |true, .eql=>k {val:= .lf .bool a.isNone}
   |true, .neq=>k {val:= .lf .bool (!a.isNone)}
   |_,_=>none
  | .lf (.sl _) (_::_), .raw (.slice none 0 0)=>match isSl P xt,op with
   |true, .eql=>k {val:= .lf .bool false}
   |true, .neq=>k {val:= .lf .bool true}
   |_,_=>none
  | .np _ b, .raw (.pointer none)=>match kp P xt,op with
   |true, .eql=>k {val:= .lf .bool (!b)}
   |true, .neq=>k {val:= .lf .bool b}
   |_,_=>none
  | .lf .er b, .raw .nilIface=>if HF P xt=true/\Ad y=true then match op with
    | .eql=>k {val:= .lf .bool (!b)}
    | .neq=>k {val:= .lf .bool b}
    |_=>none
   else none
  |_,_=>none
 | .makeInterface t _=>match Ih P t with
  |true=>k {val:= .lf .er true}
  |false=>none
 | .unOp op _ x=>match op,tev S x with
  | .not, .lf .bool b=>k {val:= .lf .bool (!b)}
  | .neg, .lf (.int ki) n=>k {val:= .lf (.int ki) (ki.wrap (0-n))}
  |_,_=>none
 | .convert s t x=>match P.underlying s,P.underlying t,tev S x with
  |some _,some (.int ki), .lf (.int _) n=>k {val:= .lf (.int ki) (ki.wrap n)}
  |some _,some .string, .lf (.int _) n=>k {val:= .lf .str (Bs.enc1 n)}
  |some .string,some (.slice e), .lf .str x=>match P.underlying e,o.dst with
   |some (.int .i32),some d=>if x.size<=most then k {val:= .vh (nm d),upd:=[(nm d, .vec e (.int .i32) (Bs.runes x))],new:=[nm d]}else none
   |some (.int .u8),_=>k {val:= .lf (.sl (.int .u8)) (Bs.ints x)}
   |_,_=>none
  |some (.slice e),some .string, .lf (.sl (.int ik)) xs=>match P.underlying e,ik with
   |some (.int .i32), .i32=>k {val:= .lf .str (Bs.text xs)}
   |some (.int .u8), .u8=>k {val:= .lf .str (Bs.bytes xs)}
   |_,_=>none
  |some (.slice e),some .string, .raw (.slice none 0 0)=>match P.underlying e with
   |some (.int .i32)=>k {val:= .lf .str Rr}
   |some (.int .u8)=>k {val:= .lf .str Rr}
   |_=>none
  |_,_,_=>none
 | .build t parts=>match gu P t,places P t with
  |some z,some pl=>if z.all c9=true then match tY V pl (z.map tvc) (parts.toList.map λ(i,x)=>(i,tev S x))with
   |some cs=>match L3 nm o.dst with
    |true=>k {val:= .agg cs}
    |false=>k {val:=mkV V ex (V.ty t) cs}
   |none=>none
   else none
  |_,_=>none
 | .buildSlice t len parts=>match cj P t,V.ty t with
  |some (te,sz,_),some (.sl e)=>if sz=tsz V.sz e then match xR V ex e 0 (parts.toList.map λ(i,x)=>(i,fnT (tev S x)))with
   |some ys=>if parts.toList.length=len/\len *sz<=16777216 then match o.dst with
    |some d=>if nm d=d then k {val:= .lf (.sl e) ys}else k {val:= .vh (nm d),upd:=[(nm d, .vec te e ys)],new:=[nm d]}
    |none=>k {val:= .lf (.sl e) ys}
    else none
   |none=>none
   else none
  |_,_=>none
 | .makeSlice t l c=>match cj P t,V.ty t,o.dst with
  |some (te,sz,bytes),some (.sl e),some d=>match gu P te,tev S l,tev S c with
   |some z, .lf (.int _) n, .lf (.int _) m=>match di V ex e (z.map tvc)with
    |some y=>if sz=tsz V.sz e/\bytes<=32768/\z.all c9=true then
     match pG l c with
     |true=>if 0<=m then
      if m<=4294967296 then k {val:= .vh (nm d),upd:=[(nm d, .vec te e (QK m.toNat y))],new:=[nm d]}else none
      else none
     |false=>if n=0 then
      if 0<=m then
       if m<=4294967296 then k {val:= .vh (nm d),upd:=[(nm d, .vec te e [])],new:=[nm d]}else none
      else none
      else none
     else none
    |none=>none
   |_,_,_=>none
  |_,_,_=>none
 | .makeMap t hint=>match P.underlying t,o.dst with
  |some (.map kt et),some d=>match V.ty kt,V.ty et with
   |some tk,some tv=>if Kb V S hint=true then k {val:= .mp (nm d),upd:=[(nm d, .map tk tv [])],new:=[nm d]}else none
   |_,_=>none
  |_,_=>none
 | .lookup t x i c=>match P.underlying t,tev S x,tev S i with
  |some (.map kt et), .mp n, .lf tk key=>match S.own? n,kI P et with
   |some (.map tk' tv es),some d=>match ofZ V ex tv d with
    |some z=>if h:tk=tk' then
     if eU (P.underlying kt) tk'=true then match c with
      |true=>k {val:= .tup [.lf tv ((Mp.get (keq V.cells tk') (h▸key) es).getD z), .lf .bool (Mp.get (keq V.cells tk') (h▸key) es).isSome],acc:=[n]}
      |false=>k {val:= .lf tv ((Mp.get (keq V.cells tk') (h▸key) es).getD z),acc:=[n]}
     else none
     else none
    |none=>none
   |_,_=>none
  |_,_,_=>none
 | .range t x=>match P.underlying t,tev S x,o.dst with
  |some .string, .lf .str s,some d=>k {val:= .bp (nm d) 0,upd:=[(nm d, .iter s 0)],new:=[nm d]}
  |some (.map _ _), .mp m,some d=>match S.own? m with
   |some (.map tk tv es)=>k {val:= .bp (nm d) 0,acc:=[m],upd:=[(nm d, .miter m tk tv es es none),(m, .gone 0)],new:=[nm d]}
   |_=>none
  |_,_,_=>none
 | .next x true=>match tev S x with
  | .bp n 0=>match S.own? n with
   |some (.iter s p)=>if 0<=p then
    if p<s.size then k {val:= .tup [.lf .bool true, .lf (.int .i64) p, .lf (.int .i32) (Bs.dec s p)],acc:=[n],upd:=[(n, .iter s (p+Bs.wid s p))]}
    else k {val:= .tup [.lf .bool false],acc:=[n]}
    else none
   |_=>none
  |_=>none
 | .entry x=>match tev S x with
  | .bp n 0=>match S.own? n with
   |some (.miter _ tk tv _ _ (some p))=>if HJ tk=true then k {val:= .tup [.lf tk p.1, .lf tv p.2],acc:=[n]}else none
   |_=>none
  |_=>none
 | .mapUpdate t x i y=>Lw V P t x i y S k
 | .insert t x i y=>Lw V P t x i y S k
 | .fieldAddr s x f=>match qq P s f with
  |some fo=>match tev S x with
   | .bp n off=>k {val:= .bp n (off+fo)}
   | .ep n sz i off=>k {val:= .ep n sz i (off+fo)}
   | .rp t x off=>if off+fo<=(bC V t x).length then k {val:= .rp t x (off+fo)}else none
   |_=>none
  |none=>none
 | .field s x f=>match qr P s f,tev S x with
  |some (off,ag,sz), .lf t y=>if t.cell=false then match sc V ag sz (match P.underlying s with|some (.struct fs)=>(fs[f]?).bind λfd=>V.ty fd.type|_=>none) t y off with
   |some v=>k {val:=v}
   |none=>none
   else none
  |some (off,ag,sz), .agg cs=>match xl V ex ag sz (match P.underlying s with|some (.struct fs)=>(fs[f]?).bind λfd=>V.ty fd.type|_=>none) (cs.drop off)with
   |some v=>k {val:=v}
   |none=>none
  |_,_=>none
 | .indexAddr t x i=>match cj P t with
  |some (_,sz,_)=>match tev S x,tev S i with
   | .lf (.sl e) xs, .lf (.int _) n=>if sz=tsz V.sz e then
     if 0<=n then xs[n.toNat]?>>=λx=>k {val:= .rp e x 0}else none
    else none
   | .vh m, .lf (.int _) n=>match S.own? m with
    |some (.vec _ _ xs)=>if 0<=n/\n<xs.length then k {val:= .ep m sz n.toNat 0,acc:=[m]}else none
    |_=>none
   |_,_=>none
  |none=>none
 | .index t x i=>match P.underlying t,tev S x,tev S i with
  |some .string, .lf .str s, .lf (.int _) n=>if 0<=n then s[n.toNat]?>>=λb=>k {val:= .lf (.int .u8) b.toNat}else none
  |_,_,_=>none
 | .slice t x lo hi none=>match P.underlying t,tev S x with
  |some .string, .lf .str s=>match F5 V S lo 0,F5 V S hi s.size with
   |some l,some h=>if 0<=l/\l<=h/\h<=s.size then k {val:= .lf .str (s.extract l.toNat h.toNat)}else none
   |_,_=>none
  |some (.slice _), .lf (.sl e) xs=>match cj P t,F5 V S lo 0,F5 V S hi xs.length with
   |some (_,sz',_),some l,some h=>if sz'=tsz V.sz e then
    if 0<=l/\l<=h/\h<=xs.length then k {val:= .lf (.sl e) ((xs.take h.toNat).drop l.toNat)}else none
    else none
   |_,_,_=>none
  |_,_=>none
 | .extract x i=>match tev S x with
  | .tup vs=>match vs[i]? with
   |some v=>k {val:=v}
   |none=>none
  |_=>none
 | .makeFunc (.func f) first captured=>k {val:= .fn f (first.toList.map (tev S)) (captured.toList.map (tev S))}
 | .call c=>match c.callee with
  | .value f=>match tev S f with
   | .fn fid first captured=>call A fid (first++c.args.toList.map (tev S)++captured) S k
   | .lf .fnc fid=>call A fid (c.args.toList.map (tev S)) S k
   | .lf .fno x=>x>>=λfid=>call A fid (c.args.toList.map (tev S)) S k
   |_=>none
  | .builtin b=>ws V P nm b o.type (c.args.toList.map (tev S)) c.argTypes.toList o.dst S k
  |_=>none
 |_=>none
end
end Go.Tx
end
section
namespace Go.Tx
open Go.Awp
variable [Inhabited GMem]
structure ELe (ex:Bool) (e' e:Eff):Prop where
 val:H.le e'.val e.val
 new:e'.new=e.new
 none:∀n,gt e.upd n=none->gt e'.upd n=none
 some:∀n o,gt e.upd n=some (some o)->∃o',gt e'.upd n=some (some o')/\OLe o' o
 eq:ex=true->e'.val=e.val/\e'.upd=e.upd/\e'.acc=e.acc
theorem Sim.le{C:Ctx}{E:Env}{M:Mem}{S S':aA}{a:Act}{w:World}(h:Sim C E M S a w)
 (ht:∀t x,gt S'.tmps t=some x->∃y,gt S.tmps t=some y/\H.le y x)(ho:∀n o,S'.own? n=some o->∃o',S.own? n=some o'/\OLe o' o):Sim C E M S' a w:=
 { h with
   tmps:=λt x hx=>by
    obtain⟨y,hy,hle⟩:=ht t x hx
    obtain⟨v,hv,hr⟩:=h.tmps t y hy
    exact⟨v,hv,hle E M v hr⟩
   own:=λn o hn=>by
    obtain⟨o',ho',hle⟩:=ho n o hn
    exact hle.ok E M w n (h.own n o' ho')
   apart:=λn m o o' b hne hn hm hb hb'=>by
    obtain⟨o1,h1,l1⟩:=ho n o hn
    obtain⟨o2,h2,l2⟩:=ho m o' hm
    exact h.apart n m o1 o2 b hne h1 h2 (l1.foot E M w n b (h.own n o1 h1) hb) (l2.foot E M w m b (h.own m o2 h2) hb')
   home:=λn o b hn hb=>by
    obtain⟨o1,h1,l1⟩:=ho n o hn
    exact h.home n o1 b h1 (l1.foot E M w n b (h.own n o1 h1) hb)}
theorem H.le.junk(x:H):H.le x .junk:=λ_ _ v _=> .junk v
theorem OLe.box{o o':Option TypeId}(ho:o=none\/o=o'){l l':List H}(hl:l'.length=l.length)(h:∀(i:Nat) (x:H),l[i]?=some x->∃y,l'[i]?=some y/\H.le y x):OLe (.box o' l') (.box o l):=by
 refine⟨?_,λ_ _ _ _ _ _ h=>h⟩
 rintro E M w n ⟨b,cs,ty,h1,h2,h3,h4,h5,h6⟩
 refine⟨b,cs,ty,h1,h2,by omega,λi c x hc hx=> ?_,h5,λt ht=>by
  rcases ho with ho|ho
  ·rw[ho]at ht;cases ht
  ·rw[ho]at ht;exact h6 t ht⟩
 obtain⟨y,hy,hle⟩:=h i x hx
 exact hle E M c (h4 i c y hc hy)
section
variable {V:gW}
def f6(ω:Nat->Nat)(e:TE V.N):Eff:={val:=aK V ω e.val,acc:=e.acc,upd:=e.upd.map λp=>(p.1,bS V ω p.2),new:=e.new}
def good(S:TS V.N)(e:TE V.N):Prop:=∀m o,gt e.upd m=some o->m∈e.new\/TO.len (some o)=S.len m
theorem lT(S:TS V.N)(dst:Option Tmp)(e:TE V.N)(n:Nat):(S.app dst e).own? n=match gt e.upd n with
 |some o=>some o
 |none=>S.own? n:=by
 unfold TS.app TS.own?
 simp only[eL]
 cases gt e.upd n<;>rfl
theorem dt(S:TS V.N)(dst:Option Tmp)(e:TE V.N)(n:Nat):(S.app dst e).len n=match gt e.upd n with
 |some o=>TO.len (some o)
 |none=>S.len n:=by
 unfold TS.len
 rw[lT]
 cases gt e.upd n<;>rfl
theorem fresh_tmp{S:TS V.N}{n:Nat}(h:S.fresh n=true){t:Nat}{x:TV V.N}(hx:gt S.tmps t=some x):TV.has n x=false:=by
 simp[TS.fresh]at h;exact h.1.2 _ _ (cz hx)
theorem fresh_own{S:TS V.N}{n:Nat}(h:S.fresh n=true){m:Nat}{o:TO V.N}(ho:S.own? m=some o):TO.has n o=false:=by
 simp[TS.fresh]at h;exact h.2 _ _ (cz ho)
theorem CO{S:TS V.N}{dst:Option Tmp}{te:TE V.N}(hg:good S te)(hn:∀d∈te.new,S.fresh d=true):
 (∀t v,gt S.tmps t=some v->aK V (S.app dst te).len v=aK V S.len v)/\(∀n o,S.own? n=some o->bS V (S.app dst te).len o=bS V S.len o):=by
 have keep:∀n,n∉te.new->(S.app dst te).len n=S.len n:=by
  intro n hnn
  rw[dt]
  cases hu:gt te.upd n with
  |none=>rfl
  |some o=>exact(hg n o hu).resolve_left hnn
 refine⟨λt v hv=>iA v λn hnv=>keep n λhd=> ?_,λn o ho=>o8 o λm hm=>keep m λhd=> ?_⟩
 ·rw[fresh_tmp (hn n hd) hv]at hnv;cases hnv
 ·rw[fresh_own (hn m hd) ho]at hm;cases hm
theorem qp{S:TS V.N}{dst:Option Tmp}{te:TE V.N}(hg:good S te)(hn:∀d∈te.new,S.fresh d=true):
 (∀t,gt (aV V (S.app dst te)).tmps t=gt ((aV V S).app dst (f6 (S.app dst te).len te)).tmps t)/\
 (∀n,(aV V (S.app dst te)).own? n=((aV V S).app dst (f6 (S.app dst te).len te)).own? n):=by
 obtain⟨k1,k2⟩:=CO (dst:=dst) hg hn
 refine⟨λt=> ?_,λn=> ?_⟩
 ·rw[cC]
  have:gt (S.app dst te).tmps t=if dst=some t then some te.val else gt S.tmps t:=by
   unfold TS.app Lt
   cases dst with
   |none=>simp
   |some d=>simp only[aE,Qd]
  rw[this]
  simp only[aA.app,oD]
  cases dst with
  |none=>
   simp only[reduceCtorEq,TL,cC]
   cases hq:gt S.tmps t with
   |none=>rfl
   |some v=>simp only[QG];rw[k1 t v hq]
  |some d=>
   simp only[aE,Qd,cC]
   by_cases hd:d=t
   ·rw[TP hd,TP hd];rfl
   ·rw[TN hd,TN hd]
    cases hq:gt S.tmps t with
    |none=>rfl
    |some v=>simp only[QG];rw[k1 t v hq]
 ·rw[aZ,lT]
  simp only[aA.own?,aA.app,eL]
  have hu:gt (f6 (S.app dst te).len te).upd n=(gt te.upd n).map (bS V (S.app dst te).len):=by simp only[f6,gb]
  rw[hu]
  cases hq:gt te.upd n with
  |some o=>rfl
  |none=>
   simp only[Sf]
   have:=aZ S n
   unfold aA.own? at this
   rw[this]
   cases ho:S.own? n with
   |none=>rfl
   |some o=>simp only[Qe];rw[k2 n o ho]
theorem Sim.tapp{C:Ctx}{E:Env}{M:Mem}{S:TS V.N}{dst:Option Tmp}{te:TE V.N}{e':Eff}{a:Act}{w:World}{ex:Bool}(hg:good S te)(hn:∀d∈te.new,S.fresh d=true)
 (hle:ELe ex e' (f6 (S.app dst te).len te))(hs:Sim C E M ((aV V S).app dst e') a w):Sim C E M (aV V (S.app dst te)) a w:=by
 obtain⟨h1,h2⟩:=qp (dst:=dst) hg hn
 refine Sim.le hs (λt x hx=> ?_) (λn o ho=> ?_)
 ·rw[h1]at hx
  simp only[aA.app,oD]at hx⊢
  cases dst with
  |none=>exact⟨x,hx,H.le.refl _⟩
  |some d=>
   simp only[aE]at hx⊢
   by_cases hd:d=t
   ·rw[TP hd]at hx⊢;simp at hx;subst hx;exact⟨_,rfl,hle.val⟩
   ·rw[TN hd]at hx⊢;exact⟨x,hx,H.le.refl _⟩
 ·rw[h2]at ho
  simp only[aA.own?,aA.app,eL]at ho⊢
  cases hu:gt (f6 (S.app dst te).len te).upd n with
  |none=>
   rw[hu]at ho
   rw[hle.none n hu]
   exact⟨o,ho,OLe.refl _⟩
  |some oo=>
   rw[hu]at ho
   simp at ho
   subst ho
   obtain⟨o',k1,k2⟩:=hle.some n o hu
   exact⟨o',by rw[k1];rfl,k2⟩
theorem aI(S:TS V.N)(x:Operand):ev (aV V S) x=aK V S.len (tev S x):=by
 cases x with
 |tmp t=>exact C7 S t
 |const v=>cases v<;>simp[ev,tev,tvc,aK,aY,bZ]
 |global g=>simp[ev,tev,aK,bZ]
 |func f=>simp[ev,tev,aK,encL]
theorem i6(ω:Nat->Nat)(i:V.ι)(x:V.N i):aK V ω (.lf (.st i) x)= .d (.agg (V.enc i x)):=by simp only[aK,aY]
theorem cN:∀(t:Ty V.ι) (x:den V.N t),bN V.sz V.enc t x=(bC V t x).map λl=>aY V.sz V.enc l.t l.x
 | .st i,x=>by simp only[bN,bC];exact V.enc_cells i x
 | .ar n e,xs=>by
  simp only[bN,bC,Hb,List.map_flatten,QJ]
  congr 2
  exact QL λx _=>cN e x
 | .int _,x=>rfl
 | .bool,x=>rfl
 | .str,x=>rfl
 | .sl e,x=>rfl
 | .mp k v,x=>rfl
 | .er,x=>rfl
 | .op e,x=>rfl
 | .fnc,x=>rfl
 | .fno,x=>rfl
theorem dN:∀l:List D,DD.toL (l.map .d)=some l
 |[]=>by simp[DD.toL]
 |x::r=>by simp[DD.toL,DD.toD,dN r]
theorem IW(m:Nat)(x:D):DD.toL (QK m (.d x))=some (QK m x):=by
 have:=dN (QK m x)
 rwa [RZ]at this
theorem wu:∀{l:List DD} {r:List D} (m:Nat),DD.toL l=some r->DD.toL (l.take m)=some (r.take m)
 |_,_,0,_=>by simp[DD.toL]
 |[],r,m+1,h=>by simp[DD.toL]at h;subst h;simp[DD.toL]
 |x::l,r,m+1,h=>by
  simp only[DD.toL]at h
  split at h
  ·rename_i y z hy hz
   cases h
   simp only[Tt,DD.toL,hy,wu m hz]
  ·cases h
theorem m_:∀(t:Ty V.ι) (x:den V.N t),DD.toL (eK V.sz V.enc V.tid V.encd t x)=some (bN V.sz V.enc t x)
 | .st i,x=>by simp only[eK,bN];exact V.encd_toL i x
 | .sl e,xs=>by
  have h:DD.toR (xs.map λx=>eK V.sz V.enc V.tid V.encd e x)=some (xs.map λx=>bN V.sz V.enc e x):=by
   induction xs with
   |nil=>simp[DD.toR]
   |cons x r ih=>simp[DD.toR,m_ e x,ih]
  simp[eK,bN,DD.toL,DD.toD,h]
 | .int k,x=>by simp only[eK];exact dN _
 | .bool,x=>by simp only[eK];exact dN _
 | .str,x=>by simp only[eK];exact dN _
 | .mp k v,x=>by simp only[eK];exact dN _
 | .er,x=>by simp only[eK];exact dN _
 | .op e,x=>by simp only[eK];exact dN _
 | .fnc,x=>by simp only[eK];exact dN _
 | .fno,x=>by simp only[eK];exact dN _
 | .ar n e,xs=>by
  have h:DD.toL (xs.map λx=>eK V.sz V.enc V.tid V.encd e x).flatten=some (xs.map λx=>bN V.sz V.enc e x).flatten:=by
   induction xs with
   |nil=>simp[DD.toL]
   |cons x r ih=>simp only[Qp,Q4];exact DD.toL_app (m_ e x) ih
  simp only[eK,bN,arL]
  exact wu _ (DD.toL_app h (IW _ _))
theorem qX{e:Ty V.ι}:∀ys:List (den V.N e),DD.toR (ys.map λx=>eK V.sz V.enc V.tid V.encd e x)=some (ys.map λx=>bN V.sz V.enc e x)
 |[]=>by simp[DD.toR]
 |y::r=>by
  have:=qX r
  simp only[Qp,DD.toR,m_]at this⊢
  rw[this]
theorem gn(t:Ty V.ι)(x:den V.N t):(bC V t x).length=tsz V.sz t:=by
 cases t with
 |st i=>exact V.len_cells i x
 |ar n e=>exact Ha _ _ _
 |_=>rfl
theorem co(t:Ty V.ι)(x:den V.N t):(bN V.sz V.enc t x).length=tsz V.sz t:=by
 rw[cN,Qg,gn]
theorem Hc{α:Type}{m:Nat}{pad y:α}{l:List α}(h:y∈arL m pad l):y∈l\/y=pad:=by
 unfold arL at h
 rcases Q0.1 (QY h)with h|h
 ·exact .inl h
 ·exact .inr (SM.1 h).2
theorem n8:∀(t:Ty V.ι) (x:den V.N t),∀l∈bC V t x,l.t.cell=true
 | .st i,x=>V.one_cells i x
 | .ar n e,xs=>λl hl=>by
  rcases Hc hl with h|h
  ·obtain⟨c,h1,h2⟩:=List.mem_flatten.1 h
   obtain⟨x,_,rfl⟩:=QD.1 h1
   exact n8 e x l h2
  ·subst h;rfl
 | .int _,x=>by simp[bC,Ty.cell]
 | .bool,x=>by simp[bC,Ty.cell]
 | .str,x=>by simp[bC,Ty.cell]
 | .sl e,x=>by simp[bC,Ty.cell]
 | .mp k v,x=>by simp[bC,Ty.cell]
 | .er,x=>by simp[bC,Ty.cell]
 | .op e,x=>by simp[bC,Ty.cell]
 | .fnc,x=>by simp[bC,Ty.cell]
 | .fno,x=>by simp[bC,Ty.cell]
theorem rL{l:dB V.N}(h:l.t.cell=true):(H.d (aY V.sz V.enc l.t l.x)).one=true:=by
 obtain⟨t,x⟩:=l
 cases t<;>first|(simp[Ty.cell]at h;done)|rfl|exact Im _|exact Da _
theorem qu{ω:Nat->Nat}(v:TV V.N):aK V ω (fnT v)=fnD (aK V ω v):=by
 unfold fnT
 split
 ·simp[aK,encL,fnD,aY]
 ·rename_i hno
  cases v with
  |fn f a b=>
   simp only[aK]
   unfold fnD
   split
   ·rename_i h
    cases a with
    |nil=>cases b with
     |nil=>exact(hno f rfl).elim
     |cons _ _=>simp[encL]at h
    |cons _ _=>simp[encL]at h
   ·rfl
  |agg cs=>simp only[aK,cq];split<;>rfl
  |raw v=>cases v<;>rfl
  |_=>rfl
theorem xg(x:Option Nat):(H.d (CG x)).cells=some [H.d (CG x)]:=by cases x<;>rfl
theorem A8(x:Option (List D)):(H.d (opD x)).cells=some [H.d (opD x)]:=by cases x<;>rfl
theorem dC{ω:Nat->Nat}{v:TV V.N}{cs:List (TV V.N)}(h:TV.cells V v=some cs):(aK V ω v).cells=some (encL V ω cs):=by
 cases v with
 |lf t x=>
  simp only[TV.cells,Qd]at h
  subst h
  have e:encL V ω ((bC V t x).map λl=>TV.lf l.t l.x)=(bN V.sz V.enc t x).map H.d:=by
   rw[cN,aO,QJ,QJ]
   exact QL λl _=>by simp[aK]
  rw[e]
  cases t with
  |op e=>simp only[aK,aY,bN,A8,Qp,QW]
  |fno=>simp only[aK,aY,bN,xg,Qp,QW]
  |_=>simp[aK,aY,bN,H.cells,c9]
 |raw v=>
  simp only[TV.cells]at h
  split at h
  ·rename_i hc
   simp at h;subst h
   cases v<;>first|(simp[c9]at hc;done)|simp[aK,encL,bZ,H.cells,c9]
  ·cases h
 |agg cs'=>
  simp only[TV.cells,Qd]at h
  subst h
  simp only[aK,cq]
  split
  ·rename_i ds hds
   simp only[H.cells]
   congr 1
   obtain⟨h1,h2⟩:=eX hds
   apply Rw
   intro i
   rw[h2,Qh]
  ·rfl
 |tup vs=>simp[TV.cells]at h
 |junk=>simp[TV.cells]at h
 |rp t x off=>simp[TV.cells]at h;subst h;simp[aK,encL,H.cells]
 |bp n off=>simp[TV.cells]at h;subst h;simp[aK,encL,H.cells]
 |vh n=>simp[TV.cells]at h;subst h;simp[aK,encL,H.cells]
 |ep n s i off=>simp[TV.cells]at h;subst h;simp[aK,encL,H.cells]
 |sv n s i off=>simp[TV.cells]at h;subst h;simp[aK,encL,H.cells]
 |mp n=>simp[TV.cells]at h;subst h;simp[aK,encL,H.cells]
 |np n b=>simp[TV.cells]at h;subst h;simp[aK,encL,H.cells]
 |sd n=>simp[TV.cells]at h;subst h;simp[aK,encL,H.cells]
 |fn f a b=>simp[TV.cells]at h;subst h;simp[aK,encL,H.cells]
 |ai n s i off=>simp[TV.cells]at h;subst h;simp[aK,encL,H.cells]
theorem A7{ω:Nat->Nat}{v:TV V.N}(h:v.one=true):(aK V ω v).one=true:=by
 cases v with
 |lf t x=>simp only[TV.one]at h;simp only[aK];exact rL (l:=⟨t,x⟩) h
 |raw v=>
  simp only[TV.one,Qk]at h
  cases v<;>first|(simp[c9]at h;done)|(simp only[aK,bZ,H.one,D.one];exact h.2)
 |agg cs=>simp[TV.one]at h
 |tup cs=>simp[TV.one]at h
 |junk=>simp[TV.one]at h
 |_=>simp[aK,H.one,D.one]
theorem eY{ω:Nat->Nat}{l:List (TV V.N)}(h:l.all TV.one=true):(encL V ω l).all H.one=true:=by
 rw[aO,RI]
 rw[Qq]at h⊢
 exactλx hx=>A7 (h x hx)
theorem vG(t:Ty V.ι)(l:dB V.N):aY V.sz V.enc (LX V t l).t (LX V t l).x=aY V.sz V.enc l.t l.x:=by
 obtain⟨t',x⟩:=l
 cases t'<;>try rfl
 cases t<;>rfl
theorem cW{ω:Nat->Nat}{ex:Bool}:∀{ts:List (Ty V.ι)} {cs:List (TV V.N)} {ls:List (dB V.N)},de V ex ts cs=some ls->
 ∃ds,encL V ω cs=ds.map H.d/\D.Les ds (ls.map λl=>aY V.sz V.enc l.t l.x)/\(ex=true->ds=ls.map λl=>aY V.sz V.enc l.t l.x)
 |[],[],ls,h=>by simp[de]at h;subst h;exact⟨[],rfl, .nil,λ_=>rfl⟩
 |[],_::_,ls,h=>by simp[de]at h
 |_::_,[],ls,h=>by simp[de]at h
 |t::ts,x::xs,ls,h=>by
  simp only[de]at h
  split at h
  ·rename_i l ls' h1 h2
   simp at h;subst h
   obtain⟨ds,e1,e2,e3⟩:=cW (ω:=ω) h2
   cases x with
   |lf t' y=>
    simp only[kN,Qd]at h1;subst h1
    exact⟨aY V.sz V.enc t' y::ds,by simp[encL,aK,e1], .cons ((vG (V:=V) t ⟨t',y⟩)▸D.le.refl _) e2,λhx=>by simp[e3 hx,vG]⟩
   |raw v=>
    simp only[kN]at h1
    split at h1
    ·simp at h1;subst h1
     exact⟨.v (.pointer none)::ds,by simp[encL,aK,bZ,e1], .cons (D.le.refl _) e2,λhx=>by rw[e3 hx];rfl⟩
    ·simp at h1;subst h1
     exact⟨.v .nilFunc::ds,by simp[encL,aK,bZ,e1], .cons (D.le.refl _) e2,λhx=>by rw[e3 hx];rfl⟩
    ·split at h1
     ·cases h1
     ·simp at h1;subst h1
      exact⟨.v (.slice none 0 0)::ds,by simp[encL,aK,bZ,e1], .cons (D.le.nil _) e2,λhx=>by simp at hx⟩
    ·split at h1
     ·cases h1
     ·simp at h1;subst h1
      exact⟨.v .nilIface::ds,by simp[encL,aK,bZ,e1], .cons D.le.ern e2,λhx=>by simp at hx⟩
    ·cases h1
   |_=>simp[kN]at h1
  ·cases h
theorem dH(ds:List D):fW (ds.map H.d)=some ds:=by
 induction ds with
 |nil=>rfl
 |cons x r ih=>simp[fW,ih]
theorem ib{ω:Nat->Nat}{ex:Bool}{ot:Option (Ty V.ι)}{cs:List (TV V.N)}:H.le (cq (encL V ω cs)) (aK V ω (mkV V ex ot cs))/\(ex=true->cq (encL V ω cs)=aK V ω (mkV V ex ot cs)):=by
 unfold mkV
 have dflt:H.le (cq (encL V ω cs)) (aK V ω (.agg cs))/\(ex=true->cq (encL V ω cs)=aK V ω (.agg cs)):=by
  rw[aK];exact⟨H.le.refl _,λ_=>rfl⟩
 split
 ·rename_i i
  split
  ·rename_i ls hls
   split
   ·rename_i x hx
    obtain⟨ds,e1,e2,e3⟩:=cW (ω:=ω) hls
    have hc:=V.of_cells i ls x hx
    have he:aK V ω (.lf (.st i) x)= .d (.agg (ls.map λl=>aY V.sz V.enc l.t l.x)):=by
     rw[i6,V.enc_cells,hc]
    rw[e1,cq,dH,he]
    exact⟨H.le.d (D.le.agg e2),λh=>by rw[e3 h]⟩
   ·exact dflt
  ·exact dflt
 ·exact dflt
theorem jb{ω:Nat->Nat}{ex ag:Bool}{sz:Nat}{ot:Option (Ty V.ι)}{cells:List (TV V.N)}{v:TV V.N}(h:xl V ex ag sz ot cells=some v):
 ∃x,e_ ag sz (encL V ω cells)=some x/\H.le x (aK V ω v)/\(ex=true->x=aK V ω v):=by
 cases ag with
 |true=>
  simp only[xl]at h
  split at h
  ·rename_i hle
   simp at h;subst h
   refine⟨cq (encL V ω (cells.take sz)),?_,ib⟩
   simp only[e_,aO,Qg]
   rw[TP hle,Q9]
  ·cases h
 |false=>
  simp only[xl]at h
  cases cells with
  |nil=>simp at h
  |cons c r=>simp at h;subst h;exact⟨aK V ω c,by simp[e_,encL],H.le.refl _,λ_=>rfl⟩
theorem fm{ω:Nat->Nat}{ag:Bool}{sz:Nat}{ot:Option (Ty V.ι)}{t:Ty V.ι}{x:den V.N t}{off:Nat}{v:TV V.N}(h:sc V ag sz ot t x off=some v):
 ∃d,dK ag sz ((bN V.sz V.enc t x).drop off)=some d/\aK V ω v= .d d:=by
 cases ag with
 |true=>
  simp only[sc]at h
  split at h
  ·rename_i hc
   obtain⟨h1,h2,h3,h4⟩:=hc
   simp at h;subst h
   subst h1;subst h4
   have hl:=co t x
   refine⟨.agg (bN V.sz V.enc t x),?_,?_⟩
   ·simp only[dK,QV]
    rw[TP (by omega),QP (by omega)]
   ·cases t<;>first|(simp[Ty.cell]at h3;done)|simp[aK,aY,bN]
  ·split at h
   ·split at h
    ·rename_i hle
     split at h
     ·rename_i y hy
      simp at h;subst h
      have hc:=V.of_cells _ _ _ hy
      refine⟨.agg (((bN V.sz V.enc t x).drop off).take sz),?_,?_⟩
      ·simp only[dK]
       rw[TP (by rw[QO,co];rw[gn]at hle;omega)]
      ·rw[i6,V.enc_cells,hc,cN,Q9,Q_]
     ·cases h
    ·cases h
   ·cases h
 |false=>
  simp only[sc]at h
  split at h
  ·rename_i l hl
   simp at h;subst h
   refine⟨aY V.sz V.enc l.t l.x,?_,by simp[aK]⟩
   simp only[dK,cN]
   rw[<-Q_,List.head?_map,hl];rfl
  ·cases h
theorem rM(ω:Nat->Nat)(n:Nat)(l:List (TV V.N)):encL V ω (l.take n)=(encL V ω l).take n:=by simp[aO,Q9]
theorem g5(ω:Nat->Nat)(n:Nat)(l:List (TV V.N)):encL V ω (l.drop n)=(encL V ω l).drop n:=by simp[aO,Q_]
theorem fQ(ω:Nat->Nat)(l m:List (TV V.N)):encL V ω (l++m)=encL V ω l++encL V ω m:=by simp[aO]
theorem a_(ω:Nat->Nat)(l:List (TV V.N)):(encL V ω l).length=l.length:=by simp[aO]
theorem gA{ω:Nat->Nat}{pl:List (Nat×Nat)}:∀{parts:List (Nat×TV V.N)} {cells cs:List (TV V.N)},tY V pl cells parts=some cs->
 lK pl (encL V ω cells) (parts.map λp=>(p.1,aK V ω p.2))=some (encL V ω cs)
 |[],cells,cs,h=>by simp[tY]at h;subst h;rfl
 |(i,x)::r,cells,cs,h=>by
  simp only[tY]at h
  split at h
  ·rename_i off sz cc h1 h2
   split at h
   ·rename_i hc
    have ih:=gA (ω:=ω) h
    simp only[Qp,lK,h1,dC (ω:=ω) h2,a_]
    rw[TP hc]
    simp only[ej,a_]
    rw[fQ,fQ,rM,g5]at ih
    exact ih
   ·cases h
  ·cases h
theorem D.Les.app{a b c d:List D}(h:D.Les a b)(k:D.Les c d):D.Les (a++c) (b++d):=by
 induction h with
 |nil=>exact k
 |cons h _ ih=>exact .cons h ih
theorem CP{α:Type}{m:Nat}{pad:α}{l:List α}(h:l.length=m):arL m pad l=l:=by
 unfold arL
 rw[RL (by omega),QP (by omega)]
theorem rT{α:Type}{sz:Nat}:∀{l:List (List α)},(∀r∈l,r.length=sz)->l.flatten.length=l.length *sz
 |[],_=>by simp
 |r::l,h=>by
  rw[Q4,QB,h r Qo,rT λq hq=>h q (Qm _ hq),QA,QM,Nat.add_comm]
theorem sX{α β:Type}{f:List α->Option β}{sz:Nat}:∀{n:Nat} {cs:List α} {r:List β},sW f sz n cs=some r->r.length=n
 |0,cs,r,h=>by simp[sW]at h;subst h;rfl
 |n+1,cs,r,h=>by
  simp only[sW]at h
  split at h
  ·rename_i x r' h1 h2
   cases h
   simp[sX h2]
  ·cases h
theorem dV{ω:Nat->Nat}{ex:Bool}:∀{e:Ty V.ι} {cs:List (TV V.N)} {y:den V.N e} (_:di V ex e cs=some y),
 ∃ds,encL V ω cs=ds.map H.d/\D.Les ds (bN V.sz V.enc e y)/\(ex=true->ds=bN V.sz V.enc e y):=by
 have single:∀(t:Ty V.ι) (y:den V.N t) (cs:List (TV V.N)),(∃x l,cs=[x]/\kN V ex t x=some l/\∃ht:l.t=t,ht▸l.x=y)->bC V t y=[⟨t,y⟩]->∃ds,encL V ω cs=ds.map H.d/\D.Les ds (bN V.sz V.enc t y)/\(ex=true->ds=bN V.sz V.enc t y):=by
  rintro t y cs ⟨x,⟨lt,lx⟩,rfl,hl,ht,rfl⟩ hrc
  simp only at ht
  subst ht
  rw[cN,hrc]
  have hls:de V ex [lt] [x]=some [⟨lt,lx⟩]:=by simp[de,hl]
  exact cW (ω:=ω) hls
 intro e
 induction e with
 |fno=>
  intro cs y h
  refine single .fno y cs ?_ rfl
  match cs,h with
  |[],h=>simp[di]at h
  |_::_::_,h=>simp[di]at h
  |[x],h=>
   simp only[di]at h
   split at h
   ·rename_i l hl
    split at h
    ·rename_i ht;simp only[Qd]at h;exact⟨x,l,rfl,hl,ht,h⟩
    ·cases h
   ·cases h
 |ar n e ih=>
  intro cs y h
  simp only[di]at h
  split at h
  ·rename_i hlen
   have go:∀(n:Nat) (cs:List (TV V.N)) (ys:List (den V.N e)),cs.length=n *tsz V.sz e->sW (di V ex e) (tsz V.sz e) n cs=some ys->
    ∃ds,encL V ω cs=ds.map H.d/\D.Les ds (ys.map λx=>bN V.sz V.enc e x).flatten/\(ex=true->ds=(ys.map λx=>bN V.sz V.enc e x).flatten):=by
    intro n
    induction n with
    |zero=>
     intro cs ys hl h
     simp[sW]at h
     subst h
     rw[R0]at hl
     rw[QE hl]
     exact⟨[],rfl, .nil,λ_=>rfl⟩
    |succ n ihn=>
     intro cs ys hl h
     simp only[sW]at h
     split at h
     ·rename_i x r h1 h2
      cases h
      rw[QM]at hl
      obtain⟨d1,a1,a2,a3⟩:=ih h1
      obtain⟨d2,b1,b2,b3⟩:=ihn _ _ (by rw[QO];omega) h2
      refine⟨d1++d2,?_,by simpa using D.Les.app a2 b2,λhx=>by rw[a3 hx,b3 hx];rfl⟩
      rw[QU,<-a1,<-b1,<-fQ,Sn]
     ·cases h
   obtain⟨ds,a1,a2,a3⟩:=go n cs y hlen h
   have hl:(y.map λx=>bN V.sz V.enc e x).flatten.length=n *tsz V.sz e:=by
    rw[rT (sz:=tsz V.sz e) (λr hr=>by obtain⟨x,_,rfl⟩:=QD.1 hr;exact co e x),Qg,sX h]
   have he:bN V.sz V.enc (.ar n e) y=(y.map λx=>bN V.sz V.enc e x).flatten:=CP hl
   exact⟨ds,a1,by rw[he];exact a2,λhx=>by rw[he];exact a3 hx⟩
  ·cases h
 |st i=>
  intro cs y h
  simp only[di]at h
  split at h
  ·rename_i ls hls
   obtain⟨ds,e1,e2,e3⟩:=cW (ω:=ω) hls
   have hc:=V.of_cells i ls y h
   refine⟨ds,e1,?_,?_⟩<;>simp only[bN]<;>rw[V.enc_cells,hc]
   ·exact e2
   ·exact e3
  ·cases h
 |int k=>
  intro cs y h
  refine single (.int k) y cs ?_ rfl
  match cs,h with
  |[],h=>simp[di]at h
  |_::_::_,h=>simp[di]at h
  |[x],h=>
   simp only[di]at h
   split at h
   ·rename_i l hl
    split at h
    ·rename_i ht;simp only[Qd]at h;exact⟨x,l,rfl,hl,ht,h⟩
    ·cases h
   ·cases h
 |bool=>
  intro cs y h
  refine single .bool y cs ?_ rfl
  match cs,h with
  |[],h=>simp[di]at h
  |_::_::_,h=>simp[di]at h
  |[x],h=>
   simp only[di]at h
   split at h
   ·rename_i l hl
    split at h
    ·rename_i ht;simp only[Qd]at h;exact⟨x,l,rfl,hl,ht,h⟩
    ·cases h
   ·cases h
 |op e _=>
  intro cs y h
  refine single (.op e) y cs ?_ rfl
  match cs,h with
  |[],h=>simp[di]at h
  |_::_::_,h=>simp[di]at h
  |[x],h=>
   simp only[di]at h
   split at h
   ·rename_i l hl
    split at h
    ·rename_i ht;simp only[Qd]at h;exact⟨x,l,rfl,hl,ht,h⟩
    ·cases h
   ·cases h
 |er=>
  intro cs y h
  refine single .er y cs ?_ rfl
  match cs,h with
  |[],h=>simp[di]at h
  |_::_::_,h=>simp[di]at h
  |[x],h=>
   simp only[di]at h
   split at h
   ·rename_i l hl
    split at h
    ·rename_i ht;simp only[Qd]at h;exact⟨x,l,rfl,hl,ht,h⟩
    ·cases h
   ·cases h
 |fnc=>
  intro cs y h
  refine single .fnc y cs ?_ rfl
  match cs,h with
  |[],h=>simp[di]at h
  |_::_::_,h=>simp[di]at h
  |[x],h=>
   simp only[di]at h
   split at h
   ·rename_i l hl
    split at h
    ·rename_i ht;simp only[Qd]at h;exact⟨x,l,rfl,hl,ht,h⟩
    ·cases h
   ·cases h
 |str=>
  intro cs y h
  refine single .str y cs ?_ rfl
  match cs,h with
  |[],h=>simp[di]at h
  |_::_::_,h=>simp[di]at h
  |[x],h=>
   simp only[di]at h
   split at h
   ·rename_i l hl
    split at h
    ·rename_i ht;simp only[Qd]at h;exact⟨x,l,rfl,hl,ht,h⟩
    ·cases h
   ·cases h
 |sl e _=>
  intro cs y h
  refine single (.sl e) y cs ?_ rfl
  match cs,h with
  |[],h=>simp[di]at h
  |_::_::_,h=>simp[di]at h
  |[x],h=>
   simp only[di]at h
   split at h
   ·rename_i l hl
    split at h
    ·rename_i ht;simp only[Qd]at h;exact⟨x,l,rfl,hl,ht,h⟩
    ·cases h
   ·cases h
 |mp tk tv _ _=>
  intro cs y h
  refine single (.mp tk tv) y cs ?_ rfl
  match cs,h with
  |[],h=>simp[di]at h
  |_::_::_,h=>simp[di]at h
  |[x],h=>
   simp only[di]at h
   split at h
   ·rename_i l hl
    split at h
    ·rename_i ht;simp only[Qd]at h;exact⟨x,l,rfl,hl,ht,h⟩
    ·cases h
   ·cases h
end
end Go.Tx
end
section
namespace Go.Tx
open Go.Awp
variable [Inhabited GMem]
section
variable {V:gW}
def bO(P:Program)(call:dl V):Prop:=∀(A:Type) (fid:Nat) (args:List (TV V.N)) (S:TS V.N) (dst:Option Tmp) (k:TE V.N->Option A) (r:A),call A fid args S k=some r->
 ∃te,k te=some r/\good S te/\tA P fid (encL V S.len args) (aV V S).own? λe'=>ELe true e' (f6 (S.app dst te).len te)
def OpS(ex:Bool)(P:Program)(nm:Nat->Nat){A:Type}(o:Oper)(S:TS V.N)(k:TE V.N->Option A)(r:A):Prop:=
 ∃te,k te=some r/\good S te/\bG P nm o (ev (aV V S)) (aV V S).own? λe'=>ELe ex e' (f6 (S.app o.dst te).len te)
theorem iE(S:TS V.N)(v:TV V.N)(l:List Nat):good S {val:=v,acc:=l}:=λm o h=>by simp[gt]at h
theorem tG(S:TS V.N)(dst:Option Tmp)(v:TV V.N)(l:List Nat):(S.app dst {val:=v,acc:=l}).len=S.len:=by
 funext n;rw[dt];rfl
theorem zG{ex:Bool}{S:TS V.N}{dst:Option Tmp}{v:TV V.N}{x:H}{l:List Nat}(h:H.le x (aK V S.len v))(hx:ex=true->x=aK V S.len v):ELe ex {val:=x,acc:=l} (f6 (S.app dst {val:=v,acc:=l}).len {val:=v,acc:=l}):=by
 rw[tG]
 exact{val:=h,new:=rfl,none:=λn _=>rfl,some:=λn o h=>by simp[f6,gt]at h,eq:=λh=>⟨hx h,rfl,rfl⟩}
theorem rK{ex:Bool}{S:TS V.N}{dst:Option Tmp}{v:TV V.N}{x:H}{l:List Nat}(h:x=aK V S.len v):ELe ex {val:=x,acc:=l} (f6 (S.app dst {val:=v,acc:=l}).len {val:=v,acc:=l}):=zG (h▸H.le.refl _) λ_=>h
theorem cw{ex:Bool}{ω:Nat->Nat}{te:TE V.N}{e':Eff}(hv:e'.val=aK V ω te.val)(hn:e'.new=te.new)(hu:e'.upd=te.upd.map λp=>(p.1,bS V ω p.2))(ha:e'.acc=te.acc):ELe ex e' (f6 ω te)where
 val:=by rw[hv];exact H.le.refl _
 new:=hn
 none:=λn h=>by rw[hu];exact h
 some:=λn o h=>⟨o,by rw[hu];exact h,OLe.refl o⟩
 eq:=λ_=>⟨hv,hu,ha⟩
theorem u9(ω:Nat->Nat)(x:Value):aK V ω (tvc x)=bZ x:=by
 cases x<;>simp[tvc,aK,aY,bZ]
theorem eV(S:TS V.N)(l:List Operand):l.map (ev (aV V S))=encL V S.len (l.map (tev S)):=by
 rw[aO,QJ]
 exact QL λx _=>aI S x
theorem Au(S:TS V.N)(l:List (Nat×Operand)):l.map (λp=>(p.1,ev (aV V S) p.2))=(l.map λp=>(p.1,tev S p.2)).map λp=>(p.1,aK V S.len p.2):=by
 rw[QJ]
 exact QL λx _=>by simp[aI]
theorem f8{S:TS V.N}{lo:Option Operand}{d n:Int}(h:F5 V S lo d=some n):bnd (ev (aV V S)) lo d=some n:=by
 cases lo with
 |none=>exact h
 |some x=>
  simp only[F5]at h
  simp only[bnd,aI]
  split at h
  ·rename_i hx;rw[hx];simpa[aK,aY]using h
  ·cases h
theorem cZ{S:TS V.N}{n:Nat}{te:TypeId}{e:Ty V.ι}{xs:List (den V.N e)}(h:S.own? n=some (.vec te e xs)):
 (aV V S).own? n=some (.vec te (tsz V.sz e) (xs.map λx=>bN V.sz V.enc e x)):=by rw[aZ,h];rfl
theorem iY(ω:Nat->Nat)(i:V.ι)(x:V.N i):encL V ω ((V.cells i x).map λl=>(.lf l.t l.x:TV V.N))=(V.enc i x).map .d:=by
 rw[V.enc_cells,aO,QJ,QJ]
 exact QL λl _=>by simp[aK]
theorem gL{S:TS V.N}{n:Nat}{cells:List (TV V.N)}(h:CW V (S.own? n)=some cells):(aV V S).own? n=some (.box (LD V (S.own? n)) (encL V S.len cells)):=by
 rw[aZ]
 cases ho:S.own? n with
 |none=>rw[ho]at h;cases h
 |some o=>
  rw[ho]at h
  cases o with
  |box oty cs=>simp only[CW,Qd]at h;subst h;rfl
  |bst i x=>simp only[CW,Qd]at h;subst h;simp only[Qe,bS,iY];rfl
  |vec te e xs=>cases h
  |dvec te e xs=>cases h
  |pvec te e xs=>cases h
  |map tk tv es=>cases h
  |iter s p=>cases h
  |miter m tk tv es rest cur=>cases h
  |que te e xs=>cases h
  |maps te k v es al=>cases h
  |bar n e xs=>cases h
  |alias m=>cases h
  |gone l=>cases h
theorem vp{S:TS V.N}{n:Nat}{cells:List (TV V.N)}(h:CW V (S.own? n)=some cells):S.len n=0:=by
 unfold TS.len
 cases ho:S.own? n with
 |none=>rfl
 |some o=>
  rw[ho]at h
  cases o<;>first|rfl|cases h
theorem yZ{ω:Nat->Nat}{v:TV V.N}{cs:List (TV V.N)}(h:TV.cells V v=some cs):bS V ω (yY V v cs)=some (.box none (encL V ω cs)):=by
 unfold yY
 split
 ·rename_i i x
  simp only[TV.cells,bC,Qd]at h
  subst h
  simp only[bS,iY]
 ·rfl
theorem sS{ω:Nat->Nat}{o:Option TypeId}{v:TV V.N}{cs:List (TV V.N)}(h:TV.cells V v=some cs):bS V ω (EF V o v cs)=some (.box o (encL V ω cs)):=by
 cases o with
 |none=>exact yZ h
 |some t=>rfl
theorem y4{v:TV V.N}{cs:List (TV V.N)}:TO.len (some (yY V v cs))=0:=by
 unfold yY
 split<;>rfl
theorem Bq{o:Option TypeId}{v:TV V.N}{cs:List (TV V.N)}:TO.len (some (EF V o v cs))=0:=by
 cases o with
 |none=>exact y4
 |some t=>rfl
theorem dT{S:TS V.N}{n:Nat}{te:TypeId}{e:Ty V.ι}{xs:List (den V.N e)}(h:S.own? n=some (.vec te e xs)):S.len n=xs.length:=by unfold TS.len;rw[h];rfl
theorem qW{t:Ty V.ι}{x:den V.N t}:((bN V.sz V.enc t x).all D.one)=true:=by
 rw[cN,RI,Qq]
 exactλl hl=>by have:=rL (V:=V) (n8 t x l hl);simpa[H.one]using this
variable {P:Program} {nm:Nat->Nat} {call:dl V} {A:Type} {S:TS V.N} {k:TE V.N->Option A} {r:A} {o:Oper} {ex:Bool}
theorem aS{v:TV V.N}{l:List Nat}(hk:k {val:=v,acc:=l}=some r)(h:∀K:Eff->Prop,K {val:=aK V S.len v,acc:=l}->bG P nm o (ev (aV V S)) (aV V S).own? K):OpS ex P nm o S k r:=
 ⟨_,hk,iE S v l,h _ (rK rfl)⟩
theorem lB{v:TV V.N}{l:List Nat}(hk:k {val:=v,acc:=l}=some r)(h:∀K:Eff->Prop,(∀x,H.le x (aK V S.len v)->(ex=true->x=aK V S.len v)->K {val:=x,acc:=l})->bG P nm o (ev (aV V S)) (aV V S).own? K):OpS ex P nm o S k r:=
 ⟨_,hk,iE S v l,h _ λ_ hx hy=>zG hx hy⟩
theorem FS(S:TS V.N)(dst:Option Tmp)(d:Nat)(v:TV V.N)(b:TO V.N)(cs:List (TV V.N))(hf:∀n,TV.hasL n cs=true->n≠d):
 encL V (S.app dst {val:=v,upd:=[(d,b)],new:=[d]}).len cs=encL V S.len cs:=by
 refine encL_congr cs λn hn=> ?_
 rw[dt]
 simp only[aE]
 rw[TN (λe=>hf n hn e.symm)]
 rfl
theorem Cj{S:TS V.N}{d:Nat}(h:S.fresh d=true)(x:Operand):TV.has d (tev S x)=false:=by
 cases x with
 |tmp t=>
  simp only[tev,TS.get]
  cases hg:gt S.tmps t with
  |none=>simp[TV.has]
  |some v=>exact fresh_tmp h hg
 |const v=>cases v<;>simp[tev,tvc,TV.has]
 |global g=>simp[tev,TV.has]
 |func f=>simp[tev,TV.has,TV.hasL]
theorem pg{d:Nat}{l:List (TV V.N)}(h:∀x∈l,TV.has d x=false):TV.hasL d l=false:=by
 induction l with
 |nil=>simp[TV.hasL]
 |cons y r ih=>rw[TV.hasL,h y Qo,ih λx hx=>h x (Qm _ hx)];rfl
theorem tT{d:Nat}{v:TV V.N}{cs:List (TV V.N)}(h:TV.cells V v=some cs)(hv:TV.has d v=false):TV.hasL d cs=false:=by
 cases v with
 |lf t x=>
  simp only[TV.cells,Qd]at h
  subst h
  exact pg λy hy=>by
   obtain⟨l,_,rfl⟩:=QD.1 hy
   simp[TV.has]
 |raw v=>
  simp only[TV.cells]at h
  split at h
  ·simp at h;subst h;simp[TV.hasL,TV.has]
  ·cases h
 |agg cs'=>simp only[TV.cells,Qd]at h;subst h;simpa[TV.has]using hv
 |tup vs=>simp[TV.cells]at h
 |junk=>simp[TV.cells]at h
 |rp t x off=>simp[TV.cells]at h;subst h;simp[TV.hasL,TV.has]
 |ai n s i off=>simp[TV.cells]at h;subst h;simpa[TV.hasL]using hv
 |bp n off=>simp[TV.cells]at h;subst h;simpa[TV.hasL]using hv
 |vh n=>simp[TV.cells]at h;subst h;simpa[TV.hasL]using hv
 |ep n s i off=>simp[TV.cells]at h;subst h;simpa[TV.hasL]using hv
 |sv n s i off=>simp[TV.cells]at h;subst h;simpa[TV.hasL]using hv
 |mp n=>simp[TV.cells]at h;subst h;simpa[TV.hasL]using hv
 |np n b=>simp[TV.cells]at h;subst h;simpa[TV.hasL]using hv
 |sd n=>simp[TV.cells]at h;subst h;simpa[TV.hasL]using hv
 |fn f a b=>simp[TV.cells]at h;subst h;simpa[TV.hasL]using hv
theorem A9{d:Nat}{b:TO V.N}{oty:Option TypeId}{cs:List (TV V.N)}(hb:∀ω,bS V ω b=some (.box oty (encL V ω cs)))(hk:k {val:= .bp (nm d) 0,upd:=[(nm d,b)],new:=[nm d]}=some r)(hf:TV.hasL (nm d) cs=false)
 (h:∀K:Eff->Prop,K {val:= .bp (nm d) 0,acc:=[],upd:=[(nm d,some (.box oty (encL V S.len cs)))],new:=[nm d]}->bG P nm o (ev (aV V S)) (aV V S).own? K):OpS ex P nm o S k r:=by
 refine⟨_,hk,λm o hm=> ?_,h _ (cw (by simp[aK]) rfl ?_ rfl)⟩
 ·simp only[aE]at hm
  split at hm
  ·rename_i e;left;simp[e]
  ·simp[gt]at hm
 ·simp only[Qp,QW,hb]
  rw[FS S o.dst (nm d) (.bp (nm d) 0) b cs λn hn e=>by subst e;rw[hf]at hn;cases hn]
theorem qT{n:Nat}{o':TO V.N}(hk:k {val:= .junk,acc:=[n],upd:=[(n,o')]}=some r)(hl:TO.len (some o')=S.len n)
 (h:∀K:Eff->Prop,K {val:= .junk,acc:=[n],upd:=[(n,bS V S.len o')]}->bG P nm o (ev (aV V S)) (aV V S).own? K):OpS ex P nm o S k r:=by
 have hlen:(S.app o.dst {val:= .junk,acc:=[n],upd:=[(n,o')]}).len=S.len:=by
  funext m
  rw[dt]
  simp only[aE]
  by_cases hm:n=m
  ·subst hm;simpa using hl
  ·rw[TN hm];simp[gt]
 refine⟨_,hk,λm o hm=> ?_,h _ (cw (by simp[aK]) rfl ?_ rfl)⟩
 ·simp only[aE]at hm
  split at hm
  ·rename_i e;simp at hm;subst hm;subst e;exact .inr hl
  ·simp[gt]at hm
 ·simp only[Qp,QW]
  rw[hlen]
theorem nV{d:Nat}{te:TypeId}{e:Ty V.ι}{ys:List (den V.N e)}{old:List (Nat×Nat)}{l:List Nat}(hold:∀p∈old,S.len p.1=p.2)(hk:k {val:= .vh (nm d),acc:=l,upd:=(nm d, .vec te e ys)::old.map (λp=>(p.1, .gone p.2)),new:=[nm d]}=some r)
 (h:∀K:Eff->Prop,K {val:= .vh (nm d) ys.length,acc:=l,upd:=(nm d,some (.vec te (tsz V.sz e) (ys.map λx=>bN V.sz V.enc e x)))::old.map (λp=>(p.1,none)),new:=[nm d]}->bG P nm o (ev (aV V S)) (aV V S).own? K):OpS ex P nm o S k r:=by
 refine⟨_,hk,λm o hm=> ?_,h _ (cw ?_ rfl ?_ rfl)⟩
 ·simp only[aE]at hm
  split at hm
  ·rename_i e;left;simp[e]
  ·right
   have:=cz hm
   obtain⟨p,hp,he⟩:=QD.1 this
   simp only[QI]at he
   obtain⟨rfl,rfl⟩:=he
   exact(hold p hp).symm
 ·simp only[aK]
  rw[dt]
  simp[aE,TO.len]
 ·simp[bS,QJ,Function.comp_def]
theorem im{n:Nat}{tk tv:Ty V.ι}{es:List (den V.N tk×den V.N tv)}(h:S.own? n=some (.map tk tv es)):
 (aV V S).own? n=some (.map (es.map λp=>(d6 V.enc tk p.1,aY V.sz V.enc tv p.2))):=by rw[aZ,h];rfl
theorem qD{n:Nat}{tk tv:Ty V.ι}{es:List (den V.N tk×den V.N tv)}(h:S.own? n=some (.map tk tv es)):S.len n=0:=by unfold TS.len;rw[h];rfl
theorem wb{n:Nat}{s:ByteArray}{p:Int}(h:S.own? n=some (.iter s p)):(aV V S).own? n=some (.iter s p.toNat):=by rw[aZ,h];rfl
theorem Dj{n:Nat}{s:ByteArray}{p:Int}(h:S.own? n=some (.iter s p)):S.len n=0:=by unfold TS.len;rw[h];rfl
theorem sH{n m:Nat}{tk tv:Ty V.ι}{es rest:List (den V.N tk×den V.N tv)}{cur:Option (den V.N tk×den V.N tv)}(h:S.own? n=some (.miter m tk tv es rest cur)):
 (aV V S).own? n=some (.miter m (es.map λp=>(d6 V.enc tk p.1,aY V.sz V.enc tv p.2)) (rest.map λp=>(d6 V.enc tk p.1,aY V.sz V.enc tv p.2)) (cur.map λp=>(d6 V.enc tk p.1,aY V.sz V.enc tv p.2))):=by rw[aZ,h];rfl
theorem r_{n m:Nat}{tk tv:Ty V.ι}{es rest:List (den V.N tk×den V.N tv)}{cur:Option (den V.N tk×den V.N tv)}(h:S.own? n=some (.miter m tk tv es rest cur)):S.len n=0:=by unfold TS.len;rw[h];rfl
theorem Ak{tk:Ty V.ι}(hk:HJ tk=true)(x:den V.N tk):aY V.sz V.enc tk x= .v (d6 V.enc tk x):=by
 cases tk<;>first|rfl|cases hk
theorem uy{d:Nat}{s:ByteArray}(hk:k {val:= .bp (nm d) 0,upd:=[(nm d, .iter s 0)],new:=[nm d]}=some r)
 (h:∀K:Eff->Prop,K {val:= .bp (nm d) 0,acc:=[],upd:=[(nm d,some (.iter s 0))],new:=[nm d]}->bG P nm o (ev (aV V S)) (aV V S).own? K):OpS ex P nm o S k r:=by
 refine⟨_,hk,λm o hm=> ?_,h _ (cw (by simp[aK]) rfl (by simp[bS]) rfl)⟩
 simp only[aE]at hm
 split at hm
 ·rename_i e;left;simp[e]
 ·simp[gt]at hm
theorem Es{n l:Nat}{v:TV V.N}(hv:∀ω ω':Nat->Nat,aK V ω v=aK V ω' v)(hk:k {val:=v,acc:=[n],upd:=[(n, .gone l)]}=some r)(hl:S.len n=l)
 (h:∀K:Eff->Prop,K {val:=aK V S.len v,acc:=[n],upd:=[(n,none)]}->bG P nm o (ev (aV V S)) (aV V S).own? K):OpS ex P nm o S k r:=by
 refine⟨_,hk,λm o hm=> ?_,h _ (cw (hv _ _) rfl (by simp[bS]) rfl)⟩
 simp only[aE]at hm
 split at hm
 ·rename_i e;right;simp at hm;subst hm;subst e;simp[TO.len,hl]
 ·simp[gt]at hm
theorem r7(ik:IntKind):∀l:List Int,oG ik (l.map (oL ik))=some l
 |[]=>rfl
 |n::r=>by simp[oL,oG,r7 ik r]
theorem nw(ik:IntKind)(l:List (den V.N (.int ik))):oG ik (l.map λx=>bN V.sz V.enc (.int ik) x)=some l:=r7 ik l
theorem oe(s:ByteArray):∀n i:Nat,(Bs.runesAt s n i).length<=n
 |0,_=>QF _
 |n+1,i=>by
  unfold Bs.runesAt
  split
  ·simp only[QA];have:=oe s n (i+(Utf8.decode s i).2);omega
  ·simp
theorem Bx(s:ByteArray):(Bs.runes s).length<=s.size:=oe s _ _
theorem xH{d:Nat}{tk tv:Ty V.ι}(hk:k {val:= .mp (nm d),upd:=[(nm d, .map tk tv [])],new:=[nm d]}=some r)
 (h:∀K:Eff->Prop,K {val:= .mp (nm d),acc:=[],upd:=[(nm d,some (.map []))],new:=[nm d]}->bG P nm o (ev (aV V S)) (aV V S).own? K):OpS ex P nm o S k r:=by
 refine⟨_,hk,λm o hm=> ?_,h _ (cw (by simp[aK]) rfl (by simp[bS]) rfl)⟩
 simp only[aE]at hm
 split at hm
 ·rename_i e;left;simp[e]
 ·simp[gt]at hm
theorem jF{tk:Ty V.ι}{kind:TypeDesc}(hk:eU (some kind) tk=true)(x y:den V.N tk):Instr.sameNow kind (d6 V.enc tk x) (d6 V.enc tk y)=some (keq V.cells tk x y):=by
 cases kind<;>cases tk<;>simp_all [eU,d6,keq,Instr.sameNow,Mp.ieq,Mp.beq,Mp.seq]
theorem iH{tk:Ty V.ι}{kind:TypeDesc}(hk:eU (some kind) tk=true):eh kind=true:=by
 cases kind<;>cases tk<;>simp_all [eU,eh]
theorem qB{tk:Ty V.ι}{kind:TypeDesc}(hk:eU (some kind) tk=true)(x:den V.N tk):aY V.sz V.enc tk x= .v (d6 V.enc tk x):=by
 cases kind<;>cases tk<;>simp_all [eU,d6,aY]
theorem vD{tk tv:Ty V.ι}{kind:TypeDesc}(hk:eU (some kind) tk=true)(x:den V.N tk):∀es:List (den V.N tk×den V.N tv),
 rP kind (d6 V.enc tk x) (es.map λp=>(d6 V.enc tk p.1,aY V.sz V.enc tv p.2))=some ((Mp.get (keq V.cells tk) x es).map (aY V.sz V.enc tv))
 |[]=>rfl
 |p::r=>by
  simp only[Qp,rP,jF hk,Mp.get]
  cases keq V.cells tk x p.1 with
  |true=>rfl
  |false=>exact vD hk x r
theorem BD{tk tv:Ty V.ι}{kind:TypeDesc}(hk:eU (some kind) tk=true)(x:den V.N tk)(y:den V.N tv):∀es:List (den V.N tk×den V.N tv),
 Gz kind (d6 V.enc tk x) (aY V.sz V.enc tv y) (es.map λp=>(d6 V.enc tk p.1,aY V.sz V.enc tv p.2))=some ((Mp.put (keq V.cells tk) x y es).map λp=>(d6 V.enc tk p.1,aY V.sz V.enc tv p.2))
 |[]=>rfl
 |p::r=>by
  simp only[Qp,Gz,jF hk,Mp.put]
  cases keq V.cells tk x p.1 with
  |true=>rfl
  |false=>simp only[BD hk x y r];rfl
theorem kE{tk tv:Ty V.ι}{kind:TypeDesc}(hk:eU (some kind) tk=true)(x:den V.N tk)(es:List (den V.N tk×den V.N tv)):
 gP kind (d6 V.enc tk x) (es.map λp=>(d6 V.enc tk p.1,aY V.sz V.enc tv p.2))=true:=by
 unfold gP
 rw[RI,Qq]
 intro p _
 simp only[SV,jF hk,St]
theorem oC:∀{ds:List D} {z:List Value},lI ds=some z->ds=z.map .v
 |[],z,h=>by simp[lI]at h;subst h;rfl
 | .v x::r,z,h=>by
  simp only[lI]at h
  split at h
  ·rename_i l hl
   simp at h;subst h
   rw[oC hl];rfl
  ·cases h
 | .agg _::_,_,h=>by simp[lI]at h
 | .sl _ _::_,_,h=>by simp[lI]at h
 | .rp _::_,_,h=>by simp[lI]at h
theorem bT{α β:Type}{x:Option α}{f:α->Option β}{r:β}(h:x>>=f=some r):∃y,x=some y/\f y=some r:=by
 cases x with
 |none=>cases h
 |some y=>exact⟨y,rfl,h⟩
theorem aF{c:Prop}[Decidable c]{β:Type}{x:Option β}{r:β}(h:(if c then x else none)=some r):c/\x=some r:=by
 split at h
 ·exact⟨‹_›,h⟩
 ·cases h
theorem m7{ω:Nat->Nat}{e:Ty V.ι}{x:TV V.N}{y:den V.N e}(h:C4 V ex e x=some y):
 ∃cs ds,TV.cells V x=some cs/\encL V ω cs=ds.map H.d/\D.Les ds (bN V.sz V.enc e y)/\(ex=true->ds=bN V.sz V.enc e y):=by
 unfold C4 at h
 split at h
 ·rename_i t z
  split at h
  ·rename_i ht
   subst ht
   simp only[Qd]at h;subst h
   refine⟨_,bN V.sz V.enc t z,rfl,?_,D.Les.refl _,λ_=>rfl⟩
   rw[cN,aO,QJ,QJ]
   exact QL λl _=>by simp[aK]
  ·cases h
 ·split at h
  ·rename_i cs hcs
   obtain⟨ds,e1,e2,e3⟩:=dV (ω:=ω) h
   exact⟨cs,ds,hcs,e1,e2,e3⟩
  ·cases h
theorem ji{ω:Nat->Nat}{e:Ty V.ι}:∀{i:Nat} {parts:List (Nat×TV V.N)} {ys:List (den V.N e)},xR V ex e i parts=some ys->
 ∃rows,oa (tsz V.sz e) i (parts.map λp=>(p.1,aK V ω p.2))=some rows/\rows.length=parts.length/\D.Rows rows (ys.map λx=>bN V.sz V.enc e x)/\(ex=true->rows=ys.map λx=>bN V.sz V.enc e x)
 |i,[],ys,h=>by simp[xR]at h;subst h;exact⟨[],rfl,rfl, .nil,λ_=>rfl⟩
 |i,(j,x)::r,ys,h=>by
  simp only[xR]at h
  obtain⟨hij,h⟩:=aF h
  split at h
  ·rename_i y ys' h1 h2
   simp at h;subst h
   obtain⟨cs,ds,hcs,e1,e2,e3⟩:=m7 (ω:=ω) h1
   obtain⟨rows,f1,f2,f3,f4⟩:=ji (ω:=ω) h2
   have hds:ds.length=tsz V.sz e:=by rw[e2.len,co]
   refine⟨ds::rows,?_,by simp[f2], .cons e2 f3,λhx=>by simp[e3 hx,f4 hx]⟩
   simp only[Qp,oa,dC (ω:=ω) hcs,e1,dH,f1]
   rw[TP hij,TP hds]
  ·cases h
end
end Go.Tx
end
section
namespace Go.Tx
open Go.Awp
variable [Inhabited GMem]
section
variable {V:gW} {P:Program} {nm:Nat->Nat} {call:dl V} {A:Type} {S:TS V.N} {k:TE V.N->Option A} {r:A} {o:Oper} {ex:Bool}
theorem jK(l:List H):H.le (cq l) (.agg l):=λE M v h=>by
 unfold cq at h
 split at h
 ·rename_i ds hds
  obtain⟨cs,rfl,h1,h2⟩:=h.dagg
  obtain⟨g1,g2⟩:=eX hds
  refine .agg cs l (by omega) λi c x hc hx=> ?_
  rw[g2]at hx
  cases hd:ds[i]? with
  |none=>rw[hd]at hx;cases hx
  |some d=>rw[hd]at hx;simp at hx;subst hx;exact .d (h2 i c d hc hd)
 ·exact h
theorem qH(l:List H):H.le (.agg l) (cq l):=λE M v h=>by
 obtain⟨cs,rfl,h1,h2⟩:=h.hagg
 exact bF.mk_agg h1 h2
theorem F0{l l':List H}(hl:l.length=l'.length)(h:∀(i:Nat) (x:H),l'[i]?=some x->∃y,l[i]?=some y/\H.le y x):H.le (.agg l) (.agg l'):=λE M v hv=>by
 obtain⟨cs,rfl,h1,h2⟩:=hv.hagg
 refine .agg cs l' (by omega) λi c x hc hx=> ?_
 obtain⟨y,hy,hle⟩:=h i x hx
 exact hle E M c (h2 i c y hc hy)
theorem Cr{l l':List H}(hl:l.length=l'.length)(h:∀(i:Nat) (x:H),l'[i]?=some x->∃y,l[i]?=some y/\H.le y x):H.le (.tup l) (.tup l'):=λE M v hv=>by
 obtain⟨cs,rfl,h1,h2⟩:=hv.htup
 refine .tup cs l' (by omega) λi c x hc hx=> ?_
 obtain⟨y,hy,hle⟩:=h i x hx
 exact hle E M c (h2 i c y hc hy)
theorem OLe.vec{te:TypeId}{sz:Nat}{a b:List (List D)}(h:D.Rows a b):OLe (.vec te sz a) (.vec te sz b):=by
 refine⟨?_,λ_ _ _ _ _ _ h=>h⟩
 rintro E M w n ⟨xs,h1,h2,h3,h4⟩
 refine⟨xs,by rw[<-h.len];exact h1,λr hr=> ?_,λi j r c x hr hx hc=> ?_,h4⟩
 ·obtain⟨i,hi,rfl⟩:=Sr hr
  obtain⟨y,hy,hyr⟩:=h.get i _ (Qi hi)
  rw[<-hyr.len];exact h2 y (Qn hy)
 ·obtain⟨y,hy,hyr⟩:=h.get i r hr
  obtain⟨z,hz,hzx⟩:=hyr.get j x hx
  exact hzx M c (h3 i j y c z hy hz hc)
theorem Cq{x:Operand}(ho:o.op= .move x\/o.op= .assign x)(h:tx V P nm call ex o S k=some r):OpS ex P nm o S k r:=by
 have hk:k {val:=tev S x}=some r:=by rcases ho with ho|ho<;>simpa only[tx,ho]using h
 refine aS hk λK hK=> ?_
 rcases ho with ho|ho<;>(simp only[bG,ho,aI];exact hK)
theorem I1{c x y:Operand}(ho:o.op= .pick c x y)(h:tx V P nm call ex o S k=some r):OpS ex P nm o S k r:=by
 simp only[tx,ho]at h
 split at h
 ·rename_i b hb
  cases b with
  |true=>
   refine aS (by simpa using h) λK hK=> ?_
   simp only[bG,ho,aI,hb,aK,aY];exact hK
  |false=>
   refine aS (by simpa using h) λK hK=> ?_
   simp only[bG,ho,aI,hb,aK,aY];exact hK
 ·cases h
theorem iM{ω:Nat->Nat}{z:List Value}(hz:z.all c9=true):encL V ω (z.map tvc)=z.map λx=> .d (.v x):=by
 rw[aO,QJ]
 rw[Qq]at hz
 refine QL λx hx=> ?_
 have:=hz x hx
 simp only[SV,u9]
 cases x<;>first|(simp[c9]at this;done)|rfl
theorem Fb{t:TypeId}(ho:o.op= .alloc t)(h:tx V P nm call ex o S k=some r):OpS ex P nm o S k r:=by
 simp only[tx,ho]at h
 split at h
 ·rename_i z d hz hd
  obtain⟨hz1,h⟩:=aF h
  refine A9 (d:=d) (λω=>rfl) h (pg λx hx=> ?_) λK hK=> ?_
  ·obtain⟨v,_,rfl⟩:=QD.1 hx
   cases v<;>simp[tvc,TV.has]
  ·simp only[bG,ho,hz,hd]
   rw[iM hz1]at hK;exact hK
 ·cases h
theorem K9{t:TypeId}{x:Operand}(ho:o.op= .box t x)(hf:∀te,k te=some r->∀d∈te.new,S.fresh d=true)(h:tx V P nm call ex o S k=some r):OpS ex P nm o S k r:=by
 simp only[tx,ho]at h
 split at h
 ·rename_i cs d hcs hd
  have hfr:=hf _ h (nm d) (by simp)
  refine A9 (d:=d) (oty:=Df V t cs) (λω=>sS hcs) h (tT hcs (Cj hfr x)) λK hK=> ?_
  simp only[bG,ho,aI,dC (ω:=S.len) hcs,hd]
  refine⟨Df V t cs,?_,hK⟩
  unfold Df
  split
  ·exact .inr rfl
  ·exact .inl rfl
 ·cases h
theorem IZ{t:TypeId}{x:Operand}(ho:o.op= .load t x)(h:tx V P nm call ex o S k=some r):OpS ex P nm o S k r:=by
 simp only[tx,ho]at h
 split at h
 ·rename_i ag sz ht
  split at h
  ·rename_i n off hx
   split at h
   ·rename_i v hw
    unfold wy at hw
    split at hw
    ·rename_i i y hn
     have hw':=aF hw;clear hw
     obtain⟨⟨e1,e2,e3,hot⟩,hw⟩:=hw'
     subst e1;subst e2;subst e3
     simp only[Qd]at hw;subst hw
     have hb:CW V (S.own? n)=some ((V.cells i y).map λl=> .lf l.t l.x):=by rw[hn];rfl
     refine aS h λK hK=> ?_
     simp only[bG,ho,ht,aI,hx,gL hb,iY,e_,QV]
     rw[i6]at hK
     simp only[aK,gL hb,iY,Qg,QV]
     have hl:(V.enc i y).length=V.sz i:=by rw[V.enc_cells,Qg,V.len_cells]
     rw[TP (by omega),QP (by rw[Qg];omega),cq,dH]
     exact hK
    ·rename_i m e xs hn
     have hw':=aF hw;clear hw
     obtain⟨⟨e1,e2,e3,hot⟩,hw⟩:=hw'
     subst e1;subst e2;subst e3
     simp only[Qd]at hw;subst hw
     have ho1:(aV V S).own? n=some (.box none ((bN V.sz V.enc (.ar m e) xs).map .d)):=by rw[aZ,hn];rfl
     refine aS h λK hK=> ?_
     simp only[bG,ho,ht,aI,hx,aK,ho1,e_,Qg,QV]
     have hl:=co (V:=V) (.ar m e) xs
     rw[TP (by omega),QP (by rw[Qg];omega),cq,dH]
     exact hK
    ·cases hw
   ·split at h
    ·rename_i cells hc
     split at h
     ·rename_i v hv
      obtain⟨y,h1,h2,h3⟩:=jb (ω:=S.len) hv
      rw[g5]at h1
      refine lB h λK hK=> ?_
      simp only[bG,ho,ht,aI,hx,aK,gL hc,h1]
      exact hK y h2 h3
     ·cases h
    ·cases h
  ·rename_i n s i off hx
   split at h
   ·rename_i te e xs hc
    obtain⟨hs,h⟩:=aF h
    obtain⟨y,hy,h⟩:=bT h
    split at h
    ·rename_i v hv
     obtain⟨d,h1,h2⟩:=fm (ω:=S.len) hv
     refine aS h λK hK=> ?_
     simp only[bG,ho,ht,aI,hx,aK,cZ hc,Qh,hy,QG,h1]
     refine⟨hs,?_⟩
     rw[<-h2];exact hK
    ·cases h
   ·cases h
  ·rename_i t' y off hx
   split at h
   ·rename_i v hv
    obtain⟨d,h1,h2⟩:=fm (ω:=S.len) hv
    refine aS h λK hK=> ?_
    simp only[bG,ho,ht,aI,hx,aK,h1]
    rw[<-h2];exact hK
   ·cases h
  ·cases h
 ·cases h
theorem Fj{t:TypeId}{x y:Operand}(ho:o.op= .store t x y)(h:tx V P nm call ex o S k=some r):OpS ex P nm o S k r:=by
 simp only[tx,ho]at h
 split at h
 ·rename_i ag sz ht
  split at h
  ·rename_i n off cs hx hy
   split at h
   ·rename_i cells hc
    have h':=aF h;clear h
    obtain⟨⟨h1,h2,h3⟩,h⟩:=h'
    split at h
    ·rename_i hwh
     obtain⟨e0,hsz⟩:=hwh
     subst e0
     refine qT h (by rw[vp hc];exact Bq) λK hK=> ?_
     simp only[bG,ho,ht,aI,hx,aK,gL hc,dC (ω:=S.len) hy,a_]
     refine⟨⟨h1,eY h2,h3⟩,?_⟩
     rw[sS hy]at hK
     simp only[ej,a_,Sv,QS,Qy]
     rw[Th (by rw[a_];omega),RO]
     exact hK
    ·refine qT h (by rw[vp hc];rfl) λK hK=> ?_
     simp only[bG,ho,ht,aI,hx,aK,gL hc,dC (ω:=S.len) hy,a_]
     refine⟨⟨h1,eY h2,h3⟩,?_⟩
     simp only[bS,fQ,rM,g5]at hK
     simp only[ej,a_]
     exact hK
   ·cases h
  ·rename_i n s i off cs hx hy
   split at h
   ·rename_i te e xs hc
    obtain⟨⟨h0,h1,h2,h3⟩,h⟩:=aF h
    obtain⟨x',hx',h⟩:=bT h
    split at h
    ·rename_i y' hy'
     obtain⟨ds,e1,_,e3⟩:=dV (ω:=S.len) hy'
     have e3:=e3 rfl
     subst e3
     have hcs:∃es,fW (encL V S.len cs)=some es/\bN V.sz V.enc e y'=(bN V.sz V.enc e x').take off++es++(bN V.sz V.enc e x').drop (off+es.length)/\es.length=cs.length:=by
      have hm:∀l:List (dB V.N),encL V S.len (l.map λl=>TV.lf l.t l.x)=(l.map λl=>aY V.sz V.enc l.t l.x).map H.d:=by
       intro l
       rw[aO,QJ,QJ]
       exact QL λl _=>by simp[aK]
      rw[fQ,fQ,hm,hm,Q9,Q_,<-cN]at e1
      have hall:∃es:List D,encL V S.len cs=es.map H.d:=by
       have:∀(a b c:List H) (l:List D),a++b++c=l.map H.d->∃es:List D,b=es.map H.d:=by
        intro a b c l hl
        refine⟨(l.drop a.length).take b.length,?_⟩
        rw[Q9,Q_,<-hl]
        simp
       exact this _ _ _ _ e1
      obtain⟨es,hes⟩:=hall
      have hlen:es.length=cs.length:=by have:=congrArg Sj hes;simpa[a_]using this.symm
      refine⟨es,by rw[hes,dH],?_,hlen⟩
      rw[hes,<-QU,<-QU]at e1
      have inj:∀(a b:List D),a.map H.d=b.map H.d->a=b:=λa b hab=>by
       have:=congrArg fW hab
       rw[dH,dH]at this
       simpa using this
      rw[hlen]
      exact(inj _ _ e1).symm
     obtain⟨es,he1,he2,he3⟩:=hcs
     refine qT h (by rw[dT hc];simp[TO.len]) λK hK=> ?_
     simp only[bG,ho,ht,aI,hx,aK,cZ hc,dC (ω:=S.len) hy,a_,Qh,hx',QG,he1]
     refine⟨⟨h0,h1,eY h2,by rw[<-h0];exact h3⟩,?_⟩
     simp only[bS,RQ,he2]at hK
     exact hK
    ·cases h
   ·cases h
  ·cases h
 ·cases h
theorem u5{x:Operand}(ho:o.op= .nilCheck x)(h:tx V P nm call ex o S k=some r):OpS ex P nm o S k r:=by
 simp only[tx,ho]at h
 split at h
 ·rename_i n off hx
  refine aS h λK hK=> ?_
  simp only[bG,ho,aI,hx,aK]at hK⊢;exact hK
 ·rename_i n s i off hx
  refine aS h λK hK=> ?_
  simp only[bG,ho,aI,hx,aK]at hK⊢;exact hK
 ·rename_i t x off hx
  refine aS h λK hK=> ?_
  simp only[bG,ho,aI,hx,aK]at hK⊢;exact hK
 ·rename_i n b hx
  obtain⟨hb,h⟩:=aF h
  subst hb
  refine aS h λK hK=> ?_
  simp only[bG,ho,aI,hx,aK]at hK⊢;exact hK
 ·cases h
theorem Ae{y:Operand}(h:Ad y=true):y= .const .nilIface:=by
 unfold Ad at h
 split at h
 ·rfl
 ·cases h
theorem Fc{op:BinOp}{t t':TypeId}{x y:Operand}(ho:o.op= .binOp op t x y t')(h:tx V P nm call ex o S k=some r):OpS ex P nm o S k r:=by
 simp only[tx,ho]at h
 split at h
 ·rename_i kx a ky b hx hy
  split at h
  ·rename_i hs
   obtain⟨hb,h⟩:=aF h
   cases op<;>simp only[uK,reduceCtorEq,Qd]at hs
   refine aS h λK hK=> ?_
   simp only[bG,ho,aI,hx,hy,aK,aY,nv]at hK⊢;exact⟨hb,hK⟩
  ·rename_i hs
   obtain⟨hb,h⟩:=aF h
   cases op<;>simp only[uK,reduceCtorEq,Qd]at hs
   refine aS h λK hK=> ?_
   simp only[bG,ho,aI,hx,hy,aK,aY,nv]at hK⊢;exact⟨hb,hK⟩
  rename_i hs
  obtain⟨hk,h⟩:=aF h
  subst hk
  cases op<;>simp only[]at h<;>first
   |(cases h;done)
   |(obtain⟨hb,h⟩:b≠0/\_:=by
      split at h
      ·cases h
      ·exact⟨‹_›,h⟩
     refine aS h λK hK=> ?_
     simp only[bG,ho,aI,hx,hy,aK,aY,nv]at hK⊢;exact⟨⟨trivial,hb⟩,hK⟩)
   |(refine aS h λK hK=> ?_
     simp only[bG,ho,aI,hx,hy,aK,aY,nv]at hK⊢;exact⟨trivial,hK⟩)
 ·rename_i a b hx hy
  split at h
  ·rename_i hu
   refine aS h λK hK=> ?_
   simp only[bG,ho,aI,hx,hy,aK,aY]at hK⊢;exact⟨hu,hK⟩
  ·rename_i hu
   refine aS h λK hK=> ?_
   simp only[bG,ho,aI,hx,hy,aK,aY]at hK⊢;exact⟨hu,hK⟩
  ·cases h
 ·rename_i a b hx hy
  split at h
  ·refine aS h λK hK=> ?_
   simp only[bG,ho,aI,hx,hy,aK,aY]at hK⊢;exact hK
  ·refine aS h λK hK=> ?_
   simp only[bG,ho,aI,hx,hy,aK,aY]at hK⊢;exact hK
  ·obtain⟨hl,h⟩:=aF h
   refine aS h λK hK=> ?_
   simp only[bG,ho,aI,hx,hy,aK,aY]at hK⊢;exact⟨by unfold most at hl;omega,hK⟩
  ·cases h
 ·rename_i a n c hx hy
  split at h
  ·rename_i hu
   refine aS h λK hK=> ?_
   simp only[bG,ho,aI,hx,hy,aK,bZ,aY]at hK⊢;exact⟨hu,hK⟩
  ·rename_i hu
   refine aS h λK hK=> ?_
   simp only[bG,ho,aI,hx,hy,aK,bZ,aY]at hK⊢;exact⟨hu,hK⟩
  ·cases h
 ·rename_i e y ys hx hy
  split at h
  ·rename_i hu
   refine aS h λK hK=> ?_
   simp only[bG,ho,aI,hx,hy,aK,bZ,aY,Qp]at hK⊢;exact⟨hu,hK⟩
  ·rename_i hu
   refine aS h λK hK=> ?_
   simp only[bG,ho,aI,hx,hy,aK,bZ,aY,Qp]at hK⊢;exact⟨hu,hK⟩
  ·cases h
 ·rename_i n b hx hy
  split at h
  ·rename_i hu
   refine aS h λK hK=> ?_
   simp only[bG,ho,aI,hx,hy,aK,bZ,aY]at hK⊢;exact⟨hu,hK⟩
  ·rename_i hu
   refine aS h λK hK=> ?_
   simp only[bG,ho,aI,hx,hy,aK,bZ,aY]at hK⊢;exact⟨hu,hK⟩
  ·cases h
 ·rename_i b hx hy
  obtain⟨⟨hu,hn⟩,h⟩:=aF h
  have hyc:=Ae hn
  split at h
  ·refine aS h λK hK=> ?_
   simp only[bG,ho,aI,hx,hy,aK,bZ,aY]at hK⊢;exact⟨⟨hu,hyc⟩,hK⟩
  ·refine aS h λK hK=> ?_
   simp only[bG,ho,aI,hx,hy,aK,bZ,aY]at hK⊢;exact⟨⟨hu,hyc⟩,hK⟩
  ·cases h
 ·cases h
theorem I2{op:UnOp}{t:TypeId}{x:Operand}(ho:o.op= .unOp op t x)(h:tx V P nm call ex o S k=some r):OpS ex P nm o S k r:=by
 simp only[tx,ho]at h
 split at h
 ·rename_i b hx
  refine aS h λK hK=> ?_
  simp only[bG,ho,aI,hx,aK,aY]at hK⊢;exact hK
 ·rename_i ki n hx
  refine aS h λK hK=> ?_
  simp only[bG,ho,aI,hx,aK,aY]at hK⊢;exact hK
 ·cases h
theorem lR{t:TypeId}{x:Operand}(ho:o.op= .makeInterface t x)(h:tx V P nm call ex o S k=some r):OpS ex P nm o S k r:=by
 simp only[tx,ho]at h
 split at h
 ·rename_i hn
  refine aS h λK hK=> ?_
  simp only[bG,ho,aK,aY]at hK⊢
  exact⟨hn,hK⟩
 ·cases h
theorem yB{s t:TypeId}{x:Operand}(ho:o.op= .convert s t x)(h:tx V P nm call ex o S k=some r):OpS ex P nm o S k r:=by
 simp only[tx,ho]at h
 split at h
 ·rename_i d ki kk n h1 h2 hx
  refine aS h λK hK=> ?_
  simp only[bG,ho,h1,h2,aI,hx,aK,aY]at hK⊢;exact hK
 ·rename_i d kk n h1 h2 hx
  refine aS h λK hK=> ?_
  simp only[bG,ho,h1,h2,aI,hx,aK,aY]at hK⊢;exact hK
 ·rename_i e x h1 h2 hx
  split at h
  ·rename_i d hu hd
   obtain⟨hl,h⟩:=aF h
   refine nV (d:=d) (e:= .int .i32) (old:=[]) (λp hp=>by cases hp) h λK hK=> ?_
   simp only[bG,ho,h1,h2,aI,hx,aK,aY,hu,hd]at hK⊢
   exact⟨by have:=Bx x;unfold most at hl;omega,hK⟩
  ·rename_i hu
   refine aS h λK hK=> ?_
   simp only[bG,ho,h1,h2,aI,hx,aK,aY,bN,tsz,hu]at hK⊢
   exact hK
  ·cases h
 ·rename_i e ik xs h1 h2 hx
  split at h
  ·rename_i hu
   refine aS h λK hK=> ?_
   simp only[bG,ho,h1,h2,aI,hx,aK,aY,hu]at hK⊢
   erw[nw]
   exact⟨rfl,hK⟩
  ·rename_i hu
   refine aS h λK hK=> ?_
   simp only[bG,ho,h1,h2,aI,hx,aK,aY,hu]at hK⊢
   erw[nw]
   exact⟨rfl,hK⟩
  ·cases h
 ·rename_i e h1 h2 hx
  split at h
  ·rename_i hu
   refine aS h λK hK=> ?_
   simp only[bG,ho,h1,h2,aI,hx,aK,aY,bZ,hu]at hK⊢;exact hK
  ·rename_i hu
   refine aS h λK hK=> ?_
   simp only[bG,ho,h1,h2,aI,hx,aK,aY,bZ,hu]at hK⊢;exact hK
  ·cases h
 ·cases h
theorem Fh{t:TypeId}{x:Operand}(ho:o.op= .range t x)(h:tx V P nm call ex o S k=some r):OpS ex P nm o S k r:=by
 simp only[tx,ho]at h
 split at h
 ·rename_i s d ht hx hd
  refine uy h λK hK=> ?_
  simp only[bG,ho,ht,hd,aI,hx,aK,aY]
  exact hK
 ·rename_i kt et m d ht hx hd
  split at h
  ·rename_i tk tv es hown
   refine⟨_,h,λm' o hm=> ?_,?_⟩
   ·simp only[aE]at hm
    split at hm
    ·rename_i e;left;simp[e]
    ·split at hm
     ·rename_i e;right;simp at hm;subst hm;subst e;simp[TO.len,qD hown]
     ·simp[gt]at hm
   ·simp only[bG,ho,ht,hd,aI,hx,aK,im hown]
    exact cw (by simp[aK]) rfl (by simp[bS]) rfl
  ·cases h
 ·cases h
theorem Fe{x:Operand}(ho:o.op= .entry x)(h:tx V P nm call ex o S k=some r):OpS ex P nm o S k r:=by
 simp only[tx,ho]at h
 split at h
 ·rename_i n hx
  split at h
  ·rename_i m tk tv es rest p hown
   obtain⟨hk,h⟩:=aF h
   refine aS h λK hK=> ?_
   simp only[bG,ho,aI,hx,aK,encL,sH hown,QG]at hK⊢
   rw[Ak hk]at hK
   exact⟨trivial,hK⟩
  ·cases h
 ·cases h
theorem I0{x:Operand}{b:Bool}(ho:o.op= .next x b)(h:tx V P nm call ex o S k=some r):OpS ex P nm o S k r:=by
 cases b with
 |false=>simp only[tx,ho]at h;cases h
 |true=>
 simp only[tx,ho]at h
 split at h
 ·rename_i n hx
  split at h
  ·rename_i s p hown
   obtain⟨h0,h⟩:=aF h
   split at h
   ·rename_i hlt
    have hl:(RD p.toNat s.size)=true:=by rw[RN];omega
    refine⟨_,h,λm o hm=> ?_,?_⟩
    ·simp only[aE]at hm
     split at hm
     ·rename_i e;right;simp at hm;subst hm;subst e;simp[TO.len,Dj hown]
     ·simp[gt]at hm
    ·have hp:((p.toNat:Nat):Int)=p:=by omega
     have hw:(p+Bs.wid s p).toNat=p.toNat+(Utf8.decode s p.toNat).2:=by unfold Bs.wid;omega
     simp only[bG,ho,aI,hx,aK,wb hown,hl]
     refine⟨trivial,cw (by simp only[aK,encL,aY,Bs.dec,hp]) rfl (by simp[bS,hw]) rfl⟩
   ·rename_i hlt
    have hl:(RD p.toNat s.size)=false:=by rw[Bool.eq_false_iff];intro h;rw[RN]at h;omega
    refine aS h λK hK=> ?_
    simp only[bG,ho,aI,hx,aK,encL,aY,wb hown,hl]at hK⊢
    exact⟨trivial,hK⟩
  ·cases h
 ·cases h
theorem Fd{t:TypeId}{parts:Array (Nat×Operand)}(ho:o.op= .build t parts)(h:tx V P nm call ex o S k=some r):OpS ex P nm o S k r:=by
 simp only[tx,ho]at h
 split at h
 ·rename_i z pl hz hp
  obtain⟨hz1,h⟩:=aF h
  split at h
  ·rename_i cs hcs
   have hf:=gA (ω:=S.len) hcs
   rw[iM hz1]at hf
   split at h
   ·refine lB h λK hK=> ?_
    simp only[bG,ho,hz,hp,Au,hf]
    exact hK _ (by rw[aK];exact H.le.refl _) (λ_=>by rw[aK])
   ·refine lB h λK hK=> ?_
    simp only[bG,ho,hz,hp,Au,hf]
    exact hK _ ib.1 ib.2
  ·cases h
 ·cases h
theorem ui(S:TS V.N)(l:List (Nat×Operand)):(l.map λp=>(p.1,fnD (Go.Awp.ev (aV V S) p.2)))=(l.map λp=>(p.1,fnT (tev S p.2))).map λp=>(p.1,aK V S.len p.2):=by
 rw[QJ]
 exact QL λp _=>by simp only[SV,aI,qu]
theorem rj{t:TypeId}{len:Nat}{parts:Array (Nat×Operand)}(ho:o.op= .buildSlice t len parts)(h:tx V P nm call ex o S k=some r):OpS ex P nm o S k r:=by
 simp only[tx,ho]at h
 split at h
 ·rename_i te sz by_ e ht hty
  obtain⟨hsz,h⟩:=aF h
  subst hsz
  split at h
  ·rename_i ys hys
   obtain⟨rows,f1,f2,f3,f4⟩:=ji (ω:=S.len) hys
   simp only[Qg]at f2
   obtain⟨⟨hl,hs⟩,h⟩:=aF h
   have hl':rows.length=len/\len *tsz V.sz e<=16777216:=⟨by omega,hs⟩
   cases hd:o.dst with
   |none=>
    simp only[hd]at h
    refine lB h λK hK=> ?_
    simp only[bG,ho,ht,ui,f1,hd]
    refine⟨hl',hK _ ?_ λhx=> ?_⟩
    ·simp only[aK,aY]
     exact H.le.d (D.le.sl f3)
    ·simp only[aK,aY]
     rw[f4 hx]
   |some d=>
    simp only[hd]at h
    by_cases hn:nm d=d
    ·rw[TP hn]at h
     refine lB h λK hK=> ?_
     simp only[bG,ho,ht,ui,f1,hd]
     refine⟨hl',?_⟩
     rw[TP hn]
     refine hK _ ?_ λhx=> ?_
     ·simp only[aK,aY]
      exact H.le.d (D.le.sl f3)
     ·simp only[aK,aY]
      rw[f4 hx]
    ·rw[TN hn]at h
     refine⟨_,h,λm o hm=> ?_,?_⟩
     ·simp only[aE]at hm
      split at hm
      ·rename_i e;left;simp[e]
      ·simp[gt]at hm
     ·simp only[bG,ho,ht,ui,f1,hd]
      refine⟨hl',?_⟩
      rw[TN hn]
      refine{val:= ?_,new:=rfl,none:=λn hg=> ?_,some:=λn o' hg=> ?_,eq:=λhx=> ?_}
      ·simp only[f6,aK]
       rw[dt]
       simp only[aE,TK,TO.len]
       rw[f3.len,Qg]
       exact H.le.refl _
      ·simp only[f6,Qp,QW,aE]at hg⊢
       split at hg
       ·simp at hg
       ·rename_i hne;rw[TN hne];rfl
      ·simp only[f6,Qp,QW,aE]at hg⊢
       split at hg
       ·rename_i hne
        simp only[bS,Qd]at hg
        subst hg
        exact⟨_,by rw[TP hne],OLe.vec f3⟩
       ·simp[gt]at hg
      ·simp only[f6,aK,Qp,QW,bS]
       rw[dt]
       simp only[aE,TK,TO.len]
       rw[f4 hx,Qg]
       first|exact⟨rfl,rfl,rfl⟩|exact⟨rfl,trivial⟩|simp
  ·cases h
 ·cases h
theorem Bz{l c:Operand}(h:pG l c=true):l=c:=by
 cases l<;>cases c<;>simp_all [pG]
theorem sY{e:Ty V.ι}{y:den V.N e}{ds:List D}(h1:D.Les ds (bN V.sz V.enc e y)):∀N:Nat,D.Rows (QK N ds) ((QK N y).map λx=>bN V.sz V.enc e x)
 |0=> .nil
 |N+1=> .cons h1 (sY h1 N)
theorem th{d:Nat}{te:TypeId}{e:Ty V.ι}{y:den V.N e}{ds:List D}{N:Nat}(_:o.dst=some d)(h1:D.Les ds (bN V.sz V.enc e y))(h2:ex=true->ds=bN V.sz V.enc e y)
 (h:k {val:= .vh (nm d),upd:=[(nm d, .vec te e (QK N y))],new:=[nm d]}=some r)
 (hv:∀K:Eff->Prop,K {val:= .vh (nm d) N,acc:=[],upd:=[(nm d,some (.vec te (tsz V.sz e) (QK N ds)))],new:=[nm d]}->bG P nm o (ev (aV V S)) (aV V S).own? K):OpS ex P nm o S k r:=by
 refine⟨_,h,λm o hm=> ?_,hv _ ?_⟩
 ·simp only[aE]at hm
  split at hm
  ·rename_i e;left;simp[e]
  ·simp[gt]at hm
 ·have f3:=sY h1 N
  refine{val:= ?_,new:=rfl,none:=λn hg=> ?_,some:=λn o' hg=> ?_,eq:=λhx=> ?_}
  ·simp only[f6,aK]
   rw[dt]
   simp only[aE,TK,TO.len,Ra]
   exact H.le.refl _
  ·simp only[f6,Qp,QW,aE]at hg⊢
   split at hg
   ·simp[bS]at hg
   ·rename_i hne;rw[TN hne];rfl
  ·simp only[f6,Qp,QW,aE]at hg⊢
   split at hg
   ·rename_i hne
    simp only[bS,Qd]at hg
    subst hg
    exact⟨_,by rw[TP hne],OLe.vec f3⟩
   ·simp[gt]at hg
  ·simp only[f6,aK,Qp,QW,bS]
   rw[dt]
   simp only[aE,TK,TO.len,Ra,RZ,h2 hx]
   first|exact⟨rfl,rfl,rfl⟩|exact⟨rfl,trivial⟩|simp
theorem jJ:∀{ds:List D} {z:List Value},(z.map λx=>H.d (.v x))=ds.map H.d->ds=z.map .v
 |[],[],_=>rfl
 |[],_::_,h=>by simp at h
 |_::_,[],h=>by simp at h
 |d::ds,x::z,h=>by
  simp only[Qp,Re,H.d.injEq]at h
  rw[<-h.1,jJ h.2];rfl
theorem tg{t:TypeId}{l c:Operand}(ho:o.op= .makeSlice t l c)(h:tx V P nm call ex o S k=some r):OpS ex P nm o S k r:=by
 simp only[tx,ho]at h
 split at h
 ·rename_i te sz by_ e d ht hty hd
  split at h
  ·rename_i z kl n kc m hz hl hc
   split at h
   ·rename_i y hy
    have h':=aF h;clear h
    obtain⟨⟨hsz,hby,hzc⟩,h⟩:=h'
    subst hsz
    obtain⟨ds,e1,e2,e3⟩:=dV (ω:=S.len) hy
    rw[iM hzc]at e1
    have hds:=jJ e1
    subst hds
    split at h
    ·rename_i hs
     have hs:=Bz hs
     subst hs
     obtain⟨h0,h⟩:=aF h
     obtain⟨h1,h⟩:=aF h
     have hnm:n=m:=by rw[hl]at hc;cases hc;rfl
     subst hnm
     refine th hd e2 e3 h λK hK=> ?_
     simp only[bG,ho,ht,hd,hz,aI,hl,hc,aK,aY]
     exact⟨⟨.inl trivial,h0,h0,h1,hby⟩,hK⟩
    ·have h':=aF h;clear h
     obtain⟨h2,h⟩:=h'
     subst h2
     have h':=aF h;clear h
     obtain⟨h0,h⟩:=h'
     have h':=aF h;clear h
     obtain⟨h1,h⟩:=h'
     refine th (N:=0) (y:=y) hd e2 e3 h λK hK=> ?_
     simp only[bG,ho,ht,hd,hz,aI,hl,hc,aK,aY]
     exact⟨⟨.inr trivial,RS _,h0,h1,hby⟩,hK⟩
   ·cases h
  ·cases h
 ·cases h
theorem nT{t:Ty V.ι}{d:D}{z:den V.N t}(h:ofZ V ex t d=some z):D.le d (aY V.sz V.enc t z)/\(ex=true->d=aY V.sz V.enc t z):=by
 unfold ofZ at h
 split at h
 ·obtain⟨hk,h⟩:=aF h
  subst hk
  have h:=‹some _=some z›
  simp only[Qd]at h;subst h
  exact⟨D.le.refl _,λ_=>rfl⟩
 ·cases h;exact⟨D.le.refl _,λ_=>rfl⟩
 ·cases h;exact⟨D.le.refl _,λ_=>rfl⟩
 ·split at h
  ·cases h
  ·cases h;exact⟨by simp only[aY,QW];exact D.le.nil _,λh=>by cases h⟩
 ·split at h
  ·rename_i z' hz
   obtain⟨hc,h⟩:=aF h
   obtain⟨ds',e1,e2,e3⟩:=dV (ω:=λ_=>0) h
   rw[iM hc]at e1
   have:=jJ e1
   subst this
   rw[oC hz]
   exact⟨D.le.agg e2,λhx=>by rw[e3 hx];rfl⟩
  ·cases h
 ·cases h
theorem yD{t:TypeId}{hint:Option Operand}(ho:o.op= .makeMap t hint)(h:tx V P nm call ex o S k=some r):OpS ex P nm o S k r:=by
 simp only[tx,ho]at h
 split at h
 ·rename_i kt et d ht hd
  split at h
  ·obtain⟨hh,h⟩:=aF h
   refine xH h λK hK=> ?_
   have hx:nq (ev (aV V S)) hint=true:=by
    cases hint with
    |none=>rfl
    |some x=>
     simp only[Kb]at hh
     simp only[nq,aI]
     split at hh
     ·rename_i hx;rw[hx];simp[aK,aY]
     ·cases hh
   simp only[bG,ho,ht,hd]
   exact⟨hx,hK⟩
  ·cases h
 ·cases h
theorem Cp{t:TypeId}{x i:Operand}{c:Bool}(ho:o.op= .lookup t x i c)(h:tx V P nm call ex o S k=some r):OpS ex P nm o S k r:=by
 simp only[tx,ho]at h
 split at h
 ·rename_i kt et n tk key ht hx hi
  split at h
  ·rename_i tk' tv es d hown hz
   split at h
   ·rename_i z hzz
    obtain⟨z1,z2⟩:=nT hzz
    split at h
    ·rename_i htk
     subst htk
     obtain⟨hk,h⟩:=aF h
     cases hkt:P.underlying kt with
     |none=>rw[hkt]at hk;simp[eU]at hk
     |some kind=>
      rw[hkt]at hk
      have hf:=vD (tv:=tv) hk key es
      have hle:H.le (.d (((Mp.get (keq V.cells tk) key es).map (aY V.sz V.enc tv)).getD d)) (aK V S.len (.lf tv ((Mp.get (keq V.cells tk) key es).getD z)))/\
       (ex=true->H.d (((Mp.get (keq V.cells tk) key es).map (aY V.sz V.enc tv)).getD d)=aK V S.len (.lf tv ((Mp.get (keq V.cells tk) key es).getD z))):=by
       cases Mp.get (keq V.cells tk) key es with
       |none=>simp only[Sf,Option.getD_none,aK];exact⟨H.le.d z1,λhx=>by rw[z2 hx]⟩
       |some y=>simp only[QG,Rk,aK];exact⟨H.le.refl _,λ_=>trivial⟩
      cases c with
      |true=>
       refine lB h λK hK=> ?_
       simp only[bG,ho,ht,hkt,hz,aI,hx,hi,aK,qB hk,im hown,hf]
       refine⟨⟨iH hk,kE hk key es⟩,hK _ ?_ λhx=> ?_⟩
       ·simp only[aK,encL]
        refine Cr rfl λi x hx=> ?_
        match i with
        |0=>simp at hx;subst hx;exact⟨_,rfl,by simpa only[aK]using hle.1⟩
        |1=>
         simp at hx;subst hx
         refine⟨_,rfl,?_⟩
         simp only[aY,SY]
         exact H.le.refl _
        |i+2=>simp at hx
       ·simp only[aK,encL]
        have:=hle.2 hx
        simp only[aK]at this
        rw[this]
        simp only[aY,SY]
      |false=>
       refine lB h λK hK=> ?_
       simp only[bG,ho,ht,hkt,hz,aI,hx,hi,aK,qB hk,im hown,hf]
       exact⟨⟨iH hk,kE hk key es⟩,hK _ hle.1 hle.2⟩
    ·cases h
   ·cases h
  ·cases h
 ·cases h
theorem GQ{t:TypeId}{x i y:Operand}(hop:∀(ρ:Operand->H) (ω:Nat->Option Own) (K:Eff->Prop),Fm P ρ ω t x i y K->bG P nm o ρ ω K)(h:Lw V P t x i y S k=some r):OpS ex P nm o S k r:=by
 simp only[Lw]at h
 split at h
 ·rename_i kt et n tk key tv z ht hx hi hy
  split at h
  ·rename_i tk' tv' es hown
   split at h
   ·rename_i htk
    subst htk
    split at h
    ·rename_i htv
     subst htv
     obtain⟨hk,h⟩:=aF h
     cases hkt:P.underlying kt with
     |none=>rw[hkt]at hk;simp[eU]at hk
     |some kind=>
      rw[hkt]at hk
      refine qT h (by rw[qD hown];rfl) λK hK=>hop _ _ _ ?_
      simp only[Fm,ht,hkt,aI,hx,hi,hy,aK,qB hk,im hown,BD hk]
      exact⟨⟨iH hk,kE hk key es⟩,_,(Mp.set_perm _ _ _ _ _).map _,hK⟩
    ·cases h
   ·cases h
  ·cases h
 ·cases h
theorem td{s:TypeId}{x:Operand}{f:Nat}(ho:o.op= .fieldAddr s x f)(h:tx V P nm call ex o S k=some r):OpS ex P nm o S k r:=by
 simp only[tx,ho]at h
 split at h
 ·rename_i fo hfo
  split at h
  ·rename_i n off hx
   refine aS h λK hK=> ?_
   simp only[bG,ho,hfo,aI,hx,aK]at hK⊢;exact hK
  ·rename_i n sz i off hx
   refine aS h λK hK=> ?_
   simp only[bG,ho,hfo,aI,hx,aK]at hK⊢;exact hK
  ·rename_i t x off hx
   obtain⟨hl,h⟩:=aF h
   refine aS h λK hK=> ?_
   simp only[bG,ho,hfo,aI,hx,aK,Ry]at hK⊢
   refine⟨?_,hK⟩
   rw[gn]at hl
   rw[QO,co];omega
  ·cases h
 ·cases h
theorem Ff{s:TypeId}{x:Operand}{f:Nat}(ho:o.op= .field s x f)(h:tx V P nm call ex o S k=some r):OpS ex P nm o S k r:=by
 simp only[tx,ho]at h
 split at h
 ·rename_i off ag sz t y hft hx
  obtain⟨hc,h⟩:=aF h
  split at h
  ·rename_i v hv
   obtain⟨d,h1,h2⟩:=fm (ω:=S.len) hv
   have he:aK V S.len (.lf t y)= .d (.agg (bN V.sz V.enc t y)):=by
    cases t<;>first|(simp[Ty.cell]at hc;done)|simp[aK,aY,bN]
   refine aS h λK hK=> ?_
   simp only[bG,ho,hft,aI,hx,he,h1]
   rw[<-h2];exact hK
  ·cases h
 ·rename_i off ag sz cs hft hx
  split at h
  ·rename_i v hv
   obtain⟨y,h1,h2,h3⟩:=jb (ω:=S.len) hv
   rw[g5]at h1
   refine lB h λK hK=> ?_
   simp only[bG,ho,hft,aI,hx,aK,cq]
   cases ha:fW (encL V S.len cs)with
   |none=>simp only[h1];exact hK y h2 h3
   |some ds=>
    have hds:encL V S.len cs=ds.map H.d:=by
     obtain⟨g1,g2⟩:=eX ha
     apply Rw
     intro i;rw[g2,Qh]
    rw[hds,<-Q_]at h1
    have:∃d,dK ag sz (ds.drop off)=some d/\y= .d d:=by
     cases ag with
     |false=>
      simp only[e_,dK]at h1⊢
      cases hdr:ds.drop off with
      |nil=>rw[hdr]at h1;cases h1
      |cons c rr=>rw[hdr]at h1;simp at h1;exact⟨c,rfl,h1.symm⟩
     |true=>
      simp only[e_,dK,Qg]at h1⊢
      split at h1
      ·rename_i hle
       rw[TP hle]
       rw[<-Q9,cq,dH]at h1
       simp at h1
       exact⟨_,rfl,h1.symm⟩
      ·cases h1
    obtain⟨d,hd1,rfl⟩:=this
    simp only[hd1]
    exact hK _ h2 h3
  ·cases h
 ·cases h
theorem tf{t:TypeId}{x i:Operand}(ho:o.op= .indexAddr t x i)(h:tx V P nm call ex o S k=some r):OpS ex P nm o S k r:=by
 simp only[tx,ho]at h
 split at h
 ·rename_i te sz by_ ht
  split at h
  ·rename_i e xs kk n hx hi
   obtain⟨hsz,h⟩:=aF h
   obtain⟨hn,h⟩:=aF h
   obtain⟨y,hy,h⟩:=bT h
   refine aS h λK hK=> ?_
   simp only[bG,ho,ht,aI,hx,hi,aK,aY,Qh,hy,QG,QV]at hK⊢
   exact⟨⟨hsz,hn⟩,hK⟩
  ·rename_i m kk n hx hi
   split at h
   ·rename_i te2 e xs hc
    obtain⟨⟨h1,h2⟩,h⟩:=aF h
    refine aS h λK hK=> ?_
    simp only[bG,ho,ht,aI,hx,hi,aK,aY,cZ hc,dT hc]at hK⊢
    exact⟨⟨h1,by exact_mod_cast h2⟩,hK⟩
   ·cases h
  ·cases h
 ·cases h
theorem Fg{t:TypeId}{x i:Operand}(ho:o.op= .index t x i)(h:tx V P nm call ex o S k=some r):OpS ex P nm o S k r:=by
 simp only[tx,ho]at h
 split at h
 ·rename_i s kk n ht hx hi
  obtain⟨hn,h⟩:=aF h
  obtain⟨b,hb,h⟩:=bT h
  refine aS h λK hK=> ?_
  simp only[bG,ho,ht,aI,hx,hi,aK,aY,hb]at hK⊢
  exact⟨hn,hK⟩
 ·cases h
theorem Fi{t:TypeId}{x:Operand}{lo hi mx:Option Operand}(ho:o.op= .slice t x lo hi mx)(h:tx V P nm call ex o S k=some r):OpS ex P nm o S k r:=by
 cases mx with
 |some m=>simp only[tx,ho]at h;cases h
 |none=>
 simp only[tx,ho]at h
 split at h
 ·rename_i s ht hx
  split at h
  ·rename_i l hh hl hh'
   obtain⟨hc,h⟩:=aF h
   refine aS h λK hK=> ?_
   simp only[bG,ho,ht,aI,hx,aK,aY,f8 hl,f8 hh']at hK⊢
   exact⟨hc,hK⟩
  ·cases h
 ·rename_i te e xs ht hx
  split at h
  ·rename_i te2 sz' by_ l hh hel hl hh'
   obtain⟨hsz,h⟩:=aF h
   obtain⟨hc,h⟩:=aF h
   refine aS h λK hK=> ?_
   simp only[bG,ho,ht,aI,hx,aK,aY,f8 hl,f8 hh',hel,Qg,Q_,Q9]at hK⊢
   exact⟨⟨hsz,hc⟩,hK⟩
  ·cases h
 ·cases h
theorem yC{x:Operand}{i:Nat}(ho:o.op= .extract x i)(h:tx V P nm call ex o S k=some r):OpS ex P nm o S k r:=by
 simp only[tx,ho]at h
 split at h
 ·rename_i vs hx
  split at h
  ·rename_i v hv
   refine aS h λK hK=> ?_
   simp only[bG,ho,aI,hx,aK,aO,Qh,hv,QG]at hK⊢
   exact hK
  ·cases h
 ·cases h
theorem u4{fn:Fn}{first captured:Array Operand}(ho:o.op= .makeFunc fn first captured)(h:tx V P nm call ex o S k=some r):OpS ex P nm o S k r:=by
 cases fn with
 |func f=>
  simp only[tx,ho]at h
  refine aS h λK hK=> ?_
  simp only[bG,ho,aK,eV]at hK⊢;exact hK
 |_=>simp only[tx,ho]at h;cases h
theorem IY{c:Call}{f:Operand}(hcall:bO P call)(ho:o.op= .call c)(hc:c.callee= .value f)(h:tx V P nm call ex o S k=some r):OpS ex P nm o S k r:=by
 simp only[tx,ho,hc]at h
 split at h
 ·rename_i fid first captured hf
  obtain⟨te,h1,h2,h3⟩:=hcall A fid _ S o.dst k r h
  refine⟨te,h1,h2,?_⟩
  simp only[bG,ho,hc,aI,hf,aK,eV]
  rw[fQ,fQ]at h3
  obtain⟨own,rr,own',q1,q2,q3⟩:=h3
  exact⟨own,rr,own',q1,q2,{q3 with eq:=λ_=>q3.eq rfl}⟩
 ·rename_i fid hf
  obtain⟨te,h1,h2,h3⟩:=hcall A fid _ S o.dst k r h
  refine⟨te,h1,h2,?_⟩
  simp only[bG,ho,hc,aI,hf,aK,aY,eV]
  obtain⟨own,rr,own',q1,q2,q3⟩:=h3
  exact⟨own,rr,own',q1,q2,{q3 with eq:=λ_=>q3.eq rfl}⟩
 ·rename_i x hf
  cases x with
  |none=>cases h
  |some fid=>
   obtain⟨te,h1,h2,h3⟩:=hcall A fid _ S o.dst k r h
   refine⟨te,h1,h2,?_⟩
   simp only[bG,ho,hc,aI,hf,aK,aY,CG,eV]
   obtain⟨own,rr,own',q1,q2,q3⟩:=h3
   exact⟨own,rr,own',q1,q2,{q3 with eq:=λ_=>q3.eq rfl}⟩
 ·cases h
theorem yA{c:Call}{b:Builtin}(ho:o.op= .call c)(hc:c.callee= .builtin b)(h:tx V P nm call ex o S k=some r):OpS ex P nm o S k r:=by
 simp only[tx,ho,hc,ws]at h
 split at h
 ·rename_i e xs harg
  obtain⟨hk,h⟩:=aF h
  refine aS h λK hK=> ?_
  simp only[bG,ho,hc,eV,harg,encL,aK,aY,Qg]at hK⊢;exact⟨hk,hK⟩
 ·rename_i n harg
  obtain⟨hk,h⟩:=aF h
  refine aS h λK hK=> ?_
  simp only[bG,ho,hc,eV,harg,encL,aK,aY]at hK⊢;exact⟨hk,hK⟩
 ·rename_i n harg
  split at h
  ·rename_i tk tv es hown
   obtain⟨hk,h⟩:=aF h
   refine aS h λK hK=> ?_
   simp only[bG,ho,hc,eV,harg,encL,aK,aY,im hown,Qg]at hK⊢;exact⟨hk,hK⟩
  ·cases h
 ·rename_i s harg
  obtain⟨hk,h⟩:=aF h
  refine aS h λK hK=> ?_
  simp only[bG,ho,hc,eV,harg,encL,aK,aY]at hK⊢;exact⟨hk,hK⟩
 ·rename_i kx a ky b harg
  refine aS h λK hK=> ?_
  simp only[bG,ho,hc,eV,harg,encL,aK,aY]at hK⊢;exact hK
 ·rename_i kx a ky b harg
  refine aS h λK hK=> ?_
  simp only[bG,ho,hc,eV,harg,encL,aK,aY]at hK⊢;exact hK
 ·rename_i x e' news harg
  split at h
  ·rename_i d t t' hd htys
   split at h
   ·rename_i te sz bytes hel
    have hone:∀l:List (den V.N e'),((l.map λx=>bN V.sz V.enc e' x).all λr=>r.all D.one)=true:=by
     intro l
     rw[RI,Qq]
     exactλx _=>qW
    have hby:∀n:Nat,bytes<=32768->n<=most->n *bytes<=140737488355328:=by
     intro n h1 h2
     have:n *bytes<=most *32768:=Tj h2 h1
     unfold most at this
     omega
    split at h
    ·rename_i n
     split at h
     ·rename_i te2 e xs hc'
      split at h
      ·rename_i hee
       subst hee
       obtain⟨⟨h1,h2,h3,h4,h5⟩,h⟩:=aF h
       obtain⟨h6,h⟩:=aF h
       refine nV (d:=d) (old:=[(n,xs.length)]) (λp hp=>by simp at hp;subst hp;exact dT hc') h λK hK=> ?_
       simp only[bG,ho,hc,eV,harg,encL,aK,aY,hd,htys,hel,cZ hc',Qg,dT hc']at hK⊢
       refine⟨⟨h1,h2,h3,h3,trivial,hone news,hby _ h4 h6,by unfold most at h6;omega⟩,?_⟩
       have:=hK
       simp only[QU,QB]at this
       exact h3▸this
      ·cases h
     ·cases h
    ·obtain⟨⟨h1,h2,h3⟩,h⟩:=aF h
     obtain⟨h4,h⟩:=aF h
     refine nV (d:=d) (old:=[]) (λp hp=>by cases hp) h λK hK=> ?_
     simp only[bG,ho,hc,eV,harg,encL,aK,aY,bZ,hd,htys,hel,Qg]at hK⊢
     refine⟨⟨h1,h2,hone news,hby _ h3 h4,by unfold most at h4;omega⟩,?_⟩
     exact h2▸hK
    ·cases h
   ·cases h
  ·cases h
 ·rename_i x s harg
  split at h
  ·rename_i d t t' hd htys
   split at h
   ·rename_i te sz bytes hel
    obtain⟨⟨g1,g2,g3,g4⟩,h⟩:=aF h
    have hs:P.underlying t'=some .string:=by
     unfold Kd at g1
     split at g1
     ·assumption
     ·cases g1
    have hz:kI P te=some (.v (.int .u8 0)):=by
     unfold GU at g4
     split at g4
     ·rename_i n hn;have:n=0:=by simpa using g4
      rw[this]at hn;exact hn
     ·cases g4
    split at h
    ·rename_i n _
     split at h
     ·rename_i te2 xs hc'
      obtain⟨⟨h1,h2⟩,h⟩:=aF h
      obtain⟨h6,h⟩:=aF h
      refine nV (d:=d) (e:= .int .u8) (old:=[(n,xs.length)]) (λp hp=>by simp at hp;subst hp;exact dT hc') h λK hK=> ?_
      simp only[bG,ho,hc,eV,harg,encL,aK,aY,hd,htys,hel,cZ hc',Qg,dT hc']at hK⊢
      refine⟨⟨hs,hz,h1,g2,rfl,g3,trivial,by unfold most at h6;omega⟩,?_⟩
      have:=hK
      simp only[QU,QB]at this
      exact this
     ·cases h
    ·obtain⟨h4,h⟩:=aF h
     refine nV (d:=d) (e:= .int .u8) (old:=[]) (λp hp=>by cases hp) h λK hK=> ?_
     simp only[bG,ho,hc,eV,harg,encL,aK,aY,bZ,hd,htys,hel,Qg]at hK⊢
     exact⟨⟨hs,hz,g2,g3,by unfold most at h4;omega⟩,hK⟩
    ·cases h
   ·cases h
  ·cases h
 ·rename_i n harg
  split at h
  ·rename_i te e xs hown
   obtain⟨hk,h⟩:=aF h
   refine aS h λK hK=> ?_
   simp only[bG,ho,hc,eV,harg,encL,aK,aY,cZ hown]at hK⊢
   exact⟨hk,hK⟩
  ·cases h
 ·rename_i n ki l harg
  split at h
  ·rename_i te xs pt it hown htys
   obtain⟨⟨h1,h2,h3⟩,h⟩:=aF h
   obtain⟨⟨h4,h5⟩,h⟩:=aF h
   have hp:P.underlying pt=some (.pointer te):=by
    unfold Af at h1
    split at h1
    ·rename_i e' he;rw[QT h1]at he;exact he
    ·cases h1
   refine Es (λ_ _=>by simp[aK]) h (dT hown) λK hK=> ?_
   simp only[bG,ho,hc,eV,harg,encL,aK,aY,cZ hown,htys,Qg]at hK⊢
   erw[nw]
   exact⟨⟨hp,h2,rfl,h3,h4,by unfold most at h5;subst h4;show(xs.length:Int)<=1000000000000;omega⟩,hK⟩
  ·cases h
 ·cases h
theorem wx(hcall:bO P call)(hf:∀te,k te=some r->∀d∈te.new,S.fresh d=true)(h:tx V P nm call ex o S k=some r):OpS ex P nm o S k r:=by
 cases ho:o.op with
 |move x=>exact Cq (.inl ho) h
 |assign x=>exact Cq (.inr ho) h
 |pick c x y=>exact I1 ho h
 |alloc t=>exact Fb ho h
 |box t x=>exact K9 ho hf h
 |load t x=>exact IZ ho h
 |store t x y=>exact Fj ho h
 |nilCheck x=>exact u5 ho h
 |binOp op t x y t'=>exact Fc ho h
 |unOp op t x=>exact I2 ho h
 |convert s t x=>exact yB ho h
 |build t ps=>exact Fd ho h
 |buildSlice t n ps=>exact rj ho h
 |fieldAddr s x f=>exact td ho h
 |field s x f=>exact Ff ho h
 |indexAddr t x i=>exact tf ho h
 |index t x i=>exact Fg ho h
 |slice t x lo hi mx=>exact Fi ho h
 |extract x i=>exact yC ho h
 |makeFunc fn a b=>exact u4 ho h
 |makeInterface t x=>exact lR ho h
 |makeSlice t l c=>exact tg ho h
 |makeMap t c=>exact yD ho h
 |range t x=>exact Fh ho h
 |next x b=>exact I0 ho h
 |entry x=>exact Fe ho h
 |lookup t x i c=>exact Cp ho h
 |mapUpdate t x i y=>exact GQ (λρ ω K hh=>by simpa only[bG,ho]using hh) (by simpa only[tx,ho]using h)
 |insert t x i y=>exact GQ (λρ ω K hh=>by simpa only[bG,ho]using hh) (by simpa only[tx,ho]using h)
 |call c=>
  cases hc:c.callee with
  |value f=>exact IY hcall ho hc h
  |builtin b=>exact yA ho hc h
  |invoke x m=>simp only[tx,ho,hc]at h;cases h
 |_=>simp only[tx,ho]at h;cases h
end
end Go.Tx
end
section
namespace Go.Tx
open Go.Awp
variable [Inhabited GMem]
inductive Pt (ι:Type)where
 |dat (t:Ty ι)
 |bp (c off:Nat)
 |vh (c:Nat)
 |mp (c:Nat)
 |np (c:Nat)
 /-- the nil of an interface -/
 |nif
 |fn (f:Nat) (a b:List Nat)
 /-- a struct, some of its cells owned slices -/
 |ag (cs:List (Ty ι⊕Nat))
 /-- a cut of an owned slice -/
 |sv (c sz:Nat)
inductive OPt (ι:Type)where
 |box (o:Option TypeId) (cells:List (Pt ι))
 |st (i:ι)
 |vec (te:TypeId) (e:Ty ι)
 /-- a slice whose elements own what they hold: all of them are there, or some are out -/
 |dvec (te:TypeId) (e:Ty ι) (out:Bool)
 |map (k v:Ty ι)
 |iter
 |miter (m:Nat) (k v:Ty ι)
 |que (te:TypeId) (e:Ty ι)
 |maps (te:TypeId) (k v:Ty ι)
 |bar (n:Nat) (e:Ty ι)
structure Cut (ι:Type)where
 slots:List (Nat×Pt ι)
 objs:List (Nat×OPt ι)
section
variable {ι:Type}
def G9:List (Ty ι⊕Nat)->List (Ty ι)
 |[]=>[]
 | .inl t::r=>t::G9 r
 | .inr _::r=>G9 r
def Pt.tys:Pt ι->List (Ty ι)
 | .dat t=>[t]
 | .ag cs=>G9 cs
 | .np _=>[.bool]
 | .sv _ _=>[.int .i64, .int .i64]
 |_=>[]
def Bn:List (Pt ι)->List (Ty ι)
 |[]=>[]
 |p::r=>p.tys++Bn r
def Cb:List (Nat×Pt ι)->List (Ty ι)
 |[]=>[]
 |p::r=>p.2.tys++Cb r
def OPt.tys:OPt ι->List (Ty ι)
 | .box _ cells=>Bn cells
 | .st i=>[.st i]
 | .vec _ e=>[.sl e]
 | .dvec _ e out=>match out with
  |true=>[.sl (.op e)]
  |false=>[.sl e]
 | .map k v=>[.mp k v]
 | .iter=>[.str, .int .i64]
 | .miter _ k v=>[.mp k v, .mp k v]
 | .que _ e=>[.sl e]
 | .maps _ k v=>[.sl (.op (.mp k v))]
 | .bar n e=>[.ar n e]
def AY:List (Nat×OPt ι)->List (Ty ι)
 |[]=>[]
 |p::r=>p.2.tys++AY r
def Cut.tys(c:Cut ι):List (Ty ι):=Cb c.slots++AY c.objs
@[reducible] def HL (N:ι->Type):List (Ty ι)->Type
 |[]=>Unit
 |t::r=>den N t×HL N r
def Kn{N:ι->Type}:(ts:List (Ty ι))->HL N ts->List (dB N)
 |[],_=>[]
 |t::r,v=>⟨t,v.1⟩::Kn r v.2
def GO[DecidableEq ι]{N:ι->Type}:(ts:List (Ty ι))->List (dB N)->Option (HL N ts)
 |[],[]=>some ()
 |t::r,l::ls=>if h:l.t=t then match GO r ls with
  |some v=>some (h▸l.x,v)
  |none=>none
  else none
 |_,_=>none
theorem ri[DecidableEq ι]{N:ι->Type}:∀{ts:List (Ty ι)} {ls:List (dB N)} {v:HL N ts},GO ts ls=some v->Kn ts v=ls
 |[],[],v,_=>rfl
 |[],_::_,v,h=>by simp[GO]at h
 |_::_,[],v,h=>by simp[GO]at h
 |t::r,l::ls,v,h=>by
  simp only[GO]at h
  split at h
  ·rename_i ht
   split at h
   ·rename_i w hw
    obtain⟨lt,lx⟩:=l
    simp only at ht
    subst ht
    simp at h;subst h
    simp[Kn,ri hw]
   ·cases h
  ·cases h
abbrev da:=List (Nat×Nat)
def mz(σ:da)(c n:Nat):Option da:=match gt σ c with
 |some m=>if m=n then some σ else none
 |none=>if σ.any (λp=>QZ p.2 n)=true then none else some ((c,n)::σ)
def rv{N:ι->Type}(σ:da):List Nat->List (TV N)->Option da
 |[],[]=>some σ
 |c::r, .bp n 0::s=>match mz σ c n with
  |some σ'=>rv σ' r s
  |none=>none
 |_,_=>none
end
section
variable (V:gW)
def mtC(σ:da):List (Ty V.ι⊕Nat)->List (TV V.N)->Option (da×List (dB V.N))
 |[],[]=>some (σ,[])
 | .inl t::r,x::s=>match kN V false t x with
  |some l=>match mtC σ r s with
   |some (σ',ls)=>some (σ',l::ls)
   |none=>none
  |none=>none
 | .inr c::r, .vh n::s=>match mz σ c n with
  |some σ'=>mtC σ' r s
  |none=>none
 |_,_=>none
def mt1(σ:da):Pt V.ι->TV V.N->Option (da×List (dB V.N))
 | .dat t, .lf t' x=>if t'=t then some (σ,[⟨t',x⟩])else none
 | .dat (.sl e), .raw (.slice none 0 0)=>some (σ,[⟨.sl e,[]⟩])
 | .dat .er, .raw .nilIface=>some (σ,[⟨.er,false⟩])
 | .dat (.st i), .agg cs=>match mkV V false (some (.st i)) cs with
  | .lf t x=>some (σ,[⟨t,x⟩])
  |_=>none
 | .bp c off, .bp n off'=>if off=off' then(mz σ c n).map λσ'=>(σ',[])else none
 | .vh c, .vh n=>(mz σ c n).map λσ'=>(σ',[])
 | .mp c, .mp n=>(mz σ c n).map λσ'=>(σ',[])
 | .np c, .np n b=>(mz σ c n).map λσ'=>(σ',[⟨.bool,b⟩])
 | .np c, .bp n 0=>(mz σ c n).map λσ'=>(σ',[⟨.bool,true⟩])
 | .np _, .raw (.pointer none)=>some (σ,[⟨.bool,false⟩])
 | .nif, .raw .nilIface=>some (σ,[])
 | .dat (.op e), .raw (.pointer none)=>some (σ,[⟨.op e,none⟩])
 | .sv c z, .sv n s i off=>if s=z then(mz σ c n).map λσ'=>(σ',[⟨.int .i64,(i:Int)⟩,⟨.int .i64,(off:Int)⟩])else none
 | .fn f a b, .fn f' a' b'=>if f=f' then match rv σ a a' with
   |some σ'=>(rv σ' b b').map λσ''=>(σ'',[])
   |none=>none
  else none
 | .ag cs, .agg vs=>mtC V σ cs vs
 |_,_=>none
def mtL(σ:da):List (Pt V.ι)->List (TV V.N)->Option (da×List (dB V.N))
 |[],[]=>some (σ,[])
 |p::r,x::s=>match mt1 V σ p x with
  |some (σ',l)=>match mtL σ' r s with
   |some (σ'',l')=>some (σ'',l++l')
   |none=>none
  |none=>none
 |_,_=>none
def mtO(S:TS V.N)(σ:da):List (Nat×OPt V.ι)->Option (da×List (dB V.N))
 |[]=>some (σ,[])
 |(c,p)::r=>match gt σ c with
  |some n=>match p,S.own? n with
   | .box o ps,some (.box o' cells)=>if o=none\/o=o' then match mtL V σ ps cells with
    |some (σ',l)=>match mtO S σ' r with
     |some (σ'',l')=>some (σ'',l++l')
     |none=>none
    |none=>none
    else none
   | .st i,some (.box _ cells)=>match mkV V false (some (.st i)) cells with
    | .lf (.st j) x=>match mtO S σ r with
     |some (σ'',l')=>some (σ'',⟨.st j,x⟩::l')
     |none=>none
    |_=>none
   | .st i,some (.bst j x)=>if i=j then match mtO S σ r with
     |some (σ'',l')=>some (σ'',⟨.st j,x⟩::l')
     |none=>none
    else none
   | .box none ps,some (.bst j x)=>match mtL V σ ps ((V.cells j x).map λl=> .lf l.t l.x)with
    |some (σ',l)=>match mtO S σ' r with
     |some (σ'',l')=>some (σ'',l++l')
     |none=>none
    |none=>none
   | .vec te e,some (.vec te' e' xs)=>if te=te'/\e=e' then match mtO S σ r with
     |some (σ'',l')=>some (σ'',⟨.sl e',xs⟩::l')
     |none=>none
    else none
   | .dvec te e true,some (.pvec te' e' xs)=>if te=te'/\e=e' then match mtO S σ r with
     |some (σ'',l')=>some (σ'',⟨.sl (.op e'),xs⟩::l')
     |none=>none
    else none
   | .dvec te e true,some (.dvec te' e' xs)=>if te=te'/\e=e' then match mtO S σ r with
     |some (σ'',l')=>some (σ'',⟨.sl (.op e'),xs.map some⟩::l')
     |none=>none
    else none
   | .dvec te e false,some (.dvec te' e' xs)=>if te=te'/\e=e' then match mtO S σ r with
     |some (σ'',l')=>some (σ'',⟨.sl e',xs⟩::l')
     |none=>none
    else none
   | .iter,some (.iter s p)=>match mtO S σ r with
     |some (σ'',l')=>some (σ'',⟨.str,s⟩::⟨.int .i64,p⟩::l')
     |none=>none
   | .miter cm tk tv,some (.miter m tk' tv' es rest _)=>if tk=tk'/\tv=tv' then match mz σ cm m with
     |some σ'=>match mtO S σ' r with
      |some (σ'',l')=>some (σ'',⟨.mp tk' tv',es⟩::⟨.mp tk' tv',rest⟩::l')
      |none=>none
     |none=>none
    else none
   | .map tk tv,some (.map tk' tv' es)=>if tk=tk'/\tv=tv' then match mtO S σ r with
     |some (σ'',l')=>some (σ'',⟨.mp tk' tv',es⟩::l')
     |none=>none
    else none
   | .que te e,some (.que te' e' xs)=>if te=te'/\e=e' then match mtO S σ r with
     |some (σ'',l')=>some (σ'',⟨.sl e',xs⟩::l')
     |none=>none
    else none
   | .maps te tk tv,some (.maps te' tk' tv' es _)=>if te=te'/\tk=tk'/\tv=tv' then match mtO S σ r with
     |some (σ'',l')=>some (σ'',⟨.sl (.op (.mp tk' tv')),es⟩::l')
     |none=>none
    else none
   | .bar m e,some (.bar m' e' xs)=>if m=m'/\e=e' then match mtO S σ r with
     |some (σ'',l')=>some (σ'',⟨.ar m' e',xs⟩::l')
     |none=>none
    else none
   |_,_=>none
  |none=>none
def bdC:List (Ty V.ι⊕Nat)->List (dB V.N)->Option (List (TV V.N)×List (dB V.N))
 |[],ls=>some ([],ls)
 | .inl _::r,l::ls=>match bdC r ls with
  |some (vs,ls')=>some (.lf l.t l.x::vs,ls')
  |none=>none
 | .inl _::_,[]=>none
 | .inr c::r,ls=>match bdC r ls with
  |some (vs,ls')=>some (.vh c::vs,ls')
  |none=>none
def bd1:(p:Pt V.ι)->List (dB V.N)->Option (TV V.N×List (dB V.N))
 | .dat _,l::ls=>some (.lf l.t l.x,ls)
 | .dat _,[]=>none
 | .bp c off,ls=>some (.bp c off,ls)
 | .vh c,ls=>some (.vh c,ls)
 | .mp c,ls=>some (.mp c,ls)
 | .np c,⟨.bool,b⟩::ls=>some (.np c b,ls)
 | .np _,_=>none
 | .nif,ls=>some (.raw .nilIface,ls)
 | .sv c z,⟨.int .i64,i⟩::⟨.int .i64,off⟩::ls=>some (.sv c z i.toNat off.toNat,ls)
 | .sv _ _,_=>none
 | .fn f a b,ls=>some (.fn f (a.map λc=> .bp c 0) (b.map λc=> .bp c 0),ls)
 | .ag cs,ls=>match bdC V cs ls with
  |some (vs,ls')=>some (.agg vs,ls')
  |none=>none
def bdL:List (Pt V.ι)->List (dB V.N)->Option (List (TV V.N)×List (dB V.N))
 |[],ls=>some ([],ls)
 |p::r,ls=>match bd1 V p ls with
  |some (x,ls')=>match bdL r ls' with
   |some (xs,ls'')=>some (x::xs,ls'')
   |none=>none
  |none=>none
def bdO:List (Nat×OPt V.ι)->List (dB V.N)->Option (List (Nat×TO V.N))
 |[],[]=>some []
 |[],_::_=>none
 |(c, .box o ps)::r,ls=>match bdL V ps ls with
  |some (xs,ls')=>match bdO r ls' with
   |some os=>some ((c, .box o xs)::os)
   |none=>none
  |none=>none
 |(c, .st i)::r,⟨.st j,x⟩::ls=>if j=i then match bdO r ls with
    |some os=>some ((c, .bst j x)::os)
    |none=>none
  else none
 |(c, .vec te e)::r,⟨.sl e',xs⟩::ls=>if e'=e then match bdO r ls with
    |some os=>some ((c, .vec te e' xs)::os)
    |none=>none
  else none
 |(c, .dvec te e true)::r,⟨.sl (.op e'),xs⟩::ls=>if e'=e then match bdO r ls with
    |some os=>some ((c, .pvec te e' xs)::os)
    |none=>none
  else none
 |(c, .dvec te e false)::r,⟨.sl e',xs⟩::ls=>if e'=e then match bdO r ls with
    |some os=>some ((c, .dvec te e' xs)::os)
    |none=>none
  else none
 |(c, .iter)::r,⟨.str,s⟩::⟨.int .i64,p⟩::ls=>match bdO r ls with
    |some os=>some ((c, .iter s p)::os)
    |none=>none
 |(c, .miter cm tk tv)::r,⟨.mp tk' tv',es⟩::⟨.mp tk2 tv2,rest⟩::ls=>if h:(tk2=tk'/\tv2=tv')/\tk'=tk/\tv'=tv then match bdO r ls with
    |some os=>some ((c, .miter cm tk' tv' es (h.1.1▸h.1.2▸rest) none)::os)
    |none=>none
  else none
 |(c, .map tk tv)::r,⟨.mp tk' tv',es⟩::ls=>if tk'=tk/\tv'=tv then match bdO r ls with
    |some os=>some ((c, .map tk' tv' es)::os)
    |none=>none
  else none
 |(c, .que te e)::r,⟨.sl e',xs⟩::ls=>if e'=e then match bdO r ls with
    |some os=>some ((c, .que te e' xs)::os)
    |none=>none
  else none
 |(c, .maps te tk tv)::r,⟨.sl (.op (.mp tk' tv')),es⟩::ls=>if tk'=tk/\tv'=tv then match bdO r ls with
    |some os=>some ((c, .maps te tk' tv' es none)::os)
    |none=>none
  else none
 |(c, .bar m e)::r,⟨.ar m' e',xs⟩::ls=>if m'=m/\e'=e then match bdO r ls with
    |some os=>some ((c, .bar m' e' xs)::os)
    |none=>none
  else none
 |_,_=>none
def build(c:Cut V.ι)(ls:List (dB V.N)):TS V.N:=match bdL V (c.slots.map (·.2)) ls with
 |some (xs,ls')=>match bdO V c.objs ls' with
  |some os=>{tmps:=(c.slots.map (·.1)).zip xs,own:=os}
  |none=>{tmps:=[],own:=[]}
 |none=>{tmps:=[],own:=[]}
def f_(c:Cut V.ι)(v:HL V.N c.tys):TS V.N:=build V c (Kn c.tys v)
def Gm(n:Nat)(e:Ty V.ι)(xs:List (den V.N e))(v:TV V.N):TV V.N:=match v with
 | .vh m=>if m=n then .lf (.sl e) xs else .vh m
 |v=>if TV.has n v=true then .junk else v
def LY(n:Nat)(e:Ty V.ι)(xs:List (den V.N e))(v:TV V.N):TV V.N:=match v with
 | .agg cs=> .agg (cs.map (Gm V n e xs))
 |v=>Gm V n e xs v
def rW(n:Nat)(e:Ty V.ι)(xs:List (den V.N e)):TO V.N->TO V.N
 | .box o cells=> .box o (cells.map (Gm V n e xs))
 |o=>o
def TS.frz(S:TS V.N)(n:Nat)(e:Ty V.ι)(xs:List (den V.N e)):TS V.N:=
 {tmps:=S.tmps.map λp=>(p.1,LY V n e xs p.2),own:=(n, .gone xs.length)::S.own.map λp=>(p.1,rW V n e xs p.2)}
def Hv(S:TS V.N)(v:TV V.N):TS V.N:=match v with
 | .vh n=>match S.own? n with
  |some (.vec _ e xs)=>S.frz V n e xs
  |some (.dvec te e ys)=>TS.frz V {S with own:=(n, .vec te e ys)::S.own} n e ys
  |_=>S
 |_=>S
def frzL(S:TS V.N):List (TV V.N)->TS V.N
 |[]=>S
 |v::r=>frzL (Hv V S v) r
def Ct:List (Ty V.ι⊕Nat)->List (TV V.N)->List (TV V.N)
 | .inl _::r,v::s=>v::Ct r s
 | .inr _::r,_::s=>Ct r s
 |_,_=>[]
def I4:Pt V.ι->TV V.N->List (TV V.N)
 | .dat _, .vh n=>[.vh n]
 | .dat _, .agg cs=>cs
 | .ag cs, .agg vs=>Ct V cs vs
 |_,_=>[]
def I9(dv:Bool)(te:TypeId)(e:Ty V.ι):TO V.N:=match dv with
 |true=> .dvec te e []
 |false=> .vec te e []
def ut(dv:Bool)(te:TypeId)(e:Ty V.ι)(S:TS V.N)(t:Nat):TS V.N:=match gt S.tmps t with
 |some (.raw (.slice none 0 0))=>if S.fresh (60000+t)=true/\RD (60000+t) given=true then{tmps:=(t, .vh (60000+t))::S.tmps,own:=(60000+t,I9 V dv te e)::S.own}else S
 |_=>S
def pw(dv:Bool)(te:TypeId)(e:Ty V.ι)(S:TS V.N)(b i:Nat):TS V.N:=match S.own? b with
 |some (.box o cells)=>match cells[i]? with
  |some (.raw (.slice none 0 0))=>if S.fresh (70000+S.own.length)=true/\RD (70000+S.own.length) given=true then
   {tmps:=S.tmps,own:=(b, .box o (cells.set i (.vh (70000+S.own.length))))::(70000+S.own.length,I9 V dv te e)::S.own}else S
  |_=>S
 |_=>S
def cellAt(S:TS V.N)(b i:Nat):TV V.N:=match S.own? b with
 |some (.box _ cells)=>(cells[i]?).getD .junk
 |_=> .junk
def eW(objs:List (Nat×OPt V.ι))(b:Nat):Nat->List (Pt V.ι)->TS V.N->TS V.N
 |_,[],S=>S
 |i, .vh c::r,S=>match gt objs c with
  |some (.vec te e)=>eW objs b (i+1) r (pw V false te e S b i)
  |some (.dvec te e _)=>eW objs b (i+1) r (pw V true te e S b i)
  |_=>eW objs b (i+1) r S
 |i, .dat ty::r,S=>eW objs b (i+1) r (frzL V S (I4 V (.dat ty) (cellAt V S b i)))
 |i,_::r,S=>eW objs b (i+1) r S
def Bg(objs:List (Nat×OPt V.ι))(c b:Nat)(S:TS V.N):TS V.N:=match gt objs c with
 |some (.box _ ps)=>eW V objs b 0 ps S
 |some (.st _)=>match S.own? b with
  |some (.box _ cells)=>frzL V S cells
  |_=>S
 |_=>S
def Gv:Pt V.ι->TV V.N->List (Nat×Nat)
 | .bp c _, .bp n _=>[(c,n)]
 | .mp c, .mp n=>[(c,n)]
 | .fn _ a b, .fn _ a' b'=>(a++b).zip ((a'++b').map λv=>match v with
  | .bp n _=>n
  |_=>0)
 |_,_=>[]
def Gw:List (Pt V.ι)->List (TV V.N)->List (Nat×Nat)
 |p::ps,v::vs=>Gv V p v++Gw ps vs
 |_,_=>[]
def Kp(objs:List (Nat×OPt V.ι))(S:TS V.N)(c b:Nat):List (Nat×Nat):=match gt objs c,S.own? b with
 |some (.box _ ps),some (.box _ cells)=>Gw V ps cells
 |_,_=>[]
def Ja(objs:List (Nat×OPt V.ι)):Nat->List (Nat×Nat)->TS V.N->TS V.N
 |0,_,S=>S
 |_,[],S=>S
 |m+1,(c,b)::r,S=>Ja objs m (r++Kp V objs S c b) (Bg V objs c b S)
def rl(objs:List (Nat×OPt V.ι))(S:TS V.N):List (Nat×Pt V.ι)->TS V.N
 |[]=>S
 |(t, .vh c)::r=>match gt objs c with
  |some (.vec te e)=>rl objs (ut V false te e S t) r
  |some (.dvec te e _)=>rl objs (ut V true te e S t) r
  |_=>rl objs S r
 |(t, .dat ty)::r=>rl objs (frzL V S (I4 V (.dat ty) (S.get t))) r
 |(t, .ag cs)::r=>rl objs (frzL V S (I4 V (.ag cs) (S.get t))) r
 |_::r=>rl objs S r
def Mh(objs:List (Nat×OPt V.ι))(S:TS V.N)(slots:List (Nat×Pt V.ι)):TS V.N:=match objs with
 |[]=>rl V objs S slots
 |_=>Ja V objs (4 *objs.length) (slots.flatMap λp=>Gv V p.2 (S.get p.1)) (rl V objs S slots)
def Ht(c:Cut V.ι)(S:TS V.N):Option (da×List (dB V.N)):=match mtL V [] (c.slots.map (·.2)) (c.slots.map λp=>S.get p.1)with
 |some (σ,l)=>match mtO V S σ c.objs with
  |some (σ',l')=>some (σ',l++l')
  |none=>none
 |none=>none
def tz(objs:List (Nat×OPt V.ι)):Pt V.ι->Bool
 | .vh c=>objs.any λp=>QZ p.1 c
 | .ag cs=>cs.all λx=>match x with
  | .inr c=>objs.any λp=>QZ p.1 c
  | .inl _=>true
 |_=>true
def AZ(c:Cut V.ι)(σ:da):Bool:=σ.all (λp=>RD p.1 given||QZ p.1 p.2)&&c.slots.all (λp=>tz V c.objs p.2)&&c.objs.all (λp=>match p.2 with
 | .box _ ps=>ps.all (tz V c.objs)
 |_=>true)
def zM(c:Cut V.ι)(S:TS V.N):Option (HL V.N c.tys):=match Ht V c (Mh V c.objs S c.slots)with
 |some (σ,ls)=>if AZ V c σ=true then GO c.tys ls else none
 |none=>none
end
end Go.Tx
end
section
namespace Go.Tx
open Go.Awp
variable [Inhabited GMem]
def Sub(σ σ':da):Prop:=∀c n,gt σ c=some n->gt σ' c=some n
theorem Sub.refl(σ:da):Sub σ σ:=λ_ _ h=>h
theorem Sub.trans{a b c:da}(h:Sub a b)(k:Sub b c):Sub a c:=λx n hx=>k x n (h x n hx)
def Inj(σ:da):Prop:=∀c c' n,gt σ c=some n->gt σ c'=some n->c=c'
theorem db{σ σ':da}{c n:Nat}(h:mz σ c n=some σ'):Sub σ σ'/\gt σ' c=some n/\(Inj σ->Inj σ'):=by
 unfold mz at h
 split at h
 ·rename_i m hm
  split at h
  ·rename_i e;cases h;subst e;exact⟨Sub.refl _,hm,id⟩
  ·cases h
 ·rename_i hc
  split at h
  ·cases h
  ·rename_i hn
   cases h
   have hn':∀x,gt σ x≠some n:=λx hx=>by
    apply hn
    rw[Rs]
    exact⟨(x,n),cz hx,by simp⟩
   refine⟨λx m hx=> ?_,by simp[aE],λhi x y m hx hy=> ?_⟩
   ·rw[aE]
    by_cases e:c=x
    ·subst e;rw[hc]at hx;cases hx
    ·rw[TN e];exact hx
   ·rw[aE]at hx hy
    by_cases e:c=x<;>by_cases e':c=y
    ·rw[<-e,<-e']
    ·rw[TP e]at hx;rw[TN e']at hy;cases hx;exact(hn' _ hy).elim
    ·rw[TP e']at hy;rw[TN e]at hx;cases hy;exact(hn' _ hx).elim
    ·rw[TN e]at hx;rw[TN e']at hy;exact hi x y m hx hy
section
variable {V:gW}
theorem H.le.nil(sz:Nat):H.le (.d (.v (.slice none 0 0))) (.d (.sl sz [])):=H.le.d (D.le.nil sz)
structure Tr (σ:da) (objs:List (Nat×OPt V.ι)) (E E':Env) (ω ω':Nat->Nat):Prop where
 env:∀c n,gt σ c=some n->E' c=E n
 len:∀c n,(objs.any λp=>QZ p.1 c)=true->gt σ c=some n->ω' c=ω n
theorem iX:∀{l:List Nat} {vs:List (TV V.N)} {σ σ':da},rv σ l vs=some σ'->Sub σ σ'/\(Inj σ->Inj σ')/\l.length=vs.length/\
 ∀(i:Nat) (c:Nat) (v:TV V.N),l[i]?=some c->vs[i]?=some v->∃n,v= .bp n 0/\gt σ' c=some n
 |[],[],σ,σ',h=>by simp[rv]at h;subst h;exact⟨Sub.refl _,id,rfl,λi c v hc=>by simp at hc⟩
 |[],_::_,σ,σ',h=>by simp[rv]at h
 |_::_,[],σ,σ',h=>by simp[rv]at h
 |c::r,v::s,σ,σ',h=>by
  unfold rv at h
  split at h
  ·rename_i heq1 heq2;cases heq1
  ·rename_i c' r' n s' heq1 heq2
   simp only[Re]at heq1 heq2
   obtain⟨rfl,rfl⟩:=heq1
   obtain⟨rfl,rfl⟩:=heq2
   split at h
   ·rename_i σ1 h1
    obtain⟨a1,a2,a3⟩:=db h1
    obtain⟨b1,b2,b3,b4⟩:=iX h
    refine⟨a1.trans b1,λhi=>b2 (a3 hi),by simp[b3],λi x w hx hw=> ?_⟩
    cases i with
    |zero=>simp at hx hw;subst hx;subst hw;exact⟨n,rfl,b1 _ _ a2⟩
    |succ i=>exact b4 i x w (by simpa using hx) (by simpa using hw)
   ·cases h
  ·cases h
theorem y7{E E':Env}{M:Mem}{σ:da}{ω ω':Nat->Nat}(hE:∀c n,gt σ c=some n->E' c=E n){l:List Nat}{vs:List (TV V.N)}(hl:l.length=vs.length)
 (h:∀(i:Nat) (c:Nat) (v:TV V.N),l[i]?=some c->vs[i]?=some v->∃n,v= .bp n 0/\gt σ c=some n){av:Array Value}
 (hs:av.size=(encL V ω vs).length)(hr:∀(i:Nat) (c:Value) (x:H),av[i]?=some c->(encL V ω vs)[i]?=some x->bF E M c x):
 av.size=(encL V ω' (l.map λc=>(.bp c 0:TV V.N))).length/\∀(i:Nat) (c:Value) (x:H),av[i]?=some c->(encL V ω' (l.map λc=>(.bp c 0:TV V.N)))[i]?=some x->bF E' M c x:=by
 rw[a_]at hs
 refine⟨by rw[a_,Qg];omega,λi c x hc hx=> ?_⟩
 simp only[aO,Qh,Option.map_map]at hx
 cases hli:l[i]? with
 |none=>rw[hli]at hx;cases hx
 |some k=>
  rw[hli]at hx
  simp[aK]at hx;subst hx
  have hi:i<vs.length:=by rw[<-hl];exact(Qf.1 hli).1
  obtain⟨n,hv,hn⟩:=h i k _ hli (Qi hi)
  have:=hr i c (.bp n 0) hc (by rw[aO,Qh,Qi hi,hv];simp[aK])
  cases this with
  |bp _ off b hb=>exact .bp k 0 b (by rw[hE k n hn];exact hb)
theorem nG:∀{cs:List (Ty V.ι⊕Nat)} {vs:List (TV V.N)} {σ σ1:da} {l:List (dB V.N)},mtC V σ cs vs=some (σ1,l)->Sub σ σ1/\(Inj σ->Inj σ1)/\
 ∃vs':List (TV V.N),vs'.length=vs.length/\(∀rest,bdC V cs (l++rest)=some (vs',rest))/\∀(i:Nat) (v v':TV V.N),vs[i]?=some v->vs'[i]?=some v'->
  ∀(τ:da) (objs:List (Nat×OPt V.ι)) (E E':Env) (M:Mem) (ω ω':Nat->Nat) (a:Value),Sub σ1 τ->tz V objs (.ag cs)=true->Tr τ objs E E' ω ω'->bF E M a (aK V ω v)->bF E' M a (aK V ω' v')
 |[],[],σ,σ1,l,h=>by
  simp[mtC]at h;obtain⟨rfl,rfl⟩:=h
  exact⟨Sub.refl _,id,[],rfl,λrest=>rfl,λi v v' hv=>by simp at hv⟩
 |[],_::_,σ,σ1,l,h=>by simp[mtC]at h
 |_::_,[],σ,σ1,l,h=>by unfold mtC at h;split at h<;>first|(cases h;done)|contradiction
 | .inl t::r,x::s,σ,σ1,l,h=>by
  simp only[mtC]at h
  split at h
  ·rename_i l0 hl
   split at h
   ·rename_i σ' ls h2
    simp at h;obtain⟨rfl,rfl⟩:=h
    obtain⟨b1,b2,vs',b4,b5,b6⟩:=nG h2
    refine⟨b1,b2, .lf l0.t l0.x::vs',by simp[b4],λrest=> ?_,λi w w' hw hw' τ objs E E' M ω ω' a hs hv ht hr=> ?_⟩
    ·simp only[QR,bdC,b5]
    ·cases i with
     |zero=>
      simp at hw hw';subst hw;subst hw'
      have hls:de V false [t] [x]=some [l0]:=by simp[de,hl]
      obtain⟨ds,e1,e2,_⟩:=cW (ω:=ω) hls
      simp only[encL]at e1
      obtain⟨d,hd⟩:∃d,ds=[d]:=by
       match ds,e1 with
       |[d],_=>exact⟨d,rfl⟩
       |[],e1=>simp at e1
       |_::_::_,e1=>simp at e1
      subst hd
      simp only[Qp,QW,Re,and_true]at e1
      rw[e1]at hr
      simp only[aK]
      obtain⟨d0,g1,g2⟩:=e2.get 0 (aY V.sz V.enc l0.t l0.x) rfl
      simp at g1;subst g1
      cases hr with
      |d q=>exact .d (g2 M a q)
     |succ i=>
      refine b6 i w w' (by simpa using hw) (by simpa using hw') τ objs E E' M ω ω' a hs ?_ ht hr
      simp only[tz,Rb,Qk]at hv⊢;exact hv.2
   ·cases h
  ·cases h
 | .inr c::r,x::s,σ,σ1,l,h=>by
  unfold mtC at h
  split at h
  ·rename_i heq _;cases heq
  ·rename_i heq _;simp at heq
  ·rename_i c' r' n s' heq1 heq2
   simp only[Re,Sum.inr.injEq]at heq1 heq2
   obtain⟨rfl,rfl⟩:=heq1
   obtain⟨rfl,rfl⟩:=heq2
   split at h
   ·rename_i σ' hb
    obtain⟨a1,a2,a3⟩:=db hb
    obtain⟨b1,b2,vs',b4,b5,b6⟩:=nG h
    refine⟨a1.trans b1,λhi=>b2 (a3 hi), .vh c::vs',by simp[b4],λrest=> ?_,λi w w' hw hw' τ objs E E' M ω ω' a hs hv ht hr=> ?_⟩
    ·simp only[bdC,b5]
    ·simp only[tz,Rb,Qk]at hv
     cases i with
     |zero=>
      simp at hw hw';subst hw;subst hw'
      simp only[aK]at hr⊢
      rw[ht.len c n hv.1 (hs _ _ (b1 _ _ a2))]
      cases hr with
      |vh _ len l cc ad hE hl=>exact .vh c _ l cc ad (by rw[ht.env c n (hs _ _ (b1 _ _ a2))];exact hE) hl
     |succ i=>
      refine b6 i w w' (by simpa using hw) (by simpa using hw') τ objs E E' M ω ω' a hs ?_ ht hr
      simp only[tz];exact hv.2
   ·cases h
  ·cases h
theorem nF{σ σ1:da}{p:Pt V.ι}{v:TV V.N}{l:List (dB V.N)}(h:mt1 V σ p v=some (σ1,l)):Sub σ σ1/\(Inj σ->Inj σ1)/\v≠ .junk/\
 ∃v',(∀rest,bd1 V p (l++rest)=some (v',rest))/\∀(τ:da) (objs:List (Nat×OPt V.ι)) (E E':Env) (M:Mem) (ω ω':Nat->Nat) (a:Value),Sub σ1 τ->tz V objs p=true->Tr τ objs E E' ω ω'->
  bF E M a (aK V ω v)->bF E' M a (aK V ω' v'):=by
 unfold mt1 at h
 split at h
 ·rename_i t t' x
  obtain⟨rfl,h⟩:=aF h
  simp at h;obtain⟨rfl,rfl⟩:=h
  refine⟨Sub.refl _,id,by simp, .lf t' x,λrest=>rfl,λτ objs E E' M ω ω' a _ _ _ hr=> ?_⟩
  simp only[aK]at hr⊢
  exact hr.mono (Mem.le_refl _) λn hn=>by simp[H.has]at hn
 ·rename_i e
  simp at h;obtain⟨rfl,rfl⟩:=h
  refine⟨Sub.refl _,id,by simp, .lf (.sl e) [],λrest=>rfl,λτ objs E E' M ω ω' a _ _ _ hr=> ?_⟩
  simp only[aK,bZ,aY,QW]at hr⊢
  exact H.le.nil _ E' M a (hr.mono (Mem.le_refl _) λn hn=>by simp[H.has]at hn)
 ·simp at h;obtain⟨rfl,rfl⟩:=h
  refine⟨Sub.refl _,id,by simp, .lf .er false,λrest=>rfl,λτ objs E E' M ω ω' a _ _ _ hr=> ?_⟩
  simp only[aK,bZ,aY]at hr⊢
  exact H.le.d D.le.ern E' M a (hr.mono (Mem.le_refl _) λn hn=>by simp[H.has]at hn)
 ·rename_i i cs
  split at h
  ·rename_i t x hx
   simp at h;obtain⟨rfl,rfl⟩:=h
   refine⟨Sub.refl _,id,by simp, .lf t x,λrest=>rfl,λτ objs E E' M ω ω' a _ _ _ hr=> ?_⟩
   have hm:=(ib (V:=V) (ω:=ω) (ex:=false) (ot:=some (.st i)) (cs:=cs)).1
   rw[hx]at hm
   simp only[aK]at hr hm⊢
   exact(hm E M a hr).mono (Mem.le_refl _) λn hn=>by simp[H.has]at hn
  ·cases h
 ·rename_i c off n off'
  have h':=aF h;clear h
  obtain⟨e,h⟩:=h'
  subst e
  rw[Qr]at h
  obtain⟨σ',hb,h⟩:=h
  simp at h;obtain⟨rfl,rfl⟩:=h
  obtain⟨h1,h2,h3⟩:=db hb
  refine⟨h1,h3,by simp, .bp c off,λrest=>rfl,λτ objs E E' M ω ω' a hs _ ht hr=> ?_⟩
  simp only[aK]at hr⊢
  cases hr with
  |bp _ _ b hb=>exact .bp c off b (by rw[ht.env c n (hs _ _ h2)];exact hb)
 ·rename_i c n
  rw[Qr]at h
  obtain⟨σ',hb,h⟩:=h
  simp at h;obtain⟨rfl,rfl⟩:=h
  obtain⟨h1,h2,h3⟩:=db hb
  refine⟨h1,h3,by simp, .vh c,λrest=>rfl,λτ objs E E' M ω ω' a hs hv ht hr=> ?_⟩
  simp only[aK]at hr⊢
  rw[ht.len c n (by simpa[tz]using hv) (hs _ _ h2)]
  cases hr with
  |vh _ len l cc ad hE hl=>exact .vh c _ l cc ad (by rw[ht.env c n (hs _ _ h2)];exact hE) hl
 ·rename_i c n
  rw[Qr]at h
  obtain⟨σ',hb,h⟩:=h
  simp at h;obtain⟨rfl,rfl⟩:=h
  obtain⟨h1,h2,h3⟩:=db hb
  refine⟨h1,h3,by simp, .mp c,λrest=>rfl,λτ objs E E' M ω ω' a hs _ ht hr=> ?_⟩
  simp only[aK]at hr⊢
  cases hr with
  |mp _ b hE=>exact .mp c b (by rw[ht.env c n (hs _ _ h2)];exact hE)
 ·rename_i c n b
  rw[Qr]at h
  obtain⟨σ',hb,h⟩:=h
  simp at h;obtain⟨rfl,rfl⟩:=h
  obtain⟨h1,h2,h3⟩:=db hb
  refine⟨h1,h3,by simp, .np c b,λrest=>rfl,λτ objs E E' M ω ω' a hs _ ht hr=> ?_⟩
  simp only[aK]at hr⊢
  cases hr with
  |np0=>exact .np0 c
  |np1 _ b hE=>exact .np1 c b (by rw[ht.env c n (hs _ _ h2)];exact hE)
 ·rename_i c n
  rw[Qr]at h
  obtain⟨σ',hb,h⟩:=h
  simp at h;obtain⟨rfl,rfl⟩:=h
  obtain⟨h1,h2,h3⟩:=db hb
  refine⟨h1,h3,by simp, .np c true,λrest=>rfl,λτ objs E E' M ω ω' a hs _ ht hr=> ?_⟩
  simp only[aK]at hr⊢
  cases hr with
  |bp _ _ b hE=>exact .np1 c b (by rw[ht.env c n (hs _ _ h2)];exact hE)
 ·rename_i c
  simp at h;obtain⟨rfl,rfl⟩:=h
  refine⟨Sub.refl _,id,by simp, .np c false,λrest=>rfl,λτ objs E E' M ω ω' a _ _ _ hr=> ?_⟩
  simp only[aK,bZ]at hr⊢
  rw[hr.dv]
  exact .np0 c
 ·simp at h;obtain⟨rfl,rfl⟩:=h
  refine⟨Sub.refl _,id,by simp, .raw .nilIface,λrest=>rfl,λτ objs E E' M ω ω' a _ _ _ hr=> ?_⟩
  simp only[aK,bZ]at hr⊢
  exact hr.mono (Mem.le_refl _) λn hn=>by simp[H.has]at hn
 ·rename_i e
  simp at h;obtain⟨rfl,rfl⟩:=h
  refine⟨Sub.refl _,id,by simp, .lf (.op e) none,λrest=>rfl,λτ objs E E' M ω ω' a _ _ _ hr=> ?_⟩
  simp only[aK,bZ,aY,Sf,opD]at hr⊢
  exact hr.mono (Mem.le_refl _) λn hn=>by simp[H.has]at hn
 ·rename_i c z n s i off
  have h':=aF h;clear h
  obtain⟨e,h⟩:=h'
  subst e
  rw[Qr]at h
  obtain⟨σ',hb,h⟩:=h
  simp at h;obtain⟨rfl,rfl⟩:=h
  obtain⟨h1,h2,h3⟩:=db hb
  refine⟨h1,h3,by simp, .sv c s i off,λrest=>rfl,λτ objs E E' M ω ω' a hs _ ht hr=> ?_⟩
  simp only[aK]at hr⊢
  cases hr with
  |sv0 _ _ hE=>exact .sv0 c s (by rw[ht.env c n (hs _ _ h2)];exact hE)
  |sv _ _ _ _ g l cc hE hl=>exact .sv c s i off g l cc (by rw[ht.env c n (hs _ _ h2)];exact hE) hl
 ·rename_i f a b f' a' b'
  have h':=aF h;clear h
  obtain⟨e,h⟩:=h'
  subst e
  split at h
  ·rename_i σ' ha
   rw[Qr]at h
   obtain⟨σ'',hb,h⟩:=h
   simp at h;obtain⟨rfl,rfl⟩:=h
   obtain⟨a1,a2,a3,a4⟩:=iX ha
   obtain⟨b1,b2,b3,b4⟩:=iX hb
   refine⟨a1.trans b1,λhi=>b2 (a2 hi),by simp, .fn f (a.map λc=> .bp c 0) (b.map λc=> .bp c 0),λrest=>rfl,λτ objs E E' M ω ω' v hs _ ht hr=> ?_⟩
   simp only[aK]at hr⊢
   cases hr with
   |fn _ first captured l l' h1 h2 h3 h4=>
    obtain⟨x1,x2⟩:=y7 (V:=V) (ω':=ω') (λc n hc=>ht.env c n hc) a3 (λi c v hc hv=>by
     obtain⟨n,q1,q2⟩:=a4 i c v hc hv
     exact⟨n,q1,hs _ _ (b1 _ _ q2)⟩) h1 h3
    obtain⟨y1,y2⟩:=y7 (V:=V) (ω':=ω') (λc n hc=>ht.env c n hc) b3 (λi c v hc hv=>by
     obtain⟨n,q1,q2⟩:=b4 i c v hc hv
     exact⟨n,q1,hs _ _ q2⟩) h2 h4
    exact .fn f first captured _ _ x1 y1 x2 y2
  ·cases h
 ·rename_i cs vs
  obtain⟨b1,b2,vs',b4,b5,b6⟩:=nG h
  refine⟨b1,b2,by simp, .agg vs',λrest=>by simp only[bd1,b5],λτ objs E E' M ω ω' a hs hv ht hr=> ?_⟩
  simp only[aK]at hr⊢
  have h1:=jK _ E M a hr
  obtain⟨xs,rfl,h2,h3⟩:=h1.hagg
  refine qH _ E' M _ (.agg xs _ (by rw[a_]at h2⊢;omega) λi c x hc hx=> ?_)
  rw[aO,Qh,Qr]at hx
  obtain⟨v',hv',rfl⟩:=hx
  have hi:i<vs.length:=by rw[<-b4];exact(Qf.1 hv').1
  exact b6 i _ v' (Qi hi) hv' τ objs E E' M ω ω' c hs hv ht (h3 i c _ hc (by rw[aO,Qh,Qi hi];rfl))
 ·cases h
theorem ic:∀{ps:List (Pt V.ι)} {vs:List (TV V.N)} {σ σ1:da} {l:List (dB V.N)},mtL V σ ps vs=some (σ1,l)->Sub σ σ1/\(Inj σ->Inj σ1)/\ps.length=vs.length/\
 ∃vs':List (TV V.N),vs'.length=vs.length/\(∀rest,bdL V ps (l++rest)=some (vs',rest))/\∀(i:Nat) (v v':TV V.N),vs[i]?=some v->vs'[i]?=some v'->v≠ .junk/\
  ∀(τ:da) (objs:List (Nat×OPt V.ι)) (E E':Env) (M:Mem) (ω ω':Nat->Nat) (a:Value),Sub σ1 τ->ps.all (tz V objs)=true->Tr τ objs E E' ω ω'->bF E M a (aK V ω v)->bF E' M a (aK V ω' v')
 |[],[],σ,σ1,l,h=>by
  simp[mtL]at h;obtain⟨rfl,rfl⟩:=h
  exact⟨Sub.refl _,id,rfl,[],rfl,λrest=>rfl,λi v v' hv=>by simp at hv⟩
 |[],_::_,σ,σ1,l,h=>by simp[mtL]at h
 |_::_,[],σ,σ1,l,h=>by simp[mtL]at h
 |p::r,v::s,σ,σ1,l,h=>by
  simp only[mtL]at h
  split at h
  ·rename_i σ' l1 h1
   split at h
   ·rename_i σ'' l2 h2
    simp at h;obtain⟨rfl,rfl⟩:=h
    obtain⟨a1,a2,a3,v',a4,a5⟩:=nF h1
    obtain⟨b1,b2,b3,vs',b4,b5,b6⟩:=ic h2
    refine⟨a1.trans b1,λhi=>b2 (a2 hi),by simp[b3],v'::vs',by simp[b4],λrest=> ?_,λi w w' hw hw'=> ?_⟩
    ·simp only[bdL,Rt,a4,b5]
    ·cases i with
     |zero=>
      simp at hw hw';subst hw;subst hw'
      refine⟨a3,λτ objs E E' M ω ω' a hs hv ht hr=>a5 τ objs E E' M ω ω' a (b1.trans hs) ?_ ht hr⟩
      simp only[Rb,Qk]at hv;exact hv.1
     |succ i=>
      obtain⟨c1,c2⟩:=b6 i w w' (by simpa using hw) (by simpa using hw')
      refine⟨c1,λτ objs E E' M ω ω' a hs hv ht hr=>c2 τ objs E E' M ω ω' a hs ?_ ht hr⟩
      simp only[Rb,Qk]at hv;exact hv.2
   ·cases h
  ·cases h
theorem ct{S:TS V.N}:∀{objs:List (Nat×OPt V.ι)} {σ σ1:da} {l:List (dB V.N)},mtO V S σ objs=some (σ1,l)->Sub σ σ1/\(Inj σ->Inj σ1)/\
 ∃os:List (Nat×TO V.N),os.length=objs.length/\bdO V objs l=some os/\(∀c o',(c,o')∈os->∃n o,gt σ1 c=some n/\S.own? n=some o/\TO.len (some o')=TO.len (some o)/\
  ∃x:(Nat->Nat)->Own,(∀ω,bS V ω o=some (x ω))/\∃x':(Nat->Nat)->Own,(∀ω,bS V ω o'=some (x' ω))/\
  (∀(τ:da) (all:List (Nat×OPt V.ι)) (E E':Env) (M:Mem) (w:World) (ω ω':Nat->Nat),Sub σ1 τ->(∀p∈objs,match p.2 with| .box _ ps=>ps.all (tz V all)=true|_=>True)->Tr τ all E E' ω ω'->
    bD E M w n (x ω)->bD E' M w c (x' ω'))/\
  ∀(E E':Env) (M:Mem) (w:World) (ω ω':Nat->Nat) (b:Nat),bD E M w n (x ω)->E' c=E n->(x' ω').foot w (E' c) b->(x ω).foot w (E n) b)/\os.map (·.1)=objs.map (·.1)
 |[],σ,σ1,l,h=>by
  simp[mtO]at h;obtain⟨rfl,rfl⟩:=h
  exact⟨Sub.refl _,id,[],rfl,rfl,λc o' h=>by simp at h,rfl⟩
 |(c,p)::r,σ,σ1,l,h=>by
  simp only[mtO]at h
  split at h
  ·rename_i n hn
   split at h
   ·rename_i oo ps oo' cells hown
    have h':=aF h;clear h
    obtain⟨hoo,h⟩:=h'
    split at h
    ·rename_i σ' l1 h1
     split at h
     ·rename_i σ'' l2 h2
      simp at h;obtain⟨rfl,rfl⟩:=h
      obtain⟨a1,a2,a3,vs',a4,a5,a6⟩:=ic h1
      obtain⟨b1,b2,os,b3,b4,b5,b6⟩:=ct h2
      refine⟨a1.trans b1,λhi=>b2 (a2 hi),(c, .box oo vs')::os,by simp[b3],by simp only[bdO,a5,b4],λc' o' hm=> ?_,by simp[b6]⟩
      rcases Qu.1 hm with he|hm
      ·simp only[QI]at he
       obtain⟨rfl,rfl⟩:=he
       refine⟨n, .box oo' cells,b1 _ _ (a1 _ _ hn),hown,rfl,λω=> .box oo' (encL V ω cells),λω=>rfl,λω=> .box oo (encL V ω vs'),λω=>rfl,λτ all E E' M w ω ω' hs hv ht ho=> ?_,λE E' M w ω ω' b _ he hb=>by rw[he]at hb;exact hb⟩
       have hv0:ps.all (tz V all)=true:=hv (c', .box oo ps) Qo
       obtain⟨b,cs,ty,k1,k2,k3,k4,k5,k6⟩:=ho
       rw[a_]at k3
       refine⟨b,cs,ty,by rw[ht.env c' n (hs _ _ (b1 _ _ (a1 _ _ hn)))];exact k1,k2,by rw[a_];omega,λi x y hx hy=> ?_,k5,λt htt=>by
        rcases hoo with hoo|hoo
        ·rw[hoo]at htt;cases htt
        ·rw[hoo]at htt;exact k6 t htt⟩
       simp only[aO,Qh]at hy
       cases hvi:vs'[i]? with
       |none=>rw[hvi]at hy;cases hy
       |some v'=>
        rw[hvi]at hy;simp at hy;subst hy
        have hi:i<cells.length:=by rw[<-a4];exact(Qf.1 hvi).1
        obtain⟨_,q⟩:=a6 i _ v' (Qi hi) hvi
        exact q τ all E E' M ω ω' x (b1.trans hs) hv0 ht (k4 i x _ hx (by rw[aO,Qh,Qi hi];rfl))
      ·obtain⟨n',o,q1,q2,q3,x,q4,x',q5,q6,q7⟩:=b5 c' o' hm
       exact⟨n',o,q1,q2,q3,x,q4,x',q5,λτ all E E' M w ω ω' hs hv ht ho=>q6 τ all E E' M w ω ω' hs (λp hp=>hv p (Qm _ hp)) ht ho,q7⟩
     ·cases h
    ·cases h
   ·rename_i i oty cells hown
    split at h
    ·rename_i j x hx
     split at h
     ·rename_i σ'' l2 h2
      simp at h;obtain⟨rfl,rfl⟩:=h
      obtain⟨b1,b2,os,b3,b4,b5,b6⟩:=ct h2
      have hmk:i=j/\∃ls,de V false (V.tys i) cells=some ls/\∃y:V.N i,V.ofCells i ls=some y/\(TV.lf (.st i) y:TV V.N)= .lf (.st j) x:=by
       unfold mkV at hx
       simp only at hx
       split at hx
       ·rename_i ls hls
        split at hx
        ·rename_i y hy
         have:i=j:=by cases hx;rfl
         exact⟨this,ls,hls,y,hy,hx⟩
        ·cases hx
       ·cases hx
      obtain⟨rfl,ls,hls,y,hy,he⟩:=hmk
      have he:y=x:=by cases he;rfl
      subst he
      refine⟨b1,b2,(c, .bst i y)::os,by simp[b3],by simp[bdO,b4],λc' o' hm=> ?_,by simp[b6]⟩
      rcases Qu.1 hm with he|hm
      ·simp only[QI]at he
       obtain⟨rfl,rfl⟩:=he
       refine⟨n, .box oty cells,b1 _ _ hn,hown,rfl,λω=> .box oty (encL V ω cells),λω=>rfl,λ_=> .box none ((V.enc i y).map .d),λω=>rfl,λτ all E E' M w ω ω' hs _ ht ho=> ?_,λE E' M w ω ω' b _ he hb=>by rw[he]at hb;exact hb⟩
       obtain⟨ds,e1,e2,_⟩:=cW (ω:=ω) hls
       obtain⟨b,cs,ty,k1,k2,k3,k4,k5,_⟩:=ho
       have hc:=V.of_cells i ls y hy
       have hnew:(V.enc i y).map H.d=(ls.map λl=>aY V.sz V.enc l.t l.x).map H.d:=by
        rw[V.enc_cells,hc]
       refine⟨b,cs,ty,by rw[ht.env c' n (hs _ _ (b1 _ _ hn))];exact k1,k2,?_,λi' a z ha hz=> ?_,k5,λt htt=>by cases htt⟩
       ·rw[k3,hnew,e1,Qg,Qg];exact e2.len
       ·rw[hnew,Qh]at hz
        cases hd:(ls.map λl=>aY V.sz V.enc l.t l.x)[i']? with
        |none=>rw[hd]at hz;cases hz
        |some d=>
         rw[hd]at hz;simp at hz;subst hz
         obtain⟨d0,g1,g2⟩:=e2.get i' d hd
         have:=k4 i' a (.d d0) ha (by rw[e1,Qh,g1];rfl)
         cases this with
         |d q=>exact .d (g2 M a q)
      ·obtain⟨n',o,q1,q2,q3,x,q4,x',q5,q6,q7⟩:=b5 c' o' hm
       exact⟨n',o,q1,q2,q3,x,q4,x',q5,λτ all E E' M w ω ω' hs hv ht ho=>q6 τ all E E' M w ω ω' hs (λp hp=>hv p (Qm _ hp)) ht ho,q7⟩
     ·cases h
    ·cases h
   ·rename_i i j x hown
    have h':=aF h;clear h
    obtain⟨e1,h⟩:=h'
    subst e1
    split at h
    ·rename_i σ'' l2 h2
     simp at h;obtain⟨rfl,rfl⟩:=h
     obtain⟨b1,b2,os,b3,b4,b5,b6⟩:=ct h2
     refine⟨b1,b2,(c, .bst i x)::os,by simp[b3],by simp[bdO,b4],λc' o' hm=> ?_,by simp[b6]⟩
     rcases Qu.1 hm with he|hm
     ·simp only[QI]at he
      obtain⟨rfl,rfl⟩:=he
      refine⟨n, .bst i x,b1 _ _ hn,hown,rfl,λ_=> .box none ((V.enc i x).map .d),λω=>rfl,λ_=> .box none ((V.enc i x).map .d),λω=>rfl,λτ all E E' M w ω ω' hs _ ht ho=> ?_,λE E' M w ω ω' b _ he hb=>by rw[he]at hb;exact hb⟩
      obtain⟨b,cs,ty,k1,k2,k3,k4,k5⟩:=ho
      refine⟨b,cs,ty,by rw[ht.env c' n (hs _ _ (b1 _ _ hn))];exact k1,k2,k3,λi' a z ha hz=> ?_,k5⟩
      have hq:=k4 i' a z ha hz
      rw[Qh,Qr]at hz
      obtain⟨d,_,rfl⟩:=hz
      exact hq.mono (Mem.le_refl _) λm hm=>by simp[H.has]at hm
     ·obtain⟨n',o,q1,q2,q3,x,q4,x',q5,q6,q7⟩:=b5 c' o' hm
      exact⟨n',o,q1,q2,q3,x,q4,x',q5,λτ all E E' M w ω ω' hs hv ht ho=>q6 τ all E E' M w ω ω' hs (λp hp=>hv p (Qm _ hp)) ht ho,q7⟩
    ·cases h
   ·rename_i ps j x hown
    split at h
    ·rename_i σ' l1 h1
     split at h
     ·rename_i σ'' l2 h2
      simp at h;obtain⟨rfl,rfl⟩:=h
      obtain⟨a1,a2,a3,vs',a4,a5,a6⟩:=ic h1
      obtain⟨b1,b2,os,b3,b4,b5,b6⟩:=ct h2
      refine⟨a1.trans b1,λhi=>b2 (a2 hi),(c, .box none vs')::os,by simp[b3],by simp only[bdO,a5,b4],λc' o' hm=> ?_,by simp[b6]⟩
      rcases Qu.1 hm with he|hm
      ·simp only[QI]at he
       obtain⟨rfl,rfl⟩:=he
       refine⟨n, .bst j x,b1 _ _ (a1 _ _ hn),hown,rfl,λ_=> .box none ((V.enc j x).map .d),λω=>rfl,λω=> .box none (encL V ω vs'),λω=>rfl,λτ all E E' M w ω ω' hs hv ht ho=> ?_,λE E' M w ω ω' b _ he hb=>by rw[he]at hb;exact hb⟩
       have hv0:ps.all (tz V all)=true:=hv (c', .box none ps) Qo
       obtain⟨b,cs,ty,k1,k2,k3,k4,k5⟩:=ho
       rw[<-iY ω,a_]at k3
       refine⟨b,cs,ty,by rw[ht.env c' n (hs _ _ (b1 _ _ (a1 _ _ hn)))];exact k1,k2,by rw[a_];omega,λi x' y hx hy=> ?_,k5⟩
       simp only[aO,Qh]at hy
       cases hvi:vs'[i]? with
       |none=>rw[hvi]at hy;cases hy
       |some v'=>
        rw[hvi]at hy;simp at hy;subst hy
        have hi:i<((V.cells j x).map λl=>(.lf l.t l.x:TV V.N)).length:=by rw[<-a4];exact(Qf.1 hvi).1
        obtain⟨_,q⟩:=a6 i _ v' (Qi hi) hvi
        exact q τ all E E' M ω ω' x' (b1.trans hs) hv0 ht (k4 i x' _ hx (by rw[<-iY ω,aO,Qh,Qi hi];rfl))
      ·obtain⟨n',o,q1,q2,q3,x,q4,x',q5,q6,q7⟩:=b5 c' o' hm
       exact⟨n',o,q1,q2,q3,x,q4,x',q5,λτ all E E' M w ω ω' hs hv ht ho=>q6 τ all E E' M w ω ω' hs (λp hp=>hv p (Qm _ hp)) ht ho,q7⟩
     ·cases h
    ·cases h
   ·rename_i te e te' e' xs hown
    have h':=aF h;clear h
    obtain⟨⟨e1,e2⟩,h⟩:=h'
    subst e1;subst e2
    split at h
    ·rename_i σ'' l2 h2
     simp at h;obtain⟨rfl,rfl⟩:=h
     obtain⟨b1,b2,os,b3,b4,b5,b6⟩:=ct h2
     refine⟨b1,b2,(c, .vec te e xs)::os,by simp[b3],by simp[bdO,b4],λc' o' hm=> ?_,by simp[b6]⟩
     rcases Qu.1 hm with he|hm
     ·simp only[QI]at he
      obtain⟨rfl,rfl⟩:=he
      refine⟨n, .vec te e xs,b1 _ _ hn,hown,rfl,λ_=> .vec te (tsz V.sz e) (xs.map λx=>bN V.sz V.enc e x),λω=>rfl,λ_=> .vec te (tsz V.sz e) (xs.map λx=>bN V.sz V.enc e x),λω=>rfl,λτ all E E' M w ω ω' hs _ ht ho=> ?_,λE E' M w ω ω' b _ he hb=>by rw[he]at hb;exact hb⟩
      obtain⟨ys,k1,k2,k3,k4⟩:=ho
      have he:=ht.env c' n (hs _ _ (b1 _ _ hn))
      exact⟨ys,by rw[he];exact k1,k2,k3,by rw[he];exact k4⟩
     ·obtain⟨n',o,q1,q2,q3,x,q4,x',q5,q6,q7⟩:=b5 c' o' hm
      exact⟨n',o,q1,q2,q3,x,q4,x',q5,λτ all E E' M w ω ω' hs hv ht ho=>q6 τ all E E' M w ω ω' hs (λp hp=>hv p (Qm _ hp)) ht ho,q7⟩
    ·cases h
   ·rename_i te e te' e' xs hown
    have h':=aF h;clear h
    obtain⟨⟨e1,e2⟩,h⟩:=h'
    subst e1;subst e2
    split at h
    ·rename_i σ'' l2 h2
     simp at h;obtain⟨rfl,rfl⟩:=h
     obtain⟨b1,b2,os,b3,b4,b5,b6⟩:=ct h2
     refine⟨b1,b2,(c, .pvec te e xs)::os,by simp[b3],by simp[bdO,b4],λc' o' hm=> ?_,by simp[b6]⟩
     rcases Qu.1 hm with he|hm
     ·simp only[QI]at he
      obtain⟨rfl,rfl⟩:=he
      refine⟨n, .pvec te e xs,b1 _ _ hn,hown,rfl,λ_=> .dvec te (tsz V.sz e) (xs.map λx=>Lu V e x),λω=>rfl,λ_=> .dvec te (tsz V.sz e) (xs.map λx=>Lu V e x),λω=>rfl,λτ all E E' M w ω ω' hs _ ht ho=> ?_,λE E' M w ω ω' b _ he hb=> ?_⟩
      ·obtain⟨B,k1,k2⟩:=ho
       have he:=ht.env c' n (hs _ _ (b1 _ _ hn))
       exact⟨B,by rw[he];exact k1,k2⟩
      ·rw[he]at hb;exact hb
     ·obtain⟨n',o,q1,q2,q3,x,q4,x',q5,q6,q7⟩:=b5 c' o' hm
      exact⟨n',o,q1,q2,q3,x,q4,x',q5,λτ all E E' M w ω ω' hs hv ht ho=>q6 τ all E E' M w ω ω' hs (λp hp=>hv p (Qm _ hp)) ht ho,q7⟩
    ·cases h
   ·rename_i te e te' e' xs hown
    have h':=aF h;clear h
    obtain⟨⟨e1,e2⟩,h⟩:=h'
    subst e1;subst e2
    split at h
    ·rename_i σ'' l2 h2
     simp at h;obtain⟨rfl,rfl⟩:=h
     obtain⟨b1,b2,os,b3,b4,b5,b6⟩:=ct h2
     refine⟨b1,b2,(c, .pvec te e (xs.map some))::os,by simp[b3],by simp[bdO,b4],λc' o' hm=> ?_,by simp[b6]⟩
     rcases Qu.1 hm with he|hm
     ·simp only[QI]at he
      obtain⟨rfl,rfl⟩:=he
      refine⟨n, .dvec te e xs,b1 _ _ hn,hown,by simp[TO.len],λ_=> .dvec te (tsz V.sz e) (xs.map λx=>eK V.sz V.enc V.tid V.encd e x),λω=>rfl,λ_=> .dvec te (tsz V.sz e) ((xs.map some).map λx=>Lu V e x),λω=>rfl,λτ all E E' M w ω ω' hs _ ht ho=> ?_,λE E' M w ω ω' b _ he hb=> ?_⟩
      ·obtain⟨B,k1,k2⟩:=ho
       have he:=ht.env c' n (hs _ _ (b1 _ _ hn))
       exact⟨B,by rw[he];rw[QJ];exact k1,k2⟩
      ·rw[he]at hb;rw[QJ]at hb;exact hb
     ·obtain⟨n',o,q1,q2,q3,x,q4,x',q5,q6,q7⟩:=b5 c' o' hm
      exact⟨n',o,q1,q2,q3,x,q4,x',q5,λτ all E E' M w ω ω' hs hv ht ho=>q6 τ all E E' M w ω ω' hs (λp hp=>hv p (Qm _ hp)) ht ho,q7⟩
    ·cases h
   ·rename_i te e te' e' xs hown
    have h':=aF h;clear h
    obtain⟨⟨e1,e2⟩,h⟩:=h'
    subst e1;subst e2
    split at h
    ·rename_i σ'' l2 h2
     simp at h;obtain⟨rfl,rfl⟩:=h
     obtain⟨b1,b2,os,b3,b4,b5,b6⟩:=ct h2
     refine⟨b1,b2,(c, .dvec te e xs)::os,by simp[b3],by simp[bdO,b4],λc' o' hm=> ?_,by simp[b6]⟩
     rcases Qu.1 hm with he|hm
     ·simp only[QI]at he
      obtain⟨rfl,rfl⟩:=he
      refine⟨n, .dvec te e xs,b1 _ _ hn,hown,rfl,λ_=> .dvec te (tsz V.sz e) (xs.map λx=>eK V.sz V.enc V.tid V.encd e x),λω=>rfl,λ_=> .dvec te (tsz V.sz e) (xs.map λx=>eK V.sz V.enc V.tid V.encd e x),λω=>rfl,λτ all E E' M w ω ω' hs _ ht ho=> ?_,λE E' M w ω ω' b _ he hb=> ?_⟩
      ·obtain⟨B,k1,k2⟩:=ho
       have he:=ht.env c' n (hs _ _ (b1 _ _ hn))
       exact⟨B,by rw[he];exact k1,k2⟩
      ·rw[he]at hb;exact hb
     ·obtain⟨n',o,q1,q2,q3,x,q4,x',q5,q6,q7⟩:=b5 c' o' hm
      exact⟨n',o,q1,q2,q3,x,q4,x',q5,λτ all E E' M w ω ω' hs hv ht ho=>q6 τ all E E' M w ω ω' hs (λp hp=>hv p (Qm _ hp)) ht ho,q7⟩
    ·cases h
   ·rename_i s p hown
    split at h
    ·rename_i σ'' l2 h2
     simp at h;obtain⟨rfl,rfl⟩:=h
     obtain⟨b1,b2,os,b3,b4,b5,b6⟩:=ct h2
     refine⟨b1,b2,(c, .iter s p)::os,by simp[b3],by simp[bdO,b4],λc' o' hm=> ?_,by simp[b6]⟩
     rcases Qu.1 hm with he|hm
     ·simp only[QI]at he
      obtain⟨rfl,rfl⟩:=he
      refine⟨n, .iter s p,b1 _ _ hn,hown,rfl,λ_=> .iter s p.toNat,λω=>rfl,λ_=> .iter s p.toNat,λω=>rfl,λτ all E E' M w ω ω' hs _ ht ho=> ?_,λE E' M w ω ω' b _ he hb=>by rw[he]at hb;exact hb⟩
      obtain⟨b,k1,k2,k3⟩:=ho
      have he:=ht.env c' n (hs _ _ (b1 _ _ hn))
      exact⟨b,by rw[he];exact k1,k2,k3⟩
     ·obtain⟨n',o,q1,q2,q3,x,q4,x',q5,q6,q7⟩:=b5 c' o' hm
      exact⟨n',o,q1,q2,q3,x,q4,x',q5,λτ all E E' M w ω ω' hs hv ht ho=>q6 τ all E E' M w ω ω' hs (λp hp=>hv p (Qm _ hp)) ht ho,q7⟩
    ·cases h
   ·rename_i cm tk tv m tk' tv' es rest cur hown
    have h':=aF h;clear h
    obtain⟨⟨e1,e2⟩,h⟩:=h'
    subst e1;subst e2
    split at h
    ·rename_i σ' hb
     obtain⟨a1,a2,a3⟩:=db hb
     split at h
     ·rename_i σ'' l2 h2
      simp at h;obtain⟨rfl,rfl⟩:=h
      obtain⟨b1,b2,os,b3,b4,b5,b6⟩:=ct h2
      refine⟨a1.trans b1,λhi=>b2 (a3 hi),(c, .miter cm tk tv es rest none)::os,by simp[b3],by simp[bdO,b4],λc' o' hm=> ?_,by simp[b6]⟩
      rcases Qu.1 hm with he|hm
      ·simp only[QI]at he
       obtain⟨rfl,rfl⟩:=he
       refine⟨n, .miter m tk tv es rest cur,b1 _ _ (a1 _ _ hn),hown,rfl,λ_=> .miter m (es.map λp=>(d6 V.enc tk p.1,aY V.sz V.enc tv p.2)) (rest.map λp=>(d6 V.enc tk p.1,aY V.sz V.enc tv p.2)) (cur.map λp=>(d6 V.enc tk p.1,aY V.sz V.enc tv p.2)),λω=>rfl,
        λ_=> .miter cm (es.map λp=>(d6 V.enc tk p.1,aY V.sz V.enc tv p.2)) (rest.map λp=>(d6 V.enc tk p.1,aY V.sz V.enc tv p.2)) none,λω=>rfl,λτ all E E' M w ω ω' hs _ ht ho=> ?_,λE E' M w ω ω' b _ he hb=>by rw[he]at hb;exact hb⟩
       obtain⟨r',b,es',clock,since,seen,last,k1,k2,k3,k4,k5,k6,k7,k8,k9,k10,_,k12⟩:=ho
       have he:=ht.env c' n (hs _ _ (b1 _ _ (a1 _ _ hn)))
       have he2:=ht.env cm m (hs _ _ (b1 _ _ a2))
       exact⟨r',b,es',clock,since,seen,last,by rw[he];exact k1,by rw[he2];exact k2,k3,k4,k5,k6,k7,k8,k9,k10,(λp hp=>by cases hp),k12⟩
      ·obtain⟨n',o,q1,q2,q3,x,q4,x',q5,q6,q7⟩:=b5 c' o' hm
       exact⟨n',o,q1,q2,q3,x,q4,x',q5,λτ all E E' M w ω ω' hs hv ht ho=>q6 τ all E E' M w ω ω' hs (λp hp=>hv p (Qm _ hp)) ht ho,q7⟩
     ·cases h
    ·cases h
   ·rename_i tk tv tk' tv' es hown
    have h':=aF h;clear h
    obtain⟨⟨e1,e2⟩,h⟩:=h'
    subst e1;subst e2
    split at h
    ·rename_i σ'' l2 h2
     simp at h;obtain⟨rfl,rfl⟩:=h
     obtain⟨b1,b2,os,b3,b4,b5,b6⟩:=ct h2
     refine⟨b1,b2,(c, .map tk tv es)::os,by simp[b3],by simp[bdO,b4],λc' o' hm=> ?_,by simp[b6]⟩
     rcases Qu.1 hm with he|hm
     ·simp only[QI]at he
      obtain⟨rfl,rfl⟩:=he
      refine⟨n, .map tk tv es,b1 _ _ hn,hown,rfl,λ_=> .map (es.map λp=>(d6 V.enc tk p.1,aY V.sz V.enc tv p.2)),λω=>rfl,λ_=> .map (es.map λp=>(d6 V.enc tk p.1,aY V.sz V.enc tv p.2)),λω=>rfl,λτ all E E' M w ω ω' hs _ ht ho=> ?_,λE E' M w ω ω' b _ he hb=>by rw[he]at hb;exact hb⟩
      obtain⟨b,es',clock,k1,k2,k3,k4,k5⟩:=ho
      have he:=ht.env c' n (hs _ _ (b1 _ _ hn))
      exact⟨b,es',clock,by rw[he];exact k1,k2,k3,k4,k5⟩
     ·obtain⟨n',o,q1,q2,q3,x,q4,x',q5,q6,q7⟩:=b5 c' o' hm
      exact⟨n',o,q1,q2,q3,x,q4,x',q5,λτ all E E' M w ω ω' hs hv ht ho=>q6 τ all E E' M w ω ω' hs (λp hp=>hv p (Qm _ hp)) ht ho,q7⟩
    ·cases h
   ·rename_i te e te' e' xs hown
    have h':=aF h;clear h
    obtain⟨⟨e1,e2⟩,h⟩:=h'
    subst e1;subst e2
    split at h
    ·rename_i σ'' l2 h2
     simp at h;obtain⟨rfl,rfl⟩:=h
     obtain⟨b1,b2,os,b3,b4,b5,b6⟩:=ct h2
     refine⟨b1,b2,(c, .que te e xs)::os,by simp[b3],by simp[bdO,b4],λc' o' hm=> ?_,by simp[b6]⟩
     rcases Qu.1 hm with he|hm
     ·simp only[QI]at he
      obtain⟨rfl,rfl⟩:=he
      refine⟨n, .que te e xs,b1 _ _ hn,hown,rfl,λ_=> .que te (tsz V.sz e) (xs.map λx=>bN V.sz V.enc e x),λω=>rfl,λ_=> .que te (tsz V.sz e) (xs.map λx=>bN V.sz V.enc e x),λω=>rfl,λτ all E E' M w ω ω' hs _ ht ho=> ?_,λE E' M w ω ω' b _ he hb=>by rw[he]at hb;exact hb⟩
      obtain⟨B,k1,k2⟩:=ho
      have he:=ht.env c' n (hs _ _ (b1 _ _ hn))
      exact⟨B,by rw[he];exact k1,k2⟩
     ·obtain⟨n',o,q1,q2,q3,x,q4,x',q5,q6,q7⟩:=b5 c' o' hm
      exact⟨n',o,q1,q2,q3,x,q4,x',q5,λτ all E E' M w ω ω' hs hv ht ho=>q6 τ all E E' M w ω ω' hs (λp hp=>hv p (Qm _ hp)) ht ho,q7⟩
    ·cases h
   ·rename_i te tk tv te' tk' tv' es al hown
    have h':=aF h;clear h
    obtain⟨⟨e0,e1,e2⟩,h⟩:=h'
    subst e0;subst e1;subst e2
    split at h
    ·rename_i σ'' l2 h2
     simp at h;obtain⟨rfl,rfl⟩:=h
     obtain⟨b1,b2,os,b3,b4,b5,b6⟩:=ct h2
     refine⟨b1,b2,(c, .maps te tk tv es none)::os,by simp[b3],by simp[bdO,b4],λc' o' hm=> ?_,by simp[b6]⟩
     rcases Qu.1 hm with he|hm
     ·simp only[QI]at he
      obtain⟨rfl,rfl⟩:=he
      refine⟨n, .maps te tk tv es al,b1 _ _ hn,hown,rfl,λ_=> .maps te (es.map λo=>o.map λl=>l.map λp=>(d6 V.enc tk p.1,aY V.sz V.enc tv p.2)) al,λω=>rfl,λ_=> .maps te (es.map λo=>o.map λl=>l.map λp=>(d6 V.enc tk p.1,aY V.sz V.enc tv p.2)) none,λω=>rfl,λτ all E E' M w ω ω' hs _ ht ho=> ?_,λE E' M w ω ω' b ho he hb=> ?_⟩
      ·obtain⟨B,k1,k2⟩:=OLe.noAlias.1 E M w n ho
       have he:=ht.env c' n (hs _ _ (b1 _ _ hn))
       exact⟨B,by rw[he];exact k1,k2⟩
      ·rw[he]at hb
       exact OLe.noAlias.2 E M w n b ho hb
     ·obtain⟨n',o,q1,q2,q3,x,q4,x',q5,q6,q7⟩:=b5 c' o' hm
      exact⟨n',o,q1,q2,q3,x,q4,x',q5,λτ all E E' M w ω ω' hs hv ht ho=>q6 τ all E E' M w ω ω' hs (λp hp=>hv p (Qm _ hp)) ht ho,q7⟩
    ·cases h
   ·rename_i m e m' e' xs hown
    have h':=aF h;clear h
    obtain⟨⟨e1,e2⟩,h⟩:=h'
    subst e1;subst e2
    split at h
    ·rename_i σ'' l2 h2
     simp at h;obtain⟨rfl,rfl⟩:=h
     obtain⟨b1,b2,os,b3,b4,b5,b6⟩:=ct h2
     refine⟨b1,b2,(c, .bar m e xs)::os,by simp[b3],by simp[bdO,b4],λc' o' hm=> ?_,by simp[b6]⟩
     rcases Qu.1 hm with he|hm
     ·simp only[QI]at he
      obtain⟨rfl,rfl⟩:=he
      refine⟨n, .bar m e xs,b1 _ _ hn,hown,rfl,λ_=> .box none ((bN V.sz V.enc (.ar m e) xs).map .d),λω=>rfl,λ_=> .box none ((bN V.sz V.enc (.ar m e) xs).map .d),λω=>rfl,λτ all E E' M w ω ω' hs _ ht ho=> ?_,λE E' M w ω ω' b _ he hb=>by rw[he]at hb;exact hb⟩
      obtain⟨b,cs,ty,k1,k2,k3,k4,k5⟩:=ho
      refine⟨b,cs,ty,by rw[ht.env c' n (hs _ _ (b1 _ _ hn))];exact k1,k2,k3,λi' a z ha hz=> ?_,k5⟩
      have hq:=k4 i' a z ha hz
      rw[Qh,Qr]at hz
      obtain⟨d,_,rfl⟩:=hz
      exact hq.mono (Mem.le_refl _) λm hm=>by simp[H.has]at hm
     ·obtain⟨n',o,q1,q2,q3,x,q4,x',q5,q6,q7⟩:=b5 c' o' hm
      exact⟨n',o,q1,q2,q3,x,q4,x',q5,λτ all E E' M w ω ω' hs hv ht ho=>q6 τ all E E' M w ω ω' hs (λp hp=>hv p (Qm _ hp)) ht ho,q7⟩
    ·cases h
   ·cases h
  ·cases h
theorem Gn{α:Type}:∀{ks:List Nat} {vs:List α} {t:Nat} {x:α},gt (ks.zip vs) t=some x->∃i:Nat,ks[i]?=some t/\vs[i]?=some x
 |[],_,t,x,h=>by simp[gt]at h
 |_::_,[],t,x,h=>by simp[gt]at h
 |k::ks,v::vs,t,x,h=>by
  simp only[List.zip_cons_cons,aE]at h
  by_cases hk:k=t
  ·rw[TP hk]at h;cases h;exact⟨0,by simp[hk],rfl⟩
  ·rw[TN hk]at h
   obtain⟨i,h1,h2⟩:=Gn h
   exact⟨i+1,by simpa using h1,by simpa using h2⟩
theorem Hp{S:TS V.N}{c:Cut V.ι}{σ:da}{ls:List (dB V.N)}(h:Ht V c S=some (σ,ls))(hok:AZ V c σ=true):Ent (aV V S) (aV V (build V c ls)):=by
 unfold Ht at h
 split at h
 ·rename_i σ0 l0 h0
  split at h
  ·rename_i σ1 l1 h1
   simp at h;obtain⟨rfl,rfl⟩:=h
   obtain⟨a1,a2,a3,vs',a4,a5,a6⟩:=ic h0
   obtain⟨b1,b2,os,b3,b4,b5,b6⟩:=ct h1
   have hinj:Inj σ1:=b2 (a2 λc c' n h=>by simp[gt]at h)
   simp only[AZ,Qk,Qq]at hok
   obtain⟨⟨hg,hsl⟩,hob⟩:=hok
   have hbuild:build V c (l0++l1)={tmps:=(c.slots.map (·.1)).zip vs',own:=os}:=by
    unfold build
    rw[a5 l1]
    simp only[b4]
   rw[hbuild]
   let S':TS V.N:={tmps:=(c.slots.map (·.1)).zip vs',own:=os}
   have hown:∀n o,S'.own? n=some o->(n,o)∈os:=λn o ho=>cz ho
   have hkey:∀n,(c.objs.any λp=>QZ p.1 n)=true->∃o,S'.own? n=some o:=by
    intro n hn
    rw[Rs]at hn
    obtain⟨p,hp,hpn⟩:=hn
    have hpn:p.1=n:=by simpa using hpn
    have hm:n∈os.map (·.1):=by rw[b6,<-hpn];exact QN hp
    exact fZ hm
   intro C E M a w hs
   let E':Env:=λm=>match gt σ1 m with
    |some n=>E n
    |none=>E m
   have hE:∀k n,gt σ1 k=some n->E' k=E n:=λk n hk=>by simp only[E',hk]
   have ht:Tr σ1 c.objs E E' S.len S'.len:=by
    refine⟨hE,λk n hk hkn=> ?_⟩
    obtain⟨o,ho⟩:=hkey k hk
    obtain⟨n',o',q1,q2,q3,_⟩:=b5 k o (hown k o ho)
    rw[hkn]at q1;cases q1
    unfold TS.len;rw[ho,q2];exact q3
   have hob':∀p∈c.objs,match p.2 with| .box _ ps=>ps.all (tz V c.objs)=true|_=>True:=by
    intro p hp
    have:=hob p hp
    cases hq:p.2 with
    |box oty ps=>rw[hq]at this;simpa using this
    |st i=>trivial
    |vec te e=>trivial
    |dvec te e out=>trivial
    |map tk tv=>trivial
    |iter=>trivial
    |miter m k v=>trivial
    |que te e=>trivial
    |maps te k v=>trivial
    |bar m e=>trivial
   have hfind:∀n o,(aV V S').own? n=some o->∃n0 o0,gt σ1 n=some n0/\(aV V S).own? n0=some o0/\(∀w,bD E M w n0 o0->bD E' M w n o)/\∀b,o.foot w (E' n) b->o0.foot w (E n0) b:=by
    intro n o ho
    rw[aZ,RF]at ho
    obtain⟨o',ho',hoo⟩:=ho
    obtain⟨n0,o0,q1,q2,_,x,q4,x',q5,q6,q7⟩:=b5 n o' (hown n o' ho')
    rw[q5]at hoo
    simp only[Qd]at hoo
    subst hoo
    exact⟨n0,x S.len,q1,by rw[aZ,q2];exact q4 _,λw hw=>q6 σ1 c.objs E E' M w S.len S'.len (Sub.refl _) hob' ht hw,λb hb=>q7 E E' M w S.len S'.len b (hs.own n0 _ (by rw[aZ,q2];exact q4 _)) (hE _ _ q1) hb⟩
   refine⟨E',M,{size:=hs.size,defers:=hs.defers,fixed:=hs.fixed,tmps:=λt x hx=> ?_,mem:=hs.mem,own:=λn o hn=> ?_,apart:=λn m o o' b hne hn hm hb=> ?_,home:=λn o b hn hb=> ?_,m0:=hs.m0,mnew:=hs.mnew,frame:=hs.frame,grows:=hs.grows,os:=hs.os,tape:=hs.tape,output:=hs.output,env:=λn hn=> ?_}⟩
   ·rw[cC,Qr]at hx
    obtain⟨v',hv',rfl⟩:=hx
    obtain⟨i,g1,g2⟩:=Gn hv'
    have hi:i<(c.slots.map λp=>S.get p.1).length:=by rw[<-a4];exact(Qf.1 g2).1
    have hget:(c.slots.map λp=>S.get p.1)[i]?=some (S.get t):=by
     rw[Qh]at g1⊢
     cases hsl':c.slots[i]? with
     |none=>rw[hsl']at g1;cases g1
     |some p=>rw[hsl']at g1;simp at g1;subst g1;rfl
    obtain⟨k1,k2⟩:=a6 i _ v' hget g2
    have hgt:∃v,gt S.tmps t=some v/\S.get t=v:=by
     unfold TS.get at k1⊢
     cases hq:gt S.tmps t with
     |none=>rw[hq]at k1;exact(k1 rfl).elim
     |some v=>exact⟨v,rfl,rfl⟩
    obtain⟨v,hv1,hv2⟩:=hgt
    obtain⟨av,hav,hrep⟩:=hs.tmps t (aK V S.len v) (by rw[cC,hv1];rfl)
    refine⟨av,hav,k2 σ1 c.objs E E' M S.len S'.len av b1 ?_ ht (by rw[hv2];exact hrep)⟩
    rw[RI]
    exact Qq.2 hsl
   ·obtain⟨n0,o0,q1,q2,q3⟩:=hfind n o hn
    exact q3.1 w (hs.own n0 _ q2)
   ·obtain⟨n0,o0,q1,q2,q3⟩:=hfind n o hn
    obtain⟨m0,o1,r1,r2,r3⟩:=hfind m o' hm
    intro hb'
    exact hs.apart n0 m0 _ _ b (λe=>by subst e;exact hne (hinj n m n0 q1 r1)) q2 r2 (q3.2 b hb) (r3.2 b hb')
   ·obtain⟨n0,o0,q1,q2,q3⟩:=hfind n o hn
    exact hs.home n0 _ b q2 (q3.2 b hb)
   ·cases hq:gt σ1 n with
    |none=>simp only[E',hq];exact hs.env n hn
    |some m=>
     have:=hg _ (cz hq)
     simp only[QX,RN]at this
     rcases this with h|h
     ·omega
     ·have e:n=m:=by simpa using h
      rw[hE n m hq,<-e];exact hs.env n hn
  ·cases h
 ·cases h
end
end Go.Tx
end
section
namespace Go.Tx
open Go.Awp
variable [Inhabited GMem]
theorem Ent.le{S S':aA}(ht:∀t x,gt S'.tmps t=some x->∃y,gt S.tmps t=some y/\H.le y x)(ho:∀n o,S'.own? n=some o->∃o',S.own? n=some o'/\OLe o' o):Ent S S':=
 λ_ E M _ _ hs=>⟨E,M,Sim.le hs ht ho⟩
theorem jC{a b c:H}(h:H.le a b)(k:H.le b c):H.le a c:=λE M v x=>k E M v (h E M v x)
mutual
theorem vI{n sz:Nat}{rows:List (List D)}:∀x:H,H.has n x=false->H.le (H.frz n sz rows x) x
 | .d x,_=>by simp only[H.frz];exact H.le.refl _
 | .junk,_=>by simp only[H.frz];exact H.le.refl _
 | .bp m o,_=>by simp only[H.frz];exact H.le.refl _
 | .vh m l,h=>by
  simp only[H.has]at h
  have:m≠n:=by intro e;subst e;simp at h
  simp only[H.frz]
  rw[TN (λe=>this e.1)]
  exact H.le.refl _
 | .ep m s i o,_=>by simp only[H.frz];exact H.le.refl _
 | .sv m s i o,_=>by simp only[H.frz];exact H.le.refl _
 | .mp m,_=>by simp only[H.frz];exact H.le.refl _
 | .np m b,_=>by simp only[H.frz];exact H.le.refl _
 | .sd m,_=>by simp only[H.frz];exact H.le.refl _
 | .agg cs,h=>by
  simp only[H.frz]
  simp only[H.has]at h
  exact jC (jK _) (F0 (H.frzL_len ..) (frzL_le cs h))
 | .tup cs,h=>by
  simp only[H.frz]
  simp only[H.has]at h
  exact Cr (H.frzL_len ..) (frzL_le cs h)
 | .fn f a b,_=>by simp only[H.frz];exact H.le.refl _
theorem frzL_le{n sz:Nat}{rows:List (List D)}:∀l:List H,H.hasL n l=false->∀(i:Nat) (x:H),l[i]?=some x->∃y,(H.frzL n sz rows l)[i]?=some y/\H.le y x
 |[],_,i,x,hx=>by simp at hx
 |y::r,h,0,x,hx=>by
  rw[H.hasL,Ro]at h
  simp at hx;subst hx
  exact⟨H.frz n sz rows y,by simp[H.frzL],vI y h.1⟩
 |y::r,h,i+1,x,hx=>by
  rw[H.hasL,Ro]at h
  obtain⟨z,h1,h2⟩:=frzL_le r h.2 i x (by simpa using hx)
  exact⟨z,by simpa[H.frzL]using h1,h2⟩
end
section
variable {V:gW}
theorem zS{S:TS V.N}{n:Nat}{te:TypeId}{e:Ty V.ι}{xs:List (den V.N e)}(hn:S.own? n=some (.vec te e xs)):(S.frz V n e xs).len=S.len:=by
 funext m
 unfold TS.len
 unfold TS.own? at hn⊢
 unfold TS.frz
 simp only[aE]
 by_cases hm:n=m
 ·subst hm;rw[TP rfl,hn];rfl
 ·rw[TN hm,gb (rW V n e xs)]
  cases gt S.own m with
  |none=>rfl
  |some o=>cases o<;>rfl
theorem t_{S:TS V.N}{n:Nat}{te:TypeId}{e:Ty V.ι}{xs:List (den V.N e)}(hn:S.own? n=some (.vec te e xs))(v:TV V.N):
 H.le (H.frz n (tsz V.sz e) (xs.map λx=>bN V.sz V.enc e x) (aK V S.len v)) (aK V (S.frz V n e xs).len (Gm V n e xs v)):=by
 have other:∀v:TV V.N,H.le (H.frz n (tsz V.sz e) (xs.map λx=>bN V.sz V.enc e x) (aK V S.len v)) (aK V (S.frz V n e xs).len (if TV.has n v=true then .junk else v)):=by
  intro v
  split
  ·simp only[aK];exact H.le.junk _
  ·rename_i hh
   have hh:TV.has n v=false:=by simpa using hh
   rw[zS hn]
   exact vI _ (by rw[iB];exact hh)
 unfold Gm
 split
 ·rename_i m
  by_cases hm:m=n
  ·subst hm
   rw[TP rfl]
   simp only[aK,aY,H.frz,dT hn,Qg,and_self,TK]
   exact H.le.refl _
  ·rw[TN hm]
   simp only[aK,H.frz]
   rw[TN (λe=>hm e.1),zS hn]
   exact H.le.refl _
 ·exact other v
theorem Hw{S:TS V.N}{n:Nat}{te:TypeId}{e:Ty V.ι}{xs:List (den V.N e)}(hn:S.own? n=some (.vec te e xs))(v:TV V.N):
 H.le (H.frz n (tsz V.sz e) (xs.map λx=>bN V.sz V.enc e x) (aK V S.len v)) (aK V (S.frz V n e xs).len (LY V n e xs v)):=by
 unfold LY
 split
 ·rename_i cs
  simp only[aK]
  refine jC ?_ (qH _)
  have hp:∀(l:List H),(∀(i:Nat) (x:H),(encL V (S.frz V n e xs).len (cs.map (Gm V n e xs)))[i]?=some x->∃y,l[i]?=some y/\H.le y x)->l.length=cs.length->
   H.le (.agg l) (.agg (encL V (S.frz V n e xs).len (cs.map (Gm V n e xs)))):=λl h hl=>F0 (by rw[a_,Qg];exact hl) h
  have hfrz:∀(i:Nat) (x:H),(encL V (S.frz V n e xs).len (cs.map (Gm V n e xs)))[i]?=some x->
   ∃y,(encL V S.len cs)[i]?=some y/\H.le (H.frz n (tsz V.sz e) (xs.map λx=>bN V.sz V.enc e x) y) x:=by
   intro i x hx
   simp only[aO,Qh]at hx⊢
   cases hc:cs[i]? with
   |none=>rw[hc]at hx;cases hx
   |some c=>rw[hc]at hx;simp at hx;subst hx;exact⟨_,rfl,t_ hn c⟩
  unfold cq
  split
  ·rename_i ds hds
   obtain⟨g1,g2⟩:=eX hds
   simp only[H.frz]
   have e1:H.le (.d (.agg ds)) (.agg (encL V S.len cs)):=by
    have:=jK (encL V S.len cs)
    unfold cq at this
    rw[hds]at this;exact this
   refine jC e1 (hp _ (λi x hx=> ?_) (a_ ..))
   obtain⟨y,hy,hle⟩:=hfrz i x hx
   refine⟨y,hy,?_⟩
   rw[g2]at hy
   cases hd:ds[i]? with
   |none=>rw[hd]at hy;cases hy
   |some d=>rw[hd]at hy;simp at hy;subst hy;simpa only[H.frz]using hle
  ·simp only[H.frz]
   refine jC (jK _) (hp _ (λi x hx=> ?_) (by rw[H.frzL_len,a_]))
   obtain⟨y,hy,hle⟩:=hfrz i x hx
   exact⟨_,by rw[H.frzL_get,hy];rfl,hle⟩
 ·exact t_ hn v
theorem zR{S:TS V.N}{n:Nat}{te:TypeId}{e:Ty V.ι}{xs:List (den V.N e)}(hn:S.own? n=some (.vec te e xs)):Ent (aV V S) (aV V (S.frz V n e xs)):=by
 refine Ent.trans (Ent.freeze (cZ hn)) (Ent.le (λt x hx=> ?_) λm o ho=> ?_)
 ·rw[cC]at hx
  simp only[TS.frz,gb]at hx
  cases hq:gt S.tmps t with
  |none=>rw[hq]at hx;cases hx
  |some v=>
   rw[hq]at hx;simp at hx;subst hx
   refine⟨_,by simp only[aA.frz,gb,cC,hq,QG],Hw hn v⟩
 ·rw[aZ,RF]at ho
  obtain⟨o1,ho1,ho⟩:=ho
  have hown:(S.frz V n e xs).own? m=if n=m then some (.gone xs.length)else(S.own? m).map (rW V n e xs):=by
   unfold TS.own? TS.frz
   simp only[aE]
   split
   ·rfl
   ·rw[gb (rW V n e xs)]
  rw[hown]at ho1
  by_cases hm:n=m
  ·rw[TP hm]at ho1;simp at ho1;subst ho1;simp[bS]at ho
  ·rw[TN hm]at ho1
   cases hq:S.own? m with
   |none=>rw[hq]at ho1;cases ho1
   |some o0=>
    rw[hq]at ho1;simp at ho1;subst ho1
    have hsrc:∀x,bS V S.len o0=some x->((aV V S).frz n (tsz V.sz e) (xs.map λx=>bN V.sz V.enc e x)).own? m=some (Own.frz n (tsz V.sz e) (xs.map λx=>bN V.sz V.enc e x) x):=by
     intro x hx
     have:=aZ S m
     rw[hq]at this
     simp only[Qe,hx]at this
     unfold aA.own? at this⊢
     simp only[aA.frz,aE]
     rw[TN hm,gb (λx:Option Own=>x.map (Own.frz n (tsz V.sz e) (xs.map λx=>bN V.sz V.enc e x)))]
     cases hg:gt (aV V S).own m with
     |none=>rw[hg]at this;cases this
     |some oo=>rw[hg]at this;simp at this;subst this;rfl
    cases o0 with
    |gone l=>simp[rW,bS]at ho
    |bst i y=>
     simp only[rW,bS,Qd]at ho
     subst ho
     refine⟨_,hsrc _ rfl,?_⟩
     simp only[Own.frz]
     refine OLe.box (.inr rfl) (by rw[H.frzL_len]) λi' x hx=> ?_
     refine⟨_,by rw[H.frzL_get,hx];rfl,?_⟩
     rw[Qh,Qr]at hx
     obtain⟨d,_,rfl⟩:=hx
     exact vI _ (by simp[H.has])
    |vec te' e' ys=>
     simp only[rW,bS,Qd]at ho
     subst ho
     exact⟨_,hsrc _ rfl,OLe.refl _⟩
    |dvec te' e' ys=>
     simp only[rW,bS,Qd]at ho
     subst ho
     exact⟨_,hsrc _ rfl,OLe.refl _⟩
    |pvec te' e' ys=>
     simp only[rW,bS,Qd]at ho
     subst ho
     exact⟨_,hsrc _ rfl,OLe.refl _⟩
    |map tk tv es=>
     simp only[rW,bS,Qd]at ho
     subst ho
     exact⟨_,hsrc _ rfl,OLe.refl _⟩
    |iter s p=>
     simp only[rW,bS,Qd]at ho
     subst ho
     exact⟨_,hsrc _ rfl,OLe.refl _⟩
    |miter m k v es rest cur=>
     simp only[rW,bS,Qd]at ho
     subst ho
     exact⟨_,hsrc _ rfl,OLe.refl _⟩
    |que te' e' ys=>
     simp only[rW,bS,Qd]at ho
     subst ho
     exact⟨_,hsrc _ rfl,OLe.refl _⟩
    |maps te' tk tv es al=>
     simp only[rW,bS,Qd]at ho
     subst ho
     refine⟨_,hsrc _ rfl,?_⟩
     cases al<;>exact OLe.refl _
    |alias m'=>simp[rW,bS]at ho
    |bar k e' y=>
     simp only[rW,bS,Qd]at ho
     subst ho
     refine⟨_,hsrc _ rfl,?_⟩
     simp only[Own.frz]
     refine OLe.box (.inr rfl) (by rw[H.frzL_len]) λi' x hx=> ?_
     refine⟨_,by rw[H.frzL_get,hx];rfl,?_⟩
     rw[Qh,Qr]at hx
     obtain⟨d,_,rfl⟩:=hx
     exact vI _ (by simp[H.has])
    |box oty cells=>
     simp only[rW,bS,Qd]at ho
     subst ho
     refine⟨_,hsrc _ rfl,?_⟩
     simp only[Own.frz]
     refine OLe.box (.inr rfl) (by rw[H.frzL_len,a_,a_,Qg]) λi x hx=> ?_
     simp only[aO,Qh]at hx
     cases hc:cells[i]? with
     |none=>rw[hc]at hx;cases hx
     |some c=>
      rw[hc]at hx;simp at hx;subst hx
      exact⟨_,by rw[H.frzL_get,aO,Qh,hc];rfl,t_ hn c⟩
theorem Ent.tle{S S':TS V.N}(hl:S'.len=S.len)(ht:∀t v,gt S'.tmps t=some v->gt S.tmps t=some v)
 (ho:∀n o x,S'.own? n=some o->bS V S.len o=some x->∃o' x',S.own? n=some o'/\bS V S.len o'=some x'/\OLe x' x):Ent (aV V S) (aV V S'):=by
 refine Ent.le (λt x hx=> ?_) λn x hx=> ?_
 ·rw[cC,Qr]at hx
  obtain⟨v,hv,rfl⟩:=hx
  exact⟨_,by rw[cC,ht t v hv];rfl,by rw[hl];exact H.le.refl _⟩
 ·rw[aZ,RF]at hx
  obtain⟨o,ho1,ho2⟩:=hx
  rw[hl]at ho2
  obtain⟨o',x',h1,h2,h3⟩:=ho n o x ho1 ho2
  exact⟨x',by rw[aZ,h1];exact h2,h3⟩
theorem Et{S:TS V.N}{n:Nat}{te:TypeId}{e:Ty V.ι}{xs:List (den V.N e)}(h:S.own? n=some (.dvec te e xs)):
 (aV V S).own? n=some (.dvec te (tsz V.sz e) (xs.map λx=>eK V.sz V.enc V.tid V.encd e x)):=by rw[aZ,h];rfl
theorem wa(S:TS V.N)(n:Nat)(o:TO V.N)(m:Nat):({S with own:=(n,o)::S.own}:TS V.N).own? m=if n=m then some o else S.own? m:=by
 unfold TS.own?
 rw[aE]
theorem Hq{S:TS V.N}{n:Nat}{te:TypeId}{e:Ty V.ι}{ys:List (den V.N e)}(hn:S.own? n=some (.dvec te e ys)):
 Ent (aV V S) (aV V {S with own:=(n, .vec te e ys)::S.own}):=λC E M a w hs=>by
 obtain⟨M',h1⟩:=hs.dfrz (Et hn) (qX ys)
 refine⟨E,M',?_⟩
 have hl:({S with own:=(n, .vec te e ys)::S.own}:TS V.N).len=S.len:=by
  funext m
  unfold TS.len
  rw[wa]
  by_cases h:n=m
  ·subst h;rw[TP rfl,hn];simp[TO.len]
  ·rw[TN h]
 have:aV V {S with own:=(n, .vec te e ys)::S.own}={aV V S with own:=(n,some (.vec te (tsz V.sz e) (ys.map λx=>bN V.sz V.enc e x)))::(aV V S).own}:=by
  unfold aV
  rw[hl]
  rfl
 rw[this]
 exact h1
theorem zQ(S:TS V.N)(v:TV V.N):Ent (aV V S) (aV V (Hv V S v)):=by
 unfold Hv
 split
 ·rename_i n
  split
  ·rename_i te e xs hn;exact zR hn
  ·rename_i te e ys hn
   exact Ent.trans (Hq hn) (zR (by rw[wa,TP rfl]))
  ·exact Ent.refl _
 ·exact Ent.refl _
theorem AW{S1 S2:TS V.N}{n:Nat}{te:TypeId}{e:Ty V.ι}(ht:S2.tmps=S1.tmps)(h1:S1.own? n=some (.vec te e []))(h2:S2.own? n=some (.dvec te e []))(h3:∀k,k≠n->S2.own? k=S1.own? k):Ent (aV V S1) (aV V S2):=by
 have hl:S2.len=S1.len:=by
  funext m
  unfold TS.len
  by_cases h:m=n
  ·subst h;rw[h1,h2];rfl
  ·rw[h3 m h]
 refine Ent.tle hl (λt v hv=>by rw[<-ht];exact hv) λk o x hk hx=> ?_
 by_cases h:k=n
 ·subst h
  rw[h2]at hk;cases hk
  simp only[bS,QW,Qd]at hx;subst hx
  exact⟨_,_,h1,rfl,by simpa using (OLe.v2d (e:=te) (sz:=tsz V.sz e) (rows:=[]))⟩
 ·rw[h3 k h]at hk
  exact⟨o,x,hk,hx,OLe.refl _⟩
theorem dP:∀(l:List (TV V.N)) (S:TS V.N),Ent (aV V S) (aV V (frzL V S l))
 |[],_=>Ent.refl _
 |v::r,S=>Ent.trans (zQ S v) (dP r _)
theorem pu(te:TypeId)(e:Ty V.ι)(S:TS V.N)(t:Nat):Ent (aV V S) (aV V (ut V false te e S t)):=by
 unfold ut I9
 simp only
 split
 ·rename_i ht
  split
  ·rename_i hf
   obtain⟨hf,hg⟩:=hf
   have hg:60000+t<given:=by simpa[RN]using hg
   have h1:gt (aV V S).tmps t=some (.d (.v (.slice none 0 0))):=by rw[cC,ht];simp[aK,bZ]
   have h2:(aV V S).fresh (60000+t)=true:=eB hf
   refine Ent.trans (Ent.nilvec (e:=te) (sz:=tsz V.sz e) h1 h2 hg) λC E M a w hs=>⟨E,M,?_⟩
   exact Sim.tapp (V:=V) (S:=S) (dst:=some t) (te:={val:= .vh (60000+t),upd:=[(60000+t, .vec te e [])],new:=[60000+t]}) (ex:=false)
    (e':={val:= .vh (60000+t) 0,upd:=[(60000+t,some (.vec te (tsz V.sz e) []))],new:=[60000+t]}) (λm o hm=>by
      simp only[aE]at hm
      split at hm
      ·rename_i e;left;simp[e]
      ·simp[gt]at hm) (λd hd=>by simp at hd;subst hd;exact hf) (cw (by
      simp only[aK]
      rw[dt]
      simp[aE,TO.len]) rfl (by simp[bS]) rfl) hs
  ·exact Ent.refl _
 ·exact Ent.refl _
theorem nP(dv:Bool)(te:TypeId)(e:Ty V.ι)(S:TS V.N)(t:Nat):Ent (aV V S) (aV V (ut V dv te e S t)):=by
 cases dv with
 |false=>exact pu te e S t
 |true=>
  refine Ent.trans (pu te e S t) ?_
  unfold ut I9
  simp only
  split
  ·split
   ·refine AW (n:=60000+t) (te:=te) (e:=e) rfl ?_ ?_ λk hk=> ?_<;>unfold TS.own?<;>simp only[aE]
    ·simp
    ·simp
    ·rw[TN (Rf hk),TN (Rf hk)]
   ·exact Ent.refl _
  ·exact Ent.refl _
theorem eE(objs:List (Nat×OPt V.ι)):∀(l:List (Nat×Pt V.ι)) (S:TS V.N),Ent (aV V S) (aV V (rl V objs S l))
 |[],_=>Ent.refl _
 |(t, .vh c)::r,S=>by
  simp only[rl]
  split
  ·exact Ent.trans (nP _ _ _ S t) (eE objs r _)
  ·exact Ent.trans (nP _ _ _ S t) (eE objs r _)
  ·exact eE objs r S
 |(t, .dat ty)::r,S=>by
  simp only[rl]
  exact Ent.trans (dP _ S) (eE objs r _)
 |(t, .bp c off)::r,S=>by simp only[rl];exact eE objs r S
 |(t, .mp c)::r,S=>by simp only[rl];exact eE objs r S
 |(t, .np c)::r,S=>by simp only[rl];exact eE objs r S
 |(t, .nif)::r,S=>by simp only[rl];exact eE objs r S
 |(t, .sv c z)::r,S=>by simp only[rl];exact eE objs r S
 |(t, .ag cs)::r,S=>by
  simp only[rl]
  exact Ent.trans (dP _ S) (eE objs r _)
 |(t, .fn f a b)::r,S=>by simp only[rl];exact eE objs r S
theorem nQ(te:TypeId)(e:Ty V.ι)(S:TS V.N)(b i:Nat):Ent (aV V S) (aV V (pw V false te e S b i)):=by
 unfold pw I9
 simp only
 split
 ·rename_i oty cells hb
  split
  ·rename_i hc
   split
   ·rename_i hf
    obtain⟨hf,hg⟩:=hf
    generalize hn:70000+S.own.length=n at hf hg⊢
    have hg:n<given:=by simpa[RN]using hg
    have h1:(aV V S).own? b=some (.box oty (encL V S.len cells)):=by rw[aZ,hb];rfl
    have h2:(encL V S.len cells)[i]?=some (.d (.v (.slice none 0 0))):=by rw[aO,Qh,hc];simp[aK,bZ]
    have hfr:=hf
    unfold TS.fresh at hfr
    simp only[Qk,Qq]at hfr
    obtain⟨⟨f1,f2⟩,f3⟩:=hfr
    have hbn:b≠n:=by
     rintro rfl
     rw[hb]at f1;cases f1
    have hcn:TV.hasL n cells=false:=by
     have:=f3 (b, .box oty cells) (cz hb)
     simpa[TO.has]using this
    refine Ent.trans (Ent.nilcell (e:=te) (sz:=tsz V.sz e) h1 h2 (eB hf) hg) λC E M a w hs=>⟨E,M,?_⟩
    refine Sim.tapp (V:=V) (S:=S) (dst:=none) (te:={val:= .junk,upd:=[(b, .box oty (cells.set i (.vh n))),(n, .vec te e [])],new:=[n]}) (ex:=false)
     (e':={val:= .junk,upd:=[(b,some (.box oty ((encL V S.len cells).set i (.vh n 0)))),(n,some (.vec te (tsz V.sz e) []))],new:=[n]}) (λm o hm=> ?_) (λd hd=>by simp at hd;subst hd;exact hf) (cw ?_ rfl ?_ rfl) hs
    ·simp only[aE]at hm
     split at hm
     ·rename_i e1
      right
      simp at hm;subst hm;subst e1
      unfold TS.len
      rw[hb];rfl
     ·split at hm
      ·rename_i e1;left;simp[e1]
      ·simp[gt]at hm
    ·simp[aK]
    ·simp only[Qp,QW,bS]
     have hl:∀m,(S.app none ({val:= .junk,upd:=[(b, .box oty (cells.set i (.vh n))),(n, .vec te e [])],new:=[n]}:TE V.N)).len m=if m=n then 0 else S.len m:=by
      intro m
      rw[dt]
      simp only[aE]
      by_cases hmb:b=m
      ·subst hmb
       rw[TP rfl,TN hbn]
       simp only[TO.len]
       unfold TS.len;rw[hb];rfl
      ·rw[TN hmb]
       by_cases hmn:n=m
       ·subst hmn;simp[TO.len]
       ·rw[TN hmn,TN (λe=>hmn e.symm)];rfl
     have hcells:encL V (S.app none ({val:= .junk,upd:=[(b, .box oty (cells.set i (.vh n))),(n, .vec te e [])],new:=[n]}:TE V.N)).len (cells.set i (.vh n))=(encL V S.len cells).set i (.vh n 0):=by
      rw[aO,RQ,aO]
      congr 1
      ·rw[<-aO,<-aO]
       refine encL_congr cells λm hm=> ?_
       rw[hl,TN]
       rintro rfl
       rw[hcn]at hm;cases hm
      ·simp only[aK]
       rw[hl,TP rfl]
     rw[hcells]
   ·exact Ent.refl _
  ·exact Ent.refl _
 ·exact Ent.refl _
theorem px(dv:Bool)(te:TypeId)(e:Ty V.ι)(S:TS V.N)(b i:Nat):Ent (aV V S) (aV V (pw V dv te e S b i)):=by
 cases dv with
 |false=>exact nQ te e S b i
 |true=>
  refine Ent.trans (nQ te e S b i) ?_
  unfold pw I9
  simp only
  split
  ·rename_i oty cells hb
   split
   ·split
    ·rename_i hf
     have hbn:b≠70000+S.own.length:=λe=>by
      have h1:=hf.1
      unfold TS.fresh at h1
      simp only[Qk]at h1
      rw[<-e,hb]at h1;exact absurd h1.1.1 (by simp)
     refine AW (n:=70000+S.own.length) (te:=te) (e:=e) rfl ?_ ?_ λk hk=> ?_<;>unfold TS.own?<;>simp only[aE]
     ·rw[TN hbn];simp
     ·rw[TN hbn];simp
     ·rw[TN (Rf hk),TN (Rf hk)]
    ·exact Ent.refl _
   ·exact Ent.refl _
  ·exact Ent.refl _
theorem cQ(objs:List (Nat×OPt V.ι))(b:Nat):∀(l:List (Pt V.ι)) (i:Nat) (S:TS V.N),Ent (aV V S) (aV V (eW V objs b i l S))
 |[],_,_=>Ent.refl _
 | .vh c::r,i,S=>by
  simp only[eW]
  split
  ·exact Ent.trans (px _ _ _ S b i) (cQ objs b r _ _)
  ·exact Ent.trans (px _ _ _ S b i) (cQ objs b r _ _)
  ·exact cQ objs b r _ S
 | .dat ty::r,i,S=>by simp only[eW];exact Ent.trans (dP _ S) (cQ objs b r _ _)
 | .bp c off::r,i,S=>by simp only[eW];exact cQ objs b r _ S
 | .mp c::r,i,S=>by simp only[eW];exact cQ objs b r _ S
 | .np c::r,i,S=>by simp only[eW];exact cQ objs b r _ S
 | .nif::r,i,S=>by simp only[eW];exact cQ objs b r _ S
 | .sv c z::r,i,S=>by simp only[eW];exact cQ objs b r _ S
 | .ag cs::r,i,S=>by simp only[eW];exact cQ objs b r _ S
 | .fn f x y::r,i,S=>by simp only[eW];exact cQ objs b r _ S
theorem xO(objs:List (Nat×OPt V.ι))(c b:Nat)(S:TS V.N):Ent (aV V S) (aV V (Bg V objs c b S)):=by
 unfold Bg
 split
 ·exact cQ objs b _ 0 S
 ·split
  ·exact dP _ S
  ·exact Ent.refl _
 ·exact Ent.refl _
theorem wh(objs:List (Nat×OPt V.ι)):∀(m:Nat) (l:List (Nat×Nat)) (S:TS V.N),Ent (aV V S) (aV V (Ja V objs m l S))
 |0,_,_=>by simp only[Ja];exact Ent.refl _
 |_+1,[],_=>by simp only[Ja];exact Ent.refl _
 |m+1,(c,b)::r,S=>by simp only[Ja];exact Ent.trans (xO objs c b S) (wh objs m _ _)
theorem EA(objs:List (Nat×OPt V.ι))(l:List (Nat×Pt V.ι))(S:TS V.N):Ent (aV V S) (aV V (Mh V objs S l)):=by
 unfold Mh
 split
 ·exact eE _ l S
 ·exact Ent.trans (eE _ l S) (wh _ _ _ _)
theorem eI{c:Cut V.ι}{S:TS V.N}{v:HL V.N c.tys}(h:zM V c S=some v):Ent (aV V S) (aV V (f_ V c v)):=by
 unfold zM at h
 split at h
 ·rename_i σ ls hx
  obtain⟨hok,h⟩:=aF h
  have:=ri h
  unfold f_
  rw[this]
  exact Ent.trans (EA c.objs c.slots S) (Hp hx hok)
 ·cases h
end
end Go.Tx
end
