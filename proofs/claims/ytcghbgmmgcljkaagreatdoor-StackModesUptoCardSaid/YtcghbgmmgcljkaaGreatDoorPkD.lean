/-
  Texts of this claim, joined by a program of mine: what the theorem uses.
-/
import Derived.Test.YtcghbgmmgcljkaaGreatDoorPkC
open Bool renaming and_eq_true→aaT,or_eq_false_iff→ab3,or_eq_true→abo
open ByteArray renaming empty→ab4
open Function renaming comp→adD
open Int renaming le_refl→abk
open List renaming all_cons→ab1,all_eq_true→aa1,all_map→acG,any_cons→acM,any_eq_true→abM,append_assoc→abW,append_nil→acK,cons_append→abF,drop_drop→acm,drop_of_length_le→adT,drop_zero→aa8,eq_nil_of_length_eq_zero→abl,ext_getElem?→aca,flatten_cons→ab_,getElem?_cons_zero→abP,getElem?_eq_getElem→aaO,getElem?_eq_some_iff→aaP,getElem?_map→aaR,getElem?_of_mem→ace,getElem_mem→abB,getElem_of_mem→ac_,length→ac9,length_append→abd,length_cons→aaW,length_drop→abp,length_map→aaS,length_replicate→abA,mapM→adn,mapM_cons→adZ,map_append→abG,map_congr_left→abj,map_cons→aaY,map_drop→abT,map_map→abq,map_nil→abE,map_replicate→acz,map_set→acp,map_take→abS,mem_append→abU,mem_cons→aa4,mem_cons_of_mem→aaX,mem_cons_self→aa2,mem_map→abg,mem_map_of_mem→abu,mem_of_getElem?→aaV,mem_of_mem_take→abN,mem_replicate→adz,nil_append→aaZ,replicate→aa7,take_append_drop→adY,take_append_of_le_length→aco,take_of_length_le→abt,take_zero→ac5
open List.cons renaming injEq→abD
open Nat renaming beq→abI,blt→aci,blt_eq→acq,eq_of_beq_eq_true→abw,le_refl→abe,mul_le_mul→adW,succ_mul→abs,zero_add→aaU,zero_mul→acU
open Option renaming bind_eq_some_iff→acr,bind_some→aaJ,getD_some→abZ,isSome_map→adF,isSome_some→adb,map_eq_some_iff→aa0,map_none→acX,map_some→abf
open Option.some renaming injEq→aaN
open Prod.mk renaming injEq→abn
noncomputable section
set_option linter.unusedSectionVars false
set_option linter.unusedSimpArgs false
section
namespace Go.Mp
def get{κ β:Type}(eq:κ->κ->Bool)(x:κ):List (κ×β)->Option β
 |[]=>none
 |p::r=>if eq x p.1=true then some p.2 else get eq x r
def put{κ β:Type}(eq:κ->κ->Bool)(x:κ)(y:β):List (κ×β)->List (κ×β)
 |[]=>[(x,y)]
 |p::r=>if eq x p.1=true then(x,y)::r else p::put eq x y r
def ins{κ β:Type}(lt:κ->κ->Bool)(x:κ)(y:β):List (κ×β)->List (κ×β)
 |[]=>[(x,y)]
 |p::r=>if lt x p.1=true then(x,y)::p::r else p::ins lt x y r
def set{κ β:Type}(eq lt:κ->κ->Bool)(x:κ)(y:β)(l:List (κ×β)):List (κ×β):=if l.any (λp=>eq x p.1)=true then put eq x y l else ins lt x y l
theorem FA{κ β:Type}{eq:κ->κ->Bool}{x:κ}{y:β}:∀{l:List (κ×β)},l.any (λp=>eq x p.1)=false->put eq x y l=l++[(x,y)]
 |[],_=>rfl
 |p::r,h=>by
  rw[acM,ab3]at h
  rw[put,h.1,aeo (by decide),FA h.2];rfl
theorem yI{κ β:Type}{lt:κ->κ->Bool}{x:κ}{y:β}:∀l:List (κ×β),(ins lt x y l).Perm ((x,y)::l)
 |[]=> .refl _
 |p::r=>by
  rw[ins]
  split
  ·exact .refl _
  ·exact((yI r).cons p).trans (.swap _ _ _)
theorem set_perm{κ β:Type}(eq lt:κ->κ->Bool)(x:κ)(y:β)(l:List (κ×β)):(set eq lt x y l).Perm (put eq x y l):=by
 unfold set
 split
 ·exact .refl _
 ·rename_i h
  rw[FA (by simpa using h)]
  exact(yI l).trans (List.perm_append_singleton _ _).symm
def ieq(a b:Int):Bool:=a==b
def beq(a b:Bool):Bool:=a==b
def seq(a b:ByteArray):Bool:=a==b
def ilt(a b:Int):Bool:=decide (a<b)
def blt(a b:Bool):Bool:= !a&&b
def lex:List UInt8->List UInt8->Bool
 |[],[]=>false
 |[],_::_=>true
 |_::_,[]=>false
 |a::r,b::s=>if a.toNat<b.toNat then true else if b.toNat<a.toNat then false else lex r s
def slt(a b:ByteArray):Bool:=lex a.data.toList b.data.toList
end Go.Mp
namespace Go.Tx
open Go.Awp
variable [Inhabited GMem]
inductive Ty (ι:Type)where
 |int (k:IntKind)
 |bool
 |str
 |st (i:ι)
 |sl (e:Ty ι)
 |mp (k v:Ty ι)
 |er
 |op (e:Ty ι)
 |fnc
 |fno
 |ar (n:Nat) (e:Ty ι)
 deriving DecidableEq
@[reducible] def den {ι:Type} (N:ι->Type):Ty ι->Type
 | .int _=>Int
 | .bool=>Bool
 | .str=>ByteArray
 | .st i=>N i
 | .sl e=>List (den N e)
 | .mp k v=>List (den N k×den N v)
 | .er=>Bool
 | .op e=>Option (den N e)
 | .fnc=>Nat
 | .fno=>Option Nat
 | .ar _ e=>List (den N e)
def arL{α:Type}(m:Nat)(pad:α)(l:List α):List α:=(l++aa7 m pad).take m
theorem MC{α:Type}(m:Nat)(pad:α)(l:List α):(arL m pad l).length=m:=by
 unfold arL
 simp
theorem MD{α β:Type}(f:α->β)(m:Nat)(pad:α)(l:List α):(arL m pad l).map f=arL m (f pad) (l.map f):=by
 unfold arL
 simp
structure dW {ι:Type} (N:ι->Type)where
 t:Ty ι
 x:den N t
section
variable {ι:Type} {N:ι->Type} (sz:ι->Nat) (enc:(i:ι)->N i->List D)
def tsz:Ty ι->Nat
 | .st i=>sz i
 | .ar n e=>n *tsz e
 |_=>1
def opD:Option (List D)->D
 |none=> .v (.pointer none)
 |some c=> .rp c
theorem Ov(x:Option (List D)):(opD x).one=true:=by cases x<;>rfl
def LM:Option Nat->D
 |none=> .v .nilFunc
 |some f=> .v (.func (.func f) #[] #[])
theorem Hs(x:Option Nat):(LM x).one=true:=by cases x<;>rfl
def bY:(t:Ty ι)->den N t->List D
 | .int k,n=>[.v (.int k n)]
 | .bool,b=>[.v (.bool b)]
 | .str,s=>[.v (.string s)]
 | .st i,x=>enc i x
 | .sl e,xs=>[.sl (tsz sz e) (xs.map λx=>bY e x)]
 | .mp _ _,_=>[.v (.map none)]
 | .er,b=>[.er b]
 | .op e,x=>[opD (x.map λy=>bY e y)]
 | .fnc,f=>[.v (.func (.func f) #[] #[])]
 | .fno,f=>[LM f]
 | .ar n e,xs=>arL (n *tsz sz e) (.v (.bool false)) (xs.map λx=>bY e x).flatten
def bC:(t:Ty ι)->den N t->D
 | .int k,n=> .v (.int k n)
 | .bool,b=> .v (.bool b)
 | .str,s=> .v (.string s)
 | .st i,x=> .agg (enc i x)
 | .sl e,xs=> .sl (tsz sz e) (xs.map λx=>bY sz enc e x)
 | .mp _ _,_=> .v (.map none)
 | .er,b=> .er b
 | .op e,x=>opD (x.map λy=>bY sz enc e y)
 | .fnc,f=> .v (.func (.func f) #[] #[])
 | .fno,f=>LM f
 | .ar n e,xs=> .agg (bY sz enc (.ar n e) xs)
end
section
end
def Ty.isSl{ι:Type}:Ty ι->Bool
 | .sl _=>true
 |_=>false
def XL:D->Value
 | .v x=>x
 |_=> .nilIface
def eA{ι:Type}{N:ι->Type}(enc:(i:ι)->N i->List D):(t:Ty ι)->den N t->Value
 | .int k,n=> .int k n
 | .bool,b=> .bool b
 | .str,s=> .string s
 | .st i,x=> .agg ((enc i x).map XL).toArray
 |_,_=> .map none
def Ty.cell{ι:Type}:Ty ι->Bool
 | .st _=>false
 | .ar _ _=>false
 |_=>true
structure iF where
 ι:Type
 dec:DecidableEq ι
 N:ι->Type
 sz:ι->Nat
 tys:ι->List (Ty ι)
 cells:(i:ι)->N i->List (dW N)
 ofCells:(i:ι)->List (dW N)->Option (N i)
 enc:(i:ι)->N i->List D
 ty:TypeId->Option (Ty ι)
 enc_cells:∀i x,enc i x=(cells i x).map λl=>bC sz enc l.t l.x
 of_cells:∀i ls x,ofCells i ls=some x->cells i x=ls
 len_cells:∀i x,(cells i x).length=sz i
 one_cells:∀i x,∀l∈cells i x,l.t.cell=true
 tys_cells:∀i x,(cells i x).map (λl=>l.t)=tys i
 tid:Ty ι->Nat
instance (V:iF):DecidableEq V.ι:=V.dec
inductive TV {ι:Type} (N:ι->Type)where
 |lf (t:Ty ι) (x:den N t)
 |raw (v:Value)
 |bp (n off:Nat)
 |vh (n:Nat)
 |ep (n sz i off:Nat)
 |sv (n sz i off:Nat)
 |mp (n:Nat)
 |np (n:Nat) (b:Bool)
 |sd (n:Nat)
 |rp (t:Ty ι) (x:den N t) (off:Nat)
 |ai (n sz i off:Nat)
 |agg (cs:List (TV N))
 |tup (vs:List (TV N))
 |fn (f:Nat) (a b:List (TV N))
 |junk
inductive TO {ι:Type} (N:ι->Type)where
 |box (o:Option TypeId) (cells:List (TV N))
 |bst (i:ι) (x:N i)
 |vec (te:TypeId) (e:Ty ι) (xs:List (den N e))
 |map (k v:Ty ι) (es:List (den N k×den N v))
 |iter (s:ByteArray) (p:Int)
 |miter (m:Nat) (k v:Ty ι) (es rest:List (den N k×den N v)) (cur:Option (den N k×den N v))
 |que (te:TypeId) (e:Ty ι) (xs:List (den N e))
 |maps (te:TypeId) (k v:Ty ι) (es:List (Option (List (den N k×den N v)))) (al:Option (Nat×Nat))
 |bar (n:Nat) (e:Ty ι) (xs:List (den N e))
 |alias (m:Nat)
 |gone (len:Nat)
structure TS {ι:Type} (N:ι->Type)where
 tmps:List (Nat×TV N)
 own:List (Nat×TO N)
section
variable {ι:Type} {N:ι->Type}
def TS.own?(S:TS N)(n:Nat):Option (TO N):=gt S.own n
def TS.get(S:TS N)(t:Nat):TV N:=(gt S.tmps t).getD .junk
def TO.len:Option (TO N)->Nat
 |some (.vec _ _ xs)=>xs.length
 |some (.que _ _ xs)=>xs.length
 |some (.maps _ _ _ es _)=>es.length
 |some (.gone l)=>l
 |_=>0
def TS.len(S:TS N)(n:Nat):Nat:=TO.len (S.own? n)
mutual
def TV.has(n:Nat):TV N->Bool
 | .bp m _=>abI m n
 | .vh m=>abI m n
 | .ep m _ _ _=>abI m n
 | .sv m _ _ _=>abI m n
 | .mp m=>abI m n
 | .np m _=>abI m n
 | .sd m=>abI m n
 | .ai m _ _ _=>abI m n
 | .agg cs=>TV.hasL n cs
 | .tup vs=>TV.hasL n vs
 | .fn _ a b=>TV.hasL n a||TV.hasL n b
 |_=>false
def TV.hasL(n:Nat):List (TV N)->Bool
 |[]=>false
 |x::r=>TV.has n x||TV.hasL n r
end
def TO.has(n:Nat):TO N->Bool
 | .box _ cells=>TV.hasL n cells
 | .miter m _ _ _ _ _=>abI m n
 | .maps _ _ _ _ (some p)=>abI p.1 n
 |_=>false
def TS.fresh(S:TS N)(n:Nat):Bool:=
 (S.own? n).isNone&&S.tmps.all (λx=> !TV.has n x.2)&&S.own.all (λx=> !TO.has n x.2)
end
section
variable (V:iF)
def cy:Value->H
 | .agg cs=> .d (.agg (cs.toList.map .v))
 |v=> .d (.v v)
mutual
def aL(ω:Nat->Nat):TV V.N->H
 | .lf t x=> .d (bC V.sz V.enc t x)
 | .raw v=>cy v
 | .bp n off=> .bp n off
 | .vh n=> .vh n (ω n)
 | .ep n s i off=> .ep n s i off
 | .sv n s i off=> .sv n s i off
 | .mp n=> .mp n
 | .np n b=> .np n b
 | .sd n=> .sd n
 | .rp t x off=> .d (.rp ((bY V.sz V.enc t x).drop off))
 | .ai n s i off=> .bp n (i *s+off)
 | .agg cs=>cR (encL ω cs)
 | .tup vs=> .tup (encL ω vs)
 | .fn f a b=> .fn f (encL ω a) (encL ω b)
 | .junk=> .junk
def encL(ω:Nat->Nat):List (TV V.N)->List H
 |[]=>[]
 |x::r=>aL ω x::encL ω r
end
def ct(ω:Nat->Nat):TO V.N->Option Own
 | .box o cells=>some (.box o (encL V ω cells))
 | .bst i x=>some (.box none ((V.enc i x).map .d))
 | .vec te e xs=>some (.vec te (tsz V.sz e) (xs.map λx=>bY V.sz V.enc e x))
 | .map k v es=>some (.map (es.map λp=>(eA V.enc k p.1,bC V.sz V.enc v p.2)))
 | .iter s p=>some (.iter s p.toNat)
 | .miter m k v es rest cur=>some (.miter m (es.map λp=>(eA V.enc k p.1,bC V.sz V.enc v p.2)) (rest.map λp=>(eA V.enc k p.1,bC V.sz V.enc v p.2)) (cur.map λp=>(eA V.enc k p.1,bC V.sz V.enc v p.2)))
 | .que te e xs=>some (.que te (tsz V.sz e) (xs.map λx=>bY V.sz V.enc e x))
 | .maps te k v es al=>some (.maps te (es.map λo=>o.map λl=>l.map λp=>(eA V.enc k p.1,bC V.sz V.enc v p.2)) al)
 | .bar n e xs=>some (.box none ((bY V.sz V.enc (.ar n e) xs).map .d))
 | .alias _=>none
 | .gone _=>none
def a_(S:TS V.N):aC:=
 {tmps:=S.tmps.map λp=>(p.1,aL V S.len p.2),own:=S.own.map λp=>(p.1,ct V S.len p.2)}
variable {V}
theorem aU(ω:Nat->Nat)(l:List (TV V.N)):encL V ω l=l.map (aL V ω):=by
 induction l with
 |nil=>rfl
 |cons x r ih=>simp[encL,ih]
theorem yc{n:Nat}:∀{l:List H} {ds:List D},gE l=some ds->H.hasL n l=false
 |[],_,_=>by simp[H.hasL]
 | .d x::r,ds,h=>by
  simp only[gE]at h
  split at h
  ·rename_i l hl
   simp[H.hasL,H.has,yc hl]
  ·cases h
 | .junk::r,ds,h=>by simp[gE]at h
 | .bp .. ::r,ds,h=>by simp[gE]at h
 | .vh .. ::r,ds,h=>by simp[gE]at h
 | .ep .. ::r,ds,h=>by simp[gE]at h
 | .sv .. ::r,ds,h=>by simp[gE]at h
 | .mp .. ::r,ds,h=>by simp[gE]at h
 | .np .. ::r,ds,h=>by simp[gE]at h
 | .sd .. ::r,ds,h=>by simp[gE]at h
 | .agg .. ::r,ds,h=>by simp[gE]at h
 | .tup .. ::r,ds,h=>by simp[gE]at h
 | .fn .. ::r,ds,h=>by simp[gE]at h
theorem Eh(n:Nat)(l:List H):H.has n (cR l)=H.hasL n l:=by
 unfold cR
 split
 ·rename_i ds h;rw[yc h];simp[H.has]
 ·simp[H.has]
theorem Av(n:Nat)(v:Value):H.has n (cy v)=false:=by
 cases v<;>simp[cy,H.has]
mutual
theorem jq(ω:Nat->Nat)(n:Nat):∀v:TV V.N,H.has n (aL V ω v)=TV.has n v
 | .lf t x=>by simp[aL,H.has,TV.has]
 | .raw v=>by simp[aL,TV.has,Av]
 | .bp m off=>by simp[aL,H.has,TV.has]
 | .vh m=>by simp[aL,H.has,TV.has]
 | .ep m s i off=>by simp[aL,H.has,TV.has]
 | .sv m s i off=>by simp[aL,H.has,TV.has]
 | .mp m=>by simp[aL,H.has,TV.has]
 | .np m b=>by simp[aL,H.has,TV.has]
 | .sd m=>by simp[aL,H.has,TV.has]
 | .rp t x off=>by simp[aL,H.has,TV.has]
 | .ai m s i off=>by simp[aL,H.has,TV.has]
 | .agg cs=>by simp only[aL,Eh,TV.has];exact encL_has ω n cs
 | .tup vs=>by simp only[aL,H.has,TV.has];exact encL_has ω n vs
 | .fn f a b=>by simp only[aL,H.has,TV.has];rw[encL_has ω n a,encL_has ω n b]
 | .junk=>by simp[aL,H.has,TV.has]
theorem encL_has(ω:Nat->Nat)(n:Nat):∀l:List (TV V.N),H.hasL n (encL V ω l)=TV.hasL n l
 |[]=>by simp[encL,H.hasL,TV.hasL]
 |x::r=>by simp only[encL,H.hasL,TV.hasL];rw[jq ω n x,encL_has ω n r]
end
theorem kj(ω:Nat->Nat)(n:Nat){o:TO V.N}{o':Own}(h:ct V ω o=some o'):Own.has n o'=TO.has n o:=by
 cases o with
 |box oty cells=>simp only[ct,aaN]at h;subst h;simp only[Own.has,TO.has];exact encL_has ω n cells
 |bst i x=>
  simp only[ct,aaN]at h;subst h;simp only[Own.has,TO.has]
  generalize V.enc i x=l
  induction l with
  |nil=>simp[H.hasL]
  |cons y r ih=>simpa[H.hasL,H.has]using ih
 |vec te e xs=>simp only[ct,aaN]at h;subst h;simp[Own.has,TO.has]
 |map k v es=>simp only[ct,aaN]at h;subst h;simp[Own.has,TO.has]
 |iter s p=>simp only[ct,aaN]at h;subst h;simp[Own.has,TO.has]
 |miter m k v es rest cur=>simp only[ct,aaN]at h;subst h;simp[Own.has,TO.has]
 |que te e xs=>simp only[ct,aaN]at h;subst h;simp[Own.que,Own.has,TO.has]
 |maps te k v es al=>
  simp only[ct,aaN]at h;subst h
  cases al with
  |none=>simp[Own.maps,Own.has,TO.has]
  |some p=>simp[Own.maps,Own.has,TO.has]
 |bar m e xs=>
  simp only[ct,aaN]at h;subst h;simp only[Own.has,TO.has]
  generalize bY V.sz V.enc (.ar m e) xs=l
  induction l with
  |nil=>simp[H.hasL]
  |cons y r ih=>simpa[H.hasL,H.has]using ih
 |alias m=>simp[ct]at h
 |gone l=>simp[ct]at h
theorem bL(S:TS V.N)(n:Nat):(a_ V S).own? n=(S.own? n).bind (ct V S.len):=by
 unfold aC.own? TS.own? a_
 simp only[gI]
 cases gt S.own n with
 |none=>rfl
 |some x=>rfl
theorem Hp(S:TS V.N)(t:Nat):(a_ V S).get t=aL V S.len (S.get t):=by
 unfold aC.get TS.get a_
 simp only[gI]
 cases gt S.tmps t with
 |none=>simp[aL]
 |some x=>rfl
theorem db(S:TS V.N)(t:Nat):gt (a_ V S).tmps t=(gt S.tmps t).map (aL V S.len):=by
 unfold a_
 simp only[gI]
theorem eQ{S:TS V.N}{n:Nat}(h:S.fresh n=true):(a_ V S).fresh n=true:=by
 unfold TS.fresh at h
 unfold aC.fresh
 rw[bL]
 simp only[aaT]at h⊢
 obtain⟨⟨h1,h2⟩,h3⟩:=h
 refine⟨⟨?_,?_⟩,?_⟩
 ·cases hq:S.own? n with
  |none=>rfl
  |some o=>rw[hq]at h1;cases h1
 ·unfold a_
  simp only[acG]
  rw[aa1]at h2⊢
  intro x hx
  have:=h2 x hx
  simpa[jq]using this
 ·unfold a_
  simp only[acG]
  rw[aa1]at h3⊢
  intro x hx
  have:=h3 x hx
  simp only[adD]
  cases hq:ct V S.len x.2 with
  |none=>rfl
  |some o=>simp only[kj S.len n hq];exact this
mutual
theorem jp{ω ω':Nat->Nat}:∀v:TV V.N,(∀n,TV.has n v=true->ω' n=ω n)->aL V ω' v=aL V ω v
 | .lf t x,_=>by simp[aL]
 | .raw v,_=>by simp[aL]
 | .bp m off,_=>by simp[aL]
 | .vh m,h=>by simp[aL,h m (by simp[TV.has])]
 | .ep m s i off,_=>by simp[aL]
 | .sv m s i off,_=>by simp[aL]
 | .mp m,_=>by simp[aL]
 | .np m b,_=>by simp[aL]
 | .sd m,_=>by simp[aL]
 | .rp t x off,_=>by simp[aL]
 | .ai m s i off,_=>by simp[aL]
 | .agg cs,h=>by simp only[aL];rw[encL_congr cs λn hn=>h n (by simpa[TV.has]using hn)]
 | .tup vs,h=>by simp only[aL];rw[encL_congr vs λn hn=>h n (by simpa[TV.has]using hn)]
 | .fn f a b,h=>by simp only[aL];rw[encL_congr a λn hn=>h n (by simp[TV.has,hn]),encL_congr b λn hn=>h n (by simp[TV.has,hn])]
 | .junk,_=>by simp[aL]
theorem encL_congr{ω ω':Nat->Nat}:∀l:List (TV V.N),(∀n,TV.hasL n l=true->ω' n=ω n)->encL V ω' l=encL V ω l
 |[],_=>rfl
 |x::r,h=>by
  simp only[encL]
  rw[jp x λn hn=>h n (by simp[TV.hasL,hn]),encL_congr r λn hn=>h n (by simp[TV.hasL,hn])]
end
theorem qL{ω ω':Nat->Nat}(o:TO V.N)(h:∀n,TO.has n o=true->ω' n=ω n):ct V ω' o=ct V ω o:=by
 cases o with
 |box oty cells=>simp only[ct];rw[encL_congr cells h]
 |bst i x=>rfl
 |vec te e xs=>rfl
 |map k v es=>rfl
 |iter s p=>rfl
 |miter m k v es rest cur=>rfl
 |que te e xs=>rfl
 |maps te k v es al=>rfl
 |bar m e xs=>rfl
 |alias m=>rfl
 |gone l=>rfl
end
end Go.Tx
end
section
namespace Go.Tx
open Go.Awp
variable [Inhabited GMem]
structure TE {ι:Type} (N:ι->Type)where
 val:TV N
 acc:List Nat:=[]
 upd:List (Nat×TO N):=[]
 new:List Nat:=[]
section
variable {ι:Type} {N:ι->Type}
def tvc:Value->TV N
 | .int k n=> .lf (.int k) n
 | .bool b=> .lf .bool b
 | .string s=> .lf .str s
 |v=> .raw v
def DU:Operand->Bool
 | .const .nilIface=>true
 |_=>false
def tev(S:TS N):Operand->TV N
 | .tmp t=>S.get t
 | .const v=>tvc v
 | .global g=> .raw (.pointer (some ⟨g,0,none⟩))
 | .func f=> .fn f [] []
def fnT:TV N->TV N
 | .fn f [] []=> .lf .fnc f
 |v=>v
def TV.one:TV N->Bool
 | .lf t _=>t.cell
 | .raw v=>d9 v&&v.oneCell'
 | .bp .. =>true
 | .vh .. =>true
 | .ep .. =>true
 | .sv .. =>true
 | .mp .. =>true
 | .np .. =>true
 | .sd .. =>true
 | .rp .. =>true
 | .fn .. =>true
 |_=>false
def TJ(dst:Option Tmp)(x:TV N)(l:List (Nat×TV N)):List (Nat×TV N):=match dst with|some d=>(d,x)::l|none=>l
def TS.app(S:TS N)(dst:Option Tmp)(e:TE N):TS N:={tmps:=TJ dst e.val S.tmps,own:=e.upd++S.own}
end
section
variable (V:iF)
def Uh(t:Ty V.ι):dW V.N->dW V.N
 |⟨.fnc,f⟩=>match t with
  | .fno=>⟨.fno,some f⟩
  |_=>⟨.fnc,f⟩
 |l=>l
def md(ex:Bool)(t:Ty V.ι):TV V.N->Option (dW V.N)
 | .lf t' x=>some (Uh V t ⟨t',x⟩)
 | .raw v=>match v,t with
  | .pointer none, .op e=>some ⟨.op e,none⟩
  | .nilFunc, .fno=>some ⟨.fno,none⟩
  | .slice none 0 0, .sl e=>match ex with
   |true=>none
   |false=>some ⟨.sl e,[]⟩
  | .nilIface, .er=>match ex with
   |true=>none
   |false=>some ⟨.er,false⟩
  |_,_=>none
 |_=>none
def dC(ex:Bool):List (Ty V.ι)->List (TV V.N)->Option (List (dW V.N))
 |[],[]=>some []
 |t::ts,x::xs=>match md V ex t x,dC ex ts xs with
  |some l,some ls=>some (l::ls)
  |_,_=>none
 |_,_=>none
def GZ:Option (TO V.N)->Option (List (TV V.N))
 |some (.box _ cells)=>some cells
 |some (.bst i x)=>some ((V.cells i x).map λl=> .lf l.t l.x)
 |_=>none
def zM(ag:Bool)(off sz:Nat)(ot:Option (Ty V.ι)):Option (TO V.N)->Option (TV V.N)
 |some (.bst i x)=>if ag=true/\off=0/\sz=V.sz i/\ot=some (.st i)then some (.lf (.st i) x)else none
 |some (.bar n e xs)=>if ag=true/\off=0/\sz=tsz V.sz (.ar n e)/\ot=some (.ar n e)then some (.lf (.ar n e) xs)else none
 |_=>none
def Cu(v:TV V.N)(cs:List (TV V.N)):TO V.N:=match v with
 | .lf (.st i) x=> .bst i x
 |_=> .box none cs
def TU:Option (TO V.N)->Option TypeId
 |some (.box o _)=>o
 |_=>none
def JF(o:Option TypeId)(v:TV V.N)(cs:List (TV V.N)):TO V.N:=match o with
 |none=>Cu V v cs
 |some t=> .box (some t) cs
def mkV(ex:Bool)(ot:Option (Ty V.ι))(cs:List (TV V.N)):TV V.N:=match ot with
 |some (.st i)=>match dC V ex (V.tys i) cs with
  |some ls=>match V.ofCells i ls with
   |some x=> .lf (.st i) x
   |none=> .agg cs
  |none=> .agg cs
 |_=> .agg cs
def HA(t:TypeId):List (TV V.N)->Option TypeId
 | .raw (.pointer none):: .raw (.slice none 0 0)::_=>some t
 |_=>none
def bK:(t:Ty V.ι)->den V.N t->List (dW V.N)
 | .st i,x=>V.cells i x
 | .ar n e,xs=>arL (n *tsz V.sz e) ⟨.bool,false⟩ (xs.map λx=>bK e x).flatten
 |t,x=>[⟨t,x⟩]
def TV.cells:TV V.N->Option (List (TV V.N))
 | .lf t x=>some ((bK V t x).map λl=> .lf l.t l.x)
 | .raw v=>if d9 v then some [.raw v]else none
 | .agg cs=>some cs
 | .tup _=>none
 | .junk=>none
 |v=>some [v]
def vf{α β:Type}(f:List α->Option β)(sz:Nat):Nat->List α->Option (List β)
 |0,_=>some []
 |n+1,cs=>match f (cs.take sz),vf f sz n (cs.drop sz)with
  |some x,some r=>some (x::r)
  |_,_=>none
def dH(ex:Bool):(e:Ty V.ι)->List (TV V.N)->Option (den V.N e)
 | .st i,cs=>match dC V ex (V.tys i) cs with
  |some ls=>V.ofCells i ls
  |none=>none
 | .ar n e,cs=>if cs.length=n *tsz V.sz e then vf (dH ex e) (tsz V.sz e) n cs else none
 |t,[x]=>match md V ex t x with
  |some l=>if h:l.t=t then some (h▸l.x)else none
  |none=>none
 |_,_=>none
def AJ(ex:Bool)(ag:Bool)(sz:Nat)(ot:Option (Ty V.ι))(cells:List (TV V.N)):Option (TV V.N):=match ag with
 |true=>if sz<=cells.length then some (mkV V ex ot (cells.take sz))else none
 |false=>cells.head?
def ut(ag:Bool)(sz:Nat)(ot:Option (Ty V.ι))(t:Ty V.ι)(x:den V.N t)(off:Nat):Option (TV V.N):=match ag with
 |true=>if off=0/\ot=some t/\t.cell=false/\sz=tsz V.sz t then some (.lf t x)else match ot with
  |some (.st i)=>if off+sz<=(bK V t x).length then match V.ofCells i (((bK V t x).drop off).take sz)with
   |some y=>some (.lf (.st i) y)
   |none=>none
   else none
  |_=>none
 |false=>match((bK V t x).drop off).head? with
  |some l=>some (.lf l.t l.x)
  |none=>none
def wA(pl:List (Nat×Nat)):List (TV V.N)->List (Nat×TV V.N)->Option (List (TV V.N))
 |cells,[]=>some cells
 |cells,(i,x)::r=>match pl[i]?,TV.cells V x with
  |some (off,sz),some cs=>if cs.length=sz/\off+sz<=cells.length then wA pl (cells.take off++cs++cells.drop (off+cs.length)) r else none
  |_,_=>none
def Hn(ex:Bool)(e:Ty V.ι)(x:TV V.N):Option (den V.N e):=match x with
 | .lf t y=>if h:t=e then some (h▸y)else none
 |x=>match TV.cells V x with
  |some cs=>dH V ex e cs
  |none=>none
def Ul(nm:Nat->Nat):Option Tmp->Bool
 |some d=> !(abI (nm d) d)
 |none=>false
def Bv(ex:Bool)(e:Ty V.ι):Nat->List (Nat×TV V.N)->Option (List (den V.N e))
 |_,[]=>some []
 |i,(j,x)::r=>if i=j then match Hn V ex e x,Bv ex e (i+1) r with
   |some y,some ys=>some (y::ys)
   |_,_=>none
  else none
def Td{ι:Type}{N:ι->Type}:dW N->dW N->Bool
 |⟨.int _,a⟩,⟨.int _,b⟩=>Mp.ieq a b
 |⟨.bool,a⟩,⟨.bool,b⟩=>Mp.beq a b
 |⟨.str,a⟩,⟨.str,b⟩=>Mp.seq a b
 |_,_=>false
def Dy{ι:Type}{N:ι->Type}:List (dW N)->List (dW N)->Bool
 |[],[]=>true
 |[a],[b]=>Td a b
 |a::r,b::s=>Td a b&&Dy r s
 |_,_=>false
def keq{ι:Type}{N:ι->Type}(cells:(i:ι)->N i->List (dW N)):(t:Ty ι)->den N t->den N t->Bool
 | .int _=>Mp.ieq
 | .bool=>Mp.beq
 | .str=>Mp.seq
 | .st i=>λx y=>Dy (cells i x) (cells i y)
 |_=>λ_ _=>false
def klt{ι:Type}{N:ι->Type}:(t:Ty ι)->den N t->den N t->Bool
 | .int _=>Mp.ilt
 | .bool=>Mp.blt
 | .str=>Mp.slt
 |_=>λ_ _=>false
def fm{ι:Type}:Option TypeDesc->Ty ι->Bool
 |some (.int k), .int k'=>decide (k=k')
 |some .string, .str=>true
 |some .bool, .bool=>true
 |_,_=>false
def m5:List D->Option (List Value)
 |[]=>some []
 | .v x::r=>match m5 r with
  |some l=>some (x::l)
  |none=>none
 |_::_=>none
def ofZ(ex:Bool):(t:Ty V.ι)->D->Option (den V.N t)
 | .int k, .v (.int k' n)=>if k=k' then some n else none
 | .bool, .v (.bool b)=>some b
 | .str, .v (.string s)=>some s
 | .sl _, .v (.slice none 0 0)=>match ex with
  |true=>none
  |false=>some []
 | .st i, .agg ds=>match m5 ds with
  |some z=>if z.all d9=true then dH V ex (.st i) (z.map tvc)else none
  |none=>none
 |_,_=>none
def QW(S:TS V.N):Option Operand->Bool
 |none=>true
 |some x=>match tev S x with
  | .lf (.int _) _=>true
  |_=>false
def K5(S:TS V.N):Option Operand->Int->Option Int
 |some l,_=>match tev S l with
  | .lf (.int _) n=>some n
  |_=>none
 |none,n=>some n
def rx:Operand->Operand->Bool
 | .tmp a, .tmp b=>abI a b
 |_,_=>false
def most:Nat:=4294967296
variable (P:Program) (nm:Nat->Nat)
abbrev dh:=(A:Type)->Nat->List (TV V.N)->TS V.N->(TE V.N->Option A)->Option A
def QZ(P:Program)(t:TypeId):Bool:=match P.underlying t with
 |some .string=>true
 |_=>false
def DW(P:Program)(t e:TypeId):Bool:=match P.underlying t with
 |some (.pointer e')=>abI e' e
 |_=>false
def Mn(P:Program)(t:TypeId):Bool:=match lW P t with
 |some (.v (.int .u8 n))=>n==0
 |_=>false
def zE{A:Type}(b:Builtin)(rt:TypeId)(args:List (TV V.N))(tys:List TypeId)(dst:Option Tmp)(S:TS V.N)(k:TE V.N->Option A):Option A:=match b,args with
 | .len,[.lf (.sl _) xs]=>if dK P tys=2 then k {val:= .lf (.int .i64) xs.length}else none
 | .len,[.vh n]=>if dK P tys=2 then k {val:= .lf (.int .i64) (S.len n)}else none
 | .len,[.mp n]=>match S.own? n with
  |some (.map _ _ es)=>if dK P tys=3 then k {val:= .lf (.int .i64) es.length,acc:=[n]}else none
  |_=>none
 | .len,[.lf .str s]=>if dK P tys=1 then k {val:= .lf (.int .i64) s.size}else none
 | .min,[.lf (.int kx) a, .lf (.int _) b]=>k {val:= .lf (.int kx) (min a b)}
 | .max,[.lf (.int kx) a, .lf (.int _) b]=>k {val:= .lf (.int kx) (max a b)}
 | .append,[x, .lf (.sl e') news]=>match dst,tys with
  |some d,[t,t']=>match cK P t with
   |some (te,sz,bytes)=>match x with
    | .vh n=>match S.own? n with
     |some (.vec te2 e xs)=>if h:e'=e then
      if t=t'/\te=te2/\sz=tsz V.sz e/\bytes<=32768/\¬n=nm d then
       if xs.length+news.length<=most then k {val:= .vh (nm d),acc:=[n],upd:=[(nm d, .vec te e (xs++h▸news)),(n, .gone xs.length)],new:=[nm d]}else none
      else none
      else none
     |_=>none
    | .raw (.slice none 0 0)=>if t=t'/\sz=tsz V.sz e'/\bytes<=32768 then
       if news.length<=most then k {val:= .vh (nm d),upd:=[(nm d, .vec te e' news)],new:=[nm d]}else none
      else none
    |_=>none
   |none=>none
  |_,_=>none
 | .append,[x, .lf .str s]=>match dst,tys with
  |some d,[t,t']=>match cK P t with
   |some (te,sz,bytes)=>if QZ P t'=true/\sz=1/\bytes=1/\Mn P te=true then match x with
    | .vh n=>match S.own? n with
     |some (.vec te2 (.int .u8) xs)=>if te=te2/\¬n=nm d then
      if xs.length+s.size<=most then k {val:= .vh (nm d),acc:=[n],upd:=[(nm d, .vec te (.int .u8) (xs++Bs.ints s)),(n, .gone xs.length)],new:=[nm d]}else none
      else none
     |_=>none
    | .raw (.slice none 0 0)=>if s.size<=most then k {val:= .vh (nm d),upd:=[(nm d, .vec te (.int .u8) (Bs.ints s))],new:=[nm d]}else none
    |_=>none
    else none
   |none=>none
  |_,_=>none
 | .unsafeSliceData,[.vh n]=>match S.own? n with
  |some (.vec _ _ _)=>if lM P rt=true then k {val:= .sd n,acc:=[n]}else none
  |_=>none
 | .unsafeString,[.sd n, .lf (.int ki) l]=>match S.own? n,tys with
  |some (.vec te (.int .u8) xs),[pt,_]=>if DW P pt te=true/\P.cellsOf te=1/\ki= .i64 then
   if l=xs.length/\xs.length<=most then k {val:= .lf .str (Bs.bytes xs),acc:=[n],upd:=[(n, .gone xs.length)]}else none
   else none
  |_,_=>none
 |_,_=>none
def TK{A:Type}(t:TypeId)(x i y:Operand)(S:TS V.N)(k:TE V.N->Option A):Option A:=match P.underlying t,tev S x,tev S i,tev S y with
 |some (.map kt _), .mp n, .lf tk key, .lf tv z=>match S.own? n with
  |some (.map tk' tv' es)=>if h:tk=tk' then
   if h':tv=tv' then
    if fm (P.underlying kt) tk'=true then k {val:= .junk,acc:=[n],upd:=[(n, .map tk' tv' (Mp.set (keq V.cells tk') (klt tk') (h▸key) (h'▸z) es))]}else none
   else none
   else none
  |_=>none
 |_,_,_,_=>none
def Nv{ι:Type}:Ty ι->Bool
 | .int _=>true
 | .bool=>true
 | .str=>true
 |_=>false
def steps{α:Type}:List α->List (α×List α)
 |[]=>[]
 |a::r=>(a,r)::(steps r).map λq=>(q.1,a::q.2)
open Classical in
noncomputable def same{A:Type}(l:List A):Option A:=
 if h:∃x,l≠[]/\∀a∈l,a=x then some h.choose else none
theorem vj{A:Type}{l:List A}{x:A}:same l=some x↔l≠[]/\∀a∈l,a=x:=by
 unfold same
 constructor
 ·intro h
  split at h
  ·rename_i hx
   cases h
   exact hx.choose_spec
  ·cases h
 ·intro h
  have hx:∃x,l≠[]/\∀a∈l,a=x:=⟨x,h⟩
  rw[dif_pos hx]
  obtain⟨a,ha⟩:=List.exists_mem_of_ne_nil l h.1
  rw[<-h.2 a ha,<-hx.choose_spec.2 a ha]
noncomputable def MB{α A:Type}(l:List α)(k:α->Option A):Option A:=adn k l>>=same
theorem nB{α A:Type}{k:α->Option A}:∀{l:List α} {xs:List A},adn k l=some xs↔xs.length=l.length/\∀(i:Nat) (a:α),l[i]?=some a->k a=xs[i]?
 |[],xs=>by
  simp only[List.mapM_nil]
  constructor
  ·intro h;cases h;simp
  ·intro h;rw[abl h.1];rfl
 |a::r,xs=>by
  rw[adZ]
  constructor
  ·intro h
   cases hk:k a with
   |none=>rw[hk]at h;cases h
   |some y=>
    rw[hk]at h
    cases hr:adn k r with
    |none=>rw[hr]at h;cases h
    |some ys=>
     rw[hr]at h
     cases h
     obtain⟨h1,h2⟩:=nB.1 hr
     refine⟨by simp[h1],λi b hb=> ?_⟩
     cases i with
     |zero=>simp at hb;subst hb;simpa using hk
     |succ i=>simpa using h2 i b (by simpa using hb)
  ·intro ⟨h1,h2⟩
   cases xs with
   |nil=>simp at h1
   |cons y ys=>
    have hk:=h2 0 a rfl
    have hr:adn k r=some ys:=nB.2 ⟨by simpa using h1,λi b hb=>by simpa using h2 (i+1) b (by simpa using hb)⟩
    simp only[abP]at hk
    rw[hk,hr];rfl
theorem anyOf_some{α A:Type}{l:List α}{k:α->Option A}{x:A}:MB l k=some x↔l≠[]/\∀a∈l,k a=some x:=by
 unfold MB
 constructor
 ·intro h
  cases hm:adn k l with
  |none=>rw[hm]at h;cases h
  |some xs=>
   rw[hm]at h
   obtain⟨h1,h2⟩:=nB.1 hm
   obtain⟨h3,h4⟩:=vj.1 h
   refine⟨λe=>h3 (abl (by rw[h1,e];rfl)),λa ha=> ?_⟩
   obtain⟨i,hi⟩:=ace ha
   rw[h2 i a hi]
   have:i<xs.length:=by rw[h1];exact(aaP.1 hi).1
   rw[aaO this,h4 _ (abB this)]
 ·intro ⟨h1,h2⟩
  have hm:adn k l=some (l.map λ_=>x):=nB.2 ⟨by simp,λi a hi=>by rw[h2 a (aaV hi),aaR,hi];rfl⟩
  rw[hm]
  exact vj.2 ⟨by simpa using h1,by simp⟩
theorem Gk{α:Type}{l:List α}:∀{i:Nat} {a:α},l[i]?=some a->(a,l.eraseIdx i)∈steps l:=by
 induction l with
 |nil=>intro i a h;simp at h
 |cons x r ih=>
  intro i a h
  cases i with
  |zero=>simp at h;subst h;exact aa2
  |succ i=>exact aaX _ (abg.2 ⟨_,ih (by simpa using h),rfl⟩)
def xw:BinOp->Option Bool
 | .shl=>some true
 | .shr=>some false
 |_=>none
def tx{A:Type}(call:dh V)(ex:Bool)(o:Oper)(S:TS V.N)(k:TE V.N->Option A):Option A:=match o.op with
 | .move x=>k {val:=tev S x}
 | .assign x=>k {val:=tev S x}
 | .pick c x y=>match tev S c with
  | .lf .bool b=>if b=true then k {val:=tev S x}else k {val:=tev S y}
  |_=>none
 | .alloc t=>match iC P t,o.dst with
  |some z,some d=>if z.all d9=true then k {val:= .bp (nm d) 0,upd:=[(nm d, .box (um t z) (z.map tvc))],new:=[nm d]}else none
  |_,_=>none
 | .box t x=>match TV.cells V (tev S x),o.dst with
  |some cs,some d=>k {val:= .bp (nm d) 0,upd:=[(nm d,JF V (HA V t cs) (tev S x) cs)],new:=[nm d]}
  |_,_=>none
 | .load t x=>match cW P t with
  |some (ag,sz)=>match tev S x with
   | .bp n off=>match zM V ag off sz (V.ty t) (S.own? n)with
    |some v=>k {val:=v,acc:=[n]}
    |none=>match GZ V (S.own? n)with
     |some cells=>match AJ V ex ag sz (V.ty t) (cells.drop off)with
      |some v=>k {val:=v,acc:=[n]}
      |none=>none
     |none=>none
   | .ep n s i off=>match S.own? n with
    |some (.vec _ e xs)=>if s=tsz V.sz e then xs[i]?>>=λx=>match ut V ag sz (V.ty t) e x off with
     |some v=>k {val:=v,acc:=[n]}
     |none=>none
     else none
    |_=>none
   | .rp t' x off=>match ut V ag sz (V.ty t) t' x off with
    |some v=>k {val:=v}
    |none=>none
   |_=>none
  |none=>none
 | .store t x y=>match cW P t with
  |some (_,sz)=>match tev S x,TV.cells V (tev S y)with
   | .bp n off,some cs=>match GZ V (S.own? n)with
    |some cells=>if cs.length=sz/\cs.all TV.one=true/\off+sz<=cells.length then
     if off=0/\sz=cells.length then k {val:= .junk,acc:=[n],upd:=[(n,JF V (TU V (S.own? n)) (tev S y) cs)]}
     else k {val:= .junk,acc:=[n],upd:=[(n, .box (TU V (S.own? n)) (cells.take off++cs++cells.drop (off+cs.length)))]}
     else none
    |none=>none
   | .ep n s i off,some cs=>match S.own? n with
    |some (.vec te e xs)=>if s=tsz V.sz e/\cs.length=sz/\cs.all TV.one=true/\off+sz<=s then
     xs[i]?>>=λx=>match dH V true e ((((bK V e x).take off).map λl=> .lf l.t l.x)++cs++(((bK V e x).drop (off+cs.length)).map λl=> .lf l.t l.x))with
      |some y=>k {val:= .junk,acc:=[n],upd:=[(n, .vec te e (xs.set i y))]}
      |none=>none
     else none
    |_=>none
   |_,_=>none
  |none=>none
 | .nilCheck x=>match tev S x with
  | .bp n off=>k {val:= .bp n off}
  | .ep n s i off=>k {val:= .ep n s i off}
  | .rp t x off=>k {val:= .rp t x off}
  | .np n b=>if b=true then k {val:= .bp n 0}else none
  |_=>none
 | .binOp op xt x y _=>match tev S x,tev S y with
  | .lf (.int kx) a, .lf (.int ky) b=>match xw op with
   |some true=>if 0<=b then k {val:= .lf (.int kx) (Bs.ishl kx a b)}else none
   |some false=>if 0<=b then k {val:= .lf (.int kx) (Bs.ishr kx a b)}else none
   |none=>if kx=ky then match op with
    | .add=>k {val:= .lf (.int kx) (kx.wrap (a+b))}
    | .sub=>k {val:= .lf (.int kx) (kx.wrap (a-b))}
    | .mul=>k {val:= .lf (.int kx) (kx.wrap (a *b))}
    | .eql=>k {val:= .lf .bool (a==b)}
    | .neq=>k {val:= .lf .bool (a !=b)}
    | .lss=>k {val:= .lf .bool (decide (a<b))}
    | .leq=>k {val:= .lf .bool (decide (a<=b))}
    | .gtr=>k {val:= .lf .bool (decide (a>b))}
    | .geq=>k {val:= .lf .bool (decide (a>=b))}
    | .quo=>if b=0 then none else k {val:= .lf (.int kx) (kx.wrap (a.tdiv b))}
    | .rem=>if b=0 then none else k {val:= .lf (.int kx) (a.tmod b)}
    | .and=>k {val:= .lf (.int kx) (Bs.iand kx a b)}
    | .or=>k {val:= .lf (.int kx) (Bs.ior kx a b)}
    | .xor=>k {val:= .lf (.int kx) (Bs.ixor kx a b)}
    | .andNot=>k {val:= .lf (.int kx) (Bs.iandn kx a b)}
    |_=>none
   else none
  | .lf .bool a, .lf .bool b=>match P.underlying xt,op with
   |some .bool, .eql=>k {val:= .lf .bool (a==b)}
   |some .bool, .neq=>k {val:= .lf .bool (!(a==b))}
   |_,_=>none
  | .lf .str a, .lf .str b=>match op with
   | .eql=>k {val:= .lf .bool (a.toList==b.toList)}
   | .neq=>k {val:= .lf .bool (!(a.toList==b.toList))}
   | .add=>if a.size+b.size<=most then k {val:= .lf .str (a++b)}else none
   |_=>none
  | .raw (.slice a _ _), .raw (.slice none 0 0)=>match isSl P xt,op with
   |true, .eql=>k {val:= .lf .bool a.isNone}
   |true, .neq=>k {val:= .lf .bool (!a.isNone)}
   |_,_=>none
  | .lf (.sl _) (_::_), .raw (.slice none 0 0)=>match isSl P xt,op with
   |true, .eql=>k {val:= .lf .bool false}
   |true, .neq=>k {val:= .lf .bool true}
   |_,_=>none
  | .np _ b, .raw (.pointer none)=>match lM P xt,op with
   |true, .eql=>k {val:= .lf .bool (!b)}
   |true, .neq=>k {val:= .lf .bool b}
   |_,_=>none
  | .lf .er b, .raw .nilIface=>if Nr P xt=true/\DU y=true then match op with
    | .eql=>k {val:= .lf .bool (!b)}
    | .neq=>k {val:= .lf .bool b}
    |_=>none
   else none
  |_,_=>none
 | .makeInterface t _=>match Om P t with
  |true=>k {val:= .lf .er true}
  |false=>none
 | .unOp op _ x=>match op,tev S x with
  | .not, .lf .bool b=>k {val:= .lf .bool (!b)}
  | .neg, .lf (.int ki) n=>k {val:= .lf (.int ki) (ki.wrap (0-n))}
  |_,_=>none
 | .convert s t x=>match P.underlying s,P.underlying t,tev S x with
  |some _,some (.int ki), .lf (.int _) n=>k {val:= .lf (.int ki) (ki.wrap n)}
  |some _,some .string, .lf (.int _) n=>k {val:= .lf .str (Bs.enc1 n)}
  |some .string,some (.slice e), .lf .str x=>match P.underlying e,o.dst with
   |some (.int .i32),some d=>if x.size<=most then k {val:= .vh (nm d),upd:=[(nm d, .vec e (.int .i32) (Bs.runes x))],new:=[nm d]}else none
   |some (.int .u8),_=>k {val:= .lf (.sl (.int .u8)) (Bs.ints x)}
   |_,_=>none
  |some (.slice e),some .string, .lf (.sl (.int ik)) xs=>match P.underlying e,ik with
   |some (.int .i32), .i32=>k {val:= .lf .str (Bs.text xs)}
   |some (.int .u8), .u8=>k {val:= .lf .str (Bs.bytes xs)}
   |_,_=>none
  |some (.slice e),some .string, .raw (.slice none 0 0)=>match P.underlying e with
   |some (.int .i32)=>k {val:= .lf .str ab4}
   |some (.int .u8)=>k {val:= .lf .str ab4}
   |_=>none
  |_,_,_=>none
 | .build t parts=>match iC P t,places P t with
  |some z,some pl=>if z.all d9=true then match wA V pl (z.map tvc) (parts.toList.map λ(i,x)=>(i,tev S x))with
   |some cs=>match Ul nm o.dst with
    |true=>k {val:= .agg cs}
    |false=>k {val:=mkV V ex (V.ty t) cs}
   |none=>none
   else none
  |_,_=>none
 | .buildSlice t len parts=>match cK P t,V.ty t with
  |some (te,sz,_),some (.sl e)=>if sz=tsz V.sz e then match Bv V ex e 0 (parts.toList.map λ(i,x)=>(i,fnT (tev S x)))with
   |some ys=>if parts.toList.length=len/\len *sz<=16777216 then match o.dst with
    |some d=>if nm d=d then k {val:= .lf (.sl e) ys}else k {val:= .vh (nm d),upd:=[(nm d, .vec te e ys)],new:=[nm d]}
    |none=>k {val:= .lf (.sl e) ys}
    else none
   |none=>none
   else none
  |_,_=>none
 | .makeSlice t l c=>match cK P t,V.ty t,o.dst with
  |some (te,sz,bytes),some (.sl e),some d=>match iC P te,tev S l,tev S c with
   |some z, .lf (.int _) n, .lf (.int _) m=>match dH V ex e (z.map tvc)with
    |some y=>if sz=tsz V.sz e/\bytes<=32768/\z.all d9=true then
     match rx l c with
     |true=>if 0<=m then
      if m<=4294967296 then k {val:= .vh (nm d),upd:=[(nm d, .vec te e (aa7 m.toNat y))],new:=[nm d]}else none
      else none
     |false=>if n=0 then
      if 0<=m then
       if m<=4294967296 then k {val:= .vh (nm d),upd:=[(nm d, .vec te e [])],new:=[nm d]}else none
      else none
      else none
     else none
    |none=>none
   |_,_,_=>none
  |_,_,_=>none
 | .makeMap t hint=>match P.underlying t,o.dst with
  |some (.map kt et),some d=>match V.ty kt,V.ty et with
   |some tk,some tv=>if QW V S hint=true then k {val:= .mp (nm d),upd:=[(nm d, .map tk tv [])],new:=[nm d]}else none
   |_,_=>none
  |_,_=>none
 | .lookup t x i c=>match P.underlying t,tev S x,tev S i with
  |some (.map kt et), .mp n, .lf tk key=>match S.own? n,lW P et with
   |some (.map tk' tv es),some d=>match ofZ V ex tv d with
    |some z=>if h:tk=tk' then
     if fm (P.underlying kt) tk'=true then match c with
      |true=>k {val:= .tup [.lf tv ((Mp.get (keq V.cells tk') (h▸key) es).getD z), .lf .bool (Mp.get (keq V.cells tk') (h▸key) es).isSome],acc:=[n]}
      |false=>k {val:= .lf tv ((Mp.get (keq V.cells tk') (h▸key) es).getD z),acc:=[n]}
     else none
     else none
    |none=>none
   |_,_=>none
  |_,_,_=>none
 | .range t x=>match P.underlying t,tev S x,o.dst with
  |some .string, .lf .str s,some d=>k {val:= .bp (nm d) 0,upd:=[(nm d, .iter s 0)],new:=[nm d]}
  |some (.map _ _), .mp m,some d=>match S.own? m with
   |some (.map tk tv es)=>k {val:= .bp (nm d) 0,acc:=[m],upd:=[(nm d, .miter m tk tv es es none),(m, .gone 0)],new:=[nm d]}
   |_=>none
  |_,_,_=>none
 | .next x true=>match tev S x with
  | .bp n 0=>match S.own? n with
   |some (.iter s p)=>if 0<=p then
    if p<s.size then k {val:= .tup [.lf .bool true, .lf (.int .i64) p, .lf (.int .i32) (Bs.dec s p)],acc:=[n],upd:=[(n, .iter s (p+Bs.wid s p))]}
    else k {val:= .tup [.lf .bool false],acc:=[n]}
    else none
   |_=>none
  |_=>none
 | .entry x=>match tev S x with
  | .bp n 0=>match S.own? n with
   |some (.miter _ tk tv _ _ (some p))=>if Nv tk=true then k {val:= .tup [.lf tk p.1, .lf tv p.2],acc:=[n]}else none
   |_=>none
  |_=>none
 | .mapUpdate t x i y=>TK V P t x i y S k
 | .insert t x i y=>TK V P t x i y S k
 | .fieldAddr s x f=>match sq P s f with
  |some fo=>match tev S x with
   | .bp n off=>k {val:= .bp n (off+fo)}
   | .ep n sz i off=>k {val:= .ep n sz i (off+fo)}
   | .rp t x off=>if off+fo<=(bK V t x).length then k {val:= .rp t x (off+fo)}else none
   |_=>none
  |none=>none
 | .field s x f=>match sr P s f,tev S x with
  |some (off,ag,sz), .lf t y=>if t.cell=false then match ut V ag sz (match P.underlying s with|some (.struct fs)=>(fs[f]?).bind λfd=>V.ty fd.type|_=>none) t y off with
   |some v=>k {val:=v}
   |none=>none
   else none
  |some (off,ag,sz), .agg cs=>match AJ V ex ag sz (match P.underlying s with|some (.struct fs)=>(fs[f]?).bind λfd=>V.ty fd.type|_=>none) (cs.drop off)with
   |some v=>k {val:=v}
   |none=>none
  |_,_=>none
 | .indexAddr t x i=>match cK P t with
  |some (_,sz,_)=>match tev S x,tev S i with
   | .lf (.sl e) xs, .lf (.int _) n=>if sz=tsz V.sz e then
     if 0<=n then xs[n.toNat]?>>=λx=>k {val:= .rp e x 0}else none
    else none
   | .vh m, .lf (.int _) n=>match S.own? m with
    |some (.vec _ _ xs)=>if 0<=n/\n<xs.length then k {val:= .ep m sz n.toNat 0,acc:=[m]}else none
    |_=>none
   |_,_=>none
  |none=>none
 | .index t x i=>match P.underlying t,tev S x,tev S i with
  |some .string, .lf .str s, .lf (.int _) n=>if 0<=n then s[n.toNat]?>>=λb=>k {val:= .lf (.int .u8) b.toNat}else none
  |_,_,_=>none
 | .slice t x lo hi none=>match P.underlying t,tev S x with
  |some .string, .lf .str s=>match K5 V S lo 0,K5 V S hi s.size with
   |some l,some h=>if 0<=l/\l<=h/\h<=s.size then k {val:= .lf .str (s.extract l.toNat h.toNat)}else none
   |_,_=>none
  |some (.slice _), .lf (.sl e) xs=>match cK P t,K5 V S lo 0,K5 V S hi xs.length with
   |some (_,sz',_),some l,some h=>if sz'=tsz V.sz e then
    if 0<=l/\l<=h/\h<=xs.length then k {val:= .lf (.sl e) ((xs.take h.toNat).drop l.toNat)}else none
    else none
   |_,_,_=>none
  |_,_=>none
 | .extract x i=>match tev S x with
  | .tup vs=>match vs[i]? with
   |some v=>k {val:=v}
   |none=>none
  |_=>none
 | .makeFunc (.func f) first captured=>k {val:= .fn f (first.toList.map (tev S)) (captured.toList.map (tev S))}
 | .call c=>match c.callee with
  | .value f=>match tev S f with
   | .fn fid first captured=>call A fid (first++c.args.toList.map (tev S)++captured) S k
   | .lf .fnc fid=>call A fid (c.args.toList.map (tev S)) S k
   | .lf .fno x=>x>>=λfid=>call A fid (c.args.toList.map (tev S)) S k
   |_=>none
  | .builtin b=>zE V P nm b o.type (c.args.toList.map (tev S)) c.argTypes.toList o.dst S k
  |_=>none
 |_=>none
end
end Go.Tx
end
section
namespace Go.Tx
open Go.Awp
variable [Inhabited GMem]
structure ELe (ex:Bool) (e' e:Eff):Prop where
 val:H.le e'.val e.val
 new:e'.new=e.new
 none:∀n,gt e.upd n=none->gt e'.upd n=none
 some:∀n o,gt e.upd n=some (some o)->∃o',gt e'.upd n=some (some o')/\OLe o' o
 eq:ex=true->e'.val=e.val/\e'.upd=e.upd/\e'.acc=e.acc
theorem Sim.le{C:Ctx}{E:Env}{M:Mem}{S S':aC}{a:Act}{w:World}(h:Sim C E M S a w)
 (ht:∀t x,gt S'.tmps t=some x->∃y,gt S.tmps t=some y/\H.le y x)(ho:∀n o,S'.own? n=some o->∃o',S.own? n=some o'/\OLe o' o):Sim C E M S' a w:=
 { h with
   tmps:=λt x hx=>by
    obtain⟨y,hy,hle⟩:=ht t x hx
    obtain⟨v,hv,hr⟩:=h.tmps t y hy
    exact⟨v,hv,hle E M v hr⟩
   own:=λn o hn=>by
    obtain⟨o',ho',hle⟩:=ho n o hn
    exact hle.ok E M w n (h.own n o' ho')
   apart:=λn m o o' b hne hn hm hb hb'=>by
    obtain⟨o1,h1,l1⟩:=ho n o hn
    obtain⟨o2,h2,l2⟩:=ho m o' hm
    exact h.apart n m o1 o2 b hne h1 h2 (l1.foot E M w n b (h.own n o1 h1) hb) (l2.foot E M w m b (h.own m o2 h2) hb')
   home:=λn o b hn hb=>by
    obtain⟨o1,h1,l1⟩:=ho n o hn
    exact h.home n o1 b h1 (l1.foot E M w n b (h.own n o1 h1) hb)}
theorem H.le.junk(x:H):H.le x .junk:=λ_ _ v _=> .junk v
theorem OLe.box{o o':Option TypeId}(ho:o=none\/o=o'){l l':List H}(hl:l'.length=l.length)(h:∀(i:Nat) (x:H),l[i]?=some x->∃y,l'[i]?=some y/\H.le y x):OLe (.box o' l') (.box o l):=by
 refine⟨?_,λ_ _ _ _ _ _ h=>h⟩
 rintro E M w n ⟨b,cs,ty,h1,h2,h3,h4,h5,h6⟩
 refine⟨b,cs,ty,h1,h2,by omega,λi c x hc hx=> ?_,h5,λt ht=>by
  rcases ho with ho|ho
  ·rw[ho]at ht;cases ht
  ·rw[ho]at ht;exact h6 t ht⟩
 obtain⟨y,hy,hle⟩:=h i x hx
 exact hle E M c (h4 i c y hc hy)
section
variable {V:iF}
def gB(ω:Nat->Nat)(e:TE V.N):Eff:={val:=aL V ω e.val,acc:=e.acc,upd:=e.upd.map λp=>(p.1,ct V ω p.2),new:=e.new}
def good(S:TS V.N)(e:TE V.N):Prop:=∀m o,gt e.upd m=some o->m∈e.new\/TO.len (some o)=S.len m
theorem ni(S:TS V.N)(dst:Option Tmp)(e:TE V.N)(n:Nat):(S.app dst e).own? n=match gt e.upd n with
 |some o=>some o
 |none=>S.own? n:=by
 unfold TS.app TS.own?
 simp only[e_]
 cases gt e.upd n<;>rfl
theorem d6(S:TS V.N)(dst:Option Tmp)(e:TE V.N)(n:Nat):(S.app dst e).len n=match gt e.upd n with
 |some o=>TO.len (some o)
 |none=>S.len n:=by
 unfold TS.len
 rw[ni]
 cases gt e.upd n<;>rfl
theorem fresh_tmp{S:TS V.N}{n:Nat}(h:S.fresh n=true){t:Nat}{x:TV V.N}(hx:gt S.tmps t=some x):TV.has n x=false:=by
 simp[TS.fresh]at h;exact h.1.2 _ _ (cV hx)
theorem fresh_own{S:TS V.N}{n:Nat}(h:S.fresh n=true){m:Nat}{o:TO V.N}(ho:S.own? m=some o):TO.has n o=false:=by
 simp[TS.fresh]at h;exact h.2 _ _ (cV ho)
theorem GT{S:TS V.N}{dst:Option Tmp}{te:TE V.N}(hg:good S te)(hn:∀d∈te.new,S.fresh d=true):
 (∀t v,gt S.tmps t=some v->aL V (S.app dst te).len v=aL V S.len v)/\(∀n o,S.own? n=some o->ct V (S.app dst te).len o=ct V S.len o):=by
 have keep:∀n,n∉te.new->(S.app dst te).len n=S.len n:=by
  intro n hnn
  rw[d6]
  cases hu:gt te.upd n with
  |none=>rfl
  |some o=>exact(hg n o hu).resolve_left hnn
 refine⟨λt v hv=>jp v λn hnv=>keep n λhd=> ?_,λn o ho=>qL o λm hm=>keep m λhd=> ?_⟩
 ·rw[fresh_tmp (hn n hd) hv]at hnv;cases hnv
 ·rw[fresh_own (hn m hd) ho]at hm;cases hm
theorem sm{S:TS V.N}{dst:Option Tmp}{te:TE V.N}(hg:good S te)(hn:∀d∈te.new,S.fresh d=true):
 (∀t,gt (a_ V (S.app dst te)).tmps t=gt ((a_ V S).app dst (gB (S.app dst te).len te)).tmps t)/\
 (∀n,(a_ V (S.app dst te)).own? n=((a_ V S).app dst (gB (S.app dst te).len te)).own? n):=by
 obtain⟨k1,k2⟩:=GT (dst:=dst) hg hn
 refine⟨λt=> ?_,λn=> ?_⟩
 ·rw[db]
  have:gt (S.app dst te).tmps t=if dst=some t then some te.val else gt S.tmps t:=by
   unfold TS.app TJ
   cases dst with
   |none=>simp
   |some d=>simp only[aH,aaN]
  rw[this]
  simp only[aC.app,tz]
  cases dst with
  |none=>
   simp only[reduceCtorEq,aem,db]
   cases hq:gt S.tmps t with
   |none=>rfl
   |some v=>simp only[abf];rw[k1 t v hq]
  |some d=>
   simp only[aH,aaN,db]
   by_cases hd:d=t
   ·rw[aep hd,aep hd];rfl
   ·rw[aeo hd,aeo hd]
    cases hq:gt S.tmps t with
    |none=>rfl
    |some v=>simp only[abf];rw[k1 t v hq]
 ·rw[bL,ni]
  simp only[aC.own?,aC.app,e_]
  have hu:gt (gB (S.app dst te).len te).upd n=(gt te.upd n).map (ct V (S.app dst te).len):=by simp only[gB,gI]
  rw[hu]
  cases hq:gt te.upd n with
  |some o=>rfl
  |none=>
   simp only[acX]
   have:=bL S n
   unfold aC.own? at this
   rw[this]
   cases ho:S.own? n with
   |none=>rfl
   |some o=>simp only[aaJ];rw[k2 n o ho]
theorem Sim.tapp{C:Ctx}{E:Env}{M:Mem}{S:TS V.N}{dst:Option Tmp}{te:TE V.N}{e':Eff}{a:Act}{w:World}{ex:Bool}(hg:good S te)(hn:∀d∈te.new,S.fresh d=true)
 (hle:ELe ex e' (gB (S.app dst te).len te))(hs:Sim C E M ((a_ V S).app dst e') a w):Sim C E M (a_ V (S.app dst te)) a w:=by
 obtain⟨h1,h2⟩:=sm (dst:=dst) hg hn
 refine Sim.le hs (λt x hx=> ?_) (λn o ho=> ?_)
 ·rw[h1]at hx
  simp only[aC.app,tz]at hx⊢
  cases dst with
  |none=>exact⟨x,hx,H.le.refl _⟩
  |some d=>
   simp only[aH]at hx⊢
   by_cases hd:d=t
   ·rw[aep hd]at hx⊢;simp at hx;subst hx;exact⟨_,rfl,hle.val⟩
   ·rw[aeo hd]at hx⊢;exact⟨x,hx,H.le.refl _⟩
 ·rw[h2]at ho
  simp only[aC.own?,aC.app,e_]at ho⊢
  cases hu:gt (gB (S.app dst te).len te).upd n with
  |none=>
   rw[hu]at ho
   rw[hle.none n hu]
   exact⟨o,ho,OLe.refl _⟩
  |some oo=>
   rw[hu]at ho
   simp at ho
   subst ho
   obtain⟨o',k1,k2⟩:=hle.some n o hu
   exact⟨o',by rw[k1];rfl,k2⟩
theorem aI(S:TS V.N)(x:Operand):ev (a_ V S) x=aL V S.len (tev S x):=by
 cases x with
 |tmp t=>exact Hp S t
 |const v=>cases v<;>simp[ev,tev,tvc,aL,bC,cy]
 |global g=>simp[ev,tev,aL,cy]
 |func f=>simp[ev,tev,aL,encL]
theorem jV(ω:Nat->Nat)(i:V.ι)(x:V.N i):aL V ω (.lf (.st i) x)= .d (.agg (V.enc i x)):=by simp only[aL,bC]
theorem c6:∀(t:Ty V.ι) (x:den V.N t),bY V.sz V.enc t x=(bK V t x).map λl=>bC V.sz V.enc l.t l.x
 | .st i,x=>by simp only[bY,bK];exact V.enc_cells i x
 | .ar n e,xs=>by
  simp only[bY,bK,MD,List.map_flatten,abq]
  congr 2
  exact abj λx _=>c6 e x
 | .int _,x=>rfl
 | .bool,x=>rfl
 | .str,x=>rfl
 | .sl e,x=>rfl
 | .mp k v,x=>rfl
 | .er,x=>rfl
 | .op e,x=>rfl
 | .fnc,x=>rfl
 | .fno,x=>rfl
theorem gV(t:Ty V.ι)(x:den V.N t):(bK V t x).length=tsz V.sz t:=by
 cases t with
 |st i=>exact V.len_cells i x
 |ar n e=>exact MC _ _ _
 |_=>rfl
theorem cD(t:Ty V.ι)(x:den V.N t):(bY V.sz V.enc t x).length=tsz V.sz t:=by
 rw[c6,aaS,gV]
theorem ME{α:Type}{m:Nat}{pad y:α}{l:List α}(h:y∈arL m pad l):y∈l\/y=pad:=by
 unfold arL at h
 rcases abU.1 (abN h)with h|h
 ·exact .inl h
 ·exact .inr (adz.1 h).2
theorem pF:∀(t:Ty V.ι) (x:den V.N t),∀l∈bK V t x,l.t.cell=true
 | .st i,x=>V.one_cells i x
 | .ar n e,xs=>λl hl=>by
  rcases ME hl with h|h
  ·obtain⟨c,h1,h2⟩:=List.mem_flatten.1 h
   obtain⟨x,_,rfl⟩:=abg.1 h1
   exact pF e x l h2
  ·subst h;rfl
 | .int _,x=>by simp[bK,Ty.cell]
 | .bool,x=>by simp[bK,Ty.cell]
 | .str,x=>by simp[bK,Ty.cell]
 | .sl e,x=>by simp[bK,Ty.cell]
 | .mp k v,x=>by simp[bK,Ty.cell]
 | .er,x=>by simp[bK,Ty.cell]
 | .op e,x=>by simp[bK,Ty.cell]
 | .fnc,x=>by simp[bK,Ty.cell]
 | .fno,x=>by simp[bK,Ty.cell]
theorem tX{l:dW V.N}(h:l.t.cell=true):(H.d (bC V.sz V.enc l.t l.x)).one=true:=by
 obtain⟨t,x⟩:=l
 cases t<;>first|(simp[Ty.cell]at h;done)|rfl|exact Ov _|exact Hs _
theorem ss{ω:Nat->Nat}(v:TV V.N):aL V ω (fnT v)=fnD (aL V ω v):=by
 unfold fnT
 split
 ·simp[aL,encL,fnD,bC]
 ·rename_i hno
  cases v with
  |fn f a b=>
   simp only[aL]
   unfold fnD
   split
   ·rename_i h
    cases a with
    |nil=>cases b with
     |nil=>exact(hno f rfl).elim
     |cons _ _=>simp[encL]at h
    |cons _ _=>simp[encL]at h
   ·rfl
  |agg cs=>simp only[aL,cR];split<;>rfl
  |raw v=>cases v<;>rfl
  |_=>rfl
theorem AE(x:Option Nat):(H.d (LM x)).cells=some [H.d (LM x)]:=by cases x<;>rfl
theorem Fi(x:Option (List D)):(H.d (opD x)).cells=some [H.d (opD x)]:=by cases x<;>rfl
theorem dS{ω:Nat->Nat}{v:TV V.N}{cs:List (TV V.N)}(h:TV.cells V v=some cs):(aL V ω v).cells=some (encL V ω cs):=by
 cases v with
 |lf t x=>
  simp only[TV.cells,aaN]at h
  subst h
  have e:encL V ω ((bK V t x).map λl=>TV.lf l.t l.x)=(bY V.sz V.enc t x).map H.d:=by
   rw[c6,aU,abq,abq]
   exact abj λl _=>by simp[aL]
  rw[e]
  cases t with
  |op e=>simp only[aL,bC,bY,Fi,aaY,abE]
  |fno=>simp only[aL,bC,bY,AE,aaY,abE]
  |_=>simp[aL,bC,bY,H.cells,d9]
 |raw v=>
  simp only[TV.cells]at h
  split at h
  ·rename_i hc
   simp at h;subst h
   cases v<;>first|(simp[d9]at hc;done)|simp[aL,encL,cy,H.cells,d9]
  ·cases h
 |agg cs'=>
  simp only[TV.cells,aaN]at h
  subst h
  simp only[aL,cR]
  split
  ·rename_i ds hds
   simp only[H.cells]
   congr 1
   obtain⟨h1,h2⟩:=fq hds
   apply aca
   intro i
   rw[h2,aaR]
  ·rfl
 |tup vs=>simp[TV.cells]at h
 |junk=>simp[TV.cells]at h
 |rp t x off=>simp[TV.cells]at h;subst h;simp[aL,encL,H.cells]
 |bp n off=>simp[TV.cells]at h;subst h;simp[aL,encL,H.cells]
 |vh n=>simp[TV.cells]at h;subst h;simp[aL,encL,H.cells]
 |ep n s i off=>simp[TV.cells]at h;subst h;simp[aL,encL,H.cells]
 |sv n s i off=>simp[TV.cells]at h;subst h;simp[aL,encL,H.cells]
 |mp n=>simp[TV.cells]at h;subst h;simp[aL,encL,H.cells]
 |np n b=>simp[TV.cells]at h;subst h;simp[aL,encL,H.cells]
 |sd n=>simp[TV.cells]at h;subst h;simp[aL,encL,H.cells]
 |fn f a b=>simp[TV.cells]at h;subst h;simp[aL,encL,H.cells]
 |ai n s i off=>simp[TV.cells]at h;subst h;simp[aL,encL,H.cells]
theorem Fh{ω:Nat->Nat}{v:TV V.N}(h:v.one=true):(aL V ω v).one=true:=by
 cases v with
 |lf t x=>simp only[TV.one]at h;simp only[aL];exact tX (l:=⟨t,x⟩) h
 |raw v=>
  simp only[TV.one,aaT]at h
  cases v<;>first|(simp[d9]at h;done)|(simp only[aL,cy,H.one,D.one];exact h.2)
 |agg cs=>simp[TV.one]at h
 |tup cs=>simp[TV.one]at h
 |junk=>simp[TV.one]at h
 |_=>simp[aL,H.one,D.one]
theorem ft{ω:Nat->Nat}{l:List (TV V.N)}(h:l.all TV.one=true):(encL V ω l).all H.one=true:=by
 rw[aU,acG]
 rw[aa1]at h⊢
 exactλx hx=>Fh (h x hx)
theorem yB(t:Ty V.ι)(l:dW V.N):bC V.sz V.enc (Uh V t l).t (Uh V t l).x=bC V.sz V.enc l.t l.x:=by
 obtain⟨t',x⟩:=l
 cases t'<;>try rfl
 cases t<;>rfl
theorem dc{ω:Nat->Nat}{ex:Bool}:∀{ts:List (Ty V.ι)} {cs:List (TV V.N)} {ls:List (dW V.N)},dC V ex ts cs=some ls->
 ∃ds,encL V ω cs=ds.map H.d/\D.Les ds (ls.map λl=>bC V.sz V.enc l.t l.x)/\(ex=true->ds=ls.map λl=>bC V.sz V.enc l.t l.x)
 |[],[],ls,h=>by simp[dC]at h;subst h;exact⟨[],rfl, .nil,λ_=>rfl⟩
 |[],_::_,ls,h=>by simp[dC]at h
 |_::_,[],ls,h=>by simp[dC]at h
 |t::ts,x::xs,ls,h=>by
  simp only[dC]at h
  split at h
  ·rename_i l ls' h1 h2
   simp at h;subst h
   obtain⟨ds,e1,e2,e3⟩:=dc (ω:=ω) h2
   cases x with
   |lf t' y=>
    simp only[md,aaN]at h1;subst h1
    exact⟨bC V.sz V.enc t' y::ds,by simp[encL,aL,e1], .cons ((yB (V:=V) t ⟨t',y⟩)▸D.le.refl _) e2,λhx=>by simp[e3 hx,yB]⟩
   |raw v=>
    simp only[md]at h1
    split at h1
    ·simp at h1;subst h1
     exact⟨.v (.pointer none)::ds,by simp[encL,aL,cy,e1], .cons (D.le.refl _) e2,λhx=>by rw[e3 hx];rfl⟩
    ·simp at h1;subst h1
     exact⟨.v .nilFunc::ds,by simp[encL,aL,cy,e1], .cons (D.le.refl _) e2,λhx=>by rw[e3 hx];rfl⟩
    ·split at h1
     ·cases h1
     ·simp at h1;subst h1
      exact⟨.v (.slice none 0 0)::ds,by simp[encL,aL,cy,e1], .cons (D.le.nil _) e2,λhx=>by simp at hx⟩
    ·split at h1
     ·cases h1
     ·simp at h1;subst h1
      exact⟨.v .nilIface::ds,by simp[encL,aL,cy,e1], .cons D.le.ern e2,λhx=>by simp at hx⟩
    ·cases h1
   |_=>simp[md]at h1
  ·cases h
theorem dX(ds:List D):gE (ds.map H.d)=some ds:=by
 induction ds with
 |nil=>rfl
 |cons x r ih=>simp[gE,ih]
theorem iY{ω:Nat->Nat}{ex:Bool}{ot:Option (Ty V.ι)}{cs:List (TV V.N)}:H.le (cR (encL V ω cs)) (aL V ω (mkV V ex ot cs))/\(ex=true->cR (encL V ω cs)=aL V ω (mkV V ex ot cs)):=by
 unfold mkV
 have dflt:H.le (cR (encL V ω cs)) (aL V ω (.agg cs))/\(ex=true->cR (encL V ω cs)=aL V ω (.agg cs)):=by
  rw[aL];exact⟨H.le.refl _,λ_=>rfl⟩
 split
 ·rename_i i
  split
  ·rename_i ls hls
   split
   ·rename_i x hx
    obtain⟨ds,e1,e2,e3⟩:=dc (ω:=ω) hls
    have hc:=V.of_cells i ls x hx
    have he:aL V ω (.lf (.st i) x)= .d (.agg (ls.map λl=>bC V.sz V.enc l.t l.x)):=by
     rw[jV,V.enc_cells,hc]
    rw[e1,cR,dX,he]
    exact⟨H.le.d (D.le.agg e2),λh=>by rw[e3 h]⟩
   ·exact dflt
  ·exact dflt
 ·exact dflt
theorem j1{ω:Nat->Nat}{ex ag:Bool}{sz:Nat}{ot:Option (Ty V.ι)}{cells:List (TV V.N)}{v:TV V.N}(h:AJ V ex ag sz ot cells=some v):
 ∃x,fw ag sz (encL V ω cells)=some x/\H.le x (aL V ω v)/\(ex=true->x=aL V ω v):=by
 cases ag with
 |true=>
  simp only[AJ]at h
  split at h
  ·rename_i hle
   simp at h;subst h
   refine⟨cR (encL V ω (cells.take sz)),?_,iY⟩
   simp only[fw,aU,aaS]
   rw[aep hle,abS]
  ·cases h
 |false=>
  simp only[AJ]at h
  cases cells with
  |nil=>simp at h
  |cons c r=>simp at h;subst h;exact⟨aL V ω c,by simp[fw,encL],H.le.refl _,λ_=>rfl⟩
theorem fJ{ω:Nat->Nat}{ag:Bool}{sz:Nat}{ot:Option (Ty V.ι)}{t:Ty V.ι}{x:den V.N t}{off:Nat}{v:TV V.N}(h:ut V ag sz ot t x off=some v):
 ∃d,dZ ag sz ((bY V.sz V.enc t x).drop off)=some d/\aL V ω v= .d d:=by
 cases ag with
 |true=>
  simp only[ut]at h
  split at h
  ·rename_i hc
   obtain⟨h1,h2,h3,h4⟩:=hc
   simp at h;subst h
   subst h1;subst h4
   have hl:=cD t x
   refine⟨.agg (bY V.sz V.enc t x),?_,?_⟩
   ·simp only[dZ,aa8]
    rw[aep (by omega),abt (by omega)]
   ·cases t<;>first|(simp[Ty.cell]at h3;done)|simp[aL,bC,bY]
  ·split at h
   ·split at h
    ·rename_i hle
     split at h
     ·rename_i y hy
      simp at h;subst h
      have hc:=V.of_cells _ _ _ hy
      refine⟨.agg (((bY V.sz V.enc t x).drop off).take sz),?_,?_⟩
      ·simp only[dZ]
       rw[aep (by rw[abp,cD];rw[gV]at hle;omega)]
      ·rw[jV,V.enc_cells,hc,c6,abS,abT]
     ·cases h
    ·cases h
   ·cases h
 |false=>
  simp only[ut]at h
  split at h
  ·rename_i l hl
   simp at h;subst h
   refine⟨bC V.sz V.enc l.t l.x,?_,by simp[aL]⟩
   simp only[dZ,c6]
   rw[<-abT,List.head?_map,hl];rfl
  ·cases h
theorem tY(ω:Nat->Nat)(n:Nat)(l:List (TV V.N)):encL V ω (l.take n)=(encL V ω l).take n:=by simp[aU,abS]
theorem iL(ω:Nat->Nat)(n:Nat)(l:List (TV V.N)):encL V ω (l.drop n)=(encL V ω l).drop n:=by simp[aU,abT]
theorem gl(ω:Nat->Nat)(l m:List (TV V.N)):encL V ω (l++m)=encL V ω l++encL V ω m:=by simp[aU]
theorem bF(ω:Nat->Nat)(l:List (TV V.N)):(encL V ω l).length=l.length:=by simp[aU]
theorem hD{ω:Nat->Nat}{pl:List (Nat×Nat)}:∀{parts:List (Nat×TV V.N)} {cells cs:List (TV V.N)},wA V pl cells parts=some cs->
 oJ pl (encL V ω cells) (parts.map λp=>(p.1,aL V ω p.2))=some (encL V ω cs)
 |[],cells,cs,h=>by simp[wA]at h;subst h;rfl
 |(i,x)::r,cells,cs,h=>by
  simp only[wA]at h
  split at h
  ·rename_i off sz cc h1 h2
   split at h
   ·rename_i hc
    have ih:=hD (ω:=ω) h
    simp only[aaY,oJ,h1,dS (ω:=ω) h2,bF]
    rw[aep hc]
    simp only[eK,bF]
    rw[gl,gl,tY,iL]at ih
    exact ih
   ·cases h
  ·cases h
theorem D.Les.app{a b c d:List D}(h:D.Les a b)(k:D.Les c d):D.Les (a++c) (b++d):=by
 induction h with
 |nil=>exact k
 |cons h _ ih=>exact .cons h ih
theorem GU{α:Type}{m:Nat}{pad:α}{l:List α}(h:l.length=m):arL m pad l=l:=by
 unfold arL
 rw[aco (by omega),abt (by omega)]
theorem ub{α:Type}{sz:Nat}:∀{l:List (List α)},(∀r∈l,r.length=sz)->l.flatten.length=l.length *sz
 |[],_=>by simp
 |r::l,h=>by
  rw[ab_,abd,h r aa2,ub λq hq=>h q (aaX _ hq),aaW,abs,Nat.add_comm]
theorem vg{α β:Type}{f:List α->Option β}{sz:Nat}:∀{n:Nat} {cs:List α} {r:List β},vf f sz n cs=some r->r.length=n
 |0,cs,r,h=>by simp[vf]at h;subst h;rfl
 |n+1,cs,r,h=>by
  simp only[vf]at h
  split at h
  ·rename_i x r' h1 h2
   cases h
   simp[vg h2]
  ·cases h
theorem ek{ω:Nat->Nat}{ex:Bool}:∀{e:Ty V.ι} {cs:List (TV V.N)} {y:den V.N e} (_:dH V ex e cs=some y),
 ∃ds,encL V ω cs=ds.map H.d/\D.Les ds (bY V.sz V.enc e y)/\(ex=true->ds=bY V.sz V.enc e y):=by
 have single:∀(t:Ty V.ι) (y:den V.N t) (cs:List (TV V.N)),(∃x l,cs=[x]/\md V ex t x=some l/\∃ht:l.t=t,ht▸l.x=y)->bK V t y=[⟨t,y⟩]->∃ds,encL V ω cs=ds.map H.d/\D.Les ds (bY V.sz V.enc t y)/\(ex=true->ds=bY V.sz V.enc t y):=by
  rintro t y cs ⟨x,⟨lt,lx⟩,rfl,hl,ht,rfl⟩ hrc
  simp only at ht
  subst ht
  rw[c6,hrc]
  have hls:dC V ex [lt] [x]=some [⟨lt,lx⟩]:=by simp[dC,hl]
  exact dc (ω:=ω) hls
 intro e
 induction e with
 |fno=>
  intro cs y h
  refine single .fno y cs ?_ rfl
  match cs,h with
  |[],h=>simp[dH]at h
  |_::_::_,h=>simp[dH]at h
  |[x],h=>
   simp only[dH]at h
   split at h
   ·rename_i l hl
    split at h
    ·rename_i ht;simp only[aaN]at h;exact⟨x,l,rfl,hl,ht,h⟩
    ·cases h
   ·cases h
 |ar n e ih=>
  intro cs y h
  simp only[dH]at h
  split at h
  ·rename_i hlen
   have go:∀(n:Nat) (cs:List (TV V.N)) (ys:List (den V.N e)),cs.length=n *tsz V.sz e->vf (dH V ex e) (tsz V.sz e) n cs=some ys->
    ∃ds,encL V ω cs=ds.map H.d/\D.Les ds (ys.map λx=>bY V.sz V.enc e x).flatten/\(ex=true->ds=(ys.map λx=>bY V.sz V.enc e x).flatten):=by
    intro n
    induction n with
    |zero=>
     intro cs ys hl h
     simp[vf]at h
     subst h
     rw[acU]at hl
     rw[abl hl]
     exact⟨[],rfl, .nil,λ_=>rfl⟩
    |succ n ihn=>
     intro cs ys hl h
     simp only[vf]at h
     split at h
     ·rename_i x r h1 h2
      cases h
      rw[abs]at hl
      obtain⟨d1,a1,a2,a3⟩:=ih h1
      obtain⟨d2,b1,b2,b3⟩:=ihn _ _ (by rw[abp];omega) h2
      refine⟨d1++d2,?_,by simpa using D.Les.app a2 b2,λhx=>by rw[a3 hx,b3 hx];rfl⟩
      rw[abG,<-a1,<-b1,<-gl,adY]
     ·cases h
   obtain⟨ds,a1,a2,a3⟩:=go n cs y hlen h
   have hl:(y.map λx=>bY V.sz V.enc e x).flatten.length=n *tsz V.sz e:=by
    rw[ub (sz:=tsz V.sz e) (λr hr=>by obtain⟨x,_,rfl⟩:=abg.1 hr;exact cD e x),aaS,vg h]
   have he:bY V.sz V.enc (.ar n e) y=(y.map λx=>bY V.sz V.enc e x).flatten:=GU hl
   exact⟨ds,a1,by rw[he];exact a2,λhx=>by rw[he];exact a3 hx⟩
  ·cases h
 |st i=>
  intro cs y h
  simp only[dH]at h
  split at h
  ·rename_i ls hls
   obtain⟨ds,e1,e2,e3⟩:=dc (ω:=ω) hls
   have hc:=V.of_cells i ls y h
   refine⟨ds,e1,?_,?_⟩<;>simp only[bY]<;>rw[V.enc_cells,hc]
   ·exact e2
   ·exact e3
  ·cases h
 |int k=>
  intro cs y h
  refine single (.int k) y cs ?_ rfl
  match cs,h with
  |[],h=>simp[dH]at h
  |_::_::_,h=>simp[dH]at h
  |[x],h=>
   simp only[dH]at h
   split at h
   ·rename_i l hl
    split at h
    ·rename_i ht;simp only[aaN]at h;exact⟨x,l,rfl,hl,ht,h⟩
    ·cases h
   ·cases h
 |bool=>
  intro cs y h
  refine single .bool y cs ?_ rfl
  match cs,h with
  |[],h=>simp[dH]at h
  |_::_::_,h=>simp[dH]at h
  |[x],h=>
   simp only[dH]at h
   split at h
   ·rename_i l hl
    split at h
    ·rename_i ht;simp only[aaN]at h;exact⟨x,l,rfl,hl,ht,h⟩
    ·cases h
   ·cases h
 |op e _=>
  intro cs y h
  refine single (.op e) y cs ?_ rfl
  match cs,h with
  |[],h=>simp[dH]at h
  |_::_::_,h=>simp[dH]at h
  |[x],h=>
   simp only[dH]at h
   split at h
   ·rename_i l hl
    split at h
    ·rename_i ht;simp only[aaN]at h;exact⟨x,l,rfl,hl,ht,h⟩
    ·cases h
   ·cases h
 |er=>
  intro cs y h
  refine single .er y cs ?_ rfl
  match cs,h with
  |[],h=>simp[dH]at h
  |_::_::_,h=>simp[dH]at h
  |[x],h=>
   simp only[dH]at h
   split at h
   ·rename_i l hl
    split at h
    ·rename_i ht;simp only[aaN]at h;exact⟨x,l,rfl,hl,ht,h⟩
    ·cases h
   ·cases h
 |fnc=>
  intro cs y h
  refine single .fnc y cs ?_ rfl
  match cs,h with
  |[],h=>simp[dH]at h
  |_::_::_,h=>simp[dH]at h
  |[x],h=>
   simp only[dH]at h
   split at h
   ·rename_i l hl
    split at h
    ·rename_i ht;simp only[aaN]at h;exact⟨x,l,rfl,hl,ht,h⟩
    ·cases h
   ·cases h
 |str=>
  intro cs y h
  refine single .str y cs ?_ rfl
  match cs,h with
  |[],h=>simp[dH]at h
  |_::_::_,h=>simp[dH]at h
  |[x],h=>
   simp only[dH]at h
   split at h
   ·rename_i l hl
    split at h
    ·rename_i ht;simp only[aaN]at h;exact⟨x,l,rfl,hl,ht,h⟩
    ·cases h
   ·cases h
 |sl e _=>
  intro cs y h
  refine single (.sl e) y cs ?_ rfl
  match cs,h with
  |[],h=>simp[dH]at h
  |_::_::_,h=>simp[dH]at h
  |[x],h=>
   simp only[dH]at h
   split at h
   ·rename_i l hl
    split at h
    ·rename_i ht;simp only[aaN]at h;exact⟨x,l,rfl,hl,ht,h⟩
    ·cases h
   ·cases h
 |mp tk tv _ _=>
  intro cs y h
  refine single (.mp tk tv) y cs ?_ rfl
  match cs,h with
  |[],h=>simp[dH]at h
  |_::_::_,h=>simp[dH]at h
  |[x],h=>
   simp only[dH]at h
   split at h
   ·rename_i l hl
    split at h
    ·rename_i ht;simp only[aaN]at h;exact⟨x,l,rfl,hl,ht,h⟩
    ·cases h
   ·cases h
end
end Go.Tx
end
section
namespace Go.Tx
open Go.Awp
variable [Inhabited GMem]
section
variable {V:iF}
def bH(P:Program)(call:dh V):Prop:=∀(A:Type) (fid:Nat) (args:List (TV V.N)) (S:TS V.N) (dst:Option Tmp) (k:TE V.N->Option A) (r:A),call A fid args S k=some r->
 ∃te,k te=some r/\good S te/\vJ P fid (encL V S.len args) (a_ V S).own? λe'=>ELe true e' (gB (S.app dst te).len te)
def OpS(ex:Bool)(P:Program)(nm:Nat->Nat){A:Type}(o:Oper)(S:TS V.N)(k:TE V.N->Option A)(r:A):Prop:=
 ∃te,k te=some r/\good S te/\bN P nm o (ev (a_ V S)) (a_ V S).own? λe'=>ELe ex e' (gB (S.app o.dst te).len te)
theorem ju(S:TS V.N)(v:TV V.N)(l:List Nat):good S {val:=v,acc:=l}:=λm o h=>by simp[gt]at h
theorem vR(S:TS V.N)(dst:Option Tmp)(v:TV V.N)(l:List Nat):(S.app dst {val:=v,acc:=l}).len=S.len:=by
 funext n;rw[d6];rfl
theorem Du{ex:Bool}{S:TS V.N}{dst:Option Tmp}{v:TV V.N}{x:H}{l:List Nat}(h:H.le x (aL V S.len v))(hx:ex=true->x=aL V S.len v):ELe ex {val:=x,acc:=l} (gB (S.app dst {val:=v,acc:=l}).len {val:=v,acc:=l}):=by
 rw[vR]
 exact{val:=h,new:=rfl,none:=λn _=>rfl,some:=λn o h=>by simp[gB,gt]at h,eq:=λh=>⟨hx h,rfl,rfl⟩}
theorem tW{ex:Bool}{S:TS V.N}{dst:Option Tmp}{v:TV V.N}{x:H}{l:List Nat}(h:x=aL V S.len v):ELe ex {val:=x,acc:=l} (gB (S.app dst {val:=v,acc:=l}).len {val:=v,acc:=l}):=Du (h▸H.le.refl _) λ_=>h
theorem cX{ex:Bool}{ω:Nat->Nat}{te:TE V.N}{e':Eff}(hv:e'.val=aL V ω te.val)(hn:e'.new=te.new)(hu:e'.upd=te.upd.map λp=>(p.1,ct V ω p.2))(ha:e'.acc=te.acc):ELe ex e' (gB ω te)where
 val:=by rw[hv];exact H.le.refl _
 new:=hn
 none:=λn h=>by rw[hu];exact h
 some:=λn o h=>⟨o,by rw[hu];exact h,OLe.refl o⟩
 eq:=λ_=>⟨hv,hu,ha⟩
theorem xU(ω:Nat->Nat)(x:Value):aL V ω (tvc x)=cy x:=by
 cases x<;>simp[tvc,aL,bC,cy]
theorem fp(S:TS V.N)(l:List Operand):l.map (ev (a_ V S))=encL V S.len (l.map (tev S)):=by
 rw[aU,abq]
 exact abj λx _=>aI S x
theorem Ee(S:TS V.N)(l:List (Nat×Operand)):l.map (λp=>(p.1,ev (a_ V S) p.2))=(l.map λp=>(p.1,tev S p.2)).map λp=>(p.1,aL V S.len p.2):=by
 rw[abq]
 exact abj λx _=>by simp[aI]
theorem gF{S:TS V.N}{lo:Option Operand}{d n:Int}(h:K5 V S lo d=some n):bnd (ev (a_ V S)) lo d=some n:=by
 cases lo with
 |none=>exact h
 |some x=>
  simp only[K5]at h
  simp only[bnd,aI]
  split at h
  ·rename_i hx;rw[hx];simpa[aL,bC]using h
  ·cases h
theorem dJ{S:TS V.N}{n:Nat}{te:TypeId}{e:Ty V.ι}{xs:List (den V.N e)}(h:S.own? n=some (.vec te e xs)):
 (a_ V S).own? n=some (.vec te (tsz V.sz e) (xs.map λx=>bY V.sz V.enc e x)):=by rw[bL,h];rfl
theorem jR(ω:Nat->Nat)(i:V.ι)(x:V.N i):encL V ω ((V.cells i x).map λl=>(.lf l.t l.x:TV V.N))=(V.enc i x).map .d:=by
 rw[V.enc_cells,aU,abq,abq]
 exact abj λl _=>by simp[aL]
theorem ij{S:TS V.N}{n:Nat}{cells:List (TV V.N)}(h:GZ V (S.own? n)=some cells):(a_ V S).own? n=some (.box (TU V (S.own? n)) (encL V S.len cells)):=by
 rw[bL]
 cases ho:S.own? n with
 |none=>rw[ho]at h;cases h
 |some o=>
  rw[ho]at h
  cases o with
  |box oty cs=>simp only[GZ,aaN]at h;subst h;rfl
  |bst i x=>simp only[GZ,aaN]at h;subst h;simp only[aaJ,ct,jR];rfl
  |vec te e xs=>cases h
  |map tk tv es=>cases h
  |iter s p=>cases h
  |miter m tk tv es rest cur=>cases h
  |que te e xs=>cases h
  |maps te k v es al=>cases h
  |bar n e xs=>cases h
  |alias m=>cases h
  |gone l=>cases h
theorem yi{S:TS V.N}{n:Nat}{cells:List (TV V.N)}(h:GZ V (S.own? n)=some cells):S.len n=0:=by
 unfold TS.len
 cases ho:S.own? n with
 |none=>rfl
 |some o=>
  rw[ho]at h
  cases o<;>first|rfl|cases h
theorem Cv{ω:Nat->Nat}{v:TV V.N}{cs:List (TV V.N)}(h:TV.cells V v=some cs):ct V ω (Cu V v cs)=some (.box none (encL V ω cs)):=by
 unfold Cu
 split
 ·rename_i i x
  simp only[TV.cells,bK,aaN]at h
  subst h
  simp only[ct,jR]
 ·rfl
theorem u9{ω:Nat->Nat}{o:Option TypeId}{v:TV V.N}{cs:List (TV V.N)}(h:TV.cells V v=some cs):ct V ω (JF V o v cs)=some (.box o (encL V ω cs)):=by
 cases o with
 |none=>exact Cv h
 |some t=>rfl
theorem Cw{v:TV V.N}{cs:List (TV V.N)}:TO.len (some (Cu V v cs))=0:=by
 unfold Cu
 split<;>rfl
theorem FE{o:Option TypeId}{v:TV V.N}{cs:List (TV V.N)}:TO.len (some (JF V o v cs))=0:=by
 cases o with
 |none=>exact Cw
 |some t=>rfl
theorem eh{S:TS V.N}{n:Nat}{te:TypeId}{e:Ty V.ι}{xs:List (den V.N e)}(h:S.own? n=some (.vec te e xs)):S.len n=xs.length:=by unfold TS.len;rw[h];rfl
theorem xh{t:Ty V.ι}{x:den V.N t}:((bY V.sz V.enc t x).all D.one)=true:=by
 rw[c6,acG,aa1]
 exactλl hl=>by have:=tX (V:=V) (pF t x l hl);simpa[H.one]using this
variable {P:Program} {nm:Nat->Nat} {call:dh V} {A:Type} {S:TS V.N} {k:TE V.N->Option A} {r:A} {o:Oper} {ex:Bool}
theorem aY{v:TV V.N}{l:List Nat}(hk:k {val:=v,acc:=l}=some r)(h:∀K:Eff->Prop,K {val:=aL V S.len v,acc:=l}->bN P nm o (ev (a_ V S)) (a_ V S).own? K):OpS ex P nm o S k r:=
 ⟨_,hk,ju S v l,h _ (tW rfl)⟩
theorem mR{v:TV V.N}{l:List Nat}(hk:k {val:=v,acc:=l}=some r)(h:∀K:Eff->Prop,(∀x,H.le x (aL V S.len v)->(ex=true->x=aL V S.len v)->K {val:=x,acc:=l})->bN P nm o (ev (a_ V S)) (a_ V S).own? K):OpS ex P nm o S k r:=
 ⟨_,hk,ju S v l,h _ λ_ hx hy=>Du hx hy⟩
theorem KS(S:TS V.N)(dst:Option Tmp)(d:Nat)(v:TV V.N)(b:TO V.N)(cs:List (TV V.N))(hf:∀n,TV.hasL n cs=true->n≠d):
 encL V (S.app dst {val:=v,upd:=[(d,b)],new:=[d]}).len cs=encL V S.len cs:=by
 refine encL_congr cs λn hn=> ?_
 rw[d6]
 simp only[aH]
 rw[aeo (λe=>hf n hn e.symm)]
 rfl
theorem Gs{S:TS V.N}{d:Nat}(h:S.fresh d=true)(x:Operand):TV.has d (tev S x)=false:=by
 cases x with
 |tmp t=>
  simp only[tev,TS.get]
  cases hg:gt S.tmps t with
  |none=>simp[TV.has]
  |some v=>exact fresh_tmp h hg
 |const v=>cases v<;>simp[tev,tvc,TV.has]
 |global g=>simp[tev,TV.has]
 |func f=>simp[tev,TV.has,TV.hasL]
theorem qU{d:Nat}{l:List (TV V.N)}(h:∀x∈l,TV.has d x=false):TV.hasL d l=false:=by
 induction l with
 |nil=>simp[TV.hasL]
 |cons y r ih=>rw[TV.hasL,h y aa2,ih λx hx=>h x (aaX _ hx)];rfl
theorem ww{d:Nat}{v:TV V.N}{cs:List (TV V.N)}(h:TV.cells V v=some cs)(hv:TV.has d v=false):TV.hasL d cs=false:=by
 cases v with
 |lf t x=>
  simp only[TV.cells,aaN]at h
  subst h
  exact qU λy hy=>by
   obtain⟨l,_,rfl⟩:=abg.1 hy
   simp[TV.has]
 |raw v=>
  simp only[TV.cells]at h
  split at h
  ·simp at h;subst h;simp[TV.hasL,TV.has]
  ·cases h
 |agg cs'=>simp only[TV.cells,aaN]at h;subst h;simpa[TV.has]using hv
 |tup vs=>simp[TV.cells]at h
 |junk=>simp[TV.cells]at h
 |rp t x off=>simp[TV.cells]at h;subst h;simp[TV.hasL,TV.has]
 |ai n s i off=>simp[TV.cells]at h;subst h;simpa[TV.hasL]using hv
 |bp n off=>simp[TV.cells]at h;subst h;simpa[TV.hasL]using hv
 |vh n=>simp[TV.cells]at h;subst h;simpa[TV.hasL]using hv
 |ep n s i off=>simp[TV.cells]at h;subst h;simpa[TV.hasL]using hv
 |sv n s i off=>simp[TV.cells]at h;subst h;simpa[TV.hasL]using hv
 |mp n=>simp[TV.cells]at h;subst h;simpa[TV.hasL]using hv
 |np n b=>simp[TV.cells]at h;subst h;simpa[TV.hasL]using hv
 |sd n=>simp[TV.cells]at h;subst h;simpa[TV.hasL]using hv
 |fn f a b=>simp[TV.cells]at h;subst h;simpa[TV.hasL]using hv
theorem Fj{d:Nat}{b:TO V.N}{oty:Option TypeId}{cs:List (TV V.N)}(hb:∀ω,ct V ω b=some (.box oty (encL V ω cs)))(hk:k {val:= .bp (nm d) 0,upd:=[(nm d,b)],new:=[nm d]}=some r)(hf:TV.hasL (nm d) cs=false)
 (h:∀K:Eff->Prop,K {val:= .bp (nm d) 0,acc:=[],upd:=[(nm d,some (.box oty (encL V S.len cs)))],new:=[nm d]}->bN P nm o (ev (a_ V S)) (a_ V S).own? K):OpS ex P nm o S k r:=by
 refine⟨_,hk,λm o hm=> ?_,h _ (cX (by simp[aL]) rfl ?_ rfl)⟩
 ·simp only[aH]at hm
  split at hm
  ·rename_i e;left;simp[e]
  ·simp[gt]at hm
 ·simp only[aaY,abE,hb]
  rw[KS S o.dst (nm d) (.bp (nm d) 0) b cs λn hn e=>by subst e;rw[hf]at hn;cases hn]
theorem sZ{n:Nat}{o':TO V.N}(hk:k {val:= .junk,acc:=[n],upd:=[(n,o')]}=some r)(hl:TO.len (some o')=S.len n)
 (h:∀K:Eff->Prop,K {val:= .junk,acc:=[n],upd:=[(n,ct V S.len o')]}->bN P nm o (ev (a_ V S)) (a_ V S).own? K):OpS ex P nm o S k r:=by
 have hlen:(S.app o.dst {val:= .junk,acc:=[n],upd:=[(n,o')]}).len=S.len:=by
  funext m
  rw[d6]
  simp only[aH]
  by_cases hm:n=m
  ·subst hm;simpa using hl
  ·rw[aeo hm];simp[gt]
 refine⟨_,hk,λm o hm=> ?_,h _ (cX (by simp[aL]) rfl ?_ rfl)⟩
 ·simp only[aH]at hm
  split at hm
  ·rename_i e;simp at hm;subst hm;subst e;exact .inr hl
  ·simp[gt]at hm
 ·simp only[aaY,abE]
  rw[hlen]
theorem po{d:Nat}{te:TypeId}{e:Ty V.ι}{ys:List (den V.N e)}{old:List (Nat×Nat)}{l:List Nat}(hold:∀p∈old,S.len p.1=p.2)(hk:k {val:= .vh (nm d),acc:=l,upd:=(nm d, .vec te e ys)::old.map (λp=>(p.1, .gone p.2)),new:=[nm d]}=some r)
 (h:∀K:Eff->Prop,K {val:= .vh (nm d) ys.length,acc:=l,upd:=(nm d,some (.vec te (tsz V.sz e) (ys.map λx=>bY V.sz V.enc e x)))::old.map (λp=>(p.1,none)),new:=[nm d]}->bN P nm o (ev (a_ V S)) (a_ V S).own? K):OpS ex P nm o S k r:=by
 refine⟨_,hk,λm o hm=> ?_,h _ (cX ?_ rfl ?_ rfl)⟩
 ·simp only[aH]at hm
  split at hm
  ·rename_i e;left;simp[e]
  ·right
   have:=cV hm
   obtain⟨p,hp,he⟩:=abg.1 this
   simp only[abn]at he
   obtain⟨rfl,rfl⟩:=he
   exact(hold p hp).symm
 ·simp only[aL]
  rw[d6]
  simp[aH,TO.len]
 ·simp[ct,abq,Function.comp_def]
theorem jf{n:Nat}{tk tv:Ty V.ι}{es:List (den V.N tk×den V.N tv)}(h:S.own? n=some (.map tk tv es)):
 (a_ V S).own? n=some (.map (es.map λp=>(eA V.enc tk p.1,bC V.sz V.enc tv p.2))):=by rw[bL,h];rfl
theorem sF{n:Nat}{tk tv:Ty V.ι}{es:List (den V.N tk×den V.N tv)}(h:S.own? n=some (.map tk tv es)):S.len n=0:=by unfold TS.len;rw[h];rfl
theorem zg{n:Nat}{s:ByteArray}{p:Int}(h:S.own? n=some (.iter s p)):(a_ V S).own? n=some (.iter s p.toNat):=by rw[bL,h];rfl
theorem HF{n:Nat}{s:ByteArray}{p:Int}(h:S.own? n=some (.iter s p)):S.len n=0:=by unfold TS.len;rw[h];rfl
theorem uR{n m:Nat}{tk tv:Ty V.ι}{es rest:List (den V.N tk×den V.N tv)}{cur:Option (den V.N tk×den V.N tv)}(h:S.own? n=some (.miter m tk tv es rest cur)):
 (a_ V S).own? n=some (.miter m (es.map λp=>(eA V.enc tk p.1,bC V.sz V.enc tv p.2)) (rest.map λp=>(eA V.enc tk p.1,bC V.sz V.enc tv p.2)) (cur.map λp=>(eA V.enc tk p.1,bC V.sz V.enc tv p.2))):=by rw[bL,h];rfl
theorem un{n m:Nat}{tk tv:Ty V.ι}{es rest:List (den V.N tk×den V.N tv)}{cur:Option (den V.N tk×den V.N tv)}(h:S.own? n=some (.miter m tk tv es rest cur)):S.len n=0:=by unfold TS.len;rw[h];rfl
theorem D1{tk:Ty V.ι}(hk:Nv tk=true)(x:den V.N tk):bC V.sz V.enc tk x= .v (eA V.enc tk x):=by
 cases tk<;>first|rfl|cases hk
theorem xf{d:Nat}{s:ByteArray}(hk:k {val:= .bp (nm d) 0,upd:=[(nm d, .iter s 0)],new:=[nm d]}=some r)
 (h:∀K:Eff->Prop,K {val:= .bp (nm d) 0,acc:=[],upd:=[(nm d,some (.iter s 0))],new:=[nm d]}->bN P nm o (ev (a_ V S)) (a_ V S).own? K):OpS ex P nm o S k r:=by
 refine⟨_,hk,λm o hm=> ?_,h _ (cX (by simp[aL]) rfl (by simp[ct]) rfl)⟩
 simp only[aH]at hm
 split at hm
 ·rename_i e;left;simp[e]
 ·simp[gt]at hm
theorem Jr{n l:Nat}{v:TV V.N}(hv:∀ω ω':Nat->Nat,aL V ω v=aL V ω' v)(hk:k {val:=v,acc:=[n],upd:=[(n, .gone l)]}=some r)(hl:S.len n=l)
 (h:∀K:Eff->Prop,K {val:=aL V S.len v,acc:=[n],upd:=[(n,none)]}->bN P nm o (ev (a_ V S)) (a_ V S).own? K):OpS ex P nm o S k r:=by
 refine⟨_,hk,λm o hm=> ?_,h _ (cX (hv _ _) rfl (by simp[ct]) rfl)⟩
 simp only[aH]at hm
 split at hm
 ·rename_i e;right;simp at hm;subst hm;subst e;simp[TO.len,hl]
 ·simp[gt]at hm
theorem ul(ik:IntKind):∀l:List Int,qk ik (l.map (qs ik))=some l
 |[]=>rfl
 |n::r=>by simp[qs,qk,ul ik r]
theorem oV(ik:IntKind)(l:List (den V.N (.int ik))):qk ik (l.map λx=>bY V.sz V.enc (.int ik) x)=some l:=ul ik l
theorem pM(s:ByteArray):∀n i:Nat,(Bs.runesAt s n i).length<=n
 |0,_=>abe _
 |n+1,i=>by
  unfold Bs.runesAt
  split
  ·simp only[aaW];have:=pM s n (i+(Utf8.decode s i).2);omega
  ·simp
theorem FJ(s:ByteArray):(Bs.runes s).length<=s.size:=pM s _ _
theorem Bm{d:Nat}{tk tv:Ty V.ι}(hk:k {val:= .mp (nm d),upd:=[(nm d, .map tk tv [])],new:=[nm d]}=some r)
 (h:∀K:Eff->Prop,K {val:= .mp (nm d),acc:=[],upd:=[(nm d,some (.map []))],new:=[nm d]}->bN P nm o (ev (a_ V S)) (a_ V S).own? K):OpS ex P nm o S k r:=by
 refine⟨_,hk,λm o hm=> ?_,h _ (cX (by simp[aL]) rfl (by simp[ct]) rfl)⟩
 simp only[aH]at hm
 split at hm
 ·rename_i e;left;simp[e]
 ·simp[gt]at hm
theorem kB{tk:Ty V.ι}{kind:TypeDesc}(hk:fm (some kind) tk=true)(x y:den V.N tk):Instr.sameNow kind (eA V.enc tk x) (eA V.enc tk y)=some (keq V.cells tk x y):=by
 cases kind<;>cases tk<;>simp_all [fm,eA,keq,Instr.sameNow,Mp.ieq,Mp.beq,Mp.seq]
theorem jw{tk:Ty V.ι}{kind:TypeDesc}(hk:fm (some kind) tk=true):eJ kind=true:=by
 cases kind<;>cases tk<;>simp_all [fm,eJ]
theorem sD{tk:Ty V.ι}{kind:TypeDesc}(hk:fm (some kind) tk=true)(x:den V.N tk):bC V.sz V.enc tk x= .v (eA V.enc tk x):=by
 cases kind<;>cases tk<;>simp_all [fm,eA,bC]
theorem yx{tk tv:Ty V.ι}{kind:TypeDesc}(hk:fm (some kind) tk=true)(x:den V.N tk):∀es:List (den V.N tk×den V.N tv),
 t6 kind (eA V.enc tk x) (es.map λp=>(eA V.enc tk p.1,bC V.sz V.enc tv p.2))=some ((Mp.get (keq V.cells tk) x es).map (bC V.sz V.enc tv))
 |[]=>rfl
 |p::r=>by
  simp only[aaY,t6,kB hk,Mp.get]
  cases keq V.cells tk x p.1 with
  |true=>rfl
  |false=>exact yx hk x r
theorem FQ{tk tv:Ty V.ι}{kind:TypeDesc}(hk:fm (some kind) tk=true)(x:den V.N tk)(y:den V.N tv):∀es:List (den V.N tk×den V.N tv),
 L4 kind (eA V.enc tk x) (bC V.sz V.enc tv y) (es.map λp=>(eA V.enc tk p.1,bC V.sz V.enc tv p.2))=some ((Mp.put (keq V.cells tk) x y es).map λp=>(eA V.enc tk p.1,bC V.sz V.enc tv p.2))
 |[]=>rfl
 |p::r=>by
  simp only[aaY,L4,kB hk,Mp.put]
  cases keq V.cells tk x p.1 with
  |true=>rfl
  |false=>simp only[FQ hk x y r];rfl
theorem lT{tk tv:Ty V.ι}{kind:TypeDesc}(hk:fm (some kind) tk=true)(x:den V.N tk)(es:List (den V.N tk×den V.N tv)):
 iq kind (eA V.enc tk x) (es.map λp=>(eA V.enc tk p.1,bC V.sz V.enc tv p.2))=true:=by
 unfold iq
 rw[acG,aa1]
 intro p _
 simp only[adD,kB hk,adb]
theorem p_:∀{ds:List D} {z:List Value},m5 ds=some z->ds=z.map .v
 |[],z,h=>by simp[m5]at h;subst h;rfl
 | .v x::r,z,h=>by
  simp only[m5]at h
  split at h
  ·rename_i l hl
   simp at h;subst h
   rw[p_ hl];rfl
  ·cases h
 | .agg _::_,_,h=>by simp[m5]at h
 | .sl _ _::_,_,h=>by simp[m5]at h
 | .rp _::_,_,h=>by simp[m5]at h
theorem ci{α β:Type}{x:Option α}{f:α->Option β}{r:β}(h:x>>=f=some r):∃y,x=some y/\f y=some r:=by
 cases x with
 |none=>cases h
 |some y=>exact⟨y,rfl,h⟩
theorem aG{c:Prop}[Decidable c]{β:Type}{x:Option β}{r:β}(h:(if c then x else none)=some r):c/\x=some r:=by
 split at h
 ·exact⟨‹_›,h⟩
 ·cases h
theorem oE{ω:Nat->Nat}{e:Ty V.ι}{x:TV V.N}{y:den V.N e}(h:Hn V ex e x=some y):
 ∃cs ds,TV.cells V x=some cs/\encL V ω cs=ds.map H.d/\D.Les ds (bY V.sz V.enc e y)/\(ex=true->ds=bY V.sz V.enc e y):=by
 unfold Hn at h
 split at h
 ·rename_i t z
  split at h
  ·rename_i ht
   subst ht
   simp only[aaN]at h;subst h
   refine⟨_,bY V.sz V.enc t z,rfl,?_,D.Les.refl _,λ_=>rfl⟩
   rw[c6,aU,abq,abq]
   exact abj λl _=>by simp[aL]
  ·cases h
 ·split at h
  ·rename_i cs hcs
   obtain⟨ds,e1,e2,e3⟩:=ek (ω:=ω) h
   exact⟨cs,ds,hcs,e1,e2,e3⟩
  ·cases h
theorem j6{ω:Nat->Nat}{e:Ty V.ι}:∀{i:Nat} {parts:List (Nat×TV V.N)} {ys:List (den V.N e)},Bv V ex e i parts=some ys->
 ∃rows,pI (tsz V.sz e) i (parts.map λp=>(p.1,aL V ω p.2))=some rows/\rows.length=parts.length/\D.Rows rows (ys.map λx=>bY V.sz V.enc e x)/\(ex=true->rows=ys.map λx=>bY V.sz V.enc e x)
 |i,[],ys,h=>by simp[Bv]at h;subst h;exact⟨[],rfl,rfl, .nil,λ_=>rfl⟩
 |i,(j,x)::r,ys,h=>by
  simp only[Bv]at h
  obtain⟨hij,h⟩:=aG h
  split at h
  ·rename_i y ys' h1 h2
   simp at h;subst h
   obtain⟨cs,ds,hcs,e1,e2,e3⟩:=oE (ω:=ω) h1
   obtain⟨rows,f1,f2,f3,f4⟩:=j6 (ω:=ω) h2
   have hds:ds.length=tsz V.sz e:=by rw[e2.len,cD]
   refine⟨ds::rows,?_,by simp[f2], .cons e2 f3,λhx=>by simp[e3 hx,f4 hx]⟩
   simp only[aaY,pI,dS (ω:=ω) hcs,e1,dX,f1]
   rw[aep hij,aep hds]
  ·cases h
end
end Go.Tx
end
section
namespace Go.Tx
open Go.Awp
variable [Inhabited GMem]
section
variable {V:iF} {P:Program} {nm:Nat->Nat} {call:dh V} {A:Type} {S:TS V.N} {k:TE V.N->Option A} {r:A} {o:Oper} {ex:Bool}
theorem kI(l:List H):H.le (cR l) (.agg l):=λE M v h=>by
 unfold cR at h
 split at h
 ·rename_i ds hds
  obtain⟨cs,rfl,h1,h2⟩:=h.dagg
  obtain⟨g1,g2⟩:=fq hds
  refine .agg cs l (by omega) λi c x hc hx=> ?_
  rw[g2]at hx
  cases hd:ds[i]? with
  |none=>rw[hd]at hx;cases hx
  |some d=>rw[hd]at hx;simp at hx;subst hx;exact .d (h2 i c d hc hd)
 ·exact h
theorem sJ(l:List H):H.le (.agg l) (cR l):=λE M v h=>by
 obtain⟨cs,rfl,h1,h2⟩:=h.hagg
 exact bO.mk_agg h1 h2
theorem K1{l l':List H}(hl:l.length=l'.length)(h:∀(i:Nat) (x:H),l'[i]?=some x->∃y,l[i]?=some y/\H.le y x):H.le (.agg l) (.agg l'):=λE M v hv=>by
 obtain⟨cs,rfl,h1,h2⟩:=hv.hagg
 refine .agg cs l' (by omega) λi c x hc hx=> ?_
 obtain⟨y,hy,hle⟩:=h i x hx
 exact hle E M c (h2 i c y hc hy)
theorem Gx{l l':List H}(hl:l.length=l'.length)(h:∀(i:Nat) (x:H),l'[i]?=some x->∃y,l[i]?=some y/\H.le y x):H.le (.tup l) (.tup l'):=λE M v hv=>by
 obtain⟨cs,rfl,h1,h2⟩:=hv.htup
 refine .tup cs l' (by omega) λi c x hc hx=> ?_
 obtain⟨y,hy,hle⟩:=h i x hx
 exact hle E M c (h2 i c y hc hy)
theorem OLe.vec{te:TypeId}{sz:Nat}{a b:List (List D)}(h:D.Rows a b):OLe (.vec te sz a) (.vec te sz b):=by
 refine⟨?_,λ_ _ _ _ _ _ h=>h⟩
 rintro E M w n ⟨xs,h1,h2,h3,h4⟩
 refine⟨xs,by rw[<-h.len];exact h1,λr hr=> ?_,λi j r c x hr hx hc=> ?_,h4⟩
 ·obtain⟨i,hi,rfl⟩:=ac_ hr
  obtain⟨y,hy,hyr⟩:=h.get i _ (aaO hi)
  rw[<-hyr.len];exact h2 y (aaV hy)
 ·obtain⟨y,hy,hyr⟩:=h.get i r hr
  obtain⟨z,hz,hzx⟩:=hyr.get j x hx
  exact hzx M c (h3 i j y c z hy hz hc)
theorem Gw{x:Operand}(ho:o.op= .move x\/o.op= .assign x)(h:tx V P nm call ex o S k=some r):OpS ex P nm o S k r:=by
 have hk:k {val:=tev S x}=some r:=by rcases ho with ho|ho<;>simpa only[tx,ho]using h
 refine aY hk λK hK=> ?_
 rcases ho with ho|ho<;>(simp only[bN,ho,aI];exact hK)
theorem O9{c x y:Operand}(ho:o.op= .pick c x y)(h:tx V P nm call ex o S k=some r):OpS ex P nm o S k r:=by
 simp only[tx,ho]at h
 split at h
 ·rename_i b hb
  cases b with
  |true=>
   refine aY (by simpa using h) λK hK=> ?_
   simp only[bN,ho,aI,hb,aL,bC];exact hK
  |false=>
   refine aY (by simpa using h) λK hK=> ?_
   simp only[bN,ho,aI,hb,aL,bC];exact hK
 ·cases h
theorem nQ{ω:Nat->Nat}{z:List Value}(hz:z.all d9=true):encL V ω (z.map tvc)=z.map λx=> .d (.v x):=by
 rw[aU,abq]
 rw[aa1]at hz
 refine abj λx hx=> ?_
 have:=hz x hx
 simp only[adD,xU]
 cases x<;>first|(simp[d9]at this;done)|rfl
theorem Ke{t:TypeId}(ho:o.op= .alloc t)(h:tx V P nm call ex o S k=some r):OpS ex P nm o S k r:=by
 simp only[tx,ho]at h
 split at h
 ·rename_i z d hz hd
  obtain⟨hz1,h⟩:=aG h
  refine Fj (d:=d) (λω=>rfl) h (qU λx hx=> ?_) λK hK=> ?_
  ·obtain⟨v,_,rfl⟩:=abg.1 hx
   cases v<;>simp[tvc,TV.has]
  ·simp only[bN,ho,hz,hd]
   rw[nQ hz1]at hK;exact hK
 ·cases h
theorem SY{t:TypeId}{x:Operand}(ho:o.op= .box t x)(hf:∀te,k te=some r->∀d∈te.new,S.fresh d=true)(h:tx V P nm call ex o S k=some r):OpS ex P nm o S k r:=by
 simp only[tx,ho]at h
 split at h
 ·rename_i cs d hcs hd
  have hfr:=hf _ h (nm d) (by simp)
  refine Fj (d:=d) (oty:=HA V t cs) (λω=>u9 hcs) h (ww hcs (Gs hfr x)) λK hK=> ?_
  simp only[bN,ho,aI,dS (ω:=S.len) hcs,hd]
  refine⟨HA V t cs,?_,hK⟩
  unfold HA
  split
  ·exact .inr rfl
  ·exact .inl rfl
 ·cases h
theorem O7{t:TypeId}{x:Operand}(ho:o.op= .load t x)(h:tx V P nm call ex o S k=some r):OpS ex P nm o S k r:=by
 simp only[tx,ho]at h
 split at h
 ·rename_i ag sz ht
  split at h
  ·rename_i n off hx
   split at h
   ·rename_i v hw
    unfold zM at hw
    split at hw
    ·rename_i i y hn
     have hw':=aG hw;clear hw
     obtain⟨⟨e1,e2,e3,hot⟩,hw⟩:=hw'
     subst e1;subst e2;subst e3
     simp only[aaN]at hw;subst hw
     have hb:GZ V (S.own? n)=some ((V.cells i y).map λl=> .lf l.t l.x):=by rw[hn];rfl
     refine aY h λK hK=> ?_
     simp only[bN,ho,ht,aI,hx,ij hb,jR,fw,aa8]
     rw[jV]at hK
     simp only[aL,ij hb,jR,aaS,aa8]
     have hl:(V.enc i y).length=V.sz i:=by rw[V.enc_cells,aaS,V.len_cells]
     rw[aep (by omega),abt (by rw[aaS];omega),cR,dX]
     exact hK
    ·rename_i m e xs hn
     have hw':=aG hw;clear hw
     obtain⟨⟨e1,e2,e3,hot⟩,hw⟩:=hw'
     subst e1;subst e2;subst e3
     simp only[aaN]at hw;subst hw
     have ho1:(a_ V S).own? n=some (.box none ((bY V.sz V.enc (.ar m e) xs).map .d)):=by rw[bL,hn];rfl
     refine aY h λK hK=> ?_
     simp only[bN,ho,ht,aI,hx,aL,ho1,fw,aaS,aa8]
     have hl:=cD (V:=V) (.ar m e) xs
     rw[aep (by omega),abt (by rw[aaS];omega),cR,dX]
     exact hK
    ·cases hw
   ·split at h
    ·rename_i cells hc
     split at h
     ·rename_i v hv
      obtain⟨y,h1,h2,h3⟩:=j1 (ω:=S.len) hv
      rw[iL]at h1
      refine mR h λK hK=> ?_
      simp only[bN,ho,ht,aI,hx,aL,ij hc,h1]
      exact hK y h2 h3
     ·cases h
    ·cases h
  ·rename_i n s i off hx
   split at h
   ·rename_i te e xs hc
    obtain⟨hs,h⟩:=aG h
    obtain⟨y,hy,h⟩:=ci h
    split at h
    ·rename_i v hv
     obtain⟨d,h1,h2⟩:=fJ (ω:=S.len) hv
     refine aY h λK hK=> ?_
     simp only[bN,ho,ht,aI,hx,aL,dJ hc,aaR,hy,abf,h1]
     refine⟨hs,?_⟩
     rw[<-h2];exact hK
    ·cases h
   ·cases h
  ·rename_i t' y off hx
   split at h
   ·rename_i v hv
    obtain⟨d,h1,h2⟩:=fJ (ω:=S.len) hv
    refine aY h λK hK=> ?_
    simp only[bN,ho,ht,aI,hx,aL,h1]
    rw[<-h2];exact hK
   ·cases h
  ·cases h
 ·cases h
theorem Km{t:TypeId}{x y:Operand}(ho:o.op= .store t x y)(h:tx V P nm call ex o S k=some r):OpS ex P nm o S k r:=by
 simp only[tx,ho]at h
 split at h
 ·rename_i ag sz ht
  split at h
  ·rename_i n off cs hx hy
   split at h
   ·rename_i cells hc
    have h':=aG h;clear h
    obtain⟨⟨h1,h2,h3⟩,h⟩:=h'
    split at h
    ·rename_i hwh
     obtain⟨e0,hsz⟩:=hwh
     subst e0
     refine sZ h (by rw[yi hc];exact FE) λK hK=> ?_
     simp only[bN,ho,ht,aI,hx,aL,ij hc,dS (ω:=S.len) hy,bF]
     refine⟨⟨h1,ft h2,h3⟩,?_⟩
     rw[u9 hy]at hK
     simp only[eK,bF,ac5,aaZ,aaU]
     rw[adT (by rw[bF];omega),acK]
     exact hK
    ·refine sZ h (by rw[yi hc];rfl) λK hK=> ?_
     simp only[bN,ho,ht,aI,hx,aL,ij hc,dS (ω:=S.len) hy,bF]
     refine⟨⟨h1,ft h2,h3⟩,?_⟩
     simp only[ct,gl,tY,iL]at hK
     simp only[eK,bF]
     exact hK
   ·cases h
  ·rename_i n s i off cs hx hy
   split at h
   ·rename_i te e xs hc
    obtain⟨⟨h0,h1,h2,h3⟩,h⟩:=aG h
    obtain⟨x',hx',h⟩:=ci h
    split at h
    ·rename_i y' hy'
     obtain⟨ds,e1,_,e3⟩:=ek (ω:=S.len) hy'
     have e3:=e3 rfl
     subst e3
     have hcs:∃es,gE (encL V S.len cs)=some es/\bY V.sz V.enc e y'=(bY V.sz V.enc e x').take off++es++(bY V.sz V.enc e x').drop (off+es.length)/\es.length=cs.length:=by
      have hm:∀l:List (dW V.N),encL V S.len (l.map λl=>TV.lf l.t l.x)=(l.map λl=>bC V.sz V.enc l.t l.x).map H.d:=by
       intro l
       rw[aU,abq,abq]
       exact abj λl _=>by simp[aL]
      rw[gl,gl,hm,hm,abS,abT,<-c6]at e1
      have hall:∃es:List D,encL V S.len cs=es.map H.d:=by
       have:∀(a b c:List H) (l:List D),a++b++c=l.map H.d->∃es:List D,b=es.map H.d:=by
        intro a b c l hl
        refine⟨(l.drop a.length).take b.length,?_⟩
        rw[abS,abT,<-hl]
        simp
       exact this _ _ _ _ e1
      obtain⟨es,hes⟩:=hall
      have hlen:es.length=cs.length:=by have:=congrArg ac9 hes;simpa[bF]using this.symm
      refine⟨es,by rw[hes,dX],?_,hlen⟩
      rw[hes,<-abG,<-abG]at e1
      have inj:∀(a b:List D),a.map H.d=b.map H.d->a=b:=λa b hab=>by
       have:=congrArg gE hab
       rw[dX,dX]at this
       simpa using this
      rw[hlen]
      exact(inj _ _ e1).symm
     obtain⟨es,he1,he2,he3⟩:=hcs
     refine sZ h (by rw[eh hc];simp[TO.len]) λK hK=> ?_
     simp only[bN,ho,ht,aI,hx,aL,dJ hc,dS (ω:=S.len) hy,bF,aaR,hx',abf,he1]
     refine⟨⟨h0,h1,ft h2,by rw[<-h0];exact h3⟩,?_⟩
     simp only[ct,acp,he2]at hK
     exact hK
    ·cases h
   ·cases h
  ·cases h
 ·cases h
theorem xR{x:Operand}(ho:o.op= .nilCheck x)(h:tx V P nm call ex o S k=some r):OpS ex P nm o S k r:=by
 simp only[tx,ho]at h
 split at h
 ·rename_i n off hx
  refine aY h λK hK=> ?_
  simp only[bN,ho,aI,hx,aL]at hK⊢;exact hK
 ·rename_i n s i off hx
  refine aY h λK hK=> ?_
  simp only[bN,ho,aI,hx,aL]at hK⊢;exact hK
 ·rename_i t x off hx
  refine aY h λK hK=> ?_
  simp only[bN,ho,aI,hx,aL]at hK⊢;exact hK
 ·rename_i n b hx
  obtain⟨hb,h⟩:=aG h
  subst hb
  refine aY h λK hK=> ?_
  simp only[bN,ho,aI,hx,aL]at hK⊢;exact hK
 ·cases h
theorem DV{y:Operand}(h:DU y=true):y= .const .nilIface:=by
 unfold DU at h
 split at h
 ·rfl
 ·cases h
theorem Kf{op:BinOp}{t t':TypeId}{x y:Operand}(ho:o.op= .binOp op t x y t')(h:tx V P nm call ex o S k=some r):OpS ex P nm o S k r:=by
 simp only[tx,ho]at h
 split at h
 ·rename_i kx a ky b hx hy
  split at h
  ·rename_i hs
   obtain⟨hb,h⟩:=aG h
   cases op<;>simp only[xw,reduceCtorEq,aaN]at hs
   refine aY h λK hK=> ?_
   simp only[bN,ho,aI,hx,hy,aL,bC,oU]at hK⊢;exact⟨hb,hK⟩
  ·rename_i hs
   obtain⟨hb,h⟩:=aG h
   cases op<;>simp only[xw,reduceCtorEq,aaN]at hs
   refine aY h λK hK=> ?_
   simp only[bN,ho,aI,hx,hy,aL,bC,oU]at hK⊢;exact⟨hb,hK⟩
  rename_i hs
  obtain⟨hk,h⟩:=aG h
  subst hk
  cases op<;>simp only[]at h<;>first
   |(cases h;done)
   |(obtain⟨hb,h⟩:b≠0/\_:=by
      split at h
      ·cases h
      ·exact⟨‹_›,h⟩
     refine aY h λK hK=> ?_
     simp only[bN,ho,aI,hx,hy,aL,bC,oU]at hK⊢;exact⟨⟨trivial,hb⟩,hK⟩)
   |(refine aY h λK hK=> ?_
     simp only[bN,ho,aI,hx,hy,aL,bC,oU]at hK⊢;exact⟨trivial,hK⟩)
 ·rename_i a b hx hy
  split at h
  ·rename_i hu
   refine aY h λK hK=> ?_
   simp only[bN,ho,aI,hx,hy,aL,bC]at hK⊢;exact⟨hu,hK⟩
  ·rename_i hu
   refine aY h λK hK=> ?_
   simp only[bN,ho,aI,hx,hy,aL,bC]at hK⊢;exact⟨hu,hK⟩
  ·cases h
 ·rename_i a b hx hy
  split at h
  ·refine aY h λK hK=> ?_
   simp only[bN,ho,aI,hx,hy,aL,bC]at hK⊢;exact hK
  ·refine aY h λK hK=> ?_
   simp only[bN,ho,aI,hx,hy,aL,bC]at hK⊢;exact hK
  ·obtain⟨hl,h⟩:=aG h
   refine aY h λK hK=> ?_
   simp only[bN,ho,aI,hx,hy,aL,bC]at hK⊢;exact⟨by unfold most at hl;omega,hK⟩
  ·cases h
 ·rename_i a n c hx hy
  split at h
  ·rename_i hu
   refine aY h λK hK=> ?_
   simp only[bN,ho,aI,hx,hy,aL,cy,bC]at hK⊢;exact⟨hu,hK⟩
  ·rename_i hu
   refine aY h λK hK=> ?_
   simp only[bN,ho,aI,hx,hy,aL,cy,bC]at hK⊢;exact⟨hu,hK⟩
  ·cases h
 ·rename_i e y ys hx hy
  split at h
  ·rename_i hu
   refine aY h λK hK=> ?_
   simp only[bN,ho,aI,hx,hy,aL,cy,bC,aaY]at hK⊢;exact⟨hu,hK⟩
  ·rename_i hu
   refine aY h λK hK=> ?_
   simp only[bN,ho,aI,hx,hy,aL,cy,bC,aaY]at hK⊢;exact⟨hu,hK⟩
  ·cases h
 ·rename_i n b hx hy
  split at h
  ·rename_i hu
   refine aY h λK hK=> ?_
   simp only[bN,ho,aI,hx,hy,aL,cy,bC]at hK⊢;exact⟨hu,hK⟩
  ·rename_i hu
   refine aY h λK hK=> ?_
   simp only[bN,ho,aI,hx,hy,aL,cy,bC]at hK⊢;exact⟨hu,hK⟩
  ·cases h
 ·rename_i b hx hy
  obtain⟨⟨hu,hn⟩,h⟩:=aG h
  have hyc:=DV hn
  split at h
  ·refine aY h λK hK=> ?_
   simp only[bN,ho,aI,hx,hy,aL,cy,bC]at hK⊢;exact⟨⟨hu,hyc⟩,hK⟩
  ·refine aY h λK hK=> ?_
   simp only[bN,ho,aI,hx,hy,aL,cy,bC]at hK⊢;exact⟨⟨hu,hyc⟩,hK⟩
  ·cases h
 ·cases h
theorem O_{op:UnOp}{t:TypeId}{x:Operand}(ho:o.op= .unOp op t x)(h:tx V P nm call ex o S k=some r):OpS ex P nm o S k r:=by
 simp only[tx,ho]at h
 split at h
 ·rename_i b hx
  refine aY h λK hK=> ?_
  simp only[bN,ho,aI,hx,aL,bC]at hK⊢;exact hK
 ·rename_i ki n hx
  refine aY h λK hK=> ?_
  simp only[bN,ho,aI,hx,aL,bC]at hK⊢;exact hK
 ·cases h
theorem ng{t:TypeId}{x:Operand}(ho:o.op= .makeInterface t x)(h:tx V P nm call ex o S k=some r):OpS ex P nm o S k r:=by
 simp only[tx,ho]at h
 split at h
 ·rename_i hn
  refine aY h λK hK=> ?_
  simp only[bN,ho,aL,bC]at hK⊢
  exact⟨hn,hK⟩
 ·cases h
theorem B7{s t:TypeId}{x:Operand}(ho:o.op= .convert s t x)(h:tx V P nm call ex o S k=some r):OpS ex P nm o S k r:=by
 simp only[tx,ho]at h
 split at h
 ·rename_i d ki kk n h1 h2 hx
  refine aY h λK hK=> ?_
  simp only[bN,ho,h1,h2,aI,hx,aL,bC]at hK⊢;exact hK
 ·rename_i d kk n h1 h2 hx
  refine aY h λK hK=> ?_
  simp only[bN,ho,h1,h2,aI,hx,aL,bC]at hK⊢;exact hK
 ·rename_i e x h1 h2 hx
  split at h
  ·rename_i d hu hd
   obtain⟨hl,h⟩:=aG h
   refine po (d:=d) (e:= .int .i32) (old:=[]) (λp hp=>by cases hp) h λK hK=> ?_
   simp only[bN,ho,h1,h2,aI,hx,aL,bC,hu,hd]at hK⊢
   exact⟨by have:=FJ x;unfold most at hl;omega,hK⟩
  ·rename_i hu
   refine aY h λK hK=> ?_
   simp only[bN,ho,h1,h2,aI,hx,aL,bC,bY,tsz,hu]at hK⊢
   exact hK
  ·cases h
 ·rename_i e ik xs h1 h2 hx
  split at h
  ·rename_i hu
   refine aY h λK hK=> ?_
   simp only[bN,ho,h1,h2,aI,hx,aL,bC,hu]at hK⊢
   erw[oV]
   exact⟨rfl,hK⟩
  ·rename_i hu
   refine aY h λK hK=> ?_
   simp only[bN,ho,h1,h2,aI,hx,aL,bC,hu]at hK⊢
   erw[oV]
   exact⟨rfl,hK⟩
  ·cases h
 ·rename_i e h1 h2 hx
  split at h
  ·rename_i hu
   refine aY h λK hK=> ?_
   simp only[bN,ho,h1,h2,aI,hx,aL,bC,cy,hu]at hK⊢;exact hK
  ·rename_i hu
   refine aY h λK hK=> ?_
   simp only[bN,ho,h1,h2,aI,hx,aL,bC,cy,hu]at hK⊢;exact hK
  ·cases h
 ·cases h
theorem Kk{t:TypeId}{x:Operand}(ho:o.op= .range t x)(h:tx V P nm call ex o S k=some r):OpS ex P nm o S k r:=by
 simp only[tx,ho]at h
 split at h
 ·rename_i s d ht hx hd
  refine xf h λK hK=> ?_
  simp only[bN,ho,ht,hd,aI,hx,aL,bC]
  exact hK
 ·rename_i kt et m d ht hx hd
  split at h
  ·rename_i tk tv es hown
   refine⟨_,h,λm' o hm=> ?_,?_⟩
   ·simp only[aH]at hm
    split at hm
    ·rename_i e;left;simp[e]
    ·split at hm
     ·rename_i e;right;simp at hm;subst hm;subst e;simp[TO.len,sF hown]
     ·simp[gt]at hm
   ·simp only[bN,ho,ht,hd,aI,hx,aL,jf hown]
    exact cX (by simp[aL]) rfl (by simp[ct]) rfl
  ·cases h
 ·cases h
theorem Kh{x:Operand}(ho:o.op= .entry x)(h:tx V P nm call ex o S k=some r):OpS ex P nm o S k r:=by
 simp only[tx,ho]at h
 split at h
 ·rename_i n hx
  split at h
  ·rename_i m tk tv es rest p hown
   obtain⟨hk,h⟩:=aG h
   refine aY h λK hK=> ?_
   simp only[bN,ho,aI,hx,aL,encL,uR hown,abf]at hK⊢
   rw[D1 hk]at hK
   exact⟨trivial,hK⟩
  ·cases h
 ·cases h
theorem O8{x:Operand}{b:Bool}(ho:o.op= .next x b)(h:tx V P nm call ex o S k=some r):OpS ex P nm o S k r:=by
 cases b with
 |false=>simp only[tx,ho]at h;cases h
 |true=>
 simp only[tx,ho]at h
 split at h
 ·rename_i n hx
  split at h
  ·rename_i s p hown
   obtain⟨h0,h⟩:=aG h
   split at h
   ·rename_i hlt
    have hl:(aci p.toNat s.size)=true:=by rw[acq];omega
    refine⟨_,h,λm o hm=> ?_,?_⟩
    ·simp only[aH]at hm
     split at hm
     ·rename_i e;right;simp at hm;subst hm;subst e;simp[TO.len,HF hown]
     ·simp[gt]at hm
    ·have hp:((p.toNat:Nat):Int)=p:=by omega
     have hw:(p+Bs.wid s p).toNat=p.toNat+(Utf8.decode s p.toNat).2:=by unfold Bs.wid;omega
     simp only[bN,ho,aI,hx,aL,zg hown,hl]
     refine⟨trivial,cX (by simp only[aL,encL,bC,Bs.dec,hp]) rfl (by simp[ct,hw]) rfl⟩
   ·rename_i hlt
    have hl:(aci p.toNat s.size)=false:=by rw[Bool.eq_false_iff];intro h;rw[acq]at h;omega
    refine aY h λK hK=> ?_
    simp only[bN,ho,aI,hx,aL,encL,bC,zg hown,hl]at hK⊢
    exact⟨trivial,hK⟩
  ·cases h
 ·cases h
theorem Kg{t:TypeId}{parts:Array (Nat×Operand)}(ho:o.op= .build t parts)(h:tx V P nm call ex o S k=some r):OpS ex P nm o S k r:=by
 simp only[tx,ho]at h
 split at h
 ·rename_i z pl hz hp
  obtain⟨hz1,h⟩:=aG h
  split at h
  ·rename_i cs hcs
   have hf:=hD (ω:=S.len) hcs
   rw[nQ hz1]at hf
   split at h
   ·refine mR h λK hK=> ?_
    simp only[bN,ho,hz,hp,Ee,hf]
    exact hK _ (by rw[aL];exact H.le.refl _) (λ_=>by rw[aL])
   ·refine mR h λK hK=> ?_
    simp only[bN,ho,hz,hp,Ee,hf]
    exact hK _ iY.1 iY.2
  ·cases h
 ·cases h
theorem wO(S:TS V.N)(l:List (Nat×Operand)):(l.map λp=>(p.1,fnD (Go.Awp.ev (a_ V S) p.2)))=(l.map λp=>(p.1,fnT (tev S p.2))).map λp=>(p.1,aL V S.len p.2):=by
 rw[abq]
 exact abj λp _=>by simp only[adD,aI,ss]
theorem tw{t:TypeId}{len:Nat}{parts:Array (Nat×Operand)}(ho:o.op= .buildSlice t len parts)(h:tx V P nm call ex o S k=some r):OpS ex P nm o S k r:=by
 simp only[tx,ho]at h
 split at h
 ·rename_i te sz by_ e ht hty
  obtain⟨hsz,h⟩:=aG h
  subst hsz
  split at h
  ·rename_i ys hys
   obtain⟨rows,f1,f2,f3,f4⟩:=j6 (ω:=S.len) hys
   simp only[aaS]at f2
   obtain⟨⟨hl,hs⟩,h⟩:=aG h
   have hl':rows.length=len/\len *tsz V.sz e<=16777216:=⟨by omega,hs⟩
   cases hd:o.dst with
   |none=>
    simp only[hd]at h
    refine mR h λK hK=> ?_
    simp only[bN,ho,ht,wO,f1,hd]
    refine⟨hl',hK _ ?_ λhx=> ?_⟩
    ·simp only[aL,bC]
     exact H.le.d (D.le.sl f3)
    ·simp only[aL,bC]
     rw[f4 hx]
   |some d=>
    simp only[hd]at h
    by_cases hn:nm d=d
    ·rw[aep hn]at h
     refine mR h λK hK=> ?_
     simp only[bN,ho,ht,wO,f1,hd]
     refine⟨hl',?_⟩
     rw[aep hn]
     refine hK _ ?_ λhx=> ?_
     ·simp only[aL,bC]
      exact H.le.d (D.le.sl f3)
     ·simp only[aL,bC]
      rw[f4 hx]
    ·rw[aeo hn]at h
     refine⟨_,h,λm o hm=> ?_,?_⟩
     ·simp only[aH]at hm
      split at hm
      ·rename_i e;left;simp[e]
      ·simp[gt]at hm
     ·simp only[bN,ho,ht,wO,f1,hd]
      refine⟨hl',?_⟩
      rw[aeo hn]
      refine{val:= ?_,new:=rfl,none:=λn hg=> ?_,some:=λn o' hg=> ?_,eq:=λhx=> ?_}
      ·simp only[gB,aL]
       rw[d6]
       simp only[aH,ael,TO.len]
       rw[f3.len,aaS]
       exact H.le.refl _
      ·simp only[gB,aaY,abE,aH]at hg⊢
       split at hg
       ·simp at hg
       ·rename_i hne;rw[aeo hne];rfl
      ·simp only[gB,aaY,abE,aH]at hg⊢
       split at hg
       ·rename_i hne
        simp only[ct,aaN]at hg
        subst hg
        exact⟨_,by rw[aep hne],OLe.vec f3⟩
       ·simp[gt]at hg
      ·simp only[gB,aL,aaY,abE,ct]
       rw[d6]
       simp only[aH,ael,TO.len]
       rw[f4 hx,aaS]
       first|exact⟨rfl,rfl,rfl⟩|exact⟨rfl,trivial⟩|simp
  ·cases h
 ·cases h
theorem FK{l c:Operand}(h:rx l c=true):l=c:=by
 cases l<;>cases c<;>simp_all [rx]
theorem vi{e:Ty V.ι}{y:den V.N e}{ds:List D}(h1:D.Les ds (bY V.sz V.enc e y)):∀N:Nat,D.Rows (aa7 N ds) ((aa7 N y).map λx=>bY V.sz V.enc e x)
 |0=> .nil
 |N+1=> .cons h1 (vi h1 N)
theorem vB{d:Nat}{te:TypeId}{e:Ty V.ι}{y:den V.N e}{ds:List D}{N:Nat}(_:o.dst=some d)(h1:D.Les ds (bY V.sz V.enc e y))(h2:ex=true->ds=bY V.sz V.enc e y)
 (h:k {val:= .vh (nm d),upd:=[(nm d, .vec te e (aa7 N y))],new:=[nm d]}=some r)
 (hv:∀K:Eff->Prop,K {val:= .vh (nm d) N,acc:=[],upd:=[(nm d,some (.vec te (tsz V.sz e) (aa7 N ds)))],new:=[nm d]}->bN P nm o (ev (a_ V S)) (a_ V S).own? K):OpS ex P nm o S k r:=by
 refine⟨_,h,λm o hm=> ?_,hv _ ?_⟩
 ·simp only[aH]at hm
  split at hm
  ·rename_i e;left;simp[e]
  ·simp[gt]at hm
 ·have f3:=vi h1 N
  refine{val:= ?_,new:=rfl,none:=λn hg=> ?_,some:=λn o' hg=> ?_,eq:=λhx=> ?_}
  ·simp only[gB,aL]
   rw[d6]
   simp only[aH,ael,TO.len,abA]
   exact H.le.refl _
  ·simp only[gB,aaY,abE,aH]at hg⊢
   split at hg
   ·simp[ct]at hg
   ·rename_i hne;rw[aeo hne];rfl
  ·simp only[gB,aaY,abE,aH]at hg⊢
   split at hg
   ·rename_i hne
    simp only[ct,aaN]at hg
    subst hg
    exact⟨_,by rw[aep hne],OLe.vec f3⟩
   ·simp[gt]at hg
  ·simp only[gB,aL,aaY,abE,ct]
   rw[d6]
   simp only[aH,ael,TO.len,abA,acz,h2 hx]
   first|exact⟨rfl,rfl,rfl⟩|exact⟨rfl,trivial⟩|simp
theorem kG:∀{ds:List D} {z:List Value},(z.map λx=>H.d (.v x))=ds.map H.d->ds=z.map .v
 |[],[],_=>rfl
 |[],_::_,h=>by simp at h
 |_::_,[],h=>by simp at h
 |d::ds,x::z,h=>by
  simp only[aaY,abD,H.d.injEq]at h
  rw[<-h.1,kG h.2];rfl
theorem vA{t:TypeId}{l c:Operand}(ho:o.op= .makeSlice t l c)(h:tx V P nm call ex o S k=some r):OpS ex P nm o S k r:=by
 simp only[tx,ho]at h
 split at h
 ·rename_i te sz by_ e d ht hty hd
  split at h
  ·rename_i z kl n kc m hz hl hc
   split at h
   ·rename_i y hy
    have h':=aG h;clear h
    obtain⟨⟨hsz,hby,hzc⟩,h⟩:=h'
    subst hsz
    obtain⟨ds,e1,e2,e3⟩:=ek (ω:=S.len) hy
    rw[nQ hzc]at e1
    have hds:=kG e1
    subst hds
    split at h
    ·rename_i hs
     have hs:=FK hs
     subst hs
     obtain⟨h0,h⟩:=aG h
     obtain⟨h1,h⟩:=aG h
     have hnm:n=m:=by rw[hl]at hc;cases hc;rfl
     subst hnm
     refine vB hd e2 e3 h λK hK=> ?_
     simp only[bN,ho,ht,hd,hz,aI,hl,hc,aL,bC]
     exact⟨⟨.inl trivial,h0,h0,h1,hby⟩,hK⟩
    ·have h':=aG h;clear h
     obtain⟨h2,h⟩:=h'
     subst h2
     have h':=aG h;clear h
     obtain⟨h0,h⟩:=h'
     have h':=aG h;clear h
     obtain⟨h1,h⟩:=h'
     refine vB (N:=0) (y:=y) hd e2 e3 h λK hK=> ?_
     simp only[bN,ho,ht,hd,hz,aI,hl,hc,aL,bC]
     exact⟨⟨.inr trivial,abk _,h0,h1,hby⟩,hK⟩
   ·cases h
  ·cases h
 ·cases h
theorem pm{t:Ty V.ι}{d:D}{z:den V.N t}(h:ofZ V ex t d=some z):D.le d (bC V.sz V.enc t z)/\(ex=true->d=bC V.sz V.enc t z):=by
 unfold ofZ at h
 split at h
 ·obtain⟨hk,h⟩:=aG h
  subst hk
  have h:=‹some _=some z›
  simp only[aaN]at h;subst h
  exact⟨D.le.refl _,λ_=>rfl⟩
 ·cases h;exact⟨D.le.refl _,λ_=>rfl⟩
 ·cases h;exact⟨D.le.refl _,λ_=>rfl⟩
 ·split at h
  ·cases h
  ·cases h;exact⟨by simp only[bC,abE];exact D.le.nil _,λh=>by cases h⟩
 ·split at h
  ·rename_i z' hz
   obtain⟨hc,h⟩:=aG h
   obtain⟨ds',e1,e2,e3⟩:=ek (ω:=λ_=>0) h
   rw[nQ hc]at e1
   have:=kG e1
   subst this
   rw[p_ hz]
   exact⟨D.le.agg e2,λhx=>by rw[e3 hx];rfl⟩
  ·cases h
 ·cases h
theorem B9{t:TypeId}{hint:Option Operand}(ho:o.op= .makeMap t hint)(h:tx V P nm call ex o S k=some r):OpS ex P nm o S k r:=by
 simp only[tx,ho]at h
 split at h
 ·rename_i kt et d ht hd
  split at h
  ·obtain⟨hh,h⟩:=aG h
   refine Bm h λK hK=> ?_
   have hx:oQ (ev (a_ V S)) hint=true:=by
    cases hint with
    |none=>rfl
    |some x=>
     simp only[QW]at hh
     simp only[oQ,aI]
     split at hh
     ·rename_i hx;rw[hx];simp[aL,bC]
     ·cases hh
   simp only[bN,ho,ht,hd]
   exact⟨hx,hK⟩
  ·cases h
 ·cases h
theorem Gv{t:TypeId}{x i:Operand}{c:Bool}(ho:o.op= .lookup t x i c)(h:tx V P nm call ex o S k=some r):OpS ex P nm o S k r:=by
 simp only[tx,ho]at h
 split at h
 ·rename_i kt et n tk key ht hx hi
  split at h
  ·rename_i tk' tv es d hown hz
   split at h
   ·rename_i z hzz
    obtain⟨z1,z2⟩:=pm hzz
    split at h
    ·rename_i htk
     subst htk
     obtain⟨hk,h⟩:=aG h
     cases hkt:P.underlying kt with
     |none=>rw[hkt]at hk;simp[fm]at hk
     |some kind=>
      rw[hkt]at hk
      have hf:=yx (tv:=tv) hk key es
      have hle:H.le (.d (((Mp.get (keq V.cells tk) key es).map (bC V.sz V.enc tv)).getD d)) (aL V S.len (.lf tv ((Mp.get (keq V.cells tk) key es).getD z)))/\
       (ex=true->H.d (((Mp.get (keq V.cells tk) key es).map (bC V.sz V.enc tv)).getD d)=aL V S.len (.lf tv ((Mp.get (keq V.cells tk) key es).getD z))):=by
       cases Mp.get (keq V.cells tk) key es with
       |none=>simp only[acX,Option.getD_none,aL];exact⟨H.le.d z1,λhx=>by rw[z2 hx]⟩
       |some y=>simp only[abf,abZ,aL];exact⟨H.le.refl _,λ_=>trivial⟩
      cases c with
      |true=>
       refine mR h λK hK=> ?_
       simp only[bN,ho,ht,hkt,hz,aI,hx,hi,aL,sD hk,jf hown,hf]
       refine⟨⟨jw hk,lT hk key es⟩,hK _ ?_ λhx=> ?_⟩
       ·simp only[aL,encL]
        refine Gx rfl λi x hx=> ?_
        match i with
        |0=>simp at hx;subst hx;exact⟨_,rfl,by simpa only[aL]using hle.1⟩
        |1=>
         simp at hx;subst hx
         refine⟨_,rfl,?_⟩
         simp only[bC,adF]
         exact H.le.refl _
        |i+2=>simp at hx
       ·simp only[aL,encL]
        have:=hle.2 hx
        simp only[aL]at this
        rw[this]
        simp only[bC,adF]
      |false=>
       refine mR h λK hK=> ?_
       simp only[bN,ho,ht,hkt,hz,aI,hx,hi,aL,sD hk,jf hown,hf]
       exact⟨⟨jw hk,lT hk key es⟩,hK _ hle.1 hle.2⟩
    ·cases h
   ·cases h
  ·cases h
 ·cases h
theorem Mj{t:TypeId}{x i y:Operand}(hop:∀(ρ:Operand->H) (ω:Nat->Option Own) (K:Eff->Prop),Ko P ρ ω t x i y K->bN P nm o ρ ω K)(h:TK V P t x i y S k=some r):OpS ex P nm o S k r:=by
 simp only[TK]at h
 split at h
 ·rename_i kt et n tk key tv z ht hx hi hy
  split at h
  ·rename_i tk' tv' es hown
   split at h
   ·rename_i htk
    subst htk
    split at h
    ·rename_i htv
     subst htv
     obtain⟨hk,h⟩:=aG h
     cases hkt:P.underlying kt with
     |none=>rw[hkt]at hk;simp[fm]at hk
     |some kind=>
      rw[hkt]at hk
      refine sZ h (by rw[sF hown];rfl) λK hK=>hop _ _ _ ?_
      simp only[Ko,ht,hkt,aI,hx,hi,hy,aL,sD hk,jf hown,FQ hk]
      exact⟨⟨jw hk,lT hk key es⟩,_,(Mp.set_perm _ _ _ _ _).map _,hK⟩
    ·cases h
   ·cases h
  ·cases h
 ·cases h
theorem vy{s:TypeId}{x:Operand}{f:Nat}(ho:o.op= .fieldAddr s x f)(h:tx V P nm call ex o S k=some r):OpS ex P nm o S k r:=by
 simp only[tx,ho]at h
 split at h
 ·rename_i fo hfo
  split at h
  ·rename_i n off hx
   refine aY h λK hK=> ?_
   simp only[bN,ho,hfo,aI,hx,aL]at hK⊢;exact hK
  ·rename_i n sz i off hx
   refine aY h λK hK=> ?_
   simp only[bN,ho,hfo,aI,hx,aL]at hK⊢;exact hK
  ·rename_i t x off hx
   obtain⟨hl,h⟩:=aG h
   refine aY h λK hK=> ?_
   simp only[bN,ho,hfo,aI,hx,aL,acm]at hK⊢
   refine⟨?_,hK⟩
   rw[gV]at hl
   rw[abp,cD];omega
  ·cases h
 ·cases h
theorem Ki{s:TypeId}{x:Operand}{f:Nat}(ho:o.op= .field s x f)(h:tx V P nm call ex o S k=some r):OpS ex P nm o S k r:=by
 simp only[tx,ho]at h
 split at h
 ·rename_i off ag sz t y hft hx
  obtain⟨hc,h⟩:=aG h
  split at h
  ·rename_i v hv
   obtain⟨d,h1,h2⟩:=fJ (ω:=S.len) hv
   have he:aL V S.len (.lf t y)= .d (.agg (bY V.sz V.enc t y)):=by
    cases t<;>first|(simp[Ty.cell]at hc;done)|simp[aL,bC,bY]
   refine aY h λK hK=> ?_
   simp only[bN,ho,hft,aI,hx,he,h1]
   rw[<-h2];exact hK
  ·cases h
 ·rename_i off ag sz cs hft hx
  split at h
  ·rename_i v hv
   obtain⟨y,h1,h2,h3⟩:=j1 (ω:=S.len) hv
   rw[iL]at h1
   refine mR h λK hK=> ?_
   simp only[bN,ho,hft,aI,hx,aL,cR]
   cases ha:gE (encL V S.len cs)with
   |none=>simp only[h1];exact hK y h2 h3
   |some ds=>
    have hds:encL V S.len cs=ds.map H.d:=by
     obtain⟨g1,g2⟩:=fq ha
     apply aca
     intro i;rw[g2,aaR]
    rw[hds,<-abT]at h1
    have:∃d,dZ ag sz (ds.drop off)=some d/\y= .d d:=by
     cases ag with
     |false=>
      simp only[fw,dZ]at h1⊢
      cases hdr:ds.drop off with
      |nil=>rw[hdr]at h1;cases h1
      |cons c rr=>rw[hdr]at h1;simp at h1;exact⟨c,rfl,h1.symm⟩
     |true=>
      simp only[fw,dZ,aaS]at h1⊢
      split at h1
      ·rename_i hle
       rw[aep hle]
       rw[<-abS,cR,dX]at h1
       simp at h1
       exact⟨_,rfl,h1.symm⟩
      ·cases h1
    obtain⟨d,hd1,rfl⟩:=this
    simp only[hd1]
    exact hK _ h2 h3
  ·cases h
 ·cases h
theorem vz{t:TypeId}{x i:Operand}(ho:o.op= .indexAddr t x i)(h:tx V P nm call ex o S k=some r):OpS ex P nm o S k r:=by
 simp only[tx,ho]at h
 split at h
 ·rename_i te sz by_ ht
  split at h
  ·rename_i e xs kk n hx hi
   obtain⟨hsz,h⟩:=aG h
   obtain⟨hn,h⟩:=aG h
   obtain⟨y,hy,h⟩:=ci h
   refine aY h λK hK=> ?_
   simp only[bN,ho,ht,aI,hx,hi,aL,bC,aaR,hy,abf,aa8]at hK⊢
   exact⟨⟨hsz,hn⟩,hK⟩
  ·rename_i m kk n hx hi
   split at h
   ·rename_i te2 e xs hc
    obtain⟨⟨h1,h2⟩,h⟩:=aG h
    refine aY h λK hK=> ?_
    simp only[bN,ho,ht,aI,hx,hi,aL,bC,dJ hc,eh hc]at hK⊢
    exact⟨⟨h1,by exact_mod_cast h2⟩,hK⟩
   ·cases h
  ·cases h
 ·cases h
theorem Kj{t:TypeId}{x i:Operand}(ho:o.op= .index t x i)(h:tx V P nm call ex o S k=some r):OpS ex P nm o S k r:=by
 simp only[tx,ho]at h
 split at h
 ·rename_i s kk n ht hx hi
  obtain⟨hn,h⟩:=aG h
  obtain⟨b,hb,h⟩:=ci h
  refine aY h λK hK=> ?_
  simp only[bN,ho,ht,aI,hx,hi,aL,bC,hb]at hK⊢
  exact⟨hn,hK⟩
 ·cases h
theorem Kl{t:TypeId}{x:Operand}{lo hi mx:Option Operand}(ho:o.op= .slice t x lo hi mx)(h:tx V P nm call ex o S k=some r):OpS ex P nm o S k r:=by
 cases mx with
 |some m=>simp only[tx,ho]at h;cases h
 |none=>
 simp only[tx,ho]at h
 split at h
 ·rename_i s ht hx
  split at h
  ·rename_i l hh hl hh'
   obtain⟨hc,h⟩:=aG h
   refine aY h λK hK=> ?_
   simp only[bN,ho,ht,aI,hx,aL,bC,gF hl,gF hh']at hK⊢
   exact⟨hc,hK⟩
  ·cases h
 ·rename_i te e xs ht hx
  split at h
  ·rename_i te2 sz' by_ l hh hel hl hh'
   obtain⟨hsz,h⟩:=aG h
   obtain⟨hc,h⟩:=aG h
   refine aY h λK hK=> ?_
   simp only[bN,ho,ht,aI,hx,aL,bC,gF hl,gF hh',hel,aaS,abT,abS]at hK⊢
   exact⟨⟨hsz,hc⟩,hK⟩
  ·cases h
 ·cases h
theorem B8{x:Operand}{i:Nat}(ho:o.op= .extract x i)(h:tx V P nm call ex o S k=some r):OpS ex P nm o S k r:=by
 simp only[tx,ho]at h
 split at h
 ·rename_i vs hx
  split at h
  ·rename_i v hv
   refine aY h λK hK=> ?_
   simp only[bN,ho,aI,hx,aL,aU,aaR,hv,abf]at hK⊢
   exact hK
  ·cases h
 ·cases h
theorem xQ{fn:Fn}{first captured:Array Operand}(ho:o.op= .makeFunc fn first captured)(h:tx V P nm call ex o S k=some r):OpS ex P nm o S k r:=by
 cases fn with
 |func f=>
  simp only[tx,ho]at h
  refine aY h λK hK=> ?_
  simp only[bN,ho,aL,fp]at hK⊢;exact hK
 |_=>simp only[tx,ho]at h;cases h
theorem O6{c:Call}{f:Operand}(hcall:bH P call)(ho:o.op= .call c)(hc:c.callee= .value f)(h:tx V P nm call ex o S k=some r):OpS ex P nm o S k r:=by
 simp only[tx,ho,hc]at h
 split at h
 ·rename_i fid first captured hf
  obtain⟨te,h1,h2,h3⟩:=hcall A fid _ S o.dst k r h
  refine⟨te,h1,h2,?_⟩
  simp only[bN,ho,hc,aI,hf,aL,fp]
  rw[gl,gl]at h3
  obtain⟨own,rr,own',q1,q2,q3⟩:=h3
  exact⟨own,rr,own',q1,q2,{q3 with eq:=λ_=>q3.eq rfl}⟩
 ·rename_i fid hf
  obtain⟨te,h1,h2,h3⟩:=hcall A fid _ S o.dst k r h
  refine⟨te,h1,h2,?_⟩
  simp only[bN,ho,hc,aI,hf,aL,bC,fp]
  obtain⟨own,rr,own',q1,q2,q3⟩:=h3
  exact⟨own,rr,own',q1,q2,{q3 with eq:=λ_=>q3.eq rfl}⟩
 ·rename_i x hf
  cases x with
  |none=>cases h
  |some fid=>
   obtain⟨te,h1,h2,h3⟩:=hcall A fid _ S o.dst k r h
   refine⟨te,h1,h2,?_⟩
   simp only[bN,ho,hc,aI,hf,aL,bC,LM,fp]
   obtain⟨own,rr,own',q1,q2,q3⟩:=h3
   exact⟨own,rr,own',q1,q2,{q3 with eq:=λ_=>q3.eq rfl}⟩
 ·cases h
theorem B6{c:Call}{b:Builtin}(ho:o.op= .call c)(hc:c.callee= .builtin b)(h:tx V P nm call ex o S k=some r):OpS ex P nm o S k r:=by
 simp only[tx,ho,hc,zE]at h
 split at h
 ·rename_i e xs harg
  obtain⟨hk,h⟩:=aG h
  refine aY h λK hK=> ?_
  simp only[bN,ho,hc,fp,harg,encL,aL,bC,aaS]at hK⊢;exact⟨hk,hK⟩
 ·rename_i n harg
  obtain⟨hk,h⟩:=aG h
  refine aY h λK hK=> ?_
  simp only[bN,ho,hc,fp,harg,encL,aL,bC]at hK⊢;exact⟨hk,hK⟩
 ·rename_i n harg
  split at h
  ·rename_i tk tv es hown
   obtain⟨hk,h⟩:=aG h
   refine aY h λK hK=> ?_
   simp only[bN,ho,hc,fp,harg,encL,aL,bC,jf hown,aaS]at hK⊢;exact⟨hk,hK⟩
  ·cases h
 ·rename_i s harg
  obtain⟨hk,h⟩:=aG h
  refine aY h λK hK=> ?_
  simp only[bN,ho,hc,fp,harg,encL,aL,bC]at hK⊢;exact⟨hk,hK⟩
 ·rename_i kx a ky b harg
  refine aY h λK hK=> ?_
  simp only[bN,ho,hc,fp,harg,encL,aL,bC]at hK⊢;exact hK
 ·rename_i kx a ky b harg
  refine aY h λK hK=> ?_
  simp only[bN,ho,hc,fp,harg,encL,aL,bC]at hK⊢;exact hK
 ·rename_i x e' news harg
  split at h
  ·rename_i d t t' hd htys
   split at h
   ·rename_i te sz bytes hel
    have hone:∀l:List (den V.N e'),((l.map λx=>bY V.sz V.enc e' x).all λr=>r.all D.one)=true:=by
     intro l
     rw[acG,aa1]
     exactλx _=>xh
    have hby:∀n:Nat,bytes<=32768->n<=most->n *bytes<=140737488355328:=by
     intro n h1 h2
     have:n *bytes<=most *32768:=adW h2 h1
     unfold most at this
     omega
    split at h
    ·rename_i n
     split at h
     ·rename_i te2 e xs hc'
      split at h
      ·rename_i hee
       subst hee
       obtain⟨⟨h1,h2,h3,h4,h5⟩,h⟩:=aG h
       obtain⟨h6,h⟩:=aG h
       refine po (d:=d) (old:=[(n,xs.length)]) (λp hp=>by simp at hp;subst hp;exact eh hc') h λK hK=> ?_
       simp only[bN,ho,hc,fp,harg,encL,aL,bC,hd,htys,hel,dJ hc',aaS,eh hc']at hK⊢
       refine⟨⟨h1,h2,h3,h3,trivial,hone news,hby _ h4 h6,by unfold most at h6;omega⟩,?_⟩
       have:=hK
       simp only[abG,abd]at this
       exact h3▸this
      ·cases h
     ·cases h
    ·obtain⟨⟨h1,h2,h3⟩,h⟩:=aG h
     obtain⟨h4,h⟩:=aG h
     refine po (d:=d) (old:=[]) (λp hp=>by cases hp) h λK hK=> ?_
     simp only[bN,ho,hc,fp,harg,encL,aL,bC,cy,hd,htys,hel,aaS]at hK⊢
     refine⟨⟨h1,h2,hone news,hby _ h3 h4,by unfold most at h4;omega⟩,?_⟩
     exact h2▸hK
    ·cases h
   ·cases h
  ·cases h
 ·rename_i x s harg
  split at h
  ·rename_i d t t' hd htys
   split at h
   ·rename_i te sz bytes hel
    obtain⟨⟨g1,g2,g3,g4⟩,h⟩:=aG h
    have hs:P.underlying t'=some .string:=by
     unfold QZ at g1
     split at g1
     ·assumption
     ·cases g1
    have hz:lW P te=some (.v (.int .u8 0)):=by
     unfold Mn at g4
     split at g4
     ·rename_i n hn;have:n=0:=by simpa using g4
      rw[this]at hn;exact hn
     ·cases g4
    split at h
    ·rename_i n _
     split at h
     ·rename_i te2 xs hc'
      obtain⟨⟨h1,h2⟩,h⟩:=aG h
      obtain⟨h6,h⟩:=aG h
      refine po (d:=d) (e:= .int .u8) (old:=[(n,xs.length)]) (λp hp=>by simp at hp;subst hp;exact eh hc') h λK hK=> ?_
      simp only[bN,ho,hc,fp,harg,encL,aL,bC,hd,htys,hel,dJ hc',aaS,eh hc']at hK⊢
      refine⟨⟨hs,hz,h1,g2,rfl,g3,trivial,by unfold most at h6;omega⟩,?_⟩
      have:=hK
      simp only[abG,abd]at this
      exact this
     ·cases h
    ·obtain⟨h4,h⟩:=aG h
     refine po (d:=d) (e:= .int .u8) (old:=[]) (λp hp=>by cases hp) h λK hK=> ?_
     simp only[bN,ho,hc,fp,harg,encL,aL,bC,cy,hd,htys,hel,aaS]at hK⊢
     exact⟨⟨hs,hz,g2,g3,by unfold most at h4;omega⟩,hK⟩
    ·cases h
   ·cases h
  ·cases h
 ·rename_i n harg
  split at h
  ·rename_i te e xs hown
   obtain⟨hk,h⟩:=aG h
   refine aY h λK hK=> ?_
   simp only[bN,ho,hc,fp,harg,encL,aL,bC,dJ hown]at hK⊢
   exact⟨hk,hK⟩
  ·cases h
 ·rename_i n ki l harg
  split at h
  ·rename_i te xs pt it hown htys
   obtain⟨⟨h1,h2,h3⟩,h⟩:=aG h
   obtain⟨⟨h4,h5⟩,h⟩:=aG h
   have hp:P.underlying pt=some (.pointer te):=by
    unfold DW at h1
    split at h1
    ·rename_i e' he;rw[abw h1]at he;exact he
    ·cases h1
   refine Jr (λ_ _=>by simp[aL]) h (eh hown) λK hK=> ?_
   simp only[bN,ho,hc,fp,harg,encL,aL,bC,dJ hown,htys,aaS]at hK⊢
   erw[oV]
   exact⟨⟨hp,h2,rfl,h3,h4,by unfold most at h5;subst h4;show(xs.length:Int)<=1000000000000;omega⟩,hK⟩
  ·cases h
 ·cases h
theorem zK(hcall:bH P call)(hf:∀te,k te=some r->∀d∈te.new,S.fresh d=true)(h:tx V P nm call ex o S k=some r):OpS ex P nm o S k r:=by
 cases ho:o.op with
 |move x=>exact Gw (.inl ho) h
 |assign x=>exact Gw (.inr ho) h
 |pick c x y=>exact O9 ho h
 |alloc t=>exact Ke ho h
 |box t x=>exact SY ho hf h
 |load t x=>exact O7 ho h
 |store t x y=>exact Km ho h
 |nilCheck x=>exact xR ho h
 |binOp op t x y t'=>exact Kf ho h
 |unOp op t x=>exact O_ ho h
 |convert s t x=>exact B7 ho h
 |build t ps=>exact Kg ho h
 |buildSlice t n ps=>exact tw ho h
 |fieldAddr s x f=>exact vy ho h
 |field s x f=>exact Ki ho h
 |indexAddr t x i=>exact vz ho h
 |index t x i=>exact Kj ho h
 |slice t x lo hi mx=>exact Kl ho h
 |extract x i=>exact B8 ho h
 |makeFunc fn a b=>exact xQ ho h
 |makeInterface t x=>exact ng ho h
 |makeSlice t l c=>exact vA ho h
 |makeMap t c=>exact B9 ho h
 |range t x=>exact Kk ho h
 |next x b=>exact O8 ho h
 |entry x=>exact Kh ho h
 |lookup t x i c=>exact Gv ho h
 |mapUpdate t x i y=>exact Mj (λρ ω K hh=>by simpa only[bN,ho]using hh) (by simpa only[tx,ho]using h)
 |insert t x i y=>exact Mj (λρ ω K hh=>by simpa only[bN,ho]using hh) (by simpa only[tx,ho]using h)
 |call c=>
  cases hc:c.callee with
  |value f=>exact O6 hcall ho hc h
  |builtin b=>exact B6 ho hc h
  |invoke x m=>simp only[tx,ho,hc]at h;cases h
 |_=>simp only[tx,ho]at h;cases h
end
end Go.Tx
end
section
namespace Go.Tx
open Go.Awp
variable [Inhabited GMem]
inductive Pt (ι:Type)where
 |dat (t:Ty ι)
 |bp (c off:Nat)
 |vh (c:Nat)
 |mp (c:Nat)
 |np (c:Nat)
 |nif
 |fn (f:Nat) (a b:List Nat)
 |ag (cs:List (Ty ι⊕Nat))
 |sv (c sz:Nat)
inductive OPt (ι:Type)where
 |box (o:Option TypeId) (cells:List (Pt ι))
 |st (i:ι)
 |vec (te:TypeId) (e:Ty ι)
 |map (k v:Ty ι)
 |iter
 |miter (m:Nat) (k v:Ty ι)
 |que (te:TypeId) (e:Ty ι)
 |maps (te:TypeId) (k v:Ty ι)
 |bar (n:Nat) (e:Ty ι)
structure Cut (ι:Type)where
 slots:List (Nat×Pt ι)
 objs:List (Nat×OPt ι)
section
variable {ι:Type}
def MA:List (Ty ι⊕Nat)->List (Ty ι)
 |[]=>[]
 | .inl t::r=>t::MA r
 | .inr _::r=>MA r
def Pt.tys:Pt ι->List (Ty ι)
 | .dat t=>[t]
 | .ag cs=>MA cs
 | .np _=>[.bool]
 | .sv _ _=>[.int .i64, .int .i64]
 |_=>[]
def Fz:List (Pt ι)->List (Ty ι)
 |[]=>[]
 |p::r=>p.tys++Fz r
def Gi:List (Nat×Pt ι)->List (Ty ι)
 |[]=>[]
 |p::r=>p.2.tys++Gi r
def OPt.tys:OPt ι->List (Ty ι)
 | .box _ cells=>Fz cells
 | .st i=>[.st i]
 | .vec _ e=>[.sl e]
 | .map k v=>[.mp k v]
 | .iter=>[.str, .int .i64]
 | .miter _ k v=>[.mp k v, .mp k v]
 | .que _ e=>[.sl e]
 | .maps _ k v=>[.sl (.op (.mp k v))]
 | .bar n e=>[.ar n e]
def E_:List (Nat×OPt ι)->List (Ty ι)
 |[]=>[]
 |p::r=>p.2.tys++E_ r
def Cut.tys(c:Cut ι):List (Ty ι):=Gi c.slots++E_ c.objs
@[reducible] def HL (N:ι->Type):List (Ty ι)->Type
 |[]=>Unit
 |t::r=>den N t×HL N r
def Rr{N:ι->Type}:(ts:List (Ty ι))->HL N ts->List (dW N)
 |[],_=>[]
 |t::r,v=>⟨t,v.1⟩::Rr r v.2
def Mi[DecidableEq ι]{N:ι->Type}:(ts:List (Ty ι))->List (dW N)->Option (HL N ts)
 |[],[]=>some ()
 |t::r,l::ls=>if h:l.t=t then match Mi r ls with
  |some v=>some (h▸l.x,v)
  |none=>none
  else none
 |_,_=>none
theorem tq[DecidableEq ι]{N:ι->Type}:∀{ts:List (Ty ι)} {ls:List (dW N)} {v:HL N ts},Mi ts ls=some v->Rr ts v=ls
 |[],[],v,_=>rfl
 |[],_::_,v,h=>by simp[Mi]at h
 |_::_,[],v,h=>by simp[Mi]at h
 |t::r,l::ls,v,h=>by
  simp only[Mi]at h
  split at h
  ·rename_i ht
   split at h
   ·rename_i w hw
    obtain⟨lt,lx⟩:=l
    simp only at ht
    subst ht
    simp at h;subst h
    simp[Rr,tq hw]
   ·cases h
  ·cases h
abbrev dz:=List (Nat×Nat)
def nZ(σ:dz)(c n:Nat):Option dz:=match gt σ c with
 |some m=>if m=n then some σ else none
 |none=>if σ.any (λp=>abI p.2 n)=true then none else some ((c,n)::σ)
def tD{N:ι->Type}(σ:dz):List Nat->List (TV N)->Option dz
 |[],[]=>some σ
 |c::r, .bp n 0::s=>match nZ σ c n with
  |some σ'=>tD σ' r s
  |none=>none
 |_,_=>none
end
section
variable (V:iF)
def mtC(σ:dz):List (Ty V.ι⊕Nat)->List (TV V.N)->Option (dz×List (dW V.N))
 |[],[]=>some (σ,[])
 | .inl t::r,x::s=>match md V false t x with
  |some l=>match mtC σ r s with
   |some (σ',ls)=>some (σ',l::ls)
   |none=>none
  |none=>none
 | .inr c::r, .vh n::s=>match nZ σ c n with
  |some σ'=>mtC σ' r s
  |none=>none
 |_,_=>none
def mt1(σ:dz):Pt V.ι->TV V.N->Option (dz×List (dW V.N))
 | .dat t, .lf t' x=>if t'=t then some (σ,[⟨t',x⟩])else none
 | .dat (.sl e), .raw (.slice none 0 0)=>some (σ,[⟨.sl e,[]⟩])
 | .dat .er, .raw .nilIface=>some (σ,[⟨.er,false⟩])
 | .dat (.st i), .agg cs=>match mkV V false (some (.st i)) cs with
  | .lf t x=>some (σ,[⟨t,x⟩])
  |_=>none
 | .bp c off, .bp n off'=>if off=off' then(nZ σ c n).map λσ'=>(σ',[])else none
 | .vh c, .vh n=>(nZ σ c n).map λσ'=>(σ',[])
 | .mp c, .mp n=>(nZ σ c n).map λσ'=>(σ',[])
 | .np c, .np n b=>(nZ σ c n).map λσ'=>(σ',[⟨.bool,b⟩])
 | .np c, .bp n 0=>(nZ σ c n).map λσ'=>(σ',[⟨.bool,true⟩])
 | .np _, .raw (.pointer none)=>some (σ,[⟨.bool,false⟩])
 | .nif, .raw .nilIface=>some (σ,[])
 | .dat (.op e), .raw (.pointer none)=>some (σ,[⟨.op e,none⟩])
 | .sv c z, .sv n s i off=>if s=z then(nZ σ c n).map λσ'=>(σ',[⟨.int .i64,(i:Int)⟩,⟨.int .i64,(off:Int)⟩])else none
 | .fn f a b, .fn f' a' b'=>if f=f' then match tD σ a a' with
   |some σ'=>(tD σ' b b').map λσ''=>(σ'',[])
   |none=>none
  else none
 | .ag cs, .agg vs=>mtC V σ cs vs
 |_,_=>none
def mtL(σ:dz):List (Pt V.ι)->List (TV V.N)->Option (dz×List (dW V.N))
 |[],[]=>some (σ,[])
 |p::r,x::s=>match mt1 V σ p x with
  |some (σ',l)=>match mtL σ' r s with
   |some (σ'',l')=>some (σ'',l++l')
   |none=>none
  |none=>none
 |_,_=>none
def mtO(S:TS V.N)(σ:dz):List (Nat×OPt V.ι)->Option (dz×List (dW V.N))
 |[]=>some (σ,[])
 |(c,p)::r=>match gt σ c with
  |some n=>match p,S.own? n with
   | .box o ps,some (.box o' cells)=>if o=none\/o=o' then match mtL V σ ps cells with
    |some (σ',l)=>match mtO S σ' r with
     |some (σ'',l')=>some (σ'',l++l')
     |none=>none
    |none=>none
    else none
   | .st i,some (.box _ cells)=>match mkV V false (some (.st i)) cells with
    | .lf (.st j) x=>match mtO S σ r with
     |some (σ'',l')=>some (σ'',⟨.st j,x⟩::l')
     |none=>none
    |_=>none
   | .st i,some (.bst j x)=>if i=j then match mtO S σ r with
     |some (σ'',l')=>some (σ'',⟨.st j,x⟩::l')
     |none=>none
    else none
   | .box none ps,some (.bst j x)=>match mtL V σ ps ((V.cells j x).map λl=> .lf l.t l.x)with
    |some (σ',l)=>match mtO S σ' r with
     |some (σ'',l')=>some (σ'',l++l')
     |none=>none
    |none=>none
   | .vec te e,some (.vec te' e' xs)=>if te=te'/\e=e' then match mtO S σ r with
     |some (σ'',l')=>some (σ'',⟨.sl e',xs⟩::l')
     |none=>none
    else none
   | .iter,some (.iter s p)=>match mtO S σ r with
     |some (σ'',l')=>some (σ'',⟨.str,s⟩::⟨.int .i64,p⟩::l')
     |none=>none
   | .miter cm tk tv,some (.miter m tk' tv' es rest _)=>if tk=tk'/\tv=tv' then match nZ σ cm m with
     |some σ'=>match mtO S σ' r with
      |some (σ'',l')=>some (σ'',⟨.mp tk' tv',es⟩::⟨.mp tk' tv',rest⟩::l')
      |none=>none
     |none=>none
    else none
   | .map tk tv,some (.map tk' tv' es)=>if tk=tk'/\tv=tv' then match mtO S σ r with
     |some (σ'',l')=>some (σ'',⟨.mp tk' tv',es⟩::l')
     |none=>none
    else none
   | .que te e,some (.que te' e' xs)=>if te=te'/\e=e' then match mtO S σ r with
     |some (σ'',l')=>some (σ'',⟨.sl e',xs⟩::l')
     |none=>none
    else none
   | .maps te tk tv,some (.maps te' tk' tv' es _)=>if te=te'/\tk=tk'/\tv=tv' then match mtO S σ r with
     |some (σ'',l')=>some (σ'',⟨.sl (.op (.mp tk' tv')),es⟩::l')
     |none=>none
    else none
   | .bar m e,some (.bar m' e' xs)=>if m=m'/\e=e' then match mtO S σ r with
     |some (σ'',l')=>some (σ'',⟨.ar m' e',xs⟩::l')
     |none=>none
    else none
   |_,_=>none
  |none=>none
def bdC:List (Ty V.ι⊕Nat)->List (dW V.N)->Option (List (TV V.N)×List (dW V.N))
 |[],ls=>some ([],ls)
 | .inl _::r,l::ls=>match bdC r ls with
  |some (vs,ls')=>some (.lf l.t l.x::vs,ls')
  |none=>none
 | .inl _::_,[]=>none
 | .inr c::r,ls=>match bdC r ls with
  |some (vs,ls')=>some (.vh c::vs,ls')
  |none=>none
def bd1:(p:Pt V.ι)->List (dW V.N)->Option (TV V.N×List (dW V.N))
 | .dat _,l::ls=>some (.lf l.t l.x,ls)
 | .dat _,[]=>none
 | .bp c off,ls=>some (.bp c off,ls)
 | .vh c,ls=>some (.vh c,ls)
 | .mp c,ls=>some (.mp c,ls)
 | .np c,⟨.bool,b⟩::ls=>some (.np c b,ls)
 | .np _,_=>none
 | .nif,ls=>some (.raw .nilIface,ls)
 | .sv c z,⟨.int .i64,i⟩::⟨.int .i64,off⟩::ls=>some (.sv c z i.toNat off.toNat,ls)
 | .sv _ _,_=>none
 | .fn f a b,ls=>some (.fn f (a.map λc=> .bp c 0) (b.map λc=> .bp c 0),ls)
 | .ag cs,ls=>match bdC V cs ls with
  |some (vs,ls')=>some (.agg vs,ls')
  |none=>none
def bdL:List (Pt V.ι)->List (dW V.N)->Option (List (TV V.N)×List (dW V.N))
 |[],ls=>some ([],ls)
 |p::r,ls=>match bd1 V p ls with
  |some (x,ls')=>match bdL r ls' with
   |some (xs,ls'')=>some (x::xs,ls'')
   |none=>none
  |none=>none
def bdO:List (Nat×OPt V.ι)->List (dW V.N)->Option (List (Nat×TO V.N))
 |[],[]=>some []
 |[],_::_=>none
 |(c, .box o ps)::r,ls=>match bdL V ps ls with
  |some (xs,ls')=>match bdO r ls' with
   |some os=>some ((c, .box o xs)::os)
   |none=>none
  |none=>none
 |(c, .st i)::r,⟨.st j,x⟩::ls=>if j=i then match bdO r ls with
    |some os=>some ((c, .bst j x)::os)
    |none=>none
  else none
 |(c, .vec te e)::r,⟨.sl e',xs⟩::ls=>if e'=e then match bdO r ls with
    |some os=>some ((c, .vec te e' xs)::os)
    |none=>none
  else none
 |(c, .iter)::r,⟨.str,s⟩::⟨.int .i64,p⟩::ls=>match bdO r ls with
    |some os=>some ((c, .iter s p)::os)
    |none=>none
 |(c, .miter cm tk tv)::r,⟨.mp tk' tv',es⟩::⟨.mp tk2 tv2,rest⟩::ls=>if h:(tk2=tk'/\tv2=tv')/\tk'=tk/\tv'=tv then match bdO r ls with
    |some os=>some ((c, .miter cm tk' tv' es (h.1.1▸h.1.2▸rest) none)::os)
    |none=>none
  else none
 |(c, .map tk tv)::r,⟨.mp tk' tv',es⟩::ls=>if tk'=tk/\tv'=tv then match bdO r ls with
    |some os=>some ((c, .map tk' tv' es)::os)
    |none=>none
  else none
 |(c, .que te e)::r,⟨.sl e',xs⟩::ls=>if e'=e then match bdO r ls with
    |some os=>some ((c, .que te e' xs)::os)
    |none=>none
  else none
 |(c, .maps te tk tv)::r,⟨.sl (.op (.mp tk' tv')),es⟩::ls=>if tk'=tk/\tv'=tv then match bdO r ls with
    |some os=>some ((c, .maps te tk' tv' es none)::os)
    |none=>none
  else none
 |(c, .bar m e)::r,⟨.ar m' e',xs⟩::ls=>if m'=m/\e'=e then match bdO r ls with
    |some os=>some ((c, .bar m' e' xs)::os)
    |none=>none
  else none
 |_,_=>none
def build(c:Cut V.ι)(ls:List (dW V.N)):TS V.N:=match bdL V (c.slots.map (·.2)) ls with
 |some (xs,ls')=>match bdO V c.objs ls' with
  |some os=>{tmps:=(c.slots.map (·.1)).zip xs,own:=os}
  |none=>{tmps:=[],own:=[]}
 |none=>{tmps:=[],own:=[]}
def fk(c:Cut V.ι)(v:HL V.N c.tys):TS V.N:=build V c (Rr c.tys v)
def LN(n:Nat)(e:Ty V.ι)(xs:List (den V.N e))(v:TV V.N):TV V.N:=match v with
 | .vh m=>if m=n then .lf (.sl e) xs else .vh m
 |v=>if TV.has n v=true then .junk else v
def Ui(n:Nat)(e:Ty V.ι)(xs:List (den V.N e))(v:TV V.N):TV V.N:=match v with
 | .agg cs=> .agg (cs.map (LN V n e xs))
 |v=>LN V n e xs v
def wF(n:Nat)(e:Ty V.ι)(xs:List (den V.N e)):TO V.N->TO V.N
 | .box o cells=> .box o (cells.map (LN V n e xs))
 |o=>o
def TS.frz(S:TS V.N)(n:Nat)(e:Ty V.ι)(xs:List (den V.N e)):TS V.N:=
 {tmps:=S.tmps.map λp=>(p.1,Ui V n e xs p.2),own:=(n, .gone xs.length)::S.own.map λp=>(p.1,wF V n e xs p.2)}
def Ng(S:TS V.N)(v:TV V.N):TS V.N:=match v with
 | .vh n=>match S.own? n with
  |some (.vec _ e xs)=>S.frz V n e xs
  |_=>S
 |_=>S
def frzL(S:TS V.N):List (TV V.N)->TS V.N
 |[]=>S
 |v::r=>frzL (Ng V S v) r
def Gz:List (Ty V.ι⊕Nat)->List (TV V.N)->List (TV V.N)
 | .inl _::r,v::s=>v::Gz r s
 | .inr _::r,_::s=>Gz r s
 |_,_=>[]
def Pd:Pt V.ι->TV V.N->List (TV V.N)
 | .dat _, .vh n=>[.vh n]
 | .dat _, .agg cs=>cs
 | .ag cs, .agg vs=>Gz V cs vs
 |_,_=>[]
def TH(_:Bool)(te:TypeId)(e:Ty V.ι):TO V.N:= .vec te e []
def E9(dv:Bool)(te:TypeId)(e:Ty V.ι)(S:TS V.N)(t:Nat):TS V.N:=match gt S.tmps t with
 |some (.raw (.slice none 0 0))=>if S.fresh (60000+t)=true/\aci (60000+t) given=true then{tmps:=(t, .vh (60000+t))::S.tmps,own:=(60000+t,TH V dv te e)::S.own}else S
 |_=>S
def zd(dv:Bool)(te:TypeId)(e:Ty V.ι)(S:TS V.N)(b i:Nat):TS V.N:=match S.own? b with
 |some (.box o cells)=>match cells[i]? with
  |some (.raw (.slice none 0 0))=>if S.fresh (70000+S.own.length)=true/\aci (70000+S.own.length) given=true then
   {tmps:=S.tmps,own:=(b, .box o (cells.set i (.vh (70000+S.own.length))))::(70000+S.own.length,TH V dv te e)::S.own}else S
  |_=>S
 |_=>S
def cellAt(S:TS V.N)(b i:Nat):TV V.N:=match S.own? b with
 |some (.box _ cells)=>(cells[i]?).getD .junk
 |_=> .junk
def gc(objs:List (Nat×OPt V.ι))(b:Nat):Nat->List (Pt V.ι)->TS V.N->TS V.N
 |_,[],S=>S
 |i, .vh c::r,S=>match gt objs c with
  |some (.vec te e)=>gc objs b (i+1) r (zd V false te e S b i)
  |_=>gc objs b (i+1) r S
 |i, .dat ty::r,S=>gc objs b (i+1) r (frzL V S (Pd V (.dat ty) (cellAt V S b i)))
 |i,_::r,S=>gc objs b (i+1) r S
def Fr(objs:List (Nat×OPt V.ι))(c b:Nat)(S:TS V.N):TS V.N:=match gt objs c with
 |some (.box _ ps)=>gc V objs b 0 ps S
 |some (.st _)=>match S.own? b with
  |some (.box _ cells)=>frzL V S cells
  |_=>S
 |_=>S
def LW:Pt V.ι->TV V.N->List (Nat×Nat)
 | .bp c _, .bp n _=>[(c,n)]
 | .mp c, .mp n=>[(c,n)]
 | .fn _ a b, .fn _ a' b'=>(a++b).zip ((a'++b').map λv=>match v with
  | .bp n _=>n
  |_=>0)
 |_,_=>[]
def LX:List (Pt V.ι)->List (TV V.N)->List (Nat×Nat)
 |p::ps,v::vs=>LW V p v++LX ps vs
 |_,_=>[]
def Rt(objs:List (Nat×OPt V.ι))(S:TS V.N)(c b:Nat):List (Nat×Nat):=match gt objs c,S.own? b with
 |some (.box _ ps),some (.box _ cells)=>LX V ps cells
 |_,_=>[]
def Po(objs:List (Nat×OPt V.ι)):Nat->List (Nat×Nat)->TS V.N->TS V.N
 |0,_,S=>S
 |_,[],S=>S
 |m+1,(c,b)::r,S=>Po objs m (r++Rt V objs S c b) (Fr V objs c b S)
def uW(objs:List (Nat×OPt V.ι))(S:TS V.N):List (Nat×Pt V.ι)->TS V.N
 |[]=>S
 |(t, .vh c)::r=>match gt objs c with
  |some (.vec te e)=>uW objs (E9 V false te e S t) r
  |_=>uW objs S r
 |(t, .dat ty)::r=>uW objs (frzL V S (Pd V (.dat ty) (S.get t))) r
 |(t, .ag cs)::r=>uW objs (frzL V S (Pd V (.ag cs) (S.get t))) r
 |_::r=>uW objs S r
def Ux(objs:List (Nat×OPt V.ι))(S:TS V.N)(slots:List (Nat×Pt V.ι)):TS V.N:=match objs with
 |[]=>uW V objs S slots
 |_=>Po V objs (4 *objs.length) (slots.flatMap λp=>LW V p.2 (S.get p.1)) (uW V objs S slots)
def Nd(c:Cut V.ι)(S:TS V.N):Option (dz×List (dW V.N)):=match mtL V [] (c.slots.map (·.2)) (c.slots.map λp=>S.get p.1)with
 |some (σ,l)=>match mtO V S σ c.objs with
  |some (σ',l')=>some (σ',l++l')
  |none=>none
 |none=>none
def vH(objs:List (Nat×OPt V.ι)):Pt V.ι->Bool
 | .vh c=>objs.any λp=>abI p.1 c
 | .ag cs=>cs.all λx=>match x with
  | .inr c=>objs.any λp=>abI p.1 c
  | .inl _=>true
 |_=>true
def Fa(c:Cut V.ι)(σ:dz):Bool:=σ.all (λp=>aci p.1 given||abI p.1 p.2)&&c.slots.all (λp=>vH V c.objs p.2)&&c.objs.all (λp=>match p.2 with
 | .box _ ps=>ps.all (vH V c.objs)
 |_=>true)
def DA(c:Cut V.ι)(S:TS V.N):Option (HL V.N c.tys):=match Nd V c (Ux V c.objs S c.slots)with
 |some (σ,ls)=>if Fa V c σ=true then Mi c.tys ls else none
 |none=>none
end
end Go.Tx
end
section
namespace Go.Tx
open Go.Awp
variable [Inhabited GMem]
def Sub(σ σ':dz):Prop:=∀c n,gt σ c=some n->gt σ' c=some n
theorem Sub.refl(σ:dz):Sub σ σ:=λ_ _ h=>h
theorem Sub.trans{a b c:dz}(h:Sub a b)(k:Sub b c):Sub a c:=λx n hx=>k x n (h x n hx)
def Inj(σ:dz):Prop:=∀c c' n,gt σ c=some n->gt σ c'=some n->c=c'
theorem dA{σ σ':dz}{c n:Nat}(h:nZ σ c n=some σ'):Sub σ σ'/\gt σ' c=some n/\(Inj σ->Inj σ'):=by
 unfold nZ at h
 split at h
 ·rename_i m hm
  split at h
  ·rename_i e;cases h;subst e;exact⟨Sub.refl _,hm,id⟩
  ·cases h
 ·rename_i hc
  split at h
  ·cases h
  ·rename_i hn
   cases h
   have hn':∀x,gt σ x≠some n:=λx hx=>by
    apply hn
    rw[abM]
    exact⟨(x,n),cV hx,by simp⟩
   refine⟨λx m hx=> ?_,by simp[aH],λhi x y m hx hy=> ?_⟩
   ·rw[aH]
    by_cases e:c=x
    ·subst e;rw[hc]at hx;cases hx
    ·rw[aeo e];exact hx
   ·rw[aH]at hx hy
    by_cases e:c=x<;>by_cases e':c=y
    ·rw[<-e,<-e']
    ·rw[aep e]at hx;rw[aeo e']at hy;cases hx;exact(hn' _ hy).elim
    ·rw[aep e']at hy;rw[aeo e]at hx;cases hy;exact(hn' _ hx).elim
    ·rw[aeo e]at hx;rw[aeo e']at hy;exact hi x y m hx hy
section
variable {V:iF}
theorem H.le.nil(sz:Nat):H.le (.d (.v (.slice none 0 0))) (.d (.sl sz [])):=H.le.d (D.le.nil sz)
structure Tr (σ:dz) (objs:List (Nat×OPt V.ι)) (E E':Env) (ω ω':Nat->Nat):Prop where
 env:∀c n,gt σ c=some n->E' c=E n
 len:∀c n,(objs.any λp=>abI p.1 c)=true->gt σ c=some n->ω' c=ω n
theorem jQ:∀{l:List Nat} {vs:List (TV V.N)} {σ σ':dz},tD σ l vs=some σ'->Sub σ σ'/\(Inj σ->Inj σ')/\l.length=vs.length/\
 ∀(i:Nat) (c:Nat) (v:TV V.N),l[i]?=some c->vs[i]?=some v->∃n,v= .bp n 0/\gt σ' c=some n
 |[],[],σ,σ',h=>by simp[tD]at h;subst h;exact⟨Sub.refl _,id,rfl,λi c v hc=>by simp at hc⟩
 |[],_::_,σ,σ',h=>by simp[tD]at h
 |_::_,[],σ,σ',h=>by simp[tD]at h
 |c::r,v::s,σ,σ',h=>by
  unfold tD at h
  split at h
  ·rename_i heq1 heq2;cases heq1
  ·rename_i c' r' n s' heq1 heq2
   simp only[abD]at heq1 heq2
   obtain⟨rfl,rfl⟩:=heq1
   obtain⟨rfl,rfl⟩:=heq2
   split at h
   ·rename_i σ1 h1
    obtain⟨a1,a2,a3⟩:=dA h1
    obtain⟨b1,b2,b3,b4⟩:=jQ h
    refine⟨a1.trans b1,λhi=>b2 (a3 hi),by simp[b3],λi x w hx hw=> ?_⟩
    cases i with
    |zero=>simp at hx hw;subst hx;subst hw;exact⟨n,rfl,b1 _ _ a2⟩
    |succ i=>exact b4 i x w (by simpa using hx) (by simpa using hw)
   ·cases h
  ·cases h
theorem Cy{E E':Env}{M:Mem}{σ:dz}{ω ω':Nat->Nat}(hE:∀c n,gt σ c=some n->E' c=E n){l:List Nat}{vs:List (TV V.N)}(hl:l.length=vs.length)
 (h:∀(i:Nat) (c:Nat) (v:TV V.N),l[i]?=some c->vs[i]?=some v->∃n,v= .bp n 0/\gt σ c=some n){av:Array Value}
 (hs:av.size=(encL V ω vs).length)(hr:∀(i:Nat) (c:Value) (x:H),av[i]?=some c->(encL V ω vs)[i]?=some x->bO E M c x):
 av.size=(encL V ω' (l.map λc=>(.bp c 0:TV V.N))).length/\∀(i:Nat) (c:Value) (x:H),av[i]?=some c->(encL V ω' (l.map λc=>(.bp c 0:TV V.N)))[i]?=some x->bO E' M c x:=by
 rw[bF]at hs
 refine⟨by rw[bF,aaS];omega,λi c x hc hx=> ?_⟩
 simp only[aU,aaR,Option.map_map]at hx
 cases hli:l[i]? with
 |none=>rw[hli]at hx;cases hx
 |some k=>
  rw[hli]at hx
  simp[aL]at hx;subst hx
  have hi:i<vs.length:=by rw[<-hl];exact(aaP.1 hli).1
  obtain⟨n,hv,hn⟩:=h i k _ hli (aaO hi)
  have:=hr i c (.bp n 0) hc (by rw[aU,aaR,aaO hi,hv];simp[aL])
  cases this with
  |bp _ off b hb=>exact .bp k 0 b (by rw[hE k n hn];exact hb)
theorem o_:∀{cs:List (Ty V.ι⊕Nat)} {vs:List (TV V.N)} {σ σ1:dz} {l:List (dW V.N)},mtC V σ cs vs=some (σ1,l)->Sub σ σ1/\(Inj σ->Inj σ1)/\
 ∃vs':List (TV V.N),vs'.length=vs.length/\(∀rest,bdC V cs (l++rest)=some (vs',rest))/\∀(i:Nat) (v v':TV V.N),vs[i]?=some v->vs'[i]?=some v'->
  ∀(τ:dz) (objs:List (Nat×OPt V.ι)) (E E':Env) (M:Mem) (ω ω':Nat->Nat) (a:Value),Sub σ1 τ->vH V objs (.ag cs)=true->Tr τ objs E E' ω ω'->bO E M a (aL V ω v)->bO E' M a (aL V ω' v')
 |[],[],σ,σ1,l,h=>by
  simp[mtC]at h;obtain⟨rfl,rfl⟩:=h
  exact⟨Sub.refl _,id,[],rfl,λrest=>rfl,λi v v' hv=>by simp at hv⟩
 |[],_::_,σ,σ1,l,h=>by simp[mtC]at h
 |_::_,[],σ,σ1,l,h=>by unfold mtC at h;split at h<;>first|(cases h;done)|contradiction
 | .inl t::r,x::s,σ,σ1,l,h=>by
  simp only[mtC]at h
  split at h
  ·rename_i l0 hl
   split at h
   ·rename_i σ' ls h2
    simp at h;obtain⟨rfl,rfl⟩:=h
    obtain⟨b1,b2,vs',b4,b5,b6⟩:=o_ h2
    refine⟨b1,b2, .lf l0.t l0.x::vs',by simp[b4],λrest=> ?_,λi w w' hw hw' τ objs E E' M ω ω' a hs hv ht hr=> ?_⟩
    ·simp only[abF,bdC,b5]
    ·cases i with
     |zero=>
      simp at hw hw';subst hw;subst hw'
      have hls:dC V false [t] [x]=some [l0]:=by simp[dC,hl]
      obtain⟨ds,e1,e2,_⟩:=dc (ω:=ω) hls
      simp only[encL]at e1
      obtain⟨d,hd⟩:∃d,ds=[d]:=by
       match ds,e1 with
       |[d],_=>exact⟨d,rfl⟩
       |[],e1=>simp at e1
       |_::_::_,e1=>simp at e1
      subst hd
      simp only[aaY,abE,abD,and_true]at e1
      rw[e1]at hr
      simp only[aL]
      obtain⟨d0,g1,g2⟩:=e2.get 0 (bC V.sz V.enc l0.t l0.x) rfl
      simp at g1;subst g1
      cases hr with
      |d q=>exact .d (g2 M a q)
     |succ i=>
      refine b6 i w w' (by simpa using hw) (by simpa using hw') τ objs E E' M ω ω' a hs ?_ ht hr
      simp only[vH,ab1,aaT]at hv⊢;exact hv.2
   ·cases h
  ·cases h
 | .inr c::r,x::s,σ,σ1,l,h=>by
  unfold mtC at h
  split at h
  ·rename_i heq _;cases heq
  ·rename_i heq _;simp at heq
  ·rename_i c' r' n s' heq1 heq2
   simp only[abD,Sum.inr.injEq]at heq1 heq2
   obtain⟨rfl,rfl⟩:=heq1
   obtain⟨rfl,rfl⟩:=heq2
   split at h
   ·rename_i σ' hb
    obtain⟨a1,a2,a3⟩:=dA hb
    obtain⟨b1,b2,vs',b4,b5,b6⟩:=o_ h
    refine⟨a1.trans b1,λhi=>b2 (a3 hi), .vh c::vs',by simp[b4],λrest=> ?_,λi w w' hw hw' τ objs E E' M ω ω' a hs hv ht hr=> ?_⟩
    ·simp only[bdC,b5]
    ·simp only[vH,ab1,aaT]at hv
     cases i with
     |zero=>
      simp at hw hw';subst hw;subst hw'
      simp only[aL]at hr⊢
      rw[ht.len c n hv.1 (hs _ _ (b1 _ _ a2))]
      cases hr with
      |vh _ len l cc ad hE hl=>exact .vh c _ l cc ad (by rw[ht.env c n (hs _ _ (b1 _ _ a2))];exact hE) hl
     |succ i=>
      refine b6 i w w' (by simpa using hw) (by simpa using hw') τ objs E E' M ω ω' a hs ?_ ht hr
      simp only[vH];exact hv.2
   ·cases h
  ·cases h
theorem o9{σ σ1:dz}{p:Pt V.ι}{v:TV V.N}{l:List (dW V.N)}(h:mt1 V σ p v=some (σ1,l)):Sub σ σ1/\(Inj σ->Inj σ1)/\v≠ .junk/\
 ∃v',(∀rest,bd1 V p (l++rest)=some (v',rest))/\∀(τ:dz) (objs:List (Nat×OPt V.ι)) (E E':Env) (M:Mem) (ω ω':Nat->Nat) (a:Value),Sub σ1 τ->vH V objs p=true->Tr τ objs E E' ω ω'->
  bO E M a (aL V ω v)->bO E' M a (aL V ω' v'):=by
 unfold mt1 at h
 split at h
 ·rename_i t t' x
  obtain⟨rfl,h⟩:=aG h
  simp at h;obtain⟨rfl,rfl⟩:=h
  refine⟨Sub.refl _,id,by simp, .lf t' x,λrest=>rfl,λτ objs E E' M ω ω' a _ _ _ hr=> ?_⟩
  simp only[aL]at hr⊢
  exact hr.mono (Mem.le_refl _) λn hn=>by simp[H.has]at hn
 ·rename_i e
  simp at h;obtain⟨rfl,rfl⟩:=h
  refine⟨Sub.refl _,id,by simp, .lf (.sl e) [],λrest=>rfl,λτ objs E E' M ω ω' a _ _ _ hr=> ?_⟩
  simp only[aL,cy,bC,abE]at hr⊢
  exact H.le.nil _ E' M a (hr.mono (Mem.le_refl _) λn hn=>by simp[H.has]at hn)
 ·simp at h;obtain⟨rfl,rfl⟩:=h
  refine⟨Sub.refl _,id,by simp, .lf .er false,λrest=>rfl,λτ objs E E' M ω ω' a _ _ _ hr=> ?_⟩
  simp only[aL,cy,bC]at hr⊢
  exact H.le.d D.le.ern E' M a (hr.mono (Mem.le_refl _) λn hn=>by simp[H.has]at hn)
 ·rename_i i cs
  split at h
  ·rename_i t x hx
   simp at h;obtain⟨rfl,rfl⟩:=h
   refine⟨Sub.refl _,id,by simp, .lf t x,λrest=>rfl,λτ objs E E' M ω ω' a _ _ _ hr=> ?_⟩
   have hm:=(iY (V:=V) (ω:=ω) (ex:=false) (ot:=some (.st i)) (cs:=cs)).1
   rw[hx]at hm
   simp only[aL]at hr hm⊢
   exact(hm E M a hr).mono (Mem.le_refl _) λn hn=>by simp[H.has]at hn
  ·cases h
 ·rename_i c off n off'
  have h':=aG h;clear h
  obtain⟨e,h⟩:=h'
  subst e
  rw[aa0]at h
  obtain⟨σ',hb,h⟩:=h
  simp at h;obtain⟨rfl,rfl⟩:=h
  obtain⟨h1,h2,h3⟩:=dA hb
  refine⟨h1,h3,by simp, .bp c off,λrest=>rfl,λτ objs E E' M ω ω' a hs _ ht hr=> ?_⟩
  simp only[aL]at hr⊢
  cases hr with
  |bp _ _ b hb=>exact .bp c off b (by rw[ht.env c n (hs _ _ h2)];exact hb)
 ·rename_i c n
  rw[aa0]at h
  obtain⟨σ',hb,h⟩:=h
  simp at h;obtain⟨rfl,rfl⟩:=h
  obtain⟨h1,h2,h3⟩:=dA hb
  refine⟨h1,h3,by simp, .vh c,λrest=>rfl,λτ objs E E' M ω ω' a hs hv ht hr=> ?_⟩
  simp only[aL]at hr⊢
  rw[ht.len c n (by simpa[vH]using hv) (hs _ _ h2)]
  cases hr with
  |vh _ len l cc ad hE hl=>exact .vh c _ l cc ad (by rw[ht.env c n (hs _ _ h2)];exact hE) hl
 ·rename_i c n
  rw[aa0]at h
  obtain⟨σ',hb,h⟩:=h
  simp at h;obtain⟨rfl,rfl⟩:=h
  obtain⟨h1,h2,h3⟩:=dA hb
  refine⟨h1,h3,by simp, .mp c,λrest=>rfl,λτ objs E E' M ω ω' a hs _ ht hr=> ?_⟩
  simp only[aL]at hr⊢
  cases hr with
  |mp _ b hE=>exact .mp c b (by rw[ht.env c n (hs _ _ h2)];exact hE)
 ·rename_i c n b
  rw[aa0]at h
  obtain⟨σ',hb,h⟩:=h
  simp at h;obtain⟨rfl,rfl⟩:=h
  obtain⟨h1,h2,h3⟩:=dA hb
  refine⟨h1,h3,by simp, .np c b,λrest=>rfl,λτ objs E E' M ω ω' a hs _ ht hr=> ?_⟩
  simp only[aL]at hr⊢
  cases hr with
  |np0=>exact .np0 c
  |np1 _ b hE=>exact .np1 c b (by rw[ht.env c n (hs _ _ h2)];exact hE)
 ·rename_i c n
  rw[aa0]at h
  obtain⟨σ',hb,h⟩:=h
  simp at h;obtain⟨rfl,rfl⟩:=h
  obtain⟨h1,h2,h3⟩:=dA hb
  refine⟨h1,h3,by simp, .np c true,λrest=>rfl,λτ objs E E' M ω ω' a hs _ ht hr=> ?_⟩
  simp only[aL]at hr⊢
  cases hr with
  |bp _ _ b hE=>exact .np1 c b (by rw[ht.env c n (hs _ _ h2)];exact hE)
 ·rename_i c
  simp at h;obtain⟨rfl,rfl⟩:=h
  refine⟨Sub.refl _,id,by simp, .np c false,λrest=>rfl,λτ objs E E' M ω ω' a _ _ _ hr=> ?_⟩
  simp only[aL,cy]at hr⊢
  rw[hr.dv]
  exact .np0 c
 ·simp at h;obtain⟨rfl,rfl⟩:=h
  refine⟨Sub.refl _,id,by simp, .raw .nilIface,λrest=>rfl,λτ objs E E' M ω ω' a _ _ _ hr=> ?_⟩
  simp only[aL,cy]at hr⊢
  exact hr.mono (Mem.le_refl _) λn hn=>by simp[H.has]at hn
 ·rename_i e
  simp at h;obtain⟨rfl,rfl⟩:=h
  refine⟨Sub.refl _,id,by simp, .lf (.op e) none,λrest=>rfl,λτ objs E E' M ω ω' a _ _ _ hr=> ?_⟩
  simp only[aL,cy,bC,acX,opD]at hr⊢
  exact hr.mono (Mem.le_refl _) λn hn=>by simp[H.has]at hn
 ·rename_i c z n s i off
  have h':=aG h;clear h
  obtain⟨e,h⟩:=h'
  subst e
  rw[aa0]at h
  obtain⟨σ',hb,h⟩:=h
  simp at h;obtain⟨rfl,rfl⟩:=h
  obtain⟨h1,h2,h3⟩:=dA hb
  refine⟨h1,h3,by simp, .sv c s i off,λrest=>rfl,λτ objs E E' M ω ω' a hs _ ht hr=> ?_⟩
  simp only[aL]at hr⊢
  cases hr with
  |sv0 _ _ hE=>exact .sv0 c s (by rw[ht.env c n (hs _ _ h2)];exact hE)
  |sv _ _ _ _ g l cc hE hl=>exact .sv c s i off g l cc (by rw[ht.env c n (hs _ _ h2)];exact hE) hl
 ·rename_i f a b f' a' b'
  have h':=aG h;clear h
  obtain⟨e,h⟩:=h'
  subst e
  split at h
  ·rename_i σ' ha
   rw[aa0]at h
   obtain⟨σ'',hb,h⟩:=h
   simp at h;obtain⟨rfl,rfl⟩:=h
   obtain⟨a1,a2,a3,a4⟩:=jQ ha
   obtain⟨b1,b2,b3,b4⟩:=jQ hb
   refine⟨a1.trans b1,λhi=>b2 (a2 hi),by simp, .fn f (a.map λc=> .bp c 0) (b.map λc=> .bp c 0),λrest=>rfl,λτ objs E E' M ω ω' v hs _ ht hr=> ?_⟩
   simp only[aL]at hr⊢
   cases hr with
   |fn _ first captured l l' h1 h2 h3 h4=>
    obtain⟨x1,x2⟩:=Cy (V:=V) (ω':=ω') (λc n hc=>ht.env c n hc) a3 (λi c v hc hv=>by
     obtain⟨n,q1,q2⟩:=a4 i c v hc hv
     exact⟨n,q1,hs _ _ (b1 _ _ q2)⟩) h1 h3
    obtain⟨y1,y2⟩:=Cy (V:=V) (ω':=ω') (λc n hc=>ht.env c n hc) b3 (λi c v hc hv=>by
     obtain⟨n,q1,q2⟩:=b4 i c v hc hv
     exact⟨n,q1,hs _ _ q2⟩) h2 h4
    exact .fn f first captured _ _ x1 y1 x2 y2
  ·cases h
 ·rename_i cs vs
  obtain⟨b1,b2,vs',b4,b5,b6⟩:=o_ h
  refine⟨b1,b2,by simp, .agg vs',λrest=>by simp only[bd1,b5],λτ objs E E' M ω ω' a hs hv ht hr=> ?_⟩
  simp only[aL]at hr⊢
  have h1:=kI _ E M a hr
  obtain⟨xs,rfl,h2,h3⟩:=h1.hagg
  refine sJ _ E' M _ (.agg xs _ (by rw[bF]at h2⊢;omega) λi c x hc hx=> ?_)
  rw[aU,aaR,aa0]at hx
  obtain⟨v',hv',rfl⟩:=hx
  have hi:i<vs.length:=by rw[<-b4];exact(aaP.1 hv').1
  exact b6 i _ v' (aaO hi) hv' τ objs E E' M ω ω' c hs hv ht (h3 i c _ hc (by rw[aU,aaR,aaO hi];rfl))
 ·cases h
theorem iZ:∀{ps:List (Pt V.ι)} {vs:List (TV V.N)} {σ σ1:dz} {l:List (dW V.N)},mtL V σ ps vs=some (σ1,l)->Sub σ σ1/\(Inj σ->Inj σ1)/\ps.length=vs.length/\
 ∃vs':List (TV V.N),vs'.length=vs.length/\(∀rest,bdL V ps (l++rest)=some (vs',rest))/\∀(i:Nat) (v v':TV V.N),vs[i]?=some v->vs'[i]?=some v'->v≠ .junk/\
  ∀(τ:dz) (objs:List (Nat×OPt V.ι)) (E E':Env) (M:Mem) (ω ω':Nat->Nat) (a:Value),Sub σ1 τ->ps.all (vH V objs)=true->Tr τ objs E E' ω ω'->bO E M a (aL V ω v)->bO E' M a (aL V ω' v')
 |[],[],σ,σ1,l,h=>by
  simp[mtL]at h;obtain⟨rfl,rfl⟩:=h
  exact⟨Sub.refl _,id,rfl,[],rfl,λrest=>rfl,λi v v' hv=>by simp at hv⟩
 |[],_::_,σ,σ1,l,h=>by simp[mtL]at h
 |_::_,[],σ,σ1,l,h=>by simp[mtL]at h
 |p::r,v::s,σ,σ1,l,h=>by
  simp only[mtL]at h
  split at h
  ·rename_i σ' l1 h1
   split at h
   ·rename_i σ'' l2 h2
    simp at h;obtain⟨rfl,rfl⟩:=h
    obtain⟨a1,a2,a3,v',a4,a5⟩:=o9 h1
    obtain⟨b1,b2,b3,vs',b4,b5,b6⟩:=iZ h2
    refine⟨a1.trans b1,λhi=>b2 (a2 hi),by simp[b3],v'::vs',by simp[b4],λrest=> ?_,λi w w' hw hw'=> ?_⟩
    ·simp only[bdL,abW,a4,b5]
    ·cases i with
     |zero=>
      simp at hw hw';subst hw;subst hw'
      refine⟨a3,λτ objs E E' M ω ω' a hs hv ht hr=>a5 τ objs E E' M ω ω' a (b1.trans hs) ?_ ht hr⟩
      simp only[ab1,aaT]at hv;exact hv.1
     |succ i=>
      obtain⟨c1,c2⟩:=b6 i w w' (by simpa using hw) (by simpa using hw')
      refine⟨c1,λτ objs E E' M ω ω' a hs hv ht hr=>c2 τ objs E E' M ω ω' a hs ?_ ht hr⟩
      simp only[ab1,aaT]at hv;exact hv.2
   ·cases h
  ·cases h
theorem dj{S:TS V.N}:∀{objs:List (Nat×OPt V.ι)} {σ σ1:dz} {l:List (dW V.N)},mtO V S σ objs=some (σ1,l)->Sub σ σ1/\(Inj σ->Inj σ1)/\
 ∃os:List (Nat×TO V.N),os.length=objs.length/\bdO V objs l=some os/\(∀c o',(c,o')∈os->∃n o,gt σ1 c=some n/\S.own? n=some o/\TO.len (some o')=TO.len (some o)/\
  ∃x:(Nat->Nat)->Own,(∀ω,ct V ω o=some (x ω))/\∃x':(Nat->Nat)->Own,(∀ω,ct V ω o'=some (x' ω))/\
  (∀(τ:dz) (all:List (Nat×OPt V.ι)) (E E':Env) (M:Mem) (w:World) (ω ω':Nat->Nat),Sub σ1 τ->(∀p∈objs,match p.2 with| .box _ ps=>ps.all (vH V all)=true|_=>True)->Tr τ all E E' ω ω'->
    cq E M w n (x ω)->cq E' M w c (x' ω'))/\
  ∀(E E':Env) (M:Mem) (w:World) (ω ω':Nat->Nat) (b:Nat),cq E M w n (x ω)->E' c=E n->(x' ω').foot w (E' c) b->(x ω).foot w (E n) b)/\os.map (·.1)=objs.map (·.1)
 |[],σ,σ1,l,h=>by
  simp[mtO]at h;obtain⟨rfl,rfl⟩:=h
  exact⟨Sub.refl _,id,[],rfl,rfl,λc o' h=>by simp at h,rfl⟩
 |(c,p)::r,σ,σ1,l,h=>by
  simp only[mtO]at h
  split at h
  ·rename_i n hn
   split at h
   ·rename_i oo ps oo' cells hown
    have h':=aG h;clear h
    obtain⟨hoo,h⟩:=h'
    split at h
    ·rename_i σ' l1 h1
     split at h
     ·rename_i σ'' l2 h2
      simp at h;obtain⟨rfl,rfl⟩:=h
      obtain⟨a1,a2,a3,vs',a4,a5,a6⟩:=iZ h1
      obtain⟨b1,b2,os,b3,b4,b5,b6⟩:=dj h2
      refine⟨a1.trans b1,λhi=>b2 (a2 hi),(c, .box oo vs')::os,by simp[b3],by simp only[bdO,a5,b4],λc' o' hm=> ?_,by simp[b6]⟩
      rcases aa4.1 hm with he|hm
      ·simp only[abn]at he
       obtain⟨rfl,rfl⟩:=he
       refine⟨n, .box oo' cells,b1 _ _ (a1 _ _ hn),hown,rfl,λω=> .box oo' (encL V ω cells),λω=>rfl,λω=> .box oo (encL V ω vs'),λω=>rfl,λτ all E E' M w ω ω' hs hv ht ho=> ?_,λE E' M w ω ω' b _ he hb=>by rw[he]at hb;exact hb⟩
       have hv0:ps.all (vH V all)=true:=hv (c', .box oo ps) aa2
       obtain⟨b,cs,ty,k1,k2,k3,k4,k5,k6⟩:=ho
       rw[bF]at k3
       refine⟨b,cs,ty,by rw[ht.env c' n (hs _ _ (b1 _ _ (a1 _ _ hn)))];exact k1,k2,by rw[bF];omega,λi x y hx hy=> ?_,k5,λt htt=>by
        rcases hoo with hoo|hoo
        ·rw[hoo]at htt;cases htt
        ·rw[hoo]at htt;exact k6 t htt⟩
       simp only[aU,aaR]at hy
       cases hvi:vs'[i]? with
       |none=>rw[hvi]at hy;cases hy
       |some v'=>
        rw[hvi]at hy;simp at hy;subst hy
        have hi:i<cells.length:=by rw[<-a4];exact(aaP.1 hvi).1
        obtain⟨_,q⟩:=a6 i _ v' (aaO hi) hvi
        exact q τ all E E' M ω ω' x (b1.trans hs) hv0 ht (k4 i x _ hx (by rw[aU,aaR,aaO hi];rfl))
      ·obtain⟨n',o,q1,q2,q3,x,q4,x',q5,q6,q7⟩:=b5 c' o' hm
       exact⟨n',o,q1,q2,q3,x,q4,x',q5,λτ all E E' M w ω ω' hs hv ht ho=>q6 τ all E E' M w ω ω' hs (λp hp=>hv p (aaX _ hp)) ht ho,q7⟩
     ·cases h
    ·cases h
   ·rename_i i oty cells hown
    split at h
    ·rename_i j x hx
     split at h
     ·rename_i σ'' l2 h2
      simp at h;obtain⟨rfl,rfl⟩:=h
      obtain⟨b1,b2,os,b3,b4,b5,b6⟩:=dj h2
      have hmk:i=j/\∃ls,dC V false (V.tys i) cells=some ls/\∃y:V.N i,V.ofCells i ls=some y/\(TV.lf (.st i) y:TV V.N)= .lf (.st j) x:=by
       unfold mkV at hx
       simp only at hx
       split at hx
       ·rename_i ls hls
        split at hx
        ·rename_i y hy
         have:i=j:=by cases hx;rfl
         exact⟨this,ls,hls,y,hy,hx⟩
        ·cases hx
       ·cases hx
      obtain⟨rfl,ls,hls,y,hy,he⟩:=hmk
      have he:y=x:=by cases he;rfl
      subst he
      refine⟨b1,b2,(c, .bst i y)::os,by simp[b3],by simp[bdO,b4],λc' o' hm=> ?_,by simp[b6]⟩
      rcases aa4.1 hm with he|hm
      ·simp only[abn]at he
       obtain⟨rfl,rfl⟩:=he
       refine⟨n, .box oty cells,b1 _ _ hn,hown,rfl,λω=> .box oty (encL V ω cells),λω=>rfl,λ_=> .box none ((V.enc i y).map .d),λω=>rfl,λτ all E E' M w ω ω' hs _ ht ho=> ?_,λE E' M w ω ω' b _ he hb=>by rw[he]at hb;exact hb⟩
       obtain⟨ds,e1,e2,_⟩:=dc (ω:=ω) hls
       obtain⟨b,cs,ty,k1,k2,k3,k4,k5,_⟩:=ho
       have hc:=V.of_cells i ls y hy
       have hnew:(V.enc i y).map H.d=(ls.map λl=>bC V.sz V.enc l.t l.x).map H.d:=by
        rw[V.enc_cells,hc]
       refine⟨b,cs,ty,by rw[ht.env c' n (hs _ _ (b1 _ _ hn))];exact k1,k2,?_,λi' a z ha hz=> ?_,k5,λt htt=>by cases htt⟩
       ·rw[k3,hnew,e1,aaS,aaS];exact e2.len
       ·rw[hnew,aaR]at hz
        cases hd:(ls.map λl=>bC V.sz V.enc l.t l.x)[i']? with
        |none=>rw[hd]at hz;cases hz
        |some d=>
         rw[hd]at hz;simp at hz;subst hz
         obtain⟨d0,g1,g2⟩:=e2.get i' d hd
         have:=k4 i' a (.d d0) ha (by rw[e1,aaR,g1];rfl)
         cases this with
         |d q=>exact .d (g2 M a q)
      ·obtain⟨n',o,q1,q2,q3,x,q4,x',q5,q6,q7⟩:=b5 c' o' hm
       exact⟨n',o,q1,q2,q3,x,q4,x',q5,λτ all E E' M w ω ω' hs hv ht ho=>q6 τ all E E' M w ω ω' hs (λp hp=>hv p (aaX _ hp)) ht ho,q7⟩
     ·cases h
    ·cases h
   ·rename_i i j x hown
    have h':=aG h;clear h
    obtain⟨e1,h⟩:=h'
    subst e1
    split at h
    ·rename_i σ'' l2 h2
     simp at h;obtain⟨rfl,rfl⟩:=h
     obtain⟨b1,b2,os,b3,b4,b5,b6⟩:=dj h2
     refine⟨b1,b2,(c, .bst i x)::os,by simp[b3],by simp[bdO,b4],λc' o' hm=> ?_,by simp[b6]⟩
     rcases aa4.1 hm with he|hm
     ·simp only[abn]at he
      obtain⟨rfl,rfl⟩:=he
      refine⟨n, .bst i x,b1 _ _ hn,hown,rfl,λ_=> .box none ((V.enc i x).map .d),λω=>rfl,λ_=> .box none ((V.enc i x).map .d),λω=>rfl,λτ all E E' M w ω ω' hs _ ht ho=> ?_,λE E' M w ω ω' b _ he hb=>by rw[he]at hb;exact hb⟩
      obtain⟨b,cs,ty,k1,k2,k3,k4,k5⟩:=ho
      refine⟨b,cs,ty,by rw[ht.env c' n (hs _ _ (b1 _ _ hn))];exact k1,k2,k3,λi' a z ha hz=> ?_,k5⟩
      have hq:=k4 i' a z ha hz
      rw[aaR,aa0]at hz
      obtain⟨d,_,rfl⟩:=hz
      exact hq.mono (Mem.le_refl _) λm hm=>by simp[H.has]at hm
     ·obtain⟨n',o,q1,q2,q3,x,q4,x',q5,q6,q7⟩:=b5 c' o' hm
      exact⟨n',o,q1,q2,q3,x,q4,x',q5,λτ all E E' M w ω ω' hs hv ht ho=>q6 τ all E E' M w ω ω' hs (λp hp=>hv p (aaX _ hp)) ht ho,q7⟩
    ·cases h
   ·rename_i ps j x hown
    split at h
    ·rename_i σ' l1 h1
     split at h
     ·rename_i σ'' l2 h2
      simp at h;obtain⟨rfl,rfl⟩:=h
      obtain⟨a1,a2,a3,vs',a4,a5,a6⟩:=iZ h1
      obtain⟨b1,b2,os,b3,b4,b5,b6⟩:=dj h2
      refine⟨a1.trans b1,λhi=>b2 (a2 hi),(c, .box none vs')::os,by simp[b3],by simp only[bdO,a5,b4],λc' o' hm=> ?_,by simp[b6]⟩
      rcases aa4.1 hm with he|hm
      ·simp only[abn]at he
       obtain⟨rfl,rfl⟩:=he
       refine⟨n, .bst j x,b1 _ _ (a1 _ _ hn),hown,rfl,λ_=> .box none ((V.enc j x).map .d),λω=>rfl,λω=> .box none (encL V ω vs'),λω=>rfl,λτ all E E' M w ω ω' hs hv ht ho=> ?_,λE E' M w ω ω' b _ he hb=>by rw[he]at hb;exact hb⟩
       have hv0:ps.all (vH V all)=true:=hv (c', .box none ps) aa2
       obtain⟨b,cs,ty,k1,k2,k3,k4,k5⟩:=ho
       rw[<-jR ω,bF]at k3
       refine⟨b,cs,ty,by rw[ht.env c' n (hs _ _ (b1 _ _ (a1 _ _ hn)))];exact k1,k2,by rw[bF];omega,λi x' y hx hy=> ?_,k5⟩
       simp only[aU,aaR]at hy
       cases hvi:vs'[i]? with
       |none=>rw[hvi]at hy;cases hy
       |some v'=>
        rw[hvi]at hy;simp at hy;subst hy
        have hi:i<((V.cells j x).map λl=>(.lf l.t l.x:TV V.N)).length:=by rw[<-a4];exact(aaP.1 hvi).1
        obtain⟨_,q⟩:=a6 i _ v' (aaO hi) hvi
        exact q τ all E E' M ω ω' x' (b1.trans hs) hv0 ht (k4 i x' _ hx (by rw[<-jR ω,aU,aaR,aaO hi];rfl))
      ·obtain⟨n',o,q1,q2,q3,x,q4,x',q5,q6,q7⟩:=b5 c' o' hm
       exact⟨n',o,q1,q2,q3,x,q4,x',q5,λτ all E E' M w ω ω' hs hv ht ho=>q6 τ all E E' M w ω ω' hs (λp hp=>hv p (aaX _ hp)) ht ho,q7⟩
     ·cases h
    ·cases h
   ·rename_i te e te' e' xs hown
    have h':=aG h;clear h
    obtain⟨⟨e1,e2⟩,h⟩:=h'
    subst e1;subst e2
    split at h
    ·rename_i σ'' l2 h2
     simp at h;obtain⟨rfl,rfl⟩:=h
     obtain⟨b1,b2,os,b3,b4,b5,b6⟩:=dj h2
     refine⟨b1,b2,(c, .vec te e xs)::os,by simp[b3],by simp[bdO,b4],λc' o' hm=> ?_,by simp[b6]⟩
     rcases aa4.1 hm with he|hm
     ·simp only[abn]at he
      obtain⟨rfl,rfl⟩:=he
      refine⟨n, .vec te e xs,b1 _ _ hn,hown,rfl,λ_=> .vec te (tsz V.sz e) (xs.map λx=>bY V.sz V.enc e x),λω=>rfl,λ_=> .vec te (tsz V.sz e) (xs.map λx=>bY V.sz V.enc e x),λω=>rfl,λτ all E E' M w ω ω' hs _ ht ho=> ?_,λE E' M w ω ω' b _ he hb=>by rw[he]at hb;exact hb⟩
      obtain⟨ys,k1,k2,k3,k4⟩:=ho
      have he:=ht.env c' n (hs _ _ (b1 _ _ hn))
      exact⟨ys,by rw[he];exact k1,k2,k3,by rw[he];exact k4⟩
     ·obtain⟨n',o,q1,q2,q3,x,q4,x',q5,q6,q7⟩:=b5 c' o' hm
      exact⟨n',o,q1,q2,q3,x,q4,x',q5,λτ all E E' M w ω ω' hs hv ht ho=>q6 τ all E E' M w ω ω' hs (λp hp=>hv p (aaX _ hp)) ht ho,q7⟩
    ·cases h
   ·rename_i s p hown
    split at h
    ·rename_i σ'' l2 h2
     simp at h;obtain⟨rfl,rfl⟩:=h
     obtain⟨b1,b2,os,b3,b4,b5,b6⟩:=dj h2
     refine⟨b1,b2,(c, .iter s p)::os,by simp[b3],by simp[bdO,b4],λc' o' hm=> ?_,by simp[b6]⟩
     rcases aa4.1 hm with he|hm
     ·simp only[abn]at he
      obtain⟨rfl,rfl⟩:=he
      refine⟨n, .iter s p,b1 _ _ hn,hown,rfl,λ_=> .iter s p.toNat,λω=>rfl,λ_=> .iter s p.toNat,λω=>rfl,λτ all E E' M w ω ω' hs _ ht ho=> ?_,λE E' M w ω ω' b _ he hb=>by rw[he]at hb;exact hb⟩
      obtain⟨b,k1,k2,k3⟩:=ho
      have he:=ht.env c' n (hs _ _ (b1 _ _ hn))
      exact⟨b,by rw[he];exact k1,k2,k3⟩
     ·obtain⟨n',o,q1,q2,q3,x,q4,x',q5,q6,q7⟩:=b5 c' o' hm
      exact⟨n',o,q1,q2,q3,x,q4,x',q5,λτ all E E' M w ω ω' hs hv ht ho=>q6 τ all E E' M w ω ω' hs (λp hp=>hv p (aaX _ hp)) ht ho,q7⟩
    ·cases h
   ·rename_i cm tk tv m tk' tv' es rest cur hown
    have h':=aG h;clear h
    obtain⟨⟨e1,e2⟩,h⟩:=h'
    subst e1;subst e2
    split at h
    ·rename_i σ' hb
     obtain⟨a1,a2,a3⟩:=dA hb
     split at h
     ·rename_i σ'' l2 h2
      simp at h;obtain⟨rfl,rfl⟩:=h
      obtain⟨b1,b2,os,b3,b4,b5,b6⟩:=dj h2
      refine⟨a1.trans b1,λhi=>b2 (a3 hi),(c, .miter cm tk tv es rest none)::os,by simp[b3],by simp[bdO,b4],λc' o' hm=> ?_,by simp[b6]⟩
      rcases aa4.1 hm with he|hm
      ·simp only[abn]at he
       obtain⟨rfl,rfl⟩:=he
       refine⟨n, .miter m tk tv es rest cur,b1 _ _ (a1 _ _ hn),hown,rfl,λ_=> .miter m (es.map λp=>(eA V.enc tk p.1,bC V.sz V.enc tv p.2)) (rest.map λp=>(eA V.enc tk p.1,bC V.sz V.enc tv p.2)) (cur.map λp=>(eA V.enc tk p.1,bC V.sz V.enc tv p.2)),λω=>rfl,
        λ_=> .miter cm (es.map λp=>(eA V.enc tk p.1,bC V.sz V.enc tv p.2)) (rest.map λp=>(eA V.enc tk p.1,bC V.sz V.enc tv p.2)) none,λω=>rfl,λτ all E E' M w ω ω' hs _ ht ho=> ?_,λE E' M w ω ω' b _ he hb=>by rw[he]at hb;exact hb⟩
       obtain⟨r',b,es',clock,since,seen,last,k1,k2,k3,k4,k5,k6,k7,k8,k9,k10,_,k12⟩:=ho
       have he:=ht.env c' n (hs _ _ (b1 _ _ (a1 _ _ hn)))
       have he2:=ht.env cm m (hs _ _ (b1 _ _ a2))
       exact⟨r',b,es',clock,since,seen,last,by rw[he];exact k1,by rw[he2];exact k2,k3,k4,k5,k6,k7,k8,k9,k10,(λp hp=>by cases hp),k12⟩
      ·obtain⟨n',o,q1,q2,q3,x,q4,x',q5,q6,q7⟩:=b5 c' o' hm
       exact⟨n',o,q1,q2,q3,x,q4,x',q5,λτ all E E' M w ω ω' hs hv ht ho=>q6 τ all E E' M w ω ω' hs (λp hp=>hv p (aaX _ hp)) ht ho,q7⟩
     ·cases h
    ·cases h
   ·rename_i tk tv tk' tv' es hown
    have h':=aG h;clear h
    obtain⟨⟨e1,e2⟩,h⟩:=h'
    subst e1;subst e2
    split at h
    ·rename_i σ'' l2 h2
     simp at h;obtain⟨rfl,rfl⟩:=h
     obtain⟨b1,b2,os,b3,b4,b5,b6⟩:=dj h2
     refine⟨b1,b2,(c, .map tk tv es)::os,by simp[b3],by simp[bdO,b4],λc' o' hm=> ?_,by simp[b6]⟩
     rcases aa4.1 hm with he|hm
     ·simp only[abn]at he
      obtain⟨rfl,rfl⟩:=he
      refine⟨n, .map tk tv es,b1 _ _ hn,hown,rfl,λ_=> .map (es.map λp=>(eA V.enc tk p.1,bC V.sz V.enc tv p.2)),λω=>rfl,λ_=> .map (es.map λp=>(eA V.enc tk p.1,bC V.sz V.enc tv p.2)),λω=>rfl,λτ all E E' M w ω ω' hs _ ht ho=> ?_,λE E' M w ω ω' b _ he hb=>by rw[he]at hb;exact hb⟩
      obtain⟨b,es',clock,k1,k2,k3,k4,k5⟩:=ho
      have he:=ht.env c' n (hs _ _ (b1 _ _ hn))
      exact⟨b,es',clock,by rw[he];exact k1,k2,k3,k4,k5⟩
     ·obtain⟨n',o,q1,q2,q3,x,q4,x',q5,q6,q7⟩:=b5 c' o' hm
      exact⟨n',o,q1,q2,q3,x,q4,x',q5,λτ all E E' M w ω ω' hs hv ht ho=>q6 τ all E E' M w ω ω' hs (λp hp=>hv p (aaX _ hp)) ht ho,q7⟩
    ·cases h
   ·rename_i te e te' e' xs hown
    have h':=aG h;clear h
    obtain⟨⟨e1,e2⟩,h⟩:=h'
    subst e1;subst e2
    split at h
    ·rename_i σ'' l2 h2
     simp at h;obtain⟨rfl,rfl⟩:=h
     obtain⟨b1,b2,os,b3,b4,b5,b6⟩:=dj h2
     refine⟨b1,b2,(c, .que te e xs)::os,by simp[b3],by simp[bdO,b4],λc' o' hm=> ?_,by simp[b6]⟩
     rcases aa4.1 hm with he|hm
     ·simp only[abn]at he
      obtain⟨rfl,rfl⟩:=he
      refine⟨n, .que te e xs,b1 _ _ hn,hown,rfl,λ_=> .que te (tsz V.sz e) (xs.map λx=>bY V.sz V.enc e x),λω=>rfl,λ_=> .que te (tsz V.sz e) (xs.map λx=>bY V.sz V.enc e x),λω=>rfl,λτ all E E' M w ω ω' hs _ ht ho=> ?_,λE E' M w ω ω' b _ he hb=>by rw[he]at hb;exact hb⟩
      obtain⟨B,k1,k2⟩:=ho
      have he:=ht.env c' n (hs _ _ (b1 _ _ hn))
      exact⟨B,by rw[he];exact k1,k2⟩
     ·obtain⟨n',o,q1,q2,q3,x,q4,x',q5,q6,q7⟩:=b5 c' o' hm
      exact⟨n',o,q1,q2,q3,x,q4,x',q5,λτ all E E' M w ω ω' hs hv ht ho=>q6 τ all E E' M w ω ω' hs (λp hp=>hv p (aaX _ hp)) ht ho,q7⟩
    ·cases h
   ·rename_i te tk tv te' tk' tv' es al hown
    have h':=aG h;clear h
    obtain⟨⟨e0,e1,e2⟩,h⟩:=h'
    subst e0;subst e1;subst e2
    split at h
    ·rename_i σ'' l2 h2
     simp at h;obtain⟨rfl,rfl⟩:=h
     obtain⟨b1,b2,os,b3,b4,b5,b6⟩:=dj h2
     refine⟨b1,b2,(c, .maps te tk tv es none)::os,by simp[b3],by simp[bdO,b4],λc' o' hm=> ?_,by simp[b6]⟩
     rcases aa4.1 hm with he|hm
     ·simp only[abn]at he
      obtain⟨rfl,rfl⟩:=he
      refine⟨n, .maps te tk tv es al,b1 _ _ hn,hown,rfl,λ_=> .maps te (es.map λo=>o.map λl=>l.map λp=>(eA V.enc tk p.1,bC V.sz V.enc tv p.2)) al,λω=>rfl,λ_=> .maps te (es.map λo=>o.map λl=>l.map λp=>(eA V.enc tk p.1,bC V.sz V.enc tv p.2)) none,λω=>rfl,λτ all E E' M w ω ω' hs _ ht ho=> ?_,λE E' M w ω ω' b ho he hb=> ?_⟩
      ·obtain⟨B,k1,k2⟩:=OLe.noAlias.1 E M w n ho
       have he:=ht.env c' n (hs _ _ (b1 _ _ hn))
       exact⟨B,by rw[he];exact k1,k2⟩
      ·rw[he]at hb
       exact OLe.noAlias.2 E M w n b ho hb
     ·obtain⟨n',o,q1,q2,q3,x,q4,x',q5,q6,q7⟩:=b5 c' o' hm
      exact⟨n',o,q1,q2,q3,x,q4,x',q5,λτ all E E' M w ω ω' hs hv ht ho=>q6 τ all E E' M w ω ω' hs (λp hp=>hv p (aaX _ hp)) ht ho,q7⟩
    ·cases h
   ·rename_i m e m' e' xs hown
    have h':=aG h;clear h
    obtain⟨⟨e1,e2⟩,h⟩:=h'
    subst e1;subst e2
    split at h
    ·rename_i σ'' l2 h2
     simp at h;obtain⟨rfl,rfl⟩:=h
     obtain⟨b1,b2,os,b3,b4,b5,b6⟩:=dj h2
     refine⟨b1,b2,(c, .bar m e xs)::os,by simp[b3],by simp[bdO,b4],λc' o' hm=> ?_,by simp[b6]⟩
     rcases aa4.1 hm with he|hm
     ·simp only[abn]at he
      obtain⟨rfl,rfl⟩:=he
      refine⟨n, .bar m e xs,b1 _ _ hn,hown,rfl,λ_=> .box none ((bY V.sz V.enc (.ar m e) xs).map .d),λω=>rfl,λ_=> .box none ((bY V.sz V.enc (.ar m e) xs).map .d),λω=>rfl,λτ all E E' M w ω ω' hs _ ht ho=> ?_,λE E' M w ω ω' b _ he hb=>by rw[he]at hb;exact hb⟩
      obtain⟨b,cs,ty,k1,k2,k3,k4,k5⟩:=ho
      refine⟨b,cs,ty,by rw[ht.env c' n (hs _ _ (b1 _ _ hn))];exact k1,k2,k3,λi' a z ha hz=> ?_,k5⟩
      have hq:=k4 i' a z ha hz
      rw[aaR,aa0]at hz
      obtain⟨d,_,rfl⟩:=hz
      exact hq.mono (Mem.le_refl _) λm hm=>by simp[H.has]at hm
     ·obtain⟨n',o,q1,q2,q3,x,q4,x',q5,q6,q7⟩:=b5 c' o' hm
      exact⟨n',o,q1,q2,q3,x,q4,x',q5,λτ all E E' M w ω ω' hs hv ht ho=>q6 τ all E E' M w ω ω' hs (λp hp=>hv p (aaX _ hp)) ht ho,q7⟩
    ·cases h
   ·cases h
  ·cases h
theorem LO{α:Type}:∀{ks:List Nat} {vs:List α} {t:Nat} {x:α},gt (ks.zip vs) t=some x->∃i:Nat,ks[i]?=some t/\vs[i]?=some x
 |[],_,t,x,h=>by simp[gt]at h
 |_::_,[],t,x,h=>by simp[gt]at h
 |k::ks,v::vs,t,x,h=>by
  simp only[List.zip_cons_cons,aH]at h
  by_cases hk:k=t
  ·rw[aep hk]at h;cases h;exact⟨0,by simp[hk],rfl⟩
  ·rw[aeo hk]at h
   obtain⟨i,h1,h2⟩:=LO h
   exact⟨i+1,by simpa using h1,by simpa using h2⟩
theorem Na{S:TS V.N}{c:Cut V.ι}{σ:dz}{ls:List (dW V.N)}(h:Nd V c S=some (σ,ls))(hok:Fa V c σ=true):Ent (a_ V S) (a_ V (build V c ls)):=by
 unfold Nd at h
 split at h
 ·rename_i σ0 l0 h0
  split at h
  ·rename_i σ1 l1 h1
   simp at h;obtain⟨rfl,rfl⟩:=h
   obtain⟨a1,a2,a3,vs',a4,a5,a6⟩:=iZ h0
   obtain⟨b1,b2,os,b3,b4,b5,b6⟩:=dj h1
   have hinj:Inj σ1:=b2 (a2 λc c' n h=>by simp[gt]at h)
   simp only[Fa,aaT,aa1]at hok
   obtain⟨⟨hg,hsl⟩,hob⟩:=hok
   have hbuild:build V c (l0++l1)={tmps:=(c.slots.map (·.1)).zip vs',own:=os}:=by
    unfold build
    rw[a5 l1]
    simp only[b4]
   rw[hbuild]
   let S':TS V.N:={tmps:=(c.slots.map (·.1)).zip vs',own:=os}
   have hown:∀n o,S'.own? n=some o->(n,o)∈os:=λn o ho=>cV ho
   have hkey:∀n,(c.objs.any λp=>abI p.1 n)=true->∃o,S'.own? n=some o:=by
    intro n hn
    rw[abM]at hn
    obtain⟨p,hp,hpn⟩:=hn
    have hpn:p.1=n:=by simpa using hpn
    have hm:n∈os.map (·.1):=by rw[b6,<-hpn];exact abu hp
    exact gA hm
   intro C E M a w hs
   let E':Env:=λm=>match gt σ1 m with
    |some n=>E n
    |none=>E m
   have hE:∀k n,gt σ1 k=some n->E' k=E n:=λk n hk=>by simp only[E',hk]
   have ht:Tr σ1 c.objs E E' S.len S'.len:=by
    refine⟨hE,λk n hk hkn=> ?_⟩
    obtain⟨o,ho⟩:=hkey k hk
    obtain⟨n',o',q1,q2,q3,_⟩:=b5 k o (hown k o ho)
    rw[hkn]at q1;cases q1
    unfold TS.len;rw[ho,q2];exact q3
   have hob':∀p∈c.objs,match p.2 with| .box _ ps=>ps.all (vH V c.objs)=true|_=>True:=by
    intro p hp
    have:=hob p hp
    cases hq:p.2 with
    |box oty ps=>rw[hq]at this;simpa using this
    |st i=>trivial
    |vec te e=>trivial
    |map tk tv=>trivial
    |iter=>trivial
    |miter m k v=>trivial
    |que te e=>trivial
    |maps te k v=>trivial
    |bar m e=>trivial
   have hfind:∀n o,(a_ V S').own? n=some o->∃n0 o0,gt σ1 n=some n0/\(a_ V S).own? n0=some o0/\(∀w,cq E M w n0 o0->cq E' M w n o)/\∀b,o.foot w (E' n) b->o0.foot w (E n0) b:=by
    intro n o ho
    rw[bL,acr]at ho
    obtain⟨o',ho',hoo⟩:=ho
    obtain⟨n0,o0,q1,q2,_,x,q4,x',q5,q6,q7⟩:=b5 n o' (hown n o' ho')
    rw[q5]at hoo
    simp only[aaN]at hoo
    subst hoo
    exact⟨n0,x S.len,q1,by rw[bL,q2];exact q4 _,λw hw=>q6 σ1 c.objs E E' M w S.len S'.len (Sub.refl _) hob' ht hw,λb hb=>q7 E E' M w S.len S'.len b (hs.own n0 _ (by rw[bL,q2];exact q4 _)) (hE _ _ q1) hb⟩
   refine⟨E',M,{size:=hs.size,defers:=hs.defers,fixed:=hs.fixed,tmps:=λt x hx=> ?_,mem:=hs.mem,own:=λn o hn=> ?_,apart:=λn m o o' b hne hn hm hb=> ?_,home:=λn o b hn hb=> ?_,m0:=hs.m0,mnew:=hs.mnew,frame:=hs.frame,grows:=hs.grows,os:=hs.os,tape:=hs.tape,output:=hs.output,env:=λn hn=> ?_}⟩
   ·rw[db,aa0]at hx
    obtain⟨v',hv',rfl⟩:=hx
    obtain⟨i,g1,g2⟩:=LO hv'
    have hi:i<(c.slots.map λp=>S.get p.1).length:=by rw[<-a4];exact(aaP.1 g2).1
    have hget:(c.slots.map λp=>S.get p.1)[i]?=some (S.get t):=by
     rw[aaR]at g1⊢
     cases hsl':c.slots[i]? with
     |none=>rw[hsl']at g1;cases g1
     |some p=>rw[hsl']at g1;simp at g1;subst g1;rfl
    obtain⟨k1,k2⟩:=a6 i _ v' hget g2
    have hgt:∃v,gt S.tmps t=some v/\S.get t=v:=by
     unfold TS.get at k1⊢
     cases hq:gt S.tmps t with
     |none=>rw[hq]at k1;exact(k1 rfl).elim
     |some v=>exact⟨v,rfl,rfl⟩
    obtain⟨v,hv1,hv2⟩:=hgt
    obtain⟨av,hav,hrep⟩:=hs.tmps t (aL V S.len v) (by rw[db,hv1];rfl)
    refine⟨av,hav,k2 σ1 c.objs E E' M S.len S'.len av b1 ?_ ht (by rw[hv2];exact hrep)⟩
    rw[acG]
    exact aa1.2 hsl
   ·obtain⟨n0,o0,q1,q2,q3⟩:=hfind n o hn
    exact q3.1 w (hs.own n0 _ q2)
   ·obtain⟨n0,o0,q1,q2,q3⟩:=hfind n o hn
    obtain⟨m0,o1,r1,r2,r3⟩:=hfind m o' hm
    intro hb'
    exact hs.apart n0 m0 _ _ b (λe=>by subst e;exact hne (hinj n m n0 q1 r1)) q2 r2 (q3.2 b hb) (r3.2 b hb')
   ·obtain⟨n0,o0,q1,q2,q3⟩:=hfind n o hn
    exact hs.home n0 _ b q2 (q3.2 b hb)
   ·cases hq:gt σ1 n with
    |none=>simp only[E',hq];exact hs.env n hn
    |some m=>
     have:=hg _ (cV hq)
     simp only[abo,acq]at this
     rcases this with h|h
     ·omega
     ·have e:n=m:=by simpa using h
      rw[hE n m hq,<-e];exact hs.env n hn
  ·cases h
 ·cases h
end
end Go.Tx
end
section
namespace Go.Tx
open Go.Awp
variable [Inhabited GMem]
theorem Ent.le{S S':aC}(ht:∀t x,gt S'.tmps t=some x->∃y,gt S.tmps t=some y/\H.le y x)(ho:∀n o,S'.own? n=some o->∃o',S.own? n=some o'/\OLe o' o):Ent S S':=
 λ_ E M _ _ hs=>⟨E,M,Sim.le hs ht ho⟩
theorem kv{a b c:H}(h:H.le a b)(k:H.le b c):H.le a c:=λE M v x=>k E M v (h E M v x)
mutual
theorem yD{n sz:Nat}{rows:List (List D)}:∀x:H,H.has n x=false->H.le (H.frz n sz rows x) x
 | .d x,_=>by simp only[H.frz];exact H.le.refl _
 | .junk,_=>by simp only[H.frz];exact H.le.refl _
 | .bp m o,_=>by simp only[H.frz];exact H.le.refl _
 | .vh m l,h=>by
  simp only[H.has]at h
  have:m≠n:=by intro e;subst e;simp at h
  simp only[H.frz]
  rw[aeo (λe=>this e.1)]
  exact H.le.refl _
 | .ep m s i o,_=>by simp only[H.frz];exact H.le.refl _
 | .sv m s i o,_=>by simp only[H.frz];exact H.le.refl _
 | .mp m,_=>by simp only[H.frz];exact H.le.refl _
 | .np m b,_=>by simp only[H.frz];exact H.le.refl _
 | .sd m,_=>by simp only[H.frz];exact H.le.refl _
 | .agg cs,h=>by
  simp only[H.frz]
  simp only[H.has]at h
  exact kv (kI _) (K1 (H.frzL_len ..) (frzL_le cs h))
 | .tup cs,h=>by
  simp only[H.frz]
  simp only[H.has]at h
  exact Gx (H.frzL_len ..) (frzL_le cs h)
 | .fn f a b,_=>by simp only[H.frz];exact H.le.refl _
theorem frzL_le{n sz:Nat}{rows:List (List D)}:∀l:List H,H.hasL n l=false->∀(i:Nat) (x:H),l[i]?=some x->∃y,(H.frzL n sz rows l)[i]?=some y/\H.le y x
 |[],_,i,x,hx=>by simp at hx
 |y::r,h,0,x,hx=>by
  rw[H.hasL,ab3]at h
  simp at hx;subst hx
  exact⟨H.frz n sz rows y,by simp[H.frzL],yD y h.1⟩
 |y::r,h,i+1,x,hx=>by
  rw[H.hasL,ab3]at h
  obtain⟨z,h1,h2⟩:=frzL_le r h.2 i x (by simpa using hx)
  exact⟨z,by simpa[H.frzL]using h1,h2⟩
end
section
variable {V:iF}
theorem DH{S:TS V.N}{n:Nat}{te:TypeId}{e:Ty V.ι}{xs:List (den V.N e)}(hn:S.own? n=some (.vec te e xs)):(S.frz V n e xs).len=S.len:=by
 funext m
 unfold TS.len
 unfold TS.own? at hn⊢
 unfold TS.frz
 simp only[aH]
 by_cases hm:n=m
 ·subst hm;rw[aep rfl,hn];rfl
 ·rw[aeo hm,gI (wF V n e xs)]
  cases gt S.own m with
  |none=>rfl
  |some o=>cases o<;>rfl
theorem wE{S:TS V.N}{n:Nat}{te:TypeId}{e:Ty V.ι}{xs:List (den V.N e)}(hn:S.own? n=some (.vec te e xs))(v:TV V.N):
 H.le (H.frz n (tsz V.sz e) (xs.map λx=>bY V.sz V.enc e x) (aL V S.len v)) (aL V (S.frz V n e xs).len (LN V n e xs v)):=by
 have other:∀v:TV V.N,H.le (H.frz n (tsz V.sz e) (xs.map λx=>bY V.sz V.enc e x) (aL V S.len v)) (aL V (S.frz V n e xs).len (if TV.has n v=true then .junk else v)):=by
  intro v
  split
  ·simp only[aL];exact H.le.junk _
  ·rename_i hh
   have hh:TV.has n v=false:=by simpa using hh
   rw[DH hn]
   exact yD _ (by rw[jq];exact hh)
 unfold LN
 split
 ·rename_i m
  by_cases hm:m=n
  ·subst hm
   rw[aep rfl]
   simp only[aL,bC,H.frz,eh hn,aaS,and_self,ael]
   exact H.le.refl _
  ·rw[aeo hm]
   simp only[aL,H.frz]
   rw[aeo (λe=>hm e.1),DH hn]
   exact H.le.refl _
 ·exact other v
theorem Nh{S:TS V.N}{n:Nat}{te:TypeId}{e:Ty V.ι}{xs:List (den V.N e)}(hn:S.own? n=some (.vec te e xs))(v:TV V.N):
 H.le (H.frz n (tsz V.sz e) (xs.map λx=>bY V.sz V.enc e x) (aL V S.len v)) (aL V (S.frz V n e xs).len (Ui V n e xs v)):=by
 unfold Ui
 split
 ·rename_i cs
  simp only[aL]
  refine kv ?_ (sJ _)
  have hp:∀(l:List H),(∀(i:Nat) (x:H),(encL V (S.frz V n e xs).len (cs.map (LN V n e xs)))[i]?=some x->∃y,l[i]?=some y/\H.le y x)->l.length=cs.length->
   H.le (.agg l) (.agg (encL V (S.frz V n e xs).len (cs.map (LN V n e xs)))):=λl h hl=>K1 (by rw[bF,aaS];exact hl) h
  have hfrz:∀(i:Nat) (x:H),(encL V (S.frz V n e xs).len (cs.map (LN V n e xs)))[i]?=some x->
   ∃y,(encL V S.len cs)[i]?=some y/\H.le (H.frz n (tsz V.sz e) (xs.map λx=>bY V.sz V.enc e x) y) x:=by
   intro i x hx
   simp only[aU,aaR]at hx⊢
   cases hc:cs[i]? with
   |none=>rw[hc]at hx;cases hx
   |some c=>rw[hc]at hx;simp at hx;subst hx;exact⟨_,rfl,wE hn c⟩
  unfold cR
  split
  ·rename_i ds hds
   obtain⟨g1,g2⟩:=fq hds
   simp only[H.frz]
   have e1:H.le (.d (.agg ds)) (.agg (encL V S.len cs)):=by
    have:=kI (encL V S.len cs)
    unfold cR at this
    rw[hds]at this;exact this
   refine kv e1 (hp _ (λi x hx=> ?_) (bF ..))
   obtain⟨y,hy,hle⟩:=hfrz i x hx
   refine⟨y,hy,?_⟩
   rw[g2]at hy
   cases hd:ds[i]? with
   |none=>rw[hd]at hy;cases hy
   |some d=>rw[hd]at hy;simp at hy;subst hy;simpa only[H.frz]using hle
  ·simp only[H.frz]
   refine kv (kI _) (hp _ (λi x hx=> ?_) (by rw[H.frzL_len,bF]))
   obtain⟨y,hy,hle⟩:=hfrz i x hx
   exact⟨_,by rw[H.frzL_get,hy];rfl,hle⟩
 ·exact wE hn v
theorem Ni{S:TS V.N}{n:Nat}{te:TypeId}{e:Ty V.ι}{xs:List (den V.N e)}(hn:S.own? n=some (.vec te e xs)):Ent (a_ V S) (a_ V (S.frz V n e xs)):=by
 refine Ent.trans (Ent.freeze (dJ hn)) (Ent.le (λt x hx=> ?_) λm o ho=> ?_)
 ·rw[db]at hx
  simp only[TS.frz,gI]at hx
  cases hq:gt S.tmps t with
  |none=>rw[hq]at hx;cases hx
  |some v=>
   rw[hq]at hx;simp at hx;subst hx
   refine⟨_,by simp only[aC.frz,gI,db,hq,abf],Nh hn v⟩
 ·rw[bL,acr]at ho
  obtain⟨o1,ho1,ho⟩:=ho
  have hown:(S.frz V n e xs).own? m=if n=m then some (.gone xs.length)else(S.own? m).map (wF V n e xs):=by
   unfold TS.own? TS.frz
   simp only[aH]
   split
   ·rfl
   ·rw[gI (wF V n e xs)]
  rw[hown]at ho1
  by_cases hm:n=m
  ·rw[aep hm]at ho1;simp at ho1;subst ho1;simp[ct]at ho
  ·rw[aeo hm]at ho1
   cases hq:S.own? m with
   |none=>rw[hq]at ho1;cases ho1
   |some o0=>
    rw[hq]at ho1;simp at ho1;subst ho1
    have hsrc:∀x,ct V S.len o0=some x->((a_ V S).frz n (tsz V.sz e) (xs.map λx=>bY V.sz V.enc e x)).own? m=some (Own.frz n (tsz V.sz e) (xs.map λx=>bY V.sz V.enc e x) x):=by
     intro x hx
     have:=bL S m
     rw[hq]at this
     simp only[aaJ,hx]at this
     unfold aC.own? at this⊢
     simp only[aC.frz,aH]
     rw[aeo hm,gI (λx:Option Own=>x.map (Own.frz n (tsz V.sz e) (xs.map λx=>bY V.sz V.enc e x)))]
     cases hg:gt (a_ V S).own m with
     |none=>rw[hg]at this;cases this
     |some oo=>rw[hg]at this;simp at this;subst this;rfl
    cases o0 with
    |gone l=>simp[wF,ct]at ho
    |bst i y=>
     simp only[wF,ct,aaN]at ho
     subst ho
     refine⟨_,hsrc _ rfl,?_⟩
     simp only[Own.frz]
     refine OLe.box (.inr rfl) (by rw[H.frzL_len]) λi' x hx=> ?_
     refine⟨_,by rw[H.frzL_get,hx];rfl,?_⟩
     rw[aaR,aa0]at hx
     obtain⟨d,_,rfl⟩:=hx
     exact yD _ (by simp[H.has])
    |vec te' e' ys=>
     simp only[wF,ct,aaN]at ho
     subst ho
     exact⟨_,hsrc _ rfl,OLe.refl _⟩
    |map tk tv es=>
     simp only[wF,ct,aaN]at ho
     subst ho
     exact⟨_,hsrc _ rfl,OLe.refl _⟩
    |iter s p=>
     simp only[wF,ct,aaN]at ho
     subst ho
     exact⟨_,hsrc _ rfl,OLe.refl _⟩
    |miter m k v es rest cur=>
     simp only[wF,ct,aaN]at ho
     subst ho
     exact⟨_,hsrc _ rfl,OLe.refl _⟩
    |que te' e' ys=>
     simp only[wF,ct,aaN]at ho
     subst ho
     exact⟨_,hsrc _ rfl,OLe.refl _⟩
    |maps te' tk tv es al=>
     simp only[wF,ct,aaN]at ho
     subst ho
     refine⟨_,hsrc _ rfl,?_⟩
     cases al<;>exact OLe.refl _
    |alias m'=>simp[wF,ct]at ho
    |bar k e' y=>
     simp only[wF,ct,aaN]at ho
     subst ho
     refine⟨_,hsrc _ rfl,?_⟩
     simp only[Own.frz]
     refine OLe.box (.inr rfl) (by rw[H.frzL_len]) λi' x hx=> ?_
     refine⟨_,by rw[H.frzL_get,hx];rfl,?_⟩
     rw[aaR,aa0]at hx
     obtain⟨d,_,rfl⟩:=hx
     exact yD _ (by simp[H.has])
    |box oty cells=>
     simp only[wF,ct,aaN]at ho
     subst ho
     refine⟨_,hsrc _ rfl,?_⟩
     simp only[Own.frz]
     refine OLe.box (.inr rfl) (by rw[H.frzL_len,bF,bF,aaS]) λi x hx=> ?_
     simp only[aU,aaR]at hx
     cases hc:cells[i]? with
     |none=>rw[hc]at hx;cases hx
     |some c=>
      rw[hc]at hx;simp at hx;subst hx
      exact⟨_,by rw[H.frzL_get,aU,aaR,hc];rfl,wE hn c⟩
theorem DG(S:TS V.N)(v:TV V.N):Ent (a_ V S) (a_ V (Ng V S v)):=by
 unfold Ng
 split
 ·rename_i n
  split
  ·rename_i te e xs hn;exact Ni hn
  ·exact Ent.refl _
 ·exact Ent.refl _
theorem ee:∀(l:List (TV V.N)) (S:TS V.N),Ent (a_ V S) (a_ V (frzL V S l))
 |[],_=>Ent.refl _
 |v::r,S=>Ent.trans (DG S v) (ee r _)
theorem Bf(te:TypeId)(e:Ty V.ι)(S:TS V.N)(t:Nat):Ent (a_ V S) (a_ V (E9 V false te e S t)):=by
 unfold E9 TH
 split
 ·rename_i ht
  split
  ·rename_i hf
   obtain⟨hf,hg⟩:=hf
   have hg:60000+t<given:=by simpa[acq]using hg
   have h1:gt (a_ V S).tmps t=some (.d (.v (.slice none 0 0))):=by rw[db,ht];simp[aL,cy]
   have h2:(a_ V S).fresh (60000+t)=true:=eQ hf
   refine Ent.trans (Ent.nilvec (e:=te) (sz:=tsz V.sz e) h1 h2 hg) λC E M a w hs=>⟨E,M,?_⟩
   exact Sim.tapp (V:=V) (S:=S) (dst:=some t) (te:={val:= .vh (60000+t),upd:=[(60000+t, .vec te e [])],new:=[60000+t]}) (ex:=false)
    (e':={val:= .vh (60000+t) 0,upd:=[(60000+t,some (.vec te (tsz V.sz e) []))],new:=[60000+t]}) (λm o hm=>by
      simp only[aH]at hm
      split at hm
      ·rename_i e;left;simp[e]
      ·simp[gt]at hm) (λd hd=>by simp at hd;subst hd;exact hf) (cX (by
      simp only[aL]
      rw[d6]
      simp[aH,TO.len]) rfl (by simp[ct]) rfl) hs
  ·exact Ent.refl _
 ·exact Ent.refl _
theorem uI(dv:Bool)(te:TypeId)(e:Ty V.ι)(S:TS V.N)(t:Nat):Ent (a_ V S) (a_ V (E9 V dv te e S t)):=Bf te e S t
theorem fi(objs:List (Nat×OPt V.ι)):∀(l:List (Nat×Pt V.ι)) (S:TS V.N),Ent (a_ V S) (a_ V (uW V objs S l))
 |[],_=>Ent.refl _
 |(t, .vh c)::r,S=>by
  simp only[uW]
  split
  ·exact Ent.trans (uI _ _ _ S t) (fi objs r _)
  ·exact fi objs r S
 |(t, .dat ty)::r,S=>by
  simp only[uW]
  exact Ent.trans (ee _ S) (fi objs r _)
 |(t, .bp c off)::r,S=>by simp only[uW];exact fi objs r S
 |(t, .mp c)::r,S=>by simp only[uW];exact fi objs r S
 |(t, .np c)::r,S=>by simp only[uW];exact fi objs r S
 |(t, .nif)::r,S=>by simp only[uW];exact fi objs r S
 |(t, .sv c z)::r,S=>by simp only[uW];exact fi objs r S
 |(t, .ag cs)::r,S=>by
  simp only[uW]
  exact Ent.trans (ee _ S) (fi objs r _)
 |(t, .fn f a b)::r,S=>by simp only[uW];exact fi objs r S
theorem xb(te:TypeId)(e:Ty V.ι)(S:TS V.N)(b i:Nat):Ent (a_ V S) (a_ V (zd V false te e S b i)):=by
 unfold zd TH
 split
 ·rename_i oty cells hb
  split
  ·rename_i hc
   split
   ·rename_i hf
    obtain⟨hf,hg⟩:=hf
    generalize hn:70000+S.own.length=n at hf hg⊢
    have hg:n<given:=by simpa[acq]using hg
    have h1:(a_ V S).own? b=some (.box oty (encL V S.len cells)):=by rw[bL,hb];rfl
    have h2:(encL V S.len cells)[i]?=some (.d (.v (.slice none 0 0))):=by rw[aU,aaR,hc];simp[aL,cy]
    have hfr:=hf
    unfold TS.fresh at hfr
    simp only[aaT,aa1]at hfr
    obtain⟨⟨f1,f2⟩,f3⟩:=hfr
    have hbn:b≠n:=by
     rintro rfl
     rw[hb]at f1;cases f1
    have hcn:TV.hasL n cells=false:=by
     have:=f3 (b, .box oty cells) (cV hb)
     simpa[TO.has]using this
    refine Ent.trans (Ent.nilcell (e:=te) (sz:=tsz V.sz e) h1 h2 (eQ hf) hg) λC E M a w hs=>⟨E,M,?_⟩
    refine Sim.tapp (V:=V) (S:=S) (dst:=none) (te:={val:= .junk,upd:=[(b, .box oty (cells.set i (.vh n))),(n, .vec te e [])],new:=[n]}) (ex:=false)
     (e':={val:= .junk,upd:=[(b,some (.box oty ((encL V S.len cells).set i (.vh n 0)))),(n,some (.vec te (tsz V.sz e) []))],new:=[n]}) (λm o hm=> ?_) (λd hd=>by simp at hd;subst hd;exact hf) (cX ?_ rfl ?_ rfl) hs
    ·simp only[aH]at hm
     split at hm
     ·rename_i e1
      right
      simp at hm;subst hm;subst e1
      unfold TS.len
      rw[hb];rfl
     ·split at hm
      ·rename_i e1;left;simp[e1]
      ·simp[gt]at hm
    ·simp[aL]
    ·simp only[aaY,abE,ct]
     have hl:∀m,(S.app none ({val:= .junk,upd:=[(b, .box oty (cells.set i (.vh n))),(n, .vec te e [])],new:=[n]}:TE V.N)).len m=if m=n then 0 else S.len m:=by
      intro m
      rw[d6]
      simp only[aH]
      by_cases hmb:b=m
      ·subst hmb
       rw[aep rfl,aeo hbn]
       simp only[TO.len]
       unfold TS.len;rw[hb];rfl
      ·rw[aeo hmb]
       by_cases hmn:n=m
       ·subst hmn;simp[TO.len]
       ·rw[aeo hmn,aeo (λe=>hmn e.symm)];rfl
     have hcells:encL V (S.app none ({val:= .junk,upd:=[(b, .box oty (cells.set i (.vh n))),(n, .vec te e [])],new:=[n]}:TE V.N)).len (cells.set i (.vh n))=(encL V S.len cells).set i (.vh n 0):=by
      rw[aU,acp,aU]
      congr 1
      ·rw[<-aU,<-aU]
       refine encL_congr cells λm hm=> ?_
       rw[hl,aeo]
       rintro rfl
       rw[hcn]at hm;cases hm
      ·simp only[aL]
       rw[hl,aep rfl]
     rw[hcells]
   ·exact Ent.refl _
  ·exact Ent.refl _
 ·exact Ent.refl _
theorem Bg(dv:Bool)(te:TypeId)(e:Ty V.ι)(S:TS V.N)(b i:Nat):Ent (a_ V S) (a_ V (zd V dv te e S b i)):=xb te e S b i
theorem dl(objs:List (Nat×OPt V.ι))(b:Nat):∀(l:List (Pt V.ι)) (i:Nat) (S:TS V.N),Ent (a_ V S) (a_ V (gc V objs b i l S))
 |[],_,_=>Ent.refl _
 | .vh c::r,i,S=>by
  simp only[gc]
  split
  ·exact Ent.trans (Bg _ _ _ S b i) (dl objs b r _ _)
  ·exact dl objs b r _ S
 | .dat ty::r,i,S=>by simp only[gc];exact Ent.trans (ee _ S) (dl objs b r _ _)
 | .bp c off::r,i,S=>by simp only[gc];exact dl objs b r _ S
 | .mp c::r,i,S=>by simp only[gc];exact dl objs b r _ S
 | .np c::r,i,S=>by simp only[gc];exact dl objs b r _ S
 | .nif::r,i,S=>by simp only[gc];exact dl objs b r _ S
 | .sv c z::r,i,S=>by simp only[gc];exact dl objs b r _ S
 | .ag cs::r,i,S=>by simp only[gc];exact dl objs b r _ S
 | .fn f x y::r,i,S=>by simp only[gc];exact dl objs b r _ S
theorem Br(objs:List (Nat×OPt V.ι))(c b:Nat)(S:TS V.N):Ent (a_ V S) (a_ V (Fr V objs c b S)):=by
 unfold Fr
 split
 ·exact dl objs b _ 0 S
 ·split
  ·exact ee _ S
  ·exact Ent.refl _
 ·exact Ent.refl _
theorem zk(objs:List (Nat×OPt V.ι)):∀(m:Nat) (l:List (Nat×Nat)) (S:TS V.N),Ent (a_ V S) (a_ V (Po V objs m l S))
 |0,_,_=>by simp only[Po];exact Ent.refl _
 |_+1,[],_=>by simp only[Po];exact Ent.refl _
 |m+1,(c,b)::r,S=>by simp only[Po];exact Ent.trans (Br objs c b S) (zk objs m _ _)
theorem Jz(objs:List (Nat×OPt V.ι))(l:List (Nat×Pt V.ι))(S:TS V.N):Ent (a_ V S) (a_ V (Ux V objs S l)):=by
 unfold Ux
 split
 ·exact fi _ l S
 ·exact Ent.trans (fi _ l S) (zk _ _ _ _)
theorem eY{c:Cut V.ι}{S:TS V.N}{v:HL V.N c.tys}(h:DA V c S=some v):Ent (a_ V S) (a_ V (fk V c v)):=by
 unfold DA at h
 split at h
 ·rename_i σ ls hx
  obtain⟨hok,h⟩:=aG h
  have:=tq h
  unfold fk
  rw[this]
  exact Ent.trans (Jz c.objs c.slots S) (Na hx hok)
 ·cases h
end
end Go.Tx
end
