/-
  Texts of this claim, joined by a program of mine: what the theorem uses.
-/
import Derived.Test.YtcghbgmmgcljkaaGreatDoorPkC
open Bool renaming and_eq_true→Z8,or_eq_false_iff→abg,or_eq_true→aaD
open ByteArray renaming empty→abh
open Function renaming comp→acR
open Int renaming le_refl→aaz
open List renaming all_cons→abe,all_eq_true→aaf,all_map→abU,any_cons→ab0,any_eq_true→aa1,append_assoc→abj,append_nil→abY,cons_append→aaU,drop_drop→abA,drop_of_length_le→ac7,drop_zero→aap,eq_nil_of_length_eq_zero→aaA,ext_getElem?→abp,flatten_cons→abo,getElem?_cons_zero→aa4,getElem?_eq_getElem→Z3,getElem?_eq_some_iff→Z4,getElem?_map→Z6,getElem?_of_mem→abs,getElem_mem→aaQ,getElem_of_mem→aco,length→acn,length_append→aas,length_cons→aaa,length_drop→aaE,length_map→Z7,length_replicate→aaP,mapM→acB,mapM_cons→adc,map_append→aaV,map_congr_left→aay,map_cons→aac,map_drop→aa7,map_map→aaF,map_nil→aaT,map_replicate→abN,map_set→abD,map_take→aa6,mem_append→aa9,mem_cons→aai,mem_cons_of_mem→aab,mem_cons_self→aag,mem_map→aav,mem_map_of_mem→aaJ,mem_of_getElem?→Z_,mem_of_mem_take→aa2,mem_replicate→acN,nil_append→aad,replicate→aak,take_append_drop→adb,take_append_of_le_length→abC,take_of_length_le→aaI,take_zero→acj
open List.cons renaming injEq→aaS
open Nat renaming beq→aaX,blt→abw,blt_eq→abE,eq_of_beq_eq_true→aaL,le_refl→aat,mul_le_mul→ac_,succ_mul→aaH,zero_add→Z9,zero_mul→ab8
open Option renaming bind_eq_some_iff→abF,bind_some→ZY,getD_some→abc,isSome_map→acT,isSome_some→acq,map_eq_some_iff→aae,map_none→aca,map_some→aau
open Option.some renaming injEq→Z2
open Prod.mk renaming injEq→aaC
noncomputable section
set_option linter.unusedSectionVars false
set_option linter.unusedSimpArgs false
section
namespace Go.Mp
def get{κ β:Type}(eq:κ->κ->Bool)(x:κ):List (κ×β)->Option β
 |[]=>none
 |p::r=>if eq x p.1=true then some p.2 else get eq x r
def put{κ β:Type}(eq:κ->κ->Bool)(x:κ)(y:β):List (κ×β)->List (κ×β)
 |[]=>[(x,y)]
 |p::r=>if eq x p.1=true then(x,y)::r else p::put eq x y r
def ins{κ β:Type}(lt:κ->κ->Bool)(x:κ)(y:β):List (κ×β)->List (κ×β)
 |[]=>[(x,y)]
 |p::r=>if lt x p.1=true then(x,y)::p::r else p::ins lt x y r
def set{κ β:Type}(eq lt:κ->κ->Bool)(x:κ)(y:β)(l:List (κ×β)):List (κ×β):=if l.any (λp=>eq x p.1)=true then put eq x y l else ins lt x y l
theorem Fj{κ β:Type}{eq:κ->κ->Bool}{x:κ}{y:β}:∀{l:List (κ×β)},l.any (λp=>eq x p.1)=false->put eq x y l=l++[(x,y)]
 |[],_=>rfl
 |p::r,h=>by
  rw[ab0,abg]at h
  rw[put,h.1,adC (by decide),Fj h.2];rfl
theorem yx{κ β:Type}{lt:κ->κ->Bool}{x:κ}{y:β}:∀l:List (κ×β),(ins lt x y l).Perm ((x,y)::l)
 |[]=> .refl _
 |p::r=>by
  rw[ins]
  split
  ·exact .refl _
  ·exact((yx r).cons p).trans (.swap _ _ _)
theorem set_perm{κ β:Type}(eq lt:κ->κ->Bool)(x:κ)(y:β)(l:List (κ×β)):(set eq lt x y l).Perm (put eq x y l):=by
 unfold set
 split
 ·exact .refl _
 ·rename_i h
  rw[Fj (by simpa using h)]
  exact(yx l).trans (List.perm_append_singleton _ _).symm
def ieq(a b:Int):Bool:=a==b
def beq(a b:Bool):Bool:=a==b
def seq(a b:ByteArray):Bool:=a==b
def ilt(a b:Int):Bool:=decide (a<b)
def blt(a b:Bool):Bool:= !a&&b
def lex:List UInt8->List UInt8->Bool
 |[],[]=>false
 |[],_::_=>true
 |_::_,[]=>false
 |a::r,b::s=>if a.toNat<b.toNat then true else if b.toNat<a.toNat then false else lex r s
def slt(a b:ByteArray):Bool:=lex a.data.toList b.data.toList
end Go.Mp
namespace Go.Tx
open Go.Awp
variable [Inhabited GMem]
inductive Ty (ι:Type)where
 |int (k:IntKind)
 |bool
 |str
 |st (i:ι)
 |sl (e:Ty ι)
 |mp (k v:Ty ι)
 |er
 |op (e:Ty ι)
 |fnc
 |fno
 |ar (n:Nat) (e:Ty ι)
 deriving DecidableEq
@[reducible] def den {ι:Type} (N:ι->Type):Ty ι->Type
 | .int _=>Int
 | .bool=>Bool
 | .str=>ByteArray
 | .st i=>N i
 | .sl e=>List (den N e)
 | .mp k v=>List (den N k×den N v)
 | .er=>Bool
 | .op e=>Option (den N e)
 | .fnc=>Nat
 | .fno=>Option Nat
 | .ar _ e=>List (den N e)
def arL{α:Type}(m:Nat)(pad:α)(l:List α):List α:=(l++aak m pad).take m
theorem Mj{α:Type}(m:Nat)(pad:α)(l:List α):(arL m pad l).length=m:=by
 unfold arL
 simp
theorem Mk{α β:Type}(f:α->β)(m:Nat)(pad:α)(l:List α):(arL m pad l).map f=arL m (f pad) (l.map f):=by
 unfold arL
 simp
structure dU {ι:Type} (N:ι->Type)where
 t:Ty ι
 x:den N t
section
variable {ι:Type} {N:ι->Type} (sz:ι->Nat) (enc:(i:ι)->N i->List D)
def tsz:Ty ι->Nat
 | .st i=>sz i
 | .ar n e=>n *tsz e
 |_=>1
def opD:Option (List D)->D
 |none=> .v (.pointer none)
 |some c=> .rp c
theorem N6(x:Option (List D)):(opD x).one=true:=by cases x<;>rfl
def Lu:Option Nat->D
 |none=> .v .nilFunc
 |some f=> .v (.func (.func f) #[] #[])
theorem Hb(x:Option Nat):(Lu x).one=true:=by cases x<;>rfl
def bY:(t:Ty ι)->den N t->List D
 | .int k,n=>[.v (.int k n)]
 | .bool,b=>[.v (.bool b)]
 | .str,s=>[.v (.string s)]
 | .st i,x=>enc i x
 | .sl e,xs=>[.sl (tsz sz e) (xs.map λx=>bY e x)]
 | .mp _ _,_=>[.v (.map none)]
 | .er,b=>[.er b]
 | .op e,x=>[opD (x.map λy=>bY e y)]
 | .fnc,f=>[.v (.func (.func f) #[] #[])]
 | .fno,f=>[Lu f]
 | .ar n e,xs=>arL (n *tsz sz e) (.v (.bool false)) (xs.map λx=>bY e x).flatten
def bC:(t:Ty ι)->den N t->D
 | .int k,n=> .v (.int k n)
 | .bool,b=> .v (.bool b)
 | .str,s=> .v (.string s)
 | .st i,x=> .agg (enc i x)
 | .sl e,xs=> .sl (tsz sz e) (xs.map λx=>bY sz enc e x)
 | .mp _ _,_=> .v (.map none)
 | .er,b=> .er b
 | .op e,x=>opD (x.map λy=>bY sz enc e y)
 | .fnc,f=> .v (.func (.func f) #[] #[])
 | .fno,f=>Lu f
 | .ar n e,xs=> .agg (bY sz enc (.ar n e) xs)
end
section
end
def Ty.isSl{ι:Type}:Ty ι->Bool
 | .sl _=>true
 |_=>false
def W5:D->Value
 | .v x=>x
 |_=> .nilIface
def ew{ι:Type}{N:ι->Type}(enc:(i:ι)->N i->List D):(t:Ty ι)->den N t->Value
 | .int k,n=> .int k n
 | .bool,b=> .bool b
 | .str,s=> .string s
 | .st i,x=> .agg ((enc i x).map W5).toArray
 |_,_=> .map none
def Ty.cell{ι:Type}:Ty ι->Bool
 | .st _=>false
 | .ar _ _=>false
 |_=>true
structure iE where
 ι:Type
 dec:DecidableEq ι
 N:ι->Type
 sz:ι->Nat
 tys:ι->List (Ty ι)
 cells:(i:ι)->N i->List (dU N)
 ofCells:(i:ι)->List (dU N)->Option (N i)
 enc:(i:ι)->N i->List D
 ty:TypeId->Option (Ty ι)
 enc_cells:∀i x,enc i x=(cells i x).map λl=>bC sz enc l.t l.x
 of_cells:∀i ls x,ofCells i ls=some x->cells i x=ls
 len_cells:∀i x,(cells i x).length=sz i
 one_cells:∀i x,∀l∈cells i x,l.t.cell=true
 tys_cells:∀i x,(cells i x).map (λl=>l.t)=tys i
 tid:Ty ι->Nat
instance (V:iE):DecidableEq V.ι:=V.dec
inductive TV {ι:Type} (N:ι->Type)where
 |lf (t:Ty ι) (x:den N t)
 |raw (v:Value)
 |bp (n off:Nat)
 |vh (n:Nat)
 |ep (n sz i off:Nat)
 |sv (n sz i off:Nat)
 |mp (n:Nat)
 |np (n:Nat) (b:Bool)
 |sd (n:Nat)
 |rp (t:Ty ι) (x:den N t) (off:Nat)
 |ai (n sz i off:Nat)
 |agg (cs:List (TV N))
 |tup (vs:List (TV N))
 |fn (f:Nat) (a b:List (TV N))
 |junk
inductive TO {ι:Type} (N:ι->Type)where
 |box (o:Option TypeId) (cells:List (TV N))
 |bst (i:ι) (x:N i)
 |vec (te:TypeId) (e:Ty ι) (xs:List (den N e))
 |map (k v:Ty ι) (es:List (den N k×den N v))
 |iter (s:ByteArray) (p:Int)
 |miter (m:Nat) (k v:Ty ι) (es rest:List (den N k×den N v)) (cur:Option (den N k×den N v))
 |que (te:TypeId) (e:Ty ι) (xs:List (den N e))
 |maps (te:TypeId) (k v:Ty ι) (es:List (Option (List (den N k×den N v)))) (al:Option (Nat×Nat))
 |bar (n:Nat) (e:Ty ι) (xs:List (den N e))
 |alias (m:Nat)
 |gone (len:Nat)
structure TS {ι:Type} (N:ι->Type)where
 tmps:List (Nat×TV N)
 own:List (Nat×TO N)
section
variable {ι:Type} {N:ι->Type}
def TS.own?(S:TS N)(n:Nat):Option (TO N):=gt S.own n
def TS.get(S:TS N)(t:Nat):TV N:=(gt S.tmps t).getD .junk
def TO.len:Option (TO N)->Nat
 |some (.vec _ _ xs)=>xs.length
 |some (.que _ _ xs)=>xs.length
 |some (.maps _ _ _ es _)=>es.length
 |some (.gone l)=>l
 |_=>0
def TS.len(S:TS N)(n:Nat):Nat:=TO.len (S.own? n)
mutual
def TV.has(n:Nat):TV N->Bool
 | .bp m _=>aaX m n
 | .vh m=>aaX m n
 | .ep m _ _ _=>aaX m n
 | .sv m _ _ _=>aaX m n
 | .mp m=>aaX m n
 | .np m _=>aaX m n
 | .sd m=>aaX m n
 | .ai m _ _ _=>aaX m n
 | .agg cs=>TV.hasL n cs
 | .tup vs=>TV.hasL n vs
 | .fn _ a b=>TV.hasL n a||TV.hasL n b
 |_=>false
def TV.hasL(n:Nat):List (TV N)->Bool
 |[]=>false
 |x::r=>TV.has n x||TV.hasL n r
end
def TO.has(n:Nat):TO N->Bool
 | .box _ cells=>TV.hasL n cells
 | .miter m _ _ _ _ _=>aaX m n
 | .maps _ _ _ _ (some p)=>aaX p.1 n
 |_=>false
def TS.fresh(S:TS N)(n:Nat):Bool:=
 (S.own? n).isNone&&S.tmps.all (λx=> !TV.has n x.2)&&S.own.all (λx=> !TO.has n x.2)
end
section
variable (V:iE)
def cx:Value->H
 | .agg cs=> .d (.agg (cs.toList.map .v))
 |v=> .d (.v v)
mutual
def aL(ω:Nat->Nat):TV V.N->H
 | .lf t x=> .d (bC V.sz V.enc t x)
 | .raw v=>cx v
 | .bp n off=> .bp n off
 | .vh n=> .vh n (ω n)
 | .ep n s i off=> .ep n s i off
 | .sv n s i off=> .sv n s i off
 | .mp n=> .mp n
 | .np n b=> .np n b
 | .sd n=> .sd n
 | .rp t x off=> .d (.rp ((bY V.sz V.enc t x).drop off))
 | .ai n s i off=> .bp n (i *s+off)
 | .agg cs=>cR (encL ω cs)
 | .tup vs=> .tup (encL ω vs)
 | .fn f a b=> .fn f (encL ω a) (encL ω b)
 | .junk=> .junk
def encL(ω:Nat->Nat):List (TV V.N)->List H
 |[]=>[]
 |x::r=>aL ω x::encL ω r
end
def cp(ω:Nat->Nat):TO V.N->Option Own
 | .box o cells=>some (.box o (encL V ω cells))
 | .bst i x=>some (.box none ((V.enc i x).map .d))
 | .vec te e xs=>some (.vec te (tsz V.sz e) (xs.map λx=>bY V.sz V.enc e x))
 | .map k v es=>some (.map (es.map λp=>(ew V.enc k p.1,bC V.sz V.enc v p.2)))
 | .iter s p=>some (.iter s p.toNat)
 | .miter m k v es rest cur=>some (.miter m (es.map λp=>(ew V.enc k p.1,bC V.sz V.enc v p.2)) (rest.map λp=>(ew V.enc k p.1,bC V.sz V.enc v p.2)) (cur.map λp=>(ew V.enc k p.1,bC V.sz V.enc v p.2)))
 | .que te e xs=>some (.que te (tsz V.sz e) (xs.map λx=>bY V.sz V.enc e x))
 | .maps te k v es al=>some (.maps te (es.map λo=>o.map λl=>l.map λp=>(ew V.enc k p.1,bC V.sz V.enc v p.2)) al)
 | .bar n e xs=>some (.box none ((bY V.sz V.enc (.ar n e) xs).map .d))
 | .alias _=>none
 | .gone _=>none
def a_(S:TS V.N):aB:=
 {tmps:=S.tmps.map λp=>(p.1,aL V S.len p.2),own:=S.own.map λp=>(p.1,cp V S.len p.2)}
variable {V}
theorem aU(ω:Nat->Nat)(l:List (TV V.N)):encL V ω l=l.map (aL V ω):=by
 induction l with
 |nil=>rfl
 |cons x r ih=>simp[encL,ih]
theorem xS{n:Nat}:∀{l:List H} {ds:List D},gD l=some ds->H.hasL n l=false
 |[],_,_=>by simp[H.hasL]
 | .d x::r,ds,h=>by
  simp only[gD]at h
  split at h
  ·rename_i l hl
   simp[H.hasL,H.has,xS hl]
  ·cases h
 | .junk::r,ds,h=>by simp[gD]at h
 | .bp .. ::r,ds,h=>by simp[gD]at h
 | .vh .. ::r,ds,h=>by simp[gD]at h
 | .ep .. ::r,ds,h=>by simp[gD]at h
 | .sv .. ::r,ds,h=>by simp[gD]at h
 | .mp .. ::r,ds,h=>by simp[gD]at h
 | .np .. ::r,ds,h=>by simp[gD]at h
 | .sd .. ::r,ds,h=>by simp[gD]at h
 | .agg .. ::r,ds,h=>by simp[gD]at h
 | .tup .. ::r,ds,h=>by simp[gD]at h
 | .fn .. ::r,ds,h=>by simp[gD]at h
theorem D_(n:Nat)(l:List H):H.has n (cR l)=H.hasL n l:=by
 unfold cR
 split
 ·rename_i ds h;rw[xS h];simp[H.has]
 ·simp[H.has]
theorem Am(n:Nat)(v:Value):H.has n (cx v)=false:=by
 cases v<;>simp[cx,H.has]
mutual
theorem jo(ω:Nat->Nat)(n:Nat):∀v:TV V.N,H.has n (aL V ω v)=TV.has n v
 | .lf t x=>by simp[aL,H.has,TV.has]
 | .raw v=>by simp[aL,TV.has,Am]
 | .bp m off=>by simp[aL,H.has,TV.has]
 | .vh m=>by simp[aL,H.has,TV.has]
 | .ep m s i off=>by simp[aL,H.has,TV.has]
 | .sv m s i off=>by simp[aL,H.has,TV.has]
 | .mp m=>by simp[aL,H.has,TV.has]
 | .np m b=>by simp[aL,H.has,TV.has]
 | .sd m=>by simp[aL,H.has,TV.has]
 | .rp t x off=>by simp[aL,H.has,TV.has]
 | .ai m s i off=>by simp[aL,H.has,TV.has]
 | .agg cs=>by simp only[aL,D_,TV.has];exact encL_has ω n cs
 | .tup vs=>by simp only[aL,H.has,TV.has];exact encL_has ω n vs
 | .fn f a b=>by simp only[aL,H.has,TV.has];rw[encL_has ω n a,encL_has ω n b]
 | .junk=>by simp[aL,H.has,TV.has]
theorem encL_has(ω:Nat->Nat)(n:Nat):∀l:List (TV V.N),H.hasL n (encL V ω l)=TV.hasL n l
 |[]=>by simp[encL,H.hasL,TV.hasL]
 |x::r=>by simp only[encL,H.hasL,TV.hasL];rw[jo ω n x,encL_has ω n r]
end
theorem kg(ω:Nat->Nat)(n:Nat){o:TO V.N}{o':Own}(h:cp V ω o=some o'):Own.has n o'=TO.has n o:=by
 cases o with
 |box oty cells=>simp only[cp,Z2]at h;subst h;simp only[Own.has,TO.has];exact encL_has ω n cells
 |bst i x=>
  simp only[cp,Z2]at h;subst h;simp only[Own.has,TO.has]
  generalize V.enc i x=l
  induction l with
  |nil=>simp[H.hasL]
  |cons y r ih=>simpa[H.hasL,H.has]using ih
 |vec te e xs=>simp only[cp,Z2]at h;subst h;simp[Own.has,TO.has]
 |map k v es=>simp only[cp,Z2]at h;subst h;simp[Own.has,TO.has]
 |iter s p=>simp only[cp,Z2]at h;subst h;simp[Own.has,TO.has]
 |miter m k v es rest cur=>simp only[cp,Z2]at h;subst h;simp[Own.has,TO.has]
 |que te e xs=>simp only[cp,Z2]at h;subst h;simp[Own.que,Own.has,TO.has]
 |maps te k v es al=>
  simp only[cp,Z2]at h;subst h
  cases al with
  |none=>simp[Own.maps,Own.has,TO.has]
  |some p=>simp[Own.maps,Own.has,TO.has]
 |bar m e xs=>
  simp only[cp,Z2]at h;subst h;simp only[Own.has,TO.has]
  generalize bY V.sz V.enc (.ar m e) xs=l
  induction l with
  |nil=>simp[H.hasL]
  |cons y r ih=>simpa[H.hasL,H.has]using ih
 |alias m=>simp[cp]at h
 |gone l=>simp[cp]at h
theorem bL(S:TS V.N)(n:Nat):(a_ V S).own? n=(S.own? n).bind (cp V S.len):=by
 unfold aB.own? TS.own? a_
 simp only[gH]
 cases gt S.own n with
 |none=>rfl
 |some x=>rfl
theorem G0(S:TS V.N)(t:Nat):(a_ V S).get t=aL V S.len (S.get t):=by
 unfold aB.get TS.get a_
 simp only[gH]
 cases gt S.tmps t with
 |none=>simp[aL]
 |some x=>rfl
theorem db(S:TS V.N)(t:Nat):gt (a_ V S).tmps t=(gt S.tmps t).map (aL V S.len):=by
 unfold a_
 simp only[gH]
theorem eQ{S:TS V.N}{n:Nat}(h:S.fresh n=true):(a_ V S).fresh n=true:=by
 unfold TS.fresh at h
 unfold aB.fresh
 rw[bL]
 simp only[Z8]at h⊢
 obtain⟨⟨h1,h2⟩,h3⟩:=h
 refine⟨⟨?_,?_⟩,?_⟩
 ·cases hq:S.own? n with
  |none=>rfl
  |some o=>rw[hq]at h1;cases h1
 ·unfold a_
  simp only[abU]
  rw[aaf]at h2⊢
  intro x hx
  have:=h2 x hx
  simpa[jo]using this
 ·unfold a_
  simp only[abU]
  rw[aaf]at h3⊢
  intro x hx
  have:=h3 x hx
  simp only[acR]
  cases hq:cp V S.len x.2 with
  |none=>rfl
  |some o=>simp only[kg S.len n hq];exact this
mutual
theorem jn{ω ω':Nat->Nat}:∀v:TV V.N,(∀n,TV.has n v=true->ω' n=ω n)->aL V ω' v=aL V ω v
 | .lf t x,_=>by simp[aL]
 | .raw v,_=>by simp[aL]
 | .bp m off,_=>by simp[aL]
 | .vh m,h=>by simp[aL,h m (by simp[TV.has])]
 | .ep m s i off,_=>by simp[aL]
 | .sv m s i off,_=>by simp[aL]
 | .mp m,_=>by simp[aL]
 | .np m b,_=>by simp[aL]
 | .sd m,_=>by simp[aL]
 | .rp t x off,_=>by simp[aL]
 | .ai m s i off,_=>by simp[aL]
 | .agg cs,h=>by simp only[aL];rw[encL_congr cs λn hn=>h n (by simpa[TV.has]using hn)]
 | .tup vs,h=>by simp only[aL];rw[encL_congr vs λn hn=>h n (by simpa[TV.has]using hn)]
 | .fn f a b,h=>by simp only[aL];rw[encL_congr a λn hn=>h n (by simp[TV.has,hn]),encL_congr b λn hn=>h n (by simp[TV.has,hn])]
 | .junk,_=>by simp[aL]
theorem encL_congr{ω ω':Nat->Nat}:∀l:List (TV V.N),(∀n,TV.hasL n l=true->ω' n=ω n)->encL V ω' l=encL V ω l
 |[],_=>rfl
 |x::r,h=>by
  simp only[encL]
  rw[jn x λn hn=>h n (by simp[TV.hasL,hn]),encL_congr r λn hn=>h n (by simp[TV.hasL,hn])]
end
theorem qz{ω ω':Nat->Nat}(o:TO V.N)(h:∀n,TO.has n o=true->ω' n=ω n):cp V ω' o=cp V ω o:=by
 cases o with
 |box oty cells=>simp only[cp];rw[encL_congr cells h]
 |bst i x=>rfl
 |vec te e xs=>rfl
 |map k v es=>rfl
 |iter s p=>rfl
 |miter m k v es rest cur=>rfl
 |que te e xs=>rfl
 |maps te k v es al=>rfl
 |bar m e xs=>rfl
 |alias m=>rfl
 |gone l=>rfl
end
end Go.Tx
end
section
namespace Go.Tx
open Go.Awp
variable [Inhabited GMem]
structure TE {ι:Type} (N:ι->Type)where
 val:TV N
 acc:List Nat:=[]
 upd:List (Nat×TO N):=[]
 new:List Nat:=[]
section
variable {ι:Type} {N:ι->Type}
def tvc:Value->TV N
 | .int k n=> .lf (.int k) n
 | .bool b=> .lf .bool b
 | .string s=> .lf .str s
 |v=> .raw v
def DM:Operand->Bool
 | .const .nilIface=>true
 |_=>false
def tev(S:TS N):Operand->TV N
 | .tmp t=>S.get t
 | .const v=>tvc v
 | .global g=> .raw (.pointer (some ⟨g,0,none⟩))
 | .func f=> .fn f [] []
def fnT:TV N->TV N
 | .fn f [] []=> .lf .fnc f
 |v=>v
def TV.one:TV N->Bool
 | .lf t _=>t.cell
 | .raw v=>d8 v&&v.oneCell'
 | .bp .. =>true
 | .vh .. =>true
 | .ep .. =>true
 | .sv .. =>true
 | .mp .. =>true
 | .np .. =>true
 | .sd .. =>true
 | .rp .. =>true
 | .fn .. =>true
 |_=>false
def S6(dst:Option Tmp)(x:TV N)(l:List (Nat×TV N)):List (Nat×TV N):=match dst with|some d=>(d,x)::l|none=>l
def TS.app(S:TS N)(dst:Option Tmp)(e:TE N):TS N:={tmps:=S6 dst e.val S.tmps,own:=e.upd++S.own}
end
section
variable (V:iE)
def TF(t:Ty V.ι):dU V.N->dU V.N
 |⟨.fnc,f⟩=>match t with
  | .fno=>⟨.fno,some f⟩
  |_=>⟨.fnc,f⟩
 |l=>l
def l_(ex:Bool)(t:Ty V.ι):TV V.N->Option (dU V.N)
 | .lf t' x=>some (TF V t ⟨t',x⟩)
 | .raw v=>match v,t with
  | .pointer none, .op e=>some ⟨.op e,none⟩
  | .nilFunc, .fno=>some ⟨.fno,none⟩
  | .slice none 0 0, .sl e=>match ex with
   |true=>none
   |false=>some ⟨.sl e,[]⟩
  | .nilIface, .er=>match ex with
   |true=>none
   |false=>some ⟨.er,false⟩
  |_,_=>none
 |_=>none
def dB(ex:Bool):List (Ty V.ι)->List (TV V.N)->Option (List (dU V.N))
 |[],[]=>some []
 |t::ts,x::xs=>match l_ V ex t x,dB ex ts xs with
  |some l,some ls=>some (l::ls)
  |_,_=>none
 |_,_=>none
def GI:Option (TO V.N)->Option (List (TV V.N))
 |some (.box _ cells)=>some cells
 |some (.bst i x)=>some ((V.cells i x).map λl=> .lf l.t l.x)
 |_=>none
def zC(ag:Bool)(off sz:Nat)(ot:Option (Ty V.ι)):Option (TO V.N)->Option (TV V.N)
 |some (.bst i x)=>if ag=true/\off=0/\sz=V.sz i/\ot=some (.st i)then some (.lf (.st i) x)else none
 |some (.bar n e xs)=>if ag=true/\off=0/\sz=tsz V.sz (.ar n e)/\ot=some (.ar n e)then some (.lf (.ar n e) xs)else none
 |_=>none
def Cn(v:TV V.N)(cs:List (TV V.N)):TO V.N:=match v with
 | .lf (.st i) x=> .bst i x
 |_=> .box none cs
def Te:Option (TO V.N)->Option TypeId
 |some (.box o _)=>o
 |_=>none
def Jo(o:Option TypeId)(v:TV V.N)(cs:List (TV V.N)):TO V.N:=match o with
 |none=>Cn V v cs
 |some t=> .box (some t) cs
def mkV(ex:Bool)(ot:Option (Ty V.ι))(cs:List (TV V.N)):TV V.N:=match ot with
 |some (.st i)=>match dB V ex (V.tys i) cs with
  |some ls=>match V.ofCells i ls with
   |some x=> .lf (.st i) x
   |none=> .agg cs
  |none=> .agg cs
 |_=> .agg cs
def Hj(t:TypeId):List (TV V.N)->Option TypeId
 | .raw (.pointer none):: .raw (.slice none 0 0)::_=>some t
 |_=>none
def bJ:(t:Ty V.ι)->den V.N t->List (dU V.N)
 | .st i,x=>V.cells i x
 | .ar n e,xs=>arL (n *tsz V.sz e) ⟨.bool,false⟩ (xs.map λx=>bJ e x).flatten
 |t,x=>[⟨t,x⟩]
def TV.cells:TV V.N->Option (List (TV V.N))
 | .lf t x=>some ((bJ V t x).map λl=> .lf l.t l.x)
 | .raw v=>if d8 v then some [.raw v]else none
 | .agg cs=>some cs
 | .tup _=>none
 | .junk=>none
 |v=>some [v]
def uV{α β:Type}(f:List α->Option β)(sz:Nat):Nat->List α->Option (List β)
 |0,_=>some []
 |n+1,cs=>match f (cs.take sz),uV f sz n (cs.drop sz)with
  |some x,some r=>some (x::r)
  |_,_=>none
def dG(ex:Bool):(e:Ty V.ι)->List (TV V.N)->Option (den V.N e)
 | .st i,cs=>match dB V ex (V.tys i) cs with
  |some ls=>V.ofCells i ls
  |none=>none
 | .ar n e,cs=>if cs.length=n *tsz V.sz e then uV (dG ex e) (tsz V.sz e) n cs else none
 |t,[x]=>match l_ V ex t x with
  |some l=>if h:l.t=t then some (h▸l.x)else none
  |none=>none
 |_,_=>none
def Az(ex:Bool)(ag:Bool)(sz:Nat)(ot:Option (Ty V.ι))(cells:List (TV V.N)):Option (TV V.N):=match ag with
 |true=>if sz<=cells.length then some (mkV V ex ot (cells.take sz))else none
 |false=>cells.head?
def ug(ag:Bool)(sz:Nat)(ot:Option (Ty V.ι))(t:Ty V.ι)(x:den V.N t)(off:Nat):Option (TV V.N):=match ag with
 |true=>if off=0/\ot=some t/\t.cell=false/\sz=tsz V.sz t then some (.lf t x)else match ot with
  |some (.st i)=>if off+sz<=(bJ V t x).length then match V.ofCells i (((bJ V t x).drop off).take sz)with
   |some y=>some (.lf (.st i) y)
   |none=>none
   else none
  |_=>none
 |false=>match((bJ V t x).drop off).head? with
  |some l=>some (.lf l.t l.x)
  |none=>none
def wk(pl:List (Nat×Nat)):List (TV V.N)->List (Nat×TV V.N)->Option (List (TV V.N))
 |cells,[]=>some cells
 |cells,(i,x)::r=>match pl[i]?,TV.cells V x with
  |some (off,sz),some cs=>if cs.length=sz/\off+sz<=cells.length then wk pl (cells.take off++cs++cells.drop (off+cs.length)) r else none
  |_,_=>none
def GY(ex:Bool)(e:Ty V.ι)(x:TV V.N):Option (den V.N e):=match x with
 | .lf t y=>if h:t=e then some (h▸y)else none
 |x=>match TV.cells V x with
  |some cs=>dG V ex e cs
  |none=>none
def TJ(nm:Nat->Nat):Option Tmp->Bool
 |some d=> !(aaX (nm d) d)
 |none=>false
def Bm(ex:Bool)(e:Ty V.ι):Nat->List (Nat×TV V.N)->Option (List (den V.N e))
 |_,[]=>some []
 |i,(j,x)::r=>if i=j then match GY V ex e x,Bm ex e (i+1) r with
   |some y,some ys=>some (y::ys)
   |_,_=>none
  else none
def SE{ι:Type}{N:ι->Type}:dU N->dU N->Bool
 |⟨.int _,a⟩,⟨.int _,b⟩=>Mp.ieq a b
 |⟨.bool,a⟩,⟨.bool,b⟩=>Mp.beq a b
 |⟨.str,a⟩,⟨.str,b⟩=>Mp.seq a b
 |_,_=>false
def Dq{ι:Type}{N:ι->Type}:List (dU N)->List (dU N)->Bool
 |[],[]=>true
 |[a],[b]=>SE a b
 |a::r,b::s=>SE a b&&Dq r s
 |_,_=>false
def keq{ι:Type}{N:ι->Type}(cells:(i:ι)->N i->List (dU N)):(t:Ty ι)->den N t->den N t->Bool
 | .int _=>Mp.ieq
 | .bool=>Mp.beq
 | .str=>Mp.seq
 | .st i=>λx y=>Dq (cells i x) (cells i y)
 |_=>λ_ _=>false
def klt{ι:Type}{N:ι->Type}:(t:Ty ι)->den N t->den N t->Bool
 | .int _=>Mp.ilt
 | .bool=>Mp.blt
 | .str=>Mp.slt
 |_=>λ_ _=>false
def fm{ι:Type}:Option TypeDesc->Ty ι->Bool
 |some (.int k), .int k'=>decide (k=k')
 |some .string, .str=>true
 |some .bool, .bool=>true
 |_,_=>false
def mQ:List D->Option (List Value)
 |[]=>some []
 | .v x::r=>match mQ r with
  |some l=>some (x::l)
  |none=>none
 |_::_=>none
def ofZ(ex:Bool):(t:Ty V.ι)->D->Option (den V.N t)
 | .int k, .v (.int k' n)=>if k=k' then some n else none
 | .bool, .v (.bool b)=>some b
 | .str, .v (.string s)=>some s
 | .sl _, .v (.slice none 0 0)=>match ex with
  |true=>none
  |false=>some []
 | .st i, .agg ds=>match mQ ds with
  |some z=>if z.all d8=true then dG V ex (.st i) (z.map tvc)else none
  |none=>none
 |_,_=>none
def Qy(S:TS V.N):Option Operand->Bool
 |none=>true
 |some x=>match tev S x with
  | .lf (.int _) _=>true
  |_=>false
def KP(S:TS V.N):Option Operand->Int->Option Int
 |some l,_=>match tev S l with
  | .lf (.int _) n=>some n
  |_=>none
 |none,n=>some n
def rf:Operand->Operand->Bool
 | .tmp a, .tmp b=>aaX a b
 |_,_=>false
def most:Nat:=4294967296
variable (P:Program) (nm:Nat->Nat)
abbrev dh:=(A:Type)->Nat->List (TV V.N)->TS V.N->(TE V.N->Option A)->Option A
def QB(P:Program)(t:TypeId):Bool:=match P.underlying t with
 |some .string=>true
 |_=>false
def DO(P:Program)(t e:TypeId):Bool:=match P.underlying t with
 |some (.pointer e')=>aaX e' e
 |_=>false
def L6(P:Program)(t:TypeId):Bool:=match lT P t with
 |some (.v (.int .u8 n))=>n==0
 |_=>false
def zq{A:Type}(b:Builtin)(rt:TypeId)(args:List (TV V.N))(tys:List TypeId)(dst:Option Tmp)(S:TS V.N)(k:TE V.N->Option A):Option A:=match b,args with
 | .len,[.lf (.sl _) xs]=>if dJ P tys=2 then k {val:= .lf (.int .i64) xs.length}else none
 | .len,[.vh n]=>if dJ P tys=2 then k {val:= .lf (.int .i64) (S.len n)}else none
 | .len,[.mp n]=>match S.own? n with
  |some (.map _ _ es)=>if dJ P tys=3 then k {val:= .lf (.int .i64) es.length,acc:=[n]}else none
  |_=>none
 | .len,[.lf .str s]=>if dJ P tys=1 then k {val:= .lf (.int .i64) s.size}else none
 | .min,[.lf (.int kx) a, .lf (.int _) b]=>k {val:= .lf (.int kx) (min a b)}
 | .max,[.lf (.int kx) a, .lf (.int _) b]=>k {val:= .lf (.int kx) (max a b)}
 | .append,[x, .lf (.sl e') news]=>match dst,tys with
  |some d,[t,t']=>match cK P t with
   |some (te,sz,bytes)=>match x with
    | .vh n=>match S.own? n with
     |some (.vec te2 e xs)=>if h:e'=e then
      if t=t'/\te=te2/\sz=tsz V.sz e/\bytes<=32768/\¬n=nm d then
       if xs.length+news.length<=most then k {val:= .vh (nm d),acc:=[n],upd:=[(nm d, .vec te e (xs++h▸news)),(n, .gone xs.length)],new:=[nm d]}else none
      else none
      else none
     |_=>none
    | .raw (.slice none 0 0)=>if t=t'/\sz=tsz V.sz e'/\bytes<=32768 then
       if news.length<=most then k {val:= .vh (nm d),upd:=[(nm d, .vec te e' news)],new:=[nm d]}else none
      else none
    |_=>none
   |none=>none
  |_,_=>none
 | .append,[x, .lf .str s]=>match dst,tys with
  |some d,[t,t']=>match cK P t with
   |some (te,sz,bytes)=>if QB P t'=true/\sz=1/\bytes=1/\L6 P te=true then match x with
    | .vh n=>match S.own? n with
     |some (.vec te2 (.int .u8) xs)=>if te=te2/\¬n=nm d then
      if xs.length+s.size<=most then k {val:= .vh (nm d),acc:=[n],upd:=[(nm d, .vec te (.int .u8) (xs++Bs.ints s)),(n, .gone xs.length)],new:=[nm d]}else none
      else none
     |_=>none
    | .raw (.slice none 0 0)=>if s.size<=most then k {val:= .vh (nm d),upd:=[(nm d, .vec te (.int .u8) (Bs.ints s))],new:=[nm d]}else none
    |_=>none
    else none
   |none=>none
  |_,_=>none
 | .unsafeSliceData,[.vh n]=>match S.own? n with
  |some (.vec _ _ _)=>if lJ P rt=true then k {val:= .sd n,acc:=[n]}else none
  |_=>none
 | .unsafeString,[.sd n, .lf (.int ki) l]=>match S.own? n,tys with
  |some (.vec te (.int .u8) xs),[pt,_]=>if DO P pt te=true/\P.cellsOf te=1/\ki= .i64 then
   if l=xs.length/\xs.length<=most then k {val:= .lf .str (Bs.bytes xs),acc:=[n],upd:=[(n, .gone xs.length)]}else none
   else none
  |_,_=>none
 |_,_=>none
def S7{A:Type}(t:TypeId)(x i y:Operand)(S:TS V.N)(k:TE V.N->Option A):Option A:=match P.underlying t,tev S x,tev S i,tev S y with
 |some (.map kt _), .mp n, .lf tk key, .lf tv z=>match S.own? n with
  |some (.map tk' tv' es)=>if h:tk=tk' then
   if h':tv=tv' then
    if fm (P.underlying kt) tk'=true then k {val:= .junk,acc:=[n],upd:=[(n, .map tk' tv' (Mp.set (keq V.cells tk') (klt tk') (h▸key) (h'▸z) es))]}else none
   else none
   else none
  |_=>none
 |_,_,_,_=>none
def Nb{ι:Type}:Ty ι->Bool
 | .int _=>true
 | .bool=>true
 | .str=>true
 |_=>false
def steps{α:Type}:List α->List (α×List α)
 |[]=>[]
 |a::r=>(a,r)::(steps r).map λq=>(q.1,a::q.2)
open Classical in
noncomputable def same{A:Type}(l:List A):Option A:=
 if h:∃x,l≠[]/\∀a∈l,a=x then some h.choose else none
theorem uY{A:Type}{l:List A}{x:A}:same l=some x↔l≠[]/\∀a∈l,a=x:=by
 unfold same
 constructor
 ·intro h
  split at h
  ·rename_i hx
   cases h
   exact hx.choose_spec
  ·cases h
 ·intro h
  have hx:∃x,l≠[]/\∀a∈l,a=x:=⟨x,h⟩
  rw[dif_pos hx]
  obtain⟨a,ha⟩:=List.exists_mem_of_ne_nil l h.1
  rw[<-h.2 a ha,<-hx.choose_spec.2 a ha]
noncomputable def Mi{α A:Type}(l:List α)(k:α->Option A):Option A:=acB k l>>=same
theorem nq{α A:Type}{k:α->Option A}:∀{l:List α} {xs:List A},acB k l=some xs↔xs.length=l.length/\∀(i:Nat) (a:α),l[i]?=some a->k a=xs[i]?
 |[],xs=>by
  simp only[List.mapM_nil]
  constructor
  ·intro h;cases h;simp
  ·intro h;rw[aaA h.1];rfl
 |a::r,xs=>by
  rw[adc]
  constructor
  ·intro h
   cases hk:k a with
   |none=>rw[hk]at h;cases h
   |some y=>
    rw[hk]at h
    cases hr:acB k r with
    |none=>rw[hr]at h;cases h
    |some ys=>
     rw[hr]at h
     cases h
     obtain⟨h1,h2⟩:=nq.1 hr
     refine⟨by simp[h1],λi b hb=> ?_⟩
     cases i with
     |zero=>simp at hb;subst hb;simpa using hk
     |succ i=>simpa using h2 i b (by simpa using hb)
  ·intro ⟨h1,h2⟩
   cases xs with
   |nil=>simp at h1
   |cons y ys=>
    have hk:=h2 0 a rfl
    have hr:acB k r=some ys:=nq.2 ⟨by simpa using h1,λi b hb=>by simpa using h2 (i+1) b (by simpa using hb)⟩
    simp only[aa4]at hk
    rw[hk,hr];rfl
theorem anyOf_some{α A:Type}{l:List α}{k:α->Option A}{x:A}:Mi l k=some x↔l≠[]/\∀a∈l,k a=some x:=by
 unfold Mi
 constructor
 ·intro h
  cases hm:acB k l with
  |none=>rw[hm]at h;cases h
  |some xs=>
   rw[hm]at h
   obtain⟨h1,h2⟩:=nq.1 hm
   obtain⟨h3,h4⟩:=uY.1 h
   refine⟨λe=>h3 (aaA (by rw[h1,e];rfl)),λa ha=> ?_⟩
   obtain⟨i,hi⟩:=abs ha
   rw[h2 i a hi]
   have:i<xs.length:=by rw[h1];exact(Z4.1 hi).1
   rw[Z3 this,h4 _ (aaQ this)]
 ·intro ⟨h1,h2⟩
  have hm:acB k l=some (l.map λ_=>x):=nq.2 ⟨by simp,λi a hi=>by rw[h2 a (Z_ hi),Z6,hi];rfl⟩
  rw[hm]
  exact uY.2 ⟨by simpa using h1,by simp⟩
theorem F4{α:Type}{l:List α}:∀{i:Nat} {a:α},l[i]?=some a->(a,l.eraseIdx i)∈steps l:=by
 induction l with
 |nil=>intro i a h;simp at h
 |cons x r ih=>
  intro i a h
  cases i with
  |zero=>simp at h;subst h;exact aag
  |succ i=>exact aab _ (aav.2 ⟨_,ih (by simpa using h),rfl⟩)
def xj:BinOp->Option Bool
 | .shl=>some true
 | .shr=>some false
 |_=>none
def tx{A:Type}(call:dh V)(ex:Bool)(o:Oper)(S:TS V.N)(k:TE V.N->Option A):Option A:=match o.op with
 | .move x=>k {val:=tev S x}
 | .assign x=>k {val:=tev S x}
 | .pick c x y=>match tev S c with
  | .lf .bool b=>if b=true then k {val:=tev S x}else k {val:=tev S y}
  |_=>none
 | .alloc t=>match iB P t,o.dst with
  |some z,some d=>if z.all d8=true then k {val:= .bp (nm d) 0,upd:=[(nm d, .box (ub t z) (z.map tvc))],new:=[nm d]}else none
  |_,_=>none
 | .box t x=>match TV.cells V (tev S x),o.dst with
  |some cs,some d=>k {val:= .bp (nm d) 0,upd:=[(nm d,Jo V (Hj V t cs) (tev S x) cs)],new:=[nm d]}
  |_,_=>none
 | .load t x=>match cW P t with
  |some (ag,sz)=>match tev S x with
   | .bp n off=>match zC V ag off sz (V.ty t) (S.own? n)with
    |some v=>k {val:=v,acc:=[n]}
    |none=>match GI V (S.own? n)with
     |some cells=>match Az V ex ag sz (V.ty t) (cells.drop off)with
      |some v=>k {val:=v,acc:=[n]}
      |none=>none
     |none=>none
   | .ep n s i off=>match S.own? n with
    |some (.vec _ e xs)=>if s=tsz V.sz e then xs[i]?>>=λx=>match ug V ag sz (V.ty t) e x off with
     |some v=>k {val:=v,acc:=[n]}
     |none=>none
     else none
    |_=>none
   | .rp t' x off=>match ug V ag sz (V.ty t) t' x off with
    |some v=>k {val:=v}
    |none=>none
   |_=>none
  |none=>none
 | .store t x y=>match cW P t with
  |some (_,sz)=>match tev S x,TV.cells V (tev S y)with
   | .bp n off,some cs=>match GI V (S.own? n)with
    |some cells=>if cs.length=sz/\cs.all TV.one=true/\off+sz<=cells.length then
     if off=0/\sz=cells.length then k {val:= .junk,acc:=[n],upd:=[(n,Jo V (Te V (S.own? n)) (tev S y) cs)]}
     else k {val:= .junk,acc:=[n],upd:=[(n, .box (Te V (S.own? n)) (cells.take off++cs++cells.drop (off+cs.length)))]}
     else none
    |none=>none
   | .ep n s i off,some cs=>match S.own? n with
    |some (.vec te e xs)=>if s=tsz V.sz e/\cs.length=sz/\cs.all TV.one=true/\off+sz<=s then
     xs[i]?>>=λx=>match dG V true e ((((bJ V e x).take off).map λl=> .lf l.t l.x)++cs++(((bJ V e x).drop (off+cs.length)).map λl=> .lf l.t l.x))with
      |some y=>k {val:= .junk,acc:=[n],upd:=[(n, .vec te e (xs.set i y))]}
      |none=>none
     else none
    |_=>none
   |_,_=>none
  |none=>none
 | .nilCheck x=>match tev S x with
  | .bp n off=>k {val:= .bp n off}
  | .ep n s i off=>k {val:= .ep n s i off}
  | .rp t x off=>k {val:= .rp t x off}
  | .np n b=>if b=true then k {val:= .bp n 0}else none
  |_=>none
 | .binOp op xt x y _=>match tev S x,tev S y with
  | .lf (.int kx) a, .lf (.int ky) b=>match xj op with
   |some true=>if 0<=b then k {val:= .lf (.int kx) (Bs.ishl kx a b)}else none
   |some false=>if 0<=b then k {val:= .lf (.int kx) (Bs.ishr kx a b)}else none
   |none=>if kx=ky then match op with
    | .add=>k {val:= .lf (.int kx) (kx.wrap (a+b))}
    | .sub=>k {val:= .lf (.int kx) (kx.wrap (a-b))}
    | .mul=>k {val:= .lf (.int kx) (kx.wrap (a *b))}
    | .eql=>k {val:= .lf .bool (a==b)}
    | .neq=>k {val:= .lf .bool (a !=b)}
    | .lss=>k {val:= .lf .bool (decide (a<b))}
    | .leq=>k {val:= .lf .bool (decide (a<=b))}
    | .gtr=>k {val:= .lf .bool (decide (a>b))}
    | .geq=>k {val:= .lf .bool (decide (a>=b))}
    | .quo=>if b=0 then none else k {val:= .lf (.int kx) (kx.wrap (a.tdiv b))}
    | .rem=>if b=0 then none else k {val:= .lf (.int kx) (a.tmod b)}
    | .and=>k {val:= .lf (.int kx) (Bs.iand kx a b)}
    | .or=>k {val:= .lf (.int kx) (Bs.ior kx a b)}
    | .xor=>k {val:= .lf (.int kx) (Bs.ixor kx a b)}
    | .andNot=>k {val:= .lf (.int kx) (Bs.iandn kx a b)}
    |_=>none
   else none
  | .lf .bool a, .lf .bool b=>match P.underlying xt,op with
   |some .bool, .eql=>k {val:= .lf .bool (a==b)}
   |some .bool, .neq=>k {val:= .lf .bool (!(a==b))}
   |_,_=>none
  | .lf .str a, .lf .str b=>match op with
   | .eql=>k {val:= .lf .bool (a.toList==b.toList)}
   | .neq=>k {val:= .lf .bool (!(a.toList==b.toList))}
   | .add=>if a.size+b.size<=most then k {val:= .lf .str (a++b)}else none
   |_=>none
  | .raw (.slice a _ _), .raw (.slice none 0 0)=>match isSl P xt,op with
   |true, .eql=>k {val:= .lf .bool a.isNone}
   |true, .neq=>k {val:= .lf .bool (!a.isNone)}
   |_,_=>none
  | .lf (.sl _) (_::_), .raw (.slice none 0 0)=>match isSl P xt,op with
   |true, .eql=>k {val:= .lf .bool false}
   |true, .neq=>k {val:= .lf .bool true}
   |_,_=>none
  | .np _ b, .raw (.pointer none)=>match lJ P xt,op with
   |true, .eql=>k {val:= .lf .bool (!b)}
   |true, .neq=>k {val:= .lf .bool b}
   |_,_=>none
  | .lf .er b, .raw .nilIface=>if M8 P xt=true/\DM y=true then match op with
    | .eql=>k {val:= .lf .bool (!b)}
    | .neq=>k {val:= .lf .bool b}
    |_=>none
   else none
  |_,_=>none
 | .makeInterface t _=>match N0 P t with
  |true=>k {val:= .lf .er true}
  |false=>none
 | .unOp op _ x=>match op,tev S x with
  | .not, .lf .bool b=>k {val:= .lf .bool (!b)}
  | .neg, .lf (.int ki) n=>k {val:= .lf (.int ki) (ki.wrap (0-n))}
  |_,_=>none
 | .convert s t x=>match P.underlying s,P.underlying t,tev S x with
  |some _,some (.int ki), .lf (.int _) n=>k {val:= .lf (.int ki) (ki.wrap n)}
  |some _,some .string, .lf (.int _) n=>k {val:= .lf .str (Bs.enc1 n)}
  |some .string,some (.slice e), .lf .str x=>match P.underlying e,o.dst with
   |some (.int .i32),some d=>if x.size<=most then k {val:= .vh (nm d),upd:=[(nm d, .vec e (.int .i32) (Bs.runes x))],new:=[nm d]}else none
   |some (.int .u8),_=>k {val:= .lf (.sl (.int .u8)) (Bs.ints x)}
   |_,_=>none
  |some (.slice e),some .string, .lf (.sl (.int ik)) xs=>match P.underlying e,ik with
   |some (.int .i32), .i32=>k {val:= .lf .str (Bs.text xs)}
   |some (.int .u8), .u8=>k {val:= .lf .str (Bs.bytes xs)}
   |_,_=>none
  |some (.slice e),some .string, .raw (.slice none 0 0)=>match P.underlying e with
   |some (.int .i32)=>k {val:= .lf .str abh}
   |some (.int .u8)=>k {val:= .lf .str abh}
   |_=>none
  |_,_,_=>none
 | .build t parts=>match iB P t,places P t with
  |some z,some pl=>if z.all d8=true then match wk V pl (z.map tvc) (parts.toList.map λ(i,x)=>(i,tev S x))with
   |some cs=>match TJ nm o.dst with
    |true=>k {val:= .agg cs}
    |false=>k {val:=mkV V ex (V.ty t) cs}
   |none=>none
   else none
  |_,_=>none
 | .buildSlice t len parts=>match cK P t,V.ty t with
  |some (te,sz,_),some (.sl e)=>if sz=tsz V.sz e then match Bm V ex e 0 (parts.toList.map λ(i,x)=>(i,fnT (tev S x)))with
   |some ys=>if parts.toList.length=len/\len *sz<=16777216 then match o.dst with
    |some d=>if nm d=d then k {val:= .lf (.sl e) ys}else k {val:= .vh (nm d),upd:=[(nm d, .vec te e ys)],new:=[nm d]}
    |none=>k {val:= .lf (.sl e) ys}
    else none
   |none=>none
   else none
  |_,_=>none
 | .makeSlice t l c=>match cK P t,V.ty t,o.dst with
  |some (te,sz,bytes),some (.sl e),some d=>match iB P te,tev S l,tev S c with
   |some z, .lf (.int _) n, .lf (.int _) m=>match dG V ex e (z.map tvc)with
    |some y=>if sz=tsz V.sz e/\bytes<=32768/\z.all d8=true then
     match rf l c with
     |true=>if 0<=m then
      if m<=4294967296 then k {val:= .vh (nm d),upd:=[(nm d, .vec te e (aak m.toNat y))],new:=[nm d]}else none
      else none
     |false=>if n=0 then
      if 0<=m then
       if m<=4294967296 then k {val:= .vh (nm d),upd:=[(nm d, .vec te e [])],new:=[nm d]}else none
      else none
      else none
     else none
    |none=>none
   |_,_,_=>none
  |_,_,_=>none
 | .makeMap t hint=>match P.underlying t,o.dst with
  |some (.map kt et),some d=>match V.ty kt,V.ty et with
   |some tk,some tv=>if Qy V S hint=true then k {val:= .mp (nm d),upd:=[(nm d, .map tk tv [])],new:=[nm d]}else none
   |_,_=>none
  |_,_=>none
 | .lookup t x i c=>match P.underlying t,tev S x,tev S i with
  |some (.map kt et), .mp n, .lf tk key=>match S.own? n,lT P et with
   |some (.map tk' tv es),some d=>match ofZ V ex tv d with
    |some z=>if h:tk=tk' then
     if fm (P.underlying kt) tk'=true then match c with
      |true=>k {val:= .tup [.lf tv ((Mp.get (keq V.cells tk') (h▸key) es).getD z), .lf .bool (Mp.get (keq V.cells tk') (h▸key) es).isSome],acc:=[n]}
      |false=>k {val:= .lf tv ((Mp.get (keq V.cells tk') (h▸key) es).getD z),acc:=[n]}
     else none
     else none
    |none=>none
   |_,_=>none
  |_,_,_=>none
 | .range t x=>match P.underlying t,tev S x,o.dst with
  |some .string, .lf .str s,some d=>k {val:= .bp (nm d) 0,upd:=[(nm d, .iter s 0)],new:=[nm d]}
  |some (.map _ _), .mp m,some d=>match S.own? m with
   |some (.map tk tv es)=>k {val:= .bp (nm d) 0,acc:=[m],upd:=[(nm d, .miter m tk tv es es none),(m, .gone 0)],new:=[nm d]}
   |_=>none
  |_,_,_=>none
 | .next x true=>match tev S x with
  | .bp n 0=>match S.own? n with
   |some (.iter s p)=>if 0<=p then
    if p<s.size then k {val:= .tup [.lf .bool true, .lf (.int .i64) p, .lf (.int .i32) (Bs.dec s p)],acc:=[n],upd:=[(n, .iter s (p+Bs.wid s p))]}
    else k {val:= .tup [.lf .bool false],acc:=[n]}
    else none
   |_=>none
  |_=>none
 | .entry x=>match tev S x with
  | .bp n 0=>match S.own? n with
   |some (.miter _ tk tv _ _ (some p))=>if Nb tk=true then k {val:= .tup [.lf tk p.1, .lf tv p.2],acc:=[n]}else none
   |_=>none
  |_=>none
 | .mapUpdate t x i y=>S7 V P t x i y S k
 | .insert t x i y=>S7 V P t x i y S k
 | .fieldAddr s x f=>match r8 P s f with
  |some fo=>match tev S x with
   | .bp n off=>k {val:= .bp n (off+fo)}
   | .ep n sz i off=>k {val:= .ep n sz i (off+fo)}
   | .rp t x off=>if off+fo<=(bJ V t x).length then k {val:= .rp t x (off+fo)}else none
   |_=>none
  |none=>none
 | .field s x f=>match r9 P s f,tev S x with
  |some (off,ag,sz), .lf t y=>if t.cell=false then match ug V ag sz (match P.underlying s with|some (.struct fs)=>(fs[f]?).bind λfd=>V.ty fd.type|_=>none) t y off with
   |some v=>k {val:=v}
   |none=>none
   else none
  |some (off,ag,sz), .agg cs=>match Az V ex ag sz (match P.underlying s with|some (.struct fs)=>(fs[f]?).bind λfd=>V.ty fd.type|_=>none) (cs.drop off)with
   |some v=>k {val:=v}
   |none=>none
  |_,_=>none
 | .indexAddr t x i=>match cK P t with
  |some (_,sz,_)=>match tev S x,tev S i with
   | .lf (.sl e) xs, .lf (.int _) n=>if sz=tsz V.sz e then
     if 0<=n then xs[n.toNat]?>>=λx=>k {val:= .rp e x 0}else none
    else none
   | .vh m, .lf (.int _) n=>match S.own? m with
    |some (.vec _ _ xs)=>if 0<=n/\n<xs.length then k {val:= .ep m sz n.toNat 0,acc:=[m]}else none
    |_=>none
   |_,_=>none
  |none=>none
 | .index t x i=>match P.underlying t,tev S x,tev S i with
  |some .string, .lf .str s, .lf (.int _) n=>if 0<=n then s[n.toNat]?>>=λb=>k {val:= .lf (.int .u8) b.toNat}else none
  |_,_,_=>none
 | .slice t x lo hi none=>match P.underlying t,tev S x with
  |some .string, .lf .str s=>match KP V S lo 0,KP V S hi s.size with
   |some l,some h=>if 0<=l/\l<=h/\h<=s.size then k {val:= .lf .str (s.extract l.toNat h.toNat)}else none
   |_,_=>none
  |some (.slice _), .lf (.sl e) xs=>match cK P t,KP V S lo 0,KP V S hi xs.length with
   |some (_,sz',_),some l,some h=>if sz'=tsz V.sz e then
    if 0<=l/\l<=h/\h<=xs.length then k {val:= .lf (.sl e) ((xs.take h.toNat).drop l.toNat)}else none
    else none
   |_,_,_=>none
  |_,_=>none
 | .extract x i=>match tev S x with
  | .tup vs=>match vs[i]? with
   |some v=>k {val:=v}
   |none=>none
  |_=>none
 | .makeFunc (.func f) first captured=>k {val:= .fn f (first.toList.map (tev S)) (captured.toList.map (tev S))}
 | .call c=>match c.callee with
  | .value f=>match tev S f with
   | .fn fid first captured=>call A fid (first++c.args.toList.map (tev S)++captured) S k
   | .lf .fnc fid=>call A fid (c.args.toList.map (tev S)) S k
   | .lf .fno x=>x>>=λfid=>call A fid (c.args.toList.map (tev S)) S k
   |_=>none
  | .builtin b=>zq V P nm b o.type (c.args.toList.map (tev S)) c.argTypes.toList o.dst S k
  |_=>none
 |_=>none
end
end Go.Tx
end
section
namespace Go.Tx
open Go.Awp
variable [Inhabited GMem]
structure ELe (ex:Bool) (e' e:Eff):Prop where
 val:H.le e'.val e.val
 new:e'.new=e.new
 none:∀n,gt e.upd n=none->gt e'.upd n=none
 some:∀n o,gt e.upd n=some (some o)->∃o',gt e'.upd n=some (some o')/\OLe o' o
 eq:ex=true->e'.val=e.val/\e'.upd=e.upd/\e'.acc=e.acc
theorem Sim.le{C:Ctx}{E:Env}{M:Mem}{S S':aB}{a:Act}{w:World}(h:Sim C E M S a w)
 (ht:∀t x,gt S'.tmps t=some x->∃y,gt S.tmps t=some y/\H.le y x)(ho:∀n o,S'.own? n=some o->∃o',S.own? n=some o'/\OLe o' o):Sim C E M S' a w:=
 { h with
   tmps:=λt x hx=>by
    obtain⟨y,hy,hle⟩:=ht t x hx
    obtain⟨v,hv,hr⟩:=h.tmps t y hy
    exact⟨v,hv,hle E M v hr⟩
   own:=λn o hn=>by
    obtain⟨o',ho',hle⟩:=ho n o hn
    exact hle.ok E M w n (h.own n o' ho')
   apart:=λn m o o' b hne hn hm hb hb'=>by
    obtain⟨o1,h1,l1⟩:=ho n o hn
    obtain⟨o2,h2,l2⟩:=ho m o' hm
    exact h.apart n m o1 o2 b hne h1 h2 (l1.foot E M w n b (h.own n o1 h1) hb) (l2.foot E M w m b (h.own m o2 h2) hb')
   home:=λn o b hn hb=>by
    obtain⟨o1,h1,l1⟩:=ho n o hn
    exact h.home n o1 b h1 (l1.foot E M w n b (h.own n o1 h1) hb)}
theorem H.le.junk(x:H):H.le x .junk:=λ_ _ v _=> .junk v
theorem OLe.box{o o':Option TypeId}(ho:o=none\/o=o'){l l':List H}(hl:l'.length=l.length)(h:∀(i:Nat) (x:H),l[i]?=some x->∃y,l'[i]?=some y/\H.le y x):OLe (.box o' l') (.box o l):=by
 refine⟨?_,λ_ _ _ _ _ _ h=>h⟩
 rintro E M w n ⟨b,cs,ty,h1,h2,h3,h4,h5,h6⟩
 refine⟨b,cs,ty,h1,h2,by omega,λi c x hc hx=> ?_,h5,λt ht=>by
  rcases ho with ho|ho
  ·rw[ho]at ht;cases ht
  ·rw[ho]at ht;exact h6 t ht⟩
 obtain⟨y,hy,hle⟩:=h i x hx
 exact hle E M c (h4 i c y hc hy)
section
variable {V:iE}
def gA(ω:Nat->Nat)(e:TE V.N):Eff:={val:=aL V ω e.val,acc:=e.acc,upd:=e.upd.map λp=>(p.1,cp V ω p.2),new:=e.new}
def good(S:TS V.N)(e:TE V.N):Prop:=∀m o,gt e.upd m=some o->m∈e.new\/TO.len (some o)=S.len m
theorem m7(S:TS V.N)(dst:Option Tmp)(e:TE V.N)(n:Nat):(S.app dst e).own? n=match gt e.upd n with
 |some o=>some o
 |none=>S.own? n:=by
 unfold TS.app TS.own?
 simp only[e_]
 cases gt e.upd n<;>rfl
theorem d5(S:TS V.N)(dst:Option Tmp)(e:TE V.N)(n:Nat):(S.app dst e).len n=match gt e.upd n with
 |some o=>TO.len (some o)
 |none=>S.len n:=by
 unfold TS.len
 rw[m7]
 cases gt e.upd n<;>rfl
theorem fresh_tmp{S:TS V.N}{n:Nat}(h:S.fresh n=true){t:Nat}{x:TV V.N}(hx:gt S.tmps t=some x):TV.has n x=false:=by
 simp[TS.fresh]at h;exact h.1.2 _ _ (cV hx)
theorem fresh_own{S:TS V.N}{n:Nat}(h:S.fresh n=true){m:Nat}{o:TO V.N}(ho:S.own? m=some o):TO.has n o=false:=by
 simp[TS.fresh]at h;exact h.2 _ _ (cV ho)
theorem GC{S:TS V.N}{dst:Option Tmp}{te:TE V.N}(hg:good S te)(hn:∀d∈te.new,S.fresh d=true):
 (∀t v,gt S.tmps t=some v->aL V (S.app dst te).len v=aL V S.len v)/\(∀n o,S.own? n=some o->cp V (S.app dst te).len o=cp V S.len o):=by
 have keep:∀n,n∉te.new->(S.app dst te).len n=S.len n:=by
  intro n hnn
  rw[d5]
  cases hu:gt te.upd n with
  |none=>rfl
  |some o=>exact(hg n o hu).resolve_left hnn
 refine⟨λt v hv=>jn v λn hnv=>keep n λhd=> ?_,λn o ho=>qz o λm hm=>keep m λhd=> ?_⟩
 ·rw[fresh_tmp (hn n hd) hv]at hnv;cases hnv
 ·rw[fresh_own (hn m hd) ho]at hm;cases hm
theorem r7{S:TS V.N}{dst:Option Tmp}{te:TE V.N}(hg:good S te)(hn:∀d∈te.new,S.fresh d=true):
 (∀t,gt (a_ V (S.app dst te)).tmps t=gt ((a_ V S).app dst (gA (S.app dst te).len te)).tmps t)/\
 (∀n,(a_ V (S.app dst te)).own? n=((a_ V S).app dst (gA (S.app dst te).len te)).own? n):=by
 obtain⟨k1,k2⟩:=GC (dst:=dst) hg hn
 refine⟨λt=> ?_,λn=> ?_⟩
 ·rw[db]
  have:gt (S.app dst te).tmps t=if dst=some t then some te.val else gt S.tmps t:=by
   unfold TS.app S6
   cases dst with
   |none=>simp
   |some d=>simp only[aH,Z2]
  rw[this]
  simp only[aB.app,s_]
  cases dst with
  |none=>
   simp only[reduceCtorEq,adA,db]
   cases hq:gt S.tmps t with
   |none=>rfl
   |some v=>simp only[aau];rw[k1 t v hq]
  |some d=>
   simp only[aH,Z2,db]
   by_cases hd:d=t
   ·rw[adD hd,adD hd];rfl
   ·rw[adC hd,adC hd]
    cases hq:gt S.tmps t with
    |none=>rfl
    |some v=>simp only[aau];rw[k1 t v hq]
 ·rw[bL,m7]
  simp only[aB.own?,aB.app,e_]
  have hu:gt (gA (S.app dst te).len te).upd n=(gt te.upd n).map (cp V (S.app dst te).len):=by simp only[gA,gH]
  rw[hu]
  cases hq:gt te.upd n with
  |some o=>rfl
  |none=>
   simp only[aca]
   have:=bL S n
   unfold aB.own? at this
   rw[this]
   cases ho:S.own? n with
   |none=>rfl
   |some o=>simp only[ZY];rw[k2 n o ho]
theorem Sim.tapp{C:Ctx}{E:Env}{M:Mem}{S:TS V.N}{dst:Option Tmp}{te:TE V.N}{e':Eff}{a:Act}{w:World}{ex:Bool}(hg:good S te)(hn:∀d∈te.new,S.fresh d=true)
 (hle:ELe ex e' (gA (S.app dst te).len te))(hs:Sim C E M ((a_ V S).app dst e') a w):Sim C E M (a_ V (S.app dst te)) a w:=by
 obtain⟨h1,h2⟩:=r7 (dst:=dst) hg hn
 refine Sim.le hs (λt x hx=> ?_) (λn o ho=> ?_)
 ·rw[h1]at hx
  simp only[aB.app,s_]at hx⊢
  cases dst with
  |none=>exact⟨x,hx,H.le.refl _⟩
  |some d=>
   simp only[aH]at hx⊢
   by_cases hd:d=t
   ·rw[adD hd]at hx⊢;simp at hx;subst hx;exact⟨_,rfl,hle.val⟩
   ·rw[adC hd]at hx⊢;exact⟨x,hx,H.le.refl _⟩
 ·rw[h2]at ho
  simp only[aB.own?,aB.app,e_]at ho⊢
  cases hu:gt (gA (S.app dst te).len te).upd n with
  |none=>
   rw[hu]at ho
   rw[hle.none n hu]
   exact⟨o,ho,OLe.refl _⟩
  |some oo=>
   rw[hu]at ho
   simp at ho
   subst ho
   obtain⟨o',k1,k2⟩:=hle.some n o hu
   exact⟨o',by rw[k1];rfl,k2⟩
theorem aI(S:TS V.N)(x:Operand):ev (a_ V S) x=aL V S.len (tev S x):=by
 cases x with
 |tmp t=>exact G0 S t
 |const v=>cases v<;>simp[ev,tev,tvc,aL,bC,cx]
 |global g=>simp[ev,tev,aL,cx]
 |func f=>simp[ev,tev,aL,encL]
theorem jT(ω:Nat->Nat)(i:V.ι)(x:V.N i):aL V ω (.lf (.st i) x)= .d (.agg (V.enc i x)):=by simp only[aL,bC]
theorem c6:∀(t:Ty V.ι) (x:den V.N t),bY V.sz V.enc t x=(bJ V t x).map λl=>bC V.sz V.enc l.t l.x
 | .st i,x=>by simp only[bY,bJ];exact V.enc_cells i x
 | .ar n e,xs=>by
  simp only[bY,bJ,Mk,List.map_flatten,aaF]
  congr 2
  exact aay λx _=>c6 e x
 | .int _,x=>rfl
 | .bool,x=>rfl
 | .str,x=>rfl
 | .sl e,x=>rfl
 | .mp k v,x=>rfl
 | .er,x=>rfl
 | .op e,x=>rfl
 | .fnc,x=>rfl
 | .fno,x=>rfl
theorem gU(t:Ty V.ι)(x:den V.N t):(bJ V t x).length=tsz V.sz t:=by
 cases t with
 |st i=>exact V.len_cells i x
 |ar n e=>exact Mj _ _ _
 |_=>rfl
theorem cC(t:Ty V.ι)(x:den V.N t):(bY V.sz V.enc t x).length=tsz V.sz t:=by
 rw[c6,Z7,gU]
theorem Ml{α:Type}{m:Nat}{pad y:α}{l:List α}(h:y∈arL m pad l):y∈l\/y=pad:=by
 unfold arL at h
 rcases aa9.1 (aa2 h)with h|h
 ·exact .inl h
 ·exact .inr (acN.1 h).2
theorem po:∀(t:Ty V.ι) (x:den V.N t),∀l∈bJ V t x,l.t.cell=true
 | .st i,x=>V.one_cells i x
 | .ar n e,xs=>λl hl=>by
  rcases Ml hl with h|h
  ·obtain⟨c,h1,h2⟩:=List.mem_flatten.1 h
   obtain⟨x,_,rfl⟩:=aav.1 h1
   exact po e x l h2
  ·subst h;rfl
 | .int _,x=>by simp[bJ,Ty.cell]
 | .bool,x=>by simp[bJ,Ty.cell]
 | .str,x=>by simp[bJ,Ty.cell]
 | .sl e,x=>by simp[bJ,Ty.cell]
 | .mp k v,x=>by simp[bJ,Ty.cell]
 | .er,x=>by simp[bJ,Ty.cell]
 | .op e,x=>by simp[bJ,Ty.cell]
 | .fnc,x=>by simp[bJ,Ty.cell]
 | .fno,x=>by simp[bJ,Ty.cell]
theorem tM{l:dU V.N}(h:l.t.cell=true):(H.d (bC V.sz V.enc l.t l.x)).one=true:=by
 obtain⟨t,x⟩:=l
 cases t<;>first|(simp[Ty.cell]at h;done)|rfl|exact N6 _|exact Hb _
theorem r_{ω:Nat->Nat}(v:TV V.N):aL V ω (fnT v)=fnD (aL V ω v):=by
 unfold fnT
 split
 ·simp[aL,encL,fnD,bC]
 ·rename_i hno
  cases v with
  |fn f a b=>
   simp only[aL]
   unfold fnD
   split
   ·rename_i h
    cases a with
    |nil=>cases b with
     |nil=>exact(hno f rfl).elim
     |cons _ _=>simp[encL]at h
    |cons _ _=>simp[encL]at h
   ·rfl
  |agg cs=>simp only[aL,cR];split<;>rfl
  |raw v=>cases v<;>rfl
  |_=>rfl
theorem Av(x:Option Nat):(H.d (Lu x)).cells=some [H.d (Lu x)]:=by cases x<;>rfl
theorem E5(x:Option (List D)):(H.d (opD x)).cells=some [H.d (opD x)]:=by cases x<;>rfl
theorem dQ{ω:Nat->Nat}{v:TV V.N}{cs:List (TV V.N)}(h:TV.cells V v=some cs):(aL V ω v).cells=some (encL V ω cs):=by
 cases v with
 |lf t x=>
  simp only[TV.cells,Z2]at h
  subst h
  have e:encL V ω ((bJ V t x).map λl=>TV.lf l.t l.x)=(bY V.sz V.enc t x).map H.d:=by
   rw[c6,aU,aaF,aaF]
   exact aay λl _=>by simp[aL]
  rw[e]
  cases t with
  |op e=>simp only[aL,bC,bY,E5,aac,aaT]
  |fno=>simp only[aL,bC,bY,Av,aac,aaT]
  |_=>simp[aL,bC,bY,H.cells,d8]
 |raw v=>
  simp only[TV.cells]at h
  split at h
  ·rename_i hc
   simp at h;subst h
   cases v<;>first|(simp[d8]at hc;done)|simp[aL,encL,cx,H.cells,d8]
  ·cases h
 |agg cs'=>
  simp only[TV.cells,Z2]at h
  subst h
  simp only[aL,cR]
  split
  ·rename_i ds hds
   simp only[H.cells]
   congr 1
   obtain⟨h1,h2⟩:=fq hds
   apply abp
   intro i
   rw[h2,Z6]
  ·rfl
 |tup vs=>simp[TV.cells]at h
 |junk=>simp[TV.cells]at h
 |rp t x off=>simp[TV.cells]at h;subst h;simp[aL,encL,H.cells]
 |bp n off=>simp[TV.cells]at h;subst h;simp[aL,encL,H.cells]
 |vh n=>simp[TV.cells]at h;subst h;simp[aL,encL,H.cells]
 |ep n s i off=>simp[TV.cells]at h;subst h;simp[aL,encL,H.cells]
 |sv n s i off=>simp[TV.cells]at h;subst h;simp[aL,encL,H.cells]
 |mp n=>simp[TV.cells]at h;subst h;simp[aL,encL,H.cells]
 |np n b=>simp[TV.cells]at h;subst h;simp[aL,encL,H.cells]
 |sd n=>simp[TV.cells]at h;subst h;simp[aL,encL,H.cells]
 |fn f a b=>simp[TV.cells]at h;subst h;simp[aL,encL,H.cells]
 |ai n s i off=>simp[TV.cells]at h;subst h;simp[aL,encL,H.cells]
theorem E4{ω:Nat->Nat}{v:TV V.N}(h:v.one=true):(aL V ω v).one=true:=by
 cases v with
 |lf t x=>simp only[TV.one]at h;simp only[aL];exact tM (l:=⟨t,x⟩) h
 |raw v=>
  simp only[TV.one,Z8]at h
  cases v<;>first|(simp[d8]at h;done)|(simp only[aL,cx,H.one,D.one];exact h.2)
 |agg cs=>simp[TV.one]at h
 |tup cs=>simp[TV.one]at h
 |junk=>simp[TV.one]at h
 |_=>simp[aL,H.one,D.one]
theorem ft{ω:Nat->Nat}{l:List (TV V.N)}(h:l.all TV.one=true):(encL V ω l).all H.one=true:=by
 rw[aU,abU]
 rw[aaf]at h⊢
 exactλx hx=>E4 (h x hx)
theorem yn(t:Ty V.ι)(l:dU V.N):bC V.sz V.enc (TF V t l).t (TF V t l).x=bC V.sz V.enc l.t l.x:=by
 obtain⟨t',x⟩:=l
 cases t'<;>try rfl
 cases t<;>rfl
theorem dc{ω:Nat->Nat}{ex:Bool}:∀{ts:List (Ty V.ι)} {cs:List (TV V.N)} {ls:List (dU V.N)},dB V ex ts cs=some ls->
 ∃ds,encL V ω cs=ds.map H.d/\D.Les ds (ls.map λl=>bC V.sz V.enc l.t l.x)/\(ex=true->ds=ls.map λl=>bC V.sz V.enc l.t l.x)
 |[],[],ls,h=>by simp[dB]at h;subst h;exact⟨[],rfl, .nil,λ_=>rfl⟩
 |[],_::_,ls,h=>by simp[dB]at h
 |_::_,[],ls,h=>by simp[dB]at h
 |t::ts,x::xs,ls,h=>by
  simp only[dB]at h
  split at h
  ·rename_i l ls' h1 h2
   simp at h;subst h
   obtain⟨ds,e1,e2,e3⟩:=dc (ω:=ω) h2
   cases x with
   |lf t' y=>
    simp only[l_,Z2]at h1;subst h1
    exact⟨bC V.sz V.enc t' y::ds,by simp[encL,aL,e1], .cons ((yn (V:=V) t ⟨t',y⟩)▸D.le.refl _) e2,λhx=>by simp[e3 hx,yn]⟩
   |raw v=>
    simp only[l_]at h1
    split at h1
    ·simp at h1;subst h1
     exact⟨.v (.pointer none)::ds,by simp[encL,aL,cx,e1], .cons (D.le.refl _) e2,λhx=>by rw[e3 hx];rfl⟩
    ·simp at h1;subst h1
     exact⟨.v .nilFunc::ds,by simp[encL,aL,cx,e1], .cons (D.le.refl _) e2,λhx=>by rw[e3 hx];rfl⟩
    ·split at h1
     ·cases h1
     ·simp at h1;subst h1
      exact⟨.v (.slice none 0 0)::ds,by simp[encL,aL,cx,e1], .cons (D.le.nil _) e2,λhx=>by simp at hx⟩
    ·split at h1
     ·cases h1
     ·simp at h1;subst h1
      exact⟨.v .nilIface::ds,by simp[encL,aL,cx,e1], .cons D.le.ern e2,λhx=>by simp at hx⟩
    ·cases h1
   |_=>simp[l_]at h1
  ·cases h
theorem dV(ds:List D):gD (ds.map H.d)=some ds:=by
 induction ds with
 |nil=>rfl
 |cons x r ih=>simp[gD,ih]
theorem iX{ω:Nat->Nat}{ex:Bool}{ot:Option (Ty V.ι)}{cs:List (TV V.N)}:H.le (cR (encL V ω cs)) (aL V ω (mkV V ex ot cs))/\(ex=true->cR (encL V ω cs)=aL V ω (mkV V ex ot cs)):=by
 unfold mkV
 have dflt:H.le (cR (encL V ω cs)) (aL V ω (.agg cs))/\(ex=true->cR (encL V ω cs)=aL V ω (.agg cs)):=by
  rw[aL];exact⟨H.le.refl _,λ_=>rfl⟩
 split
 ·rename_i i
  split
  ·rename_i ls hls
   split
   ·rename_i x hx
    obtain⟨ds,e1,e2,e3⟩:=dc (ω:=ω) hls
    have hc:=V.of_cells i ls x hx
    have he:aL V ω (.lf (.st i) x)= .d (.agg (ls.map λl=>bC V.sz V.enc l.t l.x)):=by
     rw[jT,V.enc_cells,hc]
    rw[e1,cR,dV,he]
    exact⟨H.le.d (D.le.agg e2),λh=>by rw[e3 h]⟩
   ·exact dflt
  ·exact dflt
 ·exact dflt
theorem jY{ω:Nat->Nat}{ex ag:Bool}{sz:Nat}{ot:Option (Ty V.ι)}{cells:List (TV V.N)}{v:TV V.N}(h:Az V ex ag sz ot cells=some v):
 ∃x,fw ag sz (encL V ω cells)=some x/\H.le x (aL V ω v)/\(ex=true->x=aL V ω v):=by
 cases ag with
 |true=>
  simp only[Az]at h
  split at h
  ·rename_i hle
   simp at h;subst h
   refine⟨cR (encL V ω (cells.take sz)),?_,iX⟩
   simp only[fw,aU,Z7]
   rw[adD hle,aa6]
  ·cases h
 |false=>
  simp only[Az]at h
  cases cells with
  |nil=>simp at h
  |cons c r=>simp at h;subst h;exact⟨aL V ω c,by simp[fw,encL],H.le.refl _,λ_=>rfl⟩
theorem fI{ω:Nat->Nat}{ag:Bool}{sz:Nat}{ot:Option (Ty V.ι)}{t:Ty V.ι}{x:den V.N t}{off:Nat}{v:TV V.N}(h:ug V ag sz ot t x off=some v):
 ∃d,dY ag sz ((bY V.sz V.enc t x).drop off)=some d/\aL V ω v= .d d:=by
 cases ag with
 |true=>
  simp only[ug]at h
  split at h
  ·rename_i hc
   obtain⟨h1,h2,h3,h4⟩:=hc
   simp at h;subst h
   subst h1;subst h4
   have hl:=cC t x
   refine⟨.agg (bY V.sz V.enc t x),?_,?_⟩
   ·simp only[dY,aap]
    rw[adD (by omega),aaI (by omega)]
   ·cases t<;>first|(simp[Ty.cell]at h3;done)|simp[aL,bC,bY]
  ·split at h
   ·split at h
    ·rename_i hle
     split at h
     ·rename_i y hy
      simp at h;subst h
      have hc:=V.of_cells _ _ _ hy
      refine⟨.agg (((bY V.sz V.enc t x).drop off).take sz),?_,?_⟩
      ·simp only[dY]
       rw[adD (by rw[aaE,cC];rw[gU]at hle;omega)]
      ·rw[jT,V.enc_cells,hc,c6,aa6,aa7]
     ·cases h
    ·cases h
   ·cases h
 |false=>
  simp only[ug]at h
  split at h
  ·rename_i l hl
   simp at h;subst h
   refine⟨bC V.sz V.enc l.t l.x,?_,by simp[aL]⟩
   simp only[dY,c6]
   rw[<-aa7,List.head?_map,hl];rfl
  ·cases h
theorem tN(ω:Nat->Nat)(n:Nat)(l:List (TV V.N)):encL V ω (l.take n)=(encL V ω l).take n:=by simp[aU,aa6]
theorem iK(ω:Nat->Nat)(n:Nat)(l:List (TV V.N)):encL V ω (l.drop n)=(encL V ω l).drop n:=by simp[aU,aa7]
theorem gk(ω:Nat->Nat)(l m:List (TV V.N)):encL V ω (l++m)=encL V ω l++encL V ω m:=by simp[aU]
theorem bE(ω:Nat->Nat)(l:List (TV V.N)):(encL V ω l).length=l.length:=by simp[aU]
theorem g_{ω:Nat->Nat}{pl:List (Nat×Nat)}:∀{parts:List (Nat×TV V.N)} {cells cs:List (TV V.N)},wk V pl cells parts=some cs->
 oz pl (encL V ω cells) (parts.map λp=>(p.1,aL V ω p.2))=some (encL V ω cs)
 |[],cells,cs,h=>by simp[wk]at h;subst h;rfl
 |(i,x)::r,cells,cs,h=>by
  simp only[wk]at h
  split at h
  ·rename_i off sz cc h1 h2
   split at h
   ·rename_i hc
    have ih:=g_ (ω:=ω) h
    simp only[aac,oz,h1,dQ (ω:=ω) h2,bE]
    rw[adD hc]
    simp only[eK,bE]
    rw[gk,gk,tN,iK]at ih
    exact ih
   ·cases h
  ·cases h
theorem D.Les.app{a b c d:List D}(h:D.Les a b)(k:D.Les c d):D.Les (a++c) (b++d):=by
 induction h with
 |nil=>exact k
 |cons h _ ih=>exact .cons h ih
theorem GD{α:Type}{m:Nat}{pad:α}{l:List α}(h:l.length=m):arL m pad l=l:=by
 unfold arL
 rw[abC (by omega),aaI (by omega)]
theorem tT{α:Type}{sz:Nat}:∀{l:List (List α)},(∀r∈l,r.length=sz)->l.flatten.length=l.length *sz
 |[],_=>by simp
 |r::l,h=>by
  rw[abo,aas,h r aag,tT λq hq=>h q (aab _ hq),aaa,aaH,Nat.add_comm]
theorem uW{α β:Type}{f:List α->Option β}{sz:Nat}:∀{n:Nat} {cs:List α} {r:List β},uV f sz n cs=some r->r.length=n
 |0,cs,r,h=>by simp[uV]at h;subst h;rfl
 |n+1,cs,r,h=>by
  simp only[uV]at h
  split at h
  ·rename_i x r' h1 h2
   cases h
   simp[uW h2]
  ·cases h
theorem ej{ω:Nat->Nat}{ex:Bool}:∀{e:Ty V.ι} {cs:List (TV V.N)} {y:den V.N e} (_:dG V ex e cs=some y),
 ∃ds,encL V ω cs=ds.map H.d/\D.Les ds (bY V.sz V.enc e y)/\(ex=true->ds=bY V.sz V.enc e y):=by
 have single:∀(t:Ty V.ι) (y:den V.N t) (cs:List (TV V.N)),(∃x l,cs=[x]/\l_ V ex t x=some l/\∃ht:l.t=t,ht▸l.x=y)->bJ V t y=[⟨t,y⟩]->∃ds,encL V ω cs=ds.map H.d/\D.Les ds (bY V.sz V.enc t y)/\(ex=true->ds=bY V.sz V.enc t y):=by
  rintro t y cs ⟨x,⟨lt,lx⟩,rfl,hl,ht,rfl⟩ hrc
  simp only at ht
  subst ht
  rw[c6,hrc]
  have hls:dB V ex [lt] [x]=some [⟨lt,lx⟩]:=by simp[dB,hl]
  exact dc (ω:=ω) hls
 intro e
 induction e with
 |fno=>
  intro cs y h
  refine single .fno y cs ?_ rfl
  match cs,h with
  |[],h=>simp[dG]at h
  |_::_::_,h=>simp[dG]at h
  |[x],h=>
   simp only[dG]at h
   split at h
   ·rename_i l hl
    split at h
    ·rename_i ht;simp only[Z2]at h;exact⟨x,l,rfl,hl,ht,h⟩
    ·cases h
   ·cases h
 |ar n e ih=>
  intro cs y h
  simp only[dG]at h
  split at h
  ·rename_i hlen
   have go:∀(n:Nat) (cs:List (TV V.N)) (ys:List (den V.N e)),cs.length=n *tsz V.sz e->uV (dG V ex e) (tsz V.sz e) n cs=some ys->
    ∃ds,encL V ω cs=ds.map H.d/\D.Les ds (ys.map λx=>bY V.sz V.enc e x).flatten/\(ex=true->ds=(ys.map λx=>bY V.sz V.enc e x).flatten):=by
    intro n
    induction n with
    |zero=>
     intro cs ys hl h
     simp[uV]at h
     subst h
     rw[ab8]at hl
     rw[aaA hl]
     exact⟨[],rfl, .nil,λ_=>rfl⟩
    |succ n ihn=>
     intro cs ys hl h
     simp only[uV]at h
     split at h
     ·rename_i x r h1 h2
      cases h
      rw[aaH]at hl
      obtain⟨d1,a1,a2,a3⟩:=ih h1
      obtain⟨d2,b1,b2,b3⟩:=ihn _ _ (by rw[aaE];omega) h2
      refine⟨d1++d2,?_,by simpa using D.Les.app a2 b2,λhx=>by rw[a3 hx,b3 hx];rfl⟩
      rw[aaV,<-a1,<-b1,<-gk,adb]
     ·cases h
   obtain⟨ds,a1,a2,a3⟩:=go n cs y hlen h
   have hl:(y.map λx=>bY V.sz V.enc e x).flatten.length=n *tsz V.sz e:=by
    rw[tT (sz:=tsz V.sz e) (λr hr=>by obtain⟨x,_,rfl⟩:=aav.1 hr;exact cC e x),Z7,uW h]
   have he:bY V.sz V.enc (.ar n e) y=(y.map λx=>bY V.sz V.enc e x).flatten:=GD hl
   exact⟨ds,a1,by rw[he];exact a2,λhx=>by rw[he];exact a3 hx⟩
  ·cases h
 |st i=>
  intro cs y h
  simp only[dG]at h
  split at h
  ·rename_i ls hls
   obtain⟨ds,e1,e2,e3⟩:=dc (ω:=ω) hls
   have hc:=V.of_cells i ls y h
   refine⟨ds,e1,?_,?_⟩<;>simp only[bY]<;>rw[V.enc_cells,hc]
   ·exact e2
   ·exact e3
  ·cases h
 |int k=>
  intro cs y h
  refine single (.int k) y cs ?_ rfl
  match cs,h with
  |[],h=>simp[dG]at h
  |_::_::_,h=>simp[dG]at h
  |[x],h=>
   simp only[dG]at h
   split at h
   ·rename_i l hl
    split at h
    ·rename_i ht;simp only[Z2]at h;exact⟨x,l,rfl,hl,ht,h⟩
    ·cases h
   ·cases h
 |bool=>
  intro cs y h
  refine single .bool y cs ?_ rfl
  match cs,h with
  |[],h=>simp[dG]at h
  |_::_::_,h=>simp[dG]at h
  |[x],h=>
   simp only[dG]at h
   split at h
   ·rename_i l hl
    split at h
    ·rename_i ht;simp only[Z2]at h;exact⟨x,l,rfl,hl,ht,h⟩
    ·cases h
   ·cases h
 |op e _=>
  intro cs y h
  refine single (.op e) y cs ?_ rfl
  match cs,h with
  |[],h=>simp[dG]at h
  |_::_::_,h=>simp[dG]at h
  |[x],h=>
   simp only[dG]at h
   split at h
   ·rename_i l hl
    split at h
    ·rename_i ht;simp only[Z2]at h;exact⟨x,l,rfl,hl,ht,h⟩
    ·cases h
   ·cases h
 |er=>
  intro cs y h
  refine single .er y cs ?_ rfl
  match cs,h with
  |[],h=>simp[dG]at h
  |_::_::_,h=>simp[dG]at h
  |[x],h=>
   simp only[dG]at h
   split at h
   ·rename_i l hl
    split at h
    ·rename_i ht;simp only[Z2]at h;exact⟨x,l,rfl,hl,ht,h⟩
    ·cases h
   ·cases h
 |fnc=>
  intro cs y h
  refine single .fnc y cs ?_ rfl
  match cs,h with
  |[],h=>simp[dG]at h
  |_::_::_,h=>simp[dG]at h
  |[x],h=>
   simp only[dG]at h
   split at h
   ·rename_i l hl
    split at h
    ·rename_i ht;simp only[Z2]at h;exact⟨x,l,rfl,hl,ht,h⟩
    ·cases h
   ·cases h
 |str=>
  intro cs y h
  refine single .str y cs ?_ rfl
  match cs,h with
  |[],h=>simp[dG]at h
  |_::_::_,h=>simp[dG]at h
  |[x],h=>
   simp only[dG]at h
   split at h
   ·rename_i l hl
    split at h
    ·rename_i ht;simp only[Z2]at h;exact⟨x,l,rfl,hl,ht,h⟩
    ·cases h
   ·cases h
 |sl e _=>
  intro cs y h
  refine single (.sl e) y cs ?_ rfl
  match cs,h with
  |[],h=>simp[dG]at h
  |_::_::_,h=>simp[dG]at h
  |[x],h=>
   simp only[dG]at h
   split at h
   ·rename_i l hl
    split at h
    ·rename_i ht;simp only[Z2]at h;exact⟨x,l,rfl,hl,ht,h⟩
    ·cases h
   ·cases h
 |mp tk tv _ _=>
  intro cs y h
  refine single (.mp tk tv) y cs ?_ rfl
  match cs,h with
  |[],h=>simp[dG]at h
  |_::_::_,h=>simp[dG]at h
  |[x],h=>
   simp only[dG]at h
   split at h
   ·rename_i l hl
    split at h
    ·rename_i ht;simp only[Z2]at h;exact⟨x,l,rfl,hl,ht,h⟩
    ·cases h
   ·cases h
end
end Go.Tx
end
section
namespace Go.Tx
open Go.Awp
variable [Inhabited GMem]
section
variable {V:iE}
def bG(P:Program)(call:dh V):Prop:=∀(A:Type) (fid:Nat) (args:List (TV V.N)) (S:TS V.N) (dst:Option Tmp) (k:TE V.N->Option A) (r:A),call A fid args S k=some r->
 ∃te,k te=some r/\good S te/\vy P fid (encL V S.len args) (a_ V S).own? λe'=>ELe true e' (gA (S.app dst te).len te)
def OpS(ex:Bool)(P:Program)(nm:Nat->Nat){A:Type}(o:Oper)(S:TS V.N)(k:TE V.N->Option A)(r:A):Prop:=
 ∃te,k te=some r/\good S te/\bN P nm o (ev (a_ V S)) (a_ V S).own? λe'=>ELe ex e' (gA (S.app o.dst te).len te)
theorem jr(S:TS V.N)(v:TV V.N)(l:List Nat):good S {val:=v,acc:=l}:=λm o h=>by simp[gt]at h
theorem vG(S:TS V.N)(dst:Option Tmp)(v:TV V.N)(l:List Nat):(S.app dst {val:=v,acc:=l}).len=S.len:=by
 funext n;rw[d5];rfl
theorem Dm{ex:Bool}{S:TS V.N}{dst:Option Tmp}{v:TV V.N}{x:H}{l:List Nat}(h:H.le x (aL V S.len v))(hx:ex=true->x=aL V S.len v):ELe ex {val:=x,acc:=l} (gA (S.app dst {val:=v,acc:=l}).len {val:=v,acc:=l}):=by
 rw[vG]
 exact{val:=h,new:=rfl,none:=λn _=>rfl,some:=λn o h=>by simp[gA,gt]at h,eq:=λh=>⟨hx h,rfl,rfl⟩}
theorem tL{ex:Bool}{S:TS V.N}{dst:Option Tmp}{v:TV V.N}{x:H}{l:List Nat}(h:x=aL V S.len v):ELe ex {val:=x,acc:=l} (gA (S.app dst {val:=v,acc:=l}).len {val:=v,acc:=l}):=Dm (h▸H.le.refl _) λ_=>h
theorem cX{ex:Bool}{ω:Nat->Nat}{te:TE V.N}{e':Eff}(hv:e'.val=aL V ω te.val)(hn:e'.new=te.new)(hu:e'.upd=te.upd.map λp=>(p.1,cp V ω p.2))(ha:e'.acc=te.acc):ELe ex e' (gA ω te)where
 val:=by rw[hv];exact H.le.refl _
 new:=hn
 none:=λn h=>by rw[hu];exact h
 some:=λn o h=>⟨o,by rw[hu];exact h,OLe.refl o⟩
 eq:=λ_=>⟨hv,hu,ha⟩
theorem xK(ω:Nat->Nat)(x:Value):aL V ω (tvc x)=cx x:=by
 cases x<;>simp[tvc,aL,bC,cx]
theorem fp(S:TS V.N)(l:List Operand):l.map (ev (a_ V S))=encL V S.len (l.map (tev S)):=by
 rw[aU,aaF]
 exact aay λx _=>aI S x
theorem D7(S:TS V.N)(l:List (Nat×Operand)):l.map (λp=>(p.1,ev (a_ V S) p.2))=(l.map λp=>(p.1,tev S p.2)).map λp=>(p.1,aL V S.len p.2):=by
 rw[aaF]
 exact aay λx _=>by simp[aI]
theorem gE{S:TS V.N}{lo:Option Operand}{d n:Int}(h:KP V S lo d=some n):bnd (ev (a_ V S)) lo d=some n:=by
 cases lo with
 |none=>exact h
 |some x=>
  simp only[KP]at h
  simp only[bnd,aI]
  split at h
  ·rename_i hx;rw[hx];simpa[aL,bC]using h
  ·cases h
theorem dI{S:TS V.N}{n:Nat}{te:TypeId}{e:Ty V.ι}{xs:List (den V.N e)}(h:S.own? n=some (.vec te e xs)):
 (a_ V S).own? n=some (.vec te (tsz V.sz e) (xs.map λx=>bY V.sz V.enc e x)):=by rw[bL,h];rfl
theorem jP(ω:Nat->Nat)(i:V.ι)(x:V.N i):encL V ω ((V.cells i x).map λl=>(.lf l.t l.x:TV V.N))=(V.enc i x).map .d:=by
 rw[V.enc_cells,aU,aaF,aaF]
 exact aay λl _=>by simp[aL]
theorem ig{S:TS V.N}{n:Nat}{cells:List (TV V.N)}(h:GI V (S.own? n)=some cells):(a_ V S).own? n=some (.box (Te V (S.own? n)) (encL V S.len cells)):=by
 rw[bL]
 cases ho:S.own? n with
 |none=>rw[ho]at h;cases h
 |some o=>
  rw[ho]at h
  cases o with
  |box oty cs=>simp only[GI,Z2]at h;subst h;rfl
  |bst i x=>simp only[GI,Z2]at h;subst h;simp only[ZY,cp,jP];rfl
  |vec te e xs=>cases h
  |map tk tv es=>cases h
  |iter s p=>cases h
  |miter m tk tv es rest cur=>cases h
  |que te e xs=>cases h
  |maps te k v es al=>cases h
  |bar n e xs=>cases h
  |alias m=>cases h
  |gone l=>cases h
theorem xY{S:TS V.N}{n:Nat}{cells:List (TV V.N)}(h:GI V (S.own? n)=some cells):S.len n=0:=by
 unfold TS.len
 cases ho:S.own? n with
 |none=>rfl
 |some o=>
  rw[ho]at h
  cases o<;>first|rfl|cases h
theorem Co{ω:Nat->Nat}{v:TV V.N}{cs:List (TV V.N)}(h:TV.cells V v=some cs):cp V ω (Cn V v cs)=some (.box none (encL V ω cs)):=by
 unfold Cn
 split
 ·rename_i i x
  simp only[TV.cells,bJ,Z2]at h
  subst h
  simp only[cp,jP]
 ·rfl
theorem uQ{ω:Nat->Nat}{o:Option TypeId}{v:TV V.N}{cs:List (TV V.N)}(h:TV.cells V v=some cs):cp V ω (Jo V o v cs)=some (.box o (encL V ω cs)):=by
 cases o with
 |none=>exact Co h
 |some t=>rfl
theorem Cp{v:TV V.N}{cs:List (TV V.N)}:TO.len (some (Cn V v cs))=0:=by
 unfold Cn
 split<;>rfl
theorem Fo{o:Option TypeId}{v:TV V.N}{cs:List (TV V.N)}:TO.len (some (Jo V o v cs))=0:=by
 cases o with
 |none=>exact Cp
 |some t=>rfl
theorem ef{S:TS V.N}{n:Nat}{te:TypeId}{e:Ty V.ι}{xs:List (den V.N e)}(h:S.own? n=some (.vec te e xs)):S.len n=xs.length:=by unfold TS.len;rw[h];rfl
theorem w8{t:Ty V.ι}{x:den V.N t}:((bY V.sz V.enc t x).all D.one)=true:=by
 rw[c6,abU,aaf]
 exactλl hl=>by have:=tM (V:=V) (po t x l hl);simpa[H.one]using this
variable {P:Program} {nm:Nat->Nat} {call:dh V} {A:Type} {S:TS V.N} {k:TE V.N->Option A} {r:A} {o:Oper} {ex:Bool}
theorem aY{v:TV V.N}{l:List Nat}(hk:k {val:=v,acc:=l}=some r)(h:∀K:Eff->Prop,K {val:=aL V S.len v,acc:=l}->bN P nm o (ev (a_ V S)) (a_ V S).own? K):OpS ex P nm o S k r:=
 ⟨_,hk,jr S v l,h _ (tL rfl)⟩
theorem mK{v:TV V.N}{l:List Nat}(hk:k {val:=v,acc:=l}=some r)(h:∀K:Eff->Prop,(∀x,H.le x (aL V S.len v)->(ex=true->x=aL V S.len v)->K {val:=x,acc:=l})->bN P nm o (ev (a_ V S)) (a_ V S).own? K):OpS ex P nm o S k r:=
 ⟨_,hk,jr S v l,h _ λ_ hx hy=>Dm hx hy⟩
theorem KC(S:TS V.N)(dst:Option Tmp)(d:Nat)(v:TV V.N)(b:TO V.N)(cs:List (TV V.N))(hf:∀n,TV.hasL n cs=true->n≠d):
 encL V (S.app dst {val:=v,upd:=[(d,b)],new:=[d]}).len cs=encL V S.len cs:=by
 refine encL_congr cs λn hn=> ?_
 rw[d5]
 simp only[aH]
 rw[adC (λe=>hf n hn e.symm)]
 rfl
theorem Ga{S:TS V.N}{d:Nat}(h:S.fresh d=true)(x:Operand):TV.has d (tev S x)=false:=by
 cases x with
 |tmp t=>
  simp only[tev,TS.get]
  cases hg:gt S.tmps t with
  |none=>simp[TV.has]
  |some v=>exact fresh_tmp h hg
 |const v=>cases v<;>simp[tev,tvc,TV.has]
 |global g=>simp[tev,TV.has]
 |func f=>simp[tev,TV.has,TV.hasL]
theorem qI{d:Nat}{l:List (TV V.N)}(h:∀x∈l,TV.has d x=false):TV.hasL d l=false:=by
 induction l with
 |nil=>simp[TV.hasL]
 |cons y r ih=>rw[TV.hasL,h y aag,ih λx hx=>h x (aab _ hx)];rfl
theorem wg{d:Nat}{v:TV V.N}{cs:List (TV V.N)}(h:TV.cells V v=some cs)(hv:TV.has d v=false):TV.hasL d cs=false:=by
 cases v with
 |lf t x=>
  simp only[TV.cells,Z2]at h
  subst h
  exact qI λy hy=>by
   obtain⟨l,_,rfl⟩:=aav.1 hy
   simp[TV.has]
 |raw v=>
  simp only[TV.cells]at h
  split at h
  ·simp at h;subst h;simp[TV.hasL,TV.has]
  ·cases h
 |agg cs'=>simp only[TV.cells,Z2]at h;subst h;simpa[TV.has]using hv
 |tup vs=>simp[TV.cells]at h
 |junk=>simp[TV.cells]at h
 |rp t x off=>simp[TV.cells]at h;subst h;simp[TV.hasL,TV.has]
 |ai n s i off=>simp[TV.cells]at h;subst h;simpa[TV.hasL]using hv
 |bp n off=>simp[TV.cells]at h;subst h;simpa[TV.hasL]using hv
 |vh n=>simp[TV.cells]at h;subst h;simpa[TV.hasL]using hv
 |ep n s i off=>simp[TV.cells]at h;subst h;simpa[TV.hasL]using hv
 |sv n s i off=>simp[TV.cells]at h;subst h;simpa[TV.hasL]using hv
 |mp n=>simp[TV.cells]at h;subst h;simpa[TV.hasL]using hv
 |np n b=>simp[TV.cells]at h;subst h;simpa[TV.hasL]using hv
 |sd n=>simp[TV.cells]at h;subst h;simpa[TV.hasL]using hv
 |fn f a b=>simp[TV.cells]at h;subst h;simpa[TV.hasL]using hv
theorem E6{d:Nat}{b:TO V.N}{oty:Option TypeId}{cs:List (TV V.N)}(hb:∀ω,cp V ω b=some (.box oty (encL V ω cs)))(hk:k {val:= .bp (nm d) 0,upd:=[(nm d,b)],new:=[nm d]}=some r)(hf:TV.hasL (nm d) cs=false)
 (h:∀K:Eff->Prop,K {val:= .bp (nm d) 0,acc:=[],upd:=[(nm d,some (.box oty (encL V S.len cs)))],new:=[nm d]}->bN P nm o (ev (a_ V S)) (a_ V S).own? K):OpS ex P nm o S k r:=by
 refine⟨_,hk,λm o hm=> ?_,h _ (cX (by simp[aL]) rfl ?_ rfl)⟩
 ·simp only[aH]at hm
  split at hm
  ·rename_i e;left;simp[e]
  ·simp[gt]at hm
 ·simp only[aac,aaT,hb]
  rw[KC S o.dst (nm d) (.bp (nm d) 0) b cs λn hn e=>by subst e;rw[hf]at hn;cases hn]
theorem sN{n:Nat}{o':TO V.N}(hk:k {val:= .junk,acc:=[n],upd:=[(n,o')]}=some r)(hl:TO.len (some o')=S.len n)
 (h:∀K:Eff->Prop,K {val:= .junk,acc:=[n],upd:=[(n,cp V S.len o')]}->bN P nm o (ev (a_ V S)) (a_ V S).own? K):OpS ex P nm o S k r:=by
 have hlen:(S.app o.dst {val:= .junk,acc:=[n],upd:=[(n,o')]}).len=S.len:=by
  funext m
  rw[d5]
  simp only[aH]
  by_cases hm:n=m
  ·subst hm;simpa using hl
  ·rw[adC hm];simp[gt]
 refine⟨_,hk,λm o hm=> ?_,h _ (cX (by simp[aL]) rfl ?_ rfl)⟩
 ·simp only[aH]at hm
  split at hm
  ·rename_i e;simp at hm;subst hm;subst e;exact .inr hl
  ·simp[gt]at hm
 ·simp only[aac,aaT]
  rw[hlen]
theorem pb{d:Nat}{te:TypeId}{e:Ty V.ι}{ys:List (den V.N e)}{old:List (Nat×Nat)}{l:List Nat}(hold:∀p∈old,S.len p.1=p.2)(hk:k {val:= .vh (nm d),acc:=l,upd:=(nm d, .vec te e ys)::old.map (λp=>(p.1, .gone p.2)),new:=[nm d]}=some r)
 (h:∀K:Eff->Prop,K {val:= .vh (nm d) ys.length,acc:=l,upd:=(nm d,some (.vec te (tsz V.sz e) (ys.map λx=>bY V.sz V.enc e x)))::old.map (λp=>(p.1,none)),new:=[nm d]}->bN P nm o (ev (a_ V S)) (a_ V S).own? K):OpS ex P nm o S k r:=by
 refine⟨_,hk,λm o hm=> ?_,h _ (cX ?_ rfl ?_ rfl)⟩
 ·simp only[aH]at hm
  split at hm
  ·rename_i e;left;simp[e]
  ·right
   have:=cV hm
   obtain⟨p,hp,he⟩:=aav.1 this
   simp only[aaC]at he
   obtain⟨rfl,rfl⟩:=he
   exact(hold p hp).symm
 ·simp only[aL]
  rw[d5]
  simp[aH,TO.len]
 ·simp[cp,aaF,Function.comp_def]
theorem je{n:Nat}{tk tv:Ty V.ι}{es:List (den V.N tk×den V.N tv)}(h:S.own? n=some (.map tk tv es)):
 (a_ V S).own? n=some (.map (es.map λp=>(ew V.enc tk p.1,bC V.sz V.enc tv p.2))):=by rw[bL,h];rfl
theorem sq{n:Nat}{tk tv:Ty V.ι}{es:List (den V.N tk×den V.N tv)}(h:S.own? n=some (.map tk tv es)):S.len n=0:=by unfold TS.len;rw[h];rfl
theorem y7{n:Nat}{s:ByteArray}{p:Int}(h:S.own? n=some (.iter s p)):(a_ V S).own? n=some (.iter s p.toNat):=by rw[bL,h];rfl
theorem Ho{n:Nat}{s:ByteArray}{p:Int}(h:S.own? n=some (.iter s p)):S.len n=0:=by unfold TS.len;rw[h];rfl
theorem uF{n m:Nat}{tk tv:Ty V.ι}{es rest:List (den V.N tk×den V.N tv)}{cur:Option (den V.N tk×den V.N tv)}(h:S.own? n=some (.miter m tk tv es rest cur)):
 (a_ V S).own? n=some (.miter m (es.map λp=>(ew V.enc tk p.1,bC V.sz V.enc tv p.2)) (rest.map λp=>(ew V.enc tk p.1,bC V.sz V.enc tv p.2)) (cur.map λp=>(ew V.enc tk p.1,bC V.sz V.enc tv p.2))):=by rw[bL,h];rfl
theorem uc{n m:Nat}{tk tv:Ty V.ι}{es rest:List (den V.N tk×den V.N tv)}{cur:Option (den V.N tk×den V.N tv)}(h:S.own? n=some (.miter m tk tv es rest cur)):S.len n=0:=by unfold TS.len;rw[h];rfl
theorem DT{tk:Ty V.ι}(hk:Nb tk=true)(x:den V.N tk):bC V.sz V.enc tk x= .v (ew V.enc tk x):=by
 cases tk<;>first|rfl|cases hk
theorem w5{d:Nat}{s:ByteArray}(hk:k {val:= .bp (nm d) 0,upd:=[(nm d, .iter s 0)],new:=[nm d]}=some r)
 (h:∀K:Eff->Prop,K {val:= .bp (nm d) 0,acc:=[],upd:=[(nm d,some (.iter s 0))],new:=[nm d]}->bN P nm o (ev (a_ V S)) (a_ V S).own? K):OpS ex P nm o S k r:=by
 refine⟨_,hk,λm o hm=> ?_,h _ (cX (by simp[aL]) rfl (by simp[cp]) rfl)⟩
 simp only[aH]at hm
 split at hm
 ·rename_i e;left;simp[e]
 ·simp[gt]at hm
theorem Ja{n l:Nat}{v:TV V.N}(hv:∀ω ω':Nat->Nat,aL V ω v=aL V ω' v)(hk:k {val:=v,acc:=[n],upd:=[(n, .gone l)]}=some r)(hl:S.len n=l)
 (h:∀K:Eff->Prop,K {val:=aL V S.len v,acc:=[n],upd:=[(n,none)]}->bN P nm o (ev (a_ V S)) (a_ V S).own? K):OpS ex P nm o S k r:=by
 refine⟨_,hk,λm o hm=> ?_,h _ (cX (hv _ _) rfl (by simp[cp]) rfl)⟩
 simp only[aH]at hm
 split at hm
 ·rename_i e;right;simp at hm;subst hm;subst e;simp[TO.len,hl]
 ·simp[gt]at hm
theorem ua(ik:IntKind):∀l:List Int,pX ik (l.map (qf ik))=some l
 |[]=>rfl
 |n::r=>by simp[qf,pX,ua ik r]
theorem oK(ik:IntKind)(l:List (den V.N (.int ik))):pX ik (l.map λx=>bY V.sz V.enc (.int ik) x)=some l:=ua ik l
theorem pB(s:ByteArray):∀n i:Nat,(Bs.runesAt s n i).length<=n
 |0,_=>aat _
 |n+1,i=>by
  unfold Bs.runesAt
  split
  ·simp only[aaa];have:=pB s n (i+(Utf8.decode s i).2);omega
  ·simp
theorem Ft(s:ByteArray):(Bs.runes s).length<=s.size:=pB s _ _
theorem Bc{d:Nat}{tk tv:Ty V.ι}(hk:k {val:= .mp (nm d),upd:=[(nm d, .map tk tv [])],new:=[nm d]}=some r)
 (h:∀K:Eff->Prop,K {val:= .mp (nm d),acc:=[],upd:=[(nm d,some (.map []))],new:=[nm d]}->bN P nm o (ev (a_ V S)) (a_ V S).own? K):OpS ex P nm o S k r:=by
 refine⟨_,hk,λm o hm=> ?_,h _ (cX (by simp[aL]) rfl (by simp[cp]) rfl)⟩
 simp only[aH]at hm
 split at hm
 ·rename_i e;left;simp[e]
 ·simp[gt]at hm
theorem kz{tk:Ty V.ι}{kind:TypeDesc}(hk:fm (some kind) tk=true)(x y:den V.N tk):Instr.sameNow kind (ew V.enc tk x) (ew V.enc tk y)=some (keq V.cells tk x y):=by
 cases kind<;>cases tk<;>simp_all [fm,ew,keq,Instr.sameNow,Mp.ieq,Mp.beq,Mp.seq]
theorem ju{tk:Ty V.ι}{kind:TypeDesc}(hk:fm (some kind) tk=true):eJ kind=true:=by
 cases kind<;>cases tk<;>simp_all [fm,eJ]
theorem sk{tk:Ty V.ι}{kind:TypeDesc}(hk:fm (some kind) tk=true)(x:den V.N tk):bC V.sz V.enc tk x= .v (ew V.enc tk x):=by
 cases kind<;>cases tk<;>simp_all [fm,ew,bC]
theorem yj{tk tv:Ty V.ι}{kind:TypeDesc}(hk:fm (some kind) tk=true)(x:den V.N tk):∀es:List (den V.N tk×den V.N tv),
 tP kind (ew V.enc tk x) (es.map λp=>(ew V.enc tk p.1,bC V.sz V.enc tv p.2))=some ((Mp.get (keq V.cells tk) x es).map (bC V.sz V.enc tv))
 |[]=>rfl
 |p::r=>by
  simp only[aac,tP,kz hk,Mp.get]
  cases keq V.cells tk x p.1 with
  |true=>rfl
  |false=>exact yj hk x r
theorem Fz{tk tv:Ty V.ι}{kind:TypeDesc}(hk:fm (some kind) tk=true)(x:den V.N tk)(y:den V.N tv):∀es:List (den V.N tk×den V.N tv),
 LK kind (ew V.enc tk x) (bC V.sz V.enc tv y) (es.map λp=>(ew V.enc tk p.1,bC V.sz V.enc tv p.2))=some ((Mp.put (keq V.cells tk) x y es).map λp=>(ew V.enc tk p.1,bC V.sz V.enc tv p.2))
 |[]=>rfl
 |p::r=>by
  simp only[aac,LK,kz hk,Mp.put]
  cases keq V.cells tk x p.1 with
  |true=>rfl
  |false=>simp only[Fz hk x y r];rfl
theorem lQ{tk tv:Ty V.ι}{kind:TypeDesc}(hk:fm (some kind) tk=true)(x:den V.N tk)(es:List (den V.N tk×den V.N tv)):
 ip kind (ew V.enc tk x) (es.map λp=>(ew V.enc tk p.1,bC V.sz V.enc tv p.2))=true:=by
 unfold ip
 rw[abU,aaf]
 intro p _
 simp only[acR,kz hk,acq]
theorem pP:∀{ds:List D} {z:List Value},mQ ds=some z->ds=z.map .v
 |[],z,h=>by simp[mQ]at h;subst h;rfl
 | .v x::r,z,h=>by
  simp only[mQ]at h
  split at h
  ·rename_i l hl
   simp at h;subst h
   rw[pP hl];rfl
  ·cases h
 | .agg _::_,_,h=>by simp[mQ]at h
 | .sl _ _::_,_,h=>by simp[mQ]at h
 | .rp _::_,_,h=>by simp[mQ]at h
theorem b9{α β:Type}{x:Option α}{f:α->Option β}{r:β}(h:x>>=f=some r):∃y,x=some y/\f y=some r:=by
 cases x with
 |none=>cases h
 |some y=>exact⟨y,rfl,h⟩
theorem aG{c:Prop}[Decidable c]{β:Type}{x:Option β}{r:β}(h:(if c then x else none)=some r):c/\x=some r:=by
 split at h
 ·exact⟨‹_›,h⟩
 ·cases h
theorem ou{ω:Nat->Nat}{e:Ty V.ι}{x:TV V.N}{y:den V.N e}(h:GY V ex e x=some y):
 ∃cs ds,TV.cells V x=some cs/\encL V ω cs=ds.map H.d/\D.Les ds (bY V.sz V.enc e y)/\(ex=true->ds=bY V.sz V.enc e y):=by
 unfold GY at h
 split at h
 ·rename_i t z
  split at h
  ·rename_i ht
   subst ht
   simp only[Z2]at h;subst h
   refine⟨_,bY V.sz V.enc t z,rfl,?_,D.Les.refl _,λ_=>rfl⟩
   rw[c6,aU,aaF,aaF]
   exact aay λl _=>by simp[aL]
  ·cases h
 ·split at h
  ·rename_i cs hcs
   obtain⟨ds,e1,e2,e3⟩:=ej (ω:=ω) h
   exact⟨cs,ds,hcs,e1,e2,e3⟩
  ·cases h
theorem j4{ω:Nat->Nat}{e:Ty V.ι}:∀{i:Nat} {parts:List (Nat×TV V.N)} {ys:List (den V.N e)},Bm V ex e i parts=some ys->
 ∃rows,px (tsz V.sz e) i (parts.map λp=>(p.1,aL V ω p.2))=some rows/\rows.length=parts.length/\D.Rows rows (ys.map λx=>bY V.sz V.enc e x)/\(ex=true->rows=ys.map λx=>bY V.sz V.enc e x)
 |i,[],ys,h=>by simp[Bm]at h;subst h;exact⟨[],rfl,rfl, .nil,λ_=>rfl⟩
 |i,(j,x)::r,ys,h=>by
  simp only[Bm]at h
  obtain⟨hij,h⟩:=aG h
  split at h
  ·rename_i y ys' h1 h2
   simp at h;subst h
   obtain⟨cs,ds,hcs,e1,e2,e3⟩:=ou (ω:=ω) h1
   obtain⟨rows,f1,f2,f3,f4⟩:=j4 (ω:=ω) h2
   have hds:ds.length=tsz V.sz e:=by rw[e2.len,cC]
   refine⟨ds::rows,?_,by simp[f2], .cons e2 f3,λhx=>by simp[e3 hx,f4 hx]⟩
   simp only[aac,px,dQ (ω:=ω) hcs,e1,dV,f1]
   rw[adD hij,adD hds]
  ·cases h
end
end Go.Tx
end
section
namespace Go.Tx
open Go.Awp
variable [Inhabited GMem]
section
variable {V:iE} {P:Program} {nm:Nat->Nat} {call:dh V} {A:Type} {S:TS V.N} {k:TE V.N->Option A} {r:A} {o:Oper} {ex:Bool}
theorem kG(l:List H):H.le (cR l) (.agg l):=λE M v h=>by
 unfold cR at h
 split at h
 ·rename_i ds hds
  obtain⟨cs,rfl,h1,h2⟩:=h.dagg
  obtain⟨g1,g2⟩:=fq hds
  refine .agg cs l (by omega) λi c x hc hx=> ?_
  rw[g2]at hx
  cases hd:ds[i]? with
  |none=>rw[hd]at hx;cases hx
  |some d=>rw[hd]at hx;simp at hx;subst hx;exact .d (h2 i c d hc hd)
 ·exact h
theorem sw(l:List H):H.le (.agg l) (cR l):=λE M v h=>by
 obtain⟨cs,rfl,h1,h2⟩:=h.hagg
 exact bO.mk_agg h1 h2
theorem KL{l l':List H}(hl:l.length=l'.length)(h:∀(i:Nat) (x:H),l'[i]?=some x->∃y,l[i]?=some y/\H.le y x):H.le (.agg l) (.agg l'):=λE M v hv=>by
 obtain⟨cs,rfl,h1,h2⟩:=hv.hagg
 refine .agg cs l' (by omega) λi c x hc hx=> ?_
 obtain⟨y,hy,hle⟩:=h i x hx
 exact hle E M c (h2 i c y hc hy)
theorem Gf{l l':List H}(hl:l.length=l'.length)(h:∀(i:Nat) (x:H),l'[i]?=some x->∃y,l[i]?=some y/\H.le y x):H.le (.tup l) (.tup l'):=λE M v hv=>by
 obtain⟨cs,rfl,h1,h2⟩:=hv.htup
 refine .tup cs l' (by omega) λi c x hc hx=> ?_
 obtain⟨y,hy,hle⟩:=h i x hx
 exact hle E M c (h2 i c y hc hy)
theorem OLe.vec{te:TypeId}{sz:Nat}{a b:List (List D)}(h:D.Rows a b):OLe (.vec te sz a) (.vec te sz b):=by
 refine⟨?_,λ_ _ _ _ _ _ h=>h⟩
 rintro E M w n ⟨xs,h1,h2,h3,h4⟩
 refine⟨xs,by rw[<-h.len];exact h1,λr hr=> ?_,λi j r c x hr hx hc=> ?_,h4⟩
 ·obtain⟨i,hi,rfl⟩:=aco hr
  obtain⟨y,hy,hyr⟩:=h.get i _ (Z3 hi)
  rw[<-hyr.len];exact h2 y (Z_ hy)
 ·obtain⟨y,hy,hyr⟩:=h.get i r hr
  obtain⟨z,hz,hzx⟩:=hyr.get j x hx
  exact hzx M c (h3 i j y c z hy hz hc)
theorem Ge{x:Operand}(ho:o.op= .move x\/o.op= .assign x)(h:tx V P nm call ex o S k=some r):OpS ex P nm o S k r:=by
 have hk:k {val:=tev S x}=some r:=by rcases ho with ho|ho<;>simpa only[tx,ho]using h
 refine aY hk λK hK=> ?_
 rcases ho with ho|ho<;>(simp only[bN,ho,aI];exact hK)
theorem OM{c x y:Operand}(ho:o.op= .pick c x y)(h:tx V P nm call ex o S k=some r):OpS ex P nm o S k r:=by
 simp only[tx,ho]at h
 split at h
 ·rename_i b hb
  cases b with
  |true=>
   refine aY (by simpa using h) λK hK=> ?_
   simp only[bN,ho,aI,hb,aL,bC];exact hK
  |false=>
   refine aY (by simpa using h) λK hK=> ?_
   simp only[bN,ho,aI,hb,aL,bC];exact hK
 ·cases h
theorem nG{ω:Nat->Nat}{z:List Value}(hz:z.all d8=true):encL V ω (z.map tvc)=z.map λx=> .d (.v x):=by
 rw[aU,aaF]
 rw[aaf]at hz
 refine aay λx hx=> ?_
 have:=hz x hx
 simp only[acR,xK]
 cases x<;>first|(simp[d8]at this;done)|rfl
theorem JT{t:TypeId}(ho:o.op= .alloc t)(h:tx V P nm call ex o S k=some r):OpS ex P nm o S k r:=by
 simp only[tx,ho]at h
 split at h
 ·rename_i z d hz hd
  obtain⟨hz1,h⟩:=aG h
  refine E6 (d:=d) (λω=>rfl) h (qI λx hx=> ?_) λK hK=> ?_
  ·obtain⟨v,_,rfl⟩:=aav.1 hx
   cases v<;>simp[tvc,TV.has]
  ·simp only[bN,ho,hz,hd]
   rw[nG hz1]at hK;exact hK
 ·cases h
theorem Su{t:TypeId}{x:Operand}(ho:o.op= .box t x)(hf:∀te,k te=some r->∀d∈te.new,S.fresh d=true)(h:tx V P nm call ex o S k=some r):OpS ex P nm o S k r:=by
 simp only[tx,ho]at h
 split at h
 ·rename_i cs d hcs hd
  have hfr:=hf _ h (nm d) (by simp)
  refine E6 (d:=d) (oty:=Hj V t cs) (λω=>uQ hcs) h (wg hcs (Ga hfr x)) λK hK=> ?_
  simp only[bN,ho,aI,dQ (ω:=S.len) hcs,hd]
  refine⟨Hj V t cs,?_,hK⟩
  unfold Hj
  split
  ·exact .inr rfl
  ·exact .inl rfl
 ·cases h
theorem OK{t:TypeId}{x:Operand}(ho:o.op= .load t x)(h:tx V P nm call ex o S k=some r):OpS ex P nm o S k r:=by
 simp only[tx,ho]at h
 split at h
 ·rename_i ag sz ht
  split at h
  ·rename_i n off hx
   split at h
   ·rename_i v hw
    unfold zC at hw
    split at hw
    ·rename_i i y hn
     have hw':=aG hw;clear hw
     obtain⟨⟨e1,e2,e3,hot⟩,hw⟩:=hw'
     subst e1;subst e2;subst e3
     simp only[Z2]at hw;subst hw
     have hb:GI V (S.own? n)=some ((V.cells i y).map λl=> .lf l.t l.x):=by rw[hn];rfl
     refine aY h λK hK=> ?_
     simp only[bN,ho,ht,aI,hx,ig hb,jP,fw,aap]
     rw[jT]at hK
     simp only[aL,ig hb,jP,Z7,aap]
     have hl:(V.enc i y).length=V.sz i:=by rw[V.enc_cells,Z7,V.len_cells]
     rw[adD (by omega),aaI (by rw[Z7];omega),cR,dV]
     exact hK
    ·rename_i m e xs hn
     have hw':=aG hw;clear hw
     obtain⟨⟨e1,e2,e3,hot⟩,hw⟩:=hw'
     subst e1;subst e2;subst e3
     simp only[Z2]at hw;subst hw
     have ho1:(a_ V S).own? n=some (.box none ((bY V.sz V.enc (.ar m e) xs).map .d)):=by rw[bL,hn];rfl
     refine aY h λK hK=> ?_
     simp only[bN,ho,ht,aI,hx,aL,ho1,fw,Z7,aap]
     have hl:=cC (V:=V) (.ar m e) xs
     rw[adD (by omega),aaI (by rw[Z7];omega),cR,dV]
     exact hK
    ·cases hw
   ·split at h
    ·rename_i cells hc
     split at h
     ·rename_i v hv
      obtain⟨y,h1,h2,h3⟩:=jY (ω:=S.len) hv
      rw[iK]at h1
      refine mK h λK hK=> ?_
      simp only[bN,ho,ht,aI,hx,aL,ig hc,h1]
      exact hK y h2 h3
     ·cases h
    ·cases h
  ·rename_i n s i off hx
   split at h
   ·rename_i te e xs hc
    obtain⟨hs,h⟩:=aG h
    obtain⟨y,hy,h⟩:=b9 h
    split at h
    ·rename_i v hv
     obtain⟨d,h1,h2⟩:=fI (ω:=S.len) hv
     refine aY h λK hK=> ?_
     simp only[bN,ho,ht,aI,hx,aL,dI hc,Z6,hy,aau,h1]
     refine⟨hs,?_⟩
     rw[<-h2];exact hK
    ·cases h
   ·cases h
  ·rename_i t' y off hx
   split at h
   ·rename_i v hv
    obtain⟨d,h1,h2⟩:=fI (ω:=S.len) hv
    refine aY h λK hK=> ?_
    simp only[bN,ho,ht,aI,hx,aL,h1]
    rw[<-h2];exact hK
   ·cases h
  ·cases h
 ·cases h
theorem J4{t:TypeId}{x y:Operand}(ho:o.op= .store t x y)(h:tx V P nm call ex o S k=some r):OpS ex P nm o S k r:=by
 simp only[tx,ho]at h
 split at h
 ·rename_i ag sz ht
  split at h
  ·rename_i n off cs hx hy
   split at h
   ·rename_i cells hc
    have h':=aG h;clear h
    obtain⟨⟨h1,h2,h3⟩,h⟩:=h'
    split at h
    ·rename_i hwh
     obtain⟨e0,hsz⟩:=hwh
     subst e0
     refine sN h (by rw[xY hc];exact Fo) λK hK=> ?_
     simp only[bN,ho,ht,aI,hx,aL,ig hc,dQ (ω:=S.len) hy,bE]
     refine⟨⟨h1,ft h2,h3⟩,?_⟩
     rw[uQ hy]at hK
     simp only[eK,bE,acj,aad,Z9]
     rw[ac7 (by rw[bE];omega),abY]
     exact hK
    ·refine sN h (by rw[xY hc];rfl) λK hK=> ?_
     simp only[bN,ho,ht,aI,hx,aL,ig hc,dQ (ω:=S.len) hy,bE]
     refine⟨⟨h1,ft h2,h3⟩,?_⟩
     simp only[cp,gk,tN,iK]at hK
     simp only[eK,bE]
     exact hK
   ·cases h
  ·rename_i n s i off cs hx hy
   split at h
   ·rename_i te e xs hc
    obtain⟨⟨h0,h1,h2,h3⟩,h⟩:=aG h
    obtain⟨x',hx',h⟩:=b9 h
    split at h
    ·rename_i y' hy'
     obtain⟨ds,e1,_,e3⟩:=ej (ω:=S.len) hy'
     have e3:=e3 rfl
     subst e3
     have hcs:∃es,gD (encL V S.len cs)=some es/\bY V.sz V.enc e y'=(bY V.sz V.enc e x').take off++es++(bY V.sz V.enc e x').drop (off+es.length)/\es.length=cs.length:=by
      have hm:∀l:List (dU V.N),encL V S.len (l.map λl=>TV.lf l.t l.x)=(l.map λl=>bC V.sz V.enc l.t l.x).map H.d:=by
       intro l
       rw[aU,aaF,aaF]
       exact aay λl _=>by simp[aL]
      rw[gk,gk,hm,hm,aa6,aa7,<-c6]at e1
      have hall:∃es:List D,encL V S.len cs=es.map H.d:=by
       have:∀(a b c:List H) (l:List D),a++b++c=l.map H.d->∃es:List D,b=es.map H.d:=by
        intro a b c l hl
        refine⟨(l.drop a.length).take b.length,?_⟩
        rw[aa6,aa7,<-hl]
        simp
       exact this _ _ _ _ e1
      obtain⟨es,hes⟩:=hall
      have hlen:es.length=cs.length:=by have:=congrArg acn hes;simpa[bE]using this.symm
      refine⟨es,by rw[hes,dV],?_,hlen⟩
      rw[hes,<-aaV,<-aaV]at e1
      have inj:∀(a b:List D),a.map H.d=b.map H.d->a=b:=λa b hab=>by
       have:=congrArg gD hab
       rw[dV,dV]at this
       simpa using this
      rw[hlen]
      exact(inj _ _ e1).symm
     obtain⟨es,he1,he2,he3⟩:=hcs
     refine sN h (by rw[ef hc];simp[TO.len]) λK hK=> ?_
     simp only[bN,ho,ht,aI,hx,aL,dI hc,dQ (ω:=S.len) hy,bE,Z6,hx',aau,he1]
     refine⟨⟨h0,h1,ft h2,by rw[<-h0];exact h3⟩,?_⟩
     simp only[cp,abD,he2]at hK
     exact hK
    ·cases h
   ·cases h
  ·cases h
 ·cases h
theorem xH{x:Operand}(ho:o.op= .nilCheck x)(h:tx V P nm call ex o S k=some r):OpS ex P nm o S k r:=by
 simp only[tx,ho]at h
 split at h
 ·rename_i n off hx
  refine aY h λK hK=> ?_
  simp only[bN,ho,aI,hx,aL]at hK⊢;exact hK
 ·rename_i n s i off hx
  refine aY h λK hK=> ?_
  simp only[bN,ho,aI,hx,aL]at hK⊢;exact hK
 ·rename_i t x off hx
  refine aY h λK hK=> ?_
  simp only[bN,ho,aI,hx,aL]at hK⊢;exact hK
 ·rename_i n b hx
  obtain⟨hb,h⟩:=aG h
  subst hb
  refine aY h λK hK=> ?_
  simp only[bN,ho,aI,hx,aL]at hK⊢;exact hK
 ·cases h
theorem DN{y:Operand}(h:DM y=true):y= .const .nilIface:=by
 unfold DM at h
 split at h
 ·rfl
 ·cases h
theorem JU{op:BinOp}{t t':TypeId}{x y:Operand}(ho:o.op= .binOp op t x y t')(h:tx V P nm call ex o S k=some r):OpS ex P nm o S k r:=by
 simp only[tx,ho]at h
 split at h
 ·rename_i kx a ky b hx hy
  split at h
  ·rename_i hs
   obtain⟨hb,h⟩:=aG h
   cases op<;>simp only[xj,reduceCtorEq,Z2]at hs
   refine aY h λK hK=> ?_
   simp only[bN,ho,aI,hx,hy,aL,bC,oJ]at hK⊢;exact⟨hb,hK⟩
  ·rename_i hs
   obtain⟨hb,h⟩:=aG h
   cases op<;>simp only[xj,reduceCtorEq,Z2]at hs
   refine aY h λK hK=> ?_
   simp only[bN,ho,aI,hx,hy,aL,bC,oJ]at hK⊢;exact⟨hb,hK⟩
  rename_i hs
  obtain⟨hk,h⟩:=aG h
  subst hk
  cases op<;>simp only[]at h<;>first
   |(cases h;done)
   |(obtain⟨hb,h⟩:b≠0/\_:=by
      split at h
      ·cases h
      ·exact⟨‹_›,h⟩
     refine aY h λK hK=> ?_
     simp only[bN,ho,aI,hx,hy,aL,bC,oJ]at hK⊢;exact⟨⟨trivial,hb⟩,hK⟩)
   |(refine aY h λK hK=> ?_
     simp only[bN,ho,aI,hx,hy,aL,bC,oJ]at hK⊢;exact⟨trivial,hK⟩)
 ·rename_i a b hx hy
  split at h
  ·rename_i hu
   refine aY h λK hK=> ?_
   simp only[bN,ho,aI,hx,hy,aL,bC]at hK⊢;exact⟨hu,hK⟩
  ·rename_i hu
   refine aY h λK hK=> ?_
   simp only[bN,ho,aI,hx,hy,aL,bC]at hK⊢;exact⟨hu,hK⟩
  ·cases h
 ·rename_i a b hx hy
  split at h
  ·refine aY h λK hK=> ?_
   simp only[bN,ho,aI,hx,hy,aL,bC]at hK⊢;exact hK
  ·refine aY h λK hK=> ?_
   simp only[bN,ho,aI,hx,hy,aL,bC]at hK⊢;exact hK
  ·obtain⟨hl,h⟩:=aG h
   refine aY h λK hK=> ?_
   simp only[bN,ho,aI,hx,hy,aL,bC]at hK⊢;exact⟨by unfold most at hl;omega,hK⟩
  ·cases h
 ·rename_i a n c hx hy
  split at h
  ·rename_i hu
   refine aY h λK hK=> ?_
   simp only[bN,ho,aI,hx,hy,aL,cx,bC]at hK⊢;exact⟨hu,hK⟩
  ·rename_i hu
   refine aY h λK hK=> ?_
   simp only[bN,ho,aI,hx,hy,aL,cx,bC]at hK⊢;exact⟨hu,hK⟩
  ·cases h
 ·rename_i e y ys hx hy
  split at h
  ·rename_i hu
   refine aY h λK hK=> ?_
   simp only[bN,ho,aI,hx,hy,aL,cx,bC,aac]at hK⊢;exact⟨hu,hK⟩
  ·rename_i hu
   refine aY h λK hK=> ?_
   simp only[bN,ho,aI,hx,hy,aL,cx,bC,aac]at hK⊢;exact⟨hu,hK⟩
  ·cases h
 ·rename_i n b hx hy
  split at h
  ·rename_i hu
   refine aY h λK hK=> ?_
   simp only[bN,ho,aI,hx,hy,aL,cx,bC]at hK⊢;exact⟨hu,hK⟩
  ·rename_i hu
   refine aY h λK hK=> ?_
   simp only[bN,ho,aI,hx,hy,aL,cx,bC]at hK⊢;exact⟨hu,hK⟩
  ·cases h
 ·rename_i b hx hy
  obtain⟨⟨hu,hn⟩,h⟩:=aG h
  have hyc:=DN hn
  split at h
  ·refine aY h λK hK=> ?_
   simp only[bN,ho,aI,hx,hy,aL,cx,bC]at hK⊢;exact⟨⟨hu,hyc⟩,hK⟩
  ·refine aY h λK hK=> ?_
   simp only[bN,ho,aI,hx,hy,aL,cx,bC]at hK⊢;exact⟨⟨hu,hyc⟩,hK⟩
  ·cases h
 ·cases h
theorem ON{op:UnOp}{t:TypeId}{x:Operand}(ho:o.op= .unOp op t x)(h:tx V P nm call ex o S k=some r):OpS ex P nm o S k r:=by
 simp only[tx,ho]at h
 split at h
 ·rename_i b hx
  refine aY h λK hK=> ?_
  simp only[bN,ho,aI,hx,aL,bC]at hK⊢;exact hK
 ·rename_i ki n hx
  refine aY h λK hK=> ?_
  simp only[bN,ho,aI,hx,aL,bC]at hK⊢;exact hK
 ·cases h
theorem m5{t:TypeId}{x:Operand}(ho:o.op= .makeInterface t x)(h:tx V P nm call ex o S k=some r):OpS ex P nm o S k r:=by
 simp only[tx,ho]at h
 split at h
 ·rename_i hn
  refine aY h λK hK=> ?_
  simp only[bN,ho,aL,bC]at hK⊢
  exact⟨hn,hK⟩
 ·cases h
theorem BZ{s t:TypeId}{x:Operand}(ho:o.op= .convert s t x)(h:tx V P nm call ex o S k=some r):OpS ex P nm o S k r:=by
 simp only[tx,ho]at h
 split at h
 ·rename_i d ki kk n h1 h2 hx
  refine aY h λK hK=> ?_
  simp only[bN,ho,h1,h2,aI,hx,aL,bC]at hK⊢;exact hK
 ·rename_i d kk n h1 h2 hx
  refine aY h λK hK=> ?_
  simp only[bN,ho,h1,h2,aI,hx,aL,bC]at hK⊢;exact hK
 ·rename_i e x h1 h2 hx
  split at h
  ·rename_i d hu hd
   obtain⟨hl,h⟩:=aG h
   refine pb (d:=d) (e:= .int .i32) (old:=[]) (λp hp=>by cases hp) h λK hK=> ?_
   simp only[bN,ho,h1,h2,aI,hx,aL,bC,hu,hd]at hK⊢
   exact⟨by have:=Ft x;unfold most at hl;omega,hK⟩
  ·rename_i hu
   refine aY h λK hK=> ?_
   simp only[bN,ho,h1,h2,aI,hx,aL,bC,bY,tsz,hu]at hK⊢
   exact hK
  ·cases h
 ·rename_i e ik xs h1 h2 hx
  split at h
  ·rename_i hu
   refine aY h λK hK=> ?_
   simp only[bN,ho,h1,h2,aI,hx,aL,bC,hu]at hK⊢
   erw[oK]
   exact⟨rfl,hK⟩
  ·rename_i hu
   refine aY h λK hK=> ?_
   simp only[bN,ho,h1,h2,aI,hx,aL,bC,hu]at hK⊢
   erw[oK]
   exact⟨rfl,hK⟩
  ·cases h
 ·rename_i e h1 h2 hx
  split at h
  ·rename_i hu
   refine aY h λK hK=> ?_
   simp only[bN,ho,h1,h2,aI,hx,aL,bC,cx,hu]at hK⊢;exact hK
  ·rename_i hu
   refine aY h λK hK=> ?_
   simp only[bN,ho,h1,h2,aI,hx,aL,bC,cx,hu]at hK⊢;exact hK
  ·cases h
 ·cases h
theorem JZ{t:TypeId}{x:Operand}(ho:o.op= .range t x)(h:tx V P nm call ex o S k=some r):OpS ex P nm o S k r:=by
 simp only[tx,ho]at h
 split at h
 ·rename_i s d ht hx hd
  refine w5 h λK hK=> ?_
  simp only[bN,ho,ht,hd,aI,hx,aL,bC]
  exact hK
 ·rename_i kt et m d ht hx hd
  split at h
  ·rename_i tk tv es hown
   refine⟨_,h,λm' o hm=> ?_,?_⟩
   ·simp only[aH]at hm
    split at hm
    ·rename_i e;left;simp[e]
    ·split at hm
     ·rename_i e;right;simp at hm;subst hm;subst e;simp[TO.len,sq hown]
     ·simp[gt]at hm
   ·simp only[bN,ho,ht,hd,aI,hx,aL,je hown]
    exact cX (by simp[aL]) rfl (by simp[cp]) rfl
  ·cases h
 ·cases h
theorem JW{x:Operand}(ho:o.op= .entry x)(h:tx V P nm call ex o S k=some r):OpS ex P nm o S k r:=by
 simp only[tx,ho]at h
 split at h
 ·rename_i n hx
  split at h
  ·rename_i m tk tv es rest p hown
   obtain⟨hk,h⟩:=aG h
   refine aY h λK hK=> ?_
   simp only[bN,ho,aI,hx,aL,encL,uF hown,aau]at hK⊢
   rw[DT hk]at hK
   exact⟨trivial,hK⟩
  ·cases h
 ·cases h
theorem OL{x:Operand}{b:Bool}(ho:o.op= .next x b)(h:tx V P nm call ex o S k=some r):OpS ex P nm o S k r:=by
 cases b with
 |false=>simp only[tx,ho]at h;cases h
 |true=>
 simp only[tx,ho]at h
 split at h
 ·rename_i n hx
  split at h
  ·rename_i s p hown
   obtain⟨h0,h⟩:=aG h
   split at h
   ·rename_i hlt
    have hl:(abw p.toNat s.size)=true:=by rw[abE];omega
    refine⟨_,h,λm o hm=> ?_,?_⟩
    ·simp only[aH]at hm
     split at hm
     ·rename_i e;right;simp at hm;subst hm;subst e;simp[TO.len,Ho hown]
     ·simp[gt]at hm
    ·have hp:((p.toNat:Nat):Int)=p:=by omega
     have hw:(p+Bs.wid s p).toNat=p.toNat+(Utf8.decode s p.toNat).2:=by unfold Bs.wid;omega
     simp only[bN,ho,aI,hx,aL,y7 hown,hl]
     refine⟨trivial,cX (by simp only[aL,encL,bC,Bs.dec,hp]) rfl (by simp[cp,hw]) rfl⟩
   ·rename_i hlt
    have hl:(abw p.toNat s.size)=false:=by rw[Bool.eq_false_iff];intro h;rw[abE]at h;omega
    refine aY h λK hK=> ?_
    simp only[bN,ho,aI,hx,aL,encL,bC,y7 hown,hl]at hK⊢
    exact⟨trivial,hK⟩
  ·cases h
 ·cases h
theorem JV{t:TypeId}{parts:Array (Nat×Operand)}(ho:o.op= .build t parts)(h:tx V P nm call ex o S k=some r):OpS ex P nm o S k r:=by
 simp only[tx,ho]at h
 split at h
 ·rename_i z pl hz hp
  obtain⟨hz1,h⟩:=aG h
  split at h
  ·rename_i cs hcs
   have hf:=g_ (ω:=S.len) hcs
   rw[nG hz1]at hf
   split at h
   ·refine mK h λK hK=> ?_
    simp only[bN,ho,hz,hp,D7,hf]
    exact hK _ (by rw[aL];exact H.le.refl _) (λ_=>by rw[aL])
   ·refine mK h λK hK=> ?_
    simp only[bN,ho,hz,hp,D7,hf]
    exact hK _ iX.1 iX.2
  ·cases h
 ·cases h
theorem wD(S:TS V.N)(l:List (Nat×Operand)):(l.map λp=>(p.1,fnD (Go.Awp.ev (a_ V S) p.2)))=(l.map λp=>(p.1,fnT (tev S p.2))).map λp=>(p.1,aL V S.len p.2):=by
 rw[aaF]
 exact aay λp _=>by simp only[acR,aI,r_]
theorem s9{t:TypeId}{len:Nat}{parts:Array (Nat×Operand)}(ho:o.op= .buildSlice t len parts)(h:tx V P nm call ex o S k=some r):OpS ex P nm o S k r:=by
 simp only[tx,ho]at h
 split at h
 ·rename_i te sz by_ e ht hty
  obtain⟨hsz,h⟩:=aG h
  subst hsz
  split at h
  ·rename_i ys hys
   obtain⟨rows,f1,f2,f3,f4⟩:=j4 (ω:=S.len) hys
   simp only[Z7]at f2
   obtain⟨⟨hl,hs⟩,h⟩:=aG h
   have hl':rows.length=len/\len *tsz V.sz e<=16777216:=⟨by omega,hs⟩
   cases hd:o.dst with
   |none=>
    simp only[hd]at h
    refine mK h λK hK=> ?_
    simp only[bN,ho,ht,wD,f1,hd]
    refine⟨hl',hK _ ?_ λhx=> ?_⟩
    ·simp only[aL,bC]
     exact H.le.d (D.le.sl f3)
    ·simp only[aL,bC]
     rw[f4 hx]
   |some d=>
    simp only[hd]at h
    by_cases hn:nm d=d
    ·rw[adD hn]at h
     refine mK h λK hK=> ?_
     simp only[bN,ho,ht,wD,f1,hd]
     refine⟨hl',?_⟩
     rw[adD hn]
     refine hK _ ?_ λhx=> ?_
     ·simp only[aL,bC]
      exact H.le.d (D.le.sl f3)
     ·simp only[aL,bC]
      rw[f4 hx]
    ·rw[adC hn]at h
     refine⟨_,h,λm o hm=> ?_,?_⟩
     ·simp only[aH]at hm
      split at hm
      ·rename_i e;left;simp[e]
      ·simp[gt]at hm
     ·simp only[bN,ho,ht,wD,f1,hd]
      refine⟨hl',?_⟩
      rw[adC hn]
      refine{val:= ?_,new:=rfl,none:=λn hg=> ?_,some:=λn o' hg=> ?_,eq:=λhx=> ?_}
      ·simp only[gA,aL]
       rw[d5]
       simp only[aH,adz,TO.len]
       rw[f3.len,Z7]
       exact H.le.refl _
      ·simp only[gA,aac,aaT,aH]at hg⊢
       split at hg
       ·simp at hg
       ·rename_i hne;rw[adC hne];rfl
      ·simp only[gA,aac,aaT,aH]at hg⊢
       split at hg
       ·rename_i hne
        simp only[cp,Z2]at hg
        subst hg
        exact⟨_,by rw[adD hne],OLe.vec f3⟩
       ·simp[gt]at hg
      ·simp only[gA,aL,aac,aaT,cp]
       rw[d5]
       simp only[aH,adz,TO.len]
       rw[f4 hx,Z7]
       first|exact⟨rfl,rfl,rfl⟩|exact⟨rfl,trivial⟩|simp
  ·cases h
 ·cases h
theorem Fu{l c:Operand}(h:rf l c=true):l=c:=by
 cases l<;>cases c<;>simp_all [rf]
theorem uX{e:Ty V.ι}{y:den V.N e}{ds:List D}(h1:D.Les ds (bY V.sz V.enc e y)):∀N:Nat,D.Rows (aak N ds) ((aak N y).map λx=>bY V.sz V.enc e x)
 |0=> .nil
 |N+1=> .cons h1 (uX h1 N)
theorem vl{d:Nat}{te:TypeId}{e:Ty V.ι}{y:den V.N e}{ds:List D}{N:Nat}(_:o.dst=some d)(h1:D.Les ds (bY V.sz V.enc e y))(h2:ex=true->ds=bY V.sz V.enc e y)
 (h:k {val:= .vh (nm d),upd:=[(nm d, .vec te e (aak N y))],new:=[nm d]}=some r)
 (hv:∀K:Eff->Prop,K {val:= .vh (nm d) N,acc:=[],upd:=[(nm d,some (.vec te (tsz V.sz e) (aak N ds)))],new:=[nm d]}->bN P nm o (ev (a_ V S)) (a_ V S).own? K):OpS ex P nm o S k r:=by
 refine⟨_,h,λm o hm=> ?_,hv _ ?_⟩
 ·simp only[aH]at hm
  split at hm
  ·rename_i e;left;simp[e]
  ·simp[gt]at hm
 ·have f3:=uX h1 N
  refine{val:= ?_,new:=rfl,none:=λn hg=> ?_,some:=λn o' hg=> ?_,eq:=λhx=> ?_}
  ·simp only[gA,aL]
   rw[d5]
   simp only[aH,adz,TO.len,aaP]
   exact H.le.refl _
  ·simp only[gA,aac,aaT,aH]at hg⊢
   split at hg
   ·simp[cp]at hg
   ·rename_i hne;rw[adC hne];rfl
  ·simp only[gA,aac,aaT,aH]at hg⊢
   split at hg
   ·rename_i hne
    simp only[cp,Z2]at hg
    subst hg
    exact⟨_,by rw[adD hne],OLe.vec f3⟩
   ·simp[gt]at hg
  ·simp only[gA,aL,aac,aaT,cp]
   rw[d5]
   simp only[aH,adz,TO.len,aaP,abN,h2 hx]
   first|exact⟨rfl,rfl,rfl⟩|exact⟨rfl,trivial⟩|simp
theorem kD:∀{ds:List D} {z:List Value},(z.map λx=>H.d (.v x))=ds.map H.d->ds=z.map .v
 |[],[],_=>rfl
 |[],_::_,h=>by simp at h
 |_::_,[],h=>by simp at h
 |d::ds,x::z,h=>by
  simp only[aac,aaS,H.d.injEq]at h
  rw[<-h.1,kD h.2];rfl
theorem vk{t:TypeId}{l c:Operand}(ho:o.op= .makeSlice t l c)(h:tx V P nm call ex o S k=some r):OpS ex P nm o S k r:=by
 simp only[tx,ho]at h
 split at h
 ·rename_i te sz by_ e d ht hty hd
  split at h
  ·rename_i z kl n kc m hz hl hc
   split at h
   ·rename_i y hy
    have h':=aG h;clear h
    obtain⟨⟨hsz,hby,hzc⟩,h⟩:=h'
    subst hsz
    obtain⟨ds,e1,e2,e3⟩:=ej (ω:=S.len) hy
    rw[nG hzc]at e1
    have hds:=kD e1
    subst hds
    split at h
    ·rename_i hs
     have hs:=Fu hs
     subst hs
     obtain⟨h0,h⟩:=aG h
     obtain⟨h1,h⟩:=aG h
     have hnm:n=m:=by rw[hl]at hc;cases hc;rfl
     subst hnm
     refine vl hd e2 e3 h λK hK=> ?_
     simp only[bN,ho,ht,hd,hz,aI,hl,hc,aL,bC]
     exact⟨⟨.inl trivial,h0,h0,h1,hby⟩,hK⟩
    ·have h':=aG h;clear h
     obtain⟨h2,h⟩:=h'
     subst h2
     have h':=aG h;clear h
     obtain⟨h0,h⟩:=h'
     have h':=aG h;clear h
     obtain⟨h1,h⟩:=h'
     refine vl (N:=0) (y:=y) hd e2 e3 h λK hK=> ?_
     simp only[bN,ho,ht,hd,hz,aI,hl,hc,aL,bC]
     exact⟨⟨.inr trivial,aaz _,h0,h1,hby⟩,hK⟩
   ·cases h
  ·cases h
 ·cases h
theorem pa{t:Ty V.ι}{d:D}{z:den V.N t}(h:ofZ V ex t d=some z):D.le d (bC V.sz V.enc t z)/\(ex=true->d=bC V.sz V.enc t z):=by
 unfold ofZ at h
 split at h
 ·obtain⟨hk,h⟩:=aG h
  subst hk
  have h:=‹some _=some z›
  simp only[Z2]at h;subst h
  exact⟨D.le.refl _,λ_=>rfl⟩
 ·cases h;exact⟨D.le.refl _,λ_=>rfl⟩
 ·cases h;exact⟨D.le.refl _,λ_=>rfl⟩
 ·split at h
  ·cases h
  ·cases h;exact⟨by simp only[bC,aaT];exact D.le.nil _,λh=>by cases h⟩
 ·split at h
  ·rename_i z' hz
   obtain⟨hc,h⟩:=aG h
   obtain⟨ds',e1,e2,e3⟩:=ej (ω:=λ_=>0) h
   rw[nG hc]at e1
   have:=kD e1
   subst this
   rw[pP hz]
   exact⟨D.le.agg e2,λhx=>by rw[e3 hx];rfl⟩
  ·cases h
 ·cases h
theorem B2{t:TypeId}{hint:Option Operand}(ho:o.op= .makeMap t hint)(h:tx V P nm call ex o S k=some r):OpS ex P nm o S k r:=by
 simp only[tx,ho]at h
 split at h
 ·rename_i kt et d ht hd
  split at h
  ·obtain⟨hh,h⟩:=aG h
   refine Bc h λK hK=> ?_
   have hx:oG (ev (a_ V S)) hint=true:=by
    cases hint with
    |none=>rfl
    |some x=>
     simp only[Qy]at hh
     simp only[oG,aI]
     split at hh
     ·rename_i hx;rw[hx];simp[aL,bC]
     ·cases hh
   simp only[bN,ho,ht,hd]
   exact⟨hx,hK⟩
  ·cases h
 ·cases h
theorem Gd{t:TypeId}{x i:Operand}{c:Bool}(ho:o.op= .lookup t x i c)(h:tx V P nm call ex o S k=some r):OpS ex P nm o S k r:=by
 simp only[tx,ho]at h
 split at h
 ·rename_i kt et n tk key ht hx hi
  split at h
  ·rename_i tk' tv es d hown hz
   split at h
   ·rename_i z hzz
    obtain⟨z1,z2⟩:=pa hzz
    split at h
    ·rename_i htk
     subst htk
     obtain⟨hk,h⟩:=aG h
     cases hkt:P.underlying kt with
     |none=>rw[hkt]at hk;simp[fm]at hk
     |some kind=>
      rw[hkt]at hk
      have hf:=yj (tv:=tv) hk key es
      have hle:H.le (.d (((Mp.get (keq V.cells tk) key es).map (bC V.sz V.enc tv)).getD d)) (aL V S.len (.lf tv ((Mp.get (keq V.cells tk) key es).getD z)))/\
       (ex=true->H.d (((Mp.get (keq V.cells tk) key es).map (bC V.sz V.enc tv)).getD d)=aL V S.len (.lf tv ((Mp.get (keq V.cells tk) key es).getD z))):=by
       cases Mp.get (keq V.cells tk) key es with
       |none=>simp only[aca,Option.getD_none,aL];exact⟨H.le.d z1,λhx=>by rw[z2 hx]⟩
       |some y=>simp only[aau,abc,aL];exact⟨H.le.refl _,λ_=>trivial⟩
      cases c with
      |true=>
       refine mK h λK hK=> ?_
       simp only[bN,ho,ht,hkt,hz,aI,hx,hi,aL,sk hk,je hown,hf]
       refine⟨⟨ju hk,lQ hk key es⟩,hK _ ?_ λhx=> ?_⟩
       ·simp only[aL,encL]
        refine Gf rfl λi x hx=> ?_
        match i with
        |0=>simp at hx;subst hx;exact⟨_,rfl,by simpa only[aL]using hle.1⟩
        |1=>
         simp at hx;subst hx
         refine⟨_,rfl,?_⟩
         simp only[bC,acT]
         exact H.le.refl _
        |i+2=>simp at hx
       ·simp only[aL,encL]
        have:=hle.2 hx
        simp only[aL]at this
        rw[this]
        simp only[bC,acT]
      |false=>
       refine mK h λK hK=> ?_
       simp only[bN,ho,ht,hkt,hz,aI,hx,hi,aL,sk hk,je hown,hf]
       exact⟨⟨ju hk,lQ hk key es⟩,hK _ hle.1 hle.2⟩
    ·cases h
   ·cases h
  ·cases h
 ·cases h
theorem L2{t:TypeId}{x i y:Operand}(hop:∀(ρ:Operand->H) (ω:Nat->Option Own) (K:Eff->Prop),J9 P ρ ω t x i y K->bN P nm o ρ ω K)(h:S7 V P t x i y S k=some r):OpS ex P nm o S k r:=by
 simp only[S7]at h
 split at h
 ·rename_i kt et n tk key tv z ht hx hi hy
  split at h
  ·rename_i tk' tv' es hown
   split at h
   ·rename_i htk
    subst htk
    split at h
    ·rename_i htv
     subst htv
     obtain⟨hk,h⟩:=aG h
     cases hkt:P.underlying kt with
     |none=>rw[hkt]at hk;simp[fm]at hk
     |some kind=>
      rw[hkt]at hk
      refine sN h (by rw[sq hown];rfl) λK hK=>hop _ _ _ ?_
      simp only[J9,ht,hkt,aI,hx,hi,hy,aL,sk hk,je hown,Fz hk]
      exact⟨⟨ju hk,lQ hk key es⟩,_,(Mp.set_perm _ _ _ _ _).map _,hK⟩
    ·cases h
   ·cases h
  ·cases h
 ·cases h
theorem vi{s:TypeId}{x:Operand}{f:Nat}(ho:o.op= .fieldAddr s x f)(h:tx V P nm call ex o S k=some r):OpS ex P nm o S k r:=by
 simp only[tx,ho]at h
 split at h
 ·rename_i fo hfo
  split at h
  ·rename_i n off hx
   refine aY h λK hK=> ?_
   simp only[bN,ho,hfo,aI,hx,aL]at hK⊢;exact hK
  ·rename_i n sz i off hx
   refine aY h λK hK=> ?_
   simp only[bN,ho,hfo,aI,hx,aL]at hK⊢;exact hK
  ·rename_i t x off hx
   obtain⟨hl,h⟩:=aG h
   refine aY h λK hK=> ?_
   simp only[bN,ho,hfo,aI,hx,aL,abA]at hK⊢
   refine⟨?_,hK⟩
   rw[gU]at hl
   rw[aaE,cC];omega
  ·cases h
 ·cases h
theorem JX{s:TypeId}{x:Operand}{f:Nat}(ho:o.op= .field s x f)(h:tx V P nm call ex o S k=some r):OpS ex P nm o S k r:=by
 simp only[tx,ho]at h
 split at h
 ·rename_i off ag sz t y hft hx
  obtain⟨hc,h⟩:=aG h
  split at h
  ·rename_i v hv
   obtain⟨d,h1,h2⟩:=fI (ω:=S.len) hv
   have he:aL V S.len (.lf t y)= .d (.agg (bY V.sz V.enc t y)):=by
    cases t<;>first|(simp[Ty.cell]at hc;done)|simp[aL,bC,bY]
   refine aY h λK hK=> ?_
   simp only[bN,ho,hft,aI,hx,he,h1]
   rw[<-h2];exact hK
  ·cases h
 ·rename_i off ag sz cs hft hx
  split at h
  ·rename_i v hv
   obtain⟨y,h1,h2,h3⟩:=jY (ω:=S.len) hv
   rw[iK]at h1
   refine mK h λK hK=> ?_
   simp only[bN,ho,hft,aI,hx,aL,cR]
   cases ha:gD (encL V S.len cs)with
   |none=>simp only[h1];exact hK y h2 h3
   |some ds=>
    have hds:encL V S.len cs=ds.map H.d:=by
     obtain⟨g1,g2⟩:=fq ha
     apply abp
     intro i;rw[g2,Z6]
    rw[hds,<-aa7]at h1
    have:∃d,dY ag sz (ds.drop off)=some d/\y= .d d:=by
     cases ag with
     |false=>
      simp only[fw,dY]at h1⊢
      cases hdr:ds.drop off with
      |nil=>rw[hdr]at h1;cases h1
      |cons c rr=>rw[hdr]at h1;simp at h1;exact⟨c,rfl,h1.symm⟩
     |true=>
      simp only[fw,dY,Z7]at h1⊢
      split at h1
      ·rename_i hle
       rw[adD hle]
       rw[<-aa6,cR,dV]at h1
       simp at h1
       exact⟨_,rfl,h1.symm⟩
      ·cases h1
    obtain⟨d,hd1,rfl⟩:=this
    simp only[hd1]
    exact hK _ h2 h3
  ·cases h
 ·cases h
theorem vj{t:TypeId}{x i:Operand}(ho:o.op= .indexAddr t x i)(h:tx V P nm call ex o S k=some r):OpS ex P nm o S k r:=by
 simp only[tx,ho]at h
 split at h
 ·rename_i te sz by_ ht
  split at h
  ·rename_i e xs kk n hx hi
   obtain⟨hsz,h⟩:=aG h
   obtain⟨hn,h⟩:=aG h
   obtain⟨y,hy,h⟩:=b9 h
   refine aY h λK hK=> ?_
   simp only[bN,ho,ht,aI,hx,hi,aL,bC,Z6,hy,aau,aap]at hK⊢
   exact⟨⟨hsz,hn⟩,hK⟩
  ·rename_i m kk n hx hi
   split at h
   ·rename_i te2 e xs hc
    obtain⟨⟨h1,h2⟩,h⟩:=aG h
    refine aY h λK hK=> ?_
    simp only[bN,ho,ht,aI,hx,hi,aL,bC,dI hc,ef hc]at hK⊢
    exact⟨⟨h1,by exact_mod_cast h2⟩,hK⟩
   ·cases h
  ·cases h
 ·cases h
theorem JY{t:TypeId}{x i:Operand}(ho:o.op= .index t x i)(h:tx V P nm call ex o S k=some r):OpS ex P nm o S k r:=by
 simp only[tx,ho]at h
 split at h
 ·rename_i s kk n ht hx hi
  obtain⟨hn,h⟩:=aG h
  obtain⟨b,hb,h⟩:=b9 h
  refine aY h λK hK=> ?_
  simp only[bN,ho,ht,aI,hx,hi,aL,bC,hb]at hK⊢
  exact⟨hn,hK⟩
 ·cases h
theorem J0{t:TypeId}{x:Operand}{lo hi mx:Option Operand}(ho:o.op= .slice t x lo hi mx)(h:tx V P nm call ex o S k=some r):OpS ex P nm o S k r:=by
 cases mx with
 |some m=>simp only[tx,ho]at h;cases h
 |none=>
 simp only[tx,ho]at h
 split at h
 ·rename_i s ht hx
  split at h
  ·rename_i l hh hl hh'
   obtain⟨hc,h⟩:=aG h
   refine aY h λK hK=> ?_
   simp only[bN,ho,ht,aI,hx,aL,bC,gE hl,gE hh']at hK⊢
   exact⟨hc,hK⟩
  ·cases h
 ·rename_i te e xs ht hx
  split at h
  ·rename_i te2 sz' by_ l hh hel hl hh'
   obtain⟨hsz,h⟩:=aG h
   obtain⟨hc,h⟩:=aG h
   refine aY h λK hK=> ?_
   simp only[bN,ho,ht,aI,hx,aL,bC,gE hl,gE hh',hel,Z7,aa7,aa6]at hK⊢
   exact⟨⟨hsz,hc⟩,hK⟩
  ·cases h
 ·cases h
theorem B1{x:Operand}{i:Nat}(ho:o.op= .extract x i)(h:tx V P nm call ex o S k=some r):OpS ex P nm o S k r:=by
 simp only[tx,ho]at h
 split at h
 ·rename_i vs hx
  split at h
  ·rename_i v hv
   refine aY h λK hK=> ?_
   simp only[bN,ho,aI,hx,aL,aU,Z6,hv,aau]at hK⊢
   exact hK
  ·cases h
 ·cases h
theorem xG{fn:Fn}{first captured:Array Operand}(ho:o.op= .makeFunc fn first captured)(h:tx V P nm call ex o S k=some r):OpS ex P nm o S k r:=by
 cases fn with
 |func f=>
  simp only[tx,ho]at h
  refine aY h λK hK=> ?_
  simp only[bN,ho,aL,fp]at hK⊢;exact hK
 |_=>simp only[tx,ho]at h;cases h
theorem OJ{c:Call}{f:Operand}(hcall:bG P call)(ho:o.op= .call c)(hc:c.callee= .value f)(h:tx V P nm call ex o S k=some r):OpS ex P nm o S k r:=by
 simp only[tx,ho,hc]at h
 split at h
 ·rename_i fid first captured hf
  obtain⟨te,h1,h2,h3⟩:=hcall A fid _ S o.dst k r h
  refine⟨te,h1,h2,?_⟩
  simp only[bN,ho,hc,aI,hf,aL,fp]
  rw[gk,gk]at h3
  obtain⟨own,rr,own',q1,q2,q3⟩:=h3
  exact⟨own,rr,own',q1,q2,{q3 with eq:=λ_=>q3.eq rfl}⟩
 ·rename_i fid hf
  obtain⟨te,h1,h2,h3⟩:=hcall A fid _ S o.dst k r h
  refine⟨te,h1,h2,?_⟩
  simp only[bN,ho,hc,aI,hf,aL,bC,fp]
  obtain⟨own,rr,own',q1,q2,q3⟩:=h3
  exact⟨own,rr,own',q1,q2,{q3 with eq:=λ_=>q3.eq rfl}⟩
 ·rename_i x hf
  cases x with
  |none=>cases h
  |some fid=>
   obtain⟨te,h1,h2,h3⟩:=hcall A fid _ S o.dst k r h
   refine⟨te,h1,h2,?_⟩
   simp only[bN,ho,hc,aI,hf,aL,bC,Lu,fp]
   obtain⟨own,rr,own',q1,q2,q3⟩:=h3
   exact⟨own,rr,own',q1,q2,{q3 with eq:=λ_=>q3.eq rfl}⟩
 ·cases h
theorem BX{c:Call}{b:Builtin}(ho:o.op= .call c)(hc:c.callee= .builtin b)(h:tx V P nm call ex o S k=some r):OpS ex P nm o S k r:=by
 simp only[tx,ho,hc,zq]at h
 split at h
 ·rename_i e xs harg
  obtain⟨hk,h⟩:=aG h
  refine aY h λK hK=> ?_
  simp only[bN,ho,hc,fp,harg,encL,aL,bC,Z7]at hK⊢;exact⟨hk,hK⟩
 ·rename_i n harg
  obtain⟨hk,h⟩:=aG h
  refine aY h λK hK=> ?_
  simp only[bN,ho,hc,fp,harg,encL,aL,bC]at hK⊢;exact⟨hk,hK⟩
 ·rename_i n harg
  split at h
  ·rename_i tk tv es hown
   obtain⟨hk,h⟩:=aG h
   refine aY h λK hK=> ?_
   simp only[bN,ho,hc,fp,harg,encL,aL,bC,je hown,Z7]at hK⊢;exact⟨hk,hK⟩
  ·cases h
 ·rename_i s harg
  obtain⟨hk,h⟩:=aG h
  refine aY h λK hK=> ?_
  simp only[bN,ho,hc,fp,harg,encL,aL,bC]at hK⊢;exact⟨hk,hK⟩
 ·rename_i kx a ky b harg
  refine aY h λK hK=> ?_
  simp only[bN,ho,hc,fp,harg,encL,aL,bC]at hK⊢;exact hK
 ·rename_i kx a ky b harg
  refine aY h λK hK=> ?_
  simp only[bN,ho,hc,fp,harg,encL,aL,bC]at hK⊢;exact hK
 ·rename_i x e' news harg
  split at h
  ·rename_i d t t' hd htys
   split at h
   ·rename_i te sz bytes hel
    have hone:∀l:List (den V.N e'),((l.map λx=>bY V.sz V.enc e' x).all λr=>r.all D.one)=true:=by
     intro l
     rw[abU,aaf]
     exactλx _=>w8
    have hby:∀n:Nat,bytes<=32768->n<=most->n *bytes<=140737488355328:=by
     intro n h1 h2
     have:n *bytes<=most *32768:=ac_ h2 h1
     unfold most at this
     omega
    split at h
    ·rename_i n
     split at h
     ·rename_i te2 e xs hc'
      split at h
      ·rename_i hee
       subst hee
       obtain⟨⟨h1,h2,h3,h4,h5⟩,h⟩:=aG h
       obtain⟨h6,h⟩:=aG h
       refine pb (d:=d) (old:=[(n,xs.length)]) (λp hp=>by simp at hp;subst hp;exact ef hc') h λK hK=> ?_
       simp only[bN,ho,hc,fp,harg,encL,aL,bC,hd,htys,hel,dI hc',Z7,ef hc']at hK⊢
       refine⟨⟨h1,h2,h3,h3,trivial,hone news,hby _ h4 h6,by unfold most at h6;omega⟩,?_⟩
       have:=hK
       simp only[aaV,aas]at this
       exact h3▸this
      ·cases h
     ·cases h
    ·obtain⟨⟨h1,h2,h3⟩,h⟩:=aG h
     obtain⟨h4,h⟩:=aG h
     refine pb (d:=d) (old:=[]) (λp hp=>by cases hp) h λK hK=> ?_
     simp only[bN,ho,hc,fp,harg,encL,aL,bC,cx,hd,htys,hel,Z7]at hK⊢
     refine⟨⟨h1,h2,hone news,hby _ h3 h4,by unfold most at h4;omega⟩,?_⟩
     exact h2▸hK
    ·cases h
   ·cases h
  ·cases h
 ·rename_i x s harg
  split at h
  ·rename_i d t t' hd htys
   split at h
   ·rename_i te sz bytes hel
    obtain⟨⟨g1,g2,g3,g4⟩,h⟩:=aG h
    have hs:P.underlying t'=some .string:=by
     unfold QB at g1
     split at g1
     ·assumption
     ·cases g1
    have hz:lT P te=some (.v (.int .u8 0)):=by
     unfold L6 at g4
     split at g4
     ·rename_i n hn;have:n=0:=by simpa using g4
      rw[this]at hn;exact hn
     ·cases g4
    split at h
    ·rename_i n _
     split at h
     ·rename_i te2 xs hc'
      obtain⟨⟨h1,h2⟩,h⟩:=aG h
      obtain⟨h6,h⟩:=aG h
      refine pb (d:=d) (e:= .int .u8) (old:=[(n,xs.length)]) (λp hp=>by simp at hp;subst hp;exact ef hc') h λK hK=> ?_
      simp only[bN,ho,hc,fp,harg,encL,aL,bC,hd,htys,hel,dI hc',Z7,ef hc']at hK⊢
      refine⟨⟨hs,hz,h1,g2,rfl,g3,trivial,by unfold most at h6;omega⟩,?_⟩
      have:=hK
      simp only[aaV,aas]at this
      exact this
     ·cases h
    ·obtain⟨h4,h⟩:=aG h
     refine pb (d:=d) (e:= .int .u8) (old:=[]) (λp hp=>by cases hp) h λK hK=> ?_
     simp only[bN,ho,hc,fp,harg,encL,aL,bC,cx,hd,htys,hel,Z7]at hK⊢
     exact⟨⟨hs,hz,g2,g3,by unfold most at h4;omega⟩,hK⟩
    ·cases h
   ·cases h
  ·cases h
 ·rename_i n harg
  split at h
  ·rename_i te e xs hown
   obtain⟨hk,h⟩:=aG h
   refine aY h λK hK=> ?_
   simp only[bN,ho,hc,fp,harg,encL,aL,bC,dI hown]at hK⊢
   exact⟨hk,hK⟩
  ·cases h
 ·rename_i n ki l harg
  split at h
  ·rename_i te xs pt it hown htys
   obtain⟨⟨h1,h2,h3⟩,h⟩:=aG h
   obtain⟨⟨h4,h5⟩,h⟩:=aG h
   have hp:P.underlying pt=some (.pointer te):=by
    unfold DO at h1
    split at h1
    ·rename_i e' he;rw[aaL h1]at he;exact he
    ·cases h1
   refine Ja (λ_ _=>by simp[aL]) h (ef hown) λK hK=> ?_
   simp only[bN,ho,hc,fp,harg,encL,aL,bC,dI hown,htys,Z7]at hK⊢
   erw[oK]
   exact⟨⟨hp,h2,rfl,h3,h4,by unfold most at h5;subst h4;show(xs.length:Int)<=1000000000000;omega⟩,hK⟩
  ·cases h
 ·cases h
theorem zA(hcall:bG P call)(hf:∀te,k te=some r->∀d∈te.new,S.fresh d=true)(h:tx V P nm call ex o S k=some r):OpS ex P nm o S k r:=by
 cases ho:o.op with
 |move x=>exact Ge (.inl ho) h
 |assign x=>exact Ge (.inr ho) h
 |pick c x y=>exact OM ho h
 |alloc t=>exact JT ho h
 |box t x=>exact Su ho hf h
 |load t x=>exact OK ho h
 |store t x y=>exact J4 ho h
 |nilCheck x=>exact xH ho h
 |binOp op t x y t'=>exact JU ho h
 |unOp op t x=>exact ON ho h
 |convert s t x=>exact BZ ho h
 |build t ps=>exact JV ho h
 |buildSlice t n ps=>exact s9 ho h
 |fieldAddr s x f=>exact vi ho h
 |field s x f=>exact JX ho h
 |indexAddr t x i=>exact vj ho h
 |index t x i=>exact JY ho h
 |slice t x lo hi mx=>exact J0 ho h
 |extract x i=>exact B1 ho h
 |makeFunc fn a b=>exact xG ho h
 |makeInterface t x=>exact m5 ho h
 |makeSlice t l c=>exact vk ho h
 |makeMap t c=>exact B2 ho h
 |range t x=>exact JZ ho h
 |next x b=>exact OL ho h
 |entry x=>exact JW ho h
 |lookup t x i c=>exact Gd ho h
 |mapUpdate t x i y=>exact L2 (λρ ω K hh=>by simpa only[bN,ho]using hh) (by simpa only[tx,ho]using h)
 |insert t x i y=>exact L2 (λρ ω K hh=>by simpa only[bN,ho]using hh) (by simpa only[tx,ho]using h)
 |call c=>
  cases hc:c.callee with
  |value f=>exact OJ hcall ho hc h
  |builtin b=>exact BX ho hc h
  |invoke x m=>simp only[tx,ho,hc]at h;cases h
 |_=>simp only[tx,ho]at h;cases h
end
end Go.Tx
end
section
namespace Go.Tx
open Go.Awp
variable [Inhabited GMem]
inductive Pt (ι:Type)where
 |dat (t:Ty ι)
 |bp (c off:Nat)
 |vh (c:Nat)
 |mp (c:Nat)
 |np (c:Nat)
 |nif
 |fn (f:Nat) (a b:List Nat)
 |ag (cs:List (Ty ι⊕Nat))
 |sv (c sz:Nat)
inductive OPt (ι:Type)where
 |box (o:Option TypeId) (cells:List (Pt ι))
 |st (i:ι)
 |vec (te:TypeId) (e:Ty ι)
 |map (k v:Ty ι)
 |iter
 |miter (m:Nat) (k v:Ty ι)
 |que (te:TypeId) (e:Ty ι)
 |maps (te:TypeId) (k v:Ty ι)
 |bar (n:Nat) (e:Ty ι)
structure Cut (ι:Type)where
 slots:List (Nat×Pt ι)
 objs:List (Nat×OPt ι)
section
variable {ι:Type}
def Mh:List (Ty ι⊕Nat)->List (Ty ι)
 |[]=>[]
 | .inl t::r=>t::Mh r
 | .inr _::r=>Mh r
def Pt.tys:Pt ι->List (Ty ι)
 | .dat t=>[t]
 | .ag cs=>Mh cs
 | .np _=>[.bool]
 | .sv _ _=>[.int .i64, .int .i64]
 |_=>[]
def Fi:List (Pt ι)->List (Ty ι)
 |[]=>[]
 |p::r=>p.tys++Fi r
def F2:List (Nat×Pt ι)->List (Ty ι)
 |[]=>[]
 |p::r=>p.2.tys++F2 r
def OPt.tys:OPt ι->List (Ty ι)
 | .box _ cells=>Fi cells
 | .st i=>[.st i]
 | .vec _ e=>[.sl e]
 | .map k v=>[.mp k v]
 | .iter=>[.str, .int .i64]
 | .miter _ k v=>[.mp k v, .mp k v]
 | .que _ e=>[.sl e]
 | .maps _ k v=>[.sl (.op (.mp k v))]
 | .bar n e=>[.ar n e]
def EU:List (Nat×OPt ι)->List (Ty ι)
 |[]=>[]
 |p::r=>p.2.tys++EU r
def Cut.tys(c:Cut ι):List (Ty ι):=F2 c.slots++EU c.objs
@[reducible] def HL (N:ι->Type):List (Ty ι)->Type
 |[]=>Unit
 |t::r=>den N t×HL N r
def QX{N:ι->Type}:(ts:List (Ty ι))->HL N ts->List (dU N)
 |[],_=>[]
 |t::r,v=>⟨t,v.1⟩::QX r v.2
def LZ[DecidableEq ι]{N:ι->Type}:(ts:List (Ty ι))->List (dU N)->Option (HL N ts)
 |[],[]=>some ()
 |t::r,l::ls=>if h:l.t=t then match LZ r ls with
  |some v=>some (h▸l.x,v)
  |none=>none
  else none
 |_,_=>none
theorem s7[DecidableEq ι]{N:ι->Type}:∀{ts:List (Ty ι)} {ls:List (dU N)} {v:HL N ts},LZ ts ls=some v->QX ts v=ls
 |[],[],v,_=>rfl
 |[],_::_,v,h=>by simp[LZ]at h
 |_::_,[],v,h=>by simp[LZ]at h
 |t::r,l::ls,v,h=>by
  simp only[LZ]at h
  split at h
  ·rename_i ht
   split at h
   ·rename_i w hw
    obtain⟨lt,lx⟩:=l
    simp only at ht
    subst ht
    simp at h;subst h
    simp[QX,s7 hw]
   ·cases h
  ·cases h
abbrev dw:=List (Nat×Nat)
def nP(σ:dw)(c n:Nat):Option dw:=match gt σ c with
 |some m=>if m=n then some σ else none
 |none=>if σ.any (λp=>aaX p.2 n)=true then none else some ((c,n)::σ)
def th{N:ι->Type}(σ:dw):List Nat->List (TV N)->Option dw
 |[],[]=>some σ
 |c::r, .bp n 0::s=>match nP σ c n with
  |some σ'=>th σ' r s
  |none=>none
 |_,_=>none
end
section
variable (V:iE)
def mtC(σ:dw):List (Ty V.ι⊕Nat)->List (TV V.N)->Option (dw×List (dU V.N))
 |[],[]=>some (σ,[])
 | .inl t::r,x::s=>match l_ V false t x with
  |some l=>match mtC σ r s with
   |some (σ',ls)=>some (σ',l::ls)
   |none=>none
  |none=>none
 | .inr c::r, .vh n::s=>match nP σ c n with
  |some σ'=>mtC σ' r s
  |none=>none
 |_,_=>none
def mt1(σ:dw):Pt V.ι->TV V.N->Option (dw×List (dU V.N))
 | .dat t, .lf t' x=>if t'=t then some (σ,[⟨t',x⟩])else none
 | .dat (.sl e), .raw (.slice none 0 0)=>some (σ,[⟨.sl e,[]⟩])
 | .dat .er, .raw .nilIface=>some (σ,[⟨.er,false⟩])
 | .dat (.st i), .agg cs=>match mkV V false (some (.st i)) cs with
  | .lf t x=>some (σ,[⟨t,x⟩])
  |_=>none
 | .bp c off, .bp n off'=>if off=off' then(nP σ c n).map λσ'=>(σ',[])else none
 | .vh c, .vh n=>(nP σ c n).map λσ'=>(σ',[])
 | .mp c, .mp n=>(nP σ c n).map λσ'=>(σ',[])
 | .np c, .np n b=>(nP σ c n).map λσ'=>(σ',[⟨.bool,b⟩])
 | .np c, .bp n 0=>(nP σ c n).map λσ'=>(σ',[⟨.bool,true⟩])
 | .np _, .raw (.pointer none)=>some (σ,[⟨.bool,false⟩])
 | .nif, .raw .nilIface=>some (σ,[])
 | .dat (.op e), .raw (.pointer none)=>some (σ,[⟨.op e,none⟩])
 | .sv c z, .sv n s i off=>if s=z then(nP σ c n).map λσ'=>(σ',[⟨.int .i64,(i:Int)⟩,⟨.int .i64,(off:Int)⟩])else none
 | .fn f a b, .fn f' a' b'=>if f=f' then match th σ a a' with
   |some σ'=>(th σ' b b').map λσ''=>(σ'',[])
   |none=>none
  else none
 | .ag cs, .agg vs=>mtC V σ cs vs
 |_,_=>none
def mtL(σ:dw):List (Pt V.ι)->List (TV V.N)->Option (dw×List (dU V.N))
 |[],[]=>some (σ,[])
 |p::r,x::s=>match mt1 V σ p x with
  |some (σ',l)=>match mtL σ' r s with
   |some (σ'',l')=>some (σ'',l++l')
   |none=>none
  |none=>none
 |_,_=>none
def mtO(S:TS V.N)(σ:dw):List (Nat×OPt V.ι)->Option (dw×List (dU V.N))
 |[]=>some (σ,[])
 |(c,p)::r=>match gt σ c with
  |some n=>match p,S.own? n with
   | .box o ps,some (.box o' cells)=>if o=none\/o=o' then match mtL V σ ps cells with
    |some (σ',l)=>match mtO S σ' r with
     |some (σ'',l')=>some (σ'',l++l')
     |none=>none
    |none=>none
    else none
   | .st i,some (.box _ cells)=>match mkV V false (some (.st i)) cells with
    | .lf (.st j) x=>match mtO S σ r with
     |some (σ'',l')=>some (σ'',⟨.st j,x⟩::l')
     |none=>none
    |_=>none
   | .st i,some (.bst j x)=>if i=j then match mtO S σ r with
     |some (σ'',l')=>some (σ'',⟨.st j,x⟩::l')
     |none=>none
    else none
   | .box none ps,some (.bst j x)=>match mtL V σ ps ((V.cells j x).map λl=> .lf l.t l.x)with
    |some (σ',l)=>match mtO S σ' r with
     |some (σ'',l')=>some (σ'',l++l')
     |none=>none
    |none=>none
   | .vec te e,some (.vec te' e' xs)=>if te=te'/\e=e' then match mtO S σ r with
     |some (σ'',l')=>some (σ'',⟨.sl e',xs⟩::l')
     |none=>none
    else none
   | .iter,some (.iter s p)=>match mtO S σ r with
     |some (σ'',l')=>some (σ'',⟨.str,s⟩::⟨.int .i64,p⟩::l')
     |none=>none
   | .miter cm tk tv,some (.miter m tk' tv' es rest _)=>if tk=tk'/\tv=tv' then match nP σ cm m with
     |some σ'=>match mtO S σ' r with
      |some (σ'',l')=>some (σ'',⟨.mp tk' tv',es⟩::⟨.mp tk' tv',rest⟩::l')
      |none=>none
     |none=>none
    else none
   | .map tk tv,some (.map tk' tv' es)=>if tk=tk'/\tv=tv' then match mtO S σ r with
     |some (σ'',l')=>some (σ'',⟨.mp tk' tv',es⟩::l')
     |none=>none
    else none
   | .que te e,some (.que te' e' xs)=>if te=te'/\e=e' then match mtO S σ r with
     |some (σ'',l')=>some (σ'',⟨.sl e',xs⟩::l')
     |none=>none
    else none
   | .maps te tk tv,some (.maps te' tk' tv' es _)=>if te=te'/\tk=tk'/\tv=tv' then match mtO S σ r with
     |some (σ'',l')=>some (σ'',⟨.sl (.op (.mp tk' tv')),es⟩::l')
     |none=>none
    else none
   | .bar m e,some (.bar m' e' xs)=>if m=m'/\e=e' then match mtO S σ r with
     |some (σ'',l')=>some (σ'',⟨.ar m' e',xs⟩::l')
     |none=>none
    else none
   |_,_=>none
  |none=>none
def bdC:List (Ty V.ι⊕Nat)->List (dU V.N)->Option (List (TV V.N)×List (dU V.N))
 |[],ls=>some ([],ls)
 | .inl _::r,l::ls=>match bdC r ls with
  |some (vs,ls')=>some (.lf l.t l.x::vs,ls')
  |none=>none
 | .inl _::_,[]=>none
 | .inr c::r,ls=>match bdC r ls with
  |some (vs,ls')=>some (.vh c::vs,ls')
  |none=>none
def bd1:(p:Pt V.ι)->List (dU V.N)->Option (TV V.N×List (dU V.N))
 | .dat _,l::ls=>some (.lf l.t l.x,ls)
 | .dat _,[]=>none
 | .bp c off,ls=>some (.bp c off,ls)
 | .vh c,ls=>some (.vh c,ls)
 | .mp c,ls=>some (.mp c,ls)
 | .np c,⟨.bool,b⟩::ls=>some (.np c b,ls)
 | .np _,_=>none
 | .nif,ls=>some (.raw .nilIface,ls)
 | .sv c z,⟨.int .i64,i⟩::⟨.int .i64,off⟩::ls=>some (.sv c z i.toNat off.toNat,ls)
 | .sv _ _,_=>none
 | .fn f a b,ls=>some (.fn f (a.map λc=> .bp c 0) (b.map λc=> .bp c 0),ls)
 | .ag cs,ls=>match bdC V cs ls with
  |some (vs,ls')=>some (.agg vs,ls')
  |none=>none
def bdL:List (Pt V.ι)->List (dU V.N)->Option (List (TV V.N)×List (dU V.N))
 |[],ls=>some ([],ls)
 |p::r,ls=>match bd1 V p ls with
  |some (x,ls')=>match bdL r ls' with
   |some (xs,ls'')=>some (x::xs,ls'')
   |none=>none
  |none=>none
def bdO:List (Nat×OPt V.ι)->List (dU V.N)->Option (List (Nat×TO V.N))
 |[],[]=>some []
 |[],_::_=>none
 |(c, .box o ps)::r,ls=>match bdL V ps ls with
  |some (xs,ls')=>match bdO r ls' with
   |some os=>some ((c, .box o xs)::os)
   |none=>none
  |none=>none
 |(c, .st i)::r,⟨.st j,x⟩::ls=>if j=i then match bdO r ls with
    |some os=>some ((c, .bst j x)::os)
    |none=>none
  else none
 |(c, .vec te e)::r,⟨.sl e',xs⟩::ls=>if e'=e then match bdO r ls with
    |some os=>some ((c, .vec te e' xs)::os)
    |none=>none
  else none
 |(c, .iter)::r,⟨.str,s⟩::⟨.int .i64,p⟩::ls=>match bdO r ls with
    |some os=>some ((c, .iter s p)::os)
    |none=>none
 |(c, .miter cm tk tv)::r,⟨.mp tk' tv',es⟩::⟨.mp tk2 tv2,rest⟩::ls=>if h:(tk2=tk'/\tv2=tv')/\tk'=tk/\tv'=tv then match bdO r ls with
    |some os=>some ((c, .miter cm tk' tv' es (h.1.1▸h.1.2▸rest) none)::os)
    |none=>none
  else none
 |(c, .map tk tv)::r,⟨.mp tk' tv',es⟩::ls=>if tk'=tk/\tv'=tv then match bdO r ls with
    |some os=>some ((c, .map tk' tv' es)::os)
    |none=>none
  else none
 |(c, .que te e)::r,⟨.sl e',xs⟩::ls=>if e'=e then match bdO r ls with
    |some os=>some ((c, .que te e' xs)::os)
    |none=>none
  else none
 |(c, .maps te tk tv)::r,⟨.sl (.op (.mp tk' tv')),es⟩::ls=>if tk'=tk/\tv'=tv then match bdO r ls with
    |some os=>some ((c, .maps te tk' tv' es none)::os)
    |none=>none
  else none
 |(c, .bar m e)::r,⟨.ar m' e',xs⟩::ls=>if m'=m/\e'=e then match bdO r ls with
    |some os=>some ((c, .bar m' e' xs)::os)
    |none=>none
  else none
 |_,_=>none
def build(c:Cut V.ι)(ls:List (dU V.N)):TS V.N:=match bdL V (c.slots.map (·.2)) ls with
 |some (xs,ls')=>match bdO V c.objs ls' with
  |some os=>{tmps:=(c.slots.map (·.1)).zip xs,own:=os}
  |none=>{tmps:=[],own:=[]}
 |none=>{tmps:=[],own:=[]}
def fk(c:Cut V.ι)(v:HL V.N c.tys):TS V.N:=build V c (QX c.tys v)
def Lv(n:Nat)(e:Ty V.ι)(xs:List (den V.N e))(v:TV V.N):TV V.N:=match v with
 | .vh m=>if m=n then .lf (.sl e) xs else .vh m
 |v=>if TV.has n v=true then .junk else v
def TG(n:Nat)(e:Ty V.ι)(xs:List (den V.N e))(v:TV V.N):TV V.N:=match v with
 | .agg cs=> .agg (cs.map (Lv V n e xs))
 |v=>Lv V n e xs v
def wu(n:Nat)(e:Ty V.ι)(xs:List (den V.N e)):TO V.N->TO V.N
 | .box o cells=> .box o (cells.map (Lv V n e xs))
 |o=>o
def TS.frz(S:TS V.N)(n:Nat)(e:Ty V.ι)(xs:List (den V.N e)):TS V.N:=
 {tmps:=S.tmps.map λp=>(p.1,TG V n e xs p.2),own:=(n, .gone xs.length)::S.own.map λp=>(p.1,wu V n e xs p.2)}
def MT(S:TS V.N)(v:TV V.N):TS V.N:=match v with
 | .vh n=>match S.own? n with
  |some (.vec _ e xs)=>S.frz V n e xs
  |_=>S
 |_=>S
def frzL(S:TS V.N):List (TV V.N)->TS V.N
 |[]=>S
 |v::r=>frzL (MT V S v) r
def Gh:List (Ty V.ι⊕Nat)->List (TV V.N)->List (TV V.N)
 | .inl _::r,v::s=>v::Gh r s
 | .inr _::r,_::s=>Gh r s
 |_,_=>[]
def OR:Pt V.ι->TV V.N->List (TV V.N)
 | .dat _, .vh n=>[.vh n]
 | .dat _, .agg cs=>cs
 | .ag cs, .agg vs=>Gh V cs vs
 |_,_=>[]
def S4(_:Bool)(te:TypeId)(e:Ty V.ι):TO V.N:= .vec te e []
def ET(dv:Bool)(te:TypeId)(e:Ty V.ι)(S:TS V.N)(t:Nat):TS V.N:=match gt S.tmps t with
 |some (.raw (.slice none 0 0))=>if S.fresh (60000+t)=true/\abw (60000+t) given=true then{tmps:=(t, .vh (60000+t))::S.tmps,own:=(60000+t,S4 V dv te e)::S.own}else S
 |_=>S
def yX(dv:Bool)(te:TypeId)(e:Ty V.ι)(S:TS V.N)(b i:Nat):TS V.N:=match S.own? b with
 |some (.box o cells)=>match cells[i]? with
  |some (.raw (.slice none 0 0))=>if S.fresh (70000+S.own.length)=true/\abw (70000+S.own.length) given=true then
   {tmps:=S.tmps,own:=(b, .box o (cells.set i (.vh (70000+S.own.length))))::(70000+S.own.length,S4 V dv te e)::S.own}else S
  |_=>S
 |_=>S
def cellAt(S:TS V.N)(b i:Nat):TV V.N:=match S.own? b with
 |some (.box _ cells)=>(cells[i]?).getD .junk
 |_=> .junk
def ga(objs:List (Nat×OPt V.ι))(b:Nat):Nat->List (Pt V.ι)->TS V.N->TS V.N
 |_,[],S=>S
 |i, .vh c::r,S=>match gt objs c with
  |some (.vec te e)=>ga objs b (i+1) r (yX V false te e S b i)
  |_=>ga objs b (i+1) r S
 |i, .dat ty::r,S=>ga objs b (i+1) r (frzL V S (OR V (.dat ty) (cellAt V S b i)))
 |i,_::r,S=>ga objs b (i+1) r S
def Fc(objs:List (Nat×OPt V.ι))(c b:Nat)(S:TS V.N):TS V.N:=match gt objs c with
 |some (.box _ ps)=>ga V objs b 0 ps S
 |some (.st _)=>match S.own? b with
  |some (.box _ cells)=>frzL V S cells
  |_=>S
 |_=>S
def LE:Pt V.ι->TV V.N->List (Nat×Nat)
 | .bp c _, .bp n _=>[(c,n)]
 | .mp c, .mp n=>[(c,n)]
 | .fn _ a b, .fn _ a' b'=>(a++b).zip ((a'++b').map λv=>match v with
  | .bp n _=>n
  |_=>0)
 |_,_=>[]
def LF:List (Pt V.ι)->List (TV V.N)->List (Nat×Nat)
 |p::ps,v::vs=>LE V p v++LF ps vs
 |_,_=>[]
def QZ(objs:List (Nat×OPt V.ι))(S:TS V.N)(c b:Nat):List (Nat×Nat):=match gt objs c,S.own? b with
 |some (.box _ ps),some (.box _ cells)=>LF V ps cells
 |_,_=>[]
def O3(objs:List (Nat×OPt V.ι)):Nat->List (Nat×Nat)->TS V.N->TS V.N
 |0,_,S=>S
 |_,[],S=>S
 |m+1,(c,b)::r,S=>O3 objs m (r++QZ V objs S c b) (Fc V objs c b S)
def uK(objs:List (Nat×OPt V.ι))(S:TS V.N):List (Nat×Pt V.ι)->TS V.N
 |[]=>S
 |(t, .vh c)::r=>match gt objs c with
  |some (.vec te e)=>uK objs (ET V false te e S t) r
  |_=>uK objs S r
 |(t, .dat ty)::r=>uK objs (frzL V S (OR V (.dat ty) (S.get t))) r
 |(t, .ag cs)::r=>uK objs (frzL V S (OR V (.ag cs) (S.get t))) r
 |_::r=>uK objs S r
def T0(objs:List (Nat×OPt V.ι))(S:TS V.N)(slots:List (Nat×Pt V.ι)):TS V.N:=match objs with
 |[]=>uK V objs S slots
 |_=>O3 V objs (4 *objs.length) (slots.flatMap λp=>LE V p.2 (S.get p.1)) (uK V objs S slots)
def MR(c:Cut V.ι)(S:TS V.N):Option (dw×List (dU V.N)):=match mtL V [] (c.slots.map (·.2)) (c.slots.map λp=>S.get p.1)with
 |some (σ,l)=>match mtO V S σ c.objs with
  |some (σ',l')=>some (σ',l++l')
  |none=>none
 |none=>none
def vv(objs:List (Nat×OPt V.ι)):Pt V.ι->Bool
 | .vh c=>objs.any λp=>aaX p.1 c
 | .ag cs=>cs.all λx=>match x with
  | .inr c=>objs.any λp=>aaX p.1 c
  | .inl _=>true
 |_=>true
def EV(c:Cut V.ι)(σ:dw):Bool:=σ.all (λp=>abw p.1 given||aaX p.1 p.2)&&c.slots.all (λp=>vv V c.objs p.2)&&c.objs.all (λp=>match p.2 with
 | .box _ ps=>ps.all (vv V c.objs)
 |_=>true)
def Ds(c:Cut V.ι)(S:TS V.N):Option (HL V.N c.tys):=match MR V c (T0 V c.objs S c.slots)with
 |some (σ,ls)=>if EV V c σ=true then LZ c.tys ls else none
 |none=>none
end
end Go.Tx
end
section
namespace Go.Tx
open Go.Awp
variable [Inhabited GMem]
def Sub(σ σ':dw):Prop:=∀c n,gt σ c=some n->gt σ' c=some n
theorem Sub.refl(σ:dw):Sub σ σ:=λ_ _ h=>h
theorem Sub.trans{a b c:dw}(h:Sub a b)(k:Sub b c):Sub a c:=λx n hx=>k x n (h x n hx)
def Inj(σ:dw):Prop:=∀c c' n,gt σ c=some n->gt σ c'=some n->c=c'
theorem dz{σ σ':dw}{c n:Nat}(h:nP σ c n=some σ'):Sub σ σ'/\gt σ' c=some n/\(Inj σ->Inj σ'):=by
 unfold nP at h
 split at h
 ·rename_i m hm
  split at h
  ·rename_i e;cases h;subst e;exact⟨Sub.refl _,hm,id⟩
  ·cases h
 ·rename_i hc
  split at h
  ·cases h
  ·rename_i hn
   cases h
   have hn':∀x,gt σ x≠some n:=λx hx=>by
    apply hn
    rw[aa1]
    exact⟨(x,n),cV hx,by simp⟩
   refine⟨λx m hx=> ?_,by simp[aH],λhi x y m hx hy=> ?_⟩
   ·rw[aH]
    by_cases e:c=x
    ·subst e;rw[hc]at hx;cases hx
    ·rw[adC e];exact hx
   ·rw[aH]at hx hy
    by_cases e:c=x<;>by_cases e':c=y
    ·rw[<-e,<-e']
    ·rw[adD e]at hx;rw[adC e']at hy;cases hx;exact(hn' _ hy).elim
    ·rw[adD e']at hy;rw[adC e]at hx;cases hy;exact(hn' _ hx).elim
    ·rw[adC e]at hx;rw[adC e']at hy;exact hi x y m hx hy
section
variable {V:iE}
theorem H.le.nil(sz:Nat):H.le (.d (.v (.slice none 0 0))) (.d (.sl sz [])):=H.le.d (D.le.nil sz)
structure Tr (σ:dw) (objs:List (Nat×OPt V.ι)) (E E':Env) (ω ω':Nat->Nat):Prop where
 env:∀c n,gt σ c=some n->E' c=E n
 len:∀c n,(objs.any λp=>aaX p.1 c)=true->gt σ c=some n->ω' c=ω n
theorem jO:∀{l:List Nat} {vs:List (TV V.N)} {σ σ':dw},th σ l vs=some σ'->Sub σ σ'/\(Inj σ->Inj σ')/\l.length=vs.length/\
 ∀(i:Nat) (c:Nat) (v:TV V.N),l[i]?=some c->vs[i]?=some v->∃n,v= .bp n 0/\gt σ' c=some n
 |[],[],σ,σ',h=>by simp[th]at h;subst h;exact⟨Sub.refl _,id,rfl,λi c v hc=>by simp at hc⟩
 |[],_::_,σ,σ',h=>by simp[th]at h
 |_::_,[],σ,σ',h=>by simp[th]at h
 |c::r,v::s,σ,σ',h=>by
  unfold th at h
  split at h
  ·rename_i heq1 heq2;cases heq1
  ·rename_i c' r' n s' heq1 heq2
   simp only[aaS]at heq1 heq2
   obtain⟨rfl,rfl⟩:=heq1
   obtain⟨rfl,rfl⟩:=heq2
   split at h
   ·rename_i σ1 h1
    obtain⟨a1,a2,a3⟩:=dz h1
    obtain⟨b1,b2,b3,b4⟩:=jO h
    refine⟨a1.trans b1,λhi=>b2 (a3 hi),by simp[b3],λi x w hx hw=> ?_⟩
    cases i with
    |zero=>simp at hx hw;subst hx;subst hw;exact⟨n,rfl,b1 _ _ a2⟩
    |succ i=>exact b4 i x w (by simpa using hx) (by simpa using hw)
   ·cases h
  ·cases h
theorem Cr{E E':Env}{M:Mem}{σ:dw}{ω ω':Nat->Nat}(hE:∀c n,gt σ c=some n->E' c=E n){l:List Nat}{vs:List (TV V.N)}(hl:l.length=vs.length)
 (h:∀(i:Nat) (c:Nat) (v:TV V.N),l[i]?=some c->vs[i]?=some v->∃n,v= .bp n 0/\gt σ c=some n){av:Array Value}
 (hs:av.size=(encL V ω vs).length)(hr:∀(i:Nat) (c:Value) (x:H),av[i]?=some c->(encL V ω vs)[i]?=some x->bO E M c x):
 av.size=(encL V ω' (l.map λc=>(.bp c 0:TV V.N))).length/\∀(i:Nat) (c:Value) (x:H),av[i]?=some c->(encL V ω' (l.map λc=>(.bp c 0:TV V.N)))[i]?=some x->bO E' M c x:=by
 rw[bE]at hs
 refine⟨by rw[bE,Z7];omega,λi c x hc hx=> ?_⟩
 simp only[aU,Z6,Option.map_map]at hx
 cases hli:l[i]? with
 |none=>rw[hli]at hx;cases hx
 |some k=>
  rw[hli]at hx
  simp[aL]at hx;subst hx
  have hi:i<vs.length:=by rw[<-hl];exact(Z4.1 hli).1
  obtain⟨n,hv,hn⟩:=h i k _ hli (Z3 hi)
  have:=hr i c (.bp n 0) hc (by rw[aU,Z6,Z3 hi,hv];simp[aL])
  cases this with
  |bp _ off b hb=>exact .bp k 0 b (by rw[hE k n hn];exact hb)
theorem oT:∀{cs:List (Ty V.ι⊕Nat)} {vs:List (TV V.N)} {σ σ1:dw} {l:List (dU V.N)},mtC V σ cs vs=some (σ1,l)->Sub σ σ1/\(Inj σ->Inj σ1)/\
 ∃vs':List (TV V.N),vs'.length=vs.length/\(∀rest,bdC V cs (l++rest)=some (vs',rest))/\∀(i:Nat) (v v':TV V.N),vs[i]?=some v->vs'[i]?=some v'->
  ∀(τ:dw) (objs:List (Nat×OPt V.ι)) (E E':Env) (M:Mem) (ω ω':Nat->Nat) (a:Value),Sub σ1 τ->vv V objs (.ag cs)=true->Tr τ objs E E' ω ω'->bO E M a (aL V ω v)->bO E' M a (aL V ω' v')
 |[],[],σ,σ1,l,h=>by
  simp[mtC]at h;obtain⟨rfl,rfl⟩:=h
  exact⟨Sub.refl _,id,[],rfl,λrest=>rfl,λi v v' hv=>by simp at hv⟩
 |[],_::_,σ,σ1,l,h=>by simp[mtC]at h
 |_::_,[],σ,σ1,l,h=>by unfold mtC at h;split at h<;>first|(cases h;done)|contradiction
 | .inl t::r,x::s,σ,σ1,l,h=>by
  simp only[mtC]at h
  split at h
  ·rename_i l0 hl
   split at h
   ·rename_i σ' ls h2
    simp at h;obtain⟨rfl,rfl⟩:=h
    obtain⟨b1,b2,vs',b4,b5,b6⟩:=oT h2
    refine⟨b1,b2, .lf l0.t l0.x::vs',by simp[b4],λrest=> ?_,λi w w' hw hw' τ objs E E' M ω ω' a hs hv ht hr=> ?_⟩
    ·simp only[aaU,bdC,b5]
    ·cases i with
     |zero=>
      simp at hw hw';subst hw;subst hw'
      have hls:dB V false [t] [x]=some [l0]:=by simp[dB,hl]
      obtain⟨ds,e1,e2,_⟩:=dc (ω:=ω) hls
      simp only[encL]at e1
      obtain⟨d,hd⟩:∃d,ds=[d]:=by
       match ds,e1 with
       |[d],_=>exact⟨d,rfl⟩
       |[],e1=>simp at e1
       |_::_::_,e1=>simp at e1
      subst hd
      simp only[aac,aaT,aaS,and_true]at e1
      rw[e1]at hr
      simp only[aL]
      obtain⟨d0,g1,g2⟩:=e2.get 0 (bC V.sz V.enc l0.t l0.x) rfl
      simp at g1;subst g1
      cases hr with
      |d q=>exact .d (g2 M a q)
     |succ i=>
      refine b6 i w w' (by simpa using hw) (by simpa using hw') τ objs E E' M ω ω' a hs ?_ ht hr
      simp only[vv,abe,Z8]at hv⊢;exact hv.2
   ·cases h
  ·cases h
 | .inr c::r,x::s,σ,σ1,l,h=>by
  unfold mtC at h
  split at h
  ·rename_i heq _;cases heq
  ·rename_i heq _;simp at heq
  ·rename_i c' r' n s' heq1 heq2
   simp only[aaS,Sum.inr.injEq]at heq1 heq2
   obtain⟨rfl,rfl⟩:=heq1
   obtain⟨rfl,rfl⟩:=heq2
   split at h
   ·rename_i σ' hb
    obtain⟨a1,a2,a3⟩:=dz hb
    obtain⟨b1,b2,vs',b4,b5,b6⟩:=oT h
    refine⟨a1.trans b1,λhi=>b2 (a3 hi), .vh c::vs',by simp[b4],λrest=> ?_,λi w w' hw hw' τ objs E E' M ω ω' a hs hv ht hr=> ?_⟩
    ·simp only[bdC,b5]
    ·simp only[vv,abe,Z8]at hv
     cases i with
     |zero=>
      simp at hw hw';subst hw;subst hw'
      simp only[aL]at hr⊢
      rw[ht.len c n hv.1 (hs _ _ (b1 _ _ a2))]
      cases hr with
      |vh _ len l cc ad hE hl=>exact .vh c _ l cc ad (by rw[ht.env c n (hs _ _ (b1 _ _ a2))];exact hE) hl
     |succ i=>
      refine b6 i w w' (by simpa using hw) (by simpa using hw') τ objs E E' M ω ω' a hs ?_ ht hr
      simp only[vv];exact hv.2
   ·cases h
  ·cases h
theorem oR{σ σ1:dw}{p:Pt V.ι}{v:TV V.N}{l:List (dU V.N)}(h:mt1 V σ p v=some (σ1,l)):Sub σ σ1/\(Inj σ->Inj σ1)/\v≠ .junk/\
 ∃v',(∀rest,bd1 V p (l++rest)=some (v',rest))/\∀(τ:dw) (objs:List (Nat×OPt V.ι)) (E E':Env) (M:Mem) (ω ω':Nat->Nat) (a:Value),Sub σ1 τ->vv V objs p=true->Tr τ objs E E' ω ω'->
  bO E M a (aL V ω v)->bO E' M a (aL V ω' v'):=by
 unfold mt1 at h
 split at h
 ·rename_i t t' x
  obtain⟨rfl,h⟩:=aG h
  simp at h;obtain⟨rfl,rfl⟩:=h
  refine⟨Sub.refl _,id,by simp, .lf t' x,λrest=>rfl,λτ objs E E' M ω ω' a _ _ _ hr=> ?_⟩
  simp only[aL]at hr⊢
  exact hr.mono (Mem.le_refl _) λn hn=>by simp[H.has]at hn
 ·rename_i e
  simp at h;obtain⟨rfl,rfl⟩:=h
  refine⟨Sub.refl _,id,by simp, .lf (.sl e) [],λrest=>rfl,λτ objs E E' M ω ω' a _ _ _ hr=> ?_⟩
  simp only[aL,cx,bC,aaT]at hr⊢
  exact H.le.nil _ E' M a (hr.mono (Mem.le_refl _) λn hn=>by simp[H.has]at hn)
 ·simp at h;obtain⟨rfl,rfl⟩:=h
  refine⟨Sub.refl _,id,by simp, .lf .er false,λrest=>rfl,λτ objs E E' M ω ω' a _ _ _ hr=> ?_⟩
  simp only[aL,cx,bC]at hr⊢
  exact H.le.d D.le.ern E' M a (hr.mono (Mem.le_refl _) λn hn=>by simp[H.has]at hn)
 ·rename_i i cs
  split at h
  ·rename_i t x hx
   simp at h;obtain⟨rfl,rfl⟩:=h
   refine⟨Sub.refl _,id,by simp, .lf t x,λrest=>rfl,λτ objs E E' M ω ω' a _ _ _ hr=> ?_⟩
   have hm:=(iX (V:=V) (ω:=ω) (ex:=false) (ot:=some (.st i)) (cs:=cs)).1
   rw[hx]at hm
   simp only[aL]at hr hm⊢
   exact(hm E M a hr).mono (Mem.le_refl _) λn hn=>by simp[H.has]at hn
  ·cases h
 ·rename_i c off n off'
  have h':=aG h;clear h
  obtain⟨e,h⟩:=h'
  subst e
  rw[aae]at h
  obtain⟨σ',hb,h⟩:=h
  simp at h;obtain⟨rfl,rfl⟩:=h
  obtain⟨h1,h2,h3⟩:=dz hb
  refine⟨h1,h3,by simp, .bp c off,λrest=>rfl,λτ objs E E' M ω ω' a hs _ ht hr=> ?_⟩
  simp only[aL]at hr⊢
  cases hr with
  |bp _ _ b hb=>exact .bp c off b (by rw[ht.env c n (hs _ _ h2)];exact hb)
 ·rename_i c n
  rw[aae]at h
  obtain⟨σ',hb,h⟩:=h
  simp at h;obtain⟨rfl,rfl⟩:=h
  obtain⟨h1,h2,h3⟩:=dz hb
  refine⟨h1,h3,by simp, .vh c,λrest=>rfl,λτ objs E E' M ω ω' a hs hv ht hr=> ?_⟩
  simp only[aL]at hr⊢
  rw[ht.len c n (by simpa[vv]using hv) (hs _ _ h2)]
  cases hr with
  |vh _ len l cc ad hE hl=>exact .vh c _ l cc ad (by rw[ht.env c n (hs _ _ h2)];exact hE) hl
 ·rename_i c n
  rw[aae]at h
  obtain⟨σ',hb,h⟩:=h
  simp at h;obtain⟨rfl,rfl⟩:=h
  obtain⟨h1,h2,h3⟩:=dz hb
  refine⟨h1,h3,by simp, .mp c,λrest=>rfl,λτ objs E E' M ω ω' a hs _ ht hr=> ?_⟩
  simp only[aL]at hr⊢
  cases hr with
  |mp _ b hE=>exact .mp c b (by rw[ht.env c n (hs _ _ h2)];exact hE)
 ·rename_i c n b
  rw[aae]at h
  obtain⟨σ',hb,h⟩:=h
  simp at h;obtain⟨rfl,rfl⟩:=h
  obtain⟨h1,h2,h3⟩:=dz hb
  refine⟨h1,h3,by simp, .np c b,λrest=>rfl,λτ objs E E' M ω ω' a hs _ ht hr=> ?_⟩
  simp only[aL]at hr⊢
  cases hr with
  |np0=>exact .np0 c
  |np1 _ b hE=>exact .np1 c b (by rw[ht.env c n (hs _ _ h2)];exact hE)
 ·rename_i c n
  rw[aae]at h
  obtain⟨σ',hb,h⟩:=h
  simp at h;obtain⟨rfl,rfl⟩:=h
  obtain⟨h1,h2,h3⟩:=dz hb
  refine⟨h1,h3,by simp, .np c true,λrest=>rfl,λτ objs E E' M ω ω' a hs _ ht hr=> ?_⟩
  simp only[aL]at hr⊢
  cases hr with
  |bp _ _ b hE=>exact .np1 c b (by rw[ht.env c n (hs _ _ h2)];exact hE)
 ·rename_i c
  simp at h;obtain⟨rfl,rfl⟩:=h
  refine⟨Sub.refl _,id,by simp, .np c false,λrest=>rfl,λτ objs E E' M ω ω' a _ _ _ hr=> ?_⟩
  simp only[aL,cx]at hr⊢
  rw[hr.dv]
  exact .np0 c
 ·simp at h;obtain⟨rfl,rfl⟩:=h
  refine⟨Sub.refl _,id,by simp, .raw .nilIface,λrest=>rfl,λτ objs E E' M ω ω' a _ _ _ hr=> ?_⟩
  simp only[aL,cx]at hr⊢
  exact hr.mono (Mem.le_refl _) λn hn=>by simp[H.has]at hn
 ·rename_i e
  simp at h;obtain⟨rfl,rfl⟩:=h
  refine⟨Sub.refl _,id,by simp, .lf (.op e) none,λrest=>rfl,λτ objs E E' M ω ω' a _ _ _ hr=> ?_⟩
  simp only[aL,cx,bC,aca,opD]at hr⊢
  exact hr.mono (Mem.le_refl _) λn hn=>by simp[H.has]at hn
 ·rename_i c z n s i off
  have h':=aG h;clear h
  obtain⟨e,h⟩:=h'
  subst e
  rw[aae]at h
  obtain⟨σ',hb,h⟩:=h
  simp at h;obtain⟨rfl,rfl⟩:=h
  obtain⟨h1,h2,h3⟩:=dz hb
  refine⟨h1,h3,by simp, .sv c s i off,λrest=>rfl,λτ objs E E' M ω ω' a hs _ ht hr=> ?_⟩
  simp only[aL]at hr⊢
  cases hr with
  |sv0 _ _ hE=>exact .sv0 c s (by rw[ht.env c n (hs _ _ h2)];exact hE)
  |sv _ _ _ _ g l cc hE hl=>exact .sv c s i off g l cc (by rw[ht.env c n (hs _ _ h2)];exact hE) hl
 ·rename_i f a b f' a' b'
  have h':=aG h;clear h
  obtain⟨e,h⟩:=h'
  subst e
  split at h
  ·rename_i σ' ha
   rw[aae]at h
   obtain⟨σ'',hb,h⟩:=h
   simp at h;obtain⟨rfl,rfl⟩:=h
   obtain⟨a1,a2,a3,a4⟩:=jO ha
   obtain⟨b1,b2,b3,b4⟩:=jO hb
   refine⟨a1.trans b1,λhi=>b2 (a2 hi),by simp, .fn f (a.map λc=> .bp c 0) (b.map λc=> .bp c 0),λrest=>rfl,λτ objs E E' M ω ω' v hs _ ht hr=> ?_⟩
   simp only[aL]at hr⊢
   cases hr with
   |fn _ first captured l l' h1 h2 h3 h4=>
    obtain⟨x1,x2⟩:=Cr (V:=V) (ω':=ω') (λc n hc=>ht.env c n hc) a3 (λi c v hc hv=>by
     obtain⟨n,q1,q2⟩:=a4 i c v hc hv
     exact⟨n,q1,hs _ _ (b1 _ _ q2)⟩) h1 h3
    obtain⟨y1,y2⟩:=Cr (V:=V) (ω':=ω') (λc n hc=>ht.env c n hc) b3 (λi c v hc hv=>by
     obtain⟨n,q1,q2⟩:=b4 i c v hc hv
     exact⟨n,q1,hs _ _ q2⟩) h2 h4
    exact .fn f first captured _ _ x1 y1 x2 y2
  ·cases h
 ·rename_i cs vs
  obtain⟨b1,b2,vs',b4,b5,b6⟩:=oT h
  refine⟨b1,b2,by simp, .agg vs',λrest=>by simp only[bd1,b5],λτ objs E E' M ω ω' a hs hv ht hr=> ?_⟩
  simp only[aL]at hr⊢
  have h1:=kG _ E M a hr
  obtain⟨xs,rfl,h2,h3⟩:=h1.hagg
  refine sw _ E' M _ (.agg xs _ (by rw[bE]at h2⊢;omega) λi c x hc hx=> ?_)
  rw[aU,Z6,aae]at hx
  obtain⟨v',hv',rfl⟩:=hx
  have hi:i<vs.length:=by rw[<-b4];exact(Z4.1 hv').1
  exact b6 i _ v' (Z3 hi) hv' τ objs E E' M ω ω' c hs hv ht (h3 i c _ hc (by rw[aU,Z6,Z3 hi];rfl))
 ·cases h
theorem iY:∀{ps:List (Pt V.ι)} {vs:List (TV V.N)} {σ σ1:dw} {l:List (dU V.N)},mtL V σ ps vs=some (σ1,l)->Sub σ σ1/\(Inj σ->Inj σ1)/\ps.length=vs.length/\
 ∃vs':List (TV V.N),vs'.length=vs.length/\(∀rest,bdL V ps (l++rest)=some (vs',rest))/\∀(i:Nat) (v v':TV V.N),vs[i]?=some v->vs'[i]?=some v'->v≠ .junk/\
  ∀(τ:dw) (objs:List (Nat×OPt V.ι)) (E E':Env) (M:Mem) (ω ω':Nat->Nat) (a:Value),Sub σ1 τ->ps.all (vv V objs)=true->Tr τ objs E E' ω ω'->bO E M a (aL V ω v)->bO E' M a (aL V ω' v')
 |[],[],σ,σ1,l,h=>by
  simp[mtL]at h;obtain⟨rfl,rfl⟩:=h
  exact⟨Sub.refl _,id,rfl,[],rfl,λrest=>rfl,λi v v' hv=>by simp at hv⟩
 |[],_::_,σ,σ1,l,h=>by simp[mtL]at h
 |_::_,[],σ,σ1,l,h=>by simp[mtL]at h
 |p::r,v::s,σ,σ1,l,h=>by
  simp only[mtL]at h
  split at h
  ·rename_i σ' l1 h1
   split at h
   ·rename_i σ'' l2 h2
    simp at h;obtain⟨rfl,rfl⟩:=h
    obtain⟨a1,a2,a3,v',a4,a5⟩:=oR h1
    obtain⟨b1,b2,b3,vs',b4,b5,b6⟩:=iY h2
    refine⟨a1.trans b1,λhi=>b2 (a2 hi),by simp[b3],v'::vs',by simp[b4],λrest=> ?_,λi w w' hw hw'=> ?_⟩
    ·simp only[bdL,abj,a4,b5]
    ·cases i with
     |zero=>
      simp at hw hw';subst hw;subst hw'
      refine⟨a3,λτ objs E E' M ω ω' a hs hv ht hr=>a5 τ objs E E' M ω ω' a (b1.trans hs) ?_ ht hr⟩
      simp only[abe,Z8]at hv;exact hv.1
     |succ i=>
      obtain⟨c1,c2⟩:=b6 i w w' (by simpa using hw) (by simpa using hw')
      refine⟨c1,λτ objs E E' M ω ω' a hs hv ht hr=>c2 τ objs E E' M ω ω' a hs ?_ ht hr⟩
      simp only[abe,Z8]at hv;exact hv.2
   ·cases h
  ·cases h
theorem dj{S:TS V.N}:∀{objs:List (Nat×OPt V.ι)} {σ σ1:dw} {l:List (dU V.N)},mtO V S σ objs=some (σ1,l)->Sub σ σ1/\(Inj σ->Inj σ1)/\
 ∃os:List (Nat×TO V.N),os.length=objs.length/\bdO V objs l=some os/\(∀c o',(c,o')∈os->∃n o,gt σ1 c=some n/\S.own? n=some o/\TO.len (some o')=TO.len (some o)/\
  ∃x:(Nat->Nat)->Own,(∀ω,cp V ω o=some (x ω))/\∃x':(Nat->Nat)->Own,(∀ω,cp V ω o'=some (x' ω))/\
  (∀(τ:dw) (all:List (Nat×OPt V.ι)) (E E':Env) (M:Mem) (w:World) (ω ω':Nat->Nat),Sub σ1 τ->(∀p∈objs,match p.2 with| .box _ ps=>ps.all (vv V all)=true|_=>True)->Tr τ all E E' ω ω'->
    cn E M w n (x ω)->cn E' M w c (x' ω'))/\
  ∀(E E':Env) (M:Mem) (w:World) (ω ω':Nat->Nat) (b:Nat),cn E M w n (x ω)->E' c=E n->(x' ω').foot w (E' c) b->(x ω).foot w (E n) b)/\os.map (·.1)=objs.map (·.1)
 |[],σ,σ1,l,h=>by
  simp[mtO]at h;obtain⟨rfl,rfl⟩:=h
  exact⟨Sub.refl _,id,[],rfl,rfl,λc o' h=>by simp at h,rfl⟩
 |(c,p)::r,σ,σ1,l,h=>by
  simp only[mtO]at h
  split at h
  ·rename_i n hn
   split at h
   ·rename_i oo ps oo' cells hown
    have h':=aG h;clear h
    obtain⟨hoo,h⟩:=h'
    split at h
    ·rename_i σ' l1 h1
     split at h
     ·rename_i σ'' l2 h2
      simp at h;obtain⟨rfl,rfl⟩:=h
      obtain⟨a1,a2,a3,vs',a4,a5,a6⟩:=iY h1
      obtain⟨b1,b2,os,b3,b4,b5,b6⟩:=dj h2
      refine⟨a1.trans b1,λhi=>b2 (a2 hi),(c, .box oo vs')::os,by simp[b3],by simp only[bdO,a5,b4],λc' o' hm=> ?_,by simp[b6]⟩
      rcases aai.1 hm with he|hm
      ·simp only[aaC]at he
       obtain⟨rfl,rfl⟩:=he
       refine⟨n, .box oo' cells,b1 _ _ (a1 _ _ hn),hown,rfl,λω=> .box oo' (encL V ω cells),λω=>rfl,λω=> .box oo (encL V ω vs'),λω=>rfl,λτ all E E' M w ω ω' hs hv ht ho=> ?_,λE E' M w ω ω' b _ he hb=>by rw[he]at hb;exact hb⟩
       have hv0:ps.all (vv V all)=true:=hv (c', .box oo ps) aag
       obtain⟨b,cs,ty,k1,k2,k3,k4,k5,k6⟩:=ho
       rw[bE]at k3
       refine⟨b,cs,ty,by rw[ht.env c' n (hs _ _ (b1 _ _ (a1 _ _ hn)))];exact k1,k2,by rw[bE];omega,λi x y hx hy=> ?_,k5,λt htt=>by
        rcases hoo with hoo|hoo
        ·rw[hoo]at htt;cases htt
        ·rw[hoo]at htt;exact k6 t htt⟩
       simp only[aU,Z6]at hy
       cases hvi:vs'[i]? with
       |none=>rw[hvi]at hy;cases hy
       |some v'=>
        rw[hvi]at hy;simp at hy;subst hy
        have hi:i<cells.length:=by rw[<-a4];exact(Z4.1 hvi).1
        obtain⟨_,q⟩:=a6 i _ v' (Z3 hi) hvi
        exact q τ all E E' M ω ω' x (b1.trans hs) hv0 ht (k4 i x _ hx (by rw[aU,Z6,Z3 hi];rfl))
      ·obtain⟨n',o,q1,q2,q3,x,q4,x',q5,q6,q7⟩:=b5 c' o' hm
       exact⟨n',o,q1,q2,q3,x,q4,x',q5,λτ all E E' M w ω ω' hs hv ht ho=>q6 τ all E E' M w ω ω' hs (λp hp=>hv p (aab _ hp)) ht ho,q7⟩
     ·cases h
    ·cases h
   ·rename_i i oty cells hown
    split at h
    ·rename_i j x hx
     split at h
     ·rename_i σ'' l2 h2
      simp at h;obtain⟨rfl,rfl⟩:=h
      obtain⟨b1,b2,os,b3,b4,b5,b6⟩:=dj h2
      have hmk:i=j/\∃ls,dB V false (V.tys i) cells=some ls/\∃y:V.N i,V.ofCells i ls=some y/\(TV.lf (.st i) y:TV V.N)= .lf (.st j) x:=by
       unfold mkV at hx
       simp only at hx
       split at hx
       ·rename_i ls hls
        split at hx
        ·rename_i y hy
         have:i=j:=by cases hx;rfl
         exact⟨this,ls,hls,y,hy,hx⟩
        ·cases hx
       ·cases hx
      obtain⟨rfl,ls,hls,y,hy,he⟩:=hmk
      have he:y=x:=by cases he;rfl
      subst he
      refine⟨b1,b2,(c, .bst i y)::os,by simp[b3],by simp[bdO,b4],λc' o' hm=> ?_,by simp[b6]⟩
      rcases aai.1 hm with he|hm
      ·simp only[aaC]at he
       obtain⟨rfl,rfl⟩:=he
       refine⟨n, .box oty cells,b1 _ _ hn,hown,rfl,λω=> .box oty (encL V ω cells),λω=>rfl,λ_=> .box none ((V.enc i y).map .d),λω=>rfl,λτ all E E' M w ω ω' hs _ ht ho=> ?_,λE E' M w ω ω' b _ he hb=>by rw[he]at hb;exact hb⟩
       obtain⟨ds,e1,e2,_⟩:=dc (ω:=ω) hls
       obtain⟨b,cs,ty,k1,k2,k3,k4,k5,_⟩:=ho
       have hc:=V.of_cells i ls y hy
       have hnew:(V.enc i y).map H.d=(ls.map λl=>bC V.sz V.enc l.t l.x).map H.d:=by
        rw[V.enc_cells,hc]
       refine⟨b,cs,ty,by rw[ht.env c' n (hs _ _ (b1 _ _ hn))];exact k1,k2,?_,λi' a z ha hz=> ?_,k5,λt htt=>by cases htt⟩
       ·rw[k3,hnew,e1,Z7,Z7];exact e2.len
       ·rw[hnew,Z6]at hz
        cases hd:(ls.map λl=>bC V.sz V.enc l.t l.x)[i']? with
        |none=>rw[hd]at hz;cases hz
        |some d=>
         rw[hd]at hz;simp at hz;subst hz
         obtain⟨d0,g1,g2⟩:=e2.get i' d hd
         have:=k4 i' a (.d d0) ha (by rw[e1,Z6,g1];rfl)
         cases this with
         |d q=>exact .d (g2 M a q)
      ·obtain⟨n',o,q1,q2,q3,x,q4,x',q5,q6,q7⟩:=b5 c' o' hm
       exact⟨n',o,q1,q2,q3,x,q4,x',q5,λτ all E E' M w ω ω' hs hv ht ho=>q6 τ all E E' M w ω ω' hs (λp hp=>hv p (aab _ hp)) ht ho,q7⟩
     ·cases h
    ·cases h
   ·rename_i i j x hown
    have h':=aG h;clear h
    obtain⟨e1,h⟩:=h'
    subst e1
    split at h
    ·rename_i σ'' l2 h2
     simp at h;obtain⟨rfl,rfl⟩:=h
     obtain⟨b1,b2,os,b3,b4,b5,b6⟩:=dj h2
     refine⟨b1,b2,(c, .bst i x)::os,by simp[b3],by simp[bdO,b4],λc' o' hm=> ?_,by simp[b6]⟩
     rcases aai.1 hm with he|hm
     ·simp only[aaC]at he
      obtain⟨rfl,rfl⟩:=he
      refine⟨n, .bst i x,b1 _ _ hn,hown,rfl,λ_=> .box none ((V.enc i x).map .d),λω=>rfl,λ_=> .box none ((V.enc i x).map .d),λω=>rfl,λτ all E E' M w ω ω' hs _ ht ho=> ?_,λE E' M w ω ω' b _ he hb=>by rw[he]at hb;exact hb⟩
      obtain⟨b,cs,ty,k1,k2,k3,k4,k5⟩:=ho
      refine⟨b,cs,ty,by rw[ht.env c' n (hs _ _ (b1 _ _ hn))];exact k1,k2,k3,λi' a z ha hz=> ?_,k5⟩
      have hq:=k4 i' a z ha hz
      rw[Z6,aae]at hz
      obtain⟨d,_,rfl⟩:=hz
      exact hq.mono (Mem.le_refl _) λm hm=>by simp[H.has]at hm
     ·obtain⟨n',o,q1,q2,q3,x,q4,x',q5,q6,q7⟩:=b5 c' o' hm
      exact⟨n',o,q1,q2,q3,x,q4,x',q5,λτ all E E' M w ω ω' hs hv ht ho=>q6 τ all E E' M w ω ω' hs (λp hp=>hv p (aab _ hp)) ht ho,q7⟩
    ·cases h
   ·rename_i ps j x hown
    split at h
    ·rename_i σ' l1 h1
     split at h
     ·rename_i σ'' l2 h2
      simp at h;obtain⟨rfl,rfl⟩:=h
      obtain⟨a1,a2,a3,vs',a4,a5,a6⟩:=iY h1
      obtain⟨b1,b2,os,b3,b4,b5,b6⟩:=dj h2
      refine⟨a1.trans b1,λhi=>b2 (a2 hi),(c, .box none vs')::os,by simp[b3],by simp only[bdO,a5,b4],λc' o' hm=> ?_,by simp[b6]⟩
      rcases aai.1 hm with he|hm
      ·simp only[aaC]at he
       obtain⟨rfl,rfl⟩:=he
       refine⟨n, .bst j x,b1 _ _ (a1 _ _ hn),hown,rfl,λ_=> .box none ((V.enc j x).map .d),λω=>rfl,λω=> .box none (encL V ω vs'),λω=>rfl,λτ all E E' M w ω ω' hs hv ht ho=> ?_,λE E' M w ω ω' b _ he hb=>by rw[he]at hb;exact hb⟩
       have hv0:ps.all (vv V all)=true:=hv (c', .box none ps) aag
       obtain⟨b,cs,ty,k1,k2,k3,k4,k5⟩:=ho
       rw[<-jP ω,bE]at k3
       refine⟨b,cs,ty,by rw[ht.env c' n (hs _ _ (b1 _ _ (a1 _ _ hn)))];exact k1,k2,by rw[bE];omega,λi x' y hx hy=> ?_,k5⟩
       simp only[aU,Z6]at hy
       cases hvi:vs'[i]? with
       |none=>rw[hvi]at hy;cases hy
       |some v'=>
        rw[hvi]at hy;simp at hy;subst hy
        have hi:i<((V.cells j x).map λl=>(.lf l.t l.x:TV V.N)).length:=by rw[<-a4];exact(Z4.1 hvi).1
        obtain⟨_,q⟩:=a6 i _ v' (Z3 hi) hvi
        exact q τ all E E' M ω ω' x' (b1.trans hs) hv0 ht (k4 i x' _ hx (by rw[<-jP ω,aU,Z6,Z3 hi];rfl))
      ·obtain⟨n',o,q1,q2,q3,x,q4,x',q5,q6,q7⟩:=b5 c' o' hm
       exact⟨n',o,q1,q2,q3,x,q4,x',q5,λτ all E E' M w ω ω' hs hv ht ho=>q6 τ all E E' M w ω ω' hs (λp hp=>hv p (aab _ hp)) ht ho,q7⟩
     ·cases h
    ·cases h
   ·rename_i te e te' e' xs hown
    have h':=aG h;clear h
    obtain⟨⟨e1,e2⟩,h⟩:=h'
    subst e1;subst e2
    split at h
    ·rename_i σ'' l2 h2
     simp at h;obtain⟨rfl,rfl⟩:=h
     obtain⟨b1,b2,os,b3,b4,b5,b6⟩:=dj h2
     refine⟨b1,b2,(c, .vec te e xs)::os,by simp[b3],by simp[bdO,b4],λc' o' hm=> ?_,by simp[b6]⟩
     rcases aai.1 hm with he|hm
     ·simp only[aaC]at he
      obtain⟨rfl,rfl⟩:=he
      refine⟨n, .vec te e xs,b1 _ _ hn,hown,rfl,λ_=> .vec te (tsz V.sz e) (xs.map λx=>bY V.sz V.enc e x),λω=>rfl,λ_=> .vec te (tsz V.sz e) (xs.map λx=>bY V.sz V.enc e x),λω=>rfl,λτ all E E' M w ω ω' hs _ ht ho=> ?_,λE E' M w ω ω' b _ he hb=>by rw[he]at hb;exact hb⟩
      obtain⟨ys,k1,k2,k3,k4⟩:=ho
      have he:=ht.env c' n (hs _ _ (b1 _ _ hn))
      exact⟨ys,by rw[he];exact k1,k2,k3,by rw[he];exact k4⟩
     ·obtain⟨n',o,q1,q2,q3,x,q4,x',q5,q6,q7⟩:=b5 c' o' hm
      exact⟨n',o,q1,q2,q3,x,q4,x',q5,λτ all E E' M w ω ω' hs hv ht ho=>q6 τ all E E' M w ω ω' hs (λp hp=>hv p (aab _ hp)) ht ho,q7⟩
    ·cases h
   ·rename_i s p hown
    split at h
    ·rename_i σ'' l2 h2
     simp at h;obtain⟨rfl,rfl⟩:=h
     obtain⟨b1,b2,os,b3,b4,b5,b6⟩:=dj h2
     refine⟨b1,b2,(c, .iter s p)::os,by simp[b3],by simp[bdO,b4],λc' o' hm=> ?_,by simp[b6]⟩
     rcases aai.1 hm with he|hm
     ·simp only[aaC]at he
      obtain⟨rfl,rfl⟩:=he
      refine⟨n, .iter s p,b1 _ _ hn,hown,rfl,λ_=> .iter s p.toNat,λω=>rfl,λ_=> .iter s p.toNat,λω=>rfl,λτ all E E' M w ω ω' hs _ ht ho=> ?_,λE E' M w ω ω' b _ he hb=>by rw[he]at hb;exact hb⟩
      obtain⟨b,k1,k2,k3⟩:=ho
      have he:=ht.env c' n (hs _ _ (b1 _ _ hn))
      exact⟨b,by rw[he];exact k1,k2,k3⟩
     ·obtain⟨n',o,q1,q2,q3,x,q4,x',q5,q6,q7⟩:=b5 c' o' hm
      exact⟨n',o,q1,q2,q3,x,q4,x',q5,λτ all E E' M w ω ω' hs hv ht ho=>q6 τ all E E' M w ω ω' hs (λp hp=>hv p (aab _ hp)) ht ho,q7⟩
    ·cases h
   ·rename_i cm tk tv m tk' tv' es rest cur hown
    have h':=aG h;clear h
    obtain⟨⟨e1,e2⟩,h⟩:=h'
    subst e1;subst e2
    split at h
    ·rename_i σ' hb
     obtain⟨a1,a2,a3⟩:=dz hb
     split at h
     ·rename_i σ'' l2 h2
      simp at h;obtain⟨rfl,rfl⟩:=h
      obtain⟨b1,b2,os,b3,b4,b5,b6⟩:=dj h2
      refine⟨a1.trans b1,λhi=>b2 (a3 hi),(c, .miter cm tk tv es rest none)::os,by simp[b3],by simp[bdO,b4],λc' o' hm=> ?_,by simp[b6]⟩
      rcases aai.1 hm with he|hm
      ·simp only[aaC]at he
       obtain⟨rfl,rfl⟩:=he
       refine⟨n, .miter m tk tv es rest cur,b1 _ _ (a1 _ _ hn),hown,rfl,λ_=> .miter m (es.map λp=>(ew V.enc tk p.1,bC V.sz V.enc tv p.2)) (rest.map λp=>(ew V.enc tk p.1,bC V.sz V.enc tv p.2)) (cur.map λp=>(ew V.enc tk p.1,bC V.sz V.enc tv p.2)),λω=>rfl,
        λ_=> .miter cm (es.map λp=>(ew V.enc tk p.1,bC V.sz V.enc tv p.2)) (rest.map λp=>(ew V.enc tk p.1,bC V.sz V.enc tv p.2)) none,λω=>rfl,λτ all E E' M w ω ω' hs _ ht ho=> ?_,λE E' M w ω ω' b _ he hb=>by rw[he]at hb;exact hb⟩
       obtain⟨r',b,es',clock,since,seen,last,k1,k2,k3,k4,k5,k6,k7,k8,k9,k10,_,k12⟩:=ho
       have he:=ht.env c' n (hs _ _ (b1 _ _ (a1 _ _ hn)))
       have he2:=ht.env cm m (hs _ _ (b1 _ _ a2))
       exact⟨r',b,es',clock,since,seen,last,by rw[he];exact k1,by rw[he2];exact k2,k3,k4,k5,k6,k7,k8,k9,k10,(λp hp=>by cases hp),k12⟩
      ·obtain⟨n',o,q1,q2,q3,x,q4,x',q5,q6,q7⟩:=b5 c' o' hm
       exact⟨n',o,q1,q2,q3,x,q4,x',q5,λτ all E E' M w ω ω' hs hv ht ho=>q6 τ all E E' M w ω ω' hs (λp hp=>hv p (aab _ hp)) ht ho,q7⟩
     ·cases h
    ·cases h
   ·rename_i tk tv tk' tv' es hown
    have h':=aG h;clear h
    obtain⟨⟨e1,e2⟩,h⟩:=h'
    subst e1;subst e2
    split at h
    ·rename_i σ'' l2 h2
     simp at h;obtain⟨rfl,rfl⟩:=h
     obtain⟨b1,b2,os,b3,b4,b5,b6⟩:=dj h2
     refine⟨b1,b2,(c, .map tk tv es)::os,by simp[b3],by simp[bdO,b4],λc' o' hm=> ?_,by simp[b6]⟩
     rcases aai.1 hm with he|hm
     ·simp only[aaC]at he
      obtain⟨rfl,rfl⟩:=he
      refine⟨n, .map tk tv es,b1 _ _ hn,hown,rfl,λ_=> .map (es.map λp=>(ew V.enc tk p.1,bC V.sz V.enc tv p.2)),λω=>rfl,λ_=> .map (es.map λp=>(ew V.enc tk p.1,bC V.sz V.enc tv p.2)),λω=>rfl,λτ all E E' M w ω ω' hs _ ht ho=> ?_,λE E' M w ω ω' b _ he hb=>by rw[he]at hb;exact hb⟩
      obtain⟨b,es',clock,k1,k2,k3,k4,k5⟩:=ho
      have he:=ht.env c' n (hs _ _ (b1 _ _ hn))
      exact⟨b,es',clock,by rw[he];exact k1,k2,k3,k4,k5⟩
     ·obtain⟨n',o,q1,q2,q3,x,q4,x',q5,q6,q7⟩:=b5 c' o' hm
      exact⟨n',o,q1,q2,q3,x,q4,x',q5,λτ all E E' M w ω ω' hs hv ht ho=>q6 τ all E E' M w ω ω' hs (λp hp=>hv p (aab _ hp)) ht ho,q7⟩
    ·cases h
   ·rename_i te e te' e' xs hown
    have h':=aG h;clear h
    obtain⟨⟨e1,e2⟩,h⟩:=h'
    subst e1;subst e2
    split at h
    ·rename_i σ'' l2 h2
     simp at h;obtain⟨rfl,rfl⟩:=h
     obtain⟨b1,b2,os,b3,b4,b5,b6⟩:=dj h2
     refine⟨b1,b2,(c, .que te e xs)::os,by simp[b3],by simp[bdO,b4],λc' o' hm=> ?_,by simp[b6]⟩
     rcases aai.1 hm with he|hm
     ·simp only[aaC]at he
      obtain⟨rfl,rfl⟩:=he
      refine⟨n, .que te e xs,b1 _ _ hn,hown,rfl,λ_=> .que te (tsz V.sz e) (xs.map λx=>bY V.sz V.enc e x),λω=>rfl,λ_=> .que te (tsz V.sz e) (xs.map λx=>bY V.sz V.enc e x),λω=>rfl,λτ all E E' M w ω ω' hs _ ht ho=> ?_,λE E' M w ω ω' b _ he hb=>by rw[he]at hb;exact hb⟩
      obtain⟨B,k1,k2⟩:=ho
      have he:=ht.env c' n (hs _ _ (b1 _ _ hn))
      exact⟨B,by rw[he];exact k1,k2⟩
     ·obtain⟨n',o,q1,q2,q3,x,q4,x',q5,q6,q7⟩:=b5 c' o' hm
      exact⟨n',o,q1,q2,q3,x,q4,x',q5,λτ all E E' M w ω ω' hs hv ht ho=>q6 τ all E E' M w ω ω' hs (λp hp=>hv p (aab _ hp)) ht ho,q7⟩
    ·cases h
   ·rename_i te tk tv te' tk' tv' es al hown
    have h':=aG h;clear h
    obtain⟨⟨e0,e1,e2⟩,h⟩:=h'
    subst e0;subst e1;subst e2
    split at h
    ·rename_i σ'' l2 h2
     simp at h;obtain⟨rfl,rfl⟩:=h
     obtain⟨b1,b2,os,b3,b4,b5,b6⟩:=dj h2
     refine⟨b1,b2,(c, .maps te tk tv es none)::os,by simp[b3],by simp[bdO,b4],λc' o' hm=> ?_,by simp[b6]⟩
     rcases aai.1 hm with he|hm
     ·simp only[aaC]at he
      obtain⟨rfl,rfl⟩:=he
      refine⟨n, .maps te tk tv es al,b1 _ _ hn,hown,rfl,λ_=> .maps te (es.map λo=>o.map λl=>l.map λp=>(ew V.enc tk p.1,bC V.sz V.enc tv p.2)) al,λω=>rfl,λ_=> .maps te (es.map λo=>o.map λl=>l.map λp=>(ew V.enc tk p.1,bC V.sz V.enc tv p.2)) none,λω=>rfl,λτ all E E' M w ω ω' hs _ ht ho=> ?_,λE E' M w ω ω' b ho he hb=> ?_⟩
      ·obtain⟨B,k1,k2⟩:=OLe.noAlias.1 E M w n ho
       have he:=ht.env c' n (hs _ _ (b1 _ _ hn))
       exact⟨B,by rw[he];exact k1,k2⟩
      ·rw[he]at hb
       exact OLe.noAlias.2 E M w n b ho hb
     ·obtain⟨n',o,q1,q2,q3,x,q4,x',q5,q6,q7⟩:=b5 c' o' hm
      exact⟨n',o,q1,q2,q3,x,q4,x',q5,λτ all E E' M w ω ω' hs hv ht ho=>q6 τ all E E' M w ω ω' hs (λp hp=>hv p (aab _ hp)) ht ho,q7⟩
    ·cases h
   ·rename_i m e m' e' xs hown
    have h':=aG h;clear h
    obtain⟨⟨e1,e2⟩,h⟩:=h'
    subst e1;subst e2
    split at h
    ·rename_i σ'' l2 h2
     simp at h;obtain⟨rfl,rfl⟩:=h
     obtain⟨b1,b2,os,b3,b4,b5,b6⟩:=dj h2
     refine⟨b1,b2,(c, .bar m e xs)::os,by simp[b3],by simp[bdO,b4],λc' o' hm=> ?_,by simp[b6]⟩
     rcases aai.1 hm with he|hm
     ·simp only[aaC]at he
      obtain⟨rfl,rfl⟩:=he
      refine⟨n, .bar m e xs,b1 _ _ hn,hown,rfl,λ_=> .box none ((bY V.sz V.enc (.ar m e) xs).map .d),λω=>rfl,λ_=> .box none ((bY V.sz V.enc (.ar m e) xs).map .d),λω=>rfl,λτ all E E' M w ω ω' hs _ ht ho=> ?_,λE E' M w ω ω' b _ he hb=>by rw[he]at hb;exact hb⟩
      obtain⟨b,cs,ty,k1,k2,k3,k4,k5⟩:=ho
      refine⟨b,cs,ty,by rw[ht.env c' n (hs _ _ (b1 _ _ hn))];exact k1,k2,k3,λi' a z ha hz=> ?_,k5⟩
      have hq:=k4 i' a z ha hz
      rw[Z6,aae]at hz
      obtain⟨d,_,rfl⟩:=hz
      exact hq.mono (Mem.le_refl _) λm hm=>by simp[H.has]at hm
     ·obtain⟨n',o,q1,q2,q3,x,q4,x',q5,q6,q7⟩:=b5 c' o' hm
      exact⟨n',o,q1,q2,q3,x,q4,x',q5,λτ all E E' M w ω ω' hs hv ht ho=>q6 τ all E E' M w ω ω' hs (λp hp=>hv p (aab _ hp)) ht ho,q7⟩
    ·cases h
   ·cases h
  ·cases h
theorem Lw{α:Type}:∀{ks:List Nat} {vs:List α} {t:Nat} {x:α},gt (ks.zip vs) t=some x->∃i:Nat,ks[i]?=some t/\vs[i]?=some x
 |[],_,t,x,h=>by simp[gt]at h
 |_::_,[],t,x,h=>by simp[gt]at h
 |k::ks,v::vs,t,x,h=>by
  simp only[List.zip_cons_cons,aH]at h
  by_cases hk:k=t
  ·rw[adD hk]at h;cases h;exact⟨0,by simp[hk],rfl⟩
  ·rw[adC hk]at h
   obtain⟨i,h1,h2⟩:=Lw h
   exact⟨i+1,by simpa using h1,by simpa using h2⟩
theorem MO{S:TS V.N}{c:Cut V.ι}{σ:dw}{ls:List (dU V.N)}(h:MR V c S=some (σ,ls))(hok:EV V c σ=true):Ent (a_ V S) (a_ V (build V c ls)):=by
 unfold MR at h
 split at h
 ·rename_i σ0 l0 h0
  split at h
  ·rename_i σ1 l1 h1
   simp at h;obtain⟨rfl,rfl⟩:=h
   obtain⟨a1,a2,a3,vs',a4,a5,a6⟩:=iY h0
   obtain⟨b1,b2,os,b3,b4,b5,b6⟩:=dj h1
   have hinj:Inj σ1:=b2 (a2 λc c' n h=>by simp[gt]at h)
   simp only[EV,Z8,aaf]at hok
   obtain⟨⟨hg,hsl⟩,hob⟩:=hok
   have hbuild:build V c (l0++l1)={tmps:=(c.slots.map (·.1)).zip vs',own:=os}:=by
    unfold build
    rw[a5 l1]
    simp only[b4]
   rw[hbuild]
   let S':TS V.N:={tmps:=(c.slots.map (·.1)).zip vs',own:=os}
   have hown:∀n o,S'.own? n=some o->(n,o)∈os:=λn o ho=>cV ho
   have hkey:∀n,(c.objs.any λp=>aaX p.1 n)=true->∃o,S'.own? n=some o:=by
    intro n hn
    rw[aa1]at hn
    obtain⟨p,hp,hpn⟩:=hn
    have hpn:p.1=n:=by simpa using hpn
    have hm:n∈os.map (·.1):=by rw[b6,<-hpn];exact aaJ hp
    exact gz hm
   intro C E M a w hs
   let E':Env:=λm=>match gt σ1 m with
    |some n=>E n
    |none=>E m
   have hE:∀k n,gt σ1 k=some n->E' k=E n:=λk n hk=>by simp only[E',hk]
   have ht:Tr σ1 c.objs E E' S.len S'.len:=by
    refine⟨hE,λk n hk hkn=> ?_⟩
    obtain⟨o,ho⟩:=hkey k hk
    obtain⟨n',o',q1,q2,q3,_⟩:=b5 k o (hown k o ho)
    rw[hkn]at q1;cases q1
    unfold TS.len;rw[ho,q2];exact q3
   have hob':∀p∈c.objs,match p.2 with| .box _ ps=>ps.all (vv V c.objs)=true|_=>True:=by
    intro p hp
    have:=hob p hp
    cases hq:p.2 with
    |box oty ps=>rw[hq]at this;simpa using this
    |st i=>trivial
    |vec te e=>trivial
    |map tk tv=>trivial
    |iter=>trivial
    |miter m k v=>trivial
    |que te e=>trivial
    |maps te k v=>trivial
    |bar m e=>trivial
   have hfind:∀n o,(a_ V S').own? n=some o->∃n0 o0,gt σ1 n=some n0/\(a_ V S).own? n0=some o0/\(∀w,cn E M w n0 o0->cn E' M w n o)/\∀b,o.foot w (E' n) b->o0.foot w (E n0) b:=by
    intro n o ho
    rw[bL,abF]at ho
    obtain⟨o',ho',hoo⟩:=ho
    obtain⟨n0,o0,q1,q2,_,x,q4,x',q5,q6,q7⟩:=b5 n o' (hown n o' ho')
    rw[q5]at hoo
    simp only[Z2]at hoo
    subst hoo
    exact⟨n0,x S.len,q1,by rw[bL,q2];exact q4 _,λw hw=>q6 σ1 c.objs E E' M w S.len S'.len (Sub.refl _) hob' ht hw,λb hb=>q7 E E' M w S.len S'.len b (hs.own n0 _ (by rw[bL,q2];exact q4 _)) (hE _ _ q1) hb⟩
   refine⟨E',M,{size:=hs.size,defers:=hs.defers,fixed:=hs.fixed,tmps:=λt x hx=> ?_,mem:=hs.mem,own:=λn o hn=> ?_,apart:=λn m o o' b hne hn hm hb=> ?_,home:=λn o b hn hb=> ?_,m0:=hs.m0,mnew:=hs.mnew,frame:=hs.frame,grows:=hs.grows,os:=hs.os,tape:=hs.tape,output:=hs.output,env:=λn hn=> ?_}⟩
   ·rw[db,aae]at hx
    obtain⟨v',hv',rfl⟩:=hx
    obtain⟨i,g1,g2⟩:=Lw hv'
    have hi:i<(c.slots.map λp=>S.get p.1).length:=by rw[<-a4];exact(Z4.1 g2).1
    have hget:(c.slots.map λp=>S.get p.1)[i]?=some (S.get t):=by
     rw[Z6]at g1⊢
     cases hsl':c.slots[i]? with
     |none=>rw[hsl']at g1;cases g1
     |some p=>rw[hsl']at g1;simp at g1;subst g1;rfl
    obtain⟨k1,k2⟩:=a6 i _ v' hget g2
    have hgt:∃v,gt S.tmps t=some v/\S.get t=v:=by
     unfold TS.get at k1⊢
     cases hq:gt S.tmps t with
     |none=>rw[hq]at k1;exact(k1 rfl).elim
     |some v=>exact⟨v,rfl,rfl⟩
    obtain⟨v,hv1,hv2⟩:=hgt
    obtain⟨av,hav,hrep⟩:=hs.tmps t (aL V S.len v) (by rw[db,hv1];rfl)
    refine⟨av,hav,k2 σ1 c.objs E E' M S.len S'.len av b1 ?_ ht (by rw[hv2];exact hrep)⟩
    rw[abU]
    exact aaf.2 hsl
   ·obtain⟨n0,o0,q1,q2,q3⟩:=hfind n o hn
    exact q3.1 w (hs.own n0 _ q2)
   ·obtain⟨n0,o0,q1,q2,q3⟩:=hfind n o hn
    obtain⟨m0,o1,r1,r2,r3⟩:=hfind m o' hm
    intro hb'
    exact hs.apart n0 m0 _ _ b (λe=>by subst e;exact hne (hinj n m n0 q1 r1)) q2 r2 (q3.2 b hb) (r3.2 b hb')
   ·obtain⟨n0,o0,q1,q2,q3⟩:=hfind n o hn
    exact hs.home n0 _ b q2 (q3.2 b hb)
   ·cases hq:gt σ1 n with
    |none=>simp only[E',hq];exact hs.env n hn
    |some m=>
     have:=hg _ (cV hq)
     simp only[aaD,abE]at this
     rcases this with h|h
     ·omega
     ·have e:n=m:=by simpa using h
      rw[hE n m hq,<-e];exact hs.env n hn
  ·cases h
 ·cases h
end
end Go.Tx
end
section
namespace Go.Tx
open Go.Awp
variable [Inhabited GMem]
theorem Ent.le{S S':aB}(ht:∀t x,gt S'.tmps t=some x->∃y,gt S.tmps t=some y/\H.le y x)(ho:∀n o,S'.own? n=some o->∃o',S.own? n=some o'/\OLe o' o):Ent S S':=
 λ_ E M _ _ hs=>⟨E,M,Sim.le hs ht ho⟩
theorem kq{a b c:H}(h:H.le a b)(k:H.le b c):H.le a c:=λE M v x=>k E M v (h E M v x)
mutual
theorem yp{n sz:Nat}{rows:List (List D)}:∀x:H,H.has n x=false->H.le (H.frz n sz rows x) x
 | .d x,_=>by simp only[H.frz];exact H.le.refl _
 | .junk,_=>by simp only[H.frz];exact H.le.refl _
 | .bp m o,_=>by simp only[H.frz];exact H.le.refl _
 | .vh m l,h=>by
  simp only[H.has]at h
  have:m≠n:=by intro e;subst e;simp at h
  simp only[H.frz]
  rw[adC (λe=>this e.1)]
  exact H.le.refl _
 | .ep m s i o,_=>by simp only[H.frz];exact H.le.refl _
 | .sv m s i o,_=>by simp only[H.frz];exact H.le.refl _
 | .mp m,_=>by simp only[H.frz];exact H.le.refl _
 | .np m b,_=>by simp only[H.frz];exact H.le.refl _
 | .sd m,_=>by simp only[H.frz];exact H.le.refl _
 | .agg cs,h=>by
  simp only[H.frz]
  simp only[H.has]at h
  exact kq (kG _) (KL (H.frzL_len ..) (frzL_le cs h))
 | .tup cs,h=>by
  simp only[H.frz]
  simp only[H.has]at h
  exact Gf (H.frzL_len ..) (frzL_le cs h)
 | .fn f a b,_=>by simp only[H.frz];exact H.le.refl _
theorem frzL_le{n sz:Nat}{rows:List (List D)}:∀l:List H,H.hasL n l=false->∀(i:Nat) (x:H),l[i]?=some x->∃y,(H.frzL n sz rows l)[i]?=some y/\H.le y x
 |[],_,i,x,hx=>by simp at hx
 |y::r,h,0,x,hx=>by
  rw[H.hasL,abg]at h
  simp at hx;subst hx
  exact⟨H.frz n sz rows y,by simp[H.frzL],yp y h.1⟩
 |y::r,h,i+1,x,hx=>by
  rw[H.hasL,abg]at h
  obtain⟨z,h1,h2⟩:=frzL_le r h.2 i x (by simpa using hx)
  exact⟨z,by simpa[H.frzL]using h1,h2⟩
end
section
variable {V:iE}
theorem Dz{S:TS V.N}{n:Nat}{te:TypeId}{e:Ty V.ι}{xs:List (den V.N e)}(hn:S.own? n=some (.vec te e xs)):(S.frz V n e xs).len=S.len:=by
 funext m
 unfold TS.len
 unfold TS.own? at hn⊢
 unfold TS.frz
 simp only[aH]
 by_cases hm:n=m
 ·subst hm;rw[adD rfl,hn];rfl
 ·rw[adC hm,gH (wu V n e xs)]
  cases gt S.own m with
  |none=>rfl
  |some o=>cases o<;>rfl
theorem wt{S:TS V.N}{n:Nat}{te:TypeId}{e:Ty V.ι}{xs:List (den V.N e)}(hn:S.own? n=some (.vec te e xs))(v:TV V.N):
 H.le (H.frz n (tsz V.sz e) (xs.map λx=>bY V.sz V.enc e x) (aL V S.len v)) (aL V (S.frz V n e xs).len (Lv V n e xs v)):=by
 have other:∀v:TV V.N,H.le (H.frz n (tsz V.sz e) (xs.map λx=>bY V.sz V.enc e x) (aL V S.len v)) (aL V (S.frz V n e xs).len (if TV.has n v=true then .junk else v)):=by
  intro v
  split
  ·simp only[aL];exact H.le.junk _
  ·rename_i hh
   have hh:TV.has n v=false:=by simpa using hh
   rw[Dz hn]
   exact yp _ (by rw[jo];exact hh)
 unfold Lv
 split
 ·rename_i m
  by_cases hm:m=n
  ·subst hm
   rw[adD rfl]
   simp only[aL,bC,H.frz,ef hn,Z7,and_self,adz]
   exact H.le.refl _
  ·rw[adC hm]
   simp only[aL,H.frz]
   rw[adC (λe=>hm e.1),Dz hn]
   exact H.le.refl _
 ·exact other v
theorem MU{S:TS V.N}{n:Nat}{te:TypeId}{e:Ty V.ι}{xs:List (den V.N e)}(hn:S.own? n=some (.vec te e xs))(v:TV V.N):
 H.le (H.frz n (tsz V.sz e) (xs.map λx=>bY V.sz V.enc e x) (aL V S.len v)) (aL V (S.frz V n e xs).len (TG V n e xs v)):=by
 unfold TG
 split
 ·rename_i cs
  simp only[aL]
  refine kq ?_ (sw _)
  have hp:∀(l:List H),(∀(i:Nat) (x:H),(encL V (S.frz V n e xs).len (cs.map (Lv V n e xs)))[i]?=some x->∃y,l[i]?=some y/\H.le y x)->l.length=cs.length->
   H.le (.agg l) (.agg (encL V (S.frz V n e xs).len (cs.map (Lv V n e xs)))):=λl h hl=>KL (by rw[bE,Z7];exact hl) h
  have hfrz:∀(i:Nat) (x:H),(encL V (S.frz V n e xs).len (cs.map (Lv V n e xs)))[i]?=some x->
   ∃y,(encL V S.len cs)[i]?=some y/\H.le (H.frz n (tsz V.sz e) (xs.map λx=>bY V.sz V.enc e x) y) x:=by
   intro i x hx
   simp only[aU,Z6]at hx⊢
   cases hc:cs[i]? with
   |none=>rw[hc]at hx;cases hx
   |some c=>rw[hc]at hx;simp at hx;subst hx;exact⟨_,rfl,wt hn c⟩
  unfold cR
  split
  ·rename_i ds hds
   obtain⟨g1,g2⟩:=fq hds
   simp only[H.frz]
   have e1:H.le (.d (.agg ds)) (.agg (encL V S.len cs)):=by
    have:=kG (encL V S.len cs)
    unfold cR at this
    rw[hds]at this;exact this
   refine kq e1 (hp _ (λi x hx=> ?_) (bE ..))
   obtain⟨y,hy,hle⟩:=hfrz i x hx
   refine⟨y,hy,?_⟩
   rw[g2]at hy
   cases hd:ds[i]? with
   |none=>rw[hd]at hy;cases hy
   |some d=>rw[hd]at hy;simp at hy;subst hy;simpa only[H.frz]using hle
  ·simp only[H.frz]
   refine kq (kG _) (hp _ (λi x hx=> ?_) (by rw[H.frzL_len,bE]))
   obtain⟨y,hy,hle⟩:=hfrz i x hx
   exact⟨_,by rw[H.frzL_get,hy];rfl,hle⟩
 ·exact wt hn v
theorem MV{S:TS V.N}{n:Nat}{te:TypeId}{e:Ty V.ι}{xs:List (den V.N e)}(hn:S.own? n=some (.vec te e xs)):Ent (a_ V S) (a_ V (S.frz V n e xs)):=by
 refine Ent.trans (Ent.freeze (dI hn)) (Ent.le (λt x hx=> ?_) λm o ho=> ?_)
 ·rw[db]at hx
  simp only[TS.frz,gH]at hx
  cases hq:gt S.tmps t with
  |none=>rw[hq]at hx;cases hx
  |some v=>
   rw[hq]at hx;simp at hx;subst hx
   refine⟨_,by simp only[aB.frz,gH,db,hq,aau],MU hn v⟩
 ·rw[bL,abF]at ho
  obtain⟨o1,ho1,ho⟩:=ho
  have hown:(S.frz V n e xs).own? m=if n=m then some (.gone xs.length)else(S.own? m).map (wu V n e xs):=by
   unfold TS.own? TS.frz
   simp only[aH]
   split
   ·rfl
   ·rw[gH (wu V n e xs)]
  rw[hown]at ho1
  by_cases hm:n=m
  ·rw[adD hm]at ho1;simp at ho1;subst ho1;simp[cp]at ho
  ·rw[adC hm]at ho1
   cases hq:S.own? m with
   |none=>rw[hq]at ho1;cases ho1
   |some o0=>
    rw[hq]at ho1;simp at ho1;subst ho1
    have hsrc:∀x,cp V S.len o0=some x->((a_ V S).frz n (tsz V.sz e) (xs.map λx=>bY V.sz V.enc e x)).own? m=some (Own.frz n (tsz V.sz e) (xs.map λx=>bY V.sz V.enc e x) x):=by
     intro x hx
     have:=bL S m
     rw[hq]at this
     simp only[ZY,hx]at this
     unfold aB.own? at this⊢
     simp only[aB.frz,aH]
     rw[adC hm,gH (λx:Option Own=>x.map (Own.frz n (tsz V.sz e) (xs.map λx=>bY V.sz V.enc e x)))]
     cases hg:gt (a_ V S).own m with
     |none=>rw[hg]at this;cases this
     |some oo=>rw[hg]at this;simp at this;subst this;rfl
    cases o0 with
    |gone l=>simp[wu,cp]at ho
    |bst i y=>
     simp only[wu,cp,Z2]at ho
     subst ho
     refine⟨_,hsrc _ rfl,?_⟩
     simp only[Own.frz]
     refine OLe.box (.inr rfl) (by rw[H.frzL_len]) λi' x hx=> ?_
     refine⟨_,by rw[H.frzL_get,hx];rfl,?_⟩
     rw[Z6,aae]at hx
     obtain⟨d,_,rfl⟩:=hx
     exact yp _ (by simp[H.has])
    |vec te' e' ys=>
     simp only[wu,cp,Z2]at ho
     subst ho
     exact⟨_,hsrc _ rfl,OLe.refl _⟩
    |map tk tv es=>
     simp only[wu,cp,Z2]at ho
     subst ho
     exact⟨_,hsrc _ rfl,OLe.refl _⟩
    |iter s p=>
     simp only[wu,cp,Z2]at ho
     subst ho
     exact⟨_,hsrc _ rfl,OLe.refl _⟩
    |miter m k v es rest cur=>
     simp only[wu,cp,Z2]at ho
     subst ho
     exact⟨_,hsrc _ rfl,OLe.refl _⟩
    |que te' e' ys=>
     simp only[wu,cp,Z2]at ho
     subst ho
     exact⟨_,hsrc _ rfl,OLe.refl _⟩
    |maps te' tk tv es al=>
     simp only[wu,cp,Z2]at ho
     subst ho
     refine⟨_,hsrc _ rfl,?_⟩
     cases al<;>exact OLe.refl _
    |alias m'=>simp[wu,cp]at ho
    |bar k e' y=>
     simp only[wu,cp,Z2]at ho
     subst ho
     refine⟨_,hsrc _ rfl,?_⟩
     simp only[Own.frz]
     refine OLe.box (.inr rfl) (by rw[H.frzL_len]) λi' x hx=> ?_
     refine⟨_,by rw[H.frzL_get,hx];rfl,?_⟩
     rw[Z6,aae]at hx
     obtain⟨d,_,rfl⟩:=hx
     exact yp _ (by simp[H.has])
    |box oty cells=>
     simp only[wu,cp,Z2]at ho
     subst ho
     refine⟨_,hsrc _ rfl,?_⟩
     simp only[Own.frz]
     refine OLe.box (.inr rfl) (by rw[H.frzL_len,bE,bE,Z7]) λi x hx=> ?_
     simp only[aU,Z6]at hx
     cases hc:cells[i]? with
     |none=>rw[hc]at hx;cases hx
     |some c=>
      rw[hc]at hx;simp at hx;subst hx
      exact⟨_,by rw[H.frzL_get,aU,Z6,hc];rfl,wt hn c⟩
theorem Dy(S:TS V.N)(v:TV V.N):Ent (a_ V S) (a_ V (MT V S v)):=by
 unfold MT
 split
 ·rename_i n
  split
  ·rename_i te e xs hn;exact MV hn
  ·exact Ent.refl _
 ·exact Ent.refl _
theorem ed:∀(l:List (TV V.N)) (S:TS V.N),Ent (a_ V S) (a_ V (frzL V S l))
 |[],_=>Ent.refl _
 |v::r,S=>Ent.trans (Dy S v) (ed r _)
theorem A7(te:TypeId)(e:Ty V.ι)(S:TS V.N)(t:Nat):Ent (a_ V S) (a_ V (ET V false te e S t)):=by
 unfold ET S4
 split
 ·rename_i ht
  split
  ·rename_i hf
   obtain⟨hf,hg⟩:=hf
   have hg:60000+t<given:=by simpa[abE]using hg
   have h1:gt (a_ V S).tmps t=some (.d (.v (.slice none 0 0))):=by rw[db,ht];simp[aL,cx]
   have h2:(a_ V S).fresh (60000+t)=true:=eQ hf
   refine Ent.trans (Ent.nilvec (e:=te) (sz:=tsz V.sz e) h1 h2 hg) λC E M a w hs=>⟨E,M,?_⟩
   exact Sim.tapp (V:=V) (S:=S) (dst:=some t) (te:={val:= .vh (60000+t),upd:=[(60000+t, .vec te e [])],new:=[60000+t]}) (ex:=false)
    (e':={val:= .vh (60000+t) 0,upd:=[(60000+t,some (.vec te (tsz V.sz e) []))],new:=[60000+t]}) (λm o hm=>by
      simp only[aH]at hm
      split at hm
      ·rename_i e;left;simp[e]
      ·simp[gt]at hm) (λd hd=>by simp at hd;subst hd;exact hf) (cX (by
      simp only[aL]
      rw[d5]
      simp[aH,TO.len]) rfl (by simp[cp]) rfl) hs
  ·exact Ent.refl _
 ·exact Ent.refl _
theorem ux(dv:Bool)(te:TypeId)(e:Ty V.ι)(S:TS V.N)(t:Nat):Ent (a_ V S) (a_ V (ET V dv te e S t)):=A7 te e S t
theorem fi(objs:List (Nat×OPt V.ι)):∀(l:List (Nat×Pt V.ι)) (S:TS V.N),Ent (a_ V S) (a_ V (uK V objs S l))
 |[],_=>Ent.refl _
 |(t, .vh c)::r,S=>by
  simp only[uK]
  split
  ·exact Ent.trans (ux _ _ _ S t) (fi objs r _)
  ·exact fi objs r S
 |(t, .dat ty)::r,S=>by
  simp only[uK]
  exact Ent.trans (ed _ S) (fi objs r _)
 |(t, .bp c off)::r,S=>by simp only[uK];exact fi objs r S
 |(t, .mp c)::r,S=>by simp only[uK];exact fi objs r S
 |(t, .np c)::r,S=>by simp only[uK];exact fi objs r S
 |(t, .nif)::r,S=>by simp only[uK];exact fi objs r S
 |(t, .sv c z)::r,S=>by simp only[uK];exact fi objs r S
 |(t, .ag cs)::r,S=>by
  simp only[uK]
  exact Ent.trans (ed _ S) (fi objs r _)
 |(t, .fn f a b)::r,S=>by simp only[uK];exact fi objs r S
theorem wW(te:TypeId)(e:Ty V.ι)(S:TS V.N)(b i:Nat):Ent (a_ V S) (a_ V (yX V false te e S b i)):=by
 unfold yX S4
 split
 ·rename_i oty cells hb
  split
  ·rename_i hc
   split
   ·rename_i hf
    obtain⟨hf,hg⟩:=hf
    generalize hn:70000+S.own.length=n at hf hg⊢
    have hg:n<given:=by simpa[abE]using hg
    have h1:(a_ V S).own? b=some (.box oty (encL V S.len cells)):=by rw[bL,hb];rfl
    have h2:(encL V S.len cells)[i]?=some (.d (.v (.slice none 0 0))):=by rw[aU,Z6,hc];simp[aL,cx]
    have hfr:=hf
    unfold TS.fresh at hfr
    simp only[Z8,aaf]at hfr
    obtain⟨⟨f1,f2⟩,f3⟩:=hfr
    have hbn:b≠n:=by
     rintro rfl
     rw[hb]at f1;cases f1
    have hcn:TV.hasL n cells=false:=by
     have:=f3 (b, .box oty cells) (cV hb)
     simpa[TO.has]using this
    refine Ent.trans (Ent.nilcell (e:=te) (sz:=tsz V.sz e) h1 h2 (eQ hf) hg) λC E M a w hs=>⟨E,M,?_⟩
    refine Sim.tapp (V:=V) (S:=S) (dst:=none) (te:={val:= .junk,upd:=[(b, .box oty (cells.set i (.vh n))),(n, .vec te e [])],new:=[n]}) (ex:=false)
     (e':={val:= .junk,upd:=[(b,some (.box oty ((encL V S.len cells).set i (.vh n 0)))),(n,some (.vec te (tsz V.sz e) []))],new:=[n]}) (λm o hm=> ?_) (λd hd=>by simp at hd;subst hd;exact hf) (cX ?_ rfl ?_ rfl) hs
    ·simp only[aH]at hm
     split at hm
     ·rename_i e1
      right
      simp at hm;subst hm;subst e1
      unfold TS.len
      rw[hb];rfl
     ·split at hm
      ·rename_i e1;left;simp[e1]
      ·simp[gt]at hm
    ·simp[aL]
    ·simp only[aac,aaT,cp]
     have hl:∀m,(S.app none ({val:= .junk,upd:=[(b, .box oty (cells.set i (.vh n))),(n, .vec te e [])],new:=[n]}:TE V.N)).len m=if m=n then 0 else S.len m:=by
      intro m
      rw[d5]
      simp only[aH]
      by_cases hmb:b=m
      ·subst hmb
       rw[adD rfl,adC hbn]
       simp only[TO.len]
       unfold TS.len;rw[hb];rfl
      ·rw[adC hmb]
       by_cases hmn:n=m
       ·subst hmn;simp[TO.len]
       ·rw[adC hmn,adC (λe=>hmn e.symm)];rfl
     have hcells:encL V (S.app none ({val:= .junk,upd:=[(b, .box oty (cells.set i (.vh n))),(n, .vec te e [])],new:=[n]}:TE V.N)).len (cells.set i (.vh n))=(encL V S.len cells).set i (.vh n 0):=by
      rw[aU,abD,aU]
      congr 1
      ·rw[<-aU,<-aU]
       refine encL_congr cells λm hm=> ?_
       rw[hl,adC]
       rintro rfl
       rw[hcn]at hm;cases hm
      ·simp only[aL]
       rw[hl,adD rfl]
     rw[hcells]
   ·exact Ent.refl _
  ·exact Ent.refl _
 ·exact Ent.refl _
theorem A8(dv:Bool)(te:TypeId)(e:Ty V.ι)(S:TS V.N)(b i:Nat):Ent (a_ V S) (a_ V (yX V dv te e S b i)):=wW te e S b i
theorem dl(objs:List (Nat×OPt V.ι))(b:Nat):∀(l:List (Pt V.ι)) (i:Nat) (S:TS V.N),Ent (a_ V S) (a_ V (ga V objs b i l S))
 |[],_,_=>Ent.refl _
 | .vh c::r,i,S=>by
  simp only[ga]
  split
  ·exact Ent.trans (A8 _ _ _ S b i) (dl objs b r _ _)
  ·exact dl objs b r _ S
 | .dat ty::r,i,S=>by simp only[ga];exact Ent.trans (ed _ S) (dl objs b r _ _)
 | .bp c off::r,i,S=>by simp only[ga];exact dl objs b r _ S
 | .mp c::r,i,S=>by simp only[ga];exact dl objs b r _ S
 | .np c::r,i,S=>by simp only[ga];exact dl objs b r _ S
 | .nif::r,i,S=>by simp only[ga];exact dl objs b r _ S
 | .sv c z::r,i,S=>by simp only[ga];exact dl objs b r _ S
 | .ag cs::r,i,S=>by simp only[ga];exact dl objs b r _ S
 | .fn f x y::r,i,S=>by simp only[ga];exact dl objs b r _ S
theorem Bi(objs:List (Nat×OPt V.ι))(c b:Nat)(S:TS V.N):Ent (a_ V S) (a_ V (Fc V objs c b S)):=by
 unfold Fc
 split
 ·exact dl objs b _ 0 S
 ·split
  ·exact ed _ S
  ·exact Ent.refl _
 ·exact Ent.refl _
theorem za(objs:List (Nat×OPt V.ι)):∀(m:Nat) (l:List (Nat×Nat)) (S:TS V.N),Ent (a_ V S) (a_ V (O3 V objs m l S))
 |0,_,_=>by simp only[O3];exact Ent.refl _
 |_+1,[],_=>by simp only[O3];exact Ent.refl _
 |m+1,(c,b)::r,S=>by simp only[O3];exact Ent.trans (Bi objs c b S) (za objs m _ _)
theorem Ji(objs:List (Nat×OPt V.ι))(l:List (Nat×Pt V.ι))(S:TS V.N):Ent (a_ V S) (a_ V (T0 V objs S l)):=by
 unfold T0
 split
 ·exact fi _ l S
 ·exact Ent.trans (fi _ l S) (za _ _ _ _)
theorem eY{c:Cut V.ι}{S:TS V.N}{v:HL V.N c.tys}(h:Ds V c S=some v):Ent (a_ V S) (a_ V (fk V c v)):=by
 unfold Ds at h
 split at h
 ·rename_i σ ls hx
  obtain⟨hok,h⟩:=aG h
  have:=s7 h
  unfold fk
  rw[this]
  exact Ent.trans (Ji c.objs c.slots S) (MO hx hok)
 ·cases h
end
end Go.Tx
end
