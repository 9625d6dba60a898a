/-
  Texts of this claim, joined by a program of mine: what the theorem uses.
-/
import Derived.Test.YtcghbgmmgcljkaaGreatDoorPkD
import Derived.Scope
open Array renaming getElem?_append_left→aci,getElem?_eq_getElem→aaH,replicate→ab7,toList_inj→acC
open Bool renaming and_eq_true→aan,false_eq_true→aaf,not_eq_true'→acN,not_false→abe,not_true→aaM
open Function renaming comp_apply→abX
open Int renaming toNat→aaG
open List renaming all_cons→abv,all_eq_true→aav,all_map→ab_,append_assoc→abu,append_nil→ace,cons_append→aa_,drop_append→adh,drop_drop→abQ,drop_eq_nil_of_le→abJ,drop_of_length_le→adn,drop_zero→aaD,eq_nil_of_length_eq_zero→aaQ,eraseIdx_cons_succ→adk,ext_getElem?→abF,filterMap_cons→ab8,flatten_cons→abE,getElem?_append→adw,getElem?_cons_zero→abj,getElem?_drop→aaN,getElem?_eq_some_iff→aaj,getElem?_map→aal,getElem?_range→abB,getElem?_replicate→acL,getElem?_set→abp,getElem?_take→aaC,length→acD,length_append→aaI,length_cons→aaq,length_drop→aaU,length_map→aam,length_nil→acX,length_replicate→aa5,length_set→aa7,length_take→aa2,map→acB,map_append→aba,map_congr_left→aaO,map_cons→aas,map_drop→abm,map_map→aaV,map_nil→aa9,map_replicate→ab3,map_set→abT,map_take→abl,mem_append_left→abw,mem_append_right→ab2,mem_cons→aay,mem_cons_of_mem→aar,mem_cons_self→aaw,mem_filter→acF,mem_map→aaL,mem_map_of_mem→aaZ,mem_of_mem_take→abh,mem_replicate→ac3,nil_append→aat,range→abA,replicate→aaA,take_append→ade,take_append_drop→ads,take_append_of_le_length→abS,take_of_length_le→aaY,take_take→adr,take_zero→acz
open List.cons renaming injEq→aa8
open Nat renaming add_sub_cancel→ac2,add_zero→abq,beq→abc,beq_refl→ab9,ble→acq,blt→abM,blt_eq→abU,div_add_mod→act,eq_of_beq_eq_true→aa1,le_of_ble_eq_true→aca,le_refl→aaJ,min_eq_left→abN,mul_comm→abZ,mul_le_mul→adq,mul_le_mul_right→aaE,sub_zero→aa0,succ_mul→aaX,zero_add→aao
open Ne renaming symm→abC
open Option renaming bind_eq_some_iff→abV,bind_some→aad,getD_some→abs,isSome_iff_exists→acH,isSome_map→ac9,map_eq_some_iff→aau,map_none→acr,map_some→aaK
open Option.some renaming injEq→aah
open Prod.mk renaming injEq→aaS
noncomputable section
set_option linter.unusedSectionVars false
set_option linter.unusedSimpArgs false
section
namespace Go.Tx
open Go.Awp
variable [Inhabited GMem]
section
variable (V:iH)
variable (P:Program) (nm:Nat->Nat)
def Hi(S:TS V.N)(ns:List Nat):List (Nat×TO V.N):=ns.map λm=>(m, .gone (S.len m))
def OI{A:Type}(t:TypeId)(x:Operand)(lo hi mx:Option Operand)(S:TS V.N)(k:TE V.N->Option A):Option A:=match mx,cI P t,tev S x with
 |none,some (_,sz,_), .vh n=>match S.own? n with
  |some (.vec _ e xs)=>match KW V S lo 0,KW V S hi xs.length with
   |some l,some h=>if sz=tsz V.sz e then if 0<=l/\l<=h/\h<=xs.length then k {val:= .sv n sz l.toNat (h.toNat-l.toNat),acc:=[n]}else none else none
   |_,_=>none
  |_=>none
 |_,_,_=>none
def QC(pre:Nat->Bool)(o:Oper)(_:TS V.N):Bool:=match o.op with
 | .slice _ _ _ _ _=>match o.dst with
  |some d=>pre (3000000+d)
  |none=>false
 |_=>false
def OK{A:Type}(o:Oper)(S:TS V.N)(k:TE V.N->Option A):Option A:=match o.op with
 | .slice t x lo hi mx=>OI V P t x lo hi mx S k
 |_=>none
end
section
variable {V:iH}
theorem DI{S:TS V.N}{ns:List Nat}{m:Nat}{o:TO V.N}(h:gt (Hi V S ns) m=some o):TO.len (some o)=S.len m:=by
 obtain⟨k,_,hk⟩:=aaL.1 (cT h)
 simp only[aaS]at hk
 obtain⟨rfl,rfl⟩:=hk
 rfl
theorem DH(ω:Nat->Nat)(S:TS V.N)(ns:List Nat):(Hi V S ns).map (λp=>(p.1,cq V ω p.2))=ns.map λn=>(n,none):=by
 unfold Hi
 rw[aaV]
 rfl
section
variable {P:Program} {nm:Nat->Nat} {o:Oper} {S:TS V.N} {A:Type} {k:TE V.N->Option A} {r:A}
def OpD(P:Program)(nm:Nat->Nat)(o:Oper)(S:TS V.N)(k:TE V.N->Option A)(r:A):Prop:=
 ∃te,k te=some r/\good S te/\∃e',GF P nm o (Go.Awp.ev (a_ V S)) (a_ V S).own? e'/\ELe true e' (gB (S.app o.dst te).len te)
theorem OJ{t:TypeId}{x:Operand}{lo hi mx:Option Operand}(ho:o.op= .slice t x lo hi mx)(h:OI V P t x lo hi mx S k=some r):OpD P nm o S k r:=by
 unfold OI at h
 split at h
 ·rename_i te sz by_ n ht hx
  split at h
  ·rename_i te1 e xs hn
   split at h
   ·rename_i l u hl hu
    have h':=aG h;clear h
    obtain⟨hse,h⟩:=h'
    have h':=aG h;clear h
    obtain⟨⟨h0,h1,h2⟩,h⟩:=h'
    have hlen:S.len n=xs.length:=by unfold TS.len;rw[hn];rfl
    exact⟨_,h,jv S _ _,_, .cut (rows:=xs.map λx=>bY V.sz V.enc e x) (e:=te1) ho ht (by rw[aI,hx];simp only[aL];rw[hlen,aam]) (by rw[dH hn,hse]) (gF hl) (by rw[aam];exact gF hu) h0 h1 (by rw[aam];exact h2),tT rfl⟩
   ·cases h
  ·cases h
 ·cases h
theorem xJ(_:∀te,k te=some r->∀d∈te.new,S.fresh d=true)(h:OK V P o S k=some r):OpD P nm o S k r:=by
 unfold OK at h
 split at h
 ·rename_i t x lo hi mx ho;exact OJ ho h
 ·cases h
end
end
end Go.Tx
end
section
namespace Go.Tx
open Go.Awp
variable [Inhabited GMem]
section
variable {V:iH}
theorem yy{α:Type}{s:Nat}:∀{rows:List (List α)} {i:Nat} {r:List α},(∀r∈rows,r.length=s)->rows[i]?=some r->(rows.flatten.drop (i *s)).take s=r
 |[],i,r,_,h=>by simp at h
 |x::rows,0,r,hz,h=>by
  simp only[abj,aah]at h
  subst h
  have:=hz x aaw
  simp[abE,ade,this]
 |x::rows,i+1,r,hz,h=>by
  have hx:=hz x aaw
  have:=yy (λr hr=>hz r (aar _ hr)) (by simpa using h)
  rw[abE,aaX,adh,hx,abJ (by omega),aat]
  rw[show i *s+s-s=i *s by omega]
  exact this
theorem hU{α:Type}{s:Nat}:∀{rows:List (List α)},(∀r∈rows,r.length=s)->rows.flatten.length=rows.length *s
 |[],_=>by simp
 |x::r,h=>by
  rw[abE,aaI,h x aaw,hU λy hy=>h y (aar _ hy),aaq,aaX]
  omega
theorem ko(e:Ty V.ι)(xs:List (den V.N e)):∀r∈xs.map (λx=>bY V.sz V.enc e x),r.length=tsz V.sz e:=λr hr=>by
 obtain⟨x,_,rfl⟩:=aaL.1 hr
 exact cB e x
theorem rZ{n i:Nat}{e:Ty V.ι}{xs:List (den V.N e)}{y:den V.N e}(hi:i<n)(hx:xs[i]?=some y):((bY V.sz V.enc (.ar n e) xs).drop (i *tsz V.sz e)).take (tsz V.sz e)=bY V.sz V.enc e y:=by
 have h1:=yy (s:=tsz V.sz e) (ko e xs) (i:=i) (r:=bY V.sz V.enc e y) (by rw[aal,hx];rfl)
 have hil:i<xs.length:=(aaj.1 hx).1
 have h2:=hU (ko (V:=V) e xs)
 rw[aam]at h2
 have m1:(i+1) *tsz V.sz e<=n *tsz V.sz e:=aaE _ hi
 have m2:(i+1) *tsz V.sz e<=xs.length *tsz V.sz e:=aaE _ hil
 rw[aaX]at m1 m2
 simp only[bY,arL]
 rw[List.drop_take,adr,abN (by omega),List.drop_append_of_le_length (by omega),abS (by rw[aaU];omega)]
 exact h1
theorem nr{α:Type}{s:Nat}:∀{rows:List (List α)} {i:Nat} {r:List α},(∀r∈rows,r.length=s)->i<rows.length->(rows.set i r).flatten=rows.flatten.take (i *s)++r++rows.flatten.drop (i *s+s)
 |[],i,r,_,h=>by simp at h
 |x::rows,0,r,hz,h=>by
  have hx:=hz x aaw
  simp[abE,hx]
 |x::rows,i+1,r,hz,h=>by
  have hx:=hz x aaw
  have ih:=nr (r:=r) (λr hr=>hz r (aar _ hr)) (by simpa using h)
  have e1:(x++rows.flatten).take ((i+1) *s)=x++rows.flatten.take (i *s):=by
   rw[ade,aaY (l:=x) (by rw[hx,aaX];omega),hx,aaX,ac2]
  have e2:(x++rows.flatten).drop ((i+1) *s+s)=rows.flatten.drop (i *s+s):=by
   rw[adh,(abJ (by rw[hx,aaX];omega):x.drop _=[]),hx,aaX,aat]
   congr 1;omega
  simp only[List.set_cons_succ,abE]
  rw[ih,e1,e2]
  simp[abu]
theorem Cl{n i:Nat}{e:Ty V.ι}{xs:List (den V.N e)}{y':den V.N e}(hi:i<n)(hx:i<xs.length):
 bY V.sz V.enc (.ar n e) (xs.set i y')=(bY V.sz V.enc (.ar n e) xs).take (i *tsz V.sz e)++bY V.sz V.enc e y'++(bY V.sz V.enc (.ar n e) xs).drop (i *tsz V.sz e+tsz V.sz e):=by
 have h2:=hU (ko (V:=V) e xs)
 rw[aam]at h2
 have m1:(i+1) *tsz V.sz e<=n *tsz V.sz e:=aaE _ hi
 have m2:(i+1) *tsz V.sz e<=xs.length *tsz V.sz e:=aaE _ hx
 rw[aaX]at m1 m2
 have hl:=cB e y'
 simp only[bY,arL,abT]
 rw[nr (ko e xs) (by rw[aam];exact hx)]
 generalize (acB (λx=>bY V.sz V.enc e x) xs).flatten=F at h2
 generalize bY V.sz V.enc e y'=c at hl
 generalize hs:tsz V.sz e=s at *
 generalize n *s=N at *
 apply abF
 intro k
 simp only[aaC,adw,aaI,aa2,aaN,acL,aaU,aa5]
 grind
theorem KT{ω:Nat->Nat}{n:Nat}{e:Ty V.ι}{xs:List (den V.N e)}:aL V ω (.lf (.ar n e) xs)= .d (.agg (bY V.sz V.enc (.ar n e) xs)):=rfl
theorem D6{e:Ty V.ι}{y:den V.N e}{ds:List D}{ag:Bool}(h:ds.take (tsz V.sz e)=bY V.sz V.enc e y)(ha:ag= !e.cell):dZ ag (tsz V.sz e) ds=some (bC V.sz V.enc e y):=by
 have hl:=cB (V:=V) e y
 have hdl:tsz V.sz e<=ds.length:=by
  have:=congrArg acD h
  rw[hl,aa2]at this;omega
 have cell:e.cell=true->bY V.sz V.enc e y=[bC V.sz V.enc e y]->tsz V.sz e=1->dZ ag (tsz V.sz e) ds=some (bC V.sz V.enc e y):=by
  intro hc h1 h2
  rw[hc]at ha
  subst ha
  simp only[dZ,aaM]
  rw[h1,h2]at h
  cases ds with
  |nil=>simp at h
  |cons d r=>simp at h;simp[h]
 cases e with
 |st i=>
  subst ha
  simp only[Ty.cell,abe,dZ,adT hdl,h]
  rfl
 |ar n e=>
  subst ha
  simp only[Ty.cell,abe,dZ,adT hdl,h]
  rfl
 |_=>exact cell rfl rfl rfl
theorem pj{S:TS V.N}{n m:Nat}{e:Ty V.ι}{xs:List (den V.N e)}(h:S.own? n=some (.bar m e xs)):(a_ V S).own? n=some (.box none ((bY V.sz V.enc (.ar m e) xs).map .d)):=by rw[bL,h];rfl
theorem D1{S:TS V.N}{n m:Nat}{e:Ty V.ι}{xs:List (den V.N e)}(h:S.own? n=some (.bar m e xs)):S.len n=0:=by unfold TS.len;rw[h];rfl
theorem sW{S:TS V.N}{n:Nat}{te:TypeId}{e:Ty V.ι}{xs:List (den V.N e)}(h:S.own? n=some (.que te e xs)):(a_ V S).own? n=some (.que te (tsz V.sz e) (xs.map λx=>bY V.sz V.enc e x)):=by rw[bL,h];rfl
theorem wJ{S:TS V.N}{n:Nat}{te:TypeId}{e:Ty V.ι}{xs:List (den V.N e)}(h:S.own? n=some (.que te e xs)):S.len n=xs.length:=by unfold TS.len;rw[h];rfl
theorem io{S:TS V.N}{n:Nat}{te:TypeId}{k v:Ty V.ι}{es:List (Option (List (den V.N k×den V.N v)))}{al:Option (Nat×Nat)}(h:S.own? n=some (.maps te k v es al)):
 (a_ V S).own? n=some (.maps te (es.map λo=>o.map λl=>l.map λp=>(eA V.enc k p.1,bC V.sz V.enc v p.2)) al):=by rw[bL,h];rfl
theorem ic{S:TS V.N}{n:Nat}{te:TypeId}{k v:Ty V.ι}{es:List (Option (List (den V.N k×den V.N v)))}{al:Option (Nat×Nat)}(h:S.own? n=some (.maps te k v es al)):S.len n=es.length:=by unfold TS.len;rw[h];rfl
theorem kY{S:TS V.N}{n m:Nat}(h:S.own? n=some (.alias m)):(a_ V S).own? n=none:=by rw[bL,h];rfl
theorem kD{S:TS V.N}{n m:Nat}(h:S.own? n=some (.alias m)):S.len n=0:=by unfold TS.len;rw[h];rfl
end
section
variable (V:iH) (P:Program) (nm:Nat->Nat)
def fnF(e:Ty V.ι):TV V.N->TV V.N
 | .lf .fnc f=>match e with
  | .fno=> .lf .fno (some f)
  |_=> .lf .fnc f
 |v=>v
def xK{A:Type}(t:TypeId)(x i:Operand)(S:TS V.N)(k:TE V.N->Option A):Option A:=match tw P t,tev S x,tev S i with
 |some (len,_,ag,sz), .lf (.ar n e) xs, .lf (.int _) j=>if n=len/\sz=tsz V.sz e/\ag= !e.cell then
  if 0<=j/\j<len then xs[j.toNat]?>>=λy=>k {val:= .lf e y}else none
  else none
 |_,_,_=>none
def OL{A:Type}(t:TypeId)(x i:Operand)(S:TS V.N)(k:TE V.N->Option A):Option A:=match tw P t,tev S i with
 |some (len,_,_,sz), .lf (.int _) j=>match tev S x with
  | .bp m 0=>match S.own? m with
   |some (.bar n e _)=>if n=len/\sz=tsz V.sz e then
    if 0<=j/\j<len then k {val:= .ai m sz j.toNat 0}else none
    else none
   |_=>none
  | .rp (.ar n e) xs 0=>if n=len/\sz=tsz V.sz e then
    if 0<=j/\j<len then xs[j.toNat]?>>=λy=>k {val:= .rp e y 0}else none
   else none
  | .ep m s i' off=>if 0<=j/\j<len then k {val:= .ep m s i' (off+j.toNat *sz)}else none
  |_=>none
 |_,_=>none
def wK{A:Type}(ag:Bool)(sz:Nat)(ot:Option (Ty V.ι)):(t:Ty V.ι)->den V.N t->Nat->(TV V.N->Option A)->Option A
 | .ar n e,xs,off,k=>if off=0/\ot=some (.ar n e)/\ag=true/\sz=tsz V.sz (.ar n e)then k (.lf (.ar n e) xs)
   else if off/tsz V.sz e<n then xs[off/tsz V.sz e]?>>=λy=>wK ag sz ot e y (off%tsz V.sz e) k else none
 |t,x,off,k=>match uo V ag sz ot t x off with
  |some v=>k v
  |none=>none
def zD{A:Type}(t:TypeId)(x:Operand)(S:TS V.N)(k:TE V.N->Option A):Option A:=match cU P t with
 |some (ag,sz)=>match tev S x with
  | .ai n s i off=>match S.own? n with
   |some (.bar m e xs)=>if s=tsz V.sz e/\off+T2 ag sz<=s then
    if i<m then xs[i]?>>=λy=>wK V ag sz (V.ty t) e y off λv=>k {val:=v,acc:=[n]}else none
    else none
   |_=>none
  | .bp n 0=>match S.own? n with
   |some (.bar m e xs)=>if V.ty t=some (.ar m e)/\ag=true/\sz=tsz V.sz (.ar m e)then k {val:= .lf (.ar m e) xs,acc:=[n]}else none
   |_=>none
  | .ep n s i off=>match S.own? n with
   |some (.vec _ e xs)=>if s=tsz V.sz e then xs[i]?>>=λy=>wK V ag sz (V.ty t) e y off λv=>k {val:=v,acc:=[n]}else none
   |some (.que _ e xs)=>if s=tsz V.sz e then xs[i]?>>=λy=>wK V ag sz (V.ty t) e y off λv=>k {val:=v,acc:=[n]}else none
   |_=>none
  | .rp t' y off=>wK V ag sz (V.ty t) t' y off λv=>k {val:=v}
  |_=>none
 |none=>none
def xR{A:Type}(t:TypeId)(x y:Operand)(S:TS V.N)(k:TE V.N->Option A):Option A:=match cU P t,TV.cells V (tev S y)with
 |some (_,sz),some cs=>match tev S x with
  | .ai n s i 0=>match S.own? n with
   |some (.bar m e xs)=>if s=tsz V.sz e/\cs.length=sz/\sz=s/\cs.all TV.one=true then
    if i<m then if i<xs.length then match dF V true e cs with
     |some z=>k {val:= .junk,acc:=[n],upd:=[(n, .bar m e (xs.set i z))]}
     |none=>none
    else none else none
    else none
   |_=>none
  | .bp n 0=>match S.own? n,tev S y with
   |some (.bar m e _), .lf (.ar m' e') ys=>if m'=m/\e'=e/\sz=tsz V.sz (.ar m e)then k {val:= .junk,acc:=[n],upd:=[(n, .bar m' e' ys)]}else none
   |_,_=>none
  |_=>none
 |_,_=>none
def zeq:Value->Value->Bool
 | .int k n, .int k' n'=>decide (k=k')&&decide (n=n')
 | .bool a, .bool b=>a==b
 | .nilFunc, .nilFunc=>true
 | .string a, .string b=>decide (a=b)
 |_,_=>false
def Tj:List Value->List Value->Bool
 |[],[]=>true
 |a::r,b::s=>zeq a b&&Tj r s
 |_,_=>false
def xE{A:Type}(t:TypeId)(dst:Option Tmp)(k:TE V.N->Option A):Option A:=match V.ty t,iE P t,dst with
 |some (.ar n e),some z,some d=>match dF V true e ((z.take (tsz V.sz e)).map tvc)with
  |some y=>if z.all d9=true/\uj t z=none/\Tj z (aaA n (z.take (tsz V.sz e))).flatten=true then k {val:= .bp (nm d) 0,upd:=[(nm d, .bar n e (aaA n y))],new:=[nm d]}else none
  |none=>none
 |_,_,_=>none
def OE{A:Type}(x:Operand)(dst:Option Tmp)(S:TS V.N)(k:TE V.N->Option A):Option A:=match tev S x,dst with
 | .lf (.ar n e) xs,some d=>k {val:= .bp (nm d) 0,upd:=[(nm d, .bar n e xs)],new:=[nm d]}
 |_,_=>none
def OO{A:Type}(x:Operand)(S:TS V.N)(k:TE V.N->Option A):Option A:=match tev S x with
 | .lf (.op e) y=>y>>=λz=>k {val:= .rp e z 0}
 |_=>none
def eF:List (Ty V.ι)->Option (List CK)
 |[]=>some []
 |t::r=>match t,eF r with
  | .int k,some l=>some (.int k::l)
  | .bool,some l=>some (.bool::l)
  | .str,some l=>some (.str::l)
  |_,_=>none
def DT(P:Program)(t:TypeId):Bool:=match P.underlying t with
 |some (.struct _)=>true
 |_=>false
def QK(P:Program)(t:TypeId):Bool:=match P.underlying t with
 |some (.func _ _ _)=>true
 |_=>false
def OH{A:Type}(op:BinOp)(xt:TypeId)(x y:Operand)(S:TS V.N)(k:TE V.N->Option A):Option A:=match TT op,tev S x,tev S y with
 |some q, .lf (.op _) a, .raw (.pointer none)=>match lM P xt with
  |true=>match q with
   |true=>k {val:= .lf .bool a.isNone}
   |false=>k {val:= .lf .bool a.isSome}
  |false=>none
 |some q, .lf .fno a, .raw .nilFunc=>match QK P xt with
  |true=>match q with
   |true=>k {val:= .lf .bool a.isNone}
   |false=>k {val:= .lf .bool a.isSome}
  |false=>none
 |some q, .lf (.st i) a, .lf (.st j) b=>if i=j/\DT P xt=true/\P.eqGuardType P.depth xt=false/\(iO P 100 xt).isSome=true/\eF V (V.tys i)=iO P 100 xt then match q with
  |true=>k {val:= .lf .bool (Du (V.cells i a) (V.cells j b))}
  |false=>k {val:= .lf .bool (!Du (V.cells i a) (V.cells j b))}
  else none
 |_,_,_=>none
def Rm{α:Type}:List α->Nat->α->List α
 |[],_,_=>[]
 |_::r,0,x=>x::r
 |a::r,i+1,x=>a::Rm r i x
def Rk(e:Ty V.ι):List (den V.N e)->List (Nat×TV V.N)->Option (List (den V.N e))
 |ys,[]=>some ys
 |ys,(i,x)::r=>if i<ys.length then match Hc V true e x with
  |some y=>Rk e (Rm ys i y) r
  |none=>none
  else none
def xF{A:Type}(t:TypeId)(parts:List (Nat×Operand))(S:TS V.N)(k:TE V.N->Option A):Option A:=match V.ty t,tw P t,iE P t with
 |some (.ar n e),some (len,_,_,sz),some z=>match dF V true (.ar n e) (z.map tvc)with
  |some ys0=>if(n=len/\sz=tsz V.sz e)/\z.all d9=true/\acD ys0=n then
   match Rk V e ys0 (parts.map λ(i,x)=>(i,fnF V e (fnT (tev S x))))with
   |some ys=>k {val:= .lf (.ar n e) ys}
   |none=>none
   else none
  |none=>none
 |_,_,_=>none
def xG{A:Type}(t:TypeId)(parts:List (Nat×Operand))(S:TS V.N)(k:TE V.N->Option A):Option A:=match iE P t,places P t with
 |some z,some pl=>if z.all d9=true then match ww V pl (z.map tvc) (parts.map λ(i,x)=>(i,fnT (tev S x)))with
  |some cs=>k {val:=mkV V true (V.ty t) cs}
  |none=>none
  else none
 |_,_=>none
def uh:Nat->List (TV V.N)->Option Nat
 |_,[]=>none
 |j,x::r=>match x with
  | .raw (.slice none 0 0)=>some j
  |_=>uh (j+1) r
def xH{A:Type}(t:TypeId)(parts:List (Nat×Operand))(dst:Option Tmp)(S:TS V.N)(k:TE V.N->Option A):Option A:=match iE P t,places P t,V.ty t,dst with
 |some z,some pl,some (.st s),some d=>if z.all d9=true then match ww V pl (z.map tvc) (parts.map λ(i,x)=>(i,tev S x))with
  |some cs=>match uh V 0 cs with
   |some j=>match(V.tys s)[j]? with
    |some (.sl e)=>match TV.hasL (53000+d) cs with
     |false=>k {val:= .agg (Rm cs j (.vh (53000+d))),upd:=[(53000+d, .vec (V.tid e) e [])],new:=[53000+d]}
     |true=>none
    |_=>none
   |none=>none
  |none=>none
  else none
 |_,_,_,_=>none
end
section
variable {V:iH} {P:Program} {nm:Nat->Nat} {o:Oper} {S:TS V.N} {A:Type} {k:TE V.N->Option A} {r:A}
def _root_.Go.Tx.Ty.flat0{ι:Type}:Ty ι->Bool
 | .int _=>true
 | .bool=>true
 | .str=>true
 |_=>false
theorem dG{v:TV V.N}{l:List Nat}{h:H}(hk:k {val:=v,acc:=l}=some r)(hs:aW P nm o (Go.Awp.ev (a_ V S)) (a_ V S).own? {val:=h,acc:=l})(he:h=aL V S.len v):OpD P nm o S k r:=
 ⟨_,hk,jv S _ _,_, .sem hs,tT he⟩
theorem BX{t:TypeId}{x i:Operand}(ho:o.op= .index t x i)(h:xK V P t x i S k=some r):OpD P nm o S k r:=by
 unfold xK at h
 split at h
 ·rename_i len te ag sz n e xs kk j ht hx hi
  replace h:=aG h
  obtain⟨⟨e1,e2,e3⟩,h⟩:=h
  replace h:=aG h
  obtain⟨⟨h0,h1⟩,h⟩:=h
  replace h:=b9 h
  obtain⟨y,hy,h⟩:=h
  subst e1;subst e2
  refine dG h (.index (n:=j) (ds:=bY V.sz V.enc (.ar n e) xs) ho ht (by rw[aI,hx];rfl) (by rw[aI,hi];rfl) h0 h1 (D6 (y:=y) (rZ ((Int.toNat_lt h0).2 h1) hy) e3)) (by simp only[aL])
 ·cases h
theorem JT{t:TypeId}{x i:Operand}(ho:o.op= .indexAddr t x i)(h:OL V P t x i S k=some r):OpD P nm o S k r:=by
 unfold OL at h
 split at h
 ·rename_i len te ag sz kk j ht hi
  have hi':Go.Awp.ev (a_ V S) i= .d (.v (.int kk j)):=by rw[aI,hi];rfl
  split at h
  ·rename_i m hx
   split at h
   ·rename_i n e xs hown
    replace h:=aG h
    obtain⟨⟨e1,e2⟩,h⟩:=h
    replace h:=aG h
    obtain⟨⟨h0,h1⟩,h⟩:=h
    exact dG h (.indexArr (hx':= .bp m (0+j.toNat *sz)) ho ht hi' h0 h1 (.inl ⟨m,0,by rw[aI,hx];rfl,rfl⟩)) (by simp[aL])
   ·cases h
  ·rename_i n e xs hx
   replace h:=aG h
   obtain⟨⟨e1,e2⟩,h⟩:=h
   replace h:=aG h
   obtain⟨⟨h0,h1⟩,h⟩:=h
   replace h:=b9 h
   obtain⟨y,hy,h⟩:=h
   subst e1;subst e2
   have hj:aaG j<n:=(Int.toNat_lt h0).2 h1
   have m1:(j.toNat+1) *tsz V.sz e<=n *tsz V.sz e:=aaE _ hj
   rw[aaX]at m1
   refine dG h (.indexArr (n:=j) (hx':= .d (.rp (((bY V.sz V.enc (.ar n e) xs).drop (j.toNat *tsz V.sz e)).take (tsz V.sz e)))) ho ht hi' h0 h1 (.inr (.inr ⟨bY V.sz V.enc (.ar n e) xs,by rw[aI,hx];simp[aL],?_,rfl⟩))) ?_
   ·rw[cB];exact m1
   ·rw[rZ hj hy];simp[aL]
  ·rename_i m s i' off hx
   replace h:=aG h
   obtain⟨⟨h0,h1⟩,h⟩:=h
   exact dG h (.indexArr ho ht hi' h0 h1 (.inr (.inl ⟨m,s,i',off,by rw[aI,hx];rfl,rfl⟩))) (by simp[aL])
  ·cases h
 ·cases h
theorem D5{ag:Bool}{sz:Nat}{a b:List D}{d:D}(h:dZ ag sz a=some d):dZ ag sz (a++b)=some d:=by
 cases ag with
 |true=>
  simp only[dZ]at h⊢
  split at h
  ·rename_i hl
   rw[adT (by rw[aaI];omega),abS hl];exact h
  ·cases h
 |false=>
  cases a with
  |nil=>simp[dZ]at h
  |cons x r=>exact h
theorem un{ag:Bool}{sz m off:Nat}{l row:List D}{d:D}(hr:l.take m=row)(h:dZ ag sz (row.drop off)=some d):dZ ag sz (l.drop off)=some d:=by
 rw[<-ads m l,hr,adh]
 exact D5 h
theorem D4{ag:Bool}{sz:Nat}{ds:List D}{d:D}(h:dZ ag sz ds=some d):fw ag sz (ds.map H.d)=some (.d d):=by
 cases ag with
 |true=>
  simp only[dZ,fw,aam]at h⊢
  split at h
  ·rename_i hl
   rw[adT hl,<-abl,cN,dW]
   simp only[aah]at h;subst h;rfl
  ·cases h
 |false=>
  cases ds with
  |nil=>simp[dZ]at h
  |cons x r=>simp[dZ]at h;subst h;rfl
theorem fH{ω:Nat->Nat}{ag:Bool}{sz:Nat}{ot:Option (Ty V.ι)}{B:Type}{f:TV V.N->Option B}{b:B}:∀(t:Ty V.ι) (x:den V.N t) (off:Nat),wK V ag sz ot t x off f=some b->
 ∃v,f v=some b/\∃d,dZ ag sz ((bY V.sz V.enc t x).drop off)=some d/\∀ω,aL V ω v= .d d
 | .ar n e,xs,off,h=>by
  simp only[wK]at h
  split at h
  ·rename_i hc
   obtain⟨rfl,_,rfl,rfl⟩:=hc
   refine⟨_,h, .agg (bY V.sz V.enc (.ar n e) xs),?_,λω=>rfl⟩
   have hl:=cB (V:=V) (.ar n e) xs
   simp only[dZ,aaD]
   rw[adT (by omega),aaY (by omega)]
  ·obtain⟨hn,h⟩:=aG h
   replace h:=b9 h
   obtain⟨y,hy,h⟩:=h
   obtain⟨v,h1,d,h2,h3⟩:=fH (ω:=ω) e y _ h
   refine⟨v,h1,d,?_,h3⟩
   have:=un (rZ hn hy) h2
   rw[abQ]at this
   rw[abZ,act]at this
   exact this
 | .int _,x,off,h=>loadL_k h
 | .bool,x,off,h=>loadL_k h
 | .str,x,off,h=>loadL_k h
 | .st _,x,off,h=>loadL_k h
 | .sl _,x,off,h=>loadL_k h
 | .mp _ _,x,off,h=>loadL_k h
 | .er,x,off,h=>loadL_k h
 | .op _,x,off,h=>loadL_k h
 | .fnc,x,off,h=>loadL_k h
 | .fno,x,off,h=>loadL_k h
where
 loadL_k {ag:Bool} {sz:Nat} {ot:Option (Ty V.ι)} {B:Type} {f:TV V.N->Option B} {b:B} {t:Ty V.ι} {x:den V.N t} {off:Nat} (h:(match uo V ag sz ot t x off with|some v=>f v|none=>none)=some b):
  ∃v,f v=some b/\∃d,dZ ag sz ((bY V.sz V.enc t x).drop off)=some d/\∀ω,aL V ω v= .d d:=by
  split at h
  ·rename_i v hv
   obtain⟨d,h1,h2⟩:=fI (ω:=λ_=>0) hv
   refine⟨v,h,d,h1,λω=> ?_⟩
   obtain⟨d',h1',h2'⟩:=fI (ω:=ω) hv
   rw[h1]at h1';cases h1'
   exact h2'
  ·cases h
theorem vn{t:TypeId}{x:Operand}(ho:o.op= .load t x)(h:zD V P t x S k=some r):OpD P nm o S k r:=by
 unfold zD at h
 split at h
 ·rename_i ag sz ht
  have hop:o.op.operands= #[x]:=by rw[ho];rfl
  split at h
  ·rename_i n s i off hx
   split at h
   ·rename_i m e xs hown
    replace h:=aG h
    obtain⟨⟨e1,e2⟩,h⟩:=h
    replace h:=aG h
    obtain⟨hi,h⟩:=h
    replace h:=b9 h
    obtain⟨y,hy,h⟩:=h
    obtain⟨v,h1,d,h2,h3⟩:=fH (ω:=S.len) _ _ _ h
    subst e1
    refine dG h1 (.ofAVal λρ' ω' hρ hω=> ?_) (h3 _).symm
    have hx':ρ' x= .bp n (i *tsz V.sz e+off):=by rw[hρ x (by rw[hop];simp),aI,hx];rfl
    have ho':ω' n=_:=(hω n (by simp)).trans (pj hown)
    simp only[bN,ho,ht,hx',ho']
    have:=un (rZ hi hy) h2
    rw[abQ]at this
    rw[<-abm,D4 this]
   ·cases h
  ·rename_i n hx
   split at h
   ·rename_i m e xs hown
    replace h:=aG h
    obtain⟨⟨e1,e2,e3⟩,h⟩:=h
    subst e2;subst e3
    refine dG h (.ofAVal (e:={val:= .d (.agg (bY V.sz V.enc (.ar m e) xs)),acc:=[n]}) λρ' ω' hρ hω=> ?_) rfl
    have hx':ρ' x= .bp n 0:=by rw[hρ x (by rw[hop];simp),aI,hx];rfl
    have ho':ω' n=_:=(hω n (by simp)).trans (pj hown)
    simp only[bN,ho,ht,hx',ho']
    have hl:=cB (V:=V) (.ar m e) xs
    rw[aaD,D4 (d:= .agg (bY V.sz V.enc (.ar m e) xs)) (by simp only[dZ];rw[adT (by omega),aaY (by omega)])]
   ·cases h
  ·rename_i n s i off hx
   split at h
   ·rename_i te e xs hown
    replace h:=aG h
    obtain⟨e1,h⟩:=h
    replace h:=b9 h
    obtain⟨y,hy,h⟩:=h
    obtain⟨v,h1,d,h2,h3⟩:=fH (ω:=S.len) _ _ _ h
    subst e1
    refine dG h1 (.ofAVal λρ' ω' hρ hω=> ?_) (h3 _).symm
    have hx':ρ' x= .ep n (tsz V.sz e) i off:=by rw[hρ x (by rw[hop];simp),aI,hx];rfl
    have ho':ω' n=_:=(hω n (by simp)).trans (dH hown)
    simp only[bN,ho,ht,hx',ho',aal,hy,aaK,h2]
    exact⟨trivial,trivial⟩
   ·rename_i te e xs hown
    replace h:=aG h
    obtain⟨e1,h⟩:=h
    replace h:=b9 h
    obtain⟨y,hy,h⟩:=h
    obtain⟨v,h1,d,h2,h3⟩:=fH (ω:=S.len) _ _ _ h
    subst e1
    exact dG h1 (.qload ho ht (by rw[aI,hx];rfl) (sW hown) (r:=bY V.sz V.enc e y) (by rw[aal,hy];rfl) h2) (h3 _).symm
   ·cases h
  ·rename_i t' y off hx
   obtain⟨v,h1,d,h2,h3⟩:=fH (ω:=S.len) _ _ _ h
   refine dG h1 (.ofAVal λρ' ω' hρ hω=> ?_) (h3 _).symm
   have hx':ρ' x= .d (.rp ((bY V.sz V.enc t' y).drop off)):=by rw[hρ x (by rw[hop];simp),aI,hx];rfl
   simp only[bN,ho,ht,hx',h2]
  ·cases h
 ·cases h
theorem xd{n:Nat}{o':TO V.N}{x:Own}{l:List Nat}(hx:∀ω,cq V ω o'=some x)(hl:TO.len (some o')=S.len n)(hk:k {val:= .junk,acc:=l,upd:=[(n,o')]}=some r)
 (h:aW P nm o (Go.Awp.ev (a_ V S)) (a_ V S).own? {val:= .junk,acc:=l,upd:=[(n,some x)]}):OpD P nm o S k r:=by
 refine⟨_,hk,λm o1 hm=> ?_,_, .sem h,cW rfl rfl (by simp[hx]) rfl⟩
 simp only[aH]at hm
 split at hm
 ·rename_i e;right;simp at hm;subst hm;subst e;exact hl
 ·simp[gt]at hm
theorem sT{d:Nat}{v:TV V.N}{h:H}{o':TO V.N}{x:Own}{l:List Nat}(hx:∀ω,cq V ω o'=some x)(hv:∀ω:Nat->Nat,ω d=TO.len (some o')->aL V ω v=h)(hk:k {val:=v,acc:=l,upd:=[(d,o')],new:=[d]}=some r)
 (hs:aW P nm o (Go.Awp.ev (a_ V S)) (a_ V S).own? {val:=h,acc:=l,upd:=[(d,some x)],new:=[d]}):OpD P nm o S k r:=by
 refine⟨_,hk,λm o1 hm=> ?_,_, .sem hs,cW (hv _ ?_).symm rfl (by simp[hx]) rfl⟩
 ·simp only[aH]at hm
  split at hm
  ·rename_i e;left;simp[e]
  ·simp[gt]at hm
 ·rw[d6];simp[aH]
theorem B7{t:TypeId}{x y:Operand}(ho:o.op= .store t x y)(h:xR V P t x y S k=some r):OpD P nm o S k r:=by
 unfold xR at h
 split at h
 ·rename_i ag sz cs ht hcs
  have hop:o.op.operands= #[x,y]:=by rw[ho];rfl
  have hyc:=dR (ω:=S.len) hcs
  split at h
  ·rename_i n s i hx
   split at h
   ·rename_i m e xs hown
    replace h:=aG h
    obtain⟨⟨e1,e2,e3,e4⟩,h⟩:=h
    replace h:=aG h
    obtain⟨hi,h⟩:=h
    replace h:=aG h
    obtain⟨hil,h⟩:=h
    split at h
    ·rename_i z hz
     obtain⟨ds,d1,_,d3⟩:=ek (ω:=S.len) hz
     replace d3:=d3 rfl
     subst d3
     refine xd (x:= .box none ((bY V.sz V.enc (.ar m e) (xs.set i z)).map .d)) (λω=>rfl) (by rw[D1 hown];rfl) h (.ofAVal λρ' ω' hρ hω=> ?_)
     have hx':ρ' x= .bp n (i *s+0):=by rw[hρ x (by rw[hop];simp),aI,hx];rfl
     have hy':(ρ' y).cells=some (encL V S.len cs):=by rw[hρ y (by rw[hop];simp),aI];exact hyc
     have ho':ω' n=_:=(hω n (by simp)).trans (pj hown)
     simp only[bN,ho,ht,hx',hy',ho',bF]
     have hl:=cB (V:=V) (.ar m e) xs
     have m1:(i+1) *tsz V.sz e<=m *tsz V.sz e:=aaE _ hi
     rw[aaX]at m1
     have hl2:(bY V.sz V.enc (.ar m e) xs).length=m *tsz V.sz e:=hl
     subst e1
     refine⟨⟨e2,ft e4,by rw[aam,hl2];omega⟩,?_⟩
     have hzl:=cB (V:=V) e z
     rw[Cl hi hil,eK,bF,d1]
     simp only[aba,abl,abm,abq]
     have:cs.length=tsz V.sz e:=by omega
     rw[this]
    ·cases h
   ·cases h
  ·rename_i n hx
   split at h
   ·rename_i m e xs m' e' ys hown hy
    replace h:=aG h
    obtain⟨⟨e1,e2,e3⟩,h⟩:=h
    subst e1;subst e2
    rw[hy]at hcs
    simp only[TV.cells,aah]at hcs
    subst hcs
    have he:encL V S.len ((bK V (.ar m' e') ys).map λl=>TV.lf l.t l.x)=(bY V.sz V.enc (.ar m' e') ys).map H.d:=by
     rw[cZ,aU,aaV,aaV]
     exact aaO λl _=>by simp[aL]
    rw[he]at hyc
    refine xd (x:= .box none ((bY V.sz V.enc (.ar m' e') ys).map .d)) (λω=>rfl) (by rw[D1 hown];rfl) h (.ofAVal λρ' ω' hρ hω=> ?_)
    have hx':ρ' x= .bp n 0:=by rw[hρ x (by rw[hop];simp),aI,hx];rfl
    have hy':(ρ' y).cells=some ((bY V.sz V.enc (.ar m' e') ys).map H.d):=by rw[hρ y (by rw[hop];simp),aI];exact hyc
    have ho':ω' n=_:=(hω n (by simp)).trans (pj hown)
    simp only[bN,ho,ht,hx',hy',ho']
    have hl:=cB (V:=V) (.ar m' e') ys
    have hl2:=cB (V:=V) (.ar m' e') xs
    refine⟨⟨by rw[aam,hl,e3],?_,by rw[aam,hl2,e3];omega⟩,?_⟩
    ·rw[ab_]
     exact xg
    ·simp only[eK,acz,aat,aam,aao]
     rw[adn (by rw[aam];omega),ace]
   ·cases h
  ·cases h
 ·cases h
theorem SH{a b:Value}(h:zeq a b=true):a=b:=by
 unfold zeq at h
 split at h
 ·simp only[aan,adR]at h
  rw[h.1,h.2]
 ·rename_i a b
  have:a=b:=by simpa using h
  rw[this]
 ·rfl
 ·simp only[adR]at h;rw[h]
 ·cases h
theorem Gv:∀{a b:List Value},Tj a b=true->a=b
 |[],[],_=>rfl
 |a::r,b::s,h=>by
  simp only[Tj,aan]at h
  rw[SH h.1,Gv h.2]
 |[],_::_,h=>by cases h
 |_::_,[],h=>by cases h
theorem BS{t:TypeId}(ho:o.op= .alloc t)(h:xE V P nm t o.dst k=some r):OpD P nm o S k r:=by
 unfold xE at h
 split at h
 ·rename_i n e z d hty hz hd
  split at h
  ·rename_i y hy
   replace h:=aG h
   obtain⟨⟨h1,h2,h3⟩,h⟩:=h
   obtain⟨ds,d1,_,d3⟩:=ek (ω:=S.len) hy
   replace d3:=d3 rfl
   subst d3
   have h3:=Gv h3
   have hrow:bY V.sz V.enc e y=(z.take (tsz V.sz e)).map .v:=by
    apply kG
    rw[<-d1,aU]
    simp only[aaV]
    refine(aaO λu hu=> ?_)
    have:d9 u=true:=aav.1 h1 u (abh hu)
    simp only[abX,xS]
    cases u<;>first|rfl|cases this
   have harr:bY V.sz V.enc (.ar n e) (aaA n y)=z.map .v:=by
    simp only[bY,arL,ab3]
    have hl:=cB (V:=V) e y
    rw[abS (by rw[hU (s:=tsz V.sz e) (λr hr=>by rw[(ac3.1 hr).2];exact hl),aa5];exact aaJ _),
     aaY (by rw[hU (s:=tsz V.sz e) (λr hr=>by rw[(ac3.1 hr).2];exact hl),aa5];exact aaJ _)]
    rw[h3,List.map_flatten,ab3,hrow]
   refine sT (h:= .bp (nm d) 0) (x:= .box none ((bY V.sz V.enc (.ar n e) (aaA n y)).map .d)) (λω=>rfl) (λω _=>rfl) h (.ofAVal λρ' ω' hρ hω=> ?_)
   simp only[bN,ho,hz,hd,h2]
   rw[harr,aaV]
   try rfl
  ·cases h
 ·cases h
theorem JP{t:TypeId}{x:Operand}(ho:o.op= .box t x)(h:OE V nm x o.dst S k=some r):OpD P nm o S k r:=by
 unfold OE at h
 split at h
 ·rename_i n e xs d hx hd
  refine sT (h:= .bp (nm d) 0) (x:= .box none ((bY V.sz V.enc (.ar n e) xs).map .d)) (λω=>rfl) (λω _=>rfl) h (.ofAVal λρ' ω' hρ hω=> ?_)
  have hx':ρ' x= .d (.agg (bY V.sz V.enc (.ar n e) xs)):=by rw[hρ x (by rw[ho];simp[Op.operands]),aI,hx];rfl
  simp only[bN,ho,hx',H.cells,hd]
  exact⟨none, .inl rfl,rfl⟩
 ·cases h
theorem JY{x:Operand}(ho:o.op= .nilCheck x)(h:OO V x S k=some r):OpD P nm o S k r:=by
 unfold OO at h
 split at h
 ·rename_i e y hx
  replace h:=b9 h
  obtain⟨z,rfl,h⟩:=h
  refine dG h (.ofAVal (e:={val:= .d (.rp (bY V.sz V.enc e z))}) λρ' ω' hρ hω=> ?_) (by simp[aL])
  have hx':ρ' x= .d (.rp (bY V.sz V.enc e z)):=by rw[hρ x (by rw[ho];simp[Op.operands]),aI,hx];rfl
  simp only[bN,ho,hx']
 ·cases h
def iU{ι:Type}{N:ι->Type}:dV N->Value
 |⟨.int k,n⟩=> .int k n
 |⟨.bool,b⟩=> .bool b
 |⟨.str,s⟩=> .string s
 |_=> .nilIface
theorem kC:∀{ls:List (dV V.N)} {ks:List CK},eF V (ls.map λl=>l.t)=some ks->(ls.map λl=>bC V.sz V.enc l.t l.x)=(ls.map iU).map .v/\hH ks (ls.map iU)=true
 |[],ks,h=>by simp[eF]at h;subst h;exact⟨rfl,rfl⟩
 |⟨t,x⟩::r,ks,h=>by
  simp only[aas,eF]at h
  split at h
  ·rename_i k l hl
   simp at h;subst h
   obtain⟨h1,h2⟩:=kC hl
   exact⟨by simp only[aas,h1];rfl,by simp[hH,iU,CK.is,h2]⟩
  ·rename_i l hl
   simp at h;subst h
   obtain⟨h1,h2⟩:=kC hl
   exact⟨by simp only[aas,h1];rfl,by simp[hH,iU,CK.is,h2]⟩
  ·rename_i l hl
   simp at h;subst h
   obtain⟨h1,h2⟩:=kC hl
   exact⟨by simp only[aas,h1];rfl,by simp[hH,iU,CK.is,h2]⟩
  ·cases h
theorem eo(x y:ByteArray):(x==y)=true↔x=y:=by
 obtain⟨a⟩:=x
 obtain⟨b⟩:=y
 show(a==b)=true↔_
 simp
theorem MY{t:Ty V.ι}{x y:den V.N t}(ht:t.flat0=true):oE (iU (⟨t,x⟩:dV V.N)) (iU ⟨t,y⟩)=SP (⟨t,x⟩:dV V.N) ⟨t,y⟩:=by
 cases t with
 |int k=>rfl
 |bool=>rfl
 |str=>
  simp only[iU,SP,Mp.seq]
  rw[Bool.eq_iff_iff,qJ (k:= .str) rfl rfl]
  have e1:(Value.string x=Value.string y)↔(x=y):=by simp
  exact e1.trans (eo x y).symm
 |_=>cases ht
theorem Dv:∀{ls ls':List (dV V.N)} {ks:List CK},eF V (ls.map λl=>l.t)=some ks->eF V (ls'.map λl=>l.t)=some ks->(ls.map λl=>l.t)=(ls'.map λl=>l.t)->cX (ls.map iU) (ls'.map iU)=Du ls ls'
 |[],[],_,_,_,_=>rfl
 |[],_::_,_,_,_,h=>by simp at h
 |_::_,[],_,_,_,h=>by simp at h
 |⟨t,x⟩::r,⟨t',y⟩::r',ks,h1,h2,h=>by
  simp only[aas,aa8]at h
  obtain⟨rfl,h⟩:=h
  have tl:∀{t:Ty V.ι} {ts:List (Ty V.ι)} {ks:List CK},eF V (t::ts)=some ks->t.flat0=true/\∃ks',eF V ts=some ks':=by
   intro t ts ks h
   simp only[eF]at h
   split at h<;>first|(exact⟨rfl,_,‹_›⟩)|cases h
  simp only[aas]at h1 h2
  obtain⟨f1,k1,g1⟩:=tl h1
  obtain⟨f2,k2,g2⟩:=tl h2
  have g3:=g2
  rw[<-h]at g3
  have ih:=Dv (ks:=k1) g1 (by rw[<-h];exact g1) h
  have he:=MY (V:=V) (x:=x) (y:=y) f1
  simp only[aas,cX,he,ih]
  cases r with
  |nil=>
   cases r' with
   |nil=>simp[Du]
   |cons b s=>simp at h
  |cons a q=>
   cases r' with
   |nil=>simp at h
   |cons b s=>simp[Du]
theorem ef{i:V.ι}{a:V.N i}{ks:List CK}(h:eF V (V.tys i)=some ks):V.enc i a=((V.cells i a).map iU).map .v/\hH ks ((V.cells i a).map iU)=true:=by
 rw[<-V.tys_cells i a]at h
 rw[V.enc_cells]
 exact kC h
theorem yK{i:V.ι}{a b:V.N i}{ks:List CK}(h:eF V (V.tys i)=some ks):cX ((V.cells i a).map iU) ((V.cells i b).map iU)=Du (V.cells i a) (V.cells i b):=
 Dv (ks:=ks) (by rw[V.tys_cells];exact h) (by rw[V.tys_cells];exact h) (by rw[V.tys_cells,V.tys_cells])
theorem JR{op:BinOp}{xt yt:TypeId}{x y:Operand}(ho:o.op= .binOp op xt x y yt)(h:OH V P op xt x y S k=some r):OpD P nm o S k r:=by
 unfold OH at h
 split at h
 ·rename_i q e a hq hx hy
  split at h
  ·rename_i hp
   have key:∀b:Bool,k {val:= .lf .bool (if q=true then b else !b)}=some r->nQ P xt (bC V.sz V.enc (.op e) a) (.v (.pointer none)) b->OpD P nm o S k r:=λb hk hc=>
    dG hk (.cmp ho hq (by rw[aI,hx];rfl) (by rw[aI,hy];rfl) hc) rfl
   have hc:nQ P xt (bC V.sz V.enc (.op e) a) (.v (.pointer none)) a.isNone:=by
    cases a with
    |none=>exact .pn hp
    |some z=>exact .rp hp
   refine key _ ?_ hc
   split at h<;>cases a<;>exact h
  ·cases h
 ·rename_i q a hq hx hy
  split at h
  ·rename_i hp
   have hp':∃x y z,P.underlying xt=some (.func x y z):=by
    unfold QK at hp
    split at hp
    ·exact⟨_,_,_,‹_›⟩
    ·cases hp
   have key:∀b:Bool,k {val:= .lf .bool (if q=true then b else !b)}=some r->nQ P xt (bC V.sz V.enc .fno a) (.v .nilFunc) b->OpD P nm o S k r:=λb hk hc=>
    dG hk (.cmp ho hq (by rw[aI,hx];rfl) (by rw[aI,hy];rfl) hc) rfl
   have hc:nQ P xt (bC V.sz V.enc .fno a) (.v .nilFunc) (Option.isNone (α:=Nat) a):=by
    cases a with
    |none=>exact .nf hp'
    |some z=>exact .fn hp'
   refine key _ ?_ hc
   split at h<;>cases a<;>exact h
  ·cases h
 ·rename_i q i a j b hq hx hy
  replace h:=aG h
  obtain⟨⟨e1,hs,hg,hf,hks⟩,h⟩:=h
  subst e1
  obtain⟨ks,hks'⟩:=acH.1 hf
  rw[hks']at hks
  obtain⟨a1,a2⟩:=ef (a:=a) hks
  obtain⟨b1,b2⟩:=ef (a:=b) hks
  have hs':∃fs,P.underlying xt=some (.struct fs):=by
   unfold DT at hs
   split at hs
   ·exact⟨_,‹_›⟩
   ·cases hs
  have hc:nQ P xt (.agg (V.enc i a)) (.agg (V.enc i b)) (Du (V.cells i a) (V.cells i b)):=by
   rw[a1,b1,<-yK hks]
   exact .st hs' hg (by decide) hks' a2 b2
  have key:k {val:= .lf .bool (if q=true then Du (V.cells i a) (V.cells i b)else !Du (V.cells i a) (V.cells i b))}=some r->OpD P nm o S k r:=λhk=>
   dG hk (.cmp ho hq (by rw[aI,hx,jV]) (by rw[aI,hy,jV]) hc) rfl
  refine key ?_
  split at h<;>exact h
 ·cases h
theorem Ck{n sz i:Nat}(h:i<n):(zZ n sz)[i]?=some (i *sz,sz):=by
 unfold zZ
 rw[aal,abB h];rfl
theorem M4{ω:Nat->Nat}(e:Ty V.ι)(v:TV V.N):aL V ω (fnF V e v)=aL V ω v:=by
 unfold fnF
 split
 ·cases e<;>rfl
 ·rfl
theorem xq{α:Type}:∀(l:List α) (i:Nat) (x:α),Rm l i x=l.set i x
 |[],_,_=>rfl
 |_::_,0,_=>rfl
 |a::r,i+1,x=>by rw[Rm,xq r i x];rfl
theorem lZ{ω:Nat->Nat}{z:List Value}(h:z.all d9=true):encL V ω (z.map tvc)=z.map λx=>H.d (.v x):=by
 rw[aU]
 simp only[aaV]
 refine aaO λu hu=> ?_
 have:d9 u=true:=aav.1 h u hu
 simp only[abX,xS]
 cases u<;>first|rfl|cases this
theorem rn{ω:Nat->Nat}{n:Nat}{e:Ty V.ι}:∀{parts:List (Nat×TV V.N)} {ys ys':List (den V.N e)},Rk V e ys parts=some ys'->ys.length=n->
 oG (zZ n (tsz V.sz e)) ((bY V.sz V.enc (.ar n e) ys).map .d) (parts.map λp=>(p.1,aL V ω p.2))=some ((bY V.sz V.enc (.ar n e) ys').map .d)
 |[],ys,ys',h,_=>by
  simp only[Rk,aah]at h
  subst h;rfl
 |(i,x)::r,ys,ys',h,hn=>by
  simp only[Rk]at h
  replace h:=aG h
  obtain⟨hi,h⟩:=h
  split at h
  ·rename_i y hy
   obtain⟨cs,ds,h1,h2,_,h4⟩:=oB (ω:=ω) hy
   replace h4:=h4 rfl
   subst h4
   have hc:=dR (ω:=ω) h1
   have hl:=cB (V:=V) e y
   have hcl:cs.length=tsz V.sz e:=by
    have:=congrArg acD h2
    rw[bF,aam,hl]at this;exact this
   have hL:=cB (V:=V) (.ar n e) ys
   have hL2:(bY V.sz V.enc (.ar n e) ys).length=n *tsz V.sz e:=hL
   have m1:(i+1) *tsz V.sz e<=n *tsz V.sz e:=aaE _ (by omega)
   rw[aaX]at m1
   rw[xq]at h
   have ih:=rn (ω:=ω) (n:=n) h (by rw[aa7];exact hn)
   simp only[aas,oG,Ck (by omega:i<n),hc]
   rw[adT ⟨by rw[bF];exact hcl,by rw[aam,hL2];omega⟩,<-ih]
   congr 1
   rw[eK,bF,hcl,h2,Cl (by omega) hi]
   simp only[aba,abl,abm]
  ·cases h
theorem BT{t:TypeId}{parts:Array (Nat×Operand)}(ho:o.op= .build t parts)(h:xF V P t parts.toList S k=some r):OpD P nm o S k r:=by
 unfold xF at h
 split at h
 ·rename_i n e len te ag sz z hty ht hz
  split at h
  ·rename_i ys0 hys0
   replace h:=aG h
   obtain⟨⟨⟨e1,e2⟩,e3,e4⟩,h⟩:=h
   split at h
   ·rename_i ys hys
    subst e1;subst e2
    obtain⟨ds,d1,_,d3⟩:=ek (ω:=S.len) hys0
    replace d3:=d3 rfl
    subst d3
    rw[lZ e3]at d1
    have hf:=rn (ω:=S.len) (n:=n) hys e4
    have hp:((parts.toList.map λ(i,x)=>(i,fnF V e (fnT (tev S x)))).map λp=>(p.1,aL V S.len p.2))=parts.toList.map λ(i,x)=>(i,fnD (Go.Awp.ev (a_ V S) x)):=by
     rw[aaV]
     refine aaO λp _=> ?_
     simp only[abX,M4,sj,aI]
    rw[hp,<-d1]at hf
    refine dG h (.buildArr ho ht hz hf) ?_
    rw[cN,dW,KT]
   ·cases h
  ·cases h
 ·cases h
theorem BU{t:TypeId}{parts:Array (Nat×Operand)}(ho:o.op= .build t parts)(h:xG V P t parts.toList S k=some r):OpD P nm o S k r:=by
 unfold xG at h
 split at h
 ·rename_i z pl hz hpl
  replace h:=aG h
  obtain⟨hzc,h⟩:=h
  split at h
  ·rename_i cs hcs
   have hf:=hG (ω:=S.len) hcs
   have hp:((parts.toList.map λ(i,x)=>(i,fnT (tev S x))).map λp=>(p.1,aL V S.len p.2))=parts.toList.map λ(i,x)=>(i,fnD (Go.Awp.ev (a_ V S) x)):=by
    rw[aaV]
    refine aaO λp _=> ?_
    simp only[abX,sj,aI]
   rw[hp,lZ hzc]at hf
   exact dG h (.buildSt ho hz hpl hf) (iZ.2 rfl)
  ·cases h
 ·cases h
theorem oO:∀{l:List (TV V.N)} {j i:Nat},uh V j l=some i->j<=i/\l[i-j]?=some (.raw (.slice none 0 0))
 |[],_,_,h=>by simp[uh]at h
 |x::r,j,i,h=>by
  simp only[uh]at h
  split at h
  ·simp only[aah]at h
   subst h
   exact⟨aaJ _,by simp⟩
  ·obtain⟨h1,h2⟩:=oO h
   refine⟨by omega,?_⟩
   have:i-j=(i-(j+1))+1:=by omega
   rw[this]
   simpa using h2
theorem BV{t:TypeId}{parts:Array (Nat×Operand)}(ho:o.op= .build t parts)(h:xH V P t parts.toList o.dst S k=some r):OpD P nm o S k r:=by
 unfold xH at h
 split at h
 ·rename_i z pl s d hz hpl hty hd
  replace h:=aG h
  obtain⟨hzc,h⟩:=h
  split at h
  ·rename_i cs hcs
   split at h
   ·rename_i j hj
    split at h
    ·rename_i e he
     split at h
     ·rename_i hno
      rw[xq]at h
      have hf:=hG (ω:=S.len) hcs
      have hp:((parts.toList.map λ(i,x)=>(i,tev S x)).map λp=>(p.1,aL V S.len p.2))=parts.toList.map λ(i,x)=>(i,Go.Awp.ev (a_ V S) x):=by
       rw[aaV]
       refine aaO λp _=> ?_
       simp only[abX,aI]
      rw[hp,lZ hzc]at hf
      have hjc:cs[j]?=some (.raw (.slice none 0 0)):=by have:=(oO hj).2;simpa using this
      have base:aW P nm o (Go.Awp.ev (a_ V S)) (a_ V S).own? {val:=cN (encL V S.len cs)}:= .ofAVal λρ' ω' hρ hω=>by
       have hpp:(parts.toList.map λ(i,x)=>(i,ρ' x))=parts.toList.map λ(i,x)=>(i,Go.Awp.ev (a_ V S) x):=by
        refine aaO λp hp=> ?_
        have:ρ' p.2=_:=hρ p.2 (by rw[ho];simp only[Op.operands];simpa using ⟨p.1,by simpa using hp⟩)
        simp only[this]
       simp only[bN,ho,hz,hpl,hpp,hf]
      refine⟨_,h,λm o1 hm=> ?_,_, .sem (.nilTop (nn:=53000+d) (e:=V.tid e) (sz:=tsz V.sz e) (i:=j) hd (by rw[aU,aal,hjc];rfl) (by rw[encL_has];exact hno) base),cW ?_ rfl rfl rfl⟩
      ·simp only[aH]at hm
       split at hm
       ·rename_i q;left;simp[q]
       ·simp[gt]at hm
      ·simp only[aL]
       congr 1
       rw[aU _ (cs.set j _),abT]
       congr 1
       ·rw[<-aU]
        refine(encL_congr cs λq hq=> ?_).symm
        rw[d6]
        simp only[aH]
        rw[adS λe0=>by rw[<-e0,hno]at hq;cases hq]
        rfl
       ·simp only[aL]
        rw[d6]
        simp only[aH,adP]
        rfl
     ·cases h
    ·cases h
   ·cases h
  ·cases h
 ·cases h
end
end Go.Tx
end
section
namespace Go.Tx
open Go.Awp
variable [Inhabited GMem]
section
variable (V:iH) (P:Program) (nm:Nat->Nat)
def bR(d:Nat):Nat:=50000+d
def kA(kt:TypeId):Ty V.ι->Bool
 | .st i=>DT P kt&&match iO P 100 kt with
  |some ks=>decide (eF V (V.tys i)=some ks)
  |none=>false
 |tk=>fm (P.underlying kt) tk
def qq{B:Type}(S:TS V.N)(n:Nat)(f:(m:Nat)->TypeId->(tk tv:Ty V.ι)->List (Option (List (den V.N tk×den V.N tv)))->Nat->List (den V.N tk×den V.N tv)->Option B):Option B:=match S.own? n with
 |some (.alias m)=>match S.own? m with
  |some (.maps te tk tv es (some (n',i)))=>if n'=n/\¬n=m then es[i]?>>=λo=>o>>=λm0=>f m te tk tv es i m0 else none
  |_=>none
 |_=>none
def Hx{B:Type}(c:Bool)(tk tv:Ty V.ι)(key:den V.N tk)(z:den V.N tv)(es:List (den V.N tk×den V.N tv))(f:TV V.N->B):B:=match c with
 |true=>f (.tup [.lf tv ((Mp.get (keq V.cells tk) key es).getD z), .lf .bool (Mp.get (keq V.cells tk) key es).isSome])
 |false=>f (.lf tv ((Mp.get (keq V.cells tk) key es).getD z))
def Gg{A:Type}(t:TypeId)(x i:Operand)(c:Bool)(S:TS V.N)(k:TE V.N->Option A):Option A:=match P.underlying t,tev S x,tev S i with
 |some (.map kt et), .mp n, .lf tk key=>match lY P et with
  |some d=>match S.own? n with
   |some (.map tk' tv es)=>match ofZ V true tv d with
    |some z=>if h:tk=tk' then if kA V P kt tk'=true then Hx V c tk' tv (h▸key) z es λv=>k {val:=v,acc:=[n]}else none else none
    |none=>none
   |_=>qq V S n λm te tk' tv es j m0=>match ofZ V true tv d with
    |some z=>if h:tk=tk' then if kA V P kt tk'=true then Hx V c tk' tv (h▸key) z m0 λv=>k {val:=v,acc:=[m,n],upd:=[(m, .maps te tk' tv es (some (n,j))),(n, .alias m)]}else none else none
    |none=>none
  |none=>none
 |_,_,_=>none
def Kd{A:Type}(t:TypeId)(x i y:Operand)(S:TS V.N)(k:TE V.N->Option A):Option A:=match P.underlying t,tev S x,tev S i,tev S y with
 |some (.map kt _), .mp n, .lf tk key, .lf tv z=>match S.own? n with
  |some (.map tk' tv' es)=>if h:tk=tk' then
   if h':tv=tv' then
    if kA V P kt tk'=true then k {val:= .junk,acc:=[n],upd:=[(n, .map tk' tv' (Mp.set (keq V.cells tk') (klt tk') (h▸key) (h'▸z) es))]}else none
   else none
   else none
  |_=>qq V S n λm te tk' tv' es j m0=>if h:tk=tk' then
   if h':tv=tv' then
    if kA V P kt tk'=true then k {val:= .junk,acc:=[m,n],upd:=[(m, .maps te tk' tv' (es.set j (some (Mp.set (keq V.cells tk') (klt tk') (h▸key) (h'▸z) m0))) (some (n,j))),(n, .alias m)]}else none
   else none
   else none
 |_,_,_,_=>none
def OM{A:Type}(args:List (TV V.N))(tys:List TypeId)(S:TS V.N)(k:TE V.N->Option A):Option A:=match args with
 |[.mp n]=>if dI P tys=3 then qq V S n λm te tk tv es j m0=>k {val:= .lf (.int .i64) m0.length,acc:=[m,n],upd:=[(m, .maps te tk tv es (some (n,j))),(n, .alias m)]}else none
 |_=>none
def xN{A:Type}(t:TypeId)(x:Operand)(dst:Option Tmp)(S:TS V.N)(k:TE V.N->Option A):Option A:=match P.underlying t,tev S x,dst with
 |some (.map _ _), .mp n,some d=>qq V S n λm te tk tv es j m0=>
  if¬bR d=n/\¬bR d=m then k {val:= .bp (bR d) 0,acc:=[m,n],upd:=[(bR d, .miter n tk tv m0 m0 none),(n, .gone 0),(m, .maps te tk tv (es.set j none) none)],new:=[bR d]}else none
 |_,_,_=>none
def tf{A:Type}(t:TypeId)(x i:Operand)(S:TS V.N)(k:TE V.N->Option A):Option A:=match cI P t,tev S x,tev S i with
 |some (_,sz,_), .vh m, .lf (.int _) n=>match S.own? m with
  |some (.maps _ _ _ es _)=>if 0<=n/\n<es.length then k {val:= .ep m sz n.toNat 0,acc:=[m]}else none
  |some (.que _ _ xs)=>if 0<=n/\n<xs.length then k {val:= .ep m sz n.toNat 0,acc:=[m]}else none
  |_=>none
 |_,_,_=>none
def pS{A:Type}(t:TypeId)(x:Operand)(dst:Option Tmp)(S:TS V.N)(k:TE V.N->Option A):Option A:=match cU P t,tev S x,dst with
 |some (false,1), .ep m 1 i 0,some d=>match S.own? m with
  |some (.maps te tk tv es _)=>es[i]?>>=λo=>o>>=λ_=>if¬bR d=m then k {val:= .mp (bR d),acc:=[m],upd:=[(m, .maps te tk tv es (some (bR d,i))),(bR d, .alias m)],new:=[bR d]}else none
  |_=>none
 |_,_,_=>none
def lW{A:Type}(t:TypeId)(x y:Operand)(S:TS V.N)(k:TE V.N->Option A):Option A:=match cU P t,tev S x,tev S y with
 |some (_,1), .ep m 1 i 0, .mp n=>match S.own? m,S.own? n with
  |some (.maps te tk tv es _),some (.map tk' tv' e0)=>if h:tk'=tk/\tv'=tv then
   if i<es.length/\¬n=m then k {val:= .junk,acc:=[m,n],upd:=[(m, .maps te tk tv (es.set i (some (h.1▸h.2▸e0))) none),(n, .gone 0)]}else none
   else none
  |_,_=>none
 |_,_,_=>none
def pR{A:Type}(t:TypeId)(l c:Operand)(dst:Option Tmp)(S:TS V.N)(k:TE V.N->Option A):Option A:=match V.ty t,cI P t,dst with
 |some (.sl (.mp tk tv)),some (te,1,bytes),some d=>match iE P te,tev S l,tev S c with
  |some [_], .lf (.int _) _, .lf (.int _) m=>match rm l c with
   |true=>if bytes<=32768 then if 0<=m then if m<=4294967296 then k {val:= .vh (bR d),upd:=[(bR d, .maps te tk tv (aaA m.toNat none) none)],new:=[bR d]}else none else none else none
   |false=>none
  |_,_,_=>none
 |_,_,_=>none
def xI{A:Type}(t:TypeId)(len:Nat)(parts:List (Nat×Operand))(dst:Option Tmp)(S:TS V.N)(k:TE V.N->Option A):Option A:=match cI P t,V.ty t,dst with
 |some (te,sz,_),some (.sl e),some d=>if sz=tsz V.sz e/\parts.length=len/\len *sz<=16777216/\0<len then
  match Br V true e 0 (parts.map λ(i,x)=>(i,fnT (tev S x)))with
  |some ys=>k {val:= .vh (bR d),upd:=[(bR d, .que te e ys)],new:=[bR d]}
  |none=>none
  else none
 |_,_,_=>none
def xQ{A:Type}(t:TypeId)(x:Operand)(lo hi mx:Option Operand)(dst:Option Tmp)(S:TS V.N)(k:TE V.N->Option A):Option A:=match mx,cI P t,dst,tev S x with
 |none,some (_,sz,_),some d, .vh m=>match lo,hi,S.own? m with
  |some l,none,some (.que te e xs)=>match tev S l with
   | .lf (.int _) n=>if sz=tsz V.sz e then if 0<=n then if n<=xs.length then k {val:= .vh (bR d),acc:=[m],upd:=[(bR d, .que te e (xs.drop n.toNat)),(m, .gone (S.len m))],new:=[bR d]}else none else none else none
   |_=>none
  |none,some h,some (.vec te e xs)=>match tev S h with
   | .lf (.int _) n=>if 0<=n then if n<=xs.length then k {val:= .vh (bR d),acc:=[m],upd:=[(bR d, .vec te e (xs.take n.toNat)),(m, .gone (S.len m))],new:=[bR d]}else none else none
   |_=>none
  |_,_,_=>none
 |_,_,_,_=>none
def OD{A:Type}(args:List (TV V.N))(tys:List TypeId)(dst:Option Tmp)(S:TS V.N)(k:TE V.N->Option A):Option A:=match args,tys,dst with
 |[x,y],[t,t'],some d=>match cI P t with
  |some (te,sz,bytes)=>if t=t'/\bytes<=32768 then match y with
   | .lf (.sl e') (y0::ys)=>match x with
    | .vh n=>match S.own? n with
     |some (.que te2 e xs)=>if h:e'=e then
      if te=te2/\sz=tsz V.sz e then
       if xs.length+(y0::ys).length<=most then k {val:= .vh (bR d),acc:=[n],upd:=[(bR d, .que te e (xs++h▸(y0::ys))),(n, .gone (S.len n))],new:=[bR d]}else none
      else none
      else none
     |_=>none
    |_=>none
   | .sv m sz2 lo len=>match S.own? m with
    |some (.vec _ e2 xs2)=>if sz=tsz V.sz e2/\sz2=sz then
     if lo+len<=xs2.length then match x with
      | .vh n=>match S.own? n with
       |some (.vec te1 e xs)=>if h:e2=e then
        if te=te1/\¬n=m then
         if xs.length+len<=most then k {val:= .vh (bR d),acc:=[m,n],upd:=[(bR d, .vec te e (xs++h▸(xs2.drop lo).take len)),(n, .gone (S.len n))],new:=[bR d]}else none
        else none
        else none
       |_=>none
      | .raw (.slice none 0 0)=>if len<=most then k {val:= .vh (bR d),acc:=[m],upd:=[(bR d, .vec te e2 ((xs2.drop lo).take len))],new:=[bR d]}else none
      |_=>none
     else none
     else none
    |_=>none
   |_=>none
   else none
  |none=>none
 |_,_,_=>none
def Gd{A:Type}(args:List (TV V.N))(tys:List TypeId)(S:TS V.N)(k:TE V.N->Option A):Option A:=match args,tys with
 |[.vh m,y],t::_=>match cI P t,S.own? m with
  |some (te,sz,_),some (.vec te1 e xs)=>if te=te1/\sz=tsz V.sz e then match y with
   | .sv m2 sz2 lo len=>match S.own? m2 with
    |some (.vec _ e2 xs2)=>if h:e2=e then
     if sz2=sz/\¬m2=m then
      if lo+len<=xs2.length then k {val:= .lf (.int .i64) (min len xs.length:Nat),acc:=[m,m2],upd:=[(m, .vec te e (((h▸(xs2.drop lo).take len).take xs.length)++xs.drop len))]}else none
     else none
     else none
    |_=>none
   | .lf (.sl e2) ys=>if h:e2=e then k {val:= .lf (.int .i64) (min ys.length xs.length:Nat),acc:=[m],upd:=[(m, .vec te e (((h▸ys).take xs.length)++xs.drop ys.length))]}else none
   |_=>none
   else none
  |_,_=>none
 |_,_=>none
def OG{A:Type}(x:Operand)(S:TS V.N)(k:TE V.N->Option A):Option A:=match tev S x with
 | .lf (.st i) y=>k {val:= .lf (.op (.st i)) (some y)}
 |_=>none
end
section
variable {V:iH} {P:Program} {nm:Nat->Nat} {o:Oper} {S:TS V.N} {A:Type} {k:TE V.N->Option A} {r:A}
theorem Ho{t:TypeId}(h:DT P t=true):∃fs,P.underlying t=some (.struct fs):=by
 unfold DT at h
 split at h
 ·exact⟨_,‹_›⟩
 ·cases h
theorem sw{kt:TypeId}{i:V.ι}(h:kA V P kt (.st i)=true):∃fs ks,P.underlying kt=some (.struct fs)/\iO P 100 kt=some ks/\eF V (V.tys i)=some ks:=by
 simp only[kA,aan]at h
 obtain⟨fs,hfs⟩:=Ho h.1
 have h2:=h.2
 split at h2
 ·rename_i ks hks
  exact⟨fs,ks,hfs,hks,by simpa using h2⟩
 ·cases h2
theorem Kf(xs:List Value):(xs.map D.v).map Xl=xs:=by
 rw[aaV]
 exact(aaO λx _=>rfl).trans (List.map_id xs)
theorem oT{kt:TypeId}{i:V.ι}(h:kA V P kt (.st i)=true)(x:V.N i):V.enc i x=((V.cells i x).map iU).map .v/\eA V.enc (.st i) x= .agg ((V.cells i x).map iU).toArray:=by
 obtain⟨fs,ks,h1,h2,h3⟩:=sw h
 obtain⟨a1,a2⟩:=ef (a:=x) h3
 refine⟨a1,?_⟩
 simp only[eA]
 rw[a1,Kf]
theorem iT{kt:TypeId}{tk:Ty V.ι}(h:kA V P kt tk=true):(∃i,tk= .st i)\/∃kind,P.underlying kt=some kind/\fm (some kind) tk=true:=by
 cases tk with
 |st i=>exact .inl ⟨i,rfl⟩
 |_=>
  right
  simp only[kA]at h
  cases hu:P.underlying kt with
  |none=>rw[hu]at h;simp[fm]at h
  |some kind=>rw[hu]at h;exact⟨kind,rfl,h⟩
theorem SQ{kt:TypeId}{tk:Ty V.ι}(h:kA V P kt tk=true)(x:den V.N tk):∀M v,de M v (bC V.sz V.enc tk x)->v=eA V.enc tk x:=by
 intro M v hv
 rcases iT h with⟨i,rfl⟩|⟨kind,hu,hk⟩
 ·obtain⟨h1,h2⟩:=oT h x
  rw[h2]
  simp only[bC]at hv
  rw[h1]at hv
  exact oA hv
 ·rw[sx hk]at hv
  cases hv;rfl
theorem su{kt:TypeId}{tk:Ty V.ι}(h:kA V P kt tk=true)(x y:den V.N tk):keq V.cells tk x y=true↔eA V.enc tk x=eA V.enc tk y:=by
 rcases iT h with⟨i,rfl⟩|⟨kind,hu,hk⟩
 ·obtain⟨fs,ks,h1,h2,h3⟩:=sw h
  rw[(oT h x).2,(oT h y).2]
  simp only[keq]
  rw[<-yK h3,g_ (ef h3).2 (ef h3).2]
  simp
 ·have hs:=kB hk x y
  cases he:keq V.cells tk x y with
  |true=>
   rw[he]at hs
   simp only[true_iff]
   exact fD hs
  |false=>
   rw[he]at hs
   simp only[aaf,false_iff]
   exact jD hs
theorem nx{kt:TypeId}{tk tv:Ty V.ι}(h:kA V P kt tk=true)(x:den V.N tk)(es:List (den V.N tk×den V.N tv)):p9 P kt (eA V.enc tk x) ((es.map λp=>(eA V.enc tk p.1,bC V.sz V.enc tv p.2)).map (·.1)):=by
 rcases iT h with⟨i,rfl⟩|⟨kind,hu,hk⟩
 ·obtain⟨fs,ks,h1,h2,h3⟩:=sw h
  rw[(oT h x).2]
  refine .struct (d:=100) h1 (by decide) h2 (ef h3).2 λk hk=> ?_
  rw[aaV]at hk
  obtain⟨p,_,rfl⟩:=aaL.1 hk
  exact⟨(V.cells i p.1).map iU,(oT h p.1).2,(ef h3).2⟩
 ·refine .simple hu (jx hk) λk hkm=> ?_
  have:∃y:den V.N tk,k=eA V.enc tk y:=by
   rcases aay.1 hkm with rfl|hkm
   ·exact⟨x,rfl⟩
   ·rw[aaV]at hkm
    obtain⟨p,_,rfl⟩:=aaL.1 hkm
    exact⟨p.1,rfl⟩
  obtain⟨y,rfl⟩:=this
  rw[kB hk x y];rfl
theorem DE{kt:TypeId}{tk tv:Ty V.ι}(h:kA V P kt tk=true)(x:den V.N tk):∀es:List (den V.N tk×den V.N tv),
 Mj (eA V.enc tk x) (es.map λp=>(eA V.enc tk p.1,bC V.sz V.enc tv p.2)) ((Mp.get (keq V.cells tk) x es).map (bC V.sz V.enc tv))
 |[]=> .inl ⟨rfl,λp hp=>by cases hp⟩
 |p::r=>by
  simp only[Mp.get,aas]
  cases he:keq V.cells tk x p.1 with
  |true=>
   exact .inr ⟨_,aaw,((su h x p.1).1 he).symm,rfl⟩
  |false=>
   have hne:¬eA V.enc tk x=eA V.enc tk p.1:=λe=>by rw[(su h x p.1).2 e]at he;cases he
   rw[adS (by decide)]
   rcases DE h x r with⟨h1,h2⟩|⟨q,h1,h2,h3⟩
   ·refine .inl ⟨h1,λq hq=> ?_⟩
    rcases aay.1 hq with rfl|hq
    ·exactλe=>hne e.symm
    ·exact h2 q hq
   ·exact .inr ⟨q,aar _ h1,h2,h3⟩
theorem Fq{kt:TypeId}{tk tv:Ty V.ι}(h:kA V P kt tk=true)(x:den V.N tk)(y:den V.N tv):∀es:List (den V.N tk×den V.N tv),
 Cf (eA V.enc tk x) (bC V.sz V.enc tv y) (es.map λp=>(eA V.enc tk p.1,bC V.sz V.enc tv p.2)) ((Mp.put (keq V.cells tk) x y es).map λp=>(eA V.enc tk p.1,bC V.sz V.enc tv p.2))
 |[]=> .inl ⟨rfl,λp hp=>by cases hp⟩
 |p::r=>by
  simp only[Mp.put,aas]
  cases he:keq V.cells tk x p.1 with
  |true=>
   exact .inr ⟨0,_,rfl,((su h x p.1).1 he).symm,rfl⟩
  |false=>
   have hne:¬eA V.enc tk x=eA V.enc tk p.1:=λe=>by rw[(su h x p.1).2 e]at he;cases he
   rw[adS (by decide)]
   rcases Fq h x y r with⟨h1,h2⟩|⟨j,q,h1,h2,h3⟩
   ·refine .inl ⟨by rw[aas,h1];rfl,λq hq=> ?_⟩
    rcases aay.1 hq with rfl|hq
    ·exactλe=>hne e.symm
    ·exact h2 q hq
   ·exact .inr ⟨j+1,q,by simpa using h1,h2,by rw[aas,h3];rfl⟩
theorem g7{B:Type}{n:Nat}{b:B}{f:(m:Nat)->TypeId->(tk tv:Ty V.ι)->List (Option (List (den V.N tk×den V.N tv)))->Nat->List (den V.N tk×den V.N tv)->Option B}(h:qq V S n f=some b):
 ∃m te tk tv es i m0,S.own? n=some (.alias m)/\S.own? m=some (.maps te tk tv es (some (n,i)))/\n≠m/\es[i]?=some (some m0)/\f m te tk tv es i m0=some b:=by
 unfold qq at h
 split at h
 ·rename_i m hn
  split at h
  ·rename_i te tk tv es n' i hm
   replace h:=aG h
   obtain⟨⟨rfl,hnm⟩,h⟩:=h
   replace h:=b9 h
   obtain⟨o,ho,h⟩:=h
   replace h:=b9 h
   obtain⟨m0,rfl,h⟩:=h
   exact⟨m,te,tk,tv,es,i,m0,hn,hm,hnm,ho,h⟩
  ·cases h
 ·cases h
theorem zz{α:Type}{l:List α}{i:Nat}{x:α}(h:l[i]?=some x):l.set i x=l:=by
 apply abF
 intro j
 rw[abp]
 split
 ·rename_i e;subst e
  rw[adT (aaj.1 h).1,h]
 ·rfl
theorem sU{n m:Nat}{o1 o2:TO V.N}{x1 x2:Option Own}{v:TV V.N}{h:H}{l:List Nat}(h1:∀ω,cq V ω o1=x1)(h2:∀ω,cq V ω o2=x2)(hl1:TO.len (some o1)=S.len n)(hl2:TO.len (some o2)=S.len m)(hv:∀ω,aL V ω v=h)
 (hk:k {val:=v,acc:=l,upd:=[(n,o1),(m,o2)]}=some r)(hs:aW P nm o (Go.Awp.ev (a_ V S)) (a_ V S).own? {val:=h,acc:=l,upd:=[(n,x1),(m,x2)]}):OpD P nm o S k r:=by
 refine⟨_,hk,λq o' hq=> ?_,_, .sem hs,cW (hv _).symm rfl (by simp[h1,h2]) rfl⟩
 simp only[aH]at hq
 right
 split at hq
 ·rename_i e;simp at hq;subst hq;subst e;exact hl1
 ·split at hq
  ·rename_i e;simp at hq;subst hq;subst e;exact hl2
  ·simp[gt]at hq
def oC(tk tv:Ty V.ι)(l:List (den V.N tk×den V.N tv)):List (Value×D):=l.map λp=>(eA V.enc tk p.1,bC V.sz V.enc tv p.2)
theorem qZ{c:Bool}{tk tv:Ty V.ι}{key:den V.N tk}{z:den V.N tv}{es:List (den V.N tk×den V.N tv)}{f:TV V.N->Option A}(h:Hx V c tk tv key z es f=some r):
 ∃v,f v=some r/\∀ω,aL V ω v=if c=true then .tup [.d (((Mp.get (keq V.cells tk) key es).map (bC V.sz V.enc tv)).getD (bC V.sz V.enc tv z)), .d (.v (.bool ((Mp.get (keq V.cells tk) key es).map (bC V.sz V.enc tv)).isSome))]
  else .d (((Mp.get (keq V.cells tk) key es).map (bC V.sz V.enc tv)).getD (bC V.sz V.enc tv z)):=by
 unfold Hx at h
 cases c with
 |true=>
  refine⟨_,h,λω=> ?_⟩
  simp only[aL,encL,adP,ac9]
  cases Mp.get (keq V.cells tk) key es<;>rfl
 |false=>
  refine⟨_,h,λω=> ?_⟩
  simp only[aL,aaf,adQ]
  cases Mp.get (keq V.cells tk) key es<;>rfl
theorem Gh{t:TypeId}{x i:Operand}{c:Bool}(ho:o.op= .lookup t x i c)(h:Gg V P t x i c S k=some r):OpD P nm o S k r:=by
 unfold Gg at h
 split at h
 ·rename_i kt et n tk key ht hx hi
  split at h
  ·rename_i d hd
   split at h
   ·rename_i tk' tv es hown
    split at h
    ·rename_i z hz
     split at h
     ·rename_i htk
      subst htk
      replace h:=aG h
      obtain⟨hk,h⟩:=h
      obtain⟨v,h,hv⟩:=qZ h
      exact dG h (.lookupK ho ht hd (by rw[aI,hx];rfl) (by rw[aI,hi];rfl) (SQ hk key) (jg hown) (nx hk key es) (DE hk key es)) (by rw[hv,(pg hz).2 rfl])
     ·cases h
    ·cases h
   ·obtain⟨m,te,tk',tv,es,j,m0,hn,hm,hnm,hj,h⟩:=g7 h
    split at h
    ·rename_i z hz
     split at h
     ·rename_i htk
      subst htk
      replace h:=aG h
      obtain⟨hk,h⟩:=h
      obtain⟨v,h,hv⟩:=qZ h
      have hj':(es.map λo=>o.map (oC (V:=V) tk tv))[j]?=some (some (oC tk tv m0)):=by rw[aal,hj];rfl
      refine sU (x1:=some (.maps te (es.map λo=>o.map (oC tk tv)) (some (n,j)))) (x2:=none) (λω=>rfl) (λω=>rfl) (by rw[ic hm];rfl) (by rw[kD hn];rfl) hv h ?_
      have:=aW.viaAlias (P:=P) (nm:=nm) (o:=o) (ρ:=Go.Awp.ev (a_ V S)) (m1:=oC tk tv m0) (io hm) hj' (kY hn) hnm
       (v:=if c=true then .tup [.d (((Mp.get (keq V.cells tk) key m0).map (bC V.sz V.enc tv)).getD (bC V.sz V.enc tv z)), .d (.v (.bool ((Mp.get (keq V.cells tk) key m0).map (bC V.sz V.enc tv)).isSome))]
         else .d (((Mp.get (keq V.cells tk) key m0).map (bC V.sz V.enc tv)).getD (bC V.sz V.enc tv z)))
       λω' hω'=> .told hω' (by
        have:=aW.lookupK (nm:=nm) ho ht hd (ω:=ω') (c:=c) (key:=eA V.enc tk key) (dk:=bC V.sz V.enc tk key) (ρ:=Go.Awp.ev (a_ V S)) (by rw[aI,hx];rfl) (by rw[aI,hi];rfl) (SQ hk key) hω' (nx hk key m0) (DE hk key m0)
        rw[(pg hz).2 rfl]at this
        exact this)
      have hs:(es.map λo=>o.map λl=>l.map λp=>(eA V.enc tk p.1,bC V.sz V.enc tv p.2)).set j (some (oC tk tv m0))=es.map λo=>o.map λl=>l.map λp=>(eA V.enc tk p.1,bC V.sz V.enc tv p.2):=zz hj'
      rw[hs]at this
      exact this
     ·cases h
    ·cases h
  ·cases h
 ·cases h
theorem zG{t:TypeId}{x i y:Operand}(ho:o.op= .mapUpdate t x i y\/o.op= .insert t x i y)(h:Kd V P t x i y S k=some r):OpD P nm o S k r:=by
 unfold Kd at h
 split at h
 ·rename_i kt et n tk key tv z ht hx hi hy
  split at h
  ·rename_i tk' tv' es hown
   split at h
   ·rename_i e1
    subst e1
    split at h
    ·rename_i e2
     subst e2
     replace h:=aG h
     obtain⟨hk,h⟩:=h
     exact xd (x:= .map (oC tk tv (Mp.set (keq V.cells tk) (klt tk) key z es))) (λω=>rfl) (by rw[sA hown];rfl) h
      (.updateK ho ht (by rw[aI,hx];rfl) (by rw[aI,hi];rfl) (SQ hk key) (by rw[aI,hy];rfl) (jg hown) (nx hk key es) (Fq hk key z es) ((Mp.set_perm _ _ _ _ _).map _))
    ·cases h
   ·cases h
  ·obtain⟨m,te,tk',tv',es,j,m0,hn,hm,hnm,hj,h⟩:=g7 h
   split at h
   ·rename_i e1
    subst e1
    split at h
    ·rename_i e2
     subst e2
     replace h:=aG h
     obtain⟨hk,h⟩:=h
     have hj':(es.map λo=>o.map (oC (V:=V) tk tv))[j]?=some (some (oC tk tv m0)):=by rw[aal,hj];rfl
     refine sU (x1:=some (.maps te ((es.map λo=>o.map (oC tk tv)).set j (some (oC tk tv (Mp.set (keq V.cells tk) (klt tk) key z m0)))) (some (n,j)))) (x2:=none) (h:= .junk) (λω=>by simp only[cq,abT];rfl) (λω=>rfl) (by rw[ic hm];simp[TO.len]) (by rw[kD hn];rfl) (λω=>rfl) h ?_
     exact aW.viaAlias (io hm) hj' (kY hn) hnm λω' hω'=>
      .updateK (ω:=ω') ho ht (by rw[aI,hx];rfl) (by rw[aI,hi];rfl) (SQ hk key) (by rw[aI,hy];rfl) hω' (nx hk key m0) (Fq hk key z m0) ((Mp.set_perm _ _ _ _ _).map _)
    ·cases h
   ·cases h
 ·cases h
theorem JU{c:Call}(ho:o.op= .call c)(hc:c.callee= .builtin .len)(h:OM V P (c.args.toList.map (tev S)) c.argTypes.toList S k=some r):OpD P nm o S k r:=by
 unfold OM at h
 split at h
 ·rename_i n hargs
  replace h:=aG h
  obtain⟨hk,h⟩:=h
  obtain⟨m,te,tk,tv,es,j,m0,hn,hm,hnm,hj,h⟩:=g7 h
  obtain⟨p,hpq,hpx⟩:∃p,c.args.toList=[p]/\tev S p= .mp n:=by
   match hcl:c.args.toList,hargs with
   |[p],hargs=>simp at hargs;exact⟨p,rfl,hargs⟩
   |[],hargs=>simp at hargs
   |_::_::_,hargs=>simp at hargs
  have hj':(es.map λo=>o.map (oC (V:=V) tk tv))[j]?=some (some (oC tk tv m0)):=by rw[aal,hj];rfl
  have hs:(es.map λo=>o.map λl=>l.map λp=>(eA V.enc tk p.1,bC V.sz V.enc tv p.2)).set j (some (oC tk tv m0))=es.map λo=>o.map λl=>l.map λp=>(eA V.enc tk p.1,bC V.sz V.enc tv p.2):=zz hj'
  refine sU (x1:=some (.maps te (es.map λo=>o.map (oC tk tv)) (some (n,j)))) (x2:=none) (h:= .d (.v (.int .i64 m0.length))) (λω=>rfl) (λω=>rfl) (by rw[ic hm];rfl) (by rw[kD hn];rfl) (λω=>rfl) h ?_
  have:=aW.viaAlias (P:=P) (nm:=nm) (o:=o) (ρ:=Go.Awp.ev (a_ V S)) (v:= .d (.v (.int .i64 m0.length))) (m1:=oC tk tv m0) (io hm) hj' (kY hn) hnm λω' hω'=> .told hω' (.ofAVal λρ' ω2 hρ hω=>by
   have hx':ρ' p= .mp n:=by
    rw[hρ p (by rw[ho];simp only[Op.operands,Call.operands,hc];(have:p∈c.args.toList:=by rw[hpq];simp);simpa using this),aI,hpx];rfl
   have ho':ω2 n=some (.map (oC tk tv m0)):=(hω n (by simp)).trans hω'
   simp only[bN,ho,hc,hpq,aas,aa9,hx',ho']
   exact⟨hk,by rw[oC,aam]⟩)
  rw[hs]at this
  exact this
 ·cases h
theorem B1{t:TypeId}{x:Operand}(ho:o.op= .range t x)(h:xN V P t x o.dst S k=some r):OpD P nm o S k r:=by
 unfold xN at h
 split at h
 ·rename_i kt et n d ht hx hd
  obtain⟨m,te,tk,tv,es,j,m0,hn,hm,hnm,hj,h⟩:=g7 h
  replace h:=aG h
  obtain⟨⟨hf1,hf2⟩,h⟩:=h
  have hj':(es.map λo=>o.map (oC (V:=V) tk tv))[j]?=some (some (oC tk tv m0)):=by rw[aal,hj];rfl
  refine⟨_,h,λq o' hq=> ?_,_, .sem (.rangeAlias (nn:=bR d) ho ⟨_,_,ht⟩ (by rw[aI,hx];rfl) (by rw[hd];simp) (io hm) hj' (kY hn) ⟨hf1,hf2⟩),cW rfl rfl (by simp only[aas,aa9,cq,abT];rfl) rfl⟩
  simp only[aH]at hq
  split at hq
  ·rename_i e;left;simp[e]
  ·right
   split at hq
   ·rename_i e;simp at hq;subst hq;subst e;rw[kD hn];rfl
   ·split at hq
    ·rename_i e;simp at hq;subst hq;subst e;rw[ic hm];simp[TO.len]
    ·simp[gt]at hq
 ·cases h
theorem xL{t:TypeId}{x i:Operand}(ho:o.op= .indexAddr t x i)(h:tf V P t x i S k=some r):OpD P nm o S k r:=by
 unfold tf at h
 split at h
 ·rename_i te sz by_ m kk n ht hx hi
  split at h
  ·rename_i te2 tk tv es al hm
   replace h:=aG h
   obtain⟨⟨h0,h1⟩,h⟩:=h
   refine dG h (.indexMaps ho ht ?_ (by rw[aI,hi];rfl) (io hm) h0 (by rw[aam];exact h1)) rfl
   rw[aI,hx,aam]
   simp only[aL,ic hm]
  ·rename_i te2 e xs hm
   replace h:=aG h
   obtain⟨⟨h0,h1⟩,h⟩:=h
   refine dG h (.qindex ho ht ?_ (by rw[aI,hi];rfl) (sW hm) h0 (by rw[aam];exact h1)) rfl
   rw[aI,hx,aam]
   simp only[aL,wJ hm]
  ·cases h
 ·cases h
theorem aW.more{v:H}{acc new:List Nat}{upd:List (Nat×Option Own)}{d:Nat}{ρ:Operand->H}{ω:Nat->Option Own}(h:aW P nm o ρ ω {val:=v,acc:=acc,upd:=upd,new:=new}):aW P nm o ρ ω {val:=v,acc:=acc,upd:=upd++[(d,none)],new:=new}:=by
 refine aW.ole h λown n o hn=>⟨o,?_,OLe.refl _⟩
 simp only[abu,e_]at hn⊢
 cases hu:gt upd n with
 |some x=>rw[hu]at hn;exact hn
 |none=>
  rw[hu]at hn
  simp only[aa_,aat,aH]at hn
  by_cases e:d=n
  ·rw[adT e]at hn;cases hn
  ·rw[adS e]at hn
   simpa[gt]using hn
theorem vp{t:TypeId}{x:Operand}(ho:o.op= .load t x)(h:pS V P t x o.dst S k=some r):OpD P nm o S k r:=by
 unfold pS at h
 split at h
 ·rename_i m i d ht hx hd
  split at h
  ·rename_i te tk tv es al hm
   replace h:=b9 h
   obtain⟨o1,ho1,h⟩:=h
   replace h:=b9 h
   obtain⟨m0,rfl,h⟩:=h
   replace h:=aG h
   obtain⟨hf,h⟩:=h
   have hj':(es.map λo=>o.map (oC (V:=V) tk tv))[i]?=some (some (oC tk tv m0)):=by rw[aal,ho1];rfl
   refine⟨_,h,λq o' hq=> ?_,_, .sem (aW.more (d:=bR d) (.loadMap (d:=bR d) ho ht (by rw[aI,hx];rfl) (io hm) hj' hf)),cW rfl rfl rfl rfl⟩
   simp only[aH]at hq
   split at hq
   ·rename_i e;right;simp at hq;subst hq;subst e;rw[ic hm];rfl
   ·split at hq
    ·rename_i e;left;simp[e]
    ·simp[gt]at hq
  ·cases h
 ·cases h
theorem tg{t:TypeId}{x y:Operand}(ho:o.op= .store t x y)(h:lW V P t x y S k=some r):OpD P nm o S k r:=by
 unfold lW at h
 split at h
 ·rename_i ag m i n ht hx hy
  split at h
  ·rename_i te tk tv es al tk' tv' e0 hm hn
   split at h
   ·rename_i hh
    obtain⟨e1,e2⟩:=hh
    subst e1;subst e2
    replace h:=aG h
    obtain⟨⟨hi,hnm⟩,h⟩:=h
    refine sU (x1:=some (.maps te ((es.map λo=>o.map (oC tk' tv')).set i (some (oC tk' tv' e0))) none)) (x2:=none) (h:= .junk) (λω=>by simp only[cq,abT];rfl) (λω=>rfl) (by rw[ic hm];simp[TO.len]) (by rw[sA hn];rfl) (λω=>rfl) h ?_
    exact .storeMap ho ht (by rw[aI,hx];rfl) (by rw[aI,hy];rfl) (io hm) (jg hn) (by rw[aam];exact hi) hnm
   ·cases h
  ·cases h
 ·cases h
theorem Bw{l c:Operand}(h:rm l c=true):l=c:=by
 unfold rm at h
 split at h
 ·rw[aa1 h]
 ·cases h
theorem vo{t:TypeId}{l c:Operand}(ho:o.op= .makeSlice t l c)(h:pR V P t l c o.dst S k=some r):OpD P nm o S k r:=by
 unfold pR at h
 split at h
 ·rename_i tk tv te bytes d hty ht hd
  split at h
  ·rename_i z0 kn n km m hz hl hc
   split at h
   ·rename_i hsame
    replace h:=aG h
    obtain⟨hb,h⟩:=h
    replace h:=aG h
    obtain⟨h0,h⟩:=h
    replace h:=aG h
    obtain⟨h1,h⟩:=h
    have hlc:=Bw hsame
    subst hlc
    rw[hl]at hc
    simp only[TV.lf.injEq]at hc
    obtain⟨e1,e2⟩:=hc
    cases e1
    have e2:=eq_of_heq e2
    subst e2
    refine sT (d:=bR d) (h:= .vh (bR d) n.toNat) (x:= .maps te (aaA n.toNat none) none) (λω=>by simp only[cq,ab3];rfl) (λω hω=>by simp only[aL,hω,TO.len,aa5]) h ?_
    refine aW.ole (upd:=[(bR d,some (.vec te 1 (aaA n.toNat ([z0].map .v))))]) (.ofAVal (nm:=bR) λρ' ω' hρ hω=> ?_) λown q o1 hq=> ?_
    ·have hx':ρ' l= .d (.v (.int kn n)):=by rw[hρ l (by rw[ho];simp[Op.operands]),aI,hl];rfl
     simp only[bN,ho,ht,hd,hz,hx']
     exact⟨⟨.inl trivial,h0,h0,h1,hb⟩,trivial⟩
    ·simp only[aa_,aat,aH]at hq⊢
     by_cases e:bR d=q
     ·rw[adT e]at hq⊢
      simp only[abs,aah]at hq
      subst hq
      refine⟨_,rfl,?_⟩
      have:=OLe.v2maps (e:=te) (rows:=aaA n.toNat ([z0].map D.v))
      rw[ab3]at this
      exact this
     ·rw[adS e]at hq⊢
      exact⟨o1,hq,OLe.refl _⟩
   ·cases h
  ·cases h
 ·cases h
theorem BW{t:TypeId}{len:Nat}{parts:Array (Nat×Operand)}(ho:o.op= .buildSlice t len parts)(h:xI V P t len parts.toList o.dst S k=some r):OpD P nm o S k r:=by
 unfold xI at h
 split at h
 ·rename_i te sz by_ e d ht hty hd
  replace h:=aG h
  obtain⟨⟨e1,e2,e3,e4⟩,h⟩:=h
  split at h
  ·rename_i ys hys
   obtain⟨rows,h1,h2,_,h4⟩:=j7 (ω:=S.len) hys
   replace h4:=h4 rfl
   have hp:((parts.toList.map λ(i,x)=>(i,fnT (tev S x))).map λp=>(p.1,aL V S.len p.2))=parts.toList.map λ(i,x)=>(i,fnD (Go.Awp.ev (a_ V S) x)):=by
    rw[aaV]
    refine aaO λp _=> ?_
    simp only[abX,sj,aI]
   rw[hp,<-e1]at h1
   rw[aam,e2]at h2
   have hyl:ys.length=len:=by
    have:=congrArg acD h4
    rw[aam]at this;omega
   have hne:rows≠[]:=λe=>by rw[e]at h2;simp at h2;omega
   refine sT (d:=bR d) (h:= .vh (bR d) rows.length) (x:= .que te sz rows) (λω=>by rw[h4,e1];rfl) (λω hω=>by simp only[aL,hω,TO.len,hyl,h2]) h ?_
   refine aW.ole (upd:=[(bR d,some (.vec te sz rows))]) (.ofAVal (nm:=bR) λρ' ω' hρ hω=> ?_) λown q o1 hq=> ?_
   ·have hpp:(parts.toList.map λ(i,x)=>(i,fnD (ρ' x)))=parts.toList.map λ(i,x)=>(i,fnD (Go.Awp.ev (a_ V S) x)):=by
     refine aaO λp hp=> ?_
     have:ρ' p.2=_:=hρ p.2 (by rw[ho];simp only[Op.operands];simpa using ⟨p.1,by simpa using hp⟩)
     simp only[this]
    have hnd:¬bR d=d:=by unfold bR;omega
    simp only[bN,ho,ht,hd,hpp,h1]
    refine⟨⟨h2,e3⟩,?_⟩
    rw[adS hnd]
    trivial
   ·simp only[aa_,aat,aH]at hq⊢
    by_cases e:bR d=q
    ·rw[adT e]at hq⊢
     simp only[abs,aah]at hq
     subst hq
     exact⟨_,rfl,OLe.v2q hne⟩
    ·rw[adS e]at hq⊢
     exact⟨o1,hq,OLe.refl _⟩
  ·cases h
 ·cases h
theorem kX{d:Nat}{ns:List Nat}{v:TV V.N}{h:H}{o':TO V.N}{x:Own}{l:List Nat}(hx:∀ω,cq V ω o'=some x)(hv:∀ω:Nat->Nat,ω d=TO.len (some o')->aL V ω v=h)
 (hk:k {val:=v,acc:=l,upd:=(d,o')::Hi V S ns,new:=[d]}=some r)
 (hs:aW P nm o (Go.Awp.ev (a_ V S)) (a_ V S).own? {val:=h,acc:=l,upd:=(d,some x)::ns.map (λn=>(n,none)),new:=[d]}):OpD P nm o S k r:=by
 refine⟨_,hk,λm o1 hm=> ?_,_, .sem hs,cW (hv _ ?_).symm rfl (by rw[aas,DH,hx]) rfl⟩
 ·simp only[aH]at hm
  split at hm
  ·rename_i e;left;simp[e]
  ·exact .inr (DI hm)
 ·rw[d6];simp[aH]
theorem B6{t:TypeId}{x:Operand}{lo hi mx:Option Operand}(ho:o.op= .slice t x lo hi mx)(h:xQ V P t x lo hi mx o.dst S k=some r):OpD P nm o S k r:=by
 unfold xQ at h
 split at h
 ·rename_i te0 sz0 by0 d m ht hd hx
  split at h
  ·rename_i l te e xs hm
   split at h
   ·rename_i kk n hl
    replace h:=aG h
    obtain⟨hse,h⟩:=h
    subst hse
    replace h:=aG h
    obtain⟨h0,h⟩:=h
    replace h:=aG h
    obtain⟨h1,h⟩:=h
    refine kX (ns:=[m]) (x:= .que te (tsz V.sz e) ((xs.map λx=>bY V.sz V.enc e x).drop n.toNat)) (h:= .vh (bR d) ((xs.map λx=>bY V.sz V.enc e x).length-n.toNat)) (λω=>by simp only[cq,abm]) (λω hω=>by simp only[aL,hω,TO.len,aaU,aam]) h ?_
    exact .qtail ho ht (by rw[aI,hx,aam];simp only[aL,wJ hm]) (sW hm) (by rw[aI,hl];rfl) h0 (by rw[aam];exact h1)
   ·cases h
  ·rename_i hh te e xs hm
   split at h
   ·rename_i kk n hl
    replace h:=aG h
    obtain⟨h0,h⟩:=h
    replace h:=aG h
    obtain⟨h1,h⟩:=h
    have h2:n.toNat<=xs.length:=Int.toNat_le.2 h1
    refine kX (ns:=[m]) (x:= .vec te (tsz V.sz e) ((xs.map λx=>bY V.sz V.enc e x).take n.toNat)) (h:= .vh (bR d) n.toNat) (λω=>by simp only[cq,abl]) (λω hω=>by simp only[aL,hω,TO.len,aa2];rw[abN h2]) h ?_
    exact .trunc ho ht (by rw[aI,hx,aam];simp only[aL,eh hm]) (dH hm) (by rw[aI,hl];rfl) h0 (by rw[aam];exact h1)
   ·cases h
  ·cases h
 ·cases h
theorem Ph{c:Call}{x y:TV V.N}(h:c.args.toList.map (tev S)=[x,y]):∃p q,c.args= #[p,q]/\tev S p=x/\tev S q=y:=by
 match hcl:c.args.toList,h with
 |[p,q],h=>simp at h;exact⟨p,q,by rw[<-acC];exact hcl,h.1,h.2⟩
 |[],h=>simp at h
 |[_],h=>simp at h
 |_::_::_::_,h=>simp at h
theorem li(e:Ty V.ι)(xs:List (den V.N e)):(xs.map λx=>bY V.sz V.enc e x).all (λr=>r.all D.one)=true:=by
 rw[ab_,aav]
 intro y _
 exact xg
theorem r9{a b:Nat}(h:a<=most)(hb:b<=32768):a *b<=140737488355328:=by
 have:a *b<=4294967296 *32768:=adq h hb
 omega
theorem JO{c:Call}(ho:o.op= .call c)(hc:c.callee= .builtin .append)(h:OD V P (c.args.toList.map (tev S)) c.argTypes.toList o.dst S k=some r):OpD P nm o S k r:=by
 unfold OD at h
 split at h
 ·rename_i x y t t' d hargs htys hd
  obtain⟨p,q,hpq,rfl,hqy⟩:=Ph hargs
  split at h
  ·rename_i te sz bytes ht
   replace h:=aG h
   obtain⟨⟨e1,hby⟩,h⟩:=h
   subst e1
   have hct:c.argTypes= #[t,t]:=by rw[<-acC];exact htys
   split at h
   ·rename_i e' y0 ys
    split at h
    ·rename_i n hx
     split at h
     ·rename_i te2 e xs hown
      split at h
      ·rename_i e2
       subst e2
       replace h:=aG h
       obtain⟨⟨e3,e4⟩,h⟩:=h
       subst e3;subst e4
       replace h:=aG h
       obtain⟨hle,h⟩:=h
       refine kX (ns:=[n]) (x:= .que te (tsz V.sz e') ((xs.map λx=>bY V.sz V.enc e' x)++((y0::ys).map λx=>bY V.sz V.enc e' x))) (h:= .vh (bR d) ((xs.map λx=>bY V.sz V.enc e' x).length+((y0::ys).map λx=>bY V.sz V.enc e' x).length)) (λω=>by simp only[cq,aba]) (λω hω=>by simp only[aL,hω,TO.len,aaI,aam]) h ?_
       refine .qappend ho hc hpq hct ht (by rw[aI,hx,aam];simp only[aL,wJ hown]) (sW hown) (by rw[aI,hqy];rfl) (by simp) (li e' _) ?_ ?_
       ·rw[aam,aam];exact r9 hle hby
       ·rw[aam,aam];unfold most at hle;omega
      ·cases h
     ·cases h
    ·cases h
   ·rename_i m sz2 lo len
    split at h
    ·rename_i te2 e2 xs2 hm
     replace h:=aG h
     obtain⟨⟨e3,e4⟩,h⟩:=h
     subst e4;subst e3
     replace h:=aG h
     obtain⟨hll,h⟩:=h
     split at h
     ·rename_i n hx
      split at h
      ·rename_i te1 e xs hown
       split at h
       ·rename_i e5
        subst e5
        replace h:=aG h
        obtain⟨⟨e6,hnm⟩,h⟩:=h
        subst e6
        replace h:=aG h
        obtain⟨hle,h⟩:=h
        refine kX (ns:=[n]) (x:= .vec te (tsz V.sz e2) ((xs.map λx=>bY V.sz V.enc e2 x)++(((xs2.map λx=>bY V.sz V.enc e2 x).drop lo).take len))) (h:= .vh (bR d) ((xs.map λx=>bY V.sz V.enc e2 x).length+len)) (λω=>by simp only[cq,aba,abl,abm]) (λω hω=>by
         simp only[aL,hω,TO.len,aaI,aam,aa2,aaU]
         rw[abN (by omega)]) h ?_
        refine .appendCut ho hc hpq hct ht (.inl ⟨n,by rw[aI,hx,aam];simp only[aL,eh hown],dH hown,hnm,rfl⟩) (by rw[aI,hqy];rfl) (dH hm) (by rw[aam];exact hll) (li e2 _) ?_ ?_
        ·rw[aam];exact r9 hle hby
        ·rw[aam];unfold most at hle;omega
       ·cases h
      ·cases h
     ·rename_i hx
      replace h:=aG h
      obtain⟨hle,h⟩:=h
      refine kX (ns:=[]) (x:= .vec te (tsz V.sz e2) ([]++(((xs2.map λx=>bY V.sz V.enc e2 x).drop lo).take len))) (h:= .vh (bR d) (([]:List (List D)).length+len)) (λω=>by simp only[cq,abl,abm,aat]) (λω hω=>by
       simp only[aL,hω,TO.len,aa2,aaU,acX]
       rw[abN (by omega),aao]) h ?_
      refine .appendCut ho hc hpq hct ht (.inr ⟨by rw[aI,hx];rfl,rfl,rfl⟩) (by rw[aI,hqy];rfl) (dH hm) (by rw[aam];exact hll) (li e2 _) ?_ ?_
      ·rw[acX,aao];exact r9 hle hby
      ·rw[acX,aao];unfold most at hle;omega
     ·cases h
    ·cases h
   ·cases h
  ·cases h
 ·cases h
theorem zc{n:Nat}{o':TO V.N}{x:Own}{l:List Nat}{v:TV V.N}{h:H}(hx:∀ω,cq V ω o'=some x)(hv:∀ω,aL V ω v=h)(hl:TO.len (some o')=S.len n)(hk:k {val:=v,acc:=l,upd:=[(n,o')]}=some r)
 (hs:aW P nm o (Go.Awp.ev (a_ V S)) (a_ V S).own? {val:=h,acc:=l,upd:=[(n,some x)]}):OpD P nm o S k r:=by
 refine⟨_,hk,λm o1 hm=> ?_,_, .sem hs,cW (hv _).symm rfl (by simp[hx]) rfl⟩
 simp only[aH]at hm
 split at hm
 ·rename_i e;right;simp at hm;subst hm;subst e;exact hl
 ·simp[gt]at hm
theorem yk{α:Type}(xs ys:List α)(n:Nat)(h:ys.length=n):(ys.take xs.length++xs.drop n).length=xs.length:=by
 rw[aaI,aa2,aaU,h]
 omega
theorem Ge{c:Call}(ho:o.op= .call c)(hc:c.callee= .builtin .copy)(h:Gd V P (c.args.toList.map (tev S)) c.argTypes.toList S k=some r):OpD P nm o S k r:=by
 unfold Gd at h
 split at h
 ·rename_i m y t rest hargs htys
  obtain⟨p,q,hpq,hpx,hqy⟩:=Ph hargs
  have hct:c.argTypes[0]?=some t:=by
   have:c.argTypes.toList[0]?=some t:=by rw[htys];rfl
   simpa using this
  split at h
  ·rename_i te sz by_ te1 e xs ht hm
   replace h:=aG h
   obtain⟨⟨e1,e2⟩,h⟩:=h
   subst e1;subst e2
   split at h
   ·rename_i m2 sz2 lo len
    split at h
    ·rename_i te2 e2 xs2 hm2
     split at h
     ·rename_i e3
      subst e3
      replace h:=aG h
      obtain⟨⟨e4,hne⟩,h⟩:=h
      subst e4
      replace h:=aG h
      obtain⟨hll,h⟩:=h
      have hnl:(((xs2.map λx=>bY V.sz V.enc e2 x).drop lo).take len).length=len:=by rw[aa2,aaU,aam];omega
      have hnl':((xs2.drop lo).take len).length=len:=by rw[aa2,aaU];omega
      have:=aW.copy (P:=P) (nm:=nm) (ω:=(a_ V S).own?) (ρ:=Go.Awp.ev (a_ V S)) (rows:=xs.map λx=>bY V.sz V.enc e2 x) (news:=((xs2.map λx=>bY V.sz V.enc e2 x).drop lo).take len) (acc:=[m,m2]) ho hc hpq hct ht (by rw[aI,hpx,aam];simp only[aL,eh hm]) (dH hm)
       (.inr ⟨m2,te2,lo,xs2.map λx=>bY V.sz V.enc e2 x,by rw[aI,hqy,hnl];rfl,dH hm2,by rw[hnl,aam];exact hll,by rw[hnl],hne,rfl⟩)
       (by
         rw[<-abm,<-abl];exact li e2 _)
      rw[hnl,aam]at this
      refine zc (x:= .vec te (tsz V.sz e2) ((((xs2.map λx=>bY V.sz V.enc e2 x).drop lo).take len).take xs.length++(xs.map λx=>bY V.sz V.enc e2 x).drop len)) (λω=>by simp only[cq,aba,abl,abm]) (λω=>rfl) (by rw[eh hm];exact yk xs _ _ hnl') h this
     ·cases h
    ·cases h
   ·rename_i e2 ys
    split at h
    ·rename_i e3
     subst e3
     have:=aW.copy (P:=P) (nm:=nm) (ω:=(a_ V S).own?) (ρ:=Go.Awp.ev (a_ V S)) (rows:=xs.map λx=>bY V.sz V.enc e2 x) (news:=ys.map λx=>bY V.sz V.enc e2 x) (acc:=[m]) ho hc hpq hct ht (by rw[aI,hpx,aam];simp only[aL,eh hm]) (dH hm)
      (.inl ⟨by rw[aI,hqy];rfl,rfl⟩) (li e2 _)
     rw[aam,aam]at this
     exact zc (x:= .vec te (tsz V.sz e2) ((ys.map λx=>bY V.sz V.enc e2 x).take xs.length++(xs.map λx=>bY V.sz V.enc e2 x).drop ys.length)) (λω=>by simp only[cq,aba,abl,abm]) (λω=>rfl) (by rw[eh hm];exact yk xs _ _ rfl) h this
    ·cases h
   ·cases h
  ·cases h
 ·cases h
theorem JQ{t:TypeId}{x:Operand}(ho:o.op= .box t x)(h:OG V x S k=some r):OpD P nm o S k r:=by
 unfold OG at h
 split at h
 ·rename_i i y hx
  exact dG h (.freezeBox (ds:=V.enc i y) ho (by rw[aI,hx,jV];rfl)) rfl
 ·cases h
end
section
variable (V:iH) (P:Program) (nm:Nat->Nat)
def Nc:TV V.N->Bool
 | .lf (.ar _ _) _=>true
 |_=>false
def Nb:Option (Ty V.ι)->Bool
 |some (.ar _ _)=>true
 |_=>false
def TY:Option (Ty V.ι)->Bool
 |some (.sl (.mp _ _))=>true
 |_=>false
def TX:Ty V.ι->Bool
 | .fno=>true
 |_=>false
def LG:Option (Ty V.ι)->Bool
 |some (.st i)=>(V.tys i).any (TX V)
 |_=>false
def Nf:Option (TO V.N)->Bool
 |some (.bar ..)=>true
 |_=>false
def Hn:Option (TO V.N)->Bool
 |some (.que ..)=>true
 |_=>false
def yI:Option (TO V.N)->Bool
 |some (.maps ..)=>true
 |_=>false
def Na:Option (TO V.N)->Bool
 |some (.alias ..)=>true
 |_=>false
def Nd:Option (TO V.N)->Bool
 |some (.vec _ (.ar _ _) _)=>true
 |_=>false
def Nh:TV V.N->Bool
 | .lf (.st _) _=>true
 |_=>false
def tt(S:TS V.N):TV V.N->Bool
 | .mp n=>Na V (S.own? n)
 |_=>false
def Dz(pre:Nat->Bool)(m:Nat):Option Tmp->Bool
 |some d=>pre (m+d)
 |none=>false
def Q5(pre:Nat->Bool)(o:Oper)(S:TS V.N):Bool:=match o.op with
 | .index _ x _=>Nc V (tev S x)
 | .indexAddr _ x _=>match tev S x with
  | .bp n 0=>Nf V (S.own? n)
  | .rp (.ar _ _) _ _=>true
  | .ep .. =>true
  | .vh m=>Hn V (S.own? m)||yI V (S.own? m)
  |_=>false
 | .load _ x=>match tev S x with
  | .ai .. =>true
  | .bp n _=>Nf V (S.own? n)
  | .ep n _ _ _=>Hn V (S.own? n)||yI V (S.own? n)||Nd V (S.own? n)
  | .rp (.ar _ _) _ _=>true
  |_=>false
 | .store _ x _=>match tev S x with
  | .ai .. =>true
  | .bp n _=>Nf V (S.own? n)
  | .ep n _ _ _=>yI V (S.own? n)
  |_=>false
 | .alloc t=>Nb V (V.ty t)
 | .box _ x=>Nc V (tev S x)||Dz pre 7000000 o.dst
 | .nilCheck x=>match tev S x with
  | .lf (.op _) _=>true
  |_=>false
 | .binOp _ _ x y _=>match tev S x,tev S y with
  | .lf (.op _) _, .raw (.pointer none)=>true
  | .lf .fno _, .raw .nilFunc=>true
  | .lf (.st _) _, .lf (.st _) _=>true
  |_,_=>false
 | .build t parts=>Nb V (V.ty t)||LG V (V.ty t)||(!parts.toList.isEmpty&&Dz pre 1000000 o.dst)
 | .makeSlice t _ _=>TY V (V.ty t)
 | .lookup _ x i _=>tt V S (tev S x)||Nh V (tev S i)
 | .mapUpdate _ x i _=>tt V S (tev S x)||Nh V (tev S i)
 | .insert _ x i _=>tt V S (tev S x)||Nh V (tev S i)
 | .range _ x=>tt V S (tev S x)
 | .slice _ x _ _ _=>Dz pre 5000000 o.dst||match tev S x with
  | .vh m=>Hn V (S.own? m)
  |_=>false
 | .buildSlice _ _ _=>Dz pre 6000000 o.dst
 | .call c=>match c.callee with
  | .builtin .len=>match c.args.toList with
   |[x]=>tt V S (tev S x)
   |_=>false
  | .builtin .copy=>true
  | .builtin .append=>match c.args.toList with
   |[x,y]=>match tev S x,tev S y with
    | .sv ..,_=>false
    |_, .sv .. =>true
    | .vh n, .lf .. =>Hn V (S.own? n)
    |_,_=>false
   |_=>false
  |_=>false
 |_=>false
def WF{A:Type}(o:Oper)(S:TS V.N)(k:TE V.N->Option A):Option A:=match o.op with
 | .index t x i=>xK V P t x i S k
 | .indexAddr t x i=>match tev S x with
  | .vh _=>tf V P t x i S k
  |_=>OL V P t x i S k
 | .load t x=>match tev S x with
  | .ep n _ _ _=>match yI V (S.own? n)with
   |true=>pS V P t x o.dst S k
   |false=>zD V P t x S k
  |_=>zD V P t x S k
 | .store t x y=>match tev S x with
  | .ep .. =>lW V P t x y S k
  |_=>xR V P t x y S k
 | .alloc t=>xE V P nm t o.dst k
 | .box _ x=>match Nc V (tev S x)with
  |true=>OE V nm x o.dst S k
  |false=>OG V x S k
 | .nilCheck x=>OO V x S k
 | .binOp op xt x y _=>OH V P op xt x y S k
 | .build t parts=>match Nb V (V.ty t)with
  |true=>xF V P t parts.toList S k
  |false=>match LG V (V.ty t)with
   |true=>xG V P t parts.toList S k
   |false=>xH V P t parts.toList o.dst S k
 | .makeSlice t l c=>pR V P t l c o.dst S k
 | .lookup t x i c=>Gg V P t x i c S k
 | .mapUpdate t x i y=>Kd V P t x i y S k
 | .insert t x i y=>Kd V P t x i y S k
 | .range t x=>xN V P t x o.dst S k
 | .slice t x lo hi mx=>xQ V P t x lo hi mx o.dst S k
 | .buildSlice t len parts=>xI V P t len parts.toList o.dst S k
 | .call c=>match c.callee with
  | .builtin .len=>OM V P (c.args.toList.map (tev S)) c.argTypes.toList S k
  | .builtin .copy=>Gd V P (c.args.toList.map (tev S)) c.argTypes.toList S k
  | .builtin .append=>OD V P (c.args.toList.map (tev S)) c.argTypes.toList o.dst S k
  |_=>none
 |_=>none
def opX(pre:Nat->Bool)(o:Oper)(S:TS V.N):Bool:=Q5 V pre o S||QC V pre o S
def tdX{A:Type}(pre:Nat->Bool)(o:Oper)(S:TS V.N)(k:TE V.N->Option A):Option A:=match Q5 V pre o S with
 |true=>WF V P nm o S k
 |false=>OK V P o S k
def MB(S:TS V.N)(t:Nat):TS V.N:=match gt S.tmps t with
 |some (.bp b 0)=>match S.own? b with
  |some (.bst i x)=>{tmps:=(t, .lf (.op (.st i)) (some x))::S.tmps,own:=(b, .gone 0)::S.own}
  |_=>S
 |_=>S
def Wg(S:TS V.N)(t:Nat):TS V.N:=match gt S.tmps t with
 |some (.vh n)=>match S.own? n with
  |some (.vec _ e xs)=>{S with tmps:=(t, .sv n (tsz V.sz e) 0 xs.length)::S.tmps}
  |_=>S
 |_=>S
def OB(S:TS V.N)(x:Operand)(ty:TypeId):TS V.N:=match x with
 | .tmp t=>match cI P ty,V.ty ty with
  |some (te,_,_),some (.sl e)=>Wg V (EY V false te e S t) t
  |_,_=>S
 |_=>S
def rS(S:TS V.N):List Operand->List TypeId->TS V.N
 |x::r,ty::s=>rS (OB V P S x ty) r s
 |_,_=>S
def DN:Nat->List (TV V.N)->Option (Nat×Nat×Nat×Nat)
 |_,[]=>none
 |i,x::r=>match x with
  | .sv m sz 0 l=>some (i,m,sz,l)
  |_=>DN (i+1) r
def qL(S:TS V.N):List (Nat×TO V.N)->Option (Nat×Option TypeId×List (TV V.N)×Nat×Nat×Nat×Nat)
 |[]=>none
 |(b,_)::r=>match S.own? b with
  |some (.box o cells)=>match DN V 0 cells with
   |some q=>some (b,o,cells,q)
   |none=>qL S r
  |_=>qL S r
def M9{A:Type}(S:TS V.N)(k:TS V.N->Option A):Option A:=match qL V S S.own with
 |some (b,o,cells,i,m,sz,l)=>match S.own? m with
  |some (.vec te e xs)=>if sz=tsz V.sz e/\¬b=m/\S.fresh (75000+S.own.length)=true/\abM (75000+S.own.length) given=true then
   if l<=xs.length then k {tmps:=S.tmps,own:=(b, .box o (cells.set i (.vh (75000+S.own.length))))::(75000+S.own.length, .vec te e (xs.take l))::(m, .gone (S.len m))::S.own}else none
   else none
  |_=>none
 |none=>none
def DF{A:Type}(pre:Nat->Bool)(o:Oper)(S:TS V.N)(k:TS V.N->Option A):Option A:=match Dz pre 8000000 o.dst with
 |true=>M9 V S k
 |false=>match o.op with
  | .store _ _ (.tmp t)=>match pre (7000000+t)with
   |true=>k (MB V S t)
   |false=>k S
  | .call c=>match c.callee with
   | .value f=>match tev S f with
    | .fn fid _ _=>match pre (9000000+fid)with
     |true=>k (rS V P S c.args.toList c.argTypes.toList)
     |false=>k S
    |_=>k S
   |_=>k S
  |_=>k S
end
section
variable {V:iH} {P:Program} {nm:Nat->Nat} {pre:Nat->Bool} {o:Oper} {S:TS V.N} {A:Type} {k:TE V.N->Option A} {r:A}
theorem BZ(h:WF V P nm o S k=some r):OpD P nm o S k r:=by
 unfold WF at h
 split at h
 ·rename_i t x i ho;exact BX ho h
 ·rename_i t x i ho
  split at h
  ·exact xL ho h
  ·exact JT ho h
 ·rename_i t x ho
  split at h
  ·split at h
   ·exact vp ho h
   ·exact vn ho h
  ·exact vn ho h
 ·rename_i t x y ho
  split at h
  ·exact tg ho h
  ·exact B7 ho h
 ·rename_i t ho;exact BS ho h
 ·rename_i t x ho
  split at h
  ·exact JP ho h
  ·exact JQ ho h
 ·rename_i x ho;exact JY ho h
 ·rename_i op xt x y yt ho;exact JR ho h
 ·rename_i t parts ho
  split at h
  ·exact BT ho h
  ·split at h
   ·exact BU ho h
   ·exact BV ho h
 ·rename_i t l c ho;exact vo ho h
 ·rename_i t x i c ho;exact Gh ho h
 ·rename_i t x i y ho;exact zG (.inl ho) h
 ·rename_i t x i y ho;exact zG (.inr ho) h
 ·rename_i t x ho;exact B1 ho h
 ·rename_i t x lo hi mx ho;exact B6 ho h
 ·rename_i t len parts ho;exact BW ho h
 ·rename_i c ho
  split at h
  ·rename_i hc;exact JU ho hc h
  ·rename_i hc;exact Ge ho hc h
  ·rename_i hc;exact JO ho hc h
  ·cases h
 ·cases h
theorem vm(hf:∀te,k te=some r->∀d∈te.new,S.fresh d=true)(h:tdX V P nm pre o S k=some r):OpD P nm o S k r:=by
 unfold tdX at h
 split at h
 ·exact BZ h
 ·exact xJ hf h
theorem Cp(S:TS V.N)(t:Nat):Ent (a_ V S) (a_ V (MB V S t)):=by
 unfold MB
 split
 ·rename_i b ht
  split
  ·rename_i i x hb
   have h1:gt (a_ V S).tmps t=some (.bp b 0):=by rw[da,ht];rfl
   have h2:(a_ V S).own? b=some (.box none ((V.enc i x).map .d)):=by rw[bL,hb];rfl
   refine Ent.trans (Ent.boxData h1 h2) ?_
   have hl:({tmps:=(t, .lf (.op (.st i)) (some x))::S.tmps,own:=(b, .gone 0)::S.own}:TS V.N).len=S.len:=by
    funext m
    unfold TS.len TS.own?
    rw[aH]
    by_cases e:b=m
    ·subst e
     rw[adT rfl]
     unfold TS.own? at hb
     rw[hb];rfl
    ·rw[adS e]
   have:a_ V {tmps:=(t, .lf (.op (.st i)) (some x))::S.tmps,own:=(b, .gone 0)::S.own}={tmps:=(t, .d (.rp (V.enc i x)))::(a_ V S).tmps,own:=(b,none)::(a_ V S).own}:=by
    unfold a_
    rw[hl];rfl
   rw[this]
   exact Ent.refl _
  ·exact Ent.refl _
 ·exact Ent.refl _
theorem JL(S:TS V.N)(t:Nat):Ent (a_ V S) (a_ V (Wg V S t)):=by
 unfold Wg
 split
 ·rename_i n ht
  split
  ·rename_i te e xs hn
   have h1:gt (a_ V S).tmps t=some (.vh n (xs.map λx=>bY V.sz V.enc e x).length):=by
    rw[da,ht,aam]
    simp only[aaK,aL,eh hn]
   have:=Ent.vh2sv h1 (dH hn)
   rw[aam]at this
   exact this
  ·exact Ent.refl _
 ·exact Ent.refl _
theorem F_(S:TS V.N)(x:Operand)(ty:TypeId):Ent (a_ V S) (a_ V (OB V P S x ty)):=by
 unfold OB
 split
 ·split
  ·exact Ent.trans (uF _ _ _ S _) (JL _ _)
  ·exact Ent.refl _
 ·exact Ent.refl _
theorem rT:∀(l:List Operand) (tys:List TypeId) (S:TS V.N),Ent (a_ V S) (a_ V (rS V P S l tys))
 |[],_,S=>by simp only[rS];exact Ent.refl _
 |_::_,[],S=>by simp only[rS];exact Ent.refl _
 |x::r,ty::s,S=>by
  simp only[rS]
  exact Ent.trans (F_ S x ty) (rT r s _)
theorem qS:∀{l:List (TV V.N)} {j i m sz n:Nat},DN V j l=some (i,m,sz,n)->j<=i/\l[i-j]?=some (.sv m sz 0 n)
 |[],_,_,_,_,_,h=>by simp[DN]at h
 |x::r,j,i,m,sz,n,h=>by
  simp only[DN]at h
  split at h
  ·simp only[aah,aaS]at h
   obtain⟨rfl,rfl,rfl,rfl⟩:=h
   exact⟨aaJ _,by simp⟩
  ·obtain⟨h1,h2⟩:=qS h
   refine⟨by omega,?_⟩
   have:i-j=(i-(j+1))+1:=by omega
   rw[this]
   simpa using h2
theorem jW:∀{l:List (Nat×TO V.N)} {b:Nat} {o:Option TypeId} {cells:List (TV V.N)} {i m sz n:Nat},qL V S l=some (b,o,cells,i,m,sz,n)->S.own? b=some (.box o cells)/\cells[i]?=some (.sv m sz 0 n)
 |[],_,_,_,_,_,_,_,h=>by simp[qL]at h
 |(b',_)::r,b,o,cells,i,m,sz,n,h=>by
  simp only[qL]at h
  split at h
  ·rename_i o' cells' hb
   split at h
   ·rename_i q hq
    simp only[aah,aaS]at h
    obtain⟨rfl,rfl,rfl,rfl⟩:=h
    have:=(qS hq).2
    exact⟨hb,by simpa using this⟩
   ·exact jW h
  ·exact jW h
theorem DJ{k:TS V.N->Option A}(h:M9 V S k=some r):∃S',k S'=some r/\Ent (a_ V S) (a_ V S'):=by
 unfold M9 at h
 split at h
 ·rename_i b oty cells i m sz l hfs
  obtain⟨hb,hi⟩:=jW hfs
  split at h
  ·rename_i te e xs hm
   replace h:=aG h
   obtain⟨⟨e1,hbm,hf,hg⟩,h⟩:=h
   replace h:=aG h
   obtain⟨hl,h⟩:=h
   subst e1
   generalize 75000+S.own.length=nn at *
   refine⟨_,h,?_⟩
   have hg:nn<given:=by simpa[abU]using hg
   have h1:(a_ V S).own? b=some (.box oty (encL V S.len cells)):=by rw[bL,hb];rfl
   have h2:(encL V S.len cells)[i]?=some (.sv m (tsz V.sz e) 0 l):=by rw[aU,aal,hi];rfl
   have hfr:=eQ hf
   refine Ent.trans (Ent.head h1 h2 (dH hm) (by rw[aam];exact hl) hbm ⟨hfr,hg⟩) ?_
   have hcn:TV.hasL nn cells=false:=by
    have:=hf
    unfold TS.fresh at this
    simp only[aan,aav]at this
    have:=this.2 (b, .box oty cells) (cT hb)
    simpa[TO.has]using this
   have hfo:S.own? nn=none:=by
    have:=hf
    unfold TS.fresh at this
    simp only[aan]at this
    have:=this.1.1
    cases ho:S.own? nn with
    |none=>rfl
    |some x=>rw[ho]at this;cases this
   have hbn:b≠nn:=λe0=>by subst e0;rw[hb]at hfo;cases hfo
   have hmn:m≠nn:=λe0=>by subst e0;rw[hm]at hfo;cases hfo
   generalize hS':({tmps:=S.tmps,own:=(b, .box oty (cells.set i (.vh nn)))::(nn, .vec te e (xs.take l))::(m, .gone (S.len m))::S.own}:TS V.N)=S'
   have hlen:∀q,q≠nn->S'.len q=S.len q:=by
    intro q hq
    subst hS'
    unfold TS.len TS.own?
    simp only[aH]
    by_cases q1:b=q
    ·subst q1
     rw[adT rfl]
     unfold TS.own? at hb
     rw[hb];rfl
    ·rw[adS q1,adS (abC hq)]
     by_cases q2:m=q
     ·subst q2;rw[adT rfl];rfl
     ·rw[adS q2]
   have hlnn:S'.len nn=l:=by
    subst hS'
    unfold TS.len TS.own?
    simp only[aH,adS hbn,adP,TO.len,aa2]
    omega
   refine Ent.le (λt x hx=> ?_) λn x hx=> ?_
   ·rw[da,aau]at hx
    obtain⟨v,hv,rfl⟩:=hx
    have hv':gt S.tmps t=some v:=by subst hS';exact hv
    refine⟨aL V S.len v,by simp only[da,hv'];rfl,?_⟩
    have:aL V S'.len v=aL V S.len v:=jq v λq hq=>hlen q λe0=>by
     subst e0
     have:=fresh_tmp hf hv'
     rw[hq]at this;cases this
    rw[this]
    exact H.le.refl _
   ·rw[bL,abV]at hx
    obtain⟨oo,ho1,ho2⟩:=hx
    refine⟨x,?_,OLe.refl _⟩
    subst hS'
    unfold TS.own? at ho1
    unfold aC.own?
    simp only[aH]at ho1⊢
    by_cases q1:b=n
    ·rw[adT q1]at ho1⊢
     simp only[aah]at ho1;subst ho1
     simp only[cq,aah]at ho2;subst ho2
     have hc:encL V (TS.len {tmps:=S.tmps,own:=(b, .box oty (cells.set i (.vh nn)))::(nn, .vec te e (xs.take l))::(m, .gone (S.len m))::S.own}) (cells.set i (.vh nn))=(encL V S.len cells).set i (.vh nn l):=by
      rw[aU,abT,aU]
      congr 1
      ·rw[<-aU,<-aU]
       refine encL_congr cells λq hq=>hlen q λe0=> ?_
       subst e0;rw[hcn]at hq;cases hq
      ·simp only[aL,hlnn]
     rw[hc]
     rfl
    ·rw[adS q1]at ho1⊢
     by_cases q2:nn=n
     ·rw[adT q2]at ho1⊢
      simp only[aah]at ho1;subst ho1
      simp only[cq,aah]at ho2;subst ho2
      rw[abl];rfl
     ·rw[adS q2]at ho1⊢
      by_cases q3:m=n
      ·rw[adT q3]at ho1
       simp only[aah]at ho1;subst ho1
       cases ho2
      ·rw[adS q3]at ho1⊢
       have hq:(a_ V S).own? n=some x:=by
        rw[bL]
        unfold TS.own?
        rw[ho1]
        have:cq V S.len oo=cq V (TS.len {tmps:=S.tmps,own:=(b, .box oty (cells.set i (.vh nn)))::(nn, .vec te e (xs.take l))::(m, .gone (S.len m))::S.own}) oo:=(qH oo λq hq=>hlen q λe0=>by
         subst e0
         have:=hf
         unfold TS.fresh at this
         simp only[aan,aav]at this
         have:=this.2 (n,oo) (cT ho1)
         simp[hq]at this).symm
        rw[aad,this];exact ho2
       exact hq
  ·cases h
 ·cases h
theorem AD{k:TS V.N->Option A}(h:DF V P pre o S k=some r):∃S',k S'=some r/\Ent (a_ V S) (a_ V S'):=by
 unfold DF at h
 split at h
 ·exact DJ h
 ·split at h
  ·split at h
   ·exact⟨_,h,Cp S _⟩
   ·exact⟨_,h,Ent.refl _⟩
  ·split at h
   ·split at h
    ·split at h
     ·exact⟨_,h,rT _ _ S⟩
     ·exact⟨_,h,Ent.refl _⟩
    ·exact⟨_,h,Ent.refl _⟩
   ·exact⟨_,h,Ent.refl _⟩
  ·exact⟨_,h,Ent.refl _⟩
end
end Go.Tx
end
section
namespace Go.Tx
open Go.Awp
variable [Inhabited GMem]
section
variable {ι:Type} {N:ι->Type}
def setB(S:TS N)(d:Nat)(b:Bool):TS N:={S with tmps:=(d, .lf .bool b)::S.tmps}
def uf(S:TS N)(all:List Oper)(j:Nat):Option (Nat×TV N):=match all[j]? with
 |some o=>match o.dst with
  |some d=>match gt S.tmps d with
   |some v=>some (d,v)
   |none=>none
  |none=>none
 |none=>none
def Dp(n:Nat)(pre:Nat->Bool)(o:Oper):Bool:=match o.dst with
 |some d=>abM d n&& !pre (4000000+d)
 |none=>true
def ff(S:TS N)(e:TE N):Bool:=e.new.all λd=>S.fresh d&&abM d given
end
section
variable (V:iH) (P:Program) (n:Nat) (nm:Nat->Nat) (call:dg V)
def nM:TV V.N->List (TV V.N)
 | .vh n=>[.vh n]
 | .agg cs=>cs
 |_=>[]
def Md(b c:Bool):TV V.N->List (TV V.N)
 | .vh n=>match b with
  |true=>[.vh n]
  |false=>[]
 | .agg cs=>match c with
  |true=>[]
  |false=>cs
 |_=>[]
def Fi(pre:Nat->Bool)(o:Oper)(S:TS V.N):TS V.N:=match o.op with
 | .buildSlice _ _ parts=>frzL V S (parts.toList.flatMap λp=>nM V (tev S p.2))
 | .convert _ _ x=>frzL V S (nM V (tev S x))
 | .slice _ x _ _ _=>frzL V S (nM V (tev S x))
 | .store _ x y=>match tev S x with
  | .ep .. =>frzL V S (nM V (tev S y))
  |_=>S
 | .call c=>match c.callee with
  | .value f=>match tev S f with
   | .fn fid first captured=>frzL V S ((first++c.args.toList.map (tev S)++captured).flatMap (Md V (pre fid) (pre (2000000+fid))))
   | .lf .fnc _=>frzL V S ((c.args.toList.map (tev S)).flatMap (Md V false false))
   |_=>S
  | .builtin .append=>match c.args.toList,c.argTypes.toList with
   |[_, .tmp t],ty::_=>match gt S.tmps t,V.ty ty with
    |some (.vh n),_=>frzL V S [.vh n]
    |some (.raw (.slice (some _) 0 _)),some (.sl e)=>{S with tmps:=(t, .lf (.sl e) [])::S.tmps}
    |some (.raw (.slice none 0 0)),some (.sl e)=>{S with tmps:=(t, .lf (.sl e) [])::S.tmps}
    |_,_=>S
   |_,_=>S
  |_=>S
 |_=>S
def t_{α β:Type}:List α->(List α->β)->β
 |[],k=>k []
 |x::r,k=>t_ r λl=>k (x::l)
theorem oI{α β:Type}:∀(l:List α) (k:List α->β),t_ l k=k l
 |[],_=>rfl
 |x::r,k=>by rw[t_,oI r]
def yA{ι:Type}{N:ι->Type}{β:Type}(S:TS N)(k:TS N->β):β:=t_ S.tmps λt=>t_ S.own λo=>k ⟨t,o⟩
theorem ua{ι:Type}{N:ι->Type}{β:Type}(S:TS N)(k:TS N->β):yA S k=k S:=by
 unfold yA
 rw[oI,oI]
noncomputable def ON{A:Type}(x:Operand)(S:TS V.N)(k:TE V.N->Option A):Option A:=match tev S x with
 | .bp n 0=>match S.own? n with
  |some (.miter m tk tv es rest _)=>if Nk tk=true/\S.len m=0 then
   if rest.isEmpty=true then k {val:= .tup [.lf .bool false],acc:=[n,m],upd:=[(m, .map tk tv es),(n, .gone 0)]}
   else Ms (steps rest) λq=>k {val:= .tup [.lf .bool true, .lf tk q.1.1, .lf tv q.1.2],acc:=[n],upd:=[(n, .miter m tk tv es q.2 (some q.1))]}
   else none
  |_=>none
 |_=>none
noncomputable def txo(pre:Nat->Bool)(o:Oper){A:Type}(S:TS V.N)(k:TS V.N->Option A):Option A:=match o.op with
 | .next x false=>ON V x S λte=>match ff S te with
  |true=>k (S.app o.dst te)
  |false=>none
 |_=>DF V P pre o S λS=>match opX V pre o S with
  |true=>tdX V P nm pre o S λte=>match ff S te with
   |true=>k (S.app o.dst te)
   |false=>none
  |false=>tx V P nm call false o (Fi V pre o S) λte=>match ff (Fi V pre o S) te with
   |true=>k ((Fi V pre o S).app o.dst te)
   |false=>none
noncomputable def txs(pre:Nat->Bool)(all:List Oper){A:Type}:List Oper->TS V.N->(TS V.N->Option A)->Option A
 |[],S,k=>k S
 |o::os,S,k=>yA S λS=>match Dp n pre o with
  |false=>none
  |true=>match o.guard with
   |none=>txo V P nm call pre o S λS'=>txs pre all os S' k
   |some (j,want)=>match uf S all j with
    |some (d, .lf .bool b)=>if b=true then
      match want with
      |true=>txo V P nm call pre o (setB S d true) λS'=>txs pre all os S' k
      |false=>txs pre all os ((setB S d true).app o.dst {val:= .tup []}) k
     else
      match want with
      |false=>txo V P nm call pre o (setB S d false) λS'=>txs pre all os S' k
      |true=>txs pre all os ((setB S d false).app o.dst {val:= .tup []}) k
    |some (_, .tup [])=>txs pre all os (S.app o.dst {val:= .tup []}) k
    |_=>none
def txq(pre:Nat->Bool)(o:Oper){A:Type}(S:TS V.N)(k:TE V.N->Option A):Option A:=match opX V pre o S with
 |true=>tdX V P nm pre o S k
 |false=>tx V P nm call true o S k
def txd(pre:Nat->Bool)(all:List Oper){A:Type}:List Oper->TS V.N->List Tr1->(TS V.N->List Tr1->Option A)->Option A
 |[],S,tr,k=>k S tr
 |o::os,S,tr,k=>yA S λS=>match Dp n pre o with
  |false=>none
  |true=>match det o.op with
   |false=>none
   |true=>match o.guard with
   |none=>txq V P nm call pre o S λte=>match ff S te with
    |true=>txd pre all os (S.app o.dst te) (tr++[⟨gB (S.app o.dst te).len te,true⟩]) k
    |false=>none
   |some (j,want)=>match uf S all j with
    |some (d, .lf .bool b)=>if b=true then
      match want with
      |true=>txq V P nm call pre o (setB S d true) λte=>match ff (setB S d true) te with
       |true=>txd pre all os ((setB S d true).app o.dst te) (tr++[⟨gB ((setB S d true).app o.dst te).len te,true⟩]) k
       |false=>none
      |false=>txd pre all os ((setB S d true).app o.dst {val:= .tup []}) (tr++[⟨{val:= .tup []},false⟩]) k
     else
      match want with
      |false=>txq V P nm call pre o (setB S d false) λte=>match ff (setB S d false) te with
       |true=>txd pre all os ((setB S d false).app o.dst te) (tr++[⟨gB ((setB S d false).app o.dst te).len te,true⟩]) k
       |false=>none
      |true=>txd pre all os ((setB S d false).app o.dst {val:= .tup []}) (tr++[⟨{val:= .tup []},false⟩]) k
    |some (_, .tup [])=>txd pre all os (S.app o.dst {val:= .tup []}) (tr++[⟨{val:= .tup []},false⟩]) k
    |_=>none
end
section
variable {V:iH}
theorem s6{C:Ctx}{E:Env}{M:Mem}{S:TS V.N}{d:Nat}{b:Bool}{a:Act}{w:World}(hd:gt S.tmps d=some (.lf .bool b))(hs:Sim C E M (a_ V S) a w):Sim C E M (a_ V (setB S d b)) a w:=by
 have hl:(setB S d b).len=S.len:=rfl
 refine Sim.le hs (λt x hx=> ?_) λn o ho=>⟨o,ho,OLe.refl _⟩
 rw[da]at hx⊢
 simp only[setB,aH]at hx
 by_cases h:d=t
 ·subst h
  rw[adT rfl]at hx
  rw[hd]
  exact⟨x,hx,H.le.refl _⟩
 ·rw[adS h]at hx
  exact⟨x,hx,H.le.refl _⟩
theorem jX{S:TS V.N}{all:List Oper}{j d:Nat}{v:TV V.N}(h:uf S all j=some (d,v)):gt S.tmps d=some v/\∃o,all[j]?=some o/\o.dst=some d:=by
 unfold uf at h
 split at h
 ·rename_i o ho
  split at h
  ·rename_i d' hd
   split at h
   ·rename_i v' hv
    simp at h;obtain⟨rfl,rfl⟩:=h
    exact⟨hv,o,ho,hd⟩
   ·cases h
  ·cases h
 ·cases h
theorem ku{S:TS V.N}{σ:aC}(hσ:∀t,gt σ.tmps t=gt (a_ V S).tmps t){all:List Oper}{j d:Nat}{v:TV V.N}{want b:Bool}(h:uf S all j=some (d,v))
 (hv:v= .lf .bool b\/v= .tup []/\b= !want):jK σ all j want=some b:=by
 obtain⟨h1,o,h2,h3⟩:=jX h
 have hg:σ.get d=aL V S.len v:=by
  unfold aC.get
  rw[hσ,da,h1];rfl
 unfold jK
 simp only[h2,h3,hg]
 rcases hv with rfl|⟨rfl,rfl⟩
 ·simp[aL,bC]
 ·simp[aL,encL]
theorem ej{S:TS V.N}{te:TE V.N}(h:ff S te=true):(∀d∈te.new,S.fresh d=true)/\∀d∈te.new,d<given:=by
 unfold ff at h
 rw[aav]at h
 refine⟨λd hd=> ?_,λd hd=> ?_⟩
 ·have:=h d hd
  simp only[aan]at this
  exact this.1
 ·have:=h d hd
  simp only[aan,abU]at this
  exact this.2
def Fx(C:Ctx)(pre:Nat->Bool):Prop:=∀p∈C.fix,pre (4000000+p.1)=true
theorem sc{C:Ctx}{pre:Nat->Bool}{o:Oper}(hF:Fx C pre)(h:Dp C.N pre o=true):∀d,o.dst=some d->C.wr d:=by
 intro d hd
 unfold Dp at h
 rw[hd]at h
 simp only[aan,abU,acN]at h
 refine⟨h.1,λp hp e=> ?_⟩
 have:=hF p hp
 rw[e,h.2]at this
 cases this
theorem zF(S:TS V.N):good S {val:= .tup []}:=jv S _ _
theorem OU{C:Ctx}{E:Env}{M:Mem}{S:TS V.N}{o:Oper}{a:Act}{w:World}(hd:∀d,o.dst=some d->C.wr d)(hs:Sim C E M (a_ V S) a w):Sim C E M (a_ V (S.app o.dst {val:= .tup []})) (a.put o.dst undef) w:=by
 have h1:=hs.app_val (o:=o) hd (e:={val:= .tup []}) rfl Mc
 refine Sim.tapp (ex:=false) (e':={val:= .tup []}) (zF S) (λd h=>by cases h) (tT ?_) h1
 simp[aL,encL]
theorem WG{C:Ctx}{nm:Nat->Nat}{call:dg V}{ex:Bool}{o:Oper}{S:TS V.N}{A:Type}{k:TS V.N->Option A}{r:A}{E:Env}{M:Mem}{a:Act}{w:World}{K:Act->World->Prop}{Q:Exit->Act->World->Prop}
 (hcall:bH C.P call)(hd:∀d,o.dst=some d->C.wr d)(h:(tx V C.P nm call ex o S λte=>match ff S te with|true=>k (S.app o.dst te)|false=>none)=some r)(hs:Sim C E M (a_ V S) a w)
 (hK:∀te E' M' a' w',k (S.app o.dst te)=some r->Sim C E' M' (a_ V (S.app o.dst te)) a' w'->K a' w'):o.wp C.P a w K Q:=by
 have hnew:∀te:TE V.N,(match ff S te with|true=>k (S.app o.dst te)|false=>none)=some r->ff S te=true/\k (S.app o.dst te)=some r:=by
  intro te h
  cases hq:ff S te with
  |true=>rw[hq]at h;exact⟨rfl,h⟩
  |false=>rw[hq]at h;cases h
 obtain⟨te,h1,h2,h3⟩:=zH hcall (λte hte=>(ej (hnew te hte).1).1) h
 obtain⟨hn,hk⟩:=hnew te h1
 obtain⟨f1,f2⟩:=ej hn
 refine uG hd E M (a_ V S) a w K Q (λe=>ELe ex e (gB (S.app o.dst te).len te)) hs (nO (λe he=>⟨λd hd=> ?_,he⟩) h3) λe E' M' a' w' he hs'=>hK te E' M' a' w' hk (Sim.tapp h2 f1 he hs')
 have hd:d∈te.new:=by rw[he.new]at hd;exact hd
 exact⟨eQ (f1 d hd),f2 d hd⟩
theorem JS{C:Ctx}{nm:Nat->Nat}{pre:Nat->Bool}{o:Oper}{S:TS V.N}{A:Type}{k:TS V.N->Option A}{r:A}{E:Env}{M:Mem}{a:Act}{w:World}{K:Act->World->Prop}{Q:Exit->Act->World->Prop}
 (hd:∀d,o.dst=some d->C.wr d)(h:(tdX V C.P nm pre o S λte=>match ff S te with|true=>k (S.app o.dst te)|false=>none)=some r)(hs:Sim C E M (a_ V S) a w)
 (hK:∀te E' M' a' w',k (S.app o.dst te)=some r->Sim C E' M' (a_ V (S.app o.dst te)) a' w'->K a' w'):o.wp C.P a w K Q:=by
 have hnew:∀te:TE V.N,(match ff S te with|true=>k (S.app o.dst te)|false=>none)=some r->ff S te=true/\k (S.app o.dst te)=some r:=by
  intro te h
  cases hq:ff S te with
  |true=>rw[hq]at h;exact⟨rfl,h⟩
  |false=>rw[hq]at h;cases h
 obtain⟨te,h1,h2,e',h3,h4⟩:=vm (λte hte=>(ej (hnew te hte).1).1) h
 obtain⟨hn,hk⟩:=hnew te h1
 obtain⟨f1,f2⟩:=ej hn
 refine h3.ok hd hs (λd hd=> ?_) λE' M' a' w' hs'=>hK te E' M' a' w' hk (Sim.tapp h2 f1 h4 hs')
 have hd:d∈te.new:=by rw[h4.new]at hd;exact hd
 exact⟨eQ (f1 d hd),f2 d hd⟩
theorem ur{α β:Type}(f:α->β):∀(l:List α) (i:Nat),(l.eraseIdx i).map f=(l.map f).eraseIdx i
 |[],_=>rfl
 |_::_,0=>rfl
 |x::r,i+1=>by simp[adk,ur f r i]
theorem JX{C:Ctx}{nm:Nat->Nat}{o:Oper}{S:TS V.N}{A:Type}{k:TS V.N->Option A}{r:A}{E:Env}{M:Mem}{a:Act}{w:World}{K:Act->World->Prop}{Q:Exit->Act->World->Prop}{x:Operand}
 (ho:o.op= .next x false)(hd:∀d,o.dst=some d->C.wr d)(h:(ON V x S λte=>match ff S te with|true=>k (S.app o.dst te)|false=>none)=some r)(hs:Sim C E M (a_ V S) a w)
 (hK:∀te E' M' a' w',k (S.app o.dst te)=some r->Sim C E' M' (a_ V (S.app o.dst te)) a' w'->K a' w'):o.wp C.P a w K Q:=by
 have hnew:∀te:TE V.N,(match ff S te with|true=>k (S.app o.dst te)|false=>none)=some r->ff S te=true/\k (S.app o.dst te)=some r:=by
  intro te h
  cases hq:ff S te with
  |true=>rw[hq]at h;exact⟨rfl,h⟩
  |false=>rw[hq]at h;cases h
 have go:∀(te:TE V.N) (e:Eff),(match ff S te with|true=>k (S.app o.dst te)|false=>none)=some r->good S te->ELe false e (gB (S.app o.dst te).len te)->
  (∀d∈e.new,(a_ V S).fresh d=true/\d<given)/\∃te,good S te/\(∀d∈te.new,S.fresh d=true)/\ELe false e (gB (S.app o.dst te).len te)/\k (S.app o.dst te)=some r:=by
  intro te e h hg he
  obtain⟨hn,hk⟩:=hnew te h
  obtain⟨f1,f2⟩:=ej hn
  exact⟨λd hd=>by
   have hd:d∈te.new:=by rw[he.new]at hd;exact hd
   exact⟨eQ (f1 d hd),f2 d hd⟩,te,hg,f1,he,hk⟩
 unfold ON at h
 split at h
 ·rename_i n hx
  split at h
  ·rename_i m tk tv es rest cur hown
   obtain⟨⟨hkey,hlm⟩,h⟩:=aG h
   refine uG (nm:=nm) hd E M (a_ V S) a w K Q (λe=>∃te,good S te/\(∀d∈te.new,S.fresh d=true)/\ELe false e (gB (S.app o.dst te).len te)/\k (S.app o.dst te)=some r) hs ?_
    λe E' M' a' w' ⟨te,h2,f1,he,hk⟩ hs'=>hK te E' M' a' w' hk (Sim.tapp h2 f1 he hs')
   simp only[bN,ho,aI,hx,aL,uM hown]
   refine⟨trivial,λhr=> ?_,λi p hp=> ?_⟩
   ·have hr:rest=[]:=by simpa using hr
    subst hr
    simp only[List.isEmpty_nil,adP]at h
    refine go {val:= .tup [.lf .bool false],acc:=[n,m],upd:=[(m, .map tk tv es),(n, .gone 0)]} {val:= .tup [.d (.v (.bool false))],acc:=[n,m],upd:=[(m,some (.map (es.map λp=>(eA V.enc tk p.1,bC V.sz V.enc tv p.2)))),(n,none)]} h (λm' o' hm=> ?_)
     (cW (by simp[aL,encL,bC]) rfl (by simp[cq]) rfl)
    simp only[aH]at hm
    right
    split at hm
    ·rename_i e;simp at hm;subst hm;subst e;simp[TO.len,hlm]
    ·split at hm
     ·rename_i e;simp at hm;subst hm;subst e;simp[TO.len,uk hown]
     ·simp[gt]at hm
   ·rw[aal,aau]at hp
    obtain⟨q,hq,rfl⟩:=hp
    have hne:rest.isEmpty=false:=by cases rest with|nil=>simp at hq|cons a r=>rfl
    rw[adS (by simp[hne]),anyOf_some]at h
    have h:=h.2 _ (F9 hq)
    refine go {val:= .tup [.lf .bool true, .lf tk q.1, .lf tv q.2],acc:=[n],upd:=[(n, .miter m tk tv es (rest.eraseIdx i) (some q))]}
     {val:= .tup [.d (.v (.bool true)), .d (.v (eA V.enc tk q.1)), .d (bC V.sz V.enc tv q.2)],acc:=[n],upd:=[(n,some (.miter m (es.map λp=>(eA V.enc tk p.1,bC V.sz V.enc tv p.2)) ((rest.map λp=>(eA V.enc tk p.1,bC V.sz V.enc tv p.2)).eraseIdx i) (some (eA V.enc tk q.1,bC V.sz V.enc tv q.2))))]} h (λm' o' hm=> ?_)
     (cW (by simp only[aL,encL,DX hkey];rfl) rfl (by simp[cq,ur]) rfl)
    simp only[aH]at hm
    right
    split at hm
    ·rename_i e;simp at hm;subst hm;subst e;simp[TO.len,uk hown]
    ·simp[gt]at hm
  ·cases h
 ·cases h
theorem F8{S:TS V.N}{t:Nat}{v v':TV V.N}(ht:gt S.tmps t=some v)(h:H.le (aL V S.len v) (aL V S.len v')):Ent (a_ V S) (a_ V {S with tmps:=(t,v')::S.tmps}):=
 Ent.le (λd x hx=>by
  have hl:({S with tmps:=(t,v')::S.tmps}:TS V.N).len=S.len:=rfl
  rw[da]at hx
  simp only[aH,hl]at hx
  by_cases h1:t=d
  ·subst h1
   rw[adT rfl]at hx
   simp at hx;subst hx
   exact⟨_,by rw[da,ht];rfl,h⟩
  ·rw[adS h1]at hx
   exact⟨x,by rw[da];exact hx,H.le.refl _⟩) λn o ho=>⟨o,ho,OLe.refl _⟩
theorem Fj(pre:Nat->Bool)(o:Oper)(S:TS V.N):Ent (a_ V S) (a_ V (Fi V pre o S)):=by
 unfold Fi
 split
 ·exact ee _ S
 ·exact ee _ S
 ·exact ee _ S
 ·split
  ·exact ee _ S
  ·exact Ent.refl _
 ·split
  ·split
   ·exact ee _ S
   ·exact ee _ S
   ·exact Ent.refl _
  ·split
   ·split
    ·exact ee _ S
    ·rename_i ht _
     refine F8 ht ?_
     simp only[aL,cw,bC,aa9]
     exactλE M v h=>by rw[h.dv];exact .d (.slmt _ _ _)
    ·rename_i ht _
     refine F8 ht ?_
     simp only[aL,cw,bC,aa9]
     exactλE M v h=>by rw[h.dv];exact .d (.slnil _)
    ·exact Ent.refl _
   ·exact Ent.refl _
  ·exact Ent.refl _
 ·exact Ent.refl _
theorem SE{C:Ctx}{nm:Nat->Nat}{call:dg V}{pre:Nat->Bool}{o:Oper}{S:TS V.N}{A:Type}{k:TS V.N->Option A}{r:A}{E:Env}{M:Mem}{a:Act}{w:World}{K:Act->World->Prop}{Q:Exit->Act->World->Prop}
 (hcall:bH C.P call)(hd:∀d,o.dst=some d->C.wr d)(h:txo V C.P nm call pre o S k=some r)(hs:Sim C E M (a_ V S) a w)
 (hK:∀S' E' M' a' w',k S'=some r->Sim C E' M' (a_ V S') a' w'->K a' w'):o.wp C.P a w K Q:=by
 unfold txo at h
 split at h
 ·rename_i x hx
  exact JX (nm:=nm) hx hd h hs λte E' M' a' w' hk hs'=>hK _ E' M' a' w' hk hs'
 ·obtain⟨S1,h,he⟩:=AD h
  obtain⟨E,M,hs⟩:=he C E M a w hs
  split at h
  ·exact JS hd h hs λte E' M' a' w' hk hs'=>hK _ E' M' a' w' hk hs'
  ·obtain⟨_,_,hs1⟩:=Fj pre o S1 C E M a w hs
   exact WG hcall hd h hs1 λte E' M' a' w' hk hs'=>hK _ E' M' a' w' hk hs'
theorem pU{C:Ctx}{nm:Nat->Nat}{call:dg V}{pre:Nat->Bool}{ops:Array Oper}{Q:Exit->Act->World->Prop}{A:Type}{r:A}(hcall:bH C.P call)(hF:Fx C pre):∀(l:List Oper) (i:Nat) (S:TS V.N) (k:TS V.N->Option A) (E:Env) (M:Mem) (a:Act) (w:World),
 ops.toList.drop i=l->txs V C.P C.N nm call pre ops.toList l S k=some r->Sim C E M (a_ V S) a w->(∀S' E' M' a' w',k S'=some r->Sim C E' M' (a_ V S') a' w'->Q .normal a' w')->
 wpOps C.P ops Q ((abA l.length).map (i+ ·)) a w
 |[],i,S,k,E,M,a,w,_,h,hs,hQ=>by
  simp only[txs]at h
  simpa[wpOps]using hQ S E M a w h hs
 |o::os,i,S,k,E,M,a,w,hl,h,hs,hQ=>by
  have hi:ops[i]?=some o:=by
   have:(ops.toList.drop i)[0]?=some o:=by rw[hl];rfl
   simpa using this
  have hl':ops.toList.drop (i+1)=os:=by
   rw[<-List.tail_drop,hl];rfl
  have hlist:(abA (o::os).length).map (i+ ·)=i::(abA os.length).map (i+1+ ·):=by
   simp only[aaq,List.range_succ_eq_map,aas,aaV,abq]
   congr 1
   apply aaO
   intro x _
   simp;omega
  rw[hlist]
  simp only[txs,ua]at h
  split at h
  ·cases h
  rename_i hdst
  have run:∀(S:TS V.N),Sim C E M (a_ V S) a w->(txo V C.P nm call pre o S λS'=>txs V C.P C.N nm call pre ops.toList os S' k)=some r->
   o.wp C.P a w (wpOps C.P ops Q ((abA os.length).map (i+1+ ·))) Q:=λS hs h=>
   SE (k:=λS'=>txs V C.P C.N nm call pre ops.toList os S' k) hcall (sc hF hdst) h hs λS' E' M' a' w' hk hs'=>pU hcall hF os (i+1) _ k E' M' a' w' hl' hk hs' hQ
  have off:∀(S:TS V.N),Sim C E M (a_ V S) a w->txs V C.P C.N nm call pre ops.toList os (S.app o.dst {val:= .tup []}) k=some r->
   wpOps C.P ops Q ((abA os.length).map (i+1+ ·)) (a.put o.dst undef) w:=λS hs h=>
   pU hcall hF os (i+1) _ k E M _ w hl' h (OU (sc hF hdst) hs) hQ
  simp only[wpOps,hi]
  cases hg:o.guard with
  |none=>
   simp only[hg]at h
   rw[adT (by simp[Region.wanted,hg])]
   exact .inl (run S hs h)
  |some g=>
   obtain⟨j,want⟩:=g
   simp only[hg]at h
   split at h
   ·rename_i d b hgv
    have hb:=ku (V:=V) (S:=S) (σ:=a_ V S) (λt=>rfl) (want:=want) hgv (.inl rfl)
    have hy:=hs.guard hb
    have hgt:=(jX hgv).1
    cases b with
    |true=>
     rw[adT rfl]at h
     have hs':=s6 hgt hs
     cases want with
     |true=>
      rw[adT (by simp[Region.wanted,hg,hy])]
      exact .inl (run _ hs' h)
     |false=>
      rw[adS (by simp[Region.wanted,hg,hy])]
      exact off _ hs' h
    |false=>
     rw[adS (by simp)]at h
     have hs':=s6 hgt hs
     cases want with
     |false=>
      rw[adT (by simp[Region.wanted,hg,hy])]
      exact .inl (run _ hs' h)
     |true=>
      rw[adS (by simp[Region.wanted,hg,hy])]
      exact off _ hs' h
   ·rename_i d hgv
    have hb:=ku (V:=V) (S:=S) (σ:=a_ V S) (λt=>rfl) (want:=want) hgv (.inr ⟨rfl,rfl⟩)
    have hy:=hs.guard hb
    rw[adS (by cases want<;>simp[Region.wanted,hg,hy])]
    exact off _ hs h
   ·cases h
structure Rl (σ:aC) (S:TS V.N):Prop where
 tmp:∀t,gt σ.tmps t=gt (a_ V S).tmps t
 own:∀n,σ.own? n=(a_ V S).own? n
 fresh:∀d,S.fresh d=true->σ.fresh d=true
theorem Rl.refl(S:TS V.N):Rl (a_ V S) S:=⟨λ_=>rfl,λ_=>rfl,λ_ h=>eQ h⟩
theorem Rl.ent{σ:aC}{S:TS V.N}(h:Rl σ S):Ent σ (a_ V S):=Ent.le (λt x hx=>⟨x,by rw[h.tmp];exact hx,H.le.refl _⟩) λn o ho=>⟨o,by rw[h.own];exact ho,OLe.refl _⟩
theorem Rl.setB{σ:aC}{S:TS V.N}(h:Rl σ S){d:Nat}{b:Bool}(hd:gt S.tmps d=some (.lf .bool b)):Rl σ (setB S d b)where
 tmp:=λt=>by
  rw[h.tmp,da,da]
  simp only[Tx.setB,aH]
  by_cases e:d=t
  ·subst e;rw[adT rfl,hd];simp[aL]
  ·rw[adS e];rfl
 own:=λn=>h.own n
 fresh:=λn hn=>h.fresh n (by
  unfold TS.fresh at hn⊢
  simp only[aan]at hn⊢
  refine⟨⟨hn.1.1,?_⟩,hn.2⟩
  have:=hn.1.2
  simp only[Tx.setB,abv,aan]at this
  exact this.2)
theorem Rl.app{σ:aC}{S:TS V.N}(h:Rl σ S){dst:Option Tmp}{te:TE V.N}(hg:good S te)(hn:∀d∈te.new,S.fresh d=true):Rl (σ.app dst (gB (S.app dst te).len te)) (S.app dst te)where
 tmp:=λt=>by
  rw[(se (dst:=dst) hg hn).1]
  simp only[aC.app,tn]
  cases dst with
  |none=>exact h.tmp t
  |some d=>simp only[aH];rw[h.tmp]
 own:=λn=>by
  rw[(se (dst:=dst) hg hn).2]
  have:=h.own n
  unfold aC.own? at this⊢
  simp only[aC.app,e_]
  cases gt (gB (S.app dst te).len te).upd n with
  |some o=>rfl
  |none=>exact this
 fresh:=λn hn'=>by
  unfold TS.fresh at hn'
  simp only[aan]at hn'
  obtain⟨⟨f1,f2⟩,f3⟩:=hn'
  have hu:gt te.upd n=none:=by
   rw[ng]at f1
   cases hq:gt te.upd n with
   |none=>rfl
   |some o=>rw[hq]at f1;cases f1
  have hs:S.fresh n=true:=by
   unfold TS.fresh
   simp only[aan]
   refine⟨⟨?_,?_⟩,?_⟩
   ·rw[ng,hu]at f1;exact f1
   ·rw[aav]at f2⊢
    intro p hp
    refine f2 p ?_
    unfold TS.app Tg
    cases dst with
    |none=>exact hp
    |some d=>exact aar _ hp
   ·rw[aav]at f3⊢
    exactλp hp=>f3 p (ab2 _ hp)
  have hσ:=h.fresh n hs
  unfold aC.fresh at hσ⊢
  simp only[aan]at hσ⊢
  obtain⟨⟨g1,g2⟩,g3⟩:=hσ
  refine⟨⟨?_,?_⟩,?_⟩
  ·have hq:gt (gB (S.app dst te).len te).upd n=none:=by simp only[gB,gJ,hu];rfl
   unfold aC.own? at g1⊢
   simp only[aC.app,e_,hq]
   exact g1
  ·simp only[aC.app,tn]
   cases dst with
   |none=>exact g2
   |some d=>
    rw[abv,aan]
    refine⟨?_,g2⟩
    rw[aav]at f2
    have:=f2 (d,te.val) (by simp[TS.app,Tg])
    simpa[gB,jr]using this
  ·simp only[aC.app,List.all_append,aan]
   refine⟨?_,g3⟩
   rw[aav]at f3⊢
   intro p hp
   simp only[gB,aaL]at hp
   obtain⟨q,hq,rfl⟩:=hp
   have:=f3 q (abw _ hq)
   simp only
   cases ho:cq V (S.app dst te).len q.2 with
   |none=>rfl
   |some o=>simp only[kj _ n ho];exact this
theorem Rl.tup{σ:aC}{S:TS V.N}(h:Rl σ S){dst:Option Tmp}:Rl (σ.app dst {val:= .tup []}) (S.app dst {val:= .tup []}):=by
 have:=h.app (dst:=dst) (te:={val:= .tup []}) (zF S) λd h=>by cases h
 simpa[gB,aL,encL]using this
theorem Gl{P:Program}{nm:Nat->Nat}{call:dg V}{pre:Nat->Bool}{o:Oper}{S:TS V.N}{A:Type}{k:TE V.N->Option A}{r:A}(hcall:bH P call)(hf:∀te,k te=some r->∀d∈te.new,S.fresh d=true)(h:txq V P nm call pre o S k=some r):
 ∃te,k te=some r/\good S te/\vC P nm o (ev (a_ V S)) (a_ V S).own? λe=>ELe true e (gB (S.app o.dst te).len te):=by
 unfold txq at h
 split at h
 ·obtain⟨te,h1,h2,e',h3,h4⟩:=vm hf h
  exact⟨te,h1,h2, .inr ⟨e',h3,h4⟩⟩
 ·obtain⟨te,h1,h2,h3⟩:=zH hcall hf h
  exact⟨te,h1,h2, .inl h3⟩
theorem pT{P:Program}{n:Nat}{W:Nat->Prop}{nm:Nat->Nat}{call:dg V}{pre:Nat->Bool}{all:List Oper}{A:Type}{r:A}(hcall:bH P call)(hW:∀o,Dp n pre o=true->∀d,o.dst=some d->W d):∀(l:List Oper) (S:TS V.N) (σ:aC) (tr:List Tr1) (k:TS V.N->List Tr1->Option A),
 txd V P n nm call pre all l S tr k=some r->Rl σ S->jH P W nm all l σ tr λσ' tr'=>∃S',Rl σ' S'/\k S' tr'=some r
 |[],S,σ,tr,k,h,hr=>by
  simp only[txd]at h
  exact⟨S,hr,h⟩
 |o::os,S,σ,tr,k,h,hr=>by
  simp only[txd,ua]at h
  split at h
  ·cases h
  rename_i hdst
  split at h
  ·cases h
  rename_i hdet
  have run:∀(S:TS V.N),Rl σ S->(txq V P nm call pre o S λte=>match ff S te with|true=>txd V P n nm call pre all os (S.app o.dst te) (tr++[⟨gB (S.app o.dst te).len te,true⟩]) k|false=>none)=some r->
   vC P nm o (ev σ) σ.own? λe=>(∀d∈e.new,σ.fresh d=true/\d<given)/\jH P W nm all os (σ.app o.dst e) (tr++[⟨e,true⟩]) λσ' tr'=>∃S',Rl σ' S'/\k S' tr'=some r:=by
   intro S hr h
   have hnew:∀te:TE V.N,(match ff S te with|true=>txd V P n nm call pre all os (S.app o.dst te) (tr++[⟨gB (S.app o.dst te).len te,true⟩]) k|false=>none)=some r->
    ff S te=true/\txd V P n nm call pre all os (S.app o.dst te) (tr++[⟨gB (S.app o.dst te).len te,true⟩]) k=some r:=by
    intro te h
    cases hq:ff S te with
    |true=>rw[hq]at h;exact⟨rfl,h⟩
    |false=>rw[hq]at h;cases h
   obtain⟨te,h1,h2,h3⟩:=Gl hcall (λte hte=>(ej (hnew te hte).1).1) h
   obtain⟨hn,hk⟩:=hnew te h1
   obtain⟨f1,f2⟩:=ej hn
   have e1:ev σ=ev (a_ V S):=by
    funext x
    cases x with
    |tmp t=>simp only[ev,aC.get,hr.tmp]
    |_=>rfl
   have e2:σ.own?=(a_ V S).own?:=funext hr.own
   rw[e1,e2]
   refine ka (λe he=> ?_) h3
   have he':e=gB (S.app o.dst te).len te:=by
    obtain⟨q1,q2,q3⟩:=he.eq rfl
    have q4:=he.new
    cases e
    simp only at q1 q2 q3 q4
    subst q1;subst q2;subst q3;subst q4;rfl
   subst he'
   exact⟨λd hd=>⟨hr.fresh d (f1 d hd),f2 d hd⟩,pT hcall hW os _ _ _ k hk (hr.app h2 f1)⟩
  have off:∀(S:TS V.N),Rl σ S->txd V P n nm call pre all os (S.app o.dst {val:= .tup []}) (tr++[⟨{val:= .tup []},false⟩]) k=some r->
   jH P W nm all os (σ.app o.dst {val:= .tup []}) (tr++[⟨{val:= .tup []},false⟩]) λσ' tr'=>∃S',Rl σ' S'/\k S' tr'=some r:=λS hr h=>
   pT hcall hW os _ _ _ k h hr.tup
  simp only[jH]
  refine⟨⟨hW o hdst,hdet⟩,?_⟩
  cases hg:o.guard with
  |none=>
   simp only[hg]at h
   exact run S hr h
  |some g=>
   obtain⟨j,want⟩:=g
   simp only[hg]at h
   split at h
   ·rename_i d b hgv
    have hb:=ku (V:=V) (S:=S) (σ:=σ) hr.tmp (want:=want) hgv (.inl rfl)
    have hgt:=(jX hgv).1
    simp only[hb]
    cases b with
    |true=>
     rw[adT rfl]at h
     have hr':=hr.setB hgt
     cases want with
     |true=>exact⟨λ_=>run _ hr' h,λe=>by simp at e⟩
     |false=>exact⟨λe=>by simp at e,λ_=>off _ hr' h⟩
    |false=>
     rw[adS (by simp)]at h
     have hr':=hr.setB hgt
     cases want with
     |false=>exact⟨λ_=>run _ hr' h,λe=>by simp at e⟩
     |true=>exact⟨λe=>by simp at e,λ_=>off _ hr' h⟩
   ·rename_i d hgv
    have hb:=ku (V:=V) (S:=S) (σ:=σ) hr.tmp (want:=want) hgv (.inr ⟨rfl,rfl⟩)
    simp only[hb]
    exact⟨λe=>by cases want<;>simp at e,λ_=>off _ hr h⟩
   ·cases h
end
end Go.Tx
end
section
namespace Go.Tx
open Go.Awp
variable [Inhabited GMem]
inductive Alt where
 |norm
 |ret
 |exit (id:Nat)
 deriving DecidableEq
section
variable (V:iH)
structure aN where
 exits:Nat->Cut V.ι:=λ_=>⟨[],[]⟩
 rcut:Cut V.ι
variable {V}
def c9(sh:aN V)(jt:List (Ty V.ι)):Alt->List (Ty V.ι)
 | .norm=>jt
 | .ret=>sh.rcut.tys
 | .exit id=>(sh.exits id).tys
def nR(E:Alt->List (Ty V.ι)):List Alt->Type
 |[]=>Empty
 |[a]=>HL V.N (E a)
 |a::b::r=>HL V.N (E a)⊕nR E (b::r)
def inj(E:Alt->List (Ty V.ι)):(alts:List Alt)->(a:Alt)->HL V.N (E a)->Option (nR E alts)
 |[],_,_=>none
 |[b],a,v=>if h:a=b then some (h▸v)else none
 |b::c::r,a,v=>if h:a=b then some (.inl (h▸v))else match inj E (c::r) a v with
  |some o=>some (.inr o)
  |none=>none
def qP(E:Alt->List (Ty V.ι)){A:Type}:(alts:List Alt)->nR E alts->((a:Alt)->HL V.N (E a)->Option A)->Option A
 |[],_,_=>none
 |[a],v,f=>f a v
 |a::b::r,o,f=>match o with
  | .inl v=>f a v
  | .inr o'=>qP E (b::r) o' f
theorem dY{E:Alt->List (Ty V.ι)}{A:Type}{f:(a:Alt)->HL V.N (E a)->Option A}:∀{alts:List Alt} {a:Alt} {v:HL V.N (E a)} {o:nR E alts},inj E alts a v=some o->qP E alts o f=f a v
 |[],a,v,o,h=>by simp[inj]at h
 |[b],a,v,o,h=>by
  simp only[inj]at h
  split at h
  ·rename_i e;subst e;cases h;rfl
  ·cases h
 |b::c::r,a,v,o,h=>by
  simp only[inj]at h
  split at h
  ·rename_i e;subst e;cases h;rfl
  ·split at h
   ·rename_i o' ho
    cases h
    show qP E (c::r) o' f=f a v
    exact dY (f:=f) ho
   ·cases h
variable (V)
structure mZ (sh:aN V)where
 cut:Cut V.ι
 alts:List Alt
 F:HL V.N cut.tys->Option (nR (c9 sh []) alts)
structure Xc where
 P:Program
 n:Nat
 nm:Nat->Nat:=id
 call:dg V
 pre:Nat->Bool:=λ_=>false
 sh:aN V
 joins:Nat->Option (Cut V.ι×List Alt):=λ_=>none
 regs:Nat->Option (Cut V.ι):=λ_=>none
 loops:Nat->Option (mZ V sh):=λ_=>none
 pair:Nat->PT:=λ_=> .leaf
 jumps:Nat->Option (Nat×mZ V sh):=λ_=>none
def cG:Code->Nat
 | .region id _ _=>id
 | .seq a b=>if cG a=1000000 then cG b else cG a
 | .block _ x=>cG x
 | .cond _ a b=>if cG a=1000000 then cG b else cG a
 | .loop b=>cG b
 | .scope b=>cG b
 |_=>1000000
variable {V}
noncomputable def To{A:Type}(x y:Option A):Option A:=by classical exact if x=y then x else none
theorem Co{A:Type}{x y:Option A}{r:A}(h:To x y=some r):x=some r/\y=some r:=by
 unfold To at h
 split at h
 ·rename_i e;exact⟨h,e▸h⟩
 ·cases h
def Ud(X:Xc V){A:Type}(ops:Array Oper)(S:TS V.N)(k:TS V.N->Option A):Option A:=
 txd V X.P X.n X.nm X.call X.pre ops.toList ops.toList S [] λS' tr=>match yn ops.toList tr with
  |true=>k S'
  |false=>none
def ze(i j n:Nat):Bool:= !abc i j&&abM i n&&abM j n
noncomputable def Ra(X:Xc V){A:Type}(S:TS V.N)(k:TS V.N->Option A):PT->Array Oper->Option A
 | .leaf,ops=>Ud X ops S k
 | .node i j a b,ops=>match ze i j ops.size with
  |true=>To (Ra X S k a (fe i i i j ops)) (Ra X S k b (fe i j j i ops))
  |false=>none
noncomputable def Rb(X:Xc V){A:Type}(id:Nat)(ops:Array Oper)(draw:Bool)(S:TS V.N)(k:TS V.N->Option A):Option A:=match draw with
 |false=>txs V X.P X.n X.nm X.call X.pre ops.toList ops.toList S k
 |true=>Ra X S k (X.pair id) ops
def pf{A:Type}(ke:Nat->TS V.N->Option A):Nat->TS V.N->Option A:=λid S=>match abM id 1000000 with
 |true=>ke id S
 |false=>none
noncomputable def ex(X:Xc V):Code->(A:Type)->TS V.N->(TS V.N->Option A)->(Nat->TS V.N->Option A)->(HL V.N X.sh.rcut.tys->Option A)->Option A
 | .skip,_,S,kn,_,_=>kn S
 | .ret,_,S,_,_,kr=>match Dw V X.sh.rcut S with
  |some v=>kr v
  |none=>none
 | .exit id,_,S,_,ke,_=>pf ke id S
 | .goto l,_,S,_,ke,_=>ke (1000000+l) S
 | .label _,_,S,kn,_,_=>kn S
 | .seq x y,A,S,kn,ke,kr=>match X.joins (cG y)with
  |none=>ex X x A S (λS'=>ex X y A S' kn ke kr) ke kr
  |some (cut,alts)=>
   ex X x (nR (c9 X.sh cut.tys) alts) S
    (λS'=>match Dw V cut S' with
      |some v=>inj (c9 X.sh cut.tys) alts .norm v
      |none=>none)
    (λid S'=>match Dw V (X.sh.exits id) S' with
      |some v=>inj (c9 X.sh cut.tys) alts (.exit id) v
      |none=>none)
    (λv=>inj (c9 X.sh cut.tys) alts .ret v)>>=λout=>
   qP (c9 X.sh cut.tys) alts out λa=>match a with
    | .norm=>λv=>ex X y A (fk V cut v) kn ke kr
    | .ret=>λv=>kr v
    | .exit id=>λv=>ke id (fk V (X.sh.exits id) v)
 | .block id x,A,S,kn,ke,kr=>match abM id 1000000 with
  |true=>ex X x A S kn (λid' S'=>if id'=id then kn S' else ke id' S') kr
  |false=>none
 | .cond c x y,A,S,kn,ke,kr=>match c with
  | .tmp t=>match gt S.tmps t with
   |some (.lf .bool b)=>if b=true then ex X x A (setB S t true) kn ke kr else ex X y A (setB S t false) kn ke kr
   |_=>none
  | .const (.bool b)=>match b with
   |true=>ex X x A S kn ke kr
   |false=>ex X y A S kn ke kr
  |_=>none
 | .region id ops draw,_,S,kn,_,_=>match X.regs id with
  |none=>Rb X id ops draw S kn
  |some cut=>(Rb X id ops draw S λS'=>Dw V cut S')>>=λv=>kn (fk V cut v)
 | .scope c,A,S,kn,ke,kr=>match X.jumps (cG c)with
  |none=>ex X c A S kn (pf ke) kr
  |some (l,la)=>ex X c A S kn (λid S'=>match abc id (1000000+l)with
   |true=>match Dw V la.cut S' with
    |none=>none
    |some v=>la.F v>>=λout=>qP (c9 X.sh []) la.alts out λa=>match a with
     | .norm=>λ_=>none
     | .ret=>λv=>kr v
     | .exit id=>λv=>ke id (fk V (X.sh.exits id) v)
   |false=>pf ke id S') kr
 | .loop b,_,S,_,ke,kr=>match X.loops (cG b)with
  |none=>none
  |some la=>match Dw V la.cut S with
   |none=>none
   |some v=>la.F v>>=λout=>qP (c9 X.sh []) la.alts out λa=>match a with
    | .norm=>λ_=>none
    | .ret=>λv=>kr v
    | .exit id=>λv=>ke id (fk V (X.sh.exits id) v)
 |_,_,_,_,_,_=>none
noncomputable def exL(X:Xc V)(b:Code)(cut:Cut V.ι)(alts:List Alt)(F:HL V.N cut.tys->Option (nR (c9 X.sh []) alts))(v:HL V.N cut.tys):Option (nR (c9 X.sh []) alts):=
 ex X b _ (fk V cut v)
  (λS'=>match Dw V cut S' with
    |some v=>F v
    |none=>none)
  (pf λid S'=>match Dw V (X.sh.exits id) S' with
    |some v=>inj (c9 X.sh []) alts (.exit id) v
    |none=>none)
  (λv=>inj (c9 X.sh []) alts .ret v)
def pZ(C:Ctx)(c:Code)(S:aC)(Q:Exit->aC->Prop):Prop:=
 ∀(E:Env) (M:Mem) (a:Act) (w:World),Sim C E M S a w->∀(b:Frame) (k:List Item) (cs:List Frame),
  ∃e a' w',(∃S' E' M',Q e S'/\Sim C E' M' S' a' w')/\Arrives C.P (lone (b.at a (.code c:: .inLoop c::k)) cs w) b k cs e a' w'
theorem pZ.loop{C:Ctx}{c:Code}{S:aC}{Q:Exit->aC->Prop}(h:pZ C c S Q):AWp C (.loop c) S Q:=λE M a w hs b k cs=>
 let⟨e,a',w',hq,harr⟩:=h E M a w hs b k cs
 ⟨e,a',w',hq, .of_steps (.one step_loop) harr⟩
theorem pZ.ent{C:Ctx}{c:Code}{S S':aC}{Q:Exit->aC->Prop}(he:Ent S S')(h:pZ C c S' Q):pZ C c S Q:=λE M a w hs=>
 let⟨E',M',hs'⟩:=he C E M a w hs
 h E' M' a w hs'
theorem pZ.round{C:Ctx}{c:Code}{S:aC}{Q:Exit->aC->Prop}(h:AWp C c S (QF (λS'=>pZ C c S' Q) Q)):pZ C c S Q:=by
 intro E M a w hs b k cs
 obtain⟨e,a₁,w₁,⟨S₁,E₁,M₁,hq,hs₁⟩,harr⟩:=h E M a w hs b (.inLoop c::k) cs
 cases e with
 |normal=>
  obtain⟨e₂,a₂,w₂,hq₂,harr₂⟩:=hq E₁ M₁ a₁ w₁ hs₁ b k cs
  exact⟨e₂,a₂,w₂,hq₂, .of_steps (Steps.trans harr (.one step_inLoop)) harr₂⟩
 |exit id=>exact⟨_,a₁,w₁,⟨S₁,E₁,M₁,hq,hs₁⟩, .pass (x:= .inLoop c) rfl (λ_ _=> .inl (by simp)) harr⟩
 |goto l=>exact⟨_,a₁,w₁,⟨S₁,E₁,M₁,hq,hs₁⟩, .pass (x:= .inLoop c) rfl (λ_ _=> .inl (by simp)) harr⟩
 |ret=>exact⟨_,a₁,w₁,⟨S₁,E₁,M₁,hq,hs₁⟩, .pass (x:= .inLoop c) rfl (λ_ _=> .inl (by simp)) harr⟩
 |panic ch=>exact⟨_,a₁,w₁,⟨S₁,E₁,M₁,hq,hs₁⟩, .pass (x:= .inLoop c) rfl (λ_ _=> .inl (by simp)) harr⟩
 |outgrown=>exact⟨_,a₁,w₁,⟨S₁,E₁,M₁,hq,hs₁⟩, .pass (x:= .inLoop c) rfl (λ_ _=> .inl (by simp)) harr⟩
def KK(C:Ctx)(x rest:Code)(S:aC)(Q:Exit->aC->Prop):Prop:=
 ∀(E:Env) (M:Mem) (a:Act) (w:World),Sim C E M S a w->∀(b:Frame) (k:List Item) (cs:List Frame),
  ∃e a' w',(∃S' E' M',Q e S'/\Sim C E' M' S' a' w')/\Arrives C.P (lone (b.at a (.code rest:: .inScope x::k)) cs w) b k cs e a' w'
def TR(l:Nat)(J:aC->Prop)(Q:Exit->aC->Prop):Exit->aC->Prop
 | .goto l',S=>l'=l/\J S
 |e,S=>Q e S
theorem KK.ent{C:Ctx}{x rest:Code}{S S':aC}{Q:Exit->aC->Prop}(he:Ent S S')(h:KK C x rest S' Q):KK C x rest S Q:=λE M a w hs=>
 let⟨E',M',hs'⟩:=he C E M a w hs
 h E' M' a w hs'
theorem KK.mono{C:Ctx}{x rest:Code}{S:aC}{Q Q':Exit->aC->Prop}(h:KK C x rest S Q)(hq:∀e S,Q e S->Q' e S):KK C x rest S Q':=λE M a w hs b k cs=>
 let⟨e,a',w',⟨S',E',M',hq',hs'⟩,harr⟩:=h E M a w hs b k cs
 ⟨e,a',w',⟨S',E',M',hq e S' hq',hs'⟩,harr⟩
theorem nV{C:Ctx}{x rest:Code}{l:Nat}{S:aC}{Q:Exit->aC->Prop}(hf:findLabel x l=some rest)(h:AWp C x S (TR l (λS'=>KK C x rest S' Q) Q)):AWp C (.scope x) S Q:=by
 intro E M a w hs b k cs
 have hg:gotoIn l (.inScope x::k)=some (.code rest:: .inScope x::k):=by simp[gotoIn,hf]
 obtain⟨e,a₁,w₁,⟨S₁,E₁,M₁,hq,hs₁⟩,harr⟩:=h E M a w hs b (.inScope x::k) cs
 cases e with
 |normal=>exact⟨.normal,a₁,w₁,⟨S₁,E₁,M₁,hq,hs₁⟩, .head step_scope (Steps.trans harr (.one step_inScope))⟩
 |exit id=>exact⟨.exit id,a₁,w₁,⟨S₁,E₁,M₁,hq,hs₁⟩,λk' hk=> .head step_scope (harr k' (by simp[exitTo,hk]))⟩
 |goto l'=>
  obtain⟨rfl,hJ⟩:=hq
  obtain⟨e₂,a₂,w₂,hq₂,harr₂⟩:=hJ E₁ M₁ a₁ w₁ hs₁ b k cs
  exact⟨e₂,a₂,w₂,hq₂, .of_steps (.head step_scope (harr _ hg)) harr₂⟩
 |ret=>exact⟨_,a₁,w₁,⟨S₁,E₁,M₁,hq,hs₁⟩, .of_steps (.one step_scope) harr⟩
 |panic ch=>exact⟨_,a₁,w₁,⟨S₁,E₁,M₁,hq,hs₁⟩, .of_steps (.one step_scope) harr⟩
 |outgrown=>exact⟨_,a₁,w₁,⟨S₁,E₁,M₁,hq,hs₁⟩, .of_steps (.one step_scope) harr⟩
theorem r8(l:Nat):abM (1000000+l) 1000000=false:=by
 cases h:abM (1000000+l) 1000000 with
 |false=>rfl
 |true=>rw[abU]at h;omega
theorem ga{A:Type}{ke:Nat->TS V.N->Option A}{id:Nat}{S:TS V.N}{r:A}(h:pf ke id S=some r):abM id 1000000=true/\ke id S=some r:=by
 unfold pf at h
 split at h
 ·exact⟨‹_›,h⟩
 ·cases h
theorem j4{A:Type}{ke:Nat->TS V.N->Option A}{l:Nat}{S:TS V.N}{r:A}(h:pf ke (1000000+l) S=some r):False:=by
 have:=(ga h).1
 rw[r8]at this;cases this
structure Xv (sh:aN V) {A:Type} (kn:TS V.N->Option A) (ke:Nat->TS V.N->Option A) (kr:HL V.N sh.rcut.tys->Option A) (r:A) (Q:Exit->aC->Prop):Prop where
 norm:∀S σ,kn S=some r->Ent σ (a_ V S)->Q .normal σ
 exit:∀id S σ,abM id 1000000=true->ke id S=some r->Ent σ (a_ V S)->Q (.exit id) σ
 jump:∀l S σ,ke (1000000+l) S=some r->Ent σ (a_ V S)->Q (.goto l) σ
 ret:∀v σ,kr v=some r->Ent σ (a_ V (fk V sh.rcut v))->Q .ret σ
def xX(sh:aN V)(alts:List Alt)(out:nR (c9 sh []) alts)(e:Exit)(σ:aC):Prop:=match e with
 | .exit id=>abM id 1000000=true/\∃v:HL V.N (sh.exits id).tys,inj (c9 sh []) alts (.exit id) v=some out/\Ent σ (a_ V (fk V (sh.exits id) v))
 | .ret=>∃v:HL V.N sh.rcut.tys,inj (c9 sh []) alts .ret v=some out/\Ent σ (a_ V (fk V sh.rcut v))
 |_=>False
def gD(C:Ctx)(b:Code){sh:aN V}(la:mZ V sh):Prop:=∀v out,la.F v=some out->pZ C b (a_ V (fk V la.cut v)) (xX sh la.alts out)
def KP(C:Ctx)(x:Code)(l:Nat){sh:aN V}(la:mZ V sh):Prop:=
 ∃rest,findLabel x l=some rest/\∀v out,la.F v=some out->KK C x rest (a_ V (fk V la.cut v)) (xX sh la.alts out)
def LOk(C:Ctx)(X:Xc V):Code->Prop
 | .seq x y=>LOk C X x/\LOk C X y
 | .block _ x=>LOk C X x
 | .scope x=>LOk C X x/\∀l la,X.jumps (cG x)=some (l,la)->KP C x l la
 | .cond _ x y=>LOk C X x/\LOk C X y
 | .loop b=>∀la,X.loops (cG b)=some la->gD C b la
 |_=>True
theorem jm{P:Program}{N:Nat->Prop}{nm:Nat->Nat}{all:List Oper}:∀{os:List Oper} {S:aC} {tr:List Tr1} {k k':aC->List Tr1->Prop},(∀S tr,k S tr->k' S tr)->jH P N nm all os S tr k->jH P N nm all os S tr k'
 |[],S,tr,k,k',hk,h=>hk _ _ h
 |o::os,S,tr,k,k',hk,h=>by
  simp only[jH]at h⊢
  obtain⟨hd,h⟩:=h
  refine⟨hd,?_⟩
  cases hg:o.guard with
  |none=>
   simp only[hg]at h⊢
   exact ka (λe ⟨h1,h2⟩=>⟨h1,jm hk h2⟩) h
  |some g=>
   obtain⟨j,want⟩:=g
   simp only[hg]at h⊢
   split at h
   ·exact⟨λe=>ka (λe ⟨h1,h2⟩=>⟨h1,jm hk h2⟩) (h.1 e),λe=>jm hk (h.2 e)⟩
   ·exact h.elim
def XM(Q:Exit->aC->Prop):Exit->aC->Prop
 | .goto _,_=>False
 |e,S=>Q e S
theorem Cm{C:Ctx}{c:Code}{S:aC}{Q:Exit->aC->Prop}(h:AWp C c S (XM Q)):AWp C (.scope c) S Q:=λE M a w hs=>
 wp_scope_straight (wp_mono (h E M a w hs) λe a' w'=>by
  rintro⟨S',E',M',hq,hs'⟩
  cases e with
  |goto l=>exact hq.elim
  |_=>exact⟨S',E',M',hq,hs'⟩)
theorem yq{C:Ctx}{X:Xc V}(hP:C.P=X.P)(hn:C.N=X.n/\Fx C X.pre)(hm:X.P.follows .mixedOrders=true)(hcall:bH X.P X.call):∀(c:Code) (A:Type) (S:TS V.N) (kn:TS V.N->Option A) (ke:Nat->TS V.N->Option A)
 (kr:HL V.N X.sh.rcut.tys->Option A) (r:A) (Q:Exit->aC->Prop),LOk C X c->ex X c A S kn ke kr=some r->Xv X.sh kn ke kr r Q->AWp C c (a_ V S) Q:=by
 intro c
 induction c with
 |skip=>intro A S kn ke kr r Q _ h hp;exact .skip (hp.norm S _ h (Ent.refl _))
 |label l=>intro A S kn ke kr r Q _ h hp;exact .label (hp.norm S _ h (Ent.refl _))
 |exit id=>
  intro A S kn ke kr r Q _ h hp
  simp only[ex]at h
  obtain⟨h1,h2⟩:=ga h
  exact .exit (hp.exit id S _ h1 h2 (Ent.refl _))
 |goto l=>intro A S kn ke kr r Q _ h hp;exact .goto (hp.jump l S _ h (Ent.refl _))
 |ret=>
  intro A S kn ke kr r Q _ h hp
  simp only[ex]at h
  split at h
  ·rename_i v hv;exact .ret (hp.ret v _ h (eY hv))
  ·cases h
 |seq x y ihx ihy=>
  intro A S kn ke kr r Q hl h hp
  obtain⟨hlx,hly⟩:=hl
  simp only[ex]at h
  split at h
  ·refine .seq (ihx A S _ ke kr r _ hlx h ⟨λS' σ hk he=> ?_,hp.exit,hp.jump,λv σ hk he=>hp.ret v σ hk he⟩)
   exact .ent he (ihy A S' kn ke kr r Q hly hk hp)
  ·rename_i cut alts hj
   obtain⟨out,h1,h2⟩:=b9 h
   refine .seq (ihx _ S _ _ _ out _ hlx h1 ⟨λS' σ hk he=> ?_,λid S' σ hb hk he=> ?_,λl S' σ hk he=> ?_,λv σ hk he=> ?_⟩)
   ·split at hk
    ·rename_i v hv
     rw[dY hk]at h2
     exact .ent (Ent.trans he (eY hv)) (ihy A _ kn ke kr r Q hly h2 hp)
    ·cases hk
   ·split at hk
    ·rename_i v hv
     rw[dY hk]at h2
     exact hp.exit id _ σ hb h2 (Ent.trans he (eY hv))
    ·cases hk
   ·split at hk
    ·rename_i v hv
     rw[dY hk]at h2
     exact hp.jump l _ σ h2 (Ent.trans he (eY hv))
    ·cases hk
   ·rw[dY hk]at h2
    exact hp.ret v σ h2 he
 |block id x ih=>
  intro A S kn ke kr r Q hl h hp
  simp only[ex]at h
  split at h
  ·rename_i hb
   refine .block (ih A S kn _ kr r _ hl h ⟨λS' σ hk he=>hp.norm S' σ hk he,λid' S' σ hb' hk he=> ?_,λl S' σ hk he=> ?_,λv σ hk he=>hp.ret v σ hk he⟩)
   ·simp only[yo]
    split at hk
    ·rename_i e;rw[adT e];exact hp.norm S' σ hk he
    ·rename_i e;rw[adS e];exact hp.exit id' S' σ hb' hk he
   ·simp only[yo]
    rw[adS (λe=>by rw[<-e,r8]at hb;cases hb)]at hk
    exact hp.jump l S' σ hk he
  ·cases h
 |cond c x y ihx ihy=>
  intro A S kn ke kr r Q hl h hp
  obtain⟨hlx,hly⟩:=hl
  simp only[ex]at h
  split at h
  ·rename_i t
   split at h
   ·rename_i b hb
    have hev:ev (a_ V S) (.tmp t)= .d (.v (.bool b)):=by
     rw[aI]
     simp only[tev,TS.get,hb,abs,aL,bC]
    have hset:∀b',b=b'->Ent (a_ V S) (a_ V (setB S t b')):=λb' e C E M a w hs=>⟨E,M,s6 (by rw[hb,e]) hs⟩
    cases b with
    |true=>
     rw[adT rfl]at h
     exact .cond hev (λ_=> .ent (hset true rfl) (ihx A _ kn ke kr r Q hlx h hp)) (λe=>by cases e)
    |false=>
     rw[adS (by simp)]at h
     exact .cond hev (λe=>by cases e) (λ_=> .ent (hset false rfl) (ihy A _ kn ke kr r Q hly h hp))
   ·cases h
  ·rename_i b
   have hev:ev (a_ V S) (.const (.bool b))= .d (.v (.bool b)):=rfl
   cases b with
   |true=>exact .cond hev (λ_=>ihx A _ kn ke kr r Q hlx h hp) (λe=>by cases e)
   |false=>exact .cond hev (λe=>by cases e) (λ_=>ihy A _ kn ke kr r Q hly h hp)
  ·cases h
 |region id ops draw=>
  intro A S kn ke kr r Q _ h hp
  have key:∀{B:Type} (k:TS V.N->Option B) (s:B),Rb X id ops draw S k=some s->(∀S' σ,k S'=some s->Ent σ (a_ V S')->Q .normal σ)->AWp C (.region id ops draw) (a_ V S) Q:=by
   intro B k s hr hq
   cases draw with
   |false=>
    simp only[Rb]at hr
    rw[<-hP,<-hn.1]at hr
    intro E M a w hs
    refine wp_region ?_
    have:=pU (C:=C) (ops:=ops) (Q:=λe a' w'=>∃S' E' M',Q e S'/\Sim C E' M' S' a' w') (hP▸hcall) hn.2 ops.toList 0 S k E M a w (by simp) hr hs
     λS' E' M' a' w' hk hs'=>⟨_,E',M',hq S' _ hk (Ent.refl _),hs'⟩
    have e:(abA ops.toList.length).map (0+ ·)=abA ops.size:=by simp
    rw[e]at this
    exact this
   |true=>
    simp only[Rb]at hr
    have one:∀(ops:Array Oper),Ud X ops S k=some s->jH C.P C.wr X.nm ops.toList ops.toList (a_ V S) [] (λS' tr=>yn ops.toList tr=true/\Q .normal S'):=by
     intro ops hr
     simp only[Ud]at hr
     rw[hP]
     have h2:=pT (W:=C.wr) hcall (λo ho=>sc hn.2 (by rw[hn.1];exact ho)) ops.toList S (a_ V S) [] _ hr (Rl.refl S)
     refine jm (λσ' tr' ⟨S',hrl,hk⟩=> ?_) h2
     split at hk
     ·rename_i hd;exact⟨hd,hq S' σ' hk hrl.ent⟩
     ·cases hk
    have tree:∀(t:PT) (ops:Array Oper),Ra X S k t ops=some s->PT.ok C X.nm (a_ V S) (Q .normal) t ops:=by
     intro t
     induction t with
     |leaf=>intro ops hr;exact one ops hr
     |node i j ta tb iha ihb=>
      intro ops hr
      simp only[Ra]at hr
      split at hr
      ·rename_i hf
       obtain⟨h1,h2⟩:=Co hr
       simp only[ze,aan,acN,abU]at hf
       obtain⟨⟨f1,f2⟩,f3⟩:=hf
       exact⟨⟨(λe=>by rw[e,ab9]at f1;cases f1),f2,f3⟩,iha _ h1,ihb _ h2⟩
      ·cases hr
    exact .drawT X.nm (X.pair id) (by rw[hP];exact hm) (tree _ _ hr)
  simp only[ex]at h
  split at h
  ·exact key kn r h λS' σ hk he=>hp.norm S' σ hk he
  ·rename_i cut _
   obtain⟨v,h1,h2⟩:=b9 h
   exact key _ v h1 λS' σ hk he=>hp.norm _ σ h2 (Ent.trans he (eY hk))
 |scope x ih=>
  intro A S kn ke kr r Q hl h hp
  simp only[ex]at h
  split at h
  ·exact Cm (ih A S kn _ kr r _ hl.1 h ⟨λS' σ hk he=>hp.norm S' σ hk he,λid' S' σ hb hk he=>hp.exit id' S' σ hb (ga hk).2 he,λl S' σ hk he=>(j4 hk).elim,λv σ hk he=>hp.ret v σ hk he⟩)
  ·rename_i l la hj
   obtain⟨rest,hf,hok⟩:=hl.2 l la hj
   refine nV hf (ih A S kn _ kr r _ hl.1 h ⟨λS' σ hk he=>hp.norm S' σ hk he,λid' S' σ hb hk he=> ?_,λl' S' σ hk he=> ?_,λv σ hk he=>hp.ret v σ hk he⟩)
   ·split at hk
    ·rename_i e
     have:=aa1 e
     rw[this,r8]at hb;cases hb
    ·exact hp.exit id' S' σ hb (ga hk).2 he
   ·split at hk
    ·rename_i e
     have e:=aa1 e
     refine⟨by omega,?_⟩
     split at hk
     ·cases hk
     ·rename_i v hv
      obtain⟨out,h1,h2⟩:=b9 hk
      refine .ent (Ent.trans he (eY hv)) ((hok v out h1).mono λe σ hq=> ?_)
      unfold xX at hq
      split at hq
      ·obtain⟨hb,w,hw1,hw2⟩:=hq
       rw[dY hw1]at h2
       exact hp.exit _ _ σ hb h2 hw2
      ·obtain⟨w,hw1,hw2⟩:=hq
       rw[dY hw1]at h2
       exact hp.ret w σ h2 hw2
      ·exact hq.elim
    ·exact(j4 hk).elim
 |loop b ih=>
  intro A S kn ke kr r Q hl h hp
  simp only[ex]at h
  split at h
  ·cases h
  ·rename_i la hla
   split at h
   ·cases h
   ·rename_i v hv
    obtain⟨out,h1,h2⟩:=b9 h
    refine .ent (eY hv) ((pZ.loop (hl la hla v out h1)).mono λe σ hq=> ?_)
    unfold xX at hq
    split at hq
    ·obtain⟨hb,w,hw1,hw2⟩:=hq
     rw[dY hw1]at h2
     exact hp.exit _ _ σ hb h2 hw2
    ·obtain⟨w,hw1,hw2⟩:=hq
     rw[dY hw1]at h2
     exact hp.ret w σ h2 hw2
    ·exact hq.elim
 |_=>intro A S kn ke kr r Q _ h hp;simp only[ex]at h;cases h
theorem gN{C:Ctx}{X:Xc V}(hP:C.P=X.P)(hn:C.N=X.n/\Fx C X.pre)(hm:X.P.follows .mixedOrders=true)(hcall:bH X.P X.call){b:Code}(hl:LOk C X b){cut:Cut V.ι}{alts:List Alt}
 {F:HL V.N cut.tys->Option (nR (c9 X.sh []) alts)}(ih:∀v out,F v=some out->pZ C b (a_ V (fk V cut v)) (xX X.sh alts out)){v:HL V.N cut.tys}{out:nR (c9 X.sh []) alts}
 (h:exL X b cut alts F v=some out):pZ C b (a_ V (fk V cut v)) (xX X.sh alts out):=by
 refine pZ.round (yq hP hn hm hcall b _ _ _ _ _ out _ hl h ⟨λS' σ hk he=> ?_,λid S' σ hb hk he=> ?_,λl S' σ hk he=>(j4 hk).elim,λv σ hk he=> ?_⟩)
 ·split at hk
  ·rename_i w hw;exact .ent (Ent.trans he (eY hw)) (ih w out hk)
  ·cases hk
 ·have hk:=(ga hk).2
  split at hk
  ·rename_i w hw;exact⟨hb,w,hk,Ent.trans he (eY hw)⟩
  ·cases hk
 ·exact⟨v,hk,he⟩
end
end Go.Tx
end
section
namespace Go.Tx
open Go.Awp
variable [Inhabited GMem]
def KN(P:Program)(rs:List ResultVar)(r:H)(own':List (Nat×Own))(e:Exit)(S:aC):Prop:=
 (e= .normal\/e= .ret)/\∃S',Ent S S'/\∃h,Rc P S' rs=some h/\H.le h r/\∀n o,gt own' n=some o->S'.own? n=some o
theorem Az{P:Program}{f:FuncId}{fn:Func}{c:Code}{args:List H}{own own':List (Nat×Own)}{r:H}(hf:P.funcs[f]?=some fn)(hb:fn.body=some c)
 (hname:(fn.name != "runtime.NumGoroutine")=true)(hn:args.length<=fn.ntmps)
 (h:∀C:Ctx,C.P=P->C.N=fn.ntmps/\C.fix=[]->AWp C c ⟨lq 0 args,vi own⟩ (KN P fn.results.toList r own')):mb P f args own r own':=by
 refine⟨by simp[jn,hf,hb,hname],λE M w vs hgm hm how hvs=> ?_⟩
 refine calls_of_wp hf hb ?_
 let C:Ctx:=⟨P,fn.ntmps,w,M,E,m6 E w own,hgm,λb ⟨n,o,hn,hb⟩=>((how.ok n o hn).block hb).2,[],[]⟩
 have hs:Sim C E M ⟨lq 0 args,vi own⟩ {tmps:=vs++ab7 (fn.ntmps-vs.size) undef,defers:=[]} w:=by
  have hvs1:=hvs.1
  refine{size:=by simp[C];omega,defers:=rfl,fixed:=λp hp=>(by cases hp),tmps:=λt x hx=> ?_,mem:=hm,own:=λn o ho=> ?_,apart:=λn m o o' b hne ho ho'=> ?_,home:=λn o b ho hb=> ?_,m0:=Mem.le_refl M,mnew:=λb o v hv=> .inl hv,frame:=λ_ _ _=>rfl,grows:=aaJ _,os:=rfl,tape:=rfl,output:=rfl,env:=λ_ _=>rfl}
  ·obtain⟨_,h2⟩:=ud args 0 t x hx
   simp only[aa0]at h2
   have hlt:t<vs.size:=by have:=(aaj.1 h2).1;omega
   exact⟨vs[t],by simp[aci hlt,hlt],hvs.2 t _ x (aaH hlt) h2⟩
  ·have ho':gt own n=some o:=by rw[<-gK];exact ho
   exact how.ok n o ho'
  ·have h1:gt own n=some o:=by rw[<-gK];exact ho
   have h2:gt own m=some o':=by rw[<-gK];exact ho'
   exact how.apart n m o o' b hne h1 h2
  ·have h1:gt own n=some o:=by rw[<-gK];exact ho
   exact .inl ⟨n,o,h1,hb⟩
 refine wp_mono (h C rfl ⟨rfl,rfl⟩ E M _ w hs) ?_
 rintro e a' w' ⟨S',E',M',⟨he,S'',hent,hh,hres,hle,hown⟩,hs'⟩
 obtain⟨E2,M2,hs2⟩:=hent C E' M' a' w' hs'
 obtain⟨v,hrun,hrep⟩:=JC (C:=C) hs2 hres
 have hpost:xV E M own w v r own' E2 M2 w':=
  {rep:=hle _ _ _ hrep,owns:=⟨λn o ho=>hs2.own n o (hown n o ho),λn m o o' b hne h1 h2=>hs2.apart n m o o' b hne (hown n o h1) (hown m o' h2)⟩,mle:=hs2.m0,mem:=hs2.mem,mnew:=hs2.mnew,home:=λn o b ho hb=>hs2.home n o b (hown n o ho) hb,frame:=hs2.frame,grows:=hs2.grows,os:=hs2.os,tape:=hs2.tape,output:=hs2.output,env:=hs2.env}
 rcases he with rfl|rfl
 ·exact⟨hs2.defers,v,hrun,v,E2,M2,rfl,hpost⟩
 ·exact⟨hs2.defers,v,hrun,v,E2,M2,rfl,hpost⟩
section
variable (V:iH)
structure Sig where
 params:List (Pt V.ι)
 objs:List (Nat×OPt V.ι):=[]
 rcut:Cut V.ι
 rvars:List ResultVar
 keep:List Nat:=[]
variable {V}
def Sig.tys(sig:Sig V):List (Ty V.ι):=Fo sig.params++EZ sig.objs
def Hf{α:Type}:Nat->List α->List (Nat×α)
 |_,[]=>[]
 |i,x::r=>(i,x)::Hf (i+1) r
def d7(sig:Sig V)(v:HL V.N sig.tys):List (TV V.N)×List (Nat×TO V.N):=match bdL V sig.params (Q6 sig.tys v)with
 |some (xs,ls)=>match bdO V sig.objs ls with
  |some os=>(xs,os)
  |none=>([],[])
 |none=>([],[])
def cC(sig:Sig V)(v:HL V.N sig.tys):TS V.N:={tmps:=Hf 0 (d7 sig v).1,own:=(d7 sig v).2}
def Oq(P:Program)(S:TS V.N):ResultVar->Option (TV V.N)
 | .tmp t=>gt S.tmps t
 | .cell a t=>match gt S.tmps a with
  |some (.bp n off)=>match cU P t with
   |some (ag,sz)=>match zJ V ag off sz (V.ty t) (S.own? n)with
    |some v=>some v
    |none=>match GO V (S.own? n)with
     |some cells=>AF V false ag sz (V.ty t) (cells.drop off)
     |none=>none
   |none=>none
  |_=>none
def Fv(P:Program)(S:TS V.N):List ResultVar->Option (List (TV V.N))
 |[]=>some []
 |x::r=>match Oq P S x,Fv P S r with
  |some h,some l=>some (h::l)
  |_,_=>none
def T9:List (TV V.N)->TV V.N
 |[x]=>x
 |l=> .tup l
def GD(P:Program)(sig:Sig V)(r:HL V.N sig.rcut.tys):Option (TV V.N):=(Fv P (fk V sig.rcut r) sig.rvars).map T9
def eP(ω:Nat->Nat)(os:List (Nat×TO V.N)):List (Nat×Own):=os.filterMap λp=>(cq V ω p.2).map λo=>(p.1,o)
def qf(sig:Sig V)(r:HL V.N sig.rcut.tys):List (Nat×TO V.N):=(fk V sig.rcut r).own.filter λp=>sig.keep.contains p.1
def aM(P:Program)(fid:FuncId)(sig:Sig V)(F:HL V.N sig.tys->Option (HL V.N sig.rcut.tys)):Prop:=
 ∀v r x,F v=some r->GD P sig r=some x->
  mb P fid (encL V (cC sig v).len (d7 sig v).1) (eP (cC sig v).len (cC sig v).own) (aL V (fk V sig.rcut r).len x) (eP (fk V sig.rcut r).len (qf sig r))
noncomputable def exF(X:Xc V)(sig:Sig V)(h:X.sh.rcut=sig.rcut)(c:Code)(v:HL V.N sig.tys):Option (HL V.N sig.rcut.tys):=
 ex X c _ (cC sig v) (λS=>Dw V sig.rcut S) (λ_ _=>none) (λr=>some (h▸r))
theorem fa{α β:Type}{f:α->Option β}:∀{l:List (Nat×α)} {n:Nat} {y:β},gt (l.filterMap λp=>(f p.2).map λo=>(p.1,o)) n=some y->∃x,(n,x)∈l/\f x=some y
 |[],n,y,h=>by simp[gt]at h
 |(k,x)::r,n,y,h=>by
  rw[ab8]at h
  cases hx:f x with
  |none=>
   simp only[hx,acr]at h
   obtain⟨z,h1,h2⟩:=fa h
   exact⟨z,aar _ h1,h2⟩
  |some z=>
   simp only[hx,aaK,aH]at h
   by_cases hk:k=n
   ·rw[adT hk]at h;cases h;subst hk;exact⟨x,aaw,hx⟩
   ·rw[adS hk]at h
    obtain⟨w,h1,h2⟩:=fa h
    exact⟨w,aar _ h1,h2⟩
def eD:List Nat->Bool
 |[]=>true
 |x::r=> !r.contains x&&eD r
theorem oJ{α:Type}:∀{l:List (Nat×α)} {n:Nat} {x:α},eD (l.map (·.1))=true->(n,x)∈l->gt l n=some x
 |[],n,x,_,h=>by cases h
 |(k,y)::r,n,x,hd,h=>by
  simp only[aas,eD,aan]at hd
  rw[aH]
  rcases aay.1 h with he|h
  ·simp only[aaS]at he
   obtain⟨rfl,rfl⟩:=he
   rw[adT rfl]
  ·have:k≠n:=by
    intro e;subst e
    have h1:=hd.1
    have:k∈r.map (·.1):=aaZ h
    simp at h1
    simp at this
    exact h1 _ this.choose_spec
   rw[adS this]
   exact oJ hd.2 h
theorem rj{P:Program}{S:TS V.N}:∀{rs:List ResultVar} {vs:List (TV V.N)},Fv P S rs=some vs->
 ∃hs,jh P (a_ V S) rs=some hs/\hs.length=vs.length/\∀(i:Nat) (v:TV V.N),vs[i]?=some v->∃h,hs[i]?=some h/\H.le h (aL V S.len v)
 |[],vs,h=>by simp[Fv]at h;subst h;exact⟨[],rfl,rfl,λi v hv=>by simp at hv⟩
 |x::r,vs,h=>by
  simp only[Fv]at h
  split at h
  ·rename_i v l h1 h2
   simp at h;subst h
   obtain⟨hs,g1,g2,g3⟩:=rj h2
   have:∃y,pC P (a_ V S) x=some y/\H.le y (aL V S.len v):=by
    cases x with
    |tmp t=>
     simp only[Oq]at h1
     refine⟨(a_ V S).get t,rfl,?_⟩
     unfold aC.get
     rw[da,h1]
     exact H.le.refl _
    |cell a t=>
     simp only[Oq]at h1
     split at h1
     ·rename_i n off hn
      have hg:(a_ V S).get a= .bp n off:=by
       unfold aC.get
       rw[da,hn];simp[aL]
      split at h1
      ·rename_i ag sz ht
       split at h1
       ·rename_i w hw
        simp only[aah]at h1;subst h1
        unfold zJ at hw
        split at hw
        ·rename_i i y hnn
         have hw':=aG hw;clear hw
         obtain⟨⟨e1,e2,e3,hot⟩,hw⟩:=hw'
         subst e1;subst e2;subst e3
         simp only[aah]at hw;subst hw
         have hb:GO V (S.own? n)=some ((V.cells i y).map λl=> .lf l.t l.x):=by rw[hnn];rfl
         have hl:(V.enc i y).length=V.sz i:=by rw[V.enc_cells,aam,V.len_cells]
         refine⟨aL V S.len (.lf (.st i) y),?_,H.le.refl _⟩
         simp only[pC,hg,im hb,ht,jR,fw,aaD,jV,aam]
         rw[adT (by omega),aaY (by rw[aam];omega),cN,dW]
        ·rename_i m e xs hnn
         have hw':=aG hw;clear hw
         obtain⟨⟨e1,e2,e3,hot⟩,hw⟩:=hw'
         subst e1;subst e2;subst e3
         simp only[aah]at hw;subst hw
         have ho1:=pj hnn
         have hl:=cB (V:=V) (.ar m e) xs
         refine⟨aL V S.len (.lf (.ar m e) xs),?_,H.le.refl _⟩
         simp only[pC,hg,ho1,ht,fw,aaD,KT,aam]
         rw[adT (by omega),aaY (by rw[aam];omega),cN,dW]
        ·cases hw
       ·split at h1
        ·rename_i cells hc
         obtain⟨y,k1,k2,_⟩:=j1 (ω:=S.len) h1
         rw[iM]at k1
         refine⟨y,?_,k2⟩
         simp only[pC,hg,im hc,ht,k1]
        ·cases h1
      ·cases h1
     ·cases h1
   obtain⟨y,y1,y2⟩:=this
   refine⟨y::hs,by simp only[jh,y1,g1],by simp[g2],λi w hw=> ?_⟩
   cases i with
   |zero=>simp at hw;subst hw;exact⟨y,rfl,y2⟩
   |succ i=>obtain⟨z,z1,z2⟩:=g3 i w (by simpa using hw);exact⟨z,by simpa using z1,z2⟩
  ·cases h
theorem pQ{ω:Nat->Nat}:∀(l:List (TV V.N)) (i:Nat),lq i (encL V ω l)=(Hf i l).map λp=>(p.1,aL V ω p.2)
 |[],i=>rfl
 |x::r,i=>by simp[encL,lq,Hf,pQ r (i+1)]
theorem Cn:∀{ps:List (Pt V.ι)} {ls ls':List (dV V.N)} {xs:List (TV V.N)},bdL V ps ls=some (xs,ls')->xs.length=ps.length
 |[],ls,ls',xs,h=>by simp[bdL]at h;rw[h.1];rfl
 |p::r,ls,ls',xs,h=>by
  simp only[bdL]at h
  split at h
  ·rename_i x l1 h1
   split at h
   ·rename_i ys l2 h2
    simp at h
    rw[<-h.1]
    simp[Cn h2]
   ·cases h
  ·cases h
theorem d8:∀{objs:List (Nat×OPt V.ι)} {ls:List (dV V.N)} {os:List (Nat×TO V.N)},bdO V objs ls=some os->os.map (·.1)=objs.map (·.1)
 |[],[],os,h=>by simp[bdO]at h;subst h;rfl
 |[],_::_,os,h=>by simp[bdO]at h
 |(c, .box oty ps)::r,ls,os,h=>by
  simp only[bdO]at h
  split at h
  ·split at h
   ·rename_i os' h2
    simp at h;subst h
    simp[d8 h2]
   ·cases h
  ·cases h
 |(c, .st i)::r,[],os,h=>by simp[bdO]at h
 |(c, .vec te e)::r,[],os,h=>by simp[bdO]at h
 |(c, .st i)::r,⟨t,x⟩::ls,os,h=>by
  cases t<;>simp only[bdO]at h<;>first
   |(cases h;done)
   |(split at h
     ·split at h
      ·rename_i os' h2
       simp at h;subst h
       simp[d8 h2]
      ·cases h
     ·cases h)
 |(c, .vec te e)::r,⟨t,x⟩::ls,os,h=>by
  cases t<;>simp only[bdO]at h<;>first
   |(cases h;done)
   |(split at h
     ·split at h
      ·rename_i os' h2
       simp at h;subst h
       simp[d8 h2]
      ·cases h
     ·cases h)
 |(c, .que te e)::r,[],os,h=>by simp[bdO]at h
 |(c, .que te e)::r,⟨t,x⟩::ls,os,h=>by
  cases t<;>simp only[bdO]at h<;>first
   |(cases h;done)
   |(split at h
     ·split at h
      ·rename_i os' h2
       simp at h;subst h
       simp[d8 h2]
      ·cases h
     ·cases h)
 |(c, .bar m e)::r,[],os,h=>by simp[bdO]at h
 |(c, .bar m e)::r,⟨t,x⟩::ls,os,h=>by
  cases t<;>simp only[bdO]at h<;>first
   |(cases h;done)
   |(split at h
     ·split at h
      ·rename_i os' h2
       simp at h;subst h
       simp[d8 h2]
      ·cases h
     ·cases h)
 |(c, .maps te tk tv)::r,[],os,h=>by simp[bdO]at h
 |(c, .maps te tk tv)::r,⟨t,x⟩::ls,os,h=>by
  cases t<;>first
   |(simp[bdO]at h;done)
   |(rename_i t2;cases t2<;>first
    |(simp[bdO]at h;done)
    |(rename_i t3;cases t3<;>first
     |(simp[bdO]at h;done)
     |(simp only[bdO]at h
       split at h
       ·split at h
        ·rename_i os' h2
         simp at h;subst h
         simp[d8 h2]
        ·cases h
       ·cases h)))
 |(c, .iter)::r,[],os,h=>by simp[bdO]at h
 |(c, .iter)::r,[⟨t,x⟩],os,h=>by
  cases t<;>simp[bdO]at h
 |(c, .iter)::r,⟨t,x⟩::⟨t2,x2⟩::ls,os,h=>by
  cases t<;>first
   |(simp[bdO]at h;done)
   |(cases t2<;>first
    |(simp[bdO]at h;done)
    |(rename_i ki;cases ki<;>first
     |(simp[bdO]at h;done)
     |(simp only[bdO]at h
       split at h
       ·rename_i os' h2
        simp at h;subst h
        simp[d8 h2]
       ·cases h)))
 |(c, .miter cm k v)::r,[],os,h=>by simp[bdO]at h
 |(c, .miter cm k v)::r,[⟨t,x⟩],os,h=>by
  cases t<;>simp[bdO]at h
 |(c, .miter cm k v)::r,⟨t,x⟩::⟨t2,x2⟩::ls,os,h=>by
  cases t<;>first
   |(simp[bdO]at h;done)
   |(cases t2<;>first
    |(simp[bdO]at h;done)
    |(simp only[bdO]at h
      split at h
      ·split at h
       ·rename_i os' h2
        simp at h;subst h
        simp[d8 h2]
       ·cases h
      ·cases h))
 |(c, .map tk tv)::r,[],os,h=>by simp[bdO]at h
 |(c, .map tk tv)::r,⟨t,x⟩::ls,os,h=>by
  cases t<;>simp only[bdO]at h<;>first
   |(cases h;done)
   |(split at h
     ·split at h
      ·rename_i os' h2
       simp at h;subst h
       simp[d8 h2]
      ·cases h
     ·cases h)
theorem vQ(c:Cut V.ι)(ls:List (dV V.N))(h:eD (c.objs.map (·.1))=true):eD ((build V c ls).own.map (·.1))=true:=by
 unfold build
 split
 ·split
  ·rename_i os ho
   simp only
   rw[d8 ho];exact h
  ·rfl
 ·rfl
theorem nt{ω:Nat->Nat}:∀{os:List (Nat×TO V.N)} {n:Nat} {x:TO V.N} {o:Own},gt os n=some x->cq V ω x=some o->gt (eP ω os) n=some o
 |[],n,x,o,h,_=>by simp[gt]at h
 |(k,y)::r,n,x,o,h,ho=>by
  rw[aH]at h
  unfold eP
  rw[ab8]
  by_cases hk:k=n
  ·rw[adT hk]at h;cases h
   simp only[ho,aaK,aH]
   rw[adT hk]
  ·rw[adS hk]at h
   have ih:=nt (ω:=ω) h ho
   unfold eP at ih
   cases hy:cq V ω y with
   |none=>simp only[hy,acr];exact ih
   |some z=>
    simp only[hy,aaK,aH]
    rw[adS hk];exact ih
theorem AA{X:Xc V}{sig:Sig V}(hsh:X.sh.rcut=sig.rcut){fid:FuncId}{fn:Func}{c:Code}(hf:X.P.funcs[fid]?=some fn)(hb:fn.body=some c)(hn:fn.ntmps=X.n)(hrs:fn.results.toList=sig.rvars)
 (hname:(fn.name != "runtime.NumGoroutine")=true)(hlen:acq sig.params.length X.n=true)(hm:X.P.follows .mixedOrders=true)(hcall:bH X.P X.call)
 (hdr:eD (sig.rcut.objs.map (·.1))=true)(hl:∀C:Ctx,C.P=X.P->C.N=X.n/\Fx C X.pre->LOk C X c){v:HL V.N sig.tys}{r:HL V.N sig.rcut.tys}(h:exF X sig hsh c v=some r):
 ∀x,GD X.P sig r=some x->
  mb X.P fid (encL V (cC sig v).len (d7 sig v).1) (eP (cC sig v).len (cC sig v).own) (aL V (fk V sig.rcut r).len x) (eP (fk V sig.rcut r).len (qf sig r)):=by
 obtain⟨params,objs,rcut,rvars,keep⟩:=sig
 simp only at hsh
 subst hsh
 intro x hx
 have hargs:(d7 ⟨params,objs,X.sh.rcut,rvars,keep⟩ v).1.length<=X.n:=by
  have hp:params.length<=X.n:=aca hlen
  unfold d7
  split
  ·rename_i xs ls h1
   split
   ·simp only;rw[Cn h1];exact hp
   ·simp
  ·simp
 refine Az hf hb hname (by rw[bF,hn];exact hargs) λC hP hN=> ?_
 have hent:Ent ⟨lq 0 (encL V (cC ⟨params,objs,X.sh.rcut,rvars,keep⟩ v).len (d7 ⟨params,objs,X.sh.rcut,rvars,keep⟩ v).1),vi (eP (cC ⟨params,objs,X.sh.rcut,rvars,keep⟩ v).len (cC ⟨params,objs,X.sh.rcut,rvars,keep⟩ v).own)⟩
  (a_ V (cC ⟨params,objs,X.sh.rcut,rvars,keep⟩ v)):=by
  refine Ent.le (λt y hy=>⟨y,?_,H.le.refl _⟩) λn o ho=>⟨o,?_,OLe.refl _⟩
  ·rw[pQ];exact hy
  ·rw[bL,abV]at ho
   obtain⟨o',ho',hoo⟩:=ho
   have:=nt (os:=(cC ⟨params,objs,X.sh.rcut,rvars,keep⟩ v).own) ho' hoo
   unfold aC.own?
   rw[gK]
   exact this
 have hend:∀e σ,(e= .normal\/e= .ret)->Ent σ (a_ V (fk V X.sh.rcut r))->
  KN X.P fn.results.toList (aL V (fk V X.sh.rcut r).len x) (eP (fk V X.sh.rcut r).len (qf ⟨params,objs,X.sh.rcut,rvars,keep⟩ r)) e σ:=by
  intro e σ he hσ
  unfold GD at hx
  rw[aau]at hx
  obtain⟨vs,hvs,hone⟩:=hx
  obtain⟨hs,g1,g2,g3⟩:=rj hvs
  have hh:∃y,Rc X.P (a_ V (fk V X.sh.rcut r)) fn.results.toList=some y/\H.le y (aL V (fk V X.sh.rcut r).len x):=by
   rw[hrs]
   unfold Rc
   rw[g1]
   cases vs with
   |nil=>
    have:hs=[]:=aaQ (by simpa using g2)
    subst this;subst hone
    exact⟨.tup [],rfl,by simp only[T9,aL,encL];exact H.le.refl _⟩
   |cons a l=>
    cases l with
    |nil=>
     cases hs with
     |nil=>simp at g2
     |cons y l'=>
      have:l'=[]:=aaQ (by simpa using g2)
      subst this;subst hone
      obtain⟨z,z1,z2⟩:=g3 0 a rfl
      simp at z1;subst z1
      exact⟨y,rfl,z2⟩
    |cons b l=>
     cases hs with
     |nil=>simp at g2
     |cons y l'=>
      cases l' with
      |nil=>simp at g2
      |cons y2 l2=>
       subst hone
       refine⟨.tup (y::y2::l2),rfl,?_⟩
       simp only[T9,aL]
       refine Gk (by rw[bF];exact g2) λi w hw=> ?_
       rw[aU,aal,aau]at hw
       obtain⟨u,hu,rfl⟩:=hw
       exact g3 i u hu
  obtain⟨y,hy1,hy2⟩:=hh
  refine⟨he,_,hσ,y,hy1,hy2,λn o ho=> ?_⟩
  obtain⟨o',h1,h2⟩:=fa ho
  have h1:(n,o')∈(fk V X.sh.rcut r).own:=(acF.1 h1).1
  have:=oJ (vQ X.sh.rcut _ hdr) h1
  rw[bL]
  unfold TS.own?
  unfold fk at *
  rw[this]
  exact h2
 refine .ent hent (yq hP ⟨by rw[hN.1,hn],λp hp=>(by rw[hN.2]at hp;cases hp)⟩ hm hcall c _ _ _ _ _ r _ (hl C hP ⟨by rw[hN.1,hn],λp hp=>(by rw[hN.2]at hp;cases hp)⟩) h ⟨λS σ hk he=> ?_,λid S σ _ hk he=>(by cases hk),λl S σ hk he=>(by cases hk),λw σ hk he=> ?_⟩)
 ·exact hend _ σ (.inl rfl) (Ent.trans he (eY hk))
 ·have:w=r:=by simpa using hk
  subst this
  exact hend _ σ (.inr rfl) he
end
end Go.Tx
end
