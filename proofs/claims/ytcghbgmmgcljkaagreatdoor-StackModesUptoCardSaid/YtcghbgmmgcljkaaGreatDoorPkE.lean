/-
  Texts of this claim, joined by a program of mine: what the theorem uses.
-/
import Derived.Test.YtcghbgmmgcljkaaGreatDoorPkD
import Derived.Scope
open Array renaming getElem?_append_left→acO,getElem?_eq_getElem→abc,replicate→acD,toList_inj→ac8
open Bool renaming and_eq_true→aaT,false_eq_true→aaL,not_eq_true'→adj,not_false→abK,not_true→abh
open Function renaming comp_apply→act
open Int renaming toNat→abb
open List renaming all_cons→ab1,all_eq_true→aa1,all_map→acG,append_assoc→abW,append_nil→acK,cons_append→abF,drop_append→adN,drop_drop→acm,drop_eq_nil_of_le→acf,drop_of_length_le→adT,drop_zero→aa8,eq_nil_of_length_eq_zero→abl,eraseIdx_cons_succ→adQ,ext_getElem?→aca,filterMap_cons→acE,flatten_cons→ab_,getElem?_append→ad2,getElem?_cons_zero→abP,getElem?_drop→abi,getElem?_eq_some_iff→aaP,getElem?_map→aaR,getElem?_range→ab7,getElem?_replicate→adh,getElem?_set→abV,getElem?_take→aa9,length→ac9,length_append→abd,length_cons→aaW,length_drop→abp,length_map→aaS,length_nil→adt,length_replicate→abA,length_set→abC,length_take→abx,map→ac7,map_append→abG,map_congr_left→abj,map_cons→aaY,map_drop→abT,map_map→abq,map_nil→abE,map_replicate→acz,map_set→acp,map_take→abS,mem_append_left→ab2,mem_append_right→acy,mem_cons→aa4,mem_cons_of_mem→aaX,mem_cons_self→aa2,mem_filter→ada,mem_map→abg,mem_map_of_mem→abu,mem_of_mem_take→abN,mem_replicate→adz,nil_append→aaZ,range→ab6,replicate→aa7,take_append→adK,take_append_drop→adY,take_append_of_le_length→aco,take_of_length_le→abt,take_take→adX,take_zero→ac5
open List.cons renaming injEq→abD
open Nat renaming add_sub_cancel→ady,add_zero→abX,beq→abI,beq_refl→acF,ble→acW,blt→aci,blt_eq→acq,div_add_mod→acZ,eq_of_beq_eq_true→abw,le_of_ble_eq_true→acH,le_refl→abe,min_eq_left→acj,mul_comm→acv,mul_le_mul→adW,mul_le_mul_right→aa_,sub_zero→abv,succ_mul→abs,zero_add→aaU
open Ne renaming symm→ab8
open Option renaming bind_eq_some_iff→acr,bind_some→aaJ,getD_some→abZ,isSome_iff_exists→adc,isSome_map→adF,map_eq_some_iff→aa0,map_none→acX,map_some→abf
open Option.some renaming injEq→aaN
open Prod.mk renaming injEq→abn
noncomputable section
set_option linter.unusedSectionVars false
set_option linter.unusedSimpArgs false
section
namespace Go.Tx
open Go.Awp
variable [Inhabited GMem]
section
variable (V:iF)
variable (P:Program) (nm:Nat->Nat)
def Ht(S:TS V.N)(ns:List Nat):List (Nat×TO V.N):=ns.map λm=>(m, .gone (S.len m))
def OY{A:Type}(t:TypeId)(x:Operand)(lo hi mx:Option Operand)(S:TS V.N)(k:TE V.N->Option A):Option A:=match mx,cK P t,tev S x with
 |none,some (_,sz,_), .vh n=>match S.own? n with
  |some (.vec _ e xs)=>match K5 V S lo 0,K5 V S hi xs.length with
   |some l,some h=>if sz=tsz V.sz e then if 0<=l/\l<=h/\h<=xs.length then k {val:= .sv n sz l.toNat (h.toNat-l.toNat),acc:=[n]}else none else none
   |_,_=>none
  |_=>none
 |_,_,_=>none
def QQ(pre:Nat->Bool)(o:Oper)(_:TS V.N):Bool:=match o.op with
 | .slice _ _ _ _ _=>match o.dst with
  |some d=>pre (3000000+d)
  |none=>false
 |_=>false
def O0{A:Type}(o:Oper)(S:TS V.N)(k:TE V.N->Option A):Option A:=match o.op with
 | .slice t x lo hi mx=>OY V P t x lo hi mx S k
 |_=>none
end
section
variable {V:iF}
theorem DM{S:TS V.N}{ns:List Nat}{m:Nat}{o:TO V.N}(h:gt (Ht V S ns) m=some o):TO.len (some o)=S.len m:=by
 obtain⟨k,_,hk⟩:=abg.1 (cV h)
 simp only[abn]at hk
 obtain⟨rfl,rfl⟩:=hk
 rfl
theorem DL(ω:Nat->Nat)(S:TS V.N)(ns:List Nat):(Ht V S ns).map (λp=>(p.1,ct V ω p.2))=ns.map λn=>(n,none):=by
 unfold Ht
 rw[abq]
 rfl
section
variable {P:Program} {nm:Nat->Nat} {o:Oper} {S:TS V.N} {A:Type} {k:TE V.N->Option A} {r:A}
def OpD(P:Program)(nm:Nat->Nat)(o:Oper)(S:TS V.N)(k:TE V.N->Option A)(r:A):Prop:=
 ∃te,k te=some r/\good S te/\∃e',GQ P nm o (Go.Awp.ev (a_ V S)) (a_ V S).own? e'/\ELe true e' (gB (S.app o.dst te).len te)
theorem OZ{t:TypeId}{x:Operand}{lo hi mx:Option Operand}(ho:o.op= .slice t x lo hi mx)(h:OY V P t x lo hi mx S k=some r):OpD P nm o S k r:=by
 unfold OY at h
 split at h
 ·rename_i te sz by_ n ht hx
  split at h
  ·rename_i te1 e xs hn
   split at h
   ·rename_i l u hl hu
    have h':=aG h;clear h
    obtain⟨hse,h⟩:=h'
    have h':=aG h;clear h
    obtain⟨⟨h0,h1,h2⟩,h⟩:=h'
    have hlen:S.len n=xs.length:=by unfold TS.len;rw[hn];rfl
    exact⟨_,h,ju S _ _,_, .cut (rows:=xs.map λx=>bY V.sz V.enc e x) (e:=te1) ho ht (by rw[aI,hx];simp only[aL];rw[hlen,aaS]) (by rw[dJ hn,hse]) (gF hl) (by rw[aaS];exact gF hu) h0 h1 (by rw[aaS];exact h2),tW rfl⟩
   ·cases h
  ·cases h
 ·cases h
theorem xL(_:∀te,k te=some r->∀d∈te.new,S.fresh d=true)(h:O0 V P o S k=some r):OpD P nm o S k r:=by
 unfold O0 at h
 split at h
 ·rename_i t x lo hi mx ho;exact OZ ho h
 ·cases h
end
end
end Go.Tx
end
section
namespace Go.Tx
open Go.Awp
variable [Inhabited GMem]
section
variable {V:iF}
theorem yA{α:Type}{s:Nat}:∀{rows:List (List α)} {i:Nat} {r:List α},(∀r∈rows,r.length=s)->rows[i]?=some r->(rows.flatten.drop (i *s)).take s=r
 |[],i,r,_,h=>by simp at h
 |x::rows,0,r,hz,h=>by
  simp only[abP,aaN]at h
  subst h
  have:=hz x aa2
  simp[ab_,adK,this]
 |x::rows,i+1,r,hz,h=>by
  have hx:=hz x aa2
  have:=yA (λr hr=>hz r (aaX _ hr)) (by simpa using h)
  rw[ab_,abs,adN,hx,acf (by omega),aaZ]
  rw[show i *s+s-s=i *s by omega]
  exact this
theorem hO{α:Type}{s:Nat}:∀{rows:List (List α)},(∀r∈rows,r.length=s)->rows.flatten.length=rows.length *s
 |[],_=>by simp
 |x::r,h=>by
  rw[ab_,abd,h x aa2,hO λy hy=>h y (aaX _ hy),aaW,abs]
  omega
theorem ko(e:Ty V.ι)(xs:List (den V.N e)):∀r∈xs.map (λx=>bY V.sz V.enc e x),r.length=tsz V.sz e:=λr hr=>by
 obtain⟨x,_,rfl⟩:=abg.1 hr
 exact cD e x
theorem r9{n i:Nat}{e:Ty V.ι}{xs:List (den V.N e)}{y:den V.N e}(hi:i<n)(hx:xs[i]?=some y):((bY V.sz V.enc (.ar n e) xs).drop (i *tsz V.sz e)).take (tsz V.sz e)=bY V.sz V.enc e y:=by
 have h1:=yA (s:=tsz V.sz e) (ko e xs) (i:=i) (r:=bY V.sz V.enc e y) (by rw[aaR,hx];rfl)
 have hil:i<xs.length:=(aaP.1 hx).1
 have h2:=hO (ko (V:=V) e xs)
 rw[aaS]at h2
 have m1:(i+1) *tsz V.sz e<=n *tsz V.sz e:=aa_ _ hi
 have m2:(i+1) *tsz V.sz e<=xs.length *tsz V.sz e:=aa_ _ hil
 rw[abs]at m1 m2
 simp only[bY,arL]
 rw[List.drop_take,adX,acj (by omega),List.drop_append_of_le_length (by omega),aco (by rw[abp];omega)]
 exact h1
theorem nu{α:Type}{s:Nat}:∀{rows:List (List α)} {i:Nat} {r:List α},(∀r∈rows,r.length=s)->i<rows.length->(rows.set i r).flatten=rows.flatten.take (i *s)++r++rows.flatten.drop (i *s+s)
 |[],i,r,_,h=>by simp at h
 |x::rows,0,r,hz,h=>by
  have hx:=hz x aa2
  simp[ab_,hx]
 |x::rows,i+1,r,hz,h=>by
  have hx:=hz x aa2
  have ih:=nu (r:=r) (λr hr=>hz r (aaX _ hr)) (by simpa using h)
  have e1:(x++rows.flatten).take ((i+1) *s)=x++rows.flatten.take (i *s):=by
   rw[adK,abt (l:=x) (by rw[hx,abs];omega),hx,abs,ady]
  have e2:(x++rows.flatten).drop ((i+1) *s+s)=rows.flatten.drop (i *s+s):=by
   rw[adN,(acf (by rw[hx,abs];omega):x.drop _=[]),hx,abs,aaZ]
   congr 1;omega
  simp only[List.set_cons_succ,ab_]
  rw[ih,e1,e2]
  simp[abW]
theorem Cp{n i:Nat}{e:Ty V.ι}{xs:List (den V.N e)}{y':den V.N e}(hi:i<n)(hx:i<xs.length):
 bY V.sz V.enc (.ar n e) (xs.set i y')=(bY V.sz V.enc (.ar n e) xs).take (i *tsz V.sz e)++bY V.sz V.enc e y'++(bY V.sz V.enc (.ar n e) xs).drop (i *tsz V.sz e+tsz V.sz e):=by
 have h2:=hO (ko (V:=V) e xs)
 rw[aaS]at h2
 have m1:(i+1) *tsz V.sz e<=n *tsz V.sz e:=aa_ _ hi
 have m2:(i+1) *tsz V.sz e<=xs.length *tsz V.sz e:=aa_ _ hx
 rw[abs]at m1 m2
 have hl:=cD e y'
 simp only[bY,arL,acp]
 rw[nu (ko e xs) (by rw[aaS];exact hx)]
 generalize (ac7 (λx=>bY V.sz V.enc e x) xs).flatten=F at h2
 generalize bY V.sz V.enc e y'=c at hl
 generalize hs:tsz V.sz e=s at *
 generalize n *s=N at *
 apply aca
 intro k
 simp only[aa9,ad2,abd,abx,abi,adh,abp,abA]
 grind
theorem K2{ω:Nat->Nat}{n:Nat}{e:Ty V.ι}{xs:List (den V.N e)}:aL V ω (.lf (.ar n e) xs)= .d (.agg (bY V.sz V.enc (.ar n e) xs)):=rfl
theorem Ea{e:Ty V.ι}{y:den V.N e}{ds:List D}{ag:Bool}(h:ds.take (tsz V.sz e)=bY V.sz V.enc e y)(ha:ag= !e.cell):dZ ag (tsz V.sz e) ds=some (bC V.sz V.enc e y):=by
 have hl:=cD (V:=V) e y
 have hdl:tsz V.sz e<=ds.length:=by
  have:=congrArg ac9 h
  rw[hl,abx]at this;omega
 have cell:e.cell=true->bY V.sz V.enc e y=[bC V.sz V.enc e y]->tsz V.sz e=1->dZ ag (tsz V.sz e) ds=some (bC V.sz V.enc e y):=by
  intro hc h1 h2
  rw[hc]at ha
  subst ha
  simp only[dZ,abh]
  rw[h1,h2]at h
  cases ds with
  |nil=>simp at h
  |cons d r=>simp at h;simp[h]
 cases e with
 |st i=>
  subst ha
  simp only[Ty.cell,abK,dZ,aep hdl,h]
  rfl
 |ar n e=>
  subst ha
  simp only[Ty.cell,abK,dZ,aep hdl,h]
  rfl
 |_=>exact cell rfl rfl rfl
theorem pq{S:TS V.N}{n m:Nat}{e:Ty V.ι}{xs:List (den V.N e)}(h:S.own? n=some (.bar m e xs)):(a_ V S).own? n=some (.box none ((bY V.sz V.enc (.ar m e) xs).map .d)):=by rw[bL,h];rfl
theorem D6{S:TS V.N}{n m:Nat}{e:Ty V.ι}{xs:List (den V.N e)}(h:S.own? n=some (.bar m e xs)):S.len n=0:=by unfold TS.len;rw[h];rfl
theorem s4{S:TS V.N}{n:Nat}{te:TypeId}{e:Ty V.ι}{xs:List (den V.N e)}(h:S.own? n=some (.que te e xs)):(a_ V S).own? n=some (.que te (tsz V.sz e) (xs.map λx=>bY V.sz V.enc e x)):=by rw[bL,h];rfl
theorem wM{S:TS V.N}{n:Nat}{te:TypeId}{e:Ty V.ι}{xs:List (den V.N e)}(h:S.own? n=some (.que te e xs)):S.len n=xs.length:=by unfold TS.len;rw[h];rfl
theorem il{S:TS V.N}{n:Nat}{te:TypeId}{k v:Ty V.ι}{es:List (Option (List (den V.N k×den V.N v)))}{al:Option (Nat×Nat)}(h:S.own? n=some (.maps te k v es al)):
 (a_ V S).own? n=some (.maps te (es.map λo=>o.map λl=>l.map λp=>(eA V.enc k p.1,bC V.sz V.enc v p.2)) al):=by rw[bL,h];rfl
theorem ib{S:TS V.N}{n:Nat}{te:TypeId}{k v:Ty V.ι}{es:List (Option (List (den V.N k×den V.N v)))}{al:Option (Nat×Nat)}(h:S.own? n=some (.maps te k v es al)):S.len n=es.length:=by unfold TS.len;rw[h];rfl
theorem kX{S:TS V.N}{n m:Nat}(h:S.own? n=some (.alias m)):(a_ V S).own? n=none:=by rw[bL,h];rfl
theorem kD{S:TS V.N}{n m:Nat}(h:S.own? n=some (.alias m)):S.len n=0:=by unfold TS.len;rw[h];rfl
end
section
variable (V:iF) (P:Program) (nm:Nat->Nat)
def fnF(e:Ty V.ι):TV V.N->TV V.N
 | .lf .fnc f=>match e with
  | .fno=> .lf .fno (some f)
  |_=> .lf .fnc f
 |v=>v
def xM{A:Type}(t:TypeId)(x i:Operand)(S:TS V.N)(k:TE V.N->Option A):Option A:=match tB P t,tev S x,tev S i with
 |some (len,_,ag,sz), .lf (.ar n e) xs, .lf (.int _) j=>if n=len/\sz=tsz V.sz e/\ag= !e.cell then
  if 0<=j/\j<len then xs[j.toNat]?>>=λy=>k {val:= .lf e y}else none
  else none
 |_,_,_=>none
def O1{A:Type}(t:TypeId)(x i:Operand)(S:TS V.N)(k:TE V.N->Option A):Option A:=match tB P t,tev S i with
 |some (len,_,_,sz), .lf (.int _) j=>match tev S x with
  | .bp m 0=>match S.own? m with
   |some (.bar n e _)=>if n=len/\sz=tsz V.sz e then
    if 0<=j/\j<len then k {val:= .ai m sz j.toNat 0}else none
    else none
   |_=>none
  | .rp (.ar n e) xs 0=>if n=len/\sz=tsz V.sz e then
    if 0<=j/\j<len then xs[j.toNat]?>>=λy=>k {val:= .rp e y 0}else none
   else none
  | .ep m s i' off=>if 0<=j/\j<len then k {val:= .ep m s i' (off+j.toNat *sz)}else none
  |_=>none
 |_,_=>none
def wN{A:Type}(ag:Bool)(sz:Nat)(ot:Option (Ty V.ι)):(t:Ty V.ι)->den V.N t->Nat->(TV V.N->Option A)->Option A
 | .ar n e,xs,off,k=>if off=0/\ot=some (.ar n e)/\ag=true/\sz=tsz V.sz (.ar n e)then k (.lf (.ar n e) xs)
   else if off/tsz V.sz e<n then xs[off/tsz V.sz e]?>>=λy=>wN ag sz ot e y (off%tsz V.sz e) k else none
 |t,x,off,k=>match ut V ag sz ot t x off with
  |some v=>k v
  |none=>none
def zG{A:Type}(t:TypeId)(x:Operand)(S:TS V.N)(k:TE V.N->Option A):Option A:=match cW P t with
 |some (ag,sz)=>match tev S x with
  | .ai n s i off=>match S.own? n with
   |some (.bar m e xs)=>if s=tsz V.sz e/\off+Uo ag sz<=s then
    if i<m then xs[i]?>>=λy=>wN V ag sz (V.ty t) e y off λv=>k {val:=v,acc:=[n]}else none
    else none
   |_=>none
  | .bp n 0=>match S.own? n with
   |some (.bar m e xs)=>if V.ty t=some (.ar m e)/\ag=true/\sz=tsz V.sz (.ar m e)then k {val:= .lf (.ar m e) xs,acc:=[n]}else none
   |_=>none
  | .ep n s i off=>match S.own? n with
   |some (.vec _ e xs)=>if s=tsz V.sz e then xs[i]?>>=λy=>wN V ag sz (V.ty t) e y off λv=>k {val:=v,acc:=[n]}else none
   |some (.que _ e xs)=>if s=tsz V.sz e then xs[i]?>>=λy=>wN V ag sz (V.ty t) e y off λv=>k {val:=v,acc:=[n]}else none
   |_=>none
  | .rp t' y off=>wN V ag sz (V.ty t) t' y off λv=>k {val:=v}
  |_=>none
 |none=>none
def xT{A:Type}(t:TypeId)(x y:Operand)(S:TS V.N)(k:TE V.N->Option A):Option A:=match cW P t,TV.cells V (tev S y)with
 |some (_,sz),some cs=>match tev S x with
  | .ai n s i 0=>match S.own? n with
   |some (.bar m e xs)=>if s=tsz V.sz e/\cs.length=sz/\sz=s/\cs.all TV.one=true then
    if i<m then if i<xs.length then match dH V true e cs with
     |some z=>k {val:= .junk,acc:=[n],upd:=[(n, .bar m e (xs.set i z))]}
     |none=>none
    else none else none
    else none
   |_=>none
  | .bp n 0=>match S.own? n,tev S y with
   |some (.bar m e _), .lf (.ar m' e') ys=>if m'=m/\e'=e/\sz=tsz V.sz (.ar m e)then k {val:= .junk,acc:=[n],upd:=[(n, .bar m' e' ys)]}else none
   |_,_=>none
  |_=>none
 |_,_=>none
def zeq:Value->Value->Bool
 | .int k n, .int k' n'=>decide (k=k')&&decide (n=n')
 | .bool a, .bool b=>a==b
 | .nilFunc, .nilFunc=>true
 | .string a, .string b=>decide (a=b)
 |_,_=>false
def TM:List Value->List Value->Bool
 |[],[]=>true
 |a::r,b::s=>zeq a b&&TM r s
 |_,_=>false
def xG{A:Type}(t:TypeId)(dst:Option Tmp)(k:TE V.N->Option A):Option A:=match V.ty t,iC P t,dst with
 |some (.ar n e),some z,some d=>match dH V true e ((z.take (tsz V.sz e)).map tvc)with
  |some y=>if z.all d9=true/\um t z=none/\TM z (aa7 n (z.take (tsz V.sz e))).flatten=true then k {val:= .bp (nm d) 0,upd:=[(nm d, .bar n e (aa7 n y))],new:=[nm d]}else none
  |none=>none
 |_,_,_=>none
def OV{A:Type}(x:Operand)(dst:Option Tmp)(S:TS V.N)(k:TE V.N->Option A):Option A:=match tev S x,dst with
 | .lf (.ar n e) xs,some d=>k {val:= .bp (nm d) 0,upd:=[(nm d, .bar n e xs)],new:=[nm d]}
 |_,_=>none
def O4{A:Type}(x:Operand)(S:TS V.N)(k:TE V.N->Option A):Option A:=match tev S x with
 | .lf (.op e) y=>y>>=λz=>k {val:= .rp e z 0}
 |_=>none
def eF:List (Ty V.ι)->Option (List CK)
 |[]=>some []
 |t::r=>match t,eF r with
  | .int k,some l=>some (.int k::l)
  | .bool,some l=>some (.bool::l)
  | .str,some l=>some (.str::l)
  |_,_=>none
def DX(P:Program)(t:TypeId):Bool:=match P.underlying t with
 |some (.struct _)=>true
 |_=>false
def QY(P:Program)(t:TypeId):Bool:=match P.underlying t with
 |some (.func _ _ _)=>true
 |_=>false
def OX{A:Type}(op:BinOp)(xt:TypeId)(x y:Operand)(S:TS V.N)(k:TE V.N->Option A):Option A:=match Ug op,tev S x,tev S y with
 |some q, .lf (.op _) a, .raw (.pointer none)=>match lM P xt with
  |true=>match q with
   |true=>k {val:= .lf .bool a.isNone}
   |false=>k {val:= .lf .bool a.isSome}
  |false=>none
 |some q, .lf .fno a, .raw .nilFunc=>match QY P xt with
  |true=>match q with
   |true=>k {val:= .lf .bool a.isNone}
   |false=>k {val:= .lf .bool a.isSome}
  |false=>none
 |some q, .lf (.st i) a, .lf (.st j) b=>if i=j/\DX P xt=true/\P.eqGuardType P.depth xt=false/\(iN P 100 xt).isSome=true/\eF V (V.tys i)=iN P 100 xt then match q with
  |true=>k {val:= .lf .bool (Dy (V.cells i a) (V.cells j b))}
  |false=>k {val:= .lf .bool (!Dy (V.cells i a) (V.cells j b))}
  else none
 |_,_,_=>none
def RF{α:Type}:List α->Nat->α->List α
 |[],_,_=>[]
 |_::r,0,x=>x::r
 |a::r,i+1,x=>a::RF r i x
def RE(e:Ty V.ι):List (den V.N e)->List (Nat×TV V.N)->Option (List (den V.N e))
 |ys,[]=>some ys
 |ys,(i,x)::r=>if i<ys.length then match Hn V true e x with
  |some y=>RE e (RF ys i y) r
  |none=>none
  else none
def xH{A:Type}(t:TypeId)(parts:List (Nat×Operand))(S:TS V.N)(k:TE V.N->Option A):Option A:=match V.ty t,tB P t,iC P t with
 |some (.ar n e),some (len,_,_,sz),some z=>match dH V true (.ar n e) (z.map tvc)with
  |some ys0=>if(n=len/\sz=tsz V.sz e)/\z.all d9=true/\ac9 ys0=n then
   match RE V e ys0 (parts.map λ(i,x)=>(i,fnF V e (fnT (tev S x))))with
   |some ys=>k {val:= .lf (.ar n e) ys}
   |none=>none
   else none
  |none=>none
 |_,_,_=>none
def xI{A:Type}(t:TypeId)(parts:List (Nat×Operand))(S:TS V.N)(k:TE V.N->Option A):Option A:=match iC P t,places P t with
 |some z,some pl=>if z.all d9=true then match wA V pl (z.map tvc) (parts.map λ(i,x)=>(i,fnT (tev S x)))with
  |some cs=>k {val:=mkV V true (V.ty t) cs}
  |none=>none
  else none
 |_,_=>none
def uk:Nat->List (TV V.N)->Option Nat
 |_,[]=>none
 |j,x::r=>match x with
  | .raw (.slice none 0 0)=>some j
  |_=>uk (j+1) r
def xJ{A:Type}(t:TypeId)(parts:List (Nat×Operand))(dst:Option Tmp)(S:TS V.N)(k:TE V.N->Option A):Option A:=match iC P t,places P t,V.ty t,dst with
 |some z,some pl,some (.st s),some d=>if z.all d9=true then match wA V pl (z.map tvc) (parts.map λ(i,x)=>(i,tev S x))with
  |some cs=>match uk V 0 cs with
   |some j=>match(V.tys s)[j]? with
    |some (.sl e)=>match TV.hasL (53000+d) cs with
     |false=>k {val:= .agg (RF cs j (.vh (53000+d))),upd:=[(53000+d, .vec (V.tid e) e [])],new:=[53000+d]}
     |true=>none
    |_=>none
   |none=>none
  |none=>none
  else none
 |_,_,_,_=>none
end
section
variable {V:iF} {P:Program} {nm:Nat->Nat} {o:Oper} {S:TS V.N} {A:Type} {k:TE V.N->Option A} {r:A}
def _root_.Go.Tx.Ty.flat0{ι:Type}:Ty ι->Bool
 | .int _=>true
 | .bool=>true
 | .str=>true
 |_=>false
theorem dI{v:TV V.N}{l:List Nat}{h:H}(hk:k {val:=v,acc:=l}=some r)(hs:aW P nm o (Go.Awp.ev (a_ V S)) (a_ V S).own? {val:=h,acc:=l})(he:h=aL V S.len v):OpD P nm o S k r:=
 ⟨_,hk,ju S _ _,_, .sem hs,tW he⟩
theorem B3{t:TypeId}{x i:Operand}(ho:o.op= .index t x i)(h:xM V P t x i S k=some r):OpD P nm o S k r:=by
 unfold xM at h
 split at h
 ·rename_i len te ag sz n e xs kk j ht hx hi
  replace h:=aG h
  obtain⟨⟨e1,e2,e3⟩,h⟩:=h
  replace h:=aG h
  obtain⟨⟨h0,h1⟩,h⟩:=h
  replace h:=ci h
  obtain⟨y,hy,h⟩:=h
  subst e1;subst e2
  refine dI h (.index (n:=j) (ds:=bY V.sz V.enc (.ar n e) xs) ho ht (by rw[aI,hx];rfl) (by rw[aI,hi];rfl) h0 h1 (Ea (y:=y) (r9 ((Int.toNat_lt h0).2 h1) hy) e3)) (by simp only[aL])
 ·cases h
theorem J9{t:TypeId}{x i:Operand}(ho:o.op= .indexAddr t x i)(h:O1 V P t x i S k=some r):OpD P nm o S k r:=by
 unfold O1 at h
 split at h
 ·rename_i len te ag sz kk j ht hi
  have hi':Go.Awp.ev (a_ V S) i= .d (.v (.int kk j)):=by rw[aI,hi];rfl
  split at h
  ·rename_i m hx
   split at h
   ·rename_i n e xs hown
    replace h:=aG h
    obtain⟨⟨e1,e2⟩,h⟩:=h
    replace h:=aG h
    obtain⟨⟨h0,h1⟩,h⟩:=h
    exact dI h (.indexArr (hx':= .bp m (0+j.toNat *sz)) ho ht hi' h0 h1 (.inl ⟨m,0,by rw[aI,hx];rfl,rfl⟩)) (by simp[aL])
   ·cases h
  ·rename_i n e xs hx
   replace h:=aG h
   obtain⟨⟨e1,e2⟩,h⟩:=h
   replace h:=aG h
   obtain⟨⟨h0,h1⟩,h⟩:=h
   replace h:=ci h
   obtain⟨y,hy,h⟩:=h
   subst e1;subst e2
   have hj:abb j<n:=(Int.toNat_lt h0).2 h1
   have m1:(j.toNat+1) *tsz V.sz e<=n *tsz V.sz e:=aa_ _ hj
   rw[abs]at m1
   refine dI h (.indexArr (n:=j) (hx':= .d (.rp (((bY V.sz V.enc (.ar n e) xs).drop (j.toNat *tsz V.sz e)).take (tsz V.sz e)))) ho ht hi' h0 h1 (.inr (.inr ⟨bY V.sz V.enc (.ar n e) xs,by rw[aI,hx];simp[aL],?_,rfl⟩))) ?_
   ·rw[cD];exact m1
   ·rw[r9 hj hy];simp[aL]
  ·rename_i m s i' off hx
   replace h:=aG h
   obtain⟨⟨h0,h1⟩,h⟩:=h
   exact dI h (.indexArr ho ht hi' h0 h1 (.inr (.inl ⟨m,s,i',off,by rw[aI,hx];rfl,rfl⟩))) (by simp[aL])
  ·cases h
 ·cases h
theorem D_{ag:Bool}{sz:Nat}{a b:List D}{d:D}(h:dZ ag sz a=some d):dZ ag sz (a++b)=some d:=by
 cases ag with
 |true=>
  simp only[dZ]at h⊢
  split at h
  ·rename_i hl
   rw[aep (by rw[abd];omega),aco hl];exact h
  ·cases h
 |false=>
  cases a with
  |nil=>simp[dZ]at h
  |cons x r=>exact h
theorem ur{ag:Bool}{sz m off:Nat}{l row:List D}{d:D}(hr:l.take m=row)(h:dZ ag sz (row.drop off)=some d):dZ ag sz (l.drop off)=some d:=by
 rw[<-adY m l,hr,adN]
 exact D_ h
theorem D9{ag:Bool}{sz:Nat}{ds:List D}{d:D}(h:dZ ag sz ds=some d):fw ag sz (ds.map H.d)=some (.d d):=by
 cases ag with
 |true=>
  simp only[dZ,fw,aaS]at h⊢
  split at h
  ·rename_i hl
   rw[aep hl,<-abS,cR,dX]
   simp only[aaN]at h;subst h;rfl
  ·cases h
 |false=>
  cases ds with
  |nil=>simp[dZ]at h
  |cons x r=>simp[dZ]at h;subst h;rfl
theorem fI{ω:Nat->Nat}{ag:Bool}{sz:Nat}{ot:Option (Ty V.ι)}{B:Type}{f:TV V.N->Option B}{b:B}:∀(t:Ty V.ι) (x:den V.N t) (off:Nat),wN V ag sz ot t x off f=some b->
 ∃v,f v=some b/\∃d,dZ ag sz ((bY V.sz V.enc t x).drop off)=some d/\∀ω,aL V ω v= .d d
 | .ar n e,xs,off,h=>by
  simp only[wN]at h
  split at h
  ·rename_i hc
   obtain⟨rfl,_,rfl,rfl⟩:=hc
   refine⟨_,h, .agg (bY V.sz V.enc (.ar n e) xs),?_,λω=>rfl⟩
   have hl:=cD (V:=V) (.ar n e) xs
   simp only[dZ,aa8]
   rw[aep (by omega),abt (by omega)]
  ·obtain⟨hn,h⟩:=aG h
   replace h:=ci h
   obtain⟨y,hy,h⟩:=h
   obtain⟨v,h1,d,h2,h3⟩:=fI (ω:=ω) e y _ h
   refine⟨v,h1,d,?_,h3⟩
   have:=ur (r9 hn hy) h2
   rw[acm]at this
   rw[acv,acZ]at this
   exact this
 | .int _,x,off,h=>loadL_k h
 | .bool,x,off,h=>loadL_k h
 | .str,x,off,h=>loadL_k h
 | .st _,x,off,h=>loadL_k h
 | .sl _,x,off,h=>loadL_k h
 | .mp _ _,x,off,h=>loadL_k h
 | .er,x,off,h=>loadL_k h
 | .op _,x,off,h=>loadL_k h
 | .fnc,x,off,h=>loadL_k h
 | .fno,x,off,h=>loadL_k h
where
 loadL_k {ag:Bool} {sz:Nat} {ot:Option (Ty V.ι)} {B:Type} {f:TV V.N->Option B} {b:B} {t:Ty V.ι} {x:den V.N t} {off:Nat} (h:(match ut V ag sz ot t x off with|some v=>f v|none=>none)=some b):
  ∃v,f v=some b/\∃d,dZ ag sz ((bY V.sz V.enc t x).drop off)=some d/\∀ω,aL V ω v= .d d:=by
  split at h
  ·rename_i v hv
   obtain⟨d,h1,h2⟩:=fJ (ω:=λ_=>0) hv
   refine⟨v,h,d,h1,λω=> ?_⟩
   obtain⟨d',h1',h2'⟩:=fJ (ω:=ω) hv
   rw[h1]at h1';cases h1'
   exact h2'
  ·cases h
theorem vu{t:TypeId}{x:Operand}(ho:o.op= .load t x)(h:zG V P t x S k=some r):OpD P nm o S k r:=by
 unfold zG at h
 split at h
 ·rename_i ag sz ht
  have hop:o.op.operands= #[x]:=by rw[ho];rfl
  split at h
  ·rename_i n s i off hx
   split at h
   ·rename_i m e xs hown
    replace h:=aG h
    obtain⟨⟨e1,e2⟩,h⟩:=h
    replace h:=aG h
    obtain⟨hi,h⟩:=h
    replace h:=ci h
    obtain⟨y,hy,h⟩:=h
    obtain⟨v,h1,d,h2,h3⟩:=fI (ω:=S.len) _ _ _ h
    subst e1
    refine dI h1 (.ofAVal λρ' ω' hρ hω=> ?_) (h3 _).symm
    have hx':ρ' x= .bp n (i *tsz V.sz e+off):=by rw[hρ x (by rw[hop];simp),aI,hx];rfl
    have ho':ω' n=_:=(hω n (by simp)).trans (pq hown)
    simp only[bN,ho,ht,hx',ho']
    have:=ur (r9 hi hy) h2
    rw[acm]at this
    rw[<-abT,D9 this]
   ·cases h
  ·rename_i n hx
   split at h
   ·rename_i m e xs hown
    replace h:=aG h
    obtain⟨⟨e1,e2,e3⟩,h⟩:=h
    subst e2;subst e3
    refine dI h (.ofAVal (e:={val:= .d (.agg (bY V.sz V.enc (.ar m e) xs)),acc:=[n]}) λρ' ω' hρ hω=> ?_) rfl
    have hx':ρ' x= .bp n 0:=by rw[hρ x (by rw[hop];simp),aI,hx];rfl
    have ho':ω' n=_:=(hω n (by simp)).trans (pq hown)
    simp only[bN,ho,ht,hx',ho']
    have hl:=cD (V:=V) (.ar m e) xs
    rw[aa8,D9 (d:= .agg (bY V.sz V.enc (.ar m e) xs)) (by simp only[dZ];rw[aep (by omega),abt (by omega)])]
   ·cases h
  ·rename_i n s i off hx
   split at h
   ·rename_i te e xs hown
    replace h:=aG h
    obtain⟨e1,h⟩:=h
    replace h:=ci h
    obtain⟨y,hy,h⟩:=h
    obtain⟨v,h1,d,h2,h3⟩:=fI (ω:=S.len) _ _ _ h
    subst e1
    refine dI h1 (.ofAVal λρ' ω' hρ hω=> ?_) (h3 _).symm
    have hx':ρ' x= .ep n (tsz V.sz e) i off:=by rw[hρ x (by rw[hop];simp),aI,hx];rfl
    have ho':ω' n=_:=(hω n (by simp)).trans (dJ hown)
    simp only[bN,ho,ht,hx',ho',aaR,hy,abf,h2]
    exact⟨trivial,trivial⟩
   ·rename_i te e xs hown
    replace h:=aG h
    obtain⟨e1,h⟩:=h
    replace h:=ci h
    obtain⟨y,hy,h⟩:=h
    obtain⟨v,h1,d,h2,h3⟩:=fI (ω:=S.len) _ _ _ h
    subst e1
    exact dI h1 (.qload ho ht (by rw[aI,hx];rfl) (s4 hown) (r:=bY V.sz V.enc e y) (by rw[aaR,hy];rfl) h2) (h3 _).symm
   ·cases h
  ·rename_i t' y off hx
   obtain⟨v,h1,d,h2,h3⟩:=fI (ω:=S.len) _ _ _ h
   refine dI h1 (.ofAVal λρ' ω' hρ hω=> ?_) (h3 _).symm
   have hx':ρ' x= .d (.rp ((bY V.sz V.enc t' y).drop off)):=by rw[hρ x (by rw[hop];simp),aI,hx];rfl
   simp only[bN,ho,ht,hx',h2]
  ·cases h
 ·cases h
theorem xe{n:Nat}{o':TO V.N}{x:Own}{l:List Nat}(hx:∀ω,ct V ω o'=some x)(hl:TO.len (some o')=S.len n)(hk:k {val:= .junk,acc:=l,upd:=[(n,o')]}=some r)
 (h:aW P nm o (Go.Awp.ev (a_ V S)) (a_ V S).own? {val:= .junk,acc:=l,upd:=[(n,some x)]}):OpD P nm o S k r:=by
 refine⟨_,hk,λm o1 hm=> ?_,_, .sem h,cX rfl rfl (by simp[hx]) rfl⟩
 simp only[aH]at hm
 split at hm
 ·rename_i e;right;simp at hm;subst hm;subst e;exact hl
 ·simp[gt]at hm
theorem sX{d:Nat}{v:TV V.N}{h:H}{o':TO V.N}{x:Own}{l:List Nat}(hx:∀ω,ct V ω o'=some x)(hv:∀ω:Nat->Nat,ω d=TO.len (some o')->aL V ω v=h)(hk:k {val:=v,acc:=l,upd:=[(d,o')],new:=[d]}=some r)
 (hs:aW P nm o (Go.Awp.ev (a_ V S)) (a_ V S).own? {val:=h,acc:=l,upd:=[(d,some x)],new:=[d]}):OpD P nm o S k r:=by
 refine⟨_,hk,λm o1 hm=> ?_,_, .sem hs,cX (hv _ ?_).symm rfl (by simp[hx]) rfl⟩
 ·simp only[aH]at hm
  split at hm
  ·rename_i e;left;simp[e]
  ·simp[gt]at hm
 ·rw[d6];simp[aH]
theorem Ca{t:TypeId}{x y:Operand}(ho:o.op= .store t x y)(h:xT V P t x y S k=some r):OpD P nm o S k r:=by
 unfold xT at h
 split at h
 ·rename_i ag sz cs ht hcs
  have hop:o.op.operands= #[x,y]:=by rw[ho];rfl
  have hyc:=dS (ω:=S.len) hcs
  split at h
  ·rename_i n s i hx
   split at h
   ·rename_i m e xs hown
    replace h:=aG h
    obtain⟨⟨e1,e2,e3,e4⟩,h⟩:=h
    replace h:=aG h
    obtain⟨hi,h⟩:=h
    replace h:=aG h
    obtain⟨hil,h⟩:=h
    split at h
    ·rename_i z hz
     obtain⟨ds,d1,_,d3⟩:=ek (ω:=S.len) hz
     replace d3:=d3 rfl
     subst d3
     refine xe (x:= .box none ((bY V.sz V.enc (.ar m e) (xs.set i z)).map .d)) (λω=>rfl) (by rw[D6 hown];rfl) h (.ofAVal λρ' ω' hρ hω=> ?_)
     have hx':ρ' x= .bp n (i *s+0):=by rw[hρ x (by rw[hop];simp),aI,hx];rfl
     have hy':(ρ' y).cells=some (encL V S.len cs):=by rw[hρ y (by rw[hop];simp),aI];exact hyc
     have ho':ω' n=_:=(hω n (by simp)).trans (pq hown)
     simp only[bN,ho,ht,hx',hy',ho',bF]
     have hl:=cD (V:=V) (.ar m e) xs
     have m1:(i+1) *tsz V.sz e<=m *tsz V.sz e:=aa_ _ hi
     rw[abs]at m1
     have hl2:(bY V.sz V.enc (.ar m e) xs).length=m *tsz V.sz e:=hl
     subst e1
     refine⟨⟨e2,ft e4,by rw[aaS,hl2];omega⟩,?_⟩
     have hzl:=cD (V:=V) e z
     rw[Cp hi hil,eK,bF,d1]
     simp only[abG,abS,abT,abX]
     have:cs.length=tsz V.sz e:=by omega
     rw[this]
    ·cases h
   ·cases h
  ·rename_i n hx
   split at h
   ·rename_i m e xs m' e' ys hown hy
    replace h:=aG h
    obtain⟨⟨e1,e2,e3⟩,h⟩:=h
    subst e1;subst e2
    rw[hy]at hcs
    simp only[TV.cells,aaN]at hcs
    subst hcs
    have he:encL V S.len ((bK V (.ar m' e') ys).map λl=>TV.lf l.t l.x)=(bY V.sz V.enc (.ar m' e') ys).map H.d:=by
     rw[c6,aU,abq,abq]
     exact abj λl _=>by simp[aL]
    rw[he]at hyc
    refine xe (x:= .box none ((bY V.sz V.enc (.ar m' e') ys).map .d)) (λω=>rfl) (by rw[D6 hown];rfl) h (.ofAVal λρ' ω' hρ hω=> ?_)
    have hx':ρ' x= .bp n 0:=by rw[hρ x (by rw[hop];simp),aI,hx];rfl
    have hy':(ρ' y).cells=some ((bY V.sz V.enc (.ar m' e') ys).map H.d):=by rw[hρ y (by rw[hop];simp),aI];exact hyc
    have ho':ω' n=_:=(hω n (by simp)).trans (pq hown)
    simp only[bN,ho,ht,hx',hy',ho']
    have hl:=cD (V:=V) (.ar m' e') ys
    have hl2:=cD (V:=V) (.ar m' e') xs
    refine⟨⟨by rw[aaS,hl,e3],?_,by rw[aaS,hl2,e3];omega⟩,?_⟩
    ·rw[acG]
     exact xh
    ·simp only[eK,ac5,aaZ,aaS,aaU]
     rw[adT (by rw[aaS];omega),acK]
   ·cases h
  ·cases h
 ·cases h
theorem S4{a b:Value}(h:zeq a b=true):a=b:=by
 unfold zeq at h
 split at h
 ·simp only[aaT,aen]at h
  rw[h.1,h.2]
 ·rename_i a b
  have:a=b:=by simpa using h
  rw[this]
 ·rfl
 ·simp only[aen]at h;rw[h]
 ·cases h
theorem GH:∀{a b:List Value},TM a b=true->a=b
 |[],[],_=>rfl
 |a::r,b::s,h=>by
  simp only[TM,aaT]at h
  rw[S4 h.1,GH h.2]
 |[],_::_,h=>by cases h
 |_::_,[],h=>by cases h
theorem BW{t:TypeId}(ho:o.op= .alloc t)(h:xG V P nm t o.dst k=some r):OpD P nm o S k r:=by
 unfold xG at h
 split at h
 ·rename_i n e z d hty hz hd
  split at h
  ·rename_i y hy
   replace h:=aG h
   obtain⟨⟨h1,h2,h3⟩,h⟩:=h
   obtain⟨ds,d1,_,d3⟩:=ek (ω:=S.len) hy
   replace d3:=d3 rfl
   subst d3
   have h3:=GH h3
   have hrow:bY V.sz V.enc e y=(z.take (tsz V.sz e)).map .v:=by
    apply kG
    rw[<-d1,aU]
    simp only[abq]
    refine(abj λu hu=> ?_)
    have:d9 u=true:=aa1.1 h1 u (abN hu)
    simp only[act,xU]
    cases u<;>first|rfl|cases this
   have harr:bY V.sz V.enc (.ar n e) (aa7 n y)=z.map .v:=by
    simp only[bY,arL,acz]
    have hl:=cD (V:=V) e y
    rw[aco (by rw[hO (s:=tsz V.sz e) (λr hr=>by rw[(adz.1 hr).2];exact hl),abA];exact abe _),
     abt (by rw[hO (s:=tsz V.sz e) (λr hr=>by rw[(adz.1 hr).2];exact hl),abA];exact abe _)]
    rw[h3,List.map_flatten,acz,hrow]
   refine sX (h:= .bp (nm d) 0) (x:= .box none ((bY V.sz V.enc (.ar n e) (aa7 n y)).map .d)) (λω=>rfl) (λω _=>rfl) h (.ofAVal λρ' ω' hρ hω=> ?_)
   simp only[bN,ho,hz,hd,h2]
   rw[harr,abq]
   try rfl
  ·cases h
 ·cases h
theorem JZ{t:TypeId}{x:Operand}(ho:o.op= .box t x)(h:OV V nm x o.dst S k=some r):OpD P nm o S k r:=by
 unfold OV at h
 split at h
 ·rename_i n e xs d hx hd
  refine sX (h:= .bp (nm d) 0) (x:= .box none ((bY V.sz V.enc (.ar n e) xs).map .d)) (λω=>rfl) (λω _=>rfl) h (.ofAVal λρ' ω' hρ hω=> ?_)
  have hx':ρ' x= .d (.agg (bY V.sz V.enc (.ar n e) xs)):=by rw[hρ x (by rw[ho];simp[Op.operands]),aI,hx];rfl
  simp only[bN,ho,hx',H.cells,hd]
  exact⟨none, .inl rfl,rfl⟩
 ·cases h
theorem Kd{x:Operand}(ho:o.op= .nilCheck x)(h:O4 V x S k=some r):OpD P nm o S k r:=by
 unfold O4 at h
 split at h
 ·rename_i e y hx
  replace h:=ci h
  obtain⟨z,rfl,h⟩:=h
  refine dI h (.ofAVal (e:={val:= .d (.rp (bY V.sz V.enc e z))}) λρ' ω' hρ hω=> ?_) (by simp[aL])
  have hx':ρ' x= .d (.rp (bY V.sz V.enc e z)):=by rw[hρ x (by rw[ho];simp[Op.operands]),aI,hx];rfl
  simp only[bN,ho,hx']
 ·cases h
def iT{ι:Type}{N:ι->Type}:dW N->Value
 |⟨.int k,n⟩=> .int k n
 |⟨.bool,b⟩=> .bool b
 |⟨.str,s⟩=> .string s
 |_=> .nilIface
theorem kC:∀{ls:List (dW V.N)} {ks:List CK},eF V (ls.map λl=>l.t)=some ks->(ls.map λl=>bC V.sz V.enc l.t l.x)=(ls.map iT).map .v/\hG ks (ls.map iT)=true
 |[],ks,h=>by simp[eF]at h;subst h;exact⟨rfl,rfl⟩
 |⟨t,x⟩::r,ks,h=>by
  simp only[aaY,eF]at h
  split at h
  ·rename_i k l hl
   simp at h;subst h
   obtain⟨h1,h2⟩:=kC hl
   exact⟨by simp only[aaY,h1];rfl,by simp[hG,iT,CK.is,h2]⟩
  ·rename_i l hl
   simp at h;subst h
   obtain⟨h1,h2⟩:=kC hl
   exact⟨by simp only[aaY,h1];rfl,by simp[hG,iT,CK.is,h2]⟩
  ·rename_i l hl
   simp at h;subst h
   obtain⟨h1,h2⟩:=kC hl
   exact⟨by simp only[aaY,h1];rfl,by simp[hG,iT,CK.is,h2]⟩
  ·cases h
theorem eo(x y:ByteArray):(x==y)=true↔x=y:=by
 obtain⟨a⟩:=x
 obtain⟨b⟩:=y
 show(a==b)=true↔_
 simp
theorem Nc{t:Ty V.ι}{x y:den V.N t}(ht:t.flat0=true):oH (iT (⟨t,x⟩:dW V.N)) (iT ⟨t,y⟩)=Td (⟨t,x⟩:dW V.N) ⟨t,y⟩:=by
 cases t with
 |int k=>rfl
 |bool=>rfl
 |str=>
  simp only[iT,Td,Mp.seq]
  rw[Bool.eq_iff_iff,qN (k:= .str) rfl rfl]
  have e1:(Value.string x=Value.string y)↔(x=y):=by simp
  exact e1.trans (eo x y).symm
 |_=>cases ht
theorem Dz:∀{ls ls':List (dW V.N)} {ks:List CK},eF V (ls.map λl=>l.t)=some ks->eF V (ls'.map λl=>l.t)=some ks->(ls.map λl=>l.t)=(ls'.map λl=>l.t)->cY (ls.map iT) (ls'.map iT)=Dy ls ls'
 |[],[],_,_,_,_=>rfl
 |[],_::_,_,_,_,h=>by simp at h
 |_::_,[],_,_,_,h=>by simp at h
 |⟨t,x⟩::r,⟨t',y⟩::r',ks,h1,h2,h=>by
  simp only[aaY,abD]at h
  obtain⟨rfl,h⟩:=h
  have tl:∀{t:Ty V.ι} {ts:List (Ty V.ι)} {ks:List CK},eF V (t::ts)=some ks->t.flat0=true/\∃ks',eF V ts=some ks':=by
   intro t ts ks h
   simp only[eF]at h
   split at h<;>first|(exact⟨rfl,_,‹_›⟩)|cases h
  simp only[aaY]at h1 h2
  obtain⟨f1,k1,g1⟩:=tl h1
  obtain⟨f2,k2,g2⟩:=tl h2
  have g3:=g2
  rw[<-h]at g3
  have ih:=Dz (ks:=k1) g1 (by rw[<-h];exact g1) h
  have he:=Nc (V:=V) (x:=x) (y:=y) f1
  simp only[aaY,cY,he,ih]
  cases r with
  |nil=>
   cases r' with
   |nil=>simp[Dy]
   |cons b s=>simp at h
  |cons a q=>
   cases r' with
   |nil=>simp at h
   |cons b s=>simp[Dy]
theorem ef{i:V.ι}{a:V.N i}{ks:List CK}(h:eF V (V.tys i)=some ks):V.enc i a=((V.cells i a).map iT).map .v/\hG ks ((V.cells i a).map iT)=true:=by
 rw[<-V.tys_cells i a]at h
 rw[V.enc_cells]
 exact kC h
theorem yM{i:V.ι}{a b:V.N i}{ks:List CK}(h:eF V (V.tys i)=some ks):cY ((V.cells i a).map iT) ((V.cells i b).map iT)=Dy (V.cells i a) (V.cells i b):=
 Dz (ks:=ks) (by rw[V.tys_cells];exact h) (by rw[V.tys_cells];exact h) (by rw[V.tys_cells,V.tys_cells])
theorem J4{op:BinOp}{xt yt:TypeId}{x y:Operand}(ho:o.op= .binOp op xt x y yt)(h:OX V P op xt x y S k=some r):OpD P nm o S k r:=by
 unfold OX at h
 split at h
 ·rename_i q e a hq hx hy
  split at h
  ·rename_i hp
   have key:∀b:Bool,k {val:= .lf .bool (if q=true then b else !b)}=some r->nT P xt (bC V.sz V.enc (.op e) a) (.v (.pointer none)) b->OpD P nm o S k r:=λb hk hc=>
    dI hk (.cmp ho hq (by rw[aI,hx];rfl) (by rw[aI,hy];rfl) hc) rfl
   have hc:nT P xt (bC V.sz V.enc (.op e) a) (.v (.pointer none)) a.isNone:=by
    cases a with
    |none=>exact .pn hp
    |some z=>exact .rp hp
   refine key _ ?_ hc
   split at h<;>cases a<;>exact h
  ·cases h
 ·rename_i q a hq hx hy
  split at h
  ·rename_i hp
   have hp':∃x y z,P.underlying xt=some (.func x y z):=by
    unfold QY at hp
    split at hp
    ·exact⟨_,_,_,‹_›⟩
    ·cases hp
   have key:∀b:Bool,k {val:= .lf .bool (if q=true then b else !b)}=some r->nT P xt (bC V.sz V.enc .fno a) (.v .nilFunc) b->OpD P nm o S k r:=λb hk hc=>
    dI hk (.cmp ho hq (by rw[aI,hx];rfl) (by rw[aI,hy];rfl) hc) rfl
   have hc:nT P xt (bC V.sz V.enc .fno a) (.v .nilFunc) (Option.isNone (α:=Nat) a):=by
    cases a with
    |none=>exact .nf hp'
    |some z=>exact .fn hp'
   refine key _ ?_ hc
   split at h<;>cases a<;>exact h
  ·cases h
 ·rename_i q i a j b hq hx hy
  replace h:=aG h
  obtain⟨⟨e1,hs,hg,hf,hks⟩,h⟩:=h
  subst e1
  obtain⟨ks,hks'⟩:=adc.1 hf
  rw[hks']at hks
  obtain⟨a1,a2⟩:=ef (a:=a) hks
  obtain⟨b1,b2⟩:=ef (a:=b) hks
  have hs':∃fs,P.underlying xt=some (.struct fs):=by
   unfold DX at hs
   split at hs
   ·exact⟨_,‹_›⟩
   ·cases hs
  have hc:nT P xt (.agg (V.enc i a)) (.agg (V.enc i b)) (Dy (V.cells i a) (V.cells i b)):=by
   rw[a1,b1,<-yM hks]
   exact .st hs' hg (by decide) hks' a2 b2
  have key:k {val:= .lf .bool (if q=true then Dy (V.cells i a) (V.cells i b)else !Dy (V.cells i a) (V.cells i b))}=some r->OpD P nm o S k r:=λhk=>
   dI hk (.cmp ho hq (by rw[aI,hx,jV]) (by rw[aI,hy,jV]) hc) rfl
  refine key ?_
  split at h<;>exact h
 ·cases h
theorem Co{n sz i:Nat}(h:i<n):(z8 n sz)[i]?=some (i *sz,sz):=by
 unfold z8
 rw[aaR,ab7 h];rfl
theorem Nf{ω:Nat->Nat}(e:Ty V.ι)(v:TV V.N):aL V ω (fnF V e v)=aL V ω v:=by
 unfold fnF
 split
 ·cases e<;>rfl
 ·rfl
theorem xu{α:Type}:∀(l:List α) (i:Nat) (x:α),RF l i x=l.set i x
 |[],_,_=>rfl
 |_::_,0,_=>rfl
 |a::r,i+1,x=>by rw[RF,xu r i x];rfl
theorem lX{ω:Nat->Nat}{z:List Value}(h:z.all d9=true):encL V ω (z.map tvc)=z.map λx=>H.d (.v x):=by
 rw[aU]
 simp only[abq]
 refine abj λu hu=> ?_
 have:d9 u=true:=aa1.1 h u hu
 simp only[act,xU]
 cases u<;>first|rfl|cases this
theorem ry{ω:Nat->Nat}{n:Nat}{e:Ty V.ι}:∀{parts:List (Nat×TV V.N)} {ys ys':List (den V.N e)},RE V e ys parts=some ys'->ys.length=n->
 oJ (z8 n (tsz V.sz e)) ((bY V.sz V.enc (.ar n e) ys).map .d) (parts.map λp=>(p.1,aL V ω p.2))=some ((bY V.sz V.enc (.ar n e) ys').map .d)
 |[],ys,ys',h,_=>by
  simp only[RE,aaN]at h
  subst h;rfl
 |(i,x)::r,ys,ys',h,hn=>by
  simp only[RE]at h
  replace h:=aG h
  obtain⟨hi,h⟩:=h
  split at h
  ·rename_i y hy
   obtain⟨cs,ds,h1,h2,_,h4⟩:=oE (ω:=ω) hy
   replace h4:=h4 rfl
   subst h4
   have hc:=dS (ω:=ω) h1
   have hl:=cD (V:=V) e y
   have hcl:cs.length=tsz V.sz e:=by
    have:=congrArg ac9 h2
    rw[bF,aaS,hl]at this;exact this
   have hL:=cD (V:=V) (.ar n e) ys
   have hL2:(bY V.sz V.enc (.ar n e) ys).length=n *tsz V.sz e:=hL
   have m1:(i+1) *tsz V.sz e<=n *tsz V.sz e:=aa_ _ (by omega)
   rw[abs]at m1
   rw[xu]at h
   have ih:=ry (ω:=ω) (n:=n) h (by rw[abC];exact hn)
   simp only[aaY,oJ,Co (by omega:i<n),hc]
   rw[aep ⟨by rw[bF];exact hcl,by rw[aaS,hL2];omega⟩,<-ih]
   congr 1
   rw[eK,bF,hcl,h2,Cp (by omega) hi]
   simp only[abG,abS,abT]
  ·cases h
theorem BX{t:TypeId}{parts:Array (Nat×Operand)}(ho:o.op= .build t parts)(h:xH V P t parts.toList S k=some r):OpD P nm o S k r:=by
 unfold xH at h
 split at h
 ·rename_i n e len te ag sz z hty ht hz
  split at h
  ·rename_i ys0 hys0
   replace h:=aG h
   obtain⟨⟨⟨e1,e2⟩,e3,e4⟩,h⟩:=h
   split at h
   ·rename_i ys hys
    subst e1;subst e2
    obtain⟨ds,d1,_,d3⟩:=ek (ω:=S.len) hys0
    replace d3:=d3 rfl
    subst d3
    rw[lX e3]at d1
    have hf:=ry (ω:=S.len) (n:=n) hys e4
    have hp:((parts.toList.map λ(i,x)=>(i,fnF V e (fnT (tev S x)))).map λp=>(p.1,aL V S.len p.2))=parts.toList.map λ(i,x)=>(i,fnD (Go.Awp.ev (a_ V S) x)):=by
     rw[abq]
     refine abj λp _=> ?_
     simp only[act,Nf,ss,aI]
    rw[hp,<-d1]at hf
    refine dI h (.buildArr ho ht hz hf) ?_
    rw[cR,dX,K2]
   ·cases h
  ·cases h
 ·cases h
theorem BZ{t:TypeId}{parts:Array (Nat×Operand)}(ho:o.op= .build t parts)(h:xI V P t parts.toList S k=some r):OpD P nm o S k r:=by
 unfold xI at h
 split at h
 ·rename_i z pl hz hpl
  replace h:=aG h
  obtain⟨hzc,h⟩:=h
  split at h
  ·rename_i cs hcs
   have hf:=hD (ω:=S.len) hcs
   have hp:((parts.toList.map λ(i,x)=>(i,fnT (tev S x))).map λp=>(p.1,aL V S.len p.2))=parts.toList.map λ(i,x)=>(i,fnD (Go.Awp.ev (a_ V S) x)):=by
    rw[abq]
    refine abj λp _=> ?_
    simp only[act,ss,aI]
   rw[hp,lX hzc]at hf
   exact dI h (.buildSt ho hz hpl hf) (iY.2 rfl)
  ·cases h
 ·cases h
theorem oR:∀{l:List (TV V.N)} {j i:Nat},uk V j l=some i->j<=i/\l[i-j]?=some (.raw (.slice none 0 0))
 |[],_,_,h=>by simp[uk]at h
 |x::r,j,i,h=>by
  simp only[uk]at h
  split at h
  ·simp only[aaN]at h
   subst h
   exact⟨abe _,by simp⟩
  ·obtain⟨h1,h2⟩:=oR h
   refine⟨by omega,?_⟩
   have:i-j=(i-(j+1))+1:=by omega
   rw[this]
   simpa using h2
theorem B1{t:TypeId}{parts:Array (Nat×Operand)}(ho:o.op= .build t parts)(h:xJ V P t parts.toList o.dst S k=some r):OpD P nm o S k r:=by
 unfold xJ at h
 split at h
 ·rename_i z pl s d hz hpl hty hd
  replace h:=aG h
  obtain⟨hzc,h⟩:=h
  split at h
  ·rename_i cs hcs
   split at h
   ·rename_i j hj
    split at h
    ·rename_i e he
     split at h
     ·rename_i hno
      rw[xu]at h
      have hf:=hD (ω:=S.len) hcs
      have hp:((parts.toList.map λ(i,x)=>(i,tev S x)).map λp=>(p.1,aL V S.len p.2))=parts.toList.map λ(i,x)=>(i,Go.Awp.ev (a_ V S) x):=by
       rw[abq]
       refine abj λp _=> ?_
       simp only[act,aI]
      rw[hp,lX hzc]at hf
      have hjc:cs[j]?=some (.raw (.slice none 0 0)):=by have:=(oR hj).2;simpa using this
      have base:aW P nm o (Go.Awp.ev (a_ V S)) (a_ V S).own? {val:=cR (encL V S.len cs)}:= .ofAVal λρ' ω' hρ hω=>by
       have hpp:(parts.toList.map λ(i,x)=>(i,ρ' x))=parts.toList.map λ(i,x)=>(i,Go.Awp.ev (a_ V S) x):=by
        refine abj λp hp=> ?_
        have:ρ' p.2=_:=hρ p.2 (by rw[ho];simp only[Op.operands];simpa using ⟨p.1,by simpa using hp⟩)
        simp only[this]
       simp only[bN,ho,hz,hpl,hpp,hf]
      refine⟨_,h,λm o1 hm=> ?_,_, .sem (.nilTop (nn:=53000+d) (e:=V.tid e) (sz:=tsz V.sz e) (i:=j) hd (by rw[aU,aaR,hjc];rfl) (by rw[encL_has];exact hno) base),cX ?_ rfl rfl rfl⟩
      ·simp only[aH]at hm
       split at hm
       ·rename_i q;left;simp[q]
       ·simp[gt]at hm
      ·simp only[aL]
       congr 1
       rw[aU _ (cs.set j _),acp]
       congr 1
       ·rw[<-aU]
        refine(encL_congr cs λq hq=> ?_).symm
        rw[d6]
        simp only[aH]
        rw[aeo λe0=>by rw[<-e0,hno]at hq;cases hq]
        rfl
       ·simp only[aL]
        rw[d6]
        simp only[aH,ael]
        rfl
     ·cases h
    ·cases h
   ·cases h
  ·cases h
 ·cases h
end
end Go.Tx
end
section
namespace Go.Tx
open Go.Awp
variable [Inhabited GMem]
section
variable (V:iF) (P:Program) (nm:Nat->Nat)
def bS(d:Nat):Nat:=50000+d
def kA(kt:TypeId):Ty V.ι->Bool
 | .st i=>DX P kt&&match iN P 100 kt with
  |some ks=>decide (eF V (V.tys i)=some ks)
  |none=>false
 |tk=>fm (P.underlying kt) tk
def qx{B:Type}(S:TS V.N)(n:Nat)(f:(m:Nat)->TypeId->(tk tv:Ty V.ι)->List (Option (List (den V.N tk×den V.N tv)))->Nat->List (den V.N tk×den V.N tv)->Option B):Option B:=match S.own? n with
 |some (.alias m)=>match S.own? m with
  |some (.maps te tk tv es (some (n',i)))=>if n'=n/\¬n=m then es[i]?>>=λo=>o>>=λm0=>f m te tk tv es i m0 else none
  |_=>none
 |_=>none
def HH{B:Type}(c:Bool)(tk tv:Ty V.ι)(key:den V.N tk)(z:den V.N tv)(es:List (den V.N tk×den V.N tv))(f:TV V.N->B):B:=match c with
 |true=>f (.tup [.lf tv ((Mp.get (keq V.cells tk) key es).getD z), .lf .bool (Mp.get (keq V.cells tk) key es).isSome])
 |false=>f (.lf tv ((Mp.get (keq V.cells tk) key es).getD z))
def Gt{A:Type}(t:TypeId)(x i:Operand)(c:Bool)(S:TS V.N)(k:TE V.N->Option A):Option A:=match P.underlying t,tev S x,tev S i with
 |some (.map kt et), .mp n, .lf tk key=>match lW P et with
  |some d=>match S.own? n with
   |some (.map tk' tv es)=>match ofZ V true tv d with
    |some z=>if h:tk=tk' then if kA V P kt tk'=true then HH V c tk' tv (h▸key) z es λv=>k {val:=v,acc:=[n]}else none else none
    |none=>none
   |_=>qx V S n λm te tk' tv es j m0=>match ofZ V true tv d with
    |some z=>if h:tk=tk' then if kA V P kt tk'=true then HH V c tk' tv (h▸key) z m0 λv=>k {val:=v,acc:=[m,n],upd:=[(m, .maps te tk' tv es (some (n,j))),(n, .alias m)]}else none else none
    |none=>none
  |none=>none
 |_,_,_=>none
def Kn{A:Type}(t:TypeId)(x i y:Operand)(S:TS V.N)(k:TE V.N->Option A):Option A:=match P.underlying t,tev S x,tev S i,tev S y with
 |some (.map kt _), .mp n, .lf tk key, .lf tv z=>match S.own? n with
  |some (.map tk' tv' es)=>if h:tk=tk' then
   if h':tv=tv' then
    if kA V P kt tk'=true then k {val:= .junk,acc:=[n],upd:=[(n, .map tk' tv' (Mp.set (keq V.cells tk') (klt tk') (h▸key) (h'▸z) es))]}else none
   else none
   else none
  |_=>qx V S n λm te tk' tv' es j m0=>if h:tk=tk' then
   if h':tv=tv' then
    if kA V P kt tk'=true then k {val:= .junk,acc:=[m,n],upd:=[(m, .maps te tk' tv' (es.set j (some (Mp.set (keq V.cells tk') (klt tk') (h▸key) (h'▸z) m0))) (some (n,j))),(n, .alias m)]}else none
   else none
   else none
 |_,_,_,_=>none
def O2{A:Type}(args:List (TV V.N))(tys:List TypeId)(S:TS V.N)(k:TE V.N->Option A):Option A:=match args with
 |[.mp n]=>if dK P tys=3 then qx V S n λm te tk tv es j m0=>k {val:= .lf (.int .i64) m0.length,acc:=[m,n],upd:=[(m, .maps te tk tv es (some (n,j))),(n, .alias m)]}else none
 |_=>none
def xP{A:Type}(t:TypeId)(x:Operand)(dst:Option Tmp)(S:TS V.N)(k:TE V.N->Option A):Option A:=match P.underlying t,tev S x,dst with
 |some (.map _ _), .mp n,some d=>qx V S n λm te tk tv es j m0=>
  if¬bS d=n/\¬bS d=m then k {val:= .bp (bS d) 0,acc:=[m,n],upd:=[(bS d, .miter n tk tv m0 m0 none),(n, .gone 0),(m, .maps te tk tv (es.set j none) none)],new:=[bS d]}else none
 |_,_,_=>none
def tm{A:Type}(t:TypeId)(x i:Operand)(S:TS V.N)(k:TE V.N->Option A):Option A:=match cK P t,tev S x,tev S i with
 |some (_,sz,_), .vh m, .lf (.int _) n=>match S.own? m with
  |some (.maps _ _ _ es _)=>if 0<=n/\n<es.length then k {val:= .ep m sz n.toNat 0,acc:=[m]}else none
  |some (.que _ _ xs)=>if 0<=n/\n<xs.length then k {val:= .ep m sz n.toNat 0,acc:=[m]}else none
  |_=>none
 |_,_,_=>none
def pY{A:Type}(t:TypeId)(x:Operand)(dst:Option Tmp)(S:TS V.N)(k:TE V.N->Option A):Option A:=match cW P t,tev S x,dst with
 |some (false,1), .ep m 1 i 0,some d=>match S.own? m with
  |some (.maps te tk tv es _)=>es[i]?>>=λo=>o>>=λ_=>if¬bS d=m then k {val:= .mp (bS d),acc:=[m],upd:=[(m, .maps te tk tv es (some (bS d,i))),(bS d, .alias m)],new:=[bS d]}else none
  |_=>none
 |_,_,_=>none
def lU{A:Type}(t:TypeId)(x y:Operand)(S:TS V.N)(k:TE V.N->Option A):Option A:=match cW P t,tev S x,tev S y with
 |some (_,1), .ep m 1 i 0, .mp n=>match S.own? m,S.own? n with
  |some (.maps te tk tv es _),some (.map tk' tv' e0)=>if h:tk'=tk/\tv'=tv then
   if i<es.length/\¬n=m then k {val:= .junk,acc:=[m,n],upd:=[(m, .maps te tk tv (es.set i (some (h.1▸h.2▸e0))) none),(n, .gone 0)]}else none
   else none
  |_,_=>none
 |_,_,_=>none
def pX{A:Type}(t:TypeId)(l c:Operand)(dst:Option Tmp)(S:TS V.N)(k:TE V.N->Option A):Option A:=match V.ty t,cK P t,dst with
 |some (.sl (.mp tk tv)),some (te,1,bytes),some d=>match iC P te,tev S l,tev S c with
  |some [_], .lf (.int _) _, .lf (.int _) m=>match rx l c with
   |true=>if bytes<=32768 then if 0<=m then if m<=4294967296 then k {val:= .vh (bS d),upd:=[(bS d, .maps te tk tv (aa7 m.toNat none) none)],new:=[bS d]}else none else none else none
   |false=>none
  |_,_,_=>none
 |_,_,_=>none
def xK{A:Type}(t:TypeId)(len:Nat)(parts:List (Nat×Operand))(dst:Option Tmp)(S:TS V.N)(k:TE V.N->Option A):Option A:=match cK P t,V.ty t,dst with
 |some (te,sz,_),some (.sl e),some d=>if sz=tsz V.sz e/\parts.length=len/\len *sz<=16777216/\0<len then
  match Bv V true e 0 (parts.map λ(i,x)=>(i,fnT (tev S x)))with
  |some ys=>k {val:= .vh (bS d),upd:=[(bS d, .que te e ys)],new:=[bS d]}
  |none=>none
  else none
 |_,_,_=>none
def xS{A:Type}(t:TypeId)(x:Operand)(lo hi mx:Option Operand)(dst:Option Tmp)(S:TS V.N)(k:TE V.N->Option A):Option A:=match mx,cK P t,dst,tev S x with
 |none,some (_,sz,_),some d, .vh m=>match lo,hi,S.own? m with
  |some l,none,some (.que te e xs)=>match tev S l with
   | .lf (.int _) n=>if sz=tsz V.sz e then if 0<=n then if n<=xs.length then k {val:= .vh (bS d),acc:=[m],upd:=[(bS d, .que te e (xs.drop n.toNat)),(m, .gone (S.len m))],new:=[bS d]}else none else none else none
   |_=>none
  |none,some h,some (.vec te e xs)=>match tev S h with
   | .lf (.int _) n=>if 0<=n then if n<=xs.length then k {val:= .vh (bS d),acc:=[m],upd:=[(bS d, .vec te e (xs.take n.toNat)),(m, .gone (S.len m))],new:=[bS d]}else none else none
   |_=>none
  |_,_,_=>none
 |_,_,_,_=>none
def OU{A:Type}(args:List (TV V.N))(tys:List TypeId)(dst:Option Tmp)(S:TS V.N)(k:TE V.N->Option A):Option A:=match args,tys,dst with
 |[x,y],[t,t'],some d=>match cK P t with
  |some (te,sz,bytes)=>if t=t'/\bytes<=32768 then match y with
   | .lf (.sl e') (y0::ys)=>match x with
    | .vh n=>match S.own? n with
     |some (.que te2 e xs)=>if h:e'=e then
      if te=te2/\sz=tsz V.sz e then
       if xs.length+(y0::ys).length<=most then k {val:= .vh (bS d),acc:=[n],upd:=[(bS d, .que te e (xs++h▸(y0::ys))),(n, .gone (S.len n))],new:=[bS d]}else none
      else none
      else none
     |_=>none
    |_=>none
   | .sv m sz2 lo len=>match S.own? m with
    |some (.vec _ e2 xs2)=>if sz=tsz V.sz e2/\sz2=sz then
     if lo+len<=xs2.length then match x with
      | .vh n=>match S.own? n with
       |some (.vec te1 e xs)=>if h:e2=e then
        if te=te1/\¬n=m then
         if xs.length+len<=most then k {val:= .vh (bS d),acc:=[m,n],upd:=[(bS d, .vec te e (xs++h▸(xs2.drop lo).take len)),(n, .gone (S.len n))],new:=[bS d]}else none
        else none
        else none
       |_=>none
      | .raw (.slice none 0 0)=>if len<=most then k {val:= .vh (bS d),acc:=[m],upd:=[(bS d, .vec te e2 ((xs2.drop lo).take len))],new:=[bS d]}else none
      |_=>none
     else none
     else none
    |_=>none
   |_=>none
   else none
  |none=>none
 |_,_,_=>none
def Gq{A:Type}(args:List (TV V.N))(tys:List TypeId)(S:TS V.N)(k:TE V.N->Option A):Option A:=match args,tys with
 |[.vh m,y],t::_=>match cK P t,S.own? m with
  |some (te,sz,_),some (.vec te1 e xs)=>if te=te1/\sz=tsz V.sz e then match y with
   | .sv m2 sz2 lo len=>match S.own? m2 with
    |some (.vec _ e2 xs2)=>if h:e2=e then
     if sz2=sz/\¬m2=m then
      if lo+len<=xs2.length then k {val:= .lf (.int .i64) (min len xs.length:Nat),acc:=[m,m2],upd:=[(m, .vec te e (((h▸(xs2.drop lo).take len).take xs.length)++xs.drop len))]}else none
     else none
     else none
    |_=>none
   | .lf (.sl e2) ys=>if h:e2=e then k {val:= .lf (.int .i64) (min ys.length xs.length:Nat),acc:=[m],upd:=[(m, .vec te e (((h▸ys).take xs.length)++xs.drop ys.length))]}else none
   |_=>none
   else none
  |_,_=>none
 |_,_=>none
def OW{A:Type}(x:Operand)(S:TS V.N)(k:TE V.N->Option A):Option A:=match tev S x with
 | .lf (.st i) y=>k {val:= .lf (.op (.st i)) (some y)}
 |_=>none
end
section
variable {V:iF} {P:Program} {nm:Nat->Nat} {o:Oper} {S:TS V.N} {A:Type} {k:TE V.N->Option A} {r:A}
theorem Hy{t:TypeId}(h:DX P t=true):∃fs,P.underlying t=some (.struct fs):=by
 unfold DX at h
 split at h
 ·exact⟨_,‹_›⟩
 ·cases h
theorem sC{kt:TypeId}{i:V.ι}(h:kA V P kt (.st i)=true):∃fs ks,P.underlying kt=some (.struct fs)/\iN P 100 kt=some ks/\eF V (V.tys i)=some ks:=by
 simp only[kA,aaT]at h
 obtain⟨fs,hfs⟩:=Hy h.1
 have h2:=h.2
 split at h2
 ·rename_i ks hks
  exact⟨fs,ks,hfs,hks,by simpa using h2⟩
 ·cases h2
theorem Kp(xs:List Value):(xs.map D.v).map XL=xs:=by
 rw[abq]
 exact(abj λx _=>rfl).trans (List.map_id xs)
theorem oW{kt:TypeId}{i:V.ι}(h:kA V P kt (.st i)=true)(x:V.N i):V.enc i x=((V.cells i x).map iT).map .v/\eA V.enc (.st i) x= .agg ((V.cells i x).map iT).toArray:=by
 obtain⟨fs,ks,h1,h2,h3⟩:=sC h
 obtain⟨a1,a2⟩:=ef (a:=x) h3
 refine⟨a1,?_⟩
 simp only[eA]
 rw[a1,Kp]
theorem iS{kt:TypeId}{tk:Ty V.ι}(h:kA V P kt tk=true):(∃i,tk= .st i)\/∃kind,P.underlying kt=some kind/\fm (some kind) tk=true:=by
 cases tk with
 |st i=>exact .inl ⟨i,rfl⟩
 |_=>
  right
  simp only[kA]at h
  cases hu:P.underlying kt with
  |none=>rw[hu]at h;simp[fm]at h
  |some kind=>rw[hu]at h;exact⟨kind,rfl,h⟩
theorem Te{kt:TypeId}{tk:Ty V.ι}(h:kA V P kt tk=true)(x:den V.N tk):∀M v,df M v (bC V.sz V.enc tk x)->v=eA V.enc tk x:=by
 intro M v hv
 rcases iS h with⟨i,rfl⟩|⟨kind,hu,hk⟩
 ·obtain⟨h1,h2⟩:=oW h x
  rw[h2]
  simp only[bC]at hv
  rw[h1]at hv
  exact oD hv
 ·rw[sD hk]at hv
  cases hv;rfl
theorem sB{kt:TypeId}{tk:Ty V.ι}(h:kA V P kt tk=true)(x y:den V.N tk):keq V.cells tk x y=true↔eA V.enc tk x=eA V.enc tk y:=by
 rcases iS h with⟨i,rfl⟩|⟨kind,hu,hk⟩
 ·obtain⟨fs,ks,h1,h2,h3⟩:=sC h
  rw[(oW h x).2,(oW h y).2]
  simp only[keq]
  rw[<-yM h3,g9 (ef h3).2 (ef h3).2]
  simp
 ·have hs:=kB hk x y
  cases he:keq V.cells tk x y with
  |true=>
   rw[he]at hs
   simp only[true_iff]
   exact fE hs
  |false=>
   rw[he]at hs
   simp only[aaL,false_iff]
   exact jD hs
theorem nA{kt:TypeId}{tk tv:Ty V.ι}(h:kA V P kt tk=true)(x:den V.N tk)(es:List (den V.N tk×den V.N tv)):qg P kt (eA V.enc tk x) ((es.map λp=>(eA V.enc tk p.1,bC V.sz V.enc tv p.2)).map (·.1)):=by
 rcases iS h with⟨i,rfl⟩|⟨kind,hu,hk⟩
 ·obtain⟨fs,ks,h1,h2,h3⟩:=sC h
  rw[(oW h x).2]
  refine .struct (d:=100) h1 (by decide) h2 (ef h3).2 λk hk=> ?_
  rw[abq]at hk
  obtain⟨p,_,rfl⟩:=abg.1 hk
  exact⟨(V.cells i p.1).map iT,(oW h p.1).2,(ef h3).2⟩
 ·refine .simple hu (jw hk) λk hkm=> ?_
  have:∃y:den V.N tk,k=eA V.enc tk y:=by
   rcases aa4.1 hkm with rfl|hkm
   ·exact⟨x,rfl⟩
   ·rw[abq]at hkm
    obtain⟨p,_,rfl⟩:=abg.1 hkm
    exact⟨p.1,rfl⟩
  obtain⟨y,rfl⟩:=this
  rw[kB hk x y];rfl
theorem DI{kt:TypeId}{tk tv:Ty V.ι}(h:kA V P kt tk=true)(x:den V.N tk):∀es:List (den V.N tk×den V.N tv),
 Mt (eA V.enc tk x) (es.map λp=>(eA V.enc tk p.1,bC V.sz V.enc tv p.2)) ((Mp.get (keq V.cells tk) x es).map (bC V.sz V.enc tv))
 |[]=> .inl ⟨rfl,λp hp=>by cases hp⟩
 |p::r=>by
  simp only[Mp.get,aaY]
  cases he:keq V.cells tk x p.1 with
  |true=>
   exact .inr ⟨_,aa2,((sB h x p.1).1 he).symm,rfl⟩
  |false=>
   have hne:¬eA V.enc tk x=eA V.enc tk p.1:=λe=>by rw[(sB h x p.1).2 e]at he;cases he
   rw[aeo (by decide)]
   rcases DI h x r with⟨h1,h2⟩|⟨q,h1,h2,h3⟩
   ·refine .inl ⟨h1,λq hq=> ?_⟩
    rcases aa4.1 hq with rfl|hq
    ·exactλe=>hne e.symm
    ·exact h2 q hq
   ·exact .inr ⟨q,aaX _ h1,h2,h3⟩
theorem FB{kt:TypeId}{tk tv:Ty V.ι}(h:kA V P kt tk=true)(x:den V.N tk)(y:den V.N tv):∀es:List (den V.N tk×den V.N tv),
 Cj (eA V.enc tk x) (bC V.sz V.enc tv y) (es.map λp=>(eA V.enc tk p.1,bC V.sz V.enc tv p.2)) ((Mp.put (keq V.cells tk) x y es).map λp=>(eA V.enc tk p.1,bC V.sz V.enc tv p.2))
 |[]=> .inl ⟨rfl,λp hp=>by cases hp⟩
 |p::r=>by
  simp only[Mp.put,aaY]
  cases he:keq V.cells tk x p.1 with
  |true=>
   exact .inr ⟨0,_,rfl,((sB h x p.1).1 he).symm,rfl⟩
  |false=>
   have hne:¬eA V.enc tk x=eA V.enc tk p.1:=λe=>by rw[(sB h x p.1).2 e]at he;cases he
   rw[aeo (by decide)]
   rcases FB h x y r with⟨h1,h2⟩|⟨j,q,h1,h2,h3⟩
   ·refine .inl ⟨by rw[aaY,h1];rfl,λq hq=> ?_⟩
    rcases aa4.1 hq with rfl|hq
    ·exactλe=>hne e.symm
    ·exact h2 q hq
   ·exact .inr ⟨j+1,q,by simpa using h1,h2,by rw[aaY,h3];rfl⟩
theorem g5{B:Type}{n:Nat}{b:B}{f:(m:Nat)->TypeId->(tk tv:Ty V.ι)->List (Option (List (den V.N tk×den V.N tv)))->Nat->List (den V.N tk×den V.N tv)->Option B}(h:qx V S n f=some b):
 ∃m te tk tv es i m0,S.own? n=some (.alias m)/\S.own? m=some (.maps te tk tv es (some (n,i)))/\n≠m/\es[i]?=some (some m0)/\f m te tk tv es i m0=some b:=by
 unfold qx at h
 split at h
 ·rename_i m hn
  split at h
  ·rename_i te tk tv es n' i hm
   replace h:=aG h
   obtain⟨⟨rfl,hnm⟩,h⟩:=h
   replace h:=ci h
   obtain⟨o,ho,h⟩:=h
   replace h:=ci h
   obtain⟨m0,rfl,h⟩:=h
   exact⟨m,te,tk,tv,es,i,m0,hn,hm,hnm,ho,h⟩
  ·cases h
 ·cases h
theorem zC{α:Type}{l:List α}{i:Nat}{x:α}(h:l[i]?=some x):l.set i x=l:=by
 apply aca
 intro j
 rw[abV]
 split
 ·rename_i e;subst e
  rw[aep (aaP.1 h).1,h]
 ·rfl
theorem sY{n m:Nat}{o1 o2:TO V.N}{x1 x2:Option Own}{v:TV V.N}{h:H}{l:List Nat}(h1:∀ω,ct V ω o1=x1)(h2:∀ω,ct V ω o2=x2)(hl1:TO.len (some o1)=S.len n)(hl2:TO.len (some o2)=S.len m)(hv:∀ω,aL V ω v=h)
 (hk:k {val:=v,acc:=l,upd:=[(n,o1),(m,o2)]}=some r)(hs:aW P nm o (Go.Awp.ev (a_ V S)) (a_ V S).own? {val:=h,acc:=l,upd:=[(n,x1),(m,x2)]}):OpD P nm o S k r:=by
 refine⟨_,hk,λq o' hq=> ?_,_, .sem hs,cX (hv _).symm rfl (by simp[h1,h2]) rfl⟩
 simp only[aH]at hq
 right
 split at hq
 ·rename_i e;simp at hq;subst hq;subst e;exact hl1
 ·split at hq
  ·rename_i e;simp at hq;subst hq;subst e;exact hl2
  ·simp[gt]at hq
def oF(tk tv:Ty V.ι)(l:List (den V.N tk×den V.N tv)):List (Value×D):=l.map λp=>(eA V.enc tk p.1,bC V.sz V.enc tv p.2)
theorem rg{c:Bool}{tk tv:Ty V.ι}{key:den V.N tk}{z:den V.N tv}{es:List (den V.N tk×den V.N tv)}{f:TV V.N->Option A}(h:HH V c tk tv key z es f=some r):
 ∃v,f v=some r/\∀ω,aL V ω v=if c=true then .tup [.d (((Mp.get (keq V.cells tk) key es).map (bC V.sz V.enc tv)).getD (bC V.sz V.enc tv z)), .d (.v (.bool ((Mp.get (keq V.cells tk) key es).map (bC V.sz V.enc tv)).isSome))]
  else .d (((Mp.get (keq V.cells tk) key es).map (bC V.sz V.enc tv)).getD (bC V.sz V.enc tv z)):=by
 unfold HH at h
 cases c with
 |true=>
  refine⟨_,h,λω=> ?_⟩
  simp only[aL,encL,ael,adF]
  cases Mp.get (keq V.cells tk) key es<;>rfl
 |false=>
  refine⟨_,h,λω=> ?_⟩
  simp only[aL,aaL,aem]
  cases Mp.get (keq V.cells tk) key es<;>rfl
theorem Gu{t:TypeId}{x i:Operand}{c:Bool}(ho:o.op= .lookup t x i c)(h:Gt V P t x i c S k=some r):OpD P nm o S k r:=by
 unfold Gt at h
 split at h
 ·rename_i kt et n tk key ht hx hi
  split at h
  ·rename_i d hd
   split at h
   ·rename_i tk' tv es hown
    split at h
    ·rename_i z hz
     split at h
     ·rename_i htk
      subst htk
      replace h:=aG h
      obtain⟨hk,h⟩:=h
      obtain⟨v,h,hv⟩:=rg h
      exact dI h (.lookupK ho ht hd (by rw[aI,hx];rfl) (by rw[aI,hi];rfl) (Te hk key) (jf hown) (nA hk key es) (DI hk key es)) (by rw[hv,(pm hz).2 rfl])
     ·cases h
    ·cases h
   ·obtain⟨m,te,tk',tv,es,j,m0,hn,hm,hnm,hj,h⟩:=g5 h
    split at h
    ·rename_i z hz
     split at h
     ·rename_i htk
      subst htk
      replace h:=aG h
      obtain⟨hk,h⟩:=h
      obtain⟨v,h,hv⟩:=rg h
      have hj':(es.map λo=>o.map (oF (V:=V) tk tv))[j]?=some (some (oF tk tv m0)):=by rw[aaR,hj];rfl
      refine sY (x1:=some (.maps te (es.map λo=>o.map (oF tk tv)) (some (n,j)))) (x2:=none) (λω=>rfl) (λω=>rfl) (by rw[ib hm];rfl) (by rw[kD hn];rfl) hv h ?_
      have:=aW.viaAlias (P:=P) (nm:=nm) (o:=o) (ρ:=Go.Awp.ev (a_ V S)) (m1:=oF tk tv m0) (il hm) hj' (kX hn) hnm
       (v:=if c=true then .tup [.d (((Mp.get (keq V.cells tk) key m0).map (bC V.sz V.enc tv)).getD (bC V.sz V.enc tv z)), .d (.v (.bool ((Mp.get (keq V.cells tk) key m0).map (bC V.sz V.enc tv)).isSome))]
         else .d (((Mp.get (keq V.cells tk) key m0).map (bC V.sz V.enc tv)).getD (bC V.sz V.enc tv z)))
       λω' hω'=> .told hω' (by
        have:=aW.lookupK (nm:=nm) ho ht hd (ω:=ω') (c:=c) (key:=eA V.enc tk key) (dk:=bC V.sz V.enc tk key) (ρ:=Go.Awp.ev (a_ V S)) (by rw[aI,hx];rfl) (by rw[aI,hi];rfl) (Te hk key) hω' (nA hk key m0) (DI hk key m0)
        rw[(pm hz).2 rfl]at this
        exact this)
      have hs:(es.map λo=>o.map λl=>l.map λp=>(eA V.enc tk p.1,bC V.sz V.enc tv p.2)).set j (some (oF tk tv m0))=es.map λo=>o.map λl=>l.map λp=>(eA V.enc tk p.1,bC V.sz V.enc tv p.2):=zC hj'
      rw[hs]at this
      exact this
     ·cases h
    ·cases h
  ·cases h
 ·cases h
theorem zJ{t:TypeId}{x i y:Operand}(ho:o.op= .mapUpdate t x i y\/o.op= .insert t x i y)(h:Kn V P t x i y S k=some r):OpD P nm o S k r:=by
 unfold Kn at h
 split at h
 ·rename_i kt et n tk key tv z ht hx hi hy
  split at h
  ·rename_i tk' tv' es hown
   split at h
   ·rename_i e1
    subst e1
    split at h
    ·rename_i e2
     subst e2
     replace h:=aG h
     obtain⟨hk,h⟩:=h
     exact xe (x:= .map (oF tk tv (Mp.set (keq V.cells tk) (klt tk) key z es))) (λω=>rfl) (by rw[sF hown];rfl) h
      (.updateK ho ht (by rw[aI,hx];rfl) (by rw[aI,hi];rfl) (Te hk key) (by rw[aI,hy];rfl) (jf hown) (nA hk key es) (FB hk key z es) ((Mp.set_perm _ _ _ _ _).map _))
    ·cases h
   ·cases h
  ·obtain⟨m,te,tk',tv',es,j,m0,hn,hm,hnm,hj,h⟩:=g5 h
   split at h
   ·rename_i e1
    subst e1
    split at h
    ·rename_i e2
     subst e2
     replace h:=aG h
     obtain⟨hk,h⟩:=h
     have hj':(es.map λo=>o.map (oF (V:=V) tk tv))[j]?=some (some (oF tk tv m0)):=by rw[aaR,hj];rfl
     refine sY (x1:=some (.maps te ((es.map λo=>o.map (oF tk tv)).set j (some (oF tk tv (Mp.set (keq V.cells tk) (klt tk) key z m0)))) (some (n,j)))) (x2:=none) (h:= .junk) (λω=>by simp only[ct,acp];rfl) (λω=>rfl) (by rw[ib hm];simp[TO.len]) (by rw[kD hn];rfl) (λω=>rfl) h ?_
     exact aW.viaAlias (il hm) hj' (kX hn) hnm λω' hω'=>
      .updateK (ω:=ω') ho ht (by rw[aI,hx];rfl) (by rw[aI,hi];rfl) (Te hk key) (by rw[aI,hy];rfl) hω' (nA hk key m0) (FB hk key z m0) ((Mp.set_perm _ _ _ _ _).map _)
    ·cases h
   ·cases h
 ·cases h
theorem J_{c:Call}(ho:o.op= .call c)(hc:c.callee= .builtin .len)(h:O2 V P (c.args.toList.map (tev S)) c.argTypes.toList S k=some r):OpD P nm o S k r:=by
 unfold O2 at h
 split at h
 ·rename_i n hargs
  replace h:=aG h
  obtain⟨hk,h⟩:=h
  obtain⟨m,te,tk,tv,es,j,m0,hn,hm,hnm,hj,h⟩:=g5 h
  obtain⟨p,hpq,hpx⟩:∃p,c.args.toList=[p]/\tev S p= .mp n:=by
   match hcl:c.args.toList,hargs with
   |[p],hargs=>simp at hargs;exact⟨p,rfl,hargs⟩
   |[],hargs=>simp at hargs
   |_::_::_,hargs=>simp at hargs
  have hj':(es.map λo=>o.map (oF (V:=V) tk tv))[j]?=some (some (oF tk tv m0)):=by rw[aaR,hj];rfl
  have hs:(es.map λo=>o.map λl=>l.map λp=>(eA V.enc tk p.1,bC V.sz V.enc tv p.2)).set j (some (oF tk tv m0))=es.map λo=>o.map λl=>l.map λp=>(eA V.enc tk p.1,bC V.sz V.enc tv p.2):=zC hj'
  refine sY (x1:=some (.maps te (es.map λo=>o.map (oF tk tv)) (some (n,j)))) (x2:=none) (h:= .d (.v (.int .i64 m0.length))) (λω=>rfl) (λω=>rfl) (by rw[ib hm];rfl) (by rw[kD hn];rfl) (λω=>rfl) h ?_
  have:=aW.viaAlias (P:=P) (nm:=nm) (o:=o) (ρ:=Go.Awp.ev (a_ V S)) (v:= .d (.v (.int .i64 m0.length))) (m1:=oF tk tv m0) (il hm) hj' (kX hn) hnm λω' hω'=> .told hω' (.ofAVal λρ' ω2 hρ hω=>by
   have hx':ρ' p= .mp n:=by
    rw[hρ p (by rw[ho];simp only[Op.operands,Call.operands,hc];(have:p∈c.args.toList:=by rw[hpq];simp);simpa using this),aI,hpx];rfl
   have ho':ω2 n=some (.map (oF tk tv m0)):=(hω n (by simp)).trans hω'
   simp only[bN,ho,hc,hpq,aaY,abE,hx',ho']
   exact⟨hk,by rw[oF,aaS]⟩)
  rw[hs]at this
  exact this
 ·cases h
theorem B5{t:TypeId}{x:Operand}(ho:o.op= .range t x)(h:xP V P t x o.dst S k=some r):OpD P nm o S k r:=by
 unfold xP at h
 split at h
 ·rename_i kt et n d ht hx hd
  obtain⟨m,te,tk,tv,es,j,m0,hn,hm,hnm,hj,h⟩:=g5 h
  replace h:=aG h
  obtain⟨⟨hf1,hf2⟩,h⟩:=h
  have hj':(es.map λo=>o.map (oF (V:=V) tk tv))[j]?=some (some (oF tk tv m0)):=by rw[aaR,hj];rfl
  refine⟨_,h,λq o' hq=> ?_,_, .sem (.rangeAlias (nn:=bS d) ho ⟨_,_,ht⟩ (by rw[aI,hx];rfl) (by rw[hd];simp) (il hm) hj' (kX hn) ⟨hf1,hf2⟩),cX rfl rfl (by simp only[aaY,abE,ct,acp];rfl) rfl⟩
  simp only[aH]at hq
  split at hq
  ·rename_i e;left;simp[e]
  ·right
   split at hq
   ·rename_i e;simp at hq;subst hq;subst e;rw[kD hn];rfl
   ·split at hq
    ·rename_i e;simp at hq;subst hq;subst e;rw[ib hm];simp[TO.len]
    ·simp[gt]at hq
 ·cases h
theorem xN{t:TypeId}{x i:Operand}(ho:o.op= .indexAddr t x i)(h:tm V P t x i S k=some r):OpD P nm o S k r:=by
 unfold tm at h
 split at h
 ·rename_i te sz by_ m kk n ht hx hi
  split at h
  ·rename_i te2 tk tv es al hm
   replace h:=aG h
   obtain⟨⟨h0,h1⟩,h⟩:=h
   refine dI h (.indexMaps ho ht ?_ (by rw[aI,hi];rfl) (il hm) h0 (by rw[aaS];exact h1)) rfl
   rw[aI,hx,aaS]
   simp only[aL,ib hm]
  ·rename_i te2 e xs hm
   replace h:=aG h
   obtain⟨⟨h0,h1⟩,h⟩:=h
   refine dI h (.qindex ho ht ?_ (by rw[aI,hi];rfl) (s4 hm) h0 (by rw[aaS];exact h1)) rfl
   rw[aI,hx,aaS]
   simp only[aL,wM hm]
  ·cases h
 ·cases h
theorem aW.more{v:H}{acc new:List Nat}{upd:List (Nat×Option Own)}{d:Nat}{ρ:Operand->H}{ω:Nat->Option Own}(h:aW P nm o ρ ω {val:=v,acc:=acc,upd:=upd,new:=new}):aW P nm o ρ ω {val:=v,acc:=acc,upd:=upd++[(d,none)],new:=new}:=by
 refine aW.ole h λown n o hn=>⟨o,?_,OLe.refl _⟩
 simp only[abW,e_]at hn⊢
 cases hu:gt upd n with
 |some x=>rw[hu]at hn;exact hn
 |none=>
  rw[hu]at hn
  simp only[abF,aaZ,aH]at hn
  by_cases e:d=n
  ·rw[aep e]at hn;cases hn
  ·rw[aeo e]at hn
   simpa[gt]using hn
theorem vx{t:TypeId}{x:Operand}(ho:o.op= .load t x)(h:pY V P t x o.dst S k=some r):OpD P nm o S k r:=by
 unfold pY at h
 split at h
 ·rename_i m i d ht hx hd
  split at h
  ·rename_i te tk tv es al hm
   replace h:=ci h
   obtain⟨o1,ho1,h⟩:=h
   replace h:=ci h
   obtain⟨m0,rfl,h⟩:=h
   replace h:=aG h
   obtain⟨hf,h⟩:=h
   have hj':(es.map λo=>o.map (oF (V:=V) tk tv))[i]?=some (some (oF tk tv m0)):=by rw[aaR,ho1];rfl
   refine⟨_,h,λq o' hq=> ?_,_, .sem (aW.more (d:=bS d) (.loadMap (d:=bS d) ho ht (by rw[aI,hx];rfl) (il hm) hj' hf)),cX rfl rfl rfl rfl⟩
   simp only[aH]at hq
   split at hq
   ·rename_i e;right;simp at hq;subst hq;subst e;rw[ib hm];rfl
   ·split at hq
    ·rename_i e;left;simp[e]
    ·simp[gt]at hq
  ·cases h
 ·cases h
theorem tn{t:TypeId}{x y:Operand}(ho:o.op= .store t x y)(h:lU V P t x y S k=some r):OpD P nm o S k r:=by
 unfold lU at h
 split at h
 ·rename_i ag m i n ht hx hy
  split at h
  ·rename_i te tk tv es al tk' tv' e0 hm hn
   split at h
   ·rename_i hh
    obtain⟨e1,e2⟩:=hh
    subst e1;subst e2
    replace h:=aG h
    obtain⟨⟨hi,hnm⟩,h⟩:=h
    refine sY (x1:=some (.maps te ((es.map λo=>o.map (oF tk' tv')).set i (some (oF tk' tv' e0))) none)) (x2:=none) (h:= .junk) (λω=>by simp only[ct,acp];rfl) (λω=>rfl) (by rw[ib hm];simp[TO.len]) (by rw[sF hn];rfl) (λω=>rfl) h ?_
    exact .storeMap ho ht (by rw[aI,hx];rfl) (by rw[aI,hy];rfl) (il hm) (jf hn) (by rw[aaS];exact hi) hnm
   ·cases h
  ·cases h
 ·cases h
theorem BB{l c:Operand}(h:rx l c=true):l=c:=by
 unfold rx at h
 split at h
 ·rw[abw h]
 ·cases h
theorem vv{t:TypeId}{l c:Operand}(ho:o.op= .makeSlice t l c)(h:pX V P t l c o.dst S k=some r):OpD P nm o S k r:=by
 unfold pX at h
 split at h
 ·rename_i tk tv te bytes d hty ht hd
  split at h
  ·rename_i z0 kn n km m hz hl hc
   split at h
   ·rename_i hsame
    replace h:=aG h
    obtain⟨hb,h⟩:=h
    replace h:=aG h
    obtain⟨h0,h⟩:=h
    replace h:=aG h
    obtain⟨h1,h⟩:=h
    have hlc:=BB hsame
    subst hlc
    rw[hl]at hc
    simp only[TV.lf.injEq]at hc
    obtain⟨e1,e2⟩:=hc
    cases e1
    have e2:=eq_of_heq e2
    subst e2
    refine sX (d:=bS d) (h:= .vh (bS d) n.toNat) (x:= .maps te (aa7 n.toNat none) none) (λω=>by simp only[ct,acz];rfl) (λω hω=>by simp only[aL,hω,TO.len,abA]) h ?_
    refine aW.ole (upd:=[(bS d,some (.vec te 1 (aa7 n.toNat ([z0].map .v))))]) (.ofAVal (nm:=bS) λρ' ω' hρ hω=> ?_) λown q o1 hq=> ?_
    ·have hx':ρ' l= .d (.v (.int kn n)):=by rw[hρ l (by rw[ho];simp[Op.operands]),aI,hl];rfl
     simp only[bN,ho,ht,hd,hz,hx']
     exact⟨⟨.inl trivial,h0,h0,h1,hb⟩,trivial⟩
    ·simp only[abF,aaZ,aH]at hq⊢
     by_cases e:bS d=q
     ·rw[aep e]at hq⊢
      simp only[abZ,aaN]at hq
      subst hq
      refine⟨_,rfl,?_⟩
      have:=OLe.v2maps (e:=te) (rows:=aa7 n.toNat ([z0].map D.v))
      rw[acz]at this
      exact this
     ·rw[aeo e]at hq⊢
      exact⟨o1,hq,OLe.refl _⟩
   ·cases h
  ·cases h
 ·cases h
theorem B2{t:TypeId}{len:Nat}{parts:Array (Nat×Operand)}(ho:o.op= .buildSlice t len parts)(h:xK V P t len parts.toList o.dst S k=some r):OpD P nm o S k r:=by
 unfold xK at h
 split at h
 ·rename_i te sz by_ e d ht hty hd
  replace h:=aG h
  obtain⟨⟨e1,e2,e3,e4⟩,h⟩:=h
  split at h
  ·rename_i ys hys
   obtain⟨rows,h1,h2,_,h4⟩:=j6 (ω:=S.len) hys
   replace h4:=h4 rfl
   have hp:((parts.toList.map λ(i,x)=>(i,fnT (tev S x))).map λp=>(p.1,aL V S.len p.2))=parts.toList.map λ(i,x)=>(i,fnD (Go.Awp.ev (a_ V S) x)):=by
    rw[abq]
    refine abj λp _=> ?_
    simp only[act,ss,aI]
   rw[hp,<-e1]at h1
   rw[aaS,e2]at h2
   have hyl:ys.length=len:=by
    have:=congrArg ac9 h4
    rw[aaS]at this;omega
   have hne:rows≠[]:=λe=>by rw[e]at h2;simp at h2;omega
   refine sX (d:=bS d) (h:= .vh (bS d) rows.length) (x:= .que te sz rows) (λω=>by rw[h4,e1];rfl) (λω hω=>by simp only[aL,hω,TO.len,hyl,h2]) h ?_
   refine aW.ole (upd:=[(bS d,some (.vec te sz rows))]) (.ofAVal (nm:=bS) λρ' ω' hρ hω=> ?_) λown q o1 hq=> ?_
   ·have hpp:(parts.toList.map λ(i,x)=>(i,fnD (ρ' x)))=parts.toList.map λ(i,x)=>(i,fnD (Go.Awp.ev (a_ V S) x)):=by
     refine abj λp hp=> ?_
     have:ρ' p.2=_:=hρ p.2 (by rw[ho];simp only[Op.operands];simpa using ⟨p.1,by simpa using hp⟩)
     simp only[this]
    have hnd:¬bS d=d:=by unfold bS;omega
    simp only[bN,ho,ht,hd,hpp,h1]
    refine⟨⟨h2,e3⟩,?_⟩
    rw[aeo hnd]
    trivial
   ·simp only[abF,aaZ,aH]at hq⊢
    by_cases e:bS d=q
    ·rw[aep e]at hq⊢
     simp only[abZ,aaN]at hq
     subst hq
     exact⟨_,rfl,OLe.v2q hne⟩
    ·rw[aeo e]at hq⊢
     exact⟨o1,hq,OLe.refl _⟩
  ·cases h
 ·cases h
theorem kW{d:Nat}{ns:List Nat}{v:TV V.N}{h:H}{o':TO V.N}{x:Own}{l:List Nat}(hx:∀ω,ct V ω o'=some x)(hv:∀ω:Nat->Nat,ω d=TO.len (some o')->aL V ω v=h)
 (hk:k {val:=v,acc:=l,upd:=(d,o')::Ht V S ns,new:=[d]}=some r)
 (hs:aW P nm o (Go.Awp.ev (a_ V S)) (a_ V S).own? {val:=h,acc:=l,upd:=(d,some x)::ns.map (λn=>(n,none)),new:=[d]}):OpD P nm o S k r:=by
 refine⟨_,hk,λm o1 hm=> ?_,_, .sem hs,cX (hv _ ?_).symm rfl (by rw[aaY,DL,hx]) rfl⟩
 ·simp only[aH]at hm
  split at hm
  ·rename_i e;left;simp[e]
  ·exact .inr (DM hm)
 ·rw[d6];simp[aH]
theorem B_{t:TypeId}{x:Operand}{lo hi mx:Option Operand}(ho:o.op= .slice t x lo hi mx)(h:xS V P t x lo hi mx o.dst S k=some r):OpD P nm o S k r:=by
 unfold xS at h
 split at h
 ·rename_i te0 sz0 by0 d m ht hd hx
  split at h
  ·rename_i l te e xs hm
   split at h
   ·rename_i kk n hl
    replace h:=aG h
    obtain⟨hse,h⟩:=h
    subst hse
    replace h:=aG h
    obtain⟨h0,h⟩:=h
    replace h:=aG h
    obtain⟨h1,h⟩:=h
    refine kW (ns:=[m]) (x:= .que te (tsz V.sz e) ((xs.map λx=>bY V.sz V.enc e x).drop n.toNat)) (h:= .vh (bS d) ((xs.map λx=>bY V.sz V.enc e x).length-n.toNat)) (λω=>by simp only[ct,abT]) (λω hω=>by simp only[aL,hω,TO.len,abp,aaS]) h ?_
    exact .qtail ho ht (by rw[aI,hx,aaS];simp only[aL,wM hm]) (s4 hm) (by rw[aI,hl];rfl) h0 (by rw[aaS];exact h1)
   ·cases h
  ·rename_i hh te e xs hm
   split at h
   ·rename_i kk n hl
    replace h:=aG h
    obtain⟨h0,h⟩:=h
    replace h:=aG h
    obtain⟨h1,h⟩:=h
    have h2:n.toNat<=xs.length:=Int.toNat_le.2 h1
    refine kW (ns:=[m]) (x:= .vec te (tsz V.sz e) ((xs.map λx=>bY V.sz V.enc e x).take n.toNat)) (h:= .vh (bS d) n.toNat) (λω=>by simp only[ct,abS]) (λω hω=>by simp only[aL,hω,TO.len,abx];rw[acj h2]) h ?_
    exact .trunc ho ht (by rw[aI,hx,aaS];simp only[aL,eh hm]) (dJ hm) (by rw[aI,hl];rfl) h0 (by rw[aaS];exact h1)
   ·cases h
  ·cases h
 ·cases h
theorem Pv{c:Call}{x y:TV V.N}(h:c.args.toList.map (tev S)=[x,y]):∃p q,c.args= #[p,q]/\tev S p=x/\tev S q=y:=by
 match hcl:c.args.toList,h with
 |[p,q],h=>simp at h;exact⟨p,q,by rw[<-ac8];exact hcl,h.1,h.2⟩
 |[],h=>simp at h
 |[_],h=>simp at h
 |_::_::_::_,h=>simp at h
theorem lh(e:Ty V.ι)(xs:List (den V.N e)):(xs.map λx=>bY V.sz V.enc e x).all (λr=>r.all D.one)=true:=by
 rw[acG,aa1]
 intro y _
 exact xh
theorem se{a b:Nat}(h:a<=most)(hb:b<=32768):a *b<=140737488355328:=by
 have:a *b<=4294967296 *32768:=adW h hb
 omega
theorem JY{c:Call}(ho:o.op= .call c)(hc:c.callee= .builtin .append)(h:OU V P (c.args.toList.map (tev S)) c.argTypes.toList o.dst S k=some r):OpD P nm o S k r:=by
 unfold OU at h
 split at h
 ·rename_i x y t t' d hargs htys hd
  obtain⟨p,q,hpq,rfl,hqy⟩:=Pv hargs
  split at h
  ·rename_i te sz bytes ht
   replace h:=aG h
   obtain⟨⟨e1,hby⟩,h⟩:=h
   subst e1
   have hct:c.argTypes= #[t,t]:=by rw[<-ac8];exact htys
   split at h
   ·rename_i e' y0 ys
    split at h
    ·rename_i n hx
     split at h
     ·rename_i te2 e xs hown
      split at h
      ·rename_i e2
       subst e2
       replace h:=aG h
       obtain⟨⟨e3,e4⟩,h⟩:=h
       subst e3;subst e4
       replace h:=aG h
       obtain⟨hle,h⟩:=h
       refine kW (ns:=[n]) (x:= .que te (tsz V.sz e') ((xs.map λx=>bY V.sz V.enc e' x)++((y0::ys).map λx=>bY V.sz V.enc e' x))) (h:= .vh (bS d) ((xs.map λx=>bY V.sz V.enc e' x).length+((y0::ys).map λx=>bY V.sz V.enc e' x).length)) (λω=>by simp only[ct,abG]) (λω hω=>by simp only[aL,hω,TO.len,abd,aaS]) h ?_
       refine .qappend ho hc hpq hct ht (by rw[aI,hx,aaS];simp only[aL,wM hown]) (s4 hown) (by rw[aI,hqy];rfl) (by simp) (lh e' _) ?_ ?_
       ·rw[aaS,aaS];exact se hle hby
       ·rw[aaS,aaS];unfold most at hle;omega
      ·cases h
     ·cases h
    ·cases h
   ·rename_i m sz2 lo len
    split at h
    ·rename_i te2 e2 xs2 hm
     replace h:=aG h
     obtain⟨⟨e3,e4⟩,h⟩:=h
     subst e4;subst e3
     replace h:=aG h
     obtain⟨hll,h⟩:=h
     split at h
     ·rename_i n hx
      split at h
      ·rename_i te1 e xs hown
       split at h
       ·rename_i e5
        subst e5
        replace h:=aG h
        obtain⟨⟨e6,hnm⟩,h⟩:=h
        subst e6
        replace h:=aG h
        obtain⟨hle,h⟩:=h
        refine kW (ns:=[n]) (x:= .vec te (tsz V.sz e2) ((xs.map λx=>bY V.sz V.enc e2 x)++(((xs2.map λx=>bY V.sz V.enc e2 x).drop lo).take len))) (h:= .vh (bS d) ((xs.map λx=>bY V.sz V.enc e2 x).length+len)) (λω=>by simp only[ct,abG,abS,abT]) (λω hω=>by
         simp only[aL,hω,TO.len,abd,aaS,abx,abp]
         rw[acj (by omega)]) h ?_
        refine .appendCut ho hc hpq hct ht (.inl ⟨n,by rw[aI,hx,aaS];simp only[aL,eh hown],dJ hown,hnm,rfl⟩) (by rw[aI,hqy];rfl) (dJ hm) (by rw[aaS];exact hll) (lh e2 _) ?_ ?_
        ·rw[aaS];exact se hle hby
        ·rw[aaS];unfold most at hle;omega
       ·cases h
      ·cases h
     ·rename_i hx
      replace h:=aG h
      obtain⟨hle,h⟩:=h
      refine kW (ns:=[]) (x:= .vec te (tsz V.sz e2) ([]++(((xs2.map λx=>bY V.sz V.enc e2 x).drop lo).take len))) (h:= .vh (bS d) (([]:List (List D)).length+len)) (λω=>by simp only[ct,abS,abT,aaZ]) (λω hω=>by
       simp only[aL,hω,TO.len,abx,abp,adt]
       rw[acj (by omega),aaU]) h ?_
      refine .appendCut ho hc hpq hct ht (.inr ⟨by rw[aI,hx];rfl,rfl,rfl⟩) (by rw[aI,hqy];rfl) (dJ hm) (by rw[aaS];exact hll) (lh e2 _) ?_ ?_
      ·rw[adt,aaU];exact se hle hby
      ·rw[adt,aaU];unfold most at hle;omega
     ·cases h
    ·cases h
   ·cases h
  ·cases h
 ·cases h
theorem zf{n:Nat}{o':TO V.N}{x:Own}{l:List Nat}{v:TV V.N}{h:H}(hx:∀ω,ct V ω o'=some x)(hv:∀ω,aL V ω v=h)(hl:TO.len (some o')=S.len n)(hk:k {val:=v,acc:=l,upd:=[(n,o')]}=some r)
 (hs:aW P nm o (Go.Awp.ev (a_ V S)) (a_ V S).own? {val:=h,acc:=l,upd:=[(n,some x)]}):OpD P nm o S k r:=by
 refine⟨_,hk,λm o1 hm=> ?_,_, .sem hs,cX (hv _).symm rfl (by simp[hx]) rfl⟩
 simp only[aH]at hm
 split at hm
 ·rename_i e;right;simp at hm;subst hm;subst e;exact hl
 ·simp[gt]at hm
theorem ym{α:Type}(xs ys:List α)(n:Nat)(h:ys.length=n):(ys.take xs.length++xs.drop n).length=xs.length:=by
 rw[abd,abx,abp,h]
 omega
theorem Gr{c:Call}(ho:o.op= .call c)(hc:c.callee= .builtin .copy)(h:Gq V P (c.args.toList.map (tev S)) c.argTypes.toList S k=some r):OpD P nm o S k r:=by
 unfold Gq at h
 split at h
 ·rename_i m y t rest hargs htys
  obtain⟨p,q,hpq,hpx,hqy⟩:=Pv hargs
  have hct:c.argTypes[0]?=some t:=by
   have:c.argTypes.toList[0]?=some t:=by rw[htys];rfl
   simpa using this
  split at h
  ·rename_i te sz by_ te1 e xs ht hm
   replace h:=aG h
   obtain⟨⟨e1,e2⟩,h⟩:=h
   subst e1;subst e2
   split at h
   ·rename_i m2 sz2 lo len
    split at h
    ·rename_i te2 e2 xs2 hm2
     split at h
     ·rename_i e3
      subst e3
      replace h:=aG h
      obtain⟨⟨e4,hne⟩,h⟩:=h
      subst e4
      replace h:=aG h
      obtain⟨hll,h⟩:=h
      have hnl:(((xs2.map λx=>bY V.sz V.enc e2 x).drop lo).take len).length=len:=by rw[abx,abp,aaS];omega
      have hnl':((xs2.drop lo).take len).length=len:=by rw[abx,abp];omega
      have:=aW.copy (P:=P) (nm:=nm) (ω:=(a_ V S).own?) (ρ:=Go.Awp.ev (a_ V S)) (rows:=xs.map λx=>bY V.sz V.enc e2 x) (news:=((xs2.map λx=>bY V.sz V.enc e2 x).drop lo).take len) (acc:=[m,m2]) ho hc hpq hct ht (by rw[aI,hpx,aaS];simp only[aL,eh hm]) (dJ hm)
       (.inr ⟨m2,te2,lo,xs2.map λx=>bY V.sz V.enc e2 x,by rw[aI,hqy,hnl];rfl,dJ hm2,by rw[hnl,aaS];exact hll,by rw[hnl],hne,rfl⟩)
       (by
         rw[<-abT,<-abS];exact lh e2 _)
      rw[hnl,aaS]at this
      refine zf (x:= .vec te (tsz V.sz e2) ((((xs2.map λx=>bY V.sz V.enc e2 x).drop lo).take len).take xs.length++(xs.map λx=>bY V.sz V.enc e2 x).drop len)) (λω=>by simp only[ct,abG,abS,abT]) (λω=>rfl) (by rw[eh hm];exact ym xs _ _ hnl') h this
     ·cases h
    ·cases h
   ·rename_i e2 ys
    split at h
    ·rename_i e3
     subst e3
     have:=aW.copy (P:=P) (nm:=nm) (ω:=(a_ V S).own?) (ρ:=Go.Awp.ev (a_ V S)) (rows:=xs.map λx=>bY V.sz V.enc e2 x) (news:=ys.map λx=>bY V.sz V.enc e2 x) (acc:=[m]) ho hc hpq hct ht (by rw[aI,hpx,aaS];simp only[aL,eh hm]) (dJ hm)
      (.inl ⟨by rw[aI,hqy];rfl,rfl⟩) (lh e2 _)
     rw[aaS,aaS]at this
     exact zf (x:= .vec te (tsz V.sz e2) ((ys.map λx=>bY V.sz V.enc e2 x).take xs.length++(xs.map λx=>bY V.sz V.enc e2 x).drop ys.length)) (λω=>by simp only[ct,abG,abS,abT]) (λω=>rfl) (by rw[eh hm];exact ym xs _ _ rfl) h this
    ·cases h
   ·cases h
  ·cases h
 ·cases h
theorem J0{t:TypeId}{x:Operand}(ho:o.op= .box t x)(h:OW V x S k=some r):OpD P nm o S k r:=by
 unfold OW at h
 split at h
 ·rename_i i y hx
  exact dI h (.freezeBox (ds:=V.enc i y) ho (by rw[aI,hx,jV];rfl)) rfl
 ·cases h
end
section
variable (V:iF) (P:Program) (nm:Nat->Nat)
def Nn:TV V.N->Bool
 | .lf (.ar _ _) _=>true
 |_=>false
def Nm:Option (Ty V.ι)->Bool
 |some (.ar _ _)=>true
 |_=>false
def Uk:Option (Ty V.ι)->Bool
 |some (.sl (.mp _ _))=>true
 |_=>false
def Uj:Ty V.ι->Bool
 | .fno=>true
 |_=>false
def LP:Option (Ty V.ι)->Bool
 |some (.st i)=>(V.tys i).any (Uj V)
 |_=>false
def Nq:Option (TO V.N)->Bool
 |some (.bar ..)=>true
 |_=>false
def Hx:Option (TO V.N)->Bool
 |some (.que ..)=>true
 |_=>false
def yK:Option (TO V.N)->Bool
 |some (.maps ..)=>true
 |_=>false
def Nl:Option (TO V.N)->Bool
 |some (.alias ..)=>true
 |_=>false
def Np:Option (TO V.N)->Bool
 |some (.vec _ (.ar _ _) _)=>true
 |_=>false
def Ns:TV V.N->Bool
 | .lf (.st _) _=>true
 |_=>false
def tA(S:TS V.N):TV V.N->Bool
 | .mp n=>Nl V (S.own? n)
 |_=>false
def DD(pre:Nat->Bool)(m:Nat):Option Tmp->Bool
 |some d=>pre (m+d)
 |none=>false
def Rq(pre:Nat->Bool)(o:Oper)(S:TS V.N):Bool:=match o.op with
 | .index _ x _=>Nn V (tev S x)
 | .indexAddr _ x _=>match tev S x with
  | .bp n 0=>Nq V (S.own? n)
  | .rp (.ar _ _) _ _=>true
  | .ep .. =>true
  | .vh m=>Hx V (S.own? m)||yK V (S.own? m)
  |_=>false
 | .load _ x=>match tev S x with
  | .ai .. =>true
  | .bp n _=>Nq V (S.own? n)
  | .ep n _ _ _=>Hx V (S.own? n)||yK V (S.own? n)||Np V (S.own? n)
  | .rp (.ar _ _) _ _=>true
  |_=>false
 | .store _ x _=>match tev S x with
  | .ai .. =>true
  | .bp n _=>Nq V (S.own? n)
  | .ep n _ _ _=>yK V (S.own? n)
  |_=>false
 | .alloc t=>Nm V (V.ty t)
 | .box _ x=>Nn V (tev S x)||DD pre 7000000 o.dst
 | .nilCheck x=>match tev S x with
  | .lf (.op _) _=>true
  |_=>false
 | .binOp _ _ x y _=>match tev S x,tev S y with
  | .lf (.op _) _, .raw (.pointer none)=>true
  | .lf .fno _, .raw .nilFunc=>true
  | .lf (.st _) _, .lf (.st _) _=>true
  |_,_=>false
 | .build t parts=>Nm V (V.ty t)||LP V (V.ty t)||(!parts.toList.isEmpty&&DD pre 1000000 o.dst)
 | .makeSlice t _ _=>Uk V (V.ty t)
 | .lookup _ x i _=>tA V S (tev S x)||Ns V (tev S i)
 | .mapUpdate _ x i _=>tA V S (tev S x)||Ns V (tev S i)
 | .insert _ x i _=>tA V S (tev S x)||Ns V (tev S i)
 | .range _ x=>tA V S (tev S x)
 | .slice _ x _ _ _=>DD pre 5000000 o.dst||match tev S x with
  | .vh m=>Hx V (S.own? m)
  |_=>false
 | .buildSlice _ _ _=>DD pre 6000000 o.dst
 | .call c=>match c.callee with
  | .builtin .len=>match c.args.toList with
   |[x]=>tA V S (tev S x)
   |_=>false
  | .builtin .copy=>true
  | .builtin .append=>match c.args.toList with
   |[x,y]=>match tev S x,tev S y with
    | .sv ..,_=>false
    |_, .sv .. =>true
    | .vh n, .lf .. =>Hx V (S.own? n)
    |_,_=>false
   |_=>false
  |_=>false
 |_=>false
def W8{A:Type}(o:Oper)(S:TS V.N)(k:TE V.N->Option A):Option A:=match o.op with
 | .index t x i=>xM V P t x i S k
 | .indexAddr t x i=>match tev S x with
  | .vh _=>tm V P t x i S k
  |_=>O1 V P t x i S k
 | .load t x=>match tev S x with
  | .ep n _ _ _=>match yK V (S.own? n)with
   |true=>pY V P t x o.dst S k
   |false=>zG V P t x S k
  |_=>zG V P t x S k
 | .store t x y=>match tev S x with
  | .ep .. =>lU V P t x y S k
  |_=>xT V P t x y S k
 | .alloc t=>xG V P nm t o.dst k
 | .box _ x=>match Nn V (tev S x)with
  |true=>OV V nm x o.dst S k
  |false=>OW V x S k
 | .nilCheck x=>O4 V x S k
 | .binOp op xt x y _=>OX V P op xt x y S k
 | .build t parts=>match Nm V (V.ty t)with
  |true=>xH V P t parts.toList S k
  |false=>match LP V (V.ty t)with
   |true=>xI V P t parts.toList S k
   |false=>xJ V P t parts.toList o.dst S k
 | .makeSlice t l c=>pX V P t l c o.dst S k
 | .lookup t x i c=>Gt V P t x i c S k
 | .mapUpdate t x i y=>Kn V P t x i y S k
 | .insert t x i y=>Kn V P t x i y S k
 | .range t x=>xP V P t x o.dst S k
 | .slice t x lo hi mx=>xS V P t x lo hi mx o.dst S k
 | .buildSlice t len parts=>xK V P t len parts.toList o.dst S k
 | .call c=>match c.callee with
  | .builtin .len=>O2 V P (c.args.toList.map (tev S)) c.argTypes.toList S k
  | .builtin .copy=>Gq V P (c.args.toList.map (tev S)) c.argTypes.toList S k
  | .builtin .append=>OU V P (c.args.toList.map (tev S)) c.argTypes.toList o.dst S k
  |_=>none
 |_=>none
def opX(pre:Nat->Bool)(o:Oper)(S:TS V.N):Bool:=Rq V pre o S||QQ V pre o S
def tdX{A:Type}(pre:Nat->Bool)(o:Oper)(S:TS V.N)(k:TE V.N->Option A):Option A:=match Rq V pre o S with
 |true=>W8 V P nm o S k
 |false=>O0 V P o S k
def MK(S:TS V.N)(t:Nat):TS V.N:=match gt S.tmps t with
 |some (.bp b 0)=>match S.own? b with
  |some (.bst i x)=>{tmps:=(t, .lf (.op (.st i)) (some x))::S.tmps,own:=(b, .gone 0)::S.own}
  |_=>S
 |_=>S
def WG(S:TS V.N)(t:Nat):TS V.N:=match gt S.tmps t with
 |some (.vh n)=>match S.own? n with
  |some (.vec _ e xs)=>{S with tmps:=(t, .sv n (tsz V.sz e) 0 xs.length)::S.tmps}
  |_=>S
 |_=>S
def OS(S:TS V.N)(x:Operand)(ty:TypeId):TS V.N:=match x with
 | .tmp t=>match cK P ty,V.ty ty with
  |some (te,_,_),some (.sl e)=>WG V (E9 V false te e S t) t
  |_,_=>S
 |_=>S
def rX(S:TS V.N):List Operand->List TypeId->TS V.N
 |x::r,ty::s=>rX (OS V P S x ty) r s
 |_,_=>S
def DR:Nat->List (TV V.N)->Option (Nat×Nat×Nat×Nat)
 |_,[]=>none
 |i,x::r=>match x with
  | .sv m sz 0 l=>some (i,m,sz,l)
  |_=>DR (i+1) r
def qP(S:TS V.N):List (Nat×TO V.N)->Option (Nat×Option TypeId×List (TV V.N)×Nat×Nat×Nat×Nat)
 |[]=>none
 |(b,_)::r=>match S.own? b with
  |some (.box o cells)=>match DR V 0 cells with
   |some q=>some (b,o,cells,q)
   |none=>qP S r
  |_=>qP S r
def Nj{A:Type}(S:TS V.N)(k:TS V.N->Option A):Option A:=match qP V S S.own with
 |some (b,o,cells,i,m,sz,l)=>match S.own? m with
  |some (.vec te e xs)=>if sz=tsz V.sz e/\¬b=m/\S.fresh (75000+S.own.length)=true/\aci (75000+S.own.length) given=true then
   if l<=xs.length then k {tmps:=S.tmps,own:=(b, .box o (cells.set i (.vh (75000+S.own.length))))::(75000+S.own.length, .vec te e (xs.take l))::(m, .gone (S.len m))::S.own}else none
   else none
  |_=>none
 |none=>none
def DJ{A:Type}(pre:Nat->Bool)(o:Oper)(S:TS V.N)(k:TS V.N->Option A):Option A:=match DD pre 8000000 o.dst with
 |true=>Nj V S k
 |false=>match o.op with
  | .store _ _ (.tmp t)=>match pre (7000000+t)with
   |true=>k (MK V S t)
   |false=>k S
  | .call c=>match c.callee with
   | .value f=>match tev S f with
    | .fn fid _ _=>match pre (9000000+fid)with
     |true=>k (rX V P S c.args.toList c.argTypes.toList)
     |false=>k S
    |_=>k S
   |_=>k S
  |_=>k S
end
section
variable {V:iF} {P:Program} {nm:Nat->Nat} {pre:Nat->Bool} {o:Oper} {S:TS V.N} {A:Type} {k:TE V.N->Option A} {r:A}
theorem B4(h:W8 V P nm o S k=some r):OpD P nm o S k r:=by
 unfold W8 at h
 split at h
 ·rename_i t x i ho;exact B3 ho h
 ·rename_i t x i ho
  split at h
  ·exact xN ho h
  ·exact J9 ho h
 ·rename_i t x ho
  split at h
  ·split at h
   ·exact vx ho h
   ·exact vu ho h
  ·exact vu ho h
 ·rename_i t x y ho
  split at h
  ·exact tn ho h
  ·exact Ca ho h
 ·rename_i t ho;exact BW ho h
 ·rename_i t x ho
  split at h
  ·exact JZ ho h
  ·exact J0 ho h
 ·rename_i x ho;exact Kd ho h
 ·rename_i op xt x y yt ho;exact J4 ho h
 ·rename_i t parts ho
  split at h
  ·exact BX ho h
  ·split at h
   ·exact BZ ho h
   ·exact B1 ho h
 ·rename_i t l c ho;exact vv ho h
 ·rename_i t x i c ho;exact Gu ho h
 ·rename_i t x i y ho;exact zJ (.inl ho) h
 ·rename_i t x i y ho;exact zJ (.inr ho) h
 ·rename_i t x ho;exact B5 ho h
 ·rename_i t x lo hi mx ho;exact B_ ho h
 ·rename_i t len parts ho;exact B2 ho h
 ·rename_i c ho
  split at h
  ·rename_i hc;exact J_ ho hc h
  ·rename_i hc;exact Gr ho hc h
  ·rename_i hc;exact JY ho hc h
  ·cases h
 ·cases h
theorem vq(hf:∀te,k te=some r->∀d∈te.new,S.fresh d=true)(h:tdX V P nm pre o S k=some r):OpD P nm o S k r:=by
 unfold tdX at h
 split at h
 ·exact B4 h
 ·exact xL hf h
theorem Ct(S:TS V.N)(t:Nat):Ent (a_ V S) (a_ V (MK V S t)):=by
 unfold MK
 split
 ·rename_i b ht
  split
  ·rename_i i x hb
   have h1:gt (a_ V S).tmps t=some (.bp b 0):=by rw[db,ht];rfl
   have h2:(a_ V S).own? b=some (.box none ((V.enc i x).map .d)):=by rw[bL,hb];rfl
   refine Ent.trans (Ent.boxData h1 h2) ?_
   have hl:({tmps:=(t, .lf (.op (.st i)) (some x))::S.tmps,own:=(b, .gone 0)::S.own}:TS V.N).len=S.len:=by
    funext m
    unfold TS.len TS.own?
    rw[aH]
    by_cases e:b=m
    ·subst e
     rw[aep rfl]
     unfold TS.own? at hb
     rw[hb];rfl
    ·rw[aeo e]
   have:a_ V {tmps:=(t, .lf (.op (.st i)) (some x))::S.tmps,own:=(b, .gone 0)::S.own}={tmps:=(t, .d (.rp (V.enc i x)))::(a_ V S).tmps,own:=(b,none)::(a_ V S).own}:=by
    unfold a_
    rw[hl];rfl
   rw[this]
   exact Ent.refl _
  ·exact Ent.refl _
 ·exact Ent.refl _
theorem JV(S:TS V.N)(t:Nat):Ent (a_ V S) (a_ V (WG V S t)):=by
 unfold WG
 split
 ·rename_i n ht
  split
  ·rename_i te e xs hn
   have h1:gt (a_ V S).tmps t=some (.vh n (xs.map λx=>bY V.sz V.enc e x).length):=by
    rw[db,ht,aaS]
    simp only[abf,aL,eh hn]
   have:=Ent.vh2sv h1 (dJ hn)
   rw[aaS]at this
   exact this
  ·exact Ent.refl _
 ·exact Ent.refl _
theorem Gl(S:TS V.N)(x:Operand)(ty:TypeId):Ent (a_ V S) (a_ V (OS V P S x ty)):=by
 unfold OS
 split
 ·split
  ·exact Ent.trans (uI _ _ _ S _) (JV _ _)
  ·exact Ent.refl _
 ·exact Ent.refl _
theorem rY:∀(l:List Operand) (tys:List TypeId) (S:TS V.N),Ent (a_ V S) (a_ V (rX V P S l tys))
 |[],_,S=>by simp only[rX];exact Ent.refl _
 |_::_,[],S=>by simp only[rX];exact Ent.refl _
 |x::r,ty::s,S=>by
  simp only[rX]
  exact Ent.trans (Gl S x ty) (rY r s _)
theorem qW:∀{l:List (TV V.N)} {j i m sz n:Nat},DR V j l=some (i,m,sz,n)->j<=i/\l[i-j]?=some (.sv m sz 0 n)
 |[],_,_,_,_,_,h=>by simp[DR]at h
 |x::r,j,i,m,sz,n,h=>by
  simp only[DR]at h
  split at h
  ·simp only[aaN,abn]at h
   obtain⟨rfl,rfl,rfl,rfl⟩:=h
   exact⟨abe _,by simp⟩
  ·obtain⟨h1,h2⟩:=qW h
   refine⟨by omega,?_⟩
   have:i-j=(i-(j+1))+1:=by omega
   rw[this]
   simpa using h2
theorem jW:∀{l:List (Nat×TO V.N)} {b:Nat} {o:Option TypeId} {cells:List (TV V.N)} {i m sz n:Nat},qP V S l=some (b,o,cells,i,m,sz,n)->S.own? b=some (.box o cells)/\cells[i]?=some (.sv m sz 0 n)
 |[],_,_,_,_,_,_,_,h=>by simp[qP]at h
 |(b',_)::r,b,o,cells,i,m,sz,n,h=>by
  simp only[qP]at h
  split at h
  ·rename_i o' cells' hb
   split at h
   ·rename_i q hq
    simp only[aaN,abn]at h
    obtain⟨rfl,rfl,rfl,rfl⟩:=h
    have:=(qW hq).2
    exact⟨hb,by simpa using this⟩
   ·exact jW h
  ·exact jW h
theorem DN{k:TS V.N->Option A}(h:Nj V S k=some r):∃S',k S'=some r/\Ent (a_ V S) (a_ V S'):=by
 unfold Nj at h
 split at h
 ·rename_i b oty cells i m sz l hfs
  obtain⟨hb,hi⟩:=jW hfs
  split at h
  ·rename_i te e xs hm
   replace h:=aG h
   obtain⟨⟨e1,hbm,hf,hg⟩,h⟩:=h
   replace h:=aG h
   obtain⟨hl,h⟩:=h
   subst e1
   generalize 75000+S.own.length=nn at *
   refine⟨_,h,?_⟩
   have hg:nn<given:=by simpa[acq]using hg
   have h1:(a_ V S).own? b=some (.box oty (encL V S.len cells)):=by rw[bL,hb];rfl
   have h2:(encL V S.len cells)[i]?=some (.sv m (tsz V.sz e) 0 l):=by rw[aU,aaR,hi];rfl
   have hfr:=eQ hf
   refine Ent.trans (Ent.head h1 h2 (dJ hm) (by rw[aaS];exact hl) hbm ⟨hfr,hg⟩) ?_
   have hcn:TV.hasL nn cells=false:=by
    have:=hf
    unfold TS.fresh at this
    simp only[aaT,aa1]at this
    have:=this.2 (b, .box oty cells) (cV hb)
    simpa[TO.has]using this
   have hfo:S.own? nn=none:=by
    have:=hf
    unfold TS.fresh at this
    simp only[aaT]at this
    have:=this.1.1
    cases ho:S.own? nn with
    |none=>rfl
    |some x=>rw[ho]at this;cases this
   have hbn:b≠nn:=λe0=>by subst e0;rw[hb]at hfo;cases hfo
   have hmn:m≠nn:=λe0=>by subst e0;rw[hm]at hfo;cases hfo
   generalize hS':({tmps:=S.tmps,own:=(b, .box oty (cells.set i (.vh nn)))::(nn, .vec te e (xs.take l))::(m, .gone (S.len m))::S.own}:TS V.N)=S'
   have hlen:∀q,q≠nn->S'.len q=S.len q:=by
    intro q hq
    subst hS'
    unfold TS.len TS.own?
    simp only[aH]
    by_cases q1:b=q
    ·subst q1
     rw[aep rfl]
     unfold TS.own? at hb
     rw[hb];rfl
    ·rw[aeo q1,aeo (ab8 hq)]
     by_cases q2:m=q
     ·subst q2;rw[aep rfl];rfl
     ·rw[aeo q2]
   have hlnn:S'.len nn=l:=by
    subst hS'
    unfold TS.len TS.own?
    simp only[aH,aeo hbn,ael,TO.len,abx]
    omega
   refine Ent.le (λt x hx=> ?_) λn x hx=> ?_
   ·rw[db,aa0]at hx
    obtain⟨v,hv,rfl⟩:=hx
    have hv':gt S.tmps t=some v:=by subst hS';exact hv
    refine⟨aL V S.len v,by simp only[db,hv'];rfl,?_⟩
    have:aL V S'.len v=aL V S.len v:=jp v λq hq=>hlen q λe0=>by
     subst e0
     have:=fresh_tmp hf hv'
     rw[hq]at this;cases this
    rw[this]
    exact H.le.refl _
   ·rw[bL,acr]at hx
    obtain⟨oo,ho1,ho2⟩:=hx
    refine⟨x,?_,OLe.refl _⟩
    subst hS'
    unfold TS.own? at ho1
    unfold aC.own?
    simp only[aH]at ho1⊢
    by_cases q1:b=n
    ·rw[aep q1]at ho1⊢
     simp only[aaN]at ho1;subst ho1
     simp only[ct,aaN]at ho2;subst ho2
     have hc:encL V (TS.len {tmps:=S.tmps,own:=(b, .box oty (cells.set i (.vh nn)))::(nn, .vec te e (xs.take l))::(m, .gone (S.len m))::S.own}) (cells.set i (.vh nn))=(encL V S.len cells).set i (.vh nn l):=by
      rw[aU,acp,aU]
      congr 1
      ·rw[<-aU,<-aU]
       refine encL_congr cells λq hq=>hlen q λe0=> ?_
       subst e0;rw[hcn]at hq;cases hq
      ·simp only[aL,hlnn]
     rw[hc]
     rfl
    ·rw[aeo q1]at ho1⊢
     by_cases q2:nn=n
     ·rw[aep q2]at ho1⊢
      simp only[aaN]at ho1;subst ho1
      simp only[ct,aaN]at ho2;subst ho2
      rw[abS];rfl
     ·rw[aeo q2]at ho1⊢
      by_cases q3:m=n
      ·rw[aep q3]at ho1
       simp only[aaN]at ho1;subst ho1
       cases ho2
      ·rw[aeo q3]at ho1⊢
       have hq:(a_ V S).own? n=some x:=by
        rw[bL]
        unfold TS.own?
        rw[ho1]
        have:ct V S.len oo=ct V (TS.len {tmps:=S.tmps,own:=(b, .box oty (cells.set i (.vh nn)))::(nn, .vec te e (xs.take l))::(m, .gone (S.len m))::S.own}) oo:=(qL oo λq hq=>hlen q λe0=>by
         subst e0
         have:=hf
         unfold TS.fresh at this
         simp only[aaT,aa1]at this
         have:=this.2 (n,oo) (cV ho1)
         simp[hq]at this).symm
        rw[aaJ,this];exact ho2
       exact hq
  ·cases h
 ·cases h
theorem AG{k:TS V.N->Option A}(h:DJ V P pre o S k=some r):∃S',k S'=some r/\Ent (a_ V S) (a_ V S'):=by
 unfold DJ at h
 split at h
 ·exact DN h
 ·split at h
  ·split at h
   ·exact⟨_,h,Ct S _⟩
   ·exact⟨_,h,Ent.refl _⟩
  ·split at h
   ·split at h
    ·split at h
     ·exact⟨_,h,rY _ _ S⟩
     ·exact⟨_,h,Ent.refl _⟩
    ·exact⟨_,h,Ent.refl _⟩
   ·exact⟨_,h,Ent.refl _⟩
  ·exact⟨_,h,Ent.refl _⟩
end
end Go.Tx
end
section
namespace Go.Tx
open Go.Awp
variable [Inhabited GMem]
section
variable {ι:Type} {N:ι->Type}
def setB(S:TS N)(d:Nat)(b:Bool):TS N:={S with tmps:=(d, .lf .bool b)::S.tmps}
def ui(S:TS N)(all:List Oper)(j:Nat):Option (Nat×TV N):=match all[j]? with
 |some o=>match o.dst with
  |some d=>match gt S.tmps d with
   |some v=>some (d,v)
   |none=>none
  |none=>none
 |none=>none
def Dt(n:Nat)(pre:Nat->Bool)(o:Oper):Bool:=match o.dst with
 |some d=>aci d n&& !pre (4000000+d)
 |none=>true
def ff(S:TS N)(e:TE N):Bool:=e.new.all λd=>S.fresh d&&aci d given
end
section
variable (V:iF) (P:Program) (n:Nat) (nm:Nat->Nat) (call:dh V)
def nP:TV V.N->List (TV V.N)
 | .vh n=>[.vh n]
 | .agg cs=>cs
 |_=>[]
def Ml(b c:Bool):TV V.N->List (TV V.N)
 | .vh n=>match b with
  |true=>[.vh n]
  |false=>[]
 | .agg cs=>match c with
  |true=>[]
  |false=>cs
 |_=>[]
def Fs(pre:Nat->Bool)(o:Oper)(S:TS V.N):TS V.N:=match o.op with
 | .buildSlice _ _ parts=>frzL V S (parts.toList.flatMap λp=>nP V (tev S p.2))
 | .convert _ _ x=>frzL V S (nP V (tev S x))
 | .slice _ x _ _ _=>frzL V S (nP V (tev S x))
 | .store _ x y=>match tev S x with
  | .ep .. =>frzL V S (nP V (tev S y))
  |_=>S
 | .call c=>match c.callee with
  | .value f=>match tev S f with
   | .fn fid first captured=>frzL V S ((first++c.args.toList.map (tev S)++captured).flatMap (Ml V (pre fid) (pre (2000000+fid))))
   | .lf .fnc _=>frzL V S ((c.args.toList.map (tev S)).flatMap (Ml V false false))
   |_=>S
  | .builtin .append=>match c.args.toList,c.argTypes.toList with
   |[_, .tmp t],ty::_=>match gt S.tmps t,V.ty ty with
    |some (.vh n),_=>frzL V S [.vh n]
    |some (.raw (.slice (some _) 0 _)),some (.sl e)=>{S with tmps:=(t, .lf (.sl e) [])::S.tmps}
    |some (.raw (.slice none 0 0)),some (.sl e)=>{S with tmps:=(t, .lf (.sl e) [])::S.tmps}
    |_,_=>S
   |_,_=>S
  |_=>S
 |_=>S
def uc{α β:Type}:List α->(List α->β)->β
 |[],k=>k []
 |x::r,k=>uc r λl=>k (x::l)
theorem oL{α β:Type}:∀(l:List α) (k:List α->β),uc l k=k l
 |[],_=>rfl
 |x::r,k=>by rw[uc,oL r]
def yC{ι:Type}{N:ι->Type}{β:Type}(S:TS N)(k:TS N->β):β:=uc S.tmps λt=>uc S.own λo=>k ⟨t,o⟩
theorem ud{ι:Type}{N:ι->Type}{β:Type}(S:TS N)(k:TS N->β):yC S k=k S:=by
 unfold yC
 rw[oL,oL]
noncomputable def O3{A:Type}(x:Operand)(S:TS V.N)(k:TE V.N->Option A):Option A:=match tev S x with
 | .bp n 0=>match S.own? n with
  |some (.miter m tk tv es rest _)=>if Nv tk=true/\S.len m=0 then
   if rest.isEmpty=true then k {val:= .tup [.lf .bool false],acc:=[n,m],upd:=[(m, .map tk tv es),(n, .gone 0)]}
   else MB (steps rest) λq=>k {val:= .tup [.lf .bool true, .lf tk q.1.1, .lf tv q.1.2],acc:=[n],upd:=[(n, .miter m tk tv es q.2 (some q.1))]}
   else none
  |_=>none
 |_=>none
noncomputable def txo(pre:Nat->Bool)(o:Oper){A:Type}(S:TS V.N)(k:TS V.N->Option A):Option A:=match o.op with
 | .next x false=>O3 V x S λte=>match ff S te with
  |true=>k (S.app o.dst te)
  |false=>none
 |_=>DJ V P pre o S λS=>match opX V pre o S with
  |true=>tdX V P nm pre o S λte=>match ff S te with
   |true=>k (S.app o.dst te)
   |false=>none
  |false=>tx V P nm call false o (Fs V pre o S) λte=>match ff (Fs V pre o S) te with
   |true=>k ((Fs V pre o S).app o.dst te)
   |false=>none
noncomputable def txs(pre:Nat->Bool)(all:List Oper){A:Type}:List Oper->TS V.N->(TS V.N->Option A)->Option A
 |[],S,k=>k S
 |o::os,S,k=>yC S λS=>match Dt n pre o with
  |false=>none
  |true=>match o.guard with
   |none=>txo V P nm call pre o S λS'=>txs pre all os S' k
   |some (j,want)=>match ui S all j with
    |some (d, .lf .bool b)=>if b=true then
      match want with
      |true=>txo V P nm call pre o (setB S d true) λS'=>txs pre all os S' k
      |false=>txs pre all os ((setB S d true).app o.dst {val:= .tup []}) k
     else
      match want with
      |false=>txo V P nm call pre o (setB S d false) λS'=>txs pre all os S' k
      |true=>txs pre all os ((setB S d false).app o.dst {val:= .tup []}) k
    |some (_, .tup [])=>txs pre all os (S.app o.dst {val:= .tup []}) k
    |_=>none
def txq(pre:Nat->Bool)(o:Oper){A:Type}(S:TS V.N)(k:TE V.N->Option A):Option A:=match opX V pre o S with
 |true=>tdX V P nm pre o S k
 |false=>tx V P nm call true o S k
def txd(pre:Nat->Bool)(all:List Oper){A:Type}:List Oper->TS V.N->List Tr1->(TS V.N->List Tr1->Option A)->Option A
 |[],S,tr,k=>k S tr
 |o::os,S,tr,k=>yC S λS=>match Dt n pre o with
  |false=>none
  |true=>match det o.op with
   |false=>none
   |true=>match o.guard with
   |none=>txq V P nm call pre o S λte=>match ff S te with
    |true=>txd pre all os (S.app o.dst te) (tr++[⟨gB (S.app o.dst te).len te,true⟩]) k
    |false=>none
   |some (j,want)=>match ui S all j with
    |some (d, .lf .bool b)=>if b=true then
      match want with
      |true=>txq V P nm call pre o (setB S d true) λte=>match ff (setB S d true) te with
       |true=>txd pre all os ((setB S d true).app o.dst te) (tr++[⟨gB ((setB S d true).app o.dst te).len te,true⟩]) k
       |false=>none
      |false=>txd pre all os ((setB S d true).app o.dst {val:= .tup []}) (tr++[⟨{val:= .tup []},false⟩]) k
     else
      match want with
      |false=>txq V P nm call pre o (setB S d false) λte=>match ff (setB S d false) te with
       |true=>txd pre all os ((setB S d false).app o.dst te) (tr++[⟨gB ((setB S d false).app o.dst te).len te,true⟩]) k
       |false=>none
      |true=>txd pre all os ((setB S d false).app o.dst {val:= .tup []}) (tr++[⟨{val:= .tup []},false⟩]) k
    |some (_, .tup [])=>txd pre all os (S.app o.dst {val:= .tup []}) (tr++[⟨{val:= .tup []},false⟩]) k
    |_=>none
end
section
variable {V:iF}
theorem s_{C:Ctx}{E:Env}{M:Mem}{S:TS V.N}{d:Nat}{b:Bool}{a:Act}{w:World}(hd:gt S.tmps d=some (.lf .bool b))(hs:Sim C E M (a_ V S) a w):Sim C E M (a_ V (setB S d b)) a w:=by
 have hl:(setB S d b).len=S.len:=rfl
 refine Sim.le hs (λt x hx=> ?_) λn o ho=>⟨o,ho,OLe.refl _⟩
 rw[db]at hx⊢
 simp only[setB,aH]at hx
 by_cases h:d=t
 ·subst h
  rw[aep rfl]at hx
  rw[hd]
  exact⟨x,hx,H.le.refl _⟩
 ·rw[aeo h]at hx
  exact⟨x,hx,H.le.refl _⟩
theorem jX{S:TS V.N}{all:List Oper}{j d:Nat}{v:TV V.N}(h:ui S all j=some (d,v)):gt S.tmps d=some v/\∃o,all[j]?=some o/\o.dst=some d:=by
 unfold ui at h
 split at h
 ·rename_i o ho
  split at h
  ·rename_i d' hd
   split at h
   ·rename_i v' hv
    simp at h;obtain⟨rfl,rfl⟩:=h
    exact⟨hv,o,ho,hd⟩
   ·cases h
  ·cases h
 ·cases h
theorem ku{S:TS V.N}{σ:aC}(hσ:∀t,gt σ.tmps t=gt (a_ V S).tmps t){all:List Oper}{j d:Nat}{v:TV V.N}{want b:Bool}(h:ui S all j=some (d,v))
 (hv:v= .lf .bool b\/v= .tup []/\b= !want):jK σ all j want=some b:=by
 obtain⟨h1,o,h2,h3⟩:=jX h
 have hg:σ.get d=aL V S.len v:=by
  unfold aC.get
  rw[hσ,db,h1];rfl
 unfold jK
 simp only[h2,h3,hg]
 rcases hv with rfl|⟨rfl,rfl⟩
 ·simp[aL,bC]
 ·simp[aL,encL]
theorem ej{S:TS V.N}{te:TE V.N}(h:ff S te=true):(∀d∈te.new,S.fresh d=true)/\∀d∈te.new,d<given:=by
 unfold ff at h
 rw[aa1]at h
 refine⟨λd hd=> ?_,λd hd=> ?_⟩
 ·have:=h d hd
  simp only[aaT]at this
  exact this.1
 ·have:=h d hd
  simp only[aaT,acq]at this
  exact this.2
def Fx(C:Ctx)(pre:Nat->Bool):Prop:=∀p∈C.fix,pre (4000000+p.1)=true
theorem sk{C:Ctx}{pre:Nat->Bool}{o:Oper}(hF:Fx C pre)(h:Dt C.N pre o=true):∀d,o.dst=some d->C.wr d:=by
 intro d hd
 unfold Dt at h
 rw[hd]at h
 simp only[aaT,acq,adj]at h
 refine⟨h.1,λp hp e=> ?_⟩
 have:=hF p hp
 rw[e,h.2]at this
 cases this
theorem zI(S:TS V.N):good S {val:= .tup []}:=ju S _ _
theorem Pa{C:Ctx}{E:Env}{M:Mem}{S:TS V.N}{o:Oper}{a:Act}{w:World}(hd:∀d,o.dst=some d->C.wr d)(hs:Sim C E M (a_ V S) a w):Sim C E M (a_ V (S.app o.dst {val:= .tup []})) (a.put o.dst undef) w:=by
 have h1:=hs.app_val (o:=o) hd (e:={val:= .tup []}) rfl Mk
 refine Sim.tapp (ex:=false) (e':={val:= .tup []}) (zI S) (λd h=>by cases h) (tW ?_) h1
 simp[aL,encL]
theorem W9{C:Ctx}{nm:Nat->Nat}{call:dh V}{ex:Bool}{o:Oper}{S:TS V.N}{A:Type}{k:TS V.N->Option A}{r:A}{E:Env}{M:Mem}{a:Act}{w:World}{K:Act->World->Prop}{Q:Exit->Act->World->Prop}
 (hcall:bH C.P call)(hd:∀d,o.dst=some d->C.wr d)(h:(tx V C.P nm call ex o S λte=>match ff S te with|true=>k (S.app o.dst te)|false=>none)=some r)(hs:Sim C E M (a_ V S) a w)
 (hK:∀te E' M' a' w',k (S.app o.dst te)=some r->Sim C E' M' (a_ V (S.app o.dst te)) a' w'->K a' w'):o.wp C.P a w K Q:=by
 have hnew:∀te:TE V.N,(match ff S te with|true=>k (S.app o.dst te)|false=>none)=some r->ff S te=true/\k (S.app o.dst te)=some r:=by
  intro te h
  cases hq:ff S te with
  |true=>rw[hq]at h;exact⟨rfl,h⟩
  |false=>rw[hq]at h;cases h
 obtain⟨te,h1,h2,h3⟩:=zK hcall (λte hte=>(ej (hnew te hte).1).1) h
 obtain⟨hn,hk⟩:=hnew te h1
 obtain⟨f1,f2⟩:=ej hn
 refine uJ hd E M (a_ V S) a w K Q (λe=>ELe ex e (gB (S.app o.dst te).len te)) hs (nR (λe he=>⟨λd hd=> ?_,he⟩) h3) λe E' M' a' w' he hs'=>hK te E' M' a' w' hk (Sim.tapp h2 f1 he hs')
 have hd:d∈te.new:=by rw[he.new]at hd;exact hd
 exact⟨eQ (f1 d hd),f2 d hd⟩
theorem J8{C:Ctx}{nm:Nat->Nat}{pre:Nat->Bool}{o:Oper}{S:TS V.N}{A:Type}{k:TS V.N->Option A}{r:A}{E:Env}{M:Mem}{a:Act}{w:World}{K:Act->World->Prop}{Q:Exit->Act->World->Prop}
 (hd:∀d,o.dst=some d->C.wr d)(h:(tdX V C.P nm pre o S λte=>match ff S te with|true=>k (S.app o.dst te)|false=>none)=some r)(hs:Sim C E M (a_ V S) a w)
 (hK:∀te E' M' a' w',k (S.app o.dst te)=some r->Sim C E' M' (a_ V (S.app o.dst te)) a' w'->K a' w'):o.wp C.P a w K Q:=by
 have hnew:∀te:TE V.N,(match ff S te with|true=>k (S.app o.dst te)|false=>none)=some r->ff S te=true/\k (S.app o.dst te)=some r:=by
  intro te h
  cases hq:ff S te with
  |true=>rw[hq]at h;exact⟨rfl,h⟩
  |false=>rw[hq]at h;cases h
 obtain⟨te,h1,h2,e',h3,h4⟩:=vq (λte hte=>(ej (hnew te hte).1).1) h
 obtain⟨hn,hk⟩:=hnew te h1
 obtain⟨f1,f2⟩:=ej hn
 refine h3.ok hd hs (λd hd=> ?_) λE' M' a' w' hs'=>hK te E' M' a' w' hk (Sim.tapp h2 f1 h4 hs')
 have hd:d∈te.new:=by rw[h4.new]at hd;exact hd
 exact⟨eQ (f1 d hd),f2 d hd⟩
theorem uv{α β:Type}(f:α->β):∀(l:List α) (i:Nat),(l.eraseIdx i).map f=(l.map f).eraseIdx i
 |[],_=>rfl
 |_::_,0=>rfl
 |x::r,i+1=>by simp[adQ,uv f r i]
theorem Kc{C:Ctx}{nm:Nat->Nat}{o:Oper}{S:TS V.N}{A:Type}{k:TS V.N->Option A}{r:A}{E:Env}{M:Mem}{a:Act}{w:World}{K:Act->World->Prop}{Q:Exit->Act->World->Prop}{x:Operand}
 (ho:o.op= .next x false)(hd:∀d,o.dst=some d->C.wr d)(h:(O3 V x S λte=>match ff S te with|true=>k (S.app o.dst te)|false=>none)=some r)(hs:Sim C E M (a_ V S) a w)
 (hK:∀te E' M' a' w',k (S.app o.dst te)=some r->Sim C E' M' (a_ V (S.app o.dst te)) a' w'->K a' w'):o.wp C.P a w K Q:=by
 have hnew:∀te:TE V.N,(match ff S te with|true=>k (S.app o.dst te)|false=>none)=some r->ff S te=true/\k (S.app o.dst te)=some r:=by
  intro te h
  cases hq:ff S te with
  |true=>rw[hq]at h;exact⟨rfl,h⟩
  |false=>rw[hq]at h;cases h
 have go:∀(te:TE V.N) (e:Eff),(match ff S te with|true=>k (S.app o.dst te)|false=>none)=some r->good S te->ELe false e (gB (S.app o.dst te).len te)->
  (∀d∈e.new,(a_ V S).fresh d=true/\d<given)/\∃te,good S te/\(∀d∈te.new,S.fresh d=true)/\ELe false e (gB (S.app o.dst te).len te)/\k (S.app o.dst te)=some r:=by
  intro te e h hg he
  obtain⟨hn,hk⟩:=hnew te h
  obtain⟨f1,f2⟩:=ej hn
  exact⟨λd hd=>by
   have hd:d∈te.new:=by rw[he.new]at hd;exact hd
   exact⟨eQ (f1 d hd),f2 d hd⟩,te,hg,f1,he,hk⟩
 unfold O3 at h
 split at h
 ·rename_i n hx
  split at h
  ·rename_i m tk tv es rest cur hown
   obtain⟨⟨hkey,hlm⟩,h⟩:=aG h
   refine uJ (nm:=nm) hd E M (a_ V S) a w K Q (λe=>∃te,good S te/\(∀d∈te.new,S.fresh d=true)/\ELe false e (gB (S.app o.dst te).len te)/\k (S.app o.dst te)=some r) hs ?_
    λe E' M' a' w' ⟨te,h2,f1,he,hk⟩ hs'=>hK te E' M' a' w' hk (Sim.tapp h2 f1 he hs')
   simp only[bN,ho,aI,hx,aL,uR hown]
   refine⟨trivial,λhr=> ?_,λi p hp=> ?_⟩
   ·have hr:rest=[]:=by simpa using hr
    subst hr
    simp only[List.isEmpty_nil,ael]at h
    refine go {val:= .tup [.lf .bool false],acc:=[n,m],upd:=[(m, .map tk tv es),(n, .gone 0)]} {val:= .tup [.d (.v (.bool false))],acc:=[n,m],upd:=[(m,some (.map (es.map λp=>(eA V.enc tk p.1,bC V.sz V.enc tv p.2)))),(n,none)]} h (λm' o' hm=> ?_)
     (cX (by simp[aL,encL,bC]) rfl (by simp[ct]) rfl)
    simp only[aH]at hm
    right
    split at hm
    ·rename_i e;simp at hm;subst hm;subst e;simp[TO.len,hlm]
    ·split at hm
     ·rename_i e;simp at hm;subst hm;subst e;simp[TO.len,un hown]
     ·simp[gt]at hm
   ·rw[aaR,aa0]at hp
    obtain⟨q,hq,rfl⟩:=hp
    have hne:rest.isEmpty=false:=by cases rest with|nil=>simp at hq|cons a r=>rfl
    rw[aeo (by simp[hne]),anyOf_some]at h
    have h:=h.2 _ (Gk hq)
    refine go {val:= .tup [.lf .bool true, .lf tk q.1, .lf tv q.2],acc:=[n],upd:=[(n, .miter m tk tv es (rest.eraseIdx i) (some q))]}
     {val:= .tup [.d (.v (.bool true)), .d (.v (eA V.enc tk q.1)), .d (bC V.sz V.enc tv q.2)],acc:=[n],upd:=[(n,some (.miter m (es.map λp=>(eA V.enc tk p.1,bC V.sz V.enc tv p.2)) ((rest.map λp=>(eA V.enc tk p.1,bC V.sz V.enc tv p.2)).eraseIdx i) (some (eA V.enc tk q.1,bC V.sz V.enc tv q.2))))]} h (λm' o' hm=> ?_)
     (cX (by simp only[aL,encL,D1 hkey];rfl) rfl (by simp[ct,uv]) rfl)
    simp only[aH]at hm
    right
    split at hm
    ·rename_i e;simp at hm;subst hm;subst e;simp[TO.len,un hown]
    ·simp[gt]at hm
  ·cases h
 ·cases h
theorem Gj{S:TS V.N}{t:Nat}{v v':TV V.N}(ht:gt S.tmps t=some v)(h:H.le (aL V S.len v) (aL V S.len v')):Ent (a_ V S) (a_ V {S with tmps:=(t,v')::S.tmps}):=
 Ent.le (λd x hx=>by
  have hl:({S with tmps:=(t,v')::S.tmps}:TS V.N).len=S.len:=rfl
  rw[db]at hx
  simp only[aH,hl]at hx
  by_cases h1:t=d
  ·subst h1
   rw[aep rfl]at hx
   simp at hx;subst hx
   exact⟨_,by rw[db,ht];rfl,h⟩
  ·rw[aeo h1]at hx
   exact⟨x,by rw[db];exact hx,H.le.refl _⟩) λn o ho=>⟨o,ho,OLe.refl _⟩
theorem Ft(pre:Nat->Bool)(o:Oper)(S:TS V.N):Ent (a_ V S) (a_ V (Fs V pre o S)):=by
 unfold Fs
 split
 ·exact ee _ S
 ·exact ee _ S
 ·exact ee _ S
 ·split
  ·exact ee _ S
  ·exact Ent.refl _
 ·split
  ·split
   ·exact ee _ S
   ·exact ee _ S
   ·exact Ent.refl _
  ·split
   ·split
    ·exact ee _ S
    ·rename_i ht _
     refine Gj ht ?_
     simp only[aL,cy,bC,abE]
     exactλE M v h=>by rw[h.dv];exact .d (.slmt _ _ _)
    ·rename_i ht _
     refine Gj ht ?_
     simp only[aL,cy,bC,abE]
     exactλE M v h=>by rw[h.dv];exact .d (.slnil _)
    ·exact Ent.refl _
   ·exact Ent.refl _
  ·exact Ent.refl _
 ·exact Ent.refl _
theorem SZ{C:Ctx}{nm:Nat->Nat}{call:dh V}{pre:Nat->Bool}{o:Oper}{S:TS V.N}{A:Type}{k:TS V.N->Option A}{r:A}{E:Env}{M:Mem}{a:Act}{w:World}{K:Act->World->Prop}{Q:Exit->Act->World->Prop}
 (hcall:bH C.P call)(hd:∀d,o.dst=some d->C.wr d)(h:txo V C.P nm call pre o S k=some r)(hs:Sim C E M (a_ V S) a w)
 (hK:∀S' E' M' a' w',k S'=some r->Sim C E' M' (a_ V S') a' w'->K a' w'):o.wp C.P a w K Q:=by
 unfold txo at h
 split at h
 ·rename_i x hx
  exact Kc (nm:=nm) hx hd h hs λte E' M' a' w' hk hs'=>hK _ E' M' a' w' hk hs'
 ·obtain⟨S1,h,he⟩:=AG h
  obtain⟨E,M,hs⟩:=he C E M a w hs
  split at h
  ·exact J8 hd h hs λte E' M' a' w' hk hs'=>hK _ E' M' a' w' hk hs'
  ·obtain⟨_,_,hs1⟩:=Ft pre o S1 C E M a w hs
   exact W9 hcall hd h hs1 λte E' M' a' w' hk hs'=>hK _ E' M' a' w' hk hs'
theorem p9{C:Ctx}{nm:Nat->Nat}{call:dh V}{pre:Nat->Bool}{ops:Array Oper}{Q:Exit->Act->World->Prop}{A:Type}{r:A}(hcall:bH C.P call)(hF:Fx C pre):∀(l:List Oper) (i:Nat) (S:TS V.N) (k:TS V.N->Option A) (E:Env) (M:Mem) (a:Act) (w:World),
 ops.toList.drop i=l->txs V C.P C.N nm call pre ops.toList l S k=some r->Sim C E M (a_ V S) a w->(∀S' E' M' a' w',k S'=some r->Sim C E' M' (a_ V S') a' w'->Q .normal a' w')->
 wpOps C.P ops Q ((ab6 l.length).map (i+ ·)) a w
 |[],i,S,k,E,M,a,w,_,h,hs,hQ=>by
  simp only[txs]at h
  simpa[wpOps]using hQ S E M a w h hs
 |o::os,i,S,k,E,M,a,w,hl,h,hs,hQ=>by
  have hi:ops[i]?=some o:=by
   have:(ops.toList.drop i)[0]?=some o:=by rw[hl];rfl
   simpa using this
  have hl':ops.toList.drop (i+1)=os:=by
   rw[<-List.tail_drop,hl];rfl
  have hlist:(ab6 (o::os).length).map (i+ ·)=i::(ab6 os.length).map (i+1+ ·):=by
   simp only[aaW,List.range_succ_eq_map,aaY,abq,abX]
   congr 1
   apply abj
   intro x _
   simp;omega
  rw[hlist]
  simp only[txs,ud]at h
  split at h
  ·cases h
  rename_i hdst
  have run:∀(S:TS V.N),Sim C E M (a_ V S) a w->(txo V C.P nm call pre o S λS'=>txs V C.P C.N nm call pre ops.toList os S' k)=some r->
   o.wp C.P a w (wpOps C.P ops Q ((ab6 os.length).map (i+1+ ·))) Q:=λS hs h=>
   SZ (k:=λS'=>txs V C.P C.N nm call pre ops.toList os S' k) hcall (sk hF hdst) h hs λS' E' M' a' w' hk hs'=>p9 hcall hF os (i+1) _ k E' M' a' w' hl' hk hs' hQ
  have off:∀(S:TS V.N),Sim C E M (a_ V S) a w->txs V C.P C.N nm call pre ops.toList os (S.app o.dst {val:= .tup []}) k=some r->
   wpOps C.P ops Q ((ab6 os.length).map (i+1+ ·)) (a.put o.dst undef) w:=λS hs h=>
   p9 hcall hF os (i+1) _ k E M _ w hl' h (Pa (sk hF hdst) hs) hQ
  simp only[wpOps,hi]
  cases hg:o.guard with
  |none=>
   simp only[hg]at h
   rw[aep (by simp[Region.wanted,hg])]
   exact .inl (run S hs h)
  |some g=>
   obtain⟨j,want⟩:=g
   simp only[hg]at h
   split at h
   ·rename_i d b hgv
    have hb:=ku (V:=V) (S:=S) (σ:=a_ V S) (λt=>rfl) (want:=want) hgv (.inl rfl)
    have hy:=hs.guard hb
    have hgt:=(jX hgv).1
    cases b with
    |true=>
     rw[aep rfl]at h
     have hs':=s_ hgt hs
     cases want with
     |true=>
      rw[aep (by simp[Region.wanted,hg,hy])]
      exact .inl (run _ hs' h)
     |false=>
      rw[aeo (by simp[Region.wanted,hg,hy])]
      exact off _ hs' h
    |false=>
     rw[aeo (by simp)]at h
     have hs':=s_ hgt hs
     cases want with
     |false=>
      rw[aep (by simp[Region.wanted,hg,hy])]
      exact .inl (run _ hs' h)
     |true=>
      rw[aeo (by simp[Region.wanted,hg,hy])]
      exact off _ hs' h
   ·rename_i d hgv
    have hb:=ku (V:=V) (S:=S) (σ:=a_ V S) (λt=>rfl) (want:=want) hgv (.inr ⟨rfl,rfl⟩)
    have hy:=hs.guard hb
    rw[aeo (by cases want<;>simp[Region.wanted,hg,hy])]
    exact off _ hs h
   ·cases h
structure Rl (σ:aC) (S:TS V.N):Prop where
 tmp:∀t,gt σ.tmps t=gt (a_ V S).tmps t
 own:∀n,σ.own? n=(a_ V S).own? n
 fresh:∀d,S.fresh d=true->σ.fresh d=true
theorem Rl.refl(S:TS V.N):Rl (a_ V S) S:=⟨λ_=>rfl,λ_=>rfl,λ_ h=>eQ h⟩
theorem Rl.ent{σ:aC}{S:TS V.N}(h:Rl σ S):Ent σ (a_ V S):=Ent.le (λt x hx=>⟨x,by rw[h.tmp];exact hx,H.le.refl _⟩) λn o ho=>⟨o,by rw[h.own];exact ho,OLe.refl _⟩
theorem Rl.setB{σ:aC}{S:TS V.N}(h:Rl σ S){d:Nat}{b:Bool}(hd:gt S.tmps d=some (.lf .bool b)):Rl σ (setB S d b)where
 tmp:=λt=>by
  rw[h.tmp,db,db]
  simp only[Tx.setB,aH]
  by_cases e:d=t
  ·subst e;rw[aep rfl,hd];simp[aL]
  ·rw[aeo e];rfl
 own:=λn=>h.own n
 fresh:=λn hn=>h.fresh n (by
  unfold TS.fresh at hn⊢
  simp only[aaT]at hn⊢
  refine⟨⟨hn.1.1,?_⟩,hn.2⟩
  have:=hn.1.2
  simp only[Tx.setB,ab1,aaT]at this
  exact this.2)
theorem Rl.app{σ:aC}{S:TS V.N}(h:Rl σ S){dst:Option Tmp}{te:TE V.N}(hg:good S te)(hn:∀d∈te.new,S.fresh d=true):Rl (σ.app dst (gB (S.app dst te).len te)) (S.app dst te)where
 tmp:=λt=>by
  rw[(sm (dst:=dst) hg hn).1]
  simp only[aC.app,tz]
  cases dst with
  |none=>exact h.tmp t
  |some d=>simp only[aH];rw[h.tmp]
 own:=λn=>by
  rw[(sm (dst:=dst) hg hn).2]
  have:=h.own n
  unfold aC.own? at this⊢
  simp only[aC.app,e_]
  cases gt (gB (S.app dst te).len te).upd n with
  |some o=>rfl
  |none=>exact this
 fresh:=λn hn'=>by
  unfold TS.fresh at hn'
  simp only[aaT]at hn'
  obtain⟨⟨f1,f2⟩,f3⟩:=hn'
  have hu:gt te.upd n=none:=by
   rw[ni]at f1
   cases hq:gt te.upd n with
   |none=>rfl
   |some o=>rw[hq]at f1;cases f1
  have hs:S.fresh n=true:=by
   unfold TS.fresh
   simp only[aaT]
   refine⟨⟨?_,?_⟩,?_⟩
   ·rw[ni,hu]at f1;exact f1
   ·rw[aa1]at f2⊢
    intro p hp
    refine f2 p ?_
    unfold TS.app TJ
    cases dst with
    |none=>exact hp
    |some d=>exact aaX _ hp
   ·rw[aa1]at f3⊢
    exactλp hp=>f3 p (acy _ hp)
  have hσ:=h.fresh n hs
  unfold aC.fresh at hσ⊢
  simp only[aaT]at hσ⊢
  obtain⟨⟨g1,g2⟩,g3⟩:=hσ
  refine⟨⟨?_,?_⟩,?_⟩
  ·have hq:gt (gB (S.app dst te).len te).upd n=none:=by simp only[gB,gI,hu];rfl
   unfold aC.own? at g1⊢
   simp only[aC.app,e_,hq]
   exact g1
  ·simp only[aC.app,tz]
   cases dst with
   |none=>exact g2
   |some d=>
    rw[ab1,aaT]
    refine⟨?_,g2⟩
    rw[aa1]at f2
    have:=f2 (d,te.val) (by simp[TS.app,TJ])
    simpa[gB,jq]using this
  ·simp only[aC.app,List.all_append,aaT]
   refine⟨?_,g3⟩
   rw[aa1]at f3⊢
   intro p hp
   simp only[gB,abg]at hp
   obtain⟨q,hq,rfl⟩:=hp
   have:=f3 q (ab2 _ hq)
   simp only
   cases ho:ct V (S.app dst te).len q.2 with
   |none=>rfl
   |some o=>simp only[kj _ n ho];exact this
theorem Rl.tup{σ:aC}{S:TS V.N}(h:Rl σ S){dst:Option Tmp}:Rl (σ.app dst {val:= .tup []}) (S.app dst {val:= .tup []}):=by
 have:=h.app (dst:=dst) (te:={val:= .tup []}) (zI S) λd h=>by cases h
 simpa[gB,aL,encL]using this
theorem Gy{P:Program}{nm:Nat->Nat}{call:dh V}{pre:Nat->Bool}{o:Oper}{S:TS V.N}{A:Type}{k:TE V.N->Option A}{r:A}(hcall:bH P call)(hf:∀te,k te=some r->∀d∈te.new,S.fresh d=true)(h:txq V P nm call pre o S k=some r):
 ∃te,k te=some r/\good S te/\vG P nm o (ev (a_ V S)) (a_ V S).own? λe=>ELe true e (gB (S.app o.dst te).len te):=by
 unfold txq at h
 split at h
 ·obtain⟨te,h1,h2,e',h3,h4⟩:=vq hf h
  exact⟨te,h1,h2, .inr ⟨e',h3,h4⟩⟩
 ·obtain⟨te,h1,h2,h3⟩:=zK hcall hf h
  exact⟨te,h1,h2, .inl h3⟩
theorem pZ{P:Program}{n:Nat}{W:Nat->Prop}{nm:Nat->Nat}{call:dh V}{pre:Nat->Bool}{all:List Oper}{A:Type}{r:A}(hcall:bH P call)(hW:∀o,Dt n pre o=true->∀d,o.dst=some d->W d):∀(l:List Oper) (S:TS V.N) (σ:aC) (tr:List Tr1) (k:TS V.N->List Tr1->Option A),
 txd V P n nm call pre all l S tr k=some r->Rl σ S->jH P W nm all l σ tr λσ' tr'=>∃S',Rl σ' S'/\k S' tr'=some r
 |[],S,σ,tr,k,h,hr=>by
  simp only[txd]at h
  exact⟨S,hr,h⟩
 |o::os,S,σ,tr,k,h,hr=>by
  simp only[txd,ud]at h
  split at h
  ·cases h
  rename_i hdst
  split at h
  ·cases h
  rename_i hdet
  have run:∀(S:TS V.N),Rl σ S->(txq V P nm call pre o S λte=>match ff S te with|true=>txd V P n nm call pre all os (S.app o.dst te) (tr++[⟨gB (S.app o.dst te).len te,true⟩]) k|false=>none)=some r->
   vG P nm o (ev σ) σ.own? λe=>(∀d∈e.new,σ.fresh d=true/\d<given)/\jH P W nm all os (σ.app o.dst e) (tr++[⟨e,true⟩]) λσ' tr'=>∃S',Rl σ' S'/\k S' tr'=some r:=by
   intro S hr h
   have hnew:∀te:TE V.N,(match ff S te with|true=>txd V P n nm call pre all os (S.app o.dst te) (tr++[⟨gB (S.app o.dst te).len te,true⟩]) k|false=>none)=some r->
    ff S te=true/\txd V P n nm call pre all os (S.app o.dst te) (tr++[⟨gB (S.app o.dst te).len te,true⟩]) k=some r:=by
    intro te h
    cases hq:ff S te with
    |true=>rw[hq]at h;exact⟨rfl,h⟩
    |false=>rw[hq]at h;cases h
   obtain⟨te,h1,h2,h3⟩:=Gy hcall (λte hte=>(ej (hnew te hte).1).1) h
   obtain⟨hn,hk⟩:=hnew te h1
   obtain⟨f1,f2⟩:=ej hn
   have e1:ev σ=ev (a_ V S):=by
    funext x
    cases x with
    |tmp t=>simp only[ev,aC.get,hr.tmp]
    |_=>rfl
   have e2:σ.own?=(a_ V S).own?:=funext hr.own
   rw[e1,e2]
   refine j_ (λe he=> ?_) h3
   have he':e=gB (S.app o.dst te).len te:=by
    obtain⟨q1,q2,q3⟩:=he.eq rfl
    have q4:=he.new
    cases e
    simp only at q1 q2 q3 q4
    subst q1;subst q2;subst q3;subst q4;rfl
   subst he'
   exact⟨λd hd=>⟨hr.fresh d (f1 d hd),f2 d hd⟩,pZ hcall hW os _ _ _ k hk (hr.app h2 f1)⟩
  have off:∀(S:TS V.N),Rl σ S->txd V P n nm call pre all os (S.app o.dst {val:= .tup []}) (tr++[⟨{val:= .tup []},false⟩]) k=some r->
   jH P W nm all os (σ.app o.dst {val:= .tup []}) (tr++[⟨{val:= .tup []},false⟩]) λσ' tr'=>∃S',Rl σ' S'/\k S' tr'=some r:=λS hr h=>
   pZ hcall hW os _ _ _ k h hr.tup
  simp only[jH]
  refine⟨⟨hW o hdst,hdet⟩,?_⟩
  cases hg:o.guard with
  |none=>
   simp only[hg]at h
   exact run S hr h
  |some g=>
   obtain⟨j,want⟩:=g
   simp only[hg]at h
   split at h
   ·rename_i d b hgv
    have hb:=ku (V:=V) (S:=S) (σ:=σ) hr.tmp (want:=want) hgv (.inl rfl)
    have hgt:=(jX hgv).1
    simp only[hb]
    cases b with
    |true=>
     rw[aep rfl]at h
     have hr':=hr.setB hgt
     cases want with
     |true=>exact⟨λ_=>run _ hr' h,λe=>by simp at e⟩
     |false=>exact⟨λe=>by simp at e,λ_=>off _ hr' h⟩
    |false=>
     rw[aeo (by simp)]at h
     have hr':=hr.setB hgt
     cases want with
     |false=>exact⟨λ_=>run _ hr' h,λe=>by simp at e⟩
     |true=>exact⟨λe=>by simp at e,λ_=>off _ hr' h⟩
   ·rename_i d hgv
    have hb:=ku (V:=V) (S:=S) (σ:=σ) hr.tmp (want:=want) hgv (.inr ⟨rfl,rfl⟩)
    simp only[hb]
    exact⟨λe=>by cases want<;>simp at e,λ_=>off _ hr h⟩
   ·cases h
end
end Go.Tx
end
section
namespace Go.Tx
open Go.Awp
variable [Inhabited GMem]
inductive Alt where
 |norm
 |ret
 |exit (id:Nat)
 deriving DecidableEq
section
variable (V:iF)
structure aN where
 exits:Nat->Cut V.ι:=λ_=>⟨[],[]⟩
 rcut:Cut V.ι
variable {V}
def c_(sh:aN V)(jt:List (Ty V.ι)):Alt->List (Ty V.ι)
 | .norm=>jt
 | .ret=>sh.rcut.tys
 | .exit id=>(sh.exits id).tys
def nU(E:Alt->List (Ty V.ι)):List Alt->Type
 |[]=>Empty
 |[a]=>HL V.N (E a)
 |a::b::r=>HL V.N (E a)⊕nU E (b::r)
def inj(E:Alt->List (Ty V.ι)):(alts:List Alt)->(a:Alt)->HL V.N (E a)->Option (nU E alts)
 |[],_,_=>none
 |[b],a,v=>if h:a=b then some (h▸v)else none
 |b::c::r,a,v=>if h:a=b then some (.inl (h▸v))else match inj E (c::r) a v with
  |some o=>some (.inr o)
  |none=>none
def qT(E:Alt->List (Ty V.ι)){A:Type}:(alts:List Alt)->nU E alts->((a:Alt)->HL V.N (E a)->Option A)->Option A
 |[],_,_=>none
 |[a],v,f=>f a v
 |a::b::r,o,f=>match o with
  | .inl v=>f a v
  | .inr o'=>qT E (b::r) o' f
theorem dY{E:Alt->List (Ty V.ι)}{A:Type}{f:(a:Alt)->HL V.N (E a)->Option A}:∀{alts:List Alt} {a:Alt} {v:HL V.N (E a)} {o:nU E alts},inj E alts a v=some o->qT E alts o f=f a v
 |[],a,v,o,h=>by simp[inj]at h
 |[b],a,v,o,h=>by
  simp only[inj]at h
  split at h
  ·rename_i e;subst e;cases h;rfl
  ·cases h
 |b::c::r,a,v,o,h=>by
  simp only[inj]at h
  split at h
  ·rename_i e;subst e;cases h;rfl
  ·split at h
   ·rename_i o' ho
    cases h
    show qT E (c::r) o' f=f a v
    exact dY (f:=f) ho
   ·cases h
variable (V)
structure m6 (sh:aN V)where
 cut:Cut V.ι
 alts:List Alt
 F:HL V.N cut.tys->Option (nU (c_ sh []) alts)
structure Xc where
 P:Program
 n:Nat
 nm:Nat->Nat:=id
 call:dh V
 pre:Nat->Bool:=λ_=>false
 sh:aN V
 joins:Nat->Option (Cut V.ι×List Alt):=λ_=>none
 regs:Nat->Option (Cut V.ι):=λ_=>none
 loops:Nat->Option (m6 V sh):=λ_=>none
 pair:Nat->PT:=λ_=> .leaf
 jumps:Nat->Option (Nat×m6 V sh):=λ_=>none
def cI:Code->Nat
 | .region id _ _=>id
 | .seq a b=>if cI a=1000000 then cI b else cI a
 | .block _ x=>cI x
 | .cond _ a b=>if cI a=1000000 then cI b else cI a
 | .loop b=>cI b
 | .scope b=>cI b
 |_=>1000000
variable {V}
noncomputable def TT{A:Type}(x y:Option A):Option A:=by classical exact if x=y then x else none
theorem Cs{A:Type}{x y:Option A}{r:A}(h:TT x y=some r):x=some r/\y=some r:=by
 unfold TT at h
 split at h
 ·rename_i e;exact⟨h,e▸h⟩
 ·cases h
def Uy(X:Xc V){A:Type}(ops:Array Oper)(S:TS V.N)(k:TS V.N->Option A):Option A:=
 txd V X.P X.n X.nm X.call X.pre ops.toList ops.toList S [] λS' tr=>match yp ops.toList tr with
  |true=>k S'
  |false=>none
def zh(i j n:Nat):Bool:= !abI i j&&aci i n&&aci j n
noncomputable def Rw(X:Xc V){A:Type}(S:TS V.N)(k:TS V.N->Option A):PT->Array Oper->Option A
 | .leaf,ops=>Uy X ops S k
 | .node i j a b,ops=>match zh i j ops.size with
  |true=>TT (Rw X S k a (fe i i i j ops)) (Rw X S k b (fe i j j i ops))
  |false=>none
noncomputable def Rx(X:Xc V){A:Type}(id:Nat)(ops:Array Oper)(draw:Bool)(S:TS V.N)(k:TS V.N->Option A):Option A:=match draw with
 |false=>txs V X.P X.n X.nm X.call X.pre ops.toList ops.toList S k
 |true=>Rw X S k (X.pair id) ops
def pk{A:Type}(ke:Nat->TS V.N->Option A):Nat->TS V.N->Option A:=λid S=>match aci id 1000000 with
 |true=>ke id S
 |false=>none
noncomputable def ex(X:Xc V):Code->(A:Type)->TS V.N->(TS V.N->Option A)->(Nat->TS V.N->Option A)->(HL V.N X.sh.rcut.tys->Option A)->Option A
 | .skip,_,S,kn,_,_=>kn S
 | .ret,_,S,_,_,kr=>match DA V X.sh.rcut S with
  |some v=>kr v
  |none=>none
 | .exit id,_,S,_,ke,_=>pk ke id S
 | .goto l,_,S,_,ke,_=>ke (1000000+l) S
 | .label _,_,S,kn,_,_=>kn S
 | .seq x y,A,S,kn,ke,kr=>match X.joins (cI y)with
  |none=>ex X x A S (λS'=>ex X y A S' kn ke kr) ke kr
  |some (cut,alts)=>
   ex X x (nU (c_ X.sh cut.tys) alts) S
    (λS'=>match DA V cut S' with
      |some v=>inj (c_ X.sh cut.tys) alts .norm v
      |none=>none)
    (λid S'=>match DA V (X.sh.exits id) S' with
      |some v=>inj (c_ X.sh cut.tys) alts (.exit id) v
      |none=>none)
    (λv=>inj (c_ X.sh cut.tys) alts .ret v)>>=λout=>
   qT (c_ X.sh cut.tys) alts out λa=>match a with
    | .norm=>λv=>ex X y A (fk V cut v) kn ke kr
    | .ret=>λv=>kr v
    | .exit id=>λv=>ke id (fk V (X.sh.exits id) v)
 | .block id x,A,S,kn,ke,kr=>match aci id 1000000 with
  |true=>ex X x A S kn (λid' S'=>if id'=id then kn S' else ke id' S') kr
  |false=>none
 | .cond c x y,A,S,kn,ke,kr=>match c with
  | .tmp t=>match gt S.tmps t with
   |some (.lf .bool b)=>if b=true then ex X x A (setB S t true) kn ke kr else ex X y A (setB S t false) kn ke kr
   |_=>none
  | .const (.bool b)=>match b with
   |true=>ex X x A S kn ke kr
   |false=>ex X y A S kn ke kr
  |_=>none
 | .region id ops draw,_,S,kn,_,_=>match X.regs id with
  |none=>Rx X id ops draw S kn
  |some cut=>(Rx X id ops draw S λS'=>DA V cut S')>>=λv=>kn (fk V cut v)
 | .scope c,A,S,kn,ke,kr=>match X.jumps (cI c)with
  |none=>ex X c A S kn (pk ke) kr
  |some (l,la)=>ex X c A S kn (λid S'=>match abI id (1000000+l)with
   |true=>match DA V la.cut S' with
    |none=>none
    |some v=>la.F v>>=λout=>qT (c_ X.sh []) la.alts out λa=>match a with
     | .norm=>λ_=>none
     | .ret=>λv=>kr v
     | .exit id=>λv=>ke id (fk V (X.sh.exits id) v)
   |false=>pk ke id S') kr
 | .loop b,_,S,_,ke,kr=>match X.loops (cI b)with
  |none=>none
  |some la=>match DA V la.cut S with
   |none=>none
   |some v=>la.F v>>=λout=>qT (c_ X.sh []) la.alts out λa=>match a with
    | .norm=>λ_=>none
    | .ret=>λv=>kr v
    | .exit id=>λv=>ke id (fk V (X.sh.exits id) v)
 |_,_,_,_,_,_=>none
noncomputable def exL(X:Xc V)(b:Code)(cut:Cut V.ι)(alts:List Alt)(F:HL V.N cut.tys->Option (nU (c_ X.sh []) alts))(v:HL V.N cut.tys):Option (nU (c_ X.sh []) alts):=
 ex X b _ (fk V cut v)
  (λS'=>match DA V cut S' with
    |some v=>F v
    |none=>none)
  (pk λid S'=>match DA V (X.sh.exits id) S' with
    |some v=>inj (c_ X.sh []) alts (.exit id) v
    |none=>none)
  (λv=>inj (c_ X.sh []) alts .ret v)
def qf(C:Ctx)(c:Code)(S:aC)(Q:Exit->aC->Prop):Prop:=
 ∀(E:Env) (M:Mem) (a:Act) (w:World),Sim C E M S a w->∀(b:Frame) (k:List Item) (cs:List Frame),
  ∃e a' w',(∃S' E' M',Q e S'/\Sim C E' M' S' a' w')/\Arrives C.P (lone (b.at a (.code c:: .inLoop c::k)) cs w) b k cs e a' w'
theorem qf.loop{C:Ctx}{c:Code}{S:aC}{Q:Exit->aC->Prop}(h:qf C c S Q):AWp C (.loop c) S Q:=λE M a w hs b k cs=>
 let⟨e,a',w',hq,harr⟩:=h E M a w hs b k cs
 ⟨e,a',w',hq, .of_steps (.one step_loop) harr⟩
theorem qf.ent{C:Ctx}{c:Code}{S S':aC}{Q:Exit->aC->Prop}(he:Ent S S')(h:qf C c S' Q):qf C c S Q:=λE M a w hs=>
 let⟨E',M',hs'⟩:=he C E M a w hs
 h E' M' a w hs'
theorem qf.round{C:Ctx}{c:Code}{S:aC}{Q:Exit->aC->Prop}(h:AWp C c S (QT (λS'=>qf C c S' Q) Q)):qf C c S Q:=by
 intro E M a w hs b k cs
 obtain⟨e,a₁,w₁,⟨S₁,E₁,M₁,hq,hs₁⟩,harr⟩:=h E M a w hs b (.inLoop c::k) cs
 cases e with
 |normal=>
  obtain⟨e₂,a₂,w₂,hq₂,harr₂⟩:=hq E₁ M₁ a₁ w₁ hs₁ b k cs
  exact⟨e₂,a₂,w₂,hq₂, .of_steps (Steps.trans harr (.one step_inLoop)) harr₂⟩
 |exit id=>exact⟨_,a₁,w₁,⟨S₁,E₁,M₁,hq,hs₁⟩, .pass (x:= .inLoop c) rfl (λ_ _=> .inl (by simp)) harr⟩
 |goto l=>exact⟨_,a₁,w₁,⟨S₁,E₁,M₁,hq,hs₁⟩, .pass (x:= .inLoop c) rfl (λ_ _=> .inl (by simp)) harr⟩
 |ret=>exact⟨_,a₁,w₁,⟨S₁,E₁,M₁,hq,hs₁⟩, .pass (x:= .inLoop c) rfl (λ_ _=> .inl (by simp)) harr⟩
 |panic ch=>exact⟨_,a₁,w₁,⟨S₁,E₁,M₁,hq,hs₁⟩, .pass (x:= .inLoop c) rfl (λ_ _=> .inl (by simp)) harr⟩
 |outgrown=>exact⟨_,a₁,w₁,⟨S₁,E₁,M₁,hq,hs₁⟩, .pass (x:= .inLoop c) rfl (λ_ _=> .inl (by simp)) harr⟩
def KT(C:Ctx)(x rest:Code)(S:aC)(Q:Exit->aC->Prop):Prop:=
 ∀(E:Env) (M:Mem) (a:Act) (w:World),Sim C E M S a w->∀(b:Frame) (k:List Item) (cs:List Frame),
  ∃e a' w',(∃S' E' M',Q e S'/\Sim C E' M' S' a' w')/\Arrives C.P (lone (b.at a (.code rest:: .inScope x::k)) cs w) b k cs e a' w'
def Uf(l:Nat)(J:aC->Prop)(Q:Exit->aC->Prop):Exit->aC->Prop
 | .goto l',S=>l'=l/\J S
 |e,S=>Q e S
theorem KT.ent{C:Ctx}{x rest:Code}{S S':aC}{Q:Exit->aC->Prop}(he:Ent S S')(h:KT C x rest S' Q):KT C x rest S Q:=λE M a w hs=>
 let⟨E',M',hs'⟩:=he C E M a w hs
 h E' M' a w hs'
theorem KT.mono{C:Ctx}{x rest:Code}{S:aC}{Q Q':Exit->aC->Prop}(h:KT C x rest S Q)(hq:∀e S,Q e S->Q' e S):KT C x rest S Q':=λE M a w hs b k cs=>
 let⟨e,a',w',⟨S',E',M',hq',hs'⟩,harr⟩:=h E M a w hs b k cs
 ⟨e,a',w',⟨S',E',M',hq e S' hq',hs'⟩,harr⟩
theorem nY{C:Ctx}{x rest:Code}{l:Nat}{S:aC}{Q:Exit->aC->Prop}(hf:findLabel x l=some rest)(h:AWp C x S (Uf l (λS'=>KT C x rest S' Q) Q)):AWp C (.scope x) S Q:=by
 intro E M a w hs b k cs
 have hg:gotoIn l (.inScope x::k)=some (.code rest:: .inScope x::k):=by simp[gotoIn,hf]
 obtain⟨e,a₁,w₁,⟨S₁,E₁,M₁,hq,hs₁⟩,harr⟩:=h E M a w hs b (.inScope x::k) cs
 cases e with
 |normal=>exact⟨.normal,a₁,w₁,⟨S₁,E₁,M₁,hq,hs₁⟩, .head step_scope (Steps.trans harr (.one step_inScope))⟩
 |exit id=>exact⟨.exit id,a₁,w₁,⟨S₁,E₁,M₁,hq,hs₁⟩,λk' hk=> .head step_scope (harr k' (by simp[exitTo,hk]))⟩
 |goto l'=>
  obtain⟨rfl,hJ⟩:=hq
  obtain⟨e₂,a₂,w₂,hq₂,harr₂⟩:=hJ E₁ M₁ a₁ w₁ hs₁ b k cs
  exact⟨e₂,a₂,w₂,hq₂, .of_steps (.head step_scope (harr _ hg)) harr₂⟩
 |ret=>exact⟨_,a₁,w₁,⟨S₁,E₁,M₁,hq,hs₁⟩, .of_steps (.one step_scope) harr⟩
 |panic ch=>exact⟨_,a₁,w₁,⟨S₁,E₁,M₁,hq,hs₁⟩, .of_steps (.one step_scope) harr⟩
 |outgrown=>exact⟨_,a₁,w₁,⟨S₁,E₁,M₁,hq,hs₁⟩, .of_steps (.one step_scope) harr⟩
theorem sc(l:Nat):aci (1000000+l) 1000000=false:=by
 cases h:aci (1000000+l) 1000000 with
 |false=>rfl
 |true=>rw[acq]at h;omega
theorem gb{A:Type}{ke:Nat->TS V.N->Option A}{id:Nat}{S:TS V.N}{r:A}(h:pk ke id S=some r):aci id 1000000=true/\ke id S=some r:=by
 unfold pk at h
 split at h
 ·exact⟨‹_›,h⟩
 ·cases h
theorem j4{A:Type}{ke:Nat->TS V.N->Option A}{l:Nat}{S:TS V.N}{r:A}(h:pk ke (1000000+l) S=some r):False:=by
 have:=(gb h).1
 rw[sc]at this;cases this
structure XV (sh:aN V) {A:Type} (kn:TS V.N->Option A) (ke:Nat->TS V.N->Option A) (kr:HL V.N sh.rcut.tys->Option A) (r:A) (Q:Exit->aC->Prop):Prop where
 norm:∀S σ,kn S=some r->Ent σ (a_ V S)->Q .normal σ
 exit:∀id S σ,aci id 1000000=true->ke id S=some r->Ent σ (a_ V S)->Q (.exit id) σ
 jump:∀l S σ,ke (1000000+l) S=some r->Ent σ (a_ V S)->Q (.goto l) σ
 ret:∀v σ,kr v=some r->Ent σ (a_ V (fk V sh.rcut v))->Q .ret σ
def xZ(sh:aN V)(alts:List Alt)(out:nU (c_ sh []) alts)(e:Exit)(σ:aC):Prop:=match e with
 | .exit id=>aci id 1000000=true/\∃v:HL V.N (sh.exits id).tys,inj (c_ sh []) alts (.exit id) v=some out/\Ent σ (a_ V (fk V (sh.exits id) v))
 | .ret=>∃v:HL V.N sh.rcut.tys,inj (c_ sh []) alts .ret v=some out/\Ent σ (a_ V (fk V sh.rcut v))
 |_=>False
def gD(C:Ctx)(b:Code){sh:aN V}(la:m6 V sh):Prop:=∀v out,la.F v=some out->qf C b (a_ V (fk V la.cut v)) (xZ sh la.alts out)
def KY(C:Ctx)(x:Code)(l:Nat){sh:aN V}(la:m6 V sh):Prop:=
 ∃rest,findLabel x l=some rest/\∀v out,la.F v=some out->KT C x rest (a_ V (fk V la.cut v)) (xZ sh la.alts out)
def LOk(C:Ctx)(X:Xc V):Code->Prop
 | .seq x y=>LOk C X x/\LOk C X y
 | .block _ x=>LOk C X x
 | .scope x=>LOk C X x/\∀l la,X.jumps (cI x)=some (l,la)->KY C x l la
 | .cond _ x y=>LOk C X x/\LOk C X y
 | .loop b=>∀la,X.loops (cI b)=some la->gD C b la
 |_=>True
theorem jl{P:Program}{N:Nat->Prop}{nm:Nat->Nat}{all:List Oper}:∀{os:List Oper} {S:aC} {tr:List Tr1} {k k':aC->List Tr1->Prop},(∀S tr,k S tr->k' S tr)->jH P N nm all os S tr k->jH P N nm all os S tr k'
 |[],S,tr,k,k',hk,h=>hk _ _ h
 |o::os,S,tr,k,k',hk,h=>by
  simp only[jH]at h⊢
  obtain⟨hd,h⟩:=h
  refine⟨hd,?_⟩
  cases hg:o.guard with
  |none=>
   simp only[hg]at h⊢
   exact j_ (λe ⟨h1,h2⟩=>⟨h1,jl hk h2⟩) h
  |some g=>
   obtain⟨j,want⟩:=g
   simp only[hg]at h⊢
   split at h
   ·exact⟨λe=>j_ (λe ⟨h1,h2⟩=>⟨h1,jl hk h2⟩) (h.1 e),λe=>jl hk (h.2 e)⟩
   ·exact h.elim
def Yb(Q:Exit->aC->Prop):Exit->aC->Prop
 | .goto _,_=>False
 |e,S=>Q e S
theorem Cq{C:Ctx}{c:Code}{S:aC}{Q:Exit->aC->Prop}(h:AWp C c S (Yb Q)):AWp C (.scope c) S Q:=λE M a w hs=>
 wp_scope_straight (wp_mono (h E M a w hs) λe a' w'=>by
  rintro⟨S',E',M',hq,hs'⟩
  cases e with
  |goto l=>exact hq.elim
  |_=>exact⟨S',E',M',hq,hs'⟩)
theorem yu{C:Ctx}{X:Xc V}(hP:C.P=X.P)(hn:C.N=X.n/\Fx C X.pre)(hm:X.P.follows .mixedOrders=true)(hcall:bH X.P X.call):∀(c:Code) (A:Type) (S:TS V.N) (kn:TS V.N->Option A) (ke:Nat->TS V.N->Option A)
 (kr:HL V.N X.sh.rcut.tys->Option A) (r:A) (Q:Exit->aC->Prop),LOk C X c->ex X c A S kn ke kr=some r->XV X.sh kn ke kr r Q->AWp C c (a_ V S) Q:=by
 intro c
 induction c with
 |skip=>intro A S kn ke kr r Q _ h hp;exact .skip (hp.norm S _ h (Ent.refl _))
 |label l=>intro A S kn ke kr r Q _ h hp;exact .label (hp.norm S _ h (Ent.refl _))
 |exit id=>
  intro A S kn ke kr r Q _ h hp
  simp only[ex]at h
  obtain⟨h1,h2⟩:=gb h
  exact .exit (hp.exit id S _ h1 h2 (Ent.refl _))
 |goto l=>intro A S kn ke kr r Q _ h hp;exact .goto (hp.jump l S _ h (Ent.refl _))
 |ret=>
  intro A S kn ke kr r Q _ h hp
  simp only[ex]at h
  split at h
  ·rename_i v hv;exact .ret (hp.ret v _ h (eY hv))
  ·cases h
 |seq x y ihx ihy=>
  intro A S kn ke kr r Q hl h hp
  obtain⟨hlx,hly⟩:=hl
  simp only[ex]at h
  split at h
  ·refine .seq (ihx A S _ ke kr r _ hlx h ⟨λS' σ hk he=> ?_,hp.exit,hp.jump,λv σ hk he=>hp.ret v σ hk he⟩)
   exact .ent he (ihy A S' kn ke kr r Q hly hk hp)
  ·rename_i cut alts hj
   obtain⟨out,h1,h2⟩:=ci h
   refine .seq (ihx _ S _ _ _ out _ hlx h1 ⟨λS' σ hk he=> ?_,λid S' σ hb hk he=> ?_,λl S' σ hk he=> ?_,λv σ hk he=> ?_⟩)
   ·split at hk
    ·rename_i v hv
     rw[dY hk]at h2
     exact .ent (Ent.trans he (eY hv)) (ihy A _ kn ke kr r Q hly h2 hp)
    ·cases hk
   ·split at hk
    ·rename_i v hv
     rw[dY hk]at h2
     exact hp.exit id _ σ hb h2 (Ent.trans he (eY hv))
    ·cases hk
   ·split at hk
    ·rename_i v hv
     rw[dY hk]at h2
     exact hp.jump l _ σ h2 (Ent.trans he (eY hv))
    ·cases hk
   ·rw[dY hk]at h2
    exact hp.ret v σ h2 he
 |block id x ih=>
  intro A S kn ke kr r Q hl h hp
  simp only[ex]at h
  split at h
  ·rename_i hb
   refine .block (ih A S kn _ kr r _ hl h ⟨λS' σ hk he=>hp.norm S' σ hk he,λid' S' σ hb' hk he=> ?_,λl S' σ hk he=> ?_,λv σ hk he=>hp.ret v σ hk he⟩)
   ·simp only[yq]
    split at hk
    ·rename_i e;rw[aep e];exact hp.norm S' σ hk he
    ·rename_i e;rw[aeo e];exact hp.exit id' S' σ hb' hk he
   ·simp only[yq]
    rw[aeo (λe=>by rw[<-e,sc]at hb;cases hb)]at hk
    exact hp.jump l S' σ hk he
  ·cases h
 |cond c x y ihx ihy=>
  intro A S kn ke kr r Q hl h hp
  obtain⟨hlx,hly⟩:=hl
  simp only[ex]at h
  split at h
  ·rename_i t
   split at h
   ·rename_i b hb
    have hev:ev (a_ V S) (.tmp t)= .d (.v (.bool b)):=by
     rw[aI]
     simp only[tev,TS.get,hb,abZ,aL,bC]
    have hset:∀b',b=b'->Ent (a_ V S) (a_ V (setB S t b')):=λb' e C E M a w hs=>⟨E,M,s_ (by rw[hb,e]) hs⟩
    cases b with
    |true=>
     rw[aep rfl]at h
     exact .cond hev (λ_=> .ent (hset true rfl) (ihx A _ kn ke kr r Q hlx h hp)) (λe=>by cases e)
    |false=>
     rw[aeo (by simp)]at h
     exact .cond hev (λe=>by cases e) (λ_=> .ent (hset false rfl) (ihy A _ kn ke kr r Q hly h hp))
   ·cases h
  ·rename_i b
   have hev:ev (a_ V S) (.const (.bool b))= .d (.v (.bool b)):=rfl
   cases b with
   |true=>exact .cond hev (λ_=>ihx A _ kn ke kr r Q hlx h hp) (λe=>by cases e)
   |false=>exact .cond hev (λe=>by cases e) (λ_=>ihy A _ kn ke kr r Q hly h hp)
  ·cases h
 |region id ops draw=>
  intro A S kn ke kr r Q _ h hp
  have key:∀{B:Type} (k:TS V.N->Option B) (s:B),Rx X id ops draw S k=some s->(∀S' σ,k S'=some s->Ent σ (a_ V S')->Q .normal σ)->AWp C (.region id ops draw) (a_ V S) Q:=by
   intro B k s hr hq
   cases draw with
   |false=>
    simp only[Rx]at hr
    rw[<-hP,<-hn.1]at hr
    intro E M a w hs
    refine wp_region ?_
    have:=p9 (C:=C) (ops:=ops) (Q:=λe a' w'=>∃S' E' M',Q e S'/\Sim C E' M' S' a' w') (hP▸hcall) hn.2 ops.toList 0 S k E M a w (by simp) hr hs
     λS' E' M' a' w' hk hs'=>⟨_,E',M',hq S' _ hk (Ent.refl _),hs'⟩
    have e:(ab6 ops.toList.length).map (0+ ·)=ab6 ops.size:=by simp
    rw[e]at this
    exact this
   |true=>
    simp only[Rx]at hr
    have one:∀(ops:Array Oper),Uy X ops S k=some s->jH C.P C.wr X.nm ops.toList ops.toList (a_ V S) [] (λS' tr=>yp ops.toList tr=true/\Q .normal S'):=by
     intro ops hr
     simp only[Uy]at hr
     rw[hP]
     have h2:=pZ (W:=C.wr) hcall (λo ho=>sk hn.2 (by rw[hn.1];exact ho)) ops.toList S (a_ V S) [] _ hr (Rl.refl S)
     refine jl (λσ' tr' ⟨S',hrl,hk⟩=> ?_) h2
     split at hk
     ·rename_i hd;exact⟨hd,hq S' σ' hk hrl.ent⟩
     ·cases hk
    have tree:∀(t:PT) (ops:Array Oper),Rw X S k t ops=some s->PT.ok C X.nm (a_ V S) (Q .normal) t ops:=by
     intro t
     induction t with
     |leaf=>intro ops hr;exact one ops hr
     |node i j ta tb iha ihb=>
      intro ops hr
      simp only[Rw]at hr
      split at hr
      ·rename_i hf
       obtain⟨h1,h2⟩:=Cs hr
       simp only[zh,aaT,adj,acq]at hf
       obtain⟨⟨f1,f2⟩,f3⟩:=hf
       exact⟨⟨(λe=>by rw[e,acF]at f1;cases f1),f2,f3⟩,iha _ h1,ihb _ h2⟩
      ·cases hr
    exact .drawT X.nm (X.pair id) (by rw[hP];exact hm) (tree _ _ hr)
  simp only[ex]at h
  split at h
  ·exact key kn r h λS' σ hk he=>hp.norm S' σ hk he
  ·rename_i cut _
   obtain⟨v,h1,h2⟩:=ci h
   exact key _ v h1 λS' σ hk he=>hp.norm _ σ h2 (Ent.trans he (eY hk))
 |scope x ih=>
  intro A S kn ke kr r Q hl h hp
  simp only[ex]at h
  split at h
  ·exact Cq (ih A S kn _ kr r _ hl.1 h ⟨λS' σ hk he=>hp.norm S' σ hk he,λid' S' σ hb hk he=>hp.exit id' S' σ hb (gb hk).2 he,λl S' σ hk he=>(j4 hk).elim,λv σ hk he=>hp.ret v σ hk he⟩)
  ·rename_i l la hj
   obtain⟨rest,hf,hok⟩:=hl.2 l la hj
   refine nY hf (ih A S kn _ kr r _ hl.1 h ⟨λS' σ hk he=>hp.norm S' σ hk he,λid' S' σ hb hk he=> ?_,λl' S' σ hk he=> ?_,λv σ hk he=>hp.ret v σ hk he⟩)
   ·split at hk
    ·rename_i e
     have:=abw e
     rw[this,sc]at hb;cases hb
    ·exact hp.exit id' S' σ hb (gb hk).2 he
   ·split at hk
    ·rename_i e
     have e:=abw e
     refine⟨by omega,?_⟩
     split at hk
     ·cases hk
     ·rename_i v hv
      obtain⟨out,h1,h2⟩:=ci hk
      refine .ent (Ent.trans he (eY hv)) ((hok v out h1).mono λe σ hq=> ?_)
      unfold xZ at hq
      split at hq
      ·obtain⟨hb,w,hw1,hw2⟩:=hq
       rw[dY hw1]at h2
       exact hp.exit _ _ σ hb h2 hw2
      ·obtain⟨w,hw1,hw2⟩:=hq
       rw[dY hw1]at h2
       exact hp.ret w σ h2 hw2
      ·exact hq.elim
    ·exact(j4 hk).elim
 |loop b ih=>
  intro A S kn ke kr r Q hl h hp
  simp only[ex]at h
  split at h
  ·cases h
  ·rename_i la hla
   split at h
   ·cases h
   ·rename_i v hv
    obtain⟨out,h1,h2⟩:=ci h
    refine .ent (eY hv) ((qf.loop (hl la hla v out h1)).mono λe σ hq=> ?_)
    unfold xZ at hq
    split at hq
    ·obtain⟨hb,w,hw1,hw2⟩:=hq
     rw[dY hw1]at h2
     exact hp.exit _ _ σ hb h2 hw2
    ·obtain⟨w,hw1,hw2⟩:=hq
     rw[dY hw1]at h2
     exact hp.ret w σ h2 hw2
    ·exact hq.elim
 |_=>intro A S kn ke kr r Q _ h hp;simp only[ex]at h;cases h
theorem gM{C:Ctx}{X:Xc V}(hP:C.P=X.P)(hn:C.N=X.n/\Fx C X.pre)(hm:X.P.follows .mixedOrders=true)(hcall:bH X.P X.call){b:Code}(hl:LOk C X b){cut:Cut V.ι}{alts:List Alt}
 {F:HL V.N cut.tys->Option (nU (c_ X.sh []) alts)}(ih:∀v out,F v=some out->qf C b (a_ V (fk V cut v)) (xZ X.sh alts out)){v:HL V.N cut.tys}{out:nU (c_ X.sh []) alts}
 (h:exL X b cut alts F v=some out):qf C b (a_ V (fk V cut v)) (xZ X.sh alts out):=by
 refine qf.round (yu hP hn hm hcall b _ _ _ _ _ out _ hl h ⟨λS' σ hk he=> ?_,λid S' σ hb hk he=> ?_,λl S' σ hk he=>(j4 hk).elim,λv σ hk he=> ?_⟩)
 ·split at hk
  ·rename_i w hw;exact .ent (Ent.trans he (eY hw)) (ih w out hk)
  ·cases hk
 ·have hk:=(gb hk).2
  split at hk
  ·rename_i w hw;exact⟨hb,w,hk,Ent.trans he (eY hw)⟩
  ·cases hk
 ·exact⟨v,hk,he⟩
end
end Go.Tx
end
section
namespace Go.Tx
open Go.Awp
variable [Inhabited GMem]
def KW(P:Program)(rs:List ResultVar)(r:H)(own':List (Nat×Own))(e:Exit)(S:aC):Prop:=
 (e= .normal\/e= .ret)/\∃S',Ent S S'/\∃h,Ry P S' rs=some h/\H.le h r/\∀n o,gt own' n=some o->S'.own? n=some o
theorem AC{P:Program}{f:FuncId}{fn:Func}{c:Code}{args:List H}{own own':List (Nat×Own)}{r:H}(hf:P.funcs[f]?=some fn)(hb:fn.body=some c)
 (hname:(fn.name != "runtime.NumGoroutine")=true)(hn:args.length<=fn.ntmps)
 (h:∀C:Ctx,C.P=P->C.N=fn.ntmps/\C.fix=[]->AWp C c ⟨lm 0 args,vm own⟩ (KW P fn.results.toList r own')):l_ P f args own r own':=by
 refine⟨by simp[jn,hf,hb,hname],λE M w vs hgm hm how hvs=> ?_⟩
 refine calls_of_wp hf hb ?_
 let C:Ctx:=⟨P,fn.ntmps,w,M,E,m9 E w own,hgm,λb ⟨n,o,hn,hb⟩=>((how.ok n o hn).block hb).2,[],[]⟩
 have hs:Sim C E M ⟨lm 0 args,vm own⟩ {tmps:=vs++acD (fn.ntmps-vs.size) undef,defers:=[]} w:=by
  have hvs1:=hvs.1
  refine{size:=by simp[C];omega,defers:=rfl,fixed:=λp hp=>(by cases hp),tmps:=λt x hx=> ?_,mem:=hm,own:=λn o ho=> ?_,apart:=λn m o o' b hne ho ho'=> ?_,home:=λn o b ho hb=> ?_,m0:=Mem.le_refl M,mnew:=λb o v hv=> .inl hv,frame:=λ_ _ _=>rfl,grows:=abe _,os:=rfl,tape:=rfl,output:=rfl,env:=λ_ _=>rfl}
  ·obtain⟨_,h2⟩:=ug args 0 t x hx
   simp only[abv]at h2
   have hlt:t<vs.size:=by have:=(aaP.1 h2).1;omega
   exact⟨vs[t],by simp[acO hlt,hlt],hvs.2 t _ x (abc hlt) h2⟩
  ·have ho':gt own n=some o:=by rw[<-gJ];exact ho
   exact how.ok n o ho'
  ·have h1:gt own n=some o:=by rw[<-gJ];exact ho
   have h2:gt own m=some o':=by rw[<-gJ];exact ho'
   exact how.apart n m o o' b hne h1 h2
  ·have h1:gt own n=some o:=by rw[<-gJ];exact ho
   exact .inl ⟨n,o,h1,hb⟩
 refine wp_mono (h C rfl ⟨rfl,rfl⟩ E M _ w hs) ?_
 rintro e a' w' ⟨S',E',M',⟨he,S'',hent,hh,hres,hle,hown⟩,hs'⟩
 obtain⟨E2,M2,hs2⟩:=hent C E' M' a' w' hs'
 obtain⟨v,hrun,hrep⟩:=JM (C:=C) hs2 hres
 have hpost:xX E M own w v r own' E2 M2 w':=
  {rep:=hle _ _ _ hrep,owns:=⟨λn o ho=>hs2.own n o (hown n o ho),λn m o o' b hne h1 h2=>hs2.apart n m o o' b hne (hown n o h1) (hown m o' h2)⟩,mle:=hs2.m0,mem:=hs2.mem,mnew:=hs2.mnew,home:=λn o b ho hb=>hs2.home n o b (hown n o ho) hb,frame:=hs2.frame,grows:=hs2.grows,os:=hs2.os,tape:=hs2.tape,output:=hs2.output,env:=hs2.env}
 rcases he with rfl|rfl
 ·exact⟨hs2.defers,v,hrun,v,E2,M2,rfl,hpost⟩
 ·exact⟨hs2.defers,v,hrun,v,E2,M2,rfl,hpost⟩
section
variable (V:iF)
structure Sig where
 params:List (Pt V.ι)
 objs:List (Nat×OPt V.ι):=[]
 rcut:Cut V.ι
 rvars:List ResultVar
 keep:List Nat:=[]
variable {V}
def Sig.tys(sig:Sig V):List (Ty V.ι):=Fz sig.params++E_ sig.objs
def Hq{α:Type}:Nat->List α->List (Nat×α)
 |_,[]=>[]
 |i,x::r=>(i,x)::Hq (i+1) r
def d7(sig:Sig V)(v:HL V.N sig.tys):List (TV V.N)×List (Nat×TO V.N):=match bdL V sig.params (Rr sig.tys v)with
 |some (xs,ls)=>match bdO V sig.objs ls with
  |some os=>(xs,os)
  |none=>([],[])
 |none=>([],[])
def cE(sig:Sig V)(v:HL V.N sig.tys):TS V.N:={tmps:=Hq 0 (d7 sig v).1,own:=(d7 sig v).2}
def OK(P:Program)(S:TS V.N):ResultVar->Option (TV V.N)
 | .tmp t=>gt S.tmps t
 | .cell a t=>match gt S.tmps a with
  |some (.bp n off)=>match cW P t with
   |some (ag,sz)=>match zM V ag off sz (V.ty t) (S.own? n)with
    |some v=>some v
    |none=>match GZ V (S.own? n)with
     |some cells=>AJ V false ag sz (V.ty t) (cells.drop off)
     |none=>none
   |none=>none
  |_=>none
def FG(P:Program)(S:TS V.N):List ResultVar->Option (List (TV V.N))
 |[]=>some []
 |x::r=>match OK P S x,FG P S r with
  |some h,some l=>some (h::l)
  |_,_=>none
def Ut:List (TV V.N)->TV V.N
 |[x]=>x
 |l=> .tup l
def GO(P:Program)(sig:Sig V)(r:HL V.N sig.rcut.tys):Option (TV V.N):=(FG P (fk V sig.rcut r) sig.rvars).map Ut
def eP(ω:Nat->Nat)(os:List (Nat×TO V.N)):List (Nat×Own):=os.filterMap λp=>(ct V ω p.2).map λo=>(p.1,o)
def ql(sig:Sig V)(r:HL V.N sig.rcut.tys):List (Nat×TO V.N):=(fk V sig.rcut r).own.filter λp=>sig.keep.contains p.1
def aM(P:Program)(fid:FuncId)(sig:Sig V)(F:HL V.N sig.tys->Option (HL V.N sig.rcut.tys)):Prop:=
 ∀v r x,F v=some r->GO P sig r=some x->
  l_ P fid (encL V (cE sig v).len (d7 sig v).1) (eP (cE sig v).len (cE sig v).own) (aL V (fk V sig.rcut r).len x) (eP (fk V sig.rcut r).len (ql sig r))
noncomputable def exF(X:Xc V)(sig:Sig V)(h:X.sh.rcut=sig.rcut)(c:Code)(v:HL V.N sig.tys):Option (HL V.N sig.rcut.tys):=
 ex X c _ (cE sig v) (λS=>DA V sig.rcut S) (λ_ _=>none) (λr=>some (h▸r))
theorem fa{α β:Type}{f:α->Option β}:∀{l:List (Nat×α)} {n:Nat} {y:β},gt (l.filterMap λp=>(f p.2).map λo=>(p.1,o)) n=some y->∃x,(n,x)∈l/\f x=some y
 |[],n,y,h=>by simp[gt]at h
 |(k,x)::r,n,y,h=>by
  rw[acE]at h
  cases hx:f x with
  |none=>
   simp only[hx,acX]at h
   obtain⟨z,h1,h2⟩:=fa h
   exact⟨z,aaX _ h1,h2⟩
  |some z=>
   simp only[hx,abf,aH]at h
   by_cases hk:k=n
   ·rw[aep hk]at h;cases h;subst hk;exact⟨x,aa2,hx⟩
   ·rw[aeo hk]at h
    obtain⟨w,h1,h2⟩:=fa h
    exact⟨w,aaX _ h1,h2⟩
def eD:List Nat->Bool
 |[]=>true
 |x::r=> !r.contains x&&eD r
theorem oM{α:Type}:∀{l:List (Nat×α)} {n:Nat} {x:α},eD (l.map (·.1))=true->(n,x)∈l->gt l n=some x
 |[],n,x,_,h=>by cases h
 |(k,y)::r,n,x,hd,h=>by
  simp only[aaY,eD,aaT]at hd
  rw[aH]
  rcases aa4.1 h with he|h
  ·simp only[abn]at he
   obtain⟨rfl,rfl⟩:=he
   rw[aep rfl]
  ·have:k≠n:=by
    intro e;subst e
    have h1:=hd.1
    have:k∈r.map (·.1):=abu h
    simp at h1
    simp at this
    exact h1 _ this.choose_spec
   rw[aeo this]
   exact oM hd.2 h
theorem rq{P:Program}{S:TS V.N}:∀{rs:List ResultVar} {vs:List (TV V.N)},FG P S rs=some vs->
 ∃hs,jg P (a_ V S) rs=some hs/\hs.length=vs.length/\∀(i:Nat) (v:TV V.N),vs[i]?=some v->∃h,hs[i]?=some h/\H.le h (aL V S.len v)
 |[],vs,h=>by simp[FG]at h;subst h;exact⟨[],rfl,rfl,λi v hv=>by simp at hv⟩
 |x::r,vs,h=>by
  simp only[FG]at h
  split at h
  ·rename_i v l h1 h2
   simp at h;subst h
   obtain⟨hs,g1,g2,g3⟩:=rq h2
   have:∃y,pH P (a_ V S) x=some y/\H.le y (aL V S.len v):=by
    cases x with
    |tmp t=>
     simp only[OK]at h1
     refine⟨(a_ V S).get t,rfl,?_⟩
     unfold aC.get
     rw[db,h1]
     exact H.le.refl _
    |cell a t=>
     simp only[OK]at h1
     split at h1
     ·rename_i n off hn
      have hg:(a_ V S).get a= .bp n off:=by
       unfold aC.get
       rw[db,hn];simp[aL]
      split at h1
      ·rename_i ag sz ht
       split at h1
       ·rename_i w hw
        simp only[aaN]at h1;subst h1
        unfold zM at hw
        split at hw
        ·rename_i i y hnn
         have hw':=aG hw;clear hw
         obtain⟨⟨e1,e2,e3,hot⟩,hw⟩:=hw'
         subst e1;subst e2;subst e3
         simp only[aaN]at hw;subst hw
         have hb:GZ V (S.own? n)=some ((V.cells i y).map λl=> .lf l.t l.x):=by rw[hnn];rfl
         have hl:(V.enc i y).length=V.sz i:=by rw[V.enc_cells,aaS,V.len_cells]
         refine⟨aL V S.len (.lf (.st i) y),?_,H.le.refl _⟩
         simp only[pH,hg,ij hb,ht,jR,fw,aa8,jV,aaS]
         rw[aep (by omega),abt (by rw[aaS];omega),cR,dX]
        ·rename_i m e xs hnn
         have hw':=aG hw;clear hw
         obtain⟨⟨e1,e2,e3,hot⟩,hw⟩:=hw'
         subst e1;subst e2;subst e3
         simp only[aaN]at hw;subst hw
         have ho1:=pq hnn
         have hl:=cD (V:=V) (.ar m e) xs
         refine⟨aL V S.len (.lf (.ar m e) xs),?_,H.le.refl _⟩
         simp only[pH,hg,ho1,ht,fw,aa8,K2,aaS]
         rw[aep (by omega),abt (by rw[aaS];omega),cR,dX]
        ·cases hw
       ·split at h1
        ·rename_i cells hc
         obtain⟨y,k1,k2,_⟩:=j1 (ω:=S.len) h1
         rw[iL]at k1
         refine⟨y,?_,k2⟩
         simp only[pH,hg,ij hc,ht,k1]
        ·cases h1
      ·cases h1
     ·cases h1
   obtain⟨y,y1,y2⟩:=this
   refine⟨y::hs,by simp only[jg,y1,g1],by simp[g2],λi w hw=> ?_⟩
   cases i with
   |zero=>simp at hw;subst hw;exact⟨y,rfl,y2⟩
   |succ i=>obtain⟨z,z1,z2⟩:=g3 i w (by simpa using hw);exact⟨z,by simpa using z1,z2⟩
  ·cases h
theorem pW{ω:Nat->Nat}:∀(l:List (TV V.N)) (i:Nat),lm i (encL V ω l)=(Hq i l).map λp=>(p.1,aL V ω p.2)
 |[],i=>rfl
 |x::r,i=>by simp[encL,lm,Hq,pW r (i+1)]
theorem Cr:∀{ps:List (Pt V.ι)} {ls ls':List (dW V.N)} {xs:List (TV V.N)},bdL V ps ls=some (xs,ls')->xs.length=ps.length
 |[],ls,ls',xs,h=>by simp[bdL]at h;rw[h.1];rfl
 |p::r,ls,ls',xs,h=>by
  simp only[bdL]at h
  split at h
  ·rename_i x l1 h1
   split at h
   ·rename_i ys l2 h2
    simp at h
    rw[<-h.1]
    simp[Cr h2]
   ·cases h
  ·cases h
theorem d8:∀{objs:List (Nat×OPt V.ι)} {ls:List (dW V.N)} {os:List (Nat×TO V.N)},bdO V objs ls=some os->os.map (·.1)=objs.map (·.1)
 |[],[],os,h=>by simp[bdO]at h;subst h;rfl
 |[],_::_,os,h=>by simp[bdO]at h
 |(c, .box oty ps)::r,ls,os,h=>by
  simp only[bdO]at h
  split at h
  ·split at h
   ·rename_i os' h2
    simp at h;subst h
    simp[d8 h2]
   ·cases h
  ·cases h
 |(c, .st i)::r,[],os,h=>by simp[bdO]at h
 |(c, .vec te e)::r,[],os,h=>by simp[bdO]at h
 |(c, .st i)::r,⟨t,x⟩::ls,os,h=>by
  cases t<;>simp only[bdO]at h<;>first
   |(cases h;done)
   |(split at h
     ·split at h
      ·rename_i os' h2
       simp at h;subst h
       simp[d8 h2]
      ·cases h
     ·cases h)
 |(c, .vec te e)::r,⟨t,x⟩::ls,os,h=>by
  cases t<;>simp only[bdO]at h<;>first
   |(cases h;done)
   |(split at h
     ·split at h
      ·rename_i os' h2
       simp at h;subst h
       simp[d8 h2]
      ·cases h
     ·cases h)
 |(c, .que te e)::r,[],os,h=>by simp[bdO]at h
 |(c, .que te e)::r,⟨t,x⟩::ls,os,h=>by
  cases t<;>simp only[bdO]at h<;>first
   |(cases h;done)
   |(split at h
     ·split at h
      ·rename_i os' h2
       simp at h;subst h
       simp[d8 h2]
      ·cases h
     ·cases h)
 |(c, .bar m e)::r,[],os,h=>by simp[bdO]at h
 |(c, .bar m e)::r,⟨t,x⟩::ls,os,h=>by
  cases t<;>simp only[bdO]at h<;>first
   |(cases h;done)
   |(split at h
     ·split at h
      ·rename_i os' h2
       simp at h;subst h
       simp[d8 h2]
      ·cases h
     ·cases h)
 |(c, .maps te tk tv)::r,[],os,h=>by simp[bdO]at h
 |(c, .maps te tk tv)::r,⟨t,x⟩::ls,os,h=>by
  cases t<;>first
   |(simp[bdO]at h;done)
   |(rename_i t2;cases t2<;>first
    |(simp[bdO]at h;done)
    |(rename_i t3;cases t3<;>first
     |(simp[bdO]at h;done)
     |(simp only[bdO]at h
       split at h
       ·split at h
        ·rename_i os' h2
         simp at h;subst h
         simp[d8 h2]
        ·cases h
       ·cases h)))
 |(c, .iter)::r,[],os,h=>by simp[bdO]at h
 |(c, .iter)::r,[⟨t,x⟩],os,h=>by
  cases t<;>simp[bdO]at h
 |(c, .iter)::r,⟨t,x⟩::⟨t2,x2⟩::ls,os,h=>by
  cases t<;>first
   |(simp[bdO]at h;done)
   |(cases t2<;>first
    |(simp[bdO]at h;done)
    |(rename_i ki;cases ki<;>first
     |(simp[bdO]at h;done)
     |(simp only[bdO]at h
       split at h
       ·rename_i os' h2
        simp at h;subst h
        simp[d8 h2]
       ·cases h)))
 |(c, .miter cm k v)::r,[],os,h=>by simp[bdO]at h
 |(c, .miter cm k v)::r,[⟨t,x⟩],os,h=>by
  cases t<;>simp[bdO]at h
 |(c, .miter cm k v)::r,⟨t,x⟩::⟨t2,x2⟩::ls,os,h=>by
  cases t<;>first
   |(simp[bdO]at h;done)
   |(cases t2<;>first
    |(simp[bdO]at h;done)
    |(simp only[bdO]at h
      split at h
      ·split at h
       ·rename_i os' h2
        simp at h;subst h
        simp[d8 h2]
       ·cases h
      ·cases h))
 |(c, .map tk tv)::r,[],os,h=>by simp[bdO]at h
 |(c, .map tk tv)::r,⟨t,x⟩::ls,os,h=>by
  cases t<;>simp only[bdO]at h<;>first
   |(cases h;done)
   |(split at h
     ·split at h
      ·rename_i os' h2
       simp at h;subst h
       simp[d8 h2]
      ·cases h
     ·cases h)
theorem vU(c:Cut V.ι)(ls:List (dW V.N))(h:eD (c.objs.map (·.1))=true):eD ((build V c ls).own.map (·.1))=true:=by
 unfold build
 split
 ·split
  ·rename_i os ho
   simp only
   rw[d8 ho];exact h
  ·rfl
 ·rfl
theorem nv{ω:Nat->Nat}:∀{os:List (Nat×TO V.N)} {n:Nat} {x:TO V.N} {o:Own},gt os n=some x->ct V ω x=some o->gt (eP ω os) n=some o
 |[],n,x,o,h,_=>by simp[gt]at h
 |(k,y)::r,n,x,o,h,ho=>by
  rw[aH]at h
  unfold eP
  rw[acE]
  by_cases hk:k=n
  ·rw[aep hk]at h;cases h
   simp only[ho,abf,aH]
   rw[aep hk]
  ·rw[aeo hk]at h
   have ih:=nv (ω:=ω) h ho
   unfold eP at ih
   cases hy:ct V ω y with
   |none=>simp only[hy,acX];exact ih
   |some z=>
    simp only[hy,abf,aH]
    rw[aeo hk];exact ih
theorem AD{X:Xc V}{sig:Sig V}(hsh:X.sh.rcut=sig.rcut){fid:FuncId}{fn:Func}{c:Code}(hf:X.P.funcs[fid]?=some fn)(hb:fn.body=some c)(hn:fn.ntmps=X.n)(hrs:fn.results.toList=sig.rvars)
 (hname:(fn.name != "runtime.NumGoroutine")=true)(hlen:acW sig.params.length X.n=true)(hm:X.P.follows .mixedOrders=true)(hcall:bH X.P X.call)
 (hdr:eD (sig.rcut.objs.map (·.1))=true)(hl:∀C:Ctx,C.P=X.P->C.N=X.n/\Fx C X.pre->LOk C X c){v:HL V.N sig.tys}{r:HL V.N sig.rcut.tys}(h:exF X sig hsh c v=some r):
 ∀x,GO X.P sig r=some x->
  l_ X.P fid (encL V (cE sig v).len (d7 sig v).1) (eP (cE sig v).len (cE sig v).own) (aL V (fk V sig.rcut r).len x) (eP (fk V sig.rcut r).len (ql sig r)):=by
 obtain⟨params,objs,rcut,rvars,keep⟩:=sig
 simp only at hsh
 subst hsh
 intro x hx
 have hargs:(d7 ⟨params,objs,X.sh.rcut,rvars,keep⟩ v).1.length<=X.n:=by
  have hp:params.length<=X.n:=acH hlen
  unfold d7
  split
  ·rename_i xs ls h1
   split
   ·simp only;rw[Cr h1];exact hp
   ·simp
  ·simp
 refine AC hf hb hname (by rw[bF,hn];exact hargs) λC hP hN=> ?_
 have hent:Ent ⟨lm 0 (encL V (cE ⟨params,objs,X.sh.rcut,rvars,keep⟩ v).len (d7 ⟨params,objs,X.sh.rcut,rvars,keep⟩ v).1),vm (eP (cE ⟨params,objs,X.sh.rcut,rvars,keep⟩ v).len (cE ⟨params,objs,X.sh.rcut,rvars,keep⟩ v).own)⟩
  (a_ V (cE ⟨params,objs,X.sh.rcut,rvars,keep⟩ v)):=by
  refine Ent.le (λt y hy=>⟨y,?_,H.le.refl _⟩) λn o ho=>⟨o,?_,OLe.refl _⟩
  ·rw[pW];exact hy
  ·rw[bL,acr]at ho
   obtain⟨o',ho',hoo⟩:=ho
   have:=nv (os:=(cE ⟨params,objs,X.sh.rcut,rvars,keep⟩ v).own) ho' hoo
   unfold aC.own?
   rw[gJ]
   exact this
 have hend:∀e σ,(e= .normal\/e= .ret)->Ent σ (a_ V (fk V X.sh.rcut r))->
  KW X.P fn.results.toList (aL V (fk V X.sh.rcut r).len x) (eP (fk V X.sh.rcut r).len (ql ⟨params,objs,X.sh.rcut,rvars,keep⟩ r)) e σ:=by
  intro e σ he hσ
  unfold GO at hx
  rw[aa0]at hx
  obtain⟨vs,hvs,hone⟩:=hx
  obtain⟨hs,g1,g2,g3⟩:=rq hvs
  have hh:∃y,Ry X.P (a_ V (fk V X.sh.rcut r)) fn.results.toList=some y/\H.le y (aL V (fk V X.sh.rcut r).len x):=by
   rw[hrs]
   unfold Ry
   rw[g1]
   cases vs with
   |nil=>
    have:hs=[]:=abl (by simpa using g2)
    subst this;subst hone
    exact⟨.tup [],rfl,by simp only[Ut,aL,encL];exact H.le.refl _⟩
   |cons a l=>
    cases l with
    |nil=>
     cases hs with
     |nil=>simp at g2
     |cons y l'=>
      have:l'=[]:=abl (by simpa using g2)
      subst this;subst hone
      obtain⟨z,z1,z2⟩:=g3 0 a rfl
      simp at z1;subst z1
      exact⟨y,rfl,z2⟩
    |cons b l=>
     cases hs with
     |nil=>simp at g2
     |cons y l'=>
      cases l' with
      |nil=>simp at g2
      |cons y2 l2=>
       subst hone
       refine⟨.tup (y::y2::l2),rfl,?_⟩
       simp only[Ut,aL]
       refine Gx (by rw[bF];exact g2) λi w hw=> ?_
       rw[aU,aaR,aa0]at hw
       obtain⟨u,hu,rfl⟩:=hw
       exact g3 i u hu
  obtain⟨y,hy1,hy2⟩:=hh
  refine⟨he,_,hσ,y,hy1,hy2,λn o ho=> ?_⟩
  obtain⟨o',h1,h2⟩:=fa ho
  have h1:(n,o')∈(fk V X.sh.rcut r).own:=(ada.1 h1).1
  have:=oM (vU X.sh.rcut _ hdr) h1
  rw[bL]
  unfold TS.own?
  unfold fk at *
  rw[this]
  exact h2
 refine .ent hent (yu hP ⟨by rw[hN.1,hn],λp hp=>(by rw[hN.2]at hp;cases hp)⟩ hm hcall c _ _ _ _ _ r _ (hl C hP ⟨by rw[hN.1,hn],λp hp=>(by rw[hN.2]at hp;cases hp)⟩) h ⟨λS σ hk he=> ?_,λid S σ _ hk he=>(by cases hk),λl S σ hk he=>(by cases hk),λw σ hk he=> ?_⟩)
 ·exact hend _ σ (.inl rfl) (Ent.trans he (eY hk))
 ·have:w=r:=by simpa using hk
  subst this
  exact hend _ σ (.inr rfl) he
end
end Go.Tx
end
