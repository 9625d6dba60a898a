/-
  Texts of this claim, joined by a program of mine: what the theorem uses.
-/
import Derived.Test.YtcghbgmmgcljkaaGreatDoorPkD
import Derived.Scope
open Array renaming getElem?_append_left→ab2,getElem?_eq_getElem→aar,replicate→abR,toList_inj→acm
open Bool renaming and_eq_true→Z8,false_eq_true→Z0,not_eq_true'→acx,not_false→aaZ,not_true→aax
open Function renaming comp_apply→abH
open Int renaming toNat→aaq
open List renaming all_cons→abe,all_eq_true→aaf,all_map→abU,append_assoc→abj,append_nil→abY,cons_append→aaU,drop_append→ac1,drop_drop→abA,drop_eq_nil_of_le→abt,drop_of_length_le→ac7,drop_zero→aap,eq_nil_of_length_eq_zero→aaA,eraseIdx_cons_succ→ac4,ext_getElem?→abp,filterMap_cons→abS,flatten_cons→abo,getElem?_append→adg,getElem?_cons_zero→aa4,getElem?_drop→aaw,getElem?_eq_some_iff→Z4,getElem?_map→Z6,getElem?_range→abl,getElem?_replicate→acv,getElem?_set→aa_,getElem?_take→aal,length→acn,length_append→aas,length_cons→aaa,length_drop→aaE,length_map→Z7,length_nil→acH,length_replicate→aaP,length_set→aaR,length_take→aaM,map→acl,map_append→aaV,map_congr_left→aay,map_cons→aac,map_drop→aa7,map_map→aaF,map_nil→aaT,map_replicate→abN,map_set→abD,map_take→aa6,mem_append_left→abf,mem_append_right→abM,mem_cons→aai,mem_cons_of_mem→aab,mem_cons_self→aag,mem_filter→acp,mem_map→aav,mem_map_of_mem→aaJ,mem_of_mem_take→aa2,mem_replicate→acN,nil_append→aad,range→abk,replicate→aak,take_append→acY,take_append_drop→adb,take_append_of_le_length→abC,take_of_length_le→aaI,take_take→ada,take_zero→acj
open List.cons renaming injEq→aaS
open Nat renaming add_sub_cancel→acM,add_zero→aba,beq→aaX,beq_refl→abT,ble→ab_,blt→abw,blt_eq→abE,div_add_mod→acd,eq_of_beq_eq_true→aaL,le_of_ble_eq_true→abV,le_refl→aat,min_eq_left→abx,mul_comm→abJ,mul_le_mul→ac_,mul_le_mul_right→aam,sub_zero→aaK,succ_mul→aaH,zero_add→Z9
open Ne renaming symm→abm
open Option renaming bind_eq_some_iff→abF,bind_some→ZY,getD_some→abc,isSome_iff_exists→acr,isSome_map→acT,map_eq_some_iff→aae,map_none→aca,map_some→aau
open Option.some renaming injEq→Z2
open Prod.mk renaming injEq→aaC
noncomputable section
set_option linter.unusedSectionVars false
set_option linter.unusedSimpArgs false
section
namespace Go.Tx
open Go.Awp
variable [Inhabited GMem]
section
variable (V:iE)
variable (P:Program) (nm:Nat->Nat)
def Hc(S:TS V.N)(ns:List Nat):List (Nat×TO V.N):=ns.map λm=>(m, .gone (S.len m))
def OA{A:Type}(t:TypeId)(x:Operand)(lo hi mx:Option Operand)(S:TS V.N)(k:TE V.N->Option A):Option A:=match mx,cK P t,tev S x with
 |none,some (_,sz,_), .vh n=>match S.own? n with
  |some (.vec _ e xs)=>match KP V S lo 0,KP V S hi xs.length with
   |some l,some h=>if sz=tsz V.sz e then if 0<=l/\l<=h/\h<=xs.length then k {val:= .sv n sz l.toNat (h.toNat-l.toNat),acc:=[n]}else none else none
   |_,_=>none
  |_=>none
 |_,_,_=>none
def Qs(pre:Nat->Bool)(o:Oper)(S:TS V.N):Bool:=match o.op with
 | .slice _ _ _ _ _=>match o.dst with
  |some d=>pre (3000000+d)
  |none=>false
 |_=>false
def OC{A:Type}(o:Oper)(S:TS V.N)(k:TE V.N->Option A):Option A:=match o.op with
 | .slice t x lo hi mx=>OA V P t x lo hi mx S k
 |_=>none
end
section
variable {V:iE}
theorem DE{S:TS V.N}{ns:List Nat}{m:Nat}{o:TO V.N}(h:gt (Hc V S ns) m=some o):TO.len (some o)=S.len m:=by
 obtain⟨k,_,hk⟩:=aav.1 (cV h)
 simp only[aaC]at hk
 obtain⟨rfl,rfl⟩:=hk
 rfl
theorem DD(ω:Nat->Nat)(S:TS V.N)(ns:List Nat):(Hc V S ns).map (λp=>(p.1,cp V ω p.2))=ns.map λn=>(n,none):=by
 unfold Hc
 rw[aaF]
 rfl
section
variable {P:Program} {nm:Nat->Nat} {o:Oper} {S:TS V.N} {A:Type} {k:TE V.N->Option A} {r:A}
def OpD(P:Program)(nm:Nat->Nat)(o:Oper)(S:TS V.N)(k:TE V.N->Option A)(r:A):Prop:=
 ∃te,k te=some r/\good S te/\∃e',Gz P nm o (Go.Awp.ev (a_ V S)) (a_ V S).own? e'/\ELe true e' (gA (S.app o.dst te).len te)
theorem OB{t:TypeId}{x:Operand}{lo hi mx:Option Operand}(ho:o.op= .slice t x lo hi mx)(h:OA V P t x lo hi mx S k=some r):OpD P nm o S k r:=by
 unfold OA at h
 split at h
 ·rename_i te sz by_ n ht hx
  split at h
  ·rename_i te1 e xs hn
   split at h
   ·rename_i l u hl hu
    have h':=aG h;clear h
    obtain⟨hse,h⟩:=h'
    have h':=aG h;clear h
    obtain⟨⟨h0,h1,h2⟩,h⟩:=h'
    have hlen:S.len n=xs.length:=by unfold TS.len;rw[hn];rfl
    exact⟨_,h,jr S _ _,_, .cut (rows:=xs.map λx=>bY V.sz V.enc e x) (e:=te1) ho ht (by rw[aI,hx];simp only[aL];rw[hlen,Z7]) (by rw[dI hn,hse]) (gE hl) (by rw[Z7];exact gE hu) h0 h1 (by rw[Z7];exact h2),tL rfl⟩
   ·cases h
  ·cases h
 ·cases h
theorem xB(_:∀te,k te=some r->∀d∈te.new,S.fresh d=true)(h:OC V P o S k=some r):OpD P nm o S k r:=by
 unfold OC at h
 split at h
 ·rename_i t x lo hi mx ho;exact OB ho h
 ·cases h
end
end
end Go.Tx
end
section
namespace Go.Tx
open Go.Awp
variable [Inhabited GMem]
section
variable {V:iE}
theorem ym{α:Type}{s:Nat}:∀{rows:List (List α)} {i:Nat} {r:List α},(∀r∈rows,r.length=s)->rows[i]?=some r->(rows.flatten.drop (i *s)).take s=r
 |[],i,r,_,h=>by simp at h
 |x::rows,0,r,hz,h=>by
  simp only[aa4,Z2]at h
  subst h
  have:=hz x aag
  simp[abo,acY,this]
 |x::rows,i+1,r,hz,h=>by
  have hx:=hz x aag
  have:=ym (λr hr=>hz r (aab _ hr)) (by simpa using h)
  rw[abo,aaH,ac1,hx,abt (by omega),aad]
  rw[show i *s+s-s=i *s by omega]
  exact this
theorem hI{α:Type}{s:Nat}:∀{rows:List (List α)},(∀r∈rows,r.length=s)->rows.flatten.length=rows.length *s
 |[],_=>by simp
 |x::r,h=>by
  rw[abo,aas,h x aag,hI λy hy=>h y (aab _ hy),aaa,aaH]
  omega
theorem kh(e:Ty V.ι)(xs:List (den V.N e)):∀r∈xs.map (λx=>bY V.sz V.enc e x),r.length=tsz V.sz e:=λr hr=>by
 obtain⟨x,_,rfl⟩:=aav.1 hr
 exact cC e x
theorem rS{n i:Nat}{e:Ty V.ι}{xs:List (den V.N e)}{y:den V.N e}(hi:i<n)(hx:xs[i]?=some y):((bY V.sz V.enc (.ar n e) xs).drop (i *tsz V.sz e)).take (tsz V.sz e)=bY V.sz V.enc e y:=by
 have h1:=ym (s:=tsz V.sz e) (kh e xs) (i:=i) (r:=bY V.sz V.enc e y) (by rw[Z6,hx];rfl)
 have hil:i<xs.length:=(Z4.1 hx).1
 have h2:=hI (kh (V:=V) e xs)
 rw[Z7]at h2
 have m1:(i+1) *tsz V.sz e<=n *tsz V.sz e:=aam _ hi
 have m2:(i+1) *tsz V.sz e<=xs.length *tsz V.sz e:=aam _ hil
 rw[aaH]at m1 m2
 simp only[bY,arL]
 rw[List.drop_take,ada,abx (by omega),List.drop_append_of_le_length (by omega),abC (by rw[aaE];omega)]
 exact h1
theorem nd{α:Type}{s:Nat}:∀{rows:List (List α)} {i:Nat} {r:List α},(∀r∈rows,r.length=s)->i<rows.length->(rows.set i r).flatten=rows.flatten.take (i *s)++r++rows.flatten.drop (i *s+s)
 |[],i,r,_,h=>by simp at h
 |x::rows,0,r,hz,h=>by
  have hx:=hz x aag
  simp[abo,hx]
 |x::rows,i+1,r,hz,h=>by
  have hx:=hz x aag
  have ih:=nd (r:=r) (λr hr=>hz r (aab _ hr)) (by simpa using h)
  have e1:(x++rows.flatten).take ((i+1) *s)=x++rows.flatten.take (i *s):=by
   rw[acY,aaI (l:=x) (by rw[hx,aaH];omega),hx,aaH,acM]
  have e2:(x++rows.flatten).drop ((i+1) *s+s)=rows.flatten.drop (i *s+s):=by
   rw[ac1,(abt (by rw[hx,aaH];omega):x.drop _=[]),hx,aaH,aad]
   congr 1;omega
  simp only[List.set_cons_succ,abo]
  rw[ih,e1,e2]
  simp[abj]
theorem Ci{n i:Nat}{e:Ty V.ι}{xs:List (den V.N e)}{y':den V.N e}(hi:i<n)(hx:i<xs.length):
 bY V.sz V.enc (.ar n e) (xs.set i y')=(bY V.sz V.enc (.ar n e) xs).take (i *tsz V.sz e)++bY V.sz V.enc e y'++(bY V.sz V.enc (.ar n e) xs).drop (i *tsz V.sz e+tsz V.sz e):=by
 have h2:=hI (kh (V:=V) e xs)
 rw[Z7]at h2
 have m1:(i+1) *tsz V.sz e<=n *tsz V.sz e:=aam _ hi
 have m2:(i+1) *tsz V.sz e<=xs.length *tsz V.sz e:=aam _ hx
 rw[aaH]at m1 m2
 have hl:=cC e y'
 simp only[bY,arL,abD]
 rw[nd (kh e xs) (by rw[Z7];exact hx)]
 generalize (acl (λx=>bY V.sz V.enc e x) xs).flatten=F at h2
 generalize bY V.sz V.enc e y'=c at hl
 generalize hs:tsz V.sz e=s at *
 generalize n *s=N at *
 apply abp
 intro k
 simp only[aal,adg,aas,aaM,aaw,acv,aaE,aaP]
 grind
theorem KM{ω:Nat->Nat}{n:Nat}{e:Ty V.ι}{xs:List (den V.N e)}:aL V ω (.lf (.ar n e) xs)= .d (.agg (bY V.sz V.enc (.ar n e) xs)):=rfl
theorem D3{e:Ty V.ι}{y:den V.N e}{ds:List D}{ag:Bool}(h:ds.take (tsz V.sz e)=bY V.sz V.enc e y)(ha:ag= !e.cell):dY ag (tsz V.sz e) ds=some (bC V.sz V.enc e y):=by
 have hl:=cC (V:=V) e y
 have hdl:tsz V.sz e<=ds.length:=by
  have:=congrArg acn h
  rw[hl,aaM]at this;omega
 have cell:e.cell=true->bY V.sz V.enc e y=[bC V.sz V.enc e y]->tsz V.sz e=1->dY ag (tsz V.sz e) ds=some (bC V.sz V.enc e y):=by
  intro hc h1 h2
  rw[hc]at ha
  subst ha
  simp only[dY,aax]
  rw[h1,h2]at h
  cases ds with
  |nil=>simp at h
  |cons d r=>simp at h;simp[h]
 cases e with
 |st i=>
  subst ha
  simp only[Ty.cell,aaZ,dY,adD hdl,h]
  rfl
 |ar n e=>
  subst ha
  simp only[Ty.cell,aaZ,dY,adD hdl,h]
  rfl
 |_=>exact cell rfl rfl rfl
theorem pd{S:TS V.N}{n m:Nat}{e:Ty V.ι}{xs:List (den V.N e)}(h:S.own? n=some (.bar m e xs)):(a_ V S).own? n=some (.box none ((bY V.sz V.enc (.ar m e) xs).map .d)):=by rw[bL,h];rfl
theorem DY{S:TS V.N}{n m:Nat}{e:Ty V.ι}{xs:List (den V.N e)}(h:S.own? n=some (.bar m e xs)):S.len n=0:=by unfold TS.len;rw[h];rfl
theorem sO{S:TS V.N}{n:Nat}{te:TypeId}{e:Ty V.ι}{xs:List (den V.N e)}(h:S.own? n=some (.que te e xs)):(a_ V S).own? n=some (.que te (tsz V.sz e) (xs.map λx=>bY V.sz V.enc e x)):=by rw[bL,h];rfl
theorem wB{S:TS V.N}{n:Nat}{te:TypeId}{e:Ty V.ι}{xs:List (den V.N e)}(h:S.own? n=some (.que te e xs)):S.len n=xs.length:=by unfold TS.len;rw[h];rfl
theorem ij{S:TS V.N}{n:Nat}{te:TypeId}{k v:Ty V.ι}{es:List (Option (List (den V.N k×den V.N v)))}{al:Option (Nat×Nat)}(h:S.own? n=some (.maps te k v es al)):
 (a_ V S).own? n=some (.maps te (es.map λo=>o.map λl=>l.map λp=>(ew V.enc k p.1,bC V.sz V.enc v p.2)) al):=by rw[bL,h];rfl
theorem ia{S:TS V.N}{n:Nat}{te:TypeId}{k v:Ty V.ι}{es:List (Option (List (den V.N k×den V.N v)))}{al:Option (Nat×Nat)}(h:S.own? n=some (.maps te k v es al)):S.len n=es.length:=by unfold TS.len;rw[h];rfl
theorem kV{S:TS V.N}{n m:Nat}(h:S.own? n=some (.alias m)):(a_ V S).own? n=none:=by rw[bL,h];rfl
theorem kB{S:TS V.N}{n m:Nat}(h:S.own? n=some (.alias m)):S.len n=0:=by unfold TS.len;rw[h];rfl
end
section
variable (V:iE) (P:Program) (nm:Nat->Nat)
def fnF(e:Ty V.ι):TV V.N->TV V.N
 | .lf .fnc f=>match e with
  | .fno=> .lf .fno (some f)
  |_=> .lf .fnc f
 |v=>v
def xC{A:Type}(t:TypeId)(x i:Operand)(S:TS V.N)(k:TE V.N->Option A):Option A:=match tf P t,tev S x,tev S i with
 |some (len,_,ag,sz), .lf (.ar n e) xs, .lf (.int _) j=>if n=len/\sz=tsz V.sz e/\ag= !e.cell then
  if 0<=j/\j<len then xs[j.toNat]?>>=λy=>k {val:= .lf e y}else none
  else none
 |_,_,_=>none
def OD{A:Type}(t:TypeId)(x i:Operand)(S:TS V.N)(k:TE V.N->Option A):Option A:=match tf P t,tev S i with
 |some (len,_,_,sz), .lf (.int _) j=>match tev S x with
  | .bp m 0=>match S.own? m with
   |some (.bar n e _)=>if n=len/\sz=tsz V.sz e then
    if 0<=j/\j<len then k {val:= .ai m sz j.toNat 0}else none
    else none
   |_=>none
  | .rp (.ar n e) xs 0=>if n=len/\sz=tsz V.sz e then
    if 0<=j/\j<len then xs[j.toNat]?>>=λy=>k {val:= .rp e y 0}else none
   else none
  | .ep m s i' off=>if 0<=j/\j<len then k {val:= .ep m s i' (off+j.toNat *sz)}else none
  |_=>none
 |_,_=>none
def wC{A:Type}(ag:Bool)(sz:Nat)(ot:Option (Ty V.ι)):(t:Ty V.ι)->den V.N t->Nat->(TV V.N->Option A)->Option A
 | .ar n e,xs,off,k=>if off=0/\ot=some (.ar n e)/\ag=true/\sz=tsz V.sz (.ar n e)then k (.lf (.ar n e) xs)
   else if off/tsz V.sz e<n then xs[off/tsz V.sz e]?>>=λy=>wC ag sz ot e y (off%tsz V.sz e) k else none
 |t,x,off,k=>match ug V ag sz ot t x off with
  |some v=>k v
  |none=>none
def zt{A:Type}(t:TypeId)(x:Operand)(S:TS V.N)(k:TE V.N->Option A):Option A:=match cW P t with
 |some (ag,sz)=>match tev S x with
  | .ai n s i off=>match S.own? n with
   |some (.bar m e xs)=>if s=tsz V.sz e/\off+TM ag sz<=s then
    if i<m then xs[i]?>>=λy=>wC V ag sz (V.ty t) e y off λv=>k {val:=v,acc:=[n]}else none
    else none
   |_=>none
  | .bp n 0=>match S.own? n with
   |some (.bar m e xs)=>if V.ty t=some (.ar m e)/\ag=true/\sz=tsz V.sz (.ar m e)then k {val:= .lf (.ar m e) xs,acc:=[n]}else none
   |_=>none
  | .ep n s i off=>match S.own? n with
   |some (.vec _ e xs)=>if s=tsz V.sz e then xs[i]?>>=λy=>wC V ag sz (V.ty t) e y off λv=>k {val:=v,acc:=[n]}else none
   |some (.que _ e xs)=>if s=tsz V.sz e then xs[i]?>>=λy=>wC V ag sz (V.ty t) e y off λv=>k {val:=v,acc:=[n]}else none
   |_=>none
  | .rp t' y off=>wC V ag sz (V.ty t) t' y off λv=>k {val:=v}
  |_=>none
 |none=>none
def xJ{A:Type}(t:TypeId)(x y:Operand)(S:TS V.N)(k:TE V.N->Option A):Option A:=match cW P t,TV.cells V (tev S y)with
 |some (_,sz),some cs=>match tev S x with
  | .ai n s i 0=>match S.own? n with
   |some (.bar m e xs)=>if s=tsz V.sz e/\cs.length=sz/\sz=s/\cs.all TV.one=true then
    if i<m then if i<xs.length then match dG V true e cs with
     |some z=>k {val:= .junk,acc:=[n],upd:=[(n, .bar m e (xs.set i z))]}
     |none=>none
    else none else none
    else none
   |_=>none
  | .bp n 0=>match S.own? n,tev S y with
   |some (.bar m e _), .lf (.ar m' e') ys=>if m'=m/\e'=e/\sz=tsz V.sz (.ar m e)then k {val:= .junk,acc:=[n],upd:=[(n, .bar m' e' ys)]}else none
   |_,_=>none
  |_=>none
 |_,_=>none
def zeq:Value->Value->Bool
 | .int k n, .int k' n'=>decide (k=k')&&decide (n=n')
 | .bool a, .bool b=>a==b
 | .nilFunc, .nilFunc=>true
 | .string a, .string b=>decide (a=b)
 |_,_=>false
def S9:List Value->List Value->Bool
 |[],[]=>true
 |a::r,b::s=>zeq a b&&S9 r s
 |_,_=>false
def xw{A:Type}(t:TypeId)(dst:Option Tmp)(k:TE V.N->Option A):Option A:=match V.ty t,iB P t,dst with
 |some (.ar n e),some z,some d=>match dG V true e ((z.take (tsz V.sz e)).map tvc)with
  |some y=>if z.all d8=true/\ub t z=none/\S9 z (aak n (z.take (tsz V.sz e))).flatten=true then k {val:= .bp (nm d) 0,upd:=[(nm d, .bar n e (aak n y))],new:=[nm d]}else none
  |none=>none
 |_,_,_=>none
def Ox{A:Type}(x:Operand)(dst:Option Tmp)(S:TS V.N)(k:TE V.N->Option A):Option A:=match tev S x,dst with
 | .lf (.ar n e) xs,some d=>k {val:= .bp (nm d) 0,upd:=[(nm d, .bar n e xs)],new:=[nm d]}
 |_,_=>none
def OH{A:Type}(x:Operand)(S:TS V.N)(k:TE V.N->Option A):Option A:=match tev S x with
 | .lf (.op e) y=>y>>=λz=>k {val:= .rp e z 0}
 |_=>none
def eF:List (Ty V.ι)->Option (List CK)
 |[]=>some []
 |t::r=>match t,eF r with
  | .int k,some l=>some (.int k::l)
  | .bool,some l=>some (.bool::l)
  | .str,some l=>some (.str::l)
  |_,_=>none
def DP(P:Program)(t:TypeId):Bool:=match P.underlying t with
 |some (.struct _)=>true
 |_=>false
def QA(P:Program)(t:TypeId):Bool:=match P.underlying t with
 |some (.func _ _ _)=>true
 |_=>false
def Oz{A:Type}(op:BinOp)(xt:TypeId)(x y:Operand)(S:TS V.N)(k:TE V.N->Option A):Option A:=match TD op,tev S x,tev S y with
 |some q, .lf (.op _) a, .raw (.pointer none)=>match lJ P xt with
  |true=>match q with
   |true=>k {val:= .lf .bool a.isNone}
   |false=>k {val:= .lf .bool a.isSome}
  |false=>none
 |some q, .lf .fno a, .raw .nilFunc=>match QA P xt with
  |true=>match q with
   |true=>k {val:= .lf .bool a.isNone}
   |false=>k {val:= .lf .bool a.isSome}
  |false=>none
 |some q, .lf (.st i) a, .lf (.st j) b=>if i=j/\DP P xt=true/\P.eqGuardType P.depth xt=false/\(iM P 100 xt).isSome=true/\eF V (V.tys i)=iM P 100 xt then match q with
  |true=>k {val:= .lf .bool (Dq (V.cells i a) (V.cells j b))}
  |false=>k {val:= .lf .bool (!Dq (V.cells i a) (V.cells j b))}
  else none
 |_,_,_=>none
def Ra{α:Type}:List α->Nat->α->List α
 |[],_,_=>[]
 |_::r,0,x=>x::r
 |a::r,i+1,x=>a::Ra r i x
def Q_(e:Ty V.ι):List (den V.N e)->List (Nat×TV V.N)->Option (List (den V.N e))
 |ys,[]=>some ys
 |ys,(i,x)::r=>if i<ys.length then match GY V true e x with
  |some y=>Q_ e (Ra ys i y) r
  |none=>none
  else none
def xx{A:Type}(t:TypeId)(parts:List (Nat×Operand))(S:TS V.N)(k:TE V.N->Option A):Option A:=match V.ty t,tf P t,iB P t with
 |some (.ar n e),some (len,_,_,sz),some z=>match dG V true (.ar n e) (z.map tvc)with
  |some ys0=>if(n=len/\sz=tsz V.sz e)/\z.all d8=true/\acn ys0=n then
   match Q_ V e ys0 (parts.map λ(i,x)=>(i,fnF V e (fnT (tev S x))))with
   |some ys=>k {val:= .lf (.ar n e) ys}
   |none=>none
   else none
  |none=>none
 |_,_,_=>none
def xy{A:Type}(t:TypeId)(parts:List (Nat×Operand))(S:TS V.N)(k:TE V.N->Option A):Option A:=match iB P t,places P t with
 |some z,some pl=>if z.all d8=true then match wk V pl (z.map tvc) (parts.map λ(i,x)=>(i,fnT (tev S x)))with
  |some cs=>k {val:=mkV V true (V.ty t) cs}
  |none=>none
  else none
 |_,_=>none
def t_:Nat->List (TV V.N)->Option Nat
 |_,[]=>none
 |j,x::r=>match x with
  | .raw (.slice none 0 0)=>some j
  |_=>t_ (j+1) r
def xz{A:Type}(t:TypeId)(parts:List (Nat×Operand))(dst:Option Tmp)(S:TS V.N)(k:TE V.N->Option A):Option A:=match iB P t,places P t,V.ty t,dst with
 |some z,some pl,some (.st s),some d=>if z.all d8=true then match wk V pl (z.map tvc) (parts.map λ(i,x)=>(i,tev S x))with
  |some cs=>match t_ V 0 cs with
   |some j=>match(V.tys s)[j]? with
    |some (.sl e)=>match TV.hasL (53000+d) cs with
     |false=>k {val:= .agg (Ra cs j (.vh (53000+d))),upd:=[(53000+d, .vec (V.tid e) e [])],new:=[53000+d]}
     |true=>none
    |_=>none
   |none=>none
  |none=>none
  else none
 |_,_,_,_=>none
end
section
variable {V:iE} {P:Program} {nm:Nat->Nat} {o:Oper} {S:TS V.N} {A:Type} {k:TE V.N->Option A} {r:A}
def _root_.Go.Tx.Ty.flat0{ι:Type}:Ty ι->Bool
 | .int _=>true
 | .bool=>true
 | .str=>true
 |_=>false
theorem dH{v:TV V.N}{l:List Nat}{h:H}(hk:k {val:=v,acc:=l}=some r)(hs:aW P nm o (Go.Awp.ev (a_ V S)) (a_ V S).own? {val:=h,acc:=l})(he:h=aL V S.len v):OpD P nm o S k r:=
 ⟨_,hk,jr S _ _,_, .sem hs,tL he⟩
theorem BU{t:TypeId}{x i:Operand}(ho:o.op= .index t x i)(h:xC V P t x i S k=some r):OpD P nm o S k r:=by
 unfold xC at h
 split at h
 ·rename_i len te ag sz n e xs kk j ht hx hi
  replace h:=aG h
  obtain⟨⟨e1,e2,e3⟩,h⟩:=h
  replace h:=aG h
  obtain⟨⟨h0,h1⟩,h⟩:=h
  replace h:=b9 h
  obtain⟨y,hy,h⟩:=h
  subst e1;subst e2
  refine dH h (.index (n:=j) (ds:=bY V.sz V.enc (.ar n e) xs) ho ht (by rw[aI,hx];rfl) (by rw[aI,hi];rfl) h0 h1 (D3 (y:=y) (rS ((Int.toNat_lt h0).2 h1) hy) e3)) (by simp only[aL])
 ·cases h
theorem JN{t:TypeId}{x i:Operand}(ho:o.op= .indexAddr t x i)(h:OD V P t x i S k=some r):OpD P nm o S k r:=by
 unfold OD at h
 split at h
 ·rename_i len te ag sz kk j ht hi
  have hi':Go.Awp.ev (a_ V S) i= .d (.v (.int kk j)):=by rw[aI,hi];rfl
  split at h
  ·rename_i m hx
   split at h
   ·rename_i n e xs hown
    replace h:=aG h
    obtain⟨⟨e1,e2⟩,h⟩:=h
    replace h:=aG h
    obtain⟨⟨h0,h1⟩,h⟩:=h
    exact dH h (.indexArr (hx':= .bp m (0+j.toNat *sz)) ho ht hi' h0 h1 (.inl ⟨m,0,by rw[aI,hx];rfl,rfl⟩)) (by simp[aL])
   ·cases h
  ·rename_i n e xs hx
   replace h:=aG h
   obtain⟨⟨e1,e2⟩,h⟩:=h
   replace h:=aG h
   obtain⟨⟨h0,h1⟩,h⟩:=h
   replace h:=b9 h
   obtain⟨y,hy,h⟩:=h
   subst e1;subst e2
   have hj:aaq j<n:=(Int.toNat_lt h0).2 h1
   have m1:(j.toNat+1) *tsz V.sz e<=n *tsz V.sz e:=aam _ hj
   rw[aaH]at m1
   refine dH h (.indexArr (n:=j) (hx':= .d (.rp (((bY V.sz V.enc (.ar n e) xs).drop (j.toNat *tsz V.sz e)).take (tsz V.sz e)))) ho ht hi' h0 h1 (.inr (.inr ⟨bY V.sz V.enc (.ar n e) xs,by rw[aI,hx];simp[aL],?_,rfl⟩))) ?_
   ·rw[cC];exact m1
   ·rw[rS hj hy];simp[aL]
  ·rename_i m s i' off hx
   replace h:=aG h
   obtain⟨⟨h0,h1⟩,h⟩:=h
   exact dH h (.indexArr ho ht hi' h0 h1 (.inr (.inl ⟨m,s,i',off,by rw[aI,hx];rfl,rfl⟩))) (by simp[aL])
  ·cases h
 ·cases h
theorem D2{ag:Bool}{sz:Nat}{a b:List D}{d:D}(h:dY ag sz a=some d):dY ag sz (a++b)=some d:=by
 cases ag with
 |true=>
  simp only[dY]at h⊢
  split at h
  ·rename_i hl
   rw[adD (by rw[aas];omega),abC hl];exact h
  ·cases h
 |false=>
  cases a with
  |nil=>simp[dY]at h
  |cons x r=>exact h
theorem uf{ag:Bool}{sz m off:Nat}{l row:List D}{d:D}(hr:l.take m=row)(h:dY ag sz (row.drop off)=some d):dY ag sz (l.drop off)=some d:=by
 rw[<-adb m l,hr,ac1]
 exact D2 h
theorem D1{ag:Bool}{sz:Nat}{ds:List D}{d:D}(h:dY ag sz ds=some d):fw ag sz (ds.map H.d)=some (.d d):=by
 cases ag with
 |true=>
  simp only[dY,fw,Z7]at h⊢
  split at h
  ·rename_i hl
   rw[adD hl,<-aa6,cR,dV]
   simp only[Z2]at h;subst h;rfl
  ·cases h
 |false=>
  cases ds with
  |nil=>simp[dY]at h
  |cons x r=>simp[dY]at h;subst h;rfl
theorem fH{ω:Nat->Nat}{ag:Bool}{sz:Nat}{ot:Option (Ty V.ι)}{B:Type}{f:TV V.N->Option B}{b:B}:∀(t:Ty V.ι) (x:den V.N t) (off:Nat),wC V ag sz ot t x off f=some b->
 ∃v,f v=some b/\∃d,dY ag sz ((bY V.sz V.enc t x).drop off)=some d/\∀ω,aL V ω v= .d d
 | .ar n e,xs,off,h=>by
  simp only[wC]at h
  split at h
  ·rename_i hc
   obtain⟨rfl,_,rfl,rfl⟩:=hc
   refine⟨_,h, .agg (bY V.sz V.enc (.ar n e) xs),?_,λω=>rfl⟩
   have hl:=cC (V:=V) (.ar n e) xs
   simp only[dY,aap]
   rw[adD (by omega),aaI (by omega)]
  ·obtain⟨hn,h⟩:=aG h
   replace h:=b9 h
   obtain⟨y,hy,h⟩:=h
   obtain⟨v,h1,d,h2,h3⟩:=fH (ω:=ω) e y _ h
   refine⟨v,h1,d,?_,h3⟩
   have:=uf (rS hn hy) h2
   rw[abA]at this
   rw[abJ,acd]at this
   exact this
 | .int _,x,off,h=>loadL_k h
 | .bool,x,off,h=>loadL_k h
 | .str,x,off,h=>loadL_k h
 | .st _,x,off,h=>loadL_k h
 | .sl _,x,off,h=>loadL_k h
 | .mp _ _,x,off,h=>loadL_k h
 | .er,x,off,h=>loadL_k h
 | .op _,x,off,h=>loadL_k h
 | .fnc,x,off,h=>loadL_k h
 | .fno,x,off,h=>loadL_k h
where
 loadL_k {ag:Bool} {sz:Nat} {ot:Option (Ty V.ι)} {B:Type} {f:TV V.N->Option B} {b:B} {t:Ty V.ι} {x:den V.N t} {off:Nat} (h:(match ug V ag sz ot t x off with|some v=>f v|none=>none)=some b):
  ∃v,f v=some b/\∃d,dY ag sz ((bY V.sz V.enc t x).drop off)=some d/\∀ω,aL V ω v= .d d:=by
  split at h
  ·rename_i v hv
   obtain⟨d,h1,h2⟩:=fI (ω:=λ_=>0) hv
   refine⟨v,h,d,h1,λω=> ?_⟩
   obtain⟨d',h1',h2'⟩:=fI (ω:=ω) hv
   rw[h1]at h1';cases h1'
   exact h2'
  ·cases h
theorem ve{t:TypeId}{x:Operand}(ho:o.op= .load t x)(h:zt V P t x S k=some r):OpD P nm o S k r:=by
 unfold zt at h
 split at h
 ·rename_i ag sz ht
  have hop:o.op.operands= #[x]:=by rw[ho];rfl
  split at h
  ·rename_i n s i off hx
   split at h
   ·rename_i m e xs hown
    replace h:=aG h
    obtain⟨⟨e1,e2⟩,h⟩:=h
    replace h:=aG h
    obtain⟨hi,h⟩:=h
    replace h:=b9 h
    obtain⟨y,hy,h⟩:=h
    obtain⟨v,h1,d,h2,h3⟩:=fH (ω:=S.len) _ _ _ h
    subst e1
    refine dH h1 (.ofAVal λρ' ω' hρ hω=> ?_) (h3 _).symm
    have hx':ρ' x= .bp n (i *tsz V.sz e+off):=by rw[hρ x (by rw[hop];simp),aI,hx];rfl
    have ho':ω' n=_:=(hω n (by simp)).trans (pd hown)
    simp only[bN,ho,ht,hx',ho']
    have:=uf (rS hi hy) h2
    rw[abA]at this
    rw[<-aa7,D1 this]
   ·cases h
  ·rename_i n hx
   split at h
   ·rename_i m e xs hown
    replace h:=aG h
    obtain⟨⟨e1,e2,e3⟩,h⟩:=h
    subst e2;subst e3
    refine dH h (.ofAVal (e:={val:= .d (.agg (bY V.sz V.enc (.ar m e) xs)),acc:=[n]}) λρ' ω' hρ hω=> ?_) rfl
    have hx':ρ' x= .bp n 0:=by rw[hρ x (by rw[hop];simp),aI,hx];rfl
    have ho':ω' n=_:=(hω n (by simp)).trans (pd hown)
    simp only[bN,ho,ht,hx',ho']
    have hl:=cC (V:=V) (.ar m e) xs
    rw[aap,D1 (d:= .agg (bY V.sz V.enc (.ar m e) xs)) (by simp only[dY];rw[adD (by omega),aaI (by omega)])]
   ·cases h
  ·rename_i n s i off hx
   split at h
   ·rename_i te e xs hown
    replace h:=aG h
    obtain⟨e1,h⟩:=h
    replace h:=b9 h
    obtain⟨y,hy,h⟩:=h
    obtain⟨v,h1,d,h2,h3⟩:=fH (ω:=S.len) _ _ _ h
    subst e1
    refine dH h1 (.ofAVal λρ' ω' hρ hω=> ?_) (h3 _).symm
    have hx':ρ' x= .ep n (tsz V.sz e) i off:=by rw[hρ x (by rw[hop];simp),aI,hx];rfl
    have ho':ω' n=_:=(hω n (by simp)).trans (dI hown)
    simp only[bN,ho,ht,hx',ho',Z6,hy,aau,h2]
    exact⟨trivial,trivial⟩
   ·rename_i te e xs hown
    replace h:=aG h
    obtain⟨e1,h⟩:=h
    replace h:=b9 h
    obtain⟨y,hy,h⟩:=h
    obtain⟨v,h1,d,h2,h3⟩:=fH (ω:=S.len) _ _ _ h
    subst e1
    exact dH h1 (.qload ho ht (by rw[aI,hx];rfl) (sO hown) (r:=bY V.sz V.enc e y) (by rw[Z6,hy];rfl) h2) (h3 _).symm
   ·cases h
  ·rename_i t' y off hx
   obtain⟨v,h1,d,h2,h3⟩:=fH (ω:=S.len) _ _ _ h
   refine dH h1 (.ofAVal λρ' ω' hρ hω=> ?_) (h3 _).symm
   have hx':ρ' x= .d (.rp ((bY V.sz V.enc t' y).drop off)):=by rw[hρ x (by rw[hop];simp),aI,hx];rfl
   simp only[bN,ho,ht,hx',h2]
  ·cases h
 ·cases h
theorem wZ{n:Nat}{o':TO V.N}{x:Own}{l:List Nat}(hx:∀ω,cp V ω o'=some x)(hl:TO.len (some o')=S.len n)(hk:k {val:= .junk,acc:=l,upd:=[(n,o')]}=some r)
 (h:aW P nm o (Go.Awp.ev (a_ V S)) (a_ V S).own? {val:= .junk,acc:=l,upd:=[(n,some x)]}):OpD P nm o S k r:=by
 refine⟨_,hk,λm o1 hm=> ?_,_, .sem h,cX rfl rfl (by simp[hx]) rfl⟩
 simp only[aH]at hm
 split at hm
 ·rename_i e;right;simp at hm;subst hm;subst e;exact hl
 ·simp[gt]at hm
theorem sL{d:Nat}{v:TV V.N}{h:H}{o':TO V.N}{x:Own}{l:List Nat}(hx:∀ω,cp V ω o'=some x)(hv:∀ω:Nat->Nat,ω d=TO.len (some o')->aL V ω v=h)(hk:k {val:=v,acc:=l,upd:=[(d,o')],new:=[d]}=some r)
 (hs:aW P nm o (Go.Awp.ev (a_ V S)) (a_ V S).own? {val:=h,acc:=l,upd:=[(d,some x)],new:=[d]}):OpD P nm o S k r:=by
 refine⟨_,hk,λm o1 hm=> ?_,_, .sem hs,cX (hv _ ?_).symm rfl (by simp[hx]) rfl⟩
 ·simp only[aH]at hm
  split at hm
  ·rename_i e;left;simp[e]
  ·simp[gt]at hm
 ·rw[d5];simp[aH]
theorem B4{t:TypeId}{x y:Operand}(ho:o.op= .store t x y)(h:xJ V P t x y S k=some r):OpD P nm o S k r:=by
 unfold xJ at h
 split at h
 ·rename_i ag sz cs ht hcs
  have hop:o.op.operands= #[x,y]:=by rw[ho];rfl
  have hyc:=dQ (ω:=S.len) hcs
  split at h
  ·rename_i n s i hx
   split at h
   ·rename_i m e xs hown
    replace h:=aG h
    obtain⟨⟨e1,e2,e3,e4⟩,h⟩:=h
    replace h:=aG h
    obtain⟨hi,h⟩:=h
    replace h:=aG h
    obtain⟨hil,h⟩:=h
    split at h
    ·rename_i z hz
     obtain⟨ds,d1,_,d3⟩:=ej (ω:=S.len) hz
     replace d3:=d3 rfl
     subst d3
     refine wZ (x:= .box none ((bY V.sz V.enc (.ar m e) (xs.set i z)).map .d)) (λω=>rfl) (by rw[DY hown];rfl) h (.ofAVal λρ' ω' hρ hω=> ?_)
     have hx':ρ' x= .bp n (i *s+0):=by rw[hρ x (by rw[hop];simp),aI,hx];rfl
     have hy':(ρ' y).cells=some (encL V S.len cs):=by rw[hρ y (by rw[hop];simp),aI];exact hyc
     have ho':ω' n=_:=(hω n (by simp)).trans (pd hown)
     simp only[bN,ho,ht,hx',hy',ho',bE]
     have hl:=cC (V:=V) (.ar m e) xs
     have m1:(i+1) *tsz V.sz e<=m *tsz V.sz e:=aam _ hi
     rw[aaH]at m1
     have hl2:(bY V.sz V.enc (.ar m e) xs).length=m *tsz V.sz e:=hl
     subst e1
     refine⟨⟨e2,ft e4,by rw[Z7,hl2];omega⟩,?_⟩
     have hzl:=cC (V:=V) e z
     rw[Ci hi hil,eK,bE,d1]
     simp only[aaV,aa6,aa7,aba]
     have:cs.length=tsz V.sz e:=by omega
     rw[this]
    ·cases h
   ·cases h
  ·rename_i n hx
   split at h
   ·rename_i m e xs m' e' ys hown hy
    replace h:=aG h
    obtain⟨⟨e1,e2,e3⟩,h⟩:=h
    subst e1;subst e2
    rw[hy]at hcs
    simp only[TV.cells,Z2]at hcs
    subst hcs
    have he:encL V S.len ((bJ V (.ar m' e') ys).map λl=>TV.lf l.t l.x)=(bY V.sz V.enc (.ar m' e') ys).map H.d:=by
     rw[c6,aU,aaF,aaF]
     exact aay λl _=>by simp[aL]
    rw[he]at hyc
    refine wZ (x:= .box none ((bY V.sz V.enc (.ar m' e') ys).map .d)) (λω=>rfl) (by rw[DY hown];rfl) h (.ofAVal λρ' ω' hρ hω=> ?_)
    have hx':ρ' x= .bp n 0:=by rw[hρ x (by rw[hop];simp),aI,hx];rfl
    have hy':(ρ' y).cells=some ((bY V.sz V.enc (.ar m' e') ys).map H.d):=by rw[hρ y (by rw[hop];simp),aI];exact hyc
    have ho':ω' n=_:=(hω n (by simp)).trans (pd hown)
    simp only[bN,ho,ht,hx',hy',ho']
    have hl:=cC (V:=V) (.ar m' e') ys
    have hl2:=cC (V:=V) (.ar m' e') xs
    refine⟨⟨by rw[Z7,hl,e3],?_,by rw[Z7,hl2,e3];omega⟩,?_⟩
    ·rw[abU]
     exact w8
    ·simp only[eK,acj,aad,Z7,Z9]
     rw[ac7 (by rw[Z7];omega),abY]
   ·cases h
  ·cases h
 ·cases h
theorem Sy{a b:Value}(h:zeq a b=true):a=b:=by
 unfold zeq at h
 split at h
 ·simp only[Z8,adB]at h
  rw[h.1,h.2]
 ·rename_i a b
  have:a=b:=by simpa using h
  rw[this]
 ·rfl
 ·simp only[adB]at h;rw[h]
 ·cases h
theorem Gq:∀{a b:List Value},S9 a b=true->a=b
 |[],[],_=>rfl
 |a::r,b::s,h=>by
  simp only[S9,Z8]at h
  rw[Sy h.1,Gq h.2]
 |[],_::_,h=>by cases h
 |_::_,[],h=>by cases h
theorem BP{t:TypeId}(ho:o.op= .alloc t)(h:xw V P nm t o.dst k=some r):OpD P nm o S k r:=by
 unfold xw at h
 split at h
 ·rename_i n e z d hty hz hd
  split at h
  ·rename_i y hy
   replace h:=aG h
   obtain⟨⟨h1,h2,h3⟩,h⟩:=h
   obtain⟨ds,d1,_,d3⟩:=ej (ω:=S.len) hy
   replace d3:=d3 rfl
   subst d3
   have h3:=Gq h3
   have hrow:bY V.sz V.enc e y=(z.take (tsz V.sz e)).map .v:=by
    apply kD
    rw[<-d1,aU]
    simp only[aaF]
    refine(aay λu hu=> ?_)
    have:d8 u=true:=aaf.1 h1 u (aa2 hu)
    simp only[abH,xK]
    cases u<;>first|rfl|cases this
   have harr:bY V.sz V.enc (.ar n e) (aak n y)=z.map .v:=by
    simp only[bY,arL,abN]
    have hl:=cC (V:=V) e y
    rw[abC (by rw[hI (s:=tsz V.sz e) (λr hr=>by rw[(acN.1 hr).2];exact hl),aaP];exact aat _),
     aaI (by rw[hI (s:=tsz V.sz e) (λr hr=>by rw[(acN.1 hr).2];exact hl),aaP];exact aat _)]
    rw[h3,List.map_flatten,abN,hrow]
   refine sL (h:= .bp (nm d) 0) (x:= .box none ((bY V.sz V.enc (.ar n e) (aak n y)).map .d)) (λω=>rfl) (λω _=>rfl) h (.ofAVal λρ' ω' hρ hω=> ?_)
   simp only[bN,ho,hz,hd,h2]
   rw[harr,aaF]
   try rfl
  ·cases h
 ·cases h
theorem JJ{t:TypeId}{x:Operand}(ho:o.op= .box t x)(h:Ox V nm x o.dst S k=some r):OpD P nm o S k r:=by
 unfold Ox at h
 split at h
 ·rename_i n e xs d hx hd
  refine sL (h:= .bp (nm d) 0) (x:= .box none ((bY V.sz V.enc (.ar n e) xs).map .d)) (λω=>rfl) (λω _=>rfl) h (.ofAVal λρ' ω' hρ hω=> ?_)
  have hx':ρ' x= .d (.agg (bY V.sz V.enc (.ar n e) xs)):=by rw[hρ x (by rw[ho];simp[Op.operands]),aI,hx];rfl
  simp only[bN,ho,hx',H.cells,hd]
  exact⟨none, .inl rfl,rfl⟩
 ·cases h
theorem JS{x:Operand}(ho:o.op= .nilCheck x)(h:OH V x S k=some r):OpD P nm o S k r:=by
 unfold OH at h
 split at h
 ·rename_i e y hx
  replace h:=b9 h
  obtain⟨z,rfl,h⟩:=h
  refine dH h (.ofAVal (e:={val:= .d (.rp (bY V.sz V.enc e z))}) λρ' ω' hρ hω=> ?_) (by simp[aL])
  have hx':ρ' x= .d (.rp (bY V.sz V.enc e z)):=by rw[hρ x (by rw[ho];simp[Op.operands]),aI,hx];rfl
  simp only[bN,ho,hx']
 ·cases h
def iS{ι:Type}{N:ι->Type}:dU N->Value
 |⟨.int k,n⟩=> .int k n
 |⟨.bool,b⟩=> .bool b
 |⟨.str,s⟩=> .string s
 |_=> .nilIface
theorem kA:∀{ls:List (dU V.N)} {ks:List CK},eF V (ls.map λl=>l.t)=some ks->(ls.map λl=>bC V.sz V.enc l.t l.x)=(ls.map iS).map .v/\hD ks (ls.map iS)=true
 |[],ks,h=>by simp[eF]at h;subst h;exact⟨rfl,rfl⟩
 |⟨t,x⟩::r,ks,h=>by
  simp only[aac,eF]at h
  split at h
  ·rename_i k l hl
   simp at h;subst h
   obtain⟨h1,h2⟩:=kA hl
   exact⟨by simp only[aac,h1];rfl,by simp[hD,iS,CK.is,h2]⟩
  ·rename_i l hl
   simp at h;subst h
   obtain⟨h1,h2⟩:=kA hl
   exact⟨by simp only[aac,h1];rfl,by simp[hD,iS,CK.is,h2]⟩
  ·rename_i l hl
   simp at h;subst h
   obtain⟨h1,h2⟩:=kA hl
   exact⟨by simp only[aac,h1];rfl,by simp[hD,iS,CK.is,h2]⟩
  ·cases h
theorem ek(x y:ByteArray):(x==y)=true↔x=y:=by
 obtain⟨a⟩:=x
 obtain⟨b⟩:=y
 show(a==b)=true↔_
 simp
theorem MQ{t:Ty V.ι}{x y:den V.N t}(ht:t.flat0=true):ox (iS (⟨t,x⟩:dU V.N)) (iS ⟨t,y⟩)=SE (⟨t,x⟩:dU V.N) ⟨t,y⟩:=by
 cases t with
 |int k=>rfl
 |bool=>rfl
 |str=>
  simp only[iS,SE,Mp.seq]
  rw[Bool.eq_iff_iff,qB (k:= .str) rfl rfl]
  have e1:(Value.string x=Value.string y)↔(x=y):=by simp
  exact e1.trans (ek x y).symm
 |_=>cases ht
theorem Dr:∀{ls ls':List (dU V.N)} {ks:List CK},eF V (ls.map λl=>l.t)=some ks->eF V (ls'.map λl=>l.t)=some ks->(ls.map λl=>l.t)=(ls'.map λl=>l.t)->cY (ls.map iS) (ls'.map iS)=Dq ls ls'
 |[],[],_,_,_,_=>rfl
 |[],_::_,_,_,_,h=>by simp at h
 |_::_,[],_,_,_,h=>by simp at h
 |⟨t,x⟩::r,⟨t',y⟩::r',ks,h1,h2,h=>by
  simp only[aac,aaS]at h
  obtain⟨rfl,h⟩:=h
  have tl:∀{t:Ty V.ι} {ts:List (Ty V.ι)} {ks:List CK},eF V (t::ts)=some ks->t.flat0=true/\∃ks',eF V ts=some ks':=by
   intro t ts ks h
   simp only[eF]at h
   split at h<;>first|(exact⟨rfl,_,‹_›⟩)|cases h
  simp only[aac]at h1 h2
  obtain⟨f1,k1,g1⟩:=tl h1
  obtain⟨f2,k2,g2⟩:=tl h2
  have g3:=g2
  rw[<-h]at g3
  have ih:=Dr (ks:=k1) g1 (by rw[<-h];exact g1) h
  have he:=MQ (V:=V) (x:=x) (y:=y) f1
  simp only[aac,cY,he,ih]
  cases r with
  |nil=>
   cases r' with
   |nil=>simp[Dq]
   |cons b s=>simp at h
  |cons a q=>
   cases r' with
   |nil=>simp at h
   |cons b s=>simp[Dq]
theorem ee{i:V.ι}{a:V.N i}{ks:List CK}(h:eF V (V.tys i)=some ks):V.enc i a=((V.cells i a).map iS).map .v/\hD ks ((V.cells i a).map iS)=true:=by
 rw[<-V.tys_cells i a]at h
 rw[V.enc_cells]
 exact kA h
theorem yB{i:V.ι}{a b:V.N i}{ks:List CK}(h:eF V (V.tys i)=some ks):cY ((V.cells i a).map iS) ((V.cells i b).map iS)=Dq (V.cells i a) (V.cells i b):=
 Dr (ks:=ks) (by rw[V.tys_cells];exact h) (by rw[V.tys_cells];exact h) (by rw[V.tys_cells,V.tys_cells])
theorem JL{op:BinOp}{xt yt:TypeId}{x y:Operand}(ho:o.op= .binOp op xt x y yt)(h:Oz V P op xt x y S k=some r):OpD P nm o S k r:=by
 unfold Oz at h
 split at h
 ·rename_i q e a hq hx hy
  split at h
  ·rename_i hp
   have key:∀b:Bool,k {val:= .lf .bool (if q=true then b else !b)}=some r->nJ P xt (bC V.sz V.enc (.op e) a) (.v (.pointer none)) b->OpD P nm o S k r:=λb hk hc=>
    dH hk (.cmp ho hq (by rw[aI,hx];rfl) (by rw[aI,hy];rfl) hc) rfl
   have hc:nJ P xt (bC V.sz V.enc (.op e) a) (.v (.pointer none)) a.isNone:=by
    cases a with
    |none=>exact .pn hp
    |some z=>exact .rp hp
   refine key _ ?_ hc
   split at h<;>cases a<;>exact h
  ·cases h
 ·rename_i q a hq hx hy
  split at h
  ·rename_i hp
   have hp':∃x y z,P.underlying xt=some (.func x y z):=by
    unfold QA at hp
    split at hp
    ·exact⟨_,_,_,‹_›⟩
    ·cases hp
   have key:∀b:Bool,k {val:= .lf .bool (if q=true then b else !b)}=some r->nJ P xt (bC V.sz V.enc .fno a) (.v .nilFunc) b->OpD P nm o S k r:=λb hk hc=>
    dH hk (.cmp ho hq (by rw[aI,hx];rfl) (by rw[aI,hy];rfl) hc) rfl
   have hc:nJ P xt (bC V.sz V.enc .fno a) (.v .nilFunc) (Option.isNone (α:=Nat) a):=by
    cases a with
    |none=>exact .nf hp'
    |some z=>exact .fn hp'
   refine key _ ?_ hc
   split at h<;>cases a<;>exact h
  ·cases h
 ·rename_i q i a j b hq hx hy
  replace h:=aG h
  obtain⟨⟨e1,hs,hg,hf,hks⟩,h⟩:=h
  subst e1
  obtain⟨ks,hks'⟩:=acr.1 hf
  rw[hks']at hks
  obtain⟨a1,a2⟩:=ee (a:=a) hks
  obtain⟨b1,b2⟩:=ee (a:=b) hks
  have hs':∃fs,P.underlying xt=some (.struct fs):=by
   unfold DP at hs
   split at hs
   ·exact⟨_,‹_›⟩
   ·cases hs
  have hc:nJ P xt (.agg (V.enc i a)) (.agg (V.enc i b)) (Dq (V.cells i a) (V.cells i b)):=by
   rw[a1,b1,<-yB hks]
   exact .st hs' hg (by decide) hks' a2 b2
  have key:k {val:= .lf .bool (if q=true then Dq (V.cells i a) (V.cells i b)else !Dq (V.cells i a) (V.cells i b))}=some r->OpD P nm o S k r:=λhk=>
   dH hk (.cmp ho hq (by rw[aI,hx,jT]) (by rw[aI,hy,jT]) hc) rfl
  refine key ?_
  split at h<;>exact h
 ·cases h
theorem Ch{n sz i:Nat}(h:i<n):(zR n sz)[i]?=some (i *sz,sz):=by
 unfold zR
 rw[Z6,abl h];rfl
theorem MS{ω:Nat->Nat}(e:Ty V.ι)(v:TV V.N):aL V ω (fnF V e v)=aL V ω v:=by
 unfold fnF
 split
 ·cases e<;>rfl
 ·rfl
theorem xi{α:Type}:∀(l:List α) (i:Nat) (x:α),Ra l i x=l.set i x
 |[],_,_=>rfl
 |_::_,0,_=>rfl
 |a::r,i+1,x=>by rw[Ra,xi r i x];rfl
theorem lU{ω:Nat->Nat}{z:List Value}(h:z.all d8=true):encL V ω (z.map tvc)=z.map λx=>H.d (.v x):=by
 rw[aU]
 simp only[aaF]
 refine aay λu hu=> ?_
 have:d8 u=true:=aaf.1 h u hu
 simp only[abH,xK]
 cases u<;>first|rfl|cases this
theorem rg{ω:Nat->Nat}{n:Nat}{e:Ty V.ι}:∀{parts:List (Nat×TV V.N)} {ys ys':List (den V.N e)},Q_ V e ys parts=some ys'->ys.length=n->
 oz (zR n (tsz V.sz e)) ((bY V.sz V.enc (.ar n e) ys).map .d) (parts.map λp=>(p.1,aL V ω p.2))=some ((bY V.sz V.enc (.ar n e) ys').map .d)
 |[],ys,ys',h,_=>by
  simp only[Q_,Z2]at h
  subst h;rfl
 |(i,x)::r,ys,ys',h,hn=>by
  simp only[Q_]at h
  replace h:=aG h
  obtain⟨hi,h⟩:=h
  split at h
  ·rename_i y hy
   obtain⟨cs,ds,h1,h2,_,h4⟩:=ou (ω:=ω) hy
   replace h4:=h4 rfl
   subst h4
   have hc:=dQ (ω:=ω) h1
   have hl:=cC (V:=V) e y
   have hcl:cs.length=tsz V.sz e:=by
    have:=congrArg acn h2
    rw[bE,Z7,hl]at this;exact this
   have hL:=cC (V:=V) (.ar n e) ys
   have hL2:(bY V.sz V.enc (.ar n e) ys).length=n *tsz V.sz e:=hL
   have m1:(i+1) *tsz V.sz e<=n *tsz V.sz e:=aam _ (by omega)
   rw[aaH]at m1
   rw[xi]at h
   have ih:=rg (ω:=ω) (n:=n) h (by rw[aaR];exact hn)
   simp only[aac,oz,Ch (by omega:i<n),hc]
   rw[adD ⟨by rw[bE];exact hcl,by rw[Z7,hL2];omega⟩,<-ih]
   congr 1
   rw[eK,bE,hcl,h2,Ci (by omega) hi]
   simp only[aaV,aa6,aa7]
  ·cases h
theorem BQ{t:TypeId}{parts:Array (Nat×Operand)}(ho:o.op= .build t parts)(h:xx V P t parts.toList S k=some r):OpD P nm o S k r:=by
 unfold xx at h
 split at h
 ·rename_i n e len te ag sz z hty ht hz
  split at h
  ·rename_i ys0 hys0
   replace h:=aG h
   obtain⟨⟨⟨e1,e2⟩,e3,e4⟩,h⟩:=h
   split at h
   ·rename_i ys hys
    subst e1;subst e2
    obtain⟨ds,d1,_,d3⟩:=ej (ω:=S.len) hys0
    replace d3:=d3 rfl
    subst d3
    rw[lU e3]at d1
    have hf:=rg (ω:=S.len) (n:=n) hys e4
    have hp:((parts.toList.map λ(i,x)=>(i,fnF V e (fnT (tev S x)))).map λp=>(p.1,aL V S.len p.2))=parts.toList.map λ(i,x)=>(i,fnD (Go.Awp.ev (a_ V S) x)):=by
     rw[aaF]
     refine aay λp _=> ?_
     simp only[abH,MS,r_,aI]
    rw[hp,<-d1]at hf
    refine dH h (.buildArr ho ht hz hf) ?_
    rw[cR,dV,KM]
   ·cases h
  ·cases h
 ·cases h
theorem BR{t:TypeId}{parts:Array (Nat×Operand)}(ho:o.op= .build t parts)(h:xy V P t parts.toList S k=some r):OpD P nm o S k r:=by
 unfold xy at h
 split at h
 ·rename_i z pl hz hpl
  replace h:=aG h
  obtain⟨hzc,h⟩:=h
  split at h
  ·rename_i cs hcs
   have hf:=g_ (ω:=S.len) hcs
   have hp:((parts.toList.map λ(i,x)=>(i,fnT (tev S x))).map λp=>(p.1,aL V S.len p.2))=parts.toList.map λ(i,x)=>(i,fnD (Go.Awp.ev (a_ V S) x)):=by
    rw[aaF]
    refine aay λp _=> ?_
    simp only[abH,r_,aI]
   rw[hp,lU hzc]at hf
   exact dH h (.buildSt ho hz hpl hf) (iX.2 rfl)
  ·cases h
 ·cases h
theorem oH:∀{l:List (TV V.N)} {j i:Nat},t_ V j l=some i->j<=i/\l[i-j]?=some (.raw (.slice none 0 0))
 |[],_,_,h=>by simp[t_]at h
 |x::r,j,i,h=>by
  simp only[t_]at h
  split at h
  ·simp only[Z2]at h
   subst h
   exact⟨aat _,by simp⟩
  ·obtain⟨h1,h2⟩:=oH h
   refine⟨by omega,?_⟩
   have:i-j=(i-(j+1))+1:=by omega
   rw[this]
   simpa using h2
theorem BS{t:TypeId}{parts:Array (Nat×Operand)}(ho:o.op= .build t parts)(h:xz V P t parts.toList o.dst S k=some r):OpD P nm o S k r:=by
 unfold xz at h
 split at h
 ·rename_i z pl s d hz hpl hty hd
  replace h:=aG h
  obtain⟨hzc,h⟩:=h
  split at h
  ·rename_i cs hcs
   split at h
   ·rename_i j hj
    split at h
    ·rename_i e he
     split at h
     ·rename_i hno
      rw[xi]at h
      have hf:=g_ (ω:=S.len) hcs
      have hp:((parts.toList.map λ(i,x)=>(i,tev S x)).map λp=>(p.1,aL V S.len p.2))=parts.toList.map λ(i,x)=>(i,Go.Awp.ev (a_ V S) x):=by
       rw[aaF]
       refine aay λp _=> ?_
       simp only[abH,aI]
      rw[hp,lU hzc]at hf
      have hjc:cs[j]?=some (.raw (.slice none 0 0)):=by have:=(oH hj).2;simpa using this
      have base:aW P nm o (Go.Awp.ev (a_ V S)) (a_ V S).own? {val:=cR (encL V S.len cs)}:= .ofAVal λρ' ω' hρ hω=>by
       have hpp:(parts.toList.map λ(i,x)=>(i,ρ' x))=parts.toList.map λ(i,x)=>(i,Go.Awp.ev (a_ V S) x):=by
        refine aay λp hp=> ?_
        have:ρ' p.2=_:=hρ p.2 (by rw[ho];simp only[Op.operands];simpa using ⟨p.1,by simpa using hp⟩)
        simp only[this]
       simp only[bN,ho,hz,hpl,hpp,hf]
      refine⟨_,h,λm o1 hm=> ?_,_, .sem (.nilTop (nn:=53000+d) (e:=V.tid e) (sz:=tsz V.sz e) (i:=j) hd (by rw[aU,Z6,hjc];rfl) (by rw[encL_has];exact hno) base),cX ?_ rfl rfl rfl⟩
      ·simp only[aH]at hm
       split at hm
       ·rename_i q;left;simp[q]
       ·simp[gt]at hm
      ·simp only[aL]
       congr 1
       rw[aU _ (cs.set j _),abD]
       congr 1
       ·rw[<-aU]
        refine(encL_congr cs λq hq=> ?_).symm
        rw[d5]
        simp only[aH]
        rw[adC λe0=>by rw[<-e0,hno]at hq;cases hq]
        rfl
       ·simp only[aL]
        rw[d5]
        simp only[aH,adz]
        rfl
     ·cases h
    ·cases h
   ·cases h
  ·cases h
 ·cases h
end
end Go.Tx
end
section
namespace Go.Tx
open Go.Awp
variable [Inhabited GMem]
section
variable (V:iE) (P:Program) (nm:Nat->Nat)
def bR(d:Nat):Nat:=50000+d
def kw(kt:TypeId):Ty V.ι->Bool
 | .st i=>DP P kt&&match iM P 100 kt with
  |some ks=>decide (eF V (V.tys i)=some ks)
  |none=>false
 |tk=>fm (P.underlying kt) tk
def qj{B:Type}(S:TS V.N)(n:Nat)(f:(m:Nat)->TypeId->(tk tv:Ty V.ι)->List (Option (List (den V.N tk×den V.N tv)))->Nat->List (den V.N tk×den V.N tv)->Option B):Option B:=match S.own? n with
 |some (.alias m)=>match S.own? m with
  |some (.maps te tk tv es (some (n',i)))=>if n'=n/\¬n=m then es[i]?>>=λo=>o>>=λm0=>f m te tk tv es i m0 else none
  |_=>none
 |_=>none
def Hq{B:Type}(c:Bool)(tk tv:Ty V.ι)(key:den V.N tk)(z:den V.N tv)(es:List (den V.N tk×den V.N tv))(f:TV V.N->B):B:=match c with
 |true=>f (.tup [.lf tv ((Mp.get (keq V.cells tk) key es).getD z), .lf .bool (Mp.get (keq V.cells tk) key es).isSome])
 |false=>f (.lf tv ((Mp.get (keq V.cells tk) key es).getD z))
def Gb{A:Type}(t:TypeId)(x i:Operand)(c:Bool)(S:TS V.N)(k:TE V.N->Option A):Option A:=match P.underlying t,tev S x,tev S i with
 |some (.map kt et), .mp n, .lf tk key=>match lT P et with
  |some d=>match S.own? n with
   |some (.map tk' tv es)=>match ofZ V true tv d with
    |some z=>if h:tk=tk' then if kw V P kt tk'=true then Hq V c tk' tv (h▸key) z es λv=>k {val:=v,acc:=[n]}else none else none
    |none=>none
   |_=>qj V S n λm te tk' tv es j m0=>match ofZ V true tv d with
    |some z=>if h:tk=tk' then if kw V P kt tk'=true then Hq V c tk' tv (h▸key) z m0 λv=>k {val:=v,acc:=[m,n],upd:=[(m, .maps te tk' tv es (some (n,j))),(n, .alias m)]}else none else none
    |none=>none
  |none=>none
 |_,_,_=>none
def J8{A:Type}(t:TypeId)(x i y:Operand)(S:TS V.N)(k:TE V.N->Option A):Option A:=match P.underlying t,tev S x,tev S i,tev S y with
 |some (.map kt _), .mp n, .lf tk key, .lf tv z=>match S.own? n with
  |some (.map tk' tv' es)=>if h:tk=tk' then
   if h':tv=tv' then
    if kw V P kt tk'=true then k {val:= .junk,acc:=[n],upd:=[(n, .map tk' tv' (Mp.set (keq V.cells tk') (klt tk') (h▸key) (h'▸z) es))]}else none
   else none
   else none
  |_=>qj V S n λm te tk' tv' es j m0=>if h:tk=tk' then
   if h':tv=tv' then
    if kw V P kt tk'=true then k {val:= .junk,acc:=[m,n],upd:=[(m, .maps te tk' tv' (es.set j (some (Mp.set (keq V.cells tk') (klt tk') (h▸key) (h'▸z) m0))) (some (n,j))),(n, .alias m)]}else none
   else none
   else none
 |_,_,_,_=>none
def OE{A:Type}(args:List (TV V.N))(tys:List TypeId)(S:TS V.N)(k:TE V.N->Option A):Option A:=match args with
 |[.mp n]=>if dJ P tys=3 then qj V S n λm te tk tv es j m0=>k {val:= .lf (.int .i64) m0.length,acc:=[m,n],upd:=[(m, .maps te tk tv es (some (n,j))),(n, .alias m)]}else none
 |_=>none
def xF{A:Type}(t:TypeId)(x:Operand)(dst:Option Tmp)(S:TS V.N)(k:TE V.N->Option A):Option A:=match P.underlying t,tev S x,dst with
 |some (.map _ _), .mp n,some d=>qj V S n λm te tk tv es j m0=>
  if¬bR d=n/\¬bR d=m then k {val:= .bp (bR d) 0,acc:=[m,n],upd:=[(bR d, .miter n tk tv m0 m0 none),(n, .gone 0),(m, .maps te tk tv (es.set j none) none)],new:=[bR d]}else none
 |_,_,_=>none
def s5{A:Type}(t:TypeId)(x i:Operand)(S:TS V.N)(k:TE V.N->Option A):Option A:=match cK P t,tev S x,tev S i with
 |some (_,sz,_), .vh m, .lf (.int _) n=>match S.own? m with
  |some (.maps _ _ _ es _)=>if 0<=n/\n<es.length then k {val:= .ep m sz n.toNat 0,acc:=[m]}else none
  |some (.que _ _ xs)=>if 0<=n/\n<xs.length then k {val:= .ep m sz n.toNat 0,acc:=[m]}else none
  |_=>none
 |_,_,_=>none
def pM{A:Type}(t:TypeId)(x:Operand)(dst:Option Tmp)(S:TS V.N)(k:TE V.N->Option A):Option A:=match cW P t,tev S x,dst with
 |some (false,1), .ep m 1 i 0,some d=>match S.own? m with
  |some (.maps te tk tv es _)=>es[i]?>>=λo=>o>>=λ_=>if¬bR d=m then k {val:= .mp (bR d),acc:=[m],upd:=[(m, .maps te tk tv es (some (bR d,i))),(bR d, .alias m)],new:=[bR d]}else none
  |_=>none
 |_,_,_=>none
def lR{A:Type}(t:TypeId)(x y:Operand)(S:TS V.N)(k:TE V.N->Option A):Option A:=match cW P t,tev S x,tev S y with
 |some (_,1), .ep m 1 i 0, .mp n=>match S.own? m,S.own? n with
  |some (.maps te tk tv es _),some (.map tk' tv' e0)=>if h:tk'=tk/\tv'=tv then
   if i<es.length/\¬n=m then k {val:= .junk,acc:=[m,n],upd:=[(m, .maps te tk tv (es.set i (some (h.1▸h.2▸e0))) none),(n, .gone 0)]}else none
   else none
  |_,_=>none
 |_,_,_=>none
def pL{A:Type}(t:TypeId)(l c:Operand)(dst:Option Tmp)(S:TS V.N)(k:TE V.N->Option A):Option A:=match V.ty t,cK P t,dst with
 |some (.sl (.mp tk tv)),some (te,1,bytes),some d=>match iB P te,tev S l,tev S c with
  |some [_], .lf (.int _) _, .lf (.int _) m=>match rf l c with
   |true=>if bytes<=32768 then if 0<=m then if m<=4294967296 then k {val:= .vh (bR d),upd:=[(bR d, .maps te tk tv (aak m.toNat none) none)],new:=[bR d]}else none else none else none
   |false=>none
  |_,_,_=>none
 |_,_,_=>none
def xA{A:Type}(t:TypeId)(len:Nat)(parts:List (Nat×Operand))(dst:Option Tmp)(S:TS V.N)(k:TE V.N->Option A):Option A:=match cK P t,V.ty t,dst with
 |some (te,sz,_),some (.sl e),some d=>if sz=tsz V.sz e/\parts.length=len/\len *sz<=16777216/\0<len then
  match Bm V true e 0 (parts.map λ(i,x)=>(i,fnT (tev S x)))with
  |some ys=>k {val:= .vh (bR d),upd:=[(bR d, .que te e ys)],new:=[bR d]}
  |none=>none
  else none
 |_,_,_=>none
def xI{A:Type}(t:TypeId)(x:Operand)(lo hi mx:Option Operand)(dst:Option Tmp)(S:TS V.N)(k:TE V.N->Option A):Option A:=match mx,cK P t,dst,tev S x with
 |none,some (_,sz,_),some d, .vh m=>match lo,hi,S.own? m with
  |some l,none,some (.que te e xs)=>match tev S l with
   | .lf (.int _) n=>if sz=tsz V.sz e then if 0<=n then if n<=xs.length then k {val:= .vh (bR d),acc:=[m],upd:=[(bR d, .que te e (xs.drop n.toNat)),(m, .gone (S.len m))],new:=[bR d]}else none else none else none
   |_=>none
  |none,some h,some (.vec te e xs)=>match tev S h with
   | .lf (.int _) n=>if 0<=n then if n<=xs.length then k {val:= .vh (bR d),acc:=[m],upd:=[(bR d, .vec te e (xs.take n.toNat)),(m, .gone (S.len m))],new:=[bR d]}else none else none
   |_=>none
  |_,_,_=>none
 |_,_,_,_=>none
def Ow{A:Type}(args:List (TV V.N))(tys:List TypeId)(dst:Option Tmp)(S:TS V.N)(k:TE V.N->Option A):Option A:=match args,tys,dst with
 |[x,y],[t,t'],some d=>match cK P t with
  |some (te,sz,bytes)=>if t=t'/\bytes<=32768 then match y with
   | .lf (.sl e') (y0::ys)=>match x with
    | .vh n=>match S.own? n with
     |some (.que te2 e xs)=>if h:e'=e then
      if te=te2/\sz=tsz V.sz e then
       if xs.length+(y0::ys).length<=most then k {val:= .vh (bR d),acc:=[n],upd:=[(bR d, .que te e (xs++h▸(y0::ys))),(n, .gone (S.len n))],new:=[bR d]}else none
      else none
      else none
     |_=>none
    |_=>none
   | .sv m sz2 lo len=>match S.own? m with
    |some (.vec _ e2 xs2)=>if sz=tsz V.sz e2/\sz2=sz then
     if lo+len<=xs2.length then match x with
      | .vh n=>match S.own? n with
       |some (.vec te1 e xs)=>if h:e2=e then
        if te=te1/\¬n=m then
         if xs.length+len<=most then k {val:= .vh (bR d),acc:=[m,n],upd:=[(bR d, .vec te e (xs++h▸(xs2.drop lo).take len)),(n, .gone (S.len n))],new:=[bR d]}else none
        else none
        else none
       |_=>none
      | .raw (.slice none 0 0)=>if len<=most then k {val:= .vh (bR d),acc:=[m],upd:=[(bR d, .vec te e2 ((xs2.drop lo).take len))],new:=[bR d]}else none
      |_=>none
     else none
     else none
    |_=>none
   |_=>none
   else none
  |none=>none
 |_,_,_=>none
def F9{A:Type}(args:List (TV V.N))(tys:List TypeId)(S:TS V.N)(k:TE V.N->Option A):Option A:=match args,tys with
 |[.vh m,y],t::_=>match cK P t,S.own? m with
  |some (te,sz,_),some (.vec te1 e xs)=>if te=te1/\sz=tsz V.sz e then match y with
   | .sv m2 sz2 lo len=>match S.own? m2 with
    |some (.vec _ e2 xs2)=>if h:e2=e then
     if sz2=sz/\¬m2=m then
      if lo+len<=xs2.length then k {val:= .lf (.int .i64) (min len xs.length:Nat),acc:=[m,m2],upd:=[(m, .vec te e (((h▸(xs2.drop lo).take len).take xs.length)++xs.drop len))]}else none
     else none
     else none
    |_=>none
   | .lf (.sl e2) ys=>if h:e2=e then k {val:= .lf (.int .i64) (min ys.length xs.length:Nat),acc:=[m],upd:=[(m, .vec te e (((h▸ys).take xs.length)++xs.drop ys.length))]}else none
   |_=>none
   else none
  |_,_=>none
 |_,_=>none
def Oy{A:Type}(x:Operand)(S:TS V.N)(k:TE V.N->Option A):Option A:=match tev S x with
 | .lf (.st i) y=>k {val:= .lf (.op (.st i)) (some y)}
 |_=>none
end
section
variable {V:iE} {P:Program} {nm:Nat->Nat} {o:Oper} {S:TS V.N} {A:Type} {k:TE V.N->Option A} {r:A}
theorem Hh{t:TypeId}(h:DP P t=true):∃fs,P.underlying t=some (.struct fs):=by
 unfold DP at h
 split at h
 ·exact⟨_,‹_›⟩
 ·cases h
theorem sj{kt:TypeId}{i:V.ι}(h:kw V P kt (.st i)=true):∃fs ks,P.underlying kt=some (.struct fs)/\iM P 100 kt=some ks/\eF V (V.tys i)=some ks:=by
 simp only[kw,Z8]at h
 obtain⟨fs,hfs⟩:=Hh h.1
 have h2:=h.2
 split at h2
 ·rename_i ks hks
  exact⟨fs,ks,hfs,hks,by simpa using h2⟩
 ·cases h2
theorem J_(xs:List Value):(xs.map D.v).map W5=xs:=by
 rw[aaF]
 exact(aay λx _=>rfl).trans (List.map_id xs)
theorem oL{kt:TypeId}{i:V.ι}(h:kw V P kt (.st i)=true)(x:V.N i):V.enc i x=((V.cells i x).map iS).map .v/\ew V.enc (.st i) x= .agg ((V.cells i x).map iS).toArray:=by
 obtain⟨fs,ks,h1,h2,h3⟩:=sj h
 obtain⟨a1,a2⟩:=ee (a:=x) h3
 refine⟨a1,?_⟩
 simp only[ew]
 rw[a1,J_]
theorem iR{kt:TypeId}{tk:Ty V.ι}(h:kw V P kt tk=true):(∃i,tk= .st i)\/∃kind,P.underlying kt=some kind/\fm (some kind) tk=true:=by
 cases tk with
 |st i=>exact .inl ⟨i,rfl⟩
 |_=>
  right
  simp only[kw]at h
  cases hu:P.underlying kt with
  |none=>rw[hu]at h;simp[fm]at h
  |some kind=>rw[hu]at h;exact⟨kind,rfl,h⟩
theorem SF{kt:TypeId}{tk:Ty V.ι}(h:kw V P kt tk=true)(x:den V.N tk):∀M v,df M v (bC V.sz V.enc tk x)->v=ew V.enc tk x:=by
 intro M v hv
 rcases iR h with⟨i,rfl⟩|⟨kind,hu,hk⟩
 ·obtain⟨h1,h2⟩:=oL h x
  rw[h2]
  simp only[bC]at hv
  rw[h1]at hv
  exact oq hv
 ·rw[sk hk]at hv
  cases hv;rfl
theorem si{kt:TypeId}{tk:Ty V.ι}(h:kw V P kt tk=true)(x y:den V.N tk):keq V.cells tk x y=true↔ew V.enc tk x=ew V.enc tk y:=by
 rcases iR h with⟨i,rfl⟩|⟨kind,hu,hk⟩
 ·obtain⟨fs,ks,h1,h2,h3⟩:=sj h
  rw[(oL h x).2,(oL h y).2]
  simp only[keq]
  rw[<-yB h3,g8 (ee h3).2 (ee h3).2]
  simp
 ·have hs:=kz hk x y
  cases he:keq V.cells tk x y with
  |true=>
   rw[he]at hs
   simp only[true_iff]
   exact fD hs
  |false=>
   rw[he]at hs
   simp only[Z0,false_iff]
   exact jB hs
theorem nk{kt:TypeId}{tk tv:Ty V.ι}(h:kw V P kt tk=true)(x:den V.N tk)(es:List (den V.N tk×den V.N tv)):pT P kt (ew V.enc tk x) ((es.map λp=>(ew V.enc tk p.1,bC V.sz V.enc tv p.2)).map (·.1)):=by
 rcases iR h with⟨i,rfl⟩|⟨kind,hu,hk⟩
 ·obtain⟨fs,ks,h1,h2,h3⟩:=sj h
  rw[(oL h x).2]
  refine .struct (d:=100) h1 (by decide) h2 (ee h3).2 λk hk=> ?_
  rw[aaF]at hk
  obtain⟨p,_,rfl⟩:=aav.1 hk
  exact⟨(V.cells i p.1).map iS,(oL h p.1).2,(ee h3).2⟩
 ·refine .simple hu (ju hk) λk hkm=> ?_
  have:∃y:den V.N tk,k=ew V.enc tk y:=by
   rcases aai.1 hkm with rfl|hkm
   ·exact⟨x,rfl⟩
   ·rw[aaF]at hkm
    obtain⟨p,_,rfl⟩:=aav.1 hkm
    exact⟨p.1,rfl⟩
  obtain⟨y,rfl⟩:=this
  rw[kz hk x y];rfl
theorem DA{kt:TypeId}{tk tv:Ty V.ι}(h:kw V P kt tk=true)(x:den V.N tk):∀es:List (den V.N tk×den V.N tv),
 Ma (ew V.enc tk x) (es.map λp=>(ew V.enc tk p.1,bC V.sz V.enc tv p.2)) ((Mp.get (keq V.cells tk) x es).map (bC V.sz V.enc tv))
 |[]=> .inl ⟨rfl,λp hp=>by cases hp⟩
 |p::r=>by
  simp only[Mp.get,aac]
  cases he:keq V.cells tk x p.1 with
  |true=>
   exact .inr ⟨_,aag,((si h x p.1).1 he).symm,rfl⟩
  |false=>
   have hne:¬ew V.enc tk x=ew V.enc tk p.1:=λe=>by rw[(si h x p.1).2 e]at he;cases he
   rw[adC (by decide)]
   rcases DA h x r with⟨h1,h2⟩|⟨q,h1,h2,h3⟩
   ·refine .inl ⟨h1,λq hq=> ?_⟩
    rcases aai.1 hq with rfl|hq
    ·exactλe=>hne e.symm
    ·exact h2 q hq
   ·exact .inr ⟨q,aab _ h1,h2,h3⟩
theorem Fk{kt:TypeId}{tk tv:Ty V.ι}(h:kw V P kt tk=true)(x:den V.N tk)(y:den V.N tv):∀es:List (den V.N tk×den V.N tv),
 Cc (ew V.enc tk x) (bC V.sz V.enc tv y) (es.map λp=>(ew V.enc tk p.1,bC V.sz V.enc tv p.2)) ((Mp.put (keq V.cells tk) x y es).map λp=>(ew V.enc tk p.1,bC V.sz V.enc tv p.2))
 |[]=> .inl ⟨rfl,λp hp=>by cases hp⟩
 |p::r=>by
  simp only[Mp.put,aac]
  cases he:keq V.cells tk x p.1 with
  |true=>
   exact .inr ⟨0,_,rfl,((si h x p.1).1 he).symm,rfl⟩
  |false=>
   have hne:¬ew V.enc tk x=ew V.enc tk p.1:=λe=>by rw[(si h x p.1).2 e]at he;cases he
   rw[adC (by decide)]
   rcases Fk h x y r with⟨h1,h2⟩|⟨j,q,h1,h2,h3⟩
   ·refine .inl ⟨by rw[aac,h1];rfl,λq hq=> ?_⟩
    rcases aai.1 hq with rfl|hq
    ·exactλe=>hne e.symm
    ·exact h2 q hq
   ·exact .inr ⟨j+1,q,by simpa using h1,h2,by rw[aac,h3];rfl⟩
theorem gZ{B:Type}{n:Nat}{b:B}{f:(m:Nat)->TypeId->(tk tv:Ty V.ι)->List (Option (List (den V.N tk×den V.N tv)))->Nat->List (den V.N tk×den V.N tv)->Option B}(h:qj V S n f=some b):
 ∃m te tk tv es i m0,S.own? n=some (.alias m)/\S.own? m=some (.maps te tk tv es (some (n,i)))/\n≠m/\es[i]?=some (some m0)/\f m te tk tv es i m0=some b:=by
 unfold qj at h
 split at h
 ·rename_i m hn
  split at h
  ·rename_i te tk tv es n' i hm
   replace h:=aG h
   obtain⟨⟨rfl,hnm⟩,h⟩:=h
   replace h:=b9 h
   obtain⟨o,ho,h⟩:=h
   replace h:=b9 h
   obtain⟨m0,rfl,h⟩:=h
   exact⟨m,te,tk,tv,es,i,m0,hn,hm,hnm,ho,h⟩
  ·cases h
 ·cases h
theorem zo{α:Type}{l:List α}{i:Nat}{x:α}(h:l[i]?=some x):l.set i x=l:=by
 apply abp
 intro j
 rw[aa_]
 split
 ·rename_i e;subst e
  rw[adD (Z4.1 h).1,h]
 ·rfl
theorem sM{n m:Nat}{o1 o2:TO V.N}{x1 x2:Option Own}{v:TV V.N}{h:H}{l:List Nat}(h1:∀ω,cp V ω o1=x1)(h2:∀ω,cp V ω o2=x2)(hl1:TO.len (some o1)=S.len n)(hl2:TO.len (some o2)=S.len m)(hv:∀ω,aL V ω v=h)
 (hk:k {val:=v,acc:=l,upd:=[(n,o1),(m,o2)]}=some r)(hs:aW P nm o (Go.Awp.ev (a_ V S)) (a_ V S).own? {val:=h,acc:=l,upd:=[(n,x1),(m,x2)]}):OpD P nm o S k r:=by
 refine⟨_,hk,λq o' hq=> ?_,_, .sem hs,cX (hv _).symm rfl (by simp[h1,h2]) rfl⟩
 simp only[aH]at hq
 right
 split at hq
 ·rename_i e;simp at hq;subst hq;subst e;exact hl1
 ·split at hq
  ·rename_i e;simp at hq;subst hq;subst e;exact hl2
  ·simp[gt]at hq
def ov(tk tv:Ty V.ι)(l:List (den V.N tk×den V.N tv)):List (Value×D):=l.map λp=>(ew V.enc tk p.1,bC V.sz V.enc tv p.2)
theorem qR{c:Bool}{tk tv:Ty V.ι}{key:den V.N tk}{z:den V.N tv}{es:List (den V.N tk×den V.N tv)}{f:TV V.N->Option A}(h:Hq V c tk tv key z es f=some r):
 ∃v,f v=some r/\∀ω,aL V ω v=if c=true then .tup [.d (((Mp.get (keq V.cells tk) key es).map (bC V.sz V.enc tv)).getD (bC V.sz V.enc tv z)), .d (.v (.bool ((Mp.get (keq V.cells tk) key es).map (bC V.sz V.enc tv)).isSome))]
  else .d (((Mp.get (keq V.cells tk) key es).map (bC V.sz V.enc tv)).getD (bC V.sz V.enc tv z)):=by
 unfold Hq at h
 cases c with
 |true=>
  refine⟨_,h,λω=> ?_⟩
  simp only[aL,encL,adz,acT]
  cases Mp.get (keq V.cells tk) key es<;>rfl
 |false=>
  refine⟨_,h,λω=> ?_⟩
  simp only[aL,Z0,adA]
  cases Mp.get (keq V.cells tk) key es<;>rfl
theorem Gc{t:TypeId}{x i:Operand}{c:Bool}(ho:o.op= .lookup t x i c)(h:Gb V P t x i c S k=some r):OpD P nm o S k r:=by
 unfold Gb at h
 split at h
 ·rename_i kt et n tk key ht hx hi
  split at h
  ·rename_i d hd
   split at h
   ·rename_i tk' tv es hown
    split at h
    ·rename_i z hz
     split at h
     ·rename_i htk
      subst htk
      replace h:=aG h
      obtain⟨hk,h⟩:=h
      obtain⟨v,h,hv⟩:=qR h
      exact dH h (.lookupK ho ht hd (by rw[aI,hx];rfl) (by rw[aI,hi];rfl) (SF hk key) (je hown) (nk hk key es) (DA hk key es)) (by rw[hv,(pa hz).2 rfl])
     ·cases h
    ·cases h
   ·obtain⟨m,te,tk',tv,es,j,m0,hn,hm,hnm,hj,h⟩:=gZ h
    split at h
    ·rename_i z hz
     split at h
     ·rename_i htk
      subst htk
      replace h:=aG h
      obtain⟨hk,h⟩:=h
      obtain⟨v,h,hv⟩:=qR h
      have hj':(es.map λo=>o.map (ov (V:=V) tk tv))[j]?=some (some (ov tk tv m0)):=by rw[Z6,hj];rfl
      refine sM (x1:=some (.maps te (es.map λo=>o.map (ov tk tv)) (some (n,j)))) (x2:=none) (λω=>rfl) (λω=>rfl) (by rw[ia hm];rfl) (by rw[kB hn];rfl) hv h ?_
      have:=aW.viaAlias (P:=P) (nm:=nm) (o:=o) (ρ:=Go.Awp.ev (a_ V S)) (m1:=ov tk tv m0) (ij hm) hj' (kV hn) hnm
       (v:=if c=true then .tup [.d (((Mp.get (keq V.cells tk) key m0).map (bC V.sz V.enc tv)).getD (bC V.sz V.enc tv z)), .d (.v (.bool ((Mp.get (keq V.cells tk) key m0).map (bC V.sz V.enc tv)).isSome))]
         else .d (((Mp.get (keq V.cells tk) key m0).map (bC V.sz V.enc tv)).getD (bC V.sz V.enc tv z)))
       λω' hω'=> .told hω' (by
        have:=aW.lookupK (nm:=nm) ho ht hd (ω:=ω') (c:=c) (key:=ew V.enc tk key) (dk:=bC V.sz V.enc tk key) (ρ:=Go.Awp.ev (a_ V S)) (by rw[aI,hx];rfl) (by rw[aI,hi];rfl) (SF hk key) hω' (nk hk key m0) (DA hk key m0)
        rw[(pa hz).2 rfl]at this
        exact this)
      have hs:(es.map λo=>o.map λl=>l.map λp=>(ew V.enc tk p.1,bC V.sz V.enc tv p.2)).set j (some (ov tk tv m0))=es.map λo=>o.map λl=>l.map λp=>(ew V.enc tk p.1,bC V.sz V.enc tv p.2):=zo hj'
      rw[hs]at this
      exact this
     ·cases h
    ·cases h
  ·cases h
 ·cases h
theorem zz{t:TypeId}{x i y:Operand}(ho:o.op= .mapUpdate t x i y\/o.op= .insert t x i y)(h:J8 V P t x i y S k=some r):OpD P nm o S k r:=by
 unfold J8 at h
 split at h
 ·rename_i kt et n tk key tv z ht hx hi hy
  split at h
  ·rename_i tk' tv' es hown
   split at h
   ·rename_i e1
    subst e1
    split at h
    ·rename_i e2
     subst e2
     replace h:=aG h
     obtain⟨hk,h⟩:=h
     exact wZ (x:= .map (ov tk tv (Mp.set (keq V.cells tk) (klt tk) key z es))) (λω=>rfl) (by rw[sq hown];rfl) h
      (.updateK ho ht (by rw[aI,hx];rfl) (by rw[aI,hi];rfl) (SF hk key) (by rw[aI,hy];rfl) (je hown) (nk hk key es) (Fk hk key z es) ((Mp.set_perm _ _ _ _ _).map _))
    ·cases h
   ·cases h
  ·obtain⟨m,te,tk',tv',es,j,m0,hn,hm,hnm,hj,h⟩:=gZ h
   split at h
   ·rename_i e1
    subst e1
    split at h
    ·rename_i e2
     subst e2
     replace h:=aG h
     obtain⟨hk,h⟩:=h
     have hj':(es.map λo=>o.map (ov (V:=V) tk tv))[j]?=some (some (ov tk tv m0)):=by rw[Z6,hj];rfl
     refine sM (x1:=some (.maps te ((es.map λo=>o.map (ov tk tv)).set j (some (ov tk tv (Mp.set (keq V.cells tk) (klt tk) key z m0)))) (some (n,j)))) (x2:=none) (h:= .junk) (λω=>by simp only[cp,abD];rfl) (λω=>rfl) (by rw[ia hm];simp[TO.len]) (by rw[kB hn];rfl) (λω=>rfl) h ?_
     exact aW.viaAlias (ij hm) hj' (kV hn) hnm λω' hω'=>
      .updateK (ω:=ω') ho ht (by rw[aI,hx];rfl) (by rw[aI,hi];rfl) (SF hk key) (by rw[aI,hy];rfl) hω' (nk hk key m0) (Fk hk key z m0) ((Mp.set_perm _ _ _ _ _).map _)
    ·cases h
   ·cases h
 ·cases h
theorem JO{c:Call}(ho:o.op= .call c)(hc:c.callee= .builtin .len)(h:OE V P (c.args.toList.map (tev S)) c.argTypes.toList S k=some r):OpD P nm o S k r:=by
 unfold OE at h
 split at h
 ·rename_i n hargs
  replace h:=aG h
  obtain⟨hk,h⟩:=h
  obtain⟨m,te,tk,tv,es,j,m0,hn,hm,hnm,hj,h⟩:=gZ h
  obtain⟨p,hpq,hpx⟩:∃p,c.args.toList=[p]/\tev S p= .mp n:=by
   match hcl:c.args.toList,hargs with
   |[p],hargs=>simp at hargs;exact⟨p,rfl,hargs⟩
   |[],hargs=>simp at hargs
   |_::_::_,hargs=>simp at hargs
  have hj':(es.map λo=>o.map (ov (V:=V) tk tv))[j]?=some (some (ov tk tv m0)):=by rw[Z6,hj];rfl
  have hs:(es.map λo=>o.map λl=>l.map λp=>(ew V.enc tk p.1,bC V.sz V.enc tv p.2)).set j (some (ov tk tv m0))=es.map λo=>o.map λl=>l.map λp=>(ew V.enc tk p.1,bC V.sz V.enc tv p.2):=zo hj'
  refine sM (x1:=some (.maps te (es.map λo=>o.map (ov tk tv)) (some (n,j)))) (x2:=none) (h:= .d (.v (.int .i64 m0.length))) (λω=>rfl) (λω=>rfl) (by rw[ia hm];rfl) (by rw[kB hn];rfl) (λω=>rfl) h ?_
  have:=aW.viaAlias (P:=P) (nm:=nm) (o:=o) (ρ:=Go.Awp.ev (a_ V S)) (v:= .d (.v (.int .i64 m0.length))) (m1:=ov tk tv m0) (ij hm) hj' (kV hn) hnm λω' hω'=> .told hω' (.ofAVal λρ' ω2 hρ hω=>by
   have hx':ρ' p= .mp n:=by
    rw[hρ p (by rw[ho];simp only[Op.operands,Call.operands,hc];(have:p∈c.args.toList:=by rw[hpq];simp);simpa using this),aI,hpx];rfl
   have ho':ω2 n=some (.map (ov tk tv m0)):=(hω n (by simp)).trans hω'
   simp only[bN,ho,hc,hpq,aac,aaT,hx',ho']
   exact⟨hk,by rw[ov,Z7]⟩)
  rw[hs]at this
  exact this
 ·cases h
theorem BW{t:TypeId}{x:Operand}(ho:o.op= .range t x)(h:xF V P t x o.dst S k=some r):OpD P nm o S k r:=by
 unfold xF at h
 split at h
 ·rename_i kt et n d ht hx hd
  obtain⟨m,te,tk,tv,es,j,m0,hn,hm,hnm,hj,h⟩:=gZ h
  replace h:=aG h
  obtain⟨⟨hf1,hf2⟩,h⟩:=h
  have hj':(es.map λo=>o.map (ov (V:=V) tk tv))[j]?=some (some (ov tk tv m0)):=by rw[Z6,hj];rfl
  refine⟨_,h,λq o' hq=> ?_,_, .sem (.rangeAlias (nn:=bR d) ho ⟨_,_,ht⟩ (by rw[aI,hx];rfl) (by rw[hd];simp) (ij hm) hj' (kV hn) ⟨hf1,hf2⟩),cX rfl rfl (by simp only[aac,aaT,cp,abD];rfl) rfl⟩
  simp only[aH]at hq
  split at hq
  ·rename_i e;left;simp[e]
  ·right
   split at hq
   ·rename_i e;simp at hq;subst hq;subst e;rw[kB hn];rfl
   ·split at hq
    ·rename_i e;simp at hq;subst hq;subst e;rw[ia hm];simp[TO.len]
    ·simp[gt]at hq
 ·cases h
theorem xD{t:TypeId}{x i:Operand}(ho:o.op= .indexAddr t x i)(h:s5 V P t x i S k=some r):OpD P nm o S k r:=by
 unfold s5 at h
 split at h
 ·rename_i te sz by_ m kk n ht hx hi
  split at h
  ·rename_i te2 tk tv es al hm
   replace h:=aG h
   obtain⟨⟨h0,h1⟩,h⟩:=h
   refine dH h (.indexMaps ho ht ?_ (by rw[aI,hi];rfl) (ij hm) h0 (by rw[Z7];exact h1)) rfl
   rw[aI,hx,Z7]
   simp only[aL,ia hm]
  ·rename_i te2 e xs hm
   replace h:=aG h
   obtain⟨⟨h0,h1⟩,h⟩:=h
   refine dH h (.qindex ho ht ?_ (by rw[aI,hi];rfl) (sO hm) h0 (by rw[Z7];exact h1)) rfl
   rw[aI,hx,Z7]
   simp only[aL,wB hm]
  ·cases h
 ·cases h
theorem aW.more{v:H}{acc new:List Nat}{upd:List (Nat×Option Own)}{d:Nat}{ρ:Operand->H}{ω:Nat->Option Own}(h:aW P nm o ρ ω {val:=v,acc:=acc,upd:=upd,new:=new}):aW P nm o ρ ω {val:=v,acc:=acc,upd:=upd++[(d,none)],new:=new}:=by
 refine aW.ole h λown n o hn=>⟨o,?_,OLe.refl _⟩
 simp only[abj,e_]at hn⊢
 cases hu:gt upd n with
 |some x=>rw[hu]at hn;exact hn
 |none=>
  rw[hu]at hn
  simp only[aaU,aad,aH]at hn
  by_cases e:d=n
  ·rw[adD e]at hn;cases hn
  ·rw[adC e]at hn
   simpa[gt]using hn
theorem vg{t:TypeId}{x:Operand}(ho:o.op= .load t x)(h:pM V P t x o.dst S k=some r):OpD P nm o S k r:=by
 unfold pM at h
 split at h
 ·rename_i m i d ht hx hd
  split at h
  ·rename_i te tk tv es al hm
   replace h:=b9 h
   obtain⟨o1,ho1,h⟩:=h
   replace h:=b9 h
   obtain⟨m0,rfl,h⟩:=h
   replace h:=aG h
   obtain⟨hf,h⟩:=h
   have hj':(es.map λo=>o.map (ov (V:=V) tk tv))[i]?=some (some (ov tk tv m0)):=by rw[Z6,ho1];rfl
   refine⟨_,h,λq o' hq=> ?_,_, .sem (aW.more (d:=bR d) (.loadMap (d:=bR d) ho ht (by rw[aI,hx];rfl) (ij hm) hj' hf)),cX rfl rfl rfl rfl⟩
   simp only[aH]at hq
   split at hq
   ·rename_i e;right;simp at hq;subst hq;subst e;rw[ia hm];rfl
   ·split at hq
    ·rename_i e;left;simp[e]
    ·simp[gt]at hq
  ·cases h
 ·cases h
theorem s6{t:TypeId}{x y:Operand}(ho:o.op= .store t x y)(h:lR V P t x y S k=some r):OpD P nm o S k r:=by
 unfold lR at h
 split at h
 ·rename_i ag m i n ht hx hy
  split at h
  ·rename_i te tk tv es al tk' tv' e0 hm hn
   split at h
   ·rename_i hh
    obtain⟨e1,e2⟩:=hh
    subst e1;subst e2
    replace h:=aG h
    obtain⟨⟨hi,hnm⟩,h⟩:=h
    refine sM (x1:=some (.maps te ((es.map λo=>o.map (ov tk' tv')).set i (some (ov tk' tv' e0))) none)) (x2:=none) (h:= .junk) (λω=>by simp only[cp,abD];rfl) (λω=>rfl) (by rw[ia hm];simp[TO.len]) (by rw[sq hn];rfl) (λω=>rfl) h ?_
    exact .storeMap ho ht (by rw[aI,hx];rfl) (by rw[aI,hy];rfl) (ij hm) (je hn) (by rw[Z7];exact hi) hnm
   ·cases h
  ·cases h
 ·cases h
theorem Br{l c:Operand}(h:rf l c=true):l=c:=by
 unfold rf at h
 split at h
 ·rw[aaL h]
 ·cases h
theorem vf{t:TypeId}{l c:Operand}(ho:o.op= .makeSlice t l c)(h:pL V P t l c o.dst S k=some r):OpD P nm o S k r:=by
 unfold pL at h
 split at h
 ·rename_i tk tv te bytes d hty ht hd
  split at h
  ·rename_i z0 kn n km m hz hl hc
   split at h
   ·rename_i hsame
    replace h:=aG h
    obtain⟨hb,h⟩:=h
    replace h:=aG h
    obtain⟨h0,h⟩:=h
    replace h:=aG h
    obtain⟨h1,h⟩:=h
    have hlc:=Br hsame
    subst hlc
    rw[hl]at hc
    simp only[TV.lf.injEq]at hc
    obtain⟨e1,e2⟩:=hc
    cases e1
    have e2:=eq_of_heq e2
    subst e2
    refine sL (d:=bR d) (h:= .vh (bR d) n.toNat) (x:= .maps te (aak n.toNat none) none) (λω=>by simp only[cp,abN];rfl) (λω hω=>by simp only[aL,hω,TO.len,aaP]) h ?_
    refine aW.ole (upd:=[(bR d,some (.vec te 1 (aak n.toNat ([z0].map .v))))]) (.ofAVal (nm:=bR) λρ' ω' hρ hω=> ?_) λown q o1 hq=> ?_
    ·have hx':ρ' l= .d (.v (.int kn n)):=by rw[hρ l (by rw[ho];simp[Op.operands]),aI,hl];rfl
     simp only[bN,ho,ht,hd,hz,hx']
     exact⟨⟨.inl trivial,h0,h0,h1,hb⟩,trivial⟩
    ·simp only[aaU,aad,aH]at hq⊢
     by_cases e:bR d=q
     ·rw[adD e]at hq⊢
      simp only[abc,Z2]at hq
      subst hq
      refine⟨_,rfl,?_⟩
      have:=OLe.v2maps (e:=te) (rows:=aak n.toNat ([z0].map D.v))
      rw[abN]at this
      exact this
     ·rw[adC e]at hq⊢
      exact⟨o1,hq,OLe.refl _⟩
   ·cases h
  ·cases h
 ·cases h
theorem BT{t:TypeId}{len:Nat}{parts:Array (Nat×Operand)}(ho:o.op= .buildSlice t len parts)(h:xA V P t len parts.toList o.dst S k=some r):OpD P nm o S k r:=by
 unfold xA at h
 split at h
 ·rename_i te sz by_ e d ht hty hd
  replace h:=aG h
  obtain⟨⟨e1,e2,e3,e4⟩,h⟩:=h
  split at h
  ·rename_i ys hys
   obtain⟨rows,h1,h2,_,h4⟩:=j4 (ω:=S.len) hys
   replace h4:=h4 rfl
   have hp:((parts.toList.map λ(i,x)=>(i,fnT (tev S x))).map λp=>(p.1,aL V S.len p.2))=parts.toList.map λ(i,x)=>(i,fnD (Go.Awp.ev (a_ V S) x)):=by
    rw[aaF]
    refine aay λp _=> ?_
    simp only[abH,r_,aI]
   rw[hp,<-e1]at h1
   rw[Z7,e2]at h2
   have hyl:ys.length=len:=by
    have:=congrArg acn h4
    rw[Z7]at this;omega
   have hne:rows≠[]:=λe=>by rw[e]at h2;simp at h2;omega
   refine sL (d:=bR d) (h:= .vh (bR d) rows.length) (x:= .que te sz rows) (λω=>by rw[h4,e1];rfl) (λω hω=>by simp only[aL,hω,TO.len,hyl,h2]) h ?_
   refine aW.ole (upd:=[(bR d,some (.vec te sz rows))]) (.ofAVal (nm:=bR) λρ' ω' hρ hω=> ?_) λown q o1 hq=> ?_
   ·have hpp:(parts.toList.map λ(i,x)=>(i,fnD (ρ' x)))=parts.toList.map λ(i,x)=>(i,fnD (Go.Awp.ev (a_ V S) x)):=by
     refine aay λp hp=> ?_
     have:ρ' p.2=_:=hρ p.2 (by rw[ho];simp only[Op.operands];simpa using ⟨p.1,by simpa using hp⟩)
     simp only[this]
    have hnd:¬bR d=d:=by unfold bR;omega
    simp only[bN,ho,ht,hd,hpp,h1]
    refine⟨⟨h2,e3⟩,?_⟩
    rw[adC hnd]
    trivial
   ·simp only[aaU,aad,aH]at hq⊢
    by_cases e:bR d=q
    ·rw[adD e]at hq⊢
     simp only[abc,Z2]at hq
     subst hq
     exact⟨_,rfl,OLe.v2q hne⟩
    ·rw[adC e]at hq⊢
     exact⟨o1,hq,OLe.refl _⟩
  ·cases h
 ·cases h
theorem kU{d:Nat}{ns:List Nat}{v:TV V.N}{h:H}{o':TO V.N}{x:Own}{l:List Nat}(hx:∀ω,cp V ω o'=some x)(hv:∀ω:Nat->Nat,ω d=TO.len (some o')->aL V ω v=h)
 (hk:k {val:=v,acc:=l,upd:=(d,o')::Hc V S ns,new:=[d]}=some r)
 (hs:aW P nm o (Go.Awp.ev (a_ V S)) (a_ V S).own? {val:=h,acc:=l,upd:=(d,some x)::ns.map (λn=>(n,none)),new:=[d]}):OpD P nm o S k r:=by
 refine⟨_,hk,λm o1 hm=> ?_,_, .sem hs,cX (hv _ ?_).symm rfl (by rw[aac,DD,hx]) rfl⟩
 ·simp only[aH]at hm
  split at hm
  ·rename_i e;left;simp[e]
  ·exact .inr (DE hm)
 ·rw[d5];simp[aH]
theorem B3{t:TypeId}{x:Operand}{lo hi mx:Option Operand}(ho:o.op= .slice t x lo hi mx)(h:xI V P t x lo hi mx o.dst S k=some r):OpD P nm o S k r:=by
 unfold xI at h
 split at h
 ·rename_i te0 sz0 by0 d m ht hd hx
  split at h
  ·rename_i l te e xs hm
   split at h
   ·rename_i kk n hl
    replace h:=aG h
    obtain⟨hse,h⟩:=h
    subst hse
    replace h:=aG h
    obtain⟨h0,h⟩:=h
    replace h:=aG h
    obtain⟨h1,h⟩:=h
    refine kU (ns:=[m]) (x:= .que te (tsz V.sz e) ((xs.map λx=>bY V.sz V.enc e x).drop n.toNat)) (h:= .vh (bR d) ((xs.map λx=>bY V.sz V.enc e x).length-n.toNat)) (λω=>by simp only[cp,aa7]) (λω hω=>by simp only[aL,hω,TO.len,aaE,Z7]) h ?_
    exact .qtail ho ht (by rw[aI,hx,Z7];simp only[aL,wB hm]) (sO hm) (by rw[aI,hl];rfl) h0 (by rw[Z7];exact h1)
   ·cases h
  ·rename_i hh te e xs hm
   split at h
   ·rename_i kk n hl
    replace h:=aG h
    obtain⟨h0,h⟩:=h
    replace h:=aG h
    obtain⟨h1,h⟩:=h
    have h2:n.toNat<=xs.length:=Int.toNat_le.2 h1
    refine kU (ns:=[m]) (x:= .vec te (tsz V.sz e) ((xs.map λx=>bY V.sz V.enc e x).take n.toNat)) (h:= .vh (bR d) n.toNat) (λω=>by simp only[cp,aa6]) (λω hω=>by simp only[aL,hω,TO.len,aaM];rw[abx h2]) h ?_
    exact .trunc ho ht (by rw[aI,hx,Z7];simp only[aL,ef hm]) (dI hm) (by rw[aI,hl];rfl) h0 (by rw[Z7];exact h1)
   ·cases h
  ·cases h
 ·cases h
theorem O9{c:Call}{x y:TV V.N}(h:c.args.toList.map (tev S)=[x,y]):∃p q,c.args= #[p,q]/\tev S p=x/\tev S q=y:=by
 match hcl:c.args.toList,h with
 |[p,q],h=>simp at h;exact⟨p,q,by rw[<-acm];exact hcl,h.1,h.2⟩
 |[],h=>simp at h
 |[_],h=>simp at h
 |_::_::_::_,h=>simp at h
theorem k_(e:Ty V.ι)(xs:List (den V.N e)):(xs.map λx=>bY V.sz V.enc e x).all (λr=>r.all D.one)=true:=by
 rw[abU,aaf]
 intro y _
 exact w8
theorem rX{a b:Nat}(h:a<=most)(hb:b<=32768):a *b<=140737488355328:=by
 have:a *b<=4294967296 *32768:=ac_ h hb
 omega
theorem JI{c:Call}(ho:o.op= .call c)(hc:c.callee= .builtin .append)(h:Ow V P (c.args.toList.map (tev S)) c.argTypes.toList o.dst S k=some r):OpD P nm o S k r:=by
 unfold Ow at h
 split at h
 ·rename_i x y t t' d hargs htys hd
  obtain⟨p,q,hpq,rfl,hqy⟩:=O9 hargs
  split at h
  ·rename_i te sz bytes ht
   replace h:=aG h
   obtain⟨⟨e1,hby⟩,h⟩:=h
   subst e1
   have hct:c.argTypes= #[t,t]:=by rw[<-acm];exact htys
   split at h
   ·rename_i e' y0 ys
    split at h
    ·rename_i n hx
     split at h
     ·rename_i te2 e xs hown
      split at h
      ·rename_i e2
       subst e2
       replace h:=aG h
       obtain⟨⟨e3,e4⟩,h⟩:=h
       subst e3;subst e4
       replace h:=aG h
       obtain⟨hle,h⟩:=h
       refine kU (ns:=[n]) (x:= .que te (tsz V.sz e') ((xs.map λx=>bY V.sz V.enc e' x)++((y0::ys).map λx=>bY V.sz V.enc e' x))) (h:= .vh (bR d) ((xs.map λx=>bY V.sz V.enc e' x).length+((y0::ys).map λx=>bY V.sz V.enc e' x).length)) (λω=>by simp only[cp,aaV]) (λω hω=>by simp only[aL,hω,TO.len,aas,Z7]) h ?_
       refine .qappend ho hc hpq hct ht (by rw[aI,hx,Z7];simp only[aL,wB hown]) (sO hown) (by rw[aI,hqy];rfl) (by simp) (k_ e' _) ?_ ?_
       ·rw[Z7,Z7];exact rX hle hby
       ·rw[Z7,Z7];unfold most at hle;omega
      ·cases h
     ·cases h
    ·cases h
   ·rename_i m sz2 lo len
    split at h
    ·rename_i te2 e2 xs2 hm
     replace h:=aG h
     obtain⟨⟨e3,e4⟩,h⟩:=h
     subst e4;subst e3
     replace h:=aG h
     obtain⟨hll,h⟩:=h
     split at h
     ·rename_i n hx
      split at h
      ·rename_i te1 e xs hown
       split at h
       ·rename_i e5
        subst e5
        replace h:=aG h
        obtain⟨⟨e6,hnm⟩,h⟩:=h
        subst e6
        replace h:=aG h
        obtain⟨hle,h⟩:=h
        refine kU (ns:=[n]) (x:= .vec te (tsz V.sz e2) ((xs.map λx=>bY V.sz V.enc e2 x)++(((xs2.map λx=>bY V.sz V.enc e2 x).drop lo).take len))) (h:= .vh (bR d) ((xs.map λx=>bY V.sz V.enc e2 x).length+len)) (λω=>by simp only[cp,aaV,aa6,aa7]) (λω hω=>by
         simp only[aL,hω,TO.len,aas,Z7,aaM,aaE]
         rw[abx (by omega)]) h ?_
        refine .appendCut ho hc hpq hct ht (.inl ⟨n,by rw[aI,hx,Z7];simp only[aL,ef hown],dI hown,hnm,rfl⟩) (by rw[aI,hqy];rfl) (dI hm) (by rw[Z7];exact hll) (k_ e2 _) ?_ ?_
        ·rw[Z7];exact rX hle hby
        ·rw[Z7];unfold most at hle;omega
       ·cases h
      ·cases h
     ·rename_i hx
      replace h:=aG h
      obtain⟨hle,h⟩:=h
      refine kU (ns:=[]) (x:= .vec te (tsz V.sz e2) ([]++(((xs2.map λx=>bY V.sz V.enc e2 x).drop lo).take len))) (h:= .vh (bR d) (([]:List (List D)).length+len)) (λω=>by simp only[cp,aa6,aa7,aad]) (λω hω=>by
       simp only[aL,hω,TO.len,aaM,aaE,acH]
       rw[abx (by omega),Z9]) h ?_
      refine .appendCut ho hc hpq hct ht (.inr ⟨by rw[aI,hx];rfl,rfl,rfl⟩) (by rw[aI,hqy];rfl) (dI hm) (by rw[Z7];exact hll) (k_ e2 _) ?_ ?_
      ·rw[acH,Z9];exact rX hle hby
      ·rw[acH,Z9];unfold most at hle;omega
     ·cases h
    ·cases h
   ·cases h
  ·cases h
 ·cases h
theorem yZ{n:Nat}{o':TO V.N}{x:Own}{l:List Nat}{v:TV V.N}{h:H}(hx:∀ω,cp V ω o'=some x)(hv:∀ω,aL V ω v=h)(hl:TO.len (some o')=S.len n)(hk:k {val:=v,acc:=l,upd:=[(n,o')]}=some r)
 (hs:aW P nm o (Go.Awp.ev (a_ V S)) (a_ V S).own? {val:=h,acc:=l,upd:=[(n,some x)]}):OpD P nm o S k r:=by
 refine⟨_,hk,λm o1 hm=> ?_,_, .sem hs,cX (hv _).symm rfl (by simp[hx]) rfl⟩
 simp only[aH]at hm
 split at hm
 ·rename_i e;right;simp at hm;subst hm;subst e;exact hl
 ·simp[gt]at hm
theorem yb{α:Type}(xs ys:List α)(n:Nat)(h:ys.length=n):(ys.take xs.length++xs.drop n).length=xs.length:=by
 rw[aas,aaM,aaE,h]
 omega
theorem F_{c:Call}(ho:o.op= .call c)(hc:c.callee= .builtin .copy)(h:F9 V P (c.args.toList.map (tev S)) c.argTypes.toList S k=some r):OpD P nm o S k r:=by
 unfold F9 at h
 split at h
 ·rename_i m y t rest hargs htys
  obtain⟨p,q,hpq,hpx,hqy⟩:=O9 hargs
  have hct:c.argTypes[0]?=some t:=by
   have:c.argTypes.toList[0]?=some t:=by rw[htys];rfl
   simpa using this
  split at h
  ·rename_i te sz by_ te1 e xs ht hm
   replace h:=aG h
   obtain⟨⟨e1,e2⟩,h⟩:=h
   subst e1;subst e2
   split at h
   ·rename_i m2 sz2 lo len
    split at h
    ·rename_i te2 e2 xs2 hm2
     split at h
     ·rename_i e3
      subst e3
      replace h:=aG h
      obtain⟨⟨e4,hne⟩,h⟩:=h
      subst e4
      replace h:=aG h
      obtain⟨hll,h⟩:=h
      have hnl:(((xs2.map λx=>bY V.sz V.enc e2 x).drop lo).take len).length=len:=by rw[aaM,aaE,Z7];omega
      have hnl':((xs2.drop lo).take len).length=len:=by rw[aaM,aaE];omega
      have:=aW.copy (P:=P) (nm:=nm) (ω:=(a_ V S).own?) (ρ:=Go.Awp.ev (a_ V S)) (rows:=xs.map λx=>bY V.sz V.enc e2 x) (news:=((xs2.map λx=>bY V.sz V.enc e2 x).drop lo).take len) (acc:=[m,m2]) ho hc hpq hct ht (by rw[aI,hpx,Z7];simp only[aL,ef hm]) (dI hm)
       (.inr ⟨m2,te2,lo,xs2.map λx=>bY V.sz V.enc e2 x,by rw[aI,hqy,hnl];rfl,dI hm2,by rw[hnl,Z7];exact hll,by rw[hnl],hne,rfl⟩)
       (by
         rw[<-aa7,<-aa6];exact k_ e2 _)
      rw[hnl,Z7]at this
      refine yZ (x:= .vec te (tsz V.sz e2) ((((xs2.map λx=>bY V.sz V.enc e2 x).drop lo).take len).take xs.length++(xs.map λx=>bY V.sz V.enc e2 x).drop len)) (λω=>by simp only[cp,aaV,aa6,aa7]) (λω=>rfl) (by rw[ef hm];exact yb xs _ _ hnl') h this
     ·cases h
    ·cases h
   ·rename_i e2 ys
    split at h
    ·rename_i e3
     subst e3
     have:=aW.copy (P:=P) (nm:=nm) (ω:=(a_ V S).own?) (ρ:=Go.Awp.ev (a_ V S)) (rows:=xs.map λx=>bY V.sz V.enc e2 x) (news:=ys.map λx=>bY V.sz V.enc e2 x) (acc:=[m]) ho hc hpq hct ht (by rw[aI,hpx,Z7];simp only[aL,ef hm]) (dI hm)
      (.inl ⟨by rw[aI,hqy];rfl,rfl⟩) (k_ e2 _)
     rw[Z7,Z7]at this
     exact yZ (x:= .vec te (tsz V.sz e2) ((ys.map λx=>bY V.sz V.enc e2 x).take xs.length++(xs.map λx=>bY V.sz V.enc e2 x).drop ys.length)) (λω=>by simp only[cp,aaV,aa6,aa7]) (λω=>rfl) (by rw[ef hm];exact yb xs _ _ rfl) h this
    ·cases h
   ·cases h
  ·cases h
 ·cases h
theorem JK{t:TypeId}{x:Operand}(ho:o.op= .box t x)(h:Oy V x S k=some r):OpD P nm o S k r:=by
 unfold Oy at h
 split at h
 ·rename_i i y hx
  exact dH h (.freezeBox (ds:=V.enc i y) ho (by rw[aI,hx,jT];rfl)) rfl
 ·cases h
end
section
variable (V:iE) (P:Program) (nm:Nat->Nat)
def M4:TV V.N->Bool
 | .lf (.ar _ _) _=>true
 |_=>false
def MZ:Option (Ty V.ι)->Bool
 |some (.ar _ _)=>true
 |_=>false
def TI:Option (Ty V.ι)->Bool
 |some (.sl (.mp _ _))=>true
 |_=>false
def TH:Ty V.ι->Bool
 | .fno=>true
 |_=>false
def Lx:Option (Ty V.ι)->Bool
 |some (.st i)=>(V.tys i).any (TH V)
 |_=>false
def M7:Option (TO V.N)->Bool
 |some (.bar ..)=>true
 |_=>false
def Hg:Option (TO V.N)->Bool
 |some (.que ..)=>true
 |_=>false
def yz:Option (TO V.N)->Bool
 |some (.maps ..)=>true
 |_=>false
def MY:Option (TO V.N)->Bool
 |some (.alias ..)=>true
 |_=>false
def M6:Option (TO V.N)->Bool
 |some (.vec _ (.ar _ _) _)=>true
 |_=>false
def M9:TV V.N->Bool
 | .lf (.st _) _=>true
 |_=>false
def td(S:TS V.N):TV V.N->Bool
 | .mp n=>MY V (S.own? n)
 |_=>false
def Dv(pre:Nat->Bool)(m:Nat):Option Tmp->Bool
 |some d=>pre (m+d)
 |none=>false
def QW(pre:Nat->Bool)(o:Oper)(S:TS V.N):Bool:=match o.op with
 | .index _ x _=>M4 V (tev S x)
 | .indexAddr _ x _=>match tev S x with
  | .bp n 0=>M7 V (S.own? n)
  | .rp (.ar _ _) _ _=>true
  | .ep .. =>true
  | .vh m=>Hg V (S.own? m)||yz V (S.own? m)
  |_=>false
 | .load _ x=>match tev S x with
  | .ai .. =>true
  | .bp n _=>M7 V (S.own? n)
  | .ep n _ _ _=>Hg V (S.own? n)||yz V (S.own? n)||M6 V (S.own? n)
  | .rp (.ar _ _) _ _=>true
  |_=>false
 | .store _ x _=>match tev S x with
  | .ai .. =>true
  | .bp n _=>M7 V (S.own? n)
  | .ep n _ _ _=>yz V (S.own? n)
  |_=>false
 | .alloc t=>MZ V (V.ty t)
 | .box _ x=>M4 V (tev S x)||Dv pre 7000000 o.dst
 | .nilCheck x=>match tev S x with
  | .lf (.op _) _=>true
  |_=>false
 | .binOp _ _ x y _=>match tev S x,tev S y with
  | .lf (.op _) _, .raw (.pointer none)=>true
  | .lf .fno _, .raw .nilFunc=>true
  | .lf (.st _) _, .lf (.st _) _=>true
  |_,_=>false
 | .build t parts=>MZ V (V.ty t)||Lx V (V.ty t)||(!parts.toList.isEmpty&&Dv pre 1000000 o.dst)
 | .makeSlice t _ _=>TI V (V.ty t)
 | .lookup _ x i _=>td V S (tev S x)||M9 V (tev S i)
 | .mapUpdate _ x i _=>td V S (tev S x)||M9 V (tev S i)
 | .insert _ x i _=>td V S (tev S x)||M9 V (tev S i)
 | .range _ x=>td V S (tev S x)
 | .slice _ x _ _ _=>Dv pre 5000000 o.dst||match tev S x with
  | .vh m=>Hg V (S.own? m)
  |_=>false
 | .buildSlice _ _ _=>Dv pre 6000000 o.dst
 | .call c=>match c.callee with
  | .builtin .len=>match c.args.toList with
   |[x]=>td V S (tev S x)
   |_=>false
  | .builtin .copy=>true
  | .builtin .append=>match c.args.toList with
   |[x,y]=>match tev S x,tev S y with
    | .sv ..,_=>false
    |_, .sv .. =>true
    | .vh n, .lf .. =>Hg V (S.own? n)
    |_,_=>false
   |_=>false
  |_=>false
 |_=>false
def Wp{A:Type}(o:Oper)(S:TS V.N)(k:TE V.N->Option A):Option A:=match o.op with
 | .index t x i=>xC V P t x i S k
 | .indexAddr t x i=>match tev S x with
  | .vh _=>s5 V P t x i S k
  |_=>OD V P t x i S k
 | .load t x=>match tev S x with
  | .ep n _ _ _=>match yz V (S.own? n)with
   |true=>pM V P t x o.dst S k
   |false=>zt V P t x S k
  |_=>zt V P t x S k
 | .store t x y=>match tev S x with
  | .ep .. =>lR V P t x y S k
  |_=>xJ V P t x y S k
 | .alloc t=>xw V P nm t o.dst k
 | .box _ x=>match M4 V (tev S x)with
  |true=>Ox V nm x o.dst S k
  |false=>Oy V x S k
 | .nilCheck x=>OH V x S k
 | .binOp op xt x y _=>Oz V P op xt x y S k
 | .build t parts=>match MZ V (V.ty t)with
  |true=>xx V P t parts.toList S k
  |false=>match Lx V (V.ty t)with
   |true=>xy V P t parts.toList S k
   |false=>xz V P t parts.toList o.dst S k
 | .makeSlice t l c=>pL V P t l c o.dst S k
 | .lookup t x i c=>Gb V P t x i c S k
 | .mapUpdate t x i y=>J8 V P t x i y S k
 | .insert t x i y=>J8 V P t x i y S k
 | .range t x=>xF V P t x o.dst S k
 | .slice t x lo hi mx=>xI V P t x lo hi mx o.dst S k
 | .buildSlice t len parts=>xA V P t len parts.toList o.dst S k
 | .call c=>match c.callee with
  | .builtin .len=>OE V P (c.args.toList.map (tev S)) c.argTypes.toList S k
  | .builtin .copy=>F9 V P (c.args.toList.map (tev S)) c.argTypes.toList S k
  | .builtin .append=>Ow V P (c.args.toList.map (tev S)) c.argTypes.toList o.dst S k
  |_=>none
 |_=>none
def opX(pre:Nat->Bool)(o:Oper)(S:TS V.N):Bool:=QW V pre o S||Qs V pre o S
def tdX{A:Type}(pre:Nat->Bool)(o:Oper)(S:TS V.N)(k:TE V.N->Option A):Option A:=match QW V pre o S with
 |true=>Wp V P nm o S k
 |false=>OC V P o S k
def Ms(S:TS V.N)(t:Nat):TS V.N:=match gt S.tmps t with
 |some (.bp b 0)=>match S.own? b with
  |some (.bst i x)=>{tmps:=(t, .lf (.op (.st i)) (some x))::S.tmps,own:=(b, .gone 0)::S.own}
  |_=>S
 |_=>S
def V1(S:TS V.N)(t:Nat):TS V.N:=match gt S.tmps t with
 |some (.vh n)=>match S.own? n with
  |some (.vec _ e xs)=>{S with tmps:=(t, .sv n (tsz V.sz e) 0 xs.length)::S.tmps}
  |_=>S
 |_=>S
def Ou(S:TS V.N)(x:Operand)(ty:TypeId):TS V.N:=match x with
 | .tmp t=>match cK P ty,V.ty ty with
  |some (te,_,_),some (.sl e)=>V1 V (ET V false te e S t) t
  |_,_=>S
 |_=>S
def rL(S:TS V.N):List Operand->List TypeId->TS V.N
 |x::r,ty::s=>rL (Ou V P S x ty) r s
 |_,_=>S
def DJ:Nat->List (TV V.N)->Option (Nat×Nat×Nat×Nat)
 |_,[]=>none
 |i,x::r=>match x with
  | .sv m sz 0 l=>some (i,m,sz,l)
  |_=>DJ (i+1) r
def qD(S:TS V.N):List (Nat×TO V.N)->Option (Nat×Option TypeId×List (TV V.N)×Nat×Nat×Nat×Nat)
 |[]=>none
 |(b,_)::r=>match S.own? b with
  |some (.box o cells)=>match DJ V 0 cells with
   |some q=>some (b,o,cells,q)
   |none=>qD S r
  |_=>qD S r
def MW{A:Type}(S:TS V.N)(k:TS V.N->Option A):Option A:=match qD V S S.own with
 |some (b,o,cells,i,m,sz,l)=>match S.own? m with
  |some (.vec te e xs)=>if sz=tsz V.sz e/\¬b=m/\S.fresh (75000+S.own.length)=true/\abw (75000+S.own.length) given=true then
   if l<=xs.length then k {tmps:=S.tmps,own:=(b, .box o (cells.set i (.vh (75000+S.own.length))))::(75000+S.own.length, .vec te e (xs.take l))::(m, .gone (S.len m))::S.own}else none
   else none
  |_=>none
 |none=>none
def DB{A:Type}(pre:Nat->Bool)(o:Oper)(S:TS V.N)(k:TS V.N->Option A):Option A:=match Dv pre 8000000 o.dst with
 |true=>MW V S k
 |false=>match o.op with
  | .store _ _ (.tmp t)=>match pre (7000000+t)with
   |true=>k (Ms V S t)
   |false=>k S
  | .call c=>match c.callee with
   | .value f=>match tev S f with
    | .fn fid _ _=>match pre (9000000+fid)with
     |true=>k (rL V P S c.args.toList c.argTypes.toList)
     |false=>k S
    |_=>k S
   |_=>k S
  |_=>k S
end
section
variable {V:iE} {P:Program} {nm:Nat->Nat} {pre:Nat->Bool} {o:Oper} {S:TS V.N} {A:Type} {k:TE V.N->Option A} {r:A}
theorem BV(h:Wp V P nm o S k=some r):OpD P nm o S k r:=by
 unfold Wp at h
 split at h
 ·rename_i t x i ho;exact BU ho h
 ·rename_i t x i ho
  split at h
  ·exact xD ho h
  ·exact JN ho h
 ·rename_i t x ho
  split at h
  ·split at h
   ·exact vg ho h
   ·exact ve ho h
  ·exact ve ho h
 ·rename_i t x y ho
  split at h
  ·exact s6 ho h
  ·exact B4 ho h
 ·rename_i t ho;exact BP ho h
 ·rename_i t x ho
  split at h
  ·exact JJ ho h
  ·exact JK ho h
 ·rename_i x ho;exact JS ho h
 ·rename_i op xt x y yt ho;exact JL ho h
 ·rename_i t parts ho
  split at h
  ·exact BQ ho h
  ·split at h
   ·exact BR ho h
   ·exact BS ho h
 ·rename_i t l c ho;exact vf ho h
 ·rename_i t x i c ho;exact Gc ho h
 ·rename_i t x i y ho;exact zz (.inl ho) h
 ·rename_i t x i y ho;exact zz (.inr ho) h
 ·rename_i t x ho;exact BW ho h
 ·rename_i t x lo hi mx ho;exact B3 ho h
 ·rename_i t len parts ho;exact BT ho h
 ·rename_i c ho
  split at h
  ·rename_i hc;exact JO ho hc h
  ·rename_i hc;exact F_ ho hc h
  ·rename_i hc;exact JI ho hc h
  ·cases h
 ·cases h
theorem vd(hf:∀te,k te=some r->∀d∈te.new,S.fresh d=true)(h:tdX V P nm pre o S k=some r):OpD P nm o S k r:=by
 unfold tdX at h
 split at h
 ·exact BV h
 ·exact xB hf h
theorem Cm(S:TS V.N)(t:Nat):Ent (a_ V S) (a_ V (Ms V S t)):=by
 unfold Ms
 split
 ·rename_i b ht
  split
  ·rename_i i x hb
   have h1:gt (a_ V S).tmps t=some (.bp b 0):=by rw[db,ht];rfl
   have h2:(a_ V S).own? b=some (.box none ((V.enc i x).map .d)):=by rw[bL,hb];rfl
   refine Ent.trans (Ent.boxData h1 h2) ?_
   have hl:({tmps:=(t, .lf (.op (.st i)) (some x))::S.tmps,own:=(b, .gone 0)::S.own}:TS V.N).len=S.len:=by
    funext m
    unfold TS.len TS.own?
    rw[aH]
    by_cases e:b=m
    ·subst e
     rw[adD rfl]
     unfold TS.own? at hb
     rw[hb];rfl
    ·rw[adC e]
   have:a_ V {tmps:=(t, .lf (.op (.st i)) (some x))::S.tmps,own:=(b, .gone 0)::S.own}={tmps:=(t, .d (.rp (V.enc i x)))::(a_ V S).tmps,own:=(b,none)::(a_ V S).own}:=by
    unfold a_
    rw[hl];rfl
   rw[this]
   exact Ent.refl _
  ·exact Ent.refl _
 ·exact Ent.refl _
theorem JF(S:TS V.N)(t:Nat):Ent (a_ V S) (a_ V (V1 V S t)):=by
 unfold V1
 split
 ·rename_i n ht
  split
  ·rename_i te e xs hn
   have h1:gt (a_ V S).tmps t=some (.vh n (xs.map λx=>bY V.sz V.enc e x).length):=by
    rw[db,ht,Z7]
    simp only[aau,aL,ef hn]
   have:=Ent.vh2sv h1 (dI hn)
   rw[Z7]at this
   exact this
  ·exact Ent.refl _
 ·exact Ent.refl _
theorem F5(S:TS V.N)(x:Operand)(ty:TypeId):Ent (a_ V S) (a_ V (Ou V P S x ty)):=by
 unfold Ou
 split
 ·split
  ·exact Ent.trans (ux _ _ _ S _) (JF _ _)
  ·exact Ent.refl _
 ·exact Ent.refl _
theorem rM:∀(l:List Operand) (tys:List TypeId) (S:TS V.N),Ent (a_ V S) (a_ V (rL V P S l tys))
 |[],_,S=>by simp only[rL];exact Ent.refl _
 |_::_,[],S=>by simp only[rL];exact Ent.refl _
 |x::r,ty::s,S=>by
  simp only[rL]
  exact Ent.trans (F5 S x ty) (rM r s _)
theorem qK:∀{l:List (TV V.N)} {j i m sz n:Nat},DJ V j l=some (i,m,sz,n)->j<=i/\l[i-j]?=some (.sv m sz 0 n)
 |[],_,_,_,_,_,h=>by simp[DJ]at h
 |x::r,j,i,m,sz,n,h=>by
  simp only[DJ]at h
  split at h
  ·simp only[Z2,aaC]at h
   obtain⟨rfl,rfl,rfl,rfl⟩:=h
   exact⟨aat _,by simp⟩
  ·obtain⟨h1,h2⟩:=qK h
   refine⟨by omega,?_⟩
   have:i-j=(i-(j+1))+1:=by omega
   rw[this]
   simpa using h2
theorem jU:∀{l:List (Nat×TO V.N)} {b:Nat} {o:Option TypeId} {cells:List (TV V.N)} {i m sz n:Nat},qD V S l=some (b,o,cells,i,m,sz,n)->S.own? b=some (.box o cells)/\cells[i]?=some (.sv m sz 0 n)
 |[],_,_,_,_,_,_,_,h=>by simp[qD]at h
 |(b',_)::r,b,o,cells,i,m,sz,n,h=>by
  simp only[qD]at h
  split at h
  ·rename_i o' cells' hb
   split at h
   ·rename_i q hq
    simp only[Z2,aaC]at h
    obtain⟨rfl,rfl,rfl,rfl⟩:=h
    have:=(qK hq).2
    exact⟨hb,by simpa using this⟩
   ·exact jU h
  ·exact jU h
theorem DF{k:TS V.N->Option A}(h:MW V S k=some r):∃S',k S'=some r/\Ent (a_ V S) (a_ V S'):=by
 unfold MW at h
 split at h
 ·rename_i b oty cells i m sz l hfs
  obtain⟨hb,hi⟩:=jU hfs
  split at h
  ·rename_i te e xs hm
   replace h:=aG h
   obtain⟨⟨e1,hbm,hf,hg⟩,h⟩:=h
   replace h:=aG h
   obtain⟨hl,h⟩:=h
   subst e1
   generalize 75000+S.own.length=nn at *
   refine⟨_,h,?_⟩
   have hg:nn<given:=by simpa[abE]using hg
   have h1:(a_ V S).own? b=some (.box oty (encL V S.len cells)):=by rw[bL,hb];rfl
   have h2:(encL V S.len cells)[i]?=some (.sv m (tsz V.sz e) 0 l):=by rw[aU,Z6,hi];rfl
   have hfr:=eQ hf
   refine Ent.trans (Ent.head h1 h2 (dI hm) (by rw[Z7];exact hl) hbm ⟨hfr,hg⟩) ?_
   have hcn:TV.hasL nn cells=false:=by
    have:=hf
    unfold TS.fresh at this
    simp only[Z8,aaf]at this
    have:=this.2 (b, .box oty cells) (cV hb)
    simpa[TO.has]using this
   have hfo:S.own? nn=none:=by
    have:=hf
    unfold TS.fresh at this
    simp only[Z8]at this
    have:=this.1.1
    cases ho:S.own? nn with
    |none=>rfl
    |some x=>rw[ho]at this;cases this
   have hbn:b≠nn:=λe0=>by subst e0;rw[hb]at hfo;cases hfo
   have hmn:m≠nn:=λe0=>by subst e0;rw[hm]at hfo;cases hfo
   generalize hS':({tmps:=S.tmps,own:=(b, .box oty (cells.set i (.vh nn)))::(nn, .vec te e (xs.take l))::(m, .gone (S.len m))::S.own}:TS V.N)=S'
   have hlen:∀q,q≠nn->S'.len q=S.len q:=by
    intro q hq
    subst hS'
    unfold TS.len TS.own?
    simp only[aH]
    by_cases q1:b=q
    ·subst q1
     rw[adD rfl]
     unfold TS.own? at hb
     rw[hb];rfl
    ·rw[adC q1,adC (abm hq)]
     by_cases q2:m=q
     ·subst q2;rw[adD rfl];rfl
     ·rw[adC q2]
   have hlnn:S'.len nn=l:=by
    subst hS'
    unfold TS.len TS.own?
    simp only[aH,adC hbn,adz,TO.len,aaM]
    omega
   refine Ent.le (λt x hx=> ?_) λn x hx=> ?_
   ·rw[db,aae]at hx
    obtain⟨v,hv,rfl⟩:=hx
    have hv':gt S.tmps t=some v:=by subst hS';exact hv
    refine⟨aL V S.len v,by simp only[db,hv'];rfl,?_⟩
    have:aL V S'.len v=aL V S.len v:=jn v λq hq=>hlen q λe0=>by
     subst e0
     have:=fresh_tmp hf hv'
     rw[hq]at this;cases this
    rw[this]
    exact H.le.refl _
   ·rw[bL,abF]at hx
    obtain⟨oo,ho1,ho2⟩:=hx
    refine⟨x,?_,OLe.refl _⟩
    subst hS'
    unfold TS.own? at ho1
    unfold aB.own?
    simp only[aH]at ho1⊢
    by_cases q1:b=n
    ·rw[adD q1]at ho1⊢
     simp only[Z2]at ho1;subst ho1
     simp only[cp,Z2]at ho2;subst ho2
     have hc:encL V (TS.len {tmps:=S.tmps,own:=(b, .box oty (cells.set i (.vh nn)))::(nn, .vec te e (xs.take l))::(m, .gone (S.len m))::S.own}) (cells.set i (.vh nn))=(encL V S.len cells).set i (.vh nn l):=by
      rw[aU,abD,aU]
      congr 1
      ·rw[<-aU,<-aU]
       refine encL_congr cells λq hq=>hlen q λe0=> ?_
       subst e0;rw[hcn]at hq;cases hq
      ·simp only[aL,hlnn]
     rw[hc]
     rfl
    ·rw[adC q1]at ho1⊢
     by_cases q2:nn=n
     ·rw[adD q2]at ho1⊢
      simp only[Z2]at ho1;subst ho1
      simp only[cp,Z2]at ho2;subst ho2
      rw[aa6];rfl
     ·rw[adC q2]at ho1⊢
      by_cases q3:m=n
      ·rw[adD q3]at ho1
       simp only[Z2]at ho1;subst ho1
       cases ho2
      ·rw[adC q3]at ho1⊢
       have hq:(a_ V S).own? n=some x:=by
        rw[bL]
        unfold TS.own?
        rw[ho1]
        have:cp V S.len oo=cp V (TS.len {tmps:=S.tmps,own:=(b, .box oty (cells.set i (.vh nn)))::(nn, .vec te e (xs.take l))::(m, .gone (S.len m))::S.own}) oo:=(qz oo λq hq=>hlen q λe0=>by
         subst e0
         have:=hf
         unfold TS.fresh at this
         simp only[Z8,aaf]at this
         have:=this.2 (n,oo) (cV ho1)
         simp[hq]at this).symm
        rw[ZY,this];exact ho2
       exact hq
  ·cases h
 ·cases h
theorem Ax{k:TS V.N->Option A}(h:DB V P pre o S k=some r):∃S',k S'=some r/\Ent (a_ V S) (a_ V S'):=by
 unfold DB at h
 split at h
 ·exact DF h
 ·split at h
  ·split at h
   ·exact⟨_,h,Cm S _⟩
   ·exact⟨_,h,Ent.refl _⟩
  ·split at h
   ·split at h
    ·split at h
     ·exact⟨_,h,rM _ _ S⟩
     ·exact⟨_,h,Ent.refl _⟩
    ·exact⟨_,h,Ent.refl _⟩
   ·exact⟨_,h,Ent.refl _⟩
  ·exact⟨_,h,Ent.refl _⟩
end
end Go.Tx
end
section
namespace Go.Tx
open Go.Awp
variable [Inhabited GMem]
section
variable {ι:Type} {N:ι->Type}
def setB(S:TS N)(d:Nat)(b:Bool):TS N:={S with tmps:=(d, .lf .bool b)::S.tmps}
def t6(S:TS N)(all:List Oper)(j:Nat):Option (Nat×TV N):=match all[j]? with
 |some o=>match o.dst with
  |some d=>match gt S.tmps d with
   |some v=>some (d,v)
   |none=>none
  |none=>none
 |none=>none
def Dl(n:Nat)(pre:Nat->Bool)(o:Oper):Bool:=match o.dst with
 |some d=>abw d n&& !pre (4000000+d)
 |none=>true
def ff(S:TS N)(e:TE N):Bool:=e.new.all λd=>S.fresh d&&abw d given
end
section
variable (V:iE) (P:Program) (n:Nat) (nm:Nat->Nat) (call:dh V)
def nF:TV V.N->List (TV V.N)
 | .vh n=>[.vh n]
 | .agg cs=>cs
 |_=>[]
def L4(b c:Bool):TV V.N->List (TV V.N)
 | .vh n=>match b with
  |true=>[.vh n]
  |false=>[]
 | .agg cs=>match c with
  |true=>[]
  |false=>cs
 |_=>[]
def Fd(pre:Nat->Bool)(o:Oper)(S:TS V.N):TS V.N:=match o.op with
 | .buildSlice _ _ parts=>frzL V S (parts.toList.flatMap λp=>nF V (tev S p.2))
 | .convert _ _ x=>frzL V S (nF V (tev S x))
 | .slice _ x _ _ _=>frzL V S (nF V (tev S x))
 | .store _ x y=>match tev S x with
  | .ep .. =>frzL V S (nF V (tev S y))
  |_=>S
 | .call c=>match c.callee with
  | .value f=>match tev S f with
   | .fn fid first captured=>frzL V S ((first++c.args.toList.map (tev S)++captured).flatMap (L4 V (pre fid) (pre (2000000+fid))))
   | .lf .fnc _=>frzL V S ((c.args.toList.map (tev S)).flatMap (L4 V false false))
   |_=>S
  | .builtin .append=>match c.args.toList,c.argTypes.toList with
   |[_, .tmp t],ty::_=>match gt S.tmps t,V.ty ty with
    |some (.vh n),_=>frzL V S [.vh n]
    |some (.raw (.slice (some _) 0 _)),some (.sl e)=>{S with tmps:=(t, .lf (.sl e) [])::S.tmps}
    |some (.raw (.slice none 0 0)),some (.sl e)=>{S with tmps:=(t, .lf (.sl e) [])::S.tmps}
    |_,_=>S
   |_,_=>S
  |_=>S
 |_=>S
def tU{α β:Type}:List α->(List α->β)->β
 |[],k=>k []
 |x::r,k=>tU r λl=>k (x::l)
theorem oB{α β:Type}:∀(l:List α) (k:List α->β),tU l k=k l
 |[],_=>rfl
 |x::r,k=>by rw[tU,oB r]
def yo{ι:Type}{N:ι->Type}{β:Type}(S:TS N)(k:TS N->β):β:=tU S.tmps λt=>tU S.own λo=>k ⟨t,o⟩
theorem tV{ι:Type}{N:ι->Type}{β:Type}(S:TS N)(k:TS N->β):yo S k=k S:=by
 unfold yo
 rw[oB,oB]
noncomputable def OG{A:Type}(x:Operand)(S:TS V.N)(k:TE V.N->Option A):Option A:=match tev S x with
 | .bp n 0=>match S.own? n with
  |some (.miter m tk tv es rest _)=>if Nb tk=true/\S.len m=0 then
   if rest.isEmpty=true then k {val:= .tup [.lf .bool false],acc:=[n,m],upd:=[(m, .map tk tv es),(n, .gone 0)]}
   else Mi (steps rest) λq=>k {val:= .tup [.lf .bool true, .lf tk q.1.1, .lf tv q.1.2],acc:=[n],upd:=[(n, .miter m tk tv es q.2 (some q.1))]}
   else none
  |_=>none
 |_=>none
noncomputable def txo(pre:Nat->Bool)(o:Oper){A:Type}(S:TS V.N)(k:TS V.N->Option A):Option A:=match o.op with
 | .next x false=>OG V x S λte=>match ff S te with
  |true=>k (S.app o.dst te)
  |false=>none
 |_=>DB V P pre o S λS=>match opX V pre o S with
  |true=>tdX V P nm pre o S λte=>match ff S te with
   |true=>k (S.app o.dst te)
   |false=>none
  |false=>tx V P nm call false o (Fd V pre o S) λte=>match ff (Fd V pre o S) te with
   |true=>k ((Fd V pre o S).app o.dst te)
   |false=>none
noncomputable def txs(pre:Nat->Bool)(all:List Oper){A:Type}:List Oper->TS V.N->(TS V.N->Option A)->Option A
 |[],S,k=>k S
 |o::os,S,k=>yo S λS=>match Dl n pre o with
  |false=>none
  |true=>match o.guard with
   |none=>txo V P nm call pre o S λS'=>txs pre all os S' k
   |some (j,want)=>match t6 S all j with
    |some (d, .lf .bool b)=>if b=true then
      match want with
      |true=>txo V P nm call pre o (setB S d true) λS'=>txs pre all os S' k
      |false=>txs pre all os ((setB S d true).app o.dst {val:= .tup []}) k
     else
      match want with
      |false=>txo V P nm call pre o (setB S d false) λS'=>txs pre all os S' k
      |true=>txs pre all os ((setB S d false).app o.dst {val:= .tup []}) k
    |some (_, .tup [])=>txs pre all os (S.app o.dst {val:= .tup []}) k
    |_=>none
def txq(pre:Nat->Bool)(o:Oper){A:Type}(S:TS V.N)(k:TE V.N->Option A):Option A:=match opX V pre o S with
 |true=>tdX V P nm pre o S k
 |false=>tx V P nm call true o S k
def txd(pre:Nat->Bool)(all:List Oper){A:Type}:List Oper->TS V.N->List Tr1->(TS V.N->List Tr1->Option A)->Option A
 |[],S,tr,k=>k S tr
 |o::os,S,tr,k=>yo S λS=>match Dl n pre o with
  |false=>none
  |true=>match det o.op with
   |false=>none
   |true=>match o.guard with
   |none=>txq V P nm call pre o S λte=>match ff S te with
    |true=>txd pre all os (S.app o.dst te) (tr++[⟨gA (S.app o.dst te).len te,true⟩]) k
    |false=>none
   |some (j,want)=>match t6 S all j with
    |some (d, .lf .bool b)=>if b=true then
      match want with
      |true=>txq V P nm call pre o (setB S d true) λte=>match ff (setB S d true) te with
       |true=>txd pre all os ((setB S d true).app o.dst te) (tr++[⟨gA ((setB S d true).app o.dst te).len te,true⟩]) k
       |false=>none
      |false=>txd pre all os ((setB S d true).app o.dst {val:= .tup []}) (tr++[⟨{val:= .tup []},false⟩]) k
     else
      match want with
      |false=>txq V P nm call pre o (setB S d false) λte=>match ff (setB S d false) te with
       |true=>txd pre all os ((setB S d false).app o.dst te) (tr++[⟨gA ((setB S d false).app o.dst te).len te,true⟩]) k
       |false=>none
      |true=>txd pre all os ((setB S d false).app o.dst {val:= .tup []}) (tr++[⟨{val:= .tup []},false⟩]) k
    |some (_, .tup [])=>txd pre all os (S.app o.dst {val:= .tup []}) (tr++[⟨{val:= .tup []},false⟩]) k
    |_=>none
end
section
variable {V:iE}
theorem sU{C:Ctx}{E:Env}{M:Mem}{S:TS V.N}{d:Nat}{b:Bool}{a:Act}{w:World}(hd:gt S.tmps d=some (.lf .bool b))(hs:Sim C E M (a_ V S) a w):Sim C E M (a_ V (setB S d b)) a w:=by
 have hl:(setB S d b).len=S.len:=rfl
 refine Sim.le hs (λt x hx=> ?_) λn o ho=>⟨o,ho,OLe.refl _⟩
 rw[db]at hx⊢
 simp only[setB,aH]at hx
 by_cases h:d=t
 ·subst h
  rw[adD rfl]at hx
  rw[hd]
  exact⟨x,hx,H.le.refl _⟩
 ·rw[adC h]at hx
  exact⟨x,hx,H.le.refl _⟩
theorem jV{S:TS V.N}{all:List Oper}{j d:Nat}{v:TV V.N}(h:t6 S all j=some (d,v)):gt S.tmps d=some v/\∃o,all[j]?=some o/\o.dst=some d:=by
 unfold t6 at h
 split at h
 ·rename_i o ho
  split at h
  ·rename_i d' hd
   split at h
   ·rename_i v' hv
    simp at h;obtain⟨rfl,rfl⟩:=h
    exact⟨hv,o,ho,hd⟩
   ·cases h
  ·cases h
 ·cases h
theorem kp{S:TS V.N}{σ:aB}(hσ:∀t,gt σ.tmps t=gt (a_ V S).tmps t){all:List Oper}{j d:Nat}{v:TV V.N}{want b:Bool}(h:t6 S all j=some (d,v))
 (hv:v= .lf .bool b\/v= .tup []/\b= !want):jI σ all j want=some b:=by
 obtain⟨h1,o,h2,h3⟩:=jV h
 have hg:σ.get d=aL V S.len v:=by
  unfold aB.get
  rw[hσ,db,h1];rfl
 unfold jI
 simp only[h2,h3,hg]
 rcases hv with rfl|⟨rfl,rfl⟩
 ·simp[aL,bC]
 ·simp[aL,encL]
theorem eh{S:TS V.N}{te:TE V.N}(h:ff S te=true):(∀d∈te.new,S.fresh d=true)/\∀d∈te.new,d<given:=by
 unfold ff at h
 rw[aaf]at h
 refine⟨λd hd=> ?_,λd hd=> ?_⟩
 ·have:=h d hd
  simp only[Z8]at this
  exact this.1
 ·have:=h d hd
  simp only[Z8,abE]at this
  exact this.2
def Fx(C:Ctx)(pre:Nat->Bool):Prop:=∀p∈C.fix,pre (4000000+p.1)=true
theorem r6{C:Ctx}{pre:Nat->Bool}{o:Oper}(hF:Fx C pre)(h:Dl C.N pre o=true):∀d,o.dst=some d->C.wr d:=by
 intro d hd
 unfold Dl at h
 rw[hd]at h
 simp only[Z8,abE,acx]at h
 refine⟨h.1,λp hp e=> ?_⟩
 have:=hF p hp
 rw[e,h.2]at this
 cases this
theorem zw(S:TS V.N):good S {val:= .tup []}:=jr S _ _
theorem OO{C:Ctx}{E:Env}{M:Mem}{S:TS V.N}{o:Oper}{a:Act}{w:World}(hd:∀d,o.dst=some d->C.wr d)(hs:Sim C E M (a_ V S) a w):Sim C E M (a_ V (S.app o.dst {val:= .tup []})) (a.put o.dst undef) w:=by
 have h1:=hs.app_val (o:=o) hd (e:={val:= .tup []}) rfl L3
 refine Sim.tapp (ex:=false) (e':={val:= .tup []}) (zw S) (λd h=>by cases h) (tL ?_) h1
 simp[aL,encL]
theorem Wq{C:Ctx}{nm:Nat->Nat}{call:dh V}{ex:Bool}{o:Oper}{S:TS V.N}{A:Type}{k:TS V.N->Option A}{r:A}{E:Env}{M:Mem}{a:Act}{w:World}{K:Act->World->Prop}{Q:Exit->Act->World->Prop}
 (hcall:bG C.P call)(hd:∀d,o.dst=some d->C.wr d)(h:(tx V C.P nm call ex o S λte=>match ff S te with|true=>k (S.app o.dst te)|false=>none)=some r)(hs:Sim C E M (a_ V S) a w)
 (hK:∀te E' M' a' w',k (S.app o.dst te)=some r->Sim C E' M' (a_ V (S.app o.dst te)) a' w'->K a' w'):o.wp C.P a w K Q:=by
 have hnew:∀te:TE V.N,(match ff S te with|true=>k (S.app o.dst te)|false=>none)=some r->ff S te=true/\k (S.app o.dst te)=some r:=by
  intro te h
  cases hq:ff S te with
  |true=>rw[hq]at h;exact⟨rfl,h⟩
  |false=>rw[hq]at h;cases h
 obtain⟨te,h1,h2,h3⟩:=zA hcall (λte hte=>(eh (hnew te hte).1).1) h
 obtain⟨hn,hk⟩:=hnew te h1
 obtain⟨f1,f2⟩:=eh hn
 refine uy hd E M (a_ V S) a w K Q (λe=>ELe ex e (gA (S.app o.dst te).len te)) hs (nH (λe he=>⟨λd hd=> ?_,he⟩) h3) λe E' M' a' w' he hs'=>hK te E' M' a' w' hk (Sim.tapp h2 f1 he hs')
 have hd:d∈te.new:=by rw[he.new]at hd;exact hd
 exact⟨eQ (f1 d hd),f2 d hd⟩
theorem JM{C:Ctx}{nm:Nat->Nat}{pre:Nat->Bool}{o:Oper}{S:TS V.N}{A:Type}{k:TS V.N->Option A}{r:A}{E:Env}{M:Mem}{a:Act}{w:World}{K:Act->World->Prop}{Q:Exit->Act->World->Prop}
 (hd:∀d,o.dst=some d->C.wr d)(h:(tdX V C.P nm pre o S λte=>match ff S te with|true=>k (S.app o.dst te)|false=>none)=some r)(hs:Sim C E M (a_ V S) a w)
 (hK:∀te E' M' a' w',k (S.app o.dst te)=some r->Sim C E' M' (a_ V (S.app o.dst te)) a' w'->K a' w'):o.wp C.P a w K Q:=by
 have hnew:∀te:TE V.N,(match ff S te with|true=>k (S.app o.dst te)|false=>none)=some r->ff S te=true/\k (S.app o.dst te)=some r:=by
  intro te h
  cases hq:ff S te with
  |true=>rw[hq]at h;exact⟨rfl,h⟩
  |false=>rw[hq]at h;cases h
 obtain⟨te,h1,h2,e',h3,h4⟩:=vd (λte hte=>(eh (hnew te hte).1).1) h
 obtain⟨hn,hk⟩:=hnew te h1
 obtain⟨f1,f2⟩:=eh hn
 refine h3.ok hd hs (λd hd=> ?_) λE' M' a' w' hs'=>hK te E' M' a' w' hk (Sim.tapp h2 f1 h4 hs')
 have hd:d∈te.new:=by rw[h4.new]at hd;exact hd
 exact⟨eQ (f1 d hd),f2 d hd⟩
theorem ui{α β:Type}(f:α->β):∀(l:List α) (i:Nat),(l.eraseIdx i).map f=(l.map f).eraseIdx i
 |[],_=>rfl
 |_::_,0=>rfl
 |x::r,i+1=>by simp[ac4,ui f r i]
theorem JR{C:Ctx}{nm:Nat->Nat}{o:Oper}{S:TS V.N}{A:Type}{k:TS V.N->Option A}{r:A}{E:Env}{M:Mem}{a:Act}{w:World}{K:Act->World->Prop}{Q:Exit->Act->World->Prop}{x:Operand}
 (ho:o.op= .next x false)(hd:∀d,o.dst=some d->C.wr d)(h:(OG V x S λte=>match ff S te with|true=>k (S.app o.dst te)|false=>none)=some r)(hs:Sim C E M (a_ V S) a w)
 (hK:∀te E' M' a' w',k (S.app o.dst te)=some r->Sim C E' M' (a_ V (S.app o.dst te)) a' w'->K a' w'):o.wp C.P a w K Q:=by
 have hnew:∀te:TE V.N,(match ff S te with|true=>k (S.app o.dst te)|false=>none)=some r->ff S te=true/\k (S.app o.dst te)=some r:=by
  intro te h
  cases hq:ff S te with
  |true=>rw[hq]at h;exact⟨rfl,h⟩
  |false=>rw[hq]at h;cases h
 have go:∀(te:TE V.N) (e:Eff),(match ff S te with|true=>k (S.app o.dst te)|false=>none)=some r->good S te->ELe false e (gA (S.app o.dst te).len te)->
  (∀d∈e.new,(a_ V S).fresh d=true/\d<given)/\∃te,good S te/\(∀d∈te.new,S.fresh d=true)/\ELe false e (gA (S.app o.dst te).len te)/\k (S.app o.dst te)=some r:=by
  intro te e h hg he
  obtain⟨hn,hk⟩:=hnew te h
  obtain⟨f1,f2⟩:=eh hn
  exact⟨λd hd=>by
   have hd:d∈te.new:=by rw[he.new]at hd;exact hd
   exact⟨eQ (f1 d hd),f2 d hd⟩,te,hg,f1,he,hk⟩
 unfold OG at h
 split at h
 ·rename_i n hx
  split at h
  ·rename_i m tk tv es rest cur hown
   obtain⟨⟨hkey,hlm⟩,h⟩:=aG h
   refine uy (nm:=nm) hd E M (a_ V S) a w K Q (λe=>∃te,good S te/\(∀d∈te.new,S.fresh d=true)/\ELe false e (gA (S.app o.dst te).len te)/\k (S.app o.dst te)=some r) hs ?_
    λe E' M' a' w' ⟨te,h2,f1,he,hk⟩ hs'=>hK te E' M' a' w' hk (Sim.tapp h2 f1 he hs')
   simp only[bN,ho,aI,hx,aL,uF hown]
   refine⟨trivial,λhr=> ?_,λi p hp=> ?_⟩
   ·have hr:rest=[]:=by simpa using hr
    subst hr
    simp only[List.isEmpty_nil,adz]at h
    refine go {val:= .tup [.lf .bool false],acc:=[n,m],upd:=[(m, .map tk tv es),(n, .gone 0)]} {val:= .tup [.d (.v (.bool false))],acc:=[n,m],upd:=[(m,some (.map (es.map λp=>(ew V.enc tk p.1,bC V.sz V.enc tv p.2)))),(n,none)]} h (λm' o' hm=> ?_)
     (cX (by simp[aL,encL,bC]) rfl (by simp[cp]) rfl)
    simp only[aH]at hm
    right
    split at hm
    ·rename_i e;simp at hm;subst hm;subst e;simp[TO.len,hlm]
    ·split at hm
     ·rename_i e;simp at hm;subst hm;subst e;simp[TO.len,uc hown]
     ·simp[gt]at hm
   ·rw[Z6,aae]at hp
    obtain⟨q,hq,rfl⟩:=hp
    have hne:rest.isEmpty=false:=by cases rest with|nil=>simp at hq|cons a r=>rfl
    rw[adC (by simp[hne]),anyOf_some]at h
    have h:=h.2 _ (F4 hq)
    refine go {val:= .tup [.lf .bool true, .lf tk q.1, .lf tv q.2],acc:=[n],upd:=[(n, .miter m tk tv es (rest.eraseIdx i) (some q))]}
     {val:= .tup [.d (.v (.bool true)), .d (.v (ew V.enc tk q.1)), .d (bC V.sz V.enc tv q.2)],acc:=[n],upd:=[(n,some (.miter m (es.map λp=>(ew V.enc tk p.1,bC V.sz V.enc tv p.2)) ((rest.map λp=>(ew V.enc tk p.1,bC V.sz V.enc tv p.2)).eraseIdx i) (some (ew V.enc tk q.1,bC V.sz V.enc tv q.2))))]} h (λm' o' hm=> ?_)
     (cX (by simp only[aL,encL,DT hkey];rfl) rfl (by simp[cp,ui]) rfl)
    simp only[aH]at hm
    right
    split at hm
    ·rename_i e;simp at hm;subst hm;subst e;simp[TO.len,uc hown]
    ·simp[gt]at hm
  ·cases h
 ·cases h
theorem F3{S:TS V.N}{t:Nat}{v v':TV V.N}(ht:gt S.tmps t=some v)(h:H.le (aL V S.len v) (aL V S.len v')):Ent (a_ V S) (a_ V {S with tmps:=(t,v')::S.tmps}):=
 Ent.le (λd x hx=>by
  have hl:({S with tmps:=(t,v')::S.tmps}:TS V.N).len=S.len:=rfl
  rw[db]at hx
  simp only[aH,hl]at hx
  by_cases h1:t=d
  ·subst h1
   rw[adD rfl]at hx
   simp at hx;subst hx
   exact⟨_,by rw[db,ht];rfl,h⟩
  ·rw[adC h1]at hx
   exact⟨x,by rw[db];exact hx,H.le.refl _⟩) λn o ho=>⟨o,ho,OLe.refl _⟩
theorem Fe(pre:Nat->Bool)(o:Oper)(S:TS V.N):Ent (a_ V S) (a_ V (Fd V pre o S)):=by
 unfold Fd
 split
 ·exact ed _ S
 ·exact ed _ S
 ·exact ed _ S
 ·split
  ·exact ed _ S
  ·exact Ent.refl _
 ·split
  ·split
   ·exact ed _ S
   ·exact ed _ S
   ·exact Ent.refl _
  ·split
   ·split
    ·exact ed _ S
    ·rename_i ht _
     refine F3 ht ?_
     simp only[aL,cx,bC,aaT]
     exactλE M v h=>by rw[h.dv];exact .d (.slmt _ _ _)
    ·rename_i ht _
     refine F3 ht ?_
     simp only[aL,cx,bC,aaT]
     exactλE M v h=>by rw[h.dv];exact .d (.slnil _)
    ·exact Ent.refl _
   ·exact Ent.refl _
  ·exact Ent.refl _
 ·exact Ent.refl _
theorem Sv{C:Ctx}{nm:Nat->Nat}{call:dh V}{pre:Nat->Bool}{o:Oper}{S:TS V.N}{A:Type}{k:TS V.N->Option A}{r:A}{E:Env}{M:Mem}{a:Act}{w:World}{K:Act->World->Prop}{Q:Exit->Act->World->Prop}
 (hcall:bG C.P call)(hd:∀d,o.dst=some d->C.wr d)(h:txo V C.P nm call pre o S k=some r)(hs:Sim C E M (a_ V S) a w)
 (hK:∀S' E' M' a' w',k S'=some r->Sim C E' M' (a_ V S') a' w'->K a' w'):o.wp C.P a w K Q:=by
 unfold txo at h
 split at h
 ·rename_i x hx
  exact JR (nm:=nm) hx hd h hs λte E' M' a' w' hk hs'=>hK _ E' M' a' w' hk hs'
 ·obtain⟨S1,h,he⟩:=Ax h
  obtain⟨E,M,hs⟩:=he C E M a w hs
  split at h
  ·exact JM hd h hs λte E' M' a' w' hk hs'=>hK _ E' M' a' w' hk hs'
  ·obtain⟨_,_,hs1⟩:=Fe pre o S1 C E M a w hs
   exact Wq hcall hd h hs1 λte E' M' a' w' hk hs'=>hK _ E' M' a' w' hk hs'
theorem pO{C:Ctx}{nm:Nat->Nat}{call:dh V}{pre:Nat->Bool}{ops:Array Oper}{Q:Exit->Act->World->Prop}{A:Type}{r:A}(hcall:bG C.P call)(hF:Fx C pre):∀(l:List Oper) (i:Nat) (S:TS V.N) (k:TS V.N->Option A) (E:Env) (M:Mem) (a:Act) (w:World),
 ops.toList.drop i=l->txs V C.P C.N nm call pre ops.toList l S k=some r->Sim C E M (a_ V S) a w->(∀S' E' M' a' w',k S'=some r->Sim C E' M' (a_ V S') a' w'->Q .normal a' w')->
 wpOps C.P ops Q ((abk l.length).map (i+ ·)) a w
 |[],i,S,k,E,M,a,w,_,h,hs,hQ=>by
  simp only[txs]at h
  simpa[wpOps]using hQ S E M a w h hs
 |o::os,i,S,k,E,M,a,w,hl,h,hs,hQ=>by
  have hi:ops[i]?=some o:=by
   have:(ops.toList.drop i)[0]?=some o:=by rw[hl];rfl
   simpa using this
  have hl':ops.toList.drop (i+1)=os:=by
   rw[<-List.tail_drop,hl];rfl
  have hlist:(abk (o::os).length).map (i+ ·)=i::(abk os.length).map (i+1+ ·):=by
   simp only[aaa,List.range_succ_eq_map,aac,aaF,aba]
   congr 1
   apply aay
   intro x _
   simp;omega
  rw[hlist]
  simp only[txs,tV]at h
  split at h
  ·cases h
  rename_i hdst
  have run:∀(S:TS V.N),Sim C E M (a_ V S) a w->(txo V C.P nm call pre o S λS'=>txs V C.P C.N nm call pre ops.toList os S' k)=some r->
   o.wp C.P a w (wpOps C.P ops Q ((abk os.length).map (i+1+ ·))) Q:=λS hs h=>
   Sv (k:=λS'=>txs V C.P C.N nm call pre ops.toList os S' k) hcall (r6 hF hdst) h hs λS' E' M' a' w' hk hs'=>pO hcall hF os (i+1) _ k E' M' a' w' hl' hk hs' hQ
  have off:∀(S:TS V.N),Sim C E M (a_ V S) a w->txs V C.P C.N nm call pre ops.toList os (S.app o.dst {val:= .tup []}) k=some r->
   wpOps C.P ops Q ((abk os.length).map (i+1+ ·)) (a.put o.dst undef) w:=λS hs h=>
   pO hcall hF os (i+1) _ k E M _ w hl' h (OO (r6 hF hdst) hs) hQ
  simp only[wpOps,hi]
  cases hg:o.guard with
  |none=>
   simp only[hg]at h
   rw[adD (by simp[Region.wanted,hg])]
   exact .inl (run S hs h)
  |some g=>
   obtain⟨j,want⟩:=g
   simp only[hg]at h
   split at h
   ·rename_i d b hgv
    have hb:=kp (V:=V) (S:=S) (σ:=a_ V S) (λt=>rfl) (want:=want) hgv (.inl rfl)
    have hy:=hs.guard hb
    have hgt:=(jV hgv).1
    cases b with
    |true=>
     rw[adD rfl]at h
     have hs':=sU hgt hs
     cases want with
     |true=>
      rw[adD (by simp[Region.wanted,hg,hy])]
      exact .inl (run _ hs' h)
     |false=>
      rw[adC (by simp[Region.wanted,hg,hy])]
      exact off _ hs' h
    |false=>
     rw[adC (by simp)]at h
     have hs':=sU hgt hs
     cases want with
     |false=>
      rw[adD (by simp[Region.wanted,hg,hy])]
      exact .inl (run _ hs' h)
     |true=>
      rw[adC (by simp[Region.wanted,hg,hy])]
      exact off _ hs' h
   ·rename_i d hgv
    have hb:=kp (V:=V) (S:=S) (σ:=a_ V S) (λt=>rfl) (want:=want) hgv (.inr ⟨rfl,rfl⟩)
    have hy:=hs.guard hb
    rw[adC (by cases want<;>simp[Region.wanted,hg,hy])]
    exact off _ hs h
   ·cases h
structure Rl (σ:aB) (S:TS V.N):Prop where
 tmp:∀t,gt σ.tmps t=gt (a_ V S).tmps t
 own:∀n,σ.own? n=(a_ V S).own? n
 fresh:∀d,S.fresh d=true->σ.fresh d=true
theorem Rl.refl(S:TS V.N):Rl (a_ V S) S:=⟨λ_=>rfl,λ_=>rfl,λ_ h=>eQ h⟩
theorem Rl.ent{σ:aB}{S:TS V.N}(h:Rl σ S):Ent σ (a_ V S):=Ent.le (λt x hx=>⟨x,by rw[h.tmp];exact hx,H.le.refl _⟩) λn o ho=>⟨o,by rw[h.own];exact ho,OLe.refl _⟩
theorem Rl.setB{σ:aB}{S:TS V.N}(h:Rl σ S){d:Nat}{b:Bool}(hd:gt S.tmps d=some (.lf .bool b)):Rl σ (setB S d b)where
 tmp:=λt=>by
  rw[h.tmp,db,db]
  simp only[Tx.setB,aH]
  by_cases e:d=t
  ·subst e;rw[adD rfl,hd];simp[aL]
  ·rw[adC e];rfl
 own:=λn=>h.own n
 fresh:=λn hn=>h.fresh n (by
  unfold TS.fresh at hn⊢
  simp only[Z8]at hn⊢
  refine⟨⟨hn.1.1,?_⟩,hn.2⟩
  have:=hn.1.2
  simp only[Tx.setB,abe,Z8]at this
  exact this.2)
theorem Rl.app{σ:aB}{S:TS V.N}(h:Rl σ S){dst:Option Tmp}{te:TE V.N}(hg:good S te)(hn:∀d∈te.new,S.fresh d=true):Rl (σ.app dst (gA (S.app dst te).len te)) (S.app dst te)where
 tmp:=λt=>by
  rw[(r7 (dst:=dst) hg hn).1]
  simp only[aB.app,s_]
  cases dst with
  |none=>exact h.tmp t
  |some d=>simp only[aH];rw[h.tmp]
 own:=λn=>by
  rw[(r7 (dst:=dst) hg hn).2]
  have:=h.own n
  unfold aB.own? at this⊢
  simp only[aB.app,e_]
  cases gt (gA (S.app dst te).len te).upd n with
  |some o=>rfl
  |none=>exact this
 fresh:=λn hn'=>by
  unfold TS.fresh at hn'
  simp only[Z8]at hn'
  obtain⟨⟨f1,f2⟩,f3⟩:=hn'
  have hu:gt te.upd n=none:=by
   rw[m7]at f1
   cases hq:gt te.upd n with
   |none=>rfl
   |some o=>rw[hq]at f1;cases f1
  have hs:S.fresh n=true:=by
   unfold TS.fresh
   simp only[Z8]
   refine⟨⟨?_,?_⟩,?_⟩
   ·rw[m7,hu]at f1;exact f1
   ·rw[aaf]at f2⊢
    intro p hp
    refine f2 p ?_
    unfold TS.app S6
    cases dst with
    |none=>exact hp
    |some d=>exact aab _ hp
   ·rw[aaf]at f3⊢
    exactλp hp=>f3 p (abM _ hp)
  have hσ:=h.fresh n hs
  unfold aB.fresh at hσ⊢
  simp only[Z8]at hσ⊢
  obtain⟨⟨g1,g2⟩,g3⟩:=hσ
  refine⟨⟨?_,?_⟩,?_⟩
  ·have hq:gt (gA (S.app dst te).len te).upd n=none:=by simp only[gA,gH,hu];rfl
   unfold aB.own? at g1⊢
   simp only[aB.app,e_,hq]
   exact g1
  ·simp only[aB.app,s_]
   cases dst with
   |none=>exact g2
   |some d=>
    rw[abe,Z8]
    refine⟨?_,g2⟩
    rw[aaf]at f2
    have:=f2 (d,te.val) (by simp[TS.app,S6])
    simpa[gA,jo]using this
  ·simp only[aB.app,List.all_append,Z8]
   refine⟨?_,g3⟩
   rw[aaf]at f3⊢
   intro p hp
   simp only[gA,aav]at hp
   obtain⟨q,hq,rfl⟩:=hp
   have:=f3 q (abf _ hq)
   simp only
   cases ho:cp V (S.app dst te).len q.2 with
   |none=>rfl
   |some o=>simp only[kg _ n ho];exact this
theorem Rl.tup{σ:aB}{S:TS V.N}(h:Rl σ S){dst:Option Tmp}:Rl (σ.app dst {val:= .tup []}) (S.app dst {val:= .tup []}):=by
 have:=h.app (dst:=dst) (te:={val:= .tup []}) (zw S) λd h=>by cases h
 simpa[gA,aL,encL]using this
theorem Gg{P:Program}{nm:Nat->Nat}{call:dh V}{pre:Nat->Bool}{o:Oper}{S:TS V.N}{A:Type}{k:TE V.N->Option A}{r:A}(hcall:bG P call)(hf:∀te,k te=some r->∀d∈te.new,S.fresh d=true)(h:txq V P nm call pre o S k=some r):
 ∃te,k te=some r/\good S te/\vq P nm o (ev (a_ V S)) (a_ V S).own? λe=>ELe true e (gA (S.app o.dst te).len te):=by
 unfold txq at h
 split at h
 ·obtain⟨te,h1,h2,e',h3,h4⟩:=vd hf h
  exact⟨te,h1,h2, .inr ⟨e',h3,h4⟩⟩
 ·obtain⟨te,h1,h2,h3⟩:=zA hcall hf h
  exact⟨te,h1,h2, .inl h3⟩
theorem pN{P:Program}{n:Nat}{W:Nat->Prop}{nm:Nat->Nat}{call:dh V}{pre:Nat->Bool}{all:List Oper}{A:Type}{r:A}(hcall:bG P call)(hW:∀o,Dl n pre o=true->∀d,o.dst=some d->W d):∀(l:List Oper) (S:TS V.N) (σ:aB) (tr:List Tr1) (k:TS V.N->List Tr1->Option A),
 txd V P n nm call pre all l S tr k=some r->Rl σ S->jF P W nm all l σ tr λσ' tr'=>∃S',Rl σ' S'/\k S' tr'=some r
 |[],S,σ,tr,k,h,hr=>by
  simp only[txd]at h
  exact⟨S,hr,h⟩
 |o::os,S,σ,tr,k,h,hr=>by
  simp only[txd,tV]at h
  split at h
  ·cases h
  rename_i hdst
  split at h
  ·cases h
  rename_i hdet
  have run:∀(S:TS V.N),Rl σ S->(txq V P nm call pre o S λte=>match ff S te with|true=>txd V P n nm call pre all os (S.app o.dst te) (tr++[⟨gA (S.app o.dst te).len te,true⟩]) k|false=>none)=some r->
   vq P nm o (ev σ) σ.own? λe=>(∀d∈e.new,σ.fresh d=true/\d<given)/\jF P W nm all os (σ.app o.dst e) (tr++[⟨e,true⟩]) λσ' tr'=>∃S',Rl σ' S'/\k S' tr'=some r:=by
   intro S hr h
   have hnew:∀te:TE V.N,(match ff S te with|true=>txd V P n nm call pre all os (S.app o.dst te) (tr++[⟨gA (S.app o.dst te).len te,true⟩]) k|false=>none)=some r->
    ff S te=true/\txd V P n nm call pre all os (S.app o.dst te) (tr++[⟨gA (S.app o.dst te).len te,true⟩]) k=some r:=by
    intro te h
    cases hq:ff S te with
    |true=>rw[hq]at h;exact⟨rfl,h⟩
    |false=>rw[hq]at h;cases h
   obtain⟨te,h1,h2,h3⟩:=Gg hcall (λte hte=>(eh (hnew te hte).1).1) h
   obtain⟨hn,hk⟩:=hnew te h1
   obtain⟨f1,f2⟩:=eh hn
   have e1:ev σ=ev (a_ V S):=by
    funext x
    cases x with
    |tmp t=>simp only[ev,aB.get,hr.tmp]
    |_=>rfl
   have e2:σ.own?=(a_ V S).own?:=funext hr.own
   rw[e1,e2]
   refine j8 (λe he=> ?_) h3
   have he':e=gA (S.app o.dst te).len te:=by
    obtain⟨q1,q2,q3⟩:=he.eq rfl
    have q4:=he.new
    cases e
    simp only at q1 q2 q3 q4
    subst q1;subst q2;subst q3;subst q4;rfl
   subst he'
   exact⟨λd hd=>⟨hr.fresh d (f1 d hd),f2 d hd⟩,pN hcall hW os _ _ _ k hk (hr.app h2 f1)⟩
  have off:∀(S:TS V.N),Rl σ S->txd V P n nm call pre all os (S.app o.dst {val:= .tup []}) (tr++[⟨{val:= .tup []},false⟩]) k=some r->
   jF P W nm all os (σ.app o.dst {val:= .tup []}) (tr++[⟨{val:= .tup []},false⟩]) λσ' tr'=>∃S',Rl σ' S'/\k S' tr'=some r:=λS hr h=>
   pN hcall hW os _ _ _ k h hr.tup
  simp only[jF]
  refine⟨⟨hW o hdst,hdet⟩,?_⟩
  cases hg:o.guard with
  |none=>
   simp only[hg]at h
   exact run S hr h
  |some g=>
   obtain⟨j,want⟩:=g
   simp only[hg]at h
   split at h
   ·rename_i d b hgv
    have hb:=kp (V:=V) (S:=S) (σ:=σ) hr.tmp (want:=want) hgv (.inl rfl)
    have hgt:=(jV hgv).1
    simp only[hb]
    cases b with
    |true=>
     rw[adD rfl]at h
     have hr':=hr.setB hgt
     cases want with
     |true=>exact⟨λ_=>run _ hr' h,λe=>by simp at e⟩
     |false=>exact⟨λe=>by simp at e,λ_=>off _ hr' h⟩
    |false=>
     rw[adC (by simp)]at h
     have hr':=hr.setB hgt
     cases want with
     |false=>exact⟨λ_=>run _ hr' h,λe=>by simp at e⟩
     |true=>exact⟨λe=>by simp at e,λ_=>off _ hr' h⟩
   ·rename_i d hgv
    have hb:=kp (V:=V) (S:=S) (σ:=σ) hr.tmp (want:=want) hgv (.inr ⟨rfl,rfl⟩)
    simp only[hb]
    exact⟨λe=>by cases want<;>simp at e,λ_=>off _ hr h⟩
   ·cases h
end
end Go.Tx
end
section
namespace Go.Tx
open Go.Awp
variable [Inhabited GMem]
inductive Alt where
 |norm
 |ret
 |exit (id:Nat)
 deriving DecidableEq
section
variable (V:iE)
structure aN where
 exits:Nat->Cut V.ι:=λ_=>⟨[],[]⟩
 rcut:Cut V.ι
variable {V}
def c_(sh:aN V)(jt:List (Ty V.ι)):Alt->List (Ty V.ι)
 | .norm=>jt
 | .ret=>sh.rcut.tys
 | .exit id=>(sh.exits id).tys
def nK(E:Alt->List (Ty V.ι)):List Alt->Type
 |[]=>Empty
 |[a]=>HL V.N (E a)
 |a::b::r=>HL V.N (E a)⊕nK E (b::r)
def inj(E:Alt->List (Ty V.ι)):(alts:List Alt)->(a:Alt)->HL V.N (E a)->Option (nK E alts)
 |[],_,_=>none
 |[b],a,v=>if h:a=b then some (h▸v)else none
 |b::c::r,a,v=>if h:a=b then some (.inl (h▸v))else match inj E (c::r) a v with
  |some o=>some (.inr o)
  |none=>none
def qH(E:Alt->List (Ty V.ι)){A:Type}:(alts:List Alt)->nK E alts->((a:Alt)->HL V.N (E a)->Option A)->Option A
 |[],_,_=>none
 |[a],v,f=>f a v
 |a::b::r,o,f=>match o with
  | .inl v=>f a v
  | .inr o'=>qH E (b::r) o' f
theorem dX{E:Alt->List (Ty V.ι)}{A:Type}{f:(a:Alt)->HL V.N (E a)->Option A}:∀{alts:List Alt} {a:Alt} {v:HL V.N (E a)} {o:nK E alts},inj E alts a v=some o->qH E alts o f=f a v
 |[],a,v,o,h=>by simp[inj]at h
 |[b],a,v,o,h=>by
  simp only[inj]at h
  split at h
  ·rename_i e;subst e;cases h;rfl
  ·cases h
 |b::c::r,a,v,o,h=>by
  simp only[inj]at h
  split at h
  ·rename_i e;subst e;cases h;rfl
  ·split at h
   ·rename_i o' ho
    cases h
    show qH E (c::r) o' f=f a v
    exact dX (f:=f) ho
   ·cases h
variable (V)
structure mR (sh:aN V)where
 cut:Cut V.ι
 alts:List Alt
 F:HL V.N cut.tys->Option (nK (c_ sh []) alts)
structure Xc where
 P:Program
 n:Nat
 nm:Nat->Nat:=id
 call:dh V
 pre:Nat->Bool:=λ_=>false
 sh:aN V
 joins:Nat->Option (Cut V.ι×List Alt):=λ_=>none
 regs:Nat->Option (Cut V.ι):=λ_=>none
 loops:Nat->Option (mR V sh):=λ_=>none
 pair:Nat->PT:=λ_=> .leaf
 jumps:Nat->Option (Nat×mR V sh):=λ_=>none
def cI:Code->Nat
 | .region id _ _=>id
 | .seq a b=>if cI a=1000000 then cI b else cI a
 | .block _ x=>cI x
 | .cond _ a b=>if cI a=1000000 then cI b else cI a
 | .loop b=>cI b
 | .scope b=>cI b
 |_=>1000000
variable {V}
noncomputable def Td{A:Type}(x y:Option A):Option A:=by classical exact if x=y then x else none
theorem Cl{A:Type}{x y:Option A}{r:A}(h:Td x y=some r):x=some r/\y=some r:=by
 unfold Td at h
 split at h
 ·rename_i e;exact⟨h,e▸h⟩
 ·cases h
def T1(X:Xc V){A:Type}(ops:Array Oper)(S:TS V.N)(k:TS V.N->Option A):Option A:=
 txd V X.P X.n X.nm X.call X.pre ops.toList ops.toList S [] λS' tr=>match ye ops.toList tr with
  |true=>k S'
  |false=>none
def y8(i j n:Nat):Bool:= !aaX i j&&abw i n&&abw j n
noncomputable def Q3(X:Xc V){A:Type}(S:TS V.N)(k:TS V.N->Option A):PT->Array Oper->Option A
 | .leaf,ops=>T1 X ops S k
 | .node i j a b,ops=>match y8 i j ops.size with
  |true=>Td (Q3 X S k a (fe i i i j ops)) (Q3 X S k b (fe i j j i ops))
  |false=>none
noncomputable def Q4(X:Xc V){A:Type}(id:Nat)(ops:Array Oper)(draw:Bool)(S:TS V.N)(k:TS V.N->Option A):Option A:=match draw with
 |false=>txs V X.P X.n X.nm X.call X.pre ops.toList ops.toList S k
 |true=>Q3 X S k (X.pair id) ops
def o_{A:Type}(ke:Nat->TS V.N->Option A):Nat->TS V.N->Option A:=λid S=>match abw id 1000000 with
 |true=>ke id S
 |false=>none
noncomputable def ex(X:Xc V):Code->(A:Type)->TS V.N->(TS V.N->Option A)->(Nat->TS V.N->Option A)->(HL V.N X.sh.rcut.tys->Option A)->Option A
 | .skip,_,S,kn,_,_=>kn S
 | .ret,_,S,_,_,kr=>match Ds V X.sh.rcut S with
  |some v=>kr v
  |none=>none
 | .exit id,_,S,_,ke,_=>o_ ke id S
 | .goto l,_,S,_,ke,_=>ke (1000000+l) S
 | .label _,_,S,kn,_,_=>kn S
 | .seq x y,A,S,kn,ke,kr=>match X.joins (cI y)with
  |none=>ex X x A S (λS'=>ex X y A S' kn ke kr) ke kr
  |some (cut,alts)=>
   ex X x (nK (c_ X.sh cut.tys) alts) S
    (λS'=>match Ds V cut S' with
      |some v=>inj (c_ X.sh cut.tys) alts .norm v
      |none=>none)
    (λid S'=>match Ds V (X.sh.exits id) S' with
      |some v=>inj (c_ X.sh cut.tys) alts (.exit id) v
      |none=>none)
    (λv=>inj (c_ X.sh cut.tys) alts .ret v)>>=λout=>
   qH (c_ X.sh cut.tys) alts out λa=>match a with
    | .norm=>λv=>ex X y A (fk V cut v) kn ke kr
    | .ret=>λv=>kr v
    | .exit id=>λv=>ke id (fk V (X.sh.exits id) v)
 | .block id x,A,S,kn,ke,kr=>match abw id 1000000 with
  |true=>ex X x A S kn (λid' S'=>if id'=id then kn S' else ke id' S') kr
  |false=>none
 | .cond c x y,A,S,kn,ke,kr=>match c with
  | .tmp t=>match gt S.tmps t with
   |some (.lf .bool b)=>if b=true then ex X x A (setB S t true) kn ke kr else ex X y A (setB S t false) kn ke kr
   |_=>none
  | .const (.bool b)=>match b with
   |true=>ex X x A S kn ke kr
   |false=>ex X y A S kn ke kr
  |_=>none
 | .region id ops draw,_,S,kn,_,_=>match X.regs id with
  |none=>Q4 X id ops draw S kn
  |some cut=>(Q4 X id ops draw S λS'=>Ds V cut S')>>=λv=>kn (fk V cut v)
 | .scope c,A,S,kn,ke,kr=>match X.jumps (cI c)with
  |none=>ex X c A S kn (o_ ke) kr
  |some (l,la)=>ex X c A S kn (λid S'=>match aaX id (1000000+l)with
   |true=>match Ds V la.cut S' with
    |none=>none
    |some v=>la.F v>>=λout=>qH (c_ X.sh []) la.alts out λa=>match a with
     | .norm=>λ_=>none
     | .ret=>λv=>kr v
     | .exit id=>λv=>ke id (fk V (X.sh.exits id) v)
   |false=>o_ ke id S') kr
 | .loop b,_,S,_,ke,kr=>match X.loops (cI b)with
  |none=>none
  |some la=>match Ds V la.cut S with
   |none=>none
   |some v=>la.F v>>=λout=>qH (c_ X.sh []) la.alts out λa=>match a with
    | .norm=>λ_=>none
    | .ret=>λv=>kr v
    | .exit id=>λv=>ke id (fk V (X.sh.exits id) v)
 |_,_,_,_,_,_=>none
noncomputable def exL(X:Xc V)(b:Code)(cut:Cut V.ι)(alts:List Alt)(F:HL V.N cut.tys->Option (nK (c_ X.sh []) alts))(v:HL V.N cut.tys):Option (nK (c_ X.sh []) alts):=
 ex X b _ (fk V cut v)
  (λS'=>match Ds V cut S' with
    |some v=>F v
    |none=>none)
  (o_ λid S'=>match Ds V (X.sh.exits id) S' with
    |some v=>inj (c_ X.sh []) alts (.exit id) v
    |none=>none)
  (λv=>inj (c_ X.sh []) alts .ret v)
def pS(C:Ctx)(c:Code)(S:aB)(Q:Exit->aB->Prop):Prop:=
 ∀(E:Env) (M:Mem) (a:Act) (w:World),Sim C E M S a w->∀(b:Frame) (k:List Item) (cs:List Frame),
  ∃e a' w',(∃S' E' M',Q e S'/\Sim C E' M' S' a' w')/\Arrives C.P (lone (b.at a (.code c:: .inLoop c::k)) cs w) b k cs e a' w'
theorem pS.loop{C:Ctx}{c:Code}{S:aB}{Q:Exit->aB->Prop}(h:pS C c S Q):AWp C (.loop c) S Q:=λE M a w hs b k cs=>
 let⟨e,a',w',hq,harr⟩:=h E M a w hs b k cs
 ⟨e,a',w',hq, .of_steps (.one step_loop) harr⟩
theorem pS.ent{C:Ctx}{c:Code}{S S':aB}{Q:Exit->aB->Prop}(he:Ent S S')(h:pS C c S' Q):pS C c S Q:=λE M a w hs=>
 let⟨E',M',hs'⟩:=he C E M a w hs
 h E' M' a w hs'
theorem pS.round{C:Ctx}{c:Code}{S:aB}{Q:Exit->aB->Prop}(h:AWp C c S (Qv (λS'=>pS C c S' Q) Q)):pS C c S Q:=by
 intro E M a w hs b k cs
 obtain⟨e,a₁,w₁,⟨S₁,E₁,M₁,hq,hs₁⟩,harr⟩:=h E M a w hs b (.inLoop c::k) cs
 cases e with
 |normal=>
  obtain⟨e₂,a₂,w₂,hq₂,harr₂⟩:=hq E₁ M₁ a₁ w₁ hs₁ b k cs
  exact⟨e₂,a₂,w₂,hq₂, .of_steps (Steps.trans harr (.one step_inLoop)) harr₂⟩
 |exit id=>exact⟨_,a₁,w₁,⟨S₁,E₁,M₁,hq,hs₁⟩, .pass (x:= .inLoop c) rfl (λ_ _=> .inl (by simp)) harr⟩
 |goto l=>exact⟨_,a₁,w₁,⟨S₁,E₁,M₁,hq,hs₁⟩, .pass (x:= .inLoop c) rfl (λ_ _=> .inl (by simp)) harr⟩
 |ret=>exact⟨_,a₁,w₁,⟨S₁,E₁,M₁,hq,hs₁⟩, .pass (x:= .inLoop c) rfl (λ_ _=> .inl (by simp)) harr⟩
 |panic ch=>exact⟨_,a₁,w₁,⟨S₁,E₁,M₁,hq,hs₁⟩, .pass (x:= .inLoop c) rfl (λ_ _=> .inl (by simp)) harr⟩
 |outgrown=>exact⟨_,a₁,w₁,⟨S₁,E₁,M₁,hq,hs₁⟩, .pass (x:= .inLoop c) rfl (λ_ _=> .inl (by simp)) harr⟩
def KD(C:Ctx)(x rest:Code)(S:aB)(Q:Exit->aB->Prop):Prop:=
 ∀(E:Env) (M:Mem) (a:Act) (w:World),Sim C E M S a w->∀(b:Frame) (k:List Item) (cs:List Frame),
  ∃e a' w',(∃S' E' M',Q e S'/\Sim C E' M' S' a' w')/\Arrives C.P (lone (b.at a (.code rest:: .inScope x::k)) cs w) b k cs e a' w'
def TC(l:Nat)(J:aB->Prop)(Q:Exit->aB->Prop):Exit->aB->Prop
 | .goto l',S=>l'=l/\J S
 |e,S=>Q e S
theorem KD.ent{C:Ctx}{x rest:Code}{S S':aB}{Q:Exit->aB->Prop}(he:Ent S S')(h:KD C x rest S' Q):KD C x rest S Q:=λE M a w hs=>
 let⟨E',M',hs'⟩:=he C E M a w hs
 h E' M' a w hs'
theorem KD.mono{C:Ctx}{x rest:Code}{S:aB}{Q Q':Exit->aB->Prop}(h:KD C x rest S Q)(hq:∀e S,Q e S->Q' e S):KD C x rest S Q':=λE M a w hs b k cs=>
 let⟨e,a',w',⟨S',E',M',hq',hs'⟩,harr⟩:=h E M a w hs b k cs
 ⟨e,a',w',⟨S',E',M',hq e S' hq',hs'⟩,harr⟩
theorem nO{C:Ctx}{x rest:Code}{l:Nat}{S:aB}{Q:Exit->aB->Prop}(hf:findLabel x l=some rest)(h:AWp C x S (TC l (λS'=>KD C x rest S' Q) Q)):AWp C (.scope x) S Q:=by
 intro E M a w hs b k cs
 have hg:gotoIn l (.inScope x::k)=some (.code rest:: .inScope x::k):=by simp[gotoIn,hf]
 obtain⟨e,a₁,w₁,⟨S₁,E₁,M₁,hq,hs₁⟩,harr⟩:=h E M a w hs b (.inScope x::k) cs
 cases e with
 |normal=>exact⟨.normal,a₁,w₁,⟨S₁,E₁,M₁,hq,hs₁⟩, .head step_scope (Steps.trans harr (.one step_inScope))⟩
 |exit id=>exact⟨.exit id,a₁,w₁,⟨S₁,E₁,M₁,hq,hs₁⟩,λk' hk=> .head step_scope (harr k' (by simp[exitTo,hk]))⟩
 |goto l'=>
  obtain⟨rfl,hJ⟩:=hq
  obtain⟨e₂,a₂,w₂,hq₂,harr₂⟩:=hJ E₁ M₁ a₁ w₁ hs₁ b k cs
  exact⟨e₂,a₂,w₂,hq₂, .of_steps (.head step_scope (harr _ hg)) harr₂⟩
 |ret=>exact⟨_,a₁,w₁,⟨S₁,E₁,M₁,hq,hs₁⟩, .of_steps (.one step_scope) harr⟩
 |panic ch=>exact⟨_,a₁,w₁,⟨S₁,E₁,M₁,hq,hs₁⟩, .of_steps (.one step_scope) harr⟩
 |outgrown=>exact⟨_,a₁,w₁,⟨S₁,E₁,M₁,hq,hs₁⟩, .of_steps (.one step_scope) harr⟩
theorem rW(l:Nat):abw (1000000+l) 1000000=false:=by
 cases h:abw (1000000+l) 1000000 with
 |false=>rfl
 |true=>rw[abE]at h;omega
theorem f_{A:Type}{ke:Nat->TS V.N->Option A}{id:Nat}{S:TS V.N}{r:A}(h:o_ ke id S=some r):abw id 1000000=true/\ke id S=some r:=by
 unfold o_ at h
 split at h
 ·exact⟨‹_›,h⟩
 ·cases h
theorem j2{A:Type}{ke:Nat->TS V.N->Option A}{l:Nat}{S:TS V.N}{r:A}(h:o_ ke (1000000+l) S=some r):False:=by
 have:=(f_ h).1
 rw[rW]at this;cases this
structure Xf (sh:aN V) {A:Type} (kn:TS V.N->Option A) (ke:Nat->TS V.N->Option A) (kr:HL V.N sh.rcut.tys->Option A) (r:A) (Q:Exit->aB->Prop):Prop where
 norm:∀S σ,kn S=some r->Ent σ (a_ V S)->Q .normal σ
 exit:∀id S σ,abw id 1000000=true->ke id S=some r->Ent σ (a_ V S)->Q (.exit id) σ
 jump:∀l S σ,ke (1000000+l) S=some r->Ent σ (a_ V S)->Q (.goto l) σ
 ret:∀v σ,kr v=some r->Ent σ (a_ V (fk V sh.rcut v))->Q .ret σ
def xO(sh:aN V)(alts:List Alt)(out:nK (c_ sh []) alts)(e:Exit)(σ:aB):Prop:=match e with
 | .exit id=>abw id 1000000=true/\∃v:HL V.N (sh.exits id).tys,inj (c_ sh []) alts (.exit id) v=some out/\Ent σ (a_ V (fk V (sh.exits id) v))
 | .ret=>∃v:HL V.N sh.rcut.tys,inj (c_ sh []) alts .ret v=some out/\Ent σ (a_ V (fk V sh.rcut v))
 |_=>False
def gC(C:Ctx)(b:Code){sh:aN V}(la:mR V sh):Prop:=∀v out,la.F v=some out->pS C b (a_ V (fk V la.cut v)) (xO sh la.alts out)
def KI(C:Ctx)(x:Code)(l:Nat){sh:aN V}(la:mR V sh):Prop:=
 ∃rest,findLabel x l=some rest/\∀v out,la.F v=some out->KD C x rest (a_ V (fk V la.cut v)) (xO sh la.alts out)
def LOk(C:Ctx)(X:Xc V):Code->Prop
 | .seq x y=>LOk C X x/\LOk C X y
 | .block _ x=>LOk C X x
 | .scope x=>LOk C X x/\∀l la,X.jumps (cI x)=some (l,la)->KI C x l la
 | .cond _ x y=>LOk C X x/\LOk C X y
 | .loop b=>∀la,X.loops (cI b)=some la->gC C b la
 |_=>True
theorem jk{P:Program}{N:Nat->Prop}{nm:Nat->Nat}{all:List Oper}:∀{os:List Oper} {S:aB} {tr:List Tr1} {k k':aB->List Tr1->Prop},(∀S tr,k S tr->k' S tr)->jF P N nm all os S tr k->jF P N nm all os S tr k'
 |[],S,tr,k,k',hk,h=>hk _ _ h
 |o::os,S,tr,k,k',hk,h=>by
  simp only[jF]at h⊢
  obtain⟨hd,h⟩:=h
  refine⟨hd,?_⟩
  cases hg:o.guard with
  |none=>
   simp only[hg]at h⊢
   exact j8 (λe ⟨h1,h2⟩=>⟨h1,jk hk h2⟩) h
  |some g=>
   obtain⟨j,want⟩:=g
   simp only[hg]at h⊢
   split at h
   ·exact⟨λe=>j8 (λe ⟨h1,h2⟩=>⟨h1,jk hk h2⟩) (h.1 e),λe=>jk hk (h.2 e)⟩
   ·exact h.elim
def Xw(Q:Exit->aB->Prop):Exit->aB->Prop
 | .goto _,_=>False
 |e,S=>Q e S
theorem Cj{C:Ctx}{c:Code}{S:aB}{Q:Exit->aB->Prop}(h:AWp C c S (Xw Q)):AWp C (.scope c) S Q:=λE M a w hs=>
 wp_scope_straight (wp_mono (h E M a w hs) λe a' w'=>by
  rintro⟨S',E',M',hq,hs'⟩
  cases e with
  |goto l=>exact hq.elim
  |_=>exact⟨S',E',M',hq,hs'⟩)
theorem yh{C:Ctx}{X:Xc V}(hP:C.P=X.P)(hn:C.N=X.n/\Fx C X.pre)(hm:X.P.follows .mixedOrders=true)(hcall:bG X.P X.call):∀(c:Code) (A:Type) (S:TS V.N) (kn:TS V.N->Option A) (ke:Nat->TS V.N->Option A)
 (kr:HL V.N X.sh.rcut.tys->Option A) (r:A) (Q:Exit->aB->Prop),LOk C X c->ex X c A S kn ke kr=some r->Xf X.sh kn ke kr r Q->AWp C c (a_ V S) Q:=by
 intro c
 induction c with
 |skip=>intro A S kn ke kr r Q _ h hp;exact .skip (hp.norm S _ h (Ent.refl _))
 |label l=>intro A S kn ke kr r Q _ h hp;exact .label (hp.norm S _ h (Ent.refl _))
 |exit id=>
  intro A S kn ke kr r Q _ h hp
  simp only[ex]at h
  obtain⟨h1,h2⟩:=f_ h
  exact .exit (hp.exit id S _ h1 h2 (Ent.refl _))
 |goto l=>intro A S kn ke kr r Q _ h hp;exact .goto (hp.jump l S _ h (Ent.refl _))
 |ret=>
  intro A S kn ke kr r Q _ h hp
  simp only[ex]at h
  split at h
  ·rename_i v hv;exact .ret (hp.ret v _ h (eY hv))
  ·cases h
 |seq x y ihx ihy=>
  intro A S kn ke kr r Q hl h hp
  obtain⟨hlx,hly⟩:=hl
  simp only[ex]at h
  split at h
  ·refine .seq (ihx A S _ ke kr r _ hlx h ⟨λS' σ hk he=> ?_,hp.exit,hp.jump,λv σ hk he=>hp.ret v σ hk he⟩)
   exact .ent he (ihy A S' kn ke kr r Q hly hk hp)
  ·rename_i cut alts hj
   obtain⟨out,h1,h2⟩:=b9 h
   refine .seq (ihx _ S _ _ _ out _ hlx h1 ⟨λS' σ hk he=> ?_,λid S' σ hb hk he=> ?_,λl S' σ hk he=> ?_,λv σ hk he=> ?_⟩)
   ·split at hk
    ·rename_i v hv
     rw[dX hk]at h2
     exact .ent (Ent.trans he (eY hv)) (ihy A _ kn ke kr r Q hly h2 hp)
    ·cases hk
   ·split at hk
    ·rename_i v hv
     rw[dX hk]at h2
     exact hp.exit id _ σ hb h2 (Ent.trans he (eY hv))
    ·cases hk
   ·split at hk
    ·rename_i v hv
     rw[dX hk]at h2
     exact hp.jump l _ σ h2 (Ent.trans he (eY hv))
    ·cases hk
   ·rw[dX hk]at h2
    exact hp.ret v σ h2 he
 |block id x ih=>
  intro A S kn ke kr r Q hl h hp
  simp only[ex]at h
  split at h
  ·rename_i hb
   refine .block (ih A S kn _ kr r _ hl h ⟨λS' σ hk he=>hp.norm S' σ hk he,λid' S' σ hb' hk he=> ?_,λl S' σ hk he=> ?_,λv σ hk he=>hp.ret v σ hk he⟩)
   ·simp only[yf]
    split at hk
    ·rename_i e;rw[adD e];exact hp.norm S' σ hk he
    ·rename_i e;rw[adC e];exact hp.exit id' S' σ hb' hk he
   ·simp only[yf]
    rw[adC (λe=>by rw[<-e,rW]at hb;cases hb)]at hk
    exact hp.jump l S' σ hk he
  ·cases h
 |cond c x y ihx ihy=>
  intro A S kn ke kr r Q hl h hp
  obtain⟨hlx,hly⟩:=hl
  simp only[ex]at h
  split at h
  ·rename_i t
   split at h
   ·rename_i b hb
    have hev:ev (a_ V S) (.tmp t)= .d (.v (.bool b)):=by
     rw[aI]
     simp only[tev,TS.get,hb,abc,aL,bC]
    have hset:∀b',b=b'->Ent (a_ V S) (a_ V (setB S t b')):=λb' e C E M a w hs=>⟨E,M,sU (by rw[hb,e]) hs⟩
    cases b with
    |true=>
     rw[adD rfl]at h
     exact .cond hev (λ_=> .ent (hset true rfl) (ihx A _ kn ke kr r Q hlx h hp)) (λe=>by cases e)
    |false=>
     rw[adC (by simp)]at h
     exact .cond hev (λe=>by cases e) (λ_=> .ent (hset false rfl) (ihy A _ kn ke kr r Q hly h hp))
   ·cases h
  ·rename_i b
   have hev:ev (a_ V S) (.const (.bool b))= .d (.v (.bool b)):=rfl
   cases b with
   |true=>exact .cond hev (λ_=>ihx A _ kn ke kr r Q hlx h hp) (λe=>by cases e)
   |false=>exact .cond hev (λe=>by cases e) (λ_=>ihy A _ kn ke kr r Q hly h hp)
  ·cases h
 |region id ops draw=>
  intro A S kn ke kr r Q _ h hp
  have key:∀{B:Type} (k:TS V.N->Option B) (s:B),Q4 X id ops draw S k=some s->(∀S' σ,k S'=some s->Ent σ (a_ V S')->Q .normal σ)->AWp C (.region id ops draw) (a_ V S) Q:=by
   intro B k s hr hq
   cases draw with
   |false=>
    simp only[Q4]at hr
    rw[<-hP,<-hn.1]at hr
    intro E M a w hs
    refine wp_region ?_
    have:=pO (C:=C) (ops:=ops) (Q:=λe a' w'=>∃S' E' M',Q e S'/\Sim C E' M' S' a' w') (hP▸hcall) hn.2 ops.toList 0 S k E M a w (by simp) hr hs
     λS' E' M' a' w' hk hs'=>⟨_,E',M',hq S' _ hk (Ent.refl _),hs'⟩
    have e:(abk ops.toList.length).map (0+ ·)=abk ops.size:=by simp
    rw[e]at this
    exact this
   |true=>
    simp only[Q4]at hr
    have one:∀(ops:Array Oper),T1 X ops S k=some s->jF C.P C.wr X.nm ops.toList ops.toList (a_ V S) [] (λS' tr=>ye ops.toList tr=true/\Q .normal S'):=by
     intro ops hr
     simp only[T1]at hr
     rw[hP]
     have h2:=pN (W:=C.wr) hcall (λo ho=>r6 hn.2 (by rw[hn.1];exact ho)) ops.toList S (a_ V S) [] _ hr (Rl.refl S)
     refine jk (λσ' tr' ⟨S',hrl,hk⟩=> ?_) h2
     split at hk
     ·rename_i hd;exact⟨hd,hq S' σ' hk hrl.ent⟩
     ·cases hk
    have tree:∀(t:PT) (ops:Array Oper),Q3 X S k t ops=some s->PT.ok C X.nm (a_ V S) (Q .normal) t ops:=by
     intro t
     induction t with
     |leaf=>intro ops hr;exact one ops hr
     |node i j ta tb iha ihb=>
      intro ops hr
      simp only[Q3]at hr
      split at hr
      ·rename_i hf
       obtain⟨h1,h2⟩:=Cl hr
       simp only[y8,Z8,acx,abE]at hf
       obtain⟨⟨f1,f2⟩,f3⟩:=hf
       exact⟨⟨(λe=>by rw[e,abT]at f1;cases f1),f2,f3⟩,iha _ h1,ihb _ h2⟩
      ·cases hr
    exact .drawT X.nm (X.pair id) (by rw[hP];exact hm) (tree _ _ hr)
  simp only[ex]at h
  split at h
  ·exact key kn r h λS' σ hk he=>hp.norm S' σ hk he
  ·rename_i cut _
   obtain⟨v,h1,h2⟩:=b9 h
   exact key _ v h1 λS' σ hk he=>hp.norm _ σ h2 (Ent.trans he (eY hk))
 |scope x ih=>
  intro A S kn ke kr r Q hl h hp
  simp only[ex]at h
  split at h
  ·exact Cj (ih A S kn _ kr r _ hl.1 h ⟨λS' σ hk he=>hp.norm S' σ hk he,λid' S' σ hb hk he=>hp.exit id' S' σ hb (f_ hk).2 he,λl S' σ hk he=>(j2 hk).elim,λv σ hk he=>hp.ret v σ hk he⟩)
  ·rename_i l la hj
   obtain⟨rest,hf,hok⟩:=hl.2 l la hj
   refine nO hf (ih A S kn _ kr r _ hl.1 h ⟨λS' σ hk he=>hp.norm S' σ hk he,λid' S' σ hb hk he=> ?_,λl' S' σ hk he=> ?_,λv σ hk he=>hp.ret v σ hk he⟩)
   ·split at hk
    ·rename_i e
     have:=aaL e
     rw[this,rW]at hb;cases hb
    ·exact hp.exit id' S' σ hb (f_ hk).2 he
   ·split at hk
    ·rename_i e
     have e:=aaL e
     refine⟨by omega,?_⟩
     split at hk
     ·cases hk
     ·rename_i v hv
      obtain⟨out,h1,h2⟩:=b9 hk
      refine .ent (Ent.trans he (eY hv)) ((hok v out h1).mono λe σ hq=> ?_)
      unfold xO at hq
      split at hq
      ·obtain⟨hb,w,hw1,hw2⟩:=hq
       rw[dX hw1]at h2
       exact hp.exit _ _ σ hb h2 hw2
      ·obtain⟨w,hw1,hw2⟩:=hq
       rw[dX hw1]at h2
       exact hp.ret w σ h2 hw2
      ·exact hq.elim
    ·exact(j2 hk).elim
 |loop b ih=>
  intro A S kn ke kr r Q hl h hp
  simp only[ex]at h
  split at h
  ·cases h
  ·rename_i la hla
   split at h
   ·cases h
   ·rename_i v hv
    obtain⟨out,h1,h2⟩:=b9 h
    refine .ent (eY hv) ((pS.loop (hl la hla v out h1)).mono λe σ hq=> ?_)
    unfold xO at hq
    split at hq
    ·obtain⟨hb,w,hw1,hw2⟩:=hq
     rw[dX hw1]at h2
     exact hp.exit _ _ σ hb h2 hw2
    ·obtain⟨w,hw1,hw2⟩:=hq
     rw[dX hw1]at h2
     exact hp.ret w σ h2 hw2
    ·exact hq.elim
 |_=>intro A S kn ke kr r Q _ h hp;simp only[ex]at h;cases h
theorem gL{C:Ctx}{X:Xc V}(hP:C.P=X.P)(hn:C.N=X.n/\Fx C X.pre)(hm:X.P.follows .mixedOrders=true)(hcall:bG X.P X.call){b:Code}(hl:LOk C X b){cut:Cut V.ι}{alts:List Alt}
 {F:HL V.N cut.tys->Option (nK (c_ X.sh []) alts)}(ih:∀v out,F v=some out->pS C b (a_ V (fk V cut v)) (xO X.sh alts out)){v:HL V.N cut.tys}{out:nK (c_ X.sh []) alts}
 (h:exL X b cut alts F v=some out):pS C b (a_ V (fk V cut v)) (xO X.sh alts out):=by
 refine pS.round (yh hP hn hm hcall b _ _ _ _ _ out _ hl h ⟨λS' σ hk he=> ?_,λid S' σ hb hk he=> ?_,λl S' σ hk he=>(j2 hk).elim,λv σ hk he=> ?_⟩)
 ·split at hk
  ·rename_i w hw;exact .ent (Ent.trans he (eY hw)) (ih w out hk)
  ·cases hk
 ·have hk:=(f_ hk).2
  split at hk
  ·rename_i w hw;exact⟨hb,w,hk,Ent.trans he (eY hw)⟩
  ·cases hk
 ·exact⟨v,hk,he⟩
end
end Go.Tx
end
section
namespace Go.Tx
open Go.Awp
variable [Inhabited GMem]
def KG(P:Program)(rs:List ResultVar)(r:H)(own':List (Nat×Own))(e:Exit)(S:aB):Prop:=
 (e= .normal\/e= .ret)/\∃S',Ent S S'/\∃h,Q5 P S' rs=some h/\H.le h r/\∀n o,gt own' n=some o->S'.own? n=some o
theorem At{P:Program}{f:FuncId}{fn:Func}{c:Code}{args:List H}{own own':List (Nat×Own)}{r:H}(hf:P.funcs[f]?=some fn)(hb:fn.body=some c)
 (hname:(fn.name != "runtime.NumGoroutine")=true)(hn:args.length<=fn.ntmps)
 (h:∀C:Ctx,C.P=P->C.N=fn.ntmps/\C.fix=[]->AWp C c ⟨lj 0 args,u7 own⟩ (KG P fn.results.toList r own')):lW P f args own r own':=by
 refine⟨by simp[jl,hf,hb,hname],λE M w vs hgm hm how hvs=> ?_⟩
 refine calls_of_wp hf hb ?_
 let C:Ctx:=⟨P,fn.ntmps,w,M,E,mT E w own,hgm,λb ⟨n,o,hn,hb⟩=>((how.ok n o hn).block hb).2,[],[]⟩
 have hs:Sim C E M ⟨lj 0 args,u7 own⟩ {tmps:=vs++abR (fn.ntmps-vs.size) undef,defers:=[]} w:=by
  have hvs1:=hvs.1
  refine{size:=by simp[C];omega,defers:=rfl,fixed:=λp hp=>(by cases hp),tmps:=λt x hx=> ?_,mem:=hm,own:=λn o ho=> ?_,apart:=λn m o o' b hne ho ho'=> ?_,home:=λn o b ho hb=> ?_,m0:=Mem.le_refl M,mnew:=λb o v hv=> .inl hv,frame:=λ_ _ _=>rfl,grows:=aat _,os:=rfl,tape:=rfl,output:=rfl,env:=λ_ _=>rfl}
  ·obtain⟨_,h2⟩:=tY args 0 t x hx
   simp only[aaK]at h2
   have hlt:t<vs.size:=by have:=(Z4.1 h2).1;omega
   exact⟨vs[t],by simp[ab2 hlt,hlt],hvs.2 t _ x (aar hlt) h2⟩
  ·have ho':gt own n=some o:=by rw[<-gI];exact ho
   exact how.ok n o ho'
  ·have h1:gt own n=some o:=by rw[<-gI];exact ho
   have h2:gt own m=some o':=by rw[<-gI];exact ho'
   exact how.apart n m o o' b hne h1 h2
  ·have h1:gt own n=some o:=by rw[<-gI];exact ho
   exact .inl ⟨n,o,h1,hb⟩
 refine wp_mono (h C rfl ⟨rfl,rfl⟩ E M _ w hs) ?_
 rintro e a' w' ⟨S',E',M',⟨he,S'',hent,hh,hres,hle,hown⟩,hs'⟩
 obtain⟨E2,M2,hs2⟩:=hent C E' M' a' w' hs'
 obtain⟨v,hrun,hrep⟩:=Jv (C:=C) hs2 hres
 have hpost:xM E M own w v r own' E2 M2 w':=
  {rep:=hle _ _ _ hrep,owns:=⟨λn o ho=>hs2.own n o (hown n o ho),λn m o o' b hne h1 h2=>hs2.apart n m o o' b hne (hown n o h1) (hown m o' h2)⟩,mle:=hs2.m0,mem:=hs2.mem,mnew:=hs2.mnew,home:=λn o b ho hb=>hs2.home n o b (hown n o ho) hb,frame:=hs2.frame,grows:=hs2.grows,os:=hs2.os,tape:=hs2.tape,output:=hs2.output,env:=hs2.env}
 rcases he with rfl|rfl
 ·exact⟨hs2.defers,v,hrun,v,E2,M2,rfl,hpost⟩
 ·exact⟨hs2.defers,v,hrun,v,E2,M2,rfl,hpost⟩
section
variable (V:iE)
structure Sig where
 params:List (Pt V.ι)
 objs:List (Nat×OPt V.ι):=[]
 rcut:Cut V.ι
 rvars:List ResultVar
 keep:List Nat:=[]
variable {V}
def Sig.tys(sig:Sig V):List (Ty V.ι):=Fi sig.params++EU sig.objs
def G_{α:Type}:Nat->List α->List (Nat×α)
 |_,[]=>[]
 |i,x::r=>(i,x)::G_ (i+1) r
def d6(sig:Sig V)(v:HL V.N sig.tys):List (TV V.N)×List (Nat×TO V.N):=match bdL V sig.params (QX sig.tys v)with
 |some (xs,ls)=>match bdO V sig.objs ls with
  |some os=>(xs,os)
  |none=>([],[])
 |none=>([],[])
def cD(sig:Sig V)(v:HL V.N sig.tys):TS V.N:={tmps:=G_ 0 (d6 sig v).1,own:=(d6 sig v).2}
def Oh(P:Program)(S:TS V.N):ResultVar->Option (TV V.N)
 | .tmp t=>gt S.tmps t
 | .cell a t=>match gt S.tmps a with
  |some (.bp n off)=>match cW P t with
   |some (ag,sz)=>match zC V ag off sz (V.ty t) (S.own? n)with
    |some v=>some v
    |none=>match GI V (S.own? n)with
     |some cells=>Az V false ag sz (V.ty t) (cells.drop off)
     |none=>none
   |none=>none
  |_=>none
def Fq(P:Program)(S:TS V.N):List ResultVar->Option (List (TV V.N))
 |[]=>some []
 |x::r=>match Oh P S x,Fq P S r with
  |some h,some l=>some (h::l)
  |_,_=>none
def TW:List (TV V.N)->TV V.N
 |[x]=>x
 |l=> .tup l
def Gx(P:Program)(sig:Sig V)(r:HL V.N sig.rcut.tys):Option (TV V.N):=(Fq P (fk V sig.rcut r) sig.rvars).map TW
def eP(ω:Nat->Nat)(os:List (Nat×TO V.N)):List (Nat×Own):=os.filterMap λp=>(cp V ω p.2).map λo=>(p.1,o)
def pY(sig:Sig V)(r:HL V.N sig.rcut.tys):List (Nat×TO V.N):=(fk V sig.rcut r).own.filter λp=>sig.keep.contains p.1
def aM(P:Program)(fid:FuncId)(sig:Sig V)(F:HL V.N sig.tys->Option (HL V.N sig.rcut.tys)):Prop:=
 ∀v r x,F v=some r->Gx P sig r=some x->
  lW P fid (encL V (cD sig v).len (d6 sig v).1) (eP (cD sig v).len (cD sig v).own) (aL V (fk V sig.rcut r).len x) (eP (fk V sig.rcut r).len (pY sig r))
noncomputable def exF(X:Xc V)(sig:Sig V)(h:X.sh.rcut=sig.rcut)(c:Code)(v:HL V.N sig.tys):Option (HL V.N sig.rcut.tys):=
 ex X c _ (cD sig v) (λS=>Ds V sig.rcut S) (λ_ _=>none) (λr=>some (h▸r))
theorem fa{α β:Type}{f:α->Option β}:∀{l:List (Nat×α)} {n:Nat} {y:β},gt (l.filterMap λp=>(f p.2).map λo=>(p.1,o)) n=some y->∃x,(n,x)∈l/\f x=some y
 |[],n,y,h=>by simp[gt]at h
 |(k,x)::r,n,y,h=>by
  rw[abS]at h
  cases hx:f x with
  |none=>
   simp only[hx,aca]at h
   obtain⟨z,h1,h2⟩:=fa h
   exact⟨z,aab _ h1,h2⟩
  |some z=>
   simp only[hx,aau,aH]at h
   by_cases hk:k=n
   ·rw[adD hk]at h;cases h;subst hk;exact⟨x,aag,hx⟩
   ·rw[adC hk]at h
    obtain⟨w,h1,h2⟩:=fa h
    exact⟨w,aab _ h1,h2⟩
def eD:List Nat->Bool
 |[]=>true
 |x::r=> !r.contains x&&eD r
theorem oC{α:Type}:∀{l:List (Nat×α)} {n:Nat} {x:α},eD (l.map (·.1))=true->(n,x)∈l->gt l n=some x
 |[],n,x,_,h=>by cases h
 |(k,y)::r,n,x,hd,h=>by
  simp only[aac,eD,Z8]at hd
  rw[aH]
  rcases aai.1 h with he|h
  ·simp only[aaC]at he
   obtain⟨rfl,rfl⟩:=he
   rw[adD rfl]
  ·have:k≠n:=by
    intro e;subst e
    have h1:=hd.1
    have:k∈r.map (·.1):=aaJ h
    simp at h1
    simp at this
    exact h1 _ this.choose_spec
   rw[adC this]
   exact oC hd.2 h
theorem qZ{P:Program}{S:TS V.N}:∀{rs:List ResultVar} {vs:List (TV V.N)},Fq P S rs=some vs->
 ∃hs,jf P (a_ V S) rs=some hs/\hs.length=vs.length/\∀(i:Nat) (v:TV V.N),vs[i]?=some v->∃h,hs[i]?=some h/\H.le h (aL V S.len v)
 |[],vs,h=>by simp[Fq]at h;subst h;exact⟨[],rfl,rfl,λi v hv=>by simp at hv⟩
 |x::r,vs,h=>by
  simp only[Fq]at h
  split at h
  ·rename_i v l h1 h2
   simp at h;subst h
   obtain⟨hs,g1,g2,g3⟩:=qZ h2
   have:∃y,pw P (a_ V S) x=some y/\H.le y (aL V S.len v):=by
    cases x with
    |tmp t=>
     simp only[Oh]at h1
     refine⟨(a_ V S).get t,rfl,?_⟩
     unfold aB.get
     rw[db,h1]
     exact H.le.refl _
    |cell a t=>
     simp only[Oh]at h1
     split at h1
     ·rename_i n off hn
      have hg:(a_ V S).get a= .bp n off:=by
       unfold aB.get
       rw[db,hn];simp[aL]
      split at h1
      ·rename_i ag sz ht
       split at h1
       ·rename_i w hw
        simp only[Z2]at h1;subst h1
        unfold zC at hw
        split at hw
        ·rename_i i y hnn
         have hw':=aG hw;clear hw
         obtain⟨⟨e1,e2,e3,hot⟩,hw⟩:=hw'
         subst e1;subst e2;subst e3
         simp only[Z2]at hw;subst hw
         have hb:GI V (S.own? n)=some ((V.cells i y).map λl=> .lf l.t l.x):=by rw[hnn];rfl
         have hl:(V.enc i y).length=V.sz i:=by rw[V.enc_cells,Z7,V.len_cells]
         refine⟨aL V S.len (.lf (.st i) y),?_,H.le.refl _⟩
         simp only[pw,hg,ig hb,ht,jP,fw,aap,jT,Z7]
         rw[adD (by omega),aaI (by rw[Z7];omega),cR,dV]
        ·rename_i m e xs hnn
         have hw':=aG hw;clear hw
         obtain⟨⟨e1,e2,e3,hot⟩,hw⟩:=hw'
         subst e1;subst e2;subst e3
         simp only[Z2]at hw;subst hw
         have ho1:=pd hnn
         have hl:=cC (V:=V) (.ar m e) xs
         refine⟨aL V S.len (.lf (.ar m e) xs),?_,H.le.refl _⟩
         simp only[pw,hg,ho1,ht,fw,aap,KM,Z7]
         rw[adD (by omega),aaI (by rw[Z7];omega),cR,dV]
        ·cases hw
       ·split at h1
        ·rename_i cells hc
         obtain⟨y,k1,k2,_⟩:=jY (ω:=S.len) h1
         rw[iK]at k1
         refine⟨y,?_,k2⟩
         simp only[pw,hg,ig hc,ht,k1]
        ·cases h1
      ·cases h1
     ·cases h1
   obtain⟨y,y1,y2⟩:=this
   refine⟨y::hs,by simp only[jf,y1,g1],by simp[g2],λi w hw=> ?_⟩
   cases i with
   |zero=>simp at hw;subst hw;exact⟨y,rfl,y2⟩
   |succ i=>obtain⟨z,z1,z2⟩:=g3 i w (by simpa using hw);exact⟨z,by simpa using z1,z2⟩
  ·cases h
theorem pK{ω:Nat->Nat}:∀(l:List (TV V.N)) (i:Nat),lj i (encL V ω l)=(G_ i l).map λp=>(p.1,aL V ω p.2)
 |[],i=>rfl
 |x::r,i=>by simp[encL,lj,G_,pK r (i+1)]
theorem Ck:∀{ps:List (Pt V.ι)} {ls ls':List (dU V.N)} {xs:List (TV V.N)},bdL V ps ls=some (xs,ls')->xs.length=ps.length
 |[],ls,ls',xs,h=>by simp[bdL]at h;rw[h.1];rfl
 |p::r,ls,ls',xs,h=>by
  simp only[bdL]at h
  split at h
  ·rename_i x l1 h1
   split at h
   ·rename_i ys l2 h2
    simp at h
    rw[<-h.1]
    simp[Ck h2]
   ·cases h
  ·cases h
theorem d7:∀{objs:List (Nat×OPt V.ι)} {ls:List (dU V.N)} {os:List (Nat×TO V.N)},bdO V objs ls=some os->os.map (·.1)=objs.map (·.1)
 |[],[],os,h=>by simp[bdO]at h;subst h;rfl
 |[],_::_,os,h=>by simp[bdO]at h
 |(c, .box oty ps)::r,ls,os,h=>by
  simp only[bdO]at h
  split at h
  ·split at h
   ·rename_i os' h2
    simp at h;subst h
    simp[d7 h2]
   ·cases h
  ·cases h
 |(c, .st i)::r,[],os,h=>by simp[bdO]at h
 |(c, .vec te e)::r,[],os,h=>by simp[bdO]at h
 |(c, .st i)::r,⟨t,x⟩::ls,os,h=>by
  cases t<;>simp only[bdO]at h<;>first
   |(cases h;done)
   |(split at h
     ·split at h
      ·rename_i os' h2
       simp at h;subst h
       simp[d7 h2]
      ·cases h
     ·cases h)
 |(c, .vec te e)::r,⟨t,x⟩::ls,os,h=>by
  cases t<;>simp only[bdO]at h<;>first
   |(cases h;done)
   |(split at h
     ·split at h
      ·rename_i os' h2
       simp at h;subst h
       simp[d7 h2]
      ·cases h
     ·cases h)
 |(c, .que te e)::r,[],os,h=>by simp[bdO]at h
 |(c, .que te e)::r,⟨t,x⟩::ls,os,h=>by
  cases t<;>simp only[bdO]at h<;>first
   |(cases h;done)
   |(split at h
     ·split at h
      ·rename_i os' h2
       simp at h;subst h
       simp[d7 h2]
      ·cases h
     ·cases h)
 |(c, .bar m e)::r,[],os,h=>by simp[bdO]at h
 |(c, .bar m e)::r,⟨t,x⟩::ls,os,h=>by
  cases t<;>simp only[bdO]at h<;>first
   |(cases h;done)
   |(split at h
     ·split at h
      ·rename_i os' h2
       simp at h;subst h
       simp[d7 h2]
      ·cases h
     ·cases h)
 |(c, .maps te tk tv)::r,[],os,h=>by simp[bdO]at h
 |(c, .maps te tk tv)::r,⟨t,x⟩::ls,os,h=>by
  cases t<;>first
   |(simp[bdO]at h;done)
   |(rename_i t2;cases t2<;>first
    |(simp[bdO]at h;done)
    |(rename_i t3;cases t3<;>first
     |(simp[bdO]at h;done)
     |(simp only[bdO]at h
       split at h
       ·split at h
        ·rename_i os' h2
         simp at h;subst h
         simp[d7 h2]
        ·cases h
       ·cases h)))
 |(c, .iter)::r,[],os,h=>by simp[bdO]at h
 |(c, .iter)::r,[⟨t,x⟩],os,h=>by
  cases t<;>simp[bdO]at h
 |(c, .iter)::r,⟨t,x⟩::⟨t2,x2⟩::ls,os,h=>by
  cases t<;>first
   |(simp[bdO]at h;done)
   |(cases t2<;>first
    |(simp[bdO]at h;done)
    |(rename_i ki;cases ki<;>first
     |(simp[bdO]at h;done)
     |(simp only[bdO]at h
       split at h
       ·rename_i os' h2
        simp at h;subst h
        simp[d7 h2]
       ·cases h)))
 |(c, .miter cm k v)::r,[],os,h=>by simp[bdO]at h
 |(c, .miter cm k v)::r,[⟨t,x⟩],os,h=>by
  cases t<;>simp[bdO]at h
 |(c, .miter cm k v)::r,⟨t,x⟩::⟨t2,x2⟩::ls,os,h=>by
  cases t<;>first
   |(simp[bdO]at h;done)
   |(cases t2<;>first
    |(simp[bdO]at h;done)
    |(simp only[bdO]at h
      split at h
      ·split at h
       ·rename_i os' h2
        simp at h;subst h
        simp[d7 h2]
       ·cases h
      ·cases h))
 |(c, .map tk tv)::r,[],os,h=>by simp[bdO]at h
 |(c, .map tk tv)::r,⟨t,x⟩::ls,os,h=>by
  cases t<;>simp only[bdO]at h<;>first
   |(cases h;done)
   |(split at h
     ·split at h
      ·rename_i os' h2
       simp at h;subst h
       simp[d7 h2]
      ·cases h
     ·cases h)
theorem vJ(c:Cut V.ι)(ls:List (dU V.N))(h:eD (c.objs.map (·.1))=true):eD ((build V c ls).own.map (·.1))=true:=by
 unfold build
 split
 ·split
  ·rename_i os ho
   simp only
   rw[d7 ho];exact h
  ·rfl
 ·rfl
theorem ng{ω:Nat->Nat}:∀{os:List (Nat×TO V.N)} {n:Nat} {x:TO V.N} {o:Own},gt os n=some x->cp V ω x=some o->gt (eP ω os) n=some o
 |[],n,x,o,h,_=>by simp[gt]at h
 |(k,y)::r,n,x,o,h,ho=>by
  rw[aH]at h
  unfold eP
  rw[abS]
  by_cases hk:k=n
  ·rw[adD hk]at h;cases h
   simp only[ho,aau,aH]
   rw[adD hk]
  ·rw[adC hk]at h
   have ih:=ng (ω:=ω) h ho
   unfold eP at ih
   cases hy:cp V ω y with
   |none=>simp only[hy,aca];exact ih
   |some z=>
    simp only[hy,aau,aH]
    rw[adC hk];exact ih
theorem Au{X:Xc V}{sig:Sig V}(hsh:X.sh.rcut=sig.rcut){fid:FuncId}{fn:Func}{c:Code}(hf:X.P.funcs[fid]?=some fn)(hb:fn.body=some c)(hn:fn.ntmps=X.n)(hrs:fn.results.toList=sig.rvars)
 (hname:(fn.name != "runtime.NumGoroutine")=true)(hlen:ab_ sig.params.length X.n=true)(hm:X.P.follows .mixedOrders=true)(hcall:bG X.P X.call)
 (hdr:eD (sig.rcut.objs.map (·.1))=true)(hl:∀C:Ctx,C.P=X.P->C.N=X.n/\Fx C X.pre->LOk C X c){v:HL V.N sig.tys}{r:HL V.N sig.rcut.tys}(h:exF X sig hsh c v=some r):
 ∀x,Gx X.P sig r=some x->
  lW X.P fid (encL V (cD sig v).len (d6 sig v).1) (eP (cD sig v).len (cD sig v).own) (aL V (fk V sig.rcut r).len x) (eP (fk V sig.rcut r).len (pY sig r)):=by
 obtain⟨params,objs,rcut,rvars,keep⟩:=sig
 simp only at hsh
 subst hsh
 intro x hx
 have hargs:(d6 ⟨params,objs,X.sh.rcut,rvars,keep⟩ v).1.length<=X.n:=by
  have hp:params.length<=X.n:=abV hlen
  unfold d6
  split
  ·rename_i xs ls h1
   split
   ·simp only;rw[Ck h1];exact hp
   ·simp
  ·simp
 refine At hf hb hname (by rw[bE,hn];exact hargs) λC hP hN=> ?_
 have hent:Ent ⟨lj 0 (encL V (cD ⟨params,objs,X.sh.rcut,rvars,keep⟩ v).len (d6 ⟨params,objs,X.sh.rcut,rvars,keep⟩ v).1),u7 (eP (cD ⟨params,objs,X.sh.rcut,rvars,keep⟩ v).len (cD ⟨params,objs,X.sh.rcut,rvars,keep⟩ v).own)⟩
  (a_ V (cD ⟨params,objs,X.sh.rcut,rvars,keep⟩ v)):=by
  refine Ent.le (λt y hy=>⟨y,?_,H.le.refl _⟩) λn o ho=>⟨o,?_,OLe.refl _⟩
  ·rw[pK];exact hy
  ·rw[bL,abF]at ho
   obtain⟨o',ho',hoo⟩:=ho
   have:=ng (os:=(cD ⟨params,objs,X.sh.rcut,rvars,keep⟩ v).own) ho' hoo
   unfold aB.own?
   rw[gI]
   exact this
 have hend:∀e σ,(e= .normal\/e= .ret)->Ent σ (a_ V (fk V X.sh.rcut r))->
  KG X.P fn.results.toList (aL V (fk V X.sh.rcut r).len x) (eP (fk V X.sh.rcut r).len (pY ⟨params,objs,X.sh.rcut,rvars,keep⟩ r)) e σ:=by
  intro e σ he hσ
  unfold Gx at hx
  rw[aae]at hx
  obtain⟨vs,hvs,hone⟩:=hx
  obtain⟨hs,g1,g2,g3⟩:=qZ hvs
  have hh:∃y,Q5 X.P (a_ V (fk V X.sh.rcut r)) fn.results.toList=some y/\H.le y (aL V (fk V X.sh.rcut r).len x):=by
   rw[hrs]
   unfold Q5
   rw[g1]
   cases vs with
   |nil=>
    have:hs=[]:=aaA (by simpa using g2)
    subst this;subst hone
    exact⟨.tup [],rfl,by simp only[TW,aL,encL];exact H.le.refl _⟩
   |cons a l=>
    cases l with
    |nil=>
     cases hs with
     |nil=>simp at g2
     |cons y l'=>
      have:l'=[]:=aaA (by simpa using g2)
      subst this;subst hone
      obtain⟨z,z1,z2⟩:=g3 0 a rfl
      simp at z1;subst z1
      exact⟨y,rfl,z2⟩
    |cons b l=>
     cases hs with
     |nil=>simp at g2
     |cons y l'=>
      cases l' with
      |nil=>simp at g2
      |cons y2 l2=>
       subst hone
       refine⟨.tup (y::y2::l2),rfl,?_⟩
       simp only[TW,aL]
       refine Gf (by rw[bE];exact g2) λi w hw=> ?_
       rw[aU,Z6,aae]at hw
       obtain⟨u,hu,rfl⟩:=hw
       exact g3 i u hu
  obtain⟨y,hy1,hy2⟩:=hh
  refine⟨he,_,hσ,y,hy1,hy2,λn o ho=> ?_⟩
  obtain⟨o',h1,h2⟩:=fa ho
  have h1:(n,o')∈(fk V X.sh.rcut r).own:=(acp.1 h1).1
  have:=oC (vJ X.sh.rcut _ hdr) h1
  rw[bL]
  unfold TS.own?
  unfold fk at *
  rw[this]
  exact h2
 refine .ent hent (yh hP ⟨by rw[hN.1,hn],λp hp=>(by rw[hN.2]at hp;cases hp)⟩ hm hcall c _ _ _ _ _ r _ (hl C hP ⟨by rw[hN.1,hn],λp hp=>(by rw[hN.2]at hp;cases hp)⟩) h ⟨λS σ hk he=> ?_,λid S σ _ hk he=>(by cases hk),λl S σ hk he=>(by cases hk),λw σ hk he=> ?_⟩)
 ·exact hend _ σ (.inl rfl) (Ent.trans he (eY hk))
 ·have:w=r:=by simpa using hk
  subst this
  exact hend _ σ (.inr rfl) he
end
end Go.Tx
end
