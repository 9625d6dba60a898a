/-
  Texts of this claim, joined by a program of mine: what the theorem uses.
-/
import Derived.Test.YtcghbgmmgcljkaaGreatDoorPkD
import Derived.Scope
open Array renaming getElem?_append_left→Sc,getElem?_eq_getElem→QC,replicate→R4,toList_inj→Rz
open Bool renaming and_eq_true→Qg,false_eq_true→Qf,not_eq_true'→Se,not_false→R7,not_true→Q8
open Function renaming comp_apply→RJ
open Int renaming toNat→QY
open List renaming all_cons→Rb,all_eq_true→Qm,all_map→Ry,append_assoc→Q2,append_nil→Rj,cons_append→Qv,drop_append→S9,drop_drop→Rw,drop_eq_nil_of_le→RQ,drop_of_length_le→Tg,drop_zero→QW,eq_nil_of_length_eq_zero→Qy,eraseIdx_cons_succ→S_,ext_getElem?→Q9,filterMap_cons→R6,flatten_cons→QS,getElem?_append→Tl,getElem?_cons_zero→Ri,getElem?_drop→QF,getElem?_eq_some_iff→P9,getElem?_map→Qc,getElem?_range→Rs,getElem?_replicate→Sz,getElem?_set→QZ,getElem?_take→Qu,length→RZ,length_append→Qx,length_cons→Qz,length_drop→QN,length_map→Qb,length_nil→R3,length_replicate→Rf,length_set→QU,length_take→QM,map→RI,map_append→QT,map_congr_left→QE,map_cons→Qj,map_drop→Q7,map_flatten→SG,map_map→QA,map_nil→QO,map_replicate→RV,map_set→RC,map_take→Q6,mem_append_left→Rx,mem_append_right→RU,mem_cons→Ql,mem_cons_of_mem→Qd,mem_cons_self→Qi,mem_filter→Tc,mem_map→QG,mem_map_of_mem→QH,mem_of_mem_take→QX,mem_replicate→SQ,nil_append→QJ,nodup_cons→Rg,range→RA,replicate→QL,take_append→S6,take_append_drop→Rt,take_append_of_le_length→RM,take_of_length_le→QP,take_take→SO,take_zero→Sx
open List.cons renaming injEq→Rh
open Nat renaming add_zero→Q5,beq→Q0,beq_refl→R9,ble→Sg,blt→RB,blt_eq→RO,div_add_mod→Sb,eq_of_beq_eq_true→QQ,le_of_ble_eq_true→Sa,le_refl→QB,min_eq_left→Rn,mul_comm→RG,mul_le_mul→Sw,mul_le_mul_right→Qr,sub_zero→S4,succ_mul→QK,zero_add→Qt
open Ne renaming symm→QR
open Option renaming bind_eq_some_iff→RF,bind_some→P_,getD_some→Rc,isSome_iff_exists→Su,isSome_map→SY,map_eq_some_iff→Qn,map_none→Sh,map_some→QI
open Option.some renaming injEq→P8
open Prod.mk renaming injEq→QD
noncomputable section
set_option linter.unusedSectionVars false
set_option linter.unusedSimpArgs false
section
namespace Go.Tx
open Go.Awp
variable [Inhabited GMem]
theorem dB(x:D):DD.toL [.d x]=some [x]:=by simp[DD.toL,DD.toD]
theorem IM{t z:Nat}{rows:List (List DD)}{ds:List (List D)}(h:DD.toR rows=some ds):DD.toL [.sl t z rows]=some [.sl z ds]:=by simp[DD.toL,DD.toD,h]
theorem Pr{r:List DD}{s:List (List DD)}{x:List D}{y:List (List D)}(h:DD.toL r=some x)(h':DD.toR s=some y):DD.toR (r::s)=some (x::y):=by simp[DD.toR,h,h']
theorem GM{α:Type}{f:α->List DD}{g:α->List D}(h:∀x,DD.toL (f x)=some (g x)):∀l:List α,DD.toR (l.map f)=some (l.map g)
 |[]=>by simp[DD.toR]
 |x::r=>Pr (h x) (GM h r)
section
variable (V:gu)
def I4:Ty V.ι->Bool
 | .st i=>V.flat i
 | .sl _=>false
 | .ar _ e=>I4 e
 |_=>true
def sy(e:Ty V.ι)(ys:List (den V.N e)):TO V.N:=match I4 V e with
 |true=> .vec (V.tid e) e ys
 |false=> .dvec (V.tid e) e ys
def fQ(b:Nat):Nat->List (cg V.N)->List (TV V.N)×List (Nat×TO V.N)
 |_,[]=>([],[])
 |j,l::r=>match l with
  |⟨.sl e,ys⟩=>(.vh (wn b j)::(fQ b (j+1) r).1,(wn b j,sy V e ys)::(fQ b (j+1) r).2)
  |⟨t,x⟩=>(.lf t x::(fQ b (j+1) r).1,(fQ b (j+1) r).2)
def nin(n:Nat):List Nat->Bool
 |[]=>true
 |k::r=> !Q0 k n&&nin n r
def tN:List Nat->Bool
 |[]=>true
 |k::r=>nin k r&&tN r
def Kb{α:Type}:List α->Bool
 |[]=>true
 |_::_=>false
def Ig(ag:Bool)(ot:Option (Ty V.ι))(vs:List (TV V.N)):Option (TV V.N):=match ag with
 |true=>some (mkV V true ot vs)
 |false=>match vs with
  |[v]=>some v
  |_=>none
variable (P:Program) (nm:Nat->Nat)
def Dh{A:Type}(t:TypeId)(ag:Bool)(sz n s i off d:Nat)(te:TypeId)(e:Ty V.ι)(xs:List (Option (den V.N e)))(y:den V.N e)(k:TE V.N->Option A):Option A:=
 if s=tsz V.sz e/\off+fF ag sz<=s then match fQ V (nm d) off (((aI V e y).drop off).take (fF ag sz))with
  |(vs,os)=>match Ig V ag (V.ty t) vs,tN (os.map (·.1))with
   |some v,true=>match Kb os with
    |true=>k {val:=v,acc:=[n]}
    |false=>k {val:=v,acc:=[n],upd:=(n, .pvec te e (xs.set i none))::os,new:=os.map (·.1)}
   |_,_=>none
 else none
def Ce{A:Type}(t:TypeId)(x:Operand)(dst:Option Tmp)(S:TS V.N)(k:TE V.N->Option A):Option A:=match bq P t,tev S x,dst with
 |some (ag,sz), .ep n s i off,some d=>match S.own? n with
  |some (.dvec te e ys)=>ys[i]?>>=λy=>Dh V nm t ag sz n s i off d te e (ys.map some) y k
  |some (.pvec te e xs)=>xs[i]?>>=λox=>ox>>=λy=>Dh V nm t ag sz n s i off d te e xs y k
  |_=>none
 |_,_,_=>none
def give1(S:TS V.N):Ty V.ι->TV V.N->Option (cg V.N×Option Nat)
 | .sl e, .vh n=>match S.own? n with
  |some (.vec te e' xs)=>if te=V.tid e'/\e'=e/\I4 V e'=true then some (⟨.sl e',xs⟩,some n)else none
  |some (.dvec te e' ys)=>if te=V.tid e'/\e'=e then some (⟨.sl e',ys⟩,some n)else none
  |_=>none
 | .sl e, .raw (.slice none 0 0)=>some (⟨.sl e,[]⟩,none)
 | .sl _,_=>none
 |t, .lf t' x=>if t'=t then some (⟨t',x⟩,none)else none
 |_,_=>none
def rK(S:TS V.N):List (Ty V.ι)->List (TV V.N)->Option (List (cg V.N)×List (Option Nat))
 |[],[]=>some ([],[])
 |t::ts,v::vs=>match give1 V S t v,rK S ts vs with
  |some (l,n),some (ls,ns)=>some (l::ls,n::ns)
  |_,_=>none
 |_,_=>none
def zu:Ty V.ι->List (Ty V.ι)
 | .st i=>V.tys i
 |t=>[t]
def wm{A:Type}(s sz n:Nat)(e:Ty V.ι)(cs:List (TV V.N))(S:TS V.N)(k:den V.N e->List Nat->Option A):Option A:=
 if s=tsz V.sz e/\sz=s/\cs.length=s/\cs.all TV.one=true then match rK V S (zu V e) cs with
  |some (ls,ns)=>match hU V e ls with
   |some y=>match tN (fi ns)&&nin n (fi ns)with
    |true=>k y (fi ns)
    |false=>none
   |none=>none
  |none=>none
 else none
def rL(S:TS V.N)(ns:List Nat):List (Nat×TO V.N):=ns.map λm=>(m, .gone (S.len m))
def uY{A:Type}(t:TypeId)(x y:Operand)(S:TS V.N)(k:TE V.N->Option A):Option A:=match bq P t,tev S x,TV.cells V (tev S y)with
 |some (_,sz), .ep n s i 0,some cs=>match S.own? n with
  |some (.dvec te e ys)=>ys[i]?>>=λ_=>wm V s sz n e cs S λy ns=>k {val:= .junk,acc:=n::ns,upd:=(n, .dvec te e (ys.set i y))::rL V S ns}
  |some (.pvec te e xs)=>xs[i]?>>=λ_=>wm V s sz n e cs S λy ns=>Je (xs.set i (some y))>>=λys=>k {val:= .junk,acc:=n::ns,upd:=(n, .dvec te e ys)::rL V S ns}
  |_=>none
 |_,_,_=>none
def uM{A:Type}(t:TypeId)(len:Nat)(parts:List (Nat×Operand))(dst:Option Tmp)(S:TS V.N)(k:TE V.N->Option A):Option A:=match parts,dst,bg P t,V.ty t with
 |[(0,x)],some d,some (te,sz,_),some (.sl e)=>match TV.cells V (tev S x)with
  |some cs=>if len=1/\sz=tsz V.sz e/\sz<=16777216/\cs.length=sz then match rK V S (zu V e) cs with
   |some (ls,ns)=>match hU V e ls with
    |some y=>match tN (fi ns)with
     |true=>k {val:= .vh (nm d),acc:=fi ns,upd:=(nm d, .dvec te e [y])::rL V S (fi ns),new:=[nm d]}
     |false=>none
    |none=>none
   |none=>none
   else none
  |none=>none
 |_,_,_,_=>none
def Iw{A:Type}(args:List (TV V.N))(tys:List TypeId)(dst:Option Tmp)(S:TS V.N)(k:TE V.N->Option A):Option A:=match args,tys,dst with
 |[x, .vh n2],[t,t'],some d=>match bg P t,S.own? n2 with
  |some (te,sz,bytes),some (.dvec te2 e ys)=>if t=t'/\te=te2/\sz=tsz V.sz e/\bytes<=32768/\¬n2=nm d then match x with
   | .vh n=>if¬n=nm d/\¬n=n2 then match S.own? n with
     |some (.dvec te1 e1 xs)=>if h:e=e1 then
      if te1=te then
       if xs.length+ys.length<=most then k {val:= .vh (nm d),acc:=[n,n2],upd:=[(nm d, .dvec te e1 (xs++h▸ys)),(n, .gone (S.len n)),(n2, .gone (S.len n2))],new:=[nm d]}else none
      else none
      else none
     |some (.pvec te1 e1 xs)=>if h:e=e1 then
      if te1=te then
       if xs.length+ys.length<=most then k {val:= .vh (nm d),acc:=[n,n2],upd:=[(nm d, .pvec te e1 (xs++h▸ys.map some)),(n, .gone (S.len n)),(n2, .gone (S.len n2))],new:=[nm d]}else none
      else none
      else none
     |_=>none
    else none
   | .raw (.slice none 0 0)=>if ys.length<=most then k {val:= .vh (nm d),acc:=[n2],upd:=[(nm d, .dvec te e ys),(n2, .gone (S.len n2))],new:=[nm d]}else none
   |_=>none
   else none
  |_,_=>none
 |_,_,_=>none
def IG{A:Type}(t:TypeId)(x i:Operand)(S:TS V.N)(k:TE V.N->Option A):Option A:=match bg P t,tev S x,tev S i with
 |some (_,sz,_), .vh m, .lf (.int _) n=>match S.own? m with
  |some (.dvec _ _ xs)=>if 0<=n/\n<xs.length then k {val:= .ep m sz n.toNat 0,acc:=[m]}else none
  |some (.pvec _ _ xs)=>if 0<=n/\n<xs.length then k {val:= .ep m sz n.toNat 0,acc:=[m]}else none
  |_=>none
 |_,_,_=>none
def IC{A:Type}(t:TypeId)(x:Operand)(lo hi mx:Option Operand)(S:TS V.N)(k:TE V.N->Option A):Option A:=match mx,bg P t,tev S x with
 |none,some (_,sz,_), .vh n=>match S.own? n with
  |some (.vec _ e xs)=>match FZ V S lo 0,FZ V S hi xs.length with
   |some l,some h=>if sz=tsz V.sz e then if 0<=l/\l<=h/\h<=xs.length then k {val:= .sv n sz l.toNat (h.toNat-l.toNat),acc:=[n]}else none else none
   |_,_=>none
  |_=>none
 |_,_,_=>none
def Cd{A:Type}(args:List (TV V.N))(tys:List TypeId)(dst:Option Tmp)(S:TS V.N)(k:TE V.N->Option A):Option A:=match args,tys,dst with
 |[.sv n sz lo i, .sv n2 sz2 j len],[t,t'],some d=>match bg P t,S.own? n with
  |some (te,sz',_),some (.vec te1 e xs)=>if((t=t'/\te=te1)/\(sz'=tsz V.sz e/\sz=sz')/\(sz2=sz'/\n2=n))/\(lo=0/\len=xs.length-j)/\(i<=j/\j<=xs.length/\0<xs.length)then
   k {val:= .vh (nm d),acc:=[n],upd:=[(nm d, .vec te1 e (xs.take i++xs.drop j)),(n, .gone (S.len n))],new:=[nm d]}
   else none
  |_,_=>none
 |_,_,_=>none
def j4(b:Nat):Nat->List (Ty V.ι)->List Value->List (TV V.N)×List (Nat×TO V.N)
 |j,t::ts,z::zs=>match t,z with
  | .sl e, .slice none 0 0=>(.vh (wn b j)::(j4 b (j+1) ts zs).1,(wn b j,sy V e [])::(j4 b (j+1) ts zs).2)
  |_,z=>(tvc z::(j4 b (j+1) ts zs).1,(j4 b (j+1) ts zs).2)
 |_,_,zs=>(zs.map tvc,[])
def Ch{A:Type}(t:TypeId)(parts:List (Nat×Operand))(dst:Option Tmp)(k:TE V.N->Option A):Option A:=match parts,fR P t,places P t with
 |[],some z,some _=>match V.ty t,dst with
  |some (.st i),some d=>match z.all cn,j4 V d 0 (V.tys i) z with
   |true,(vs,os)=>match tN (os.map (·.1))with
    |true=>k {val:= .agg vs,acc:=[],upd:=os,new:=os.map (·.1)}
    |false=>none
   |false,_=>none
  |_,_=>none
 |_,_,_=>none
def isD:Option (TO V.N)->Bool
 |some (.dvec ..)=>true
 |some (.pvec ..)=>true
 |_=>false
def JX(pre:Nat->Bool)(o:Oper)(S:TS V.N):Bool:=match o.op with
 | .load _ x=>match tev S x with
  | .ep n _ _ _=>isD V (S.own? n)
  |_=>false
 | .store _ x _=>match tev S x with
  | .ep n _ _ _=>isD V (S.own? n)
  |_=>false
 | .indexAddr _ x _=>match tev S x with
  | .vh n=>isD V (S.own? n)
  |_=>false
 | .buildSlice _ _ _=>match o.dst with
  |some d=>pre (1000000+d)
  |none=>false
 | .call c=>match c.callee with
  | .builtin .append=>match c.args.toList with
   |[_,y]=>match tev S y with
    | .vh n=>isD V (S.own? n)
    | .sv .. =>true
    |_=>false
   |_=>false
  |_=>false
 | .slice _ _ _ _ _=>match o.dst with
  |some d=>pre (3000000+d)
  |none=>false
 | .build _ parts=>match parts.toList,o.dst with
  |[],some d=>pre (1000000+d)
  |_,_=>false
 |_=>false
def IE{A:Type}(o:Oper)(S:TS V.N)(k:TE V.N->Option A):Option A:=match o.op with
 | .load t x=>Ce V P nm t x o.dst S k
 | .store t x y=>uY V P t x y S k
 | .indexAddr t x i=>IG V P t x i S k
 | .buildSlice t len parts=>uM V P nm t len parts.toList o.dst S k
 | .call c=>match c.callee with
  | .builtin .append=>match c.args.toList.map (tev S)with
   |[_, .sv ..]=>Cd V P nm (c.args.toList.map (tev S)) c.argTypes.toList o.dst S k
   |_=>Iw V P nm (c.args.toList.map (tev S)) c.argTypes.toList o.dst S k
  |_=>none
 | .slice t x lo hi mx=>IC V P t x lo hi mx S k
 | .build t parts=>Ch V P t parts.toList o.dst k
 |_=>none
end
section
variable {V:gu}
theorem jU:∀{e:Ty V.ι} (_:I4 V e=true) (y:den V.N e),bO V.sz V.enc V.tid V.encd e y=(aV V.sz V.enc e y).map .d
 | .st i,h,y=>by
  simp only[bO,aV]
  rw[V.encd_cells,V.enc_cells,QA]
  refine QE λl hl=> ?_
  have:=V.flat_cells i y h l hl
  obtain⟨t,x⟩:=l
  cases t<;>first|rfl|simp[Ty.isSl]at this
 | .sl e,h,_=>by simp[I4]at h
 | .ar n e,h,xs=>by
  simp only[I4]at h
  simp only[bO,aV,tt,SG,QA]
  congr 2
  exact QE λx _=>jU h x
 | .int _,_,_=>rfl
 | .bool,_,_=>rfl
 | .str,_,_=>rfl
 | .mp _ _,_,_=>rfl
 | .er,_,_=>rfl
 | .op _,_,_=>rfl
 | .fnc,_,_=>rfl
 | .fno,_,_=>rfl
theorem Er(e:Ty V.ι)(ys:List (den V.N e)):∃o,(∀ω,a_ V ω (sy V e ys)=some o)/\OLe (.dvec (V.tid e) (tsz V.sz e) (ys.map λx=>bO V.sz V.enc V.tid V.encd e x)) o:=by
 unfold sy
 split
 ·rename_i h
  refine⟨_,λ_=>rfl,?_⟩
  have:(ys.map λx=>bO V.sz V.enc V.tid V.encd e x)=(ys.map λx=>aV V.sz V.enc e x).map λr=>r.map .d:=by
   rw[QA]
   exact QE λx _=>jU h x
  rw[this]
  exact OLe.d2v
 ·exact⟨_,λ_=>rfl,OLe.refl _⟩
theorem sA(e:Ty V.ι)(ys:List (den V.N e)):TO.len (some (sy V e ys))=ys.length:=by
 unfold sy
 split<;>rfl
theorem eE:∀(e:Ty V.ι) (y:den V.N e),bO V.sz V.enc V.tid V.encd e y=(aI V e y).map λl=>eC V.sz V.enc V.tid V.encd l.t l.x
 | .st i,y=>by simp only[bO,aI];exact V.encd_cells i y
 | .sl e,_=>rfl
 | .ar n e,xs=>by
  simp only[bO,aI,tt,SG,QA]
  congr 2
  exact QE λx _=>eE e x
 | .int _,_=>rfl
 | .bool,_=>rfl
 | .str,_=>rfl
 | .mp _ _,_=>rfl
 | .er,_=>rfl
 | .op _,_=>rfl
 | .fnc,_=>rfl
 | .fno,_=>rfl
theorem n7(b:Nat):∀(ls:List (cg V.N)) (j:Nat),∃hs os os' ds,jG (wn b) j (ls.map λl=>eC V.sz V.enc V.tid V.encd l.t l.x)=some (hs,os,ds)/\PLe os os'/\(∀ω,os'.map (λp=>(p.1,some p.2))=(fQ V b j ls).2.map λp=>(p.1,a_ V ω p.2))/\
 (∀ω:Nat->Nat,(∀p∈(fQ V b j ls).2,ω p.1=TO.len (some p.2))->hs=encL V ω (fQ V b j ls).1)/\((fQ V b j ls).2=[]->os=[]/\ds=ls.map λl=>eC V.sz V.enc V.tid V.encd l.t l.x)
 |[],j=>⟨[],[],[],[],rfl, .nil,λ_=>rfl,λ_ _=>rfl,λ_=>⟨rfl,rfl⟩⟩
 |⟨t,x⟩::r,j=>by
  obtain⟨hs,os,os',ds,h1,h2,h3,h4,h5⟩:=n7 b r (j+1)
  have other:∀(t:Ty V.ι) (x:den V.N t),eC V.sz V.enc V.tid V.encd t x= .d (aH V.sz V.enc t x)->fQ V b j (⟨t,x⟩::r)=(.lf t x::(fQ V b (j+1) r).1,(fQ V b (j+1) r).2)->
   ∃hs os os' ds,jG (wn b) j ((⟨t,x⟩::r:List (cg V.N)).map λl=>eC V.sz V.enc V.tid V.encd l.t l.x)=some (hs,os,ds)/\PLe os os'/\(∀ω,os'.map (λp=>(p.1,some p.2))=(fQ V b j (⟨t,x⟩::r)).2.map λp=>(p.1,a_ V ω p.2))/\
  (∀ω:Nat->Nat,(∀p∈(fQ V b j (⟨t,x⟩::r)).2,ω p.1=TO.len (some p.2))->hs=encL V ω (fQ V b j (⟨t,x⟩::r)).1)/\
    ((fQ V b j (⟨t,x⟩::r)).2=[]->os=[]/\ds=(⟨t,x⟩::r:List (cg V.N)).map λl=>eC V.sz V.enc V.tid V.encd l.t l.x):=by
    intro t x he ht
    rw[ht]
    refine⟨.d (aH V.sz V.enc t x)::hs,os,os', .d (aH V.sz V.enc t x)::ds,?_,h2,h3,λω hω=> ?_,λhn=>⟨(h5 hn).1,?_⟩⟩
    ·simp only[Qj,jG,h1,he]
    ·simp only[encL,ap]
     rw[h4 ω hω]
    ·rw[Qj,(h5 hn).2,he]
  cases t with
  |sl e=>
   obtain⟨o,o1,o2⟩:=Er (V:=V) e x
   refine⟨.vh (wn b j) x.length::hs,(wn b j, .dvec (V.tid e) (tsz V.sz e) (x.map λy=>bO V.sz V.enc V.tid V.encd e y))::os,(wn b j,o)::os', .junk::ds,?_, .cons o2 h2,λω=> ?_,λω hω=> ?_,λhn=> ?_⟩
   ·simp only[Qj,jG,h1]
    simp only[eC,Qb]
   ·simp only[fQ,Qj,h3 ω,o1]
   ·simp only[fQ,encL,ap]at hω⊢
    have:=hω _ Qi
    simp only at this
    rw[this,sA,h4 ω λp hp=>hω p (Qd _ hp)]
   ·simp only[fQ]at hn;cases hn
  |int k=>exact other _ x rfl rfl
  |bool=>exact other _ x rfl rfl
  |str=>exact other _ x rfl rfl
  |st i=>exact other _ x rfl rfl
  |mp k v=>exact other _ x rfl rfl
  |er=>exact other _ x rfl rfl
  |op e=>exact other _ x rfl rfl
  |fnc=>exact other _ x rfl rfl
  |fno=>exact other _ x rfl rfl
  |ar n e=>exact other _ x rfl rfl
theorem ui{n:Nat}:∀{l:List Nat},nin n l=true->n∉l
 |[],_=>by simp
 |k::r,h=>by
  simp only[nin,Qg,Se]at h
  intro hm
  rcases Ql.1 hm with q|q
  ·subst q;simp at h
  ·exact ui h.2 q
theorem eB:∀{l:List Nat},tN l=true->l.Nodup
 |[],_=> .nil
 |a::r,h=>by
  simp only[tN,Qg]at h
  exact Rg.2 ⟨ui h.1,eB h.2⟩
theorem iq{e:Ty V.ι}{ls:List (cg V.N)}{y:den V.N e}(h:hU V e ls=some y):aI V e y=ls:=by
 have single:∀(t:Ty V.ι) (y:den V.N t) (l:cg V.N),(if h:l.t=t then some (h▸l.x:den V.N t)else none)=some y->[(⟨t,y⟩:cg V.N)]=[l]:=by
  intro t y l h
  split at h
  ·rename_i ht
   obtain⟨lt,lx⟩:=l
   simp only at ht;subst ht
   simp only[P8]at h
   subst h;rfl
  ·cases h
 cases e with
 |st i=>exact V.of_cells _ _ _ h
 |ar n e=>simp[hU]at h
 |_=>
  cases ls with
  |nil=>simp[hU]at h
  |cons l r=>
   cases r with
   |nil=>exact single _ y l h
   |cons a b=>simp[hU]at h
theorem tW{S:TS V.N}{t:Ty V.ι}{v:TV V.N}{l:cg V.N}{n:Option Nat}(h:give1 V S t v=some (l,n)):iu (aC V S).own? (ap V S.len v) (eC V.sz V.enc V.tid V.encd l.t l.x) n:=by
 unfold give1 at h
 split at h
 ·rename_i e n'
  split at h
  ·rename_i te e' xs hn
   have h':=aj h;clear h
   obtain⟨⟨h1,h2,hf⟩,h⟩:=h'
   subst h1;subst h2
   simp only[P8,QD]at h
   obtain⟨rfl,rfl⟩:=h
   have:=iu.v (ω:=(aC V S).own?) n' (V.tid e') (tsz V.sz e') _ (cd hn)
   simp only[ap,cU hn,eC]
   rw[Qb]at this
   have he:(xs.map λx=>bO V.sz V.enc V.tid V.encd e' x)=(xs.map λx=>aV V.sz V.enc e' x).map λr=>r.map .d:=by
    rw[QA]
    exact QE λx _=>jU hf x
   rw[he];exact this
  ·rename_i te e' ys hn
   have h':=aj h;clear h
   obtain⟨⟨h1,h2⟩,h⟩:=h'
   subst h1;subst h2
   simp only[P8,QD]at h
   obtain⟨rfl,rfl⟩:=h
   have:=iu.dv (ω:=(aC V S).own?) n' (V.tid e') (tsz V.sz e') _ (gh hn)
   have hl:S.len n'=ys.length:=by unfold TS.len;rw[hn];rfl
   simp only[ap,hl,eC]
   rw[Qb]at this
   exact this
  ·cases h
 ·rename_i e
  simp only[P8,QD]at h
  obtain⟨rfl,rfl⟩:=h
  exact .nil _ _
 ·cases h
 ·rename_i t' x hne
  have h':=aj h;clear h
  obtain⟨h1,h⟩:=h'
  subst h1
  simp only[P8,QD]at h
  obtain⟨rfl,rfl⟩:=h
  have:eC V.sz V.enc V.tid V.encd t' x= .d (aH V.sz V.enc t' x):=by
   cases t'<;>first|rfl|simp_all
  rw[this]
  exact .d _
 ·cases h
theorem iF{S:TS V.N}:∀{ts:List (Ty V.ι)} {vs:List (TV V.N)} {ls:List (cg V.N)} {ns:List (Option Nat)},rK V S ts vs=some (ls,ns)->
 ∃l:List (H×DD×Option Nat),(l.map λp=>p.1)=encL V S.len vs/\(l.map λp=>p.2.1)=(ls.map λl=>eC V.sz V.enc V.tid V.encd l.t l.x)/\(l.map λp=>p.2.2)=ns/\∀p∈l,iu (aC V S).own? p.1 p.2.1 p.2.2
 |[],[],ls,ns,h=>by
  simp only[rK,P8,QD]at h
  obtain⟨rfl,rfl⟩:=h
  exact⟨[],rfl,rfl,rfl,λp hp=>by cases hp⟩
 |[],_::_,ls,ns,h=>by simp[rK]at h
 |_::_,[],ls,ns,h=>by simp[rK]at h
 |t::ts,v::vs,ls,ns,h=>by
  simp only[rK]at h
  split at h
  ·rename_i l n ls' ns' h1 h2
   simp only[P8,QD]at h
   obtain⟨rfl,rfl⟩:=h
   obtain⟨L,a1,a2,a3,a4⟩:=iF h2
   refine⟨(ap V S.len v,eC V.sz V.enc V.tid V.encd l.t l.x,n)::L,by simp[encL,a1],by simp[a2],by simp[a3],λp hp=> ?_⟩
   rcases Ql.1 hp with q|q
   ·subst q;exact tW h1
   ·exact a4 p q
  ·cases h
theorem zB{l:cg V.N}(h:l.t.cell=true):DD.one (eC V.sz V.enc V.tid V.encd l.t l.x)=true:=by
 obtain⟨t,x⟩:=l
 have:=mG (l:=⟨t,x⟩) h
 cases t<;>first|rfl|(simp[Ty.cell]at h;done)|simpa[eC,DD.one,H.one]using this
theorem zC(e:Ty V.ι)(y:den V.N e):(bO V.sz V.enc V.tid V.encd e y).all DD.one=true:=by
 rw[eE,Ry,Qm]
 exactλl hl=>zB (iQ e y l hl)
theorem dlen{S:TS V.N}{n:Nat}{te:TypeId}{e:Ty V.ι}{xs:List (den V.N e)}(h:S.own? n=some (.dvec te e xs)):S.len n=xs.length:=by unfold TS.len;rw[h];rfl
theorem Lt{S:TS V.N}{n:Nat}{te:TypeId}{e:Ty V.ι}{xs:List (Option (den V.N e))}(h:S.own? n=some (.pvec te e xs)):S.len n=xs.length:=by unfold TS.len;rw[h];rfl
theorem ff{e:Ty V.ι}(ys:List (den V.N e)):((ys.map some).map λx=>oz V e x)=ys.map λx=>bO V.sz V.enc V.tid V.encd e x:=by
 rw[QA];rfl
theorem mQ{S:TS V.N}{ns:List Nat}{m:Nat}{o:TO V.N}(h:gt (rL V S ns) m=some o):TO.len (some o)=S.len m:=by
 obtain⟨k,_,hk⟩:=QG.1 (bD h)
 simp only[QD]at hk
 obtain⟨rfl,rfl⟩:=hk
 rfl
theorem mP(ω:Nat->Nat)(S:TS V.N)(ns:List Nat):(rL V S ns).map (λp=>(p.1,a_ V ω p.2))=ns.map λn=>(n,none):=by
 unfold rL
 rw[QA]
 rfl
theorem qh{α:Type}:∀{l:List (Nat×α)} {n:Nat} {x:α},(l.map (·.1)).Nodup->(n,x)∈l->gt l n=some x
 |[],_,_,_,h=>by cases h
 |(k,y)::r,n,x,hn,h=>by
  rw[Qj,Rg]at hn
  rw[ab]
  rcases Ql.1 h with q|q
  ·cases q;rw[TL rfl]
  ·rw[TK λe=>hn.1 (by rw[e];exact QG.2 ⟨_,q,rfl⟩)]
   exact qh hn.2 q
theorem nd{α:Type}{l:List (Nat×α)}{n:Nat}{x:α}(h:(n,x)∈l):n∈l.map (·.1):=QG.2 ⟨_,h,rfl⟩
section
variable {P:Program} {nm:Nat->Nat} {o:Oper} {S:TS V.N} {A:Type} {k:TE V.N->Option A} {r:A}
def OpD(P:Program)(nm:Nat->Nat)(o:Oper)(S:TS V.N)(k:TE V.N->Option A)(r:A):Prop:=
 ∃te,k te=some r/\good S te/\∃e',oh P nm o (Go.Awp.ev (aC V S)) (aC V S).own? e'/\ELe true e' (fw (S.app o.dst te).len te)
theorem vL{t:TypeId}{x:Operand}{ag:Bool}{sz n s i off d:Nat}{te:TypeId}{e:Ty V.ι}{xs:List (Option (den V.N e))}{y:den V.N e}(hf:∀te,k te=some r->∀d∈te.new,S.fresh d=true)(ho:o.op= .load t x)(hdst:o.dst=some d)
 (ht:bq P t=some (ag,sz))(hx:tev S x= .ep n s i off)(hn:(aC V S).own? n=some (.dvec te (tsz V.sz e) (xs.map λx=>oz V e x)))(hsome:S.own? n≠none)(hln:S.len n=xs.length)(hox:xs[i]?=some (some y))
 (h:Dh V nm t ag sz n s i off d te e xs y k=some r):OpD P nm o S k r:=by
 unfold Dh at h
 have h':=aj h;clear h
 obtain⟨⟨hse,hfit⟩,h⟩:=h'
 generalize hT:fQ V (nm d) off (((aI V e y).drop off).take (fF ag sz))=T at h
 obtain⟨vs,os⟩:=T
 simp only at h
 obtain⟨hh,hos,hos',ds,b1,b2,b3,b4,b5⟩:=n7 (V:=V) (nm d) (((aI V e y).drop off).take (fF ag sz)) off
 rw[hT]at b3 b4 b5
 simp only at b3 b4 b5
 have hrl:=eo e y
 let all:=(aI V e y).map λl=>eC V.sz V.enc V.tid V.encd l.t l.x
 have hrow:(xs.map λx=>oz V e x)[i]?=some all:=by
  rw[Qc,hox]
  simp only[QI,oz,all]
  rw[eE]
 have hmid:(all.drop off).take (fF ag sz)=(((aI V e y).drop off).take (fF ag sz)).map λl=>eC V.sz V.enc V.tid V.encd l.t l.x:=by
  simp only[all,Q7,Q6]
 have hal:all.length=s:=by simp only[all];rw[Qb,hrl,hse]
 have hsn:(aC V S).own? n=some (.dvec te s (xs.map λx=>oz V e x)):=by rw[hn,hse]
 have hxe:Go.Awp.ev (aC V S) x= .ep n s i off:=by rw[an,hx];rfl
 have hnames:os.map (·.1)=hos'.map (·.1):=by
  have:=congrArg (RI (·.1)) (b3 λ_=>0)
  rw[QA,QA]at this
  exact this.symm
 split at h
 ·rename_i v hv hdi
  have hdi:=eB hdi
  have hval:∀ω:Nat->Nat,hh=encL V ω vs->(ag=true/\ap V ω v=bu hh\/ag=false/\hh=[ap V ω v]):=by
   intro ω hω
   cases ag with
   |true=>
    simp only[Ig,P8]at hv
    subst hv
    exact .inl ⟨rfl,by rw[hω];exact(fH.2 rfl).symm⟩
   |false=>
    simp only[Ig]at hv
    split at hv
    ·rename_i v0
     cases hv
     exact .inr ⟨rfl,by rw[hω];rfl⟩
    ·cases hv
  cases hni:Kb os with
  |true=>
   rw[hni]at h
   simp only at h
   have hos0:os=[]:=by cases os with|nil=>rfl|cons a b=>cases hni
   subst hos0
   obtain⟨q1,q2⟩:=b5 rfl
   subst q1
   rw[<-hmid]at q2
   subst q2
   refine⟨_,h,d_ S v [n],_, .load0 (val:=ap V S.len v) ho hdst ht hxe hsn hrow hal hfit (by rw[<-hmid]at b1;exact b1) (hval _ (b4 _ λp hp=>by cases hp)),kf rfl⟩
  |false=>
   rw[hni]at h
   simp only at h
   have hfr:=hf _ h
   have hlen:∀p∈os,(S.app o.dst {val:=v,acc:=[n],upd:=(n, .pvec te e (xs.set i none))::os,new:=os.map (·.1)}).len p.1=TO.len (some p.2):=by
    intro p hp
    rw[bQ]
    have hpn:n≠p.1:=λe1=>by
     have:=hfr p.1 (QH hp)
     unfold TS.fresh at this
     simp only[Qg]at this
     have h9:=this.1.1
     rw[<-e1]at h9
     cases hq:S.own? n with
     |none=>exact hsome hq
     |some o9=>rw[hq]at h9;cases h9
    simp only[ab,TK hpn]
    have:gt os p.1=some p.2:=qh hdi hp
    rw[this]
   refine⟨_,h,λm p hm=> ?_,_, .load (val:=ap V (S.app o.dst {val:=v,acc:=[n],upd:=(n, .pvec te e (xs.set i none))::os,new:=os.map (·.1)}).len v) ho hdst ht hxe hsn hrow hal hfit (by rw[<-hmid]at b1;exact b1) (hval _ (b4 _ hlen)) b2 (by rw[<-hnames];exact hdi),
    bo rfl hnames.symm ?_ rfl⟩
   ·simp only[ab]at hm
    by_cases hnm:n=m
    ·subst hnm
     rw[TL rfl]at hm;cases hm
     right;rw[hln];simp[TO.len]
    ·rw[TK hnm]at hm
     exact .inl (nd (bD hm))
   ·rw[Qj]
    refine congr (congrArg List.cons ?_) (b3 _)
    simp only[a_,RC,oz,hse]
 ·cases h
theorem E3{t:TypeId}{x:Operand}(hf:∀te,k te=some r->∀d∈te.new,S.fresh d=true)(ho:o.op= .load t x)(h:Ce V P nm t x o.dst S k=some r):OpD P nm o S k r:=by
 unfold Ce at h
 split at h
 ·rename_i ag sz n s i off d ht hx hdst
  split at h
  ·rename_i te e ys hn
   obtain⟨y,hy,h2⟩:=aR h
   exact vL hf ho hdst ht hx (by rw[ff];exact gh hn) (by rw[hn];simp) (by rw[dlen hn,Qb]) (by rw[Qc,hy];rfl) h2
  ·rename_i te e xs hn
   obtain⟨ox,hox,h2⟩:=aR h
   obtain⟨y,hy,h3⟩:=aR h2
   exact vL hf ho hdst ht hx (lN hn) (by rw[hn];simp) (Lt hn) (by rw[hox,hy]) h3
  ·cases h
 ·cases h
theorem sR{t:TypeId}{x y:Operand}{ag:Bool}{sz n s i:Nat}{te:TypeId}{e:Ty V.ι}{xs:List (Option (den V.N e))}{ox:Option (den V.N e)}{cs:List (TV V.N)}{f:den V.N e->List Nat->Option A}(ho:o.op= .store t x y)
 (ht:bq P t=some (ag,sz))(hx:tev S x= .ep n s i 0)(hcs:TV.cells V (tev S y)=some cs)(hn:(aC V S).own? n=some (.dvec te (tsz V.sz e) (xs.map λx=>oz V e x)))(hox:xs[i]?=some ox)
 (h:wm V s sz n e cs S f=some r):∃y' ns,f y' ns=some r/\oh P nm o (Go.Awp.ev (aC V S)) (aC V S).own? {val:= .junk,acc:=n::ns,upd:=(n,some (.dvec te (tsz V.sz e) ((xs.set i (some y')).map λx=>oz V e x)))::ns.map λm=>(m,none)}:=by
 unfold wm at h
 have h':=aj h;clear h
 obtain⟨⟨hse,hss,hcl,hone⟩,h⟩:=h'
 rw[hss]at ht
 split at h
 ·rename_i ls ns hg
  split at h
  ·rename_i y' hy'
   split at h
   ·rename_i hdi
    rw[Qg]at hdi
    obtain⟨l,l1,l2,l3,l4⟩:=iF hg
    have hrc:=iq hy'
    have hll:l.length=s:=by
     have:=congrArg RZ l1
     rw[Qb,aL]at this;omega
    have hrow:(xs.map λx=>oz V e x)[i]?=some (oz V e ox):=by rw[Qc,hox];rfl
    refine⟨y',fi ns,h,?_⟩
    have:=oh.store (ρ:=Go.Awp.ev (aC V S)) (ω:=(aC V S).own?) (nm:=nm) (l:=l) ho ht (by rw[an,hx];rfl) (by rw[hn,hse]) hrow (by rw[an,l1];exact ca hcs) hll (by rw[l1];exact dh hone) l4 (by rw[l3];exact eB hdi.1) (by rw[l3];exact ui hdi.2)
    rw[l2,l3]at this
    have hq:oz V e (some y')=ls.map λl=>eC V.sz V.enc V.tid V.encd l.t l.x:=by
     simp only[oz]
     rw[eE,hrc]
    rw[RC,hq,<-hse]
    exact this
   ·cases h
  ·cases h
 ·cases h
theorem Cl{t:TypeId}{x y:Operand}(ho:o.op= .store t x y)(h:uY V P t x y S k=some r):OpD P nm o S k r:=by
 have fin:∀(n:Nat) (te:TypeId) (e:Ty V.ι) (ys:List (den V.N e)) (ns:List Nat),S.len n=ys.length->k {val:= .junk,acc:=n::ns,upd:=(n, .dvec te e ys)::rL V S ns}=some r->
  oh P nm o (Go.Awp.ev (aC V S)) (aC V S).own? {val:= .junk,acc:=n::ns,upd:=(n,some (.dvec te (tsz V.sz e) (ys.map λx=>bO V.sz V.enc V.tid V.encd e x)))::ns.map λm=>(m,none)}->OpD P nm o S k r:=by
  intro n te e ys ns hl h hs'
  refine⟨_,h,λm p hm=> ?_,_,hs',bo rfl rfl ?_ rfl⟩
  ·simp only[ab]at hm
   by_cases hnm:n=m
   ·subst hnm
    rw[TL rfl]at hm;cases hm
    right;rw[hl];rfl
   ·rw[TK hnm]at hm
    exact .inr (mQ hm)
  ·rw[Qj,mP];rfl
 unfold uY at h
 split at h
 ·rename_i ag sz n s i cs ht hx hcs
  split at h
  ·rename_i te e ys hn
   obtain⟨y0,hy0,h2⟩:=aR h
   obtain⟨y',ns,h3,h4⟩:=sR (nm:=nm) (xs:=ys.map some) ho ht hx hcs (by rw[ff];exact gh hn) (by rw[Qc,hy0];rfl) h2
   refine fin n te e _ ns (by rw[dlen hn,QU]) h3 ?_
   rw[<-ff,RC]
   exact h4
  ·rename_i te e xs hn
   obtain⟨ox,hox,h2⟩:=aR h
   obtain⟨y',ns,h3,h4⟩:=sR (nm:=nm) ho ht hx hcs (lN hn) hox h2
   obtain⟨ys,hys,h5⟩:=aR h3
   have hq:=yL hys
   refine fin n te e ys ns ?_ h5 ?_
   ·rw[Lt hn]
    have:=congrArg RZ hq
    rw[QU,Qb]at this;exact this
   ·rw[<-ff,<-hq];exact h4
  ·cases h
 ·cases h
theorem B_{t:TypeId}{len:Nat}{parts:Array (Nat×Operand)}(ho:o.op= .buildSlice t len parts)(h:uM V P nm t len parts.toList o.dst S k=some r):OpD P nm o S k r:=by
 unfold uM at h
 split at h
 ·rename_i x d te sz by_ e hparts hdst ht hty
  split at h
  ·rename_i cs hcs
   have h':=aj h;clear h
   obtain⟨⟨h0,hse,hsm,hcl⟩,h⟩:=h'
   subst h0
   split at h
   ·rename_i ls ns hg
    split at h
    ·rename_i y' hy'
     split at h
     ·rename_i hdi
      obtain⟨l,l1,l2,l3,l4⟩:=iF hg
      have hrc:=iq hy'
      have hll:l.length=sz:=by
       have:=congrArg RZ l1
       rw[Qb,aL]at this;omega
      have hpa:parts= #[(0,x)]:=by rw[<-Rz];exact hparts
      subst hpa
      have:=oh.build (ρ:=Go.Awp.ev (aC V S)) (ω:=(aC V S).own?) (nm:=nm) (l:=l) ho hdst ht hsm (by rw[an,l1];exact ca hcs) hll l4 (by rw[l3];exact eB hdi)
      rw[l2,l3]at this
      refine⟨_,h,λm p hm=> ?_,_,this,bo ?_ rfl ?_ rfl⟩
      ·simp only[ab]at hm
       by_cases hnm:nm d=m
       ·left;simp[hnm]
       ·rw[TK hnm]at hm
        exact .inr (mQ hm)
      ·simp only[ap]
       rw[bQ]
       simp only[ab,TH]
       rfl
      ·rw[Qj,mP]
       have hq:bO V.sz V.enc V.tid V.encd e y'=ls.map λl=>eC V.sz V.enc V.tid V.encd l.t l.x:=by
        rw[eE,hrc]
       simp only[a_,Qj,QO]
       rw[hq,hse]
     ·cases h
    ·cases h
   ·cases h
  ·cases h
 ·cases h
theorem IH{t:TypeId}{x i:Operand}(ho:o.op= .indexAddr t x i)(h:IG V P t x i S k=some r):OpD P nm o S k r:=by
 unfold IG at h
 split at h
 ·rename_i te sz by_ m kk n ht hx hi
  split at h
  ·rename_i te' e' xs hm
   have h':=aj h;clear h
   obtain⟨⟨h0,h1⟩,h⟩:=h'
   exact⟨_,h,d_ S _ _,_, .index ho ht (by rw[an,hx];rfl) (by rw[an,hi];rfl) (gh hm) h0 (by rw[dlen hm];exact h1),kf rfl⟩
  ·rename_i te' e' xs hm
   have h':=aj h;clear h
   obtain⟨⟨h0,h1⟩,h⟩:=h'
   exact⟨_,h,d_ S _ _,_, .index ho ht (by rw[an,hx];rfl) (by rw[an,hi];rfl) (lN hm) h0 (by rw[Lt hm];exact h1),kf rfl⟩
  ·cases h
 ·cases h
theorem Iy{c:Call}(ho:o.op= .call c)(hc:c.callee= .builtin .append)(h:Iw V P nm (c.args.toList.map (tev S)) c.argTypes.toList o.dst S k=some r):OpD P nm o S k r:=by
 unfold Iw at h
 split at h
 ·rename_i x n2 t t' d hargs htys hdst
  split at h
  ·rename_i te sz bytes te2 e ys ht hn2
   have h':=aj h;clear h
   obtain⟨⟨h1,h2,hse,hby,hnd⟩,h⟩:=h'
   subst h1;subst h2
   obtain⟨p,q,hpq,hpx,hqx⟩:∃p q,c.args.toList=[p,q]/\tev S p=x/\tev S q= .vh n2:=by
    match hcl:c.args.toList,hargs with
    |[p,q],hargs=>simp at hargs;exact⟨p,q,rfl,hargs.1,hargs.2⟩
    |[],hargs=>simp at hargs
    |[_],hargs=>simp at hargs
    |_::_::_::_,hargs=>simp at hargs
   have hca:c.args= #[p,q]:=by rw[<-Rz];exact hpq
   have hct:c.argTypes= #[t,t]:=by rw[<-Rz];exact htys
   have hqe:Go.Awp.ev (aC V S) q= .vh n2 (ys.map λx=>bO V.sz V.enc V.tid V.encd e x).length:=by
    rw[an,hqx];simp only[ap];rw[dlen hn2];simp
   have hone:(ys.map λx=>bO V.sz V.enc V.tid V.encd e x).flatten.all DD.one=true:=by
    rw[List.all_flatten,Ry,Qm]
    intro y _
    exact zC e y
   have hown2:(aC V S).own? n2=some (.dvec te sz (ys.map λx=>bO V.sz V.enc V.tid V.encd e x)):=by rw[gh hn2,hse]
   have good2:∀(n:Nat) (o1:TO V.N) (m:Nat) (p:TO V.N),gt [(nm d,o1),(n, .gone (S.len n)),(n2, .gone (S.len n2))] m=some p->m∈[nm d]\/TO.len (some p)=S.len m:=by
    intro n o1 m p hm
    simp only[ab]at hm
    by_cases e1:nm d=m
    ·left;simp[e1]
    ·rw[TK e1]at hm
     right
     by_cases e2:n=m
     ·rw[TL e2]at hm;cases hm;subst e2;rfl
     ·rw[TK e2]at hm
      by_cases e3:n2=m
      ·rw[TL e3]at hm;cases hm;subst e3;rfl
      ·rw[TK e3]at hm;simp[gt]at hm
   have two:∀(n:Nat) (xs:List (Option (den V.N e))) (o1:TO V.N),tev S p= .vh n->¬n=n2->S.len n=xs.length->(aC V S).own? n=some (.dvec te sz (xs.map λx=>oz V e x))->TO.len (some o1)=xs.length+ys.length->
    (∀ω,a_ V ω o1=some (.dvec te sz ((xs.map λx=>oz V e x)++ys.map λx=>bO V.sz V.enc V.tid V.encd e x)))->
    (if xs.length+ys.length<=most then k {val:= .vh (nm d),acc:=[n,n2],upd:=[(nm d,o1),(n, .gone (S.len n)),(n2, .gone (S.len n2))],new:=[nm d]}else none)=some r->OpD P nm o S k r:=by
    intro n xs o1 hp hn12 hln hown hlo henc h
    have h':=aj h;clear h
    obtain⟨hle,h⟩:=h'
    have hby':((xs.map λx=>oz V e x).length+(ys.map λx=>bO V.sz V.enc V.tid V.encd e x).length) *bytes<=140737488355328:=by
     simp only[Qb,most]at hle⊢
     have:(xs.length+ys.length) *bytes<=4294967296 *32768:=Sw hle hby
     omega
    refine⟨_,h,λm p hm=>good2 n o1 m p hm,_, .append (nm:=nm) (rows:=xs.map λx=>oz V e x) (ns:=[n,n2]) ho hc hca hct hdst ht (.inl ⟨n,by rw[an,hp];simp only[ap];rw[hln];simp,hown,hn12,rfl⟩) hqe hown2 hone hby' (by simp only[Qb,most]at hle⊢;omega),bo ?_ rfl ?_ rfl⟩
    ·simp only[ap]
     rw[bQ]
     simp only[ab,TH]
     rw[hlo,Qb,Qb]
    ·simp only[Qj,QO,henc]
     rfl
   split at h
   ·rename_i n
    have h':=aj h;clear h
    obtain⟨⟨hnn,hn12⟩,h⟩:=h'
    split at h
    ·rename_i te1 e1 xs hn
     split at h
     ·rename_i he
      subst he
      have h':=aj h;clear h
      obtain⟨h3,h⟩:=h'
      subst h3
      refine two n (xs.map some) (.dvec te1 e (xs++ys)) hpx hn12 (by rw[dlen hn,Qb]) (by rw[ff,gh hn,hse]) (by simp[TO.len]) (λω=> ?_) (by rw[Qb];exact h)
      simp only[a_,QT]
      rw[ff,hse]
     ·cases h
    ·rename_i te1 e1 xs hn
     split at h
     ·rename_i he
      subst he
      have h':=aj h;clear h
      obtain⟨h3,h⟩:=h'
      subst h3
      refine two n xs (.pvec te1 e (xs++ys.map some)) hpx hn12 (Lt hn) (by rw[lN hn,hse]) (by simp[TO.len]) (λω=> ?_) h
      simp only[a_,QT]
      rw[ff,hse]
     ·cases h
    ·cases h
   ·have h':=aj h;clear h
    obtain⟨hle,h⟩:=h'
    have hby':(([]:List (List DD)).length+(ys.map λx=>bO V.sz V.enc V.tid V.encd e x).length) *bytes<=140737488355328:=by
     simp only[Qb,R3,most]at hle⊢
     have:ys.length *bytes<=4294967296 *32768:=Sw hle hby
     rw[Qt];omega
    refine⟨_,h,λm p hm=> ?_,_, .append (nm:=nm) (rows:=[]) (ns:=[n2]) ho hc hca hct hdst ht (.inr ⟨by rw[an,hpx];rfl,rfl,rfl⟩) hqe hown2 hone hby' (by simp only[Qb,R3,most]at hle⊢;omega),bo ?_ rfl ?_ rfl⟩
    ·simp only[ab]at hm
     by_cases e1:nm d=m
     ·left;simp[e1]
     ·rw[TK e1]at hm
      right
      by_cases e3:n2=m
      ·rw[TL e3]at hm;cases hm;subst e3;rfl
      ·rw[TK e3]at hm;simp[gt]at hm
    ·simp only[ap]
     rw[bQ]
     simp only[ab,TH,TO.len,Qb,R3,Qt]
    ·simp only[Qj,QO,a_,QJ,hse]
   ·cases h
  ·cases h
 ·cases h
theorem ID{t:TypeId}{x:Operand}{lo hi mx:Option Operand}(ho:o.op= .slice t x lo hi mx)(h:IC V P t x lo hi mx S k=some r):OpD P nm o S k r:=by
 unfold IC at h
 split at h
 ·rename_i te sz by_ n ht hx
  split at h
  ·rename_i te1 e xs hn
   split at h
   ·rename_i l u hl hu
    have h':=aj h;clear h
    obtain⟨hse,h⟩:=h'
    have h':=aj h;clear h
    obtain⟨⟨h0,h1,h2⟩,h⟩:=h'
    have hlen:S.len n=xs.length:=by unfold TS.len;rw[hn];rfl
    exact⟨_,h,d_ S _ _,_, .cut (rows:=xs.map λx=>aV V.sz V.enc e x) (e:=te1) ho ht (by rw[an,hx];simp only[ap];rw[hlen,Qb]) (by rw[cd hn,hse]) (fy hl) (by rw[Qb];exact fy hu) h0 h1 (by rw[Qb];exact h2),kf rfl⟩
   ·cases h
  ·cases h
 ·cases h
theorem EY{c:Call}(ho:o.op= .call c)(hc:c.callee= .builtin .append)(h:Cd V P nm (c.args.toList.map (tev S)) c.argTypes.toList o.dst S k=some r):OpD P nm o S k r:=by
 unfold Cd at h
 split at h
 ·rename_i n sz lo i n2 sz2 j len t t' d hargs htys hdst
  split at h
  ·rename_i te sz' by_ te1 e xs ht hn
   have h':=aj h;clear h
   obtain⟨⟨⟨e1,e2⟩,⟨e3,e4⟩,e5,e6⟩,⟨e7,e8⟩,e9,e10,e11⟩:=h'.1
   have h:=h'.2
   subst e1;subst e2;subst e4;subst e5;subst e6;subst e7;subst e8
   obtain⟨p,q,hpq,hpx,hqx⟩:∃p q,c.args.toList=[p,q]/\tev S p= .sv n2 sz2 0 i/\tev S q= .sv n2 sz2 j (xs.length-j):=by
    match hcl:c.args.toList,hargs with
    |[p,q],hargs=>simp at hargs;exact⟨p,q,rfl,hargs.1,hargs.2⟩
    |[],hargs=>simp at hargs
    |[_],hargs=>simp at hargs
    |_::_::_::_,hargs=>simp at hargs
   have hca:c.args= #[p,q]:=by rw[<-Rz];exact hpq
   have hct:c.argTypes= #[t,t]:=by rw[<-Rz];exact htys
   have hone:(xs.map λx=>aV V.sz V.enc e x).all (λr=>r.all D.one)=true:=by
    rw[Ry,Qm]
    intro y _
    exact qL
   refine⟨_,h,λm o1 hm=> ?_,_, .join (nm:=nm) (rows:=xs.map λx=>aV V.sz V.enc e x) (m:=n2) (i:=i) (j:=j) ho hc hca hct hdst ht (by rw[an,hpx];rfl) (by rw[an,hqx];simp only[ap,Qb]) (by rw[cd hn,e3]) e9 (by rw[Qb];exact e10) hone (λe0=>by have:=congrArg RZ e0;rw[Qb,R3]at this;omega),bo ?_ rfl ?_ rfl⟩
   ·simp only[ab]at hm
    by_cases q1:nm d=m
    ·left;simp[q1]
    ·rw[TK q1]at hm
     right
     by_cases q2:n2=m
     ·rw[TL q2]at hm;cases hm;subst q2;rfl
     ·rw[TK q2]at hm;simp[gt]at hm
   ·simp only[ap]
    rw[bQ]
    simp only[ab,TH,TO.len,Qx,QM,QN,Qb]
    rw[Rn (by omega)]
   ·simp only[Qj,QO,a_,QT,Q6,Q7,e3]
  ·cases h
 ·cases h
theorem Fh{ω:Nat->Nat}{z:List Value}(hz:z.all cn=true):u6 z (encL V ω (z.map tvc)) []:=by
 rw[ib hz]
 induction z with
 |nil=>exact .nil
 |cons x z ih=>exact .keep x (ih (by simp only[Rb,Qg]at hz;exact hz.2))
theorem A4(e:Ty V.ι)(ω:Nat->Nat):∃o,a_ V ω (sy V e [])=some o/\∃a s,o= .vec a s []\/o= .dvec a s []:=by
 unfold sy
 split
 ·exact⟨_,rfl,V.tid e,_, .inl rfl⟩
 ·exact⟨_,rfl,V.tid e,_, .inr rfl⟩
theorem iM(b:Nat)(ω:Nat->Nat):∀(z:List Value) (ts:List (Ty V.ι)) (j:Nat),z.all cn=true->(∀p∈(j4 V b j ts z).2,ω p.1=0)->
 ∃os,u6 z (encL V ω (j4 V b j ts z).1) os/\os.map (λp=>(p.1,some p.2))=(j4 V b j ts z).2.map (λp=>(p.1,a_ V ω p.2))
 |[],ts,j,hz,_=>by
  cases ts<;>exact⟨[], .nil,rfl⟩
 |x::z,[],j,hz,_=>⟨[],by simp only[j4];exact Fh hz,rfl⟩
 |x::z,t::ts,j,hz,hω=>by
  have hz2:cn x=true/\z.all cn=true:=by simpa only[Rb,Qg]using hz
  unfold j4 at hω⊢
  split
  ·rename_i e
   obtain⟨os,h1,h2⟩:=iM b ω z ts (j+1) hz2.2 λp hp=>hω p (Qd _ hp)
   obtain⟨o,o1,a,s,o2⟩:=A4 (V:=V) e ω
   refine⟨(wn b j,o)::os,?_,by simp only[Qj,h2,o1]⟩
   simp only[encL,ap]
   have:=hω _ Qi
   simp only at this
   rw[this]
   exact .new _ a s o o2 h1
  ·rename_i hno
   have hω':∀p∈(j4 V b (j+1) ts z).2,ω p.1=0:=by
    intro p hp
    refine hω p ?_
    split
    ·exact Qd _ hp
    ·exact hp
   obtain⟨os,h1,h2⟩:=iM b ω z ts (j+1) hz2.2 hω'
   refine⟨os,?_,h2⟩
   simp only[encL]
   have:ap V ω (tvc x)= .d (.v x):=by
    have:=ib (V:=V) (ω:=ω) (z:=[x]) (by simp[hz2.1])
    simpa[encL]using this
   rw[this]
   exact .keep x h1
theorem nx(b:Nat):∀(z:List Value) (ts:List (Ty V.ι)) (j:Nat),∀p∈(j4 V b j ts z).2,TO.len (some p.2)=0
 |[],ts,j,p,hp=>by cases ts<;>cases hp
 |x::z,[],j,p,hp=>by cases hp
 |x::z,t::ts,j,p,hp=>by
  unfold j4 at hp
  split at hp
  ·rcases Ql.1 hp with rfl|hp
   ·exact sA _ _
   ·exact nx b z ts (j+1) p hp
  ·exact nx b z ts (j+1) p hp
theorem E7{t:TypeId}{parts:Array (Nat×Operand)}(ho:o.op= .build t parts)(h:Ch V P t parts.toList o.dst k=some r):OpD P nm o S k r:=by
 unfold Ch at h
 split at h
 ·rename_i z pl hparts hz hpl
  have hpa:parts= #[]:=by rw[<-Rz];exact hparts
  subst hpa
  split at h
  ·rename_i i d hty hdst
   split at h
   ·rename_i vs os hall hT
    split at h
    ·rename_i hdi
     have hdi:=eB hdi
     have hlen:∀p∈os,(S.app o.dst {val:= .agg vs,acc:=[],upd:=os,new:=os.map (·.1)}).len p.1=0:=by
      intro p hp
      rw[bQ]
      have:gt os p.1=some p.2:=qh hdi hp
      simp only[this]
      have h9:=nx (V:=V) d z (V.tys i) 0
      rw[hT]at h9
      exact h9 p hp
     obtain⟨os',h1,h2⟩:=iM (V:=V) d (S.app o.dst {val:= .agg vs,acc:=[],upd:=os,new:=os.map (·.1)}).len z (V.tys i) 0 hall (by rw[hT];exact hlen)
     rw[hT]at h1 h2
     simp only at h1 h2
     have hnames:os.map (·.1)=os'.map (·.1):=by
      have:=congrArg (RI (·.1)) h2
      rw[QA,QA]at this
      exact this.symm
     refine⟨_,h,λm p hm=> .inl (nd (bD hm)),_, .nils ho hdst hz hpl h1 (by rw[<-hnames];exact hdi),bo rfl hnames.symm h2 rfl⟩
    ·cases h
   ·cases h
  ·cases h
 ·cases h
theorem uQ(hf:∀te,k te=some r->∀d∈te.new,S.fresh d=true)(h:IE V P nm o S k=some r):OpD P nm o S k r:=by
 unfold IE at h
 split at h
 ·rename_i t x ho;exact E3 hf ho h
 ·rename_i t x y ho;exact Cl ho h
 ·rename_i t x i ho;exact IH ho h
 ·rename_i t len parts ho;exact B_ ho h
 ·rename_i c ho
  split at h
  ·rename_i hc
   split at h
   ·exact EY ho hc h
   ·exact Iy ho hc h
  ·cases h
 ·rename_i t x lo hi mx ho;exact ID ho h
 ·rename_i t parts ho;exact E7 ho h
 ·cases h
end
end
end Go.Tx
end
section
namespace Go.Tx
open Go.Awp
variable [Inhabited GMem]
section
variable {V:gu}
theorem vy{α:Type}{s:Nat}:∀{rows:List (List α)} {i:Nat} {r:List α},(∀r∈rows,r.length=s)->rows[i]?=some r->(rows.flatten.drop (i *s)).take s=r
 |[],i,r,_,h=>by simp at h
 |x::rows,0,r,hz,h=>by
  simp only[Ri,P8]at h
  subst h
  have:=hz x Qi
  simp[QS,S6,this]
 |x::rows,i+1,r,hz,h=>by
  have hx:=hz x Qi
  have:=vy (λr hr=>hz r (Qd _ hr)) (by simpa using h)
  rw[QS,QK,S9,hx,RQ (by omega),QJ]
  rw[show i *s+s-s=i *s by omega]
  exact this
theorem cZ{α:Type}{s:Nat}:∀{rows:List (List α)},(∀r∈rows,r.length=s)->rows.flatten.length=rows.length *s
 |[],_=>by simp
 |x::r,h=>by
  rw[QS,Qx,h x Qi,cZ λy hy=>h y (Qd _ hy),Qz,QK]
  omega
theorem i9(e:Ty V.ι)(xs:List (den V.N e)):∀r∈xs.map (λx=>aV V.sz V.enc e x),r.length=tsz V.sz e:=λr hr=>by
 obtain⟨x,_,rfl⟩:=QG.1 hr
 exact bC e x
theorem pX{n i:Nat}{e:Ty V.ι}{xs:List (den V.N e)}{y:den V.N e}(hi:i<n)(hx:xs[i]?=some y):((aV V.sz V.enc (.ar n e) xs).drop (i *tsz V.sz e)).take (tsz V.sz e)=aV V.sz V.enc e y:=by
 have h1:=vy (s:=tsz V.sz e) (i9 e xs) (i:=i) (r:=aV V.sz V.enc e y) (by rw[Qc,hx];rfl)
 have hil:i<xs.length:=(P9.1 hx).1
 have h2:=cZ (i9 (V:=V) e xs)
 rw[Qb]at h2
 have m1:(i+1) *tsz V.sz e<=n *tsz V.sz e:=Qr _ hi
 have m2:(i+1) *tsz V.sz e<=xs.length *tsz V.sz e:=Qr _ hil
 rw[QK]at m1 m2
 simp only[aV,arL]
 rw[List.drop_take,SO,Rn (by omega),List.drop_append_of_le_length (by omega),RM (by rw[QN];omega)]
 exact h1
theorem f6{α:Type}{s:Nat}:∀{rows:List (List α)} {i:Nat} {r:List α},(∀r∈rows,r.length=s)->i<rows.length->(rows.set i r).flatten=rows.flatten.take (i *s)++r++rows.flatten.drop (i *s+s)
 |[],i,r,_,h=>by simp at h
 |x::rows,0,r,hz,h=>by
  have hx:=hz x Qi
  simp[QS,hx]
 |x::rows,i+1,r,hz,h=>by
  have hx:=hz x Qi
  have ih:=f6 (r:=r) (λr hr=>hz r (Qd _ hr)) (by simpa using h)
  have e1:(x++rows.flatten).take ((i+1) *s)=x++rows.flatten.take (i *s):=by
   rw[S6,QP (l:=x) (by rw[hx,QK];omega),hx,QK,Nat.add_sub_cancel]
  have e2:(x++rows.flatten).drop ((i+1) *s+s)=rows.flatten.drop (i *s+s):=by
   rw[S9,RQ («as»:=x) (by rw[hx,QK];omega),hx,QK,QJ]
   congr 1;omega
  simp only[List.set_cons_succ,QS]
  rw[ih,e1,e2]
  simp[Q2]
theorem yN{n i:Nat}{e:Ty V.ι}{xs:List (den V.N e)}{y':den V.N e}(hi:i<n)(hx:i<xs.length):
 aV V.sz V.enc (.ar n e) (xs.set i y')=(aV V.sz V.enc (.ar n e) xs).take (i *tsz V.sz e)++aV V.sz V.enc e y'++(aV V.sz V.enc (.ar n e) xs).drop (i *tsz V.sz e+tsz V.sz e):=by
 have h2:=cZ (i9 (V:=V) e xs)
 rw[Qb]at h2
 have m1:(i+1) *tsz V.sz e<=n *tsz V.sz e:=Qr _ hi
 have m2:(i+1) *tsz V.sz e<=xs.length *tsz V.sz e:=Qr _ hx
 rw[QK]at m1 m2
 have hl:=bC e y'
 simp only[aV,arL,RC]
 rw[f6 (i9 e xs) (by rw[Qb];exact hx)]
 generalize (RI (λx=>aV V.sz V.enc e x) xs).flatten=F at h2
 generalize aV V.sz V.enc e y'=c at hl
 generalize hs:tsz V.sz e=s at *
 generalize n *s=N at *
 apply Q9
 intro k
 simp only[Qu,Tl,Qx,QM,QF,Sz,QN,Rf]
 grind
theorem FW{ω:Nat->Nat}{n:Nat}{e:Ty V.ι}{xs:List (den V.N e)}:ap V ω (.lf (.ar n e) xs)= .d (.agg (aV V.sz V.enc (.ar n e) xs)):=rfl
theorem Ak{e:Ty V.ι}{y:den V.N e}{ds:List D}{ag:Bool}(h:ds.take (tsz V.sz e)=aV V.sz V.enc e y)(ha:ag= !e.cell):cR ag (tsz V.sz e) ds=some (aH V.sz V.enc e y):=by
 have hl:=bC (V:=V) e y
 have hdl:tsz V.sz e<=ds.length:=by
  have:=congrArg RZ h
  rw[hl,QM]at this;omega
 have cell:e.cell=true->aV V.sz V.enc e y=[aH V.sz V.enc e y]->tsz V.sz e=1->cR ag (tsz V.sz e) ds=some (aH V.sz V.enc e y):=by
  intro hc h1 h2
  rw[hc]at ha
  subst ha
  simp only[cR,Q8]
  rw[h1,h2]at h
  cases ds with
  |nil=>simp at h
  |cons d r=>simp at h;simp[h]
 cases e with
 |st i=>
  subst ha
  simp only[Ty.cell,R7,cR,TL hdl,h]
  rfl
 |ar n e=>
  subst ha
  simp only[Ty.cell,R7,cR,TL hdl,h]
  rfl
 |_=>exact cell rfl rfl rfl
theorem nC{S:TS V.N}{n m:Nat}{e:Ty V.ι}{xs:List (den V.N e)}(h:S.own? n=some (.bar m e xs)):(aC V S).own? n=some (.box none ((aV V.sz V.enc (.ar m e) xs).map .d)):=by rw[aK,h];rfl
theorem Af{S:TS V.N}{n m:Nat}{e:Ty V.ι}{xs:List (den V.N e)}(h:S.own? n=some (.bar m e xs)):S.len n=0:=by unfold TS.len;rw[h];rfl
theorem qI{S:TS V.N}{n:Nat}{te:TypeId}{e:Ty V.ι}{xs:List (den V.N e)}(h:S.own? n=some (.que te e xs)):(aC V S).own? n=some (.que te (tsz V.sz e) (xs.map λx=>aV V.sz V.enc e x)):=by rw[aK,h];rfl
theorem t_{S:TS V.N}{n:Nat}{te:TypeId}{e:Ty V.ι}{xs:List (den V.N e)}(h:S.own? n=some (.que te e xs)):S.len n=xs.length:=by unfold TS.len;rw[h];rfl
theorem gi{S:TS V.N}{n:Nat}{te:TypeId}{k v:Ty V.ι}{es:List (Option (List (den V.N k×den V.N v)))}{al:Option (Nat×Nat)}(h:S.own? n=some (.maps te k v es al)):
 (aC V S).own? n=some (.maps te (es.map λo=>o.map λl=>l.map λp=>(dg V.enc k p.1,aH V.sz V.enc v p.2)) al):=by rw[aK,h];rfl
theorem gc{S:TS V.N}{n:Nat}{te:TypeId}{k v:Ty V.ι}{es:List (Option (List (den V.N k×den V.N v)))}{al:Option (Nat×Nat)}(h:S.own? n=some (.maps te k v es al)):S.len n=es.length:=by unfold TS.len;rw[h];rfl
theorem jw{S:TS V.N}{n m:Nat}(h:S.own? n=some (.alias m)):(aC V S).own? n=none:=by rw[aK,h];rfl
theorem jh{S:TS V.N}{n m:Nat}(h:S.own? n=some (.alias m)):S.len n=0:=by unfold TS.len;rw[h];rfl
end
section
variable (V:gu) (P:Program) (nm:Nat->Nat)
def fnF(e:Ty V.ι):TV V.N->TV V.N
 | .lf .fnc f=>match e with
  | .fno=> .lf .fno (some f)
  |_=> .lf .fnc f
 |v=>v
def uR{A:Type}(t:TypeId)(x i:Operand)(S:TS V.N)(k:TE V.N->Option A):Option A:=match re P t,tev S x,tev S i with
 |some (len,_,ag,sz), .lf (.ar n e) xs, .lf (.int _) j=>if n=len/\sz=tsz V.sz e/\ag= !e.cell then
  if 0<=j/\j<len then xs[j.toNat]?>>=λy=>k {val:= .lf e y}else none
  else none
 |_,_,_=>none
def IF{A:Type}(t:TypeId)(x i:Operand)(S:TS V.N)(k:TE V.N->Option A):Option A:=match re P t,tev S i with
 |some (len,_,_,sz), .lf (.int _) j=>match tev S x with
  | .bp m 0=>match S.own? m with
   |some (.bar n e _)=>if n=len/\sz=tsz V.sz e then
    if 0<=j/\j<len then k {val:= .ai m sz j.toNat 0}else none
    else none
   |_=>none
  | .rp (.ar n e) xs 0=>if n=len/\sz=tsz V.sz e then
    if 0<=j/\j<len then xs[j.toNat]?>>=λy=>k {val:= .rp e y 0}else none
   else none
  | .ep m s i' off=>if 0<=j/\j<len then k {val:= .ep m s i' (off+j.toNat *sz)}else none
  |_=>none
 |_,_=>none
def ua{A:Type}(ag:Bool)(sz:Nat)(ot:Option (Ty V.ι)):(t:Ty V.ι)->den V.N t->Nat->(TV V.N->Option A)->Option A
 | .ar n e,xs,off,k=>if off=0/\ot=some (.ar n e)/\ag=true/\sz=tsz V.sz (.ar n e)then k (.lf (.ar n e) xs)
   else if off/tsz V.sz e<n then xs[off/tsz V.sz e]?>>=λy=>ua ag sz ot e y (off%tsz V.sz e) k else none
 |t,x,off,k=>match rW V ag sz ot t x off with
  |some v=>k v
  |none=>none
def wq{A:Type}(t:TypeId)(x:Operand)(S:TS V.N)(k:TE V.N->Option A):Option A:=match bq P t with
 |some (ag,sz)=>match tev S x with
  | .ai n s i off=>match S.own? n with
   |some (.bar m e xs)=>if s=tsz V.sz e/\off+fF ag sz<=s then
    if i<m then xs[i]?>>=λy=>ua V ag sz (V.ty t) e y off λv=>k {val:=v,acc:=[n]}else none
    else none
   |_=>none
  | .bp n 0=>match S.own? n with
   |some (.bar m e xs)=>if V.ty t=some (.ar m e)/\ag=true/\sz=tsz V.sz (.ar m e)then k {val:= .lf (.ar m e) xs,acc:=[n]}else none
   |_=>none
  | .ep n s i off=>match S.own? n with
   |some (.vec _ e xs)=>if s=tsz V.sz e then xs[i]?>>=λy=>ua V ag sz (V.ty t) e y off λv=>k {val:=v,acc:=[n]}else none
   |some (.que _ e xs)=>if s=tsz V.sz e then xs[i]?>>=λy=>ua V ag sz (V.ty t) e y off λv=>k {val:=v,acc:=[n]}else none
   |_=>none
  | .rp t' y off=>ua V ag sz (V.ty t) t' y off λv=>k {val:=v}
  |_=>none
 |none=>none
def uX{A:Type}(t:TypeId)(x y:Operand)(S:TS V.N)(k:TE V.N->Option A):Option A:=match bq P t,TV.cells V (tev S y)with
 |some (_,sz),some cs=>match tev S x with
  | .ai n s i 0=>match S.own? n with
   |some (.bar m e xs)=>if s=tsz V.sz e/\cs.length=sz/\sz=s/\cs.all TV.one=true then
    if i<m then if i<xs.length then match cw V true e cs with
     |some z=>k {val:= .junk,acc:=[n],upd:=[(n, .bar m e (xs.set i z))]}
     |none=>none
    else none else none
    else none
   |_=>none
  | .bp n 0=>match S.own? n,tev S y with
   |some (.bar m e _), .lf (.ar m' e') ys=>if m'=m/\e'=e/\sz=tsz V.sz (.ar m e)then k {val:= .junk,acc:=[n],upd:=[(n, .bar m' e' ys)]}else none
   |_,_=>none
  |_=>none
 |_,_=>none
def zeq:Value->Value->Bool
 | .int k n, .int k' n'=>decide (k=k')&&decide (n=n')
 | .bool a, .bool b=>a==b
 | .nilFunc, .nilFunc=>true
 | .string a, .string b=>decide (a=b)
 |_,_=>false
def Lx:List Value->List Value->Bool
 |[],[]=>true
 |a::r,b::s=>zeq a b&&Lx r s
 |_,_=>false
def uK{A:Type}(t:TypeId)(dst:Option Tmp)(k:TE V.N->Option A):Option A:=match V.ty t,fR P t,dst with
 |some (.ar n e),some z,some d=>match cw V true e ((z.take (tsz V.sz e)).map tvc)with
  |some y=>if z.all cn=true/\rR t z=none/\Lx z (QL n (z.take (tsz V.sz e))).flatten=true then k {val:= .bp (nm d) 0,upd:=[(nm d, .bar n e (QL n y))],new:=[nm d]}else none
  |none=>none
 |_,_,_=>none
def Iz{A:Type}(x:Operand)(dst:Option Tmp)(S:TS V.N)(k:TE V.N->Option A):Option A:=match tev S x,dst with
 | .lf (.ar n e) xs,some d=>k {val:= .bp (nm d) 0,upd:=[(nm d, .bar n e xs)],new:=[nm d]}
 |_,_=>none
def IK{A:Type}(x:Operand)(S:TS V.N)(k:TE V.N->Option A):Option A:=match tev S x with
 | .lf (.op e) y=>y>>=λz=>k {val:= .rp e z 0}
 |_=>none
def dj:List (Ty V.ι)->Option (List CK)
 |[]=>some []
 |t::r=>match t,dj r with
  | .int k,some l=>some (.int k::l)
  | .bool,some l=>some (.bool::l)
  | .str,some l=>some (.str::l)
  |_,_=>none
def z8(P:Program)(t:TypeId):Bool:=match P.underlying t with
 |some (.struct _)=>true
 |_=>false
def Ka(P:Program)(t:TypeId):Bool:=match P.underlying t with
 |some (.func _ _ _)=>true
 |_=>false
def IB{A:Type}(op:BinOp)(xt:TypeId)(x y:Operand)(S:TS V.N)(k:TE V.N->Option A):Option A:=match LW op,tev S x,tev S y with
 |some q, .lf (.op _) a, .raw (.pointer none)=>match jW P xt with
  |true=>match q with
   |true=>k {val:= .lf .bool a.isNone}
   |false=>k {val:= .lf .bool a.isSome}
  |false=>none
 |some q, .lf .fno a, .raw .nilFunc=>match Ka P xt with
  |true=>match q with
   |true=>k {val:= .lf .bool a.isNone}
   |false=>k {val:= .lf .bool a.isSome}
  |false=>none
 |some q, .lf (.st i) a, .lf (.st j) b=>if i=j/\z8 P xt=true/\P.eqGuardType P.depth xt=false/\(gA P 100 xt).isSome=true/\dj V (V.tys i)=gA P 100 xt then match q with
  |true=>k {val:= .lf .bool (zF (V.cells i a) (V.cells j b))}
  |false=>k {val:= .lf .bool (!zF (V.cells i a) (V.cells j b))}
  else none
 |_,_,_=>none
def Kv{α:Type}:List α->Nat->α->List α
 |[],_,_=>[]
 |_::r,0,x=>x::r
 |a::r,i+1,x=>a::Kv r i x
def Ku(e:Ty V.ι):List (den V.N e)->List (Nat×TV V.N)->Option (List (den V.N e))
 |ys,[]=>some ys
 |ys,(i,x)::r=>if i<ys.length then match C1 V true e x with
  |some y=>Ku e (Kv ys i y) r
  |none=>none
  else none
def uL{A:Type}(t:TypeId)(parts:List (Nat×Operand))(S:TS V.N)(k:TE V.N->Option A):Option A:=match V.ty t,re P t,fR P t with
 |some (.ar n e),some (len,_,_,sz),some z=>match cw V true (.ar n e) (z.map tvc)with
  |some ys0=>if(n=len/\sz=tsz V.sz e)/\z.all cn=true/\RZ ys0=n then
   match Ku V e ys0 (parts.map λ(i,x)=>(i,fnF V e (fnT (tev S x))))with
   |some ys=>k {val:= .lf (.ar n e) ys}
   |none=>none
   else none
  |none=>none
 |_,_,_=>none
def uN{A:Type}(t:TypeId)(parts:List (Nat×Operand))(S:TS V.N)(k:TE V.N->Option A):Option A:=match fR P t,places P t with
 |some z,some pl=>if z.all cn=true then match tR V pl (z.map tvc) (parts.map λ(i,x)=>(i,fnT (tev S x)))with
  |some cs=>k {val:=mkV V true (V.ty t) cs}
  |none=>none
  else none
 |_,_=>none
def rP:Nat->List (TV V.N)->Option Nat
 |_,[]=>none
 |j,x::r=>match x with
  | .raw (.slice none 0 0)=>some j
  |_=>rP (j+1) r
def uO{A:Type}(t:TypeId)(parts:List (Nat×Operand))(dst:Option Tmp)(S:TS V.N)(k:TE V.N->Option A):Option A:=match fR P t,places P t,V.ty t,dst with
 |some z,some pl,some (.st s),some d=>if z.all cn=true then match tR V pl (z.map tvc) (parts.map λ(i,x)=>(i,tev S x))with
  |some cs=>match rP V 0 cs with
   |some j=>match(V.tys s)[j]? with
    |some (.sl e)=>match TV.hasL (53000+d) cs with
     |false=>k {val:= .agg (Kv cs j (.vh (53000+d))),upd:=[(53000+d, .vec (V.tid e) e [])],new:=[53000+d]}
     |true=>none
    |_=>none
   |none=>none
  |none=>none
  else none
 |_,_,_,_=>none
end
section
variable {V:gu} {P:Program} {nm:Nat->Nat} {o:Oper} {S:TS V.N} {A:Type} {k:TE V.N->Option A} {r:A}
def _root_.Go.Tx.Ty.flat0{ι:Type}:Ty ι->Bool
 | .int _=>true
 | .bool=>true
 | .str=>true
 |_=>false
theorem cx{v:TV V.N}{l:List Nat}{h:H}(hk:k {val:=v,acc:=l}=some r)(hs:az P nm o (Go.Awp.ev (aC V S)) (aC V S).own? {val:=h,acc:=l})(he:h=ap V S.len v):OpD P nm o S k r:=
 ⟨_,hk,d_ S _ _,_, .sem hs,kf he⟩
theorem yn{t:TypeId}{x i:Operand}(ho:o.op= .index t x i)(h:uR V P t x i S k=some r):OpD P nm o S k r:=by
 unfold uR at h
 split at h
 ·rename_i len te ag sz n e xs kk j ht hx hi
  replace h:=aj h
  obtain⟨⟨e1,e2,e3⟩,h⟩:=h
  replace h:=aj h
  obtain⟨⟨h0,h1⟩,h⟩:=h
  replace h:=aR h
  obtain⟨y,hy,h⟩:=h
  subst e1;subst e2
  refine cx h (.index (n:=j) (ds:=aV V.sz V.enc (.ar n e) xs) ho ht (by rw[an,hx];rfl) (by rw[an,hi];rfl) h0 h1 (Ak (y:=y) (pX ((Int.toNat_lt h0).2 h1) hy) e3)) (by simp only[ap])
 ·cases h
theorem EX{t:TypeId}{x i:Operand}(ho:o.op= .indexAddr t x i)(h:IF V P t x i S k=some r):OpD P nm o S k r:=by
 unfold IF at h
 split at h
 ·rename_i len te ag sz kk j ht hi
  have hi':Go.Awp.ev (aC V S) i= .d (.v (.int kk j)):=by rw[an,hi];rfl
  split at h
  ·rename_i m hx
   split at h
   ·rename_i n e xs hown
    replace h:=aj h
    obtain⟨⟨e1,e2⟩,h⟩:=h
    replace h:=aj h
    obtain⟨⟨h0,h1⟩,h⟩:=h
    exact cx h (.indexArr (hx':= .bp m (0+j.toNat *sz)) ho ht hi' h0 h1 (.inl ⟨m,0,by rw[an,hx];rfl,rfl⟩)) (by simp[ap])
   ·cases h
  ·rename_i n e xs hx
   replace h:=aj h
   obtain⟨⟨e1,e2⟩,h⟩:=h
   replace h:=aj h
   obtain⟨⟨h0,h1⟩,h⟩:=h
   replace h:=aR h
   obtain⟨y,hy,h⟩:=h
   subst e1;subst e2
   have hj:QY j<n:=(Int.toNat_lt h0).2 h1
   have m1:(j.toNat+1) *tsz V.sz e<=n *tsz V.sz e:=Qr _ hj
   rw[QK]at m1
   refine cx h (.indexArr (n:=j) (hx':= .d (.rp (((aV V.sz V.enc (.ar n e) xs).drop (j.toNat *tsz V.sz e)).take (tsz V.sz e)))) ho ht hi' h0 h1 (.inr (.inr ⟨aV V.sz V.enc (.ar n e) xs,by rw[an,hx];simp[ap],?_,rfl⟩))) ?_
   ·rw[bC];exact m1
   ·rw[pX hj hy];simp[ap]
  ·rename_i m s i' off hx
   replace h:=aj h
   obtain⟨⟨h0,h1⟩,h⟩:=h
   exact cx h (.indexArr ho ht hi' h0 h1 (.inr (.inl ⟨m,s,i',off,by rw[an,hx];rfl,rfl⟩))) (by simp[ap])
  ·cases h
 ·cases h
theorem Aj{ag:Bool}{sz:Nat}{a b:List D}{d:D}(h:cR ag sz a=some d):cR ag sz (a++b)=some d:=by
 cases ag with
 |true=>
  simp only[cR]at h⊢
  split at h
  ·rename_i hl
   rw[TL (by rw[Qx];omega),RM hl];exact h
  ·cases h
 |false=>
  cases a with
  |nil=>simp[cR]at h
  |cons x r=>exact h
theorem rV{ag:Bool}{sz m off:Nat}{l row:List D}{d:D}(hr:l.take m=row)(h:cR ag sz (row.drop off)=some d):cR ag sz (l.drop off)=some d:=by
 rw[<-Rt m l,hr,S9]
 exact Aj h
theorem Ai{ag:Bool}{sz:Nat}{ds:List D}{d:D}(h:cR ag sz ds=some d):ed ag sz (ds.map H.d)=some (.d d):=by
 cases ag with
 |true=>
  simp only[cR,ed,Qb]at h⊢
  split at h
  ·rename_i hl
   rw[TL hl,<-Q6,bu,cN]
   simp only[P8]at h;subst h;rfl
  ·cases h
 |false=>
  cases ds with
  |nil=>simp[cR]at h
  |cons x r=>simp[cR]at h;subst h;rfl
theorem eH{ω:Nat->Nat}{ag:Bool}{sz:Nat}{ot:Option (Ty V.ι)}{B:Type}{f:TV V.N->Option B}{b:B}:∀(t:Ty V.ι) (x:den V.N t) (off:Nat),ua V ag sz ot t x off f=some b->
 ∃v,f v=some b/\∃d,cR ag sz ((aV V.sz V.enc t x).drop off)=some d/\∀ω,ap V ω v= .d d
 | .ar n e,xs,off,h=>by
  simp only[ua]at h
  split at h
  ·rename_i hc
   obtain⟨rfl,_,rfl,rfl⟩:=hc
   refine⟨_,h, .agg (aV V.sz V.enc (.ar n e) xs),?_,λω=>rfl⟩
   have hl:=bC (V:=V) (.ar n e) xs
   simp only[cR,QW]
   rw[TL (by omega),QP (by omega)]
  ·obtain⟨hn,h⟩:=aj h
   replace h:=aR h
   obtain⟨y,hy,h⟩:=h
   obtain⟨v,h1,d,h2,h3⟩:=eH (ω:=ω) e y _ h
   refine⟨v,h1,d,?_,h3⟩
   have:=rV (pX hn hy) h2
   rw[Rw]at this
   rw[RG,Sb]at this
   exact this
 | .int _,x,off,h=>loadL_k h
 | .bool,x,off,h=>loadL_k h
 | .str,x,off,h=>loadL_k h
 | .st _,x,off,h=>loadL_k h
 | .sl _,x,off,h=>loadL_k h
 | .mp _ _,x,off,h=>loadL_k h
 | .er,x,off,h=>loadL_k h
 | .op _,x,off,h=>loadL_k h
 | .fnc,x,off,h=>loadL_k h
 | .fno,x,off,h=>loadL_k h
where
 loadL_k {ag:Bool} {sz:Nat} {ot:Option (Ty V.ι)} {B:Type} {f:TV V.N->Option B} {b:B} {t:Ty V.ι} {x:den V.N t} {off:Nat} (h:(match rW V ag sz ot t x off with|some v=>f v|none=>none)=some b):
  ∃v,f v=some b/\∃d,cR ag sz ((aV V.sz V.enc t x).drop off)=some d/\∀ω,ap V ω v= .d d:=by
  split at h
  ·rename_i v hv
   obtain⟨d,h1,h2⟩:=eI (ω:=λ_=>0) hv
   refine⟨v,h,d,h1,λω=> ?_⟩
   obtain⟨d',h1',h2'⟩:=eI (ω:=ω) hv
   rw[h1]at h1';cases h1'
   exact h2'
  ·cases h
theorem sV{t:TypeId}{x:Operand}(ho:o.op= .load t x)(h:wq V P t x S k=some r):OpD P nm o S k r:=by
 unfold wq at h
 split at h
 ·rename_i ag sz ht
  have hop:o.op.operands= #[x]:=by rw[ho];rfl
  split at h
  ·rename_i n s i off hx
   split at h
   ·rename_i m e xs hown
    replace h:=aj h
    obtain⟨⟨e1,e2⟩,h⟩:=h
    replace h:=aj h
    obtain⟨hi,h⟩:=h
    replace h:=aR h
    obtain⟨y,hy,h⟩:=h
    obtain⟨v,h1,d,h2,h3⟩:=eH (ω:=S.len) _ _ _ h
    subst e1
    refine cx h1 (.ofAVal λρ' ω' hρ hω=> ?_) (h3 _).symm
    have hx':ρ' x= .bp n (i *tsz V.sz e+off):=by rw[hρ x (by rw[hop];simp),an,hx];rfl
    have ho':ω' n=_:=(hω n (by simp)).trans (nC hown)
    simp only[aS,ho,ht,hx',ho']
    have:=rV (pX hi hy) h2
    rw[Rw]at this
    rw[<-Q7,Ai this]
   ·cases h
  ·rename_i n hx
   split at h
   ·rename_i m e xs hown
    replace h:=aj h
    obtain⟨⟨e1,e2,e3⟩,h⟩:=h
    subst e2;subst e3
    refine cx h (.ofAVal (e:={val:= .d (.agg (aV V.sz V.enc (.ar m e) xs)),acc:=[n]}) λρ' ω' hρ hω=> ?_) rfl
    have hx':ρ' x= .bp n 0:=by rw[hρ x (by rw[hop];simp),an,hx];rfl
    have ho':ω' n=_:=(hω n (by simp)).trans (nC hown)
    simp only[aS,ho,ht,hx',ho']
    have hl:=bC (V:=V) (.ar m e) xs
    rw[QW,Ai (d:= .agg (aV V.sz V.enc (.ar m e) xs)) (by simp only[cR];rw[TL (by omega),QP (by omega)])]
   ·cases h
  ·rename_i n s i off hx
   split at h
   ·rename_i te e xs hown
    replace h:=aj h
    obtain⟨e1,h⟩:=h
    replace h:=aR h
    obtain⟨y,hy,h⟩:=h
    obtain⟨v,h1,d,h2,h3⟩:=eH (ω:=S.len) _ _ _ h
    subst e1
    refine cx h1 (.ofAVal λρ' ω' hρ hω=> ?_) (h3 _).symm
    have hx':ρ' x= .ep n (tsz V.sz e) i off:=by rw[hρ x (by rw[hop];simp),an,hx];rfl
    have ho':ω' n=_:=(hω n (by simp)).trans (cd hown)
    simp only[aS,ho,ht,hx',ho',Qc,hy,QI,h2]
    exact⟨trivial,trivial⟩
   ·rename_i te e xs hown
    replace h:=aj h
    obtain⟨e1,h⟩:=h
    replace h:=aR h
    obtain⟨y,hy,h⟩:=h
    obtain⟨v,h1,d,h2,h3⟩:=eH (ω:=S.len) _ _ _ h
    subst e1
    exact cx h1 (.qload ho ht (by rw[an,hx];rfl) (qI hown) (r:=aV V.sz V.enc e y) (by rw[Qc,hy];rfl) h2) (h3 _).symm
   ·cases h
  ·rename_i t' y off hx
   obtain⟨v,h1,d,h2,h3⟩:=eH (ω:=S.len) _ _ _ h
   refine cx h1 (.ofAVal λρ' ω' hρ hω=> ?_) (h3 _).symm
   have hx':ρ' x= .d (.rp ((aV V.sz V.enc t' y).drop off)):=by rw[hρ x (by rw[hop];simp),an,hx];rfl
   simp only[aS,ho,ht,hx',h2]
  ·cases h
 ·cases h
theorem ul{n:Nat}{o':TO V.N}{x:Own}{l:List Nat}(hx:∀ω,a_ V ω o'=some x)(hl:TO.len (some o')=S.len n)(hk:k {val:= .junk,acc:=l,upd:=[(n,o')]}=some r)
 (h:az P nm o (Go.Awp.ev (aC V S)) (aC V S).own? {val:= .junk,acc:=l,upd:=[(n,some x)]}):OpD P nm o S k r:=by
 refine⟨_,hk,λm o1 hm=> ?_,_, .sem h,bo rfl rfl (by simp[hx]) rfl⟩
 simp only[ab]at hm
 split at hm
 ·rename_i e;right;simp at hm;subst hm;subst e;exact hl
 ·simp[gt]at hm
theorem qF{d:Nat}{v:TV V.N}{h:H}{o':TO V.N}{x:Own}{l:List Nat}(hx:∀ω,a_ V ω o'=some x)(hv:∀ω:Nat->Nat,ω d=TO.len (some o')->ap V ω v=h)(hk:k {val:=v,acc:=l,upd:=[(d,o')],new:=[d]}=some r)
 (hs:az P nm o (Go.Awp.ev (aC V S)) (aC V S).own? {val:=h,acc:=l,upd:=[(d,some x)],new:=[d]}):OpD P nm o S k r:=by
 refine⟨_,hk,λm o1 hm=> ?_,_, .sem hs,bo (hv _ ?_).symm rfl (by simp[hx]) rfl⟩
 ·simp only[ab]at hm
  split at hm
  ·rename_i e;left;simp[e]
  ·simp[gt]at hm
 ·rw[bQ];simp[ab]
theorem yy{t:TypeId}{x y:Operand}(ho:o.op= .store t x y)(h:uX V P t x y S k=some r):OpD P nm o S k r:=by
 unfold uX at h
 split at h
 ·rename_i ag sz cs ht hcs
  have hop:o.op.operands= #[x,y]:=by rw[ho];rfl
  have hyc:=ca (ω:=S.len) hcs
  split at h
  ·rename_i n s i hx
   split at h
   ·rename_i m e xs hown
    replace h:=aj h
    obtain⟨⟨e1,e2,e3,e4⟩,h⟩:=h
    replace h:=aj h
    obtain⟨hi,h⟩:=h
    replace h:=aj h
    obtain⟨hil,h⟩:=h
    split at h
    ·rename_i z hz
     obtain⟨ds,d1,_,d3⟩:=da (ω:=S.len) hz
     replace d3:=d3 rfl
     subst d3
     refine ul (x:= .box none ((aV V.sz V.enc (.ar m e) (xs.set i z)).map .d)) (λω=>rfl) (by rw[Af hown];rfl) h (.ofAVal λρ' ω' hρ hω=> ?_)
     have hx':ρ' x= .bp n (i *s+0):=by rw[hρ x (by rw[hop];simp),an,hx];rfl
     have hy':(ρ' y).cells=some (encL V S.len cs):=by rw[hρ y (by rw[hop];simp),an];exact hyc
     have ho':ω' n=_:=(hω n (by simp)).trans (nC hown)
     simp only[aS,ho,ht,hx',hy',ho',aL]
     have hl:=bC (V:=V) (.ar m e) xs
     have m1:(i+1) *tsz V.sz e<=m *tsz V.sz e:=Qr _ hi
     rw[QK]at m1
     have hl2:(aV V.sz V.enc (.ar m e) xs).length=m *tsz V.sz e:=hl
     subst e1
     refine⟨⟨e2,dh e4,by rw[Qb,hl2];omega⟩,?_⟩
     have hzl:=bC (V:=V) e z
     rw[yN hi hil,dr,aL,d1]
     simp only[QT,Q6,Q7,Q5]
     have:cs.length=tsz V.sz e:=by omega
     rw[this]
    ·cases h
   ·cases h
  ·rename_i n hx
   split at h
   ·rename_i m e xs m' e' ys hown hy
    replace h:=aj h
    obtain⟨⟨e1,e2,e3⟩,h⟩:=h
    subst e1;subst e2
    rw[hy]at hcs
    simp only[TV.cells,P8]at hcs
    subst hcs
    have he:encL V S.len ((aI V (.ar m' e') ys).map λl=>TV.lf l.t l.x)=(aV V.sz V.enc (.ar m' e') ys).map H.d:=by
     rw[bU,ax,QA,QA]
     exact QE λl _=>by simp[ap]
    rw[he]at hyc
    refine ul (x:= .box none ((aV V.sz V.enc (.ar m' e') ys).map .d)) (λω=>rfl) (by rw[Af hown];rfl) h (.ofAVal λρ' ω' hρ hω=> ?_)
    have hx':ρ' x= .bp n 0:=by rw[hρ x (by rw[hop];simp),an,hx];rfl
    have hy':(ρ' y).cells=some ((aV V.sz V.enc (.ar m' e') ys).map H.d):=by rw[hρ y (by rw[hop];simp),an];exact hyc
    have ho':ω' n=_:=(hω n (by simp)).trans (nC hown)
    simp only[aS,ho,ht,hx',hy',ho']
    have hl:=bC (V:=V) (.ar m' e') ys
    have hl2:=bC (V:=V) (.ar m' e') xs
    refine⟨⟨by rw[Qb,hl,e3],?_,by rw[Qb,hl2,e3];omega⟩,?_⟩
    ·rw[Ry]
     exact qL
    ·simp only[dr,Sx,QJ,Qb,Qt]
     rw[Tg (by rw[Qb];omega),Rj]
   ·cases h
  ·cases h
 ·cases h
theorem Lc{a b:Value}(h:zeq a b=true):a=b:=by
 unfold zeq at h
 split at h
 ·simp only[Qg,TJ]at h
  rw[h.1,h.2]
 ·rename_i a b
  have:a=b:=by simpa using h
  rw[this]
 ·rfl
 ·simp only[TJ]at h;rw[h]
 ·cases h
theorem Cz:∀{a b:List Value},Lx a b=true->a=b
 |[],[],_=>rfl
 |a::r,b::s,h=>by
  simp only[Lx,Qg]at h
  rw[Lc h.1,Cz h.2]
 |[],_::_,h=>by cases h
 |_::_,[],h=>by cases h
theorem yi{t:TypeId}(ho:o.op= .alloc t)(h:uK V P nm t o.dst k=some r):OpD P nm o S k r:=by
 unfold uK at h
 split at h
 ·rename_i n e z d hty hz hd
  split at h
  ·rename_i y hy
   replace h:=aj h
   obtain⟨⟨h1,h2,h3⟩,h⟩:=h
   obtain⟨ds,d1,_,d3⟩:=da (ω:=S.len) hy
   replace d3:=d3 rfl
   subst d3
   have h3:=Cz h3
   have hrow:aV V.sz V.enc e y=(z.take (tsz V.sz e)).map .v:=by
    apply jj
    rw[<-d1,ax]
    simp only[QA]
    refine(QE λu hu=> ?_)
    have:cn u=true:=Qm.1 h1 u (QX hu)
    simp only[RJ,uZ]
    cases u<;>first|rfl|cases this
   have harr:aV V.sz V.enc (.ar n e) (QL n y)=z.map .v:=by
    simp only[aV,arL,RV]
    have hl:=bC (V:=V) e y
    rw[RM (by rw[cZ (s:=tsz V.sz e) (λr hr=>by rw[(SQ.1 hr).2];exact hl),Rf];exact QB _),
     QP (by rw[cZ (s:=tsz V.sz e) (λr hr=>by rw[(SQ.1 hr).2];exact hl),Rf];exact QB _)]
    rw[h3,SG,RV,hrow]
   refine qF (h:= .bp (nm d) 0) (x:= .box none ((aV V.sz V.enc (.ar n e) (QL n y)).map .d)) (λω=>rfl) (λω _=>rfl) h (.ofAVal λρ' ω' hρ hω=> ?_)
   simp only[aS,ho,hz,hd,h2]
   rw[harr,QA]
   try rfl
  ·cases h
 ·cases h
theorem ES{t:TypeId}{x:Operand}(ho:o.op= .box t x)(h:Iz V nm x o.dst S k=some r):OpD P nm o S k r:=by
 unfold Iz at h
 split at h
 ·rename_i n e xs d hx hd
  refine qF (h:= .bp (nm d) 0) (x:= .box none ((aV V.sz V.enc (.ar n e) xs).map .d)) (λω=>rfl) (λω _=>rfl) h (.ofAVal λρ' ω' hρ hω=> ?_)
  have hx':ρ' x= .d (.agg (aV V.sz V.enc (.ar n e) xs)):=by rw[hρ x (by rw[ho];simp[Op.operands]),an,hx];rfl
  simp only[aS,ho,hx',H.cells,hd]
  exact⟨none, .inl rfl,rfl⟩
 ·cases h
theorem E6{x:Operand}(ho:o.op= .nilCheck x)(h:IK V x S k=some r):OpD P nm o S k r:=by
 unfold IK at h
 split at h
 ·rename_i e y hx
  replace h:=aR h
  obtain⟨z,rfl,h⟩:=h
  refine cx h (.ofAVal (e:={val:= .d (.rp (aV V.sz V.enc e z))}) λρ' ω' hρ hω=> ?_) (by simp[ap])
  have hx':ρ' x= .d (.rp (aV V.sz V.enc e z)):=by rw[hρ x (by rw[ho];simp[Op.operands]),an,hx];rfl
  simp only[aS,ho,hx']
 ·cases h
def gF{ι:Type}{N:ι->Type}:cg N->Value
 |⟨.int k,n⟩=> .int k n
 |⟨.bool,b⟩=> .bool b
 |⟨.str,s⟩=> .string s
 |_=> .nilIface
theorem jg:∀{ls:List (cg V.N)} {ks:List CK},dj V (ls.map λl=>l.t)=some ks->(ls.map λl=>aH V.sz V.enc l.t l.x)=(ls.map gF).map .v/\fY ks (ls.map gF)=true
 |[],ks,h=>by simp[dj]at h;subst h;exact⟨rfl,rfl⟩
 |⟨t,x⟩::r,ks,h=>by
  simp only[Qj,dj]at h
  split at h
  ·rename_i k l hl
   simp at h;subst h
   obtain⟨h1,h2⟩:=jg hl
   exact⟨by simp only[Qj,h1];rfl,by simp[fY,gF,CK.is,h2]⟩
  ·rename_i l hl
   simp at h;subst h
   obtain⟨h1,h2⟩:=jg hl
   exact⟨by simp only[Qj,h1];rfl,by simp[fY,gF,CK.is,h2]⟩
  ·rename_i l hl
   simp at h;subst h
   obtain⟨h1,h2⟩:=jg hl
   exact⟨by simp only[Qj,h1];rfl,by simp[fY,gF,CK.is,h2]⟩
  ·cases h
theorem io(x y:ByteArray):(x==y)=true↔x=y:=by
 obtain⟨a⟩:=x
 obtain⟨b⟩:=y
 show(a==b)=true↔_
 simp
theorem Hl{t:Ty V.ι}{x y:den V.N t}(ht:t.flat0=true):mK (gF (⟨t,x⟩:cg V.N)) (gF ⟨t,y⟩)=Lj (⟨t,x⟩:cg V.N) ⟨t,y⟩:=by
 cases t with
 |int k=>rfl
 |bool=>rfl
 |str=>
  simp only[gF,Lj,Mp.seq]
  rw[Bool.eq_iff_iff,oP (k:= .str) rfl rfl]
  have e1:(Value.string x=Value.string y)↔(x=y):=by simp
  exact e1.trans (io x y).symm
 |_=>cases ht
theorem zG:∀{ls ls':List (cg V.N)} {ks:List CK},dj V (ls.map λl=>l.t)=some ks->dj V (ls'.map λl=>l.t)=some ks->(ls.map λl=>l.t)=(ls'.map λl=>l.t)->bR (ls.map gF) (ls'.map gF)=zF ls ls'
 |[],[],_,_,_,_=>rfl
 |[],_::_,_,_,_,h=>by simp at h
 |_::_,[],_,_,_,h=>by simp at h
 |⟨t,x⟩::r,⟨t',y⟩::r',ks,h1,h2,h=>by
  simp only[Qj,Rh]at h
  obtain⟨rfl,h⟩:=h
  have tl:∀{t:Ty V.ι} {ts:List (Ty V.ι)} {ks:List CK},dj V (t::ts)=some ks->t.flat0=true/\∃ks',dj V ts=some ks':=by
   intro t ts ks h
   simp only[dj]at h
   split at h<;>first|(exact⟨rfl,_,‹_›⟩)|cases h
  simp only[Qj]at h1 h2
  obtain⟨f1,k1,g1⟩:=tl h1
  obtain⟨f2,k2,g2⟩:=tl h2
  have g3:=g2
  rw[<-h]at g3
  have ih:=zG (ks:=k1) g1 (by rw[<-h];exact g1) h
  have he:=Hl (V:=V) (x:=x) (y:=y) f1
  simp only[Qj,bR,he,ih]
  cases r with
  |nil=>
   cases r' with
   |nil=>simp[zF]
   |cons b s=>simp at h
  |cons a q=>
   cases r' with
   |nil=>simp at h
   |cons b s=>simp[zF]
theorem c9{i:V.ι}{a:V.N i}{ks:List CK}(h:dj V (V.tys i)=some ks):V.enc i a=((V.cells i a).map gF).map .v/\fY ks ((V.cells i a).map gF)=true:=by
 rw[<-V.tys_cells i a]at h
 rw[V.enc_cells]
 exact jg h
theorem vJ{i:V.ι}{a b:V.N i}{ks:List CK}(h:dj V (V.tys i)=some ks):bR ((V.cells i a).map gF) ((V.cells i b).map gF)=zF (V.cells i a) (V.cells i b):=
 zG (ks:=ks) (by rw[V.tys_cells];exact h) (by rw[V.tys_cells];exact h) (by rw[V.tys_cells,V.tys_cells])
theorem EU{op:BinOp}{xt yt:TypeId}{x y:Operand}(ho:o.op= .binOp op xt x y yt)(h:IB V P op xt x y S k=some r):OpD P nm o S k r:=by
 unfold IB at h
 split at h
 ·rename_i q e a hq hx hy
  split at h
  ·rename_i hp
   have key:∀b:Bool,k {val:= .lf .bool (if q=true then b else !b)}=some r->lT P xt (aH V.sz V.enc (.op e) a) (.v (.pointer none)) b->OpD P nm o S k r:=λb hk hc=>
    cx hk (.cmp ho hq (by rw[an,hx];rfl) (by rw[an,hy];rfl) hc) rfl
   have hc:lT P xt (aH V.sz V.enc (.op e) a) (.v (.pointer none)) a.isNone:=by
    cases a with
    |none=>exact .pn hp
    |some z=>exact .rp hp
   refine key _ ?_ hc
   split at h<;>cases a<;>exact h
  ·cases h
 ·rename_i q a hq hx hy
  split at h
  ·rename_i hp
   have hp':∃x y z,P.underlying xt=some (.func x y z):=by
    unfold Ka at hp
    split at hp
    ·exact⟨_,_,_,‹_›⟩
    ·cases hp
   have key:∀b:Bool,k {val:= .lf .bool (if q=true then b else !b)}=some r->lT P xt (aH V.sz V.enc .fno a) (.v .nilFunc) b->OpD P nm o S k r:=λb hk hc=>
    cx hk (.cmp ho hq (by rw[an,hx];rfl) (by rw[an,hy];rfl) hc) rfl
   have hc:lT P xt (aH V.sz V.enc .fno a) (.v .nilFunc) (Option.isNone (α:=Nat) a):=by
    cases a with
    |none=>exact .nf hp'
    |some z=>exact .fn hp'
   refine key _ ?_ hc
   split at h<;>cases a<;>exact h
  ·cases h
 ·rename_i q i a j b hq hx hy
  replace h:=aj h
  obtain⟨⟨e1,hs,hg,hf,hks⟩,h⟩:=h
  subst e1
  obtain⟨ks,hks'⟩:=Su.1 hf
  rw[hks']at hks
  obtain⟨a1,a2⟩:=c9 (a:=a) hks
  obtain⟨b1,b2⟩:=c9 (a:=b) hks
  have hs':∃fs,P.underlying xt=some (.struct fs):=by
   unfold z8 at hs
   split at hs
   ·exact⟨_,‹_›⟩
   ·cases hs
  have hc:lT P xt (.agg (V.enc i a)) (.agg (V.enc i b)) (zF (V.cells i a) (V.cells i b)):=by
   rw[a1,b1,<-vJ hks]
   exact .st hs' hg (by decide) hks' a2 b2
  have key:k {val:= .lf .bool (if q=true then zF (V.cells i a) (V.cells i b)else !zF (V.cells i a) (V.cells i b))}=some r->OpD P nm o S k r:=λhk=>
   cx hk (.cmp ho hq (by rw[an,hx,iD]) (by rw[an,hy,iD]) hc) rfl
  refine key ?_
  split at h<;>exact h
 ·cases h
theorem yM{n sz i:Nat}(h:i<n):(wJ n sz)[i]?=some (i *sz,sz):=by
 unfold wJ
 rw[Qc,Rs h];rfl
theorem Hn{ω:Nat->Nat}(e:Ty V.ι)(v:TV V.N):ap V ω (fnF V e v)=ap V ω v:=by
 unfold fnF
 split
 ·cases e<;>rfl
 ·rfl
theorem uz{α:Type}:∀(l:List α) (i:Nat) (x:α),Kv l i x=l.set i x
 |[],_,_=>rfl
 |_::_,0,_=>rfl
 |a::r,i+1,x=>by rw[Kv,uz r i x];rfl
theorem kb{ω:Nat->Nat}{z:List Value}(h:z.all cn=true):encL V ω (z.map tvc)=z.map λx=>H.d (.v x):=by
 rw[ax]
 simp only[QA]
 refine QE λu hu=> ?_
 have:cn u=true:=Qm.1 h u hu
 simp only[RJ,uZ]
 cases u<;>first|rfl|cases this
theorem px{ω:Nat->Nat}{n:Nat}{e:Ty V.ι}:∀{parts:List (Nat×TV V.N)} {ys ys':List (den V.N e)},Ku V e ys parts=some ys'->ys.length=n->
 ld (wJ n (tsz V.sz e)) ((aV V.sz V.enc (.ar n e) ys).map .d) (parts.map λp=>(p.1,ap V ω p.2))=some ((aV V.sz V.enc (.ar n e) ys').map .d)
 |[],ys,ys',h,_=>by
  simp only[Ku,P8]at h
  subst h;rfl
 |(i,x)::r,ys,ys',h,hn=>by
  simp only[Ku]at h
  replace h:=aj h
  obtain⟨hi,h⟩:=h
  split at h
  ·rename_i y hy
   obtain⟨cs,ds,h1,h2,_,h4⟩:=mF (ω:=ω) hy
   replace h4:=h4 rfl
   subst h4
   have hc:=ca (ω:=ω) h1
   have hl:=bC (V:=V) e y
   have hcl:cs.length=tsz V.sz e:=by
    have:=congrArg RZ h2
    rw[aL,Qb,hl]at this;exact this
   have hL:=bC (V:=V) (.ar n e) ys
   have hL2:(aV V.sz V.enc (.ar n e) ys).length=n *tsz V.sz e:=hL
   have m1:(i+1) *tsz V.sz e<=n *tsz V.sz e:=Qr _ (by omega)
   rw[QK]at m1
   rw[uz]at h
   have ih:=px (ω:=ω) (n:=n) h (by rw[QU];exact hn)
   simp only[Qj,ld,yM (by omega:i<n),hc]
   rw[TL ⟨by rw[aL];exact hcl,by rw[Qb,hL2];omega⟩,<-ih]
   congr 1
   rw[dr,aL,hcl,h2,yN (by omega) hi]
   simp only[QT,Q6,Q7]
  ·cases h
theorem yj{t:TypeId}{parts:Array (Nat×Operand)}(ho:o.op= .build t parts)(h:uL V P t parts.toList S k=some r):OpD P nm o S k r:=by
 unfold uL at h
 split at h
 ·rename_i n e len te ag sz z hty ht hz
  split at h
  ·rename_i ys0 hys0
   replace h:=aj h
   obtain⟨⟨⟨e1,e2⟩,e3,e4⟩,h⟩:=h
   split at h
   ·rename_i ys hys
    subst e1;subst e2
    obtain⟨ds,d1,_,d3⟩:=da (ω:=S.len) hys0
    replace d3:=d3 rfl
    subst d3
    rw[kb e3]at d1
    have hf:=px (ω:=S.len) (n:=n) hys e4
    have hp:((parts.toList.map λ(i,x)=>(i,fnF V e (fnT (tev S x)))).map λp=>(p.1,ap V S.len p.2))=parts.toList.map λ(i,x)=>(i,fnD (Go.Awp.ev (aC V S) x)):=by
     rw[QA]
     refine QE λp _=> ?_
     simp only[RJ,Hn,qg,an]
    rw[hp,<-d1]at hf
    refine cx h (.buildArr ho ht hz hf) ?_
    rw[bu,cN,FW]
   ·cases h
  ·cases h
 ·cases h
theorem yk{t:TypeId}{parts:Array (Nat×Operand)}(ho:o.op= .build t parts)(h:uN V P t parts.toList S k=some r):OpD P nm o S k r:=by
 unfold uN at h
 split at h
 ·rename_i z pl hz hpl
  replace h:=aj h
  obtain⟨hzc,h⟩:=h
  split at h
  ·rename_i cs hcs
   have hf:=fX (ω:=S.len) hcs
   have hp:((parts.toList.map λ(i,x)=>(i,fnT (tev S x))).map λp=>(p.1,ap V S.len p.2))=parts.toList.map λ(i,x)=>(i,fnD (Go.Awp.ev (aC V S) x)):=by
    rw[QA]
    refine QE λp _=> ?_
    simp only[RJ,qg,an]
   rw[hp,kb hzc]at hf
   exact cx h (.buildSt ho hz hpl hf) (fH.2 rfl)
  ·cases h
 ·cases h
theorem mW:∀{l:List (TV V.N)} {j i:Nat},rP V j l=some i->j<=i/\l[i-j]?=some (.raw (.slice none 0 0))
 |[],_,_,h=>by simp[rP]at h
 |x::r,j,i,h=>by
  simp only[rP]at h
  split at h
  ·simp only[P8]at h
   subst h
   exact⟨QB _,by simp⟩
  ·obtain⟨h1,h2⟩:=mW h
   refine⟨by omega,?_⟩
   have:i-j=(i-(j+1))+1:=by omega
   rw[this]
   simpa using h2
theorem yl{t:TypeId}{parts:Array (Nat×Operand)}(ho:o.op= .build t parts)(h:uO V P t parts.toList o.dst S k=some r):OpD P nm o S k r:=by
 unfold uO at h
 split at h
 ·rename_i z pl s d hz hpl hty hd
  replace h:=aj h
  obtain⟨hzc,h⟩:=h
  split at h
  ·rename_i cs hcs
   split at h
   ·rename_i j hj
    split at h
    ·rename_i e he
     split at h
     ·rename_i hno
      rw[uz]at h
      have hf:=fX (ω:=S.len) hcs
      have hp:((parts.toList.map λ(i,x)=>(i,tev S x)).map λp=>(p.1,ap V S.len p.2))=parts.toList.map λ(i,x)=>(i,Go.Awp.ev (aC V S) x):=by
       rw[QA]
       refine QE λp _=> ?_
       simp only[RJ,an]
      rw[hp,kb hzc]at hf
      have hjc:cs[j]?=some (.raw (.slice none 0 0)):=by have:=(mW hj).2;simpa using this
      have base:az P nm o (Go.Awp.ev (aC V S)) (aC V S).own? {val:=bu (encL V S.len cs)}:= .ofAVal λρ' ω' hρ hω=>by
       have hpp:(parts.toList.map λ(i,x)=>(i,ρ' x))=parts.toList.map λ(i,x)=>(i,Go.Awp.ev (aC V S) x):=by
        refine QE λp hp=> ?_
        have:ρ' p.2=_:=hρ p.2 (by rw[ho];simp only[Op.operands];simpa using ⟨p.1,by simpa using hp⟩)
        simp only[this]
       simp only[aS,ho,hz,hpl,hpp,hf]
      refine⟨_,h,λm o1 hm=> ?_,_, .sem (.nilTop (nn:=53000+d) (e:=V.tid e) (sz:=tsz V.sz e) (i:=j) hd (by rw[ax,Qc,hjc];rfl) (by rw[encL_has];exact hno) base),bo ?_ rfl rfl rfl⟩
      ·simp only[ab]at hm
       split at hm
       ·rename_i q;left;simp[q]
       ·simp[gt]at hm
      ·simp only[ap]
       congr 1
       rw[ax _ (cs.set j _),RC]
       congr 1
       ·rw[<-ax]
        refine(encL_congr cs λq hq=> ?_).symm
        rw[bQ]
        simp only[ab]
        rw[TK λe0=>by rw[<-e0,hno]at hq;cases hq]
        rfl
       ·simp only[ap]
        rw[bQ]
        simp only[ab,TH]
        rfl
     ·cases h
    ·cases h
   ·cases h
  ·cases h
 ·cases h
end
end Go.Tx
end
section
namespace Go.Tx
open Go.Awp
variable [Inhabited GMem]
section
variable (V:gu) (P:Program) (nm:Nat->Nat)
def aW(d:Nat):Nat:=50000+d
def je(kt:TypeId):Ty V.ι->Bool
 | .st i=>z8 P kt&&match gA P 100 kt with
  |some ks=>decide (dj V (V.tys i)=some ks)
  |none=>false
 |tk=>dY (P.underlying kt) tk
def oD{B:Type}(S:TS V.N)(n:Nat)(f:(m:Nat)->TypeId->(tk tv:Ty V.ι)->List (Option (List (den V.N tk×den V.N tv)))->Nat->List (den V.N tk×den V.N tv)->Option B):Option B:=match S.own? n with
 |some (.alias m)=>match S.own? m with
  |some (.maps te tk tv es (some (n',i)))=>if n'=n/\¬n=m then es[i]?>>=λo=>o>>=λm0=>f m te tk tv es i m0 else none
  |_=>none
 |_=>none
def Dj{B:Type}(c:Bool)(tk tv:Ty V.ι)(key:den V.N tk)(z:den V.N tv)(es:List (den V.N tk×den V.N tv))(f:TV V.N->B):B:=match c with
 |true=>f (.tup [.lf tv ((Mp.get (keq V.cells tk) key es).getD z), .lf .bool (Mp.get (keq V.cells tk) key es).isSome])
 |false=>f (.lf tv ((Mp.get (keq V.cells tk) key es).getD z))
def Cf{A:Type}(t:TypeId)(x i:Operand)(c:Bool)(S:TS V.N)(k:TE V.N->Option A):Option A:=match P.underlying t,tev S x,tev S i with
 |some (.map kt et), .mp n, .lf tk key=>match ka P et with
  |some d=>match S.own? n with
   |some (.map tk' tv es)=>match ofZ V true tv d with
    |some z=>if h:tk=tk' then if je V P kt tk'=true then Dj V c tk' tv (h▸key) z es λv=>k {val:=v,acc:=[n]}else none else none
    |none=>none
   |_=>oD V S n λm te tk' tv es j m0=>match ofZ V true tv d with
    |some z=>if h:tk=tk' then if je V P kt tk'=true then Dj V c tk' tv (h▸key) z m0 λv=>k {val:=v,acc:=[m,n],upd:=[(m, .maps te tk' tv es (some (n,j))),(n, .alias m)]}else none else none
    |none=>none
  |none=>none
 |_,_,_=>none
def Fg{A:Type}(t:TypeId)(x i y:Operand)(S:TS V.N)(k:TE V.N->Option A):Option A:=match P.underlying t,tev S x,tev S i,tev S y with
 |some (.map kt _), .mp n, .lf tk key, .lf tv z=>match S.own? n with
  |some (.map tk' tv' es)=>if h:tk=tk' then
   if h':tv=tv' then
    if je V P kt tk'=true then k {val:= .junk,acc:=[n],upd:=[(n, .map tk' tv' (Mp.set (keq V.cells tk') (klt tk') (h▸key) (h'▸z) es))]}else none
   else none
   else none
  |_=>oD V S n λm te tk' tv' es j m0=>if h:tk=tk' then
   if h':tv=tv' then
    if je V P kt tk'=true then k {val:= .junk,acc:=[m,n],upd:=[(m, .maps te tk' tv' (es.set j (some (Mp.set (keq V.cells tk') (klt tk') (h▸key) (h'▸z) m0))) (some (n,j))),(n, .alias m)]}else none
   else none
   else none
 |_,_,_,_=>none
def II{A:Type}(args:List (TV V.N))(tys:List TypeId)(S:TS V.N)(k:TE V.N->Option A):Option A:=match args with
 |[.mp n]=>if cD P tys=3 then oD V S n λm te tk tv es j m0=>k {val:= .lf (.int .i64) m0.length,acc:=[m,n],upd:=[(m, .maps te tk tv es (some (n,j))),(n, .alias m)]}else none
 |_=>none
def uT{A:Type}(t:TypeId)(x:Operand)(dst:Option Tmp)(S:TS V.N)(k:TE V.N->Option A):Option A:=match P.underlying t,tev S x,dst with
 |some (.map _ _), .mp n,some d=>oD V S n λm te tk tv es j m0=>
  if¬aW d=n/\¬aW d=m then k {val:= .bp (aW d) 0,acc:=[m,n],upd:=[(aW d, .miter n tk tv m0 m0 none),(n, .gone 0),(m, .maps te tk tv (es.set j none) none)],new:=[aW d]}else none
 |_,_,_=>none
def qW{A:Type}(t:TypeId)(x i:Operand)(S:TS V.N)(k:TE V.N->Option A):Option A:=match bg P t,tev S x,tev S i with
 |some (_,sz,_), .vh m, .lf (.int _) n=>match S.own? m with
  |some (.maps _ _ _ es _)=>if 0<=n/\n<es.length then k {val:= .ep m sz n.toNat 0,acc:=[m]}else none
  |some (.que _ _ xs)=>if 0<=n/\n<xs.length then k {val:= .ep m sz n.toNat 0,acc:=[m]}else none
  |_=>none
 |_,_,_=>none
def n9{A:Type}(t:TypeId)(x:Operand)(dst:Option Tmp)(S:TS V.N)(k:TE V.N->Option A):Option A:=match bq P t,tev S x,dst with
 |some (false,1), .ep m 1 i 0,some d=>match S.own? m with
  |some (.maps te tk tv es _)=>es[i]?>>=λo=>o>>=λ_=>if¬aW d=m then k {val:= .mp (aW d),acc:=[m],upd:=[(m, .maps te tk tv es (some (aW d,i))),(aW d, .alias m)],new:=[aW d]}else none
  |_=>none
 |_,_,_=>none
def j9{A:Type}(t:TypeId)(x y:Operand)(S:TS V.N)(k:TE V.N->Option A):Option A:=match bq P t,tev S x,tev S y with
 |some (_,1), .ep m 1 i 0, .mp n=>match S.own? m,S.own? n with
  |some (.maps te tk tv es _),some (.map tk' tv' e0)=>if h:tk'=tk/\tv'=tv then
   if i<es.length/\¬n=m then k {val:= .junk,acc:=[m,n],upd:=[(m, .maps te tk tv (es.set i (some (h.1▸h.2▸e0))) none),(n, .gone 0)]}else none
   else none
  |_,_=>none
 |_,_,_=>none
def n8{A:Type}(t:TypeId)(l c:Operand)(dst:Option Tmp)(S:TS V.N)(k:TE V.N->Option A):Option A:=match V.ty t,bg P t,dst with
 |some (.sl (.mp tk tv)),some (te,1,bytes),some d=>match fR P te,tev S l,tev S c with
  |some [_], .lf (.int _) _, .lf (.int _) m=>match pw l c with
   |true=>if bytes<=32768 then if 0<=m then if m<=4294967296 then k {val:= .vh (aW d),upd:=[(aW d, .maps te tk tv (QL m.toNat none) none)],new:=[aW d]}else none else none else none
   |false=>none
  |_,_,_=>none
 |_,_,_=>none
def uP{A:Type}(t:TypeId)(len:Nat)(parts:List (Nat×Operand))(dst:Option Tmp)(S:TS V.N)(k:TE V.N->Option A):Option A:=match bg P t,V.ty t,dst with
 |some (te,sz,_),some (.sl e),some d=>if sz=tsz V.sz e/\parts.length=len/\len *sz<=16777216/\0<len then
  match xL V true e 0 (parts.map λ(i,x)=>(i,fnT (tev S x)))with
  |some ys=>k {val:= .vh (aW d),upd:=[(aW d, .que te e ys)],new:=[aW d]}
  |none=>none
  else none
 |_,_,_=>none
def uW{A:Type}(t:TypeId)(x:Operand)(lo hi mx:Option Operand)(dst:Option Tmp)(S:TS V.N)(k:TE V.N->Option A):Option A:=match mx,bg P t,dst,tev S x with
 |none,some (_,sz,_),some d, .vh m=>match lo,hi,S.own? m with
  |some l,none,some (.que te e xs)=>match tev S l with
   | .lf (.int _) n=>if sz=tsz V.sz e then if 0<=n then if n<=xs.length then k {val:= .vh (aW d),acc:=[m],upd:=[(aW d, .que te e (xs.drop n.toNat)),(m, .gone (S.len m))],new:=[aW d]}else none else none else none
   |_=>none
  |none,some h,some (.vec te e xs)=>match tev S h with
   | .lf (.int _) n=>if 0<=n then if n<=xs.length then k {val:= .vh (aW d),acc:=[m],upd:=[(aW d, .vec te e (xs.take n.toNat)),(m, .gone (S.len m))],new:=[aW d]}else none else none
   |_=>none
  |_,_,_=>none
 |_,_,_,_=>none
def Ix{A:Type}(args:List (TV V.N))(tys:List TypeId)(dst:Option Tmp)(S:TS V.N)(k:TE V.N->Option A):Option A:=match args,tys,dst with
 |[x,y],[t,t'],some d=>match bg P t with
  |some (te,sz,bytes)=>if t=t'/\bytes<=32768 then match y with
   | .lf (.sl e') (y0::ys)=>match x with
    | .vh n=>match S.own? n with
     |some (.que te2 e xs)=>if h:e'=e then
      if te=te2/\sz=tsz V.sz e then
       if xs.length+(y0::ys).length<=most then k {val:= .vh (aW d),acc:=[n],upd:=[(aW d, .que te e (xs++h▸(y0::ys))),(n, .gone (S.len n))],new:=[aW d]}else none
      else none
      else none
     |_=>none
    |_=>none
   | .sv m sz2 lo len=>match S.own? m with
    |some (.vec _ e2 xs2)=>if sz=tsz V.sz e2/\sz2=sz then
     if lo+len<=xs2.length then match x with
      | .vh n=>match S.own? n with
       |some (.vec te1 e xs)=>if h:e2=e then
        if te=te1/\¬n=m then
         if xs.length+len<=most then k {val:= .vh (aW d),acc:=[m,n],upd:=[(aW d, .vec te e (xs++h▸(xs2.drop lo).take len)),(n, .gone (S.len n))],new:=[aW d]}else none
        else none
        else none
       |_=>none
      | .raw (.slice none 0 0)=>if len<=most then k {val:= .vh (aW d),acc:=[m],upd:=[(aW d, .vec te e2 ((xs2.drop lo).take len))],new:=[aW d]}else none
      |_=>none
     else none
     else none
    |_=>none
   |_=>none
   else none
  |none=>none
 |_,_,_=>none
def Ca{A:Type}(args:List (TV V.N))(tys:List TypeId)(S:TS V.N)(k:TE V.N->Option A):Option A:=match args,tys with
 |[.vh m,y],t::_=>match bg P t,S.own? m with
  |some (te,sz,_),some (.vec te1 e xs)=>if te=te1/\sz=tsz V.sz e then match y with
   | .sv m2 sz2 lo len=>match S.own? m2 with
    |some (.vec _ e2 xs2)=>if h:e2=e then
     if sz2=sz/\¬m2=m then
      if lo+len<=xs2.length then k {val:= .lf (.int .i64) (min len xs.length:Nat),acc:=[m,m2],upd:=[(m, .vec te e (((h▸(xs2.drop lo).take len).take xs.length)++xs.drop len))]}else none
     else none
     else none
    |_=>none
   | .lf (.sl e2) ys=>if h:e2=e then k {val:= .lf (.int .i64) (min ys.length xs.length:Nat),acc:=[m],upd:=[(m, .vec te e (((h▸ys).take xs.length)++xs.drop ys.length))]}else none
   |_=>none
   else none
  |_,_=>none
 |_,_=>none
def IA{A:Type}(x:Operand)(S:TS V.N)(k:TE V.N->Option A):Option A:=match tev S x with
 | .lf (.st i) y=>k {val:= .lf (.op (.st i)) (some y)}
 |_=>none
end
section
variable {V:gu} {P:Program} {nm:Nat->Nat} {o:Oper} {S:TS V.N} {A:Type} {k:TE V.N->Option A} {r:A}
theorem Da{t:TypeId}(h:z8 P t=true):∃fs,P.underlying t=some (.struct fs):=by
 unfold z8 at h
 split at h
 ·exact⟨_,‹_›⟩
 ·cases h
theorem qm{kt:TypeId}{i:V.ι}(h:je V P kt (.st i)=true):∃fs ks,P.underlying kt=some (.struct fs)/\gA P 100 kt=some ks/\dj V (V.tys i)=some ks:=by
 simp only[je,Qg]at h
 obtain⟨fs,hfs⟩:=Da h.1
 have h2:=h.2
 split at h2
 ·rename_i ks hks
  exact⟨fs,ks,hfs,hks,by simpa using h2⟩
 ·cases h2
theorem Fj(xs:List Value):(xs.map D.v).map Oh=xs:=by
 rw[QA]
 exact(QE λx _=>rfl).trans (List.map_id xs)
theorem m9{kt:TypeId}{i:V.ι}(h:je V P kt (.st i)=true)(x:V.N i):V.enc i x=((V.cells i x).map gF).map .v/\dg V.enc (.st i) x= .agg ((V.cells i x).map gF).toArray:=by
 obtain⟨fs,ks,h1,h2,h3⟩:=qm h
 obtain⟨a1,a2⟩:=c9 (a:=x) h3
 refine⟨a1,?_⟩
 simp only[dg]
 rw[a1,Fj]
theorem gE{kt:TypeId}{tk:Ty V.ι}(h:je V P kt tk=true):(∃i,tk= .st i)\/∃kind,P.underlying kt=some kind/\dY (some kind) tk=true:=by
 cases tk with
 |st i=>exact .inl ⟨i,rfl⟩
 |_=>
  right
  simp only[je]at h
  cases hu:P.underlying kt with
  |none=>rw[hu]at h;simp[dY]at h
  |some kind=>rw[hu]at h;exact⟨kind,rfl,h⟩
theorem Ll{kt:TypeId}{tk:Ty V.ι}(h:je V P kt tk=true)(x:den V.N tk):∀M v,bT M v (aH V.sz V.enc tk x)->v=dg V.enc tk x:=by
 intro M v hv
 rcases gE h with⟨i,rfl⟩|⟨kind,hu,hk⟩
 ·obtain⟨h1,h2⟩:=m9 h x
  rw[h2]
  simp only[aH]at hv
  rw[h1]at hv
  exact mE hv
 ·rw[qn hk]at hv
  cases hv;rfl
theorem ql{kt:TypeId}{tk:Ty V.ι}(h:je V P kt tk=true)(x y:den V.N tk):keq V.cells tk x y=true↔dg V.enc tk x=dg V.enc tk y:=by
 rcases gE h with⟨i,rfl⟩|⟨kind,hu,hk⟩
 ·obtain⟨fs,ks,h1,h2,h3⟩:=qm h
  rw[(m9 h x).2,(m9 h y).2]
  simp only[keq]
  rw[<-vJ h3,fV (c9 h3).2 (c9 h3).2]
  simp
 ·have hs:=jf hk x y
  cases he:keq V.cells tk x y with
  |true=>
   rw[he]at hs
   simp only[true_iff]
   exact eu hs
  |false=>
   rw[he]at hs
   simp only[Qf,false_iff]
   exact hZ hs
theorem lH{kt:TypeId}{tk tv:Ty V.ι}(h:je V P kt tk=true)(x:den V.N tk)(es:List (den V.N tk×den V.N tv)):oi P kt (dg V.enc tk x) ((es.map λp=>(dg V.enc tk p.1,aH V.sz V.enc tv p.2)).map (·.1)):=by
 rcases gE h with⟨i,rfl⟩|⟨kind,hu,hk⟩
 ·obtain⟨fs,ks,h1,h2,h3⟩:=qm h
  rw[(m9 h x).2]
  refine .struct (d:=100) h1 (by decide) h2 (c9 h3).2 λk hk=> ?_
  rw[QA]at hk
  obtain⟨p,_,rfl⟩:=QG.1 hk
  exact⟨(V.cells i p.1).map gF,(m9 h p.1).2,(c9 h3).2⟩
 ·refine .simple hu (hG hk) λk hkm=> ?_
  have:∃y:den V.N tk,k=dg V.enc tk y:=by
   rcases Ql.1 hkm with rfl|hkm
   ·exact⟨x,rfl⟩
   ·rw[QA]at hkm
    obtain⟨p,_,rfl⟩:=QG.1 hkm
    exact⟨p.1,rfl⟩
  obtain⟨y,rfl⟩:=this
  rw[jf hk x y];rfl
theorem zO{kt:TypeId}{tk tv:Ty V.ι}(h:je V P kt tk=true)(x:den V.N tk):∀es:List (den V.N tk×den V.N tv),
 GW (dg V.enc tk x) (es.map λp=>(dg V.enc tk p.1,aH V.sz V.enc tv p.2)) ((Mp.get (keq V.cells tk) x es).map (aH V.sz V.enc tv))
 |[]=> .inl ⟨rfl,λp hp=>by cases hp⟩
 |p::r=>by
  simp only[Mp.get,Qj]
  cases he:keq V.cells tk x p.1 with
  |true=>
   exact .inr ⟨_,Qi,((ql h x p.1).1 he).symm,rfl⟩
  |false=>
   have hne:¬dg V.enc tk x=dg V.enc tk p.1:=λe=>by rw[(ql h x p.1).2 e]at he;cases he
   rw[TK (by decide)]
   rcases zO h x r with⟨h1,h2⟩|⟨q,h1,h2,h3⟩
   ·refine .inl ⟨h1,λq hq=> ?_⟩
    rcases Ql.1 hq with rfl|hq
    ·exactλe=>hne e.symm
    ·exact h2 q hq
   ·exact .inr ⟨q,Qd _ h1,h2,h3⟩
theorem Bf{kt:TypeId}{tk tv:Ty V.ι}(h:je V P kt tk=true)(x:den V.N tk)(y:den V.N tv):∀es:List (den V.N tk×den V.N tv),
 yF (dg V.enc tk x) (aH V.sz V.enc tv y) (es.map λp=>(dg V.enc tk p.1,aH V.sz V.enc tv p.2)) ((Mp.put (keq V.cells tk) x y es).map λp=>(dg V.enc tk p.1,aH V.sz V.enc tv p.2))
 |[]=> .inl ⟨rfl,λp hp=>by cases hp⟩
 |p::r=>by
  simp only[Mp.put,Qj]
  cases he:keq V.cells tk x p.1 with
  |true=>
   exact .inr ⟨0,_,rfl,((ql h x p.1).1 he).symm,rfl⟩
  |false=>
   have hne:¬dg V.enc tk x=dg V.enc tk p.1:=λe=>by rw[(ql h x p.1).2 e]at he;cases he
   rw[TK (by decide)]
   rcases Bf h x y r with⟨h1,h2⟩|⟨j,q,h1,h2,h3⟩
   ·refine .inl ⟨by rw[Qj,h1];rfl,λq hq=> ?_⟩
    rcases Ql.1 hq with rfl|hq
    ·exactλe=>hne e.symm
    ·exact h2 q hq
   ·exact .inr ⟨j+1,q,by simpa using h1,h2,by rw[Qj,h3];rfl⟩
theorem fT{B:Type}{n:Nat}{b:B}{f:(m:Nat)->TypeId->(tk tv:Ty V.ι)->List (Option (List (den V.N tk×den V.N tv)))->Nat->List (den V.N tk×den V.N tv)->Option B}(h:oD V S n f=some b):
 ∃m te tk tv es i m0,S.own? n=some (.alias m)/\S.own? m=some (.maps te tk tv es (some (n,i)))/\n≠m/\es[i]?=some (some m0)/\f m te tk tv es i m0=some b:=by
 unfold oD at h
 split at h
 ·rename_i m hn
  split at h
  ·rename_i te tk tv es n' i hm
   replace h:=aj h
   obtain⟨⟨rfl,hnm⟩,h⟩:=h
   replace h:=aR h
   obtain⟨o,ho,h⟩:=h
   replace h:=aR h
   obtain⟨m0,rfl,h⟩:=h
   exact⟨m,te,tk,tv,es,i,m0,hn,hm,hnm,ho,h⟩
  ·cases h
 ·cases h
theorem wj{α:Type}{l:List α}{i:Nat}{x:α}(h:l[i]?=some x):l.set i x=l:=by
 apply Q9
 intro j
 rw[QZ]
 split
 ·rename_i e;subst e
  rw[TL (P9.1 h).1,h]
 ·rfl
theorem qG{n m:Nat}{o1 o2:TO V.N}{x1 x2:Option Own}{v:TV V.N}{h:H}{l:List Nat}(h1:∀ω,a_ V ω o1=x1)(h2:∀ω,a_ V ω o2=x2)(hl1:TO.len (some o1)=S.len n)(hl2:TO.len (some o2)=S.len m)(hv:∀ω,ap V ω v=h)
 (hk:k {val:=v,acc:=l,upd:=[(n,o1),(m,o2)]}=some r)(hs:az P nm o (Go.Awp.ev (aC V S)) (aC V S).own? {val:=h,acc:=l,upd:=[(n,x1),(m,x2)]}):OpD P nm o S k r:=by
 refine⟨_,hk,λq o' hq=> ?_,_, .sem hs,bo (hv _).symm rfl (by simp[h1,h2]) rfl⟩
 simp only[ab]at hq
 right
 split at hq
 ·rename_i e;simp at hq;subst hq;subst e;exact hl1
 ·split at hq
  ·rename_i e;simp at hq;subst hq;subst e;exact hl2
  ·simp[gt]at hq
def mH(tk tv:Ty V.ι)(l:List (den V.N tk×den V.N tv)):List (Value×D):=l.map λp=>(dg V.enc tk p.1,aH V.sz V.enc tv p.2)
theorem pa{c:Bool}{tk tv:Ty V.ι}{key:den V.N tk}{z:den V.N tv}{es:List (den V.N tk×den V.N tv)}{f:TV V.N->Option A}(h:Dj V c tk tv key z es f=some r):
 ∃v,f v=some r/\∀ω,ap V ω v=if c=true then .tup [.d (((Mp.get (keq V.cells tk) key es).map (aH V.sz V.enc tv)).getD (aH V.sz V.enc tv z)), .d (.v (.bool ((Mp.get (keq V.cells tk) key es).map (aH V.sz V.enc tv)).isSome))]
  else .d (((Mp.get (keq V.cells tk) key es).map (aH V.sz V.enc tv)).getD (aH V.sz V.enc tv z)):=by
 unfold Dj at h
 cases c with
 |true=>
  refine⟨_,h,λω=> ?_⟩
  simp only[ap,encL,TH,SY]
  cases Mp.get (keq V.cells tk) key es<;>rfl
 |false=>
  refine⟨_,h,λω=> ?_⟩
  simp only[ap,Qf,TI]
  cases Mp.get (keq V.cells tk) key es<;>rfl
theorem Cg{t:TypeId}{x i:Operand}{c:Bool}(ho:o.op= .lookup t x i c)(h:Cf V P t x i c S k=some r):OpD P nm o S k r:=by
 unfold Cf at h
 split at h
 ·rename_i kt et n tk key ht hx hi
  split at h
  ·rename_i d hd
   split at h
   ·rename_i tk' tv es hown
    split at h
    ·rename_i z hz
     split at h
     ·rename_i htk
      subst htk
      replace h:=aj h
      obtain⟨hk,h⟩:=h
      obtain⟨v,h,hv⟩:=pa h
      exact cx h (.lookupK ho ht hd (by rw[an,hx];rfl) (by rw[an,hi];rfl) (Ll hk key) (gQ hown) (lH hk key es) (zO hk key es)) (by rw[hv,(nA hz).2 rfl])
     ·cases h
    ·cases h
   ·obtain⟨m,te,tk',tv,es,j,m0,hn,hm,hnm,hj,h⟩:=fT h
    split at h
    ·rename_i z hz
     split at h
     ·rename_i htk
      subst htk
      replace h:=aj h
      obtain⟨hk,h⟩:=h
      obtain⟨v,h,hv⟩:=pa h
      have hj':(es.map λo=>o.map (mH (V:=V) tk tv))[j]?=some (some (mH tk tv m0)):=by rw[Qc,hj];rfl
      refine qG (x1:=some (.maps te (es.map λo=>o.map (mH tk tv)) (some (n,j)))) (x2:=none) (λω=>rfl) (λω=>rfl) (by rw[gc hm];rfl) (by rw[jh hn];rfl) hv h ?_
      have:=az.viaAlias (P:=P) (nm:=nm) (o:=o) (ρ:=Go.Awp.ev (aC V S)) (m1:=mH tk tv m0) (gi hm) hj' (jw hn) hnm
       (v:=if c=true then .tup [.d (((Mp.get (keq V.cells tk) key m0).map (aH V.sz V.enc tv)).getD (aH V.sz V.enc tv z)), .d (.v (.bool ((Mp.get (keq V.cells tk) key m0).map (aH V.sz V.enc tv)).isSome))]
         else .d (((Mp.get (keq V.cells tk) key m0).map (aH V.sz V.enc tv)).getD (aH V.sz V.enc tv z)))
       λω' hω'=> .told hω' (by
        have:=az.lookupK (nm:=nm) ho ht hd (ω:=ω') (c:=c) (key:=dg V.enc tk key) (dk:=aH V.sz V.enc tk key) (ρ:=Go.Awp.ev (aC V S)) (by rw[an,hx];rfl) (by rw[an,hi];rfl) (Ll hk key) hω' (lH hk key m0) (zO hk key m0)
        rw[(nA hz).2 rfl]at this
        exact this)
      have hs:(es.map λo=>o.map λl=>l.map λp=>(dg V.enc tk p.1,aH V.sz V.enc tv p.2)).set j (some (mH tk tv m0))=es.map λo=>o.map λl=>l.map λp=>(dg V.enc tk p.1,aH V.sz V.enc tv p.2):=wj hj'
      rw[hs]at this
      exact this
     ·cases h
    ·cases h
  ·cases h
 ·cases h
theorem wu{t:TypeId}{x i y:Operand}(ho:o.op= .mapUpdate t x i y\/o.op= .insert t x i y)(h:Fg V P t x i y S k=some r):OpD P nm o S k r:=by
 unfold Fg at h
 split at h
 ·rename_i kt et n tk key tv z ht hx hi hy
  split at h
  ·rename_i tk' tv' es hown
   split at h
   ·rename_i e1
    subst e1
    split at h
    ·rename_i e2
     subst e2
     replace h:=aj h
     obtain⟨hk,h⟩:=h
     exact ul (x:= .map (mH tk tv (Mp.set (keq V.cells tk) (klt tk) key z es))) (λω=>rfl) (by rw[qp hown];rfl) h
      (.updateK ho ht (by rw[an,hx];rfl) (by rw[an,hi];rfl) (Ll hk key) (by rw[an,hy];rfl) (gQ hown) (lH hk key es) (Bf hk key z es) ((Mp.set_perm _ _ _ _ _).map _))
    ·cases h
   ·cases h
  ·obtain⟨m,te,tk',tv',es,j,m0,hn,hm,hnm,hj,h⟩:=fT h
   split at h
   ·rename_i e1
    subst e1
    split at h
    ·rename_i e2
     subst e2
     replace h:=aj h
     obtain⟨hk,h⟩:=h
     have hj':(es.map λo=>o.map (mH (V:=V) tk tv))[j]?=some (some (mH tk tv m0)):=by rw[Qc,hj];rfl
     refine qG (x1:=some (.maps te ((es.map λo=>o.map (mH tk tv)).set j (some (mH tk tv (Mp.set (keq V.cells tk) (klt tk) key z m0)))) (some (n,j)))) (x2:=none) (h:= .junk) (λω=>by simp only[a_,RC];rfl) (λω=>rfl) (by rw[gc hm];simp[TO.len]) (by rw[jh hn];rfl) (λω=>rfl) h ?_
     exact az.viaAlias (gi hm) hj' (jw hn) hnm λω' hω'=>
      .updateK (ω:=ω') ho ht (by rw[an,hx];rfl) (by rw[an,hi];rfl) (Ll hk key) (by rw[an,hy];rfl) hω' (lH hk key m0) (Bf hk key z m0) ((Mp.set_perm _ _ _ _ _).map _)
    ·cases h
   ·cases h
 ·cases h
theorem EZ{c:Call}(ho:o.op= .call c)(hc:c.callee= .builtin .len)(h:II V P (c.args.toList.map (tev S)) c.argTypes.toList S k=some r):OpD P nm o S k r:=by
 unfold II at h
 split at h
 ·rename_i n hargs
  replace h:=aj h
  obtain⟨hk,h⟩:=h
  obtain⟨m,te,tk,tv,es,j,m0,hn,hm,hnm,hj,h⟩:=fT h
  obtain⟨p,hpq,hpx⟩:∃p,c.args.toList=[p]/\tev S p= .mp n:=by
   match hcl:c.args.toList,hargs with
   |[p],hargs=>simp at hargs;exact⟨p,rfl,hargs⟩
   |[],hargs=>simp at hargs
   |_::_::_,hargs=>simp at hargs
  have hj':(es.map λo=>o.map (mH (V:=V) tk tv))[j]?=some (some (mH tk tv m0)):=by rw[Qc,hj];rfl
  have hs:(es.map λo=>o.map λl=>l.map λp=>(dg V.enc tk p.1,aH V.sz V.enc tv p.2)).set j (some (mH tk tv m0))=es.map λo=>o.map λl=>l.map λp=>(dg V.enc tk p.1,aH V.sz V.enc tv p.2):=wj hj'
  refine qG (x1:=some (.maps te (es.map λo=>o.map (mH tk tv)) (some (n,j)))) (x2:=none) (h:= .d (.v (.int .i64 m0.length))) (λω=>rfl) (λω=>rfl) (by rw[gc hm];rfl) (by rw[jh hn];rfl) (λω=>rfl) h ?_
  have:=az.viaAlias (P:=P) (nm:=nm) (o:=o) (ρ:=Go.Awp.ev (aC V S)) (v:= .d (.v (.int .i64 m0.length))) (m1:=mH tk tv m0) (gi hm) hj' (jw hn) hnm λω' hω'=> .told hω' (.ofAVal λρ' ω2 hρ hω=>by
   have hx':ρ' p= .mp n:=by
    rw[hρ p (by rw[ho];simp only[Op.operands,Call.operands,hc];(have:p∈c.args.toList:=by rw[hpq];simp);simpa using this),an,hpx];rfl
   have ho':ω2 n=some (.map (mH tk tv m0)):=(hω n (by simp)).trans hω'
   simp only[aS,ho,hc,hpq,Qj,QO,hx',ho']
   exact⟨hk,by rw[mH,Qb]⟩)
  rw[hs]at this
  exact this
 ·cases h
theorem yp{t:TypeId}{x:Operand}(ho:o.op= .range t x)(h:uT V P t x o.dst S k=some r):OpD P nm o S k r:=by
 unfold uT at h
 split at h
 ·rename_i kt et n d ht hx hd
  obtain⟨m,te,tk,tv,es,j,m0,hn,hm,hnm,hj,h⟩:=fT h
  replace h:=aj h
  obtain⟨⟨hf1,hf2⟩,h⟩:=h
  have hj':(es.map λo=>o.map (mH (V:=V) tk tv))[j]?=some (some (mH tk tv m0)):=by rw[Qc,hj];rfl
  refine⟨_,h,λq o' hq=> ?_,_, .sem (.rangeAlias (nn:=aW d) ho ⟨_,_,ht⟩ (by rw[an,hx];rfl) (by rw[hd];simp) (gi hm) hj' (jw hn) ⟨hf1,hf2⟩),bo rfl rfl (by simp only[Qj,QO,a_,RC];rfl) rfl⟩
  simp only[ab]at hq
  split at hq
  ·rename_i e;left;simp[e]
  ·right
   split at hq
   ·rename_i e;simp at hq;subst hq;subst e;rw[jh hn];rfl
   ·split at hq
    ·rename_i e;simp at hq;subst hq;subst e;rw[gc hm];simp[TO.len]
    ·simp[gt]at hq
 ·cases h
theorem uS{t:TypeId}{x i:Operand}(ho:o.op= .indexAddr t x i)(h:qW V P t x i S k=some r):OpD P nm o S k r:=by
 unfold qW at h
 split at h
 ·rename_i te sz by_ m kk n ht hx hi
  split at h
  ·rename_i te2 tk tv es al hm
   replace h:=aj h
   obtain⟨⟨h0,h1⟩,h⟩:=h
   refine cx h (.indexMaps ho ht ?_ (by rw[an,hi];rfl) (gi hm) h0 (by rw[Qb];exact h1)) rfl
   rw[an,hx,Qb]
   simp only[ap,gc hm]
  ·rename_i te2 e xs hm
   replace h:=aj h
   obtain⟨⟨h0,h1⟩,h⟩:=h
   refine cx h (.qindex ho ht ?_ (by rw[an,hi];rfl) (qI hm) h0 (by rw[Qb];exact h1)) rfl
   rw[an,hx,Qb]
   simp only[ap,t_ hm]
  ·cases h
 ·cases h
theorem az.more{v:H}{acc new:List Nat}{upd:List (Nat×Option Own)}{d:Nat}{ρ:Operand->H}{ω:Nat->Option Own}(h:az P nm o ρ ω {val:=v,acc:=acc,upd:=upd,new:=new}):az P nm o ρ ω {val:=v,acc:=acc,upd:=upd++[(d,none)],new:=new}:=by
 refine az.ole h λown n o hn=>⟨o,?_,OLe.refl _⟩
 simp only[Q2,dO]at hn⊢
 cases hu:gt upd n with
 |some x=>rw[hu]at hn;exact hn
 |none=>
  rw[hu]at hn
  simp only[Qv,QJ,ab]at hn
  by_cases e:d=n
  ·rw[TL e]at hn;cases hn
  ·rw[TK e]at hn
   simpa[gt]using hn
theorem sX{t:TypeId}{x:Operand}(ho:o.op= .load t x)(h:n9 V P t x o.dst S k=some r):OpD P nm o S k r:=by
 unfold n9 at h
 split at h
 ·rename_i m i d ht hx hd
  split at h
  ·rename_i te tk tv es al hm
   replace h:=aR h
   obtain⟨o1,ho1,h⟩:=h
   replace h:=aR h
   obtain⟨m0,rfl,h⟩:=h
   replace h:=aj h
   obtain⟨hf,h⟩:=h
   have hj':(es.map λo=>o.map (mH (V:=V) tk tv))[i]?=some (some (mH tk tv m0)):=by rw[Qc,ho1];rfl
   refine⟨_,h,λq o' hq=> ?_,_, .sem (az.more (d:=aW d) (.loadMap (d:=aW d) ho ht (by rw[an,hx];rfl) (gi hm) hj' hf)),bo rfl rfl rfl rfl⟩
   simp only[ab]at hq
   split at hq
   ·rename_i e;right;simp at hq;subst hq;subst e;rw[gc hm];rfl
   ·split at hq
    ·rename_i e;left;simp[e]
    ·simp[gt]at hq
  ·cases h
 ·cases h
theorem qX{t:TypeId}{x y:Operand}(ho:o.op= .store t x y)(h:j9 V P t x y S k=some r):OpD P nm o S k r:=by
 unfold j9 at h
 split at h
 ·rename_i ag m i n ht hx hy
  split at h
  ·rename_i te tk tv es al tk' tv' e0 hm hn
   split at h
   ·rename_i hh
    obtain⟨e1,e2⟩:=hh
    subst e1;subst e2
    replace h:=aj h
    obtain⟨⟨hi,hnm⟩,h⟩:=h
    refine qG (x1:=some (.maps te ((es.map λo=>o.map (mH tk' tv')).set i (some (mH tk' tv' e0))) none)) (x2:=none) (h:= .junk) (λω=>by simp only[a_,RC];rfl) (λω=>rfl) (by rw[gc hm];simp[TO.len]) (by rw[qp hn];rfl) (λω=>rfl) h ?_
    exact .storeMap ho ht (by rw[an,hx];rfl) (by rw[an,hy];rfl) (gi hm) (gQ hn) (by rw[Qb];exact hi) hnm
   ·cases h
  ·cases h
 ·cases h
theorem xP{l c:Operand}(h:pw l c=true):l=c:=by
 unfold pw at h
 split at h
 ·rw[QQ h]
 ·cases h
theorem sW{t:TypeId}{l c:Operand}(ho:o.op= .makeSlice t l c)(h:n8 V P t l c o.dst S k=some r):OpD P nm o S k r:=by
 unfold n8 at h
 split at h
 ·rename_i tk tv te bytes d hty ht hd
  split at h
  ·rename_i z0 kn n km m hz hl hc
   split at h
   ·rename_i hsame
    replace h:=aj h
    obtain⟨hb,h⟩:=h
    replace h:=aj h
    obtain⟨h0,h⟩:=h
    replace h:=aj h
    obtain⟨h1,h⟩:=h
    have hlc:=xP hsame
    subst hlc
    rw[hl]at hc
    simp only[TV.lf.injEq]at hc
    obtain⟨e1,e2⟩:=hc
    cases e1
    have e2:=eq_of_heq e2
    subst e2
    refine qF (d:=aW d) (h:= .vh (aW d) n.toNat) (x:= .maps te (QL n.toNat none) none) (λω=>by simp only[a_,RV];rfl) (λω hω=>by simp only[ap,hω,TO.len,Rf]) h ?_
    refine az.ole (upd:=[(aW d,some (.vec te 1 (QL n.toNat ([z0].map .v))))]) (.ofAVal (nm:=aW) λρ' ω' hρ hω=> ?_) λown q o1 hq=> ?_
    ·have hx':ρ' l= .d (.v (.int kn n)):=by rw[hρ l (by rw[ho];simp[Op.operands]),an,hl];rfl
     simp only[aS,ho,ht,hd,hz,hx']
     exact⟨⟨.inl trivial,h0,h0,h1,hb⟩,trivial⟩
    ·simp only[Qv,QJ,ab]at hq⊢
     by_cases e:aW d=q
     ·rw[TL e]at hq⊢
      simp only[Rc,P8]at hq
      subst hq
      refine⟨_,rfl,?_⟩
      have:=OLe.v2maps (e:=te) (rows:=QL n.toNat ([z0].map D.v))
      rw[RV]at this
      exact this
     ·rw[TK e]at hq⊢
      exact⟨o1,hq,OLe.refl _⟩
   ·cases h
  ·cases h
 ·cases h
theorem ym{t:TypeId}{len:Nat}{parts:Array (Nat×Operand)}(ho:o.op= .buildSlice t len parts)(h:uP V P t len parts.toList o.dst S k=some r):OpD P nm o S k r:=by
 unfold uP at h
 split at h
 ·rename_i te sz by_ e d ht hty hd
  replace h:=aj h
  obtain⟨⟨e1,e2,e3,e4⟩,h⟩:=h
  split at h
  ·rename_i ys hys
   obtain⟨rows,h1,h2,_,h4⟩:=iR (ω:=S.len) hys
   replace h4:=h4 rfl
   have hp:((parts.toList.map λ(i,x)=>(i,fnT (tev S x))).map λp=>(p.1,ap V S.len p.2))=parts.toList.map λ(i,x)=>(i,fnD (Go.Awp.ev (aC V S) x)):=by
    rw[QA]
    refine QE λp _=> ?_
    simp only[RJ,qg,an]
   rw[hp,<-e1]at h1
   rw[Qb,e2]at h2
   have hyl:ys.length=len:=by
    have:=congrArg RZ h4
    rw[Qb]at this;omega
   have hne:rows≠[]:=λe=>by rw[e]at h2;simp at h2;omega
   refine qF (d:=aW d) (h:= .vh (aW d) rows.length) (x:= .que te sz rows) (λω=>by rw[h4,e1];rfl) (λω hω=>by simp only[ap,hω,TO.len,hyl,h2]) h ?_
   refine az.ole (upd:=[(aW d,some (.vec te sz rows))]) (.ofAVal (nm:=aW) λρ' ω' hρ hω=> ?_) λown q o1 hq=> ?_
   ·have hpp:(parts.toList.map λ(i,x)=>(i,fnD (ρ' x)))=parts.toList.map λ(i,x)=>(i,fnD (Go.Awp.ev (aC V S) x)):=by
     refine QE λp hp=> ?_
     have:ρ' p.2=_:=hρ p.2 (by rw[ho];simp only[Op.operands];simpa using ⟨p.1,by simpa using hp⟩)
     simp only[this]
    have hnd:¬aW d=d:=by unfold aW;omega
    simp only[aS,ho,ht,hd,hpp,h1]
    refine⟨⟨h2,e3⟩,?_⟩
    rw[TK hnd]
    trivial
   ·simp only[Qv,QJ,ab]at hq⊢
    by_cases e:aW d=q
    ·rw[TL e]at hq⊢
     simp only[Rc,P8]at hq
     subst hq
     exact⟨_,rfl,OLe.v2q hne⟩
    ·rw[TK e]at hq⊢
     exact⟨o1,hq,OLe.refl _⟩
  ·cases h
 ·cases h
theorem jv{d:Nat}{ns:List Nat}{v:TV V.N}{h:H}{o':TO V.N}{x:Own}{l:List Nat}(hx:∀ω,a_ V ω o'=some x)(hv:∀ω:Nat->Nat,ω d=TO.len (some o')->ap V ω v=h)
 (hk:k {val:=v,acc:=l,upd:=(d,o')::rL V S ns,new:=[d]}=some r)
 (hs:az P nm o (Go.Awp.ev (aC V S)) (aC V S).own? {val:=h,acc:=l,upd:=(d,some x)::ns.map (λn=>(n,none)),new:=[d]}):OpD P nm o S k r:=by
 refine⟨_,hk,λm o1 hm=> ?_,_, .sem hs,bo (hv _ ?_).symm rfl (by rw[Qj,mP,hx]) rfl⟩
 ·simp only[ab]at hm
  split at hm
  ·rename_i e;left;simp[e]
  ·exact .inr (mQ hm)
 ·rw[bQ];simp[ab]
theorem yx{t:TypeId}{x:Operand}{lo hi mx:Option Operand}(ho:o.op= .slice t x lo hi mx)(h:uW V P t x lo hi mx o.dst S k=some r):OpD P nm o S k r:=by
 unfold uW at h
 split at h
 ·rename_i te0 sz0 by0 d m ht hd hx
  split at h
  ·rename_i l te e xs hm
   split at h
   ·rename_i kk n hl
    replace h:=aj h
    obtain⟨hse,h⟩:=h
    subst hse
    replace h:=aj h
    obtain⟨h0,h⟩:=h
    replace h:=aj h
    obtain⟨h1,h⟩:=h
    refine jv (ns:=[m]) (x:= .que te (tsz V.sz e) ((xs.map λx=>aV V.sz V.enc e x).drop n.toNat)) (h:= .vh (aW d) ((xs.map λx=>aV V.sz V.enc e x).length-n.toNat)) (λω=>by simp only[a_,Q7]) (λω hω=>by simp only[ap,hω,TO.len,QN,Qb]) h ?_
    exact .qtail ho ht (by rw[an,hx,Qb];simp only[ap,t_ hm]) (qI hm) (by rw[an,hl];rfl) h0 (by rw[Qb];exact h1)
   ·cases h
  ·rename_i hh te e xs hm
   split at h
   ·rename_i kk n hl
    replace h:=aj h
    obtain⟨h0,h⟩:=h
    replace h:=aj h
    obtain⟨h1,h⟩:=h
    have h2:n.toNat<=xs.length:=Int.toNat_le.2 h1
    refine jv (ns:=[m]) (x:= .vec te (tsz V.sz e) ((xs.map λx=>aV V.sz V.enc e x).take n.toNat)) (h:= .vh (aW d) n.toNat) (λω=>by simp only[a_,Q6]) (λω hω=>by simp only[ap,hω,TO.len,QM];rw[Rn h2]) h ?_
    exact .trunc ho ht (by rw[an,hx,Qb];simp only[ap,cU hm]) (cd hm) (by rw[an,hl];rfl) h0 (by rw[Qb];exact h1)
   ·cases h
  ·cases h
 ·cases h
theorem Jf{c:Call}{x y:TV V.N}(h:c.args.toList.map (tev S)=[x,y]):∃p q,c.args= #[p,q]/\tev S p=x/\tev S q=y:=by
 match hcl:c.args.toList,h with
 |[p,q],h=>simp at h;exact⟨p,q,by rw[<-Rz];exact hcl,h.1,h.2⟩
 |[],h=>simp at h
 |[_],h=>simp at h
 |_::_::_::_,h=>simp at h
theorem jB(e:Ty V.ι)(xs:List (den V.N e)):(xs.map λx=>aV V.sz V.enc e x).all (λr=>r.all D.one)=true:=by
 rw[Ry,Qm]
 intro y _
 exact qL
theorem p5{a b:Nat}(h:a<=most)(hb:b<=32768):a *b<=140737488355328:=by
 have:a *b<=4294967296 *32768:=Sw h hb
 omega
theorem ER{c:Call}(ho:o.op= .call c)(hc:c.callee= .builtin .append)(h:Ix V P (c.args.toList.map (tev S)) c.argTypes.toList o.dst S k=some r):OpD P nm o S k r:=by
 unfold Ix at h
 split at h
 ·rename_i x y t t' d hargs htys hd
  obtain⟨p,q,hpq,rfl,hqy⟩:=Jf hargs
  split at h
  ·rename_i te sz bytes ht
   replace h:=aj h
   obtain⟨⟨e1,hby⟩,h⟩:=h
   subst e1
   have hct:c.argTypes= #[t,t]:=by rw[<-Rz];exact htys
   split at h
   ·rename_i e' y0 ys
    split at h
    ·rename_i n hx
     split at h
     ·rename_i te2 e xs hown
      split at h
      ·rename_i e2
       subst e2
       replace h:=aj h
       obtain⟨⟨e3,e4⟩,h⟩:=h
       subst e3;subst e4
       replace h:=aj h
       obtain⟨hle,h⟩:=h
       refine jv (ns:=[n]) (x:= .que te (tsz V.sz e') ((xs.map λx=>aV V.sz V.enc e' x)++((y0::ys).map λx=>aV V.sz V.enc e' x))) (h:= .vh (aW d) ((xs.map λx=>aV V.sz V.enc e' x).length+((y0::ys).map λx=>aV V.sz V.enc e' x).length)) (λω=>by simp only[a_,QT]) (λω hω=>by simp only[ap,hω,TO.len,Qx,Qb]) h ?_
       refine .qappend ho hc hpq hct ht (by rw[an,hx,Qb];simp only[ap,t_ hown]) (qI hown) (by rw[an,hqy];rfl) (by simp) (jB e' _) ?_ ?_
       ·rw[Qb,Qb];exact p5 hle hby
       ·rw[Qb,Qb];unfold most at hle;omega
      ·cases h
     ·cases h
    ·cases h
   ·rename_i m sz2 lo len
    split at h
    ·rename_i te2 e2 xs2 hm
     replace h:=aj h
     obtain⟨⟨e3,e4⟩,h⟩:=h
     subst e4;subst e3
     replace h:=aj h
     obtain⟨hll,h⟩:=h
     split at h
     ·rename_i n hx
      split at h
      ·rename_i te1 e xs hown
       split at h
       ·rename_i e5
        subst e5
        replace h:=aj h
        obtain⟨⟨e6,hnm⟩,h⟩:=h
        subst e6
        replace h:=aj h
        obtain⟨hle,h⟩:=h
        refine jv (ns:=[n]) (x:= .vec te (tsz V.sz e2) ((xs.map λx=>aV V.sz V.enc e2 x)++(((xs2.map λx=>aV V.sz V.enc e2 x).drop lo).take len))) (h:= .vh (aW d) ((xs.map λx=>aV V.sz V.enc e2 x).length+len)) (λω=>by simp only[a_,QT,Q6,Q7]) (λω hω=>by
         simp only[ap,hω,TO.len,Qx,Qb,QM,QN]
         rw[Rn (by omega)]) h ?_
        refine .appendCut ho hc hpq hct ht (.inl ⟨n,by rw[an,hx,Qb];simp only[ap,cU hown],cd hown,hnm,rfl⟩) (by rw[an,hqy];rfl) (cd hm) (by rw[Qb];exact hll) (jB e2 _) ?_ ?_
        ·rw[Qb];exact p5 hle hby
        ·rw[Qb];unfold most at hle;omega
       ·cases h
      ·cases h
     ·rename_i hx
      replace h:=aj h
      obtain⟨hle,h⟩:=h
      refine jv (ns:=[]) (x:= .vec te (tsz V.sz e2) ([]++(((xs2.map λx=>aV V.sz V.enc e2 x).drop lo).take len))) (h:= .vh (aW d) (([]:List (List D)).length+len)) (λω=>by simp only[a_,Q6,Q7,QJ]) (λω hω=>by
       simp only[ap,hω,TO.len,QM,QN,R3]
       rw[Rn (by omega),Qt]) h ?_
      refine .appendCut ho hc hpq hct ht (.inr ⟨by rw[an,hx];rfl,rfl,rfl⟩) (by rw[an,hqy];rfl) (cd hm) (by rw[Qb];exact hll) (jB e2 _) ?_ ?_
      ·rw[R3,Qt];exact p5 hle hby
      ·rw[R3,Qt];unfold most at hle;omega
     ·cases h
    ·cases h
   ·cases h
  ·cases h
 ·cases h
theorem vX{n:Nat}{o':TO V.N}{x:Own}{l:List Nat}{v:TV V.N}{h:H}(hx:∀ω,a_ V ω o'=some x)(hv:∀ω,ap V ω v=h)(hl:TO.len (some o')=S.len n)(hk:k {val:=v,acc:=l,upd:=[(n,o')]}=some r)
 (hs:az P nm o (Go.Awp.ev (aC V S)) (aC V S).own? {val:=h,acc:=l,upd:=[(n,some x)]}):OpD P nm o S k r:=by
 refine⟨_,hk,λm o1 hm=> ?_,_, .sem hs,bo (hv _).symm rfl (by simp[hx]) rfl⟩
 simp only[ab]at hm
 split at hm
 ·rename_i e;right;simp at hm;subst hm;subst e;exact hl
 ·simp[gt]at hm
theorem vl{α:Type}(xs ys:List α)(n:Nat)(h:ys.length=n):(ys.take xs.length++xs.drop n).length=xs.length:=by
 rw[Qx,QM,QN,h]
 omega
theorem Cb{c:Call}(ho:o.op= .call c)(hc:c.callee= .builtin .copy)(h:Ca V P (c.args.toList.map (tev S)) c.argTypes.toList S k=some r):OpD P nm o S k r:=by
 unfold Ca at h
 split at h
 ·rename_i m y t rest hargs htys
  obtain⟨p,q,hpq,hpx,hqy⟩:=Jf hargs
  have hct:c.argTypes[0]?=some t:=by
   have:c.argTypes.toList[0]?=some t:=by rw[htys];rfl
   simpa using this
  split at h
  ·rename_i te sz by_ te1 e xs ht hm
   replace h:=aj h
   obtain⟨⟨e1,e2⟩,h⟩:=h
   subst e1;subst e2
   split at h
   ·rename_i m2 sz2 lo len
    split at h
    ·rename_i te2 e2 xs2 hm2
     split at h
     ·rename_i e3
      subst e3
      replace h:=aj h
      obtain⟨⟨e4,hne⟩,h⟩:=h
      subst e4
      replace h:=aj h
      obtain⟨hll,h⟩:=h
      have hnl:(((xs2.map λx=>aV V.sz V.enc e2 x).drop lo).take len).length=len:=by rw[QM,QN,Qb];omega
      have hnl':((xs2.drop lo).take len).length=len:=by rw[QM,QN];omega
      have:=az.copy (P:=P) (nm:=nm) (ω:=(aC V S).own?) (ρ:=Go.Awp.ev (aC V S)) (rows:=xs.map λx=>aV V.sz V.enc e2 x) (news:=((xs2.map λx=>aV V.sz V.enc e2 x).drop lo).take len) (acc:=[m,m2]) ho hc hpq hct ht (by rw[an,hpx,Qb];simp only[ap,cU hm]) (cd hm)
       (.inr ⟨m2,te2,lo,xs2.map λx=>aV V.sz V.enc e2 x,by rw[an,hqy,hnl];rfl,cd hm2,by rw[hnl,Qb];exact hll,by rw[hnl],hne,rfl⟩)
       (by
         rw[<-Q7,<-Q6];exact jB e2 _)
      rw[hnl,Qb]at this
      refine vX (x:= .vec te (tsz V.sz e2) ((((xs2.map λx=>aV V.sz V.enc e2 x).drop lo).take len).take xs.length++(xs.map λx=>aV V.sz V.enc e2 x).drop len)) (λω=>by simp only[a_,QT,Q6,Q7]) (λω=>rfl) (by rw[cU hm];exact vl xs _ _ hnl') h this
     ·cases h
    ·cases h
   ·rename_i e2 ys
    split at h
    ·rename_i e3
     subst e3
     have:=az.copy (P:=P) (nm:=nm) (ω:=(aC V S).own?) (ρ:=Go.Awp.ev (aC V S)) (rows:=xs.map λx=>aV V.sz V.enc e2 x) (news:=ys.map λx=>aV V.sz V.enc e2 x) (acc:=[m]) ho hc hpq hct ht (by rw[an,hpx,Qb];simp only[ap,cU hm]) (cd hm)
      (.inl ⟨by rw[an,hqy];rfl,rfl⟩) (jB e2 _)
     rw[Qb,Qb]at this
     exact vX (x:= .vec te (tsz V.sz e2) ((ys.map λx=>aV V.sz V.enc e2 x).take xs.length++(xs.map λx=>aV V.sz V.enc e2 x).drop ys.length)) (λω=>by simp only[a_,QT,Q6,Q7]) (λω=>rfl) (by rw[cU hm];exact vl xs _ _ rfl) h this
    ·cases h
   ·cases h
  ·cases h
 ·cases h
theorem ET{t:TypeId}{x:Operand}(ho:o.op= .box t x)(h:IA V x S k=some r):OpD P nm o S k r:=by
 unfold IA at h
 split at h
 ·rename_i i y hx
  exact cx h (.freezeBox (ds:=V.enc i y) ho (by rw[an,hx,iD];rfl)) rfl
 ·cases h
end
section
variable (V:gu) (P:Program) (nm:Nat->Nat)
def Hu:TV V.N->Bool
 | .lf (.ar _ _) _=>true
 |_=>false
def Ht:Option (Ty V.ι)->Bool
 |some (.ar _ _)=>true
 |_=>false
def L2:Option (Ty V.ι)->Bool
 |some (.sl (.mp _ _))=>true
 |_=>false
def LZ:Ty V.ι->Bool
 | .fno=>true
 |_=>false
def Gk:Option (Ty V.ι)->Bool
 |some (.st i)=>(V.tys i).any (LZ V)
 |_=>false
def Hw:Option (TO V.N)->Bool
 |some (.bar ..)=>true
 |_=>false
def C_:Option (TO V.N)->Bool
 |some (.que ..)=>true
 |_=>false
def vI:Option (TO V.N)->Bool
 |some (.maps ..)=>true
 |_=>false
def Hs:Option (TO V.N)->Bool
 |some (.alias ..)=>true
 |_=>false
def Hv:Option (TO V.N)->Bool
 |some (.vec _ (.ar _ _) _)=>true
 |_=>false
def Hy:TV V.N->Bool
 | .lf (.st _) _=>true
 |_=>false
def q_(S:TS V.N):TV V.N->Bool
 | .mp n=>Hs V (S.own? n)
 |_=>false
def zJ(pre:Nat->Bool)(m:Nat):Option Tmp->Bool
 |some d=>pre (m+d)
 |none=>false
def Km(pre:Nat->Bool)(o:Oper)(S:TS V.N):Bool:=match o.op with
 | .index _ x _=>Hu V (tev S x)
 | .indexAddr _ x _=>match tev S x with
  | .bp n 0=>Hw V (S.own? n)
  | .rp (.ar _ _) _ _=>true
  | .ep .. =>true
  | .vh m=>C_ V (S.own? m)||vI V (S.own? m)
  |_=>false
 | .load _ x=>match tev S x with
  | .ai .. =>true
  | .bp n _=>Hw V (S.own? n)
  | .ep n _ _ _=>C_ V (S.own? n)||vI V (S.own? n)||Hv V (S.own? n)
  | .rp (.ar _ _) _ _=>true
  |_=>false
 | .store _ x _=>match tev S x with
  | .ai .. =>true
  | .bp n _=>Hw V (S.own? n)
  | .ep n _ _ _=>vI V (S.own? n)
  |_=>false
 | .alloc t=>Ht V (V.ty t)
 | .box _ x=>Hu V (tev S x)||zJ pre 7000000 o.dst
 | .nilCheck x=>match tev S x with
  | .lf (.op _) _=>true
  |_=>false
 | .binOp _ _ x y _=>match tev S x,tev S y with
  | .lf (.op _) _, .raw (.pointer none)=>true
  | .lf .fno _, .raw .nilFunc=>true
  | .lf (.st _) _, .lf (.st _) _=>true
  |_,_=>false
 | .build t parts=>Ht V (V.ty t)||Gk V (V.ty t)||(!parts.toList.isEmpty&&zJ pre 1000000 o.dst)
 | .makeSlice t _ _=>L2 V (V.ty t)
 | .lookup _ x i _=>q_ V S (tev S x)||Hy V (tev S i)
 | .mapUpdate _ x i _=>q_ V S (tev S x)||Hy V (tev S i)
 | .insert _ x i _=>q_ V S (tev S x)||Hy V (tev S i)
 | .range _ x=>q_ V S (tev S x)
 | .slice _ x _ _ _=>zJ pre 5000000 o.dst||match tev S x with
  | .vh m=>C_ V (S.own? m)
  |_=>false
 | .buildSlice _ _ _=>zJ pre 6000000 o.dst
 | .call c=>match c.callee with
  | .builtin .len=>match c.args.toList with
   |[x]=>q_ V S (tev S x)
   |_=>false
  | .builtin .copy=>true
  | .builtin .append=>match c.args.toList with
   |[x,y]=>match tev S x,tev S y with
    | .sv ..,_=>false
    |_, .sv .. =>true
    | .vh n, .lf .. =>C_ V (S.own? n)
    |_,_=>false
   |_=>false
  |_=>false
 |_=>false
def NO{A:Type}(o:Oper)(S:TS V.N)(k:TE V.N->Option A):Option A:=match o.op with
 | .index t x i=>uR V P t x i S k
 | .indexAddr t x i=>match tev S x with
  | .vh _=>qW V P t x i S k
  |_=>IF V P t x i S k
 | .load t x=>match tev S x with
  | .ep n _ _ _=>match vI V (S.own? n)with
   |true=>n9 V P t x o.dst S k
   |false=>wq V P t x S k
  |_=>wq V P t x S k
 | .store t x y=>match tev S x with
  | .ep .. =>j9 V P t x y S k
  |_=>uX V P t x y S k
 | .alloc t=>uK V P nm t o.dst k
 | .box _ x=>match Hu V (tev S x)with
  |true=>Iz V nm x o.dst S k
  |false=>IA V x S k
 | .nilCheck x=>IK V x S k
 | .binOp op xt x y _=>IB V P op xt x y S k
 | .build t parts=>match Ht V (V.ty t)with
  |true=>uL V P t parts.toList S k
  |false=>match Gk V (V.ty t)with
   |true=>uN V P t parts.toList S k
   |false=>uO V P t parts.toList o.dst S k
 | .makeSlice t l c=>n8 V P t l c o.dst S k
 | .lookup t x i c=>Cf V P t x i c S k
 | .mapUpdate t x i y=>Fg V P t x i y S k
 | .insert t x i y=>Fg V P t x i y S k
 | .range t x=>uT V P t x o.dst S k
 | .slice t x lo hi mx=>uW V P t x lo hi mx o.dst S k
 | .buildSlice t len parts=>uP V P t len parts.toList o.dst S k
 | .call c=>match c.callee with
  | .builtin .len=>II V P (c.args.toList.map (tev S)) c.argTypes.toList S k
  | .builtin .copy=>Ca V P (c.args.toList.map (tev S)) c.argTypes.toList S k
  | .builtin .append=>Ix V P (c.args.toList.map (tev S)) c.argTypes.toList o.dst S k
  |_=>none
 |_=>none
def opX(pre:Nat->Bool)(o:Oper)(S:TS V.N):Bool:=Km V pre o S||JX V pre o S
def tdX{A:Type}(pre:Nat->Bool)(o:Oper)(S:TS V.N)(k:TE V.N->Option A):Option A:=match Km V pre o S with
 |true=>NO V P nm o S k
 |false=>IE V P nm o S k
def G_(S:TS V.N)(t:Nat):TS V.N:=match gt S.tmps t with
 |some (.bp b 0)=>match S.own? b with
  |some (.bst i x)=>{tmps:=(t, .lf (.op (.st i)) (some x))::S.tmps,own:=(b, .gone 0)::S.own}
  |_=>S
 |_=>S
def Nn(S:TS V.N)(t:Nat):TS V.N:=match gt S.tmps t with
 |some (.vh n)=>match S.own? n with
  |some (.vec _ e xs)=>{S with tmps:=(t, .sv n (tsz V.sz e) 0 xs.length)::S.tmps}
  |_=>S
 |_=>S
def Iu(S:TS V.N)(x:Operand)(ty:TypeId):TS V.N:=match x with
 | .tmp t=>match bg P ty,V.ty ty with
  |some (te,_,_),some (.sl e)=>Nn V (uh V false te e S t) t
  |_,_=>S
 |_=>S
def pS(S:TS V.N):List Operand->List TypeId->TS V.N
 |x::r,ty::s=>pS (Iu V P S x ty) r s
 |_,_=>S
def zX:Nat->List (TV V.N)->Option (Nat×Nat×Nat×Nat)
 |_,[]=>none
 |i,x::r=>match x with
  | .sv m sz 0 l=>some (i,m,sz,l)
  |_=>zX (i+1) r
def oT(S:TS V.N):List (Nat×TO V.N)->Option (Nat×Option TypeId×List (TV V.N)×Nat×Nat×Nat×Nat)
 |[]=>none
 |(b,_)::r=>match S.own? b with
  |some (.box o cells)=>match zX V 0 cells with
   |some q=>some (b,o,cells,q)
   |none=>oT S r
  |_=>oT S r
def Hq{A:Type}(S:TS V.N)(k:TS V.N->Option A):Option A:=match oT V S S.own with
 |some (b,o,cells,i,m,sz,l)=>match S.own? m with
  |some (.vec te e xs)=>if sz=tsz V.sz e/\¬b=m/\S.fresh (75000+S.own.length)=true/\RB (75000+S.own.length) given=true then
   if l<=xs.length then k {tmps:=S.tmps,own:=(b, .box o (cells.set i (.vh (75000+S.own.length))))::(75000+S.own.length, .vec te e (xs.take l))::(m, .gone (S.len m))::S.own}else none
   else none
  |_=>none
 |none=>none
def zP{A:Type}(pre:Nat->Bool)(o:Oper)(S:TS V.N)(k:TS V.N->Option A):Option A:=match zJ pre 8000000 o.dst with
 |true=>Hq V S k
 |false=>match o.op with
  | .store _ _ (.tmp t)=>match pre (7000000+t)with
   |true=>k (G_ V S t)
   |false=>k S
  | .call c=>match c.callee with
   | .value f=>match tev S f with
    | .fn fid _ _=>match pre (9000000+fid)with
     |true=>k (pS V P S c.args.toList c.argTypes.toList)
     |false=>k S
    |_=>k S
   |_=>k S
  |_=>k S
end
section
variable {V:gu} {P:Program} {nm:Nat->Nat} {pre:Nat->Bool} {o:Oper} {S:TS V.N} {A:Type} {k:TE V.N->Option A} {r:A}
theorem yo(h:NO V P nm o S k=some r):OpD P nm o S k r:=by
 unfold NO at h
 split at h
 ·rename_i t x i ho;exact yn ho h
 ·rename_i t x i ho
  split at h
  ·exact uS ho h
  ·exact EX ho h
 ·rename_i t x ho
  split at h
  ·split at h
   ·exact sX ho h
   ·exact sV ho h
  ·exact sV ho h
 ·rename_i t x y ho
  split at h
  ·exact qX ho h
  ·exact yy ho h
 ·rename_i t ho;exact yi ho h
 ·rename_i t x ho
  split at h
  ·exact ES ho h
  ·exact ET ho h
 ·rename_i x ho;exact E6 ho h
 ·rename_i op xt x y yt ho;exact EU ho h
 ·rename_i t parts ho
  split at h
  ·exact yj ho h
  ·split at h
   ·exact yk ho h
   ·exact yl ho h
 ·rename_i t l c ho;exact sW ho h
 ·rename_i t x i c ho;exact Cg ho h
 ·rename_i t x i y ho;exact wu (.inl ho) h
 ·rename_i t x i y ho;exact wu (.inr ho) h
 ·rename_i t x ho;exact yp ho h
 ·rename_i t x lo hi mx ho;exact yx ho h
 ·rename_i t len parts ho;exact ym ho h
 ·rename_i c ho
  split at h
  ·rename_i hc;exact EZ ho hc h
  ·rename_i hc;exact Cb ho hc h
  ·rename_i hc;exact ER ho hc h
  ·cases h
 ·cases h
theorem sU(hf:∀te,k te=some r->∀d∈te.new,S.fresh d=true)(h:tdX V P nm pre o S k=some r):OpD P nm o S k r:=by
 unfold tdX at h
 split at h
 ·exact yo h
 ·exact uQ hf h
theorem yR(S:TS V.N)(t:Nat):Ent (aC V S) (aC V (G_ V S t)):=by
 unfold G_
 split
 ·rename_i b ht
  split
  ·rename_i i x hb
   have h1:gt (aC V S).tmps t=some (.bp b 0):=by rw[bK,ht];rfl
   have h2:(aC V S).own? b=some (.box none ((V.enc i x).map .d)):=by rw[aK,hb];rfl
   refine Ent.trans (Ent.boxData h1 h2) ?_
   have hl:({tmps:=(t, .lf (.op (.st i)) (some x))::S.tmps,own:=(b, .gone 0)::S.own}:TS V.N).len=S.len:=by
    funext m
    unfold TS.len TS.own?
    rw[ab]
    by_cases e:b=m
    ·subst e
     rw[TL rfl]
     unfold TS.own? at hb
     rw[hb];rfl
    ·rw[TK e]
   have:aC V {tmps:=(t, .lf (.op (.st i)) (some x))::S.tmps,own:=(b, .gone 0)::S.own}={tmps:=(t, .d (.rp (V.enc i x)))::(aC V S).tmps,own:=(b,none)::(aC V S).own}:=by
    unfold aC
    rw[hl];rfl
   rw[this]
   exact Ent.refl _
  ·exact Ent.refl _
 ·exact Ent.refl _
theorem EO(S:TS V.N)(t:Nat):Ent (aC V S) (aC V (Nn V S t)):=by
 unfold Nn
 split
 ·rename_i n ht
  split
  ·rename_i te e xs hn
   have h1:gt (aC V S).tmps t=some (.vh n (xs.map λx=>aV V.sz V.enc e x).length):=by
    rw[bK,ht,Qb]
    simp only[QI,ap,cU hn]
   have:=Ent.vh2sv h1 (cd hn)
   rw[Qb]at this
   exact this
  ·exact Ent.refl _
 ·exact Ent.refl _
theorem B7(S:TS V.N)(x:Operand)(ty:TypeId):Ent (aC V S) (aC V (Iu V P S x ty)):=by
 unfold Iu
 split
 ·split
  ·exact Ent.trans (nv _ _ _ S _) (EO _ _)
  ·exact Ent.refl _
 ·exact Ent.refl _
theorem pT:∀(l:List Operand) (tys:List TypeId) (S:TS V.N),Ent (aC V S) (aC V (pS V P S l tys))
 |[],_,S=>by simp only[pS];exact Ent.refl _
 |_::_,[],S=>by simp only[pS];exact Ent.refl _
 |x::r,ty::s,S=>by
  simp only[pS]
  exact Ent.trans (B7 S x ty) (pT r s _)
theorem oY:∀{l:List (TV V.N)} {j i m sz n:Nat},zX V j l=some (i,m,sz,n)->j<=i/\l[i-j]?=some (.sv m sz 0 n)
 |[],_,_,_,_,_,h=>by simp[zX]at h
 |x::r,j,i,m,sz,n,h=>by
  simp only[zX]at h
  split at h
  ·simp only[P8,QD]at h
   obtain⟨rfl,rfl,rfl,rfl⟩:=h
   exact⟨QB _,by simp⟩
  ·obtain⟨h1,h2⟩:=oY h
   refine⟨by omega,?_⟩
   have:i-j=(i-(j+1))+1:=by omega
   rw[this]
   simpa using h2
theorem iE:∀{l:List (Nat×TO V.N)} {b:Nat} {o:Option TypeId} {cells:List (TV V.N)} {i m sz n:Nat},oT V S l=some (b,o,cells,i,m,sz,n)->S.own? b=some (.box o cells)/\cells[i]?=some (.sv m sz 0 n)
 |[],_,_,_,_,_,_,_,h=>by simp[oT]at h
 |(b',_)::r,b,o,cells,i,m,sz,n,h=>by
  simp only[oT]at h
  split at h
  ·rename_i o' cells' hb
   split at h
   ·rename_i q hq
    simp only[P8,QD]at h
    obtain⟨rfl,rfl,rfl,rfl⟩:=h
    have:=(oY hq).2
    exact⟨hb,by simpa using this⟩
   ·exact iE h
  ·exact iE h
theorem zS{k:TS V.N->Option A}(h:Hq V S k=some r):∃S',k S'=some r/\Ent (aC V S) (aC V S'):=by
 unfold Hq at h
 split at h
 ·rename_i b oty cells i m sz l hfs
  obtain⟨hb,hi⟩:=iE hfs
  split at h
  ·rename_i te e xs hm
   replace h:=aj h
   obtain⟨⟨e1,hbm,hf,hg⟩,h⟩:=h
   replace h:=aj h
   obtain⟨hl,h⟩:=h
   subst e1
   generalize 75000+S.own.length=nn at *
   refine⟨_,h,?_⟩
   have hg:nn<given:=by simpa[RO]using hg
   have h1:(aC V S).own? b=some (.box oty (encL V S.len cells)):=by rw[aK,hb];rfl
   have h2:(encL V S.len cells)[i]?=some (.sv m (tsz V.sz e) 0 l):=by rw[ax,Qc,hi];rfl
   have hfr:=dD hf
   refine Ent.trans (Ent.head h1 h2 (cd hm) (by rw[Qb];exact hl) hbm ⟨hfr,hg⟩) ?_
   have hcn:TV.hasL nn cells=false:=by
    have:=hf
    unfold TS.fresh at this
    simp only[Qg,Qm]at this
    have:=this.2 (b, .box oty cells) (bD hb)
    simpa[TO.has]using this
   have hfo:S.own? nn=none:=by
    have:=hf
    unfold TS.fresh at this
    simp only[Qg]at this
    have:=this.1.1
    cases ho:S.own? nn with
    |none=>rfl
    |some x=>rw[ho]at this;cases this
   have hbn:b≠nn:=λe0=>by subst e0;rw[hb]at hfo;cases hfo
   have hmn:m≠nn:=λe0=>by subst e0;rw[hm]at hfo;cases hfo
   generalize hS':({tmps:=S.tmps,own:=(b, .box oty (cells.set i (.vh nn)))::(nn, .vec te e (xs.take l))::(m, .gone (S.len m))::S.own}:TS V.N)=S'
   have hlen:∀q,q≠nn->S'.len q=S.len q:=by
    intro q hq
    subst hS'
    unfold TS.len TS.own?
    simp only[ab]
    by_cases q1:b=q
    ·subst q1
     rw[TL rfl]
     unfold TS.own? at hb
     rw[hb];rfl
    ·rw[TK q1,TK (QR hq)]
     by_cases q2:m=q
     ·subst q2;rw[TL rfl];rfl
     ·rw[TK q2]
   have hlnn:S'.len nn=l:=by
    subst hS'
    unfold TS.len TS.own?
    simp only[ab,TK hbn,TH,TO.len,QM]
    omega
   refine Ent.le (λt x hx=> ?_) λn x hx=> ?_
   ·rw[bK,Qn]at hx
    obtain⟨v,hv,rfl⟩:=hx
    have hv':gt S.tmps t=some v:=by subst hS';exact hv
    refine⟨ap V S.len v,by simp only[bK,hv'];rfl,?_⟩
    have:ap V S'.len v=ap V S.len v:=gZ v λq hq=>hlen q λe0=>by
     subst e0
     have:=fresh_tmp hf hv'
     rw[hq]at this;cases this
    rw[this]
    exact H.le.refl _
   ·rw[aK,RF]at hx
    obtain⟨oo,ho1,ho2⟩:=hx
    refine⟨x,?_,OLe.refl _⟩
    subst hS'
    unfold TS.own? at ho1
    unfold aa.own?
    simp only[ab]at ho1⊢
    by_cases q1:b=n
    ·rw[TL q1]at ho1⊢
     simp only[P8]at ho1;subst ho1
     simp only[a_,P8]at ho2;subst ho2
     have hc:encL V (TS.len {tmps:=S.tmps,own:=(b, .box oty (cells.set i (.vh nn)))::(nn, .vec te e (xs.take l))::(m, .gone (S.len m))::S.own}) (cells.set i (.vh nn))=(encL V S.len cells).set i (.vh nn l):=by
      rw[ax,RC,ax]
      congr 1
      ·rw[<-ax,<-ax]
       refine encL_congr cells λq hq=>hlen q λe0=> ?_
       subst e0;rw[hcn]at hq;cases hq
      ·simp only[ap,hlnn]
     rw[hc]
     rfl
    ·rw[TK q1]at ho1⊢
     by_cases q2:nn=n
     ·rw[TL q2]at ho1⊢
      simp only[P8]at ho1;subst ho1
      simp only[a_,P8]at ho2;subst ho2
      rw[Q6];rfl
     ·rw[TK q2]at ho1⊢
      by_cases q3:m=n
      ·rw[TL q3]at ho1
       simp only[P8]at ho1;subst ho1
       cases ho2
      ·rw[TK q3]at ho1⊢
       have hq:(aC V S).own? n=some x:=by
        rw[aK]
        unfold TS.own?
        rw[ho1]
        have:a_ V S.len oo=a_ V (TS.len {tmps:=S.tmps,own:=(b, .box oty (cells.set i (.vh nn)))::(nn, .vec te e (xs.take l))::(m, .gone (S.len m))::S.own}) oo:=(oO oo λq hq=>hlen q λe0=>by
         subst e0
         have:=hf
         unfold TS.fresh at this
         simp only[Qg,Qm]at this
         have:=this.2 (n,oo) (bD ho1)
         simp[hq]at this).symm
        rw[P_,this];exact ho2
       exact hq
  ·cases h
 ·cases h
theorem xd{k:TS V.N->Option A}(h:zP V P pre o S k=some r):∃S',k S'=some r/\Ent (aC V S) (aC V S'):=by
 unfold zP at h
 split at h
 ·exact zS h
 ·split at h
  ·split at h
   ·exact⟨_,h,yR S _⟩
   ·exact⟨_,h,Ent.refl _⟩
  ·split at h
   ·split at h
    ·split at h
     ·exact⟨_,h,pT _ _ S⟩
     ·exact⟨_,h,Ent.refl _⟩
    ·exact⟨_,h,Ent.refl _⟩
   ·exact⟨_,h,Ent.refl _⟩
  ·exact⟨_,h,Ent.refl _⟩
end
end Go.Tx
end
section
namespace Go.Tx
open Go.Awp
variable [Inhabited GMem]
section
variable {ι:Type} {N:ι->Type}
def setB(S:TS N)(d:Nat)(b:Bool):TS N:={S with tmps:=(d, .lf .bool b)::S.tmps}
def rO(S:TS N)(all:List Oper)(j:Nat):Option (Nat×TV N):=match all[j]? with
 |some o=>match o.dst with
  |some d=>match gt S.tmps d with
   |some v=>some (d,v)
   |none=>none
  |none=>none
 |none=>none
def zy(n:Nat)(pre:Nat->Bool)(o:Oper):Bool:=match o.dst with
 |some d=>RB d n&& !pre (4000000+d)
 |none=>true
def dW(S:TS N)(e:TE N):Bool:=e.new.all λd=>S.fresh d&&RB d given
end
section
variable (V:gu) (P:Program) (n:Nat) (nm:Nat->Nat) (call:cy V)
def lR:TV V.N->List (TV V.N)
 | .vh n=>[.vh n]
 | .agg cs=>cs
 |_=>[]
def GP(b c:Bool):TV V.N->List (TV V.N)
 | .vh n=>match b with
  |true=>[.vh n]
  |false=>[]
 | .agg cs=>match c with
  |true=>[]
  |false=>cs
 |_=>[]
def A_(pre:Nat->Bool)(o:Oper)(S:TS V.N):TS V.N:=match o.op with
 | .buildSlice _ _ parts=>frzL V S (parts.toList.flatMap λp=>lR V (tev S p.2))
 | .convert _ _ x=>frzL V S (lR V (tev S x))
 | .slice _ x _ _ _=>frzL V S (lR V (tev S x))
 | .store _ x y=>match tev S x with
  | .ep .. =>frzL V S (lR V (tev S y))
  |_=>S
 | .call c=>match c.callee with
  | .value f=>match tev S f with
   | .fn fid first captured=>frzL V S ((first++c.args.toList.map (tev S)++captured).flatMap (GP V (pre fid) (pre (2000000+fid))))
   | .lf .fnc _=>frzL V S ((c.args.toList.map (tev S)).flatMap (GP V false false))
   |_=>S
  | .builtin .append=>match c.args.toList,c.argTypes.toList with
   |[_, .tmp t],ty::_=>match gt S.tmps t,V.ty ty with
    |some (.vh n),_=>frzL V S [.vh n]
    |some (.raw (.slice (some _) 0 _)),some (.sl e)=>{S with tmps:=(t, .lf (.sl e) [])::S.tmps}
    |some (.raw (.slice none 0 0)),some (.sl e)=>{S with tmps:=(t, .lf (.sl e) [])::S.tmps}
    |_,_=>S
   |_,_=>S
  |_=>S
 |_=>S
def rG{α β:Type}:List α->(List α->β)->β
 |[],k=>k []
 |x::r,k=>rG r λl=>k (x::l)
theorem mO{α β:Type}:∀(l:List α) (k:List α->β),rG l k=k l
 |[],_=>rfl
 |x::r,k=>by rw[rG,mO r]
def vA{ι:Type}{N:ι->Type}{β:Type}(S:TS N)(k:TS N->β):β:=rG S.tmps λt=>rG S.own λo=>k ⟨t,o⟩
theorem rH{ι:Type}{N:ι->Type}{β:Type}(S:TS N)(k:TS N->β):vA S k=k S:=by
 unfold vA
 rw[mO,mO]
noncomputable def IJ{A:Type}(x:Operand)(S:TS V.N)(k:TE V.N->Option A):Option A:=match tev S x with
 | .bp n 0=>match S.own? n with
  |some (.miter m tk tv es rest _)=>if HB tk=true/\S.len m=0 then
   if rest.isEmpty=true then k {val:= .tup [.lf .bool false],acc:=[n,m],upd:=[(m, .map tk tv es),(n, .gone 0)]}
   else G4 (steps rest) λq=>k {val:= .tup [.lf .bool true, .lf tk q.1.1, .lf tv q.1.2],acc:=[n],upd:=[(n, .miter m tk tv es q.2 (some q.1))]}
   else none
  |_=>none
 |_=>none
noncomputable def txo(pre:Nat->Bool)(o:Oper){A:Type}(S:TS V.N)(k:TS V.N->Option A):Option A:=match o.op with
 | .next x false=>IJ V x S λte=>match dW S te with
  |true=>k (S.app o.dst te)
  |false=>none
 |_=>zP V P pre o S λS=>match opX V pre o S with
  |true=>tdX V P nm pre o S λte=>match dW S te with
   |true=>k (S.app o.dst te)
   |false=>none
  |false=>tx V P nm call false o (A_ V pre o S) λte=>match dW (A_ V pre o S) te with
   |true=>k ((A_ V pre o S).app o.dst te)
   |false=>none
noncomputable def txs(pre:Nat->Bool)(all:List Oper){A:Type}:List Oper->TS V.N->(TS V.N->Option A)->Option A
 |[],S,k=>k S
 |o::os,S,k=>vA S λS=>match zy n pre o with
  |false=>none
  |true=>match o.guard with
   |none=>txo V P nm call pre o S λS'=>txs pre all os S' k
   |some (j,want)=>match rO S all j with
    |some (d, .lf .bool b)=>if b=true then
      match want with
      |true=>txo V P nm call pre o (setB S d true) λS'=>txs pre all os S' k
      |false=>txs pre all os ((setB S d true).app o.dst {val:= .tup []}) k
     else
      match want with
      |false=>txo V P nm call pre o (setB S d false) λS'=>txs pre all os S' k
      |true=>txs pre all os ((setB S d false).app o.dst {val:= .tup []}) k
    |some (_, .tup [])=>txs pre all os (S.app o.dst {val:= .tup []}) k
    |_=>none
def txq(pre:Nat->Bool)(o:Oper){A:Type}(S:TS V.N)(k:TE V.N->Option A):Option A:=match opX V pre o S with
 |true=>tdX V P nm pre o S k
 |false=>tx V P nm call true o S k
def txd(pre:Nat->Bool)(all:List Oper){A:Type}:List Oper->TS V.N->List Tr1->(TS V.N->List Tr1->Option A)->Option A
 |[],S,tr,k=>k S tr
 |o::os,S,tr,k=>vA S λS=>match zy n pre o with
  |false=>none
  |true=>match det o.op with
   |false=>none
   |true=>match o.guard with
   |none=>txq V P nm call pre o S λte=>match dW S te with
    |true=>txd pre all os (S.app o.dst te) (tr++[⟨fw (S.app o.dst te).len te,true⟩]) k
    |false=>none
   |some (j,want)=>match rO S all j with
    |some (d, .lf .bool b)=>if b=true then
      match want with
      |true=>txq V P nm call pre o (setB S d true) λte=>match dW (setB S d true) te with
       |true=>txd pre all os ((setB S d true).app o.dst te) (tr++[⟨fw ((setB S d true).app o.dst te).len te,true⟩]) k
       |false=>none
      |false=>txd pre all os ((setB S d true).app o.dst {val:= .tup []}) (tr++[⟨{val:= .tup []},false⟩]) k
     else
      match want with
      |false=>txq V P nm call pre o (setB S d false) λte=>match dW (setB S d false) te with
       |true=>txd pre all os ((setB S d false).app o.dst te) (tr++[⟨fw ((setB S d false).app o.dst te).len te,true⟩]) k
       |false=>none
      |true=>txd pre all os ((setB S d false).app o.dst {val:= .tup []}) (tr++[⟨{val:= .tup []},false⟩]) k
    |some (_, .tup [])=>txd pre all os (S.app o.dst {val:= .tup []}) (tr++[⟨{val:= .tup []},false⟩]) k
    |_=>none
end
section
variable {V:gu}
theorem qR{C:Ctx}{E:Env}{M:Mem}{S:TS V.N}{d:Nat}{b:Bool}{a:Act}{w:World}(hd:gt S.tmps d=some (.lf .bool b))(hs:Sim C E M (aC V S) a w):Sim C E M (aC V (setB S d b)) a w:=by
 have hl:(setB S d b).len=S.len:=rfl
 refine Sim.le hs (λt x hx=> ?_) λn o ho=>⟨o,ho,OLe.refl _⟩
 rw[bK]at hx⊢
 simp only[setB,ab]at hx
 by_cases h:d=t
 ·subst h
  rw[TL rfl]at hx
  rw[hd]
  exact⟨x,hx,H.le.refl _⟩
 ·rw[TK h]at hx
  exact⟨x,hx,H.le.refl _⟩
theorem iG{S:TS V.N}{all:List Oper}{j d:Nat}{v:TV V.N}(h:rO S all j=some (d,v)):gt S.tmps d=some v/\∃o,all[j]?=some o/\o.dst=some d:=by
 unfold rO at h
 split at h
 ·rename_i o ho
  split at h
  ·rename_i d' hd
   split at h
   ·rename_i v' hv
    simp at h;obtain⟨rfl,rfl⟩:=h
    exact⟨hv,o,ho,hd⟩
   ·cases h
  ·cases h
 ·cases h
theorem jb{S:TS V.N}{σ:aa}(hσ:∀t,gt σ.tmps t=gt (aC V S).tmps t){all:List Oper}{j d:Nat}{v:TV V.N}{want b:Bool}(h:rO S all j=some (d,v))
 (hv:v= .lf .bool b\/v= .tup []/\b= !want):ip σ all j want=some b:=by
 obtain⟨h1,o,h2,h3⟩:=iG h
 have hg:σ.get d=ap V S.len v:=by
  unfold aa.get
  rw[hσ,bK,h1];rfl
 unfold ip
 simp only[h2,h3,hg]
 rcases hv with rfl|⟨rfl,rfl⟩
 ·simp[ap,aH]
 ·simp[ap,encL]
theorem c_{S:TS V.N}{te:TE V.N}(h:dW S te=true):(∀d∈te.new,S.fresh d=true)/\∀d∈te.new,d<given:=by
 unfold dW at h
 rw[Qm]at h
 refine⟨λd hd=> ?_,λd hd=> ?_⟩
 ·have:=h d hd
  simp only[Qg]at this
  exact this.1
 ·have:=h d hd
  simp only[Qg,RO]at this
  exact this.2
def Fx(C:Ctx)(pre:Nat->Bool):Prop:=∀p∈C.fix,pre (4000000+p.1)=true
theorem p9{C:Ctx}{pre:Nat->Bool}{o:Oper}(hF:Fx C pre)(h:zy C.N pre o=true):∀d,o.dst=some d->C.wr d:=by
 intro d hd
 unfold zy at h
 rw[hd]at h
 simp only[Qg,RO,Se]at h
 refine⟨h.1,λp hp e=> ?_⟩
 have:=hF p hp
 rw[e,h.2]at this
 cases this
theorem wt(S:TS V.N):good S {val:= .tup []}:=d_ S _ _
theorem IV{C:Ctx}{E:Env}{M:Mem}{S:TS V.N}{o:Oper}{a:Act}{w:World}(hd:∀d,o.dst=some d->C.wr d)(hs:Sim C E M (aC V S) a w):Sim C E M (aC V (S.app o.dst {val:= .tup []})) (a.put o.dst undef) w:=by
 have h1:=hs.app_val (o:=o) hd (e:={val:= .tup []}) rfl GO
 refine Sim.tapp (ex:=false) (e':={val:= .tup []}) (wt S) (λd h=>by cases h) (kf ?_) h1
 simp[ap,encL]
theorem NP{C:Ctx}{nm:Nat->Nat}{call:cy V}{ex:Bool}{o:Oper}{S:TS V.N}{A:Type}{k:TS V.N->Option A}{r:A}{E:Env}{M:Mem}{a:Act}{w:World}{K:Act->World->Prop}{Q:Exit->Act->World->Prop}
 (hcall:aZ C.P call)(hd:∀d,o.dst=some d->C.wr d)(h:(tx V C.P nm call ex o S λte=>match dW S te with|true=>k (S.app o.dst te)|false=>none)=some r)(hs:Sim C E M (aC V S) a w)
 (hK:∀te E' M' a' w',k (S.app o.dst te)=some r->Sim C E' M' (aC V (S.app o.dst te)) a' w'->K a' w'):o.wp C.P a w K Q:=by
 have hnew:∀te:TE V.N,(match dW S te with|true=>k (S.app o.dst te)|false=>none)=some r->dW S te=true/\k (S.app o.dst te)=some r:=by
  intro te h
  cases hq:dW S te with
  |true=>rw[hq]at h;exact⟨rfl,h⟩
  |false=>rw[hq]at h;cases h
 obtain⟨te,h1,h2,h3⟩:=wv hcall (λte hte=>(c_ (hnew te hte).1).1) h
 obtain⟨hn,hk⟩:=hnew te h1
 obtain⟨f1,f2⟩:=c_ hn
 refine si hd E M (aC V S) a w K Q (λe=>ELe ex e (fw (S.app o.dst te).len te)) hs (lS (λe he=>⟨λd hd=> ?_,he⟩) h3) λe E' M' a' w' he hs'=>hK te E' M' a' w' hk (Sim.tapp h2 f1 he hs')
 have hd:d∈te.new:=by rw[he.new]at hd;exact hd
 exact⟨dD (f1 d hd),f2 d hd⟩
theorem EV{C:Ctx}{nm:Nat->Nat}{pre:Nat->Bool}{o:Oper}{S:TS V.N}{A:Type}{k:TS V.N->Option A}{r:A}{E:Env}{M:Mem}{a:Act}{w:World}{K:Act->World->Prop}{Q:Exit->Act->World->Prop}
 (hd:∀d,o.dst=some d->C.wr d)(h:(tdX V C.P nm pre o S λte=>match dW S te with|true=>k (S.app o.dst te)|false=>none)=some r)(hs:Sim C E M (aC V S) a w)
 (hK:∀te E' M' a' w',k (S.app o.dst te)=some r->Sim C E' M' (aC V (S.app o.dst te)) a' w'->K a' w'):o.wp C.P a w K Q:=by
 have hnew:∀te:TE V.N,(match dW S te with|true=>k (S.app o.dst te)|false=>none)=some r->dW S te=true/\k (S.app o.dst te)=some r:=by
  intro te h
  cases hq:dW S te with
  |true=>rw[hq]at h;exact⟨rfl,h⟩
  |false=>rw[hq]at h;cases h
 obtain⟨te,h1,h2,e',h3,h4⟩:=sU (λte hte=>(c_ (hnew te hte).1).1) h
 obtain⟨hn,hk⟩:=hnew te h1
 obtain⟨f1,f2⟩:=c_ hn
 refine h3.ok hd hs (λd hd=> ?_) λE' M' a' w' hs'=>hK te E' M' a' w' hk (Sim.tapp h2 f1 h4 hs')
 have hd:d∈te.new:=by rw[h4.new]at hd;exact hd
 exact⟨dD (f1 d hd),f2 d hd⟩
theorem rY{α β:Type}(f:α->β):∀(l:List α) (i:Nat),(l.eraseIdx i).map f=(l.map f).eraseIdx i
 |[],_=>rfl
 |_::_,0=>rfl
 |x::r,i+1=>by simp[S_,rY f r i]
theorem E5{C:Ctx}{nm:Nat->Nat}{o:Oper}{S:TS V.N}{A:Type}{k:TS V.N->Option A}{r:A}{E:Env}{M:Mem}{a:Act}{w:World}{K:Act->World->Prop}{Q:Exit->Act->World->Prop}{x:Operand}
 (ho:o.op= .next x false)(hd:∀d,o.dst=some d->C.wr d)(h:(IJ V x S λte=>match dW S te with|true=>k (S.app o.dst te)|false=>none)=some r)(hs:Sim C E M (aC V S) a w)
 (hK:∀te E' M' a' w',k (S.app o.dst te)=some r->Sim C E' M' (aC V (S.app o.dst te)) a' w'->K a' w'):o.wp C.P a w K Q:=by
 have hnew:∀te:TE V.N,(match dW S te with|true=>k (S.app o.dst te)|false=>none)=some r->dW S te=true/\k (S.app o.dst te)=some r:=by
  intro te h
  cases hq:dW S te with
  |true=>rw[hq]at h;exact⟨rfl,h⟩
  |false=>rw[hq]at h;cases h
 have go:∀(te:TE V.N) (e:Eff),(match dW S te with|true=>k (S.app o.dst te)|false=>none)=some r->good S te->ELe false e (fw (S.app o.dst te).len te)->
  (∀d∈e.new,(aC V S).fresh d=true/\d<given)/\∃te,good S te/\(∀d∈te.new,S.fresh d=true)/\ELe false e (fw (S.app o.dst te).len te)/\k (S.app o.dst te)=some r:=by
  intro te e h hg he
  obtain⟨hn,hk⟩:=hnew te h
  obtain⟨f1,f2⟩:=c_ hn
  exact⟨λd hd=>by
   have hd:d∈te.new:=by rw[he.new]at hd;exact hd
   exact⟨dD (f1 d hd),f2 d hd⟩,te,hg,f1,he,hk⟩
 unfold IJ at h
 split at h
 ·rename_i n hx
  split at h
  ·rename_i m tk tv es rest cur hown
   obtain⟨⟨hkey,hlm⟩,h⟩:=aj h
   refine si (nm:=nm) hd E M (aC V S) a w K Q (λe=>∃te,good S te/\(∀d∈te.new,S.fresh d=true)/\ELe false e (fw (S.app o.dst te).len te)/\k (S.app o.dst te)=some r) hs ?_
    λe E' M' a' w' ⟨te,h2,f1,he,hk⟩ hs'=>hK te E' M' a' w' hk (Sim.tapp h2 f1 he hs')
   simp only[aS,ho,an,hx,ap,su hown]
   refine⟨trivial,λhr=> ?_,λi p hp=> ?_⟩
   ·have hr:rest=[]:=by simpa using hr
    subst hr
    simp only[List.isEmpty_nil,TH]at h
    refine go {val:= .tup [.lf .bool false],acc:=[n,m],upd:=[(m, .map tk tv es),(n, .gone 0)]} {val:= .tup [.d (.v (.bool false))],acc:=[n,m],upd:=[(m,some (.map (es.map λp=>(dg V.enc tk p.1,aH V.sz V.enc tv p.2)))),(n,none)]} h (λm' o' hm=> ?_)
     (bo (by simp[ap,encL,aH]) rfl (by simp[a_]) rfl)
    simp only[ab]at hm
    right
    split at hm
    ·rename_i e;simp at hm;subst hm;subst e;simp[TO.len,hlm]
    ·split at hm
     ·rename_i e;simp at hm;subst hm;subst e;simp[TO.len,rT hown]
     ·simp[gt]at hm
   ·rw[Qc,Qn]at hp
    obtain⟨q,hq,rfl⟩:=hp
    have hne:rest.isEmpty=false:=by cases rest with|nil=>simp at hq|cons a r=>rfl
    rw[TK (by simp[hne]),wH]at h
    have h:=h.2 _ (B6 hq)
    refine go {val:= .tup [.lf .bool true, .lf tk q.1, .lf tv q.2],acc:=[n],upd:=[(n, .miter m tk tv es (rest.eraseIdx i) (some q))]}
     {val:= .tup [.d (.v (.bool true)), .d (.v (dg V.enc tk q.1)), .d (aH V.sz V.enc tv q.2)],acc:=[n],upd:=[(n,some (.miter m (es.map λp=>(dg V.enc tk p.1,aH V.sz V.enc tv p.2)) ((rest.map λp=>(dg V.enc tk p.1,aH V.sz V.enc tv p.2)).eraseIdx i) (some (dg V.enc tk q.1,aH V.sz V.enc tv q.2))))]} h (λm' o' hm=> ?_)
     (bo (by simp only[ap,encL,Ac hkey];rfl) rfl (by simp[a_,rY]) rfl)
    simp only[ab]at hm
    right
    split at hm
    ·rename_i e;simp at hm;subst hm;subst e;simp[TO.len,rT hown]
    ·simp[gt]at hm
  ·cases h
 ·cases h
theorem B5{S:TS V.N}{t:Nat}{v v':TV V.N}(ht:gt S.tmps t=some v)(h:H.le (ap V S.len v) (ap V S.len v')):Ent (aC V S) (aC V {S with tmps:=(t,v')::S.tmps}):=
 Ent.le (λd x hx=>by
  have hl:({S with tmps:=(t,v')::S.tmps}:TS V.N).len=S.len:=rfl
  rw[bK]at hx
  simp only[ab,hl]at hx
  by_cases h1:t=d
  ·subst h1
   rw[TL rfl]at hx
   simp at hx;subst hx
   exact⟨_,by rw[bK,ht];rfl,h⟩
  ·rw[TK h1]at hx
   exact⟨x,by rw[bK];exact hx,H.le.refl _⟩) λn o ho=>⟨o,ho,OLe.refl _⟩
theorem Ba(pre:Nat->Bool)(o:Oper)(S:TS V.N):Ent (aC V S) (aC V (A_ V pre o S)):=by
 unfold A_
 split
 ·exact c7 _ S
 ·exact c7 _ S
 ·exact c7 _ S
 ·split
  ·exact c7 _ S
  ·exact Ent.refl _
 ·split
  ·split
   ·exact c7 _ S
   ·exact c7 _ S
   ·exact Ent.refl _
  ·split
   ·split
    ·exact c7 _ S
    ·rename_i ht _
     refine B5 ht ?_
     simp only[ap,br,aH,QO]
     exactλE M v h=>by rw[h.dv];exact .d (.slmt _ _ _)
    ·rename_i ht _
     refine B5 ht ?_
     simp only[ap,br,aH,QO]
     exactλE M v h=>by rw[h.dv];exact .d (.slnil _)
    ·exact Ent.refl _
   ·exact Ent.refl _
  ·exact Ent.refl _
 ·exact Ent.refl _
theorem K_{C:Ctx}{nm:Nat->Nat}{call:cy V}{pre:Nat->Bool}{o:Oper}{S:TS V.N}{A:Type}{k:TS V.N->Option A}{r:A}{E:Env}{M:Mem}{a:Act}{w:World}{K:Act->World->Prop}{Q:Exit->Act->World->Prop}
 (hcall:aZ C.P call)(hd:∀d,o.dst=some d->C.wr d)(h:txo V C.P nm call pre o S k=some r)(hs:Sim C E M (aC V S) a w)
 (hK:∀S' E' M' a' w',k S'=some r->Sim C E' M' (aC V S') a' w'->K a' w'):o.wp C.P a w K Q:=by
 unfold txo at h
 split at h
 ·rename_i x hx
  exact E5 (nm:=nm) hx hd h hs λte E' M' a' w' hk hs'=>hK _ E' M' a' w' hk hs'
 ·obtain⟨S1,h,he⟩:=xd h
  obtain⟨E,M,hs⟩:=he C E M a w hs
  split at h
  ·exact EV hd h hs λte E' M' a' w' hk hs'=>hK _ E' M' a' w' hk hs'
  ·obtain⟨_,_,hs1⟩:=Ba pre o S1 C E M a w hs
   exact NP hcall hd h hs1 λte E' M' a' w' hk hs'=>hK _ E' M' a' w' hk hs'
theorem oc{C:Ctx}{nm:Nat->Nat}{call:cy V}{pre:Nat->Bool}{ops:Array Oper}{Q:Exit->Act->World->Prop}{A:Type}{r:A}(hcall:aZ C.P call)(hF:Fx C pre):∀(l:List Oper) (i:Nat) (S:TS V.N) (k:TS V.N->Option A) (E:Env) (M:Mem) (a:Act) (w:World),
 ops.toList.drop i=l->txs V C.P C.N nm call pre ops.toList l S k=some r->Sim C E M (aC V S) a w->(∀S' E' M' a' w',k S'=some r->Sim C E' M' (aC V S') a' w'->Q .normal a' w')->
 wpOps C.P ops Q ((RA l.length).map (i+ ·)) a w
 |[],i,S,k,E,M,a,w,_,h,hs,hQ=>by
  simp only[txs]at h
  simpa[wpOps]using hQ S E M a w h hs
 |o::os,i,S,k,E,M,a,w,hl,h,hs,hQ=>by
  have hi:ops[i]?=some o:=by
   have:(ops.toList.drop i)[0]?=some o:=by rw[hl];rfl
   simpa using this
  have hl':ops.toList.drop (i+1)=os:=by
   rw[<-List.tail_drop,hl];rfl
  have hlist:(RA (o::os).length).map (i+ ·)=i::(RA os.length).map (i+1+ ·):=by
   simp only[Qz,List.range_succ_eq_map,Qj,QA,Q5]
   congr 1
   apply QE
   intro x _
   simp;omega
  rw[hlist]
  simp only[txs,rH]at h
  split at h
  ·cases h
  rename_i hdst
  have run:∀(S:TS V.N),Sim C E M (aC V S) a w->(txo V C.P nm call pre o S λS'=>txs V C.P C.N nm call pre ops.toList os S' k)=some r->
   o.wp C.P a w (wpOps C.P ops Q ((RA os.length).map (i+1+ ·))) Q:=λS hs h=>
   K_ (k:=λS'=>txs V C.P C.N nm call pre ops.toList os S' k) hcall (p9 hF hdst) h hs λS' E' M' a' w' hk hs'=>oc hcall hF os (i+1) _ k E' M' a' w' hl' hk hs' hQ
  have off:∀(S:TS V.N),Sim C E M (aC V S) a w->txs V C.P C.N nm call pre ops.toList os (S.app o.dst {val:= .tup []}) k=some r->
   wpOps C.P ops Q ((RA os.length).map (i+1+ ·)) (a.put o.dst undef) w:=λS hs h=>
   oc hcall hF os (i+1) _ k E M _ w hl' h (IV (p9 hF hdst) hs) hQ
  simp only[wpOps,hi]
  cases hg:o.guard with
  |none=>
   simp only[hg]at h
   rw[TL (by simp[Region.wanted,hg])]
   exact .inl (run S hs h)
  |some g=>
   obtain⟨j,want⟩:=g
   simp only[hg]at h
   split at h
   ·rename_i d b hgv
    have hb:=jb (V:=V) (S:=S) (σ:=aC V S) (λt=>rfl) (want:=want) hgv (.inl rfl)
    have hy:=hs.guard hb
    have hgt:=(iG hgv).1
    cases b with
    |true=>
     rw[TL rfl]at h
     have hs':=qR hgt hs
     cases want with
     |true=>
      rw[TL (by simp[Region.wanted,hg,hy])]
      exact .inl (run _ hs' h)
     |false=>
      rw[TK (by simp[Region.wanted,hg,hy])]
      exact off _ hs' h
    |false=>
     rw[TK (by simp)]at h
     have hs':=qR hgt hs
     cases want with
     |false=>
      rw[TL (by simp[Region.wanted,hg,hy])]
      exact .inl (run _ hs' h)
     |true=>
      rw[TK (by simp[Region.wanted,hg,hy])]
      exact off _ hs' h
   ·rename_i d hgv
    have hb:=jb (V:=V) (S:=S) (σ:=aC V S) (λt=>rfl) (want:=want) hgv (.inr ⟨rfl,rfl⟩)
    have hy:=hs.guard hb
    rw[TK (by cases want<;>simp[Region.wanted,hg,hy])]
    exact off _ hs h
   ·cases h
structure Rl (σ:aa) (S:TS V.N):Prop where
 tmp:∀t,gt σ.tmps t=gt (aC V S).tmps t
 own:∀n,σ.own? n=(aC V S).own? n
 fresh:∀d,S.fresh d=true->σ.fresh d=true
theorem Rl.refl(S:TS V.N):Rl (aC V S) S:=⟨λ_=>rfl,λ_=>rfl,λ_ h=>dD h⟩
theorem Rl.ent{σ:aa}{S:TS V.N}(h:Rl σ S):Ent σ (aC V S):=Ent.le (λt x hx=>⟨x,by rw[h.tmp];exact hx,H.le.refl _⟩) λn o ho=>⟨o,by rw[h.own];exact ho,OLe.refl _⟩
theorem Rl.setB{σ:aa}{S:TS V.N}(h:Rl σ S){d:Nat}{b:Bool}(hd:gt S.tmps d=some (.lf .bool b)):Rl σ (setB S d b)where
 tmp:=λt=>by
  rw[h.tmp,bK,bK]
  simp only[Tx.setB,ab]
  by_cases e:d=t
  ·subst e;rw[TL rfl,hd];simp[ap]
  ·rw[TK e];rfl
 own:=λn=>h.own n
 fresh:=λn hn=>h.fresh n (by
  unfold TS.fresh at hn⊢
  simp only[Qg]at hn⊢
  refine⟨⟨hn.1.1,?_⟩,hn.2⟩
  have:=hn.1.2
  simp only[Tx.setB,Rb,Qg]at this
  exact this.2)
theorem Rl.app{σ:aa}{S:TS V.N}(h:Rl σ S){dst:Option Tmp}{te:TE V.N}(hg:good S te)(hn:∀d∈te.new,S.fresh d=true):Rl (σ.app dst (fw (S.app dst te).len te)) (S.app dst te)where
 tmp:=λt=>by
  rw[(p_ (dst:=dst) hg hn).1]
  simp only[aa.app,lq]
  cases dst with
  |none=>exact h.tmp t
  |some d=>simp only[ab];rw[h.tmp]
 own:=λn=>by
  rw[(p_ (dst:=dst) hg hn).2]
  have:=h.own n
  unfold aa.own? at this⊢
  simp only[aa.app,dO]
  cases gt (fw (S.app dst te).len te).upd n with
  |some o=>rfl
  |none=>exact this
 fresh:=λn hn'=>by
  unfold TS.fresh at hn'
  simp only[Qg]at hn'
  obtain⟨⟨f1,f2⟩,f3⟩:=hn'
  have hu:gt te.upd n=none:=by
   rw[lB]at f1
   cases hq:gt te.upd n with
   |none=>rfl
   |some o=>rw[hq]at f1;cases f1
  have hs:S.fresh n=true:=by
   unfold TS.fresh
   simp only[Qg]
   refine⟨⟨?_,?_⟩,?_⟩
   ·rw[lB,hu]at f1;exact f1
   ·rw[Qm]at f2⊢
    intro p hp
    refine f2 p ?_
    unfold TS.app Lu
    cases dst with
    |none=>exact hp
    |some d=>exact Qd _ hp
   ·rw[Qm]at f3⊢
    exactλp hp=>f3 p (RU _ hp)
  have hσ:=h.fresh n hs
  unfold aa.fresh at hσ⊢
  simp only[Qg]at hσ⊢
  obtain⟨⟨g1,g2⟩,g3⟩:=hσ
  refine⟨⟨?_,?_⟩,?_⟩
  ·have hq:gt (fw (S.app dst te).len te).upd n=none:=by simp only[fw,fC,hu];rfl
   unfold aa.own? at g1⊢
   simp only[aa.app,dO,hq]
   exact g1
  ·simp only[aa.app,lq]
   cases dst with
   |none=>exact g2
   |some d=>
    rw[Rb,Qg]
    refine⟨?_,g2⟩
    rw[Qm]at f2
    have:=f2 (d,te.val) (by simp[TS.app,Lu])
    simpa[fw,g5]using this
  ·simp only[aa.app,List.all_append,Qg]
   refine⟨?_,g3⟩
   rw[Qm]at f3⊢
   intro p hp
   simp only[fw,QG]at hp
   obtain⟨q,hq,rfl⟩:=hp
   have:=f3 q (Rx _ hq)
   simp only
   cases ho:a_ V (S.app dst te).len q.2 with
   |none=>rfl
   |some o=>simp only[i8 _ n ho];exact this
theorem Rl.tup{σ:aa}{S:TS V.N}(h:Rl σ S){dst:Option Tmp}:Rl (σ.app dst {val:= .tup []}) (S.app dst {val:= .tup []}):=by
 have:=h.app (dst:=dst) (te:={val:= .tup []}) (wt S) λd h=>by cases h
 simpa[fw,ap,encL]using this
theorem Cn{P:Program}{nm:Nat->Nat}{call:cy V}{pre:Nat->Bool}{o:Oper}{S:TS V.N}{A:Type}{k:TE V.N->Option A}{r:A}(hcall:aZ P call)(hf:∀te,k te=some r->∀d∈te.new,S.fresh d=true)(h:txq V P nm call pre o S k=some r):
 ∃te,k te=some r/\good S te/\s_ P nm o (ev (aC V S)) (aC V S).own? λe=>ELe true e (fw (S.app o.dst te).len te):=by
 unfold txq at h
 split at h
 ·obtain⟨te,h1,h2,e',h3,h4⟩:=sU hf h
  exact⟨te,h1,h2, .inr ⟨e',h3,h4⟩⟩
 ·obtain⟨te,h1,h2,h3⟩:=wv hcall hf h
  exact⟨te,h1,h2, .inl h3⟩
theorem ob{P:Program}{n:Nat}{W:Nat->Prop}{nm:Nat->Nat}{call:cy V}{pre:Nat->Bool}{all:List Oper}{A:Type}{r:A}(hcall:aZ P call)(hW:∀o,zy n pre o=true->∀d,o.dst=some d->W d):∀(l:List Oper) (S:TS V.N) (σ:aa) (tr:List Tr1) (k:TS V.N->List Tr1->Option A),
 txd V P n nm call pre all l S tr k=some r->Rl σ S->ie P W nm all l σ tr λσ' tr'=>∃S',Rl σ' S'/\k S' tr'=some r
 |[],S,σ,tr,k,h,hr=>by
  simp only[txd]at h
  exact⟨S,hr,h⟩
 |o::os,S,σ,tr,k,h,hr=>by
  simp only[txd,rH]at h
  split at h
  ·cases h
  rename_i hdst
  split at h
  ·cases h
  rename_i hdet
  have run:∀(S:TS V.N),Rl σ S->(txq V P nm call pre o S λte=>match dW S te with|true=>txd V P n nm call pre all os (S.app o.dst te) (tr++[⟨fw (S.app o.dst te).len te,true⟩]) k|false=>none)=some r->
   s_ P nm o (ev σ) σ.own? λe=>(∀d∈e.new,σ.fresh d=true/\d<given)/\ie P W nm all os (σ.app o.dst e) (tr++[⟨e,true⟩]) λσ' tr'=>∃S',Rl σ' S'/\k S' tr'=some r:=by
   intro S hr h
   have hnew:∀te:TE V.N,(match dW S te with|true=>txd V P n nm call pre all os (S.app o.dst te) (tr++[⟨fw (S.app o.dst te).len te,true⟩]) k|false=>none)=some r->
    dW S te=true/\txd V P n nm call pre all os (S.app o.dst te) (tr++[⟨fw (S.app o.dst te).len te,true⟩]) k=some r:=by
    intro te h
    cases hq:dW S te with
    |true=>rw[hq]at h;exact⟨rfl,h⟩
    |false=>rw[hq]at h;cases h
   obtain⟨te,h1,h2,h3⟩:=Cn hcall (λte hte=>(c_ (hnew te hte).1).1) h
   obtain⟨hn,hk⟩:=hnew te h1
   obtain⟨f1,f2⟩:=c_ hn
   have e1:ev σ=ev (aC V S):=by
    funext x
    cases x with
    |tmp t=>simp only[ev,aa.get,hr.tmp]
    |_=>rfl
   have e2:σ.own?=(aC V S).own?:=funext hr.own
   rw[e1,e2]
   refine iV (λe he=> ?_) h3
   have he':e=fw (S.app o.dst te).len te:=by
    obtain⟨q1,q2,q3⟩:=he.eq rfl
    have q4:=he.new
    cases e
    simp only at q1 q2 q3 q4
    subst q1;subst q2;subst q3;subst q4;rfl
   subst he'
   exact⟨λd hd=>⟨hr.fresh d (f1 d hd),f2 d hd⟩,ob hcall hW os _ _ _ k hk (hr.app h2 f1)⟩
  have off:∀(S:TS V.N),Rl σ S->txd V P n nm call pre all os (S.app o.dst {val:= .tup []}) (tr++[⟨{val:= .tup []},false⟩]) k=some r->
   ie P W nm all os (σ.app o.dst {val:= .tup []}) (tr++[⟨{val:= .tup []},false⟩]) λσ' tr'=>∃S',Rl σ' S'/\k S' tr'=some r:=λS hr h=>
   ob hcall hW os _ _ _ k h hr.tup
  simp only[ie]
  refine⟨⟨hW o hdst,hdet⟩,?_⟩
  cases hg:o.guard with
  |none=>
   simp only[hg]at h
   exact run S hr h
  |some g=>
   obtain⟨j,want⟩:=g
   simp only[hg]at h
   split at h
   ·rename_i d b hgv
    have hb:=jb (V:=V) (S:=S) (σ:=σ) hr.tmp (want:=want) hgv (.inl rfl)
    have hgt:=(iG hgv).1
    simp only[hb]
    cases b with
    |true=>
     rw[TL rfl]at h
     have hr':=hr.setB hgt
     cases want with
     |true=>exact⟨λ_=>run _ hr' h,λe=>by simp at e⟩
     |false=>exact⟨λe=>by simp at e,λ_=>off _ hr' h⟩
    |false=>
     rw[TK (by simp)]at h
     have hr':=hr.setB hgt
     cases want with
     |false=>exact⟨λ_=>run _ hr' h,λe=>by simp at e⟩
     |true=>exact⟨λe=>by simp at e,λ_=>off _ hr' h⟩
   ·rename_i d hgv
    have hb:=jb (V:=V) (S:=S) (σ:=σ) hr.tmp (want:=want) hgv (.inr ⟨rfl,rfl⟩)
    simp only[hb]
    exact⟨λe=>by cases want<;>simp at e,λ_=>off _ hr h⟩
   ·cases h
end
end Go.Tx
end
section
namespace Go.Tx
open Go.Awp
variable [Inhabited GMem]
inductive Alt where
 |norm
 |ret
 |exit (id:Nat)
 deriving DecidableEq
section
variable (V:gu)
structure aE where
 exits:Nat->Cut V.ι:=λ_=>⟨[],[]⟩
 rcut:Cut V.ι
variable {V}
def bZ(sh:aE V)(jt:List (Ty V.ι)):Alt->List (Ty V.ι)
 | .norm=>jt
 | .ret=>sh.rcut.tys
 | .exit id=>(sh.exits id).tys
def lW(E:Alt->List (Ty V.ι)):List Alt->Type
 |[]=>Empty
 |[a]=>HL V.N (E a)
 |a::b::r=>HL V.N (E a)⊕lW E (b::r)
def inj(E:Alt->List (Ty V.ι)):(alts:List Alt)->(a:Alt)->HL V.N (E a)->Option (lW E alts)
 |[],_,_=>none
 |[b],a,v=>if h:a=b then some (h▸v)else none
 |b::c::r,a,v=>if h:a=b then some (.inl (h▸v))else match inj E (c::r) a v with
  |some o=>some (.inr o)
  |none=>none
def oV(E:Alt->List (Ty V.ι)){A:Type}:(alts:List Alt)->lW E alts->((a:Alt)->HL V.N (E a)->Option A)->Option A
 |[],_,_=>none
 |[a],v,f=>f a v
 |a::b::r,o,f=>match o with
  | .inl v=>f a v
  | .inr o'=>oV E (b::r) o' f
theorem cQ{E:Alt->List (Ty V.ι)}{A:Type}{f:(a:Alt)->HL V.N (E a)->Option A}:∀{alts:List Alt} {a:Alt} {v:HL V.N (E a)} {o:lW E alts},inj E alts a v=some o->oV E alts o f=f a v
 |[],a,v,o,h=>by simp[inj]at h
 |[b],a,v,o,h=>by
  simp only[inj]at h
  split at h
  ·rename_i e;subst e;cases h;rfl
  ·cases h
 |b::c::r,a,v,o,h=>by
  simp only[inj]at h
  split at h
  ·rename_i e;subst e;cases h;rfl
  ·split at h
   ·rename_i o' ho
    cases h
    show oV E (c::r) o' f=f a v
    exact cQ (f:=f) ho
   ·cases h
variable (V)
structure lc (sh:aE V)where
 cut:Cut V.ι
 alts:List Alt
 F:HL V.N cut.tys->Option (lW (bZ sh []) alts)
structure Xc where
 P:Program
 n:Nat
 nm:Nat->Nat:=id
 call:cy V
 pre:Nat->Bool:=λ_=>false
 sh:aE V
 joins:Nat->Option (Cut V.ι×List Alt):=λ_=>none
 regs:Nat->Option (Cut V.ι):=λ_=>none
 loops:Nat->Option (lc V sh):=λ_=>none
 pair:Nat->PT:=λ_=> .leaf
 jumps:Nat->Option (Nat×lc V sh):=λ_=>none
def bH:Code->Nat
 | .region id _ _=>id
 | .seq a b=>if bH a=1000000 then bH b else bH a
 | .block _ x=>bH x
 | .cond _ a b=>if bH a=1000000 then bH b else bH a
 | .loop b=>bH b
 | .scope b=>bH b
 |_=>1000000
variable {V}
noncomputable def LC{A:Type}(x y:Option A):Option A:=by classical exact if x=y then x else none
theorem yQ{A:Type}{x y:Option A}{r:A}(h:LC x y=some r):x=some r/\y=some r:=by
 unfold LC at h
 split at h
 ·rename_i e;exact⟨h,e▸h⟩
 ·cases h
def Mf(X:Xc V){A:Type}(ops:Array Oper)(S:TS V.N)(k:TS V.N->Option A):Option A:=
 txd V X.P X.n X.nm X.call X.pre ops.toList ops.toList S [] λS' tr=>match vo ops.toList tr with
  |true=>k S'
  |false=>none
def v7(i j n:Nat):Bool:= !Q0 i j&&RB i n&&RB j n
noncomputable def Kq(X:Xc V){A:Type}(S:TS V.N)(k:TS V.N->Option A):PT->Array Oper->Option A
 | .leaf,ops=>Mf X ops S k
 | .node i j a b,ops=>match v7 i j ops.size with
  |true=>LC (Kq X S k a (dT i i i j ops)) (Kq X S k b (dT i j j i ops))
  |false=>none
noncomputable def Kr(X:Xc V){A:Type}(id:Nat)(ops:Array Oper)(draw:Bool)(S:TS V.N)(k:TS V.N->Option A):Option A:=match draw with
 |false=>txs V X.P X.n X.nm X.call X.pre ops.toList ops.toList S k
 |true=>Kq X S k (X.pair id) ops
def ny{A:Type}(ke:Nat->TS V.N->Option A):Nat->TS V.N->Option A:=λid S=>match RB id 1000000 with
 |true=>ke id S
 |false=>none
noncomputable def ex(X:Xc V):Code->(A:Type)->TS V.N->(TS V.N->Option A)->(Nat->TS V.N->Option A)->(HL V.N X.sh.rcut.tys->Option A)->Option A
 | .skip,_,S,kn,_,_=>kn S
 | .ret,_,S,_,_,kr=>match zH V X.sh.rcut S with
  |some v=>kr v
  |none=>none
 | .exit id,_,S,_,ke,_=>ny ke id S
 | .goto l,_,S,_,ke,_=>ke (1000000+l) S
 | .label _,_,S,kn,_,_=>kn S
 | .seq x y,A,S,kn,ke,kr=>match X.joins (bH y)with
  |none=>ex X x A S (λS'=>ex X y A S' kn ke kr) ke kr
  |some (cut,alts)=>
   ex X x (lW (bZ X.sh cut.tys) alts) S
    (λS'=>match zH V cut S' with
      |some v=>inj (bZ X.sh cut.tys) alts .norm v
      |none=>none)
    (λid S'=>match zH V (X.sh.exits id) S' with
      |some v=>inj (bZ X.sh cut.tys) alts (.exit id) v
      |none=>none)
    (λv=>inj (bZ X.sh cut.tys) alts .ret v)>>=λout=>
   oV (bZ X.sh cut.tys) alts out λa=>match a with
    | .norm=>λv=>ex X y A (fz V cut v) kn ke kr
    | .ret=>λv=>kr v
    | .exit id=>λv=>ke id (fz V (X.sh.exits id) v)
 | .block id x,A,S,kn,ke,kr=>match RB id 1000000 with
  |true=>ex X x A S kn (λid' S'=>if id'=id then kn S' else ke id' S') kr
  |false=>none
 | .cond c x y,A,S,kn,ke,kr=>match c with
  | .tmp t=>match gt S.tmps t with
   |some (.lf .bool b)=>if b=true then ex X x A (setB S t true) kn ke kr else ex X y A (setB S t false) kn ke kr
   |_=>none
  | .const (.bool b)=>match b with
   |true=>ex X x A S kn ke kr
   |false=>ex X y A S kn ke kr
  |_=>none
 | .region id ops draw,_,S,kn,_,_=>match X.regs id with
  |none=>Kr X id ops draw S kn
  |some cut=>(Kr X id ops draw S λS'=>zH V cut S')>>=λv=>kn (fz V cut v)
 | .scope c,A,S,kn,ke,kr=>match X.jumps (bH c)with
  |none=>ex X c A S kn (ny ke) kr
  |some (l,la)=>ex X c A S kn (λid S'=>match Q0 id (1000000+l)with
   |true=>match zH V la.cut S' with
    |none=>none
    |some v=>la.F v>>=λout=>oV (bZ X.sh []) la.alts out λa=>match a with
     | .norm=>λ_=>none
     | .ret=>λv=>kr v
     | .exit id=>λv=>ke id (fz V (X.sh.exits id) v)
   |false=>ny ke id S') kr
 | .loop b,_,S,_,ke,kr=>match X.loops (bH b)with
  |none=>none
  |some la=>match zH V la.cut S with
   |none=>none
   |some v=>la.F v>>=λout=>oV (bZ X.sh []) la.alts out λa=>match a with
    | .norm=>λ_=>none
    | .ret=>λv=>kr v
    | .exit id=>λv=>ke id (fz V (X.sh.exits id) v)
 |_,_,_,_,_,_=>none
noncomputable def exL(X:Xc V)(b:Code)(cut:Cut V.ι)(alts:List Alt)(F:HL V.N cut.tys->Option (lW (bZ X.sh []) alts))(v:HL V.N cut.tys):Option (lW (bZ X.sh []) alts):=
 ex X b _ (fz V cut v)
  (λS'=>match zH V cut S' with
    |some v=>F v
    |none=>none)
  (ny λid S'=>match zH V (X.sh.exits id) S' with
    |some v=>inj (bZ X.sh []) alts (.exit id) v
    |none=>none)
  (λv=>inj (bZ X.sh []) alts .ret v)
def s9(C:Ctx)(c:Code)(S:aa)(Q:Exit->aa->Prop):Prop:=
 ∀(E:Env) (M:Mem) (a:Act) (w:World),Sim C E M S a w->∀(b:Frame) (k:List Item) (cs:List Frame),
  ∃e a' w',(∃S' E' M',Q e S'/\Sim C E' M' S' a' w')/\Arrives C.P (lone (b.at a (.code c:: .inLoop c::k)) cs w) b k cs e a' w'
theorem s9.loop{C:Ctx}{c:Code}{S:aa}{Q:Exit->aa->Prop}(h:s9 C c S Q):AWp C (.loop c) S Q:=λE M a w hs b k cs=>
 let⟨e,a',w',hq,harr⟩:=h E M a w hs b k cs
 ⟨e,a',w',hq, .of_steps (.one step_loop) harr⟩
theorem s9.ent{C:Ctx}{c:Code}{S S':aa}{Q:Exit->aa->Prop}(he:Ent S S')(h:s9 C c S' Q):s9 C c S Q:=λE M a w hs=>
 let⟨E',M',hs'⟩:=he C E M a w hs
 h E' M' a w hs'
theorem s9.round{C:Ctx}{c:Code}{S:aa}{Q:Exit->aa->Prop}(h:AWp C c S (J0 (λS'=>s9 C c S' Q) Q)):s9 C c S Q:=by
 intro E M a w hs b k cs
 obtain⟨e,a₁,w₁,⟨S₁,E₁,M₁,hq,hs₁⟩,harr⟩:=h E M a w hs b (.inLoop c::k) cs
 cases e with
 |normal=>
  obtain⟨e₂,a₂,w₂,hq₂,harr₂⟩:=hq E₁ M₁ a₁ w₁ hs₁ b k cs
  exact⟨e₂,a₂,w₂,hq₂, .of_steps (Steps.trans harr (.one step_inLoop)) harr₂⟩
 |exit id=>exact⟨_,a₁,w₁,⟨S₁,E₁,M₁,hq,hs₁⟩, .pass (x:= .inLoop c) rfl (λ_ _=> .inl (by simp)) harr⟩
 |goto l=>exact⟨_,a₁,w₁,⟨S₁,E₁,M₁,hq,hs₁⟩, .pass (x:= .inLoop c) rfl (λ_ _=> .inl (by simp)) harr⟩
 |ret=>exact⟨_,a₁,w₁,⟨S₁,E₁,M₁,hq,hs₁⟩, .pass (x:= .inLoop c) rfl (λ_ _=> .inl (by simp)) harr⟩
 |panic ch=>exact⟨_,a₁,w₁,⟨S₁,E₁,M₁,hq,hs₁⟩, .pass (x:= .inLoop c) rfl (λ_ _=> .inl (by simp)) harr⟩
 |outgrown=>exact⟨_,a₁,w₁,⟨S₁,E₁,M₁,hq,hs₁⟩, .pass (x:= .inLoop c) rfl (λ_ _=> .inl (by simp)) harr⟩
def FP(C:Ctx)(x rest:Code)(S:aa)(Q:Exit->aa->Prop):Prop:=
 ∀(E:Env) (M:Mem) (a:Act) (w:World),Sim C E M S a w->∀(b:Frame) (k:List Item) (cs:List Frame),
  ∃e a' w',(∃S' E' M',Q e S'/\Sim C E' M' S' a' w')/\Arrives C.P (lone (b.at a (.code rest:: .inScope x::k)) cs w) b k cs e a' w'
def LV(l:Nat)(J:aa->Prop)(Q:Exit->aa->Prop):Exit->aa->Prop
 | .goto l',S=>l'=l/\J S
 |e,S=>Q e S
theorem FP.ent{C:Ctx}{x rest:Code}{S S':aa}{Q:Exit->aa->Prop}(he:Ent S S')(h:FP C x rest S' Q):FP C x rest S Q:=λE M a w hs=>
 let⟨E',M',hs'⟩:=he C E M a w hs
 h E' M' a w hs'
theorem FP.mono{C:Ctx}{x rest:Code}{S:aa}{Q Q':Exit->aa->Prop}(h:FP C x rest S Q)(hq:∀e S,Q e S->Q' e S):FP C x rest S Q':=λE M a w hs b k cs=>
 let⟨e,a',w',⟨S',E',M',hq',hs'⟩,harr⟩:=h E M a w hs b k cs
 ⟨e,a',w',⟨S',E',M',hq e S' hq',hs'⟩,harr⟩
theorem lY{C:Ctx}{x rest:Code}{l:Nat}{S:aa}{Q:Exit->aa->Prop}(hf:findLabel x l=some rest)(h:AWp C x S (LV l (λS'=>FP C x rest S' Q) Q)):AWp C (.scope x) S Q:=by
 intro E M a w hs b k cs
 have hg:gotoIn l (.inScope x::k)=some (.code rest:: .inScope x::k):=by simp[gotoIn,hf]
 obtain⟨e,a₁,w₁,⟨S₁,E₁,M₁,hq,hs₁⟩,harr⟩:=h E M a w hs b (.inScope x::k) cs
 cases e with
 |normal=>exact⟨.normal,a₁,w₁,⟨S₁,E₁,M₁,hq,hs₁⟩, .head step_scope (Steps.trans harr (.one step_inScope))⟩
 |exit id=>exact⟨.exit id,a₁,w₁,⟨S₁,E₁,M₁,hq,hs₁⟩,λk' hk=> .head step_scope (harr k' (by simp[exitTo,hk]))⟩
 |goto l'=>
  obtain⟨rfl,hJ⟩:=hq
  obtain⟨e₂,a₂,w₂,hq₂,harr₂⟩:=hJ E₁ M₁ a₁ w₁ hs₁ b k cs
  exact⟨e₂,a₂,w₂,hq₂, .of_steps (.head step_scope (harr _ hg)) harr₂⟩
 |ret=>exact⟨_,a₁,w₁,⟨S₁,E₁,M₁,hq,hs₁⟩, .of_steps (.one step_scope) harr⟩
 |panic ch=>exact⟨_,a₁,w₁,⟨S₁,E₁,M₁,hq,hs₁⟩, .of_steps (.one step_scope) harr⟩
 |outgrown=>exact⟨_,a₁,w₁,⟨S₁,E₁,M₁,hq,hs₁⟩, .of_steps (.one step_scope) harr⟩
theorem pZ(l:Nat):RB (1000000+l) 1000000=false:=by
 cases h:RB (1000000+l) 1000000 with
 |false=>rfl
 |true=>rw[RO]at h;omega
theorem fc{A:Type}{ke:Nat->TS V.N->Option A}{id:Nat}{S:TS V.N}{r:A}(h:ny ke id S=some r):RB id 1000000=true/\ke id S=some r:=by
 unfold ny at h
 split at h
 ·exact⟨‹_›,h⟩
 ·cases h
theorem iN{A:Type}{ke:Nat->TS V.N->Option A}{l:Nat}{S:TS V.N}{r:A}(h:ny ke (1000000+l) S=some r):False:=by
 have:=(fc h).1
 rw[pZ]at this;cases this
structure Ol (sh:aE V) {A:Type} (kn:TS V.N->Option A) (ke:Nat->TS V.N->Option A) (kr:HL V.N sh.rcut.tys->Option A) (r:A) (Q:Exit->aa->Prop):Prop where
 norm:∀S σ,kn S=some r->Ent σ (aC V S)->Q .normal σ
 exit:∀id S σ,RB id 1000000=true->ke id S=some r->Ent σ (aC V S)->Q (.exit id) σ
 jump:∀l S σ,ke (1000000+l) S=some r->Ent σ (aC V S)->Q (.goto l) σ
 ret:∀v σ,kr v=some r->Ent σ (aC V (fz V sh.rcut v))->Q .ret σ
def CL(sh:aE V)(alts:List Alt)(out:lW (bZ sh []) alts)(e:Exit)(σ:aa):Prop:=match e with
 | .exit id=>RB id 1000000=true/\∃v:HL V.N (sh.exits id).tys,inj (bZ sh []) alts (.exit id) v=some out/\Ent σ (aC V (fz V (sh.exits id) v))
 | .ret=>∃v:HL V.N sh.rcut.tys,inj (bZ sh []) alts .ret v=some out/\Ent σ (aC V (fz V sh.rcut v))
 |_=>False
def ij(C:Ctx)(b:Code){sh:aE V}(la:lc V sh):Prop:=∀v out,la.F v=some out->s9 C b (aC V (fz V la.cut v)) (CL sh la.alts out)
def FS(C:Ctx)(x:Code)(l:Nat){sh:aE V}(la:lc V sh):Prop:=
 ∃rest,findLabel x l=some rest/\∀v out,la.F v=some out->FP C x rest (aC V (fz V la.cut v)) (CL sh la.alts out)
def LOk(C:Ctx)(X:Xc V):Code->Prop
 | .seq x y=>LOk C X x/\LOk C X y
 | .block _ x=>LOk C X x
 | .scope x=>LOk C X x/\∀l la,X.jumps (bH x)=some (l,la)->FS C x l la
 | .cond _ x y=>LOk C X x/\LOk C X y
 | .loop b=>∀la,X.loops (bH b)=some la->ij C b la
 |_=>True
theorem gW{P:Program}{N:Nat->Prop}{nm:Nat->Nat}{all:List Oper}:∀{os:List Oper} {S:aa} {tr:List Tr1} {k k':aa->List Tr1->Prop},(∀S tr,k S tr->k' S tr)->ie P N nm all os S tr k->ie P N nm all os S tr k'
 |[],S,tr,k,k',hk,h=>hk _ _ h
 |o::os,S,tr,k,k',hk,h=>by
  simp only[ie]at h⊢
  obtain⟨hd,h⟩:=h
  refine⟨hd,?_⟩
  cases hg:o.guard with
  |none=>
   simp only[hg]at h⊢
   exact iV (λe ⟨h1,h2⟩=>⟨h1,gW hk h2⟩) h
  |some g=>
   obtain⟨j,want⟩:=g
   simp only[hg]at h⊢
   split at h
   ·exact⟨λe=>iV (λe ⟨h1,h2⟩=>⟨h1,gW hk h2⟩) (h.1 e),λe=>gW hk (h.2 e)⟩
   ·exact h.elim
def OI(Q:Exit->aa->Prop):Exit->aa->Prop
 | .goto _,_=>False
 |e,S=>Q e S
theorem yO{C:Ctx}{c:Code}{S:aa}{Q:Exit->aa->Prop}(h:AWp C c S (OI Q)):AWp C (.scope c) S Q:=λE M a w hs=>
 wp_scope_straight (wp_mono (h E M a w hs) λe a' w'=>by
  rintro⟨S',E',M',hq,hs'⟩
  cases e with
  |goto l=>exact hq.elim
  |_=>exact⟨S',E',M',hq,hs'⟩)
theorem vu{C:Ctx}{X:Xc V}(hP:C.P=X.P)(hn:C.N=X.n/\Fx C X.pre)(hm:X.P.follows .mixedOrders=true)(hcall:aZ X.P X.call):∀(c:Code) (A:Type) (S:TS V.N) (kn:TS V.N->Option A) (ke:Nat->TS V.N->Option A)
 (kr:HL V.N X.sh.rcut.tys->Option A) (r:A) (Q:Exit->aa->Prop),LOk C X c->ex X c A S kn ke kr=some r->Ol X.sh kn ke kr r Q->AWp C c (aC V S) Q:=by
 intro c
 induction c with
 |skip=>intro A S kn ke kr r Q _ h hp;exact .skip (hp.norm S _ h (Ent.refl _))
 |label l=>intro A S kn ke kr r Q _ h hp;exact .label (hp.norm S _ h (Ent.refl _))
 |exit id=>
  intro A S kn ke kr r Q _ h hp
  simp only[ex]at h
  obtain⟨h1,h2⟩:=fc h
  exact .exit (hp.exit id S _ h1 h2 (Ent.refl _))
 |goto l=>intro A S kn ke kr r Q _ h hp;exact .goto (hp.jump l S _ h (Ent.refl _))
 |ret=>
  intro A S kn ke kr r Q _ h hp
  simp only[ex]at h
  split at h
  ·rename_i v hv;exact .ret (hp.ret v _ h (dM hv))
  ·cases h
 |seq x y ihx ihy=>
  intro A S kn ke kr r Q hl h hp
  obtain⟨hlx,hly⟩:=hl
  simp only[ex]at h
  split at h
  ·refine .seq (ihx A S _ ke kr r _ hlx h ⟨λS' σ hk he=> ?_,hp.exit,hp.jump,λv σ hk he=>hp.ret v σ hk he⟩)
   exact .ent he (ihy A S' kn ke kr r Q hly hk hp)
  ·rename_i cut alts hj
   obtain⟨out,h1,h2⟩:=aR h
   refine .seq (ihx _ S _ _ _ out _ hlx h1 ⟨λS' σ hk he=> ?_,λid S' σ hb hk he=> ?_,λl S' σ hk he=> ?_,λv σ hk he=> ?_⟩)
   ·split at hk
    ·rename_i v hv
     rw[cQ hk]at h2
     exact .ent (Ent.trans he (dM hv)) (ihy A _ kn ke kr r Q hly h2 hp)
    ·cases hk
   ·split at hk
    ·rename_i v hv
     rw[cQ hk]at h2
     exact hp.exit id _ σ hb h2 (Ent.trans he (dM hv))
    ·cases hk
   ·split at hk
    ·rename_i v hv
     rw[cQ hk]at h2
     exact hp.jump l _ σ h2 (Ent.trans he (dM hv))
    ·cases hk
   ·rw[cQ hk]at h2
    exact hp.ret v σ h2 he
 |block id x ih=>
  intro A S kn ke kr r Q hl h hp
  simp only[ex]at h
  split at h
  ·rename_i hb
   refine .block (ih A S kn _ kr r _ hl h ⟨λS' σ hk he=>hp.norm S' σ hk he,λid' S' σ hb' hk he=> ?_,λl S' σ hk he=> ?_,λv σ hk he=>hp.ret v σ hk he⟩)
   ·simp only[vp]
    split at hk
    ·rename_i e;rw[TL e];exact hp.norm S' σ hk he
    ·rename_i e;rw[TK e];exact hp.exit id' S' σ hb' hk he
   ·simp only[vp]
    rw[TK (λe=>by rw[<-e,pZ]at hb;cases hb)]at hk
    exact hp.jump l S' σ hk he
  ·cases h
 |cond c x y ihx ihy=>
  intro A S kn ke kr r Q hl h hp
  obtain⟨hlx,hly⟩:=hl
  simp only[ex]at h
  split at h
  ·rename_i t
   split at h
   ·rename_i b hb
    have hev:ev (aC V S) (.tmp t)= .d (.v (.bool b)):=by
     rw[an]
     simp only[tev,TS.get,hb,Rc,ap,aH]
    have hset:∀b',b=b'->Ent (aC V S) (aC V (setB S t b')):=λb' e C E M a w hs=>⟨E,M,qR (by rw[hb,e]) hs⟩
    cases b with
    |true=>
     rw[TL rfl]at h
     exact .cond hev (λ_=> .ent (hset true rfl) (ihx A _ kn ke kr r Q hlx h hp)) (λe=>by cases e)
    |false=>
     rw[TK (by simp)]at h
     exact .cond hev (λe=>by cases e) (λ_=> .ent (hset false rfl) (ihy A _ kn ke kr r Q hly h hp))
   ·cases h
  ·rename_i b
   have hev:ev (aC V S) (.const (.bool b))= .d (.v (.bool b)):=rfl
   cases b with
   |true=>exact .cond hev (λ_=>ihx A _ kn ke kr r Q hlx h hp) (λe=>by cases e)
   |false=>exact .cond hev (λe=>by cases e) (λ_=>ihy A _ kn ke kr r Q hly h hp)
  ·cases h
 |region id ops draw=>
  intro A S kn ke kr r Q _ h hp
  have key:∀{B:Type} (k:TS V.N->Option B) (s:B),Kr X id ops draw S k=some s->(∀S' σ,k S'=some s->Ent σ (aC V S')->Q .normal σ)->AWp C (.region id ops draw) (aC V S) Q:=by
   intro B k s hr hq
   cases draw with
   |false=>
    simp only[Kr]at hr
    rw[<-hP,<-hn.1]at hr
    intro E M a w hs
    refine wp_region ?_
    have:=oc (C:=C) (ops:=ops) (Q:=λe a' w'=>∃S' E' M',Q e S'/\Sim C E' M' S' a' w') (hP▸hcall) hn.2 ops.toList 0 S k E M a w (by simp) hr hs
     λS' E' M' a' w' hk hs'=>⟨_,E',M',hq S' _ hk (Ent.refl _),hs'⟩
    have e:(RA ops.toList.length).map (0+ ·)=RA ops.size:=by simp
    rw[e]at this
    exact this
   |true=>
    simp only[Kr]at hr
    have one:∀(ops:Array Oper),Mf X ops S k=some s->ie C.P C.wr X.nm ops.toList ops.toList (aC V S) [] (λS' tr=>vo ops.toList tr=true/\Q .normal S'):=by
     intro ops hr
     simp only[Mf]at hr
     rw[hP]
     have h2:=ob (W:=C.wr) hcall (λo ho=>p9 hn.2 (by rw[hn.1];exact ho)) ops.toList S (aC V S) [] _ hr (Rl.refl S)
     refine gW (λσ' tr' ⟨S',hrl,hk⟩=> ?_) h2
     split at hk
     ·rename_i hd;exact⟨hd,hq S' σ' hk hrl.ent⟩
     ·cases hk
    have tree:∀(t:PT) (ops:Array Oper),Kq X S k t ops=some s->PT.ok C X.nm (aC V S) (Q .normal) t ops:=by
     intro t
     induction t with
     |leaf=>intro ops hr;exact one ops hr
     |node i j ta tb iha ihb=>
      intro ops hr
      simp only[Kq]at hr
      split at hr
      ·rename_i hf
       obtain⟨h1,h2⟩:=yQ hr
       simp only[v7,Qg,Se,RO]at hf
       obtain⟨⟨f1,f2⟩,f3⟩:=hf
       exact⟨⟨(λe=>by rw[e,R9]at f1;cases f1),f2,f3⟩,iha _ h1,ihb _ h2⟩
      ·cases hr
    exact .drawT X.nm (X.pair id) (by rw[hP];exact hm) (tree _ _ hr)
  simp only[ex]at h
  split at h
  ·exact key kn r h λS' σ hk he=>hp.norm S' σ hk he
  ·rename_i cut _
   obtain⟨v,h1,h2⟩:=aR h
   exact key _ v h1 λS' σ hk he=>hp.norm _ σ h2 (Ent.trans he (dM hk))
 |scope x ih=>
  intro A S kn ke kr r Q hl h hp
  simp only[ex]at h
  split at h
  ·exact yO (ih A S kn _ kr r _ hl.1 h ⟨λS' σ hk he=>hp.norm S' σ hk he,λid' S' σ hb hk he=>hp.exit id' S' σ hb (fc hk).2 he,λl S' σ hk he=>(iN hk).elim,λv σ hk he=>hp.ret v σ hk he⟩)
  ·rename_i l la hj
   obtain⟨rest,hf,hok⟩:=hl.2 l la hj
   refine lY hf (ih A S kn _ kr r _ hl.1 h ⟨λS' σ hk he=>hp.norm S' σ hk he,λid' S' σ hb hk he=> ?_,λl' S' σ hk he=> ?_,λv σ hk he=>hp.ret v σ hk he⟩)
   ·split at hk
    ·rename_i e
     have:=QQ e
     rw[this,pZ]at hb;cases hb
    ·exact hp.exit id' S' σ hb (fc hk).2 he
   ·split at hk
    ·rename_i e
     have e:=QQ e
     refine⟨by omega,?_⟩
     split at hk
     ·cases hk
     ·rename_i v hv
      obtain⟨out,h1,h2⟩:=aR hk
      refine .ent (Ent.trans he (dM hv)) ((hok v out h1).mono λe σ hq=> ?_)
      unfold CL at hq
      split at hq
      ·obtain⟨hb,w,hw1,hw2⟩:=hq
       rw[cQ hw1]at h2
       exact hp.exit _ _ σ hb h2 hw2
      ·obtain⟨w,hw1,hw2⟩:=hq
       rw[cQ hw1]at h2
       exact hp.ret w σ h2 hw2
      ·exact hq.elim
    ·exact(iN hk).elim
 |loop b ih=>
  intro A S kn ke kr r Q hl h hp
  simp only[ex]at h
  split at h
  ·cases h
  ·rename_i la hla
   split at h
   ·cases h
   ·rename_i v hv
    obtain⟨out,h1,h2⟩:=aR h
    refine .ent (dM hv) ((s9.loop (hl la hla v out h1)).mono λe σ hq=> ?_)
    unfold CL at hq
    split at hq
    ·obtain⟨hb,w,hw1,hw2⟩:=hq
     rw[cQ hw1]at h2
     exact hp.exit _ _ σ hb h2 hw2
    ·obtain⟨w,hw1,hw2⟩:=hq
     rw[cQ hw1]at h2
     exact hp.ret w σ h2 hw2
    ·exact hq.elim
 |_=>intro A S kn ke kr r Q _ h hp;simp only[ex]at h;cases h
theorem nb{C:Ctx}{X:Xc V}(hP:C.P=X.P)(hn:C.N=X.n/\Fx C X.pre)(hm:X.P.follows .mixedOrders=true)(hcall:aZ X.P X.call){b:Code}(hl:LOk C X b){cut:Cut V.ι}{alts:List Alt}
 {F:HL V.N cut.tys->Option (lW (bZ X.sh []) alts)}(ih:∀v out,F v=some out->s9 C b (aC V (fz V cut v)) (CL X.sh alts out)){v:HL V.N cut.tys}{out:lW (bZ X.sh []) alts}
 (h:exL X b cut alts F v=some out):s9 C b (aC V (fz V cut v)) (CL X.sh alts out):=by
 refine s9.round (vu hP hn hm hcall b _ _ _ _ _ out _ hl h ⟨λS' σ hk he=> ?_,λid S' σ hb hk he=> ?_,λl S' σ hk he=>(iN hk).elim,λv σ hk he=> ?_⟩)
 ·split at hk
  ·rename_i w hw;exact .ent (Ent.trans he (dM hw)) (ih w out hk)
  ·cases hk
 ·have hk:=(fc hk).2
  split at hk
  ·rename_i w hw;exact⟨hb,w,hk,Ent.trans he (dM hw)⟩
  ·cases hk
 ·exact⟨v,hk,he⟩
end
end Go.Tx
end
section
namespace Go.Tx
open Go.Awp
variable [Inhabited GMem]
def FR(P:Program)(rs:List ResultVar)(r:H)(own':List (Nat×Own))(e:Exit)(S:aa):Prop:=
 (e= .normal\/e= .ret)/\∃S',Ent S S'/\∃h,Ks P S' rs=some h/\H.le h r/\∀n o,gt own' n=some o->S'.own? n=some o
theorem xa{P:Program}{f:FuncId}{fn:Func}{c:Code}{args:List H}{own own':List (Nat×Own)}{r:H}(hf:P.funcs[f]?=some fn)(hb:fn.body=some c)
 (hname:(fn.name != "runtime.NumGoroutine")=true)(hn:args.length<=fn.ntmps)
 (h:∀C:Ctx,C.P=P->C.N=fn.ntmps/\C.fix=[]->AWp C c ⟨jF 0 args,sQ own⟩ (FR P fn.results.toList r own')):lA P f args own r own':=by
 refine⟨by simp[gY,hf,hb,hname],λE M w vs hgm hm how hvs=> ?_⟩
 refine calls_of_wp hf hb ?_
 let C:Ctx:=⟨P,fn.ntmps,w,M,E,li E w own,hgm,λb ⟨n,o,hn,hb⟩=>((how.ok n o hn).block hb).2,[],[]⟩
 have hs:Sim C E M ⟨jF 0 args,sQ own⟩ {tmps:=vs++R4 (fn.ntmps-vs.size) undef,defers:=[]} w:=by
  have hvs1:=hvs.1
  refine{size:=by simp[C];omega,defers:=rfl,fixed:=λp hp=>(by cases hp),tmps:=λt x hx=> ?_,mem:=hm,own:=λn o ho=> ?_,apart:=λn m o o' b hne ho ho'=> ?_,home:=λn o b ho hb=> ?_,m0:=Mem.le_refl M,mnew:=λb o v hv=> .inl hv,frame:=λ_ _ _=>rfl,grows:=QB _,os:=rfl,tape:=rfl,output:=rfl,env:=λ_ _=>rfl}
  ·obtain⟨_,h2⟩:=rM args 0 t x hx
   simp only[S4]at h2
   have hlt:t<vs.size:=by have:=(P9.1 h2).1;omega
   exact⟨vs[t],by simp[Sc hlt,hlt],hvs.2 t _ x (QC hlt) h2⟩
  ·have ho':gt own n=some o:=by rw[<-fD];exact ho
   exact how.ok n o ho'
  ·have h1:gt own n=some o:=by rw[<-fD];exact ho
   have h2:gt own m=some o':=by rw[<-fD];exact ho'
   exact how.apart n m o o' b hne h1 h2
  ·have h1:gt own n=some o:=by rw[<-fD];exact ho
   exact .inl ⟨n,o,h1,hb⟩
 refine wp_mono (h C rfl ⟨rfl,rfl⟩ E M _ w hs) ?_
 rintro e a' w' ⟨S',E',M',⟨he,S'',hent,hh,hres,hle,hown⟩,hs'⟩
 obtain⟨E2,M2,hs2⟩:=hent C E' M' a' w' hs'
 obtain⟨v,hrun,hrep⟩:=EH (C:=C) hs2 hres
 have hpost:u4 E M own w v r own' E2 M2 w':=
  {rep:=hle _ _ _ hrep,owns:=⟨λn o ho=>hs2.own n o (hown n o ho),λn m o o' b hne h1 h2=>hs2.apart n m o o' b hne (hown n o h1) (hown m o' h2)⟩,mle:=hs2.m0,mem:=hs2.mem,mnew:=hs2.mnew,home:=λn o b ho hb=>hs2.home n o b (hown n o ho) hb,frame:=hs2.frame,grows:=hs2.grows,os:=hs2.os,tape:=hs2.tape,output:=hs2.output,env:=hs2.env}
 rcases he with rfl|rfl
 ·exact⟨hs2.defers,v,hrun,v,E2,M2,rfl,hpost⟩
 ·exact⟨hs2.defers,v,hrun,v,E2,M2,rfl,hpost⟩
section
variable (V:gu)
structure Sig where
 params:List (Pt V.ι)
 objs:List (Nat×OPt V.ι):=[]
 rcut:Cut V.ι
 rvars:List ResultVar
 keep:List Nat:=[]
variable {V}
def Sig.tys(sig:Sig V):List (Ty V.ι):=Bd sig.params++AQ sig.objs
def C5{α:Type}:Nat->List α->List (Nat×α)
 |_,[]=>[]
 |i,x::r=>(i,x)::C5 (i+1) r
def dt(sig:Sig V)(v:HL V.N sig.tys):List (TV V.N)×List (Nat×TO V.N):=match bdL V sig.params (Kn sig.tys v)with
 |some (xs,ls)=>match bdO V sig.objs ls with
  |some os=>(xs,os)
  |none=>([],[])
 |none=>([],[])
def ce(sig:Sig V)(v:HL V.N sig.tys):TS V.N:={tmps:=C5 0 (dt sig v).1,own:=(dt sig v).2}
def Il(P:Program)(S:TS V.N):ResultVar->Option (TV V.N)
 | .tmp t=>gt S.tmps t
 | .cell a t=>match gt S.tmps a with
  |some (.bp n off)=>match bq P t with
   |some (ag,sz)=>match ww V ag off sz (V.ty t) (S.own? n)with
    |some v=>some v
    |none=>match CU V (S.own? n)with
     |some cells=>xg V false ag sz (V.ty t) (cells.drop off)
     |none=>none
   |none=>none
  |_=>none
def Bj(P:Program)(S:TS V.N):List ResultVar->Option (List (TV V.N))
 |[]=>some []
 |x::r=>match Il P S x,Bj P S r with
  |some h,some l=>some (h::l)
  |_,_=>none
def Mb:List (TV V.N)->TV V.N
 |[x]=>x
 |l=> .tup l
def Gv(P:Program)(sig:Sig V)(r:HL V.N sig.rcut.tys):Option (TV V.N):=(Bj P (fz V sig.rcut r) sig.rvars).map Mb
def eD(ω:Nat->Nat)(os:List (Nat×TO V.N)):List (Nat×Own):=os.filterMap λp=>(a_ V ω p.2).map λo=>(p.1,o)
def qk(sig:Sig V)(r:HL V.N sig.rcut.tys):List (Nat×TO V.N):=(fz V sig.rcut r).own.filter λp=>sig.keep.contains p.1
def aB(P:Program)(fid:FuncId)(sig:Sig V)(F:HL V.N sig.tys->Option (HL V.N sig.rcut.tys)):Prop:=
 ∀v r x,F v=some r->Gv P sig r=some x->
  lA P fid (encL V (ce sig v).len (dt sig v).1) (eD (ce sig v).len (ce sig v).own) (ap V (fz V sig.rcut r).len x) (eD (fz V sig.rcut r).len (qk sig r))
noncomputable def exF(X:Xc V)(sig:Sig V)(h:X.sh.rcut=sig.rcut)(c:Code)(v:HL V.N sig.tys):Option (HL V.N sig.rcut.tys):=
 ex X c _ (ce sig v) (λS=>zH V sig.rcut S) (λ_ _=>none) (λr=>some (h▸r))
theorem dP{α β:Type}{f:α->Option β}:∀{l:List (Nat×α)} {n:Nat} {y:β},gt (l.filterMap λp=>(f p.2).map λo=>(p.1,o)) n=some y->∃x,(n,x)∈l/\f x=some y
 |[],n,y,h=>by simp[gt]at h
 |(k,x)::r,n,y,h=>by
  rw[R6]at h
  cases hx:f x with
  |none=>
   simp only[hx,Sh]at h
   obtain⟨z,h1,h2⟩:=dP h
   exact⟨z,Qd _ h1,h2⟩
  |some z=>
   simp only[hx,QI,ab]at h
   by_cases hk:k=n
   ·rw[TL hk]at h;cases h;subst hk;exact⟨x,Qi,hx⟩
   ·rw[TK hk]at h
    obtain⟨w,h1,h2⟩:=dP h
    exact⟨w,Qd _ h1,h2⟩
def di:List Nat->Bool
 |[]=>true
 |x::r=> !r.contains x&&di r
theorem mR{α:Type}:∀{l:List (Nat×α)} {n:Nat} {x:α},di (l.map (·.1))=true->(n,x)∈l->gt l n=some x
 |[],n,x,_,h=>by cases h
 |(k,y)::r,n,x,hd,h=>by
  simp only[Qj,di,Qg]at hd
  rw[ab]
  rcases Ql.1 h with he|h
  ·simp only[QD]at he
   obtain⟨rfl,rfl⟩:=he
   rw[TL rfl]
  ·have:k≠n:=by
    intro e;subst e
    have h1:=hd.1
    have:k∈r.map (·.1):=QH h
    simp at h1
    simp at this
    exact h1 _ this.choose_spec
   rw[TK this]
   exact mR hd.2 h
theorem pm{P:Program}{S:TS V.N}:∀{rs:List ResultVar} {vs:List (TV V.N)},Bj P S rs=some vs->
 ∃hs,gS P (aC V S) rs=some hs/\hs.length=vs.length/\∀(i:Nat) (v:TV V.N),vs[i]?=some v->∃h,hs[i]?=some h/\H.le h (ap V S.len v)
 |[],vs,h=>by simp[Bj]at h;subst h;exact⟨[],rfl,rfl,λi v hv=>by simp at hv⟩
 |x::r,vs,h=>by
  simp only[Bj]at h
  split at h
  ·rename_i v l h1 h2
   simp at h;subst h
   obtain⟨hs,g1,g2,g3⟩:=pm h2
   have:∃y,nM P (aC V S) x=some y/\H.le y (ap V S.len v):=by
    cases x with
    |tmp t=>
     simp only[Il]at h1
     refine⟨(aC V S).get t,rfl,?_⟩
     unfold aa.get
     rw[bK,h1]
     exact H.le.refl _
    |cell a t=>
     simp only[Il]at h1
     split at h1
     ·rename_i n off hn
      have hg:(aC V S).get a= .bp n off:=by
       unfold aa.get
       rw[bK,hn];simp[ap]
      split at h1
      ·rename_i ag sz ht
       split at h1
       ·rename_i w hw
        simp only[P8]at h1;subst h1
        unfold ww at hw
        split at hw
        ·rename_i i y hnn
         have hw':=aj hw;clear hw
         obtain⟨⟨e1,e2,e3,hot⟩,hw⟩:=hw'
         subst e1;subst e2;subst e3
         simp only[P8]at hw;subst hw
         have hb:CU V (S.own? n)=some ((V.cells i y).map λl=> .lf l.t l.x):=by rw[hnn];rfl
         have hl:(V.enc i y).length=V.sz i:=by rw[V.enc_cells,Qb,V.len_cells]
         refine⟨ap V S.len (.lf (.st i) y),?_,H.le.refl _⟩
         simp only[nM,hg,gg hb,ht,iz,ed,QW,iD,Qb]
         rw[TL (by omega),QP (by rw[Qb];omega),bu,cN]
        ·rename_i m e xs hnn
         have hw':=aj hw;clear hw
         obtain⟨⟨e1,e2,e3,hot⟩,hw⟩:=hw'
         subst e1;subst e2;subst e3
         simp only[P8]at hw;subst hw
         have ho1:=nC hnn
         have hl:=bC (V:=V) (.ar m e) xs
         refine⟨ap V S.len (.lf (.ar m e) xs),?_,H.le.refl _⟩
         simp only[nM,hg,ho1,ht,ed,QW,FW,Qb]
         rw[TL (by omega),QP (by rw[Qb];omega),bu,cN]
        ·cases hw
       ·split at h1
        ·rename_i cells hc
         obtain⟨y,k1,k2,_⟩:=iJ (ω:=S.len) h1
         rw[gz]at k1
         refine⟨y,?_,k2⟩
         simp only[nM,hg,gg hc,ht,k1]
        ·cases h1
      ·cases h1
     ·cases h1
   obtain⟨y,y1,y2⟩:=this
   refine⟨y::hs,by simp only[gS,y1,g1],by simp[g2],λi w hw=> ?_⟩
   cases i with
   |zero=>simp at hw;subst hw;exact⟨y,rfl,y2⟩
   |succ i=>obtain⟨z,z1,z2⟩:=g3 i w (by simpa using hw);exact⟨z,by simpa using z1,z2⟩
  ·cases h
theorem n5{ω:Nat->Nat}:∀(l:List (TV V.N)) (i:Nat),jF i (encL V ω l)=(C5 i l).map λp=>(p.1,ap V ω p.2)
 |[],i=>rfl
 |x::r,i=>by simp[encL,jF,C5,n5 r (i+1)]
theorem yP:∀{ps:List (Pt V.ι)} {ls ls':List (cg V.N)} {xs:List (TV V.N)},bdL V ps ls=some (xs,ls')->xs.length=ps.length
 |[],ls,ls',xs,h=>by simp[bdL]at h;rw[h.1];rfl
 |p::r,ls,ls',xs,h=>by
  simp only[bdL]at h
  split at h
  ·rename_i x l1 h1
   split at h
   ·rename_i ys l2 h2
    simp at h
    rw[<-h.1]
    simp[yP h2]
   ·cases h
  ·cases h
theorem cz:∀{objs:List (Nat×OPt V.ι)} {ls:List (cg V.N)} {os:List (Nat×TO V.N)},bdO V objs ls=some os->os.map (·.1)=objs.map (·.1)
 |[],[],os,h=>by simp[bdO]at h;subst h;rfl
 |[],_::_,os,h=>by simp[bdO]at h
 |(c, .box oty ps)::r,ls,os,h=>by
  simp only[bdO]at h
  split at h
  ·split at h
   ·rename_i os' h2
    simp at h;subst h
    simp[cz h2]
   ·cases h
  ·cases h
 |(c, .st i)::r,[],os,h=>by simp[bdO]at h
 |(c, .vec te e)::r,[],os,h=>by simp[bdO]at h
 |(c, .st i)::r,⟨t,x⟩::ls,os,h=>by
  cases t<;>simp only[bdO]at h<;>first
   |(cases h;done)
   |(split at h
     ·split at h
      ·rename_i os' h2
       simp at h;subst h
       simp[cz h2]
      ·cases h
     ·cases h)
 |(c, .vec te e)::r,⟨t,x⟩::ls,os,h=>by
  cases t<;>simp only[bdO]at h<;>first
   |(cases h;done)
   |(split at h
     ·split at h
      ·rename_i os' h2
       simp at h;subst h
       simp[cz h2]
      ·cases h
     ·cases h)
 |(c, .dvec te e true)::r,[],os,h=>by simp[bdO]at h
 |(c, .dvec te e false)::r,[],os,h=>by simp[bdO]at h
 |(c, .dvec te e true)::r,⟨t,x⟩::ls,os,h=>by
  cases t<;>first
   |(simp[bdO]at h;done)
   |(rename_i t2;cases t2<;>first
    |(simp[bdO]at h;done)
    |(simp only[bdO]at h
      split at h
      ·split at h
       ·rename_i os' h2
        simp at h;subst h
        simp[cz h2]
       ·cases h
      ·cases h))
 |(c, .dvec te e false)::r,⟨t,x⟩::ls,os,h=>by
  cases t<;>simp only[bdO]at h<;>first
   |(cases h;done)
   |(split at h
     ·split at h
      ·rename_i os' h2
       simp at h;subst h
       simp[cz h2]
      ·cases h
     ·cases h)
 |(c, .que te e)::r,[],os,h=>by simp[bdO]at h
 |(c, .que te e)::r,⟨t,x⟩::ls,os,h=>by
  cases t<;>simp only[bdO]at h<;>first
   |(cases h;done)
   |(split at h
     ·split at h
      ·rename_i os' h2
       simp at h;subst h
       simp[cz h2]
      ·cases h
     ·cases h)
 |(c, .bar m e)::r,[],os,h=>by simp[bdO]at h
 |(c, .bar m e)::r,⟨t,x⟩::ls,os,h=>by
  cases t<;>simp only[bdO]at h<;>first
   |(cases h;done)
   |(split at h
     ·split at h
      ·rename_i os' h2
       simp at h;subst h
       simp[cz h2]
      ·cases h
     ·cases h)
 |(c, .maps te tk tv)::r,[],os,h=>by simp[bdO]at h
 |(c, .maps te tk tv)::r,⟨t,x⟩::ls,os,h=>by
  cases t<;>first
   |(simp[bdO]at h;done)
   |(rename_i t2;cases t2<;>first
    |(simp[bdO]at h;done)
    |(rename_i t3;cases t3<;>first
     |(simp[bdO]at h;done)
     |(simp only[bdO]at h
       split at h
       ·split at h
        ·rename_i os' h2
         simp at h;subst h
         simp[cz h2]
        ·cases h
       ·cases h)))
 |(c, .iter)::r,[],os,h=>by simp[bdO]at h
 |(c, .iter)::r,[⟨t,x⟩],os,h=>by
  cases t<;>simp[bdO]at h
 |(c, .iter)::r,⟨t,x⟩::⟨t2,x2⟩::ls,os,h=>by
  cases t<;>first
   |(simp[bdO]at h;done)
   |(cases t2<;>first
    |(simp[bdO]at h;done)
    |(rename_i ki;cases ki<;>first
     |(simp[bdO]at h;done)
     |(simp only[bdO]at h
       split at h
       ·rename_i os' h2
        simp at h;subst h
        simp[cz h2]
       ·cases h)))
 |(c, .miter cm k v)::r,[],os,h=>by simp[bdO]at h
 |(c, .miter cm k v)::r,[⟨t,x⟩],os,h=>by
  cases t<;>simp[bdO]at h
 |(c, .miter cm k v)::r,⟨t,x⟩::⟨t2,x2⟩::ls,os,h=>by
  cases t<;>first
   |(simp[bdO]at h;done)
   |(cases t2<;>first
    |(simp[bdO]at h;done)
    |(simp only[bdO]at h
      split at h
      ·split at h
       ·rename_i os' h2
        simp at h;subst h
        simp[cz h2]
       ·cases h
      ·cases h))
 |(c, .map tk tv)::r,[],os,h=>by simp[bdO]at h
 |(c, .map tk tv)::r,⟨t,x⟩::ls,os,h=>by
  cases t<;>simp only[bdO]at h<;>first
   |(cases h;done)
   |(split at h
     ·split at h
      ·rename_i os' h2
       simp at h;subst h
       simp[cz h2]
      ·cases h
     ·cases h)
theorem tA(c:Cut V.ι)(ls:List (cg V.N))(h:di (c.objs.map (·.1))=true):di ((build V c ls).own.map (·.1))=true:=by
 unfold build
 split
 ·split
  ·rename_i os ho
   simp only
   rw[cz ho];exact h
  ·rfl
 ·rfl
theorem lE{ω:Nat->Nat}:∀{os:List (Nat×TO V.N)} {n:Nat} {x:TO V.N} {o:Own},gt os n=some x->a_ V ω x=some o->gt (eD ω os) n=some o
 |[],n,x,o,h,_=>by simp[gt]at h
 |(k,y)::r,n,x,o,h,ho=>by
  rw[ab]at h
  unfold eD
  rw[R6]
  by_cases hk:k=n
  ·rw[TL hk]at h;cases h
   simp only[ho,QI,ab]
   rw[TL hk]
  ·rw[TK hk]at h
   have ih:=lE (ω:=ω) h ho
   unfold eD at ih
   cases hy:a_ V ω y with
   |none=>simp only[hy,Sh];exact ih
   |some z=>
    simp only[hy,QI,ab]
    rw[TK hk];exact ih
theorem C7{X:Xc V}{sig:Sig V}(hsh:X.sh.rcut=sig.rcut){fid:FuncId}{fn:Func}{c:Code}(hf:X.P.funcs[fid]?=some fn)(hb:fn.body=some c)(hn:fn.ntmps=X.n)(hrs:fn.results.toList=sig.rvars)
 (hname:(fn.name != "runtime.NumGoroutine")=true)(hlen:Sg sig.params.length X.n=true)(hm:X.P.follows .mixedOrders=true)(hcall:aZ X.P X.call)
 (hdr:di (sig.rcut.objs.map (·.1))=true)(hl:∀C:Ctx,C.P=X.P->C.N=X.n/\Fx C X.pre->LOk C X c){v:HL V.N sig.tys}{r:HL V.N sig.rcut.tys}(h:exF X sig hsh c v=some r):
 ∀x,Gv X.P sig r=some x->
  lA X.P fid (encL V (ce sig v).len (dt sig v).1) (eD (ce sig v).len (ce sig v).own) (ap V (fz V sig.rcut r).len x) (eD (fz V sig.rcut r).len (qk sig r)):=by
 obtain⟨params,objs,rcut,rvars,keep⟩:=sig
 simp only at hsh
 subst hsh
 intro x hx
 have hargs:(dt ⟨params,objs,X.sh.rcut,rvars,keep⟩ v).1.length<=X.n:=by
  have hp:params.length<=X.n:=Sa hlen
  unfold dt
  split
  ·rename_i xs ls h1
   split
   ·simp only;rw[yP h1];exact hp
   ·simp
  ·simp
 refine xa hf hb hname (by rw[aL,hn];exact hargs) λC hP hN=> ?_
 have hent:Ent ⟨jF 0 (encL V (ce ⟨params,objs,X.sh.rcut,rvars,keep⟩ v).len (dt ⟨params,objs,X.sh.rcut,rvars,keep⟩ v).1),sQ (eD (ce ⟨params,objs,X.sh.rcut,rvars,keep⟩ v).len (ce ⟨params,objs,X.sh.rcut,rvars,keep⟩ v).own)⟩
  (aC V (ce ⟨params,objs,X.sh.rcut,rvars,keep⟩ v)):=by
  refine Ent.le (λt y hy=>⟨y,?_,H.le.refl _⟩) λn o ho=>⟨o,?_,OLe.refl _⟩
  ·rw[n5];exact hy
  ·rw[aK,RF]at ho
   obtain⟨o',ho',hoo⟩:=ho
   have:=lE (os:=(ce ⟨params,objs,X.sh.rcut,rvars,keep⟩ v).own) ho' hoo
   unfold aa.own?
   rw[fD]
   exact this
 have hend:∀e σ,(e= .normal\/e= .ret)->Ent σ (aC V (fz V X.sh.rcut r))->
  FR X.P fn.results.toList (ap V (fz V X.sh.rcut r).len x) (eD (fz V X.sh.rcut r).len (qk ⟨params,objs,X.sh.rcut,rvars,keep⟩ r)) e σ:=by
  intro e σ he hσ
  unfold Gv at hx
  rw[Qn]at hx
  obtain⟨vs,hvs,hone⟩:=hx
  obtain⟨hs,g1,g2,g3⟩:=pm hvs
  have hh:∃y,Ks X.P (aC V (fz V X.sh.rcut r)) fn.results.toList=some y/\H.le y (ap V (fz V X.sh.rcut r).len x):=by
   rw[hrs]
   unfold Ks
   rw[g1]
   cases vs with
   |nil=>
    have:hs=[]:=Qy (by simpa using g2)
    subst this;subst hone
    exact⟨.tup [],rfl,by simp only[Mb,ap,encL];exact H.le.refl _⟩
   |cons a l=>
    cases l with
    |nil=>
     cases hs with
     |nil=>simp at g2
     |cons y l'=>
      have:l'=[]:=Qy (by simpa using g2)
      subst this;subst hone
      obtain⟨z,z1,z2⟩:=g3 0 a rfl
      simp at z1;subst z1
      exact⟨y,rfl,z2⟩
    |cons b l=>
     cases hs with
     |nil=>simp at g2
     |cons y l'=>
      cases l' with
      |nil=>simp at g2
      |cons y2 l2=>
       subst hone
       refine⟨.tup (y::y2::l2),rfl,?_⟩
       simp only[Mb,ap]
       refine Cm (by rw[aL];exact g2) λi w hw=> ?_
       rw[ax,Qc,Qn]at hw
       obtain⟨u,hu,rfl⟩:=hw
       exact g3 i u hu
  obtain⟨y,hy1,hy2⟩:=hh
  refine⟨he,_,hσ,y,hy1,hy2,λn o ho=> ?_⟩
  obtain⟨o',h1,h2⟩:=dP ho
  have h1:(n,o')∈(fz V X.sh.rcut r).own:=(Tc.1 h1).1
  have:=mR (tA X.sh.rcut _ hdr) h1
  rw[aK]
  unfold TS.own?
  unfold fz at *
  rw[this]
  exact h2
 refine .ent hent (vu hP ⟨by rw[hN.1,hn],λp hp=>(by rw[hN.2]at hp;cases hp)⟩ hm hcall c _ _ _ _ _ r _ (hl C hP ⟨by rw[hN.1,hn],λp hp=>(by rw[hN.2]at hp;cases hp)⟩) h ⟨λS σ hk he=> ?_,λid S σ _ hk he=>(by cases hk),λl S σ hk he=>(by cases hk),λw σ hk he=> ?_⟩)
 ·exact hend _ σ (.inl rfl) (Ent.trans he (dM hk))
 ·have:w=r:=by simpa using hk
  subst this
  exact hend _ σ (.inr rfl) he
end
end Go.Tx
end
