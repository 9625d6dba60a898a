/-
  Texts of this claim, joined by a program of mine: what the theorem uses.
-/
import Derived.Test.YtcghbgmmgcljkaaGreatDoorPkD
import Derived.Scope
open Array renaming getElem?_append_left→Sa,getElem?_eq_getElem→QC,replicate→R4,toList_inj→RV
open Bool renaming and_eq_true→Qk,false_eq_true→Qj,not_eq_true'→Sm,not_false→R6,not_true→Q8
open Function renaming comp_apply→RJ
open Int renaming toNat→Q1
open List renaming all_cons→Rb,all_eq_true→Qq,all_map→RI,append_assoc→Rt,append_nil→RO,cons_append→QR,drop_append→S_,drop_drop→Ry,drop_eq_nil_of_le→RR,drop_of_length_le→Th,drop_zero→QV,eq_nil_of_length_eq_zero→QE,eraseIdx_cons_succ→Tb,ext_getElem?→Rw,filterMap_cons→R5,flatten_cons→Q4,getElem?_append→Tp,getElem?_cons_zero→Ri,getElem?_drop→QH,getElem?_eq_some_iff→Qf,getElem?_map→Qh,getElem?_range→Ru,getElem?_replicate→Ta,getElem?_set→Rg,getElem?_take→Qz,length→Sj,length_append→QB,length_cons→QA,length_drop→QO,length_map→Qg,length_nil→Ss,length_replicate→Ra,length_set→Q6,length_take→QQ,map→RM,map_append→QU,map_congr_left→QL,map_cons→Qp,map_drop→Q_,map_map→QJ,map_nil→QW,map_replicate→RZ,map_set→RQ,map_take→Q9,mem_append_left→Rz,mem_append_right→RY,mem_cons→Qu,mem_cons_of_mem→Qm,mem_cons_self→Qo,mem_filter→Te,mem_map→QD,mem_map_of_mem→QN,mem_of_mem_take→QY,mem_replicate→SM,nil_append→QS,nodup_cons→R3,range→RC,replicate→QK,take_append→S8,take_append_drop→Sn,take_append_of_le_length→RL,take_of_length_le→QP,take_take→SK,take_zero→Sv
open List.cons renaming injEq→Re
open Nat renaming add_zero→Rj,beq→QZ,beq_refl→R7,ble→Se,blt→RD,blt_eq→RN,div_add_mod→R9,eq_of_beq_eq_true→QT,le_of_ble_eq_true→R8,le_refl→QF,min_eq_left→Rp,mul_comm→RG,mul_le_mul→Tj,mul_le_mul_right→Qw,sub_zero→S6,succ_mul→QM,zero_add→Qy
open Ne renaming symm→Rf
open Option renaming bind_eq_some_iff→RF,bind_some→Qe,getD_some→Rk,isSome_iff_exists→Su,isSome_map→SY,map_eq_some_iff→Qr,map_none→Sf,map_some→QG
open Option.some renaming injEq→Qd
open Prod.mk renaming injEq→QI
noncomputable section
set_option linter.unusedSectionVars false
set_option linter.unusedSimpArgs false
section
namespace Go.Tx
open Go.Awp
variable [Inhabited GMem]
theorem ew(x:D):DD.toL [.d x]=some [x]:=by simp[DD.toL,DD.toD]
theorem IX{t z:Nat}{rows:List (List DD)}{ds:List (List D)}(h:DD.toR rows=some ds):DD.toL [.sl t z rows]=some [.sl z ds]:=by simp[DD.toL,DD.toD,h]
theorem Px{r:List DD}{s:List (List DD)}{x:List D}{y:List (List D)}(h:DD.toL r=some x)(h':DD.toR s=some y):DD.toR (r::s)=some (x::y):=by simp[DD.toR,h,h']
theorem GP{α:Type}{f:α->List DD}{g:α->List D}(h:∀x,DD.toL (f x)=some (g x)):∀l:List α,DD.toR (l.map f)=some (l.map g)
 |[]=>by simp[DD.toR]
 |x::r=>Px (h x) (GP h r)
section
variable (V:gW)
def Md:Ty V.ι->Bool
 | .st i=>V.flat i
 | .sl _=>false
 | .ar _ e=>Md e
 |_=>true
def A_(e:Ty V.ι)(ys:List (den V.N e)):TO V.N:=match Md V e with
 |true=> .vec (V.tid e) e ys
 |false=> .dvec (V.tid e) e ys
def nin(n:Nat):List Nat->Bool
 |[]=>true
 |k::r=> !QZ k n&&nin n r
def C2:List Nat->Bool
 |[]=>true
 |k::r=>nin k r&&C2 r
variable (P:Program) (nm:Nat->Nat)
def give1(S:TS V.N):Ty V.ι->TV V.N->Option (dB V.N×Option Nat)
 | .sl e, .vh n=>match S.own? n with
  |some (.vec te e' xs)=>if te=V.tid e'/\e'=e/\Md V e'=true then some (⟨.sl e',xs⟩,some n)else none
  |some (.dvec te e' ys)=>if te=V.tid e'/\e'=e then some (⟨.sl e',ys⟩,some n)else none
  |_=>none
 | .sl e, .raw (.slice none 0 0)=>some (⟨.sl e,[]⟩,none)
 | .sl _,_=>none
 |t, .lf t' x=>if t'=t then some (⟨t',x⟩,none)else none
 |_,_=>none
def Db(S:TS V.N)(ns:List Nat):List (Nat×TO V.N):=ns.map λm=>(m, .gone (S.len m))
def IL{A:Type}(t:TypeId)(x:Operand)(lo hi mx:Option Operand)(S:TS V.N)(k:TE V.N->Option A):Option A:=match mx,cj P t,tev S x with
 |none,some (_,sz,_), .vh n=>match S.own? n with
  |some (.vec _ e xs)=>match F5 V S lo 0,F5 V S hi xs.length with
   |some l,some h=>if sz=tsz V.sz e then if 0<=l/\l<=h/\h<=xs.length then k {val:= .sv n sz l.toNat (h.toNat-l.toNat),acc:=[n]}else none else none
   |_,_=>none
  |_=>none
 |_,_,_=>none
def Ck{A:Type}(args:List (TV V.N))(tys:List TypeId)(dst:Option Tmp)(S:TS V.N)(k:TE V.N->Option A):Option A:=match args,tys,dst with
 |[.sv n sz lo i, .sv n2 sz2 j len],[t,t'],some d=>match cj P t,S.own? n with
  |some (te,sz',_),some (.vec te1 e xs)=>if((t=t'/\te=te1)/\(sz'=tsz V.sz e/\sz=sz')/\(sz2=sz'/\n2=n))/\(lo=0/\len=xs.length-j)/\(i<=j/\j<=xs.length/\0<xs.length)then
   k {val:= .vh (nm d),acc:=[n],upd:=[(nm d, .vec te1 e (xs.take i++xs.drop j)),(n, .gone (S.len n))],new:=[nm d]}
   else none
  |_,_=>none
 |_,_,_=>none
def kz(b:Nat):Nat->List (Ty V.ι)->List Value->List (TV V.N)×List (Nat×TO V.N)
 |j,t::ts,z::zs=>match t,z with
  | .sl e, .slice none 0 0=>(.vh (Np b j)::(kz b (j+1) ts zs).1,(Np b j,A_ V e [])::(kz b (j+1) ts zs).2)
  |_,z=>(tvc z::(kz b (j+1) ts zs).1,(kz b (j+1) ts zs).2)
 |_,_,zs=>(zs.map tvc,[])
def Cn{A:Type}(t:TypeId)(parts:List (Nat×Operand))(dst:Option Tmp)(k:TE V.N->Option A):Option A:=match parts,gu P t,places P t with
 |[],some z,some _=>match V.ty t,dst with
  |some (.st i),some d=>match z.all c9,kz V d 0 (V.tys i) z with
   |true,(vs,os)=>match C2 (os.map (·.1))with
    |true=>k {val:= .agg vs,acc:=[],upd:=os,new:=os.map (·.1)}
    |false=>none
   |false,_=>none
  |_,_=>none
 |_,_,_=>none
def isD:Option (TO V.N)->Bool
 |some (.dvec ..)=>true
 |some (.pvec ..)=>true
 |_=>false
def JZ(pre:Nat->Bool)(o:Oper)(S:TS V.N):Bool:=match o.op with
 | .load _ x=>match tev S x with
  | .ep n _ _ _=>isD V (S.own? n)
  |_=>false
 | .store _ x _=>match tev S x with
  | .ep n _ _ _=>isD V (S.own? n)
  |_=>false
 | .indexAddr _ x _=>match tev S x with
  | .vh n=>isD V (S.own? n)
  |_=>false
 | .buildSlice _ _ _=>match o.dst with
  |some d=>pre (1000000+d)
  |none=>false
 | .call c=>match c.callee with
  | .builtin .append=>match c.args.toList with
   |[_,y]=>match tev S y with
    | .vh n=>isD V (S.own? n)
    | .sv .. =>true
    |_=>false
   |_=>false
  |_=>false
 | .slice _ _ _ _ _=>match o.dst with
  |some d=>pre (3000000+d)
  |none=>false
 | .build _ parts=>match parts.toList,o.dst with
  |[],some d=>pre (1000000+d)
  |_,_=>false
 |_=>false
def IP{A:Type}(o:Oper)(S:TS V.N)(k:TE V.N->Option A):Option A:=match o.op with
 | .call c=>match c.callee with
  | .builtin .append=>match c.args.toList.map (tev S)with
   |[_, .sv ..]=>Ck V P nm (c.args.toList.map (tev S)) c.argTypes.toList o.dst S k
   |_=>none
  |_=>none
 | .slice t x lo hi mx=>IL V P t x lo hi mx S k
 | .build t parts=>Cn V P t parts.toList o.dst k
 |_=>none
end
section
variable {V:gW}
theorem Ba(e:Ty V.ι)(ys:List (den V.N e)):TO.len (some (A_ V e ys))=ys.length:=by
 unfold A_
 split<;>rfl
theorem AX{n:Nat}:∀{l:List Nat},nin n l=true->n∉l
 |[],_=>by simp
 |k::r,h=>by
  simp only[nin,Qk,Sm]at h
  intro hm
  rcases Qu.1 hm with q|q
  ·subst q;simp at h
  ·exact AX h.2 q
theorem m5:∀{l:List Nat},C2 l=true->l.Nodup
 |[],_=> .nil
 |a::r,h=>by
  simp only[C2,Qk]at h
  exact R3.2 ⟨AX h.1,m5 h.2⟩
theorem dlen{S:TS V.N}{n:Nat}{te:TypeId}{e:Ty V.ι}{xs:List (den V.N e)}(h:S.own? n=some (.dvec te e xs)):S.len n=xs.length:=by unfold TS.len;rw[h];rfl
theorem zZ{S:TS V.N}{ns:List Nat}{m:Nat}{o:TO V.N}(h:gt (Db V S ns) m=some o):TO.len (some o)=S.len m:=by
 obtain⟨k,_,hk⟩:=QD.1 (cz h)
 simp only[QI]at hk
 obtain⟨rfl,rfl⟩:=hk
 rfl
theorem zY(ω:Nat->Nat)(S:TS V.N)(ns:List Nat):(Db V S ns).map (λp=>(p.1,bS V ω p.2))=ns.map λn=>(n,none):=by
 unfold Db
 rw[QJ]
 rfl
theorem vK{α:Type}:∀{l:List (Nat×α)} {n:Nat} {x:α},(l.map (·.1)).Nodup->(n,x)∈l->gt l n=some x
 |[],_,_,_,h=>by cases h
 |(k,y)::r,n,x,hn,h=>by
  rw[Qp,R3]at hn
  rw[aE]
  rcases Qu.1 h with q|q
  ·cases q;rw[TP rfl]
  ·rw[TN λe=>hn.1 (by rw[e];exact QD.2 ⟨_,q,rfl⟩)]
   exact vK hn.2 q
theorem uk{α:Type}{l:List (Nat×α)}{n:Nat}{x:α}(h:(n,x)∈l):n∈l.map (·.1):=QD.2 ⟨_,h,rfl⟩
section
variable {P:Program} {nm:Nat->Nat} {o:Oper} {S:TS V.N} {A:Type} {k:TE V.N->Option A} {r:A}
def OpD(P:Program)(nm:Nat->Nat)(o:Oper)(S:TS V.N)(k:TE V.N->Option A)(r:A):Prop:=
 ∃te,k te=some r/\good S te/\∃e',yM P nm o (Go.Awp.ev (aV V S)) (aV V S).own? e'/\ELe true e' (f6 (S.app o.dst te).len te)
theorem IM{t:TypeId}{x:Operand}{lo hi mx:Option Operand}(ho:o.op= .slice t x lo hi mx)(h:IL V P t x lo hi mx S k=some r):OpD P nm o S k r:=by
 unfold IL at h
 split at h
 ·rename_i te sz by_ n ht hx
  split at h
  ·rename_i te1 e xs hn
   split at h
   ·rename_i l u hl hu
    have h':=aF h;clear h
    obtain⟨hse,h⟩:=h'
    have h':=aF h;clear h
    obtain⟨⟨h0,h1,h2⟩,h⟩:=h'
    have hlen:S.len n=xs.length:=by unfold TS.len;rw[hn];rfl
    exact⟨_,h,iE S _ _,_, .cut (rows:=xs.map λx=>bN V.sz V.enc e x) (e:=te1) ho ht (by rw[aI,hx];simp only[aK];rw[hlen,Qg]) (by rw[cZ hn,hse]) (f8 hl) (by rw[Qg];exact f8 hu) h0 h1 (by rw[Qg];exact h2),rK rfl⟩
   ·cases h
  ·cases h
 ·cases h
theorem E6{c:Call}(ho:o.op= .call c)(hc:c.callee= .builtin .append)(h:Ck V P nm (c.args.toList.map (tev S)) c.argTypes.toList o.dst S k=some r):OpD P nm o S k r:=by
 unfold Ck at h
 split at h
 ·rename_i n sz lo i n2 sz2 j len t t' d hargs htys hdst
  split at h
  ·rename_i te sz' by_ te1 e xs ht hn
   have h':=aF h;clear h
   obtain⟨⟨⟨e1,e2⟩,⟨e3,e4⟩,e5,e6⟩,⟨e7,e8⟩,e9,e10,e11⟩:=h'.1
   have h:=h'.2
   subst e1;subst e2;subst e4;subst e5;subst e6;subst e7;subst e8
   obtain⟨p,q,hpq,hpx,hqx⟩:∃p q,c.args.toList=[p,q]/\tev S p= .sv n2 sz2 0 i/\tev S q= .sv n2 sz2 j (xs.length-j):=by
    match hcl:c.args.toList,hargs with
    |[p,q],hargs=>simp at hargs;exact⟨p,q,rfl,hargs.1,hargs.2⟩
    |[],hargs=>simp at hargs
    |[_],hargs=>simp at hargs
    |_::_::_::_,hargs=>simp at hargs
   have hca:c.args= #[p,q]:=by rw[<-RV];exact hpq
   have hct:c.argTypes= #[t,t]:=by rw[<-RV];exact htys
   have hone:(xs.map λx=>bN V.sz V.enc e x).all (λr=>r.all D.one)=true:=by
    rw[RI,Qq]
    intro y _
    exact qW
   refine⟨_,h,λm o1 hm=> ?_,_, .join (nm:=nm) (rows:=xs.map λx=>bN V.sz V.enc e x) (m:=n2) (i:=i) (j:=j) ho hc hca hct hdst ht (by rw[aI,hpx];rfl) (by rw[aI,hqx];simp only[aK,Qg]) (by rw[cZ hn,e3]) e9 (by rw[Qg];exact e10) hone (λe0=>by have:=congrArg Sj e0;rw[Qg,Ss]at this;omega),cw ?_ rfl ?_ rfl⟩
   ·simp only[aE]at hm
    by_cases q1:nm d=m
    ·left;simp[q1]
    ·rw[TN q1]at hm
     right
     by_cases q2:n2=m
     ·rw[TP q2]at hm;cases hm;subst q2;rfl
     ·rw[TN q2]at hm;simp[gt]at hm
   ·simp only[aK]
    rw[dt]
    simp only[aE,TK,TO.len,QB,QQ,QO,Qg]
    rw[Rp (by omega)]
   ·simp only[Qp,QW,bS,QU,Q9,Q_,e3]
  ·cases h
 ·cases h
theorem Fl{ω:Nat->Nat}{z:List Value}(hz:z.all c9=true):vg z (encL V ω (z.map tvc)) []:=by
 rw[iM hz]
 induction z with
 |nil=>exact .nil
 |cons x z ih=>exact .keep x (ih (by simp only[Rb,Qk]at hz;exact hz.2))
theorem Bb(e:Ty V.ι)(ω:Nat->Nat):∃o,bS V ω (A_ V e [])=some o/\∃a s,o= .vec a s []\/o= .dvec a s []:=by
 unfold A_
 split
 ·exact⟨_,rfl,V.tid e,_, .inl rfl⟩
 ·exact⟨_,rfl,V.tid e,_, .inr rfl⟩
theorem je(b:Nat)(ω:Nat->Nat):∀(z:List Value) (ts:List (Ty V.ι)) (j:Nat),z.all c9=true->(∀p∈(kz V b j ts z).2,ω p.1=0)->
 ∃os,vg z (encL V ω (kz V b j ts z).1) os/\os.map (λp=>(p.1,some p.2))=(kz V b j ts z).2.map (λp=>(p.1,bS V ω p.2))
 |[],ts,j,hz,_=>by
  cases ts<;>exact⟨[], .nil,rfl⟩
 |x::z,[],j,hz,_=>⟨[],by simp only[kz];exact Fl hz,rfl⟩
 |x::z,t::ts,j,hz,hω=>by
  have hz2:c9 x=true/\z.all c9=true:=by simpa only[Rb,Qk]using hz
  unfold kz at hω⊢
  split
  ·rename_i e
   obtain⟨os,h1,h2⟩:=je b ω z ts (j+1) hz2.2 λp hp=>hω p (Qm _ hp)
   obtain⟨o,o1,a,s,o2⟩:=Bb (V:=V) e ω
   refine⟨(Np b j,o)::os,?_,by simp only[Qp,h2,o1]⟩
   simp only[encL,aK]
   have:=hω _ Qo
   simp only at this
   rw[this]
   exact .new _ a s o o2 h1
  ·rename_i hno
   have hω':∀p∈(kz V b (j+1) ts z).2,ω p.1=0:=by
    intro p hp
    refine hω p ?_
    split
    ·exact Qm _ hp
    ·exact hp
   obtain⟨os,h1,h2⟩:=je b ω z ts (j+1) hz2.2 hω'
   refine⟨os,?_,h2⟩
   simp only[encL]
   have:aK V ω (tvc x)= .d (.v x):=by
    have:=iM (V:=V) (ω:=ω) (z:=[x]) (by simp[hz2.1])
    simpa[encL]using this
   rw[this]
   exact .keep x h1
theorem nR(b:Nat):∀(z:List Value) (ts:List (Ty V.ι)) (j:Nat),∀p∈(kz V b j ts z).2,TO.len (some p.2)=0
 |[],ts,j,p,hp=>by cases ts<;>cases hp
 |x::z,[],j,p,hp=>by cases hp
 |x::z,t::ts,j,p,hp=>by
  unfold kz at hp
  split at hp
  ·rcases Qu.1 hp with rfl|hp
   ·exact Ba _ _
   ·exact nR b z ts (j+1) p hp
  ·exact nR b z ts (j+1) p hp
theorem Fa{t:TypeId}{parts:Array (Nat×Operand)}(ho:o.op= .build t parts)(h:Cn V P t parts.toList o.dst k=some r):OpD P nm o S k r:=by
 unfold Cn at h
 split at h
 ·rename_i z pl hparts hz hpl
  have hpa:parts= #[]:=by rw[<-RV];exact hparts
  subst hpa
  split at h
  ·rename_i i d hty hdst
   split at h
   ·rename_i vs os hall hT
    split at h
    ·rename_i hdi
     have hdi:=m5 hdi
     have hlen:∀p∈os,(S.app o.dst {val:= .agg vs,acc:=[],upd:=os,new:=os.map (·.1)}).len p.1=0:=by
      intro p hp
      rw[dt]
      have:gt os p.1=some p.2:=vK hdi hp
      simp only[this]
      have h9:=nR (V:=V) d z (V.tys i) 0
      rw[hT]at h9
      exact h9 p hp
     obtain⟨os',h1,h2⟩:=je (V:=V) d (S.app o.dst {val:= .agg vs,acc:=[],upd:=os,new:=os.map (·.1)}).len z (V.tys i) 0 hall (by rw[hT];exact hlen)
     rw[hT]at h1 h2
     simp only at h1 h2
     have hnames:os.map (·.1)=os'.map (·.1):=by
      have:=congrArg (RM (·.1)) h2
      rw[QJ,QJ]at this
      exact this.symm
     refine⟨_,h,λm p hm=> .inl (uk (cz hm)),_, .nils ho hdst hz hpl h1 (by rw[<-hnames];exact hdi),cw rfl hnames.symm h2 rfl⟩
    ·cases h
   ·cases h
  ·cases h
 ·cases h
theorem uZ(_:∀te,k te=some r->∀d∈te.new,S.fresh d=true)(h:IP V P nm o S k=some r):OpD P nm o S k r:=by
 unfold IP at h
 split at h
 ·rename_i c ho
  split at h
  ·rename_i hc
   split at h
   ·exact E6 ho hc h
   ·cases h
  ·cases h
 ·rename_i t x lo hi mx ho;exact IM ho h
 ·rename_i t parts ho;exact Fa ho h
 ·cases h
end
end
end Go.Tx
end
section
namespace Go.Tx
open Go.Awp
variable [Inhabited GMem]
section
variable {V:gW}
theorem vF{α:Type}{s:Nat}:∀{rows:List (List α)} {i:Nat} {r:List α},(∀r∈rows,r.length=s)->rows[i]?=some r->(rows.flatten.drop (i *s)).take s=r
 |[],i,r,_,h=>by simp at h
 |x::rows,0,r,hz,h=>by
  simp only[Ri,Qd]at h
  subst h
  have:=hz x Qo
  simp[Q4,S8,this]
 |x::rows,i+1,r,hz,h=>by
  have hx:=hz x Qo
  have:=vF (λr hr=>hz r (Qm _ hr)) (by simpa using h)
  rw[Q4,QM,S_,hx,RR (by omega),QS]
  rw[show i *s+s-s=i *s by omega]
  exact this
theorem d8{α:Type}{s:Nat}:∀{rows:List (List α)},(∀r∈rows,r.length=s)->rows.flatten.length=rows.length *s
 |[],_=>by simp
 |x::r,h=>by
  rw[Q4,QB,h x Qo,d8 λy hy=>h y (Qm _ hy),QA,QM]
  omega
theorem jw(e:Ty V.ι)(xs:List (den V.N e)):∀r∈xs.map (λx=>bN V.sz V.enc e x),r.length=tsz V.sz e:=λr hr=>by
 obtain⟨x,_,rfl⟩:=QD.1 hr
 exact co e x
theorem qh{n i:Nat}{e:Ty V.ι}{xs:List (den V.N e)}{y:den V.N e}(hi:i<n)(hx:xs[i]?=some y):((bN V.sz V.enc (.ar n e) xs).drop (i *tsz V.sz e)).take (tsz V.sz e)=bN V.sz V.enc e y:=by
 have h1:=vF (s:=tsz V.sz e) (jw e xs) (i:=i) (r:=bN V.sz V.enc e y) (by rw[Qh,hx];rfl)
 have hil:i<xs.length:=(Qf.1 hx).1
 have h2:=d8 (jw (V:=V) e xs)
 rw[Qg]at h2
 have m1:(i+1) *tsz V.sz e<=n *tsz V.sz e:=Qw _ hi
 have m2:(i+1) *tsz V.sz e<=xs.length *tsz V.sz e:=Qw _ hil
 rw[QM]at m1 m2
 simp only[bN,arL]
 rw[List.drop_take,SK,Rp (by omega),List.drop_append_of_le_length (by omega),RL (by rw[QO];omega)]
 exact h1
theorem jy{α:Type}{s:Nat}:∀{rows:List (List α)} {i:Nat} {r:List α},(∀r∈rows,r.length=s)->i<rows.length->(rows.set i r).flatten=rows.flatten.take (i *s)++r++rows.flatten.drop (i *s+s)
 |[],i,r,_,h=>by simp at h
 |x::rows,0,r,hz,h=>by
  have hx:=hz x Qo
  simp[Q4,hx]
 |x::rows,i+1,r,hz,h=>by
  have hx:=hz x Qo
  have ih:=jy (r:=r) (λr hr=>hz r (Qm _ hr)) (by simpa using h)
  have e1:(x++rows.flatten).take ((i+1) *s)=x++rows.flatten.take (i *s):=by
   rw[S8,QP (l:=x) (by rw[hx,QM];omega),hx,QM,Nat.add_sub_cancel]
  have e2:(x++rows.flatten).drop ((i+1) *s+s)=rows.flatten.drop (i *s+s):=by
   rw[S_,(RR (by rw[hx,QM];omega):x.drop _=[]),hx,QM,QS]
   congr 1;omega
  simp only[List.set_cons_succ,Q4]
  rw[ih,e1,e2]
  simp[Rt]
theorem yS{n i:Nat}{e:Ty V.ι}{xs:List (den V.N e)}{y':den V.N e}(hi:i<n)(hx:i<xs.length):
 bN V.sz V.enc (.ar n e) (xs.set i y')=(bN V.sz V.enc (.ar n e) xs).take (i *tsz V.sz e)++bN V.sz V.enc e y'++(bN V.sz V.enc (.ar n e) xs).drop (i *tsz V.sz e+tsz V.sz e):=by
 have h2:=d8 (jw (V:=V) e xs)
 rw[Qg]at h2
 have m1:(i+1) *tsz V.sz e<=n *tsz V.sz e:=Qw _ hi
 have m2:(i+1) *tsz V.sz e<=xs.length *tsz V.sz e:=Qw _ hx
 rw[QM]at m1 m2
 have hl:=co e y'
 simp only[bN,arL,RQ]
 rw[jy (jw e xs) (by rw[Qg];exact hx)]
 generalize (RM (λx=>bN V.sz V.enc e x) xs).flatten=F at h2
 generalize bN V.sz V.enc e y'=c at hl
 generalize hs:tsz V.sz e=s at *
 generalize n *s=N at *
 apply Rw
 intro k
 simp only[Qz,Tp,QB,QQ,QH,Ta,QO,Ra]
 grind
theorem F1{ω:Nat->Nat}{n:Nat}{e:Ty V.ι}{xs:List (den V.N e)}:aK V ω (.lf (.ar n e) xs)= .d (.agg (bN V.sz V.enc (.ar n e) xs)):=rfl
theorem Ar{e:Ty V.ι}{y:den V.N e}{ds:List D}{ag:Bool}(h:ds.take (tsz V.sz e)=bN V.sz V.enc e y)(ha:ag= !e.cell):dK ag (tsz V.sz e) ds=some (aY V.sz V.enc e y):=by
 have hl:=co (V:=V) e y
 have hdl:tsz V.sz e<=ds.length:=by
  have:=congrArg Sj h
  rw[hl,QQ]at this;omega
 have cell:e.cell=true->bN V.sz V.enc e y=[aY V.sz V.enc e y]->tsz V.sz e=1->dK ag (tsz V.sz e) ds=some (aY V.sz V.enc e y):=by
  intro hc h1 h2
  rw[hc]at ha
  subst ha
  simp only[dK,Q8]
  rw[h1,h2]at h
  cases ds with
  |nil=>simp at h
  |cons d r=>simp at h;simp[h]
 cases e with
 |st i=>
  subst ha
  simp only[Ty.cell,R6,dK,TP hdl,h]
  rfl
 |ar n e=>
  subst ha
  simp only[Ty.cell,R6,dK,TP hdl,h]
  rfl
 |_=>exact cell rfl rfl rfl
theorem nW{S:TS V.N}{n m:Nat}{e:Ty V.ι}{xs:List (den V.N e)}(h:S.own? n=some (.bar m e xs)):(aV V S).own? n=some (.box none ((bN V.sz V.enc (.ar m e) xs).map .d)):=by rw[aZ,h];rfl
theorem Am{S:TS V.N}{n m:Nat}{e:Ty V.ι}{xs:List (den V.N e)}(h:S.own? n=some (.bar m e xs)):S.len n=0:=by unfold TS.len;rw[h];rfl
theorem qU{S:TS V.N}{n:Nat}{te:TypeId}{e:Ty V.ι}{xs:List (den V.N e)}(h:S.own? n=some (.que te e xs)):(aV V S).own? n=some (.que te (tsz V.sz e) (xs.map λx=>bN V.sz V.enc e x)):=by rw[aZ,h];rfl
theorem ug{S:TS V.N}{n:Nat}{te:TypeId}{e:Ty V.ι}{xs:List (den V.N e)}(h:S.own? n=some (.que te e xs)):S.len n=xs.length:=by unfold TS.len;rw[h];rfl
theorem gM{S:TS V.N}{n:Nat}{te:TypeId}{k v:Ty V.ι}{es:List (Option (List (den V.N k×den V.N v)))}{al:Option (Nat×Nat)}(h:S.own? n=some (.maps te k v es al)):
 (aV V S).own? n=some (.maps te (es.map λo=>o.map λl=>l.map λp=>(d6 V.enc k p.1,aY V.sz V.enc v p.2)) al):=by rw[aZ,h];rfl
theorem gI{S:TS V.N}{n:Nat}{te:TypeId}{k v:Ty V.ι}{es:List (Option (List (den V.N k×den V.N v)))}{al:Option (Nat×Nat)}(h:S.own? n=some (.maps te k v es al)):S.len n=es.length:=by unfold TS.len;rw[h];rfl
theorem jU{S:TS V.N}{n m:Nat}(h:S.own? n=some (.alias m)):(aV V S).own? n=none:=by rw[aZ,h];rfl
theorem jH{S:TS V.N}{n m:Nat}(h:S.own? n=some (.alias m)):S.len n=0:=by unfold TS.len;rw[h];rfl
end
section
variable (V:gW) (P:Program) (nm:Nat->Nat)
def fnF(e:Ty V.ι):TV V.N->TV V.N
 | .lf .fnc f=>match e with
  | .fno=> .lf .fno (some f)
  |_=> .lf .fnc f
 |v=>v
def u1{A:Type}(t:TypeId)(x i:Operand)(S:TS V.N)(k:TE V.N->Option A):Option A:=match ro P t,tev S x,tev S i with
 |some (len,_,ag,sz), .lf (.ar n e) xs, .lf (.int _) j=>if n=len/\sz=tsz V.sz e/\ag= !e.cell then
  if 0<=j/\j<len then xs[j.toNat]?>>=λy=>k {val:= .lf e y}else none
  else none
 |_,_,_=>none
def IQ{A:Type}(t:TypeId)(x i:Operand)(S:TS V.N)(k:TE V.N->Option A):Option A:=match ro P t,tev S i with
 |some (len,_,_,sz), .lf (.int _) j=>match tev S x with
  | .bp m 0=>match S.own? m with
   |some (.bar n e _)=>if n=len/\sz=tsz V.sz e then
    if 0<=j/\j<len then k {val:= .ai m sz j.toNat 0}else none
    else none
   |_=>none
  | .rp (.ar n e) xs 0=>if n=len/\sz=tsz V.sz e then
    if 0<=j/\j<len then xs[j.toNat]?>>=λy=>k {val:= .rp e y 0}else none
   else none
  | .ep m s i' off=>if 0<=j/\j<len then k {val:= .ep m s i' (off+j.toNat *sz)}else none
  |_=>none
 |_,_=>none
def uh{A:Type}(ag:Bool)(sz:Nat)(ot:Option (Ty V.ι)):(t:Ty V.ι)->den V.N t->Nat->(TV V.N->Option A)->Option A
 | .ar n e,xs,off,k=>if off=0/\ot=some (.ar n e)/\ag=true/\sz=tsz V.sz (.ar n e)then k (.lf (.ar n e) xs)
   else if off/tsz V.sz e<n then xs[off/tsz V.sz e]?>>=λy=>uh ag sz ot e y (off%tsz V.sz e) k else none
 |t,x,off,k=>match sc V ag sz ot t x off with
  |some v=>k v
  |none=>none
def wt{A:Type}(t:TypeId)(x:Operand)(S:TS V.N)(k:TE V.N->Option A):Option A:=match cK P t with
 |some (ag,sz)=>match tev S x with
  | .ai n s i off=>match S.own? n with
   |some (.bar m e xs)=>if s=tsz V.sz e/\off+L6 ag sz<=s then
    if i<m then xs[i]?>>=λy=>uh V ag sz (V.ty t) e y off λv=>k {val:=v,acc:=[n]}else none
    else none
   |_=>none
  | .bp n 0=>match S.own? n with
   |some (.bar m e xs)=>if V.ty t=some (.ar m e)/\ag=true/\sz=tsz V.sz (.ar m e)then k {val:= .lf (.ar m e) xs,acc:=[n]}else none
   |_=>none
  | .ep n s i off=>match S.own? n with
   |some (.vec _ e xs)=>if s=tsz V.sz e then xs[i]?>>=λy=>uh V ag sz (V.ty t) e y off λv=>k {val:=v,acc:=[n]}else none
   |some (.que _ e xs)=>if s=tsz V.sz e then xs[i]?>>=λy=>uh V ag sz (V.ty t) e y off λv=>k {val:=v,acc:=[n]}else none
   |_=>none
  | .rp t' y off=>uh V ag sz (V.ty t) t' y off λv=>k {val:=v}
  |_=>none
 |none=>none
def u7{A:Type}(t:TypeId)(x y:Operand)(S:TS V.N)(k:TE V.N->Option A):Option A:=match cK P t,TV.cells V (tev S y)with
 |some (_,sz),some cs=>match tev S x with
  | .ai n s i 0=>match S.own? n with
   |some (.bar m e xs)=>if s=tsz V.sz e/\cs.length=sz/\sz=s/\cs.all TV.one=true then
    if i<m then if i<xs.length then match di V true e cs with
     |some z=>k {val:= .junk,acc:=[n],upd:=[(n, .bar m e (xs.set i z))]}
     |none=>none
    else none else none
    else none
   |_=>none
  | .bp n 0=>match S.own? n,tev S y with
   |some (.bar m e _), .lf (.ar m' e') ys=>if m'=m/\e'=e/\sz=tsz V.sz (.ar m e)then k {val:= .junk,acc:=[n],upd:=[(n, .bar m' e' ys)]}else none
   |_,_=>none
  |_=>none
 |_,_=>none
def zeq:Value->Value->Bool
 | .int k n, .int k' n'=>decide (k=k')&&decide (n=n')
 | .bool a, .bool b=>a==b
 | .nilFunc, .nilFunc=>true
 | .string a, .string b=>decide (a=b)
 |_,_=>false
def Lx:List Value->List Value->Bool
 |[],[]=>true
 |a::r,b::s=>zeq a b&&Lx r s
 |_,_=>false
def uU{A:Type}(t:TypeId)(dst:Option Tmp)(k:TE V.N->Option A):Option A:=match V.ty t,gu P t,dst with
 |some (.ar n e),some z,some d=>match di V true e ((z.take (tsz V.sz e)).map tvc)with
  |some y=>if z.all c9=true/\r8 t z=none/\Lx z (QK n (z.take (tsz V.sz e))).flatten=true then k {val:= .bp (nm d) 0,upd:=[(nm d, .bar n e (QK n y))],new:=[nm d]}else none
  |none=>none
 |_,_,_=>none
def II{A:Type}(x:Operand)(dst:Option Tmp)(S:TS V.N)(k:TE V.N->Option A):Option A:=match tev S x,dst with
 | .lf (.ar n e) xs,some d=>k {val:= .bp (nm d) 0,upd:=[(nm d, .bar n e xs)],new:=[nm d]}
 |_,_=>none
def IV{A:Type}(x:Operand)(S:TS V.N)(k:TE V.N->Option A):Option A:=match tev S x with
 | .lf (.op e) y=>y>>=λz=>k {val:= .rp e z 0}
 |_=>none
def d_:List (Ty V.ι)->Option (List CK)
 |[]=>some []
 |t::r=>match t,d_ r with
  | .int k,some l=>some (.int k::l)
  | .bool,some l=>some (.bool::l)
  | .str,some l=>some (.str::l)
  |_,_=>none
def Ag(P:Program)(t:TypeId):Bool:=match P.underlying t with
 |some (.struct _)=>true
 |_=>false
def Kc(P:Program)(t:TypeId):Bool:=match P.underlying t with
 |some (.func _ _ _)=>true
 |_=>false
def IK{A:Type}(op:BinOp)(xt:TypeId)(x y:Operand)(S:TS V.N)(k:TE V.N->Option A):Option A:=match LW op,tev S x,tev S y with
 |some q, .lf (.op _) a, .raw (.pointer none)=>match kp P xt with
  |true=>match q with
   |true=>k {val:= .lf .bool a.isNone}
   |false=>k {val:= .lf .bool a.isSome}
  |false=>none
 |some q, .lf .fno a, .raw .nilFunc=>match Kc P xt with
  |true=>match q with
   |true=>k {val:= .lf .bool a.isNone}
   |false=>k {val:= .lf .bool a.isSome}
  |false=>none
 |some q, .lf (.st i) a, .lf (.st j) b=>if i=j/\Ag P xt=true/\P.eqGuardType P.depth xt=false/\(g9 P 100 xt).isSome=true/\d_ V (V.tys i)=g9 P 100 xt then match q with
  |true=>k {val:= .lf .bool (zK (V.cells i a) (V.cells j b))}
  |false=>k {val:= .lf .bool (!zK (V.cells i a) (V.cells j b))}
  else none
 |_,_,_=>none
def Kv{α:Type}:List α->Nat->α->List α
 |[],_,_=>[]
 |_::r,0,x=>x::r
 |a::r,i+1,x=>a::Kv r i x
def Ku(e:Ty V.ι):List (den V.N e)->List (Nat×TV V.N)->Option (List (den V.N e))
 |ys,[]=>some ys
 |ys,(i,x)::r=>if i<ys.length then match C4 V true e x with
  |some y=>Ku e (Kv ys i y) r
  |none=>none
  else none
def uV{A:Type}(t:TypeId)(parts:List (Nat×Operand))(S:TS V.N)(k:TE V.N->Option A):Option A:=match V.ty t,ro P t,gu P t with
 |some (.ar n e),some (len,_,_,sz),some z=>match di V true (.ar n e) (z.map tvc)with
  |some ys0=>if(n=len/\sz=tsz V.sz e)/\z.all c9=true/\Sj ys0=n then
   match Ku V e ys0 (parts.map λ(i,x)=>(i,fnF V e (fnT (tev S x))))with
   |some ys=>k {val:= .lf (.ar n e) ys}
   |none=>none
   else none
  |none=>none
 |_,_,_=>none
def uW{A:Type}(t:TypeId)(parts:List (Nat×Operand))(S:TS V.N)(k:TE V.N->Option A):Option A:=match gu P t,places P t with
 |some z,some pl=>if z.all c9=true then match tY V pl (z.map tvc) (parts.map λ(i,x)=>(i,fnT (tev S x)))with
  |some cs=>k {val:=mkV V true (V.ty t) cs}
  |none=>none
  else none
 |_,_=>none
def r6:Nat->List (TV V.N)->Option Nat
 |_,[]=>none
 |j,x::r=>match x with
  | .raw (.slice none 0 0)=>some j
  |_=>r6 (j+1) r
def uX{A:Type}(t:TypeId)(parts:List (Nat×Operand))(dst:Option Tmp)(S:TS V.N)(k:TE V.N->Option A):Option A:=match gu P t,places P t,V.ty t,dst with
 |some z,some pl,some (.st s),some d=>if z.all c9=true then match tY V pl (z.map tvc) (parts.map λ(i,x)=>(i,tev S x))with
  |some cs=>match r6 V 0 cs with
   |some j=>match(V.tys s)[j]? with
    |some (.sl e)=>match TV.hasL (53000+d) cs with
     |false=>k {val:= .agg (Kv cs j (.vh (53000+d))),upd:=[(53000+d, .vec (V.tid e) e [])],new:=[53000+d]}
     |true=>none
    |_=>none
   |none=>none
  |none=>none
  else none
 |_,_,_,_=>none
end
section
variable {V:gW} {P:Program} {nm:Nat->Nat} {o:Oper} {S:TS V.N} {A:Type} {k:TE V.N->Option A} {r:A}
def _root_.Go.Tx.Ty.flat0{ι:Type}:Ty ι->Bool
 | .int _=>true
 | .bool=>true
 | .str=>true
 |_=>false
theorem dj{v:TV V.N}{l:List Nat}{h:H}(hk:k {val:=v,acc:=l}=some r)(hs:aQ P nm o (Go.Awp.ev (aV V S)) (aV V S).own? {val:=h,acc:=l})(he:h=aK V S.len v):OpD P nm o S k r:=
 ⟨_,hk,iE S _ _,_, .sem hs,rK he⟩
theorem yx{t:TypeId}{x i:Operand}(ho:o.op= .index t x i)(h:u1 V P t x i S k=some r):OpD P nm o S k r:=by
 unfold u1 at h
 split at h
 ·rename_i len te ag sz n e xs kk j ht hx hi
  replace h:=aF h
  obtain⟨⟨e1,e2,e3⟩,h⟩:=h
  replace h:=aF h
  obtain⟨⟨h0,h1⟩,h⟩:=h
  replace h:=bT h
  obtain⟨y,hy,h⟩:=h
  subst e1;subst e2
  refine dj h (.index (n:=j) (ds:=bN V.sz V.enc (.ar n e) xs) ho ht (by rw[aI,hx];rfl) (by rw[aI,hi];rfl) h0 h1 (Ar (y:=y) (qh ((Int.toNat_lt h0).2 h1) hy) e3)) (by simp only[aK])
 ·cases h
theorem E5{t:TypeId}{x i:Operand}(ho:o.op= .indexAddr t x i)(h:IQ V P t x i S k=some r):OpD P nm o S k r:=by
 unfold IQ at h
 split at h
 ·rename_i len te ag sz kk j ht hi
  have hi':Go.Awp.ev (aV V S) i= .d (.v (.int kk j)):=by rw[aI,hi];rfl
  split at h
  ·rename_i m hx
   split at h
   ·rename_i n e xs hown
    replace h:=aF h
    obtain⟨⟨e1,e2⟩,h⟩:=h
    replace h:=aF h
    obtain⟨⟨h0,h1⟩,h⟩:=h
    exact dj h (.indexArr (hx':= .bp m (0+j.toNat *sz)) ho ht hi' h0 h1 (.inl ⟨m,0,by rw[aI,hx];rfl,rfl⟩)) (by simp[aK])
   ·cases h
  ·rename_i n e xs hx
   replace h:=aF h
   obtain⟨⟨e1,e2⟩,h⟩:=h
   replace h:=aF h
   obtain⟨⟨h0,h1⟩,h⟩:=h
   replace h:=bT h
   obtain⟨y,hy,h⟩:=h
   subst e1;subst e2
   have hj:Q1 j<n:=(Int.toNat_lt h0).2 h1
   have m1:(j.toNat+1) *tsz V.sz e<=n *tsz V.sz e:=Qw _ hj
   rw[QM]at m1
   refine dj h (.indexArr (n:=j) (hx':= .d (.rp (((bN V.sz V.enc (.ar n e) xs).drop (j.toNat *tsz V.sz e)).take (tsz V.sz e)))) ho ht hi' h0 h1 (.inr (.inr ⟨bN V.sz V.enc (.ar n e) xs,by rw[aI,hx];simp[aK],?_,rfl⟩))) ?_
   ·rw[co];exact m1
   ·rw[qh hj hy];simp[aK]
  ·rename_i m s i' off hx
   replace h:=aF h
   obtain⟨⟨h0,h1⟩,h⟩:=h
   exact dj h (.indexArr ho ht hi' h0 h1 (.inr (.inl ⟨m,s,i',off,by rw[aI,hx];rfl,rfl⟩))) (by simp[aK])
  ·cases h
 ·cases h
theorem Aq{ag:Bool}{sz:Nat}{a b:List D}{d:D}(h:dK ag sz a=some d):dK ag sz (a++b)=some d:=by
 cases ag with
 |true=>
  simp only[dK]at h⊢
  split at h
  ·rename_i hl
   rw[TP (by rw[QB];omega),RL hl];exact h
  ·cases h
 |false=>
  cases a with
  |nil=>simp[dK]at h
  |cons x r=>exact h
theorem sb{ag:Bool}{sz m off:Nat}{l row:List D}{d:D}(hr:l.take m=row)(h:dK ag sz (row.drop off)=some d):dK ag sz (l.drop off)=some d:=by
 rw[<-Sn m l,hr,S_]
 exact Aq h
theorem Ap{ag:Bool}{sz:Nat}{ds:List D}{d:D}(h:dK ag sz ds=some d):e_ ag sz (ds.map H.d)=some (.d d):=by
 cases ag with
 |true=>
  simp only[dK,e_,Qg]at h⊢
  split at h
  ·rename_i hl
   rw[TP hl,<-Q9,cq,dH]
   simp only[Qd]at h;subst h;rfl
  ·cases h
 |false=>
  cases ds with
  |nil=>simp[dK]at h
  |cons x r=>simp[dK]at h;subst h;rfl
theorem fl{ω:Nat->Nat}{ag:Bool}{sz:Nat}{ot:Option (Ty V.ι)}{B:Type}{f:TV V.N->Option B}{b:B}:∀(t:Ty V.ι) (x:den V.N t) (off:Nat),uh V ag sz ot t x off f=some b->
 ∃v,f v=some b/\∃d,dK ag sz ((bN V.sz V.enc t x).drop off)=some d/\∀ω,aK V ω v= .d d
 | .ar n e,xs,off,h=>by
  simp only[uh]at h
  split at h
  ·rename_i hc
   obtain⟨rfl,_,rfl,rfl⟩:=hc
   refine⟨_,h, .agg (bN V.sz V.enc (.ar n e) xs),?_,λω=>rfl⟩
   have hl:=co (V:=V) (.ar n e) xs
   simp only[dK,QV]
   rw[TP (by omega),QP (by omega)]
  ·obtain⟨hn,h⟩:=aF h
   replace h:=bT h
   obtain⟨y,hy,h⟩:=h
   obtain⟨v,h1,d,h2,h3⟩:=fl (ω:=ω) e y _ h
   refine⟨v,h1,d,?_,h3⟩
   have:=sb (qh hn hy) h2
   rw[Ry]at this
   rw[RG,R9]at this
   exact this
 | .int _,x,off,h=>loadL_k h
 | .bool,x,off,h=>loadL_k h
 | .str,x,off,h=>loadL_k h
 | .st _,x,off,h=>loadL_k h
 | .sl _,x,off,h=>loadL_k h
 | .mp _ _,x,off,h=>loadL_k h
 | .er,x,off,h=>loadL_k h
 | .op _,x,off,h=>loadL_k h
 | .fnc,x,off,h=>loadL_k h
 | .fno,x,off,h=>loadL_k h
where
 loadL_k {ag:Bool} {sz:Nat} {ot:Option (Ty V.ι)} {B:Type} {f:TV V.N->Option B} {b:B} {t:Ty V.ι} {x:den V.N t} {off:Nat} (h:(match sc V ag sz ot t x off with|some v=>f v|none=>none)=some b):
  ∃v,f v=some b/\∃d,dK ag sz ((bN V.sz V.enc t x).drop off)=some d/\∀ω,aK V ω v= .d d:=by
  split at h
  ·rename_i v hv
   obtain⟨d,h1,h2⟩:=fm (ω:=λ_=>0) hv
   refine⟨v,h,d,h1,λω=> ?_⟩
   obtain⟨d',h1',h2'⟩:=fm (ω:=ω) hv
   rw[h1]at h1';cases h1'
   exact h2'
  ·cases h
theorem s9{t:TypeId}{x:Operand}(ho:o.op= .load t x)(h:wt V P t x S k=some r):OpD P nm o S k r:=by
 unfold wt at h
 split at h
 ·rename_i ag sz ht
  have hop:o.op.operands= #[x]:=by rw[ho];rfl
  split at h
  ·rename_i n s i off hx
   split at h
   ·rename_i m e xs hown
    replace h:=aF h
    obtain⟨⟨e1,e2⟩,h⟩:=h
    replace h:=aF h
    obtain⟨hi,h⟩:=h
    replace h:=bT h
    obtain⟨y,hy,h⟩:=h
    obtain⟨v,h1,d,h2,h3⟩:=fl (ω:=S.len) _ _ _ h
    subst e1
    refine dj h1 (.ofAVal λρ' ω' hρ hω=> ?_) (h3 _).symm
    have hx':ρ' x= .bp n (i *tsz V.sz e+off):=by rw[hρ x (by rw[hop];simp),aI,hx];rfl
    have ho':ω' n=_:=(hω n (by simp)).trans (nW hown)
    simp only[bG,ho,ht,hx',ho']
    have:=sb (qh hi hy) h2
    rw[Ry]at this
    rw[<-Q_,Ap this]
   ·cases h
  ·rename_i n hx
   split at h
   ·rename_i m e xs hown
    replace h:=aF h
    obtain⟨⟨e1,e2,e3⟩,h⟩:=h
    subst e2;subst e3
    refine dj h (.ofAVal (e:={val:= .d (.agg (bN V.sz V.enc (.ar m e) xs)),acc:=[n]}) λρ' ω' hρ hω=> ?_) rfl
    have hx':ρ' x= .bp n 0:=by rw[hρ x (by rw[hop];simp),aI,hx];rfl
    have ho':ω' n=_:=(hω n (by simp)).trans (nW hown)
    simp only[bG,ho,ht,hx',ho']
    have hl:=co (V:=V) (.ar m e) xs
    rw[QV,Ap (d:= .agg (bN V.sz V.enc (.ar m e) xs)) (by simp only[dK];rw[TP (by omega),QP (by omega)])]
   ·cases h
  ·rename_i n s i off hx
   split at h
   ·rename_i te e xs hown
    replace h:=aF h
    obtain⟨e1,h⟩:=h
    replace h:=bT h
    obtain⟨y,hy,h⟩:=h
    obtain⟨v,h1,d,h2,h3⟩:=fl (ω:=S.len) _ _ _ h
    subst e1
    refine dj h1 (.ofAVal λρ' ω' hρ hω=> ?_) (h3 _).symm
    have hx':ρ' x= .ep n (tsz V.sz e) i off:=by rw[hρ x (by rw[hop];simp),aI,hx];rfl
    have ho':ω' n=_:=(hω n (by simp)).trans (cZ hown)
    simp only[bG,ho,ht,hx',ho',Qh,hy,QG,h2]
    exact⟨trivial,trivial⟩
   ·rename_i te e xs hown
    replace h:=aF h
    obtain⟨e1,h⟩:=h
    replace h:=bT h
    obtain⟨y,hy,h⟩:=h
    obtain⟨v,h1,d,h2,h3⟩:=fl (ω:=S.len) _ _ _ h
    subst e1
    exact dj h1 (.qload ho ht (by rw[aI,hx];rfl) (qU hown) (r:=bN V.sz V.enc e y) (by rw[Qh,hy];rfl) h2) (h3 _).symm
   ·cases h
  ·rename_i t' y off hx
   obtain⟨v,h1,d,h2,h3⟩:=fl (ω:=S.len) _ _ _ h
   refine dj h1 (.ofAVal λρ' ω' hρ hω=> ?_) (h3 _).symm
   have hx':ρ' x= .d (.rp ((bN V.sz V.enc t' y).drop off)):=by rw[hρ x (by rw[hop];simp),aI,hx];rfl
   simp only[bG,ho,ht,hx',h2]
  ·cases h
 ·cases h
theorem ux{n:Nat}{o':TO V.N}{x:Own}{l:List Nat}(hx:∀ω,bS V ω o'=some x)(hl:TO.len (some o')=S.len n)(hk:k {val:= .junk,acc:=l,upd:=[(n,o')]}=some r)
 (h:aQ P nm o (Go.Awp.ev (aV V S)) (aV V S).own? {val:= .junk,acc:=l,upd:=[(n,some x)]}):OpD P nm o S k r:=by
 refine⟨_,hk,λm o1 hm=> ?_,_, .sem h,cw rfl rfl (by simp[hx]) rfl⟩
 simp only[aE]at hm
 split at hm
 ·rename_i e;right;simp at hm;subst hm;subst e;exact hl
 ·simp[gt]at hm
theorem qR{d:Nat}{v:TV V.N}{h:H}{o':TO V.N}{x:Own}{l:List Nat}(hx:∀ω,bS V ω o'=some x)(hv:∀ω:Nat->Nat,ω d=TO.len (some o')->aK V ω v=h)(hk:k {val:=v,acc:=l,upd:=[(d,o')],new:=[d]}=some r)
 (hs:aQ P nm o (Go.Awp.ev (aV V S)) (aV V S).own? {val:=h,acc:=l,upd:=[(d,some x)],new:=[d]}):OpD P nm o S k r:=by
 refine⟨_,hk,λm o1 hm=> ?_,_, .sem hs,cw (hv _ ?_).symm rfl (by simp[hx]) rfl⟩
 ·simp only[aE]at hm
  split at hm
  ·rename_i e;left;simp[e]
  ·simp[gt]at hm
 ·rw[dt];simp[aE]
theorem yF{t:TypeId}{x y:Operand}(ho:o.op= .store t x y)(h:u7 V P t x y S k=some r):OpD P nm o S k r:=by
 unfold u7 at h
 split at h
 ·rename_i ag sz cs ht hcs
  have hop:o.op.operands= #[x,y]:=by rw[ho];rfl
  have hyc:=dC (ω:=S.len) hcs
  split at h
  ·rename_i n s i hx
   split at h
   ·rename_i m e xs hown
    replace h:=aF h
    obtain⟨⟨e1,e2,e3,e4⟩,h⟩:=h
    replace h:=aF h
    obtain⟨hi,h⟩:=h
    replace h:=aF h
    obtain⟨hil,h⟩:=h
    split at h
    ·rename_i z hz
     obtain⟨ds,d1,_,d3⟩:=dV (ω:=S.len) hz
     replace d3:=d3 rfl
     subst d3
     refine ux (x:= .box none ((bN V.sz V.enc (.ar m e) (xs.set i z)).map .d)) (λω=>rfl) (by rw[Am hown];rfl) h (.ofAVal λρ' ω' hρ hω=> ?_)
     have hx':ρ' x= .bp n (i *s+0):=by rw[hρ x (by rw[hop];simp),aI,hx];rfl
     have hy':(ρ' y).cells=some (encL V S.len cs):=by rw[hρ y (by rw[hop];simp),aI];exact hyc
     have ho':ω' n=_:=(hω n (by simp)).trans (nW hown)
     simp only[bG,ho,ht,hx',hy',ho',a_]
     have hl:=co (V:=V) (.ar m e) xs
     have m1:(i+1) *tsz V.sz e<=m *tsz V.sz e:=Qw _ hi
     rw[QM]at m1
     have hl2:(bN V.sz V.enc (.ar m e) xs).length=m *tsz V.sz e:=hl
     subst e1
     refine⟨⟨e2,eY e4,by rw[Qg,hl2];omega⟩,?_⟩
     have hzl:=co (V:=V) e z
     rw[yS hi hil,ej,a_,d1]
     simp only[QU,Q9,Q_,Rj]
     have:cs.length=tsz V.sz e:=by omega
     rw[this]
    ·cases h
   ·cases h
  ·rename_i n hx
   split at h
   ·rename_i m e xs m' e' ys hown hy
    replace h:=aF h
    obtain⟨⟨e1,e2,e3⟩,h⟩:=h
    subst e1;subst e2
    rw[hy]at hcs
    simp only[TV.cells,Qd]at hcs
    subst hcs
    have he:encL V S.len ((bC V (.ar m' e') ys).map λl=>TV.lf l.t l.x)=(bN V.sz V.enc (.ar m' e') ys).map H.d:=by
     rw[cN,aO,QJ,QJ]
     exact QL λl _=>by simp[aK]
    rw[he]at hyc
    refine ux (x:= .box none ((bN V.sz V.enc (.ar m' e') ys).map .d)) (λω=>rfl) (by rw[Am hown];rfl) h (.ofAVal λρ' ω' hρ hω=> ?_)
    have hx':ρ' x= .bp n 0:=by rw[hρ x (by rw[hop];simp),aI,hx];rfl
    have hy':(ρ' y).cells=some ((bN V.sz V.enc (.ar m' e') ys).map H.d):=by rw[hρ y (by rw[hop];simp),aI];exact hyc
    have ho':ω' n=_:=(hω n (by simp)).trans (nW hown)
    simp only[bG,ho,ht,hx',hy',ho']
    have hl:=co (V:=V) (.ar m' e') ys
    have hl2:=co (V:=V) (.ar m' e') xs
    refine⟨⟨by rw[Qg,hl,e3],?_,by rw[Qg,hl2,e3];omega⟩,?_⟩
    ·rw[RI]
     exact qW
    ·simp only[ej,Sv,QS,Qg,Qy]
     rw[Th (by rw[Qg];omega),RO]
   ·cases h
  ·cases h
 ·cases h
theorem Lc{a b:Value}(h:zeq a b=true):a=b:=by
 unfold zeq at h
 split at h
 ·simp only[Qk,TM]at h
  rw[h.1,h.2]
 ·rename_i a b
  have:a=b:=by simpa using h
  rw[this]
 ·rfl
 ·simp only[TM]at h;rw[h]
 ·cases h
theorem CA:∀{a b:List Value},Lx a b=true->a=b
 |[],[],_=>rfl
 |a::r,b::s,h=>by
  simp only[Lx,Qk]at h
  rw[Lc h.1,CA h.2]
 |[],_::_,h=>by cases h
 |_::_,[],h=>by cases h
theorem yp{t:TypeId}(ho:o.op= .alloc t)(h:uU V P nm t o.dst k=some r):OpD P nm o S k r:=by
 unfold uU at h
 split at h
 ·rename_i n e z d hty hz hd
  split at h
  ·rename_i y hy
   replace h:=aF h
   obtain⟨⟨h1,h2,h3⟩,h⟩:=h
   obtain⟨ds,d1,_,d3⟩:=dV (ω:=S.len) hy
   replace d3:=d3 rfl
   subst d3
   have h3:=CA h3
   have hrow:bN V.sz V.enc e y=(z.take (tsz V.sz e)).map .v:=by
    apply jJ
    rw[<-d1,aO]
    simp only[QJ]
    refine(QL λu hu=> ?_)
    have:c9 u=true:=Qq.1 h1 u (QY hu)
    simp only[RJ,u9]
    cases u<;>first|rfl|cases this
   have harr:bN V.sz V.enc (.ar n e) (QK n y)=z.map .v:=by
    simp only[bN,arL,RZ]
    have hl:=co (V:=V) e y
    rw[RL (by rw[d8 (s:=tsz V.sz e) (λr hr=>by rw[(SM.1 hr).2];exact hl),Ra];exact QF _),
     QP (by rw[d8 (s:=tsz V.sz e) (λr hr=>by rw[(SM.1 hr).2];exact hl),Ra];exact QF _)]
    rw[h3,List.map_flatten,RZ,hrow]
   refine qR (h:= .bp (nm d) 0) (x:= .box none ((bN V.sz V.enc (.ar n e) (QK n y)).map .d)) (λω=>rfl) (λω _=>rfl) h (.ofAVal λρ' ω' hρ hω=> ?_)
   simp only[bG,ho,hz,hd,h2]
   rw[harr,QJ]
   try rfl
  ·cases h
 ·cases h
theorem EX{t:TypeId}{x:Operand}(ho:o.op= .box t x)(h:II V nm x o.dst S k=some r):OpD P nm o S k r:=by
 unfold II at h
 split at h
 ·rename_i n e xs d hx hd
  refine qR (h:= .bp (nm d) 0) (x:= .box none ((bN V.sz V.enc (.ar n e) xs).map .d)) (λω=>rfl) (λω _=>rfl) h (.ofAVal λρ' ω' hρ hω=> ?_)
  have hx':ρ' x= .d (.agg (bN V.sz V.enc (.ar n e) xs)):=by rw[hρ x (by rw[ho];simp[Op.operands]),aI,hx];rfl
  simp only[bG,ho,hx',H.cells,hd]
  exact⟨none, .inl rfl,rfl⟩
 ·cases h
theorem E_{x:Operand}(ho:o.op= .nilCheck x)(h:IV V x S k=some r):OpD P nm o S k r:=by
 unfold IV at h
 split at h
 ·rename_i e y hx
  replace h:=bT h
  obtain⟨z,rfl,h⟩:=h
  refine dj h (.ofAVal (e:={val:= .d (.rp (bN V.sz V.enc e z))}) λρ' ω' hρ hω=> ?_) (by simp[aK])
  have hx':ρ' x= .d (.rp (bN V.sz V.enc e z)):=by rw[hρ x (by rw[ho];simp[Op.operands]),aI,hx];rfl
  simp only[bG,ho,hx']
 ·cases h
def hO{ι:Type}{N:ι->Type}:dB N->Value
 |⟨.int k,n⟩=> .int k n
 |⟨.bool,b⟩=> .bool b
 |⟨.str,s⟩=> .string s
 |_=> .nilIface
theorem jG:∀{ls:List (dB V.N)} {ks:List CK},d_ V (ls.map λl=>l.t)=some ks->(ls.map λl=>aY V.sz V.enc l.t l.x)=(ls.map hO).map .v/\gB ks (ls.map hO)=true
 |[],ks,h=>by simp[d_]at h;subst h;exact⟨rfl,rfl⟩
 |⟨t,x⟩::r,ks,h=>by
  simp only[Qp,d_]at h
  split at h
  ·rename_i k l hl
   simp at h;subst h
   obtain⟨h1,h2⟩:=jG hl
   exact⟨by simp only[Qp,h1];rfl,by simp[gB,hO,CK.is,h2]⟩
  ·rename_i l hl
   simp at h;subst h
   obtain⟨h1,h2⟩:=jG hl
   exact⟨by simp only[Qp,h1];rfl,by simp[gB,hO,CK.is,h2]⟩
  ·rename_i l hl
   simp at h;subst h
   obtain⟨h1,h2⟩:=jG hl
   exact⟨by simp only[Qp,h1];rfl,by simp[gB,hO,CK.is,h2]⟩
  ·cases h
theorem iT(x y:ByteArray):(x==y)=true↔x=y:=by
 obtain⟨a⟩:=x
 obtain⟨b⟩:=y
 show(a==b)=true↔_
 simp
theorem Hs{t:Ty V.ι}{x y:den V.N t}(ht:t.flat0=true):nb (hO (⟨t,x⟩:dB V.N)) (hO ⟨t,y⟩)=Li (⟨t,x⟩:dB V.N) ⟨t,y⟩:=by
 cases t with
 |int k=>rfl
 |bool=>rfl
 |str=>
  simp only[hO,Li,Mp.seq]
  rw[Bool.eq_iff_iff,o9 (k:= .str) rfl rfl]
  have e1:(Value.string x=Value.string y)↔(x=y):=by simp
  exact e1.trans (iT x y).symm
 |_=>cases ht
theorem zL:∀{ls ls':List (dB V.N)} {ks:List CK},d_ V (ls.map λl=>l.t)=some ks->d_ V (ls'.map λl=>l.t)=some ks->(ls.map λl=>l.t)=(ls'.map λl=>l.t)->cL (ls.map hO) (ls'.map hO)=zK ls ls'
 |[],[],_,_,_,_=>rfl
 |[],_::_,_,_,_,h=>by simp at h
 |_::_,[],_,_,_,h=>by simp at h
 |⟨t,x⟩::r,⟨t',y⟩::r',ks,h1,h2,h=>by
  simp only[Qp,Re]at h
  obtain⟨rfl,h⟩:=h
  have tl:∀{t:Ty V.ι} {ts:List (Ty V.ι)} {ks:List CK},d_ V (t::ts)=some ks->t.flat0=true/\∃ks',d_ V ts=some ks':=by
   intro t ts ks h
   simp only[d_]at h
   split at h<;>first|(exact⟨rfl,_,‹_›⟩)|cases h
  simp only[Qp]at h1 h2
  obtain⟨f1,k1,g1⟩:=tl h1
  obtain⟨f2,k2,g2⟩:=tl h2
  have g3:=g2
  rw[<-h]at g3
  have ih:=zL (ks:=k1) g1 (by rw[<-h];exact g1) h
  have he:=Hs (V:=V) (x:=x) (y:=y) f1
  simp only[Qp,cL,he,ih]
  cases r with
  |nil=>
   cases r' with
   |nil=>simp[zK]
   |cons b s=>simp at h
  |cons a q=>
   cases r' with
   |nil=>simp at h
   |cons b s=>simp[zK]
theorem dS{i:V.ι}{a:V.N i}{ks:List CK}(h:d_ V (V.tys i)=some ks):V.enc i a=((V.cells i a).map hO).map .v/\gB ks ((V.cells i a).map hO)=true:=by
 rw[<-V.tys_cells i a]at h
 rw[V.enc_cells]
 exact jG h
theorem vR{i:V.ι}{a b:V.N i}{ks:List CK}(h:d_ V (V.tys i)=some ks):cL ((V.cells i a).map hO) ((V.cells i b).map hO)=zK (V.cells i a) (V.cells i b):=
 zL (ks:=ks) (by rw[V.tys_cells];exact h) (by rw[V.tys_cells];exact h) (by rw[V.tys_cells,V.tys_cells])
theorem EZ{op:BinOp}{xt yt:TypeId}{x y:Operand}(ho:o.op= .binOp op xt x y yt)(h:IK V P op xt x y S k=some r):OpD P nm o S k r:=by
 unfold IK at h
 split at h
 ·rename_i q e a hq hx hy
  split at h
  ·rename_i hp
   have key:∀b:Bool,k {val:= .lf .bool (if q=true then b else !b)}=some r->mn P xt (aY V.sz V.enc (.op e) a) (.v (.pointer none)) b->OpD P nm o S k r:=λb hk hc=>
    dj hk (.cmp ho hq (by rw[aI,hx];rfl) (by rw[aI,hy];rfl) hc) rfl
   have hc:mn P xt (aY V.sz V.enc (.op e) a) (.v (.pointer none)) a.isNone:=by
    cases a with
    |none=>exact .pn hp
    |some z=>exact .rp hp
   refine key _ ?_ hc
   split at h<;>cases a<;>exact h
  ·cases h
 ·rename_i q a hq hx hy
  split at h
  ·rename_i hp
   have hp':∃x y z,P.underlying xt=some (.func x y z):=by
    unfold Kc at hp
    split at hp
    ·exact⟨_,_,_,‹_›⟩
    ·cases hp
   have key:∀b:Bool,k {val:= .lf .bool (if q=true then b else !b)}=some r->mn P xt (aY V.sz V.enc .fno a) (.v .nilFunc) b->OpD P nm o S k r:=λb hk hc=>
    dj hk (.cmp ho hq (by rw[aI,hx];rfl) (by rw[aI,hy];rfl) hc) rfl
   have hc:mn P xt (aY V.sz V.enc .fno a) (.v .nilFunc) (Option.isNone (α:=Nat) a):=by
    cases a with
    |none=>exact .nf hp'
    |some z=>exact .fn hp'
   refine key _ ?_ hc
   split at h<;>cases a<;>exact h
  ·cases h
 ·rename_i q i a j b hq hx hy
  replace h:=aF h
  obtain⟨⟨e1,hs,hg,hf,hks⟩,h⟩:=h
  subst e1
  obtain⟨ks,hks'⟩:=Su.1 hf
  rw[hks']at hks
  obtain⟨a1,a2⟩:=dS (a:=a) hks
  obtain⟨b1,b2⟩:=dS (a:=b) hks
  have hs':∃fs,P.underlying xt=some (.struct fs):=by
   unfold Ag at hs
   split at hs
   ·exact⟨_,‹_›⟩
   ·cases hs
  have hc:mn P xt (.agg (V.enc i a)) (.agg (V.enc i b)) (zK (V.cells i a) (V.cells i b)):=by
   rw[a1,b1,<-vR hks]
   exact .st hs' hg (by decide) hks' a2 b2
  have key:k {val:= .lf .bool (if q=true then zK (V.cells i a) (V.cells i b)else !zK (V.cells i a) (V.cells i b))}=some r->OpD P nm o S k r:=λhk=>
   dj hk (.cmp ho hq (by rw[aI,hx,i6]) (by rw[aI,hy,i6]) hc) rfl
  refine key ?_
  split at h<;>exact h
 ·cases h
theorem yR{n sz i:Nat}(h:i<n):(wM n sz)[i]?=some (i *sz,sz):=by
 unfold wM
 rw[Qh,Ru h];rfl
theorem Hu{ω:Nat->Nat}(e:Ty V.ι)(v:TV V.N):aK V ω (fnF V e v)=aK V ω v:=by
 unfold fnF
 split
 ·cases e<;>rfl
 ·rfl
theorem uJ{α:Type}:∀(l:List α) (i:Nat) (x:α),Kv l i x=l.set i x
 |[],_,_=>rfl
 |_::_,0,_=>rfl
 |a::r,i+1,x=>by rw[Kv,uJ r i x];rfl
theorem kJ{ω:Nat->Nat}{z:List Value}(h:z.all c9=true):encL V ω (z.map tvc)=z.map λx=>H.d (.v x):=by
 rw[aO]
 simp only[QJ]
 refine QL λu hu=> ?_
 have:c9 u=true:=Qq.1 h u hu
 simp only[RJ,u9]
 cases u<;>first|rfl|cases this
theorem pH{ω:Nat->Nat}{n:Nat}{e:Ty V.ι}:∀{parts:List (Nat×TV V.N)} {ys ys':List (den V.N e)},Ku V e ys parts=some ys'->ys.length=n->
 lK (wM n (tsz V.sz e)) ((bN V.sz V.enc (.ar n e) ys).map .d) (parts.map λp=>(p.1,aK V ω p.2))=some ((bN V.sz V.enc (.ar n e) ys').map .d)
 |[],ys,ys',h,_=>by
  simp only[Ku,Qd]at h
  subst h;rfl
 |(i,x)::r,ys,ys',h,hn=>by
  simp only[Ku]at h
  replace h:=aF h
  obtain⟨hi,h⟩:=h
  split at h
  ·rename_i y hy
   obtain⟨cs,ds,h1,h2,_,h4⟩:=m7 (ω:=ω) hy
   replace h4:=h4 rfl
   subst h4
   have hc:=dC (ω:=ω) h1
   have hl:=co (V:=V) e y
   have hcl:cs.length=tsz V.sz e:=by
    have:=congrArg Sj h2
    rw[a_,Qg,hl]at this;exact this
   have hL:=co (V:=V) (.ar n e) ys
   have hL2:(bN V.sz V.enc (.ar n e) ys).length=n *tsz V.sz e:=hL
   have m1:(i+1) *tsz V.sz e<=n *tsz V.sz e:=Qw _ (by omega)
   rw[QM]at m1
   rw[uJ]at h
   have ih:=pH (ω:=ω) (n:=n) h (by rw[Q6];exact hn)
   simp only[Qp,lK,yR (by omega:i<n),hc]
   rw[TP ⟨by rw[a_];exact hcl,by rw[Qg,hL2];omega⟩,<-ih]
   congr 1
   rw[ej,a_,hcl,h2,yS (by omega) hi]
   simp only[QU,Q9,Q_]
  ·cases h
theorem yq{t:TypeId}{parts:Array (Nat×Operand)}(ho:o.op= .build t parts)(h:uV V P t parts.toList S k=some r):OpD P nm o S k r:=by
 unfold uV at h
 split at h
 ·rename_i n e len te ag sz z hty ht hz
  split at h
  ·rename_i ys0 hys0
   replace h:=aF h
   obtain⟨⟨⟨e1,e2⟩,e3,e4⟩,h⟩:=h
   split at h
   ·rename_i ys hys
    subst e1;subst e2
    obtain⟨ds,d1,_,d3⟩:=dV (ω:=S.len) hys0
    replace d3:=d3 rfl
    subst d3
    rw[kJ e3]at d1
    have hf:=pH (ω:=S.len) (n:=n) hys e4
    have hp:((parts.toList.map λ(i,x)=>(i,fnF V e (fnT (tev S x)))).map λp=>(p.1,aK V S.len p.2))=parts.toList.map λ(i,x)=>(i,fnD (Go.Awp.ev (aV V S) x)):=by
     rw[QJ]
     refine QL λp _=> ?_
     simp only[RJ,Hu,qu,aI]
    rw[hp,<-d1]at hf
    refine dj h (.buildArr ho ht hz hf) ?_
    rw[cq,dH,F1]
   ·cases h
  ·cases h
 ·cases h
theorem yr{t:TypeId}{parts:Array (Nat×Operand)}(ho:o.op= .build t parts)(h:uW V P t parts.toList S k=some r):OpD P nm o S k r:=by
 unfold uW at h
 split at h
 ·rename_i z pl hz hpl
  replace h:=aF h
  obtain⟨hzc,h⟩:=h
  split at h
  ·rename_i cs hcs
   have hf:=gA (ω:=S.len) hcs
   have hp:((parts.toList.map λ(i,x)=>(i,fnT (tev S x))).map λp=>(p.1,aK V S.len p.2))=parts.toList.map λ(i,x)=>(i,fnD (Go.Awp.ev (aV V S) x)):=by
    rw[QJ]
    refine QL λp _=> ?_
    simp only[RJ,qu,aI]
   rw[hp,kJ hzc]at hf
   exact dj h (.buildSt ho hz hpl hf) (ib.2 rfl)
  ·cases h
 ·cases h
theorem nr:∀{l:List (TV V.N)} {j i:Nat},r6 V j l=some i->j<=i/\l[i-j]?=some (.raw (.slice none 0 0))
 |[],_,_,h=>by simp[r6]at h
 |x::r,j,i,h=>by
  simp only[r6]at h
  split at h
  ·simp only[Qd]at h
   subst h
   exact⟨QF _,by simp⟩
  ·obtain⟨h1,h2⟩:=nr h
   refine⟨by omega,?_⟩
   have:i-j=(i-(j+1))+1:=by omega
   rw[this]
   simpa using h2
theorem yu{t:TypeId}{parts:Array (Nat×Operand)}(ho:o.op= .build t parts)(h:uX V P t parts.toList o.dst S k=some r):OpD P nm o S k r:=by
 unfold uX at h
 split at h
 ·rename_i z pl s d hz hpl hty hd
  replace h:=aF h
  obtain⟨hzc,h⟩:=h
  split at h
  ·rename_i cs hcs
   split at h
   ·rename_i j hj
    split at h
    ·rename_i e he
     split at h
     ·rename_i hno
      rw[uJ]at h
      have hf:=gA (ω:=S.len) hcs
      have hp:((parts.toList.map λ(i,x)=>(i,tev S x)).map λp=>(p.1,aK V S.len p.2))=parts.toList.map λ(i,x)=>(i,Go.Awp.ev (aV V S) x):=by
       rw[QJ]
       refine QL λp _=> ?_
       simp only[RJ,aI]
      rw[hp,kJ hzc]at hf
      have hjc:cs[j]?=some (.raw (.slice none 0 0)):=by have:=(nr hj).2;simpa using this
      have base:aQ P nm o (Go.Awp.ev (aV V S)) (aV V S).own? {val:=cq (encL V S.len cs)}:= .ofAVal λρ' ω' hρ hω=>by
       have hpp:(parts.toList.map λ(i,x)=>(i,ρ' x))=parts.toList.map λ(i,x)=>(i,Go.Awp.ev (aV V S) x):=by
        refine QL λp hp=> ?_
        have:ρ' p.2=_:=hρ p.2 (by rw[ho];simp only[Op.operands];simpa using ⟨p.1,by simpa using hp⟩)
        simp only[this]
       simp only[bG,ho,hz,hpl,hpp,hf]
      refine⟨_,h,λm o1 hm=> ?_,_, .sem (.nilTop (nn:=53000+d) (e:=V.tid e) (sz:=tsz V.sz e) (i:=j) hd (by rw[aO,Qh,hjc];rfl) (by rw[encL_has];exact hno) base),cw ?_ rfl rfl rfl⟩
      ·simp only[aE]at hm
       split at hm
       ·rename_i q;left;simp[q]
       ·simp[gt]at hm
      ·simp only[aK]
       congr 1
       rw[aO _ (cs.set j _),RQ]
       congr 1
       ·rw[<-aO]
        refine(encL_congr cs λq hq=> ?_).symm
        rw[dt]
        simp only[aE]
        rw[TN λe0=>by rw[<-e0,hno]at hq;cases hq]
        rfl
       ·simp only[aK]
        rw[dt]
        simp only[aE,TK]
        rfl
     ·cases h
    ·cases h
   ·cases h
  ·cases h
 ·cases h
end
end Go.Tx
end
section
namespace Go.Tx
open Go.Awp
variable [Inhabited GMem]
section
variable (V:gW) (P:Program) (nm:Nat->Nat)
def bK(d:Nat):Nat:=50000+d
def jE(kt:TypeId):Ty V.ι->Bool
 | .st i=>Ag P kt&&match g9 P 100 kt with
  |some ks=>decide (d_ V (V.tys i)=some ks)
  |none=>false
 |tk=>eU (P.underlying kt) tk
def oP{B:Type}(S:TS V.N)(n:Nat)(f:(m:Nat)->TypeId->(tk tv:Ty V.ι)->List (Option (List (den V.N tk×den V.N tv)))->Nat->List (den V.N tk×den V.N tv)->Option B):Option B:=match S.own? n with
 |some (.alias m)=>match S.own? m with
  |some (.maps te tk tv es (some (n',i)))=>if n'=n/\¬n=m then es[i]?>>=λo=>o>>=λm0=>f m te tk tv es i m0 else none
  |_=>none
 |_=>none
def Dm{B:Type}(c:Bool)(tk tv:Ty V.ι)(key:den V.N tk)(z:den V.N tv)(es:List (den V.N tk×den V.N tv))(f:TV V.N->B):B:=match c with
 |true=>f (.tup [.lf tv ((Mp.get (keq V.cells tk) key es).getD z), .lf .bool (Mp.get (keq V.cells tk) key es).isSome])
 |false=>f (.lf tv ((Mp.get (keq V.cells tk) key es).getD z))
def Cl{A:Type}(t:TypeId)(x i:Operand)(c:Bool)(S:TS V.N)(k:TE V.N->Option A):Option A:=match P.underlying t,tev S x,tev S i with
 |some (.map kt et), .mp n, .lf tk key=>match kI P et with
  |some d=>match S.own? n with
   |some (.map tk' tv es)=>match ofZ V true tv d with
    |some z=>if h:tk=tk' then if jE V P kt tk'=true then Dm V c tk' tv (h▸key) z es λv=>k {val:=v,acc:=[n]}else none else none
    |none=>none
   |_=>oP V S n λm te tk' tv es j m0=>match ofZ V true tv d with
    |some z=>if h:tk=tk' then if jE V P kt tk'=true then Dm V c tk' tv (h▸key) z m0 λv=>k {val:=v,acc:=[m,n],upd:=[(m, .maps te tk' tv es (some (n,j))),(n, .alias m)]}else none else none
    |none=>none
  |none=>none
 |_,_,_=>none
def Fk{A:Type}(t:TypeId)(x i y:Operand)(S:TS V.N)(k:TE V.N->Option A):Option A:=match P.underlying t,tev S x,tev S i,tev S y with
 |some (.map kt _), .mp n, .lf tk key, .lf tv z=>match S.own? n with
  |some (.map tk' tv' es)=>if h:tk=tk' then
   if h':tv=tv' then
    if jE V P kt tk'=true then k {val:= .junk,acc:=[n],upd:=[(n, .map tk' tv' (Mp.set (keq V.cells tk') (klt tk') (h▸key) (h'▸z) es))]}else none
   else none
   else none
  |_=>oP V S n λm te tk' tv' es j m0=>if h:tk=tk' then
   if h':tv=tv' then
    if jE V P kt tk'=true then k {val:= .junk,acc:=[m,n],upd:=[(m, .maps te tk' tv' (es.set j (some (Mp.set (keq V.cells tk') (klt tk') (h▸key) (h'▸z) m0))) (some (n,j))),(n, .alias m)]}else none
   else none
   else none
 |_,_,_,_=>none
def IR{A:Type}(args:List (TV V.N))(tys:List TypeId)(S:TS V.N)(k:TE V.N->Option A):Option A:=match args with
 |[.mp n]=>if du P tys=3 then oP V S n λm te tk tv es j m0=>k {val:= .lf (.int .i64) m0.length,acc:=[m,n],upd:=[(m, .maps te tk tv es (some (n,j))),(n, .alias m)]}else none
 |_=>none
def u3{A:Type}(t:TypeId)(x:Operand)(dst:Option Tmp)(S:TS V.N)(k:TE V.N->Option A):Option A:=match P.underlying t,tev S x,dst with
 |some (.map _ _), .mp n,some d=>oP V S n λm te tk tv es j m0=>
  if¬bK d=n/\¬bK d=m then k {val:= .bp (bK d) 0,acc:=[m,n],upd:=[(bK d, .miter n tk tv m0 m0 none),(n, .gone 0),(m, .maps te tk tv (es.set j none) none)],new:=[bK d]}else none
 |_,_,_=>none
def rg{A:Type}(t:TypeId)(x i:Operand)(S:TS V.N)(k:TE V.N->Option A):Option A:=match cj P t,tev S x,tev S i with
 |some (_,sz,_), .vh m, .lf (.int _) n=>match S.own? m with
  |some (.maps _ _ _ es _)=>if 0<=n/\n<es.length then k {val:= .ep m sz n.toNat 0,acc:=[m]}else none
  |some (.que _ _ xs)=>if 0<=n/\n<xs.length then k {val:= .ep m sz n.toNat 0,acc:=[m]}else none
  |_=>none
 |_,_,_=>none
def ox{A:Type}(t:TypeId)(x:Operand)(dst:Option Tmp)(S:TS V.N)(k:TE V.N->Option A):Option A:=match cK P t,tev S x,dst with
 |some (false,1), .ep m 1 i 0,some d=>match S.own? m with
  |some (.maps te tk tv es _)=>es[i]?>>=λo=>o>>=λ_=>if¬bK d=m then k {val:= .mp (bK d),acc:=[m],upd:=[(m, .maps te tk tv es (some (bK d,i))),(bK d, .alias m)],new:=[bK d]}else none
  |_=>none
 |_,_,_=>none
def kG{A:Type}(t:TypeId)(x y:Operand)(S:TS V.N)(k:TE V.N->Option A):Option A:=match cK P t,tev S x,tev S y with
 |some (_,1), .ep m 1 i 0, .mp n=>match S.own? m,S.own? n with
  |some (.maps te tk tv es _),some (.map tk' tv' e0)=>if h:tk'=tk/\tv'=tv then
   if i<es.length/\¬n=m then k {val:= .junk,acc:=[m,n],upd:=[(m, .maps te tk tv (es.set i (some (h.1▸h.2▸e0))) none),(n, .gone 0)]}else none
   else none
  |_,_=>none
 |_,_,_=>none
def ow{A:Type}(t:TypeId)(l c:Operand)(dst:Option Tmp)(S:TS V.N)(k:TE V.N->Option A):Option A:=match V.ty t,cj P t,dst with
 |some (.sl (.mp tk tv)),some (te,1,bytes),some d=>match gu P te,tev S l,tev S c with
  |some [_], .lf (.int _) _, .lf (.int _) m=>match pG l c with
   |true=>if bytes<=32768 then if 0<=m then if m<=4294967296 then k {val:= .vh (bK d),upd:=[(bK d, .maps te tk tv (QK m.toNat none) none)],new:=[bK d]}else none else none else none
   |false=>none
  |_,_,_=>none
 |_,_,_=>none
def uY{A:Type}(t:TypeId)(len:Nat)(parts:List (Nat×Operand))(dst:Option Tmp)(S:TS V.N)(k:TE V.N->Option A):Option A:=match cj P t,V.ty t,dst with
 |some (te,sz,_),some (.sl e),some d=>if sz=tsz V.sz e/\parts.length=len/\len *sz<=16777216/\0<len then
  match xR V true e 0 (parts.map λ(i,x)=>(i,fnT (tev S x)))with
  |some ys=>k {val:= .vh (bK d),upd:=[(bK d, .que te e ys)],new:=[bK d]}
  |none=>none
  else none
 |_,_,_=>none
def u6{A:Type}(t:TypeId)(x:Operand)(lo hi mx:Option Operand)(dst:Option Tmp)(S:TS V.N)(k:TE V.N->Option A):Option A:=match mx,cj P t,dst,tev S x with
 |none,some (_,sz,_),some d, .vh m=>match lo,hi,S.own? m with
  |some l,none,some (.que te e xs)=>match tev S l with
   | .lf (.int _) n=>if sz=tsz V.sz e then if 0<=n then if n<=xs.length then k {val:= .vh (bK d),acc:=[m],upd:=[(bK d, .que te e (xs.drop n.toNat)),(m, .gone (S.len m))],new:=[bK d]}else none else none else none
   |_=>none
  |none,some h,some (.vec te e xs)=>match tev S h with
   | .lf (.int _) n=>if 0<=n then if n<=xs.length then k {val:= .vh (bK d),acc:=[m],upd:=[(bK d, .vec te e (xs.take n.toNat)),(m, .gone (S.len m))],new:=[bK d]}else none else none
   |_=>none
  |_,_,_=>none
 |_,_,_,_=>none
def IH{A:Type}(args:List (TV V.N))(tys:List TypeId)(dst:Option Tmp)(S:TS V.N)(k:TE V.N->Option A):Option A:=match args,tys,dst with
 |[x,y],[t,t'],some d=>match cj P t with
  |some (te,sz,bytes)=>if t=t'/\bytes<=32768 then match y with
   | .lf (.sl e') (y0::ys)=>match x with
    | .vh n=>match S.own? n with
     |some (.que te2 e xs)=>if h:e'=e then
      if te=te2/\sz=tsz V.sz e then
       if xs.length+(y0::ys).length<=most then k {val:= .vh (bK d),acc:=[n],upd:=[(bK d, .que te e (xs++h▸(y0::ys))),(n, .gone (S.len n))],new:=[bK d]}else none
      else none
      else none
     |_=>none
    |_=>none
   | .sv m sz2 lo len=>match S.own? m with
    |some (.vec _ e2 xs2)=>if sz=tsz V.sz e2/\sz2=sz then
     if lo+len<=xs2.length then match x with
      | .vh n=>match S.own? n with
       |some (.vec te1 e xs)=>if h:e2=e then
        if te=te1/\¬n=m then
         if xs.length+len<=most then k {val:= .vh (bK d),acc:=[m,n],upd:=[(bK d, .vec te e (xs++h▸(xs2.drop lo).take len)),(n, .gone (S.len n))],new:=[bK d]}else none
        else none
        else none
       |_=>none
      | .raw (.slice none 0 0)=>if len<=most then k {val:= .vh (bK d),acc:=[m],upd:=[(bK d, .vec te e2 ((xs2.drop lo).take len))],new:=[bK d]}else none
      |_=>none
     else none
     else none
    |_=>none
   |_=>none
   else none
  |none=>none
 |_,_,_=>none
def Ch{A:Type}(args:List (TV V.N))(tys:List TypeId)(S:TS V.N)(k:TE V.N->Option A):Option A:=match args,tys with
 |[.vh m,y],t::_=>match cj P t,S.own? m with
  |some (te,sz,_),some (.vec te1 e xs)=>if te=te1/\sz=tsz V.sz e then match y with
   | .sv m2 sz2 lo len=>match S.own? m2 with
    |some (.vec _ e2 xs2)=>if h:e2=e then
     if sz2=sz/\¬m2=m then
      if lo+len<=xs2.length then k {val:= .lf (.int .i64) (min len xs.length:Nat),acc:=[m,m2],upd:=[(m, .vec te e (((h▸(xs2.drop lo).take len).take xs.length)++xs.drop len))]}else none
     else none
     else none
    |_=>none
   | .lf (.sl e2) ys=>if h:e2=e then k {val:= .lf (.int .i64) (min ys.length xs.length:Nat),acc:=[m],upd:=[(m, .vec te e (((h▸ys).take xs.length)++xs.drop ys.length))]}else none
   |_=>none
   else none
  |_,_=>none
 |_,_=>none
def IJ{A:Type}(x:Operand)(S:TS V.N)(k:TE V.N->Option A):Option A:=match tev S x with
 | .lf (.st i) y=>k {val:= .lf (.op (.st i)) (some y)}
 |_=>none
end
section
variable {V:gW} {P:Program} {nm:Nat->Nat} {o:Oper} {S:TS V.N} {A:Type} {k:TE V.N->Option A} {r:A}
theorem De{t:TypeId}(h:Ag P t=true):∃fs,P.underlying t=some (.struct fs):=by
 unfold Ag at h
 split at h
 ·exact⟨_,‹_›⟩
 ·cases h
theorem qA{kt:TypeId}{i:V.ι}(h:jE V P kt (.st i)=true):∃fs ks,P.underlying kt=some (.struct fs)/\g9 P 100 kt=some ks/\d_ V (V.tys i)=some ks:=by
 simp only[jE,Qk]at h
 obtain⟨fs,hfs⟩:=De h.1
 have h2:=h.2
 split at h2
 ·rename_i ks hks
  exact⟨fs,ks,hfs,hks,by simpa using h2⟩
 ·cases h2
theorem Fo(xs:List Value):(xs.map D.v).map Ol=xs:=by
 rw[QJ]
 exact(QL λx _=>rfl).trans (List.map_id xs)
theorem nA{kt:TypeId}{i:V.ι}(h:jE V P kt (.st i)=true)(x:V.N i):V.enc i x=((V.cells i x).map hO).map .v/\d6 V.enc (.st i) x= .agg ((V.cells i x).map hO).toArray:=by
 obtain⟨fs,ks,h1,h2,h3⟩:=qA h
 obtain⟨a1,a2⟩:=dS (a:=x) h3
 refine⟨a1,?_⟩
 simp only[d6]
 rw[a1,Fo]
theorem hI{kt:TypeId}{tk:Ty V.ι}(h:jE V P kt tk=true):(∃i,tk= .st i)\/∃kind,P.underlying kt=some kind/\eU (some kind) tk=true:=by
 cases tk with
 |st i=>exact .inl ⟨i,rfl⟩
 |_=>
  right
  simp only[jE]at h
  cases hu:P.underlying kt with
  |none=>rw[hu]at h;simp[eU]at h
  |some kind=>rw[hu]at h;exact⟨kind,rfl,h⟩
theorem Lk{kt:TypeId}{tk:Ty V.ι}(h:jE V P kt tk=true)(x:den V.N tk):∀M v,cS M v (aY V.sz V.enc tk x)->v=d6 V.enc tk x:=by
 intro M v hv
 rcases hI h with⟨i,rfl⟩|⟨kind,hu,hk⟩
 ·obtain⟨h1,h2⟩:=nA h x
  rw[h2]
  simp only[aY]at hv
  rw[h1]at hv
  exact m6 hv
 ·rw[qB hk]at hv
  cases hv;rfl
theorem qz{kt:TypeId}{tk:Ty V.ι}(h:jE V P kt tk=true)(x y:den V.N tk):keq V.cells tk x y=true↔d6 V.enc tk x=d6 V.enc tk y:=by
 rcases hI h with⟨i,rfl⟩|⟨kind,hu,hk⟩
 ·obtain⟨fs,ks,h1,h2,h3⟩:=qA h
  rw[(nA h x).2,(nA h y).2]
  simp only[keq]
  rw[<-vR h3,gy (dS h3).2 (dS h3).2]
  simp
 ·have hs:=jF hk x y
  cases he:keq V.cells tk x y with
  |true=>
   rw[he]at hs
   simp only[true_iff]
   exact fe hs
  |false=>
   rw[he]at hs
   simp only[Qj,false_iff]
   exact iK hs
theorem lZ{kt:TypeId}{tk tv:Ty V.ι}(h:jE V P kt tk=true)(x:den V.N tk)(es:List (den V.N tk×den V.N tv)):oE P kt (d6 V.enc tk x) ((es.map λp=>(d6 V.enc tk p.1,aY V.sz V.enc tv p.2)).map (·.1)):=by
 rcases hI h with⟨i,rfl⟩|⟨kind,hu,hk⟩
 ·obtain⟨fs,ks,h1,h2,h3⟩:=qA h
  rw[(nA h x).2]
  refine .struct (d:=100) h1 (by decide) h2 (dS h3).2 λk hk=> ?_
  rw[QJ]at hk
  obtain⟨p,_,rfl⟩:=QD.1 hk
  exact⟨(V.cells i p.1).map hO,(nA h p.1).2,(dS h3).2⟩
 ·refine .simple hu (iH hk) λk hkm=> ?_
  have:∃y:den V.N tk,k=d6 V.enc tk y:=by
   rcases Qu.1 hkm with rfl|hkm
   ·exact⟨x,rfl⟩
   ·rw[QJ]at hkm
    obtain⟨p,_,rfl⟩:=QD.1 hkm
    exact⟨p.1,rfl⟩
  obtain⟨y,rfl⟩:=this
  rw[jF hk x y];rfl
theorem zV{kt:TypeId}{tk tv:Ty V.ι}(h:jE V P kt tk=true)(x:den V.N tk):∀es:List (den V.N tk×den V.N tv),
 G0 (d6 V.enc tk x) (es.map λp=>(d6 V.enc tk p.1,aY V.sz V.enc tv p.2)) ((Mp.get (keq V.cells tk) x es).map (aY V.sz V.enc tv))
 |[]=> .inl ⟨rfl,λp hp=>by cases hp⟩
 |p::r=>by
  simp only[Mp.get,Qp]
  cases he:keq V.cells tk x p.1 with
  |true=>
   exact .inr ⟨_,Qo,((qz h x p.1).1 he).symm,rfl⟩
  |false=>
   have hne:¬d6 V.enc tk x=d6 V.enc tk p.1:=λe=>by rw[(qz h x p.1).2 e]at he;cases he
   rw[TN (by decide)]
   rcases zV h x r with⟨h1,h2⟩|⟨q,h1,h2,h3⟩
   ·refine .inl ⟨h1,λq hq=> ?_⟩
    rcases Qu.1 hq with rfl|hq
    ·exactλe=>hne e.symm
    ·exact h2 q hq
   ·exact .inr ⟨q,Qm _ h1,h2,h3⟩
theorem Bp{kt:TypeId}{tk tv:Ty V.ι}(h:jE V P kt tk=true)(x:den V.N tk)(y:den V.N tv):∀es:List (den V.N tk×den V.N tv),
 yN (d6 V.enc tk x) (aY V.sz V.enc tv y) (es.map λp=>(d6 V.enc tk p.1,aY V.sz V.enc tv p.2)) ((Mp.put (keq V.cells tk) x y es).map λp=>(d6 V.enc tk p.1,aY V.sz V.enc tv p.2))
 |[]=> .inl ⟨rfl,λp hp=>by cases hp⟩
 |p::r=>by
  simp only[Mp.put,Qp]
  cases he:keq V.cells tk x p.1 with
  |true=>
   exact .inr ⟨0,_,rfl,((qz h x p.1).1 he).symm,rfl⟩
  |false=>
   have hne:¬d6 V.enc tk x=d6 V.enc tk p.1:=λe=>by rw[(qz h x p.1).2 e]at he;cases he
   rw[TN (by decide)]
   rcases Bp h x y r with⟨h1,h2⟩|⟨j,q,h1,h2,h3⟩
   ·refine .inl ⟨by rw[Qp,h1];rfl,λq hq=> ?_⟩
    rcases Qu.1 hq with rfl|hq
    ·exactλe=>hne e.symm
    ·exact h2 q hq
   ·exact .inr ⟨j+1,q,by simpa using h1,h2,by rw[Qp,h3];rfl⟩
theorem gv{B:Type}{n:Nat}{b:B}{f:(m:Nat)->TypeId->(tk tv:Ty V.ι)->List (Option (List (den V.N tk×den V.N tv)))->Nat->List (den V.N tk×den V.N tv)->Option B}(h:oP V S n f=some b):
 ∃m te tk tv es i m0,S.own? n=some (.alias m)/\S.own? m=some (.maps te tk tv es (some (n,i)))/\n≠m/\es[i]?=some (some m0)/\f m te tk tv es i m0=some b:=by
 unfold oP at h
 split at h
 ·rename_i m hn
  split at h
  ·rename_i te tk tv es n' i hm
   replace h:=aF h
   obtain⟨⟨rfl,hnm⟩,h⟩:=h
   replace h:=bT h
   obtain⟨o,ho,h⟩:=h
   replace h:=bT h
   obtain⟨m0,rfl,h⟩:=h
   exact⟨m,te,tk,tv,es,i,m0,hn,hm,hnm,ho,h⟩
  ·cases h
 ·cases h
theorem wo{α:Type}{l:List α}{i:Nat}{x:α}(h:l[i]?=some x):l.set i x=l:=by
 apply Rw
 intro j
 rw[Rg]
 split
 ·rename_i e;subst e
  rw[TP (Qf.1 h).1,h]
 ·rfl
theorem qS{n m:Nat}{o1 o2:TO V.N}{x1 x2:Option Own}{v:TV V.N}{h:H}{l:List Nat}(h1:∀ω,bS V ω o1=x1)(h2:∀ω,bS V ω o2=x2)(hl1:TO.len (some o1)=S.len n)(hl2:TO.len (some o2)=S.len m)(hv:∀ω,aK V ω v=h)
 (hk:k {val:=v,acc:=l,upd:=[(n,o1),(m,o2)]}=some r)(hs:aQ P nm o (Go.Awp.ev (aV V S)) (aV V S).own? {val:=h,acc:=l,upd:=[(n,x1),(m,x2)]}):OpD P nm o S k r:=by
 refine⟨_,hk,λq o' hq=> ?_,_, .sem hs,cw (hv _).symm rfl (by simp[h1,h2]) rfl⟩
 simp only[aE]at hq
 right
 split at hq
 ·rename_i e;simp at hq;subst hq;subst e;exact hl1
 ·split at hq
  ·rename_i e;simp at hq;subst hq;subst e;exact hl2
  ·simp[gt]at hq
def m9(tk tv:Ty V.ι)(l:List (den V.N tk×den V.N tv)):List (Value×D):=l.map λp=>(d6 V.enc tk p.1,aY V.sz V.enc tv p.2)
theorem pq{c:Bool}{tk tv:Ty V.ι}{key:den V.N tk}{z:den V.N tv}{es:List (den V.N tk×den V.N tv)}{f:TV V.N->Option A}(h:Dm V c tk tv key z es f=some r):
 ∃v,f v=some r/\∀ω,aK V ω v=if c=true then .tup [.d (((Mp.get (keq V.cells tk) key es).map (aY V.sz V.enc tv)).getD (aY V.sz V.enc tv z)), .d (.v (.bool ((Mp.get (keq V.cells tk) key es).map (aY V.sz V.enc tv)).isSome))]
  else .d (((Mp.get (keq V.cells tk) key es).map (aY V.sz V.enc tv)).getD (aY V.sz V.enc tv z)):=by
 unfold Dm at h
 cases c with
 |true=>
  refine⟨_,h,λω=> ?_⟩
  simp only[aK,encL,TK,SY]
  cases Mp.get (keq V.cells tk) key es<;>rfl
 |false=>
  refine⟨_,h,λω=> ?_⟩
  simp only[aK,Qj,TL]
  cases Mp.get (keq V.cells tk) key es<;>rfl
theorem Cm{t:TypeId}{x i:Operand}{c:Bool}(ho:o.op= .lookup t x i c)(h:Cl V P t x i c S k=some r):OpD P nm o S k r:=by
 unfold Cl at h
 split at h
 ·rename_i kt et n tk key ht hx hi
  split at h
  ·rename_i d hd
   split at h
   ·rename_i tk' tv es hown
    split at h
    ·rename_i z hz
     split at h
     ·rename_i htk
      subst htk
      replace h:=aF h
      obtain⟨hk,h⟩:=h
      obtain⟨v,h,hv⟩:=pq h
      exact dj h (.lookupK ho ht hd (by rw[aI,hx];rfl) (by rw[aI,hi];rfl) (Lk hk key) (im hown) (lZ hk key es) (zV hk key es)) (by rw[hv,(nT hz).2 rfl])
     ·cases h
    ·cases h
   ·obtain⟨m,te,tk',tv,es,j,m0,hn,hm,hnm,hj,h⟩:=gv h
    split at h
    ·rename_i z hz
     split at h
     ·rename_i htk
      subst htk
      replace h:=aF h
      obtain⟨hk,h⟩:=h
      obtain⟨v,h,hv⟩:=pq h
      have hj':(es.map λo=>o.map (m9 (V:=V) tk tv))[j]?=some (some (m9 tk tv m0)):=by rw[Qh,hj];rfl
      refine qS (x1:=some (.maps te (es.map λo=>o.map (m9 tk tv)) (some (n,j)))) (x2:=none) (λω=>rfl) (λω=>rfl) (by rw[gI hm];rfl) (by rw[jH hn];rfl) hv h ?_
      have:=aQ.viaAlias (P:=P) (nm:=nm) (o:=o) (ρ:=Go.Awp.ev (aV V S)) (m1:=m9 tk tv m0) (gM hm) hj' (jU hn) hnm
       (v:=if c=true then .tup [.d (((Mp.get (keq V.cells tk) key m0).map (aY V.sz V.enc tv)).getD (aY V.sz V.enc tv z)), .d (.v (.bool ((Mp.get (keq V.cells tk) key m0).map (aY V.sz V.enc tv)).isSome))]
         else .d (((Mp.get (keq V.cells tk) key m0).map (aY V.sz V.enc tv)).getD (aY V.sz V.enc tv z)))
       λω' hω'=> .told hω' (by
        have:=aQ.lookupK (nm:=nm) ho ht hd (ω:=ω') (c:=c) (key:=d6 V.enc tk key) (dk:=aY V.sz V.enc tk key) (ρ:=Go.Awp.ev (aV V S)) (by rw[aI,hx];rfl) (by rw[aI,hi];rfl) (Lk hk key) hω' (lZ hk key m0) (zV hk key m0)
        rw[(nT hz).2 rfl]at this
        exact this)
      have hs:(es.map λo=>o.map λl=>l.map λp=>(d6 V.enc tk p.1,aY V.sz V.enc tv p.2)).set j (some (m9 tk tv m0))=es.map λo=>o.map λl=>l.map λp=>(d6 V.enc tk p.1,aY V.sz V.enc tv p.2):=wo hj'
      rw[hs]at this
      exact this
     ·cases h
    ·cases h
  ·cases h
 ·cases h
theorem ww{t:TypeId}{x i y:Operand}(ho:o.op= .mapUpdate t x i y\/o.op= .insert t x i y)(h:Fk V P t x i y S k=some r):OpD P nm o S k r:=by
 unfold Fk at h
 split at h
 ·rename_i kt et n tk key tv z ht hx hi hy
  split at h
  ·rename_i tk' tv' es hown
   split at h
   ·rename_i e1
    subst e1
    split at h
    ·rename_i e2
     subst e2
     replace h:=aF h
     obtain⟨hk,h⟩:=h
     exact ux (x:= .map (m9 tk tv (Mp.set (keq V.cells tk) (klt tk) key z es))) (λω=>rfl) (by rw[qD hown];rfl) h
      (.updateK ho ht (by rw[aI,hx];rfl) (by rw[aI,hi];rfl) (Lk hk key) (by rw[aI,hy];rfl) (im hown) (lZ hk key es) (Bp hk key z es) ((Mp.set_perm _ _ _ _ _).map _))
    ·cases h
   ·cases h
  ·obtain⟨m,te,tk',tv',es,j,m0,hn,hm,hnm,hj,h⟩:=gv h
   split at h
   ·rename_i e1
    subst e1
    split at h
    ·rename_i e2
     subst e2
     replace h:=aF h
     obtain⟨hk,h⟩:=h
     have hj':(es.map λo=>o.map (m9 (V:=V) tk tv))[j]?=some (some (m9 tk tv m0)):=by rw[Qh,hj];rfl
     refine qS (x1:=some (.maps te ((es.map λo=>o.map (m9 tk tv)).set j (some (m9 tk tv (Mp.set (keq V.cells tk) (klt tk) key z m0)))) (some (n,j)))) (x2:=none) (h:= .junk) (λω=>by simp only[bS,RQ];rfl) (λω=>rfl) (by rw[gI hm];simp[TO.len]) (by rw[jH hn];rfl) (λω=>rfl) h ?_
     exact aQ.viaAlias (gM hm) hj' (jU hn) hnm λω' hω'=>
      .updateK (ω:=ω') ho ht (by rw[aI,hx];rfl) (by rw[aI,hi];rfl) (Lk hk key) (by rw[aI,hy];rfl) hω' (lZ hk key m0) (Bp hk key z m0) ((Mp.set_perm _ _ _ _ _).map _)
    ·cases h
   ·cases h
 ·cases h
theorem E7{c:Call}(ho:o.op= .call c)(hc:c.callee= .builtin .len)(h:IR V P (c.args.toList.map (tev S)) c.argTypes.toList S k=some r):OpD P nm o S k r:=by
 unfold IR at h
 split at h
 ·rename_i n hargs
  replace h:=aF h
  obtain⟨hk,h⟩:=h
  obtain⟨m,te,tk,tv,es,j,m0,hn,hm,hnm,hj,h⟩:=gv h
  obtain⟨p,hpq,hpx⟩:∃p,c.args.toList=[p]/\tev S p= .mp n:=by
   match hcl:c.args.toList,hargs with
   |[p],hargs=>simp at hargs;exact⟨p,rfl,hargs⟩
   |[],hargs=>simp at hargs
   |_::_::_,hargs=>simp at hargs
  have hj':(es.map λo=>o.map (m9 (V:=V) tk tv))[j]?=some (some (m9 tk tv m0)):=by rw[Qh,hj];rfl
  have hs:(es.map λo=>o.map λl=>l.map λp=>(d6 V.enc tk p.1,aY V.sz V.enc tv p.2)).set j (some (m9 tk tv m0))=es.map λo=>o.map λl=>l.map λp=>(d6 V.enc tk p.1,aY V.sz V.enc tv p.2):=wo hj'
  refine qS (x1:=some (.maps te (es.map λo=>o.map (m9 tk tv)) (some (n,j)))) (x2:=none) (h:= .d (.v (.int .i64 m0.length))) (λω=>rfl) (λω=>rfl) (by rw[gI hm];rfl) (by rw[jH hn];rfl) (λω=>rfl) h ?_
  have:=aQ.viaAlias (P:=P) (nm:=nm) (o:=o) (ρ:=Go.Awp.ev (aV V S)) (v:= .d (.v (.int .i64 m0.length))) (m1:=m9 tk tv m0) (gM hm) hj' (jU hn) hnm λω' hω'=> .told hω' (.ofAVal λρ' ω2 hρ hω=>by
   have hx':ρ' p= .mp n:=by
    rw[hρ p (by rw[ho];simp only[Op.operands,Call.operands,hc];(have:p∈c.args.toList:=by rw[hpq];simp);simpa using this),aI,hpx];rfl
   have ho':ω2 n=some (.map (m9 tk tv m0)):=(hω n (by simp)).trans hω'
   simp only[bG,ho,hc,hpq,Qp,QW,hx',ho']
   exact⟨hk,by rw[m9,Qg]⟩)
  rw[hs]at this
  exact this
 ·cases h
theorem yz{t:TypeId}{x:Operand}(ho:o.op= .range t x)(h:u3 V P t x o.dst S k=some r):OpD P nm o S k r:=by
 unfold u3 at h
 split at h
 ·rename_i kt et n d ht hx hd
  obtain⟨m,te,tk,tv,es,j,m0,hn,hm,hnm,hj,h⟩:=gv h
  replace h:=aF h
  obtain⟨⟨hf1,hf2⟩,h⟩:=h
  have hj':(es.map λo=>o.map (m9 (V:=V) tk tv))[j]?=some (some (m9 tk tv m0)):=by rw[Qh,hj];rfl
  refine⟨_,h,λq o' hq=> ?_,_, .sem (.rangeAlias (nn:=bK d) ho ⟨_,_,ht⟩ (by rw[aI,hx];rfl) (by rw[hd];simp) (gM hm) hj' (jU hn) ⟨hf1,hf2⟩),cw rfl rfl (by simp only[Qp,QW,bS,RQ];rfl) rfl⟩
  simp only[aE]at hq
  split at hq
  ·rename_i e;left;simp[e]
  ·right
   split at hq
   ·rename_i e;simp at hq;subst hq;subst e;rw[jH hn];rfl
   ·split at hq
    ·rename_i e;simp at hq;subst hq;subst e;rw[gI hm];simp[TO.len]
    ·simp[gt]at hq
 ·cases h
theorem u2{t:TypeId}{x i:Operand}(ho:o.op= .indexAddr t x i)(h:rg V P t x i S k=some r):OpD P nm o S k r:=by
 unfold rg at h
 split at h
 ·rename_i te sz by_ m kk n ht hx hi
  split at h
  ·rename_i te2 tk tv es al hm
   replace h:=aF h
   obtain⟨⟨h0,h1⟩,h⟩:=h
   refine dj h (.indexMaps ho ht ?_ (by rw[aI,hi];rfl) (gM hm) h0 (by rw[Qg];exact h1)) rfl
   rw[aI,hx,Qg]
   simp only[aK,gI hm]
  ·rename_i te2 e xs hm
   replace h:=aF h
   obtain⟨⟨h0,h1⟩,h⟩:=h
   refine dj h (.qindex ho ht ?_ (by rw[aI,hi];rfl) (qU hm) h0 (by rw[Qg];exact h1)) rfl
   rw[aI,hx,Qg]
   simp only[aK,ug hm]
  ·cases h
 ·cases h
theorem aQ.more{v:H}{acc new:List Nat}{upd:List (Nat×Option Own)}{d:Nat}{ρ:Operand->H}{ω:Nat->Option Own}(h:aQ P nm o ρ ω {val:=v,acc:=acc,upd:=upd,new:=new}):aQ P nm o ρ ω {val:=v,acc:=acc,upd:=upd++[(d,none)],new:=new}:=by
 refine aQ.ole h λown n o hn=>⟨o,?_,OLe.refl _⟩
 simp only[Rt,eL]at hn⊢
 cases hu:gt upd n with
 |some x=>rw[hu]at hn;exact hn
 |none=>
  rw[hu]at hn
  simp only[QR,QS,aE]at hn
  by_cases e:d=n
  ·rw[TP e]at hn;cases hn
  ·rw[TN e]at hn
   simpa[gt]using hn
theorem tc{t:TypeId}{x:Operand}(ho:o.op= .load t x)(h:ox V P t x o.dst S k=some r):OpD P nm o S k r:=by
 unfold ox at h
 split at h
 ·rename_i m i d ht hx hd
  split at h
  ·rename_i te tk tv es al hm
   replace h:=bT h
   obtain⟨o1,ho1,h⟩:=h
   replace h:=bT h
   obtain⟨m0,rfl,h⟩:=h
   replace h:=aF h
   obtain⟨hf,h⟩:=h
   have hj':(es.map λo=>o.map (m9 (V:=V) tk tv))[i]?=some (some (m9 tk tv m0)):=by rw[Qh,ho1];rfl
   refine⟨_,h,λq o' hq=> ?_,_, .sem (aQ.more (d:=bK d) (.loadMap (d:=bK d) ho ht (by rw[aI,hx];rfl) (gM hm) hj' hf)),cw rfl rfl rfl rfl⟩
   simp only[aE]at hq
   split at hq
   ·rename_i e;right;simp at hq;subst hq;subst e;rw[gI hm];rfl
   ·split at hq
    ·rename_i e;left;simp[e]
    ·simp[gt]at hq
  ·cases h
 ·cases h
theorem rh{t:TypeId}{x y:Operand}(ho:o.op= .store t x y)(h:kG V P t x y S k=some r):OpD P nm o S k r:=by
 unfold kG at h
 split at h
 ·rename_i ag m i n ht hx hy
  split at h
  ·rename_i te tk tv es al tk' tv' e0 hm hn
   split at h
   ·rename_i hh
    obtain⟨e1,e2⟩:=hh
    subst e1;subst e2
    replace h:=aF h
    obtain⟨⟨hi,hnm⟩,h⟩:=h
    refine qS (x1:=some (.maps te ((es.map λo=>o.map (m9 tk' tv')).set i (some (m9 tk' tv' e0))) none)) (x2:=none) (h:= .junk) (λω=>by simp only[bS,RQ];rfl) (λω=>rfl) (by rw[gI hm];simp[TO.len]) (by rw[qD hn];rfl) (λω=>rfl) h ?_
    exact .storeMap ho ht (by rw[aI,hx];rfl) (by rw[aI,hy];rfl) (gM hm) (im hn) (by rw[Qg];exact hi) hnm
   ·cases h
  ·cases h
 ·cases h
theorem xW{l c:Operand}(h:pG l c=true):l=c:=by
 unfold pG at h
 split at h
 ·rw[QT h]
 ·cases h
theorem s_{t:TypeId}{l c:Operand}(ho:o.op= .makeSlice t l c)(h:ow V P t l c o.dst S k=some r):OpD P nm o S k r:=by
 unfold ow at h
 split at h
 ·rename_i tk tv te bytes d hty ht hd
  split at h
  ·rename_i z0 kn n km m hz hl hc
   split at h
   ·rename_i hsame
    replace h:=aF h
    obtain⟨hb,h⟩:=h
    replace h:=aF h
    obtain⟨h0,h⟩:=h
    replace h:=aF h
    obtain⟨h1,h⟩:=h
    have hlc:=xW hsame
    subst hlc
    rw[hl]at hc
    simp only[TV.lf.injEq]at hc
    obtain⟨e1,e2⟩:=hc
    cases e1
    have e2:=eq_of_heq e2
    subst e2
    refine qR (d:=bK d) (h:= .vh (bK d) n.toNat) (x:= .maps te (QK n.toNat none) none) (λω=>by simp only[bS,RZ];rfl) (λω hω=>by simp only[aK,hω,TO.len,Ra]) h ?_
    refine aQ.ole (upd:=[(bK d,some (.vec te 1 (QK n.toNat ([z0].map .v))))]) (.ofAVal (nm:=bK) λρ' ω' hρ hω=> ?_) λown q o1 hq=> ?_
    ·have hx':ρ' l= .d (.v (.int kn n)):=by rw[hρ l (by rw[ho];simp[Op.operands]),aI,hl];rfl
     simp only[bG,ho,ht,hd,hz,hx']
     exact⟨⟨.inl trivial,h0,h0,h1,hb⟩,trivial⟩
    ·simp only[QR,QS,aE]at hq⊢
     by_cases e:bK d=q
     ·rw[TP e]at hq⊢
      simp only[Rk,Qd]at hq
      subst hq
      refine⟨_,rfl,?_⟩
      have:=OLe.v2maps (e:=te) (rows:=QK n.toNat ([z0].map D.v))
      rw[RZ]at this
      exact this
     ·rw[TN e]at hq⊢
      exact⟨o1,hq,OLe.refl _⟩
   ·cases h
  ·cases h
 ·cases h
theorem yw{t:TypeId}{len:Nat}{parts:Array (Nat×Operand)}(ho:o.op= .buildSlice t len parts)(h:uY V P t len parts.toList o.dst S k=some r):OpD P nm o S k r:=by
 unfold uY at h
 split at h
 ·rename_i te sz by_ e d ht hty hd
  replace h:=aF h
  obtain⟨⟨e1,e2,e3,e4⟩,h⟩:=h
  split at h
  ·rename_i ys hys
   obtain⟨rows,h1,h2,_,h4⟩:=ji (ω:=S.len) hys
   replace h4:=h4 rfl
   have hp:((parts.toList.map λ(i,x)=>(i,fnT (tev S x))).map λp=>(p.1,aK V S.len p.2))=parts.toList.map λ(i,x)=>(i,fnD (Go.Awp.ev (aV V S) x)):=by
    rw[QJ]
    refine QL λp _=> ?_
    simp only[RJ,qu,aI]
   rw[hp,<-e1]at h1
   rw[Qg,e2]at h2
   have hyl:ys.length=len:=by
    have:=congrArg Sj h4
    rw[Qg]at this;omega
   have hne:rows≠[]:=λe=>by rw[e]at h2;simp at h2;omega
   refine qR (d:=bK d) (h:= .vh (bK d) rows.length) (x:= .que te sz rows) (λω=>by rw[h4,e1];rfl) (λω hω=>by simp only[aK,hω,TO.len,hyl,h2]) h ?_
   refine aQ.ole (upd:=[(bK d,some (.vec te sz rows))]) (.ofAVal (nm:=bK) λρ' ω' hρ hω=> ?_) λown q o1 hq=> ?_
   ·have hpp:(parts.toList.map λ(i,x)=>(i,fnD (ρ' x)))=parts.toList.map λ(i,x)=>(i,fnD (Go.Awp.ev (aV V S) x)):=by
     refine QL λp hp=> ?_
     have:ρ' p.2=_:=hρ p.2 (by rw[ho];simp only[Op.operands];simpa using ⟨p.1,by simpa using hp⟩)
     simp only[this]
    have hnd:¬bK d=d:=by unfold bK;omega
    simp only[bG,ho,ht,hd,hpp,h1]
    refine⟨⟨h2,e3⟩,?_⟩
    rw[TN hnd]
    trivial
   ·simp only[QR,QS,aE]at hq⊢
    by_cases e:bK d=q
    ·rw[TP e]at hq⊢
     simp only[Rk,Qd]at hq
     subst hq
     exact⟨_,rfl,OLe.v2q hne⟩
    ·rw[TN e]at hq⊢
     exact⟨o1,hq,OLe.refl _⟩
  ·cases h
 ·cases h
theorem jT{d:Nat}{ns:List Nat}{v:TV V.N}{h:H}{o':TO V.N}{x:Own}{l:List Nat}(hx:∀ω,bS V ω o'=some x)(hv:∀ω:Nat->Nat,ω d=TO.len (some o')->aK V ω v=h)
 (hk:k {val:=v,acc:=l,upd:=(d,o')::Db V S ns,new:=[d]}=some r)
 (hs:aQ P nm o (Go.Awp.ev (aV V S)) (aV V S).own? {val:=h,acc:=l,upd:=(d,some x)::ns.map (λn=>(n,none)),new:=[d]}):OpD P nm o S k r:=by
 refine⟨_,hk,λm o1 hm=> ?_,_, .sem hs,cw (hv _ ?_).symm rfl (by rw[Qp,zY,hx]) rfl⟩
 ·simp only[aE]at hm
  split at hm
  ·rename_i e;left;simp[e]
  ·exact .inr (zZ hm)
 ·rw[dt];simp[aE]
theorem yE{t:TypeId}{x:Operand}{lo hi mx:Option Operand}(ho:o.op= .slice t x lo hi mx)(h:u6 V P t x lo hi mx o.dst S k=some r):OpD P nm o S k r:=by
 unfold u6 at h
 split at h
 ·rename_i te0 sz0 by0 d m ht hd hx
  split at h
  ·rename_i l te e xs hm
   split at h
   ·rename_i kk n hl
    replace h:=aF h
    obtain⟨hse,h⟩:=h
    subst hse
    replace h:=aF h
    obtain⟨h0,h⟩:=h
    replace h:=aF h
    obtain⟨h1,h⟩:=h
    refine jT (ns:=[m]) (x:= .que te (tsz V.sz e) ((xs.map λx=>bN V.sz V.enc e x).drop n.toNat)) (h:= .vh (bK d) ((xs.map λx=>bN V.sz V.enc e x).length-n.toNat)) (λω=>by simp only[bS,Q_]) (λω hω=>by simp only[aK,hω,TO.len,QO,Qg]) h ?_
    exact .qtail ho ht (by rw[aI,hx,Qg];simp only[aK,ug hm]) (qU hm) (by rw[aI,hl];rfl) h0 (by rw[Qg];exact h1)
   ·cases h
  ·rename_i hh te e xs hm
   split at h
   ·rename_i kk n hl
    replace h:=aF h
    obtain⟨h0,h⟩:=h
    replace h:=aF h
    obtain⟨h1,h⟩:=h
    have h2:n.toNat<=xs.length:=Int.toNat_le.2 h1
    refine jT (ns:=[m]) (x:= .vec te (tsz V.sz e) ((xs.map λx=>bN V.sz V.enc e x).take n.toNat)) (h:= .vh (bK d) n.toNat) (λω=>by simp only[bS,Q9]) (λω hω=>by simp only[aK,hω,TO.len,QQ];rw[Rp h2]) h ?_
    exact .trunc ho ht (by rw[aI,hx,Qg];simp only[aK,dT hm]) (cZ hm) (by rw[aI,hl];rfl) h0 (by rw[Qg];exact h1)
   ·cases h
  ·cases h
 ·cases h
theorem Ji{c:Call}{x y:TV V.N}(h:c.args.toList.map (tev S)=[x,y]):∃p q,c.args= #[p,q]/\tev S p=x/\tev S q=y:=by
 match hcl:c.args.toList,h with
 |[p,q],h=>simp at h;exact⟨p,q,by rw[<-RV];exact hcl,h.1,h.2⟩
 |[],h=>simp at h
 |[_],h=>simp at h
 |_::_::_::_,h=>simp at h
theorem jY(e:Ty V.ι)(xs:List (den V.N e)):(xs.map λx=>bN V.sz V.enc e x).all (λr=>r.all D.one)=true:=by
 rw[RI,Qq]
 intro y _
 exact qW
theorem ql{a b:Nat}(h:a<=most)(hb:b<=32768):a *b<=140737488355328:=by
 have:a *b<=4294967296 *32768:=Tj h hb
 omega
theorem EW{c:Call}(ho:o.op= .call c)(hc:c.callee= .builtin .append)(h:IH V P (c.args.toList.map (tev S)) c.argTypes.toList o.dst S k=some r):OpD P nm o S k r:=by
 unfold IH at h
 split at h
 ·rename_i x y t t' d hargs htys hd
  obtain⟨p,q,hpq,rfl,hqy⟩:=Ji hargs
  split at h
  ·rename_i te sz bytes ht
   replace h:=aF h
   obtain⟨⟨e1,hby⟩,h⟩:=h
   subst e1
   have hct:c.argTypes= #[t,t]:=by rw[<-RV];exact htys
   split at h
   ·rename_i e' y0 ys
    split at h
    ·rename_i n hx
     split at h
     ·rename_i te2 e xs hown
      split at h
      ·rename_i e2
       subst e2
       replace h:=aF h
       obtain⟨⟨e3,e4⟩,h⟩:=h
       subst e3;subst e4
       replace h:=aF h
       obtain⟨hle,h⟩:=h
       refine jT (ns:=[n]) (x:= .que te (tsz V.sz e') ((xs.map λx=>bN V.sz V.enc e' x)++((y0::ys).map λx=>bN V.sz V.enc e' x))) (h:= .vh (bK d) ((xs.map λx=>bN V.sz V.enc e' x).length+((y0::ys).map λx=>bN V.sz V.enc e' x).length)) (λω=>by simp only[bS,QU]) (λω hω=>by simp only[aK,hω,TO.len,QB,Qg]) h ?_
       refine .qappend ho hc hpq hct ht (by rw[aI,hx,Qg];simp only[aK,ug hown]) (qU hown) (by rw[aI,hqy];rfl) (by simp) (jY e' _) ?_ ?_
       ·rw[Qg,Qg];exact ql hle hby
       ·rw[Qg,Qg];unfold most at hle;omega
      ·cases h
     ·cases h
    ·cases h
   ·rename_i m sz2 lo len
    split at h
    ·rename_i te2 e2 xs2 hm
     replace h:=aF h
     obtain⟨⟨e3,e4⟩,h⟩:=h
     subst e4;subst e3
     replace h:=aF h
     obtain⟨hll,h⟩:=h
     split at h
     ·rename_i n hx
      split at h
      ·rename_i te1 e xs hown
       split at h
       ·rename_i e5
        subst e5
        replace h:=aF h
        obtain⟨⟨e6,hnm⟩,h⟩:=h
        subst e6
        replace h:=aF h
        obtain⟨hle,h⟩:=h
        refine jT (ns:=[n]) (x:= .vec te (tsz V.sz e2) ((xs.map λx=>bN V.sz V.enc e2 x)++(((xs2.map λx=>bN V.sz V.enc e2 x).drop lo).take len))) (h:= .vh (bK d) ((xs.map λx=>bN V.sz V.enc e2 x).length+len)) (λω=>by simp only[bS,QU,Q9,Q_]) (λω hω=>by
         simp only[aK,hω,TO.len,QB,Qg,QQ,QO]
         rw[Rp (by omega)]) h ?_
        refine .appendCut ho hc hpq hct ht (.inl ⟨n,by rw[aI,hx,Qg];simp only[aK,dT hown],cZ hown,hnm,rfl⟩) (by rw[aI,hqy];rfl) (cZ hm) (by rw[Qg];exact hll) (jY e2 _) ?_ ?_
        ·rw[Qg];exact ql hle hby
        ·rw[Qg];unfold most at hle;omega
       ·cases h
      ·cases h
     ·rename_i hx
      replace h:=aF h
      obtain⟨hle,h⟩:=h
      refine jT (ns:=[]) (x:= .vec te (tsz V.sz e2) ([]++(((xs2.map λx=>bN V.sz V.enc e2 x).drop lo).take len))) (h:= .vh (bK d) (([]:List (List D)).length+len)) (λω=>by simp only[bS,Q9,Q_,QS]) (λω hω=>by
       simp only[aK,hω,TO.len,QQ,QO,Ss]
       rw[Rp (by omega),Qy]) h ?_
      refine .appendCut ho hc hpq hct ht (.inr ⟨by rw[aI,hx];rfl,rfl,rfl⟩) (by rw[aI,hqy];rfl) (cZ hm) (by rw[Qg];exact hll) (jY e2 _) ?_ ?_
      ·rw[Ss,Qy];exact ql hle hby
      ·rw[Ss,Qy];unfold most at hle;omega
     ·cases h
    ·cases h
   ·cases h
  ·cases h
 ·cases h
theorem v_{n:Nat}{o':TO V.N}{x:Own}{l:List Nat}{v:TV V.N}{h:H}(hx:∀ω,bS V ω o'=some x)(hv:∀ω,aK V ω v=h)(hl:TO.len (some o')=S.len n)(hk:k {val:=v,acc:=l,upd:=[(n,o')]}=some r)
 (hs:aQ P nm o (Go.Awp.ev (aV V S)) (aV V S).own? {val:=h,acc:=l,upd:=[(n,some x)]}):OpD P nm o S k r:=by
 refine⟨_,hk,λm o1 hm=> ?_,_, .sem hs,cw (hv _).symm rfl (by simp[hx]) rfl⟩
 simp only[aE]at hm
 split at hm
 ·rename_i e;right;simp at hm;subst hm;subst e;exact hl
 ·simp[gt]at hm
theorem vv{α:Type}(xs ys:List α)(n:Nat)(h:ys.length=n):(ys.take xs.length++xs.drop n).length=xs.length:=by
 rw[QB,QQ,QO,h]
 omega
theorem Ci{c:Call}(ho:o.op= .call c)(hc:c.callee= .builtin .copy)(h:Ch V P (c.args.toList.map (tev S)) c.argTypes.toList S k=some r):OpD P nm o S k r:=by
 unfold Ch at h
 split at h
 ·rename_i m y t rest hargs htys
  obtain⟨p,q,hpq,hpx,hqy⟩:=Ji hargs
  have hct:c.argTypes[0]?=some t:=by
   have:c.argTypes.toList[0]?=some t:=by rw[htys];rfl
   simpa using this
  split at h
  ·rename_i te sz by_ te1 e xs ht hm
   replace h:=aF h
   obtain⟨⟨e1,e2⟩,h⟩:=h
   subst e1;subst e2
   split at h
   ·rename_i m2 sz2 lo len
    split at h
    ·rename_i te2 e2 xs2 hm2
     split at h
     ·rename_i e3
      subst e3
      replace h:=aF h
      obtain⟨⟨e4,hne⟩,h⟩:=h
      subst e4
      replace h:=aF h
      obtain⟨hll,h⟩:=h
      have hnl:(((xs2.map λx=>bN V.sz V.enc e2 x).drop lo).take len).length=len:=by rw[QQ,QO,Qg];omega
      have hnl':((xs2.drop lo).take len).length=len:=by rw[QQ,QO];omega
      have:=aQ.copy (P:=P) (nm:=nm) (ω:=(aV V S).own?) (ρ:=Go.Awp.ev (aV V S)) (rows:=xs.map λx=>bN V.sz V.enc e2 x) (news:=((xs2.map λx=>bN V.sz V.enc e2 x).drop lo).take len) (acc:=[m,m2]) ho hc hpq hct ht (by rw[aI,hpx,Qg];simp only[aK,dT hm]) (cZ hm)
       (.inr ⟨m2,te2,lo,xs2.map λx=>bN V.sz V.enc e2 x,by rw[aI,hqy,hnl];rfl,cZ hm2,by rw[hnl,Qg];exact hll,by rw[hnl],hne,rfl⟩)
       (by
         rw[<-Q_,<-Q9];exact jY e2 _)
      rw[hnl,Qg]at this
      refine v_ (x:= .vec te (tsz V.sz e2) ((((xs2.map λx=>bN V.sz V.enc e2 x).drop lo).take len).take xs.length++(xs.map λx=>bN V.sz V.enc e2 x).drop len)) (λω=>by simp only[bS,QU,Q9,Q_]) (λω=>rfl) (by rw[dT hm];exact vv xs _ _ hnl') h this
     ·cases h
    ·cases h
   ·rename_i e2 ys
    split at h
    ·rename_i e3
     subst e3
     have:=aQ.copy (P:=P) (nm:=nm) (ω:=(aV V S).own?) (ρ:=Go.Awp.ev (aV V S)) (rows:=xs.map λx=>bN V.sz V.enc e2 x) (news:=ys.map λx=>bN V.sz V.enc e2 x) (acc:=[m]) ho hc hpq hct ht (by rw[aI,hpx,Qg];simp only[aK,dT hm]) (cZ hm)
      (.inl ⟨by rw[aI,hqy];rfl,rfl⟩) (jY e2 _)
     rw[Qg,Qg]at this
     exact v_ (x:= .vec te (tsz V.sz e2) ((ys.map λx=>bN V.sz V.enc e2 x).take xs.length++(xs.map λx=>bN V.sz V.enc e2 x).drop ys.length)) (λω=>by simp only[bS,QU,Q9,Q_]) (λω=>rfl) (by rw[dT hm];exact vv xs _ _ rfl) h this
    ·cases h
   ·cases h
  ·cases h
 ·cases h
theorem EY{t:TypeId}{x:Operand}(ho:o.op= .box t x)(h:IJ V x S k=some r):OpD P nm o S k r:=by
 unfold IJ at h
 split at h
 ·rename_i i y hx
  exact dj h (.freezeBox (ds:=V.enc i y) ho (by rw[aI,hx,i6];rfl)) rfl
 ·cases h
end
section
variable (V:gW) (P:Program) (nm:Nat->Nat)
def HC:TV V.N->Bool
 | .lf (.ar _ _) _=>true
 |_=>false
def HB:Option (Ty V.ι)->Bool
 |some (.ar _ _)=>true
 |_=>false
def L2:Option (Ty V.ι)->Bool
 |some (.sl (.mp _ _))=>true
 |_=>false
def LZ:Ty V.ι->Bool
 | .fno=>true
 |_=>false
def Gp:Option (Ty V.ι)->Bool
 |some (.st i)=>(V.tys i).any (LZ V)
 |_=>false
def HE:Option (TO V.N)->Bool
 |some (.bar ..)=>true
 |_=>false
def Dd:Option (TO V.N)->Bool
 |some (.que ..)=>true
 |_=>false
def vQ:Option (TO V.N)->Bool
 |some (.maps ..)=>true
 |_=>false
def HA:Option (TO V.N)->Bool
 |some (.alias ..)=>true
 |_=>false
def HD:Option (TO V.N)->Bool
 |some (.vec _ (.ar _ _) _)=>true
 |_=>false
def HG:TV V.N->Bool
 | .lf (.st _) _=>true
 |_=>false
def rm(S:TS V.N):TV V.N->Bool
 | .mp n=>HA V (S.own? n)
 |_=>false
def zO(pre:Nat->Bool)(m:Nat):Option Tmp->Bool
 |some d=>pre (m+d)
 |none=>false
def Km(pre:Nat->Bool)(o:Oper)(S:TS V.N):Bool:=match o.op with
 | .index _ x _=>HC V (tev S x)
 | .indexAddr _ x _=>match tev S x with
  | .bp n 0=>HE V (S.own? n)
  | .rp (.ar _ _) _ _=>true
  | .ep .. =>true
  | .vh m=>Dd V (S.own? m)||vQ V (S.own? m)
  |_=>false
 | .load _ x=>match tev S x with
  | .ai .. =>true
  | .bp n _=>HE V (S.own? n)
  | .ep n _ _ _=>Dd V (S.own? n)||vQ V (S.own? n)||HD V (S.own? n)
  | .rp (.ar _ _) _ _=>true
  |_=>false
 | .store _ x _=>match tev S x with
  | .ai .. =>true
  | .bp n _=>HE V (S.own? n)
  | .ep n _ _ _=>vQ V (S.own? n)
  |_=>false
 | .alloc t=>HB V (V.ty t)
 | .box _ x=>HC V (tev S x)||zO pre 7000000 o.dst
 | .nilCheck x=>match tev S x with
  | .lf (.op _) _=>true
  |_=>false
 | .binOp _ _ x y _=>match tev S x,tev S y with
  | .lf (.op _) _, .raw (.pointer none)=>true
  | .lf .fno _, .raw .nilFunc=>true
  | .lf (.st _) _, .lf (.st _) _=>true
  |_,_=>false
 | .build t parts=>HB V (V.ty t)||Gp V (V.ty t)||(!parts.toList.isEmpty&&zO pre 1000000 o.dst)
 | .makeSlice t _ _=>L2 V (V.ty t)
 | .lookup _ x i _=>rm V S (tev S x)||HG V (tev S i)
 | .mapUpdate _ x i _=>rm V S (tev S x)||HG V (tev S i)
 | .insert _ x i _=>rm V S (tev S x)||HG V (tev S i)
 | .range _ x=>rm V S (tev S x)
 | .slice _ x _ _ _=>zO pre 5000000 o.dst||match tev S x with
  | .vh m=>Dd V (S.own? m)
  |_=>false
 | .buildSlice _ _ _=>zO pre 6000000 o.dst
 | .call c=>match c.callee with
  | .builtin .len=>match c.args.toList with
   |[x]=>rm V S (tev S x)
   |_=>false
  | .builtin .copy=>true
  | .builtin .append=>match c.args.toList with
   |[x,y]=>match tev S x,tev S y with
    | .sv ..,_=>false
    |_, .sv .. =>true
    | .vh n, .lf .. =>Dd V (S.own? n)
    |_,_=>false
   |_=>false
  |_=>false
 |_=>false
def NQ{A:Type}(o:Oper)(S:TS V.N)(k:TE V.N->Option A):Option A:=match o.op with
 | .index t x i=>u1 V P t x i S k
 | .indexAddr t x i=>match tev S x with
  | .vh _=>rg V P t x i S k
  |_=>IQ V P t x i S k
 | .load t x=>match tev S x with
  | .ep n _ _ _=>match vQ V (S.own? n)with
   |true=>ox V P t x o.dst S k
   |false=>wt V P t x S k
  |_=>wt V P t x S k
 | .store t x y=>match tev S x with
  | .ep .. =>kG V P t x y S k
  |_=>u7 V P t x y S k
 | .alloc t=>uU V P nm t o.dst k
 | .box _ x=>match HC V (tev S x)with
  |true=>II V nm x o.dst S k
  |false=>IJ V x S k
 | .nilCheck x=>IV V x S k
 | .binOp op xt x y _=>IK V P op xt x y S k
 | .build t parts=>match HB V (V.ty t)with
  |true=>uV V P t parts.toList S k
  |false=>match Gp V (V.ty t)with
   |true=>uW V P t parts.toList S k
   |false=>uX V P t parts.toList o.dst S k
 | .makeSlice t l c=>ow V P t l c o.dst S k
 | .lookup t x i c=>Cl V P t x i c S k
 | .mapUpdate t x i y=>Fk V P t x i y S k
 | .insert t x i y=>Fk V P t x i y S k
 | .range t x=>u3 V P t x o.dst S k
 | .slice t x lo hi mx=>u6 V P t x lo hi mx o.dst S k
 | .buildSlice t len parts=>uY V P t len parts.toList o.dst S k
 | .call c=>match c.callee with
  | .builtin .len=>IR V P (c.args.toList.map (tev S)) c.argTypes.toList S k
  | .builtin .copy=>Ch V P (c.args.toList.map (tev S)) c.argTypes.toList S k
  | .builtin .append=>IH V P (c.args.toList.map (tev S)) c.argTypes.toList o.dst S k
  |_=>none
 |_=>none
def opX(pre:Nat->Bool)(o:Oper)(S:TS V.N):Bool:=Km V pre o S||JZ V pre o S
def tdX{A:Type}(pre:Nat->Bool)(o:Oper)(S:TS V.N)(k:TE V.N->Option A):Option A:=match Km V pre o S with
 |true=>NQ V P nm o S k
 |false=>IP V P nm o S k
def Hg(S:TS V.N)(t:Nat):TS V.N:=match gt S.tmps t with
 |some (.bp b 0)=>match S.own? b with
  |some (.bst i x)=>{tmps:=(t, .lf (.op (.st i)) (some x))::S.tmps,own:=(b, .gone 0)::S.own}
  |_=>S
 |_=>S
def Nq(S:TS V.N)(t:Nat):TS V.N:=match gt S.tmps t with
 |some (.vh n)=>match S.own? n with
  |some (.vec _ e xs)=>{S with tmps:=(t, .sv n (tsz V.sz e) 0 xs.length)::S.tmps}
  |_=>S
 |_=>S
def IF(S:TS V.N)(x:Operand)(ty:TypeId):TS V.N:=match x with
 | .tmp t=>match cj P ty,V.ty ty with
  |some (te,_,_),some (.sl e)=>Nq V (ut V false te e S t) t
  |_,_=>S
 |_=>S
def p9(S:TS V.N):List Operand->List TypeId->TS V.N
 |x::r,ty::s=>p9 (IF V P S x ty) r s
 |_,_=>S
def Aa:Nat->List (TV V.N)->Option (Nat×Nat×Nat×Nat)
 |_,[]=>none
 |i,x::r=>match x with
  | .sv m sz 0 l=>some (i,m,sz,l)
  |_=>Aa (i+1) r
def pb(S:TS V.N):List (Nat×TO V.N)->Option (Nat×Option TypeId×List (TV V.N)×Nat×Nat×Nat×Nat)
 |[]=>none
 |(b,_)::r=>match S.own? b with
  |some (.box o cells)=>match Aa V 0 cells with
   |some q=>some (b,o,cells,q)
   |none=>pb S r
  |_=>pb S r
def Hy{A:Type}(S:TS V.N)(k:TS V.N->Option A):Option A:=match pb V S S.own with
 |some (b,o,cells,i,m,sz,l)=>match S.own? m with
  |some (.vec te e xs)=>if sz=tsz V.sz e/\¬b=m/\S.fresh (75000+S.own.length)=true/\RD (75000+S.own.length) given=true then
   if l<=xs.length then k {tmps:=S.tmps,own:=(b, .box o (cells.set i (.vh (75000+S.own.length))))::(75000+S.own.length, .vec te e (xs.take l))::(m, .gone (S.len m))::S.own}else none
   else none
  |_=>none
 |none=>none
def zW{A:Type}(pre:Nat->Bool)(o:Oper)(S:TS V.N)(k:TS V.N->Option A):Option A:=match zO pre 8000000 o.dst with
 |true=>Hy V S k
 |false=>match o.op with
  | .store _ _ (.tmp t)=>match pre (7000000+t)with
   |true=>k (Hg V S t)
   |false=>k S
  | .call c=>match c.callee with
   | .value f=>match tev S f with
    | .fn fid _ _=>match pre (9000000+fid)with
     |true=>k (p9 V P S c.args.toList c.argTypes.toList)
     |false=>k S
    |_=>k S
   |_=>k S
  |_=>k S
end
section
variable {V:gW} {P:Program} {nm:Nat->Nat} {pre:Nat->Bool} {o:Oper} {S:TS V.N} {A:Type} {k:TE V.N->Option A} {r:A}
theorem yy(h:NQ V P nm o S k=some r):OpD P nm o S k r:=by
 unfold NQ at h
 split at h
 ·rename_i t x i ho;exact yx ho h
 ·rename_i t x i ho
  split at h
  ·exact u2 ho h
  ·exact E5 ho h
 ·rename_i t x ho
  split at h
  ·split at h
   ·exact tc ho h
   ·exact s9 ho h
  ·exact s9 ho h
 ·rename_i t x y ho
  split at h
  ·exact rh ho h
  ·exact yF ho h
 ·rename_i t ho;exact yp ho h
 ·rename_i t x ho
  split at h
  ·exact EX ho h
  ·exact EY ho h
 ·rename_i x ho;exact E_ ho h
 ·rename_i op xt x y yt ho;exact EZ ho h
 ·rename_i t parts ho
  split at h
  ·exact yq ho h
  ·split at h
   ·exact yr ho h
   ·exact yu ho h
 ·rename_i t l c ho;exact s_ ho h
 ·rename_i t x i c ho;exact Cm ho h
 ·rename_i t x i y ho;exact ww (.inl ho) h
 ·rename_i t x i y ho;exact ww (.inr ho) h
 ·rename_i t x ho;exact yz ho h
 ·rename_i t x lo hi mx ho;exact yE ho h
 ·rename_i t len parts ho;exact yw ho h
 ·rename_i c ho
  split at h
  ·rename_i hc;exact E7 ho hc h
  ·rename_i hc;exact Ci ho hc h
  ·rename_i hc;exact EW ho hc h
  ·cases h
 ·cases h
theorem s8(hf:∀te,k te=some r->∀d∈te.new,S.fresh d=true)(h:tdX V P nm pre o S k=some r):OpD P nm o S k r:=by
 unfold tdX at h
 split at h
 ·exact yy h
 ·exact uZ hf h
theorem yX(S:TS V.N)(t:Nat):Ent (aV V S) (aV V (Hg V S t)):=by
 unfold Hg
 split
 ·rename_i b ht
  split
  ·rename_i i x hb
   have h1:gt (aV V S).tmps t=some (.bp b 0):=by rw[cC,ht];rfl
   have h2:(aV V S).own? b=some (.box none ((V.enc i x).map .d)):=by rw[aZ,hb];rfl
   refine Ent.trans (Ent.boxData h1 h2) ?_
   have hl:({tmps:=(t, .lf (.op (.st i)) (some x))::S.tmps,own:=(b, .gone 0)::S.own}:TS V.N).len=S.len:=by
    funext m
    unfold TS.len TS.own?
    rw[aE]
    by_cases e:b=m
    ·subst e
     rw[TP rfl]
     unfold TS.own? at hb
     rw[hb];rfl
    ·rw[TN e]
   have:aV V {tmps:=(t, .lf (.op (.st i)) (some x))::S.tmps,own:=(b, .gone 0)::S.own}={tmps:=(t, .d (.rp (V.enc i x)))::(aV V S).tmps,own:=(b,none)::(aV V S).own}:=by
    unfold aV
    rw[hl];rfl
   rw[this]
   exact Ent.refl _
  ·exact Ent.refl _
 ·exact Ent.refl _
theorem ET(S:TS V.N)(t:Nat):Ent (aV V S) (aV V (Nq V S t)):=by
 unfold Nq
 split
 ·rename_i n ht
  split
  ·rename_i te e xs hn
   have h1:gt (aV V S).tmps t=some (.vh n (xs.map λx=>bN V.sz V.enc e x).length):=by
    rw[cC,ht,Qg]
    simp only[QG,aK,dT hn]
   have:=Ent.vh2sv h1 (cZ hn)
   rw[Qg]at this
   exact this
  ·exact Ent.refl _
 ·exact Ent.refl _
theorem Ce(S:TS V.N)(x:Operand)(ty:TypeId):Ent (aV V S) (aV V (IF V P S x ty)):=by
 unfold IF
 split
 ·split
  ·exact Ent.trans (nP _ _ _ S _) (ET _ _)
  ·exact Ent.refl _
 ·exact Ent.refl _
theorem p_:∀(l:List Operand) (tys:List TypeId) (S:TS V.N),Ent (aV V S) (aV V (p9 V P S l tys))
 |[],_,S=>by simp only[p9];exact Ent.refl _
 |_::_,[],S=>by simp only[p9];exact Ent.refl _
 |x::r,ty::s,S=>by
  simp only[p9]
  exact Ent.trans (Ce S x ty) (p_ r s _)
theorem pi:∀{l:List (TV V.N)} {j i m sz n:Nat},Aa V j l=some (i,m,sz,n)->j<=i/\l[i-j]?=some (.sv m sz 0 n)
 |[],_,_,_,_,_,h=>by simp[Aa]at h
 |x::r,j,i,m,sz,n,h=>by
  simp only[Aa]at h
  split at h
  ·simp only[Qd,QI]at h
   obtain⟨rfl,rfl,rfl,rfl⟩:=h
   exact⟨QF _,by simp⟩
  ·obtain⟨h1,h2⟩:=pi h
   refine⟨by omega,?_⟩
   have:i-j=(i-(j+1))+1:=by omega
   rw[this]
   simpa using h2
theorem i8:∀{l:List (Nat×TO V.N)} {b:Nat} {o:Option TypeId} {cells:List (TV V.N)} {i m sz n:Nat},pb V S l=some (b,o,cells,i,m,sz,n)->S.own? b=some (.box o cells)/\cells[i]?=some (.sv m sz 0 n)
 |[],_,_,_,_,_,_,_,h=>by simp[pb]at h
 |(b',_)::r,b,o,cells,i,m,sz,n,h=>by
  simp only[pb]at h
  split at h
  ·rename_i o' cells' hb
   split at h
   ·rename_i q hq
    simp only[Qd,QI]at h
    obtain⟨rfl,rfl,rfl,rfl⟩:=h
    have:=(pi hq).2
    exact⟨hb,by simpa using this⟩
   ·exact i8 h
  ·exact i8 h
theorem z6{k:TS V.N->Option A}(h:Hy V S k=some r):∃S',k S'=some r/\Ent (aV V S) (aV V S'):=by
 unfold Hy at h
 split at h
 ·rename_i b oty cells i m sz l hfs
  obtain⟨hb,hi⟩:=i8 hfs
  split at h
  ·rename_i te e xs hm
   replace h:=aF h
   obtain⟨⟨e1,hbm,hf,hg⟩,h⟩:=h
   replace h:=aF h
   obtain⟨hl,h⟩:=h
   subst e1
   generalize 75000+S.own.length=nn at *
   refine⟨_,h,?_⟩
   have hg:nn<given:=by simpa[RN]using hg
   have h1:(aV V S).own? b=some (.box oty (encL V S.len cells)):=by rw[aZ,hb];rfl
   have h2:(encL V S.len cells)[i]?=some (.sv m (tsz V.sz e) 0 l):=by rw[aO,Qh,hi];rfl
   have hfr:=eB hf
   refine Ent.trans (Ent.head h1 h2 (cZ hm) (by rw[Qg];exact hl) hbm ⟨hfr,hg⟩) ?_
   have hcn:TV.hasL nn cells=false:=by
    have:=hf
    unfold TS.fresh at this
    simp only[Qk,Qq]at this
    have:=this.2 (b, .box oty cells) (cz hb)
    simpa[TO.has]using this
   have hfo:S.own? nn=none:=by
    have:=hf
    unfold TS.fresh at this
    simp only[Qk]at this
    have:=this.1.1
    cases ho:S.own? nn with
    |none=>rfl
    |some x=>rw[ho]at this;cases this
   have hbn:b≠nn:=λe0=>by subst e0;rw[hb]at hfo;cases hfo
   have hmn:m≠nn:=λe0=>by subst e0;rw[hm]at hfo;cases hfo
   generalize hS':({tmps:=S.tmps,own:=(b, .box oty (cells.set i (.vh nn)))::(nn, .vec te e (xs.take l))::(m, .gone (S.len m))::S.own}:TS V.N)=S'
   have hlen:∀q,q≠nn->S'.len q=S.len q:=by
    intro q hq
    subst hS'
    unfold TS.len TS.own?
    simp only[aE]
    by_cases q1:b=q
    ·subst q1
     rw[TP rfl]
     unfold TS.own? at hb
     rw[hb];rfl
    ·rw[TN q1,TN (Rf hq)]
     by_cases q2:m=q
     ·subst q2;rw[TP rfl];rfl
     ·rw[TN q2]
   have hlnn:S'.len nn=l:=by
    subst hS'
    unfold TS.len TS.own?
    simp only[aE,TN hbn,TK,TO.len,QQ]
    omega
   refine Ent.le (λt x hx=> ?_) λn x hx=> ?_
   ·rw[cC,Qr]at hx
    obtain⟨v,hv,rfl⟩:=hx
    have hv':gt S.tmps t=some v:=by subst hS';exact hv
    refine⟨aK V S.len v,by simp only[cC,hv'];rfl,?_⟩
    have:aK V S'.len v=aK V S.len v:=iA v λq hq=>hlen q λe0=>by
     subst e0
     have:=fresh_tmp hf hv'
     rw[hq]at this;cases this
    rw[this]
    exact H.le.refl _
   ·rw[aZ,RF]at hx
    obtain⟨oo,ho1,ho2⟩:=hx
    refine⟨x,?_,OLe.refl _⟩
    subst hS'
    unfold TS.own? at ho1
    unfold aA.own?
    simp only[aE]at ho1⊢
    by_cases q1:b=n
    ·rw[TP q1]at ho1⊢
     simp only[Qd]at ho1;subst ho1
     simp only[bS,Qd]at ho2;subst ho2
     have hc:encL V (TS.len {tmps:=S.tmps,own:=(b, .box oty (cells.set i (.vh nn)))::(nn, .vec te e (xs.take l))::(m, .gone (S.len m))::S.own}) (cells.set i (.vh nn))=(encL V S.len cells).set i (.vh nn l):=by
      rw[aO,RQ,aO]
      congr 1
      ·rw[<-aO,<-aO]
       refine encL_congr cells λq hq=>hlen q λe0=> ?_
       subst e0;rw[hcn]at hq;cases hq
      ·simp only[aK,hlnn]
     rw[hc]
     rfl
    ·rw[TN q1]at ho1⊢
     by_cases q2:nn=n
     ·rw[TP q2]at ho1⊢
      simp only[Qd]at ho1;subst ho1
      simp only[bS,Qd]at ho2;subst ho2
      rw[Q9];rfl
     ·rw[TN q2]at ho1⊢
      by_cases q3:m=n
      ·rw[TP q3]at ho1
       simp only[Qd]at ho1;subst ho1
       cases ho2
      ·rw[TN q3]at ho1⊢
       have hq:(aV V S).own? n=some x:=by
        rw[aZ]
        unfold TS.own?
        rw[ho1]
        have:bS V S.len oo=bS V (TS.len {tmps:=S.tmps,own:=(b, .box oty (cells.set i (.vh nn)))::(nn, .vec te e (xs.take l))::(m, .gone (S.len m))::S.own}) oo:=(o8 oo λq hq=>hlen q λe0=>by
         subst e0
         have:=hf
         unfold TS.fresh at this
         simp only[Qk,Qq]at this
         have:=this.2 (n,oo) (cz ho1)
         simp[hq]at this).symm
        rw[Qe,this];exact ho2
       exact hq
  ·cases h
 ·cases h
theorem xi{k:TS V.N->Option A}(h:zW V P pre o S k=some r):∃S',k S'=some r/\Ent (aV V S) (aV V S'):=by
 unfold zW at h
 split at h
 ·exact z6 h
 ·split at h
  ·split at h
   ·exact⟨_,h,yX S _⟩
   ·exact⟨_,h,Ent.refl _⟩
  ·split at h
   ·split at h
    ·split at h
     ·exact⟨_,h,p_ _ _ S⟩
     ·exact⟨_,h,Ent.refl _⟩
    ·exact⟨_,h,Ent.refl _⟩
   ·exact⟨_,h,Ent.refl _⟩
  ·exact⟨_,h,Ent.refl _⟩
end
end Go.Tx
end
section
namespace Go.Tx
open Go.Awp
variable [Inhabited GMem]
section
variable {ι:Type} {N:ι->Type}
def setB(S:TS N)(d:Nat)(b:Bool):TS N:={S with tmps:=(d, .lf .bool b)::S.tmps}
def r5(S:TS N)(all:List Oper)(j:Nat):Option (Nat×TV N):=match all[j]? with
 |some o=>match o.dst with
  |some d=>match gt S.tmps d with
   |some v=>some (d,v)
   |none=>none
  |none=>none
 |none=>none
def zF(n:Nat)(pre:Nat->Bool)(o:Oper):Bool:=match o.dst with
 |some d=>RD d n&& !pre (4000000+d)
 |none=>true
def eQ(S:TS N)(e:TE N):Bool:=e.new.all λd=>S.fresh d&&RD d given
end
section
variable (V:gW) (P:Program) (n:Nat) (nm:Nat->Nat) (call:dl V)
def ml:TV V.N->List (TV V.N)
 | .vh n=>[.vh n]
 | .agg cs=>cs
 |_=>[]
def GS(b c:Bool):TV V.N->List (TV V.N)
 | .vh n=>match b with
  |true=>[.vh n]
  |false=>[]
 | .agg cs=>match c with
  |true=>[]
  |false=>cs
 |_=>[]
def Bh(pre:Nat->Bool)(o:Oper)(S:TS V.N):TS V.N:=match o.op with
 | .buildSlice _ _ parts=>frzL V S (parts.toList.flatMap λp=>ml V (tev S p.2))
 | .convert _ _ x=>frzL V S (ml V (tev S x))
 | .slice _ x _ _ _=>frzL V S (ml V (tev S x))
 | .store _ x y=>match tev S x with
  | .ep .. =>frzL V S (ml V (tev S y))
  |_=>S
 | .call c=>match c.callee with
  | .value f=>match tev S f with
   | .fn fid first captured=>frzL V S ((first++c.args.toList.map (tev S)++captured).flatMap (GS V (pre fid) (pre (2000000+fid))))
   | .lf .fnc _=>frzL V S ((c.args.toList.map (tev S)).flatMap (GS V false false))
   |_=>S
  | .builtin .append=>match c.args.toList,c.argTypes.toList with
   |[_, .tmp t],ty::_=>match gt S.tmps t,V.ty ty with
    |some (.vh n),_=>frzL V S [.vh n]
    |some (.raw (.slice (some _) 0 _)),some (.sl e)=>{S with tmps:=(t, .lf (.sl e) [])::S.tmps}
    |some (.raw (.slice none 0 0)),some (.sl e)=>{S with tmps:=(t, .lf (.sl e) [])::S.tmps}
    |_,_=>S
   |_,_=>S
  |_=>S
 |_=>S
def rU{α β:Type}:List α->(List α->β)->β
 |[],k=>k []
 |x::r,k=>rU r λl=>k (x::l)
theorem ng{α β:Type}:∀(l:List α) (k:List α->β),rU l k=k l
 |[],_=>rfl
 |x::r,k=>by rw[rU,ng r]
def vH{ι:Type}{N:ι->Type}{β:Type}(S:TS N)(k:TS N->β):β:=rU S.tmps λt=>rU S.own λo=>k ⟨t,o⟩
theorem rV{ι:Type}{N:ι->Type}{β:Type}(S:TS N)(k:TS N->β):vH S k=k S:=by
 unfold vH
 rw[ng,ng]
noncomputable def IU{A:Type}(x:Operand)(S:TS V.N)(k:TE V.N->Option A):Option A:=match tev S x with
 | .bp n 0=>match S.own? n with
  |some (.miter m tk tv es rest _)=>if HJ tk=true/\S.len m=0 then
   if rest.isEmpty=true then k {val:= .tup [.lf .bool false],acc:=[n,m],upd:=[(m, .map tk tv es),(n, .gone 0)]}
   else G_ (steps rest) λq=>k {val:= .tup [.lf .bool true, .lf tk q.1.1, .lf tv q.1.2],acc:=[n],upd:=[(n, .miter m tk tv es q.2 (some q.1))]}
   else none
  |_=>none
 |_=>none
noncomputable def txo(pre:Nat->Bool)(o:Oper){A:Type}(S:TS V.N)(k:TS V.N->Option A):Option A:=match o.op with
 | .next x false=>IU V x S λte=>match eQ S te with
  |true=>k (S.app o.dst te)
  |false=>none
 |_=>zW V P pre o S λS=>match opX V pre o S with
  |true=>tdX V P nm pre o S λte=>match eQ S te with
   |true=>k (S.app o.dst te)
   |false=>none
  |false=>tx V P nm call false o (Bh V pre o S) λte=>match eQ (Bh V pre o S) te with
   |true=>k ((Bh V pre o S).app o.dst te)
   |false=>none
noncomputable def txs(pre:Nat->Bool)(all:List Oper){A:Type}:List Oper->TS V.N->(TS V.N->Option A)->Option A
 |[],S,k=>k S
 |o::os,S,k=>vH S λS=>match zF n pre o with
  |false=>none
  |true=>match o.guard with
   |none=>txo V P nm call pre o S λS'=>txs pre all os S' k
   |some (j,want)=>match r5 S all j with
    |some (d, .lf .bool b)=>if b=true then
      match want with
      |true=>txo V P nm call pre o (setB S d true) λS'=>txs pre all os S' k
      |false=>txs pre all os ((setB S d true).app o.dst {val:= .tup []}) k
     else
      match want with
      |false=>txo V P nm call pre o (setB S d false) λS'=>txs pre all os S' k
      |true=>txs pre all os ((setB S d false).app o.dst {val:= .tup []}) k
    |some (_, .tup [])=>txs pre all os (S.app o.dst {val:= .tup []}) k
    |_=>none
def txq(pre:Nat->Bool)(o:Oper){A:Type}(S:TS V.N)(k:TE V.N->Option A):Option A:=match opX V pre o S with
 |true=>tdX V P nm pre o S k
 |false=>tx V P nm call true o S k
def txd(pre:Nat->Bool)(all:List Oper){A:Type}:List Oper->TS V.N->List Tr1->(TS V.N->List Tr1->Option A)->Option A
 |[],S,tr,k=>k S tr
 |o::os,S,tr,k=>vH S λS=>match zF n pre o with
  |false=>none
  |true=>match det o.op with
   |false=>none
   |true=>match o.guard with
   |none=>txq V P nm call pre o S λte=>match eQ S te with
    |true=>txd pre all os (S.app o.dst te) (tr++[⟨f6 (S.app o.dst te).len te,true⟩]) k
    |false=>none
   |some (j,want)=>match r5 S all j with
    |some (d, .lf .bool b)=>if b=true then
      match want with
      |true=>txq V P nm call pre o (setB S d true) λte=>match eQ (setB S d true) te with
       |true=>txd pre all os ((setB S d true).app o.dst te) (tr++[⟨f6 ((setB S d true).app o.dst te).len te,true⟩]) k
       |false=>none
      |false=>txd pre all os ((setB S d true).app o.dst {val:= .tup []}) (tr++[⟨{val:= .tup []},false⟩]) k
     else
      match want with
      |false=>txq V P nm call pre o (setB S d false) λte=>match eQ (setB S d false) te with
       |true=>txd pre all os ((setB S d false).app o.dst te) (tr++[⟨f6 ((setB S d false).app o.dst te).len te,true⟩]) k
       |false=>none
      |true=>txd pre all os ((setB S d false).app o.dst {val:= .tup []}) (tr++[⟨{val:= .tup []},false⟩]) k
    |some (_, .tup [])=>txd pre all os (S.app o.dst {val:= .tup []}) (tr++[⟨{val:= .tup []},false⟩]) k
    |_=>none
end
section
variable {V:gW}
theorem q9{C:Ctx}{E:Env}{M:Mem}{S:TS V.N}{d:Nat}{b:Bool}{a:Act}{w:World}(hd:gt S.tmps d=some (.lf .bool b))(hs:Sim C E M (aV V S) a w):Sim C E M (aV V (setB S d b)) a w:=by
 have hl:(setB S d b).len=S.len:=rfl
 refine Sim.le hs (λt x hx=> ?_) λn o ho=>⟨o,ho,OLe.refl _⟩
 rw[cC]at hx⊢
 simp only[setB,aE]at hx
 by_cases h:d=t
 ·subst h
  rw[TP rfl]at hx
  rw[hd]
  exact⟨x,hx,H.le.refl _⟩
 ·rw[TN h]at hx
  exact⟨x,hx,H.le.refl _⟩
theorem i9{S:TS V.N}{all:List Oper}{j d:Nat}{v:TV V.N}(h:r5 S all j=some (d,v)):gt S.tmps d=some v/\∃o,all[j]?=some o/\o.dst=some d:=by
 unfold r5 at h
 split at h
 ·rename_i o ho
  split at h
  ·rename_i d' hd
   split at h
   ·rename_i v' hv
    simp at h;obtain⟨rfl,rfl⟩:=h
    exact⟨hv,o,ho,hd⟩
   ·cases h
  ·cases h
 ·cases h
theorem jB{S:TS V.N}{σ:aA}(hσ:∀t,gt σ.tmps t=gt (aV V S).tmps t){all:List Oper}{j d:Nat}{v:TV V.N}{want b:Bool}(h:r5 S all j=some (d,v))
 (hv:v= .lf .bool b\/v= .tup []/\b= !want):iU σ all j want=some b:=by
 obtain⟨h1,o,h2,h3⟩:=i9 h
 have hg:σ.get d=aK V S.len v:=by
  unfold aA.get
  rw[hσ,cC,h1];rfl
 unfold iU
 simp only[h2,h3,hg]
 rcases hv with rfl|⟨rfl,rfl⟩
 ·simp[aK,aY]
 ·simp[aK,encL]
theorem dU{S:TS V.N}{te:TE V.N}(h:eQ S te=true):(∀d∈te.new,S.fresh d=true)/\∀d∈te.new,d<given:=by
 unfold eQ at h
 rw[Qq]at h
 refine⟨λd hd=> ?_,λd hd=> ?_⟩
 ·have:=h d hd
  simp only[Qk]at this
  exact this.1
 ·have:=h d hd
  simp only[Qk,RN]at this
  exact this.2
def Fx(C:Ctx)(pre:Nat->Bool):Prop:=∀p∈C.fix,pre (4000000+p.1)=true
theorem qo{C:Ctx}{pre:Nat->Bool}{o:Oper}(hF:Fx C pre)(h:zF C.N pre o=true):∀d,o.dst=some d->C.wr d:=by
 intro d hd
 unfold zF at h
 rw[hd]at h
 simp only[Qk,RN,Sm]at h
 refine⟨h.1,λp hp e=> ?_⟩
 have:=hF p hp
 rw[e,h.2]at this
 cases this
theorem wv(S:TS V.N):good S {val:= .tup []}:=iE S _ _
theorem I3{C:Ctx}{E:Env}{M:Mem}{S:TS V.N}{o:Oper}{a:Act}{w:World}(hd:∀d,o.dst=some d->C.wr d)(hs:Sim C E M (aV V S) a w):Sim C E M (aV V (S.app o.dst {val:= .tup []})) (a.put o.dst undef) w:=by
 have h1:=hs.app_val (o:=o) hd (e:={val:= .tup []}) rfl GR
 refine Sim.tapp (ex:=false) (e':={val:= .tup []}) (wv S) (λd h=>by cases h) (rK ?_) h1
 simp[aK,encL]
theorem NR{C:Ctx}{nm:Nat->Nat}{call:dl V}{ex:Bool}{o:Oper}{S:TS V.N}{A:Type}{k:TS V.N->Option A}{r:A}{E:Env}{M:Mem}{a:Act}{w:World}{K:Act->World->Prop}{Q:Exit->Act->World->Prop}
 (hcall:bO C.P call)(hd:∀d,o.dst=some d->C.wr d)(h:(tx V C.P nm call ex o S λte=>match eQ S te with|true=>k (S.app o.dst te)|false=>none)=some r)(hs:Sim C E M (aV V S) a w)
 (hK:∀te E' M' a' w',k (S.app o.dst te)=some r->Sim C E' M' (aV V (S.app o.dst te)) a' w'->K a' w'):o.wp C.P a w K Q:=by
 have hnew:∀te:TE V.N,(match eQ S te with|true=>k (S.app o.dst te)|false=>none)=some r->eQ S te=true/\k (S.app o.dst te)=some r:=by
  intro te h
  cases hq:eQ S te with
  |true=>rw[hq]at h;exact⟨rfl,h⟩
  |false=>rw[hq]at h;cases h
 obtain⟨te,h1,h2,h3⟩:=wx hcall (λte hte=>(dU (hnew te hte).1).1) h
 obtain⟨hn,hk⟩:=hnew te h1
 obtain⟨f1,f2⟩:=dU hn
 refine sB hd E M (aV V S) a w K Q (λe=>ELe ex e (f6 (S.app o.dst te).len te)) hs (mm (λe he=>⟨λd hd=> ?_,he⟩) h3) λe E' M' a' w' he hs'=>hK te E' M' a' w' hk (Sim.tapp h2 f1 he hs')
 have hd:d∈te.new:=by rw[he.new]at hd;exact hd
 exact⟨eB (f1 d hd),f2 d hd⟩
theorem E3{C:Ctx}{nm:Nat->Nat}{pre:Nat->Bool}{o:Oper}{S:TS V.N}{A:Type}{k:TS V.N->Option A}{r:A}{E:Env}{M:Mem}{a:Act}{w:World}{K:Act->World->Prop}{Q:Exit->Act->World->Prop}
 (hd:∀d,o.dst=some d->C.wr d)(h:(tdX V C.P nm pre o S λte=>match eQ S te with|true=>k (S.app o.dst te)|false=>none)=some r)(hs:Sim C E M (aV V S) a w)
 (hK:∀te E' M' a' w',k (S.app o.dst te)=some r->Sim C E' M' (aV V (S.app o.dst te)) a' w'->K a' w'):o.wp C.P a w K Q:=by
 have hnew:∀te:TE V.N,(match eQ S te with|true=>k (S.app o.dst te)|false=>none)=some r->eQ S te=true/\k (S.app o.dst te)=some r:=by
  intro te h
  cases hq:eQ S te with
  |true=>rw[hq]at h;exact⟨rfl,h⟩
  |false=>rw[hq]at h;cases h
 obtain⟨te,h1,h2,e',h3,h4⟩:=s8 (λte hte=>(dU (hnew te hte).1).1) h
 obtain⟨hn,hk⟩:=hnew te h1
 obtain⟨f1,f2⟩:=dU hn
 refine h3.ok hd hs (λd hd=> ?_) λE' M' a' w' hs'=>hK te E' M' a' w' hk (Sim.tapp h2 f1 h4 hs')
 have hd:d∈te.new:=by rw[h4.new]at hd;exact hd
 exact⟨eB (f1 d hd),f2 d hd⟩
theorem sf{α β:Type}(f:α->β):∀(l:List α) (i:Nat),(l.eraseIdx i).map f=(l.map f).eraseIdx i
 |[],_=>rfl
 |_::_,0=>rfl
 |x::r,i+1=>by simp[Tb,sf f r i]
theorem E9{C:Ctx}{nm:Nat->Nat}{o:Oper}{S:TS V.N}{A:Type}{k:TS V.N->Option A}{r:A}{E:Env}{M:Mem}{a:Act}{w:World}{K:Act->World->Prop}{Q:Exit->Act->World->Prop}{x:Operand}
 (ho:o.op= .next x false)(hd:∀d,o.dst=some d->C.wr d)(h:(IU V x S λte=>match eQ S te with|true=>k (S.app o.dst te)|false=>none)=some r)(hs:Sim C E M (aV V S) a w)
 (hK:∀te E' M' a' w',k (S.app o.dst te)=some r->Sim C E' M' (aV V (S.app o.dst te)) a' w'->K a' w'):o.wp C.P a w K Q:=by
 have hnew:∀te:TE V.N,(match eQ S te with|true=>k (S.app o.dst te)|false=>none)=some r->eQ S te=true/\k (S.app o.dst te)=some r:=by
  intro te h
  cases hq:eQ S te with
  |true=>rw[hq]at h;exact⟨rfl,h⟩
  |false=>rw[hq]at h;cases h
 have go:∀(te:TE V.N) (e:Eff),(match eQ S te with|true=>k (S.app o.dst te)|false=>none)=some r->good S te->ELe false e (f6 (S.app o.dst te).len te)->
  (∀d∈e.new,(aV V S).fresh d=true/\d<given)/\∃te,good S te/\(∀d∈te.new,S.fresh d=true)/\ELe false e (f6 (S.app o.dst te).len te)/\k (S.app o.dst te)=some r:=by
  intro te e h hg he
  obtain⟨hn,hk⟩:=hnew te h
  obtain⟨f1,f2⟩:=dU hn
  exact⟨λd hd=>by
   have hd:d∈te.new:=by rw[he.new]at hd;exact hd
   exact⟨eB (f1 d hd),f2 d hd⟩,te,hg,f1,he,hk⟩
 unfold IU at h
 split at h
 ·rename_i n hx
  split at h
  ·rename_i m tk tv es rest cur hown
   obtain⟨⟨hkey,hlm⟩,h⟩:=aF h
   refine sB (nm:=nm) hd E M (aV V S) a w K Q (λe=>∃te,good S te/\(∀d∈te.new,S.fresh d=true)/\ELe false e (f6 (S.app o.dst te).len te)/\k (S.app o.dst te)=some r) hs ?_
    λe E' M' a' w' ⟨te,h2,f1,he,hk⟩ hs'=>hK te E' M' a' w' hk (Sim.tapp h2 f1 he hs')
   simp only[bG,ho,aI,hx,aK,sH hown]
   refine⟨trivial,λhr=> ?_,λi p hp=> ?_⟩
   ·have hr:rest=[]:=by simpa using hr
    subst hr
    simp only[List.isEmpty_nil,TK]at h
    refine go {val:= .tup [.lf .bool false],acc:=[n,m],upd:=[(m, .map tk tv es),(n, .gone 0)]} {val:= .tup [.d (.v (.bool false))],acc:=[n,m],upd:=[(m,some (.map (es.map λp=>(d6 V.enc tk p.1,aY V.sz V.enc tv p.2)))),(n,none)]} h (λm' o' hm=> ?_)
     (cw (by simp[aK,encL,aY]) rfl (by simp[bS]) rfl)
    simp only[aE]at hm
    right
    split at hm
    ·rename_i e;simp at hm;subst hm;subst e;simp[TO.len,hlm]
    ·split at hm
     ·rename_i e;simp at hm;subst hm;subst e;simp[TO.len,r_ hown]
     ·simp[gt]at hm
   ·rw[Qh,Qr]at hp
    obtain⟨q,hq,rfl⟩:=hp
    have hne:rest.isEmpty=false:=by cases rest with|nil=>simp at hq|cons a r=>rfl
    rw[TN (by simp[hne]),wK]at h
    have h:=h.2 _ (Cd hq)
    refine go {val:= .tup [.lf .bool true, .lf tk q.1, .lf tv q.2],acc:=[n],upd:=[(n, .miter m tk tv es (rest.eraseIdx i) (some q))]}
     {val:= .tup [.d (.v (.bool true)), .d (.v (d6 V.enc tk q.1)), .d (aY V.sz V.enc tv q.2)],acc:=[n],upd:=[(n,some (.miter m (es.map λp=>(d6 V.enc tk p.1,aY V.sz V.enc tv p.2)) ((rest.map λp=>(d6 V.enc tk p.1,aY V.sz V.enc tv p.2)).eraseIdx i) (some (d6 V.enc tk q.1,aY V.sz V.enc tv q.2))))]} h (λm' o' hm=> ?_)
     (cw (by simp only[aK,encL,Ak hkey];rfl) rfl (by simp[bS,sf]) rfl)
    simp only[aE]at hm
    right
    split at hm
    ·rename_i e;simp at hm;subst hm;subst e;simp[TO.len,r_ hown]
    ·simp[gt]at hm
  ·cases h
 ·cases h
theorem Cc{S:TS V.N}{t:Nat}{v v':TV V.N}(ht:gt S.tmps t=some v)(h:H.le (aK V S.len v) (aK V S.len v')):Ent (aV V S) (aV V {S with tmps:=(t,v')::S.tmps}):=
 Ent.le (λd x hx=>by
  have hl:({S with tmps:=(t,v')::S.tmps}:TS V.N).len=S.len:=rfl
  rw[cC]at hx
  simp only[aE,hl]at hx
  by_cases h1:t=d
  ·subst h1
   rw[TP rfl]at hx
   simp at hx;subst hx
   exact⟨_,by rw[cC,ht];rfl,h⟩
  ·rw[TN h1]at hx
   exact⟨x,by rw[cC];exact hx,H.le.refl _⟩) λn o ho=>⟨o,ho,OLe.refl _⟩
theorem Bi(pre:Nat->Bool)(o:Oper)(S:TS V.N):Ent (aV V S) (aV V (Bh V pre o S)):=by
 unfold Bh
 split
 ·exact dP _ S
 ·exact dP _ S
 ·exact dP _ S
 ·split
  ·exact dP _ S
  ·exact Ent.refl _
 ·split
  ·split
   ·exact dP _ S
   ·exact dP _ S
   ·exact Ent.refl _
  ·split
   ·split
    ·exact dP _ S
    ·rename_i ht _
     refine Cc ht ?_
     simp only[aK,bZ,aY,QW]
     exactλE M v h=>by rw[h.dv];exact .d (.slmt _ _ _)
    ·rename_i ht _
     refine Cc ht ?_
     simp only[aK,bZ,aY,QW]
     exactλE M v h=>by rw[h.dv];exact .d (.slnil _)
    ·exact Ent.refl _
   ·exact Ent.refl _
  ·exact Ent.refl _
 ·exact Ent.refl _
theorem K_{C:Ctx}{nm:Nat->Nat}{call:dl V}{pre:Nat->Bool}{o:Oper}{S:TS V.N}{A:Type}{k:TS V.N->Option A}{r:A}{E:Env}{M:Mem}{a:Act}{w:World}{K:Act->World->Prop}{Q:Exit->Act->World->Prop}
 (hcall:bO C.P call)(hd:∀d,o.dst=some d->C.wr d)(h:txo V C.P nm call pre o S k=some r)(hs:Sim C E M (aV V S) a w)
 (hK:∀S' E' M' a' w',k S'=some r->Sim C E' M' (aV V S') a' w'->K a' w'):o.wp C.P a w K Q:=by
 unfold txo at h
 split at h
 ·rename_i x hx
  exact E9 (nm:=nm) hx hd h hs λte E' M' a' w' hk hs'=>hK _ E' M' a' w' hk hs'
 ·obtain⟨S1,h,he⟩:=xi h
  obtain⟨E,M,hs⟩:=he C E M a w hs
  split at h
  ·exact E3 hd h hs λte E' M' a' w' hk hs'=>hK _ E' M' a' w' hk hs'
  ·obtain⟨_,_,hs1⟩:=Bi pre o S1 C E M a w hs
   exact NR hcall hd h hs1 λte E' M' a' w' hk hs'=>hK _ E' M' a' w' hk hs'
theorem oB{C:Ctx}{nm:Nat->Nat}{call:dl V}{pre:Nat->Bool}{ops:Array Oper}{Q:Exit->Act->World->Prop}{A:Type}{r:A}(hcall:bO C.P call)(hF:Fx C pre):∀(l:List Oper) (i:Nat) (S:TS V.N) (k:TS V.N->Option A) (E:Env) (M:Mem) (a:Act) (w:World),
 ops.toList.drop i=l->txs V C.P C.N nm call pre ops.toList l S k=some r->Sim C E M (aV V S) a w->(∀S' E' M' a' w',k S'=some r->Sim C E' M' (aV V S') a' w'->Q .normal a' w')->
 wpOps C.P ops Q ((RC l.length).map (i+ ·)) a w
 |[],i,S,k,E,M,a,w,_,h,hs,hQ=>by
  simp only[txs]at h
  simpa[wpOps]using hQ S E M a w h hs
 |o::os,i,S,k,E,M,a,w,hl,h,hs,hQ=>by
  have hi:ops[i]?=some o:=by
   have:(ops.toList.drop i)[0]?=some o:=by rw[hl];rfl
   simpa using this
  have hl':ops.toList.drop (i+1)=os:=by
   rw[<-List.tail_drop,hl];rfl
  have hlist:(RC (o::os).length).map (i+ ·)=i::(RC os.length).map (i+1+ ·):=by
   simp only[QA,List.range_succ_eq_map,Qp,QJ,Rj]
   congr 1
   apply QL
   intro x _
   simp;omega
  rw[hlist]
  simp only[txs,rV]at h
  split at h
  ·cases h
  rename_i hdst
  have run:∀(S:TS V.N),Sim C E M (aV V S) a w->(txo V C.P nm call pre o S λS'=>txs V C.P C.N nm call pre ops.toList os S' k)=some r->
   o.wp C.P a w (wpOps C.P ops Q ((RC os.length).map (i+1+ ·))) Q:=λS hs h=>
   K_ (k:=λS'=>txs V C.P C.N nm call pre ops.toList os S' k) hcall (qo hF hdst) h hs λS' E' M' a' w' hk hs'=>oB hcall hF os (i+1) _ k E' M' a' w' hl' hk hs' hQ
  have off:∀(S:TS V.N),Sim C E M (aV V S) a w->txs V C.P C.N nm call pre ops.toList os (S.app o.dst {val:= .tup []}) k=some r->
   wpOps C.P ops Q ((RC os.length).map (i+1+ ·)) (a.put o.dst undef) w:=λS hs h=>
   oB hcall hF os (i+1) _ k E M _ w hl' h (I3 (qo hF hdst) hs) hQ
  simp only[wpOps,hi]
  cases hg:o.guard with
  |none=>
   simp only[hg]at h
   rw[TP (by simp[Region.wanted,hg])]
   exact .inl (run S hs h)
  |some g=>
   obtain⟨j,want⟩:=g
   simp only[hg]at h
   split at h
   ·rename_i d b hgv
    have hb:=jB (V:=V) (S:=S) (σ:=aV V S) (λt=>rfl) (want:=want) hgv (.inl rfl)
    have hy:=hs.guard hb
    have hgt:=(i9 hgv).1
    cases b with
    |true=>
     rw[TP rfl]at h
     have hs':=q9 hgt hs
     cases want with
     |true=>
      rw[TP (by simp[Region.wanted,hg,hy])]
      exact .inl (run _ hs' h)
     |false=>
      rw[TN (by simp[Region.wanted,hg,hy])]
      exact off _ hs' h
    |false=>
     rw[TN (by simp)]at h
     have hs':=q9 hgt hs
     cases want with
     |false=>
      rw[TP (by simp[Region.wanted,hg,hy])]
      exact .inl (run _ hs' h)
     |true=>
      rw[TN (by simp[Region.wanted,hg,hy])]
      exact off _ hs' h
   ·rename_i d hgv
    have hb:=jB (V:=V) (S:=S) (σ:=aV V S) (λt=>rfl) (want:=want) hgv (.inr ⟨rfl,rfl⟩)
    have hy:=hs.guard hb
    rw[TN (by cases want<;>simp[Region.wanted,hg,hy])]
    exact off _ hs h
   ·cases h
structure Rl (σ:aA) (S:TS V.N):Prop where
 tmp:∀t,gt σ.tmps t=gt (aV V S).tmps t
 own:∀n,σ.own? n=(aV V S).own? n
 fresh:∀d,S.fresh d=true->σ.fresh d=true
theorem Rl.refl(S:TS V.N):Rl (aV V S) S:=⟨λ_=>rfl,λ_=>rfl,λ_ h=>eB h⟩
theorem Rl.ent{σ:aA}{S:TS V.N}(h:Rl σ S):Ent σ (aV V S):=Ent.le (λt x hx=>⟨x,by rw[h.tmp];exact hx,H.le.refl _⟩) λn o ho=>⟨o,by rw[h.own];exact ho,OLe.refl _⟩
theorem Rl.setB{σ:aA}{S:TS V.N}(h:Rl σ S){d:Nat}{b:Bool}(hd:gt S.tmps d=some (.lf .bool b)):Rl σ (setB S d b)where
 tmp:=λt=>by
  rw[h.tmp,cC,cC]
  simp only[Tx.setB,aE]
  by_cases e:d=t
  ·subst e;rw[TP rfl,hd];simp[aK]
  ·rw[TN e];rfl
 own:=λn=>h.own n
 fresh:=λn hn=>h.fresh n (by
  unfold TS.fresh at hn⊢
  simp only[Qk]at hn⊢
  refine⟨⟨hn.1.1,?_⟩,hn.2⟩
  have:=hn.1.2
  simp only[Tx.setB,Rb,Qk]at this
  exact this.2)
theorem Rl.app{σ:aA}{S:TS V.N}(h:Rl σ S){dst:Option Tmp}{te:TE V.N}(hg:good S te)(hn:∀d∈te.new,S.fresh d=true):Rl (σ.app dst (f6 (S.app dst te).len te)) (S.app dst te)where
 tmp:=λt=>by
  rw[(qp (dst:=dst) hg hn).1]
  simp only[aA.app,oD]
  cases dst with
  |none=>exact h.tmp t
  |some d=>simp only[aE];rw[h.tmp]
 own:=λn=>by
  rw[(qp (dst:=dst) hg hn).2]
  have:=h.own n
  unfold aA.own? at this⊢
  simp only[aA.app,eL]
  cases gt (f6 (S.app dst te).len te).upd n with
  |some o=>rfl
  |none=>exact this
 fresh:=λn hn'=>by
  unfold TS.fresh at hn'
  simp only[Qk]at hn'
  obtain⟨⟨f1,f2⟩,f3⟩:=hn'
  have hu:gt te.upd n=none:=by
   rw[lT]at f1
   cases hq:gt te.upd n with
   |none=>rfl
   |some o=>rw[hq]at f1;cases f1
  have hs:S.fresh n=true:=by
   unfold TS.fresh
   simp only[Qk]
   refine⟨⟨?_,?_⟩,?_⟩
   ·rw[lT,hu]at f1;exact f1
   ·rw[Qq]at f2⊢
    intro p hp
    refine f2 p ?_
    unfold TS.app Lt
    cases dst with
    |none=>exact hp
    |some d=>exact Qm _ hp
   ·rw[Qq]at f3⊢
    exactλp hp=>f3 p (RY _ hp)
  have hσ:=h.fresh n hs
  unfold aA.fresh at hσ⊢
  simp only[Qk]at hσ⊢
  obtain⟨⟨g1,g2⟩,g3⟩:=hσ
  refine⟨⟨?_,?_⟩,?_⟩
  ·have hq:gt (f6 (S.app dst te).len te).upd n=none:=by simp only[f6,gb,hu];rfl
   unfold aA.own? at g1⊢
   simp only[aA.app,eL,hq]
   exact g1
  ·simp only[aA.app,oD]
   cases dst with
   |none=>exact g2
   |some d=>
    rw[Rb,Qk]
    refine⟨?_,g2⟩
    rw[Qq]at f2
    have:=f2 (d,te.val) (by simp[TS.app,Lt])
    simpa[f6,iB]using this
  ·simp only[aA.app,List.all_append,Qk]
   refine⟨?_,g3⟩
   rw[Qq]at f3⊢
   intro p hp
   simp only[f6,QD]at hp
   obtain⟨q,hq,rfl⟩:=hp
   have:=f3 q (Rz _ hq)
   simp only
   cases ho:bS V (S.app dst te).len q.2 with
   |none=>rfl
   |some o=>simp only[jv _ n ho];exact this
theorem Rl.tup{σ:aA}{S:TS V.N}(h:Rl σ S){dst:Option Tmp}:Rl (σ.app dst {val:= .tup []}) (S.app dst {val:= .tup []}):=by
 have:=h.app (dst:=dst) (te:={val:= .tup []}) (wv S) λd h=>by cases h
 simpa[f6,aK,encL]using this
theorem Cs{P:Program}{nm:Nat->Nat}{call:dl V}{pre:Nat->Bool}{o:Oper}{S:TS V.N}{A:Type}{k:TE V.N->Option A}{r:A}(hcall:bO P call)(hf:∀te,k te=some r->∀d∈te.new,S.fresh d=true)(h:txq V P nm call pre o S k=some r):
 ∃te,k te=some r/\good S te/\tt P nm o (ev (aV V S)) (aV V S).own? λe=>ELe true e (f6 (S.app o.dst te).len te):=by
 unfold txq at h
 split at h
 ·obtain⟨te,h1,h2,e',h3,h4⟩:=s8 hf h
  exact⟨te,h1,h2, .inr ⟨e',h3,h4⟩⟩
 ·obtain⟨te,h1,h2,h3⟩:=wx hcall hf h
  exact⟨te,h1,h2, .inl h3⟩
theorem oA{P:Program}{n:Nat}{W:Nat->Prop}{nm:Nat->Nat}{call:dl V}{pre:Nat->Bool}{all:List Oper}{A:Type}{r:A}(hcall:bO P call)(hW:∀o,zF n pre o=true->∀d,o.dst=some d->W d):∀(l:List Oper) (S:TS V.N) (σ:aA) (tr:List Tr1) (k:TS V.N->List Tr1->Option A),
 txd V P n nm call pre all l S tr k=some r->Rl σ S->iO P W nm all l σ tr λσ' tr'=>∃S',Rl σ' S'/\k S' tr'=some r
 |[],S,σ,tr,k,h,hr=>by
  simp only[txd]at h
  exact⟨S,hr,h⟩
 |o::os,S,σ,tr,k,h,hr=>by
  simp only[txd,rV]at h
  split at h
  ·cases h
  rename_i hdst
  split at h
  ·cases h
  rename_i hdet
  have run:∀(S:TS V.N),Rl σ S->(txq V P nm call pre o S λte=>match eQ S te with|true=>txd V P n nm call pre all os (S.app o.dst te) (tr++[⟨f6 (S.app o.dst te).len te,true⟩]) k|false=>none)=some r->
   tt P nm o (ev σ) σ.own? λe=>(∀d∈e.new,σ.fresh d=true/\d<given)/\iO P W nm all os (σ.app o.dst e) (tr++[⟨e,true⟩]) λσ' tr'=>∃S',Rl σ' S'/\k S' tr'=some r:=by
   intro S hr h
   have hnew:∀te:TE V.N,(match eQ S te with|true=>txd V P n nm call pre all os (S.app o.dst te) (tr++[⟨f6 (S.app o.dst te).len te,true⟩]) k|false=>none)=some r->
    eQ S te=true/\txd V P n nm call pre all os (S.app o.dst te) (tr++[⟨f6 (S.app o.dst te).len te,true⟩]) k=some r:=by
    intro te h
    cases hq:eQ S te with
    |true=>rw[hq]at h;exact⟨rfl,h⟩
    |false=>rw[hq]at h;cases h
   obtain⟨te,h1,h2,h3⟩:=Cs hcall (λte hte=>(dU (hnew te hte).1).1) h
   obtain⟨hn,hk⟩:=hnew te h1
   obtain⟨f1,f2⟩:=dU hn
   have e1:ev σ=ev (aV V S):=by
    funext x
    cases x with
    |tmp t=>simp only[ev,aA.get,hr.tmp]
    |_=>rfl
   have e2:σ.own?=(aV V S).own?:=funext hr.own
   rw[e1,e2]
   refine jn (λe he=> ?_) h3
   have he':e=f6 (S.app o.dst te).len te:=by
    obtain⟨q1,q2,q3⟩:=he.eq rfl
    have q4:=he.new
    cases e
    simp only at q1 q2 q3 q4
    subst q1;subst q2;subst q3;subst q4;rfl
   subst he'
   exact⟨λd hd=>⟨hr.fresh d (f1 d hd),f2 d hd⟩,oA hcall hW os _ _ _ k hk (hr.app h2 f1)⟩
  have off:∀(S:TS V.N),Rl σ S->txd V P n nm call pre all os (S.app o.dst {val:= .tup []}) (tr++[⟨{val:= .tup []},false⟩]) k=some r->
   iO P W nm all os (σ.app o.dst {val:= .tup []}) (tr++[⟨{val:= .tup []},false⟩]) λσ' tr'=>∃S',Rl σ' S'/\k S' tr'=some r:=λS hr h=>
   oA hcall hW os _ _ _ k h hr.tup
  simp only[iO]
  refine⟨⟨hW o hdst,hdet⟩,?_⟩
  cases hg:o.guard with
  |none=>
   simp only[hg]at h
   exact run S hr h
  |some g=>
   obtain⟨j,want⟩:=g
   simp only[hg]at h
   split at h
   ·rename_i d b hgv
    have hb:=jB (V:=V) (S:=S) (σ:=σ) hr.tmp (want:=want) hgv (.inl rfl)
    have hgt:=(i9 hgv).1
    simp only[hb]
    cases b with
    |true=>
     rw[TP rfl]at h
     have hr':=hr.setB hgt
     cases want with
     |true=>exact⟨λ_=>run _ hr' h,λe=>by simp at e⟩
     |false=>exact⟨λe=>by simp at e,λ_=>off _ hr' h⟩
    |false=>
     rw[TN (by simp)]at h
     have hr':=hr.setB hgt
     cases want with
     |false=>exact⟨λ_=>run _ hr' h,λe=>by simp at e⟩
     |true=>exact⟨λe=>by simp at e,λ_=>off _ hr' h⟩
   ·rename_i d hgv
    have hb:=jB (V:=V) (S:=S) (σ:=σ) hr.tmp (want:=want) hgv (.inr ⟨rfl,rfl⟩)
    simp only[hb]
    exact⟨λe=>by cases want<;>simp at e,λ_=>off _ hr h⟩
   ·cases h
end
end Go.Tx
end
section
namespace Go.Tx
open Go.Awp
variable [Inhabited GMem]
inductive Alt where
 |norm
 |ret
 |exit (id:Nat)
 deriving DecidableEq
section
variable (V:gW)
structure aU where
 exits:Nat->Cut V.ι:=λ_=>⟨[],[]⟩
 rcut:Cut V.ι
variable {V}
def cU(sh:aU V)(jt:List (Ty V.ι)):Alt->List (Ty V.ι)
 | .norm=>jt
 | .ret=>sh.rcut.tys
 | .exit id=>(sh.exits id).tys
def mr(E:Alt->List (Ty V.ι)):List Alt->Type
 |[]=>Empty
 |[a]=>HL V.N (E a)
 |a::b::r=>HL V.N (E a)⊕mr E (b::r)
def inj(E:Alt->List (Ty V.ι)):(alts:List Alt)->(a:Alt)->HL V.N (E a)->Option (mr E alts)
 |[],_,_=>none
 |[b],a,v=>if h:a=b then some (h▸v)else none
 |b::c::r,a,v=>if h:a=b then some (.inl (h▸v))else match inj E (c::r) a v with
  |some o=>some (.inr o)
  |none=>none
def pf(E:Alt->List (Ty V.ι)){A:Type}:(alts:List Alt)->mr E alts->((a:Alt)->HL V.N (E a)->Option A)->Option A
 |[],_,_=>none
 |[a],v,f=>f a v
 |a::b::r,o,f=>match o with
  | .inl v=>f a v
  | .inr o'=>pf E (b::r) o' f
theorem dJ{E:Alt->List (Ty V.ι)}{A:Type}{f:(a:Alt)->HL V.N (E a)->Option A}:∀{alts:List Alt} {a:Alt} {v:HL V.N (E a)} {o:mr E alts},inj E alts a v=some o->pf E alts o f=f a v
 |[],a,v,o,h=>by simp[inj]at h
 |[b],a,v,o,h=>by
  simp only[inj]at h
  split at h
  ·rename_i e;subst e;cases h;rfl
  ·cases h
 |b::c::r,a,v,o,h=>by
  simp only[inj]at h
  split at h
  ·rename_i e;subst e;cases h;rfl
  ·split at h
   ·rename_i o' ho
    cases h
    show pf E (c::r) o' f=f a v
    exact dJ (f:=f) ho
   ·cases h
variable (V)
structure lJ (sh:aU V)where
 cut:Cut V.ι
 alts:List Alt
 F:HL V.N cut.tys->Option (mr (cU sh []) alts)
structure Xc where
 P:Program
 n:Nat
 nm:Nat->Nat:=id
 call:dl V
 pre:Nat->Bool:=λ_=>false
 sh:aU V
 joins:Nat->Option (Cut V.ι×List Alt):=λ_=>none
 regs:Nat->Option (Cut V.ι):=λ_=>none
 loops:Nat->Option (lJ V sh):=λ_=>none
 pair:Nat->PT:=λ_=> .leaf
 jumps:Nat->Option (Nat×lJ V sh):=λ_=>none
def cx:Code->Nat
 | .region id _ _=>id
 | .seq a b=>if cx a=1000000 then cx b else cx a
 | .block _ x=>cx x
 | .cond _ a b=>if cx a=1000000 then cx b else cx a
 | .loop b=>cx b
 | .scope b=>cx b
 |_=>1000000
variable {V}
noncomputable def LC{A:Type}(x y:Option A):Option A:=by classical exact if x=y then x else none
theorem yW{A:Type}{x y:Option A}{r:A}(h:LC x y=some r):x=some r/\y=some r:=by
 unfold LC at h
 split at h
 ·rename_i e;exact⟨h,e▸h⟩
 ·cases h
def Mi(X:Xc V){A:Type}(ops:Array Oper)(S:TS V.N)(k:TS V.N->Option A):Option A:=
 txd V X.P X.n X.nm X.call X.pre ops.toList ops.toList S [] λS' tr=>match vy ops.toList tr with
  |true=>k S'
  |false=>none
def wc(i j n:Nat):Bool:= !QZ i j&&RD i n&&RD j n
noncomputable def Kr(X:Xc V){A:Type}(S:TS V.N)(k:TS V.N->Option A):PT->Array Oper->Option A
 | .leaf,ops=>Mi X ops S k
 | .node i j a b,ops=>match wc i j ops.size with
  |true=>LC (Kr X S k a (eP i i i j ops)) (Kr X S k b (eP i j j i ops))
  |false=>none
noncomputable def Ks(X:Xc V){A:Type}(id:Nat)(ops:Array Oper)(draw:Bool)(S:TS V.N)(k:TS V.N->Option A):Option A:=match draw with
 |false=>txs V X.P X.n X.nm X.call X.pre ops.toList ops.toList S k
 |true=>Kr X S k (X.pair id) ops
def nS{A:Type}(ke:Nat->TS V.N->Option A):Nat->TS V.N->Option A:=λid S=>match RD id 1000000 with
 |true=>ke id S
 |false=>none
noncomputable def ex(X:Xc V):Code->(A:Type)->TS V.N->(TS V.N->Option A)->(Nat->TS V.N->Option A)->(HL V.N X.sh.rcut.tys->Option A)->Option A
 | .skip,_,S,kn,_,_=>kn S
 | .ret,_,S,_,_,kr=>match zM V X.sh.rcut S with
  |some v=>kr v
  |none=>none
 | .exit id,_,S,_,ke,_=>nS ke id S
 | .goto l,_,S,_,ke,_=>ke (1000000+l) S
 | .label _,_,S,kn,_,_=>kn S
 | .seq x y,A,S,kn,ke,kr=>match X.joins (cx y)with
  |none=>ex X x A S (λS'=>ex X y A S' kn ke kr) ke kr
  |some (cut,alts)=>
   ex X x (mr (cU X.sh cut.tys) alts) S
    (λS'=>match zM V cut S' with
      |some v=>inj (cU X.sh cut.tys) alts .norm v
      |none=>none)
    (λid S'=>match zM V (X.sh.exits id) S' with
      |some v=>inj (cU X.sh cut.tys) alts (.exit id) v
      |none=>none)
    (λv=>inj (cU X.sh cut.tys) alts .ret v)>>=λout=>
   pf (cU X.sh cut.tys) alts out λa=>match a with
    | .norm=>λv=>ex X y A (f_ V cut v) kn ke kr
    | .ret=>λv=>kr v
    | .exit id=>λv=>ke id (f_ V (X.sh.exits id) v)
 | .block id x,A,S,kn,ke,kr=>match RD id 1000000 with
  |true=>ex X x A S kn (λid' S'=>if id'=id then kn S' else ke id' S') kr
  |false=>none
 | .cond c x y,A,S,kn,ke,kr=>match c with
  | .tmp t=>match gt S.tmps t with
   |some (.lf .bool b)=>if b=true then ex X x A (setB S t true) kn ke kr else ex X y A (setB S t false) kn ke kr
   |_=>none
  | .const (.bool b)=>match b with
   |true=>ex X x A S kn ke kr
   |false=>ex X y A S kn ke kr
  |_=>none
 | .region id ops draw,_,S,kn,_,_=>match X.regs id with
  |none=>Ks X id ops draw S kn
  |some cut=>(Ks X id ops draw S λS'=>zM V cut S')>>=λv=>kn (f_ V cut v)
 | .scope c,A,S,kn,ke,kr=>match X.jumps (cx c)with
  |none=>ex X c A S kn (nS ke) kr
  |some (l,la)=>ex X c A S kn (λid S'=>match QZ id (1000000+l)with
   |true=>match zM V la.cut S' with
    |none=>none
    |some v=>la.F v>>=λout=>pf (cU X.sh []) la.alts out λa=>match a with
     | .norm=>λ_=>none
     | .ret=>λv=>kr v
     | .exit id=>λv=>ke id (f_ V (X.sh.exits id) v)
   |false=>nS ke id S') kr
 | .loop b,_,S,_,ke,kr=>match X.loops (cx b)with
  |none=>none
  |some la=>match zM V la.cut S with
   |none=>none
   |some v=>la.F v>>=λout=>pf (cU X.sh []) la.alts out λa=>match a with
    | .norm=>λ_=>none
    | .ret=>λv=>kr v
    | .exit id=>λv=>ke id (f_ V (X.sh.exits id) v)
 |_,_,_,_,_,_=>none
noncomputable def exL(X:Xc V)(b:Code)(cut:Cut V.ι)(alts:List Alt)(F:HL V.N cut.tys->Option (mr (cU X.sh []) alts))(v:HL V.N cut.tys):Option (mr (cU X.sh []) alts):=
 ex X b _ (f_ V cut v)
  (λS'=>match zM V cut S' with
    |some v=>F v
    |none=>none)
  (nS λid S'=>match zM V (X.sh.exits id) S' with
    |some v=>inj (cU X.sh []) alts (.exit id) v
    |none=>none)
  (λv=>inj (cU X.sh []) alts .ret v)
def tq(C:Ctx)(c:Code)(S:aA)(Q:Exit->aA->Prop):Prop:=
 ∀(E:Env) (M:Mem) (a:Act) (w:World),Sim C E M S a w->∀(b:Frame) (k:List Item) (cs:List Frame),
  ∃e a' w',(∃S' E' M',Q e S'/\Sim C E' M' S' a' w')/\Arrives C.P (lone (b.at a (.code c:: .inLoop c::k)) cs w) b k cs e a' w'
theorem tq.loop{C:Ctx}{c:Code}{S:aA}{Q:Exit->aA->Prop}(h:tq C c S Q):AWp C (.loop c) S Q:=λE M a w hs b k cs=>
 let⟨e,a',w',hq,harr⟩:=h E M a w hs b k cs
 ⟨e,a',w',hq, .of_steps (.one step_loop) harr⟩
theorem tq.ent{C:Ctx}{c:Code}{S S':aA}{Q:Exit->aA->Prop}(he:Ent S S')(h:tq C c S' Q):tq C c S Q:=λE M a w hs=>
 let⟨E',M',hs'⟩:=he C E M a w hs
 h E' M' a w hs'
theorem tq.round{C:Ctx}{c:Code}{S:aA}{Q:Exit->aA->Prop}(h:AWp C c S (J8 (λS'=>tq C c S' Q) Q)):tq C c S Q:=by
 intro E M a w hs b k cs
 obtain⟨e,a₁,w₁,⟨S₁,E₁,M₁,hq,hs₁⟩,harr⟩:=h E M a w hs b (.inLoop c::k) cs
 cases e with
 |normal=>
  obtain⟨e₂,a₂,w₂,hq₂,harr₂⟩:=hq E₁ M₁ a₁ w₁ hs₁ b k cs
  exact⟨e₂,a₂,w₂,hq₂, .of_steps (Steps.trans harr (.one step_inLoop)) harr₂⟩
 |exit id=>exact⟨_,a₁,w₁,⟨S₁,E₁,M₁,hq,hs₁⟩, .pass (x:= .inLoop c) rfl (λ_ _=> .inl (by simp)) harr⟩
 |goto l=>exact⟨_,a₁,w₁,⟨S₁,E₁,M₁,hq,hs₁⟩, .pass (x:= .inLoop c) rfl (λ_ _=> .inl (by simp)) harr⟩
 |ret=>exact⟨_,a₁,w₁,⟨S₁,E₁,M₁,hq,hs₁⟩, .pass (x:= .inLoop c) rfl (λ_ _=> .inl (by simp)) harr⟩
 |panic ch=>exact⟨_,a₁,w₁,⟨S₁,E₁,M₁,hq,hs₁⟩, .pass (x:= .inLoop c) rfl (λ_ _=> .inl (by simp)) harr⟩
 |outgrown=>exact⟨_,a₁,w₁,⟨S₁,E₁,M₁,hq,hs₁⟩, .pass (x:= .inLoop c) rfl (λ_ _=> .inl (by simp)) harr⟩
def FT(C:Ctx)(x rest:Code)(S:aA)(Q:Exit->aA->Prop):Prop:=
 ∀(E:Env) (M:Mem) (a:Act) (w:World),Sim C E M S a w->∀(b:Frame) (k:List Item) (cs:List Frame),
  ∃e a' w',(∃S' E' M',Q e S'/\Sim C E' M' S' a' w')/\Arrives C.P (lone (b.at a (.code rest:: .inScope x::k)) cs w) b k cs e a' w'
def LV(l:Nat)(J:aA->Prop)(Q:Exit->aA->Prop):Exit->aA->Prop
 | .goto l',S=>l'=l/\J S
 |e,S=>Q e S
theorem FT.ent{C:Ctx}{x rest:Code}{S S':aA}{Q:Exit->aA->Prop}(he:Ent S S')(h:FT C x rest S' Q):FT C x rest S Q:=λE M a w hs=>
 let⟨E',M',hs'⟩:=he C E M a w hs
 h E' M' a w hs'
theorem FT.mono{C:Ctx}{x rest:Code}{S:aA}{Q Q':Exit->aA->Prop}(h:FT C x rest S Q)(hq:∀e S,Q e S->Q' e S):FT C x rest S Q':=λE M a w hs b k cs=>
 let⟨e,a',w',⟨S',E',M',hq',hs'⟩,harr⟩:=h E M a w hs b k cs
 ⟨e,a',w',⟨S',E',M',hq e S' hq',hs'⟩,harr⟩
theorem my{C:Ctx}{x rest:Code}{l:Nat}{S:aA}{Q:Exit->aA->Prop}(hf:findLabel x l=some rest)(h:AWp C x S (LV l (λS'=>FT C x rest S' Q) Q)):AWp C (.scope x) S Q:=by
 intro E M a w hs b k cs
 have hg:gotoIn l (.inScope x::k)=some (.code rest:: .inScope x::k):=by simp[gotoIn,hf]
 obtain⟨e,a₁,w₁,⟨S₁,E₁,M₁,hq,hs₁⟩,harr⟩:=h E M a w hs b (.inScope x::k) cs
 cases e with
 |normal=>exact⟨.normal,a₁,w₁,⟨S₁,E₁,M₁,hq,hs₁⟩, .head step_scope (Steps.trans harr (.one step_inScope))⟩
 |exit id=>exact⟨.exit id,a₁,w₁,⟨S₁,E₁,M₁,hq,hs₁⟩,λk' hk=> .head step_scope (harr k' (by simp[exitTo,hk]))⟩
 |goto l'=>
  obtain⟨rfl,hJ⟩:=hq
  obtain⟨e₂,a₂,w₂,hq₂,harr₂⟩:=hJ E₁ M₁ a₁ w₁ hs₁ b k cs
  exact⟨e₂,a₂,w₂,hq₂, .of_steps (.head step_scope (harr _ hg)) harr₂⟩
 |ret=>exact⟨_,a₁,w₁,⟨S₁,E₁,M₁,hq,hs₁⟩, .of_steps (.one step_scope) harr⟩
 |panic ch=>exact⟨_,a₁,w₁,⟨S₁,E₁,M₁,hq,hs₁⟩, .of_steps (.one step_scope) harr⟩
 |outgrown=>exact⟨_,a₁,w₁,⟨S₁,E₁,M₁,hq,hs₁⟩, .of_steps (.one step_scope) harr⟩
theorem qk(l:Nat):RD (1000000+l) 1000000=false:=by
 cases h:RD (1000000+l) 1000000 with
 |false=>rfl
 |true=>rw[RN]at h;omega
theorem fL{A:Type}{ke:Nat->TS V.N->Option A}{id:Nat}{S:TS V.N}{r:A}(h:nS ke id S=some r):RD id 1000000=true/\ke id S=some r:=by
 unfold nS at h
 split at h
 ·exact⟨‹_›,h⟩
 ·cases h
theorem jf{A:Type}{ke:Nat->TS V.N->Option A}{l:Nat}{S:TS V.N}{r:A}(h:nS ke (1000000+l) S=some r):False:=by
 have:=(fL h).1
 rw[qk]at this;cases this
structure Oo (sh:aU V) {A:Type} (kn:TS V.N->Option A) (ke:Nat->TS V.N->Option A) (kr:HL V.N sh.rcut.tys->Option A) (r:A) (Q:Exit->aA->Prop):Prop where
 norm:∀S σ,kn S=some r->Ent σ (aV V S)->Q .normal σ
 exit:∀id S σ,RD id 1000000=true->ke id S=some r->Ent σ (aV V S)->Q (.exit id) σ
 jump:∀l S σ,ke (1000000+l) S=some r->Ent σ (aV V S)->Q (.goto l) σ
 ret:∀v σ,kr v=some r->Ent σ (aV V (f_ V sh.rcut v))->Q .ret σ
def CM(sh:aU V)(alts:List Alt)(out:mr (cU sh []) alts)(e:Exit)(σ:aA):Prop:=match e with
 | .exit id=>RD id 1000000=true/\∃v:HL V.N (sh.exits id).tys,inj (cU sh []) alts (.exit id) v=some out/\Ent σ (aV V (f_ V (sh.exits id) v))
 | .ret=>∃v:HL V.N sh.rcut.tys,inj (cU sh []) alts .ret v=some out/\Ent σ (aV V (f_ V sh.rcut v))
 |_=>False
def iQ(C:Ctx)(b:Code){sh:aU V}(la:lJ V sh):Prop:=∀v out,la.F v=some out->tq C b (aV V (f_ V la.cut v)) (CM sh la.alts out)
def FX(C:Ctx)(x:Code)(l:Nat){sh:aU V}(la:lJ V sh):Prop:=
 ∃rest,findLabel x l=some rest/\∀v out,la.F v=some out->FT C x rest (aV V (f_ V la.cut v)) (CM sh la.alts out)
def LOk(C:Ctx)(X:Xc V):Code->Prop
 | .seq x y=>LOk C X x/\LOk C X y
 | .block _ x=>LOk C X x
 | .scope x=>LOk C X x/\∀l la,X.jumps (cx x)=some (l,la)->FX C x l la
 | .cond _ x y=>LOk C X x/\LOk C X y
 | .loop b=>∀la,X.loops (cx b)=some la->iQ C b la
 |_=>True
theorem iu{P:Program}{N:Nat->Prop}{nm:Nat->Nat}{all:List Oper}:∀{os:List Oper} {S:aA} {tr:List Tr1} {k k':aA->List Tr1->Prop},(∀S tr,k S tr->k' S tr)->iO P N nm all os S tr k->iO P N nm all os S tr k'
 |[],S,tr,k,k',hk,h=>hk _ _ h
 |o::os,S,tr,k,k',hk,h=>by
  simp only[iO]at h⊢
  obtain⟨hd,h⟩:=h
  refine⟨hd,?_⟩
  cases hg:o.guard with
  |none=>
   simp only[hg]at h⊢
   exact jn (λe ⟨h1,h2⟩=>⟨h1,iu hk h2⟩) h
  |some g=>
   obtain⟨j,want⟩:=g
   simp only[hg]at h⊢
   split at h
   ·exact⟨λe=>jn (λe ⟨h1,h2⟩=>⟨h1,iu hk h2⟩) (h.1 e),λe=>iu hk (h.2 e)⟩
   ·exact h.elim
def OM(Q:Exit->aA->Prop):Exit->aA->Prop
 | .goto _,_=>False
 |e,S=>Q e S
theorem yU{C:Ctx}{c:Code}{S:aA}{Q:Exit->aA->Prop}(h:AWp C c S (OM Q)):AWp C (.scope c) S Q:=λE M a w hs=>
 wp_scope_straight (wp_mono (h E M a w hs) λe a' w'=>by
  rintro⟨S',E',M',hq,hs'⟩
  cases e with
  |goto l=>exact hq.elim
  |_=>exact⟨S',E',M',hq,hs'⟩)
theorem vB{C:Ctx}{X:Xc V}(hP:C.P=X.P)(hn:C.N=X.n/\Fx C X.pre)(hm:X.P.follows .mixedOrders=true)(hcall:bO X.P X.call):∀(c:Code) (A:Type) (S:TS V.N) (kn:TS V.N->Option A) (ke:Nat->TS V.N->Option A)
 (kr:HL V.N X.sh.rcut.tys->Option A) (r:A) (Q:Exit->aA->Prop),LOk C X c->ex X c A S kn ke kr=some r->Oo X.sh kn ke kr r Q->AWp C c (aV V S) Q:=by
 intro c
 induction c with
 |skip=>intro A S kn ke kr r Q _ h hp;exact .skip (hp.norm S _ h (Ent.refl _))
 |label l=>intro A S kn ke kr r Q _ h hp;exact .label (hp.norm S _ h (Ent.refl _))
 |exit id=>
  intro A S kn ke kr r Q _ h hp
  simp only[ex]at h
  obtain⟨h1,h2⟩:=fL h
  exact .exit (hp.exit id S _ h1 h2 (Ent.refl _))
 |goto l=>intro A S kn ke kr r Q _ h hp;exact .goto (hp.jump l S _ h (Ent.refl _))
 |ret=>
  intro A S kn ke kr r Q _ h hp
  simp only[ex]at h
  split at h
  ·rename_i v hv;exact .ret (hp.ret v _ h (eI hv))
  ·cases h
 |seq x y ihx ihy=>
  intro A S kn ke kr r Q hl h hp
  obtain⟨hlx,hly⟩:=hl
  simp only[ex]at h
  split at h
  ·refine .seq (ihx A S _ ke kr r _ hlx h ⟨λS' σ hk he=> ?_,hp.exit,hp.jump,λv σ hk he=>hp.ret v σ hk he⟩)
   exact .ent he (ihy A S' kn ke kr r Q hly hk hp)
  ·rename_i cut alts hj
   obtain⟨out,h1,h2⟩:=bT h
   refine .seq (ihx _ S _ _ _ out _ hlx h1 ⟨λS' σ hk he=> ?_,λid S' σ hb hk he=> ?_,λl S' σ hk he=> ?_,λv σ hk he=> ?_⟩)
   ·split at hk
    ·rename_i v hv
     rw[dJ hk]at h2
     exact .ent (Ent.trans he (eI hv)) (ihy A _ kn ke kr r Q hly h2 hp)
    ·cases hk
   ·split at hk
    ·rename_i v hv
     rw[dJ hk]at h2
     exact hp.exit id _ σ hb h2 (Ent.trans he (eI hv))
    ·cases hk
   ·split at hk
    ·rename_i v hv
     rw[dJ hk]at h2
     exact hp.jump l _ σ h2 (Ent.trans he (eI hv))
    ·cases hk
   ·rw[dJ hk]at h2
    exact hp.ret v σ h2 he
 |block id x ih=>
  intro A S kn ke kr r Q hl h hp
  simp only[ex]at h
  split at h
  ·rename_i hb
   refine .block (ih A S kn _ kr r _ hl h ⟨λS' σ hk he=>hp.norm S' σ hk he,λid' S' σ hb' hk he=> ?_,λl S' σ hk he=> ?_,λv σ hk he=>hp.ret v σ hk he⟩)
   ·simp only[vz]
    split at hk
    ·rename_i e;rw[TP e];exact hp.norm S' σ hk he
    ·rename_i e;rw[TN e];exact hp.exit id' S' σ hb' hk he
   ·simp only[vz]
    rw[TN (λe=>by rw[<-e,qk]at hb;cases hb)]at hk
    exact hp.jump l S' σ hk he
  ·cases h
 |cond c x y ihx ihy=>
  intro A S kn ke kr r Q hl h hp
  obtain⟨hlx,hly⟩:=hl
  simp only[ex]at h
  split at h
  ·rename_i t
   split at h
   ·rename_i b hb
    have hev:ev (aV V S) (.tmp t)= .d (.v (.bool b)):=by
     rw[aI]
     simp only[tev,TS.get,hb,Rk,aK,aY]
    have hset:∀b',b=b'->Ent (aV V S) (aV V (setB S t b')):=λb' e C E M a w hs=>⟨E,M,q9 (by rw[hb,e]) hs⟩
    cases b with
    |true=>
     rw[TP rfl]at h
     exact .cond hev (λ_=> .ent (hset true rfl) (ihx A _ kn ke kr r Q hlx h hp)) (λe=>by cases e)
    |false=>
     rw[TN (by simp)]at h
     exact .cond hev (λe=>by cases e) (λ_=> .ent (hset false rfl) (ihy A _ kn ke kr r Q hly h hp))
   ·cases h
  ·rename_i b
   have hev:ev (aV V S) (.const (.bool b))= .d (.v (.bool b)):=rfl
   cases b with
   |true=>exact .cond hev (λ_=>ihx A _ kn ke kr r Q hlx h hp) (λe=>by cases e)
   |false=>exact .cond hev (λe=>by cases e) (λ_=>ihy A _ kn ke kr r Q hly h hp)
  ·cases h
 |region id ops draw=>
  intro A S kn ke kr r Q _ h hp
  have key:∀{B:Type} (k:TS V.N->Option B) (s:B),Ks X id ops draw S k=some s->(∀S' σ,k S'=some s->Ent σ (aV V S')->Q .normal σ)->AWp C (.region id ops draw) (aV V S) Q:=by
   intro B k s hr hq
   cases draw with
   |false=>
    simp only[Ks]at hr
    rw[<-hP,<-hn.1]at hr
    intro E M a w hs
    refine wp_region ?_
    have:=oB (C:=C) (ops:=ops) (Q:=λe a' w'=>∃S' E' M',Q e S'/\Sim C E' M' S' a' w') (hP▸hcall) hn.2 ops.toList 0 S k E M a w (by simp) hr hs
     λS' E' M' a' w' hk hs'=>⟨_,E',M',hq S' _ hk (Ent.refl _),hs'⟩
    have e:(RC ops.toList.length).map (0+ ·)=RC ops.size:=by simp
    rw[e]at this
    exact this
   |true=>
    simp only[Ks]at hr
    have one:∀(ops:Array Oper),Mi X ops S k=some s->iO C.P C.wr X.nm ops.toList ops.toList (aV V S) [] (λS' tr=>vy ops.toList tr=true/\Q .normal S'):=by
     intro ops hr
     simp only[Mi]at hr
     rw[hP]
     have h2:=oA (W:=C.wr) hcall (λo ho=>qo hn.2 (by rw[hn.1];exact ho)) ops.toList S (aV V S) [] _ hr (Rl.refl S)
     refine iu (λσ' tr' ⟨S',hrl,hk⟩=> ?_) h2
     split at hk
     ·rename_i hd;exact⟨hd,hq S' σ' hk hrl.ent⟩
     ·cases hk
    have tree:∀(t:PT) (ops:Array Oper),Kr X S k t ops=some s->PT.ok C X.nm (aV V S) (Q .normal) t ops:=by
     intro t
     induction t with
     |leaf=>intro ops hr;exact one ops hr
     |node i j ta tb iha ihb=>
      intro ops hr
      simp only[Kr]at hr
      split at hr
      ·rename_i hf
       obtain⟨h1,h2⟩:=yW hr
       simp only[wc,Qk,Sm,RN]at hf
       obtain⟨⟨f1,f2⟩,f3⟩:=hf
       exact⟨⟨(λe=>by rw[e,R7]at f1;cases f1),f2,f3⟩,iha _ h1,ihb _ h2⟩
      ·cases hr
    exact .drawT X.nm (X.pair id) (by rw[hP];exact hm) (tree _ _ hr)
  simp only[ex]at h
  split at h
  ·exact key kn r h λS' σ hk he=>hp.norm S' σ hk he
  ·rename_i cut _
   obtain⟨v,h1,h2⟩:=bT h
   exact key _ v h1 λS' σ hk he=>hp.norm _ σ h2 (Ent.trans he (eI hk))
 |scope x ih=>
  intro A S kn ke kr r Q hl h hp
  simp only[ex]at h
  split at h
  ·exact yU (ih A S kn _ kr r _ hl.1 h ⟨λS' σ hk he=>hp.norm S' σ hk he,λid' S' σ hb hk he=>hp.exit id' S' σ hb (fL hk).2 he,λl S' σ hk he=>(jf hk).elim,λv σ hk he=>hp.ret v σ hk he⟩)
  ·rename_i l la hj
   obtain⟨rest,hf,hok⟩:=hl.2 l la hj
   refine my hf (ih A S kn _ kr r _ hl.1 h ⟨λS' σ hk he=>hp.norm S' σ hk he,λid' S' σ hb hk he=> ?_,λl' S' σ hk he=> ?_,λv σ hk he=>hp.ret v σ hk he⟩)
   ·split at hk
    ·rename_i e
     have:=QT e
     rw[this,qk]at hb;cases hb
    ·exact hp.exit id' S' σ hb (fL hk).2 he
   ·split at hk
    ·rename_i e
     have e:=QT e
     refine⟨by omega,?_⟩
     split at hk
     ·cases hk
     ·rename_i v hv
      obtain⟨out,h1,h2⟩:=bT hk
      refine .ent (Ent.trans he (eI hv)) ((hok v out h1).mono λe σ hq=> ?_)
      unfold CM at hq
      split at hq
      ·obtain⟨hb,w,hw1,hw2⟩:=hq
       rw[dJ hw1]at h2
       exact hp.exit _ _ σ hb h2 hw2
      ·obtain⟨w,hw1,hw2⟩:=hq
       rw[dJ hw1]at h2
       exact hp.ret w σ h2 hw2
      ·exact hq.elim
    ·exact(jf hk).elim
 |loop b ih=>
  intro A S kn ke kr r Q hl h hp
  simp only[ex]at h
  split at h
  ·cases h
  ·rename_i la hla
   split at h
   ·cases h
   ·rename_i v hv
    obtain⟨out,h1,h2⟩:=bT h
    refine .ent (eI hv) ((tq.loop (hl la hla v out h1)).mono λe σ hq=> ?_)
    unfold CM at hq
    split at hq
    ·obtain⟨hb,w,hw1,hw2⟩:=hq
     rw[dJ hw1]at h2
     exact hp.exit _ _ σ hb h2 hw2
    ·obtain⟨w,hw1,hw2⟩:=hq
     rw[dJ hw1]at h2
     exact hp.ret w σ h2 hw2
    ·exact hq.elim
 |_=>intro A S kn ke kr r Q _ h hp;simp only[ex]at h;cases h
theorem nD{C:Ctx}{X:Xc V}(hP:C.P=X.P)(hn:C.N=X.n/\Fx C X.pre)(hm:X.P.follows .mixedOrders=true)(hcall:bO X.P X.call){b:Code}(hl:LOk C X b){cut:Cut V.ι}{alts:List Alt}
 {F:HL V.N cut.tys->Option (mr (cU X.sh []) alts)}(ih:∀v out,F v=some out->tq C b (aV V (f_ V cut v)) (CM X.sh alts out)){v:HL V.N cut.tys}{out:mr (cU X.sh []) alts}
 (h:exL X b cut alts F v=some out):tq C b (aV V (f_ V cut v)) (CM X.sh alts out):=by
 refine tq.round (vB hP hn hm hcall b _ _ _ _ _ out _ hl h ⟨λS' σ hk he=> ?_,λid S' σ hb hk he=> ?_,λl S' σ hk he=>(jf hk).elim,λv σ hk he=> ?_⟩)
 ·split at hk
  ·rename_i w hw;exact .ent (Ent.trans he (eI hw)) (ih w out hk)
  ·cases hk
 ·have hk:=(fL hk).2
  split at hk
  ·rename_i w hw;exact⟨hb,w,hk,Ent.trans he (eI hw)⟩
  ·cases hk
 ·exact⟨v,hk,he⟩
end
end Go.Tx
end
section
namespace Go.Tx
open Go.Awp
variable [Inhabited GMem]
def FW(P:Program)(rs:List ResultVar)(r:H)(own':List (Nat×Own))(e:Exit)(S:aA):Prop:=
 (e= .normal\/e= .ret)/\∃S',Ent S S'/\∃h,Kt P S' rs=some h/\H.le h r/\∀n o,gt own' n=some o->S'.own? n=some o
theorem xf{P:Program}{f:FuncId}{fn:Func}{c:Code}{args:List H}{own own':List (Nat×Own)}{r:H}(hf:P.funcs[f]?=some fn)(hb:fn.body=some c)
 (hname:(fn.name != "runtime.NumGoroutine")=true)(hn:args.length<=fn.ntmps)
 (h:∀C:Ctx,C.P=P->C.N=fn.ntmps/\C.fix=[]->AWp C c ⟨j5 0 args,s5 own⟩ (FW P fn.results.toList r own')):lS P f args own r own':=by
 refine⟨by simp[ix,hf,hb,hname],λE M w vs hgm hm how hvs=> ?_⟩
 refine calls_of_wp hf hb ?_
 let C:Ctx:=⟨P,fn.ntmps,w,M,E,lL E w own,hgm,λb ⟨n,o,hn,hb⟩=>((how.ok n o hn).block hb).2,[],[]⟩
 have hs:Sim C E M ⟨j5 0 args,s5 own⟩ {tmps:=vs++R4 (fn.ntmps-vs.size) undef,defers:=[]} w:=by
  have hvs1:=hvs.1
  refine{size:=by simp[C];omega,defers:=rfl,fixed:=λp hp=>(by cases hp),tmps:=λt x hx=> ?_,mem:=hm,own:=λn o ho=> ?_,apart:=λn m o o' b hne ho ho'=> ?_,home:=λn o b ho hb=> ?_,m0:=Mem.le_refl M,mnew:=λb o v hv=> .inl hv,frame:=λ_ _ _=>rfl,grows:=QF _,os:=rfl,tape:=rfl,output:=rfl,env:=λ_ _=>rfl}
  ·obtain⟨_,h2⟩:=rY args 0 t x hx
   simp only[S6]at h2
   have hlt:t<vs.size:=by have:=(Qf.1 h2).1;omega
   exact⟨vs[t],by simp[Sa hlt,hlt],hvs.2 t _ x (QC hlt) h2⟩
  ·have ho':gt own n=some o:=by rw[<-gc];exact ho
   exact how.ok n o ho'
  ·have h1:gt own n=some o:=by rw[<-gc];exact ho
   have h2:gt own m=some o':=by rw[<-gc];exact ho'
   exact how.apart n m o o' b hne h1 h2
  ·have h1:gt own n=some o:=by rw[<-gc];exact ho
   exact .inl ⟨n,o,h1,hb⟩
 refine wp_mono (h C rfl ⟨rfl,rfl⟩ E M _ w hs) ?_
 rintro e a' w' ⟨S',E',M',⟨he,S'',hent,hh,hres,hle,hown⟩,hs'⟩
 obtain⟨E2,M2,hs2⟩:=hent C E' M' a' w' hs'
 obtain⟨v,hrun,hrep⟩:=EM (C:=C) hs2 hres
 have hpost:ve E M own w v r own' E2 M2 w':=
  {rep:=hle _ _ _ hrep,owns:=⟨λn o ho=>hs2.own n o (hown n o ho),λn m o o' b hne h1 h2=>hs2.apart n m o o' b hne (hown n o h1) (hown m o' h2)⟩,mle:=hs2.m0,mem:=hs2.mem,mnew:=hs2.mnew,home:=λn o b ho hb=>hs2.home n o b (hown n o ho) hb,frame:=hs2.frame,grows:=hs2.grows,os:=hs2.os,tape:=hs2.tape,output:=hs2.output,env:=hs2.env}
 rcases he with rfl|rfl
 ·exact⟨hs2.defers,v,hrun,v,E2,M2,rfl,hpost⟩
 ·exact⟨hs2.defers,v,hrun,v,E2,M2,rfl,hpost⟩
section
variable (V:gW)
structure Sig where
 params:List (Pt V.ι)
 objs:List (Nat×OPt V.ι):=[]
 rcut:Cut V.ι
 rvars:List ResultVar
 keep:List Nat:=[]
variable {V}
def Sig.tys(sig:Sig V):List (Ty V.ι):=Bn sig.params++AY sig.objs
def C8{α:Type}:Nat->List α->List (Nat×α)
 |_,[]=>[]
 |i,x::r=>(i,x)::C8 (i+1) r
def ek(sig:Sig V)(v:HL V.N sig.tys):List (TV V.N)×List (Nat×TO V.N):=match bdL V sig.params (Kn sig.tys v)with
 |some (xs,ls)=>match bdO V sig.objs ls with
  |some os=>(xs,os)
  |none=>([],[])
 |none=>([],[])
def cX(sig:Sig V)(v:HL V.N sig.tys):TS V.N:={tmps:=C8 0 (ek sig v).1,own:=(ek sig v).2}
def Ix(P:Program)(S:TS V.N):ResultVar->Option (TV V.N)
 | .tmp t=>gt S.tmps t
 | .cell a t=>match gt S.tmps a with
  |some (.bp n off)=>match cK P t with
   |some (ag,sz)=>match wy V ag off sz (V.ty t) (S.own? n)with
    |some v=>some v
    |none=>match CW V (S.own? n)with
     |some cells=>xl V false ag sz (V.ty t) (cells.drop off)
     |none=>none
   |none=>none
  |_=>none
def Bu(P:Program)(S:TS V.N):List ResultVar->Option (List (TV V.N))
 |[]=>some []
 |x::r=>match Ix P S x,Bu P S r with
  |some h,some l=>some (h::l)
  |_,_=>none
def Me:List (TV V.N)->TV V.N
 |[x]=>x
 |l=> .tup l
def Gy(P:Program)(sig:Sig V)(r:HL V.N sig.rcut.tys):Option (TV V.N):=(Bu P (f_ V sig.rcut r) sig.rvars).map Me
def fj(ω:Nat->Nat)(os:List (Nat×TO V.N)):List (Nat×Own):=os.filterMap λp=>(bS V ω p.2).map λo=>(p.1,o)
def qy(sig:Sig V)(r:HL V.N sig.rcut.tys):List (Nat×TO V.N):=(f_ V sig.rcut r).own.filter λp=>sig.keep.contains p.1
def aT(P:Program)(fid:FuncId)(sig:Sig V)(F:HL V.N sig.tys->Option (HL V.N sig.rcut.tys)):Prop:=
 ∀v r x,F v=some r->Gy P sig r=some x->
  lS P fid (encL V (cX sig v).len (ek sig v).1) (fj (cX sig v).len (cX sig v).own) (aK V (f_ V sig.rcut r).len x) (fj (f_ V sig.rcut r).len (qy sig r))
noncomputable def exF(X:Xc V)(sig:Sig V)(h:X.sh.rcut=sig.rcut)(c:Code)(v:HL V.N sig.tys):Option (HL V.N sig.rcut.tys):=
 ex X c _ (cX sig v) (λS=>zM V sig.rcut S) (λ_ _=>none) (λr=>some (h▸r))
theorem eM{α β:Type}{f:α->Option β}:∀{l:List (Nat×α)} {n:Nat} {y:β},gt (l.filterMap λp=>(f p.2).map λo=>(p.1,o)) n=some y->∃x,(n,x)∈l/\f x=some y
 |[],n,y,h=>by simp[gt]at h
 |(k,x)::r,n,y,h=>by
  rw[R5]at h
  cases hx:f x with
  |none=>
   simp only[hx,Sf]at h
   obtain⟨z,h1,h2⟩:=eM h
   exact⟨z,Qm _ h1,h2⟩
  |some z=>
   simp only[hx,QG,aE]at h
   by_cases hk:k=n
   ·rw[TP hk]at h;cases h;subst hk;exact⟨x,Qo,hx⟩
   ·rw[TN hk]at h
    obtain⟨w,h1,h2⟩:=eM h
    exact⟨w,Qm _ h1,h2⟩
def d7:List Nat->Bool
 |[]=>true
 |x::r=> !r.contains x&&d7 r
theorem nh{α:Type}:∀{l:List (Nat×α)} {n:Nat} {x:α},d7 (l.map (·.1))=true->(n,x)∈l->gt l n=some x
 |[],n,x,_,h=>by cases h
 |(k,y)::r,n,x,hd,h=>by
  simp only[Qp,d7,Qk]at hd
  rw[aE]
  rcases Qu.1 h with he|h
  ·simp only[QI]at he
   obtain⟨rfl,rfl⟩:=he
   rw[TP rfl]
  ·have:k≠n:=by
    intro e;subst e
    have h1:=hd.1
    have:k∈r.map (·.1):=QN h
    simp at h1
    simp at this
    exact h1 _ this.choose_spec
   rw[TN this]
   exact nh hd.2 h
theorem pD{P:Program}{S:TS V.N}:∀{rs:List ResultVar} {vs:List (TV V.N)},Bu P S rs=some vs->
 ∃hs,io P (aV V S) rs=some hs/\hs.length=vs.length/\∀(i:Nat) (v:TV V.N),vs[i]?=some v->∃h,hs[i]?=some h/\H.le h (aK V S.len v)
 |[],vs,h=>by simp[Bu]at h;subst h;exact⟨[],rfl,rfl,λi v hv=>by simp at hv⟩
 |x::r,vs,h=>by
  simp only[Bu]at h
  split at h
  ·rename_i v l h1 h2
   simp at h;subst h
   obtain⟨hs,g1,g2,g3⟩:=pD h2
   have:∃y,n_ P (aV V S) x=some y/\H.le y (aK V S.len v):=by
    cases x with
    |tmp t=>
     simp only[Ix]at h1
     refine⟨(aV V S).get t,rfl,?_⟩
     unfold aA.get
     rw[cC,h1]
     exact H.le.refl _
    |cell a t=>
     simp only[Ix]at h1
     split at h1
     ·rename_i n off hn
      have hg:(aV V S).get a= .bp n off:=by
       unfold aA.get
       rw[cC,hn];simp[aK]
      split at h1
      ·rename_i ag sz ht
       split at h1
       ·rename_i w hw
        simp only[Qd]at h1;subst h1
        unfold wy at hw
        split at hw
        ·rename_i i y hnn
         have hw':=aF hw;clear hw
         obtain⟨⟨e1,e2,e3,hot⟩,hw⟩:=hw'
         subst e1;subst e2;subst e3
         simp only[Qd]at hw;subst hw
         have hb:CW V (S.own? n)=some ((V.cells i y).map λl=> .lf l.t l.x):=by rw[hnn];rfl
         have hl:(V.enc i y).length=V.sz i:=by rw[V.enc_cells,Qg,V.len_cells]
         refine⟨aK V S.len (.lf (.st i) y),?_,H.le.refl _⟩
         simp only[n_,hg,gL hb,ht,iY,e_,QV,i6,Qg]
         rw[TP (by omega),QP (by rw[Qg];omega),cq,dH]
        ·rename_i m e xs hnn
         have hw':=aF hw;clear hw
         obtain⟨⟨e1,e2,e3,hot⟩,hw⟩:=hw'
         subst e1;subst e2;subst e3
         simp only[Qd]at hw;subst hw
         have ho1:=nW hnn
         have hl:=co (V:=V) (.ar m e) xs
         refine⟨aK V S.len (.lf (.ar m e) xs),?_,H.le.refl _⟩
         simp only[n_,hg,ho1,ht,e_,QV,F1,Qg]
         rw[TP (by omega),QP (by rw[Qg];omega),cq,dH]
        ·cases hw
       ·split at h1
        ·rename_i cells hc
         obtain⟨y,k1,k2,_⟩:=jb (ω:=S.len) h1
         rw[g5]at k1
         refine⟨y,?_,k2⟩
         simp only[n_,hg,gL hc,ht,k1]
        ·cases h1
      ·cases h1
     ·cases h1
   obtain⟨y,y1,y2⟩:=this
   refine⟨y::hs,by simp only[io,y1,g1],by simp[g2],λi w hw=> ?_⟩
   cases i with
   |zero=>simp at hw;subst hw;exact⟨y,rfl,y2⟩
   |succ i=>obtain⟨z,z1,z2⟩:=g3 i w (by simpa using hw);exact⟨z,by simpa using z1,z2⟩
  ·cases h
theorem ov{ω:Nat->Nat}:∀(l:List (TV V.N)) (i:Nat),j5 i (encL V ω l)=(C8 i l).map λp=>(p.1,aK V ω p.2)
 |[],i=>rfl
 |x::r,i=>by simp[encL,j5,C8,ov r (i+1)]
theorem yV:∀{ps:List (Pt V.ι)} {ls ls':List (dB V.N)} {xs:List (TV V.N)},bdL V ps ls=some (xs,ls')->xs.length=ps.length
 |[],ls,ls',xs,h=>by simp[bdL]at h;rw[h.1];rfl
 |p::r,ls,ls',xs,h=>by
  simp only[bdL]at h
  split at h
  ·rename_i x l1 h1
   split at h
   ·rename_i ys l2 h2
    simp at h
    rw[<-h.1]
    simp[yV h2]
   ·cases h
  ·cases h
theorem dp:∀{objs:List (Nat×OPt V.ι)} {ls:List (dB V.N)} {os:List (Nat×TO V.N)},bdO V objs ls=some os->os.map (·.1)=objs.map (·.1)
 |[],[],os,h=>by simp[bdO]at h;subst h;rfl
 |[],_::_,os,h=>by simp[bdO]at h
 |(c, .box oty ps)::r,ls,os,h=>by
  simp only[bdO]at h
  split at h
  ·split at h
   ·rename_i os' h2
    simp at h;subst h
    simp[dp h2]
   ·cases h
  ·cases h
 |(c, .st i)::r,[],os,h=>by simp[bdO]at h
 |(c, .vec te e)::r,[],os,h=>by simp[bdO]at h
 |(c, .st i)::r,⟨t,x⟩::ls,os,h=>by
  cases t<;>simp only[bdO]at h<;>first
   |(cases h;done)
   |(split at h
     ·split at h
      ·rename_i os' h2
       simp at h;subst h
       simp[dp h2]
      ·cases h
     ·cases h)
 |(c, .vec te e)::r,⟨t,x⟩::ls,os,h=>by
  cases t<;>simp only[bdO]at h<;>first
   |(cases h;done)
   |(split at h
     ·split at h
      ·rename_i os' h2
       simp at h;subst h
       simp[dp h2]
      ·cases h
     ·cases h)
 |(c, .dvec te e true)::r,[],os,h=>by simp[bdO]at h
 |(c, .dvec te e false)::r,[],os,h=>by simp[bdO]at h
 |(c, .dvec te e true)::r,⟨t,x⟩::ls,os,h=>by
  cases t<;>first
   |(simp[bdO]at h;done)
   |(rename_i t2;cases t2<;>first
    |(simp[bdO]at h;done)
    |(simp only[bdO]at h
      split at h
      ·split at h
       ·rename_i os' h2
        simp at h;subst h
        simp[dp h2]
       ·cases h
      ·cases h))
 |(c, .dvec te e false)::r,⟨t,x⟩::ls,os,h=>by
  cases t<;>simp only[bdO]at h<;>first
   |(cases h;done)
   |(split at h
     ·split at h
      ·rename_i os' h2
       simp at h;subst h
       simp[dp h2]
      ·cases h
     ·cases h)
 |(c, .que te e)::r,[],os,h=>by simp[bdO]at h
 |(c, .que te e)::r,⟨t,x⟩::ls,os,h=>by
  cases t<;>simp only[bdO]at h<;>first
   |(cases h;done)
   |(split at h
     ·split at h
      ·rename_i os' h2
       simp at h;subst h
       simp[dp h2]
      ·cases h
     ·cases h)
 |(c, .bar m e)::r,[],os,h=>by simp[bdO]at h
 |(c, .bar m e)::r,⟨t,x⟩::ls,os,h=>by
  cases t<;>simp only[bdO]at h<;>first
   |(cases h;done)
   |(split at h
     ·split at h
      ·rename_i os' h2
       simp at h;subst h
       simp[dp h2]
      ·cases h
     ·cases h)
 |(c, .maps te tk tv)::r,[],os,h=>by simp[bdO]at h
 |(c, .maps te tk tv)::r,⟨t,x⟩::ls,os,h=>by
  cases t<;>first
   |(simp[bdO]at h;done)
   |(rename_i t2;cases t2<;>first
    |(simp[bdO]at h;done)
    |(rename_i t3;cases t3<;>first
     |(simp[bdO]at h;done)
     |(simp only[bdO]at h
       split at h
       ·split at h
        ·rename_i os' h2
         simp at h;subst h
         simp[dp h2]
        ·cases h
       ·cases h)))
 |(c, .iter)::r,[],os,h=>by simp[bdO]at h
 |(c, .iter)::r,[⟨t,x⟩],os,h=>by
  cases t<;>simp[bdO]at h
 |(c, .iter)::r,⟨t,x⟩::⟨t2,x2⟩::ls,os,h=>by
  cases t<;>first
   |(simp[bdO]at h;done)
   |(cases t2<;>first
    |(simp[bdO]at h;done)
    |(rename_i ki;cases ki<;>first
     |(simp[bdO]at h;done)
     |(simp only[bdO]at h
       split at h
       ·rename_i os' h2
        simp at h;subst h
        simp[dp h2]
       ·cases h)))
 |(c, .miter cm k v)::r,[],os,h=>by simp[bdO]at h
 |(c, .miter cm k v)::r,[⟨t,x⟩],os,h=>by
  cases t<;>simp[bdO]at h
 |(c, .miter cm k v)::r,⟨t,x⟩::⟨t2,x2⟩::ls,os,h=>by
  cases t<;>first
   |(simp[bdO]at h;done)
   |(cases t2<;>first
    |(simp[bdO]at h;done)
    |(simp only[bdO]at h
      split at h
      ·split at h
       ·rename_i os' h2
        simp at h;subst h
        simp[dp h2]
       ·cases h
      ·cases h))
 |(c, .map tk tv)::r,[],os,h=>by simp[bdO]at h
 |(c, .map tk tv)::r,⟨t,x⟩::ls,os,h=>by
  cases t<;>simp only[bdO]at h<;>first
   |(cases h;done)
   |(split at h
     ·split at h
      ·rename_i os' h2
       simp at h;subst h
       simp[dp h2]
      ·cases h
     ·cases h)
theorem tJ(c:Cut V.ι)(ls:List (dB V.N))(h:d7 (c.objs.map (·.1))=true):d7 ((build V c ls).own.map (·.1))=true:=by
 unfold build
 split
 ·split
  ·rename_i os ho
   simp only
   rw[dp ho];exact h
  ·rfl
 ·rfl
theorem lW{ω:Nat->Nat}:∀{os:List (Nat×TO V.N)} {n:Nat} {x:TO V.N} {o:Own},gt os n=some x->bS V ω x=some o->gt (fj ω os) n=some o
 |[],n,x,o,h,_=>by simp[gt]at h
 |(k,y)::r,n,x,o,h,ho=>by
  rw[aE]at h
  unfold fj
  rw[R5]
  by_cases hk:k=n
  ·rw[TP hk]at h;cases h
   simp only[ho,QG,aE]
   rw[TP hk]
  ·rw[TN hk]at h
   have ih:=lW (ω:=ω) h ho
   unfold fj at ih
   cases hy:bS V ω y with
   |none=>simp only[hy,Sf];exact ih
   |some z=>
    simp only[hy,QG,aE]
    rw[TN hk];exact ih
theorem C_{X:Xc V}{sig:Sig V}(hsh:X.sh.rcut=sig.rcut){fid:FuncId}{fn:Func}{c:Code}(hf:X.P.funcs[fid]?=some fn)(hb:fn.body=some c)(hn:fn.ntmps=X.n)(hrs:fn.results.toList=sig.rvars)
 (hname:(fn.name != "runtime.NumGoroutine")=true)(hlen:Se sig.params.length X.n=true)(hm:X.P.follows .mixedOrders=true)(hcall:bO X.P X.call)
 (hdr:d7 (sig.rcut.objs.map (·.1))=true)(hl:∀C:Ctx,C.P=X.P->C.N=X.n/\Fx C X.pre->LOk C X c){v:HL V.N sig.tys}{r:HL V.N sig.rcut.tys}(h:exF X sig hsh c v=some r):
 ∀x,Gy X.P sig r=some x->
  lS X.P fid (encL V (cX sig v).len (ek sig v).1) (fj (cX sig v).len (cX sig v).own) (aK V (f_ V sig.rcut r).len x) (fj (f_ V sig.rcut r).len (qy sig r)):=by
 obtain⟨params,objs,rcut,rvars,keep⟩:=sig
 simp only at hsh
 subst hsh
 intro x hx
 have hargs:(ek ⟨params,objs,X.sh.rcut,rvars,keep⟩ v).1.length<=X.n:=by
  have hp:params.length<=X.n:=R8 hlen
  unfold ek
  split
  ·rename_i xs ls h1
   split
   ·simp only;rw[yV h1];exact hp
   ·simp
  ·simp
 refine xf hf hb hname (by rw[a_,hn];exact hargs) λC hP hN=> ?_
 have hent:Ent ⟨j5 0 (encL V (cX ⟨params,objs,X.sh.rcut,rvars,keep⟩ v).len (ek ⟨params,objs,X.sh.rcut,rvars,keep⟩ v).1),s5 (fj (cX ⟨params,objs,X.sh.rcut,rvars,keep⟩ v).len (cX ⟨params,objs,X.sh.rcut,rvars,keep⟩ v).own)⟩
  (aV V (cX ⟨params,objs,X.sh.rcut,rvars,keep⟩ v)):=by
  refine Ent.le (λt y hy=>⟨y,?_,H.le.refl _⟩) λn o ho=>⟨o,?_,OLe.refl _⟩
  ·rw[ov];exact hy
  ·rw[aZ,RF]at ho
   obtain⟨o',ho',hoo⟩:=ho
   have:=lW (os:=(cX ⟨params,objs,X.sh.rcut,rvars,keep⟩ v).own) ho' hoo
   unfold aA.own?
   rw[gc]
   exact this
 have hend:∀e σ,(e= .normal\/e= .ret)->Ent σ (aV V (f_ V X.sh.rcut r))->
  FW X.P fn.results.toList (aK V (f_ V X.sh.rcut r).len x) (fj (f_ V X.sh.rcut r).len (qy ⟨params,objs,X.sh.rcut,rvars,keep⟩ r)) e σ:=by
  intro e σ he hσ
  unfold Gy at hx
  rw[Qr]at hx
  obtain⟨vs,hvs,hone⟩:=hx
  obtain⟨hs,g1,g2,g3⟩:=pD hvs
  have hh:∃y,Kt X.P (aV V (f_ V X.sh.rcut r)) fn.results.toList=some y/\H.le y (aK V (f_ V X.sh.rcut r).len x):=by
   rw[hrs]
   unfold Kt
   rw[g1]
   cases vs with
   |nil=>
    have:hs=[]:=QE (by simpa using g2)
    subst this;subst hone
    exact⟨.tup [],rfl,by simp only[Me,aK,encL];exact H.le.refl _⟩
   |cons a l=>
    cases l with
    |nil=>
     cases hs with
     |nil=>simp at g2
     |cons y l'=>
      have:l'=[]:=QE (by simpa using g2)
      subst this;subst hone
      obtain⟨z,z1,z2⟩:=g3 0 a rfl
      simp at z1;subst z1
      exact⟨y,rfl,z2⟩
    |cons b l=>
     cases hs with
     |nil=>simp at g2
     |cons y l'=>
      cases l' with
      |nil=>simp at g2
      |cons y2 l2=>
       subst hone
       refine⟨.tup (y::y2::l2),rfl,?_⟩
       simp only[Me,aK]
       refine Cr (by rw[a_];exact g2) λi w hw=> ?_
       rw[aO,Qh,Qr]at hw
       obtain⟨u,hu,rfl⟩:=hw
       exact g3 i u hu
  obtain⟨y,hy1,hy2⟩:=hh
  refine⟨he,_,hσ,y,hy1,hy2,λn o ho=> ?_⟩
  obtain⟨o',h1,h2⟩:=eM ho
  have h1:(n,o')∈(f_ V X.sh.rcut r).own:=(Te.1 h1).1
  have:=nh (tJ X.sh.rcut _ hdr) h1
  rw[aZ]
  unfold TS.own?
  unfold f_ at *
  rw[this]
  exact h2
 refine .ent hent (vB hP ⟨by rw[hN.1,hn],λp hp=>(by rw[hN.2]at hp;cases hp)⟩ hm hcall c _ _ _ _ _ r _ (hl C hP ⟨by rw[hN.1,hn],λp hp=>(by rw[hN.2]at hp;cases hp)⟩) h ⟨λS σ hk he=> ?_,λid S σ _ hk he=>(by cases hk),λl S σ hk he=>(by cases hk),λw σ hk he=> ?_⟩)
 ·exact hend _ σ (.inl rfl) (Ent.trans he (eI hk))
 ·have:w=r:=by simpa using hk
  subst this
  exact hend _ σ (.inr rfl) he
end
end Go.Tx
end
